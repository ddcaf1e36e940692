/- A part of the proof: the framework, the plain functions, the followed functions, the plain laws. -/
import Derived.Test.YtfoldppidpmchaaGreatPSC1
set_option linter.unusedVariables false
set_option linter.unusedSimpArgs false
set_option linter.unusedSectionVars false
namespace Go.Fw
section
open Go.RowKit
def cm{J R:Type}(k:J->Option R)(f:(J->Option R)->Option R):Option R:=f k
theorem bind_some{α β:Type}{x:Option α}{f:α->Option β}{r:β}(h:Option.bind x f=some r):∃a,x=some a/\f a=some r:=by
 cases x with
 |none=>cases h
 |some a=>exact⟨a,Y,h⟩
theorem sk{b w:Bool}(h:(b==w)=false):b≠w:=by cases b<;>cases w<;>simp_all
def cY{α:Type}(l:List α)(i:Int):Option α:=if 0<=i then l[i.toNat]? else none
def tB{α:Type}(l:List α)(i:Int):Option Nat:=if 0<=i/\i<l.length then some i.toNat else none
def yD{α:Type}(l:List α)(lo hi:Int):Option (List α):=if 0<=lo/\lo<=hi/\hi<=l.length then some (cut l lo.toNat hi.toNat)else none
def sX{α:Type}(by_:Nat)(l k:List α):Option (List α):=if(l.length+k.length)*by_<=140737488355328/\l.length+k.length<=140737488355328 then some (l++k)else none
def Ce{α:Type}(by_:Nat)(c:Int)(z:α):Option (List α):=if 0<=c/\by_*c<=281474976710656/\c<=140737488355328 then some (List.replicate c.toNat z)else none
def OU{α:Type}(by_:Nat)(c:Int):Option (List α):=if 0<=c/\by_*c<=281474976710656/\c<=140737488355328 then some []else none
def stM{α:Type}(l:List α)(n:Nat)(y:α):Option (List α):=if n<l.length then some (l.set n y)else none
def qB(a b:Int):Option Int:=if b=0 then none else some (IntKind.i64.wrap (a.tdiv b))
def Bv(a b:Int):Option Int:=if b=0 then none else some (a.tmod b)
def Db(M a b:Nat):Option Nat:=if b=0 then none else some (a/b%M)
def Bw(a b:Nat):Option Nat:=if b=0 then none else some (a%b)
def nj(M a b:Nat):Nat:=(((a:Int)-b)%M).toNat
theorem wI{α:Type}{l:List α}{i:Int}{a:α}(h:cY l i=some a):0<=i/\l[i.toNat]? =some a:=by
 unfold cY at h;split at h
 ·exact⟨by assumption,h⟩
 cases h
theorem Lu{α:Type}{l:List α}{i:Int}{k:Nat}(h:tB l i=some k):0<=i/\i<l.length/\i.toNat=k:=by
 unfold tB at h;split at h
 ·rename_i hh;exact⟨hh.1,hh.2,Option.some.inj h⟩
 cases h
theorem JS{α:Type}{l l':List α}{a b:Int}(h:yD l a b=some l'):0<=a/\a<=b/\b<=l.length/\cut l a.toNat b.toNat=l':=by
 unfold yD at h;split at h
 ·rename_i hh;exact⟨hh.1,hh.2.1,hh.2.2,Option.some.inj h⟩
 cases h
theorem uX{α:Type}{by_:Nat}{l k l':List α}(h:sX by_ l k=some l'):(l.length+k.length)*by_<=140737488355328/\l.length+k.length<=140737488355328/\l++k=l':=by
 unfold sX at h;split at h
 ·rename_i hh;exact⟨hh.1,hh.2,Option.some.inj h⟩
 cases h
theorem Lw{α:Type}{by_:Nat}{c:Int}{z:α}{l':List α}(h:Ce by_ c z=some l'):0<=c/\by_*c<=281474976710656/\c<=140737488355328/\List.replicate c.toNat z=l':=by
 unfold Ce at h;split at h
 ·rename_i hh;exact⟨hh.1,hh.2.1,hh.2.2,Option.some.inj h⟩
 cases h
theorem Lx{α:Type}{by_:Nat}{c:Int}{l':List α}(h:OU by_ c=some l'):0<=c/\by_*c<=281474976710656/\c<=140737488355328/\[]=l':=by
 unfold OU at h;split at h
 ·rename_i hh;exact⟨hh.1,hh.2.1,hh.2.2,Option.some.inj h⟩
 cases h
theorem EN{α:Type}{l l':List α}{n:Nat}{y:α}(h:stM l n y=some l'):n<l.length/\l.set n y=l':=by
 unfold stM at h;split at h
 ·rename_i hh;exact⟨hh,Option.some.inj h⟩
 cases h
def mF{S E:Type}(body:S->Option (S⊕E)):Nat->S->Option E
 |0,_=>none
 |n+1,s=>match body s with
  |some (.inl s')=>mF body n s'
  |some (.inr e)=>some e
  |none=>none
theorem tZ{S E:Type}{body:S->Option (S⊕E)}:∀{n m:Nat} {s:S} {e:E},n<=m->mF body n s=some e->mF body m s=some e
 |0,_,_,_,_,h=>by cases h
 |n+1,0,_,_,hm,_=>by omega
 |n+1,m+1,s,e,hm,h=>by
  unfold mF at h⊢;cases hb:body s with
  |none=>rw[hb]at h;cases h
  |some y=>
   rw[hb]at h;cases y with
   |inl s'=>exact tZ (by omega) h
   |inr e'=>exact h
open Classical in
noncomputable def b8{S E:Type}(body:S->Option (S⊕E))(s:S):Option E:=if h:∃n e,mF body n s=some e then some (Classical.choose (Classical.choose_spec h))else none
theorem ua{S E:Type}{body:S->Option (S⊕E)}{s:S}{e:E}(h:b8 body s=some e):∃n,mF body n s=some e:=by
 unfold b8 at h;split at h
 ·rename_i hh;exact⟨_,by rw[<-Option.some.inj h];exact Classical.choose_spec (Classical.choose_spec hh)⟩
 cases h
theorem zP{S E:Type}{body:S->Option (S⊕E)}{s:S}{e:E}{n:Nat}(h:mF body n s=some e):b8 body s=some e:=by
 have hh:∃n e,mF body n s=some e:=⟨n,e,h⟩;unfold b8;rw[dif_pos hh];have h2:=Classical.choose_spec (Classical.choose_spec hh);have h3:=tZ (Nat.le_max_left n (Classical.choose hh)) h;have h4:=tZ (Nat.le_max_right n (Classical.choose hh)) h2;rw[h3]at h4;exact h4.symm
theorem uc{S E:Type}{body:S->Option (S⊕E)}{s:S}{e:E}(h:body s=some (.inr e)):b8 body s=some e:=zP (n:=1) (by simp[mF,h])
theorem zQ{S E:Type}{body:S->Option (S⊕E)}{s s':S}(h:body s=some (.inl s')):b8 body s=b8 body s':=by
 cases hl:b8 body s' with
 |some e=>obtain⟨n,hn⟩:=ua hl;exact zP (n:=n+1) (by simp[mF,h,hn])
 |none=>
  cases hl2:b8 body s with
  |none=>rfl
  |some e=>
   obtain⟨n,hn⟩:=ua hl2;cases n with
   |zero=>cases hn
   |succ n=>simp only[mF,h]at hn;rw[zP hn]at hl;cases hl
theorem wJ{S E:Type}{body:S->Option (S⊕E)}(I:S->Prop)(Post:E->Prop)(μ:S->Nat)
  (step:∀s,I s->(∃s',body s=some (.inl s')/\I s'/\μ s'<μ s)\/(∃e,body s=some (.inr e)/\Post e)) {s:S} (h:I s):∃e,b8 body s=some e/\Post e:=by
 have key:∀(n:Nat) (s:S),μ s<=n->I s->∃e,b8 body s=some e/\Post e:=by
  intro n
  induction n with
  |zero=>
   intro s hn hs;rcases step s hs with⟨s',_,_,h3⟩|⟨e,h1,h2⟩
   ·omega
   exact⟨e,uc h1,h2⟩
  |succ n ih=>
   intro s hn hs;rcases step s hs with⟨s',h1,h2,h3⟩|⟨e,h1,h2⟩
   ·obtain⟨e,q1,q2⟩:=ih s' (by omega) h2;exact⟨e,by rw[zQ h1];exact q1,q2⟩
   exact⟨e,uc h1,h2⟩
 exact key _ s (Nat.le_refl _) h
theorem Ly{S E:Type}{body:S->Option (S⊕E)}(st:Nat->S)(n:Nat){e:E}(hs:∀k,k<n->body (st k)=some (.inl (st (k+1))))(he:body (st n)=some (.inr e)):b8 body (st 0)=some e:=by
 have key:∀k,k<=n->b8 body (st (n-k))=some e:=by
  intro k
  induction k with
  |zero=>intro _;exact uc he
  |succ k ih=>
   intro hk;rw[zQ (hs (n-(k+1)) (by omega)),show n-(k+1)+1=n-k by omega];exact ih (by omega)
 have:=key n (Nat.le_refl _);rwa[Nat.sub_self]at this
theorem o9{p q:Int}{c:Bool}(h:decide (p=q)=c):(p==q)=c:=by rw[<-h];exact Bool.beq_eq_decide_eq p q
theorem yV{p q:Int}{c:Bool}(h:decide (p≠q)=c):(p != q)=c:=by rw[<-h,bne,Bool.beq_eq_decide_eq p q];simp
theorem eqN{p q:Nat}{c:Bool}(h:decide (p=q)=c):((p:Int)==(q:Int))=c:=o9 (by rw[<-h];simp[Int.natCast_inj])
theorem Yu{p q:Nat}{c:Bool}(h:decide (p≠q)=c):((p:Int) != (q:Int))=c:=yV (by rw[<-h];simp[Int.natCast_inj])
theorem Yv{p q:Nat}{c:Bool}(h:decide (p<q)=c):decide ((p:Int)<(q:Int))=c:=by rw[<-h];simp
theorem leN{p q:Nat}{c:Bool}(h:decide (p<=q)=c):decide ((p:Int)<=(q:Int))=c:=by rw[<-h];simp
theorem OV{p q c:Int}(h:max p q=c):(if q>p then q else p)=c:=by rw[<-h];split<;>omega
theorem OW{p q c:Int}(h:min p q=c):(if q<p then q else p)=c:=by rw[<-h];split<;>omega
class UK (k:IntKind) (b:outParam Nat) (M:outParam Nat):Prop where
 w:∀x:Int,k.wrap x=x%M
 hb:k.bits=b
 hm:2^b=M
instance:UK .u8 8 256:=⟨λx=>by simp[IntKind.wrap,IntKind.signed,IntKind.bits],rfl,by decide⟩
instance:UK .u32 32 4294967296:=⟨λx=>by simp[IntKind.wrap,IntKind.signed,IntKind.bits],rfl,by decide⟩
instance:UK .u64 64 18446744073709551616:=⟨λx=>by simp[IntKind.wrap,IntKind.signed,IntKind.bits],rfl,by decide⟩
section uk
variable {k:IntKind}{bi M a b c:Nat}[u:UK k bi M]
include u
theorem UK.pos:0<M:=by rw[<-u.hm];exact Nat.two_pow_pos _
theorem UK.nat(h:a%M=c):k.wrap (a:Int)=(c:Int):=by rw[u.w,<-h,Int.natCast_emod]
theorem UK.add(h:(a+b)%M=c):k.wrap ((a:Int)+(b:Int))=(c:Int):=by rw[<-Int.natCast_add];exact UK.nat h
theorem UK.mul(h:(a*b)%M=c):k.wrap ((a:Int)*(b:Int))=(c:Int):=by rw[<-Int.natCast_mul];exact UK.nat h
theorem UK.sub(h:nj M a b=c):k.wrap ((a:Int)-(b:Int))=(c:Int):=by
 rw[u.w,<-h,nj,Int.toNat_of_nonneg];exact Int.emod_nonneg _ (by have:=UK.pos (k:=k) (bi:=bi) (M:=M);omega)
theorem UK.neg(h:nj M 0 a=c):k.wrap (0-(a:Int))=(c:Int):=UK.sub h
theorem UK.conv{p:Int}(h:(p%M).toNat=c):k.wrap p=(c:Int):=by
 rw[u.w,<-h,Int.toNat_of_nonneg];exact Int.emod_nonneg _ (by have:=UK.pos (k:=k) (bi:=bi) (M:=M);omega)
theorem UK.quo(h:Db M a b=some c):k.wrap ((a:Int).tdiv (b:Int))=(c:Int):=by
 unfold Db at h;split at h
 ·cases h
 rw[Int.tdiv_eq_ediv_of_nonneg (by omega),<-Int.natCast_ediv];exact UK.nat (Option.some.inj h)
theorem UK.V4(h:a/b%M=c):k.wrap ((a:Int).tdiv (b:Int))=(c:Int):=by
 rw[Int.tdiv_eq_ediv_of_nonneg (by omega),<-Int.natCast_ediv];exact UK.nat h
theorem UK.shl{q:Int}{s:Nat}(hs:min q.toNat k.bits=s)(h:a*2^s%M=c):k.wrap ((a:Int)*2^(min q.toNat k.bits))=(c:Int):=by
 rw[hs,show(a:Int)*2^s=((a*2^s:Nat):Int) by rw[Int.natCast_mul,Int.natCast_pow];rfl];exact UK.nat h
theorem UK.ofInt(a:Nat):(BitVec.ofInt k.bits (a:Int)).toNat=a%M:=by
 rw[BitVec.ofInt_natCast,BitVec.toNat_ofNat,u.hb,u.hm]
theorem UK.or(h:(a ||| b)%M=c):k.wrap ((BitVec.ofInt k.bits (a:Int) ||| BitVec.ofInt k.bits (b:Int)).toNat)=(c:Int):=by
 rw[BitVec.toNat_or,UK.ofInt,UK.ofInt,<-u.hm,<-Nat.or_mod_two_pow,u.hm,h,UK.nat (a:=c) (c:=c)];rw[<-h,Nat.mod_mod]
end uk
theorem Dc{k:IntKind}{a c s:Nat}{q:Int}(hs:min q.toNat k.bits=s)(h:a/2^s=c):(a:Int).fdiv (2^(min q.toNat k.bits))=(c:Int):=by
 rw[hs,Int.fdiv_eq_ediv_of_nonneg _ (Int.le_of_lt (Int.pow_pos (by decide))),<-h,Int.natCast_ediv,Int.natCast_pow];rfl
theorem OX{a b c:Nat}(h:Bw a b=some c):(a:Int).tmod (b:Int)=(c:Int):=by
 unfold Bw at h;split at h
 ·cases h
 rw[Int.tmod_eq_emod_of_nonneg (by omega),<-Option.some.inj h];rfl
theorem Q1{a b c:Nat}(h:a%b=c):(a:Int).tmod (b:Int)=(c:Int):=by
 rw[Int.tmod_eq_emod_of_nonneg (by omega),<-h];rfl
theorem nzU{M a b c:Nat}(h:Db M a b=some c):(b:Int)≠0:=by
 unfold Db at h;split at h
 ·cases h
 omega
theorem Yw{a b c:Nat}(h:Bw a b=some c):(b:Int)≠0:=by
 unfold Bw at h;split at h
 ·cases h
 omega
theorem V5{a b c:Int}(h:qB a b=some c):b≠0:=by unfold qB at h;split at h<;>simp_all
theorem S4{a b c:Int}(h:Bv a b=some c):b≠0:=by unfold Bv at h;split at h<;>simp_all
theorem Lz{a b c:Int}(h:qB a b=some c):IntKind.i64.wrap (a.tdiv b)=c:=by
 unfold qB at h;split at h
 ·cases h
 exact Option.some.inj h
theorem S5{a b c:Int}(h:Bv a b=some c):a.tmod b=c:=by
 unfold Bv at h;split at h
 ·cases h
 exact Option.some.inj h
abbrev aX(x:Nat):List SV:=[.v (.int .u32 (x:Nat))]
abbrev aal(x:Int):List SV:=[.v (.int .i16 x)]
abbrev bL(x:Int):List SV:=[.v (.int .i64 x)]
abbrev eB(x:Bool):List SV:=[.v (.bool x)]
abbrev eS{α:Type}(n:Nat)(e:α->List SV)(l:List α):List SV:=[slc n (l.map e)]
structure Zr where
 neg:Bool
 w:List Nat
structure Qr where
 num:Zr
 den:Zr
abbrev eZ(z:Zr):List SV:=[.v (.bool z.neg),slc 1 (z.w.map aX)]
abbrev eQ(q:Qr):List SV:=[.v (.bool q.num.neg),slc 1 (q.num.w.map aX),.v (.bool q.den.neg),slc 1 (q.den.w.map aX)]
class EL {α:Type} (e:α->List SV) (n:outParam Nat):Prop where
 len:∀x,(e x).length=n
 one:∀x,tR (e x)
instance:EL aX 1:=⟨λ_=>rfl,λ_=>inferInstance⟩
instance:EL bL 1:=⟨λ_=>rfl,λ_=>inferInstance⟩
instance{α:Type}{n:Nat}{e:α->List SV}:EL (eS n e) 1:=⟨λ_=>rfl,λ_=>inferInstance⟩
instance:EL eQ 4:=⟨λ_=>rfl,λ_=>inferInstance⟩
structure Lr where
 vars:Int
 ud:List (List Qr)
 rows:List (List Qr)
 bounds:List Qr
abbrev zR(x:Lr):List SV:=[.v (.int .i64 x.vars),slc 1 (x.ud.map (eS 4 eQ)),slc 1 (x.rows.map (eS 4 eQ)),slc 4 (x.bounds.map eQ)]
structure Sz where
 vars:Int
 ud:Int
 rows:Int
 bounds:Int
abbrev eSz(x:Sz):List SV:=[.v (.int .i64 x.vars),.v (.int .i64 x.ud),.v (.int .i64 x.rows),.v (.int .i64 x.bounds)]
structure Cn where
 row:List Qr
 most:Qr
abbrev Q2(x:Cn):List SV:=[slc 4 (x.row.map eQ),.v (.bool x.most.num.neg),slc 1 (x.most.num.w.map aX),.v (.bool x.most.den.neg),slc 1 (x.most.den.w.map aX)]
abbrev TR(E:TypeId)(sz:Nat){α:Type}(e:α->List SV)(l:List α):Row:=⟨E,sz,l.length,l.flatMap e⟩
theorem aB{α:Type}{n:Nat}{e:α->List SV}:SV.imp (.v (.slice none 0 0)) (slc n (([]:List α).map e)):=λ_ _ h=>.inl ⟨none,h,Y⟩
theorem uY{α:Type}(e:α->List SV)(l:List α):(l.map e).flatten=l.flatMap e:=by rw[List.flatMap_def]
theorem EO{α:Type}{e:α->List SV}{n:Nat}[h:EL e n](l:List α):Rows n (l.map e) (l.flatMap e):=⟨uY e l,λr hr=>by obtain⟨x,_,rfl⟩:=List.mem_map.1 hr;exact h.len x⟩
theorem Cf{M:Mem}:∀{l k:List SV} {vs:List Value},SV.eK M (l++k) vs->∃us ws,vs=us++ws/\SV.eK M l us/\SV.eK M k ws
 |[],_,vs,h=>⟨[],vs,Y,aq,h⟩
 |_::_,_,[],h=>h.elim
 |_::l,_,v::vs,h=>by
  obtain⟨us,ws,rfl,h1,h2⟩:=Cf (l:=l) h.2;exact⟨v::us,ws,Y,⟨h.1,h1⟩,h2⟩
theorem Cg{α:Type}{e:α->List SV}{n:Nat}[h:EL e n](l:List α):∀M vs,SV.eK M (l.flatMap e) vs->∀v∈vs,v.oneCell'=true:=by
 intro M
 induction l with
 |nil=>intro vs hv;cases vs with|nil=>simp|cons _ _=>exact hv.elim
 |cons x l ih=>
  intro vs hv;rw[List.flatMap_cons]at hv;obtain⟨us,ws,rfl,h1,h2⟩:=Cf hv;intro v hv;rcases List.mem_append.1 hv with hv|hv
  ·exact(h.one x).h M us h1 v hv
  exact ih ws h2 v hv
theorem EP{α:Type}{e:α->List SV}{n:Nat}[h:EL e n]:∀{l:List α} {k:Nat} {a:α},l[k]? =some a->((l.flatMap e).drop (k*n)).take n=e a
 |[],_,_,hh=>by simp at hh
 |x::l,0,a,hh=>by
  simp only[List.getElem?_cons_zero,Option.some.injEq]at hh;subst hh;rw[List.flatMap_cons,Nat.zero_mul,List.drop_zero,<-h.len x,List.take_left'];rfl
 |x::l,k+1,a,hh=>by
  rw[List.getElem?_cons_succ]at hh;rw[List.flatMap_cons,show(k+1)*n=(e x).length+k*n by rw[h.len,Nat.add_mul];omega,<-List.drop_drop,List.drop_left']
  ·exact EP hh
  rfl
theorem ER{α:Type}{e:α->List SV}{n:Nat}[h:EL e n]{y:α}:∀{l:List α} {k:Nat},k<l.length->kQ (l.flatMap e) (k*n) (e y)=(l.set k y).flatMap e:=by
 have aam:∀(u:List SV) (a b:List SV) (j:Nat),j+u.length<=a.length->kQ (a++b) j u=kQ a j u++b:=by
  intro u
  induction u with
  |nil=>intro a b j _;rfl
  |cons s u ih=>
   intro a b j hj;simp only[List.length_cons]at hj;simp only[kQ];rw[List.set_append_left _ _ (by omega),ih _ _ _ (by rw[List.length_set];omega)]
 have aan:∀(u:List SV) (a b:List SV) (j:Nat),kQ (a++b) (a.length+j) u=a++kQ b j u:=by
  intro u
  induction u with
  |nil=>intro a b j;rfl
  |cons s u ih=>
   intro a b j;simp only[kQ];rw[List.set_append_right _ _ (by omega),show a.length+j-a.length=j by omega,show a.length+j+1=a.length+(j+1) by omega,ih]
 have aao:∀(u a:List SV),u.length=a.length->kQ a 0 u=u:=by
  have gen:∀(u a p:List SV),u.length=a.length->kQ (p++a) p.length u=p++u:=by
   intro u
   induction u with
   |nil=>intro a p ha;have:a=[]:=List.eq_nil_of_length_eq_zero ha.symm;subst this;rfl
   |cons s u ih=>
    intro a p ha;cases a with
    |nil=>cases ha
    |cons t a=>
     simp only[kQ];rw[List.set_append_right _ _ (Nat.le_refl _),Nat.sub_self,List.set_cons_zero,show p++s::a=(p++[s])++a by simp,show p.length+1=(p++[s]).length by simp,ih a _ (by simpa using ha)];simp
  intro u a ha;exact gen u a [] ha
 intro l
 induction l with
 |nil=>intro k hk;simp at hk
 |cons x l ih=>
  intro k hk;cases k with
  |zero=>
   rw[List.set_cons_zero,List.flatMap_cons,List.flatMap_cons,Nat.zero_mul,aam _ _ _ _ (by rw[h.len,h.len];omega),aao _ _ (by rw[h.len,h.len])]
  |succ k=>
   simp only[List.length_cons]at hk;rw[List.set_cons_succ,List.flatMap_cons,List.flatMap_cons,show(k+1)*n=(e x).length+k*n by rw[h.len,Nat.add_mul];omega,aan,ih (by omega)]
end
section
open Go.RowKit
section steps
variable {P:Program}{C:Ctx}{ops:Array Oper}{S:AS}{nd:Bool}{K:List Ac->AS->Prop}{rest:List Oper}{acc:List Ac}
variable {gd:Option (Nat×Bool)}{rg:List Nat}{d:Nat}{ty:TypeId}{pos:String}{aft:Array Edge}{x y z:Operand}{T U E0:TypeId}
variable {α:Type}{l l' k:List α}{e:α->List SV}{n by_:Nat}{zv:Value}
theorem RT.aap(hg:Gd ops S gd rg){s X:SV}(hx:S.ev x=.sv s)(hi:SV.imp s X)(hd:d<S.n)
  (next:RunT P C ops nd K rest (⟨rg++bg x,[],[],⟨some (d,.sv X),[],[]⟩⟩::acc) (S.set d (.sv X))):RunT P C ops nd K (⟨some d,.assign x,ty,pos,aft,gd⟩::rest) acc S:=
 RT.value hg (bg x) [] [] (.sv X) hd (by intro c h;cases h) (λS' ht _ _ E a w h=>by
  have hx':S'.ev x=.sv s:=by rw[bA (λ_ h=>h) ht,hx]
  exact⟨a.eval x,Y,by have:=h.ev x;rw[hx']at this;exact hi _ _ this,gw⟩) next
theorem JU{E:Env}:∀{l l':List SV} {vs:List Value},eP l l'->SV.eK E.M l vs->dw E (l'.map AV.sv) vs:=λhi h=>dw.xx (hi.holds h)
theorem Dd(M:Mem):∀l:List Value,SV.eK M (l.map SV.v) l
 |[]=>trivial
 |_::l=>⟨Y,Dd M l⟩
theorem RT.pK(hg:Gd ops S gd rg)[tz:gJ P T zv]{cs:List SV}(hi:eP (zv.cells.toList.map SV.v) cs){av:List AV}(hav:cs.map AV.sv=av)(hd:d<S.n)(hb:S.b d=none)(hp:C.jr d=none)
  (next:RunT P C ops nd K rest (⟨rg++[],[d],[],⟨some (d,.ptr d 0),[(d,⟨T,av⟩)],[]⟩⟩::acc) ((S.kP d ⟨T,av⟩).set d (.ptr d 0))):RunT P C ops nd K (⟨some d,.alloc T,ty,pos,aft,gd⟩::rest) acc S:=by
 subst hav;exact RT.Io hg (by intro c h;cases h) [] hd hb hp (λS' _ E a w h=>⟨zv.cells.toList,by simp[execOp,Instr.alloc,newVar,newRow,tz.run],JU hi (Dd _ _),λy hy=>by
  obtain⟨s,_,rfl⟩:=List.mem_map.1 hy;exact gw⟩) next
theorem RT.S6(hg:Gd ops S gd rg){pl:List (Nat×Nat)}{zc:List Value}[tP:iq P T pl zc]{parts:Array (Nat×Operand)}{qs:List (Nat×List SV)}(hp:kX S parts.toList qs){cs cs':List SV}(hf:qJ (λi=>pl[i]?) (zc.map SV.v) qs=some cs)(hi:eP cs cs')(hd:d<S.n)
  (next:RunT P C ops nd K rest (⟨rg++gK parts.toList,[],[],⟨some (d,.sv (.agg cs')),[],[]⟩⟩::acc) (S.set d (.sv (.agg cs')))):RunT P C ops nd K (⟨some d,.build T parts,ty,pos,aft,gd⟩::rest) acc S:=by
 refine RT.value hg (gK parts.toList) [] [] (.sv (.agg cs')) hd (by intro c h;cases h) (λS' ht _ _ E a w h=>?_) next
 have hu:=tP.h;cases hT:P.underlying T with
 |none=>rw[hT]at hu;cases hu
 |some u=>
  rw[hT]at hu;cases u with
  |struct fs=>
   simp only at hu;have hz:(zeroValue T).run P w=.ok (.agg ⟨zc⟩) w:=gJ.run (t:=⟨tP.hz⟩) w;obtain⟨us,h1,h2,_⟩:=uT h (λi=>pl[i]?) hp ht (cells:=zc.map SV.v) (vs:=zc) (Dd _ zc) (List.all_eq_true.1 tP.o) hf;refine⟨.agg ⟨us⟩,?_,⟨us,Y,hi.holds h2⟩,gw⟩;have hm:(fs.mapM (λf=>do pure (f.offset,<-sizeOf f.type):Field->Sem (Nat×Nat))).run P w=.ok pl.toArray w:=by
    have:=nV (P:=P) (w:=w) hu;rw[<-Array.toArray_toList (xs:=fs),List.mapM_toArray];rw[Sem.run_map,this];rfl
   have h1':Instr.fill (λi=>pl.toArray[i]?) ⟨zc⟩ (parts.toList.map λp=>(p.1,a.eval p.2))=some ⟨us⟩:=by simpa using h1
   simp only[execOp,Instr.build,underlying];simp only[Sem.run_bind,hz,Result.andThen_ok,run_program,hT,Sem.run_pure,Value.cells];have hm':(Array.mapM (λf=>do
     let __do_lift<-sizeOf f.type
     pure (f.offset,__do_lift)) fs:Sem _).run P w=.ok pl.toArray w:=hm
   simp only[hm',Result.andThen_ok];have e4:(Array.map (λx=>match x with|(i,x)=>(i,a.eval x)) parts).toList=parts.toList.map λp=>(p.1,a.eval p.2):=by simp
   simp only[e4,h1',Sem.run_pure,Result.andThen_ok]
  |_=>cases hu
theorem Pure.w{f:FuncId}{args args':List SV}{r:SV}(h:Pure P f args r)(hi:eP args' args):Pure P f args' r:=λM w vs hM hv=>h M w vs hM (hi.holds hv)
theorem RT.V6(hg:Gd ops S gd rg){m:Nat}[tS:eV P T E0 m]{c:Int}(hx:S.ev x=.sv (slc n (l.map e)))(hd:d<S.n)(hc:(l.length:Int)=c)
  (next:RunT P C ops nd K rest (⟨rg++bg x,[],[],⟨some (d,.sv (.v (.int .i64 c))),[],[]⟩⟩::acc) (S.set d (.sv (.v (.int .i64 c))))):RunT P C ops nd K (⟨some d,.call ⟨.builtin .len,#[x],#[T]⟩,ty,pos,aft,gd⟩::rest) acc S:=
 RT.len hg hx hd (by rw[List.length_map,hc];exact next)
theorem RT.V7(hg:Gd ops S gd rg){m:Nat}[tS:eV P T E0 m]{i:Nat}{E1:TypeId}{c:Int}(hx:S.ev x=.row i)(hR:S.r i=.live (TR E1 n e l))(hd:d<S.n)(hc:(l.length:Int)=c)
  (next:RunT P C ops nd K rest (⟨rg++bg x,[],[i],⟨some (d,.sv (.v (.int .i64 c))),[],[]⟩⟩::acc) (S.set d (.sv (.v (.int .i64 c))))):RunT P C ops nd K (⟨some d,.call ⟨.builtin .len,#[x],#[T]⟩,ty,pos,aft,gd⟩::rest) acc S:=
 RT.ZP hg hx hR hd (by show RunT _ _ _ _ _ _ (⟨_,_,_,⟨some (d,.sv (.v (.int .i64 (l.length:Int)))),_,_⟩⟩::_) (S.set d (.sv (.v (.int .i64 (l.length:Int)))));rw[hc];exact next)
theorem RT.Q3(hg:Gd ops S gd rg)[tS:eV P T E0 n]{kk:IntKind}{i:Int}{a:α}(hx:S.ev x=.sv (slc n (l.map e)))(hy:S.ev y=.sv (.v (.int kk i)))(hd:d<S.n)(ha:cY l i=some a)
  (next:RunT P C ops nd K rest (⟨rg++(bg x++bg y),[],[],⟨some (d,.sv (ref (e a))),[],[]⟩⟩::acc) (S.set d (.sv (ref (e a))))):RunT P C ops nd K (⟨some d,.indexAddr T x y,ty,pos,aft,gd⟩::rest) acc S:=
 RT.indexAddr hg (e a) hx hy hd (wI ha).1 (by rw[List.getElem?_map,(wI ha).2];rfl) next
theorem RT.wK(hg:Gd ops S gd rg)[tS:eV P T E0 n]{lo hi:Option Operand}(a b:Int)(hx:S.ev x=.sv (slc n (l.map e)))(hlo:C4 S 0 lo a)(hhi:C4 S l.length hi b)(hd:d<S.n)(h:yD l a b=some l')
  (next:RunT P C ops nd K rest (⟨rg++(bg x++(nW lo++nW hi)),[],[],⟨some (d,.sv (slc n (l'.map e))),[],[]⟩⟩::acc) (S.set d (.sv (slc n (l'.map e))))):RunT P C ops nd K (⟨some d,.slice T x lo hi none,ty,pos,aft,gd⟩::rest) acc S:=by
 obtain⟨h0,h1,h2,h3⟩:=JS h;exact RT.slice hg hx a b hlo (by rw[List.length_map];exact hhi) hd h0 h1 (by rw[List.length_map];exact h2) _ (by rw[OK,h3]) next
theorem RT.gy(hg:Gd ops S gd rg)[tS:eV P T E0 n][tE:jx P E0 n by_ zv]{len:Nat}{parts:Array (Nat×Operand)}{qs:List (Nat×List SV)}(hp:kX S parts.toList qs)(hd:d<S.n)
  (hc:pG 0 qs=true) (hl:qs.length=len) (hsz:(qs.all λq=>Nat.beq q.2.length n)=true) (hlen:Nat.ble (len*n) 16777216=true) (Lh:(zv.cells.toList.all λv=>v.oneCell')=true) (oL:qs.map (·.2)=l.map e)
  (next:RunT P C ops nd K rest (⟨rg++gK parts.toList,[],[],⟨some (d,.sv (slc n (l.map e))),[],[]⟩⟩::acc) (S.set d (.sv (slc n (l.map e))))):RunT P C ops nd K (⟨some d,.buildSlice T len parts,ty,pos,aft,gd⟩::rest) acc S:=
 RT.buildSlice hg hp hd hc hl hsz (af hlen) (List.all_eq_true.1 Lh) oL next
theorem RT.De(hg:Gd ops S gd rg)[tS:eV P T E0 n][tE:jx P E0 n by_ zv]{len:Nat}{parts:Array (Nat×Operand)}{qs:List (Nat×List SV)}(hp:kX S parts.toList qs)(hd:d<S.n)(yB:S.r d=.un)(v7:d<1000)
  (hc:pG 0 qs=true) (hl:qs.length=len) (hsz:(qs.all λq=>Nat.beq q.2.length n)=true) (hlen:Nat.ble (len*n) 16777216=true) (Lh:(zv.cells.toList.all λv=>v.oneCell')=true) (oL:qs.map (·.2)=l.map e)
  (next:RunT P C ops nd K rest (⟨rg++gK parts.toList,[],[d],⟨some (d,.row d),[],[(d,.live (TR E0 n e l))]⟩⟩::acc) ((AS.cg [(d,.live (TR E0 n e l))] S).set d (.row d))):RunT P C ops nd K (⟨some d,.buildSlice T len parts,ty,pos,aft,gd⟩::rest) acc S:=by
 refine RT.EI hg hp hd yB v7 hc hl hsz (af hlen) (List.all_eq_true.1 Lh) (cells:=l.flatMap e) (by rw[oL,uY]) ?_;have:len=l.length:=by have h0:=congrArg List.length oL;simpa[hl]using h0
 rw[this];exact next
theorem RT.apR(hg:Gd ops S gd rg)[tS:eV P T E0 n][tE:jx P E0 n by_ zv]{i:Nat}(hx:S.ev x=.row i)(hR:S.r i=.live (TR E0 n e l))(hy:S.ev y=.sv (slc n (k.map e)))(hd:d<S.n)(yB:S.r d=.un)(v7:d<1000)(h:sX by_ l k=some l')
  (next:RunT P C ops nd K rest (⟨rg++(bg x++bg y),[],[i,d],⟨some (d,.row d),[],[(i,.dead),(d,.live (TR E0 n e l'))]⟩⟩::acc) ((AS.cg [(i,.dead),(d,.live (TR E0 n e l'))] S).set d (.row d))):RunT P C ops nd K (⟨some d,.call ⟨.builtin .append,#[x,y],#[T,T]⟩,ty,pos,aft,gd⟩::rest) acc S:=by
 obtain⟨h1,h2,rfl⟩:=uX h;exact RT.OG hg hx hR hy hd yB v7 (by simpa using h1) (by simpa using h2) _ (by simp[uY]) next
theorem RT.OY(hg:Gd ops S gd rg)[tS:eV P T E0 n][tE:jx P E0 n by_ zv][el:EL e n]{i:Nat}(hx:S.ev x=.row i)(hR:S.r i=.live (TR E0 n e l))(hy:S.ev y=.sv (slc n (k.map e)))(hd:d<S.n)(yB:S.r d=.un)(v7:d<1000)(h:sX by_ l k=some l')
  (next:RunT P C ops nd K rest (⟨rg++(bg x++bg y),[],[d,i],⟨some (d,.sv (slc n (l'.map e))),[],[(i,.dead),(d,.dead)]⟩⟩::acc) ((AS.cg [(i,.dead),(d,.dead)] S).set d (.sv (slc n (l'.map e))))):RunT P C ops nd K (⟨some d,.call ⟨.builtin .append,#[x,y],#[T,T]⟩,ty,pos,aft,gd⟩::rest) acc S:=by
 obtain⟨h1,h2,rfl⟩:=uX h;have hf:l.flatMap e++(k.map e).flatten=(l++k).flatMap e:=by simp[uY]
 exact RT.OT hg (.row hx hR) hy hd yB v7 (by simpa using h1) (by simpa using h2) _ (rows':=(l++k).map e) (λ_ _ h _=>h) (by rw[hf];exact EO _) (by simp) (by rw[hf];exact Cg _) next
theorem Ch(zc:Array Value)(n:Nat)(hz:zc.size=n)(hn:0<n):∀m:Nat,(madeCells zc (m*n)).toList=(List.replicate m zc.toList).flatten
 |0=>by simp[madeCells]
 |m+1=>by
  have ih:=Ch zc n hz hn m;rw[List.replicate_succ',List.flatten_append,<-ih];simp only[madeCells,Array.toList_map,Array.toList_range,List.flatten_cons,List.flatten_nil,List.append_nil];rw[show(m+1)*n=m*n+n by rw[Nat.add_mul];omega,List.range_add,List.map_append,List.map_map];congr 1;apply List.ext_getElem?;intro i;rw[List.getElem?_map];rcases Nat.lt_or_ge i n with hi|hi
  ·rw[List.getElem?_range hi];simp only[Option.map_some,Function.comp];rw[hz,Nat.mul_comm m n,Nat.mul_add_mod,Nat.mod_eq_of_lt hi];rw[getElem!_pos zc i (by omega),Array.getElem?_toList,Array.getElem?_eq_getElem (by omega)]
  rw[List.getElem?_eq_none (by simpa using hi),List.getElem?_eq_none (by simp;omega)];rfl
theorem ES:∀{a b c d:List SV},eP a c->eP b d->eP (a++b) (c++d)
 |[],_,[],_,_,h=>h
 |_::_,_,_::_,_,h,h'=>⟨h.1,ES h.2 h'⟩
 |[],_,_::_,_,h,_=>h.elim
 |_::_,_,[],_,h,_=>h.elim
theorem ET{zl:List Value}{zz:α}(hi:eP (zl.map SV.v) (e zz)):∀m:Nat,eP ((List.replicate m zl).flatten.map SV.v) ((List.replicate m zz).flatMap e)
 |0=>trivial
 |m+1=>by
  rw[List.replicate_succ,List.replicate_succ,List.flatten_cons,List.map_append,List.flatMap_cons];exact ES hi (ET hi m)
theorem RT.oN(hg:Gd ops S gd rg)[tS:eV P T E0 n][tE:jx P E0 n by_ zv]{kl kc:IntKind}{c:Int}{zz:α}(hx:S.ev x=.sv (.v (.int kl c)))(hy:S.ev y=.sv (.v (.int kc c)))(hd:d<S.n)(yB:S.r d=.un)(v7:d<1000)(hz:zv.cells.size=n)(hn:0<n)(hi:eP (zv.cells.toList.map SV.v) (e zz))(hm:Ce by_ c zz=some l')
  (next:RunT P C ops nd K rest (⟨rg++(bg x++bg y),[],[d],⟨some (d,.row d),[],[(d,.live (TR E0 n e l'))]⟩⟩::acc) ((AS.cg [(d,.live (TR E0 n e l'))] S).set d (.row d))):RunT P C ops nd K (⟨some d,.makeSlice T x y,ty,pos,aft,gd⟩::rest) acc S:=by
 obtain⟨h0,hroom,qI,rfl⟩:=Lw hm;refine .inl ⟨_,[],[d],_,?_,next⟩;rintro S' hn' ht _ hr i a w L Q ho ⟨E,h⟩ hL;refine cM (C:=C) ho (hg.wanted h (λs hs=>ht s (List.mem_append_left _ hs)) Y) ?_;have h1:a.eval x=.int kl c:=by have h1:=h.ev x;rw[bA (λ_ h=>List.mem_append_right _ (List.mem_append_left _ h)) ht,hx]at h1;exact h1
 have h2:a.eval y=.int kc c:=by have h2:=h.ev y;rw[bA (λ_ h=>List.mem_append_right _ (List.mem_append_right _ h)) ht,hy]at h2;exact h2
 obtain⟨info,hii,hsz,hby,ZU⟩:=jx.info (P:=P) (E:=E0) (n:=n) (by_:=by_) (z:=zv);obtain⟨m,rfl⟩:=Int.eq_ofNat_of_zero_le h0;have hb':info.bytes*m<=281474976710656:=by
  rw[hby];have:((by_*m:Nat):Int)<=281474976710656:=by rw[Int.natCast_mul];exact hroom
  omega
 obtain⟨w',q1,q2,q3⟩:=run_make_full (P:=P) w 0 T E0 info zv n tS.u hii ZU hsz kl kc m hb' (by unfold maxLen;omega) (Nat.zero_le _);have hr':(execOp a.eval ⟨some d,.makeSlice T x y,ty,pos,aft,gd⟩).run P w=.ok (.value (.slice (some ⟨w.heap.size,0,none⟩) m m)) w':=by
  simp only[execOp,h1,h2];simp[q1]
 have JN:S'.r d=.un:=by rw[hr d (by simp)];exact yB
 have e0:(m:Int).toNat=m:=by simp
 have hall:SV.eK E.M ((List.replicate m zz).flatMap e) (madeCells zv.cells (m*n)).toList:=by
  rw[Ch zv.cells n hz hn];exact eP.holds (l:=((List.replicate m zv.cells.toList).flatten.map SV.v)) (ET hi m) (Dd _ _)
 have hlen:(List.replicate (m:Int).toNat zz).length=m:=by simp
 refine cO (C:=C) (by intro c h;cases h) hr' (hL _ _ ⟨_,(h.newRow JN v7 [] none (.inl ⟨rfl,rfl⟩) (R':=TR E0 n e (List.replicate (m:Int).toNat zz)) (by show w'.ownsRow 0 E0 n _ (List.replicate (m:Int).toNat zz).length _;rw[hlen];exact q2) (by rw[e0];exact hall) (.inr (.inl rfl)) q3).put (d:=d) (x:=.row d) (v:=.slice (some ⟨w.heap.size,0,none⟩) m m) (by simp[AV.holds]) (by show d<S'.n;omega) ⟨λ_ e=>e.elim,λj e=>?_⟩⟩);cases e;show(AS.pq S' d _).r d≠_;rw[AS.gI];simp
theorem RT.Iz(hg:Gd ops S gd rg)[tS:eV P T E0 n][tE:jx P E0 n by_ zv]{kl kc:IntKind}{c:Int}(hx:S.ev x=.sv (.v (.int kl 0)))(hy:S.ev y=.sv (.v (.int kc c)))(hd:d<S.n)(yB:S.r d=.un)(v7:d<1000)(h:OU (α:=α) by_ c=some l')
  (next:RunT P C ops nd K rest (⟨rg++(bg x++bg y),[],[d],⟨some (d,.row d),[],[(d,.live (TR E0 n e l'))]⟩⟩::acc) ((AS.cg [(d,.live (TR E0 n e l'))] S).set d (.row d))):RunT P C ops nd K (⟨some d,.makeSlice T x y,ty,pos,aft,gd⟩::rest) acc S:=by
 obtain⟨h0,h1,h2,rfl⟩:=Lx h;exact RT.VG hg hx hy hd yB v7 h0 h1 h2 next
theorem RT.aar(hg:Gd ops S gd rg)[tS:eV P T E0 n]{i j:Nat}{E1:TypeId}{kk:IntKind}{v:Int}(hx:S.ev x=.row i)(hR:S.r i=.live (TR E1 n e l))(hy:S.ev y=.sv (.v (.int kk v)))(hd:d<S.n)(h:tB l v=some j)
  (next:RunT P C ops nd K rest (⟨rg++(bg x++bg y),[],[i],⟨some (d,.iG i (j*n)),[],[]⟩⟩::acc) (S.set d (.iG i (j*n)))):RunT P C ops nd K (⟨some d,.indexAddr T x y,ty,pos,aft,gd⟩::rest) acc S:=by
 obtain⟨h0,h1,h2⟩:=Lu h;exact RT.ixR hg (.row hx hR) hy hd h0 h1 (j*n) (by rw[h2];omega) next
theorem RT.V8(hg:Gd ops S gd rg)[tV:pz P T][el:EL e 1]{i j:Nat}{E1:TypeId}{a:α}{s:SV}(hx:S.ev x=.iG i (j*1))(hR:S.r i=.live (TR E1 1 e l))(ha:l[j]? =some a)(hs:e a=[s])(hd:d<S.n)
  (next:RunT P C ops nd K rest (⟨rg++bg x,[],[i],⟨some (d,.sv s),[],[]⟩⟩::acc) (S.set d (.sv s))):RunT P C ops nd K (⟨some d,.load T x,ty,pos,aft,gd⟩::rest) acc S:=by
 refine RT.ldR hg hx hR (s:=s) ?_ hd next
 have:=EP (e:=e) ha;rw[hs]at this;have h2:=congrArg (·[0]?) this;simpa[List.getElem?_take]using h2
theorem OZ(a:List SV)(k:Nat)(s:SV):a.set k s=kQ a k [s]:=rfl
theorem RT.aas(hg:Gd ops S gd rg)[tV:pz P T][el:EL e 1]{i j:Nat}{E1:TypeId}{s:SV}[o1:One s](a:α)(hs:e a=[s])(hx:S.ev x=.iG i (j*1))(hR:S.r i=.live (TR E1 1 e l))(hy:S.ev y=.sv s)(h:stM l j a=some l')
  (next:RunT P C ops nd K rest (⟨rg++(bg x++bg y),[],[i],⟨none,[],[(i,.live (TR E1 1 e l'))]⟩⟩::acc) (AS.cg [(i,.live (TR E1 1 e l'))] S)):RunT P C ops nd K (⟨none,.store T x y,ty,pos,aft,gd⟩::rest) acc S:=by
 obtain⟨h1,rfl⟩:=EN h;refine RT.stR hg hx hR hy (by show j*1+1<=l.length*1;omega) ((l.set j a).flatMap e) (by rw[OZ,<-hs];exact ER h1) ?_;have:(TR E1 1 e (l.set j a))=⟨E1,1,l.length,(l.set j a).flatMap e⟩:=by show Row.mk _ _ _ _=_;rw[List.length_set]
 rw[<-this];exact next
theorem RT.V9(hg:Gd ops S gd rg)[tA:wz P T n][el:EL e n]{i j:Nat}{E1:TypeId}(a:α)(hx:S.ev x=.iG i (j*n))(hR:S.r i=.live (TR E1 n e l))(hy:S.ev y=.sv (.agg (e a)))(h:stM l j a=some l')
  (next:RunT P C ops nd K rest (⟨rg++(bg x++bg y),[],[i],⟨none,[],[(i,.live (TR E1 n e l'))]⟩⟩::acc) (AS.cg [(i,.live (TR E1 n e l'))] S)):RunT P C ops nd K (⟨none,.store T x y,ty,pos,aft,gd⟩::rest) acc S:=by
 obtain⟨h1,rfl⟩:=EN h;have o1:=el.one a;refine RT.ZX hg hx hR hy (el.len a) (by show j*n+n<=l.length*n;have:=Nat.mul_le_mul_right n h1;rw[Nat.succ_mul]at this;exact this) ((l.set j a).flatMap e) (ER h1) ?_;have:(TR E1 n e (l.set j a))=⟨E1,n,l.length,(l.set j a).flatMap e⟩:=by show Row.mk _ _ _ _=_;rw[List.length_set]
 rw[<-this];exact next
end steps
theorem cn{S:AS}{i n:Nat}{E1:TypeId}{α:Type}{e:α->List SV}{l:List α}[el:EL e n](hR:S.r i=.live (TR E1 n e l)):qG S (S.mZ i (slc n (l.map e))):=by
 rintro C a w ⟨E,h⟩;have hlen:l.length<=9223372036854775807:=by
  obtain⟨⟨vs,ho,hv⟩,_⟩:=h.rx i _ hR;rcases ho.2 with⟨_,q2⟩|⟨g',cap,cur,q1,_,q2,q3,q4,q5,q6⟩
  ·have q2:l.length=0:=q2;omega
  have q3:l.length<=cap:=q3;have:maxLen=9223372036854775807:=by decide
  omega
 exact h.mZ hR (EO l) (by rw[List.length_map]) hlen (Cg l) (λ_ _ h _=>h)
section control
variable {P:Program}{C:Ctx}{S:AS}{Q:Exit->AS->Prop}
theorem bC{A:Code}{J R:Type}{kB:J->Option R}{fA:(J->Option R)->Option R}{r:R}(h:cm kB fA=some r)(I:J->AS)
  (hA:fA kB=some r->Ok P C A S (aV (λS'=>∃j,kB j=some r/\qG S' (I j)) Q)) (hQ:∀j,kB j=some r->Q .normal (I j)):Ok P C A S Q:=λa w hs=>by
 refine wpIn_mono (hA h a w hs) ?_;rintro e a' w' ⟨S',q,hh⟩;cases e with
 |normal=>obtain⟨j,h1,h2⟩:=q;exact⟨_,hQ j h1,h2 C a' w' hh⟩
 |_=>exact⟨S',q,hh⟩
theorem bJ{A:Code}{X:Type}(I:X->AS)(p:X->Prop)(hA:Ok P C A S (aV (λS'=>∃j,p j/\qG S' (I j)) Q))(hQ:∀j,p j->Q .normal (I j)):Ok P C A S Q:=λa w hs=>by
 refine wpIn_mono (hA a w hs) ?_;rintro e a' w' ⟨S',q,hh⟩;cases e with
 |normal=>obtain⟨j,h1,h2⟩:=q;exact⟨_,hQ j h1,h2 C a' w' hh⟩
 |_=>exact⟨S',q,hh⟩
theorem bK{c:Code}{T E:Type}{body:T->Option (T⊕E)}{s0:T}{e:E}(h:b8 body s0=some e)(I:T->AS)(h0:qG S (I s0))
  (round:∀(s:T) (y:T⊕E) (G:T->Prop),body s=some y->(∀s',y=.inl s'->G s')->(∀e',y=.inr e'->e'=e)->Ok P C c (I s) (aV (λS'=>∃s',G s'/\qG S' (I s')) Q)):Ok P C (.loop c) S Q:=by
 obtain⟨n,hn⟩:=ua h;refine uQ (ι:={x:T×Nat//mF body x.2 x.1=some e}) (λx=>I x.1.1) (λx=>x.1.2) ⟨(s0,n),hn⟩ h0 ?_;rintro⟨⟨s,m⟩,hm⟩;cases m with
 |zero=>cases hm
 |succ m=>
  cases hb:body s with
  |none=>simp only[mF,hb]at hm;cases hm
  |some y=>
   refine CX (round s y (λs'=>mF body m s'=some e) hb ?_ ?_) ?_
   ·rintro s' rfl;simpa only[mF,hb]using hm
   ·rintro e' rfl;simp only[mF,hb]at hm;exact Option.some.inj hm
   intro ex S' q;cases ex with
   |normal=>obtain⟨s',h1,h2⟩:=q;exact⟨⟨(s',m),h1⟩,Nat.lt_succ_self m,h2⟩
   |_=>exact q
end control
end
section
open Go.RowKit
abbrev S7:=List UInt8
def bs(l:S7):ByteArray:=⟨⟨l⟩⟩
def tC(l:S7)(i:Int):Option Nat:=(cY l i).map UInt8.toNat
theorem O0(l:S7):(bs l).size=l.length:=rfl
theorem S8(l:S7)(i:Nat):(bs l)[i]? =l[i]? :=by
 rcases Nat.lt_or_ge i l.length with h|h
 ·rw[getElem?_pos (bs l) i h,List.getElem?_eq_getElem h];rfl
 rw[getElem?_neg (bs l) i (by rw[O0];omega),List.getElem?_eq_none h]
section steps
variable {P:Program}{C:Ctx}{ops:Array Oper}{S:AS}{nd:Bool}{K:List Ac->AS->Prop}{rest:List Oper}{acc:List Ac}
variable {gd:Option (Nat×Bool)}{rg:List Nat}{d:Nat}{ty:TypeId}{pos:String}{aft:Array Edge}{x y z:Operand}{T U E0:TypeId}
variable {l l' k:S7}
theorem RT.skV{op:Op}{j g:Nat}{b want:Bool}(h1:(ops[j]?).bind (·.dst)=some g)(h2:S.t g=.sv (.v (.bool b)))(hb:b≠want)(hd:d<S.n)
  (next:RunT P C ops nd K rest (⟨[g],[],[],⟨some (d,.sv (.v undef)),[],[]⟩⟩::acc) (S.set d (.sv (.v undef)))):RunT P C ops nd K (⟨some d,op,ty,pos,aft,some (j,want)⟩::rest) acc S:=by
 refine .inl ⟨[g],[],[],⟨some (d,.sv (.v undef)),[],[]⟩,?_,next⟩;rintro S' hn ht _ _ i a w L Q ho ⟨E,h⟩ hL;have hv:=h.tm g;rw[ht g (by simp),h2]at hv;have hv:a.tmps.getD g undef=.bool b:=hv;have GB:a.tmps[g]? =some (.bool b):=by
  rw[Array.getD_eq_getD_getElem?]at hv;cases e:a.tmps[g]? with
  |none=>rw[e]at hv;simp[undef]at hv
  |some x=>rw[e]at hv;simp at hv;rw[hv]
 have hw:Region.wanted ⟨some d,op,ty,pos,aft,some (j,want)⟩ (yielded ops a.tmps)=false:=by
  simp[Region.wanted,yielded,h1,GB,hb]
 simp only[wpOpIn,ho,hw];exact⟨λ_ _=>trivial,hL _ _ ⟨E,h.put (x:=.sv (.v undef)) (v:=undef) Y (by omega) ⟨λ_ h=>h.elim,λ_ h=>h.elim⟩⟩⟩
theorem RT.Wa{op:Op}{j g:Nat}{want:Bool}(h1:(ops[j]?).bind (·.dst)=some g)(h2:S.t g=.sv (.v undef))(hd:d<S.n)
  (next:RunT P C ops nd K rest (⟨[g],[],[],⟨some (d,.sv (.v undef)),[],[]⟩⟩::acc) (S.set d (.sv (.v undef)))):RunT P C ops nd K (⟨some d,op,ty,pos,aft,some (j,want)⟩::rest) acc S:=by
 refine .inl ⟨[g],[],[],⟨some (d,.sv (.v undef)),[],[]⟩,?_,next⟩;rintro S' hn ht _ _ i a w L Q ho ⟨E,h⟩ hL;have hv:=h.tm g;rw[ht g (by simp),h2]at hv;have hv:a.tmps.getD g undef=undef:=hv;rw[Array.getD_eq_getD_getElem?]at hv;have hw:Region.wanted ⟨some d,op,ty,pos,aft,some (j,want)⟩ (yielded ops a.tmps)=false:=by
  cases e:a.tmps[g]? with
  |none=>simp[Region.wanted,yielded,h1,e]
  |some x=>
   rw[e]at hv;simp only[Option.getD_some]at hv;subst hv;simp[Region.wanted,yielded,h1,e,undef]
 simp only[wpOpIn,ho,hw];exact⟨λ_ _=>trivial,hL _ _ ⟨E,h.put (x:=.sv (.v undef)) (v:=undef) Y (by omega) ⟨λ_ h=>h.elim,λ_ h=>h.elim⟩⟩⟩
theorem RT.six(hg:Gd ops S gd rg)[tS:QM P T]{kk:IntKind}{i:Int}{c:Nat}(hx:S.ev x=.sv (.v (.string (bs l))))(hy:S.ev y=.sv (.v (.int kk i)))(hd:d<S.n)(h:tC l i=some c)
  (next:RunT P C ops nd K rest (⟨rg++(bg x++bg y),[],[],⟨some (d,.sv (.v (.int .u8 (c:Nat)))),[],[]⟩⟩::acc) (S.set d (.sv (.v (.int .u8 (c:Nat)))))):RunT P C ops nd K (⟨some d,.index T x y,ty,pos,aft,gd⟩::rest) acc S:=
 RT.GC hg (by intro c h;cases h) hx hy hd (λρ w h1 h2=>by
  unfold tC at h;cases hh:cY l i with
  |none=>rw[hh]at h;cases h
  |some b=>
   rw[hh]at h;obtain⟨q1,q2⟩:=wI hh;have q3:b.toNat=c:=Option.some.inj h;have q4:(bs l)[i.toNat]? =some b:=by rw[S8];exact q2
   simp[execOp,h1,h2,Instr.index,asIntOf,underlying,tS.h,q1,q4,q3]) next
end steps
section rows
variable {P:Program}{C:Ctx}{ops:Array Oper}{S:AS}{nd:Bool}{K:List Ac->AS->Prop}{rest:List Oper}{acc:List Ac}
variable {gd:Option (Nat×Bool)}{rg:List Nat}{d:Nat}{ty:TypeId}{pos:String}{aft:Array Edge}{x y z:Operand}{T U E0:TypeId}
variable {α:Type}{l l' k:List α}{e:α->List SV}{n by_:Nat}{zv:Value}
end rows
end
section
open Go.RowKit
def tD{α:Type}(l l':List α):Option Unit:=if l'.length=l.length then some ()else none
theorem k8{α:Type}{l l':List α}{u:Unit}(h:tD l l'=some u):l'.length=l.length:=by
 unfold tD at h;split at h
 ·assumption
 cases h
def S9{α:Type}(l:List α)(lo hi:Int):Option (Nat×Nat):=if 0<=lo/\lo<l.length/\lo<=hi/\hi<=l.length then some (lo.toNat,(hi-lo).toNat)else none
theorem LA{α:Type}{l:List α}{lo hi:Int}{o n:Nat}(h:S9 l lo hi=some (o,n)):0<=lo/\lo<l.length/\lo<=hi/\hi<=l.length/\lo.toNat=o/\(hi-lo).toNat=n:=by
 unfold S9 at h;split at h
 ·rename_i hh;obtain⟨q1,q2⟩:=Prod.mk.inj (Option.some.inj h);exact⟨hh.1,hh.2.1,hh.2.2.1,hh.2.2.2,q1,q2⟩
 cases h
def Ot(o n:Nat)(i:Int):Option Nat:=if 0<=i/\i<n then some (o+i.toNat)else none
theorem LB{o n j:Nat}{i:Int}(h:Ot o n i=some j):0<=i/\i<n/\o+i.toNat=j:=by
 unfold Ot at h;split at h
 ·rename_i hh;exact⟨hh.1,hh.2,Option.some.inj h⟩
 cases h
theorem IA{α:Type}{e:α->List SV}{l:List α}{n:Nat}{M:Mem}{v:Value}(h:(slc n (l.map e)).h M v):l.length<=9223372036854775807:=by
 rcases h with⟨_,_,h⟩|⟨b,o,c,_,_,h,_⟩
 ·have:l=[]:=by simpa using h
  subst this;simp
 rwa[List.length_map]at h
theorem sn{α:Type}{e:α->List SV}{l:List α}{n:Nat}{M:Mem}{v:Value}(h:(ref [slc n (l.map e)]).h M v):l.length<=9223372036854775807:=by
 obtain⟨b,o,_,h⟩:=h;obtain⟨y,_,_,h⟩:=h 0 _ Y;exact IA h
theorem ue{l:List Nat}{i:Nat}(h:l.length<=i):l.getD i 0=0:=by simp[List.getD,List.getElem?_eq_none h]
theorem qP{l:List Nat}{i:Nat}(h:i<l.length):l[i]? =some (l.getD i 0):=by simp[List.getD,h]
theorem eE{α:Type}{l:List α}{d:α}{i:Nat}(h:l.length<=i):l.getD i d=d:=by simp[List.getD,List.getElem?_eq_none h]
theorem cH{α:Type}{l:List α}{d:α}{i:Nat}(h:i<l.length):l[i]? =some (l.getD i d):=by simp[List.getD,h]
theorem zS{α β:Type}(a:List α)(b:List β)(i:Nat)(h:i<=max a.length b.length):(i<max a.length b.length/\i<a.length/\i<b.length)\/(i<max a.length b.length/\i<a.length/\b.length<=i)\/(i<max a.length b.length/\a.length<=i/\i<b.length)\/i=max a.length b.length:=by omega
section steps
variable {P:Program}{C:Ctx}{ops:Array Oper}{S:AS}{nd:Bool}{K:List Ac->AS->Prop}{rest:List Oper}{acc:List Ac}
variable {gd:Option (Nat×Bool)}{rg:List Nat}{d:Nat}{ty:TypeId}{pos:String}{aft:Array Edge}{x y z:Operand}{T U E0:TypeId}
variable {α:Type}{l l' k:List α}{e:α->List SV}{n by_:Nat}{zv:Value}
theorem Ta{E1:TypeId}(h:l'.length=l.length):(⟨E1,n,l.length,l'.flatMap e⟩:Row)=TR E1 n e l':=by show _=Row.mk _ _ _ _;rw[h]
theorem RT.Tb(hg:Gd ops S gd rg){f:FuncId}[cZ P f]{g:Operand}{xs:Array Operand}{at_:Array TypeId}{args:List AV}{E1:TypeId}{res:AV}(hp:GV P f args (TR E1 n e l) res (l'.flatMap e))(hlen:l'.length=l.length)(i:Nat)(hR:S.r i=.live (TR E1 n e l))(hrow:args.all AV.wF=true)(hres:res.wF=true)
  (hf:S.ev g=.sv (.v (.func (.func f) #[] #[]))) (hargs:C7 S xs.toList (args.map (AV.xD i))) (hd:d<S.n)
  (next:RunT P C ops nd K rest (⟨rg++(bg g++xs.toList.flatMap bg),[],[i],⟨some (d,res.xD i),[],[(i,.live (TR E1 n e l'))]⟩⟩::acc) ((AS.cg [(i,.live (TR E1 n e l'))] S).set d (res.xD i))):RunT P C ops nd K (⟨some d,.call ⟨.value g,xs,at_⟩,ty,pos,aft,gd⟩::rest) acc S:=
 RT.VP hg hp i hR hrow hres hf hargs hd (by rw[Ta hlen];exact next)
theorem RT.Wb(hg:Gd ops S gd rg)[tS:eV P T E0 n]{i o m:Nat}{E1:TypeId}{lo hi:Option Operand}(a b:Int)(hx:S.ev x=.row i)(hR:S.r i=.live (TR E1 n e l))(hlo:C4 S 0 lo a)(hhi:C4 S l.length hi b)(hd:d<S.n)(h:S9 l a b=some (o,m))
  (next:RunT P C ops nd K rest (⟨rg++(bg x++(nW lo++nW hi)),[],[i],⟨some (d,.kY i (o*n) m),[],[]⟩⟩::acc) (S.set d (.kY i (o*n) m))):RunT P C ops nd K (⟨some d,.slice T x lo hi none,ty,pos,aft,gd⟩::rest) acc S:=by
 obtain⟨h0,h1,h2,h3,h4,h5⟩:=LA h;exact RT.SP hg (.row hx hR) a b hlo hhi hd h0 h1 h2 h3 (o*n) m (by rw[h4];omega) h5 next
theorem RT.Tc(hg:Gd ops S gd rg){m:Nat}[tS:eV P T E0 m]{i o q:Nat}{c:Int}(hx:S.ev x=.kY i o q)(hd:d<S.n)(hc:(q:Int)=c)
  (next:RunT P C ops nd K rest (⟨rg++bg x,[],[],⟨some (d,.sv (.v (.int .i64 c))),[],[]⟩⟩::acc) (S.set d (.sv (.v (.int .i64 c))))):RunT P C ops nd K (⟨some d,.call ⟨.builtin .len,#[x],#[T]⟩,ty,pos,aft,gd⟩::rest) acc S:=
 RT.VO hg hx hd (by rw[hc];exact next)
theorem RT.EU(hg:Gd ops S gd rg)[tS:eV P T E0 n]{i o q j:Nat}{kk:IntKind}{v:Int}(hx:S.ev x=.kY i (o*n) q)(hy:S.ev y=.sv (.v (.int kk v)))(hd:d<S.n)(h:Ot o q v=some j)
  (next:RunT P C ops nd K rest (⟨rg++(bg x++bg y),[],[],⟨some (d,.iG i (j*n)),[],[]⟩⟩::acc) (S.set d (.iG i (j*n)))):RunT P C ops nd K (⟨some d,.indexAddr T x y,ty,pos,aft,gd⟩::rest) acc S:=by
 obtain⟨h0,h1,h2⟩:=LB h;exact RT.ixR hg (.kY hx) hy hd h0 h1 (j*n) (by rw[<-h2,Nat.add_mul]) next
end steps
def ou{S:Type}(body:Nat->S->Option S):Nat->S->Option S
 |0,s=>some s
 |n+1,s=>(ou body n s).bind (body n)
theorem oO{S:Type}{body:Nat->S->Option S}:∀{n:Nat} {s e:S},ou body n s=some e->∃st:Nat->S,st 0=s/\(∀k,k<n->body k (st k)=some (st (k+1)))/\st n=e
 |0,s,e,h=>⟨λ_=>s,Y,λ_ h=>by omega,Option.some.inj h⟩
 |n+1,s,e,h=>by
  obtain⟨e1,h1,h2⟩:=bind_some (x:=ou body n s) h;obtain⟨st,q1,q2,q3⟩:=oO h1;refine⟨λk=>if k=n+1 then e else st k,by simpa using q1,λk hk=>?_,by simp⟩;rcases Nat.lt_or_ge k n with hkn|hkn
  ·simpa[show k≠n+1 by omega,show k≠n by omega]using q2 k hkn
  obtain rfl:k=n:=by omega
  simpa[q3]using h2
theorem Ci{S:Type}{body:Nat->S->Option S}(st:Nat->S):∀(n:Nat),(∀k,k<n->body k (st k)=some (st (k+1)))->ou body n (st 0)=some (st n)
 |0,_=>rfl
 |n+1,h=>by
  rw[ou,Ci st n (λk hk=>h k (by omega))];exact h n (by omega)
def ko{S E:Type}(body:Nat->S->Option (S⊕E)):Nat->S->Option (S⊕E)
 |0,s=>some (.inl s)
 |n+1,s=>(ko body n s).bind λr=>match r with|.inl s'=>body n s'|.inr e=>some (.inr e)
theorem Cj{S E:Type}{body:Nat->S->Option (S⊕E)}:∀{n:Nat} {s:S} {r:S⊕E},ko body n s=some r->∃(m:Nat) (st:Nat->S),st 0=s/\m<=n/\(∀k,k<m->body k (st k)=some (.inl (st (k+1))))/\((m=n/\r=.inl (st n))\/(m<n/\∃e,r=.inr e/\body m (st m)=some (.inr e)))
 |0,s,r,h=>⟨0,λ_=>s,Y,Nat.le_refl _,λ_ h=>by omega,.inl ⟨Y,(Option.some.inj h).symm⟩⟩
 |n+1,s,r,h=>by
  obtain⟨r1,h1,h2⟩:=bind_some (x:=ko body n s) h;obtain⟨m,st,q1,q2,q3,q4⟩:=Cj h1;rcases q4 with⟨rfl,rfl⟩|⟨q4,e,rfl,q5⟩
  ·simp only at h2;cases r with
   |inr e=>exact⟨m,st,q1,by omega,q3,.inr ⟨by omega,e,Y,h2⟩⟩
   |inl s'=>
    refine⟨m+1,λk=>if k=m+1 then s' else st k,by simpa using q1,Nat.le_refl _,λk hk=>?_,.inl ⟨Y,by simp⟩⟩;rcases Nat.lt_or_ge k m with hkn|hkn
    ·simpa[show k≠m+1 by omega,show k≠m by omega]using q3 k hkn
    obtain rfl:k=m:=by omega
    simpa using h2
  simp only at h2;cases h2;exact⟨m,st,q1,by omega,q3,.inr ⟨by omega,e,Y,q5⟩⟩
theorem Df{S E:Type}{body:Nat->S->Option (S⊕E)}{n m:Nat}{st:Nat->S}{r:S⊕E}(h:∀k,k<m->body k (st k)=some (.inl (st (k+1))))(hr:(m=n/\r=.inl (st n))\/(m<n/\∃e,r=.inr e/\body m (st m)=some (.inr e))){k:Nat}(hk:k<n)(hkm:k<=m):
  ∃y,body k (st k)=some y/\(∀s',y=.inl s'->k+1<=m/\s'=st (k+1))/\∀e',y=.inr e'->r=.inr e':=by
 rcases Nat.lt_or_ge k m with q|q
 ·exact⟨_,h k q,(λs' e=>⟨q,by cases e;rfl⟩),(λe' e=>by cases e)⟩
 obtain rfl:k=m:=by omega
 rcases hr with⟨rfl,_⟩|⟨_,e,rfl,he⟩
 ·omega
 exact⟨_,he,(λs' e=>by cases e),(λe' q=>by cases q;rfl)⟩
theorem EV{S E:Type}{body:Nat->S->Option (S⊕E)}{n m:Nat}{st:Nat->S}{r:S⊕E}(hr:(m=n/\r=.inl (st n))\/(m<n/\∃e,r=.inr e/\body m (st m)=some (.inr e)))(h:n<=m):r=.inl (st n):=by
 rcases hr with⟨_,q⟩|⟨q,_⟩
 ·exact q
 omega
theorem sq{S E:Type}{body:Nat->S->Option (S⊕E)}{n:Nat}{s:S}{r:S⊕E}(h:ko body n s=some r):∃(m:Nat) (st:Nat->S),st 0=s/\(∀k,k<n->k<=m->∃y,body k (st k)=some y/\(∀s',y=.inl s'->k+1<=m/\s'=st (k+1))/\∀e',y=.inr e'->r=.inr e')/\(n<=m->r=.inl (st n)):=by
 obtain⟨m,st,q1,q2,q3,q4⟩:=Cj h;exact⟨m,st,q1,λk hk hm=>Df q3 q4 hk hm,λhn=>EV q4 hn⟩
end
section
open Go.RowKit
def LC(es:List (Value×Value)):SV where
 h M v:=∃b,v=.map (some b)/\M b 0=some (.tuple ⟨es.map λp=>.tuple #[p.1,p.2]⟩)
 mono hM h:=by obtain⟨b,e,h⟩:=h;exact⟨b,e,hM _ _ _ h⟩
class IB (P:Program) (T:TypeId) (k:outParam TypeId) (e:outParam TypeId):Prop where
 u:P.underlying T=some (.map k e)
def Ck(k:IntKind)(n:Int):List (Value×Value)->Option Value
 |[]=>none
 |(.int k' m,v)::l=>if k=k' then(if n=m then some v else Ck k n l)else none
 |_::_=>none
theorem tF{k:IntKind}{n:Int}{v:Value}:∀(es:List MapEntry) (i:Nat),Ck k n (es.map λe=>(e.key,e.val))=some v->∃j,Instr.findNow (.int k) (.int k n) es i=some (some (j,v))
 |[],_,h=>by simp[Ck]at h
 |⟨key,val,born⟩::es,i,h=>by
  cases key with
  |int k' m=>
   simp only[List.map_cons,Ck]at h;by_cases hk:k=k'
   ·subst hk;rw[if_pos rfl]at h;by_cases hn:n=m
    ·subst hn;rw[if_pos rfl]at h;cases h;exact⟨i,by simp[Instr.findNow,Instr.sameNow]⟩
    rw[if_neg hn]at h;obtain⟨j,hj⟩:=tF es (i+1) h;have hb:(n==m)=false:=by simp[hn]
    exact⟨j,by simp[Instr.findNow,Instr.sameNow,hb,hj]⟩
   rw[if_neg hk]at h;cases h
  |_=>simp[Ck]at h
theorem IC:∀(l:List (Value×Value)) (m:List MapEntry),l.map (λp=>Value.tuple #[p.1,p.2])=m.map (λe=>Value.tuple #[e.key,e.val])->m.map (λe=>(e.key,e.val))=l
 |[],[],_=>rfl
 |[],_::_,h=>by simp at h
 |_::_,[],h=>by simp at h
 |(p,q)::l,e::m,h=>by
  simp only[List.map_cons,List.cons.injEq,Value.tuple.injEq]at h⊢;refine⟨?_,IC l m h.2⟩;have:=h.1;simp at this;rw[this.1,this.2]
theorem LD{es:Array MapEntry}{l:List (Value×Value)}(h:(⟨l.map λp=>.tuple #[p.1,p.2]⟩:Array Value)=Oz es):es.toList.map (λe=>(e.key,e.val))=l:=
 IC l es.toList (congrArg Array.toList h)
theorem getM{P:Program}{w:World}{r:Nat}{es:Array MapEntry}{ck:Nat}(hb:w.heap[r]? =some (.map es ck)):(getObj r).run P w=.ok (.map es ck) w:=by simp[getObj,Sem.run,hb]
theorem aat{P:Program}{w:World}{r:Nat}{es:Array MapEntry}{ck:Nat}(o:Obj)(hb:w.heap[r]? =some (.map es ck)):(setObj r o).run P w=.ok () {w with heap:=w.heap.setIfInBounds r o}:=by simp[setObj,Sem.run,hb]
theorem ckM{P:Program}{w:World}{kt:TypeId}{k:IntKind}[tI:kW P kt k]{n:Int}(bb:Bool):(Instr.checkKey bb 10000 kt (.int k n)).run P w=.ok () w:=by
 rw[show(10000:Nat)=9999+1 from rfl,Instr.checkKey];simp[underlying,tI.h]
theorem LF{M:Mem}:∀l:List Value,SV.eK M (l.map SV.v) l
 |[]=>trivial
 |_::l=>⟨Y,LF l⟩
section steps
variable {P:Program}{C:Ctx}{ops:Array Oper}{S:AS}{nd:Bool}{K:List Ac->AS->Prop}{rest:List Oper}{acc:List Ac}
variable {gd:Option (Nat×Bool)}{rg:List Nat}{d:Nat}{ty:TypeId}{pos:String}{aft:Array Edge}{x y z:Operand}{T U E0:TypeId}
theorem RT.look(hg:Gd ops S gd rg){kt et:TypeId}[tM:IB P T kt et]{k:IntKind}[tI:kW P kt k]{es:List (Value×Value)}{n:Int}(cs:List Value)(hx:S.ev x=.sv (LC es))(hy:S.ev y=.sv (.v (.int k n)))(hl:Ck k n es=some (.agg ⟨cs⟩))(hd:d<S.n)
  (next:RunT P C ops nd K rest (⟨rg++(bg x++bg y),[],[],⟨some (d,.sv (.agg (cs.map SV.v))),[],[]⟩⟩::acc) (S.set d (.sv (.agg (cs.map SV.v))))):RunT P C ops nd K (⟨some d,.lookup T x y false,ty,pos,aft,gd⟩::rest) acc S:=
 RT.value hg (bg x++bg y) [] [] (.sv (.agg (cs.map SV.v))) hd (by intro c h;cases h) (λS' ht _ _ E a w h=>by
  have h1:=h.ev x;rw[bA (λ_ h=>List.mem_append_left _ h) ht,hx]at h1;have h2:a.eval y=.int k n:=by have h2:=h.ev y;rw[bA (λ_ h=>List.mem_append_right _ h) ht,hy]at h2;exact h2
  obtain⟨b,e,hb⟩:=h1;obtain⟨ms,ck,hm,he⟩:=h.dM _ _ _ hb;have he:=LD he;rw[<-he]at hl;obtain⟨j,hj⟩:=tF ms.toList 0 hl;refine⟨.agg ⟨cs⟩,?_,⟨cs,Y,?_⟩,gw⟩
  ·have hfk:(Instr.findKey kt (.int k n) ms.toList).run P w=.ok (some (j,.agg ⟨cs⟩)) w:=by
    simp[Instr.findKey,underlying,tI.h,hj]
   simp[execOp,e,h2,Instr.lookup,underlying,tM.u,getM hm,ckM,hfk]
  exact LF cs) next
def qQ(w:World)(ms:Array MapEntry)(ck:Nat):World:=w.alloc (.map ms ck)
theorem wL(w:World)(ms:Array MapEntry)(ck:Nat):(qQ w ms ck).heap[w.heap.size]? =some (.map ms ck):=by show(w.heap.push _)[w.heap.size]? =_;simp
theorem run_make{d:Option Nat}{ρ:Operand->Value}{w:World}:(execOp ρ ⟨d,.makeMap T none,ty,pos,aft,none⟩).run P w=.ok (.value (.map (some w.heap.size))) (qQ w #[] 0):=by
 simp[execOp,Instr.makeMap,qQ]
theorem yW{d:Option Nat}{kt et:TypeId}[tM:IB P T kt et]{k:IntKind}[tI:kW P kt k]{ρ:Operand->Value}{w:World}{ms:Array MapEntry}{ck:Nat}{n:Int}{v:Value}(hx:ρ x=.map (some w.heap.size))(hy:ρ y=.int k n)(hz:ρ z=v)
  (hf:Instr.findNow (.int k) (.int k n) ms.toList 0=some none):(execOp ρ ⟨d,.insert T x y z,ty,pos,aft,none⟩).run P (qQ w ms ck)=.ok .skip (qQ w (ms.push ⟨.int k n,v,ck⟩) (ck+1)):=by
 have hfk:(Instr.findKey kt (.int k n) ms.toList).run P (qQ w ms ck)=.ok none (qQ w ms ck):=by
  simp[Instr.findKey,underlying,tI.h,hf]
 have aav:∀o:Obj,{qQ w ms ck with heap:=(qQ w ms ck).heap.setIfInBounds w.heap.size o}=w.alloc o:=by
  intro o;simp only[qQ,World.alloc];congr 1;apply Array.ext';simp
 simp[execOp,hx,hy,hz,Instr.mapUpdate,underlying,tM.u,getM (wL w ms ck),ckM,hfk,aat _ (wL w ms ck)];exact aav _
theorem yX{d:Option Nat}{z0:Value}[tP:iq P U [(0,1)] [z0]]{ρ:Operand->Value}{w:World}{v:Value}(hx:ρ x=v)(hv:v.oneCell'=true):(execOp ρ ⟨d,.build U #[(0,x)],ty,pos,aft,none⟩).run P w=.ok (.value (.agg #[v])) w:=by
 have hu:=tP.h;cases hT:P.underlying U with
 |none=>rw[hT]at hu;cases hu
 |some u=>
  rw[hT]at hu;cases u with
  |struct fs=>
   simp only at hu;have hz:(zeroValue U).run P w=.ok (.agg ⟨[z0]⟩) w:=gJ.run (t:=⟨tP.hz⟩) w;have hm:(fs.mapM (λf=>do pure (f.offset,<-sizeOf f.type):Field->Sem (Nat×Nat))).run P w=.ok #[(0,1)] w:=by
    have:=nV (P:=P) (w:=w) hu;rw[<-Array.toArray_toList (xs:=fs),List.mapM_toArray];rw[Sem.run_map,this];rfl
   simp only[execOp,Instr.build,underlying];simp only[Sem.run_bind,hz,Result.andThen_ok,run_program,hT,Sem.run_pure,Value.cells];have hm':(Array.mapM (λf=>do
     let __do_lift<-sizeOf f.type
     pure (f.offset,__do_lift)) fs:Sem _).run P w=.ok #[(0,1)] w:=hm
   simp only[hm',Result.andThen_ok];have h1':Instr.fill (λi=>(#[(0,1)]:Array (Nat×Nat))[i]?) ⟨[z0]⟩ [(0,v)]=some ⟨[v]⟩:=by
    simp[Instr.fill,iA hv]
    try rfl
   have e4:(Array.map (λx=>match x with|(i,x)=>(i,ρ x)) #[(0,x)]).toList=[(0,v)]:=by simp[hx]
   simp only[e4,h1',Sem.run_pure,Result.andThen_ok]
  |_=>cases hu
theorem O1{Q:Exit->AS->Prop}{id:Nat}{T U kt et t0:TypeId}[tM:IB P T kt et]{k:IntKind}[tI:kW P kt k]{z0:Value}[tP:iq P U [(0,1)] [z0]]{f1 f2 f3 f4:FuncId}{n1 n2 n3 n4:Int}
  {p0 p1 p2 p3 p4 p5 p6 p7 p8 p9 Td:String} {a0 a1 a2 a3 a4 a5 a6 a7 a8 a9 a10:Array Edge} {u1 u2 u3 u4 u5 u6 u7 u8 u9:TypeId} (hn:7<=S.n)
  (h2:Instr.findNow (.int k) (.int k n2) [⟨.int k n1,.agg #[.func (.func f1) #[] #[]],0⟩] 0=some none)
  (h3:Instr.findNow (.int k) (.int k n3) [⟨.int k n1,.agg #[.func (.func f1) #[] #[]],0⟩,⟨.int k n2,.agg #[.func (.func f2) #[] #[]],1⟩] 0=some none)
  (h4:Instr.findNow (.int k) (.int k n4) [⟨.int k n1,.agg #[.func (.func f1) #[] #[]],0⟩,⟨.int k n2,.agg #[.func (.func f2) #[] #[]],1⟩,⟨.int k n3,.agg #[.func (.func f3) #[] #[]],2⟩] 0=some none)
  (hQ:∀S',S'.t 0=.sv (LC [(.int k n1,.agg #[.func (.func f1) #[] #[]]),(.int k n2,.agg #[.func (.func f2) #[] #[]]),(.int k n3,.agg #[.func (.func f3) #[] #[]]),(.int k n4,.agg #[.func (.func f4) #[] #[]])])->Q .normal S'):
  Ok P C (.region id #[⟨some 1,.makeMap T none,t0,p0,a0,none⟩,⟨some 2,.build U #[(0,.func f1)],u1,p1,a1,none⟩,⟨none,.insert T (.tmp 1) (.const (.int k n1)) (.tmp 2),u2,p2,a2,none⟩,
   ⟨some 3,.build U #[(0,.func f2)],u3,p3,a3,none⟩,⟨none,.insert T (.tmp 1) (.const (.int k n2)) (.tmp 3),u4,p4,a4,none⟩,⟨some 4,.build U #[(0,.func f3)],u5,p5,a5,none⟩,⟨none,.insert T (.tmp 1) (.const (.int k n3)) (.tmp 4),u6,p6,a6,none⟩,
   ⟨some 5,.build U #[(0,.func f4)],u7,p7,a7,none⟩,⟨none,.insert T (.tmp 1) (.const (.int k n4)) (.tmp 5),u8,p8,a8,none⟩,⟨some 6,.move (.tmp 1),u9,p9,a9,none⟩,⟨some 0,.assign (.tmp 6),u9,Td,a10,none⟩] false) S Q:=by
 rintro a w ⟨E,h⟩;refine wpIn_region ?_;show wpOpsIn _ _ _ _ _ [0,1,2,3,4,5,6,7,8,9,10] a w;have hS:∀(S:AS) (d:Nat) (x:AV),(S.set d x).n=S.n:=λ_ _ _=>rfl;rw[wpOpsIn_cons];refine cM (C:=C) rfl rfl (cO (C:=C) (by intro c h;cases h) run_make ?_);have g1:=h.put (d:=1) (x:=.sv (.v (.map (some w.heap.size)))) (v:=.map (some w.heap.size)) Y (by omega) gw;show wpOpsIn _ _ _ _ _ _ (a.put (some 1) _) _;generalize a.put (some 1) (.map (some w.heap.size))=b1 at g1⊢;rw[wpOpsIn_cons];refine cM (C:=C) rfl rfl (cO (C:=C) (by intro c h;cases h) (yX rfl rfl) ?_);have g2:=g1.put (d:=2) (x:=.sv (.v (.agg #[.func (.func f1) #[] #[]]))) (v:=.agg #[.func (.func f1) #[] #[]]) Y (by rw[hS];omega) gw;show wpOpsIn _ _ _ _ _ _ (b1.put (some 2) (.agg #[.func (.func f1) #[] #[]])) _;generalize b1.put (some 2) (.agg #[.func (.func f1) #[] #[]])=b2 at g2⊢;rw[wpOpsIn_cons];refine cM (C:=C) rfl rfl (cO (C:=C) (by intro c h;cases h) (yW (k:=k) (n:=n1) (v:=.agg #[.func (.func f1) #[] #[]]) (g2.ev (.tmp 1)) rfl (g2.ev (.tmp 2)) rfl) ?_);show wpOpsIn _ _ _ _ _ _ (b2.put none undef) _;rw[show b2.put none undef=b2 from rfl,wpOpsIn_cons];refine cM (C:=C) rfl rfl (cO (C:=C) (by intro c h;cases h) (yX rfl rfl) ?_)
 have g3:=g2.put (d:=3) (x:=.sv (.v (.agg #[.func (.func f2) #[] #[]]))) (v:=.agg #[.func (.func f2) #[] #[]]) Y (by rw[hS,hS];omega) gw;show wpOpsIn _ _ _ _ _ _ (b2.put (some 3) (.agg #[.func (.func f2) #[] #[]])) _;generalize b2.put (some 3) (.agg #[.func (.func f2) #[] #[]])=b3 at g3⊢;rw[wpOpsIn_cons];refine cM (C:=C) rfl rfl (cO (C:=C) (by intro c h;cases h) (yW (k:=k) (n:=n2) (v:=.agg #[.func (.func f2) #[] #[]]) (g3.ev (.tmp 1)) rfl (g3.ev (.tmp 3)) (by simpa using h2)) ?_);show wpOpsIn _ _ _ _ _ _ (b3.put none undef) _;rw[show b3.put none undef=b3 from rfl,wpOpsIn_cons];refine cM (C:=C) rfl rfl (cO (C:=C) (by intro c h;cases h) (yX rfl rfl) ?_);have g4:=g3.put (d:=4) (x:=.sv (.v (.agg #[.func (.func f3) #[] #[]]))) (v:=.agg #[.func (.func f3) #[] #[]]) Y (by rw[hS,hS,hS];omega) gw;show wpOpsIn _ _ _ _ _ _ (b3.put (some 4) (.agg #[.func (.func f3) #[] #[]])) _;generalize b3.put (some 4) (.agg #[.func (.func f3) #[] #[]])=b4 at g4⊢;rw[wpOpsIn_cons];refine cM (C:=C) rfl rfl (cO (C:=C) (by intro c h;cases h) (yW (k:=k) (n:=n3) (v:=.agg #[.func (.func f3) #[] #[]]) (g4.ev (.tmp 1)) rfl (g4.ev (.tmp 4)) (by simpa using h3)) ?_);show wpOpsIn _ _ _ _ _ _ (b4.put none undef) _
 rw[show b4.put none undef=b4 from rfl,wpOpsIn_cons];refine cM (C:=C) rfl rfl (cO (C:=C) (by intro c h;cases h) (yX rfl rfl) ?_);have g5:=g4.put (d:=5) (x:=.sv (.v (.agg #[.func (.func f4) #[] #[]]))) (v:=.agg #[.func (.func f4) #[] #[]]) Y (by rw[hS,hS,hS,hS];omega) gw;show wpOpsIn _ _ _ _ _ _ (b4.put (some 5) (.agg #[.func (.func f4) #[] #[]])) _;generalize b4.put (some 5) (.agg #[.func (.func f4) #[] #[]])=b5 at g5⊢;rw[wpOpsIn_cons];refine cM (C:=C) rfl rfl (cO (C:=C) (by intro c h;cases h) (yW (k:=k) (n:=n4) (v:=.agg #[.func (.func f4) #[] #[]]) (g5.ev (.tmp 1)) rfl (g5.ev (.tmp 5)) (by simpa using h4)) ?_);show wpOpsIn _ _ _ _ _ _ (b5.put none undef) _;have e1:b5.eval (.tmp 1)=.map (some w.heap.size):=g5.ev (.tmp 1);obtain⟨ms,hms⟩:∃ms:Array MapEntry,(((((#[]:Array MapEntry).push ⟨.int k n1,.agg #[.func (.func f1) #[] #[]],0⟩).push ⟨.int k n2,.agg #[.func (.func f2) #[] #[]],0+1⟩).push ⟨.int k n3,.agg #[.func (.func f3) #[] #[]],0+1+1⟩).push ⟨.int k n4,.agg #[.func (.func f4) #[] #[]],0+1+1+1⟩)=ms:=⟨_,Y⟩;rw[hms];have hno:∀o,E.M w.heap.size o=none:=λo=>by
  cases e:E.M w.heap.size o with
  |none=>rfl
  |some v=>have:=oq h.dM e;omega
 have g6:=g5.grow (M':=λb o=>if b=w.heap.size/\o=0 then some (.tuple (Oz ms))else E.M b o) (w':=qQ w ms (0+1+1+1+1)) (λb o v e=>by
   have:b≠w.heap.size:=by rintro rfl;rw[hno o]at e;cases e
   simp[this,e]) (λb o v e=>by
   by_cases hb:b=w.heap.size/\o=0
   ·exact .inr (by omega)
   ·simp only[if_neg hb]at e;exact .inl e) (λb o v e=>by
   by_cases hb:b=w.heap.size/\o=0
   ·simp only[if_pos hb]at e;obtain⟨rfl,rfl⟩:=hb;cases e;exact⟨ms,_,wL w ms _,Y⟩
   simp only[if_neg hb]at e;have hlt:=oq h.dM e;refine(h.dM b o v e).same ?_;show(w.heap.push _)[b]? =_;rw[Array.getElem?_push,if_neg (by omega)]) ((Below.refl _ _).alloc (Nat.le_refl _) _)
 have hm:∀X:Env,X.M w.heap.size 0=some (.tuple (Oz ms))->(LC [(.int k n1,.agg #[.func (.func f1) #[] #[]]),(.int k n2,.agg #[.func (.func f2) #[] #[]]),(.int k n3,.agg #[.func (.func f3) #[] #[]]),(.int k n4,.agg #[.func (.func f4) #[] #[]])]).h X.M (.map (some w.heap.size)):=λX hX=>by
  refine⟨_,Y,?_⟩;rw[hX,<-hms];rfl
 have g7:=g6.put (d:=6) (x:=.sv (.v (.map (some w.heap.size)))) (v:=.map (some w.heap.size)) Y (by rw[hS,hS,hS,hS,hS];omega) gw;rw[show b5.put none undef=b5 from rfl,wpOpsIn_cons];refine cM (C:=C) rfl rfl (cO (C:=C) (by intro c h;cases h) (r:=.ok (.value (.map (some w.heap.size))) _) (by show Result.ok (Next.value (b5.eval (.tmp 1))) _=_;rw[e1]) ?_);show wpOpsIn _ _ _ _ _ _ (b5.put (some 6) (.map (some w.heap.size))) _;generalize b5.put (some 6) (.map (some w.heap.size))=b6 at g7⊢;have e6:b6.eval (.tmp 6)=.map (some w.heap.size):=g7.ev (.tmp 6);have g8:=g7.put (d:=0) (x:=.sv (LC [(.int k n1,.agg #[.func (.func f1) #[] #[]]),(.int k n2,.agg #[.func (.func f2) #[] #[]]),(.int k n3,.agg #[.func (.func f3) #[] #[]]),(.int k n4,.agg #[.func (.func f4) #[] #[]])])) (v:=.map (some w.heap.size)) (hm _ (by simp)) (by rw[hS,hS,hS,hS,hS,hS];omega) gw;rw[wpOpsIn_cons];refine cM (C:=C) rfl rfl (cO (C:=C) (by intro c h;cases h) (r:=.ok (.value (.map (some w.heap.size))) _) (by show Result.ok (Next.value (b6.eval (.tmp 6))) _=_;rw[e6]) ?_);show wpOpsIn _ _ _ _ _ _ (b6.put (some 0) (.map (some w.heap.size))) _;rw[wpOpsIn];exact⟨_,hQ _ Y,_,g8⟩
end steps
theorem jS{P:Program}{b:Frame}{a:Act}{k:List Item}{cs:List Frame}{w:World}{c:Code}:step P (lone (b.atR a (.code (.scope c)::k)) cs w)=.next (lone (b.atR a (.code c:: .inScope c::k)) cs w):=
 step_lone_go (by simp[stepG,stepG.exec,Frame.atR])
theorem Bx{P:Program}{b:Frame}{a:Act}{k:List Item}{cs:List Frame}{w:World}{c:Code}:step P (lone (b.atR a (.inScope c::k)) cs w)=.next (lone (b.atR a k) cs w):=
 step_lone_go (by simp[stepG,stepG.exec,Frame.atR])
theorem G0{F:Fence}{n:Nat}{P:Program}{Q:Exit->Act->World->Prop}{a:Act}{w:World}{c:Code}(h:c.wpIn F n P (Exit.noGoto Q) a w):(Code.scope c).wpIn F n P Q a w:=by
 intro b k cs hro hb hr;have h0:(lone (b.atR a (.code (.scope c)::k)) cs w).fenced P F:=fenced_calm hb hr Y;obtain⟨e,a₁,w₁,hq,JV⟩:=h b (.inScope c::k) cs hro hb hr;cases e with
 |normal=>exact⟨.normal,a₁,w₁,hq,.head h0 jS (StepsIn.trans JV (.one (fenced_calm hb hr Y) Bx))⟩
 |exit id=>
  have hx:exitTo id (.inScope c::k)=exitTo id k:=by simp[exitTo]
  exact⟨.exit id,a₁,w₁,hq,λk' hk=>.head h0 jS (JV.1 k' (by rw[hx];exact hk)),
   λhr' hk=>let ⟨k₁,h1,h2⟩:=JV.2 hr' (by rw[hx];exact hk);⟨k₁,h1,.head h0 jS h2⟩⟩
 |goto l=>exact hq.elim
 |ret=>exact⟨_,a₁,w₁,hq,.of_steps (.one h0 jS) JV⟩
 |panic ch=>exact⟨_,a₁,w₁,hq,.of_steps (.one h0 jS) JV⟩
 |outgrown=>exact⟨_,a₁,w₁,hq,.of_steps (.one h0 jS) JV⟩
def O2(Q:Exit->AS->Prop):Exit->AS->Prop
 |.goto _,_=>False
 |e,S=>Q e S
section scope
variable {P:Program}{C:Ctx}{S:AS}{Q:Exit->AS->Prop}
theorem O2.r(h:Q .ret S):O2 Q .ret S:=h
theorem O2.x{id:Nat}(h:Q (.exit id) S):O2 Q (.exit id) S:=h
theorem LG{c:Code}(h:Ok P C c S (O2 Q)):Ok P C (.scope c) S Q:=λa w hs=>by
 refine G0 (wpIn_mono (h a w hs) ?_);rintro e a' w' ⟨S',q,hh⟩;cases e<;>first|exact⟨S',q,hh⟩|exact q.elim
theorem LH{l:Nat}(h:Q .normal S):Ok P C (.label l) S Q:=λ_ _ hs=>wpIn_label ⟨S,h,hs⟩
end scope
end
end Go.Fw
namespace Go.Proofs.YtfoldppidpmchaaGreat
section
open Go.Fw
open Go.Proofs
noncomputable abbrev ah:=Tryz.prog
instance:kW ah 2 .i64:=⟨by kernel_rfl⟩
instance:pz ah 2:=⟨by kernel_rfl,by kernel_rfl⟩
instance:jx ah 2 1 8 (.int .i64 0):=⟨by kernel_rfl,by rfl,by decide,by decide⟩
instance:kW ah 3 .i64:=⟨by kernel_rfl⟩
instance:pz ah 3:=⟨by kernel_rfl,by kernel_rfl⟩
instance:gJ ah 3 (.int .i64 0):=⟨by kernel_rfl⟩
instance:jx ah 3 1 8 (.int .i64 0):=⟨by kernel_rfl,by rfl,by decide,by decide⟩
instance:CY ah 4:=⟨by kernel_rfl⟩
instance:pz ah 4:=⟨by kernel_rfl,by kernel_rfl⟩
instance:gJ ah 4 (.bool false):=⟨by kernel_rfl⟩
instance:kW ah 5 .u8:=⟨by kernel_rfl⟩
instance:QM ah 9:=⟨by kernel_rfl⟩
instance:pz ah 23:=⟨by kernel_rfl,by kernel_rfl⟩
instance:jx ah 23 1 24 (.slice none 0 0):=⟨by kernel_rfl,by rfl,by decide,by decide⟩
instance:eV ah 23 24 1:=⟨by kernel_rfl,by kernel_rfl⟩
instance:pz ah 24:=⟨by kernel_rfl,by kernel_rfl⟩
instance:gJ ah 24 (.slice none 0 0):=⟨by kernel_rfl⟩
instance:jx ah 24 1 24 (.slice none 0 0):=⟨by kernel_rfl,by rfl,by decide,by decide⟩
instance:eV ah 24 36 4:=⟨by kernel_rfl,by kernel_rfl⟩
instance:wz ah 26 4:=⟨by kernel_rfl,by kernel_rfl⟩
instance:gJ ah 26 (.agg #[.int .i64 0,.slice none 0 0,.slice none 0 0,.slice none 0 0]):=⟨by kernel_rfl⟩
instance:iq ah 26 [(0,1),(1,1),(2,1),(3,1)] [.int .i64 0,.slice none 0 0,.slice none 0 0,.slice none 0 0]:=⟨by kernel_rfl,by kernel_rfl,by rfl⟩
instance:Bj ah 26 0 0 3:=⟨by kernel_rfl⟩
instance:Bj ah 26 1 1 23:=⟨by kernel_rfl⟩
instance:Bj ah 26 2 2 23:=⟨by kernel_rfl⟩
instance:Bj ah 26 3 3 24:=⟨by kernel_rfl⟩
instance:pz ah 32:=⟨by kernel_rfl,by kernel_rfl⟩
instance:gJ ah 32 (.slice none 0 0):=⟨by kernel_rfl⟩
instance:eV ah 32 106 1:=⟨by kernel_rfl,by kernel_rfl⟩
instance:wz ah 34 2:=⟨by kernel_rfl,by kernel_rfl⟩
instance:Cb ah 34:=⟨λw=>⟨1,wz.size (T:=34) (n:=2) w⟩⟩
instance:gJ ah 34 (.agg #[.bool false,.slice none 0 0]):=⟨by kernel_rfl⟩
instance:jx ah 34 2 32 (.agg #[.bool false,.slice none 0 0]):=⟨by kernel_rfl,by rfl,by decide,by decide⟩
instance:iq ah 34 [(0,1),(1,1)] [.bool false,.slice none 0 0]:=⟨by kernel_rfl,by kernel_rfl,by rfl⟩
instance:Bj ah 34 0 0 4:=⟨by kernel_rfl⟩
instance:Bj ah 34 1 1 32:=⟨by kernel_rfl⟩
instance:wz ah 36 4:=⟨by kernel_rfl,by kernel_rfl⟩
instance:Cb ah 36:=⟨λw=>⟨3,wz.size (T:=36) (n:=4) w⟩⟩
instance:gJ ah 36 (.agg #[.bool false,.slice none 0 0,.bool false,.slice none 0 0]):=⟨by kernel_rfl⟩
instance:jx ah 36 4 64 (.agg #[.bool false,.slice none 0 0,.bool false,.slice none 0 0]):=⟨by kernel_rfl,by rfl,by decide,by decide⟩
instance:iq ah 36 [(0,2),(2,2)] [.bool false,.slice none 0 0,.bool false,.slice none 0 0]:=⟨by kernel_rfl,by kernel_rfl,by rfl⟩
instance:Bj ah 36 0 0 34:=⟨by kernel_rfl⟩
instance:Bj ah 36 1 2 34:=⟨by kernel_rfl⟩
instance:pz ah 62:=⟨by kernel_rfl,by kernel_rfl⟩
instance:jx ah 62 1 24 (.slice none 0 0):=⟨by kernel_rfl,by rfl,by decide,by decide⟩
instance:eV ah 62 2 1:=⟨by kernel_rfl,by kernel_rfl⟩
instance:wz ah 71 4:=⟨by kernel_rfl,by kernel_rfl⟩
instance:gJ ah 71 (.agg #[.int .i64 0,.int .i64 0,.int .i64 0,.int .i64 0]):=⟨by kernel_rfl⟩
instance:iq ah 71 [(0,1),(1,1),(2,1),(3,1)] [.int .i64 0,.int .i64 0,.int .i64 0,.int .i64 0]:=⟨by kernel_rfl,by kernel_rfl,by rfl⟩
instance:Bj ah 71 0 0 3:=⟨by kernel_rfl⟩
instance:Bj ah 71 1 1 3:=⟨by kernel_rfl⟩
instance:Bj ah 71 2 2 3:=⟨by kernel_rfl⟩
instance:Bj ah 71 3 3 3:=⟨by kernel_rfl⟩
instance:wz ah 90 5:=⟨by kernel_rfl,by kernel_rfl⟩
instance:gJ ah 90 (.agg #[.slice none 0 0,.bool false,.slice none 0 0,.bool false,.slice none 0 0]):=⟨by kernel_rfl⟩
instance:jx ah 90 5 88 (.agg #[.slice none 0 0,.bool false,.slice none 0 0,.bool false,.slice none 0 0]):=⟨by kernel_rfl,by rfl,by decide,by decide⟩
instance:iq ah 90 [(0,1),(1,4)] [.slice none 0 0,.bool false,.slice none 0 0,.bool false,.slice none 0 0]:=⟨by kernel_rfl,by kernel_rfl,by rfl⟩
instance:Bj ah 90 0 0 24:=⟨by kernel_rfl⟩
instance:Bj ah 90 1 1 36:=⟨by kernel_rfl⟩
instance:pz ah 91:=⟨by kernel_rfl,by kernel_rfl⟩
instance:gJ ah 91 (.nilFunc):=⟨by kernel_rfl⟩
instance:eV ah 100 62 1:=⟨by kernel_rfl,by kernel_rfl⟩
instance:eV ah 101 23 1:=⟨by kernel_rfl,by kernel_rfl⟩
instance:kW ah 104 .u64:=⟨by kernel_rfl⟩
instance:pz ah 104:=⟨by kernel_rfl,by kernel_rfl⟩
instance:kW ah 106 .u32:=⟨by kernel_rfl⟩
instance:pz ah 106:=⟨by kernel_rfl,by kernel_rfl⟩
instance:jx ah 106 1 4 (.int .u32 0):=⟨by kernel_rfl,by rfl,by decide,by decide⟩
instance:pz ah 116:=⟨by kernel_rfl,by kernel_rfl⟩
instance:iq ah 118 [(0,1)] [.nilFunc]:=⟨by kernel_rfl,by kernel_rfl,by rfl⟩
instance:Bj ah 118 0 0 116:=⟨by kernel_rfl⟩
instance:IB ah 119 5 118:=⟨by kernel_rfl⟩
instance:eV ah 121 34 2:=⟨by kernel_rfl,by kernel_rfl⟩
instance:eV ah 125 90 5:=⟨by kernel_rfl,by kernel_rfl⟩
instance:eV ah 133 3 1:=⟨by kernel_rfl,by kernel_rfl⟩
instance:kW ah 140 .u64:=⟨by kernel_rfl⟩
instance:pz ah 141:=⟨by kernel_rfl,by kernel_rfl⟩
instance:gJ ah 141 (.nilFunc):=⟨by kernel_rfl⟩
instance:cZ ah 9:=⟨by kernel_rfl⟩
instance:cZ ah 10:=⟨by kernel_rfl⟩
instance:cZ ah 13:=⟨by kernel_rfl⟩
instance:cZ ah 14:=⟨by kernel_rfl⟩
instance:cZ ah 16:=⟨by kernel_rfl⟩
instance:cZ ah 17:=⟨by kernel_rfl⟩
instance:cZ ah 18:=⟨by kernel_rfl⟩
instance:cZ ah 20:=⟨by kernel_rfl⟩
instance:cZ ah 21:=⟨by kernel_rfl⟩
instance:cZ ah 22:=⟨by kernel_rfl⟩
instance:cZ ah 23:=⟨by kernel_rfl⟩
instance:cZ ah 24:=⟨by kernel_rfl⟩
instance:cZ ah 28:=⟨by kernel_rfl⟩
instance:cZ ah 30:=⟨by kernel_rfl⟩
instance:cZ ah 32:=⟨by kernel_rfl⟩
instance:cZ ah 33:=⟨by kernel_rfl⟩
instance:cZ ah 34:=⟨by kernel_rfl⟩
instance:cZ ah 35:=⟨by kernel_rfl⟩
instance:cZ ah 36:=⟨by kernel_rfl⟩
instance:cZ ah 37:=⟨by kernel_rfl⟩
instance:cZ ah 38:=⟨by kernel_rfl⟩
instance:cZ ah 39:=⟨by kernel_rfl⟩
instance:cZ ah 40:=⟨by kernel_rfl⟩
instance:cZ ah 41:=⟨by kernel_rfl⟩
instance:cZ ah 42:=⟨by kernel_rfl⟩
instance:cZ ah 43:=⟨by kernel_rfl⟩
instance:cZ ah 44:=⟨by kernel_rfl⟩
instance:cZ ah 45:=⟨by kernel_rfl⟩
instance:cZ ah 46:=⟨by kernel_rfl⟩
instance:cZ ah 48:=⟨by kernel_rfl⟩
instance:cZ ah 49:=⟨by kernel_rfl⟩
instance:cZ ah 50:=⟨by kernel_rfl⟩
instance:cZ ah 51:=⟨by kernel_rfl⟩
instance:cZ ah 54:=⟨by kernel_rfl⟩
instance:cZ ah 55:=⟨by kernel_rfl⟩
instance:cZ ah 56:=⟨by kernel_rfl⟩
instance:cZ ah 57:=⟨by kernel_rfl⟩
instance:cZ ah 58:=⟨by kernel_rfl⟩
instance:cZ ah 59:=⟨by kernel_rfl⟩
instance:cZ ah 62:=⟨by kernel_rfl⟩
instance:cZ ah 63:=⟨by kernel_rfl⟩
instance:cZ ah 64:=⟨by kernel_rfl⟩
instance:cZ ah 65:=⟨by kernel_rfl⟩
instance:cZ ah 66:=⟨by kernel_rfl⟩
instance:cZ ah 67:=⟨by kernel_rfl⟩
instance:cZ ah 68:=⟨by kernel_rfl⟩
instance:cZ ah 75:=⟨by kernel_rfl⟩
instance:cZ ah 76:=⟨by kernel_rfl⟩
instance:cZ ah 78:=⟨by kernel_rfl⟩
instance:cZ ah 79:=⟨by kernel_rfl⟩
instance:cZ ah 80:=⟨by kernel_rfl⟩
instance:cZ ah 81:=⟨by kernel_rfl⟩
instance:cZ ah 82:=⟨by kernel_rfl⟩
instance:cZ ah 83:=⟨by kernel_rfl⟩
instance:cZ ah 84:=⟨by kernel_rfl⟩
instance:cZ ah 85:=⟨by kernel_rfl⟩
instance:cZ ah 86:=⟨by kernel_rfl⟩
instance:cZ ah 88:=⟨by kernel_rfl⟩
instance:cZ ah 89:=⟨by kernel_rfl⟩
instance:cZ ah 90:=⟨by kernel_rfl⟩
instance:cZ ah 93:=⟨by kernel_rfl⟩
instance:cZ ah 94:=⟨by kernel_rfl⟩
instance:cZ ah 95:=⟨by kernel_rfl⟩
instance:cZ ah 96:=⟨by kernel_rfl⟩
instance:cZ ah 98:=⟨by kernel_rfl⟩
instance:cZ ah 99:=⟨by kernel_rfl⟩
instance:cZ ah 100:=⟨by kernel_rfl⟩
instance:cZ ah 101:=⟨by kernel_rfl⟩
instance:cZ ah 102:=⟨by kernel_rfl⟩
instance:cZ ah 106:=⟨by kernel_rfl⟩
instance:cZ ah 107:=⟨by kernel_rfl⟩
instance:cZ ah 108:=⟨by kernel_rfl⟩
instance:cZ ah 109:=⟨by kernel_rfl⟩
instance:cZ ah 112:=⟨by kernel_rfl⟩
instance:cZ ah 113:=⟨by kernel_rfl⟩
instance:cZ ah 114:=⟨by kernel_rfl⟩
instance:cZ ah 115:=⟨by kernel_rfl⟩
instance:cZ ah 116:=⟨by kernel_rfl⟩
instance:cZ ah 117:=⟨by kernel_rfl⟩
instance:cZ ah 118:=⟨by kernel_rfl⟩
instance:cZ ah 119:=⟨by kernel_rfl⟩
instance:cZ ah 120:=⟨by kernel_rfl⟩
instance:cZ ah 123:=⟨by kernel_rfl⟩
instance:cZ ah 124:=⟨by kernel_rfl⟩
instance:cZ ah 125:=⟨by kernel_rfl⟩
instance:cZ ah 126:=⟨by kernel_rfl⟩
instance:cZ ah 127:=⟨by kernel_rfl⟩
instance:cZ ah 128:=⟨by kernel_rfl⟩
instance:cZ ah 129:=⟨by kernel_rfl⟩
instance:cZ ah 130:=⟨by kernel_rfl⟩
instance:cZ ah 134:=⟨by kernel_rfl⟩
instance:cZ ah 135:=⟨by kernel_rfl⟩
instance:cZ ah 136:=⟨by kernel_rfl⟩
instance:cZ ah 137:=⟨by kernel_rfl⟩
instance:cZ ah 138:=⟨by kernel_rfl⟩
instance:cZ ah 139:=⟨by kernel_rfl⟩
instance:cZ ah 143:=⟨by kernel_rfl⟩
instance:cZ ah 144:=⟨by kernel_rfl⟩
instance:cZ ah 145:=⟨by kernel_rfl⟩
instance:cZ ah 146:=⟨by kernel_rfl⟩
instance:cZ ah 147:=⟨by kernel_rfl⟩
instance:cZ ah 148:=⟨by kernel_rfl⟩
instance:cZ ah 149:=⟨by kernel_rfl⟩
instance:cZ ah 151:=⟨by kernel_rfl⟩
instance:cZ ah 152:=⟨by kernel_rfl⟩
instance:cZ ah 153:=⟨by kernel_rfl⟩
instance:cZ ah 154:=⟨by kernel_rfl⟩
instance:cZ ah 157:=⟨by kernel_rfl⟩
instance:cZ ah 158:=⟨by kernel_rfl⟩
instance:cZ ah 159:=⟨by kernel_rfl⟩
instance:cZ ah 160:=⟨by kernel_rfl⟩
instance:cZ ah 161:=⟨by kernel_rfl⟩
instance:cZ ah 162:=⟨by kernel_rfl⟩
instance:cZ ah 163:=⟨by kernel_rfl⟩
instance:cZ ah 165:=⟨by kernel_rfl⟩
instance:cZ ah 166:=⟨by kernel_rfl⟩
instance:cZ ah 167:=⟨by kernel_rfl⟩
instance:cZ ah 168:=⟨by kernel_rfl⟩
instance:cZ ah 169:=⟨by kernel_rfl⟩
instance:cZ ah 170:=⟨by kernel_rfl⟩
theorem mixed:Tryz.prog.follows .mixedOrders=true:=by kernel_rfl
end
section
open Go.Fw Go.RowKit
def snap(W:World):Mem:=λb o=>(W.cell? ⟨b,o,none⟩).filter Value.oneCell'
theorem O3(W:World):(snap W).dM W:=λ_ _ _ e=>by
 obtain⟨e1,e2⟩:=Option.filter_eq_some_iff.1 e;exact .of e1 e2
theorem O4{W:World}{b o:Nat}{v:Value}(h:W.cell? ⟨b,o,none⟩=some v)(h1:v.oneCell'=true):snap W b o=some v:=Option.filter_eq_some_iff.2 ⟨h,h1⟩
theorem jT{H:Type}{P:Program}{ts:List TypeId}{ds:List (DataW H)}(j:Nat){t:TypeId}{d:DataW H}(h:(DataW.weightsEach P ts ds).all (· <=reachBytes)=true)(ht:ts[j]? =some t)(hd:ds[j]? =some d):(d.weights P t).all (· <=reachBytes)=true:=
 List.all_eq_true.2 λn hn=>List.all_eq_true.1 h n (DataW.weights_mem_each ht hd n hn)
theorem qR{H:Type}{P:Program}{e:TypeId}:∀{ds:List (DataW H)} {d:DataW H},d∈ds->∀n∈d.weights P e,n∈DataW.weightsAll P e ds
 |x::ds,d,h,n,hn=>by
  simp only[DataW.weightsAll,List.mem_append];rcases List.mem_cons.1 h with rfl|h
  ·exact .inl hn
  exact .inr (qR h n hn)
class Cm (P:Program) (T:TypeId) {α:Type} (e:α->List SV) (ok:outParam (α->Prop)) (sz:outParam (α->Nat)):Prop where
 h:∀{H:Type} (enc:TypeId×Value->H) (W:World) (fuel:Nat) (cs:List Value) (d:DataW H) (p:List MemPlace),DataW.trod enc P W 0 (λ_=>true) true fuel T cs=some (d,p)->(d.weights P T).all (· <=reachBytes)=true->
  ∃x:α,ok x/\SV.eK (snap W) (e x) cs/\(∀v∈cs,v.oneCell'=true)/\sz x<=Rows.uptoBulk d
section opn
variable {P:Program}{T:TypeId}
theorem G1{k:IntKind}{n:Int}(h:(Lit.int k n).wf=true):k.min<=n/\n<=k.max:=by simpa[Lit.wf]using h
instance[t:kW P T .i64]:Cm P T bL (λx=>-9223372036854775808<=x/\x<=9223372036854775807) (λ_=>1):=⟨λenc W fuel cs d p h Dg=>by
 obtain⟨n,rfl,hx,hw⟩:=DataW.trod_int t.h h;cases hx;have:=G1 hw;exact⟨n,by simpa[IntKind.min,IntKind.max,IntKind.signed,IntKind.bits]using this,⟨rfl,aq⟩,by simp[Value.oneCell'],by simp[Rows.uptoBulk]⟩⟩
instance[t:kW P T .i16]:Cm P T aal (λx=>-32768<=x/\x<=32767) (λ_=>1):=⟨λenc W fuel cs d p h Dg=>by
 obtain⟨n,rfl,hx,hw⟩:=DataW.trod_int t.h h;cases hx;have:=G1 hw;exact⟨n,by simpa[IntKind.min,IntKind.max,IntKind.signed,IntKind.bits]using this,⟨rfl,aq⟩,by simp[Value.oneCell'],by simp[Rows.uptoBulk]⟩⟩
theorem Wc{k:IntKind}{M:Nat}{e:Nat->List SV}(t:kW P T k)(hk:k.min=0/\k.max=(M:Int)-1)(he:∀n:Nat,e n=[.v (.int k (n:Int))]):Cm P T e (λx=>x<M) (λ_=>1):=⟨λenc W fuel cs d p h Dg=>by
 obtain⟨n,rfl,hx,hw⟩:=DataW.trod_int t.h h;cases hx;have:=G1 hw;rw[hk.1,hk.2]at this;obtain⟨m,rfl⟩:=Int.eq_ofNat_of_zero_le this.1;exact⟨m,by omega,by rw[he];exact⟨Y,aq⟩,by simp[Value.oneCell'],by simp[Rows.uptoBulk]⟩⟩
instance[t:kW P T .u32]:Cm P T aX (λx=>x<4294967296) (λ_=>1):=Wc t (by decide) (λ_=>rfl)
instance[t:CY P T]:Cm P T eB (λ_=>True) (λ_=>1):=⟨λenc W fuel cs d p h Dg=>by
 obtain⟨b,rfl,hx⟩:=DataW.trod_bool t.h h;cases hx;exact⟨b,aq,⟨rfl,aq⟩,by simp[Value.oneCell'],by simp[Rows.uptoBulk]⟩⟩
theorem EW{H α:Type}(sz:α->Nat):∀(xs:List α) (ds:List (DataW H)),xs.length=ds.length->(∀(i:Nat) (x:α) (d:DataW H),xs[i]? =some x->ds[i]? =some d->sz x<=Rows.uptoBulk d)->(xs.map sz).sum<=Rows.uptoBulkAll ds
 |[],[],_,_=>by simp
 |x::xs,d::ds,hl,h=>by
  have h1:=h 0 x d Y Y;have h2:=EW sz xs ds (by simpa using hl) (λi x d e1 e2=>h (i+1) x d (by simpa using e1) (by simpa using e2));simp only[List.map_cons,List.sum_cons,Rows.uptoBulkAll];omega
 |[],_::_,hl,_=>by simp at hl
 |_::_,[],hl,_=>by simp at hl
instance{E:TypeId}{n:Nat}{α:Type}{e:α->List SV}{ok:α->Prop}{sz:α->Nat}{by_:Nat}{zv:Value}[t:eV P T E n][tE:jx P E n by_ zv][el:EL e n][o:Cm P E e ok sz]:Cm P T (eS n e) (λl=>l.length*by_<=140737488351232/\∀x∈l,ok x) (λl=>(l.map sz).sum+1):=⟨λ{H} enc W fuel cs d p h Dg=>by
 have hcell:P.cellsOf E=n:=by
  have h1:=t.size W;simp only[sizeOf,typeInfo]at h1;cases hi:P.info? E with
  |none=>simp[hi]at h1
  |some i=>simp[hi]at h1;simp[Program.cellsOf,hi,h1]
 have hml:maxLen=9223372036854775807:=by decide
 have hby:P.bytesOf E=by_:=by
  obtain⟨i,hi,_,hb,_⟩:=tE.info;rw[Program.bytesOf,hi];exact hb
 rcases Deep.open_slice t.u h with⟨rfl,hx⟩|⟨a,len,cap,m,n',D,Pl,rfl,_,hl,hm,hmm,hx,hel⟩
 ·cases hx;exact⟨[],⟨by simp,by simp⟩,⟨.inl ⟨none,rfl,rfl⟩,aq⟩,by simp[Value.oneCell'],by simp[Rows.uptoBulk]⟩
 cases hx;rw[if_pos rfl]at hmm;subst hmm;simp only[DataW.weights,t.u,List.all_cons,List.all_append,Bool.and_eq_true,List.length_map,List.length_range,decide_eq_true_eq,hby]at Dg;obtain⟨JW,Yx,Wd⟩:=Dg;have hwi:∀i,i<m->((D i).weights P E).all (· <=reachBytes)=true:=λi hi=>List.all_eq_true.2 λn hn=>by
  rcases Nat.lt_or_ge i len with q|q
  ·exact List.all_eq_true.1 Yx n (qR (List.mem_map.2 ⟨i,List.mem_range.2 q,rfl⟩) n hn)
  exact List.all_eq_true.1 Wd n (qR (List.mem_map.2 ⟨i-len,List.mem_range.2 (by omega),by rw[show len+(i-len)=i by omega]⟩) n hn)
 have hlb:len*by_<=140737488351232:=Nat.le_trans (Nat.mul_le_mul_right _ (Nat.le_add_right _ _)) JW;have one:∀i,i<m->∃x,ok x/\sz x<=Rows.uptoBulk (D i)/\∃cs',W.cells? 0 (a.add (i*n)) n=some cs'/\SV.eK (snap W) (e x) cs'/\(∀v∈cs',v.oneCell'=true):=by
  intro i hi;obtain⟨cs',h1,h2⟩:=hel i hi;obtain⟨x,q1,q2,q3,q4⟩:=o.h enc W n' cs' (D i) (Pl i) h2 (hwi i hi);rw[hcell]at h1;exact⟨x,q1,q4,cs',h1,q2,q3⟩
 obtain⟨xs,Vj,hxs⟩:∃xs:List α,xs.length=len/\∀(i:Nat) (x:α),xs[i]? =some x->ok x/\sz x<=Rows.uptoBulk (D i)/\∃cs',W.cells? 0 (a.add (i*n)) n=some cs'/\SV.eK (snap W) (e x) cs'/\(∀v∈cs',v.oneCell'=true):=by
  clear h hm hel;have:∀k,k<=len->∃xs:List α,xs.length=k/\∀(i:Nat) (x:α),xs[i]? =some x->ok x/\sz x<=Rows.uptoBulk (D i)/\∃cs',W.cells? 0 (a.add (i*n)) n=some cs'/\SV.eK (snap W) (e x) cs'/\(∀v∈cs',v.oneCell'=true):=by
   intro k
   induction k with
   |zero=>intro _;exact⟨[],rfl,by simp⟩
   |succ k ih=>
    intro hk;obtain⟨xs,h1,h2⟩:=ih (by omega);obtain⟨x,hx⟩:=one k (by omega);refine⟨xs++[x],by simp[h1],λi y hy=>?_⟩;rcases Nat.lt_or_ge i k with hi|hi
    ·exact h2 i y (by rwa[List.getElem?_append_left (by omega)]at hy)
    rw[List.getElem?_append_right (by omega)]at hy;have ZW:i=k:=by
     rcases Nat.lt_or_ge (i-xs.length) 1 with q|q
     ·omega
     rw[List.getElem?_eq_none (by simpa using q)]at hy;cases hy
    subst ZW;rw[h1,Nat.sub_self]at hy;simp at hy;subst hy;exact hx
  exact this len (Nat.le_refl _)
 refine⟨xs,⟨by rw[Vj];exact hlb,λx hx=>?_⟩,⟨?_,aq⟩,by simp[Value.oneCell'],?_⟩
 ·obtain⟨i,hi,rfl⟩:=List.getElem_of_mem hx;exact(hxs i _ (List.getElem?_eq_getElem hi)).1
 ·by_cases h0:xs=[]
  ·subst h0;simp at Vj;subst Vj;by_cases hc0:m=0
   ·subst hc0;exact .inl ⟨_,rfl,rfl⟩
   obtain⟨x,_,_,cs',g1,g2,_⟩:=one 0 (by omega);obtain⟨_,g3,g4⟩:=World.cells?_some g1;have hn:0<n:=tE.p;have g5:=g4 0 hn;obtain⟨b,o',spot⟩:=a;have LI:spot=none:=by
    have:∃v,W.cell? (((⟨b,o',spot⟩:Addr).add (0*n)).add 0)=some v:=by
     rw[g5];exact⟨_,List.getElem?_eq_getElem (by omega)⟩
    obtain⟨v,hv⟩:=this;simpa[Addr.add]using World.cell?_spot hv
   subst LI;refine .inr ⟨b,o',m,rfl,by simp,by simp,λi row hr=>by simp at hr⟩
  have tG:0<len:=by
   rcases Nat.eq_zero_or_pos len with hz|hz
   ·exact absurd (List.eq_nil_of_length_eq_zero (by omega)) h0
   exact hz
  have hn:0<n:=tE.p;obtain⟨x,_,_,cs',g1,g2,_⟩:=one 0 (by omega);obtain⟨_,g3,g4⟩:=World.cells?_some g1;have g5:=g4 0 hn;obtain⟨b,o',spot⟩:=a;have LI:spot=none:=by
   have:∃v,W.cell? (((⟨b,o',spot⟩:Addr).add (0*n)).add 0)=some v:=by
    rw[g5];exact⟨_,List.getElem?_eq_getElem (by omega)⟩
   obtain⟨v,hv⟩:=this;simpa[Addr.add]using World.cell?_spot hv
  subst LI;refine .inr ⟨b,o',m,by rw[List.length_map,Vj],by rw[List.length_map];omega,by rw[List.length_map];omega,λi row hr=>?_⟩;rw[List.getElem?_map]at hr;cases hx:xs[i]? with
  |none=>rw[hx]at hr;cases hr
  |some y=>
   rw[hx]at hr;have hr:e y=row:=Option.some.inj hr;subst hr;obtain⟨_,_,cs2,k1,k2,k3⟩:=hxs i y hx;obtain⟨_,k4,k5⟩:=World.cells?_some k1;refine⟨el.len y,λk s hk=>?_⟩;obtain⟨u,hu,hs⟩:=k2.get hk;have hkn:k<n:=by have:=(List.getElem?_eq_some_iff.1 hu).1;omega
   have k6:=k5 k hkn;rw[fM,fM,hu]at k6;exact⟨u,O4 k6 (k3 u (List.mem_of_getElem? hu)),k3 u (List.mem_of_getElem? hu),hs⟩
 have hb:Rows.uptoBulk (DataW.slice ((List.range len).map D) ((List.range (m-len)).map λj=>D (len+j)))=Rows.uptoBulkAll ((List.range len).map D)+Rows.uptoBulkAll ((List.range (m-len)).map λj=>D (len+j))+1:=rfl;rw[hb];have:=EW sz xs ((List.range len).map D) (by simp[Vj]) (λi x d e1 e2=>by
  have hi:i<len:=by have:=(List.getElem?_eq_some_iff.1 e1).1;omega
  simp[hi]at e2;subst e2;exact(hxs i x e1).2.1)
 omega⟩
class We (P:Program) (T:TypeId) (k:outParam Nat):Prop where
 h:(match P.underlying T with|some (.struct fs)=>some fs.size|_=>none)=some k
theorem Dh{k:Nat}[s:We P T k]{H:Type}{enc:TypeId×Value->H}{W:World}{fuel:Nat}{cs:List Value}{d:DataW H}{p:List MemPlace}(h:DataW.trod enc P W 0 (λ_=>true) true fuel T cs=some (d,p))(Dg:(d.weights P T).all (· <=reachBytes)=true):
  ∃(xs:List (DataW H×List MemPlace)) (n:Nat),d=.agg (xs.map (·.1))/\cs.length=P.cellsOf T/\xs.length=k/\∀(i off:Nat) (U:TypeId),Bj P T i off U->DataW.trod enc P W 0 (λ_=>true) true n U ((cs.drop off).take (P.cellsOf U))=xs[i]? /\∀x,xs[i]? =some x->(x.1.weights P U).all (· <=reachBytes)=true:=by
 have hs:=s.h;cases hT:P.underlying T with
 |none=>rw[hT]at hs;cases hs
 |some u=>
  rw[hT]at hs;cases u with
  |struct fs=>
   have hk:fs.size=k:=Option.some.inj hs;obtain⟨xs,n,_,hx,hl,hn,hf⟩:=DataW.trod_struct hT h;have hd:=(Prod.mk.inj hx).1;subst hd;refine⟨xs,n,Y,hl,by omega,λi off U F=>?_⟩;have hF:=F.h;rw[hT]at hF;simp only at hF;cases hg:fs[i]? with
   |none=>rw[hg]at hF;cases hF
   |some f=>
    rw[hg]at hF;simp only[Option.map_some,Option.some.injEq,Prod.mk.injEq]at hF;have:=hf i f hg;rw[hF.1,hF.2]at this;refine⟨this,λx hxi=>?_⟩;simp only[DataW.weights,hT]at Dg;exact jT i Dg (by rw[List.getElem?_map,Array.getElem?_toList,hg,Option.map_some,hF.2]) (by rw[List.getElem?_map,hxi];rfl)
  |_=>cases hs
class Wf (P:Program) (T:TypeId):Prop where
 h:∀(w:World) (r:Reach) (base:Nat) (v:Value),Value.okWide P w r base T v->v.cells.toList=[v]
instance{E:TypeId}{n:Nat}[t:eV P T E n]:Wf P T:=⟨λw r base v h=>by
 obtain⟨a,l,c,rfl⟩:=WideShapes.okWide_slice t.u h;rfl⟩
theorem Di{α:Type}{e:α->List SV}{ok:α->Prop}{sz:α->Nat}[o1:Wf P T][o:Cm P T e ok sz]{H:Type}{enc:TypeId×Value->H}{W:World}{r:Reach}{base:Nat}{v:Value}{d:DataW H}{p:List MemPlace}
  (hv:Value.okWide P W r base T v) (h:DataW.Trod enc P W 0 (λ_=>true) true T v d p) (Dg:(d.weights P T).all (· <=reachBytes)=true):∃x,ok x/\sz x<=Rows.uptoBulk d/\SV.eK (snap W) (e x) [v]:=by
 obtain⟨fuel,h⟩:=h;rw[o1.h W r base v hv]at h;obtain⟨x,h1,h2,_,h4⟩:=o.h enc W fuel _ d p h Dg;exact⟨x,h1,h4,h2⟩
theorem ID{α:Type}{e:α->List SV}{ok:α->Prop}{sz:α->Nat}{k:Nat}[s:We P T k][o:Cm P T e ok sz]{H:Type}{enc:TypeId×Value->H}{W:World}{r:Reach}{base:Nat}{v:Value}{d:DataW H}{p:List MemPlace}
  (hv:Value.okWide P W r base T v) (h:DataW.Trod enc P W 0 (λ_=>true) true T v d p) (Dg:(d.weights P T).all (· <=reachBytes)=true):∃x,ok x/\sz x<=Rows.uptoBulk d/\(SV.agg (e x)).h (snap W) v:=by
 have hs:=s.h;cases hT:P.underlying T with
 |none=>rw[hT]at hs;cases hs
 |some u=>
  rw[hT]at hs;cases u with
  |struct fs=>
   obtain⟨cs,rfl,_⟩:=WideShapes.okWide_struct hT hv;obtain⟨fuel,h⟩:=h;obtain⟨x,h1,h2,_,h4⟩:=o.h enc W fuel _ d p h Dg;exact⟨x,h1,h4,cs.toList,Y,h2⟩
  |_=>cases hs
end opn
theorem O5{f:FuncId}{vs:List Value}{svs:List SV}{W:World}(hp:Pure ah f svs (.v (.bool true)))(h:SV.eK (snap W) svs vs):
  Calls ah f ⟨vs⟩ W λe w'=>e=.returned (.bool true)/\Below W.heap.size W w':=
 (hp (snap W) W vs (O3 W) h).mono λ_ _ ⟨v,_,h1,_,_,_,h2,h3⟩=>by
  have h2:v=.bool true:=h2;exact⟨by rw[h1,h2],h3⟩
end
section
open Go.Fw Go.RowKit Go.ChangeShapes Go.WideShapes Go.ChangeAt
theorem aaw:ownKnob Tryz.prog.godebug=none:=by kernel_rfl
theorem qS:laidOutB ah=true:=by kernel_rfl
instance:We ah 34 2:=⟨by kernel_rfl⟩
set_option maxRecDepth 100000 in
instance:Cm ah 34 eZ (λ(z:Zr)=>(True/\(z.w.length*4<=140737488351232/\∀x1∈z.w,x1<4294967296))) (λ(z:Zr)=>(1+((z.w.map λx1=>1).sum+1)+1)):=⟨λenc W fuel cs d p h Dg=>by
 obtain⟨xs,n,rfl,hl,hn,hf⟩:=Dh h Dg;have hl:cs.length=2:=hl.trans (by kernel_rfl)
 match xs,hn with
 |[⟨d0,p0⟩,⟨d1,p1⟩],_=>
 match cs,hl with
 |[c0,c1],_=>
 have t0:DataW.trod enc ah W 0 (λ_=>true) true n 4 [c0]=some (d0,p0):=(by have q:=(hf 0 _ _ inferInstance).1;rw[show Tryz.prog.cellsOf 4=1 by kernel_rfl]at q;exact q);obtain⟨x0,a0,b0,e0,s0⟩:=Cm.h (P:=ah) (T:=4) (e:=eB) enc W n _ d0 p0 t0 ((hf 0 _ _ inferInstance).2 _ Y);have t1:DataW.trod enc ah W 0 (λ_=>true) true n 32 [c1]=some (d1,p1):=(by have q:=(hf 1 _ _ inferInstance).1;rw[show Tryz.prog.cellsOf 32=1 by kernel_rfl]at q;exact q);obtain⟨x1,a1,b1,e1,s1⟩:=Cm.h (P:=ah) (T:=32) (e:=(eS 1 aX)) enc W n _ d1 p1 t1 ((hf 1 _ _ inferInstance).2 _ Y);refine⟨⟨x0,x1⟩,⟨a0,a1⟩,⟨b0.1,b1.1,aq⟩,?_,?_⟩
 ·intro v hv;simp only[List.mem_cons,List.not_mem_nil,or_false]at hv;rcases hv with rfl|rfl
  ·exact e0 _ (by simp)
  exact e1 _ (by simp)
 simp only[List.map_cons,List.map_nil,Rows.uptoBulk,Rows.uptoBulkAll];omega⟩
instance:We ah 36 2:=⟨by kernel_rfl⟩
set_option maxRecDepth 100000 in
instance:Cm ah 36 eQ (λ(z:Qr)=>((True/\(z.num.w.length*4<=140737488351232/\∀x1∈z.num.w,x1<4294967296))/\(True/\(z.den.w.length*4<=140737488351232/\∀x1∈z.den.w,x1<4294967296)))) (λ(z:Qr)=>((1+((z.num.w.map λx1=>1).sum+1)+1)+(1+((z.den.w.map λx1=>1).sum+1)+1)+1)):=⟨λenc W fuel cs d p h Dg=>by
 obtain⟨xs,n,rfl,hl,hn,hf⟩:=Dh h Dg;have hl:cs.length=4:=hl.trans (by kernel_rfl)
 match xs,hn with
 |[⟨d0,p0⟩,⟨d1,p1⟩],_=>
 match cs,hl with
 |[c0,c1,c2,c3],_=>
 have t0:DataW.trod enc ah W 0 (λ_=>true) true n 34 [c0,c1]=some (d0,p0):=(by have q:=(hf 0 _ _ inferInstance).1;rw[show Tryz.prog.cellsOf 34=2 by kernel_rfl]at q;exact q);obtain⟨x0,a0,b0,e0,s0⟩:=Cm.h (P:=ah) (T:=34) (e:=eZ) enc W n _ d0 p0 t0 ((hf 0 _ _ inferInstance).2 _ Y);have t1:DataW.trod enc ah W 0 (λ_=>true) true n 34 [c2,c3]=some (d1,p1):=(by have q:=(hf 1 _ _ inferInstance).1;rw[show Tryz.prog.cellsOf 34=2 by kernel_rfl]at q;exact q);obtain⟨x1,a1,b1,e1,s1⟩:=Cm.h (P:=ah) (T:=34) (e:=eZ) enc W n _ d1 p1 t1 ((hf 1 _ _ inferInstance).2 _ Y);refine⟨⟨x0,x1⟩,⟨a0,a1⟩,⟨b0.1,b0.2.1,b1.1,b1.2.1,aq⟩,?_,?_⟩
 ·intro v hv;simp only[List.mem_cons,List.not_mem_nil,or_false]at hv;rcases hv with rfl|rfl|rfl|rfl
  ·exact e0 _ (by simp)
  ·exact e0 _ (by simp)
  ·exact e1 _ (by simp)
  exact e1 _ (by simp)
 simp only[List.map_cons,List.map_nil,Rows.uptoBulk,Rows.uptoBulkAll];omega⟩
instance:We ah 26 4:=⟨by kernel_rfl⟩
set_option maxRecDepth 100000 in
instance:Cm ah 26 zR (λ(z:Lr)=>((-9223372036854775808<=z.vars/\z.vars<=9223372036854775807)/\(z.ud.length*24<=140737488351232/\∀x1∈z.ud,(x1.length*64<=140737488351232/\∀x2∈x1,((True/\(x2.num.w.length*4<=140737488351232/\∀x3∈x2.num.w,x3<4294967296))/\(True/\(x2.den.w.length*4<=140737488351232/\∀x3∈x2.den.w,x3<4294967296)))))/\(z.rows.length*24<=140737488351232/\∀x1∈z.rows,(x1.length*64<=140737488351232/\∀x2∈x1,((True/\(x2.num.w.length*4<=140737488351232/\∀x3∈x2.num.w,x3<4294967296))/\(True/\(x2.den.w.length*4<=140737488351232/\∀x3∈x2.den.w,x3<4294967296)))))/\(z.bounds.length*64<=140737488351232/\∀x1∈z.bounds,((True/\(x1.num.w.length*4<=140737488351232/\∀x2∈x1.num.w,x2<4294967296))/\(True/\(x1.den.w.length*4<=140737488351232/\∀x2∈x1.den.w,x2<4294967296)))))) (λ(z:Lr)=>(1+((z.ud.map λx1=>((x1.map λx2=>((1+((x2.num.w.map λx3=>1).sum+1)+1)+(1+((x2.den.w.map λx3=>1).sum+1)+1)+1)).sum+1)).sum+1)+((z.rows.map λx1=>((x1.map λx2=>((1+((x2.num.w.map λx3=>1).sum+1)+1)+(1+((x2.den.w.map λx3=>1).sum+1)+1)+1)).sum+1)).sum+1)+((z.bounds.map λx1=>((1+((x1.num.w.map λx2=>1).sum+1)+1)+(1+((x1.den.w.map λx2=>1).sum+1)+1)+1)).sum+1)+1)):=⟨λenc W fuel cs d p h Dg=>by
 obtain⟨xs,n,rfl,hl,hn,hf⟩:=Dh h Dg;have hl:cs.length=4:=hl.trans (by kernel_rfl)
 match xs,hn with
 |[⟨d0,p0⟩,⟨d1,p1⟩,⟨d2,p2⟩,⟨d3,p3⟩],_=>
 match cs,hl with
 |[c0,c1,c2,c3],_=>
 have t0:DataW.trod enc ah W 0 (λ_=>true) true n 3 [c0]=some (d0,p0):=(by have q:=(hf 0 _ _ inferInstance).1;rw[show Tryz.prog.cellsOf 3=1 by kernel_rfl]at q;exact q);obtain⟨x0,a0,b0,e0,s0⟩:=Cm.h (P:=ah) (T:=3) (e:=bL) enc W n _ d0 p0 t0 ((hf 0 _ _ inferInstance).2 _ Y);have t1:DataW.trod enc ah W 0 (λ_=>true) true n 23 [c1]=some (d1,p1):=(by have q:=(hf 1 _ _ inferInstance).1;rw[show Tryz.prog.cellsOf 23=1 by kernel_rfl]at q;exact q);obtain⟨x1,a1,b1,e1,s1⟩:=Cm.h (P:=ah) (T:=23) (e:=(eS 1 (eS 4 eQ))) enc W n _ d1 p1 t1 ((hf 1 _ _ inferInstance).2 _ Y);have t2:DataW.trod enc ah W 0 (λ_=>true) true n 23 [c2]=some (d2,p2):=(by have q:=(hf 2 _ _ inferInstance).1;rw[show Tryz.prog.cellsOf 23=1 by kernel_rfl]at q;exact q);obtain⟨x2,a2,b2,e2,s2⟩:=Cm.h (P:=ah) (T:=23) (e:=(eS 1 (eS 4 eQ))) enc W n _ d2 p2 t2 ((hf 2 _ _ inferInstance).2 _ Y);have t3:DataW.trod enc ah W 0 (λ_=>true) true n 24 [c3]=some (d3,p3):=(by have q:=(hf 3 _ _ inferInstance).1;rw[show Tryz.prog.cellsOf 24=1 by kernel_rfl]at q;exact q);obtain⟨x3,a3,b3,e3,s3⟩:=Cm.h (P:=ah) (T:=24) (e:=(eS 4 eQ)) enc W n _ d3 p3 t3 ((hf 3 _ _ inferInstance).2 _ Y);refine⟨⟨x0,x1,x2,x3⟩,⟨a0,a1,a2,a3⟩,⟨b0.1,b1.1,b2.1,b3.1,aq⟩,?_,?_⟩
 ·intro v hv;simp only[List.mem_cons,List.not_mem_nil,or_false]at hv;rcases hv with rfl|rfl|rfl|rfl
  ·exact e0 _ (by simp)
  ·exact e1 _ (by simp)
  ·exact e2 _ (by simp)
  exact e3 _ (by simp)
 simp only[List.map_cons,List.map_nil,Rows.uptoBulk,Rows.uptoBulkAll];omega⟩
end
end Go.Proofs.YtfoldppidpmchaaGreat
namespace Go.Fw
section
open Go.RowKit
theorem oP{S:AS}(i o k:Nat)(E0:TypeId)(sz:Nat){T:TypeId}{cells:List AV}(hb:S.b i=some ⟨T,cells⟩)(hc:cells[o]? =some (.sv (.v (.slice none 0 0))))(hk:S.r k=.un)(VX:k<1000):
  qG S ((AS.cg [(k,.live ⟨E0,sz,0,[]⟩)] S).kP i ⟨T,cells.set o (.row k)⟩):=by
 rintro C a w ⟨E,h⟩;have h1:=h.newRow hk VX [] none (.inl ⟨Y,Y⟩) (R':=⟨E0,sz,0,[]⟩) (World.ownsRow_nil w 0 E0 sz) (vs':=[]) trivial (.inl Y) (pI w none);have wE:(AS.cg [(k,.live ⟨E0,sz,0,[]⟩)] S).b i=some ⟨T,cells⟩:=hb;have hrk:(AS.cg [(k,.live ⟨E0,sz,0,[]⟩)] S).r k≠ .un:=by
  show(AS.pq S k _).r k≠_;rw[AS.gI];simp
 refine⟨_,{h1 with wf:=?_,bx:=λj B hB=>?_,inj:=λj j' B B' hB jv e=>?_,rx:=λj R hR=>?_}⟩
 ·refine⟨λt j hj=>?_,h1.wf.tr,λj B hB x hx m hm=>?_,λj B hB x hx m hm=>?_⟩
  ·obtain⟨B,hB⟩:=h1.wf.tb t j hj;by_cases e:j=i
   ·subst e;exact⟨_,AS.dm _ _ _⟩
   exact⟨B,by rw[AS.bT _ _ _ _ e];exact hB⟩
  ·have key:∃B',(AS.cg [(k,.live ⟨E0,sz,0,[]⟩)] S).b m=some B':=by
    by_cases e:j=i
    ·subst e;rw[AS.dm]at hB;cases hB;rcases List.mem_or_eq_of_mem_set hx with hx|rfl
     ·exact h1.wf.bb j _ wE x hx m hm
     exact hm.elim
    rw[AS.bT _ _ _ _ e]at hB;exact h1.wf.bb j B hB x hx m hm
   obtain⟨B',jv⟩:=key;by_cases e:m=i
   ·subst e;exact⟨_,AS.dm _ _ _⟩
   exact⟨B',by rw[AS.bT _ _ _ _ e];exact jv⟩
  by_cases e:j=i
  ·subst e;rw[AS.dm]at hB;cases hB;rcases List.mem_or_eq_of_mem_set hx with hx|rfl
   ·exact h1.wf.br j _ wE x hx m hm
   cases hm;exact hrk
  rw[AS.bT _ _ _ _ e]at hB;exact h1.wf.br j B hB x hx m hm
 ·by_cases e:j=i
  ·subst e;rw[AS.dm]at hB;cases hB;obtain⟨q1,q2,q3,vs,q4,q5⟩:=h1.bx j _ wE;refine⟨q1,q2,q3,vs,q4,?_⟩;obtain⟨x,hx,hv⟩:=q5.get hc;have hv:x=.slice none 0 0:=hv;have:=dw.set (i:=o) (s:=.row k) (x:=x) q5 (by
    show x=if k=k then _ else _;rw[if_pos rfl];exact hv)
   have he:vs.set o x=vs:=by
    apply List.ext_getElem?;intro n;rw[List.getElem?_set];split
    ·rename_i hn;subst hn;rw[hx];split<;>rename_i hl
     ·rfl
     have:=(List.getElem?_eq_some_iff.1 hx).1;exact absurd this hl
    rfl
   rwa[he]at this
  rw[AS.bT _ _ _ _ e]at hB;exact h1.bx j B hB
 ·have old:∀n B,((AS.cg [(k,.live ⟨E0,sz,0,[]⟩)] S).kP i ⟨T,cells.set o (.row k)⟩).b n=some B->∃B',(AS.cg [(k,.live ⟨E0,sz,0,[]⟩)] S).b n=some B':=λn B hn=>by
   by_cases e:n=i
   ·subst e;exact⟨_,wE⟩
   rw[AS.bT _ _ _ _ e]at hn;exact⟨B,hn⟩
  obtain⟨B1,p1⟩:=old j B hB;obtain⟨B2,p2⟩:=old j' B' jv;exact h1.inj j j' B1 B2 p1 p2 e
 obtain⟨p1,p2⟩:=h1.rx j R hR;refine⟨p1,λg hg=>?_⟩;obtain⟨p3,p4,p5,p6⟩:=p2 g hg;refine⟨p3,p4,p5,λn B hn=>?_⟩;by_cases e:n=i
 ·subst e;exact p6 n _ wE
 rw[AS.bT _ _ _ _ e]at hn;exact p6 n B hn
end
section
open Go.RowKit
section part
variable {P:Program}{C:Ctx}{ops:Array Oper}{acts:List Ac}{S:AS}
def uZ(ops:Array Oper)(m:Nat)(acts:List Ac):Bool:=
 let b:=Region.before ops
 (acts.length==m)&&(decide (m<=ops.size))&&
 (ops.toList.zipIdx.all λ(o,j)=>o.after.all λe=>!Region.binds .any e||decide (e.on<j))&&
 (acts.zipIdx.all λ(y,j)=>acts.zipIdx.all λ(x,i)=>!(decide (i<j))|| !(x.kV y)||(b.getD j 0).testBit i)&&
 ((List.range ops.size).all λj=>!(decide (m<=j))||(List.range j).all λi=>(b.getD j 0).testBit i)
theorem qT{m:Nat}(h:uZ ops m acts=true):acts.length=m/\m<=ops.size/\
  (∀(j:Nat) (o:Oper),ops[j]? =some o->∀e∈o.after,Region.binds .any e=true->e.on<j)/\
  (∀(i j:Nat) (x y:Ac),acts[i]? =some x->acts[j]? =some y->i<j->x.kV y=true->((Region.before ops).getD j 0).testBit i=true)/\
  (∀i j:Nat,m<=j->j<ops.size->i<j->((Region.before ops).getD j 0).testBit i=true):=by
 simp only[uZ,Bool.and_eq_true,beq_iff_eq,List.all_eq_true,decide_eq_true_eq]at h;obtain⟨⟨⟨⟨h1,h0⟩,h2⟩,h3⟩,h4⟩:=h;refine⟨h1,h0,?_,?_,?_⟩
 ·intro j o ho e he hb;have:=h2 (o,j) (List.mem_zipIdx_iff_getElem?.2 (by simpa using ho));simp only[Array.all_eq_true_iff_forall_mem]at this;have:=this e he;simpa[hb]using this
 ·intro i j x y hx hy hij hc;have:=h3 (y,j) (List.mem_zipIdx_iff_getElem?.2 (by simpa using hy)) (x,i) (List.mem_zipIdx_iff_getElem?.2 (by simpa using hx));simpa[hij,hc]using this
 intro i j hm hj hij;have:=h4 j (List.mem_range.2 hj);simp only[hm,decide_true,Bool.not_true,Bool.false_or,List.all_eq_true]at this;exact this i (List.mem_range.2 hij)
theorem kg(listed:Array Bool)(i:Nat)(hs:listed.size=ops.size)(hi:i<ops.size):listed.getD i true=listed.getD i false:=by
 rw[Array.getD_eq_getD_getElem?,Array.getD_eq_getD_getElem?];rw[Array.getElem?_eq_getElem (by omega)];rfl
theorem zT(uP:∀(j:Nat) (o:Oper),ops[j]? =some o->∀e∈o.after,Region.binds .any e=true->e.on<j)(listed:Array Bool)(hs:listed.size=ops.size)(hr:Region.ready .any ops listed=[]):∀i,i<ops.size->listed.getD i false=true:=by
 intro i
 induction i using Nat.strongRecOn with
 |_ i ih=>
  intro hi;cases GK:listed.getD i false with
  |true=>rfl
  |false=>
   exfalso;have:i∈Region.ready .any ops listed:=by
    simp only[Region.ready,List.mem_filter,List.mem_range];refine⟨hi,?_⟩;rw[kg listed i hs hi,GK,Array.getElem?_eq_getElem hi];simp only[Bool.not_false,Bool.true_and,Option.map_some,Option.getD_some,Array.all_eq_true_iff_forall_mem];intro e he;cases hb:Region.binds .any e with
    |false=>rfl
    |true=>
     have hlt:=uP i ops[i] (Array.getElem?_eq_getElem hi) e he hb;rw[ih e.on hlt (by omega)];rfl
   rw[hr]at this;simp at this
theorem xF{listed:Array Bool}(hs:listed.size=ops.size)(hD:Down ops (λi=>listed.getD i false)){i:Nat}(hi:i∈Region.ready .any ops listed):
  ∃h:i<ops.size,listed.getD i false=false/\(∀m,(listed.setIfInBounds i true).getD m false=if m=i then true else listed.getD m false)/\Down ops (λm=>(listed.setIfInBounds i true).getD m false):=by
 simp only[Region.ready,List.mem_filter,List.mem_range,Bool.and_eq_true,Bool.not_eq_true']at hi;obtain⟨hi,GK,hpre⟩:=hi;have Bq:listed.getD i false=false:=by rw[<-kg listed i hs hi];exact GK
 have ho:ops[i]? =some ops[i]:=Array.getElem?_eq_getElem hi;have KU:∀e∈ops[i].after,Region.binds .any e=true->listed.getD e.on false=true:=by
  rw[ho]at hpre;simp only[Option.map_some,Option.getD_some,Array.all_eq_true_iff_forall_mem]at hpre;intro e he hb;have:=hpre e he;simpa[hb]using this
 have dX:∀m,(listed.setIfInBounds i true).getD m false=if m=i then true else listed.getD m false:=by
  intro m;rw[Array.getD_eq_getD_getElem?,Array.getElem?_setIfInBounds];by_cases hm:m=i
  ·subst hm;simp[hs,hi]
  rw[if_neg (by omega),if_neg hm,Array.getD_eq_getD_getElem?]
 refine⟨hi,Bq,dX,?_⟩;intro j o hj hl e he hb;simp only[dX]at hl⊢;by_cases hji:j=i
 ·subst hji;have:o=ops[j]:=by rw[ho]at hj;exact(Option.some.inj hj).symm
  subst this;have:=KU e he hb;split<;>simp_all
 rw[if_neg hji]at hl;have:=hD j o hj hl e he hb;split<;>simp_all
theorem Dj{m:Nat}(uP:∀(j:Nat) (o:Oper),ops[j]? =some o->∀e∈o.after,Region.binds .any e=true->e.on<j)
  (EX:∀i j:Nat,m<=j->j<ops.size->i<j->((Region.before ops).getD j 0).testBit i=true) {Q:Exit->Act->World->Prop} {R:AS->Prop} (hQ:∀S a w,R S->S.holds C a w->Q .normal a w):
  ∀(fuel k:Nat) (listed:Array Bool) (a:Act) (w:World) (S:AS) (acc:List Ac),m<=k->k<=ops.size->listed.size=ops.size->(∀i,i<ops.size->listed.getD i false=decide (i<k))->ops.size-k<=fuel->Down ops (λi=>listed.getD i false)->
   RunT P C ops true (λ_ S=>R S) (ops.toList.drop k) acc S->S.holds C a w->wpAnyIn (Fr C.ro) 0 P .any ops Q fuel listed a w:=by
 intro fuel
 induction fuel with
 |zero=>
  intro k listed a w S acc hm hk hs hl hf hD hR hh;obtain rfl:k=ops.size:=by omega
  rw[show ops.toList.drop ops.size=[] by simp]at hR;refine⟨?_,hQ S a w hR hh⟩;simp only[Region.ready,List.filter_eq_nil_iff,List.mem_range];intro i hi;rw[kg listed i hs hi,hl i hi,decide_eq_true hi];simp
 |succ fuel ih=>
  intro k listed a w S acc hm hk hs hl hf hD hR hh;refine⟨λhr=>?_,λi hi=>?_⟩
  ·have hall:=zT uP listed hs hr;obtain rfl:k=ops.size:=by
    rcases Nat.lt_or_ge k ops.size with h|h
    ·have:=hall k h;rw[hl k h]at this;simp at this
    omega
   rw[show ops.toList.drop ops.size=[] by simp]at hR;exact hQ S a w hR hh
  obtain⟨hi,GK,dX,OC⟩:=xF hs hD hi;have OD:i=k:=by
   have h1:¬i<k:=by rw[hl i hi]at GK;simpa using GK
   rcases Nat.lt_or_ge k i with h|h
   ·have hb:=EX k i (by omega) hi h;have:=jP OC i k hb (by simp[dX]);rw[dX,if_neg (by omega),hl k (by omega)]at this;simp at this
   omega
  subst OD;have ho:ops[i]? =some ops[i]:=Array.getElem?_eq_getElem hi;have Wg:ops.toList.drop i=ops[i]::ops.toList.drop (i+1):=by
   rw[List.drop_eq_getElem_cons (by simpa using hi)];simp
  rw[Wg]at hR;have next:∀(S':AS) (acc':List Ac) (a':Act) (w':World),RunT P C ops true (λ_ S=>R S) (ops.toList.drop (i+1)) acc' S'->S'.holds C a' w'->wpAnyIn (Fr C.ro) 0 P .any ops Q fuel (listed.setIfInBounds i true) a' w':=by
   intro S' acc' a' w' h1 h2;refine ih (i+1) _ a' w' S' acc' (by omega) hi (by simp[hs]) (λj hj=>?_) (by omega) OC h1 h2;rw[dX];by_cases hji:j=i
   ·rw[if_pos hji];simp[hji]
   rw[if_neg hji,hl j hj,decide_eq_decide];omega
  rcases hR with⟨rs,rb,rr,e,hop,LJ⟩|⟨_,Post,hop,LJ⟩
  ·exact hop S rfl (λ_ _=>rfl) (λ_ _=>rfl) (λ_ _=>rfl) i a w _ Q ho hh (λa' w' SJ=>next _ _ a' w' LJ SJ)
  exact hop i a w _ Q ho hh (λS' a' w' hp SJ=>next S' [] a' w' (LJ S' hp) SJ)
theorem Dk{m:Nat}(hT:KR P C ops acts S)(Bp:uZ ops m acts=true){Q:Exit->Act->World->Prop}
  (hQ:∀(fuel:Nat) (listed:Array Bool) a w,listed.size=ops.size->(∀i,i<ops.size->listed.getD i false=decide (i<m))->ops.size-m<=fuel->Down ops (λi=>listed.getD i false)->(ov S (bU acts) (λ_=>true) m).holds C a w->wpAnyIn (Fr C.ro) 0 P .any ops Q fuel listed a w):
  ∀(fuel:Nat) (listed:Array Bool) (a:Act) (w:World),listed.size=ops.size->KS ops.size listed<=fuel->Down ops (λi=>listed.getD i false)->(∀i,listed.getD i false=true->i<m)->
   (ov S (bU acts) (λi=>listed.getD i false) m).holds C a w->wpAnyIn (Fr C.ro) 0 P .any ops Q fuel listed a w:=by
 obtain⟨hlen,hmn,uP,wm,EX⟩:=qT Bp;have whole:∀(fuel:Nat) (listed:Array Bool) (a:Act) (w:World),listed.size=ops.size->KS ops.size listed<=fuel->Down ops (λi=>listed.getD i false)->(∀i,listed.getD i false=true->i<m)->
   (ov S (bU acts) (λi=>listed.getD i false) m).holds C a w->(∀i,i<m->listed.getD i false=true)->wpAnyIn (Fr C.ro) 0 P .any ops Q fuel listed a w:=by
  intro fuel listed a w hs hu hD hL hh hall;refine hQ fuel listed a w hs (λi hi=>?_) ?_ hD ?_
  ·by_cases h:i<m
   ·rw[hall i h,decide_eq_true h]
   rw[decide_eq_false h];cases e:listed.getD i false with
   |false=>rfl
   |true=>exact absurd (hL i e) h
  ·have hsub:(List.range ops.size).filter (λi=>!decide (i<m))=(List.range ops.size).filter λi=>!listed.getD i true:=by
    apply List.filter_congr;intro i hi;have hi:=List.mem_range.1 hi;rw[kg listed i hs hi];by_cases h:i<m
    ·rw[hall i h,decide_eq_true h]
    rw[decide_eq_false h];cases e:listed.getD i false with
    |false=>rfl
    |true=>exact absurd (hL i e) h
   have Te:∀n,m<=n->((List.range n).filter (λi=>!decide (i<m))).length=n-m:=by
    intro n
    induction n with
    |zero=>intro h;simp
    |succ n ih=>
     intro h;rw[List.range_succ,List.filter_append,List.length_append];rcases Nat.lt_or_ge n m with q|q
     ·obtain rfl:m=n+1:=by omega
      have h1:((List.range n).filter (λi=>!decide (i<n+1)))=[]:=by
       rw[List.filter_eq_nil_iff];intro i hi;have:=List.mem_range.1 hi;simp;omega
      rw[h1];simp
     rw[ih q,List.filter_cons,decide_eq_false (by omega:¬n<m)];simp;omega
   have h2:KS ops.size listed=ops.size-m:=by unfold KS;rw[<-hsub,Te _ hmn]
   omega
  rwa[lH S (bU acts) (L:=λi=>listed.getD i false) (L':=λ_=>true) m hall]at hh
 intro fuel
 induction fuel with
 |zero=>
  intro listed a w hs hu hD hL hh;refine whole 0 listed a w hs hu hD hL hh (λi hi=>?_);cases GK:listed.getD i false with
  |true=>rfl
  |false=>
   exfalso;have hm:i∈(List.range ops.size).filter λi=>!listed.getD i true:=by
    rw[List.mem_filter];exact⟨List.mem_range.2 (by omega),by rw[kg listed i hs (by omega),GK];rfl⟩
   have:0<KS ops.size listed:=List.length_pos_of_mem hm;omega
 |succ fuel ih=>
  intro listed a w hs hu hD hL hh;by_cases hall:∀i,i<m->listed.getD i false=true
  ·exact whole _ listed a w hs hu hD hL hh hall
  have hex:∃i,i<m/\listed.getD i false=false:=Classical.byContradiction (λhc=>hall (λi hi=>by
   cases e:listed.getD i false with
   |true=>rfl
   |false=>exact absurd ⟨i,hi,e⟩ hc))
  obtain⟨i0,Q4,Vh⟩:=hex;refine⟨λhr=>?_,λi hi=>?_⟩
  ·have:=zT uP listed hs hr i0 (by omega);rw[Vh]at this;cases this
  have hi':=hi;obtain⟨hi,Bq,dX,OC⟩:=xF hs hD hi;have ho:ops[i]? =some ops[i]:=Array.getElem?_eq_getElem hi;have him:i<m:=by
   rcases Nat.lt_or_ge i m with h|h
   ·exact h
   have hb:=EX i0 i h hi (by omega);have:=jP OC i i0 hb (by simp[dX]);rw[dX,if_neg (by omega),Vh]at this;cases this
  have OB:i<acts.length:=by omega
  have hx:acts[i]? =some acts[i]:=List.getElem?_eq_getElem OB;have SI:bU acts i=acts[i].e:=by simp[bU,OB]
  have later:∀k,i<k->listed.getD k false=true->(acts[i]).kV ((acts[k]?).getD ⟨[],[],[],⟨none,[],[]⟩⟩)=false:=by
   intro k hk hlk;have hkn:k<m:=hL k hlk;have hka:acts[k]? =some acts[k]:=List.getElem?_eq_getElem (by omega);rw[hka,Option.getD_some];cases hc:(acts[i]).kV acts[k]with
   |false=>rfl
   |true=>
    have hb:=wm i k _ _ hx hka hk hc;have:=jP hD k i hb hlk;simp only[Bq]at this;exact absurd this (by simp)
  have CV:∀k,k<i->listed.getD k false=false->((acts[k]?).getD ⟨[],[],[],⟨none,[],[]⟩⟩).kV acts[i]=false:=by
   intro k hk hlk;have hka:acts[k]? =some acts[k]:=List.getElem?_eq_getElem (by omega);rw[hka,Option.getD_some];cases hc:(acts[k]).kV acts[i]with
   |false=>rfl
   |true=>
    have hb:=wm k i _ _ hka hx hk hc;have:=jP OC i k hb (by simp[dX]);rw[dX,if_neg (by omega),hlk]at this;exact absurd this (by simp)
  have GL:∀k,((acts[k]?).getD ⟨[],[],[],⟨none,[],[]⟩⟩).e=bU acts k:=by
   intro k;unfold bU;cases acts[k]? <;>rfl
  have gX:∀{x y:Ac},x.kV y=false->(∀d∈x.e.ks,d∉y.rs/\d∉y.e.ks)/\(∀d∈y.e.ks,d∉x.rs)/\(∀d∈x.e.kb,d∉y.rb/\d∉y.e.kb)/\(∀d∈y.e.kb,d∉x.rb)/\(∀d∈x.e.kr,d∉y.rr/\d∉y.e.kr)/\(∀d∈y.e.kr,d∉x.rr):=by
   intro x y h;simp only[Ac.kV,Bool.or_eq_false_iff]at h;exact⟨eO h.1.1.1.1.1,λd hd=>(eO h.1.1.1.1.2 d hd).1,eO h.1.1.1.2,λd hd=>(eO h.1.1.2 d hd).1,eO h.1.2,λd hd=>(eO h.2 d hd).1⟩
  have look:∀{α:Type} (get:AS->Nat->α) (wr:nQ->Nat->Option α) (dX:∀S e s,get (S.app e) s=(wr e s).getD (get S s)) (rk:Ac->List Nat) (wk:nQ->List Nat)
    (hk:∀e s,wr e s≠none->s∈wk e) (c1:∀x y:Ac,x.kV y=false->(∀d∈wk x.e,d∉rk y)/\(∀d∈wk y.e,d∉rk x)),∀s∈rk acts[i],
    get (ov S (bU acts) (λq=>listed.getD q false) m) s=get (ov S (bU acts) (λ_=>true) i) s:=by
   intro α get wr dX rk wk hk c1 s Br;rw[Il get wr dX S (bU acts) _ s i m (by omega)]
   ·refine Ex get wr dX S (bU acts) _ _ s i λm hm hw=>?_;cases Ca:listed.getD m false with
    |true=>rfl
    |false=>
     have:=(c1 _ _ (CV m hm Ca)).1 s (by rw[GL];exact hk _ _ hw);exact absurd Br this
   intro m ZH ZI Ca;cases hw:wr (bU acts m) s with
   |none=>rfl
   |some x=>
    exfalso;rcases Nat.lt_or_ge i m with h|h
    ·have:=(c1 _ _ (later m h Ca)).2 s (by rw[GL];exact hk _ _ (by rw[hw];simp));exact this Br
    obtain rfl:m=i:=by omega
    simp only[Bq]at Ca;exact absurd Ca (by simp)
  refine hT i ops[i] acts[i] ho hx (ov S (bU acts) (λq=>listed.getD q false) m) (by rw[KQ,KQ]) ?_ ?_ ?_ i a w _ Q ho hh ?_
  ·exact look AS.t wT AS.Et Ac.rs nQ.ks (λ_ _ h=>CU h) (λx y h=>⟨λd hd=>((gX h).1 d hd).1,(gX h).2.1⟩)
  ·exact look AS.b (λe=>oH e.bx) AS.Eu Ac.rb nQ.kb (λ_ _ h=>oI h) (λx y h=>⟨λd hd=>((gX h).2.2.1 d hd).1,(gX h).2.2.2.1⟩)
  ·exact look AS.r (λe=>eD e.rw) AS.Ev Ac.rr nQ.kr (λ_ _ h=>oJ h) (λx y h=>⟨λd hd=>((gX h).2.2.2.2.1 d hd).1,(gX h).2.2.2.2.2⟩)
  intro a' w' SJ;refine ih (listed.setIfInBounds i true) a' w' (by simp[hs]) ?_ OC ?_ ?_
  ·have:=KT hi hs (by rw[kg listed i hs hi];exact Bq);omega
  ·intro k hk;rw[dX]at hk;by_cases OD:k=i
   ·omega
   rw[if_neg OD]at hk;exact hL k hk
  have heq:ov S (bU acts) (λq=>(listed.setIfInBounds i true).getD q false) m=(ov S (bU acts) (λq=>listed.getD q false) m).app acts[i].e:=by
   have ZJ:∀k,k<=i->ov S (bU acts) (λq=>(listed.setIfInBounds i true).getD q false) k=ov S (bU acts) (λq=>listed.getD q false) k:=λk hk=>
    lH S (bU acts) k (λm hm=>by rw[dX,if_neg (by omega)])
   have step:∀k,i<k->k<=m->ov S (bU acts) (λq=>(listed.setIfInBounds i true).getD q false) k=(ov S (bU acts) (λq=>listed.getD q false) k).app acts[i].e:=by
    intro k hk hkn
    induction k with
    |zero=>omega
    |succ k ZK=>
     by_cases OD:k=i
     ·subst OD;show(if(listed.setIfInBounds k true).getD k false then _ else _)=AS.app (if listed.getD k false then _ else _) _;rw[dX,if_pos Y,if_pos Y,Bq,ZJ k (Nat.le_refl _),SI];rfl
     have ih2:=ZK (by omega) (by omega);show(if(listed.setIfInBounds i true).getD k false then(ov S (bU acts) (λq=>(listed.setIfInBounds i true).getD q false) k).app (bU acts k)else ov S (bU acts) (λq=>(listed.setIfInBounds i true).getD q false) k)=AS.app (if listed.getD k false then(ov S (bU acts) (λq=>listed.getD q false) k).app (bU acts k)else ov S (bU acts) (λq=>listed.getD q false) k) _;rw[dX,if_neg OD,ih2];cases hlk:listed.getD k false with
     |false=>rfl
     |true=>
      rw[if_pos Y,if_pos rfl];have hc:=gX (later k (by omega) hlk);rw[GL]at hc;have two:∀{α:Type} (get:AS->Nat->α) (wr:nQ->Nat->Option α) (dX:∀S e s,get (S.app e) s=(wr e s).getD (get S s)) (wk:nQ->List Nat) (hk:∀e s,wr e s≠none->s∈wk e)
        (c1:∀d∈wk acts[i].e,d∉wk (bU acts k)) (T:AS) (s:Nat),get ((T.app acts[i].e).app (bU acts k)) s=get ((T.app (bU acts k)).app acts[i].e) s:=by
       intro α get wr dX wk hk c1 T s;rw[dX,dX,dX,dX];cases h1:wr acts[i].e s with
       |none=>rfl
       |some x=>
        cases h2:wr (bU acts k) s with
        |none=>rfl
        |some y=>exact absurd (hk _ s (by rw[h2];simp)) (c1 s (hk _ s (by rw[h1];simp)))
      refine AS.ext' (by simp[AS.KP]) (λs=>?_) (λs=>?_) (λs=>?_) (by simp[AS.B9]) (by simp[AS.B9])
      ·exact two AS.t wT AS.Et nQ.ks (λ_ _ h=>CU h) (λd hd=>(hc.1 d hd).2) _ s
      ·exact two AS.b (λe=>oH e.bx) AS.Eu nQ.kb (λ_ _ h=>oI h) (λd hd=>(hc.2.2.1 d hd).2) _ s
      exact two AS.r (λe=>eD e.rw) AS.Ev nQ.kr (λ_ _ h=>oJ h) (λd hd=>(hc.2.2.2.2.1 d hd).2) _ s
   exact step m him (Nat.le_refl _)
  rw[heq];exact SJ
end part
theorem JX{P:Program}{C:Ctx}{ops:Array Oper}{K:List Ac->AS->Prop}(rest:List Oper)(S:AS)(h:RunT P C ops false K rest [] S):
  ∃xs:List Ac,xs.length=rest.length/\(∀(i:Nat) (o:Oper) (x:Ac),rest[i]? =some o->xs[i]? =some x->OA P C ops o x.rs x.rb x.rr (ov S (bU xs) (λ_=>true) i) x.e)/\K xs.reverse (ov S (bU xs) (λ_=>true) rest.length):=by
 obtain⟨xs,h1,h2,h3⟩:=wv rest [] S h;exact⟨xs,h1,h2,by simpa using h3⟩
theorem zU{P:Program}{C:Ctx}{id:Nat}{ops:Array Oper}{S:AS}{Q:Exit->AS->Prop}(m:Nat)(hm:P.follows .mixedOrders=true)
  (h:RunT P C ops false (λacc S=>uZ ops m acc.reverse=true/\RunT P C ops true (λ_ S=>Q .normal S) (ops.toList.drop m) [] S) (ops.toList.take m) [] S):Ok P C (.region id ops true) S Q:=λa w hs=>by
 obtain⟨xs,hl,hxs,Bp,hq⟩:=JX _ _ h;rw[List.reverse_reverse]at Bp;obtain⟨hlen,hmn,uP,wm,EX⟩:=qT Bp;have Ca:(ops.toList.take m).length=m:=by simp;omega
 rw[Ca]at hq;refine wpIn_region_any hm ?_;refine Dk (acts:=xs) (S:=S) (m:=m) (λi o x ho hx=>hxs i o x ?_ hx) Bp (λfuel listed a w h1 h2 h3 h4 h5=>Dj (m:=m) uP EX (R:=λS=>Q .normal S) (λS a w hR hh=>⟨S,hR,hh⟩) fuel m listed a w _ [] (Nat.le_refl _) hmn h1 h2 h3 h4 hq h5) ops.size _ a _ (by simp) ?_ ?_ ?_ ?_
 ·have hi:i<m:=by
   have:=(List.getElem?_eq_some_iff.1 hx).1;omega
  rw[List.getElem?_take_of_lt hi];simpa using ho
 ·have:=List.length_filter_le (λi=>!(Array.replicate ops.size false).getD i true) (List.range ops.size);simpa[KS]using this
 ·intro j o _ hj;exfalso;simp only[Array.getD_eq_getD_getElem?,Array.getElem?_replicate]at hj;split at hj<;>simp at hj
 ·intro i hi;exfalso;simp only[Array.getD_eq_getD_getElem?,Array.getElem?_replicate]at hi;split at hi<;>simp at hi
 rw[lH S (bU xs) (L':=λ_=>false) m (λi hi=>by rw[Array.getD_eq_getD_getElem?,Array.getElem?_replicate];split<;>rfl)];have:∀k,ov S (bU xs) (λ_=>false) k=S:=by
  intro k;induction k with
  |zero=>rfl
  |succ k ih=>simpa[ov]using ih
 rw[this];exact hs.drew
end
end Go.Fw
namespace Go.Fw.Z
section
open Go.Fw
theorem T{d n:Nat}(h:Nat.ble (d+1) n=true:=by exact rfl):d<n:=tl h
theorem bE{α β:Type}{x:Option α}{f:α->Option β}{r:β}{G:Prop}(h:Option.bind x f=some r)(k:∀a,x=some a->f a=some r->G):G:=by obtain⟨a,h1,h2⟩:=bind_some h;exact k a h1 h2
theorem lE{α β:Type}{v:α}{f:α->Option β}{r:β}{G:Prop}(h:Option.bind (some v) f=some r)(k:∀a,v=a->f a=some r->G):G:=k v Y h
theorem bS{α β:Type}{x:Option α}{f:α->Option β}{r:β}(h:Option.bind x f=some r):∃a,x=some a/\f a=some r:=bind_some h
theorem F{α:Type}{x y:Option α}{r:α}(h:(bif false then x else y)=some r):y=some r:=h
theorem V{α:Type}{x y:Option α}{r:α}(h:(bif true then x else y)=some r):x=some r:=h
theorem O{α:Type}{a b:α}(h:some a=some b):a=b:=Option.some.inj h
def xD(l:List (Nat×Nat))(i:Nat):Nat:=((l.find? λp=>Nat.beq p.1 i).map (·.2)).getD i
def Yy(l:List (Nat×Nat)):AV->AV
 |.row i=>.row (xD l i)
 |.kY i o n=>.kY (xD l i) o n
 |x=>x
def Yz:AV->Bool
 |.iG _ _=>false
 |.cmp _ _=>false
 |_=>true
theorem avi(l:List (Nat×Nat)){x:AV}(h:Yz x=true):JM (xD l) (Yy l x) x:=by
 cases x with
 |sv s=>exact .sv au
 |ptr i o=>exact .ptr
 |Es i o n c=>exact .Es
 |row i=>exact .row Y
 |iG i k=>cases h
 |kY i o n=>exact .kY Y
 |fD g js=>exact .fD
 |cmp t js=>cases h
theorem Wh(l:List (Nat×Nat)):∀{xs:List AV},(xs.all Yz)=true->GQ (xD l) (xs.map (Yy l)) xs
 |[],_=>trivial
 |x::xs,h=>by simp only[List.all_cons,Bool.and_eq_true]at h;exact⟨avi l h.1,Wh l h.2⟩
theorem wR(l:List (Nat×Nat)){S:AS}{n:Nat}{ts:List (Nat×AV)}{bs:List (Nat×nM)}{rs:List (Nat×Row)}{g:Nat}{go:Bool}
  (ht:ts.map (λp=>S.t p.1)=ts.map (λp=>Yy l p.2):=by exact rfl) (hb:bs.map (λp=>S.b p.1)=bs.map (λp=>some ⟨p.2.T,p.2.cells.map (Yy l)⟩):=by exact rfl) (hr:rs.map (λp=>S.r (xD l p.1))=rs.map (λp=>.live p.2):=by exact rfl)
  (hn:S.n=n:=by exact rfl) (hg:S.g=g:=by exact rfl) (GD:S.go=go:=by exact rfl)
  (hwf:((ts.all λp=>p.2.ot bs rs)&&(bs.all λp=>p.2.cells.all λx=>x.ot bs rs))=true:=by exact rfl) (hσ:((rs.all λp=>rs.all λq=>!(Nat.beq (xD l p.1) (xD l q.1))||Nat.beq p.1 q.1))=true:=by exact rfl)
  (hno:((ts.all λp=>Yz p.2)&&(bs.all λp=>p.2.cells.all Yz))=true:=by exact rfl) (hl:(l.all λp=>Nat.ble (p.1+1) 1000)=true:=by exact rfl):qG S (AS.cq n ts bs rs g go):=by
 simp only[Bool.and_eq_true,List.all_eq_true]at hno;refine da (xD l) hn hg GD hwf hσ ?_ ?_ ?_ ?_
 ·clear hwf hb hr;obtain⟨h,-⟩:=hno
  induction ts with
  |nil=>trivial
  |cons p ts ih=>
   obtain⟨k,x⟩:=p;simp only[List.map_cons,List.cons.injEq]at ht;refine⟨?_,ih ht.2 (λq hq=>h q (by simp[hq]))⟩;show JM _ (S.t k) x;rw[ht.1];exact avi l (h (k,x) (by simp))
 ·clear hwf ht hr;obtain⟨-,h⟩:=hno
  induction bs with
  |nil=>trivial
  |cons p bs ih=>
   obtain⟨k,x⟩:=p;simp only[List.map_cons,List.cons.injEq]at hb;exact⟨⟨_,hb.1,Wh l (List.all_eq_true.2 (h (k,x) (by simp)))⟩,ih hb.2 (λq hq=>h q (by simp[hq]))⟩
 ·clear hwf ht hb hσ
  induction rs with
  |nil=>trivial
  |cons p rs ih=>
   obtain⟨k,x⟩:=p;simp only[List.map_cons,List.cons.injEq]at hr;exact⟨⟨_,hr.1,eP.refl _⟩,ih hr.2⟩
 intro i hi;unfold xD;have:l.find? (λp=>Nat.beq p.1 i)=none:=by
  rw[List.find?_eq_none];intro p hp e;have h1:=af (List.all_eq_true.1 hl p hp);have h2:=Nat.eq_of_beq_eq_true e;omega
 rw[this];rfl
section
variable {P:Program}{C:Ctx}{S:AS}{Q:Exit->AS->Prop}
theorem qq{x y:Code}(h:Ok P C x S (aV (λS'=>Ok P C y S' Q) Q)):Ok P C (.seq x y) S Q:=bz h
theorem sr{id:Nat}{ops:Array Oper}{y:Code}(h:RunT P C ops true (λ_ S=>aV (λS'=>Ok P C y S' Q) Q .normal S) ops.toList [] S):Ok P C (.seq (.region id ops false) y) S Q:=bz (aW h)
theorem dn{ops:Array Oper}{acc:List Ac}{next:AS->Prop}(h:next S):RunT P C ops true (λ_ S=>aV next Q .normal S) [] acc S:=h
theorem cF{c:Operand}{x y:Code}(hf:Ok P C y S Q)(hc:S.ev c=.sv (.v (.bool false)):=by exact rfl):Ok P C (.cond c x y) S Q:=dJ hc hf
theorem cT{c:Operand}{x y:Code}(ht:Ok P C x S Q)(hc:S.ev c=.sv (.v (.bool true)):=by exact rfl):Ok P C (.cond c x y) S Q:=cz hc ht
theorem fs{c:Operand}{x:Code}{next:AS->Prop}(h:next S)(hc:S.ev c=.sv (.v (.bool false)):=by exact rfl):Ok P C (.cond c x .skip) S (aV next Q):=dJ hc (bu h)
theorem R1{A:Prop}{e:Exit}{t:Nat}{s:SV}(h:S.t t=.sv s):(A\/e=e)/\QT P S [.tmp t] s:=⟨.inr Y,mI (.tmp h .nil) au⟩
theorem R2{A:Prop}{e:Exit}{t u:Nat}{s s':SV}(h:S.t t=.sv s)(h':S.t u=.sv s'):(A\/e=e)/\QT P S [.tmp t,.tmp u] (.yy [s,s']):=⟨.inr Y,mI (.tmp h (.tmp h' .nil)) au⟩
theorem RZ{A:Prop}{e:Exit}{rs:List ResultVar}{ss:List SV}{r:SV}(h:KJ P S rs ss)(h':SV.imp (Lj ss) r:=by exact au):(A\/e=e)/\QT P S rs r:=⟨.inr Y,mI h h'⟩
end
section
variable {P:Program}{C:Ctx}{ops:Array Oper}{S:AS}{nd:Bool}{K:List Ac->AS->Prop}{rest:List Oper}{acc:List Ac}
variable {gd:Option (Nat×Bool)}{rg:List Nat}{d:Nat}{ty:TypeId}{pos:String}{aft:Array Edge}{x y z:Operand}{T U:TypeId}{k:IntKind}{p q:Int}
theorem pF{s:SV}(hz:S.ev z=.sv s)(next:RunT P C ops nd K rest (⟨[]++(bg x++bg z),[],[],⟨some (d,.sv s),[],[]⟩⟩::acc) (S.set d (.sv s)))(hx:S.ev x=.sv (.v (.bool false)):=by exact rfl)(hd:d<S.n:=by exact tl Y):RunT P C ops nd K (⟨some d,.pick x y z,ty,pos,aft,none⟩::rest) acc S:=
 RT.QO .none hx hz hd next
theorem pT{s:SV}(hy:S.ev y=.sv s)(next:RunT P C ops nd K rest (⟨[]++(bg x++bg y),[],[],⟨some (d,.sv s),[],[]⟩⟩::acc) (S.set d (.sv s)))(hx:S.ev x=.sv (.v (.bool true)):=by exact rfl)(hd:d<S.n:=by exact tl Y):RunT P C ops nd K (⟨some d,.pick x y z,ty,pos,aft,none⟩::rest) acc S:=
 RT.QN .none hx hy hd next
theorem mo{s:AV}(hx:S.ev x=s)(next:RunT P C ops nd K rest (⟨[]++bg x,[],[],⟨some (d,s),[],[]⟩⟩::acc) (S.set d s))(hd:d<S.n:=by exact tl Y):RunT P C ops nd K (⟨some d,.move x,ty,pos,aft,none⟩::rest) acc S:=
 RT.move .none hx hd next
theorem ad(c:Int)(hx:S.ev x=.sv (.v (.int k p)))(hy:S.ev y=.sv (.v (.int k q)))(hc:k.wrap (p+q)=c)(next:RunT P C ops nd K rest (⟨[]++(bg x++bg y),[],[],⟨some (d,.sv (.v (.int k c))),[],[]⟩⟩::acc) (S.set d (.sv (.v (.int k c)))))(hd:d<S.n:=by exact tl Y):RunT P C ops nd K (⟨some d,.binOp .add T x y U,ty,pos,aft,none⟩::rest) acc S:=
 RT.add .none c hx hy hd hc next
theorem cv{j:IntKind}[tT:kW P T j][tU:kW P U k](c:Int){k':IntKind}(hx:S.ev x=.sv (.v (.int k' p)))(hc:k.wrap p=c)(next:RunT P C ops nd K rest (⟨[]++bg x,[],[],⟨some (d,.sv (.v (.int k c))),[],[]⟩⟩::acc) (S.set d (.sv (.v (.int k c)))))(hd:d<S.n:=by exact tl Y):RunT P C ops nd K (⟨some d,.convert T U x,ty,pos,aft,none⟩::rest) acc S:=
 RT.conv .none c hx hd hc next
theorem ls(c:Bool)(hx:S.ev x=.sv (.v (.int k p)))(hy:S.ev y=.sv (.v (.int k q)))(hc:decide (p<q)=c)(next:RunT P C ops nd K rest (⟨[]++(bg x++bg y),[],[],⟨some (d,.sv (.v (.bool c))),[],[]⟩⟩::acc) (S.set d (.sv (.v (.bool c)))))(hd:d<S.n:=by exact tl Y):RunT P C ops nd K (⟨some d,.binOp .lss T x y U,ty,pos,aft,none⟩::rest) acc S:=
 RT.lss .none c hx hy hd hc next
theorem sb(c:Int)(hx:S.ev x=.sv (.v (.int k p)))(hy:S.ev y=.sv (.v (.int k q)))(hc:k.wrap (p-q)=c)(next:RunT P C ops nd K rest (⟨[]++(bg x++bg y),[],[],⟨some (d,.sv (.v (.int k c))),[],[]⟩⟩::acc) (S.set d (.sv (.v (.int k c)))))(hd:d<S.n:=by exact tl Y):RunT P C ops nd K (⟨some d,.binOp .sub T x y U,ty,pos,aft,none⟩::rest) acc S:=
 RT.sub .none c hx hy hd hc next
theorem an{s:AV}(hx:S.ev x=s)(next:RunT P C ops nd K rest (⟨[]++bg x,[],[],⟨some (d,s),[],[]⟩⟩::acc) (S.set d s))(hd:d<S.n:=by exact tl Y):RunT P C ops nd K (⟨some d,.assign x,ty,pos,aft,none⟩::rest) acc S:=
 RT.assign .none hx hd next
theorem gt(c:Bool)(hx:S.ev x=.sv (.v (.int k p)))(hy:S.ev y=.sv (.v (.int k q)))(hc:decide (q<p)=c)(next:RunT P C ops nd K rest (⟨[]++(bg x++bg y),[],[],⟨some (d,.sv (.v (.bool c))),[],[]⟩⟩::acc) (S.set d (.sv (.v (.bool c)))))(hd:d<S.n:=by exact tl Y):RunT P C ops nd K (⟨some d,.binOp .gtr T x y U,ty,pos,aft,none⟩::rest) acc S:=
 RT.gtr .none c hx hy hd hc next
theorem eq(c:Bool)(hx:S.ev x=.sv (.v (.int k p)))(hy:S.ev y=.sv (.v (.int k q)))(hc:(p==q)=c)(next:RunT P C ops nd K rest (⟨[]++(bg x++bg y),[],[],⟨some (d,.sv (.v (.bool c))),[],[]⟩⟩::acc) (S.set d (.sv (.v (.bool c)))))(hd:d<S.n:=by exact tl Y):RunT P C ops nd K (⟨some d,.binOp .eql T x y U,ty,pos,aft,none⟩::rest) acc S:=
 RT.eql .none c hx hy hd hc next
theorem ne(c:Bool)(hx:S.ev x=.sv (.v (.int k p)))(hy:S.ev y=.sv (.v (.int k q)))(hc:(p != q)=c)(next:RunT P C ops nd K rest (⟨[]++(bg x++bg y),[],[],⟨some (d,.sv (.v (.bool c))),[],[]⟩⟩::acc) (S.set d (.sv (.v (.bool c)))))(hd:d<S.n:=by exact tl Y):RunT P C ops nd K (⟨some d,.binOp .neq T x y U,ty,pos,aft,none⟩::rest) acc S:=
 RT.neq .none c hx hy hd hc next
theorem ge(c:Bool)(hx:S.ev x=.sv (.v (.int k p)))(hy:S.ev y=.sv (.v (.int k q)))(hc:decide (q<=p)=c)(next:RunT P C ops nd K rest (⟨[]++(bg x++bg y),[],[],⟨some (d,.sv (.v (.bool c))),[],[]⟩⟩::acc) (S.set d (.sv (.v (.bool c)))))(hd:d<S.n:=by exact tl Y):RunT P C ops nd K (⟨some d,.binOp .geq T x y U,ty,pos,aft,none⟩::rest) acc S:=
 RT.geq .none c hx hy hd hc next
theorem nt{b:Bool}(hx:S.ev x=.sv (.v (.bool b)))(c:Bool)(hc:(!b)=c)(next:RunT P C ops nd K rest (⟨[]++bg x,[],[],⟨some (d,.sv (.v (.bool c))),[],[]⟩⟩::acc) (S.set d (.sv (.v (.bool c)))))(hd:d<S.n:=by exact tl Y):RunT P C ops nd K (⟨some d,.unOp .not T x,ty,pos,aft,none⟩::rest) acc S:=
 RT.not .none hx hd c hc next
theorem gF{j_ g_:Nat}{fj:Bool}{s:SV}(hz:S.ev z=.sv s)(next:RunT P C ops nd K rest (⟨[g_]++(bg x++bg z),[],[],⟨some (d,.sv s),[],[]⟩⟩::acc) (S.set d (.sv s)))(By:(ops[j_]?).bind (·.dst)=some g_:=by exact rfl)(Bz:S.t g_=.sv (.v (.bool fj)):=by exact rfl)(hx:S.ev x=.sv (.v (.bool false)):=by exact rfl)(hd:d<S.n:=by exact tl Y):RunT P C ops nd K (⟨some d,.pick x y z,ty,pos,aft,some (j_,fj)⟩::rest) acc S:=
 RT.QO (.some By Bz) hx hz hd next
theorem gT{j_ g_:Nat}{fj:Bool}{s:SV}(hy:S.ev y=.sv s)(next:RunT P C ops nd K rest (⟨[g_]++(bg x++bg y),[],[],⟨some (d,.sv s),[],[]⟩⟩::acc) (S.set d (.sv s)))(By:(ops[j_]?).bind (·.dst)=some g_:=by exact rfl)(Bz:S.t g_=.sv (.v (.bool fj)):=by exact rfl)(hx:S.ev x=.sv (.v (.bool true)):=by exact rfl)(hd:d<S.n:=by exact tl Y):RunT P C ops nd K (⟨some d,.pick x y z,ty,pos,aft,some (j_,fj)⟩::rest) acc S:=
 RT.QN (.some By Bz) hx hy hd next
theorem gq{j_ g_:Nat}{fj:Bool}(c:Bool)(hx:S.ev x=.sv (.v (.int k p)))(hy:S.ev y=.sv (.v (.int k q)))(hc:(p != q)=c)(next:RunT P C ops nd K rest (⟨[g_]++(bg x++bg y),[],[],⟨some (d,.sv (.v (.bool c))),[],[]⟩⟩::acc) (S.set d (.sv (.v (.bool c)))))(By:(ops[j_]?).bind (·.dst)=some g_:=by exact rfl)(Bz:S.t g_=.sv (.v (.bool fj)):=by exact rfl)(hd:d<S.n:=by exact tl Y):RunT P C ops nd K (⟨some d,.binOp .neq T x y U,ty,pos,aft,some (j_,fj)⟩::rest) acc S:=
 RT.neq (.some By Bz) c hx hy hd hc next
theorem gg{j_ g_:Nat}{fj:Bool}(c:Bool)(hx:S.ev x=.sv (.v (.int k p)))(hy:S.ev y=.sv (.v (.int k q)))(hc:decide (q<p)=c)(next:RunT P C ops nd K rest (⟨[g_]++(bg x++bg y),[],[],⟨some (d,.sv (.v (.bool c))),[],[]⟩⟩::acc) (S.set d (.sv (.v (.bool c)))))(By:(ops[j_]?).bind (·.dst)=some g_:=by exact rfl)(Bz:S.t g_=.sv (.v (.bool fj)):=by exact rfl)(hd:d<S.n:=by exact tl Y):RunT P C ops nd K (⟨some d,.binOp .gtr T x y U,ty,pos,aft,some (j_,fj)⟩::rest) acc S:=
 RT.gtr (.some By Bz) c hx hy hd hc next
theorem Co{j_ g_:Nat}{fj:Bool}(c:Bool)(hx:S.ev x=.sv (.v (.int k p)))(hy:S.ev y=.sv (.v (.int k q)))(hc:(p==q)=c)(next:RunT P C ops nd K rest (⟨[g_]++(bg x++bg y),[],[],⟨some (d,.sv (.v (.bool c))),[],[]⟩⟩::acc) (S.set d (.sv (.v (.bool c)))))(By:(ops[j_]?).bind (·.dst)=some g_:=by exact rfl)(Bz:S.t g_=.sv (.v (.bool fj)):=by exact rfl)(hd:d<S.n:=by exact tl Y):RunT P C ops nd K (⟨some d,.binOp .eql T x y U,ty,pos,aft,some (j_,fj)⟩::rest) acc S:=
 RT.eql (.some By Bz) c hx hy hd hc next
theorem gt_{j_ g_:Nat}{fj:Bool}{b:Bool}(hx:S.ev x=.sv (.v (.bool b)))(c:Bool)(hc:(!b)=c)(next:RunT P C ops nd K rest (⟨[g_]++bg x,[],[],⟨some (d,.sv (.v (.bool c))),[],[]⟩⟩::acc) (S.set d (.sv (.v (.bool c)))))(By:(ops[j_]?).bind (·.dst)=some g_:=by exact rfl)(Bz:S.t g_=.sv (.v (.bool fj)):=by exact rfl)(hd:d<S.n:=by exact tl Y):RunT P C ops nd K (⟨some d,.unOp .not T x,ty,pos,aft,some (j_,fj)⟩::rest) acc S:=
 RT.not (.some By Bz) hx hd c hc next
end
section
variable {P:Program}{C:Ctx}{ops:Array Oper}{S:AS}{nd:Bool}{K:List Ac->AS->Prop}{rest:List Oper}{acc:List Ac}
variable {gd:Option (Nat×Bool)}{rg:List Nat}{d:Nat}{ty:TypeId}{pos:String}{aft:Array Edge}{x y z:Operand}{T U E0:TypeId}
theorem mv{s:SV}(hx:S.ev x=.sv s)(next:RunT P C ops nd K rest (⟨[]++bg x,[],[],⟨some (d,.sv s),[],[]⟩⟩::acc) (S.set d (.sv s)))(hd:d<S.n:=by exact tl Y):RunT P C ops nd K (⟨some d,.move x,ty,pos,aft,none⟩::rest) acc S:=
 RT.mv .none hx hd next
theorem ag{s:SV}(hx:S.ev x=.sv s)(next:RunT P C ops nd K rest (⟨[]++bg x,[],[],⟨some (d,.sv s),[],[]⟩⟩::acc) (S.set d (.sv s)))(hd:d<S.n:=by exact tl Y):RunT P C ops nd K (⟨some d,.assign x,ty,pos,aft,none⟩::rest) acc S:=
 RT.zG .none hx hd next
theorem cl{f:FuncId}[cZ P f]{g:Operand}{xs:Array Operand}{at_:Array TypeId}{args:List SV}{r:SV}(hp:Pure P f args r)(hargs:jQ S xs.toList args)(next:RunT P C ops nd K rest (⟨[]++(bg g++xs.toList.flatMap bg),[],[],⟨some (d,.sv r),[],[]⟩⟩::acc) (S.set d (.sv r)))(hf:S.ev g=.sv (.v (.func (.func f) #[] #[])):=by exact rfl)(hd:d<S.n:=by exact tl Y):RunT P C ops nd K (⟨some d,.call ⟨.value g,xs,at_⟩,ty,pos,aft,none⟩::rest) acc S:=
 RT.call .none hp hf hargs hd next
theorem ld{n:Nat}[tA:wz P T n]{j off:Nat}{B:nM}{cs:List SV}(hx:S.ev x=.ptr j off)(hB:S.b j=some B)(hcs:KH B.cells off cs)(next:RunT P C ops nd K rest (⟨[]++bg x,[j],[],⟨some (d,.sv (.agg cs)),[],[]⟩⟩::acc) (S.set d (.sv (.agg cs))))(hn:cs.length=n:=by exact rfl)(hd:d<S.n:=by exact tl Y):RunT P C ops nd K (⟨some d,.load T x,ty,pos,aft,none⟩::rest) acc S:=
 RT.load .none hx hB hcs hn hd next
theorem lV[tV:pz P T]{j off:Nat}{B:nM}{s:SV}(hx:S.ev x=.ptr j off)(hB:S.b j=some B)(hn:B.cells[off]? =some (.sv s))(next:RunT P C ops nd K rest (⟨[]++bg x,[j],[],⟨some (d,.sv s),[],[]⟩⟩::acc) (S.set d (.sv s)))(hd:d<S.n:=by exact tl Y):RunT P C ops nd K (⟨some d,.load T x,ty,pos,aft,none⟩::rest) acc S:=
 RT.sW .none hx hB hn hd next
theorem fa{f off:Nat}[hf:Bj P T f off U][sU:Cb P U]{j o:Nat}(hx:S.ev x=.ptr j o){o':Nat}(ho':o+off=o')(next:RunT P C ops nd K rest (⟨[]++bg x,[],[],⟨some (d,.ptr j o'),[],[]⟩⟩::acc) (S.set d (.ptr j o')))(hd:d<S.n:=by exact tl Y):RunT P C ops nd K (⟨some d,.fieldAddr T x f,ty,pos,aft,none⟩::rest) acc S:=
 RT.fieldAddr .none hx hd ho' next
theorem so{n:Nat}[tA:wz P T n]{j:Nat}{B:nM}{cs:List SV}[o1:tR cs](hx:S.ev x=.ptr j 0)(hB:S.b j=some B)(hy:S.ev y=.sv (.agg cs))(next:RunT P C ops nd K rest (⟨[]++(bg x++bg y),[j],[],⟨none,[(j,⟨B.T,cs.map AV.sv⟩)],[]⟩⟩::acc) (S.kP j ⟨B.T,cs.map AV.sv⟩))(tX:cs.length=n:=by exact rfl)(hn:B.cells.length=n:=by exact rfl):RunT P C ops nd K (⟨none,.store T x y,ty,pos,aft,none⟩::rest) acc S:=
 RT.store .none hx hB hy tX hn next
theorem ex{i:Nat}{ss:List SV}{s:SV}(hx:S.ev x=.sv (.yy ss))(hi:ss[i]? =some s)(next:RunT P C ops nd K rest (⟨[]++bg x,[],[],⟨some (d,.sv s),[],[]⟩⟩::acc) (S.set d (.sv s)))(hd:d<S.n:=by exact tl Y):RunT P C ops nd K (⟨some d,.extract x i,ty,pos,aft,none⟩::rest) acc S:=
 RT.extract .none hx hi hd next
theorem bx{cells:List SV}(hx:S.ev x=.sv (.agg cells))(next:RunT P C ops nd K rest (⟨[]++bg x,[d],[],⟨some (d,.ptr d 0),[(d,⟨T,cells.map AV.sv⟩)],[]⟩⟩::acc) ((S.kP d ⟨T,cells.map AV.sv⟩).set d (.ptr d 0)))(hd:d<S.n:=by exact tl Y)(hb:S.b d=none:=by exact rfl)(hp:C.jr d=none:=by exact rfl):RunT P C ops nd K (⟨some d,.box T x,ty,pos,aft,none⟩::rest) acc S:=
 RT.box .none hx hd hb hp next
theorem lr[tV:pz P T]{cells:List SV}{s:SV}(hx:S.ev x=.sv (ref cells))(hn:cells[0]? =some s)(next:RunT P C ops nd K rest (⟨[]++bg x,[],[],⟨some (d,.sv s),[],[]⟩⟩::acc) (S.set d (.sv s)))(hd:d<S.n:=by exact tl Y):RunT P C ops nd K (⟨some d,.load T x,ty,pos,aft,none⟩::rest) acc S:=
 RT.cE .none hx hn hd next
theorem cB{f:FuncId}[cZ P f]{g:Operand}{xs:Array Operand}{at_:Array TypeId}{args:List SV}{T:TypeId}{c0 c1:List SV}{res:SV}(hp:Lp P f args T c0 res c1)(j:Nat)(hB:S.b j=some ⟨T,c0.map AV.sv⟩)(hargs:jQ S xs.toList args)(next:RunT P C ops nd K rest (⟨[]++(bg g++xs.toList.flatMap bg),[j],[],⟨some (d,.sv res),[(j,⟨T,c1.map AV.sv⟩)],[]⟩⟩::acc) ((AS.kU [(j,⟨T,c1.map AV.sv⟩)] S).set d (.sv res)))(hf:S.ev g=.fD f [.box j]:=by exact rfl)(hd:d<S.n:=by exact tl Y):RunT P C ops nd K (⟨some d,.call ⟨.value g,xs,at_⟩,ty,pos,aft,none⟩::rest) acc S:=
 RT.VU .none hp j hB hf hargs hd next
theorem cN{f:FuncId}[cZ P f]{g:Operand}{xs:Array Operand}{at_:Array TypeId}{args:List SV}{R:Row}(hp:GW P f args R)(hargs:jQ S xs.toList args)(next:RunT P C ops nd K rest (⟨[]++(bg g++xs.toList.flatMap bg),[],[d],⟨some (d,.row d),[],[(d,.live R)]⟩⟩::acc) ((AS.cg [(d,.live R)] S).set d (.row d)))(hf:S.ev g=.sv (.v (.func (.func f) #[] #[])):=by exact rfl)(hd:d<S.n:=by exact tl Y)(yB:S.r d=.un:=by exact rfl)(v7:d<1000:=by exact tl Y):RunT P C ops nd K (⟨some d,.call ⟨.value g,xs,at_⟩,ty,pos,aft,none⟩::rest) acc S:=
 RT.VT .none hp hf hargs hd yB v7 next
theorem gm{j_ g_:Nat}{fj:Bool}{s:SV}(hx:S.ev x=.sv s)(next:RunT P C ops nd K rest (⟨[g_]++bg x,[],[],⟨some (d,.sv s),[],[]⟩⟩::acc) (S.set d (.sv s)))(By:(ops[j_]?).bind (·.dst)=some g_:=by exact rfl)(Bz:S.t g_=.sv (.v (.bool fj)):=by exact rfl)(hd:d<S.n:=by exact tl Y):RunT P C ops nd K (⟨some d,.move x,ty,pos,aft,some (j_,fj)⟩::rest) acc S:=
 RT.mv (.some By Bz) hx hd next
theorem gl{j_ g_:Nat}{fj:Bool}{n:Nat}[tA:wz P T n]{j off:Nat}{B:nM}{cs:List SV}(hx:S.ev x=.ptr j off)(hB:S.b j=some B)(hcs:KH B.cells off cs)(next:RunT P C ops nd K rest (⟨[g_]++bg x,[j],[],⟨some (d,.sv (.agg cs)),[],[]⟩⟩::acc) (S.set d (.sv (.agg cs))))(By:(ops[j_]?).bind (·.dst)=some g_:=by exact rfl)(Bz:S.t g_=.sv (.v (.bool fj)):=by exact rfl)(hn:cs.length=n:=by exact rfl)(hd:d<S.n:=by exact tl Y):RunT P C ops nd K (⟨some d,.load T x,ty,pos,aft,some (j_,fj)⟩::rest) acc S:=
 RT.load (.some By Bz) hx hB hcs hn hd next
theorem gc{j_ g_:Nat}{fj:Bool}{f:FuncId}[cZ P f]{g:Operand}{xs:Array Operand}{at_:Array TypeId}{args:List SV}{r:SV}(hp:Pure P f args r)(hargs:jQ S xs.toList args)(next:RunT P C ops nd K rest (⟨[g_]++(bg g++xs.toList.flatMap bg),[],[],⟨some (d,.sv r),[],[]⟩⟩::acc) (S.set d (.sv r)))(By:(ops[j_]?).bind (·.dst)=some g_:=by exact rfl)(Bz:S.t g_=.sv (.v (.bool fj)):=by exact rfl)(hf:S.ev g=.sv (.v (.func (.func f) #[] #[])):=by exact rfl)(hd:d<S.n:=by exact tl Y):RunT P C ops nd K (⟨some d,.call ⟨.value g,xs,at_⟩,ty,pos,aft,some (j_,fj)⟩::rest) acc S:=
 RT.call (.some By Bz) hp hf hargs hd next
theorem gr{j_ g_:Nat}{fj:Bool}[tV:pz P T]{cells:List SV}{s:SV}(hx:S.ev x=.sv (ref cells))(hn:cells[0]? =some s)(next:RunT P C ops nd K rest (⟨[g_]++bg x,[],[],⟨some (d,.sv s),[],[]⟩⟩::acc) (S.set d (.sv s)))(By:(ops[j_]?).bind (·.dst)=some g_:=by exact rfl)(Bz:S.t g_=.sv (.v (.bool fj)):=by exact rfl)(hd:d<S.n:=by exact tl Y):RunT P C ops nd K (⟨some d,.load T x,ty,pos,aft,some (j_,fj)⟩::rest) acc S:=
 RT.cE (.some By Bz) hx hn hd next
end
section
variable {P:Program}{C:Ctx}{ops:Array Oper}{S:AS}{nd:Bool}{K:List Ac->AS->Prop}{rest:List Oper}{acc:List Ac}
variable {gd:Option (Nat×Bool)}{rg:List Nat}{d:Nat}{ty:TypeId}{pos:String}{aft:Array Edge}{x y z:Operand}{T U E0:TypeId}
variable {l l' k:S7}
theorem ww{op:Op}{j g:Nat}{b want:Bool}(next:RunT P C ops nd K rest (⟨[g],[],[],⟨some (d,.sv (.v undef)),[],[]⟩⟩::acc) (S.set d (.sv (.v undef))))(h1:(ops[j]?).bind (·.dst)=some g:=by exact rfl)(h2:S.t g=.sv (.v (.bool b)):=by exact rfl)(hb:b≠want:=by exact sk Y)(hd:d<S.n:=by exact tl Y):RunT P C ops nd K (⟨some d,op,ty,pos,aft,some (j,want)⟩::rest) acc S:=
 RT.skV h1 h2 hb hd next
theorem wu{op:Op}{j g:Nat}{want:Bool}(next:RunT P C ops nd K rest (⟨[g],[],[],⟨some (d,.sv (.v undef)),[],[]⟩⟩::acc) (S.set d (.sv (.v undef))))(h1:(ops[j]?).bind (·.dst)=some g:=by exact rfl)(h2:S.t g=.sv (.v undef):=by exact rfl)(hd:d<S.n:=by exact tl Y):RunT P C ops nd K (⟨some d,op,ty,pos,aft,some (j,want)⟩::rest) acc S:=
 RT.Wa h1 h2 hd next
end
section
variable {P:Program}{C:Ctx}{ops:Array Oper}{S:AS}{nd:Bool}{K:List Ac->AS->Prop}{rest:List Oper}{acc:List Ac}
variable {gd:Option (Nat×Bool)}{rg:List Nat}{d:Nat}{ty:TypeId}{pos:String}{aft:Array Edge}{x y z:Operand}{T U E0:TypeId}
variable {α:Type}{l l' k:List α}{e:α->List SV}{n by_:Nat}{zv:Value}
theorem ln{m:Nat}[tS:eV P T E0 m]{c:Int}(hx:S.ev x=.sv (slc n (l.map e)))(hc:(l.length:Int)=c)(next:RunT P C ops nd K rest (⟨[]++bg x,[],[],⟨some (d,.sv (.v (.int .i64 c))),[],[]⟩⟩::acc) (S.set d (.sv (.v (.int .i64 c)))))(hd:d<S.n:=by exact tl Y):RunT P C ops nd K (⟨some d,.call ⟨.builtin .len,#[x],#[T]⟩,ty,pos,aft,none⟩::rest) acc S:=
 RT.V6 .none hx hd hc next
theorem al[tz:gJ P T zv]{cs:List SV}(hi:eP (zv.cells.toList.map SV.v) cs){av:List AV}(hav:cs.map AV.sv=av)(next:RunT P C ops nd K rest (⟨[]++[],[d],[],⟨some (d,.ptr d 0),[(d,⟨T,av⟩)],[]⟩⟩::acc) ((S.kP d ⟨T,av⟩).set d (.ptr d 0)))(hd:d<S.n:=by exact tl Y)(hb:S.b d=none:=by exact rfl)(hp:C.jr d=none:=by exact rfl):RunT P C ops nd K (⟨some d,.alloc T,ty,pos,aft,none⟩::rest) acc S:=
 RT.pK .none hi hav hd hb hp next
theorem ix[tS:eV P T E0 n]{kk:IntKind}{i:Int}{a:α}(hx:S.ev x=.sv (slc n (l.map e)))(hy:S.ev y=.sv (.v (.int kk i)))(ha:cY l i=some a)(next:RunT P C ops nd K rest (⟨[]++(bg x++bg y),[],[],⟨some (d,.sv (ref (e a))),[],[]⟩⟩::acc) (S.set d (.sv (ref (e a)))))(hd:d<S.n:=by exact tl Y):RunT P C ops nd K (⟨some d,.indexAddr T x y,ty,pos,aft,none⟩::rest) acc S:=
 RT.Q3 .none hx hy hd ha next
theorem bl[tS:eV P T E0 n][tE:jx P E0 n by_ zv]{len:Nat}{parts:Array (Nat×Operand)}{qs:List (Nat×List SV)}(hp:kX S parts.toList qs)(hc:pG 0 qs=true)(hl:qs.length=len)(hsz:(qs.all λq=>Nat.beq q.2.length n)=true)(hlen:Nat.ble (len*n) 16777216=true)(Lh:(zv.cells.toList.all λv=>v.oneCell')=true)(oL:qs.map (·.2)=l.map e)(next:RunT P C ops nd K rest (⟨[]++gK parts.toList,[],[],⟨some (d,.sv (slc n (l.map e))),[],[]⟩⟩::acc) (S.set d (.sv (slc n (l.map e)))))(hd:d<S.n:=by exact tl Y):RunT P C ops nd K (⟨some d,.buildSlice T len parts,ty,pos,aft,none⟩::rest) acc S:=
 RT.gy .none hp hd hc hl hsz hlen Lh oL next
theorem iR[tS:eV P T E0 n]{i j:Nat}{E1:TypeId}{kk:IntKind}{v:Int}(hx:S.ev x=.row i)(hR:S.r i=.live (TR E1 n e l))(hy:S.ev y=.sv (.v (.int kk v)))(h:tB l v=some j)(next:RunT P C ops nd K rest (⟨[]++(bg x++bg y),[],[i],⟨some (d,.iG i (j*n)),[],[]⟩⟩::acc) (S.set d (.iG i (j*n))))(hd:d<S.n:=by exact tl Y):RunT P C ops nd K (⟨some d,.indexAddr T x y,ty,pos,aft,none⟩::rest) acc S:=
 RT.aar .none hx hR hy hd h next
theorem aI{s X:SV}(hx:S.ev x=.sv s)(hi:SV.imp s X)(next:RunT P C ops nd K rest (⟨[]++bg x,[],[],⟨some (d,.sv X),[],[]⟩⟩::acc) (S.set d (.sv X)))(hd:d<S.n:=by exact tl Y):RunT P C ops nd K (⟨some d,.assign x,ty,pos,aft,none⟩::rest) acc S:=
 RT.aap .none hx hi hd next
theorem bI{pl:List (Nat×Nat)}{zc:List Value}[tP:iq P T pl zc]{parts:Array (Nat×Operand)}{qs:List (Nat×List SV)}(hp:kX S parts.toList qs){cs cs':List SV}(hi:eP cs cs')(next:RunT P C ops nd K rest (⟨[]++gK parts.toList,[],[],⟨some (d,.sv (.agg cs')),[],[]⟩⟩::acc) (S.set d (.sv (.agg cs'))))(hf:qJ (λi=>pl[i]?) (zc.map SV.v) qs=some cs:=by exact rfl)(hd:d<S.n:=by exact tl Y):RunT P C ops nd K (⟨some d,.build T parts,ty,pos,aft,none⟩::rest) acc S:=
 RT.S6 .none hp hf hi hd next
theorem lR[tV:pz P T][el:EL e 1]{i j:Nat}{E1:TypeId}{a:α}{s:SV}(hx:S.ev x=.iG i (j*1))(hR:S.r i=.live (TR E1 1 e l))(ha:l[j]? =some a)(hs:e a=[s])(next:RunT P C ops nd K rest (⟨[]++bg x,[],[i],⟨some (d,.sv s),[],[]⟩⟩::acc) (S.set d (.sv s)))(hd:d<S.n:=by exact tl Y):RunT P C ops nd K (⟨some d,.load T x,ty,pos,aft,none⟩::rest) acc S:=
 RT.V8 .none hx hR ha hs hd next
theorem aR[tS:eV P T E0 n][tE:jx P E0 n by_ zv]{i:Nat}(hx:S.ev x=.row i)(hR:S.r i=.live (TR E0 n e l))(hy:S.ev y=.sv (slc n (k.map e)))(h:sX by_ l k=some l')(next:RunT P C ops nd K rest (⟨[]++(bg x++bg y),[],[i,d],⟨some (d,.row d),[],[(i,.dead),(d,.live (TR E0 n e l'))]⟩⟩::acc) ((AS.cg [(i,.dead),(d,.live (TR E0 n e l'))] S).set d (.row d)))(hd:d<S.n:=by exact tl Y)(yB:S.r d=.un:=by exact rfl)(v7:d<1000:=by exact tl Y):RunT P C ops nd K (⟨some d,.call ⟨.builtin .append,#[x,y],#[T,T]⟩,ty,pos,aft,none⟩::rest) acc S:=
 RT.apR .none hx hR hy hd yB v7 h next
theorem sR[tV:pz P T][el:EL e 1]{i j:Nat}{E1:TypeId}{s:SV}[o1:One s](a:α)(hs:e a=[s])(hx:S.ev x=.iG i (j*1))(hR:S.r i=.live (TR E1 1 e l))(hy:S.ev y=.sv s)(h:stM l j a=some l')(next:RunT P C ops nd K rest (⟨[]++(bg x++bg y),[],[i],⟨none,[],[(i,.live (TR E1 1 e l'))]⟩⟩::acc) (AS.cg [(i,.live (TR E1 1 e l'))] S)):RunT P C ops nd K (⟨none,.store T x y,ty,pos,aft,none⟩::rest) acc S:=
 RT.aas .none a hs hx hR hy h next
theorem sA[tA:wz P T n][el:EL e n]{i j:Nat}{E1:TypeId}(a:α)(hx:S.ev x=.iG i (j*n))(hR:S.r i=.live (TR E1 n e l))(hy:S.ev y=.sv (.agg (e a)))(h:stM l j a=some l')(next:RunT P C ops nd K rest (⟨[]++(bg x++bg y),[],[i],⟨none,[],[(i,.live (TR E1 n e l'))]⟩⟩::acc) (AS.cg [(i,.live (TR E1 n e l'))] S)):RunT P C ops nd K (⟨none,.store T x y,ty,pos,aft,none⟩::rest) acc S:=
 RT.V9 .none a hx hR hy h next
theorem lL{m:Nat}[tS:eV P T E0 m]{i:Nat}{E1:TypeId}{c:Int}(hx:S.ev x=.row i)(hR:S.r i=.live (TR E1 n e l))(hc:(l.length:Int)=c)(next:RunT P C ops nd K rest (⟨[]++bg x,[],[i],⟨some (d,.sv (.v (.int .i64 c))),[],[]⟩⟩::acc) (S.set d (.sv (.v (.int .i64 c)))))(hd:d<S.n:=by exact tl Y):RunT P C ops nd K (⟨some d,.call ⟨.builtin .len,#[x],#[T]⟩,ty,pos,aft,none⟩::rest) acc S:=
 RT.V7 .none hx hR hd hc next
theorem cR{f:FuncId}[cZ P f]{g:Operand}{xs:Array Operand}{at_:Array TypeId}{args:List AV}{E1:TypeId}{res:AV}(hp:GV P f args (TR E1 n e l) res (l'.flatMap e))(hlen:l'.length=l.length)(i:Nat)(hR:S.r i=.live (TR E1 n e l))(hargs:C7 S xs.toList (args.map (AV.xD i)))(next:RunT P C ops nd K rest (⟨[]++(bg g++xs.toList.flatMap bg),[],[i],⟨some (d,res.xD i),[],[(i,.live (TR E1 n e l'))]⟩⟩::acc) ((AS.cg [(i,.live (TR E1 n e l'))] S).set d (res.xD i)))(hrow:args.all AV.wF=true:=by exact rfl)(hres:res.wF=true:=by exact rfl)(hf:S.ev g=.sv (.v (.func (.func f) #[] #[])):=by exact rfl)(hd:d<S.n:=by exact tl Y):RunT P C ops nd K (⟨some d,.call ⟨.value g,xs,at_⟩,ty,pos,aft,none⟩::rest) acc S:=
 RT.Tb .none hp hlen i hR hrow hres hf hargs hd next
theorem gn{j_ g_:Nat}{fj:Bool}{m:Nat}[tS:eV P T E0 m]{c:Int}(hx:S.ev x=.sv (slc n (l.map e)))(hc:(l.length:Int)=c)(next:RunT P C ops nd K rest (⟨[g_]++bg x,[],[],⟨some (d,.sv (.v (.int .i64 c))),[],[]⟩⟩::acc) (S.set d (.sv (.v (.int .i64 c)))))(By:(ops[j_]?).bind (·.dst)=some g_:=by exact rfl)(Bz:S.t g_=.sv (.v (.bool fj)):=by exact rfl)(hd:d<S.n:=by exact tl Y):RunT P C ops nd K (⟨some d,.call ⟨.builtin .len,#[x],#[T]⟩,ty,pos,aft,some (j_,fj)⟩::rest) acc S:=
 RT.V6 (.some By Bz) hx hd hc next
end
section
variable {P:Program}{C:Ctx}{ops:Array Oper}{S:AS}{nd:Bool}{K:List Ac->AS->Prop}{rest:List Oper}{acc:List Ac}
variable {gd:Option (Nat×Bool)}{rg:List Nat}{d:Nat}{ty:TypeId}{pos:String}{aft:Array Edge}{x y z:Operand}{T U E0 E1:TypeId}
theorem fl{f off:Nat}[hf:Bj P T f off U][tV:pz P U]{cs:List SV}{s:SV}(hx:S.ev x=.sv (.agg cs))(hs:cs[off]? =some s)(next:RunT P C ops nd K rest (⟨[]++bg x,[],[],⟨some (d,.sv s),[],[]⟩⟩::acc) (S.set d (.sv s)))(hd:d<S.n:=by exact tl Y):RunT P C ops nd K (⟨some d,.field T x f,ty,pos,aft,none⟩::rest) acc S:=
 RT.field .none hx hs hd next
end
end
end Go.Fw.Z
namespace Go.Proofs.YtfoldppidpmchaaGreat
section
open Go.Fw
noncomputable def dx(x0:List Nat):Option (List Nat):=sX 4 [] x0
noncomputable def bO(x0:Nat)(c0:Nat):Option (Nat×Nat):=(some ((x0+c0)%18446744073709551616)).bind λx6=>(some (x6/2^32)).bind λx8=>(some (x6%4294967296)).bind λdK=>some (dK,x8)
noncomputable def bn(x0:List Nat):Option (List Nat):=(b8 (λ(Dl:(List Nat))=>(show Option (((List Nat))⊕((List Nat)))from cm (λ(G2:Bool)=>(bif G2 then(some (Dl.length:Int)).bind λfz=>(some (IntKind.i64.wrap (fz-1))).bind λfK=>(yD Dl 0 fK).bind λjU=>some (.inl jU)else some (.inr Dl))) λLK=>(some (Dl.length:Int)).bind λx4=>(some (decide ((0:Int)<x4))).bind λx5=>(bif x5 then(some (Dl.length:Int)).bind λx9=>(some (IntKind.i64.wrap (x9-1))).bind λdK=>(cY Dl dK).bind λgu=>(some (decide ((gu:Nat)=0))).bind λjz=>some jz else some false).bind λLL=>LK LL)) x0).bind λJY=>some JY
noncomputable def cf(x0:Bool)(x1:List Nat):Option (Zr):=(bn x1).bind λx6=>(some (x6.length:Int)).bind λx8=>(some (decide ((x8:Int)=0))).bind λx9=>(bif x9 then some ⟨false,[]⟩else some ⟨x0,x6⟩)
noncomputable def ek(x0:Bool)(x1:Nat):Option (Zr):=(some (decide ((x1:Nat)=0))).bind λx7=>(bif x7 then some ⟨false,[]⟩else(some (x1/2^32)).bind λgu=>(some (decide ((gu:Nat)=0))).bind λdg=>(bif dg then(some (x1%4294967296)).bind λeM=>some ⟨x0,[eM]⟩else(some (x1%4294967296)).bind λjw=>(some (x1/2^32)).bind λiB=>(some (iB%4294967296)).bind λiC=>some ⟨x0,[jw,iC]⟩))
noncomputable def dh(x0:List Nat):Option (Nat):=(some (x0.length:Int)).bind λx4=>(some (decide ((x4:Int)=0))).bind λx6=>(bif x6 then some 0 else(some (decide ((x4:Int)=1))).bind λx8=>(bif x8 then(cY x0 0).bind λdK=>(some (dK%18446744073709551616)).bind λdg=>some dg else(cY x0 0).bind λdO=>(some (dO%18446744073709551616)).bind λeU=>(cY x0 1).bind λfK=>(some (fK%18446744073709551616)).bind λjw=>(some (jw*2^32%18446744073709551616)).bind λfZ=>(some ((eU ||| fZ)%18446744073709551616)).bind λiB=>some iB))
noncomputable def cG(x0:List Nat)(x1:List Nat):Option (Int):=(some (x0.length:Int)).bind λx7=>(some (x1.length:Int)).bind λx9=>(some (decide ((x7:Int)≠x9))).bind λdK=>(bif dK then(some (x0.length:Int)).bind λdg=>(some (x1.length:Int)).bind λdO=>(some (decide ((dg:Int)<dO))).bind λeM=>(bif eM then some (-1)else some 1)else(some (x0.length:Int)).bind λfz=>(some (IntKind.i64.wrap (fz-1))).bind λfK=>(b8 (λ(mh:Int)=>(show Option ((Int)⊕((Unit)⊕(Int)))from(some (decide ((0:Int)<=mh))).bind λjw=>(bif jw then(cY x0 mh).bind λnK=>(cY x1 mh).bind λiM=>(some (decide ((nK:Nat)≠iM))).bind λql=>(bif ql then(cY x0 mh).bind λmK=>(cY x1 mh).bind λxG=>(some (decide ((mK:Nat)<xG))).bind λmL=>(bif mL then some (.inr (.inr (-1)))else some (.inr (.inr 1)))else(some (IntKind.i64.wrap (mh-1))).bind λiB=>some (.inl iB))else some (.inr (.inl ()))))) fK).bind λe6=>match e6 with|.inr v6=>some v6|.inl _=>some 0)
noncomputable def dY(x0:List Nat)(x1:List Nat):Option (List Nat):=(some (x0.length:Int)).bind λdK=>(some (x1.length:Int)).bind λdg=>(some (max (dK:Int) dg)).bind λjz=>(some (IntKind.i64.wrap (jz+1))).bind λdO=>(OU (α:=Nat) 4 dO).bind λeM=>(ou (λ(k:Nat) (s7:Nat×(List Nat))=>match s7 with|⟨u0,iO⟩=>(show Option (Nat×(List Nat))from(some (x0.getD k 0%18446744073709551616)).bind λp20=>(some (x1.getD k 0%18446744073709551616)).bind λp21=>(some ((p20+p21)%18446744073709551616)).bind λmG=>(bO mG u0).bind λ⟨gx,k9⟩=>(sX 4 iO [gx]).bind λiM=>some (k9,iM))) (max x0.length x1.length) (0,eM)).bind λe7=>match e7 with|⟨u0,iO⟩=>(bO 0 u0).bind λ⟨ir,k11⟩=>(sX 4 iO [ir]).bind λmK=>some mK
noncomputable def cI(x0:List Nat)(x1:List Nat):Option (List Nat):=(some (x0.length:Int)).bind λdK=>(OU (α:=Nat) 4 dK).bind λgu=>(ou (λ(k:Nat) (s7:Nat×(List Nat))=>match s7 with|⟨yY,iO⟩=>(show Option (Nat×(List Nat))from(some (x0.getD k 0%18446744073709551616)).bind λp16=>(some (x1.getD k 0%18446744073709551616)).bind λp17=>(some (nj 18446744073709551616 4294967295 p17)).bind λiB=>(some ((p16+iB)%18446744073709551616)).bind λiC=>(bO iC yY).bind λ⟨gU,k9⟩=>(sX 4 iO [gU]).bind λmG=>some (k9,mG))) (max x0.length x1.length) (1,gu)).bind λe7=>match e7 with|⟨yY,iO⟩=>some iO
noncomputable def fB(x0:List Nat)(x1:List Nat):Option (List Nat):=(some (x0.length:Int)).bind λdg=>(some (x1.length:Int)).bind λdO=>(some (IntKind.i64.wrap (dg+dO))).bind λeM=>(Ce 4 eM (0:Nat)).bind λeU=>(some (x0.length:Int)).bind λfK=>(b8 (λ(Vk:Int×(List Nat))=>match Vk with|⟨nk,Dm⟩=>(show Option ((Int×(List Nat))⊕((List Nat)))from(some (decide ((nk:Int)<fK))).bind λjw=>(bif jw then(cY x0 nk).bind λiB=>(some (x1.length:Int)).bind λmG=>(b8 (λ(Tf:Int×Nat×(List Nat))=>match Tf with|⟨wM,va,uf⟩=>(show Option ((Int×Nat×(List Nat))⊕(Nat×(List Nat)))from(some (decide ((wM:Int)<mG))).bind λmm=>(bif mm then(cY x1 wM).bind λwN=>(some (IntKind.i64.wrap (nk+wM))).bind λsu=>(some (IntKind.i64.wrap (nk+wM))).bind λmL=>(tB uf mL).bind λv8=>(uf[v8]?).bind λug=>(some (ug%18446744073709551616)).bind λCp=>(some (iB%18446744073709551616)).bind λGG=>(some (wN%18446744073709551616)).bind λxH=>(some ((GG*xH)%18446744073709551616)).bind λBA=>(some ((Cp+BA)%18446744073709551616)).bind λWi=>(bO Wi va).bind λ⟨Bk,k41⟩=>(tB uf su).bind λQ5=>(stM uf Q5 Bk).bind λl42=>(some (IntKind.i64.wrap (wM+1))).bind λyZ=>some (.inl (yZ,k41,l42))else some (.inr (va,uf))))) (0,0,Dm)).bind λe38=>match e38 with|⟨EY,G3⟩=>(some (x1.length:Int)).bind λQ6=>(some (IntKind.i64.wrap (nk+Q6))).bind λKL=>(bO 0 EY).bind λ⟨LM,k45⟩=>(tB G3 KL).bind λEZ=>(stM G3 EZ LM).bind λl46=>(some (IntKind.i64.wrap (nk+1))).bind λTg=>some (.inl (Tg,l46))else some (.inr Dm)))) (0,eU)).bind λuh=>some uh
noncomputable def gM(x0:List Nat)(x1:Nat):Option (Nat×List Nat):=(some (x0.length:Int)).bind λx9=>(some (IntKind.i64.wrap (x9-1))).bind λdK=>(b8 (λ(s8:Nat×Int×(List Nat))=>match s8 with|⟨LN,E4,pL⟩=>(show Option ((Nat×Int×(List Nat))⊕(Nat×(List Nat)))from(some (decide ((0:Int)<=E4))).bind λdg=>(bif dg then(some (LN*2^32%18446744073709551616)).bind λeU=>(tB pL E4).bind λjU=>(pL[jU]?).bind λjw=>(some (jw%18446744073709551616)).bind λfZ=>(some ((eU ||| fZ)%18446744073709551616)).bind λiB=>(Db 18446744073709551616 iB x1).bind λgx=>(some (gx%4294967296)).bind λmm=>(tB pL E4).bind λiM=>(stM pL iM mm).bind λqC=>(Bw iB x1).bind λir=>(some (IntKind.i64.wrap (E4-1))).bind λdO=>some (.inl (ir,dO,qC))else some (.inr (LN,pL))))) (0,dK,x0)).bind λe8=>match e8 with|⟨Wj,y4⟩=>(tD x0 y4).bind λ_=>some (Wj,y4)
noncomputable def eN(x0:List Nat)(x1:Nat):Option (List Nat):=(some (x0.length:Int)).bind λgu=>(some (IntKind.i64.wrap (gu+1))).bind λdg=>(OU (α:=Nat) 4 dg).bind λjz=>(some (x0.length:Int)).bind λeM=>(b8 (λ(s8:Int×Nat×(List Nat))=>match s8 with|⟨vc,pM,iO⟩=>(show Option ((Int×Nat×(List Nat))⊕(Nat×(List Nat)))from(some (decide ((vc:Int)<eM))).bind λfz=>(bif fz then(cY x0 vc).bind λfK=>(some (fK%18446744073709551616)).bind λiC=>(some (iC*2^(min x1 64)%18446744073709551616)).bind λnK=>(bO nK pM).bind λ⟨mG,Th⟩=>(sX 4 iO [mG]).bind λmm=>(some (IntKind.i64.wrap (vc+1))).bind λiM=>some (.inl (iM,Th,mm))else some (.inr (pM,iO))))) (0,0,jz)).bind λe8=>match e8 with|⟨zV,LO⟩=>(bO 0 zV).bind λ⟨ir,k12⟩=>(sX 4 LO [ir]).bind λmK=>some mK
noncomputable def gZ(x0:List Nat)(x1:Nat):Option (List Nat):=(some (x0.length:Int)).bind λgu=>(some (IntKind.i64.wrap (gu+1))).bind λdg=>(OU (α:=Nat) 4 dg).bind λjz=>(some (x0.length:Int)).bind λeM=>(b8 (λ(s8:Int×Nat×(List Nat))=>match s8 with|⟨vc,pM,ow⟩=>(show Option ((Int×Nat×(List Nat))⊕(Nat×(List Nat)))from(some (decide ((vc:Int)<eM))).bind λfz=>(bif fz then(cY x0 vc).bind λfK=>(some (fK%18446744073709551616)).bind λiC=>(some (iC*2^(min x1 64)%18446744073709551616)).bind λnK=>(bO nK pM).bind λ⟨mG,Th⟩=>(sX 4 ow [mG]).bind λmm=>(some (IntKind.i64.wrap (vc+1))).bind λiM=>some (.inl (iM,Th,mm))else some (.inr (pM,ow))))) (0,0,jz)).bind λe8=>match e8 with|⟨zV,oz⟩=>(bO 0 zV).bind λ⟨ir,k12⟩=>(sX 4 oz [ir]).bind λmK=>some mK
noncomputable def fN(x0:Nat):Option (Int):=(some (decide ((65536:Nat)<=x0))).bind λx4=>cm (λ(j2:Nat×Int)=>match j2 with|⟨G4,O6⟩=>(some (decide ((256:Nat)<=G4))).bind λx8=>cm (λ(j4:Nat×Int)=>match j4 with|⟨Wk,Wm⟩=>(some (Wk%256)).bind λeM=>(tC [0,1,2,2,3,3,3,3,4,4,4,4,4,4,4,4,5,5,5,5,5,5,5,5,5,5,5,5,5,5,5,5,6,6,6,6,6,6,6,6,6,6,6,6,6,6,6,6,6,6,6,6,6,6,6,6,6,6,6,6,6,6,6,6,7,7,7,7,7,7,7,7,7,7,7,7,7,7,7,7,7,7,7,7,7,7,7,7,7,7,7,7,7,7,7,7,7,7,7,7,7,7,7,7,7,7,7,7,7,7,7,7,7,7,7,7,7,7,7,7,7,7,7,7,7,7,7,7,8,8,8,8,8,8,8,8,8,8,8,8,8,8,8,8,8,8,8,8,8,8,8,8,8,8,8,8,8,8,8,8,8,8,8,8,8,8,8,8,8,8,8,8,8,8,8,8,8,8,8,8,8,8,8,8,8,8,8,8,8,8,8,8,8,8,8,8,8,8,8,8,8,8,8,8,8,8,8,8,8,8,8,8,8,8,8,8,8,8,8,8,8,8,8,8,8,8,8,8,8,8,8,8,8,8,8,8,8,8,8,8,8,8,8,8,8,8,8,8,8,8,8,8,8,8,8,8] ((eM:Nat):Int)).bind λeU=>(some (IntKind.i64.wrap (eU:Int))).bind λfz=>(some (IntKind.i64.wrap (Wm+fz))).bind λfK=>some fK) λK4=>(bif x8 then(some (G4/2^8)).bind λdK=>(some (IntKind.i64.wrap (O6+8))).bind λdg=>K4 (dK,dg)else K4 (G4,O6))) λK2=>(bif x4 then(some (x0/2^16)).bind λx6=>K2 (x6,16)else K2 (x0,0))
noncomputable def cS(x0:Nat):Option (Int):=(fN x0).bind λx4=>(some (IntKind.i64.wrap (32-x4))).bind λx5=>some x5
noncomputable def gN(x0:List Nat)(o0:Nat)(n0:Nat)(x1:List Nat):Option (Nat×List Nat):=(some (x1.length:Int)).bind λdg=>(Ot o0 n0 dg).bind λeM=>(x0[eM]?).bind λeU=>(some (eU%18446744073709551616)).bind λfz=>(some (fz*2^32%18446744073709551616)).bind λfK=>(some (IntKind.i64.wrap (dg-1))).bind λfZ=>(Ot o0 n0 fZ).bind λiB=>(x0[iB]?).bind λiC=>(some (iC%18446744073709551616)).bind λgU=>(some ((fK ||| gU)%18446744073709551616)).bind λnK=>(some (IntKind.i64.wrap (dg-1))).bind λmm=>(cY x1 mm).bind λiM=>(some (iM%18446744073709551616)).bind λql=>(some (IntKind.i64.wrap (dg-2))).bind λmK=>(cY x1 mK).bind λsu=>(some (su%18446744073709551616)).bind λwc=>(Db 18446744073709551616 nK ql).bind λmL=>(Bw nK ql).bind λCp=>(b8 (λ(Cq:Nat×Nat)=>match Cq with|⟨BB,Cr⟩=>(show Option ((Nat×Nat)⊕(Nat))from cm (λ(G5:Bool)=>(bif G5 then(some (nj 18446744073709551616 BB 1)).bind λKM=>(some ((Cr+ql)%18446744073709551616)).bind λQ7=>(some (Q7/2^32)).bind λVl=>(some (decide ((Vl:Nat)≠0))).bind λVm=>(bif Vm then some (.inr KM)else some (.inl (KM,Q7)))else some (.inr BB))) λLK=>(some (BB/2^32)).bind λGG=>(some (decide ((GG:Nat)≠0))).bind λqV=>(bif qV then some true else(some ((BB*wc)%18446744073709551616)).bind λBk=>(some (Cr*2^32%18446744073709551616)).bind λyZ=>(some (IntKind.i64.wrap (dg-2))).bind λJZ=>(Ot o0 n0 JZ).bind λQ6=>(x0[Q6]?).bind λKL=>(some (KL%18446744073709551616)).bind λVn=>(some ((yZ ||| Vn)%18446744073709551616)).bind λLM=>(some (decide ((LM:Nat)<Bk))).bind λEZ=>some EZ).bind λLP=>LK LP)) (mL,Cp)).bind λJ0=>(tD x0 x0).bind λ_=>some (J0,x0)
noncomputable def cJ(x0:List Nat)(o0:Nat)(n0:Nat)(x1:List Nat)(x2:Nat):Option (Bool×List Nat):=(some (n0:Int)).bind λdO=>(b8 (λ(GH:Nat×Int×Nat×(List Nat))=>match GH with|⟨J1,ve,Dn,sw⟩=>(show Option ((Nat×Int×Nat×(List Nat))⊕(Nat×(List Nat)))from(some (decide ((ve:Int)<dO))).bind λeU=>(bif eU then(some (x1.length:Int)).bind λjw=>(some (decide ((ve:Int)<jw))).bind λfZ=>cm (λ(LQ:Nat)=>(Ot o0 n0 ve).bind λql=>(sw[ql]?).bind λir=>(some (ir%18446744073709551616)).bind λm6=>(bO LQ Dn).bind λ⟨uO,k16⟩=>(some (uO%18446744073709551616)).bind λwc=>(some (nj 18446744073709551616 m6 wc)).bind λxG=>(some (nj 18446744073709551616 xG J1)).bind λmL=>(some (mL%4294967296)).bind λBC=>(Ot o0 n0 ve).bind λGG=>(stM sw GG BC).bind λl18=>(some (mL/2^63)).bind λxH=>(some (IntKind.i64.wrap (ve+1))).bind λBA=>some (.inl (xH,BA,k16,l18))) λK14=>(bif fZ then(cY x1 ve).bind λgU=>(some (gU%18446744073709551616)).bind λmG=>(some ((mG*x2)%18446744073709551616)).bind λmm=>K14 mm else K14 0)else some (.inr (J1,sw))))) (0,0,0,x0)).bind λOu=>match Ou with|⟨LR,vf⟩=>(some (decide ((LR:Nat)≠0))).bind λBk=>(tD x0 vf).bind λ_=>some (Bk,vf)
noncomputable def iu(x0:List Nat)(x1:List Nat):Option ((List Nat)×(List Nat)):=(some (x1.length:Int)).bind λfz=>(some (IntKind.i64.wrap (fz-1))).bind λjw=>(cY x1 jw).bind λfZ=>(cS fZ).bind λiC=>(some ((iC%18446744073709551616).toNat)).bind λgU=>(gZ x0 gU).bind λgx=>(eN x1 gU).bind λwN=>(yD wN 0 fz).bind λir=>(some (x0.length:Int)).bind λmK=>(some (IntKind.i64.wrap (mK-fz))).bind λuO=>(some (IntKind.i64.wrap (uO+1))).bind λwc=>(Ce 4 wc (0:Nat)).bind λxG=>(some (x0.length:Int)).bind λmL=>(some (IntKind.i64.wrap (mL-fz))).bind λug=>(b8 (λ(Ti:Int×(List Nat)×(List Nat))=>match Ti with|⟨iP,qW,uj⟩=>(show Option ((Int×(List Nat)×(List Nat))⊕((List Nat)×(List Nat)))from(some (decide ((0:Int)<=iP))).bind λBC=>(bif BC then(some (IntKind.i64.wrap (iP+fz))).bind λQ5=>(some (IntKind.i64.wrap (Q5+1))).bind λyZ=>(S9 uj iP yZ).bind λ⟨o53,n53⟩=>(gN uj o53 n53 ir).bind λ⟨JZ,Tj⟩=>(tD uj Tj).bind λ_=>(some (IntKind.i64.wrap (iP+fz))).bind λEZ=>(some (IntKind.i64.wrap (EZ+1))).bind λTg=>(S9 Tj iP Tg).bind λ⟨o62,n62⟩=>(cJ Tj o62 n62 ir JZ).bind λ⟨IE,Vo⟩=>(tD Tj Vo).bind λ_=>cm (λ(Vp:Nat×(List Nat))=>match Vp with|⟨LS,G7⟩=>(some (LS%4294967296)).bind λHe=>(tB qW iP).bind λJ2=>(stM qW J2 He).bind λl55=>(some (IntKind.i64.wrap (iP-1))).bind λqV=>some (.inl (qV,l55,G7))) λK53=>(bif IE then(some (nj 18446744073709551616 JZ 1)).bind λLU=>(some (ir.length:Int)).bind λx70=>(b8 (λ(Tk:Int×Nat×(List Nat))=>match Tk with|⟨wO,vg,um⟩=>(show Option ((Int×Nat×(List Nat))⊕(Nat×(List Nat)))from(some (decide ((wO:Int)<x70))).bind λLV=>(bif LV then(cY ir wO).bind λO7=>(some (IntKind.i64.wrap (iP+wO))).bind λx79=>(some (IntKind.i64.wrap (iP+wO))).bind λGI=>(tB um GI).bind λWn=>(um[Wn]?).bind λLW=>(some (LW%18446744073709551616)).bind λx87=>(some (O7%18446744073709551616)).bind λzW=>(some ((x87+zW)%18446744073709551616)).bind λWo=>(bO Wo vg).bind λ⟨Tl,k68⟩=>(tB um x79).bind λBl=>(stM um Bl Tl).bind λl69=>(some (IntKind.i64.wrap (wO+1))).bind λx93=>some (.inl (x93,k68,l69))else some (.inr (vg,um))))) (0,0,Vo)).bind λe65=>match e65 with|⟨E5,zX⟩=>(some (IntKind.i64.wrap (iP+fz))).bind λx97=>(some (IntKind.i64.wrap (iP+fz))).bind λHf=>(tB zX Hf).bind λWp=>(zX[Wp]?).bind λBD=>(some (BD%18446744073709551616)).bind λuo=>(bO uo E5).bind λ⟨Tm,k72⟩=>(tB zX x97).bind λWq=>(stM zX Wq Tm).bind λl73=>K53 (LU,l73)else K53 (JZ,Vo))else some (.inr (qW,uj))))) (ug,xG,gx)).bind λWs=>match Ws with|⟨zY,wP⟩=>(Ce 4 fz (0:Nat)).bind λHg=>(b8 (λ(Vq:Int×(List Nat))=>match Vq with|⟨sD,vh⟩=>(show Option ((Int×(List Nat))⊕((List Nat)))from(some (decide ((sD:Int)<fz))).bind λTn=>(bif Tn then(tB wP sD).bind λJ3=>(wP[J3]?).bind λWt=>(some (Wt%18446744073709551616)).bind λTo=>(some (IntKind.i64.wrap (sD+1))).bind λWu=>(tB wP Wu).bind λWv=>(wP[Wv]?).bind λWw=>(some (Ww%18446744073709551616)).bind λTp=>(some (Tp*2^32%18446744073709551616)).bind λDp=>(some ((To ||| Dp)%18446744073709551616)).bind λTq=>(some (Tq/2^(min gU 64))).bind λWy=>(some (Wy%4294967296)).bind λTr=>(tB vh sD).bind λBE=>(stM vh BE Tr).bind λl83=>(some (IntKind.i64.wrap (sD+1))).bind λzZ=>some (.inl (zZ,l83))else some (.inr vh)))) (0,Hg)).bind λpN=>some (zY,pN)
noncomputable def fC(x0:List Nat)(x1:List Nat):Option ((List Nat)×(List Nat)):=(cG x0 x1).bind λdg=>(some (decide ((dg:Int)<0))).bind λjz=>(bif jz then(dx x0).bind λeM=>some ([],eM)else(some (x0.length:Int)).bind λfK=>(some (decide ((fK:Int)<=2))).bind λjU=>(bif jU then(dh x0).bind λfZ=>(dh x1).bind λiC=>(Db 18446744073709551616 fZ iC).bind λmG=>(ek false mG).bind λ⟨vi,tH⟩=>(Bw fZ iC).bind λql=>(ek false ql).bind λ⟨tJ,qX⟩=>some (tH,qX)else(some (x1.length:Int)).bind λuO=>(some (decide ((uO:Int)=1))).bind λwc=>(bif wc then(dx x0).bind λqD=>(cY x1 0).bind λug=>(some (ug%18446744073709551616)).bind λBC=>(gM qD BC).bind λ⟨GG,l5⟩=>(tD qD l5).bind λ_=>(some (GG%4294967296)).bind λBA=>some (l5,[BA])else(iu x0 x1).bind λ⟨Wz,WA⟩=>some (Wz,WA))))
noncomputable def bW(x0:Int):Option (Zr):=(some ((x0%18446744073709551616).toNat)).bind λx5=>(some (decide ((x0:Int)<0))).bind λx7=>cm (λ(E6:Nat)=>(some (decide ((x0:Int)<0))).bind λgu=>(ek gu E6).bind λ⟨z4,z5⟩=>some ⟨z4,z5⟩) λK2=>(bif x7 then(some (nj 18446744073709551616 0 x5)).bind λx9=>K2 x9 else K2 x5)
noncomputable def cW(x0:Zr):Option (Int×Bool):=match x0 with|⟨bt,bp⟩=>(bn bp).bind λx8=>(some (x8.length:Int)).bind λdK=>(some (decide ((2:Int)<dK))).bind λgu=>(bif gu then some (0,false)else(dh x8).bind λjz=>(bif bt then(some (decide ((9223372036854775808:Nat)<jz))).bind λfz=>(bif fz then some (0,false)else(some (nj 18446744073709551616 0 jz)).bind λjU=>(some (IntKind.i64.wrap (jU:Int))).bind λjw=>some (jw,true))else(some (decide ((9223372036854775808:Nat)<=jz))).bind λiB=>(bif iB then some (0,false)else(some (IntKind.i64.wrap (jz:Int))).bind λgU=>some (gU,true))))
noncomputable def cP(x0:Bool)(x1:List Nat)(x2:Bool)(x3:List Nat):Option (Zr):=(some (x0==x2)).bind λgu=>(bif gu then(dY x1 x3).bind λeM=>(cf x0 eM).bind λ⟨iQ,iS⟩=>some ⟨iQ,iS⟩else(cG x1 x3).bind λjU=>(some (decide ((jU:Int)<0))).bind λjw=>(bif jw then(cI x3 x1).bind λgU=>(cf x2 gU).bind λ⟨xI,vk⟩=>some ⟨xI,vk⟩else(cI x1 x3).bind λiM=>(cf x0 iM).bind λ⟨vm,vn⟩=>some ⟨vm,vn⟩))
noncomputable def lK(x0:Zr)(x1:Zr):Option (Zr):=match x0 with|⟨bt,bp⟩=>match x1 with|⟨cc,bY⟩=>(cW ⟨bt,bp⟩).bind λ⟨BF,Hh⟩=>(cW ⟨cc,bY⟩).bind λ⟨Dq,Hi⟩=>cm (λ(z6:Bool)=>cm (λ(j5:Unit)=>(bn bp).bind λv8=>(bn bY).bind λqV=>(cP bt v8 cc qV).bind λ⟨E7,E8⟩=>some ⟨E7,E8⟩) λK5=>(bif z6 then(some (IntKind.i64.wrap (BF+Dq))).bind λmG=>(some (IntKind.i64.wrap ((BitVec.ofInt 64 BF ^^^ BitVec.ofInt 64 mG).toNat))).bind λiM=>(some (IntKind.i64.wrap ((BitVec.ofInt 64 Dq ^^^ BitVec.ofInt 64 mG).toNat))).bind λir=>(some (IntKind.i64.wrap ((BitVec.ofInt 64 iM &&& BitVec.ofInt 64 ir).toNat))).bind λm6=>(some (decide ((0:Int)<=m6))).bind λmK=>(bif mK then(bW mG).bind λ⟨qY,qZ⟩=>some ⟨qY,qZ⟩else K5 ())else K5 ())) λK3=>(bif Hh then some Hi else some false).bind λE9=>K3 E9
noncomputable def lM(x0:Zr)(x1:Zr):Option (Zr):=match x0 with|⟨bt,bp⟩=>match x1 with|⟨cc,bY⟩=>(cW ⟨bt,bp⟩).bind λ⟨BF,Hh⟩=>(cW ⟨cc,bY⟩).bind λ⟨Dq,Hi⟩=>cm (λ(z6:Bool)=>cm (λ(j5:Unit)=>(bn bp).bind λv8=>(some (!cc)).bind λBC=>(bn bY).bind λxH=>(cP bt v8 BC xH).bind λ⟨Q8,Q9⟩=>some ⟨Q8,Q9⟩) λK5=>(bif z6 then(some (IntKind.i64.wrap (BF-Dq))).bind λmG=>(some (IntKind.i64.wrap ((BitVec.ofInt 64 BF ^^^ BitVec.ofInt 64 Dq).toNat))).bind λiM=>(some (IntKind.i64.wrap ((BitVec.ofInt 64 BF ^^^ BitVec.ofInt 64 mG).toNat))).bind λir=>(some (IntKind.i64.wrap ((BitVec.ofInt 64 iM &&& BitVec.ofInt 64 ir).toNat))).bind λm6=>(some (decide ((0:Int)<=m6))).bind λmK=>(bif mK then(bW mG).bind λ⟨qY,qZ⟩=>some ⟨qY,qZ⟩else K5 ())else K5 ())) λK3=>(bif Hh then some Hi else some false).bind λE9=>K3 E9
noncomputable def di(x0:Zr)(x1:Zr):Option (Zr):=match x0 with|⟨bt,bp⟩=>match x1 with|⟨cc,bY⟩=>(bn bp).bind λx9=>(bn bY).bind λdg=>cm (λ(LX:Bool)=>(bif LX then(some (!(bt==cc))).bind λnK=>(dh x9).bind λgx=>(dh dg).bind λiM=>(some ((gx*iM)%18446744073709551616)).bind λwN=>(ek nK wN).bind λ⟨Ra,Rb⟩=>some ⟨Ra,Rb⟩else(some (!(bt==cc))).bind λuO=>(fB x9 dg).bind λqD=>(cf uO qD).bind λ⟨xJ,xK⟩=>some ⟨xJ,xK⟩)) λK3=>(some (x9.length:Int)).bind λdO=>(some (decide ((dO:Int)<=1))).bind λeM=>(bif eM then(some (dg.length:Int)).bind λfK=>(some (decide ((fK:Int)<=1))).bind λjU=>some jU else some false).bind λRc=>K3 Rc
noncomputable def fO(x0:Zr):Option (Zr):=match x0 with|⟨bt,bp⟩=>(some (!bt)).bind λx5=>(bn bp).bind λx8=>(dx x8).bind λx9=>(cf x5 x9).bind λ⟨xL,xM⟩=>some ⟨xL,xM⟩
noncomputable def cA(x0:Zr):Option (Int):=match x0 with|⟨bt,bp⟩=>(bn bp).bind λx6=>(some (x6.length:Int)).bind λx7=>(some (decide ((x7:Int)=0))).bind λx8=>(bif x8 then some 0 else(bif bt then some (-1)else some 1))
noncomputable def lN(x0:Zr)(x1:Zr):Option (Int):=match x0 with|⟨bt,bp⟩=>match x1 with|⟨cc,bY⟩=>(cA ⟨bt,bp⟩).bind λx8=>(cA ⟨cc,bY⟩).bind λdK=>(some (decide ((x8:Int)<dK))).bind λdO=>(bif dO then some (-1)else(some (decide ((dK:Int)<x8))).bind λfK=>(bif fK then some 1 else(some (decide ((x8:Int)<0))).bind λfZ=>(bif fZ then(bn bY).bind λgU=>(bn bp).bind λgx=>(cG gU gx).bind λmm=>some mm else(bn bp).bind λql=>(bn bY).bind λmK=>(cG ql mK).bind λsu=>some su)))
noncomputable def eF(x0:Zr)(x1:Zr):Option (Zr×Zr×Int):=match x0 with|⟨bt,bp⟩=>match x1 with|⟨cc,bY⟩=>(bn bp).bind λjz=>(bn bY).bind λeU=>(some (eU.length:Int)).bind λfK=>(some (decide ((fK:Int)=0))).bind λjU=>(bif jU then some (⟨false,[]⟩,⟨false,[]⟩,7)else(fC jz eU).bind λ⟨z7,Dr⟩=>(bn Dr).bind λiM=>cm (λ(j3:Bool×Bool)=>match j3 with|⟨LY,ur⟩=>cm (λ(j5:(List Nat)×(List Nat))=>match j5 with|⟨LZ,Fa⟩=>(some (!(ur==cc))).bind λxH=>(cf xH LZ).bind λ⟨Fb,Fe⟩=>(cf false Fa).bind λ⟨Cs,Ct⟩=>some (⟨Fb,Fe⟩,⟨Cs,Ct⟩,0)) λK5=>(bif LY then(dY z7 [1]).bind λqD=>(cI eU iM).bind λug=>K5 (qD,ug)else K5 (z7,iM))) λK3=>(bif bt then(some (iM.length:Int)).bind λmK=>(some (decide ((0:Int)<mK))).bind λsu=>some su else some false).bind λRd=>K3 (Rd,bt))
noncomputable def jV(x0:Zr)(x1:Zr):Option (Zr):=match x0 with|⟨bt,bp⟩=>match x1 with|⟨cc,bY⟩=>(bn bp).bind λjz=>(bn bY).bind λeU=>(b8 (λ(GH:(List Nat)×(List Nat))=>match GH with|⟨J4,Ds⟩=>(show Option (((List Nat)×(List Nat))⊕((List Nat)×(List Nat)))from cm (λ(Hj:Bool)=>(bif Hj then(fC J4 Ds).bind λ⟨aaS,WB⟩=>(bn WB).bind λxG=>some (.inl (Ds,xG))else some (.inr (J4,Ds)))) λK16=>(some (Ds.length:Int)).bind λfK=>(some (decide ((0:Int)<fK))).bind λjU=>(bif jU then(some (J4.length:Int)).bind λiB=>(some (decide ((2:Int)<iB))).bind λiC=>(bif iC then some true else(some (Ds.length:Int)).bind λmG=>(some (decide ((2:Int)<mG))).bind λgx=>some gx).bind λL0=>some L0 else some false).bind λL1=>K16 L1)) (jz,eU)).bind λOu=>match Ou with|⟨L2,L3⟩=>(some (L3.length:Int)).bind λmL=>(some (decide ((mL:Int)=0))).bind λv8=>(bif v8 then(dx L2).bind λCp=>(cf false Cp).bind λ⟨Cu,Ff⟩=>some ⟨Cu,Ff⟩else(dh L2).bind λqV=>(dh L3).bind λBA=>(b8 (λ(Vr:Nat×Nat)=>match Vr with|⟨IF,wQ⟩=>(show Option ((Nat×Nat)⊕(Nat))from(some (decide ((0:Nat)<wQ))).bind λBk=>(bif Bk then(Bw IF wQ).bind λFg=>some (.inl (wQ,Fg))else some (.inr IF)))) (qV,BA)).bind λCv=>(ek false Cv).bind λ⟨Re,Rf⟩=>some ⟨Re,Rf⟩)
end
section
open Go.Fw Go.Fw.Z Go.RowKit
theorem dZ(c:Nat):SS ah 143 [.v (.int .u64 (c:Nat))] 157 104 [.v (.int .u64 (c:Nat))]:=by
 refine GX Tryz.func143 Y (af Y) (λdI M vs hvs=>?_);exact sr<|RT.CZ .none (s:=.sv _) Y T Y Y<|ag Y<|dn<|sr<|RT.makeFunc .none (.box Y (.nil)) T<|an (s:=.fD _ _) Y<|dn<|bf<|⟨.inr Y,_,.tmp Y,Y⟩
theorem q9(a b:List Nat):Pure ah 160 [(slc 1 (List.map aX a)),(slc 1 (List.map aX b))] (oM 169 [ref [(slc 1 (List.map aX a))],ref [(slc 1 (List.map aX b))]]):=by
 refine aZ Tryz.func160 Y (af Y) (λdI M vs hvs=>?_);refine sr<|RT.CZ .none (s:=.sv _) Y T Y Y<|RT.CZ .none (s:=.sv _) Y T Y Y<|ag Y<|dn<|sr<|RT.makeFunc .none (.box Y (.box Y (.nil))) T<|an (s:=.fD _ _) Y<|dn<|bM (k7 (i:=2) Y [(slc 1 (List.map aX a))] (.cons Y .nil) .any 0 [(4,.fD 169 [.val (ref [(slc 1 (List.map aX a))]),.box 3])] (λ_ _ _=>trivial) (tR.h (l:=[(slc 1 (List.map aX a))])) ⟨@FT.fD _ _ _ _ _ 4 169 [.box 2,.box 3] Y,aq⟩) ?_;exact bM (k7 (i:=3) Y [(slc 1 (List.map aX b))] (.cons Y .nil) .any 0 [(4,.fD 169 [.val (ref [(slc 1 (List.map aX a))]),.val (ref [(slc 1 (List.map aX b))])])] (λ_ _ _=>trivial) (tR.h (l:=[(slc 1 (List.map aX b))])) ⟨@FT.fD _ _ _ _ _ 4 169 [.val (ref [(slc 1 (List.map aX a))]),.box 3] Y,aq⟩)<|bM (C9 4 (oM 169 [ref [(slc 1 (List.map aX a))],ref [(slc 1 (List.map aX b))]]) (λ_ _ h=>Da h))<|bf<|⟨.inr Y,C5 (.tmp Y (.nil)) Y⟩
theorem rf(a b:List Nat):Iter ah 169 [ref [(slc 1 (List.map aX a))],ref [(slc 1 (List.map aX b))]] (max a.length b.length) (λk=>[.v (.int .u64 ((a.getD k 0%18446744073709551616:Nat):Int)),.v (.int .u64 ((b.getD k 0%18446744073709551616:Nat):Int))]):=by
 refine pJ Tryz.func169 Y Y (af Y) (λdI M O l J hJ we hr=>?_);obtain⟨qA,we⟩:=we;have hla:a.length<=9223372036854775807:=by cases qA with|nil=>exact we.elim|cons _ qA=>exact sn we.1
 have hlb:b.length<=9223372036854775807:=by cases qA with|nil=>exact we.elim|cons _ qA=>cases qA with|nil=>exact we.2.elim|cons _ _=>exact sn we.2.1
 refine bz ?_;refine aW ?_;refine RT.cE .none Y Y (tl Y) ?_;refine RT.len .none Y (tl Y) ?_;refine RT.cE .none Y Y (tl Y) ?_;refine RT.len .none Y (tl Y) ?_;refine RT.max .none (((max a.length b.length:Nat):Int)) Y Y (tl Y) (by simp only[List.length_map];split<;>omega) ?_;refine RT.mv .none Y (tl Y) ?_;refine RT.done ?_;refine aV.n ?_;refine bj ?_
 refine uQ (I:=λx:{i:Nat//i<=max a.length b.length}=>AS.cq 39 [(0,.sv (.v (.func (.yield l) #[] #[]))),(1,.sv (ref [(slc 1 (List.map aX a))])),(2,.sv (ref [(slc 1 (List.map aX b))])),(11,ai ((max a.length b.length:Nat):Int)),(12,ai ((x.1:Nat):Int))] [] [] (x.1)) (μ:=λx=>max a.length b.length-x.1) ⟨0,by omega⟩ (by(try dsimp only);exact da id Y Y Y Y Y ⟨.sv (by first|exact au|exact SV.aY (by omega)|exact SV.aY (by push_cast;omega)|exact SV.aY (by dsimp only;omega)|exact SV.imp_eq (by simp)),.sv (by first|exact au|exact SV.aY (by omega)|exact SV.aY (by push_cast;omega)|exact SV.aY (by dsimp only;omega)|exact SV.imp_eq (by simp)),.sv (by first|exact au|exact SV.aY (by omega)|exact SV.aY (by push_cast;omega)|exact SV.aY (by dsimp only;omega)|exact SV.imp_eq (by simp)),.sv (by first|exact au|exact SV.aY (by omega)|exact SV.aY (by push_cast;omega)|exact SV.aY (by dsimp only;omega)|exact SV.imp_eq (by simp)),.sv (by first|exact au|exact SV.aY (by omega)|exact SV.aY (by push_cast;omega)|exact SV.aY (by dsimp only;omega)|exact SV.imp_eq (by simp)),aq⟩ trivial trivial (λ_ _=>Y)) ?_;rintro⟨i,Q4⟩
 try dsimp only
 rcases zS a b i Q4 with⟨hi,wE,Bs⟩|⟨hi,wE,Bs⟩|⟨hi,wE,Bs⟩|hi
 ·
  refine bz ?_;refine aW ?_;refine RT.lss .none (true) Y Y (tl Y) (by simp;omega) ?_;refine RT.done ?_;refine aV.n ?_;refine bz ?_;refine cz Y ?_;refine bu ?_;refine aV.n ?_;refine bz ?_;refine bj ?_;refine bz ?_;refine aW ?_;refine RT.mv .none Y (tl Y) ?_;refine RT.zG .none Y (tl Y) ?_;refine RT.done ?_;refine aV.n ?_;refine bz ?_;refine aW ?_;refine RT.zG .none Y (tl Y) ?_;refine RT.zG .none Y (tl Y) ?_;refine RT.done ?_;refine aV.n ?_;refine bz ?_;refine bz ?_;refine aW ?_;refine RT.mv .none Y (tl Y) ?_;refine RT.cE .none Y Y (tl Y) ?_;refine RT.len .none Y (tl Y) ?_;refine RT.lss .none (true) Y Y (tl Y) (by simp only[List.length_map];simp;omega) ?_;refine RT.done ?_;refine aV.n ?_;refine cz Y ?_;refine aW ?_;refine RT.cE .none Y Y (tl Y) ?_;refine RT.mv .none Y (tl Y) ?_;refine RT.Li .none [.v (.int .u32 ((a.getD i 0:Nat):Int))] (Int.natCast_nonneg i) (by rw[Int.toNat_natCast,List.getElem?_map,qP wE];rfl) Y Y (tl Y) ?_;refine RT.cE .none Y Y (tl Y) ?_;refine RT.conv .none (((a.getD i 0%18446744073709551616:Nat):Int)) Y (tl Y) OS ?_;refine RT.zG .none Y (tl Y) ?_;refine RT.done ?_;refine aV.n ?_;refine bz ?_;refine bz ?_;refine aW ?_;refine RT.mv .none Y (tl Y) ?_
  refine RT.cE .none Y Y (tl Y) ?_;refine RT.len .none Y (tl Y) ?_;refine RT.lss .none (true) Y Y (tl Y) (by simp only[List.length_map];simp;omega) ?_;refine RT.done ?_;refine aV.n ?_;refine cz Y ?_;refine aW ?_;refine RT.cE .none Y Y (tl Y) ?_;refine RT.mv .none Y (tl Y) ?_;refine RT.Li .none [.v (.int .u32 ((b.getD i 0:Nat):Int))] (Int.natCast_nonneg i) (by rw[Int.toNat_natCast,List.getElem?_map,qP Bs];rfl) Y Y (tl Y) ?_;refine RT.cE .none Y Y (tl Y) ?_;refine RT.conv .none (((b.getD i 0%18446744073709551616:Nat):Int)) Y (tl Y) OS ?_;refine RT.zG .none Y (tl Y) ?_;refine RT.done ?_;refine aV.n ?_;refine bz ?_;refine aW ?_;refine RT.mv .none Y (tl Y) ?_;refine RT.mv .none Y (tl Y) ?_;refine RT.mv .none Y (tl Y) ?_;refine RT.yield .none hr Y (λ_ h=>h) Y (i) Y Y hi (by exact⟨Y,Y,aq⟩) (tl Y) (λyb=>?_);cases yb
  ·
   refine RT.not .none Y (tl Y) true Y ?_;refine RT.done ?_;refine aV.n ?_;refine cz Y ?_;refine bf ?_;refine bw.r ?_;refine aV.r ?_;refine aV.r ?_;refine bw.r ?_;exact⟨.inr rfl,(λh=>by cases h)⟩
  refine RT.not .none Y (tl Y) false Y ?_;refine RT.done ?_;refine aV.n ?_;refine dJ Y ?_;refine bu ?_;refine bw.n ?_;refine aV.n ?_;refine aW ?_;refine RT.add .none (((i:Nat):Int)+1) Y Y (tl Y) (kn (by omega)) ?_;refine RT.mv .none Y (tl Y) ?_;refine RT.done ?_;refine aV.n ?_;refine⟨⟨i+1,by omega⟩,(by dsimp only;omega),?_⟩
  try dsimp only
  exact da id Y Y Y Y Y ⟨.sv (by first|exact au|exact SV.aY (by omega)|exact SV.aY (by push_cast;omega)|exact SV.aY (by dsimp only;omega)|exact SV.imp_eq (by simp)),.sv (by first|exact au|exact SV.aY (by omega)|exact SV.aY (by push_cast;omega)|exact SV.aY (by dsimp only;omega)|exact SV.imp_eq (by simp)),.sv (by first|exact au|exact SV.aY (by omega)|exact SV.aY (by push_cast;omega)|exact SV.aY (by dsimp only;omega)|exact SV.imp_eq (by simp)),.sv (by first|exact au|exact SV.aY (by omega)|exact SV.aY (by push_cast;omega)|exact SV.aY (by dsimp only;omega)|exact SV.imp_eq (by simp)),.sv (by first|exact au|exact SV.aY (by omega)|exact SV.aY (by push_cast;omega)|exact SV.aY (by dsimp only;omega)|exact SV.imp_eq (by simp)),aq⟩ trivial trivial (λ_ _=>Y)
 ·
  refine bz ?_;refine aW ?_;refine RT.lss .none (true) Y Y (tl Y) (by simp;omega) ?_;refine RT.done ?_;refine aV.n ?_;refine bz ?_;refine cz Y ?_;refine bu ?_;refine aV.n ?_;refine bz ?_;refine bj ?_;refine bz ?_;refine aW ?_;refine RT.mv .none Y (tl Y) ?_;refine RT.zG .none Y (tl Y) ?_;refine RT.done ?_;refine aV.n ?_;refine bz ?_;refine aW ?_;refine RT.zG .none Y (tl Y) ?_;refine RT.zG .none Y (tl Y) ?_;refine RT.done ?_;refine aV.n ?_;refine bz ?_;refine bz ?_;refine aW ?_;refine RT.mv .none Y (tl Y) ?_;refine RT.cE .none Y Y (tl Y) ?_;refine RT.len .none Y (tl Y) ?_;refine RT.lss .none (true) Y Y (tl Y) (by simp only[List.length_map];simp;omega) ?_;refine RT.done ?_;refine aV.n ?_;refine cz Y ?_;refine aW ?_;refine RT.cE .none Y Y (tl Y) ?_;refine RT.mv .none Y (tl Y) ?_;refine RT.Li .none [.v (.int .u32 ((a.getD i 0:Nat):Int))] (Int.natCast_nonneg i) (by rw[Int.toNat_natCast,List.getElem?_map,qP wE];rfl) Y Y (tl Y) ?_;refine RT.cE .none Y Y (tl Y) ?_;refine RT.conv .none (((a.getD i 0%18446744073709551616:Nat):Int)) Y (tl Y) OS ?_;refine RT.zG .none Y (tl Y) ?_;refine RT.done ?_;refine aV.n ?_;refine bz ?_;refine bz ?_;refine aW ?_;refine RT.mv .none Y (tl Y) ?_
  refine RT.cE .none Y Y (tl Y) ?_;refine RT.len .none Y (tl Y) ?_;refine RT.lss .none (false) Y Y (tl Y) (by simp only[List.length_map];simp;omega) ?_;refine RT.done ?_;refine aV.n ?_;refine dJ Y ?_;refine bu ?_;refine aV.n ?_;refine bz ?_;refine aW ?_;refine RT.mv .none Y (tl Y) ?_;refine RT.mv .none Y (tl Y) ?_;refine RT.mv .none Y (tl Y) ?_;refine RT.yield .none hr Y (λ_ h=>h) Y (i) Y Y hi (by exact⟨Y,(by show AV.sv _=AV.sv _;rw[ue Bs];rfl),aq⟩) (tl Y) (λyb=>?_);cases yb
  ·
   refine RT.not .none Y (tl Y) true Y ?_;refine RT.done ?_;refine aV.n ?_;refine cz Y ?_;refine bf ?_;refine bw.r ?_;refine aV.r ?_;refine aV.r ?_;refine bw.r ?_;exact⟨.inr rfl,(λh=>by cases h)⟩
  refine RT.not .none Y (tl Y) false Y ?_;refine RT.done ?_;refine aV.n ?_;refine dJ Y ?_;refine bu ?_;refine bw.n ?_;refine aV.n ?_;refine aW ?_;refine RT.add .none (((i:Nat):Int)+1) Y Y (tl Y) (kn (by omega)) ?_;refine RT.mv .none Y (tl Y) ?_;refine RT.done ?_;refine aV.n ?_;refine⟨⟨i+1,by omega⟩,(by dsimp only;omega),?_⟩
  try dsimp only
  exact da id Y Y Y Y Y ⟨.sv (by first|exact au|exact SV.aY (by omega)|exact SV.aY (by push_cast;omega)|exact SV.aY (by dsimp only;omega)|exact SV.imp_eq (by simp)),.sv (by first|exact au|exact SV.aY (by omega)|exact SV.aY (by push_cast;omega)|exact SV.aY (by dsimp only;omega)|exact SV.imp_eq (by simp)),.sv (by first|exact au|exact SV.aY (by omega)|exact SV.aY (by push_cast;omega)|exact SV.aY (by dsimp only;omega)|exact SV.imp_eq (by simp)),.sv (by first|exact au|exact SV.aY (by omega)|exact SV.aY (by push_cast;omega)|exact SV.aY (by dsimp only;omega)|exact SV.imp_eq (by simp)),.sv (by first|exact au|exact SV.aY (by omega)|exact SV.aY (by push_cast;omega)|exact SV.aY (by dsimp only;omega)|exact SV.imp_eq (by simp)),aq⟩ trivial trivial (λ_ _=>Y)
 ·
  refine bz ?_;refine aW ?_;refine RT.lss .none (true) Y Y (tl Y) (by simp;omega) ?_;refine RT.done ?_;refine aV.n ?_;refine bz ?_;refine cz Y ?_;refine bu ?_;refine aV.n ?_;refine bz ?_;refine bj ?_;refine bz ?_;refine aW ?_;refine RT.mv .none Y (tl Y) ?_;refine RT.zG .none Y (tl Y) ?_;refine RT.done ?_;refine aV.n ?_;refine bz ?_;refine aW ?_;refine RT.zG .none Y (tl Y) ?_;refine RT.zG .none Y (tl Y) ?_;refine RT.done ?_;refine aV.n ?_;refine bz ?_;refine bz ?_;refine aW ?_;refine RT.mv .none Y (tl Y) ?_;refine RT.cE .none Y Y (tl Y) ?_;refine RT.len .none Y (tl Y) ?_;refine RT.lss .none (false) Y Y (tl Y) (by simp only[List.length_map];simp;omega) ?_;refine RT.done ?_;refine aV.n ?_;refine dJ Y ?_;refine bu ?_;refine aV.n ?_;refine bz ?_;refine bz ?_;refine aW ?_;refine RT.mv .none Y (tl Y) ?_;refine RT.cE .none Y Y (tl Y) ?_;refine RT.len .none Y (tl Y) ?_;refine RT.lss .none (true) Y Y (tl Y) (by simp only[List.length_map];simp;omega) ?_;refine RT.done ?_;refine aV.n ?_;refine cz Y ?_;refine aW ?_;refine RT.cE .none Y Y (tl Y) ?_;refine RT.mv .none Y (tl Y) ?_
  refine RT.Li .none [.v (.int .u32 ((b.getD i 0:Nat):Int))] (Int.natCast_nonneg i) (by rw[Int.toNat_natCast,List.getElem?_map,qP Bs];rfl) Y Y (tl Y) ?_;refine RT.cE .none Y Y (tl Y) ?_;refine RT.conv .none (((b.getD i 0%18446744073709551616:Nat):Int)) Y (tl Y) OS ?_;refine RT.zG .none Y (tl Y) ?_;refine RT.done ?_;refine aV.n ?_;refine bz ?_;refine aW ?_;refine RT.mv .none Y (tl Y) ?_;refine RT.mv .none Y (tl Y) ?_;refine RT.mv .none Y (tl Y) ?_;refine RT.yield .none hr Y (λ_ h=>h) Y (i) Y Y hi (by exact⟨(by show AV.sv _=AV.sv _;rw[ue wE];rfl),Y,aq⟩) (tl Y) (λyb=>?_);cases yb
  ·
   refine RT.not .none Y (tl Y) true Y ?_;refine RT.done ?_;refine aV.n ?_;refine cz Y ?_;refine bf ?_;refine bw.r ?_;refine aV.r ?_;refine aV.r ?_;refine bw.r ?_;exact⟨.inr rfl,(λh=>by cases h)⟩
  refine RT.not .none Y (tl Y) false Y ?_;refine RT.done ?_;refine aV.n ?_;refine dJ Y ?_;refine bu ?_;refine bw.n ?_;refine aV.n ?_;refine aW ?_;refine RT.add .none (((i:Nat):Int)+1) Y Y (tl Y) (kn (by omega)) ?_;refine RT.mv .none Y (tl Y) ?_;refine RT.done ?_;refine aV.n ?_;refine⟨⟨i+1,by omega⟩,(by dsimp only;omega),?_⟩
  try dsimp only
  exact da id Y Y Y Y Y ⟨.sv (by first|exact au|exact SV.aY (by omega)|exact SV.aY (by push_cast;omega)|exact SV.aY (by dsimp only;omega)|exact SV.imp_eq (by simp)),.sv (by first|exact au|exact SV.aY (by omega)|exact SV.aY (by push_cast;omega)|exact SV.aY (by dsimp only;omega)|exact SV.imp_eq (by simp)),.sv (by first|exact au|exact SV.aY (by omega)|exact SV.aY (by push_cast;omega)|exact SV.aY (by dsimp only;omega)|exact SV.imp_eq (by simp)),.sv (by first|exact au|exact SV.aY (by omega)|exact SV.aY (by push_cast;omega)|exact SV.aY (by dsimp only;omega)|exact SV.imp_eq (by simp)),.sv (by first|exact au|exact SV.aY (by omega)|exact SV.aY (by push_cast;omega)|exact SV.aY (by dsimp only;omega)|exact SV.imp_eq (by simp)),aq⟩ trivial trivial (λ_ _=>Y)
 subst hi;refine bz ?_;refine aW ?_;refine RT.lss .none (false) Y Y (tl Y) (by simp) ?_;refine RT.done ?_;refine aV.n ?_;refine bz ?_;refine dJ Y ?_;refine bN ?_;refine aV.x ?_;refine aV.x ?_;refine bw.x ?_;exact⟨.inl Y,(λ_=>Y)⟩
theorem mu{x0 r:List Nat}(h:dx x0=some r):Pure ah 123 [slc 1 (List.map aX x0)] (slc 1 (List.map aX r)):=by
 refine aZ Tryz.func123 Y (af Y) (λdI M vs hvs=>?_);unfold dx at h;refine sr<|aI Y (aB (n:=1) (e:=aX))<|dn<|qq<|sr<|mv Y ?_;refine RT.Q0 .none Y T (λnb hnb=>?_);cases nb;exact dn<|fs<|sr<|RT.De (l:=([]:List Nat)) (e:=aX) .none .nil T Y T Y Y Y Y Y Y<|mv Y<|RT.OY (k:=x0) (e:=aX) .none Y Y Y T Y T h<|ag Y<|dn<|bf<|RZ (.tmp Y .nil);have hx:x0=[]:=by simpa using hnb Y
 subst hx;obtain⟨_,_,rfl⟩:=uX h;exact dn<|cT<|sr<|aI Y (aB (n:=1) (e:=aX))<|dn<|bf<|aV.r<|RZ (.tmp Y .nil)
theorem wS{x0 r:List Nat}(h:dx x0=some r):GW ah 123 [slc 1 (List.map aX x0)] (TR 106 1 aX r):=by
 refine pH Tryz.func123 Y (af Y) (λdI M vs hvs=>?_);unfold dx at h;refine sr<|ag Y<|dn<|qq<|sr<|mv Y ?_;refine RT.Q0 .none Y T (λnb hnb=>?_);cases nb;exact dn<|fs<|sr<|RT.De (l:=([]:List Nat)) (e:=aX) .none .nil T Y T Y Y Y Y Y Y<|mv Y<|aR (k:=x0) (e:=aX) Y Y Y h<|an (s:=.row _) Y<|dn<|bf<|⟨.inr Y,_,.tmp Y,Y⟩;have hx:x0=[]:=by simpa using hnb Y
 subst hx;obtain⟨_,_,rfl⟩:=uX h;exact dn<|cT<|sr<|ag Y<|dn<|bM (gL 2 300 106 1 Y Y T)<|bf<|aV.r<|⟨.inr Y,_,.tmp Y,Y⟩
theorem b7{x0:Nat}{c0:Nat}{r:Nat×Nat}(h:bO x0 c0=some r):Lp ah 157 [.v (.int .u64 ((x0:Nat):Int))] 104 [.v (.int .u64 ((c0:Nat):Int))] (.v (.int .u32 ((r.1:Nat):Int))) [.v (.int .u64 ((r.2:Nat):Int))]:=by
 refine zK Tryz.func157 Y (af Y) (λdI M β=>?_);unfold bO at h;refine sr<|ag Y<|dn<|sr<|mv Y<|lV Y Y Y<|lE h λx6 h6 h=>ad _ Y Y (UK.add (a:=x0) (b:=c0) h6)<|ag Y<|dn<|sr<|mv Y<|lE h λx8 h8 h=>RT.shr .none _ Y Y T (by decide) (Dc (k:=.u64) (a:=x6) (q:=32) (s:=32) Y h8)<|RT.jK (cells:=[_]) .none (s:=.sv _) Y Y Y T Y<|dn<|sr<|mv Y<|lE h λdK fY h=>cv _ Y (UK.nat fY)<|ag Y ?_;refine dn<|bf ?_;obtain rfl:=O h;exact⟨.inr Y,mI (.tmp Y (.nil)) au,Y⟩
theorem bV{x0:List Nat}{r:List Nat}(h:bn x0=some r):Pure ah 99 [slc 1 (List.map aX x0)] (slc 1 (List.map aX r)):=by
 refine aZ Tryz.func99 Y (af Y) (λdI M vs hvs=>?_);unfold bn at h;refine sr<|aI Y (aB (n:=1) (e:=aX))<|dn<|qq<|bE h λL4 Dt sY=>?_;refine bJ (λ(JY:(List Nat))=>AS.cq 21 [(0,.sv (slc 1 (List.map aX JY)))] [] []) (λJY=>JY=L4) ?_ (λJY Du=>?_);refine bj ?_;refine bK Dt (λCq=>AS.cq 21 [(0,.sv (slc 1 (List.map aX Cq)))] [] []) (wR []) (λDl YA YB h Dv z8=>?_)
 try dsimp only
 refine qq<|qq ?_;refine bC h (λL5=>AS.cq 21 [(0,.sv (slc 1 (List.map aX Dl))),(14,aj L5)] [] []) (λh=>?_) (λG2 h=>?_);refine aW<|mv Y<|lE h λx4 h4 h=>ln Y h4<|lE h λx5 h5 h=>gt _ Y Y h5<|mv Y<|bE h λLL eW h=>?_;cases x5;obtain rfl:=O (F eW);exact ww<|ww<|ww<|ww<|ww<|ww<|ww<|pF Y<|dn<|⟨false,h,wR []⟩;refine gm Y<|gm Y<|lE (V eW) λx9 h9 eW=>gn Y h9<|lE eW λdK fY eW=>RT.sub (.some Y Y) _ Y Y T fY<|bE eW λgu mw eW=>RT.Q3 (.some Y Y) Y Y T mw<|gr Y Y<|lE eW λjz lf eW=>Co _ Y Y (eqN (p:=gu) (q:=0) lf) ?_;obtain rfl:=O eW;exact pT Y<|dn<|⟨jz,h,wR []⟩
 try dsimp only
 refine aV.n ?_;cases G2;refine cF<|bN<|aV.x<|aV.x<|bw.x<|aV.n ?_;obtain rfl:=O (F h);exact⟨Dl,z8 _ Y,wR []⟩;refine cT<|bu<|aV.n<|bj<|aW<|mv Y<|mv Y<|lE (V h) λfz lj h=>ln Y lj<|lE h λfK kR h=>sb _ Y Y kR<|bE h λjU mM h=>RT.wK .none 0 fK Y Y ⟨_,Y⟩ T mM<|ag Y<|RT.done<|bw.n ?_;obtain rfl:=O h;exact aV.n ⟨jU,Dv _ Y,wR []⟩;subst Du
 try dsimp only
 refine aV.n<|sr<|mv Y<|ag Y<|dn<|bf ?_;obtain rfl:=O sY;exact R1 Y
abbrev ax:SV:=slc 1 (List.map aX [])
theorem eG{x0:Bool}{x1:List Nat}{r:Zr}(h:cf x0 x1=some r):Pure ah 116 [az x0,slc 1 (List.map aX x1)] (.agg (eZ r)):=by
 refine aZ Tryz.func116 Y (af Y) (λdI M vs hvs=>?_);unfold cf at h;refine sr<|al (cs:=[az false,ax]) (by exact⟨au,aB,aq⟩) Y<|dn<|sr<|mv Y<|bE h λx6 h6 h=>cl (bV h6) ⟨Y,aq⟩<|ag Y<|dn<|qq<|sr<|mv Y<|lE h λx8 h8 h=>ln Y h8<|lE h λx9 h9 h=>eq _ Y Y (o9 (p:=x8) (q:=0) h9)<|dn ?_;cases x9;refine fs<|sr<|mv Y<|mv Y<|bI (cs:=[_,_]) (cs':=[az x0,slc 1 (List.map aX x6)]) (.one Y (.one Y (.nil))) ⟨au,au,aq⟩<|so Y Y Y<|dn<|bf ?_;obtain rfl:=O (F h);exact RZ (.agg Y Y (.k2 Y Y) Y (.nil));refine cT<|sr<|bI (cs:=[_,_]) (cs':=[az false,ax]) (.nil) ⟨au,aB,aq⟩<|so Y Y Y<|dn<|bf<|aV.r ?_;obtain rfl:=O (V h);exact RZ (.agg Y Y (.k2 Y Y) Y (.nil))
theorem iT{x0:Bool}{x1:Nat}{r:Zr}(h:ek x0 x1=some r):Pure ah 114 [az x0,.v (.int .u64 ((x1:Nat):Int))] (.agg (eZ r)):=by
 refine aZ Tryz.func114 Y (af Y) (λdI M vs hvs=>?_);unfold ek at h;refine sr<|al (cs:=[az false,ax]) (by exact⟨au,aB,aq⟩) Y<|dn<|qq<|bj<|sr<|mv Y<|lE h λx7 h7 h=>eq _ Y Y (eqN (p:=x1) (q:=0) h7)<|ag Y<|dn ?_;cases x7;refine cF<|sr<|mv Y<|lE (F h) λgu mw h=>RT.shr .none _ Y Y T (by decide) (Dc (k:=.u64) (a:=x1) (q:=32) (s:=32) Y mw)<|lE h λdg fP h=>eq _ Y Y (eqN (p:=gu) (q:=0) fP)<|ag Y<|dn ?_;cases dg;refine cF<|bu<|bw.n<|aV.n<|sr<|mv Y<|mv Y<|lE (F h) λjw oQ h=>cv _ Y (UK.nat oQ)<|mv Y<|lE h λiB nm h=>RT.shr .none _ Y Y T (by decide) (Dc (k:=.u64) (a:=x1) (q:=32) (s:=32) Y nm)<|lE h λiC oR h=>cv _ Y (UK.nat oR)<|bl (l:=[jw,iC]) (e:=aX) (.one Y (.one Y (.nil))) Y Y Y Y Y Y<|bI (cs:=[_,_]) (cs':=[az x0,slc 1 (List.map aX [jw,iC])]) (.one Y (.one Y (.nil))) ⟨au,au,aq⟩ ?_;refine so Y Y Y<|dn<|bf ?_;obtain rfl:=O h;exact RZ (.agg Y Y (.k2 Y Y) Y (.nil));refine cT<|sr<|mv Y<|mv Y<|lE (V h) λeM jL h=>cv _ Y (UK.nat jL)<|bl (l:=[eM]) (e:=aX) (.one Y (.nil)) Y Y Y Y Y Y<|bI (cs:=[_,_]) (cs':=[az x0,slc 1 (List.map aX [eM])]) (.one Y (.one Y (.nil))) ⟨au,au,aq⟩<|so Y Y Y<|dn<|bf<|bw.r<|aV.r ?_;obtain rfl:=O h;exact RZ (.agg Y Y (.k2 Y Y) Y (.nil))
 refine cT<|sr<|bI (cs:=[_,_]) (cs':=[az false,ax]) (.nil) ⟨au,aB,aq⟩<|so Y Y Y<|dn<|bf<|bw.r<|aV.r ?_;obtain rfl:=O (V h);exact RZ (.agg Y Y (.k2 Y Y) Y (.nil))
theorem g9{x0:List Nat}{r:Nat}(h:dh x0=some r):Pure ah 115 [slc 1 (List.map aX x0)] (.v (.int .u64 ((r:Nat):Int))):=by
 refine aZ Tryz.func115 Y (af Y) (λdI M vs hvs=>?_);unfold dh at h;refine sr<|ag Y<|dn<|qq<|sr<|mv Y<|lE h λx4 h4 h=>ln Y h4<|dn<|bj<|sr<|lE h λx6 h6 h=>eq _ Y Y (o9 (p:=x4) (q:=0) h6)<|ag Y<|dn ?_;cases x6;refine cF<|sr<|lE (F h) λx8 h8 h=>eq _ Y Y (o9 (p:=x4) (q:=1) h8)<|ag Y<|dn ?_;cases x8;refine cF<|bu<|bw.n<|aV.n<|qq<|bh mixed<|mv Y<|bE (F h) λdO jh h=>ix Y Y jh<|lr Y Y<|lE h λeU iL h=>cv _ Y (UK.nat iL)<|mv Y<|bE h λfK kR h=>ix Y Y kR<|lr Y Y<|lE h λjw oQ h=>cv _ Y (UK.nat oQ)<|lE h λfZ my h=>RT.shl .none _ Y Y T (by decide) (UK.shl (a:=jw) (q:=32) (s:=32) Y my)<|lE h λiB nm h=>RT.or .none _ Y Y T (UK.or (a:=eU) (b:=fZ) nm) ?_;refine ag Y ?_;refine RT.done ⟨by kernel_rfl,?_⟩;refine aV.n<|bf ?_;obtain rfl:=O h;exact R1 Y;refine cT<|sr<|mv Y<|bE (V h) λdK fY h=>ix Y Y fY<|lr Y Y<|lE h λdg fP h=>cv _ Y (UK.nat fP)<|ag Y<|dn<|bf<|bw.r<|aV.r ?_;obtain rfl:=O h;exact R1 Y;refine cT<|sr<|ag Y<|dn<|bf<|bw.r<|aV.r ?_;obtain rfl:=O (V h);exact R1 Y
theorem fI{x0:List Nat}{x1:List Nat}{r:Int}(h:cG x0 x1=some r):Pure ah 113 [slc 1 (List.map aX x0),slc 1 (List.map aX x1)] (ay r):=by
 refine aZ Tryz.func113 Y (af Y) (λdI M vs hvs=>?_);unfold cG at h;refine sr<|ag Y<|dn<|qq<|sr<|mv Y<|lE h λx7 h7 h=>ln Y h7<|mv Y<|lE h λx9 h9 h=>ln Y h9<|lE h λdK fY h=>ne _ Y Y (yV (p:=x7) (q:=x9) fY)<|dn ?_;cases dK;refine fs<|qq<|sr<|mv Y<|lE (F h) λfz lj h=>ln Y lj<|lE h λfK kR h=>sb _ Y Y kR<|ag Y<|dn<|bE h λe6 BG jW=>?_;refine bJ (λ(Hl:Unit)=>AS.cq 41 [] [] []) (λHl=>.inl Hl=e6) ?_ (λHl BH=>?_);refine bj ?_;refine bK BG (λs6=>AS.cq 41 [(0,.sv (slc 1 (List.map aX x0))),(1,.sv (slc 1 (List.map aX x1))),(5,ai s6)] [] []) (wR []) (λmh y6 G6 h BI wU=>?_)
 try dsimp only
 refine qq<|sr<|mv Y<|lE h λjw oQ h=>ge _ Y Y oQ<|dn ?_;cases jw;refine cF<|bN<|aV.x<|aV.x<|bw.x<|aV.n ?_;obtain rfl:=O (F h);exact⟨(),wU _ Y,wR []⟩;refine cT<|bu<|aV.n<|qq<|bj<|qq<|bh mixed<|mv Y<|mv Y<|bE (V h) λnK qE h=>ix Y Y qE<|lr Y Y<|mv Y<|mv Y<|bE h λiM nL h=>ix Y Y nL<|lr Y Y<|lE h λql Bm h=>ne _ Y Y (Yu (p:=nK) (q:=iM) Bm) ?_;refine RT.done ⟨by kernel_rfl,?_⟩;refine aV.n ?_;cases ql;refine cF<|bu<|bw.n<|aV.n<|aW<|mv Y<|lE (F h) λiB nm h=>sb _ Y Y nm<|ag Y<|RT.done ?_;obtain rfl:=O h;exact aV.n ⟨iB,BI _ Y,wR []⟩;refine cT<|qq<|qq<|bh mixed<|mv Y<|mv Y<|bE (V h) λmK ri h=>ix Y Y ri<|lr Y Y<|mv Y<|mv Y<|bE h λxG Ho h=>ix Y Y Ho<|lr Y Y<|lE h λmL tK h=>ls _ Y Y (Yv (p:=mK) (q:=xG) tK) ?_;refine RT.done ⟨by kernel_rfl,?_⟩;refine aV.n ?_;cases mL;refine fs<|sr<|ag Y<|dn<|bf<|bw.r<|aV.r ?_;obtain rfl:=O (F h);have L6:=wU _ Y;subst L6;refine aV.r<|bw.r<|aV.r<|aV.r ?_;obtain rfl:=O jW;exact R1 Y;refine cT<|sr<|ag Y<|dn<|bf<|aV.r<|bw.r<|aV.r ?_;obtain rfl:=O (V h);have L6:=wU _ Y;subst L6;refine aV.r<|bw.r<|aV.r<|aV.r ?_;obtain rfl:=O jW;exact R1 Y;subst BH
 try dsimp only
 refine aV.n<|sr<|ag Y<|dn<|bf ?_;obtain rfl:=O jW;exact R1 Y;refine cT<|qq<|sr<|mv Y<|lE (V h) λdg fP h=>ln Y fP<|mv Y<|lE h λdO jh h=>ln Y jh<|lE h λeM jL h=>ls _ Y Y jL<|dn ?_;cases eM;refine fs<|sr<|ag Y<|dn<|bf<|aV.r ?_;obtain rfl:=O (F h);exact R1 Y;refine cT<|sr<|ag Y<|dn<|bf<|aV.r<|aV.r ?_;obtain rfl:=O (V h);exact R1 Y
theorem nX{x0:List Nat}{x1:List Nat}{r:List Nat}(h:dY x0 x1=some r):Pure ah 147 [slc 1 (List.map aX x0),slc 1 (List.map aX x1)] (slc 1 (List.map aX r)):=by
 refine aZ Tryz.func147 Y (af Y) (λdI M vs hvs=>?_);unfold dY at h;refine sr<|aI Y (aB (n:=1) (e:=aX))<|dn<|sr<|mv Y<|lE h λdK fY h=>ln Y fY<|mv Y<|lE h λdg fP h=>ln Y fP<|lE h λjz lf h=>RT.max .none _ Y Y T (OV (p:=dK) (q:=dg) lf)<|lE h λdO jh h=>ad _ Y Y jh<|bE h λeM jL h=>RT.Iz (e:=aX) .none Y Y T Y T jL<|RT.alloc .none T Y Y<|RT.pB (cells:=[_]) .none Y Y Y Y T Y<|dn<|sr<|RT.zL .none (dZ 0) Y ⟨Y,aq⟩ T Y Y ?_;refine RT.alloc .none T Y Y<|RT.jK (cells:=[_]) .none (s:=.fD _ _) Y Y Y T Y<|dn<|qq<|sr<|mv Y<|mv Y<|cl (q9 x0 x1) ⟨Y,Y,aq⟩<|dn<|bj<|bE h λe7 WC O8=>?_;obtain⟨J5,WD,WE,WG⟩:=oO WC
 refine mJ (rf x0 x1) (λ_ _ _ _ _=>trivial) Y (λk=>AS.cq 35 [(5,.ptr 5 0),(6,.ptr 6 0),(19,.sv (oM 169 [ref [slc 1 (List.map aX x0)],ref [slc 1 (List.map aX x1)]]))] [(6,⟨141,[.fD 157 [.box 16]]⟩),(16,⟨104,[.sv (.v (.int .u64 (((J5 k).1:Nat):Int)))]⟩),(5,⟨32,[.row 302]⟩)] [(302,TR 106 1 aX (J5 k).2)]) [6,16,5] Y (λ_=>⟨Y,Y⟩) (qN Y) (λ_=>Y) (qO Y) (by(try dsimp only);rw[WD];(try dsimp only);exact da (λi=>bif Nat.beq i 302 then 15 else i) Y Y Y Y Y ⟨.ptr,.ptr,.sv au,aq⟩ ⟨⟨_,Y,⟨.fD,aq⟩⟩,⟨_,Y,⟨.sv au,aq⟩⟩,⟨_,Y,⟨.row Y,aq⟩⟩,aq⟩ ⟨⟨_,Y,eP.refl _⟩,aq⟩ (λi hi=>by rw[cw (show i≠302 by omega)];rfl)) (λk hk D hD=>?_) ?_;have h:=WE k hk;obtain⟨sk,O9⟩:∃q,J5 k=q:=⟨_,Y⟩;rw[O9]at h⊢;obtain⟨u0,iO⟩:=sk;dsimp only[AS.Oq,qM]
 try dsimp only at h
 refine lE h λp20 aaU h=>?_;rw[aaU];refine lE h λp21 aaV h=>?_;rw[aaV];refine sr<|ag Y<|dn<|aW<|ag Y<|RT.done ?_;refine aV.n ⟨Y,?_⟩;dsimp only[AS.Bu];refine bj<|bh mixed<|RT.nh .none (s:=.row _) Y Y Y T<|RT.nh .none (s:=.fD _ _) Y Y Y T<|mv Y<|mv Y<|lE h λmG uu h=>ad _ Y Y (UK.add (a:=p20) (b:=p21) uu) ?_;obtain⟨⟨gx,k9⟩,m7,h⟩:=bS h;refine cB (b7 m7) 16 Y ⟨Y,aq⟩<|bl (l:=[gx]) (e:=aX) (.one Y (.nil)) Y Y Y Y Y Y<|bE h λiM nL h=>aR (k:=[gx]) (e:=aX) Y Y Y nL<|RT.pB (cells:=[_]) .none Y Y Y Y T Y ?_;refine RT.done ⟨by kernel_rfl,?_⟩;refine bw.n ?_;replace h:=Option.some.inj h;refine⟨aq,Y,Y,?_⟩
 try dsimp only
 rw[<-h]
 try dsimp only
 exact da (λi=>bif Nat.beq i 302 then 29 else i) Y Y Y Y Y ⟨.ptr,.ptr,.sv au,aq⟩ ⟨⟨_,Y,⟨.fD,aq⟩⟩,⟨_,Y,⟨.sv au,aq⟩⟩,⟨_,Y,⟨.row Y,aq⟩⟩,aq⟩ ⟨⟨_,Y,eP.refl _⟩,aq⟩ (λi hi=>by rw[cw (show i≠302 by omega)];rfl);rw[WG];obtain⟨u0,iO⟩:=e7
 try dsimp only
 refine bw.n<|aV.n<|qq<|bh mixed<|RT.nh .none (s:=.row _) Y Y Y T<|RT.nh .none (s:=.fD _ _) Y Y Y T ?_;obtain⟨⟨ir,k11⟩,nn,O8⟩:=bS O8;refine cB (b7 nn) 16 Y ⟨Y,aq⟩<|bl (l:=[ir]) (e:=aX) (.one Y (.nil)) Y Y Y Y Y Y<|bE O8 λmK ri O8=>RT.OY (k:=[ir]) (e:=aX) .none Y Y Y T Y T ri<|ag Y ?_;refine RT.done ⟨by kernel_rfl,?_⟩;refine aV.n<|bf ?_;obtain rfl:=O O8;exact R1 Y
theorem kp{x0:List Nat}{x1:List Nat}{r:List Nat}(h:cI x0 x1=some r):Pure ah 148 [slc 1 (List.map aX x0),slc 1 (List.map aX x1)] (slc 1 (List.map aX r)):=by
 refine aZ Tryz.func148 Y (af Y) (λdI M vs hvs=>?_);unfold cI at h;refine sr<|aI Y (aB (n:=1) (e:=aX))<|dn<|sr<|mv Y<|lE h λdK fY h=>ln Y fY<|bE h λgu mw h=>RT.Iz (e:=aX) .none Y Y T Y T mw<|RT.alloc .none T Y Y<|RT.pB (cells:=[_]) .none Y Y Y Y T Y<|dn<|sr<|RT.zL .none (dZ 1) Y ⟨Y,aq⟩ T Y Y<|RT.alloc .none T Y Y<|RT.jK (cells:=[_]) .none (s:=.fD _ _) Y Y Y T Y<|dn<|qq<|sr<|mv Y ?_;refine mv Y<|cl (q9 x0 x1) ⟨Y,Y,aq⟩<|dn<|bj<|bE h λe7 WC O8=>?_;obtain⟨J5,WD,WE,WG⟩:=oO WC;refine mJ (rf x0 x1) (λ_ _ _ _ _=>trivial) Y (λk=>AS.cq 28 [(5,.ptr 5 0),(6,.ptr 6 0),(15,.sv (oM 169 [ref [slc 1 (List.map aX x0)],ref [slc 1 (List.map aX x1)]]))] [(6,⟨141,[.fD 157 [.box 12]]⟩),(12,⟨104,[.sv (.v (.int .u64 (((J5 k).1:Nat):Int)))]⟩),(5,⟨32,[.row 302]⟩)] [(302,TR 106 1 aX (J5 k).2)]) [6,12,5] Y (λ_=>⟨Y,Y⟩) (qN Y) (λ_=>Y) (qO Y) (by(try dsimp only);rw[WD];(try dsimp only);exact da (λi=>bif Nat.beq i 302 then 11 else i) Y Y Y Y Y ⟨.ptr,.ptr,.sv au,aq⟩ ⟨⟨_,Y,⟨.fD,aq⟩⟩,⟨_,Y,⟨.sv au,aq⟩⟩,⟨_,Y,⟨.row Y,aq⟩⟩,aq⟩ ⟨⟨_,Y,eP.refl _⟩,aq⟩ (λi hi=>by rw[cw (show i≠302 by omega)];rfl)) (λk hk D hD=>?_) ?_;have h:=WE k hk;obtain⟨sk,O9⟩:∃q,J5 k=q:=⟨_,Y⟩;rw[O9]at h⊢;obtain⟨yY,iO⟩:=sk;dsimp only[AS.Oq,qM]
 try dsimp only at h
 refine lE h λp16 aaW h=>?_;rw[aaW];refine lE h λp17 aaX h=>?_;rw[aaX];refine sr<|ag Y<|dn<|aW<|ag Y<|RT.done ?_;refine aV.n ⟨Y,?_⟩;dsimp only[AS.Bu];refine bj<|bh mixed<|RT.nh .none (s:=.row _) Y Y Y T<|RT.nh .none (s:=.fD _ _) Y Y Y T<|mv Y<|mv Y<|lE h λiB nm h=>sb _ Y Y (UK.sub (a:=4294967295) (b:=p17) nm)<|lE h λiC oR h=>ad _ Y Y (UK.add (a:=p16) (b:=iB) oR) ?_;obtain⟨⟨gU,k9⟩,oG,h⟩:=bS h;refine cB (b7 oG) 12 Y ⟨Y,aq⟩<|bl (l:=[gU]) (e:=aX) (.one Y (.nil)) Y Y Y Y Y Y<|bE h λmG uu h=>aR (k:=[gU]) (e:=aX) Y Y Y uu<|RT.pB (cells:=[_]) .none Y Y Y Y T Y ?_;refine RT.done ⟨by kernel_rfl,?_⟩;refine bw.n ?_;replace h:=Option.some.inj h;refine⟨aq,Y,Y,?_⟩
 try dsimp only
 rw[<-h]
 try dsimp only
 exact da (λi=>bif Nat.beq i 302 then 26 else i) Y Y Y Y Y ⟨.ptr,.ptr,.sv au,aq⟩ ⟨⟨_,Y,⟨.fD,aq⟩⟩,⟨_,Y,⟨.sv au,aq⟩⟩,⟨_,Y,⟨.row Y,aq⟩⟩,aq⟩ ⟨⟨_,Y,eP.refl _⟩,aq⟩ (λi hi=>by rw[cw (show i≠302 by omega)];rfl);rw[WG];obtain⟨yY,iO⟩:=e7
 try dsimp only
 refine bw.n<|aV.n<|sr<|RT.nh .none (s:=.row _) Y Y Y T<|an (s:=.row _) Y<|dn<|bM (cn (i:=302) (E1:=106) (n:=1) (e:=aX) (l:=iO) Y)<|bf ?_;obtain rfl:=O O8;exact R1 Y
theorem vo{x0:List Nat}{x1:List Nat}{r:List Nat}(h:fB x0 x1=some r):Pure ah 117 [slc 1 (List.map aX x0),slc 1 (List.map aX x1)] (slc 1 (List.map aX r)):=by
 refine aZ Tryz.func117 Y (af Y) (λdI M vs hvs=>?_);unfold fB at h;refine sr<|aI Y (aB (n:=1) (e:=aX))<|dn<|sr<|mv Y<|lE h λdg fP h=>ln Y fP<|mv Y<|lE h λdO jh h=>ln Y jh<|lE h λeM jL h=>ad _ Y Y jL<|bE h λeU iL h=>RT.oN (n:=1) (e:=aX) .none Y Y T Y T (by rfl) (by decide) (by exact⟨au,aq⟩) iL<|an (s:=.row _) Y<|dn<|qq<|sr<|mv Y<|lE h λfK kR h=>ln Y kR ?_;refine mv Y<|dn<|bE h λe28 aaY aaZ=>?_;refine bJ (λ(uh:(List Nat))=>AS.cq 63 [(5,.row 16)] [] [(16,TR 106 1 aX uh)]) (λuh=>uh=e28) ?_ (λuh aa0=>?_);refine bj ?_;refine bK aaY (λVk=>AS.cq 63 [(1,.sv (slc 1 (List.map aX x1))),(5,.row 16),(17,.sv (slc 1 (List.map aX x0))),(18,ai fK),(19,ai Vk.1)] [] [(16,TR 106 1 aX Vk.2)]) (wR []) (λVk y28 G28 h aa1 aa2=>?_);obtain⟨nk,Dm⟩:=Vk
 try dsimp only
 refine sr<|lE h λjw oQ h=>ls _ Y Y oQ<|dn<|qq ?_;cases jw;refine cF<|bN<|aV.x<|aV.x<|bw.x<|aV.n ?_;obtain rfl:=O (F h);exact⟨Dm,aa2 _ Y,wR []⟩;refine cT<|bu<|aV.n<|qq<|bj<|sr<|mv Y<|bE (V h) λiB nm h=>ix Y Y nm<|lr Y Y<|ag Y<|ag Y<|dn<|sr<|RT.zL .none (dZ 0) Y ⟨Y,aq⟩ T Y Y<|an (s:=.fD _ _) Y<|dn<|qq<|sr<|mv Y<|lE h λmG uu h=>ln Y uu<|mv Y<|dn<|bE h λe38 aa3 wV=>?_;refine bJ (λ(J6:Nat×(List Nat))=>AS.cq 63 [(1,.sv (slc 1 (List.map aX x1))),(5,.row 16),(6,ai nk),(8,.fD 157 [.box 24]),(17,.sv (slc 1 (List.map aX x0))),(18,ai fK),(19,ai nk)] [(24,⟨104,[.sv (.v (.int .u64 ((J6.1:Nat):Int)))]⟩)] [(16,TR 106 1 aX J6.2)]) (λJ6=>J6=e38) ?_ (λJ6 aa4=>?_);refine bj ?_;refine bK aa3 (λTf=>AS.cq 63 [(1,.sv (slc 1 (List.map aX x1))),(5,.row 16),(6,ai nk),(7,.sv (.v (.int .u32 ((iB:Nat):Int)))),(8,.fD 157 [.box 24]),(17,.sv (slc 1 (List.map aX x0))),(18,ai fK),(19,ai nk),(25,.sv (slc 1 (List.map aX x1))),(26,ai mG),(27,ai Tf.1)] [(24,⟨104,[.sv (.v (.int .u64 ((Tf.2.1:Nat):Int)))]⟩)] [(16,TR 106 1 aX Tf.2.2)]) (wR []) (λTf y38 G38 h aa5 aa6=>?_);obtain⟨wM,va,uf⟩:=Tf
 try dsimp only
 refine sr<|lE h λmm sZ h=>ls _ Y Y sZ<|dn<|qq ?_;cases mm;refine cF<|bN<|aV.x<|aV.x<|bw.x<|aV.n ?_;obtain rfl:=O (F h);exact⟨(va,uf),aa6 _ Y,wR []⟩;refine cT<|bu<|aV.n<|qq<|bj<|sr<|mv Y<|bE (V h) λwN BJ h=>ix Y Y BJ<|lr Y Y<|ag Y<|ag Y<|dn<|aW<|mo (s:=.row _) Y<|mv Y<|mv Y<|lE h λsu BK h=>ad _ Y Y BK<|mo (s:=.fD _ _) Y<|mo (s:=.row _) Y<|mv Y<|mv Y<|lE h λmL tK h=>ad _ Y Y tK<|bE h λv8 Hp h=>iR Y Y Y Hp ?_;refine bE h λug Fh h=>lR Y Y Fh Y<|lE h λCp KN h=>cv _ Y (UK.nat KN)<|mv Y<|lE h λGG Pa h=>cv _ Y (UK.nat Pa)<|mv Y<|lE h λxH BL h=>cv _ Y (UK.nat BL)<|lE h λBA h48 h=>RT.mul .none _ Y Y T (UK.mul (a:=GG) (b:=xH) h48)<|lE h λWi Ts h=>ad _ Y Y (UK.add (a:=Cp) (b:=BA) Ts) ?_;obtain⟨⟨Bk,k41⟩,L7,h⟩:=bS h;refine cB (b7 L7) 24 Y ⟨Y,aq⟩<|bE h λQ5 Pb h=>iR Y Y Y Pb<|bE h λl42 WH h=>sR Bk Y Y Y Y WH<|RT.done<|bw.n<|aV.n<|aW<|lE h λyZ Fi h=>ad _ Y Y Fi<|mv Y<|RT.done ?_;obtain rfl:=O h;exact aV.n ⟨(yZ,k41,l42),aa5 _ Y,wR []⟩;subst aa4;obtain⟨EY,G3⟩:=J6
 try dsimp only
 refine aV.n<|aW<|mo (s:=.row _) Y<|mv Y<|mv Y<|lE wV λQ6 Tt wV=>ln Y Tt<|lE wV λKL Tu wV=>ad _ Y Y Tu<|mo (s:=.fD _ _) Y ?_;obtain⟨⟨LM,k45⟩,WI,wV⟩:=bS wV;refine cB (b7 WI) 24 Y ⟨Y,aq⟩<|bE wV λEZ Ov wV=>iR Y Y Y Ov<|bE wV λl46 WJ wV=>sR LM Y Y Y Y WJ<|RT.done<|bw.n<|aV.n<|aW<|lE wV λTg WK wV=>ad _ Y Y WK<|mv Y<|RT.done ?_;obtain rfl:=O wV;exact aV.n ⟨(Tg,l46),aa1 _ Y,wR []⟩;subst aa0
 try dsimp only
 refine aV.n<|sr<|mo (s:=.row _) Y<|an (s:=.row _) Y<|dn<|bM (cn (i:=16) (E1:=106) (n:=1) (e:=aX) (l:=uh) Y)<|bf ?_;obtain rfl:=O aaZ;exact R1 Y
end
section
open Go.Fw Go.Fw.Z Go.RowKit
theorem vp{x0:List Nat}{x1:Nat}{r:Nat×List Nat}(h:gM x0 x1=some r):GV ah 158 [.row 1000,.sv (.v (.int .u64 ((x1:Nat):Int)))] (TR 106 1 aX x0) (.sv (.v (.int .u64 ((r.1:Nat):Int)))) (List.flatMap aX r.2):=by
 refine tY Tryz.func158 Y (af Y) Y Y (λdI M v0=>?_);unfold gM at h;refine sr<|ag Y<|dn<|sr<|ag Y<|dn<|qq<|sr<|mo (s:=.row _) Y<|lE h λx9 h9 h=>lL Y Y h9<|lE h λdK fY h=>sb _ Y Y fY<|ag Y<|dn<|bE h λe8 z9 rj=>?_;refine bJ (λ(Cw:Nat×(List Nat))=>AS.cq 34 [(5,.sv (.v (.int .u64 ((Cw.1:Nat):Int))))] [] [(1000,TR 106 1 aX Cw.2)]) (λCw=>Cw=e8) ?_ (λCw Aa=>?_);refine bj ?_;refine bK z9 (λs8=>AS.cq 34 [(0,.row 1000),(1,.sv (.v (.int .u64 ((x1:Nat):Int)))),(5,.sv (.v (.int .u64 ((s8.1:Nat):Int)))),(6,ai s8.2.1)] [] [(1000,TR 106 1 aX s8.2.2)]) (wR []) (λs8 y8 G8 h Ab Ad=>?_);obtain⟨LN,E4,pL⟩:=s8
 try dsimp only
 refine qq<|sr<|mv Y<|lE h λdg fP h=>ge _ Y Y fP<|dn ?_;cases dg;refine cF<|bN<|aV.x<|aV.x<|bw.x<|aV.n ?_;obtain rfl:=O (F h);exact⟨(LN,pL),Ad _ Y,wR []⟩;refine cT<|bu<|aV.n<|qq<|bj<|sr<|mv Y<|lE (V h) λeU iL h=>RT.shl .none _ Y Y T (by decide) (UK.shl (a:=LN) (q:=32) (s:=32) Y iL)<|mo (s:=.row _) Y<|mv Y<|bE h λjU mM h=>iR Y Y Y mM<|bE h λjw oQ h=>lR Y Y oQ Y<|lE h λfZ my h=>cv _ Y (UK.nat my)<|lE h λiB nm h=>RT.or .none _ Y Y T (UK.or (a:=eU) (b:=fZ) nm)<|ag Y<|dn<|sr<|mo (s:=.row _) Y ?_;refine mv Y<|mv Y<|mv Y<|bE h λgx m7 h=>RT.quo .none _ Y Y T (nzU m7) (UK.quo m7)<|lE h λmm sZ h=>cv _ Y (UK.nat sZ)<|bE h λiM nL h=>iR Y Y Y nL<|bE h λqC lO h=>sR mm Y Y Y Y lO<|dn<|aW<|mv Y<|mv Y<|bE h λir nn h=>RT.rem .none _ Y Y T (Yw nn) (OX nn)<|ag Y<|RT.done<|bw.n<|aV.n<|aW<|mv Y<|lE h λdO jh h=>sb _ Y Y jh ?_;refine ag Y<|RT.done ?_;obtain rfl:=O h;exact aV.n ⟨(ir,dO,qC),Ab _ Y,wR []⟩;subst Aa;obtain⟨Wj,y4⟩:=Cw
 try dsimp only
 refine aV.n<|sr<|mv Y<|ag Y<|dn<|bf<|bE rj λ_ hle rj=>?_;obtain rfl:=O rj;exact⟨.inr Y,.sv (mI (.tmp Y (.nil)) au),(by show _=mD.live ⟨106,1,x0.length,List.flatMap aX y4⟩;rw[<-k8 hle];rfl)⟩
theorem uw{x0:List Nat}{x1:Nat}{r:List Nat}(h:eN x0 x1=some r):Pure ah 166 [slc 1 (List.map aX x0),.v (.int .u64 ((x1:Nat):Int))] (slc 1 (List.map aX r)):=by
 refine aZ Tryz.func166 Y (af Y) (λdI M vs hvs=>?_);unfold eN at h;refine sr<|aI Y (aB (n:=1) (e:=aX))<|dn<|sr<|RT.zL .none (dZ 0) Y ⟨Y,aq⟩ T Y Y<|an (s:=.fD _ _) Y<|dn<|sr<|mv Y<|lE h λgu mw h=>ln Y mw<|lE h λdg fP h=>ad _ Y Y fP<|bE h λjz lf h=>RT.Iz (e:=aX) .none Y Y T Y T lf<|an (s:=.row _) Y<|dn<|qq<|sr<|mv Y<|lE h λeM jL h=>ln Y jL ?_;refine mv Y<|dn<|bE h λe8 z9 rj=>?_;refine bJ (λ(Cw:Nat×(List Nat))=>AS.cq 35 [(5,.fD 157 [.box 9]),(6,.row 302)] [(9,⟨104,[.sv (.v (.int .u64 ((Cw.1:Nat):Int)))]⟩)] [(302,TR 106 1 aX Cw.2)]) (λCw=>Cw=e8) ?_ (λCw Aa=>?_);refine bj ?_;refine bK z9 (λs8=>AS.cq 35 [(1,.sv (.v (.int .u64 ((x1:Nat):Int)))),(5,.fD 157 [.box 9]),(6,.row 302),(14,.sv (slc 1 (List.map aX x0))),(15,ai eM),(16,ai s8.1)] [(9,⟨104,[.sv (.v (.int .u64 ((s8.2.1:Nat):Int)))]⟩)] [(302,TR 106 1 aX s8.2.2)]) (da (λi=>bif Nat.beq i 302 then 13 else i) Y Y Y Y Y ⟨.sv au,.fD,.row Y,.sv au,.sv au,.sv au,aq⟩ ⟨⟨_,Y,⟨.sv au,aq⟩⟩,aq⟩ ⟨⟨_,Y,eP.refl _⟩,aq⟩ (λi hi=>by rw[cw (show i≠302 by omega)];rfl)) (λs8 y8 G8 h Ab Ad=>?_);obtain⟨vc,pM,iO⟩:=s8
 try dsimp only
 refine sr<|lE h λfz lj h=>ls _ Y Y lj<|dn<|qq ?_;cases fz;refine cF<|bN<|aV.x<|aV.x<|bw.x<|aV.n ?_;obtain rfl:=O (F h);exact⟨(pM,iO),Ad _ Y,wR []⟩;refine cT<|bu<|aV.n<|qq<|bj<|sr<|bE (V h) λfK kR h=>ix Y Y kR<|lr Y Y<|ag Y<|dn<|aW<|mo (s:=.row _) Y<|mo (s:=.fD _ _) Y<|mv Y<|lE h λiC oR h=>cv _ Y (UK.nat oR)<|mv Y<|lE h λnK qE h=>RT.shl .none _ Y Y T (Int.natCast_nonneg _) (UK.shl (a:=iC) (q:=((x1:Nat):Int)) (s:=min x1 64) Y qE) ?_;obtain⟨⟨mG,Th⟩,uu,h⟩:=bS h;refine cB (b7 uu) 9 Y ⟨Y,aq⟩<|bl (l:=[mG]) (e:=aX) (.one Y (.nil)) Y Y Y Y Y Y<|bE h λmm sZ h=>aR (k:=[mG]) (e:=aX) Y Y Y sZ<|an (s:=.row _) Y<|RT.done<|bw.n<|aV.n<|aW<|lE h λiM nL h=>ad _ Y Y nL<|mv Y<|RT.done ?_;obtain rfl:=O h;exact aV.n ⟨(iM,Th,mm),Ab _ Y,da (λi=>bif Nat.beq i 302 then 28 else i) Y Y Y Y Y ⟨.sv au,.fD,.row Y,.sv au,.sv au,.sv au,aq⟩ ⟨⟨_,Y,⟨.sv au,aq⟩⟩,aq⟩ ⟨⟨_,Y,eP.refl _⟩,aq⟩ (λi hi=>by rw[cw (show i≠302 by omega)];rfl)⟩;subst Aa;obtain⟨zV,LO⟩:=Cw
 try dsimp only
 refine aV.n<|sr<|mo (s:=.row _) Y<|mo (s:=.fD _ _) Y ?_;obtain⟨⟨ir,k12⟩,nn,rj⟩:=bS rj;refine cB (b7 nn) 9 Y ⟨Y,aq⟩<|bl (l:=[ir]) (e:=aX) (.one Y (.nil)) Y Y Y Y Y Y<|bE rj λmK ri rj=>RT.OY (k:=[ir]) (e:=aX) .none Y Y Y T Y T ri<|ag Y<|dn<|bf ?_;obtain rfl:=O rj;exact R1 Y
theorem tc{x0:List Nat}{x1:Nat}{r:List Nat}(h:gZ x0 x1=some r):GW ah 166 [slc 1 (List.map aX x0),.v (.int .u64 ((x1:Nat):Int))] (TR 106 1 aX r):=by
 refine pH Tryz.func166 Y (af Y) (λdI M vs hvs=>?_);unfold gZ at h;refine sr<|ag Y<|dn<|bM (gL 4 304 106 1 Y Y T)<|sr<|RT.zL .none (dZ 0) Y ⟨Y,aq⟩ T Y Y<|an (s:=.fD _ _) Y<|dn<|sr<|mv Y<|lE h λgu mw h=>ln Y mw<|lE h λdg fP h=>ad _ Y Y fP<|bE h λjz lf h=>RT.Iz (e:=aX) .none Y Y T Y T lf<|an (s:=.row _) Y<|dn<|qq<|sr<|mv Y<|lE h λeM jL h=>ln Y jL ?_;refine mv Y<|dn<|bE h λe8 z9 rj=>?_;refine bJ (λ(Cw:Nat×(List Nat))=>AS.cq 35 [(5,.fD 157 [.box 9]),(6,.row 306)] [(9,⟨104,[.sv (.v (.int .u64 ((Cw.1:Nat):Int)))]⟩)] [(306,TR 106 1 aX Cw.2)]) (λCw=>Cw=e8) ?_ (λCw Aa=>?_);refine bj ?_;refine bK z9 (λs8=>AS.cq 35 [(1,.sv (.v (.int .u64 ((x1:Nat):Int)))),(5,.fD 157 [.box 9]),(6,.row 306),(14,.sv (slc 1 (List.map aX x0))),(15,ai eM),(16,ai s8.1)] [(9,⟨104,[.sv (.v (.int .u64 ((s8.2.1:Nat):Int)))]⟩)] [(306,TR 106 1 aX s8.2.2)]) (da (λi=>bif Nat.beq i 306 then 13 else i) Y Y Y Y Y ⟨.sv au,.fD,.row Y,.sv au,.sv au,.sv au,aq⟩ ⟨⟨_,Y,⟨.sv au,aq⟩⟩,aq⟩ ⟨⟨_,Y,eP.refl _⟩,aq⟩ (λi hi=>by rw[cw (show i≠306 by omega)];rfl)) (λs8 y8 G8 h Ab Ad=>?_);obtain⟨vc,pM,ow⟩:=s8
 try dsimp only
 refine sr<|lE h λfz lj h=>ls _ Y Y lj<|dn<|qq ?_;cases fz;refine cF<|bN<|aV.x<|aV.x<|bw.x<|aV.n ?_;obtain rfl:=O (F h);exact⟨(pM,ow),Ad _ Y,wR []⟩;refine cT<|bu<|aV.n<|qq<|bj<|sr<|bE (V h) λfK kR h=>ix Y Y kR<|lr Y Y<|ag Y<|dn<|aW<|mo (s:=.row _) Y<|mo (s:=.fD _ _) Y<|mv Y<|lE h λiC oR h=>cv _ Y (UK.nat oR)<|mv Y<|lE h λnK qE h=>RT.shl .none _ Y Y T (Int.natCast_nonneg _) (UK.shl (a:=iC) (q:=((x1:Nat):Int)) (s:=min x1 64) Y qE) ?_;obtain⟨⟨mG,Th⟩,uu,h⟩:=bS h;refine cB (b7 uu) 9 Y ⟨Y,aq⟩<|bl (l:=[mG]) (e:=aX) (.one Y (.nil)) Y Y Y Y Y Y<|bE h λmm sZ h=>aR (k:=[mG]) (e:=aX) Y Y Y sZ<|an (s:=.row _) Y<|RT.done<|bw.n<|aV.n<|aW<|lE h λiM nL h=>ad _ Y Y nL<|mv Y<|RT.done ?_;obtain rfl:=O h;exact aV.n ⟨(iM,Th,mm),Ab _ Y,da (λi=>bif Nat.beq i 306 then 28 else i) Y Y Y Y Y ⟨.sv au,.fD,.row Y,.sv au,.sv au,.sv au,aq⟩ ⟨⟨_,Y,⟨.sv au,aq⟩⟩,aq⟩ ⟨⟨_,Y,eP.refl _⟩,aq⟩ (λi hi=>by rw[cw (show i≠306 by omega)];rfl)⟩;subst Aa;obtain⟨zV,oz⟩:=Cw
 try dsimp only
 refine aV.n<|sr<|mo (s:=.row _) Y<|mo (s:=.fD _ _) Y ?_;obtain⟨⟨ir,k12⟩,nn,rj⟩:=bS rj;refine cB (b7 nn) 9 Y ⟨Y,aq⟩<|bl (l:=[ir]) (e:=aX) (.one Y (.nil)) Y Y Y Y Y Y<|bE rj λmK ri rj=>aR (k:=[ir]) (e:=aX) Y Y Y ri<|an (s:=.row _) Y<|dn<|bf ?_;obtain rfl:=O rj;exact⟨.inr Y,_,.tmp Y,Y⟩
theorem uz{x0:Nat}{r:Int}(h:fN x0=some r):Pure ah 170 [.v (.int .u32 ((x0:Nat):Int))] (ay r):=by
 refine aZ Tryz.func170 Y (af Y) (λdI M vs hvs=>?_);unfold fN at h;refine sr<|ag Y<|dn<|qq<|sr<|mv Y<|lE h λx4 h4 h=>ge _ Y Y (leN (p:=65536) (q:=x0) h4)<|dn ?_;refine bC h (λj2=>AS.cq 19 [(0,.sv (.v (.int .u32 ((j2.1:Nat):Int)))),(2,ai j2.2)] [] []) (λh=>?_) (λj2 h=>?_);cases x4;exact fs<|⟨(x0,0),(F h),wR []⟩;exact cT<|sr<|mv Y<|lE (V h) λx6 h6 h=>RT.shr .none _ Y Y T (by decide) (Dc (k:=.u32) (a:=x0) (q:=16) (s:=16) Y h6)<|ag Y<|dn<|aW<|ag Y<|dn<|⟨(x6,16),h,wR []⟩;obtain⟨G4,O6⟩:=j2
 try dsimp only
 refine aV.n<|qq<|sr<|mv Y<|lE h λx8 h8 h=>ge _ Y Y (leN (p:=256) (q:=G4) h8)<|dn ?_;refine bC h (λj4=>AS.cq 19 [(0,.sv (.v (.int .u32 ((j4.1:Nat):Int)))),(2,ai j4.2)] [] []) (λh=>?_) (λj4 h=>?_);cases x8;exact fs<|⟨(G4,O6),(F h),wR []⟩;exact cT<|sr<|mv Y<|lE (V h) λdK fY h=>RT.shr .none _ Y Y T (by decide) (Dc (k:=.u32) (a:=G4) (q:=8) (s:=8) Y fY)<|ag Y<|dn<|aW<|mv Y<|lE h λdg fP h=>ad _ Y Y fP<|ag Y<|dn<|⟨(dK,dg),h,wR []⟩;obtain⟨Wk,Wm⟩:=j4
 try dsimp only
 refine aV.n<|sr<|mv Y<|mv Y<|lE h λeM jL h=>cv _ Y (UK.nat jL)<|bE h λeU iL h=>?_;refine RT.six (l:=[0,1,2,2,3,3,3,3,4,4,4,4,4,4,4,4,5,5,5,5,5,5,5,5,5,5,5,5,5,5,5,5,6,6,6,6,6,6,6,6,6,6,6,6,6,6,6,6,6,6,6,6,6,6,6,6,6,6,6,6,6,6,6,6,7,7,7,7,7,7,7,7,7,7,7,7,7,7,7,7,7,7,7,7,7,7,7,7,7,7,7,7,7,7,7,7,7,7,7,7,7,7,7,7,7,7,7,7,7,7,7,7,7,7,7,7,7,7,7,7,7,7,7,7,7,7,7,7,8,8,8,8,8,8,8,8,8,8,8,8,8,8,8,8,8,8,8,8,8,8,8,8,8,8,8,8,8,8,8,8,8,8,8,8,8,8,8,8,8,8,8,8,8,8,8,8,8,8,8,8,8,8,8,8,8,8,8,8,8,8,8,8,8,8,8,8,8,8,8,8,8,8,8,8,8,8,8,8,8,8,8,8,8,8,8,8,8,8,8,8,8,8,8,8,8,8,8,8,8,8,8,8,8,8,8,8,8,8,8,8,8,8,8,8,8,8,8,8,8,8,8,8,8,8,8,8]) .none Y Y T iL ?_;refine lE h λfz lj h=>cv _ Y lj<|lE h λfK kR h=>ad _ Y Y kR<|ag Y<|dn<|bf ?_;obtain rfl:=O h;exact R1 Y
theorem mN{x0:Nat}{r:Int}(h:cS x0=some r):Pure ah 165 [.v (.int .u32 ((x0:Nat):Int))] (ay r):=by
 refine aZ Tryz.func165 Y (af Y) (λdI M vs hvs=>?_);unfold cS at h;refine sr<|ag Y<|dn<|sr<|mv Y<|bE h λx4 h4 h=>cl (uz h4) ⟨Y,aq⟩<|lE h λx5 h5 h=>sb _ Y Y h5<|ag Y<|dn<|bf ?_;obtain rfl:=O h;exact R1 Y
theorem vr{x0:List Nat}{o0:Nat}{n0:Nat}{x1:List Nat}{r:Nat×List Nat}(h:gN x0 o0 n0 x1=some r):GV ah 167 [.kY 1000 (o0*1) n0,.sv (slc 1 (List.map aX x1))] (TR 106 1 aX x0) (.sv (.v (.int .u64 ((r.1:Nat):Int)))) (List.flatMap aX r.2):=by
 refine tY Tryz.func167 Y (af Y) Y Y (λdI M v0=>?_);unfold gN at h;refine sr<|ag Y<|dn<|sr<|mv Y<|lE h λdg fP h=>ln Y fP<|ag Y<|dn<|qq<|bh mixed<|mo (s:=.kY _ _ _) Y<|mv Y<|bE h λeM jL h=>RT.EU .none Y Y T jL<|bE h λeU iL h=>lR Y Y iL Y<|lE h λfz lj h=>cv _ Y (UK.nat lj)<|lE h λfK kR h=>RT.shl .none _ Y Y T (by decide) (UK.shl (a:=fz) (q:=32) (s:=32) Y kR)<|mo (s:=.kY _ _ _) Y ?_;refine mv Y<|lE h λfZ my h=>sb _ Y Y my<|bE h λiB nm h=>RT.EU .none Y Y T nm<|bE h λiC oR h=>lR Y Y oR Y<|lE h λgU oG h=>cv _ Y (UK.nat oG)<|lE h λnK qE h=>RT.or .none _ Y Y T (UK.or (a:=fK) (b:=gU) qE)<|ag Y ?_;refine RT.done ⟨by kernel_rfl,?_⟩;refine aV.n<|qq<|bh mixed<|mv Y<|mv Y<|lE h λmm sZ h=>sb _ Y Y sZ<|bE h λiM nL h=>ix Y Y nL<|lr Y Y<|lE h λql Bm h=>cv _ Y (UK.nat Bm)<|mv Y<|mv Y<|lE h λmK ri h=>sb _ Y Y ri<|bE h λsu BK h=>ix Y Y BK<|lr Y Y<|lE h λwc Hq h=>cv _ Y (UK.nat Hq)<|ag Y<|ag Y ?_;refine RT.done ⟨by kernel_rfl,?_⟩;refine aV.n<|qq<|bh mixed<|mv Y<|mv Y<|bE h λmL tK h=>RT.quo .none _ Y Y T (nzU tK) (UK.quo tK)<|mv Y<|mv Y<|bE h λCp KN h=>RT.rem .none _ Y Y T (Yw KN) (OX KN)<|ag Y<|ag Y ?_;refine RT.done ⟨by kernel_rfl,?_⟩;refine aV.n<|qq<|bE h λL4 Dt sY=>?_
 refine bJ (λ(J0:Nat)=>AS.cq 71 [(9,.sv (.v (.int .u64 ((J0:Nat):Int))))] [] [(1000,TR 106 1 aX x0)]) (λJ0=>J0=L4) ?_ (λJ0 Du=>?_);refine bj ?_;refine bK Dt (λCq=>AS.cq 71 [(0,.kY 1000 (o0*1) n0),(5,ai dg),(7,.sv (.v (.int .u64 ((ql:Nat):Int)))),(8,.sv (.v (.int .u64 ((wc:Nat):Int)))),(9,.sv (.v (.int .u64 ((Cq.1:Nat):Int)))),(10,.sv (.v (.int .u64 ((Cq.2:Nat):Int))))] [] [(1000,TR 106 1 aX x0)]) (wR []) (λCq YA YB h Dv z8=>?_);obtain⟨BB,Cr⟩:=Cq
 try dsimp only
 refine qq<|qq ?_;refine bC h (λL5=>AS.cq 71 [(0,.kY 1000 (o0*1) n0),(5,ai dg),(7,.sv (.v (.int .u64 ((ql:Nat):Int)))),(8,.sv (.v (.int .u64 ((wc:Nat):Int)))),(9,.sv (.v (.int .u64 ((BB:Nat):Int)))),(10,.sv (.v (.int .u64 ((Cr:Nat):Int)))),(61,aj L5)] [] [(1000,TR 106 1 aX x0)]) (λh=>?_) (λG5 h=>?_);refine aW<|mv Y<|lE h λGG Pa h=>RT.shr .none _ Y Y T (by decide) (Dc (k:=.u64) (a:=BB) (q:=32) (s:=32) Y Pa)<|lE h λqV h46 h=>ne _ Y Y (Yu (p:=GG) (q:=0) h46)<|mv Y<|bE h λLP eW h=>?_;cases qV;refine gm Y<|gm Y<|lE (F eW) λBk L7 eW=>RT.mul (.some Y Y) _ Y Y T (UK.mul (a:=BB) (b:=wc) L7)<|gm Y<|lE eW λyZ Fi eW=>RT.shl (.some Y Y) _ Y Y T (by decide) (UK.shl (a:=Cr) (q:=32) (s:=32) Y Fi)<|RT.move (.some Y Y) (s:=.kY _ _ _) Y T<|gm Y<|lE eW λJZ Tv eW=>RT.sub (.some Y Y) _ Y Y T Tv<|bE eW λQ6 Tt eW=>RT.EU (.some Y Y) Y Y T Tt<|bE eW λKL Tu eW=>RT.V8 (.some Y Y) Y Y Tu Y T ?_;refine lE eW λVn h58 eW=>RT.conv (.some Y Y) _ Y T (UK.nat h58)<|lE eW λLM WI eW=>RT.or (.some Y Y) _ Y Y T (UK.or (a:=yZ) (b:=Vn) WI)<|lE eW λEZ Ov eW=>gg _ Y Y (Yv (p:=LM) (q:=Bk) Ov) ?_;obtain rfl:=O eW;exact pF Y<|dn<|⟨EZ,h,wR []⟩;obtain rfl:=O (V eW)
 exact ww<|ww<|ww<|ww<|ww<|ww<|ww<|ww<|ww<|ww<|ww<|ww<|ww<|pT Y<|dn<|⟨true,h,wR []⟩
 try dsimp only
 refine aV.n ?_;cases G5;refine cF<|bN<|aV.x<|aV.x<|bw.x<|aV.n ?_;obtain rfl:=O (F h);exact⟨BB,z8 _ Y,wR []⟩;refine cT<|bu<|aV.n<|bj<|sr<|mv Y<|lE (V h) λKM h63 h=>sb _ Y Y (UK.sub (a:=BB) (b:=1) h63)<|ag Y<|dn<|sr<|mv Y<|mv Y<|lE h λQ7 h66 h=>ad _ Y Y (UK.add (a:=Cr) (b:=ql) h66)<|ag Y<|dn<|sr<|mv Y<|lE h λVl h68 h=>RT.shr .none _ Y Y T (by decide) (Dc (k:=.u64) (a:=Q7) (q:=32) (s:=32) Y h68)<|lE h λVm WL h=>ne _ Y Y (Yu (p:=Vl) (q:=0) WL) ?_;refine dn ?_;cases Vm;refine cF<|bu<|bw.n ?_;obtain rfl:=O (F h);exact aV.n ⟨(KM,Q7),Dv _ Y,wR []⟩;refine cT<|bN<|bw.y (by decide)<|aV.x<|bw.x<|aV.n ?_;obtain rfl:=O (V h);exact⟨KM,z8 _ Y,wR []⟩;subst Du
 try dsimp only
 refine aV.n<|sr<|mv Y<|ag Y<|dn<|bf<|bE sY λ_ hle sY=>?_;obtain rfl:=O sY;exact⟨.inr Y,.sv (mI (.tmp Y (.nil)) au),(by show _=mD.live ⟨106,1,x0.length,List.flatMap aX x0⟩;rw[<-k8 hle];rfl)⟩
theorem nN{x0:List Nat}{o0:Nat}{n0:Nat}{x1:List Nat}{x2:Nat}{r:Bool×List Nat}(h:cJ x0 o0 n0 x1 x2=some r):GV ah 168 [.kY 1000 (o0*1) n0,.sv (slc 1 (List.map aX x1)),.sv (.v (.int .u64 ((x2:Nat):Int)))] (TR 106 1 aX x0) (aj r.1) (List.flatMap aX r.2):=by
 refine tY Tryz.func168 Y (af Y) Y Y (λdI M v0=>?_);unfold cJ at h;refine sr<|ag Y<|dn<|sr<|ag Y<|dn<|sr<|RT.zL .none (dZ 0) Y ⟨Y,aq⟩ T Y Y<|an (s:=.fD _ _) Y<|dn<|qq<|sr<|mo (s:=.kY _ _ _) Y<|lE h λdO jh h=>RT.Tc .none Y T jh<|mv Y<|dn<|bE h λOu L8 mO=>?_;refine bJ (λ(wW:Nat×(List Nat))=>AS.cq 51 [(7,.sv (.v (.int .u64 ((wW.1:Nat):Int))))] [] [(1000,TR 106 1 aX wW.2)]) (λwW=>wW=Ou) ?_ (λwW Tw=>?_);refine bj ?_;refine bK L8 (λGH=>AS.cq 51 [(0,.kY 1000 (o0*1) n0),(1,.sv (slc 1 (List.map aX x1))),(2,.sv (.v (.int .u64 ((x2:Nat):Int)))),(7,.sv (.v (.int .u64 ((GH.1:Nat):Int)))),(8,.fD 157 [.box 12]),(14,ai dO),(15,ai GH.2.1)] [(12,⟨104,[.sv (.v (.int .u64 ((GH.2.2.1:Nat):Int)))]⟩)] [(1000,TR 106 1 aX GH.2.2.2)]) (wR []) (λGH y12 G12 h L9 Ma=>?_);obtain⟨J1,ve,Dn,sw⟩:=GH
 try dsimp only
 refine sr<|lE h λeU iL h=>ls _ Y Y iL<|dn<|qq ?_;cases eU;refine cF<|bN<|aV.x<|aV.x<|bw.x<|aV.n ?_;obtain rfl:=O (F h);exact⟨(J1,sw),Ma _ Y,wR []⟩;refine cT<|bu<|aV.n<|qq<|bj<|sr<|mv Y<|ag Y<|dn<|sr<|ag Y<|dn<|qq<|sr<|mv Y<|mv Y<|lE (V h) λjw oQ h=>ln Y oQ<|lE h λfZ my h=>ls _ Y Y my<|dn ?_;refine bC h (λj14=>AS.cq 51 [(0,.kY 1000 (o0*1) n0),(1,.sv (slc 1 (List.map aX x1))),(2,.sv (.v (.int .u64 ((x2:Nat):Int)))),(7,.sv (.v (.int .u64 ((J1:Nat):Int)))),(8,.fD 157 [.box 12]),(9,ai ve),(10,.sv (.v (.int .u64 ((j14:Nat):Int)))),(14,ai dO),(15,ai ve)] [(12,⟨104,[.sv (.v (.int .u64 ((Dn:Nat):Int)))]⟩)] [(1000,TR 106 1 aX sw)]) (λh=>?_) (λLQ h=>?_);cases fZ;exact fs<|⟨0,(F h),wR []⟩;exact cT<|aW<|mv Y<|mv Y<|bE (V h) λgU oG h=>ix Y Y oG<|lr Y Y<|lE h λmG uu h=>cv _ Y (UK.nat uu)<|mv Y<|lE h λmm sZ h=>RT.mul .none _ Y Y T (UK.mul (a:=mG) (b:=x2) sZ)<|ag Y<|dn<|⟨mm,h,wR []⟩
 try dsimp only
 refine aV.n<|qq<|bh mixed<|mo (s:=.kY _ _ _) Y<|mv Y<|bE h λql Bm h=>RT.EU .none Y Y T Bm<|bE h λir nn h=>lR Y Y nn Y<|lE h λm6 wh h=>cv _ Y (UK.nat wh)<|mo (s:=.fD _ _) Y<|mv Y ?_;obtain⟨⟨uO,k16⟩,yE,h⟩:=bS h;refine cB (b7 yE) 12 Y ⟨Y,aq⟩<|lE h λwc Hq h=>cv _ Y (UK.nat Hq)<|lE h λxG Ho h=>sb _ Y Y (UK.sub (a:=m6) (b:=wc) Ho)<|mv Y<|lE h λmL tK h=>sb _ Y Y (UK.sub (a:=xG) (b:=J1) tK)<|ag Y ?_;refine RT.done ⟨by kernel_rfl,?_⟩;refine aV.n<|sr<|mo (s:=.kY _ _ _) Y<|mv Y<|mv Y<|lE h λBC Hr h=>cv _ Y (UK.nat Hr)<|bE h λGG Pa h=>RT.EU .none Y Y T Pa<|bE h λl18 WM h=>sR BC Y Y Y Y WM<|dn<|aW<|mv Y<|lE h λxH BL h=>RT.shr .none _ Y Y T (by decide) (Dc (k:=.u64) (a:=mL) (q:=63) (s:=63) Y BL)<|ag Y<|RT.done<|bw.n<|aV.n<|aW<|lE h λBA h48 h=>ad _ Y Y h48<|mv Y<|RT.done ?_;obtain rfl:=O h;exact aV.n ⟨(xH,BA,k16,l18),L9 _ Y,wR []⟩;subst Tw;obtain⟨LR,vf⟩:=wW
 try dsimp only
 refine aV.n<|sr<|mv Y<|lE mO λBk L7 mO=>ne _ Y Y (Yu (p:=LR) (q:=0) L7)<|ag Y<|dn<|bf<|bE mO λ_ hle mO=>?_;obtain rfl:=O mO;exact⟨.inr Y,.sv (mI (.tmp Y (.nil)) au),(by show _=mD.live ⟨106,1,x0.length,List.flatMap aX vf⟩;rw[<-k8 hle];rfl)⟩
set_option maxHeartbeats 4000000 in
theorem wX{x0:List Nat}{x1:List Nat}{r:(List Nat)×(List Nat)}(h:iu x0 x1=some r):Pure ah 159 [slc 1 (List.map aX x0),slc 1 (List.map aX x1)] (.yy [slc 1 (List.map aX r.1),slc 1 (List.map aX r.2)]):=by
 refine aZ Tryz.func159 Y (af Y) (λdI M vs hvs=>?_);unfold iu at h;refine sr<|ag Y<|ag Y<|dn<|bM (gL 4 306 106 1 Y Y T)<|bM (gL 5 308 106 1 Y Y T)<|sr<|mv Y<|lE h λfz lj h=>ln Y lj<|ag Y<|dn<|sr<|mv Y<|mv Y<|lE h λjw oQ h=>sb _ Y Y oQ<|bE h λfZ my h=>ix Y Y my<|lr Y Y<|bE h λiC oR h=>cl (mN oR) ⟨Y,aq⟩ ?_;refine lE h λgU oG h=>cv _ Y (UK.conv oG)<|ag Y<|dn<|qq<|bh mixed<|mv Y<|mv Y<|bE h λgx m7 h=>cN (tc m7) ⟨Y,Y,aq⟩<|mv Y<|mv Y<|bE h λwN BJ h=>cl (uw BJ) ⟨Y,Y,aq⟩<|mv Y<|bE h λir nn h=>RT.wK .none 0 fz Y Y ⟨_,Y⟩ T nn<|an (s:=.row _) Y<|ag Y ?_;refine RT.done ⟨by kernel_rfl,?_⟩;refine aV.n<|sr<|mv Y<|lE h λmK ri h=>ln Y ri<|mv Y<|lE h λuO yE h=>sb _ Y Y yE<|lE h λwc Hq h=>ad _ Y Y Hq<|bE h λxG Ho h=>RT.oN (n:=1) (e:=aX) .none Y Y T Y T (by rfl) (by decide) (by exact⟨au,aq⟩) Ho<|an (s:=.row _) Y<|dn<|qq<|sr<|mv Y<|lE h λmL tK h=>ln Y tK<|mv Y<|lE h λug Fh h=>sb _ Y Y Fh ?_;refine ag Y<|dn<|bE h λWs aba Tx=>?_;refine bJ (λ(J7:(List Nat)×(List Nat))=>AS.cq 141 [(4,.row 38),(6,ai fz),(7,.sv (.v (.int .u64 ((gU:Nat):Int)))),(8,.row 27)] [] [(38,TR 106 1 aX J7.1),(27,TR 106 1 aX J7.2)]) (λJ7=>J7=Ws) ?_ (λJ7 abb=>?_);refine bj ?_
 refine bK aba (λTi=>AS.cq 141 [(4,.row 38),(6,ai fz),(7,.sv (.v (.int .u64 ((gU:Nat):Int)))),(8,.row 27),(9,.sv (slc 1 (List.map aX ir))),(10,ai Ti.1)] [] [(38,TR 106 1 aX Ti.2.1),(27,TR 106 1 aX Ti.2.2)]) (wR []) (λTi y36 G36 h abc abd=>?_);obtain⟨iP,qW,uj⟩:=Ti
 try dsimp only
 refine qq<|sr<|mv Y<|lE h λBC Hr h=>ge _ Y Y Hr<|dn ?_;cases BC;refine cF<|bN<|aV.x<|aV.x<|bw.x<|aV.n ?_;obtain rfl:=O (F h);exact⟨(qW,uj),abd _ Y,wR []⟩;refine cT<|bu<|aV.n<|qq<|bj<|sr<|mo (s:=.row _) Y<|mv Y<|mv Y<|mv Y<|lE (V h) λQ5 Pb h=>ad _ Y Y Pb<|lE h λyZ Fi h=>ad _ Y Y Fi ?_;obtain⟨⟨o53,n53⟩,Ty,h⟩:=bS h;refine RT.Wb .none iP yZ Y Y ⟨_,Y⟩ ⟨_,Y⟩ T Ty<|mv Y ?_;obtain⟨⟨JZ,Tj⟩,Tv,h⟩:=bS h;refine bE h λ_ abe h=>cR (l:=uj) (l':=Tj) (e:=aX) (vr Tv) (k8 abe) 27 Y (.k2 Y Y)<|ag Y<|dn<|qq<|sr<|mo (s:=.row _) Y<|mv Y<|mv Y<|mv Y<|lE h λEZ Ov h=>ad _ Y Y Ov<|lE h λTg WK h=>ad _ Y Y WK ?_;obtain⟨⟨o62,n62⟩,h62,h⟩:=bS h;refine RT.Wb .none iP Tg Y Y ⟨_,Y⟩ ⟨_,Y⟩ T h62<|mv Y<|mv Y ?_;obtain⟨⟨IE,Vo⟩,Rg,h⟩:=bS h;refine bE h λ_ abg h=>cR (l:=Tj) (l':=Vo) (e:=aX) (nN Rg) (k8 abg) 27 Y (.k3 Y Y Y)<|dn ?_;refine bC h (λVp=>AS.cq 141 [(4,.row 38),(6,ai fz),(7,.sv (.v (.int .u64 ((gU:Nat):Int)))),(8,.row 27),(9,.sv (slc 1 (List.map aX ir))),(10,ai iP),(11,.sv (.v (.int .u64 ((Vp.1:Nat):Int))))] [] [(38,TR 106 1 aX qW),(27,TR 106 1 aX Vp.2)]) (λh=>?_) (λVp h=>?_);cases IE;exact fs<|⟨(JZ,Vo),(F h),wR []⟩
 refine cT<|sr<|mv Y<|lE (V h) λLU WN h=>sb _ Y Y (UK.sub (a:=JZ) (b:=1) WN)<|ag Y<|dn<|sr<|RT.zL .none (dZ 0) Y ⟨Y,aq⟩ T Y Y<|an (s:=.fD _ _) Y<|dn<|qq<|sr<|mv Y<|lE h λx70 h70 h=>ln Y h70<|mv Y<|dn<|bE h λe65 abi ru=>?_;refine bJ (λ(J8:Nat×(List Nat))=>AS.cq 141 [(4,.row 38),(6,ai fz),(7,.sv (.v (.int .u64 ((gU:Nat):Int)))),(8,.row 27),(9,.sv (slc 1 (List.map aX ir))),(10,ai iP),(11,.sv (.v (.int .u64 ((LU:Nat):Int)))),(12,.fD 157 [.box 68])] [(68,⟨104,[.sv (.v (.int .u64 ((J8.1:Nat):Int)))]⟩)] [(38,TR 106 1 aX qW),(27,TR 106 1 aX J8.2)]) (λJ8=>J8=e65) ?_ (λJ8 abj=>?_);refine bj ?_;refine bK abi (λTk=>AS.cq 141 [(4,.row 38),(6,ai fz),(7,.sv (.v (.int .u64 ((gU:Nat):Int)))),(8,.row 27),(9,.sv (slc 1 (List.map aX ir))),(10,ai iP),(11,.sv (.v (.int .u64 ((LU:Nat):Int)))),(12,.fD 157 [.box 68]),(69,.sv (slc 1 (List.map aX ir))),(70,ai x70),(71,ai Tk.1)] [(68,⟨104,[.sv (.v (.int .u64 ((Tk.2.1:Nat):Int)))]⟩)] [(38,TR 106 1 aX qW),(27,TR 106 1 aX Tk.2.2)]) (wR []) (λTk y65 G65 h abk abl=>?_);obtain⟨wO,vg,um⟩:=Tk
 try dsimp only
 refine sr<|lE h λLV WO h=>ls _ Y Y WO<|dn<|qq ?_;cases LV;refine cF<|bN<|aV.x<|aV.x<|bw.x<|aV.n ?_;obtain rfl:=O (F h);exact⟨(vg,um),abl _ Y,wR []⟩;refine cT<|bu<|aV.n<|qq<|bj<|sr<|mv Y<|bE (V h) λO7 WQ h=>ix Y Y WQ<|lr Y Y<|ag Y<|ag Y<|dn<|aW<|mo (s:=.row _) Y<|mv Y<|mv Y<|lE h λx79 h79 h=>ad _ Y Y h79<|mo (s:=.fD _ _) Y<|mo (s:=.row _) Y<|mv Y<|mv Y<|lE h λGI J9 h=>ad _ Y Y J9<|bE h λWn h85 h=>iR Y Y Y h85 ?_;refine bE h λLW h86 h=>lR Y Y h86 Y<|lE h λx87 h87 h=>cv _ Y (UK.nat h87)<|mv Y<|lE h λzW Dw h=>cv _ Y (UK.nat Dw)<|lE h λWo h90 h=>ad _ Y Y (UK.add (a:=x87) (b:=zW) h90) ?_;obtain⟨⟨Tl,k68⟩,h91,h⟩:=bS h;refine cB (b7 h91) 68 Y ⟨Y,aq⟩<|bE h λBl Dx h=>iR Y Y Y Dx<|bE h λl69 WR h=>sR Tl Y Y Y Y WR<|RT.done<|bw.n<|aV.n<|aW<|lE h λx93 h93 h=>ad _ Y Y h93<|mv Y<|RT.done ?_;obtain rfl:=O h;exact aV.n ⟨(x93,k68,l69),abk _ Y,wR []⟩;subst abj;obtain⟨E5,zX⟩:=J8
 try dsimp only
 refine aV.n<|aW<|mo (s:=.row _) Y<|mv Y<|mv Y<|lE ru λx97 h97 ru=>ad _ Y Y h97<|mo (s:=.fD _ _) Y<|mo (s:=.row _) Y<|mv Y<|mv Y<|lE ru λHf Tz ru=>ad _ Y Y Tz<|bE ru λWp abq ru=>iR Y Y Y abq<|bE ru λBD Mb ru=>lR Y Y Mb Y<|lE ru λuo Mc ru=>cv _ Y (UK.nat Mc) ?_;obtain⟨⟨Tm,k72⟩,abr,ru⟩:=bS ru;exact cB (b7 abr) 68 Y ⟨Y,aq⟩<|bE ru λWq abt ru=>iR Y Y Y abt<|bE ru λl73 WS ru=>sR Tm Y Y Y Y WS<|dn<|⟨(LU,l73),ru,wR []⟩;obtain⟨LS,G7⟩:=Vp
 try dsimp only
 refine aV.n<|aW<|mo (s:=.row _) Y<|mv Y<|mv Y<|lE h λHe TA h=>cv _ Y (UK.nat TA)<|bE h λJ2 TB h=>iR Y Y Y TB<|bE h λl55 WT h=>sR He Y Y Y Y WT<|RT.done<|bw.n<|aV.n<|aW<|mv Y<|lE h λqV h46 h=>sb _ Y Y h46<|ag Y<|RT.done ?_;obtain rfl:=O h;exact aV.n ⟨(qV,l55,G7),abc _ Y,wR []⟩;subst abb;obtain⟨zY,wP⟩:=J7
 try dsimp only
 refine aV.n<|sr<|mv Y<|bE Tx λHg TC Tx=>RT.oN (n:=1) (e:=aX) .none Y Y T Y T (by rfl) (by decide) (by exact⟨au,aq⟩) TC<|an (s:=.row _) Y<|dn<|qq<|sr<|mv Y<|mv Y<|dn<|bE Tx λe81 abu abv=>?_;refine bJ (λ(pN:(List Nat))=>AS.cq 141 [(4,.row 38),(5,.row 114)] [] [(38,TR 106 1 aX zY),(114,TR 106 1 aX pN)]) (λpN=>pN=e81) ?_ (λpN abw=>?_);refine bj ?_;refine bK abu (λVq=>AS.cq 141 [(4,.row 38),(5,.row 114),(7,.sv (.v (.int .u64 ((gU:Nat):Int)))),(8,.row 27),(115,ai fz),(116,ai Vq.1)] [] [(38,TR 106 1 aX zY),(114,TR 106 1 aX Vq.2),(27,TR 106 1 aX wP)]) (wR []) (λVq y81 G81 h abx aby=>?_);obtain⟨sD,vh⟩:=Vq
 try dsimp only
 refine sr<|lE h λTn abz h=>ls _ Y Y abz<|dn<|qq ?_;cases Tn;refine cF<|bN<|aV.x<|aV.x<|bw.x<|aV.n ?_;obtain rfl:=O (F h);exact⟨vh,aby _ Y,wR []⟩;refine cT<|bu<|aV.n<|qq<|bj<|sr<|mv Y<|ag Y<|dn<|bh mixed<|mo (s:=.row _) Y<|mv Y<|mo (s:=.row _) Y<|mv Y<|bE (V h) λJ3 TD h=>iR Y Y Y TD<|bE h λWt abA h=>lR Y Y abA Y<|lE h λTo abB h=>cv _ Y (UK.nat abB)<|mo (s:=.row _) Y<|mv Y<|lE h λWu h128 h=>ad _ Y Y h128<|bE h λWv abC h=>?_;refine iR Y Y Y abC<|bE h λWw abD h=>lR Y Y abD Y<|lE h λTp abE h=>cv _ Y (UK.nat abE)<|lE h λDp Md h=>RT.shl .none _ Y Y T (by decide) (UK.shl (a:=Tp) (q:=32) (s:=32) Y Md)<|lE h λTq abF h=>RT.or .none _ Y Y T (UK.or (a:=To) (b:=Dp) abF)<|mv Y<|lE h λWy abG h=>RT.shr .none _ Y Y T (Int.natCast_nonneg _) (Dc (k:=.u64) (a:=Tq) (q:=((gU:Nat):Int)) (s:=min gU 64) Y abG)<|lE h λTr abH h=>cv _ Y (UK.nat abH) ?_;refine bE h λBE Me h=>iR Y Y Y Me<|bE h λl83 WU h=>sR Tr Y Y Y Y WU ?_;refine RT.done ⟨by kernel_rfl,?_⟩;refine bw.n<|aV.n<|aW<|lE h λzZ Mf h=>ad _ Y Y Mf<|mv Y<|RT.done ?_;obtain rfl:=O h;exact aV.n ⟨(zZ,l83),abx _ Y,wR []⟩;subst abw
 try dsimp only
 refine aV.n<|sr<|mo (s:=.row _) Y<|mo (s:=.row _) Y<|an (s:=.row _) Y<|an (s:=.row _) Y<|dn<|bM (cn (i:=38) (E1:=106) (n:=1) (e:=aX) (l:=zY) Y)<|bM (cn (i:=114) (E1:=106) (n:=1) (e:=aX) (l:=pN) Y)<|bf ?_;obtain rfl:=O abv;exact R2 Y Y
theorem nY{x0:List Nat}{x1:List Nat}{r:(List Nat)×(List Nat)}(h:fC x0 x1=some r):Pure ah 146 [slc 1 (List.map aX x0),slc 1 (List.map aX x1)] (.yy [slc 1 (List.map aX r.1),slc 1 (List.map aX r.2)]):=by
 refine aZ Tryz.func146 Y (af Y) (λdI M vs hvs=>?_);unfold fC at h;refine sr<|ag Y<|aI Y (aB (n:=1) (e:=aX))<|dn<|bM (gL 4 304 106 1 Y Y T)<|qq<|bj<|sr<|mv Y<|mv Y<|bE h λdg fP h=>cl (fI fP) ⟨Y,Y,aq⟩<|lE h λjz lf h=>ls _ Y Y lf<|ag Y<|dn ?_;cases jz;refine cF<|sr<|mv Y<|lE (F h) λfK kR h=>ln Y kR<|lE h λjU mM h=>RT.leq .none _ Y Y T mM<|ag Y<|dn ?_;cases jU;refine cF<|sr<|mv Y<|lE (F h) λuO yE h=>ln Y yE<|lE h λwc Hq h=>eq _ Y Y (o9 (p:=uO) (q:=1) Hq)<|ag Y<|dn ?_;cases wc;refine cF<|bu<|bw.n<|aV.n<|sr<|mv Y<|mv Y ?_;obtain⟨⟨Wz,WA⟩,Fi,h⟩:=bS (F h);refine cl (wX Fi) ⟨Y,Y,aq⟩<|ex Y Y<|ex Y Y<|ag Y<|ag Y<|dn<|bf ?_;obtain rfl:=O h;exact R2 Y Y;refine cT<|sr<|mv Y<|bE (V h) λqD BM h=>cN (wS BM) ⟨Y,aq⟩<|an (s:=.row _) Y<|dn<|sr<|mo (s:=.row _) Y<|mv Y<|bE h λug Fh h=>ix Y Y Fh<|lr Y Y<|lE h λBC Hr h=>cv _ Y (UK.nat Hr) ?_;obtain⟨⟨GG,l5⟩,Pa,h⟩:=bS h;refine bE h λ_ he5 h=>cR (l:=qD) (l':=l5) (e:=aX) (vp Pa) (k8 he5) 39 Y (.k2 Y Y)<|ag Y<|dn<|sr<|mo (s:=.row _) Y<|mv Y<|lE h λBA h48 h=>cv _ Y (UK.nat h48)<|bl (l:=[BA]) (e:=aX) (.one Y (.nil)) Y Y Y Y Y Y<|an (s:=.row _) Y<|ag Y<|dn<|bM (cn (i:=39) (E1:=106) (n:=1) (e:=aX) (l:=l5) Y)<|bf ?_;refine bw.r<|aV.r ?_;obtain rfl:=O h;exact R2 Y Y
 refine cT<|sr<|mv Y<|bE (V h) λfZ my h=>cl (g9 my) ⟨Y,aq⟩<|mv Y<|bE h λiC oR h=>cl (g9 oR) ⟨Y,aq⟩<|ag Y<|ag Y<|dn<|qq<|bh mixed<|mv Y<|mv Y<|bE h λmG uu h=>RT.quo .none _ Y Y T (nzU uu) (UK.quo uu) ?_;obtain⟨⟨vi,tH⟩,m7,h⟩:=bS h;refine cl (iT m7) ⟨Y,Y,aq⟩<|fl Y Y<|mv Y<|mv Y<|bE h λql Bm h=>RT.rem .none _ Y Y T (Yw Bm) (OX Bm) ?_;obtain⟨⟨tJ,qX⟩,nn,h⟩:=bS h;refine cl (iT nn) ⟨Y,Y,aq⟩<|fl Y Y<|ag Y<|ag Y ?_;refine RT.done ⟨by kernel_rfl,?_⟩;refine aV.n<|bf<|bw.r<|aV.r ?_;obtain rfl:=O h;exact R2 Y Y;refine cT<|sr<|mv Y<|bE (V h) λeM jL h=>cl (mu jL) ⟨Y,aq⟩<|ag Y<|ag Y<|dn<|bM (gL 4 310 106 1 Y Y T)<|bM (cn (i:=310) (E1:=106) (n:=1) (e:=aX) (l:=[]) Y)<|bf<|bw.r<|aV.r ?_;obtain rfl:=O h;exact R2 Y Y
end
section
open Go.Fw Go.Fw.Z Go.RowKit
theorem dA{x0:Int}{r:Zr}(h:bW x0=some r):Pure ah 93 [ay x0] (.agg (eZ r)):=by
 refine aZ Tryz.func93 Y (af Y) (λdI M vs hvs=>?_);unfold bW at h;refine sr<|al (cs:=[az false,ax]) (by exact⟨au,aB,aq⟩) Y<|dn<|sr<|mv Y<|lE h λx5 h5 h=>cv _ Y (UK.conv h5)<|ag Y<|dn<|qq<|sr<|mv Y<|lE h λx7 h7 h=>ls _ Y Y h7<|dn ?_;refine bC h (λj2=>AS.cq 14 [(0,ai x0),(2,.ptr 2 0),(3,.sv (.v (.int .u64 ((j2:Nat):Int))))] [(2,⟨34,[aj false,.sv ax]⟩)] []) (λh=>?_) (λE6 h=>?_);cases x7;exact fs<|⟨x5,(F h),wR []⟩;exact cT<|aW<|mv Y<|lE (V h) λx9 h9 h=>RT.neg .none _ Y T (UK.neg h9)<|ag Y<|dn<|⟨x9,h,wR []⟩
 try dsimp only
 refine aV.n<|sr<|mv Y<|lE h λgu mw h=>ls _ Y Y mw<|mv Y ?_;obtain⟨⟨z4,z5⟩,lf,h⟩:=bS h;refine cl (iT lf) ⟨Y,Y,aq⟩<|so Y Y Y<|dn<|bf ?_;obtain rfl:=O h;exact RZ (.agg Y Y (.k2 Y Y) Y (.nil))
theorem fG{x0:Zr}{r:Int×Bool}(h:cW x0=some r):Pure ah 100 [.agg (eZ x0)] (.yy [ay r.1,az r.2]):=by
 obtain⟨bt,bp⟩:=x0;refine aZ Tryz.func100 Y (af Y) (λdI M vs hvs=>?_);unfold cW at h;refine sr<|bx Y<|ag Y<|ag Y<|dn<|sr<|fa Y Y<|lV Y Y Y<|bE h λx8 h8 h=>cl (bV h8) ⟨Y,aq⟩<|ag Y<|dn<|qq<|sr<|mv Y<|lE h λdK fY h=>ln Y fY<|lE h λgu mw h=>gt _ Y Y mw<|dn ?_;cases gu;refine fs<|sr<|mv Y<|bE (F h) λjz lf h=>cl (g9 lf) ⟨Y,aq⟩<|ag Y<|dn<|qq<|sr<|fa Y Y<|lV Y Y Y<|dn ?_;cases bt;refine fs<|qq<|sr<|mv Y<|lE (F h) λiB nm h=>ge _ Y Y (leN (p:=9223372036854775808) (q:=jz) nm)<|dn ?_;cases iB;refine fs<|sr<|mv Y<|lE (F h) λgU oG h=>cv _ Y oG<|ag Y<|ag Y<|dn<|bf ?_;obtain rfl:=O h;exact R2 Y Y;refine cT<|sr<|ag Y<|ag Y<|dn<|bf<|aV.r ?_;obtain rfl:=O (V h);exact R2 Y Y;refine cT<|qq<|sr<|mv Y<|lE (V h) λfz lj h=>gt _ Y Y (Yv (p:=9223372036854775808) (q:=jz) lj)<|dn ?_;cases fz;refine fs<|sr<|mv Y<|lE (F h) λjU mM h=>RT.neg .none _ Y T (UK.neg mM)<|lE h λjw oQ h=>cv _ Y oQ<|ag Y<|ag Y<|dn<|bf<|aV.r ?_;obtain rfl:=O h;exact R2 Y Y;refine cT<|sr<|ag Y<|ag Y<|dn<|bf<|aV.r<|aV.r ?_;obtain rfl:=O (V h);exact R2 Y Y;refine cT<|sr<|ag Y<|ag Y<|dn<|bf<|aV.r ?_;obtain rfl:=O (V h);exact R2 Y Y
theorem nq{x0:Bool}{x1:List Nat}{x2:Bool}{x3:List Nat}{r:Zr}(h:cP x0 x1 x2 x3=some r):Pure ah 149 [az x0,slc 1 (List.map aX x1),az x2,slc 1 (List.map aX x3)] (.agg (eZ r)):=by
 refine aZ Tryz.func149 Y (af Y) (λdI M vs hvs=>?_);unfold cP at h;refine sr<|al (cs:=[az false,ax]) (by exact⟨au,aB,aq⟩) Y<|dn<|qq<|sr<|mv Y<|mv Y<|lE h λgu mw h=>RT.ZN .none _ Y Y T mw<|dn ?_;cases gu;refine fs<|qq<|sr<|mv Y<|mv Y<|bE (F h) λjU mM h=>cl (fI mM) ⟨Y,Y,aq⟩<|lE h λjw oQ h=>ls _ Y Y oQ<|dn ?_;cases jw;refine fs<|sr<|mv Y<|mv Y<|mv Y<|bE (F h) λiM nL h=>cl (kp nL) ⟨Y,Y,aq⟩ ?_;obtain⟨⟨vm,vn⟩,BJ,h⟩:=bS h;refine cl (eG BJ) ⟨Y,Y,aq⟩<|so Y Y Y<|dn<|bf ?_;obtain rfl:=O h;exact RZ (.agg Y Y (.k2 Y Y) Y (.nil));refine cT<|sr<|mv Y<|mv Y<|mv Y<|bE (V h) λgU oG h=>cl (kp oG) ⟨Y,Y,aq⟩ ?_;obtain⟨⟨xI,vk⟩,qE,h⟩:=bS h;refine cl (eG qE) ⟨Y,Y,aq⟩<|so Y Y Y<|dn<|bf<|aV.r ?_;obtain rfl:=O h;exact RZ (.agg Y Y (.k2 Y Y) Y (.nil));refine cT<|sr<|mv Y<|mv Y<|mv Y<|bE (V h) λeM jL h=>cl (nX jL) ⟨Y,Y,aq⟩ ?_;obtain⟨⟨iQ,iS⟩,iL,h⟩:=bS h;refine cl (eG iL) ⟨Y,Y,aq⟩<|so Y Y Y<|dn<|bf<|aV.r ?_;obtain rfl:=O h;exact RZ (.agg Y Y (.k2 Y Y) Y (.nil))
theorem Dy{x0:Zr}{x1:Zr}{r:Zr}(h:lK x0 x1=some r):Pure ah 127 [.agg (eZ x0),.agg (eZ x1)] (.agg (eZ r)):=by
 obtain⟨bt,bp⟩:=x0;obtain⟨cc,bY⟩:=x1;refine aZ Tryz.func127 Y (af Y) (λdI M vs hvs=>?_);unfold lK at h;refine sr<|bx Y<|bx Y<|al (cs:=[az false,ax]) (by exact⟨au,aB,aq⟩) Y<|dn<|sr<|ld Y Y (.k2 Y Y) ?_;obtain⟨⟨BF,Hh⟩,fP,h⟩:=bS h;refine cl (fG fP) ⟨Y,aq⟩<|mv Y<|ex Y Y<|ex Y Y<|ag Y<|ag Y<|dn<|sr<|ld Y Y (.k2 Y Y) ?_;obtain⟨⟨Dq,Hi⟩,lj,h⟩:=bS h;refine cl (fG lj) ⟨Y,aq⟩<|mv Y<|ex Y Y<|ex Y Y<|ag Y<|ag Y<|dn<|qq<|qq ?_;refine bC h (λj3=>AS.cq 48 [(2,.ptr 2 0),(3,.ptr 3 0),(4,.ptr 4 0),(5,ai BF),(7,ai Dq),(23,aj j3)] [(4,⟨34,[aj false,.sv ax]⟩),(3,⟨34,[aj cc,.sv (slc 1 (List.map aX bY))]⟩),(2,⟨34,[aj bt,.sv (slc 1 (List.map aX bp))]⟩)] []) (λh=>?_) (λz6 h=>?_);refine aW<|mv Y<|mv Y<|bE h λE9 xN h=>?_;cases Hh;obtain rfl:=O (F xN);exact ww<|pF Y<|dn<|⟨false,h,wR []⟩;refine gm Y ?_;obtain rfl:=O (V xN);exact pT Y<|dn<|⟨Hi,h,wR []⟩
 try dsimp only
 refine aV.n ?_;refine bC h (λj5=>AS.cq 48 [(2,.ptr 2 0),(3,.ptr 3 0),(4,.ptr 4 0)] [(4,⟨34,[aj false,.sv ax]⟩),(3,⟨34,[aj cc,.sv (slc 1 (List.map aX bY))]⟩),(2,⟨34,[aj bt,.sv (slc 1 (List.map aX bp))]⟩)] []) (λh=>?_) (λj5 h=>?_);cases z6;exact fs<|⟨(),(F h),wR []⟩;refine cT<|sr<|mv Y<|mv Y<|lE (V h) λmG uu h=>ad _ Y Y uu<|ag Y<|dn<|sr<|mv Y<|mv Y<|lE h λiM nL h=>RT.xor .none _ Y Y T nL<|mv Y<|mv Y<|lE h λir nn h=>RT.xor .none _ Y Y T nn<|lE h λm6 wh h=>RT.and .none _ Y Y T wh<|lE h λmK ri h=>ge _ Y Y ri<|dn ?_;cases mK;exact fs<|⟨(),(F h),wR []⟩;refine cT<|sr<|mv Y ?_;obtain⟨⟨qY,qZ⟩,yE,h⟩:=bS (V h);refine cl (dA yE) ⟨Y,aq⟩<|so Y Y Y<|dn<|bf<|aV.r<|aV.r ?_;obtain rfl:=O h;exact RZ (.agg Y Y (.k2 Y Y) Y (.nil))
 try dsimp only
 refine aV.n<|qq<|bh mixed<|fa Y Y<|lV Y Y Y<|fa Y Y<|lV Y Y Y<|bE h λv8 Hp h=>cl (bV Hp) ⟨Y,aq⟩<|fa Y Y<|lV Y Y Y<|fa Y Y<|lV Y Y Y<|bE h λqV h46 h=>cl (bV h46) ⟨Y,aq⟩ ?_;obtain⟨⟨E7,E8⟩,BL,h⟩:=bS h;refine cl (nq BL) ⟨Y,Y,Y,Y,aq⟩<|so Y Y Y ?_;refine RT.done ⟨by kernel_rfl,?_⟩;refine aV.n<|bf ?_;obtain rfl:=O h;exact RZ (.agg Y Y (.k2 Y Y) Y (.nil))
theorem Dz{x0:Zr}{x1:Zr}{r:Zr}(h:lM x0 x1=some r):Pure ah 129 [.agg (eZ x0),.agg (eZ x1)] (.agg (eZ r)):=by
 obtain⟨bt,bp⟩:=x0;obtain⟨cc,bY⟩:=x1;refine aZ Tryz.func129 Y (af Y) (λdI M vs hvs=>?_);unfold lM at h;refine sr<|bx Y<|bx Y<|al (cs:=[az false,ax]) (by exact⟨au,aB,aq⟩) Y<|dn<|sr<|ld Y Y (.k2 Y Y) ?_;obtain⟨⟨BF,Hh⟩,fP,h⟩:=bS h;refine cl (fG fP) ⟨Y,aq⟩<|mv Y<|ex Y Y<|ex Y Y<|ag Y<|ag Y<|dn<|sr<|ld Y Y (.k2 Y Y) ?_;obtain⟨⟨Dq,Hi⟩,lj,h⟩:=bS h;refine cl (fG lj) ⟨Y,aq⟩<|mv Y<|ex Y Y<|ex Y Y<|ag Y<|ag Y<|dn<|qq<|qq ?_;refine bC h (λj3=>AS.cq 49 [(2,.ptr 2 0),(3,.ptr 3 0),(4,.ptr 4 0),(5,ai BF),(7,ai Dq),(23,aj j3)] [(4,⟨34,[aj false,.sv ax]⟩),(3,⟨34,[aj cc,.sv (slc 1 (List.map aX bY))]⟩),(2,⟨34,[aj bt,.sv (slc 1 (List.map aX bp))]⟩)] []) (λh=>?_) (λz6 h=>?_);refine aW<|mv Y<|mv Y<|bE h λE9 xN h=>?_;cases Hh;obtain rfl:=O (F xN);exact ww<|pF Y<|dn<|⟨false,h,wR []⟩;refine gm Y ?_;obtain rfl:=O (V xN);exact pT Y<|dn<|⟨Hi,h,wR []⟩
 try dsimp only
 refine aV.n ?_;refine bC h (λj5=>AS.cq 49 [(2,.ptr 2 0),(3,.ptr 3 0),(4,.ptr 4 0)] [(4,⟨34,[aj false,.sv ax]⟩),(3,⟨34,[aj cc,.sv (slc 1 (List.map aX bY))]⟩),(2,⟨34,[aj bt,.sv (slc 1 (List.map aX bp))]⟩)] []) (λh=>?_) (λj5 h=>?_);cases z6;exact fs<|⟨(),(F h),wR []⟩;refine cT<|sr<|mv Y<|mv Y<|lE (V h) λmG uu h=>sb _ Y Y uu<|ag Y<|dn<|sr<|mv Y<|mv Y<|lE h λiM nL h=>RT.xor .none _ Y Y T nL<|mv Y<|mv Y<|lE h λir nn h=>RT.xor .none _ Y Y T nn<|lE h λm6 wh h=>RT.and .none _ Y Y T wh<|lE h λmK ri h=>ge _ Y Y ri<|dn ?_;cases mK;exact fs<|⟨(),(F h),wR []⟩;refine cT<|sr<|mv Y ?_;obtain⟨⟨qY,qZ⟩,yE,h⟩:=bS (V h);refine cl (dA yE) ⟨Y,aq⟩<|so Y Y Y<|dn<|bf<|aV.r<|aV.r ?_;obtain rfl:=O h;exact RZ (.agg Y Y (.k2 Y Y) Y (.nil))
 try dsimp only
 refine aV.n<|qq<|bh mixed<|fa Y Y<|lV Y Y Y<|fa Y Y<|lV Y Y Y<|bE h λv8 Hp h=>cl (bV Hp) ⟨Y,aq⟩<|fa Y Y<|lV Y Y Y<|lE h λBC Hr h=>nt Y _ Hr<|fa Y Y<|lV Y Y Y<|bE h λxH BL h=>cl (bV BL) ⟨Y,aq⟩ ?_;obtain⟨⟨Q8,Q9⟩,h48,h⟩:=bS h;refine cl (nq h48) ⟨Y,Y,Y,Y,aq⟩<|so Y Y Y ?_;refine RT.done ⟨by kernel_rfl,?_⟩;refine aV.n<|bf ?_;obtain rfl:=O h;exact RZ (.agg Y Y (.k2 Y Y) Y (.nil))
theorem ep{x0:Zr}{x1:Zr}{r:Zr}(h:di x0 x1=some r):Pure ah 84 [.agg (eZ x0),.agg (eZ x1)] (.agg (eZ r)):=by
 obtain⟨bt,bp⟩:=x0;obtain⟨cc,bY⟩:=x1;refine aZ Tryz.func84 Y (af Y) (λdI M vs hvs=>?_);unfold di at h;refine sr<|bx Y<|bx Y<|al (cs:=[az false,ax]) (by exact⟨au,aB,aq⟩) Y<|dn<|qq<|bh mixed<|fa Y Y<|lV Y Y Y<|bE h λx9 h9 h=>cl (bV h9) ⟨Y,aq⟩<|fa Y Y<|lV Y Y Y<|bE h λdg fP h=>cl (bV fP) ⟨Y,aq⟩<|ag Y<|ag Y ?_;refine RT.done ⟨by kernel_rfl,?_⟩;refine aV.n<|qq<|qq ?_;refine bC h (λj3=>AS.cq 41 [(2,.ptr 2 0),(3,.ptr 3 0),(4,.ptr 4 0),(5,.sv (slc 1 (List.map aX x9))),(6,.sv (slc 1 (List.map aX dg))),(20,aj j3)] [(4,⟨34,[aj false,.sv ax]⟩),(3,⟨34,[aj cc,.sv (slc 1 (List.map aX bY))]⟩),(2,⟨34,[aj bt,.sv (slc 1 (List.map aX bp))]⟩)] []) (λh=>?_) (λLX h=>?_);refine aW<|mv Y<|lE h λdO jh h=>ln Y jh<|lE h λeM jL h=>RT.leq .none _ Y Y T jL<|mv Y<|bE h λRc sE h=>?_;cases eM;obtain rfl:=O (F sE);exact ww<|ww<|ww<|pF Y<|dn<|⟨false,h,wR []⟩;refine gm Y<|lE (V sE) λfK kR sE=>gn Y kR<|lE sE λjU mM sE=>RT.leq (.some Y Y) _ Y Y T mM ?_;obtain rfl:=O sE;exact pT Y<|dn<|⟨jU,h,wR []⟩
 try dsimp only
 refine aV.n ?_;cases LX;refine fs<|qq<|bh mixed<|fa Y Y<|lV Y Y Y<|fa Y Y<|lV Y Y Y<|lE (F h) λuO yE h=>RT.wA .none _ Y Y T yE<|mv Y<|mv Y<|bE h λqD BM h=>cl (vo BM) ⟨Y,Y,aq⟩ ?_;obtain⟨⟨xJ,xK⟩,tK,h⟩:=bS h;refine cl (eG tK) ⟨Y,Y,aq⟩<|so Y Y Y ?_;refine RT.done ⟨by kernel_rfl,?_⟩;refine aV.n<|bf ?_;obtain rfl:=O h;exact RZ (.agg Y Y (.k2 Y Y) Y (.nil));refine cT<|qq<|bh mixed<|fa Y Y<|lV Y Y Y<|fa Y Y<|lV Y Y Y<|lE (V h) λnK qE h=>RT.wA .none _ Y Y T qE<|mv Y<|bE h λgx m7 h=>cl (g9 m7) ⟨Y,aq⟩<|mv Y<|bE h λiM nL h=>cl (g9 nL) ⟨Y,aq⟩<|lE h λwN BJ h=>RT.mul .none _ Y Y T (UK.mul (a:=gx) (b:=iM) BJ) ?_;obtain⟨⟨Ra,Rb⟩,Bm,h⟩:=bS h;refine cl (iT Bm) ⟨Y,Y,aq⟩<|so Y Y Y ?_;refine RT.done ⟨by kernel_rfl,?_⟩;refine aV.n<|bf<|aV.r ?_;obtain rfl:=O h;exact RZ (.agg Y Y (.k2 Y Y) Y (.nil))
theorem kq{x0:Zr}{r:Zr}(h:fO x0=some r):Pure ah 95 [.agg (eZ x0)] (.agg (eZ r)):=by
 obtain⟨bt,bp⟩:=x0;refine aZ Tryz.func95 Y (af Y) (λdI M vs hvs=>?_);unfold fO at h;refine sr<|bx Y<|al (cs:=[az false,ax]) (by exact⟨au,aB,aq⟩) Y<|dn<|qq<|bh mixed<|fa Y Y<|lV Y Y Y<|lE h λx5 h5 h=>nt Y _ h5<|fa Y Y<|lV Y Y Y<|bE h λx8 h8 h=>cl (bV h8) ⟨Y,aq⟩<|bE h λx9 h9 h=>cl (mu h9) ⟨Y,aq⟩ ?_;obtain⟨⟨xL,xM⟩,fY,h⟩:=bS h;refine cl (eG fY) ⟨Y,Y,aq⟩<|so Y Y Y ?_;refine RT.done ⟨by kernel_rfl,?_⟩;refine aV.n<|bf ?_;obtain rfl:=O h;exact RZ (.agg Y Y (.k2 Y Y) Y (.nil))
theorem eu{x0:Zr}{r:Int}(h:cA x0=some r):Pure ah 64 [.agg (eZ x0)] (ay r):=by
 obtain⟨bt,bp⟩:=x0;refine aZ Tryz.func64 Y (af Y) (λdI M vs hvs=>?_);unfold cA at h;refine sr<|bx Y<|ag Y<|dn<|qq<|bj<|sr<|fa Y Y<|lV Y Y Y<|bE h λx6 h6 h=>cl (bV h6) ⟨Y,aq⟩<|lE h λx7 h7 h=>ln Y h7<|lE h λx8 h8 h=>eq _ Y Y (o9 (p:=x7) (q:=0) h8)<|ag Y<|dn ?_;cases x8;refine cF<|sr<|fa Y Y<|lV Y Y Y<|ag Y<|dn ?_;replace h:=F h;cases bt;refine cF<|bu<|bw.n<|aV.n<|sr<|ag Y<|dn<|bf ?_;obtain rfl:=O (F h);exact R1 Y;refine cT<|sr<|ag Y<|dn<|bf<|bw.r<|aV.r ?_;obtain rfl:=O (V h);exact R1 Y;refine cT<|sr<|ag Y<|dn<|bf<|bw.r<|aV.r ?_;obtain rfl:=O (V h);exact R1 Y
theorem DA{x0:Zr}{x1:Zr}{r:Int}(h:lN x0 x1=some r):Pure ah 83 [.agg (eZ x0),.agg (eZ x1)] (ay r):=by
 obtain⟨bt,bp⟩:=x0;obtain⟨cc,bY⟩:=x1;refine aZ Tryz.func83 Y (af Y) (λdI M vs hvs=>?_);unfold lN at h;refine sr<|bx Y<|bx Y<|ag Y<|dn<|qq<|bh mixed<|ld Y Y (.k2 Y Y)<|bE h λx8 h8 h=>cl (eu h8) ⟨Y,aq⟩<|ld Y Y (.k2 Y Y)<|bE h λdK fY h=>cl (eu fY) ⟨Y,aq⟩<|ag Y<|ag Y ?_;refine RT.done ⟨by kernel_rfl,?_⟩;refine aV.n<|qq<|bj<|sr<|mv Y<|mv Y<|lE h λdO jh h=>ls _ Y Y jh<|ag Y<|dn ?_;cases dO;refine cF<|sr<|mv Y<|mv Y<|lE (F h) λfK kR h=>gt _ Y Y kR<|ag Y<|dn ?_;cases fK;refine cF<|sr<|mv Y<|lE (F h) λfZ my h=>ls _ Y Y my<|ag Y<|dn ?_;cases fZ;refine cF<|bu<|bw.n<|aV.n<|qq<|bh mixed<|fa Y Y<|lV Y Y Y<|bE (F h) λql Bm h=>cl (bV Bm) ⟨Y,aq⟩<|fa Y Y<|lV Y Y Y<|bE h λmK ri h=>cl (bV ri) ⟨Y,aq⟩<|bE h λsu BK h=>cl (fI BK) ⟨Y,Y,aq⟩<|ag Y ?_;refine RT.done ⟨by kernel_rfl,?_⟩;refine aV.n<|bf ?_;obtain rfl:=O h;exact R1 Y;refine cT<|qq<|bh mixed<|fa Y Y<|lV Y Y Y<|bE (V h) λgU oG h=>cl (bV oG) ⟨Y,aq⟩<|fa Y Y<|lV Y Y Y<|bE h λgx m7 h=>cl (bV m7) ⟨Y,aq⟩<|bE h λmm sZ h=>cl (fI sZ) ⟨Y,Y,aq⟩<|ag Y ?_;refine RT.done ⟨by kernel_rfl,?_⟩;refine aV.n<|bf<|bw.r<|aV.r ?_;obtain rfl:=O h;exact R1 Y;refine cT<|sr<|ag Y<|dn<|bf<|bw.r<|aV.r ?_;obtain rfl:=O (V h);exact R1 Y;refine cT<|sr<|ag Y<|dn<|bf<|bw.r<|aV.r ?_
 obtain rfl:=O (V h);exact R1 Y
theorem qm{x0:Zr}{x1:Zr}{r:Zr×Zr×Int}(h:eF x0 x1=some r):Pure ah 125 [.agg (eZ x0),.agg (eZ x1)] (.yy [.agg (eZ r.1),.agg (eZ r.2.1),ay r.2.2]):=by
 obtain⟨bt,bp⟩:=x0;obtain⟨cc,bY⟩:=x1;refine aZ Tryz.func125 Y (af Y) (λdI M vs hvs=>?_);unfold eF at h;refine sr<|bx Y<|bx Y<|al (cs:=[az false,ax]) (by exact⟨au,aB,aq⟩) Y<|al (cs:=[az false,ax]) (by exact⟨au,aB,aq⟩) Y<|ag Y<|dn<|qq<|bh mixed<|fa Y Y<|lV Y Y Y<|bE h λjz lf h=>cl (bV lf) ⟨Y,aq⟩<|fa Y Y<|lV Y Y Y ?_;refine bE h λeU iL h=>cl (bV iL) ⟨Y,aq⟩<|ag Y<|ag Y ?_;refine RT.done ⟨by kernel_rfl,?_⟩;refine aV.n<|qq<|sr<|mv Y<|lE h λfK kR h=>ln Y kR<|lE h λjU mM h=>eq _ Y Y (o9 (p:=fK) (q:=0) mM)<|dn ?_;cases jU;refine fs<|sr<|mv Y<|mv Y ?_;obtain⟨⟨z7,Dr⟩,qE,h⟩:=bS (F h);refine cl (nY qE) ⟨Y,Y,aq⟩<|mv Y<|ex Y Y<|ex Y Y<|ag Y<|ag Y<|dn<|sr<|mv Y<|bE h λiM nL h=>cl (bV nL) ⟨Y,aq⟩<|ag Y<|dn<|qq<|qq ?_;refine bC h (λj3=>AS.cq 52 [(2,.ptr 2 0),(3,.ptr 3 0),(4,.ptr 4 0),(5,.ptr 5 0),(8,.sv (slc 1 (List.map aX eU))),(9,.sv (slc 1 (List.map aX z7))),(10,.sv (slc 1 (List.map aX iM))),(36,aj j3.1)] [(5,⟨34,[aj false,.sv ax]⟩),(4,⟨34,[aj false,.sv ax]⟩),(3,⟨34,[aj cc,.sv (slc 1 (List.map aX bY))]⟩),(2,⟨34,[aj j3.2,.sv (slc 1 (List.map aX bp))]⟩)] []) (λh=>?_) (λj3 h=>?_);refine aW<|fa Y Y<|lV Y Y Y<|mv Y<|bE h λRd xN h=>?_;cases bt;obtain rfl:=O (F xN)
 exact ww<|ww<|ww<|pF Y<|dn<|⟨(false,false),h,wR []⟩;refine gm Y<|lE (V xN) λmK ri xN=>gn Y ri<|lE xN λsu BK xN=>gg _ Y Y BK ?_;obtain rfl:=O xN;exact pT Y<|dn<|⟨(su,true),h,wR []⟩;obtain⟨LY,ur⟩:=j3
 try dsimp only
 refine aV.n ?_;refine bC h (λj5=>AS.cq 52 [(2,.ptr 2 0),(3,.ptr 3 0),(4,.ptr 4 0),(5,.ptr 5 0),(9,.sv (slc 1 (List.map aX j5.1))),(10,.sv (slc 1 (List.map aX j5.2)))] [(5,⟨34,[aj false,.sv ax]⟩),(4,⟨34,[aj false,.sv ax]⟩),(3,⟨34,[aj cc,.sv (slc 1 (List.map aX bY))]⟩),(2,⟨34,[aj ur,.sv (slc 1 (List.map aX bp))]⟩)] []) (λh=>?_) (λj5 h=>?_);cases LY;exact fs<|⟨(z7,iM),(F h),wR []⟩;exact cT<|sr<|mv Y<|bl (l:=[1]) (e:=aX) (.one Y (.nil)) Y Y Y Y Y Y<|bE (V h) λqD BM h=>cl (nX BM) ⟨Y,Y,aq⟩<|ag Y<|dn<|aW<|mv Y<|mv Y<|bE h λug Fh h=>cl (kp Fh) ⟨Y,Y,aq⟩<|ag Y<|dn<|⟨(qD,ug),h,wR []⟩;obtain⟨LZ,Fa⟩:=j5
 try dsimp only
 refine aV.n<|sr<|fa Y Y<|lV Y Y Y<|fa Y Y<|lV Y Y Y<|lE h λxH BL h=>RT.wA .none _ Y Y T BL<|mv Y ?_;obtain⟨⟨Fb,Fe⟩,Ts,h⟩:=bS h;refine cl (eG Ts) ⟨Y,Y,aq⟩<|mv Y ?_;obtain⟨⟨Cs,Ct⟩,Pb,h⟩:=bS h;refine cl (eG Pb) ⟨Y,Y,aq⟩<|so Y Y Y<|so Y Y Y<|ag Y<|dn<|bf ?_;obtain rfl:=O h;exact RZ (.agg Y Y (.k2 Y Y) Y (.agg Y Y (.k2 Y Y) Y (.tmp Y (.nil))));refine cT<|sr<|bI (cs:=[_,_]) (cs':=[az false,ax]) (.nil) ⟨au,aB,aq⟩<|bI (cs:=[_,_]) (cs':=[az false,ax]) (.nil) ⟨au,aB,aq⟩<|so Y Y Y<|so Y Y Y<|ag Y<|dn<|bf<|aV.r ?_;obtain rfl:=O (V h);exact RZ (.agg Y Y (.k2 Y Y) Y (.agg Y Y (.k2 Y Y) Y (.tmp Y (.nil))))
theorem DB{x0:Zr}{x1:Zr}{r:Zr}(h:jV x0 x1=some r):Pure ah 124 [.agg (eZ x0),.agg (eZ x1)] (.agg (eZ r)):=by
 obtain⟨bt,bp⟩:=x0;obtain⟨cc,bY⟩:=x1;refine aZ Tryz.func124 Y (af Y) (λdI M vs hvs=>?_);unfold jV at h;refine sr<|bx Y<|bx Y<|al (cs:=[az false,ax]) (by exact⟨au,aB,aq⟩) Y<|dn<|qq<|bh mixed<|fa Y Y<|lV Y Y Y<|bE h λjz lf h=>cl (bV lf) ⟨Y,aq⟩<|fa Y Y<|lV Y Y Y<|bE h λeU iL h=>cl (bV iL) ⟨Y,aq⟩<|ag Y<|ag Y ?_;refine RT.done ⟨by kernel_rfl,?_⟩;refine aV.n<|qq<|bE h λOu L8 mO=>?_;refine bJ (λ(wW:(List Nat)×(List Nat))=>AS.cq 57 [(4,.ptr 4 0),(5,.sv (slc 1 (List.map aX wW.1))),(6,.sv (slc 1 (List.map aX wW.2)))] [(4,⟨34,[aj false,.sv ax]⟩)] []) (λwW=>wW=Ou) ?_ (λwW Tw=>?_);refine bj ?_;refine bK L8 (λGH=>AS.cq 57 [(4,.ptr 4 0),(5,.sv (slc 1 (List.map aX GH.1))),(6,.sv (slc 1 (List.map aX GH.2)))] [(4,⟨34,[aj false,.sv ax]⟩)] []) (wR []) (λGH y12 G12 h L9 Ma=>?_);obtain⟨J4,Ds⟩:=GH
 try dsimp only
 refine qq<|qq ?_;refine bC h (λj16=>AS.cq 57 [(4,.ptr 4 0),(5,.sv (slc 1 (List.map aX J4))),(6,.sv (slc 1 (List.map aX Ds))),(29,aj j16)] [(4,⟨34,[aj false,.sv ax]⟩)] []) (λh=>?_) (λHj h=>?_);refine aW<|mv Y<|lE h λfK kR h=>ln Y kR<|lE h λjU mM h=>gt _ Y Y mM<|mv Y<|bE h λL1 tf h=>?_;cases jU;obtain rfl:=O (F tf);exact ww<|ww<|ww<|ww<|wu<|wu<|wu<|ww<|pF Y<|dn<|⟨false,h,wR []⟩;refine gm Y<|lE (V tf) λiB nm tf=>gn Y nm<|lE tf λiC oR tf=>gg _ Y Y oR<|gm Y<|bE tf λL0 Ae tf=>?_;cases iC;refine gm Y<|lE (F Ae) λmG uu Ae=>gn Y uu<|lE Ae λgx m7 Ae=>gg _ Y Y m7 ?_;obtain rfl:=O Ae;refine gF Y ?_;obtain rfl:=O tf;exact pT Y<|dn<|⟨gx,h,wR []⟩;obtain rfl:=O (V Ae);refine ww<|ww<|ww<|gT Y ?_;obtain rfl:=O tf;exact pT Y<|dn<|⟨true,h,wR []⟩
 try dsimp only
 refine aV.n ?_;cases Hj;refine cF<|bN<|aV.x<|aV.x<|bw.x<|aV.n ?_;obtain rfl:=O (F h);exact⟨(J4,Ds),Ma _ Y,wR []⟩;refine cT<|bu<|aV.n<|bj<|sr<|mv Y<|mv Y ?_;obtain⟨⟨aaS,WB⟩,wh,h⟩:=bS (V h);refine cl (nY wh) ⟨Y,Y,aq⟩<|mv Y<|ex Y Y<|ex Y Y<|ag Y<|ag Y<|dn<|aW<|mv Y<|mv Y<|bE h λxG Ho h=>cl (bV Ho) ⟨Y,aq⟩<|ag Y<|ag Y<|RT.done<|bw.n ?_;obtain rfl:=O h;exact aV.n ⟨(Ds,xG),L9 _ Y,wR []⟩;subst Tw;obtain⟨L2,L3⟩:=wW
 try dsimp only
 refine aV.n<|qq<|sr<|mv Y<|lE mO λmL tK mO=>ln Y tK<|lE mO λv8 Hp mO=>eq _ Y Y (o9 (p:=mL) (q:=0) Hp)<|dn ?_;cases v8;refine fs<|sr<|mv Y<|bE (F mO) λqV h46 mO=>cl (g9 h46) ⟨Y,aq⟩<|mv Y<|bE mO λBA h48 mO=>cl (g9 h48) ⟨Y,aq⟩<|ag Y<|ag Y<|dn<|qq<|bE mO λe24 abK TE=>?_;refine bJ (λ(Cv:Nat)=>AS.cq 57 [(4,.ptr 4 0),(9,.sv (.v (.int .u64 ((Cv:Nat):Int))))] [(4,⟨34,[aj false,.sv ax]⟩)] []) (λCv=>Cv=e24) ?_ (λCv abL=>?_);refine bj ?_;refine bK abK (λVr=>AS.cq 57 [(4,.ptr 4 0),(9,.sv (.v (.int .u64 ((Vr.1:Nat):Int)))),(10,.sv (.v (.int .u64 ((Vr.2:Nat):Int))))] [(4,⟨34,[aj false,.sv ax]⟩)] []) (wR []) (λVr y24 G24 h abM abN=>?_);obtain⟨IF,wQ⟩:=Vr
 try dsimp only
 refine qq<|sr<|mv Y<|lE h λBk L7 h=>gt _ Y Y (Yv (p:=0) (q:=wQ) L7)<|dn ?_;cases Bk;refine cF<|bN<|aV.x<|aV.x<|bw.x<|aV.n ?_;obtain rfl:=O (F h);exact⟨IF,abN _ Y,wR []⟩;refine cT<|bu<|aV.n<|bj<|bh mixed<|mv Y<|mv Y<|mv Y<|bE (V h) λFg IG h=>RT.rem .none _ Y Y T (Yw IG) (OX IG)<|ag Y<|ag Y ?_;refine RT.done ⟨by kernel_rfl,?_⟩;refine bw.n ?_;obtain rfl:=O h;exact aV.n ⟨(wQ,Fg),abM _ Y,wR []⟩;subst abL
 try dsimp only
 refine aV.n<|sr<|mv Y ?_;obtain⟨⟨Re,Rf⟩,Tt,TE⟩:=bS TE;refine cl (iT Tt) ⟨Y,Y,aq⟩<|so Y Y Y<|dn<|bf ?_;obtain rfl:=O TE;exact RZ (.agg Y Y (.k2 Y Y) Y (.nil));refine cT<|sr<|mv Y<|bE (V mO) λCp KN mO=>cl (mu KN) ⟨Y,aq⟩ ?_;obtain⟨⟨Cu,Ff⟩,Hr,mO⟩:=bS mO;refine cl (eG Hr) ⟨Y,Y,aq⟩<|so Y Y Y<|dn<|bf<|aV.r ?_;obtain rfl:=O mO;exact RZ (.agg Y Y (.k2 Y Y) Y (.nil))
end
section
open Go.Fw
noncomputable def gz(x0:Zr)(x1:Zr)(x2:Zr)(x3:Zr):Option (Zr×Zr):=match x0 with|⟨bt,bp⟩=>match x1 with|⟨cc,bY⟩=>match x2 with|⟨kS,kT⟩=>match x3 with|⟨BN,BO⟩=>(di ⟨bt,bp⟩ ⟨BN,BO⟩).bind λ⟨jA,jq⟩=>(di ⟨kS,kT⟩ ⟨cc,bY⟩).bind λ⟨rz,rD⟩=>(lK ⟨jA,jq⟩ ⟨rz,rD⟩).bind λ⟨iQ,iS⟩=>(di ⟨cc,bY⟩ ⟨BN,BO⟩).bind λ⟨qo,qp⟩=>some (⟨iQ,iS⟩,⟨qo,qp⟩)
noncomputable def gA(x0:Zr)(x1:Zr)(x2:Zr)(x3:Zr):Option (Zr×Zr):=match x0 with|⟨bt,bp⟩=>match x1 with|⟨cc,bY⟩=>match x2 with|⟨kS,kT⟩=>match x3 with|⟨BN,BO⟩=>(di ⟨bt,bp⟩ ⟨BN,BO⟩).bind λ⟨jA,jq⟩=>(di ⟨kS,kT⟩ ⟨cc,bY⟩).bind λ⟨rz,rD⟩=>(lM ⟨jA,jq⟩ ⟨rz,rD⟩).bind λ⟨iQ,iS⟩=>(di ⟨cc,bY⟩ ⟨BN,BO⟩).bind λ⟨qo,qp⟩=>some (⟨iQ,iS⟩,⟨qo,qp⟩)
noncomputable def gB(x0:Zr)(x1:Zr)(x2:Zr)(x3:Zr):Option (Zr×Zr):=match x0 with|⟨bt,bp⟩=>match x1 with|⟨cc,bY⟩=>match x2 with|⟨kS,kT⟩=>match x3 with|⟨BN,BO⟩=>(di ⟨bt,bp⟩ ⟨kS,kT⟩).bind λ⟨jA,jq⟩=>(di ⟨cc,bY⟩ ⟨BN,BO⟩).bind λ⟨rz,rD⟩=>some (⟨jA,jq⟩,⟨rz,rD⟩)
noncomputable def c6(x0:Qr):Option (Zr×Zr):=match x0 with|⟨⟨bt,bp⟩,⟨bD,bG⟩⟩=>(cA ⟨bD,bG⟩).bind λx6=>(some (decide ((x6:Int)=0))).bind λx8=>(bif x8 then(bW 1).bind λ⟨Rh,Ri⟩=>some (⟨bt,bp⟩,⟨Rh,Ri⟩)else(some (decide ((x6:Int)=(-1)))).bind λjz=>(bif jz then(fO ⟨bt,bp⟩).bind λ⟨iQ,iS⟩=>(fO ⟨bD,bG⟩).bind λ⟨qo,qp⟩=>some (⟨iQ,iS⟩,⟨qo,qp⟩)else some (⟨bt,bp⟩,⟨bD,bG⟩)))
noncomputable def fk(x0:Zr)(x1:Zr):Option (Qr):=match x0 with|⟨bt,bp⟩=>match x1 with|⟨cc,bY⟩=>(cA ⟨cc,bY⟩).bind λx9=>(some (decide ((x9:Int)<0))).bind λdK=>cm (λ(j2:Bool×(List Nat)×Bool×(List Nat))=>match j2 with|⟨Hs,Ht,Hu,Hv⟩=>(jV ⟨Hu,Hv⟩ ⟨Hs,Ht⟩).bind λ⟨nZ,n5⟩=>(eF ⟨Hu,Hv⟩ ⟨nZ,n5⟩).bind λ⟨⟨rE,rF⟩,⟨TF,TG⟩,abO⟩=>(eF ⟨Hs,Ht⟩ ⟨nZ,n5⟩).bind λ⟨⟨Af,Ag⟩,⟨TH,TI⟩,abP⟩=>(cW ⟨Af,Ag⟩).bind λ⟨TJ,TK⟩=>cm (λ(Mg:Bool)=>cm (λ(j7:Bool×(List Nat))=>match j7 with|⟨Hw,Hx⟩=>some ⟨⟨rE,rF⟩,⟨Hw,Hx⟩⟩) λK7=>(bif Mg then K7 (false,[])else K7 (Af,Ag))) λK5=>(bif TK then(some (decide ((TJ:Int)=1))).bind λmL=>some mL else some false).bind λRj=>K5 Rj) λK2=>(bif dK then(fO ⟨bt,bp⟩).bind λ⟨jA,jq⟩=>(fO ⟨cc,bY⟩).bind λ⟨Ah,Ai⟩=>K2 (Ah,Ai,jA,jq)else K2 (cc,bY,bt,bp))
noncomputable def dP(x0:Qr):Option (Int×Int×Bool):=match x0 with|⟨⟨bt,bp⟩,⟨bD,bG⟩⟩=>(cW ⟨bt,bp⟩).bind λ⟨DC,Ka⟩=>(cW ⟨bD,bG⟩).bind λ⟨BP,WV⟩=>cm (λ(Hy:Bool)=>(bif Hy then some (0,0,false)else(some (decide ((BP:Int)=0))).bind λCp=>cm (λ(Vs:Int×Int)=>match Vs with|⟨Rk,Rl⟩=>some (Rk,Rl,true)) λK24=>(bif Cp then K24 (DC,1)else(some (decide ((BP:Int)<0))).bind λqV=>cm (λ(Vt:Int×Int)=>match Vt with|⟨Mh,Mi⟩=>K24 (Mh,Mi)) λK26=>(bif qV then(some (IntKind.i64.wrap (0-DC))).bind λBA=>(some (IntKind.i64.wrap (0-BP))).bind λBk=>K26 (BA,Bk)else K26 (DC,BP))))) λK21=>(some (!Ka)).bind λjw=>(bif jw then some true else(some (!WV)).bind λiC=>some iC).bind λMj=>(bif Mj then some true else(some (decide ((DC:Int)<=(-2147483648)))).bind λgx=>some gx).bind λTL=>(bif TL then some true else(some (decide ((2147483648:Int)<=DC))).bind λql=>some ql).bind λTM=>(bif TM then some true else(some (decide ((BP:Int)<=(-2147483648)))).bind λsu=>some su).bind λTN=>(bif TN then some true else(some (decide ((2147483648:Int)<=BP))).bind λqD=>some qD).bind λTO=>K21 TO
noncomputable def fQ(x0:Int)(x1:Int):Option (Qr):=(b8 (λ(s6:Int×Int)=>match s6 with|⟨mh,qF⟩=>(show Option ((Int×Int)⊕(Int))from(some (decide ((qF:Int)≠0))).bind λdK=>(bif dK then(Bv mh qF).bind λdO=>some (.inl (qF,dO))else some (.inr mh)))) (x0,x1)).bind λtg=>(some (decide ((tg:Int)<0))).bind λeU=>cm (λ(Kb:Int)=>(some (decide ((Kb:Int)=x1))).bind λfZ=>(bif fZ then(qB x0 Kb).bind λgU=>(bW gU).bind λ⟨xI,vk⟩=>some ⟨⟨xI,vk⟩,⟨false,[]⟩⟩else(qB x0 Kb).bind λiM=>(bW iM).bind λ⟨vm,vn⟩=>(qB x1 Kb).bind λm6=>(bW m6).bind λ⟨Mk,Ml⟩=>some ⟨⟨vm,vn⟩,⟨Mk,Ml⟩⟩)) λK8=>(bif eU then(some (IntKind.i64.wrap (0-tg))).bind λfK=>K8 fK else K8 tg)
noncomputable def n6(x0:Int):Option (Int):=(some (decide ((x0:Int)<0))).bind λx5=>(bif x5 then some (-1)else(some (decide ((0:Int)<x0))).bind λx8=>(bif x8 then some 1 else some 0))
noncomputable def iU(x1:Qr)(x2:Qr):Option (Qr):=match x1 with|⟨⟨cc,bY⟩,⟨iv,iw⟩⟩=>match x2 with|⟨⟨kS,kT⟩,⟨pO,pP⟩⟩=>(c6 ⟨⟨cc,bY⟩,⟨iv,iw⟩⟩).bind λ⟨⟨jt,ju⟩,⟨mz,mA⟩⟩=>(c6 ⟨⟨kS,kT⟩,⟨pO,pP⟩⟩).bind λ⟨⟨hG,ia⟩,⟨ku,kx⟩⟩=>(gz ⟨jt,ju⟩ ⟨mz,mA⟩ ⟨hG,ia⟩ ⟨ku,kx⟩).bind λ⟨⟨rG,rH⟩,⟨rI,rJ⟩⟩=>(fk ⟨rG,rH⟩ ⟨rI,rJ⟩).bind λ⟨⟨tJ,qX⟩,⟨xO,xP⟩⟩=>some ⟨⟨tJ,qX⟩,⟨xO,xP⟩⟩
noncomputable def iV(x1:Qr)(x2:Qr):Option (Qr):=match x1 with|⟨⟨cc,bY⟩,⟨iv,iw⟩⟩=>match x2 with|⟨⟨kS,kT⟩,⟨pO,pP⟩⟩=>(c6 ⟨⟨cc,bY⟩,⟨iv,iw⟩⟩).bind λ⟨⟨jt,ju⟩,⟨mz,mA⟩⟩=>(c6 ⟨⟨kS,kT⟩,⟨pO,pP⟩⟩).bind λ⟨⟨hG,ia⟩,⟨ku,kx⟩⟩=>(gA ⟨jt,ju⟩ ⟨mz,mA⟩ ⟨hG,ia⟩ ⟨ku,kx⟩).bind λ⟨⟨rG,rH⟩,⟨rI,rJ⟩⟩=>(fk ⟨rG,rH⟩ ⟨rI,rJ⟩).bind λ⟨⟨tJ,qX⟩,⟨xO,xP⟩⟩=>some ⟨⟨tJ,qX⟩,⟨xO,xP⟩⟩
noncomputable def iW(x1:Qr)(x2:Qr):Option (Qr):=match x1 with|⟨⟨cc,bY⟩,⟨iv,iw⟩⟩=>match x2 with|⟨⟨kS,kT⟩,⟨pO,pP⟩⟩=>(c6 ⟨⟨cc,bY⟩,⟨iv,iw⟩⟩).bind λ⟨⟨jt,ju⟩,⟨mz,mA⟩⟩=>(c6 ⟨⟨kS,kT⟩,⟨pO,pP⟩⟩).bind λ⟨⟨hG,ia⟩,⟨ku,kx⟩⟩=>(gB ⟨jt,ju⟩ ⟨mz,mA⟩ ⟨hG,ia⟩ ⟨ku,kx⟩).bind λ⟨⟨rG,rH⟩,⟨rI,rJ⟩⟩=>(fk ⟨rG,rH⟩ ⟨rI,rJ⟩).bind λ⟨⟨tJ,qX⟩,⟨xO,xP⟩⟩=>some ⟨⟨tJ,qX⟩,⟨xO,xP⟩⟩
noncomputable def c7(x0:Int):Option (Qr):=(bW x0).bind λ⟨mP,mQ⟩=>some ⟨⟨mP,mQ⟩,⟨false,[]⟩⟩
noncomputable def c8(x0:Qr):Option (Qr):=match x0 with|⟨⟨bt,bp⟩,⟨bD,bG⟩⟩=>(dP ⟨⟨bt,bp⟩,⟨bD,bG⟩⟩).bind λ⟨x8a,x8b,x8c⟩=>(bif x8c then(fQ x8a x8b).bind λ⟨⟨rz,rD⟩,⟨Rm,Rn⟩⟩=>some ⟨⟨rz,rD⟩,⟨Rm,Rn⟩⟩else(c6 ⟨⟨bt,bp⟩,⟨bD,bG⟩⟩).bind λ⟨⟨Mm,Mn⟩,⟨Mo,Mp⟩⟩=>(fk ⟨Mm,Mn⟩ ⟨Mo,Mp⟩).bind λ⟨⟨Fj,Fk⟩,⟨Ro,Rp⟩⟩=>some ⟨⟨Fj,Fk⟩,⟨Ro,Rp⟩⟩)
noncomputable def iX(x0:Qr):Option (Int):=match x0 with|⟨⟨bt,bp⟩,⟨bD,bG⟩⟩=>(cA ⟨bD,bG⟩).bind λx5=>(some (decide ((x5:Int)<0))).bind λx6=>(bif x6 then(cA ⟨bt,bp⟩).bind λx9=>(some (IntKind.i64.wrap (0-x9))).bind λdK=>some dK else(cA ⟨bt,bp⟩).bind λjz=>some jz)
noncomputable def nu(x0:Qr)(x1:Qr):Option (Qr):=match x0 with|⟨⟨bt,bp⟩,⟨bD,bG⟩⟩=>match x1 with|⟨⟨cc,bY⟩,⟨iv,iw⟩⟩=>(dP ⟨⟨bt,bp⟩,⟨bD,bG⟩⟩).bind λ⟨Aj,th,Ak⟩=>(dP ⟨⟨cc,bY⟩,⟨iv,iw⟩⟩).bind λ⟨Al,wY,Am⟩=>cm (λ(rK:Bool)=>(bif rK then(some (IntKind.i64.wrap (Aj*wY))).bind λiM=>(some (IntKind.i64.wrap (Al*th))).bind λir=>(some (IntKind.i64.wrap (iM+ir))).bind λm6=>(some (IntKind.i64.wrap (th*wY))).bind λuO=>(fQ m6 uO).bind λ⟨⟨Fl,Fm⟩,⟨Fo,Fp⟩⟩=>some ⟨⟨Fl,Fm⟩,⟨Fo,Fp⟩⟩else(iU ⟨⟨bt,bp⟩,⟨bD,bG⟩⟩ ⟨⟨cc,bY⟩,⟨iv,iw⟩⟩).bind λ⟨⟨xJ,xK⟩,⟨Fq,Fs⟩⟩=>some ⟨⟨xJ,xK⟩,⟨Fq,Fs⟩⟩)) λK3=>(bif Ak then some Am else some false).bind λxQ=>K3 xQ
noncomputable def nv(x0:Qr)(x1:Qr):Option (Qr):=match x0 with|⟨⟨bt,bp⟩,⟨bD,bG⟩⟩=>match x1 with|⟨⟨cc,bY⟩,⟨iv,iw⟩⟩=>(dP ⟨⟨bt,bp⟩,⟨bD,bG⟩⟩).bind λ⟨Aj,th,Ak⟩=>(dP ⟨⟨cc,bY⟩,⟨iv,iw⟩⟩).bind λ⟨Al,wY,Am⟩=>cm (λ(rK:Bool)=>(bif rK then(some (IntKind.i64.wrap (Aj*wY))).bind λiM=>(some (IntKind.i64.wrap (Al*th))).bind λir=>(some (IntKind.i64.wrap (iM-ir))).bind λm6=>(some (IntKind.i64.wrap (th*wY))).bind λuO=>(fQ m6 uO).bind λ⟨⟨Fl,Fm⟩,⟨Fo,Fp⟩⟩=>some ⟨⟨Fl,Fm⟩,⟨Fo,Fp⟩⟩else(iV ⟨⟨bt,bp⟩,⟨bD,bG⟩⟩ ⟨⟨cc,bY⟩,⟨iv,iw⟩⟩).bind λ⟨⟨xJ,xK⟩,⟨Fq,Fs⟩⟩=>some ⟨⟨xJ,xK⟩,⟨Fq,Fs⟩⟩)) λK3=>(bif Ak then some Am else some false).bind λxQ=>K3 xQ
noncomputable def jM(x0:Qr)(x1:Qr):Option (Qr):=match x0 with|⟨⟨bt,bp⟩,⟨bD,bG⟩⟩=>match x1 with|⟨⟨cc,bY⟩,⟨iv,iw⟩⟩=>(dP ⟨⟨bt,bp⟩,⟨bD,bG⟩⟩).bind λ⟨Aj,th,Ak⟩=>(dP ⟨⟨cc,bY⟩,⟨iv,iw⟩⟩).bind λ⟨Al,wY,Am⟩=>cm (λ(rK:Bool)=>(bif rK then(some (IntKind.i64.wrap (Aj*Al))).bind λiM=>(some (IntKind.i64.wrap (th*wY))).bind λir=>(fQ iM ir).bind λ⟨⟨Rq,Rr⟩,⟨Rt,Ru⟩⟩=>some ⟨⟨Rq,Rr⟩,⟨Rt,Ru⟩⟩else(iW ⟨⟨bt,bp⟩,⟨bD,bG⟩⟩ ⟨⟨cc,bY⟩,⟨iv,iw⟩⟩).bind λ⟨⟨qY,qZ⟩,⟨Ft,Fu⟩⟩=>some ⟨⟨qY,qZ⟩,⟨Ft,Fu⟩⟩)) λK3=>(bif Ak then some Am else some false).bind λxQ=>K3 xQ
noncomputable def iY(x0:Qr):Option (Qr):=match x0 with|⟨⟨bt,bp⟩,⟨bD,bG⟩⟩=>(c8 ⟨⟨bt,bp⟩,⟨bD,bG⟩⟩).bind λ⟨⟨BQ,Fv⟩,⟨BR,DD⟩⟩=>(fO ⟨BQ,Fv⟩).bind λ⟨wZ,w5⟩=>some ⟨⟨wZ,w5⟩,⟨BR,DD⟩⟩
noncomputable def ga(x0:Qr)(x1:Qr):Option (Int):=match x0 with|⟨⟨bt,bp⟩,⟨bD,bG⟩⟩=>match x1 with|⟨⟨cc,bY⟩,⟨iv,iw⟩⟩=>(c6 ⟨⟨bt,bp⟩,⟨bD,bG⟩⟩).bind λ⟨⟨jt,ju⟩,⟨mz,mA⟩⟩=>(c6 ⟨⟨cc,bY⟩,⟨iv,iw⟩⟩).bind λ⟨⟨hG,ia⟩,⟨ku,kx⟩⟩=>(cA ⟨jt,ju⟩).bind λiB=>(cA ⟨hG,ia⟩).bind λgU=>cm (λ(Mq:Bool)=>(bif Mq then(some (IntKind.i64.wrap (iB-gU))).bind λmK=>(n6 mK).bind λsu=>some su else(di ⟨jt,ju⟩ ⟨ku,kx⟩).bind λ⟨Rv,Rw⟩=>(di ⟨hG,ia⟩ ⟨mz,mA⟩).bind λ⟨Rx,Ry⟩=>(lN ⟨Rv,Rw⟩ ⟨Rx,Ry⟩).bind λug=>some ug)) λK3=>(some (decide ((iB:Int)≠gU))).bind λgx=>(bif gx then some true else(some (decide ((iB:Int)=0))).bind λwN=>some wN).bind λRz=>K3 Rz
noncomputable def kz(x0:Qr)(x1:Qr):Option (Bool):=match x0 with|⟨⟨bt,bp⟩,⟨bD,bG⟩⟩=>match x1 with|⟨⟨cc,bY⟩,⟨iv,iw⟩⟩=>(ga ⟨⟨bt,bp⟩,⟨bD,bG⟩⟩ ⟨⟨cc,bY⟩,⟨iv,iw⟩⟩).bind λx7=>(some (decide ((x7:Int)=0))).bind λx8=>some x8
end
section
open Go.Fw Go.Fw.Z Go.RowKit
abbrev Mr:List (Value×Value):=[(.int .u8 43,.agg #[.func (.func 126) #[] #[]]),(.int .u8 45,.agg #[.func (.func 128) #[] #[]]),(.int .u8 42,.agg #[.func (.func 130) #[] #[]]),(.int .u8 47,.agg #[.func (.func 131) #[] #[]])]
theorem jN:Pure ah 102 [] (LC Mr):=by
 refine aZ Tryz.func102 Y (af Y) (λdI M vs hvs=>?_);refine bz<|aW<|RT.zG .none Y T<|RT.done<|aV.n<|bz<|O1 (af Y) Y Y Y (λS' h0=>?_);exact bf (R1 h0)
theorem rL{x0:Zr}{x1:Zr}{x2:Zr}{x3:Zr}{r:Zr×Zr}(h:gz x0 x1 x2 x3=some r):Pure ah 126 [.agg (eZ x0),.agg (eZ x1),.agg (eZ x2),.agg (eZ x3)] (.yy [.agg (eZ r.1),.agg (eZ r.2)]):=by
 obtain⟨bt,bp⟩:=x0;obtain⟨cc,bY⟩:=x1;obtain⟨kS,kT⟩:=x2;obtain⟨BN,BO⟩:=x3;refine aZ Tryz.func126 Y (af Y) (λdI M vs hvs=>?_);unfold gz at h;refine sr<|bx Y<|bx Y<|bx Y<|bx Y<|al (cs:=[az false,ax]) (by exact⟨au,aB,aq⟩) Y<|al (cs:=[az false,ax]) (by exact⟨au,aB,aq⟩) Y<|dn<|qq<|bh mixed<|ld Y Y (.k2 Y Y)<|ld Y Y (.k2 Y Y) ?_;obtain⟨⟨jA,jq⟩,fP,h⟩:=bS h;refine cl (ep fP) ⟨Y,Y,aq⟩<|ld Y Y (.k2 Y Y)<|ld Y Y (.k2 Y Y) ?_;obtain⟨⟨rz,rD⟩,jL,h⟩:=bS h;refine cl (ep jL) ⟨Y,Y,aq⟩ ?_;obtain⟨⟨iQ,iS⟩,iL,h⟩:=bS h;refine cl (Dy iL) ⟨Y,Y,aq⟩<|ld Y Y (.k2 Y Y)<|ld Y Y (.k2 Y Y) ?_;obtain⟨⟨qo,qp⟩,mM,h⟩:=bS h;refine cl (ep mM) ⟨Y,Y,aq⟩<|so Y Y Y<|so Y Y Y ?_;refine RT.done ⟨by kernel_rfl,?_⟩;refine aV.n<|bf ?_;obtain rfl:=O h;exact RZ (.agg Y Y (.k2 Y Y) Y (.agg Y Y (.k2 Y Y) Y (.nil)))
theorem rM{x0:Zr}{x1:Zr}{x2:Zr}{x3:Zr}{r:Zr×Zr}(h:gA x0 x1 x2 x3=some r):Pure ah 128 [.agg (eZ x0),.agg (eZ x1),.agg (eZ x2),.agg (eZ x3)] (.yy [.agg (eZ r.1),.agg (eZ r.2)]):=by
 obtain⟨bt,bp⟩:=x0;obtain⟨cc,bY⟩:=x1;obtain⟨kS,kT⟩:=x2;obtain⟨BN,BO⟩:=x3;refine aZ Tryz.func128 Y (af Y) (λdI M vs hvs=>?_);unfold gA at h;refine sr<|bx Y<|bx Y<|bx Y<|bx Y<|al (cs:=[az false,ax]) (by exact⟨au,aB,aq⟩) Y<|al (cs:=[az false,ax]) (by exact⟨au,aB,aq⟩) Y<|dn<|qq<|bh mixed<|ld Y Y (.k2 Y Y)<|ld Y Y (.k2 Y Y) ?_;obtain⟨⟨jA,jq⟩,fP,h⟩:=bS h;refine cl (ep fP) ⟨Y,Y,aq⟩<|ld Y Y (.k2 Y Y)<|ld Y Y (.k2 Y Y) ?_;obtain⟨⟨rz,rD⟩,jL,h⟩:=bS h;refine cl (ep jL) ⟨Y,Y,aq⟩ ?_;obtain⟨⟨iQ,iS⟩,iL,h⟩:=bS h;refine cl (Dz iL) ⟨Y,Y,aq⟩<|ld Y Y (.k2 Y Y)<|ld Y Y (.k2 Y Y) ?_;obtain⟨⟨qo,qp⟩,mM,h⟩:=bS h;refine cl (ep mM) ⟨Y,Y,aq⟩<|so Y Y Y<|so Y Y Y ?_;refine RT.done ⟨by kernel_rfl,?_⟩;refine aV.n<|bf ?_;obtain rfl:=O h;exact RZ (.agg Y Y (.k2 Y Y) Y (.agg Y Y (.k2 Y Y) Y (.nil)))
theorem rN{x0:Zr}{x1:Zr}{x2:Zr}{x3:Zr}{r:Zr×Zr}(h:gB x0 x1 x2 x3=some r):Pure ah 130 [.agg (eZ x0),.agg (eZ x1),.agg (eZ x2),.agg (eZ x3)] (.yy [.agg (eZ r.1),.agg (eZ r.2)]):=by
 obtain⟨bt,bp⟩:=x0;obtain⟨cc,bY⟩:=x1;obtain⟨kS,kT⟩:=x2;obtain⟨BN,BO⟩:=x3;refine aZ Tryz.func130 Y (af Y) (λdI M vs hvs=>?_);unfold gB at h;refine sr<|bx Y<|bx Y<|bx Y<|bx Y<|al (cs:=[az false,ax]) (by exact⟨au,aB,aq⟩) Y<|al (cs:=[az false,ax]) (by exact⟨au,aB,aq⟩) Y<|dn<|qq<|bh mixed<|ld Y Y (.k2 Y Y)<|ld Y Y (.k2 Y Y) ?_;obtain⟨⟨jA,jq⟩,fP,h⟩:=bS h;refine cl (ep fP) ⟨Y,Y,aq⟩<|ld Y Y (.k2 Y Y)<|ld Y Y (.k2 Y Y) ?_;obtain⟨⟨rz,rD⟩,jL,h⟩:=bS h;refine cl (ep jL) ⟨Y,Y,aq⟩<|so Y Y Y<|so Y Y Y ?_;refine RT.done ⟨by kernel_rfl,?_⟩;refine aV.n<|bf ?_;obtain rfl:=O h;exact RZ (.agg Y Y (.k2 Y Y) Y (.agg Y Y (.k2 Y Y) Y (.nil)))
theorem ew{x0:Qr}{r:Zr×Zr}(h:c6 x0=some r):Pure ah 81 [.agg (eQ x0)] (.yy [.agg (eZ r.1),.agg (eZ r.2)]):=by
 obtain⟨⟨bt,bp⟩,⟨bD,bG⟩⟩:=x0;refine aZ Tryz.func81 Y (af Y) (λdI M vs hvs=>?_);unfold c6 at h;refine sr<|bx Y<|al (cs:=[az false,ax]) (by exact⟨au,aB,aq⟩) Y<|al (cs:=[az false,ax]) (by exact⟨au,aB,aq⟩) Y<|dn<|qq<|sr<|fa Y Y<|ld Y Y (.k2 Y Y)<|bE h λx6 h6 h=>cl (eu h6) ⟨Y,aq⟩<|dn<|bj<|sr<|lE h λx8 h8 h=>eq _ Y Y (o9 (p:=x6) (q:=0) h8) ?_;refine ag Y<|dn ?_;cases x8;refine cF<|sr<|lE (F h) λjz lf h=>eq _ Y Y (o9 (p:=x6) (q:=(-1)) lf)<|ag Y<|dn ?_;cases jz;refine cF<|bu<|bw.n<|aV.n<|qq<|bh mixed<|fa Y Y<|ld Y Y (.k2 Y Y)<|fa Y Y<|ld Y Y (.k2 Y Y)<|so Y Y Y<|so Y Y Y ?_;refine RT.done ⟨by kernel_rfl,?_⟩;refine aV.n<|bf ?_;obtain rfl:=O (F h);exact RZ (.agg Y Y (.k2 Y Y) Y (.agg Y Y (.k2 Y Y) Y (.nil)));refine cT<|qq<|bh mixed<|fa Y Y<|ld Y Y (.k2 Y Y) ?_;obtain⟨⟨iQ,iS⟩,iL,h⟩:=bS (V h);refine cl (kq iL) ⟨Y,aq⟩<|fa Y Y<|ld Y Y (.k2 Y Y) ?_;obtain⟨⟨qo,qp⟩,mM,h⟩:=bS h;refine cl (kq mM) ⟨Y,aq⟩<|so Y Y Y<|so Y Y Y ?_;refine RT.done ⟨by kernel_rfl,?_⟩;refine aV.n<|bf<|bw.r<|aV.r ?_;obtain rfl:=O h;exact RZ (.agg Y Y (.k2 Y Y) Y (.agg Y Y (.k2 Y Y) Y (.nil)));refine cT<|qq<|bh mixed<|fa Y Y<|ld Y Y (.k2 Y Y) ?_;obtain⟨⟨Rh,Ri⟩,mw,h⟩:=bS (V h);refine cl (dA mw) ⟨Y,aq⟩<|so Y Y Y<|so Y Y Y ?_
 refine RT.done ⟨by kernel_rfl,?_⟩;refine aV.n<|bf<|bw.r<|aV.r ?_;obtain rfl:=O h;exact RZ (.agg Y Y (.k2 Y Y) Y (.agg Y Y (.k2 Y Y) Y (.nil)))
theorem kA{x0:Zr}{x1:Zr}{r:Qr}(h:fk x0 x1=some r):Pure ah 101 [.agg (eZ x0),.agg (eZ x1)] (.agg (eQ r)):=by
 obtain⟨bt,bp⟩:=x0;obtain⟨cc,bY⟩:=x1;refine aZ Tryz.func101 Y (af Y) (λdI M vs hvs=>?_);unfold fk at h;refine sr<|bx Y<|bx Y<|al (cs:=[az false,ax,az false,ax]) (by exact⟨au,aB,au,aB,aq⟩) Y<|dn<|qq<|sr<|ld Y Y (.k2 Y Y)<|bE h λx9 h9 h=>cl (eu h9) ⟨Y,aq⟩<|lE h λdK fY h=>ls _ Y Y fY<|dn ?_;refine bC h (λj2=>AS.cq 46 [(2,.ptr 2 0),(3,.ptr 3 0),(4,.ptr 4 0)] [(4,⟨36,[aj false,.sv ax,aj false,.sv ax]⟩),(3,⟨34,[aj j2.1,.sv (slc 1 (List.map aX j2.2.1))]⟩),(2,⟨34,[aj j2.2.2.1,.sv (slc 1 (List.map aX j2.2.2.2))]⟩)] []) (λh=>?_) (λj2 h=>?_);cases dK;exact fs<|⟨(cc,bY,bt,bp),(F h),wR []⟩;refine cT<|bh mixed<|ld Y Y (.k2 Y Y) ?_;obtain⟨⟨jA,jq⟩,fP,h⟩:=bS (V h);refine cl (kq fP) ⟨Y,aq⟩<|ld Y Y (.k2 Y Y) ?_;obtain⟨⟨Ah,Ai⟩,jh,h⟩:=bS h;refine cl (kq jh) ⟨Y,aq⟩<|so Y Y Y<|so Y Y Y ?_;refine RT.done ⟨by kernel_rfl,?_⟩;exact aV.n<|⟨(Ah,Ai,jA,jq),h,wR []⟩;obtain⟨Hs,Ht,Hu,Hv⟩:=j2
 try dsimp only
 refine aV.n<|sr<|ld Y Y (.k2 Y Y)<|ld Y Y (.k2 Y Y) ?_;obtain⟨⟨nZ,n5⟩,lj,h⟩:=bS h;refine cl (DB lj) ⟨Y,Y,aq⟩<|al (cs:=[az false,ax]) (by exact⟨au,aB,aq⟩) Y<|so Y Y Y<|dn<|sr<|ld Y Y (.k2 Y Y)<|ld Y Y (.k2 Y Y) ?_;obtain⟨⟨⟨rE,rF⟩,⟨TF,TG⟩,abO⟩,my,h⟩:=bS h;refine cl (qm my) ⟨Y,Y,aq⟩<|mv Y<|ex Y Y<|ex Y Y<|ex Y Y<|so Y Y Y<|dn<|sr<|ld Y Y (.k2 Y Y)<|ld Y Y (.k2 Y Y) ?_;obtain⟨⟨⟨Af,Ag⟩,⟨TH,TI⟩,abP⟩,sZ,h⟩:=bS h;refine cl (qm sZ) ⟨Y,Y,aq⟩<|mv Y<|ex Y Y<|ex Y Y<|ex Y Y<|so Y Y Y<|dn<|qq<|sr<|ld Y Y (.k2 Y Y) ?_;obtain⟨⟨TJ,TK⟩,ri,h⟩:=bS h;refine cl (fG ri) ⟨Y,aq⟩<|mv Y<|ex Y Y<|ex Y Y<|ag Y<|ag Y<|dn<|qq ?_;refine bC h (λj5=>AS.cq 46 [(2,.ptr 2 0),(3,.ptr 3 0),(4,.ptr 4 0),(41,aj j5)] [(4,⟨36,[aj false,.sv ax,aj false,.sv ax]⟩),(3,⟨34,[aj Af,.sv (slc 1 (List.map aX Ag))]⟩),(2,⟨34,[aj rE,.sv (slc 1 (List.map aX rF))]⟩)] []) (λh=>?_) (λMg h=>?_);refine aW<|mv Y<|mv Y<|bE h λRj Pc h=>?_;cases TK;obtain rfl:=O (F Pc);exact ww<|ww<|pF Y<|dn<|⟨false,h,wR []⟩;refine gm Y<|lE (V Pc) λmL tK Pc=>Co _ Y Y (o9 (p:=TJ) (q:=1) tK) ?_;obtain rfl:=O Pc;exact pT Y<|dn<|⟨mL,h,wR []⟩
 try dsimp only
 refine aV.n ?_;refine bC h (λj7=>AS.cq 46 [(2,.ptr 2 0),(3,.ptr 3 0),(4,.ptr 4 0)] [(4,⟨36,[aj false,.sv ax,aj false,.sv ax]⟩),(3,⟨34,[aj j7.1,.sv (slc 1 (List.map aX j7.2))]⟩),(2,⟨34,[aj rE,.sv (slc 1 (List.map aX rF))]⟩)] []) (λh=>?_) (λj7 h=>?_);cases Mg;exact fs<|⟨(Af,Ag),(F h),wR []⟩;exact cT<|aW<|bI (cs:=[_,_]) (cs':=[az false,ax]) (.nil) ⟨au,aB,aq⟩<|so Y Y Y<|dn<|⟨(false,[]),(V h),wR []⟩;obtain⟨Hw,Hx⟩:=j7
 try dsimp only
 refine aV.n<|sr<|ld Y Y (.k2 Y Y)<|ld Y Y (.k2 Y Y)<|bI (cs:=[_,_,_,_]) (cs':=[az rE,slc 1 (List.map aX rF),az Hw,slc 1 (List.map aX Hx)]) (.agg Y (.agg Y (.nil))) ⟨au,au,au,au,aq⟩<|so Y Y Y<|dn<|bf ?_;obtain rfl:=O h;exact RZ (.agg Y Y (.k4 Y Y Y Y) Y (.nil))
theorem gb{x0:Qr}{r:Int×Int×Bool}(h:dP x0=some r):Pure ah 65 [.agg (eQ x0)] (.yy [ay r.1,ay r.2.1,az r.2.2]):=by
 obtain⟨⟨bt,bp⟩,⟨bD,bG⟩⟩:=x0;refine aZ Tryz.func65 Y (af Y) (λdI M vs hvs=>?_);unfold dP at h;refine sr<|bx Y<|ag Y<|ag Y<|ag Y<|dn<|sr<|fa Y Y<|ld Y Y (.k2 Y Y) ?_;obtain⟨⟨DC,Ka⟩,fY,h⟩:=bS h;refine cl (fG fY) ⟨Y,aq⟩<|mv Y<|ex Y Y<|ex Y Y<|ag Y<|ag Y<|dn<|sr<|fa Y Y<|ld Y Y (.k2 Y Y) ?_;obtain⟨⟨BP,WV⟩,iL,h⟩:=bS h;refine cl (fG iL) ⟨Y,aq⟩<|mv Y<|ex Y Y<|ex Y Y<|ag Y<|ag Y<|dn<|qq<|qq ?_;refine bC h (λj21=>AS.cq 53 [(2,ai DC),(3,ai BP),(40,aj j21)] [] []) (λh=>?_) (λHy h=>?_);refine aW<|mv Y<|lE h λjw oQ h=>nt Y _ oQ<|mv Y<|bE h λMj Pd h=>?_;cases jw;refine gm Y<|lE (F Pd) λiC oR Pd=>gt_ Y _ oR ?_;obtain rfl:=O Pd;refine pF Y<|mv Y<|bE h λabR Pe h=>?_;cases iC;refine gm Y<|lE (F Pe) λgx m7 Pe=>RT.leq (.some Y Y) _ Y Y T m7 ?_;obtain rfl:=O Pe;refine pF Y<|mv Y<|bE h λabS Pf h=>?_;cases gx;refine gm Y<|lE (F Pf) λql Bm Pf=>RT.geq (.some Y Y) _ Y Y T Bm ?_;obtain rfl:=O Pf;refine pF Y<|mv Y<|bE h λabT Pg h=>?_;cases ql;refine gm Y<|lE (F Pg) λsu BK Pg=>RT.leq (.some Y Y) _ Y Y T BK ?_;obtain rfl:=O Pg;refine pF Y<|mv Y<|bE h λabU Ph h=>?_;cases su;refine gm Y<|lE (F Ph) λqD BM Ph=>RT.geq (.some Y Y) _ Y Y T BM ?_;obtain rfl:=O Ph;exact pF Y<|dn<|⟨qD,h,wR []⟩;obtain rfl:=O (V Ph)
 exact ww<|ww<|pT Y<|dn<|⟨true,h,wR []⟩;obtain rfl:=O (V Pg);refine ww<|ww<|pT Y<|mv Y<|bE h λabV abW h=>?_;obtain rfl:=O (V abW);exact ww<|ww<|pT Y<|dn<|⟨true,h,wR []⟩;obtain rfl:=O (V Pf);refine ww<|ww<|pT Y<|mv Y<|bE h λabX abY h=>?_;obtain rfl:=O (V abY);refine ww<|ww<|pT Y<|mv Y<|bE h λabZ ab0 h=>?_;obtain rfl:=O (V ab0);exact ww<|ww<|pT Y<|dn<|⟨true,h,wR []⟩;obtain rfl:=O (V Pe);refine ww<|ww<|pT Y<|mv Y<|bE h λab1 ab2 h=>?_;obtain rfl:=O (V ab2);refine ww<|ww<|pT Y<|mv Y<|bE h λab3 ab4 h=>?_;obtain rfl:=O (V ab4);refine ww<|ww<|pT Y<|mv Y<|bE h λab5 w6 h=>?_;obtain rfl:=O (V w6);exact ww<|ww<|pT Y<|dn<|⟨true,h,wR []⟩;obtain rfl:=O (V Pd);refine ww<|ww<|pT Y<|mv Y<|bE h λab6 uA h=>?_;obtain rfl:=O (V uA);refine ww<|ww<|pT Y<|mv Y<|bE h λab7 yF h=>?_;obtain rfl:=O (V yF);refine ww<|ww<|pT Y<|mv Y<|bE h λab8 Kc h=>?_;obtain rfl:=O (V Kc);refine ww<|ww<|pT Y<|mv Y<|bE h λab9 Ke h=>?_;obtain rfl:=O (V Ke);exact ww<|ww<|pT Y<|dn<|⟨true,h,wR []⟩
 try dsimp only
 refine aV.n ?_;cases Hy;refine fs<|qq<|bj<|sr<|mv Y<|lE (F h) λCp KN h=>eq _ Y Y (o9 (p:=BP) (q:=0) KN)<|ag Y<|dn ?_;refine bC h (λVs=>AS.cq 53 [(2,ai Vs.1),(3,ai Vs.2)] [] []) (λh=>?_) (λVs h=>?_);cases Cp;refine cF<|sr<|mv Y<|lE (F h) λqV h46 h=>ls _ Y Y h46<|ag Y<|dn ?_;refine bC h (λVt=>AS.cq 53 [(2,ai Vt.1),(3,ai Vt.2)] [] []) (λh=>?_) (λVt h=>?_);cases qV;exact fs<|⟨(DC,BP),(F h),wR []⟩;exact cT<|aW<|mv Y<|lE (V h) λBA h48 h=>RT.neg .none _ Y T h48<|mv Y<|lE h λBk L7 h=>RT.neg .none _ Y T L7<|ag Y<|ag Y<|dn<|⟨(BA,Bk),h,wR []⟩;obtain⟨Mh,Mi⟩:=Vt
 try dsimp only
 exact aV.n<|⟨(Mh,Mi),h,wR []⟩;exact cT<|aW<|ag Y<|dn<|⟨(DC,1),(V h),wR []⟩;obtain⟨Rk,Rl⟩:=Vs
 try dsimp only
 refine bw.n<|aV.n<|sr<|mv Y<|mv Y<|ag Y<|ag Y<|ag Y<|dn<|bf ?_;obtain rfl:=O h;exact RZ (.tmp Y (.tmp Y (.tmp Y (.nil))));refine cT<|sr<|ag Y<|ag Y<|ag Y<|dn<|bf<|aV.r ?_;obtain rfl:=O (V h);exact RZ (.tmp Y (.tmp Y (.tmp Y (.nil))))
theorem lD{x0:Int}{x1:Int}{r:Qr}(h:fQ x0 x1=some r):Pure ah 66 [ay x0,ay x1] (.agg (eQ r)):=by
 refine aZ Tryz.func66 Y (af Y) (λdI M vs hvs=>?_);unfold fQ at h;refine sr<|al (cs:=[az false,ax,az false,ax]) (by exact⟨au,aB,au,aB,aq⟩) Y<|dn<|sr<|mv Y<|mv Y<|ag Y<|ag Y<|dn<|qq<|bE h λe6 BG jW=>?_;refine bJ (λ(tg:Int)=>AS.cq 36 [(0,ai x0),(1,ai x1),(4,.ptr 4 0),(5,ai tg)] [(4,⟨36,[aj false,.sv ax,aj false,.sv ax]⟩)] []) (λtg=>tg=e6) ?_ (λtg BH=>?_);refine bj ?_;refine bK BG (λs6=>AS.cq 36 [(0,ai x0),(1,ai x1),(4,.ptr 4 0),(5,ai s6.1),(6,ai s6.2)] [(4,⟨36,[aj false,.sv ax,aj false,.sv ax]⟩)] []) (wR []) (λs6 y6 G6 h BI wU=>?_);obtain⟨mh,qF⟩:=s6
 try dsimp only
 refine qq<|sr<|mv Y<|lE h λdK fY h=>ne _ Y Y (yV (p:=qF) (q:=0) fY)<|dn ?_;cases dK;refine cF<|bN<|aV.x<|aV.x<|bw.x<|aV.n ?_;obtain rfl:=O (F h);exact⟨mh,wU _ Y,wR []⟩;refine cT<|bu<|aV.n<|bj<|bh mixed<|mv Y<|mv Y<|mv Y<|bE (V h) λdO jh h=>RT.rem .none _ Y Y T (S4 jh) (S5 jh)<|ag Y<|ag Y ?_;refine RT.done ⟨by kernel_rfl,?_⟩;refine bw.n ?_;obtain rfl:=O h;exact aV.n ⟨(qF,dO),BI _ Y,wR []⟩;subst BH
 try dsimp only
 refine aV.n<|qq<|sr<|mv Y<|lE jW λeU iL jW=>ls _ Y Y iL<|dn ?_;refine bC jW (λj8=>AS.cq 36 [(0,ai x0),(1,ai x1),(4,.ptr 4 0),(5,ai j8)] [(4,⟨36,[aj false,.sv ax,aj false,.sv ax]⟩)] []) (λjW=>?_) (λKb jW=>?_);cases eU;exact fs<|⟨tg,(F jW),wR []⟩;exact cT<|aW<|mv Y<|lE (V jW) λfK kR jW=>RT.neg .none _ Y T kR<|ag Y<|dn<|⟨fK,jW,wR []⟩
 try dsimp only
 refine aV.n<|qq<|sr<|mv Y<|mv Y<|lE jW λfZ my jW=>eq _ Y Y (o9 (p:=Kb) (q:=x1) my)<|dn ?_;cases fZ;refine fs<|qq<|bh mixed<|mv Y<|mv Y<|bE (F jW) λiM nL jW=>RT.quo .none _ Y Y T (V5 nL) (Lz nL) ?_;obtain⟨⟨vm,vn⟩,BJ,jW⟩:=bS jW;refine cl (dA BJ) ⟨Y,aq⟩<|mv Y<|mv Y<|bE jW λm6 wh jW=>RT.quo .none _ Y Y T (V5 wh) (Lz wh) ?_;obtain⟨⟨Mk,Ml⟩,ri,jW⟩:=bS jW;refine cl (dA ri) ⟨Y,aq⟩<|bI (cs:=[_,_,_,_]) (cs':=[az vm,slc 1 (List.map aX vn),az Mk,slc 1 (List.map aX Ml)]) (.agg Y (.agg Y (.nil))) ⟨au,au,au,au,aq⟩<|so Y Y Y ?_;refine RT.done ⟨by kernel_rfl,?_⟩;refine aV.n<|bf ?_;obtain rfl:=O jW;exact RZ (.agg Y Y (.k4 Y Y Y Y) Y (.nil));refine cT<|sr<|mv Y<|mv Y<|bE (V jW) λgU oG jW=>RT.quo .none _ Y Y T (V5 oG) (Lz oG) ?_;obtain⟨⟨xI,vk⟩,qE,jW⟩:=bS jW;refine cl (dA qE) ⟨Y,aq⟩<|bI (cs:=[_,_,_,_]) (cs':=[az xI,slc 1 (List.map aX vk),az false,ax]) (.agg Y (.nil)) ⟨au,au,au,aB,aq⟩<|so Y Y Y<|dn<|bf<|aV.r ?_;obtain rfl:=O jW;exact RZ (.agg Y Y (.k4 Y Y Y Y) Y (.nil))
theorem DE{x0:Int}{r:Int}(h:n6 x0=some r):Pure ah 82 [ay x0] (ay r):=by
 refine aZ Tryz.func82 Y (af Y) (λdI M vs hvs=>?_);unfold n6 at h;refine sr<|ag Y<|dn<|qq<|bj<|sr<|mv Y<|lE h λx5 h5 h=>ls _ Y Y h5<|ag Y<|dn ?_;cases x5;refine cF<|sr<|mv Y<|lE (F h) λx8 h8 h=>gt _ Y Y h8<|ag Y<|dn ?_;cases x8;refine cF<|bu<|bw.n<|aV.n<|sr<|ag Y<|dn<|bf ?_;obtain rfl:=O (F h);exact R1 Y;refine cT<|sr<|ag Y<|dn<|bf<|bw.r<|aV.r ?_;obtain rfl:=O (V h);exact R1 Y;refine cT<|sr<|ag Y<|dn<|bf<|bw.r<|aV.r ?_;obtain rfl:=O (V h);exact R1 Y
theorem yG{x1:Qr}{x2:Qr}{r:Qr}(h:iU x1 x2=some r):Pure ah 67 [.v (.int .u8 ((43:Nat):Int)),.agg (eQ x1),.agg (eQ x2)] (.agg (eQ r)):=by
 obtain⟨⟨cc,bY⟩,⟨iv,iw⟩⟩:=x1;obtain⟨⟨kS,kT⟩,⟨pO,pP⟩⟩:=x2;refine aZ Tryz.func67 Y (af Y) (λdI M vs hvs=>?_);unfold iU at h;refine sr<|bx Y<|bx Y<|al (cs:=[az false,ax,az false,ax]) (by exact⟨au,aB,au,aB,aq⟩) Y<|dn<|sr<|ld Y Y (.k4 Y Y Y Y) ?_;obtain⟨⟨⟨jt,ju⟩,⟨mz,mA⟩⟩,lf,h⟩:=bS h;refine cl (ew lf) ⟨Y,aq⟩<|mv Y<|ex Y Y<|ex Y Y<|al (cs:=[az false,ax]) (by exact⟨au,aB,aq⟩) Y<|al (cs:=[az false,ax]) (by exact⟨au,aB,aq⟩) Y<|so Y Y Y<|so Y Y Y<|dn<|sr<|ld Y Y (.k4 Y Y Y Y) ?_;obtain⟨⟨⟨hG,ia⟩,⟨ku,kx⟩⟩,kR,h⟩:=bS h;refine cl (ew kR) ⟨Y,aq⟩<|mv Y<|ex Y Y<|ex Y Y<|al (cs:=[az false,ax]) (by exact⟨au,aB,aq⟩) Y<|al (cs:=[az false,ax]) (by exact⟨au,aB,aq⟩) Y<|so Y Y Y<|so Y Y Y<|dn<|qq<|bh mixed<|cl jN trivial<|mv Y ?_;refine RT.look .none [.func (.func 126) #[] #[]] Y Y Y T<|fl Y Y<|ld Y Y (.k2 Y Y)<|ld Y Y (.k2 Y Y)<|ld Y Y (.k2 Y Y)<|ld Y Y (.k2 Y Y) ?_;obtain⟨⟨⟨rG,rH⟩,⟨rI,rJ⟩⟩,nL,h⟩:=bS h;refine cl (rL nL) ⟨Y,Y,Y,Y,aq⟩<|ex Y Y<|ex Y Y ?_;obtain⟨⟨⟨tJ,qX⟩,⟨xO,xP⟩⟩,nn,h⟩:=bS h;refine cl (kA nn) ⟨Y,Y,aq⟩<|so Y Y Y ?_;refine RT.done ⟨by kernel_rfl,?_⟩;refine aV.n<|bf ?_;obtain rfl:=O h;exact RZ (.agg Y Y (.k4 Y Y Y Y) Y (.nil))
theorem yH{x1:Qr}{x2:Qr}{r:Qr}(h:iV x1 x2=some r):Pure ah 67 [.v (.int .u8 ((45:Nat):Int)),.agg (eQ x1),.agg (eQ x2)] (.agg (eQ r)):=by
 obtain⟨⟨cc,bY⟩,⟨iv,iw⟩⟩:=x1;obtain⟨⟨kS,kT⟩,⟨pO,pP⟩⟩:=x2;refine aZ Tryz.func67 Y (af Y) (λdI M vs hvs=>?_);unfold iV at h;refine sr<|bx Y<|bx Y<|al (cs:=[az false,ax,az false,ax]) (by exact⟨au,aB,au,aB,aq⟩) Y<|dn<|sr<|ld Y Y (.k4 Y Y Y Y) ?_;obtain⟨⟨⟨jt,ju⟩,⟨mz,mA⟩⟩,lf,h⟩:=bS h;refine cl (ew lf) ⟨Y,aq⟩<|mv Y<|ex Y Y<|ex Y Y<|al (cs:=[az false,ax]) (by exact⟨au,aB,aq⟩) Y<|al (cs:=[az false,ax]) (by exact⟨au,aB,aq⟩) Y<|so Y Y Y<|so Y Y Y<|dn<|sr<|ld Y Y (.k4 Y Y Y Y) ?_;obtain⟨⟨⟨hG,ia⟩,⟨ku,kx⟩⟩,kR,h⟩:=bS h;refine cl (ew kR) ⟨Y,aq⟩<|mv Y<|ex Y Y<|ex Y Y<|al (cs:=[az false,ax]) (by exact⟨au,aB,aq⟩) Y<|al (cs:=[az false,ax]) (by exact⟨au,aB,aq⟩) Y<|so Y Y Y<|so Y Y Y<|dn<|qq<|bh mixed<|cl jN trivial<|mv Y ?_;refine RT.look .none [.func (.func 128) #[] #[]] Y Y Y T<|fl Y Y<|ld Y Y (.k2 Y Y)<|ld Y Y (.k2 Y Y)<|ld Y Y (.k2 Y Y)<|ld Y Y (.k2 Y Y) ?_;obtain⟨⟨⟨rG,rH⟩,⟨rI,rJ⟩⟩,nL,h⟩:=bS h;refine cl (rM nL) ⟨Y,Y,Y,Y,aq⟩<|ex Y Y<|ex Y Y ?_;obtain⟨⟨⟨tJ,qX⟩,⟨xO,xP⟩⟩,nn,h⟩:=bS h;refine cl (kA nn) ⟨Y,Y,aq⟩<|so Y Y Y ?_;refine RT.done ⟨by kernel_rfl,?_⟩;refine aV.n<|bf ?_;obtain rfl:=O h;exact RZ (.agg Y Y (.k4 Y Y Y Y) Y (.nil))
theorem yI{x1:Qr}{x2:Qr}{r:Qr}(h:iW x1 x2=some r):Pure ah 67 [.v (.int .u8 ((42:Nat):Int)),.agg (eQ x1),.agg (eQ x2)] (.agg (eQ r)):=by
 obtain⟨⟨cc,bY⟩,⟨iv,iw⟩⟩:=x1;obtain⟨⟨kS,kT⟩,⟨pO,pP⟩⟩:=x2;refine aZ Tryz.func67 Y (af Y) (λdI M vs hvs=>?_);unfold iW at h;refine sr<|bx Y<|bx Y<|al (cs:=[az false,ax,az false,ax]) (by exact⟨au,aB,au,aB,aq⟩) Y<|dn<|sr<|ld Y Y (.k4 Y Y Y Y) ?_;obtain⟨⟨⟨jt,ju⟩,⟨mz,mA⟩⟩,lf,h⟩:=bS h;refine cl (ew lf) ⟨Y,aq⟩<|mv Y<|ex Y Y<|ex Y Y<|al (cs:=[az false,ax]) (by exact⟨au,aB,aq⟩) Y<|al (cs:=[az false,ax]) (by exact⟨au,aB,aq⟩) Y<|so Y Y Y<|so Y Y Y<|dn<|sr<|ld Y Y (.k4 Y Y Y Y) ?_;obtain⟨⟨⟨hG,ia⟩,⟨ku,kx⟩⟩,kR,h⟩:=bS h;refine cl (ew kR) ⟨Y,aq⟩<|mv Y<|ex Y Y<|ex Y Y<|al (cs:=[az false,ax]) (by exact⟨au,aB,aq⟩) Y<|al (cs:=[az false,ax]) (by exact⟨au,aB,aq⟩) Y<|so Y Y Y<|so Y Y Y<|dn<|qq<|bh mixed<|cl jN trivial<|mv Y ?_;refine RT.look .none [.func (.func 130) #[] #[]] Y Y Y T<|fl Y Y<|ld Y Y (.k2 Y Y)<|ld Y Y (.k2 Y Y)<|ld Y Y (.k2 Y Y)<|ld Y Y (.k2 Y Y) ?_;obtain⟨⟨⟨rG,rH⟩,⟨rI,rJ⟩⟩,nL,h⟩:=bS h;refine cl (rN nL) ⟨Y,Y,Y,Y,aq⟩<|ex Y Y<|ex Y Y ?_;obtain⟨⟨⟨tJ,qX⟩,⟨xO,xP⟩⟩,nn,h⟩:=bS h;refine cl (kA nn) ⟨Y,Y,aq⟩<|so Y Y Y ?_;refine RT.done ⟨by kernel_rfl,?_⟩;refine aV.n<|bf ?_;obtain rfl:=O h;exact RZ (.agg Y Y (.k4 Y Y Y Y) Y (.nil))
end
section
open Go.Fw Go.Fw.Z Go.RowKit
theorem iJ{x0:Int}{r:Qr}(h:c7 x0=some r):Pure ah 54 [ay x0] (.agg (eQ r)):=by
 refine aZ Tryz.func54 Y (af Y) (λdI M vs hvs=>?_);unfold c7 at h;refine sr<|al (cs:=[az false,ax,az false,ax]) (by exact⟨au,aB,au,aB,aq⟩) Y<|dn<|sr<|mv Y ?_;obtain⟨⟨mP,mQ⟩,h4,h⟩:=bS h;refine cl (dA h4) ⟨Y,aq⟩<|bI (cs:=[_,_,_,_]) (cs':=[az mP,slc 1 (List.map aX mQ),az false,ax]) (.agg Y (.nil)) ⟨au,au,au,aB,aq⟩<|so Y Y Y<|dn<|bf ?_;obtain rfl:=O h;exact RZ (.agg Y Y (.k4 Y Y Y Y) Y (.nil))
theorem iK{x0:Qr}{r:Qr}(h:c8 x0=some r):Pure ah 94 [.agg (eQ x0)] (.agg (eQ r)):=by
 obtain⟨⟨bt,bp⟩,⟨bD,bG⟩⟩:=x0;refine aZ Tryz.func94 Y (af Y) (λdI M vs hvs=>?_);unfold c8 at h;refine sr<|bx Y<|al (cs:=[az false,ax,az false,ax]) (by exact⟨au,aB,au,aB,aq⟩) Y<|dn<|qq<|sr<|ld Y Y (.k4 Y Y Y Y) ?_;obtain⟨⟨x8a,x8b,x8c⟩,h8,h⟩:=bS h;refine cl (gb h8) ⟨Y,aq⟩<|mv Y<|ex Y Y<|ex Y Y<|ex Y Y<|ag Y<|ag Y<|ag Y<|dn<|sr<|mv Y<|dn ?_;cases x8c;refine fs<|sr<|ld Y Y (.k4 Y Y Y Y) ?_;obtain⟨⟨⟨Mm,Mn⟩,⟨Mo,Mp⟩⟩,lj,h⟩:=bS (F h);refine cl (ew lj) ⟨Y,aq⟩<|ex Y Y<|ex Y Y ?_;obtain⟨⟨⟨Fj,Fk⟩,⟨Ro,Rp⟩⟩,oQ,h⟩:=bS h;refine cl (kA oQ) ⟨Y,Y,aq⟩<|so Y Y Y<|dn<|bf ?_;obtain rfl:=O h;exact RZ (.agg Y Y (.k4 Y Y Y Y) Y (.nil));refine cT<|sr<|mv Y<|mv Y ?_;obtain⟨⟨⟨rz,rD⟩,⟨Rm,Rn⟩⟩,jL,h⟩:=bS (V h);refine cl (lD jL) ⟨Y,Y,aq⟩<|so Y Y Y<|dn<|bf<|aV.r ?_;obtain rfl:=O h;exact RZ (.agg Y Y (.k4 Y Y Y Y) Y (.nil))
theorem pQ{x0:Qr}{r:Int}(h:iX x0=some r):Pure ah 22 [.agg (eQ x0)] (ay r):=by
 obtain⟨⟨bt,bp⟩,⟨bD,bG⟩⟩:=x0;refine aZ Tryz.func22 Y (af Y) (λdI M vs hvs=>?_);unfold iX at h;refine sr<|bx Y<|ag Y<|dn<|qq<|sr<|fa Y Y<|ld Y Y (.k2 Y Y)<|bE h λx5 h5 h=>cl (eu h5) ⟨Y,aq⟩<|lE h λx6 h6 h=>ls _ Y Y h6<|dn ?_;cases x6;refine fs<|sr<|fa Y Y<|ld Y Y (.k2 Y Y)<|bE (F h) λjz lf h=>cl (eu lf) ⟨Y,aq⟩<|ag Y<|dn<|bf ?_;obtain rfl:=O h;exact R1 Y;refine cT<|sr<|fa Y Y<|ld Y Y (.k2 Y Y)<|bE (V h) λx9 h9 h=>cl (eu h9) ⟨Y,aq⟩<|lE h λdK fY h=>RT.neg .none _ Y T fY<|ag Y<|dn<|bf<|aV.r ?_;obtain rfl:=O h;exact R1 Y
theorem Fx{x0:Qr}{x1:Qr}{r:Qr}(h:nu x0 x1=some r):Pure ah 23 [.agg (eQ x0),.agg (eQ x1)] (.agg (eQ r)):=by
 obtain⟨⟨bt,bp⟩,⟨bD,bG⟩⟩:=x0;obtain⟨⟨cc,bY⟩,⟨iv,iw⟩⟩:=x1;refine aZ Tryz.func23 Y (af Y) (λdI M vs hvs=>?_);unfold nu at h;refine sr<|bx Y<|bx Y<|al (cs:=[az false,ax,az false,ax]) (by exact⟨au,aB,au,aB,aq⟩) Y<|dn<|sr<|ld Y Y (.k4 Y Y Y Y) ?_;obtain⟨⟨Aj,th,Ak⟩,lf,h⟩:=bS h;refine cl (gb lf) ⟨Y,aq⟩<|mv Y<|ex Y Y<|ex Y Y<|ex Y Y<|ag Y<|ag Y<|ag Y<|dn<|sr<|ld Y Y (.k4 Y Y Y Y) ?_;obtain⟨⟨Al,wY,Am⟩,mM,h⟩:=bS h;refine cl (gb mM) ⟨Y,aq⟩<|mv Y<|ex Y Y<|ex Y Y<|ex Y Y<|ag Y<|ag Y<|ag Y<|dn<|qq<|qq ?_;refine bC h (λj3=>AS.cq 41 [(2,.ptr 2 0),(3,.ptr 3 0),(4,.ptr 4 0),(5,ai Aj),(6,ai th),(8,ai Al),(9,ai wY),(26,aj j3)] [(4,⟨36,[aj false,.sv ax,aj false,.sv ax]⟩),(3,⟨36,[aj cc,.sv (slc 1 (List.map aX bY)),aj iv,.sv (slc 1 (List.map aX iw))]⟩),(2,⟨36,[aj bt,.sv (slc 1 (List.map aX bp)),aj bD,.sv (slc 1 (List.map aX bG))]⟩)] []) (λh=>?_) (λrK h=>?_);refine aW<|mv Y<|mv Y<|bE h λxQ sE h=>?_;cases Ak;obtain rfl:=O (F sE);exact ww<|pF Y<|dn<|⟨false,h,wR []⟩;refine gm Y ?_;obtain rfl:=O (V sE);exact pT Y<|dn<|⟨Am,h,wR []⟩
 try dsimp only
 refine aV.n ?_;cases rK;refine fs<|sr<|ld Y Y (.k4 Y Y Y Y)<|ld Y Y (.k4 Y Y Y Y) ?_;obtain⟨⟨⟨xJ,xK⟩,⟨Fq,Fs⟩⟩,tK,h⟩:=bS (F h);refine cl (yG tK) ⟨Y,Y,Y,aq⟩<|so Y Y Y<|dn<|bf ?_;obtain rfl:=O h;exact RZ (.agg Y Y (.k4 Y Y Y Y) Y (.nil));refine cT<|sr<|mv Y<|mv Y<|lE (V h) λiM nL h=>RT.mul .none _ Y Y T nL<|mv Y<|mv Y<|lE h λir nn h=>RT.mul .none _ Y Y T nn<|lE h λm6 wh h=>ad _ Y Y wh<|mv Y<|mv Y<|lE h λuO yE h=>RT.mul .none _ Y Y T yE ?_;obtain⟨⟨⟨Fl,Fm⟩,⟨Fo,Fp⟩⟩,Hq,h⟩:=bS h;refine cl (lD Hq) ⟨Y,Y,aq⟩<|so Y Y Y<|dn<|bf<|aV.r ?_;obtain rfl:=O h;exact RZ (.agg Y Y (.k4 Y Y Y Y) Y (.nil))
theorem Fy{x0:Qr}{x1:Qr}{r:Qr}(h:nv x0 x1=some r):Pure ah 85 [.agg (eQ x0),.agg (eQ x1)] (.agg (eQ r)):=by
 obtain⟨⟨bt,bp⟩,⟨bD,bG⟩⟩:=x0;obtain⟨⟨cc,bY⟩,⟨iv,iw⟩⟩:=x1;refine aZ Tryz.func85 Y (af Y) (λdI M vs hvs=>?_);unfold nv at h;refine sr<|bx Y<|bx Y<|al (cs:=[az false,ax,az false,ax]) (by exact⟨au,aB,au,aB,aq⟩) Y<|dn<|sr<|ld Y Y (.k4 Y Y Y Y) ?_;obtain⟨⟨Aj,th,Ak⟩,lf,h⟩:=bS h;refine cl (gb lf) ⟨Y,aq⟩<|mv Y<|ex Y Y<|ex Y Y<|ex Y Y<|ag Y<|ag Y<|ag Y<|dn<|sr<|ld Y Y (.k4 Y Y Y Y) ?_;obtain⟨⟨Al,wY,Am⟩,mM,h⟩:=bS h;refine cl (gb mM) ⟨Y,aq⟩<|mv Y<|ex Y Y<|ex Y Y<|ex Y Y<|ag Y<|ag Y<|ag Y<|dn<|qq<|qq ?_;refine bC h (λj3=>AS.cq 41 [(2,.ptr 2 0),(3,.ptr 3 0),(4,.ptr 4 0),(5,ai Aj),(6,ai th),(8,ai Al),(9,ai wY),(26,aj j3)] [(4,⟨36,[aj false,.sv ax,aj false,.sv ax]⟩),(3,⟨36,[aj cc,.sv (slc 1 (List.map aX bY)),aj iv,.sv (slc 1 (List.map aX iw))]⟩),(2,⟨36,[aj bt,.sv (slc 1 (List.map aX bp)),aj bD,.sv (slc 1 (List.map aX bG))]⟩)] []) (λh=>?_) (λrK h=>?_);refine aW<|mv Y<|mv Y<|bE h λxQ sE h=>?_;cases Ak;obtain rfl:=O (F sE);exact ww<|pF Y<|dn<|⟨false,h,wR []⟩;refine gm Y ?_;obtain rfl:=O (V sE);exact pT Y<|dn<|⟨Am,h,wR []⟩
 try dsimp only
 refine aV.n ?_;cases rK;refine fs<|sr<|ld Y Y (.k4 Y Y Y Y)<|ld Y Y (.k4 Y Y Y Y) ?_;obtain⟨⟨⟨xJ,xK⟩,⟨Fq,Fs⟩⟩,tK,h⟩:=bS (F h);refine cl (yH tK) ⟨Y,Y,Y,aq⟩<|so Y Y Y<|dn<|bf ?_;obtain rfl:=O h;exact RZ (.agg Y Y (.k4 Y Y Y Y) Y (.nil));refine cT<|sr<|mv Y<|mv Y<|lE (V h) λiM nL h=>RT.mul .none _ Y Y T nL<|mv Y<|mv Y<|lE h λir nn h=>RT.mul .none _ Y Y T nn<|lE h λm6 wh h=>sb _ Y Y wh<|mv Y<|mv Y<|lE h λuO yE h=>RT.mul .none _ Y Y T yE ?_;obtain⟨⟨⟨Fl,Fm⟩,⟨Fo,Fp⟩⟩,Hq,h⟩:=bS h;refine cl (lD Hq) ⟨Y,Y,aq⟩<|so Y Y Y<|dn<|bf<|aV.r ?_;obtain rfl:=O h;exact RZ (.agg Y Y (.k4 Y Y Y Y) Y (.nil))
theorem rO{x0:Qr}{x1:Qr}{r:Qr}(h:jM x0 x1=some r):Pure ah 79 [.agg (eQ x0),.agg (eQ x1)] (.agg (eQ r)):=by
 obtain⟨⟨bt,bp⟩,⟨bD,bG⟩⟩:=x0;obtain⟨⟨cc,bY⟩,⟨iv,iw⟩⟩:=x1;refine aZ Tryz.func79 Y (af Y) (λdI M vs hvs=>?_);unfold jM at h;refine sr<|bx Y<|bx Y<|al (cs:=[az false,ax,az false,ax]) (by exact⟨au,aB,au,aB,aq⟩) Y<|dn<|sr<|ld Y Y (.k4 Y Y Y Y) ?_;obtain⟨⟨Aj,th,Ak⟩,lf,h⟩:=bS h;refine cl (gb lf) ⟨Y,aq⟩<|mv Y<|ex Y Y<|ex Y Y<|ex Y Y<|ag Y<|ag Y<|ag Y<|dn<|sr<|ld Y Y (.k4 Y Y Y Y) ?_;obtain⟨⟨Al,wY,Am⟩,mM,h⟩:=bS h;refine cl (gb mM) ⟨Y,aq⟩<|mv Y<|ex Y Y<|ex Y Y<|ex Y Y<|ag Y<|ag Y<|ag Y<|dn<|qq<|qq ?_;refine bC h (λj3=>AS.cq 37 [(2,.ptr 2 0),(3,.ptr 3 0),(4,.ptr 4 0),(5,ai Aj),(6,ai th),(8,ai Al),(9,ai wY),(26,aj j3)] [(4,⟨36,[aj false,.sv ax,aj false,.sv ax]⟩),(3,⟨36,[aj cc,.sv (slc 1 (List.map aX bY)),aj iv,.sv (slc 1 (List.map aX iw))]⟩),(2,⟨36,[aj bt,.sv (slc 1 (List.map aX bp)),aj bD,.sv (slc 1 (List.map aX bG))]⟩)] []) (λh=>?_) (λrK h=>?_);refine aW<|mv Y<|mv Y<|bE h λxQ sE h=>?_;cases Ak;obtain rfl:=O (F sE);exact ww<|pF Y<|dn<|⟨false,h,wR []⟩;refine gm Y ?_;obtain rfl:=O (V sE);exact pT Y<|dn<|⟨Am,h,wR []⟩
 try dsimp only
 refine aV.n ?_;cases rK;refine fs<|sr<|ld Y Y (.k4 Y Y Y Y)<|ld Y Y (.k4 Y Y Y Y) ?_;obtain⟨⟨⟨qY,qZ⟩,⟨Ft,Fu⟩⟩,yE,h⟩:=bS (F h);refine cl (yI yE) ⟨Y,Y,Y,aq⟩<|so Y Y Y<|dn<|bf ?_;obtain rfl:=O h;exact RZ (.agg Y Y (.k4 Y Y Y Y) Y (.nil));refine cT<|sr<|mv Y<|mv Y<|lE (V h) λiM nL h=>RT.mul .none _ Y Y T nL<|mv Y<|mv Y<|lE h λir nn h=>RT.mul .none _ Y Y T nn ?_;obtain⟨⟨⟨Rq,Rr⟩,⟨Rt,Ru⟩⟩,wh,h⟩:=bS h;refine cl (lD wh) ⟨Y,Y,aq⟩<|so Y Y Y<|dn<|bf<|aV.r ?_;obtain rfl:=O h;exact RZ (.agg Y Y (.k4 Y Y Y Y) Y (.nil))
theorem rP{x0:Qr}{r:Qr}(h:iY x0=some r):Pure ah 56 [.agg (eQ x0)] (.agg (eQ r)):=by
 obtain⟨⟨bt,bp⟩,⟨bD,bG⟩⟩:=x0;refine aZ Tryz.func56 Y (af Y) (λdI M vs hvs=>?_);unfold iY at h;refine sr<|bx Y<|al (cs:=[az false,ax,az false,ax]) (by exact⟨au,aB,au,aB,aq⟩) Y<|dn<|sr<|ld Y Y (.k4 Y Y Y Y) ?_;obtain⟨⟨⟨BQ,Fv⟩,⟨BR,DD⟩⟩,h5,h⟩:=bS h;refine cl (iK h5) ⟨Y,aq⟩<|al (cs:=[az false,ax,az false,ax]) (by exact⟨au,aB,au,aB,aq⟩) Y<|so Y Y Y<|dn<|qq<|bh mixed<|fa Y Y<|ld Y Y (.k2 Y Y) ?_;obtain⟨⟨wZ,w5⟩,h8,h⟩:=bS h;refine cl (kq h8) ⟨Y,aq⟩<|fa Y Y<|ld Y Y (.k2 Y Y)<|bI (cs:=[_,_,_,_]) (cs':=[az wZ,slc 1 (List.map aX w5),az BR,slc 1 (List.map aX DD)]) (.agg Y (.agg Y (.nil))) ⟨au,au,au,au,aq⟩<|so Y Y Y ?_;refine RT.done ⟨by kernel_rfl,?_⟩;refine aV.n<|bf ?_;obtain rfl:=O h;exact RZ (.agg Y Y (.k4 Y Y Y Y) Y (.nil))
theorem lP{x0:Qr}{x1:Qr}{r:Int}(h:ga x0 x1=some r):Pure ah 33 [.agg (eQ x0),.agg (eQ x1)] (ay r):=by
 obtain⟨⟨bt,bp⟩,⟨bD,bG⟩⟩:=x0;obtain⟨⟨cc,bY⟩,⟨iv,iw⟩⟩:=x1;refine aZ Tryz.func33 Y (af Y) (λdI M vs hvs=>?_);unfold ga at h;refine sr<|bx Y<|bx Y<|ag Y<|dn<|sr<|ld Y Y (.k4 Y Y Y Y) ?_;obtain⟨⟨⟨jt,ju⟩,⟨mz,mA⟩⟩,lf,h⟩:=bS h;refine cl (ew lf) ⟨Y,aq⟩<|mv Y<|ex Y Y<|ex Y Y<|al (cs:=[az false,ax]) (by exact⟨au,aB,aq⟩) Y<|al (cs:=[az false,ax]) (by exact⟨au,aB,aq⟩) Y<|so Y Y Y<|so Y Y Y<|dn<|sr<|ld Y Y (.k4 Y Y Y Y) ?_;obtain⟨⟨⟨hG,ia⟩,⟨ku,kx⟩⟩,kR,h⟩:=bS h;refine cl (ew kR) ⟨Y,aq⟩<|mv Y<|ex Y Y<|ex Y Y<|al (cs:=[az false,ax]) (by exact⟨au,aB,aq⟩) Y<|al (cs:=[az false,ax]) (by exact⟨au,aB,aq⟩) Y<|so Y Y Y<|so Y Y Y<|dn<|qq<|qq<|bh mixed<|ld Y Y (.k2 Y Y)<|bE h λiB nm h=>?_;refine cl (eu nm) ⟨Y,aq⟩<|ld Y Y (.k2 Y Y)<|bE h λgU oG h=>cl (eu oG) ⟨Y,aq⟩<|ag Y<|ag Y ?_;refine RT.done ⟨by kernel_rfl,?_⟩;refine aV.n<|qq ?_;refine bC h (λj3=>AS.cq 43 [(5,.ptr 5 0),(6,.ptr 6 0),(7,.ptr 7 0),(8,.ptr 8 0),(9,ai iB),(10,ai gU),(31,aj j3)] [(8,⟨34,[aj ku,.sv (slc 1 (List.map aX kx))]⟩),(7,⟨34,[aj hG,.sv (slc 1 (List.map aX ia))]⟩),(6,⟨34,[aj mz,.sv (slc 1 (List.map aX mA))]⟩),(5,⟨34,[aj jt,.sv (slc 1 (List.map aX ju))]⟩)] []) (λh=>?_) (λMq h=>?_)
 refine aW<|mv Y<|mv Y<|lE h λgx m7 h=>ne _ Y Y (yV (p:=iB) (q:=gU) m7)<|mv Y<|bE h λRz sE h=>?_;cases gx;refine gm Y<|lE (F sE) λwN BJ sE=>Co _ Y Y (o9 (p:=iB) (q:=0) BJ) ?_;obtain rfl:=O sE;exact pF Y<|dn<|⟨wN,h,wR []⟩;obtain rfl:=O (V sE);exact ww<|ww<|pT Y<|dn<|⟨true,h,wR []⟩
 try dsimp only
 refine aV.n ?_;cases Mq;refine fs<|qq<|bh mixed<|ld Y Y (.k2 Y Y)<|ld Y Y (.k2 Y Y) ?_;obtain⟨⟨Rv,Rw⟩,Ho,h⟩:=bS (F h);refine cl (ep Ho) ⟨Y,Y,aq⟩<|ld Y Y (.k2 Y Y)<|ld Y Y (.k2 Y Y) ?_;obtain⟨⟨Rx,Ry⟩,Hp,h⟩:=bS h;refine cl (ep Hp) ⟨Y,Y,aq⟩<|bE h λug Fh h=>cl (DA Fh) ⟨Y,Y,aq⟩<|ag Y ?_;refine RT.done ⟨by kernel_rfl,?_⟩;refine aV.n<|bf ?_;obtain rfl:=O h;exact R1 Y;refine cT<|sr<|mv Y<|mv Y<|lE (V h) λmK ri h=>sb _ Y Y ri<|bE h λsu BK h=>cl (DE BK) ⟨Y,aq⟩<|ag Y<|dn<|bf<|aV.r ?_;obtain rfl:=O h;exact R1 Y
theorem oA{x0:Qr}{x1:Qr}{r:Bool}(h:kz x0 x1=some r):Pure ah 34 [.agg (eQ x0),.agg (eQ x1)] (az r):=by
 obtain⟨⟨bt,bp⟩,⟨bD,bG⟩⟩:=x0;obtain⟨⟨cc,bY⟩,⟨iv,iw⟩⟩:=x1;refine aZ Tryz.func34 Y (af Y) (λdI M vs hvs=>?_);unfold kz at h;refine sr<|bx Y<|bx Y<|ag Y<|dn<|sr<|ld Y Y (.k4 Y Y Y Y)<|ld Y Y (.k4 Y Y Y Y)<|bE h λx7 h7 h=>cl (lP h7) ⟨Y,Y,aq⟩<|lE h λx8 h8 h=>eq _ Y Y (o9 (p:=x7) (q:=0) h8)<|ag Y<|dn<|bf ?_;obtain rfl:=O h;exact R1 Y
end
end Go.Proofs.YtfoldppidpmchaaGreat
