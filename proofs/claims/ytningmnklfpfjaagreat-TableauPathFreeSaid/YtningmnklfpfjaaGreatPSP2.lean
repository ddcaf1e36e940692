/- A part of the proof: the framework, the plain functions, the followed functions, the plain laws. -/
import Derived.Test.YtningmnklfpfjaaGreatPSP1
set_option linter.unusedVariables false
set_option linter.unusedSimpArgs false
set_option linter.unusedSectionVars false
namespace Go.Fw
section
open Go.RowKit
def cK{J R:Type}(k:J->Option R)(f:(J->Option R)->Option R):Option R:=f k
theorem bind_some{α β:Type}{x:Option α}{f:α->Option β}{r:β}(h:Option.bind x f=some r):∃a,x=some a/\f a=some r:=by
 cases x with
 |none=>cases h
 |some a=>exact⟨a,Y,h⟩
theorem sk{b w:Bool}(h:(b==w)=false):b≠w:=by cases b<;>cases w<;>simp_all
def cU{α:Type}(l:List α)(i:Int):Option α:=if 0<=i then l[i.toNat]? else none
def ko{α:Type}(l:List α)(i:Int):Option Nat:=if 0<=i/\i<l.length then some i.toNat else none
def Db{α:Type}(l:List α)(lo hi:Int):Option (List α):=if 0<=lo/\lo<=hi/\hi<=l.length then some (cut l lo.toNat hi.toNat)else none
def yM{α:Type}(by_:Nat)(l k:List α):Option (List α):=if(l.length+k.length)*by_<=140737488355328/\l.length+k.length<=140737488355328 then some (l++k)else none
def CV{α:Type}(by_:Nat)(c:Int)(z:α):Option (List α):=if 0<=c/\by_*c<=281474976710656/\c<=140737488355328 then some (List.replicate c.toNat z)else none
def NF{α:Type}(by_:Nat)(c:Int):Option (List α):=if 0<=c/\by_*c<=281474976710656/\c<=140737488355328 then some []else none
def stM{α:Type}(l:List α)(n:Nat)(y:α):Option (List α):=if n<l.length then some (l.set n y)else none
def xz(a b:Int):Option Int:=if b=0 then none else some (IntKind.i64.wrap (a.tdiv b))
def L0(a b:Int):Option Int:=if b=0 then none else some (a.tmod b)
def EC(M a b:Nat):Option Nat:=if b=0 then none else some (a/b%M)
def Dc(a b:Nat):Option Nat:=if b=0 then none else some (a%b)
def oZ(M a b:Nat):Nat:=(((a:Int)-b)%M).toNat
theorem qB{α:Type}{l:List α}{i:Int}{a:α}(h:cU l i=some a):0<=i/\l[i.toNat]? =some a:=by
 unfold cU at h;split at h
 ·exact⟨by assumption,h⟩
 cases h
theorem NG{α:Type}{l:List α}{i:Int}{k:Nat}(h:ko l i=some k):0<=i/\i<l.length/\i.toNat=k:=by
 unfold ko at h;split at h
 ·rename_i hh;exact⟨hh.1,hh.2,Option.some.inj h⟩
 cases h
theorem DK{α:Type}{l l':List α}{a b:Int}(h:Db l a b=some l'):0<=a/\a<=b/\b<=l.length/\cut l a.toNat b.toNat=l':=by
 unfold Db at h;split at h
 ·rename_i hh;exact⟨hh.1,hh.2.1,hh.2.2,Option.some.inj h⟩
 cases h
theorem xA{α:Type}{by_:Nat}{l k l':List α}(h:yM by_ l k=some l'):(l.length+k.length)*by_<=140737488355328/\l.length+k.length<=140737488355328/\l++k=l':=by
 unfold yM at h;split at h
 ·rename_i hh;exact⟨hh.1,hh.2,Option.some.inj h⟩
 cases h
theorem NH{α:Type}{by_:Nat}{c:Int}{z:α}{l':List α}(h:CV by_ c z=some l'):0<=c/\by_*c<=281474976710656/\c<=140737488355328/\List.replicate c.toNat z=l':=by
 unfold CV at h;split at h
 ·rename_i hh;exact⟨hh.1,hh.2.1,hh.2.2,Option.some.inj h⟩
 cases h
theorem NI{α:Type}{by_:Nat}{c:Int}{l':List α}(h:NF by_ c=some l'):0<=c/\by_*c<=281474976710656/\c<=140737488355328/\[]=l':=by
 unfold NF at h;split at h
 ·rename_i hh;exact⟨hh.1,hh.2.1,hh.2.2,Option.some.inj h⟩
 cases h
theorem GA{α:Type}{l l':List α}{n:Nat}{y:α}(h:stM l n y=some l'):n<l.length/\l.set n y=l':=by
 unfold stM at h;split at h
 ·rename_i hh;exact⟨hh,Option.some.inj h⟩
 cases h
def nV{S E:Type}(body:S->Option (S⊕E)):Nat->S->Option E
 |0,_=>none
 |n+1,s=>match body s with
  |some (.inl s')=>nV body n s'
  |some (.inr e)=>some e
  |none=>none
theorem vY{S E:Type}{body:S->Option (S⊕E)}:∀{n m:Nat} {s:S} {e:E},n<=m->nV body n s=some e->nV body m s=some e
 |0,_,_,_,_,h=>by cases h
 |n+1,0,_,_,hm,_=>by omega
 |n+1,m+1,s,e,hm,h=>by
  unfold nV at h⊢;cases hb:body s with
  |none=>rw[hb]at h;cases h
  |some y=>
   rw[hb]at h;cases y with
   |inl s'=>exact vY (by omega) h
   |inr e'=>exact h
open Classical in
noncomputable def cy{S E:Type}(body:S->Option (S⊕E))(s:S):Option E:=if h:∃n e,nV body n s=some e then some (Classical.choose (Classical.choose_spec h))else none
theorem vZ{S E:Type}{body:S->Option (S⊕E)}{s:S}{e:E}(h:cy body s=some e):∃n,nV body n s=some e:=by
 unfold cy at h;split at h
 ·rename_i hh;exact⟨_,by rw[<-Option.some.inj h];exact Classical.choose_spec (Classical.choose_spec hh)⟩
 cases h
theorem BC{S E:Type}{body:S->Option (S⊕E)}{s:S}{e:E}{n:Nat}(h:nV body n s=some e):cy body s=some e:=by
 have hh:∃n e,nV body n s=some e:=⟨n,e,h⟩;unfold cy;rw[dif_pos hh];have h2:=Classical.choose_spec (Classical.choose_spec hh);have h3:=vY (Nat.le_max_left n (Classical.choose hh)) h;have h4:=vY (Nat.le_max_right n (Classical.choose hh)) h2;rw[h3]at h4;exact h4.symm
theorem v9{S E:Type}{body:S->Option (S⊕E)}{s:S}{e:E}(h:body s=some (.inr e)):cy body s=some e:=BC (n:=1) (by simp[nV,h])
theorem BD{S E:Type}{body:S->Option (S⊕E)}{s s':S}(h:body s=some (.inl s')):cy body s=cy body s':=by
 cases hl:cy body s' with
 |some e=>obtain⟨n,hn⟩:=vZ hl;exact BC (n:=n+1) (by simp[nV,h,hn])
 |none=>
  cases hl2:cy body s with
  |none=>rfl
  |some e=>
   obtain⟨n,hn⟩:=vZ hl2;cases n with
   |zero=>cases hn
   |succ n=>simp only[nV,h]at hn;rw[BC hn]at hl;cases hl
theorem qC{S E:Type}{body:S->Option (S⊕E)}(I:S->Prop)(Post:E->Prop)(μ:S->Nat)
  (step:∀s,I s->(∃s',body s=some (.inl s')/\I s'/\μ s'<μ s)\/(∃e,body s=some (.inr e)/\Post e)) {s:S} (h:I s):∃e,cy body s=some e/\Post e:=by
 have key:∀(n:Nat) (s:S),μ s<=n->I s->∃e,cy body s=some e/\Post e:=by
  intro n
  induction n with
  |zero=>
   intro s hn hs;rcases step s hs with⟨s',_,_,h3⟩|⟨e,h1,h2⟩
   ·omega
   exact⟨e,v9 h1,h2⟩
  |succ n ih=>
   intro s hn hs;rcases step s hs with⟨s',h1,h2,h3⟩|⟨e,h1,h2⟩
   ·obtain⟨e,q1,q2⟩:=ih s' (by omega) h2;exact⟨e,by rw[BD h1];exact q1,q2⟩
   exact⟨e,v9 h1,h2⟩
 exact key _ s (Nat.le_refl _) h
theorem NJ{S E:Type}{body:S->Option (S⊕E)}(st:Nat->S)(n:Nat){e:E}(hs:∀k,k<n->body (st k)=some (.inl (st (k+1))))(he:body (st n)=some (.inr e)):cy body (st 0)=some e:=by
 have key:∀k,k<=n->cy body (st (n-k))=some e:=by
  intro k
  induction k with
  |zero=>intro _;exact v9 he
  |succ k ih=>
   intro hk;rw[BD (hs (n-(k+1)) (by omega)),show n-(k+1)+1=n-k by omega];exact ih (by omega)
 have:=key n (Nat.le_refl _);rwa[Nat.sub_self]at this
theorem xg{p q:Int}{c:Bool}(h:decide (p=q)=c):(p==q)=c:=by rw[<-h];exact Bool.beq_eq_decide_eq p q
theorem IX{p q:Int}{c:Bool}(h:decide (p≠q)=c):(p != q)=c:=by rw[<-h,bne,Bool.beq_eq_decide_eq p q];simp
theorem eqN{p q:Nat}{c:Bool}(h:decide (p=q)=c):((p:Int)==(q:Int))=c:=xg (by rw[<-h];simp[Int.natCast_inj])
theorem neN{p q:Nat}{c:Bool}(h:decide (p≠q)=c):((p:Int) != (q:Int))=c:=IX (by rw[<-h];simp[Int.natCast_inj])
theorem ltN{p q:Nat}{c:Bool}(h:decide (p<q)=c):decide ((p:Int)<(q:Int))=c:=by rw[<-h];simp
theorem leN{p q:Nat}{c:Bool}(h:decide (p<=q)=c):decide ((p:Int)<=(q:Int))=c:=by rw[<-h];simp
theorem NK{p q c:Int}(h:max p q=c):(if q>p then q else p)=c:=by rw[<-h];split<;>omega
theorem Vw{p q c:Int}(h:min p q=c):(if q<p then q else p)=c:=by rw[<-h];split<;>omega
class UK (k:IntKind) (b:outParam Nat) (M:outParam Nat):Prop where
 w:∀x:Int,k.wrap x=x%M
 hb:k.bits=b
 hm:2^b=M
instance:UK .u8 8 256:=⟨λx=>by simp[IntKind.wrap,IntKind.signed,IntKind.bits],rfl,by decide⟩
instance:UK .u32 32 4294967296:=⟨λx=>by simp[IntKind.wrap,IntKind.signed,IntKind.bits],rfl,by decide⟩
instance:UK .u64 64 18446744073709551616:=⟨λx=>by simp[IntKind.wrap,IntKind.signed,IntKind.bits],rfl,by decide⟩
section uk
variable {k:IntKind}{bi M a b c:Nat}[u:UK k bi M]
include u
theorem UK.pos:0<M:=by rw[<-u.hm];exact Nat.two_pow_pos _
theorem UK.nat(h:a%M=c):k.wrap (a:Int)=(c:Int):=by rw[u.w,<-h,Int.natCast_emod]
theorem UK.add(h:(a+b)%M=c):k.wrap ((a:Int)+(b:Int))=(c:Int):=by rw[<-Int.natCast_add];exact UK.nat h
theorem UK.mul(h:(a*b)%M=c):k.wrap ((a:Int)*(b:Int))=(c:Int):=by rw[<-Int.natCast_mul];exact UK.nat h
theorem UK.sub(h:oZ M a b=c):k.wrap ((a:Int)-(b:Int))=(c:Int):=by
 rw[u.w,<-h,oZ,Int.toNat_of_nonneg];exact Int.emod_nonneg _ (by have:=UK.pos (k:=k) (bi:=bi) (M:=M);omega)
theorem UK.neg(h:oZ M 0 a=c):k.wrap (0-(a:Int))=(c:Int):=UK.sub h
theorem UK.conv{p:Int}(h:(p%M).toNat=c):k.wrap p=(c:Int):=by
 rw[u.w,<-h,Int.toNat_of_nonneg];exact Int.emod_nonneg _ (by have:=UK.pos (k:=k) (bi:=bi) (M:=M);omega)
theorem UK.quo(h:EC M a b=some c):k.wrap ((a:Int).tdiv (b:Int))=(c:Int):=by
 unfold EC at h;split at h
 ·cases h
 rw[Int.tdiv_eq_ediv_of_nonneg (by omega),<-Int.natCast_ediv];exact UK.nat (Option.some.inj h)
theorem UK.shl{q:Int}{s:Nat}(hs:min q.toNat k.bits=s)(h:a*2^s%M=c):k.wrap ((a:Int)*2^(min q.toNat k.bits))=(c:Int):=by
 rw[hs,show(a:Int)*2^s=((a*2^s:Nat):Int) by rw[Int.natCast_mul,Int.natCast_pow];rfl];exact UK.nat h
theorem UK.ofInt(a:Nat):(BitVec.ofInt k.bits (a:Int)).toNat=a%M:=by
 rw[BitVec.ofInt_natCast,BitVec.toNat_ofNat,u.hb,u.hm]
theorem UK.or(h:(a ||| b)%M=c):k.wrap ((BitVec.ofInt k.bits (a:Int) ||| BitVec.ofInt k.bits (b:Int)).toNat)=(c:Int):=by
 rw[BitVec.toNat_or,UK.ofInt,UK.ofInt,<-u.hm,<-Nat.or_mod_two_pow,u.hm,h,UK.nat (a:=c) (c:=c)];rw[<-h,Nat.mod_mod]
end uk
theorem ED{k:IntKind}{a c s:Nat}{q:Int}(hs:min q.toNat k.bits=s)(h:a/2^s=c):(a:Int).fdiv (2^(min q.toNat k.bits))=(c:Int):=by
 rw[hs,Int.fdiv_eq_ediv_of_nonneg _ (Int.le_of_lt (Int.pow_pos (by decide))),<-h,Int.natCast_ediv,Int.natCast_pow];rfl
theorem Rn{a b c:Nat}(h:Dc a b=some c):(a:Int).tmod (b:Int)=(c:Int):=by
 unfold Dc at h;split at h
 ·cases h
 rw[Int.tmod_eq_emod_of_nonneg (by omega),<-Option.some.inj h];rfl
theorem nzU{M a b c:Nat}(h:EC M a b=some c):(b:Int)≠0:=by
 unfold EC at h;split at h
 ·cases h
 omega
theorem nzR{a b c:Nat}(h:Dc a b=some c):(b:Int)≠0:=by
 unfold Dc at h;split at h
 ·cases h
 omega
theorem nzI{a b c:Int}(h:xz a b=some c):b≠0:=by unfold xz at h;split at h<;>simp_all
theorem aeg{a b c:Int}(h:L0 a b=some c):b≠0:=by unfold L0 at h;split at h<;>simp_all
theorem Vx{a b c:Int}(h:xz a b=some c):IntKind.i64.wrap (a.tdiv b)=c:=by
 unfold xz at h;split at h
 ·cases h
 exact Option.some.inj h
theorem aeh{a b c:Int}(h:L0 a b=some c):a.tmod b=c:=by
 unfold L0 at h;split at h
 ·cases h
 exact Option.some.inj h
abbrev aY(x:Nat):List SV:=[.v (.int .u32 (x:Nat))]
abbrev bT(x:Int):List SV:=[.v (.int .i64 x)]
abbrev eB(x:Bool):List SV:=[.v (.bool x)]
abbrev eS{α:Type}(n:Nat)(e:α->List SV)(l:List α):List SV:=[slc n (l.map e)]
structure Zr where
 neg:Bool
 w:List Nat
structure Qr where
 num:Zr
 den:Zr
abbrev eZ(z:Zr):List SV:=[.v (.bool z.neg),slc 1 (z.w.map aY)]
abbrev eQ(q:Qr):List SV:=[.v (.bool q.num.neg),slc 1 (q.num.w.map aY),.v (.bool q.den.neg),slc 1 (q.den.w.map aY)]
class EL {α:Type} (e:α->List SV) (n:outParam Nat):Prop where
 len:∀x,(e x).length=n
 one:∀x,qy (e x)
instance:EL aY 1:=⟨λ_=>rfl,λ_=>inferInstance⟩
instance:EL bT 1:=⟨λ_=>rfl,λ_=>inferInstance⟩
instance:EL eB 1:=⟨λ_=>rfl,λ_=>inferInstance⟩
instance{α:Type}{n:Nat}{e:α->List SV}:EL (eS n e) 1:=⟨λ_=>rfl,λ_=>inferInstance⟩
instance:EL eQ 4:=⟨λ_=>rfl,λ_=>inferInstance⟩
def uB{α:Type}(l k:List α):List α:=k.take l.length++l.drop k.length
structure Tb where
 made:Bool
 vars:Int
 EE:List (List Qr)
 basis:List Int
 rows:List (List Qr)
abbrev sM(x:Tb):List SV:=[.v (.bool x.made),.v (.int .i64 x.vars),slc 1 (x.EE.map (eS 4 eQ)),slc 1 (x.basis.map bT),slc 1 (x.rows.map (eS 4 eQ))]
structure Pv where
 row:Int
 col:Int
abbrev KK(x:Pv):List SV:=[.v (.int .i64 x.row),.v (.int .i64 x.col)]
instance:EL KK 2:=⟨λ_=>rfl,λ_=>inferInstance⟩
structure Lr where
 vars:Int
 EE:List (List Qr)
 rows:List (List Qr)
 bounds:List Qr
abbrev Jm(x:Lr):List SV:=[.v (.int .i64 x.vars),slc 1 (x.EE.map (eS 4 eQ)),slc 1 (x.rows.map (eS 4 eQ)),slc 4 (x.bounds.map eQ)]
structure Sz where
 vars:Int
 EE:Int
 rows:Int
 bounds:Int
abbrev eSz(x:Sz):List SV:=[.v (.int .i64 x.vars),.v (.int .i64 x.EE),.v (.int .i64 x.rows),.v (.int .i64 x.bounds)]
abbrev TR(E:TypeId)(sz:Nat){α:Type}(e:α->List SV)(l:List α):Row:=⟨E,sz,l.length,l.flatMap e⟩
theorem aB{α:Type}{n:Nat}{e:α->List SV}:SV.imp (.v (.slice none 0 0)) (slc n (([]:List α).map e)):=λ_ _ h=>.inl ⟨none,h,Y⟩
theorem sN{α:Type}(e:α->List SV)(l:List α):(l.map e).flatten=l.flatMap e:=by rw[List.flatMap_def]
theorem qD{α:Type}{e:α->List SV}{n:Nat}[h:EL e n](l:List α):Rows n (l.map e) (l.flatMap e):=⟨sN e l,λr hr=>by obtain⟨x,_,rfl⟩:=List.mem_map.1 hr;exact h.len x⟩
theorem DL{M:Mem}:∀{l k:List SV} {vs:List Value},SV.ec M (l++k) vs->∃us ws,vs=us++ws/\SV.ec M l us/\SV.ec M k ws
 |[],_,vs,h=>⟨[],vs,Y,aq,h⟩
 |_::_,_,[],h=>h.elim
 |_::l,_,v::vs,h=>by
  obtain⟨us,ws,rfl,h1,h2⟩:=DL (l:=l) h.2;exact⟨v::us,ws,Y,⟨h.1,h1⟩,h2⟩
theorem mF{α:Type}{e:α->List SV}{n:Nat}[h:EL e n](l:List α):∀M vs,SV.ec M (l.flatMap e) vs->∀v∈vs,v.oneCell'=true:=by
 intro M
 induction l with
 |nil=>intro vs hv;cases vs with|nil=>simp|cons _ _=>exact hv.elim
 |cons x l ih=>
  intro vs hv;rw[List.flatMap_cons]at hv;obtain⟨us,ws,rfl,h1,h2⟩:=DL hv;intro v hv;rcases List.mem_append.1 hv with hv|hv
  ·exact(h.one x).h M us h1 v hv
  exact ih ws h2 v hv
theorem GB{α:Type}{e:α->List SV}{n:Nat}[h:EL e n]:∀{l:List α} {k:Nat} {a:α},l[k]? =some a->((l.flatMap e).drop (k*n)).take n=e a
 |[],_,_,hh=>by simp at hh
 |x::l,0,a,hh=>by
  simp only[List.getElem?_cons_zero,Option.some.injEq]at hh;subst hh;rw[List.flatMap_cons,Nat.zero_mul,List.drop_zero,<-h.len x,List.take_left'];rfl
 |x::l,k+1,a,hh=>by
  rw[List.getElem?_cons_succ]at hh;rw[List.flatMap_cons,show(k+1)*n=(e x).length+k*n by rw[h.len,Nat.add_mul];omega,<-List.drop_drop,List.drop_left']
  ·exact GB hh
  rfl
theorem GC{α:Type}{e:α->List SV}{n:Nat}[h:EL e n]{y:α}:∀{l:List α} {k:Nat},k<l.length->mu (l.flatMap e) (k*n) (e y)=(l.set k y).flatMap e:=by
 have aei:∀(u:List SV) (a b:List SV) (j:Nat),j+u.length<=a.length->mu (a++b) j u=mu a j u++b:=by
  intro u
  induction u with
  |nil=>intro a b j _;rfl
  |cons s u ih=>
   intro a b j hj;simp only[List.length_cons]at hj;simp only[mu];rw[List.set_append_left _ _ (by omega),ih _ _ _ (by rw[List.length_set];omega)]
 have aej:∀(u:List SV) (a b:List SV) (j:Nat),mu (a++b) (a.length+j) u=a++mu b j u:=by
  intro u
  induction u with
  |nil=>intro a b j;rfl
  |cons s u ih=>
   intro a b j;simp only[mu];rw[List.set_append_right _ _ (by omega),show a.length+j-a.length=j by omega,show a.length+j+1=a.length+(j+1) by omega,ih]
 have aek:∀(u a:List SV),u.length=a.length->mu a 0 u=u:=by
  have gen:∀(u a p:List SV),u.length=a.length->mu (p++a) p.length u=p++u:=by
   intro u
   induction u with
   |nil=>intro a p ha;have:a=[]:=List.eq_nil_of_length_eq_zero ha.symm;subst this;rfl
   |cons s u ih=>
    intro a p ha;cases a with
    |nil=>cases ha
    |cons t a=>
     simp only[mu];rw[List.set_append_right _ _ (Nat.le_refl _),Nat.sub_self,List.set_cons_zero,show p++s::a=(p++[s])++a by simp,show p.length+1=(p++[s]).length by simp,ih a _ (by simpa using ha)];simp
  intro u a ha;exact gen u a [] ha
 intro l
 induction l with
 |nil=>intro k hk;simp at hk
 |cons x l ih=>
  intro k hk;cases k with
  |zero=>
   rw[List.set_cons_zero,List.flatMap_cons,List.flatMap_cons,Nat.zero_mul,aei _ _ _ _ (by rw[h.len,h.len];omega),aek _ _ (by rw[h.len,h.len])]
  |succ k=>
   simp only[List.length_cons]at hk;rw[List.set_cons_succ,List.flatMap_cons,List.flatMap_cons,show(k+1)*n=(e x).length+k*n by rw[h.len,Nat.add_mul];omega,aej,ih (by omega)]
end
section
open Go.RowKit
section steps
variable {P:Program}{C:Ctx}{ops:Array Oper}{S:AS}{nd:Bool}{K:List Ac->AS->Prop}{rest:List Oper}{acc:List Ac}
variable {gd:Option (Nat×Bool)}{rg:List Nat}{d:Nat}{ty:TypeId}{pos:String}{aft:Array Edge}{x y z:Operand}{T U E0:TypeId}
variable {α:Type}{l l' k:List α}{e:α->List SV}{n by_:Nat}{zv:Value}
theorem RT.ael(hg:Gd ops S gd rg){s X:SV}(hx:S.ev x=.sv s)(hi:SV.imp s X)(hd:d<S.n)
  (next:RunT P C ops nd K rest (⟨rg++aX x,[],[],⟨some (d,.sv X),[],[]⟩⟩::acc) (S.set d (.sv X))):RunT P C ops nd K (⟨some d,.assign x,ty,pos,aft,gd⟩::rest) acc S:=
 RT.value hg (aX x) [] [] (.sv X) hd (by intro c h;cases h) (λS' ht _ _ E a w h=>by
  have hx':S'.ev x=.sv s:=by rw[bA (λ_ h=>h) ht,hx]
  exact⟨a.eval x,Y,by have:=h.ev x;rw[hx']at this;exact hi _ _ this,fg⟩) next
theorem L1{E:Env}:∀{l l':List SV} {vs:List Value},cj l l'->SV.ec E.M l vs->dx E (l'.map AV.sv) vs:=λhi h=>dx.xk (hi.holds h)
theorem EF(M:Mem):∀l:List Value,SV.ec M (l.map SV.v) l
 |[]=>trivial
 |_::l=>⟨Y,EF M l⟩
theorem RT.wc(hg:Gd ops S gd rg)[tz:iM P T zv]{cs:List SV}(hi:cj (zv.cells.toList.map SV.v) cs){av:List AV}(hav:cs.map AV.sv=av)(hd:d<S.n)(hb:S.b d=none)(hp:C.gK d=none)
  (next:RunT P C ops nd K rest (⟨rg++[],[d],[],⟨some (d,.ptr d 0),[(d,⟨T,av⟩)],[]⟩⟩::acc) ((S.jW d ⟨T,av⟩).set d (.ptr d 0))):RunT P C ops nd K (⟨some d,.alloc T,ty,pos,aft,gd⟩::rest) acc S:=by
 subst hav;exact RT.Ky hg (by intro c h;cases h) [] hd hb hp (λS' _ E a w h=>⟨zv.cells.toList,by simp[execOp,Instr.alloc,newVar,newRow,tz.run],L1 hi (EF _ _),λy hy=>by
  obtain⟨s,_,rfl⟩:=List.mem_map.1 hy;exact fg⟩) next
theorem RT.Vy(hg:Gd ops S gd rg){pl:List (Nat×Nat)}{zc:List Value}[tP:iY P T pl zc]{parts:Array (Nat×Operand)}{qs:List (Nat×List SV)}(hp:nS S parts.toList qs){cs cs':List SV}(hf:vc (λi=>pl[i]?) (zc.map SV.v) qs=some cs)(hi:cj cs cs')(hd:d<S.n)
  (next:RunT P C ops nd K rest (⟨rg++lG parts.toList,[],[],⟨some (d,.sv (.agg cs')),[],[]⟩⟩::acc) (S.set d (.sv (.agg cs')))):RunT P C ops nd K (⟨some d,.build T parts,ty,pos,aft,gd⟩::rest) acc S:=by
 refine RT.value hg (lG parts.toList) [] [] (.sv (.agg cs')) hd (by intro c h;cases h) (λS' ht _ _ E a w h=>?_) next
 have hu:=tP.h;cases hT:P.underlying T with
 |none=>rw[hT]at hu;cases hu
 |some u=>
  rw[hT]at hu;cases u with
  |struct fs=>
   simp only at hu;have hz:(zeroValue T).run P w=.ok (.agg ⟨zc⟩) w:=iM.run (t:=⟨tP.hz⟩) w;obtain⟨us,h1,h2,_⟩:=Bt h (λi=>pl[i]?) hp ht (cells:=zc.map SV.v) (vs:=zc) (EF _ zc) (List.all_eq_true.1 tP.o) hf;refine⟨.agg ⟨us⟩,?_,⟨us,Y,hi.holds h2⟩,fg⟩;have hm:(fs.mapM (λf=>do pure (f.offset,<-sizeOf f.type):Field->Sem (Nat×Nat))).run P w=.ok pl.toArray w:=by
    have:=sG (P:=P) (w:=w) hu;rw[<-Array.toArray_toList (xs:=fs),List.mapM_toArray];rw[Sem.run_map,this];rfl
   have h1':Instr.fill (λi=>pl.toArray[i]?) ⟨zc⟩ (parts.toList.map λp=>(p.1,a.eval p.2))=some ⟨us⟩:=by simpa using h1
   simp only[execOp,Instr.build,underlying];simp only[Sem.run_bind,hz,Result.andThen_ok,run_program,hT,Sem.run_pure,Value.cells];have hm':(Array.mapM (λf=>do
     let __do_lift<-sizeOf f.type
     pure (f.offset,__do_lift)) fs:Sem _).run P w=.ok pl.toArray w:=hm
   simp only[hm',Result.andThen_ok];have e4:(Array.map (λx=>match x with|(i,x)=>(i,a.eval x)) parts).toList=parts.toList.map λp=>(p.1,a.eval p.2):=by simp
   simp only[e4,h1',Sem.run_pure,Result.andThen_ok]
  |_=>cases hu
theorem Pure.w{f:FuncId}{args args':List SV}{r:SV}(h:Pure P f args r)(hi:cj args' args):Pure P f args' r:=λM w vs hM hv=>h M w vs hM (hi.holds hv)
theorem RT.Zq(hg:Gd ops S gd rg){m:Nat}[tS:eP P T E0 m]{c:Int}(hx:S.ev x=.sv (slc n (l.map e)))(hd:d<S.n)(hc:(l.length:Int)=c)
  (next:RunT P C ops nd K rest (⟨rg++aX x,[],[],⟨some (d,.sv (.v (.int .i64 c))),[],[]⟩⟩::acc) (S.set d (.sv (.v (.int .i64 c))))):RunT P C ops nd K (⟨some d,.call ⟨.builtin .len,#[x],#[T]⟩,ty,pos,aft,gd⟩::rest) acc S:=
 RT.len hg hx hd (by rw[List.length_map,hc];exact next)
theorem RT.NL(hg:Gd ops S gd rg){m:Nat}[tS:eP P T E0 m]{i:Nat}{E1:TypeId}{c:Int}(hx:S.ev x=.row i)(hR:S.r i=.live (TR E1 n e l))(hd:d<S.n)(hc:(l.length:Int)=c)
  (next:RunT P C ops nd K rest (⟨rg++aX x,[],[i],⟨some (d,.sv (.v (.int .i64 c))),[],[]⟩⟩::acc) (S.set d (.sv (.v (.int .i64 c))))):RunT P C ops nd K (⟨some d,.call ⟨.builtin .len,#[x],#[T]⟩,ty,pos,aft,gd⟩::rest) acc S:=
 RT.adP hg hx hR hd (by show RunT _ _ _ _ _ _ (⟨_,_,_,⟨some (d,.sv (.v (.int .i64 (l.length:Int)))),_,_⟩⟩::_) (S.set d (.sv (.v (.int .i64 (l.length:Int)))));rw[hc];exact next)
theorem RT.Ro(hg:Gd ops S gd rg)[tS:eP P T E0 n]{kk:IntKind}{i:Int}{a:α}(hx:S.ev x=.sv (slc n (l.map e)))(hy:S.ev y=.sv (.v (.int kk i)))(hd:d<S.n)(ha:cU l i=some a)
  (next:RunT P C ops nd K rest (⟨rg++(aX x++aX y),[],[],⟨some (d,.sv (ref (e a))),[],[]⟩⟩::acc) (S.set d (.sv (ref (e a))))):RunT P C ops nd K (⟨some d,.indexAddr T x y,ty,pos,aft,gd⟩::rest) acc S:=
 RT.indexAddr hg (e a) hx hy hd (qB ha).1 (by rw[List.getElem?_map,(qB ha).2];rfl) next
theorem RT.Jn(hg:Gd ops S gd rg)[tS:eP P T E0 n]{lo hi:Option Operand}(a b:Int)(hx:S.ev x=.sv (slc n (l.map e)))(hlo:Bu S 0 lo a)(hhi:Bu S l.length hi b)(hd:d<S.n)(h:Db l a b=some l')
  (next:RunT P C ops nd K rest (⟨rg++(aX x++(nT lo++nT hi)),[],[],⟨some (d,.sv (slc n (l'.map e))),[],[]⟩⟩::acc) (S.set d (.sv (slc n (l'.map e))))):RunT P C ops nd K (⟨some d,.slice T x lo hi none,ty,pos,aft,gd⟩::rest) acc S:=by
 obtain⟨h0,h1,h2,h3⟩:=DK h;exact RT.slice hg hx a b hlo (by rw[List.length_map];exact hhi) hd h0 h1 (by rw[List.length_map];exact h2) _ (by rw[KD,h3]) next
theorem RT.gi(hg:Gd ops S gd rg)[tS:eP P T E0 n][tE:jI P E0 n by_ zv]{len:Nat}{parts:Array (Nat×Operand)}{qs:List (Nat×List SV)}(hp:nS S parts.toList qs)(hd:d<S.n)
  (hc:pZ 0 qs=true) (hl:qs.length=len) (hsz:(qs.all λq=>Nat.beq q.2.length n)=true) (hlen:Nat.ble (len*n) 16777216=true) (LW:(zv.cells.toList.all λv=>v.oneCell')=true) (iW:qs.map (·.2)=l.map e)
  (next:RunT P C ops nd K rest (⟨rg++lG parts.toList,[],[],⟨some (d,.sv (slc n (l.map e))),[],[]⟩⟩::acc) (S.set d (.sv (slc n (l.map e))))):RunT P C ops nd K (⟨some d,.buildSlice T len parts,ty,pos,aft,gd⟩::rest) acc S:=
 RT.buildSlice hg hp hd hc hl hsz (af hlen) (List.all_eq_true.1 LW) iW next
theorem RT.Rp(hg:Gd ops S gd rg)[tS:eP P T E0 n][tE:jI P E0 n by_ zv]{len:Nat}{parts:Array (Nat×Operand)}{qs:List (Nat×List SV)}(hp:nS S parts.toList qs)(hd:d<S.n)(xp:S.r d=.un)(uZ:d<1000)
  (hc:pZ 0 qs=true) (hl:qs.length=len) (hsz:(qs.all λq=>Nat.beq q.2.length n)=true) (hlen:Nat.ble (len*n) 16777216=true) (LW:(zv.cells.toList.all λv=>v.oneCell')=true) (iW:qs.map (·.2)=l.map e)
  (next:RunT P C ops nd K rest (⟨rg++lG parts.toList,[],[d],⟨some (d,.row d),[],[(d,.live (TR E0 n e l))]⟩⟩::acc) ((AS.cc [(d,.live (TR E0 n e l))] S).set d (.row d))):RunT P C ops nd K (⟨some d,.buildSlice T len parts,ty,pos,aft,gd⟩::rest) acc S:=by
 refine RT.Gx hg hp hd xp uZ hc hl hsz (af hlen) (List.all_eq_true.1 LW) (cells:=l.flatMap e) (by rw[iW,sN]) ?_;have:len=l.length:=by have h0:=congrArg List.length iW;simpa[hl]using h0
 rw[this];exact next
theorem RT.apR(hg:Gd ops S gd rg)[tS:eP P T E0 n][tE:jI P E0 n by_ zv]{i:Nat}(hx:S.ev x=.row i)(hR:S.r i=.live (TR E0 n e l))(hy:S.ev y=.sv (slc n (k.map e)))(hd:d<S.n)(xp:S.r d=.un)(uZ:d<1000)(h:yM by_ l k=some l')
  (next:RunT P C ops nd K rest (⟨rg++(aX x++aX y),[],[i,d],⟨some (d,.row d),[],[(i,.dead),(d,.live (TR E0 n e l'))]⟩⟩::acc) ((AS.cc [(i,.dead),(d,.live (TR E0 n e l'))] S).set d (.row d))):RunT P C ops nd K (⟨some d,.call ⟨.builtin .append,#[x,y],#[T,T]⟩,ty,pos,aft,gd⟩::rest) acc S:=by
 obtain⟨h1,h2,rfl⟩:=xA h;exact RT.Rc hg hx hR hy hd xp uZ (by simpa using h1) (by simpa using h2) _ (by simp[sN]) next
theorem RT.aen(hg:Gd ops S gd rg)[tS:eP P T E0 n][tE:jI P E0 n by_ zv][el:EL e n]{i:Nat}(hx:S.ev x=.row i)(hR:S.r i=.live (TR E0 n e l))(hy:S.ev y=.sv (slc n (k.map e)))(hd:d<S.n)(xp:S.r d=.un)(uZ:d<1000)(h:yM by_ l k=some l')
  (next:RunT P C ops nd K rest (⟨rg++(aX x++aX y),[],[d,i],⟨some (d,.sv (slc n (l'.map e))),[],[(i,.dead),(d,.dead)]⟩⟩::acc) ((AS.cc [(i,.dead),(d,.dead)] S).set d (.sv (slc n (l'.map e))))):RunT P C ops nd K (⟨some d,.call ⟨.builtin .append,#[x,y],#[T,T]⟩,ty,pos,aft,gd⟩::rest) acc S:=by
 obtain⟨h1,h2,rfl⟩:=xA h;have hf:l.flatMap e++(k.map e).flatten=(l++k).flatMap e:=by simp[sN]
 exact RT.KI hg (.row hx hR) hy hd xp uZ (by simpa using h1) (by simpa using h2) _ (rows':=(l++k).map e) (λ_ _ h _=>h) (by rw[hf];exact qD _) (by simp) (by rw[hf];exact mF _) next
theorem DM(zc:Array Value)(n:Nat)(hz:zc.size=n)(hn:0<n):∀m:Nat,(madeCells zc (m*n)).toList=(List.replicate m zc.toList).flatten
 |0=>by simp[madeCells]
 |m+1=>by
  have ih:=DM zc n hz hn m;rw[List.replicate_succ',List.flatten_append,<-ih];simp only[madeCells,Array.toList_map,Array.toList_range,List.flatten_cons,List.flatten_nil,List.append_nil];rw[show(m+1)*n=m*n+n by rw[Nat.add_mul];omega,List.range_add,List.map_append,List.map_map];congr 1;apply List.ext_getElem?;intro i;rw[List.getElem?_map];rcases Nat.lt_or_ge i n with hi|hi
  ·rw[List.getElem?_range hi];simp only[Option.map_some,Function.comp];rw[hz,Nat.mul_comm m n,Nat.mul_add_mod,Nat.mod_eq_of_lt hi];rw[getElem!_pos zc i (by omega),Array.getElem?_toList,Array.getElem?_eq_getElem (by omega)]
  rw[List.getElem?_eq_none (by simpa using hi),List.getElem?_eq_none (by simp;omega)];rfl
theorem GD:∀{a b c d:List SV},cj a c->cj b d->cj (a++b) (c++d)
 |[],_,[],_,_,h=>h
 |_::_,_,_::_,_,h,h'=>⟨h.1,GD h.2 h'⟩
 |[],_,_::_,_,h,_=>h.elim
 |_::_,_,[],_,h,_=>h.elim
theorem GF{zl:List Value}{zz:α}(hi:cj (zl.map SV.v) (e zz)):∀m:Nat,cj ((List.replicate m zl).flatten.map SV.v) ((List.replicate m zz).flatMap e)
 |0=>trivial
 |m+1=>by
  rw[List.replicate_succ,List.replicate_succ,List.flatten_cons,List.map_append,List.flatMap_cons];exact GD hi (GF hi m)
theorem RT.oA(hg:Gd ops S gd rg)[tS:eP P T E0 n][tE:jI P E0 n by_ zv]{kl kc:IntKind}{c:Int}{zz:α}(hx:S.ev x=.sv (.v (.int kl c)))(hy:S.ev y=.sv (.v (.int kc c)))(hd:d<S.n)(xp:S.r d=.un)(uZ:d<1000)(hz:zv.cells.size=n)(hn:0<n)(hi:cj (zv.cells.toList.map SV.v) (e zz))(hm:CV by_ c zz=some l')
  (next:RunT P C ops nd K rest (⟨rg++(aX x++aX y),[],[d],⟨some (d,.row d),[],[(d,.live (TR E0 n e l'))]⟩⟩::acc) ((AS.cc [(d,.live (TR E0 n e l'))] S).set d (.row d))):RunT P C ops nd K (⟨some d,.makeSlice T x y,ty,pos,aft,gd⟩::rest) acc S:=by
 obtain⟨h0,hroom,sE,rfl⟩:=NH hm;refine .inl ⟨_,[],[d],_,?_,next⟩;rintro S' hn' ht _ hr i a w L Q ho ⟨E,h⟩ hL;refine cD (C:=C) ho (hg.wanted h (λs hs=>ht s (List.mem_append_left _ hs)) Y) ?_;have h1:a.eval x=.int kl c:=by have h1:=h.ev x;rw[bA (λ_ h=>List.mem_append_right _ (List.mem_append_left _ h)) ht,hx]at h1;exact h1
 have h2:a.eval y=.int kc c:=by have h2:=h.ev y;rw[bA (λ_ h=>List.mem_append_right _ (List.mem_append_right _ h)) ht,hy]at h2;exact h2
 obtain⟨info,hii,hsz,hby,hzz⟩:=jI.info (P:=P) (E:=E0) (n:=n) (by_:=by_) (z:=zv);obtain⟨m,rfl⟩:=Int.eq_ofNat_of_zero_le h0;have hb':info.bytes*m<=281474976710656:=by
  rw[hby];have:((by_*m:Nat):Int)<=281474976710656:=by rw[Int.natCast_mul];exact hroom
  omega
 obtain⟨w',q1,q2,q3⟩:=run_make_full (P:=P) w 0 T E0 info zv n tS.u hii hzz hsz kl kc m hb' (by unfold maxLen;omega) (Nat.zero_le _);have hr':(execOp a.eval ⟨some d,.makeSlice T x y,ty,pos,aft,gd⟩).run P w=.ok (.value (.slice (some ⟨w.heap.size,0,none⟩) m m)) w':=by
  simp only[execOp,h1,h2];simp[q1]
 have Jd:S'.r d=.un:=by rw[hr d (by simp)];exact xp
 have e0:(m:Int).toNat=m:=by simp
 have hall:SV.ec E.M ((List.replicate m zz).flatMap e) (madeCells zv.cells (m*n)).toList:=by
  rw[DM zv.cells n hz hn];exact cj.holds (l:=((List.replicate m zv.cells.toList).flatten.map SV.v)) (GF hi m) (EF _ _)
 have hlen:(List.replicate (m:Int).toNat zz).length=m:=by simp
 refine cz (C:=C) (by intro c h;cases h) hr' (hL _ _ ⟨_,(h.newRow Jd uZ [] none (.inl ⟨rfl,rfl⟩) (R':=TR E0 n e (List.replicate (m:Int).toNat zz)) (by show w'.ownsRow 0 E0 n _ (List.replicate (m:Int).toNat zz).length _;rw[hlen];exact q2) (by rw[e0];exact hall) (.inr (.inl rfl)) q3).put (d:=d) (x:=.row d) (v:=.slice (some ⟨w.heap.size,0,none⟩) m m) (by simp[AV.holds]) (by show d<S'.n;omega) ⟨λ_ e=>e.elim,λj e=>?_⟩⟩);cases e;show(AS.ou S' d _).r d≠_;rw[AS.gM];simp
theorem RT.DN(hg:Gd ops S gd rg)[tS:eP P T E0 n][tE:jI P E0 n by_ zv]{kl kc:IntKind}{c:Int}(hx:S.ev x=.sv (.v (.int kl 0)))(hy:S.ev y=.sv (.v (.int kc c)))(hd:d<S.n)(xp:S.r d=.un)(uZ:d<1000)(h:NF (α:=α) by_ c=some l')
  (next:RunT P C ops nd K rest (⟨rg++(aX x++aX y),[],[d],⟨some (d,.row d),[],[(d,.live (TR E0 n e l'))]⟩⟩::acc) ((AS.cc [(d,.live (TR E0 n e l'))] S).set d (.row d))):RunT P C ops nd K (⟨some d,.makeSlice T x y,ty,pos,aft,gd⟩::rest) acc S:=by
 obtain⟨h0,h1,h2,rfl⟩:=NI h;exact RT.Y4 hg hx hy hd xp uZ h0 h1 h2 next
theorem RT.NM(hg:Gd ops S gd rg)[tS:eP P T E0 n]{i j:Nat}{E1:TypeId}{kk:IntKind}{v:Int}(hx:S.ev x=.row i)(hR:S.r i=.live (TR E1 n e l))(hy:S.ev y=.sv (.v (.int kk v)))(hd:d<S.n)(h:ko l v=some j)
  (next:RunT P C ops nd K rest (⟨rg++(aX x++aX y),[],[i],⟨some (d,.jo i (j*n)),[],[]⟩⟩::acc) (S.set d (.jo i (j*n)))):RunT P C ops nd K (⟨some d,.indexAddr T x y,ty,pos,aft,gd⟩::rest) acc S:=by
 obtain⟨h0,h1,h2⟩:=NG h;exact RT.ixR hg (.row hx hR) hy hd h0 h1 (j*n) (by rw[h2];omega) next
theorem RT.L2(hg:Gd ops S gd rg)[tV:ru P T][el:EL e 1]{i j:Nat}{E1:TypeId}{a:α}{s:SV}(hx:S.ev x=.jo i (j*1))(hR:S.r i=.live (TR E1 1 e l))(ha:l[j]? =some a)(hs:e a=[s])(hd:d<S.n)
  (next:RunT P C ops nd K rest (⟨rg++aX x,[],[i],⟨some (d,.sv s),[],[]⟩⟩::acc) (S.set d (.sv s))):RunT P C ops nd K (⟨some d,.load T x,ty,pos,aft,gd⟩::rest) acc S:=by
 refine RT.ldR hg hx hR (s:=s) ?_ hd next
 have:=GB (e:=e) ha;rw[hs]at this;have h2:=congrArg (·[0]?) this;simpa[List.getElem?_take]using h2
theorem Rr(a:List SV)(k:Nat)(s:SV):a.set k s=mu a k [s]:=rfl
theorem RT.aeo(hg:Gd ops S gd rg)[tV:ru P T][el:EL e 1]{i j:Nat}{E1:TypeId}{s:SV}[o1:One s](a:α)(hs:e a=[s])(hx:S.ev x=.jo i (j*1))(hR:S.r i=.live (TR E1 1 e l))(hy:S.ev y=.sv s)(h:stM l j a=some l')
  (next:RunT P C ops nd K rest (⟨rg++(aX x++aX y),[],[i],⟨none,[],[(i,.live (TR E1 1 e l'))]⟩⟩::acc) (AS.cc [(i,.live (TR E1 1 e l'))] S)):RunT P C ops nd K (⟨none,.store T x y,ty,pos,aft,gd⟩::rest) acc S:=by
 obtain⟨h1,rfl⟩:=GA h;refine RT.stR hg hx hR hy (by show j*1+1<=l.length*1;omega) ((l.set j a).flatMap e) (by rw[Rr,<-hs];exact GC h1) ?_;have:(TR E1 1 e (l.set j a))=⟨E1,1,l.length,(l.set j a).flatMap e⟩:=by show Row.mk _ _ _ _=_;rw[List.length_set]
 rw[<-this];exact next
theorem RT.Zs(hg:Gd ops S gd rg)[tA:AK P T n][el:EL e n]{i j:Nat}{E1:TypeId}(a:α)(hx:S.ev x=.jo i (j*n))(hR:S.r i=.live (TR E1 n e l))(hy:S.ev y=.sv (.agg (e a)))(h:stM l j a=some l')
  (next:RunT P C ops nd K rest (⟨rg++(aX x++aX y),[],[i],⟨none,[],[(i,.live (TR E1 n e l'))]⟩⟩::acc) (AS.cc [(i,.live (TR E1 n e l'))] S)):RunT P C ops nd K (⟨none,.store T x y,ty,pos,aft,gd⟩::rest) acc S:=by
 obtain⟨h1,rfl⟩:=GA h;have o1:=el.one a;refine RT.adX hg hx hR hy (el.len a) (by show j*n+n<=l.length*n;have:=Nat.mul_le_mul_right n h1;rw[Nat.succ_mul]at this;exact this) ((l.set j a).flatMap e) (GC h1) ?_;have:(TR E1 n e (l.set j a))=⟨E1,n,l.length,(l.set j a).flatMap e⟩:=by show Row.mk _ _ _ _=_;rw[List.length_set]
 rw[<-this];exact next
end steps
theorem oh{S:AS}{i n:Nat}{E1:TypeId}{α:Type}{e:α->List SV}{l:List α}[el:EL e n](hR:S.r i=.live (TR E1 n e l)):sy S (S.nR i (slc n (l.map e))):=by
 rintro C a w ⟨E,h⟩;have hlen:l.length<=9223372036854775807:=by
  obtain⟨⟨vs,ho,hv⟩,_⟩:=h.rx i _ hR;rcases ho.2 with⟨_,q2⟩|⟨g',cap,cur,q1,_,q2,q3,q4,q5,q6⟩
  ·have q2:l.length=0:=q2;omega
  have q3:l.length<=cap:=q3;have:maxLen=9223372036854775807:=by decide
  omega
 exact h.nR hR (qD l) (by rw[List.length_map]) hlen (mF l) (λ_ _ h _=>h)
section control
variable {P:Program}{C:Ctx}{S:AS}{Q:Exit->AS->Prop}
theorem bH{A:Code}{J R:Type}{kB:J->Option R}{fA:(J->Option R)->Option R}{r:R}(h:cK kB fA=some r)(I:J->AS)
  (hA:fA kB=some r->Ok P C A S (aV (λS'=>∃j,kB j=some r/\sy S' (I j)) Q)) (hQ:∀j,kB j=some r->Q .normal (I j)):Ok P C A S Q:=λa w hs=>by
 refine wpIn_mono (hA h a w hs) ?_;rintro e a' w' ⟨S',q,hh⟩;cases e with
 |normal=>obtain⟨j,h1,h2⟩:=q;exact⟨_,hQ j h1,h2 C a' w' hh⟩
 |_=>exact⟨S',q,hh⟩
theorem bU{A:Code}{X:Type}(I:X->AS)(p:X->Prop)(hA:Ok P C A S (aV (λS'=>∃j,p j/\sy S' (I j)) Q))(hQ:∀j,p j->Q .normal (I j)):Ok P C A S Q:=λa w hs=>by
 refine wpIn_mono (hA a w hs) ?_;rintro e a' w' ⟨S',q,hh⟩;cases e with
 |normal=>obtain⟨j,h1,h2⟩:=q;exact⟨_,hQ j h1,h2 C a' w' hh⟩
 |_=>exact⟨S',q,hh⟩
theorem bV{c:Code}{T E:Type}{body:T->Option (T⊕E)}{s0:T}{e:E}(h:cy body s0=some e)(I:T->AS)(h0:sy S (I s0))
  (round:∀(s:T) (y:T⊕E) (G:T->Prop),body s=some y->(∀s',y=.inl s'->G s')->(∀e',y=.inr e'->e'=e)->Ok P C c (I s) (aV (λS'=>∃s',G s'/\sy S' (I s')) Q)):Ok P C (.loop c) S Q:=by
 obtain⟨n,hn⟩:=vZ h;refine xm (ι:={x:T×Nat//nV body x.2 x.1=some e}) (λx=>I x.1.1) (λx=>x.1.2) ⟨(s0,n),hn⟩ h0 ?_;rintro⟨⟨s,m⟩,hm⟩;cases m with
 |zero=>cases hm
 |succ m=>
  cases hb:body s with
  |none=>simp only[nV,hb]at hm;cases hm
  |some y=>
   refine Et (round s y (λs'=>nV body m s'=some e) hb ?_ ?_) ?_
   ·rintro s' rfl;simpa only[nV,hb]using hm
   ·rintro e' rfl;simp only[nV,hb]at hm;exact Option.some.inj hm
   intro ex S' q;cases ex with
   |normal=>obtain⟨s',h1,h2⟩:=q;exact⟨⟨(s',m),h1⟩,Nat.lt_succ_self m,h2⟩
   |_=>exact q
end control
end
section
open Go.RowKit
abbrev QS:=List UInt8
def bs(l:QS):ByteArray:=⟨⟨l⟩⟩
def vf(l:QS)(i:Int):Option Nat:=(cU l i).map UInt8.toNat
theorem Rt(l:QS):(bs l).size=l.length:=rfl
theorem Vz(l:QS)(i:Nat):(bs l)[i]? =l[i]? :=by
 rcases Nat.lt_or_ge i l.length with h|h
 ·rw[getElem?_pos (bs l) i h,List.getElem?_eq_getElem h];rfl
 rw[getElem?_neg (bs l) i (by rw[Rt];omega),List.getElem?_eq_none h]
section steps
variable {P:Program}{C:Ctx}{ops:Array Oper}{S:AS}{nd:Bool}{K:List Ac->AS->Prop}{rest:List Oper}{acc:List Ac}
variable {gd:Option (Nat×Bool)}{rg:List Nat}{d:Nat}{ty:TypeId}{pos:String}{aft:Array Edge}{x y z:Operand}{T U E0:TypeId}
variable {l l' k:QS}
theorem RT.skV{op:Op}{j g:Nat}{b want:Bool}(h1:(ops[j]?).bind (·.dst)=some g)(h2:S.t g=.sv (.v (.bool b)))(hb:b≠want)(hd:d<S.n)
  (next:RunT P C ops nd K rest (⟨[g],[],[],⟨some (d,.sv (.v undef)),[],[]⟩⟩::acc) (S.set d (.sv (.v undef)))):RunT P C ops nd K (⟨some d,op,ty,pos,aft,some (j,want)⟩::rest) acc S:=by
 refine .inl ⟨[g],[],[],⟨some (d,.sv (.v undef)),[],[]⟩,?_,next⟩;rintro S' hn ht _ _ i a w L Q ho ⟨E,h⟩ hL;have hv:=h.tm g;rw[ht g (by simp),h2]at hv;have hv:a.tmps.getD g undef=.bool b:=hv;have Gb:a.tmps[g]? =some (.bool b):=by
  rw[Array.getD_eq_getD_getElem?]at hv;cases e:a.tmps[g]? with
  |none=>rw[e]at hv;simp[undef]at hv
  |some x=>rw[e]at hv;simp at hv;rw[hv]
 have hw:Region.wanted ⟨some d,op,ty,pos,aft,some (j,want)⟩ (yielded ops a.tmps)=false:=by
  simp[Region.wanted,yielded,h1,Gb,hb]
 simp only[wpOpIn,ho,hw];exact⟨λ_ _=>trivial,hL _ _ ⟨E,h.put (x:=.sv (.v undef)) (v:=undef) Y (by omega) ⟨λ_ h=>h.elim,λ_ h=>h.elim⟩⟩⟩
theorem RT.Zt{op:Op}{j g:Nat}{want:Bool}(h1:(ops[j]?).bind (·.dst)=some g)(h2:S.t g=.sv (.v undef))(hd:d<S.n)
  (next:RunT P C ops nd K rest (⟨[g],[],[],⟨some (d,.sv (.v undef)),[],[]⟩⟩::acc) (S.set d (.sv (.v undef)))):RunT P C ops nd K (⟨some d,op,ty,pos,aft,some (j,want)⟩::rest) acc S:=by
 refine .inl ⟨[g],[],[],⟨some (d,.sv (.v undef)),[],[]⟩,?_,next⟩;rintro S' hn ht _ _ i a w L Q ho ⟨E,h⟩ hL;have hv:=h.tm g;rw[ht g (by simp),h2]at hv;have hv:a.tmps.getD g undef=undef:=hv;rw[Array.getD_eq_getD_getElem?]at hv;have hw:Region.wanted ⟨some d,op,ty,pos,aft,some (j,want)⟩ (yielded ops a.tmps)=false:=by
  cases e:a.tmps[g]? with
  |none=>simp[Region.wanted,yielded,h1,e]
  |some x=>
   rw[e]at hv;simp only[Option.getD_some]at hv;subst hv;simp[Region.wanted,yielded,h1,e,undef]
 simp only[wpOpIn,ho,hw];exact⟨λ_ _=>trivial,hL _ _ ⟨E,h.put (x:=.sv (.v undef)) (v:=undef) Y (by omega) ⟨λ_ h=>h.elim,λ_ h=>h.elim⟩⟩⟩
theorem RT.six(hg:Gd ops S gd rg)[tS:Td P T]{kk:IntKind}{i:Int}{c:Nat}(hx:S.ev x=.sv (.v (.string (bs l))))(hy:S.ev y=.sv (.v (.int kk i)))(hd:d<S.n)(h:vf l i=some c)
  (next:RunT P C ops nd K rest (⟨rg++(aX x++aX y),[],[],⟨some (d,.sv (.v (.int .u8 (c:Nat)))),[],[]⟩⟩::acc) (S.set d (.sv (.v (.int .u8 (c:Nat)))))):RunT P C ops nd K (⟨some d,.index T x y,ty,pos,aft,gd⟩::rest) acc S:=
 RT.IV hg (by intro c h;cases h) hx hy hd (λρ w h1 h2=>by
  unfold vf at h;cases hh:cU l i with
  |none=>rw[hh]at h;cases h
  |some b=>
   rw[hh]at h;obtain⟨q1,q2⟩:=qB hh;have q3:b.toNat=c:=Option.some.inj h;have q4:(bs l)[i.toNat]? =some b:=by rw[Vz];exact q2
   simp[execOp,h1,h2,Instr.index,asIntOf,underlying,tS.h,q1,q4,q3]) next
end steps
section rows
variable {P:Program}{C:Ctx}{ops:Array Oper}{S:AS}{nd:Bool}{K:List Ac->AS->Prop}{rest:List Oper}{acc:List Ac}
variable {gd:Option (Nat×Bool)}{rg:List Nat}{d:Nat}{ty:TypeId}{pos:String}{aft:Array Edge}{x y z:Operand}{T U E0:TypeId}
variable {α:Type}{l l' k:List α}{e:α->List SV}{n by_:Nat}{zv:Value}
end rows
end
section
open Go.RowKit
def vg{α:Type}(l l':List α):Option Unit:=if l'.length=l.length then some ()else none
theorem mG{α:Type}{l l':List α}{u:Unit}(h:vg l l'=some u):l'.length=l.length:=by
 unfold vg at h;split at h
 ·assumption
 cases h
def VA{α:Type}(l:List α)(lo hi:Int):Option (Nat×Nat):=if 0<=lo/\lo<l.length/\lo<=hi/\hi<=l.length then some (lo.toNat,(hi-lo).toNat)else none
theorem NN{α:Type}{l:List α}{lo hi:Int}{o n:Nat}(h:VA l lo hi=some (o,n)):0<=lo/\lo<l.length/\lo<=hi/\hi<=l.length/\lo.toNat=o/\(hi-lo).toNat=n:=by
 unfold VA at h;split at h
 ·rename_i hh;obtain⟨q1,q2⟩:=Prod.mk.inj (Option.some.inj h);exact⟨hh.1,hh.2.1,hh.2.2.1,hh.2.2.2,q1,q2⟩
 cases h
def QT(o n:Nat)(i:Int):Option Nat:=if 0<=i/\i<n then some (o+i.toNat)else none
theorem NO{o n j:Nat}{i:Int}(h:QT o n i=some j):0<=i/\i<n/\o+i.toNat=j:=by
 unfold QT at h;split at h
 ·rename_i hh;exact⟨hh.1,hh.2,Option.some.inj h⟩
 cases h
theorem cj.get:∀{l l':List SV} {k:Nat} {s':SV},cj l l'->l'[k]? =some s'->∃s,l[k]? =some s/\SV.imp s s'
 |x::_,y::_,0,_,h,e=>⟨x,Y,by simp at e;subst e;exact h.1⟩
 |_::l,_::l',k+1,_,h,e=>by simpa using cj.get (l:=l) (l':=l') h.2 (by simpa using e)
 |[],[],_,_,_,e=>by simp at e
 |[],_::_,_,_,h,_=>h.elim
 |_::_,[],_,_,h,_=>h.elim
theorem cj.len:∀{l l':List SV},cj l l'->l'.length=l.length
 |[],[],_=>rfl
 |_::_,_::_,h=>congrArg (· +1) (cj.len h.2)
 |[],_::_,h=>h.elim
 |_::_,[],h=>h.elim
theorem Ru{α:Type}{e:α->List SV}{l:List α}{n:Nat}{M:Mem}{v:Value}(h:(slc n (l.map e)).h M v):l.length<=9223372036854775807:=by
 rcases h with⟨_,_,h⟩|⟨b,o,c,_,_,h,_⟩
 ·have:l=[]:=by simpa using h
  subst this;simp
 rwa[List.length_map]at h
theorem uC{α:Type}{e:α->List SV}{l:List α}{n:Nat}{M:Mem}{v:Value}(h:(ref [slc n (l.map e)]).h M v):l.length<=9223372036854775807:=by
 obtain⟨b,o,_,h⟩:=h;obtain⟨y,_,_,h⟩:=h 0 _ Y;exact Ru h
theorem we{l:List Nat}{i:Nat}(h:l.length<=i):l.getD i 0=0:=by simp[List.getD,List.getElem?_eq_none h]
theorem sO{l:List Nat}{i:Nat}(h:i<l.length):l[i]? =some (l.getD i 0):=by simp[List.getD,h]
theorem iH{α:Type}{l:List α}{d:α}{i:Nat}(h:l.length<=i):l.getD i d=d:=by simp[List.getD,List.getElem?_eq_none h]
theorem jh{α:Type}{l:List α}{d:α}{i:Nat}(h:i<l.length):l[i]? =some (l.getD i d):=by simp[List.getD,h]
theorem BE{α β:Type}(a:List α)(b:List β)(i:Nat)(h:i<=max a.length b.length):(i<max a.length b.length/\i<a.length/\i<b.length)\/(i<max a.length b.length/\i<a.length/\b.length<=i)\/(i<max a.length b.length/\a.length<=i/\i<b.length)\/i=max a.length b.length:=by omega
section steps
variable {P:Program}{C:Ctx}{ops:Array Oper}{S:AS}{nd:Bool}{K:List Ac->AS->Prop}{rest:List Oper}{acc:List Ac}
variable {gd:Option (Nat×Bool)}{rg:List Nat}{d:Nat}{ty:TypeId}{pos:String}{aft:Array Edge}{x y z:Operand}{T U E0:TypeId}
variable {α:Type}{l l' k:List α}{e:α->List SV}{n by_:Nat}{zv:Value}
theorem VB{E1:TypeId}(h:l'.length=l.length):(⟨E1,n,l.length,l'.flatMap e⟩:Row)=TR E1 n e l':=by show _=Row.mk _ _ _ _;rw[h]
theorem RT.VC(hg:Gd ops S gd rg){f:FuncId}[dM P f]{g:Operand}{xs:Array Operand}{at_:Array TypeId}{args:List AV}{E1:TypeId}{res:AV}(hp:Jg P f args (TR E1 n e l) res (l'.flatMap e))(hlen:l'.length=l.length)(i:Nat)(hR:S.r i=.live (TR E1 n e l))(hrow:args.all AV.yI=true)(hres:res.yI=true)
  (hf:S.ev g=.sv (.v (.func (.func f) #[] #[]))) (hargs:sI S xs.toList (args.map (AV.zS i))) (hd:d<S.n)
  (next:RunT P C ops nd K rest (⟨rg++(aX g++xs.toList.flatMap aX),[],[i],⟨some (d,res.zS i),[],[(i,.live (TR E1 n e l'))]⟩⟩::acc) ((AS.cc [(i,.live (TR E1 n e l'))] S).set d (res.zS i))):RunT P C ops nd K (⟨some d,.call ⟨.value g,xs,at_⟩,ty,pos,aft,gd⟩::rest) acc S:=
 RT.Zd hg hp i hR hrow hres hf hargs hd (by rw[VB hlen];exact next)
theorem RT.Zu(hg:Gd ops S gd rg)[tS:eP P T E0 n]{i o m:Nat}{E1:TypeId}{lo hi:Option Operand}(a b:Int)(hx:S.ev x=.row i)(hR:S.r i=.live (TR E1 n e l))(hlo:Bu S 0 lo a)(hhi:Bu S l.length hi b)(hd:d<S.n)(h:VA l a b=some (o,m))
  (next:RunT P C ops nd K rest (⟨rg++(aX x++(nT lo++nT hi)),[],[i],⟨some (d,.nQ i (o*n) m),[],[]⟩⟩::acc) (S.set d (.nQ i (o*n) m))):RunT P C ops nd K (⟨some d,.slice T x lo hi none,ty,pos,aft,gd⟩::rest) acc S:=by
 obtain⟨h0,h1,h2,h3,h4,h5⟩:=NN h;exact RT.Vk hg (.row hx hR) a b hlo hhi hd h0 h1 h2 h3 (o*n) m (by rw[h4];omega) h5 next
theorem RT.VD(hg:Gd ops S gd rg){m:Nat}[tS:eP P T E0 m]{i o q:Nat}{c:Int}(hx:S.ev x=.nQ i o q)(hd:d<S.n)(hc:(q:Int)=c)
  (next:RunT P C ops nd K rest (⟨rg++aX x,[],[],⟨some (d,.sv (.v (.int .i64 c))),[],[]⟩⟩::acc) (S.set d (.sv (.v (.int .i64 c))))):RunT P C ops nd K (⟨some d,.call ⟨.builtin .len,#[x],#[T]⟩,ty,pos,aft,gd⟩::rest) acc S:=
 RT.Zc hg hx hd (by rw[hc];exact next)
theorem RT.GG(hg:Gd ops S gd rg)[tS:eP P T E0 n]{i o q j:Nat}{kk:IntKind}{v:Int}(hx:S.ev x=.nQ i (o*n) q)(hy:S.ev y=.sv (.v (.int kk v)))(hd:d<S.n)(h:QT o q v=some j)
  (next:RunT P C ops nd K rest (⟨rg++(aX x++aX y),[],[],⟨some (d,.jo i (j*n)),[],[]⟩⟩::acc) (S.set d (.jo i (j*n)))):RunT P C ops nd K (⟨some d,.indexAddr T x y,ty,pos,aft,gd⟩::rest) acc S:=by
 obtain⟨h0,h1,h2⟩:=NO h;exact RT.ixR hg (.nQ hx) hy hd h0 h1 (j*n) (by rw[<-h2,Nat.add_mul]) next
end steps
def nJ{S:Type}(body:Nat->S->Option S):Nat->S->Option S
 |0,s=>some s
 |n+1,s=>(nJ body n s).bind (body n)
theorem om{S:Type}{body:Nat->S->Option S}:∀{n:Nat} {s e:S},nJ body n s=some e->∃st:Nat->S,st 0=s/\(∀k,k<n->body k (st k)=some (st (k+1)))/\st n=e
 |0,s,e,h=>⟨λ_=>s,Y,λ_ h=>by omega,Option.some.inj h⟩
 |n+1,s,e,h=>by
  obtain⟨e1,h1,h2⟩:=bind_some (x:=nJ body n s) h;obtain⟨st,q1,q2,q3⟩:=om h1;refine⟨λk=>if k=n+1 then e else st k,by simpa using q1,λk hk=>?_,by simp⟩;rcases Nat.lt_or_ge k n with hkn|hkn
  ·simpa[show k≠n+1 by omega,show k≠n by omega]using q2 k hkn
  obtain rfl:k=n:=by omega
  simpa[q3]using h2
theorem yN{S:Type}{body:Nat->S->Option S}(st:Nat->S):∀(n:Nat),(∀k,k<n->body k (st k)=some (st (k+1)))->nJ body n (st 0)=some (st n)
 |0,_=>rfl
 |n+1,h=>by
  rw[nJ,yN st n (λk hk=>h k (by omega))];exact h n (by omega)
def nK{S E:Type}(body:Nat->S->Option (S⊕E)):Nat->S->Option (S⊕E)
 |0,s=>some (.inl s)
 |n+1,s=>(nK body n s).bind λr=>match r with|.inl s'=>body n s'|.inr e=>some (.inr e)
theorem DO{S E:Type}{body:Nat->S->Option (S⊕E)}:∀{n:Nat} {s:S} {r:S⊕E},nK body n s=some r->∃(m:Nat) (st:Nat->S),st 0=s/\m<=n/\(∀k,k<m->body k (st k)=some (.inl (st (k+1))))/\((m=n/\r=.inl (st n))\/(m<n/\∃e,r=.inr e/\body m (st m)=some (.inr e)))
 |0,s,r,h=>⟨0,λ_=>s,Y,Nat.le_refl _,λ_ h=>by omega,.inl ⟨Y,(Option.some.inj h).symm⟩⟩
 |n+1,s,r,h=>by
  obtain⟨r1,h1,h2⟩:=bind_some (x:=nK body n s) h;obtain⟨m,st,q1,q2,q3,q4⟩:=DO h1;rcases q4 with⟨rfl,rfl⟩|⟨q4,e,rfl,q5⟩
  ·simp only at h2;cases r with
   |inr e=>exact⟨m,st,q1,by omega,q3,.inr ⟨by omega,e,Y,h2⟩⟩
   |inl s'=>
    refine⟨m+1,λk=>if k=m+1 then s' else st k,by simpa using q1,Nat.le_refl _,λk hk=>?_,.inl ⟨Y,by simp⟩⟩;rcases Nat.lt_or_ge k m with hkn|hkn
    ·simpa[show k≠m+1 by omega,show k≠m by omega]using q3 k hkn
    obtain rfl:k=m:=by omega
    simpa using h2
  simp only at h2;cases h2;exact⟨m,st,q1,by omega,q3,.inr ⟨by omega,e,Y,q5⟩⟩
theorem EG{S E:Type}{body:Nat->S->Option (S⊕E)}{n m:Nat}{st:Nat->S}{r:S⊕E}(h:∀k,k<m->body k (st k)=some (.inl (st (k+1))))(hr:(m=n/\r=.inl (st n))\/(m<n/\∃e,r=.inr e/\body m (st m)=some (.inr e))){k:Nat}(hk:k<n)(hkm:k<=m):
  ∃y,body k (st k)=some y/\(∀s',y=.inl s'->k+1<=m/\s'=st (k+1))/\∀e',y=.inr e'->r=.inr e':=by
 rcases Nat.lt_or_ge k m with q|q
 ·exact⟨_,h k q,(λs' e=>⟨q,by cases e;rfl⟩),(λe' e=>by cases e)⟩
 obtain rfl:k=m:=by omega
 rcases hr with⟨rfl,_⟩|⟨_,e,rfl,he⟩
 ·omega
 exact⟨_,he,(λs' e=>by cases e),(λe' q=>by cases q;rfl)⟩
theorem GH{S E:Type}{body:Nat->S->Option (S⊕E)}{n m:Nat}{st:Nat->S}{r:S⊕E}(hr:(m=n/\r=.inl (st n))\/(m<n/\∃e,r=.inr e/\body m (st m)=some (.inr e)))(h:n<=m):r=.inl (st n):=by
 rcases hr with⟨_,q⟩|⟨q,_⟩
 ·exact q
 omega
theorem yO{S E:Type}{body:Nat->S->Option (S⊕E)}{n:Nat}{s:S}{r:S⊕E}(h:nK body n s=some r):∃(m:Nat) (st:Nat->S),st 0=s/\(∀k,k<n->k<=m->∃y,body k (st k)=some y/\(∀s',y=.inl s'->k+1<=m/\s'=st (k+1))/\∀e',y=.inr e'->r=.inr e')/\(n<=m->r=.inl (st n)):=by
 obtain⟨m,st,q1,q2,q3,q4⟩:=DO h;exact⟨m,st,q1,λk hk hm=>EG q3 q4 hk hm,λhn=>GH q4 hn⟩
end
section
open Go.RowKit
def NP(es:List (Value×Value)):SV where
 h M v:=∃b,v=.map (some b)/\M b 0=some (.tuple ⟨es.map λp=>.tuple #[p.1,p.2]⟩)
 mono hM h:=by obtain⟨b,e,h⟩:=h;exact⟨b,e,hM _ _ _ h⟩
class KL (P:Program) (T:TypeId) (k:outParam TypeId) (e:outParam TypeId):Prop where
 u:P.underlying T=some (.map k e)
def DP(k:IntKind)(n:Int):List (Value×Value)->Option Value
 |[]=>none
 |(.int k' m,v)::l=>if k=k' then(if n=m then some v else DP k n l)else none
 |_::_=>none
theorem vh{k:IntKind}{n:Int}{v:Value}:∀(es:List MapEntry) (i:Nat),DP k n (es.map λe=>(e.key,e.val))=some v->∃j,Instr.findNow (.int k) (.int k n) es i=some (some (j,v))
 |[],_,h=>by simp[DP]at h
 |⟨key,val,born⟩::es,i,h=>by
  cases key with
  |int k' m=>
   simp only[List.map_cons,DP]at h;by_cases hk:k=k'
   ·subst hk;rw[if_pos rfl]at h;by_cases hn:n=m
    ·subst hn;rw[if_pos rfl]at h;cases h;exact⟨i,by simp[Instr.findNow,Instr.sameNow]⟩
    rw[if_neg hn]at h;obtain⟨j,hj⟩:=vh es (i+1) h;have hb:(n==m)=false:=by simp[hn]
    exact⟨j,by simp[Instr.findNow,Instr.sameNow,hb,hj]⟩
   rw[if_neg hk]at h;cases h
  |_=>simp[DP]at h
theorem KM:∀(l:List (Value×Value)) (m:List MapEntry),l.map (λp=>Value.tuple #[p.1,p.2])=m.map (λe=>Value.tuple #[e.key,e.val])->m.map (λe=>(e.key,e.val))=l
 |[],[],_=>rfl
 |[],_::_,h=>by simp at h
 |_::_,[],h=>by simp at h
 |(p,q)::l,e::m,h=>by
  simp only[List.map_cons,List.cons.injEq,Value.tuple.injEq]at h⊢;refine⟨?_,KM l m h.2⟩;have:=h.1;simp at this;rw[this.1,this.2]
theorem NQ{es:Array MapEntry}{l:List (Value×Value)}(h:(⟨l.map λp=>.tuple #[p.1,p.2]⟩:Array Value)=Q4 es):es.toList.map (λe=>(e.key,e.val))=l:=
 KM l es.toList (congrArg Array.toList h)
theorem getM{P:Program}{w:World}{r:Nat}{es:Array MapEntry}{ck:Nat}(hb:w.heap[r]? =some (.map es ck)):(getObj r).run P w=.ok (.map es ck) w:=by simp[getObj,Sem.run,hb]
theorem aep{P:Program}{w:World}{r:Nat}{es:Array MapEntry}{ck:Nat}(o:Obj)(hb:w.heap[r]? =some (.map es ck)):(setObj r o).run P w=.ok () {w with heap:=w.heap.setIfInBounds r o}:=by simp[setObj,Sem.run,hb]
theorem ckM{P:Program}{w:World}{kt:TypeId}{k:IntKind}[tI:nj P kt k]{n:Int}(bb:Bool):(Instr.checkKey bb 10000 kt (.int k n)).run P w=.ok () w:=by
 rw[show(10000:Nat)=9999+1 from rfl,Instr.checkKey];simp[underlying,tI.h]
theorem NR{M:Mem}:∀l:List Value,SV.ec M (l.map SV.v) l
 |[]=>trivial
 |_::l=>⟨Y,NR l⟩
section steps
variable {P:Program}{C:Ctx}{ops:Array Oper}{S:AS}{nd:Bool}{K:List Ac->AS->Prop}{rest:List Oper}{acc:List Ac}
variable {gd:Option (Nat×Bool)}{rg:List Nat}{d:Nat}{ty:TypeId}{pos:String}{aft:Array Edge}{x y z:Operand}{T U E0:TypeId}
theorem RT.look(hg:Gd ops S gd rg){kt et:TypeId}[tM:KL P T kt et]{k:IntKind}[tI:nj P kt k]{es:List (Value×Value)}{n:Int}(cs:List Value)(hx:S.ev x=.sv (NP es))(hy:S.ev y=.sv (.v (.int k n)))(hl:DP k n es=some (.agg ⟨cs⟩))(hd:d<S.n)
  (next:RunT P C ops nd K rest (⟨rg++(aX x++aX y),[],[],⟨some (d,.sv (.agg (cs.map SV.v))),[],[]⟩⟩::acc) (S.set d (.sv (.agg (cs.map SV.v))))):RunT P C ops nd K (⟨some d,.lookup T x y false,ty,pos,aft,gd⟩::rest) acc S:=
 RT.value hg (aX x++aX y) [] [] (.sv (.agg (cs.map SV.v))) hd (by intro c h;cases h) (λS' ht _ _ E a w h=>by
  have h1:=h.ev x;rw[bA (λ_ h=>List.mem_append_left _ h) ht,hx]at h1;have h2:a.eval y=.int k n:=by have h2:=h.ev y;rw[bA (λ_ h=>List.mem_append_right _ h) ht,hy]at h2;exact h2
  obtain⟨b,e,hb⟩:=h1;obtain⟨ms,ck,hm,he⟩:=h.dh _ _ _ hb;have he:=NQ he;rw[<-he]at hl;obtain⟨j,hj⟩:=vh ms.toList 0 hl;refine⟨.agg ⟨cs⟩,?_,⟨cs,Y,?_⟩,fg⟩
  ·have hfk:(Instr.findKey kt (.int k n) ms.toList).run P w=.ok (some (j,.agg ⟨cs⟩)) w:=by
    simp[Instr.findKey,underlying,tI.h,hj]
   simp[execOp,e,h2,Instr.lookup,underlying,tM.u,getM hm,ckM,hfk]
  exact NR cs) next
def sP(w:World)(ms:Array MapEntry)(ck:Nat):World:=w.alloc (.map ms ck)
theorem yP(w:World)(ms:Array MapEntry)(ck:Nat):(sP w ms ck).heap[w.heap.size]? =some (.map ms ck):=by show(w.heap.push _)[w.heap.size]? =_;simp
theorem run_make{d:Option Nat}{ρ:Operand->Value}{w:World}:(execOp ρ ⟨d,.makeMap T none,ty,pos,aft,none⟩).run P w=.ok (.value (.map (some w.heap.size))) (sP w #[] 0):=by
 simp[execOp,Instr.makeMap,sP]
theorem AQ{d:Option Nat}{kt et:TypeId}[tM:KL P T kt et]{k:IntKind}[tI:nj P kt k]{ρ:Operand->Value}{w:World}{ms:Array MapEntry}{ck:Nat}{n:Int}{v:Value}(hx:ρ x=.map (some w.heap.size))(hy:ρ y=.int k n)(hz:ρ z=v)
  (hf:Instr.findNow (.int k) (.int k n) ms.toList 0=some none):(execOp ρ ⟨d,.insert T x y z,ty,pos,aft,none⟩).run P (sP w ms ck)=.ok .skip (sP w (ms.push ⟨.int k n,v,ck⟩) (ck+1)):=by
 have hfk:(Instr.findKey kt (.int k n) ms.toList).run P (sP w ms ck)=.ok none (sP w ms ck):=by
  simp[Instr.findKey,underlying,tI.h,hf]
 have aer:∀o:Obj,{sP w ms ck with heap:=(sP w ms ck).heap.setIfInBounds w.heap.size o}=w.alloc o:=by
  intro o;simp only[sP,World.alloc];congr 1;apply Array.ext';simp
 simp[execOp,hx,hy,hz,Instr.mapUpdate,underlying,tM.u,getM (yP w ms ck),ckM,hfk,aep _ (yP w ms ck)];exact aer _
theorem AR{d:Option Nat}{z0:Value}[tP:iY P U [(0,1)] [z0]]{ρ:Operand->Value}{w:World}{v:Value}(hx:ρ x=v)(hv:v.oneCell'=true):(execOp ρ ⟨d,.build U #[(0,x)],ty,pos,aft,none⟩).run P w=.ok (.value (.agg #[v])) w:=by
 have hu:=tP.h;cases hT:P.underlying U with
 |none=>rw[hT]at hu;cases hu
 |some u=>
  rw[hT]at hu;cases u with
  |struct fs=>
   simp only at hu;have hz:(zeroValue U).run P w=.ok (.agg ⟨[z0]⟩) w:=iM.run (t:=⟨tP.hz⟩) w;have hm:(fs.mapM (λf=>do pure (f.offset,<-sizeOf f.type):Field->Sem (Nat×Nat))).run P w=.ok #[(0,1)] w:=by
    have:=sG (P:=P) (w:=w) hu;rw[<-Array.toArray_toList (xs:=fs),List.mapM_toArray];rw[Sem.run_map,this];rfl
   simp only[execOp,Instr.build,underlying];simp only[Sem.run_bind,hz,Result.andThen_ok,run_program,hT,Sem.run_pure,Value.cells];have hm':(Array.mapM (λf=>do
     let __do_lift<-sizeOf f.type
     pure (f.offset,__do_lift)) fs:Sem _).run P w=.ok #[(0,1)] w:=hm
   simp only[hm',Result.andThen_ok];have h1':Instr.fill (λi=>(#[(0,1)]:Array (Nat×Nat))[i]?) ⟨[z0]⟩ [(0,v)]=some ⟨[v]⟩:=by
    simp[Instr.fill,jg hv]
    try rfl
   have e4:(Array.map (λx=>match x with|(i,x)=>(i,ρ x)) #[(0,x)]).toList=[(0,v)]:=by simp[hx]
   simp only[e4,h1',Sem.run_pure,Result.andThen_ok]
  |_=>cases hu
theorem Rv{Q:Exit->AS->Prop}{id:Nat}{T U kt et t0:TypeId}[tM:KL P T kt et]{k:IntKind}[tI:nj P kt k]{z0:Value}[tP:iY P U [(0,1)] [z0]]{f1 f2 f3 f4:FuncId}{n1 n2 n3 n4:Int}
  {p0 p1 p2 p3 p4 p5 p6 p7 p8 p9 p10:String} {a0 a1 a2 a3 a4 a5 a6 a7 a8 a9 a10:Array Edge} {u1 u2 u3 u4 u5 u6 u7 u8 u9:TypeId} (hn:7<=S.n)
  (h2:Instr.findNow (.int k) (.int k n2) [⟨.int k n1,.agg #[.func (.func f1) #[] #[]],0⟩] 0=some none)
  (h3:Instr.findNow (.int k) (.int k n3) [⟨.int k n1,.agg #[.func (.func f1) #[] #[]],0⟩,⟨.int k n2,.agg #[.func (.func f2) #[] #[]],1⟩] 0=some none)
  (h4:Instr.findNow (.int k) (.int k n4) [⟨.int k n1,.agg #[.func (.func f1) #[] #[]],0⟩,⟨.int k n2,.agg #[.func (.func f2) #[] #[]],1⟩,⟨.int k n3,.agg #[.func (.func f3) #[] #[]],2⟩] 0=some none)
  (hQ:∀S',S'.t 0=.sv (NP [(.int k n1,.agg #[.func (.func f1) #[] #[]]),(.int k n2,.agg #[.func (.func f2) #[] #[]]),(.int k n3,.agg #[.func (.func f3) #[] #[]]),(.int k n4,.agg #[.func (.func f4) #[] #[]])])->Q .normal S'):
  Ok P C (.region id #[⟨some 1,.makeMap T none,t0,p0,a0,none⟩,⟨some 2,.build U #[(0,.func f1)],u1,p1,a1,none⟩,⟨none,.insert T (.tmp 1) (.const (.int k n1)) (.tmp 2),u2,p2,a2,none⟩,
   ⟨some 3,.build U #[(0,.func f2)],u3,p3,a3,none⟩,⟨none,.insert T (.tmp 1) (.const (.int k n2)) (.tmp 3),u4,p4,a4,none⟩,⟨some 4,.build U #[(0,.func f3)],u5,p5,a5,none⟩,⟨none,.insert T (.tmp 1) (.const (.int k n3)) (.tmp 4),u6,p6,a6,none⟩,
   ⟨some 5,.build U #[(0,.func f4)],u7,p7,a7,none⟩,⟨none,.insert T (.tmp 1) (.const (.int k n4)) (.tmp 5),u8,p8,a8,none⟩,⟨some 6,.move (.tmp 1),u9,p9,a9,none⟩,⟨some 0,.assign (.tmp 6),u9,p10,a10,none⟩] false) S Q:=by
 rintro a w ⟨E,h⟩;refine wpIn_region ?_;show wpOpsIn _ _ _ _ _ [0,1,2,3,4,5,6,7,8,9,10] a w;have hS:∀(S:AS) (d:Nat) (x:AV),(S.set d x).n=S.n:=λ_ _ _=>rfl;rw[wpOpsIn_cons];refine cD (C:=C) rfl rfl (cz (C:=C) (by intro c h;cases h) run_make ?_);have g1:=h.put (d:=1) (x:=.sv (.v (.map (some w.heap.size)))) (v:=.map (some w.heap.size)) Y (by omega) fg;show wpOpsIn _ _ _ _ _ _ (a.put (some 1) _) _;generalize a.put (some 1) (.map (some w.heap.size))=b1 at g1⊢;rw[wpOpsIn_cons];refine cD (C:=C) rfl rfl (cz (C:=C) (by intro c h;cases h) (AR rfl rfl) ?_);have g2:=g1.put (d:=2) (x:=.sv (.v (.agg #[.func (.func f1) #[] #[]]))) (v:=.agg #[.func (.func f1) #[] #[]]) Y (by rw[hS];omega) fg;show wpOpsIn _ _ _ _ _ _ (b1.put (some 2) (.agg #[.func (.func f1) #[] #[]])) _;generalize b1.put (some 2) (.agg #[.func (.func f1) #[] #[]])=b2 at g2⊢;rw[wpOpsIn_cons];refine cD (C:=C) rfl rfl (cz (C:=C) (by intro c h;cases h) (AQ (k:=k) (n:=n1) (v:=.agg #[.func (.func f1) #[] #[]]) (g2.ev (.tmp 1)) rfl (g2.ev (.tmp 2)) rfl) ?_);show wpOpsIn _ _ _ _ _ _ (b2.put none undef) _;rw[show b2.put none undef=b2 from rfl,wpOpsIn_cons];refine cD (C:=C) rfl rfl (cz (C:=C) (by intro c h;cases h) (AR rfl rfl) ?_)
 have g3:=g2.put (d:=3) (x:=.sv (.v (.agg #[.func (.func f2) #[] #[]]))) (v:=.agg #[.func (.func f2) #[] #[]]) Y (by rw[hS,hS];omega) fg;show wpOpsIn _ _ _ _ _ _ (b2.put (some 3) (.agg #[.func (.func f2) #[] #[]])) _;generalize b2.put (some 3) (.agg #[.func (.func f2) #[] #[]])=b3 at g3⊢;rw[wpOpsIn_cons];refine cD (C:=C) rfl rfl (cz (C:=C) (by intro c h;cases h) (AQ (k:=k) (n:=n2) (v:=.agg #[.func (.func f2) #[] #[]]) (g3.ev (.tmp 1)) rfl (g3.ev (.tmp 3)) (by simpa using h2)) ?_);show wpOpsIn _ _ _ _ _ _ (b3.put none undef) _;rw[show b3.put none undef=b3 from rfl,wpOpsIn_cons];refine cD (C:=C) rfl rfl (cz (C:=C) (by intro c h;cases h) (AR rfl rfl) ?_);have g4:=g3.put (d:=4) (x:=.sv (.v (.agg #[.func (.func f3) #[] #[]]))) (v:=.agg #[.func (.func f3) #[] #[]]) Y (by rw[hS,hS,hS];omega) fg;show wpOpsIn _ _ _ _ _ _ (b3.put (some 4) (.agg #[.func (.func f3) #[] #[]])) _;generalize b3.put (some 4) (.agg #[.func (.func f3) #[] #[]])=b4 at g4⊢;rw[wpOpsIn_cons];refine cD (C:=C) rfl rfl (cz (C:=C) (by intro c h;cases h) (AQ (k:=k) (n:=n3) (v:=.agg #[.func (.func f3) #[] #[]]) (g4.ev (.tmp 1)) rfl (g4.ev (.tmp 4)) (by simpa using h3)) ?_);show wpOpsIn _ _ _ _ _ _ (b4.put none undef) _
 rw[show b4.put none undef=b4 from rfl,wpOpsIn_cons];refine cD (C:=C) rfl rfl (cz (C:=C) (by intro c h;cases h) (AR rfl rfl) ?_);have g5:=g4.put (d:=5) (x:=.sv (.v (.agg #[.func (.func f4) #[] #[]]))) (v:=.agg #[.func (.func f4) #[] #[]]) Y (by rw[hS,hS,hS,hS];omega) fg;show wpOpsIn _ _ _ _ _ _ (b4.put (some 5) (.agg #[.func (.func f4) #[] #[]])) _;generalize b4.put (some 5) (.agg #[.func (.func f4) #[] #[]])=b5 at g5⊢;rw[wpOpsIn_cons];refine cD (C:=C) rfl rfl (cz (C:=C) (by intro c h;cases h) (AQ (k:=k) (n:=n4) (v:=.agg #[.func (.func f4) #[] #[]]) (g5.ev (.tmp 1)) rfl (g5.ev (.tmp 5)) (by simpa using h4)) ?_);show wpOpsIn _ _ _ _ _ _ (b5.put none undef) _;have e1:b5.eval (.tmp 1)=.map (some w.heap.size):=g5.ev (.tmp 1);obtain⟨ms,hms⟩:∃ms:Array MapEntry,(((((#[]:Array MapEntry).push ⟨.int k n1,.agg #[.func (.func f1) #[] #[]],0⟩).push ⟨.int k n2,.agg #[.func (.func f2) #[] #[]],0+1⟩).push ⟨.int k n3,.agg #[.func (.func f3) #[] #[]],0+1+1⟩).push ⟨.int k n4,.agg #[.func (.func f4) #[] #[]],0+1+1+1⟩)=ms:=⟨_,Y⟩;rw[hms];have hno:∀o,E.M w.heap.size o=none:=λo=>by
  cases e:E.M w.heap.size o with
  |none=>rfl
  |some v=>have:=nH h.dh e;omega
 have g6:=g5.grow (M':=λb o=>if b=w.heap.size/\o=0 then some (.tuple (Q4 ms))else E.M b o) (w':=sP w ms (0+1+1+1+1)) (λb o v e=>by
   have:b≠w.heap.size:=by rintro rfl;rw[hno o]at e;cases e
   simp[this,e]) (λb o v e=>by
   by_cases hb:b=w.heap.size/\o=0
   ·exact .inr (by omega)
   ·simp only[if_neg hb]at e;exact .inl e) (λb o v e=>by
   by_cases hb:b=w.heap.size/\o=0
   ·simp only[if_pos hb]at e;obtain⟨rfl,rfl⟩:=hb;cases e;exact⟨ms,_,yP w ms _,Y⟩
   simp only[if_neg hb]at e;have hlt:=nH h.dh e;refine(h.dh b o v e).same ?_;show(w.heap.push _)[b]? =_;rw[Array.getElem?_push,if_neg (by omega)]) ((Below.refl _ _).alloc (Nat.le_refl _) _)
 have hm:∀X:Env,X.M w.heap.size 0=some (.tuple (Q4 ms))->(NP [(.int k n1,.agg #[.func (.func f1) #[] #[]]),(.int k n2,.agg #[.func (.func f2) #[] #[]]),(.int k n3,.agg #[.func (.func f3) #[] #[]]),(.int k n4,.agg #[.func (.func f4) #[] #[]])]).h X.M (.map (some w.heap.size)):=λX hX=>by
  refine⟨_,Y,?_⟩;rw[hX,<-hms];rfl
 have g7:=g6.put (d:=6) (x:=.sv (.v (.map (some w.heap.size)))) (v:=.map (some w.heap.size)) Y (by rw[hS,hS,hS,hS,hS];omega) fg;rw[show b5.put none undef=b5 from rfl,wpOpsIn_cons];refine cD (C:=C) rfl rfl (cz (C:=C) (by intro c h;cases h) (r:=.ok (.value (.map (some w.heap.size))) _) (by show Result.ok (Next.value (b5.eval (.tmp 1))) _=_;rw[e1]) ?_);show wpOpsIn _ _ _ _ _ _ (b5.put (some 6) (.map (some w.heap.size))) _;generalize b5.put (some 6) (.map (some w.heap.size))=b6 at g7⊢;have e6:b6.eval (.tmp 6)=.map (some w.heap.size):=g7.ev (.tmp 6);have g8:=g7.put (d:=0) (x:=.sv (NP [(.int k n1,.agg #[.func (.func f1) #[] #[]]),(.int k n2,.agg #[.func (.func f2) #[] #[]]),(.int k n3,.agg #[.func (.func f3) #[] #[]]),(.int k n4,.agg #[.func (.func f4) #[] #[]])])) (v:=.map (some w.heap.size)) (hm _ (by simp)) (by rw[hS,hS,hS,hS,hS,hS];omega) fg;rw[wpOpsIn_cons];refine cD (C:=C) rfl rfl (cz (C:=C) (by intro c h;cases h) (r:=.ok (.value (.map (some w.heap.size))) _) (by show Result.ok (Next.value (b6.eval (.tmp 6))) _=_;rw[e6]) ?_);show wpOpsIn _ _ _ _ _ _ (b6.put (some 0) (.map (some w.heap.size))) _;rw[wpOpsIn];exact⟨_,hQ _ Y,_,g8⟩
end steps
def ASc(Q:Exit->AS->Prop):Exit->AS->Prop
 |.goto _,_=>False
 |e,S=>Q e S
section scope
variable {P:Program}{C:Ctx}{S:AS}{Q:Exit->AS->Prop}
theorem ASc.n(h:Q .normal S):ASc Q .normal S:=h
end scope
end
end Go.Fw
namespace Go.Proofs.YtningmnklfpfjaaGreat
section
open Go.Fw
open Go.Proofs
noncomputable abbrev ah:=Tryz.prog
instance:nj ah 2 .i64:=⟨by kernel_rfl⟩
instance:ru ah 2:=⟨by kernel_rfl,by kernel_rfl⟩
instance:jI ah 2 1 8 (.int .i64 0):=⟨by kernel_rfl,by rfl,by decide,by decide⟩
instance:nj ah 3 .i64:=⟨by kernel_rfl⟩
instance:ru ah 3:=⟨by kernel_rfl,by kernel_rfl⟩
instance:iM ah 3 (.int .i64 0):=⟨by kernel_rfl⟩
instance:jI ah 3 1 8 (.int .i64 0):=⟨by kernel_rfl,by rfl,by decide,by decide⟩
instance:Eu ah 4:=⟨by kernel_rfl⟩
instance:ru ah 4:=⟨by kernel_rfl,by kernel_rfl⟩
instance:iM ah 4 (.bool false):=⟨by kernel_rfl⟩
instance:jI ah 4 1 1 (.bool false):=⟨by kernel_rfl,by rfl,by decide,by decide⟩
instance:nj ah 5 .u8:=⟨by kernel_rfl⟩
instance:Td ah 9:=⟨by kernel_rfl⟩
instance:ru ah 22:=⟨by kernel_rfl,by kernel_rfl⟩
instance:iM ah 22 (.slice none 0 0):=⟨by kernel_rfl⟩
instance:jI ah 22 1 24 (.slice none 0 0):=⟨by kernel_rfl,by rfl,by decide,by decide⟩
instance:eP ah 22 23 1:=⟨by kernel_rfl,by kernel_rfl⟩
instance:ru ah 23:=⟨by kernel_rfl,by kernel_rfl⟩
instance:iM ah 23 (.slice none 0 0):=⟨by kernel_rfl⟩
instance:jI ah 23 1 24 (.slice none 0 0):=⟨by kernel_rfl,by rfl,by decide,by decide⟩
instance:eP ah 23 43 4:=⟨by kernel_rfl,by kernel_rfl⟩
instance:AK ah 25 4:=⟨by kernel_rfl,by kernel_rfl⟩
instance:iM ah 25 (.agg #[.int .i64 0,.slice none 0 0,.slice none 0 0,.slice none 0 0]):=⟨by kernel_rfl⟩
instance:iY ah 25 [(0,1),(1,1),(2,1),(3,1)] [.int .i64 0,.slice none 0 0,.slice none 0 0,.slice none 0 0]:=⟨by kernel_rfl,by kernel_rfl,by rfl⟩
instance:yy ah 25 0 0 3:=⟨by kernel_rfl⟩
instance:yy ah 25 1 1 22:=⟨by kernel_rfl⟩
instance:yy ah 25 2 2 22:=⟨by kernel_rfl⟩
instance:yy ah 25 3 3 23:=⟨by kernel_rfl⟩
instance:eP ah 26 38 2:=⟨by kernel_rfl,by kernel_rfl⟩
instance:ru ah 30:=⟨by kernel_rfl,by kernel_rfl⟩
instance:jI ah 38 2 16 (.agg #[.int .i64 0,.int .i64 0]):=⟨by kernel_rfl,by rfl,by decide,by decide⟩
instance:yy ah 38 0 0 3:=⟨by kernel_rfl⟩
instance:yy ah 38 1 1 3:=⟨by kernel_rfl⟩
instance:ru ah 39:=⟨by kernel_rfl,by kernel_rfl⟩
instance:iM ah 39 (.slice none 0 0):=⟨by kernel_rfl⟩
instance:eP ah 39 130 1:=⟨by kernel_rfl,by kernel_rfl⟩
instance:AK ah 41 2:=⟨by kernel_rfl,by kernel_rfl⟩
instance:Gq ah 41:=⟨λw=>⟨1,AK.size (T:=41) (n:=2) w⟩⟩
instance:iM ah 41 (.agg #[.bool false,.slice none 0 0]):=⟨by kernel_rfl⟩
instance:jI ah 41 2 32 (.agg #[.bool false,.slice none 0 0]):=⟨by kernel_rfl,by rfl,by decide,by decide⟩
instance:iY ah 41 [(0,1),(1,1)] [.bool false,.slice none 0 0]:=⟨by kernel_rfl,by kernel_rfl,by rfl⟩
instance:yy ah 41 0 0 4:=⟨by kernel_rfl⟩
instance:yy ah 41 1 1 39:=⟨by kernel_rfl⟩
instance:AK ah 43 4:=⟨by kernel_rfl,by kernel_rfl⟩
instance:iM ah 43 (.agg #[.bool false,.slice none 0 0,.bool false,.slice none 0 0]):=⟨by kernel_rfl⟩
instance:jI ah 43 4 64 (.agg #[.bool false,.slice none 0 0,.bool false,.slice none 0 0]):=⟨by kernel_rfl,by rfl,by decide,by decide⟩
instance:iY ah 43 [(0,2),(2,2)] [.bool false,.slice none 0 0,.bool false,.slice none 0 0]:=⟨by kernel_rfl,by kernel_rfl,by rfl⟩
instance:yy ah 43 0 0 41:=⟨by kernel_rfl⟩
instance:yy ah 43 1 2 41:=⟨by kernel_rfl⟩
instance:ru ah 45:=⟨by kernel_rfl,by kernel_rfl⟩
instance:eP ah 45 3 1:=⟨by kernel_rfl,by kernel_rfl⟩
instance:iY ah 79 [(0,1),(1,1),(2,1),(3,1),(4,1)] [.bool false,.int .i64 0,.slice none 0 0,.slice none 0 0,.slice none 0 0]:=⟨by kernel_rfl,by kernel_rfl,by rfl⟩
instance:yy ah 79 0 0 4:=⟨by kernel_rfl⟩
instance:yy ah 79 1 1 3:=⟨by kernel_rfl⟩
instance:yy ah 79 2 2 22:=⟨by kernel_rfl⟩
instance:yy ah 79 3 3 45:=⟨by kernel_rfl⟩
instance:yy ah 79 4 4 22:=⟨by kernel_rfl⟩
instance:ru ah 89:=⟨by kernel_rfl,by kernel_rfl⟩
instance:eP ah 92 4 1:=⟨by kernel_rfl,by kernel_rfl⟩
instance:AK ah 97 4:=⟨by kernel_rfl,by kernel_rfl⟩
instance:iM ah 97 (.agg #[.int .i64 0,.int .i64 0,.int .i64 0,.int .i64 0]):=⟨by kernel_rfl⟩
instance:iY ah 97 [(0,1),(1,1),(2,1),(3,1)] [.int .i64 0,.int .i64 0,.int .i64 0,.int .i64 0]:=⟨by kernel_rfl,by kernel_rfl,by rfl⟩
instance:yy ah 97 0 0 3:=⟨by kernel_rfl⟩
instance:yy ah 97 1 1 3:=⟨by kernel_rfl⟩
instance:yy ah 97 2 2 3:=⟨by kernel_rfl⟩
instance:yy ah 97 3 3 3:=⟨by kernel_rfl⟩
instance:ru ah 106:=⟨by kernel_rfl,by kernel_rfl⟩
instance:ru ah 117:=⟨by kernel_rfl,by kernel_rfl⟩
instance:jI ah 117 1 24 (.slice none 0 0):=⟨by kernel_rfl,by rfl,by decide,by decide⟩
instance:eP ah 117 2 1:=⟨by kernel_rfl,by kernel_rfl⟩
instance:AK ah 124 1:=⟨by kernel_rfl,by kernel_rfl⟩
instance:iM ah 124 (.agg #[.nilFunc]):=⟨by kernel_rfl⟩
instance:iY ah 124 [(0,1)] [.nilFunc]:=⟨by kernel_rfl,by kernel_rfl,by rfl⟩
instance:yy ah 124 0 0 89:=⟨by kernel_rfl⟩
instance:nj ah 128 .u64:=⟨by kernel_rfl⟩
instance:ru ah 128:=⟨by kernel_rfl,by kernel_rfl⟩
instance:nj ah 130 .u32:=⟨by kernel_rfl⟩
instance:ru ah 130:=⟨by kernel_rfl,by kernel_rfl⟩
instance:jI ah 130 1 4 (.int .u32 0):=⟨by kernel_rfl,by rfl,by decide,by decide⟩
instance:eP ah 155 22 1:=⟨by kernel_rfl,by kernel_rfl⟩
instance:eP ah 156 117 1:=⟨by kernel_rfl,by kernel_rfl⟩
instance:eP ah 167 41 2:=⟨by kernel_rfl,by kernel_rfl⟩
instance:ru ah 174:=⟨by kernel_rfl,by kernel_rfl⟩
instance:iY ah 176 [(0,1)] [.nilFunc]:=⟨by kernel_rfl,by kernel_rfl,by rfl⟩
instance:yy ah 176 0 0 174:=⟨by kernel_rfl⟩
instance:KL ah 177 5 176:=⟨by kernel_rfl⟩
instance:nj ah 179 .u64:=⟨by kernel_rfl⟩
instance:ru ah 186:=⟨by kernel_rfl,by kernel_rfl⟩
instance:iM ah 186 (.nilFunc):=⟨by kernel_rfl⟩
instance:dM ah 9:=⟨by kernel_rfl⟩
instance:dM ah 10:=⟨by kernel_rfl⟩
instance:dM ah 12:=⟨by kernel_rfl⟩
instance:dM ah 14:=⟨by kernel_rfl⟩
instance:dM ah 17:=⟨by kernel_rfl⟩
instance:dM ah 18:=⟨by kernel_rfl⟩
instance:dM ah 19:=⟨by kernel_rfl⟩
instance:dM ah 20:=⟨by kernel_rfl⟩
instance:dM ah 21:=⟨by kernel_rfl⟩
instance:dM ah 24:=⟨by kernel_rfl⟩
instance:dM ah 28:=⟨by kernel_rfl⟩
instance:dM ah 30:=⟨by kernel_rfl⟩
instance:dM ah 33:=⟨by kernel_rfl⟩
instance:dM ah 34:=⟨by kernel_rfl⟩
instance:dM ah 35:=⟨by kernel_rfl⟩
instance:dM ah 37:=⟨by kernel_rfl⟩
instance:dM ah 38:=⟨by kernel_rfl⟩
instance:dM ah 40:=⟨by kernel_rfl⟩
instance:dM ah 41:=⟨by kernel_rfl⟩
instance:dM ah 42:=⟨by kernel_rfl⟩
instance:dM ah 44:=⟨by kernel_rfl⟩
instance:dM ah 45:=⟨by kernel_rfl⟩
instance:dM ah 46:=⟨by kernel_rfl⟩
instance:dM ah 47:=⟨by kernel_rfl⟩
instance:dM ah 50:=⟨by kernel_rfl⟩
instance:dM ah 52:=⟨by kernel_rfl⟩
instance:dM ah 53:=⟨by kernel_rfl⟩
instance:dM ah 54:=⟨by kernel_rfl⟩
instance:dM ah 56:=⟨by kernel_rfl⟩
instance:dM ah 57:=⟨by kernel_rfl⟩
instance:dM ah 58:=⟨by kernel_rfl⟩
instance:dM ah 59:=⟨by kernel_rfl⟩
instance:dM ah 60:=⟨by kernel_rfl⟩
instance:dM ah 64:=⟨by kernel_rfl⟩
instance:dM ah 65:=⟨by kernel_rfl⟩
instance:dM ah 72:=⟨by kernel_rfl⟩
instance:dM ah 77:=⟨by kernel_rfl⟩
instance:dM ah 78:=⟨by kernel_rfl⟩
instance:dM ah 82:=⟨by kernel_rfl⟩
instance:dM ah 83:=⟨by kernel_rfl⟩
instance:dM ah 84:=⟨by kernel_rfl⟩
instance:dM ah 86:=⟨by kernel_rfl⟩
instance:dM ah 88:=⟨by kernel_rfl⟩
instance:dM ah 89:=⟨by kernel_rfl⟩
instance:dM ah 90:=⟨by kernel_rfl⟩
instance:dM ah 91:=⟨by kernel_rfl⟩
instance:dM ah 92:=⟨by kernel_rfl⟩
instance:dM ah 93:=⟨by kernel_rfl⟩
instance:dM ah 94:=⟨by kernel_rfl⟩
instance:dM ah 95:=⟨by kernel_rfl⟩
instance:dM ah 96:=⟨by kernel_rfl⟩
instance:dM ah 97:=⟨by kernel_rfl⟩
instance:dM ah 98:=⟨by kernel_rfl⟩
instance:dM ah 99:=⟨by kernel_rfl⟩
instance:dM ah 100:=⟨by kernel_rfl⟩
instance:dM ah 103:=⟨by kernel_rfl⟩
instance:dM ah 104:=⟨by kernel_rfl⟩
instance:dM ah 105:=⟨by kernel_rfl⟩
instance:dM ah 106:=⟨by kernel_rfl⟩
instance:dM ah 107:=⟨by kernel_rfl⟩
instance:dM ah 108:=⟨by kernel_rfl⟩
instance:dM ah 114:=⟨by kernel_rfl⟩
instance:dM ah 118:=⟨by kernel_rfl⟩
instance:dM ah 125:=⟨by kernel_rfl⟩
instance:dM ah 127:=⟨by kernel_rfl⟩
instance:dM ah 128:=⟨by kernel_rfl⟩
instance:dM ah 129:=⟨by kernel_rfl⟩
instance:dM ah 130:=⟨by kernel_rfl⟩
instance:dM ah 132:=⟨by kernel_rfl⟩
instance:dM ah 133:=⟨by kernel_rfl⟩
instance:dM ah 134:=⟨by kernel_rfl⟩
instance:dM ah 135:=⟨by kernel_rfl⟩
instance:dM ah 136:=⟨by kernel_rfl⟩
instance:dM ah 137:=⟨by kernel_rfl⟩
instance:dM ah 138:=⟨by kernel_rfl⟩
instance:dM ah 139:=⟨by kernel_rfl⟩
instance:dM ah 140:=⟨by kernel_rfl⟩
instance:dM ah 141:=⟨by kernel_rfl⟩
instance:dM ah 144:=⟨by kernel_rfl⟩
instance:dM ah 145:=⟨by kernel_rfl⟩
instance:dM ah 161:=⟨by kernel_rfl⟩
instance:dM ah 162:=⟨by kernel_rfl⟩
instance:dM ah 163:=⟨by kernel_rfl⟩
instance:dM ah 164:=⟨by kernel_rfl⟩
instance:dM ah 165:=⟨by kernel_rfl⟩
instance:dM ah 166:=⟨by kernel_rfl⟩
instance:dM ah 167:=⟨by kernel_rfl⟩
instance:dM ah 168:=⟨by kernel_rfl⟩
instance:dM ah 169:=⟨by kernel_rfl⟩
instance:dM ah 175:=⟨by kernel_rfl⟩
instance:dM ah 186:=⟨by kernel_rfl⟩
instance:dM ah 187:=⟨by kernel_rfl⟩
instance:dM ah 188:=⟨by kernel_rfl⟩
instance:dM ah 189:=⟨by kernel_rfl⟩
instance:dM ah 190:=⟨by kernel_rfl⟩
instance:dM ah 191:=⟨by kernel_rfl⟩
instance:dM ah 192:=⟨by kernel_rfl⟩
instance:dM ah 193:=⟨by kernel_rfl⟩
instance:dM ah 194:=⟨by kernel_rfl⟩
instance:dM ah 195:=⟨by kernel_rfl⟩
instance:dM ah 202:=⟨by kernel_rfl⟩
instance:dM ah 203:=⟨by kernel_rfl⟩
instance:dM ah 204:=⟨by kernel_rfl⟩
instance:dM ah 205:=⟨by kernel_rfl⟩
instance:dM ah 206:=⟨by kernel_rfl⟩
instance:dM ah 210:=⟨by kernel_rfl⟩
instance:dM ah 211:=⟨by kernel_rfl⟩
instance:dM ah 212:=⟨by kernel_rfl⟩
instance:dM ah 213:=⟨by kernel_rfl⟩
instance:dM ah 214:=⟨by kernel_rfl⟩
instance:dM ah 215:=⟨by kernel_rfl⟩
theorem mixed:Tryz.prog.follows .mixedOrders=true:=by kernel_rfl
end
section
open Go.Fw Go.RowKit
def snap(W:World):Mem:=λb o=>(W.cell? ⟨b,o,none⟩).filter Value.oneCell'
theorem Rw(W:World):(snap W).dh W:=λ_ _ _ e=>by
 obtain⟨e1,e2⟩:=Option.filter_eq_some_iff.1 e;exact .of e1 e2
theorem Rx{W:World}{b o:Nat}{v:Value}(h:W.cell? ⟨b,o,none⟩=some v)(h1:v.oneCell'=true):snap W b o=some v:=Option.filter_eq_some_iff.2 ⟨h,h1⟩
class CW (P:Program) (T:TypeId) {α:Type} (e:α->List SV) (ok:outParam (α->Prop)) (sz:outParam (α->Nat)):Prop where
 h:∀{H:Type} (enc:TypeId×Value->H) (W:World) (fuel:Nat) (cs:List Value) (d:DataW H) (p:List MemPlace),DataW.trod enc P W 0 (λ_=>true) true fuel T cs=some (d,p)->
  ∃x:α,ok x/\SV.ec (snap W) (e x) cs/\(∀v∈cs,v.oneCell'=true)/\sz x<=Rows.uptoBulk d
section opn
variable {P:Program}{T:TypeId}
theorem NS{k:IntKind}{n:Int}(h:(Lit.int k n).wf=true):k.min<=n/\n<=k.max:=by simpa[Lit.wf]using h
instance[t:nj P T .i64]:CW P T bT (λx=>-9223372036854775808<=x/\x<=9223372036854775807) (λ_=>1):=⟨λenc W fuel cs d p h=>by
 obtain⟨n,rfl,hx,hw⟩:=DataW.trod_int t.h h;cases hx;have:=NS hw;exact⟨n,by simpa[IntKind.min,IntKind.max,IntKind.signed,IntKind.bits]using this,⟨rfl,aq⟩,by simp[Value.oneCell'],by simp[Rows.uptoBulk]⟩⟩
theorem Zv{k:IntKind}{M:Nat}{e:Nat->List SV}(t:nj P T k)(hk:k.min=0/\k.max=(M:Int)-1)(he:∀n:Nat,e n=[.v (.int k (n:Int))]):CW P T e (λx=>x<M) (λ_=>1):=⟨λenc W fuel cs d p h=>by
 obtain⟨n,rfl,hx,hw⟩:=DataW.trod_int t.h h;cases hx;have:=NS hw;rw[hk.1,hk.2]at this;obtain⟨m,rfl⟩:=Int.eq_ofNat_of_zero_le this.1;exact⟨m,by omega,by rw[he];exact⟨Y,aq⟩,by simp[Value.oneCell'],by simp[Rows.uptoBulk]⟩⟩
instance[t:nj P T .u32]:CW P T aY (λx=>x<4294967296) (λ_=>1):=Zv t (by decide) (λ_=>rfl)
instance[t:Eu P T]:CW P T eB (λ_=>True) (λ_=>1):=⟨λenc W fuel cs d p h=>by
 obtain⟨b,rfl,hx⟩:=DataW.trod_bool t.h h;cases hx;exact⟨b,aq,⟨rfl,aq⟩,by simp[Value.oneCell'],by simp[Rows.uptoBulk]⟩⟩
theorem GI{H α:Type}(sz:α->Nat):∀(xs:List α) (ds:List (DataW H)),xs.length=ds.length->(∀(i:Nat) (x:α) (d:DataW H),xs[i]? =some x->ds[i]? =some d->sz x<=Rows.uptoBulk d)->(xs.map sz).sum<=Rows.uptoBulkAll ds
 |[],[],_,_=>by simp
 |x::xs,d::ds,hl,h=>by
  have h1:=h 0 x d Y Y;have h2:=GI sz xs ds (by simpa using hl) (λi x d e1 e2=>h (i+1) x d (by simpa using e1) (by simpa using e2));simp only[List.map_cons,List.sum_cons,Rows.uptoBulkAll];omega
 |[],_::_,hl,_=>by simp at hl
 |_::_,[],hl,_=>by simp at hl
instance{E:TypeId}{n:Nat}{α:Type}{e:α->List SV}{ok:α->Prop}{sz:α->Nat}{by_:Nat}{zv:Value}[t:eP P T E n][tE:jI P E n by_ zv][el:EL e n][o:CW P E e ok sz]:CW P T (eS n e) (λl=>l.length<=9223372036854775807/\∀x∈l,ok x) (λl=>(l.map sz).sum+1):=⟨λ{H} enc W fuel cs d p h=>by
 have hcell:P.cellsOf E=n:=by
  have h1:=t.size W;simp only[sizeOf,typeInfo]at h1;cases hi:P.info? E with
  |none=>simp[hi]at h1
  |some i=>simp[hi]at h1;simp[Program.cellsOf,hi,h1]
 have hml:maxLen=9223372036854775807:=by decide
 rcases Deep.open_slice t.u h with⟨rfl,hx⟩|⟨a,len,cap,m,n',D,Pl,rfl,_,hl,hm,hmm,hx,hel⟩
 ·cases hx;exact⟨[],⟨by simp,by simp⟩,⟨.inl ⟨none,rfl,rfl⟩,aq⟩,by simp[Value.oneCell'],by simp[Rows.uptoBulk]⟩
 cases hx;rw[if_pos rfl]at hmm;subst hmm;have one:∀i,i<m->∃x,ok x/\sz x<=Rows.uptoBulk (D i)/\∃cs',W.cells? 0 (a.add (i*n)) n=some cs'/\SV.ec (snap W) (e x) cs'/\(∀v∈cs',v.oneCell'=true):=by
  intro i hi;obtain⟨cs',h1,h2⟩:=hel i hi;obtain⟨x,q1,q2,q3,q4⟩:=o.h enc W n' cs' (D i) (Pl i) h2;rw[hcell]at h1;exact⟨x,q1,q4,cs',h1,q2,q3⟩
 obtain⟨xs,hxl,hxs⟩:∃xs:List α,xs.length=len/\∀(i:Nat) (x:α),xs[i]? =some x->ok x/\sz x<=Rows.uptoBulk (D i)/\∃cs',W.cells? 0 (a.add (i*n)) n=some cs'/\SV.ec (snap W) (e x) cs'/\(∀v∈cs',v.oneCell'=true):=by
  clear h hm hel;have:∀k,k<=len->∃xs:List α,xs.length=k/\∀(i:Nat) (x:α),xs[i]? =some x->ok x/\sz x<=Rows.uptoBulk (D i)/\∃cs',W.cells? 0 (a.add (i*n)) n=some cs'/\SV.ec (snap W) (e x) cs'/\(∀v∈cs',v.oneCell'=true):=by
   intro k
   induction k with
   |zero=>intro _;exact⟨[],rfl,by simp⟩
   |succ k ih=>
    intro hk;obtain⟨xs,h1,h2⟩:=ih (by omega);obtain⟨x,hx⟩:=one k (by omega);refine⟨xs++[x],by simp[h1],λi y hy=>?_⟩;rcases Nat.lt_or_ge i k with hi|hi
    ·exact h2 i y (by rwa[List.getElem?_append_left (by omega)]at hy)
    rw[List.getElem?_append_right (by omega)]at hy;have hi2:i=k:=by
     rcases Nat.lt_or_ge (i-xs.length) 1 with q|q
     ·omega
     rw[List.getElem?_eq_none (by simpa using q)]at hy;cases hy
    subst hi2;rw[h1,Nat.sub_self]at hy;simp at hy;subst hy;exact hx
  exact this len (Nat.le_refl _)
 refine⟨xs,⟨by omega,λx hx=>?_⟩,⟨?_,aq⟩,by simp[Value.oneCell'],?_⟩
 ·obtain⟨i,hi,rfl⟩:=List.getElem_of_mem hx;exact(hxs i _ (List.getElem?_eq_getElem hi)).1
 ·by_cases h0:xs=[]
  ·subst h0;simp at hxl;subst hxl;by_cases hc0:m=0
   ·subst hc0;exact .inl ⟨_,rfl,rfl⟩
   obtain⟨x,_,_,cs',g1,g2,_⟩:=one 0 (by omega);obtain⟨_,g3,g4⟩:=World.cells?_some g1;have hn:0<n:=tE.p;have g5:=g4 0 hn;obtain⟨b,o',spot⟩:=a;have NT:spot=none:=by
    have:∃v,W.cell? (((⟨b,o',spot⟩:Addr).add (0*n)).add 0)=some v:=by
     rw[g5];exact⟨_,List.getElem?_eq_getElem (by omega)⟩
    obtain⟨v,hv⟩:=this;simpa[Addr.add]using World.cell?_spot hv
   subst NT;refine .inr ⟨b,o',m,rfl,by simp,by simp,λi row hr=>by simp at hr⟩
  have zU:0<len:=by
   rcases Nat.eq_zero_or_pos len with hz|hz
   ·exact absurd (List.eq_nil_of_length_eq_zero (by omega)) h0
   exact hz
  have hn:0<n:=tE.p;obtain⟨x,_,_,cs',g1,g2,_⟩:=one 0 (by omega);obtain⟨_,g3,g4⟩:=World.cells?_some g1;have g5:=g4 0 hn;obtain⟨b,o',spot⟩:=a;have NT:spot=none:=by
   have:∃v,W.cell? (((⟨b,o',spot⟩:Addr).add (0*n)).add 0)=some v:=by
    rw[g5];exact⟨_,List.getElem?_eq_getElem (by omega)⟩
   obtain⟨v,hv⟩:=this;simpa[Addr.add]using World.cell?_spot hv
  subst NT;refine .inr ⟨b,o',m,by rw[List.length_map,hxl],by rw[List.length_map];omega,by rw[List.length_map];omega,λi row hr=>?_⟩;rw[List.getElem?_map]at hr;cases hx:xs[i]? with
  |none=>rw[hx]at hr;cases hr
  |some y=>
   rw[hx]at hr;have hr:e y=row:=Option.some.inj hr;subst hr;obtain⟨_,_,cs2,k1,k2,k3⟩:=hxs i y hx;obtain⟨_,k4,k5⟩:=World.cells?_some k1;refine⟨el.len y,λk s hk=>?_⟩;obtain⟨u,hu,hs⟩:=k2.get hk;have hkn:k<n:=by have:=(List.getElem?_eq_some_iff.1 hu).1;omega
   have k6:=k5 k hkn;rw[fY,fY,hu]at k6;exact⟨u,Rx k6 (k3 u (List.mem_of_getElem? hu)),k3 u (List.mem_of_getElem? hu),hs⟩
 have hb:Rows.uptoBulk (DataW.slice ((List.range len).map D) ((List.range (m-len)).map λj=>D (len+j)))=Rows.uptoBulkAll ((List.range len).map D)+Rows.uptoBulkAll ((List.range (m-len)).map λj=>D (len+j))+1:=rfl;rw[hb];have:=GI sz xs ((List.range len).map D) (by simp[hxl]) (λi x d e1 e2=>by
  have hi:i<len:=by have:=(List.getElem?_eq_some_iff.1 e1).1;omega
  simp[hi]at e2;subst e2;exact(hxs i x e1).2.1)
 omega⟩
class YG (P:Program) (T:TypeId) (k:outParam Nat):Prop where
 h:(match P.underlying T with|some (.struct fs)=>some fs.size|_=>none)=some k
theorem AT{k:Nat}[s:YG P T k]{H:Type}{enc:TypeId×Value->H}{W:World}{fuel:Nat}{cs:List Value}{d:DataW H}{p:List MemPlace}(h:DataW.trod enc P W 0 (λ_=>true) true fuel T cs=some (d,p)):
  ∃(xs:List (DataW H×List MemPlace)) (n:Nat),d=.agg (xs.map (·.1))/\cs.length=P.cellsOf T/\xs.length=k/\∀(i off:Nat) (U:TypeId),yy P T i off U->DataW.trod enc P W 0 (λ_=>true) true n U ((cs.drop off).take (P.cellsOf U))=xs[i]? :=by
 have hs:=s.h;cases hT:P.underlying T with
 |none=>rw[hT]at hs;cases hs
 |some u=>
  rw[hT]at hs;cases u with
  |struct fs=>
   have hk:fs.size=k:=Option.some.inj hs;obtain⟨xs,n,_,hx,hl,hn,hf⟩:=DataW.trod_struct hT h;refine⟨xs,n,(Prod.mk.inj hx).1,hl,by omega,λi off U F=>?_⟩;have hF:=F.h;rw[hT]at hF;simp only at hF;cases hg:fs[i]? with
   |none=>rw[hg]at hF;cases hF
   |some f=>
    rw[hg]at hF;simp only[Option.map_some,Option.some.injEq,Prod.mk.injEq]at hF;have:=hf i f hg;rw[hF.1,hF.2]at this;exact this
  |_=>cases hs
class Zw (P:Program) (T:TypeId):Prop where
 h:∀(w:World) (r:Reach) (base:Nat) (v:Value),Value.okWide P w r base T v->v.cells.toList=[v]
instance{E:TypeId}{n:Nat}[t:eP P T E n]:Zw P T:=⟨λw r base v h=>by
 obtain⟨a,l,c,rfl⟩:=WideShapes.okWide_slice t.u h;rfl⟩
theorem Ry{α:Type}{e:α->List SV}{ok:α->Prop}{sz:α->Nat}[o1:Zw P T][o:CW P T e ok sz]{H:Type}{enc:TypeId×Value->H}{W:World}{r:Reach}{base:Nat}{v:Value}{d:DataW H}{p:List MemPlace}
  (hv:Value.okWide P W r base T v) (h:DataW.Trod enc P W 0 (λ_=>true) true T v d p):∃x,ok x/\sz x<=Rows.uptoBulk d/\SV.ec (snap W) (e x) [v]:=by
 obtain⟨fuel,h⟩:=h;rw[o1.h W r base v hv]at h;obtain⟨x,h1,h2,_,h4⟩:=o.h enc W fuel _ d p h;exact⟨x,h1,h4,h2⟩
theorem KN{α:Type}{e:α->List SV}{ok:α->Prop}{sz:α->Nat}{k:Nat}[s:YG P T k][o:CW P T e ok sz]{H:Type}{enc:TypeId×Value->H}{W:World}{r:Reach}{base:Nat}{v:Value}{d:DataW H}{p:List MemPlace}
  (hv:Value.okWide P W r base T v) (h:DataW.Trod enc P W 0 (λ_=>true) true T v d p):∃x,ok x/\sz x<=Rows.uptoBulk d/\(SV.agg (e x)).h (snap W) v:=by
 have hs:=s.h;cases hT:P.underlying T with
 |none=>rw[hT]at hs;cases hs
 |some u=>
  rw[hT]at hs;cases u with
  |struct fs=>
   obtain⟨cs,rfl,_⟩:=WideShapes.okWide_struct hT hv;obtain⟨fuel,h⟩:=h;obtain⟨x,h1,h2,_,h4⟩:=o.h enc W fuel _ d p h;exact⟨x,h1,h4,cs.toList,Y,h2⟩
  |_=>cases hs
end opn
theorem Rz{f:FuncId}{vs:List Value}{svs:List SV}{W:World}(hp:Pure ah f svs (.v (.bool true)))(h:SV.ec (snap W) svs vs):
  Calls ah f ⟨vs⟩ W λe w'=>e=.returned (.bool true)/\Below W.heap.size W w':=
 (hp (snap W) W vs (Rw W) h).mono λ_ _ ⟨v,_,h1,_,_,_,h2,h3⟩=>by
  have h2:v=.bool true:=h2;exact⟨by rw[h1,h2],h3⟩
end
section
open Go.Fw Go.RowKit Go.ChangeShapes Go.WideShapes Go.ChangeAt
theorem aes:ownKnob Tryz.prog.godebug=none:=by kernel_rfl
theorem BF:laidOutB ah=true:=by kernel_rfl
instance:YG ah 41 2:=⟨by kernel_rfl⟩
set_option maxRecDepth 100000 in
instance:CW ah 41 eZ (λ(z:Zr)=>(True/\(z.w.length<=9223372036854775807/\∀x1∈z.w,x1<4294967296))) (λ(z:Zr)=>(1+((z.w.map λx1=>1).sum+1)+1)):=⟨λenc W fuel cs d p h=>by
 obtain⟨xs,n,rfl,hl,hn,hf⟩:=AT h;have hl:cs.length=2:=hl.trans (by kernel_rfl)
 match xs,hn with
 |[⟨d0,p0⟩,⟨d1,p1⟩],_=>
 match cs,hl with
 |[c0,c1],_=>
 have t0:DataW.trod enc ah W 0 (λ_=>true) true n 4 [c0]=some (d0,p0):=(by have q:=hf 0 _ _ inferInstance;rw[show Tryz.prog.cellsOf 4=1 by kernel_rfl]at q;exact q);obtain⟨x0,a0,b0,e0,s0⟩:=CW.h (P:=ah) (T:=4) (e:=eB) enc W n _ d0 p0 t0;have t1:DataW.trod enc ah W 0 (λ_=>true) true n 39 [c1]=some (d1,p1):=(by have q:=hf 1 _ _ inferInstance;rw[show Tryz.prog.cellsOf 39=1 by kernel_rfl]at q;exact q);obtain⟨x1,a1,b1,e1,s1⟩:=CW.h (P:=ah) (T:=39) (e:=(eS 1 aY)) enc W n _ d1 p1 t1;refine⟨⟨x0,x1⟩,⟨a0,a1⟩,⟨b0.1,b1.1,aq⟩,?_,?_⟩
 ·intro v hv;simp only[List.mem_cons,List.not_mem_nil,or_false]at hv;rcases hv with rfl|rfl
  ·exact e0 _ (by simp)
  exact e1 _ (by simp)
 simp only[List.map_cons,List.map_nil,Rows.uptoBulk,Rows.uptoBulkAll];omega⟩
instance:YG ah 43 2:=⟨by kernel_rfl⟩
set_option maxRecDepth 100000 in
instance:CW ah 43 eQ (λ(z:Qr)=>((True/\(z.num.w.length<=9223372036854775807/\∀x1∈z.num.w,x1<4294967296))/\(True/\(z.den.w.length<=9223372036854775807/\∀x1∈z.den.w,x1<4294967296)))) (λ(z:Qr)=>((1+((z.num.w.map λx1=>1).sum+1)+1)+(1+((z.den.w.map λx1=>1).sum+1)+1)+1)):=⟨λenc W fuel cs d p h=>by
 obtain⟨xs,n,rfl,hl,hn,hf⟩:=AT h;have hl:cs.length=4:=hl.trans (by kernel_rfl)
 match xs,hn with
 |[⟨d0,p0⟩,⟨d1,p1⟩],_=>
 match cs,hl with
 |[c0,c1,c2,c3],_=>
 have t0:DataW.trod enc ah W 0 (λ_=>true) true n 41 [c0,c1]=some (d0,p0):=(by have q:=hf 0 _ _ inferInstance;rw[show Tryz.prog.cellsOf 41=2 by kernel_rfl]at q;exact q);obtain⟨x0,a0,b0,e0,s0⟩:=CW.h (P:=ah) (T:=41) (e:=eZ) enc W n _ d0 p0 t0;have t1:DataW.trod enc ah W 0 (λ_=>true) true n 41 [c2,c3]=some (d1,p1):=(by have q:=hf 1 _ _ inferInstance;rw[show Tryz.prog.cellsOf 41=2 by kernel_rfl]at q;exact q);obtain⟨x1,a1,b1,e1,s1⟩:=CW.h (P:=ah) (T:=41) (e:=eZ) enc W n _ d1 p1 t1;refine⟨⟨x0,x1⟩,⟨a0,a1⟩,⟨b0.1,b0.2.1,b1.1,b1.2.1,aq⟩,?_,?_⟩
 ·intro v hv;simp only[List.mem_cons,List.not_mem_nil,or_false]at hv;rcases hv with rfl|rfl|rfl|rfl
  ·exact e0 _ (by simp)
  ·exact e0 _ (by simp)
  ·exact e1 _ (by simp)
  exact e1 _ (by simp)
 simp only[List.map_cons,List.map_nil,Rows.uptoBulk,Rows.uptoBulkAll];omega⟩
instance:YG ah 25 4:=⟨by kernel_rfl⟩
set_option maxRecDepth 100000 in
instance:CW ah 25 Jm (λ(z:Lr)=>((-9223372036854775808<=z.vars/\z.vars<=9223372036854775807)/\(z.EE.length<=9223372036854775807/\∀x1∈z.EE,(x1.length<=9223372036854775807/\∀x2∈x1,((True/\(x2.num.w.length<=9223372036854775807/\∀x3∈x2.num.w,x3<4294967296))/\(True/\(x2.den.w.length<=9223372036854775807/\∀x3∈x2.den.w,x3<4294967296)))))/\(z.rows.length<=9223372036854775807/\∀x1∈z.rows,(x1.length<=9223372036854775807/\∀x2∈x1,((True/\(x2.num.w.length<=9223372036854775807/\∀x3∈x2.num.w,x3<4294967296))/\(True/\(x2.den.w.length<=9223372036854775807/\∀x3∈x2.den.w,x3<4294967296)))))/\(z.bounds.length<=9223372036854775807/\∀x1∈z.bounds,((True/\(x1.num.w.length<=9223372036854775807/\∀x2∈x1.num.w,x2<4294967296))/\(True/\(x1.den.w.length<=9223372036854775807/\∀x2∈x1.den.w,x2<4294967296)))))) (λ(z:Lr)=>(1+((z.EE.map λx1=>((x1.map λx2=>((1+((x2.num.w.map λx3=>1).sum+1)+1)+(1+((x2.den.w.map λx3=>1).sum+1)+1)+1)).sum+1)).sum+1)+((z.rows.map λx1=>((x1.map λx2=>((1+((x2.num.w.map λx3=>1).sum+1)+1)+(1+((x2.den.w.map λx3=>1).sum+1)+1)+1)).sum+1)).sum+1)+((z.bounds.map λx1=>((1+((x1.num.w.map λx2=>1).sum+1)+1)+(1+((x1.den.w.map λx2=>1).sum+1)+1)+1)).sum+1)+1)):=⟨λenc W fuel cs d p h=>by
 obtain⟨xs,n,rfl,hl,hn,hf⟩:=AT h;have hl:cs.length=4:=hl.trans (by kernel_rfl)
 match xs,hn with
 |[⟨d0,p0⟩,⟨d1,p1⟩,⟨d2,p2⟩,⟨d3,p3⟩],_=>
 match cs,hl with
 |[c0,c1,c2,c3],_=>
 have t0:DataW.trod enc ah W 0 (λ_=>true) true n 3 [c0]=some (d0,p0):=(by have q:=hf 0 _ _ inferInstance;rw[show Tryz.prog.cellsOf 3=1 by kernel_rfl]at q;exact q);obtain⟨x0,a0,b0,e0,s0⟩:=CW.h (P:=ah) (T:=3) (e:=bT) enc W n _ d0 p0 t0;have t1:DataW.trod enc ah W 0 (λ_=>true) true n 22 [c1]=some (d1,p1):=(by have q:=hf 1 _ _ inferInstance;rw[show Tryz.prog.cellsOf 22=1 by kernel_rfl]at q;exact q);obtain⟨x1,a1,b1,e1,s1⟩:=CW.h (P:=ah) (T:=22) (e:=(eS 1 (eS 4 eQ))) enc W n _ d1 p1 t1;have t2:DataW.trod enc ah W 0 (λ_=>true) true n 22 [c2]=some (d2,p2):=(by have q:=hf 2 _ _ inferInstance;rw[show Tryz.prog.cellsOf 22=1 by kernel_rfl]at q;exact q);obtain⟨x2,a2,b2,e2,s2⟩:=CW.h (P:=ah) (T:=22) (e:=(eS 1 (eS 4 eQ))) enc W n _ d2 p2 t2;have t3:DataW.trod enc ah W 0 (λ_=>true) true n 23 [c3]=some (d3,p3):=(by have q:=hf 3 _ _ inferInstance;rw[show Tryz.prog.cellsOf 23=1 by kernel_rfl]at q;exact q);obtain⟨x3,a3,b3,e3,s3⟩:=CW.h (P:=ah) (T:=23) (e:=(eS 4 eQ)) enc W n _ d3 p3 t3;refine⟨⟨x0,x1,x2,x3⟩,⟨a0,a1,a2,a3⟩,⟨b0.1,b1.1,b2.1,b3.1,aq⟩,?_,?_⟩
 ·intro v hv;simp only[List.mem_cons,List.not_mem_nil,or_false]at hv;rcases hv with rfl|rfl|rfl|rfl
  ·exact e0 _ (by simp)
  ·exact e1 _ (by simp)
  ·exact e2 _ (by simp)
  exact e3 _ (by simp)
 simp only[List.map_cons,List.map_nil,Rows.uptoBulk,Rows.uptoBulkAll];omega⟩
instance:YG ah 38 2:=⟨by kernel_rfl⟩
set_option maxRecDepth 100000 in
instance:CW ah 38 KK (λ(z:Pv)=>((-9223372036854775808<=z.row/\z.row<=9223372036854775807)/\(-9223372036854775808<=z.col/\z.col<=9223372036854775807))) (λ(z:Pv)=>(1+1+1)):=⟨λenc W fuel cs d p h=>by
 obtain⟨xs,n,rfl,hl,hn,hf⟩:=AT h;have hl:cs.length=2:=hl.trans (by kernel_rfl)
 match xs,hn with
 |[⟨d0,p0⟩,⟨d1,p1⟩],_=>
 match cs,hl with
 |[c0,c1],_=>
 have t0:DataW.trod enc ah W 0 (λ_=>true) true n 3 [c0]=some (d0,p0):=(by have q:=hf 0 _ _ inferInstance;rw[show Tryz.prog.cellsOf 3=1 by kernel_rfl]at q;exact q);obtain⟨x0,a0,b0,e0,s0⟩:=CW.h (P:=ah) (T:=3) (e:=bT) enc W n _ d0 p0 t0;have t1:DataW.trod enc ah W 0 (λ_=>true) true n 3 [c1]=some (d1,p1):=(by have q:=hf 1 _ _ inferInstance;rw[show Tryz.prog.cellsOf 3=1 by kernel_rfl]at q;exact q);obtain⟨x1,a1,b1,e1,s1⟩:=CW.h (P:=ah) (T:=3) (e:=bT) enc W n _ d1 p1 t1;refine⟨⟨x0,x1⟩,⟨a0,a1⟩,⟨b0.1,b1.1,aq⟩,?_,?_⟩
 ·intro v hv;simp only[List.mem_cons,List.not_mem_nil,or_false]at hv;rcases hv with rfl|rfl
  ·exact e0 _ (by simp)
  exact e1 _ (by simp)
 simp only[List.map_cons,List.map_nil,Rows.uptoBulk,Rows.uptoBulkAll];omega⟩
end
end Go.Proofs.YtningmnklfpfjaaGreat
namespace Go.Fw
section
open Go.RowKit
theorem uD{S:AS}(i o k:Nat)(E0:TypeId)(sz:Nat){T:TypeId}{cells:List AV}(hb:S.b i=some ⟨T,cells⟩)(hc:cells[o]? =some (.sv (.v (.slice none 0 0))))(hk:S.r k=.un)(Zj:k<1000):
  sy S ((AS.cc [(k,.live ⟨E0,sz,0,[]⟩)] S).jW i ⟨T,cells.set o (.row k)⟩):=by
 rintro C a w ⟨E,h⟩;have h1:=h.newRow hk Zj [] none (.inl ⟨Y,Y⟩) (R':=⟨E0,sz,0,[]⟩) (World.ownsRow_nil w 0 E0 sz) (vs':=[]) trivial (.inl Y) (oz w none);have yH:(AS.cc [(k,.live ⟨E0,sz,0,[]⟩)] S).b i=some ⟨T,cells⟩:=hb;have hrk:(AS.cc [(k,.live ⟨E0,sz,0,[]⟩)] S).r k≠ .un:=by
  show(AS.ou S k _).r k≠_;rw[AS.gM];simp
 refine⟨_,{h1 with wf:=?_,bx:=λj B hB=>?_,inj:=λj j' B B' hB fH e=>?_,rx:=λj R hR=>?_}⟩
 ·refine⟨λt j hj=>?_,h1.wf.tr,λj B hB x hx m hm=>?_,λj B hB x hx m hm=>?_⟩
  ·obtain⟨B,hB⟩:=h1.wf.tb t j hj;by_cases e:j=i
   ·subst e;exact⟨_,AS.cX _ _ _⟩
   exact⟨B,by rw[AS.bX _ _ _ _ e];exact hB⟩
  ·have key:∃B',(AS.cc [(k,.live ⟨E0,sz,0,[]⟩)] S).b m=some B':=by
    by_cases e:j=i
    ·subst e;rw[AS.cX]at hB;cases hB;rcases List.mem_or_eq_of_mem_set hx with hx|rfl
     ·exact h1.wf.bb j _ yH x hx m hm
     exact hm.elim
    rw[AS.bX _ _ _ _ e]at hB;exact h1.wf.bb j B hB x hx m hm
   obtain⟨B',fH⟩:=key;by_cases e:m=i
   ·subst e;exact⟨_,AS.cX _ _ _⟩
   exact⟨B',by rw[AS.bX _ _ _ _ e];exact fH⟩
  by_cases e:j=i
  ·subst e;rw[AS.cX]at hB;cases hB;rcases List.mem_or_eq_of_mem_set hx with hx|rfl
   ·exact h1.wf.br j _ yH x hx m hm
   cases hm;exact hrk
  rw[AS.bX _ _ _ _ e]at hB;exact h1.wf.br j B hB x hx m hm
 ·by_cases e:j=i
  ·subst e;rw[AS.cX]at hB;cases hB;obtain⟨q1,q2,q3,vs,q4,q5⟩:=h1.bx j _ yH;refine⟨q1,q2,q3,vs,q4,?_⟩;obtain⟨x,hx,hv⟩:=q5.get hc;have hv:x=.slice none 0 0:=hv;have:=dx.set (i:=o) (s:=.row k) (x:=x) q5 (by
    show x=if k=k then _ else _;rw[if_pos rfl];exact hv)
   have he:vs.set o x=vs:=by
    apply List.ext_getElem?;intro n;rw[List.getElem?_set];split
    ·rename_i hn;subst hn;rw[hx];split<;>rename_i hl
     ·rfl
     have:=(List.getElem?_eq_some_iff.1 hx).1;exact absurd this hl
    rfl
   rwa[he]at this
  rw[AS.bX _ _ _ _ e]at hB;exact h1.bx j B hB
 ·have old:∀n B,((AS.cc [(k,.live ⟨E0,sz,0,[]⟩)] S).jW i ⟨T,cells.set o (.row k)⟩).b n=some B->∃B',(AS.cc [(k,.live ⟨E0,sz,0,[]⟩)] S).b n=some B':=λn B hn=>by
   by_cases e:n=i
   ·subst e;exact⟨_,yH⟩
   rw[AS.bX _ _ _ _ e]at hn;exact⟨B,hn⟩
  obtain⟨B1,p1⟩:=old j B hB;obtain⟨B2,p2⟩:=old j' B' fH;exact h1.inj j j' B1 B2 p1 p2 e
 obtain⟨p1,p2⟩:=h1.rx j R hR;refine⟨p1,λg hg=>?_⟩;obtain⟨p3,p4,p5,p6⟩:=p2 g hg;refine⟨p3,p4,p5,λn B hn=>?_⟩;by_cases e:n=i
 ·subst e;exact p6 n _ yH
 rw[AS.bX _ _ _ _ e]at hn;exact p6 n B hn
end
section
open Go.RowKit
section part
variable {P:Program}{C:Ctx}{ops:Array Oper}{acts:List Ac}{S:AS}
def xB(ops:Array Oper)(m:Nat)(acts:List Ac):Bool:=
 let b:=Region.before ops
 (acts.length==m)&&(decide (m<=ops.size))&&
 (ops.toList.zipIdx.all λ(o,j)=>o.after.all λe=>!Region.binds .any e||decide (e.on<j))&&
 (acts.zipIdx.all λ(y,j)=>acts.zipIdx.all λ(x,i)=>!(decide (i<j))|| !(x.mz y)||(b.getD j 0).testBit i)&&
 ((List.range ops.size).all λj=>!(decide (m<=j))||(List.range j).all λi=>(b.getD j 0).testBit i)
theorem sQ{m:Nat}(h:xB ops m acts=true):acts.length=m/\m<=ops.size/\
  (∀(j:Nat) (o:Oper),ops[j]? =some o->∀e∈o.after,Region.binds .any e=true->e.on<j)/\
  (∀(i j:Nat) (x y:Ac),acts[i]? =some x->acts[j]? =some y->i<j->x.mz y=true->((Region.before ops).getD j 0).testBit i=true)/\
  (∀i j:Nat,m<=j->j<ops.size->i<j->((Region.before ops).getD j 0).testBit i=true):=by
 simp only[xB,Bool.and_eq_true,beq_iff_eq,List.all_eq_true,decide_eq_true_eq]at h;obtain⟨⟨⟨⟨h1,h0⟩,h2⟩,h3⟩,h4⟩:=h;refine⟨h1,h0,?_,?_,?_⟩
 ·intro j o ho e he hb;have:=h2 (o,j) (List.mem_zipIdx_iff_getElem?.2 (by simpa using ho));simp only[Array.all_eq_true_iff_forall_mem]at this;have:=this e he;simpa[hb]using this
 ·intro i j x y hx hy hij hc;have:=h3 (y,j) (List.mem_zipIdx_iff_getElem?.2 (by simpa using hy)) (x,i) (List.mem_zipIdx_iff_getElem?.2 (by simpa using hx));simpa[hij,hc]using this
 intro i j hm hj hij;have:=h4 j (List.mem_range.2 hj);simp only[hm,decide_true,Bool.not_true,Bool.false_or,List.all_eq_true]at this;exact this i (List.mem_range.2 hij)
theorem lC(listed:Array Bool)(i:Nat)(hs:listed.size=ops.size)(hi:i<ops.size):listed.getD i true=listed.getD i false:=by
 rw[Array.getD_eq_getD_getElem?,Array.getD_eq_getD_getElem?];rw[Array.getElem?_eq_getElem (by omega)];rfl
theorem BG(xl:∀(j:Nat) (o:Oper),ops[j]? =some o->∀e∈o.after,Region.binds .any e=true->e.on<j)(listed:Array Bool)(hs:listed.size=ops.size)(hr:Region.ready .any ops listed=[]):∀i,i<ops.size->listed.getD i false=true:=by
 intro i
 induction i using Nat.strongRecOn with
 |_ i ih=>
  intro hi;cases I6:listed.getD i false with
  |true=>rfl
  |false=>
   exfalso;have:i∈Region.ready .any ops listed:=by
    simp only[Region.ready,List.mem_filter,List.mem_range];refine⟨hi,?_⟩;rw[lC listed i hs hi,I6,Array.getElem?_eq_getElem hi];simp only[Bool.not_false,Bool.true_and,Option.map_some,Option.getD_some,Array.all_eq_true_iff_forall_mem];intro e he;cases hb:Region.binds .any e with
    |false=>rfl
    |true=>
     have hlt:=xl i ops[i] (Array.getElem?_eq_getElem hi) e he hb;rw[ih e.on hlt (by omega)];rfl
   rw[hr]at this;simp at this
theorem zV{listed:Array Bool}(hs:listed.size=ops.size)(hD:Down ops (λi=>listed.getD i false)){i:Nat}(hi:i∈Region.ready .any ops listed):
  ∃h:i<ops.size,listed.getD i false=false/\(∀m,(listed.setIfInBounds i true).getD m false=if m=i then true else listed.getD m false)/\Down ops (λm=>(listed.setIfInBounds i true).getD m false):=by
 simp only[Region.ready,List.mem_filter,List.mem_range,Bool.and_eq_true,Bool.not_eq_true']at hi;obtain⟨hi,I6,hpre⟩:=hi;have C4:listed.getD i false=false:=by rw[<-lC listed i hs hi];exact I6
 have ho:ops[i]? =some ops[i]:=Array.getElem?_eq_getElem hi;have Nf:∀e∈ops[i].after,Region.binds .any e=true->listed.getD e.on false=true:=by
  rw[ho]at hpre;simp only[Option.map_some,Option.getD_some,Array.all_eq_true_iff_forall_mem]at hpre;intro e he hb;have:=hpre e he;simpa[hb]using this
 have ff:∀m,(listed.setIfInBounds i true).getD m false=if m=i then true else listed.getD m false:=by
  intro m;rw[Array.getD_eq_getD_getElem?,Array.getElem?_setIfInBounds];by_cases hm:m=i
  ·subst hm;simp[hs,hi]
  rw[if_neg (by omega),if_neg hm,Array.getD_eq_getD_getElem?]
 refine⟨hi,C4,ff,?_⟩;intro j o hj hl e he hb;simp only[ff]at hl⊢;by_cases hji:j=i
 ·subst hji;have:o=ops[j]:=by rw[ho]at hj;exact(Option.some.inj hj).symm
  subst this;have:=Nf e he hb;split<;>simp_all
 rw[if_neg hji]at hl;have:=hD j o hj hl e he hb;split<;>simp_all
theorem EH{m:Nat}(xl:∀(j:Nat) (o:Oper),ops[j]? =some o->∀e∈o.after,Region.binds .any e=true->e.on<j)
  (GJ:∀i j:Nat,m<=j->j<ops.size->i<j->((Region.before ops).getD j 0).testBit i=true) {Q:Exit->Act->World->Prop} {R:AS->Prop} (hQ:∀S a w,R S->S.holds C a w->Q .normal a w):
  ∀(fuel k:Nat) (listed:Array Bool) (a:Act) (w:World) (S:AS) (acc:List Ac),m<=k->k<=ops.size->listed.size=ops.size->(∀i,i<ops.size->listed.getD i false=decide (i<k))->ops.size-k<=fuel->Down ops (λi=>listed.getD i false)->
   RunT P C ops true (λ_ S=>R S) (ops.toList.drop k) acc S->S.holds C a w->wpAnyIn (Fr C.ro) 0 P .any ops Q fuel listed a w:=by
 intro fuel
 induction fuel with
 |zero=>
  intro k listed a w S acc hm hk hs hl hf hD hR hh;obtain rfl:k=ops.size:=by omega
  rw[show ops.toList.drop ops.size=[] by simp]at hR;refine⟨?_,hQ S a w hR hh⟩;simp only[Region.ready,List.filter_eq_nil_iff,List.mem_range];intro i hi;rw[lC listed i hs hi,hl i hi,decide_eq_true hi];simp
 |succ fuel ih=>
  intro k listed a w S acc hm hk hs hl hf hD hR hh;refine⟨λhr=>?_,λi hi=>?_⟩
  ·have hall:=BG xl listed hs hr;obtain rfl:k=ops.size:=by
    rcases Nat.lt_or_ge k ops.size with h|h
    ·have:=hall k h;rw[hl k h]at this;simp at this
    omega
   rw[show ops.toList.drop ops.size=[] by simp]at hR;exact hQ S a w hR hh
  obtain⟨hi,I6,ff,Q7⟩:=zV hs hD hi;have Q8:i=k:=by
   have h1:¬i<k:=by rw[hl i hi]at I6;simpa using I6
   rcases Nat.lt_or_ge k i with h|h
   ·have hb:=GJ k i (by omega) hi h;have:=k8 Q7 i k hb (by simp[ff]);rw[ff,if_neg (by omega),hl k (by omega)]at this;simp at this
   omega
  subst Q8;have ho:ops[i]? =some ops[i]:=Array.getElem?_eq_getElem hi;have Zx:ops.toList.drop i=ops[i]::ops.toList.drop (i+1):=by
   rw[List.drop_eq_getElem_cons (by simpa using hi)];simp
  rw[Zx]at hR;have next:∀(S':AS) (acc':List Ac) (a':Act) (w':World),RunT P C ops true (λ_ S=>R S) (ops.toList.drop (i+1)) acc' S'->S'.holds C a' w'->wpAnyIn (Fr C.ro) 0 P .any ops Q fuel (listed.setIfInBounds i true) a' w':=by
   intro S' acc' a' w' h1 h2;refine ih (i+1) _ a' w' S' acc' (by omega) hi (by simp[hs]) (λj hj=>?_) (by omega) Q7 h1 h2;rw[ff];by_cases hji:j=i
   ·rw[if_pos hji];simp[hji]
   rw[if_neg hji,hl j hj,decide_eq_decide];omega
  rcases hR with⟨rs,rb,rr,e,hop,NU⟩|⟨_,Post,hop,NU⟩
  ·exact hop S rfl (λ_ _=>rfl) (λ_ _=>rfl) (λ_ _=>rfl) i a w _ Q ho hh (λa' w' Vc=>next _ _ a' w' NU Vc)
  exact hop i a w _ Q ho hh (λS' a' w' hp Vc=>next S' [] a' w' (NU S' hp) Vc)
theorem EI{m:Nat}(hT:Nb P C ops acts S)(C3:xB ops m acts=true){Q:Exit->Act->World->Prop}
  (hQ:∀(fuel:Nat) (listed:Array Bool) a w,listed.size=ops.size->(∀i,i<ops.size->listed.getD i false=decide (i<m))->ops.size-m<=fuel->Down ops (λi=>listed.getD i false)->(ov S (cu acts) (λ_=>true) m).holds C a w->wpAnyIn (Fr C.ro) 0 P .any ops Q fuel listed a w):
  ∀(fuel:Nat) (listed:Array Bool) (a:Act) (w:World),listed.size=ops.size->Nc ops.size listed<=fuel->Down ops (λi=>listed.getD i false)->(∀i,listed.getD i false=true->i<m)->
   (ov S (cu acts) (λi=>listed.getD i false) m).holds C a w->wpAnyIn (Fr C.ro) 0 P .any ops Q fuel listed a w:=by
 obtain⟨hlen,hmn,xl,yD,GJ⟩:=sQ C3;have whole:∀(fuel:Nat) (listed:Array Bool) (a:Act) (w:World),listed.size=ops.size->Nc ops.size listed<=fuel->Down ops (λi=>listed.getD i false)->(∀i,listed.getD i false=true->i<m)->
   (ov S (cu acts) (λi=>listed.getD i false) m).holds C a w->(∀i,i<m->listed.getD i false=true)->wpAnyIn (Fr C.ro) 0 P .any ops Q fuel listed a w:=by
  intro fuel listed a w hs hu hD hL hh hall;refine hQ fuel listed a w hs (λi hi=>?_) ?_ hD ?_
  ·by_cases h:i<m
   ·rw[hall i h,decide_eq_true h]
   rw[decide_eq_false h];cases e:listed.getD i false with
   |false=>rfl
   |true=>exact absurd (hL i e) h
  ·have hsub:(List.range ops.size).filter (λi=>!decide (i<m))=(List.range ops.size).filter λi=>!listed.getD i true:=by
    apply List.filter_congr;intro i hi;have hi:=List.mem_range.1 hi;rw[lC listed i hs hi];by_cases h:i<m
    ·rw[hall i h,decide_eq_true h]
    rw[decide_eq_false h];cases e:listed.getD i false with
    |false=>rfl
    |true=>exact absurd (hL i e) h
   have VE:∀n,m<=n->((List.range n).filter (λi=>!decide (i<m))).length=n-m:=by
    intro n
    induction n with
    |zero=>intro h;simp
    |succ n ih=>
     intro h;rw[List.range_succ,List.filter_append,List.length_append];rcases Nat.lt_or_ge n m with q|q
     ·obtain rfl:m=n+1:=by omega
      have h1:((List.range n).filter (λi=>!decide (i<n+1)))=[]:=by
       rw[List.filter_eq_nil_iff];intro i hi;have:=List.mem_range.1 hi;simp;omega
      rw[h1];simp
     rw[ih q,List.filter_cons,decide_eq_false (by omega:¬n<m)];simp;omega
   have h2:Nc ops.size listed=ops.size-m:=by unfold Nc;rw[<-hsub,VE _ hmn]
   omega
  rwa[ni S (cu acts) (L:=λi=>listed.getD i false) (L':=λ_=>true) m hall]at hh
 intro fuel
 induction fuel with
 |zero=>
  intro listed a w hs hu hD hL hh;refine whole 0 listed a w hs hu hD hL hh (λi hi=>?_);cases I6:listed.getD i false with
  |true=>rfl
  |false=>
   exfalso;have hm:i∈(List.range ops.size).filter λi=>!listed.getD i true:=by
    rw[List.mem_filter];exact⟨List.mem_range.2 (by omega),by rw[lC listed i hs (by omega),I6];rfl⟩
   have:0<Nc ops.size listed:=List.length_pos_of_mem hm;omega
 |succ fuel ih=>
  intro listed a w hs hu hD hL hh;by_cases hall:∀i,i<m->listed.getD i false=true
  ·exact whole _ listed a w hs hu hD hL hh hall
  have hex:∃i,i<m/\listed.getD i false=false:=Classical.byContradiction (λhc=>hall (λi hi=>by
   cases e:listed.getD i false with
   |true=>rfl
   |false=>exact absurd ⟨i,hi,e⟩ hc))
  obtain⟨i0,Tq,YE⟩:=hex;refine⟨λhr=>?_,λi hi=>?_⟩
  ·have:=BG xl listed hs hr i0 (by omega);rw[YE]at this;cases this
  have hi':=hi;obtain⟨hi,C4,ff,Q7⟩:=zV hs hD hi;have ho:ops[i]? =some ops[i]:=Array.getElem?_eq_getElem hi;have him:i<m:=by
   rcases Nat.lt_or_ge i m with h|h
   ·exact h
   have hb:=GJ i0 i h hi (by omega);have:=k8 Q7 i i0 hb (by simp[ff]);rw[ff,if_neg (by omega),YE]at this;cases this
  have Q6:i<acts.length:=by omega
  have hx:acts[i]? =some acts[i]:=List.getElem?_eq_getElem Q6;have U9:cu acts i=acts[i].e:=by simp[cu,Q6]
  have later:∀k,i<k->listed.getD k false=true->(acts[i]).mz ((acts[k]?).getD ⟨[],[],[],⟨none,[],[]⟩⟩)=false:=by
   intro k hk hlk;have hkn:k<m:=hL k hlk;have hka:acts[k]? =some acts[k]:=List.getElem?_eq_getElem (by omega);rw[hka,Option.getD_some];cases hc:(acts[i]).mz acts[k]with
   |false=>rfl
   |true=>
    have hb:=yD i k _ _ hx hka hk hc;have:=k8 hD k i hb hlk;simp only[C4]at this;exact absurd this (by simp)
  have Er:∀k,k<i->listed.getD k false=false->((acts[k]?).getD ⟨[],[],[],⟨none,[],[]⟩⟩).mz acts[i]=false:=by
   intro k hk hlk;have hka:acts[k]? =some acts[k]:=List.getElem?_eq_getElem (by omega);rw[hka,Option.getD_some];cases hc:(acts[k]).mz acts[i]with
   |false=>rfl
   |true=>
    have hb:=yD k i _ _ hka hx hk hc;have:=k8 Q7 i k hb (by simp[ff]);rw[ff,if_neg (by omega),hlk]at this;exact absurd this (by simp)
  have I7:∀k,((acts[k]?).getD ⟨[],[],[],⟨none,[],[]⟩⟩).e=cu acts k:=by
   intro k;unfold cu;cases acts[k]? <;>rfl
  have iL:∀{x y:Ac},x.mz y=false->(∀d∈x.e.ks,d∉y.rs/\d∉y.e.ks)/\(∀d∈y.e.ks,d∉x.rs)/\(∀d∈x.e.kb,d∉y.rb/\d∉y.e.kb)/\(∀d∈y.e.kb,d∉x.rb)/\(∀d∈x.e.kr,d∉y.rr/\d∉y.e.kr)/\(∀d∈y.e.kr,d∉x.rr):=by
   intro x y h;simp only[Ac.mz,Bool.or_eq_false_iff]at h;exact⟨fU h.1.1.1.1.1,λd hd=>(fU h.1.1.1.1.2 d hd).1,fU h.1.1.1.2,λd hd=>(fU h.1.1.2 d hd).1,fU h.1.2,λd hd=>(fU h.2 d hd).1⟩
  have look:∀{α:Type} (get:AS->Nat->α) (wr:pB->Nat->Option α) (ff:∀S e s,get (S.app e) s=(wr e s).getD (get S s)) (rk:Ac->List Nat) (wk:pB->List Nat)
    (hk:∀e s,wr e s≠none->s∈wk e) (c1:∀x y:Ac,x.mz y=false->(∀d∈wk x.e,d∉rk y)/\(∀d∈wk y.e,d∉rk x)),∀s∈rk acts[i],
    get (ov S (cu acts) (λq=>listed.getD q false) m) s=get (ov S (cu acts) (λ_=>true) i) s:=by
   intro α get wr ff rk wk hk c1 s C5;rw[Kw get wr ff S (cu acts) _ s i m (by omega)]
   ·refine Gl get wr ff S (cu acts) _ _ s i λm hm hw=>?_;cases DH:listed.getD m false with
    |true=>rfl
    |false=>
     have:=(c1 _ _ (Er m hm DH)).1 s (by rw[I7];exact hk _ _ hw);exact absurd C5 this
   intro m hm1 MX DH;cases hw:wr (cu acts m) s with
   |none=>rfl
   |some x=>
    exfalso;rcases Nat.lt_or_ge i m with h|h
    ·have:=(c1 _ _ (later m h DH)).2 s (by rw[I7];exact hk _ _ (by rw[hw];simp));exact this C5
    obtain rfl:m=i:=by omega
    simp only[C4]at DH;exact absurd DH (by simp)
  refine hT i ops[i] acts[i] ho hx (ov S (cu acts) (λq=>listed.getD q false) m) (by rw[Na,Na]) ?_ ?_ ?_ i a w _ Q ho hh ?_
  ·exact look AS.t wT AS.Gh Ac.rs pB.ks (λ_ _ h=>Ep h) (λx y h=>⟨λd hd=>((iL h).1 d hd).1,(iL h).2.1⟩)
  ·exact look AS.b (λe=>qt e.bx) AS.Gi Ac.rb pB.kb (λ_ _ h=>qu h) (λx y h=>⟨λd hd=>((iL h).2.2.1 d hd).1,(iL h).2.2.2.1⟩)
  ·exact look AS.r (λe=>dL e.rw) AS.Gj Ac.rr pB.kr (λ_ _ h=>qw h) (λx y h=>⟨λd hd=>((iL h).2.2.2.2.1 d hd).1,(iL h).2.2.2.2.2⟩)
  intro a' w' Vc;refine ih (listed.setIfInBounds i true) a' w' (by simp[hs]) ?_ Q7 ?_ ?_
  ·have:=Nd hi hs (by rw[lC listed i hs hi];exact C4);omega
  ·intro k hk;rw[ff]at hk;by_cases Q8:k=i
   ·omega
   rw[if_neg Q8]at hk;exact hL k hk
  have heq:ov S (cu acts) (λq=>(listed.setIfInBounds i true).getD q false) m=(ov S (cu acts) (λq=>listed.getD q false) m).app acts[i].e:=by
   have hsm:∀k,k<=i->ov S (cu acts) (λq=>(listed.setIfInBounds i true).getD q false) k=ov S (cu acts) (λq=>listed.getD q false) k:=λk hk=>
    ni S (cu acts) k (λm hm=>by rw[ff,if_neg (by omega)])
   have step:∀k,i<k->k<=m->ov S (cu acts) (λq=>(listed.setIfInBounds i true).getD q false) k=(ov S (cu acts) (λq=>listed.getD q false) k).app acts[i].e:=by
    intro k hk hkn
    induction k with
    |zero=>omega
    |succ k ihk=>
     by_cases Q8:k=i
     ·subst Q8;show(if(listed.setIfInBounds k true).getD k false then _ else _)=AS.app (if listed.getD k false then _ else _) _;rw[ff,if_pos Y,if_pos Y,C4,hsm k (Nat.le_refl _),U9];rfl
     have ih2:=ihk (by omega) (by omega);show(if(listed.setIfInBounds i true).getD k false then(ov S (cu acts) (λq=>(listed.setIfInBounds i true).getD q false) k).app (cu acts k)else ov S (cu acts) (λq=>(listed.setIfInBounds i true).getD q false) k)=AS.app (if listed.getD k false then(ov S (cu acts) (λq=>listed.getD q false) k).app (cu acts k)else ov S (cu acts) (λq=>listed.getD q false) k) _;rw[ff,if_neg Q8,ih2];cases hlk:listed.getD k false with
     |false=>rfl
     |true=>
      rw[if_pos Y,if_pos rfl];have hc:=iL (later k (by omega) hlk);rw[I7]at hc;have two:∀{α:Type} (get:AS->Nat->α) (wr:pB->Nat->Option α) (ff:∀S e s,get (S.app e) s=(wr e s).getD (get S s)) (wk:pB->List Nat) (hk:∀e s,wr e s≠none->s∈wk e)
        (c1:∀d∈wk acts[i].e,d∉wk (cu acts k)) (T:AS) (s:Nat),get ((T.app acts[i].e).app (cu acts k)) s=get ((T.app (cu acts k)).app acts[i].e) s:=by
       intro α get wr ff wk hk c1 T s;rw[ff,ff,ff,ff];cases h1:wr acts[i].e s with
       |none=>rfl
       |some x=>
        cases h2:wr (cu acts k) s with
        |none=>rfl
        |some y=>exact absurd (hk _ s (by rw[h2];simp)) (c1 s (hk _ s (by rw[h1];simp)))
      refine AS.ext' (by simp[AS.M9]) (λs=>?_) (λs=>?_) (λs=>?_) (by simp[AS.DG]) (by simp[AS.DG])
      ·exact two AS.t wT AS.Gh pB.ks (λ_ _ h=>Ep h) (λd hd=>(hc.1 d hd).2) _ s
      ·exact two AS.b (λe=>qt e.bx) AS.Gi pB.kb (λ_ _ h=>qu h) (λd hd=>(hc.2.2.1 d hd).2) _ s
      exact two AS.r (λe=>dL e.rw) AS.Gj pB.kr (λ_ _ h=>qw h) (λd hd=>(hc.2.2.2.2.1 d hd).2) _ s
   exact step m him (Nat.le_refl _)
  rw[heq];exact Vc
end part
theorem L3{P:Program}{C:Ctx}{ops:Array Oper}{K:List Ac->AS->Prop}(rest:List Oper)(S:AS)(h:RunT P C ops false K rest [] S):
  ∃xs:List Ac,xs.length=rest.length/\(∀(i:Nat) (o:Oper) (x:Ac),rest[i]? =some o->xs[i]? =some x->Q5 P C ops o x.rs x.rb x.rr (ov S (cu xs) (λ_=>true) i) x.e)/\K xs.reverse (ov S (cu xs) (λ_=>true) rest.length):=by
 obtain⟨xs,h1,h2,h3⟩:=yE rest [] S h;exact⟨xs,h1,h2,by simpa using h3⟩
theorem BH{P:Program}{C:Ctx}{id:Nat}{ops:Array Oper}{S:AS}{Q:Exit->AS->Prop}(m:Nat)(hm:P.follows .mixedOrders=true)
  (h:RunT P C ops false (λacc S=>xB ops m acc.reverse=true/\RunT P C ops true (λ_ S=>Q .normal S) (ops.toList.drop m) [] S) (ops.toList.take m) [] S):Ok P C (.region id ops true) S Q:=λa w hs=>by
 obtain⟨xs,hl,hxs,C3,hq⟩:=L3 _ _ h;rw[List.reverse_reverse]at C3;obtain⟨hlen,hmn,xl,yD,GJ⟩:=sQ C3;have DH:(ops.toList.take m).length=m:=by simp;omega
 rw[DH]at hq;refine wpIn_region_any hm ?_;refine EI (acts:=xs) (S:=S) (m:=m) (λi o x ho hx=>hxs i o x ?_ hx) C3 (λfuel listed a w h1 h2 h3 h4 h5=>EH (m:=m) xl GJ (R:=λS=>Q .normal S) (λS a w hR hh=>⟨S,hR,hh⟩) fuel m listed a w _ [] (Nat.le_refl _) hmn h1 h2 h3 h4 hq h5) ops.size _ a _ (by simp) ?_ ?_ ?_ ?_
 ·have hi:i<m:=by
   have:=(List.getElem?_eq_some_iff.1 hx).1;omega
  rw[List.getElem?_take_of_lt hi];simpa using ho
 ·have:=List.length_filter_le (λi=>!(Array.replicate ops.size false).getD i true) (List.range ops.size);simpa[Nc]using this
 ·intro j o _ hj;exfalso;simp only[Array.getD_eq_getD_getElem?,Array.getElem?_replicate]at hj;split at hj<;>simp at hj
 ·intro i hi;exfalso;simp only[Array.getD_eq_getD_getElem?,Array.getElem?_replicate]at hi;split at hi<;>simp at hi
 rw[ni S (cu xs) (L':=λ_=>false) m (λi hi=>by rw[Array.getD_eq_getD_getElem?,Array.getElem?_replicate];split<;>rfl)];have:∀k,ov S (cu xs) (λ_=>false) k=S:=by
  intro k;induction k with
  |zero=>rfl
  |succ k ih=>simpa[ov]using ih
 rw[this];exact hs.drew
end
section
open Go.RowKit
instance{g:FuncId}{caps:List SV}:One (jA g caps):=⟨λ_ _ h=>by obtain⟨vs,rfl,_⟩:=h;rfl⟩
section steps
variable {P:Program}{C:Ctx}{ops:Array Oper}{S:AS}{nd:Bool}{K:List Ac->AS->Prop}{rest:List Oper}{acc:List Ac}
variable {gd:Option (Nat×Bool)}{rg:List Nat}{d:Nat}{ty:TypeId}{pos:String}{aft:Array Edge}{x y z:Operand}{T U E0:TypeId}
theorem RT.yQ(hg:Gd ops S gd rg){g:FuncId}{xs:Array Operand}{caps:List SV}(hc:gJ S xs.toList caps)(hd:d<S.n)
  (next:RunT P C ops nd K rest (⟨rg++xs.toList.flatMap aX,[],[],⟨some (d,.sv (jA g caps)),[],[]⟩⟩::acc) (S.set d (.sv (jA g caps)))):RunT P C ops nd K (⟨some d,.makeFunc (.func g) #[] xs,ty,pos,aft,gd⟩::rest) acc S:=
 RT.value hg (xs.toList.flatMap aX) [] [] (.sv (jA g caps)) hd (by intro c h;cases h) (λS' ht _ _ E a w h=>by
  have h1:=gJ.vals h hc ht;refine⟨.func (.func g) #[] ⟨xs.toList.map a.eval⟩,?_,⟨_,Y,h1⟩,fg⟩;have e2:xs.map a.eval=⟨xs.toList.map a.eval⟩:=by apply Array.ext';simp
  simp[execOp,Instr.makeFunc,e2]) next
theorem RT.Zy(hg:Gd ops S gd rg){f:FuncId}[dM P f]{g:Operand}{xs:Array Operand}{at_:Array TypeId}{args caps:List SV}{r:SV}(hp:Pure P f (args++caps) r)(hf:S.ev g=.sv (jA f caps))(hargs:gJ S xs.toList args)(hd:d<S.n)
  (next:RunT P C ops nd K rest (⟨rg++(aX g++xs.toList.flatMap aX),[],[],⟨some (d,.sv r),[],[]⟩⟩::acc) (S.set d (.sv r))):RunT P C ops nd K (⟨some d,.call ⟨.value g,xs,at_⟩,ty,pos,aft,gd⟩::rest) acc S:=by
 refine .inl ⟨_,[],[],_,?_,next⟩;rintro S' hn ht _ _ i a w L Q ho ⟨E,h⟩ hL;refine cD (C:=C) ho (hg.wanted h (λs hs=>ht s (List.mem_append_left _ hs)) Y) ?_;have r8:(jA f caps).h E.M (a.eval g):=by
  have h1:=h.ev g;rw[bA (λ_ h=>List.mem_append_right _ (List.mem_append_left _ h)) ht,hf]at h1;exact h1
 obtain⟨nU,r8,xh⟩:=r8;have hall:=SV.ec.append (gJ.vals h hargs (λs hs=>ht s (List.mem_append_right _ (List.mem_append_right _ hs)))) xh;have hr:(execOp a.eval ⟨some d,.call ⟨.value g,xs,at_⟩,ty,pos,aft,gd⟩).run P w=.ok (.enter f ⟨xs.toList.map a.eval++nU⟩) w:=by
  have e2:xs.map a.eval++⟨nU⟩=⟨xs.toList.map a.eval++nU⟩:=by apply Array.ext';simp
  have e1:=dM.run (P:=P) (f:=f) (xs.map a.eval++⟨nU⟩) w;rw[<-e2];simp[execOp,resolve,r8,Deferred.ofValue,invoke,e1]
 refine cz (C:=C) (by intro c h;cases h) hr ?_;refine⟨λh=>by simp at h,gB ((hp E.M w _ h.dh hall).mono ?_)⟩;rintro e w' ⟨v,M',rfl,hM,hnew,hin,hv,hb⟩;exact hL _ _ ⟨_,(h.grow hM hnew hin hb).put (x:=.sv r) hv (by show d<S'.n;omega) fg⟩
end steps
end
end Go.Fw
namespace Go.Fw.Z
section
open Go.Fw
theorem T{d n:Nat}(h:Nat.ble (d+1) n=true:=by exact rfl):d<n:=tl h
theorem bE{α β:Type}{x:Option α}{f:α->Option β}{r:β}{G:Prop}(h:Option.bind x f=some r)(k:∀a,x=some a->f a=some r->G):G:=by obtain⟨a,h1,h2⟩:=bind_some h;exact k a h1 h2
theorem lE{α β:Type}{v:α}{f:α->Option β}{r:β}{G:Prop}(h:Option.bind (some v) f=some r)(k:∀a,v=a->f a=some r->G):G:=k v Y h
theorem bS{α β:Type}{x:Option α}{f:α->Option β}{r:β}(h:Option.bind x f=some r):∃a,x=some a/\f a=some r:=bind_some h
theorem F{α:Type}{x y:Option α}{r:α}(h:(bif false then x else y)=some r):y=some r:=h
theorem V{α:Type}{x y:Option α}{r:α}(h:(bif true then x else y)=some r):x=some r:=h
theorem O{α:Type}{a b:α}(h:some a=some b):a=b:=Option.some.inj h
def zS(l:List (Nat×Nat))(i:Nat):Nat:=((l.find? λp=>Nat.beq p.1 i).map (·.2)).getD i
def rnA(l:List (Nat×Nat)):AV->AV
 |.row i=>.row (zS l i)
 |.nQ i o n=>.nQ (zS l i) o n
 |x=>x
def noR:AV->Bool
 |.jo _ _=>false
 |.cmp _ _=>false
 |_=>true
theorem avi(l:List (Nat×Nat)){x:AV}(h:noR x=true):LU (zS l) (rnA l x) x:=by
 cases x with
 |sv s=>exact .sv au
 |ptr i o=>exact .ptr
 |Ga i o n c=>exact .Ga
 |row i=>exact .row Y
 |jo i k=>cases h
 |nQ i o n=>exact .nQ Y
 |gI g js=>exact .gI
 |cmp t js=>cases h
theorem Zz(l:List (Nat×Nat)):∀{xs:List AV},(xs.all noR)=true->Jb (zS l) (xs.map (rnA l)) xs
 |[],_=>trivial
 |x::xs,h=>by simp only[List.all_cons,Bool.and_eq_true]at h;exact⟨avi l h.1,Zz l h.2⟩
theorem wR(l:List (Nat×Nat)){S:AS}{n:Nat}{ts:List (Nat×AV)}{bs:List (Nat×og)}{rs:List (Nat×Row)}{g:Nat}{go:Bool}
  (ht:ts.map (λp=>S.t p.1)=ts.map (λp=>rnA l p.2):=by exact rfl) (hb:bs.map (λp=>S.b p.1)=bs.map (λp=>some ⟨p.2.T,p.2.cells.map (rnA l)⟩):=by exact rfl) (hr:rs.map (λp=>S.r (zS l p.1))=rs.map (λp=>.live p.2):=by exact rfl)
  (hn:S.n=n:=by exact rfl) (hg:S.g=g:=by exact rfl) (Ra:S.go=go:=by exact rfl)
  (hwf:((ts.all λp=>p.2.pY bs rs)&&(bs.all λp=>p.2.cells.all λx=>x.pY bs rs))=true:=by exact rfl) (hσ:((rs.all λp=>rs.all λq=>!(Nat.beq (zS l p.1) (zS l q.1))||Nat.beq p.1 q.1))=true:=by exact rfl)
  (hno:((ts.all λp=>noR p.2)&&(bs.all λp=>p.2.cells.all noR))=true:=by exact rfl) (hl:(l.all λp=>Nat.ble (p.1+1) 1000)=true:=by exact rfl):sy S (AS.cL n ts bs rs g go):=by
 simp only[Bool.and_eq_true,List.all_eq_true]at hno;refine dD (zS l) hn hg Ra hwf hσ ?_ ?_ ?_ ?_
 ·clear hwf hb hr;obtain⟨h,-⟩:=hno
  induction ts with
  |nil=>trivial
  |cons p ts ih=>
   obtain⟨k,x⟩:=p;simp only[List.map_cons,List.cons.injEq]at ht;refine⟨?_,ih ht.2 (λq hq=>h q (by simp[hq]))⟩;show LU _ (S.t k) x;rw[ht.1];exact avi l (h (k,x) (by simp))
 ·clear hwf ht hr;obtain⟨-,h⟩:=hno
  induction bs with
  |nil=>trivial
  |cons p bs ih=>
   obtain⟨k,x⟩:=p;simp only[List.map_cons,List.cons.injEq]at hb;exact⟨⟨_,hb.1,Zz l (List.all_eq_true.2 (h (k,x) (by simp)))⟩,ih hb.2 (λq hq=>h q (by simp[hq]))⟩
 ·clear hwf ht hb hσ
  induction rs with
  |nil=>trivial
  |cons p rs ih=>
   obtain⟨k,x⟩:=p;simp only[List.map_cons,List.cons.injEq]at hr;exact⟨⟨_,hr.1,cj.refl _⟩,ih hr.2⟩
 intro i hi;unfold zS;have:l.find? (λp=>Nat.beq p.1 i)=none:=by
  rw[List.find?_eq_none];intro p hp e;have h1:=af (List.all_eq_true.1 hl p hp);have h2:=Nat.eq_of_beq_eq_true e;omega
 rw[this];rfl
section
variable {P:Program}{C:Ctx}{S:AS}{Q:Exit->AS->Prop}
theorem qq{x y:Code}(h:Ok P C x S (aV (λS'=>Ok P C y S' Q) Q)):Ok P C (.seq x y) S Q:=bM h
theorem sr{id:Nat}{ops:Array Oper}{y:Code}(h:RunT P C ops true (λ_ S=>aV (λS'=>Ok P C y S' Q) Q .normal S) ops.toList [] S):Ok P C (.seq (.region id ops false) y) S Q:=bM (aW h)
theorem dn{ops:Array Oper}{acc:List Ac}{next:AS->Prop}(h:next S):RunT P C ops true (λ_ S=>aV next Q .normal S) [] acc S:=h
theorem cF{c:Operand}{x y:Code}(hf:Ok P C y S Q)(hc:S.ev c=.sv (.v (.bool false)):=by exact rfl):Ok P C (.cond c x y) S Q:=e5 hc hf
theorem cT{c:Operand}{x y:Code}(ht:Ok P C x S Q)(hc:S.ev c=.sv (.v (.bool true)):=by exact rfl):Ok P C (.cond c x y) S Q:=dr hc ht
theorem fs{c:Operand}{x:Code}{next:AS->Prop}(h:next S)(hc:S.ev c=.sv (.v (.bool false)):=by exact rfl):Ok P C (.cond c x .skip) S (aV next Q):=e5 hc (bC h)
theorem R1{A:Prop}{e:Exit}{t:Nat}{s:SV}(h:S.t t=.sv s):(A\/e=e)/\MZ P S [.tmp t] s:=⟨.inr Y,gE (.tmp h .nil) au⟩
theorem R2{A:Prop}{e:Exit}{t u:Nat}{s s':SV}(h:S.t t=.sv s)(h':S.t u=.sv s'):(A\/e=e)/\MZ P S [.tmp t,.tmp u] (.yB [s,s']):=⟨.inr Y,gE (.tmp h (.tmp h' .nil)) au⟩
theorem RZ{A:Prop}{e:Exit}{rs:List ResultVar}{ss:List SV}{r:SV}(h:M1 P S rs ss)(h':SV.imp (Nv ss) r:=by exact au):(A\/e=e)/\MZ P S rs r:=⟨.inr Y,gE h h'⟩
end
section
variable {P:Program}{C:Ctx}{ops:Array Oper}{S:AS}{nd:Bool}{K:List Ac->AS->Prop}{rest:List Oper}{acc:List Ac}
variable {gd:Option (Nat×Bool)}{rg:List Nat}{d:Nat}{ty:TypeId}{pos:String}{aft:Array Edge}{x y z:Operand}{T U:TypeId}{k:IntKind}{p q:Int}
theorem pF{s:SV}(hz:S.ev z=.sv s)(next:RunT P C ops nd K rest (⟨[]++(aX x++aX z),[],[],⟨some (d,.sv s),[],[]⟩⟩::acc) (S.set d (.sv s)))(hx:S.ev x=.sv (.v (.bool false)):=by exact rfl)(hd:d<S.n:=by exact tl Y):RunT P C ops nd K (⟨some d,.pick x y z,ty,pos,aft,none⟩::rest) acc S:=
 RT.Tf .none hx hz hd next
theorem pT{s:SV}(hy:S.ev y=.sv s)(next:RunT P C ops nd K rest (⟨[]++(aX x++aX y),[],[],⟨some (d,.sv s),[],[]⟩⟩::acc) (S.set d (.sv s)))(hx:S.ev x=.sv (.v (.bool true)):=by exact rfl)(hd:d<S.n:=by exact tl Y):RunT P C ops nd K (⟨some d,.pick x y z,ty,pos,aft,none⟩::rest) acc S:=
 RT.Te .none hx hy hd next
theorem mo{s:AV}(hx:S.ev x=s)(next:RunT P C ops nd K rest (⟨[]++aX x,[],[],⟨some (d,s),[],[]⟩⟩::acc) (S.set d s))(hd:d<S.n:=by exact tl Y):RunT P C ops nd K (⟨some d,.move x,ty,pos,aft,none⟩::rest) acc S:=
 RT.move .none hx hd next
theorem ad(c:Int)(hx:S.ev x=.sv (.v (.int k p)))(hy:S.ev y=.sv (.v (.int k q)))(hc:k.wrap (p+q)=c)(next:RunT P C ops nd K rest (⟨[]++(aX x++aX y),[],[],⟨some (d,.sv (.v (.int k c))),[],[]⟩⟩::acc) (S.set d (.sv (.v (.int k c)))))(hd:d<S.n:=by exact tl Y):RunT P C ops nd K (⟨some d,.binOp .add T x y U,ty,pos,aft,none⟩::rest) acc S:=
 RT.add .none c hx hy hd hc next
theorem cv{j:IntKind}[tT:nj P T j][tU:nj P U k](c:Int){k':IntKind}(hx:S.ev x=.sv (.v (.int k' p)))(hc:k.wrap p=c)(next:RunT P C ops nd K rest (⟨[]++aX x,[],[],⟨some (d,.sv (.v (.int k c))),[],[]⟩⟩::acc) (S.set d (.sv (.v (.int k c)))))(hd:d<S.n:=by exact tl Y):RunT P C ops nd K (⟨some d,.convert T U x,ty,pos,aft,none⟩::rest) acc S:=
 RT.conv .none c hx hd hc next
theorem ls(c:Bool)(hx:S.ev x=.sv (.v (.int k p)))(hy:S.ev y=.sv (.v (.int k q)))(hc:decide (p<q)=c)(next:RunT P C ops nd K rest (⟨[]++(aX x++aX y),[],[],⟨some (d,.sv (.v (.bool c))),[],[]⟩⟩::acc) (S.set d (.sv (.v (.bool c)))))(hd:d<S.n:=by exact tl Y):RunT P C ops nd K (⟨some d,.binOp .lss T x y U,ty,pos,aft,none⟩::rest) acc S:=
 RT.lss .none c hx hy hd hc next
theorem sb(c:Int)(hx:S.ev x=.sv (.v (.int k p)))(hy:S.ev y=.sv (.v (.int k q)))(hc:k.wrap (p-q)=c)(next:RunT P C ops nd K rest (⟨[]++(aX x++aX y),[],[],⟨some (d,.sv (.v (.int k c))),[],[]⟩⟩::acc) (S.set d (.sv (.v (.int k c)))))(hd:d<S.n:=by exact tl Y):RunT P C ops nd K (⟨some d,.binOp .sub T x y U,ty,pos,aft,none⟩::rest) acc S:=
 RT.sub .none c hx hy hd hc next
theorem an{s:AV}(hx:S.ev x=s)(next:RunT P C ops nd K rest (⟨[]++aX x,[],[],⟨some (d,s),[],[]⟩⟩::acc) (S.set d s))(hd:d<S.n:=by exact tl Y):RunT P C ops nd K (⟨some d,.assign x,ty,pos,aft,none⟩::rest) acc S:=
 RT.assign .none hx hd next
theorem gt(c:Bool)(hx:S.ev x=.sv (.v (.int k p)))(hy:S.ev y=.sv (.v (.int k q)))(hc:decide (q<p)=c)(next:RunT P C ops nd K rest (⟨[]++(aX x++aX y),[],[],⟨some (d,.sv (.v (.bool c))),[],[]⟩⟩::acc) (S.set d (.sv (.v (.bool c)))))(hd:d<S.n:=by exact tl Y):RunT P C ops nd K (⟨some d,.binOp .gtr T x y U,ty,pos,aft,none⟩::rest) acc S:=
 RT.gtr .none c hx hy hd hc next
theorem eq(c:Bool)(hx:S.ev x=.sv (.v (.int k p)))(hy:S.ev y=.sv (.v (.int k q)))(hc:(p==q)=c)(next:RunT P C ops nd K rest (⟨[]++(aX x++aX y),[],[],⟨some (d,.sv (.v (.bool c))),[],[]⟩⟩::acc) (S.set d (.sv (.v (.bool c)))))(hd:d<S.n:=by exact tl Y):RunT P C ops nd K (⟨some d,.binOp .eql T x y U,ty,pos,aft,none⟩::rest) acc S:=
 RT.eql .none c hx hy hd hc next
theorem ne(c:Bool)(hx:S.ev x=.sv (.v (.int k p)))(hy:S.ev y=.sv (.v (.int k q)))(hc:(p != q)=c)(next:RunT P C ops nd K rest (⟨[]++(aX x++aX y),[],[],⟨some (d,.sv (.v (.bool c))),[],[]⟩⟩::acc) (S.set d (.sv (.v (.bool c)))))(hd:d<S.n:=by exact tl Y):RunT P C ops nd K (⟨some d,.binOp .neq T x y U,ty,pos,aft,none⟩::rest) acc S:=
 RT.neq .none c hx hy hd hc next
theorem ge(c:Bool)(hx:S.ev x=.sv (.v (.int k p)))(hy:S.ev y=.sv (.v (.int k q)))(hc:decide (q<=p)=c)(next:RunT P C ops nd K rest (⟨[]++(aX x++aX y),[],[],⟨some (d,.sv (.v (.bool c))),[],[]⟩⟩::acc) (S.set d (.sv (.v (.bool c)))))(hd:d<S.n:=by exact tl Y):RunT P C ops nd K (⟨some d,.binOp .geq T x y U,ty,pos,aft,none⟩::rest) acc S:=
 RT.geq .none c hx hy hd hc next
theorem nt{b:Bool}(hx:S.ev x=.sv (.v (.bool b)))(c:Bool)(hc:(!b)=c)(next:RunT P C ops nd K rest (⟨[]++aX x,[],[],⟨some (d,.sv (.v (.bool c))),[],[]⟩⟩::acc) (S.set d (.sv (.v (.bool c)))))(hd:d<S.n:=by exact tl Y):RunT P C ops nd K (⟨some d,.unOp .not T x,ty,pos,aft,none⟩::rest) acc S:=
 RT.not .none hx hd c hc next
theorem gF{j_ g_:Nat}{gu:Bool}{s:SV}(hz:S.ev z=.sv s)(next:RunT P C ops nd K rest (⟨[g_]++(aX x++aX z),[],[],⟨some (d,.sv s),[],[]⟩⟩::acc) (S.set d (.sv s)))(Dd:(ops[j_]?).bind (·.dst)=some g_:=by exact rfl)(De:S.t g_=.sv (.v (.bool gu)):=by exact rfl)(hx:S.ev x=.sv (.v (.bool false)):=by exact rfl)(hd:d<S.n:=by exact tl Y):RunT P C ops nd K (⟨some d,.pick x y z,ty,pos,aft,some (j_,gu)⟩::rest) acc S:=
 RT.Tf (.some Dd De) hx hz hd next
theorem gT{j_ g_:Nat}{gu:Bool}{s:SV}(hy:S.ev y=.sv s)(next:RunT P C ops nd K rest (⟨[g_]++(aX x++aX y),[],[],⟨some (d,.sv s),[],[]⟩⟩::acc) (S.set d (.sv s)))(Dd:(ops[j_]?).bind (·.dst)=some g_:=by exact rfl)(De:S.t g_=.sv (.v (.bool gu)):=by exact rfl)(hx:S.ev x=.sv (.v (.bool true)):=by exact rfl)(hd:d<S.n:=by exact tl Y):RunT P C ops nd K (⟨some d,.pick x y z,ty,pos,aft,some (j_,gu)⟩::rest) acc S:=
 RT.Te (.some Dd De) hx hy hd next
theorem gq{j_ g_:Nat}{gu:Bool}(c:Bool)(hx:S.ev x=.sv (.v (.int k p)))(hy:S.ev y=.sv (.v (.int k q)))(hc:(p != q)=c)(next:RunT P C ops nd K rest (⟨[g_]++(aX x++aX y),[],[],⟨some (d,.sv (.v (.bool c))),[],[]⟩⟩::acc) (S.set d (.sv (.v (.bool c)))))(Dd:(ops[j_]?).bind (·.dst)=some g_:=by exact rfl)(De:S.t g_=.sv (.v (.bool gu)):=by exact rfl)(hd:d<S.n:=by exact tl Y):RunT P C ops nd K (⟨some d,.binOp .neq T x y U,ty,pos,aft,some (j_,gu)⟩::rest) acc S:=
 RT.neq (.some Dd De) c hx hy hd hc next
theorem gg{j_ g_:Nat}{gu:Bool}(c:Bool)(hx:S.ev x=.sv (.v (.int k p)))(hy:S.ev y=.sv (.v (.int k q)))(hc:decide (q<p)=c)(next:RunT P C ops nd K rest (⟨[g_]++(aX x++aX y),[],[],⟨some (d,.sv (.v (.bool c))),[],[]⟩⟩::acc) (S.set d (.sv (.v (.bool c)))))(Dd:(ops[j_]?).bind (·.dst)=some g_:=by exact rfl)(De:S.t g_=.sv (.v (.bool gu)):=by exact rfl)(hd:d<S.n:=by exact tl Y):RunT P C ops nd K (⟨some d,.binOp .gtr T x y U,ty,pos,aft,some (j_,gu)⟩::rest) acc S:=
 RT.gtr (.some Dd De) c hx hy hd hc next
theorem ZA{j_ g_:Nat}{gu:Bool}(c:Bool)(hx:S.ev x=.sv (.v (.int k p)))(hy:S.ev y=.sv (.v (.int k q)))(hc:(p==q)=c)(next:RunT P C ops nd K rest (⟨[g_]++(aX x++aX y),[],[],⟨some (d,.sv (.v (.bool c))),[],[]⟩⟩::acc) (S.set d (.sv (.v (.bool c)))))(Dd:(ops[j_]?).bind (·.dst)=some g_:=by exact rfl)(De:S.t g_=.sv (.v (.bool gu)):=by exact rfl)(hd:d<S.n:=by exact tl Y):RunT P C ops nd K (⟨some d,.binOp .eql T x y U,ty,pos,aft,some (j_,gu)⟩::rest) acc S:=
 RT.eql (.some Dd De) c hx hy hd hc next
theorem IY{j_ g_:Nat}{gu:Bool}{b:Bool}(hx:S.ev x=.sv (.v (.bool b)))(c:Bool)(hc:(!b)=c)(next:RunT P C ops nd K rest (⟨[g_]++aX x,[],[],⟨some (d,.sv (.v (.bool c))),[],[]⟩⟩::acc) (S.set d (.sv (.v (.bool c)))))(Dd:(ops[j_]?).bind (·.dst)=some g_:=by exact rfl)(De:S.t g_=.sv (.v (.bool gu)):=by exact rfl)(hd:d<S.n:=by exact tl Y):RunT P C ops nd K (⟨some d,.unOp .not T x,ty,pos,aft,some (j_,gu)⟩::rest) acc S:=
 RT.not (.some Dd De) hx hd c hc next
end
section
variable {P:Program}{C:Ctx}{ops:Array Oper}{S:AS}{nd:Bool}{K:List Ac->AS->Prop}{rest:List Oper}{acc:List Ac}
variable {gd:Option (Nat×Bool)}{rg:List Nat}{d:Nat}{ty:TypeId}{pos:String}{aft:Array Edge}{x y z:Operand}{T U E0:TypeId}
theorem mv{s:SV}(hx:S.ev x=.sv s)(next:RunT P C ops nd K rest (⟨[]++aX x,[],[],⟨some (d,.sv s),[],[]⟩⟩::acc) (S.set d (.sv s)))(hd:d<S.n:=by exact tl Y):RunT P C ops nd K (⟨some d,.move x,ty,pos,aft,none⟩::rest) acc S:=
 RT.mv .none hx hd next
theorem ag{s:SV}(hx:S.ev x=.sv s)(next:RunT P C ops nd K rest (⟨[]++aX x,[],[],⟨some (d,.sv s),[],[]⟩⟩::acc) (S.set d (.sv s)))(hd:d<S.n:=by exact tl Y):RunT P C ops nd K (⟨some d,.assign x,ty,pos,aft,none⟩::rest) acc S:=
 RT.DJ .none hx hd next
theorem cl{f:FuncId}[dM P f]{g:Operand}{xs:Array Operand}{at_:Array TypeId}{args:List SV}{r:SV}(hp:Pure P f args r)(hargs:gJ S xs.toList args)(next:RunT P C ops nd K rest (⟨[]++(aX g++xs.toList.flatMap aX),[],[],⟨some (d,.sv r),[],[]⟩⟩::acc) (S.set d (.sv r)))(hf:S.ev g=.sv (.v (.func (.func f) #[] #[])):=by exact rfl)(hd:d<S.n:=by exact tl Y):RunT P C ops nd K (⟨some d,.call ⟨.value g,xs,at_⟩,ty,pos,aft,none⟩::rest) acc S:=
 RT.call .none hp hf hargs hd next
theorem ld{n:Nat}[tA:AK P T n]{j off:Nat}{B:og}{cs:List SV}(hx:S.ev x=.ptr j off)(hB:S.b j=some B)(hcs:MY B.cells off cs)(next:RunT P C ops nd K rest (⟨[]++aX x,[j],[],⟨some (d,.sv (.agg cs)),[],[]⟩⟩::acc) (S.set d (.sv (.agg cs))))(hn:cs.length=n:=by exact rfl)(hd:d<S.n:=by exact tl Y):RunT P C ops nd K (⟨some d,.load T x,ty,pos,aft,none⟩::rest) acc S:=
 RT.load .none hx hB hcs hn hd next
theorem lV[tV:ru P T]{j off:Nat}{B:og}{s:SV}(hx:S.ev x=.ptr j off)(hB:S.b j=some B)(hn:B.cells[off]? =some (.sv s))(next:RunT P C ops nd K rest (⟨[]++aX x,[j],[],⟨some (d,.sv s),[],[]⟩⟩::acc) (S.set d (.sv s)))(hd:d<S.n:=by exact tl Y):RunT P C ops nd K (⟨some d,.load T x,ty,pos,aft,none⟩::rest) acc S:=
 RT.rB .none hx hB hn hd next
theorem fa{f off:Nat}[hf:yy P T f off U][sU:Gq P U]{j o:Nat}(hx:S.ev x=.ptr j o){o':Nat}(ho':o+off=o')(next:RunT P C ops nd K rest (⟨[]++aX x,[],[],⟨some (d,.ptr j o'),[],[]⟩⟩::acc) (S.set d (.ptr j o')))(hd:d<S.n:=by exact tl Y):RunT P C ops nd K (⟨some d,.fieldAddr T x f,ty,pos,aft,none⟩::rest) acc S:=
 RT.fieldAddr .none hx hd ho' next
theorem so{n:Nat}[tA:AK P T n]{j:Nat}{B:og}{cs:List SV}[o1:qy cs](hx:S.ev x=.ptr j 0)(hB:S.b j=some B)(hy:S.ev y=.sv (.agg cs))(next:RunT P C ops nd K rest (⟨[]++(aX x++aX y),[j],[],⟨none,[(j,⟨B.T,cs.map AV.sv⟩)],[]⟩⟩::acc) (S.jW j ⟨B.T,cs.map AV.sv⟩))(ry:cs.length=n:=by exact rfl)(hn:B.cells.length=n:=by exact rfl):RunT P C ops nd K (⟨none,.store T x y,ty,pos,aft,none⟩::rest) acc S:=
 RT.store .none hx hB hy ry hn next
theorem ex{i:Nat}{ss:List SV}{s:SV}(hx:S.ev x=.sv (.yB ss))(hi:ss[i]? =some s)(next:RunT P C ops nd K rest (⟨[]++aX x,[],[],⟨some (d,.sv s),[],[]⟩⟩::acc) (S.set d (.sv s)))(hd:d<S.n:=by exact tl Y):RunT P C ops nd K (⟨some d,.extract x i,ty,pos,aft,none⟩::rest) acc S:=
 RT.extract .none hx hi hd next
theorem bx{cells:List SV}(hx:S.ev x=.sv (.agg cells))(next:RunT P C ops nd K rest (⟨[]++aX x,[d],[],⟨some (d,.ptr d 0),[(d,⟨T,cells.map AV.sv⟩)],[]⟩⟩::acc) ((S.jW d ⟨T,cells.map AV.sv⟩).set d (.ptr d 0)))(hd:d<S.n:=by exact tl Y)(hb:S.b d=none:=by exact rfl)(hp:C.gK d=none:=by exact rfl):RunT P C ops nd K (⟨some d,.box T x,ty,pos,aft,none⟩::rest) acc S:=
 RT.box .none hx hd hb hp next
theorem lr[tV:ru P T]{cells:List SV}{s:SV}(hx:S.ev x=.sv (ref cells))(hn:cells[0]? =some s)(next:RunT P C ops nd K rest (⟨[]++aX x,[],[],⟨some (d,.sv s),[],[]⟩⟩::acc) (S.set d (.sv s)))(hd:d<S.n:=by exact tl Y):RunT P C ops nd K (⟨some d,.load T x,ty,pos,aft,none⟩::rest) acc S:=
 RT.dN .none hx hn hd next
theorem cB{f:FuncId}[dM P f]{g:Operand}{xs:Array Operand}{at_:Array TypeId}{args:List SV}{T:TypeId}{c0 c1:List SV}{res:SV}(hp:Rg P f args T c0 res c1)(j:Nat)(hB:S.b j=some ⟨T,c0.map AV.sv⟩)(hargs:gJ S xs.toList args)(next:RunT P C ops nd K rest (⟨[]++(aX g++xs.toList.flatMap aX),[j],[],⟨some (d,.sv res),[(j,⟨T,c1.map AV.sv⟩)],[]⟩⟩::acc) ((AS.fN [(j,⟨T,c1.map AV.sv⟩)] S).set d (.sv res)))(hf:S.ev g=.gI f [.box j]:=by exact rfl)(hd:d<S.n:=by exact tl Y):RunT P C ops nd K (⟨some d,.call ⟨.value g,xs,at_⟩,ty,pos,aft,none⟩::rest) acc S:=
 RT.Zg .none hp j hB hf hargs hd next
theorem cN{f:FuncId}[dM P f]{g:Operand}{xs:Array Operand}{at_:Array TypeId}{args:List SV}{R:Row}(hp:LX P f args R)(hargs:gJ S xs.toList args)(next:RunT P C ops nd K rest (⟨[]++(aX g++xs.toList.flatMap aX),[],[d],⟨some (d,.row d),[],[(d,.live R)]⟩⟩::acc) ((AS.cc [(d,.live R)] S).set d (.row d)))(hf:S.ev g=.sv (.v (.func (.func f) #[] #[])):=by exact rfl)(hd:d<S.n:=by exact tl Y)(xp:S.r d=.un:=by exact rfl)(uZ:d<1000:=by exact tl Y):RunT P C ops nd K (⟨some d,.call ⟨.value g,xs,at_⟩,ty,pos,aft,none⟩::rest) acc S:=
 RT.Zf .none hp hf hargs hd xp uZ next
theorem gm{j_ g_:Nat}{gu:Bool}{s:SV}(hx:S.ev x=.sv s)(next:RunT P C ops nd K rest (⟨[g_]++aX x,[],[],⟨some (d,.sv s),[],[]⟩⟩::acc) (S.set d (.sv s)))(Dd:(ops[j_]?).bind (·.dst)=some g_:=by exact rfl)(De:S.t g_=.sv (.v (.bool gu)):=by exact rfl)(hd:d<S.n:=by exact tl Y):RunT P C ops nd K (⟨some d,.move x,ty,pos,aft,some (j_,gu)⟩::rest) acc S:=
 RT.mv (.some Dd De) hx hd next
theorem gl{j_ g_:Nat}{gu:Bool}{n:Nat}[tA:AK P T n]{j off:Nat}{B:og}{cs:List SV}(hx:S.ev x=.ptr j off)(hB:S.b j=some B)(hcs:MY B.cells off cs)(next:RunT P C ops nd K rest (⟨[g_]++aX x,[j],[],⟨some (d,.sv (.agg cs)),[],[]⟩⟩::acc) (S.set d (.sv (.agg cs))))(Dd:(ops[j_]?).bind (·.dst)=some g_:=by exact rfl)(De:S.t g_=.sv (.v (.bool gu)):=by exact rfl)(hn:cs.length=n:=by exact rfl)(hd:d<S.n:=by exact tl Y):RunT P C ops nd K (⟨some d,.load T x,ty,pos,aft,some (j_,gu)⟩::rest) acc S:=
 RT.load (.some Dd De) hx hB hcs hn hd next
theorem gc{j_ g_:Nat}{gu:Bool}{f:FuncId}[dM P f]{g:Operand}{xs:Array Operand}{at_:Array TypeId}{args:List SV}{r:SV}(hp:Pure P f args r)(hargs:gJ S xs.toList args)(next:RunT P C ops nd K rest (⟨[g_]++(aX g++xs.toList.flatMap aX),[],[],⟨some (d,.sv r),[],[]⟩⟩::acc) (S.set d (.sv r)))(Dd:(ops[j_]?).bind (·.dst)=some g_:=by exact rfl)(De:S.t g_=.sv (.v (.bool gu)):=by exact rfl)(hf:S.ev g=.sv (.v (.func (.func f) #[] #[])):=by exact rfl)(hd:d<S.n:=by exact tl Y):RunT P C ops nd K (⟨some d,.call ⟨.value g,xs,at_⟩,ty,pos,aft,some (j_,gu)⟩::rest) acc S:=
 RT.call (.some Dd De) hp hf hargs hd next
theorem gr{j_ g_:Nat}{gu:Bool}[tV:ru P T]{cells:List SV}{s:SV}(hx:S.ev x=.sv (ref cells))(hn:cells[0]? =some s)(next:RunT P C ops nd K rest (⟨[g_]++aX x,[],[],⟨some (d,.sv s),[],[]⟩⟩::acc) (S.set d (.sv s)))(Dd:(ops[j_]?).bind (·.dst)=some g_:=by exact rfl)(De:S.t g_=.sv (.v (.bool gu)):=by exact rfl)(hd:d<S.n:=by exact tl Y):RunT P C ops nd K (⟨some d,.load T x,ty,pos,aft,some (j_,gu)⟩::rest) acc S:=
 RT.dN (.some Dd De) hx hn hd next
end
section
variable {P:Program}{C:Ctx}{ops:Array Oper}{S:AS}{nd:Bool}{K:List Ac->AS->Prop}{rest:List Oper}{acc:List Ac}
variable {gd:Option (Nat×Bool)}{rg:List Nat}{d:Nat}{ty:TypeId}{pos:String}{aft:Array Edge}{x y z:Operand}{T U E0:TypeId}
variable {l l' k:QS}
theorem ww{op:Op}{j g:Nat}{b want:Bool}(next:RunT P C ops nd K rest (⟨[g],[],[],⟨some (d,.sv (.v undef)),[],[]⟩⟩::acc) (S.set d (.sv (.v undef))))(h1:(ops[j]?).bind (·.dst)=some g:=by exact rfl)(h2:S.t g=.sv (.v (.bool b)):=by exact rfl)(hb:b≠want:=by exact sk Y)(hd:d<S.n:=by exact tl Y):RunT P C ops nd K (⟨some d,op,ty,pos,aft,some (j,want)⟩::rest) acc S:=
 RT.skV h1 h2 hb hd next
theorem wu{op:Op}{j g:Nat}{want:Bool}(next:RunT P C ops nd K rest (⟨[g],[],[],⟨some (d,.sv (.v undef)),[],[]⟩⟩::acc) (S.set d (.sv (.v undef))))(h1:(ops[j]?).bind (·.dst)=some g:=by exact rfl)(h2:S.t g=.sv (.v undef):=by exact rfl)(hd:d<S.n:=by exact tl Y):RunT P C ops nd K (⟨some d,op,ty,pos,aft,some (j,want)⟩::rest) acc S:=
 RT.Zt h1 h2 hd next
end
section
variable {P:Program}{C:Ctx}{ops:Array Oper}{S:AS}{nd:Bool}{K:List Ac->AS->Prop}{rest:List Oper}{acc:List Ac}
variable {gd:Option (Nat×Bool)}{rg:List Nat}{d:Nat}{ty:TypeId}{pos:String}{aft:Array Edge}{x y z:Operand}{T U E0:TypeId}
variable {α:Type}{l l' k:List α}{e:α->List SV}{n by_:Nat}{zv:Value}
theorem ln{m:Nat}[tS:eP P T E0 m]{c:Int}(hx:S.ev x=.sv (slc n (l.map e)))(hc:(l.length:Int)=c)(next:RunT P C ops nd K rest (⟨[]++aX x,[],[],⟨some (d,.sv (.v (.int .i64 c))),[],[]⟩⟩::acc) (S.set d (.sv (.v (.int .i64 c)))))(hd:d<S.n:=by exact tl Y):RunT P C ops nd K (⟨some d,.call ⟨.builtin .len,#[x],#[T]⟩,ty,pos,aft,none⟩::rest) acc S:=
 RT.Zq .none hx hd hc next
theorem al[tz:iM P T zv]{cs:List SV}(hi:cj (zv.cells.toList.map SV.v) cs){av:List AV}(hav:cs.map AV.sv=av)(next:RunT P C ops nd K rest (⟨[]++[],[d],[],⟨some (d,.ptr d 0),[(d,⟨T,av⟩)],[]⟩⟩::acc) ((S.jW d ⟨T,av⟩).set d (.ptr d 0)))(hd:d<S.n:=by exact tl Y)(hb:S.b d=none:=by exact rfl)(hp:C.gK d=none:=by exact rfl):RunT P C ops nd K (⟨some d,.alloc T,ty,pos,aft,none⟩::rest) acc S:=
 RT.wc .none hi hav hd hb hp next
theorem ix[tS:eP P T E0 n]{kk:IntKind}{i:Int}{a:α}(hx:S.ev x=.sv (slc n (l.map e)))(hy:S.ev y=.sv (.v (.int kk i)))(ha:cU l i=some a)(next:RunT P C ops nd K rest (⟨[]++(aX x++aX y),[],[],⟨some (d,.sv (ref (e a))),[],[]⟩⟩::acc) (S.set d (.sv (ref (e a)))))(hd:d<S.n:=by exact tl Y):RunT P C ops nd K (⟨some d,.indexAddr T x y,ty,pos,aft,none⟩::rest) acc S:=
 RT.Ro .none hx hy hd ha next
theorem bl[tS:eP P T E0 n][tE:jI P E0 n by_ zv]{len:Nat}{parts:Array (Nat×Operand)}{qs:List (Nat×List SV)}(hp:nS S parts.toList qs)(hc:pZ 0 qs=true)(hl:qs.length=len)(hsz:(qs.all λq=>Nat.beq q.2.length n)=true)(hlen:Nat.ble (len*n) 16777216=true)(LW:(zv.cells.toList.all λv=>v.oneCell')=true)(iW:qs.map (·.2)=l.map e)(next:RunT P C ops nd K rest (⟨[]++lG parts.toList,[],[],⟨some (d,.sv (slc n (l.map e))),[],[]⟩⟩::acc) (S.set d (.sv (slc n (l.map e)))))(hd:d<S.n:=by exact tl Y):RunT P C ops nd K (⟨some d,.buildSlice T len parts,ty,pos,aft,none⟩::rest) acc S:=
 RT.gi .none hp hd hc hl hsz hlen LW iW next
theorem iR[tS:eP P T E0 n]{i j:Nat}{E1:TypeId}{kk:IntKind}{v:Int}(hx:S.ev x=.row i)(hR:S.r i=.live (TR E1 n e l))(hy:S.ev y=.sv (.v (.int kk v)))(h:ko l v=some j)(next:RunT P C ops nd K rest (⟨[]++(aX x++aX y),[],[i],⟨some (d,.jo i (j*n)),[],[]⟩⟩::acc) (S.set d (.jo i (j*n))))(hd:d<S.n:=by exact tl Y):RunT P C ops nd K (⟨some d,.indexAddr T x y,ty,pos,aft,none⟩::rest) acc S:=
 RT.NM .none hx hR hy hd h next
theorem aI{s X:SV}(hx:S.ev x=.sv s)(hi:SV.imp s X)(next:RunT P C ops nd K rest (⟨[]++aX x,[],[],⟨some (d,.sv X),[],[]⟩⟩::acc) (S.set d (.sv X)))(hd:d<S.n:=by exact tl Y):RunT P C ops nd K (⟨some d,.assign x,ty,pos,aft,none⟩::rest) acc S:=
 RT.ael .none hx hi hd next
theorem bI{pl:List (Nat×Nat)}{zc:List Value}[tP:iY P T pl zc]{parts:Array (Nat×Operand)}{qs:List (Nat×List SV)}(hp:nS S parts.toList qs){cs cs':List SV}(hi:cj cs cs')(next:RunT P C ops nd K rest (⟨[]++lG parts.toList,[],[],⟨some (d,.sv (.agg cs')),[],[]⟩⟩::acc) (S.set d (.sv (.agg cs'))))(hf:vc (λi=>pl[i]?) (zc.map SV.v) qs=some cs:=by exact rfl)(hd:d<S.n:=by exact tl Y):RunT P C ops nd K (⟨some d,.build T parts,ty,pos,aft,none⟩::rest) acc S:=
 RT.Vy .none hp hf hi hd next
theorem lR[tV:ru P T][el:EL e 1]{i j:Nat}{E1:TypeId}{a:α}{s:SV}(hx:S.ev x=.jo i (j*1))(hR:S.r i=.live (TR E1 1 e l))(ha:l[j]? =some a)(hs:e a=[s])(next:RunT P C ops nd K rest (⟨[]++aX x,[],[i],⟨some (d,.sv s),[],[]⟩⟩::acc) (S.set d (.sv s)))(hd:d<S.n:=by exact tl Y):RunT P C ops nd K (⟨some d,.load T x,ty,pos,aft,none⟩::rest) acc S:=
 RT.L2 .none hx hR ha hs hd next
theorem aR[tS:eP P T E0 n][tE:jI P E0 n by_ zv]{i:Nat}(hx:S.ev x=.row i)(hR:S.r i=.live (TR E0 n e l))(hy:S.ev y=.sv (slc n (k.map e)))(h:yM by_ l k=some l')(next:RunT P C ops nd K rest (⟨[]++(aX x++aX y),[],[i,d],⟨some (d,.row d),[],[(i,.dead),(d,.live (TR E0 n e l'))]⟩⟩::acc) ((AS.cc [(i,.dead),(d,.live (TR E0 n e l'))] S).set d (.row d)))(hd:d<S.n:=by exact tl Y)(xp:S.r d=.un:=by exact rfl)(uZ:d<1000:=by exact tl Y):RunT P C ops nd K (⟨some d,.call ⟨.builtin .append,#[x,y],#[T,T]⟩,ty,pos,aft,none⟩::rest) acc S:=
 RT.apR .none hx hR hy hd xp uZ h next
theorem sR[tV:ru P T][el:EL e 1]{i j:Nat}{E1:TypeId}{s:SV}[o1:One s](a:α)(hs:e a=[s])(hx:S.ev x=.jo i (j*1))(hR:S.r i=.live (TR E1 1 e l))(hy:S.ev y=.sv s)(h:stM l j a=some l')(next:RunT P C ops nd K rest (⟨[]++(aX x++aX y),[],[i],⟨none,[],[(i,.live (TR E1 1 e l'))]⟩⟩::acc) (AS.cc [(i,.live (TR E1 1 e l'))] S)):RunT P C ops nd K (⟨none,.store T x y,ty,pos,aft,none⟩::rest) acc S:=
 RT.aeo .none a hs hx hR hy h next
theorem sA[tA:AK P T n][el:EL e n]{i j:Nat}{E1:TypeId}(a:α)(hx:S.ev x=.jo i (j*n))(hR:S.r i=.live (TR E1 n e l))(hy:S.ev y=.sv (.agg (e a)))(h:stM l j a=some l')(next:RunT P C ops nd K rest (⟨[]++(aX x++aX y),[],[i],⟨none,[],[(i,.live (TR E1 n e l'))]⟩⟩::acc) (AS.cc [(i,.live (TR E1 n e l'))] S)):RunT P C ops nd K (⟨none,.store T x y,ty,pos,aft,none⟩::rest) acc S:=
 RT.Zs .none a hx hR hy h next
theorem lL{m:Nat}[tS:eP P T E0 m]{i:Nat}{E1:TypeId}{c:Int}(hx:S.ev x=.row i)(hR:S.r i=.live (TR E1 n e l))(hc:(l.length:Int)=c)(next:RunT P C ops nd K rest (⟨[]++aX x,[],[i],⟨some (d,.sv (.v (.int .i64 c))),[],[]⟩⟩::acc) (S.set d (.sv (.v (.int .i64 c)))))(hd:d<S.n:=by exact tl Y):RunT P C ops nd K (⟨some d,.call ⟨.builtin .len,#[x],#[T]⟩,ty,pos,aft,none⟩::rest) acc S:=
 RT.NL .none hx hR hd hc next
theorem cR{f:FuncId}[dM P f]{g:Operand}{xs:Array Operand}{at_:Array TypeId}{args:List AV}{E1:TypeId}{res:AV}(hp:Jg P f args (TR E1 n e l) res (l'.flatMap e))(hlen:l'.length=l.length)(i:Nat)(hR:S.r i=.live (TR E1 n e l))(hargs:sI S xs.toList (args.map (AV.zS i)))(next:RunT P C ops nd K rest (⟨[]++(aX g++xs.toList.flatMap aX),[],[i],⟨some (d,res.zS i),[],[(i,.live (TR E1 n e l'))]⟩⟩::acc) ((AS.cc [(i,.live (TR E1 n e l'))] S).set d (res.zS i)))(hrow:args.all AV.yI=true:=by exact rfl)(hres:res.yI=true:=by exact rfl)(hf:S.ev g=.sv (.v (.func (.func f) #[] #[])):=by exact rfl)(hd:d<S.n:=by exact tl Y):RunT P C ops nd K (⟨some d,.call ⟨.value g,xs,at_⟩,ty,pos,aft,none⟩::rest) acc S:=
 RT.VC .none hp hlen i hR hrow hres hf hargs hd next
theorem gn{j_ g_:Nat}{gu:Bool}{m:Nat}[tS:eP P T E0 m]{c:Int}(hx:S.ev x=.sv (slc n (l.map e)))(hc:(l.length:Int)=c)(next:RunT P C ops nd K rest (⟨[g_]++aX x,[],[],⟨some (d,.sv (.v (.int .i64 c))),[],[]⟩⟩::acc) (S.set d (.sv (.v (.int .i64 c)))))(Dd:(ops[j_]?).bind (·.dst)=some g_:=by exact rfl)(De:S.t g_=.sv (.v (.bool gu)):=by exact rfl)(hd:d<S.n:=by exact tl Y):RunT P C ops nd K (⟨some d,.call ⟨.builtin .len,#[x],#[T]⟩,ty,pos,aft,some (j_,gu)⟩::rest) acc S:=
 RT.Zq (.some Dd De) hx hd hc next
end
section
variable {P:Program}{C:Ctx}{ops:Array Oper}{S:AS}{nd:Bool}{K:List Ac->AS->Prop}{rest:List Oper}{acc:List Ac}
variable {gd:Option (Nat×Bool)}{rg:List Nat}{d:Nat}{ty:TypeId}{pos:String}{aft:Array Edge}{x y z:Operand}{T U E0 E1:TypeId}
theorem fl{f off:Nat}[hf:yy P T f off U][tV:ru P U]{cs:List SV}{s:SV}(hx:S.ev x=.sv (.agg cs))(hs:cs[off]? =some s)(next:RunT P C ops nd K rest (⟨[]++aX x,[],[],⟨some (d,.sv s),[],[]⟩⟩::acc) (S.set d (.sv s)))(hd:d<S.n:=by exact tl Y):RunT P C ops nd K (⟨some d,.field T x f,ty,pos,aft,none⟩::rest) acc S:=
 RT.field .none hx hs hd next
end
end
end Go.Fw.Z
namespace Go.Fw
section
open Go.RowKit
def Mem.fr(M:Mem)(N:Nat):Mem:=λb o=>if N<=b then M b o else none
theorem Mem.ZB(M:Mem)(N:Nat):(M.fr N).le M:=λb o v h=>by
 unfold Mem.fr at h;split at h
 ·exact h
 cases h
theorem Mem.KO{M M':Mem}(h:M.le M')(N:Nat):(M.fr N).le (M'.fr N):=λb o v e=>by
 unfold Mem.fr at*;split at e
 ·rename_i hn;rw[if_pos hn];exact h b o v e
 cases e
theorem Mem.GK(M:Mem)(N:Nat):(M.fr N).fr N=M.fr N:=by
 funext b o;unfold Mem.fr;split<;>rfl
def nw(N:Nat)(s:SV):SV:=⟨λM v=>s.h (M.fr N) v/\∀g,v.ownBlock=some g->∃o,M.fr N g o=some (.agg #[]),λhM h=>⟨s.mono (Mem.KO hM N) h.1,λg e=>by obtain⟨o,q⟩:=h.2 g e;exact⟨o,Mem.KO hM N _ _ _ q⟩⟩⟩
theorem ep{N:Nat}{s:SV}:SV.imp (nw N s) s:=λM _ h=>s.mono (Mem.ZB M N) h.1
instance{N:Nat}{s:SV}{n:Nat}[h:Len s n]:Len (nw N s) n:=⟨λM v hv=>h.h M v (ep M v hv)⟩
instance{N:Nat}{s:SV}{n:Nat}{rows:List (List SV)}[h:Q9 s n rows]:Q9 (nw N s) n rows:=⟨λM v hv=>h.h M v (ep M v hv)⟩
instance{N:Nat}{s:SV}{n sz:Nat}{f:Nat->Nat->SV}[h:Sub s n sz f]:Sub (nw N s) n sz (λa b=>nw N (f a b)):=⟨λM v hv=>by
 obtain⟨a,c,e,hc,hs⟩:=h.h (M.fr N) v hv.1;refine⟨a,c,e,hc,λlo hi h1 h2=>⟨hs lo hi h1 h2,λg hg=>hv.2 g ?_⟩⟩;subst e;cases a with
 |none=>split at hg<;>cases hg
 |some a=>
  split at hg
  ·exact hg
  have e:(a.add (lo*sz)).block=a.block:=by unfold Addr.add;split<;>rfl
  rw[show(Value.slice (Option.map (λx=>x.add (lo*sz)) (some a)) (hi-lo) (c-lo)).ownBlock=some (a.add (lo*sz)).block from rfl,e]at hg;exact hg⟩
instance{N:Nat}{s:SV}[h:One s]:One (nw N s):=⟨λM v hv=>h.h _ v hv.1⟩
class Sup (N:Nat) (s:SV):Prop where
 h:∀M v,s.h M v->s.h (M.fr N) v
instance{N:Nat}{x:Value}:Sup N (.v x):=⟨λ_ _ h=>h⟩
instance{N:Nat}{s:SV}:Sup N (nw N s):=⟨λM v h=>by show s.h ((M.fr N).fr N) v/\∀g,v.ownBlock=some g->∃o,(M.fr N).fr N g o=some (.agg #[]);rw[Mem.GK];exact h⟩
class RA (N:Nat) (l:List SV):Prop where
 h:∀s∈l,∀M v,s.h M v->s.h (M.fr N) v
instance{N:Nat}:RA N []:=⟨λs h=>by cases h⟩
instance{N:Nat}{s:SV}{l:List SV}[a:Sup N s][b:RA N l]:RA N (s::l):=⟨λt ht=>by
 rcases List.mem_cons.1 ht with rfl|ht
 ·exact a.h
 exact b.h t ht⟩
class EJ (N:Nat) {α:Type} (e:α->List SV):Prop where
 h:∀x,RA N (e x)
instance{N:Nat}:EJ N aY:=⟨λ_=>inferInstance⟩
instance{N:Nat}:EJ N bT:=⟨λ_=>inferInstance⟩
abbrev fZ(N:Nat)(z:Zr):List SV:=[.v (.bool z.neg),nw N (slc 1 (z.w.map aY))]
abbrev fQ(N:Nat)(q:Qr):List SV:=[.v (.bool q.num.neg),nw N (slc 1 (q.num.w.map aY)),.v (.bool q.den.neg),nw N (slc 1 (q.den.w.map aY))]
instance{N:Nat}:EL (fQ N) 4:=⟨λ_=>rfl,λ_=>inferInstance⟩
instance{N:Nat}:EJ N (fQ N):=⟨λ_=>inferInstance⟩
theorem bk{α:Type}{N n:Nat}{e:α->List SV}:SV.imp (.v (.slice none 0 0)) (nw N (slc n (([]:List α).map e))):=λ_ _ h=>⟨.inl ⟨none,h,rfl⟩,λg e=>by rw[show _=Value.slice none 0 0 from h]at e;cases e⟩
theorem KP{α:Type}{n:Nat}{e e':α->List SV}(h:∀x,cj (e' x) (e x))(l:List α):SV.imp (slc n (l.map e')) (slc n (l.map e)):=by
 rintro M v (⟨a,h1,h2⟩|⟨b,o,c,h1,h2,h3,h4⟩)
 ·exact .inl ⟨a,h1,by have:=List.map_eq_nil_iff.1 h2;rw[this];rfl⟩
 refine .inr ⟨b,o,c,by simpa using h1,by simpa using h2,by simpa using h3,λi row hr=>?_⟩;rw[List.getElem?_map]at hr;cases hx:l[i]? with
 |none=>rw[hx]at hr;cases hr
 |some x=>
  rw[hx]at hr;have hr:e x=row:=Option.some.inj hr;subst hr;obtain⟨g1,g2⟩:=h4 i (e' x) (by rw[List.getElem?_map,hx];rfl);refine⟨by rw[cj.len (h x)];exact g1,λk s hs=>?_⟩;obtain⟨s2,C7,hi⟩:=cj.get (h x) hs;obtain⟨y,hy,ho,hh⟩:=g2 k s2 C7;exact⟨y,hy,ho,hi M y hh⟩
theorem zI(N:Nat)(z:Zr):cj (fZ N z) (eZ z):=⟨au,ep,aq⟩
theorem qI(N:Nat)(q:Qr):cj (fQ N q) (eQ q):=⟨au,ep,au,ep,aq⟩
theorem NV{N:Nat}{l:List Qr}:SV.imp (nw N (slc 4 (l.map (fQ N)))) (slc 4 (l.map eQ)):=λM v h=>KP (qI N) l M v (ep M v h)
theorem EK{N n:Nat}{α:Type}{e:α->List SV}[he:EJ N e]{l:List α}{M:Mem}{v:Value}(h:(slc n (l.map e)).h M v)(hb:∀g,v.ownBlock=some g->N<=g/\∃o,M g o=some (.agg #[])):(nw N (slc n (l.map e))).h M v:=by
 refine⟨?_,λg hg=>by obtain⟨h1,o,h2⟩:=hb g hg;exact⟨o,by unfold Mem.fr;rw[if_pos h1];exact h2⟩⟩;rcases h with⟨a,h1,h2⟩|⟨b,o,c,h1,h2,h3,h4⟩
 ·exact .inl ⟨a,h1,h2⟩
 have hN:N<=b:=(hb b (by rw[h1];rfl)).1;refine .inr ⟨b,o,c,h1,h2,h3,λi row hr=>⟨(h4 i row hr).1,λk s hs=>?_⟩⟩;obtain⟨y,hy,ho,hh⟩:=(h4 i row hr).2 k s hs;refine⟨y,by unfold Mem.fr;rw[if_pos hN];exact hy,ho,?_⟩;rw[List.getElem?_map]at hr;cases hx:l[i]? with
 |none=>rw[hx]at hr;cases hr
 |some x=>
  rw[hx]at hr;have hr:e x=row:=Option.some.inj hr;subst hr;exact(he.h x).h s (List.mem_of_getElem? hs) M y hh
section
variable {P:Program}{C:Ctx}{S:AS}{Q:Exit->AS->Prop}
theorem bn.RB{E:Env}{a:Act}{w:World}(h:bn C S E a w)(vs:List Value)(T:TypeId)(hone:∀v∈vs,v.oneCell'=true):bn C S {E with M:=λb o=>if b=w.heap.size then(vs++[.agg #[]])[o]? else E.M b o} a (w.alloc (.cells ⟨vs⟩ T)):=by
 have hno:∀o,E.M w.heap.size o=none:=λo=>by
  cases e:E.M w.heap.size o with
  |none=>rfl
  |some v=>have:=nH h.dh e;omega
 refine h.grow (λb o v e=>?_) (λb o v e=>?_) (λb o v e=>?_) (((Below.refl _ _).alloc (Nat.le_refl _) _))
 ·have:b≠w.heap.size:=by rintro rfl;rw[hno o]at e;cases e
  simp[this,e]
 ·by_cases hb:b=w.heap.size
  ·exact .inr (by omega)
  simp only[if_neg hb]at e;exact .inl e
 by_cases hb:b=w.heap.size
 ·subst hb;simp only[if_true]at e;by_cases ho:o<vs.length
  ·rw[List.getElem?_append_left ho]at e;refine .of ?_ (hone v (List.mem_of_getElem? e));rw[World.cell?_alloc_new];simpa using e
  rw[List.getElem?_append_right (by omega)]at e;cases IZ:o-vs.length with
  |succ k=>rw[IZ]at e;simp at e
  |zero=>
   rw[IZ]at e;simp at e;subst e;exact⟨⟨vs⟩,T,by show(w.heap.push _)[w.heap.size]? =_;rw[Array.getElem?_push,if_pos rfl]⟩
 simp only[if_neg hb]at e;refine(h.dh b o v e).same ?_;show(w.heap.push _)[b]? =_;rw[Array.getElem?_push,if_neg hb]
theorem ic{c:Code}{i n N:Nat}{E1:TypeId}{α:Type}{e:α->List SV}{l:List α}[el:EL e n][he:EJ N e](hN:N<=C.w0.heap.size)(hb:∀k,¬C.uy k)(hR:S.r i=.live (TR E1 n e l))(hk:Ok P C c (S.nR i (nw N (slc n (l.map e)))) Q):Ok P C c S Q:=λa w hs=>by
 obtain⟨E,h⟩:=hs;have hlen:l.length<=9223372036854775807:=by
  obtain⟨⟨vs,ho,hv⟩,_⟩:=h.rx i _ hR;rcases ho.2 with⟨_,q2⟩|⟨g',cap,cur,q1,_,q2,q3,q4,q5,q6⟩
  ·have q2:l.length=0:=q2;omega
  have q3:l.length<=cap:=q3;have:maxLen=9223372036854775807:=by decide
  omega
 exact hk a w (h.nR hR (qD l) (by rw[List.length_map]) hlen (mF l) (λM v hv hg=>EK hv (λg e=>⟨(hg g e).1.elim (λq=>Nat.le_trans hN q) (λq=>absurd q (hb g)),(hg g e).2⟩)))
def cP(P:Program)(f:FuncId)(N:Nat)(args:List SV)(r:SV):Prop:=
 ∀(M:Mem) (w:World) (vs:List Value),N<=w.heap.size->M.dh w->SV.ec M args vs->
  Calls P f ⟨vs⟩ w λe w'=>∃v M',e=.returned v/\M.le M'/\(∀b o x,M' b o=some x->M b o=some x\/w.heap.size<=b)/\M'.dh w'/\r.h M' v/\Below w.heap.size w w'
theorem cP.w{f:FuncId}{N:Nat}{args args':List SV}{r:SV}(h:cP P f N args r)(hi:cj args' args):cP P f N args' r:=λM w vs hN hM hv=>h M w vs hN hM (hi.holds hv)
theorem bB{f:FuncId}{fn:Func}{code:Code}{N:Nat}{args:List SV}{r:SV}(hf:P.funcs[f]? =some fn)(hb:fn.body=some code)(hn:args.length<=fn.ntmps)
  (h:∀(w:World) (M:Mem) (vs:List Value),N<=w.heap.size->SV.ec M args vs->Ok P (Gs w M) code (AS.init fn.ntmps args) (λe S=>(e=.normal\/e=.ret)/\MZ P S fn.results.toList r)):cP P f N args r:=by
 intro M w vs hN hM hvs;refine(callsIn_wide (n:=0)).1 (callsIn_of_wp_marks (F:=Fence.wide) hf hb trivial ?_);refine wpIn_mono (h w M vs hN hvs _ w ⟨_,kP hM hvs hn⟩) ?_;rintro e a' w' ⟨S',⟨he,ss,Th,himp⟩,E,hh⟩;have key:LeavesInM Fence.wide 0 P fn a'.tmps (λe w'=>∃v M',e=.returned v/\M.le M'/\(∀b o x,M' b o=some x->M b o=some x\/w.heap.size<=b)/\M'.dh w'/\r.h M' v/\Below w.heap.size w w') a'.defers .returning w':=by
  obtain⟨ds,h1,h2,h3⟩:=hh.marks;rw[h1];refine nZ ds w' h2 (λr hr=>(h3 r hr).2.2) (λw2 g1 g2 g3 g4 g5=>?_);have C6:=hh.Bp h3 g1 g2 g3 g4 g5;obtain⟨v,hv,hs⟩:=Ew C6 Th;refine⟨v,hv,v,E.M,Y,C6.m0,λb o x e=>?_,C6.dh,himp _ _ hs,C6.os,C6.tape,C6.output,C6.grown,λk hk=>C6.frame k hk (λh=>h)⟩;rcases C6.eG b o x e with h|h|h
  ·exact .inl h
  ·exact .inr h
  exact h.elim
 rcases he with rfl|rfl
 ·exact key
 exact key
theorem RC{f:FuncId}{N:Nat}{args:List SV}{E1:TypeId}{n:Nat}{α:Type}{e:α->List SV}{l:List α}[el:EL e n][he:EJ N e](hp:LX P f args (TR E1 n e l)):cP P f N args (nw N (slc n (l.map e))):=by
 intro M w vs hN hM hvs;refine(hp M w vs hM hvs).mono ?_;rintro ex w' ⟨v,M',us,rfl,hle,hnew,hin,hown,Al,iX,ZC⟩;have iW:Rows n (l.map e) (l.flatMap e):=qD l;have ry:=sF iW;rcases hown.2 with⟨h1,h2⟩|⟨g,cap,cur,h1,_,h2,h3,_,h5,h6⟩
 ·exact⟨v,M',rfl,hle,hnew,hin,⟨.inl ⟨none,h1,by have h2:l.length=0:=h2;rw[List.length_eq_zero_iff.1 h2];rfl⟩,λg e=>by rw[h1]at e;cases e⟩,ZC⟩
 have hg:v.ownBlock=some g:=by rw[h1];rfl
 obtain⟨hge,hno⟩:=iX g hg;have h3:l.length<=cap:=h3;have ak4:maxLen=9223372036854775807:=by decide
 refine⟨v,λb o=>if b=g/\o<l.length*n then us[o]? else if b=g/\o=l.length*n then some (.agg #[])else M' b o,Y,λb o x q=>?_,λb o x q=>?_,λb o x q=>?_,?_,ZC⟩
 ·have:=hle b o x q;have:b≠g:=by rintro rfl;rw[hno o]at this;cases this
  simp[this];assumption
 ·simp only at q;split at q
  ·rename_i hc;exact .inr (by rw[hc.1];exact hge)
  split at q
  ·rename_i hc;exact .inr (by rw[hc.1];exact hge)
  exact hnew b o x q
 ·simp only at q;split at q
  ·rename_i hc;obtain⟨rfl,Gr⟩:=hc;refine .of ?_ (mF l _ _ Al x (List.mem_of_getElem? q));simp only[World.cell?,h2];have h6:cur.toList.take (l.length*n)=us:=h6;rw[<-h6,List.getElem?_take,if_pos Gr]at q;simpa using q
  split at q
  ·rename_i hc;cases q;rw[hc.1];exact⟨_,_,h2⟩
  exact hin b o x q
 refine EK ?_ (λg' e'=>by rw[hg]at e';cases e';exact⟨Nat.le_trans hN hge,l.length*n,by simp⟩);refine .inr ⟨g,0,cap,by rw[h1,List.length_map],by rw[List.length_map];exact h3,by rw[List.length_map];omega,λk row hk=>?_⟩;obtain⟨q1,q2⟩:=qA iW k row hk;refine⟨q1,λj s hs=>?_⟩;have C7:=q2 j s hs;obtain⟨y,hy,hys⟩:=Al.get C7;have hlt:k*n+j<l.length*n:=by
  have:=(List.getElem?_eq_some_iff.1 C7).1;rw[ry,List.length_map]at this;exact this
 refine⟨y,by simp[hlt,hy],mF l _ _ Al y (List.mem_of_getElem? hy),s.mono (λb o x q=>?_) hys⟩;have:b≠g:=by rintro rfl;rw[hno o]at q;cases q
 simp[this,q]
end
section
variable {P:Program}{C:Ctx}{ops:Array Oper}{S:AS}{nd:Bool}{K:List Ac->AS->Prop}{rest:List Oper}{acc:List Ac}
variable {gd:Option (Nat×Bool)}{rg:List Nat}{d:Nat}{ty:TypeId}{pos:String}{aft:Array Edge}{x y z:Operand}{T U E0:TypeId}
variable {α:Type}{l l' k:List α}{e:α->List SV}{n by_ N:Nat}{zv:Value}
theorem RT.bL(hg:Gd ops S gd rg){f:FuncId}[dM P f]{g:Operand}{xs:Array Operand}{at_:Array TypeId}{args:List SV}{r:SV}(hp:cP P f N args r)(hN:N<=C.w0.heap.size)(hf:S.ev g=.sv (.v (.func (.func f) #[] #[])))(hargs:gJ S xs.toList args)(hd:d<S.n)
  (next:RunT P C ops nd K rest (⟨rg++(aX g++xs.toList.flatMap aX),[],[],⟨some (d,.sv r),[],[]⟩⟩::acc) (S.set d (.sv r))):RunT P C ops nd K (⟨some d,.call ⟨.value g,xs,at_⟩,ty,pos,aft,gd⟩::rest) acc S:=by
 refine .inl ⟨_,[],[],_,?_,next⟩;rintro S' hn ht _ _ i a w L Q ho ⟨E,h⟩ hL;refine cD (C:=C) ho (hg.wanted h (λs hs=>ht s (List.mem_append_left _ hs)) Y) ?_;have r8:a.eval g=.func (.func f) #[] #[]:=by
  have h1:=h.ev g;rw[bA (λ_ h=>List.mem_append_right _ (List.mem_append_left _ h)) ht,hf]at h1;exact h1
 have hall:=gJ.vals h hargs (λs hs=>ht s (List.mem_append_right _ (List.mem_append_right _ hs)));have hr:(execOp a.eval ⟨some d,.call ⟨.value g,xs,at_⟩,ty,pos,aft,gd⟩).run P w=.ok (.enter f ⟨xs.toList.map a.eval⟩) w:=by
  have e2:xs.map a.eval=⟨xs.toList.map a.eval⟩:=by apply Array.ext';simp
  have e1:=dM.run (P:=P) (f:=f) (xs.map a.eval) w;rw[<-e2];simp[execOp,resolve,r8,Deferred.ofValue,invoke,e1]
 refine cz (C:=C) (by intro c h;cases h) hr ?_;refine⟨λh=>by simp at h,gB ((hp E.M w _ (Nat.le_trans hN h.grown) h.dh hall).mono ?_)⟩;rintro e w' ⟨v,M',rfl,hM,hnew,hin,hv,hb⟩;exact hL _ _ ⟨_,(h.grow hM hnew hin hb).put (x:=.sv r) hv (by show d<S'.n;omega) fg⟩
theorem RT.DQ(hg:Gd ops S gd rg){m:Nat}[tS:eP P T E0 m]{c:Int}(hx:S.ev x=.sv (nw N (slc n (l.map e))))(hd:d<S.n)(hc:(l.length:Int)=c)
  (next:RunT P C ops nd K rest (⟨rg++aX x,[],[],⟨some (d,.sv (.v (.int .i64 c))),[],[]⟩⟩::acc) (S.set d (.sv (.v (.int .i64 c))))):RunT P C ops nd K (⟨some d,.call ⟨.builtin .len,#[x],#[T]⟩,ty,pos,aft,gd⟩::rest) acc S:=
 RT.len hg hx hd (by rw[List.length_map,hc];exact next)
theorem RT.ZD(hg:Gd ops S gd rg)[tS:eP P T E0 n]{kk:IntKind}{i:Int}{a:α}(hx:S.ev x=.sv (nw N (slc n (l.map e))))(hy:S.ev y=.sv (.v (.int kk i)))(hd:d<S.n)(ha:cU l i=some a)
  (next:RunT P C ops nd K rest (⟨rg++(aX x++aX y),[],[],⟨some (d,.sv (ref (e a))),[],[]⟩⟩::acc) (S.set d (.sv (ref (e a))))):RunT P C ops nd K (⟨some d,.indexAddr T x y,ty,pos,aft,gd⟩::rest) acc S:=
 RT.indexAddr hg (e a) hx hy hd (qB ha).1 (by rw[List.getElem?_map,(qB ha).2];rfl) next
theorem RT.RE(hg:Gd ops S gd rg)[tS:eP P T E0 n]{lo hi:Option Operand}(a b:Int)(hx:S.ev x=.sv (nw N (slc n (l.map e))))(hlo:Bu S 0 lo a)(hhi:Bu S l.length hi b)(hd:d<S.n)(h:Db l a b=some l')
  (next:RunT P C ops nd K rest (⟨rg++(aX x++(nT lo++nT hi)),[],[],⟨some (d,.sv (nw N (slc n (l'.map e)))),[],[]⟩⟩::acc) (S.set d (.sv (nw N (slc n (l'.map e)))))):RunT P C ops nd K (⟨some d,.slice T x lo hi none,ty,pos,aft,gd⟩::rest) acc S:=by
 obtain⟨h0,h1,h2,h3⟩:=DK h;exact RT.slice hg hx a b hlo (by rw[List.length_map];exact hhi) hd h0 h1 (by rw[List.length_map];exact h2) _ (by rw[KD,h3]) next
theorem RT.ZE(hg:Gd ops S gd rg)[tS:eP P T E0 n][tE:jI P E0 n by_ zv][el:EL e n][he:EJ N e]{i:Nat}(hN:N<=C.w0.heap.size)(hb:∀k,¬C.uy k)(hx:S.ev x=.row i)(hR:S.r i=.live (TR E0 n e l))(hy:S.ev y=.sv (slc n (k.map e)))(hd:d<S.n)(xp:S.r d=.un)(uZ:d<1000)(h:yM by_ l k=some l')
  (next:RunT P C ops nd K rest (⟨rg++(aX x++aX y),[],[d,i],⟨some (d,.sv (nw N (slc n (l'.map e)))),[],[(i,.dead),(d,.dead)]⟩⟩::acc) ((AS.cc [(i,.dead),(d,.dead)] S).set d (.sv (nw N (slc n (l'.map e)))))):RunT P C ops nd K (⟨some d,.call ⟨.builtin .append,#[x,y],#[T,T]⟩,ty,pos,aft,gd⟩::rest) acc S:=by
 obtain⟨h1,h2,rfl⟩:=xA h;have hf:l.flatMap e++(k.map e).flatten=(l++k).flatMap e:=by simp[sN]
 exact RT.KI hg (.row hx hR) hy hd xp uZ (by simpa using h1) (by simpa using h2) _ (rows':=(l++k).map e) (λ_ _ hv hg=>EK hv (λg e=>⟨(hg g e).1.elim (λq=>Nat.le_trans hN q) (λq=>absurd q (hb g)),(hg g e).2⟩)) (by rw[hf];exact qD _) (by simp) (by rw[hf];exact mF _) next
theorem RT.xC(hg:Gd ops S gd rg)[tS:eP P T E0 n][tE:jI P E0 n by_ zv][he:EJ N e](hN:N<=C.w0.heap.size){len:Nat}{parts:Array (Nat×Operand)}{qs:List (Nat×List SV)}(hp:nS S parts.toList qs)(hd:d<S.n)
  (hc:pZ 0 qs=true) (hl:qs.length=len) (hsz:(qs.all λq=>Nat.beq q.2.length n)=true) (hlen:Nat.ble (len*n) 16777216=true) (LW:(zv.cells.toList.all λv=>v.oneCell')=true) (iW:qs.map (·.2)=l.map e)
  (next:RunT P C ops nd K rest (⟨rg++lG parts.toList,[],[],⟨some (d,.sv (nw N (slc n (l.map e)))),[],[]⟩⟩::acc) (S.set d (.sv (nw N (slc n (l.map e)))))):RunT P C ops nd K (⟨some d,.buildSlice T len parts,ty,pos,aft,gd⟩::rest) acc S:=by
 refine .inl ⟨_,[],[],_,?_,next⟩;rintro S' hn ht _ _ i a w L Q ho ⟨E,h⟩ hL;refine cD (C:=C) ho (hg.wanted h (λs hs=>ht s (List.mem_append_left _ hs)) Y) ?_;obtain⟨vs,hr,hall,hone⟩:=ow (P:=P) (T:=T) (E0:=E0) (n:=n) (by_:=by_) (zv:=zv) (d:=d) (ty:=ty) (pos:=pos) (aft:=aft) (gd:=gd) h hp (λs hs=>ht s (List.mem_append_right _ hs)) hc hl hsz (af hlen) (List.all_eq_true.1 LW);refine cz (C:=C) (by intro c h;cases h) hr (hL _ _ ⟨_,(h.RB vs E0 hone).put (d:=d) (x:=.sv (nw N (slc n (l.map e)))) (v:=.slice (some ⟨w.heap.size,0,none⟩) len len) ?_ (by show d<S'.n;omega) fg⟩);have hrw:Rows n (qs.map (·.2)) (qs.map (·.2)).flatten:=⟨Y,λr hr=>by
  obtain⟨q,hq,rfl⟩:=List.mem_map.1 hr;exact Nat.eq_of_beq_eq_true (List.all_eq_true.1 hsz q hq)⟩
 have Nu:=tE.p;have hlb:len<=16777216:=Nat.le_trans (Nat.le_mul_of_pos_right _ Nu) (af hlen);refine EK ?_ (λg e=>by cases e;exact⟨Nat.le_trans hN h.grown,vs.length,by simp⟩);rw[<-iW];refine .inr ⟨w.heap.size,0,len,by rw[List.length_map,hl],by rw[List.length_map,hl];exact Nat.le_refl _,by rw[List.length_map,hl];omega,λk row hk=>?_⟩;obtain⟨q1,q2⟩:=qA hrw k row hk;refine⟨q1,λj s hs=>?_⟩;obtain⟨y,hy,hys⟩:=hall.get (q2 j s hs);refine⟨y,by show(if w.heap.size=w.heap.size then(vs++[Value.agg #[]])[0+k*n+j]? else _)=_;rw[if_pos Y,Nat.zero_add,List.getElem?_append_left (List.getElem?_eq_some_iff.1 hy).1];exact hy,hone y (List.mem_of_getElem? hy),s.mono (λb o v e=>?_) hys⟩;have:b≠w.heap.size:=by rintro rfl;have:=nH h.dh e;omega
 simp[this,e]
end
end
section
open Go.RowKit
abbrev fS(N n:Nat){α:Type}(e:α->List SV)(x:List α):List SV:=[nw N (slc n (x.map e))]
instance{N n:Nat}{α:Type}{e:α->List SV}:EL (fS N n e) 1:=⟨λ_=>rfl,λ_=>inferInstance⟩
instance{N n:Nat}{α:Type}{e:α->List SV}:EJ N (fS N n e):=⟨λ_=>inferInstance⟩
theorem fj{P:Program}{f:FuncId}{args:List SV}{r:Nat->SV}{s:SV}(hp:∀N,cP P f N args (r N))(hi:∀N,SV.imp (r N) s):Pure P f args s:=λM w vs hM hv=>(hp w.heap.size M w vs (Nat.le_refl _) hM hv).mono (λ_ _ ⟨v,M',h1,h2,h3,h4,h5,h6⟩=>⟨v,M',h1,h2,h3,h4,hi _ _ _ h5,h6⟩)
theorem aeu{N:Nat}{l:List (List Qr)}:SV.imp (nw N (slc 1 (l.map (fS N 4 (fQ N))))) (slc 1 (l.map (eS 4 eQ))):=λM v h=>KP (e':=fS N 4 (fQ N)) (e:=eS 4 eQ) (λ_=>⟨NV,aq⟩) l M v (ep M v h)
theorem GL{l:List (List Qr)}:∀(N:Nat) (M:Mem) (v:Value),(nw N (slc 1 (l.map (fS N 4 (fQ N))))).h M v->(slc 1 (l.map (eS 4 eQ))).h (M.fr N) v:=λN M v h=>aeu (M.fr N) v (by
 obtain⟨h1,h2⟩:=h;rw[<-Mem.GK]at h1;exact⟨h1,λg e=>by rw[Mem.GK];exact h2 g e⟩)
section steps
variable {P:Program}{C:Ctx}{ops:Array Oper}{S:AS}{nd:Bool}{K:List Ac->AS->Prop}{rest:List Oper}{acc:List Ac}{N:Nat}
variable {gd:Option (Nat×Bool)}{rg:List Nat}{d:Nat}{ty:TypeId}{pos:String}{aft:Array Edge}{x y z:Operand}{T U E0:TypeId}
theorem RT.VF(hg:Gd ops S gd rg){f:FuncId}[dM P f]{g:Operand}{xs:Array Operand}{at_:Array TypeId}{args caps:List SV}{r:SV}(hp:cP P f N (args++caps) r)(hN:N<=C.w0.heap.size)(hf:S.ev g=.sv (jA f caps))(hargs:gJ S xs.toList args)(hd:d<S.n)
  (next:RunT P C ops nd K rest (⟨rg++(aX g++xs.toList.flatMap aX),[],[],⟨some (d,.sv r),[],[]⟩⟩::acc) (S.set d (.sv r))):RunT P C ops nd K (⟨some d,.call ⟨.value g,xs,at_⟩,ty,pos,aft,gd⟩::rest) acc S:=by
 refine .inl ⟨_,[],[],_,?_,next⟩;rintro S' hn ht _ _ i a w L Q ho ⟨E,h⟩ hL;refine cD (C:=C) ho (hg.wanted h (λs hs=>ht s (List.mem_append_left _ hs)) Y) ?_;have r8:(jA f caps).h E.M (a.eval g):=by
  have h1:=h.ev g;rw[bA (λ_ h=>List.mem_append_right _ (List.mem_append_left _ h)) ht,hf]at h1;exact h1
 obtain⟨nU,r8,xh⟩:=r8;have hall:=SV.ec.append (gJ.vals h hargs (λs hs=>ht s (List.mem_append_right _ (List.mem_append_right _ hs)))) xh;have hr:(execOp a.eval ⟨some d,.call ⟨.value g,xs,at_⟩,ty,pos,aft,gd⟩).run P w=.ok (.enter f ⟨xs.toList.map a.eval++nU⟩) w:=by
  have e2:xs.map a.eval++⟨nU⟩=⟨xs.toList.map a.eval++nU⟩:=by apply Array.ext';simp
  have e1:=dM.run (P:=P) (f:=f) (xs.map a.eval++⟨nU⟩) w;rw[<-e2];simp[execOp,resolve,r8,Deferred.ofValue,invoke,e1]
 refine cz (C:=C) (by intro c h;cases h) hr ?_;refine⟨λh=>by simp at h,gB ((hp E.M w _ (Nat.le_trans hN h.grown) h.dh hall).mono ?_)⟩;rintro e w' ⟨v,M',rfl,hM,hnew,hin,hv,hb⟩;exact hL _ _ ⟨_,(h.grow hM hnew hin hb).put (x:=.sv r) hv (by show d<S'.n;omega) fg⟩
end steps
end
end Go.Fw
namespace Go.Proofs.YtningmnklfpfjaaGreat
section
open Go.Fw
noncomputable def eJ(x0:List Nat):Option (List Nat):=yM 4 [] x0
noncomputable def bY(x0:Nat)(c0:Nat):Option (Nat×Nat):=(some ((x0+c0)%18446744073709551616)).bind λx6=>(some (x6/2^32)).bind λx8=>(some (x6%4294967296)).bind λeY=>some (eY,x8)
noncomputable def bz(x0:List Nat):Option (List Nat):=(cy (λ(Ap:(List Nat))=>(show Option (((List Nat))⊕((List Nat)))from cK (λ(BI:Bool)=>(bif BI then(some (Ap.length:Int)).bind λgW=>(some (IntKind.i64.wrap (gW-1))).bind λgX=>(Db Ap 0 gX).bind λmm=>some (.inl mm)else some (.inr Ap))) λM3=>(some (Ap.length:Int)).bind λx4=>(some (decide ((0:Int)<x4))).bind λx5=>(bif x5 then(some (Ap.length:Int)).bind λx9=>(some (IntKind.i64.wrap (x9-1))).bind λeY=>(cU Ap eY).bind λjC=>(some (decide ((jC:Nat)=0))).bind λjv=>some jv else some false).bind λyR=>M3 yR)) x0).bind λBJ=>some BJ
noncomputable def cE(x0:Bool)(x1:List Nat):Option (Zr):=(bz x1).bind λx6=>(some (x6.length:Int)).bind λx8=>(some (decide ((x8:Int)=0))).bind λx9=>(bif x9 then some ⟨false,[]⟩else some ⟨x0,x6⟩)
noncomputable def fy(x0:Bool)(x1:Nat):Option (Zr):=(some (decide ((x1:Nat)=0))).bind λx7=>(bif x7 then some ⟨false,[]⟩else(some (x1/2^32)).bind λjC=>(some (decide ((jC:Nat)=0))).bind λeX=>(bif eX then(some (x1%4294967296)).bind λe9=>some ⟨x0,[e9]⟩else(some (x1%4294967296)).bind λja=>(some (x1/2^32)).bind λkq=>(some (kq%4294967296)).bind λku=>some ⟨x0,[ja,ku]⟩))
noncomputable def dU(x0:List Nat):Option (Nat):=(some (x0.length:Int)).bind λx4=>(some (decide ((x4:Int)=0))).bind λx6=>(bif x6 then some 0 else(some (decide ((x4:Int)=1))).bind λx8=>(bif x8 then(cU x0 0).bind λeY=>(some (eY%18446744073709551616)).bind λeX=>some eX else(cU x0 0).bind λga=>(some (ga%18446744073709551616)).bind λjD=>(cU x0 1).bind λgX=>(some (gX%18446744073709551616)).bind λja=>(some (ja*2^32%18446744073709551616)).bind λiv=>(some ((jD ||| iv)%18446744073709551616)).bind λkq=>some kq))
noncomputable def c8(x0:List Nat)(x1:List Nat):Option (Int):=(some (x0.length:Int)).bind λx7=>(some (x1.length:Int)).bind λx9=>(some (decide ((x7:Int)≠x9))).bind λeY=>(bif eY then(some (x0.length:Int)).bind λeX=>(some (x1.length:Int)).bind λga=>(some (decide ((eX:Int)<ga))).bind λe9=>(bif e9 then some (-1)else some 1)else(some (x0.length:Int)).bind λgW=>(some (IntKind.i64.wrap (gW-1))).bind λgX=>(cy (λ(r9:Int)=>(show Option ((Int)⊕((Unit)⊕(Int)))from(some (decide ((0:Int)<=r9))).bind λja=>(bif ja then(cU x0 r9).bind λvi=>(cU x1 r9).bind λjq=>(some (decide ((vi:Nat)≠jq))).bind λrE=>(bif rE then(cU x0 r9).bind λoq=>(cU x1 r9).bind λzW=>(some (decide ((oq:Nat)<zW))).bind λmX=>(bif mX then some (.inr (.inr (-1)))else some (.inr (.inr 1)))else(some (IntKind.i64.wrap (r9-1))).bind λkq=>some (.inl kq))else some (.inr (.inl ()))))) gX).bind λe6=>match e6 with|.inr v6=>some v6|.inl _=>some 0)
noncomputable def fk(x0:List Nat)(x1:List Nat):Option (List Nat):=(some (x0.length:Int)).bind λeY=>(some (x1.length:Int)).bind λeX=>(some (max (eY:Int) eX)).bind λjv=>(some (IntKind.i64.wrap (jv+1))).bind λga=>(NF (α:=Nat) 4 ga).bind λe9=>(nJ (λ(k:Nat) (s7:Nat×(List Nat))=>match s7 with|⟨xD,jJ⟩=>(show Option (Nat×(List Nat))from(some (x0.getD k 0%18446744073709551616)).bind λp20=>(some (x1.getD k 0%18446744073709551616)).bind λp21=>(some ((p20+p21)%18446744073709551616)).bind λmH=>(bY mH xD).bind λ⟨nn,k9⟩=>(yM 4 jJ [nn]).bind λjq=>some (k9,jq))) (max x0.length x1.length) (0,e9)).bind λe7=>match e7 with|⟨xD,jJ⟩=>(bY 0 xD).bind λ⟨kp,k11⟩=>(yM 4 jJ [kp]).bind λoq=>some oq
noncomputable def dy(x0:List Nat)(x1:List Nat):Option (List Nat):=(some (x0.length:Int)).bind λeY=>(NF (α:=Nat) 4 eY).bind λjC=>(nJ (λ(k:Nat) (s7:Nat×(List Nat))=>match s7 with|⟨AU,jJ⟩=>(show Option (Nat×(List Nat))from(some (x0.getD k 0%18446744073709551616)).bind λp16=>(some (x1.getD k 0%18446744073709551616)).bind λp17=>(some (oZ 18446744073709551616 4294967295 p17)).bind λkq=>(some ((p16+kq)%18446744073709551616)).bind λku=>(bY ku AU).bind λ⟨jE,k9⟩=>(yM 4 jJ [jE]).bind λmH=>some (k9,mH))) (max x0.length x1.length) (1,jC)).bind λe7=>match e7 with|⟨AU,jJ⟩=>some jJ
noncomputable def gz(x0:List Nat)(x1:List Nat):Option (List Nat):=(some (x0.length:Int)).bind λeX=>(some (x1.length:Int)).bind λga=>(some (IntKind.i64.wrap (eX+ga))).bind λe9=>(CV 4 e9 (0:Nat)).bind λjD=>(some (x0.length:Int)).bind λgX=>(cy (λ(YH:Int×(List Nat))=>match YH with|⟨oB,EM⟩=>(show Option ((Int×(List Nat))⊕((List Nat)))from(some (decide ((oB:Int)<gX))).bind λja=>(bif ja then(cU x0 oB).bind λkq=>(some (x1.length:Int)).bind λmH=>(cy (λ(KQ:Int×Nat×(List Nat))=>match KQ with|⟨yS,xE,wh⟩=>(show Option ((Int×Nat×(List Nat))⊕(Nat×(List Nat)))from(some (decide ((yS:Int)<mH))).bind λoY=>(bif oY then(cU x1 yS).bind λvk=>(some (IntKind.i64.wrap (oB+yS))).bind λot=>(some (IntKind.i64.wrap (oB+yS))).bind λmX=>(ko wh mX).bind λwj=>(wh[wj]?).bind λqm=>(some (qm%18446744073709551616)).bind λsS=>(some (kq%18446744073709551616)).bind λyz=>(some (vk%18446744073709551616)).bind λwm=>(some ((yz*wm)%18446744073709551616)).bind λsu=>(some ((sS+su)%18446744073709551616)).bind λI0=>(bY I0 xE).bind λ⟨si,k41⟩=>(ko wh ot).bind λGM=>(stM wh GM si).bind λTr=>(some (IntKind.i64.wrap (yS+1))).bind λwv=>some (.inl (wv,k41,Tr))else some (.inr (xE,wh))))) (0,0,EM)).bind λZF=>match ZF with|⟨GN,Jo⟩=>(some (x1.length:Int)).bind λDf=>(some (IntKind.i64.wrap (oB+Df))).bind λRF=>(bY 0 GN).bind λ⟨L4,k45⟩=>(ko Jo RF).bind λGc=>(stM Jo Gc L4).bind λl46=>(some (IntKind.i64.wrap (oB+1))).bind λGe=>some (.inl (Ge,l46))else some (.inr EM)))) (0,jD)).bind λwz=>some wz
noncomputable def iw(x0:List Nat)(x1:Nat):Option (Nat×List Nat):=(some (x0.length:Int)).bind λx9=>(some (IntKind.i64.wrap (x9-1))).bind λeY=>(cy (λ(s8:Nat×Int×(List Nat))=>match s8 with|⟨NW,NX,rG⟩=>(show Option ((Nat×Int×(List Nat))⊕(Nat×(List Nat)))from(some (decide ((0:Int)<=NX))).bind λeX=>(bif eX then(some (NW*2^32%18446744073709551616)).bind λjD=>(ko rG NX).bind λmm=>(rG[mm]?).bind λja=>(some (ja%18446744073709551616)).bind λiv=>(some ((jD ||| iv)%18446744073709551616)).bind λkq=>(EC 18446744073709551616 kq x1).bind λnn=>(some (nn%4294967296)).bind λoY=>(ko rG NX).bind λjq=>(stM rG jq oY).bind λAq=>(Dc kq x1).bind λkp=>(some (IntKind.i64.wrap (NX-1))).bind λga=>some (.inl (kp,ga,Aq))else some (.inr (NW,rG))))) (0,eY,x0)).bind λe8=>match e8 with|⟨ZG,AW⟩=>(vg x0 AW).bind λ_=>some (ZG,AW)
noncomputable def fO(x0:List Nat)(x1:Nat):Option (List Nat):=(some (x0.length:Int)).bind λjC=>(some (IntKind.i64.wrap (jC+1))).bind λeX=>(NF (α:=Nat) 4 eX).bind λjv=>(some (x0.length:Int)).bind λe9=>(cy (λ(s8:Int×Nat×(List Nat))=>match s8 with|⟨xF,rH,jJ⟩=>(show Option ((Int×Nat×(List Nat))⊕(Nat×(List Nat)))from(some (decide ((xF:Int)<e9))).bind λgW=>(bif gW then(cU x0 xF).bind λgX=>(some (gX%18446744073709551616)).bind λku=>(some (ku*2^(min x1 64)%18446744073709551616)).bind λvi=>(bY vi rH).bind λ⟨mH,VG⟩=>(yM 4 jJ [mH]).bind λoY=>(some (IntKind.i64.wrap (xF+1))).bind λjq=>some (.inl (jq,VG,oY))else some (.inr (rH,jJ))))) (0,0,jv)).bind λe8=>match e8 with|⟨BK,NY⟩=>(bY 0 BK).bind λ⟨kp,k12⟩=>(yM 4 NY [kp]).bind λoq=>some oq
noncomputable def iP(x0:List Nat)(x1:Nat):Option (List Nat):=(some (x0.length:Int)).bind λjC=>(some (IntKind.i64.wrap (jC+1))).bind λeX=>(NF (α:=Nat) 4 eX).bind λjv=>(some (x0.length:Int)).bind λe9=>(cy (λ(s8:Int×Nat×(List Nat))=>match s8 with|⟨xF,rH,EN⟩=>(show Option ((Int×Nat×(List Nat))⊕(Nat×(List Nat)))from(some (decide ((xF:Int)<e9))).bind λgW=>(bif gW then(cU x0 xF).bind λgX=>(some (gX%18446744073709551616)).bind λku=>(some (ku*2^(min x1 64)%18446744073709551616)).bind λvi=>(bY vi rH).bind λ⟨mH,VG⟩=>(yM 4 EN [mH]).bind λoY=>(some (IntKind.i64.wrap (xF+1))).bind λjq=>some (.inl (jq,VG,oY))else some (.inr (rH,EN))))) (0,0,jv)).bind λe8=>match e8 with|⟨BK,NZ⟩=>(bY 0 BK).bind λ⟨kp,k12⟩=>(yM 4 NZ [kp]).bind λoq=>some oq
noncomputable def gO(x0:Nat):Option (Int):=(some (decide ((65536:Nat)<=x0))).bind λx4=>cK (λ(j2:Nat×Int)=>match j2 with|⟨Jp,RG⟩=>(some (decide ((256:Nat)<=Jp))).bind λx8=>cK (λ(j4:Nat×Int)=>match j4 with|⟨ZH,ZI⟩=>(some (ZH%256)).bind λe9=>(vf [0,1,2,2,3,3,3,3,4,4,4,4,4,4,4,4,5,5,5,5,5,5,5,5,5,5,5,5,5,5,5,5,6,6,6,6,6,6,6,6,6,6,6,6,6,6,6,6,6,6,6,6,6,6,6,6,6,6,6,6,6,6,6,6,7,7,7,7,7,7,7,7,7,7,7,7,7,7,7,7,7,7,7,7,7,7,7,7,7,7,7,7,7,7,7,7,7,7,7,7,7,7,7,7,7,7,7,7,7,7,7,7,7,7,7,7,7,7,7,7,7,7,7,7,7,7,7,7,8,8,8,8,8,8,8,8,8,8,8,8,8,8,8,8,8,8,8,8,8,8,8,8,8,8,8,8,8,8,8,8,8,8,8,8,8,8,8,8,8,8,8,8,8,8,8,8,8,8,8,8,8,8,8,8,8,8,8,8,8,8,8,8,8,8,8,8,8,8,8,8,8,8,8,8,8,8,8,8,8,8,8,8,8,8,8,8,8,8,8,8,8,8,8,8,8,8,8,8,8,8,8,8,8,8,8,8,8,8,8,8,8,8,8,8,8,8,8,8,8,8,8,8,8,8,8,8] ((e9:Nat):Int)).bind λjD=>(some (IntKind.i64.wrap (jD:Int))).bind λgW=>(some (IntKind.i64.wrap (ZI+gW))).bind λgX=>some gX) λK4=>(bif x8 then(some (Jp/2^8)).bind λeY=>(some (IntKind.i64.wrap (RG+8))).bind λeX=>K4 (eY,eX)else K4 (Jp,RG))) λK2=>(bif x4 then(some (x0/2^16)).bind λx6=>K2 (x6,16)else K2 (x0,0))
noncomputable def dO(x0:Nat):Option (Int):=(gO x0).bind λx4=>(some (IntKind.i64.wrap (32-x4))).bind λx5=>some x5
noncomputable def iy(x0:List Nat)(o0:Nat)(n0:Nat)(x1:List Nat):Option (Nat×List Nat):=(some (x1.length:Int)).bind λeX=>(QT o0 n0 eX).bind λe9=>(x0[e9]?).bind λjD=>(some (jD%18446744073709551616)).bind λgW=>(some (gW*2^32%18446744073709551616)).bind λgX=>(some (IntKind.i64.wrap (eX-1))).bind λiv=>(QT o0 n0 iv).bind λkq=>(x0[kq]?).bind λku=>(some (ku%18446744073709551616)).bind λjE=>(some ((gX ||| jE)%18446744073709551616)).bind λvi=>(some (IntKind.i64.wrap (eX-1))).bind λoY=>(cU x1 oY).bind λjq=>(some (jq%18446744073709551616)).bind λrE=>(some (IntKind.i64.wrap (eX-2))).bind λoq=>(cU x1 oq).bind λot=>(some (ot%18446744073709551616)).bind λuE=>(EC 18446744073709551616 vi rE).bind λmX=>(Dc vi rE).bind λsS=>(cy (λ(EO:Nat×Nat)=>match EO with|⟨Dg,DR⟩=>(show Option ((Nat×Nat)⊕(Nat))from cK (λ(Jq:Bool)=>(bif Jq then(some (oZ 18446744073709551616 Dg 1)).bind λZJ=>(some ((DR+rE)%18446744073709551616)).bind λI1=>(some (I1/2^32)).bind λJr=>(some (decide ((Jr:Nat)≠0))).bind λKR=>(bif KR then some (.inr ZJ)else some (.inl (ZJ,I1)))else some (.inr Dg))) λM3=>(some (Dg/2^32)).bind λyz=>(some (decide ((yz:Nat)≠0))).bind λxj=>(bif xj then some true else(some ((Dg*uE)%18446744073709551616)).bind λsi=>(some (DR*2^32%18446744073709551616)).bind λwv=>(some (IntKind.i64.wrap (eX-2))).bind λyA=>(QT o0 n0 yA).bind λDf=>(x0[Df]?).bind λRF=>(some (RF%18446744073709551616)).bind λQU=>(some ((wv ||| QU)%18446744073709551616)).bind λL4=>(some (decide ((L4:Nat)<si))).bind λGc=>some Gc).bind λN0=>M3 N0)) (mX,sS)).bind λL5=>(vg x0 x0).bind λ_=>some (L5,x0)
noncomputable def dz(x0:List Nat)(o0:Nat)(n0:Nat)(x1:List Nat)(x2:Nat):Option (Bool×List Nat):=(some (n0:Int)).bind λga=>(cy (λ(AX:Nat×Int×Nat×(List Nat))=>match AX with|⟨L6,xG,EP,uF⟩=>(show Option ((Nat×Int×Nat×(List Nat))⊕(Nat×(List Nat)))from(some (decide ((xG:Int)<ga))).bind λjD=>(bif jD then(some (x1.length:Int)).bind λja=>(some (decide ((xG:Int)<ja))).bind λiv=>cK (λ(N1:Nat)=>(QT o0 n0 xG).bind λrE=>(uF[rE]?).bind λkp=>(some (kp%18446744073709551616)).bind λuG=>(bY N1 EP).bind λ⟨qa,k16⟩=>(some (qa%18446744073709551616)).bind λuE=>(some (oZ 18446744073709551616 uG uE)).bind λzW=>(some (oZ 18446744073709551616 zW L6)).bind λmX=>(some (mX%4294967296)).bind λBL=>(QT o0 n0 xG).bind λyz=>(stM uF yz BL).bind λl18=>(some (mX/2^63)).bind λwm=>(some (IntKind.i64.wrap (xG+1))).bind λsu=>some (.inl (wm,su,k16,l18))) λK14=>(bif iv then(cU x1 xG).bind λjE=>(some (jE%18446744073709551616)).bind λmH=>(some ((mH*x2)%18446744073709551616)).bind λoY=>K14 oY else K14 0)else some (.inr (L6,uF))))) (0,0,0,x0)).bind λRH=>match RH with|⟨N2,xH⟩=>(some (decide ((N2:Nat)≠0))).bind λsi=>(vg x0 xH).bind λ_=>some (si,xH)
noncomputable def jb(x0:List Nat)(x1:List Nat):Option ((List Nat)×(List Nat)):=(some (x1.length:Int)).bind λgW=>(some (IntKind.i64.wrap (gW-1))).bind λja=>(cU x1 ja).bind λiv=>(dO iv).bind λku=>(some ((ku%18446744073709551616).toNat)).bind λjE=>(iP x0 jE).bind λnn=>(fO x1 jE).bind λvk=>(Db vk 0 gW).bind λkp=>(some (x0.length:Int)).bind λoq=>(some (IntKind.i64.wrap (oq-gW))).bind λqa=>(some (IntKind.i64.wrap (qa+1))).bind λuE=>(CV 4 uE (0:Nat)).bind λzW=>(some (x0.length:Int)).bind λmX=>(some (IntKind.i64.wrap (mX-gW))).bind λqm=>(cy (λ(VH:Int×(List Nat)×(List Nat))=>match VH with|⟨jK,sV,wA⟩=>(show Option ((Int×(List Nat)×(List Nat))⊕((List Nat)×(List Nat)))from(some (decide ((0:Int)<=jK))).bind λBL=>(bif BL then(some (IntKind.i64.wrap (jK+gW))).bind λGM=>(some (IntKind.i64.wrap (GM+1))).bind λwv=>(VA wA jK wv).bind λ⟨o53,n53⟩=>(iy wA o53 n53 kp).bind λ⟨yA,RI⟩=>(vg wA RI).bind λ_=>(some (IntKind.i64.wrap (jK+gW))).bind λGc=>(some (IntKind.i64.wrap (Gc+1))).bind λGe=>(VA RI jK Ge).bind λ⟨o62,n62⟩=>(dz RI o62 n62 kp yA).bind λ⟨YI,QV⟩=>(vg RI QV).bind λ_=>cK (λ(Ts:Nat×(List Nat))=>match Ts with|⟨N3,Js⟩=>(some (N3%4294967296)).bind λER=>(ko sV jK).bind λZK=>(stM sV ZK ER).bind λl55=>(some (IntKind.i64.wrap (jK-1))).bind λxj=>some (.inl (xj,l55,Js))) λK53=>(bif YI then(some (oZ 18446744073709551616 yA 1)).bind λTt=>(some (kp.length:Int)).bind λDS=>(cy (λ(VI:Int×Nat×(List Nat))=>match VI with|⟨yT,xI,wB⟩=>(show Option ((Int×Nat×(List Nat))⊕(Nat×(List Nat)))from(some (decide ((yT:Int)<DS))).bind λL7=>(bif L7 then(cU kp yT).bind λx74=>(some (IntKind.i64.wrap (jK+yT))).bind λI2=>(some (IntKind.i64.wrap (jK+yT))).bind λQW=>(ko wB QW).bind λZL=>(wB[ZL]?).bind λQX=>(some (QX%18446744073709551616)).bind λJt=>(some (x74%18446744073709551616)).bind λx89=>(some ((Jt+x89)%18446744073709551616)).bind λRJ=>(bY RJ xI).bind λ⟨x91,k68⟩=>(ko wB I2).bind λZM=>(stM wB ZM x91).bind λVJ=>(some (IntKind.i64.wrap (yT+1))).bind λM4=>some (.inl (M4,k68,VJ))else some (.inr (xI,wB))))) (0,0,QV)).bind λe65=>match e65 with|⟨GO,BM⟩=>(some (IntKind.i64.wrap (jK+gW))).bind λx97=>(some (IntKind.i64.wrap (jK+gW))).bind λL8=>(ko BM L8).bind λL9=>(BM[L9]?).bind λZN=>(some (ZN%18446744073709551616)).bind λZO=>(bY ZO GO).bind λ⟨Ma,k72⟩=>(ko BM x97).bind λZP=>(stM BM ZP Ma).bind λl73=>K53 (Tt,l73)else K53 (yA,QV))else some (.inr (sV,wA))))) (qm,zW,nn)).bind λe36=>match e36 with|⟨BN,yU⟩=>(CV 4 gW (0:Nat)).bind λZQ=>(cy (λ(YJ:Int×(List Nat))=>match YJ with|⟨uH,xJ⟩=>(show Option ((Int×(List Nat))⊕((List Nat)))from(some (decide ((uH:Int)<gW))).bind λGP=>(bif GP then(ko yU uH).bind λZR=>(yU[ZR]?).bind λZS=>(some (ZS%18446744073709551616)).bind λES=>(some (IntKind.i64.wrap (uH+1))).bind λN4=>(ko yU N4).bind λMb=>(yU[Mb]?).bind λZT=>(some (ZT%18446744073709551616)).bind λVK=>(some (VK*2^32%18446744073709551616)).bind λVL=>(some ((ES ||| VL)%18446744073709551616)).bind λMc=>(some (Mc/2^(min jE 64))).bind λN5=>(some (N5%4294967296)).bind λMd=>(ko xJ uH).bind λMe=>(stM xJ Me Md).bind λl83=>(some (IntKind.i64.wrap (uH+1))).bind λVM=>some (.inl (VM,l83))else some (.inr xJ)))) (0,ZQ)).bind λrI=>some (BN,rI)
noncomputable def gA(x0:List Nat)(x1:List Nat):Option ((List Nat)×(List Nat)):=(c8 x0 x1).bind λeX=>(some (decide ((eX:Int)<0))).bind λjv=>(bif jv then(eJ x0).bind λe9=>some ([],e9)else(some (x0.length:Int)).bind λgX=>(some (decide ((gX:Int)<=2))).bind λmm=>(bif mm then(dU x0).bind λiv=>(dU x1).bind λku=>(EC 18446744073709551616 iv ku).bind λmH=>(fy false mH).bind λ⟨ZU,Tu⟩=>(Dc iv ku).bind λrE=>(fy false rE).bind λ⟨qE,pG⟩=>some (Tu,pG)else(some (x1.length:Int)).bind λqa=>(some (decide ((qa:Int)=1))).bind λuE=>(bif uE then(eJ x0).bind λvm=>(cU x1 0).bind λqm=>(some (qm%18446744073709551616)).bind λBL=>(iw vm BL).bind λ⟨yz,l5⟩=>(vg vm l5).bind λ_=>(some (yz%4294967296)).bind λsu=>some (l5,[su])else(jb x0 x1).bind λ⟨ZV,ZW⟩=>some (ZV,ZW))))
noncomputable def cm(x0:Int):Option (Zr):=(some ((x0%18446744073709551616).toNat)).bind λx5=>(some (decide ((x0:Int)<0))).bind λx7=>cK (λ(ZX:Nat)=>(some (decide ((x0:Int)<0))).bind λjC=>(fy jC ZX).bind λ⟨GQ,GR⟩=>some ⟨GQ,GR⟩) λK2=>(bif x7 then(some (oZ 18446744073709551616 0 x5)).bind λx9=>K2 x9 else K2 x5)
noncomputable def dR(x0:Zr):Option (Int×Bool):=match x0 with|⟨bu,bw⟩=>(bz bw).bind λx8=>(some (x8.length:Int)).bind λeY=>(some (decide ((2:Int)<eY))).bind λjC=>(bif jC then some (0,false)else(dU x8).bind λjv=>(bif bu then(some (decide ((9223372036854775808:Nat)<jv))).bind λgW=>(bif gW then some (0,false)else(some (oZ 18446744073709551616 0 jv)).bind λmm=>(some (IntKind.i64.wrap (mm:Int))).bind λja=>some (ja,true))else(some (decide ((9223372036854775808:Nat)<=jv))).bind λkq=>(bif kq then some (0,false)else(some (IntKind.i64.wrap (jv:Int))).bind λjE=>some (jE,true))))
noncomputable def dG(x0:Bool)(x1:List Nat)(x2:Bool)(x3:List Nat):Option (Zr):=(some (x0==x2)).bind λjC=>(bif jC then(fk x1 x3).bind λe9=>(cE x0 e9).bind λ⟨pH,pI⟩=>some ⟨pH,pI⟩else(c8 x1 x3).bind λmm=>(some (decide ((mm:Int)<0))).bind λja=>(bif ja then(dy x3 x1).bind λjE=>(cE x2 jE).bind λ⟨mA,lJ⟩=>some ⟨mA,lJ⟩else(dy x1 x3).bind λjq=>(cE x0 jq).bind λ⟨vn,vo⟩=>some ⟨vn,vo⟩))
noncomputable def nq(x0:Zr)(x1:Zr):Option (Zr):=match x0 with|⟨bu,bw⟩=>match x1 with|⟨cV,cS⟩=>(dR ⟨bu,bw⟩).bind λ⟨Dh,Ju⟩=>(dR ⟨cV,cS⟩).bind λ⟨ET,Jv⟩=>cK (λ(sW:Bool)=>cK (λ(j5:Unit)=>(bz bw).bind λwj=>(bz cS).bind λxj=>(dG bu wj cV xj).bind λ⟨GS,GU⟩=>some ⟨GS,GU⟩) λK5=>(bif sW then(some (IntKind.i64.wrap (Dh+ET))).bind λmH=>(some (IntKind.i64.wrap ((BitVec.ofInt 64 Dh ^^^ BitVec.ofInt 64 mH).toNat))).bind λjq=>(some (IntKind.i64.wrap ((BitVec.ofInt 64 ET ^^^ BitVec.ofInt 64 mH).toNat))).bind λkp=>(some (IntKind.i64.wrap ((BitVec.ofInt 64 jq &&& BitVec.ofInt 64 kp).toNat))).bind λuG=>(some (decide ((0:Int)<=uG))).bind λoq=>(bif oq then(cm mH).bind λ⟨zX,zY⟩=>some ⟨zX,zY⟩else K5 ())else K5 ())) λK3=>(bif Ju then some Jv else some false).bind λGV=>K3 GV
noncomputable def nu(x0:Zr)(x1:Zr):Option (Zr):=match x0 with|⟨bu,bw⟩=>match x1 with|⟨cV,cS⟩=>(dR ⟨bu,bw⟩).bind λ⟨Dh,Ju⟩=>(dR ⟨cV,cS⟩).bind λ⟨ET,Jv⟩=>cK (λ(sW:Bool)=>cK (λ(j5:Unit)=>(bz bw).bind λwj=>(some (!cV)).bind λBL=>(bz cS).bind λwm=>(dG bu wj BL wm).bind λ⟨Tv,Tw⟩=>some ⟨Tv,Tw⟩) λK5=>(bif sW then(some (IntKind.i64.wrap (Dh-ET))).bind λmH=>(some (IntKind.i64.wrap ((BitVec.ofInt 64 Dh ^^^ BitVec.ofInt 64 ET).toNat))).bind λjq=>(some (IntKind.i64.wrap ((BitVec.ofInt 64 Dh ^^^ BitVec.ofInt 64 mH).toNat))).bind λkp=>(some (IntKind.i64.wrap ((BitVec.ofInt 64 jq &&& BitVec.ofInt 64 kp).toNat))).bind λuG=>(some (decide ((0:Int)<=uG))).bind λoq=>(bif oq then(cm mH).bind λ⟨zX,zY⟩=>some ⟨zX,zY⟩else K5 ())else K5 ())) λK3=>(bif Ju then some Jv else some false).bind λGV=>K3 GV
noncomputable def c9(x0:Zr)(x1:Zr):Option (Zr):=match x0 with|⟨bu,bw⟩=>match x1 with|⟨cV,cS⟩=>(bz bw).bind λx9=>(bz cS).bind λeX=>cK (λ(N6:Bool)=>(bif N6 then(some (!(bu==cV))).bind λvi=>(dU x9).bind λnn=>(dU eX).bind λjq=>(some ((nn*jq)%18446744073709551616)).bind λvk=>(fy vi vk).bind λ⟨Tx,Ty⟩=>some ⟨Tx,Ty⟩else(some (!(bu==cV))).bind λqa=>(gz x9 eX).bind λvm=>(cE qa vm).bind λ⟨zZ,z3⟩=>some ⟨zZ,z3⟩)) λK3=>(some (x9.length:Int)).bind λga=>(some (decide ((ga:Int)<=1))).bind λe9=>(bif e9 then(some (eX.length:Int)).bind λgX=>(some (decide ((gX:Int)<=1))).bind λmm=>some mm else some false).bind λTz=>K3 Tz
noncomputable def gw(x0:Zr):Option (Zr):=match x0 with|⟨bu,bw⟩=>(some (!bu)).bind λx5=>(bz bw).bind λx8=>(eJ x8).bind λx9=>(cE x5 x9).bind λ⟨GW,GX⟩=>some ⟨GW,GX⟩
noncomputable def di(x0:Zr):Option (Int):=match x0 with|⟨bu,bw⟩=>(bz bw).bind λx6=>(some (x6.length:Int)).bind λx7=>(some (decide ((x7:Int)=0))).bind λx8=>(bif x8 then some 0 else(bif bu then some (-1)else some 1))
noncomputable def nv(x0:Zr)(x1:Zr):Option (Int):=match x0 with|⟨bu,bw⟩=>match x1 with|⟨cV,cS⟩=>(di ⟨bu,bw⟩).bind λx8=>(di ⟨cV,cS⟩).bind λeY=>(some (decide ((x8:Int)<eY))).bind λga=>(bif ga then some (-1)else(some (decide ((eY:Int)<x8))).bind λgX=>(bif gX then some 1 else(some (decide ((x8:Int)<0))).bind λiv=>(bif iv then(bz cS).bind λjE=>(bz bw).bind λnn=>(c8 jE nn).bind λoY=>some oY else(bz bw).bind λrE=>(bz cS).bind λoq=>(c8 rE oq).bind λot=>some ot)))
noncomputable def fI(x0:Zr)(x1:Zr):Option (Zr×Zr×Int):=match x0 with|⟨bu,bw⟩=>match x1 with|⟨cV,cS⟩=>(bz bw).bind λjv=>(bz cS).bind λjD=>(some (jD.length:Int)).bind λgX=>(some (decide ((gX:Int)=0))).bind λmm=>(bif mm then some (⟨false,[]⟩,⟨false,[]⟩,7)else(gA jv jD).bind λ⟨N7,ZY⟩=>(bz ZY).bind λjq=>cK (λ(j3:Bool×Bool)=>match j3 with|⟨N8,Jw⟩=>cK (λ(j5:(List Nat)×(List Nat))=>match j5 with|⟨ZZ,TA⟩=>(some (!(Jw==cV))).bind λwm=>(cE wm ZZ).bind λ⟨TB,TC⟩=>(cE false TA).bind λ⟨DT,DU⟩=>some (⟨TB,TC⟩,⟨DT,DU⟩,0)) λK5=>(bif N8 then(fk N7 [1]).bind λvm=>(dy jD jq).bind λqm=>K5 (vm,qm)else K5 (N7,jq))) λK3=>(bif bu then(some (jq.length:Int)).bind λoq=>(some (decide ((0:Int)<oq))).bind λot=>some ot else some false).bind λTD=>K3 (TD,bu))
noncomputable def lf(x0:Zr)(x1:Zr):Option (Zr):=match x0 with|⟨bu,bw⟩=>match x1 with|⟨cV,cS⟩=>(bz bw).bind λjv=>(bz cS).bind λjD=>(cy (λ(AX:(List Nat)×(List Nat))=>match AX with|⟨Mf,EU⟩=>(show Option (((List Nat)×(List Nat))⊕((List Nat)×(List Nat)))from cK (λ(Jx:Bool)=>(bif Jx then(gA Mf EU).bind λ⟨aeM,Z0⟩=>(bz Z0).bind λzW=>some (.inl (EU,zW))else some (.inr (Mf,EU)))) λK16=>(some (EU.length:Int)).bind λgX=>(some (decide ((0:Int)<gX))).bind λmm=>(bif mm then(some (Mf.length:Int)).bind λkq=>(some (decide ((2:Int)<kq))).bind λku=>(bif ku then some true else(some (EU.length:Int)).bind λmH=>(some (decide ((2:Int)<mH))).bind λnn=>some nn).bind λN9=>some N9 else some false).bind λOa=>K16 Oa)) (jv,jD)).bind λRH=>match RH with|⟨Ob,Od⟩=>(some (Od.length:Int)).bind λmX=>(some (decide ((mX:Int)=0))).bind λwj=>(bif wj then(eJ Ob).bind λsS=>(cE false sS).bind λ⟨GY,GZ⟩=>some ⟨GY,GZ⟩else(dU Ob).bind λxj=>(dU Od).bind λsu=>(cy (λ(YK:Nat×Nat)=>match YK with|⟨KS,yV⟩=>(show Option ((Nat×Nat)⊕(Nat))from(some (decide ((0:Nat)<yV))).bind λsi=>(bif si then(Dc KS yV).bind λAr=>some (.inl (yV,Ar))else some (.inr KS)))) (xj,su)).bind λDV=>(fy false DV).bind λ⟨pJ,qF⟩=>some ⟨pJ,qF⟩)
end
section
open Go.Fw Go.Fw.Z Go.RowKit
theorem fm(c:Nat):Vo ah 186 [.v (.int .u64 (c:Nat))] 202 128 [.v (.int .u64 (c:Nat))]:=by
 refine Ji Tryz.func186 Y (af Y) (λeI M vs hvs=>?_);exact sr<|RT.vT .none (s:=.sv _) Y T Y Y<|ag Y<|dn<|sr<|RT.makeFunc .none (.box Y (.nil)) T<|an (s:=.gI _ _) Y<|dn<|bf<|⟨.inr Y,_,.tmp Y,Y⟩
theorem sX(a b:List Nat):Pure ah 206 [(slc 1 (List.map aY a)),(slc 1 (List.map aY b))] (jA 214 [ref [(slc 1 (List.map aY a))],ref [(slc 1 (List.map aY b))]]):=by
 refine bD Tryz.func206 Y (af Y) (λeI M vs hvs=>?_);refine sr<|RT.vT .none (s:=.sv _) Y T Y Y<|RT.vT .none (s:=.sv _) Y T Y Y<|ag Y<|dn<|sr<|RT.makeFunc .none (.box Y (.box Y (.nil))) T<|an (s:=.gI _ _) Y<|dn<|cI (gN (i:=2) Y [(slc 1 (List.map aY a))] (.cons Y .nil) .any 0 [(4,.gI 214 [.val (ref [(slc 1 (List.map aY a))]),.box 3])] (λ_ _ _=>trivial) (qy.h (l:=[(slc 1 (List.map aY a))])) ⟨@FT.gI _ _ _ _ _ 4 214 [.box 2,.box 3] Y,aq⟩) ?_;exact cI (gN (i:=3) Y [(slc 1 (List.map aY b))] (.cons Y .nil) .any 0 [(4,.gI 214 [.val (ref [(slc 1 (List.map aY a))]),.val (ref [(slc 1 (List.map aY b))])])] (λ_ _ _=>trivial) (qy.h (l:=[(slc 1 (List.map aY b))])) ⟨@FT.gI _ _ _ _ _ 4 214 [.val (ref [(slc 1 (List.map aY a))]),.box 3] Y,aq⟩)<|cI (EA 4 (jA 214 [ref [(slc 1 (List.map aY a))],ref [(slc 1 (List.map aY b))]]) (λ_ _ h=>EB h))<|bf<|⟨.inr Y,Ey (.tmp Y (.nil)) Y⟩
theorem sY(a b:List Nat):Iter ah 214 [ref [(slc 1 (List.map aY a))],ref [(slc 1 (List.map aY b))]] (max a.length b.length) (λk=>[.v (.int .u64 ((a.getD k 0%18446744073709551616:Nat):Int)),.v (.int .u64 ((b.getD k 0%18446744073709551616:Nat):Int))]):=by
 refine rD Tryz.func214 Y Y (af Y) (λeI M O l J hJ xh hr=>?_);obtain⟨nU,xh⟩:=xh;have hla:a.length<=9223372036854775807:=by cases nU with|nil=>exact xh.elim|cons _ nU=>exact uC xh.1
 have hlb:b.length<=9223372036854775807:=by cases nU with|nil=>exact xh.elim|cons _ nU=>cases nU with|nil=>exact xh.2.elim|cons _ _=>exact uC xh.2.1
 refine bM ?_;refine aW ?_;refine RT.dN .none Y Y (tl Y) ?_;refine RT.len .none Y (tl Y) ?_;refine RT.dN .none Y Y (tl Y) ?_;refine RT.len .none Y (tl Y) ?_;refine RT.max .none (((max a.length b.length:Nat):Int)) Y Y (tl Y) (by simp only[List.length_map];split<;>omega) ?_;refine RT.mv .none Y (tl Y) ?_;refine RT.done ?_;refine aV.n ?_;refine bj ?_
 refine xm (I:=λx:{i:Nat//i<=max a.length b.length}=>AS.cL 39 [(0,.sv (.v (.func (.yield l) #[] #[]))),(1,.sv (ref [(slc 1 (List.map aY a))])),(2,.sv (ref [(slc 1 (List.map aY b))])),(11,ai ((max a.length b.length:Nat):Int)),(12,ai ((x.1:Nat):Int))] [] [] (x.1)) (μ:=λx=>max a.length b.length-x.1) ⟨0,by omega⟩ (by(try dsimp only);exact dD id Y Y Y Y Y ⟨.sv (by first|exact au|exact SV.aZ (by omega)|exact SV.aZ (by push_cast;omega)|exact SV.aZ (by dsimp only;omega)|exact SV.imp_eq (by simp)),.sv (by first|exact au|exact SV.aZ (by omega)|exact SV.aZ (by push_cast;omega)|exact SV.aZ (by dsimp only;omega)|exact SV.imp_eq (by simp)),.sv (by first|exact au|exact SV.aZ (by omega)|exact SV.aZ (by push_cast;omega)|exact SV.aZ (by dsimp only;omega)|exact SV.imp_eq (by simp)),.sv (by first|exact au|exact SV.aZ (by omega)|exact SV.aZ (by push_cast;omega)|exact SV.aZ (by dsimp only;omega)|exact SV.imp_eq (by simp)),.sv (by first|exact au|exact SV.aZ (by omega)|exact SV.aZ (by push_cast;omega)|exact SV.aZ (by dsimp only;omega)|exact SV.imp_eq (by simp)),aq⟩ trivial trivial (λ_ _=>Y)) ?_;rintro⟨i,Tq⟩
 try dsimp only
 rcases BE a b i Tq with⟨hi,yH,AO⟩|⟨hi,yH,AO⟩|⟨hi,yH,AO⟩|hi
 ·
  refine bM ?_;refine aW ?_;refine RT.lss .none (true) Y Y (tl Y) (by simp;omega) ?_;refine RT.done ?_;refine aV.n ?_;refine bM ?_;refine dr Y ?_;refine bC ?_;refine aV.n ?_;refine bM ?_;refine bj ?_;refine bM ?_;refine aW ?_;refine RT.mv .none Y (tl Y) ?_;refine RT.DJ .none Y (tl Y) ?_;refine RT.done ?_;refine aV.n ?_;refine bM ?_;refine aW ?_;refine RT.DJ .none Y (tl Y) ?_;refine RT.DJ .none Y (tl Y) ?_;refine RT.done ?_;refine aV.n ?_;refine bM ?_;refine bM ?_;refine aW ?_;refine RT.mv .none Y (tl Y) ?_;refine RT.dN .none Y Y (tl Y) ?_;refine RT.len .none Y (tl Y) ?_;refine RT.lss .none (true) Y Y (tl Y) (by simp only[List.length_map];simp;omega) ?_;refine RT.done ?_;refine aV.n ?_;refine dr Y ?_;refine aW ?_;refine RT.dN .none Y Y (tl Y) ?_;refine RT.mv .none Y (tl Y) ?_;refine RT.Tl .none [.v (.int .u32 ((a.getD i 0:Nat):Int))] (Int.natCast_nonneg i) (by rw[Int.toNat_natCast,List.getElem?_map,sO yH];rfl) Y Y (tl Y) ?_;refine RT.dN .none Y Y (tl Y) ?_;refine RT.conv .none (((a.getD i 0%18446744073709551616:Nat):Int)) Y (tl Y) Rm ?_;refine RT.DJ .none Y (tl Y) ?_;refine RT.done ?_;refine aV.n ?_;refine bM ?_;refine bM ?_;refine aW ?_;refine RT.mv .none Y (tl Y) ?_
  refine RT.dN .none Y Y (tl Y) ?_;refine RT.len .none Y (tl Y) ?_;refine RT.lss .none (true) Y Y (tl Y) (by simp only[List.length_map];simp;omega) ?_;refine RT.done ?_;refine aV.n ?_;refine dr Y ?_;refine aW ?_;refine RT.dN .none Y Y (tl Y) ?_;refine RT.mv .none Y (tl Y) ?_;refine RT.Tl .none [.v (.int .u32 ((b.getD i 0:Nat):Int))] (Int.natCast_nonneg i) (by rw[Int.toNat_natCast,List.getElem?_map,sO AO];rfl) Y Y (tl Y) ?_;refine RT.dN .none Y Y (tl Y) ?_;refine RT.conv .none (((b.getD i 0%18446744073709551616:Nat):Int)) Y (tl Y) Rm ?_;refine RT.DJ .none Y (tl Y) ?_;refine RT.done ?_;refine aV.n ?_;refine bM ?_;refine aW ?_;refine RT.mv .none Y (tl Y) ?_;refine RT.mv .none Y (tl Y) ?_;refine RT.mv .none Y (tl Y) ?_;refine RT.yield .none hr Y (λ_ h=>h) Y (i) Y Y hi (by exact⟨Y,Y,aq⟩) (tl Y) (λyb=>?_);cases yb
  ·
   refine RT.not .none Y (tl Y) true Y ?_;refine RT.done ?_;refine aV.n ?_;refine dr Y ?_;refine bf ?_;refine bG.r ?_;refine aV.r ?_;refine aV.r ?_;refine bG.r ?_;exact⟨.inr rfl,(λh=>by cases h)⟩
  refine RT.not .none Y (tl Y) false Y ?_;refine RT.done ?_;refine aV.n ?_;refine e5 Y ?_;refine bC ?_;refine bG.n ?_;refine aV.n ?_;refine aW ?_;refine RT.add .none (((i:Nat):Int)+1) Y Y (tl Y) (mE (by omega)) ?_;refine RT.mv .none Y (tl Y) ?_;refine RT.done ?_;refine aV.n ?_;refine⟨⟨i+1,by omega⟩,(by dsimp only;omega),?_⟩
  try dsimp only
  exact dD id Y Y Y Y Y ⟨.sv (by first|exact au|exact SV.aZ (by omega)|exact SV.aZ (by push_cast;omega)|exact SV.aZ (by dsimp only;omega)|exact SV.imp_eq (by simp)),.sv (by first|exact au|exact SV.aZ (by omega)|exact SV.aZ (by push_cast;omega)|exact SV.aZ (by dsimp only;omega)|exact SV.imp_eq (by simp)),.sv (by first|exact au|exact SV.aZ (by omega)|exact SV.aZ (by push_cast;omega)|exact SV.aZ (by dsimp only;omega)|exact SV.imp_eq (by simp)),.sv (by first|exact au|exact SV.aZ (by omega)|exact SV.aZ (by push_cast;omega)|exact SV.aZ (by dsimp only;omega)|exact SV.imp_eq (by simp)),.sv (by first|exact au|exact SV.aZ (by omega)|exact SV.aZ (by push_cast;omega)|exact SV.aZ (by dsimp only;omega)|exact SV.imp_eq (by simp)),aq⟩ trivial trivial (λ_ _=>Y)
 ·
  refine bM ?_;refine aW ?_;refine RT.lss .none (true) Y Y (tl Y) (by simp;omega) ?_;refine RT.done ?_;refine aV.n ?_;refine bM ?_;refine dr Y ?_;refine bC ?_;refine aV.n ?_;refine bM ?_;refine bj ?_;refine bM ?_;refine aW ?_;refine RT.mv .none Y (tl Y) ?_;refine RT.DJ .none Y (tl Y) ?_;refine RT.done ?_;refine aV.n ?_;refine bM ?_;refine aW ?_;refine RT.DJ .none Y (tl Y) ?_;refine RT.DJ .none Y (tl Y) ?_;refine RT.done ?_;refine aV.n ?_;refine bM ?_;refine bM ?_;refine aW ?_;refine RT.mv .none Y (tl Y) ?_;refine RT.dN .none Y Y (tl Y) ?_;refine RT.len .none Y (tl Y) ?_;refine RT.lss .none (true) Y Y (tl Y) (by simp only[List.length_map];simp;omega) ?_;refine RT.done ?_;refine aV.n ?_;refine dr Y ?_;refine aW ?_;refine RT.dN .none Y Y (tl Y) ?_;refine RT.mv .none Y (tl Y) ?_;refine RT.Tl .none [.v (.int .u32 ((a.getD i 0:Nat):Int))] (Int.natCast_nonneg i) (by rw[Int.toNat_natCast,List.getElem?_map,sO yH];rfl) Y Y (tl Y) ?_;refine RT.dN .none Y Y (tl Y) ?_;refine RT.conv .none (((a.getD i 0%18446744073709551616:Nat):Int)) Y (tl Y) Rm ?_;refine RT.DJ .none Y (tl Y) ?_;refine RT.done ?_;refine aV.n ?_;refine bM ?_;refine bM ?_;refine aW ?_;refine RT.mv .none Y (tl Y) ?_
  refine RT.dN .none Y Y (tl Y) ?_;refine RT.len .none Y (tl Y) ?_;refine RT.lss .none (false) Y Y (tl Y) (by simp only[List.length_map];simp;omega) ?_;refine RT.done ?_;refine aV.n ?_;refine e5 Y ?_;refine bC ?_;refine aV.n ?_;refine bM ?_;refine aW ?_;refine RT.mv .none Y (tl Y) ?_;refine RT.mv .none Y (tl Y) ?_;refine RT.mv .none Y (tl Y) ?_;refine RT.yield .none hr Y (λ_ h=>h) Y (i) Y Y hi (by exact⟨Y,(by show AV.sv _=AV.sv _;rw[we AO];rfl),aq⟩) (tl Y) (λyb=>?_);cases yb
  ·
   refine RT.not .none Y (tl Y) true Y ?_;refine RT.done ?_;refine aV.n ?_;refine dr Y ?_;refine bf ?_;refine bG.r ?_;refine aV.r ?_;refine aV.r ?_;refine bG.r ?_;exact⟨.inr rfl,(λh=>by cases h)⟩
  refine RT.not .none Y (tl Y) false Y ?_;refine RT.done ?_;refine aV.n ?_;refine e5 Y ?_;refine bC ?_;refine bG.n ?_;refine aV.n ?_;refine aW ?_;refine RT.add .none (((i:Nat):Int)+1) Y Y (tl Y) (mE (by omega)) ?_;refine RT.mv .none Y (tl Y) ?_;refine RT.done ?_;refine aV.n ?_;refine⟨⟨i+1,by omega⟩,(by dsimp only;omega),?_⟩
  try dsimp only
  exact dD id Y Y Y Y Y ⟨.sv (by first|exact au|exact SV.aZ (by omega)|exact SV.aZ (by push_cast;omega)|exact SV.aZ (by dsimp only;omega)|exact SV.imp_eq (by simp)),.sv (by first|exact au|exact SV.aZ (by omega)|exact SV.aZ (by push_cast;omega)|exact SV.aZ (by dsimp only;omega)|exact SV.imp_eq (by simp)),.sv (by first|exact au|exact SV.aZ (by omega)|exact SV.aZ (by push_cast;omega)|exact SV.aZ (by dsimp only;omega)|exact SV.imp_eq (by simp)),.sv (by first|exact au|exact SV.aZ (by omega)|exact SV.aZ (by push_cast;omega)|exact SV.aZ (by dsimp only;omega)|exact SV.imp_eq (by simp)),.sv (by first|exact au|exact SV.aZ (by omega)|exact SV.aZ (by push_cast;omega)|exact SV.aZ (by dsimp only;omega)|exact SV.imp_eq (by simp)),aq⟩ trivial trivial (λ_ _=>Y)
 ·
  refine bM ?_;refine aW ?_;refine RT.lss .none (true) Y Y (tl Y) (by simp;omega) ?_;refine RT.done ?_;refine aV.n ?_;refine bM ?_;refine dr Y ?_;refine bC ?_;refine aV.n ?_;refine bM ?_;refine bj ?_;refine bM ?_;refine aW ?_;refine RT.mv .none Y (tl Y) ?_;refine RT.DJ .none Y (tl Y) ?_;refine RT.done ?_;refine aV.n ?_;refine bM ?_;refine aW ?_;refine RT.DJ .none Y (tl Y) ?_;refine RT.DJ .none Y (tl Y) ?_;refine RT.done ?_;refine aV.n ?_;refine bM ?_;refine bM ?_;refine aW ?_;refine RT.mv .none Y (tl Y) ?_;refine RT.dN .none Y Y (tl Y) ?_;refine RT.len .none Y (tl Y) ?_;refine RT.lss .none (false) Y Y (tl Y) (by simp only[List.length_map];simp;omega) ?_;refine RT.done ?_;refine aV.n ?_;refine e5 Y ?_;refine bC ?_;refine aV.n ?_;refine bM ?_;refine bM ?_;refine aW ?_;refine RT.mv .none Y (tl Y) ?_;refine RT.dN .none Y Y (tl Y) ?_;refine RT.len .none Y (tl Y) ?_;refine RT.lss .none (true) Y Y (tl Y) (by simp only[List.length_map];simp;omega) ?_;refine RT.done ?_;refine aV.n ?_;refine dr Y ?_;refine aW ?_;refine RT.dN .none Y Y (tl Y) ?_;refine RT.mv .none Y (tl Y) ?_
  refine RT.Tl .none [.v (.int .u32 ((b.getD i 0:Nat):Int))] (Int.natCast_nonneg i) (by rw[Int.toNat_natCast,List.getElem?_map,sO AO];rfl) Y Y (tl Y) ?_;refine RT.dN .none Y Y (tl Y) ?_;refine RT.conv .none (((b.getD i 0%18446744073709551616:Nat):Int)) Y (tl Y) Rm ?_;refine RT.DJ .none Y (tl Y) ?_;refine RT.done ?_;refine aV.n ?_;refine bM ?_;refine aW ?_;refine RT.mv .none Y (tl Y) ?_;refine RT.mv .none Y (tl Y) ?_;refine RT.mv .none Y (tl Y) ?_;refine RT.yield .none hr Y (λ_ h=>h) Y (i) Y Y hi (by exact⟨(by show AV.sv _=AV.sv _;rw[we yH];rfl),Y,aq⟩) (tl Y) (λyb=>?_);cases yb
  ·
   refine RT.not .none Y (tl Y) true Y ?_;refine RT.done ?_;refine aV.n ?_;refine dr Y ?_;refine bf ?_;refine bG.r ?_;refine aV.r ?_;refine aV.r ?_;refine bG.r ?_;exact⟨.inr rfl,(λh=>by cases h)⟩
  refine RT.not .none Y (tl Y) false Y ?_;refine RT.done ?_;refine aV.n ?_;refine e5 Y ?_;refine bC ?_;refine bG.n ?_;refine aV.n ?_;refine aW ?_;refine RT.add .none (((i:Nat):Int)+1) Y Y (tl Y) (mE (by omega)) ?_;refine RT.mv .none Y (tl Y) ?_;refine RT.done ?_;refine aV.n ?_;refine⟨⟨i+1,by omega⟩,(by dsimp only;omega),?_⟩
  try dsimp only
  exact dD id Y Y Y Y Y ⟨.sv (by first|exact au|exact SV.aZ (by omega)|exact SV.aZ (by push_cast;omega)|exact SV.aZ (by dsimp only;omega)|exact SV.imp_eq (by simp)),.sv (by first|exact au|exact SV.aZ (by omega)|exact SV.aZ (by push_cast;omega)|exact SV.aZ (by dsimp only;omega)|exact SV.imp_eq (by simp)),.sv (by first|exact au|exact SV.aZ (by omega)|exact SV.aZ (by push_cast;omega)|exact SV.aZ (by dsimp only;omega)|exact SV.imp_eq (by simp)),.sv (by first|exact au|exact SV.aZ (by omega)|exact SV.aZ (by push_cast;omega)|exact SV.aZ (by dsimp only;omega)|exact SV.imp_eq (by simp)),.sv (by first|exact au|exact SV.aZ (by omega)|exact SV.aZ (by push_cast;omega)|exact SV.aZ (by dsimp only;omega)|exact SV.imp_eq (by simp)),aq⟩ trivial trivial (λ_ _=>Y)
 subst hi;refine bM ?_;refine aW ?_;refine RT.lss .none (false) Y Y (tl Y) (by simp) ?_;refine RT.done ?_;refine aV.n ?_;refine bM ?_;refine e5 Y ?_;refine b9 ?_;refine aV.x ?_;refine aV.x ?_;refine bG.x ?_;exact⟨.inl Y,(λ_=>Y)⟩
theorem qG{x0 r:List Nat}(h:eJ x0=some r):LX ah 175 [slc 1 (List.map aY x0)] (TR 130 1 aY r):=by
 refine Bx Tryz.func175 Y (af Y) (λeI M vs hvs=>?_);unfold eJ at h;refine sr<|ag Y<|dn<|qq<|sr<|mv Y ?_;refine RT.Zo .none Y T (λnb hnb=>?_);cases nb;exact dn<|fs<|sr<|RT.Rp (l:=([]:List Nat)) (e:=aY) .none .nil T Y T Y Y Y Y Y Y<|mv Y<|aR (k:=x0) (e:=aY) Y Y Y h<|an (s:=.row _) Y<|dn<|bf<|⟨.inr Y,_,.tmp Y,Y⟩;have hx:x0=[]:=by simpa using hnb Y
 subst hx;obtain⟨_,_,rfl⟩:=xA h;exact dn<|cT<|sr<|ag Y<|dn<|cI (iZ 2 300 130 1 Y Y T)<|bf<|aV.r<|⟨.inr Y,_,.tmp Y,Y⟩
theorem cA{x0:Nat}{c0:Nat}{r:Nat×Nat}(h:bY x0 c0=some r):Rg ah 202 [.v (.int .u64 ((x0:Nat):Int))] 128 [.v (.int .u64 ((c0:Nat):Int))] (.v (.int .u32 ((r.1:Nat):Int))) [.v (.int .u64 ((r.2:Nat):Int))]:=by
 refine Jh Tryz.func202 Y (af Y) (λeI M β=>?_);unfold bY at h;refine sr<|ag Y<|dn<|sr<|mv Y<|lV Y Y Y<|lE h λx6 h6 h=>ad _ Y Y (UK.add (a:=x0) (b:=c0) h6)<|ag Y<|dn<|sr<|mv Y<|lE h λx8 h8 h=>RT.shr .none _ Y Y T (by decide) (ED (k:=.u64) (a:=x6) (q:=32) (s:=32) Y h8)<|RT.pX (cells:=[_]) .none (s:=.sv _) Y Y Y T Y<|dn<|sr<|mv Y<|lE h λeY iO h=>cv _ Y (UK.nat iO)<|ag Y ?_;refine dn<|bf ?_;obtain rfl:=O h;exact⟨.inr Y,gE (.tmp Y (.nil)) au,Y⟩
theorem cG{x0:List Nat}{r:List Nat}(h:bz x0=some r):Pure ah 144 [slc 1 (List.map aY x0)] (slc 1 (List.map aY r)):=by
 refine bD Tryz.func144 Y (af Y) (λeI M vs hvs=>?_);unfold bz at h;refine sr<|aI Y (aB (n:=1) (e:=aY))<|dn<|qq<|bE h λOe EV As=>?_;refine bU (λ(BJ:(List Nat))=>AS.cL 21 [(0,.sv (slc 1 (List.map aY BJ)))] [] []) (λBJ=>BJ=Oe) ?_ (λBJ EW=>?_);refine bj ?_;refine bV EV (λEO=>AS.cL 21 [(0,.sv (slc 1 (List.map aY EO)))] [] []) (wR []) (λAp y10 G10 h EX BO=>?_)
 try dsimp only
 refine qq<|qq ?_;refine bH h (λMg=>AS.cL 21 [(0,.sv (slc 1 (List.map aY Ap))),(14,aj Mg)] [] []) (λh=>?_) (λBI h=>?_);refine aW<|mv Y<|lE h λx4 h4 h=>ln Y h4<|lE h λx5 h5 h=>gt _ Y Y h5<|mv Y<|bE h λyR ey h=>?_;cases x5;obtain rfl:=O (F ey);exact ww<|ww<|ww<|ww<|ww<|ww<|ww<|pF Y<|dn<|⟨false,h,wR []⟩;refine gm Y<|gm Y<|lE (V ey) λx9 h9 ey=>gn Y h9<|lE ey λeY iO ey=>RT.sub (.some Y Y) _ Y Y T iO<|bE ey λjC qH ey=>RT.Ro (.some Y Y) Y Y T qH<|gr Y Y<|lE ey λjv lK ey=>ZA _ Y Y (eqN (p:=jC) (q:=0) lK) ?_;obtain rfl:=O ey;exact pT Y<|dn<|⟨jv,h,wR []⟩
 try dsimp only
 refine aV.n ?_;cases BI;refine cF<|b9<|aV.x<|aV.x<|bG.x<|aV.n ?_;obtain rfl:=O (F h);exact⟨Ap,BO _ Y,wR []⟩;refine cT<|bC<|aV.n<|bj<|aW<|mv Y<|mv Y<|lE (V h) λgW nL h=>ln Y nL<|lE h λgX lM h=>sb _ Y Y lM<|bE h λmm n7 h=>RT.Jn .none 0 gX Y Y ⟨_,Y⟩ T n7<|ag Y<|RT.done<|bG.n ?_;obtain rfl:=O h;exact aV.n ⟨mm,EX _ Y,wR []⟩;subst EW
 try dsimp only
 refine aV.n<|sr<|mv Y<|ag Y<|dn<|bf ?_;obtain rfl:=O As;exact R1 Y
abbrev ax:SV:=slc 1 (List.map aY [])
theorem jL{x0:Bool}{x1:Nat}(N:Nat){r:Zr}(h:fy x0 x1=some r):cP ah 137 N [az x0,.v (.int .u64 ((x1:Nat):Int))] (.agg ((fZ N) r)):=by
 refine bB Tryz.func137 Y (af Y) (λeI M vs hN hvs=>?_);unfold fy at h;refine sr<|al (cs:=[az false,nw N ax]) (by exact⟨au,bk,aq⟩) Y<|dn<|qq<|bj<|sr<|mv Y<|lE h λx7 h7 h=>eq _ Y Y (eqN (p:=x1) (q:=0) h7)<|ag Y<|dn ?_;cases x7;refine cF<|sr<|mv Y<|lE (F h) λjC qH h=>RT.shr .none _ Y Y T (by decide) (ED (k:=.u64) (a:=x1) (q:=32) (s:=32) Y qH)<|lE h λeX iz h=>eq _ Y Y (eqN (p:=jC) (q:=0) iz)<|ag Y<|dn ?_;cases eX;refine cF<|bC<|bG.n<|aV.n<|sr<|mv Y<|mv Y<|lE (F h) λja o5 h=>cv _ Y (UK.nat o5)<|mv Y<|lE h λkq qJ h=>RT.shr .none _ Y Y T (by decide) (ED (k:=.u64) (a:=x1) (q:=32) (s:=32) Y qJ)<|lE h λku sZ h=>cv _ Y (UK.nat sZ)<|RT.xC (l:=[ja,ku]) (e:=aY) .none hN (.one Y (.one Y (.nil))) T Y Y Y Y Y Y<|bI (cs:=[_,_]) (cs':=[az x0,nw N (slc 1 (List.map aY [ja,ku]))]) (.one Y (.one Y (.nil))) ⟨au,au,aq⟩ ?_;refine so Y Y Y<|dn<|bf ?_;obtain rfl:=O h;exact RZ (.agg Y Y (.k2 Y Y) Y (.nil));refine cT<|sr<|mv Y<|mv Y<|lE (V h) λe9 jB h=>cv _ Y (UK.nat jB)<|RT.xC (l:=[e9]) (e:=aY) .none hN (.one Y (.nil)) T Y Y Y Y Y Y<|bI (cs:=[_,_]) (cs':=[az x0,nw N (slc 1 (List.map aY [e9]))]) (.one Y (.one Y (.nil))) ⟨au,au,aq⟩<|so Y Y Y<|dn<|bf<|bG.r<|aV.r ?_;obtain rfl:=O h
 exact RZ (.agg Y Y (.k2 Y Y) Y (.nil));refine cT<|sr<|bI (cs:=[_,_]) (cs':=[az false,nw N ax]) (.nil) ⟨au,bk,aq⟩<|so Y Y Y<|dn<|bf<|bG.r<|aV.r ?_;obtain rfl:=O (V h);exact RZ (.agg Y Y (.k2 Y Y) Y (.nil))
theorem iQ{x0:List Nat}{r:Nat}(h:dU x0=some r):Pure ah 162 [slc 1 (List.map aY x0)] (.v (.int .u64 ((r:Nat):Int))):=by
 refine bD Tryz.func162 Y (af Y) (λeI M vs hvs=>?_);unfold dU at h;refine sr<|ag Y<|dn<|qq<|sr<|mv Y<|lE h λx4 h4 h=>ln Y h4<|dn<|bj<|sr<|lE h λx6 h6 h=>eq _ Y Y (xg (p:=x4) (q:=0) h6)<|ag Y<|dn ?_;cases x6;refine cF<|sr<|lE (F h) λx8 h8 h=>eq _ Y Y (xg (p:=x4) (q:=1) h8)<|ag Y<|dn ?_;cases x8;refine cF<|bC<|bG.n<|aV.n<|qq<|bh mixed<|mv Y<|bE (F h) λga lB h=>ix Y Y lB<|lr Y Y<|lE h λjD n8 h=>cv _ Y (UK.nat n8)<|mv Y<|bE h λgX lM h=>ix Y Y lM<|lr Y Y<|lE h λja o5 h=>cv _ Y (UK.nat o5)<|lE h λiv o6 h=>RT.shl .none _ Y Y T (by decide) (UK.shl (a:=ja) (q:=32) (s:=32) Y o6)<|lE h λkq qJ h=>RT.or .none _ Y Y T (UK.or (a:=jD) (b:=iv) qJ) ?_;refine ag Y ?_;refine RT.done ⟨by kernel_rfl,?_⟩;refine aV.n<|bf ?_;obtain rfl:=O h;exact R1 Y;refine cT<|sr<|mv Y<|bE (V h) λeY iO h=>ix Y Y iO<|lr Y Y<|lE h λeX iz h=>cv _ Y (UK.nat iz)<|ag Y<|dn<|bf<|bG.r<|aV.r ?_;obtain rfl:=O h;exact R1 Y;refine cT<|sr<|ag Y<|dn<|bf<|bG.r<|aV.r ?_;obtain rfl:=O (V h);exact R1 Y
theorem gG{x0:List Nat}{x1:List Nat}{r:Int}(h:c8 x0 x1=some r):Pure ah 161 [slc 1 (List.map aY x0),slc 1 (List.map aY x1)] (ay r):=by
 refine bD Tryz.func161 Y (af Y) (λeI M vs hvs=>?_);unfold c8 at h;refine sr<|ag Y<|dn<|qq<|sr<|mv Y<|lE h λx7 h7 h=>ln Y h7<|mv Y<|lE h λx9 h9 h=>ln Y h9<|lE h λeY iO h=>ne _ Y Y (IX (p:=x7) (q:=x9) iO)<|dn ?_;cases eY;refine fs<|qq<|sr<|mv Y<|lE (F h) λgW nL h=>ln Y nL<|lE h λgX lM h=>sb _ Y Y lM<|ag Y<|dn<|bE h λe6 Di nx=>?_;refine bU (λ(EY:Unit)=>AS.cL 41 [] [] []) (λEY=>.inl EY=e6) ?_ (λEY Dj=>?_);refine bj ?_;refine bV Di (λs6=>AS.cL 41 [(0,.sv (slc 1 (List.map aY x0))),(1,.sv (slc 1 (List.map aY x1))),(5,ai s6)] [] []) (wR []) (λr9 y6 G6 h Dk yW=>?_)
 try dsimp only
 refine qq<|sr<|mv Y<|lE h λja o5 h=>ge _ Y Y o5<|dn ?_;cases ja;refine cF<|b9<|aV.x<|aV.x<|bG.x<|aV.n ?_;obtain rfl:=O (F h);exact⟨(),yW _ Y,wR []⟩;refine cT<|bC<|aV.n<|qq<|bj<|qq<|bh mixed<|mv Y<|mv Y<|bE (V h) λvi wD h=>ix Y Y wD<|lr Y Y<|mv Y<|mv Y<|bE h λjq nW h=>ix Y Y nW<|lr Y Y<|lE h λrE CX h=>ne _ Y Y (neN (p:=vi) (q:=jq) CX) ?_;refine RT.done ⟨by kernel_rfl,?_⟩;refine aV.n ?_;cases rE;refine cF<|bC<|bG.n<|aV.n<|aW<|mv Y<|lE (F h) λkq qJ h=>sb _ Y Y qJ<|ag Y<|RT.done ?_;obtain rfl:=O h;exact aV.n ⟨kq,Dk _ Y,wR []⟩;refine cT<|qq<|qq<|bh mixed<|mv Y<|mv Y<|bE (V h) λoq uS h=>ix Y Y uS<|lr Y Y<|mv Y<|mv Y<|bE h λzW Jy h=>ix Y Y Jy<|lr Y Y<|lE h λmX sx h=>ls _ Y Y (ltN (p:=oq) (q:=zW) sx) ?_;refine RT.done ⟨by kernel_rfl,?_⟩;refine aV.n ?_;cases mX;refine fs<|sr<|ag Y<|dn<|bf<|bG.r<|aV.r ?_;obtain rfl:=O (F h);have Of:=yW _ Y;subst Of;refine aV.r<|bG.r<|aV.r<|aV.r ?_;obtain rfl:=O nx;exact R1 Y;refine cT<|sr<|ag Y<|dn<|bf<|aV.r<|bG.r<|aV.r ?_;obtain rfl:=O (V h);have Of:=yW _ Y;subst Of;refine aV.r<|bG.r<|aV.r<|aV.r ?_;obtain rfl:=O nx;exact R1 Y;subst Dj
 try dsimp only
 refine aV.n<|sr<|ag Y<|dn<|bf ?_;obtain rfl:=O nx;exact R1 Y;refine cT<|qq<|sr<|mv Y<|lE (V h) λeX iz h=>ln Y iz<|mv Y<|lE h λga lB h=>ln Y lB<|lE h λe9 jB h=>ls _ Y Y jB<|dn ?_;cases e9;refine fs<|sr<|ag Y<|dn<|bf<|aV.r ?_;obtain rfl:=O (F h);exact R1 Y;refine cT<|sr<|ag Y<|dn<|bf<|aV.r<|aV.r ?_;obtain rfl:=O (V h);exact R1 Y
theorem pK{x0:List Nat}{x1:List Nat}(N:Nat){r:List Nat}(h:fk x0 x1=some r):cP ah 194 N [slc 1 (List.map aY x0),slc 1 (List.map aY x1)] (nw N (slc 1 (List.map aY r))):=by
 refine bB Tryz.func194 Y (af Y) (λeI M vs hN hvs=>?_);unfold fk at h;refine sr<|aI Y (bk (N:=N) (n:=1) (e:=aY))<|dn<|sr<|mv Y<|lE h λeY iO h=>ln Y iO<|mv Y<|lE h λeX iz h=>ln Y iz<|lE h λjv lK h=>RT.max .none _ Y Y T (NK (p:=eY) (q:=eX) lK)<|lE h λga lB h=>ad _ Y Y lB<|bE h λe9 jB h=>RT.DN (e:=aY) .none Y Y T Y T jB<|RT.alloc .none T Y Y<|RT.nI (cells:=[_]) .none Y Y Y Y T Y<|dn<|sr ?_;refine RT.By .none (fm 0) Y ⟨Y,aq⟩ T Y Y<|RT.alloc .none T Y Y<|RT.pX (cells:=[_]) .none (s:=.gI _ _) Y Y Y T Y<|dn<|qq<|sr<|mv Y<|mv Y<|cl (sX x0 x1) ⟨Y,Y,aq⟩<|dn<|bj<|bE h λe7 hl7 VN=>?_;obtain⟨VO,hs7,ht7,hn7⟩:=om hl7
 refine lI (sY x0 x1) (λ_ _ _ _ _=>trivial) Y (λk=>AS.cL 35 [(5,.ptr 5 0),(6,.ptr 6 0),(19,.sv (jA 214 [ref [slc 1 (List.map aY x0)],ref [slc 1 (List.map aY x1)]]))] [(6,⟨186,[.gI 202 [.box 16]]⟩),(16,⟨128,[.sv (.v (.int .u64 (((VO k).1:Nat):Int)))]⟩),(5,⟨39,[.row 302]⟩)] [(302,TR 130 1 aY (VO k).2)]) [6,16,5] Y (λ_=>⟨Y,Y⟩) (sK Y) (λ_=>Y) (sL Y) (by(try dsimp only);rw[hs7];(try dsimp only);exact dD (λi=>bif Nat.beq i 302 then 15 else i) Y Y Y Y Y ⟨.ptr,.ptr,.sv au,aq⟩ ⟨⟨_,Y,⟨.gI,aq⟩⟩,⟨_,Y,⟨.sv au,aq⟩⟩,⟨_,Y,⟨.row Y,aq⟩⟩,aq⟩ ⟨⟨_,Y,cj.refl _⟩,aq⟩ (λi hi=>by rw[cg (show i≠302 by omega)];rfl)) (λk hk D hD=>?_) ?_;have h:=ht7 k hk;obtain⟨sk,RK⟩:∃q,VO k=q:=⟨_,Y⟩;rw[RK]at h⊢;obtain⟨xD,jJ⟩:=sk;dsimp only[AS.QO,sJ]
 try dsimp only at h
 refine lE h λp20 Og h=>?_;rw[Og];refine lE h λp21 aeS h=>?_;rw[aeS];refine sr<|ag Y<|dn<|aW<|ag Y<|RT.done ?_;refine aV.n ⟨Y,?_⟩;dsimp only[AS.Da];refine bj<|bh mixed<|RT.eU .none (s:=.row _) Y Y Y T<|RT.eU .none (s:=.gI _ _) Y Y Y T<|mv Y<|mv Y<|lE h λmH vp h=>ad _ Y Y (UK.add (a:=p20) (b:=p21) vp) ?_;obtain⟨⟨nn,k9⟩,vr,h⟩:=bS h;refine cB (cA vr) 16 Y ⟨Y,aq⟩<|bl (l:=[nn]) (e:=aY) (.one Y (.nil)) Y Y Y Y Y Y<|bE h λjq nW h=>aR (k:=[nn]) (e:=aY) Y Y Y nW<|RT.nI (cells:=[_]) .none Y Y Y Y T Y ?_;refine RT.done ⟨by kernel_rfl,?_⟩;refine bG.n ?_;replace h:=Option.some.inj h;refine⟨aq,Y,Y,?_⟩
 try dsimp only
 rw[<-h]
 try dsimp only
 exact dD (λi=>bif Nat.beq i 302 then 29 else i) Y Y Y Y Y ⟨.ptr,.ptr,.sv au,aq⟩ ⟨⟨_,Y,⟨.gI,aq⟩⟩,⟨_,Y,⟨.sv au,aq⟩⟩,⟨_,Y,⟨.row Y,aq⟩⟩,aq⟩ ⟨⟨_,Y,cj.refl _⟩,aq⟩ (λi hi=>by rw[cg (show i≠302 by omega)];rfl);rw[hn7];obtain⟨xD,jJ⟩:=e7
 try dsimp only
 refine bG.n<|aV.n<|qq<|bh mixed<|RT.eU .none (s:=.row _) Y Y Y T<|RT.eU .none (s:=.gI _ _) Y Y Y T ?_;obtain⟨⟨kp,k11⟩,qo,VN⟩:=bS VN;refine cB (cA qo) 16 Y ⟨Y,aq⟩<|bl (l:=[kp]) (e:=aY) (.one Y (.nil)) Y Y Y Y Y Y<|bE VN λoq uS VN=>RT.ZE (k:=[kp]) (e:=aY) .none hN (λ_ h=>h) Y Y Y T Y T uS<|ag Y ?_;refine RT.done ⟨by kernel_rfl,?_⟩;refine aV.n<|bf ?_;obtain rfl:=O VN;exact R1 Y
theorem lN{x0:List Nat}{x1:List Nat}(N:Nat){r:List Nat}(h:dy x0 x1=some r):cP ah 195 N [slc 1 (List.map aY x0),slc 1 (List.map aY x1)] (nw N (slc 1 (List.map aY r))):=by
 refine bB Tryz.func195 Y (af Y) (λeI M vs hN hvs=>?_);unfold dy at h;refine sr<|aI Y (bk (N:=N) (n:=1) (e:=aY))<|dn<|sr<|mv Y<|lE h λeY iO h=>ln Y iO<|bE h λjC qH h=>RT.DN (e:=aY) .none Y Y T Y T qH<|RT.alloc .none T Y Y<|RT.nI (cells:=[_]) .none Y Y Y Y T Y<|dn<|sr<|RT.By .none (fm 1) Y ⟨Y,aq⟩ T Y Y<|RT.alloc .none T Y Y<|RT.pX (cells:=[_]) .none (s:=.gI _ _) Y Y Y T Y<|dn<|qq<|sr<|mv Y ?_;refine mv Y<|cl (sX x0 x1) ⟨Y,Y,aq⟩<|dn<|bj<|bE h λe7 hl7 VN=>?_;obtain⟨VO,hs7,ht7,hn7⟩:=om hl7;refine lI (sY x0 x1) (λ_ _ _ _ _=>trivial) Y (λk=>AS.cL 28 [(5,.ptr 5 0),(6,.ptr 6 0),(15,.sv (jA 214 [ref [slc 1 (List.map aY x0)],ref [slc 1 (List.map aY x1)]]))] [(6,⟨186,[.gI 202 [.box 12]]⟩),(12,⟨128,[.sv (.v (.int .u64 (((VO k).1:Nat):Int)))]⟩),(5,⟨39,[.row 302]⟩)] [(302,TR 130 1 aY (VO k).2)]) [6,12,5] Y (λ_=>⟨Y,Y⟩) (sK Y) (λ_=>Y) (sL Y) (by(try dsimp only);rw[hs7];(try dsimp only);exact dD (λi=>bif Nat.beq i 302 then 11 else i) Y Y Y Y Y ⟨.ptr,.ptr,.sv au,aq⟩ ⟨⟨_,Y,⟨.gI,aq⟩⟩,⟨_,Y,⟨.sv au,aq⟩⟩,⟨_,Y,⟨.row Y,aq⟩⟩,aq⟩ ⟨⟨_,Y,cj.refl _⟩,aq⟩ (λi hi=>by rw[cg (show i≠302 by omega)];rfl)) (λk hk D hD=>?_) ?_;have h:=ht7 k hk;obtain⟨sk,RK⟩:∃q,VO k=q:=⟨_,Y⟩;rw[RK]at h⊢;obtain⟨AU,jJ⟩:=sk
 dsimp only[AS.QO,sJ]
 try dsimp only at h
 refine lE h λp16 aeT h=>?_;rw[aeT];refine lE h λp17 aeU h=>?_;rw[aeU];refine sr<|ag Y<|dn<|aW<|ag Y<|RT.done ?_;refine aV.n ⟨Y,?_⟩;dsimp only[AS.Da];refine bj<|bh mixed<|RT.eU .none (s:=.row _) Y Y Y T<|RT.eU .none (s:=.gI _ _) Y Y Y T<|mv Y<|mv Y<|lE h λkq qJ h=>sb _ Y Y (UK.sub (a:=4294967295) (b:=p17) qJ)<|lE h λku sZ h=>ad _ Y Y (UK.add (a:=p16) (b:=kq) sZ) ?_;obtain⟨⟨jE,k9⟩,qp,h⟩:=bS h;refine cB (cA qp) 12 Y ⟨Y,aq⟩<|bl (l:=[jE]) (e:=aY) (.one Y (.nil)) Y Y Y Y Y Y<|bE h λmH vp h=>aR (k:=[jE]) (e:=aY) Y Y Y vp<|RT.nI (cells:=[_]) .none Y Y Y Y T Y ?_;refine RT.done ⟨by kernel_rfl,?_⟩;refine bG.n ?_;replace h:=Option.some.inj h;refine⟨aq,Y,Y,?_⟩
 try dsimp only
 rw[<-h]
 try dsimp only
 exact dD (λi=>bif Nat.beq i 302 then 26 else i) Y Y Y Y Y ⟨.ptr,.ptr,.sv au,aq⟩ ⟨⟨_,Y,⟨.gI,aq⟩⟩,⟨_,Y,⟨.sv au,aq⟩⟩,⟨_,Y,⟨.row Y,aq⟩⟩,aq⟩ ⟨⟨_,Y,cj.refl _⟩,aq⟩ (λi hi=>by rw[cg (show i≠302 by omega)];rfl);rw[hn7];obtain⟨AU,jJ⟩:=e7
 try dsimp only
 refine bG.n<|aV.n<|sr<|RT.eU .none (s:=.row _) Y Y Y T<|an (s:=.row _) Y<|dn<|ic (i:=302) (E1:=130) (n:=1) (e:=aY) (l:=jJ) hN (λ_ h=>h) Y<|bf ?_;obtain rfl:=O VN;exact R1 Y
theorem xK{x0:List Nat}{x1:List Nat}(N:Nat){r:List Nat}(h:gz x0 x1=some r):cP ah 164 N [slc 1 (List.map aY x0),slc 1 (List.map aY x1)] (nw N (slc 1 (List.map aY r))):=by
 refine bB Tryz.func164 Y (af Y) (λeI M vs hN hvs=>?_);unfold gz at h;refine sr<|aI Y (bk (N:=N) (n:=1) (e:=aY))<|dn<|sr<|mv Y<|lE h λeX iz h=>ln Y iz<|mv Y<|lE h λga lB h=>ln Y lB<|lE h λe9 jB h=>ad _ Y Y jB<|bE h λjD n8 h=>RT.oA (n:=1) (e:=aY) .none Y Y T Y T (by rfl) (by decide) (by exact⟨au,aq⟩) n8<|an (s:=.row _) Y<|dn<|qq<|sr<|mv Y<|lE h λgX lM h=>ln Y lM ?_;refine mv Y<|dn<|bE h λe28 aeV aeW=>?_;refine bU (λ(wz:(List Nat))=>AS.cL 63 [(5,.row 16)] [] [(16,TR 130 1 aY wz)]) (λwz=>wz=e28) ?_ (λwz aeX=>?_);refine bj ?_;refine bV aeV (λYH=>AS.cL 63 [(1,.sv (slc 1 (List.map aY x1))),(5,.row 16),(17,.sv (slc 1 (List.map aY x0))),(18,ai gX),(19,ai YH.1)] [] [(16,TR 130 1 aY YH.2)]) (wR []) (λYH y28 G28 h aeY aeZ=>?_);obtain⟨oB,EM⟩:=YH
 try dsimp only
 refine sr<|lE h λja o5 h=>ls _ Y Y o5<|dn<|qq ?_;cases ja;refine cF<|b9<|aV.x<|aV.x<|bG.x<|aV.n ?_;obtain rfl:=O (F h);exact⟨EM,aeZ _ Y,wR []⟩;refine cT<|bC<|aV.n<|qq<|bj<|sr<|mv Y<|bE (V h) λkq qJ h=>ix Y Y qJ<|lr Y Y<|ag Y<|ag Y<|dn<|sr<|RT.By .none (fm 0) Y ⟨Y,aq⟩ T Y Y<|an (s:=.gI _ _) Y<|dn<|qq<|sr<|mv Y<|lE h λmH vp h=>ln Y vp<|mv Y<|dn<|bE h λZF VP gY=>?_;refine bU (λ(Mh:Nat×(List Nat))=>AS.cL 63 [(1,.sv (slc 1 (List.map aY x1))),(5,.row 16),(6,ai oB),(8,.gI 202 [.box 24]),(17,.sv (slc 1 (List.map aY x0))),(18,ai gX),(19,ai oB)] [(24,⟨128,[.sv (.v (.int .u64 ((Mh.1:Nat):Int)))]⟩)] [(16,TR 130 1 aY Mh.2)]) (λMh=>Mh=ZF) ?_ (λMh VQ=>?_);refine bj ?_;refine bV VP (λKQ=>AS.cL 63 [(1,.sv (slc 1 (List.map aY x1))),(5,.row 16),(6,ai oB),(7,.sv (.v (.int .u32 ((kq:Nat):Int)))),(8,.gI 202 [.box 24]),(17,.sv (slc 1 (List.map aY x0))),(18,ai gX),(19,ai oB),(25,.sv (slc 1 (List.map aY x1))),(26,ai mH),(27,ai KQ.1)] [(24,⟨128,[.sv (.v (.int .u64 ((KQ.2.1:Nat):Int)))]⟩)] [(16,TR 130 1 aY KQ.2.2)]) (wR []) (λKQ y38 G38 h VR VS=>?_);obtain⟨yS,xE,wh⟩:=KQ
 try dsimp only
 refine sr<|lE h λoY wE h=>ls _ Y Y wE<|dn<|qq ?_;cases oY;refine cF<|b9<|aV.x<|aV.x<|bG.x<|aV.n ?_;obtain rfl:=O (F h);exact⟨(xE,wh),VS _ Y,wR []⟩;refine cT<|bC<|aV.n<|qq<|bj<|sr<|mv Y<|bE (V h) λvk BP h=>ix Y Y BP<|lr Y Y<|ag Y<|ag Y<|dn<|aW<|mo (s:=.row _) Y<|mv Y<|mv Y<|lE h λot yX h=>ad _ Y Y yX<|mo (s:=.gI _ _) Y<|mo (s:=.row _) Y<|mv Y<|mv Y<|lE h λmX sx h=>ad _ Y Y sx<|bE h λwj G0 h=>iR Y Y Y G0 ?_;refine bE h λqm BQ h=>lR Y Y BQ Y<|lE h λsS DW h=>cv _ Y (UK.nat DW)<|mv Y<|lE h λyz Jz h=>cv _ Y (UK.nat Jz)<|mv Y<|lE h λwm BR h=>cv _ Y (UK.nat BR)<|lE h λsu h48 h=>RT.mul .none _ Y Y T (UK.mul (a:=yz) (b:=wm) h48)<|lE h λI0 Oh h=>ad _ Y Y (UK.add (a:=sS) (b:=su) Oh) ?_;obtain⟨⟨si,k41⟩,EZ,h⟩:=bS h;refine cB (cA EZ) 24 Y ⟨Y,aq⟩<|bE h λGM Mi h=>iR Y Y Y Mi<|bE h λTr Oi h=>sR si Y Y Y Y Oi<|RT.done<|bG.n<|aV.n<|aW<|lE h λwv Dl h=>ad _ Y Y Dl<|mv Y<|RT.done ?_;obtain rfl:=O h;exact aV.n ⟨(wv,k41,Tr),VR _ Y,wR []⟩;subst VQ;obtain⟨GN,Jo⟩:=Mh
 try dsimp only
 refine aV.n<|aW<|mo (s:=.row _) Y<|mv Y<|mv Y<|lE gY λDf G3 gY=>ln Y G3<|lE gY λRF Z1 gY=>ad _ Y Y Z1<|mo (s:=.gI _ _) Y ?_;obtain⟨⟨L4,k45⟩,VT,gY⟩:=bS gY;refine cB (cA VT) 24 Y ⟨Y,aq⟩<|bE gY λGc Oj gY=>iR Y Y Y Oj<|bE gY λl46 Z2 gY=>sR L4 Y Y Y Y Z2<|RT.done<|bG.n<|aV.n<|aW<|lE gY λGe Ol gY=>ad _ Y Y Ol<|mv Y<|RT.done ?_;obtain rfl:=O gY;exact aV.n ⟨(Ge,l46),aeY _ Y,wR []⟩;subst aeX
 try dsimp only
 refine aV.n<|sr<|mo (s:=.row _) Y<|an (s:=.row _) Y<|dn<|ic (i:=16) (E1:=130) (n:=1) (e:=aY) (l:=wz) hN (λ_ h=>h) Y<|bf ?_;obtain rfl:=O aeW;exact R1 Y
end
section
open Go.Fw Go.Fw.Z Go.RowKit
theorem xL{x0:List Nat}{x1:Nat}{r:Nat×List Nat}(h:iw x0 x1=some r):Jg ah 204 [.row 1000,.sv (.v (.int .u64 ((x1:Nat):Int)))] (TR 130 1 aY x0) (.sv (.v (.int .u64 ((r.1:Nat):Int)))) (List.flatMap aY r.2):=by
 refine vX Tryz.func204 Y (af Y) Y Y (λeI M v0=>?_);unfold iw at h;refine sr<|ag Y<|dn<|sr<|ag Y<|dn<|qq<|sr<|mo (s:=.row _) Y<|lE h λx9 h9 h=>lL Y Y h9<|lE h λeY iO h=>sb _ Y Y iO<|ag Y<|dn<|bE h λe8 JA At=>?_;refine bU (λ(DX:Nat×(List Nat))=>AS.cL 34 [(5,.sv (.v (.int .u64 ((DX.1:Nat):Int))))] [] [(1000,TR 130 1 aY DX.2)]) (λDX=>DX=e8) ?_ (λDX JB=>?_);refine bj ?_;refine bV JA (λs8=>AS.cL 34 [(0,.row 1000),(1,.sv (.v (.int .u64 ((x1:Nat):Int)))),(5,.sv (.v (.int .u64 ((s8.1:Nat):Int)))),(6,ai s8.2.1)] [] [(1000,TR 130 1 aY s8.2.2)]) (wR []) (λs8 y8 G8 h JC JD=>?_);obtain⟨NW,NX,rG⟩:=s8
 try dsimp only
 refine qq<|sr<|mv Y<|lE h λeX iz h=>ge _ Y Y iz<|dn ?_;cases eX;refine cF<|b9<|aV.x<|aV.x<|bG.x<|aV.n ?_;obtain rfl:=O (F h);exact⟨(NW,rG),JD _ Y,wR []⟩;refine cT<|bC<|aV.n<|qq<|bj<|sr<|mv Y<|lE (V h) λjD n8 h=>RT.shl .none _ Y Y T (by decide) (UK.shl (a:=NW) (q:=32) (s:=32) Y n8)<|mo (s:=.row _) Y<|mv Y<|bE h λmm n7 h=>iR Y Y Y n7<|bE h λja o5 h=>lR Y Y o5 Y<|lE h λiv o6 h=>cv _ Y (UK.nat o6)<|lE h λkq qJ h=>RT.or .none _ Y Y T (UK.or (a:=jD) (b:=iv) qJ)<|ag Y<|dn<|sr<|mo (s:=.row _) Y ?_;refine mv Y<|mv Y<|mv Y<|bE h λnn vr h=>RT.quo .none _ Y Y T (nzU vr) (UK.quo vr)<|lE h λoY wE h=>cv _ Y (UK.nat wE)<|bE h λjq nW h=>iR Y Y Y nW<|bE h λAq s9 h=>sR oY Y Y Y Y s9<|dn<|aW<|mv Y<|mv Y<|bE h λkp qo h=>RT.rem .none _ Y Y T (nzR qo) (Rn qo)<|ag Y<|RT.done<|bG.n<|aV.n<|aW<|mv Y<|lE h λga lB h=>sb _ Y Y lB ?_;refine ag Y<|RT.done ?_;obtain rfl:=O h;exact aV.n ⟨(kp,ga,Aq),JC _ Y,wR []⟩;subst JB;obtain⟨ZG,AW⟩:=DX
 try dsimp only
 refine aV.n<|sr<|mv Y<|ag Y<|dn<|bf<|bE At λ_ hle At=>?_;obtain rfl:=O At;exact⟨.inr Y,.sv (gE (.tmp Y (.nil)) au),(by show _=lA.live ⟨130,1,x0.length,List.flatMap aY AW⟩;rw[<-mG hle];rfl)⟩
theorem wF{x0:List Nat}{x1:Nat}{r:List Nat}(h:fO x0 x1=some r):Pure ah 211 [slc 1 (List.map aY x0),.v (.int .u64 ((x1:Nat):Int))] (slc 1 (List.map aY r)):=by
 refine bD Tryz.func211 Y (af Y) (λeI M vs hvs=>?_);unfold fO at h;refine sr<|aI Y (aB (n:=1) (e:=aY))<|dn<|sr<|RT.By .none (fm 0) Y ⟨Y,aq⟩ T Y Y<|an (s:=.gI _ _) Y<|dn<|sr<|mv Y<|lE h λjC qH h=>ln Y qH<|lE h λeX iz h=>ad _ Y Y iz<|bE h λjv lK h=>RT.DN (e:=aY) .none Y Y T Y T lK<|an (s:=.row _) Y<|dn<|qq<|sr<|mv Y<|lE h λe9 jB h=>ln Y jB ?_;refine mv Y<|dn<|bE h λe8 JA At=>?_;refine bU (λ(DX:Nat×(List Nat))=>AS.cL 35 [(5,.gI 202 [.box 9]),(6,.row 302)] [(9,⟨128,[.sv (.v (.int .u64 ((DX.1:Nat):Int)))]⟩)] [(302,TR 130 1 aY DX.2)]) (λDX=>DX=e8) ?_ (λDX JB=>?_);refine bj ?_;refine bV JA (λs8=>AS.cL 35 [(1,.sv (.v (.int .u64 ((x1:Nat):Int)))),(5,.gI 202 [.box 9]),(6,.row 302),(14,.sv (slc 1 (List.map aY x0))),(15,ai e9),(16,ai s8.1)] [(9,⟨128,[.sv (.v (.int .u64 ((s8.2.1:Nat):Int)))]⟩)] [(302,TR 130 1 aY s8.2.2)]) (dD (λi=>bif Nat.beq i 302 then 13 else i) Y Y Y Y Y ⟨.sv au,.gI,.row Y,.sv au,.sv au,.sv au,aq⟩ ⟨⟨_,Y,⟨.sv au,aq⟩⟩,aq⟩ ⟨⟨_,Y,cj.refl _⟩,aq⟩ (λi hi=>by rw[cg (show i≠302 by omega)];rfl)) (λs8 y8 G8 h JC JD=>?_);obtain⟨xF,rH,jJ⟩:=s8
 try dsimp only
 refine sr<|lE h λgW nL h=>ls _ Y Y nL<|dn<|qq ?_;cases gW;refine cF<|b9<|aV.x<|aV.x<|bG.x<|aV.n ?_;obtain rfl:=O (F h);exact⟨(rH,jJ),JD _ Y,wR []⟩;refine cT<|bC<|aV.n<|qq<|bj<|sr<|bE (V h) λgX lM h=>ix Y Y lM<|lr Y Y<|ag Y<|dn<|aW<|mo (s:=.row _) Y<|mo (s:=.gI _ _) Y<|mv Y<|lE h λku sZ h=>cv _ Y (UK.nat sZ)<|mv Y<|lE h λvi wD h=>RT.shl .none _ Y Y T (Int.natCast_nonneg _) (UK.shl (a:=ku) (q:=((x1:Nat):Int)) (s:=min x1 64) Y wD) ?_;obtain⟨⟨mH,VG⟩,vp,h⟩:=bS h;refine cB (cA vp) 9 Y ⟨Y,aq⟩<|bl (l:=[mH]) (e:=aY) (.one Y (.nil)) Y Y Y Y Y Y<|bE h λoY wE h=>aR (k:=[mH]) (e:=aY) Y Y Y wE<|an (s:=.row _) Y<|RT.done<|bG.n<|aV.n<|aW<|lE h λjq nW h=>ad _ Y Y nW<|mv Y<|RT.done ?_;obtain rfl:=O h;exact aV.n ⟨(jq,VG,oY),JC _ Y,dD (λi=>bif Nat.beq i 302 then 28 else i) Y Y Y Y Y ⟨.sv au,.gI,.row Y,.sv au,.sv au,.sv au,aq⟩ ⟨⟨_,Y,⟨.sv au,aq⟩⟩,aq⟩ ⟨⟨_,Y,cj.refl _⟩,aq⟩ (λi hi=>by rw[cg (show i≠302 by omega)];rfl)⟩;subst JB;obtain⟨BK,NY⟩:=DX
 try dsimp only
 refine aV.n<|sr<|mo (s:=.row _) Y<|mo (s:=.gI _ _) Y ?_;obtain⟨⟨kp,k12⟩,qo,At⟩:=bS At;refine cB (cA qo) 9 Y ⟨Y,aq⟩<|bl (l:=[kp]) (e:=aY) (.one Y (.nil)) Y Y Y Y Y Y<|bE At λoq uS At=>RT.aen (k:=[kp]) (e:=aY) .none Y Y Y T Y T uS<|ag Y<|dn<|bf ?_;obtain rfl:=O At;exact R1 Y
theorem uT{x0:List Nat}{x1:Nat}{r:List Nat}(h:iP x0 x1=some r):LX ah 211 [slc 1 (List.map aY x0),.v (.int .u64 ((x1:Nat):Int))] (TR 130 1 aY r):=by
 refine Bx Tryz.func211 Y (af Y) (λeI M vs hvs=>?_);unfold iP at h;refine sr<|ag Y<|dn<|cI (iZ 4 304 130 1 Y Y T)<|sr<|RT.By .none (fm 0) Y ⟨Y,aq⟩ T Y Y<|an (s:=.gI _ _) Y<|dn<|sr<|mv Y<|lE h λjC qH h=>ln Y qH<|lE h λeX iz h=>ad _ Y Y iz<|bE h λjv lK h=>RT.DN (e:=aY) .none Y Y T Y T lK<|an (s:=.row _) Y<|dn<|qq<|sr<|mv Y<|lE h λe9 jB h=>ln Y jB ?_;refine mv Y<|dn<|bE h λe8 JA At=>?_;refine bU (λ(DX:Nat×(List Nat))=>AS.cL 35 [(5,.gI 202 [.box 9]),(6,.row 306)] [(9,⟨128,[.sv (.v (.int .u64 ((DX.1:Nat):Int)))]⟩)] [(306,TR 130 1 aY DX.2)]) (λDX=>DX=e8) ?_ (λDX JB=>?_);refine bj ?_;refine bV JA (λs8=>AS.cL 35 [(1,.sv (.v (.int .u64 ((x1:Nat):Int)))),(5,.gI 202 [.box 9]),(6,.row 306),(14,.sv (slc 1 (List.map aY x0))),(15,ai e9),(16,ai s8.1)] [(9,⟨128,[.sv (.v (.int .u64 ((s8.2.1:Nat):Int)))]⟩)] [(306,TR 130 1 aY s8.2.2)]) (dD (λi=>bif Nat.beq i 306 then 13 else i) Y Y Y Y Y ⟨.sv au,.gI,.row Y,.sv au,.sv au,.sv au,aq⟩ ⟨⟨_,Y,⟨.sv au,aq⟩⟩,aq⟩ ⟨⟨_,Y,cj.refl _⟩,aq⟩ (λi hi=>by rw[cg (show i≠306 by omega)];rfl)) (λs8 y8 G8 h JC JD=>?_);obtain⟨xF,rH,EN⟩:=s8
 try dsimp only
 refine sr<|lE h λgW nL h=>ls _ Y Y nL<|dn<|qq ?_;cases gW;refine cF<|b9<|aV.x<|aV.x<|bG.x<|aV.n ?_;obtain rfl:=O (F h);exact⟨(rH,EN),JD _ Y,wR []⟩;refine cT<|bC<|aV.n<|qq<|bj<|sr<|bE (V h) λgX lM h=>ix Y Y lM<|lr Y Y<|ag Y<|dn<|aW<|mo (s:=.row _) Y<|mo (s:=.gI _ _) Y<|mv Y<|lE h λku sZ h=>cv _ Y (UK.nat sZ)<|mv Y<|lE h λvi wD h=>RT.shl .none _ Y Y T (Int.natCast_nonneg _) (UK.shl (a:=ku) (q:=((x1:Nat):Int)) (s:=min x1 64) Y wD) ?_;obtain⟨⟨mH,VG⟩,vp,h⟩:=bS h;refine cB (cA vp) 9 Y ⟨Y,aq⟩<|bl (l:=[mH]) (e:=aY) (.one Y (.nil)) Y Y Y Y Y Y<|bE h λoY wE h=>aR (k:=[mH]) (e:=aY) Y Y Y wE<|an (s:=.row _) Y<|RT.done<|bG.n<|aV.n<|aW<|lE h λjq nW h=>ad _ Y Y nW<|mv Y<|RT.done ?_;obtain rfl:=O h;exact aV.n ⟨(jq,VG,oY),JC _ Y,dD (λi=>bif Nat.beq i 306 then 28 else i) Y Y Y Y Y ⟨.sv au,.gI,.row Y,.sv au,.sv au,.sv au,aq⟩ ⟨⟨_,Y,⟨.sv au,aq⟩⟩,aq⟩ ⟨⟨_,Y,cj.refl _⟩,aq⟩ (λi hi=>by rw[cg (show i≠306 by omega)];rfl)⟩;subst JB;obtain⟨BK,NZ⟩:=DX
 try dsimp only
 refine aV.n<|sr<|mo (s:=.row _) Y<|mo (s:=.gI _ _) Y ?_;obtain⟨⟨kp,k12⟩,qo,At⟩:=bS At;refine cB (cA qo) 9 Y ⟨Y,aq⟩<|bl (l:=[kp]) (e:=aY) (.one Y (.nil)) Y Y Y Y Y Y<|bE At λoq uS At=>aR (k:=[kp]) (e:=aY) Y Y Y uS<|an (s:=.row _) Y<|dn<|bf ?_;obtain rfl:=O At;exact⟨.inr Y,_,.tmp Y,Y⟩
theorem wG{x0:Nat}{r:Int}(h:gO x0=some r):Pure ah 215 [.v (.int .u32 ((x0:Nat):Int))] (ay r):=by
 refine bD Tryz.func215 Y (af Y) (λeI M vs hvs=>?_);unfold gO at h;refine sr<|ag Y<|dn<|qq<|sr<|mv Y<|lE h λx4 h4 h=>ge _ Y Y (leN (p:=65536) (q:=x0) h4)<|dn ?_;refine bH h (λj2=>AS.cL 19 [(0,.sv (.v (.int .u32 ((j2.1:Nat):Int)))),(2,ai j2.2)] [] []) (λh=>?_) (λj2 h=>?_);cases x4;exact fs<|⟨(x0,0),(F h),wR []⟩;exact cT<|sr<|mv Y<|lE (V h) λx6 h6 h=>RT.shr .none _ Y Y T (by decide) (ED (k:=.u32) (a:=x0) (q:=16) (s:=16) Y h6)<|ag Y<|dn<|aW<|ag Y<|dn<|⟨(x6,16),h,wR []⟩;obtain⟨Jp,RG⟩:=j2
 try dsimp only
 refine aV.n<|qq<|sr<|mv Y<|lE h λx8 h8 h=>ge _ Y Y (leN (p:=256) (q:=Jp) h8)<|dn ?_;refine bH h (λj4=>AS.cL 19 [(0,.sv (.v (.int .u32 ((j4.1:Nat):Int)))),(2,ai j4.2)] [] []) (λh=>?_) (λj4 h=>?_);cases x8;exact fs<|⟨(Jp,RG),(F h),wR []⟩;exact cT<|sr<|mv Y<|lE (V h) λeY iO h=>RT.shr .none _ Y Y T (by decide) (ED (k:=.u32) (a:=Jp) (q:=8) (s:=8) Y iO)<|ag Y<|dn<|aW<|mv Y<|lE h λeX iz h=>ad _ Y Y iz<|ag Y<|dn<|⟨(eY,eX),h,wR []⟩;obtain⟨ZH,ZI⟩:=j4
 try dsimp only
 refine aV.n<|sr<|mv Y<|mv Y<|lE h λe9 jB h=>cv _ Y (UK.nat jB)<|bE h λjD n8 h=>?_;refine RT.six (l:=[0,1,2,2,3,3,3,3,4,4,4,4,4,4,4,4,5,5,5,5,5,5,5,5,5,5,5,5,5,5,5,5,6,6,6,6,6,6,6,6,6,6,6,6,6,6,6,6,6,6,6,6,6,6,6,6,6,6,6,6,6,6,6,6,7,7,7,7,7,7,7,7,7,7,7,7,7,7,7,7,7,7,7,7,7,7,7,7,7,7,7,7,7,7,7,7,7,7,7,7,7,7,7,7,7,7,7,7,7,7,7,7,7,7,7,7,7,7,7,7,7,7,7,7,7,7,7,7,8,8,8,8,8,8,8,8,8,8,8,8,8,8,8,8,8,8,8,8,8,8,8,8,8,8,8,8,8,8,8,8,8,8,8,8,8,8,8,8,8,8,8,8,8,8,8,8,8,8,8,8,8,8,8,8,8,8,8,8,8,8,8,8,8,8,8,8,8,8,8,8,8,8,8,8,8,8,8,8,8,8,8,8,8,8,8,8,8,8,8,8,8,8,8,8,8,8,8,8,8,8,8,8,8,8,8,8,8,8,8,8,8,8,8,8,8,8,8,8,8,8,8,8,8,8,8,8]) .none Y Y T n8 ?_;refine lE h λgW nL h=>cv _ Y nL<|lE h λgX lM h=>ad _ Y Y lM<|ag Y<|dn<|bf ?_;obtain rfl:=O h;exact R1 Y
theorem n9{x0:Nat}{r:Int}(h:dO x0=some r):Pure ah 210 [.v (.int .u32 ((x0:Nat):Int))] (ay r):=by
 refine bD Tryz.func210 Y (af Y) (λeI M vs hvs=>?_);unfold dO at h;refine sr<|ag Y<|dn<|sr<|mv Y<|bE h λx4 h4 h=>cl (wG h4) ⟨Y,aq⟩<|lE h λx5 h5 h=>sb _ Y Y h5<|ag Y<|dn<|bf ?_;obtain rfl:=O h;exact R1 Y
theorem xM{x0:List Nat}{o0:Nat}{n0:Nat}{x1:List Nat}{r:Nat×List Nat}(h:iy x0 o0 n0 x1=some r):Jg ah 212 [.nQ 1000 (o0*1) n0,.sv (slc 1 (List.map aY x1))] (TR 130 1 aY x0) (.sv (.v (.int .u64 ((r.1:Nat):Int)))) (List.flatMap aY r.2):=by
 refine vX Tryz.func212 Y (af Y) Y Y (λeI M v0=>?_);unfold iy at h;refine sr<|ag Y<|dn<|sr<|mv Y<|lE h λeX iz h=>ln Y iz<|ag Y<|dn<|qq<|bh mixed<|mo (s:=.nQ _ _ _) Y<|mv Y<|bE h λe9 jB h=>RT.GG .none Y Y T jB<|bE h λjD n8 h=>lR Y Y n8 Y<|lE h λgW nL h=>cv _ Y (UK.nat nL)<|lE h λgX lM h=>RT.shl .none _ Y Y T (by decide) (UK.shl (a:=gW) (q:=32) (s:=32) Y lM)<|mo (s:=.nQ _ _ _) Y ?_;refine mv Y<|lE h λiv o6 h=>sb _ Y Y o6<|bE h λkq qJ h=>RT.GG .none Y Y T qJ<|bE h λku sZ h=>lR Y Y sZ Y<|lE h λjE qp h=>cv _ Y (UK.nat qp)<|lE h λvi wD h=>RT.or .none _ Y Y T (UK.or (a:=gX) (b:=jE) wD)<|ag Y ?_;refine RT.done ⟨by kernel_rfl,?_⟩;refine aV.n<|qq<|bh mixed<|mv Y<|mv Y<|lE h λoY wE h=>sb _ Y Y wE<|bE h λjq nW h=>ix Y Y nW<|lr Y Y<|lE h λrE CX h=>cv _ Y (UK.nat CX)<|mv Y<|mv Y<|lE h λoq uS h=>sb _ Y Y uS<|bE h λot yX h=>ix Y Y yX<|lr Y Y<|lE h λuE E4 h=>cv _ Y (UK.nat E4)<|ag Y<|ag Y ?_;refine RT.done ⟨by kernel_rfl,?_⟩;refine aV.n<|qq<|bh mixed<|mv Y<|mv Y<|bE h λmX sx h=>RT.quo .none _ Y Y T (nzU sx) (UK.quo sx)<|mv Y<|mv Y<|bE h λsS DW h=>RT.rem .none _ Y Y T (nzR DW) (Rn DW)<|ag Y<|ag Y ?_;refine RT.done ⟨by kernel_rfl,?_⟩;refine aV.n<|qq<|bE h λOe EV As=>?_
 refine bU (λ(L5:Nat)=>AS.cL 71 [(9,.sv (.v (.int .u64 ((L5:Nat):Int))))] [] [(1000,TR 130 1 aY x0)]) (λL5=>L5=Oe) ?_ (λL5 EW=>?_);refine bj ?_;refine bV EV (λEO=>AS.cL 71 [(0,.nQ 1000 (o0*1) n0),(5,ai eX),(7,.sv (.v (.int .u64 ((rE:Nat):Int)))),(8,.sv (.v (.int .u64 ((uE:Nat):Int)))),(9,.sv (.v (.int .u64 ((EO.1:Nat):Int)))),(10,.sv (.v (.int .u64 ((EO.2:Nat):Int))))] [] [(1000,TR 130 1 aY x0)]) (wR []) (λEO y10 G10 h EX BO=>?_);obtain⟨Dg,DR⟩:=EO
 try dsimp only
 refine qq<|qq ?_;refine bH h (λMg=>AS.cL 71 [(0,.nQ 1000 (o0*1) n0),(5,ai eX),(7,.sv (.v (.int .u64 ((rE:Nat):Int)))),(8,.sv (.v (.int .u64 ((uE:Nat):Int)))),(9,.sv (.v (.int .u64 ((Dg:Nat):Int)))),(10,.sv (.v (.int .u64 ((DR:Nat):Int)))),(61,aj Mg)] [] [(1000,TR 130 1 aY x0)]) (λh=>?_) (λJq h=>?_);refine aW<|mv Y<|lE h λyz Jz h=>RT.shr .none _ Y Y T (by decide) (ED (k:=.u64) (a:=Dg) (q:=32) (s:=32) Y Jz)<|lE h λxj h46 h=>ne _ Y Y (neN (p:=yz) (q:=0) h46)<|mv Y<|bE h λN0 ey h=>?_;cases xj;refine gm Y<|gm Y<|lE (F ey) λsi EZ ey=>RT.mul (.some Y Y) _ Y Y T (UK.mul (a:=Dg) (b:=uE) EZ)<|gm Y<|lE ey λwv Dl ey=>RT.shl (.some Y Y) _ Y Y T (by decide) (UK.shl (a:=DR) (q:=32) (s:=32) Y Dl)<|RT.move (.some Y Y) (s:=.nQ _ _ _) Y T<|gm Y<|lE ey λyA Mj ey=>RT.sub (.some Y Y) _ Y Y T Mj<|bE ey λDf G3 ey=>RT.GG (.some Y Y) Y Y T G3<|bE ey λRF Z1 ey=>RT.L2 (.some Y Y) Y Y Z1 Y T ?_;refine lE ey λQU h58 ey=>RT.conv (.some Y Y) _ Y T (UK.nat h58)<|lE ey λL4 VT ey=>RT.or (.some Y Y) _ Y Y T (UK.or (a:=wv) (b:=QU) VT)<|lE ey λGc Oj ey=>gg _ Y Y (ltN (p:=L4) (q:=si) Oj) ?_;obtain rfl:=O ey;exact pF Y<|dn<|⟨Gc,h,wR []⟩;obtain rfl:=O (V ey)
 exact ww<|ww<|ww<|ww<|ww<|ww<|ww<|ww<|ww<|ww<|ww<|ww<|ww<|pT Y<|dn<|⟨true,h,wR []⟩
 try dsimp only
 refine aV.n ?_;cases Jq;refine cF<|b9<|aV.x<|aV.x<|bG.x<|aV.n ?_;obtain rfl:=O (F h);exact⟨Dg,BO _ Y,wR []⟩;refine cT<|bC<|aV.n<|bj<|sr<|mv Y<|lE (V h) λZJ h63 h=>sb _ Y Y (UK.sub (a:=Dg) (b:=1) h63)<|ag Y<|dn<|sr<|mv Y<|mv Y<|lE h λI1 VU h=>ad _ Y Y (UK.add (a:=DR) (b:=rE) VU)<|ag Y<|dn<|sr<|mv Y<|lE h λJr VV h=>RT.shr .none _ Y Y T (by decide) (ED (k:=.u64) (a:=I1) (q:=32) (s:=32) Y VV)<|lE h λKR RL h=>ne _ Y Y (neN (p:=Jr) (q:=0) RL) ?_;refine dn ?_;cases KR;refine cF<|bC<|bG.n ?_;obtain rfl:=O (F h);exact aV.n ⟨(ZJ,I1),EX _ Y,wR []⟩;refine cT<|b9<|bG.y (by decide)<|aV.x<|bG.x<|aV.n ?_;obtain rfl:=O (V h);exact⟨ZJ,BO _ Y,wR []⟩;subst EW
 try dsimp only
 refine aV.n<|sr<|mv Y<|ag Y<|dn<|bf<|bE As λ_ hle As=>?_;obtain rfl:=O As;exact⟨.inr Y,.sv (gE (.tmp Y (.nil)) au),(by show _=lA.live ⟨130,1,x0.length,List.flatMap aY x0⟩;rw[<-mG hle];rfl)⟩
theorem o7{x0:List Nat}{o0:Nat}{n0:Nat}{x1:List Nat}{x2:Nat}{r:Bool×List Nat}(h:dz x0 o0 n0 x1 x2=some r):Jg ah 213 [.nQ 1000 (o0*1) n0,.sv (slc 1 (List.map aY x1)),.sv (.v (.int .u64 ((x2:Nat):Int)))] (TR 130 1 aY x0) (aj r.1) (List.flatMap aY r.2):=by
 refine vX Tryz.func213 Y (af Y) Y Y (λeI M v0=>?_);unfold dz at h;refine sr<|ag Y<|dn<|sr<|ag Y<|dn<|sr<|RT.By .none (fm 0) Y ⟨Y,aq⟩ T Y Y<|an (s:=.gI _ _) Y<|dn<|qq<|sr<|mo (s:=.nQ _ _ _) Y<|lE h λga lB h=>RT.VD .none Y T lB<|mv Y<|dn<|bE h λRH JE o8=>?_;refine bU (λ(yY:Nat×(List Nat))=>AS.cL 51 [(7,.sv (.v (.int .u64 ((yY.1:Nat):Int))))] [] [(1000,TR 130 1 aY yY.2)]) (λyY=>yY=RH) ?_ (λyY Om=>?_);refine bj ?_;refine bV JE (λAX=>AS.cL 51 [(0,.nQ 1000 (o0*1) n0),(1,.sv (slc 1 (List.map aY x1))),(2,.sv (.v (.int .u64 ((x2:Nat):Int)))),(7,.sv (.v (.int .u64 ((AX.1:Nat):Int)))),(8,.gI 202 [.box 12]),(14,ai ga),(15,ai AX.2.1)] [(12,⟨128,[.sv (.v (.int .u64 ((AX.2.2.1:Nat):Int)))]⟩)] [(1000,TR 130 1 aY AX.2.2.2)]) (wR []) (λAX y12 G12 h On Oo=>?_);obtain⟨L6,xG,EP,uF⟩:=AX
 try dsimp only
 refine sr<|lE h λjD n8 h=>ls _ Y Y n8<|dn<|qq ?_;cases jD;refine cF<|b9<|aV.x<|aV.x<|bG.x<|aV.n ?_;obtain rfl:=O (F h);exact⟨(L6,uF),Oo _ Y,wR []⟩;refine cT<|bC<|aV.n<|qq<|bj<|sr<|mv Y<|ag Y<|dn<|sr<|ag Y<|dn<|qq<|sr<|mv Y<|mv Y<|lE (V h) λja o5 h=>ln Y o5<|lE h λiv o6 h=>ls _ Y Y o6<|dn ?_;refine bH h (λj14=>AS.cL 51 [(0,.nQ 1000 (o0*1) n0),(1,.sv (slc 1 (List.map aY x1))),(2,.sv (.v (.int .u64 ((x2:Nat):Int)))),(7,.sv (.v (.int .u64 ((L6:Nat):Int)))),(8,.gI 202 [.box 12]),(9,ai xG),(10,.sv (.v (.int .u64 ((j14:Nat):Int)))),(14,ai ga),(15,ai xG)] [(12,⟨128,[.sv (.v (.int .u64 ((EP:Nat):Int)))]⟩)] [(1000,TR 130 1 aY uF)]) (λh=>?_) (λN1 h=>?_);cases iv;exact fs<|⟨0,(F h),wR []⟩;exact cT<|aW<|mv Y<|mv Y<|bE (V h) λjE qp h=>ix Y Y qp<|lr Y Y<|lE h λmH vp h=>cv _ Y (UK.nat vp)<|mv Y<|lE h λoY wE h=>RT.mul .none _ Y Y T (UK.mul (a:=mH) (b:=x2) wE)<|ag Y<|dn<|⟨oY,h,wR []⟩
 try dsimp only
 refine aV.n<|qq<|bh mixed<|mo (s:=.nQ _ _ _) Y<|mv Y<|bE h λrE CX h=>RT.GG .none Y Y T CX<|bE h λkp qo h=>lR Y Y qo Y<|lE h λuG AY h=>cv _ Y (UK.nat AY)<|mo (s:=.gI _ _) Y<|mv Y ?_;obtain⟨⟨qa,k16⟩,xN,h⟩:=bS h;refine cB (cA xN) 12 Y ⟨Y,aq⟩<|lE h λuE E4 h=>cv _ Y (UK.nat E4)<|lE h λzW Jy h=>sb _ Y Y (UK.sub (a:=uG) (b:=uE) Jy)<|mv Y<|lE h λmX sx h=>sb _ Y Y (UK.sub (a:=zW) (b:=L6) sx)<|ag Y ?_;refine RT.done ⟨by kernel_rfl,?_⟩;refine aV.n<|sr<|mo (s:=.nQ _ _ _) Y<|mv Y<|mv Y<|lE h λBL G4 h=>cv _ Y (UK.nat G4)<|bE h λyz Jz h=>RT.GG .none Y Y T Jz<|bE h λl18 Z3 h=>sR BL Y Y Y Y Z3<|dn<|aW<|mv Y<|lE h λwm BR h=>RT.shr .none _ Y Y T (by decide) (ED (k:=.u64) (a:=mX) (q:=63) (s:=63) Y BR)<|ag Y<|RT.done<|bG.n<|aV.n<|aW<|lE h λsu h48 h=>ad _ Y Y h48<|mv Y<|RT.done ?_;obtain rfl:=O h;exact aV.n ⟨(wm,su,k16,l18),On _ Y,wR []⟩;subst Om;obtain⟨N2,xH⟩:=yY
 try dsimp only
 refine aV.n<|sr<|mv Y<|lE o8 λsi EZ o8=>ne _ Y Y (neN (p:=N2) (q:=0) EZ)<|ag Y<|dn<|bf<|bE o8 λ_ hle o8=>?_;obtain rfl:=O o8;exact⟨.inr Y,.sv (gE (.tmp Y (.nil)) au),(by show _=lA.live ⟨130,1,x0.length,List.flatMap aY xH⟩;rw[<-mG hle];rfl)⟩
set_option maxHeartbeats 4000000 in
theorem yZ{x0:List Nat}{x1:List Nat}(N:Nat){r:(List Nat)×(List Nat)}(h:jb x0 x1=some r):cP ah 205 N [slc 1 (List.map aY x0),slc 1 (List.map aY x1)] (.yB [nw N (slc 1 (List.map aY r.1)),nw N (slc 1 (List.map aY r.2))]):=by
 refine bB Tryz.func205 Y (af Y) (λeI M vs hN hvs=>?_);unfold jb at h;refine sr<|ag Y<|ag Y<|dn<|cI (iZ 4 306 130 1 Y Y T)<|cI (iZ 5 308 130 1 Y Y T)<|sr<|mv Y<|lE h λgW nL h=>ln Y nL<|ag Y<|dn<|sr<|mv Y<|mv Y<|lE h λja o5 h=>sb _ Y Y o5<|bE h λiv o6 h=>ix Y Y o6<|lr Y Y<|bE h λku sZ h=>cl (n9 sZ) ⟨Y,aq⟩ ?_;refine lE h λjE qp h=>cv _ Y (UK.conv qp)<|ag Y<|dn<|qq<|bh mixed<|mv Y<|mv Y<|bE h λnn vr h=>cN (uT vr) ⟨Y,Y,aq⟩<|mv Y<|mv Y<|bE h λvk BP h=>cl (wF BP) ⟨Y,Y,aq⟩<|mv Y<|bE h λkp qo h=>RT.Jn .none 0 gW Y Y ⟨_,Y⟩ T qo<|an (s:=.row _) Y<|ag Y ?_;refine RT.done ⟨by kernel_rfl,?_⟩;refine aV.n<|sr<|mv Y<|lE h λoq uS h=>ln Y uS<|mv Y<|lE h λqa xN h=>sb _ Y Y xN<|lE h λuE E4 h=>ad _ Y Y E4<|bE h λzW Jy h=>RT.oA (n:=1) (e:=aY) .none Y Y T Y T (by rfl) (by decide) (by exact⟨au,aq⟩) Jy<|an (s:=.row _) Y<|dn<|qq<|sr<|mv Y<|lE h λmX sx h=>ln Y sx<|mv Y<|lE h λqm BQ h=>sb _ Y Y BQ ?_;refine ag Y<|dn<|bE h λe36 ae1 VW=>?_;refine bU (λ(Mk:(List Nat)×(List Nat))=>AS.cL 141 [(4,.row 38),(6,ai gW),(7,.sv (.v (.int .u64 ((jE:Nat):Int)))),(8,.row 27)] [] [(38,TR 130 1 aY Mk.1),(27,TR 130 1 aY Mk.2)]) (λMk=>Mk=e36) ?_ (λMk ae2=>?_);refine bj ?_
 refine bV ae1 (λVH=>AS.cL 141 [(4,.row 38),(6,ai gW),(7,.sv (.v (.int .u64 ((jE:Nat):Int)))),(8,.row 27),(9,.sv (slc 1 (List.map aY kp))),(10,ai VH.1)] [] [(38,TR 130 1 aY VH.2.1),(27,TR 130 1 aY VH.2.2)]) (wR []) (λVH y36 G36 h ae3 ae4=>?_);obtain⟨jK,sV,wA⟩:=VH
 try dsimp only
 refine qq<|sr<|mv Y<|lE h λBL G4 h=>ge _ Y Y G4<|dn ?_;cases BL;refine cF<|b9<|aV.x<|aV.x<|bG.x<|aV.n ?_;obtain rfl:=O (F h);exact⟨(sV,wA),ae4 _ Y,wR []⟩;refine cT<|bC<|aV.n<|qq<|bj<|sr<|mo (s:=.row _) Y<|mv Y<|mv Y<|mv Y<|lE (V h) λGM Mi h=>ad _ Y Y Mi<|lE h λwv Dl h=>ad _ Y Y Dl ?_;obtain⟨⟨o53,n53⟩,Oq,h⟩:=bS h;refine RT.Zu .none jK wv Y Y ⟨_,Y⟩ ⟨_,Y⟩ T Oq<|mv Y ?_;obtain⟨⟨yA,RI⟩,Mj,h⟩:=bS h;refine bE h λ_ ae5 h=>cR (l:=wA) (l':=RI) (e:=aY) (xM Mj) (mG ae5) 27 Y (.k2 Y Y)<|ag Y<|dn<|qq<|sr<|mo (s:=.row _) Y<|mv Y<|mv Y<|mv Y<|lE h λGc Oj h=>ad _ Y Y Oj<|lE h λGe Ol h=>ad _ Y Y Ol ?_;obtain⟨⟨o62,n62⟩,h62,h⟩:=bS h;refine RT.Zu .none jK Ge Y Y ⟨_,Y⟩ ⟨_,Y⟩ T h62<|mv Y<|mv Y ?_;obtain⟨⟨YI,QV⟩,h65,h⟩:=bS h;refine bE h λ_ ae8 h=>cR (l:=RI) (l':=QV) (e:=aY) (o7 h65) (mG ae8) 27 Y (.k3 Y Y Y)<|dn ?_;refine bH h (λTs=>AS.cL 141 [(4,.row 38),(6,ai gW),(7,.sv (.v (.int .u64 ((jE:Nat):Int)))),(8,.row 27),(9,.sv (slc 1 (List.map aY kp))),(10,ai jK),(11,.sv (.v (.int .u64 ((Ts.1:Nat):Int))))] [] [(38,TR 130 1 aY sV),(27,TR 130 1 aY Ts.2)]) (λh=>?_) (λTs h=>?_);cases YI;exact fs<|⟨(yA,QV),(F h),wR []⟩
 refine cT<|sr<|mv Y<|lE (V h) λTt Z4 h=>sb _ Y Y (UK.sub (a:=yA) (b:=1) Z4)<|ag Y<|dn<|sr<|RT.By .none (fm 0) Y ⟨Y,aq⟩ T Y Y<|an (s:=.gI _ _) Y<|dn<|qq<|sr<|mv Y<|lE h λDS VX h=>ln Y VX<|mv Y<|dn<|bE h λe65 ae9 tc=>?_;refine bU (λ(Ml:Nat×(List Nat))=>AS.cL 141 [(4,.row 38),(6,ai gW),(7,.sv (.v (.int .u64 ((jE:Nat):Int)))),(8,.row 27),(9,.sv (slc 1 (List.map aY kp))),(10,ai jK),(11,.sv (.v (.int .u64 ((Tt:Nat):Int)))),(12,.gI 202 [.box 68])] [(68,⟨128,[.sv (.v (.int .u64 ((Ml.1:Nat):Int)))]⟩)] [(38,TR 130 1 aY sV),(27,TR 130 1 aY Ml.2)]) (λMl=>Ml=e65) ?_ (λMl afa=>?_);refine bj ?_;refine bV ae9 (λVI=>AS.cL 141 [(4,.row 38),(6,ai gW),(7,.sv (.v (.int .u64 ((jE:Nat):Int)))),(8,.row 27),(9,.sv (slc 1 (List.map aY kp))),(10,ai jK),(11,.sv (.v (.int .u64 ((Tt:Nat):Int)))),(12,.gI 202 [.box 68]),(69,.sv (slc 1 (List.map aY kp))),(70,ai DS),(71,ai VI.1)] [(68,⟨128,[.sv (.v (.int .u64 ((VI.2.1:Nat):Int)))]⟩)] [(38,TR 130 1 aY sV),(27,TR 130 1 aY VI.2.2)]) (wR []) (λVI y65 G65 h afb afc=>?_);obtain⟨yT,xI,wB⟩:=VI
 try dsimp only
 refine sr<|lE h λL7 VY h=>ls _ Y Y VY<|dn<|qq ?_;cases L7;refine cF<|b9<|aV.x<|aV.x<|bG.x<|aV.n ?_;obtain rfl:=O (F h);exact⟨(xI,wB),afc _ Y,wR []⟩;refine cT<|bC<|aV.n<|qq<|bj<|sr<|mv Y<|bE (V h) λx74 h74 h=>ix Y Y h74<|lr Y Y<|ag Y<|ag Y<|dn<|aW<|mo (s:=.row _) Y<|mv Y<|mv Y<|lE h λI2 VZ h=>ad _ Y Y VZ<|mo (s:=.gI _ _) Y<|mo (s:=.row _) Y<|mv Y<|mv Y<|lE h λQW h84 h=>ad _ Y Y h84<|bE h λZL h85 h=>iR Y Y Y h85 ?_;refine bE h λQX Z5 h=>lR Y Y Z5 Y<|lE h λJt Z6 h=>cv _ Y (UK.nat Z6)<|mv Y<|lE h λx89 h89 h=>cv _ Y (UK.nat h89)<|lE h λRJ Z7 h=>ad _ Y Y (UK.add (a:=Jt) (b:=x89) Z7) ?_;obtain⟨⟨x91,k68⟩,h91,h⟩:=bS h;refine cB (cA h91) 68 Y ⟨Y,aq⟩<|bE h λZM h92 h=>iR Y Y Y h92<|bE h λVJ Ot h=>sR x91 Y Y Y Y Ot<|RT.done<|bG.n<|aV.n<|aW<|lE h λM4 Z8 h=>ad _ Y Y Z8<|mv Y<|RT.done ?_;obtain rfl:=O h;exact aV.n ⟨(M4,k68,VJ),afb _ Y,wR []⟩;subst afa;obtain⟨GO,BM⟩:=Ml
 try dsimp only
 refine aV.n<|aW<|mo (s:=.row _) Y<|mv Y<|mv Y<|lE tc λx97 h97 tc=>ad _ Y Y h97<|mo (s:=.gI _ _) Y<|mo (s:=.row _) Y<|mv Y<|mv Y<|lE tc λL8 V0 tc=>ad _ Y Y V0<|bE tc λL9 V1 tc=>iR Y Y Y V1<|bE tc λZN afh tc=>lR Y Y afh Y<|lE tc λZO afi tc=>cv _ Y (UK.nat afi) ?_;obtain⟨⟨Ma,k72⟩,V3,tc⟩:=bS tc;exact cB (cA V3) 68 Y ⟨Y,aq⟩<|bE tc λZP afj tc=>iR Y Y Y afj<|bE tc λl73 Z9 tc=>sR Ma Y Y Y Y Z9<|dn<|⟨(Tt,l73),tc,wR []⟩;obtain⟨N3,Js⟩:=Ts
 try dsimp only
 refine aV.n<|aW<|mo (s:=.row _) Y<|mv Y<|mv Y<|lE h λER V4 h=>cv _ Y (UK.nat V4)<|bE h λZK afk h=>iR Y Y Y afk<|bE h λl55 aaa h=>sR ER Y Y Y Y aaa<|RT.done<|bG.n<|aV.n<|aW<|mv Y<|lE h λxj h46 h=>sb _ Y Y h46<|ag Y<|RT.done ?_;obtain rfl:=O h;exact aV.n ⟨(xj,l55,Js),ae3 _ Y,wR []⟩;subst ae2;obtain⟨BN,yU⟩:=Mk
 try dsimp only
 refine aV.n<|sr<|mv Y<|bE VW λZQ afl VW=>RT.oA (n:=1) (e:=aY) .none Y Y T Y T (by rfl) (by decide) (by exact⟨au,aq⟩) afl<|an (s:=.row _) Y<|dn<|qq<|sr<|mv Y<|mv Y<|dn<|bE VW λe81 afm afn=>?_;refine bU (λ(rI:(List Nat))=>AS.cL 141 [(4,.row 38),(5,.row 114)] [] [(38,TR 130 1 aY BN),(114,TR 130 1 aY rI)]) (λrI=>rI=e81) ?_ (λrI afo=>?_);refine bj ?_;refine bV afm (λYJ=>AS.cL 141 [(4,.row 38),(5,.row 114),(7,.sv (.v (.int .u64 ((jE:Nat):Int)))),(8,.row 27),(115,ai gW),(116,ai YJ.1)] [] [(38,TR 130 1 aY BN),(114,TR 130 1 aY YJ.2),(27,TR 130 1 aY yU)]) (wR []) (λYJ y81 G81 h afp afq=>?_);obtain⟨uH,xJ⟩:=YJ
 try dsimp only
 refine sr<|lE h λGP V5 h=>ls _ Y Y V5<|dn<|qq ?_;cases GP;refine cF<|b9<|aV.x<|aV.x<|bG.x<|aV.n ?_;obtain rfl:=O (F h);exact⟨xJ,afq _ Y,wR []⟩;refine cT<|bC<|aV.n<|qq<|bj<|sr<|mv Y<|ag Y<|dn<|bh mixed<|mo (s:=.row _) Y<|mv Y<|mo (s:=.row _) Y<|mv Y<|bE (V h) λZR afr h=>iR Y Y Y afr<|bE h λZS V6 h=>lR Y Y V6 Y<|lE h λES V7 h=>cv _ Y (UK.nat V7)<|mo (s:=.row _) Y<|mv Y<|lE h λN4 h128 h=>ad _ Y Y h128<|bE h λMb V8 h=>?_;refine iR Y Y Y V8<|bE h λZT afs h=>lR Y Y afs Y<|lE h λVK afu h=>cv _ Y (UK.nat afu)<|lE h λVL afv h=>RT.shl .none _ Y Y T (by decide) (UK.shl (a:=VK) (q:=32) (s:=32) Y afv)<|lE h λMc V9 h=>RT.or .none _ Y Y T (UK.or (a:=ES) (b:=VL) V9)<|mv Y<|lE h λN5 Wa h=>RT.shr .none _ Y Y T (Int.natCast_nonneg _) (ED (k:=.u64) (a:=Mc) (q:=((jE:Nat):Int)) (s:=min jE 64) Y Wa)<|lE h λMd Wb h=>cv _ Y (UK.nat Wb) ?_;refine bE h λMe Wc h=>iR Y Y Y Wc<|bE h λl83 aab h=>sR Md Y Y Y Y aab ?_;refine RT.done ⟨by kernel_rfl,?_⟩;refine bG.n<|aV.n<|aW<|lE h λVM afw h=>ad _ Y Y afw<|mv Y<|RT.done ?_;obtain rfl:=O h;exact aV.n ⟨(VM,l83),afp _ Y,wR []⟩;subst afo
 try dsimp only
 refine aV.n<|sr<|mo (s:=.row _) Y<|mo (s:=.row _) Y<|an (s:=.row _) Y<|an (s:=.row _) Y<|dn<|ic (i:=38) (E1:=130) (n:=1) (e:=aY) (l:=BN) hN (λ_ h=>h) Y<|ic (i:=114) (E1:=130) (n:=1) (e:=aY) (l:=rI) hN (λ_ h=>h) Y<|bf ?_;obtain rfl:=O afn;exact R2 Y Y
theorem nM{x0:List Nat}(N:Nat){r:List Nat}(h:eJ x0=some r):cP ah 175 N [slc 1 (List.map aY x0)] (nw N (slc 1 (List.map aY r))):=RC (qG h)
theorem pL{x0:List Nat}{x1:List Nat}(N:Nat){r:(List Nat)×(List Nat)}(h:gA x0 x1=some r):cP ah 193 N [slc 1 (List.map aY x0),slc 1 (List.map aY x1)] (.yB [nw N (slc 1 (List.map aY r.1)),nw N (slc 1 (List.map aY r.2))]):=by
 refine bB Tryz.func193 Y (af Y) (λeI M vs hN hvs=>?_);unfold gA at h;refine sr<|ag Y<|aI Y (bk (N:=N) (n:=1) (e:=aY))<|dn<|cI (iZ 4 304 130 1 Y Y T)<|qq<|bj<|sr<|mv Y<|mv Y<|bE h λeX iz h=>cl (gG iz) ⟨Y,Y,aq⟩<|lE h λjv lK h=>ls _ Y Y lK<|ag Y<|dn ?_;cases jv;refine cF<|sr<|mv Y<|lE (F h) λgX lM h=>ln Y lM<|lE h λmm n7 h=>RT.leq .none _ Y Y T n7<|ag Y<|dn ?_;cases mm;refine cF<|sr<|mv Y<|lE (F h) λqa xN h=>ln Y xN<|lE h λuE E4 h=>eq _ Y Y (xg (p:=qa) (q:=1) E4)<|ag Y<|dn ?_;cases uE;refine cF<|bC<|bG.n<|aV.n<|sr<|mv Y<|mv Y ?_;obtain⟨⟨ZV,ZW⟩,Dl,h⟩:=bS (F h);refine RT.bL .none (yZ N Dl) hN Y ⟨Y,Y,aq⟩ T<|ex Y Y<|ex Y Y<|ag Y<|ag Y<|dn<|bf ?_;obtain rfl:=O h;exact R2 Y Y;refine cT<|sr<|mv Y<|bE (V h) λvm G5 h=>cN (qG G5) ⟨Y,aq⟩<|an (s:=.row _) Y<|dn<|sr<|mo (s:=.row _) Y<|mv Y<|bE h λqm BQ h=>ix Y Y BQ<|lr Y Y<|lE h λBL G4 h=>cv _ Y (UK.nat G4) ?_;obtain⟨⟨yz,l5⟩,Jz,h⟩:=bS h;refine bE h λ_ he5 h=>cR (l:=vm) (l':=l5) (e:=aY) (xL Jz) (mG he5) 39 Y (.k2 Y Y)<|ag Y<|dn<|sr<|mo (s:=.row _) Y<|mv Y<|lE h λsu h48 h=>cv _ Y (UK.nat h48)<|RT.xC (l:=[su]) (e:=aY) .none hN (.one Y (.nil)) T Y Y Y Y Y Y<|an (s:=.row _) Y<|ag Y<|dn<|ic (i:=39) (E1:=130) (n:=1) (e:=aY) (l:=l5) hN (λ_ h=>h) Y ?_
 refine bf<|bG.r<|aV.r ?_;obtain rfl:=O h;exact R2 Y Y;refine cT<|sr<|mv Y<|bE (V h) λiv o6 h=>cl (iQ o6) ⟨Y,aq⟩<|mv Y<|bE h λku sZ h=>cl (iQ sZ) ⟨Y,aq⟩<|ag Y<|ag Y<|dn<|qq<|bh mixed<|mv Y<|mv Y<|bE h λmH vp h=>RT.quo .none _ Y Y T (nzU vp) (UK.quo vp) ?_;obtain⟨⟨ZU,Tu⟩,vr,h⟩:=bS h;refine RT.bL .none (jL N vr) hN Y ⟨Y,Y,aq⟩ T<|fl Y Y<|mv Y<|mv Y<|bE h λrE CX h=>RT.rem .none _ Y Y T (nzR CX) (Rn CX) ?_;obtain⟨⟨qE,pG⟩,qo,h⟩:=bS h;refine RT.bL .none (jL N qo) hN Y ⟨Y,Y,aq⟩ T<|fl Y Y<|ag Y<|ag Y ?_;refine RT.done ⟨by kernel_rfl,?_⟩;refine aV.n<|bf<|bG.r<|aV.r ?_;obtain rfl:=O h;exact R2 Y Y;refine cT<|sr<|mv Y<|bE (V h) λe9 jB h=>RT.bL .none (nM N jB) hN Y ⟨Y,aq⟩ T<|ag Y<|ag Y<|dn<|cI (iZ 4 310 130 1 Y Y T)<|ic (i:=310) (E1:=130) (n:=1) (e:=aY) (l:=[]) hN (λ_ h=>h) Y<|bf<|bG.r<|aV.r ?_;obtain rfl:=O h;exact R2 Y Y
end
section
open Go.Fw Go.Fw.Z Go.RowKit
theorem eu{x0:Int}(N:Nat){r:Zr}(h:cm x0=some r):cP ah 90 N [ay x0] (.agg ((fZ N) r)):=by
 refine bB Tryz.func90 Y (af Y) (λeI M vs hN hvs=>?_);unfold cm at h;refine sr<|al (cs:=[az false,nw N ax]) (by exact⟨au,bk,aq⟩) Y<|dn<|sr<|mv Y<|lE h λx5 h5 h=>cv _ Y (UK.conv h5)<|ag Y<|dn<|qq<|sr<|mv Y<|lE h λx7 h7 h=>ls _ Y Y h7<|dn ?_;refine bH h (λj2=>AS.cL 14 [(0,ai x0),(2,.ptr 2 0),(3,.sv (.v (.int .u64 ((j2:Nat):Int))))] [(2,⟨41,[aj false,.sv (nw N ax)]⟩)] []) (λh=>?_) (λZX h=>?_);cases x7;exact fs<|⟨x5,(F h),wR []⟩;exact cT<|aW<|mv Y<|lE (V h) λx9 h9 h=>RT.neg .none _ Y T (UK.neg h9)<|ag Y<|dn<|⟨x9,h,wR []⟩
 try dsimp only
 refine aV.n<|sr<|mv Y<|lE h λjC qH h=>ls _ Y Y qH<|mv Y ?_;obtain⟨⟨GQ,GR⟩,lK,h⟩:=bS h;refine RT.bL .none (jL N lK) hN Y ⟨Y,Y,aq⟩ T<|so Y Y Y<|dn<|bf ?_;obtain rfl:=O h;exact RZ (.agg Y Y (.k2 Y Y) Y (.nil))
theorem wH{x0:Int}{r:Zr}(h:cm x0=some r):Pure ah 90 [ay x0] (.agg (eZ r)):=fj (λN=>eu N h) (λN=>(SV.ee (zI _ _)))
theorem gC{x0:Zr}{r:Int×Bool}(h:dR x0=some r):Pure ah 166 [.agg (eZ x0)] (.yB [ay r.1,az r.2]):=by
 obtain⟨bu,bw⟩:=x0;refine bD Tryz.func166 Y (af Y) (λeI M vs hvs=>?_);unfold dR at h;refine sr<|bx Y<|ag Y<|ag Y<|dn<|sr<|fa Y Y<|lV Y Y Y<|bE h λx8 h8 h=>cl (cG h8) ⟨Y,aq⟩<|ag Y<|dn<|qq<|sr<|mv Y<|lE h λeY iO h=>ln Y iO<|lE h λjC qH h=>gt _ Y Y qH<|dn ?_;cases jC;refine fs<|sr<|mv Y<|bE (F h) λjv lK h=>cl (iQ lK) ⟨Y,aq⟩<|ag Y<|dn<|qq<|sr<|fa Y Y<|lV Y Y Y<|dn ?_;cases bu;refine fs<|qq<|sr<|mv Y<|lE (F h) λkq qJ h=>ge _ Y Y (leN (p:=9223372036854775808) (q:=jv) qJ)<|dn ?_;cases kq;refine fs<|sr<|mv Y<|lE (F h) λjE qp h=>cv _ Y qp<|ag Y<|ag Y<|dn<|bf ?_;obtain rfl:=O h;exact R2 Y Y;refine cT<|sr<|ag Y<|ag Y<|dn<|bf<|aV.r ?_;obtain rfl:=O (V h);exact R2 Y Y;refine cT<|qq<|sr<|mv Y<|lE (V h) λgW nL h=>gt _ Y Y (ltN (p:=9223372036854775808) (q:=jv) nL)<|dn ?_;cases gW;refine fs<|sr<|mv Y<|lE (F h) λmm n7 h=>RT.neg .none _ Y T (UK.neg n7)<|lE h λja o5 h=>cv _ Y o5<|ag Y<|ag Y<|dn<|bf<|aV.r ?_;obtain rfl:=O h;exact R2 Y Y;refine cT<|sr<|ag Y<|ag Y<|dn<|bf<|aV.r<|aV.r ?_;obtain rfl:=O (V h);exact R2 Y Y;refine cT<|sr<|ag Y<|ag Y<|dn<|bf<|aV.r ?_;obtain rfl:=O (V h);exact R2 Y Y
theorem qb{x0:List Nat}(N:Nat){r:List Nat}(h:bz x0=some r):cP ah 144 N [nw N (slc 1 (List.map aY x0))] (nw N (slc 1 (List.map aY r))):=by
 refine bB Tryz.func144 Y (af Y) (λeI M vs hN hvs=>?_);unfold bz at h;refine sr<|aI Y (bk (N:=N) (n:=1) (e:=aY))<|dn<|qq<|bE h λOe EV As=>?_;refine bU (λ(BJ:(List Nat))=>AS.cL 21 [(0,.sv (nw N (slc 1 (List.map aY BJ))))] [] []) (λBJ=>BJ=Oe) ?_ (λBJ EW=>?_);refine bj ?_;refine bV EV (λEO=>AS.cL 21 [(0,.sv (nw N (slc 1 (List.map aY EO))))] [] []) (wR []) (λAp y10 G10 h EX BO=>?_)
 try dsimp only
 refine qq<|qq ?_;refine bH h (λMg=>AS.cL 21 [(0,.sv (nw N (slc 1 (List.map aY Ap)))),(14,aj Mg)] [] []) (λh=>?_) (λBI h=>?_);refine aW<|mv Y<|lE h λx4 h4 h=>RT.DQ .none Y T h4<|lE h λx5 h5 h=>gt _ Y Y h5<|mv Y<|bE h λyR ey h=>?_;cases x5;obtain rfl:=O (F ey);exact ww<|ww<|ww<|ww<|ww<|ww<|ww<|pF Y<|dn<|⟨false,h,wR []⟩;refine gm Y<|gm Y<|lE (V ey) λx9 h9 ey=>RT.DQ (.some Y Y) Y T h9<|lE ey λeY iO ey=>RT.sub (.some Y Y) _ Y Y T iO<|bE ey λjC qH ey=>RT.ZD (.some Y Y) Y Y T qH<|gr Y Y<|lE ey λjv lK ey=>ZA _ Y Y (eqN (p:=jC) (q:=0) lK) ?_;obtain rfl:=O ey;exact pT Y<|dn<|⟨jv,h,wR []⟩
 try dsimp only
 refine aV.n ?_;cases BI;refine cF<|b9<|aV.x<|aV.x<|bG.x<|aV.n ?_;obtain rfl:=O (F h);exact⟨Ap,BO _ Y,wR []⟩;refine cT<|bC<|aV.n<|bj<|aW<|mv Y<|mv Y<|lE (V h) λgW nL h=>RT.DQ .none Y T nL<|lE h λgX lM h=>sb _ Y Y lM<|bE h λmm n7 h=>RT.RE .none 0 gX Y Y ⟨_,Y⟩ T n7<|ag Y<|RT.done<|bG.n ?_;obtain rfl:=O h;exact aV.n ⟨mm,EX _ Y,wR []⟩;subst EW
 try dsimp only
 refine aV.n<|sr<|mv Y<|ag Y<|dn<|bf ?_;obtain rfl:=O As;exact R1 Y
theorem fJ{x0:Bool}{x1:List Nat}(N:Nat){r:Zr}(h:cE x0 x1=some r):cP ah 163 N [az x0,nw N (slc 1 (List.map aY x1))] (.agg ((fZ N) r)):=by
 refine bB Tryz.func163 Y (af Y) (λeI M vs hN hvs=>?_);unfold cE at h;refine sr<|al (cs:=[az false,nw N ax]) (by exact⟨au,bk,aq⟩) Y<|dn<|sr<|mv Y<|bE h λx6 h6 h=>RT.bL .none (qb N h6) hN Y ⟨Y,aq⟩ T<|ag Y<|dn<|qq<|sr<|mv Y<|lE h λx8 h8 h=>RT.DQ .none Y T h8<|lE h λx9 h9 h=>eq _ Y Y (xg (p:=x8) (q:=0) h9)<|dn ?_;cases x9;refine fs<|sr<|mv Y<|mv Y<|bI (cs:=[_,_]) (cs':=[az x0,nw N (slc 1 (List.map aY x6))]) (.one Y (.one Y (.nil))) ⟨au,au,aq⟩<|so Y Y Y<|dn<|bf ?_;obtain rfl:=O (F h);exact RZ (.agg Y Y (.k2 Y Y) Y (.nil));refine cT<|sr<|bI (cs:=[_,_]) (cs':=[az false,nw N ax]) (.nil) ⟨au,bk,aq⟩<|so Y Y Y<|dn<|bf<|aV.r ?_;obtain rfl:=O (V h);exact RZ (.agg Y Y (.k2 Y Y) Y (.nil))
theorem oC{x0:Bool}{x1:List Nat}{x2:Bool}{x3:List Nat}(N:Nat){r:Zr}(h:dG x0 x1 x2 x3=some r):cP ah 203 N [az x0,slc 1 (List.map aY x1),az x2,slc 1 (List.map aY x3)] (.agg ((fZ N) r)):=by
 refine bB Tryz.func203 Y (af Y) (λeI M vs hN hvs=>?_);unfold dG at h;refine sr<|al (cs:=[az false,nw N ax]) (by exact⟨au,bk,aq⟩) Y<|dn<|qq<|sr<|mv Y<|mv Y<|lE h λjC qH h=>RT.adO .none _ Y Y T qH<|dn ?_;cases jC;refine fs<|qq<|sr<|mv Y<|mv Y<|bE (F h) λmm n7 h=>cl (gG n7) ⟨Y,Y,aq⟩<|lE h λja o5 h=>ls _ Y Y o5<|dn ?_;cases ja;refine fs<|sr<|mv Y<|mv Y<|mv Y<|bE (F h) λjq nW h=>RT.bL .none (lN N nW) hN Y ⟨Y,Y,aq⟩ T ?_;obtain⟨⟨vn,vo⟩,BP,h⟩:=bS h;refine RT.bL .none (fJ N BP) hN Y ⟨Y,Y,aq⟩ T<|so Y Y Y<|dn<|bf ?_;obtain rfl:=O h;exact RZ (.agg Y Y (.k2 Y Y) Y (.nil));refine cT<|sr<|mv Y<|mv Y<|mv Y<|bE (V h) λjE qp h=>RT.bL .none (lN N qp) hN Y ⟨Y,Y,aq⟩ T ?_;obtain⟨⟨mA,lJ⟩,wD,h⟩:=bS h;refine RT.bL .none (fJ N wD) hN Y ⟨Y,Y,aq⟩ T<|so Y Y Y<|dn<|bf<|aV.r ?_;obtain rfl:=O h;exact RZ (.agg Y Y (.k2 Y Y) Y (.nil));refine cT<|sr<|mv Y<|mv Y<|mv Y<|bE (V h) λe9 jB h=>RT.bL .none (pK N jB) hN Y ⟨Y,Y,aq⟩ T ?_;obtain⟨⟨pH,pI⟩,n8,h⟩:=bS h;refine RT.bL .none (fJ N n8) hN Y ⟨Y,Y,aq⟩ T<|so Y Y Y<|dn<|bf<|aV.r ?_;obtain rfl:=O h;exact RZ (.agg Y Y (.k2 Y Y) Y (.nil))
theorem E5{x0:Zr}{x1:Zr}(N:Nat){r:Zr}(h:nq x0 x1=some r):cP ah 188 N [.agg (eZ x0),.agg (eZ x1)] (.agg ((fZ N) r)):=by
 obtain⟨bu,bw⟩:=x0;obtain⟨cV,cS⟩:=x1;refine bB Tryz.func188 Y (af Y) (λeI M vs hN hvs=>?_);unfold nq at h;refine sr<|bx Y<|bx Y<|al (cs:=[az false,nw N ax]) (by exact⟨au,bk,aq⟩) Y<|dn<|sr<|ld Y Y (.k2 Y Y) ?_;obtain⟨⟨Dh,Ju⟩,iz,h⟩:=bS h;refine cl (gC iz) ⟨Y,aq⟩<|mv Y<|ex Y Y<|ex Y Y<|ag Y<|ag Y<|dn<|sr<|ld Y Y (.k2 Y Y) ?_;obtain⟨⟨ET,Jv⟩,nL,h⟩:=bS h;refine cl (gC nL) ⟨Y,aq⟩<|mv Y<|ex Y Y<|ex Y Y<|ag Y<|ag Y<|dn<|qq<|qq ?_;refine bH h (λj3=>AS.cL 48 [(2,.ptr 2 0),(3,.ptr 3 0),(4,.ptr 4 0),(5,ai Dh),(7,ai ET),(23,aj j3)] [(4,⟨41,[aj false,.sv (nw N ax)]⟩),(3,⟨41,[aj cV,.sv (slc 1 (List.map aY cS))]⟩),(2,⟨41,[aj bu,.sv (slc 1 (List.map aY bw))]⟩)] []) (λh=>?_) (λsW h=>?_);refine aW<|mv Y<|mv Y<|bE h λGV M5 h=>?_;cases Ju;obtain rfl:=O (F M5);exact ww<|pF Y<|dn<|⟨false,h,wR []⟩;refine gm Y ?_;obtain rfl:=O (V M5);exact pT Y<|dn<|⟨Jv,h,wR []⟩
 try dsimp only
 refine aV.n ?_;refine bH h (λj5=>AS.cL 48 [(2,.ptr 2 0),(3,.ptr 3 0),(4,.ptr 4 0)] [(4,⟨41,[aj false,.sv (nw N ax)]⟩),(3,⟨41,[aj cV,.sv (slc 1 (List.map aY cS))]⟩),(2,⟨41,[aj bu,.sv (slc 1 (List.map aY bw))]⟩)] []) (λh=>?_) (λj5 h=>?_);cases sW;exact fs<|⟨(),(F h),wR []⟩;refine cT<|sr<|mv Y<|mv Y<|lE (V h) λmH vp h=>ad _ Y Y vp<|ag Y<|dn<|sr<|mv Y<|mv Y<|lE h λjq nW h=>RT.xor .none _ Y Y T nW<|mv Y<|mv Y<|lE h λkp qo h=>RT.xor .none _ Y Y T qo<|lE h λuG AY h=>RT.and .none _ Y Y T AY<|lE h λoq uS h=>ge _ Y Y uS<|dn ?_;cases oq;exact fs<|⟨(),(F h),wR []⟩;refine cT<|sr<|mv Y ?_;obtain⟨⟨zX,zY⟩,xN,h⟩:=bS (V h);refine RT.bL .none (eu N xN) hN Y ⟨Y,aq⟩ T<|so Y Y Y<|dn<|bf<|aV.r<|aV.r ?_;obtain rfl:=O h;exact RZ (.agg Y Y (.k2 Y Y) Y (.nil))
 try dsimp only
 refine aV.n<|qq<|bh mixed<|fa Y Y<|lV Y Y Y<|fa Y Y<|lV Y Y Y<|bE h λwj G0 h=>cl (cG G0) ⟨Y,aq⟩<|fa Y Y<|lV Y Y Y<|fa Y Y<|lV Y Y Y<|bE h λxj h46 h=>cl (cG h46) ⟨Y,aq⟩ ?_;obtain⟨⟨GS,GU⟩,BR,h⟩:=bS h;refine RT.bL .none (oC N BR) hN Y ⟨Y,Y,Y,Y,aq⟩ T<|so Y Y Y ?_;refine RT.done ⟨by kernel_rfl,?_⟩;refine aV.n<|bf ?_;obtain rfl:=O h;exact RZ (.agg Y Y (.k2 Y Y) Y (.nil))
theorem E6{x0:Zr}{x1:Zr}(N:Nat){r:Zr}(h:nu x0 x1=some r):cP ah 190 N [.agg (eZ x0),.agg (eZ x1)] (.agg ((fZ N) r)):=by
 obtain⟨bu,bw⟩:=x0;obtain⟨cV,cS⟩:=x1;refine bB Tryz.func190 Y (af Y) (λeI M vs hN hvs=>?_);unfold nu at h;refine sr<|bx Y<|bx Y<|al (cs:=[az false,nw N ax]) (by exact⟨au,bk,aq⟩) Y<|dn<|sr<|ld Y Y (.k2 Y Y) ?_;obtain⟨⟨Dh,Ju⟩,iz,h⟩:=bS h;refine cl (gC iz) ⟨Y,aq⟩<|mv Y<|ex Y Y<|ex Y Y<|ag Y<|ag Y<|dn<|sr<|ld Y Y (.k2 Y Y) ?_;obtain⟨⟨ET,Jv⟩,nL,h⟩:=bS h;refine cl (gC nL) ⟨Y,aq⟩<|mv Y<|ex Y Y<|ex Y Y<|ag Y<|ag Y<|dn<|qq<|qq ?_;refine bH h (λj3=>AS.cL 49 [(2,.ptr 2 0),(3,.ptr 3 0),(4,.ptr 4 0),(5,ai Dh),(7,ai ET),(23,aj j3)] [(4,⟨41,[aj false,.sv (nw N ax)]⟩),(3,⟨41,[aj cV,.sv (slc 1 (List.map aY cS))]⟩),(2,⟨41,[aj bu,.sv (slc 1 (List.map aY bw))]⟩)] []) (λh=>?_) (λsW h=>?_);refine aW<|mv Y<|mv Y<|bE h λGV M5 h=>?_;cases Ju;obtain rfl:=O (F M5);exact ww<|pF Y<|dn<|⟨false,h,wR []⟩;refine gm Y ?_;obtain rfl:=O (V M5);exact pT Y<|dn<|⟨Jv,h,wR []⟩
 try dsimp only
 refine aV.n ?_;refine bH h (λj5=>AS.cL 49 [(2,.ptr 2 0),(3,.ptr 3 0),(4,.ptr 4 0)] [(4,⟨41,[aj false,.sv (nw N ax)]⟩),(3,⟨41,[aj cV,.sv (slc 1 (List.map aY cS))]⟩),(2,⟨41,[aj bu,.sv (slc 1 (List.map aY bw))]⟩)] []) (λh=>?_) (λj5 h=>?_);cases sW;exact fs<|⟨(),(F h),wR []⟩;refine cT<|sr<|mv Y<|mv Y<|lE (V h) λmH vp h=>sb _ Y Y vp<|ag Y<|dn<|sr<|mv Y<|mv Y<|lE h λjq nW h=>RT.xor .none _ Y Y T nW<|mv Y<|mv Y<|lE h λkp qo h=>RT.xor .none _ Y Y T qo<|lE h λuG AY h=>RT.and .none _ Y Y T AY<|lE h λoq uS h=>ge _ Y Y uS<|dn ?_;cases oq;exact fs<|⟨(),(F h),wR []⟩;refine cT<|sr<|mv Y ?_;obtain⟨⟨zX,zY⟩,xN,h⟩:=bS (V h);refine RT.bL .none (eu N xN) hN Y ⟨Y,aq⟩ T<|so Y Y Y<|dn<|bf<|aV.r<|aV.r ?_;obtain rfl:=O h;exact RZ (.agg Y Y (.k2 Y Y) Y (.nil))
 try dsimp only
 refine aV.n<|qq<|bh mixed<|fa Y Y<|lV Y Y Y<|fa Y Y<|lV Y Y Y<|bE h λwj G0 h=>cl (cG G0) ⟨Y,aq⟩<|fa Y Y<|lV Y Y Y<|lE h λBL G4 h=>nt Y _ G4<|fa Y Y<|lV Y Y Y<|bE h λwm BR h=>cl (cG BR) ⟨Y,aq⟩ ?_;obtain⟨⟨Tv,Tw⟩,h48,h⟩:=bS h;refine RT.bL .none (oC N h48) hN Y ⟨Y,Y,Y,Y,aq⟩ T<|so Y Y Y ?_;refine RT.done ⟨by kernel_rfl,?_⟩;refine aV.n<|bf ?_;obtain rfl:=O h;exact RZ (.agg Y Y (.k2 Y Y) Y (.nil))
theorem eK{x0:Zr}{x1:Zr}(N:Nat){r:Zr}(h:c9 x0 x1=some r):cP ah 130 N [.agg (eZ x0),.agg (eZ x1)] (.agg ((fZ N) r)):=by
 obtain⟨bu,bw⟩:=x0;obtain⟨cV,cS⟩:=x1;refine bB Tryz.func130 Y (af Y) (λeI M vs hN hvs=>?_);unfold c9 at h;refine sr<|bx Y<|bx Y<|al (cs:=[az false,nw N ax]) (by exact⟨au,bk,aq⟩) Y<|dn<|qq<|bh mixed<|fa Y Y<|lV Y Y Y<|bE h λx9 h9 h=>cl (cG h9) ⟨Y,aq⟩<|fa Y Y<|lV Y Y Y<|bE h λeX iz h=>cl (cG iz) ⟨Y,aq⟩<|ag Y<|ag Y ?_;refine RT.done ⟨by kernel_rfl,?_⟩;refine aV.n<|qq<|qq ?_;refine bH h (λj3=>AS.cL 41 [(2,.ptr 2 0),(3,.ptr 3 0),(4,.ptr 4 0),(5,.sv (slc 1 (List.map aY x9))),(6,.sv (slc 1 (List.map aY eX))),(20,aj j3)] [(4,⟨41,[aj false,.sv (nw N ax)]⟩),(3,⟨41,[aj cV,.sv (slc 1 (List.map aY cS))]⟩),(2,⟨41,[aj bu,.sv (slc 1 (List.map aY bw))]⟩)] []) (λh=>?_) (λN6 h=>?_);refine aW<|mv Y<|lE h λga lB h=>ln Y lB<|lE h λe9 jB h=>RT.leq .none _ Y Y T jB<|mv Y<|bE h λTz rY h=>?_;cases e9;obtain rfl:=O (F rY);exact ww<|ww<|ww<|pF Y<|dn<|⟨false,h,wR []⟩;refine gm Y<|lE (V rY) λgX lM rY=>gn Y lM<|lE rY λmm n7 rY=>RT.leq (.some Y Y) _ Y Y T n7 ?_;obtain rfl:=O rY;exact pT Y<|dn<|⟨mm,h,wR []⟩
 try dsimp only
 refine aV.n ?_;cases N6;refine fs<|qq<|bh mixed<|fa Y Y<|lV Y Y Y<|fa Y Y<|lV Y Y Y<|lE (F h) λqa xN h=>RT.Vd .none _ Y Y T xN<|mv Y<|mv Y<|bE h λvm G5 h=>RT.bL .none (xK N G5) hN Y ⟨Y,Y,aq⟩ T ?_;obtain⟨⟨zZ,z3⟩,sx,h⟩:=bS h;refine RT.bL .none (fJ N sx) hN Y ⟨Y,Y,aq⟩ T<|so Y Y Y ?_;refine RT.done ⟨by kernel_rfl,?_⟩;refine aV.n<|bf ?_;obtain rfl:=O h;exact RZ (.agg Y Y (.k2 Y Y) Y (.nil));refine cT<|qq<|bh mixed<|fa Y Y<|lV Y Y Y<|fa Y Y<|lV Y Y Y<|lE (V h) λvi wD h=>RT.Vd .none _ Y Y T wD<|mv Y<|bE h λnn vr h=>cl (iQ vr) ⟨Y,aq⟩<|mv Y<|bE h λjq nW h=>cl (iQ nW) ⟨Y,aq⟩<|lE h λvk BP h=>RT.mul .none _ Y Y T (UK.mul (a:=nn) (b:=jq) BP) ?_;obtain⟨⟨Tx,Ty⟩,CX,h⟩:=bS h;refine RT.bL .none (jL N CX) hN Y ⟨Y,Y,aq⟩ T<|so Y Y Y ?_;refine RT.done ⟨by kernel_rfl,?_⟩;refine aV.n<|bf<|aV.r ?_;obtain rfl:=O h;exact RZ (.agg Y Y (.k2 Y Y) Y (.nil))
theorem xO{x0:Zr}{x1:Zr}{r:Zr}(h:c9 x0 x1=some r):Pure ah 130 [.agg (eZ x0),.agg (eZ x1)] (.agg (eZ r)):=fj (λN=>eK N h) (λN=>(SV.ee (zI _ _)))
theorem oa{x0:Zr}(N:Nat){r:Zr}(h:gw x0=some r):cP ah 145 N [.agg (eZ x0)] (.agg ((fZ N) r)):=by
 obtain⟨bu,bw⟩:=x0;refine bB Tryz.func145 Y (af Y) (λeI M vs hN hvs=>?_);unfold gw at h;refine sr<|bx Y<|al (cs:=[az false,nw N ax]) (by exact⟨au,bk,aq⟩) Y<|dn<|qq<|bh mixed<|fa Y Y<|lV Y Y Y<|lE h λx5 h5 h=>nt Y _ h5<|fa Y Y<|lV Y Y Y<|bE h λx8 h8 h=>cl (cG h8) ⟨Y,aq⟩<|bE h λx9 h9 h=>RT.bL .none (nM N h9) hN Y ⟨Y,aq⟩ T ?_;obtain⟨⟨GW,GX⟩,iO,h⟩:=bS h;refine RT.bL .none (fJ N iO) hN Y ⟨Y,Y,aq⟩ T<|so Y Y Y ?_;refine RT.done ⟨by kernel_rfl,?_⟩;refine aV.n<|bf ?_;obtain rfl:=O h;exact RZ (.agg Y Y (.k2 Y Y) Y (.nil))
theorem xP{x0:Zr}{r:Zr}(h:gw x0=some r):Pure ah 145 [.agg (eZ x0)] (.agg (eZ r)):=fj (λN=>oa N h) (λN=>(SV.ee (zI _ _)))
theorem fz{x0:Zr}{r:Int}(h:di x0=some r):Pure ah 104 [.agg (eZ x0)] (ay r):=by
 obtain⟨bu,bw⟩:=x0;refine bD Tryz.func104 Y (af Y) (λeI M vs hvs=>?_);unfold di at h;refine sr<|bx Y<|ag Y<|dn<|qq<|bj<|sr<|fa Y Y<|lV Y Y Y<|bE h λx6 h6 h=>cl (cG h6) ⟨Y,aq⟩<|lE h λx7 h7 h=>ln Y h7<|lE h λx8 h8 h=>eq _ Y Y (xg (p:=x7) (q:=0) h8)<|ag Y<|dn ?_;cases x8;refine cF<|sr<|fa Y Y<|lV Y Y Y<|ag Y<|dn ?_;replace h:=F h;cases bu;refine cF<|bC<|bG.n<|aV.n<|sr<|ag Y<|dn<|bf ?_;obtain rfl:=O (F h);exact R1 Y;refine cT<|sr<|ag Y<|dn<|bf<|bG.r<|aV.r ?_;obtain rfl:=O (V h);exact R1 Y;refine cT<|sr<|ag Y<|dn<|bf<|bG.r<|aV.r ?_;obtain rfl:=O (V h);exact R1 Y
theorem E7{x0:Zr}{x1:Zr}{r:Int}(h:nv x0 x1=some r):Pure ah 129 [.agg (eZ x0),.agg (eZ x1)] (ay r):=by
 obtain⟨bu,bw⟩:=x0;obtain⟨cV,cS⟩:=x1;refine bD Tryz.func129 Y (af Y) (λeI M vs hvs=>?_);unfold nv at h;refine sr<|bx Y<|bx Y<|ag Y<|dn<|qq<|bh mixed<|ld Y Y (.k2 Y Y)<|bE h λx8 h8 h=>cl (fz h8) ⟨Y,aq⟩<|ld Y Y (.k2 Y Y)<|bE h λeY iO h=>cl (fz iO) ⟨Y,aq⟩<|ag Y<|ag Y ?_;refine RT.done ⟨by kernel_rfl,?_⟩;refine aV.n<|qq<|bj<|sr<|mv Y<|mv Y<|lE h λga lB h=>ls _ Y Y lB<|ag Y<|dn ?_;cases ga;refine cF<|sr<|mv Y<|mv Y<|lE (F h) λgX lM h=>gt _ Y Y lM<|ag Y<|dn ?_;cases gX;refine cF<|sr<|mv Y<|lE (F h) λiv o6 h=>ls _ Y Y o6<|ag Y<|dn ?_;cases iv;refine cF<|bC<|bG.n<|aV.n<|qq<|bh mixed<|fa Y Y<|lV Y Y Y<|bE (F h) λrE CX h=>cl (cG CX) ⟨Y,aq⟩<|fa Y Y<|lV Y Y Y<|bE h λoq uS h=>cl (cG uS) ⟨Y,aq⟩<|bE h λot yX h=>cl (gG yX) ⟨Y,Y,aq⟩<|ag Y ?_;refine RT.done ⟨by kernel_rfl,?_⟩;refine aV.n<|bf ?_;obtain rfl:=O h;exact R1 Y;refine cT<|qq<|bh mixed<|fa Y Y<|lV Y Y Y<|bE (V h) λjE qp h=>cl (cG qp) ⟨Y,aq⟩<|fa Y Y<|lV Y Y Y<|bE h λnn vr h=>cl (cG vr) ⟨Y,aq⟩<|bE h λoY wE h=>cl (gG wE) ⟨Y,Y,aq⟩<|ag Y ?_;refine RT.done ⟨by kernel_rfl,?_⟩;refine aV.n<|bf<|bG.r<|aV.r ?_;obtain rfl:=O h;exact R1 Y;refine cT<|sr<|ag Y<|dn<|bf<|bG.r<|aV.r ?_;obtain rfl:=O (V h);exact R1 Y;refine cT<|sr<|ag Y<|dn<|bf<|bG.r<|aV.r ?_
 obtain rfl:=O (V h);exact R1 Y
theorem rZ{x0:Zr}{x1:Zr}(N:Nat){r:Zr×Zr×Int}(h:fI x0 x1=some r):cP ah 169 N [.agg (eZ x0),.agg (eZ x1)] (.yB [.agg ((fZ N) r.1),.agg ((fZ N) r.2.1),ay r.2.2]):=by
 obtain⟨bu,bw⟩:=x0;obtain⟨cV,cS⟩:=x1;refine bB Tryz.func169 Y (af Y) (λeI M vs hN hvs=>?_);unfold fI at h;refine sr<|bx Y<|bx Y<|al (cs:=[az false,nw N ax]) (by exact⟨au,bk,aq⟩) Y<|al (cs:=[az false,nw N ax]) (by exact⟨au,bk,aq⟩) Y<|ag Y<|dn<|qq<|bh mixed<|fa Y Y<|lV Y Y Y<|bE h λjv lK h=>cl (cG lK) ⟨Y,aq⟩<|fa Y Y ?_;refine lV Y Y Y<|bE h λjD n8 h=>cl (cG n8) ⟨Y,aq⟩<|ag Y<|ag Y ?_;refine RT.done ⟨by kernel_rfl,?_⟩;refine aV.n<|qq<|sr<|mv Y<|lE h λgX lM h=>ln Y lM<|lE h λmm n7 h=>eq _ Y Y (xg (p:=gX) (q:=0) n7)<|dn ?_;cases mm;refine fs<|sr<|mv Y<|mv Y ?_;obtain⟨⟨N7,ZY⟩,wD,h⟩:=bS (F h);refine RT.bL .none (pL N wD) hN Y ⟨Y,Y,aq⟩ T<|mv Y<|ex Y Y<|ex Y Y<|ag Y<|ag Y<|dn<|sr<|mv Y<|bE h λjq nW h=>RT.bL .none (qb N nW) hN Y ⟨Y,aq⟩ T<|ag Y<|dn<|qq<|qq ?_;refine bH h (λj3=>AS.cL 52 [(2,.ptr 2 0),(3,.ptr 3 0),(4,.ptr 4 0),(5,.ptr 5 0),(8,.sv (slc 1 (List.map aY jD))),(9,.sv (nw N (slc 1 (List.map aY N7)))),(10,.sv (nw N (slc 1 (List.map aY jq)))),(36,aj j3.1)] [(5,⟨41,[aj false,.sv (nw N ax)]⟩),(4,⟨41,[aj false,.sv (nw N ax)]⟩),(3,⟨41,[aj cV,.sv (slc 1 (List.map aY cS))]⟩),(2,⟨41,[aj j3.2,.sv (slc 1 (List.map aY bw))]⟩)] []) (λh=>?_) (λj3 h=>?_)
 refine aW<|fa Y Y<|lV Y Y Y<|mv Y<|bE h λTD M5 h=>?_;cases bu;obtain rfl:=O (F M5);exact ww<|ww<|ww<|pF Y<|dn<|⟨(false,false),h,wR []⟩;refine gm Y<|lE (V M5) λoq uS M5=>RT.DQ (.some Y Y) Y T uS<|lE M5 λot yX M5=>gg _ Y Y yX ?_;obtain rfl:=O M5;exact pT Y<|dn<|⟨(ot,true),h,wR []⟩;obtain⟨N8,Jw⟩:=j3
 try dsimp only
 refine aV.n ?_;refine bH h (λj5=>AS.cL 52 [(2,.ptr 2 0),(3,.ptr 3 0),(4,.ptr 4 0),(5,.ptr 5 0),(9,.sv (nw N (slc 1 (List.map aY j5.1)))),(10,.sv (nw N (slc 1 (List.map aY j5.2))))] [(5,⟨41,[aj false,.sv (nw N ax)]⟩),(4,⟨41,[aj false,.sv (nw N ax)]⟩),(3,⟨41,[aj cV,.sv (slc 1 (List.map aY cS))]⟩),(2,⟨41,[aj Jw,.sv (slc 1 (List.map aY bw))]⟩)] []) (λh=>?_) (λj5 h=>?_);cases N8;exact fs<|⟨(N7,jq),(F h),wR []⟩;exact cT<|sr<|mv Y<|RT.xC (l:=[1]) (e:=aY) .none hN (.one Y (.nil)) T Y Y Y Y Y Y<|bE (V h) λvm G5 h=>RT.bL .none ((pK N G5).w (args':=[_,_]) ⟨ep,ep,aq⟩) hN Y ⟨Y,Y,aq⟩ T<|ag Y<|dn<|aW<|mv Y<|mv Y<|bE h λqm BQ h=>RT.bL .none ((lN N BQ).w (args':=[_,_]) ⟨au,ep,aq⟩) hN Y ⟨Y,Y,aq⟩ T<|ag Y<|dn<|⟨(vm,qm),h,wR []⟩;obtain⟨ZZ,TA⟩:=j5
 try dsimp only
 refine aV.n<|sr<|fa Y Y<|lV Y Y Y<|fa Y Y<|lV Y Y Y<|lE h λwm BR h=>RT.Vd .none _ Y Y T BR<|mv Y ?_;obtain⟨⟨TB,TC⟩,Oh,h⟩:=bS h;refine RT.bL .none (fJ N Oh) hN Y ⟨Y,Y,aq⟩ T<|mv Y ?_;obtain⟨⟨DT,DU⟩,Mi,h⟩:=bS h;refine RT.bL .none (fJ N Mi) hN Y ⟨Y,Y,aq⟩ T<|so Y Y Y<|so Y Y Y<|ag Y<|dn<|bf ?_;obtain rfl:=O h;exact RZ (.agg Y Y (.k2 Y Y) Y (.agg Y Y (.k2 Y Y) Y (.tmp Y (.nil))));refine cT<|sr<|bI (cs:=[_,_]) (cs':=[az false,nw N ax]) (.nil) ⟨au,bk,aq⟩<|bI (cs:=[_,_]) (cs':=[az false,nw N ax]) (.nil) ⟨au,bk,aq⟩<|so Y Y Y<|so Y Y Y<|ag Y<|dn<|bf<|aV.r ?_;obtain rfl:=O (V h);exact RZ (.agg Y Y (.k2 Y Y) Y (.agg Y Y (.k2 Y Y) Y (.tmp Y (.nil))))
theorem E8{x0:Zr}{x1:Zr}(N:Nat){r:Zr}(h:lf x0 x1=some r):cP ah 168 N [.agg (eZ x0),.agg (eZ x1)] (.agg ((fZ N) r)):=by
 obtain⟨bu,bw⟩:=x0;obtain⟨cV,cS⟩:=x1;refine bB Tryz.func168 Y (af Y) (λeI M vs hN hvs=>?_);unfold lf at h;refine sr<|bx Y<|bx Y<|al (cs:=[az false,nw N ax]) (by exact⟨au,bk,aq⟩) Y<|dn<|qq<|bh mixed<|fa Y Y<|lV Y Y Y<|bE h λjv lK h=>cl (cG lK) ⟨Y,aq⟩<|fa Y Y<|lV Y Y Y<|bE h λjD n8 h=>cl (cG n8) ⟨Y,aq⟩<|ag Y<|ag Y ?_;refine RT.done ⟨by kernel_rfl,?_⟩;refine aV.n<|qq<|bE h λRH JE o8=>?_;refine bU (λ(yY:(List Nat)×(List Nat))=>AS.cL 57 [(4,.ptr 4 0),(5,.sv (slc 1 (List.map aY yY.1))),(6,.sv (slc 1 (List.map aY yY.2)))] [(4,⟨41,[aj false,.sv (nw N ax)]⟩)] []) (λyY=>yY=RH) ?_ (λyY Om=>?_);refine bj ?_;refine bV JE (λAX=>AS.cL 57 [(4,.ptr 4 0),(5,.sv (slc 1 (List.map aY AX.1))),(6,.sv (slc 1 (List.map aY AX.2)))] [(4,⟨41,[aj false,.sv (nw N ax)]⟩)] []) (wR []) (λAX y12 G12 h On Oo=>?_);obtain⟨Mf,EU⟩:=AX
 try dsimp only
 refine qq<|qq ?_;refine bH h (λj16=>AS.cL 57 [(4,.ptr 4 0),(5,.sv (slc 1 (List.map aY Mf))),(6,.sv (slc 1 (List.map aY EU))),(29,aj j16)] [(4,⟨41,[aj false,.sv (nw N ax)]⟩)] []) (λh=>?_) (λJx h=>?_);refine aW<|mv Y<|lE h λgX lM h=>ln Y lM<|lE h λmm n7 h=>gt _ Y Y n7<|mv Y<|bE h λOa oD h=>?_;cases mm;obtain rfl:=O (F oD);exact ww<|ww<|ww<|ww<|wu<|wu<|wu<|ww<|pF Y<|dn<|⟨false,h,wR []⟩;refine gm Y<|lE (V oD) λkq qJ oD=>gn Y qJ<|lE oD λku sZ oD=>gg _ Y Y sZ<|gm Y<|bE oD λN9 sj oD=>?_;cases ku;refine gm Y<|lE (F sj) λmH vp sj=>gn Y vp<|lE sj λnn vr sj=>gg _ Y Y vr ?_;obtain rfl:=O sj;refine gF Y ?_;obtain rfl:=O oD;exact pT Y<|dn<|⟨nn,h,wR []⟩;obtain rfl:=O (V sj);refine ww<|ww<|ww<|gT Y ?_;obtain rfl:=O oD;exact pT Y<|dn<|⟨true,h,wR []⟩
 try dsimp only
 refine aV.n ?_;cases Jx;refine cF<|b9<|aV.x<|aV.x<|bG.x<|aV.n ?_;obtain rfl:=O (F h);exact⟨(Mf,EU),Oo _ Y,wR []⟩;refine cT<|bC<|aV.n<|bj<|sr<|mv Y<|mv Y ?_;obtain⟨⟨aeM,Z0⟩,AY,h⟩:=bS (V h);refine RT.bL .none (pL N AY) hN Y ⟨Y,Y,aq⟩ T<|mv Y<|ex Y Y<|ex Y Y<|ag Y<|ag Y<|dn<|aW<|mv Y<|mv Y<|bE h λzW Jy h=>RT.bL .none (qb N Jy) hN Y ⟨Y,aq⟩ T<|ag Y<|ag Y<|RT.done<|bG.n ?_;obtain rfl:=O h;exact aV.n ⟨(EU,zW),On _ Y,dD id Y Y Y Y Y ⟨.ptr,.sv au,.sv ep,aq⟩ ⟨⟨_,Y,⟨.sv au,.sv au,aq⟩⟩,aq⟩ trivial (λ_ _=>Y)⟩;subst Om;obtain⟨Ob,Od⟩:=yY
 try dsimp only
 refine aV.n<|qq<|sr<|mv Y<|lE o8 λmX sx o8=>ln Y sx<|lE o8 λwj G0 o8=>eq _ Y Y (xg (p:=mX) (q:=0) G0)<|dn ?_;cases wj;refine fs<|sr<|mv Y<|bE (F o8) λxj h46 o8=>cl (iQ h46) ⟨Y,aq⟩<|mv Y<|bE o8 λsu h48 o8=>cl (iQ h48) ⟨Y,aq⟩<|ag Y<|ag Y<|dn<|qq<|bE o8 λe24 afy Wd=>?_;refine bU (λ(DV:Nat)=>AS.cL 57 [(4,.ptr 4 0),(9,.sv (.v (.int .u64 ((DV:Nat):Int))))] [(4,⟨41,[aj false,.sv (nw N ax)]⟩)] []) (λDV=>DV=e24) ?_ (λDV afz=>?_);refine bj ?_;refine bV afy (λYK=>AS.cL 57 [(4,.ptr 4 0),(9,.sv (.v (.int .u64 ((YK.1:Nat):Int)))),(10,.sv (.v (.int .u64 ((YK.2:Nat):Int))))] [(4,⟨41,[aj false,.sv (nw N ax)]⟩)] []) (wR []) (λYK y24 G24 h afA afB=>?_);obtain⟨KS,yV⟩:=YK
 try dsimp only
 refine qq<|sr<|mv Y<|lE h λsi EZ h=>gt _ Y Y (ltN (p:=0) (q:=yV) EZ)<|dn ?_;cases si;refine cF<|b9<|aV.x<|aV.x<|bG.x<|aV.n ?_;obtain rfl:=O (F h);exact⟨KS,afB _ Y,wR []⟩;refine cT<|bC<|aV.n<|bj<|bh mixed<|mv Y<|mv Y<|mv Y<|bE (V h) λAr I3 h=>RT.rem .none _ Y Y T (nzR I3) (Rn I3)<|ag Y<|ag Y ?_;refine RT.done ⟨by kernel_rfl,?_⟩;refine bG.n ?_;obtain rfl:=O h;exact aV.n ⟨(yV,Ar),afA _ Y,wR []⟩;subst afz
 try dsimp only
 refine aV.n<|sr<|mv Y ?_;obtain⟨⟨pJ,qF⟩,G3,Wd⟩:=bS Wd;refine RT.bL .none (jL N G3) hN Y ⟨Y,Y,aq⟩ T<|so Y Y Y<|dn<|bf ?_;obtain rfl:=O Wd;exact RZ (.agg Y Y (.k2 Y Y) Y (.nil));refine cT<|sr<|mv Y<|bE (V o8) λsS DW o8=>RT.bL .none (nM N DW) hN Y ⟨Y,aq⟩ T ?_;obtain⟨⟨GY,GZ⟩,G4,o8⟩:=bS o8;refine RT.bL .none (fJ N G4) hN Y ⟨Y,Y,aq⟩ T<|so Y Y Y<|dn<|bf<|aV.r ?_;obtain rfl:=O o8;exact RZ (.agg Y Y (.k2 Y Y) Y (.nil))
end
section
open Go.Fw
noncomputable def ig(x0:Zr)(x1:Zr)(x2:Zr)(x3:Zr):Option (Zr×Zr):=match x0 with|⟨bu,bw⟩=>match x1 with|⟨cV,cS⟩=>match x2 with|⟨iS,jM⟩=>match x3 with|⟨y4,y5⟩=>(c9 ⟨bu,bw⟩ ⟨y4,y5⟩).bind λ⟨iI,iA⟩=>(c9 ⟨iS,jM⟩ ⟨cV,cS⟩).bind λ⟨lO,lP⟩=>(nq ⟨iI,iA⟩ ⟨lO,lP⟩).bind λ⟨pH,pI⟩=>(c9 ⟨cV,cS⟩ ⟨y4,y5⟩).bind λ⟨nX,nY⟩=>some (⟨pH,pI⟩,⟨nX,nY⟩)
noncomputable def ij(x0:Zr)(x1:Zr)(x2:Zr)(x3:Zr):Option (Zr×Zr):=match x0 with|⟨bu,bw⟩=>match x1 with|⟨cV,cS⟩=>match x2 with|⟨iS,jM⟩=>match x3 with|⟨y4,y5⟩=>(c9 ⟨bu,bw⟩ ⟨y4,y5⟩).bind λ⟨iI,iA⟩=>(c9 ⟨iS,jM⟩ ⟨cV,cS⟩).bind λ⟨lO,lP⟩=>(nu ⟨iI,iA⟩ ⟨lO,lP⟩).bind λ⟨pH,pI⟩=>(c9 ⟨cV,cS⟩ ⟨y4,y5⟩).bind λ⟨nX,nY⟩=>some (⟨pH,pI⟩,⟨nX,nY⟩)
noncomputable def ik(x0:Zr)(x1:Zr)(x2:Zr)(x3:Zr):Option (Zr×Zr):=match x0 with|⟨bu,bw⟩=>match x1 with|⟨cV,cS⟩=>match x2 with|⟨iS,jM⟩=>match x3 with|⟨y4,y5⟩=>(c9 ⟨bu,bw⟩ ⟨iS,jM⟩).bind λ⟨iI,iA⟩=>(c9 ⟨cV,cS⟩ ⟨y4,y5⟩).bind λ⟨lO,lP⟩=>some (⟨iI,iA⟩,⟨lO,lP⟩)
noncomputable def iq(x0:Zr)(x1:Zr)(x2:Zr)(x3:Zr):Option (Zr×Zr):=match x0 with|⟨bu,bw⟩=>match x1 with|⟨cV,cS⟩=>match x2 with|⟨iS,jM⟩=>match x3 with|⟨y4,y5⟩=>(c9 ⟨bu,bw⟩ ⟨y4,y5⟩).bind λ⟨iI,iA⟩=>(c9 ⟨cV,cS⟩ ⟨iS,jM⟩).bind λ⟨lO,lP⟩=>some (⟨iI,iA⟩,⟨lO,lP⟩)
noncomputable def dj(x0:Qr):Option (Zr×Zr):=match x0 with|⟨⟨bu,bw⟩,⟨bF,bJ⟩⟩=>(di ⟨bF,bJ⟩).bind λx6=>(some (decide ((x6:Int)=0))).bind λx8=>(bif x8 then(cm 1).bind λ⟨TE,TF⟩=>some (⟨bu,bw⟩,⟨TE,TF⟩)else(some (decide ((x6:Int)=(-1)))).bind λjv=>(bif jv then(gw ⟨bu,bw⟩).bind λ⟨pH,pI⟩=>(gw ⟨bF,bJ⟩).bind λ⟨nX,nY⟩=>some (⟨pH,pI⟩,⟨nX,nY⟩)else some (⟨bu,bw⟩,⟨bF,bJ⟩)))
noncomputable def fB(x0:Zr)(x1:Zr):Option (Qr):=match x0 with|⟨bu,bw⟩=>match x1 with|⟨cV,cS⟩=>(di ⟨cV,cS⟩).bind λx9=>(some (decide ((x9:Int)<0))).bind λeY=>cK (λ(j2:Bool×(List Nat)×Bool×(List Nat))=>match j2 with|⟨JF,JG,JH,JI⟩=>(lf ⟨JH,JI⟩ ⟨JF,JG⟩).bind λ⟨vu,vv⟩=>(fI ⟨JH,JI⟩ ⟨vu,vv⟩).bind λ⟨⟨BS,BT⟩,⟨We,Wf⟩,afC⟩=>(fI ⟨JF,JG⟩ ⟨vu,vv⟩).bind λ⟨⟨y7,y9⟩,⟨Wg,Wh⟩,afD⟩=>(dR ⟨y7,y9⟩).bind λ⟨Wi,Wj⟩=>cK (λ(Ou:Bool)=>cK (λ(j7:Bool×(List Nat))=>match j7 with|⟨JJ,JK⟩=>some ⟨⟨BS,BT⟩,⟨JJ,JK⟩⟩) λK7=>(bif Ou then K7 (false,[])else K7 (y7,y9))) λK5=>(bif Wj then(some (decide ((Wi:Int)=1))).bind λmX=>some mX else some false).bind λTG=>K5 TG) λK2=>(bif eY then(gw ⟨bu,bw⟩).bind λ⟨iI,iA⟩=>(gw ⟨cV,cS⟩).bind λ⟨Ov,Ow⟩=>K2 (Ov,Ow,iI,iA)else K2 (cV,cS,bu,bw))
noncomputable def dS(x0:Qr):Option (Int×Int×Bool):=match x0 with|⟨⟨bu,bw⟩,⟨bF,bJ⟩⟩=>(dR ⟨bu,bw⟩).bind λ⟨E9,aac⟩=>(dR ⟨bF,bJ⟩).bind λ⟨Dm,aad⟩=>cK (λ(JM:Bool)=>(bif JM then some (0,0,false)else(some (decide ((Dm:Int)=0))).bind λsS=>cK (λ(TH:Int×Int)=>match TH with|⟨G7,TI⟩=>some (G7,TI,true)) λK24=>(bif sS then K24 (E9,1)else(some (decide ((Dm:Int)<0))).bind λxj=>cK (λ(TJ:Int×Int)=>match TJ with|⟨Ox,Oy⟩=>K24 (Ox,Oy)) λK26=>(bif xj then(some (IntKind.i64.wrap (0-E9))).bind λsu=>(some (IntKind.i64.wrap (0-Dm))).bind λsi=>K26 (su,si)else K26 (E9,Dm))))) λYL=>(some (!aac)).bind λja=>(bif ja then some true else(some (!aad)).bind λku=>some ku).bind λOz=>(bif Oz then some true else(some (decide ((E9:Int)<=(-2147483648)))).bind λnn=>some nn).bind λWk=>(bif Wk then some true else(some (decide ((2147483648:Int)<=E9))).bind λrE=>some rE).bind λWm=>(bif Wm then some true else(some (decide ((Dm:Int)<=(-2147483648)))).bind λot=>some ot).bind λWn=>(bif Wn then some true else(some (decide ((2147483648:Int)<=Dm))).bind λvm=>some vm).bind λWo=>YL Wo
noncomputable def fC(x0:Int)(x1:Int):Option (Qr):=(cy (λ(s6:Int×Int)=>match s6 with|⟨r9,Mm⟩=>(show Option ((Int×Int)⊕(Int))from(some (decide ((Mm:Int)≠0))).bind λeY=>(bif eY then(L0 r9 Mm).bind λga=>some (.inl (Mm,ga))else some (.inr r9)))) (x0,x1)).bind λFa=>(some (decide ((Fa:Int)<0))).bind λjD=>cK (λ(Mn:Int)=>(some (decide ((Mn:Int)=x1))).bind λiv=>(bif iv then(xz x0 Mn).bind λjE=>(cm jE).bind λ⟨mA,lJ⟩=>some ⟨⟨mA,lJ⟩,⟨false,[]⟩⟩else(xz x0 Mn).bind λjq=>(cm jq).bind λ⟨vn,vo⟩=>(xz x1 Mn).bind λuG=>(cm uG).bind λ⟨OA,OB⟩=>some ⟨⟨vn,vo⟩,⟨OA,OB⟩⟩)) λK8=>(bif jD then(some (IntKind.i64.wrap (0-Fa))).bind λgX=>K8 gX else K8 Fa)
noncomputable def pM(x0:Int):Option (Int):=(some (decide ((x0:Int)<0))).bind λx5=>(bif x5 then some (-1)else(some (decide ((0:Int)<x0))).bind λx8=>(bif x8 then some 1 else some 0))
noncomputable def jN(x1:Qr)(x2:Qr):Option (Qr):=match x1 with|⟨⟨cV,cS⟩,⟨jc,jd⟩⟩=>match x2 with|⟨⟨iS,jM⟩,⟨BU,BV⟩⟩=>(dj ⟨⟨cV,cS⟩,⟨jc,jd⟩⟩).bind λ⟨⟨kx,kz⟩,⟨kQ,kR⟩⟩=>(dj ⟨⟨iS,jM⟩,⟨BU,BV⟩⟩).bind λ⟨⟨kA,kC⟩,⟨kS,kT⟩⟩=>(ig ⟨kx,kz⟩ ⟨kQ,kR⟩ ⟨kA,kC⟩ ⟨kS,kT⟩).bind λ⟨⟨kU,kV⟩,⟨kW,kX⟩⟩=>(fB ⟨kU,kV⟩ ⟨kW,kX⟩).bind λ⟨⟨qE,pG⟩,⟨td,tf⟩⟩=>some ⟨⟨qE,pG⟩,⟨td,tf⟩⟩
noncomputable def jO(x1:Qr)(x2:Qr):Option (Qr):=match x1 with|⟨⟨cV,cS⟩,⟨jc,jd⟩⟩=>match x2 with|⟨⟨iS,jM⟩,⟨BU,BV⟩⟩=>(dj ⟨⟨cV,cS⟩,⟨jc,jd⟩⟩).bind λ⟨⟨kx,kz⟩,⟨kQ,kR⟩⟩=>(dj ⟨⟨iS,jM⟩,⟨BU,BV⟩⟩).bind λ⟨⟨kA,kC⟩,⟨kS,kT⟩⟩=>(ij ⟨kx,kz⟩ ⟨kQ,kR⟩ ⟨kA,kC⟩ ⟨kS,kT⟩).bind λ⟨⟨kU,kV⟩,⟨kW,kX⟩⟩=>(fB ⟨kU,kV⟩ ⟨kW,kX⟩).bind λ⟨⟨qE,pG⟩,⟨td,tf⟩⟩=>some ⟨⟨qE,pG⟩,⟨td,tf⟩⟩
noncomputable def jP(x1:Qr)(x2:Qr):Option (Qr):=match x1 with|⟨⟨cV,cS⟩,⟨jc,jd⟩⟩=>match x2 with|⟨⟨iS,jM⟩,⟨BU,BV⟩⟩=>(dj ⟨⟨cV,cS⟩,⟨jc,jd⟩⟩).bind λ⟨⟨kx,kz⟩,⟨kQ,kR⟩⟩=>(dj ⟨⟨iS,jM⟩,⟨BU,BV⟩⟩).bind λ⟨⟨kA,kC⟩,⟨kS,kT⟩⟩=>(ik ⟨kx,kz⟩ ⟨kQ,kR⟩ ⟨kA,kC⟩ ⟨kS,kT⟩).bind λ⟨⟨kU,kV⟩,⟨kW,kX⟩⟩=>(fB ⟨kU,kV⟩ ⟨kW,kX⟩).bind λ⟨⟨qE,pG⟩,⟨td,tf⟩⟩=>some ⟨⟨qE,pG⟩,⟨td,tf⟩⟩
noncomputable def iB(x1:Qr)(x2:Qr):Option (Qr):=match x1 with|⟨⟨cV,cS⟩,⟨jc,jd⟩⟩=>match x2 with|⟨⟨iS,jM⟩,⟨BU,BV⟩⟩=>(dj ⟨⟨cV,cS⟩,⟨jc,jd⟩⟩).bind λ⟨⟨kx,kz⟩,⟨kQ,kR⟩⟩=>(dj ⟨⟨iS,jM⟩,⟨BU,BV⟩⟩).bind λ⟨⟨kA,kC⟩,⟨kS,kT⟩⟩=>(iq ⟨kx,kz⟩ ⟨kQ,kR⟩ ⟨kA,kC⟩ ⟨kS,kT⟩).bind λ⟨⟨kU,kV⟩,⟨kW,kX⟩⟩=>(fB ⟨kU,kV⟩ ⟨kW,kX⟩).bind λ⟨⟨qE,pG⟩,⟨td,tf⟩⟩=>some ⟨⟨qE,pG⟩,⟨td,tf⟩⟩
noncomputable def cY(x0:Int):Option (Qr):=(cm x0).bind λ⟨Wp,Wq⟩=>some ⟨⟨Wp,Wq⟩,⟨false,[]⟩⟩
noncomputable def cZ(x0:Qr):Option (Qr):=match x0 with|⟨⟨bu,bw⟩,⟨bF,bJ⟩⟩=>(dS ⟨⟨bu,bw⟩,⟨bF,bJ⟩⟩).bind λ⟨x8a,x8b,x8c⟩=>(bif x8c then(fC x8a x8b).bind λ⟨⟨lO,lP⟩,⟨G9,He⟩⟩=>some ⟨⟨lO,lP⟩,⟨G9,He⟩⟩else(dj ⟨⟨bu,bw⟩,⟨bF,bJ⟩⟩).bind λ⟨⟨OC,OD⟩,⟨OE,OF⟩⟩=>(fB ⟨OC,OD⟩ ⟨OE,OF⟩).bind λ⟨⟨TK,TL⟩,⟨TM,TN⟩⟩=>some ⟨⟨TK,TL⟩,⟨TM,TN⟩⟩)
noncomputable def eV(x0:Qr):Option (Int):=match x0 with|⟨⟨bu,bw⟩,⟨bF,bJ⟩⟩=>(di ⟨bF,bJ⟩).bind λx5=>(some (decide ((x5:Int)<0))).bind λx6=>(bif x6 then(di ⟨bu,bw⟩).bind λx9=>(some (IntKind.i64.wrap (0-x9))).bind λeY=>some eY else(di ⟨bu,bw⟩).bind λjv=>some jv)
noncomputable def oE(x0:Qr)(x1:Qr):Option (Qr):=match x0 with|⟨⟨bu,bw⟩,⟨bF,bJ⟩⟩=>match x1 with|⟨⟨cV,cS⟩,⟨jc,jd⟩⟩=>(dS ⟨⟨bu,bw⟩,⟨bF,bJ⟩⟩).bind λ⟨BW,za,BX⟩=>(dS ⟨⟨cV,cS⟩,⟨jc,jd⟩⟩).bind λ⟨BY,zb,BZ⟩=>cK (λ(tg:Bool)=>(bif tg then(some (IntKind.i64.wrap (BW*zb))).bind λjq=>(some (IntKind.i64.wrap (BY*za))).bind λkp=>(some (IntKind.i64.wrap (jq+kp))).bind λuG=>(some (IntKind.i64.wrap (za*zb))).bind λqa=>(fC uG qa).bind λ⟨⟨Hf,Hg⟩,⟨Hh,Hi⟩⟩=>some ⟨⟨Hf,Hg⟩,⟨Hh,Hi⟩⟩else(jN ⟨⟨bu,bw⟩,⟨bF,bJ⟩⟩ ⟨⟨cV,cS⟩,⟨jc,jd⟩⟩).bind λ⟨⟨zZ,z3⟩,⟨Hj,Hl⟩⟩=>some ⟨⟨zZ,z3⟩,⟨Hj,Hl⟩⟩)) λK3=>(bif BX then some BZ else some false).bind λz4=>K3 z4
noncomputable def oF(x0:Qr)(x1:Qr):Option (Qr):=match x0 with|⟨⟨bu,bw⟩,⟨bF,bJ⟩⟩=>match x1 with|⟨⟨cV,cS⟩,⟨jc,jd⟩⟩=>(dS ⟨⟨bu,bw⟩,⟨bF,bJ⟩⟩).bind λ⟨BW,za,BX⟩=>(dS ⟨⟨cV,cS⟩,⟨jc,jd⟩⟩).bind λ⟨BY,zb,BZ⟩=>cK (λ(tg:Bool)=>(bif tg then(some (IntKind.i64.wrap (BW*zb))).bind λjq=>(some (IntKind.i64.wrap (BY*za))).bind λkp=>(some (IntKind.i64.wrap (jq-kp))).bind λuG=>(some (IntKind.i64.wrap (za*zb))).bind λqa=>(fC uG qa).bind λ⟨⟨Hf,Hg⟩,⟨Hh,Hi⟩⟩=>some ⟨⟨Hf,Hg⟩,⟨Hh,Hi⟩⟩else(jO ⟨⟨bu,bw⟩,⟨bF,bJ⟩⟩ ⟨⟨cV,cS⟩,⟨jc,jd⟩⟩).bind λ⟨⟨zZ,z3⟩,⟨Hj,Hl⟩⟩=>some ⟨⟨zZ,z3⟩,⟨Hj,Hl⟩⟩)) λK3=>(bif BX then some BZ else some false).bind λz4=>K3 z4
noncomputable def mI(x0:Qr)(x1:Qr):Option (Qr):=match x0 with|⟨⟨bu,bw⟩,⟨bF,bJ⟩⟩=>match x1 with|⟨⟨cV,cS⟩,⟨jc,jd⟩⟩=>(dS ⟨⟨bu,bw⟩,⟨bF,bJ⟩⟩).bind λ⟨BW,za,BX⟩=>(dS ⟨⟨cV,cS⟩,⟨jc,jd⟩⟩).bind λ⟨BY,zb,BZ⟩=>cK (λ(tg:Bool)=>(bif tg then(some (IntKind.i64.wrap (BW*BY))).bind λjq=>(some (IntKind.i64.wrap (za*zb))).bind λkp=>(fC jq kp).bind λ⟨⟨TO,TP⟩,⟨TQ,TS⟩⟩=>some ⟨⟨TO,TP⟩,⟨TQ,TS⟩⟩else(jP ⟨⟨bu,bw⟩,⟨bF,bJ⟩⟩ ⟨⟨cV,cS⟩,⟨jc,jd⟩⟩).bind λ⟨⟨zX,zY⟩,⟨TT,TU⟩⟩=>some ⟨⟨zX,zY⟩,⟨TT,TU⟩⟩)) λK3=>(bif BX then some BZ else some false).bind λz4=>K3 z4
noncomputable def oG(x0:Qr)(x1:Qr):Option (Qr×Int):=match x0 with|⟨⟨bu,bw⟩,⟨bF,bJ⟩⟩=>match x1 with|⟨⟨cV,cS⟩,⟨jc,jd⟩⟩=>(eV ⟨⟨cV,cS⟩,⟨jc,jd⟩⟩).bind λjv=>(some (decide ((jv:Int)=0))).bind λga=>(bif ga then some (⟨⟨false,[]⟩,⟨false,[]⟩⟩,7)else(dS ⟨⟨bu,bw⟩,⟨bF,bJ⟩⟩).bind λ⟨OG,RM,Wr⟩=>(dS ⟨⟨cV,cS⟩,⟨jc,jd⟩⟩).bind λ⟨Mo,Mp,Ws⟩=>cK (λ(B0:Bool)=>(bif B0 then(some (decide ((Mo:Int)<0))).bind λuG=>cK (λ(j6:Int×Int)=>match j6 with|⟨aae,aaf⟩=>(some (IntKind.i64.wrap (aae*Mp))).bind λmX=>(some (IntKind.i64.wrap (RM*aaf))).bind λsS=>(fC mX sS).bind λ⟨⟨GY,GZ⟩,⟨TV,TW⟩⟩=>some (⟨⟨GY,GZ⟩,⟨TV,TW⟩⟩,0)) λK6=>(bif uG then(some (IntKind.i64.wrap (0-OG))).bind λot=>(some (IntKind.i64.wrap (0-Mo))).bind λuE=>K6 (ot,uE)else K6 (OG,Mo))else(iB ⟨⟨bu,bw⟩,⟨bF,bJ⟩⟩ ⟨⟨cV,cS⟩,⟨jc,jd⟩⟩).bind λ⟨⟨GS,GU⟩,⟨TX,TY⟩⟩=>some (⟨⟨GS,GU⟩,⟨TX,TY⟩⟩,0))) λK3=>(bif Wr then some Ws else some false).bind λTZ=>K3 TZ)
noncomputable def mJ(x0:Qr):Option (Qr):=match x0 with|⟨⟨bu,bw⟩,⟨bF,bJ⟩⟩=>(cZ ⟨⟨bu,bw⟩,⟨bF,bJ⟩⟩).bind λ⟨⟨B3,Fb⟩,⟨Dn,Fe⟩⟩=>(gw ⟨B3,Fb⟩).bind λ⟨wI,wJ⟩=>some ⟨⟨wI,wJ⟩,⟨Dn,Fe⟩⟩
noncomputable def oH(x0:Qr)(x1:Qr):Option (Int):=match x0 with|⟨⟨bu,bw⟩,⟨bF,bJ⟩⟩=>match x1 with|⟨⟨cV,cS⟩,⟨jc,jd⟩⟩=>(dj ⟨⟨bu,bw⟩,⟨bF,bJ⟩⟩).bind λ⟨⟨kx,kz⟩,⟨kQ,kR⟩⟩=>(dj ⟨⟨cV,cS⟩,⟨jc,jd⟩⟩).bind λ⟨⟨kA,kC⟩,⟨kS,kT⟩⟩=>(di ⟨kx,kz⟩).bind λkq=>(di ⟨kA,kC⟩).bind λjE=>cK (λ(B0:Bool)=>(bif B0 then(some (IntKind.i64.wrap (kq-jE))).bind λoq=>(pM oq).bind λot=>some ot else(c9 ⟨kx,kz⟩ ⟨kS,kT⟩).bind λ⟨T0,T1⟩=>(c9 ⟨kA,kC⟩ ⟨kQ,kR⟩).bind λ⟨T2,T3⟩=>(nv ⟨T0,T1⟩ ⟨T2,T3⟩).bind λqm=>some qm)) λK3=>(some (decide ((kq:Int)≠jE))).bind λnn=>(bif nn then some true else(some (decide ((kq:Int)=0))).bind λvk=>some vk).bind λT4=>K3 T4
end
end Go.Proofs.YtningmnklfpfjaaGreat
