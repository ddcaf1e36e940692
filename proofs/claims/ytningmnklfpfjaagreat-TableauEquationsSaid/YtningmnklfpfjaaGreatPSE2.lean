/- A part of the proof: the framework, the plain functions, the followed functions, the plain laws. -/
import Derived.Test.YtningmnklfpfjaaGreatPSE1
set_option linter.unusedVariables false
set_option linter.unusedSimpArgs false
set_option linter.unusedSectionVars false
namespace Go.Fw
section
open Go.RowKit
def cQ{J R:Type}(k:J->Option R)(f:(J->Option R)->Option R):Option R:=f k
theorem bind_some{α β:Type}{x:Option α}{f:α->Option β}{r:β}(h:Option.bind x f=some r):∃a,x=some a/\f a=some r:=by
 cases x with
 |none=>cases h
 |some a=>exact⟨a,Y,h⟩
theorem sk{b w:Bool}(h:(b==w)=false):b≠w:=by cases b<;>cases w<;>simp_all
def cW{α:Type}(l:List α)(i:Int):Option α:=if 0<=i then l[i.toNat]? else none
def oP{α:Type}(l:List α)(i:Int):Option Nat:=if 0<=i/\i<l.length then some i.toNat else none
def wH{α:Type}(l:List α)(lo hi:Int):Option (List α):=if 0<=lo/\lo<=hi/\hi<=l.length then some (cut l lo.toNat hi.toNat)else none
def wh{α:Type}(by_:Nat)(l k:List α):Option (List α):=if(l.length+k.length)*by_<=140737488355328/\l.length+k.length<=140737488355328 then some (l++k)else none
def z2{α:Type}(by_:Nat)(c:Int)(z:α):Option (List α):=if 0<=c/\by_*c<=281474976710656/\c<=140737488355328 then some (List.replicate c.toNat z)else none
def LG{α:Type}(by_:Nat)(c:Int):Option (List α):=if 0<=c/\by_*c<=281474976710656/\c<=140737488355328 then some []else none
def stM{α:Type}(l:List α)(n:Nat)(y:α):Option (List α):=if n<l.length then some (l.set n y)else none
def wI(a b:Int):Option Int:=if b=0 then none else some (IntKind.i64.wrap (a.tdiv b))
def JR(a b:Int):Option Int:=if b=0 then none else some (a.tmod b)
def DK(M a b:Nat):Option Nat:=if b=0 then none else some (a/b%M)
def Co(a b:Nat):Option Nat:=if b=0 then none else some (a%b)
def oQ(M a b:Nat):Nat:=(((a:Int)-b)%M).toNat
theorem pX{α:Type}{l:List α}{i:Int}{a:α}(h:cW l i=some a):0<=i/\l[i.toNat]? =some a:=by
 unfold cW at h;split at h
 ·exact⟨by assumption,h⟩
 cases h
theorem LH{α:Type}{l:List α}{i:Int}{k:Nat}(h:oP l i=some k):0<=i/\i<l.length/\i.toNat=k:=by
 unfold oP at h;split at h
 ·rename_i hh;exact⟨hh.1,hh.2,Option.some.inj h⟩
 cases h
theorem CY{α:Type}{l l':List α}{a b:Int}(h:wH l a b=some l'):0<=a/\a<=b/\b<=l.length/\cut l a.toNat b.toNat=l':=by
 unfold wH at h;split at h
 ·rename_i hh;exact⟨hh.1,hh.2.1,hh.2.2,Option.some.inj h⟩
 cases h
theorem wJ{α:Type}{by_:Nat}{l k l':List α}(h:wh by_ l k=some l'):(l.length+k.length)*by_<=140737488355328/\l.length+k.length<=140737488355328/\l++k=l':=by
 unfold wh at h;split at h
 ·rename_i hh;exact⟨hh.1,hh.2,Option.some.inj h⟩
 cases h
theorem LI{α:Type}{by_:Nat}{c:Int}{z:α}{l':List α}(h:z2 by_ c z=some l'):0<=c/\by_*c<=281474976710656/\c<=140737488355328/\List.replicate c.toNat z=l':=by
 unfold z2 at h;split at h
 ·rename_i hh;exact⟨hh.1,hh.2.1,hh.2.2,Option.some.inj h⟩
 cases h
theorem LJ{α:Type}{by_:Nat}{c:Int}{l':List α}(h:LG by_ c=some l'):0<=c/\by_*c<=281474976710656/\c<=140737488355328/\[]=l':=by
 unfold LG at h;split at h
 ·rename_i hh;exact⟨hh.1,hh.2.1,hh.2.2,Option.some.inj h⟩
 cases h
theorem Fh{α:Type}{l l':List α}{n:Nat}{y:α}(h:stM l n y=some l'):n<l.length/\l.set n y=l':=by
 unfold stM at h;split at h
 ·rename_i hh;exact⟨hh,Option.some.inj h⟩
 cases h
def nG{S E:Type}(body:S->Option (S⊕E)):Nat->S->Option E
 |0,_=>none
 |n+1,s=>match body s with
  |some (.inl s')=>nG body n s'
  |some (.inr e)=>some e
  |none=>none
theorem vm{S E:Type}{body:S->Option (S⊕E)}:∀{n m:Nat} {s:S} {e:E},n<=m->nG body n s=some e->nG body m s=some e
 |0,_,_,_,_,h=>by cases h
 |n+1,0,_,_,hm,_=>by omega
 |n+1,m+1,s,e,hm,h=>by
  unfold nG at h⊢;cases hb:body s with
  |none=>rw[hb]at h;cases h
  |some y=>
   rw[hb]at h;cases y with
   |inl s'=>exact vm (by omega) h
   |inr e'=>exact h
open Classical in
noncomputable def cu{S E:Type}(body:S->Option (S⊕E))(s:S):Option E:=if h:∃n e,nG body n s=some e then some (Classical.choose (Classical.choose_spec h))else none
theorem vn{S E:Type}{body:S->Option (S⊕E)}{s:S}{e:E}(h:cu body s=some e):∃n,nG body n s=some e:=by
 unfold cu at h;split at h
 ·rename_i hh;exact⟨_,by rw[<-Option.some.inj h];exact Classical.choose_spec (Classical.choose_spec hh)⟩
 cases h
theorem AP{S E:Type}{body:S->Option (S⊕E)}{s:S}{e:E}{n:Nat}(h:nG body n s=some e):cu body s=some e:=by
 have hh:∃n e,nG body n s=some e:=⟨n,e,h⟩;unfold cu;rw[dif_pos hh];have h2:=Classical.choose_spec (Classical.choose_spec hh);have h3:=vm (Nat.le_max_left n (Classical.choose hh)) h;have h4:=vm (Nat.le_max_right n (Classical.choose hh)) h2;rw[h3]at h4;exact h4.symm
theorem vo{S E:Type}{body:S->Option (S⊕E)}{s:S}{e:E}(h:body s=some (.inr e)):cu body s=some e:=AP (n:=1) (by simp[nG,h])
theorem AQ{S E:Type}{body:S->Option (S⊕E)}{s s':S}(h:body s=some (.inl s')):cu body s=cu body s':=by
 cases hl:cu body s' with
 |some e=>obtain⟨n,hn⟩:=vn hl;exact AP (n:=n+1) (by simp[nG,h,hn])
 |none=>
  cases Zv:cu body s with
  |none=>rfl
  |some e=>
   obtain⟨n,hn⟩:=vn Zv;cases n with
   |zero=>cases hn
   |succ n=>simp only[nG,h]at hn;rw[AP hn]at hl;cases hl
theorem xS{S E:Type}{body:S->Option (S⊕E)}(I:S->Prop)(Post:E->Prop)(μ:S->Nat)
  (step:∀s,I s->(∃s',body s=some (.inl s')/\I s'/\μ s'<μ s)\/(∃e,body s=some (.inr e)/\Post e)) {s:S} (h:I s):∃e,cu body s=some e/\Post e:=by
 have key:∀(n:Nat) (s:S),μ s<=n->I s->∃e,cu body s=some e/\Post e:=by
  intro n
  induction n with
  |zero=>
   intro s hn hs;rcases step s hs with⟨s',_,_,h3⟩|⟨e,h1,h2⟩
   ·omega
   exact⟨e,vo h1,h2⟩
  |succ n ih=>
   intro s hn hs;rcases step s hs with⟨s',h1,h2,h3⟩|⟨e,h1,h2⟩
   ·obtain⟨e,q1,q2⟩:=ih s' (by omega) h2;exact⟨e,by rw[AQ h1];exact q1,q2⟩
   exact⟨e,vo h1,h2⟩
 exact key _ s (Nat.le_refl _) h
theorem LK{S E:Type}{body:S->Option (S⊕E)}(st:Nat->S)(n:Nat){e:E}(hs:∀k,k<n->body (st k)=some (.inl (st (k+1))))(he:body (st n)=some (.inr e)):cu body (st 0)=some e:=by
 have key:∀k,k<=n->cu body (st (n-k))=some e:=by
  intro k
  induction k with
  |zero=>intro _;exact vo he
  |succ k ih=>
   intro hk;rw[AQ (hs (n-(k+1)) (by omega)),show n-(k+1)+1=n-k by omega];exact ih (by omega)
 have:=key n (Nat.le_refl _);rwa[Nat.sub_self]at this
theorem xI{p q:Int}{c:Bool}(h:decide (p=q)=c):(p==q)=c:=by rw[<-h];exact Bool.beq_eq_decide_eq p q
theorem HC{p q:Int}{c:Bool}(h:decide (p≠q)=c):(p != q)=c:=by rw[<-h,bne,Bool.beq_eq_decide_eq p q];simp
theorem ZB{p q:Nat}{c:Bool}(h:decide (p=q)=c):((p:Int)==(q:Int))=c:=xI (by rw[<-h];simp[Int.natCast_inj])
theorem ZC{p q:Nat}{c:Bool}(h:decide (p≠q)=c):((p:Int) != (q:Int))=c:=HC (by rw[<-h];simp[Int.natCast_inj])
theorem ZD{p q:Nat}{c:Bool}(h:decide (p<q)=c):decide ((p:Int)<(q:Int))=c:=by rw[<-h];simp
theorem leN{p q:Nat}{c:Bool}(h:decide (p<=q)=c):decide ((p:Int)<=(q:Int))=c:=by rw[<-h];simp
theorem LL{p q c:Int}(h:max p q=c):(if q>p then q else p)=c:=by rw[<-h];split<;>omega
theorem HD{p q c:Int}(h:min p q=c):(if q<p then q else p)=c:=by rw[<-h];split<;>omega
class UK (k:IntKind) (b:outParam Nat) (M:outParam Nat):Prop where
 w:∀x:Int,k.wrap x=x%M
 hb:k.bits=b
 hm:2^b=M
instance:UK .u8 8 256:=⟨λx=>by simp[IntKind.wrap,IntKind.signed,IntKind.bits],rfl,by decide⟩
instance:UK .u32 32 4294967296:=⟨λx=>by simp[IntKind.wrap,IntKind.signed,IntKind.bits],rfl,by decide⟩
instance:UK .u64 64 18446744073709551616:=⟨λx=>by simp[IntKind.wrap,IntKind.signed,IntKind.bits],rfl,by decide⟩
section uk
variable {k:IntKind}{bi M a b c:Nat}[u:UK k bi M]
include u
theorem UK.pos:0<M:=by rw[<-u.hm];exact Nat.two_pow_pos _
theorem UK.nat(h:a%M=c):k.wrap (a:Int)=(c:Int):=by rw[u.w,<-h,Int.natCast_emod]
theorem UK.add(h:(a+b)%M=c):k.wrap ((a:Int)+(b:Int))=(c:Int):=by rw[<-Int.natCast_add];exact UK.nat h
theorem UK.mul(h:(a*b)%M=c):k.wrap ((a:Int)*(b:Int))=(c:Int):=by rw[<-Int.natCast_mul];exact UK.nat h
theorem UK.sub(h:oQ M a b=c):k.wrap ((a:Int)-(b:Int))=(c:Int):=by
 rw[u.w,<-h,oQ,Int.toNat_of_nonneg];exact Int.emod_nonneg _ (by have:=UK.pos (k:=k) (bi:=bi) (M:=M);omega)
theorem UK.neg(h:oQ M 0 a=c):k.wrap (0-(a:Int))=(c:Int):=UK.sub h
theorem UK.conv{p:Int}(h:(p%M).toNat=c):k.wrap p=(c:Int):=by
 rw[u.w,<-h,Int.toNat_of_nonneg];exact Int.emod_nonneg _ (by have:=UK.pos (k:=k) (bi:=bi) (M:=M);omega)
theorem UK.quo(h:DK M a b=some c):k.wrap ((a:Int).tdiv (b:Int))=(c:Int):=by
 unfold DK at h;split at h
 ·cases h
 rw[Int.tdiv_eq_ediv_of_nonneg (by omega),<-Int.natCast_ediv];exact UK.nat (Option.some.inj h)
theorem UK.shl{q:Int}{s:Nat}(hs:min q.toNat k.bits=s)(h:a*2^s%M=c):k.wrap ((a:Int)*2^(min q.toNat k.bits))=(c:Int):=by
 rw[hs,show(a:Int)*2^s=((a*2^s:Nat):Int) by rw[Int.natCast_mul,Int.natCast_pow];rfl];exact UK.nat h
theorem UK.ofInt(a:Nat):(BitVec.ofInt k.bits (a:Int)).toNat=a%M:=by
 rw[BitVec.ofInt_natCast,BitVec.toNat_ofNat,u.hb,u.hm]
theorem UK.or(h:(a ||| b)%M=c):k.wrap ((BitVec.ofInt k.bits (a:Int) ||| BitVec.ofInt k.bits (b:Int)).toNat)=(c:Int):=by
 rw[BitVec.toNat_or,UK.ofInt,UK.ofInt,<-u.hm,<-Nat.or_mod_two_pow,u.hm,h,UK.nat (a:=c) (c:=c)];rw[<-h,Nat.mod_mod]
end uk
theorem DL{k:IntKind}{a c s:Nat}{q:Int}(hs:min q.toNat k.bits=s)(h:a/2^s=c):(a:Int).fdiv (2^(min q.toNat k.bits))=(c:Int):=by
 rw[hs,Int.fdiv_eq_ediv_of_nonneg _ (Int.le_of_lt (Int.pow_pos (by decide))),<-h,Int.natCast_ediv,Int.natCast_pow];rfl
theorem O0{a b c:Nat}(h:Co a b=some c):(a:Int).tmod (b:Int)=(c:Int):=by
 unfold Co at h;split at h
 ·cases h
 rw[Int.tmod_eq_emod_of_nonneg (by omega),<-Option.some.inj h];rfl
theorem nzU{M a b c:Nat}(h:DK M a b=some c):(b:Int)≠0:=by
 unfold DK at h;split at h
 ·cases h
 omega
theorem ZE{a b c:Nat}(h:Co a b=some c):(b:Int)≠0:=by
 unfold Co at h;split at h
 ·cases h
 omega
theorem nzI{a b c:Int}(h:wI a b=some c):b≠0:=by unfold wI at h;split at h<;>simp_all
theorem aaO{a b c:Int}(h:JR a b=some c):b≠0:=by unfold JR at h;split at h<;>simp_all
theorem Te{a b c:Int}(h:wI a b=some c):IntKind.i64.wrap (a.tdiv b)=c:=by
 unfold wI at h;split at h
 ·cases h
 exact Option.some.inj h
theorem aaP{a b c:Int}(h:JR a b=some c):a.tmod b=c:=by
 unfold JR at h;split at h
 ·cases h
 exact Option.some.inj h
abbrev aY(x:Nat):List SV:=[.v (.int .u32 (x:Nat))]
abbrev cO(x:Int):List SV:=[.v (.int .i64 x)]
abbrev eB(x:Bool):List SV:=[.v (.bool x)]
abbrev eS{α:Type}(n:Nat)(e:α->List SV)(l:List α):List SV:=[slc n (l.map e)]
structure Zr where
 neg:Bool
 w:List Nat
structure Qr where
 num:Zr
 den:Zr
abbrev eZ(z:Zr):List SV:=[.v (.bool z.neg),slc 1 (z.w.map aY)]
abbrev eQ(q:Qr):List SV:=[.v (.bool q.num.neg),slc 1 (q.num.w.map aY),.v (.bool q.den.neg),slc 1 (q.den.w.map aY)]
class EL {α:Type} (e:α->List SV) (n:outParam Nat):Prop where
 len:∀x,(e x).length=n
 one:∀x,qG (e x)
instance:EL aY 1:=⟨λ_=>rfl,λ_=>inferInstance⟩
instance:EL cO 1:=⟨λ_=>rfl,λ_=>inferInstance⟩
instance{α:Type}{n:Nat}{e:α->List SV}:EL (eS n e) 1:=⟨λ_=>rfl,λ_=>inferInstance⟩
instance:EL eQ 4:=⟨λ_=>rfl,λ_=>inferInstance⟩
def ES{α:Type}(l k:List α):List α:=k.take l.length++l.drop k.length
structure Tb where
 made:Bool
 vars:Int
 uw:List (List Qr)
 basis:List Int
 rows:List (List Qr)
abbrev sn(x:Tb):List SV:=[.v (.bool x.made),.v (.int .i64 x.vars),slc 1 (x.uw.map (eS 4 eQ)),slc 1 (x.basis.map cO),slc 1 (x.rows.map (eS 4 eQ))]
structure Pv where
 row:Int
 col:Int
abbrev Oy(x:Pv):List SV:=[.v (.int .i64 x.row),.v (.int .i64 x.col)]
instance:EL Oy 2:=⟨λ_=>rfl,λ_=>inferInstance⟩
structure Lr where
 vars:Int
 uw:List (List Qr)
 rows:List (List Qr)
 bounds:List Qr
abbrev Fi(x:Lr):List SV:=[.v (.int .i64 x.vars),slc 1 (x.uw.map (eS 4 eQ)),slc 1 (x.rows.map (eS 4 eQ)),slc 4 (x.bounds.map eQ)]
structure Sz where
 vars:Int
 uw:Int
 rows:Int
 bounds:Int
abbrev eSz(x:Sz):List SV:=[.v (.int .i64 x.vars),.v (.int .i64 x.uw),.v (.int .i64 x.rows),.v (.int .i64 x.bounds)]
abbrev TR(E:TypeId)(sz:Nat){α:Type}(e:α->List SV)(l:List α):Row:=⟨E,sz,l.length,l.flatMap e⟩
theorem aB{α:Type}{n:Nat}{e:α->List SV}:SV.imp (.v (.slice none 0 0)) (slc n (([]:List α).map e)):=λ_ _ h=>.inl ⟨none,h,Y⟩
theorem sq{α:Type}(e:α->List SV)(l:List α):(l.map e).flatten=l.flatMap e:=by rw[List.flatMap_def]
theorem pY{α:Type}{e:α->List SV}{n:Nat}[h:EL e n](l:List α):Rows n (l.map e) (l.flatMap e):=⟨sq e l,λr hr=>by obtain⟨x,_,rfl⟩:=List.mem_map.1 hr;exact h.len x⟩
theorem CZ{M:Mem}:∀{l k:List SV} {vs:List Value},SV.ef M (l++k) vs->∃us ws,vs=us++ws/\SV.ef M l us/\SV.ef M k ws
 |[],_,vs,h=>⟨[],vs,Y,aq,h⟩
 |_::_,_,[],h=>h.elim
 |_::l,_,v::vs,h=>by
  obtain⟨us,ws,rfl,h1,h2⟩:=CZ (l:=l) h.2;exact⟨v::us,ws,Y,⟨h.1,h1⟩,h2⟩
theorem lZ{α:Type}{e:α->List SV}{n:Nat}[h:EL e n](l:List α):∀M vs,SV.ef M (l.flatMap e) vs->∀v∈vs,v.oneCell'=true:=by
 intro M
 induction l with
 |nil=>intro vs hv;cases vs with|nil=>simp|cons _ _=>exact hv.elim
 |cons x l ih=>
  intro vs hv;rw[List.flatMap_cons]at hv;obtain⟨us,ws,rfl,h1,h2⟩:=CZ hv;intro v hv;rcases List.mem_append.1 hv with hv|hv
  ·exact(h.one x).h M us h1 v hv
  exact ih ws h2 v hv
theorem Fj{α:Type}{e:α->List SV}{n:Nat}[h:EL e n]:∀{l:List α} {k:Nat} {a:α},l[k]? =some a->((l.flatMap e).drop (k*n)).take n=e a
 |[],_,_,hh=>by simp at hh
 |x::l,0,a,hh=>by
  simp only[List.getElem?_cons_zero,Option.some.injEq]at hh;subst hh;rw[List.flatMap_cons,Nat.zero_mul,List.drop_zero,<-h.len x,List.take_left'];rfl
 |x::l,k+1,a,hh=>by
  rw[List.getElem?_cons_succ]at hh;rw[List.flatMap_cons,show(k+1)*n=(e x).length+k*n by rw[h.len,Nat.add_mul];omega,<-List.drop_drop,List.drop_left']
  ·exact Fj hh
  rfl
theorem Fk{α:Type}{e:α->List SV}{n:Nat}[h:EL e n]{y:α}:∀{l:List α} {k:Nat},k<l.length->lO (l.flatMap e) (k*n) (e y)=(l.set k y).flatMap e:=by
 have aaQ:∀(u:List SV) (a b:List SV) (j:Nat),j+u.length<=a.length->lO (a++b) j u=lO a j u++b:=by
  intro u
  induction u with
  |nil=>intro a b j _;rfl
  |cons s u ih=>
   intro a b j hj;simp only[List.length_cons]at hj;simp only[lO];rw[List.set_append_left _ _ (by omega),ih _ _ _ (by rw[List.length_set];omega)]
 have aaR:∀(u:List SV) (a b:List SV) (j:Nat),lO (a++b) (a.length+j) u=a++lO b j u:=by
  intro u
  induction u with
  |nil=>intro a b j;rfl
  |cons s u ih=>
   intro a b j;simp only[lO];rw[List.set_append_right _ _ (by omega),show a.length+j-a.length=j by omega,show a.length+j+1=a.length+(j+1) by omega,ih]
 have aaS:∀(u a:List SV),u.length=a.length->lO a 0 u=u:=by
  have gen:∀(u a p:List SV),u.length=a.length->lO (p++a) p.length u=p++u:=by
   intro u
   induction u with
   |nil=>intro a p ha;have:a=[]:=List.eq_nil_of_length_eq_zero ha.symm;subst this;rfl
   |cons s u ih=>
    intro a p ha;cases a with
    |nil=>cases ha
    |cons t a=>
     simp only[lO];rw[List.set_append_right _ _ (Nat.le_refl _),Nat.sub_self,List.set_cons_zero,show p++s::a=(p++[s])++a by simp,show p.length+1=(p++[s]).length by simp,ih a _ (by simpa using ha)];simp
  intro u a ha;exact gen u a [] ha
 intro l
 induction l with
 |nil=>intro k hk;simp at hk
 |cons x l ih=>
  intro k hk;cases k with
  |zero=>
   rw[List.set_cons_zero,List.flatMap_cons,List.flatMap_cons,Nat.zero_mul,aaQ _ _ _ _ (by rw[h.len,h.len];omega),aaS _ _ (by rw[h.len,h.len])]
  |succ k=>
   simp only[List.length_cons]at hk;rw[List.set_cons_succ,List.flatMap_cons,List.flatMap_cons,show(k+1)*n=(e x).length+k*n by rw[h.len,Nat.add_mul];omega,aaR,ih (by omega)]
end
section
open Go.RowKit
section steps
variable {P:Program}{C:Ctx}{ops:Array Oper}{S:AS}{nd:Bool}{K:List Ac->AS->Prop}{rest:List Oper}{acc:List Ac}
variable {gd:Option (Nat×Bool)}{rg:List Nat}{d:Nat}{ty:TypeId}{pos:String}{aft:Array Edge}{x y z:Operand}{T U E0:TypeId}
variable {α:Type}{l l' k:List α}{e:α->List SV}{n by_:Nat}{zv:Value}
theorem RT.aaT(hg:Gd ops S gd rg){s X:SV}(hx:S.ev x=.sv s)(hi:SV.imp s X)(hd:d<S.n)
  (next:RunT P C ops nd K rest (⟨rg++aZ x,[],[],⟨some (d,.sv X),[],[]⟩⟩::acc) (S.set d (.sv X))):RunT P C ops nd K (⟨some d,.assign x,ty,pos,aft,gd⟩::rest) acc S:=
 RT.value hg (aZ x) [] [] (.sv X) hd (by intro c h;cases h) (λS' ht _ _ E a w h=>by
  have hx':S'.ev x=.sv s:=by rw[bw (λ_ h=>h) ht,hx]
  exact⟨a.eval x,Y,by have:=h.ev x;rw[hx']at this;exact hi _ _ this,ff⟩) next
theorem JS{E:Env}:∀{l l':List SV} {vs:List Value},cJ l l'->SV.ef E.M l vs->di E (l'.map AV.sv) vs:=λhi h=>di.wm (hi.holds h)
theorem DM(M:Mem):∀l:List Value,SV.ef M (l.map SV.v) l
 |[]=>trivial
 |_::l=>⟨Y,DM M l⟩
theorem RT.qP(hg:Gd ops S gd rg)[tz:gX P T zv]{cs:List SV}(hi:cJ (zv.cells.toList.map SV.v) cs){av:List AV}(hav:cs.map AV.sv=av)(hd:d<S.n)(hb:S.b d=none)(hp:C.gC d=none)
  (next:RunT P C ops nd K rest (⟨rg++[],[d],[],⟨some (d,.ptr d 0),[(d,⟨T,av⟩)],[]⟩⟩::acc) ((S.jv d ⟨T,av⟩).set d (.ptr d 0))):RunT P C ops nd K (⟨some d,.alloc T,ty,pos,aft,gd⟩::rest) acc S:=by
 subst hav;exact RT.ID hg (by intro c h;cases h) [] hd hb hp (λS' _ E a w h=>⟨zv.cells.toList,by simp[execOp,Instr.alloc,newVar,newRow,tz.run],JS hi (DM _ _),λy hy=>by
  obtain⟨s,_,rfl⟩:=List.mem_map.1 hy;exact ff⟩) next
theorem RT.Tf(hg:Gd ops S gd rg){pl:List (Nat×Nat)}{zc:List Value}[tP:iD P T pl zc]{parts:Array (Nat×Operand)}{qs:List (Nat×List SV)}(hp:nE S parts.toList qs){cs cs':List SV}(hf:uH (λi=>pl[i]?) (zc.map SV.v) qs=some cs)(hi:cJ cs cs')(hd:d<S.n)
  (next:RunT P C ops nd K rest (⟨rg++kQ parts.toList,[],[],⟨some (d,.sv (.agg cs')),[],[]⟩⟩::acc) (S.set d (.sv (.agg cs')))):RunT P C ops nd K (⟨some d,.build T parts,ty,pos,aft,gd⟩::rest) acc S:=by
 refine RT.value hg (kQ parts.toList) [] [] (.sv (.agg cs')) hd (by intro c h;cases h) (λS' ht _ _ E a w h=>?_) next
 have hu:=tP.h;cases hT:P.underlying T with
 |none=>rw[hT]at hu;cases hu
 |some u=>
  rw[hT]at hu;cases u with
  |struct fs=>
   simp only at hu;have hz:(zeroValue T).run P w=.ok (.agg ⟨zc⟩) w:=gX.run (t:=⟨tP.hz⟩) w;obtain⟨us,h1,h2,_⟩:=AD h (λi=>pl[i]?) hp ht (cells:=zc.map SV.v) (vs:=zc) (DM _ zc) (List.all_eq_true.1 tP.o) hf;refine⟨.agg ⟨us⟩,?_,⟨us,Y,hi.holds h2⟩,ff⟩;have hm:(fs.mapM (λf=>do pure (f.offset,<-sizeOf f.type):Field->Sem (Nat×Nat))).run P w=.ok pl.toArray w:=by
    have:=si (P:=P) (w:=w) hu;rw[<-Array.toArray_toList (xs:=fs),List.mapM_toArray];rw[Sem.run_map,this];rfl
   have h1':Instr.fill (λi=>pl.toArray[i]?) ⟨zc⟩ (parts.toList.map λp=>(p.1,a.eval p.2))=some ⟨us⟩:=by simpa using h1
   simp only[execOp,Instr.build,underlying];simp only[Sem.run_bind,hz,Result.andThen_ok,run_program,hT,Sem.run_pure,Value.cells];have hm':(Array.mapM (λf=>do
     let __do_lift<-sizeOf f.type
     pure (f.offset,__do_lift)) fs:Sem _).run P w=.ok pl.toArray w:=hm
   simp only[hm',Result.andThen_ok];have e4:(Array.map (λx=>match x with|(i,x)=>(i,a.eval x)) parts).toList=parts.toList.map λp=>(p.1,a.eval p.2):=by simp
   simp only[e4,h1',Sem.run_pure,Result.andThen_ok]
  |_=>cases hu
theorem Pure.w{f:FuncId}{args args':List SV}{r:SV}(h:Pure P f args r)(hi:cJ args' args):Pure P f args' r:=λM w vs hM hv=>h M w vs hM (hi.holds hv)
theorem RT.WU(hg:Gd ops S gd rg){m:Nat}[tS:eM P T E0 m]{c:Int}(hx:S.ev x=.sv (slc n (l.map e)))(hd:d<S.n)(hc:(l.length:Int)=c)
  (next:RunT P C ops nd K rest (⟨rg++aZ x,[],[],⟨some (d,.sv (.v (.int .i64 c))),[],[]⟩⟩::acc) (S.set d (.sv (.v (.int .i64 c))))):RunT P C ops nd K (⟨some d,.call ⟨.builtin .len,#[x],#[T]⟩,ty,pos,aft,gd⟩::rest) acc S:=
 RT.len hg hx hd (by rw[List.length_map,hc];exact next)
theorem RT.QG(hg:Gd ops S gd rg){m:Nat}[tS:eM P T E0 m]{i:Nat}{E1:TypeId}{c:Int}(hx:S.ev x=.row i)(hR:S.r i=.live (TR E1 n e l))(hd:d<S.n)(hc:(l.length:Int)=c)
  (next:RunT P C ops nd K rest (⟨rg++aZ x,[],[i],⟨some (d,.sv (.v (.int .i64 c))),[],[]⟩⟩::acc) (S.set d (.sv (.v (.int .i64 c))))):RunT P C ops nd K (⟨some d,.call ⟨.builtin .len,#[x],#[T]⟩,ty,pos,aft,gd⟩::rest) acc S:=
 RT.aal hg hx hR hd (by show RunT _ _ _ _ _ _ (⟨_,_,_,⟨some (d,.sv (.v (.int .i64 (l.length:Int)))),_,_⟩⟩::_) (S.set d (.sv (.v (.int .i64 (l.length:Int)))));rw[hc];exact next)
theorem RT.Tg(hg:Gd ops S gd rg)[tS:eM P T E0 n]{kk:IntKind}{i:Int}{a:α}(hx:S.ev x=.sv (slc n (l.map e)))(hy:S.ev y=.sv (.v (.int kk i)))(hd:d<S.n)(ha:cW l i=some a)
  (next:RunT P C ops nd K rest (⟨rg++(aZ x++aZ y),[],[],⟨some (d,.sv (ref (e a))),[],[]⟩⟩::acc) (S.set d (.sv (ref (e a))))):RunT P C ops nd K (⟨some d,.indexAddr T x y,ty,pos,aft,gd⟩::rest) acc S:=
 RT.indexAddr hg (e a) hx hy hd (pX ha).1 (by rw[List.getElem?_map,(pX ha).2];rfl) next
theorem RT.xT(hg:Gd ops S gd rg)[tS:eM P T E0 n]{lo hi:Option Operand}(a b:Int)(hx:S.ev x=.sv (slc n (l.map e)))(hlo:AE S 0 lo a)(hhi:AE S l.length hi b)(hd:d<S.n)(h:wH l a b=some l')
  (next:RunT P C ops nd K rest (⟨rg++(aZ x++(nF lo++nF hi)),[],[],⟨some (d,.sv (slc n (l'.map e))),[],[]⟩⟩::acc) (S.set d (.sv (slc n (l'.map e))))):RunT P C ops nd K (⟨some d,.slice T x lo hi none,ty,pos,aft,gd⟩::rest) acc S:=by
 obtain⟨h0,h1,h2,h3⟩:=CY h;exact RT.slice hg hx a b hlo (by rw[List.length_map];exact hhi) hd h0 h1 (by rw[List.length_map];exact h2) _ (by rw[II,h3]) next
theorem RT.eV(hg:Gd ops S gd rg)[tS:eM P T E0 n][tE:jw P E0 n by_ zv]{len:Nat}{parts:Array (Nat×Operand)}{qs:List (Nat×List SV)}(hp:nE S parts.toList qs)(hd:d<S.n)
  (hc:pH 0 qs=true) (hl:qs.length=len) (hsz:(qs.all λq=>Nat.beq q.2.length n)=true) (hlen:Nat.ble (len*n) 16777216=true) (JO:(zv.cells.toList.all λv=>v.oneCell')=true) (jc:qs.map (·.2)=l.map e)
  (next:RunT P C ops nd K rest (⟨rg++kQ parts.toList,[],[],⟨some (d,.sv (slc n (l.map e))),[],[]⟩⟩::acc) (S.set d (.sv (slc n (l.map e))))):RunT P C ops nd K (⟨some d,.buildSlice T len parts,ty,pos,aft,gd⟩::rest) acc S:=
 RT.buildSlice hg hp hd hc hl hsz (af hlen) (List.all_eq_true.1 JO) jc next
theorem RT.O1(hg:Gd ops S gd rg)[tS:eM P T E0 n][tE:jw P E0 n by_ zv]{len:Nat}{parts:Array (Nat×Operand)}{qs:List (Nat×List SV)}(hp:nE S parts.toList qs)(hd:d<S.n)(xN:S.r d=.un)(we:d<1000)
  (hc:pH 0 qs=true) (hl:qs.length=len) (hsz:(qs.all λq=>Nat.beq q.2.length n)=true) (hlen:Nat.ble (len*n) 16777216=true) (JO:(zv.cells.toList.all λv=>v.oneCell')=true) (jc:qs.map (·.2)=l.map e)
  (next:RunT P C ops nd K rest (⟨rg++kQ parts.toList,[],[d],⟨some (d,.row d),[],[(d,.live (TR E0 n e l))]⟩⟩::acc) ((AS.b9 [(d,.live (TR E0 n e l))] S).set d (.row d))):RunT P C ops nd K (⟨some d,.buildSlice T len parts,ty,pos,aft,gd⟩::rest) acc S:=by
 refine RT.Fe hg hp hd xN we hc hl hsz (af hlen) (List.all_eq_true.1 JO) (cells:=l.flatMap e) (by rw[jc,sq]) ?_;have:len=l.length:=by have h0:=congrArg List.length jc;simpa[hl]using h0
 rw[this];exact next
theorem RT.apR(hg:Gd ops S gd rg)[tS:eM P T E0 n][tE:jw P E0 n by_ zv]{i:Nat}(hx:S.ev x=.row i)(hR:S.r i=.live (TR E0 n e l))(hy:S.ev y=.sv (slc n (k.map e)))(hd:d<S.n)(xN:S.r d=.un)(we:d<1000)(h:wh by_ l k=some l')
  (next:RunT P C ops nd K rest (⟨rg++(aZ x++aZ y),[],[i,d],⟨some (d,.row d),[],[(i,.dead),(d,.live (TR E0 n e l'))]⟩⟩::acc) ((AS.b9 [(i,.dead),(d,.live (TR E0 n e l'))] S).set d (.row d))):RunT P C ops nd K (⟨some d,.call ⟨.builtin .append,#[x,y],#[T,T]⟩,ty,pos,aft,gd⟩::rest) acc S:=by
 obtain⟨h1,h2,rfl⟩:=wJ h;exact RT.OQ hg hx hR hy hd xN we (by simpa using h1) (by simpa using h2) _ (by simp[sq]) next
theorem RT.Th(hg:Gd ops S gd rg)[tS:eM P T E0 n][tE:jw P E0 n by_ zv][el:EL e n]{i:Nat}(hx:S.ev x=.row i)(hR:S.r i=.live (TR E0 n e l))(hy:S.ev y=.sv (slc n (k.map e)))(hd:d<S.n)(xN:S.r d=.un)(we:d<1000)(h:wh by_ l k=some l')
  (next:RunT P C ops nd K rest (⟨rg++(aZ x++aZ y),[],[d,i],⟨some (d,.sv (slc n (l'.map e))),[],[(i,.dead),(d,.dead)]⟩⟩::acc) ((AS.b9 [(i,.dead),(d,.dead)] S).set d (.sv (slc n (l'.map e))))):RunT P C ops nd K (⟨some d,.call ⟨.builtin .append,#[x,y],#[T,T]⟩,ty,pos,aft,gd⟩::rest) acc S:=by
 obtain⟨h1,h2,rfl⟩:=wJ h;have hf:l.flatMap e++(k.map e).flatten=(l++k).flatMap e:=by simp[sq]
 exact RT.IN hg (.row hx hR) hy hd xN we (by simpa using h1) (by simpa using h2) _ (rows':=(l++k).map e) (λ_ _ h _=>h) (by rw[hf];exact pY _) (by simp) (by rw[hf];exact lZ _) next
theorem C0(zc:Array Value)(n:Nat)(hz:zc.size=n)(hn:0<n):∀m:Nat,(madeCells zc (m*n)).toList=(List.replicate m zc.toList).flatten
 |0=>by simp[madeCells]
 |m+1=>by
  have ih:=C0 zc n hz hn m;rw[List.replicate_succ',List.flatten_append,<-ih];simp only[madeCells,Array.toList_map,Array.toList_range,List.flatten_cons,List.flatten_nil,List.append_nil];rw[show(m+1)*n=m*n+n by rw[Nat.add_mul];omega,List.range_add,List.map_append,List.map_map];congr 1;apply List.ext_getElem?;intro i;rw[List.getElem?_map];rcases Nat.lt_or_ge i n with hi|hi
  ·rw[List.getElem?_range hi];simp only[Option.map_some,Function.comp];rw[hz,Nat.mul_comm m n,Nat.mul_add_mod,Nat.mod_eq_of_lt hi];rw[getElem!_pos zc i (by omega),Array.getElem?_toList,Array.getElem?_eq_getElem (by omega)]
  rw[List.getElem?_eq_none (by simpa using hi),List.getElem?_eq_none (by simp;omega)];rfl
theorem Fl:∀{a b c d:List SV},cJ a c->cJ b d->cJ (a++b) (c++d)
 |[],_,[],_,_,h=>h
 |_::_,_,_::_,_,h,h'=>⟨h.1,Fl h.2 h'⟩
 |[],_,_::_,_,h,_=>h.elim
 |_::_,_,[],_,h,_=>h.elim
theorem Fm{zl:List Value}{zz:α}(hi:cJ (zl.map SV.v) (e zz)):∀m:Nat,cJ ((List.replicate m zl).flatten.map SV.v) ((List.replicate m zz).flatMap e)
 |0=>trivial
 |m+1=>by
  rw[List.replicate_succ,List.replicate_succ,List.flatten_cons,List.map_append,List.flatMap_cons];exact Fl hi (Fm hi m)
theorem RT.mM(hg:Gd ops S gd rg)[tS:eM P T E0 n][tE:jw P E0 n by_ zv]{kl kc:IntKind}{c:Int}{zz:α}(hx:S.ev x=.sv (.v (.int kl c)))(hy:S.ev y=.sv (.v (.int kc c)))(hd:d<S.n)(xN:S.r d=.un)(we:d<1000)(hz:zv.cells.size=n)(hn:0<n)(hi:cJ (zv.cells.toList.map SV.v) (e zz))(hm:z2 by_ c zz=some l')
  (next:RunT P C ops nd K rest (⟨rg++(aZ x++aZ y),[],[d],⟨some (d,.row d),[],[(d,.live (TR E0 n e l'))]⟩⟩::acc) ((AS.b9 [(d,.live (TR E0 n e l'))] S).set d (.row d))):RunT P C ops nd K (⟨some d,.makeSlice T x y,ty,pos,aft,gd⟩::rest) acc S:=by
 obtain⟨h0,hroom,rZ,rfl⟩:=LI hm;refine .inl ⟨_,[],[d],_,?_,next⟩;rintro S' hn' ht _ hr i a w L Q ho ⟨E,h⟩ hL;refine cA (C:=C) ho (hg.wanted h (λs hs=>ht s (List.mem_append_left _ hs)) Y) ?_;have h1:a.eval x=.int kl c:=by have h1:=h.ev x;rw[bw (λ_ h=>List.mem_append_right _ (List.mem_append_left _ h)) ht,hx]at h1;exact h1
 have h2:a.eval y=.int kc c:=by have h2:=h.ev y;rw[bw (λ_ h=>List.mem_append_right _ (List.mem_append_right _ h)) ht,hy]at h2;exact h2
 obtain⟨info,hii,hsz,hby,hzz⟩:=jw.info (P:=P) (E:=E0) (n:=n) (by_:=by_) (z:=zv);obtain⟨m,rfl⟩:=Int.eq_ofNat_of_zero_le h0;have hb':info.bytes*m<=281474976710656:=by
  rw[hby];have:((by_*m:Nat):Int)<=281474976710656:=by rw[Int.natCast_mul];exact hroom
  omega
 obtain⟨w',q1,q2,q3⟩:=run_make_full (P:=P) w 0 T E0 info zv n tS.u hii hzz hsz kl kc m hb' (by unfold maxLen;omega) (Nat.zero_le _);have hr':(execOp a.eval ⟨some d,.makeSlice T x y,ty,pos,aft,gd⟩).run P w=.ok (.value (.slice (some ⟨w.heap.size,0,none⟩) m m)) w':=by
  simp only[execOp,h1,h2];simp[q1]
 have JN:S'.r d=.un:=by rw[hr d (by simp)];exact xN
 have e0:(m:Int).toNat=m:=by simp
 have hall:SV.ef E.M ((List.replicate m zz).flatMap e) (madeCells zv.cells (m*n)).toList:=by
  rw[C0 zv.cells n hz hn];exact cJ.holds (l:=((List.replicate m zv.cells.toList).flatten.map SV.v)) (Fm hi m) (DM _ _)
 have hlen:(List.replicate (m:Int).toNat zz).length=m:=by simp
 refine ct (C:=C) (by intro c h;cases h) hr' (hL _ _ ⟨_,(h.newRow JN we [] none (.inl ⟨rfl,rfl⟩) (R':=TR E0 n e (List.replicate (m:Int).toNat zz)) (by show w'.ownsRow 0 E0 n _ (List.replicate (m:Int).toNat zz).length _;rw[hlen];exact q2) (by rw[e0];exact hall) (.inr (.inl rfl)) q3).put (d:=d) (x:=.row d) (v:=.slice (some ⟨w.heap.size,0,none⟩) m m) (by simp[AV.holds]) (by show d<S'.n;omega) ⟨λ_ e=>e.elim,λj e=>?_⟩⟩);cases e;show(AS.pE S' d _).r d≠_;rw[AS.gW];simp
theorem RT.C1(hg:Gd ops S gd rg)[tS:eM P T E0 n][tE:jw P E0 n by_ zv]{kl kc:IntKind}{c:Int}(hx:S.ev x=.sv (.v (.int kl 0)))(hy:S.ev y=.sv (.v (.int kc c)))(hd:d<S.n)(xN:S.r d=.un)(we:d<1000)(h:LG (α:=α) by_ c=some l')
  (next:RunT P C ops nd K rest (⟨rg++(aZ x++aZ y),[],[d],⟨some (d,.row d),[],[(d,.live (TR E0 n e l'))]⟩⟩::acc) ((AS.b9 [(d,.live (TR E0 n e l'))] S).set d (.row d))):RunT P C ops nd K (⟨some d,.makeSlice T x y,ty,pos,aft,gd⟩::rest) acc S:=by
 obtain⟨h0,h1,h2,rfl⟩:=LJ h;exact RT.Wv hg hx hy hd xN we h0 h1 h2 next
theorem RT.aaV(hg:Gd ops S gd rg)[tS:eM P T E0 n]{i j:Nat}{E1:TypeId}{kk:IntKind}{v:Int}(hx:S.ev x=.row i)(hR:S.r i=.live (TR E1 n e l))(hy:S.ev y=.sv (.v (.int kk v)))(hd:d<S.n)(h:oP l v=some j)
  (next:RunT P C ops nd K rest (⟨rg++(aZ x++aZ y),[],[i],⟨some (d,.iS i (j*n)),[],[]⟩⟩::acc) (S.set d (.iS i (j*n)))):RunT P C ops nd K (⟨some d,.indexAddr T x y,ty,pos,aft,gd⟩::rest) acc S:=by
 obtain⟨h0,h1,h2⟩:=LH h;exact RT.ixR hg (.row hx hR) hy hd h0 h1 (j*n) (by rw[h2];omega) next
theorem RT.WV(hg:Gd ops S gd rg)[tV:pV P T][el:EL e 1]{i j:Nat}{E1:TypeId}{a:α}{s:SV}(hx:S.ev x=.iS i (j*1))(hR:S.r i=.live (TR E1 1 e l))(ha:l[j]? =some a)(hs:e a=[s])(hd:d<S.n)
  (next:RunT P C ops nd K rest (⟨rg++aZ x,[],[i],⟨some (d,.sv s),[],[]⟩⟩::acc) (S.set d (.sv s))):RunT P C ops nd K (⟨some d,.load T x,ty,pos,aft,gd⟩::rest) acc S:=by
 refine RT.ldR hg hx hR (s:=s) ?_ hd next
 have:=Fj (e:=e) ha;rw[hs]at this;have h2:=congrArg (·[0]?) this;simpa[List.getElem?_take]using h2
theorem O2(a:List SV)(k:Nat)(s:SV):a.set k s=lO a k [s]:=rfl
theorem RT.aaW(hg:Gd ops S gd rg)[tV:pV P T][el:EL e 1]{i j:Nat}{E1:TypeId}{s:SV}[o1:One s](a:α)(hs:e a=[s])(hx:S.ev x=.iS i (j*1))(hR:S.r i=.live (TR E1 1 e l))(hy:S.ev y=.sv s)(h:stM l j a=some l')
  (next:RunT P C ops nd K rest (⟨rg++(aZ x++aZ y),[],[i],⟨none,[],[(i,.live (TR E1 1 e l'))]⟩⟩::acc) (AS.b9 [(i,.live (TR E1 1 e l'))] S)):RunT P C ops nd K (⟨none,.store T x y,ty,pos,aft,gd⟩::rest) acc S:=by
 obtain⟨h1,rfl⟩:=Fh h;refine RT.stR hg hx hR hy (by show j*1+1<=l.length*1;omega) ((l.set j a).flatMap e) (by rw[O2,<-hs];exact Fk h1) ?_;have:(TR E1 1 e (l.set j a))=⟨E1,1,l.length,(l.set j a).flatMap e⟩:=by show Row.mk _ _ _ _=_;rw[List.length_set]
 rw[<-this];exact next
theorem RT.WW(hg:Gd ops S gd rg)[tA:zV P T n][el:EL e n]{i j:Nat}{E1:TypeId}(a:α)(hx:S.ev x=.iS i (j*n))(hR:S.r i=.live (TR E1 n e l))(hy:S.ev y=.sv (.agg (e a)))(h:stM l j a=some l')
  (next:RunT P C ops nd K rest (⟨rg++(aZ x++aZ y),[],[i],⟨none,[],[(i,.live (TR E1 n e l'))]⟩⟩::acc) (AS.b9 [(i,.live (TR E1 n e l'))] S)):RunT P C ops nd K (⟨none,.store T x y,ty,pos,aft,gd⟩::rest) acc S:=by
 obtain⟨h1,rfl⟩:=Fh h;have o1:=el.one a;refine RT.aat hg hx hR hy (el.len a) (by show j*n+n<=l.length*n;have:=Nat.mul_le_mul_right n h1;rw[Nat.succ_mul]at this;exact this) ((l.set j a).flatMap e) (Fk h1) ?_;have:(TR E1 n e (l.set j a))=⟨E1,n,l.length,(l.set j a).flatMap e⟩:=by show Row.mk _ _ _ _=_;rw[List.length_set]
 rw[<-this];exact next
end steps
theorem l7{S:AS}{i n:Nat}{E1:TypeId}{α:Type}{e:α->List SV}{l:List α}[el:EL e n](hR:S.r i=.live (TR E1 n e l)):rV S (S.nD i (slc n (l.map e))):=by
 rintro C a w ⟨E,h⟩;have hlen:l.length<=9223372036854775807:=by
  obtain⟨⟨vs,ho,hv⟩,_⟩:=h.rx i _ hR;rcases ho.2 with⟨_,q2⟩|⟨g',cap,cur,q1,_,q2,q3,q4,q5,q6⟩
  ·have q2:l.length=0:=q2;omega
  have q3:l.length<=cap:=q3;have:maxLen=9223372036854775807:=by decide
  omega
 exact h.nD hR (pY l) (by rw[List.length_map]) hlen (lZ l) (λ_ _ h _=>h)
section control
variable {P:Program}{C:Ctx}{S:AS}{Q:Exit->AS->Prop}
theorem bK{A:Code}{J R:Type}{kB:J->Option R}{fA:(J->Option R)->Option R}{r:R}(h:cQ kB fA=some r)(I:J->AS)
  (hA:fA kB=some r->Ok P C A S (aV (λS'=>∃j,kB j=some r/\rV S' (I j)) Q)) (hQ:∀j,kB j=some r->Q .normal (I j)):Ok P C A S Q:=λa w hs=>by
 refine wpIn_mono (hA h a w hs) ?_;rintro e a' w' ⟨S',q,hh⟩;cases e with
 |normal=>obtain⟨j,h1,h2⟩:=q;exact⟨_,hQ j h1,h2 C a' w' hh⟩
 |_=>exact⟨S',q,hh⟩
theorem bT{A:Code}{X:Type}(I:X->AS)(p:X->Prop)(hA:Ok P C A S (aV (λS'=>∃j,p j/\rV S' (I j)) Q))(hQ:∀j,p j->Q .normal (I j)):Ok P C A S Q:=λa w hs=>by
 refine wpIn_mono (hA a w hs) ?_;rintro e a' w' ⟨S',q,hh⟩;cases e with
 |normal=>obtain⟨j,h1,h2⟩:=q;exact⟨_,hQ j h1,h2 C a' w' hh⟩
 |_=>exact⟨S',q,hh⟩
theorem bU{c:Code}{T E:Type}{body:T->Option (T⊕E)}{s0:T}{e:E}(h:cu body s0=some e)(I:T->AS)(h0:rV S (I s0))
  (round:∀(s:T) (y:T⊕E) (G:T->Prop),body s=some y->(∀s',y=.inl s'->G s')->(∀e',y=.inr e'->e'=e)->Ok P C c (I s) (aV (λS'=>∃s',G s'/\rV S' (I s')) Q)):Ok P C (.loop c) S Q:=by
 obtain⟨n,hn⟩:=vn h;refine wA (ι:={x:T×Nat//nG body x.2 x.1=some e}) (λx=>I x.1.1) (λx=>x.1.2) ⟨(s0,n),hn⟩ h0 ?_;rintro⟨⟨s,m⟩,hm⟩;cases m with
 |zero=>cases hm
 |succ m=>
  cases hb:body s with
  |none=>simp only[nG,hb]at hm;cases hm
  |some y=>
   refine DA (round s y (λs'=>nG body m s'=some e) hb ?_ ?_) ?_
   ·rintro s' rfl;simpa only[nG,hb]using hm
   ·rintro e' rfl;simp only[nG,hb]at hm;exact Option.some.inj hm
   intro ex S' q;cases ex with
   |normal=>obtain⟨s',h1,h2⟩:=q;exact⟨⟨(s',m),h1⟩,Nat.lt_succ_self m,h2⟩
   |_=>exact q
end control
end
section
open Go.RowKit
abbrev Oz:=List UInt8
def bs(l:Oz):ByteArray:=⟨⟨l⟩⟩
def uJ(l:Oz)(i:Int):Option Nat:=(cW l i).map UInt8.toNat
theorem O3(l:Oz):(bs l).size=l.length:=rfl
theorem Ti(l:Oz)(i:Nat):(bs l)[i]? =l[i]? :=by
 rcases Nat.lt_or_ge i l.length with h|h
 ·rw[getElem?_pos (bs l) i h,List.getElem?_eq_getElem h];rfl
 rw[getElem?_neg (bs l) i (by rw[O3];omega),List.getElem?_eq_none h]
section steps
variable {P:Program}{C:Ctx}{ops:Array Oper}{S:AS}{nd:Bool}{K:List Ac->AS->Prop}{rest:List Oper}{acc:List Ac}
variable {gd:Option (Nat×Bool)}{rg:List Nat}{d:Nat}{ty:TypeId}{pos:String}{aft:Array Edge}{x y z:Operand}{T U E0:TypeId}
variable {l l' k:Oz}
theorem RT.skV{op:Op}{j g:Nat}{b want:Bool}(h1:(ops[j]?).bind (·.dst)=some g)(h2:S.t g=.sv (.v (.bool b)))(hb:b≠want)(hd:d<S.n)
  (next:RunT P C ops nd K rest (⟨[g],[],[],⟨some (d,.sv (.v undef)),[],[]⟩⟩::acc) (S.set d (.sv (.v undef)))):RunT P C ops nd K (⟨some d,op,ty,pos,aft,some (j,want)⟩::rest) acc S:=by
 refine .inl ⟨[g],[],[],⟨some (d,.sv (.v undef)),[],[]⟩,?_,next⟩;rintro S' hn ht _ _ i a w L Q ho ⟨E,h⟩ hL;have hv:=h.tm g;rw[ht g (by simp),h2]at hv;have hv:a.tmps.getD g undef=.bool b:=hv;have ER:a.tmps[g]? =some (.bool b):=by
  rw[Array.getD_eq_getD_getElem?]at hv;cases e:a.tmps[g]? with
  |none=>rw[e]at hv;simp[undef]at hv
  |some x=>rw[e]at hv;simp at hv;rw[hv]
 have hw:Region.wanted ⟨some d,op,ty,pos,aft,some (j,want)⟩ (yielded ops a.tmps)=false:=by
  simp[Region.wanted,yielded,h1,ER,hb]
 simp only[wpOpIn,ho,hw];exact⟨λ_ _=>trivial,hL _ _ ⟨E,h.put (x:=.sv (.v undef)) (v:=undef) Y (by omega) ⟨λ_ h=>h.elim,λ_ h=>h.elim⟩⟩⟩
theorem RT.WX{op:Op}{j g:Nat}{want:Bool}(h1:(ops[j]?).bind (·.dst)=some g)(h2:S.t g=.sv (.v undef))(hd:d<S.n)
  (next:RunT P C ops nd K rest (⟨[g],[],[],⟨some (d,.sv (.v undef)),[],[]⟩⟩::acc) (S.set d (.sv (.v undef)))):RunT P C ops nd K (⟨some d,op,ty,pos,aft,some (j,want)⟩::rest) acc S:=by
 refine .inl ⟨[g],[],[],⟨some (d,.sv (.v undef)),[],[]⟩,?_,next⟩;rintro S' hn ht _ _ i a w L Q ho ⟨E,h⟩ hL;have hv:=h.tm g;rw[ht g (by simp),h2]at hv;have hv:a.tmps.getD g undef=undef:=hv;rw[Array.getD_eq_getD_getElem?]at hv;have hw:Region.wanted ⟨some d,op,ty,pos,aft,some (j,want)⟩ (yielded ops a.tmps)=false:=by
  cases e:a.tmps[g]? with
  |none=>simp[Region.wanted,yielded,h1,e]
  |some x=>
   rw[e]at hv;simp only[Option.getD_some]at hv;subst hv;simp[Region.wanted,yielded,h1,e,undef]
 simp only[wpOpIn,ho,hw];exact⟨λ_ _=>trivial,hL _ _ ⟨E,h.put (x:=.sv (.v undef)) (v:=undef) Y (by omega) ⟨λ_ h=>h.elim,λ_ h=>h.elim⟩⟩⟩
theorem RT.six(hg:Gd ops S gd rg)[tS:Qv P T]{kk:IntKind}{i:Int}{c:Nat}(hx:S.ev x=.sv (.v (.string (bs l))))(hy:S.ev y=.sv (.v (.int kk i)))(hd:d<S.n)(h:uJ l i=some c)
  (next:RunT P C ops nd K rest (⟨rg++(aZ x++aZ y),[],[],⟨some (d,.sv (.v (.int .u8 (c:Nat)))),[],[]⟩⟩::acc) (S.set d (.sv (.v (.int .u8 (c:Nat)))))):RunT P C ops nd K (⟨some d,.index T x y,ty,pos,aft,gd⟩::rest) acc S:=
 RT.Hl hg (by intro c h;cases h) hx hy hd (λρ w h1 h2=>by
  unfold uJ at h;cases hh:cW l i with
  |none=>rw[hh]at h;cases h
  |some b=>
   rw[hh]at h;obtain⟨q1,q2⟩:=pX hh;have q3:b.toNat=c:=Option.some.inj h;have q4:(bs l)[i.toNat]? =some b:=by rw[Ti];exact q2
   simp[execOp,h1,h2,Instr.index,asIntOf,underlying,tS.h,q1,q4,q3]) next
end steps
section rows
variable {P:Program}{C:Ctx}{ops:Array Oper}{S:AS}{nd:Bool}{K:List Ac->AS->Prop}{rest:List Oper}{acc:List Ac}
variable {gd:Option (Nat×Bool)}{rg:List Nat}{d:Nat}{ty:TypeId}{pos:String}{aft:Array Edge}{x y z:Operand}{T U E0:TypeId}
variable {α:Type}{l l' k:List α}{e:α->List SV}{n by_:Nat}{zv:Value}
end rows
end
section
open Go.RowKit
def uK{α:Type}(l l':List α):Option Unit:=if l'.length=l.length then some ()else none
theorem l8{α:Type}{l l':List α}{u:Unit}(h:uK l l'=some u):l'.length=l.length:=by
 unfold uK at h;split at h
 ·assumption
 cases h
def Tj{α:Type}(l:List α)(lo hi:Int):Option (Nat×Nat):=if 0<=lo/\lo<l.length/\lo<=hi/\hi<=l.length then some (lo.toNat,(hi-lo).toNat)else none
theorem LM{α:Type}{l:List α}{lo hi:Int}{o n:Nat}(h:Tj l lo hi=some (o,n)):0<=lo/\lo<l.length/\lo<=hi/\hi<=l.length/\lo.toNat=o/\(hi-lo).toNat=n:=by
 unfold Tj at h;split at h
 ·rename_i hh;obtain⟨q1,q2⟩:=Prod.mk.inj (Option.some.inj h);exact⟨hh.1,hh.2.1,hh.2.2.1,hh.2.2.2,q1,q2⟩
 cases h
def OA(o n:Nat)(i:Int):Option Nat:=if 0<=i/\i<n then some (o+i.toNat)else none
theorem LN{o n j:Nat}{i:Int}(h:OA o n i=some j):0<=i/\i<n/\o+i.toNat=j:=by
 unfold OA at h;split at h
 ·rename_i hh;exact⟨hh.1,hh.2,Option.some.inj h⟩
 cases h
theorem cJ.get:∀{l l':List SV} {k:Nat} {s':SV},cJ l l'->l'[k]? =some s'->∃s,l[k]? =some s/\SV.imp s s'
 |x::_,y::_,0,_,h,e=>⟨x,Y,by simp at e;subst e;exact h.1⟩
 |_::l,_::l',k+1,_,h,e=>by simpa using cJ.get (l:=l) (l':=l') h.2 (by simpa using e)
 |[],[],_,_,_,e=>by simp at e
 |[],_::_,_,_,h,_=>h.elim
 |_::_,[],_,_,h,_=>h.elim
theorem cJ.len:∀{l l':List SV},cJ l l'->l'.length=l.length
 |[],[],_=>rfl
 |_::_,_::_,h=>congrArg (· +1) (cJ.len h.2)
 |[],_::_,h=>h.elim
 |_::_,[],h=>h.elim
theorem IQ{α:Type}{e:α->List SV}{l:List α}{n:Nat}{M:Mem}{v:Value}(h:(slc n (l.map e)).h M v):l.length<=9223372036854775807:=by
 rcases h with⟨_,_,h⟩|⟨b,o,c,_,_,h,_⟩
 ·have:l=[]:=by simpa using h
  subst this;simp
 rwa[List.length_map]at h
theorem z3{α:Type}{e:α->List SV}{l:List α}{n:Nat}{M:Mem}{v:Value}(h:(ref [slc n (l.map e)]).h M v):l.length<=9223372036854775807:=by
 obtain⟨b,o,_,h⟩:=h;obtain⟨y,_,_,h⟩:=h 0 _ Y;exact IQ h
theorem vp{l:List Nat}{i:Nat}(h:l.length<=i):l.getD i 0=0:=by simp[List.getD,List.getElem?_eq_none h]
theorem su{l:List Nat}{i:Nat}(h:i<l.length):l[i]? =some (l.getD i 0):=by simp[List.getD,h]
theorem iq{α:Type}{l:List α}{d:α}{i:Nat}(h:l.length<=i):l.getD i d=d:=by simp[List.getD,List.getElem?_eq_none h]
theorem ey{α:Type}{l:List α}{d:α}{i:Nat}(h:i<l.length):l[i]? =some (l.getD i d):=by simp[List.getD,h]
theorem AR{α β:Type}(a:List α)(b:List β)(i:Nat)(h:i<=max a.length b.length):(i<max a.length b.length/\i<a.length/\i<b.length)\/(i<max a.length b.length/\i<a.length/\b.length<=i)\/(i<max a.length b.length/\a.length<=i/\i<b.length)\/i=max a.length b.length:=by omega
section steps
variable {P:Program}{C:Ctx}{ops:Array Oper}{S:AS}{nd:Bool}{K:List Ac->AS->Prop}{rest:List Oper}{acc:List Ac}
variable {gd:Option (Nat×Bool)}{rg:List Nat}{d:Nat}{ty:TypeId}{pos:String}{aft:Array Edge}{x y z:Operand}{T U E0:TypeId}
variable {α:Type}{l l' k:List α}{e:α->List SV}{n by_:Nat}{zv:Value}
theorem Tk{E1:TypeId}(h:l'.length=l.length):(⟨E1,n,l.length,l'.flatMap e⟩:Row)=TR E1 n e l':=by show _=Row.mk _ _ _ _;rw[h]
theorem RT.Tl(hg:Gd ops S gd rg){f:FuncId}[dz P f]{g:Operand}{xs:Array Operand}{at_:Array TypeId}{args:List AV}{E1:TypeId}{res:AV}(hp:Hx P f args (TR E1 n e l) res (l'.flatMap e))(hlen:l'.length=l.length)(i:Nat)(hR:S.r i=.live (TR E1 n e l))(hrow:args.all AV.xP=true)(hres:res.xP=true)
  (hf:S.ev g=.sv (.v (.func (.func f) #[] #[]))) (hargs:vk S xs.toList (args.map (AV.yV i))) (hd:d<S.n)
  (next:RunT P C ops nd K rest (⟨rg++(aZ g++xs.toList.flatMap aZ),[],[i],⟨some (d,res.yV i),[],[(i,.live (TR E1 n e l'))]⟩⟩::acc) ((AS.b9 [(i,.live (TR E1 n e l'))] S).set d (res.yV i))):RunT P C ops nd K (⟨some d,.call ⟨.value g,xs,at_⟩,ty,pos,aft,gd⟩::rest) acc S:=
 RT.WG hg hp i hR hrow hres hf hargs hd (by rw[Tk hlen];exact next)
theorem RT.WY(hg:Gd ops S gd rg)[tS:eM P T E0 n]{i o m:Nat}{E1:TypeId}{lo hi:Option Operand}(a b:Int)(hx:S.ev x=.row i)(hR:S.r i=.live (TR E1 n e l))(hlo:AE S 0 lo a)(hhi:AE S l.length hi b)(hd:d<S.n)(h:Tj l a b=some (o,m))
  (next:RunT P C ops nd K rest (⟨rg++(aZ x++(nF lo++nF hi)),[],[i],⟨some (d,.nC i (o*n) m),[],[]⟩⟩::acc) (S.set d (.nC i (o*n) m))):RunT P C ops nd K (⟨some d,.slice T x lo hi none,ty,pos,aft,gd⟩::rest) acc S:=by
 obtain⟨h0,h1,h2,h3,h4,h5⟩:=LM h;exact RT.SX hg (.row hx hR) a b hlo hhi hd h0 h1 h2 h3 (o*n) m (by rw[h4];omega) h5 next
theorem RT.Tm(hg:Gd ops S gd rg){m:Nat}[tS:eM P T E0 m]{i o q:Nat}{c:Int}(hx:S.ev x=.nC i o q)(hd:d<S.n)(hc:(q:Int)=c)
  (next:RunT P C ops nd K rest (⟨rg++aZ x,[],[],⟨some (d,.sv (.v (.int .i64 c))),[],[]⟩⟩::acc) (S.set d (.sv (.v (.int .i64 c))))):RunT P C ops nd K (⟨some d,.call ⟨.builtin .len,#[x],#[T]⟩,ty,pos,aft,gd⟩::rest) acc S:=
 RT.WE hg hx hd (by rw[hc];exact next)
theorem RT.Fo(hg:Gd ops S gd rg)[tS:eM P T E0 n]{i o q j:Nat}{kk:IntKind}{v:Int}(hx:S.ev x=.nC i (o*n) q)(hy:S.ev y=.sv (.v (.int kk v)))(hd:d<S.n)(h:OA o q v=some j)
  (next:RunT P C ops nd K rest (⟨rg++(aZ x++aZ y),[],[],⟨some (d,.iS i (j*n)),[],[]⟩⟩::acc) (S.set d (.iS i (j*n)))):RunT P C ops nd K (⟨some d,.indexAddr T x y,ty,pos,aft,gd⟩::rest) acc S:=by
 obtain⟨h0,h1,h2⟩:=LN h;exact RT.ixR hg (.nC hx) hy hd h0 h1 (j*n) (by rw[<-h2,Nat.add_mul]) next
end steps
def kS{S:Type}(body:Nat->S->Option S):Nat->S->Option S
 |0,s=>some s
 |n+1,s=>(kS body n s).bind (body n)
theorem kE{S:Type}{body:Nat->S->Option S}:∀{n:Nat} {s e:S},kS body n s=some e->∃st:Nat->S,st 0=s/\(∀k,k<n->body k (st k)=some (st (k+1)))/\st n=e
 |0,s,e,h=>⟨λ_=>s,Y,λ_ h=>by omega,Option.some.inj h⟩
 |n+1,s,e,h=>by
  obtain⟨e1,h1,h2⟩:=bind_some (x:=kS body n s) h;obtain⟨st,q1,q2,q3⟩:=kE h1;refine⟨λk=>if k=n+1 then e else st k,by simpa using q1,λk hk=>?_,by simp⟩;rcases Nat.lt_or_ge k n with hkn|hkn
  ·simpa[show k≠n+1 by omega,show k≠n by omega]using q2 k hkn
  obtain rfl:k=n:=by omega
  simpa[q3]using h2
theorem xU{S:Type}{body:Nat->S->Option S}(st:Nat->S):∀(n:Nat),(∀k,k<n->body k (st k)=some (st (k+1)))->kS body n (st 0)=some (st n)
 |0,_=>rfl
 |n+1,h=>by
  rw[kS,xU st n (λk hk=>h k (by omega))];exact h n (by omega)
def n8{S E:Type}(body:Nat->S->Option (S⊕E)):Nat->S->Option (S⊕E)
 |0,s=>some (.inl s)
 |n+1,s=>(n8 body n s).bind λr=>match r with|.inl s'=>body n s'|.inr e=>some (.inr e)
theorem C2{S E:Type}{body:Nat->S->Option (S⊕E)}:∀{n:Nat} {s:S} {r:S⊕E},n8 body n s=some r->∃(m:Nat) (st:Nat->S),st 0=s/\m<=n/\(∀k,k<m->body k (st k)=some (.inl (st (k+1))))/\((m=n/\r=.inl (st n))\/(m<n/\∃e,r=.inr e/\body m (st m)=some (.inr e)))
 |0,s,r,h=>⟨0,λ_=>s,Y,Nat.le_refl _,λ_ h=>by omega,.inl ⟨Y,(Option.some.inj h).symm⟩⟩
 |n+1,s,r,h=>by
  obtain⟨r1,h1,h2⟩:=bind_some (x:=n8 body n s) h;obtain⟨m,st,q1,q2,q3,q4⟩:=C2 h1;rcases q4 with⟨rfl,rfl⟩|⟨q4,e,rfl,q5⟩
  ·simp only at h2;cases r with
   |inr e=>exact⟨m,st,q1,by omega,q3,.inr ⟨by omega,e,Y,h2⟩⟩
   |inl s'=>
    refine⟨m+1,λk=>if k=m+1 then s' else st k,by simpa using q1,Nat.le_refl _,λk hk=>?_,.inl ⟨Y,by simp⟩⟩;rcases Nat.lt_or_ge k m with hkn|hkn
    ·simpa[show k≠m+1 by omega,show k≠m by omega]using q3 k hkn
    obtain rfl:k=m:=by omega
    simpa using h2
  simp only at h2;cases h2;exact⟨m,st,q1,by omega,q3,.inr ⟨by omega,e,Y,q5⟩⟩
theorem DN{S E:Type}{body:Nat->S->Option (S⊕E)}{n m:Nat}{st:Nat->S}{r:S⊕E}(h:∀k,k<m->body k (st k)=some (.inl (st (k+1))))(hr:(m=n/\r=.inl (st n))\/(m<n/\∃e,r=.inr e/\body m (st m)=some (.inr e))){k:Nat}(hk:k<n)(hkm:k<=m):
  ∃y,body k (st k)=some y/\(∀s',y=.inl s'->k+1<=m/\s'=st (k+1))/\∀e',y=.inr e'->r=.inr e':=by
 rcases Nat.lt_or_ge k m with q|q
 ·exact⟨_,h k q,(λs' e=>⟨q,by cases e;rfl⟩),(λe' e=>by cases e)⟩
 obtain rfl:k=m:=by omega
 rcases hr with⟨rfl,_⟩|⟨_,e,rfl,he⟩
 ·omega
 exact⟨_,he,(λs' e=>by cases e),(λe' q=>by cases q;rfl)⟩
theorem Fp{S E:Type}{body:Nat->S->Option (S⊕E)}{n m:Nat}{st:Nat->S}{r:S⊕E}(hr:(m=n/\r=.inl (st n))\/(m<n/\∃e,r=.inr e/\body m (st m)=some (.inr e)))(h:n<=m):r=.inl (st n):=by
 rcases hr with⟨_,q⟩|⟨q,_⟩
 ·exact q
 omega
theorem C3{S E:Type}{body:Nat->S->Option (S⊕E)}{n:Nat}{s:S}{r:S⊕E}(h:n8 body n s=some r):∃(m:Nat) (st:Nat->S),st 0=s/\(∀k,k<n->k<=m->∃y,body k (st k)=some y/\(∀s',y=.inl s'->k+1<=m/\s'=st (k+1))/\∀e',y=.inr e'->r=.inr e')/\(n<=m->r=.inl (st n)):=by
 obtain⟨m,st,q1,q2,q3,q4⟩:=C2 h;exact⟨m,st,q1,λk hk hm=>DN q3 q4 hk hm,λhn=>Fp q4 hn⟩
end
section
open Go.RowKit
def LO(es:List (Value×Value)):SV where
 h M v:=∃b,v=.map (some b)/\M b 0=some (.tuple ⟨es.map λp=>.tuple #[p.1,p.2]⟩)
 mono hM h:=by obtain⟨b,e,h⟩:=h;exact⟨b,e,hM _ _ _ h⟩
class IS (P:Program) (T:TypeId) (k:outParam TypeId) (e:outParam TypeId):Prop where
 u:P.underlying T=some (.map k e)
def C4(k:IntKind)(n:Int):List (Value×Value)->Option Value
 |[]=>none
 |(.int k' m,v)::l=>if k=k' then(if n=m then some v else C4 k n l)else none
 |_::_=>none
theorem uL{k:IntKind}{n:Int}{v:Value}:∀(es:List MapEntry) (i:Nat),C4 k n (es.map λe=>(e.key,e.val))=some v->∃j,Instr.findNow (.int k) (.int k n) es i=some (some (j,v))
 |[],_,h=>by simp[C4]at h
 |⟨key,val,born⟩::es,i,h=>by
  cases key with
  |int k' m=>
   simp only[List.map_cons,C4]at h;by_cases hk:k=k'
   ·subst hk;rw[if_pos rfl]at h;by_cases hn:n=m
    ·subst hn;rw[if_pos rfl]at h;cases h;exact⟨i,by simp[Instr.findNow,Instr.sameNow]⟩
    rw[if_neg hn]at h;obtain⟨j,hj⟩:=uL es (i+1) h;have hb:(n==m)=false:=by simp[hn]
    exact⟨j,by simp[Instr.findNow,Instr.sameNow,hb,hj]⟩
   rw[if_neg hk]at h;cases h
  |_=>simp[C4]at h
theorem IT:∀(l:List (Value×Value)) (m:List MapEntry),l.map (λp=>Value.tuple #[p.1,p.2])=m.map (λe=>Value.tuple #[e.key,e.val])->m.map (λe=>(e.key,e.val))=l
 |[],[],_=>rfl
 |[],_::_,h=>by simp at h
 |_::_,[],h=>by simp at h
 |(p,q)::l,e::m,h=>by
  simp only[List.map_cons,List.cons.injEq,Value.tuple.injEq]at h⊢;refine⟨?_,IT l m h.2⟩;have:=h.1;simp at this;rw[this.1,this.2]
theorem LP{es:Array MapEntry}{l:List (Value×Value)}(h:(⟨l.map λp=>.tuple #[p.1,p.2]⟩:Array Value)=OJ es):es.toList.map (λe=>(e.key,e.val))=l:=
 IT l es.toList (congrArg Array.toList h)
theorem getM{P:Program}{w:World}{r:Nat}{es:Array MapEntry}{ck:Nat}(hb:w.heap[r]? =some (.map es ck)):(getObj r).run P w=.ok (.map es ck) w:=by simp[getObj,Sem.run,hb]
theorem aaX{P:Program}{w:World}{r:Nat}{es:Array MapEntry}{ck:Nat}(o:Obj)(hb:w.heap[r]? =some (.map es ck)):(setObj r o).run P w=.ok () {w with heap:=w.heap.setIfInBounds r o}:=by simp[setObj,Sem.run,hb]
theorem ckM{P:Program}{w:World}{kt:TypeId}{k:IntKind}[tI:mI P kt k]{n:Int}(bb:Bool):(Instr.checkKey bb 10000 kt (.int k n)).run P w=.ok () w:=by
 rw[show(10000:Nat)=9999+1 from rfl,Instr.checkKey];simp[underlying,tI.h]
theorem LQ{M:Mem}:∀l:List Value,SV.ef M (l.map SV.v) l
 |[]=>trivial
 |_::l=>⟨Y,LQ l⟩
section steps
variable {P:Program}{C:Ctx}{ops:Array Oper}{S:AS}{nd:Bool}{K:List Ac->AS->Prop}{rest:List Oper}{acc:List Ac}
variable {gd:Option (Nat×Bool)}{rg:List Nat}{d:Nat}{ty:TypeId}{pos:String}{aft:Array Edge}{x y z:Operand}{T U E0:TypeId}
theorem RT.look(hg:Gd ops S gd rg){kt et:TypeId}[tM:IS P T kt et]{k:IntKind}[tI:mI P kt k]{es:List (Value×Value)}{n:Int}(cs:List Value)(hx:S.ev x=.sv (LO es))(hy:S.ev y=.sv (.v (.int k n)))(hl:C4 k n es=some (.agg ⟨cs⟩))(hd:d<S.n)
  (next:RunT P C ops nd K rest (⟨rg++(aZ x++aZ y),[],[],⟨some (d,.sv (.agg (cs.map SV.v))),[],[]⟩⟩::acc) (S.set d (.sv (.agg (cs.map SV.v))))):RunT P C ops nd K (⟨some d,.lookup T x y false,ty,pos,aft,gd⟩::rest) acc S:=
 RT.value hg (aZ x++aZ y) [] [] (.sv (.agg (cs.map SV.v))) hd (by intro c h;cases h) (λS' ht _ _ E a w h=>by
  have h1:=h.ev x;rw[bw (λ_ h=>List.mem_append_left _ h) ht,hx]at h1;have h2:a.eval y=.int k n:=by have h2:=h.ev y;rw[bw (λ_ h=>List.mem_append_right _ h) ht,hy]at h2;exact h2
  obtain⟨b,e,hb⟩:=h1;obtain⟨ms,ck,hm,he⟩:=h.dh _ _ _ hb;have he:=LP he;rw[<-he]at hl;obtain⟨j,hj⟩:=uL ms.toList 0 hl;refine⟨.agg ⟨cs⟩,?_,⟨cs,Y,?_⟩,ff⟩
  ·have hfk:(Instr.findKey kt (.int k n) ms.toList).run P w=.ok (some (j,.agg ⟨cs⟩)) w:=by
    simp[Instr.findKey,underlying,tI.h,hj]
   simp[execOp,e,h2,Instr.lookup,underlying,tM.u,getM hm,ckM,hfk]
  exact LQ cs) next
def sw(w:World)(ms:Array MapEntry)(ck:Nat):World:=w.alloc (.map ms ck)
theorem xV(w:World)(ms:Array MapEntry)(ck:Nat):(sw w ms ck).heap[w.heap.size]? =some (.map ms ck):=by show(w.heap.push _)[w.heap.size]? =_;simp
theorem run_make{d:Option Nat}{ρ:Operand->Value}{w:World}:(execOp ρ ⟨d,.makeMap T none,ty,pos,aft,none⟩).run P w=.ok (.value (.map (some w.heap.size))) (sw w #[] 0):=by
 simp[execOp,Instr.makeMap,sw]
theorem z4{d:Option Nat}{kt et:TypeId}[tM:IS P T kt et]{k:IntKind}[tI:mI P kt k]{ρ:Operand->Value}{w:World}{ms:Array MapEntry}{ck:Nat}{n:Int}{v:Value}(hx:ρ x=.map (some w.heap.size))(hy:ρ y=.int k n)(hz:ρ z=v)
  (hf:Instr.findNow (.int k) (.int k n) ms.toList 0=some none):(execOp ρ ⟨d,.insert T x y z,ty,pos,aft,none⟩).run P (sw w ms ck)=.ok .skip (sw w (ms.push ⟨.int k n,v,ck⟩) (ck+1)):=by
 have hfk:(Instr.findKey kt (.int k n) ms.toList).run P (sw w ms ck)=.ok none (sw w ms ck):=by
  simp[Instr.findKey,underlying,tI.h,hf]
 have aaZ:∀o:Obj,{sw w ms ck with heap:=(sw w ms ck).heap.setIfInBounds w.heap.size o}=w.alloc o:=by
  intro o;simp only[sw,World.alloc];congr 1;apply Array.ext';simp
 simp[execOp,hx,hy,hz,Instr.mapUpdate,underlying,tM.u,getM (xV w ms ck),ckM,hfk,aaX _ (xV w ms ck)];exact aaZ _
theorem z5{d:Option Nat}{z0:Value}[tP:iD P U [(0,1)] [z0]]{ρ:Operand->Value}{w:World}{v:Value}(hx:ρ x=v)(hv:v.oneCell'=true):(execOp ρ ⟨d,.build U #[(0,x)],ty,pos,aft,none⟩).run P w=.ok (.value (.agg #[v])) w:=by
 have hu:=tP.h;cases hT:P.underlying U with
 |none=>rw[hT]at hu;cases hu
 |some u=>
  rw[hT]at hu;cases u with
  |struct fs=>
   simp only at hu;have hz:(zeroValue U).run P w=.ok (.agg ⟨[z0]⟩) w:=gX.run (t:=⟨tP.hz⟩) w;have hm:(fs.mapM (λf=>do pure (f.offset,<-sizeOf f.type):Field->Sem (Nat×Nat))).run P w=.ok #[(0,1)] w:=by
    have:=si (P:=P) (w:=w) hu;rw[<-Array.toArray_toList (xs:=fs),List.mapM_toArray];rw[Sem.run_map,this];rfl
   simp only[execOp,Instr.build,underlying];simp only[Sem.run_bind,hz,Result.andThen_ok,run_program,hT,Sem.run_pure,Value.cells];have hm':(Array.mapM (λf=>do
     let __do_lift<-sizeOf f.type
     pure (f.offset,__do_lift)) fs:Sem _).run P w=.ok #[(0,1)] w:=hm
   simp only[hm',Result.andThen_ok];have h1':Instr.fill (λi=>(#[(0,1)]:Array (Nat×Nat))[i]?) ⟨[z0]⟩ [(0,v)]=some ⟨[v]⟩:=by
    simp[Instr.fill,iI hv]
    try rfl
   have e4:(Array.map (λx=>match x with|(i,x)=>(i,ρ x)) #[(0,x)]).toList=[(0,v)]:=by simp[hx]
   simp only[e4,h1',Sem.run_pure,Result.andThen_ok]
  |_=>cases hu
theorem O4{Q:Exit->AS->Prop}{id:Nat}{T U kt et t0:TypeId}[tM:IS P T kt et]{k:IntKind}[tI:mI P kt k]{z0:Value}[tP:iD P U [(0,1)] [z0]]{f1 f2 f3 f4:FuncId}{n1 n2 n3 n4:Int}
  {p0 p1 p2 p3 p4 p5 p6 p7 p8 p9 ZF:String} {a0 a1 a2 a3 a4 a5 a6 a7 a8 a9 ZG:Array Edge} {u1 u2 u3 u4 u5 u6 u7 u8 u9:TypeId} (hn:7<=S.n)
  (h2:Instr.findNow (.int k) (.int k n2) [⟨.int k n1,.agg #[.func (.func f1) #[] #[]],0⟩] 0=some none)
  (h3:Instr.findNow (.int k) (.int k n3) [⟨.int k n1,.agg #[.func (.func f1) #[] #[]],0⟩,⟨.int k n2,.agg #[.func (.func f2) #[] #[]],1⟩] 0=some none)
  (h4:Instr.findNow (.int k) (.int k n4) [⟨.int k n1,.agg #[.func (.func f1) #[] #[]],0⟩,⟨.int k n2,.agg #[.func (.func f2) #[] #[]],1⟩,⟨.int k n3,.agg #[.func (.func f3) #[] #[]],2⟩] 0=some none)
  (hQ:∀S',S'.t 0=.sv (LO [(.int k n1,.agg #[.func (.func f1) #[] #[]]),(.int k n2,.agg #[.func (.func f2) #[] #[]]),(.int k n3,.agg #[.func (.func f3) #[] #[]]),(.int k n4,.agg #[.func (.func f4) #[] #[]])])->Q .normal S'):
  Ok P C (.region id #[⟨some 1,.makeMap T none,t0,p0,a0,none⟩,⟨some 2,.build U #[(0,.func f1)],u1,p1,a1,none⟩,⟨none,.insert T (.tmp 1) (.const (.int k n1)) (.tmp 2),u2,p2,a2,none⟩,
   ⟨some 3,.build U #[(0,.func f2)],u3,p3,a3,none⟩,⟨none,.insert T (.tmp 1) (.const (.int k n2)) (.tmp 3),u4,p4,a4,none⟩,⟨some 4,.build U #[(0,.func f3)],u5,p5,a5,none⟩,⟨none,.insert T (.tmp 1) (.const (.int k n3)) (.tmp 4),u6,p6,a6,none⟩,
   ⟨some 5,.build U #[(0,.func f4)],u7,p7,a7,none⟩,⟨none,.insert T (.tmp 1) (.const (.int k n4)) (.tmp 5),u8,p8,a8,none⟩,⟨some 6,.move (.tmp 1),u9,p9,a9,none⟩,⟨some 0,.assign (.tmp 6),u9,ZF,ZG,none⟩] false) S Q:=by
 rintro a w ⟨E,h⟩;refine wpIn_region ?_;show wpOpsIn _ _ _ _ _ [0,1,2,3,4,5,6,7,8,9,10] a w;have hS:∀(S:AS) (d:Nat) (x:AV),(S.set d x).n=S.n:=λ_ _ _=>rfl;rw[wpOpsIn_cons];refine cA (C:=C) rfl rfl (ct (C:=C) (by intro c h;cases h) run_make ?_);have g1:=h.put (d:=1) (x:=.sv (.v (.map (some w.heap.size)))) (v:=.map (some w.heap.size)) Y (by omega) ff;show wpOpsIn _ _ _ _ _ _ (a.put (some 1) _) _;generalize a.put (some 1) (.map (some w.heap.size))=b1 at g1⊢;rw[wpOpsIn_cons];refine cA (C:=C) rfl rfl (ct (C:=C) (by intro c h;cases h) (z5 rfl rfl) ?_);have g2:=g1.put (d:=2) (x:=.sv (.v (.agg #[.func (.func f1) #[] #[]]))) (v:=.agg #[.func (.func f1) #[] #[]]) Y (by rw[hS];omega) ff;show wpOpsIn _ _ _ _ _ _ (b1.put (some 2) (.agg #[.func (.func f1) #[] #[]])) _;generalize b1.put (some 2) (.agg #[.func (.func f1) #[] #[]])=b2 at g2⊢;rw[wpOpsIn_cons];refine cA (C:=C) rfl rfl (ct (C:=C) (by intro c h;cases h) (z4 (k:=k) (n:=n1) (v:=.agg #[.func (.func f1) #[] #[]]) (g2.ev (.tmp 1)) rfl (g2.ev (.tmp 2)) rfl) ?_);show wpOpsIn _ _ _ _ _ _ (b2.put none undef) _;rw[show b2.put none undef=b2 from rfl,wpOpsIn_cons];refine cA (C:=C) rfl rfl (ct (C:=C) (by intro c h;cases h) (z5 rfl rfl) ?_)
 have g3:=g2.put (d:=3) (x:=.sv (.v (.agg #[.func (.func f2) #[] #[]]))) (v:=.agg #[.func (.func f2) #[] #[]]) Y (by rw[hS,hS];omega) ff;show wpOpsIn _ _ _ _ _ _ (b2.put (some 3) (.agg #[.func (.func f2) #[] #[]])) _;generalize b2.put (some 3) (.agg #[.func (.func f2) #[] #[]])=b3 at g3⊢;rw[wpOpsIn_cons];refine cA (C:=C) rfl rfl (ct (C:=C) (by intro c h;cases h) (z4 (k:=k) (n:=n2) (v:=.agg #[.func (.func f2) #[] #[]]) (g3.ev (.tmp 1)) rfl (g3.ev (.tmp 3)) (by simpa using h2)) ?_);show wpOpsIn _ _ _ _ _ _ (b3.put none undef) _;rw[show b3.put none undef=b3 from rfl,wpOpsIn_cons];refine cA (C:=C) rfl rfl (ct (C:=C) (by intro c h;cases h) (z5 rfl rfl) ?_);have g4:=g3.put (d:=4) (x:=.sv (.v (.agg #[.func (.func f3) #[] #[]]))) (v:=.agg #[.func (.func f3) #[] #[]]) Y (by rw[hS,hS,hS];omega) ff;show wpOpsIn _ _ _ _ _ _ (b3.put (some 4) (.agg #[.func (.func f3) #[] #[]])) _;generalize b3.put (some 4) (.agg #[.func (.func f3) #[] #[]])=b4 at g4⊢;rw[wpOpsIn_cons];refine cA (C:=C) rfl rfl (ct (C:=C) (by intro c h;cases h) (z4 (k:=k) (n:=n3) (v:=.agg #[.func (.func f3) #[] #[]]) (g4.ev (.tmp 1)) rfl (g4.ev (.tmp 4)) (by simpa using h3)) ?_);show wpOpsIn _ _ _ _ _ _ (b4.put none undef) _
 rw[show b4.put none undef=b4 from rfl,wpOpsIn_cons];refine cA (C:=C) rfl rfl (ct (C:=C) (by intro c h;cases h) (z5 rfl rfl) ?_);have g5:=g4.put (d:=5) (x:=.sv (.v (.agg #[.func (.func f4) #[] #[]]))) (v:=.agg #[.func (.func f4) #[] #[]]) Y (by rw[hS,hS,hS,hS];omega) ff;show wpOpsIn _ _ _ _ _ _ (b4.put (some 5) (.agg #[.func (.func f4) #[] #[]])) _;generalize b4.put (some 5) (.agg #[.func (.func f4) #[] #[]])=b5 at g5⊢;rw[wpOpsIn_cons];refine cA (C:=C) rfl rfl (ct (C:=C) (by intro c h;cases h) (z4 (k:=k) (n:=n4) (v:=.agg #[.func (.func f4) #[] #[]]) (g5.ev (.tmp 1)) rfl (g5.ev (.tmp 5)) (by simpa using h4)) ?_);show wpOpsIn _ _ _ _ _ _ (b5.put none undef) _;have e1:b5.eval (.tmp 1)=.map (some w.heap.size):=g5.ev (.tmp 1);obtain⟨ms,hms⟩:∃ms:Array MapEntry,(((((#[]:Array MapEntry).push ⟨.int k n1,.agg #[.func (.func f1) #[] #[]],0⟩).push ⟨.int k n2,.agg #[.func (.func f2) #[] #[]],0+1⟩).push ⟨.int k n3,.agg #[.func (.func f3) #[] #[]],0+1+1⟩).push ⟨.int k n4,.agg #[.func (.func f4) #[] #[]],0+1+1+1⟩)=ms:=⟨_,Y⟩;rw[hms];have hno:∀o,E.M w.heap.size o=none:=λo=>by
  cases e:E.M w.heap.size o with
  |none=>rfl
  |some v=>have:=nm h.dh e;omega
 have g6:=g5.grow (M':=λb o=>if b=w.heap.size/\o=0 then some (.tuple (OJ ms))else E.M b o) (w':=sw w ms (0+1+1+1+1)) (λb o v e=>by
   have:b≠w.heap.size:=by rintro rfl;rw[hno o]at e;cases e
   simp[this,e]) (λb o v e=>by
   by_cases hb:b=w.heap.size/\o=0
   ·exact .inr (by omega)
   ·simp only[if_neg hb]at e;exact .inl e) (λb o v e=>by
   by_cases hb:b=w.heap.size/\o=0
   ·simp only[if_pos hb]at e;obtain⟨rfl,rfl⟩:=hb;cases e;exact⟨ms,_,xV w ms _,Y⟩
   simp only[if_neg hb]at e;have hlt:=nm h.dh e;refine(h.dh b o v e).same ?_;show(w.heap.push _)[b]? =_;rw[Array.getElem?_push,if_neg (by omega)]) ((Below.refl _ _).alloc (Nat.le_refl _) _)
 have hm:∀X:Env,X.M w.heap.size 0=some (.tuple (OJ ms))->(LO [(.int k n1,.agg #[.func (.func f1) #[] #[]]),(.int k n2,.agg #[.func (.func f2) #[] #[]]),(.int k n3,.agg #[.func (.func f3) #[] #[]]),(.int k n4,.agg #[.func (.func f4) #[] #[]])]).h X.M (.map (some w.heap.size)):=λX hX=>by
  refine⟨_,Y,?_⟩;rw[hX,<-hms];rfl
 have g7:=g6.put (d:=6) (x:=.sv (.v (.map (some w.heap.size)))) (v:=.map (some w.heap.size)) Y (by rw[hS,hS,hS,hS,hS];omega) ff;rw[show b5.put none undef=b5 from rfl,wpOpsIn_cons];refine cA (C:=C) rfl rfl (ct (C:=C) (by intro c h;cases h) (r:=.ok (.value (.map (some w.heap.size))) _) (by show Result.ok (Next.value (b5.eval (.tmp 1))) _=_;rw[e1]) ?_);show wpOpsIn _ _ _ _ _ _ (b5.put (some 6) (.map (some w.heap.size))) _;generalize b5.put (some 6) (.map (some w.heap.size))=b6 at g7⊢;have e6:b6.eval (.tmp 6)=.map (some w.heap.size):=g7.ev (.tmp 6);have g8:=g7.put (d:=0) (x:=.sv (LO [(.int k n1,.agg #[.func (.func f1) #[] #[]]),(.int k n2,.agg #[.func (.func f2) #[] #[]]),(.int k n3,.agg #[.func (.func f3) #[] #[]]),(.int k n4,.agg #[.func (.func f4) #[] #[]])])) (v:=.map (some w.heap.size)) (hm _ (by simp)) (by rw[hS,hS,hS,hS,hS,hS];omega) ff;rw[wpOpsIn_cons];refine cA (C:=C) rfl rfl (ct (C:=C) (by intro c h;cases h) (r:=.ok (.value (.map (some w.heap.size))) _) (by show Result.ok (Next.value (b6.eval (.tmp 6))) _=_;rw[e6]) ?_);show wpOpsIn _ _ _ _ _ _ (b6.put (some 0) (.map (some w.heap.size))) _;rw[wpOpsIn];exact⟨_,hQ _ Y,_,g8⟩
end steps
def ASc(Q:Exit->AS->Prop):Exit->AS->Prop
 |.goto _,_=>False
 |e,S=>Q e S
section scope
variable {P:Program}{C:Ctx}{S:AS}{Q:Exit->AS->Prop}
theorem ASc.n(h:Q .normal S):ASc Q .normal S:=h
end scope
end
end Go.Fw
namespace Go.Proofs.YtningmnklfpfjaaGreat
section
open Go.Fw
open Go.Proofs
noncomputable abbrev ah:=Tryz.prog
instance:mI ah 2 .i64:=⟨by kernel_rfl⟩
instance:pV ah 2:=⟨by kernel_rfl,by kernel_rfl⟩
instance:jw ah 2 1 8 (.int .i64 0):=⟨by kernel_rfl,by rfl,by decide,by decide⟩
instance:mI ah 3 .i64:=⟨by kernel_rfl⟩
instance:pV ah 3:=⟨by kernel_rfl,by kernel_rfl⟩
instance:gX ah 3 (.int .i64 0):=⟨by kernel_rfl⟩
instance:jw ah 3 1 8 (.int .i64 0):=⟨by kernel_rfl,by rfl,by decide,by decide⟩
instance:DB ah 4:=⟨by kernel_rfl⟩
instance:pV ah 4:=⟨by kernel_rfl,by kernel_rfl⟩
instance:gX ah 4 (.bool false):=⟨by kernel_rfl⟩
instance:mI ah 5 .u8:=⟨by kernel_rfl⟩
instance:Qv ah 9:=⟨by kernel_rfl⟩
instance:pV ah 22:=⟨by kernel_rfl,by kernel_rfl⟩
instance:gX ah 22 (.slice none 0 0):=⟨by kernel_rfl⟩
instance:jw ah 22 1 24 (.slice none 0 0):=⟨by kernel_rfl,by rfl,by decide,by decide⟩
instance:eM ah 22 23 1:=⟨by kernel_rfl,by kernel_rfl⟩
instance:pV ah 23:=⟨by kernel_rfl,by kernel_rfl⟩
instance:gX ah 23 (.slice none 0 0):=⟨by kernel_rfl⟩
instance:jw ah 23 1 24 (.slice none 0 0):=⟨by kernel_rfl,by rfl,by decide,by decide⟩
instance:eM ah 23 43 4:=⟨by kernel_rfl,by kernel_rfl⟩
instance:zV ah 25 4:=⟨by kernel_rfl,by kernel_rfl⟩
instance:gX ah 25 (.agg #[.int .i64 0,.slice none 0 0,.slice none 0 0,.slice none 0 0]):=⟨by kernel_rfl⟩
instance:iD ah 25 [(0,1),(1,1),(2,1),(3,1)] [.int .i64 0,.slice none 0 0,.slice none 0 0,.slice none 0 0]:=⟨by kernel_rfl,by kernel_rfl,by rfl⟩
instance:xH ah 25 0 0 3:=⟨by kernel_rfl⟩
instance:xH ah 25 1 1 22:=⟨by kernel_rfl⟩
instance:xH ah 25 2 2 22:=⟨by kernel_rfl⟩
instance:xH ah 25 3 3 23:=⟨by kernel_rfl⟩
instance:eM ah 26 38 2:=⟨by kernel_rfl,by kernel_rfl⟩
instance:pV ah 30:=⟨by kernel_rfl,by kernel_rfl⟩
instance:jw ah 38 2 16 (.agg #[.int .i64 0,.int .i64 0]):=⟨by kernel_rfl,by rfl,by decide,by decide⟩
instance:xH ah 38 0 0 3:=⟨by kernel_rfl⟩
instance:xH ah 38 1 1 3:=⟨by kernel_rfl⟩
instance:pV ah 39:=⟨by kernel_rfl,by kernel_rfl⟩
instance:gX ah 39 (.slice none 0 0):=⟨by kernel_rfl⟩
instance:eM ah 39 130 1:=⟨by kernel_rfl,by kernel_rfl⟩
instance:zV ah 41 2:=⟨by kernel_rfl,by kernel_rfl⟩
instance:E5 ah 41:=⟨λw=>⟨1,zV.size (T:=41) (n:=2) w⟩⟩
instance:gX ah 41 (.agg #[.bool false,.slice none 0 0]):=⟨by kernel_rfl⟩
instance:jw ah 41 2 32 (.agg #[.bool false,.slice none 0 0]):=⟨by kernel_rfl,by rfl,by decide,by decide⟩
instance:iD ah 41 [(0,1),(1,1)] [.bool false,.slice none 0 0]:=⟨by kernel_rfl,by kernel_rfl,by rfl⟩
instance:xH ah 41 0 0 4:=⟨by kernel_rfl⟩
instance:xH ah 41 1 1 39:=⟨by kernel_rfl⟩
instance:zV ah 43 4:=⟨by kernel_rfl,by kernel_rfl⟩
instance:gX ah 43 (.agg #[.bool false,.slice none 0 0,.bool false,.slice none 0 0]):=⟨by kernel_rfl⟩
instance:jw ah 43 4 64 (.agg #[.bool false,.slice none 0 0,.bool false,.slice none 0 0]):=⟨by kernel_rfl,by rfl,by decide,by decide⟩
instance:iD ah 43 [(0,2),(2,2)] [.bool false,.slice none 0 0,.bool false,.slice none 0 0]:=⟨by kernel_rfl,by kernel_rfl,by rfl⟩
instance:xH ah 43 0 0 41:=⟨by kernel_rfl⟩
instance:xH ah 43 1 2 41:=⟨by kernel_rfl⟩
instance:pV ah 45:=⟨by kernel_rfl,by kernel_rfl⟩
instance:eM ah 45 3 1:=⟨by kernel_rfl,by kernel_rfl⟩
instance:iD ah 79 [(0,1),(1,1),(2,1),(3,1),(4,1)] [.bool false,.int .i64 0,.slice none 0 0,.slice none 0 0,.slice none 0 0]:=⟨by kernel_rfl,by kernel_rfl,by rfl⟩
instance:xH ah 79 0 0 4:=⟨by kernel_rfl⟩
instance:xH ah 79 1 1 3:=⟨by kernel_rfl⟩
instance:xH ah 79 2 2 22:=⟨by kernel_rfl⟩
instance:xH ah 79 3 3 45:=⟨by kernel_rfl⟩
instance:xH ah 79 4 4 22:=⟨by kernel_rfl⟩
instance:pV ah 89:=⟨by kernel_rfl,by kernel_rfl⟩
instance:zV ah 97 4:=⟨by kernel_rfl,by kernel_rfl⟩
instance:gX ah 97 (.agg #[.int .i64 0,.int .i64 0,.int .i64 0,.int .i64 0]):=⟨by kernel_rfl⟩
instance:iD ah 97 [(0,1),(1,1),(2,1),(3,1)] [.int .i64 0,.int .i64 0,.int .i64 0,.int .i64 0]:=⟨by kernel_rfl,by kernel_rfl,by rfl⟩
instance:xH ah 97 0 0 3:=⟨by kernel_rfl⟩
instance:xH ah 97 1 1 3:=⟨by kernel_rfl⟩
instance:xH ah 97 2 2 3:=⟨by kernel_rfl⟩
instance:xH ah 97 3 3 3:=⟨by kernel_rfl⟩
instance:pV ah 106:=⟨by kernel_rfl,by kernel_rfl⟩
instance:pV ah 117:=⟨by kernel_rfl,by kernel_rfl⟩
instance:jw ah 117 1 24 (.slice none 0 0):=⟨by kernel_rfl,by rfl,by decide,by decide⟩
instance:eM ah 117 2 1:=⟨by kernel_rfl,by kernel_rfl⟩
instance:zV ah 124 1:=⟨by kernel_rfl,by kernel_rfl⟩
instance:gX ah 124 (.agg #[.nilFunc]):=⟨by kernel_rfl⟩
instance:iD ah 124 [(0,1)] [.nilFunc]:=⟨by kernel_rfl,by kernel_rfl,by rfl⟩
instance:xH ah 124 0 0 89:=⟨by kernel_rfl⟩
instance:mI ah 128 .u64:=⟨by kernel_rfl⟩
instance:pV ah 128:=⟨by kernel_rfl,by kernel_rfl⟩
instance:mI ah 130 .u32:=⟨by kernel_rfl⟩
instance:pV ah 130:=⟨by kernel_rfl,by kernel_rfl⟩
instance:jw ah 130 1 4 (.int .u32 0):=⟨by kernel_rfl,by rfl,by decide,by decide⟩
instance:pV ah 144:=⟨by kernel_rfl,by kernel_rfl⟩
instance:gX ah 144 (.nilFunc):=⟨by kernel_rfl⟩
instance:eM ah 155 22 1:=⟨by kernel_rfl,by kernel_rfl⟩
instance:eM ah 156 117 1:=⟨by kernel_rfl,by kernel_rfl⟩
instance:eM ah 167 41 2:=⟨by kernel_rfl,by kernel_rfl⟩
instance:pV ah 174:=⟨by kernel_rfl,by kernel_rfl⟩
instance:iD ah 176 [(0,1)] [.nilFunc]:=⟨by kernel_rfl,by kernel_rfl,by rfl⟩
instance:xH ah 176 0 0 174:=⟨by kernel_rfl⟩
instance:IS ah 177 5 176:=⟨by kernel_rfl⟩
instance:mI ah 179 .u64:=⟨by kernel_rfl⟩
instance:pV ah 186:=⟨by kernel_rfl,by kernel_rfl⟩
instance:gX ah 186 (.nilFunc):=⟨by kernel_rfl⟩
instance:dz ah 9:=⟨by kernel_rfl⟩
instance:dz ah 10:=⟨by kernel_rfl⟩
instance:dz ah 12:=⟨by kernel_rfl⟩
instance:dz ah 14:=⟨by kernel_rfl⟩
instance:dz ah 17:=⟨by kernel_rfl⟩
instance:dz ah 18:=⟨by kernel_rfl⟩
instance:dz ah 19:=⟨by kernel_rfl⟩
instance:dz ah 20:=⟨by kernel_rfl⟩
instance:dz ah 21:=⟨by kernel_rfl⟩
instance:dz ah 24:=⟨by kernel_rfl⟩
instance:dz ah 28:=⟨by kernel_rfl⟩
instance:dz ah 33:=⟨by kernel_rfl⟩
instance:dz ah 34:=⟨by kernel_rfl⟩
instance:dz ah 35:=⟨by kernel_rfl⟩
instance:dz ah 37:=⟨by kernel_rfl⟩
instance:dz ah 38:=⟨by kernel_rfl⟩
instance:dz ah 39:=⟨by kernel_rfl⟩
instance:dz ah 40:=⟨by kernel_rfl⟩
instance:dz ah 41:=⟨by kernel_rfl⟩
instance:dz ah 42:=⟨by kernel_rfl⟩
instance:dz ah 45:=⟨by kernel_rfl⟩
instance:dz ah 47:=⟨by kernel_rfl⟩
instance:dz ah 48:=⟨by kernel_rfl⟩
instance:dz ah 49:=⟨by kernel_rfl⟩
instance:dz ah 50:=⟨by kernel_rfl⟩
instance:dz ah 51:=⟨by kernel_rfl⟩
instance:dz ah 52:=⟨by kernel_rfl⟩
instance:dz ah 53:=⟨by kernel_rfl⟩
instance:dz ah 54:=⟨by kernel_rfl⟩
instance:dz ah 56:=⟨by kernel_rfl⟩
instance:dz ah 57:=⟨by kernel_rfl⟩
instance:dz ah 58:=⟨by kernel_rfl⟩
instance:dz ah 59:=⟨by kernel_rfl⟩
instance:dz ah 60:=⟨by kernel_rfl⟩
instance:dz ah 64:=⟨by kernel_rfl⟩
instance:dz ah 65:=⟨by kernel_rfl⟩
instance:dz ah 72:=⟨by kernel_rfl⟩
instance:dz ah 77:=⟨by kernel_rfl⟩
instance:dz ah 78:=⟨by kernel_rfl⟩
instance:dz ah 82:=⟨by kernel_rfl⟩
instance:dz ah 83:=⟨by kernel_rfl⟩
instance:dz ah 84:=⟨by kernel_rfl⟩
instance:dz ah 85:=⟨by kernel_rfl⟩
instance:dz ah 86:=⟨by kernel_rfl⟩
instance:dz ah 87:=⟨by kernel_rfl⟩
instance:dz ah 88:=⟨by kernel_rfl⟩
instance:dz ah 89:=⟨by kernel_rfl⟩
instance:dz ah 90:=⟨by kernel_rfl⟩
instance:dz ah 91:=⟨by kernel_rfl⟩
instance:dz ah 93:=⟨by kernel_rfl⟩
instance:dz ah 94:=⟨by kernel_rfl⟩
instance:dz ah 95:=⟨by kernel_rfl⟩
instance:dz ah 96:=⟨by kernel_rfl⟩
instance:dz ah 97:=⟨by kernel_rfl⟩
instance:dz ah 98:=⟨by kernel_rfl⟩
instance:dz ah 99:=⟨by kernel_rfl⟩
instance:dz ah 100:=⟨by kernel_rfl⟩
instance:dz ah 103:=⟨by kernel_rfl⟩
instance:dz ah 104:=⟨by kernel_rfl⟩
instance:dz ah 105:=⟨by kernel_rfl⟩
instance:dz ah 106:=⟨by kernel_rfl⟩
instance:dz ah 107:=⟨by kernel_rfl⟩
instance:dz ah 108:=⟨by kernel_rfl⟩
instance:dz ah 114:=⟨by kernel_rfl⟩
instance:dz ah 118:=⟨by kernel_rfl⟩
instance:dz ah 125:=⟨by kernel_rfl⟩
instance:dz ah 126:=⟨by kernel_rfl⟩
instance:dz ah 127:=⟨by kernel_rfl⟩
instance:dz ah 128:=⟨by kernel_rfl⟩
instance:dz ah 129:=⟨by kernel_rfl⟩
instance:dz ah 130:=⟨by kernel_rfl⟩
instance:dz ah 131:=⟨by kernel_rfl⟩
instance:dz ah 132:=⟨by kernel_rfl⟩
instance:dz ah 133:=⟨by kernel_rfl⟩
instance:dz ah 134:=⟨by kernel_rfl⟩
instance:dz ah 135:=⟨by kernel_rfl⟩
instance:dz ah 136:=⟨by kernel_rfl⟩
instance:dz ah 137:=⟨by kernel_rfl⟩
instance:dz ah 139:=⟨by kernel_rfl⟩
instance:dz ah 140:=⟨by kernel_rfl⟩
instance:dz ah 141:=⟨by kernel_rfl⟩
instance:dz ah 144:=⟨by kernel_rfl⟩
instance:dz ah 145:=⟨by kernel_rfl⟩
instance:dz ah 161:=⟨by kernel_rfl⟩
instance:dz ah 162:=⟨by kernel_rfl⟩
instance:dz ah 163:=⟨by kernel_rfl⟩
instance:dz ah 164:=⟨by kernel_rfl⟩
instance:dz ah 165:=⟨by kernel_rfl⟩
instance:dz ah 166:=⟨by kernel_rfl⟩
instance:dz ah 167:=⟨by kernel_rfl⟩
instance:dz ah 168:=⟨by kernel_rfl⟩
instance:dz ah 169:=⟨by kernel_rfl⟩
instance:dz ah 175:=⟨by kernel_rfl⟩
instance:dz ah 186:=⟨by kernel_rfl⟩
instance:dz ah 187:=⟨by kernel_rfl⟩
instance:dz ah 188:=⟨by kernel_rfl⟩
instance:dz ah 189:=⟨by kernel_rfl⟩
instance:dz ah 190:=⟨by kernel_rfl⟩
instance:dz ah 191:=⟨by kernel_rfl⟩
instance:dz ah 192:=⟨by kernel_rfl⟩
instance:dz ah 193:=⟨by kernel_rfl⟩
instance:dz ah 194:=⟨by kernel_rfl⟩
instance:dz ah 195:=⟨by kernel_rfl⟩
instance:dz ah 202:=⟨by kernel_rfl⟩
instance:dz ah 203:=⟨by kernel_rfl⟩
instance:dz ah 204:=⟨by kernel_rfl⟩
instance:dz ah 205:=⟨by kernel_rfl⟩
instance:dz ah 206:=⟨by kernel_rfl⟩
instance:dz ah 210:=⟨by kernel_rfl⟩
instance:dz ah 211:=⟨by kernel_rfl⟩
instance:dz ah 212:=⟨by kernel_rfl⟩
instance:dz ah 213:=⟨by kernel_rfl⟩
instance:dz ah 214:=⟨by kernel_rfl⟩
instance:dz ah 215:=⟨by kernel_rfl⟩
theorem mixed:Tryz.prog.follows .mixedOrders=true:=by kernel_rfl
end
section
open Go.Fw Go.RowKit
def snap(W:World):Mem:=λb o=>(W.cell? ⟨b,o,none⟩).filter Value.oneCell'
theorem O5(W:World):(snap W).dh W:=λ_ _ _ e=>by
 obtain⟨e1,e2⟩:=Option.filter_eq_some_iff.1 e;exact .of e1 e2
theorem O6{W:World}{b o:Nat}{v:Value}(h:W.cell? ⟨b,o,none⟩=some v)(h1:v.oneCell'=true):snap W b o=some v:=Option.filter_eq_some_iff.2 ⟨h,h1⟩
class Cd (P:Program) (T:TypeId) {α:Type} (e:α->List SV) (ok:outParam (α->Prop)) (sz:outParam (α->Nat)):Prop where
 h:∀{H:Type} (enc:TypeId×Value->H) (W:World) (fuel:Nat) (cs:List Value) (d:DataW H) (p:List MemPlace),DataW.trod enc P W 0 (λ_=>true) true fuel T cs=some (d,p)->
  ∃x:α,ok x/\SV.ef (snap W) (e x) cs/\(∀v∈cs,v.oneCell'=true)/\sz x<=Rows.uptoBulk d
section opn
variable {P:Program}{T:TypeId}
theorem LR{k:IntKind}{n:Int}(h:(Lit.int k n).wf=true):k.min<=n/\n<=k.max:=by simpa[Lit.wf]using h
instance[t:mI P T .i64]:Cd P T cO (λx=>-9223372036854775808<=x/\x<=9223372036854775807) (λ_=>1):=⟨λenc W fuel cs d p h=>by
 obtain⟨n,rfl,hx,hw⟩:=DataW.trod_int t.h h;cases hx;have:=LR hw;exact⟨n,by simpa[IntKind.min,IntKind.max,IntKind.signed,IntKind.bits]using this,⟨rfl,aq⟩,by simp[Value.oneCell'],by simp[Rows.uptoBulk]⟩⟩
theorem WZ{k:IntKind}{M:Nat}{e:Nat->List SV}(t:mI P T k)(hk:k.min=0/\k.max=(M:Int)-1)(he:∀n:Nat,e n=[.v (.int k (n:Int))]):Cd P T e (λx=>x<M) (λ_=>1):=⟨λenc W fuel cs d p h=>by
 obtain⟨n,rfl,hx,hw⟩:=DataW.trod_int t.h h;cases hx;have:=LR hw;rw[hk.1,hk.2]at this;obtain⟨m,rfl⟩:=Int.eq_ofNat_of_zero_le this.1;exact⟨m,by omega,by rw[he];exact⟨Y,aq⟩,by simp[Value.oneCell'],by simp[Rows.uptoBulk]⟩⟩
instance[t:mI P T .u32]:Cd P T aY (λx=>x<4294967296) (λ_=>1):=WZ t (by decide) (λ_=>rfl)
instance[t:DB P T]:Cd P T eB (λ_=>True) (λ_=>1):=⟨λenc W fuel cs d p h=>by
 obtain⟨b,rfl,hx⟩:=DataW.trod_bool t.h h;cases hx;exact⟨b,aq,⟨rfl,aq⟩,by simp[Value.oneCell'],by simp[Rows.uptoBulk]⟩⟩
theorem Fq{H α:Type}(sz:α->Nat):∀(xs:List α) (ds:List (DataW H)),xs.length=ds.length->(∀(i:Nat) (x:α) (d:DataW H),xs[i]? =some x->ds[i]? =some d->sz x<=Rows.uptoBulk d)->(xs.map sz).sum<=Rows.uptoBulkAll ds
 |[],[],_,_=>by simp
 |x::xs,d::ds,hl,h=>by
  have h1:=h 0 x d Y Y;have h2:=Fq sz xs ds (by simpa using hl) (λi x d e1 e2=>h (i+1) x d (by simpa using e1) (by simpa using e2));simp only[List.map_cons,List.sum_cons,Rows.uptoBulkAll];omega
 |[],_::_,hl,_=>by simp at hl
 |_::_,[],hl,_=>by simp at hl
instance{E:TypeId}{n:Nat}{α:Type}{e:α->List SV}{ok:α->Prop}{sz:α->Nat}{by_:Nat}{zv:Value}[t:eM P T E n][tE:jw P E n by_ zv][el:EL e n][o:Cd P E e ok sz]:Cd P T (eS n e) (λl=>l.length<=9223372036854775807/\∀x∈l,ok x) (λl=>(l.map sz).sum+1):=⟨λ{H} enc W fuel cs d p h=>by
 have hcell:P.cellsOf E=n:=by
  have h1:=t.size W;simp only[sizeOf,typeInfo]at h1;cases hi:P.info? E with
  |none=>simp[hi]at h1
  |some i=>simp[hi]at h1;simp[Program.cellsOf,hi,h1]
 have hml:maxLen=9223372036854775807:=by decide
 rcases Deep.open_slice t.u h with⟨rfl,hx⟩|⟨a,len,cap,m,n',D,Pl,rfl,_,hl,hm,hmm,hx,hel⟩
 ·cases hx;exact⟨[],⟨by simp,by simp⟩,⟨.inl ⟨none,rfl,rfl⟩,aq⟩,by simp[Value.oneCell'],by simp[Rows.uptoBulk]⟩
 cases hx;rw[if_pos rfl]at hmm;subst hmm;have one:∀i,i<m->∃x,ok x/\sz x<=Rows.uptoBulk (D i)/\∃cs',W.cells? 0 (a.add (i*n)) n=some cs'/\SV.ef (snap W) (e x) cs'/\(∀v∈cs',v.oneCell'=true):=by
  intro i hi;obtain⟨cs',h1,h2⟩:=hel i hi;obtain⟨x,q1,q2,q3,q4⟩:=o.h enc W n' cs' (D i) (Pl i) h2;rw[hcell]at h1;exact⟨x,q1,q4,cs',h1,q2,q3⟩
 obtain⟨xs,ZH,hxs⟩:∃xs:List α,xs.length=len/\∀(i:Nat) (x:α),xs[i]? =some x->ok x/\sz x<=Rows.uptoBulk (D i)/\∃cs',W.cells? 0 (a.add (i*n)) n=some cs'/\SV.ef (snap W) (e x) cs'/\(∀v∈cs',v.oneCell'=true):=by
  clear h hm hel;have:∀k,k<=len->∃xs:List α,xs.length=k/\∀(i:Nat) (x:α),xs[i]? =some x->ok x/\sz x<=Rows.uptoBulk (D i)/\∃cs',W.cells? 0 (a.add (i*n)) n=some cs'/\SV.ef (snap W) (e x) cs'/\(∀v∈cs',v.oneCell'=true):=by
   intro k
   induction k with
   |zero=>intro _;exact⟨[],rfl,by simp⟩
   |succ k ih=>
    intro hk;obtain⟨xs,h1,h2⟩:=ih (by omega);obtain⟨x,hx⟩:=one k (by omega);refine⟨xs++[x],by simp[h1],λi y hy=>?_⟩;rcases Nat.lt_or_ge i k with hi|hi
    ·exact h2 i y (by rwa[List.getElem?_append_left (by omega)]at hy)
    rw[List.getElem?_append_right (by omega)]at hy;have hi2:i=k:=by
     rcases Nat.lt_or_ge (i-xs.length) 1 with q|q
     ·omega
     rw[List.getElem?_eq_none (by simpa using q)]at hy;cases hy
    subst hi2;rw[h1,Nat.sub_self]at hy;simp at hy;subst hy;exact hx
  exact this len (Nat.le_refl _)
 refine⟨xs,⟨by omega,λx hx=>?_⟩,⟨?_,aq⟩,by simp[Value.oneCell'],?_⟩
 ·obtain⟨i,hi,rfl⟩:=List.getElem_of_mem hx;exact(hxs i _ (List.getElem?_eq_getElem hi)).1
 ·by_cases h0:xs=[]
  ·subst h0;simp at ZH;subst ZH;by_cases hc0:m=0
   ·subst hc0;exact .inl ⟨_,rfl,rfl⟩
   obtain⟨x,_,_,cs',g1,g2,_⟩:=one 0 (by omega);obtain⟨_,g3,g4⟩:=World.cells?_some g1;have hn:0<n:=tE.p;have g5:=g4 0 hn;obtain⟨b,o',spot⟩:=a;have LS:spot=none:=by
    have:∃v,W.cell? (((⟨b,o',spot⟩:Addr).add (0*n)).add 0)=some v:=by
     rw[g5];exact⟨_,List.getElem?_eq_getElem (by omega)⟩
    obtain⟨v,hv⟩:=this;simpa[Addr.add]using World.cell?_spot hv
   subst LS;refine .inr ⟨b,o',m,rfl,by simp,by simp,λi row hr=>by simp at hr⟩
  have yX:0<len:=by
   rcases Nat.eq_zero_or_pos len with hz|hz
   ·exact absurd (List.eq_nil_of_length_eq_zero (by omega)) h0
   exact hz
  have hn:0<n:=tE.p;obtain⟨x,_,_,cs',g1,g2,_⟩:=one 0 (by omega);obtain⟨_,g3,g4⟩:=World.cells?_some g1;have g5:=g4 0 hn;obtain⟨b,o',spot⟩:=a;have LS:spot=none:=by
   have:∃v,W.cell? (((⟨b,o',spot⟩:Addr).add (0*n)).add 0)=some v:=by
    rw[g5];exact⟨_,List.getElem?_eq_getElem (by omega)⟩
   obtain⟨v,hv⟩:=this;simpa[Addr.add]using World.cell?_spot hv
  subst LS;refine .inr ⟨b,o',m,by rw[List.length_map,ZH],by rw[List.length_map];omega,by rw[List.length_map];omega,λi row hr=>?_⟩;rw[List.getElem?_map]at hr;cases hx:xs[i]? with
  |none=>rw[hx]at hr;cases hr
  |some y=>
   rw[hx]at hr;have hr:e y=row:=Option.some.inj hr;subst hr;obtain⟨_,_,cs2,k1,k2,k3⟩:=hxs i y hx;obtain⟨_,k4,k5⟩:=World.cells?_some k1;refine⟨el.len y,λk s hk=>?_⟩;obtain⟨u,hu,hs⟩:=k2.get hk;have hkn:k<n:=by have:=(List.getElem?_eq_some_iff.1 hu).1;omega
   have k6:=k5 k hkn;rw[fP,fP,hu]at k6;exact⟨u,O6 k6 (k3 u (List.mem_of_getElem? hu)),k3 u (List.mem_of_getElem? hu),hs⟩
 have hb:Rows.uptoBulk (DataW.slice ((List.range len).map D) ((List.range (m-len)).map λj=>D (len+j)))=Rows.uptoBulkAll ((List.range len).map D)+Rows.uptoBulkAll ((List.range (m-len)).map λj=>D (len+j))+1:=rfl;rw[hb];have:=Fq sz xs ((List.range len).map D) (by simp[ZH]) (λi x d e1 e2=>by
  have hi:i<len:=by have:=(List.getElem?_eq_some_iff.1 e1).1;omega
  simp[hi]at e2;subst e2;exact(hxs i x e1).2.1)
 omega⟩
class V3 (P:Program) (T:TypeId) (k:outParam Nat):Prop where
 h:(match P.underlying T with|some (.struct fs)=>some fs.size|_=>none)=some k
theorem z6{k:Nat}[s:V3 P T k]{H:Type}{enc:TypeId×Value->H}{W:World}{fuel:Nat}{cs:List Value}{d:DataW H}{p:List MemPlace}(h:DataW.trod enc P W 0 (λ_=>true) true fuel T cs=some (d,p)):
  ∃(xs:List (DataW H×List MemPlace)) (n:Nat),d=.agg (xs.map (·.1))/\cs.length=P.cellsOf T/\xs.length=k/\∀(i off:Nat) (U:TypeId),xH P T i off U->DataW.trod enc P W 0 (λ_=>true) true n U ((cs.drop off).take (P.cellsOf U))=xs[i]? :=by
 have hs:=s.h;cases hT:P.underlying T with
 |none=>rw[hT]at hs;cases hs
 |some u=>
  rw[hT]at hs;cases u with
  |struct fs=>
   have hk:fs.size=k:=Option.some.inj hs;obtain⟨xs,n,_,hx,hl,hn,hf⟩:=DataW.trod_struct hT h;refine⟨xs,n,(Prod.mk.inj hx).1,hl,by omega,λi off U F=>?_⟩;have hF:=F.h;rw[hT]at hF;simp only at hF;cases hg:fs[i]? with
   |none=>rw[hg]at hF;cases hF
   |some f=>
    rw[hg]at hF;simp only[Option.map_some,Option.some.injEq,Prod.mk.injEq]at hF;have:=hf i f hg;rw[hF.1,hF.2]at this;exact this
  |_=>cases hs
class W0 (P:Program) (T:TypeId):Prop where
 h:∀(w:World) (r:Reach) (base:Nat) (v:Value),Value.okWide P w r base T v->v.cells.toList=[v]
instance{E:TypeId}{n:Nat}[t:eM P T E n]:W0 P T:=⟨λw r base v h=>by
 obtain⟨a,l,c,rfl⟩:=WideShapes.okWide_slice t.u h;rfl⟩
theorem IU{α:Type}{e:α->List SV}{ok:α->Prop}{sz:α->Nat}[o1:W0 P T][o:Cd P T e ok sz]{H:Type}{enc:TypeId×Value->H}{W:World}{r:Reach}{base:Nat}{v:Value}{d:DataW H}{p:List MemPlace}
  (hv:Value.okWide P W r base T v) (h:DataW.Trod enc P W 0 (λ_=>true) true T v d p):∃x,ok x/\sz x<=Rows.uptoBulk d/\SV.ef (snap W) (e x) [v]:=by
 obtain⟨fuel,h⟩:=h;rw[o1.h W r base v hv]at h;obtain⟨x,h1,h2,_,h4⟩:=o.h enc W fuel _ d p h;exact⟨x,h1,h4,h2⟩
theorem O7{α:Type}{e:α->List SV}{ok:α->Prop}{sz:α->Nat}{k:Nat}[s:V3 P T k][o:Cd P T e ok sz]{H:Type}{enc:TypeId×Value->H}{W:World}{r:Reach}{base:Nat}{v:Value}{d:DataW H}{p:List MemPlace}
  (hv:Value.okWide P W r base T v) (h:DataW.Trod enc P W 0 (λ_=>true) true T v d p):∃x,ok x/\sz x<=Rows.uptoBulk d/\(SV.agg (e x)).h (snap W) v:=by
 have hs:=s.h;cases hT:P.underlying T with
 |none=>rw[hT]at hs;cases hs
 |some u=>
  rw[hT]at hs;cases u with
  |struct fs=>
   obtain⟨cs,rfl,_⟩:=WideShapes.okWide_struct hT hv;obtain⟨fuel,h⟩:=h;obtain⟨x,h1,h2,_,h4⟩:=o.h enc W fuel _ d p h;exact⟨x,h1,h4,cs.toList,Y,h2⟩
  |_=>cases hs
end opn
theorem O8{f:FuncId}{vs:List Value}{svs:List SV}{W:World}(hp:Pure ah f svs (.v (.bool true)))(h:SV.ef (snap W) svs vs):
  Calls ah f ⟨vs⟩ W λe w'=>e=.returned (.bool true)/\Below W.heap.size W w':=
 (hp (snap W) W vs (O5 W) h).mono λ_ _ ⟨v,_,h1,_,_,_,h2,h3⟩=>by
  have h2:v=.bool true:=h2;exact⟨by rw[h1,h2],h3⟩
end
section
open Go.Fw Go.RowKit Go.ChangeShapes Go.WideShapes Go.ChangeAt
theorem aa0:ownKnob Tryz.prog.godebug=none:=by kernel_rfl
theorem AT:laidOutB ah=true:=by kernel_rfl
instance:V3 ah 41 2:=⟨by kernel_rfl⟩
set_option maxRecDepth 100000 in
instance:Cd ah 41 eZ (λ(z:Zr)=>(True/\(z.w.length<=9223372036854775807/\∀x1∈z.w,x1<4294967296))) (λ(z:Zr)=>(1+((z.w.map λx1=>1).sum+1)+1)):=⟨λenc W fuel cs d p h=>by
 obtain⟨xs,n,rfl,hl,hn,hf⟩:=z6 h;have hl:cs.length=2:=hl.trans (by kernel_rfl)
 match xs,hn with
 |[⟨d0,p0⟩,⟨d1,p1⟩],_=>
 match cs,hl with
 |[c0,c1],_=>
 have t0:DataW.trod enc ah W 0 (λ_=>true) true n 4 [c0]=some (d0,p0):=(by have q:=hf 0 _ _ inferInstance;rw[show Tryz.prog.cellsOf 4=1 by kernel_rfl]at q;exact q);obtain⟨x0,a0,b0,e0,s0⟩:=Cd.h (P:=ah) (T:=4) (e:=eB) enc W n _ d0 p0 t0;have t1:DataW.trod enc ah W 0 (λ_=>true) true n 39 [c1]=some (d1,p1):=(by have q:=hf 1 _ _ inferInstance;rw[show Tryz.prog.cellsOf 39=1 by kernel_rfl]at q;exact q);obtain⟨x1,a1,b1,e1,s1⟩:=Cd.h (P:=ah) (T:=39) (e:=(eS 1 aY)) enc W n _ d1 p1 t1;refine⟨⟨x0,x1⟩,⟨a0,a1⟩,⟨b0.1,b1.1,aq⟩,?_,?_⟩
 ·intro v hv;simp only[List.mem_cons,List.not_mem_nil,or_false]at hv;rcases hv with rfl|rfl
  ·exact e0 _ (by simp)
  exact e1 _ (by simp)
 simp only[List.map_cons,List.map_nil,Rows.uptoBulk,Rows.uptoBulkAll];omega⟩
instance:V3 ah 43 2:=⟨by kernel_rfl⟩
set_option maxRecDepth 100000 in
instance:Cd ah 43 eQ (λ(z:Qr)=>((True/\(z.num.w.length<=9223372036854775807/\∀x1∈z.num.w,x1<4294967296))/\(True/\(z.den.w.length<=9223372036854775807/\∀x1∈z.den.w,x1<4294967296)))) (λ(z:Qr)=>((1+((z.num.w.map λx1=>1).sum+1)+1)+(1+((z.den.w.map λx1=>1).sum+1)+1)+1)):=⟨λenc W fuel cs d p h=>by
 obtain⟨xs,n,rfl,hl,hn,hf⟩:=z6 h;have hl:cs.length=4:=hl.trans (by kernel_rfl)
 match xs,hn with
 |[⟨d0,p0⟩,⟨d1,p1⟩],_=>
 match cs,hl with
 |[c0,c1,c2,c3],_=>
 have t0:DataW.trod enc ah W 0 (λ_=>true) true n 41 [c0,c1]=some (d0,p0):=(by have q:=hf 0 _ _ inferInstance;rw[show Tryz.prog.cellsOf 41=2 by kernel_rfl]at q;exact q);obtain⟨x0,a0,b0,e0,s0⟩:=Cd.h (P:=ah) (T:=41) (e:=eZ) enc W n _ d0 p0 t0;have t1:DataW.trod enc ah W 0 (λ_=>true) true n 41 [c2,c3]=some (d1,p1):=(by have q:=hf 1 _ _ inferInstance;rw[show Tryz.prog.cellsOf 41=2 by kernel_rfl]at q;exact q);obtain⟨x1,a1,b1,e1,s1⟩:=Cd.h (P:=ah) (T:=41) (e:=eZ) enc W n _ d1 p1 t1;refine⟨⟨x0,x1⟩,⟨a0,a1⟩,⟨b0.1,b0.2.1,b1.1,b1.2.1,aq⟩,?_,?_⟩
 ·intro v hv;simp only[List.mem_cons,List.not_mem_nil,or_false]at hv;rcases hv with rfl|rfl|rfl|rfl
  ·exact e0 _ (by simp)
  ·exact e0 _ (by simp)
  ·exact e1 _ (by simp)
  exact e1 _ (by simp)
 simp only[List.map_cons,List.map_nil,Rows.uptoBulk,Rows.uptoBulkAll];omega⟩
instance:V3 ah 25 4:=⟨by kernel_rfl⟩
set_option maxRecDepth 100000 in
instance:Cd ah 25 Fi (λ(z:Lr)=>((-9223372036854775808<=z.vars/\z.vars<=9223372036854775807)/\(z.uw.length<=9223372036854775807/\∀x1∈z.uw,(x1.length<=9223372036854775807/\∀x2∈x1,((True/\(x2.num.w.length<=9223372036854775807/\∀x3∈x2.num.w,x3<4294967296))/\(True/\(x2.den.w.length<=9223372036854775807/\∀x3∈x2.den.w,x3<4294967296)))))/\(z.rows.length<=9223372036854775807/\∀x1∈z.rows,(x1.length<=9223372036854775807/\∀x2∈x1,((True/\(x2.num.w.length<=9223372036854775807/\∀x3∈x2.num.w,x3<4294967296))/\(True/\(x2.den.w.length<=9223372036854775807/\∀x3∈x2.den.w,x3<4294967296)))))/\(z.bounds.length<=9223372036854775807/\∀x1∈z.bounds,((True/\(x1.num.w.length<=9223372036854775807/\∀x2∈x1.num.w,x2<4294967296))/\(True/\(x1.den.w.length<=9223372036854775807/\∀x2∈x1.den.w,x2<4294967296)))))) (λ(z:Lr)=>(1+((z.uw.map λx1=>((x1.map λx2=>((1+((x2.num.w.map λx3=>1).sum+1)+1)+(1+((x2.den.w.map λx3=>1).sum+1)+1)+1)).sum+1)).sum+1)+((z.rows.map λx1=>((x1.map λx2=>((1+((x2.num.w.map λx3=>1).sum+1)+1)+(1+((x2.den.w.map λx3=>1).sum+1)+1)+1)).sum+1)).sum+1)+((z.bounds.map λx1=>((1+((x1.num.w.map λx2=>1).sum+1)+1)+(1+((x1.den.w.map λx2=>1).sum+1)+1)+1)).sum+1)+1)):=⟨λenc W fuel cs d p h=>by
 obtain⟨xs,n,rfl,hl,hn,hf⟩:=z6 h;have hl:cs.length=4:=hl.trans (by kernel_rfl)
 match xs,hn with
 |[⟨d0,p0⟩,⟨d1,p1⟩,⟨d2,p2⟩,⟨d3,p3⟩],_=>
 match cs,hl with
 |[c0,c1,c2,c3],_=>
 have t0:DataW.trod enc ah W 0 (λ_=>true) true n 3 [c0]=some (d0,p0):=(by have q:=hf 0 _ _ inferInstance;rw[show Tryz.prog.cellsOf 3=1 by kernel_rfl]at q;exact q);obtain⟨x0,a0,b0,e0,s0⟩:=Cd.h (P:=ah) (T:=3) (e:=cO) enc W n _ d0 p0 t0;have t1:DataW.trod enc ah W 0 (λ_=>true) true n 22 [c1]=some (d1,p1):=(by have q:=hf 1 _ _ inferInstance;rw[show Tryz.prog.cellsOf 22=1 by kernel_rfl]at q;exact q);obtain⟨x1,a1,b1,e1,s1⟩:=Cd.h (P:=ah) (T:=22) (e:=(eS 1 (eS 4 eQ))) enc W n _ d1 p1 t1;have t2:DataW.trod enc ah W 0 (λ_=>true) true n 22 [c2]=some (d2,p2):=(by have q:=hf 2 _ _ inferInstance;rw[show Tryz.prog.cellsOf 22=1 by kernel_rfl]at q;exact q);obtain⟨x2,a2,b2,e2,s2⟩:=Cd.h (P:=ah) (T:=22) (e:=(eS 1 (eS 4 eQ))) enc W n _ d2 p2 t2;have t3:DataW.trod enc ah W 0 (λ_=>true) true n 23 [c3]=some (d3,p3):=(by have q:=hf 3 _ _ inferInstance;rw[show Tryz.prog.cellsOf 23=1 by kernel_rfl]at q;exact q);obtain⟨x3,a3,b3,e3,s3⟩:=Cd.h (P:=ah) (T:=23) (e:=(eS 4 eQ)) enc W n _ d3 p3 t3;refine⟨⟨x0,x1,x2,x3⟩,⟨a0,a1,a2,a3⟩,⟨b0.1,b1.1,b2.1,b3.1,aq⟩,?_,?_⟩
 ·intro v hv;simp only[List.mem_cons,List.not_mem_nil,or_false]at hv;rcases hv with rfl|rfl|rfl|rfl
  ·exact e0 _ (by simp)
  ·exact e1 _ (by simp)
  ·exact e2 _ (by simp)
  exact e3 _ (by simp)
 simp only[List.map_cons,List.map_nil,Rows.uptoBulk,Rows.uptoBulkAll];omega⟩
instance:V3 ah 38 2:=⟨by kernel_rfl⟩
set_option maxRecDepth 100000 in
instance:Cd ah 38 Oy (λ(z:Pv)=>((-9223372036854775808<=z.row/\z.row<=9223372036854775807)/\(-9223372036854775808<=z.col/\z.col<=9223372036854775807))) (λ(z:Pv)=>(1+1+1)):=⟨λenc W fuel cs d p h=>by
 obtain⟨xs,n,rfl,hl,hn,hf⟩:=z6 h;have hl:cs.length=2:=hl.trans (by kernel_rfl)
 match xs,hn with
 |[⟨d0,p0⟩,⟨d1,p1⟩],_=>
 match cs,hl with
 |[c0,c1],_=>
 have t0:DataW.trod enc ah W 0 (λ_=>true) true n 3 [c0]=some (d0,p0):=(by have q:=hf 0 _ _ inferInstance;rw[show Tryz.prog.cellsOf 3=1 by kernel_rfl]at q;exact q);obtain⟨x0,a0,b0,e0,s0⟩:=Cd.h (P:=ah) (T:=3) (e:=cO) enc W n _ d0 p0 t0;have t1:DataW.trod enc ah W 0 (λ_=>true) true n 3 [c1]=some (d1,p1):=(by have q:=hf 1 _ _ inferInstance;rw[show Tryz.prog.cellsOf 3=1 by kernel_rfl]at q;exact q);obtain⟨x1,a1,b1,e1,s1⟩:=Cd.h (P:=ah) (T:=3) (e:=cO) enc W n _ d1 p1 t1;refine⟨⟨x0,x1⟩,⟨a0,a1⟩,⟨b0.1,b1.1,aq⟩,?_,?_⟩
 ·intro v hv;simp only[List.mem_cons,List.not_mem_nil,or_false]at hv;rcases hv with rfl|rfl
  ·exact e0 _ (by simp)
  exact e1 _ (by simp)
 simp only[List.map_cons,List.map_nil,Rows.uptoBulk,Rows.uptoBulkAll];omega⟩
end
end Go.Proofs.YtningmnklfpfjaaGreat
namespace Go.Fw
section
open Go.RowKit
theorem pZ{S:AS}(i o k:Nat)(E0:TypeId)(sz:Nat){T:TypeId}{cells:List AV}(hb:S.b i=some ⟨T,cells⟩)(hc:cells[o]? =some (.sv (.v (.slice none 0 0))))(hk:S.r k=.un)(WM:k<1000):
  rV S ((AS.b9 [(k,.live ⟨E0,sz,0,[]⟩)] S).jv i ⟨T,cells.set o (.row k)⟩):=by
 rintro C a w ⟨E,h⟩;have h1:=h.newRow hk WM [] none (.inl ⟨Y,Y⟩) (R':=⟨E0,sz,0,[]⟩) (World.ownsRow_nil w 0 E0 sz) (vs':=[]) trivial (.inl Y) (qL w none);have xO:(AS.b9 [(k,.live ⟨E0,sz,0,[]⟩)] S).b i=some ⟨T,cells⟩:=hb;have hrk:(AS.b9 [(k,.live ⟨E0,sz,0,[]⟩)] S).r k≠ .un:=by
  show(AS.pE S k _).r k≠_;rw[AS.gW];simp
 refine⟨_,{h1 with wf:=?_,bx:=λj B hB=>?_,inj:=λj j' B B' hB fu e=>?_,rx:=λj R hR=>?_}⟩
 ·refine⟨λt j hj=>?_,h1.wf.tr,λj B hB x hx m hm=>?_,λj B hB x hx m hm=>?_⟩
  ·obtain⟨B,hB⟩:=h1.wf.tb t j hj;by_cases e:j=i
   ·subst e;exact⟨_,AS.cV _ _ _⟩
   exact⟨B,by rw[AS.bR _ _ _ _ e];exact hB⟩
  ·have key:∃B',(AS.b9 [(k,.live ⟨E0,sz,0,[]⟩)] S).b m=some B':=by
    by_cases e:j=i
    ·subst e;rw[AS.cV]at hB;cases hB;rcases List.mem_or_eq_of_mem_set hx with hx|rfl
     ·exact h1.wf.bb j _ xO x hx m hm
     exact hm.elim
    rw[AS.bR _ _ _ _ e]at hB;exact h1.wf.bb j B hB x hx m hm
   obtain⟨B',fu⟩:=key;by_cases e:m=i
   ·subst e;exact⟨_,AS.cV _ _ _⟩
   exact⟨B',by rw[AS.bR _ _ _ _ e];exact fu⟩
  by_cases e:j=i
  ·subst e;rw[AS.cV]at hB;cases hB;rcases List.mem_or_eq_of_mem_set hx with hx|rfl
   ·exact h1.wf.br j _ xO x hx m hm
   cases hm;exact hrk
  rw[AS.bR _ _ _ _ e]at hB;exact h1.wf.br j B hB x hx m hm
 ·by_cases e:j=i
  ·subst e;rw[AS.cV]at hB;cases hB;obtain⟨q1,q2,q3,vs,q4,q5⟩:=h1.bx j _ xO;refine⟨q1,q2,q3,vs,q4,?_⟩;obtain⟨x,hx,hv⟩:=q5.get hc;have hv:x=.slice none 0 0:=hv;have:=di.set (i:=o) (s:=.row k) (x:=x) q5 (by
    show x=if k=k then _ else _;rw[if_pos rfl];exact hv)
   have he:vs.set o x=vs:=by
    apply List.ext_getElem?;intro n;rw[List.getElem?_set];split
    ·rename_i hn;subst hn;rw[hx];split<;>rename_i hl
     ·rfl
     have:=(List.getElem?_eq_some_iff.1 hx).1;exact absurd this hl
    rfl
   rwa[he]at this
  rw[AS.bR _ _ _ _ e]at hB;exact h1.bx j B hB
 ·have old:∀n B,((AS.b9 [(k,.live ⟨E0,sz,0,[]⟩)] S).jv i ⟨T,cells.set o (.row k)⟩).b n=some B->∃B',(AS.b9 [(k,.live ⟨E0,sz,0,[]⟩)] S).b n=some B':=λn B hn=>by
   by_cases e:n=i
   ·subst e;exact⟨_,xO⟩
   rw[AS.bR _ _ _ _ e]at hn;exact⟨B,hn⟩
  obtain⟨B1,p1⟩:=old j B hB;obtain⟨B2,p2⟩:=old j' B' fu;exact h1.inj j j' B1 B2 p1 p2 e
 obtain⟨p1,p2⟩:=h1.rx j R hR;refine⟨p1,λg hg=>?_⟩;obtain⟨p3,p4,p5,p6⟩:=p2 g hg;refine⟨p3,p4,p5,λn B hn=>?_⟩;by_cases e:n=i
 ·subst e;exact p6 n _ xO
 rw[AS.bR _ _ _ _ e]at hn;exact p6 n B hn
end
section
open Go.RowKit
section part
variable {P:Program}{C:Ctx}{ops:Array Oper}{acts:List Ac}{S:AS}
theorem wz(listed:Array Bool)(i:Nat)(hs:listed.size=ops.size)(hi:i<ops.size):listed.getD i true=listed.getD i false:=by
 rw[Array.getD_eq_getD_getElem?,Array.getD_eq_getD_getElem?];rw[Array.getElem?_eq_getElem (by omega)];rfl
end part
end
section
open Go.RowKit
instance{g:FuncId}{caps:List SV}:One (iT g caps):=⟨λ_ _ h=>by obtain⟨vs,rfl,_⟩:=h;rfl⟩
section steps
variable {P:Program}{C:Ctx}{ops:Array Oper}{S:AS}{nd:Bool}{K:List Ac->AS->Prop}{rest:List Oper}{acc:List Ac}
variable {gd:Option (Nat×Bool)}{rg:List Nat}{d:Nat}{ty:TypeId}{pos:String}{aft:Array Edge}{x y z:Operand}{T U E0:TypeId}
theorem RT.xW(hg:Gd ops S gd rg){g:FuncId}{xs:Array Operand}{caps:List SV}(hc:ga S xs.toList caps)(hd:d<S.n)
  (next:RunT P C ops nd K rest (⟨rg++xs.toList.flatMap aZ,[],[],⟨some (d,.sv (iT g caps)),[],[]⟩⟩::acc) (S.set d (.sv (iT g caps)))):RunT P C ops nd K (⟨some d,.makeFunc (.func g) #[] xs,ty,pos,aft,gd⟩::rest) acc S:=
 RT.value hg (xs.toList.flatMap aZ) [] [] (.sv (iT g caps)) hd (by intro c h;cases h) (λS' ht _ _ E a w h=>by
  have h1:=ga.vals h hc ht;refine⟨.func (.func g) #[] ⟨xs.toList.map a.eval⟩,?_,⟨_,Y,h1⟩,ff⟩;have e2:xs.map a.eval=⟨xs.toList.map a.eval⟩:=by apply Array.ext';simp
  simp[execOp,Instr.makeFunc,e2]) next
theorem RT.W2(hg:Gd ops S gd rg){f:FuncId}[dz P f]{g:Operand}{xs:Array Operand}{at_:Array TypeId}{args caps:List SV}{r:SV}(hp:Pure P f (args++caps) r)(hf:S.ev g=.sv (iT f caps))(hargs:ga S xs.toList args)(hd:d<S.n)
  (next:RunT P C ops nd K rest (⟨rg++(aZ g++xs.toList.flatMap aZ),[],[],⟨some (d,.sv r),[],[]⟩⟩::acc) (S.set d (.sv r))):RunT P C ops nd K (⟨some d,.call ⟨.value g,xs,at_⟩,ty,pos,aft,gd⟩::rest) acc S:=by
 refine .inl ⟨_,[],[],_,?_,next⟩;rintro S' hn ht _ _ i a w L Q ho ⟨E,h⟩ hL;refine cA (C:=C) ho (hg.wanted h (λs hs=>ht s (List.mem_append_left _ hs)) Y) ?_;have rY:(iT f caps).h E.M (a.eval g):=by
  have h1:=h.ev g;rw[bw (λ_ h=>List.mem_append_right _ (List.mem_append_left _ h)) ht,hf]at h1;exact h1
 obtain⟨n7,rY,xX⟩:=rY;have hall:=SV.ef.append (ga.vals h hargs (λs hs=>ht s (List.mem_append_right _ (List.mem_append_right _ hs)))) xX;have hr:(execOp a.eval ⟨some d,.call ⟨.value g,xs,at_⟩,ty,pos,aft,gd⟩).run P w=.ok (.enter f ⟨xs.toList.map a.eval++n7⟩) w:=by
  have e2:xs.map a.eval++⟨n7⟩=⟨xs.toList.map a.eval++n7⟩:=by apply Array.ext';simp
  have e1:=dz.run (P:=P) (f:=f) (xs.map a.eval++⟨n7⟩) w;rw[<-e2];simp[execOp,resolve,rY,Deferred.ofValue,invoke,e1]
 refine ct (C:=C) (by intro c h;cases h) hr ?_;refine⟨λh=>by simp at h,gi ((hp E.M w _ h.dh hall).mono ?_)⟩;rintro e w' ⟨v,M',rfl,hM,hnew,hin,hv,hb⟩;exact hL _ _ ⟨_,(h.grow hM hnew hin hb).put (x:=.sv r) hv (by show d<S'.n;omega) ff⟩
end steps
end
end Go.Fw
namespace Go.Fw.Z
section
open Go.Fw
theorem T{d n:Nat}(h:Nat.ble (d+1) n=true:=by exact rfl):d<n:=tl h
theorem bE{α β:Type}{x:Option α}{f:α->Option β}{r:β}{G:Prop}(h:Option.bind x f=some r)(k:∀a,x=some a->f a=some r->G):G:=by obtain⟨a,h1,h2⟩:=bind_some h;exact k a h1 h2
theorem lE{α β:Type}{v:α}{f:α->Option β}{r:β}{G:Prop}(h:Option.bind (some v) f=some r)(k:∀a,v=a->f a=some r->G):G:=k v Y h
theorem bS{α β:Type}{x:Option α}{f:α->Option β}{r:β}(h:Option.bind x f=some r):∃a,x=some a/\f a=some r:=bind_some h
theorem F{α:Type}{x y:Option α}{r:α}(h:(bif false then x else y)=some r):y=some r:=h
theorem V{α:Type}{x y:Option α}{r:α}(h:(bif true then x else y)=some r):x=some r:=h
theorem O{α:Type}{a b:α}(h:some a=some b):a=b:=Option.some.inj h
def yV(l:List (Nat×Nat))(i:Nat):Nat:=((l.find? λp=>Nat.beq p.1 i).map (·.2)).getD i
def ZI(l:List (Nat×Nat)):AV->AV
 |.row i=>.row (yV l i)
 |.nC i o n=>.nC (yV l i) o n
 |x=>x
def ZJ:AV->Bool
 |.iS _ _=>false
 |.cmp _ _=>false
 |_=>true
theorem avi(l:List (Nat×Nat)){x:AV}(h:ZJ x=true):JK (yV l) (ZI l x) x:=by
 cases x with
 |sv s=>exact .sv au
 |ptr i o=>exact .ptr
 |EO i o n c=>exact .EO
 |row i=>exact .row Y
 |iS i k=>cases h
 |nC i o n=>exact .nC Y
 |fV g js=>exact .fV
 |cmp t js=>cases h
theorem W4(l:List (Nat×Nat)):∀{xs:List AV},(xs.all ZJ)=true->Hr (yV l) (xs.map (ZI l)) xs
 |[],_=>trivial
 |x::xs,h=>by simp only[List.all_cons,Bool.and_eq_true]at h;exact⟨avi l h.1,W4 l h.2⟩
theorem wR(l:List (Nat×Nat)){S:AS}{n:Nat}{ts:List (Nat×AV)}{bs:List (Nat×nX)}{rs:List (Nat×Row)}{g:Nat}{go:Bool}
  (ht:ts.map (λp=>S.t p.1)=ts.map (λp=>ZI l p.2):=by exact rfl) (hb:bs.map (λp=>S.b p.1)=bs.map (λp=>some ⟨p.2.T,p.2.cells.map (ZI l)⟩):=by exact rfl) (hr:rs.map (λp=>S.r (yV l p.1))=rs.map (λp=>.live p.2):=by exact rfl)
  (hn:S.n=n:=by exact rfl) (hg:S.g=g:=by exact rfl) (OO:S.go=go:=by exact rfl)
  (hwf:((ts.all λp=>p.2.pG bs rs)&&(bs.all λp=>p.2.cells.all λx=>x.pG bs rs))=true:=by exact rfl) (hσ:((rs.all λp=>rs.all λq=>!(Nat.beq (yV l p.1) (yV l q.1))||Nat.beq p.1 q.1))=true:=by exact rfl)
  (hno:((ts.all λp=>ZJ p.2)&&(bs.all λp=>p.2.cells.all ZJ))=true:=by exact rfl) (hl:(l.all λp=>Nat.ble (p.1+1) 1000)=true:=by exact rfl):rV S (AS.cM n ts bs rs g go):=by
 simp only[Bool.and_eq_true,List.all_eq_true]at hno;refine dM (yV l) hn hg OO hwf hσ ?_ ?_ ?_ ?_
 ·clear hwf hb hr;obtain⟨h,-⟩:=hno
  induction ts with
  |nil=>trivial
  |cons p ts ih=>
   obtain⟨k,x⟩:=p;simp only[List.map_cons,List.cons.injEq]at ht;refine⟨?_,ih ht.2 (λq hq=>h q (by simp[hq]))⟩;show JK _ (S.t k) x;rw[ht.1];exact avi l (h (k,x) (by simp))
 ·clear hwf ht hr;obtain⟨-,h⟩:=hno
  induction bs with
  |nil=>trivial
  |cons p bs ih=>
   obtain⟨k,x⟩:=p;simp only[List.map_cons,List.cons.injEq]at hb;exact⟨⟨_,hb.1,W4 l (List.all_eq_true.2 (h (k,x) (by simp)))⟩,ih hb.2 (λq hq=>h q (by simp[hq]))⟩
 ·clear hwf ht hb hσ
  induction rs with
  |nil=>trivial
  |cons p rs ih=>
   obtain⟨k,x⟩:=p;simp only[List.map_cons,List.cons.injEq]at hr;exact⟨⟨_,hr.1,cJ.refl _⟩,ih hr.2⟩
 intro i hi;unfold yV;have:l.find? (λp=>Nat.beq p.1 i)=none:=by
  rw[List.find?_eq_none];intro p hp e;have h1:=af (List.all_eq_true.1 hl p hp);have h2:=Nat.eq_of_beq_eq_true e;omega
 rw[this];rfl
section
variable {P:Program}{C:Ctx}{S:AS}{Q:Exit->AS->Prop}
theorem qq{x y:Code}(h:Ok P C x S (aV (λS'=>Ok P C y S' Q) Q)):Ok P C (.seq x y) S Q:=bH h
theorem sr{id:Nat}{ops:Array Oper}{y:Code}(h:RunT P C ops true (λ_ S=>aV (λS'=>Ok P C y S' Q) Q .normal S) ops.toList [] S):Ok P C (.seq (.region id ops false) y) S Q:=bH (aW h)
theorem dn{ops:Array Oper}{acc:List Ac}{next:AS->Prop}(h:next S):RunT P C ops true (λ_ S=>aV next Q .normal S) [] acc S:=h
theorem cF{c:Operand}{x y:Code}(hf:Ok P C y S Q)(hc:S.ev c=.sv (.v (.bool false)):=by exact rfl):Ok P C (.cond c x y) S Q:=dX hc hf
theorem cT{c:Operand}{x y:Code}(ht:Ok P C x S Q)(hc:S.ev c=.sv (.v (.bool true)):=by exact rfl):Ok P C (.cond c x y) S Q:=cP hc ht
theorem fs{c:Operand}{x:Code}{next:AS->Prop}(h:next S)(hc:S.ev c=.sv (.v (.bool false)):=by exact rfl):Ok P C (.cond c x .skip) S (aV next Q):=dX hc (bB h)
theorem R1{A:Prop}{e:Exit}{t:Nat}{s:SV}(h:S.t t=.sv s):(A\/e=e)/\Li P S [.tmp t] s:=⟨.inr Y,gj (.tmp h .nil) au⟩
theorem R2{A:Prop}{e:Exit}{t u:Nat}{s s':SV}(h:S.t t=.sv s)(h':S.t u=.sv s'):(A\/e=e)/\Li P S [.tmp t,.tmp u] (.yM [s,s']):=⟨.inr Y,gj (.tmp h (.tmp h' .nil)) au⟩
theorem RZ{A:Prop}{e:Exit}{rs:List ResultVar}{ss:List SV}{r:SV}(h:KO P S rs ss)(h':SV.imp (Lu ss) r:=by exact au):(A\/e=e)/\Li P S rs r:=⟨.inr Y,gj h h'⟩
end
section
variable {P:Program}{C:Ctx}{ops:Array Oper}{S:AS}{nd:Bool}{K:List Ac->AS->Prop}{rest:List Oper}{acc:List Ac}
variable {gd:Option (Nat×Bool)}{rg:List Nat}{d:Nat}{ty:TypeId}{pos:String}{aft:Array Edge}{x y z:Operand}{T U:TypeId}{k:IntKind}{p q:Int}
theorem pF{s:SV}(hz:S.ev z=.sv s)(next:RunT P C ops nd K rest (⟨[]++(aZ x++aZ z),[],[],⟨some (d,.sv s),[],[]⟩⟩::acc) (S.set d (.sv s)))(hx:S.ev x=.sv (.v (.bool false)):=by exact rfl)(hd:d<S.n:=by exact tl Y):RunT P C ops nd K (⟨some d,.pick x y z,ty,pos,aft,none⟩::rest) acc S:=
 RT.Qx .none hx hz hd next
theorem pT{s:SV}(hy:S.ev y=.sv s)(next:RunT P C ops nd K rest (⟨[]++(aZ x++aZ y),[],[],⟨some (d,.sv s),[],[]⟩⟩::acc) (S.set d (.sv s)))(hx:S.ev x=.sv (.v (.bool true)):=by exact rfl)(hd:d<S.n:=by exact tl Y):RunT P C ops nd K (⟨some d,.pick x y z,ty,pos,aft,none⟩::rest) acc S:=
 RT.Qw .none hx hy hd next
theorem mo{s:AV}(hx:S.ev x=s)(next:RunT P C ops nd K rest (⟨[]++aZ x,[],[],⟨some (d,s),[],[]⟩⟩::acc) (S.set d s))(hd:d<S.n:=by exact tl Y):RunT P C ops nd K (⟨some d,.move x,ty,pos,aft,none⟩::rest) acc S:=
 RT.move .none hx hd next
theorem ad(c:Int)(hx:S.ev x=.sv (.v (.int k p)))(hy:S.ev y=.sv (.v (.int k q)))(hc:k.wrap (p+q)=c)(next:RunT P C ops nd K rest (⟨[]++(aZ x++aZ y),[],[],⟨some (d,.sv (.v (.int k c))),[],[]⟩⟩::acc) (S.set d (.sv (.v (.int k c)))))(hd:d<S.n:=by exact tl Y):RunT P C ops nd K (⟨some d,.binOp .add T x y U,ty,pos,aft,none⟩::rest) acc S:=
 RT.add .none c hx hy hd hc next
theorem cv{j:IntKind}[tT:mI P T j][tU:mI P U k](c:Int){k':IntKind}(hx:S.ev x=.sv (.v (.int k' p)))(hc:k.wrap p=c)(next:RunT P C ops nd K rest (⟨[]++aZ x,[],[],⟨some (d,.sv (.v (.int k c))),[],[]⟩⟩::acc) (S.set d (.sv (.v (.int k c)))))(hd:d<S.n:=by exact tl Y):RunT P C ops nd K (⟨some d,.convert T U x,ty,pos,aft,none⟩::rest) acc S:=
 RT.conv .none c hx hd hc next
theorem ls(c:Bool)(hx:S.ev x=.sv (.v (.int k p)))(hy:S.ev y=.sv (.v (.int k q)))(hc:decide (p<q)=c)(next:RunT P C ops nd K rest (⟨[]++(aZ x++aZ y),[],[],⟨some (d,.sv (.v (.bool c))),[],[]⟩⟩::acc) (S.set d (.sv (.v (.bool c)))))(hd:d<S.n:=by exact tl Y):RunT P C ops nd K (⟨some d,.binOp .lss T x y U,ty,pos,aft,none⟩::rest) acc S:=
 RT.lss .none c hx hy hd hc next
theorem sb(c:Int)(hx:S.ev x=.sv (.v (.int k p)))(hy:S.ev y=.sv (.v (.int k q)))(hc:k.wrap (p-q)=c)(next:RunT P C ops nd K rest (⟨[]++(aZ x++aZ y),[],[],⟨some (d,.sv (.v (.int k c))),[],[]⟩⟩::acc) (S.set d (.sv (.v (.int k c)))))(hd:d<S.n:=by exact tl Y):RunT P C ops nd K (⟨some d,.binOp .sub T x y U,ty,pos,aft,none⟩::rest) acc S:=
 RT.sub .none c hx hy hd hc next
theorem an{s:AV}(hx:S.ev x=s)(next:RunT P C ops nd K rest (⟨[]++aZ x,[],[],⟨some (d,s),[],[]⟩⟩::acc) (S.set d s))(hd:d<S.n:=by exact tl Y):RunT P C ops nd K (⟨some d,.assign x,ty,pos,aft,none⟩::rest) acc S:=
 RT.assign .none hx hd next
theorem gt(c:Bool)(hx:S.ev x=.sv (.v (.int k p)))(hy:S.ev y=.sv (.v (.int k q)))(hc:decide (q<p)=c)(next:RunT P C ops nd K rest (⟨[]++(aZ x++aZ y),[],[],⟨some (d,.sv (.v (.bool c))),[],[]⟩⟩::acc) (S.set d (.sv (.v (.bool c)))))(hd:d<S.n:=by exact tl Y):RunT P C ops nd K (⟨some d,.binOp .gtr T x y U,ty,pos,aft,none⟩::rest) acc S:=
 RT.gtr .none c hx hy hd hc next
theorem eq(c:Bool)(hx:S.ev x=.sv (.v (.int k p)))(hy:S.ev y=.sv (.v (.int k q)))(hc:(p==q)=c)(next:RunT P C ops nd K rest (⟨[]++(aZ x++aZ y),[],[],⟨some (d,.sv (.v (.bool c))),[],[]⟩⟩::acc) (S.set d (.sv (.v (.bool c)))))(hd:d<S.n:=by exact tl Y):RunT P C ops nd K (⟨some d,.binOp .eql T x y U,ty,pos,aft,none⟩::rest) acc S:=
 RT.eql .none c hx hy hd hc next
theorem ne(c:Bool)(hx:S.ev x=.sv (.v (.int k p)))(hy:S.ev y=.sv (.v (.int k q)))(hc:(p != q)=c)(next:RunT P C ops nd K rest (⟨[]++(aZ x++aZ y),[],[],⟨some (d,.sv (.v (.bool c))),[],[]⟩⟩::acc) (S.set d (.sv (.v (.bool c)))))(hd:d<S.n:=by exact tl Y):RunT P C ops nd K (⟨some d,.binOp .neq T x y U,ty,pos,aft,none⟩::rest) acc S:=
 RT.neq .none c hx hy hd hc next
theorem ge(c:Bool)(hx:S.ev x=.sv (.v (.int k p)))(hy:S.ev y=.sv (.v (.int k q)))(hc:decide (q<=p)=c)(next:RunT P C ops nd K rest (⟨[]++(aZ x++aZ y),[],[],⟨some (d,.sv (.v (.bool c))),[],[]⟩⟩::acc) (S.set d (.sv (.v (.bool c)))))(hd:d<S.n:=by exact tl Y):RunT P C ops nd K (⟨some d,.binOp .geq T x y U,ty,pos,aft,none⟩::rest) acc S:=
 RT.geq .none c hx hy hd hc next
theorem nt{b:Bool}(hx:S.ev x=.sv (.v (.bool b)))(c:Bool)(hc:(!b)=c)(next:RunT P C ops nd K rest (⟨[]++aZ x,[],[],⟨some (d,.sv (.v (.bool c))),[],[]⟩⟩::acc) (S.set d (.sv (.v (.bool c)))))(hd:d<S.n:=by exact tl Y):RunT P C ops nd K (⟨some d,.unOp .not T x,ty,pos,aft,none⟩::rest) acc S:=
 RT.not .none hx hd c hc next
theorem gF{j_ g_:Nat}{fI:Bool}{s:SV}(hz:S.ev z=.sv s)(next:RunT P C ops nd K rest (⟨[g_]++(aZ x++aZ z),[],[],⟨some (d,.sv s),[],[]⟩⟩::acc) (S.set d (.sv s)))(Cp:(ops[j_]?).bind (·.dst)=some g_:=by exact rfl)(Cq:S.t g_=.sv (.v (.bool fI)):=by exact rfl)(hx:S.ev x=.sv (.v (.bool false)):=by exact rfl)(hd:d<S.n:=by exact tl Y):RunT P C ops nd K (⟨some d,.pick x y z,ty,pos,aft,some (j_,fI)⟩::rest) acc S:=
 RT.Qx (.some Cp Cq) hx hz hd next
theorem gT{j_ g_:Nat}{fI:Bool}{s:SV}(hy:S.ev y=.sv s)(next:RunT P C ops nd K rest (⟨[g_]++(aZ x++aZ y),[],[],⟨some (d,.sv s),[],[]⟩⟩::acc) (S.set d (.sv s)))(Cp:(ops[j_]?).bind (·.dst)=some g_:=by exact rfl)(Cq:S.t g_=.sv (.v (.bool fI)):=by exact rfl)(hx:S.ev x=.sv (.v (.bool true)):=by exact rfl)(hd:d<S.n:=by exact tl Y):RunT P C ops nd K (⟨some d,.pick x y z,ty,pos,aft,some (j_,fI)⟩::rest) acc S:=
 RT.Qw (.some Cp Cq) hx hy hd next
theorem gq{j_ g_:Nat}{fI:Bool}(c:Bool)(hx:S.ev x=.sv (.v (.int k p)))(hy:S.ev y=.sv (.v (.int k q)))(hc:(p != q)=c)(next:RunT P C ops nd K rest (⟨[g_]++(aZ x++aZ y),[],[],⟨some (d,.sv (.v (.bool c))),[],[]⟩⟩::acc) (S.set d (.sv (.v (.bool c)))))(Cp:(ops[j_]?).bind (·.dst)=some g_:=by exact rfl)(Cq:S.t g_=.sv (.v (.bool fI)):=by exact rfl)(hd:d<S.n:=by exact tl Y):RunT P C ops nd K (⟨some d,.binOp .neq T x y U,ty,pos,aft,some (j_,fI)⟩::rest) acc S:=
 RT.neq (.some Cp Cq) c hx hy hd hc next
theorem gg{j_ g_:Nat}{fI:Bool}(c:Bool)(hx:S.ev x=.sv (.v (.int k p)))(hy:S.ev y=.sv (.v (.int k q)))(hc:decide (q<p)=c)(next:RunT P C ops nd K rest (⟨[g_]++(aZ x++aZ y),[],[],⟨some (d,.sv (.v (.bool c))),[],[]⟩⟩::acc) (S.set d (.sv (.v (.bool c)))))(Cp:(ops[j_]?).bind (·.dst)=some g_:=by exact rfl)(Cq:S.t g_=.sv (.v (.bool fI)):=by exact rfl)(hd:d<S.n:=by exact tl Y):RunT P C ops nd K (⟨some d,.binOp .gtr T x y U,ty,pos,aft,some (j_,fI)⟩::rest) acc S:=
 RT.gtr (.some Cp Cq) c hx hy hd hc next
theorem ZK{j_ g_:Nat}{fI:Bool}(c:Bool)(hx:S.ev x=.sv (.v (.int k p)))(hy:S.ev y=.sv (.v (.int k q)))(hc:(p==q)=c)(next:RunT P C ops nd K rest (⟨[g_]++(aZ x++aZ y),[],[],⟨some (d,.sv (.v (.bool c))),[],[]⟩⟩::acc) (S.set d (.sv (.v (.bool c)))))(Cp:(ops[j_]?).bind (·.dst)=some g_:=by exact rfl)(Cq:S.t g_=.sv (.v (.bool fI)):=by exact rfl)(hd:d<S.n:=by exact tl Y):RunT P C ops nd K (⟨some d,.binOp .eql T x y U,ty,pos,aft,some (j_,fI)⟩::rest) acc S:=
 RT.eql (.some Cp Cq) c hx hy hd hc next
theorem O9{j_ g_:Nat}{fI:Bool}{b:Bool}(hx:S.ev x=.sv (.v (.bool b)))(c:Bool)(hc:(!b)=c)(next:RunT P C ops nd K rest (⟨[g_]++aZ x,[],[],⟨some (d,.sv (.v (.bool c))),[],[]⟩⟩::acc) (S.set d (.sv (.v (.bool c)))))(Cp:(ops[j_]?).bind (·.dst)=some g_:=by exact rfl)(Cq:S.t g_=.sv (.v (.bool fI)):=by exact rfl)(hd:d<S.n:=by exact tl Y):RunT P C ops nd K (⟨some d,.unOp .not T x,ty,pos,aft,some (j_,fI)⟩::rest) acc S:=
 RT.not (.some Cp Cq) hx hd c hc next
end
section
variable {P:Program}{C:Ctx}{ops:Array Oper}{S:AS}{nd:Bool}{K:List Ac->AS->Prop}{rest:List Oper}{acc:List Ac}
variable {gd:Option (Nat×Bool)}{rg:List Nat}{d:Nat}{ty:TypeId}{pos:String}{aft:Array Edge}{x y z:Operand}{T U E0:TypeId}
theorem mv{s:SV}(hx:S.ev x=.sv s)(next:RunT P C ops nd K rest (⟨[]++aZ x,[],[],⟨some (d,.sv s),[],[]⟩⟩::acc) (S.set d (.sv s)))(hd:d<S.n:=by exact tl Y):RunT P C ops nd K (⟨some d,.move x,ty,pos,aft,none⟩::rest) acc S:=
 RT.mv .none hx hd next
theorem ag{s:SV}(hx:S.ev x=.sv s)(next:RunT P C ops nd K rest (⟨[]++aZ x,[],[],⟨some (d,.sv s),[],[]⟩⟩::acc) (S.set d (.sv s)))(hd:d<S.n:=by exact tl Y):RunT P C ops nd K (⟨some d,.assign x,ty,pos,aft,none⟩::rest) acc S:=
 RT.AF .none hx hd next
theorem cl{f:FuncId}[dz P f]{g:Operand}{xs:Array Operand}{at_:Array TypeId}{args:List SV}{r:SV}(hp:Pure P f args r)(hargs:ga S xs.toList args)(next:RunT P C ops nd K rest (⟨[]++(aZ g++xs.toList.flatMap aZ),[],[],⟨some (d,.sv r),[],[]⟩⟩::acc) (S.set d (.sv r)))(hf:S.ev g=.sv (.v (.func (.func f) #[] #[])):=by exact rfl)(hd:d<S.n:=by exact tl Y):RunT P C ops nd K (⟨some d,.call ⟨.value g,xs,at_⟩,ty,pos,aft,none⟩::rest) acc S:=
 RT.call .none hp hf hargs hd next
theorem ld{n:Nat}[tA:zV P T n]{j off:Nat}{B:nX}{cs:List SV}(hx:S.ev x=.ptr j off)(hB:S.b j=some B)(hcs:KN B.cells off cs)(next:RunT P C ops nd K rest (⟨[]++aZ x,[j],[],⟨some (d,.sv (.agg cs)),[],[]⟩⟩::acc) (S.set d (.sv (.agg cs))))(hn:cs.length=n:=by exact rfl)(hd:d<S.n:=by exact tl Y):RunT P C ops nd K (⟨some d,.load T x,ty,pos,aft,none⟩::rest) acc S:=
 RT.load .none hx hB hcs hn hd next
theorem lV[tV:pV P T]{j off:Nat}{B:nX}{s:SV}(hx:S.ev x=.ptr j off)(hB:S.b j=some B)(hn:B.cells[off]? =some (.sv s))(next:RunT P C ops nd K rest (⟨[]++aZ x,[j],[],⟨some (d,.sv s),[],[]⟩⟩::acc) (S.set d (.sv s)))(hd:d<S.n:=by exact tl Y):RunT P C ops nd K (⟨some d,.load T x,ty,pos,aft,none⟩::rest) acc S:=
 RT.sj .none hx hB hn hd next
theorem fa{f off:Nat}[hf:xH P T f off U][sU:E5 P U]{j o:Nat}(hx:S.ev x=.ptr j o){o':Nat}(ho':o+off=o')(next:RunT P C ops nd K rest (⟨[]++aZ x,[],[],⟨some (d,.ptr j o'),[],[]⟩⟩::acc) (S.set d (.ptr j o')))(hd:d<S.n:=by exact tl Y):RunT P C ops nd K (⟨some d,.fieldAddr T x f,ty,pos,aft,none⟩::rest) acc S:=
 RT.fieldAddr .none hx hd ho' next
theorem so{n:Nat}[tA:zV P T n]{j:Nat}{B:nX}{cs:List SV}[o1:qG cs](hx:S.ev x=.ptr j 0)(hB:S.b j=some B)(hy:S.ev y=.sv (.agg cs))(next:RunT P C ops nd K rest (⟨[]++(aZ x++aZ y),[j],[],⟨none,[(j,⟨B.T,cs.map AV.sv⟩)],[]⟩⟩::acc) (S.jv j ⟨B.T,cs.map AV.sv⟩))(uG:cs.length=n:=by exact rfl)(hn:B.cells.length=n:=by exact rfl):RunT P C ops nd K (⟨none,.store T x y,ty,pos,aft,none⟩::rest) acc S:=
 RT.store .none hx hB hy uG hn next
theorem ex{i:Nat}{ss:List SV}{s:SV}(hx:S.ev x=.sv (.yM ss))(hi:ss[i]? =some s)(next:RunT P C ops nd K rest (⟨[]++aZ x,[],[],⟨some (d,.sv s),[],[]⟩⟩::acc) (S.set d (.sv s)))(hd:d<S.n:=by exact tl Y):RunT P C ops nd K (⟨some d,.extract x i,ty,pos,aft,none⟩::rest) acc S:=
 RT.extract .none hx hi hd next
theorem bx{cells:List SV}(hx:S.ev x=.sv (.agg cells))(next:RunT P C ops nd K rest (⟨[]++aZ x,[d],[],⟨some (d,.ptr d 0),[(d,⟨T,cells.map AV.sv⟩)],[]⟩⟩::acc) ((S.jv d ⟨T,cells.map AV.sv⟩).set d (.ptr d 0)))(hd:d<S.n:=by exact tl Y)(hb:S.b d=none:=by exact rfl)(hp:C.gC d=none:=by exact rfl):RunT P C ops nd K (⟨some d,.box T x,ty,pos,aft,none⟩::rest) acc S:=
 RT.box .none hx hd hb hp next
theorem lr[tV:pV P T]{cells:List SV}{s:SV}(hx:S.ev x=.sv (ref cells))(hn:cells[0]? =some s)(next:RunT P C ops nd K rest (⟨[]++aZ x,[],[],⟨some (d,.sv s),[],[]⟩⟩::acc) (S.set d (.sv s)))(hd:d<S.n:=by exact tl Y):RunT P C ops nd K (⟨some d,.load T x,ty,pos,aft,none⟩::rest) acc S:=
 RT.dr .none hx hn hd next
theorem cB{f:FuncId}[dz P f]{g:Operand}{xs:Array Operand}{at_:Array TypeId}{args:List SV}{T:TypeId}{c0 c1:List SV}{res:SV}(hp:Lz P f args T c0 res c1)(j:Nat)(hB:S.b j=some ⟨T,c0.map AV.sv⟩)(hargs:ga S xs.toList args)(next:RunT P C ops nd K rest (⟨[]++(aZ g++xs.toList.flatMap aZ),[j],[],⟨some (d,.sv res),[(j,⟨T,c1.map AV.sv⟩)],[]⟩⟩::acc) ((AS.fo [(j,⟨T,c1.map AV.sv⟩)] S).set d (.sv res)))(hf:S.ev g=.fV f [.box j]:=by exact rfl)(hd:d<S.n:=by exact tl Y):RunT P C ops nd K (⟨some d,.call ⟨.value g,xs,at_⟩,ty,pos,aft,none⟩::rest) acc S:=
 RT.WJ .none hp j hB hf hargs hd next
theorem cN{f:FuncId}[dz P f]{g:Operand}{xs:Array Operand}{at_:Array TypeId}{args:List SV}{R:Row}(hp:DH P f args R)(hargs:ga S xs.toList args)(next:RunT P C ops nd K rest (⟨[]++(aZ g++xs.toList.flatMap aZ),[],[d],⟨some (d,.row d),[],[(d,.live R)]⟩⟩::acc) ((AS.b9 [(d,.live R)] S).set d (.row d)))(hf:S.ev g=.sv (.v (.func (.func f) #[] #[])):=by exact rfl)(hd:d<S.n:=by exact tl Y)(xN:S.r d=.un:=by exact rfl)(we:d<1000:=by exact tl Y):RunT P C ops nd K (⟨some d,.call ⟨.value g,xs,at_⟩,ty,pos,aft,none⟩::rest) acc S:=
 RT.WI .none hp hf hargs hd xN we next
theorem gm{j_ g_:Nat}{fI:Bool}{s:SV}(hx:S.ev x=.sv s)(next:RunT P C ops nd K rest (⟨[g_]++aZ x,[],[],⟨some (d,.sv s),[],[]⟩⟩::acc) (S.set d (.sv s)))(Cp:(ops[j_]?).bind (·.dst)=some g_:=by exact rfl)(Cq:S.t g_=.sv (.v (.bool fI)):=by exact rfl)(hd:d<S.n:=by exact tl Y):RunT P C ops nd K (⟨some d,.move x,ty,pos,aft,some (j_,fI)⟩::rest) acc S:=
 RT.mv (.some Cp Cq) hx hd next
theorem gl{j_ g_:Nat}{fI:Bool}{n:Nat}[tA:zV P T n]{j off:Nat}{B:nX}{cs:List SV}(hx:S.ev x=.ptr j off)(hB:S.b j=some B)(hcs:KN B.cells off cs)(next:RunT P C ops nd K rest (⟨[g_]++aZ x,[j],[],⟨some (d,.sv (.agg cs)),[],[]⟩⟩::acc) (S.set d (.sv (.agg cs))))(Cp:(ops[j_]?).bind (·.dst)=some g_:=by exact rfl)(Cq:S.t g_=.sv (.v (.bool fI)):=by exact rfl)(hn:cs.length=n:=by exact rfl)(hd:d<S.n:=by exact tl Y):RunT P C ops nd K (⟨some d,.load T x,ty,pos,aft,some (j_,fI)⟩::rest) acc S:=
 RT.load (.some Cp Cq) hx hB hcs hn hd next
theorem gc{j_ g_:Nat}{fI:Bool}{f:FuncId}[dz P f]{g:Operand}{xs:Array Operand}{at_:Array TypeId}{args:List SV}{r:SV}(hp:Pure P f args r)(hargs:ga S xs.toList args)(next:RunT P C ops nd K rest (⟨[g_]++(aZ g++xs.toList.flatMap aZ),[],[],⟨some (d,.sv r),[],[]⟩⟩::acc) (S.set d (.sv r)))(Cp:(ops[j_]?).bind (·.dst)=some g_:=by exact rfl)(Cq:S.t g_=.sv (.v (.bool fI)):=by exact rfl)(hf:S.ev g=.sv (.v (.func (.func f) #[] #[])):=by exact rfl)(hd:d<S.n:=by exact tl Y):RunT P C ops nd K (⟨some d,.call ⟨.value g,xs,at_⟩,ty,pos,aft,some (j_,fI)⟩::rest) acc S:=
 RT.call (.some Cp Cq) hp hf hargs hd next
theorem gr{j_ g_:Nat}{fI:Bool}[tV:pV P T]{cells:List SV}{s:SV}(hx:S.ev x=.sv (ref cells))(hn:cells[0]? =some s)(next:RunT P C ops nd K rest (⟨[g_]++aZ x,[],[],⟨some (d,.sv s),[],[]⟩⟩::acc) (S.set d (.sv s)))(Cp:(ops[j_]?).bind (·.dst)=some g_:=by exact rfl)(Cq:S.t g_=.sv (.v (.bool fI)):=by exact rfl)(hd:d<S.n:=by exact tl Y):RunT P C ops nd K (⟨some d,.load T x,ty,pos,aft,some (j_,fI)⟩::rest) acc S:=
 RT.dr (.some Cp Cq) hx hn hd next
end
section
variable {P:Program}{C:Ctx}{ops:Array Oper}{S:AS}{nd:Bool}{K:List Ac->AS->Prop}{rest:List Oper}{acc:List Ac}
variable {gd:Option (Nat×Bool)}{rg:List Nat}{d:Nat}{ty:TypeId}{pos:String}{aft:Array Edge}{x y z:Operand}{T U E0:TypeId}
variable {l l' k:Oz}
theorem ww{op:Op}{j g:Nat}{b want:Bool}(next:RunT P C ops nd K rest (⟨[g],[],[],⟨some (d,.sv (.v undef)),[],[]⟩⟩::acc) (S.set d (.sv (.v undef))))(h1:(ops[j]?).bind (·.dst)=some g:=by exact rfl)(h2:S.t g=.sv (.v (.bool b)):=by exact rfl)(hb:b≠want:=by exact sk Y)(hd:d<S.n:=by exact tl Y):RunT P C ops nd K (⟨some d,op,ty,pos,aft,some (j,want)⟩::rest) acc S:=
 RT.skV h1 h2 hb hd next
theorem wu{op:Op}{j g:Nat}{want:Bool}(next:RunT P C ops nd K rest (⟨[g],[],[],⟨some (d,.sv (.v undef)),[],[]⟩⟩::acc) (S.set d (.sv (.v undef))))(h1:(ops[j]?).bind (·.dst)=some g:=by exact rfl)(h2:S.t g=.sv (.v undef):=by exact rfl)(hd:d<S.n:=by exact tl Y):RunT P C ops nd K (⟨some d,op,ty,pos,aft,some (j,want)⟩::rest) acc S:=
 RT.WX h1 h2 hd next
end
section
variable {P:Program}{C:Ctx}{ops:Array Oper}{S:AS}{nd:Bool}{K:List Ac->AS->Prop}{rest:List Oper}{acc:List Ac}
variable {gd:Option (Nat×Bool)}{rg:List Nat}{d:Nat}{ty:TypeId}{pos:String}{aft:Array Edge}{x y z:Operand}{T U E0:TypeId}
variable {α:Type}{l l' k:List α}{e:α->List SV}{n by_:Nat}{zv:Value}
theorem ln{m:Nat}[tS:eM P T E0 m]{c:Int}(hx:S.ev x=.sv (slc n (l.map e)))(hc:(l.length:Int)=c)(next:RunT P C ops nd K rest (⟨[]++aZ x,[],[],⟨some (d,.sv (.v (.int .i64 c))),[],[]⟩⟩::acc) (S.set d (.sv (.v (.int .i64 c)))))(hd:d<S.n:=by exact tl Y):RunT P C ops nd K (⟨some d,.call ⟨.builtin .len,#[x],#[T]⟩,ty,pos,aft,none⟩::rest) acc S:=
 RT.WU .none hx hd hc next
theorem al[tz:gX P T zv]{cs:List SV}(hi:cJ (zv.cells.toList.map SV.v) cs){av:List AV}(hav:cs.map AV.sv=av)(next:RunT P C ops nd K rest (⟨[]++[],[d],[],⟨some (d,.ptr d 0),[(d,⟨T,av⟩)],[]⟩⟩::acc) ((S.jv d ⟨T,av⟩).set d (.ptr d 0)))(hd:d<S.n:=by exact tl Y)(hb:S.b d=none:=by exact rfl)(hp:C.gC d=none:=by exact rfl):RunT P C ops nd K (⟨some d,.alloc T,ty,pos,aft,none⟩::rest) acc S:=
 RT.qP .none hi hav hd hb hp next
theorem ix[tS:eM P T E0 n]{kk:IntKind}{i:Int}{a:α}(hx:S.ev x=.sv (slc n (l.map e)))(hy:S.ev y=.sv (.v (.int kk i)))(ha:cW l i=some a)(next:RunT P C ops nd K rest (⟨[]++(aZ x++aZ y),[],[],⟨some (d,.sv (ref (e a))),[],[]⟩⟩::acc) (S.set d (.sv (ref (e a)))))(hd:d<S.n:=by exact tl Y):RunT P C ops nd K (⟨some d,.indexAddr T x y,ty,pos,aft,none⟩::rest) acc S:=
 RT.Tg .none hx hy hd ha next
theorem bl[tS:eM P T E0 n][tE:jw P E0 n by_ zv]{len:Nat}{parts:Array (Nat×Operand)}{qs:List (Nat×List SV)}(hp:nE S parts.toList qs)(hc:pH 0 qs=true)(hl:qs.length=len)(hsz:(qs.all λq=>Nat.beq q.2.length n)=true)(hlen:Nat.ble (len*n) 16777216=true)(JO:(zv.cells.toList.all λv=>v.oneCell')=true)(jc:qs.map (·.2)=l.map e)(next:RunT P C ops nd K rest (⟨[]++kQ parts.toList,[],[],⟨some (d,.sv (slc n (l.map e))),[],[]⟩⟩::acc) (S.set d (.sv (slc n (l.map e)))))(hd:d<S.n:=by exact tl Y):RunT P C ops nd K (⟨some d,.buildSlice T len parts,ty,pos,aft,none⟩::rest) acc S:=
 RT.eV .none hp hd hc hl hsz hlen JO jc next
theorem iR[tS:eM P T E0 n]{i j:Nat}{E1:TypeId}{kk:IntKind}{v:Int}(hx:S.ev x=.row i)(hR:S.r i=.live (TR E1 n e l))(hy:S.ev y=.sv (.v (.int kk v)))(h:oP l v=some j)(next:RunT P C ops nd K rest (⟨[]++(aZ x++aZ y),[],[i],⟨some (d,.iS i (j*n)),[],[]⟩⟩::acc) (S.set d (.iS i (j*n))))(hd:d<S.n:=by exact tl Y):RunT P C ops nd K (⟨some d,.indexAddr T x y,ty,pos,aft,none⟩::rest) acc S:=
 RT.aaV .none hx hR hy hd h next
theorem aI{s X:SV}(hx:S.ev x=.sv s)(hi:SV.imp s X)(next:RunT P C ops nd K rest (⟨[]++aZ x,[],[],⟨some (d,.sv X),[],[]⟩⟩::acc) (S.set d (.sv X)))(hd:d<S.n:=by exact tl Y):RunT P C ops nd K (⟨some d,.assign x,ty,pos,aft,none⟩::rest) acc S:=
 RT.aaT .none hx hi hd next
theorem bI{pl:List (Nat×Nat)}{zc:List Value}[tP:iD P T pl zc]{parts:Array (Nat×Operand)}{qs:List (Nat×List SV)}(hp:nE S parts.toList qs){cs cs':List SV}(hi:cJ cs cs')(next:RunT P C ops nd K rest (⟨[]++kQ parts.toList,[],[],⟨some (d,.sv (.agg cs')),[],[]⟩⟩::acc) (S.set d (.sv (.agg cs'))))(hf:uH (λi=>pl[i]?) (zc.map SV.v) qs=some cs:=by exact rfl)(hd:d<S.n:=by exact tl Y):RunT P C ops nd K (⟨some d,.build T parts,ty,pos,aft,none⟩::rest) acc S:=
 RT.Tf .none hp hf hi hd next
theorem lR[tV:pV P T][el:EL e 1]{i j:Nat}{E1:TypeId}{a:α}{s:SV}(hx:S.ev x=.iS i (j*1))(hR:S.r i=.live (TR E1 1 e l))(ha:l[j]? =some a)(hs:e a=[s])(next:RunT P C ops nd K rest (⟨[]++aZ x,[],[i],⟨some (d,.sv s),[],[]⟩⟩::acc) (S.set d (.sv s)))(hd:d<S.n:=by exact tl Y):RunT P C ops nd K (⟨some d,.load T x,ty,pos,aft,none⟩::rest) acc S:=
 RT.WV .none hx hR ha hs hd next
theorem aR[tS:eM P T E0 n][tE:jw P E0 n by_ zv]{i:Nat}(hx:S.ev x=.row i)(hR:S.r i=.live (TR E0 n e l))(hy:S.ev y=.sv (slc n (k.map e)))(h:wh by_ l k=some l')(next:RunT P C ops nd K rest (⟨[]++(aZ x++aZ y),[],[i,d],⟨some (d,.row d),[],[(i,.dead),(d,.live (TR E0 n e l'))]⟩⟩::acc) ((AS.b9 [(i,.dead),(d,.live (TR E0 n e l'))] S).set d (.row d)))(hd:d<S.n:=by exact tl Y)(xN:S.r d=.un:=by exact rfl)(we:d<1000:=by exact tl Y):RunT P C ops nd K (⟨some d,.call ⟨.builtin .append,#[x,y],#[T,T]⟩,ty,pos,aft,none⟩::rest) acc S:=
 RT.apR .none hx hR hy hd xN we h next
theorem sR[tV:pV P T][el:EL e 1]{i j:Nat}{E1:TypeId}{s:SV}[o1:One s](a:α)(hs:e a=[s])(hx:S.ev x=.iS i (j*1))(hR:S.r i=.live (TR E1 1 e l))(hy:S.ev y=.sv s)(h:stM l j a=some l')(next:RunT P C ops nd K rest (⟨[]++(aZ x++aZ y),[],[i],⟨none,[],[(i,.live (TR E1 1 e l'))]⟩⟩::acc) (AS.b9 [(i,.live (TR E1 1 e l'))] S)):RunT P C ops nd K (⟨none,.store T x y,ty,pos,aft,none⟩::rest) acc S:=
 RT.aaW .none a hs hx hR hy h next
theorem sA[tA:zV P T n][el:EL e n]{i j:Nat}{E1:TypeId}(a:α)(hx:S.ev x=.iS i (j*n))(hR:S.r i=.live (TR E1 n e l))(hy:S.ev y=.sv (.agg (e a)))(h:stM l j a=some l')(next:RunT P C ops nd K rest (⟨[]++(aZ x++aZ y),[],[i],⟨none,[],[(i,.live (TR E1 n e l'))]⟩⟩::acc) (AS.b9 [(i,.live (TR E1 n e l'))] S)):RunT P C ops nd K (⟨none,.store T x y,ty,pos,aft,none⟩::rest) acc S:=
 RT.WW .none a hx hR hy h next
theorem lL{m:Nat}[tS:eM P T E0 m]{i:Nat}{E1:TypeId}{c:Int}(hx:S.ev x=.row i)(hR:S.r i=.live (TR E1 n e l))(hc:(l.length:Int)=c)(next:RunT P C ops nd K rest (⟨[]++aZ x,[],[i],⟨some (d,.sv (.v (.int .i64 c))),[],[]⟩⟩::acc) (S.set d (.sv (.v (.int .i64 c)))))(hd:d<S.n:=by exact tl Y):RunT P C ops nd K (⟨some d,.call ⟨.builtin .len,#[x],#[T]⟩,ty,pos,aft,none⟩::rest) acc S:=
 RT.QG .none hx hR hd hc next
theorem cR{f:FuncId}[dz P f]{g:Operand}{xs:Array Operand}{at_:Array TypeId}{args:List AV}{E1:TypeId}{res:AV}(hp:Hx P f args (TR E1 n e l) res (l'.flatMap e))(hlen:l'.length=l.length)(i:Nat)(hR:S.r i=.live (TR E1 n e l))(hargs:vk S xs.toList (args.map (AV.yV i)))(next:RunT P C ops nd K rest (⟨[]++(aZ g++xs.toList.flatMap aZ),[],[i],⟨some (d,res.yV i),[],[(i,.live (TR E1 n e l'))]⟩⟩::acc) ((AS.b9 [(i,.live (TR E1 n e l'))] S).set d (res.yV i)))(hrow:args.all AV.xP=true:=by exact rfl)(hres:res.xP=true:=by exact rfl)(hf:S.ev g=.sv (.v (.func (.func f) #[] #[])):=by exact rfl)(hd:d<S.n:=by exact tl Y):RunT P C ops nd K (⟨some d,.call ⟨.value g,xs,at_⟩,ty,pos,aft,none⟩::rest) acc S:=
 RT.Tl .none hp hlen i hR hrow hres hf hargs hd next
theorem gn{j_ g_:Nat}{fI:Bool}{m:Nat}[tS:eM P T E0 m]{c:Int}(hx:S.ev x=.sv (slc n (l.map e)))(hc:(l.length:Int)=c)(next:RunT P C ops nd K rest (⟨[g_]++aZ x,[],[],⟨some (d,.sv (.v (.int .i64 c))),[],[]⟩⟩::acc) (S.set d (.sv (.v (.int .i64 c)))))(Cp:(ops[j_]?).bind (·.dst)=some g_:=by exact rfl)(Cq:S.t g_=.sv (.v (.bool fI)):=by exact rfl)(hd:d<S.n:=by exact tl Y):RunT P C ops nd K (⟨some d,.call ⟨.builtin .len,#[x],#[T]⟩,ty,pos,aft,some (j_,fI)⟩::rest) acc S:=
 RT.WU (.some Cp Cq) hx hd hc next
end
section
variable {P:Program}{C:Ctx}{ops:Array Oper}{S:AS}{nd:Bool}{K:List Ac->AS->Prop}{rest:List Oper}{acc:List Ac}
variable {gd:Option (Nat×Bool)}{rg:List Nat}{d:Nat}{ty:TypeId}{pos:String}{aft:Array Edge}{x y z:Operand}{T U E0 E1:TypeId}
theorem fl{f off:Nat}[hf:xH P T f off U][tV:pV P U]{cs:List SV}{s:SV}(hx:S.ev x=.sv (.agg cs))(hs:cs[off]? =some s)(next:RunT P C ops nd K rest (⟨[]++aZ x,[],[],⟨some (d,.sv s),[],[]⟩⟩::acc) (S.set d (.sv s)))(hd:d<S.n:=by exact tl Y):RunT P C ops nd K (⟨some d,.field T x f,ty,pos,aft,none⟩::rest) acc S:=
 RT.field .none hx hs hd next
end
end
end Go.Fw.Z
namespace Go.Fw
section
open Go.RowKit
def Mem.fr(M:Mem)(N:Nat):Mem:=λb o=>if N<=b then M b o else none
theorem Mem.W5(M:Mem)(N:Nat):(M.fr N).le M:=λb o v h=>by
 unfold Mem.fr at h;split at h
 ·exact h
 cases h
theorem Mem.IV{M M':Mem}(h:M.le M')(N:Nat):(M.fr N).le (M'.fr N):=λb o v e=>by
 unfold Mem.fr at*;split at e
 ·rename_i hn;rw[if_pos hn];exact h b o v e
 cases e
theorem Mem.Fs(M:Mem)(N:Nat):(M.fr N).fr N=M.fr N:=by
 funext b o;unfold Mem.fr;split<;>rfl
def nw(N:Nat)(s:SV):SV:=⟨λM v=>s.h (M.fr N) v/\∀g,v.ownBlock=some g->∃o,M.fr N g o=some (.agg #[]),λhM h=>⟨s.mono (Mem.IV hM N) h.1,λg e=>by obtain⟨o,q⟩:=h.2 g e;exact⟨o,Mem.IV hM N _ _ _ q⟩⟩⟩
theorem dU{N:Nat}{s:SV}:SV.imp (nw N s) s:=λM _ h=>s.mono (Mem.W5 M N) h.1
instance{N:Nat}{s:SV}{n:Nat}[h:Zu s n]:Zu (nw N s) n:=⟨λM v hv=>h.h M v (dU M v hv)⟩
instance{N:Nat}{s:SV}{n:Nat}{rows:List (List SV)}[h:ON s n rows]:ON (nw N s) n rows:=⟨λM v hv=>h.h M v (dU M v hv)⟩
instance{N:Nat}{s:SV}{n sz:Nat}{f:Nat->Nat->SV}[h:Sub s n sz f]:Sub (nw N s) n sz (λa b=>nw N (f a b)):=⟨λM v hv=>by
 obtain⟨a,c,e,hc,hs⟩:=h.h (M.fr N) v hv.1;refine⟨a,c,e,hc,λlo hi h1 h2=>⟨hs lo hi h1 h2,λg hg=>hv.2 g ?_⟩⟩;subst e;cases a with
 |none=>split at hg<;>cases hg
 |some a=>
  split at hg
  ·exact hg
  have e:(a.add (lo*sz)).block=a.block:=by unfold Addr.add;split<;>rfl
  rw[show(Value.slice (Option.map (λx=>x.add (lo*sz)) (some a)) (hi-lo) (c-lo)).ownBlock=some (a.add (lo*sz)).block from rfl,e]at hg;exact hg⟩
instance{N:Nat}{s:SV}[h:One s]:One (nw N s):=⟨λM v hv=>h.h _ v hv.1⟩
class Sup (N:Nat) (s:SV):Prop where
 h:∀M v,s.h M v->s.h (M.fr N) v
instance{N:Nat}{x:Value}:Sup N (.v x):=⟨λ_ _ h=>h⟩
instance{N:Nat}{s:SV}:Sup N (nw N s):=⟨λM v h=>by show s.h ((M.fr N).fr N) v/\∀g,v.ownBlock=some g->∃o,(M.fr N).fr N g o=some (.agg #[]);rw[Mem.Fs];exact h⟩
class Pa (N:Nat) (l:List SV):Prop where
 h:∀s∈l,∀M v,s.h M v->s.h (M.fr N) v
instance{N:Nat}:Pa N []:=⟨λs h=>by cases h⟩
instance{N:Nat}{s:SV}{l:List SV}[a:Sup N s][b:Pa N l]:Pa N (s::l):=⟨λt ht=>by
 rcases List.mem_cons.1 ht with rfl|ht
 ·exact a.h
 exact b.h t ht⟩
class DO (N:Nat) {α:Type} (e:α->List SV):Prop where
 h:∀x,Pa N (e x)
instance{N:Nat}:DO N aY:=⟨λ_=>inferInstance⟩
instance{N:Nat}:DO N cO:=⟨λ_=>inferInstance⟩
abbrev fZ(N:Nat)(z:Zr):List SV:=[.v (.bool z.neg),nw N (slc 1 (z.w.map aY))]
abbrev fQ(N:Nat)(q:Qr):List SV:=[.v (.bool q.num.neg),nw N (slc 1 (q.num.w.map aY)),.v (.bool q.den.neg),nw N (slc 1 (q.den.w.map aY))]
instance{N:Nat}:EL (fQ N) 4:=⟨λ_=>rfl,λ_=>inferInstance⟩
instance{N:Nat}:DO N (fQ N):=⟨λ_=>inferInstance⟩
theorem bk{α:Type}{N n:Nat}{e:α->List SV}:SV.imp (.v (.slice none 0 0)) (nw N (slc n (([]:List α).map e))):=λ_ _ h=>⟨.inl ⟨none,h,rfl⟩,λg e=>by rw[show _=Value.slice none 0 0 from h]at e;cases e⟩
theorem IW{α:Type}{n:Nat}{e e':α->List SV}(h:∀x,cJ (e' x) (e x))(l:List α):SV.imp (slc n (l.map e')) (slc n (l.map e)):=by
 rintro M v (⟨a,h1,h2⟩|⟨b,o,c,h1,h2,h3,h4⟩)
 ·exact .inl ⟨a,h1,by have:=List.map_eq_nil_iff.1 h2;rw[this];rfl⟩
 refine .inr ⟨b,o,c,by simpa using h1,by simpa using h2,by simpa using h3,λi row hr=>?_⟩;rw[List.getElem?_map]at hr;cases hx:l[i]? with
 |none=>rw[hx]at hr;cases hr
 |some x=>
  rw[hx]at hr;have hr:e x=row:=Option.some.inj hr;subst hr;obtain⟨g1,g2⟩:=h4 i (e' x) (by rw[List.getElem?_map,hx];rfl);refine⟨by rw[cJ.len (h x)];exact g1,λk s hs=>?_⟩;obtain⟨s2,Ck,hi⟩:=cJ.get (h x) hs;obtain⟨y,hy,ho,hh⟩:=g2 k s2 Ck;exact⟨y,hy,ho,hi M y hh⟩
theorem zI(N:Nat)(z:Zr):cJ (fZ N z) (eZ z):=⟨au,dU,aq⟩
theorem qI(N:Nat)(q:Qr):cJ (fQ N q) (eQ q):=⟨au,dU,au,dU,aq⟩
theorem KP{N:Nat}{l:List Qr}:SV.imp (nw N (slc 4 (l.map (fQ N)))) (slc 4 (l.map eQ)):=λM v h=>IW (qI N) l M v (dU M v h)
theorem DP{N n:Nat}{α:Type}{e:α->List SV}[he:DO N e]{l:List α}{M:Mem}{v:Value}(h:(slc n (l.map e)).h M v)(hb:∀g,v.ownBlock=some g->N<=g/\∃o,M g o=some (.agg #[])):(nw N (slc n (l.map e))).h M v:=by
 refine⟨?_,λg hg=>by obtain⟨h1,o,h2⟩:=hb g hg;exact⟨o,by unfold Mem.fr;rw[if_pos h1];exact h2⟩⟩;rcases h with⟨a,h1,h2⟩|⟨b,o,c,h1,h2,h3,h4⟩
 ·exact .inl ⟨a,h1,h2⟩
 have hN:N<=b:=(hb b (by rw[h1];rfl)).1;refine .inr ⟨b,o,c,h1,h2,h3,λi row hr=>⟨(h4 i row hr).1,λk s hs=>?_⟩⟩;obtain⟨y,hy,ho,hh⟩:=(h4 i row hr).2 k s hs;refine⟨y,by unfold Mem.fr;rw[if_pos hN];exact hy,ho,?_⟩;rw[List.getElem?_map]at hr;cases hx:l[i]? with
 |none=>rw[hx]at hr;cases hr
 |some x=>
  rw[hx]at hr;have hr:e x=row:=Option.some.inj hr;subst hr;exact(he.h x).h s (List.mem_of_getElem? hs) M y hh
section
variable {P:Program}{C:Ctx}{S:AS}{Q:Exit->AS->Prop}
theorem bn.Pb{E:Env}{a:Act}{w:World}(h:bn C S E a w)(vs:List Value)(T:TypeId)(hone:∀v∈vs,v.oneCell'=true):bn C S {E with M:=λb o=>if b=w.heap.size then(vs++[.agg #[]])[o]? else E.M b o} a (w.alloc (.cells ⟨vs⟩ T)):=by
 have hno:∀o,E.M w.heap.size o=none:=λo=>by
  cases e:E.M w.heap.size o with
  |none=>rfl
  |some v=>have:=nm h.dh e;omega
 refine h.grow (λb o v e=>?_) (λb o v e=>?_) (λb o v e=>?_) (((Below.refl _ _).alloc (Nat.le_refl _) _))
 ·have:b≠w.heap.size:=by rintro rfl;rw[hno o]at e;cases e
  simp[this,e]
 ·by_cases hb:b=w.heap.size
  ·exact .inr (by omega)
  simp only[if_neg hb]at e;exact .inl e
 by_cases hb:b=w.heap.size
 ·subst hb;simp only[if_true]at e;by_cases ho:o<vs.length
  ·rw[List.getElem?_append_left ho]at e;refine .of ?_ (hone v (List.mem_of_getElem? e));rw[World.cell?_alloc_new];simpa using e
  rw[List.getElem?_append_right (by omega)]at e;cases IX:o-vs.length with
  |succ k=>rw[IX]at e;simp at e
  |zero=>
   rw[IX]at e;simp at e;subst e;exact⟨⟨vs⟩,T,by show(w.heap.push _)[w.heap.size]? =_;rw[Array.getElem?_push,if_pos rfl]⟩
 simp only[if_neg hb]at e;refine(h.dh b o v e).same ?_;show(w.heap.push _)[b]? =_;rw[Array.getElem?_push,if_neg hb]
theorem gP{c:Code}{i n N:Nat}{E1:TypeId}{α:Type}{e:α->List SV}{l:List α}[el:EL e n][he:DO N e](hN:N<=C.w0.heap.size)(hb:∀k,¬C.tO k)(hR:S.r i=.live (TR E1 n e l))(hk:Ok P C c (S.nD i (nw N (slc n (l.map e)))) Q):Ok P C c S Q:=λa w hs=>by
 obtain⟨E,h⟩:=hs;have hlen:l.length<=9223372036854775807:=by
  obtain⟨⟨vs,ho,hv⟩,_⟩:=h.rx i _ hR;rcases ho.2 with⟨_,q2⟩|⟨g',cap,cur,q1,_,q2,q3,q4,q5,q6⟩
  ·have q2:l.length=0:=q2;omega
  have q3:l.length<=cap:=q3;have:maxLen=9223372036854775807:=by decide
  omega
 exact hk a w (h.nD hR (pY l) (by rw[List.length_map]) hlen (lZ l) (λM v hv hg=>DP hv (λg e=>⟨(hg g e).1.elim (λq=>Nat.le_trans hN q) (λq=>absurd q (hb g)),(hg g e).2⟩)))
def cK(P:Program)(f:FuncId)(N:Nat)(args:List SV)(r:SV):Prop:=
 ∀(M:Mem) (w:World) (vs:List Value),N<=w.heap.size->M.dh w->SV.ef M args vs->
  Calls P f ⟨vs⟩ w λe w'=>∃v M',e=.returned v/\M.le M'/\(∀b o x,M' b o=some x->M b o=some x\/w.heap.size<=b)/\M'.dh w'/\r.h M' v/\Below w.heap.size w w'
theorem cK.w{f:FuncId}{N:Nat}{args args':List SV}{r:SV}(h:cK P f N args r)(hi:cJ args' args):cK P f N args' r:=λM w vs hN hM hv=>h M w vs hN hM (hi.holds hv)
theorem bA{f:FuncId}{fn:Func}{code:Code}{N:Nat}{args:List SV}{r:SV}(hf:P.funcs[f]? =some fn)(hb:fn.body=some code)(hn:args.length<=fn.ntmps)
  (h:∀(w:World) (M:Mem) (vs:List Value),N<=w.heap.size->SV.ef M args vs->Ok P (E7 w M) code (AS.init fn.ntmps args) (λe S=>(e=.normal\/e=.ret)/\Li P S fn.results.toList r)):cK P f N args r:=by
 intro M w vs hN hM hvs;refine(callsIn_wide (n:=0)).1 (callsIn_of_wp_marks (F:=Fence.wide) hf hb trivial ?_);refine wpIn_mono (h w M vs hN hvs _ w ⟨_,jV hM hvs hn⟩) ?_;rintro e a' w' ⟨S',⟨he,ss,Qz,himp⟩,E,hh⟩;have key:LeavesInM Fence.wide 0 P fn a'.tmps (λe w'=>∃v M',e=.returned v/\M.le M'/\(∀b o x,M' b o=some x->M b o=some x\/w.heap.size<=b)/\M'.dh w'/\r.h M' v/\Below w.heap.size w w') a'.defers .returning w':=by
  obtain⟨ds,h1,h2,h3⟩:=hh.marks;rw[h1];refine nM ds w' h2 (λr hr=>(h3 r hr).2.2) (λw2 g1 g2 g3 g4 g5=>?_);have Cj:=hh.Ay h3 g1 g2 g3 g4 g5;obtain⟨v,hv,hs⟩:=DD Cj Qz;refine⟨v,hv,v,E.M,Y,Cj.m0,λb o x e=>?_,Cj.dh,himp _ _ hs,Cj.os,Cj.tape,Cj.output,Cj.grown,λk hk=>Cj.frame k hk (λh=>h)⟩;rcases Cj.eG b o x e with h|h|h
  ·exact .inl h
  ·exact .inr h
  exact h.elim
 rcases he with rfl|rfl
 ·exact key
 exact key
theorem Pc{f:FuncId}{N:Nat}{args:List SV}{E1:TypeId}{n:Nat}{α:Type}{e:α->List SV}{l:List α}[el:EL e n][he:DO N e](hp:DH P f args (TR E1 n e l)):cK P f N args (nw N (slc n (l.map e))):=by
 intro M w vs hN hM hvs;refine(hp M w vs hM hvs).mono ?_;rintro ex w' ⟨v,M',us,rfl,hle,hnew,hin,hown,zW,jW,W6⟩;have jc:Rows n (l.map e) (l.flatMap e):=pY l;have uG:=r5 jc;rcases hown.2 with⟨h1,h2⟩|⟨g,cap,cur,h1,_,h2,h3,_,h5,h6⟩
 ·exact⟨v,M',rfl,hle,hnew,hin,⟨.inl ⟨none,h1,by have h2:l.length=0:=h2;rw[List.length_eq_zero_iff.1 h2];rfl⟩,λg e=>by rw[h1]at e;cases e⟩,W6⟩
 have hg:v.ownBlock=some g:=by rw[h1];rfl
 obtain⟨hge,hno⟩:=jW g hg;have h3:l.length<=cap:=h3;have ag9:maxLen=9223372036854775807:=by decide
 refine⟨v,λb o=>if b=g/\o<l.length*n then us[o]? else if b=g/\o=l.length*n then some (.agg #[])else M' b o,Y,λb o x q=>?_,λb o x q=>?_,λb o x q=>?_,?_,W6⟩
 ·have:=hle b o x q;have:b≠g:=by rintro rfl;rw[hno o]at this;cases this
  simp[this];assumption
 ·simp only at q;split at q
  ·rename_i hc;exact .inr (by rw[hc.1];exact hge)
  split at q
  ·rename_i hc;exact .inr (by rw[hc.1];exact hge)
  exact hnew b o x q
 ·simp only at q;split at q
  ·rename_i hc;obtain⟨rfl,E6⟩:=hc;refine .of ?_ (lZ l _ _ zW x (List.mem_of_getElem? q));simp only[World.cell?,h2];have h6:cur.toList.take (l.length*n)=us:=h6;rw[<-h6,List.getElem?_take,if_pos E6]at q;simpa using q
  split at q
  ·rename_i hc;cases q;rw[hc.1];exact⟨_,_,h2⟩
  exact hin b o x q
 refine DP ?_ (λg' e'=>by rw[hg]at e';cases e';exact⟨Nat.le_trans hN hge,l.length*n,by simp⟩);refine .inr ⟨g,0,cap,by rw[h1,List.length_map],by rw[List.length_map];exact h3,by rw[List.length_map];omega,λk row hk=>?_⟩;obtain⟨q1,q2⟩:=pW jc k row hk;refine⟨q1,λj s hs=>?_⟩;have Ck:=q2 j s hs;obtain⟨y,hy,hys⟩:=zW.get Ck;have hlt:k*n+j<l.length*n:=by
  have:=(List.getElem?_eq_some_iff.1 Ck).1;rw[uG,List.length_map]at this;exact this
 refine⟨y,by simp[hlt,hy],lZ l _ _ zW y (List.mem_of_getElem? hy),s.mono (λb o x q=>?_) hys⟩;have:b≠g:=by rintro rfl;rw[hno o]at q;cases q
 simp[this,q]
end
section
variable {P:Program}{C:Ctx}{ops:Array Oper}{S:AS}{nd:Bool}{K:List Ac->AS->Prop}{rest:List Oper}{acc:List Ac}
variable {gd:Option (Nat×Bool)}{rg:List Nat}{d:Nat}{ty:TypeId}{pos:String}{aft:Array Edge}{x y z:Operand}{T U E0:TypeId}
variable {α:Type}{l l' k:List α}{e:α->List SV}{n by_ N:Nat}{zv:Value}
theorem RT.bM(hg:Gd ops S gd rg){f:FuncId}[dz P f]{g:Operand}{xs:Array Operand}{at_:Array TypeId}{args:List SV}{r:SV}(hp:cK P f N args r)(hN:N<=C.w0.heap.size)(hf:S.ev g=.sv (.v (.func (.func f) #[] #[])))(hargs:ga S xs.toList args)(hd:d<S.n)
  (next:RunT P C ops nd K rest (⟨rg++(aZ g++xs.toList.flatMap aZ),[],[],⟨some (d,.sv r),[],[]⟩⟩::acc) (S.set d (.sv r))):RunT P C ops nd K (⟨some d,.call ⟨.value g,xs,at_⟩,ty,pos,aft,gd⟩::rest) acc S:=by
 refine .inl ⟨_,[],[],_,?_,next⟩;rintro S' hn ht _ _ i a w L Q ho ⟨E,h⟩ hL;refine cA (C:=C) ho (hg.wanted h (λs hs=>ht s (List.mem_append_left _ hs)) Y) ?_;have rY:a.eval g=.func (.func f) #[] #[]:=by
  have h1:=h.ev g;rw[bw (λ_ h=>List.mem_append_right _ (List.mem_append_left _ h)) ht,hf]at h1;exact h1
 have hall:=ga.vals h hargs (λs hs=>ht s (List.mem_append_right _ (List.mem_append_right _ hs)));have hr:(execOp a.eval ⟨some d,.call ⟨.value g,xs,at_⟩,ty,pos,aft,gd⟩).run P w=.ok (.enter f ⟨xs.toList.map a.eval⟩) w:=by
  have e2:xs.map a.eval=⟨xs.toList.map a.eval⟩:=by apply Array.ext';simp
  have e1:=dz.run (P:=P) (f:=f) (xs.map a.eval) w;rw[<-e2];simp[execOp,resolve,rY,Deferred.ofValue,invoke,e1]
 refine ct (C:=C) (by intro c h;cases h) hr ?_;refine⟨λh=>by simp at h,gi ((hp E.M w _ (Nat.le_trans hN h.grown) h.dh hall).mono ?_)⟩;rintro e w' ⟨v,M',rfl,hM,hnew,hin,hv,hb⟩;exact hL _ _ ⟨_,(h.grow hM hnew hin hb).put (x:=.sv r) hv (by show d<S'.n;omega) ff⟩
theorem RT.C5(hg:Gd ops S gd rg){m:Nat}[tS:eM P T E0 m]{c:Int}(hx:S.ev x=.sv (nw N (slc n (l.map e))))(hd:d<S.n)(hc:(l.length:Int)=c)
  (next:RunT P C ops nd K rest (⟨rg++aZ x,[],[],⟨some (d,.sv (.v (.int .i64 c))),[],[]⟩⟩::acc) (S.set d (.sv (.v (.int .i64 c))))):RunT P C ops nd K (⟨some d,.call ⟨.builtin .len,#[x],#[T]⟩,ty,pos,aft,gd⟩::rest) acc S:=
 RT.len hg hx hd (by rw[List.length_map,hc];exact next)
theorem RT.W7(hg:Gd ops S gd rg)[tS:eM P T E0 n]{kk:IntKind}{i:Int}{a:α}(hx:S.ev x=.sv (nw N (slc n (l.map e))))(hy:S.ev y=.sv (.v (.int kk i)))(hd:d<S.n)(ha:cW l i=some a)
  (next:RunT P C ops nd K rest (⟨rg++(aZ x++aZ y),[],[],⟨some (d,.sv (ref (e a))),[],[]⟩⟩::acc) (S.set d (.sv (ref (e a))))):RunT P C ops nd K (⟨some d,.indexAddr T x y,ty,pos,aft,gd⟩::rest) acc S:=
 RT.indexAddr hg (e a) hx hy hd (pX ha).1 (by rw[List.getElem?_map,(pX ha).2];rfl) next
theorem RT.Pd(hg:Gd ops S gd rg)[tS:eM P T E0 n]{lo hi:Option Operand}(a b:Int)(hx:S.ev x=.sv (nw N (slc n (l.map e))))(hlo:AE S 0 lo a)(hhi:AE S l.length hi b)(hd:d<S.n)(h:wH l a b=some l')
  (next:RunT P C ops nd K rest (⟨rg++(aZ x++(nF lo++nF hi)),[],[],⟨some (d,.sv (nw N (slc n (l'.map e)))),[],[]⟩⟩::acc) (S.set d (.sv (nw N (slc n (l'.map e)))))):RunT P C ops nd K (⟨some d,.slice T x lo hi none,ty,pos,aft,gd⟩::rest) acc S:=by
 obtain⟨h0,h1,h2,h3⟩:=CY h;exact RT.slice hg hx a b hlo (by rw[List.length_map];exact hhi) hd h0 h1 (by rw[List.length_map];exact h2) _ (by rw[II,h3]) next
theorem RT.W8(hg:Gd ops S gd rg)[tS:eM P T E0 n][tE:jw P E0 n by_ zv][el:EL e n][he:DO N e]{i:Nat}(hN:N<=C.w0.heap.size)(hb:∀k,¬C.tO k)(hx:S.ev x=.row i)(hR:S.r i=.live (TR E0 n e l))(hy:S.ev y=.sv (slc n (k.map e)))(hd:d<S.n)(xN:S.r d=.un)(we:d<1000)(h:wh by_ l k=some l')
  (next:RunT P C ops nd K rest (⟨rg++(aZ x++aZ y),[],[d,i],⟨some (d,.sv (nw N (slc n (l'.map e)))),[],[(i,.dead),(d,.dead)]⟩⟩::acc) ((AS.b9 [(i,.dead),(d,.dead)] S).set d (.sv (nw N (slc n (l'.map e)))))):RunT P C ops nd K (⟨some d,.call ⟨.builtin .append,#[x,y],#[T,T]⟩,ty,pos,aft,gd⟩::rest) acc S:=by
 obtain⟨h1,h2,rfl⟩:=wJ h;have hf:l.flatMap e++(k.map e).flatten=(l++k).flatMap e:=by simp[sq]
 exact RT.IN hg (.row hx hR) hy hd xN we (by simpa using h1) (by simpa using h2) _ (rows':=(l++k).map e) (λ_ _ hv hg=>DP hv (λg e=>⟨(hg g e).1.elim (λq=>Nat.le_trans hN q) (λq=>absurd q (hb g)),(hg g e).2⟩)) (by rw[hf];exact pY _) (by simp) (by rw[hf];exact lZ _) next
theorem RT.wK(hg:Gd ops S gd rg)[tS:eM P T E0 n][tE:jw P E0 n by_ zv][he:DO N e](hN:N<=C.w0.heap.size){len:Nat}{parts:Array (Nat×Operand)}{qs:List (Nat×List SV)}(hp:nE S parts.toList qs)(hd:d<S.n)
  (hc:pH 0 qs=true) (hl:qs.length=len) (hsz:(qs.all λq=>Nat.beq q.2.length n)=true) (hlen:Nat.ble (len*n) 16777216=true) (JO:(zv.cells.toList.all λv=>v.oneCell')=true) (jc:qs.map (·.2)=l.map e)
  (next:RunT P C ops nd K rest (⟨rg++kQ parts.toList,[],[],⟨some (d,.sv (nw N (slc n (l.map e)))),[],[]⟩⟩::acc) (S.set d (.sv (nw N (slc n (l.map e)))))):RunT P C ops nd K (⟨some d,.buildSlice T len parts,ty,pos,aft,gd⟩::rest) acc S:=by
 refine .inl ⟨_,[],[],_,?_,next⟩;rintro S' hn ht _ _ i a w L Q ho ⟨E,h⟩ hL;refine cA (C:=C) ho (hg.wanted h (λs hs=>ht s (List.mem_append_left _ hs)) Y) ?_;obtain⟨vs,hr,hall,hone⟩:=nY (P:=P) (T:=T) (E0:=E0) (n:=n) (by_:=by_) (zv:=zv) (d:=d) (ty:=ty) (pos:=pos) (aft:=aft) (gd:=gd) h hp (λs hs=>ht s (List.mem_append_right _ hs)) hc hl hsz (af hlen) (List.all_eq_true.1 JO);refine ct (C:=C) (by intro c h;cases h) hr (hL _ _ ⟨_,(h.Pb vs E0 hone).put (d:=d) (x:=.sv (nw N (slc n (l.map e)))) (v:=.slice (some ⟨w.heap.size,0,none⟩) len len) ?_ (by show d<S'.n;omega) ff⟩);have hrw:Rows n (qs.map (·.2)) (qs.map (·.2)).flatten:=⟨Y,λr hr=>by
  obtain⟨q,hq,rfl⟩:=List.mem_map.1 hr;exact Nat.eq_of_beq_eq_true (List.all_eq_true.1 hsz q hq)⟩
 have Ls:=tE.p;have hlb:len<=16777216:=Nat.le_trans (Nat.le_mul_of_pos_right _ Ls) (af hlen);refine DP ?_ (λg e=>by cases e;exact⟨Nat.le_trans hN h.grown,vs.length,by simp⟩);rw[<-jc];refine .inr ⟨w.heap.size,0,len,by rw[List.length_map,hl],by rw[List.length_map,hl];exact Nat.le_refl _,by rw[List.length_map,hl];omega,λk row hk=>?_⟩;obtain⟨q1,q2⟩:=pW hrw k row hk;refine⟨q1,λj s hs=>?_⟩;obtain⟨y,hy,hys⟩:=hall.get (q2 j s hs);refine⟨y,by show(if w.heap.size=w.heap.size then(vs++[Value.agg #[]])[0+k*n+j]? else _)=_;rw[if_pos Y,Nat.zero_add,List.getElem?_append_left (List.getElem?_eq_some_iff.1 hy).1];exact hy,hone y (List.mem_of_getElem? hy),s.mono (λb o v e=>?_) hys⟩;have:b≠w.heap.size:=by rintro rfl;have:=nm h.dh e;omega
 simp[this,e]
end
end
section
open Go.RowKit
abbrev fS(N n:Nat){α:Type}(e:α->List SV)(x:List α):List SV:=[nw N (slc n (x.map e))]
instance{N n:Nat}{α:Type}{e:α->List SV}:EL (fS N n e) 1:=⟨λ_=>rfl,λ_=>inferInstance⟩
instance{N n:Nat}{α:Type}{e:α->List SV}:DO N (fS N n e):=⟨λ_=>inferInstance⟩
theorem dD{P:Program}{f:FuncId}{args:List SV}{r:Nat->SV}{s:SV}(hp:∀N,cK P f N args (r N))(hi:∀N,SV.imp (r N) s):Pure P f args s:=λM w vs hM hv=>(hp w.heap.size M w vs (Nat.le_refl _) hM hv).mono (λ_ _ ⟨v,M',h1,h2,h3,h4,h5,h6⟩=>⟨v,M',h1,h2,h3,h4,hi _ _ _ h5,h6⟩)
theorem aa2{N:Nat}{l:List (List Qr)}:SV.imp (nw N (slc 1 (l.map (fS N 4 (fQ N))))) (slc 1 (l.map (eS 4 eQ))):=λM v h=>IW (e':=fS N 4 (fQ N)) (e:=eS 4 eQ) (λ_=>⟨KP,aq⟩) l M v (dU M v h)
theorem Ft{l:List (List Qr)}:∀(N:Nat) (M:Mem) (v:Value),(nw N (slc 1 (l.map (fS N 4 (fQ N))))).h M v->(slc 1 (l.map (eS 4 eQ))).h (M.fr N) v:=λN M v h=>aa2 (M.fr N) v (by
 obtain⟨h1,h2⟩:=h;rw[<-Mem.Fs]at h1;exact⟨h1,λg e=>by rw[Mem.Fs];exact h2 g e⟩)
section steps
variable {P:Program}{C:Ctx}{ops:Array Oper}{S:AS}{nd:Bool}{K:List Ac->AS->Prop}{rest:List Oper}{acc:List Ac}{N:Nat}
variable {gd:Option (Nat×Bool)}{rg:List Nat}{d:Nat}{ty:TypeId}{pos:String}{aft:Array Edge}{x y z:Operand}{T U E0:TypeId}
theorem RT.Tn(hg:Gd ops S gd rg){f:FuncId}[dz P f]{g:Operand}{xs:Array Operand}{at_:Array TypeId}{args caps:List SV}{r:SV}(hp:cK P f N (args++caps) r)(hN:N<=C.w0.heap.size)(hf:S.ev g=.sv (iT f caps))(hargs:ga S xs.toList args)(hd:d<S.n)
  (next:RunT P C ops nd K rest (⟨rg++(aZ g++xs.toList.flatMap aZ),[],[],⟨some (d,.sv r),[],[]⟩⟩::acc) (S.set d (.sv r))):RunT P C ops nd K (⟨some d,.call ⟨.value g,xs,at_⟩,ty,pos,aft,gd⟩::rest) acc S:=by
 refine .inl ⟨_,[],[],_,?_,next⟩;rintro S' hn ht _ _ i a w L Q ho ⟨E,h⟩ hL;refine cA (C:=C) ho (hg.wanted h (λs hs=>ht s (List.mem_append_left _ hs)) Y) ?_;have rY:(iT f caps).h E.M (a.eval g):=by
  have h1:=h.ev g;rw[bw (λ_ h=>List.mem_append_right _ (List.mem_append_left _ h)) ht,hf]at h1;exact h1
 obtain⟨n7,rY,xX⟩:=rY;have hall:=SV.ef.append (ga.vals h hargs (λs hs=>ht s (List.mem_append_right _ (List.mem_append_right _ hs)))) xX;have hr:(execOp a.eval ⟨some d,.call ⟨.value g,xs,at_⟩,ty,pos,aft,gd⟩).run P w=.ok (.enter f ⟨xs.toList.map a.eval++n7⟩) w:=by
  have e2:xs.map a.eval++⟨n7⟩=⟨xs.toList.map a.eval++n7⟩:=by apply Array.ext';simp
  have e1:=dz.run (P:=P) (f:=f) (xs.map a.eval++⟨n7⟩) w;rw[<-e2];simp[execOp,resolve,rY,Deferred.ofValue,invoke,e1]
 refine ct (C:=C) (by intro c h;cases h) hr ?_;refine⟨λh=>by simp at h,gi ((hp E.M w _ (Nat.le_trans hN h.grown) h.dh hall).mono ?_)⟩;rintro e w' ⟨v,M',rfl,hM,hnew,hin,hv,hb⟩;exact hL _ _ ⟨_,(h.grow hM hnew hin hb).put (x:=.sv r) hv (by show d<S'.n;omega) ff⟩
end steps
end
end Go.Fw
namespace Go.Proofs.YtningmnklfpfjaaGreat
section
open Go.Fw
noncomputable def ek(x0:List Nat):Option (List Nat):=wh 4 [] x0
noncomputable def bV(x0:Nat)(c0:Nat):Option (Nat×Nat):=(some ((x0+c0)%18446744073709551616)).bind λx6=>(some (x6/2^32)).bind λx8=>(some (x6%4294967296)).bind λdZ=>some (dZ,x8)
noncomputable def bu(x0:List Nat):Option (List Nat):=(cu (λ(zB:(List Nat))=>(show Option (((List Nat))⊕((List Nat)))from cQ (λ(AU:Bool)=>(bif AU then(some (zB.length:Int)).bind λfJ=>(some (IntKind.i64.wrap (fJ-1))).bind λfC=>(wH zB 0 fC).bind λmN=>some (.inl mN)else some (.inr zB))) λKQ=>(some (zB.length:Int)).bind λx4=>(some (decide ((0:Int)<x4))).bind λx5=>(bif x5 then(some (zB.length:Int)).bind λx9=>(some (IntKind.i64.wrap (x9-1))).bind λdZ=>(cW zB dZ).bind λiJ=>(some (decide ((iJ:Nat)=0))).bind λgh=>some gh else some false).bind λxY=>KQ xY)) x0).bind λAW=>some AW
noncomputable def cw(x0:Bool)(x1:List Nat):Option (Zr):=(bu x1).bind λx6=>(some (x6.length:Int)).bind λx8=>(some (decide ((x8:Int)=0))).bind λx9=>(bif x9 then some ⟨false,[]⟩else some ⟨x0,x6⟩)
noncomputable def eW(x0:Bool)(x1:Nat):Option (Zr):=(some (decide ((x1:Nat)=0))).bind λx7=>(bif x7 then some ⟨false,[]⟩else(some (x1/2^32)).bind λiJ=>(some (decide ((iJ:Nat)=0))).bind λep=>(bif ep then(some (x1%4294967296)).bind λeH=>some ⟨x0,[eH]⟩else(some (x1%4294967296)).bind λiU=>(some (x1/2^32)).bind λjH=>(some (jH%4294967296)).bind λlP=>some ⟨x0,[iU,lP]⟩))
noncomputable def dN(x0:List Nat):Option (Nat):=(some (x0.length:Int)).bind λx4=>(some (decide ((x4:Int)=0))).bind λx6=>(bif x6 then some 0 else(some (decide ((x4:Int)=1))).bind λx8=>(bif x8 then(cW x0 0).bind λdZ=>(some (dZ%18446744073709551616)).bind λep=>some ep else(cW x0 0).bind λfE=>(some (fE%18446744073709551616)).bind λgN=>(cW x0 1).bind λfC=>(some (fC%18446744073709551616)).bind λiU=>(some (iU*2^32%18446744073709551616)).bind λiE=>(some ((gN ||| iE)%18446744073709551616)).bind λjH=>some jH))
noncomputable def c6(x0:List Nat)(x1:List Nat):Option (Int):=(some (x0.length:Int)).bind λx7=>(some (x1.length:Int)).bind λx9=>(some (decide ((x7:Int)≠x9))).bind λdZ=>(bif dZ then(some (x0.length:Int)).bind λep=>(some (x1.length:Int)).bind λfE=>(some (decide ((ep:Int)<fE))).bind λeH=>(bif eH then some (-1)else some 1)else(some (x0.length:Int)).bind λfJ=>(some (IntKind.i64.wrap (fJ-1))).bind λfC=>(cu (λ(rO:Int)=>(show Option ((Int)⊕((Unit)⊕(Int)))from(some (decide ((0:Int)<=rO))).bind λiU=>(bif iU then(cW x0 rO).bind λyY=>(cW x1 rO).bind λiK=>(some (decide ((yY:Nat)≠iK))).bind λtX=>(bif tX then(cW x0 rO).bind λqQ=>(cW x1 rO).bind λCe=>(some (decide ((qQ:Nat)<Ce))).bind λmO=>(bif mO then some (.inr (.inr (-1)))else some (.inr (.inr 1)))else(some (IntKind.i64.wrap (rO-1))).bind λjH=>some (.inl jH))else some (.inr (.inl ()))))) fC).bind λe6=>match e6 with|.inr v6=>some v6|.inl _=>some 0)
noncomputable def eO(x0:List Nat)(x1:List Nat):Option (List Nat):=(some (x0.length:Int)).bind λdZ=>(some (x1.length:Int)).bind λep=>(some (max (dZ:Int) ep)).bind λgh=>(some (IntKind.i64.wrap (gh+1))).bind λfE=>(LG (α:=Nat) 4 fE).bind λeH=>(kS (λ(k:Nat) (s7:Nat×(List Nat))=>match s7 with|⟨wL,je⟩=>(show Option (Nat×(List Nat))from(some (x0.getD k 0%18446744073709551616)).bind λp20=>(some (x1.getD k 0%18446744073709551616)).bind λp21=>(some ((p20+p21)%18446744073709551616)).bind λnn=>(bV nn wL).bind λ⟨lQ,k9⟩=>(wh 4 je [lQ]).bind λiK=>some (k9,iK))) (max x0.length x1.length) (0,eH)).bind λe7=>match e7 with|⟨wL,je⟩=>(bV 0 wL).bind λ⟨jX,k11⟩=>(wh 4 je [jX]).bind λqQ=>some qQ
noncomputable def dj(x0:List Nat)(x1:List Nat):Option (List Nat):=(some (x0.length:Int)).bind λdZ=>(LG (α:=Nat) 4 dZ).bind λiJ=>(kS (λ(k:Nat) (s7:Nat×(List Nat))=>match s7 with|⟨z7,je⟩=>(show Option (Nat×(List Nat))from(some (x0.getD k 0%18446744073709551616)).bind λp16=>(some (x1.getD k 0%18446744073709551616)).bind λp17=>(some (oQ 18446744073709551616 4294967295 p17)).bind λjH=>(some ((p16+jH)%18446744073709551616)).bind λlP=>(bV lP z7).bind λ⟨ik,k9⟩=>(wh 4 je [ik]).bind λnn=>some (k9,nn))) (max x0.length x1.length) (1,iJ)).bind λe7=>match e7 with|⟨z7,je⟩=>some je
noncomputable def fM(x0:List Nat)(x1:List Nat):Option (List Nat):=(some (x0.length:Int)).bind λep=>(some (x1.length:Int)).bind λfE=>(some (IntKind.i64.wrap (ep+fE))).bind λeH=>(z2 4 eH (0:Nat)).bind λgN=>(some (x0.length:Int)).bind λfC=>(cu (λ(V4:Int×(List Nat))=>match V4 with|⟨n9,DQ⟩=>(show Option ((Int×(List Nat))⊕((List Nat)))from(some (decide ((n9:Int)<fC))).bind λiU=>(bif iU then(cW x0 n9).bind λjH=>(some (x1.length:Int)).bind λnn=>(cu (λ(IY:Int×Nat×(List Nat))=>match IY with|⟨xZ,wM,vr⟩=>(show Option ((Int×Nat×(List Nat))⊕(Nat×(List Nat)))from(some (decide ((xZ:Int)<nn))).bind λnq=>(bif nq then(cW x1 xZ).bind λz8=>(some (IntKind.i64.wrap (n9+xZ))).bind λrR=>(some (IntKind.i64.wrap (n9+xZ))).bind λmO=>(oP vr mO).bind λuM=>(vr[uM]?).bind λsy=>(some (sy%18446744073709551616)).bind λvu=>(some (jH%18446744073709551616)).bind λDR=>(some (z8%18446744073709551616)).bind λvv=>(some ((DR*vv)%18446744073709551616)).bind λux=>(some ((vu+ux)%18446744073709551616)).bind λOB=>(bV OB wM).bind λ⟨wN,k41⟩=>(oP vr rR).bind λCr=>(stM vr Cr wN).bind λQH=>(some (IntKind.i64.wrap (xZ+1))).bind λya=>some (.inl (ya,k41,QH))else some (.inr (wM,vr))))) (0,0,DQ)).bind λW9=>match W9 with|⟨Fu,HE⟩=>(some (x1.length:Int)).bind λET=>(some (IntKind.i64.wrap (n9+ET))).bind λPe=>(bV 0 Fu).bind λ⟨JU,k45⟩=>(oP HE Pe).bind λKR=>(stM HE KR JU).bind λl46=>(some (IntKind.i64.wrap (n9+1))).bind λHF=>some (.inl (HF,l46))else some (.inr DQ)))) (0,gN)).bind λvw=>some vw
noncomputable def gZ(x0:List Nat)(x1:Nat):Option (Nat×List Nat):=(some (x0.length:Int)).bind λx9=>(some (IntKind.i64.wrap (x9-1))).bind λdZ=>(cu (λ(s8:Nat×Int×(List Nat))=>match s8 with|⟨LU,LV,qR⟩=>(show Option ((Nat×Int×(List Nat))⊕(Nat×(List Nat)))from(some (decide ((0:Int)<=LV))).bind λep=>(bif ep then(some (LU*2^32%18446744073709551616)).bind λgN=>(oP qR LV).bind λmN=>(qR[mN]?).bind λiU=>(some (iU%18446744073709551616)).bind λiE=>(some ((gN ||| iE)%18446744073709551616)).bind λjH=>(DK 18446744073709551616 jH x1).bind λlQ=>(some (lQ%4294967296)).bind λnq=>(oP qR LV).bind λiK=>(stM qR iK nq).bind λrP=>(Co jH x1).bind λjX=>(some (IntKind.i64.wrap (LV-1))).bind λfE=>some (.inl (jX,fE,rP))else some (.inr (LU,qR))))) (0,dZ,x0)).bind λe8=>match e8 with|⟨Xa,z9⟩=>(uK x0 z9).bind λ_=>some (Xa,z9)
noncomputable def fy(x0:List Nat)(x1:Nat):Option (List Nat):=(some (x0.length:Int)).bind λiJ=>(some (IntKind.i64.wrap (iJ+1))).bind λep=>(LG (α:=Nat) 4 ep).bind λgh=>(some (x0.length:Int)).bind λeH=>(cu (λ(s8:Int×Nat×(List Nat))=>match s8 with|⟨wO,qS,je⟩=>(show Option ((Int×Nat×(List Nat))⊕(Nat×(List Nat)))from(some (decide ((wO:Int)<eH))).bind λfJ=>(bif fJ then(cW x0 wO).bind λfC=>(some (fC%18446744073709551616)).bind λlP=>(some (lP*2^(min x1 64)%18446744073709551616)).bind λyY=>(bV yY qS).bind λ⟨nn,To⟩=>(wh 4 je [nn]).bind λnq=>(some (IntKind.i64.wrap (wO+1))).bind λiK=>some (.inl (iK,To,nq))else some (.inr (qS,je))))) (0,0,gh)).bind λe8=>match e8 with|⟨AX,LW⟩=>(bV 0 AX).bind λ⟨jX,k12⟩=>(wh 4 LW [jX]).bind λqQ=>some qQ
noncomputable def iz(x0:List Nat)(x1:Nat):Option (List Nat):=(some (x0.length:Int)).bind λiJ=>(some (IntKind.i64.wrap (iJ+1))).bind λep=>(LG (α:=Nat) 4 ep).bind λgh=>(some (x0.length:Int)).bind λeH=>(cu (λ(s8:Int×Nat×(List Nat))=>match s8 with|⟨wO,qS,DS⟩=>(show Option ((Int×Nat×(List Nat))⊕(Nat×(List Nat)))from(some (decide ((wO:Int)<eH))).bind λfJ=>(bif fJ then(cW x0 wO).bind λfC=>(some (fC%18446744073709551616)).bind λlP=>(some (lP*2^(min x1 64)%18446744073709551616)).bind λyY=>(bV yY qS).bind λ⟨nn,To⟩=>(wh 4 DS [nn]).bind λnq=>(some (IntKind.i64.wrap (wO+1))).bind λiK=>some (.inl (iK,To,nq))else some (.inr (qS,DS))))) (0,0,gh)).bind λe8=>match e8 with|⟨AX,LX⟩=>(bV 0 AX).bind λ⟨jX,k12⟩=>(wh 4 LX [jX]).bind λqQ=>some qQ
noncomputable def gu(x0:Nat):Option (Int):=(some (decide ((65536:Nat)<=x0))).bind λx4=>cQ (λ(j2:Nat×Int)=>match j2 with|⟨HG,Pf⟩=>(some (decide ((256:Nat)<=HG))).bind λx8=>cQ (λ(j4:Nat×Int)=>match j4 with|⟨Xb,Xc⟩=>(some (Xb%256)).bind λeH=>(uJ [0,1,2,2,3,3,3,3,4,4,4,4,4,4,4,4,5,5,5,5,5,5,5,5,5,5,5,5,5,5,5,5,6,6,6,6,6,6,6,6,6,6,6,6,6,6,6,6,6,6,6,6,6,6,6,6,6,6,6,6,6,6,6,6,7,7,7,7,7,7,7,7,7,7,7,7,7,7,7,7,7,7,7,7,7,7,7,7,7,7,7,7,7,7,7,7,7,7,7,7,7,7,7,7,7,7,7,7,7,7,7,7,7,7,7,7,7,7,7,7,7,7,7,7,7,7,7,7,8,8,8,8,8,8,8,8,8,8,8,8,8,8,8,8,8,8,8,8,8,8,8,8,8,8,8,8,8,8,8,8,8,8,8,8,8,8,8,8,8,8,8,8,8,8,8,8,8,8,8,8,8,8,8,8,8,8,8,8,8,8,8,8,8,8,8,8,8,8,8,8,8,8,8,8,8,8,8,8,8,8,8,8,8,8,8,8,8,8,8,8,8,8,8,8,8,8,8,8,8,8,8,8,8,8,8,8,8,8,8,8,8,8,8,8,8,8,8,8,8,8,8,8,8,8,8,8] ((eH:Nat):Int)).bind λgN=>(some (IntKind.i64.wrap (gN:Int))).bind λfJ=>(some (IntKind.i64.wrap (Xc+fJ))).bind λfC=>some fC) λK4=>(bif x8 then(some (HG/2^8)).bind λdZ=>(some (IntKind.i64.wrap (Pf+8))).bind λep=>K4 (dZ,ep)else K4 (HG,Pf))) λK2=>(bif x4 then(some (x0/2^16)).bind λx6=>K2 (x6,16)else K2 (x0,0))
noncomputable def dG(x0:Nat):Option (Int):=(gu x0).bind λx4=>(some (IntKind.i64.wrap (32-x4))).bind λx5=>some x5
noncomputable def g9(x0:List Nat)(o0:Nat)(n0:Nat)(x1:List Nat):Option (Nat×List Nat):=(some (x1.length:Int)).bind λep=>(OA o0 n0 ep).bind λeH=>(x0[eH]?).bind λgN=>(some (gN%18446744073709551616)).bind λfJ=>(some (fJ*2^32%18446744073709551616)).bind λfC=>(some (IntKind.i64.wrap (ep-1))).bind λiE=>(OA o0 n0 iE).bind λjH=>(x0[jH]?).bind λlP=>(some (lP%18446744073709551616)).bind λik=>(some ((fC ||| ik)%18446744073709551616)).bind λyY=>(some (IntKind.i64.wrap (ep-1))).bind λnq=>(cW x1 nq).bind λiK=>(some (iK%18446744073709551616)).bind λtX=>(some (IntKind.i64.wrap (ep-2))).bind λqQ=>(cW x1 qQ).bind λrR=>(some (rR%18446744073709551616)).bind λuN=>(DK 18446744073709551616 yY tX).bind λmO=>(Co yY tX).bind λvu=>(cu (λ(yZ:Nat×Nat)=>match yZ with|⟨Cs,C6⟩=>(show Option ((Nat×Nat)⊕(Nat))from cQ (λ(HH:Bool)=>(bif HH then(some (oQ 18446744073709551616 Cs 1)).bind λTp=>(some ((C6+tX)%18446744073709551616)).bind λKS=>(some (KS/2^32)).bind λKT=>(some (decide ((KT:Nat)≠0))).bind λLY=>(bif LY then some (.inr Tp)else some (.inl (Tp,KS)))else some (.inr Cs))) λKQ=>(some (Cs/2^32)).bind λDR=>(some (decide ((DR:Nat)≠0))).bind λwj=>(bif wj then some true else(some ((Cs*uN)%18446744073709551616)).bind λwN=>(some (C6*2^32%18446744073709551616)).bind λya=>(some (IntKind.i64.wrap (ep-2))).bind λzC=>(OA o0 n0 zC).bind λET=>(x0[ET]?).bind λPe=>(some (Pe%18446744073709551616)).bind λx58=>(some ((ya ||| x58)%18446744073709551616)).bind λJU=>(some (decide ((JU:Nat)<wN))).bind λKR=>some KR).bind λLZ=>KQ LZ)) (mO,vu)).bind λJV=>(uK x0 x0).bind λ_=>some (JV,x0)
noncomputable def dm(x0:List Nat)(o0:Nat)(n0:Nat)(x1:List Nat)(x2:Nat):Option (Bool×List Nat):=(some (n0:Int)).bind λfE=>(cu (λ(Aa:Nat×Int×Nat×(List Nat))=>match Aa with|⟨JW,wP,DT,tY⟩=>(show Option ((Nat×Int×Nat×(List Nat))⊕(Nat×(List Nat)))from(some (decide ((wP:Int)<fE))).bind λgN=>(bif gN then(some (x1.length:Int)).bind λiU=>(some (decide ((wP:Int)<iU))).bind λiE=>cQ (λ(L0:Nat)=>(OA o0 n0 wP).bind λtX=>(tY[tX]?).bind λjX=>(some (jX%18446744073709551616)).bind λtZ=>(bV L0 DT).bind λ⟨pR,k16⟩=>(some (pR%18446744073709551616)).bind λuN=>(some (oQ 18446744073709551616 tZ uN)).bind λCe=>(some (oQ 18446744073709551616 Ce JW)).bind λmO=>(some (mO%4294967296)).bind λwQ=>(OA o0 n0 wP).bind λDR=>(stM tY DR wQ).bind λl18=>(some (mO/2^63)).bind λvv=>(some (IntKind.i64.wrap (wP+1))).bind λux=>some (.inl (vv,ux,k16,l18))) λK14=>(bif iE then(cW x1 wP).bind λik=>(some (ik%18446744073709551616)).bind λnn=>(some ((nn*x2)%18446744073709551616)).bind λnq=>K14 nq else K14 0)else some (.inr (JW,tY))))) (0,0,0,x0)).bind λPg=>match Pg with|⟨L1,wS⟩=>(some (decide ((L1:Nat)≠0))).bind λwN=>(uK x0 wS).bind λ_=>some (wN,wS)
noncomputable def iF(x0:List Nat)(x1:List Nat):Option ((List Nat)×(List Nat)):=(some (x1.length:Int)).bind λfJ=>(some (IntKind.i64.wrap (fJ-1))).bind λiU=>(cW x1 iU).bind λiE=>(dG iE).bind λlP=>(some ((lP%18446744073709551616).toNat)).bind λik=>(iz x0 ik).bind λlQ=>(fy x1 ik).bind λz8=>(wH z8 0 fJ).bind λjX=>(some (x0.length:Int)).bind λqQ=>(some (IntKind.i64.wrap (qQ-fJ))).bind λpR=>(some (IntKind.i64.wrap (pR+1))).bind λuN=>(z2 4 uN (0:Nat)).bind λCe=>(some (x0.length:Int)).bind λmO=>(some (IntKind.i64.wrap (mO-fJ))).bind λsy=>(cu (λ(Tq:Int×(List Nat)×(List Nat))=>match Tq with|⟨jg,sB,vz⟩=>(show Option ((Int×(List Nat)×(List Nat))⊕((List Nat)×(List Nat)))from(some (decide ((0:Int)<=jg))).bind λwQ=>(bif wQ then(some (IntKind.i64.wrap (jg+fJ))).bind λCr=>(some (IntKind.i64.wrap (Cr+1))).bind λya=>(Tj vz jg ya).bind λ⟨o53,n53⟩=>(g9 vz o53 n53 jX).bind λ⟨zC,JX⟩=>(uK vz JX).bind λ_=>(some (IntKind.i64.wrap (jg+fJ))).bind λKR=>(some (IntKind.i64.wrap (KR+1))).bind λHF=>(Tj JX jg HF).bind λ⟨o62,n62⟩=>(dm JX o62 n62 jX zC).bind λ⟨x65,OC⟩=>(uK JX OC).bind λ_=>cQ (λ(QI:Nat×(List Nat))=>match QI with|⟨L2,HI⟩=>(some (L2%4294967296)).bind λTr=>(oP sB jg).bind λXd=>(stM sB Xd Tr).bind λl55=>(some (IntKind.i64.wrap (jg-1))).bind λwj=>some (.inl (wj,l55,HI))) λZL=>(bif x65 then(some (oQ 18446744073709551616 zC 1)).bind λIZ=>(some (jX.length:Int)).bind λPh=>(cu (λ(Ts:Int×Nat×(List Nat))=>match Ts with|⟨yc,wU,vA⟩=>(show Option ((Int×Nat×(List Nat))⊕(Nat×(List Nat)))from(some (decide ((yc:Int)<Ph))).bind λOD=>(bif OD then(cW jX yc).bind λV5=>(some (IntKind.i64.wrap (jg+yc))).bind λKU=>(some (IntKind.i64.wrap (jg+yc))).bind λx84=>(oP vA x84).bind λXe=>(vA[Xe]?).bind λPj=>(some (Pj%18446744073709551616)).bind λTt=>(some (V5%18446744073709551616)).bind λTu=>(some ((Tt+Tu)%18446744073709551616)).bind λPk=>(bV Pk wU).bind λ⟨x91,k68⟩=>(oP vA KU).bind λx92=>(stM vA x92 x91).bind λl69=>(some (IntKind.i64.wrap (yc+1))).bind λV6=>some (.inl (V6,k68,l69))else some (.inr (wU,vA))))) (0,0,OC)).bind λe65=>match e65 with|⟨Fv,AY⟩=>(some (IntKind.i64.wrap (jg+fJ))).bind λXf=>(some (IntKind.i64.wrap (jg+fJ))).bind λXg=>(oP AY Xg).bind λJY=>(AY[JY]?).bind λXh=>(some (Xh%18446744073709551616)).bind λXi=>(bV Xi Fv).bind λ⟨Tv,k72⟩=>(oP AY Xf).bind λXj=>(stM AY Xj Tv).bind λl73=>ZL (IZ,l73)else ZL (zC,OC))else some (.inr (sB,vz))))) (sy,Ce,lQ)).bind λe36=>match e36 with|⟨AZ,yd⟩=>(z2 4 fJ (0:Nat)).bind λXk=>(cu (λ(V7:Int×(List Nat))=>match V7 with|⟨ua,wV⟩=>(show Option ((Int×(List Nat))⊕((List Nat)))from(some (decide ((ua:Int)<fJ))).bind λTw=>(bif Tw then(oP yd ua).bind λXl=>(yd[Xl]?).bind λXm=>(some (Xm%18446744073709551616)).bind λTx=>(some (IntKind.i64.wrap (ua+1))).bind λXn=>(oP yd Xn).bind λXo=>(yd[Xo]?).bind λXp=>(some (Xp%18446744073709551616)).bind λTy=>(some (Ty*2^32%18446744073709551616)).bind λTz=>(some ((Tx ||| Tz)%18446744073709551616)).bind λTA=>(some (TA/2^(min ik 64))).bind λXq=>(some (Xq%4294967296)).bind λTB=>(oP wV ua).bind λXr=>(stM wV Xr TB).bind λl83=>(some (IntKind.i64.wrap (ua+1))).bind λTC=>some (.inl (TC,l83))else some (.inr wV)))) (0,Xk)).bind λqT=>some (AZ,qT)
noncomputable def fN(x0:List Nat)(x1:List Nat):Option ((List Nat)×(List Nat)):=(c6 x0 x1).bind λep=>(some (decide ((ep:Int)<0))).bind λgh=>(bif gh then(ek x0).bind λeH=>some ([],eH)else(some (x0.length:Int)).bind λfC=>(some (decide ((fC:Int)<=2))).bind λmN=>(bif mN then(dN x0).bind λiE=>(dN x1).bind λlP=>(DK 18446744073709551616 iE lP).bind λnn=>(eW false nn).bind λ⟨sD,rI⟩=>(Co iE lP).bind λtX=>(eW false tX).bind λ⟨nH,mP⟩=>some (rI,mP)else(some (x1.length:Int)).bind λpR=>(some (decide ((pR:Int)=1))).bind λuN=>(bif uN then(ek x0).bind λuO=>(cW x1 0).bind λsy=>(some (sy%18446744073709551616)).bind λwQ=>(gZ uO wQ).bind λ⟨DR,l5⟩=>(uK uO l5).bind λ_=>(some (DR%4294967296)).bind λux=>some (l5,[ux])else(iF x0 x1).bind λ⟨Xs,Xt⟩=>some (Xs,Xt))))
noncomputable def cg(x0:Int):Option (Zr):=(some ((x0%18446744073709551616).toNat)).bind λx5=>(some (decide ((x0:Int)<0))).bind λx7=>cQ (λ(Xu:Nat)=>(some (decide ((x0:Int)<0))).bind λiJ=>(eW iJ Xu).bind λ⟨Fx,Fy⟩=>some ⟨Fx,Fy⟩) λK2=>(bif x7 then(some (oQ 18446744073709551616 0 x5)).bind λx9=>K2 x9 else K2 x5)
noncomputable def dJ(x0:Zr):Option (Int×Bool):=match x0 with|⟨bp,bt⟩=>(bu bt).bind λx8=>(some (x8.length:Int)).bind λdZ=>(some (decide ((2:Int)<dZ))).bind λiJ=>(bif iJ then some (0,false)else(dN x8).bind λgh=>(bif bp then(some (decide ((9223372036854775808:Nat)<gh))).bind λfJ=>(bif fJ then some (0,false)else(some (oQ 18446744073709551616 0 gh)).bind λmN=>(some (IntKind.i64.wrap (mN:Int))).bind λiU=>some (iU,true))else(some (decide ((9223372036854775808:Nat)<=gh))).bind λjH=>(bif jH then some (0,false)else(some (IntKind.i64.wrap (gh:Int))).bind λik=>some (ik,true))))
noncomputable def dx(x0:Bool)(x1:List Nat)(x2:Bool)(x3:List Nat):Option (Zr):=(some (x0==x2)).bind λiJ=>(bif iJ then(eO x1 x3).bind λeH=>(cw x0 eH).bind λ⟨kF,kG⟩=>some ⟨kF,kG⟩else(c6 x1 x3).bind λmN=>(some (decide ((mN:Int)<0))).bind λiU=>(bif iU then(dj x3 x1).bind λik=>(cw x2 ik).bind λ⟨lS,kT⟩=>some ⟨lS,kT⟩else(dj x1 x3).bind λiK=>(cw x0 iK).bind λ⟨uP,uQ⟩=>some ⟨uP,uQ⟩))
noncomputable def mQ(x0:Zr)(x1:Zr):Option (Zr):=match x0 with|⟨bp,bt⟩=>match x1 with|⟨cE,cD⟩=>(dJ ⟨bp,bt⟩).bind λ⟨Ct,HJ⟩=>(dJ ⟨cE,cD⟩).bind λ⟨DU,HK⟩=>cQ (λ(A0:Bool)=>cQ (λ(j5:Unit)=>(bu bt).bind λuM=>(bu cD).bind λwj=>(dx bp uM cE wj).bind λ⟨Fz,FA⟩=>some ⟨Fz,FA⟩) λK5=>(bif A0 then(some (IntKind.i64.wrap (Ct+DU))).bind λnn=>(some (IntKind.i64.wrap ((BitVec.ofInt 64 Ct ^^^ BitVec.ofInt 64 nn).toNat))).bind λiK=>(some (IntKind.i64.wrap ((BitVec.ofInt 64 DU ^^^ BitVec.ofInt 64 nn).toNat))).bind λjX=>(some (IntKind.i64.wrap ((BitVec.ofInt 64 iK &&& BitVec.ofInt 64 jX).toNat))).bind λtZ=>(some (decide ((0:Int)<=tZ))).bind λqQ=>(bif qQ then(cg nn).bind λ⟨y5,y7⟩=>some ⟨y5,y7⟩else K5 ())else K5 ())) λK3=>(bif HJ then some HK else some false).bind λFB=>K3 FB
noncomputable def mR(x0:Zr)(x1:Zr):Option (Zr):=match x0 with|⟨bp,bt⟩=>match x1 with|⟨cE,cD⟩=>(dJ ⟨bp,bt⟩).bind λ⟨Ct,HJ⟩=>(dJ ⟨cE,cD⟩).bind λ⟨DU,HK⟩=>cQ (λ(A0:Bool)=>cQ (λ(j5:Unit)=>(bu bt).bind λuM=>(some (!cE)).bind λwQ=>(bu cD).bind λvv=>(dx bp uM wQ vv).bind λ⟨QJ,QK⟩=>some ⟨QJ,QK⟩) λK5=>(bif A0 then(some (IntKind.i64.wrap (Ct-DU))).bind λnn=>(some (IntKind.i64.wrap ((BitVec.ofInt 64 Ct ^^^ BitVec.ofInt 64 DU).toNat))).bind λiK=>(some (IntKind.i64.wrap ((BitVec.ofInt 64 Ct ^^^ BitVec.ofInt 64 nn).toNat))).bind λjX=>(some (IntKind.i64.wrap ((BitVec.ofInt 64 iK &&& BitVec.ofInt 64 jX).toNat))).bind λtZ=>(some (decide ((0:Int)<=tZ))).bind λqQ=>(bif qQ then(cg nn).bind λ⟨y5,y7⟩=>some ⟨y5,y7⟩else K5 ())else K5 ())) λK3=>(bif HJ then some HK else some false).bind λFB=>K3 FB
noncomputable def c7(x0:Zr)(x1:Zr):Option (Zr):=match x0 with|⟨bp,bt⟩=>match x1 with|⟨cE,cD⟩=>(bu bt).bind λx9=>(bu cD).bind λep=>cQ (λ(L3:Bool)=>(bif L3 then(some (!(bp==cE))).bind λyY=>(dN x9).bind λlQ=>(dN ep).bind λiK=>(some ((lQ*iK)%18446744073709551616)).bind λz8=>(eW yY z8).bind λ⟨QL,QM⟩=>some ⟨QL,QM⟩else(some (!(bp==cE))).bind λpR=>(fM x9 ep).bind λuO=>(cw pR uO).bind λ⟨y9,za⟩=>some ⟨y9,za⟩)) λK3=>(some (x9.length:Int)).bind λfE=>(some (decide ((fE:Int)<=1))).bind λeH=>(bif eH then(some (ep.length:Int)).bind λfC=>(some (decide ((fC:Int)<=1))).bind λmN=>some mN else some false).bind λQN=>K3 QN
noncomputable def fK(x0:Zr):Option (Zr):=match x0 with|⟨bp,bt⟩=>(some (!bp)).bind λx5=>(bu bt).bind λx8=>(ek x8).bind λx9=>(cw x5 x9).bind λ⟨FC,FD⟩=>some ⟨FC,FD⟩
noncomputable def c9(x0:Zr):Option (Int):=match x0 with|⟨bp,bt⟩=>(bu bt).bind λx6=>(some (x6.length:Int)).bind λx7=>(some (decide ((x7:Int)=0))).bind λx8=>(bif x8 then some 0 else(bif bp then some (-1)else some 1))
noncomputable def mS(x0:Zr)(x1:Zr):Option (Int):=match x0 with|⟨bp,bt⟩=>match x1 with|⟨cE,cD⟩=>(c9 ⟨bp,bt⟩).bind λx8=>(c9 ⟨cE,cD⟩).bind λdZ=>(some (decide ((x8:Int)<dZ))).bind λfE=>(bif fE then some (-1)else(some (decide ((dZ:Int)<x8))).bind λfC=>(bif fC then some 1 else(some (decide ((x8:Int)<0))).bind λiE=>(bif iE then(bu cD).bind λik=>(bu bt).bind λlQ=>(c6 ik lQ).bind λnq=>some nq else(bu bt).bind λtX=>(bu cD).bind λqQ=>(c6 tX qQ).bind λrR=>some rR)))
noncomputable def fg(x0:Zr)(x1:Zr):Option (Zr×Zr×Int):=match x0 with|⟨bp,bt⟩=>match x1 with|⟨cE,cD⟩=>(bu bt).bind λgh=>(bu cD).bind λgN=>(some (gN.length:Int)).bind λfC=>(some (decide ((fC:Int)=0))).bind λmN=>(bif mN then some (⟨false,[]⟩,⟨false,[]⟩,7)else(fN gh gN).bind λ⟨L4,Xv⟩=>(bu Xv).bind λiK=>cQ (λ(j3:Bool×Bool)=>match j3 with|⟨L5,HL⟩=>cQ (λ(j5:(List Nat)×(List Nat))=>match j5 with|⟨Xw,QO⟩=>(some (!(HL==cE))).bind λvv=>(cw vv Xw).bind λ⟨QS,QT⟩=>(cw false QO).bind λ⟨C7,C8⟩=>some (⟨QS,QT⟩,⟨C7,C8⟩,0)) λK5=>(bif L5 then(eO L4 [1]).bind λuO=>(dj gN iK).bind λsy=>K5 (uO,sy)else K5 (L4,iK))) λK3=>(bif bp then(some (iK.length:Int)).bind λqQ=>(some (decide ((0:Int)<qQ))).bind λrR=>some rR else some false).bind λQU=>K3 (QU,bp))
noncomputable def kH(x0:Zr)(x1:Zr):Option (Zr):=match x0 with|⟨bp,bt⟩=>match x1 with|⟨cE,cD⟩=>(bu bt).bind λgh=>(bu cD).bind λgN=>(cu (λ(Aa:(List Nat)×(List Nat))=>match Aa with|⟨ye,DV⟩=>(show Option (((List Nat)×(List Nat))⊕((List Nat)×(List Nat)))from cQ (λ(HM:Bool)=>(bif HM then(fN ye DV).bind λ⟨abm,Xx⟩=>(bu Xx).bind λCe=>some (.inl (DV,Ce))else some (.inr (ye,DV)))) λK16=>(some (DV.length:Int)).bind λfC=>(some (decide ((0:Int)<fC))).bind λmN=>(bif mN then(some (ye.length:Int)).bind λjH=>(some (decide ((2:Int)<jH))).bind λlP=>(bif lP then some true else(some (DV.length:Int)).bind λnn=>(some (decide ((2:Int)<nn))).bind λlQ=>some lQ).bind λL6=>some L6 else some false).bind λL7=>K16 L7)) (gh,gN)).bind λPg=>match Pg with|⟨L8,L9⟩=>(some (L9.length:Int)).bind λmO=>(some (decide ((mO:Int)=0))).bind λuM=>(bif uM then(ek L8).bind λvu=>(cw false vu).bind λ⟨FE,FF⟩=>some ⟨FE,FF⟩else(dN L8).bind λwj=>(dN L9).bind λux=>(cu (λ(V8:Nat×Nat)=>match V8 with|⟨I0,yf⟩=>(show Option ((Nat×Nat)⊕(Nat))from(some (decide ((0:Nat)<yf))).bind λwN=>(bif wN then(Co I0 yf).bind λFG=>some (.inl (yf,FG))else some (.inr I0)))) (wj,ux)).bind λC9=>(eW false C9).bind λ⟨QV,QW⟩=>some ⟨QV,QW⟩)
end
section
open Go.Fw Go.Fw.Z Go.RowKit
theorem eP(c:Nat):S3 ah 186 [.v (.int .u64 (c:Nat))] 202 128 [.v (.int .u64 (c:Nat))]:=by
 refine Hy Tryz.func186 Y (af Y) (λec M vs hvs=>?_);exact sr<|RT.wB .none (s:=.sv _) Y T Y Y<|ag Y<|dn<|sr<|RT.makeFunc .none (.box Y (.nil)) T<|an (s:=.fV _ _) Y<|dn<|bf<|⟨.inr Y,_,.tmp Y,Y⟩
theorem sE(a b:List Nat):Pure ah 206 [(slc 1 (List.map aY a)),(slc 1 (List.map aY b))] (iT 214 [ref [(slc 1 (List.map aY a))],ref [(slc 1 (List.map aY b))]]):=by
 refine bz Tryz.func206 Y (af Y) (λec M vs hvs=>?_);refine sr<|RT.wB .none (s:=.sv _) Y T Y Y<|RT.wB .none (s:=.sv _) Y T Y Y<|ag Y<|dn<|sr<|RT.makeFunc .none (.box Y (.box Y (.nil))) T<|an (s:=.fV _ _) Y<|dn<|cz (gY (i:=2) Y [(slc 1 (List.map aY a))] (.cons Y .nil) .any 0 [(4,.fV 214 [.val (ref [(slc 1 (List.map aY a))]),.box 3])] (λ_ _ _=>trivial) (qG.h (l:=[(slc 1 (List.map aY a))])) ⟨@FT.fV _ _ _ _ _ 4 214 [.box 2,.box 3] Y,aq⟩) ?_;exact cz (gY (i:=3) Y [(slc 1 (List.map aY b))] (.cons Y .nil) .any 0 [(4,.fV 214 [.val (ref [(slc 1 (List.map aY a))]),.val (ref [(slc 1 (List.map aY b))])])] (λ_ _ _=>trivial) (qG.h (l:=[(slc 1 (List.map aY b))])) ⟨@FT.fV _ _ _ _ _ 4 214 [.val (ref [(slc 1 (List.map aY a))]),.box 3] Y,aq⟩)<|cz (DI 4 (iT 214 [ref [(slc 1 (List.map aY a))],ref [(slc 1 (List.map aY b))]]) (λ_ _ h=>DJ h))<|bf<|⟨.inr Y,DG (.tmp Y (.nil)) Y⟩
theorem sF(a b:List Nat):Iter ah 214 [ref [(slc 1 (List.map aY a))],ref [(slc 1 (List.map aY b))]] (max a.length b.length) (λk=>[.v (.int .u64 ((a.getD k 0%18446744073709551616:Nat):Int)),.v (.int .u64 ((b.getD k 0%18446744073709551616:Nat):Int))]):=by
 refine qM Tryz.func214 Y Y (af Y) (λec M O l J hJ xX hr=>?_);obtain⟨n7,xX⟩:=xX;have hla:a.length<=9223372036854775807:=by cases n7 with|nil=>exact xX.elim|cons _ n7=>exact z3 xX.1
 have hlb:b.length<=9223372036854775807:=by cases n7 with|nil=>exact xX.elim|cons _ n7=>cases n7 with|nil=>exact xX.2.elim|cons _ _=>exact z3 xX.2.1
 refine bH ?_;refine aW ?_;refine RT.dr .none Y Y (tl Y) ?_;refine RT.len .none Y (tl Y) ?_;refine RT.dr .none Y Y (tl Y) ?_;refine RT.len .none Y (tl Y) ?_;refine RT.max .none (((max a.length b.length:Nat):Int)) Y Y (tl Y) (by simp only[List.length_map];split<;>omega) ?_;refine RT.mv .none Y (tl Y) ?_;refine RT.done ?_;refine aV.n ?_;refine bj ?_
 refine wA (I:=λx:{i:Nat//i<=max a.length b.length}=>AS.cM 39 [(0,.sv (.v (.func (.yield l) #[] #[]))),(1,.sv (ref [(slc 1 (List.map aY a))])),(2,.sv (ref [(slc 1 (List.map aY b))])),(11,ai ((max a.length b.length:Nat):Int)),(12,ai ((x.1:Nat):Int))] [] [] (x.1)) (μ:=λx=>max a.length b.length-x.1) ⟨0,by omega⟩ (by(try dsimp only);exact dM id Y Y Y Y Y ⟨.sv (by first|exact au|exact SV.aX (by omega)|exact SV.aX (by push_cast;omega)|exact SV.aX (by dsimp only;omega)|exact SV.imp_eq (by simp)),.sv (by first|exact au|exact SV.aX (by omega)|exact SV.aX (by push_cast;omega)|exact SV.aX (by dsimp only;omega)|exact SV.imp_eq (by simp)),.sv (by first|exact au|exact SV.aX (by omega)|exact SV.aX (by push_cast;omega)|exact SV.aX (by dsimp only;omega)|exact SV.imp_eq (by simp)),.sv (by first|exact au|exact SV.aX (by omega)|exact SV.aX (by push_cast;omega)|exact SV.aX (by dsimp only;omega)|exact SV.imp_eq (by simp)),.sv (by first|exact au|exact SV.aX (by omega)|exact SV.aX (by push_cast;omega)|exact SV.aX (by dsimp only;omega)|exact SV.imp_eq (by simp)),aq⟩ trivial trivial (λ_ _=>Y)) ?_;rintro⟨i,TD⟩
 try dsimp only
 rcases AR a b i TD with⟨hi,xO,Cb⟩|⟨hi,xO,Cb⟩|⟨hi,xO,Cb⟩|hi
 ·
  refine bH ?_;refine aW ?_;refine RT.lss .none (true) Y Y (tl Y) (by simp;omega) ?_;refine RT.done ?_;refine aV.n ?_;refine bH ?_;refine cP Y ?_;refine bB ?_;refine aV.n ?_;refine bH ?_;refine bj ?_;refine bH ?_;refine aW ?_;refine RT.mv .none Y (tl Y) ?_;refine RT.AF .none Y (tl Y) ?_;refine RT.done ?_;refine aV.n ?_;refine bH ?_;refine aW ?_;refine RT.AF .none Y (tl Y) ?_;refine RT.AF .none Y (tl Y) ?_;refine RT.done ?_;refine aV.n ?_;refine bH ?_;refine bH ?_;refine aW ?_;refine RT.mv .none Y (tl Y) ?_;refine RT.dr .none Y Y (tl Y) ?_;refine RT.len .none Y (tl Y) ?_;refine RT.lss .none (true) Y Y (tl Y) (by simp only[List.length_map];simp;omega) ?_;refine RT.done ?_;refine aV.n ?_;refine cP Y ?_;refine aW ?_;refine RT.dr .none Y Y (tl Y) ?_;refine RT.mv .none Y (tl Y) ?_;refine RT.Lt .none [.v (.int .u32 ((a.getD i 0:Nat):Int))] (Int.natCast_nonneg i) (by rw[Int.toNat_natCast,List.getElem?_map,su xO];rfl) Y Y (tl Y) ?_;refine RT.dr .none Y Y (tl Y) ?_;refine RT.conv .none (((a.getD i 0%18446744073709551616:Nat):Int)) Y (tl Y) OZ ?_;refine RT.AF .none Y (tl Y) ?_;refine RT.done ?_;refine aV.n ?_;refine bH ?_;refine bH ?_;refine aW ?_;refine RT.mv .none Y (tl Y) ?_
  refine RT.dr .none Y Y (tl Y) ?_;refine RT.len .none Y (tl Y) ?_;refine RT.lss .none (true) Y Y (tl Y) (by simp only[List.length_map];simp;omega) ?_;refine RT.done ?_;refine aV.n ?_;refine cP Y ?_;refine aW ?_;refine RT.dr .none Y Y (tl Y) ?_;refine RT.mv .none Y (tl Y) ?_;refine RT.Lt .none [.v (.int .u32 ((b.getD i 0:Nat):Int))] (Int.natCast_nonneg i) (by rw[Int.toNat_natCast,List.getElem?_map,su Cb];rfl) Y Y (tl Y) ?_;refine RT.dr .none Y Y (tl Y) ?_;refine RT.conv .none (((b.getD i 0%18446744073709551616:Nat):Int)) Y (tl Y) OZ ?_;refine RT.AF .none Y (tl Y) ?_;refine RT.done ?_;refine aV.n ?_;refine bH ?_;refine aW ?_;refine RT.mv .none Y (tl Y) ?_;refine RT.mv .none Y (tl Y) ?_;refine RT.mv .none Y (tl Y) ?_;refine RT.yield .none hr Y (λ_ h=>h) Y (i) Y Y hi (by exact⟨Y,Y,aq⟩) (tl Y) (λyb=>?_);cases yb
  ·
   refine RT.not .none Y (tl Y) true Y ?_;refine RT.done ?_;refine aV.n ?_;refine cP Y ?_;refine bf ?_;refine bG.r ?_;refine aV.r ?_;refine aV.r ?_;refine bG.r ?_;exact⟨.inr rfl,(λh=>by cases h)⟩
  refine RT.not .none Y (tl Y) false Y ?_;refine RT.done ?_;refine aV.n ?_;refine dX Y ?_;refine bB ?_;refine bG.n ?_;refine aV.n ?_;refine aW ?_;refine RT.add .none (((i:Nat):Int)+1) Y Y (tl Y) (kR (by omega)) ?_;refine RT.mv .none Y (tl Y) ?_;refine RT.done ?_;refine aV.n ?_;refine⟨⟨i+1,by omega⟩,(by dsimp only;omega),?_⟩
  try dsimp only
  exact dM id Y Y Y Y Y ⟨.sv (by first|exact au|exact SV.aX (by omega)|exact SV.aX (by push_cast;omega)|exact SV.aX (by dsimp only;omega)|exact SV.imp_eq (by simp)),.sv (by first|exact au|exact SV.aX (by omega)|exact SV.aX (by push_cast;omega)|exact SV.aX (by dsimp only;omega)|exact SV.imp_eq (by simp)),.sv (by first|exact au|exact SV.aX (by omega)|exact SV.aX (by push_cast;omega)|exact SV.aX (by dsimp only;omega)|exact SV.imp_eq (by simp)),.sv (by first|exact au|exact SV.aX (by omega)|exact SV.aX (by push_cast;omega)|exact SV.aX (by dsimp only;omega)|exact SV.imp_eq (by simp)),.sv (by first|exact au|exact SV.aX (by omega)|exact SV.aX (by push_cast;omega)|exact SV.aX (by dsimp only;omega)|exact SV.imp_eq (by simp)),aq⟩ trivial trivial (λ_ _=>Y)
 ·
  refine bH ?_;refine aW ?_;refine RT.lss .none (true) Y Y (tl Y) (by simp;omega) ?_;refine RT.done ?_;refine aV.n ?_;refine bH ?_;refine cP Y ?_;refine bB ?_;refine aV.n ?_;refine bH ?_;refine bj ?_;refine bH ?_;refine aW ?_;refine RT.mv .none Y (tl Y) ?_;refine RT.AF .none Y (tl Y) ?_;refine RT.done ?_;refine aV.n ?_;refine bH ?_;refine aW ?_;refine RT.AF .none Y (tl Y) ?_;refine RT.AF .none Y (tl Y) ?_;refine RT.done ?_;refine aV.n ?_;refine bH ?_;refine bH ?_;refine aW ?_;refine RT.mv .none Y (tl Y) ?_;refine RT.dr .none Y Y (tl Y) ?_;refine RT.len .none Y (tl Y) ?_;refine RT.lss .none (true) Y Y (tl Y) (by simp only[List.length_map];simp;omega) ?_;refine RT.done ?_;refine aV.n ?_;refine cP Y ?_;refine aW ?_;refine RT.dr .none Y Y (tl Y) ?_;refine RT.mv .none Y (tl Y) ?_;refine RT.Lt .none [.v (.int .u32 ((a.getD i 0:Nat):Int))] (Int.natCast_nonneg i) (by rw[Int.toNat_natCast,List.getElem?_map,su xO];rfl) Y Y (tl Y) ?_;refine RT.dr .none Y Y (tl Y) ?_;refine RT.conv .none (((a.getD i 0%18446744073709551616:Nat):Int)) Y (tl Y) OZ ?_;refine RT.AF .none Y (tl Y) ?_;refine RT.done ?_;refine aV.n ?_;refine bH ?_;refine bH ?_;refine aW ?_;refine RT.mv .none Y (tl Y) ?_
  refine RT.dr .none Y Y (tl Y) ?_;refine RT.len .none Y (tl Y) ?_;refine RT.lss .none (false) Y Y (tl Y) (by simp only[List.length_map];simp;omega) ?_;refine RT.done ?_;refine aV.n ?_;refine dX Y ?_;refine bB ?_;refine aV.n ?_;refine bH ?_;refine aW ?_;refine RT.mv .none Y (tl Y) ?_;refine RT.mv .none Y (tl Y) ?_;refine RT.mv .none Y (tl Y) ?_;refine RT.yield .none hr Y (λ_ h=>h) Y (i) Y Y hi (by exact⟨Y,(by show AV.sv _=AV.sv _;rw[vp Cb];rfl),aq⟩) (tl Y) (λyb=>?_);cases yb
  ·
   refine RT.not .none Y (tl Y) true Y ?_;refine RT.done ?_;refine aV.n ?_;refine cP Y ?_;refine bf ?_;refine bG.r ?_;refine aV.r ?_;refine aV.r ?_;refine bG.r ?_;exact⟨.inr rfl,(λh=>by cases h)⟩
  refine RT.not .none Y (tl Y) false Y ?_;refine RT.done ?_;refine aV.n ?_;refine dX Y ?_;refine bB ?_;refine bG.n ?_;refine aV.n ?_;refine aW ?_;refine RT.add .none (((i:Nat):Int)+1) Y Y (tl Y) (kR (by omega)) ?_;refine RT.mv .none Y (tl Y) ?_;refine RT.done ?_;refine aV.n ?_;refine⟨⟨i+1,by omega⟩,(by dsimp only;omega),?_⟩
  try dsimp only
  exact dM id Y Y Y Y Y ⟨.sv (by first|exact au|exact SV.aX (by omega)|exact SV.aX (by push_cast;omega)|exact SV.aX (by dsimp only;omega)|exact SV.imp_eq (by simp)),.sv (by first|exact au|exact SV.aX (by omega)|exact SV.aX (by push_cast;omega)|exact SV.aX (by dsimp only;omega)|exact SV.imp_eq (by simp)),.sv (by first|exact au|exact SV.aX (by omega)|exact SV.aX (by push_cast;omega)|exact SV.aX (by dsimp only;omega)|exact SV.imp_eq (by simp)),.sv (by first|exact au|exact SV.aX (by omega)|exact SV.aX (by push_cast;omega)|exact SV.aX (by dsimp only;omega)|exact SV.imp_eq (by simp)),.sv (by first|exact au|exact SV.aX (by omega)|exact SV.aX (by push_cast;omega)|exact SV.aX (by dsimp only;omega)|exact SV.imp_eq (by simp)),aq⟩ trivial trivial (λ_ _=>Y)
 ·
  refine bH ?_;refine aW ?_;refine RT.lss .none (true) Y Y (tl Y) (by simp;omega) ?_;refine RT.done ?_;refine aV.n ?_;refine bH ?_;refine cP Y ?_;refine bB ?_;refine aV.n ?_;refine bH ?_;refine bj ?_;refine bH ?_;refine aW ?_;refine RT.mv .none Y (tl Y) ?_;refine RT.AF .none Y (tl Y) ?_;refine RT.done ?_;refine aV.n ?_;refine bH ?_;refine aW ?_;refine RT.AF .none Y (tl Y) ?_;refine RT.AF .none Y (tl Y) ?_;refine RT.done ?_;refine aV.n ?_;refine bH ?_;refine bH ?_;refine aW ?_;refine RT.mv .none Y (tl Y) ?_;refine RT.dr .none Y Y (tl Y) ?_;refine RT.len .none Y (tl Y) ?_;refine RT.lss .none (false) Y Y (tl Y) (by simp only[List.length_map];simp;omega) ?_;refine RT.done ?_;refine aV.n ?_;refine dX Y ?_;refine bB ?_;refine aV.n ?_;refine bH ?_;refine bH ?_;refine aW ?_;refine RT.mv .none Y (tl Y) ?_;refine RT.dr .none Y Y (tl Y) ?_;refine RT.len .none Y (tl Y) ?_;refine RT.lss .none (true) Y Y (tl Y) (by simp only[List.length_map];simp;omega) ?_;refine RT.done ?_;refine aV.n ?_;refine cP Y ?_;refine aW ?_;refine RT.dr .none Y Y (tl Y) ?_;refine RT.mv .none Y (tl Y) ?_
  refine RT.Lt .none [.v (.int .u32 ((b.getD i 0:Nat):Int))] (Int.natCast_nonneg i) (by rw[Int.toNat_natCast,List.getElem?_map,su Cb];rfl) Y Y (tl Y) ?_;refine RT.dr .none Y Y (tl Y) ?_;refine RT.conv .none (((b.getD i 0%18446744073709551616:Nat):Int)) Y (tl Y) OZ ?_;refine RT.AF .none Y (tl Y) ?_;refine RT.done ?_;refine aV.n ?_;refine bH ?_;refine aW ?_;refine RT.mv .none Y (tl Y) ?_;refine RT.mv .none Y (tl Y) ?_;refine RT.mv .none Y (tl Y) ?_;refine RT.yield .none hr Y (λ_ h=>h) Y (i) Y Y hi (by exact⟨(by show AV.sv _=AV.sv _;rw[vp xO];rfl),Y,aq⟩) (tl Y) (λyb=>?_);cases yb
  ·
   refine RT.not .none Y (tl Y) true Y ?_;refine RT.done ?_;refine aV.n ?_;refine cP Y ?_;refine bf ?_;refine bG.r ?_;refine aV.r ?_;refine aV.r ?_;refine bG.r ?_;exact⟨.inr rfl,(λh=>by cases h)⟩
  refine RT.not .none Y (tl Y) false Y ?_;refine RT.done ?_;refine aV.n ?_;refine dX Y ?_;refine bB ?_;refine bG.n ?_;refine aV.n ?_;refine aW ?_;refine RT.add .none (((i:Nat):Int)+1) Y Y (tl Y) (kR (by omega)) ?_;refine RT.mv .none Y (tl Y) ?_;refine RT.done ?_;refine aV.n ?_;refine⟨⟨i+1,by omega⟩,(by dsimp only;omega),?_⟩
  try dsimp only
  exact dM id Y Y Y Y Y ⟨.sv (by first|exact au|exact SV.aX (by omega)|exact SV.aX (by push_cast;omega)|exact SV.aX (by dsimp only;omega)|exact SV.imp_eq (by simp)),.sv (by first|exact au|exact SV.aX (by omega)|exact SV.aX (by push_cast;omega)|exact SV.aX (by dsimp only;omega)|exact SV.imp_eq (by simp)),.sv (by first|exact au|exact SV.aX (by omega)|exact SV.aX (by push_cast;omega)|exact SV.aX (by dsimp only;omega)|exact SV.imp_eq (by simp)),.sv (by first|exact au|exact SV.aX (by omega)|exact SV.aX (by push_cast;omega)|exact SV.aX (by dsimp only;omega)|exact SV.imp_eq (by simp)),.sv (by first|exact au|exact SV.aX (by omega)|exact SV.aX (by push_cast;omega)|exact SV.aX (by dsimp only;omega)|exact SV.imp_eq (by simp)),aq⟩ trivial trivial (λ_ _=>Y)
 subst hi;refine bH ?_;refine aW ?_;refine RT.lss .none (false) Y Y (tl Y) (by simp) ?_;refine RT.done ?_;refine aV.n ?_;refine bH ?_;refine dX Y ?_;refine cc ?_;refine aV.x ?_;refine aV.x ?_;refine bG.x ?_;exact⟨.inl Y,(λ_=>Y)⟩
theorem qa{x0 r:List Nat}(h:ek x0=some r):DH ah 175 [slc 1 (List.map aY x0)] (TR 130 1 aY r):=by
 refine nZ Tryz.func175 Y (af Y) (λec M vs hvs=>?_);unfold ek at h;refine sr<|ag Y<|dn<|qq<|sr<|mv Y ?_;refine RT.WS .none Y T (λnb hnb=>?_);cases nb;exact dn<|fs<|sr<|RT.O1 (l:=([]:List Nat)) (e:=aY) .none .nil T Y T Y Y Y Y Y Y<|mv Y<|aR (k:=x0) (e:=aY) Y Y Y h<|an (s:=.row _) Y<|dn<|bf<|⟨.inr Y,_,.tmp Y,Y⟩;have hx:x0=[]:=by simpa using hnb Y
 subst hx;obtain⟨_,_,rfl⟩:=wJ h;exact dn<|cT<|sr<|ag Y<|dn<|cz (jd 2 300 130 1 Y Y T)<|bf<|aV.r<|⟨.inr Y,_,.tmp Y,Y⟩
theorem cj{x0:Nat}{c0:Nat}{r:Nat×Nat}(h:bV x0 c0=some r):Lz ah 202 [.v (.int .u64 ((x0:Nat):Int))] 128 [.v (.int .u64 ((c0:Nat):Int))] (.v (.int .u32 ((r.1:Nat):Int))) [.v (.int .u64 ((r.2:Nat):Int))]:=by
 refine AJ Tryz.func202 Y (af Y) (λec M β=>?_);unfold bV at h;refine sr<|ag Y<|dn<|sr<|mv Y<|lV Y Y Y<|lE h λx6 h6 h=>ad _ Y Y (UK.add (a:=x0) (b:=c0) h6)<|ag Y<|dn<|sr<|mv Y<|lE h λx8 h8 h=>RT.shr .none _ Y Y T (by decide) (DL (k:=.u64) (a:=x6) (q:=32) (s:=32) Y h8)<|RT.qJ (cells:=[_]) .none (s:=.sv _) Y Y Y T Y<|dn<|sr<|mv Y<|lE h λdZ gM h=>cv _ Y (UK.nat gM)<|ag Y ?_;refine dn<|bf ?_;obtain rfl:=O h;exact⟨.inr Y,gj (.tmp Y (.nil)) au,Y⟩
theorem cx{x0:List Nat}{r:List Nat}(h:bu x0=some r):Pure ah 144 [slc 1 (List.map aY x0)] (slc 1 (List.map aY r)):=by
 refine bz Tryz.func144 Y (af Y) (λec M vs hvs=>?_);unfold bu at h;refine sr<|aI Y (aB (n:=1) (e:=aY))<|dn<|qq<|bE h λJZ A3 wW=>?_;refine bT (λ(AW:(List Nat))=>AS.cM 21 [(0,.sv (slc 1 (List.map aY AW)))] [] []) (λAW=>AW=JZ) ?_ (λAW A4=>?_);refine bj ?_;refine bU A3 (λyZ=>AS.cM 21 [(0,.sv (slc 1 (List.map aY yZ)))] [] []) (wR []) (λzB Xy Xz h A5 yg=>?_)
 try dsimp only
 refine qq<|qq ?_;refine bK h (λJ0=>AS.cM 21 [(0,.sv (slc 1 (List.map aY zB))),(14,aj J0)] [] []) (λh=>?_) (λAU h=>?_);refine aW<|mv Y<|lE h λx4 h4 h=>ln Y h4<|lE h λx5 h5 h=>gt _ Y Y h5<|mv Y<|bE h λxY eI h=>?_;cases x5;obtain rfl:=O (F eI);exact ww<|ww<|ww<|ww<|ww<|ww<|ww<|pF Y<|dn<|⟨false,h,wR []⟩;refine gm Y<|gm Y<|lE (V eI) λx9 h9 eI=>gn Y h9<|lE eI λdZ gM eI=>RT.sub (.some Y Y) _ Y Y T gM<|bE eI λiJ pJ eI=>RT.Tg (.some Y Y) Y Y T pJ<|gr Y Y<|lE eI λgh jJ eI=>ZK _ Y Y (ZB (p:=iJ) (q:=0) jJ) ?_;obtain rfl:=O eI;exact pT Y<|dn<|⟨gh,h,wR []⟩
 try dsimp only
 refine aV.n ?_;cases AU;refine cF<|cc<|aV.x<|aV.x<|bG.x<|aV.n ?_;obtain rfl:=O (F h);exact⟨zB,yg _ Y,wR []⟩;refine cT<|bB<|aV.n<|bj<|aW<|mv Y<|mv Y<|lE (V h) λfJ kU h=>ln Y kU<|lE h λfC jY h=>sb _ Y Y jY<|bE h λmN oa h=>RT.xT .none 0 fC Y Y ⟨_,Y⟩ T oa<|ag Y<|RT.done<|bG.n ?_;obtain rfl:=O h;exact aV.n ⟨mN,A5 _ Y,wR []⟩;subst A4
 try dsimp only
 refine aV.n<|sr<|mv Y<|ag Y<|dn<|bf ?_;obtain rfl:=O wW;exact R1 Y
abbrev ax:SV:=slc 1 (List.map aY [])
theorem jh{x0:Bool}{x1:Nat}(N:Nat){r:Zr}(h:eW x0 x1=some r):cK ah 137 N [az x0,.v (.int .u64 ((x1:Nat):Int))] (.agg ((fZ N) r)):=by
 refine bA Tryz.func137 Y (af Y) (λec M vs hN hvs=>?_);unfold eW at h;refine sr<|al (cs:=[az false,nw N ax]) (by exact⟨au,bk,aq⟩) Y<|dn<|qq<|bj<|sr<|mv Y<|lE h λx7 h7 h=>eq _ Y Y (ZB (p:=x1) (q:=0) h7)<|ag Y<|dn ?_;cases x7;refine cF<|sr<|mv Y<|lE (F h) λiJ pJ h=>RT.shr .none _ Y Y T (by decide) (DL (k:=.u64) (a:=x1) (q:=32) (s:=32) Y pJ)<|lE h λep gO h=>eq _ Y Y (ZB (p:=iJ) (q:=0) gO)<|ag Y<|dn ?_;cases ep;refine cF<|bB<|bG.n<|aV.n<|sr<|mv Y<|mv Y<|lE (F h) λiU pK h=>cv _ Y (UK.nat pK)<|mv Y<|lE h λjH oR h=>RT.shr .none _ Y Y T (by decide) (DL (k:=.u64) (a:=x1) (q:=32) (s:=32) Y oR)<|lE h λlP vB h=>cv _ Y (UK.nat vB)<|RT.wK (l:=[iU,lP]) (e:=aY) .none hN (.one Y (.one Y (.nil))) T Y Y Y Y Y Y<|bI (cs:=[_,_]) (cs':=[az x0,nw N (slc 1 (List.map aY [iU,lP]))]) (.one Y (.one Y (.nil))) ⟨au,au,aq⟩ ?_;refine so Y Y Y<|dn<|bf ?_;obtain rfl:=O h;exact RZ (.agg Y Y (.k2 Y Y) Y (.nil));refine cT<|sr<|mv Y<|mv Y<|lE (V h) λeH iZ h=>cv _ Y (UK.nat iZ)<|RT.wK (l:=[eH]) (e:=aY) .none hN (.one Y (.nil)) T Y Y Y Y Y Y<|bI (cs:=[_,_]) (cs':=[az x0,nw N (slc 1 (List.map aY [eH]))]) (.one Y (.one Y (.nil))) ⟨au,au,aq⟩<|so Y Y Y<|dn<|bf<|bG.r<|aV.r ?_;obtain rfl:=O h
 exact RZ (.agg Y Y (.k2 Y Y) Y (.nil));refine cT<|sr<|bI (cs:=[_,_]) (cs':=[az false,nw N ax]) (.nil) ⟨au,bk,aq⟩<|so Y Y Y<|dn<|bf<|bG.r<|aV.r ?_;obtain rfl:=O (V h);exact RZ (.agg Y Y (.k2 Y Y) Y (.nil))
theorem iA{x0:List Nat}{r:Nat}(h:dN x0=some r):Pure ah 162 [slc 1 (List.map aY x0)] (.v (.int .u64 ((r:Nat):Int))):=by
 refine bz Tryz.func162 Y (af Y) (λec M vs hvs=>?_);unfold dN at h;refine sr<|ag Y<|dn<|qq<|sr<|mv Y<|lE h λx4 h4 h=>ln Y h4<|dn<|bj<|sr<|lE h λx6 h6 h=>eq _ Y Y (xI (p:=x4) (q:=0) h6)<|ag Y<|dn ?_;cases x6;refine cF<|sr<|lE (F h) λx8 h8 h=>eq _ Y Y (xI (p:=x4) (q:=1) h8)<|ag Y<|dn ?_;cases x8;refine cF<|bB<|bG.n<|aV.n<|qq<|bh mixed<|mv Y<|bE (F h) λfE lN h=>ix Y Y lN<|lr Y Y<|lE h λgN kL h=>cv _ Y (UK.nat kL)<|mv Y<|bE h λfC jY h=>ix Y Y jY<|lr Y Y<|lE h λiU pK h=>cv _ Y (UK.nat pK)<|lE h λiE qb h=>RT.shl .none _ Y Y T (by decide) (UK.shl (a:=iU) (q:=32) (s:=32) Y qb)<|lE h λjH oR h=>RT.or .none _ Y Y T (UK.or (a:=gN) (b:=iE) oR) ?_;refine ag Y ?_;refine RT.done ⟨by kernel_rfl,?_⟩;refine aV.n<|bf ?_;obtain rfl:=O h;exact R1 Y;refine cT<|sr<|mv Y<|bE (V h) λdZ gM h=>ix Y Y gM<|lr Y Y<|lE h λep gO h=>cv _ Y (UK.nat gO)<|ag Y<|dn<|bf<|bG.r<|aV.r ?_;obtain rfl:=O h;exact R1 Y;refine cT<|sr<|ag Y<|dn<|bf<|bG.r<|aV.r ?_;obtain rfl:=O (V h);exact R1 Y
theorem fW{x0:List Nat}{x1:List Nat}{r:Int}(h:c6 x0 x1=some r):Pure ah 161 [slc 1 (List.map aY x0),slc 1 (List.map aY x1)] (ay r):=by
 refine bz Tryz.func161 Y (af Y) (λec M vs hvs=>?_);unfold c6 at h;refine sr<|ag Y<|dn<|qq<|sr<|mv Y<|lE h λx7 h7 h=>ln Y h7<|mv Y<|lE h λx9 h9 h=>ln Y h9<|lE h λdZ gM h=>ne _ Y Y (HC (p:=x7) (q:=x9) gM)<|dn ?_;cases dZ;refine fs<|qq<|sr<|mv Y<|lE (F h) λfJ kU h=>ln Y kU<|lE h λfC jY h=>sb _ Y Y jY<|ag Y<|dn<|bE h λe6 DW nu=>?_;refine bT (λ(DX:Unit)=>AS.cM 41 [] [] []) (λDX=>.inl DX=e6) ?_ (λDX DY=>?_);refine bj ?_;refine bU DW (λs6=>AS.cM 41 [(0,.sv (slc 1 (List.map aY x0))),(1,.sv (slc 1 (List.map aY x1))),(5,ai s6)] [] []) (wR []) (λrO y6 G6 h DZ zD=>?_)
 try dsimp only
 refine qq<|sr<|mv Y<|lE h λiU pK h=>ge _ Y Y pK<|dn ?_;cases iU;refine cF<|cc<|aV.x<|aV.x<|bG.x<|aV.n ?_;obtain rfl:=O (F h);exact⟨(),zD _ Y,wR []⟩;refine cT<|bB<|aV.n<|qq<|bj<|qq<|bh mixed<|mv Y<|mv Y<|bE (V h) λyY yh h=>ix Y Y yh<|lr Y Y<|mv Y<|mv Y<|bE h λiK nI h=>ix Y Y nI<|lr Y Y<|lE h λtX Da h=>ne _ Y Y (ZC (p:=yY) (q:=iK) Da) ?_;refine RT.done ⟨by kernel_rfl,?_⟩;refine aV.n ?_;cases tX;refine cF<|bB<|bG.n<|aV.n<|aW<|mv Y<|lE (F h) λjH oR h=>sb _ Y Y oR<|ag Y<|RT.done ?_;obtain rfl:=O h;exact aV.n ⟨jH,DZ _ Y,wR []⟩;refine cT<|qq<|qq<|bh mixed<|mv Y<|mv Y<|bE (V h) λqQ wX h=>ix Y Y wX<|lr Y Y<|mv Y<|mv Y<|bE h λCe J1 h=>ix Y Y J1<|lr Y Y<|lE h λmO rS h=>ls _ Y Y (ZD (p:=qQ) (q:=Ce) rS) ?_;refine RT.done ⟨by kernel_rfl,?_⟩;refine aV.n ?_;cases mO;refine fs<|sr<|ag Y<|dn<|bf<|bG.r<|aV.r ?_;obtain rfl:=O (F h);have Ma:=zD _ Y;subst Ma;refine aV.r<|bG.r<|aV.r<|aV.r ?_;obtain rfl:=O nu;exact R1 Y;refine cT<|sr<|ag Y<|dn<|bf<|aV.r<|bG.r<|aV.r ?_;obtain rfl:=O (V h);have Ma:=zD _ Y;subst Ma;refine aV.r<|bG.r<|aV.r<|aV.r ?_;obtain rfl:=O nu;exact R1 Y;subst DY
 try dsimp only
 refine aV.n<|sr<|ag Y<|dn<|bf ?_;obtain rfl:=O nu;exact R1 Y;refine cT<|qq<|sr<|mv Y<|lE (V h) λep gO h=>ln Y gO<|mv Y<|lE h λfE lN h=>ln Y lN<|lE h λeH iZ h=>ls _ Y Y iZ<|dn ?_;cases eH;refine fs<|sr<|ag Y<|dn<|bf<|aV.r ?_;obtain rfl:=O (F h);exact R1 Y;refine cT<|sr<|ag Y<|dn<|bf<|aV.r<|aV.r ?_;obtain rfl:=O (V h);exact R1 Y
theorem o5{x0:List Nat}{x1:List Nat}(N:Nat){r:List Nat}(h:eO x0 x1=some r):cK ah 194 N [slc 1 (List.map aY x0),slc 1 (List.map aY x1)] (nw N (slc 1 (List.map aY r))):=by
 refine bA Tryz.func194 Y (af Y) (λec M vs hN hvs=>?_);unfold eO at h;refine sr<|aI Y (bk (N:=N) (n:=1) (e:=aY))<|dn<|sr<|mv Y<|lE h λdZ gM h=>ln Y gM<|mv Y<|lE h λep gO h=>ln Y gO<|lE h λgh jJ h=>RT.max .none _ Y Y T (LL (p:=dZ) (q:=ep) jJ)<|lE h λfE lN h=>ad _ Y Y lN<|bE h λeH iZ h=>RT.C1 (e:=aY) .none Y Y T Y T iZ<|RT.alloc .none T Y Y<|RT.lY (cells:=[_]) .none Y Y Y Y T Y<|dn<|sr ?_;refine RT.AK .none (eP 0) Y ⟨Y,aq⟩ T Y Y<|RT.alloc .none T Y Y<|RT.qJ (cells:=[_]) .none (s:=.fV _ _) Y Y Y T Y<|dn<|qq<|sr<|mv Y<|mv Y<|cl (sE x0 x1) ⟨Y,Y,aq⟩<|dn<|bj<|bE h λe7 XA Pm=>?_;obtain⟨J2,XB,XC,XD⟩:=kE XA
 refine iy (sF x0 x1) (λ_ _ _ _ _=>trivial) Y (λk=>AS.cM 35 [(5,.ptr 5 0),(6,.ptr 6 0),(19,.sv (iT 214 [ref [slc 1 (List.map aY x0)],ref [slc 1 (List.map aY x1)]]))] [(6,⟨186,[.fV 202 [.box 16]]⟩),(16,⟨128,[.sv (.v (.int .u64 (((J2 k).1:Nat):Int)))]⟩),(5,⟨39,[.row 302]⟩)] [(302,TR 130 1 aY (J2 k).2)]) [6,16,5] Y (λ_=>⟨Y,Y⟩) (qN Y) (λ_=>Y) (qO Y) (by(try dsimp only);rw[XB];(try dsimp only);exact dM (λi=>bif Nat.beq i 302 then 15 else i) Y Y Y Y Y ⟨.ptr,.ptr,.sv au,aq⟩ ⟨⟨_,Y,⟨.fV,aq⟩⟩,⟨_,Y,⟨.sv au,aq⟩⟩,⟨_,Y,⟨.row Y,aq⟩⟩,aq⟩ ⟨⟨_,Y,cJ.refl _⟩,aq⟩ (λi hi=>by rw[cC (show i≠302 by omega)];rfl)) (λk hk D hD=>?_) ?_;have h:=XC k hk;obtain⟨sk,J3⟩:∃q,J2 k=q:=⟨_,Y⟩;rw[J3]at h⊢;obtain⟨wL,je⟩:=sk;dsimp only[AS.LC,rH]
 try dsimp only at h
 refine lE h λp20 Mb h=>?_;rw[Mb];refine lE h λp21 abo h=>?_;rw[abo];refine sr<|ag Y<|dn<|aW<|ag Y<|RT.done ?_;refine aV.n ⟨Y,?_⟩;dsimp only[AS.AN];refine bj<|bh mixed<|RT.fY .none (s:=.row _) Y Y Y T<|RT.fY .none (s:=.fV _ _) Y Y Y T<|mv Y<|mv Y<|lE h λnn uc h=>ad _ Y Y (UK.add (a:=p20) (b:=p21) uc) ?_;obtain⟨⟨lQ,k9⟩,rJ,h⟩:=bS h;refine cB (cj rJ) 16 Y ⟨Y,aq⟩<|bl (l:=[lQ]) (e:=aY) (.one Y (.nil)) Y Y Y Y Y Y<|bE h λiK nI h=>aR (k:=[lQ]) (e:=aY) Y Y Y nI<|RT.lY (cells:=[_]) .none Y Y Y Y T Y ?_;refine RT.done ⟨by kernel_rfl,?_⟩;refine bG.n ?_;replace h:=Option.some.inj h;refine⟨aq,Y,Y,?_⟩
 try dsimp only
 rw[<-h]
 try dsimp only
 exact dM (λi=>bif Nat.beq i 302 then 29 else i) Y Y Y Y Y ⟨.ptr,.ptr,.sv au,aq⟩ ⟨⟨_,Y,⟨.fV,aq⟩⟩,⟨_,Y,⟨.sv au,aq⟩⟩,⟨_,Y,⟨.row Y,aq⟩⟩,aq⟩ ⟨⟨_,Y,cJ.refl _⟩,aq⟩ (λi hi=>by rw[cC (show i≠302 by omega)];rfl);rw[XD];obtain⟨wL,je⟩:=e7
 try dsimp only
 refine bG.n<|aV.n<|qq<|bh mixed<|RT.fY .none (s:=.row _) Y Y Y T<|RT.fY .none (s:=.fV _ _) Y Y Y T ?_;obtain⟨⟨jX,k11⟩,pS,Pm⟩:=bS Pm;refine cB (cj pS) 16 Y ⟨Y,aq⟩<|bl (l:=[jX]) (e:=aY) (.one Y (.nil)) Y Y Y Y Y Y<|bE Pm λqQ wX Pm=>RT.W8 (k:=[jX]) (e:=aY) .none hN (λ_ h=>h) Y Y Y T Y T wX<|ag Y ?_;refine RT.done ⟨by kernel_rfl,?_⟩;refine aV.n<|bf ?_;obtain rfl:=O Pm;exact R1 Y
theorem kV{x0:List Nat}{x1:List Nat}(N:Nat){r:List Nat}(h:dj x0 x1=some r):cK ah 195 N [slc 1 (List.map aY x0),slc 1 (List.map aY x1)] (nw N (slc 1 (List.map aY r))):=by
 refine bA Tryz.func195 Y (af Y) (λec M vs hN hvs=>?_);unfold dj at h;refine sr<|aI Y (bk (N:=N) (n:=1) (e:=aY))<|dn<|sr<|mv Y<|lE h λdZ gM h=>ln Y gM<|bE h λiJ pJ h=>RT.C1 (e:=aY) .none Y Y T Y T pJ<|RT.alloc .none T Y Y<|RT.lY (cells:=[_]) .none Y Y Y Y T Y<|dn<|sr<|RT.AK .none (eP 1) Y ⟨Y,aq⟩ T Y Y<|RT.alloc .none T Y Y<|RT.qJ (cells:=[_]) .none (s:=.fV _ _) Y Y Y T Y<|dn<|qq<|sr<|mv Y ?_;refine mv Y<|cl (sE x0 x1) ⟨Y,Y,aq⟩<|dn<|bj<|bE h λe7 XA Pm=>?_;obtain⟨J2,XB,XC,XD⟩:=kE XA;refine iy (sF x0 x1) (λ_ _ _ _ _=>trivial) Y (λk=>AS.cM 28 [(5,.ptr 5 0),(6,.ptr 6 0),(15,.sv (iT 214 [ref [slc 1 (List.map aY x0)],ref [slc 1 (List.map aY x1)]]))] [(6,⟨186,[.fV 202 [.box 12]]⟩),(12,⟨128,[.sv (.v (.int .u64 (((J2 k).1:Nat):Int)))]⟩),(5,⟨39,[.row 302]⟩)] [(302,TR 130 1 aY (J2 k).2)]) [6,12,5] Y (λ_=>⟨Y,Y⟩) (qN Y) (λ_=>Y) (qO Y) (by(try dsimp only);rw[XB];(try dsimp only);exact dM (λi=>bif Nat.beq i 302 then 11 else i) Y Y Y Y Y ⟨.ptr,.ptr,.sv au,aq⟩ ⟨⟨_,Y,⟨.fV,aq⟩⟩,⟨_,Y,⟨.sv au,aq⟩⟩,⟨_,Y,⟨.row Y,aq⟩⟩,aq⟩ ⟨⟨_,Y,cJ.refl _⟩,aq⟩ (λi hi=>by rw[cC (show i≠302 by omega)];rfl)) (λk hk D hD=>?_) ?_;have h:=XC k hk;obtain⟨sk,J3⟩:∃q,J2 k=q:=⟨_,Y⟩;rw[J3]at h⊢;obtain⟨z7,je⟩:=sk;dsimp only[AS.LC,rH]
 try dsimp only at h
 refine lE h λp16 abp h=>?_;rw[abp];refine lE h λp17 abq h=>?_;rw[abq];refine sr<|ag Y<|dn<|aW<|ag Y<|RT.done ?_;refine aV.n ⟨Y,?_⟩;dsimp only[AS.AN];refine bj<|bh mixed<|RT.fY .none (s:=.row _) Y Y Y T<|RT.fY .none (s:=.fV _ _) Y Y Y T<|mv Y<|mv Y<|lE h λjH oR h=>sb _ Y Y (UK.sub (a:=4294967295) (b:=p17) oR)<|lE h λlP vB h=>ad _ Y Y (UK.add (a:=p16) (b:=jH) vB) ?_;obtain⟨⟨ik,k9⟩,nJ,h⟩:=bS h;refine cB (cj nJ) 12 Y ⟨Y,aq⟩<|bl (l:=[ik]) (e:=aY) (.one Y (.nil)) Y Y Y Y Y Y<|bE h λnn uc h=>aR (k:=[ik]) (e:=aY) Y Y Y uc<|RT.lY (cells:=[_]) .none Y Y Y Y T Y ?_;refine RT.done ⟨by kernel_rfl,?_⟩;refine bG.n ?_;replace h:=Option.some.inj h;refine⟨aq,Y,Y,?_⟩
 try dsimp only
 rw[<-h]
 try dsimp only
 exact dM (λi=>bif Nat.beq i 302 then 26 else i) Y Y Y Y Y ⟨.ptr,.ptr,.sv au,aq⟩ ⟨⟨_,Y,⟨.fV,aq⟩⟩,⟨_,Y,⟨.sv au,aq⟩⟩,⟨_,Y,⟨.row Y,aq⟩⟩,aq⟩ ⟨⟨_,Y,cJ.refl _⟩,aq⟩ (λi hi=>by rw[cC (show i≠302 by omega)];rfl);rw[XD];obtain⟨z7,je⟩:=e7
 try dsimp only
 refine bG.n<|aV.n<|sr<|RT.fY .none (s:=.row _) Y Y Y T<|an (s:=.row _) Y<|dn<|gP (i:=302) (E1:=130) (n:=1) (e:=aY) (l:=je) hN (λ_ h=>h) Y<|bf ?_;obtain rfl:=O Pm;exact R1 Y
theorem wY{x0:List Nat}{x1:List Nat}(N:Nat){r:List Nat}(h:fM x0 x1=some r):cK ah 164 N [slc 1 (List.map aY x0),slc 1 (List.map aY x1)] (nw N (slc 1 (List.map aY r))):=by
 refine bA Tryz.func164 Y (af Y) (λec M vs hN hvs=>?_);unfold fM at h;refine sr<|aI Y (bk (N:=N) (n:=1) (e:=aY))<|dn<|sr<|mv Y<|lE h λep gO h=>ln Y gO<|mv Y<|lE h λfE lN h=>ln Y lN<|lE h λeH iZ h=>ad _ Y Y iZ<|bE h λgN kL h=>RT.mM (n:=1) (e:=aY) .none Y Y T Y T (by rfl) (by decide) (by exact⟨au,aq⟩) kL<|an (s:=.row _) Y<|dn<|qq<|sr<|mv Y<|lE h λfC jY h=>ln Y jY ?_;refine mv Y<|dn<|bE h λe28 abr abt=>?_;refine bT (λ(vw:(List Nat))=>AS.cM 63 [(5,.row 16)] [] [(16,TR 130 1 aY vw)]) (λvw=>vw=e28) ?_ (λvw abu=>?_);refine bj ?_;refine bU abr (λV4=>AS.cM 63 [(1,.sv (slc 1 (List.map aY x1))),(5,.row 16),(17,.sv (slc 1 (List.map aY x0))),(18,ai fC),(19,ai V4.1)] [] [(16,TR 130 1 aY V4.2)]) (wR []) (λV4 y28 G28 h abv abw=>?_);obtain⟨n9,DQ⟩:=V4
 try dsimp only
 refine sr<|lE h λiU pK h=>ls _ Y Y pK<|dn<|qq ?_;cases iU;refine cF<|cc<|aV.x<|aV.x<|bG.x<|aV.n ?_;obtain rfl:=O (F h);exact⟨DQ,abw _ Y,wR []⟩;refine cT<|bB<|aV.n<|qq<|bj<|sr<|mv Y<|bE (V h) λjH oR h=>ix Y Y oR<|lr Y Y<|ag Y<|ag Y<|dn<|sr<|RT.AK .none (eP 0) Y ⟨Y,aq⟩ T Y Y<|an (s:=.fV _ _) Y<|dn<|qq<|sr<|mv Y<|lE h λnn uc h=>ln Y uc<|mv Y<|dn<|bE h λW9 TE gD=>?_;refine bT (λ(J4:Nat×(List Nat))=>AS.cM 63 [(1,.sv (slc 1 (List.map aY x1))),(5,.row 16),(6,ai n9),(8,.fV 202 [.box 24]),(17,.sv (slc 1 (List.map aY x0))),(18,ai fC),(19,ai n9)] [(24,⟨128,[.sv (.v (.int .u64 ((J4.1:Nat):Int)))]⟩)] [(16,TR 130 1 aY J4.2)]) (λJ4=>J4=W9) ?_ (λJ4 TF=>?_);refine bj ?_;refine bU TE (λIY=>AS.cM 63 [(1,.sv (slc 1 (List.map aY x1))),(5,.row 16),(6,ai n9),(7,.sv (.v (.int .u32 ((jH:Nat):Int)))),(8,.fV 202 [.box 24]),(17,.sv (slc 1 (List.map aY x0))),(18,ai fC),(19,ai n9),(25,.sv (slc 1 (List.map aY x1))),(26,ai nn),(27,ai IY.1)] [(24,⟨128,[.sv (.v (.int .u64 ((IY.2.1:Nat):Int)))]⟩)] [(16,TR 130 1 aY IY.2.2)]) (wR []) (λIY y38 G38 h TG TH=>?_);obtain⟨xZ,wM,vr⟩:=IY
 try dsimp only
 refine sr<|lE h λnq vC h=>ls _ Y Y vC<|dn<|qq ?_;cases nq;refine cF<|cc<|aV.x<|aV.x<|bG.x<|aV.n ?_;obtain rfl:=O (F h);exact⟨(wM,vr),TH _ Y,wR []⟩;refine cT<|bB<|aV.n<|qq<|bj<|sr<|mv Y<|bE (V h) λz8 D0 h=>ix Y Y D0<|lr Y Y<|ag Y<|ag Y<|dn<|aW<|mo (s:=.row _) Y<|mv Y<|mv Y<|lE h λrR A6 h=>ad _ Y Y A6<|mo (s:=.fV _ _) Y<|mo (s:=.row _) Y<|mv Y<|mv Y<|lE h λmO rS h=>ad _ Y Y rS<|bE h λuM FH h=>iR Y Y Y FH ?_;refine bE h λsy D1 h=>lR Y Y D1 Y<|lE h λvu EU h=>cv _ Y (UK.nat EU)<|mv Y<|lE h λDR Mc h=>cv _ Y (UK.nat Mc)<|mv Y<|lE h λvv A7 h=>cv _ Y (UK.nat A7)<|lE h λux h48 h=>RT.mul .none _ Y Y T (UK.mul (a:=DR) (b:=vv) h48)<|lE h λOB TI h=>ad _ Y Y (UK.add (a:=vu) (b:=ux) TI) ?_;obtain⟨⟨wN,k41⟩,HN,h⟩:=bS h;refine cB (cj HN) 24 Y ⟨Y,aq⟩<|bE h λCr HO h=>iR Y Y Y HO<|bE h λQH Md h=>sR wN Y Y Y Y Md<|RT.done<|bG.n<|aV.n<|aW<|lE h λya D2 h=>ad _ Y Y D2<|mv Y<|RT.done ?_;obtain rfl:=O h;exact aV.n ⟨(ya,k41,QH),TG _ Y,wR []⟩;subst TF;obtain⟨Fu,HE⟩:=J4
 try dsimp only
 refine aV.n<|aW<|mo (s:=.row _) Y<|mv Y<|mv Y<|lE gD λET Me gD=>ln Y Me<|lE gD λPe XE gD=>ad _ Y Y XE<|mo (s:=.fV _ _) Y ?_;obtain⟨⟨JU,k45⟩,TJ,gD⟩:=bS gD;refine cB (cj TJ) 24 Y ⟨Y,aq⟩<|bE gD λKR Mf gD=>iR Y Y Y Mf<|bE gD λl46 XF gD=>sR JU Y Y Y Y XF<|RT.done<|bG.n<|aV.n<|aW<|lE gD λHF TK gD=>ad _ Y Y TK<|mv Y<|RT.done ?_;obtain rfl:=O gD;exact aV.n ⟨(HF,l46),abv _ Y,wR []⟩;subst abu
 try dsimp only
 refine aV.n<|sr<|mo (s:=.row _) Y<|an (s:=.row _) Y<|dn<|gP (i:=16) (E1:=130) (n:=1) (e:=aY) (l:=vw) hN (λ_ h=>h) Y<|bf ?_;obtain rfl:=O abt;exact R1 Y
end
section
open Go.Fw Go.Fw.Z Go.RowKit
theorem wZ{x0:List Nat}{x1:Nat}{r:Nat×List Nat}(h:gZ x0 x1=some r):Hx ah 204 [.row 1000,.sv (.v (.int .u64 ((x1:Nat):Int)))] (TR 130 1 aY x0) (.sv (.v (.int .u64 ((r.1:Nat):Int)))) (List.flatMap aY r.2):=by
 refine vi Tryz.func204 Y (af Y) Y Y (λec M v0=>?_);unfold gZ at h;refine sr<|ag Y<|dn<|sr<|ag Y<|dn<|qq<|sr<|mo (s:=.row _) Y<|lE h λx9 h9 h=>lL Y Y h9<|lE h λdZ gM h=>sb _ Y Y gM<|ag Y<|dn<|bE h λe8 Cu vD=>?_;refine bT (λ(Db:Nat×(List Nat))=>AS.cM 34 [(5,.sv (.v (.int .u64 ((Db.1:Nat):Int))))] [] [(1000,TR 130 1 aY Db.2)]) (λDb=>Db=e8) ?_ (λDb Cv=>?_);refine bj ?_;refine bU Cu (λs8=>AS.cM 34 [(0,.row 1000),(1,.sv (.v (.int .u64 ((x1:Nat):Int)))),(5,.sv (.v (.int .u64 ((s8.1:Nat):Int)))),(6,ai s8.2.1)] [] [(1000,TR 130 1 aY s8.2.2)]) (wR []) (λs8 y8 G8 h Cw Cx=>?_);obtain⟨LU,LV,qR⟩:=s8
 try dsimp only
 refine qq<|sr<|mv Y<|lE h λep gO h=>ge _ Y Y gO<|dn ?_;cases ep;refine cF<|cc<|aV.x<|aV.x<|bG.x<|aV.n ?_;obtain rfl:=O (F h);exact⟨(LU,qR),Cx _ Y,wR []⟩;refine cT<|bB<|aV.n<|qq<|bj<|sr<|mv Y<|lE (V h) λgN kL h=>RT.shl .none _ Y Y T (by decide) (UK.shl (a:=LU) (q:=32) (s:=32) Y kL)<|mo (s:=.row _) Y<|mv Y<|bE h λmN oa h=>iR Y Y Y oa<|bE h λiU pK h=>lR Y Y pK Y<|lE h λiE qb h=>cv _ Y (UK.nat qb)<|lE h λjH oR h=>RT.or .none _ Y Y T (UK.or (a:=gN) (b:=iE) oR)<|ag Y<|dn<|sr<|mo (s:=.row _) Y ?_;refine mv Y<|mv Y<|mv Y<|bE h λlQ rJ h=>RT.quo .none _ Y Y T (nzU rJ) (UK.quo rJ)<|lE h λnq vC h=>cv _ Y (UK.nat vC)<|bE h λiK nI h=>iR Y Y Y nI<|bE h λrP mU h=>sR nq Y Y Y Y mU<|dn<|aW<|mv Y<|mv Y<|bE h λjX pS h=>RT.rem .none _ Y Y T (ZE pS) (O0 pS)<|ag Y<|RT.done<|bG.n<|aV.n<|aW<|mv Y<|lE h λfE lN h=>sb _ Y Y lN ?_;refine ag Y<|RT.done ?_;obtain rfl:=O h;exact aV.n ⟨(jX,fE,rP),Cw _ Y,wR []⟩;subst Cv;obtain⟨Xa,z9⟩:=Db
 try dsimp only
 refine aV.n<|sr<|mv Y<|ag Y<|dn<|bf<|bE vD λ_ hle vD=>?_;obtain rfl:=O vD;exact⟨.inr Y,.sv (gj (.tmp Y (.nil)) au),(by show _=kK.live ⟨130,1,x0.length,List.flatMap aY z9⟩;rw[<-l8 hle];rfl)⟩
theorem vE{x0:List Nat}{x1:Nat}{r:List Nat}(h:fy x0 x1=some r):Pure ah 211 [slc 1 (List.map aY x0),.v (.int .u64 ((x1:Nat):Int))] (slc 1 (List.map aY r)):=by
 refine bz Tryz.func211 Y (af Y) (λec M vs hvs=>?_);unfold fy at h;refine sr<|aI Y (aB (n:=1) (e:=aY))<|dn<|sr<|RT.AK .none (eP 0) Y ⟨Y,aq⟩ T Y Y<|an (s:=.fV _ _) Y<|dn<|sr<|mv Y<|lE h λiJ pJ h=>ln Y pJ<|lE h λep gO h=>ad _ Y Y gO<|bE h λgh jJ h=>RT.C1 (e:=aY) .none Y Y T Y T jJ<|an (s:=.row _) Y<|dn<|qq<|sr<|mv Y<|lE h λeH iZ h=>ln Y iZ ?_;refine mv Y<|dn<|bE h λe8 Cu vD=>?_;refine bT (λ(Db:Nat×(List Nat))=>AS.cM 35 [(5,.fV 202 [.box 9]),(6,.row 302)] [(9,⟨128,[.sv (.v (.int .u64 ((Db.1:Nat):Int)))]⟩)] [(302,TR 130 1 aY Db.2)]) (λDb=>Db=e8) ?_ (λDb Cv=>?_);refine bj ?_;refine bU Cu (λs8=>AS.cM 35 [(1,.sv (.v (.int .u64 ((x1:Nat):Int)))),(5,.fV 202 [.box 9]),(6,.row 302),(14,.sv (slc 1 (List.map aY x0))),(15,ai eH),(16,ai s8.1)] [(9,⟨128,[.sv (.v (.int .u64 ((s8.2.1:Nat):Int)))]⟩)] [(302,TR 130 1 aY s8.2.2)]) (dM (λi=>bif Nat.beq i 302 then 13 else i) Y Y Y Y Y ⟨.sv au,.fV,.row Y,.sv au,.sv au,.sv au,aq⟩ ⟨⟨_,Y,⟨.sv au,aq⟩⟩,aq⟩ ⟨⟨_,Y,cJ.refl _⟩,aq⟩ (λi hi=>by rw[cC (show i≠302 by omega)];rfl)) (λs8 y8 G8 h Cw Cx=>?_);obtain⟨wO,qS,je⟩:=s8
 try dsimp only
 refine sr<|lE h λfJ kU h=>ls _ Y Y kU<|dn<|qq ?_;cases fJ;refine cF<|cc<|aV.x<|aV.x<|bG.x<|aV.n ?_;obtain rfl:=O (F h);exact⟨(qS,je),Cx _ Y,wR []⟩;refine cT<|bB<|aV.n<|qq<|bj<|sr<|bE (V h) λfC jY h=>ix Y Y jY<|lr Y Y<|ag Y<|dn<|aW<|mo (s:=.row _) Y<|mo (s:=.fV _ _) Y<|mv Y<|lE h λlP vB h=>cv _ Y (UK.nat vB)<|mv Y<|lE h λyY yh h=>RT.shl .none _ Y Y T (Int.natCast_nonneg _) (UK.shl (a:=lP) (q:=((x1:Nat):Int)) (s:=min x1 64) Y yh) ?_;obtain⟨⟨nn,To⟩,uc,h⟩:=bS h;refine cB (cj uc) 9 Y ⟨Y,aq⟩<|bl (l:=[nn]) (e:=aY) (.one Y (.nil)) Y Y Y Y Y Y<|bE h λnq vC h=>aR (k:=[nn]) (e:=aY) Y Y Y vC<|an (s:=.row _) Y<|RT.done<|bG.n<|aV.n<|aW<|lE h λiK nI h=>ad _ Y Y nI<|mv Y<|RT.done ?_;obtain rfl:=O h;exact aV.n ⟨(iK,To,nq),Cw _ Y,dM (λi=>bif Nat.beq i 302 then 28 else i) Y Y Y Y Y ⟨.sv au,.fV,.row Y,.sv au,.sv au,.sv au,aq⟩ ⟨⟨_,Y,⟨.sv au,aq⟩⟩,aq⟩ ⟨⟨_,Y,cJ.refl _⟩,aq⟩ (λi hi=>by rw[cC (show i≠302 by omega)];rfl)⟩;subst Cv;obtain⟨AX,LW⟩:=Db
 try dsimp only
 refine aV.n<|sr<|mo (s:=.row _) Y<|mo (s:=.fV _ _) Y ?_;obtain⟨⟨jX,k12⟩,pS,vD⟩:=bS vD;refine cB (cj pS) 9 Y ⟨Y,aq⟩<|bl (l:=[jX]) (e:=aY) (.one Y (.nil)) Y Y Y Y Y Y<|bE vD λqQ wX vD=>RT.Th (k:=[jX]) (e:=aY) .none Y Y Y T Y T wX<|ag Y<|dn<|bf ?_;obtain rfl:=O vD;exact R1 Y
theorem uy{x0:List Nat}{x1:Nat}{r:List Nat}(h:iz x0 x1=some r):DH ah 211 [slc 1 (List.map aY x0),.v (.int .u64 ((x1:Nat):Int))] (TR 130 1 aY r):=by
 refine nZ Tryz.func211 Y (af Y) (λec M vs hvs=>?_);unfold iz at h;refine sr<|ag Y<|dn<|cz (jd 4 304 130 1 Y Y T)<|sr<|RT.AK .none (eP 0) Y ⟨Y,aq⟩ T Y Y<|an (s:=.fV _ _) Y<|dn<|sr<|mv Y<|lE h λiJ pJ h=>ln Y pJ<|lE h λep gO h=>ad _ Y Y gO<|bE h λgh jJ h=>RT.C1 (e:=aY) .none Y Y T Y T jJ<|an (s:=.row _) Y<|dn<|qq<|sr<|mv Y<|lE h λeH iZ h=>ln Y iZ ?_;refine mv Y<|dn<|bE h λe8 Cu vD=>?_;refine bT (λ(Db:Nat×(List Nat))=>AS.cM 35 [(5,.fV 202 [.box 9]),(6,.row 306)] [(9,⟨128,[.sv (.v (.int .u64 ((Db.1:Nat):Int)))]⟩)] [(306,TR 130 1 aY Db.2)]) (λDb=>Db=e8) ?_ (λDb Cv=>?_);refine bj ?_;refine bU Cu (λs8=>AS.cM 35 [(1,.sv (.v (.int .u64 ((x1:Nat):Int)))),(5,.fV 202 [.box 9]),(6,.row 306),(14,.sv (slc 1 (List.map aY x0))),(15,ai eH),(16,ai s8.1)] [(9,⟨128,[.sv (.v (.int .u64 ((s8.2.1:Nat):Int)))]⟩)] [(306,TR 130 1 aY s8.2.2)]) (dM (λi=>bif Nat.beq i 306 then 13 else i) Y Y Y Y Y ⟨.sv au,.fV,.row Y,.sv au,.sv au,.sv au,aq⟩ ⟨⟨_,Y,⟨.sv au,aq⟩⟩,aq⟩ ⟨⟨_,Y,cJ.refl _⟩,aq⟩ (λi hi=>by rw[cC (show i≠306 by omega)];rfl)) (λs8 y8 G8 h Cw Cx=>?_);obtain⟨wO,qS,DS⟩:=s8
 try dsimp only
 refine sr<|lE h λfJ kU h=>ls _ Y Y kU<|dn<|qq ?_;cases fJ;refine cF<|cc<|aV.x<|aV.x<|bG.x<|aV.n ?_;obtain rfl:=O (F h);exact⟨(qS,DS),Cx _ Y,wR []⟩;refine cT<|bB<|aV.n<|qq<|bj<|sr<|bE (V h) λfC jY h=>ix Y Y jY<|lr Y Y<|ag Y<|dn<|aW<|mo (s:=.row _) Y<|mo (s:=.fV _ _) Y<|mv Y<|lE h λlP vB h=>cv _ Y (UK.nat vB)<|mv Y<|lE h λyY yh h=>RT.shl .none _ Y Y T (Int.natCast_nonneg _) (UK.shl (a:=lP) (q:=((x1:Nat):Int)) (s:=min x1 64) Y yh) ?_;obtain⟨⟨nn,To⟩,uc,h⟩:=bS h;refine cB (cj uc) 9 Y ⟨Y,aq⟩<|bl (l:=[nn]) (e:=aY) (.one Y (.nil)) Y Y Y Y Y Y<|bE h λnq vC h=>aR (k:=[nn]) (e:=aY) Y Y Y vC<|an (s:=.row _) Y<|RT.done<|bG.n<|aV.n<|aW<|lE h λiK nI h=>ad _ Y Y nI<|mv Y<|RT.done ?_;obtain rfl:=O h;exact aV.n ⟨(iK,To,nq),Cw _ Y,dM (λi=>bif Nat.beq i 306 then 28 else i) Y Y Y Y Y ⟨.sv au,.fV,.row Y,.sv au,.sv au,.sv au,aq⟩ ⟨⟨_,Y,⟨.sv au,aq⟩⟩,aq⟩ ⟨⟨_,Y,cJ.refl _⟩,aq⟩ (λi hi=>by rw[cC (show i≠306 by omega)];rfl)⟩;subst Cv;obtain⟨AX,LX⟩:=Db
 try dsimp only
 refine aV.n<|sr<|mo (s:=.row _) Y<|mo (s:=.fV _ _) Y ?_;obtain⟨⟨jX,k12⟩,pS,vD⟩:=bS vD;refine cB (cj pS) 9 Y ⟨Y,aq⟩<|bl (l:=[jX]) (e:=aY) (.one Y (.nil)) Y Y Y Y Y Y<|bE vD λqQ wX vD=>aR (k:=[jX]) (e:=aY) Y Y Y wX<|an (s:=.row _) Y<|dn<|bf ?_;obtain rfl:=O vD;exact⟨.inr Y,_,.tmp Y,Y⟩
theorem vF{x0:Nat}{r:Int}(h:gu x0=some r):Pure ah 215 [.v (.int .u32 ((x0:Nat):Int))] (ay r):=by
 refine bz Tryz.func215 Y (af Y) (λec M vs hvs=>?_);unfold gu at h;refine sr<|ag Y<|dn<|qq<|sr<|mv Y<|lE h λx4 h4 h=>ge _ Y Y (leN (p:=65536) (q:=x0) h4)<|dn ?_;refine bK h (λj2=>AS.cM 19 [(0,.sv (.v (.int .u32 ((j2.1:Nat):Int)))),(2,ai j2.2)] [] []) (λh=>?_) (λj2 h=>?_);cases x4;exact fs<|⟨(x0,0),(F h),wR []⟩;exact cT<|sr<|mv Y<|lE (V h) λx6 h6 h=>RT.shr .none _ Y Y T (by decide) (DL (k:=.u32) (a:=x0) (q:=16) (s:=16) Y h6)<|ag Y<|dn<|aW<|ag Y<|dn<|⟨(x6,16),h,wR []⟩;obtain⟨HG,Pf⟩:=j2
 try dsimp only
 refine aV.n<|qq<|sr<|mv Y<|lE h λx8 h8 h=>ge _ Y Y (leN (p:=256) (q:=HG) h8)<|dn ?_;refine bK h (λj4=>AS.cM 19 [(0,.sv (.v (.int .u32 ((j4.1:Nat):Int)))),(2,ai j4.2)] [] []) (λh=>?_) (λj4 h=>?_);cases x8;exact fs<|⟨(HG,Pf),(F h),wR []⟩;exact cT<|sr<|mv Y<|lE (V h) λdZ gM h=>RT.shr .none _ Y Y T (by decide) (DL (k:=.u32) (a:=HG) (q:=8) (s:=8) Y gM)<|ag Y<|dn<|aW<|mv Y<|lE h λep gO h=>ad _ Y Y gO<|ag Y<|dn<|⟨(dZ,ep),h,wR []⟩;obtain⟨Xb,Xc⟩:=j4
 try dsimp only
 refine aV.n<|sr<|mv Y<|mv Y<|lE h λeH iZ h=>cv _ Y (UK.nat iZ)<|bE h λgN kL h=>?_;refine RT.six (l:=[0,1,2,2,3,3,3,3,4,4,4,4,4,4,4,4,5,5,5,5,5,5,5,5,5,5,5,5,5,5,5,5,6,6,6,6,6,6,6,6,6,6,6,6,6,6,6,6,6,6,6,6,6,6,6,6,6,6,6,6,6,6,6,6,7,7,7,7,7,7,7,7,7,7,7,7,7,7,7,7,7,7,7,7,7,7,7,7,7,7,7,7,7,7,7,7,7,7,7,7,7,7,7,7,7,7,7,7,7,7,7,7,7,7,7,7,7,7,7,7,7,7,7,7,7,7,7,7,8,8,8,8,8,8,8,8,8,8,8,8,8,8,8,8,8,8,8,8,8,8,8,8,8,8,8,8,8,8,8,8,8,8,8,8,8,8,8,8,8,8,8,8,8,8,8,8,8,8,8,8,8,8,8,8,8,8,8,8,8,8,8,8,8,8,8,8,8,8,8,8,8,8,8,8,8,8,8,8,8,8,8,8,8,8,8,8,8,8,8,8,8,8,8,8,8,8,8,8,8,8,8,8,8,8,8,8,8,8,8,8,8,8,8,8,8,8,8,8,8,8,8,8,8,8,8,8]) .none Y Y T kL ?_;refine lE h λfJ kU h=>cv _ Y kU<|lE h λfC jY h=>ad _ Y Y jY<|ag Y<|dn<|bf ?_;obtain rfl:=O h;exact R1 Y
theorem nN{x0:Nat}{r:Int}(h:dG x0=some r):Pure ah 210 [.v (.int .u32 ((x0:Nat):Int))] (ay r):=by
 refine bz Tryz.func210 Y (af Y) (λec M vs hvs=>?_);unfold dG at h;refine sr<|ag Y<|dn<|sr<|mv Y<|bE h λx4 h4 h=>cl (vF h4) ⟨Y,aq⟩<|lE h λx5 h5 h=>sb _ Y Y h5<|ag Y<|dn<|bf ?_;obtain rfl:=O h;exact R1 Y
theorem w5{x0:List Nat}{o0:Nat}{n0:Nat}{x1:List Nat}{r:Nat×List Nat}(h:g9 x0 o0 n0 x1=some r):Hx ah 212 [.nC 1000 (o0*1) n0,.sv (slc 1 (List.map aY x1))] (TR 130 1 aY x0) (.sv (.v (.int .u64 ((r.1:Nat):Int)))) (List.flatMap aY r.2):=by
 refine vi Tryz.func212 Y (af Y) Y Y (λec M v0=>?_);unfold g9 at h;refine sr<|ag Y<|dn<|sr<|mv Y<|lE h λep gO h=>ln Y gO<|ag Y<|dn<|qq<|bh mixed<|mo (s:=.nC _ _ _) Y<|mv Y<|bE h λeH iZ h=>RT.Fo .none Y Y T iZ<|bE h λgN kL h=>lR Y Y kL Y<|lE h λfJ kU h=>cv _ Y (UK.nat kU)<|lE h λfC jY h=>RT.shl .none _ Y Y T (by decide) (UK.shl (a:=fJ) (q:=32) (s:=32) Y jY)<|mo (s:=.nC _ _ _) Y ?_;refine mv Y<|lE h λiE qb h=>sb _ Y Y qb<|bE h λjH oR h=>RT.Fo .none Y Y T oR<|bE h λlP vB h=>lR Y Y vB Y<|lE h λik nJ h=>cv _ Y (UK.nat nJ)<|lE h λyY yh h=>RT.or .none _ Y Y T (UK.or (a:=fC) (b:=ik) yh)<|ag Y ?_;refine RT.done ⟨by kernel_rfl,?_⟩;refine aV.n<|qq<|bh mixed<|mv Y<|mv Y<|lE h λnq vC h=>sb _ Y Y vC<|bE h λiK nI h=>ix Y Y nI<|lr Y Y<|lE h λtX Da h=>cv _ Y (UK.nat Da)<|mv Y<|mv Y<|lE h λqQ wX h=>sb _ Y Y wX<|bE h λrR A6 h=>ix Y Y A6<|lr Y Y<|lE h λuN D3 h=>cv _ Y (UK.nat D3)<|ag Y<|ag Y ?_;refine RT.done ⟨by kernel_rfl,?_⟩;refine aV.n<|qq<|bh mixed<|mv Y<|mv Y<|bE h λmO rS h=>RT.quo .none _ Y Y T (nzU rS) (UK.quo rS)<|mv Y<|mv Y<|bE h λvu EU h=>RT.rem .none _ Y Y T (ZE EU) (O0 EU)<|ag Y<|ag Y ?_;refine RT.done ⟨by kernel_rfl,?_⟩;refine aV.n<|qq<|bE h λJZ A3 wW=>?_
 refine bT (λ(JV:Nat)=>AS.cM 71 [(9,.sv (.v (.int .u64 ((JV:Nat):Int))))] [] [(1000,TR 130 1 aY x0)]) (λJV=>JV=JZ) ?_ (λJV A4=>?_);refine bj ?_;refine bU A3 (λyZ=>AS.cM 71 [(0,.nC 1000 (o0*1) n0),(5,ai ep),(7,.sv (.v (.int .u64 ((tX:Nat):Int)))),(8,.sv (.v (.int .u64 ((uN:Nat):Int)))),(9,.sv (.v (.int .u64 ((yZ.1:Nat):Int)))),(10,.sv (.v (.int .u64 ((yZ.2:Nat):Int))))] [] [(1000,TR 130 1 aY x0)]) (wR []) (λyZ Xy Xz h A5 yg=>?_);obtain⟨Cs,C6⟩:=yZ
 try dsimp only
 refine qq<|qq ?_;refine bK h (λJ0=>AS.cM 71 [(0,.nC 1000 (o0*1) n0),(5,ai ep),(7,.sv (.v (.int .u64 ((tX:Nat):Int)))),(8,.sv (.v (.int .u64 ((uN:Nat):Int)))),(9,.sv (.v (.int .u64 ((Cs:Nat):Int)))),(10,.sv (.v (.int .u64 ((C6:Nat):Int)))),(61,aj J0)] [] [(1000,TR 130 1 aY x0)]) (λh=>?_) (λHH h=>?_);refine aW<|mv Y<|lE h λDR Mc h=>RT.shr .none _ Y Y T (by decide) (DL (k:=.u64) (a:=Cs) (q:=32) (s:=32) Y Mc)<|lE h λwj h46 h=>ne _ Y Y (ZC (p:=DR) (q:=0) h46)<|mv Y<|bE h λLZ eI h=>?_;cases wj;refine gm Y<|gm Y<|lE (F eI) λwN HN eI=>RT.mul (.some Y Y) _ Y Y T (UK.mul (a:=Cs) (b:=uN) HN)<|gm Y<|lE eI λya D2 eI=>RT.shl (.some Y Y) _ Y Y T (by decide) (UK.shl (a:=C6) (q:=32) (s:=32) Y D2)<|RT.move (.some Y Y) (s:=.nC _ _ _) Y T<|gm Y<|lE eI λzC J5 eI=>RT.sub (.some Y Y) _ Y Y T J5<|bE eI λET Me eI=>RT.Fo (.some Y Y) Y Y T Me<|bE eI λPe XE eI=>RT.WV (.some Y Y) Y Y XE Y T ?_;refine lE eI λx58 h58 eI=>RT.conv (.some Y Y) _ Y T (UK.nat h58)<|lE eI λJU TJ eI=>RT.or (.some Y Y) _ Y Y T (UK.or (a:=ya) (b:=x58) TJ)<|lE eI λKR Mf eI=>gg _ Y Y (ZD (p:=JU) (q:=wN) Mf) ?_;obtain rfl:=O eI;exact pF Y<|dn<|⟨KR,h,wR []⟩;obtain rfl:=O (V eI)
 exact ww<|ww<|ww<|ww<|ww<|ww<|ww<|ww<|ww<|ww<|ww<|ww<|ww<|pT Y<|dn<|⟨true,h,wR []⟩
 try dsimp only
 refine aV.n ?_;cases HH;refine cF<|cc<|aV.x<|aV.x<|bG.x<|aV.n ?_;obtain rfl:=O (F h);exact⟨Cs,yg _ Y,wR []⟩;refine cT<|bB<|aV.n<|bj<|sr<|mv Y<|lE (V h) λTp h63 h=>sb _ Y Y (UK.sub (a:=Cs) (b:=1) h63)<|ag Y<|dn<|sr<|mv Y<|mv Y<|lE h λKS XG h=>ad _ Y Y (UK.add (a:=C6) (b:=tX) XG)<|ag Y<|dn<|sr<|mv Y<|lE h λKT XH h=>RT.shr .none _ Y Y T (by decide) (DL (k:=.u64) (a:=KS) (q:=32) (s:=32) Y XH)<|lE h λLY XI h=>ne _ Y Y (ZC (p:=KT) (q:=0) XI) ?_;refine dn ?_;cases LY;refine cF<|bB<|bG.n ?_;obtain rfl:=O (F h);exact aV.n ⟨(Tp,KS),A5 _ Y,wR []⟩;refine cT<|cc<|bG.y (by decide)<|aV.x<|bG.x<|aV.n ?_;obtain rfl:=O (V h);exact⟨Tp,yg _ Y,wR []⟩;subst A4
 try dsimp only
 refine aV.n<|sr<|mv Y<|ag Y<|dn<|bf<|bE wW λ_ hle wW=>?_;obtain rfl:=O wW;exact⟨.inr Y,.sv (gj (.tmp Y (.nil)) au),(by show _=kK.live ⟨130,1,x0.length,List.flatMap aY x0⟩;rw[<-l8 hle];rfl)⟩
theorem oS{x0:List Nat}{o0:Nat}{n0:Nat}{x1:List Nat}{x2:Nat}{r:Bool×List Nat}(h:dm x0 o0 n0 x1 x2=some r):Hx ah 213 [.nC 1000 (o0*1) n0,.sv (slc 1 (List.map aY x1)),.sv (.v (.int .u64 ((x2:Nat):Int)))] (TR 130 1 aY x0) (aj r.1) (List.flatMap aY r.2):=by
 refine vi Tryz.func213 Y (af Y) Y Y (λec M v0=>?_);unfold dm at h;refine sr<|ag Y<|dn<|sr<|ag Y<|dn<|sr<|RT.AK .none (eP 0) Y ⟨Y,aq⟩ T Y Y<|an (s:=.fV _ _) Y<|dn<|qq<|sr<|mo (s:=.nC _ _ _) Y<|lE h λfE lN h=>RT.Tm .none Y T lN<|mv Y<|dn<|bE h λPg HP oT=>?_;refine bT (λ(yj:Nat×(List Nat))=>AS.cM 51 [(7,.sv (.v (.int .u64 ((yj.1:Nat):Int))))] [] [(1000,TR 130 1 aY yj.2)]) (λyj=>yj=Pg) ?_ (λyj Mg=>?_);refine bj ?_;refine bU HP (λAa=>AS.cM 51 [(0,.nC 1000 (o0*1) n0),(1,.sv (slc 1 (List.map aY x1))),(2,.sv (.v (.int .u64 ((x2:Nat):Int)))),(7,.sv (.v (.int .u64 ((Aa.1:Nat):Int)))),(8,.fV 202 [.box 12]),(14,ai fE),(15,ai Aa.2.1)] [(12,⟨128,[.sv (.v (.int .u64 ((Aa.2.2.1:Nat):Int)))]⟩)] [(1000,TR 130 1 aY Aa.2.2.2)]) (wR []) (λAa y12 G12 h Mh Mi=>?_);obtain⟨JW,wP,DT,tY⟩:=Aa
 try dsimp only
 refine sr<|lE h λgN kL h=>ls _ Y Y kL<|dn<|qq ?_;cases gN;refine cF<|cc<|aV.x<|aV.x<|bG.x<|aV.n ?_;obtain rfl:=O (F h);exact⟨(JW,tY),Mi _ Y,wR []⟩;refine cT<|bB<|aV.n<|qq<|bj<|sr<|mv Y<|ag Y<|dn<|sr<|ag Y<|dn<|qq<|sr<|mv Y<|mv Y<|lE (V h) λiU pK h=>ln Y pK<|lE h λiE qb h=>ls _ Y Y qb<|dn ?_;refine bK h (λj14=>AS.cM 51 [(0,.nC 1000 (o0*1) n0),(1,.sv (slc 1 (List.map aY x1))),(2,.sv (.v (.int .u64 ((x2:Nat):Int)))),(7,.sv (.v (.int .u64 ((JW:Nat):Int)))),(8,.fV 202 [.box 12]),(9,ai wP),(10,.sv (.v (.int .u64 ((j14:Nat):Int)))),(14,ai fE),(15,ai wP)] [(12,⟨128,[.sv (.v (.int .u64 ((DT:Nat):Int)))]⟩)] [(1000,TR 130 1 aY tY)]) (λh=>?_) (λL0 h=>?_);cases iE;exact fs<|⟨0,(F h),wR []⟩;exact cT<|aW<|mv Y<|mv Y<|bE (V h) λik nJ h=>ix Y Y nJ<|lr Y Y<|lE h λnn uc h=>cv _ Y (UK.nat uc)<|mv Y<|lE h λnq vC h=>RT.mul .none _ Y Y T (UK.mul (a:=nn) (b:=x2) vC)<|ag Y<|dn<|⟨nq,h,wR []⟩
 try dsimp only
 refine aV.n<|qq<|bh mixed<|mo (s:=.nC _ _ _) Y<|mv Y<|bE h λtX Da h=>RT.Fo .none Y Y T Da<|bE h λjX pS h=>lR Y Y pS Y<|lE h λtZ Ab h=>cv _ Y (UK.nat Ab)<|mo (s:=.fV _ _) Y<|mv Y ?_;obtain⟨⟨pR,k16⟩,w6,h⟩:=bS h;refine cB (cj w6) 12 Y ⟨Y,aq⟩<|lE h λuN D3 h=>cv _ Y (UK.nat D3)<|lE h λCe J1 h=>sb _ Y Y (UK.sub (a:=tZ) (b:=uN) J1)<|mv Y<|lE h λmO rS h=>sb _ Y Y (UK.sub (a:=Ce) (b:=JW) rS)<|ag Y ?_;refine RT.done ⟨by kernel_rfl,?_⟩;refine aV.n<|sr<|mo (s:=.nC _ _ _) Y<|mv Y<|mv Y<|lE h λwQ D4 h=>cv _ Y (UK.nat D4)<|bE h λDR Mc h=>RT.Fo .none Y Y T Mc<|bE h λl18 XJ h=>sR wQ Y Y Y Y XJ<|dn<|aW<|mv Y<|lE h λvv A7 h=>RT.shr .none _ Y Y T (by decide) (DL (k:=.u64) (a:=mO) (q:=63) (s:=63) Y A7)<|ag Y<|RT.done<|bG.n<|aV.n<|aW<|lE h λux h48 h=>ad _ Y Y h48<|mv Y<|RT.done ?_;obtain rfl:=O h;exact aV.n ⟨(vv,ux,k16,l18),Mh _ Y,wR []⟩;subst Mg;obtain⟨L1,wS⟩:=yj
 try dsimp only
 refine aV.n<|sr<|mv Y<|lE oT λwN HN oT=>ne _ Y Y (ZC (p:=L1) (q:=0) HN)<|ag Y<|dn<|bf<|bE oT λ_ hle oT=>?_;obtain rfl:=O oT;exact⟨.inr Y,.sv (gj (.tmp Y (.nil)) au),(by show _=kK.live ⟨130,1,x0.length,List.flatMap aY wS⟩;rw[<-l8 hle];rfl)⟩
set_option maxHeartbeats 4000000 in
theorem yl{x0:List Nat}{x1:List Nat}(N:Nat){r:(List Nat)×(List Nat)}(h:iF x0 x1=some r):cK ah 205 N [slc 1 (List.map aY x0),slc 1 (List.map aY x1)] (.yM [nw N (slc 1 (List.map aY r.1)),nw N (slc 1 (List.map aY r.2))]):=by
 refine bA Tryz.func205 Y (af Y) (λec M vs hN hvs=>?_);unfold iF at h;refine sr<|ag Y<|ag Y<|dn<|cz (jd 4 306 130 1 Y Y T)<|cz (jd 5 308 130 1 Y Y T)<|sr<|mv Y<|lE h λfJ kU h=>ln Y kU<|ag Y<|dn<|sr<|mv Y<|mv Y<|lE h λiU pK h=>sb _ Y Y pK<|bE h λiE qb h=>ix Y Y qb<|lr Y Y<|bE h λlP vB h=>cl (nN vB) ⟨Y,aq⟩ ?_;refine lE h λik nJ h=>cv _ Y (UK.conv nJ)<|ag Y<|dn<|qq<|bh mixed<|mv Y<|mv Y<|bE h λlQ rJ h=>cN (uy rJ) ⟨Y,Y,aq⟩<|mv Y<|mv Y<|bE h λz8 D0 h=>cl (vE D0) ⟨Y,Y,aq⟩<|mv Y<|bE h λjX pS h=>RT.xT .none 0 fJ Y Y ⟨_,Y⟩ T pS<|an (s:=.row _) Y<|ag Y ?_;refine RT.done ⟨by kernel_rfl,?_⟩;refine aV.n<|sr<|mv Y<|lE h λqQ wX h=>ln Y wX<|mv Y<|lE h λpR w6 h=>sb _ Y Y w6<|lE h λuN D3 h=>ad _ Y Y D3<|bE h λCe J1 h=>RT.mM (n:=1) (e:=aY) .none Y Y T Y T (by rfl) (by decide) (by exact⟨au,aq⟩) J1<|an (s:=.row _) Y<|dn<|qq<|sr<|mv Y<|lE h λmO rS h=>ln Y rS<|mv Y<|lE h λsy D1 h=>sb _ Y Y D1 ?_;refine ag Y<|dn<|bE h λe36 abx TL=>?_;refine bT (λ(J6:(List Nat)×(List Nat))=>AS.cM 141 [(4,.row 38),(6,ai fJ),(7,.sv (.v (.int .u64 ((ik:Nat):Int)))),(8,.row 27)] [] [(38,TR 130 1 aY J6.1),(27,TR 130 1 aY J6.2)]) (λJ6=>J6=e36) ?_ (λJ6 aby=>?_);refine bj ?_
 refine bU abx (λTq=>AS.cM 141 [(4,.row 38),(6,ai fJ),(7,.sv (.v (.int .u64 ((ik:Nat):Int)))),(8,.row 27),(9,.sv (slc 1 (List.map aY jX))),(10,ai Tq.1)] [] [(38,TR 130 1 aY Tq.2.1),(27,TR 130 1 aY Tq.2.2)]) (wR []) (λTq y36 G36 h abz abA=>?_);obtain⟨jg,sB,vz⟩:=Tq
 try dsimp only
 refine qq<|sr<|mv Y<|lE h λwQ D4 h=>ge _ Y Y D4<|dn ?_;cases wQ;refine cF<|cc<|aV.x<|aV.x<|bG.x<|aV.n ?_;obtain rfl:=O (F h);exact⟨(sB,vz),abA _ Y,wR []⟩;refine cT<|bB<|aV.n<|qq<|bj<|sr<|mo (s:=.row _) Y<|mv Y<|mv Y<|mv Y<|lE (V h) λCr HO h=>ad _ Y Y HO<|lE h λya D2 h=>ad _ Y Y D2 ?_;obtain⟨⟨o53,n53⟩,TM,h⟩:=bS h;refine RT.WY .none jg ya Y Y ⟨_,Y⟩ ⟨_,Y⟩ T TM<|mv Y ?_;obtain⟨⟨zC,JX⟩,J5,h⟩:=bS h;refine bE h λ_ abB h=>cR (l:=vz) (l':=JX) (e:=aY) (w5 J5) (l8 abB) 27 Y (.k2 Y Y)<|ag Y<|dn<|qq<|sr<|mo (s:=.row _) Y<|mv Y<|mv Y<|mv Y<|lE h λKR Mf h=>ad _ Y Y Mf<|lE h λHF TK h=>ad _ Y Y TK ?_;obtain⟨⟨o62,n62⟩,h62,h⟩:=bS h;refine RT.WY .none jg HF Y Y ⟨_,Y⟩ ⟨_,Y⟩ T h62<|mv Y<|mv Y ?_;obtain⟨⟨x65,OC⟩,h65,h⟩:=bS h;refine bE h λ_ abC h=>cR (l:=JX) (l':=OC) (e:=aY) (oS h65) (l8 abC) 27 Y (.k3 Y Y Y)<|dn ?_;refine bK h (λQI=>AS.cM 141 [(4,.row 38),(6,ai fJ),(7,.sv (.v (.int .u64 ((ik:Nat):Int)))),(8,.row 27),(9,.sv (slc 1 (List.map aY jX))),(10,ai jg),(11,.sv (.v (.int .u64 ((QI.1:Nat):Int))))] [] [(38,TR 130 1 aY sB),(27,TR 130 1 aY QI.2)]) (λh=>?_) (λQI h=>?_);cases x65;exact fs<|⟨(zC,OC),(F h),wR []⟩
 refine cT<|sr<|mv Y<|lE (V h) λIZ TN h=>sb _ Y Y (UK.sub (a:=zC) (b:=1) TN)<|ag Y<|dn<|sr<|RT.AK .none (eP 0) Y ⟨Y,aq⟩ T Y Y<|an (s:=.fV _ _) Y<|dn<|qq<|sr<|mv Y<|lE h λPh h70 h=>ln Y h70<|mv Y<|dn<|bE h λe65 abE sG=>?_;refine bT (λ(J7:Nat×(List Nat))=>AS.cM 141 [(4,.row 38),(6,ai fJ),(7,.sv (.v (.int .u64 ((ik:Nat):Int)))),(8,.row 27),(9,.sv (slc 1 (List.map aY jX))),(10,ai jg),(11,.sv (.v (.int .u64 ((IZ:Nat):Int)))),(12,.fV 202 [.box 68])] [(68,⟨128,[.sv (.v (.int .u64 ((J7.1:Nat):Int)))]⟩)] [(38,TR 130 1 aY sB),(27,TR 130 1 aY J7.2)]) (λJ7=>J7=e65) ?_ (λJ7 abF=>?_);refine bj ?_;refine bU abE (λTs=>AS.cM 141 [(4,.row 38),(6,ai fJ),(7,.sv (.v (.int .u64 ((ik:Nat):Int)))),(8,.row 27),(9,.sv (slc 1 (List.map aY jX))),(10,ai jg),(11,.sv (.v (.int .u64 ((IZ:Nat):Int)))),(12,.fV 202 [.box 68]),(69,.sv (slc 1 (List.map aY jX))),(70,ai Ph),(71,ai Ts.1)] [(68,⟨128,[.sv (.v (.int .u64 ((Ts.2.1:Nat):Int)))]⟩)] [(38,TR 130 1 aY sB),(27,TR 130 1 aY Ts.2.2)]) (wR []) (λTs y65 G65 h abG abH=>?_);obtain⟨yc,wU,vA⟩:=Ts
 try dsimp only
 refine sr<|lE h λOD XK h=>ls _ Y Y XK<|dn<|qq ?_;cases OD;refine cF<|cc<|aV.x<|aV.x<|bG.x<|aV.n ?_;obtain rfl:=O (F h);exact⟨(wU,vA),abH _ Y,wR []⟩;refine cT<|bB<|aV.n<|qq<|bj<|sr<|mv Y<|bE (V h) λV5 h74 h=>ix Y Y h74<|lr Y Y<|ag Y<|ag Y<|dn<|aW<|mo (s:=.row _) Y<|mv Y<|mv Y<|lE h λKU TO h=>ad _ Y Y TO<|mo (s:=.fV _ _) Y<|mo (s:=.row _) Y<|mv Y<|mv Y<|lE h λx84 h84 h=>ad _ Y Y h84<|bE h λXe h85 h=>iR Y Y Y h85 ?_;refine bE h λPj XL h=>lR Y Y XL Y<|lE h λTt XM h=>cv _ Y (UK.nat XM)<|mv Y<|lE h λTu h89 h=>cv _ Y (UK.nat h89)<|lE h λPk XN h=>ad _ Y Y (UK.add (a:=Tt) (b:=Tu) XN) ?_;obtain⟨⟨x91,k68⟩,h91,h⟩:=bS h;refine cB (cj h91) 68 Y ⟨Y,aq⟩<|bE h λx92 h92 h=>iR Y Y Y h92<|bE h λl69 XO h=>sR x91 Y Y Y Y XO<|RT.done<|bG.n<|aV.n<|aW<|lE h λV6 h93 h=>ad _ Y Y h93<|mv Y<|RT.done ?_;obtain rfl:=O h;exact aV.n ⟨(V6,k68,l69),abG _ Y,wR []⟩;subst abF;obtain⟨Fv,AY⟩:=J7
 try dsimp only
 refine aV.n<|aW<|mo (s:=.row _) Y<|mv Y<|mv Y<|lE sG λXf h97 sG=>ad _ Y Y h97<|mo (s:=.fV _ _) Y<|mo (s:=.row _) Y<|mv Y<|mv Y<|lE sG λXg abN sG=>ad _ Y Y abN<|bE sG λJY TP sG=>iR Y Y Y TP<|bE sG λXh abO sG=>lR Y Y abO Y<|lE sG λXi abP sG=>cv _ Y (UK.nat abP) ?_;obtain⟨⟨Tv,k72⟩,abQ,sG⟩:=bS sG;exact cB (cj abQ) 68 Y ⟨Y,aq⟩<|bE sG λXj abR sG=>iR Y Y Y abR<|bE sG λl73 XP sG=>sR Tv Y Y Y Y XP<|dn<|⟨(IZ,l73),sG,wR []⟩;obtain⟨L2,HI⟩:=QI
 try dsimp only
 refine aV.n<|aW<|mo (s:=.row _) Y<|mv Y<|mv Y<|lE h λTr abS h=>cv _ Y (UK.nat abS)<|bE h λXd abT h=>iR Y Y Y abT<|bE h λl55 XQ h=>sR Tr Y Y Y Y XQ<|RT.done<|bG.n<|aV.n<|aW<|mv Y<|lE h λwj h46 h=>sb _ Y Y h46<|ag Y<|RT.done ?_;obtain rfl:=O h;exact aV.n ⟨(wj,l55,HI),abz _ Y,wR []⟩;subst aby;obtain⟨AZ,yd⟩:=J6
 try dsimp only
 refine aV.n<|sr<|mv Y<|bE TL λXk abU TL=>RT.mM (n:=1) (e:=aY) .none Y Y T Y T (by rfl) (by decide) (by exact⟨au,aq⟩) abU<|an (s:=.row _) Y<|dn<|qq<|sr<|mv Y<|mv Y<|dn<|bE TL λe81 abV abW=>?_;refine bT (λ(qT:(List Nat))=>AS.cM 141 [(4,.row 38),(5,.row 114)] [] [(38,TR 130 1 aY AZ),(114,TR 130 1 aY qT)]) (λqT=>qT=e81) ?_ (λqT abX=>?_);refine bj ?_;refine bU abV (λV7=>AS.cM 141 [(4,.row 38),(5,.row 114),(7,.sv (.v (.int .u64 ((ik:Nat):Int)))),(8,.row 27),(115,ai fJ),(116,ai V7.1)] [] [(38,TR 130 1 aY AZ),(114,TR 130 1 aY V7.2),(27,TR 130 1 aY yd)]) (wR []) (λV7 y81 G81 h abY abZ=>?_);obtain⟨ua,wV⟩:=V7
 try dsimp only
 refine sr<|lE h λTw ab0 h=>ls _ Y Y ab0<|dn<|qq ?_;cases Tw;refine cF<|cc<|aV.x<|aV.x<|bG.x<|aV.n ?_;obtain rfl:=O (F h);exact⟨wV,abZ _ Y,wR []⟩;refine cT<|bB<|aV.n<|qq<|bj<|sr<|mv Y<|ag Y<|dn<|bh mixed<|mo (s:=.row _) Y<|mv Y<|mo (s:=.row _) Y<|mv Y<|bE (V h) λXl ab1 h=>iR Y Y Y ab1<|bE h λXm ab2 h=>lR Y Y ab2 Y<|lE h λTx ab3 h=>cv _ Y (UK.nat ab3)<|mo (s:=.row _) Y<|mv Y<|lE h λXn h128 h=>ad _ Y Y h128<|bE h λXo ab4 h=>?_;refine iR Y Y Y ab4<|bE h λXp ab5 h=>lR Y Y ab5 Y<|lE h λTy ab6 h=>cv _ Y (UK.nat ab6)<|lE h λTz ab7 h=>RT.shl .none _ Y Y T (by decide) (UK.shl (a:=Ty) (q:=32) (s:=32) Y ab7)<|lE h λTA ab8 h=>RT.or .none _ Y Y T (UK.or (a:=Tx) (b:=Tz) ab8)<|mv Y<|lE h λXq ab9 h=>RT.shr .none _ Y Y T (Int.natCast_nonneg _) (DL (k:=.u64) (a:=TA) (q:=((ik:Nat):Int)) (s:=min ik 64) Y ab9)<|lE h λTB acd h=>cv _ Y (UK.nat acd) ?_;refine bE h λXr ace h=>iR Y Y Y ace<|bE h λl83 XR h=>sR TB Y Y Y Y XR ?_;refine RT.done ⟨by kernel_rfl,?_⟩;refine bG.n<|aV.n<|aW<|lE h λTC acf h=>ad _ Y Y acf<|mv Y<|RT.done ?_;obtain rfl:=O h;exact aV.n ⟨(TC,l83),abY _ Y,wR []⟩;subst abX
 try dsimp only
 refine aV.n<|sr<|mo (s:=.row _) Y<|mo (s:=.row _) Y<|an (s:=.row _) Y<|an (s:=.row _) Y<|dn<|gP (i:=38) (E1:=130) (n:=1) (e:=aY) (l:=AZ) hN (λ_ h=>h) Y<|gP (i:=114) (E1:=130) (n:=1) (e:=aY) (l:=qT) hN (λ_ h=>h) Y<|bf ?_;obtain rfl:=O abW;exact R2 Y Y
theorem nv{x0:List Nat}(N:Nat){r:List Nat}(h:ek x0=some r):cK ah 175 N [slc 1 (List.map aY x0)] (nw N (slc 1 (List.map aY r))):=Pc (qa h)
theorem o6{x0:List Nat}{x1:List Nat}(N:Nat){r:(List Nat)×(List Nat)}(h:fN x0 x1=some r):cK ah 193 N [slc 1 (List.map aY x0),slc 1 (List.map aY x1)] (.yM [nw N (slc 1 (List.map aY r.1)),nw N (slc 1 (List.map aY r.2))]):=by
 refine bA Tryz.func193 Y (af Y) (λec M vs hN hvs=>?_);unfold fN at h;refine sr<|ag Y<|aI Y (bk (N:=N) (n:=1) (e:=aY))<|dn<|cz (jd 4 304 130 1 Y Y T)<|qq<|bj<|sr<|mv Y<|mv Y<|bE h λep gO h=>cl (fW gO) ⟨Y,Y,aq⟩<|lE h λgh jJ h=>ls _ Y Y jJ<|ag Y<|dn ?_;cases gh;refine cF<|sr<|mv Y<|lE (F h) λfC jY h=>ln Y jY<|lE h λmN oa h=>RT.leq .none _ Y Y T oa<|ag Y<|dn ?_;cases mN;refine cF<|sr<|mv Y<|lE (F h) λpR w6 h=>ln Y w6<|lE h λuN D3 h=>eq _ Y Y (xI (p:=pR) (q:=1) D3)<|ag Y<|dn ?_;cases uN;refine cF<|bB<|bG.n<|aV.n<|sr<|mv Y<|mv Y ?_;obtain⟨⟨Xs,Xt⟩,D2,h⟩:=bS (F h);refine RT.bM .none (yl N D2) hN Y ⟨Y,Y,aq⟩ T<|ex Y Y<|ex Y Y<|ag Y<|ag Y<|dn<|bf ?_;obtain rfl:=O h;exact R2 Y Y;refine cT<|sr<|mv Y<|bE (V h) λuO FI h=>cN (qa FI) ⟨Y,aq⟩<|an (s:=.row _) Y<|dn<|sr<|mo (s:=.row _) Y<|mv Y<|bE h λsy D1 h=>ix Y Y D1<|lr Y Y<|lE h λwQ D4 h=>cv _ Y (UK.nat D4) ?_;obtain⟨⟨DR,l5⟩,Mc,h⟩:=bS h;refine bE h λ_ he5 h=>cR (l:=uO) (l':=l5) (e:=aY) (wZ Mc) (l8 he5) 39 Y (.k2 Y Y)<|ag Y<|dn<|sr<|mo (s:=.row _) Y<|mv Y<|lE h λux h48 h=>cv _ Y (UK.nat h48)<|RT.wK (l:=[ux]) (e:=aY) .none hN (.one Y (.nil)) T Y Y Y Y Y Y<|an (s:=.row _) Y<|ag Y<|dn<|gP (i:=39) (E1:=130) (n:=1) (e:=aY) (l:=l5) hN (λ_ h=>h) Y ?_
 refine bf<|bG.r<|aV.r ?_;obtain rfl:=O h;exact R2 Y Y;refine cT<|sr<|mv Y<|bE (V h) λiE qb h=>cl (iA qb) ⟨Y,aq⟩<|mv Y<|bE h λlP vB h=>cl (iA vB) ⟨Y,aq⟩<|ag Y<|ag Y<|dn<|qq<|bh mixed<|mv Y<|mv Y<|bE h λnn uc h=>RT.quo .none _ Y Y T (nzU uc) (UK.quo uc) ?_;obtain⟨⟨sD,rI⟩,rJ,h⟩:=bS h;refine RT.bM .none (jh N rJ) hN Y ⟨Y,Y,aq⟩ T<|fl Y Y<|mv Y<|mv Y<|bE h λtX Da h=>RT.rem .none _ Y Y T (ZE Da) (O0 Da) ?_;obtain⟨⟨nH,mP⟩,pS,h⟩:=bS h;refine RT.bM .none (jh N pS) hN Y ⟨Y,Y,aq⟩ T<|fl Y Y<|ag Y<|ag Y ?_;refine RT.done ⟨by kernel_rfl,?_⟩;refine aV.n<|bf<|bG.r<|aV.r ?_;obtain rfl:=O h;exact R2 Y Y;refine cT<|sr<|mv Y<|bE (V h) λeH iZ h=>RT.bM .none (nv N iZ) hN Y ⟨Y,aq⟩ T<|ag Y<|ag Y<|dn<|cz (jd 4 310 130 1 Y Y T)<|gP (i:=310) (E1:=130) (n:=1) (e:=aY) (l:=[]) hN (λ_ h=>h) Y<|bf<|bG.r<|aV.r ?_;obtain rfl:=O h;exact R2 Y Y
end
section
open Go.Fw Go.Fw.Z Go.RowKit
theorem dV{x0:Int}(N:Nat){r:Zr}(h:cg x0=some r):cK ah 90 N [ay x0] (.agg ((fZ N) r)):=by
 refine bA Tryz.func90 Y (af Y) (λec M vs hN hvs=>?_);unfold cg at h;refine sr<|al (cs:=[az false,nw N ax]) (by exact⟨au,bk,aq⟩) Y<|dn<|sr<|mv Y<|lE h λx5 h5 h=>cv _ Y (UK.conv h5)<|ag Y<|dn<|qq<|sr<|mv Y<|lE h λx7 h7 h=>ls _ Y Y h7<|dn ?_;refine bK h (λj2=>AS.cM 14 [(0,ai x0),(2,.ptr 2 0),(3,.sv (.v (.int .u64 ((j2:Nat):Int))))] [(2,⟨41,[aj false,.sv (nw N ax)]⟩)] []) (λh=>?_) (λXu h=>?_);cases x7;exact fs<|⟨x5,(F h),wR []⟩;exact cT<|aW<|mv Y<|lE (V h) λx9 h9 h=>RT.neg .none _ Y T (UK.neg h9)<|ag Y<|dn<|⟨x9,h,wR []⟩
 try dsimp only
 refine aV.n<|sr<|mv Y<|lE h λiJ pJ h=>ls _ Y Y pJ<|mv Y ?_;obtain⟨⟨Fx,Fy⟩,jJ,h⟩:=bS h;refine RT.bM .none (jh N jJ) hN Y ⟨Y,Y,aq⟩ T<|so Y Y Y<|dn<|bf ?_;obtain rfl:=O h;exact RZ (.agg Y Y (.k2 Y Y) Y (.nil))
theorem vG{x0:Int}{r:Zr}(h:cg x0=some r):Pure ah 90 [ay x0] (.agg (eZ r)):=dD (λN=>dV N h) (λN=>(SV.dB (zI _ _)))
theorem fR{x0:Zr}{r:Int×Bool}(h:dJ x0=some r):Pure ah 166 [.agg (eZ x0)] (.yM [ay r.1,az r.2]):=by
 obtain⟨bp,bt⟩:=x0;refine bz Tryz.func166 Y (af Y) (λec M vs hvs=>?_);unfold dJ at h;refine sr<|bx Y<|ag Y<|ag Y<|dn<|sr<|fa Y Y<|lV Y Y Y<|bE h λx8 h8 h=>cl (cx h8) ⟨Y,aq⟩<|ag Y<|dn<|qq<|sr<|mv Y<|lE h λdZ gM h=>ln Y gM<|lE h λiJ pJ h=>gt _ Y Y pJ<|dn ?_;cases iJ;refine fs<|sr<|mv Y<|bE (F h) λgh jJ h=>cl (iA jJ) ⟨Y,aq⟩<|ag Y<|dn<|qq<|sr<|fa Y Y<|lV Y Y Y<|dn ?_;cases bp;refine fs<|qq<|sr<|mv Y<|lE (F h) λjH oR h=>ge _ Y Y (leN (p:=9223372036854775808) (q:=gh) oR)<|dn ?_;cases jH;refine fs<|sr<|mv Y<|lE (F h) λik nJ h=>cv _ Y nJ<|ag Y<|ag Y<|dn<|bf ?_;obtain rfl:=O h;exact R2 Y Y;refine cT<|sr<|ag Y<|ag Y<|dn<|bf<|aV.r ?_;obtain rfl:=O (V h);exact R2 Y Y;refine cT<|qq<|sr<|mv Y<|lE (V h) λfJ kU h=>gt _ Y Y (ZD (p:=9223372036854775808) (q:=gh) kU)<|dn ?_;cases fJ;refine fs<|sr<|mv Y<|lE (F h) λmN oa h=>RT.neg .none _ Y T (UK.neg oa)<|lE h λiU pK h=>cv _ Y pK<|ag Y<|ag Y<|dn<|bf<|aV.r ?_;obtain rfl:=O h;exact R2 Y Y;refine cT<|sr<|ag Y<|ag Y<|dn<|bf<|aV.r<|aV.r ?_;obtain rfl:=O (V h);exact R2 Y Y;refine cT<|sr<|ag Y<|ag Y<|dn<|bf<|aV.r ?_;obtain rfl:=O (V h);exact R2 Y Y
theorem pL{x0:List Nat}(N:Nat){r:List Nat}(h:bu x0=some r):cK ah 144 N [nw N (slc 1 (List.map aY x0))] (nw N (slc 1 (List.map aY r))):=by
 refine bA Tryz.func144 Y (af Y) (λec M vs hN hvs=>?_);unfold bu at h;refine sr<|aI Y (bk (N:=N) (n:=1) (e:=aY))<|dn<|qq<|bE h λJZ A3 wW=>?_;refine bT (λ(AW:(List Nat))=>AS.cM 21 [(0,.sv (nw N (slc 1 (List.map aY AW))))] [] []) (λAW=>AW=JZ) ?_ (λAW A4=>?_);refine bj ?_;refine bU A3 (λyZ=>AS.cM 21 [(0,.sv (nw N (slc 1 (List.map aY yZ))))] [] []) (wR []) (λzB Xy Xz h A5 yg=>?_)
 try dsimp only
 refine qq<|qq ?_;refine bK h (λJ0=>AS.cM 21 [(0,.sv (nw N (slc 1 (List.map aY zB)))),(14,aj J0)] [] []) (λh=>?_) (λAU h=>?_);refine aW<|mv Y<|lE h λx4 h4 h=>RT.C5 .none Y T h4<|lE h λx5 h5 h=>gt _ Y Y h5<|mv Y<|bE h λxY eI h=>?_;cases x5;obtain rfl:=O (F eI);exact ww<|ww<|ww<|ww<|ww<|ww<|ww<|pF Y<|dn<|⟨false,h,wR []⟩;refine gm Y<|gm Y<|lE (V eI) λx9 h9 eI=>RT.C5 (.some Y Y) Y T h9<|lE eI λdZ gM eI=>RT.sub (.some Y Y) _ Y Y T gM<|bE eI λiJ pJ eI=>RT.W7 (.some Y Y) Y Y T pJ<|gr Y Y<|lE eI λgh jJ eI=>ZK _ Y Y (ZB (p:=iJ) (q:=0) jJ) ?_;obtain rfl:=O eI;exact pT Y<|dn<|⟨gh,h,wR []⟩
 try dsimp only
 refine aV.n ?_;cases AU;refine cF<|cc<|aV.x<|aV.x<|bG.x<|aV.n ?_;obtain rfl:=O (F h);exact⟨zB,yg _ Y,wR []⟩;refine cT<|bB<|aV.n<|bj<|aW<|mv Y<|mv Y<|lE (V h) λfJ kU h=>RT.C5 .none Y T kU<|lE h λfC jY h=>sb _ Y Y jY<|bE h λmN oa h=>RT.Pd .none 0 fC Y Y ⟨_,Y⟩ T oa<|ag Y<|RT.done<|bG.n ?_;obtain rfl:=O h;exact aV.n ⟨mN,A5 _ Y,wR []⟩;subst A4
 try dsimp only
 refine aV.n<|sr<|mv Y<|ag Y<|dn<|bf ?_;obtain rfl:=O wW;exact R1 Y
theorem fj{x0:Bool}{x1:List Nat}(N:Nat){r:Zr}(h:cw x0 x1=some r):cK ah 163 N [az x0,nw N (slc 1 (List.map aY x1))] (.agg ((fZ N) r)):=by
 refine bA Tryz.func163 Y (af Y) (λec M vs hN hvs=>?_);unfold cw at h;refine sr<|al (cs:=[az false,nw N ax]) (by exact⟨au,bk,aq⟩) Y<|dn<|sr<|mv Y<|bE h λx6 h6 h=>RT.bM .none (pL N h6) hN Y ⟨Y,aq⟩ T<|ag Y<|dn<|qq<|sr<|mv Y<|lE h λx8 h8 h=>RT.C5 .none Y T h8<|lE h λx9 h9 h=>eq _ Y Y (xI (p:=x8) (q:=0) h9)<|dn ?_;cases x9;refine fs<|sr<|mv Y<|mv Y<|bI (cs:=[_,_]) (cs':=[az x0,nw N (slc 1 (List.map aY x6))]) (.one Y (.one Y (.nil))) ⟨au,au,aq⟩<|so Y Y Y<|dn<|bf ?_;obtain rfl:=O (F h);exact RZ (.agg Y Y (.k2 Y Y) Y (.nil));refine cT<|sr<|bI (cs:=[_,_]) (cs':=[az false,nw N ax]) (.nil) ⟨au,bk,aq⟩<|so Y Y Y<|dn<|bf<|aV.r ?_;obtain rfl:=O (V h);exact RZ (.agg Y Y (.k2 Y Y) Y (.nil))
theorem oc{x0:Bool}{x1:List Nat}{x2:Bool}{x3:List Nat}(N:Nat){r:Zr}(h:dx x0 x1 x2 x3=some r):cK ah 203 N [az x0,slc 1 (List.map aY x1),az x2,slc 1 (List.map aY x3)] (.agg ((fZ N) r)):=by
 refine bA Tryz.func203 Y (af Y) (λec M vs hN hvs=>?_);unfold dx at h;refine sr<|al (cs:=[az false,nw N ax]) (by exact⟨au,bk,aq⟩) Y<|dn<|qq<|sr<|mv Y<|mv Y<|lE h λiJ pJ h=>RT.aak .none _ Y Y T pJ<|dn ?_;cases iJ;refine fs<|qq<|sr<|mv Y<|mv Y<|bE (F h) λmN oa h=>cl (fW oa) ⟨Y,Y,aq⟩<|lE h λiU pK h=>ls _ Y Y pK<|dn ?_;cases iU;refine fs<|sr<|mv Y<|mv Y<|mv Y<|bE (F h) λiK nI h=>RT.bM .none (kV N nI) hN Y ⟨Y,Y,aq⟩ T ?_;obtain⟨⟨uP,uQ⟩,D0,h⟩:=bS h;refine RT.bM .none (fj N D0) hN Y ⟨Y,Y,aq⟩ T<|so Y Y Y<|dn<|bf ?_;obtain rfl:=O h;exact RZ (.agg Y Y (.k2 Y Y) Y (.nil));refine cT<|sr<|mv Y<|mv Y<|mv Y<|bE (V h) λik nJ h=>RT.bM .none (kV N nJ) hN Y ⟨Y,Y,aq⟩ T ?_;obtain⟨⟨lS,kT⟩,yh,h⟩:=bS h;refine RT.bM .none (fj N yh) hN Y ⟨Y,Y,aq⟩ T<|so Y Y Y<|dn<|bf<|aV.r ?_;obtain rfl:=O h;exact RZ (.agg Y Y (.k2 Y Y) Y (.nil));refine cT<|sr<|mv Y<|mv Y<|mv Y<|bE (V h) λeH iZ h=>RT.bM .none (o5 N iZ) hN Y ⟨Y,Y,aq⟩ T ?_;obtain⟨⟨kF,kG⟩,kL,h⟩:=bS h;refine RT.bM .none (fj N kL) hN Y ⟨Y,Y,aq⟩ T<|so Y Y Y<|dn<|bf<|aV.r ?_;obtain rfl:=O h;exact RZ (.agg Y Y (.k2 Y Y) Y (.nil))
theorem D5{x0:Zr}{x1:Zr}(N:Nat){r:Zr}(h:mQ x0 x1=some r):cK ah 188 N [.agg (eZ x0),.agg (eZ x1)] (.agg ((fZ N) r)):=by
 obtain⟨bp,bt⟩:=x0;obtain⟨cE,cD⟩:=x1;refine bA Tryz.func188 Y (af Y) (λec M vs hN hvs=>?_);unfold mQ at h;refine sr<|bx Y<|bx Y<|al (cs:=[az false,nw N ax]) (by exact⟨au,bk,aq⟩) Y<|dn<|sr<|ld Y Y (.k2 Y Y) ?_;obtain⟨⟨Ct,HJ⟩,gO,h⟩:=bS h;refine cl (fR gO) ⟨Y,aq⟩<|mv Y<|ex Y Y<|ex Y Y<|ag Y<|ag Y<|dn<|sr<|ld Y Y (.k2 Y Y) ?_;obtain⟨⟨DU,HK⟩,kU,h⟩:=bS h;refine cl (fR kU) ⟨Y,aq⟩<|mv Y<|ex Y Y<|ex Y Y<|ag Y<|ag Y<|dn<|qq<|qq ?_;refine bK h (λj3=>AS.cM 48 [(2,.ptr 2 0),(3,.ptr 3 0),(4,.ptr 4 0),(5,ai Ct),(7,ai DU),(23,aj j3)] [(4,⟨41,[aj false,.sv (nw N ax)]⟩),(3,⟨41,[aj cE,.sv (slc 1 (List.map aY cD))]⟩),(2,⟨41,[aj bp,.sv (slc 1 (List.map aY bt))]⟩)] []) (λh=>?_) (λA0 h=>?_);refine aW<|mv Y<|mv Y<|bE h λFB D6 h=>?_;cases HJ;obtain rfl:=O (F D6);exact ww<|pF Y<|dn<|⟨false,h,wR []⟩;refine gm Y ?_;obtain rfl:=O (V D6);exact pT Y<|dn<|⟨HK,h,wR []⟩
 try dsimp only
 refine aV.n ?_;refine bK h (λj5=>AS.cM 48 [(2,.ptr 2 0),(3,.ptr 3 0),(4,.ptr 4 0)] [(4,⟨41,[aj false,.sv (nw N ax)]⟩),(3,⟨41,[aj cE,.sv (slc 1 (List.map aY cD))]⟩),(2,⟨41,[aj bp,.sv (slc 1 (List.map aY bt))]⟩)] []) (λh=>?_) (λj5 h=>?_);cases A0;exact fs<|⟨(),(F h),wR []⟩;refine cT<|sr<|mv Y<|mv Y<|lE (V h) λnn uc h=>ad _ Y Y uc<|ag Y<|dn<|sr<|mv Y<|mv Y<|lE h λiK nI h=>RT.xor .none _ Y Y T nI<|mv Y<|mv Y<|lE h λjX pS h=>RT.xor .none _ Y Y T pS<|lE h λtZ Ab h=>RT.and .none _ Y Y T Ab<|lE h λqQ wX h=>ge _ Y Y wX<|dn ?_;cases qQ;exact fs<|⟨(),(F h),wR []⟩;refine cT<|sr<|mv Y ?_;obtain⟨⟨y5,y7⟩,w6,h⟩:=bS (V h);refine RT.bM .none (dV N w6) hN Y ⟨Y,aq⟩ T<|so Y Y Y<|dn<|bf<|aV.r<|aV.r ?_;obtain rfl:=O h;exact RZ (.agg Y Y (.k2 Y Y) Y (.nil))
 try dsimp only
 refine aV.n<|qq<|bh mixed<|fa Y Y<|lV Y Y Y<|fa Y Y<|lV Y Y Y<|bE h λuM FH h=>cl (cx FH) ⟨Y,aq⟩<|fa Y Y<|lV Y Y Y<|fa Y Y<|lV Y Y Y<|bE h λwj h46 h=>cl (cx h46) ⟨Y,aq⟩ ?_;obtain⟨⟨Fz,FA⟩,A7,h⟩:=bS h;refine RT.bM .none (oc N A7) hN Y ⟨Y,Y,Y,Y,aq⟩ T<|so Y Y Y ?_;refine RT.done ⟨by kernel_rfl,?_⟩;refine aV.n<|bf ?_;obtain rfl:=O h;exact RZ (.agg Y Y (.k2 Y Y) Y (.nil))
theorem D7{x0:Zr}{x1:Zr}(N:Nat){r:Zr}(h:mR x0 x1=some r):cK ah 190 N [.agg (eZ x0),.agg (eZ x1)] (.agg ((fZ N) r)):=by
 obtain⟨bp,bt⟩:=x0;obtain⟨cE,cD⟩:=x1;refine bA Tryz.func190 Y (af Y) (λec M vs hN hvs=>?_);unfold mR at h;refine sr<|bx Y<|bx Y<|al (cs:=[az false,nw N ax]) (by exact⟨au,bk,aq⟩) Y<|dn<|sr<|ld Y Y (.k2 Y Y) ?_;obtain⟨⟨Ct,HJ⟩,gO,h⟩:=bS h;refine cl (fR gO) ⟨Y,aq⟩<|mv Y<|ex Y Y<|ex Y Y<|ag Y<|ag Y<|dn<|sr<|ld Y Y (.k2 Y Y) ?_;obtain⟨⟨DU,HK⟩,kU,h⟩:=bS h;refine cl (fR kU) ⟨Y,aq⟩<|mv Y<|ex Y Y<|ex Y Y<|ag Y<|ag Y<|dn<|qq<|qq ?_;refine bK h (λj3=>AS.cM 49 [(2,.ptr 2 0),(3,.ptr 3 0),(4,.ptr 4 0),(5,ai Ct),(7,ai DU),(23,aj j3)] [(4,⟨41,[aj false,.sv (nw N ax)]⟩),(3,⟨41,[aj cE,.sv (slc 1 (List.map aY cD))]⟩),(2,⟨41,[aj bp,.sv (slc 1 (List.map aY bt))]⟩)] []) (λh=>?_) (λA0 h=>?_);refine aW<|mv Y<|mv Y<|bE h λFB D6 h=>?_;cases HJ;obtain rfl:=O (F D6);exact ww<|pF Y<|dn<|⟨false,h,wR []⟩;refine gm Y ?_;obtain rfl:=O (V D6);exact pT Y<|dn<|⟨HK,h,wR []⟩
 try dsimp only
 refine aV.n ?_;refine bK h (λj5=>AS.cM 49 [(2,.ptr 2 0),(3,.ptr 3 0),(4,.ptr 4 0)] [(4,⟨41,[aj false,.sv (nw N ax)]⟩),(3,⟨41,[aj cE,.sv (slc 1 (List.map aY cD))]⟩),(2,⟨41,[aj bp,.sv (slc 1 (List.map aY bt))]⟩)] []) (λh=>?_) (λj5 h=>?_);cases A0;exact fs<|⟨(),(F h),wR []⟩;refine cT<|sr<|mv Y<|mv Y<|lE (V h) λnn uc h=>sb _ Y Y uc<|ag Y<|dn<|sr<|mv Y<|mv Y<|lE h λiK nI h=>RT.xor .none _ Y Y T nI<|mv Y<|mv Y<|lE h λjX pS h=>RT.xor .none _ Y Y T pS<|lE h λtZ Ab h=>RT.and .none _ Y Y T Ab<|lE h λqQ wX h=>ge _ Y Y wX<|dn ?_;cases qQ;exact fs<|⟨(),(F h),wR []⟩;refine cT<|sr<|mv Y ?_;obtain⟨⟨y5,y7⟩,w6,h⟩:=bS (V h);refine RT.bM .none (dV N w6) hN Y ⟨Y,aq⟩ T<|so Y Y Y<|dn<|bf<|aV.r<|aV.r ?_;obtain rfl:=O h;exact RZ (.agg Y Y (.k2 Y Y) Y (.nil))
 try dsimp only
 refine aV.n<|qq<|bh mixed<|fa Y Y<|lV Y Y Y<|fa Y Y<|lV Y Y Y<|bE h λuM FH h=>cl (cx FH) ⟨Y,aq⟩<|fa Y Y<|lV Y Y Y<|lE h λwQ D4 h=>nt Y _ D4<|fa Y Y<|lV Y Y Y<|bE h λvv A7 h=>cl (cx A7) ⟨Y,aq⟩ ?_;obtain⟨⟨QJ,QK⟩,h48,h⟩:=bS h;refine RT.bM .none (oc N h48) hN Y ⟨Y,Y,Y,Y,aq⟩ T<|so Y Y Y ?_;refine RT.done ⟨by kernel_rfl,?_⟩;refine aV.n<|bf ?_;obtain rfl:=O h;exact RZ (.agg Y Y (.k2 Y Y) Y (.nil))
theorem eu{x0:Zr}{x1:Zr}(N:Nat){r:Zr}(h:c7 x0 x1=some r):cK ah 130 N [.agg (eZ x0),.agg (eZ x1)] (.agg ((fZ N) r)):=by
 obtain⟨bp,bt⟩:=x0;obtain⟨cE,cD⟩:=x1;refine bA Tryz.func130 Y (af Y) (λec M vs hN hvs=>?_);unfold c7 at h;refine sr<|bx Y<|bx Y<|al (cs:=[az false,nw N ax]) (by exact⟨au,bk,aq⟩) Y<|dn<|qq<|bh mixed<|fa Y Y<|lV Y Y Y<|bE h λx9 h9 h=>cl (cx h9) ⟨Y,aq⟩<|fa Y Y<|lV Y Y Y<|bE h λep gO h=>cl (cx gO) ⟨Y,aq⟩<|ag Y<|ag Y ?_;refine RT.done ⟨by kernel_rfl,?_⟩;refine aV.n<|qq<|qq ?_;refine bK h (λj3=>AS.cM 41 [(2,.ptr 2 0),(3,.ptr 3 0),(4,.ptr 4 0),(5,.sv (slc 1 (List.map aY x9))),(6,.sv (slc 1 (List.map aY ep))),(20,aj j3)] [(4,⟨41,[aj false,.sv (nw N ax)]⟩),(3,⟨41,[aj cE,.sv (slc 1 (List.map aY cD))]⟩),(2,⟨41,[aj bp,.sv (slc 1 (List.map aY bt))]⟩)] []) (λh=>?_) (λL3 h=>?_);refine aW<|mv Y<|lE h λfE lN h=>ln Y lN<|lE h λeH iZ h=>RT.leq .none _ Y Y T iZ<|mv Y<|bE h λQN rK h=>?_;cases eH;obtain rfl:=O (F rK);exact ww<|ww<|ww<|pF Y<|dn<|⟨false,h,wR []⟩;refine gm Y<|lE (V rK) λfC jY rK=>gn Y jY<|lE rK λmN oa rK=>RT.leq (.some Y Y) _ Y Y T oa ?_;obtain rfl:=O rK;exact pT Y<|dn<|⟨mN,h,wR []⟩
 try dsimp only
 refine aV.n ?_;cases L3;refine fs<|qq<|bh mixed<|fa Y Y<|lV Y Y Y<|fa Y Y<|lV Y Y Y<|lE (F h) λpR w6 h=>RT.SO .none _ Y Y T w6<|mv Y<|mv Y<|bE h λuO FI h=>RT.bM .none (wY N FI) hN Y ⟨Y,Y,aq⟩ T ?_;obtain⟨⟨y9,za⟩,rS,h⟩:=bS h;refine RT.bM .none (fj N rS) hN Y ⟨Y,Y,aq⟩ T<|so Y Y Y ?_;refine RT.done ⟨by kernel_rfl,?_⟩;refine aV.n<|bf ?_;obtain rfl:=O h;exact RZ (.agg Y Y (.k2 Y Y) Y (.nil));refine cT<|qq<|bh mixed<|fa Y Y<|lV Y Y Y<|fa Y Y<|lV Y Y Y<|lE (V h) λyY yh h=>RT.SO .none _ Y Y T yh<|mv Y<|bE h λlQ rJ h=>cl (iA rJ) ⟨Y,aq⟩<|mv Y<|bE h λiK nI h=>cl (iA nI) ⟨Y,aq⟩<|lE h λz8 D0 h=>RT.mul .none _ Y Y T (UK.mul (a:=lQ) (b:=iK) D0) ?_;obtain⟨⟨QL,QM⟩,Da,h⟩:=bS h;refine RT.bM .none (jh N Da) hN Y ⟨Y,Y,aq⟩ T<|so Y Y Y ?_;refine RT.done ⟨by kernel_rfl,?_⟩;refine aV.n<|bf<|aV.r ?_;obtain rfl:=O h;exact RZ (.agg Y Y (.k2 Y Y) Y (.nil))
theorem w7{x0:Zr}{x1:Zr}{r:Zr}(h:c7 x0 x1=some r):Pure ah 130 [.agg (eZ x0),.agg (eZ x1)] (.agg (eZ r)):=dD (λN=>eu N h) (λN=>(SV.dB (zI _ _)))
theorem nO{x0:Zr}(N:Nat){r:Zr}(h:fK x0=some r):cK ah 145 N [.agg (eZ x0)] (.agg ((fZ N) r)):=by
 obtain⟨bp,bt⟩:=x0;refine bA Tryz.func145 Y (af Y) (λec M vs hN hvs=>?_);unfold fK at h;refine sr<|bx Y<|al (cs:=[az false,nw N ax]) (by exact⟨au,bk,aq⟩) Y<|dn<|qq<|bh mixed<|fa Y Y<|lV Y Y Y<|lE h λx5 h5 h=>nt Y _ h5<|fa Y Y<|lV Y Y Y<|bE h λx8 h8 h=>cl (cx h8) ⟨Y,aq⟩<|bE h λx9 h9 h=>RT.bM .none (nv N h9) hN Y ⟨Y,aq⟩ T ?_;obtain⟨⟨FC,FD⟩,gM,h⟩:=bS h;refine RT.bM .none (fj N gM) hN Y ⟨Y,Y,aq⟩ T<|so Y Y Y ?_;refine RT.done ⟨by kernel_rfl,?_⟩;refine aV.n<|bf ?_;obtain rfl:=O h;exact RZ (.agg Y Y (.k2 Y Y) Y (.nil))
theorem w8{x0:Zr}{r:Zr}(h:fK x0=some r):Pure ah 145 [.agg (eZ x0)] (.agg (eZ r)):=dD (λN=>nO N h) (λN=>(SV.dB (zI _ _)))
theorem eX{x0:Zr}{r:Int}(h:c9 x0=some r):Pure ah 104 [.agg (eZ x0)] (ay r):=by
 obtain⟨bp,bt⟩:=x0;refine bz Tryz.func104 Y (af Y) (λec M vs hvs=>?_);unfold c9 at h;refine sr<|bx Y<|ag Y<|dn<|qq<|bj<|sr<|fa Y Y<|lV Y Y Y<|bE h λx6 h6 h=>cl (cx h6) ⟨Y,aq⟩<|lE h λx7 h7 h=>ln Y h7<|lE h λx8 h8 h=>eq _ Y Y (xI (p:=x7) (q:=0) h8)<|ag Y<|dn ?_;cases x8;refine cF<|sr<|fa Y Y<|lV Y Y Y<|ag Y<|dn ?_;replace h:=F h;cases bp;refine cF<|bB<|bG.n<|aV.n<|sr<|ag Y<|dn<|bf ?_;obtain rfl:=O (F h);exact R1 Y;refine cT<|sr<|ag Y<|dn<|bf<|bG.r<|aV.r ?_;obtain rfl:=O (V h);exact R1 Y;refine cT<|sr<|ag Y<|dn<|bf<|bG.r<|aV.r ?_;obtain rfl:=O (V h);exact R1 Y
theorem D8{x0:Zr}{x1:Zr}{r:Int}(h:mS x0 x1=some r):Pure ah 129 [.agg (eZ x0),.agg (eZ x1)] (ay r):=by
 obtain⟨bp,bt⟩:=x0;obtain⟨cE,cD⟩:=x1;refine bz Tryz.func129 Y (af Y) (λec M vs hvs=>?_);unfold mS at h;refine sr<|bx Y<|bx Y<|ag Y<|dn<|qq<|bh mixed<|ld Y Y (.k2 Y Y)<|bE h λx8 h8 h=>cl (eX h8) ⟨Y,aq⟩<|ld Y Y (.k2 Y Y)<|bE h λdZ gM h=>cl (eX gM) ⟨Y,aq⟩<|ag Y<|ag Y ?_;refine RT.done ⟨by kernel_rfl,?_⟩;refine aV.n<|qq<|bj<|sr<|mv Y<|mv Y<|lE h λfE lN h=>ls _ Y Y lN<|ag Y<|dn ?_;cases fE;refine cF<|sr<|mv Y<|mv Y<|lE (F h) λfC jY h=>gt _ Y Y jY<|ag Y<|dn ?_;cases fC;refine cF<|sr<|mv Y<|lE (F h) λiE qb h=>ls _ Y Y qb<|ag Y<|dn ?_;cases iE;refine cF<|bB<|bG.n<|aV.n<|qq<|bh mixed<|fa Y Y<|lV Y Y Y<|bE (F h) λtX Da h=>cl (cx Da) ⟨Y,aq⟩<|fa Y Y<|lV Y Y Y<|bE h λqQ wX h=>cl (cx wX) ⟨Y,aq⟩<|bE h λrR A6 h=>cl (fW A6) ⟨Y,Y,aq⟩<|ag Y ?_;refine RT.done ⟨by kernel_rfl,?_⟩;refine aV.n<|bf ?_;obtain rfl:=O h;exact R1 Y;refine cT<|qq<|bh mixed<|fa Y Y<|lV Y Y Y<|bE (V h) λik nJ h=>cl (cx nJ) ⟨Y,aq⟩<|fa Y Y<|lV Y Y Y<|bE h λlQ rJ h=>cl (cx rJ) ⟨Y,aq⟩<|bE h λnq vC h=>cl (fW vC) ⟨Y,Y,aq⟩<|ag Y ?_;refine RT.done ⟨by kernel_rfl,?_⟩;refine aV.n<|bf<|bG.r<|aV.r ?_;obtain rfl:=O h;exact R1 Y;refine cT<|sr<|ag Y<|dn<|bf<|bG.r<|aV.r ?_;obtain rfl:=O (V h);exact R1 Y;refine cT<|sr<|ag Y<|dn<|bf<|bG.r<|aV.r ?_
 obtain rfl:=O (V h);exact R1 Y
theorem rL{x0:Zr}{x1:Zr}(N:Nat){r:Zr×Zr×Int}(h:fg x0 x1=some r):cK ah 169 N [.agg (eZ x0),.agg (eZ x1)] (.yM [.agg ((fZ N) r.1),.agg ((fZ N) r.2.1),ay r.2.2]):=by
 obtain⟨bp,bt⟩:=x0;obtain⟨cE,cD⟩:=x1;refine bA Tryz.func169 Y (af Y) (λec M vs hN hvs=>?_);unfold fg at h;refine sr<|bx Y<|bx Y<|al (cs:=[az false,nw N ax]) (by exact⟨au,bk,aq⟩) Y<|al (cs:=[az false,nw N ax]) (by exact⟨au,bk,aq⟩) Y<|ag Y<|dn<|qq<|bh mixed<|fa Y Y<|lV Y Y Y<|bE h λgh jJ h=>cl (cx jJ) ⟨Y,aq⟩<|fa Y Y ?_;refine lV Y Y Y<|bE h λgN kL h=>cl (cx kL) ⟨Y,aq⟩<|ag Y<|ag Y ?_;refine RT.done ⟨by kernel_rfl,?_⟩;refine aV.n<|qq<|sr<|mv Y<|lE h λfC jY h=>ln Y jY<|lE h λmN oa h=>eq _ Y Y (xI (p:=fC) (q:=0) oa)<|dn ?_;cases mN;refine fs<|sr<|mv Y<|mv Y ?_;obtain⟨⟨L4,Xv⟩,yh,h⟩:=bS (F h);refine RT.bM .none (o6 N yh) hN Y ⟨Y,Y,aq⟩ T<|mv Y<|ex Y Y<|ex Y Y<|ag Y<|ag Y<|dn<|sr<|mv Y<|bE h λiK nI h=>RT.bM .none (pL N nI) hN Y ⟨Y,aq⟩ T<|ag Y<|dn<|qq<|qq ?_;refine bK h (λj3=>AS.cM 52 [(2,.ptr 2 0),(3,.ptr 3 0),(4,.ptr 4 0),(5,.ptr 5 0),(8,.sv (slc 1 (List.map aY gN))),(9,.sv (nw N (slc 1 (List.map aY L4)))),(10,.sv (nw N (slc 1 (List.map aY iK)))),(36,aj j3.1)] [(5,⟨41,[aj false,.sv (nw N ax)]⟩),(4,⟨41,[aj false,.sv (nw N ax)]⟩),(3,⟨41,[aj cE,.sv (slc 1 (List.map aY cD))]⟩),(2,⟨41,[aj j3.2,.sv (slc 1 (List.map aY bt))]⟩)] []) (λh=>?_) (λj3 h=>?_)
 refine aW<|fa Y Y<|lV Y Y Y<|mv Y<|bE h λQU D6 h=>?_;cases bp;obtain rfl:=O (F D6);exact ww<|ww<|ww<|pF Y<|dn<|⟨(false,false),h,wR []⟩;refine gm Y<|lE (V D6) λqQ wX D6=>RT.C5 (.some Y Y) Y T wX<|lE D6 λrR A6 D6=>gg _ Y Y A6 ?_;obtain rfl:=O D6;exact pT Y<|dn<|⟨(rR,true),h,wR []⟩;obtain⟨L5,HL⟩:=j3
 try dsimp only
 refine aV.n ?_;refine bK h (λj5=>AS.cM 52 [(2,.ptr 2 0),(3,.ptr 3 0),(4,.ptr 4 0),(5,.ptr 5 0),(9,.sv (nw N (slc 1 (List.map aY j5.1)))),(10,.sv (nw N (slc 1 (List.map aY j5.2))))] [(5,⟨41,[aj false,.sv (nw N ax)]⟩),(4,⟨41,[aj false,.sv (nw N ax)]⟩),(3,⟨41,[aj cE,.sv (slc 1 (List.map aY cD))]⟩),(2,⟨41,[aj HL,.sv (slc 1 (List.map aY bt))]⟩)] []) (λh=>?_) (λj5 h=>?_);cases L5;exact fs<|⟨(L4,iK),(F h),wR []⟩;exact cT<|sr<|mv Y<|RT.wK (l:=[1]) (e:=aY) .none hN (.one Y (.nil)) T Y Y Y Y Y Y<|bE (V h) λuO FI h=>RT.bM .none ((o5 N FI).w (args':=[_,_]) ⟨dU,dU,aq⟩) hN Y ⟨Y,Y,aq⟩ T<|ag Y<|dn<|aW<|mv Y<|mv Y<|bE h λsy D1 h=>RT.bM .none ((kV N D1).w (args':=[_,_]) ⟨au,dU,aq⟩) hN Y ⟨Y,Y,aq⟩ T<|ag Y<|dn<|⟨(uO,sy),h,wR []⟩;obtain⟨Xw,QO⟩:=j5
 try dsimp only
 refine aV.n<|sr<|fa Y Y<|lV Y Y Y<|fa Y Y<|lV Y Y Y<|lE h λvv A7 h=>RT.SO .none _ Y Y T A7<|mv Y ?_;obtain⟨⟨QS,QT⟩,TI,h⟩:=bS h;refine RT.bM .none (fj N TI) hN Y ⟨Y,Y,aq⟩ T<|mv Y ?_;obtain⟨⟨C7,C8⟩,HO,h⟩:=bS h;refine RT.bM .none (fj N HO) hN Y ⟨Y,Y,aq⟩ T<|so Y Y Y<|so Y Y Y<|ag Y<|dn<|bf ?_;obtain rfl:=O h;exact RZ (.agg Y Y (.k2 Y Y) Y (.agg Y Y (.k2 Y Y) Y (.tmp Y (.nil))));refine cT<|sr<|bI (cs:=[_,_]) (cs':=[az false,nw N ax]) (.nil) ⟨au,bk,aq⟩<|bI (cs:=[_,_]) (cs':=[az false,nw N ax]) (.nil) ⟨au,bk,aq⟩<|so Y Y Y<|so Y Y Y<|ag Y<|dn<|bf<|aV.r ?_;obtain rfl:=O (V h);exact RZ (.agg Y Y (.k2 Y Y) Y (.agg Y Y (.k2 Y Y) Y (.tmp Y (.nil))))
theorem D9{x0:Zr}{x1:Zr}(N:Nat){r:Zr}(h:kH x0 x1=some r):cK ah 168 N [.agg (eZ x0),.agg (eZ x1)] (.agg ((fZ N) r)):=by
 obtain⟨bp,bt⟩:=x0;obtain⟨cE,cD⟩:=x1;refine bA Tryz.func168 Y (af Y) (λec M vs hN hvs=>?_);unfold kH at h;refine sr<|bx Y<|bx Y<|al (cs:=[az false,nw N ax]) (by exact⟨au,bk,aq⟩) Y<|dn<|qq<|bh mixed<|fa Y Y<|lV Y Y Y<|bE h λgh jJ h=>cl (cx jJ) ⟨Y,aq⟩<|fa Y Y<|lV Y Y Y<|bE h λgN kL h=>cl (cx kL) ⟨Y,aq⟩<|ag Y<|ag Y ?_;refine RT.done ⟨by kernel_rfl,?_⟩;refine aV.n<|qq<|bE h λPg HP oT=>?_;refine bT (λ(yj:(List Nat)×(List Nat))=>AS.cM 57 [(4,.ptr 4 0),(5,.sv (slc 1 (List.map aY yj.1))),(6,.sv (slc 1 (List.map aY yj.2)))] [(4,⟨41,[aj false,.sv (nw N ax)]⟩)] []) (λyj=>yj=Pg) ?_ (λyj Mg=>?_);refine bj ?_;refine bU HP (λAa=>AS.cM 57 [(4,.ptr 4 0),(5,.sv (slc 1 (List.map aY Aa.1))),(6,.sv (slc 1 (List.map aY Aa.2)))] [(4,⟨41,[aj false,.sv (nw N ax)]⟩)] []) (wR []) (λAa y12 G12 h Mh Mi=>?_);obtain⟨ye,DV⟩:=Aa
 try dsimp only
 refine qq<|qq ?_;refine bK h (λj16=>AS.cM 57 [(4,.ptr 4 0),(5,.sv (slc 1 (List.map aY ye))),(6,.sv (slc 1 (List.map aY DV))),(29,aj j16)] [(4,⟨41,[aj false,.sv (nw N ax)]⟩)] []) (λh=>?_) (λHM h=>?_);refine aW<|mv Y<|lE h λfC jY h=>ln Y jY<|lE h λmN oa h=>gt _ Y Y oa<|mv Y<|bE h λL7 mW h=>?_;cases mN;obtain rfl:=O (F mW);exact ww<|ww<|ww<|ww<|wu<|wu<|wu<|ww<|pF Y<|dn<|⟨false,h,wR []⟩;refine gm Y<|lE (V mW) λjH oR mW=>gn Y oR<|lE mW λlP vB mW=>gg _ Y Y vB<|gm Y<|bE mW λL6 nx mW=>?_;cases lP;refine gm Y<|lE (F nx) λnn uc nx=>gn Y uc<|lE nx λlQ rJ nx=>gg _ Y Y rJ ?_;obtain rfl:=O nx;refine gF Y ?_;obtain rfl:=O mW;exact pT Y<|dn<|⟨lQ,h,wR []⟩;obtain rfl:=O (V nx);refine ww<|ww<|ww<|gT Y ?_;obtain rfl:=O mW;exact pT Y<|dn<|⟨true,h,wR []⟩
 try dsimp only
 refine aV.n ?_;cases HM;refine cF<|cc<|aV.x<|aV.x<|bG.x<|aV.n ?_;obtain rfl:=O (F h);exact⟨(ye,DV),Mi _ Y,wR []⟩;refine cT<|bB<|aV.n<|bj<|sr<|mv Y<|mv Y ?_;obtain⟨⟨abm,Xx⟩,Ab,h⟩:=bS (V h);refine RT.bM .none (o6 N Ab) hN Y ⟨Y,Y,aq⟩ T<|mv Y<|ex Y Y<|ex Y Y<|ag Y<|ag Y<|dn<|aW<|mv Y<|mv Y<|bE h λCe J1 h=>RT.bM .none (pL N J1) hN Y ⟨Y,aq⟩ T<|ag Y<|ag Y<|RT.done<|bG.n ?_;obtain rfl:=O h;exact aV.n ⟨(DV,Ce),Mh _ Y,dM id Y Y Y Y Y ⟨.ptr,.sv au,.sv dU,aq⟩ ⟨⟨_,Y,⟨.sv au,.sv au,aq⟩⟩,aq⟩ trivial (λ_ _=>Y)⟩;subst Mg;obtain⟨L8,L9⟩:=yj
 try dsimp only
 refine aV.n<|qq<|sr<|mv Y<|lE oT λmO rS oT=>ln Y rS<|lE oT λuM FH oT=>eq _ Y Y (xI (p:=mO) (q:=0) FH)<|dn ?_;cases uM;refine fs<|sr<|mv Y<|bE (F oT) λwj h46 oT=>cl (iA h46) ⟨Y,aq⟩<|mv Y<|bE oT λux h48 oT=>cl (iA h48) ⟨Y,aq⟩<|ag Y<|ag Y<|dn<|qq<|bE oT λe24 ach TQ=>?_;refine bT (λ(C9:Nat)=>AS.cM 57 [(4,.ptr 4 0),(9,.sv (.v (.int .u64 ((C9:Nat):Int))))] [(4,⟨41,[aj false,.sv (nw N ax)]⟩)] []) (λC9=>C9=e24) ?_ (λC9 aci=>?_);refine bj ?_;refine bU ach (λV8=>AS.cM 57 [(4,.ptr 4 0),(9,.sv (.v (.int .u64 ((V8.1:Nat):Int)))),(10,.sv (.v (.int .u64 ((V8.2:Nat):Int))))] [(4,⟨41,[aj false,.sv (nw N ax)]⟩)] []) (wR []) (λV8 y24 G24 h acj ack=>?_);obtain⟨I0,yf⟩:=V8
 try dsimp only
 refine qq<|sr<|mv Y<|lE h λwN HN h=>gt _ Y Y (ZD (p:=0) (q:=yf) HN)<|dn ?_;cases wN;refine cF<|cc<|aV.x<|aV.x<|bG.x<|aV.n ?_;obtain rfl:=O (F h);exact⟨I0,ack _ Y,wR []⟩;refine cT<|bB<|aV.n<|bj<|bh mixed<|mv Y<|mv Y<|mv Y<|bE (V h) λFG KV h=>RT.rem .none _ Y Y T (ZE KV) (O0 KV)<|ag Y<|ag Y ?_;refine RT.done ⟨by kernel_rfl,?_⟩;refine bG.n ?_;obtain rfl:=O h;exact aV.n ⟨(yf,FG),acj _ Y,wR []⟩;subst aci
 try dsimp only
 refine aV.n<|sr<|mv Y ?_;obtain⟨⟨QV,QW⟩,Me,TQ⟩:=bS TQ;refine RT.bM .none (jh N Me) hN Y ⟨Y,Y,aq⟩ T<|so Y Y Y<|dn<|bf ?_;obtain rfl:=O TQ;exact RZ (.agg Y Y (.k2 Y Y) Y (.nil));refine cT<|sr<|mv Y<|bE (V oT) λvu EU oT=>RT.bM .none (nv N EU) hN Y ⟨Y,aq⟩ T ?_;obtain⟨⟨FE,FF⟩,D4,oT⟩:=bS oT;refine RT.bM .none (fj N D4) hN Y ⟨Y,Y,aq⟩ T<|so Y Y Y<|dn<|bf<|aV.r ?_;obtain rfl:=O oT;exact RZ (.agg Y Y (.k2 Y Y) Y (.nil))
end
section
open Go.Fw
noncomputable def gQ(x0:Zr)(x1:Zr)(x2:Zr)(x3:Zr):Option (Zr×Zr):=match x0 with|⟨bp,bt⟩=>match x1 with|⟨cE,cD⟩=>match x2 with|⟨oe,og⟩=>match x3 with|⟨ym,yn⟩=>(c7 ⟨bp,bt⟩ ⟨ym,yn⟩).bind λ⟨ir,hG⟩=>(c7 ⟨oe,og⟩ ⟨cE,cD⟩).bind λ⟨kW,kX⟩=>(mQ ⟨ir,hG⟩ ⟨kW,kX⟩).bind λ⟨kF,kG⟩=>(c7 ⟨cE,cD⟩ ⟨ym,yn⟩).bind λ⟨nK,nL⟩=>some (⟨kF,kG⟩,⟨nK,nL⟩)
noncomputable def gR(x0:Zr)(x1:Zr)(x2:Zr)(x3:Zr):Option (Zr×Zr):=match x0 with|⟨bp,bt⟩=>match x1 with|⟨cE,cD⟩=>match x2 with|⟨oe,og⟩=>match x3 with|⟨ym,yn⟩=>(c7 ⟨bp,bt⟩ ⟨ym,yn⟩).bind λ⟨ir,hG⟩=>(c7 ⟨oe,og⟩ ⟨cE,cD⟩).bind λ⟨kW,kX⟩=>(mR ⟨ir,hG⟩ ⟨kW,kX⟩).bind λ⟨kF,kG⟩=>(c7 ⟨cE,cD⟩ ⟨ym,yn⟩).bind λ⟨nK,nL⟩=>some (⟨kF,kG⟩,⟨nK,nL⟩)
noncomputable def gS(x0:Zr)(x1:Zr)(x2:Zr)(x3:Zr):Option (Zr×Zr):=match x0 with|⟨bp,bt⟩=>match x1 with|⟨cE,cD⟩=>match x2 with|⟨oe,og⟩=>match x3 with|⟨ym,yn⟩=>(c7 ⟨bp,bt⟩ ⟨oe,og⟩).bind λ⟨ir,hG⟩=>(c7 ⟨cE,cD⟩ ⟨ym,yn⟩).bind λ⟨kW,kX⟩=>some (⟨ir,hG⟩,⟨kW,kX⟩)
noncomputable def gU(x0:Zr)(x1:Zr)(x2:Zr)(x3:Zr):Option (Zr×Zr):=match x0 with|⟨bp,bt⟩=>match x1 with|⟨cE,cD⟩=>match x2 with|⟨oe,og⟩=>match x3 with|⟨ym,yn⟩=>(c7 ⟨bp,bt⟩ ⟨ym,yn⟩).bind λ⟨ir,hG⟩=>(c7 ⟨cE,cD⟩ ⟨oe,og⟩).bind λ⟨kW,kX⟩=>some (⟨ir,hG⟩,⟨kW,kX⟩)
noncomputable def dg(x0:Qr):Option (Zr×Zr):=match x0 with|⟨⟨bp,bt⟩,⟨bC,bF⟩⟩=>(c9 ⟨bC,bF⟩).bind λx6=>(some (decide ((x6:Int)=0))).bind λx8=>(bif x8 then(cg 1).bind λ⟨QX,QY⟩=>some (⟨bp,bt⟩,⟨QX,QY⟩)else(some (decide ((x6:Int)=(-1)))).bind λgh=>(bif gh then(fK ⟨bp,bt⟩).bind λ⟨kF,kG⟩=>(fK ⟨bC,bF⟩).bind λ⟨nK,nL⟩=>some (⟨kF,kG⟩,⟨nK,nL⟩)else some (⟨bp,bt⟩,⟨bC,bF⟩)))
noncomputable def eY(x0:Zr)(x1:Zr):Option (Qr):=match x0 with|⟨bp,bt⟩=>match x1 with|⟨cE,cD⟩=>(c9 ⟨cE,cD⟩).bind λx9=>(some (decide ((x9:Int)<0))).bind λdZ=>cQ (λ(j2:Bool×(List Nat)×Bool×(List Nat))=>match j2 with|⟨HQ,HR,HS,HT⟩=>(kH ⟨HS,HT⟩ ⟨HQ,HR⟩).bind λ⟨kY,kZ⟩=>(fg ⟨HS,HT⟩ ⟨kY,kZ⟩).bind λ⟨⟨A8,A9⟩,⟨TS,TT⟩,acm⟩=>(fg ⟨HQ,HR⟩ ⟨kY,kZ⟩).bind λ⟨⟨yo,yp⟩,⟨TU,TV⟩,acn⟩=>(dJ ⟨yo,yp⟩).bind λ⟨TW,TX⟩=>cQ (λ(Mj:Bool)=>cQ (λ(j7:Bool×(List Nat))=>match j7 with|⟨HU,HV⟩=>some ⟨⟨A8,A9⟩,⟨HU,HV⟩⟩) λK7=>(bif Mj then K7 (false,[])else K7 (yo,yp))) λK5=>(bif TX then(some (decide ((TW:Int)=1))).bind λmO=>some mO else some false).bind λQZ=>K5 QZ) λK2=>(bif dZ then(fK ⟨bp,bt⟩).bind λ⟨ir,hG⟩=>(fK ⟨cE,cD⟩).bind λ⟨Mk,Ml⟩=>K2 (Mk,Ml,ir,hG)else K2 (cE,cD,bp,bt))
noncomputable def dK(x0:Qr):Option (Int×Int×Bool):=match x0 with|⟨⟨bp,bt⟩,⟨bC,bF⟩⟩=>(dJ ⟨bp,bt⟩).bind λ⟨Ea,XS⟩=>(dJ ⟨bC,bF⟩).bind λ⟨Cy,XT⟩=>cQ (λ(HW:Bool)=>(bif HW then some (0,0,false)else(some (decide ((Cy:Int)=0))).bind λvu=>cQ (λ(Q0:Int×Int)=>match Q0 with|⟨FJ,Q1⟩=>some (FJ,Q1,true)) λZM=>(bif vu then ZM (Ea,1)else(some (decide ((Cy:Int)<0))).bind λwj=>cQ (λ(Q2:Int×Int)=>match Q2 with|⟨Mm,Mn⟩=>ZM (Mm,Mn)) λZN=>(bif wj then(some (IntKind.i64.wrap (0-Ea))).bind λux=>(some (IntKind.i64.wrap (0-Cy))).bind λwN=>ZN (ux,wN)else ZN (Ea,Cy))))) λV9=>(some (!XS)).bind λiU=>(bif iU then some true else(some (!XT)).bind λlP=>some lP).bind λMo=>(bif Mo then some true else(some (decide ((Ea:Int)<=(-2147483648)))).bind λlQ=>some lQ).bind λTY=>(bif TY then some true else(some (decide ((2147483648:Int)<=Ea))).bind λtX=>some tX).bind λTZ=>(bif TZ then some true else(some (decide ((Cy:Int)<=(-2147483648)))).bind λrR=>some rR).bind λT0=>(bif T0 then some true else(some (decide ((2147483648:Int)<=Cy))).bind λuO=>some uO).bind λT1=>V9 T1
noncomputable def e5(x0:Int)(x1:Int):Option (Qr):=(cu (λ(s6:Int×Int)=>match s6 with|⟨rO,J8⟩=>(show Option ((Int×Int)⊕(Int))from(some (decide ((J8:Int)≠0))).bind λdZ=>(bif dZ then(JR rO J8).bind λfE=>some (.inl (J8,fE))else some (.inr rO)))) (x0,x1)).bind λEb=>(some (decide ((Eb:Int)<0))).bind λgN=>cQ (λ(J9:Int)=>(some (decide ((J9:Int)=x1))).bind λiE=>(bif iE then(wI x0 J9).bind λik=>(cg ik).bind λ⟨lS,kT⟩=>some ⟨⟨lS,kT⟩,⟨false,[]⟩⟩else(wI x0 J9).bind λiK=>(cg iK).bind λ⟨uP,uQ⟩=>(wI x1 J9).bind λtZ=>(cg tZ).bind λ⟨Mp,Mq⟩=>some ⟨⟨uP,uQ⟩,⟨Mp,Mq⟩⟩)) λK8=>(bif gN then(some (IntKind.i64.wrap (0-Eb))).bind λfC=>K8 fC else K8 Eb)
noncomputable def o7(x0:Int):Option (Int):=(some (decide ((x0:Int)<0))).bind λx5=>(bif x5 then some (-1)else(some (decide ((0:Int)<x0))).bind λx8=>(bif x8 then some 1 else some 0))
noncomputable def ji(x1:Qr)(x2:Qr):Option (Qr):=match x1 with|⟨⟨cE,cD⟩,⟨gE,gG⟩⟩=>match x2 with|⟨⟨oe,og⟩,⟨Ba,Bb⟩⟩=>(dg ⟨⟨cE,cD⟩,⟨gE,gG⟩⟩).bind λ⟨⟨jK,jL⟩,⟨jZ,j0⟩⟩=>(dg ⟨⟨oe,og⟩,⟨Ba,Bb⟩⟩).bind λ⟨⟨jM,jN⟩,⟨j1,ke⟩⟩=>(gQ ⟨jK,jL⟩ ⟨jZ,j0⟩ ⟨jM,jN⟩ ⟨j1,ke⟩).bind λ⟨⟨kf,kg⟩,⟨kj,kn⟩⟩=>(eY ⟨kf,kg⟩ ⟨kj,kn⟩).bind λ⟨⟨nH,mP⟩,⟨o8,o9⟩⟩=>some ⟨⟨nH,mP⟩,⟨o8,o9⟩⟩
noncomputable def jk(x1:Qr)(x2:Qr):Option (Qr):=match x1 with|⟨⟨cE,cD⟩,⟨gE,gG⟩⟩=>match x2 with|⟨⟨oe,og⟩,⟨Ba,Bb⟩⟩=>(dg ⟨⟨cE,cD⟩,⟨gE,gG⟩⟩).bind λ⟨⟨jK,jL⟩,⟨jZ,j0⟩⟩=>(dg ⟨⟨oe,og⟩,⟨Ba,Bb⟩⟩).bind λ⟨⟨jM,jN⟩,⟨j1,ke⟩⟩=>(gR ⟨jK,jL⟩ ⟨jZ,j0⟩ ⟨jM,jN⟩ ⟨j1,ke⟩).bind λ⟨⟨kf,kg⟩,⟨kj,kn⟩⟩=>(eY ⟨kf,kg⟩ ⟨kj,kn⟩).bind λ⟨⟨nH,mP⟩,⟨o8,o9⟩⟩=>some ⟨⟨nH,mP⟩,⟨o8,o9⟩⟩
noncomputable def jl(x1:Qr)(x2:Qr):Option (Qr):=match x1 with|⟨⟨cE,cD⟩,⟨gE,gG⟩⟩=>match x2 with|⟨⟨oe,og⟩,⟨Ba,Bb⟩⟩=>(dg ⟨⟨cE,cD⟩,⟨gE,gG⟩⟩).bind λ⟨⟨jK,jL⟩,⟨jZ,j0⟩⟩=>(dg ⟨⟨oe,og⟩,⟨Ba,Bb⟩⟩).bind λ⟨⟨jM,jN⟩,⟨j1,ke⟩⟩=>(gS ⟨jK,jL⟩ ⟨jZ,j0⟩ ⟨jM,jN⟩ ⟨j1,ke⟩).bind λ⟨⟨kf,kg⟩,⟨kj,kn⟩⟩=>(eY ⟨kf,kg⟩ ⟨kj,kn⟩).bind λ⟨⟨nH,mP⟩,⟨o8,o9⟩⟩=>some ⟨⟨nH,mP⟩,⟨o8,o9⟩⟩
noncomputable def hH(x1:Qr)(x2:Qr):Option (Qr):=match x1 with|⟨⟨cE,cD⟩,⟨gE,gG⟩⟩=>match x2 with|⟨⟨oe,og⟩,⟨Ba,Bb⟩⟩=>(dg ⟨⟨cE,cD⟩,⟨gE,gG⟩⟩).bind λ⟨⟨jK,jL⟩,⟨jZ,j0⟩⟩=>(dg ⟨⟨oe,og⟩,⟨Ba,Bb⟩⟩).bind λ⟨⟨jM,jN⟩,⟨j1,ke⟩⟩=>(gU ⟨jK,jL⟩ ⟨jZ,j0⟩ ⟨jM,jN⟩ ⟨j1,ke⟩).bind λ⟨⟨kf,kg⟩,⟨kj,kn⟩⟩=>(eY ⟨kf,kg⟩ ⟨kj,kn⟩).bind λ⟨⟨nH,mP⟩,⟨o8,o9⟩⟩=>some ⟨⟨nH,mP⟩,⟨o8,o9⟩⟩
noncomputable def cG(x0:Int):Option (Qr):=(cg x0).bind λ⟨T2,T3⟩=>some ⟨⟨T2,T3⟩,⟨false,[]⟩⟩
noncomputable def cH(x0:Qr):Option (Qr):=match x0 with|⟨⟨bp,bt⟩,⟨bC,bF⟩⟩=>(dK ⟨⟨bp,bt⟩,⟨bC,bF⟩⟩).bind λ⟨x8a,x8b,x8c⟩=>(bif x8c then(e5 x8a x8b).bind λ⟨⟨kW,kX⟩,⟨FK,FL⟩⟩=>some ⟨⟨kW,kX⟩,⟨FK,FL⟩⟩else(dg ⟨⟨bp,bt⟩,⟨bC,bF⟩⟩).bind λ⟨⟨Mr,Ms⟩,⟨Mt,Mu⟩⟩=>(eY ⟨Mr,Ms⟩ ⟨Mt,Mu⟩).bind λ⟨⟨Q3,Q4⟩,⟨Q5,Q6⟩⟩=>some ⟨⟨Q3,Q4⟩,⟨Q5,Q6⟩⟩)
noncomputable def eC(x0:Qr):Option (Int):=match x0 with|⟨⟨bp,bt⟩,⟨bC,bF⟩⟩=>(c9 ⟨bC,bF⟩).bind λx5=>(some (decide ((x5:Int)<0))).bind λx6=>(bif x6 then(c9 ⟨bp,bt⟩).bind λx9=>(some (IntKind.i64.wrap (0-x9))).bind λdZ=>some dZ else(c9 ⟨bp,bt⟩).bind λgh=>some gh)
noncomputable def ko(x0:Qr)(x1:Qr):Option (Qr):=match x0 with|⟨⟨bp,bt⟩,⟨bC,bF⟩⟩=>match x1 with|⟨⟨cE,cD⟩,⟨gE,gG⟩⟩=>(dK ⟨⟨bp,bt⟩,⟨bC,bF⟩⟩).bind λ⟨Bc,yq,Bd⟩=>(dK ⟨⟨cE,cD⟩,⟨gE,gG⟩⟩).bind λ⟨Be,yt,Bf⟩=>cQ (λ(sH:Bool)=>(bif sH then(some (IntKind.i64.wrap (Bc*yt))).bind λiK=>(some (IntKind.i64.wrap (Be*yq))).bind λjX=>(some (IntKind.i64.wrap (iK+jX))).bind λtZ=>(some (IntKind.i64.wrap (yq*yt))).bind λpR=>(e5 tZ pR).bind λ⟨⟨FM,FN⟩,⟨FO,FP⟩⟩=>some ⟨⟨FM,FN⟩,⟨FO,FP⟩⟩else(ji ⟨⟨bp,bt⟩,⟨bC,bF⟩⟩ ⟨⟨cE,cD⟩,⟨gE,gG⟩⟩).bind λ⟨⟨y9,za⟩,⟨FR,FU⟩⟩=>some ⟨⟨y9,za⟩,⟨FR,FU⟩⟩)) λK3=>(bif Bd then some Bf else some false).bind λzb=>K3 zb
noncomputable def kp(x0:Qr)(x1:Qr):Option (Qr):=match x0 with|⟨⟨bp,bt⟩,⟨bC,bF⟩⟩=>match x1 with|⟨⟨cE,cD⟩,⟨gE,gG⟩⟩=>(dK ⟨⟨bp,bt⟩,⟨bC,bF⟩⟩).bind λ⟨Bc,yq,Bd⟩=>(dK ⟨⟨cE,cD⟩,⟨gE,gG⟩⟩).bind λ⟨Be,yt,Bf⟩=>cQ (λ(sH:Bool)=>(bif sH then(some (IntKind.i64.wrap (Bc*yt))).bind λiK=>(some (IntKind.i64.wrap (Be*yq))).bind λjX=>(some (IntKind.i64.wrap (iK-jX))).bind λtZ=>(some (IntKind.i64.wrap (yq*yt))).bind λpR=>(e5 tZ pR).bind λ⟨⟨FM,FN⟩,⟨FO,FP⟩⟩=>some ⟨⟨FM,FN⟩,⟨FO,FP⟩⟩else(jk ⟨⟨bp,bt⟩,⟨bC,bF⟩⟩ ⟨⟨cE,cD⟩,⟨gE,gG⟩⟩).bind λ⟨⟨y9,za⟩,⟨FR,FU⟩⟩=>some ⟨⟨y9,za⟩,⟨FR,FU⟩⟩)) λK3=>(bif Bd then some Bf else some false).bind λzb=>K3 zb
noncomputable def jm(x0:Qr)(x1:Qr):Option (Qr):=match x0 with|⟨⟨bp,bt⟩,⟨bC,bF⟩⟩=>match x1 with|⟨⟨cE,cD⟩,⟨gE,gG⟩⟩=>(dK ⟨⟨bp,bt⟩,⟨bC,bF⟩⟩).bind λ⟨Bc,yq,Bd⟩=>(dK ⟨⟨cE,cD⟩,⟨gE,gG⟩⟩).bind λ⟨Be,yt,Bf⟩=>cQ (λ(sH:Bool)=>(bif sH then(some (IntKind.i64.wrap (Bc*Be))).bind λiK=>(some (IntKind.i64.wrap (yq*yt))).bind λjX=>(e5 iK jX).bind λ⟨⟨Q7,Q8⟩,⟨Q9,Ra⟩⟩=>some ⟨⟨Q7,Q8⟩,⟨Q9,Ra⟩⟩else(jl ⟨⟨bp,bt⟩,⟨bC,bF⟩⟩ ⟨⟨cE,cD⟩,⟨gE,gG⟩⟩).bind λ⟨⟨y5,y7⟩,⟨Rb,Rc⟩⟩=>some ⟨⟨y5,y7⟩,⟨Rb,Rc⟩⟩)) λK3=>(bif Bd then some Bf else some false).bind λzb=>K3 zb
noncomputable def oh(x0:Qr)(x1:Qr):Option (Qr×Int):=match x0 with|⟨⟨bp,bt⟩,⟨bC,bF⟩⟩=>match x1 with|⟨⟨cE,cD⟩,⟨gE,gG⟩⟩=>(eC ⟨⟨cE,cD⟩,⟨gE,gG⟩⟩).bind λgh=>(some (decide ((gh:Int)=0))).bind λfE=>(bif fE then some (⟨⟨false,[]⟩,⟨false,[]⟩⟩,7)else(dK ⟨⟨bp,bt⟩,⟨bC,bF⟩⟩).bind λ⟨Mv,Pn,T4⟩=>(dK ⟨⟨cE,cD⟩,⟨gE,gG⟩⟩).bind λ⟨Ka,Kb,T5⟩=>cQ (λ(Bg:Bool)=>(bif Bg then(some (decide ((Ka:Int)<0))).bind λtZ=>cQ (λ(j6:Int×Int)=>match j6 with|⟨XU,XV⟩=>(some (IntKind.i64.wrap (XU*Kb))).bind λmO=>(some (IntKind.i64.wrap (Pn*XV))).bind λvu=>(e5 mO vu).bind λ⟨⟨FE,FF⟩,⟨Rd,Re⟩⟩=>some (⟨⟨FE,FF⟩,⟨Rd,Re⟩⟩,0)) λK6=>(bif tZ then(some (IntKind.i64.wrap (0-Mv))).bind λrR=>(some (IntKind.i64.wrap (0-Ka))).bind λuN=>K6 (rR,uN)else K6 (Mv,Ka))else(hH ⟨⟨bp,bt⟩,⟨bC,bF⟩⟩ ⟨⟨cE,cD⟩,⟨gE,gG⟩⟩).bind λ⟨⟨Fz,FA⟩,⟨Rf,Rg⟩⟩=>some (⟨⟨Fz,FA⟩,⟨Rf,Rg⟩⟩,0))) λK3=>(bif T4 then some T5 else some false).bind λRh=>K3 Rh)
noncomputable def l9(x0:Qr):Option (Qr):=match x0 with|⟨⟨bp,bt⟩,⟨bC,bF⟩⟩=>(cH ⟨⟨bp,bt⟩,⟨bC,bF⟩⟩).bind λ⟨⟨Bh,Ec⟩,⟨Cz,Ed⟩⟩=>(fK ⟨Bh,Ec⟩).bind λ⟨vH,vI⟩=>some ⟨⟨vH,vI⟩,⟨Cz,Ed⟩⟩
noncomputable def om(x0:Qr)(x1:Qr):Option (Int):=match x0 with|⟨⟨bp,bt⟩,⟨bC,bF⟩⟩=>match x1 with|⟨⟨cE,cD⟩,⟨gE,gG⟩⟩=>(dg ⟨⟨bp,bt⟩,⟨bC,bF⟩⟩).bind λ⟨⟨jK,jL⟩,⟨jZ,j0⟩⟩=>(dg ⟨⟨cE,cD⟩,⟨gE,gG⟩⟩).bind λ⟨⟨jM,jN⟩,⟨j1,ke⟩⟩=>(c9 ⟨jK,jL⟩).bind λjH=>(c9 ⟨jM,jN⟩).bind λik=>cQ (λ(Bg:Bool)=>(bif Bg then(some (IntKind.i64.wrap (jH-ik))).bind λqQ=>(o7 qQ).bind λrR=>some rR else(c7 ⟨jK,jL⟩ ⟨j1,ke⟩).bind λ⟨Ri,Rj⟩=>(c7 ⟨jM,jN⟩ ⟨jZ,j0⟩).bind λ⟨Rk,Rl⟩=>(mS ⟨Ri,Rj⟩ ⟨Rk,Rl⟩).bind λsy=>some sy)) λK3=>(some (decide ((jH:Int)≠ik))).bind λlQ=>(bif lQ then some true else(some (decide ((jH:Int)=0))).bind λz8=>some z8).bind λRm=>K3 Rm
end
section
open Go.Fw Go.Fw.Z Go.RowKit
abbrev Mw:List (Value×Value):=[(.int .u8 43,.agg #[.func (.func 187) #[] #[]]),(.int .u8 45,.agg #[.func (.func 189) #[] #[]]),(.int .u8 42,.agg #[.func (.func 191) #[] #[]]),(.int .u8 47,.agg #[.func (.func 192) #[] #[]])]
theorem iB:Pure ah 167 [] (LO Mw):=by
 refine bz Tryz.func167 Y (af Y) (λec M vs hvs=>?_);refine bH<|aW<|RT.AF .none Y T<|RT.done<|aV.n<|bH<|O4 (af Y) Y Y Y (λS' h0=>?_);exact bf (R1 h0)
theorem sI{x0:Zr}{x1:Zr}{x2:Zr}{x3:Zr}(N:Nat){r:Zr×Zr}(h:gQ x0 x1 x2 x3=some r):cK ah 187 N [.agg (eZ x0),.agg (eZ x1),.agg (eZ x2),.agg (eZ x3)] (.yM [.agg ((fZ N) r.1),.agg ((fZ N) r.2)]):=by
 obtain⟨bp,bt⟩:=x0;obtain⟨cE,cD⟩:=x1;obtain⟨oe,og⟩:=x2;obtain⟨ym,yn⟩:=x3;refine bA Tryz.func187 Y (af Y) (λec M vs hN hvs=>?_);unfold gQ at h;refine sr<|bx Y<|bx Y<|bx Y<|bx Y<|al (cs:=[az false,nw N ax]) (by exact⟨au,bk,aq⟩) Y<|al (cs:=[az false,nw N ax]) (by exact⟨au,bk,aq⟩) Y<|dn<|qq<|bh mixed<|ld Y Y (.k2 Y Y)<|ld Y Y (.k2 Y Y) ?_;obtain⟨⟨ir,hG⟩,gO,h⟩:=bS h;refine RT.bM .none (eu N gO) hN Y ⟨Y,Y,aq⟩ T<|ld Y Y (.k2 Y Y)<|ld Y Y (.k2 Y Y) ?_;obtain⟨⟨kW,kX⟩,iZ,h⟩:=bS h;refine RT.bM .none (eu N iZ) hN Y ⟨Y,Y,aq⟩ T ?_;obtain⟨⟨kF,kG⟩,kL,h⟩:=bS h;refine RT.bM .none ((D5 N kL).w (args':=[_,_]) ⟨(SV.dB (show cJ [az ir,nw N (slc 1 (List.map aY hG))] _ from⟨au,dU,aq⟩)),(SV.dB (show cJ [az kW,nw N (slc 1 (List.map aY kX))] _ from⟨au,dU,aq⟩)),aq⟩) hN Y ⟨Y,Y,aq⟩ T<|ld Y Y (.k2 Y Y)<|ld Y Y (.k2 Y Y) ?_;obtain⟨⟨nK,nL⟩,oa,h⟩:=bS h;refine RT.bM .none (eu N oa) hN Y ⟨Y,Y,aq⟩ T<|so Y Y Y<|so Y Y Y ?_;refine RT.done ⟨by kernel_rfl,?_⟩;refine aV.n<|bf ?_;obtain rfl:=O h;exact RZ (.agg Y Y (.k2 Y Y) Y (.agg Y Y (.k2 Y Y) Y (.nil)))
theorem sJ{x0:Zr}{x1:Zr}{x2:Zr}{x3:Zr}(N:Nat){r:Zr×Zr}(h:gR x0 x1 x2 x3=some r):cK ah 189 N [.agg (eZ x0),.agg (eZ x1),.agg (eZ x2),.agg (eZ x3)] (.yM [.agg ((fZ N) r.1),.agg ((fZ N) r.2)]):=by
 obtain⟨bp,bt⟩:=x0;obtain⟨cE,cD⟩:=x1;obtain⟨oe,og⟩:=x2;obtain⟨ym,yn⟩:=x3;refine bA Tryz.func189 Y (af Y) (λec M vs hN hvs=>?_);unfold gR at h;refine sr<|bx Y<|bx Y<|bx Y<|bx Y<|al (cs:=[az false,nw N ax]) (by exact⟨au,bk,aq⟩) Y<|al (cs:=[az false,nw N ax]) (by exact⟨au,bk,aq⟩) Y<|dn<|qq<|bh mixed<|ld Y Y (.k2 Y Y)<|ld Y Y (.k2 Y Y) ?_;obtain⟨⟨ir,hG⟩,gO,h⟩:=bS h;refine RT.bM .none (eu N gO) hN Y ⟨Y,Y,aq⟩ T<|ld Y Y (.k2 Y Y)<|ld Y Y (.k2 Y Y) ?_;obtain⟨⟨kW,kX⟩,iZ,h⟩:=bS h;refine RT.bM .none (eu N iZ) hN Y ⟨Y,Y,aq⟩ T ?_;obtain⟨⟨kF,kG⟩,kL,h⟩:=bS h;refine RT.bM .none ((D7 N kL).w (args':=[_,_]) ⟨(SV.dB (show cJ [az ir,nw N (slc 1 (List.map aY hG))] _ from⟨au,dU,aq⟩)),(SV.dB (show cJ [az kW,nw N (slc 1 (List.map aY kX))] _ from⟨au,dU,aq⟩)),aq⟩) hN Y ⟨Y,Y,aq⟩ T<|ld Y Y (.k2 Y Y)<|ld Y Y (.k2 Y Y) ?_;obtain⟨⟨nK,nL⟩,oa,h⟩:=bS h;refine RT.bM .none (eu N oa) hN Y ⟨Y,Y,aq⟩ T<|so Y Y Y<|so Y Y Y ?_;refine RT.done ⟨by kernel_rfl,?_⟩;refine aV.n<|bf ?_;obtain rfl:=O h;exact RZ (.agg Y Y (.k2 Y Y) Y (.agg Y Y (.k2 Y Y) Y (.nil)))
theorem sK{x0:Zr}{x1:Zr}{x2:Zr}{x3:Zr}(N:Nat){r:Zr×Zr}(h:gS x0 x1 x2 x3=some r):cK ah 191 N [.agg (eZ x0),.agg (eZ x1),.agg (eZ x2),.agg (eZ x3)] (.yM [.agg ((fZ N) r.1),.agg ((fZ N) r.2)]):=by
 obtain⟨bp,bt⟩:=x0;obtain⟨cE,cD⟩:=x1;obtain⟨oe,og⟩:=x2;obtain⟨ym,yn⟩:=x3;refine bA Tryz.func191 Y (af Y) (λec M vs hN hvs=>?_);unfold gS at h;refine sr<|bx Y<|bx Y<|bx Y<|bx Y<|al (cs:=[az false,nw N ax]) (by exact⟨au,bk,aq⟩) Y<|al (cs:=[az false,nw N ax]) (by exact⟨au,bk,aq⟩) Y<|dn<|qq<|bh mixed<|ld Y Y (.k2 Y Y)<|ld Y Y (.k2 Y Y) ?_;obtain⟨⟨ir,hG⟩,gO,h⟩:=bS h;refine RT.bM .none (eu N gO) hN Y ⟨Y,Y,aq⟩ T<|ld Y Y (.k2 Y Y)<|ld Y Y (.k2 Y Y) ?_;obtain⟨⟨kW,kX⟩,iZ,h⟩:=bS h;refine RT.bM .none (eu N iZ) hN Y ⟨Y,Y,aq⟩ T<|so Y Y Y<|so Y Y Y ?_;refine RT.done ⟨by kernel_rfl,?_⟩;refine aV.n<|bf ?_;obtain rfl:=O h;exact RZ (.agg Y Y (.k2 Y Y) Y (.agg Y Y (.k2 Y Y) Y (.nil)))
theorem sL{x0:Zr}{x1:Zr}{x2:Zr}{x3:Zr}(N:Nat){r:Zr×Zr}(h:gU x0 x1 x2 x3=some r):cK ah 192 N [.agg (eZ x0),.agg (eZ x1),.agg (eZ x2),.agg (eZ x3)] (.yM [.agg ((fZ N) r.1),.agg ((fZ N) r.2)]):=by
 obtain⟨bp,bt⟩:=x0;obtain⟨cE,cD⟩:=x1;obtain⟨oe,og⟩:=x2;obtain⟨ym,yn⟩:=x3;refine bA Tryz.func192 Y (af Y) (λec M vs hN hvs=>?_);unfold gU at h;refine sr<|bx Y<|bx Y<|bx Y<|bx Y<|al (cs:=[az false,nw N ax]) (by exact⟨au,bk,aq⟩) Y<|al (cs:=[az false,nw N ax]) (by exact⟨au,bk,aq⟩) Y<|dn<|qq<|bh mixed<|ld Y Y (.k2 Y Y)<|ld Y Y (.k2 Y Y) ?_;obtain⟨⟨ir,hG⟩,gO,h⟩:=bS h;refine RT.bM .none (eu N gO) hN Y ⟨Y,Y,aq⟩ T<|ld Y Y (.k2 Y Y)<|ld Y Y (.k2 Y Y) ?_;obtain⟨⟨kW,kX⟩,iZ,h⟩:=bS h;refine RT.bM .none (eu N iZ) hN Y ⟨Y,Y,aq⟩ T<|so Y Y Y<|so Y Y Y ?_;refine RT.done ⟨by kernel_rfl,?_⟩;refine aV.n<|bf ?_;obtain rfl:=O h;exact RZ (.agg Y Y (.k2 Y Y) Y (.agg Y Y (.k2 Y Y) Y (.nil)))
theorem dO{x0:Qr}{r:Zr×Zr}(h:dg x0=some r):Pure ah 127 [.agg (eQ x0)] (.yM [.agg (eZ r.1),.agg (eZ r.2)]):=by
 obtain⟨⟨bp,bt⟩,⟨bC,bF⟩⟩:=x0;refine bz Tryz.func127 Y (af Y) (λec M vs hvs=>?_);unfold dg at h;refine sr<|bx Y<|al (cs:=[az false,ax]) (by exact⟨au,aB,aq⟩) Y<|al (cs:=[az false,ax]) (by exact⟨au,aB,aq⟩) Y<|dn<|qq<|sr<|fa Y Y<|ld Y Y (.k2 Y Y)<|bE h λx6 h6 h=>cl (eX h6) ⟨Y,aq⟩<|dn<|bj<|sr<|lE h λx8 h8 h=>eq _ Y Y (xI (p:=x6) (q:=0) h8) ?_;refine ag Y<|dn ?_;cases x8;refine cF<|sr<|lE (F h) λgh jJ h=>eq _ Y Y (xI (p:=x6) (q:=(-1)) jJ)<|ag Y<|dn ?_;cases gh;refine cF<|bB<|bG.n<|aV.n<|qq<|bh mixed<|fa Y Y<|ld Y Y (.k2 Y Y)<|fa Y Y<|ld Y Y (.k2 Y Y)<|so Y Y Y<|so Y Y Y ?_;refine RT.done ⟨by kernel_rfl,?_⟩;refine aV.n<|bf ?_;obtain rfl:=O (F h);exact RZ (.agg Y Y (.k2 Y Y) Y (.agg Y Y (.k2 Y Y) Y (.nil)));refine cT<|qq<|bh mixed<|fa Y Y<|ld Y Y (.k2 Y Y) ?_;obtain⟨⟨kF,kG⟩,kL,h⟩:=bS (V h);refine cl (w8 kL) ⟨Y,aq⟩<|fa Y Y<|ld Y Y (.k2 Y Y) ?_;obtain⟨⟨nK,nL⟩,oa,h⟩:=bS h;refine cl (w8 oa) ⟨Y,aq⟩<|so Y Y Y<|so Y Y Y ?_;refine RT.done ⟨by kernel_rfl,?_⟩;refine aV.n<|bf<|bG.r<|aV.r ?_;obtain rfl:=O h;exact RZ (.agg Y Y (.k2 Y Y) Y (.agg Y Y (.k2 Y Y) Y (.nil)));refine cT<|qq<|bh mixed<|fa Y Y<|ld Y Y (.k2 Y Y) ?_;obtain⟨⟨QX,QY⟩,pJ,h⟩:=bS (V h);refine cl (vG pJ) ⟨Y,aq⟩<|so Y Y Y<|so Y Y Y ?_
 refine RT.done ⟨by kernel_rfl,?_⟩;refine aV.n<|bf<|bG.r<|aV.r ?_;obtain rfl:=O h;exact RZ (.agg Y Y (.k2 Y Y) Y (.agg Y Y (.k2 Y Y) Y (.nil)))
theorem jn{x0:Zr}{x1:Zr}(N:Nat){r:Qr}(h:eY x0 x1=some r):cK ah 140 N [.agg (eZ x0),.agg (eZ x1)] (.agg ((fQ N) r)):=by
 obtain⟨bp,bt⟩:=x0;obtain⟨cE,cD⟩:=x1;refine bA Tryz.func140 Y (af Y) (λec M vs hN hvs=>?_);unfold eY at h;refine sr<|bx Y<|bx Y<|al (cs:=[az false,nw N ax,az false,nw N ax]) (by exact⟨au,bk,au,bk,aq⟩) Y<|dn<|qq<|sr<|ld Y Y (.k2 Y Y)<|bE h λx9 h9 h=>cl (eX h9) ⟨Y,aq⟩<|lE h λdZ gM h=>ls _ Y Y gM<|dn ?_;refine bK h (λj2=>AS.cM 46 [(2,.ptr 2 0),(3,.ptr 3 0),(4,.ptr 4 0)] [(4,⟨43,[aj false,.sv (nw N ax),aj false,.sv (nw N ax)]⟩),(3,⟨41,[aj j2.1,.sv (slc 1 (List.map aY j2.2.1))]⟩),(2,⟨41,[aj j2.2.2.1,.sv (slc 1 (List.map aY j2.2.2.2))]⟩)] []) (λh=>?_) (λj2 h=>?_);cases dZ;exact fs<|⟨(cE,cD,bp,bt),(F h),wR []⟩;refine cT<|bh mixed<|ld Y Y (.k2 Y Y) ?_;obtain⟨⟨ir,hG⟩,gO,h⟩:=bS (V h);refine RT.bM .none (nO N gO) hN Y ⟨Y,aq⟩ T<|ld Y Y (.k2 Y Y) ?_;obtain⟨⟨Mk,Ml⟩,lN,h⟩:=bS h;refine RT.bM .none (nO N lN) hN Y ⟨Y,aq⟩ T<|so Y Y Y<|so Y Y Y ?_;refine RT.done ⟨by kernel_rfl,?_⟩;exact aV.n<|⟨(Mk,Ml,ir,hG),h,dM id Y Y Y Y Y ⟨.ptr,.ptr,.ptr,aq⟩ ⟨⟨_,Y,⟨.sv au,.sv au,.sv au,.sv au,aq⟩⟩,⟨_,Y,⟨.sv au,.sv dU,aq⟩⟩,⟨_,Y,⟨.sv au,.sv dU,aq⟩⟩,aq⟩ trivial (λ_ _=>Y)⟩;obtain⟨HQ,HR,HS,HT⟩:=j2
 try dsimp only
 refine aV.n<|sr<|ld Y Y (.k2 Y Y)<|ld Y Y (.k2 Y Y) ?_;obtain⟨⟨kY,kZ⟩,kU,h⟩:=bS h;refine RT.bM .none (D9 N kU) hN Y ⟨Y,Y,aq⟩ T<|al (cs:=[az false,nw N ax]) (by exact⟨au,bk,aq⟩) Y<|so Y Y Y<|dn<|sr<|ld Y Y (.k2 Y Y)<|ld Y Y (.k2 Y Y) ?_;obtain⟨⟨⟨A8,A9⟩,⟨TS,TT⟩,acm⟩,qb,h⟩:=bS h;refine RT.bM .none ((rL N qb).w (args':=[_,_]) ⟨au,(SV.dB (show cJ [az kY,nw N (slc 1 (List.map aY kZ))] _ from⟨au,dU,aq⟩)),aq⟩) hN Y ⟨Y,Y,aq⟩ T<|mv Y<|ex Y Y<|ex Y Y<|ex Y Y<|so Y Y Y<|dn<|sr<|ld Y Y (.k2 Y Y)<|ld Y Y (.k2 Y Y) ?_;obtain⟨⟨⟨yo,yp⟩,⟨TU,TV⟩,acn⟩,vC,h⟩:=bS h;refine RT.bM .none ((rL N vC).w (args':=[_,_]) ⟨au,(SV.dB (show cJ [az kY,nw N (slc 1 (List.map aY kZ))] _ from⟨au,dU,aq⟩)),aq⟩) hN Y ⟨Y,Y,aq⟩ T<|mv Y<|ex Y Y<|ex Y Y<|ex Y Y<|so Y Y Y<|dn<|qq<|sr<|ld Y Y (.k2 Y Y) ?_;obtain⟨⟨TW,TX⟩,wX,h⟩:=bS h;refine cl ((fR wX).w (args':=[_]) ⟨(SV.dB (show cJ [az yo,nw N (slc 1 (List.map aY yp))] _ from⟨au,dU,aq⟩)),aq⟩) ⟨Y,aq⟩<|mv Y<|ex Y Y<|ex Y Y<|ag Y<|ag Y<|dn<|qq ?_
 refine bK h (λj5=>AS.cM 46 [(2,.ptr 2 0),(3,.ptr 3 0),(4,.ptr 4 0),(41,aj j5)] [(4,⟨43,[aj false,.sv (nw N ax),aj false,.sv (nw N ax)]⟩),(3,⟨41,[aj yo,.sv (nw N (slc 1 (List.map aY yp)))]⟩),(2,⟨41,[aj A8,.sv (nw N (slc 1 (List.map aY A9)))]⟩)] []) (λh=>?_) (λMj h=>?_);refine aW<|mv Y<|mv Y<|bE h λQZ Mx h=>?_;cases TX;obtain rfl:=O (F Mx);exact ww<|ww<|pF Y<|dn<|⟨false,h,wR []⟩;refine gm Y<|lE (V Mx) λmO rS Mx=>ZK _ Y Y (xI (p:=TW) (q:=1) rS) ?_;obtain rfl:=O Mx;exact pT Y<|dn<|⟨mO,h,wR []⟩
 try dsimp only
 refine aV.n ?_;refine bK h (λj7=>AS.cM 46 [(2,.ptr 2 0),(3,.ptr 3 0),(4,.ptr 4 0)] [(4,⟨43,[aj false,.sv (nw N ax),aj false,.sv (nw N ax)]⟩),(3,⟨41,[aj j7.1,.sv (nw N (slc 1 (List.map aY j7.2)))]⟩),(2,⟨41,[aj A8,.sv (nw N (slc 1 (List.map aY A9)))]⟩)] []) (λh=>?_) (λj7 h=>?_);cases Mj;exact fs<|⟨(yo,yp),(F h),wR []⟩;exact cT<|aW<|bI (cs:=[_,_]) (cs':=[az false,nw N ax]) (.nil) ⟨au,bk,aq⟩<|so Y Y Y<|dn<|⟨(false,[]),(V h),wR []⟩;obtain⟨HU,HV⟩:=j7
 try dsimp only
 refine aV.n<|sr<|ld Y Y (.k2 Y Y)<|ld Y Y (.k2 Y Y)<|bI (cs:=[_,_,_,_]) (cs':=[az A8,nw N (slc 1 (List.map aY A9)),az HU,nw N (slc 1 (List.map aY HV))]) (.agg Y (.agg Y (.nil))) ⟨au,au,au,au,aq⟩<|so Y Y Y<|dn<|bf ?_;obtain rfl:=O h;exact RZ (.agg Y Y (.k4 Y Y Y Y) Y (.nil))
theorem e9{x0:Qr}{r:Int×Int×Bool}(h:dK x0=some r):Pure ah 134 [.agg (eQ x0)] (.yM [ay r.1,ay r.2.1,az r.2.2]):=by
 obtain⟨⟨bp,bt⟩,⟨bC,bF⟩⟩:=x0;refine bz Tryz.func134 Y (af Y) (λec M vs hvs=>?_);unfold dK at h;refine sr<|bx Y<|ag Y<|ag Y<|ag Y<|dn<|sr<|fa Y Y<|ld Y Y (.k2 Y Y) ?_;obtain⟨⟨Ea,XS⟩,gM,h⟩:=bS h;refine cl (fR gM) ⟨Y,aq⟩<|mv Y<|ex Y Y<|ex Y Y<|ag Y<|ag Y<|dn<|sr<|fa Y Y<|ld Y Y (.k2 Y Y) ?_;obtain⟨⟨Cy,XT⟩,kL,h⟩:=bS h;refine cl (fR kL) ⟨Y,aq⟩<|mv Y<|ex Y Y<|ex Y Y<|ag Y<|ag Y<|dn<|qq<|qq ?_;refine bK h (λXW=>AS.cM 53 [(2,ai Ea),(3,ai Cy),(40,aj XW)] [] []) (λh=>?_) (λHW h=>?_);refine aW<|mv Y<|lE h λiU pK h=>nt Y _ pK<|mv Y<|bE h λMo rQ h=>?_;cases iU;refine gm Y<|lE (F rQ) λlP vB rQ=>O9 Y _ vB ?_;obtain rfl:=O rQ;refine pF Y<|mv Y<|bE h λacp yu h=>?_;cases lP;refine gm Y<|lE (F yu) λlQ rJ yu=>RT.leq (.some Y Y) _ Y Y T rJ ?_;obtain rfl:=O yu;refine pF Y<|mv Y<|bE h λacq yw h=>?_;cases lQ;refine gm Y<|lE (F yw) λtX Da yw=>RT.geq (.some Y Y) _ Y Y T Da ?_;obtain rfl:=O yw;refine pF Y<|mv Y<|bE h λacr vJ h=>?_;cases tX;refine gm Y<|lE (F vJ) λrR A6 vJ=>RT.leq (.some Y Y) _ Y Y T A6 ?_;obtain rfl:=O vJ;refine pF Y<|mv Y<|bE h λacs Kc h=>?_;cases rR;refine gm Y<|lE (F Kc) λuO FI Kc=>RT.geq (.some Y Y) _ Y Y T FI ?_;obtain rfl:=O Kc;exact pF Y<|dn<|⟨uO,h,wR []⟩;obtain rfl:=O (V Kc)
 exact ww<|ww<|pT Y<|dn<|⟨true,h,wR []⟩;obtain rfl:=O (V vJ);refine ww<|ww<|pT Y<|mv Y<|bE h λacu T6 h=>?_;obtain rfl:=O (V T6);exact ww<|ww<|pT Y<|dn<|⟨true,h,wR []⟩;obtain rfl:=O (V yw);refine ww<|ww<|pT Y<|mv Y<|bE h λacv T7 h=>?_;obtain rfl:=O (V T7);refine ww<|ww<|pT Y<|mv Y<|bE h λacw T8 h=>?_;obtain rfl:=O (V T8);exact ww<|ww<|pT Y<|dn<|⟨true,h,wR []⟩;obtain rfl:=O (V yu);refine ww<|ww<|pT Y<|mv Y<|bE h λacy T9 h=>?_;obtain rfl:=O (V T9);refine ww<|ww<|pT Y<|mv Y<|bE h λacz Ua h=>?_;obtain rfl:=O (V Ua);refine ww<|ww<|pT Y<|mv Y<|bE h λacA Ub h=>?_;obtain rfl:=O (V Ub);exact ww<|ww<|pT Y<|dn<|⟨true,h,wR []⟩;obtain rfl:=O (V rQ);refine ww<|ww<|pT Y<|mv Y<|bE h λacB Ud h=>?_;obtain rfl:=O (V Ud);refine ww<|ww<|pT Y<|mv Y<|bE h λacC Ue h=>?_;obtain rfl:=O (V Ue);refine ww<|ww<|pT Y<|mv Y<|bE h λacD Uf h=>?_;obtain rfl:=O (V Uf);refine ww<|ww<|pT Y<|mv Y<|bE h λacE acF h=>?_;obtain rfl:=O (V acF);exact ww<|ww<|pT Y<|dn<|⟨true,h,wR []⟩
 try dsimp only
 refine aV.n ?_;cases HW;refine fs<|qq<|bj<|sr<|mv Y<|lE (F h) λvu EU h=>eq _ Y Y (xI (p:=Cy) (q:=0) EU)<|ag Y<|dn ?_;refine bK h (λQ0=>AS.cM 53 [(2,ai Q0.1),(3,ai Q0.2)] [] []) (λh=>?_) (λQ0 h=>?_);cases vu;refine cF<|sr<|mv Y<|lE (F h) λwj h46 h=>ls _ Y Y h46<|ag Y<|dn ?_;refine bK h (λQ2=>AS.cM 53 [(2,ai Q2.1),(3,ai Q2.2)] [] []) (λh=>?_) (λQ2 h=>?_);cases wj;exact fs<|⟨(Ea,Cy),(F h),wR []⟩;exact cT<|aW<|mv Y<|lE (V h) λux h48 h=>RT.neg .none _ Y T h48<|mv Y<|lE h λwN HN h=>RT.neg .none _ Y T HN<|ag Y<|ag Y<|dn<|⟨(ux,wN),h,wR []⟩;obtain⟨Mm,Mn⟩:=Q2
 try dsimp only
 exact aV.n<|⟨(Mm,Mn),h,wR []⟩;exact cT<|aW<|ag Y<|dn<|⟨(Ea,1),(V h),wR []⟩;obtain⟨FJ,Q1⟩:=Q0
 try dsimp only
 refine bG.n<|aV.n<|sr<|mv Y<|mv Y<|ag Y<|ag Y<|ag Y<|dn<|bf ?_;obtain rfl:=O h;exact RZ (.tmp Y (.tmp Y (.tmp Y (.nil))));refine cT<|sr<|ag Y<|ag Y<|ag Y<|dn<|bf<|aV.r ?_;obtain rfl:=O (V h);exact RZ (.tmp Y (.tmp Y (.tmp Y (.nil))))
theorem jO{x0:Int}{x1:Int}(N:Nat){r:Qr}(h:e5 x0 x1=some r):cK ah 135 N [ay x0,ay x1] (.agg ((fQ N) r)):=by
 refine bA Tryz.func135 Y (af Y) (λec M vs hN hvs=>?_);unfold e5 at h;refine sr<|al (cs:=[az false,nw N ax,az false,nw N ax]) (by exact⟨au,bk,au,bk,aq⟩) Y<|dn<|sr<|mv Y<|mv Y<|ag Y<|ag Y<|dn<|qq<|bE h λe6 DW nu=>?_;refine bT (λ(Eb:Int)=>AS.cM 36 [(0,ai x0),(1,ai x1),(4,.ptr 4 0),(5,ai Eb)] [(4,⟨43,[aj false,.sv (nw N ax),aj false,.sv (nw N ax)]⟩)] []) (λEb=>Eb=e6) ?_ (λEb DY=>?_);refine bj ?_;refine bU DW (λs6=>AS.cM 36 [(0,ai x0),(1,ai x1),(4,.ptr 4 0),(5,ai s6.1),(6,ai s6.2)] [(4,⟨43,[aj false,.sv (nw N ax),aj false,.sv (nw N ax)]⟩)] []) (wR []) (λs6 y6 G6 h DZ zD=>?_);obtain⟨rO,J8⟩:=s6
 try dsimp only
 refine qq<|sr<|mv Y<|lE h λdZ gM h=>ne _ Y Y (HC (p:=J8) (q:=0) gM)<|dn ?_;cases dZ;refine cF<|cc<|aV.x<|aV.x<|bG.x<|aV.n ?_;obtain rfl:=O (F h);exact⟨rO,zD _ Y,wR []⟩;refine cT<|bB<|aV.n<|bj<|bh mixed<|mv Y<|mv Y<|mv Y<|bE (V h) λfE lN h=>RT.rem .none _ Y Y T (aaO lN) (aaP lN)<|ag Y<|ag Y ?_;refine RT.done ⟨by kernel_rfl,?_⟩;refine bG.n ?_;obtain rfl:=O h;exact aV.n ⟨(J8,fE),DZ _ Y,wR []⟩;subst DY
 try dsimp only
 refine aV.n<|qq<|sr<|mv Y<|lE nu λgN kL nu=>ls _ Y Y kL<|dn ?_;refine bK nu (λj8=>AS.cM 36 [(0,ai x0),(1,ai x1),(4,.ptr 4 0),(5,ai j8)] [(4,⟨43,[aj false,.sv (nw N ax),aj false,.sv (nw N ax)]⟩)] []) (λnu=>?_) (λJ9 nu=>?_);cases gN;exact fs<|⟨Eb,(F nu),wR []⟩;exact cT<|aW<|mv Y<|lE (V nu) λfC jY nu=>RT.neg .none _ Y T jY<|ag Y<|dn<|⟨fC,nu,wR []⟩
 try dsimp only
 refine aV.n<|qq<|sr<|mv Y<|mv Y<|lE nu λiE qb nu=>eq _ Y Y (xI (p:=J9) (q:=x1) qb)<|dn ?_;cases iE;refine fs<|qq<|bh mixed<|mv Y<|mv Y<|bE (F nu) λiK nI nu=>RT.quo .none _ Y Y T (nzI nI) (Te nI) ?_;obtain⟨⟨uP,uQ⟩,D0,nu⟩:=bS nu;refine RT.bM .none (dV N D0) hN Y ⟨Y,aq⟩ T<|mv Y<|mv Y<|bE nu λtZ Ab nu=>RT.quo .none _ Y Y T (nzI Ab) (Te Ab) ?_;obtain⟨⟨Mp,Mq⟩,wX,nu⟩:=bS nu;refine RT.bM .none (dV N wX) hN Y ⟨Y,aq⟩ T<|bI (cs:=[_,_,_,_]) (cs':=[az uP,nw N (slc 1 (List.map aY uQ)),az Mp,nw N (slc 1 (List.map aY Mq))]) (.agg Y (.agg Y (.nil))) ⟨au,au,au,au,aq⟩<|so Y Y Y ?_;refine RT.done ⟨by kernel_rfl,?_⟩;refine aV.n<|bf ?_;obtain rfl:=O nu;exact RZ (.agg Y Y (.k4 Y Y Y Y) Y (.nil));refine cT<|sr<|mv Y<|mv Y<|bE (V nu) λik nJ nu=>RT.quo .none _ Y Y T (nzI nJ) (Te nJ) ?_;obtain⟨⟨lS,kT⟩,yh,nu⟩:=bS nu;refine RT.bM .none (dV N yh) hN Y ⟨Y,aq⟩ T<|bI (cs:=[_,_,_,_]) (cs':=[az lS,nw N (slc 1 (List.map aY kT)),az false,nw N ax]) (.agg Y (.nil)) ⟨au,au,au,bk,aq⟩<|so Y Y Y<|dn<|bf<|aV.r ?_;obtain rfl:=O nu;exact RZ (.agg Y Y (.k4 Y Y Y Y) Y (.nil))
theorem CA{x0:Int}{x1:Int}{r:Qr}(h:e5 x0 x1=some r):Pure ah 135 [ay x0,ay x1] (.agg (eQ r)):=dD (λN=>jO N h) (λN=>(SV.dB (qI _ _)))
theorem Ee{x0:Int}{r:Int}(h:o7 x0=some r):Pure ah 128 [ay x0] (ay r):=by
 refine bz Tryz.func128 Y (af Y) (λec M vs hvs=>?_);unfold o7 at h;refine sr<|ag Y<|dn<|qq<|bj<|sr<|mv Y<|lE h λx5 h5 h=>ls _ Y Y h5<|ag Y<|dn ?_;cases x5;refine cF<|sr<|mv Y<|lE (F h) λx8 h8 h=>gt _ Y Y h8<|ag Y<|dn ?_;cases x8;refine cF<|bB<|bG.n<|aV.n<|sr<|ag Y<|dn<|bf ?_;obtain rfl:=O (F h);exact R1 Y;refine cT<|sr<|ag Y<|dn<|bf<|bG.r<|aV.r ?_;obtain rfl:=O (V h);exact R1 Y;refine cT<|sr<|ag Y<|dn<|bf<|bG.r<|aV.r ?_;obtain rfl:=O (V h);exact R1 Y
theorem zE{x1:Qr}{x2:Qr}(N:Nat){r:Qr}(h:ji x1 x2=some r):cK ah 136 N [.v (.int .u8 ((43:Nat):Int)),.agg (eQ x1),.agg (eQ x2)] (.agg ((fQ N) r)):=by
 obtain⟨⟨cE,cD⟩,⟨gE,gG⟩⟩:=x1;obtain⟨⟨oe,og⟩,⟨Ba,Bb⟩⟩:=x2;refine bA Tryz.func136 Y (af Y) (λec M vs hN hvs=>?_);unfold ji at h;refine sr<|bx Y<|bx Y<|al (cs:=[az false,nw N ax,az false,nw N ax]) (by exact⟨au,bk,au,bk,aq⟩) Y<|dn<|sr<|ld Y Y (.k4 Y Y Y Y) ?_;obtain⟨⟨⟨jK,jL⟩,⟨jZ,j0⟩⟩,jJ,h⟩:=bS h;refine cl (dO jJ) ⟨Y,aq⟩<|mv Y<|ex Y Y<|ex Y Y<|al (cs:=[az false,nw N ax]) (by exact⟨au,bk,aq⟩) Y<|al (cs:=[az false,nw N ax]) (by exact⟨au,bk,aq⟩) Y<|so Y Y Y<|so Y Y Y<|dn<|sr<|ld Y Y (.k4 Y Y Y Y) ?_;obtain⟨⟨⟨jM,jN⟩,⟨j1,ke⟩⟩,jY,h⟩:=bS h;refine cl (dO jY) ⟨Y,aq⟩<|mv Y<|ex Y Y<|ex Y Y<|al (cs:=[az false,nw N ax]) (by exact⟨au,bk,aq⟩) Y<|al (cs:=[az false,nw N ax]) (by exact⟨au,bk,aq⟩) Y<|so Y Y Y<|so Y Y Y<|dn<|qq<|bh mixed<|cl iB trivial<|mv Y ?_;refine RT.look .none [.func (.func 187) #[] #[]] Y Y Y T<|fl Y Y<|ld Y Y (.k2 Y Y)<|ld Y Y (.k2 Y Y)<|ld Y Y (.k2 Y Y)<|ld Y Y (.k2 Y Y) ?_;obtain⟨⟨⟨kf,kg⟩,⟨kj,kn⟩⟩,nI,h⟩:=bS h;refine RT.bM .none (sI N nI) hN Y ⟨Y,Y,Y,Y,aq⟩ T<|ex Y Y<|ex Y Y ?_;obtain⟨⟨⟨nH,mP⟩,⟨o8,o9⟩⟩,pS,h⟩:=bS h
 refine RT.bM .none ((jn N pS).w (args':=[_,_]) ⟨(SV.dB (show cJ [az kf,nw N (slc 1 (List.map aY kg))] _ from⟨au,dU,aq⟩)),(SV.dB (show cJ [az kj,nw N (slc 1 (List.map aY kn))] _ from⟨au,dU,aq⟩)),aq⟩) hN Y ⟨Y,Y,aq⟩ T<|so Y Y Y ?_;refine RT.done ⟨by kernel_rfl,?_⟩;refine aV.n<|bf ?_;obtain rfl:=O h;exact RZ (.agg Y Y (.k4 Y Y Y Y) Y (.nil))
theorem zF{x1:Qr}{x2:Qr}(N:Nat){r:Qr}(h:jk x1 x2=some r):cK ah 136 N [.v (.int .u8 ((45:Nat):Int)),.agg (eQ x1),.agg (eQ x2)] (.agg ((fQ N) r)):=by
 obtain⟨⟨cE,cD⟩,⟨gE,gG⟩⟩:=x1;obtain⟨⟨oe,og⟩,⟨Ba,Bb⟩⟩:=x2;refine bA Tryz.func136 Y (af Y) (λec M vs hN hvs=>?_);unfold jk at h;refine sr<|bx Y<|bx Y<|al (cs:=[az false,nw N ax,az false,nw N ax]) (by exact⟨au,bk,au,bk,aq⟩) Y<|dn<|sr<|ld Y Y (.k4 Y Y Y Y) ?_;obtain⟨⟨⟨jK,jL⟩,⟨jZ,j0⟩⟩,jJ,h⟩:=bS h;refine cl (dO jJ) ⟨Y,aq⟩<|mv Y<|ex Y Y<|ex Y Y<|al (cs:=[az false,nw N ax]) (by exact⟨au,bk,aq⟩) Y<|al (cs:=[az false,nw N ax]) (by exact⟨au,bk,aq⟩) Y<|so Y Y Y<|so Y Y Y<|dn<|sr<|ld Y Y (.k4 Y Y Y Y) ?_;obtain⟨⟨⟨jM,jN⟩,⟨j1,ke⟩⟩,jY,h⟩:=bS h;refine cl (dO jY) ⟨Y,aq⟩<|mv Y<|ex Y Y<|ex Y Y<|al (cs:=[az false,nw N ax]) (by exact⟨au,bk,aq⟩) Y<|al (cs:=[az false,nw N ax]) (by exact⟨au,bk,aq⟩) Y<|so Y Y Y<|so Y Y Y<|dn<|qq<|bh mixed<|cl iB trivial<|mv Y ?_;refine RT.look .none [.func (.func 189) #[] #[]] Y Y Y T<|fl Y Y<|ld Y Y (.k2 Y Y)<|ld Y Y (.k2 Y Y)<|ld Y Y (.k2 Y Y)<|ld Y Y (.k2 Y Y) ?_;obtain⟨⟨⟨kf,kg⟩,⟨kj,kn⟩⟩,nI,h⟩:=bS h;refine RT.bM .none (sJ N nI) hN Y ⟨Y,Y,Y,Y,aq⟩ T<|ex Y Y<|ex Y Y ?_;obtain⟨⟨⟨nH,mP⟩,⟨o8,o9⟩⟩,pS,h⟩:=bS h
 refine RT.bM .none ((jn N pS).w (args':=[_,_]) ⟨(SV.dB (show cJ [az kf,nw N (slc 1 (List.map aY kg))] _ from⟨au,dU,aq⟩)),(SV.dB (show cJ [az kj,nw N (slc 1 (List.map aY kn))] _ from⟨au,dU,aq⟩)),aq⟩) hN Y ⟨Y,Y,aq⟩ T<|so Y Y Y ?_;refine RT.done ⟨by kernel_rfl,?_⟩;refine aV.n<|bf ?_;obtain rfl:=O h;exact RZ (.agg Y Y (.k4 Y Y Y Y) Y (.nil))
theorem zG{x1:Qr}{x2:Qr}(N:Nat){r:Qr}(h:jl x1 x2=some r):cK ah 136 N [.v (.int .u8 ((42:Nat):Int)),.agg (eQ x1),.agg (eQ x2)] (.agg ((fQ N) r)):=by
 obtain⟨⟨cE,cD⟩,⟨gE,gG⟩⟩:=x1;obtain⟨⟨oe,og⟩,⟨Ba,Bb⟩⟩:=x2;refine bA Tryz.func136 Y (af Y) (λec M vs hN hvs=>?_);unfold jl at h;refine sr<|bx Y<|bx Y<|al (cs:=[az false,nw N ax,az false,nw N ax]) (by exact⟨au,bk,au,bk,aq⟩) Y<|dn<|sr<|ld Y Y (.k4 Y Y Y Y) ?_;obtain⟨⟨⟨jK,jL⟩,⟨jZ,j0⟩⟩,jJ,h⟩:=bS h;refine cl (dO jJ) ⟨Y,aq⟩<|mv Y<|ex Y Y<|ex Y Y<|al (cs:=[az false,nw N ax]) (by exact⟨au,bk,aq⟩) Y<|al (cs:=[az false,nw N ax]) (by exact⟨au,bk,aq⟩) Y<|so Y Y Y<|so Y Y Y<|dn<|sr<|ld Y Y (.k4 Y Y Y Y) ?_;obtain⟨⟨⟨jM,jN⟩,⟨j1,ke⟩⟩,jY,h⟩:=bS h;refine cl (dO jY) ⟨Y,aq⟩<|mv Y<|ex Y Y<|ex Y Y<|al (cs:=[az false,nw N ax]) (by exact⟨au,bk,aq⟩) Y<|al (cs:=[az false,nw N ax]) (by exact⟨au,bk,aq⟩) Y<|so Y Y Y<|so Y Y Y<|dn<|qq<|bh mixed<|cl iB trivial<|mv Y ?_;refine RT.look .none [.func (.func 191) #[] #[]] Y Y Y T<|fl Y Y<|ld Y Y (.k2 Y Y)<|ld Y Y (.k2 Y Y)<|ld Y Y (.k2 Y Y)<|ld Y Y (.k2 Y Y) ?_;obtain⟨⟨⟨kf,kg⟩,⟨kj,kn⟩⟩,nI,h⟩:=bS h;refine RT.bM .none (sK N nI) hN Y ⟨Y,Y,Y,Y,aq⟩ T<|ex Y Y<|ex Y Y ?_;obtain⟨⟨⟨nH,mP⟩,⟨o8,o9⟩⟩,pS,h⟩:=bS h
 refine RT.bM .none ((jn N pS).w (args':=[_,_]) ⟨(SV.dB (show cJ [az kf,nw N (slc 1 (List.map aY kg))] _ from⟨au,dU,aq⟩)),(SV.dB (show cJ [az kj,nw N (slc 1 (List.map aY kn))] _ from⟨au,dU,aq⟩)),aq⟩) hN Y ⟨Y,Y,aq⟩ T<|so Y Y Y ?_;refine RT.done ⟨by kernel_rfl,?_⟩;refine aV.n<|bf ?_;obtain rfl:=O h;exact RZ (.agg Y Y (.k4 Y Y Y Y) Y (.nil))
theorem zH{x1:Qr}{x2:Qr}(N:Nat){r:Qr}(h:hH x1 x2=some r):cK ah 136 N [.v (.int .u8 ((47:Nat):Int)),.agg (eQ x1),.agg (eQ x2)] (.agg ((fQ N) r)):=by
 obtain⟨⟨cE,cD⟩,⟨gE,gG⟩⟩:=x1;obtain⟨⟨oe,og⟩,⟨Ba,Bb⟩⟩:=x2;refine bA Tryz.func136 Y (af Y) (λec M vs hN hvs=>?_);unfold hH at h;refine sr<|bx Y<|bx Y<|al (cs:=[az false,nw N ax,az false,nw N ax]) (by exact⟨au,bk,au,bk,aq⟩) Y<|dn<|sr<|ld Y Y (.k4 Y Y Y Y) ?_;obtain⟨⟨⟨jK,jL⟩,⟨jZ,j0⟩⟩,jJ,h⟩:=bS h;refine cl (dO jJ) ⟨Y,aq⟩<|mv Y<|ex Y Y<|ex Y Y<|al (cs:=[az false,nw N ax]) (by exact⟨au,bk,aq⟩) Y<|al (cs:=[az false,nw N ax]) (by exact⟨au,bk,aq⟩) Y<|so Y Y Y<|so Y Y Y<|dn<|sr<|ld Y Y (.k4 Y Y Y Y) ?_;obtain⟨⟨⟨jM,jN⟩,⟨j1,ke⟩⟩,jY,h⟩:=bS h;refine cl (dO jY) ⟨Y,aq⟩<|mv Y<|ex Y Y<|ex Y Y<|al (cs:=[az false,nw N ax]) (by exact⟨au,bk,aq⟩) Y<|al (cs:=[az false,nw N ax]) (by exact⟨au,bk,aq⟩) Y<|so Y Y Y<|so Y Y Y<|dn<|qq<|bh mixed<|cl iB trivial<|mv Y ?_;refine RT.look .none [.func (.func 192) #[] #[]] Y Y Y T<|fl Y Y<|ld Y Y (.k2 Y Y)<|ld Y Y (.k2 Y Y)<|ld Y Y (.k2 Y Y)<|ld Y Y (.k2 Y Y) ?_;obtain⟨⟨⟨kf,kg⟩,⟨kj,kn⟩⟩,nI,h⟩:=bS h;refine RT.bM .none (sL N nI) hN Y ⟨Y,Y,Y,Y,aq⟩ T<|ex Y Y<|ex Y Y ?_;obtain⟨⟨⟨nH,mP⟩,⟨o8,o9⟩⟩,pS,h⟩:=bS h
 refine RT.bM .none ((jn N pS).w (args':=[_,_]) ⟨(SV.dB (show cJ [az kf,nw N (slc 1 (List.map aY kg))] _ from⟨au,dU,aq⟩)),(SV.dB (show cJ [az kj,nw N (slc 1 (List.map aY kn))] _ from⟨au,dU,aq⟩)),aq⟩) hN Y ⟨Y,Y,aq⟩ T<|so Y Y Y ?_;refine RT.done ⟨by kernel_rfl,?_⟩;refine aV.n<|bf ?_;obtain rfl:=O h;exact RZ (.agg Y Y (.k4 Y Y Y Y) Y (.nil))
theorem zJ{x1:Qr}{x2:Qr}{r:Qr}(h:hH x1 x2=some r):Pure ah 136 [.v (.int .u8 ((47:Nat):Int)),.agg (eQ x1),.agg (eQ x2)] (.agg (eQ r)):=dD (λN=>zH N h) (λN=>(SV.dB (qI _ _)))
end
end Go.Proofs.YtningmnklfpfjaaGreat
