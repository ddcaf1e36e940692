/- A part of the proof: the framework, the plain functions, the followed functions, the plain laws. -/
import Derived.Test.YtningmnklfpfjaaGreatPSA1
set_option linter.unusedVariables false
set_option linter.unusedSimpArgs false
set_option linter.unusedSectionVars false
namespace Go.Fw
section
open Go.RowKit
def cE{J R:Type}(k:J->Option R)(f:(J->Option R)->Option R):Option R:=f k
theorem bind_some{α β:Type}{x:Option α}{f:α->Option β}{r:β}(h:Option.bind x f=some r):∃a,x=some a/\f a=some r:=by
 cases x with
 |none=>cases h
 |some a=>exact⟨a,Y,h⟩
theorem sk{b w:Bool}(h:(b==w)=false):b≠w:=by cases b<;>cases w<;>simp_all
def cL{α:Type}(l:List α)(i:Int):Option α:=if 0<=i then l[i.toNat]? else none
def kW{α:Type}(l:List α)(i:Int):Option Nat:=if 0<=i/\i<l.length then some i.toNat else none
def GA{α:Type}(l:List α)(lo hi:Int):Option (List α):=if 0<=lo/\lo<=hi/\hi<=l.length then some (cut l lo.toNat hi.toNat)else none
def nD{α:Type}(by_:Nat)(l k:List α):Option (List α):=if(l.length+k.length)*by_<=140737488355328/\l.length+k.length<=140737488355328 then some (l++k)else none
def G5{α:Type}(by_:Nat)(c:Int)(z:α):Option (List α):=if 0<=c/\by_*c<=281474976710656/\c<=140737488355328 then some (List.replicate c.toNat z)else none
def VW{α:Type}(by_:Nat)(c:Int):Option (List α):=if 0<=c/\by_*c<=281474976710656/\c<=140737488355328 then some []else none
def stM{α:Type}(l:List α)(n:Nat)(y:α):Option (List α):=if n<l.length then some (l.set n y)else none
def At(a b:Int):Option Int:=if b=0 then none else some (IntKind.i64.wrap (a.tdiv b))
def Ka(a b:Int):Option Int:=if b=0 then none else some (a.tmod b)
def Me(M a b:Nat):Option Nat:=if b=0 then none else some (a/b%M)
def Kb(a b:Nat):Option Nat:=if b=0 then none else some (a%b)
def we(M a b:Nat):Nat:=(((a:Int)-b)%M).toNat
theorem yB{α:Type}{l:List α}{i:Int}{a:α}(h:cL l i=some a):0<=i/\l[i.toNat]? =some a:=by
 unfold cL at h;split at h
 ·exact⟨by assumption,h⟩
 cases h
theorem VX{α:Type}{l:List α}{i:Int}{k:Nat}(h:kW l i=some k):0<=i/\i<l.length/\i.toNat=k:=by
 unfold kW at h;split at h
 ·rename_i hh;exact⟨hh.1,hh.2,Option.some.inj h⟩
 cases h
theorem KW{α:Type}{l l':List α}{a b:Int}(h:GA l a b=some l'):0<=a/\a<=b/\b<=l.length/\cut l a.toNat b.toNat=l':=by
 unfold GA at h;split at h
 ·rename_i hh;exact⟨hh.1,hh.2.1,hh.2.2,Option.some.inj h⟩
 cases h
theorem AN{α:Type}{by_:Nat}{l k l':List α}(h:nD by_ l k=some l'):(l.length+k.length)*by_<=140737488355328/\l.length+k.length<=140737488355328/\l++k=l':=by
 unfold nD at h;split at h
 ·rename_i hh;exact⟨hh.1,hh.2,Option.some.inj h⟩
 cases h
theorem VY{α:Type}{by_:Nat}{c:Int}{z:α}{l':List α}(h:G5 by_ c z=some l'):0<=c/\by_*c<=281474976710656/\c<=140737488355328/\List.replicate c.toNat z=l':=by
 unfold G5 at h;split at h
 ·rename_i hh;exact⟨hh.1,hh.2.1,hh.2.2,Option.some.inj h⟩
 cases h
theorem VZ{α:Type}{by_:Nat}{c:Int}{l':List α}(h:VW by_ c=some l'):0<=c/\by_*c<=281474976710656/\c<=140737488355328/\[]=l':=by
 unfold VW at h;split at h
 ·rename_i hh;exact⟨hh.1,hh.2.1,hh.2.2,Option.some.inj h⟩
 cases h
theorem Oj{α:Type}{l l':List α}{n:Nat}{y:α}(h:stM l n y=some l'):n<l.length/\l.set n y=l':=by
 unfold stM at h;split at h
 ·rename_i hh;exact⟨hh,Option.some.inj h⟩
 cases h
def vc{S E:Type}(body:S->Option (S⊕E)):Nat->S->Option E
 |0,_=>none
 |n+1,s=>match body s with
  |some (.inl s')=>vc body n s'
  |some (.inr e)=>some e
  |none=>none
theorem CN{S E:Type}{body:S->Option (S⊕E)}:∀{n m:Nat} {s:S} {e:E},n<=m->vc body n s=some e->vc body m s=some e
 |0,_,_,_,_,h=>by cases h
 |n+1,0,_,_,hm,_=>by omega
 |n+1,m+1,s,e,hm,h=>by
  unfold vc at h⊢;cases hb:body s with
  |none=>rw[hb]at h;cases h
  |some y=>
   rw[hb]at h;cases y with
   |inl s'=>exact CN (by omega) h
   |inr e'=>exact h
open Classical in
noncomputable def bX{S E:Type}(body:S->Option (S⊕E))(s:S):Option E:=if h:∃n e,vc body n s=some e then some (Classical.choose (Classical.choose_spec h))else none
theorem CO{S E:Type}{body:S->Option (S⊕E)}{s:S}{e:E}(h:bX body s=some e):∃n,vc body n s=some e:=by
 unfold bX at h;split at h
 ·rename_i hh;exact⟨_,by rw[<-Option.some.inj h];exact Classical.choose_spec (Classical.choose_spec hh)⟩
 cases h
theorem H6{S E:Type}{body:S->Option (S⊕E)}{s:S}{e:E}{n:Nat}(h:vc body n s=some e):bX body s=some e:=by
 have hh:∃n e,vc body n s=some e:=⟨n,e,h⟩;unfold bX;rw[dif_pos hh];have h2:=Classical.choose_spec (Classical.choose_spec hh);have h3:=CN (Nat.le_max_left n (Classical.choose hh)) h;have h4:=CN (Nat.le_max_right n (Classical.choose hh)) h2;rw[h3]at h4;exact h4.symm
theorem CP{S E:Type}{body:S->Option (S⊕E)}{s:S}{e:E}(h:body s=some (.inr e)):bX body s=some e:=H6 (n:=1) (by simp[vc,h])
theorem H7{S E:Type}{body:S->Option (S⊕E)}{s s':S}(h:body s=some (.inl s')):bX body s=bX body s':=by
 cases hl:bX body s' with
 |some e=>obtain⟨n,hn⟩:=CO hl;exact H6 (n:=n+1) (by simp[vc,h,hn])
 |none=>
  cases hl2:bX body s with
  |none=>rfl
  |some e=>
   obtain⟨n,hn⟩:=CO hl2;cases n with
   |zero=>cases hn
   |succ n=>simp only[vc,h]at hn;rw[H6 hn]at hl;cases hl
theorem yC{S E:Type}{body:S->Option (S⊕E)}(I:S->Prop)(Post:E->Prop)(μ:S->Nat)
  (step:∀s,I s->(∃s',body s=some (.inl s')/\I s'/\μ s'<μ s)\/(∃e,body s=some (.inr e)/\Post e)) {s:S} (h:I s):∃e,bX body s=some e/\Post e:=by
 have key:∀(n:Nat) (s:S),μ s<=n->I s->∃e,bX body s=some e/\Post e:=by
  intro n
  induction n with
  |zero=>
   intro s hn hs;rcases step s hs with⟨s',_,_,h3⟩|⟨e,h1,h2⟩
   ·omega
   exact⟨e,CP h1,h2⟩
  |succ n ih=>
   intro s hn hs;rcases step s hs with⟨s',h1,h2,h3⟩|⟨e,h1,h2⟩
   ·obtain⟨e,q1,q2⟩:=ih s' (by omega) h2;exact⟨e,by rw[H7 h1];exact q1,q2⟩
   exact⟨e,CP h1,h2⟩
 exact key _ s (Nat.le_refl _) h
theorem V0{S E:Type}{body:S->Option (S⊕E)}(st:Nat->S)(n:Nat){e:E}(hs:∀k,k<n->body (st k)=some (.inl (st (k+1))))(he:body (st n)=some (.inr e)):bX body (st 0)=some e:=by
 have key:∀k,k<=n->bX body (st (n-k))=some e:=by
  intro k
  induction k with
  |zero=>intro _;exact CP he
  |succ k ih=>
   intro hk;rw[H7 (hs (n-(k+1)) (by omega)),show n-(k+1)+1=n-k by omega];exact ih (by omega)
 have:=key n (Nat.le_refl _);rwa[Nat.sub_self]at this
theorem ve{p q:Int}{c:Bool}(h:decide (p=q)=c):(p==q)=c:=by rw[<-h];exact Bool.beq_eq_decide_eq p q
theorem JV{p q:Int}{c:Bool}(h:decide (p≠q)=c):(p != q)=c:=by rw[<-h,bne,Bool.beq_eq_decide_eq p q];simp
theorem eqN{p q:Nat}{c:Bool}(h:decide (p=q)=c):((p:Int)==(q:Int))=c:=ve (by rw[<-h];simp[Int.natCast_inj])
theorem neN{p q:Nat}{c:Bool}(h:decide (p≠q)=c):((p:Int) != (q:Int))=c:=JV (by rw[<-h];simp[Int.natCast_inj])
theorem ltN{p q:Nat}{c:Bool}(h:decide (p<q)=c):decide ((p:Int)<(q:Int))=c:=by rw[<-h];simp
theorem leN{p q:Nat}{c:Bool}(h:decide (p<=q)=c):decide ((p:Int)<=(q:Int))=c:=by rw[<-h];simp
theorem Ol{p q c:Int}(h:max p q=c):(if q>p then q else p)=c:=by rw[<-h];split<;>omega
theorem V1{p q c:Int}(h:min p q=c):(if q<p then q else p)=c:=by rw[<-h];split<;>omega
class UK (k:IntKind) (b:outParam Nat) (M:outParam Nat):Prop where
 w:∀x:Int,k.wrap x=x%M
 hb:k.bits=b
 hm:2^b=M
instance:UK .u8 8 256:=⟨λx=>by simp[IntKind.wrap,IntKind.signed,IntKind.bits],rfl,by decide⟩
instance:UK .u32 32 4294967296:=⟨λx=>by simp[IntKind.wrap,IntKind.signed,IntKind.bits],rfl,by decide⟩
instance:UK .u64 64 18446744073709551616:=⟨λx=>by simp[IntKind.wrap,IntKind.signed,IntKind.bits],rfl,by decide⟩
section uk
variable {k:IntKind}{bi M a b c:Nat}[u:UK k bi M]
include u
theorem UK.pos:0<M:=by rw[<-u.hm];exact Nat.two_pow_pos _
theorem UK.nat(h:a%M=c):k.wrap (a:Int)=(c:Int):=by rw[u.w,<-h,Int.natCast_emod]
theorem UK.add(h:(a+b)%M=c):k.wrap ((a:Int)+(b:Int))=(c:Int):=by rw[<-Int.natCast_add];exact UK.nat h
theorem UK.mul(h:(a*b)%M=c):k.wrap ((a:Int)*(b:Int))=(c:Int):=by rw[<-Int.natCast_mul];exact UK.nat h
theorem UK.sub(h:we M a b=c):k.wrap ((a:Int)-(b:Int))=(c:Int):=by
 rw[u.w,<-h,we,Int.toNat_of_nonneg];exact Int.emod_nonneg _ (by have:=UK.pos (k:=k) (bi:=bi) (M:=M);omega)
theorem UK.neg(h:we M 0 a=c):k.wrap (0-(a:Int))=(c:Int):=UK.sub h
theorem UK.conv{p:Int}(h:(p%M).toNat=c):k.wrap p=(c:Int):=by
 rw[u.w,<-h,Int.toNat_of_nonneg];exact Int.emod_nonneg _ (by have:=UK.pos (k:=k) (bi:=bi) (M:=M);omega)
theorem UK.quo(h:Me M a b=some c):k.wrap ((a:Int).tdiv (b:Int))=(c:Int):=by
 unfold Me at h;split at h
 ·cases h
 rw[Int.tdiv_eq_ediv_of_nonneg (by omega),<-Int.natCast_ediv];exact UK.nat (Option.some.inj h)
theorem UK.ait(h:a/b%M=c):k.wrap ((a:Int).tdiv (b:Int))=(c:Int):=by
 rw[Int.tdiv_eq_ediv_of_nonneg (by omega),<-Int.natCast_ediv];exact UK.nat h
theorem UK.shl{q:Int}{s:Nat}(hs:min q.toNat k.bits=s)(h:a*2^s%M=c):k.wrap ((a:Int)*2^(min q.toNat k.bits))=(c:Int):=by
 rw[hs,show(a:Int)*2^s=((a*2^s:Nat):Int) by rw[Int.natCast_mul,Int.natCast_pow];rfl];exact UK.nat h
theorem UK.ofInt(a:Nat):(BitVec.ofInt k.bits (a:Int)).toNat=a%M:=by
 rw[BitVec.ofInt_natCast,BitVec.toNat_ofNat,u.hb,u.hm]
theorem UK.or(h:(a ||| b)%M=c):k.wrap ((BitVec.ofInt k.bits (a:Int) ||| BitVec.ofInt k.bits (b:Int)).toNat)=(c:Int):=by
 rw[BitVec.toNat_or,UK.ofInt,UK.ofInt,<-u.hm,<-Nat.or_mod_two_pow,u.hm,h,UK.nat (a:=c) (c:=c)];rw[<-h,Nat.mod_mod]
end uk
theorem Mf{k:IntKind}{a c s:Nat}{q:Int}(hs:min q.toNat k.bits=s)(h:a/2^s=c):(a:Int).fdiv (2^(min q.toNat k.bits))=(c:Int):=by
 rw[hs,Int.fdiv_eq_ediv_of_nonneg _ (Int.le_of_lt (Int.pow_pos (by decide))),<-h,Int.natCast_ediv,Int.natCast_pow];rfl
theorem Z5{a b c:Nat}(h:Kb a b=some c):(a:Int).tmod (b:Int)=(c:Int):=by
 unfold Kb at h;split at h
 ·cases h
 rw[Int.tmod_eq_emod_of_nonneg (by omega),<-Option.some.inj h];rfl
theorem ab6{a b c:Nat}(h:a%b=c):(a:Int).tmod (b:Int)=(c:Int):=by
 rw[Int.tmod_eq_emod_of_nonneg (by omega),<-h];rfl
theorem nzU{M a b c:Nat}(h:Me M a b=some c):(b:Int)≠0:=by
 unfold Me at h;split at h
 ·cases h
 omega
theorem nzR{a b c:Nat}(h:Kb a b=some c):(b:Int)≠0:=by
 unfold Kb at h;split at h
 ·cases h
 omega
theorem nzI{a b c:Int}(h:At a b=some c):b≠0:=by unfold At at h;split at h<;>simp_all
theorem aeD{a b c:Int}(h:Ka a b=some c):b≠0:=by unfold Ka at h;split at h<;>simp_all
theorem V3{a b c:Int}(h:At a b=some c):IntKind.i64.wrap (a.tdiv b)=c:=by
 unfold At at h;split at h
 ·cases h
 exact Option.some.inj h
theorem aeE{a b c:Int}(h:Ka a b=some c):a.tmod b=c:=by
 unfold Ka at h;split at h
 ·cases h
 exact Option.some.inj h
abbrev bh(x:Nat):List SV:=[.v (.int .u32 (x:Nat))]
abbrev bD(x:Int):List SV:=[.v (.int .i64 x)]
abbrev eB(x:Bool):List SV:=[.v (.bool x)]
abbrev eS{α:Type}(n:Nat)(e:α->List SV)(l:List α):List SV:=[slc n (l.map e)]
structure Zr where
 neg:Bool
 w:List Nat
structure Qr where
 num:Zr
 den:Zr
abbrev eZ(z:Zr):List SV:=[.v (.bool z.neg),slc 1 (z.w.map bh)]
abbrev eQ(q:Qr):List SV:=[.v (.bool q.num.neg),slc 1 (q.num.w.map bh),.v (.bool q.den.neg),slc 1 (q.den.w.map bh)]
class EL {α:Type} (e:α->List SV) (n:outParam Nat):Prop where
 len:∀x,(e x).length=n
 one:∀x,xo (e x)
instance:EL bh 1:=⟨λ_=>rfl,λ_=>inferInstance⟩
instance:EL bD 1:=⟨λ_=>rfl,λ_=>inferInstance⟩
instance:EL eB 1:=⟨λ_=>rfl,λ_=>inferInstance⟩
instance{α:Type}{n:Nat}{e:α->List SV}:EL (eS n e) 1:=⟨λ_=>rfl,λ_=>inferInstance⟩
instance:EL eQ 4:=⟨λ_=>rfl,λ_=>inferInstance⟩
def JW{α:Type}(l k:List α):List α:=k.take l.length++l.drop k.length
structure Tb where
 made:Bool
 vars:Int
 Kc:List (List Qr)
 basis:List Int
 rows:List (List Qr)
abbrev zC(x:Tb):List SV:=[.v (.bool x.made),.v (.int .i64 x.vars),slc 1 (x.Kc.map (eS 4 eQ)),slc 1 (x.basis.map bD),slc 1 (x.rows.map (eS 4 eQ))]
structure Lr where
 vars:Int
 Kc:List (List Qr)
 rows:List (List Qr)
 bounds:List Qr
abbrev KX(x:Lr):List SV:=[.v (.int .i64 x.vars),slc 1 (x.Kc.map (eS 4 eQ)),slc 1 (x.rows.map (eS 4 eQ)),slc 4 (x.bounds.map eQ)]
structure Sz where
 vars:Int
 Kc:Int
 rows:Int
 bounds:Int
abbrev eSz(x:Sz):List SV:=[.v (.int .i64 x.vars),.v (.int .i64 x.Kc),.v (.int .i64 x.rows),.v (.int .i64 x.bounds)]
abbrev TR(E:TypeId)(sz:Nat){α:Type}(e:α->List SV)(l:List α):Row:=⟨E,sz,l.length,l.flatMap e⟩
theorem aC{α:Type}{n:Nat}{e:α->List SV}:SV.imp (.v (.slice none 0 0)) (slc n (([]:List α).map e)):=λ_ _ h=>.inl ⟨none,h,Y⟩
theorem yD{α:Type}(e:α->List SV)(l:List α):(l.map e).flatten=l.flatMap e:=by rw[List.flatMap_def]
theorem wh{α:Type}{e:α->List SV}{n:Nat}[h:EL e n](l:List α):Rows n (l.map e) (l.flatMap e):=⟨yD e l,λr hr=>by obtain⟨x,_,rfl⟩:=List.mem_map.1 hr;exact h.len x⟩
theorem KY{M:Mem}:∀{l k:List SV} {vs:List Value},SV.gw M (l++k) vs->∃us ws,vs=us++ws/\SV.gw M l us/\SV.gw M k ws
 |[],_,vs,h=>⟨[],vs,Y,aq,h⟩
 |_::_,_,[],h=>h.elim
 |_::l,_,v::vs,h=>by
  obtain⟨us,ws,rfl,h1,h2⟩:=KY (l:=l) h.2;exact⟨v::us,ws,Y,⟨h.1,h1⟩,h2⟩
theorem qt{α:Type}{e:α->List SV}{n:Nat}[h:EL e n](l:List α):∀M vs,SV.gw M (l.flatMap e) vs->∀v∈vs,v.oneCell'=true:=by
 intro M
 induction l with
 |nil=>intro vs hv;cases vs with|nil=>simp|cons _ _=>exact hv.elim
 |cons x l ih=>
  intro vs hv;rw[List.flatMap_cons]at hv;obtain⟨us,ws,rfl,h1,h2⟩:=KY hv;intro v hv;rcases List.mem_append.1 hv with hv|hv
  ·exact(h.one x).h M us h1 v hv
  exact ih ws h2 v hv
theorem Om{α:Type}{e:α->List SV}{n:Nat}[h:EL e n]:∀{l:List α} {k:Nat} {a:α},l[k]? =some a->((l.flatMap e).drop (k*n)).take n=e a
 |[],_,_,hh=>by simp at hh
 |x::l,0,a,hh=>by
  simp only[List.getElem?_cons_zero,Option.some.injEq]at hh;subst hh;rw[List.flatMap_cons,Nat.zero_mul,List.drop_zero,<-h.len x,List.take_left'];rfl
 |x::l,k+1,a,hh=>by
  rw[List.getElem?_cons_succ]at hh;rw[List.flatMap_cons,show(k+1)*n=(e x).length+k*n by rw[h.len,Nat.add_mul];omega,<-List.drop_drop,List.drop_left']
  ·exact Om hh
  rfl
theorem On{α:Type}{e:α->List SV}{n:Nat}[h:EL e n]{y:α}:∀{l:List α} {k:Nat},k<l.length->rV (l.flatMap e) (k*n) (e y)=(l.set k y).flatMap e:=by
 have aml:∀(u:List SV) (a b:List SV) (j:Nat),j+u.length<=a.length->rV (a++b) j u=rV a j u++b:=by
  intro u
  induction u with
  |nil=>intro a b j _;rfl
  |cons s u ih=>
   intro a b j hj;simp only[List.length_cons]at hj;simp only[rV];rw[List.set_append_left _ _ (by omega),ih _ _ _ (by rw[List.length_set];omega)]
 have amm:∀(u:List SV) (a b:List SV) (j:Nat),rV (a++b) (a.length+j) u=a++rV b j u:=by
  intro u
  induction u with
  |nil=>intro a b j;rfl
  |cons s u ih=>
   intro a b j;simp only[rV];rw[List.set_append_right _ _ (by omega),show a.length+j-a.length=j by omega,show a.length+j+1=a.length+(j+1) by omega,ih]
 have amn:∀(u a:List SV),u.length=a.length->rV a 0 u=u:=by
  have gen:∀(u a p:List SV),u.length=a.length->rV (p++a) p.length u=p++u:=by
   intro u
   induction u with
   |nil=>intro a p ha;have:a=[]:=List.eq_nil_of_length_eq_zero ha.symm;subst this;rfl
   |cons s u ih=>
    intro a p ha;cases a with
    |nil=>cases ha
    |cons t a=>
     simp only[rV];rw[List.set_append_right _ _ (Nat.le_refl _),Nat.sub_self,List.set_cons_zero,show p++s::a=(p++[s])++a by simp,show p.length+1=(p++[s]).length by simp,ih a _ (by simpa using ha)];simp
  intro u a ha;exact gen u a [] ha
 intro l
 induction l with
 |nil=>intro k hk;simp at hk
 |cons x l ih=>
  intro k hk;cases k with
  |zero=>
   rw[List.set_cons_zero,List.flatMap_cons,List.flatMap_cons,Nat.zero_mul,aml _ _ _ _ (by rw[h.len,h.len];omega),amn _ _ (by rw[h.len,h.len])]
  |succ k=>
   simp only[List.length_cons]at hk;rw[List.set_cons_succ,List.flatMap_cons,List.flatMap_cons,show(k+1)*n=(e x).length+k*n by rw[h.len,Nat.add_mul];omega,amm,ih (by omega)]
end
section
open Go.RowKit
section steps
variable {P:Program}{C:Ctx}{ops:Array Oper}{S:AS}{nd:Bool}{K:List Ac->AS->Prop}{rest:List Oper}{acc:List Ac}
variable {gd:Option (Nat×Bool)}{rg:List Nat}{d:Nat}{ty:TypeId}{pos:String}{aft:Array Edge}{x y z:Operand}{T U E0:TypeId}
variable {α:Type}{l l' k:List α}{e:α->List SV}{n by_:Nat}{zv:Value}
theorem RT.amo(hg:Gd ops S gd rg){s X:SV}(hx:S.ev x=.sv s)(hi:SV.imp s X)(hd:d<S.n)
  (next:RunT P C ops nd K rest (⟨rg++bp x,[],[],⟨some (d,.sv X),[],[]⟩⟩::acc) (S.set d (.sv X))):RunT P C ops nd K (⟨some d,.assign x,ty,pos,aft,gd⟩::rest) acc S:=
 RT.value hg (bp x) [] [] (.sv X) hd (by intro c h;cases h) (λS' ht _ _ E a w h=>by
  have hx':S'.ev x=.sv s:=by rw[bQ (λ_ h=>h) ht,hx]
  exact⟨a.eval x,Y,by have:=h.ev x;rw[hx']at this;exact hi _ _ this,iz⟩) next
theorem Uf{E:Env}:∀{l l':List SV} {vs:List Value},cg l l'->SV.gw E.M l vs->eI E (l'.map AV.sv) vs:=λhi h=>eI.Dv (hi.holds h)
theorem Mg(M:Mem):∀l:List Value,SV.gw M (l.map SV.v) l
 |[]=>trivial
 |_::l=>⟨Y,Mg M l⟩
theorem RT.CQ(hg:Gd ops S gd rg)[tz:mK P T zv]{cs:List SV}(hi:cg (zv.cells.toList.map SV.v) cs){av:List AV}(hav:cs.map AV.sv=av)(hd:d<S.n)(hb:S.b d=none)(hp:C.kV d=none)
  (next:RunT P C ops nd K rest (⟨rg++[],[d],[],⟨some (d,.ptr d 0),[(d,⟨T,av⟩)],[]⟩⟩::acc) ((S.oE d ⟨T,av⟩).set d (.ptr d 0))):RunT P C ops nd K (⟨some d,.alloc T,ty,pos,aft,gd⟩::rest) acc S:=by
 subst hav;exact RT.SG hg (by intro c h;cases h) [] hd hb hp (λS' _ E a w h=>⟨zv.cells.toList,by simp[execOp,Instr.alloc,newVar,newRow,tz.run],Uf hi (Mg _ _),λy hy=>by
  obtain⟨s,_,rfl⟩:=List.mem_map.1 hy;exact iz⟩) next
theorem RT.aeF(hg:Gd ops S gd rg){pl:List (Nat×Nat)}{zc:List Value}[tP:lM P T pl zc]{parts:Array (Nat×Operand)}{qs:List (Nat×List SV)}(hp:uY S parts.toList qs){cs cs':List SV}(hf:Co (λi=>pl[i]?) (zc.map SV.v) qs=some cs)(hi:cg cs cs')(hd:d<S.n)
  (next:RunT P C ops nd K rest (⟨rg++qV parts.toList,[],[],⟨some (d,.sv (.agg cs')),[],[]⟩⟩::acc) (S.set d (.sv (.agg cs')))):RunT P C ops nd K (⟨some d,.build T parts,ty,pos,aft,gd⟩::rest) acc S:=by
 refine RT.value hg (qV parts.toList) [] [] (.sv (.agg cs')) hd (by intro c h;cases h) (λS' ht _ _ E a w h=>?_) next
 have hu:=tP.h;cases hT:P.underlying T with
 |none=>rw[hT]at hu;cases hu
 |some u=>
  rw[hT]at hu;cases u with
  |struct fs=>
   simp only at hu;have hz:(zeroValue T).run P w=.ok (.agg ⟨zc⟩) w:=mK.run (t:=⟨tP.hz⟩) w;obtain⟨us,h1,h2,_⟩:=HR h (λi=>pl[i]?) hp ht (cells:=zc.map SV.v) (vs:=zc) (Mg _ zc) (List.all_eq_true.1 tP.o) hf;refine⟨.agg ⟨us⟩,?_,⟨us,Y,hi.holds h2⟩,iz⟩;have hm:(fs.mapM (λf=>do pure (f.offset,<-sizeOf f.type):Field->Sem (Nat×Nat))).run P w=.ok pl.toArray w:=by
    have:=AM (P:=P) (w:=w) hu;rw[<-Array.toArray_toList (xs:=fs),List.mapM_toArray];rw[Sem.run_map,this];rfl
   have h1':Instr.fill (λi=>pl.toArray[i]?) ⟨zc⟩ (parts.toList.map λp=>(p.1,a.eval p.2))=some ⟨us⟩:=by simpa using h1
   simp only[execOp,Instr.build,underlying];simp only[Sem.run_bind,hz,Result.andThen_ok,run_program,hT,Sem.run_pure,Value.cells];have hm':(Array.mapM (λf=>do
     let __do_lift<-sizeOf f.type
     pure (f.offset,__do_lift)) fs:Sem _).run P w=.ok pl.toArray w:=hm
   simp only[hm',Result.andThen_ok];have e4:(Array.map (λx=>match x with|(i,x)=>(i,a.eval x)) parts).toList=parts.toList.map λp=>(p.1,a.eval p.2):=by simp
   simp only[e4,h1',Sem.run_pure,Result.andThen_ok]
  |_=>cases hu
theorem Pure.w{f:FuncId}{args args':List SV}{r:SV}(h:Pure P f args r)(hi:cg args' args):Pure P f args' r:=λM w vs hM hv=>h M w vs hM (hi.holds hv)
theorem Gy.w{f:FuncId}{args args':List SV}{R:Row}(h:Gy P f args R)(hi:cg args' args):Gy P f args' R:=λM w vs hM hv=>h M w vs hM (hi.holds hv)
theorem RT.aiv(hg:Gd ops S gd rg){m:Nat}[tS:gU P T E0 m]{c:Int}(hx:S.ev x=.sv (slc n (l.map e)))(hd:d<S.n)(hc:(l.length:Int)=c)
  (next:RunT P C ops nd K rest (⟨rg++bp x,[],[],⟨some (d,.sv (.v (.int .i64 c))),[],[]⟩⟩::acc) (S.set d (.sv (.v (.int .i64 c))))):RunT P C ops nd K (⟨some d,.call ⟨.builtin .len,#[x],#[T]⟩,ty,pos,aft,gd⟩::rest) acc S:=
 RT.len hg hx hd (by rw[List.length_map,hc];exact next)
theorem RT.Oo(hg:Gd ops S gd rg){m:Nat}[tS:gU P T E0 m]{i:Nat}{E1:TypeId}{c:Int}(hx:S.ev x=.row i)(hR:S.r i=.live (TR E1 n e l))(hd:d<S.n)(hc:(l.length:Int)=c)
  (next:RunT P C ops nd K rest (⟨rg++bp x,[],[i],⟨some (d,.sv (.v (.int .i64 c))),[],[]⟩⟩::acc) (S.set d (.sv (.v (.int .i64 c))))):RunT P C ops nd K (⟨some d,.call ⟨.builtin .len,#[x],#[T]⟩,ty,pos,aft,gd⟩::rest) acc S:=
 RT.alS hg hx hR hd (by show RunT _ _ _ _ _ _ (⟨_,_,_,⟨some (d,.sv (.v (.int .i64 (l.length:Int)))),_,_⟩⟩::_) (S.set d (.sv (.v (.int .i64 (l.length:Int)))));rw[hc];exact next)
theorem RT.Ug(hg:Gd ops S gd rg)[tS:gU P T E0 n]{kk:IntKind}{i:Int}{a:α}(hx:S.ev x=.sv (slc n (l.map e)))(hy:S.ev y=.sv (.v (.int kk i)))(hd:d<S.n)(ha:cL l i=some a)
  (next:RunT P C ops nd K rest (⟨rg++(bp x++bp y),[],[],⟨some (d,.sv (ref (e a))),[],[]⟩⟩::acc) (S.set d (.sv (ref (e a))))):RunT P C ops nd K (⟨some d,.indexAddr T x y,ty,pos,aft,gd⟩::rest) acc S:=
 RT.indexAddr hg (e a) hx hy hd (yB ha).1 (by rw[List.getElem?_map,(yB ha).2];rfl) next
theorem RT.H8(hg:Gd ops S gd rg)[tS:gU P T E0 n]{lo hi:Option Operand}(a b:Int)(hx:S.ev x=.sv (slc n (l.map e)))(hlo:HS S 0 lo a)(hhi:HS S l.length hi b)(hd:d<S.n)(h:GA l a b=some l')
  (next:RunT P C ops nd K rest (⟨rg++(bp x++(uZ lo++uZ hi)),[],[],⟨some (d,.sv (slc n (l'.map e))),[],[]⟩⟩::acc) (S.set d (.sv (slc n (l'.map e))))):RunT P C ops nd K (⟨some d,.slice T x lo hi none,ty,pos,aft,gd⟩::rest) acc S:=by
 obtain⟨h0,h1,h2,h3⟩:=KW h;exact RT.slice hg hx a b hlo (by rw[List.length_map];exact hhi) hd h0 h1 (by rw[List.length_map];exact h2) _ (by rw[SK,h3]) next
theorem RT.jn(hg:Gd ops S gd rg)[tS:gU P T E0 n][tE:nT P E0 n by_ zv]{len:Nat}{parts:Array (Nat×Operand)}{qs:List (Nat×List SV)}(hp:uY S parts.toList qs)(hd:d<S.n)
  (hc:yc 0 qs=true) (hl:qs.length=len) (hsz:(qs.all λq=>Nat.beq q.2.length n)=true) (hlen:Nat.ble (len*n) 16777216=true) (Ub:(zv.cells.toList.all λv=>v.oneCell')=true) (nU:qs.map (·.2)=l.map e)
  (next:RunT P C ops nd K rest (⟨rg++qV parts.toList,[],[],⟨some (d,.sv (slc n (l.map e))),[],[]⟩⟩::acc) (S.set d (.sv (slc n (l.map e))))):RunT P C ops nd K (⟨some d,.buildSlice T len parts,ty,pos,aft,gd⟩::rest) acc S:=
 RT.buildSlice hg hp hd hc hl hsz (af hlen) (List.all_eq_true.1 Ub) nU next
theorem RT.Mh(hg:Gd ops S gd rg)[tS:gU P T E0 n][tE:nT P E0 n by_ zv]{len:Nat}{parts:Array (Nat×Operand)}{qs:List (Nat×List SV)}(hp:uY S parts.toList qs)(hd:d<S.n)(uF:S.r d=.un)(Cn:d<1000)
  (hc:yc 0 qs=true) (hl:qs.length=len) (hsz:(qs.all λq=>Nat.beq q.2.length n)=true) (hlen:Nat.ble (len*n) 16777216=true) (Ub:(zv.cells.toList.all λv=>v.oneCell')=true) (nU:qs.map (·.2)=l.map e)
  (next:RunT P C ops nd K rest (⟨rg++qV parts.toList,[],[d],⟨some (d,.row d),[],[(d,.live (TR E0 n e l))]⟩⟩::acc) ((AS.cO [(d,.live (TR E0 n e l))] S).set d (.row d))):RunT P C ops nd K (⟨some d,.buildSlice T len parts,ty,pos,aft,gd⟩::rest) acc S:=by
 refine RT.Og hg hp hd uF Cn hc hl hsz (af hlen) (List.all_eq_true.1 Ub) (cells:=l.flatMap e) (by rw[nU,yD]) ?_;have:len=l.length:=by have h0:=congrArg List.length nU;simpa[hl]using h0
 rw[this];exact next
theorem RT.apR(hg:Gd ops S gd rg)[tS:gU P T E0 n][tE:nT P E0 n by_ zv]{i:Nat}(hx:S.ev x=.row i)(hR:S.r i=.live (TR E0 n e l))(hy:S.ev y=.sv (slc n (k.map e)))(hd:d<S.n)(uF:S.r d=.un)(Cn:d<1000)(h:nD by_ l k=some l')
  (next:RunT P C ops nd K rest (⟨rg++(bp x++bp y),[],[i,d],⟨some (d,.row d),[],[(i,.dead),(d,.live (TR E0 n e l'))]⟩⟩::acc) ((AS.cO [(i,.dead),(d,.live (TR E0 n e l'))] S).set d (.row d))):RunT P C ops nd K (⟨some d,.call ⟨.builtin .append,#[x,y],#[T,T]⟩,ty,pos,aft,gd⟩::rest) acc S:=by
 obtain⟨h1,h2,rfl⟩:=AN h;exact RT.ZU hg hx hR hy hd uF Cn (by simpa using h1) (by simpa using h2) _ (by simp[yD]) next
theorem RT.Z6(hg:Gd ops S gd rg)[tS:gU P T E0 n][tE:nT P E0 n by_ zv][el:EL e n]{i:Nat}(hx:S.ev x=.row i)(hR:S.r i=.live (TR E0 n e l))(hy:S.ev y=.sv (slc n (k.map e)))(hd:d<S.n)(uF:S.r d=.un)(Cn:d<1000)(h:nD by_ l k=some l')
  (next:RunT P C ops nd K rest (⟨rg++(bp x++bp y),[],[d,i],⟨some (d,.sv (slc n (l'.map e))),[],[(i,.dead),(d,.dead)]⟩⟩::acc) ((AS.cO [(i,.dead),(d,.dead)] S).set d (.sv (slc n (l'.map e))))):RunT P C ops nd K (⟨some d,.call ⟨.builtin .append,#[x,y],#[T,T]⟩,ty,pos,aft,gd⟩::rest) acc S:=by
 obtain⟨h1,h2,rfl⟩:=AN h;have hf:l.flatMap e++(k.map e).flatten=(l++k).flatMap e:=by simp[yD]
 exact RT.Md hg (.row hx hR) hy hd uF Cn (by simpa using h1) (by simpa using h2) _ (rows':=(l++k).map e) (λ_ _ h _=>h) (by rw[hf];exact wh _) (by simp) (by rw[hf];exact qt _) next
theorem RT.aeG(hg:Gd ops S gd rg)[tS:gU P T E0 n][tE:nT P E0 n by_ zv][el:EL e n](hx:S.ev x=.sv (.v (.slice none 0 0)))(hy:S.ev y=.sv (slc n (k.map e)))(hd:d<S.n)(uF:S.r d=.un)(Cn:d<1000)(h:nD by_ [] k=some l')
  (next:RunT P C ops nd K rest (⟨rg++(bp x++bp y),[],[d],⟨some (d,.sv (slc n (l'.map e))),[],[(d,.dead)]⟩⟩::acc) ((AS.cO [(d,.dead)] S).set d (.sv (slc n (l'.map e))))):RunT P C ops nd K (⟨some d,.call ⟨.builtin .append,#[x,y],#[T,T]⟩,ty,pos,aft,gd⟩::rest) acc S:=by
 obtain⟨h1,h2,rfl⟩:=AN h;have hf:([]:List SV)++(k.map e).flatten=([]++k).flatMap e:=by simp[yD]
 exact RT.Md hg (.nil hx) hy hd uF Cn (by simpa using h1) (by simpa using h2) _ (rows':=([]++k).map e) (λ_ _ h _=>h) (by rw[hf];exact wh _) (by simp) (by rw[hf];exact qt _) next
theorem KZ(zc:Array Value)(n:Nat)(hz:zc.size=n)(hn:0<n):∀m:Nat,(madeCells zc (m*n)).toList=(List.replicate m zc.toList).flatten
 |0=>by simp[madeCells]
 |m+1=>by
  have ih:=KZ zc n hz hn m;rw[List.replicate_succ',List.flatten_append,<-ih];simp only[madeCells,Array.toList_map,Array.toList_range,List.flatten_cons,List.flatten_nil,List.append_nil];rw[show(m+1)*n=m*n+n by rw[Nat.add_mul];omega,List.range_add,List.map_append,List.map_map];congr 1;apply List.ext_getElem?;intro i;rw[List.getElem?_map];rcases Nat.lt_or_ge i n with hi|hi
  ·rw[List.getElem?_range hi];simp only[Option.map_some,Function.comp];rw[hz,Nat.mul_comm m n,Nat.mul_add_mod,Nat.mod_eq_of_lt hi];rw[getElem!_pos zc i (by omega),Array.getElem?_toList,Array.getElem?_eq_getElem (by omega)]
  rw[List.getElem?_eq_none (by simpa using hi),List.getElem?_eq_none (by simp;omega)];rfl
theorem Oq:∀{a b c d:List SV},cg a c->cg b d->cg (a++b) (c++d)
 |[],_,[],_,_,h=>h
 |_::_,_,_::_,_,h,h'=>⟨h.1,Oq h.2 h'⟩
 |[],_,_::_,_,h,_=>h.elim
 |_::_,_,[],_,h,_=>h.elim
theorem Ot{zl:List Value}{zz:α}(hi:cg (zl.map SV.v) (e zz)):∀m:Nat,cg ((List.replicate m zl).flatten.map SV.v) ((List.replicate m zz).flatMap e)
 |0=>trivial
 |m+1=>by
  rw[List.replicate_succ,List.replicate_succ,List.flatten_cons,List.map_append,List.flatMap_cons];exact Oq hi (Ot hi m)
theorem RT.tL(hg:Gd ops S gd rg)[tS:gU P T E0 n][tE:nT P E0 n by_ zv]{kl kc:IntKind}{c:Int}{zz:α}(hx:S.ev x=.sv (.v (.int kl c)))(hy:S.ev y=.sv (.v (.int kc c)))(hd:d<S.n)(uF:S.r d=.un)(Cn:d<1000)(hz:zv.cells.size=n)(hn:0<n)(hi:cg (zv.cells.toList.map SV.v) (e zz))(hm:G5 by_ c zz=some l')
  (next:RunT P C ops nd K rest (⟨rg++(bp x++bp y),[],[d],⟨some (d,.row d),[],[(d,.live (TR E0 n e l'))]⟩⟩::acc) ((AS.cO [(d,.live (TR E0 n e l'))] S).set d (.row d))):RunT P C ops nd K (⟨some d,.makeSlice T x y,ty,pos,aft,gd⟩::rest) acc S:=by
 obtain⟨h0,hroom,AK,rfl⟩:=VY hm;refine .inl ⟨_,[],[d],_,?_,next⟩;rintro S' hn' ht _ hr i a w L Q ho ⟨E,h⟩ hL;refine dy (C:=C) ho (hg.wanted h (λs hs=>ht s (List.mem_append_left _ hs)) Y) ?_;have h1:a.eval x=.int kl c:=by have h1:=h.ev x;rw[bQ (λ_ h=>List.mem_append_right _ (List.mem_append_left _ h)) ht,hx]at h1;exact h1
 have h2:a.eval y=.int kc c:=by have h2:=h.ev y;rw[bQ (λ_ h=>List.mem_append_right _ (List.mem_append_right _ h)) ht,hy]at h2;exact h2
 obtain⟨info,hii,hsz,hby,hzz⟩:=nT.info (P:=P) (E:=E0) (n:=n) (by_:=by_) (z:=zv);obtain⟨m,rfl⟩:=Int.eq_ofNat_of_zero_le h0;have hb':info.bytes*m<=281474976710656:=by
  rw[hby];have:((by_*m:Nat):Int)<=281474976710656:=by rw[Int.natCast_mul];exact hroom
  omega
 obtain⟨w',q1,q2,q3⟩:=run_make_full (P:=P) w 0 T E0 info zv n tS.u hii hzz hsz kl kc m hb' (by unfold maxLen;omega) (Nat.zero_le _);have hr':(execOp a.eval ⟨some d,.makeSlice T x y,ty,pos,aft,gd⟩).run P w=.ok (.value (.slice (some ⟨w.heap.size,0,none⟩) m m)) w':=by
  simp only[execOp,h1,h2];simp[q1]
 have Ua:S'.r d=.un:=by rw[hr d (by simp)];exact uF
 have e0:(m:Int).toNat=m:=by simp
 have hall:SV.gw E.M ((List.replicate m zz).flatMap e) (madeCells zv.cells (m*n)).toList:=by
  rw[KZ zv.cells n hz hn];exact cg.holds (l:=((List.replicate m zv.cells.toList).flatten.map SV.v)) (Ot hi m) (Mg _ _)
 have hlen:(List.replicate (m:Int).toNat zz).length=m:=by simp
 refine dm (C:=C) (by intro c h;cases h) hr' (hL _ _ ⟨_,(h.newRow Ua Cn [] none (.inl ⟨rfl,rfl⟩) (R':=TR E0 n e (List.replicate (m:Int).toNat zz)) (by show w'.ownsRow 0 E0 n _ (List.replicate (m:Int).toNat zz).length _;rw[hlen];exact q2) (by rw[e0];exact hall) (.inr (.inl rfl)) q3).put (d:=d) (x:=.row d) (v:=.slice (some ⟨w.heap.size,0,none⟩) m m) (by simp[AV.holds]) (by show d<S'.n;omega) ⟨λ_ e=>e.elim,λj e=>?_⟩⟩);cases e;show(AS.xZ S' d _).r d≠_;rw[AS.lK];simp
theorem RT.K0(hg:Gd ops S gd rg)[tS:gU P T E0 n][tE:nT P E0 n by_ zv]{kl kc:IntKind}{c:Int}(hx:S.ev x=.sv (.v (.int kl 0)))(hy:S.ev y=.sv (.v (.int kc c)))(hd:d<S.n)(uF:S.r d=.un)(Cn:d<1000)(h:VW (α:=α) by_ c=some l')
  (next:RunT P C ops nd K rest (⟨rg++(bp x++bp y),[],[d],⟨some (d,.row d),[],[(d,.live (TR E0 n e l'))]⟩⟩::acc) ((AS.cO [(d,.live (TR E0 n e l'))] S).set d (.row d))):RunT P C ops nd K (⟨some d,.makeSlice T x y,ty,pos,aft,gd⟩::rest) acc S:=by
 obtain⟨h0,h1,h2,rfl⟩:=VZ h;exact RT.ah4 hg hx hy hd uF Cn h0 h1 h2 next
theorem RT.Ou(hg:Gd ops S gd rg)[tS:gU P T E0 n]{i j:Nat}{E1:TypeId}{kk:IntKind}{v:Int}(hx:S.ev x=.row i)(hR:S.r i=.live (TR E1 n e l))(hy:S.ev y=.sv (.v (.int kk v)))(hd:d<S.n)(h:kW l v=some j)
  (next:RunT P C ops nd K rest (⟨rg++(bp x++bp y),[],[i],⟨some (d,.nC i (j*n)),[],[]⟩⟩::acc) (S.set d (.nC i (j*n)))):RunT P C ops nd K (⟨some d,.indexAddr T x y,ty,pos,aft,gd⟩::rest) acc S:=by
 obtain⟨h0,h1,h2⟩:=VX h;exact RT.ixR hg (.row hx hR) hy hd h0 h1 (j*n) (by rw[h2];omega) next
theorem RT.Mi(hg:Gd ops S gd rg)[tV:zo P T][el:EL e 1]{i j:Nat}{E1:TypeId}{a:α}{s:SV}(hx:S.ev x=.nC i (j*1))(hR:S.r i=.live (TR E1 1 e l))(ha:l[j]? =some a)(hs:e a=[s])(hd:d<S.n)
  (next:RunT P C ops nd K rest (⟨rg++bp x,[],[i],⟨some (d,.sv s),[],[]⟩⟩::acc) (S.set d (.sv s))):RunT P C ops nd K (⟨some d,.load T x,ty,pos,aft,gd⟩::rest) acc S:=by
 refine RT.ldR hg hx hR (s:=s) ?_ hd next
 have:=Om (e:=e) ha;rw[hs]at this;have h2:=congrArg (·[0]?) this;simpa[List.getElem?_take]using h2
theorem Z7(a:List SV)(k:Nat)(s:SV):a.set k s=rV a k [s]:=rfl
theorem RT.amq(hg:Gd ops S gd rg)[tV:zo P T][el:EL e 1]{i j:Nat}{E1:TypeId}{s:SV}[o1:One s](a:α)(hs:e a=[s])(hx:S.ev x=.nC i (j*1))(hR:S.r i=.live (TR E1 1 e l))(hy:S.ev y=.sv s)(h:stM l j a=some l')
  (next:RunT P C ops nd K rest (⟨rg++(bp x++bp y),[],[i],⟨none,[],[(i,.live (TR E1 1 e l'))]⟩⟩::acc) (AS.cO [(i,.live (TR E1 1 e l'))] S)):RunT P C ops nd K (⟨none,.store T x y,ty,pos,aft,gd⟩::rest) acc S:=by
 obtain⟨h1,rfl⟩:=Oj h;refine RT.stR hg hx hR hy (by show j*1+1<=l.length*1;omega) ((l.set j a).flatMap e) (by rw[Z7,<-hs];exact On h1) ?_;have:(TR E1 1 e (l.set j a))=⟨E1,1,l.length,(l.set j a).flatMap e⟩:=by show Row.mk _ _ _ _=_;rw[List.length_set]
 rw[<-this];exact next
theorem RT.aiw(hg:Gd ops S gd rg)[tA:Gv P T n][el:EL e n]{i j:Nat}{E1:TypeId}(a:α)(hx:S.ev x=.nC i (j*n))(hR:S.r i=.live (TR E1 n e l))(hy:S.ev y=.sv (.agg (e a)))(h:stM l j a=some l')
  (next:RunT P C ops nd K rest (⟨rg++(bp x++bp y),[],[i],⟨none,[],[(i,.live (TR E1 n e l'))]⟩⟩::acc) (AS.cO [(i,.live (TR E1 n e l'))] S)):RunT P C ops nd K (⟨none,.store T x y,ty,pos,aft,gd⟩::rest) acc S:=by
 obtain⟨h1,rfl⟩:=Oj h;have o1:=el.one a;refine RT.alZ hg hx hR hy (el.len a) (by show j*n+n<=l.length*n;have:=Nat.mul_le_mul_right n h1;rw[Nat.succ_mul]at this;exact this) ((l.set j a).flatMap e) (On h1) ?_;have:(TR E1 n e (l.set j a))=⟨E1,n,l.length,(l.set j a).flatMap e⟩:=by show Row.mk _ _ _ _=_;rw[List.length_set]
 rw[<-this];exact next
end steps
theorem cV{S:AS}{i n:Nat}{E1:TypeId}{α:Type}{e:α->List SV}{l:List α}[el:EL e n](hR:S.r i=.live (TR E1 n e l)):AF S (S.uX i (slc n (l.map e))):=by
 rintro C a w ⟨E,h⟩;have hlen:l.length<=9223372036854775807:=by
  obtain⟨⟨vs,ho,hv⟩,_⟩:=h.rx i _ hR;rcases ho.2 with⟨_,q2⟩|⟨g',cap,cur,q1,_,q2,q3,q4,q5,q6⟩
  ·have q2:l.length=0:=q2;omega
  have q3:l.length<=cap:=q3;have:maxLen=9223372036854775807:=by decide
  omega
 exact h.uX hR (wh l) (by rw[List.length_map]) hlen (qt l) (λ_ _ h _=>h)
section control
variable {P:Program}{C:Ctx}{S:AS}{Q:Exit->AS->Prop}
theorem bJ{A:Code}{J R:Type}{kB:J->Option R}{fA:(J->Option R)->Option R}{r:R}(h:cE kB fA=some r)(I:J->AS)
  (hA:fA kB=some r->Ok P C A S (aW (λS'=>∃j,kB j=some r/\AF S' (I j)) Q)) (hQ:∀j,kB j=some r->Q .normal (I j)):Ok P C A S Q:=λa w hs=>by
 refine wpIn_mono (hA h a w hs) ?_;rintro e a' w' ⟨S',q,hh⟩;cases e with
 |normal=>obtain⟨j,h1,h2⟩:=q;exact⟨_,hQ j h1,h2 C a' w' hh⟩
 |_=>exact⟨S',q,hh⟩
theorem bK{A:Code}{X:Type}(I:X->AS)(p:X->Prop)(hA:Ok P C A S (aW (λS'=>∃j,p j/\AF S' (I j)) Q))(hQ:∀j,p j->Q .normal (I j)):Ok P C A S Q:=λa w hs=>by
 refine wpIn_mono (hA a w hs) ?_;rintro e a' w' ⟨S',q,hh⟩;cases e with
 |normal=>obtain⟨j,h1,h2⟩:=q;exact⟨_,hQ j h1,h2 C a' w' hh⟩
 |_=>exact⟨S',q,hh⟩
theorem bL{c:Code}{T E:Type}{body:T->Option (T⊕E)}{s0:T}{e:E}(h:bX body s0=some e)(I:T->AS)(h0:AF S (I s0))
  (round:∀(s:T) (y:T⊕E) (G:T->Prop),body s=some y->(∀s',y=.inl s'->G s')->(∀e',y=.inr e'->e'=e)->Ok P C c (I s) (aW (λS'=>∃s',G s'/\AF S' (I s')) Q)):Ok P C (.loop c) S Q:=by
 obtain⟨n,hn⟩:=CO h;refine GZ (ι:={x:T×Nat//vc body x.2 x.1=some e}) (λx=>I x.1.1) (λx=>x.1.2) ⟨(s0,n),hn⟩ h0 ?_;rintro⟨⟨s,m⟩,hm⟩;cases m with
 |zero=>cases hm
 |succ m=>
  cases hb:body s with
  |none=>simp only[vc,hb]at hm;cases hm
  |some y=>
   refine L4 (round s y (λs'=>vc body m s'=some e) hb ?_ ?_) ?_
   ·rintro s' rfl;simpa only[vc,hb]using hm
   ·rintro e' rfl;simp only[vc,hb]at hm;exact Option.some.inj hm
   intro ex S' q;cases ex with
   |normal=>obtain⟨s',h1,h2⟩:=q;exact⟨⟨(s',m),h1⟩,Nat.lt_succ_self m,h2⟩
   |_=>exact q
end control
end
section
open Go.RowKit
abbrev Zx:=List UInt8
def bs(l:Zx):ByteArray:=⟨⟨l⟩⟩
def Cr(l:Zx)(i:Int):Option Nat:=(cL l i).map UInt8.toNat
theorem Z8(l:Zx):(bs l).size=l.length:=rfl
theorem aeH(l:Zx)(i:Nat):(bs l)[i]? =l[i]? :=by
 rcases Nat.lt_or_ge i l.length with h|h
 ·rw[getElem?_pos (bs l) i h,List.getElem?_eq_getElem h];rfl
 rw[getElem?_neg (bs l) i (by rw[Z8];omega),List.getElem?_eq_none h]
section steps
variable {P:Program}{C:Ctx}{ops:Array Oper}{S:AS}{nd:Bool}{K:List Ac->AS->Prop}{rest:List Oper}{acc:List Ac}
variable {gd:Option (Nat×Bool)}{rg:List Nat}{d:Nat}{ty:TypeId}{pos:String}{aft:Array Edge}{x y z:Operand}{T U E0:TypeId}
variable {l l' k:Zx}
theorem RT.skV{op:Op}{j g:Nat}{b want:Bool}(h1:(ops[j]?).bind (·.dst)=some g)(h2:S.t g=.sv (.v (.bool b)))(hb:b≠want)(hd:d<S.n)
  (next:RunT P C ops nd K rest (⟨[g],[],[],⟨some (d,.sv (.v undef)),[],[]⟩⟩::acc) (S.set d (.sv (.v undef)))):RunT P C ops nd K (⟨some d,op,ty,pos,aft,some (j,want)⟩::rest) acc S:=by
 refine .inl ⟨[g],[],[],⟨some (d,.sv (.v undef)),[],[]⟩,?_,next⟩;rintro S' hn ht _ _ i a w L Q ho ⟨E,h⟩ hL;have hv:=h.tm g;rw[ht g (by simp),h2]at hv;have hv:a.tmps.getD g undef=.bool b:=hv;have NZ:a.tmps[g]? =some (.bool b):=by
  rw[Array.getD_eq_getD_getElem?]at hv;cases e:a.tmps[g]? with
  |none=>rw[e]at hv;simp[undef]at hv
  |some x=>rw[e]at hv;simp at hv;rw[hv]
 have hw:Region.wanted ⟨some d,op,ty,pos,aft,some (j,want)⟩ (yielded ops a.tmps)=false:=by
  simp[Region.wanted,yielded,h1,NZ,hb]
 simp only[wpOpIn,ho,hw];exact⟨λ_ _=>trivial,hL _ _ ⟨E,h.put (x:=.sv (.v undef)) (v:=undef) Y (by omega) ⟨λ_ h=>h.elim,λ_ h=>h.elim⟩⟩⟩
theorem RT.aix{op:Op}{j g:Nat}{want:Bool}(h1:(ops[j]?).bind (·.dst)=some g)(h2:S.t g=.sv (.v undef))(hd:d<S.n)
  (next:RunT P C ops nd K rest (⟨[g],[],[],⟨some (d,.sv (.v undef)),[],[]⟩⟩::acc) (S.set d (.sv (.v undef)))):RunT P C ops nd K (⟨some d,op,ty,pos,aft,some (j,want)⟩::rest) acc S:=by
 refine .inl ⟨[g],[],[],⟨some (d,.sv (.v undef)),[],[]⟩,?_,next⟩;rintro S' hn ht _ _ i a w L Q ho ⟨E,h⟩ hL;have hv:=h.tm g;rw[ht g (by simp),h2]at hv;have hv:a.tmps.getD g undef=undef:=hv;rw[Array.getD_eq_getD_getElem?]at hv;have hw:Region.wanted ⟨some d,op,ty,pos,aft,some (j,want)⟩ (yielded ops a.tmps)=false:=by
  cases e:a.tmps[g]? with
  |none=>simp[Region.wanted,yielded,h1,e]
  |some x=>
   rw[e]at hv;simp only[Option.getD_some]at hv;subst hv;simp[Region.wanted,yielded,h1,e,undef]
 simp only[wpOpIn,ho,hw];exact⟨λ_ _=>trivial,hL _ _ ⟨E,h.put (x:=.sv (.v undef)) (v:=undef) Y (by omega) ⟨λ_ h=>h.elim,λ_ h=>h.elim⟩⟩⟩
theorem RT.six(hg:Gd ops S gd rg)[tS:abS P T]{kk:IntKind}{i:Int}{c:Nat}(hx:S.ev x=.sv (.v (.string (bs l))))(hy:S.ev y=.sv (.v (.int kk i)))(hd:d<S.n)(h:Cr l i=some c)
  (next:RunT P C ops nd K rest (⟨rg++(bp x++bp y),[],[],⟨some (d,.sv (.v (.int .u8 (c:Nat)))),[],[]⟩⟩::acc) (S.set d (.sv (.v (.int .u8 (c:Nat)))))):RunT P C ops nd K (⟨some d,.index T x y,ty,pos,aft,gd⟩::rest) acc S:=
 RT.N5 hg (by intro c h;cases h) hx hy hd (λρ w h1 h2=>by
  unfold Cr at h;cases hh:cL l i with
  |none=>rw[hh]at h;cases h
  |some b=>
   rw[hh]at h;obtain⟨q1,q2⟩:=yB hh;have q3:b.toNat=c:=Option.some.inj h;have q4:(bs l)[i.toNat]? =some b:=by rw[aeH];exact q2
   simp[execOp,h1,h2,Instr.index,asIntOf,underlying,tS.h,q1,q4,q3]) next
end steps
section rows
variable {P:Program}{C:Ctx}{ops:Array Oper}{S:AS}{nd:Bool}{K:List Ac->AS->Prop}{rest:List Oper}{acc:List Ac}
variable {gd:Option (Nat×Bool)}{rg:List Nat}{d:Nat}{ty:TypeId}{pos:String}{aft:Array Edge}{x y z:Operand}{T U E0:TypeId}
variable {α:Type}{l l' k:List α}{e:α->List SV}{n by_:Nat}{zv:Value}
end rows
end
section
open Go.RowKit
def Cs{α:Type}(l l':List α):Option Unit:=if l'.length=l.length then some ()else none
theorem sE{α:Type}{l l':List α}{u:Unit}(h:Cs l l'=some u):l'.length=l.length:=by
 unfold Cs at h;split at h
 ·assumption
 cases h
def ckS{α:Type}(l:List α)(lo hi:Int):Option (Nat×Nat):=if 0<=lo/\lo<l.length/\lo<=hi/\hi<=l.length then some (lo.toNat,(hi-lo).toNat)else none
theorem V4{α:Type}{l:List α}{lo hi:Int}{o n:Nat}(h:ckS l lo hi=some (o,n)):0<=lo/\lo<l.length/\lo<=hi/\hi<=l.length/\lo.toNat=o/\(hi-lo).toNat=n:=by
 unfold ckS at h;split at h
 ·rename_i hh;obtain⟨q1,q2⟩:=Prod.mk.inj (Option.some.inj h);exact⟨hh.1,hh.2.1,hh.2.2.1,hh.2.2.2,q1,q2⟩
 cases h
def Zy(o n:Nat)(i:Int):Option Nat:=if 0<=i/\i<n then some (o+i.toNat)else none
theorem V5{o n j:Nat}{i:Int}(h:Zy o n i=some j):0<=i/\i<n/\o+i.toNat=j:=by
 unfold Zy at h;split at h
 ·rename_i hh;exact⟨hh.1,hh.2,Option.some.inj h⟩
 cases h
theorem cg.get:∀{l l':List SV} {k:Nat} {s':SV},cg l l'->l'[k]? =some s'->∃s,l[k]? =some s/\SV.imp s s'
 |x::_,y::_,0,_,h,e=>⟨x,Y,by simp at e;subst e;exact h.1⟩
 |_::l,_::l',k+1,_,h,e=>by simpa using cg.get (l:=l) (l':=l') h.2 (by simpa using e)
 |[],[],_,_,_,e=>by simp at e
 |[],_::_,_,_,h,_=>h.elim
 |_::_,[],_,_,h,_=>h.elim
theorem cg.len:∀{l l':List SV},cg l l'->l'.length=l.length
 |[],[],_=>rfl
 |_::_,_::_,h=>congrArg (· +1) (cg.len h.2)
 |[],_::_,h=>h.elim
 |_::_,[],h=>h.elim
theorem Z9{α:Type}{e:α->List SV}{l:List α}{n:Nat}{M:Mem}{v:Value}(h:(slc n (l.map e)).h M v):l.length<=9223372036854775807:=by
 rcases h with⟨_,_,h⟩|⟨b,o,c,_,_,h,_⟩
 ·have:l=[]:=by simpa using h
  subst this;simp
 rwa[List.length_map]at h
theorem G7{α:Type}{e:α->List SV}{l:List α}{n:Nat}{M:Mem}{v:Value}(h:(ref [slc n (l.map e)]).h M v):l.length<=9223372036854775807:=by
 obtain⟨b,o,_,h⟩:=h;obtain⟨y,_,_,h⟩:=h 0 _ Y;exact Z9 h
theorem CR{l:List Nat}{i:Nat}(h:l.length<=i):l.getD i 0=0:=by simp[List.getD,List.getElem?_eq_none h]
theorem AO{l:List Nat}{i:Nat}(h:i<l.length):l[i]? =some (l.getD i 0):=by simp[List.getD,h]
theorem mB{α:Type}{l:List α}{d:α}{i:Nat}(h:l.length<=i):l.getD i d=d:=by simp[List.getD,List.getElem?_eq_none h]
theorem jF{α:Type}{l:List α}{d:α}{i:Nat}(h:i<l.length):l[i]? =some (l.getD i d):=by simp[List.getD,h]
theorem H9{α β:Type}(a:List α)(b:List β)(i:Nat)(h:i<=max a.length b.length):(i<max a.length b.length/\i<a.length/\i<b.length)\/(i<max a.length b.length/\i<a.length/\b.length<=i)\/(i<max a.length b.length/\a.length<=i/\i<b.length)\/i=max a.length b.length:=by omega
section steps
variable {P:Program}{C:Ctx}{ops:Array Oper}{S:AS}{nd:Bool}{K:List Ac->AS->Prop}{rest:List Oper}{acc:List Ac}
variable {gd:Option (Nat×Bool)}{rg:List Nat}{d:Nat}{ty:TypeId}{pos:String}{aft:Array Edge}{x y z:Operand}{T U E0:TypeId}
variable {α:Type}{l l' k:List α}{e:α->List SV}{n by_:Nat}{zv:Value}
theorem aeJ{E1:TypeId}(h:l'.length=l.length):(⟨E1,n,l.length,l'.flatMap e⟩:Row)=TR E1 n e l':=by show _=Row.mk _ _ _ _;rw[h]
theorem RT.aeK(hg:Gd ops S gd rg){f:FuncId}[cZ P f]{g:Operand}{xs:Array Operand}{at_:Array TypeId}{args:List AV}{E1:TypeId}{res:AV}(hp:QO P f args (TR E1 n e l) res (l'.flatMap e))(hlen:l'.length=l.length)(i:Nat)(hR:S.r i=.live (TR E1 n e l))(hrow:args.all AV.E5=true)(hres:res.E5=true)
  (hf:S.ev g=.sv (.v (.func (.func f) #[] #[]))) (hargs:CJ S xs.toList (args.map (AV.F1 i))) (hd:d<S.n)
  (next:RunT P C ops nd K rest (⟨rg++(bp g++xs.toList.flatMap bp),[],[i],⟨some (d,res.F1 i),[],[(i,.live (TR E1 n e l'))]⟩⟩::acc) ((AS.cO [(i,.live (TR E1 n e l'))] S).set d (res.F1 i))):RunT P C ops nd K (⟨some d,.call ⟨.value g,xs,at_⟩,ty,pos,aft,gd⟩::rest) acc S:=
 RT.aie hg hp i hR hrow hres hf hargs hd (by rw[aeJ hlen];exact next)
theorem RT.aiy(hg:Gd ops S gd rg)[tS:gU P T E0 n]{i o m:Nat}{E1:TypeId}{lo hi:Option Operand}(a b:Int)(hx:S.ev x=.row i)(hR:S.r i=.live (TR E1 n e l))(hlo:HS S 0 lo a)(hhi:HS S l.length hi b)(hd:d<S.n)(h:ckS l a b=some (o,m))
  (next:RunT P C ops nd K rest (⟨rg++(bp x++(uZ lo++uZ hi)),[],[i],⟨some (d,.uW i (o*n) m),[],[]⟩⟩::acc) (S.set d (.uW i (o*n) m))):RunT P C ops nd K (⟨some d,.slice T x lo hi none,ty,pos,aft,gd⟩::rest) acc S:=by
 obtain⟨h0,h1,h2,h3,h4,h5⟩:=V4 h;exact RT.aep hg (.row hx hR) a b hlo hhi hd h0 h1 h2 h3 (o*n) m (by rw[h4];omega) h5 next
theorem RT.aeL(hg:Gd ops S gd rg){m:Nat}[tS:gU P T E0 m]{i o q:Nat}{c:Int}(hx:S.ev x=.uW i o q)(hd:d<S.n)(hc:(q:Int)=c)
  (next:RunT P C ops nd K rest (⟨rg++bp x,[],[],⟨some (d,.sv (.v (.int .i64 c))),[],[]⟩⟩::acc) (S.set d (.sv (.v (.int .i64 c))))):RunT P C ops nd K (⟨some d,.call ⟨.builtin .len,#[x],#[T]⟩,ty,pos,aft,gd⟩::rest) acc S:=
 RT.aid hg hx hd (by rw[hc];exact next)
theorem RT.Ov(hg:Gd ops S gd rg)[tS:gU P T E0 n]{i o q j:Nat}{kk:IntKind}{v:Int}(hx:S.ev x=.uW i (o*n) q)(hy:S.ev y=.sv (.v (.int kk v)))(hd:d<S.n)(h:Zy o q v=some j)
  (next:RunT P C ops nd K rest (⟨rg++(bp x++bp y),[],[],⟨some (d,.nC i (j*n)),[],[]⟩⟩::acc) (S.set d (.nC i (j*n)))):RunT P C ops nd K (⟨some d,.indexAddr T x y,ty,pos,aft,gd⟩::rest) acc S:=by
 obtain⟨h0,h1,h2⟩:=V5 h;exact RT.ixR hg (.uW hx) hy hd h0 h1 (j*n) (by rw[<-h2,Nat.add_mul]) next
end steps
def uM{S:Type}(body:Nat->S->Option S):Nat->S->Option S
 |0,s=>some s
 |n+1,s=>(uM body n s).bind (body n)
theorem vV{S:Type}{body:Nat->S->Option S}:∀{n:Nat} {s e:S},uM body n s=some e->∃st:Nat->S,st 0=s/\(∀k,k<n->body k (st k)=some (st (k+1)))/\st n=e
 |0,s,e,h=>⟨λ_=>s,Y,λ_ h=>by omega,Option.some.inj h⟩
 |n+1,s,e,h=>by
  obtain⟨e1,h1,h2⟩:=bind_some (x:=uM body n s) h;obtain⟨st,q1,q2,q3⟩:=vV h1;refine⟨λk=>if k=n+1 then e else st k,by simpa using q1,λk hk=>?_,by simp⟩;rcases Nat.lt_or_ge k n with hkn|hkn
  ·simpa[show k≠n+1 by omega,show k≠n by omega]using q2 k hkn
  obtain rfl:k=n:=by omega
  simpa[q3]using h2
theorem E8{S:Type}{body:Nat->S->Option S}(st:Nat->S):∀(n:Nat),(∀k,k<n->body k (st k)=some (st (k+1)))->uM body n (st 0)=some (st n)
 |0,_=>rfl
 |n+1,h=>by
  rw[uM,E8 st n (λk hk=>h k (by omega))];exact h n (by omega)
def wj{S E:Type}(body:Nat->S->Option (S⊕E)):Nat->S->Option (S⊕E)
 |0,s=>some (.inl s)
 |n+1,s=>(wj body n s).bind λr=>match r with|.inl s'=>body n s'|.inr e=>some (.inr e)
theorem K1{S E:Type}{body:Nat->S->Option (S⊕E)}:∀{n:Nat} {s:S} {r:S⊕E},wj body n s=some r->∃(m:Nat) (st:Nat->S),st 0=s/\m<=n/\(∀k,k<m->body k (st k)=some (.inl (st (k+1))))/\((m=n/\r=.inl (st n))\/(m<n/\∃e,r=.inr e/\body m (st m)=some (.inr e)))
 |0,s,r,h=>⟨0,λ_=>s,Y,Nat.le_refl _,λ_ h=>by omega,.inl ⟨Y,(Option.some.inj h).symm⟩⟩
 |n+1,s,r,h=>by
  obtain⟨r1,h1,h2⟩:=bind_some (x:=wj body n s) h;obtain⟨m,st,q1,q2,q3,q4⟩:=K1 h1;rcases q4 with⟨rfl,rfl⟩|⟨q4,e,rfl,q5⟩
  ·simp only at h2;cases r with
   |inr e=>exact⟨m,st,q1,by omega,q3,.inr ⟨by omega,e,Y,h2⟩⟩
   |inl s'=>
    refine⟨m+1,λk=>if k=m+1 then s' else st k,by simpa using q1,Nat.le_refl _,λk hk=>?_,.inl ⟨Y,by simp⟩⟩;rcases Nat.lt_or_ge k m with hkn|hkn
    ·simpa[show k≠m+1 by omega,show k≠m by omega]using q3 k hkn
    obtain rfl:k=m:=by omega
    simpa using h2
  simp only at h2;cases h2;exact⟨m,st,q1,by omega,q3,.inr ⟨by omega,e,Y,q5⟩⟩
theorem Mj{S E:Type}{body:Nat->S->Option (S⊕E)}{n m:Nat}{st:Nat->S}{r:S⊕E}(h:∀k,k<m->body k (st k)=some (.inl (st (k+1))))(hr:(m=n/\r=.inl (st n))\/(m<n/\∃e,r=.inr e/\body m (st m)=some (.inr e))){k:Nat}(hk:k<n)(hkm:k<=m):
  ∃y,body k (st k)=some y/\(∀s',y=.inl s'->k+1<=m/\s'=st (k+1))/\∀e',y=.inr e'->r=.inr e':=by
 rcases Nat.lt_or_ge k m with q|q
 ·exact⟨_,h k q,(λs' e=>⟨q,by cases e;rfl⟩),(λe' e=>by cases e)⟩
 obtain rfl:k=m:=by omega
 rcases hr with⟨rfl,_⟩|⟨_,e,rfl,he⟩
 ·omega
 exact⟨_,he,(λs' e=>by cases e),(λe' q=>by cases q;rfl)⟩
theorem Ow{S E:Type}{body:Nat->S->Option (S⊕E)}{n m:Nat}{st:Nat->S}{r:S⊕E}(hr:(m=n/\r=.inl (st n))\/(m<n/\∃e,r=.inr e/\body m (st m)=some (.inr e)))(h:n<=m):r=.inl (st n):=by
 rcases hr with⟨_,q⟩|⟨q,_⟩
 ·exact q
 omega
theorem La{S E:Type}{body:Nat->S->Option (S⊕E)}{n:Nat}{s:S}{r:S⊕E}(h:wj body n s=some r):∃(m:Nat) (st:Nat->S),st 0=s/\(∀k,k<n->k<=m->∃y,body k (st k)=some y/\(∀s',y=.inl s'->k+1<=m/\s'=st (k+1))/\∀e',y=.inr e'->r=.inr e')/\(n<=m->r=.inl (st n)):=by
 obtain⟨m,st,q1,q2,q3,q4⟩:=K1 h;exact⟨m,st,q1,λk hk hm=>Mj q3 q4 hk hm,λhn=>Ow q4 hn⟩
end
section
open Go.RowKit
def V6(es:List (Value×Value)):SV where
 h M v:=∃b,v=.map (some b)/\M b 0=some (.tuple ⟨es.map λp=>.tuple #[p.1,p.2]⟩)
 mono hM h:=by obtain⟨b,e,h⟩:=h;exact⟨b,e,hM _ _ _ h⟩
class SQ (P:Program) (T:TypeId) (k:outParam TypeId) (e:outParam TypeId):Prop where
 u:P.underlying T=some (.map k e)
def Lb(k:IntKind)(n:Int):List (Value×Value)->Option Value
 |[]=>none
 |(.int k' m,v)::l=>if k=k' then(if n=m then some v else Lb k n l)else none
 |_::_=>none
theorem Ct{k:IntKind}{n:Int}{v:Value}:∀(es:List MapEntry) (i:Nat),Lb k n (es.map λe=>(e.key,e.val))=some v->∃j,Instr.findNow (.int k) (.int k n) es i=some (some (j,v))
 |[],_,h=>by simp[Lb]at h
 |⟨key,val,born⟩::es,i,h=>by
  cases key with
  |int k' m=>
   simp only[List.map_cons,Lb]at h;by_cases hk:k=k'
   ·subst hk;rw[if_pos rfl]at h;by_cases hn:n=m
    ·subst hn;rw[if_pos rfl]at h;cases h;exact⟨i,by simp[Instr.findNow,Instr.sameNow]⟩
    rw[if_neg hn]at h;obtain⟨j,hj⟩:=Ct es (i+1) h;have hb:(n==m)=false:=by simp[hn]
    exact⟨j,by simp[Instr.findNow,Instr.sameNow,hb,hj]⟩
   rw[if_neg hk]at h;cases h
  |_=>simp[Lb]at h
theorem SR:∀(l:List (Value×Value)) (m:List MapEntry),l.map (λp=>Value.tuple #[p.1,p.2])=m.map (λe=>Value.tuple #[e.key,e.val])->m.map (λe=>(e.key,e.val))=l
 |[],[],_=>rfl
 |[],_::_,h=>by simp at h
 |_::_,[],h=>by simp at h
 |(p,q)::l,e::m,h=>by
  simp only[List.map_cons,List.cons.injEq,Value.tuple.injEq]at h⊢;refine⟨?_,SR l m h.2⟩;have:=h.1;simp at this;rw[this.1,this.2]
theorem V7{es:Array MapEntry}{l:List (Value×Value)}(h:(⟨l.map λp=>.tuple #[p.1,p.2]⟩:Array Value)=ZM es):es.toList.map (λe=>(e.key,e.val))=l:=
 SR l es.toList (congrArg Array.toList h)
theorem getM{P:Program}{w:World}{r:Nat}{es:Array MapEntry}{ck:Nat}(hb:w.heap[r]? =some (.map es ck)):(getObj r).run P w=.ok (.map es ck) w:=by simp[getObj,Sem.run,hb]
theorem amr{P:Program}{w:World}{r:Nat}{es:Array MapEntry}{ck:Nat}(o:Obj)(hb:w.heap[r]? =some (.map es ck)):(setObj r o).run P w=.ok () {w with heap:=w.heap.setIfInBounds r o}:=by simp[setObj,Sem.run,hb]
theorem ckM{P:Program}{w:World}{kt:TypeId}{k:IntKind}[tI:tD P kt k]{n:Int}(bb:Bool):(Instr.checkKey bb 10000 kt (.int k n)).run P w=.ok () w:=by
 rw[show(10000:Nat)=9999+1 from rfl,Instr.checkKey];simp[underlying,tI.h]
theorem V8{M:Mem}:∀l:List Value,SV.gw M (l.map SV.v) l
 |[]=>trivial
 |_::l=>⟨Y,V8 l⟩
section steps
variable {P:Program}{C:Ctx}{ops:Array Oper}{S:AS}{nd:Bool}{K:List Ac->AS->Prop}{rest:List Oper}{acc:List Ac}
variable {gd:Option (Nat×Bool)}{rg:List Nat}{d:Nat}{ty:TypeId}{pos:String}{aft:Array Edge}{x y z:Operand}{T U E0:TypeId}
theorem RT.look(hg:Gd ops S gd rg){kt et:TypeId}[tM:SQ P T kt et]{k:IntKind}[tI:tD P kt k]{es:List (Value×Value)}{n:Int}(cs:List Value)(hx:S.ev x=.sv (V6 es))(hy:S.ev y=.sv (.v (.int k n)))(hl:Lb k n es=some (.agg ⟨cs⟩))(hd:d<S.n)
  (next:RunT P C ops nd K rest (⟨rg++(bp x++bp y),[],[],⟨some (d,.sv (.agg (cs.map SV.v))),[],[]⟩⟩::acc) (S.set d (.sv (.agg (cs.map SV.v))))):RunT P C ops nd K (⟨some d,.lookup T x y false,ty,pos,aft,gd⟩::rest) acc S:=
 RT.value hg (bp x++bp y) [] [] (.sv (.agg (cs.map SV.v))) hd (by intro c h;cases h) (λS' ht _ _ E a w h=>by
  have h1:=h.ev x;rw[bQ (λ_ h=>List.mem_append_left _ h) ht,hx]at h1;have h2:a.eval y=.int k n:=by have h2:=h.ev y;rw[bQ (λ_ h=>List.mem_append_right _ h) ht,hy]at h2;exact h2
  obtain⟨b,e,hb⟩:=h1;obtain⟨ms,ck,hm,he⟩:=h.ep _ _ _ hb;have he:=V7 he;rw[<-he]at hl;obtain⟨j,hj⟩:=Ct ms.toList 0 hl;refine⟨.agg ⟨cs⟩,?_,⟨cs,Y,?_⟩,iz⟩
  ·have hfk:(Instr.findKey kt (.int k n) ms.toList).run P w=.ok (some (j,.agg ⟨cs⟩)) w:=by
    simp[Instr.findKey,underlying,tI.h,hj]
   simp[execOp,e,h2,Instr.lookup,underlying,tM.u,getM hm,ckM,hfk]
  exact V8 cs) next
def AP(w:World)(ms:Array MapEntry)(ck:Nat):World:=w.alloc (.map ms ck)
theorem E9(w:World)(ms:Array MapEntry)(ck:Nat):(AP w ms ck).heap[w.heap.size]? =some (.map ms ck):=by show(w.heap.push _)[w.heap.size]? =_;simp
theorem run_make{d:Option Nat}{ρ:Operand->Value}{w:World}:(execOp ρ ⟨d,.makeMap T none,ty,pos,aft,none⟩).run P w=.ok (.value (.map (some w.heap.size))) (AP w #[] 0):=by
 simp[execOp,Instr.makeMap,AP]
theorem He{d:Option Nat}{kt et:TypeId}[tM:SQ P T kt et]{k:IntKind}[tI:tD P kt k]{ρ:Operand->Value}{w:World}{ms:Array MapEntry}{ck:Nat}{n:Int}{v:Value}(hx:ρ x=.map (some w.heap.size))(hy:ρ y=.int k n)(hz:ρ z=v)
  (hf:Instr.findNow (.int k) (.int k n) ms.toList 0=some none):(execOp ρ ⟨d,.insert T x y z,ty,pos,aft,none⟩).run P (AP w ms ck)=.ok .skip (AP w (ms.push ⟨.int k n,v,ck⟩) (ck+1)):=by
 have hfk:(Instr.findKey kt (.int k n) ms.toList).run P (AP w ms ck)=.ok none (AP w ms ck):=by
  simp[Instr.findKey,underlying,tI.h,hf]
 have amt:∀o:Obj,{AP w ms ck with heap:=(AP w ms ck).heap.setIfInBounds w.heap.size o}=w.alloc o:=by
  intro o;simp only[AP,World.alloc];congr 1;apply Array.ext';simp
 simp[execOp,hx,hy,hz,Instr.mapUpdate,underlying,tM.u,getM (E9 w ms ck),ckM,hfk,amr _ (E9 w ms ck)];exact amt _
theorem Hf{d:Option Nat}{z0:Value}[tP:lM P U [(0,1)] [z0]]{ρ:Operand->Value}{w:World}{v:Value}(hx:ρ x=v)(hv:v.oneCell'=true):(execOp ρ ⟨d,.build U #[(0,x)],ty,pos,aft,none⟩).run P w=.ok (.value (.agg #[v])) w:=by
 have hu:=tP.h;cases hT:P.underlying U with
 |none=>rw[hT]at hu;cases hu
 |some u=>
  rw[hT]at hu;cases u with
  |struct fs=>
   simp only at hu;have hz:(zeroValue U).run P w=.ok (.agg ⟨[z0]⟩) w:=mK.run (t:=⟨tP.hz⟩) w;have hm:(fs.mapM (λf=>do pure (f.offset,<-sizeOf f.type):Field->Sem (Nat×Nat))).run P w=.ok #[(0,1)] w:=by
    have:=AM (P:=P) (w:=w) hu;rw[<-Array.toArray_toList (xs:=fs),List.mapM_toArray];rw[Sem.run_map,this];rfl
   simp only[execOp,Instr.build,underlying];simp only[Sem.run_bind,hz,Result.andThen_ok,run_program,hT,Sem.run_pure,Value.cells];have hm':(Array.mapM (λf=>do
     let __do_lift<-sizeOf f.type
     pure (f.offset,__do_lift)) fs:Sem _).run P w=.ok #[(0,1)] w:=hm
   simp only[hm',Result.andThen_ok];have h1':Instr.fill (λi=>(#[(0,1)]:Array (Nat×Nat))[i]?) ⟨[z0]⟩ [(0,v)]=some ⟨[v]⟩:=by
    simp[Instr.fill,nj hv]
    try rfl
   have e4:(Array.map (λx=>match x with|(i,x)=>(i,ρ x)) #[(0,x)]).toList=[(0,v)]:=by simp[hx]
   simp only[e4,h1',Sem.run_pure,Result.andThen_ok]
  |_=>cases hu
theorem aaa{Q:Exit->AS->Prop}{id:Nat}{T U kt et t0:TypeId}[tM:SQ P T kt et]{k:IntKind}[tI:tD P kt k]{z0:Value}[tP:lM P U [(0,1)] [z0]]{f1 f2 f3 f4:FuncId}{n1 n2 n3 n4:Int}
  {p0 p1 p2 p3 p4 p5 p6 p7 p8 p9 p10:String} {a0 a1 a2 a3 a4 a5 a6 a7 a8 a9 a10:Array Edge} {u1 u2 u3 u4 u5 u6 u7 u8 u9:TypeId} (hn:7<=S.n)
  (h2:Instr.findNow (.int k) (.int k n2) [⟨.int k n1,.agg #[.func (.func f1) #[] #[]],0⟩] 0=some none)
  (h3:Instr.findNow (.int k) (.int k n3) [⟨.int k n1,.agg #[.func (.func f1) #[] #[]],0⟩,⟨.int k n2,.agg #[.func (.func f2) #[] #[]],1⟩] 0=some none)
  (h4:Instr.findNow (.int k) (.int k n4) [⟨.int k n1,.agg #[.func (.func f1) #[] #[]],0⟩,⟨.int k n2,.agg #[.func (.func f2) #[] #[]],1⟩,⟨.int k n3,.agg #[.func (.func f3) #[] #[]],2⟩] 0=some none)
  (hQ:∀S',S'.t 0=.sv (V6 [(.int k n1,.agg #[.func (.func f1) #[] #[]]),(.int k n2,.agg #[.func (.func f2) #[] #[]]),(.int k n3,.agg #[.func (.func f3) #[] #[]]),(.int k n4,.agg #[.func (.func f4) #[] #[]])])->Q .normal S'):
  Ok P C (.region id #[⟨some 1,.makeMap T none,t0,p0,a0,none⟩,⟨some 2,.build U #[(0,.func f1)],u1,p1,a1,none⟩,⟨none,.insert T (.tmp 1) (.const (.int k n1)) (.tmp 2),u2,p2,a2,none⟩,
   ⟨some 3,.build U #[(0,.func f2)],u3,p3,a3,none⟩,⟨none,.insert T (.tmp 1) (.const (.int k n2)) (.tmp 3),u4,p4,a4,none⟩,⟨some 4,.build U #[(0,.func f3)],u5,p5,a5,none⟩,⟨none,.insert T (.tmp 1) (.const (.int k n3)) (.tmp 4),u6,p6,a6,none⟩,
   ⟨some 5,.build U #[(0,.func f4)],u7,p7,a7,none⟩,⟨none,.insert T (.tmp 1) (.const (.int k n4)) (.tmp 5),u8,p8,a8,none⟩,⟨some 6,.move (.tmp 1),u9,p9,a9,none⟩,⟨some 0,.assign (.tmp 6),u9,p10,a10,none⟩] false) S Q:=by
 rintro a w ⟨E,h⟩;refine wpIn_region ?_;show wpOpsIn _ _ _ _ _ [0,1,2,3,4,5,6,7,8,9,10] a w;have hS:∀(S:AS) (d:Nat) (x:AV),(S.set d x).n=S.n:=λ_ _ _=>rfl;rw[wpOpsIn_cons];refine dy (C:=C) rfl rfl (dm (C:=C) (by intro c h;cases h) run_make ?_);have g1:=h.put (d:=1) (x:=.sv (.v (.map (some w.heap.size)))) (v:=.map (some w.heap.size)) Y (by omega) iz;show wpOpsIn _ _ _ _ _ _ (a.put (some 1) _) _;generalize a.put (some 1) (.map (some w.heap.size))=b1 at g1⊢;rw[wpOpsIn_cons];refine dy (C:=C) rfl rfl (dm (C:=C) (by intro c h;cases h) (Hf rfl rfl) ?_);have g2:=g1.put (d:=2) (x:=.sv (.v (.agg #[.func (.func f1) #[] #[]]))) (v:=.agg #[.func (.func f1) #[] #[]]) Y (by rw[hS];omega) iz;show wpOpsIn _ _ _ _ _ _ (b1.put (some 2) (.agg #[.func (.func f1) #[] #[]])) _;generalize b1.put (some 2) (.agg #[.func (.func f1) #[] #[]])=b2 at g2⊢;rw[wpOpsIn_cons];refine dy (C:=C) rfl rfl (dm (C:=C) (by intro c h;cases h) (He (k:=k) (n:=n1) (v:=.agg #[.func (.func f1) #[] #[]]) (g2.ev (.tmp 1)) rfl (g2.ev (.tmp 2)) rfl) ?_);show wpOpsIn _ _ _ _ _ _ (b2.put none undef) _;rw[show b2.put none undef=b2 from rfl,wpOpsIn_cons];refine dy (C:=C) rfl rfl (dm (C:=C) (by intro c h;cases h) (Hf rfl rfl) ?_)
 have g3:=g2.put (d:=3) (x:=.sv (.v (.agg #[.func (.func f2) #[] #[]]))) (v:=.agg #[.func (.func f2) #[] #[]]) Y (by rw[hS,hS];omega) iz;show wpOpsIn _ _ _ _ _ _ (b2.put (some 3) (.agg #[.func (.func f2) #[] #[]])) _;generalize b2.put (some 3) (.agg #[.func (.func f2) #[] #[]])=b3 at g3⊢;rw[wpOpsIn_cons];refine dy (C:=C) rfl rfl (dm (C:=C) (by intro c h;cases h) (He (k:=k) (n:=n2) (v:=.agg #[.func (.func f2) #[] #[]]) (g3.ev (.tmp 1)) rfl (g3.ev (.tmp 3)) (by simpa using h2)) ?_);show wpOpsIn _ _ _ _ _ _ (b3.put none undef) _;rw[show b3.put none undef=b3 from rfl,wpOpsIn_cons];refine dy (C:=C) rfl rfl (dm (C:=C) (by intro c h;cases h) (Hf rfl rfl) ?_);have g4:=g3.put (d:=4) (x:=.sv (.v (.agg #[.func (.func f3) #[] #[]]))) (v:=.agg #[.func (.func f3) #[] #[]]) Y (by rw[hS,hS,hS];omega) iz;show wpOpsIn _ _ _ _ _ _ (b3.put (some 4) (.agg #[.func (.func f3) #[] #[]])) _;generalize b3.put (some 4) (.agg #[.func (.func f3) #[] #[]])=b4 at g4⊢;rw[wpOpsIn_cons];refine dy (C:=C) rfl rfl (dm (C:=C) (by intro c h;cases h) (He (k:=k) (n:=n3) (v:=.agg #[.func (.func f3) #[] #[]]) (g4.ev (.tmp 1)) rfl (g4.ev (.tmp 4)) (by simpa using h3)) ?_);show wpOpsIn _ _ _ _ _ _ (b4.put none undef) _
 rw[show b4.put none undef=b4 from rfl,wpOpsIn_cons];refine dy (C:=C) rfl rfl (dm (C:=C) (by intro c h;cases h) (Hf rfl rfl) ?_);have g5:=g4.put (d:=5) (x:=.sv (.v (.agg #[.func (.func f4) #[] #[]]))) (v:=.agg #[.func (.func f4) #[] #[]]) Y (by rw[hS,hS,hS,hS];omega) iz;show wpOpsIn _ _ _ _ _ _ (b4.put (some 5) (.agg #[.func (.func f4) #[] #[]])) _;generalize b4.put (some 5) (.agg #[.func (.func f4) #[] #[]])=b5 at g5⊢;rw[wpOpsIn_cons];refine dy (C:=C) rfl rfl (dm (C:=C) (by intro c h;cases h) (He (k:=k) (n:=n4) (v:=.agg #[.func (.func f4) #[] #[]]) (g5.ev (.tmp 1)) rfl (g5.ev (.tmp 5)) (by simpa using h4)) ?_);show wpOpsIn _ _ _ _ _ _ (b5.put none undef) _;have e1:b5.eval (.tmp 1)=.map (some w.heap.size):=g5.ev (.tmp 1);obtain⟨ms,hms⟩:∃ms:Array MapEntry,(((((#[]:Array MapEntry).push ⟨.int k n1,.agg #[.func (.func f1) #[] #[]],0⟩).push ⟨.int k n2,.agg #[.func (.func f2) #[] #[]],0+1⟩).push ⟨.int k n3,.agg #[.func (.func f3) #[] #[]],0+1+1⟩).push ⟨.int k n4,.agg #[.func (.func f4) #[] #[]],0+1+1+1⟩)=ms:=⟨_,Y⟩;rw[hms];have hno:∀o,E.M w.heap.size o=none:=λo=>by
  cases e:E.M w.heap.size o with
  |none=>rfl
  |some v=>have:=uJ h.ep e;omega
 have g6:=g5.grow (M':=λb o=>if b=w.heap.size/\o=0 then some (.tuple (ZM ms))else E.M b o) (w':=AP w ms (0+1+1+1+1)) (λb o v e=>by
   have:b≠w.heap.size:=by rintro rfl;rw[hno o]at e;cases e
   simp[this,e]) (λb o v e=>by
   by_cases hb:b=w.heap.size/\o=0
   ·exact .inr (by omega)
   ·simp only[if_neg hb]at e;exact .inl e) (λb o v e=>by
   by_cases hb:b=w.heap.size/\o=0
   ·simp only[if_pos hb]at e;obtain⟨rfl,rfl⟩:=hb;cases e;exact⟨ms,_,E9 w ms _,Y⟩
   simp only[if_neg hb]at e;have hlt:=uJ h.ep e;refine(h.ep b o v e).same ?_;show(w.heap.push _)[b]? =_;rw[Array.getElem?_push,if_neg (by omega)]) ((Below.refl _ _).alloc (Nat.le_refl _) _)
 have hm:∀X:Env,X.M w.heap.size 0=some (.tuple (ZM ms))->(V6 [(.int k n1,.agg #[.func (.func f1) #[] #[]]),(.int k n2,.agg #[.func (.func f2) #[] #[]]),(.int k n3,.agg #[.func (.func f3) #[] #[]]),(.int k n4,.agg #[.func (.func f4) #[] #[]])]).h X.M (.map (some w.heap.size)):=λX hX=>by
  refine⟨_,Y,?_⟩;rw[hX,<-hms];rfl
 have g7:=g6.put (d:=6) (x:=.sv (.v (.map (some w.heap.size)))) (v:=.map (some w.heap.size)) Y (by rw[hS,hS,hS,hS,hS];omega) iz;rw[show b5.put none undef=b5 from rfl,wpOpsIn_cons];refine dy (C:=C) rfl rfl (dm (C:=C) (by intro c h;cases h) (r:=.ok (.value (.map (some w.heap.size))) _) (by show Result.ok (Next.value (b5.eval (.tmp 1))) _=_;rw[e1]) ?_);show wpOpsIn _ _ _ _ _ _ (b5.put (some 6) (.map (some w.heap.size))) _;generalize b5.put (some 6) (.map (some w.heap.size))=b6 at g7⊢;have e6:b6.eval (.tmp 6)=.map (some w.heap.size):=g7.ev (.tmp 6);have g8:=g7.put (d:=0) (x:=.sv (V6 [(.int k n1,.agg #[.func (.func f1) #[] #[]]),(.int k n2,.agg #[.func (.func f2) #[] #[]]),(.int k n3,.agg #[.func (.func f3) #[] #[]]),(.int k n4,.agg #[.func (.func f4) #[] #[]])])) (v:=.map (some w.heap.size)) (hm _ (by simp)) (by rw[hS,hS,hS,hS,hS,hS];omega) iz;rw[wpOpsIn_cons];refine dy (C:=C) rfl rfl (dm (C:=C) (by intro c h;cases h) (r:=.ok (.value (.map (some w.heap.size))) _) (by show Result.ok (Next.value (b6.eval (.tmp 6))) _=_;rw[e6]) ?_);show wpOpsIn _ _ _ _ _ _ (b6.put (some 0) (.map (some w.heap.size))) _;rw[wpOpsIn];exact⟨_,hQ _ Y,_,g8⟩
end steps
section scope
variable {P:Program}{C:Ctx}{S:AS}{Q:Exit->AS->Prop}
end scope
end
end Go.Fw
namespace Go.Proofs.YtningmnklfpfjaaGreat
section
open Go.Fw
open Go.Proofs
noncomputable abbrev ah:=Tryz.prog
instance:tD ah 2 .i64:=⟨by kernel_rfl⟩
instance:zo ah 2:=⟨by kernel_rfl,by kernel_rfl⟩
instance:nT ah 2 1 8 (.int .i64 0):=⟨by kernel_rfl,by rfl,by decide,by decide⟩
instance:tD ah 3 .i64:=⟨by kernel_rfl⟩
instance:zo ah 3:=⟨by kernel_rfl,by kernel_rfl⟩
instance:mK ah 3 (.int .i64 0):=⟨by kernel_rfl⟩
instance:nT ah 3 1 8 (.int .i64 0):=⟨by kernel_rfl,by rfl,by decide,by decide⟩
instance:L5 ah 4:=⟨by kernel_rfl⟩
instance:zo ah 4:=⟨by kernel_rfl,by kernel_rfl⟩
instance:mK ah 4 (.bool false):=⟨by kernel_rfl⟩
instance:nT ah 4 1 1 (.bool false):=⟨by kernel_rfl,by rfl,by decide,by decide⟩
instance:tD ah 5 .u8:=⟨by kernel_rfl⟩
instance:abS ah 9:=⟨by kernel_rfl⟩
instance:zo ah 22:=⟨by kernel_rfl,by kernel_rfl⟩
instance:mK ah 22 (.slice none 0 0):=⟨by kernel_rfl⟩
instance:nT ah 22 1 24 (.slice none 0 0):=⟨by kernel_rfl,by rfl,by decide,by decide⟩
instance:gU ah 22 23 1:=⟨by kernel_rfl,by kernel_rfl⟩
instance:zo ah 23:=⟨by kernel_rfl,by kernel_rfl⟩
instance:mK ah 23 (.slice none 0 0):=⟨by kernel_rfl⟩
instance:nT ah 23 1 24 (.slice none 0 0):=⟨by kernel_rfl,by rfl,by decide,by decide⟩
instance:gU ah 23 43 4:=⟨by kernel_rfl,by kernel_rfl⟩
instance:Gv ah 25 4:=⟨by kernel_rfl,by kernel_rfl⟩
instance:KU ah 25:=⟨λw=>⟨3,Gv.size (T:=25) (n:=4) w⟩⟩
instance:mK ah 25 (.agg #[.int .i64 0,.slice none 0 0,.slice none 0 0,.slice none 0 0]):=⟨by kernel_rfl⟩
instance:lM ah 25 [(0,1),(1,1),(2,1),(3,1)] [.int .i64 0,.slice none 0 0,.slice none 0 0,.slice none 0 0]:=⟨by kernel_rfl,by kernel_rfl,by rfl⟩
instance:ER ah 25 0 0 3:=⟨by kernel_rfl⟩
instance:ER ah 25 1 1 22:=⟨by kernel_rfl⟩
instance:ER ah 25 2 2 22:=⟨by kernel_rfl⟩
instance:ER ah 25 3 3 23:=⟨by kernel_rfl⟩
instance:zo ah 30:=⟨by kernel_rfl,by kernel_rfl⟩
instance:zo ah 39:=⟨by kernel_rfl,by kernel_rfl⟩
instance:mK ah 39 (.slice none 0 0):=⟨by kernel_rfl⟩
instance:gU ah 39 130 1:=⟨by kernel_rfl,by kernel_rfl⟩
instance:Gv ah 41 2:=⟨by kernel_rfl,by kernel_rfl⟩
instance:KU ah 41:=⟨λw=>⟨1,Gv.size (T:=41) (n:=2) w⟩⟩
instance:mK ah 41 (.agg #[.bool false,.slice none 0 0]):=⟨by kernel_rfl⟩
instance:nT ah 41 2 32 (.agg #[.bool false,.slice none 0 0]):=⟨by kernel_rfl,by rfl,by decide,by decide⟩
instance:lM ah 41 [(0,1),(1,1)] [.bool false,.slice none 0 0]:=⟨by kernel_rfl,by kernel_rfl,by rfl⟩
instance:ER ah 41 0 0 4:=⟨by kernel_rfl⟩
instance:ER ah 41 1 1 39:=⟨by kernel_rfl⟩
instance:Gv ah 43 4:=⟨by kernel_rfl,by kernel_rfl⟩
instance:mK ah 43 (.agg #[.bool false,.slice none 0 0,.bool false,.slice none 0 0]):=⟨by kernel_rfl⟩
instance:nT ah 43 4 64 (.agg #[.bool false,.slice none 0 0,.bool false,.slice none 0 0]):=⟨by kernel_rfl,by rfl,by decide,by decide⟩
instance:lM ah 43 [(0,2),(2,2)] [.bool false,.slice none 0 0,.bool false,.slice none 0 0]:=⟨by kernel_rfl,by kernel_rfl,by rfl⟩
instance:ER ah 43 0 0 41:=⟨by kernel_rfl⟩
instance:ER ah 43 1 2 41:=⟨by kernel_rfl⟩
instance:zo ah 45:=⟨by kernel_rfl,by kernel_rfl⟩
instance:gU ah 45 3 1:=⟨by kernel_rfl,by kernel_rfl⟩
instance:lM ah 59 [(0,4),(4,1)] [.int .i64 0,.slice none 0 0,.slice none 0 0,.slice none 0 0,.slice none 0 0]:=⟨by kernel_rfl,by kernel_rfl,by rfl⟩
instance:ER ah 59 0 0 25:=⟨by kernel_rfl⟩
instance:ER ah 59 1 4 45:=⟨by kernel_rfl⟩
instance:lM ah 79 [(0,1),(1,1),(2,1),(3,1),(4,1)] [.bool false,.int .i64 0,.slice none 0 0,.slice none 0 0,.slice none 0 0]:=⟨by kernel_rfl,by kernel_rfl,by rfl⟩
instance:ER ah 79 0 0 4:=⟨by kernel_rfl⟩
instance:ER ah 79 1 1 3:=⟨by kernel_rfl⟩
instance:ER ah 79 2 2 22:=⟨by kernel_rfl⟩
instance:ER ah 79 3 3 45:=⟨by kernel_rfl⟩
instance:ER ah 79 4 4 22:=⟨by kernel_rfl⟩
instance:zo ah 89:=⟨by kernel_rfl,by kernel_rfl⟩
instance:gU ah 92 4 1:=⟨by kernel_rfl,by kernel_rfl⟩
instance:Gv ah 97 4:=⟨by kernel_rfl,by kernel_rfl⟩
instance:mK ah 97 (.agg #[.int .i64 0,.int .i64 0,.int .i64 0,.int .i64 0]):=⟨by kernel_rfl⟩
instance:lM ah 97 [(0,1),(1,1),(2,1),(3,1)] [.int .i64 0,.int .i64 0,.int .i64 0,.int .i64 0]:=⟨by kernel_rfl,by kernel_rfl,by rfl⟩
instance:ER ah 97 0 0 3:=⟨by kernel_rfl⟩
instance:ER ah 97 1 1 3:=⟨by kernel_rfl⟩
instance:ER ah 97 2 2 3:=⟨by kernel_rfl⟩
instance:ER ah 97 3 3 3:=⟨by kernel_rfl⟩
instance:zo ah 106:=⟨by kernel_rfl,by kernel_rfl⟩
instance:zo ah 117:=⟨by kernel_rfl,by kernel_rfl⟩
instance:nT ah 117 1 24 (.slice none 0 0):=⟨by kernel_rfl,by rfl,by decide,by decide⟩
instance:gU ah 117 2 1:=⟨by kernel_rfl,by kernel_rfl⟩
instance:Gv ah 124 1:=⟨by kernel_rfl,by kernel_rfl⟩
instance:mK ah 124 (.agg #[.nilFunc]):=⟨by kernel_rfl⟩
instance:lM ah 124 [(0,1)] [.nilFunc]:=⟨by kernel_rfl,by kernel_rfl,by rfl⟩
instance:ER ah 124 0 0 89:=⟨by kernel_rfl⟩
instance:tD ah 128 .u64:=⟨by kernel_rfl⟩
instance:zo ah 128:=⟨by kernel_rfl,by kernel_rfl⟩
instance:tD ah 130 .u32:=⟨by kernel_rfl⟩
instance:zo ah 130:=⟨by kernel_rfl,by kernel_rfl⟩
instance:nT ah 130 1 4 (.int .u32 0):=⟨by kernel_rfl,by rfl,by decide,by decide⟩
instance:gU ah 155 22 1:=⟨by kernel_rfl,by kernel_rfl⟩
instance:gU ah 156 117 1:=⟨by kernel_rfl,by kernel_rfl⟩
instance:gU ah 167 41 2:=⟨by kernel_rfl,by kernel_rfl⟩
instance:zo ah 174:=⟨by kernel_rfl,by kernel_rfl⟩
instance:lM ah 176 [(0,1)] [.nilFunc]:=⟨by kernel_rfl,by kernel_rfl,by rfl⟩
instance:ER ah 176 0 0 174:=⟨by kernel_rfl⟩
instance:SQ ah 177 5 176:=⟨by kernel_rfl⟩
instance:tD ah 179 .u64:=⟨by kernel_rfl⟩
instance:zo ah 186:=⟨by kernel_rfl,by kernel_rfl⟩
instance:mK ah 186 (.nilFunc):=⟨by kernel_rfl⟩
instance:cZ ah 9:=⟨by kernel_rfl⟩
instance:cZ ah 10:=⟨by kernel_rfl⟩
instance:cZ ah 12:=⟨by kernel_rfl⟩
instance:cZ ah 14:=⟨by kernel_rfl⟩
instance:cZ ah 16:=⟨by kernel_rfl⟩
instance:cZ ah 17:=⟨by kernel_rfl⟩
instance:cZ ah 18:=⟨by kernel_rfl⟩
instance:cZ ah 19:=⟨by kernel_rfl⟩
instance:cZ ah 20:=⟨by kernel_rfl⟩
instance:cZ ah 21:=⟨by kernel_rfl⟩
instance:cZ ah 23:=⟨by kernel_rfl⟩
instance:cZ ah 24:=⟨by kernel_rfl⟩
instance:cZ ah 27:=⟨by kernel_rfl⟩
instance:cZ ah 28:=⟨by kernel_rfl⟩
instance:cZ ah 29:=⟨by kernel_rfl⟩
instance:cZ ah 30:=⟨by kernel_rfl⟩
instance:cZ ah 31:=⟨by kernel_rfl⟩
instance:cZ ah 32:=⟨by kernel_rfl⟩
instance:cZ ah 33:=⟨by kernel_rfl⟩
instance:cZ ah 34:=⟨by kernel_rfl⟩
instance:cZ ah 35:=⟨by kernel_rfl⟩
instance:cZ ah 37:=⟨by kernel_rfl⟩
instance:cZ ah 38:=⟨by kernel_rfl⟩
instance:cZ ah 40:=⟨by kernel_rfl⟩
instance:cZ ah 41:=⟨by kernel_rfl⟩
instance:cZ ah 42:=⟨by kernel_rfl⟩
instance:cZ ah 45:=⟨by kernel_rfl⟩
instance:cZ ah 47:=⟨by kernel_rfl⟩
instance:cZ ah 50:=⟨by kernel_rfl⟩
instance:cZ ah 52:=⟨by kernel_rfl⟩
instance:cZ ah 53:=⟨by kernel_rfl⟩
instance:cZ ah 54:=⟨by kernel_rfl⟩
instance:cZ ah 56:=⟨by kernel_rfl⟩
instance:cZ ah 57:=⟨by kernel_rfl⟩
instance:cZ ah 58:=⟨by kernel_rfl⟩
instance:cZ ah 59:=⟨by kernel_rfl⟩
instance:cZ ah 60:=⟨by kernel_rfl⟩
instance:cZ ah 61:=⟨by kernel_rfl⟩
instance:cZ ah 62:=⟨by kernel_rfl⟩
instance:cZ ah 63:=⟨by kernel_rfl⟩
instance:cZ ah 64:=⟨by kernel_rfl⟩
instance:cZ ah 65:=⟨by kernel_rfl⟩
instance:cZ ah 66:=⟨by kernel_rfl⟩
instance:cZ ah 67:=⟨by kernel_rfl⟩
instance:cZ ah 68:=⟨by kernel_rfl⟩
instance:cZ ah 69:=⟨by kernel_rfl⟩
instance:cZ ah 70:=⟨by kernel_rfl⟩
instance:cZ ah 71:=⟨by kernel_rfl⟩
instance:cZ ah 72:=⟨by kernel_rfl⟩
instance:cZ ah 74:=⟨by kernel_rfl⟩
instance:cZ ah 75:=⟨by kernel_rfl⟩
instance:cZ ah 76:=⟨by kernel_rfl⟩
instance:cZ ah 77:=⟨by kernel_rfl⟩
instance:cZ ah 78:=⟨by kernel_rfl⟩
instance:cZ ah 79:=⟨by kernel_rfl⟩
instance:cZ ah 80:=⟨by kernel_rfl⟩
instance:cZ ah 81:=⟨by kernel_rfl⟩
instance:cZ ah 82:=⟨by kernel_rfl⟩
instance:cZ ah 83:=⟨by kernel_rfl⟩
instance:cZ ah 84:=⟨by kernel_rfl⟩
instance:cZ ah 86:=⟨by kernel_rfl⟩
instance:cZ ah 88:=⟨by kernel_rfl⟩
instance:cZ ah 89:=⟨by kernel_rfl⟩
instance:cZ ah 90:=⟨by kernel_rfl⟩
instance:cZ ah 91:=⟨by kernel_rfl⟩
instance:cZ ah 93:=⟨by kernel_rfl⟩
instance:cZ ah 94:=⟨by kernel_rfl⟩
instance:cZ ah 95:=⟨by kernel_rfl⟩
instance:cZ ah 96:=⟨by kernel_rfl⟩
instance:cZ ah 97:=⟨by kernel_rfl⟩
instance:cZ ah 98:=⟨by kernel_rfl⟩
instance:cZ ah 99:=⟨by kernel_rfl⟩
instance:cZ ah 100:=⟨by kernel_rfl⟩
instance:cZ ah 101:=⟨by kernel_rfl⟩
instance:cZ ah 102:=⟨by kernel_rfl⟩
instance:cZ ah 103:=⟨by kernel_rfl⟩
instance:cZ ah 104:=⟨by kernel_rfl⟩
instance:cZ ah 105:=⟨by kernel_rfl⟩
instance:cZ ah 106:=⟨by kernel_rfl⟩
instance:cZ ah 107:=⟨by kernel_rfl⟩
instance:cZ ah 108:=⟨by kernel_rfl⟩
instance:cZ ah 109:=⟨by kernel_rfl⟩
instance:cZ ah 110:=⟨by kernel_rfl⟩
instance:cZ ah 111:=⟨by kernel_rfl⟩
instance:cZ ah 112:=⟨by kernel_rfl⟩
instance:cZ ah 113:=⟨by kernel_rfl⟩
instance:cZ ah 114:=⟨by kernel_rfl⟩
instance:cZ ah 115:=⟨by kernel_rfl⟩
instance:cZ ah 116:=⟨by kernel_rfl⟩
instance:cZ ah 117:=⟨by kernel_rfl⟩
instance:cZ ah 118:=⟨by kernel_rfl⟩
instance:cZ ah 120:=⟨by kernel_rfl⟩
instance:cZ ah 121:=⟨by kernel_rfl⟩
instance:cZ ah 122:=⟨by kernel_rfl⟩
instance:cZ ah 123:=⟨by kernel_rfl⟩
instance:cZ ah 124:=⟨by kernel_rfl⟩
instance:cZ ah 125:=⟨by kernel_rfl⟩
instance:cZ ah 127:=⟨by kernel_rfl⟩
instance:cZ ah 128:=⟨by kernel_rfl⟩
instance:cZ ah 129:=⟨by kernel_rfl⟩
instance:cZ ah 130:=⟨by kernel_rfl⟩
instance:cZ ah 132:=⟨by kernel_rfl⟩
instance:cZ ah 133:=⟨by kernel_rfl⟩
instance:cZ ah 134:=⟨by kernel_rfl⟩
instance:cZ ah 135:=⟨by kernel_rfl⟩
instance:cZ ah 136:=⟨by kernel_rfl⟩
instance:cZ ah 137:=⟨by kernel_rfl⟩
instance:cZ ah 139:=⟨by kernel_rfl⟩
instance:cZ ah 140:=⟨by kernel_rfl⟩
instance:cZ ah 141:=⟨by kernel_rfl⟩
instance:cZ ah 142:=⟨by kernel_rfl⟩
instance:cZ ah 143:=⟨by kernel_rfl⟩
instance:cZ ah 144:=⟨by kernel_rfl⟩
instance:cZ ah 145:=⟨by kernel_rfl⟩
instance:cZ ah 146:=⟨by kernel_rfl⟩
instance:cZ ah 147:=⟨by kernel_rfl⟩
instance:cZ ah 148:=⟨by kernel_rfl⟩
instance:cZ ah 149:=⟨by kernel_rfl⟩
instance:cZ ah 150:=⟨by kernel_rfl⟩
instance:cZ ah 151:=⟨by kernel_rfl⟩
instance:cZ ah 152:=⟨by kernel_rfl⟩
instance:cZ ah 153:=⟨by kernel_rfl⟩
instance:cZ ah 154:=⟨by kernel_rfl⟩
instance:cZ ah 155:=⟨by kernel_rfl⟩
instance:cZ ah 156:=⟨by kernel_rfl⟩
instance:cZ ah 157:=⟨by kernel_rfl⟩
instance:cZ ah 158:=⟨by kernel_rfl⟩
instance:cZ ah 159:=⟨by kernel_rfl⟩
instance:cZ ah 160:=⟨by kernel_rfl⟩
instance:cZ ah 161:=⟨by kernel_rfl⟩
instance:cZ ah 162:=⟨by kernel_rfl⟩
instance:cZ ah 163:=⟨by kernel_rfl⟩
instance:cZ ah 164:=⟨by kernel_rfl⟩
instance:cZ ah 165:=⟨by kernel_rfl⟩
instance:cZ ah 166:=⟨by kernel_rfl⟩
instance:cZ ah 167:=⟨by kernel_rfl⟩
instance:cZ ah 168:=⟨by kernel_rfl⟩
instance:cZ ah 169:=⟨by kernel_rfl⟩
instance:cZ ah 170:=⟨by kernel_rfl⟩
instance:cZ ah 171:=⟨by kernel_rfl⟩
instance:cZ ah 172:=⟨by kernel_rfl⟩
instance:cZ ah 173:=⟨by kernel_rfl⟩
instance:cZ ah 174:=⟨by kernel_rfl⟩
instance:cZ ah 175:=⟨by kernel_rfl⟩
instance:cZ ah 176:=⟨by kernel_rfl⟩
instance:cZ ah 177:=⟨by kernel_rfl⟩
instance:cZ ah 178:=⟨by kernel_rfl⟩
instance:cZ ah 179:=⟨by kernel_rfl⟩
instance:cZ ah 180:=⟨by kernel_rfl⟩
instance:cZ ah 181:=⟨by kernel_rfl⟩
instance:cZ ah 182:=⟨by kernel_rfl⟩
instance:cZ ah 183:=⟨by kernel_rfl⟩
instance:cZ ah 184:=⟨by kernel_rfl⟩
instance:cZ ah 185:=⟨by kernel_rfl⟩
instance:cZ ah 186:=⟨by kernel_rfl⟩
instance:cZ ah 187:=⟨by kernel_rfl⟩
instance:cZ ah 188:=⟨by kernel_rfl⟩
instance:cZ ah 189:=⟨by kernel_rfl⟩
instance:cZ ah 190:=⟨by kernel_rfl⟩
instance:cZ ah 191:=⟨by kernel_rfl⟩
instance:cZ ah 192:=⟨by kernel_rfl⟩
instance:cZ ah 193:=⟨by kernel_rfl⟩
instance:cZ ah 194:=⟨by kernel_rfl⟩
instance:cZ ah 195:=⟨by kernel_rfl⟩
instance:cZ ah 196:=⟨by kernel_rfl⟩
instance:cZ ah 197:=⟨by kernel_rfl⟩
instance:cZ ah 198:=⟨by kernel_rfl⟩
instance:cZ ah 199:=⟨by kernel_rfl⟩
instance:cZ ah 200:=⟨by kernel_rfl⟩
instance:cZ ah 201:=⟨by kernel_rfl⟩
instance:cZ ah 202:=⟨by kernel_rfl⟩
instance:cZ ah 203:=⟨by kernel_rfl⟩
instance:cZ ah 204:=⟨by kernel_rfl⟩
instance:cZ ah 205:=⟨by kernel_rfl⟩
instance:cZ ah 206:=⟨by kernel_rfl⟩
instance:cZ ah 207:=⟨by kernel_rfl⟩
instance:cZ ah 208:=⟨by kernel_rfl⟩
instance:cZ ah 209:=⟨by kernel_rfl⟩
instance:cZ ah 210:=⟨by kernel_rfl⟩
instance:cZ ah 211:=⟨by kernel_rfl⟩
instance:cZ ah 212:=⟨by kernel_rfl⟩
instance:cZ ah 213:=⟨by kernel_rfl⟩
instance:cZ ah 214:=⟨by kernel_rfl⟩
instance:cZ ah 215:=⟨by kernel_rfl⟩
theorem mixed:Tryz.prog.follows .mixedOrders=true:=by kernel_rfl
end
section
open Go.Fw Go.RowKit
def snap(W:World):Mem:=λb o=>(W.cell? ⟨b,o,none⟩).filter Value.oneCell'
theorem aab(W:World):(snap W).ep W:=λ_ _ _ e=>by
 obtain⟨e1,e2⟩:=Option.filter_eq_some_iff.1 e;exact .of e1 e2
theorem aac{W:World}{b o:Nat}{v:Value}(h:W.cell? ⟨b,o,none⟩=some v)(h1:v.oneCell'=true):snap W b o=some v:=Option.filter_eq_some_iff.2 ⟨h,h1⟩
class Mk (P:Program) (T:TypeId) {α:Type} (e:α->List SV) (ok:outParam (α->Prop)) (sz:outParam (α->Nat)):Prop where
 h:∀{H:Type} (enc:TypeId×Value->H) (W:World) (fuel:Nat) (cs:List Value) (d:DataW H) (p:List MemPlace),DataW.trod enc P W 0 (λ_=>true) true fuel T cs=some (d,p)->
  ∃x:α,ok x/\SV.gw (snap W) (e x) cs/\(∀v∈cs,v.oneCell'=true)/\sz x<=Rows.uptoBulk d
section opn
variable {P:Program}{T:TypeId}
theorem V9{k:IntKind}{n:Int}(h:(Lit.int k n).wf=true):k.min<=n/\n<=k.max:=by simpa[Lit.wf]using h
instance[t:tD P T .i64]:Mk P T bD (λx=>-9223372036854775808<=x/\x<=9223372036854775807) (λ_=>1):=⟨λenc W fuel cs d p h=>by
 obtain⟨n,rfl,hx,hw⟩:=DataW.trod_int t.h h;cases hx;have:=V9 hw;exact⟨n,by simpa[IntKind.min,IntKind.max,IntKind.signed,IntKind.bits]using this,⟨rfl,aq⟩,by simp[Value.oneCell'],by simp[Rows.uptoBulk]⟩⟩
theorem aiz{k:IntKind}{M:Nat}{e:Nat->List SV}(t:tD P T k)(hk:k.min=0/\k.max=(M:Int)-1)(he:∀n:Nat,e n=[.v (.int k (n:Int))]):Mk P T e (λx=>x<M) (λ_=>1):=⟨λenc W fuel cs d p h=>by
 obtain⟨n,rfl,hx,hw⟩:=DataW.trod_int t.h h;cases hx;have:=V9 hw;rw[hk.1,hk.2]at this;obtain⟨m,rfl⟩:=Int.eq_ofNat_of_zero_le this.1;exact⟨m,by omega,by rw[he];exact⟨Y,aq⟩,by simp[Value.oneCell'],by simp[Rows.uptoBulk]⟩⟩
instance[t:tD P T .u32]:Mk P T bh (λx=>x<4294967296) (λ_=>1):=aiz t (by decide) (λ_=>rfl)
instance[t:L5 P T]:Mk P T eB (λ_=>True) (λ_=>1):=⟨λenc W fuel cs d p h=>by
 obtain⟨b,rfl,hx⟩:=DataW.trod_bool t.h h;cases hx;exact⟨b,aq,⟨rfl,aq⟩,by simp[Value.oneCell'],by simp[Rows.uptoBulk]⟩⟩
theorem Ox{H α:Type}(sz:α->Nat):∀(xs:List α) (ds:List (DataW H)),xs.length=ds.length->(∀(i:Nat) (x:α) (d:DataW H),xs[i]? =some x->ds[i]? =some d->sz x<=Rows.uptoBulk d)->(xs.map sz).sum<=Rows.uptoBulkAll ds
 |[],[],_,_=>by simp
 |x::xs,d::ds,hl,h=>by
  have h1:=h 0 x d Y Y;have h2:=Ox sz xs ds (by simpa using hl) (λi x d e1 e2=>h (i+1) x d (by simpa using e1) (by simpa using e2));simp only[List.map_cons,List.sum_cons,Rows.uptoBulkAll];omega
 |[],_::_,hl,_=>by simp at hl
 |_::_,[],hl,_=>by simp at hl
instance{E:TypeId}{n:Nat}{α:Type}{e:α->List SV}{ok:α->Prop}{sz:α->Nat}{by_:Nat}{zv:Value}[t:gU P T E n][tE:nT P E n by_ zv][el:EL e n][o:Mk P E e ok sz]:Mk P T (eS n e) (λl=>l.length<=9223372036854775807/\∀x∈l,ok x) (λl=>(l.map sz).sum+1):=⟨λ{H} enc W fuel cs d p h=>by
 have hcell:P.cellsOf E=n:=by
  have h1:=t.size W;simp only[sizeOf,typeInfo]at h1;cases hi:P.info? E with
  |none=>simp[hi]at h1
  |some i=>simp[hi]at h1;simp[Program.cellsOf,hi,h1]
 have hml:maxLen=9223372036854775807:=by decide
 rcases Deep.open_slice t.u h with⟨rfl,hx⟩|⟨a,len,cap,m,n',D,Pl,rfl,_,hl,hm,hmm,hx,hel⟩
 ·cases hx;exact⟨[],⟨by simp,by simp⟩,⟨.inl ⟨none,rfl,rfl⟩,aq⟩,by simp[Value.oneCell'],by simp[Rows.uptoBulk]⟩
 cases hx;rw[if_pos rfl]at hmm;subst hmm;have one:∀i,i<m->∃x,ok x/\sz x<=Rows.uptoBulk (D i)/\∃cs',W.cells? 0 (a.add (i*n)) n=some cs'/\SV.gw (snap W) (e x) cs'/\(∀v∈cs',v.oneCell'=true):=by
  intro i hi;obtain⟨cs',h1,h2⟩:=hel i hi;obtain⟨x,q1,q2,q3,q4⟩:=o.h enc W n' cs' (D i) (Pl i) h2;rw[hcell]at h1;exact⟨x,q1,q4,cs',h1,q2,q3⟩
 obtain⟨xs,hxl,hxs⟩:∃xs:List α,xs.length=len/\∀(i:Nat) (x:α),xs[i]? =some x->ok x/\sz x<=Rows.uptoBulk (D i)/\∃cs',W.cells? 0 (a.add (i*n)) n=some cs'/\SV.gw (snap W) (e x) cs'/\(∀v∈cs',v.oneCell'=true):=by
  clear h hm hel;have:∀k,k<=len->∃xs:List α,xs.length=k/\∀(i:Nat) (x:α),xs[i]? =some x->ok x/\sz x<=Rows.uptoBulk (D i)/\∃cs',W.cells? 0 (a.add (i*n)) n=some cs'/\SV.gw (snap W) (e x) cs'/\(∀v∈cs',v.oneCell'=true):=by
   intro k
   induction k with
   |zero=>intro _;exact⟨[],rfl,by simp⟩
   |succ k ih=>
    intro hk;obtain⟨xs,h1,h2⟩:=ih (by omega);obtain⟨x,hx⟩:=one k (by omega);refine⟨xs++[x],by simp[h1],λi y hy=>?_⟩;rcases Nat.lt_or_ge i k with hi|hi
    ·exact h2 i y (by rwa[List.getElem?_append_left (by omega)]at hy)
    rw[List.getElem?_append_right (by omega)]at hy;have hi2:i=k:=by
     rcases Nat.lt_or_ge (i-xs.length) 1 with q|q
     ·omega
     rw[List.getElem?_eq_none (by simpa using q)]at hy;cases hy
    subst hi2;rw[h1,Nat.sub_self]at hy;simp at hy;subst hy;exact hx
  exact this len (Nat.le_refl _)
 refine⟨xs,⟨by omega,λx hx=>?_⟩,⟨?_,aq⟩,by simp[Value.oneCell'],?_⟩
 ·obtain⟨i,hi,rfl⟩:=List.getElem_of_mem hx;exact(hxs i _ (List.getElem?_eq_getElem hi)).1
 ·by_cases h0:xs=[]
  ·subst h0;simp at hxl;subst hxl;by_cases hc0:m=0
   ·subst hc0;exact .inl ⟨_,rfl,rfl⟩
   obtain⟨x,_,_,cs',g1,g2,_⟩:=one 0 (by omega);obtain⟨_,g3,g4⟩:=World.cells?_some g1;have hn:0<n:=tE.p;have g5:=g4 0 hn;obtain⟨b,o',spot⟩:=a;have Wa:spot=none:=by
    have:∃v,W.cell? (((⟨b,o',spot⟩:Addr).add (0*n)).add 0)=some v:=by
     rw[g5];exact⟨_,List.getElem?_eq_getElem (by omega)⟩
    obtain⟨v,hv⟩:=this;simpa[Addr.add]using World.cell?_spot hv
   subst Wa;refine .inr ⟨b,o',m,rfl,by simp,by simp,λi row hr=>by simp at hr⟩
  have Cu:0<len:=by
   rcases Nat.eq_zero_or_pos len with hz|hz
   ·exact absurd (List.eq_nil_of_length_eq_zero (by omega)) h0
   exact hz
  have hn:0<n:=tE.p;obtain⟨x,_,_,cs',g1,g2,_⟩:=one 0 (by omega);obtain⟨_,g3,g4⟩:=World.cells?_some g1;have g5:=g4 0 hn;obtain⟨b,o',spot⟩:=a;have Wa:spot=none:=by
   have:∃v,W.cell? (((⟨b,o',spot⟩:Addr).add (0*n)).add 0)=some v:=by
    rw[g5];exact⟨_,List.getElem?_eq_getElem (by omega)⟩
   obtain⟨v,hv⟩:=this;simpa[Addr.add]using World.cell?_spot hv
  subst Wa;refine .inr ⟨b,o',m,by rw[List.length_map,hxl],by rw[List.length_map];omega,by rw[List.length_map];omega,λi row hr=>?_⟩;rw[List.getElem?_map]at hr;cases hx:xs[i]? with
  |none=>rw[hx]at hr;cases hr
  |some y=>
   rw[hx]at hr;have hr:e y=row:=Option.some.inj hr;subst hr;obtain⟨_,_,cs2,k1,k2,k3⟩:=hxs i y hx;obtain⟨_,k4,k5⟩:=World.cells?_some k1;refine⟨el.len y,λk s hk=>?_⟩;obtain⟨u,hu,hs⟩:=k2.get hk;have hkn:k<n:=by have:=(List.getElem?_eq_some_iff.1 hu).1;omega
   have k6:=k5 k hkn;rw[jN,jN,hu]at k6;exact⟨u,aac k6 (k3 u (List.mem_of_getElem? hu)),k3 u (List.mem_of_getElem? hu),hs⟩
 have hb:Rows.uptoBulk (DataW.slice ((List.range len).map D) ((List.range (m-len)).map λj=>D (len+j)))=Rows.uptoBulkAll ((List.range len).map D)+Rows.uptoBulkAll ((List.range (m-len)).map λj=>D (len+j))+1:=rfl;rw[hb];have:=Ox sz xs ((List.range len).map D) (by simp[hxl]) (λi x d e1 e2=>by
  have hi:i<len:=by have:=(List.getElem?_eq_some_iff.1 e1).1;omega
  simp[hi]at e2;subst e2;exact(hxs i x e1).2.1)
 omega⟩
class StN (P:Program) (T:TypeId) (k:outParam Nat):Prop where
 h:(match P.underlying T with|some (.struct fs)=>some fs.size|_=>none)=some k
theorem Ml{k:Nat}[s:StN P T k]{H:Type}{enc:TypeId×Value->H}{W:World}{fuel:Nat}{cs:List Value}{d:DataW H}{p:List MemPlace}(h:DataW.trod enc P W 0 (λ_=>true) true fuel T cs=some (d,p)):
  ∃(xs:List (DataW H×List MemPlace)) (n:Nat),d=.agg (xs.map (·.1))/\cs.length=P.cellsOf T/\xs.length=k/\∀(i off:Nat) (U:TypeId),ER P T i off U->DataW.trod enc P W 0 (λ_=>true) true n U ((cs.drop off).take (P.cellsOf U))=xs[i]? :=by
 have hs:=s.h;cases hT:P.underlying T with
 |none=>rw[hT]at hs;cases hs
 |some u=>
  rw[hT]at hs;cases u with
  |struct fs=>
   have hk:fs.size=k:=Option.some.inj hs;obtain⟨xs,n,_,hx,hl,hn,hf⟩:=DataW.trod_struct hT h;refine⟨xs,n,(Prod.mk.inj hx).1,hl,by omega,λi off U F=>?_⟩;have hF:=F.h;rw[hT]at hF;simp only at hF;cases hg:fs[i]? with
   |none=>rw[hg]at hF;cases hF
   |some f=>
    rw[hg]at hF;simp only[Option.map_some,Option.some.injEq,Prod.mk.injEq]at hF;have:=hf i f hg;rw[hF.1,hF.2]at this;exact this
  |_=>cases hs
class aiC (P:Program) (T:TypeId):Prop where
 h:∀(w:World) (r:Reach) (base:Nat) (v:Value),Value.okWide P w r base T v->v.cells.toList=[v]
instance{E:TypeId}{n:Nat}[t:gU P T E n]:aiC P T:=⟨λw r base v h=>by
 obtain⟨a,l,c,rfl⟩:=WideShapes.okWide_slice t.u h;rfl⟩
theorem aad{α:Type}{e:α->List SV}{ok:α->Prop}{sz:α->Nat}[o1:aiC P T][o:Mk P T e ok sz]{H:Type}{enc:TypeId×Value->H}{W:World}{r:Reach}{base:Nat}{v:Value}{d:DataW H}{p:List MemPlace}
  (hv:Value.okWide P W r base T v) (h:DataW.Trod enc P W 0 (λ_=>true) true T v d p):∃x,ok x/\sz x<=Rows.uptoBulk d/\SV.gw (snap W) (e x) [v]:=by
 obtain⟨fuel,h⟩:=h;rw[o1.h W r base v hv]at h;obtain⟨x,h1,h2,_,h4⟩:=o.h enc W fuel _ d p h;exact⟨x,h1,h4,h2⟩
theorem aae{α:Type}{e:α->List SV}{ok:α->Prop}{sz:α->Nat}{k:Nat}[s:StN P T k][o:Mk P T e ok sz]{H:Type}{enc:TypeId×Value->H}{W:World}{r:Reach}{base:Nat}{v:Value}{d:DataW H}{p:List MemPlace}
  (hv:Value.okWide P W r base T v) (h:DataW.Trod enc P W 0 (λ_=>true) true T v d p):∃x,ok x/\sz x<=Rows.uptoBulk d/\(SV.agg (e x)).h (snap W) v:=by
 have hs:=s.h;cases hT:P.underlying T with
 |none=>rw[hT]at hs;cases hs
 |some u=>
  rw[hT]at hs;cases u with
  |struct fs=>
   obtain⟨cs,rfl,_⟩:=WideShapes.okWide_struct hT hv;obtain⟨fuel,h⟩:=h;obtain⟨x,h1,h2,_,h4⟩:=o.h enc W fuel _ d p h;exact⟨x,h1,h4,cs.toList,Y,h2⟩
  |_=>cases hs
end opn
theorem aaf{f:FuncId}{vs:List Value}{svs:List SV}{W:World}(hp:Pure ah f svs (.v (.bool true)))(h:SV.gw (snap W) svs vs):
  Calls ah f ⟨vs⟩ W λe w'=>e=.returned (.bool true)/\Below W.heap.size W w':=
 (hp (snap W) W vs (aab W) h).mono λ_ _ ⟨v,_,h1,_,_,_,h2,h3⟩=>by
  have h2:v=.bool true:=h2;exact⟨by rw[h1,h2],h3⟩
end
section
open Go.Fw Go.RowKit Go.ChangeShapes Go.WideShapes Go.ChangeAt
theorem amu:ownKnob Tryz.prog.godebug=none:=by kernel_rfl
theorem Oy:laidOutB ah=true:=by kernel_rfl
instance:StN ah 41 2:=⟨by kernel_rfl⟩
set_option maxRecDepth 100000 in
instance:Mk ah 41 eZ (λ(z:Zr)=>(True/\(z.w.length<=9223372036854775807/\∀x1∈z.w,x1<4294967296))) (λ(z:Zr)=>(1+((z.w.map λx1=>1).sum+1)+1)):=⟨λenc W fuel cs d p h=>by
 obtain⟨xs,n,rfl,hl,hn,hf⟩:=Ml h;have hl:cs.length=2:=hl.trans (by kernel_rfl)
 match xs,hn with
 |[⟨d0,p0⟩,⟨d1,p1⟩],_=>
 match cs,hl with
 |[c0,c1],_=>
 have t0:DataW.trod enc ah W 0 (λ_=>true) true n 4 [c0]=some (d0,p0):=(by have q:=hf 0 _ _ inferInstance;rw[show Tryz.prog.cellsOf 4=1 by kernel_rfl]at q;exact q);obtain⟨x0,a0,b0,e0,s0⟩:=Mk.h (P:=ah) (T:=4) (e:=eB) enc W n _ d0 p0 t0;have t1:DataW.trod enc ah W 0 (λ_=>true) true n 39 [c1]=some (d1,p1):=(by have q:=hf 1 _ _ inferInstance;rw[show Tryz.prog.cellsOf 39=1 by kernel_rfl]at q;exact q);obtain⟨x1,a1,b1,e1,s1⟩:=Mk.h (P:=ah) (T:=39) (e:=(eS 1 bh)) enc W n _ d1 p1 t1;refine⟨⟨x0,x1⟩,⟨a0,a1⟩,⟨b0.1,b1.1,aq⟩,?_,?_⟩
 ·intro v hv;simp only[List.mem_cons,List.not_mem_nil,or_false]at hv;rcases hv with rfl|rfl
  ·exact e0 _ (by simp)
  exact e1 _ (by simp)
 simp only[List.map_cons,List.map_nil,Rows.uptoBulk,Rows.uptoBulkAll];omega⟩
instance:StN ah 43 2:=⟨by kernel_rfl⟩
set_option maxRecDepth 100000 in
instance:Mk ah 43 eQ (λ(z:Qr)=>((True/\(z.num.w.length<=9223372036854775807/\∀x1∈z.num.w,x1<4294967296))/\(True/\(z.den.w.length<=9223372036854775807/\∀x1∈z.den.w,x1<4294967296)))) (λ(z:Qr)=>((1+((z.num.w.map λx1=>1).sum+1)+1)+(1+((z.den.w.map λx1=>1).sum+1)+1)+1)):=⟨λenc W fuel cs d p h=>by
 obtain⟨xs,n,rfl,hl,hn,hf⟩:=Ml h;have hl:cs.length=4:=hl.trans (by kernel_rfl)
 match xs,hn with
 |[⟨d0,p0⟩,⟨d1,p1⟩],_=>
 match cs,hl with
 |[c0,c1,c2,c3],_=>
 have t0:DataW.trod enc ah W 0 (λ_=>true) true n 41 [c0,c1]=some (d0,p0):=(by have q:=hf 0 _ _ inferInstance;rw[show Tryz.prog.cellsOf 41=2 by kernel_rfl]at q;exact q);obtain⟨x0,a0,b0,e0,s0⟩:=Mk.h (P:=ah) (T:=41) (e:=eZ) enc W n _ d0 p0 t0;have t1:DataW.trod enc ah W 0 (λ_=>true) true n 41 [c2,c3]=some (d1,p1):=(by have q:=hf 1 _ _ inferInstance;rw[show Tryz.prog.cellsOf 41=2 by kernel_rfl]at q;exact q);obtain⟨x1,a1,b1,e1,s1⟩:=Mk.h (P:=ah) (T:=41) (e:=eZ) enc W n _ d1 p1 t1;refine⟨⟨x0,x1⟩,⟨a0,a1⟩,⟨b0.1,b0.2.1,b1.1,b1.2.1,aq⟩,?_,?_⟩
 ·intro v hv;simp only[List.mem_cons,List.not_mem_nil,or_false]at hv;rcases hv with rfl|rfl|rfl|rfl
  ·exact e0 _ (by simp)
  ·exact e0 _ (by simp)
  ·exact e1 _ (by simp)
  exact e1 _ (by simp)
 simp only[List.map_cons,List.map_nil,Rows.uptoBulk,Rows.uptoBulkAll];omega⟩
instance:StN ah 25 4:=⟨by kernel_rfl⟩
set_option maxRecDepth 100000 in
instance:Mk ah 25 KX (λ(z:Lr)=>((-9223372036854775808<=z.vars/\z.vars<=9223372036854775807)/\(z.Kc.length<=9223372036854775807/\∀x1∈z.Kc,(x1.length<=9223372036854775807/\∀x2∈x1,((True/\(x2.num.w.length<=9223372036854775807/\∀x3∈x2.num.w,x3<4294967296))/\(True/\(x2.den.w.length<=9223372036854775807/\∀x3∈x2.den.w,x3<4294967296)))))/\(z.rows.length<=9223372036854775807/\∀x1∈z.rows,(x1.length<=9223372036854775807/\∀x2∈x1,((True/\(x2.num.w.length<=9223372036854775807/\∀x3∈x2.num.w,x3<4294967296))/\(True/\(x2.den.w.length<=9223372036854775807/\∀x3∈x2.den.w,x3<4294967296)))))/\(z.bounds.length<=9223372036854775807/\∀x1∈z.bounds,((True/\(x1.num.w.length<=9223372036854775807/\∀x2∈x1.num.w,x2<4294967296))/\(True/\(x1.den.w.length<=9223372036854775807/\∀x2∈x1.den.w,x2<4294967296)))))) (λ(z:Lr)=>(1+((z.Kc.map λx1=>((x1.map λx2=>((1+((x2.num.w.map λx3=>1).sum+1)+1)+(1+((x2.den.w.map λx3=>1).sum+1)+1)+1)).sum+1)).sum+1)+((z.rows.map λx1=>((x1.map λx2=>((1+((x2.num.w.map λx3=>1).sum+1)+1)+(1+((x2.den.w.map λx3=>1).sum+1)+1)+1)).sum+1)).sum+1)+((z.bounds.map λx1=>((1+((x1.num.w.map λx2=>1).sum+1)+1)+(1+((x1.den.w.map λx2=>1).sum+1)+1)+1)).sum+1)+1)):=⟨λenc W fuel cs d p h=>by
 obtain⟨xs,n,rfl,hl,hn,hf⟩:=Ml h;have hl:cs.length=4:=hl.trans (by kernel_rfl)
 match xs,hn with
 |[⟨d0,p0⟩,⟨d1,p1⟩,⟨d2,p2⟩,⟨d3,p3⟩],_=>
 match cs,hl with
 |[c0,c1,c2,c3],_=>
 have t0:DataW.trod enc ah W 0 (λ_=>true) true n 3 [c0]=some (d0,p0):=(by have q:=hf 0 _ _ inferInstance;rw[show Tryz.prog.cellsOf 3=1 by kernel_rfl]at q;exact q);obtain⟨x0,a0,b0,e0,s0⟩:=Mk.h (P:=ah) (T:=3) (e:=bD) enc W n _ d0 p0 t0;have t1:DataW.trod enc ah W 0 (λ_=>true) true n 22 [c1]=some (d1,p1):=(by have q:=hf 1 _ _ inferInstance;rw[show Tryz.prog.cellsOf 22=1 by kernel_rfl]at q;exact q);obtain⟨x1,a1,b1,e1,s1⟩:=Mk.h (P:=ah) (T:=22) (e:=(eS 1 (eS 4 eQ))) enc W n _ d1 p1 t1;have t2:DataW.trod enc ah W 0 (λ_=>true) true n 22 [c2]=some (d2,p2):=(by have q:=hf 2 _ _ inferInstance;rw[show Tryz.prog.cellsOf 22=1 by kernel_rfl]at q;exact q);obtain⟨x2,a2,b2,e2,s2⟩:=Mk.h (P:=ah) (T:=22) (e:=(eS 1 (eS 4 eQ))) enc W n _ d2 p2 t2;have t3:DataW.trod enc ah W 0 (λ_=>true) true n 23 [c3]=some (d3,p3):=(by have q:=hf 3 _ _ inferInstance;rw[show Tryz.prog.cellsOf 23=1 by kernel_rfl]at q;exact q);obtain⟨x3,a3,b3,e3,s3⟩:=Mk.h (P:=ah) (T:=23) (e:=(eS 4 eQ)) enc W n _ d3 p3 t3;refine⟨⟨x0,x1,x2,x3⟩,⟨a0,a1,a2,a3⟩,⟨b0.1,b1.1,b2.1,b3.1,aq⟩,?_,?_⟩
 ·intro v hv;simp only[List.mem_cons,List.not_mem_nil,or_false]at hv;rcases hv with rfl|rfl|rfl|rfl
  ·exact e0 _ (by simp)
  ·exact e1 _ (by simp)
  ·exact e2 _ (by simp)
  exact e3 _ (by simp)
 simp only[List.map_cons,List.map_nil,Rows.uptoBulk,Rows.uptoBulkAll];omega⟩
end
end Go.Proofs.YtningmnklfpfjaaGreat
namespace Go.Fw
section
open Go.RowKit
theorem BO{S:AS}(i o k:Nat)(E0:TypeId)(sz:Nat){T:TypeId}{cells:List AV}(hb:S.b i=some ⟨T,cells⟩)(hc:cells[o]? =some (.sv (.v (.slice none 0 0))))(hk:S.r k=.un)(hk1:k<1000):
  AF S ((AS.cO [(k,.live ⟨E0,sz,0,[]⟩)] S).oE i ⟨T,cells.set o (.row k)⟩):=by
 rintro C a w ⟨E,h⟩;have h1:=h.newRow hk hk1 [] none (.inl ⟨Y,Y⟩) (R':=⟨E0,sz,0,[]⟩) (World.ownsRow_nil w 0 E0 sz) (vs':=[]) trivial (.inl Y) (zB w none);have E4:(AS.cO [(k,.live ⟨E0,sz,0,[]⟩)] S).b i=some ⟨T,cells⟩:=hb;have hrk:(AS.cO [(k,.live ⟨E0,sz,0,[]⟩)] S).r k≠ .un:=by
  show(AS.xZ S k _).r k≠_;rw[AS.lK];simp
 refine⟨_,{h1 with wf:=?_,bx:=λj B hB=>?_,inj:=λj j' B B' hB iT e=>?_,rx:=λj R hR=>?_}⟩
 ·refine⟨λt j hj=>?_,h1.wf.tr,λj B hB x hx m hm=>?_,λj B hB x hx m hm=>?_⟩
  ·obtain⟨B,hB⟩:=h1.wf.tb t j hj;by_cases e:j=i
   ·subst e;exact⟨_,AS.dO _ _ _⟩
   exact⟨B,by rw[AS.cJ _ _ _ _ e];exact hB⟩
  ·have key:∃B',(AS.cO [(k,.live ⟨E0,sz,0,[]⟩)] S).b m=some B':=by
    by_cases e:j=i
    ·subst e;rw[AS.dO]at hB;cases hB;rcases List.mem_or_eq_of_mem_set hx with hx|rfl
     ·exact h1.wf.bb j _ E4 x hx m hm
     exact hm.elim
    rw[AS.cJ _ _ _ _ e]at hB;exact h1.wf.bb j B hB x hx m hm
   obtain⟨B',iT⟩:=key;by_cases e:m=i
   ·subst e;exact⟨_,AS.dO _ _ _⟩
   exact⟨B',by rw[AS.cJ _ _ _ _ e];exact iT⟩
  by_cases e:j=i
  ·subst e;rw[AS.dO]at hB;cases hB;rcases List.mem_or_eq_of_mem_set hx with hx|rfl
   ·exact h1.wf.br j _ E4 x hx m hm
   cases hm;exact hrk
  rw[AS.cJ _ _ _ _ e]at hB;exact h1.wf.br j B hB x hx m hm
 ·by_cases e:j=i
  ·subst e;rw[AS.dO]at hB;cases hB;obtain⟨q1,q2,q3,vs,q4,q5⟩:=h1.bx j _ E4;refine⟨q1,q2,q3,vs,q4,?_⟩;obtain⟨x,hx,hv⟩:=q5.get hc;have hv:x=.slice none 0 0:=hv;have:=eI.set (i:=o) (s:=.row k) (x:=x) q5 (by
    show x=if k=k then _ else _;rw[if_pos rfl];exact hv)
   have he:vs.set o x=vs:=by
    apply List.ext_getElem?;intro n;rw[List.getElem?_set];split
    ·rename_i hn;subst hn;rw[hx];split<;>rename_i hl
     ·rfl
     have:=(List.getElem?_eq_some_iff.1 hx).1;exact absurd this hl
    rfl
   rwa[he]at this
  rw[AS.cJ _ _ _ _ e]at hB;exact h1.bx j B hB
 ·have old:∀n B,((AS.cO [(k,.live ⟨E0,sz,0,[]⟩)] S).oE i ⟨T,cells.set o (.row k)⟩).b n=some B->∃B',(AS.cO [(k,.live ⟨E0,sz,0,[]⟩)] S).b n=some B':=λn B hn=>by
   by_cases e:n=i
   ·subst e;exact⟨_,E4⟩
   rw[AS.cJ _ _ _ _ e]at hn;exact⟨B,hn⟩
  obtain⟨B1,p1⟩:=old j B hB;obtain⟨B2,p2⟩:=old j' B' iT;exact h1.inj j j' B1 B2 p1 p2 e
 obtain⟨p1,p2⟩:=h1.rx j R hR;refine⟨p1,λg hg=>?_⟩;obtain⟨p3,p4,p5,p6⟩:=p2 g hg;refine⟨p3,p4,p5,λn B hn=>?_⟩;by_cases e:n=i
 ·subst e;exact p6 n _ E4
 rw[AS.cJ _ _ _ _ e]at hn;exact p6 n B hn
end
section
open Go.RowKit
section part
variable {P:Program}{C:Ctx}{ops:Array Oper}{acts:List Ac}{S:AS}
theorem Dx(listed:Array Bool)(i:Nat)(hs:listed.size=ops.size)(hi:i<ops.size):listed.getD i true=listed.getD i false:=by
 rw[Array.getD_eq_getD_getElem?,Array.getD_eq_getD_getElem?];rw[Array.getElem?_eq_getElem (by omega)];rfl
end part
end
section
open Go.RowKit
instance{g:FuncId}{caps:List SV}:One (o5 g caps):=⟨λ_ _ h=>by obtain⟨vs,rfl,_⟩:=h;rfl⟩
section steps
variable {P:Program}{C:Ctx}{ops:Array Oper}{S:AS}{nd:Bool}{K:List Ac->AS->Prop}{rest:List Oper}{acc:List Ac}
variable {gd:Option (Nat×Bool)}{rg:List Nat}{d:Nat}{ty:TypeId}{pos:String}{aft:Array Edge}{x y z:Operand}{T U E0:TypeId}
theorem RT.Fa(hg:Gd ops S gd rg){g:FuncId}{xs:Array Operand}{caps:List SV}(hc:kf S xs.toList caps)(hd:d<S.n)
  (next:RunT P C ops nd K rest (⟨rg++xs.toList.flatMap bp,[],[],⟨some (d,.sv (o5 g caps)),[],[]⟩⟩::acc) (S.set d (.sv (o5 g caps)))):RunT P C ops nd K (⟨some d,.makeFunc (.func g) #[] xs,ty,pos,aft,gd⟩::rest) acc S:=
 RT.value hg (xs.toList.flatMap bp) [] [] (.sv (o5 g caps)) hd (by intro c h;cases h) (λS' ht _ _ E a w h=>by
  have h1:=kf.vals h hc ht;refine⟨.func (.func g) #[] ⟨xs.toList.map a.eval⟩,?_,⟨_,Y,h1⟩,iz⟩;have e2:xs.map a.eval=⟨xs.toList.map a.eval⟩:=by apply Array.ext';simp
  simp[execOp,Instr.makeFunc,e2]) next
theorem RT.aiD(hg:Gd ops S gd rg){f:FuncId}[cZ P f]{g:Operand}{xs:Array Operand}{at_:Array TypeId}{args caps:List SV}{r:SV}(hp:Pure P f (args++caps) r)(hf:S.ev g=.sv (o5 f caps))(hargs:kf S xs.toList args)(hd:d<S.n)
  (next:RunT P C ops nd K rest (⟨rg++(bp g++xs.toList.flatMap bp),[],[],⟨some (d,.sv r),[],[]⟩⟩::acc) (S.set d (.sv r))):RunT P C ops nd K (⟨some d,.call ⟨.value g,xs,at_⟩,ty,pos,aft,gd⟩::rest) acc S:=by
 refine .inl ⟨_,[],[],_,?_,next⟩;rintro S' hn ht _ _ i a w L Q ho ⟨E,h⟩ hL;refine dy (C:=C) ho (hg.wanted h (λs hs=>ht s (List.mem_append_left _ hs)) Y) ?_;have AJ:(o5 f caps).h E.M (a.eval g):=by
  have h1:=h.ev g;rw[bQ (λ_ h=>List.mem_append_right _ (List.mem_append_left _ h)) ht,hf]at h1;exact h1
 obtain⟨xA,AJ,JX⟩:=AJ;have hall:=SV.gw.append (kf.vals h hargs (λs hs=>ht s (List.mem_append_right _ (List.mem_append_right _ hs)))) JX;have hr:(execOp a.eval ⟨some d,.call ⟨.value g,xs,at_⟩,ty,pos,aft,gd⟩).run P w=.ok (.enter f ⟨xs.toList.map a.eval++xA⟩) w:=by
  have e2:xs.map a.eval++⟨xA⟩=⟨xs.toList.map a.eval++xA⟩:=by apply Array.ext';simp
  have e1:=cZ.run (P:=P) (f:=f) (xs.map a.eval++⟨xA⟩) w;rw[<-e2];simp[execOp,resolve,AJ,Deferred.ofValue,invoke,e1]
 refine dm (C:=C) (by intro c h;cases h) hr ?_;refine⟨λh=>by simp at h,kp ((hp E.M w _ h.ep hall).mono ?_)⟩;rintro e w' ⟨v,M',rfl,hM,hnew,hin,hv,hb⟩;exact hL _ _ ⟨_,(h.grow hM hnew hin hb).put (x:=.sv r) hv (by show d<S'.n;omega) iz⟩
end steps
end
end Go.Fw
namespace Go.Fw.Z
section
open Go.Fw
theorem T{d n:Nat}(h:Nat.ble (d+1) n=true:=by exact rfl):d<n:=tl h
theorem bE{α β:Type}{x:Option α}{f:α->Option β}{r:β}{G:Prop}(h:Option.bind x f=some r)(k:∀a,x=some a->f a=some r->G):G:=by obtain⟨a,h1,h2⟩:=bind_some h;exact k a h1 h2
theorem lE{α β:Type}{v:α}{f:α->Option β}{r:β}{G:Prop}(h:Option.bind (some v) f=some r)(k:∀a,v=a->f a=some r->G):G:=k v Y h
theorem bS{α β:Type}{x:Option α}{f:α->Option β}{r:β}(h:Option.bind x f=some r):∃a,x=some a/\f a=some r:=bind_some h
theorem F{α:Type}{x y:Option α}{r:α}(h:(bif false then x else y)=some r):y=some r:=h
theorem V{α:Type}{x y:Option α}{r:α}(h:(bif true then x else y)=some r):x=some r:=h
theorem O{α:Type}{a b:α}(h:some a=some b):a=b:=Option.some.inj h
def F1(l:List (Nat×Nat))(i:Nat):Nat:=((l.find? λp=>Nat.beq p.1 i).map (·.2)).getD i
def rnA(l:List (Nat×Nat)):AV->AV
 |.row i=>.row (F1 l i)
 |.uW i o n=>.uW (F1 l i) o n
 |x=>x
def noR:AV->Bool
 |.nC _ _=>false
 |.cmp _ _=>false
 |_=>true
theorem avi(l:List (Nat×Nat)){x:AV}(h:noR x=true):T7 (F1 l) (rnA l x) x:=by
 cases x with
 |sv s=>exact .sv au
 |ptr i o=>exact .ptr
 |NX i o n c=>exact .NX
 |row i=>exact .row Y
 |nC i k=>cases h
 |uW i o n=>exact .uW Y
 |kU g js=>exact .kU
 |cmp t js=>cases h
theorem aiE(l:List (Nat×Nat)):∀{xs:List AV},(xs.all noR)=true->QH (F1 l) (xs.map (rnA l)) xs
 |[],_=>trivial
 |x::xs,h=>by simp only[List.all_cons,Bool.and_eq_true]at h;exact⟨avi l h.1,aiE l h.2⟩
theorem wR(l:List (Nat×Nat)){S:AS}{n:Nat}{ts:List (Nat×AV)}{bs:List (Nat×vY)}{rs:List (Nat×Row)}{g:Nat}{go:Bool}
  (ht:ts.map (λp=>S.t p.1)=ts.map (λp=>rnA l p.2):=by exact rfl) (hb:bs.map (λp=>S.b p.1)=bs.map (λp=>some ⟨p.2.T,p.2.cells.map (rnA l)⟩):=by exact rfl) (hr:rs.map (λp=>S.r (F1 l p.1))=rs.map (λp=>.live p.2):=by exact rfl)
  (hn:S.n=n:=by exact rfl) (hg:S.g=g:=by exact rfl) (QB:S.go=go:=by exact rfl)
  (hwf:((ts.all λp=>p.2.ya bs rs)&&(bs.all λp=>p.2.cells.all λx=>x.ya bs rs))=true:=by exact rfl) (hσ:((rs.all λp=>rs.all λq=>!(Nat.beq (F1 l p.1) (F1 l q.1))||Nat.beq p.1 q.1))=true:=by exact rfl)
  (hno:((ts.all λp=>noR p.2)&&(bs.all λp=>p.2.cells.all noR))=true:=by exact rfl) (hl:(l.all λp=>Nat.ble (p.1+1) 1000)=true:=by exact rfl):AF S (AS.cj n ts bs rs g go):=by
 simp only[Bool.and_eq_true,List.all_eq_true]at hno;refine cD (F1 l) hn hg QB hwf hσ ?_ ?_ ?_ ?_
 ·clear hwf hb hr;obtain⟨h,-⟩:=hno
  induction ts with
  |nil=>trivial
  |cons p ts ih=>
   obtain⟨k,x⟩:=p;simp only[List.map_cons,List.cons.injEq]at ht;refine⟨?_,ih ht.2 (λq hq=>h q (by simp[hq]))⟩;show T7 _ (S.t k) x;rw[ht.1];exact avi l (h (k,x) (by simp))
 ·clear hwf ht hr;obtain⟨-,h⟩:=hno
  induction bs with
  |nil=>trivial
  |cons p bs ih=>
   obtain⟨k,x⟩:=p;simp only[List.map_cons,List.cons.injEq]at hb;exact⟨⟨_,hb.1,aiE l (List.all_eq_true.2 (h (k,x) (by simp)))⟩,ih hb.2 (λq hq=>h q (by simp[hq]))⟩
 ·clear hwf ht hb hσ
  induction rs with
  |nil=>trivial
  |cons p rs ih=>
   obtain⟨k,x⟩:=p;simp only[List.map_cons,List.cons.injEq]at hr;exact⟨⟨_,hr.1,cg.refl _⟩,ih hr.2⟩
 intro i hi;unfold F1;have:l.find? (λp=>Nat.beq p.1 i)=none:=by
  rw[List.find?_eq_none];intro p hp e;have h1:=af (List.all_eq_true.1 hl p hp);have h2:=Nat.eq_of_beq_eq_true e;omega
 rw[this];rfl
section
variable {P:Program}{C:Ctx}{S:AS}{Q:Exit->AS->Prop}
theorem qq{x y:Code}(h:Ok P C x S (aW (λS'=>Ok P C y S' Q) Q)):Ok P C (.seq x y) S Q:=cq h
theorem sr{id:Nat}{ops:Array Oper}{y:Code}(h:RunT P C ops true (λ_ S=>aW (λS'=>Ok P C y S' Q) Q .normal S) ops.toList [] S):Ok P C (.seq (.region id ops false) y) S Q:=cq (aX h)
theorem dn{ops:Array Oper}{acc:List Ac}{next:AS->Prop}(h:next S):RunT P C ops true (λ_ S=>aW next Q .normal S) [] acc S:=h
theorem cF{c:Operand}{x y:Code}(hf:Ok P C y S Q)(hc:S.ev c=.sv (.v (.bool false)):=by exact rfl):Ok P C (.cond c x y) S Q:=je hc hf
theorem cT{c:Operand}{x y:Code}(ht:Ok P C x S Q)(hc:S.ev c=.sv (.v (.bool true)):=by exact rfl):Ok P C (.cond c x y) S Q:=fe hc ht
theorem fs{c:Operand}{x:Code}{next:AS->Prop}(h:next S)(hc:S.ev c=.sv (.v (.bool false)):=by exact rfl):Ok P C (.cond c x .skip) S (aW next Q):=je hc (bw h)
theorem R1{A:Prop}{e:Exit}{t:Nat}{s:SV}(h:S.t t=.sv s):(A\/e=e)/\VF P S [.tmp t] s:=⟨.inr Y,lz (.tmp h .nil) au⟩
theorem R2{A:Prop}{e:Exit}{t u:Nat}{s s':SV}(h:S.t t=.sv s)(h':S.t u=.sv s'):(A\/e=e)/\VF P S [.tmp t,.tmp u] (.Ca [s,s']):=⟨.inr Y,lz (.tmp h (.tmp h' .nil)) au⟩
theorem RZ{A:Prop}{e:Exit}{rs:List ResultVar}{ss:List SV}{r:SV}(h:Vn P S rs ss)(h':SV.imp (VN ss) r:=by exact au):(A\/e=e)/\VF P S rs r:=⟨.inr Y,lz h h'⟩
end
section
variable {P:Program}{C:Ctx}{ops:Array Oper}{S:AS}{nd:Bool}{K:List Ac->AS->Prop}{rest:List Oper}{acc:List Ac}
variable {gd:Option (Nat×Bool)}{rg:List Nat}{d:Nat}{ty:TypeId}{pos:String}{aft:Array Edge}{x y z:Operand}{T U:TypeId}{k:IntKind}{p q:Int}
theorem pF{s:SV}(hz:S.ev z=.sv s)(next:RunT P C ops nd K rest (⟨[]++(bp x++bp z),[],[],⟨some (d,.sv s),[],[]⟩⟩::acc) (S.set d (.sv s)))(hx:S.ev x=.sv (.v (.bool false)):=by exact rfl)(hd:d<S.n:=by exact tl Y):RunT P C ops nd K (⟨some d,.pick x y z,ty,pos,aft,none⟩::rest) acc S:=
 RT.abU .none hx hz hd next
theorem pT{s:SV}(hy:S.ev y=.sv s)(next:RunT P C ops nd K rest (⟨[]++(bp x++bp y),[],[],⟨some (d,.sv s),[],[]⟩⟩::acc) (S.set d (.sv s)))(hx:S.ev x=.sv (.v (.bool true)):=by exact rfl)(hd:d<S.n:=by exact tl Y):RunT P C ops nd K (⟨some d,.pick x y z,ty,pos,aft,none⟩::rest) acc S:=
 RT.abT .none hx hy hd next
theorem mo{s:AV}(hx:S.ev x=s)(next:RunT P C ops nd K rest (⟨[]++bp x,[],[],⟨some (d,s),[],[]⟩⟩::acc) (S.set d s))(hd:d<S.n:=by exact tl Y):RunT P C ops nd K (⟨some d,.move x,ty,pos,aft,none⟩::rest) acc S:=
 RT.move .none hx hd next
theorem ad(c:Int)(hx:S.ev x=.sv (.v (.int k p)))(hy:S.ev y=.sv (.v (.int k q)))(hc:k.wrap (p+q)=c)(next:RunT P C ops nd K rest (⟨[]++(bp x++bp y),[],[],⟨some (d,.sv (.v (.int k c))),[],[]⟩⟩::acc) (S.set d (.sv (.v (.int k c)))))(hd:d<S.n:=by exact tl Y):RunT P C ops nd K (⟨some d,.binOp .add T x y U,ty,pos,aft,none⟩::rest) acc S:=
 RT.add .none c hx hy hd hc next
theorem cv{j:IntKind}[tT:tD P T j][tU:tD P U k](c:Int){k':IntKind}(hx:S.ev x=.sv (.v (.int k' p)))(hc:k.wrap p=c)(next:RunT P C ops nd K rest (⟨[]++bp x,[],[],⟨some (d,.sv (.v (.int k c))),[],[]⟩⟩::acc) (S.set d (.sv (.v (.int k c)))))(hd:d<S.n:=by exact tl Y):RunT P C ops nd K (⟨some d,.convert T U x,ty,pos,aft,none⟩::rest) acc S:=
 RT.conv .none c hx hd hc next
theorem ls(c:Bool)(hx:S.ev x=.sv (.v (.int k p)))(hy:S.ev y=.sv (.v (.int k q)))(hc:decide (p<q)=c)(next:RunT P C ops nd K rest (⟨[]++(bp x++bp y),[],[],⟨some (d,.sv (.v (.bool c))),[],[]⟩⟩::acc) (S.set d (.sv (.v (.bool c)))))(hd:d<S.n:=by exact tl Y):RunT P C ops nd K (⟨some d,.binOp .lss T x y U,ty,pos,aft,none⟩::rest) acc S:=
 RT.lss .none c hx hy hd hc next
theorem sb(c:Int)(hx:S.ev x=.sv (.v (.int k p)))(hy:S.ev y=.sv (.v (.int k q)))(hc:k.wrap (p-q)=c)(next:RunT P C ops nd K rest (⟨[]++(bp x++bp y),[],[],⟨some (d,.sv (.v (.int k c))),[],[]⟩⟩::acc) (S.set d (.sv (.v (.int k c)))))(hd:d<S.n:=by exact tl Y):RunT P C ops nd K (⟨some d,.binOp .sub T x y U,ty,pos,aft,none⟩::rest) acc S:=
 RT.sub .none c hx hy hd hc next
theorem an{s:AV}(hx:S.ev x=s)(next:RunT P C ops nd K rest (⟨[]++bp x,[],[],⟨some (d,s),[],[]⟩⟩::acc) (S.set d s))(hd:d<S.n:=by exact tl Y):RunT P C ops nd K (⟨some d,.assign x,ty,pos,aft,none⟩::rest) acc S:=
 RT.assign .none hx hd next
theorem gt(c:Bool)(hx:S.ev x=.sv (.v (.int k p)))(hy:S.ev y=.sv (.v (.int k q)))(hc:decide (q<p)=c)(next:RunT P C ops nd K rest (⟨[]++(bp x++bp y),[],[],⟨some (d,.sv (.v (.bool c))),[],[]⟩⟩::acc) (S.set d (.sv (.v (.bool c)))))(hd:d<S.n:=by exact tl Y):RunT P C ops nd K (⟨some d,.binOp .gtr T x y U,ty,pos,aft,none⟩::rest) acc S:=
 RT.gtr .none c hx hy hd hc next
theorem eq(c:Bool)(hx:S.ev x=.sv (.v (.int k p)))(hy:S.ev y=.sv (.v (.int k q)))(hc:(p==q)=c)(next:RunT P C ops nd K rest (⟨[]++(bp x++bp y),[],[],⟨some (d,.sv (.v (.bool c))),[],[]⟩⟩::acc) (S.set d (.sv (.v (.bool c)))))(hd:d<S.n:=by exact tl Y):RunT P C ops nd K (⟨some d,.binOp .eql T x y U,ty,pos,aft,none⟩::rest) acc S:=
 RT.eql .none c hx hy hd hc next
theorem ne(c:Bool)(hx:S.ev x=.sv (.v (.int k p)))(hy:S.ev y=.sv (.v (.int k q)))(hc:(p != q)=c)(next:RunT P C ops nd K rest (⟨[]++(bp x++bp y),[],[],⟨some (d,.sv (.v (.bool c))),[],[]⟩⟩::acc) (S.set d (.sv (.v (.bool c)))))(hd:d<S.n:=by exact tl Y):RunT P C ops nd K (⟨some d,.binOp .neq T x y U,ty,pos,aft,none⟩::rest) acc S:=
 RT.neq .none c hx hy hd hc next
theorem ge(c:Bool)(hx:S.ev x=.sv (.v (.int k p)))(hy:S.ev y=.sv (.v (.int k q)))(hc:decide (q<=p)=c)(next:RunT P C ops nd K rest (⟨[]++(bp x++bp y),[],[],⟨some (d,.sv (.v (.bool c))),[],[]⟩⟩::acc) (S.set d (.sv (.v (.bool c)))))(hd:d<S.n:=by exact tl Y):RunT P C ops nd K (⟨some d,.binOp .geq T x y U,ty,pos,aft,none⟩::rest) acc S:=
 RT.geq .none c hx hy hd hc next
theorem nt{b:Bool}(hx:S.ev x=.sv (.v (.bool b)))(c:Bool)(hc:(!b)=c)(next:RunT P C ops nd K rest (⟨[]++bp x,[],[],⟨some (d,.sv (.v (.bool c))),[],[]⟩⟩::acc) (S.set d (.sv (.v (.bool c)))))(hd:d<S.n:=by exact tl Y):RunT P C ops nd K (⟨some d,.unOp .not T x,ty,pos,aft,none⟩::rest) acc S:=
 RT.not .none hx hd c hc next
theorem gF{j_ g_:Nat}{jv:Bool}{s:SV}(hz:S.ev z=.sv s)(next:RunT P C ops nd K rest (⟨[g_]++(bp x++bp z),[],[],⟨some (d,.sv s),[],[]⟩⟩::acc) (S.set d (.sv s)))(Ke:(ops[j_]?).bind (·.dst)=some g_:=by exact rfl)(Kf:S.t g_=.sv (.v (.bool jv)):=by exact rfl)(hx:S.ev x=.sv (.v (.bool false)):=by exact rfl)(hd:d<S.n:=by exact tl Y):RunT P C ops nd K (⟨some d,.pick x y z,ty,pos,aft,some (j_,jv)⟩::rest) acc S:=
 RT.abU (.some Ke Kf) hx hz hd next
theorem gT{j_ g_:Nat}{jv:Bool}{s:SV}(hy:S.ev y=.sv s)(next:RunT P C ops nd K rest (⟨[g_]++(bp x++bp y),[],[],⟨some (d,.sv s),[],[]⟩⟩::acc) (S.set d (.sv s)))(Ke:(ops[j_]?).bind (·.dst)=some g_:=by exact rfl)(Kf:S.t g_=.sv (.v (.bool jv)):=by exact rfl)(hx:S.ev x=.sv (.v (.bool true)):=by exact rfl)(hd:d<S.n:=by exact tl Y):RunT P C ops nd K (⟨some d,.pick x y z,ty,pos,aft,some (j_,jv)⟩::rest) acc S:=
 RT.abT (.some Ke Kf) hx hy hd next
theorem gq{j_ g_:Nat}{jv:Bool}(c:Bool)(hx:S.ev x=.sv (.v (.int k p)))(hy:S.ev y=.sv (.v (.int k q)))(hc:(p != q)=c)(next:RunT P C ops nd K rest (⟨[g_]++(bp x++bp y),[],[],⟨some (d,.sv (.v (.bool c))),[],[]⟩⟩::acc) (S.set d (.sv (.v (.bool c)))))(Ke:(ops[j_]?).bind (·.dst)=some g_:=by exact rfl)(Kf:S.t g_=.sv (.v (.bool jv)):=by exact rfl)(hd:d<S.n:=by exact tl Y):RunT P C ops nd K (⟨some d,.binOp .neq T x y U,ty,pos,aft,some (j_,jv)⟩::rest) acc S:=
 RT.neq (.some Ke Kf) c hx hy hd hc next
theorem gg{j_ g_:Nat}{jv:Bool}(c:Bool)(hx:S.ev x=.sv (.v (.int k p)))(hy:S.ev y=.sv (.v (.int k q)))(hc:decide (q<p)=c)(next:RunT P C ops nd K rest (⟨[g_]++(bp x++bp y),[],[],⟨some (d,.sv (.v (.bool c))),[],[]⟩⟩::acc) (S.set d (.sv (.v (.bool c)))))(Ke:(ops[j_]?).bind (·.dst)=some g_:=by exact rfl)(Kf:S.t g_=.sv (.v (.bool jv)):=by exact rfl)(hd:d<S.n:=by exact tl Y):RunT P C ops nd K (⟨some d,.binOp .gtr T x y U,ty,pos,aft,some (j_,jv)⟩::rest) acc S:=
 RT.gtr (.some Ke Kf) c hx hy hd hc next
theorem Uh{j_ g_:Nat}{jv:Bool}(c:Bool)(hx:S.ev x=.sv (.v (.int k p)))(hy:S.ev y=.sv (.v (.int k q)))(hc:(p==q)=c)(next:RunT P C ops nd K rest (⟨[g_]++(bp x++bp y),[],[],⟨some (d,.sv (.v (.bool c))),[],[]⟩⟩::acc) (S.set d (.sv (.v (.bool c)))))(Ke:(ops[j_]?).bind (·.dst)=some g_:=by exact rfl)(Kf:S.t g_=.sv (.v (.bool jv)):=by exact rfl)(hd:d<S.n:=by exact tl Y):RunT P C ops nd K (⟨some d,.binOp .eql T x y U,ty,pos,aft,some (j_,jv)⟩::rest) acc S:=
 RT.eql (.some Ke Kf) c hx hy hd hc next
theorem QZ{j_ g_:Nat}{jv:Bool}{b:Bool}(hx:S.ev x=.sv (.v (.bool b)))(c:Bool)(hc:(!b)=c)(next:RunT P C ops nd K rest (⟨[g_]++bp x,[],[],⟨some (d,.sv (.v (.bool c))),[],[]⟩⟩::acc) (S.set d (.sv (.v (.bool c)))))(Ke:(ops[j_]?).bind (·.dst)=some g_:=by exact rfl)(Kf:S.t g_=.sv (.v (.bool jv)):=by exact rfl)(hd:d<S.n:=by exact tl Y):RunT P C ops nd K (⟨some d,.unOp .not T x,ty,pos,aft,some (j_,jv)⟩::rest) acc S:=
 RT.not (.some Ke Kf) hx hd c hc next
end
section
variable {P:Program}{C:Ctx}{ops:Array Oper}{S:AS}{nd:Bool}{K:List Ac->AS->Prop}{rest:List Oper}{acc:List Ac}
variable {gd:Option (Nat×Bool)}{rg:List Nat}{d:Nat}{ty:TypeId}{pos:String}{aft:Array Edge}{x y z:Operand}{T U E0:TypeId}
theorem mv{s:SV}(hx:S.ev x=.sv s)(next:RunT P C ops nd K rest (⟨[]++bp x,[],[],⟨some (d,.sv s),[],[]⟩⟩::acc) (S.set d (.sv s)))(hd:d<S.n:=by exact tl Y):RunT P C ops nd K (⟨some d,.move x,ty,pos,aft,none⟩::rest) acc S:=
 RT.mv .none hx hd next
theorem ag{s:SV}(hx:S.ev x=.sv s)(next:RunT P C ops nd K rest (⟨[]++bp x,[],[],⟨some (d,.sv s),[],[]⟩⟩::acc) (S.set d (.sv s)))(hd:d<S.n:=by exact tl Y):RunT P C ops nd K (⟨some d,.assign x,ty,pos,aft,none⟩::rest) acc S:=
 RT.Ma .none hx hd next
theorem cl{f:FuncId}[cZ P f]{g:Operand}{xs:Array Operand}{at_:Array TypeId}{args:List SV}{r:SV}(hp:Pure P f args r)(hargs:kf S xs.toList args)(next:RunT P C ops nd K rest (⟨[]++(bp g++xs.toList.flatMap bp),[],[],⟨some (d,.sv r),[],[]⟩⟩::acc) (S.set d (.sv r)))(hf:S.ev g=.sv (.v (.func (.func f) #[] #[])):=by exact rfl)(hd:d<S.n:=by exact tl Y):RunT P C ops nd K (⟨some d,.call ⟨.value g,xs,at_⟩,ty,pos,aft,none⟩::rest) acc S:=
 RT.call .none hp hf hargs hd next
theorem ld{n:Nat}[tA:Gv P T n]{j off:Nat}{B:vY}{cs:List SV}(hx:S.ev x=.ptr j off)(hB:S.b j=some B)(hcs:Vl B.cells off cs)(next:RunT P C ops nd K rest (⟨[]++bp x,[j],[],⟨some (d,.sv (.agg cs)),[],[]⟩⟩::acc) (S.set d (.sv (.agg cs))))(hn:cs.length=n:=by exact rfl)(hd:d<S.n:=by exact tl Y):RunT P C ops nd K (⟨some d,.load T x,ty,pos,aft,none⟩::rest) acc S:=
 RT.load .none hx hB hcs hn hd next
theorem lV[tV:zo P T]{j off:Nat}{B:vY}{s:SV}(hx:S.ev x=.ptr j off)(hB:S.b j=some B)(hn:B.cells[off]? =some (.sv s))(next:RunT P C ops nd K rest (⟨[]++bp x,[j],[],⟨some (d,.sv s),[],[]⟩⟩::acc) (S.set d (.sv s)))(hd:d<S.n:=by exact tl Y):RunT P C ops nd K (⟨some d,.load T x,ty,pos,aft,none⟩::rest) acc S:=
 RT.yx .none hx hB hn hd next
theorem fa{f off:Nat}[hf:ER P T f off U][sU:KU P U]{j o:Nat}(hx:S.ev x=.ptr j o){o':Nat}(ho':o+off=o')(next:RunT P C ops nd K rest (⟨[]++bp x,[],[],⟨some (d,.ptr j o'),[],[]⟩⟩::acc) (S.set d (.ptr j o')))(hd:d<S.n:=by exact tl Y):RunT P C ops nd K (⟨some d,.fieldAddr T x f,ty,pos,aft,none⟩::rest) acc S:=
 RT.fieldAddr .none hx hd ho' next
theorem so{n:Nat}[tA:Gv P T n]{j:Nat}{B:vY}{cs:List SV}[o1:xo cs](hx:S.ev x=.ptr j 0)(hB:S.b j=some B)(hy:S.ev y=.sv (.agg cs))(next:RunT P C ops nd K rest (⟨[]++(bp x++bp y),[j],[],⟨none,[(j,⟨B.T,cs.map AV.sv⟩)],[]⟩⟩::acc) (S.oE j ⟨B.T,cs.map AV.sv⟩))(nO:cs.length=n:=by exact rfl)(hn:B.cells.length=n:=by exact rfl):RunT P C ops nd K (⟨none,.store T x y,ty,pos,aft,none⟩::rest) acc S:=
 RT.store .none hx hB hy nO hn next
theorem ex{i:Nat}{ss:List SV}{s:SV}(hx:S.ev x=.sv (.Ca ss))(hi:ss[i]? =some s)(next:RunT P C ops nd K rest (⟨[]++bp x,[],[],⟨some (d,.sv s),[],[]⟩⟩::acc) (S.set d (.sv s)))(hd:d<S.n:=by exact tl Y):RunT P C ops nd K (⟨some d,.extract x i,ty,pos,aft,none⟩::rest) acc S:=
 RT.extract .none hx hi hd next
theorem bx{cells:List SV}(hx:S.ev x=.sv (.agg cells))(next:RunT P C ops nd K rest (⟨[]++bp x,[d],[],⟨some (d,.ptr d 0),[(d,⟨T,cells.map AV.sv⟩)],[]⟩⟩::acc) ((S.oE d ⟨T,cells.map AV.sv⟩).set d (.ptr d 0)))(hd:d<S.n:=by exact tl Y)(hb:S.b d=none:=by exact rfl)(hp:C.kV d=none:=by exact rfl):RunT P C ops nd K (⟨some d,.box T x,ty,pos,aft,none⟩::rest) acc S:=
 RT.box .none hx hd hb hp next
theorem lr[tV:zo P T]{cells:List SV}{s:SV}(hx:S.ev x=.sv (ref cells))(hn:cells[0]? =some s)(next:RunT P C ops nd K rest (⟨[]++bp x,[],[],⟨some (d,.sv s),[],[]⟩⟩::acc) (S.set d (.sv s)))(hd:d<S.n:=by exact tl Y):RunT P C ops nd K (⟨some d,.load T x,ty,pos,aft,none⟩::rest) acc S:=
 RT.fX .none hx hn hd next
theorem cB{f:FuncId}[cZ P f]{g:Operand}{xs:Array Operand}{at_:Array TypeId}{args:List SV}{T:TypeId}{c0 c1:List SV}{res:SV}(hp:ZY P f args T c0 res c1)(j:Nat)(hB:S.b j=some ⟨T,c0.map AV.sv⟩)(hargs:kf S xs.toList args)(next:RunT P C ops nd K rest (⟨[]++(bp g++xs.toList.flatMap bp),[j],[],⟨some (d,.sv res),[(j,⟨T,c1.map AV.sv⟩)],[]⟩⟩::acc) ((AS.iQ [(j,⟨T,c1.map AV.sv⟩)] S).set d (.sv res)))(hf:S.ev g=.kU f [.box j]:=by exact rfl)(hd:d<S.n:=by exact tl Y):RunT P C ops nd K (⟨some d,.call ⟨.value g,xs,at_⟩,ty,pos,aft,none⟩::rest) acc S:=
 RT.aii .none hp j hB hf hargs hd next
theorem cN{f:FuncId}[cZ P f]{g:Operand}{xs:Array Operand}{at_:Array TypeId}{args:List SV}{R:Row}(hp:Gy P f args R)(hargs:kf S xs.toList args)(next:RunT P C ops nd K rest (⟨[]++(bp g++xs.toList.flatMap bp),[],[d],⟨some (d,.row d),[],[(d,.live R)]⟩⟩::acc) ((AS.cO [(d,.live R)] S).set d (.row d)))(hf:S.ev g=.sv (.v (.func (.func f) #[] #[])):=by exact rfl)(hd:d<S.n:=by exact tl Y)(uF:S.r d=.un:=by exact rfl)(Cn:d<1000:=by exact tl Y):RunT P C ops nd K (⟨some d,.call ⟨.value g,xs,at_⟩,ty,pos,aft,none⟩::rest) acc S:=
 RT.aih .none hp hf hargs hd uF Cn next
theorem gm{j_ g_:Nat}{jv:Bool}{s:SV}(hx:S.ev x=.sv s)(next:RunT P C ops nd K rest (⟨[g_]++bp x,[],[],⟨some (d,.sv s),[],[]⟩⟩::acc) (S.set d (.sv s)))(Ke:(ops[j_]?).bind (·.dst)=some g_:=by exact rfl)(Kf:S.t g_=.sv (.v (.bool jv)):=by exact rfl)(hd:d<S.n:=by exact tl Y):RunT P C ops nd K (⟨some d,.move x,ty,pos,aft,some (j_,jv)⟩::rest) acc S:=
 RT.mv (.some Ke Kf) hx hd next
theorem gl{j_ g_:Nat}{jv:Bool}{n:Nat}[tA:Gv P T n]{j off:Nat}{B:vY}{cs:List SV}(hx:S.ev x=.ptr j off)(hB:S.b j=some B)(hcs:Vl B.cells off cs)(next:RunT P C ops nd K rest (⟨[g_]++bp x,[j],[],⟨some (d,.sv (.agg cs)),[],[]⟩⟩::acc) (S.set d (.sv (.agg cs))))(Ke:(ops[j_]?).bind (·.dst)=some g_:=by exact rfl)(Kf:S.t g_=.sv (.v (.bool jv)):=by exact rfl)(hn:cs.length=n:=by exact rfl)(hd:d<S.n:=by exact tl Y):RunT P C ops nd K (⟨some d,.load T x,ty,pos,aft,some (j_,jv)⟩::rest) acc S:=
 RT.load (.some Ke Kf) hx hB hcs hn hd next
theorem gc{j_ g_:Nat}{jv:Bool}{f:FuncId}[cZ P f]{g:Operand}{xs:Array Operand}{at_:Array TypeId}{args:List SV}{r:SV}(hp:Pure P f args r)(hargs:kf S xs.toList args)(next:RunT P C ops nd K rest (⟨[g_]++(bp g++xs.toList.flatMap bp),[],[],⟨some (d,.sv r),[],[]⟩⟩::acc) (S.set d (.sv r)))(Ke:(ops[j_]?).bind (·.dst)=some g_:=by exact rfl)(Kf:S.t g_=.sv (.v (.bool jv)):=by exact rfl)(hf:S.ev g=.sv (.v (.func (.func f) #[] #[])):=by exact rfl)(hd:d<S.n:=by exact tl Y):RunT P C ops nd K (⟨some d,.call ⟨.value g,xs,at_⟩,ty,pos,aft,some (j_,jv)⟩::rest) acc S:=
 RT.call (.some Ke Kf) hp hf hargs hd next
theorem gr{j_ g_:Nat}{jv:Bool}[tV:zo P T]{cells:List SV}{s:SV}(hx:S.ev x=.sv (ref cells))(hn:cells[0]? =some s)(next:RunT P C ops nd K rest (⟨[g_]++bp x,[],[],⟨some (d,.sv s),[],[]⟩⟩::acc) (S.set d (.sv s)))(Ke:(ops[j_]?).bind (·.dst)=some g_:=by exact rfl)(Kf:S.t g_=.sv (.v (.bool jv)):=by exact rfl)(hd:d<S.n:=by exact tl Y):RunT P C ops nd K (⟨some d,.load T x,ty,pos,aft,some (j_,jv)⟩::rest) acc S:=
 RT.fX (.some Ke Kf) hx hn hd next
end
section
variable {P:Program}{C:Ctx}{ops:Array Oper}{S:AS}{nd:Bool}{K:List Ac->AS->Prop}{rest:List Oper}{acc:List Ac}
variable {gd:Option (Nat×Bool)}{rg:List Nat}{d:Nat}{ty:TypeId}{pos:String}{aft:Array Edge}{x y z:Operand}{T U E0:TypeId}
variable {l l' k:Zx}
theorem ww{op:Op}{j g:Nat}{b want:Bool}(next:RunT P C ops nd K rest (⟨[g],[],[],⟨some (d,.sv (.v undef)),[],[]⟩⟩::acc) (S.set d (.sv (.v undef))))(h1:(ops[j]?).bind (·.dst)=some g:=by exact rfl)(h2:S.t g=.sv (.v (.bool b)):=by exact rfl)(hb:b≠want:=by exact sk Y)(hd:d<S.n:=by exact tl Y):RunT P C ops nd K (⟨some d,op,ty,pos,aft,some (j,want)⟩::rest) acc S:=
 RT.skV h1 h2 hb hd next
theorem wu{op:Op}{j g:Nat}{want:Bool}(next:RunT P C ops nd K rest (⟨[g],[],[],⟨some (d,.sv (.v undef)),[],[]⟩⟩::acc) (S.set d (.sv (.v undef))))(h1:(ops[j]?).bind (·.dst)=some g:=by exact rfl)(h2:S.t g=.sv (.v undef):=by exact rfl)(hd:d<S.n:=by exact tl Y):RunT P C ops nd K (⟨some d,op,ty,pos,aft,some (j,want)⟩::rest) acc S:=
 RT.aix h1 h2 hd next
end
section
variable {P:Program}{C:Ctx}{ops:Array Oper}{S:AS}{nd:Bool}{K:List Ac->AS->Prop}{rest:List Oper}{acc:List Ac}
variable {gd:Option (Nat×Bool)}{rg:List Nat}{d:Nat}{ty:TypeId}{pos:String}{aft:Array Edge}{x y z:Operand}{T U E0:TypeId}
variable {α:Type}{l l' k:List α}{e:α->List SV}{n by_:Nat}{zv:Value}
theorem ln{m:Nat}[tS:gU P T E0 m]{c:Int}(hx:S.ev x=.sv (slc n (l.map e)))(hc:(l.length:Int)=c)(next:RunT P C ops nd K rest (⟨[]++bp x,[],[],⟨some (d,.sv (.v (.int .i64 c))),[],[]⟩⟩::acc) (S.set d (.sv (.v (.int .i64 c)))))(hd:d<S.n:=by exact tl Y):RunT P C ops nd K (⟨some d,.call ⟨.builtin .len,#[x],#[T]⟩,ty,pos,aft,none⟩::rest) acc S:=
 RT.aiv .none hx hd hc next
theorem al[tz:mK P T zv]{cs:List SV}(hi:cg (zv.cells.toList.map SV.v) cs){av:List AV}(hav:cs.map AV.sv=av)(next:RunT P C ops nd K rest (⟨[]++[],[d],[],⟨some (d,.ptr d 0),[(d,⟨T,av⟩)],[]⟩⟩::acc) ((S.oE d ⟨T,av⟩).set d (.ptr d 0)))(hd:d<S.n:=by exact tl Y)(hb:S.b d=none:=by exact rfl)(hp:C.kV d=none:=by exact rfl):RunT P C ops nd K (⟨some d,.alloc T,ty,pos,aft,none⟩::rest) acc S:=
 RT.CQ .none hi hav hd hb hp next
theorem ix[tS:gU P T E0 n]{kk:IntKind}{i:Int}{a:α}(hx:S.ev x=.sv (slc n (l.map e)))(hy:S.ev y=.sv (.v (.int kk i)))(ha:cL l i=some a)(next:RunT P C ops nd K rest (⟨[]++(bp x++bp y),[],[],⟨some (d,.sv (ref (e a))),[],[]⟩⟩::acc) (S.set d (.sv (ref (e a)))))(hd:d<S.n:=by exact tl Y):RunT P C ops nd K (⟨some d,.indexAddr T x y,ty,pos,aft,none⟩::rest) acc S:=
 RT.Ug .none hx hy hd ha next
theorem bl[tS:gU P T E0 n][tE:nT P E0 n by_ zv]{len:Nat}{parts:Array (Nat×Operand)}{qs:List (Nat×List SV)}(hp:uY S parts.toList qs)(hc:yc 0 qs=true)(hl:qs.length=len)(hsz:(qs.all λq=>Nat.beq q.2.length n)=true)(hlen:Nat.ble (len*n) 16777216=true)(Ub:(zv.cells.toList.all λv=>v.oneCell')=true)(nU:qs.map (·.2)=l.map e)(next:RunT P C ops nd K rest (⟨[]++qV parts.toList,[],[],⟨some (d,.sv (slc n (l.map e))),[],[]⟩⟩::acc) (S.set d (.sv (slc n (l.map e)))))(hd:d<S.n:=by exact tl Y):RunT P C ops nd K (⟨some d,.buildSlice T len parts,ty,pos,aft,none⟩::rest) acc S:=
 RT.jn .none hp hd hc hl hsz hlen Ub nU next
theorem iR[tS:gU P T E0 n]{i j:Nat}{E1:TypeId}{kk:IntKind}{v:Int}(hx:S.ev x=.row i)(hR:S.r i=.live (TR E1 n e l))(hy:S.ev y=.sv (.v (.int kk v)))(h:kW l v=some j)(next:RunT P C ops nd K rest (⟨[]++(bp x++bp y),[],[i],⟨some (d,.nC i (j*n)),[],[]⟩⟩::acc) (S.set d (.nC i (j*n))))(hd:d<S.n:=by exact tl Y):RunT P C ops nd K (⟨some d,.indexAddr T x y,ty,pos,aft,none⟩::rest) acc S:=
 RT.Ou .none hx hR hy hd h next
theorem aI{s X:SV}(hx:S.ev x=.sv s)(hi:SV.imp s X)(next:RunT P C ops nd K rest (⟨[]++bp x,[],[],⟨some (d,.sv X),[],[]⟩⟩::acc) (S.set d (.sv X)))(hd:d<S.n:=by exact tl Y):RunT P C ops nd K (⟨some d,.assign x,ty,pos,aft,none⟩::rest) acc S:=
 RT.amo .none hx hi hd next
theorem bI{pl:List (Nat×Nat)}{zc:List Value}[tP:lM P T pl zc]{parts:Array (Nat×Operand)}{qs:List (Nat×List SV)}(hp:uY S parts.toList qs){cs cs':List SV}(hi:cg cs cs')(next:RunT P C ops nd K rest (⟨[]++qV parts.toList,[],[],⟨some (d,.sv (.agg cs')),[],[]⟩⟩::acc) (S.set d (.sv (.agg cs'))))(hf:Co (λi=>pl[i]?) (zc.map SV.v) qs=some cs:=by exact rfl)(hd:d<S.n:=by exact tl Y):RunT P C ops nd K (⟨some d,.build T parts,ty,pos,aft,none⟩::rest) acc S:=
 RT.aeF .none hp hf hi hd next
theorem lR[tV:zo P T][el:EL e 1]{i j:Nat}{E1:TypeId}{a:α}{s:SV}(hx:S.ev x=.nC i (j*1))(hR:S.r i=.live (TR E1 1 e l))(ha:l[j]? =some a)(hs:e a=[s])(next:RunT P C ops nd K rest (⟨[]++bp x,[],[i],⟨some (d,.sv s),[],[]⟩⟩::acc) (S.set d (.sv s)))(hd:d<S.n:=by exact tl Y):RunT P C ops nd K (⟨some d,.load T x,ty,pos,aft,none⟩::rest) acc S:=
 RT.Mi .none hx hR ha hs hd next
theorem aR[tS:gU P T E0 n][tE:nT P E0 n by_ zv]{i:Nat}(hx:S.ev x=.row i)(hR:S.r i=.live (TR E0 n e l))(hy:S.ev y=.sv (slc n (k.map e)))(h:nD by_ l k=some l')(next:RunT P C ops nd K rest (⟨[]++(bp x++bp y),[],[i,d],⟨some (d,.row d),[],[(i,.dead),(d,.live (TR E0 n e l'))]⟩⟩::acc) ((AS.cO [(i,.dead),(d,.live (TR E0 n e l'))] S).set d (.row d)))(hd:d<S.n:=by exact tl Y)(uF:S.r d=.un:=by exact rfl)(Cn:d<1000:=by exact tl Y):RunT P C ops nd K (⟨some d,.call ⟨.builtin .append,#[x,y],#[T,T]⟩,ty,pos,aft,none⟩::rest) acc S:=
 RT.apR .none hx hR hy hd uF Cn h next
theorem sR[tV:zo P T][el:EL e 1]{i j:Nat}{E1:TypeId}{s:SV}[o1:One s](a:α)(hs:e a=[s])(hx:S.ev x=.nC i (j*1))(hR:S.r i=.live (TR E1 1 e l))(hy:S.ev y=.sv s)(h:stM l j a=some l')(next:RunT P C ops nd K rest (⟨[]++(bp x++bp y),[],[i],⟨none,[],[(i,.live (TR E1 1 e l'))]⟩⟩::acc) (AS.cO [(i,.live (TR E1 1 e l'))] S)):RunT P C ops nd K (⟨none,.store T x y,ty,pos,aft,none⟩::rest) acc S:=
 RT.amq .none a hs hx hR hy h next
theorem sA[tA:Gv P T n][el:EL e n]{i j:Nat}{E1:TypeId}(a:α)(hx:S.ev x=.nC i (j*n))(hR:S.r i=.live (TR E1 n e l))(hy:S.ev y=.sv (.agg (e a)))(h:stM l j a=some l')(next:RunT P C ops nd K rest (⟨[]++(bp x++bp y),[],[i],⟨none,[],[(i,.live (TR E1 n e l'))]⟩⟩::acc) (AS.cO [(i,.live (TR E1 n e l'))] S)):RunT P C ops nd K (⟨none,.store T x y,ty,pos,aft,none⟩::rest) acc S:=
 RT.aiw .none a hx hR hy h next
theorem lL{m:Nat}[tS:gU P T E0 m]{i:Nat}{E1:TypeId}{c:Int}(hx:S.ev x=.row i)(hR:S.r i=.live (TR E1 n e l))(hc:(l.length:Int)=c)(next:RunT P C ops nd K rest (⟨[]++bp x,[],[i],⟨some (d,.sv (.v (.int .i64 c))),[],[]⟩⟩::acc) (S.set d (.sv (.v (.int .i64 c)))))(hd:d<S.n:=by exact tl Y):RunT P C ops nd K (⟨some d,.call ⟨.builtin .len,#[x],#[T]⟩,ty,pos,aft,none⟩::rest) acc S:=
 RT.Oo .none hx hR hd hc next
theorem cR{f:FuncId}[cZ P f]{g:Operand}{xs:Array Operand}{at_:Array TypeId}{args:List AV}{E1:TypeId}{res:AV}(hp:QO P f args (TR E1 n e l) res (l'.flatMap e))(hlen:l'.length=l.length)(i:Nat)(hR:S.r i=.live (TR E1 n e l))(hargs:CJ S xs.toList (args.map (AV.F1 i)))(next:RunT P C ops nd K rest (⟨[]++(bp g++xs.toList.flatMap bp),[],[i],⟨some (d,res.F1 i),[],[(i,.live (TR E1 n e l'))]⟩⟩::acc) ((AS.cO [(i,.live (TR E1 n e l'))] S).set d (res.F1 i)))(hrow:args.all AV.E5=true:=by exact rfl)(hres:res.E5=true:=by exact rfl)(hf:S.ev g=.sv (.v (.func (.func f) #[] #[])):=by exact rfl)(hd:d<S.n:=by exact tl Y):RunT P C ops nd K (⟨some d,.call ⟨.value g,xs,at_⟩,ty,pos,aft,none⟩::rest) acc S:=
 RT.aeK .none hp hlen i hR hrow hres hf hargs hd next
theorem gn{j_ g_:Nat}{jv:Bool}{m:Nat}[tS:gU P T E0 m]{c:Int}(hx:S.ev x=.sv (slc n (l.map e)))(hc:(l.length:Int)=c)(next:RunT P C ops nd K rest (⟨[g_]++bp x,[],[],⟨some (d,.sv (.v (.int .i64 c))),[],[]⟩⟩::acc) (S.set d (.sv (.v (.int .i64 c)))))(Ke:(ops[j_]?).bind (·.dst)=some g_:=by exact rfl)(Kf:S.t g_=.sv (.v (.bool jv)):=by exact rfl)(hd:d<S.n:=by exact tl Y):RunT P C ops nd K (⟨some d,.call ⟨.builtin .len,#[x],#[T]⟩,ty,pos,aft,some (j_,jv)⟩::rest) acc S:=
 RT.aiv (.some Ke Kf) hx hd hc next
end
section
variable {P:Program}{C:Ctx}{ops:Array Oper}{S:AS}{nd:Bool}{K:List Ac->AS->Prop}{rest:List Oper}{acc:List Ac}
variable {gd:Option (Nat×Bool)}{rg:List Nat}{d:Nat}{ty:TypeId}{pos:String}{aft:Array Edge}{x y z:Operand}{T U E0 E1:TypeId}
theorem fl{f off:Nat}[hf:ER P T f off U][tV:zo P U]{cs:List SV}{s:SV}(hx:S.ev x=.sv (.agg cs))(hs:cs[off]? =some s)(next:RunT P C ops nd K rest (⟨[]++bp x,[],[],⟨some (d,.sv s),[],[]⟩⟩::acc) (S.set d (.sv s)))(hd:d<S.n:=by exact tl Y):RunT P C ops nd K (⟨some d,.field T x f,ty,pos,aft,none⟩::rest) acc S:=
 RT.field .none hx hs hd next
end
end
end Go.Fw.Z
namespace Go.Fw
section
open Go.RowKit
def Mem.fr(M:Mem)(N:Nat):Mem:=λb o=>if N<=b then M b o else none
theorem Mem.aiF(M:Mem)(N:Nat):(M.fr N).le M:=λb o v h=>by
 unfold Mem.fr at h;split at h
 ·exact h
 cases h
theorem Mem.SS{M M':Mem}(h:M.le M')(N:Nat):(M.fr N).le (M'.fr N):=λb o v e=>by
 unfold Mem.fr at*;split at e
 ·rename_i hn;rw[if_pos hn];exact h b o v e
 cases e
theorem Mem.Wb(M:Mem)(N:Nat):(M.fr N).fr N=M.fr N:=by
 funext b o;unfold Mem.fr;split<;>rfl
def nw(N:Nat)(s:SV):SV:=⟨λM v=>s.h (M.fr N) v/\∀g,v.ownBlock=some g->∃o,M.fr N g o=some (.agg #[]),λhM h=>⟨s.mono (Mem.SS hM N) h.1,λg e=>by obtain⟨o,q⟩:=h.2 g e;exact⟨o,Mem.SS hM N _ _ _ q⟩⟩⟩
theorem fN{N:Nat}{s:SV}:SV.imp (nw N s) s:=λM _ h=>s.mono (Mem.aiF M N) h.1
instance{N:Nat}{s:SV}{n:Nat}[h:Len s n]:Len (nw N s) n:=⟨λM v hv=>h.h M v (fN M v hv)⟩
instance{N:Nat}{s:SV}{n:Nat}{rows:List (List SV)}[h:ZR s n rows]:ZR (nw N s) n rows:=⟨λM v hv=>h.h M v (fN M v hv)⟩
instance{N:Nat}{s:SV}{n sz:Nat}{f:Nat->Nat->SV}[h:Sub s n sz f]:Sub (nw N s) n sz (λa b=>nw N (f a b)):=⟨λM v hv=>by
 obtain⟨a,c,e,hc,hs⟩:=h.h (M.fr N) v hv.1;refine⟨a,c,e,hc,λlo hi h1 h2=>⟨hs lo hi h1 h2,λg hg=>hv.2 g ?_⟩⟩;subst e;cases a with
 |none=>split at hg<;>cases hg
 |some a=>
  split at hg
  ·exact hg
  have e:(a.add (lo*sz)).block=a.block:=by unfold Addr.add;split<;>rfl
  rw[show(Value.slice (Option.map (λx=>x.add (lo*sz)) (some a)) (hi-lo) (c-lo)).ownBlock=some (a.add (lo*sz)).block from rfl,e]at hg;exact hg⟩
instance{N:Nat}{s:SV}[h:One s]:One (nw N s):=⟨λM v hv=>h.h _ v hv.1⟩
class Sup (N:Nat) (s:SV):Prop where
 h:∀M v,s.h M v->s.h (M.fr N) v
instance{N:Nat}{x:Value}:Sup N (.v x):=⟨λ_ _ h=>h⟩
instance{N:Nat}{s:SV}:Sup N (nw N s):=⟨λM v h=>by show s.h ((M.fr N).fr N) v/\∀g,v.ownBlock=some g->∃o,(M.fr N).fr N g o=some (.agg #[]);rw[Mem.Wb];exact h⟩
class aag (N:Nat) (l:List SV):Prop where
 h:∀s∈l,∀M v,s.h M v->s.h (M.fr N) v
instance{N:Nat}:aag N []:=⟨λs h=>by cases h⟩
instance{N:Nat}{s:SV}{l:List SV}[a:Sup N s][b:aag N l]:aag N (s::l):=⟨λt ht=>by
 rcases List.mem_cons.1 ht with rfl|ht
 ·exact a.h
 exact b.h t ht⟩
class Mm (N:Nat) {α:Type} (e:α->List SV):Prop where
 h:∀x,aag N (e x)
instance{N:Nat}:Mm N bh:=⟨λ_=>inferInstance⟩
instance{N:Nat}:Mm N bD:=⟨λ_=>inferInstance⟩
abbrev fZ(N:Nat)(z:Zr):List SV:=[.v (.bool z.neg),nw N (slc 1 (z.w.map bh))]
abbrev fQ(N:Nat)(q:Qr):List SV:=[.v (.bool q.num.neg),nw N (slc 1 (q.num.w.map bh)),.v (.bool q.den.neg),nw N (slc 1 (q.den.w.map bh))]
instance{N:Nat}:EL (fQ N) 4:=⟨λ_=>rfl,λ_=>inferInstance⟩
instance{N:Nat}:Mm N (fQ N):=⟨λ_=>inferInstance⟩
theorem bu{α:Type}{N n:Nat}{e:α->List SV}:SV.imp (.v (.slice none 0 0)) (nw N (slc n (([]:List α).map e))):=λ_ _ h=>⟨.inl ⟨none,h,rfl⟩,λg e=>by rw[show _=Value.slice none 0 0 from h]at e;cases e⟩
theorem SU{α:Type}{n:Nat}{e e':α->List SV}(h:∀x,cg (e' x) (e x))(l:List α):SV.imp (slc n (l.map e')) (slc n (l.map e)):=by
 rintro M v (⟨a,h1,h2⟩|⟨b,o,c,h1,h2,h3,h4⟩)
 ·exact .inl ⟨a,h1,by have:=List.map_eq_nil_iff.1 h2;rw[this];rfl⟩
 refine .inr ⟨b,o,c,by simpa using h1,by simpa using h2,by simpa using h3,λi row hr=>?_⟩;rw[List.getElem?_map]at hr;cases hx:l[i]? with
 |none=>rw[hx]at hr;cases hr
 |some x=>
  rw[hx]at hr;have hr:e x=row:=Option.some.inj hr;subst hr;obtain⟨g1,g2⟩:=h4 i (e' x) (by rw[List.getElem?_map,hx];rfl);refine⟨by rw[cg.len (h x)];exact g1,λk s hs=>?_⟩;obtain⟨s2,ES,hi⟩:=cg.get (h x) hs;obtain⟨y,hy,ho,hh⟩:=g2 k s2 ES;exact⟨y,hy,ho,hi M y hh⟩
theorem zI(N:Nat)(z:Zr):cg (fZ N z) (eZ z):=⟨au,fN,aq⟩
theorem qI(N:Nat)(q:Qr):cg (fQ N q) (eQ q):=⟨au,fN,au,fN,aq⟩
theorem Ui{N:Nat}{l:List Qr}:SV.imp (nw N (slc 4 (l.map (fQ N)))) (slc 4 (l.map eQ)):=λM v h=>SU (qI N) l M v (fN M v h)
theorem Mn{N n:Nat}{α:Type}{e:α->List SV}[he:Mm N e]{l:List α}{M:Mem}{v:Value}(h:(slc n (l.map e)).h M v)(hb:∀g,v.ownBlock=some g->N<=g/\∃o,M g o=some (.agg #[])):(nw N (slc n (l.map e))).h M v:=by
 refine⟨?_,λg hg=>by obtain⟨h1,o,h2⟩:=hb g hg;exact⟨o,by unfold Mem.fr;rw[if_pos h1];exact h2⟩⟩;rcases h with⟨a,h1,h2⟩|⟨b,o,c,h1,h2,h3,h4⟩
 ·exact .inl ⟨a,h1,h2⟩
 have hN:N<=b:=(hb b (by rw[h1];rfl)).1;refine .inr ⟨b,o,c,h1,h2,h3,λi row hr=>⟨(h4 i row hr).1,λk s hs=>?_⟩⟩;obtain⟨y,hy,ho,hh⟩:=(h4 i row hr).2 k s hs;refine⟨y,by unfold Mem.fr;rw[if_pos hN];exact hy,ho,?_⟩;rw[List.getElem?_map]at hr;cases hx:l[i]? with
 |none=>rw[hx]at hr;cases hr
 |some x=>
  rw[hx]at hr;have hr:e x=row:=Option.some.inj hr;subst hr;exact(he.h x).h s (List.mem_of_getElem? hs) M y hh
section
variable {P:Program}{C:Ctx}{S:AS}{Q:Exit->AS->Prop}
theorem bC.aah{E:Env}{a:Act}{w:World}(h:bC C S E a w)(vs:List Value)(T:TypeId)(hone:∀v∈vs,v.oneCell'=true):bC C S {E with M:=λb o=>if b=w.heap.size then(vs++[.agg #[]])[o]? else E.M b o} a (w.alloc (.cells ⟨vs⟩ T)):=by
 have hno:∀o,E.M w.heap.size o=none:=λo=>by
  cases e:E.M w.heap.size o with
  |none=>rfl
  |some v=>have:=uJ h.ep e;omega
 refine h.grow (λb o v e=>?_) (λb o v e=>?_) (λb o v e=>?_) (((Below.refl _ _).alloc (Nat.le_refl _) _))
 ·have:b≠w.heap.size:=by rintro rfl;rw[hno o]at e;cases e
  simp[this,e]
 ·by_cases hb:b=w.heap.size
  ·exact .inr (by omega)
  simp only[if_neg hb]at e;exact .inl e
 by_cases hb:b=w.heap.size
 ·subst hb;simp only[if_true]at e;by_cases ho:o<vs.length
  ·rw[List.getElem?_append_left ho]at e;refine .of ?_ (hone v (List.mem_of_getElem? e));rw[World.cell?_alloc_new];simpa using e
  rw[List.getElem?_append_right (by omega)]at e;cases SW:o-vs.length with
  |succ k=>rw[SW]at e;simp at e
  |zero=>
   rw[SW]at e;simp at e;subst e;exact⟨⟨vs⟩,T,by show(w.heap.push _)[w.heap.size]? =_;rw[Array.getElem?_push,if_pos rfl]⟩
 simp only[if_neg hb]at e;refine(h.ep b o v e).same ?_;show(w.heap.push _)[b]? =_;rw[Array.getElem?_push,if_neg hb]
theorem lB{c:Code}{i n N:Nat}{E1:TypeId}{α:Type}{e:α->List SV}{l:List α}[el:EL e n][he:Mm N e](hN:N<=C.w0.heap.size)(hb:∀k,¬C.BK k)(hR:S.r i=.live (TR E1 n e l))(hk:Ok P C c (S.uX i (nw N (slc n (l.map e)))) Q):Ok P C c S Q:=λa w hs=>by
 obtain⟨E,h⟩:=hs;have hlen:l.length<=9223372036854775807:=by
  obtain⟨⟨vs,ho,hv⟩,_⟩:=h.rx i _ hR;rcases ho.2 with⟨_,q2⟩|⟨g',cap,cur,q1,_,q2,q3,q4,q5,q6⟩
  ·have q2:l.length=0:=q2;omega
  have q3:l.length<=cap:=q3;have:maxLen=9223372036854775807:=by decide
  omega
 exact hk a w (h.uX hR (wh l) (by rw[List.length_map]) hlen (qt l) (λM v hv hg=>Mn hv (λg e=>⟨(hg g e).1.elim (λq=>Nat.le_trans hN q) (λq=>absurd q (hb g)),(hg g e).2⟩)))
def dK(P:Program)(f:FuncId)(N:Nat)(args:List SV)(r:SV):Prop:=
 ∀(M:Mem) (w:World) (vs:List Value),N<=w.heap.size->M.ep w->SV.gw M args vs->
  Calls P f ⟨vs⟩ w λe w'=>∃v M',e=.returned v/\M.le M'/\(∀b o x,M' b o=some x->M b o=some x\/w.heap.size<=b)/\M'.ep w'/\r.h M' v/\Below w.heap.size w w'
theorem dK.w{f:FuncId}{N:Nat}{args args':List SV}{r:SV}(h:dK P f N args r)(hi:cg args' args):dK P f N args' r:=λM w vs hN hM hv=>h M w vs hN hM (hi.holds hv)
theorem bU{f:FuncId}{fn:Func}{code:Code}{N:Nat}{args:List SV}{r:SV}(hf:P.funcs[f]? =some fn)(hb:fn.body=some code)(hn:args.length<=fn.ntmps)
  (h:∀(w:World) (M:Mem) (vs:List Value),N<=w.heap.size->SV.gw M args vs->Ok P (Oa w M) code (AS.init fn.ntmps args) (λe S=>(e=.normal\/e=.ret)/\VF P S fn.results.toList r)):dK P f N args r:=by
 intro M w vs hN hM hvs;refine(callsIn_wide (n:=0)).1 (callsIn_of_wp_marks (F:=Fence.wide) hf hb trivial ?_);refine wpIn_mono (h w M vs hN hvs _ w ⟨_,pU hM hvs hn⟩) ?_;rintro e a' w' ⟨S',⟨he,ss,hss,himp⟩,E,hh⟩;have key:LeavesInM Fence.wide 0 P fn a'.tmps (λe w'=>∃v M',e=.returned v/\M.le M'/\(∀b o x,M' b o=some x->M b o=some x\/w.heap.size<=b)/\M'.ep w'/\r.h M' v/\Below w.heap.size w w') a'.defers .returning w':=by
  obtain⟨ds,h1,h2,h3⟩:=hh.marks;rw[h1];refine vz ds w' h2 (λr hr=>(h3 r hr).2.2) (λw2 g1 g2 g3 g4 g5=>?_);have J7:=hh.HN h3 g1 g2 g3 g4 g5;obtain⟨v,hv,hs⟩:=L7 J7 hss;refine⟨v,hv,v,E.M,Y,J7.m0,λb o x e=>?_,J7.ep,himp _ _ hs,J7.os,J7.tape,J7.output,J7.grown,λk hk=>J7.frame k hk (λh=>h)⟩;rcases J7.gS b o x e with h|h|h
  ·exact .inl h
  ·exact .inr h
  exact h.elim
 rcases he with rfl|rfl
 ·exact key
 exact key
theorem aai{f:FuncId}{N:Nat}{args:List SV}{E1:TypeId}{n:Nat}{α:Type}{e:α->List SV}{l:List α}[el:EL e n][he:Mm N e](hp:Gy P f args (TR E1 n e l)):dK P f N args (nw N (slc n (l.map e))):=by
 intro M w vs hN hM hvs;refine(hp M w vs hM hvs).mono ?_;rintro ex w' ⟨v,M',us,rfl,hle,hnew,hin,hown,G0,pV,aiG⟩;have nU:Rows n (l.map e) (l.flatMap e):=wh l;have nO:=AL nU;rcases hown.2 with⟨h1,h2⟩|⟨g,cap,cur,h1,_,h2,h3,_,h5,h6⟩
 ·exact⟨v,M',rfl,hle,hnew,hin,⟨.inl ⟨none,h1,by have h2:l.length=0:=h2;rw[List.length_eq_zero_iff.1 h2];rfl⟩,λg e=>by rw[h1]at e;cases e⟩,aiG⟩
 have hg:v.ownBlock=some g:=by rw[h1];rfl
 obtain⟨hge,hno⟩:=pV g hg;have h3:l.length<=cap:=h3;have as7:maxLen=9223372036854775807:=by decide
 refine⟨v,λb o=>if b=g/\o<l.length*n then us[o]? else if b=g/\o=l.length*n then some (.agg #[])else M' b o,Y,λb o x q=>?_,λb o x q=>?_,λb o x q=>?_,?_,aiG⟩
 ·have:=hle b o x q;have:b≠g:=by rintro rfl;rw[hno o]at this;cases this
  simp[this];assumption
 ·simp only at q;split at q
  ·rename_i hc;exact .inr (by rw[hc.1];exact hge)
  split at q
  ·rename_i hc;exact .inr (by rw[hc.1];exact hge)
  exact hnew b o x q
 ·simp only at q;split at q
  ·rename_i hc;obtain⟨rfl,N9⟩:=hc;refine .of ?_ (qt l _ _ G0 x (List.mem_of_getElem? q));simp only[World.cell?,h2];have h6:cur.toList.take (l.length*n)=us:=h6;rw[<-h6,List.getElem?_take,if_pos N9]at q;simpa using q
  split at q
  ·rename_i hc;cases q;rw[hc.1];exact⟨_,_,h2⟩
  exact hin b o x q
 refine Mn ?_ (λg' e'=>by rw[hg]at e';cases e';exact⟨Nat.le_trans hN hge,l.length*n,by simp⟩);refine .inr ⟨g,0,cap,by rw[h1,List.length_map],by rw[List.length_map];exact h3,by rw[List.length_map];omega,λk row hk=>?_⟩;obtain⟨q1,q2⟩:=yA nU k row hk;refine⟨q1,λj s hs=>?_⟩;have ES:=q2 j s hs;obtain⟨y,hy,hys⟩:=G0.get ES;have hlt:k*n+j<l.length*n:=by
  have:=(List.getElem?_eq_some_iff.1 ES).1;rw[nO,List.length_map]at this;exact this
 refine⟨y,by simp[hlt,hy],qt l _ _ G0 y (List.mem_of_getElem? hy),s.mono (λb o x q=>?_) hys⟩;have:b≠g:=by rintro rfl;rw[hno o]at q;cases q
 simp[this,q]
end
section
variable {P:Program}{C:Ctx}{ops:Array Oper}{S:AS}{nd:Bool}{K:List Ac->AS->Prop}{rest:List Oper}{acc:List Ac}
variable {gd:Option (Nat×Bool)}{rg:List Nat}{d:Nat}{ty:TypeId}{pos:String}{aft:Array Edge}{x y z:Operand}{T U E0:TypeId}
variable {α:Type}{l l' k:List α}{e:α->List SV}{n by_ N:Nat}{zv:Value}
theorem RT.bZ(hg:Gd ops S gd rg){f:FuncId}[cZ P f]{g:Operand}{xs:Array Operand}{at_:Array TypeId}{args:List SV}{r:SV}(hp:dK P f N args r)(hN:N<=C.w0.heap.size)(hf:S.ev g=.sv (.v (.func (.func f) #[] #[])))(hargs:kf S xs.toList args)(hd:d<S.n)
  (next:RunT P C ops nd K rest (⟨rg++(bp g++xs.toList.flatMap bp),[],[],⟨some (d,.sv r),[],[]⟩⟩::acc) (S.set d (.sv r))):RunT P C ops nd K (⟨some d,.call ⟨.value g,xs,at_⟩,ty,pos,aft,gd⟩::rest) acc S:=by
 refine .inl ⟨_,[],[],_,?_,next⟩;rintro S' hn ht _ _ i a w L Q ho ⟨E,h⟩ hL;refine dy (C:=C) ho (hg.wanted h (λs hs=>ht s (List.mem_append_left _ hs)) Y) ?_;have AJ:a.eval g=.func (.func f) #[] #[]:=by
  have h1:=h.ev g;rw[bQ (λ_ h=>List.mem_append_right _ (List.mem_append_left _ h)) ht,hf]at h1;exact h1
 have hall:=kf.vals h hargs (λs hs=>ht s (List.mem_append_right _ (List.mem_append_right _ hs)));have hr:(execOp a.eval ⟨some d,.call ⟨.value g,xs,at_⟩,ty,pos,aft,gd⟩).run P w=.ok (.enter f ⟨xs.toList.map a.eval⟩) w:=by
  have e2:xs.map a.eval=⟨xs.toList.map a.eval⟩:=by apply Array.ext';simp
  have e1:=cZ.run (P:=P) (f:=f) (xs.map a.eval) w;rw[<-e2];simp[execOp,resolve,AJ,Deferred.ofValue,invoke,e1]
 refine dm (C:=C) (by intro c h;cases h) hr ?_;refine⟨λh=>by simp at h,kp ((hp E.M w _ (Nat.le_trans hN h.grown) h.ep hall).mono ?_)⟩;rintro e w' ⟨v,M',rfl,hM,hnew,hin,hv,hb⟩;exact hL _ _ ⟨_,(h.grow hM hnew hin hb).put (x:=.sv r) hv (by show d<S'.n;omega) iz⟩
theorem RT.Lc(hg:Gd ops S gd rg){m:Nat}[tS:gU P T E0 m]{c:Int}(hx:S.ev x=.sv (nw N (slc n (l.map e))))(hd:d<S.n)(hc:(l.length:Int)=c)
  (next:RunT P C ops nd K rest (⟨rg++bp x,[],[],⟨some (d,.sv (.v (.int .i64 c))),[],[]⟩⟩::acc) (S.set d (.sv (.v (.int .i64 c))))):RunT P C ops nd K (⟨some d,.call ⟨.builtin .len,#[x],#[T]⟩,ty,pos,aft,gd⟩::rest) acc S:=
 RT.len hg hx hd (by rw[List.length_map,hc];exact next)
theorem RT.aiH(hg:Gd ops S gd rg)[tS:gU P T E0 n]{kk:IntKind}{i:Int}{a:α}(hx:S.ev x=.sv (nw N (slc n (l.map e))))(hy:S.ev y=.sv (.v (.int kk i)))(hd:d<S.n)(ha:cL l i=some a)
  (next:RunT P C ops nd K rest (⟨rg++(bp x++bp y),[],[],⟨some (d,.sv (ref (e a))),[],[]⟩⟩::acc) (S.set d (.sv (ref (e a))))):RunT P C ops nd K (⟨some d,.indexAddr T x y,ty,pos,aft,gd⟩::rest) acc S:=
 RT.indexAddr hg (e a) hx hy hd (yB ha).1 (by rw[List.getElem?_map,(yB ha).2];rfl) next
theorem RT.aaj(hg:Gd ops S gd rg)[tS:gU P T E0 n]{lo hi:Option Operand}(a b:Int)(hx:S.ev x=.sv (nw N (slc n (l.map e))))(hlo:HS S 0 lo a)(hhi:HS S l.length hi b)(hd:d<S.n)(h:GA l a b=some l')
  (next:RunT P C ops nd K rest (⟨rg++(bp x++(uZ lo++uZ hi)),[],[],⟨some (d,.sv (nw N (slc n (l'.map e)))),[],[]⟩⟩::acc) (S.set d (.sv (nw N (slc n (l'.map e)))))):RunT P C ops nd K (⟨some d,.slice T x lo hi none,ty,pos,aft,gd⟩::rest) acc S:=by
 obtain⟨h0,h1,h2,h3⟩:=KW h;exact RT.slice hg hx a b hlo (by rw[List.length_map];exact hhi) hd h0 h1 (by rw[List.length_map];exact h2) _ (by rw[SK,h3]) next
theorem RT.aiI(hg:Gd ops S gd rg)[tS:gU P T E0 n][tE:nT P E0 n by_ zv][el:EL e n][he:Mm N e]{i:Nat}(hN:N<=C.w0.heap.size)(hb:∀k,¬C.BK k)(hx:S.ev x=.row i)(hR:S.r i=.live (TR E0 n e l))(hy:S.ev y=.sv (slc n (k.map e)))(hd:d<S.n)(uF:S.r d=.un)(Cn:d<1000)(h:nD by_ l k=some l')
  (next:RunT P C ops nd K rest (⟨rg++(bp x++bp y),[],[d,i],⟨some (d,.sv (nw N (slc n (l'.map e)))),[],[(i,.dead),(d,.dead)]⟩⟩::acc) ((AS.cO [(i,.dead),(d,.dead)] S).set d (.sv (nw N (slc n (l'.map e)))))):RunT P C ops nd K (⟨some d,.call ⟨.builtin .append,#[x,y],#[T,T]⟩,ty,pos,aft,gd⟩::rest) acc S:=by
 obtain⟨h1,h2,rfl⟩:=AN h;have hf:l.flatMap e++(k.map e).flatten=(l++k).flatMap e:=by simp[yD]
 exact RT.Md hg (.row hx hR) hy hd uF Cn (by simpa using h1) (by simpa using h2) _ (rows':=(l++k).map e) (λ_ _ hv hg=>Mn hv (λg e=>⟨(hg g e).1.elim (λq=>Nat.le_trans hN q) (λq=>absurd q (hb g)),(hg g e).2⟩)) (by rw[hf];exact wh _) (by simp) (by rw[hf];exact qt _) next
theorem RT.DE(hg:Gd ops S gd rg)[tS:gU P T E0 n][tE:nT P E0 n by_ zv][he:Mm N e](hN:N<=C.w0.heap.size){len:Nat}{parts:Array (Nat×Operand)}{qs:List (Nat×List SV)}(hp:uY S parts.toList qs)(hd:d<S.n)
  (hc:yc 0 qs=true) (hl:qs.length=len) (hsz:(qs.all λq=>Nat.beq q.2.length n)=true) (hlen:Nat.ble (len*n) 16777216=true) (Ub:(zv.cells.toList.all λv=>v.oneCell')=true) (nU:qs.map (·.2)=l.map e)
  (next:RunT P C ops nd K rest (⟨rg++qV parts.toList,[],[],⟨some (d,.sv (nw N (slc n (l.map e)))),[],[]⟩⟩::acc) (S.set d (.sv (nw N (slc n (l.map e)))))):RunT P C ops nd K (⟨some d,.buildSlice T len parts,ty,pos,aft,gd⟩::rest) acc S:=by
 refine .inl ⟨_,[],[],_,?_,next⟩;rintro S' hn ht _ _ i a w L Q ho ⟨E,h⟩ hL;refine dy (C:=C) ho (hg.wanted h (λs hs=>ht s (List.mem_append_left _ hs)) Y) ?_;obtain⟨vs,hr,hall,hone⟩:=vZ (P:=P) (T:=T) (E0:=E0) (n:=n) (by_:=by_) (zv:=zv) (d:=d) (ty:=ty) (pos:=pos) (aft:=aft) (gd:=gd) h hp (λs hs=>ht s (List.mem_append_right _ hs)) hc hl hsz (af hlen) (List.all_eq_true.1 Ub);refine dm (C:=C) (by intro c h;cases h) hr (hL _ _ ⟨_,(h.aah vs E0 hone).put (d:=d) (x:=.sv (nw N (slc n (l.map e)))) (v:=.slice (some ⟨w.heap.size,0,none⟩) len len) ?_ (by show d<S'.n;omega) iz⟩);have hrw:Rows n (qs.map (·.2)) (qs.map (·.2)).flatten:=⟨Y,λr hr=>by
  obtain⟨q,hq,rfl⟩:=List.mem_map.1 hr;exact Nat.eq_of_beq_eq_true (List.all_eq_true.1 hsz q hq)⟩
 have VM:=tE.p;have hlb:len<=16777216:=Nat.le_trans (Nat.le_mul_of_pos_right _ VM) (af hlen);refine Mn ?_ (λg e=>by cases e;exact⟨Nat.le_trans hN h.grown,vs.length,by simp⟩);rw[<-nU];refine .inr ⟨w.heap.size,0,len,by rw[List.length_map,hl],by rw[List.length_map,hl];exact Nat.le_refl _,by rw[List.length_map,hl];omega,λk row hk=>?_⟩;obtain⟨q1,q2⟩:=yA hrw k row hk;refine⟨q1,λj s hs=>?_⟩;obtain⟨y,hy,hys⟩:=hall.get (q2 j s hs);refine⟨y,by show(if w.heap.size=w.heap.size then(vs++[Value.agg #[]])[0+k*n+j]? else _)=_;rw[if_pos Y,Nat.zero_add,List.getElem?_append_left (List.getElem?_eq_some_iff.1 hy).1];exact hy,hone y (List.mem_of_getElem? hy),s.mono (λb o v e=>?_) hys⟩;have:b≠w.heap.size:=by rintro rfl;have:=uJ h.ep e;omega
 simp[this,e]
end
end
section
open Go.RowKit
abbrev fS(N n:Nat){α:Type}(e:α->List SV)(x:List α):List SV:=[nw N (slc n (x.map e))]
instance{N n:Nat}{α:Type}{e:α->List SV}:EL (fS N n e) 1:=⟨λ_=>rfl,λ_=>inferInstance⟩
instance{N n:Nat}{α:Type}{e:α->List SV}:Mm N (fS N n e):=⟨λ_=>inferInstance⟩
theorem eT{P:Program}{f:FuncId}{args:List SV}{r:Nat->SV}{s:SV}(hp:∀N,dK P f N args (r N))(hi:∀N,SV.imp (r N) s):Pure P f args s:=λM w vs hM hv=>(hp w.heap.size M w vs (Nat.le_refl _) hM hv).mono (λ_ _ ⟨v,M',h1,h2,h3,h4,h5,h6⟩=>⟨v,M',h1,h2,h3,h4,hi _ _ _ h5,h6⟩)
theorem aiJ{N:Nat}{l:List (List Qr)}:SV.imp (nw N (slc 1 (l.map (fS N 4 (fQ N))))) (slc 1 (l.map (eS 4 eQ))):=λM v h=>SU (e':=fS N 4 (fQ N)) (e:=eS 4 eQ) (λ_=>⟨Ui,aq⟩) l M v (fN M v h)
section steps
variable {P:Program}{C:Ctx}{ops:Array Oper}{S:AS}{nd:Bool}{K:List Ac->AS->Prop}{rest:List Oper}{acc:List Ac}{N:Nat}
variable {gd:Option (Nat×Bool)}{rg:List Nat}{d:Nat}{ty:TypeId}{pos:String}{aft:Array Edge}{x y z:Operand}{T U E0:TypeId}
theorem RT.aeM(hg:Gd ops S gd rg){f:FuncId}[cZ P f]{g:Operand}{xs:Array Operand}{at_:Array TypeId}{args caps:List SV}{r:SV}(hp:dK P f N (args++caps) r)(hN:N<=C.w0.heap.size)(hf:S.ev g=.sv (o5 f caps))(hargs:kf S xs.toList args)(hd:d<S.n)
  (next:RunT P C ops nd K rest (⟨rg++(bp g++xs.toList.flatMap bp),[],[],⟨some (d,.sv r),[],[]⟩⟩::acc) (S.set d (.sv r))):RunT P C ops nd K (⟨some d,.call ⟨.value g,xs,at_⟩,ty,pos,aft,gd⟩::rest) acc S:=by
 refine .inl ⟨_,[],[],_,?_,next⟩;rintro S' hn ht _ _ i a w L Q ho ⟨E,h⟩ hL;refine dy (C:=C) ho (hg.wanted h (λs hs=>ht s (List.mem_append_left _ hs)) Y) ?_;have AJ:(o5 f caps).h E.M (a.eval g):=by
  have h1:=h.ev g;rw[bQ (λ_ h=>List.mem_append_right _ (List.mem_append_left _ h)) ht,hf]at h1;exact h1
 obtain⟨xA,AJ,JX⟩:=AJ;have hall:=SV.gw.append (kf.vals h hargs (λs hs=>ht s (List.mem_append_right _ (List.mem_append_right _ hs)))) JX;have hr:(execOp a.eval ⟨some d,.call ⟨.value g,xs,at_⟩,ty,pos,aft,gd⟩).run P w=.ok (.enter f ⟨xs.toList.map a.eval++xA⟩) w:=by
  have e2:xs.map a.eval++⟨xA⟩=⟨xs.toList.map a.eval++xA⟩:=by apply Array.ext';simp
  have e1:=cZ.run (P:=P) (f:=f) (xs.map a.eval++⟨xA⟩) w;rw[<-e2];simp[execOp,resolve,AJ,Deferred.ofValue,invoke,e1]
 refine dm (C:=C) (by intro c h;cases h) hr ?_;refine⟨λh=>by simp at h,kp ((hp E.M w _ (Nat.le_trans hN h.grown) h.ep hall).mono ?_)⟩;rintro e w' ⟨v,M',rfl,hM,hnew,hin,hv,hb⟩;exact hL _ _ ⟨_,(h.grow hM hnew hin hb).put (x:=.sv r) hv (by show d<S'.n;omega) iz⟩
end steps
end
end Go.Fw
namespace Go.Proofs.YtningmnklfpfjaaGreat
section
open Go.Fw
noncomputable def gH(x0:List Nat):Option (List Nat):=nD 4 [] x0
noncomputable def cK(x0:Nat)(c0:Nat):Option (Nat×Nat):=(some ((x0+c0)%18446744073709551616)).bind λx6=>(some (x6/2^32)).bind λx8=>(some (x6%4294967296)).bind λdI=>some (dI,x8)
noncomputable def bP(x0:List Nat):Option (List Nat):=(bX (λ(GB:(List Nat))=>(show Option (((List Nat))⊕((List Nat)))from cE (λ(Ia:Bool)=>(bif Ia then(some (GB.length:Int)).bind λdX=>(some (IntKind.i64.wrap (dX-1))).bind λeX=>(GA GB 0 eX).bind λjl=>some (.inl jl)else some (.inr GB))) λGC=>(some (GB.length:Int)).bind λx4=>(some (decide ((0:Int)<x4))).bind λx5=>(bif x5 then(some (GB.length:Int)).bind λx9=>(some (IntKind.i64.wrap (x9-1))).bind λdI=>(cL GB dI).bind λfz=>(some (decide ((fz:Nat)=0))).bind λeD=>some eD else some false).bind λFb=>GC Fb)) x0).bind λIb=>some Ib
noncomputable def dr(x0:Bool)(x1:List Nat):Option (Zr):=(bP x1).bind λx6=>(some (x6.length:Int)).bind λx8=>(some (decide ((x8:Int)=0))).bind λx9=>(bif x9 then some ⟨false,[]⟩else some ⟨x0,x6⟩)
noncomputable def ig(x0:Bool)(x1:Nat):Option (Zr):=(some (decide ((x1:Nat)=0))).bind λx7=>(bif x7 then some ⟨false,[]⟩else(some (x1/2^32)).bind λfz=>(some (decide ((fz:Nat)=0))).bind λc9=>(bif c9 then(some (x1%4294967296)).bind λdH=>some ⟨x0,[dH]⟩else(some (x1%4294967296)).bind λij=>(some (x1/2^32)).bind λiA=>(some (iA%4294967296)).bind λjg=>some ⟨x0,[ij,jg]⟩))
noncomputable def fI(x0:List Nat):Option (Nat):=(some (x0.length:Int)).bind λx4=>(some (decide ((x4:Int)=0))).bind λx6=>(bif x6 then some 0 else(some (decide ((x4:Int)=1))).bind λx8=>(bif x8 then(cL x0 0).bind λdI=>(some (dI%18446744073709551616)).bind λc9=>some c9 else(cL x0 0).bind λei=>(some (ei%18446744073709551616)).bind λfB=>(cL x0 1).bind λeX=>(some (eX%18446744073709551616)).bind λij=>(some (ij*2^32%18446744073709551616)).bind λfL=>(some ((fB ||| fL)%18446744073709551616)).bind λiA=>some iA))
noncomputable def dU(x0:List Nat)(x1:List Nat):Option (Int):=(some (x0.length:Int)).bind λx7=>(some (x1.length:Int)).bind λx9=>(some (decide ((x7:Int)≠x9))).bind λdI=>(bif dI then(some (x0.length:Int)).bind λc9=>(some (x1.length:Int)).bind λei=>(some (decide ((c9:Int)<ei))).bind λdH=>(bif dH then some (-1)else some 1)else(some (x0.length:Int)).bind λdX=>(some (IntKind.i64.wrap (dX-1))).bind λeX=>(bX (λ(iD:Int)=>(show Option ((Int)⊕((Unit)⊕(Int)))from(some (decide ((0:Int)<=iD))).bind λij=>(bif ij then(cL x0 iD).bind λjG=>(cL x1 iD).bind λgI=>(some (decide ((jG:Nat)≠gI))).bind λnV=>(bif nV then(cL x0 iD).bind λsY=>(cL x1 iD).bind λqX=>(some (decide ((sY:Nat)<qX))).bind λnk=>(bif nk then some (.inr (.inr (-1)))else some (.inr (.inr 1)))else(some (IntKind.i64.wrap (iD-1))).bind λiA=>some (.inl iA))else some (.inr (.inl ()))))) eX).bind λe6=>match e6 with|.inr v6=>some v6|.inl _=>some 0)
noncomputable def gW(x0:List Nat)(x1:List Nat):Option (List Nat):=(some (x0.length:Int)).bind λdI=>(some (x1.length:Int)).bind λc9=>(some (max (dI:Int) c9)).bind λeD=>(some (IntKind.i64.wrap (eD+1))).bind λei=>(VW (α:=Nat) 4 ei).bind λdH=>(uM (λ(k:Nat) (s7:Nat×(List Nat))=>match s7 with|⟨DF,nW⟩=>(show Option (Nat×(List Nat))from(some (x0.getD k 0%18446744073709551616)).bind λp20=>(some (x1.getD k 0%18446744073709551616)).bind λp21=>(some ((p20+p21)%18446744073709551616)).bind λjH=>(cK jH DF).bind λ⟨iO,k9⟩=>(nD 4 nW [iO]).bind λgI=>some (k9,gI))) (max x0.length x1.length) (0,dH)).bind λe7=>match e7 with|⟨DF,nW⟩=>(cK 0 DF).bind λ⟨iP,k11⟩=>(nD 4 nW [iP]).bind λsY=>some sY
noncomputable def eJ(x0:List Nat)(x1:List Nat):Option (List Nat):=(some (x0.length:Int)).bind λdI=>(VW (α:=Nat) 4 dI).bind λfz=>(uM (λ(k:Nat) (s7:Nat×(List Nat))=>match s7 with|⟨Hg,nW⟩=>(show Option (Nat×(List Nat))from(some (x0.getD k 0%18446744073709551616)).bind λp16=>(some (x1.getD k 0%18446744073709551616)).bind λp17=>(some (we 18446744073709551616 4294967295 p17)).bind λiA=>(some ((p16+iA)%18446744073709551616)).bind λjg=>(cK jg Hg).bind λ⟨gX,k9⟩=>(nD 4 nW [gX]).bind λjH=>some (k9,jH))) (max x0.length x1.length) (1,fz)).bind λe7=>match e7 with|⟨Hg,nW⟩=>some nW
noncomputable def jI(x0:List Nat)(x1:List Nat):Option (List Nat):=(some (x0.length:Int)).bind λc9=>(some (x1.length:Int)).bind λei=>(some (IntKind.i64.wrap (c9+ei))).bind λdH=>(G5 4 dH (0:Nat)).bind λfB=>(some (x0.length:Int)).bind λeX=>(bX (λ(Uj:Int×(List Nat))=>match Uj with|⟨wm,Mo⟩=>(show Option ((Int×(List Nat))⊕((List Nat)))from(some (decide ((wm:Int)<eX))).bind λij=>(bif ij then(cL x0 wm).bind λiA=>(some (x1.length:Int)).bind λjH=>(bX (λ(SX:Int×Nat×(List Nat))=>match SX with|⟨Fe,DG,CS⟩=>(show Option ((Int×Nat×(List Nat))⊕(Nat×(List Nat)))from(some (decide ((Fe:Int)<jH))).bind λkT=>(bif kT then(cL x1 Fe).bind λoF=>(some (IntKind.i64.wrap (wm+Fe))).bind λku=>(some (IntKind.i64.wrap (wm+Fe))).bind λnk=>(kW CS nk).bind λyE=>(CS[yE]?).bind λnF=>(some (nF%18446744073709551616)).bind λvf=>(some (iA%18446744073709551616)).bind λzu=>(some (oF%18446744073709551616)).bind λsF=>(some ((zu*sF)%18446744073709551616)).bind λsj=>(some ((vf+sj)%18446744073709551616)).bind λJY=>(cK JY DG).bind λ⟨Ay,k41⟩=>(kW CS ku).bind λBP=>(stM CS BP Ay).bind λl42=>(some (IntKind.i64.wrap (Fe+1))).bind λAz=>some (.inl (Az,k41,l42))else some (.inr (DG,CS))))) (0,0,Mo)).bind λe38=>match e38 with|⟨Oz,Q0⟩=>(some (x1.length:Int)).bind λJZ=>(some (IntKind.i64.wrap (wm+JZ))).bind λN0=>(cK 0 Oz).bind λ⟨Uk,k45⟩=>(kW Q0 N0).bind λDt=>(stM Q0 Dt Uk).bind λl46=>(some (IntKind.i64.wrap (wm+1))).bind λQ1=>some (.inl (Q1,l46))else some (.inr Mo)))) (0,fB)).bind λCT=>some CT
noncomputable def lO(x0:List Nat)(x1:Nat):Option (Nat×List Nat):=(some (x0.length:Int)).bind λx9=>(some (IntKind.i64.wrap (x9-1))).bind λdI=>(bX (λ(s8:Nat×Int×(List Nat))=>match s8 with|⟨Wc,OA,zD⟩=>(show Option ((Nat×Int×(List Nat))⊕(Nat×(List Nat)))from(some (decide ((0:Int)<=OA))).bind λc9=>(bif c9 then(some (Wc*2^32%18446744073709551616)).bind λfB=>(kW zD OA).bind λjl=>(zD[jl]?).bind λij=>(some (ij%18446744073709551616)).bind λfL=>(some ((fB ||| fL)%18446744073709551616)).bind λiA=>(Me 18446744073709551616 iA x1).bind λiO=>(some (iO%4294967296)).bind λkT=>(kW zD OA).bind λgI=>(stM zD gI kT).bind λDH=>(Kb iA x1).bind λiP=>(some (IntKind.i64.wrap (OA-1))).bind λei=>some (.inl (iP,ei,DH))else some (.inr (Wc,zD))))) (0,dI,x0)).bind λe8=>match e8 with|⟨aiL,Hh⟩=>(Cs x0 Hh).bind λ_=>some (aiL,Hh)
noncomputable def iW(x0:List Nat)(x1:Nat):Option (List Nat):=(some (x0.length:Int)).bind λfz=>(some (IntKind.i64.wrap (fz+1))).bind λc9=>(VW (α:=Nat) 4 c9).bind λeD=>(some (x0.length:Int)).bind λdH=>(bX (λ(s8:Int×Nat×(List Nat))=>match s8 with|⟨DI,zE,nW⟩=>(show Option ((Int×Nat×(List Nat))⊕(Nat×(List Nat)))from(some (decide ((DI:Int)<dH))).bind λdX=>(bif dX then(cL x0 DI).bind λeX=>(some (eX%18446744073709551616)).bind λjg=>(some (jg*2^(min x1 64)%18446744073709551616)).bind λjG=>(cK jG zE).bind λ⟨jH,k10⟩=>(nD 4 nW [jH]).bind λkT=>(some (IntKind.i64.wrap (DI+1))).bind λgI=>some (.inl (gI,k10,kT))else some (.inr (zE,nW))))) (0,0,eD)).bind λe8=>match e8 with|⟨Ic,Wd⟩=>(cK 0 Ic).bind λ⟨iP,k12⟩=>(nD 4 Wd [iP]).bind λsY=>some sY
noncomputable def mM(x0:List Nat)(x1:Nat):Option (List Nat):=(some (x0.length:Int)).bind λfz=>(some (IntKind.i64.wrap (fz+1))).bind λc9=>(VW (α:=Nat) 4 c9).bind λeD=>(some (x0.length:Int)).bind λdH=>(bX (λ(s8:Int×Nat×(List Nat))=>match s8 with|⟨DI,zE,ye⟩=>(show Option ((Int×Nat×(List Nat))⊕(Nat×(List Nat)))from(some (decide ((DI:Int)<dH))).bind λdX=>(bif dX then(cL x0 DI).bind λeX=>(some (eX%18446744073709551616)).bind λjg=>(some (jg*2^(min x1 64)%18446744073709551616)).bind λjG=>(cK jG zE).bind λ⟨jH,k10⟩=>(nD 4 ye [jH]).bind λkT=>(some (IntKind.i64.wrap (DI+1))).bind λgI=>some (.inl (gI,k10,kT))else some (.inr (zE,ye))))) (0,0,eD)).bind λe8=>match e8 with|⟨Ic,yf⟩=>(cK 0 Ic).bind λ⟨iP,k12⟩=>(nD 4 yf [iP]).bind λsY=>some sY
noncomputable def kx(x0:Nat):Option (Int):=(some (decide ((65536:Nat)<=x0))).bind λx4=>cE (λ(j2:Nat×Int)=>match j2 with|⟨Q2,aak⟩=>(some (decide ((256:Nat)<=Q2))).bind λx8=>cE (λ(j4:Nat×Int)=>match j4 with|⟨aiM,aiN⟩=>(some (aiM%256)).bind λdH=>(Cr [0,1,2,2,3,3,3,3,4,4,4,4,4,4,4,4,5,5,5,5,5,5,5,5,5,5,5,5,5,5,5,5,6,6,6,6,6,6,6,6,6,6,6,6,6,6,6,6,6,6,6,6,6,6,6,6,6,6,6,6,6,6,6,6,7,7,7,7,7,7,7,7,7,7,7,7,7,7,7,7,7,7,7,7,7,7,7,7,7,7,7,7,7,7,7,7,7,7,7,7,7,7,7,7,7,7,7,7,7,7,7,7,7,7,7,7,7,7,7,7,7,7,7,7,7,7,7,7,8,8,8,8,8,8,8,8,8,8,8,8,8,8,8,8,8,8,8,8,8,8,8,8,8,8,8,8,8,8,8,8,8,8,8,8,8,8,8,8,8,8,8,8,8,8,8,8,8,8,8,8,8,8,8,8,8,8,8,8,8,8,8,8,8,8,8,8,8,8,8,8,8,8,8,8,8,8,8,8,8,8,8,8,8,8,8,8,8,8,8,8,8,8,8,8,8,8,8,8,8,8,8,8,8,8,8,8,8,8,8,8,8,8,8,8,8,8,8,8,8,8,8,8,8,8,8,8] ((dH:Nat):Int)).bind λfB=>(some (IntKind.i64.wrap (fB:Int))).bind λdX=>(some (IntKind.i64.wrap (aiN+dX))).bind λeX=>some eX) λK4=>(bif x8 then(some (Q2/2^8)).bind λdI=>(some (IntKind.i64.wrap (aak+8))).bind λc9=>K4 (dI,c9)else K4 (Q2,aak))) λK2=>(bif x4 then(some (x0/2^16)).bind λx6=>K2 (x6,16)else K2 (x0,0))
noncomputable def ff(x0:Nat):Option (Int):=(kx x0).bind λx4=>(some (IntKind.i64.wrap (32-x4))).bind λx5=>some x5
noncomputable def lP(x0:List Nat)(o0:Nat)(n0:Nat)(x1:List Nat):Option (Nat×List Nat):=(some (x1.length:Int)).bind λc9=>(Zy o0 n0 c9).bind λdH=>(x0[dH]?).bind λfB=>(some (fB%18446744073709551616)).bind λdX=>(some (dX*2^32%18446744073709551616)).bind λeX=>(some (IntKind.i64.wrap (c9-1))).bind λfL=>(Zy o0 n0 fL).bind λiA=>(x0[iA]?).bind λjg=>(some (jg%18446744073709551616)).bind λgX=>(some ((eX ||| gX)%18446744073709551616)).bind λjG=>(some (IntKind.i64.wrap (c9-1))).bind λkT=>(cL x1 kT).bind λgI=>(some (gI%18446744073709551616)).bind λnV=>(some (IntKind.i64.wrap (c9-2))).bind λsY=>(cL x1 sY).bind λku=>(some (ku%18446744073709551616)).bind λuG=>(Me 18446744073709551616 jG nV).bind λnk=>(Kb jG nV).bind λvf=>(bX (λ(uH:Nat×Nat)=>match uH with|⟨Kg,Ld⟩=>(show Option ((Nat×Nat)⊕(Nat))from cE (λ(Q3:Bool)=>(bif Q3 then(some (we 18446744073709551616 Kg 1)).bind λx63=>(some ((Ld+nV)%18446744073709551616)).bind λQ4=>(some (Q4/2^32)).bind λQ5=>(some (decide ((Q5:Nat)≠0))).bind λWe=>(bif We then some (.inr x63)else some (.inl (x63,Q4)))else some (.inr Kg))) λGC=>(some (Kg/2^32)).bind λzu=>(some (decide ((zu:Nat)≠0))).bind λvg=>(bif vg then some true else(some ((Kg*uG)%18446744073709551616)).bind λAy=>(some (Ld*2^32%18446744073709551616)).bind λAz=>(some (IntKind.i64.wrap (c9-2))).bind λAA=>(Zy o0 n0 AA).bind λJZ=>(x0[JZ]?).bind λN0=>(some (N0%18446744073709551616)).bind λAu=>(some ((Az ||| Au)%18446744073709551616)).bind λUk=>(some (decide ((Uk:Nat)<Ay))).bind λDt=>some Dt).bind λWf=>GC Wf)) (nk,vf)).bind λUl=>(Cs x0 x0).bind λ_=>some (Ul,x0)
noncomputable def eK(x0:List Nat)(o0:Nat)(n0:Nat)(x1:List Nat)(x2:Nat):Option (Bool×List Nat):=(some (n0:Int)).bind λei=>(bX (λ(z9:Nat×Int×Nat×(List Nat))=>match z9 with|⟨Um,DJ,Mp,BQ⟩=>(show Option ((Nat×Int×Nat×(List Nat))⊕(Nat×(List Nat)))from(some (decide ((DJ:Int)<ei))).bind λfB=>(bif fB then(some (x1.length:Int)).bind λij=>(some (decide ((DJ:Int)<ij))).bind λfL=>cE (λ(Wg:Nat)=>(Zy o0 n0 DJ).bind λnV=>(BQ[nV]?).bind λiP=>(some (iP%18446744073709551616)).bind λoD=>(cK Wg Mp).bind λ⟨pg,k16⟩=>(some (pg%18446744073709551616)).bind λuG=>(some (we 18446744073709551616 oD uG)).bind λqX=>(some (we 18446744073709551616 qX Um)).bind λnk=>(some (nk%4294967296)).bind λsn=>(Zy o0 n0 DJ).bind λzu=>(stM BQ zu sn).bind λl18=>(some (nk/2^63)).bind λsF=>(some (IntKind.i64.wrap (DJ+1))).bind λsj=>some (.inl (sF,sj,k16,l18))) λK14=>(bif fL then(cL x1 DJ).bind λgX=>(some (gX%18446744073709551616)).bind λjH=>(some ((jH*x2)%18446744073709551616)).bind λkT=>K14 kT else K14 0)else some (.inr (Um,BQ))))) (0,0,0,x0)).bind λUo=>match Uo with|⟨Wh,DK⟩=>(some (decide ((Wh:Nat)≠0))).bind λAy=>(Cs x0 DK).bind λ_=>some (Ay,DK)
noncomputable def m8(x0:List Nat)(x1:List Nat):Option ((List Nat)×(List Nat)):=(some (x1.length:Int)).bind λdX=>(some (IntKind.i64.wrap (dX-1))).bind λij=>(cL x1 ij).bind λfL=>(ff fL).bind λjg=>(some ((jg%18446744073709551616).toNat)).bind λgX=>(mM x0 gX).bind λiO=>(iW x1 gX).bind λoF=>(GA oF 0 dX).bind λiP=>(some (x0.length:Int)).bind λsY=>(some (IntKind.i64.wrap (sY-dX))).bind λpg=>(some (IntKind.i64.wrap (pg+1))).bind λuG=>(G5 4 uG (0:Nat)).bind λqX=>(some (x0.length:Int)).bind λnk=>(some (IntKind.i64.wrap (nk-dX))).bind λnF=>(bX (λ(s36:Int×(List Nat)×(List Nat))=>match s36 with|⟨nX,AQ,CU⟩=>(show Option ((Int×(List Nat)×(List Nat))⊕((List Nat)×(List Nat)))from(some (decide ((0:Int)<=nX))).bind λsn=>(bif sn then(some (IntKind.i64.wrap (nX+dX))).bind λBP=>(some (IntKind.i64.wrap (BP+1))).bind λAz=>(ckS CU nX Az).bind λ⟨o53,n53⟩=>(lP CU o53 n53 iP).bind λ⟨AA,l38⟩=>(Cs CU l38).bind λ_=>(some (IntKind.i64.wrap (nX+dX))).bind λDt=>(some (IntKind.i64.wrap (Dt+1))).bind λQ1=>(ckS l38 nX Q1).bind λ⟨o62,n62⟩=>(eK l38 o62 n62 iP AA).bind λ⟨N1,Zz⟩=>(Cs l38 Zz).bind λ_=>cE (λ(j53:Nat×(List Nat))=>match j53 with|⟨Wi,Q6⟩=>(some (Wi%4294967296)).bind λAR=>(kW AQ nX).bind λaiO=>(stM AQ aiO AR).bind λl55=>(some (IntKind.i64.wrap (nX-1))).bind λvg=>some (.inl (vg,l55,Q6))) λK53=>(bif N1 then(some (we 18446744073709551616 AA 1)).bind λx67=>(some (iP.length:Int)).bind λJ0=>(bX (λ(s65:Int×Nat×(List Nat))=>match s65 with|⟨Ff,DL,CV⟩=>(show Option ((Int×Nat×(List Nat))⊕(Nat×(List Nat)))from(some (decide ((Ff:Int)<J0))).bind λUp=>(bif Up then(cL iP Ff).bind λx74=>(some (IntKind.i64.wrap (nX+Ff))).bind λF3=>(some (IntKind.i64.wrap (nX+Ff))).bind λJ1=>(kW CV J1).bind λx85=>(CV[x85]?).bind λQ7=>(some (Q7%18446744073709551616)).bind λIe=>(some (x74%18446744073709551616)).bind λx89=>(some ((Ie+x89)%18446744073709551616)).bind λVo=>(cK Vo DL).bind λ⟨x91,k68⟩=>(kW CV F3).bind λx92=>(stM CV x92 x91).bind λl69=>(some (IntKind.i64.wrap (Ff+1))).bind λOB=>some (.inl (OB,k68,l69))else some (.inr (DL,CV))))) (0,0,Zz)).bind λe65=>match e65 with|⟨OC,Ig⟩=>(some (IntKind.i64.wrap (nX+dX))).bind λx97=>(some (IntKind.i64.wrap (nX+dX))).bind λKh=>(kW Ig Kh).bind λKi=>(Ig[Ki]?).bind λKj=>(some (Kj%18446744073709551616)).bind λUq=>(cK Uq OC).bind λ⟨aeS,k72⟩=>(kW Ig x97).bind λaiQ=>(stM Ig aiQ aeS).bind λl73=>K53 (x67,l73)else K53 (AA,Zz))else some (.inr (AQ,CU))))) (nF,qX,iO)).bind λe36=>match e36 with|⟨Ih,Fg⟩=>(G5 4 dX (0:Nat)).bind λQ8=>(bX (λ(s81:Int×(List Nat))=>match s81 with|⟨BR,DM⟩=>(show Option ((Int×(List Nat))⊕((List Nat)))from(some (decide ((BR:Int)<dX))).bind λDN=>(bif DN then(kW Fg BR).bind λaiR=>(Fg[aiR]?).bind λaiS=>(some (aiS%18446744073709551616)).bind λAT=>(some (IntKind.i64.wrap (BR+1))).bind λaiT=>(kW Fg aiT).bind λaiU=>(Fg[aiU]?).bind λaiV=>(some (aiV%18446744073709551616)).bind λaeT=>(some (aeT*2^32%18446744073709551616)).bind λaeU=>(some ((AT ||| aeU)%18446744073709551616)).bind λaeV=>(some (aeV/2^(min gX 64))).bind λaiW=>(some (aiW%4294967296)).bind λaeW=>(kW DM BR).bind λaiX=>(stM DM aiX aeW).bind λl83=>(some (IntKind.i64.wrap (BR+1))).bind λaeX=>some (.inl (aeX,l83))else some (.inr DM)))) (0,Q8)).bind λzG=>some (Ih,zG)
noncomputable def jJ(x0:List Nat)(x1:List Nat):Option ((List Nat)×(List Nat)):=(dU x0 x1).bind λc9=>(some (decide ((c9:Int)<0))).bind λeD=>(bif eD then(gH x0).bind λdH=>some ([],dH)else(some (x0.length:Int)).bind λeX=>(some (decide ((eX:Int)<=2))).bind λjl=>(bif jl then(fI x0).bind λfL=>(fI x1).bind λjg=>(Me 18446744073709551616 fL jg).bind λjH=>(ig false jH).bind λ⟨SY,OD⟩=>(Kb fL jg).bind λnV=>(ig false nV).bind λ⟨yF,xB⟩=>some (OD,xB)else(some (x1.length:Int)).bind λpg=>(some (decide ((pg:Int)=1))).bind λuG=>(bif uG then(gH x0).bind λvW=>(cL x1 0).bind λnF=>(some (nF%18446744073709551616)).bind λsn=>(lO vW sn).bind λ⟨zu,l5⟩=>(Cs vW l5).bind λ_=>(some (zu%4294967296)).bind λsj=>some (l5,[sj])else(m8 x0 x1).bind λ⟨aiY,aiZ⟩=>some (aiY,aiZ))))
noncomputable def cW(x0:Int):Option (Zr):=(some ((x0%18446744073709551616).toNat)).bind λx5=>(some (decide ((x0:Int)<0))).bind λx7=>cE (λ(OE:Nat)=>(some (decide ((x0:Int)<0))).bind λfz=>(ig fz OE).bind λ⟨AU,AW⟩=>some ⟨AU,AW⟩) λK2=>(bif x7 then(some (we 18446744073709551616 0 x5)).bind λx9=>K2 x9 else K2 x5)
noncomputable def fj(x0:Zr):Option (Int×Bool):=match x0 with|⟨bk,bn⟩=>(bP bn).bind λx8=>(some (x8.length:Int)).bind λdI=>(some (decide ((2:Int)<dI))).bind λfz=>(bif fz then some (0,false)else(fI x8).bind λeD=>(bif bk then(some (decide ((9223372036854775808:Nat)<eD))).bind λdX=>(bif dX then some (0,false)else(some (we 18446744073709551616 0 eD)).bind λjl=>(some (IntKind.i64.wrap (jl:Int))).bind λij=>some (ij,true))else(some (decide ((9223372036854775808:Nat)<=eD))).bind λiA=>(bif iA then some (0,false)else(some (IntKind.i64.wrap (eD:Int))).bind λgX=>some (gX,true))))
noncomputable def eY(x0:Bool)(x1:List Nat)(x2:Bool)(x3:List Nat):Option (Zr):=(some (x0==x2)).bind λfz=>(bif fz then(gW x1 x3).bind λdH=>(dr x0 dH).bind λ⟨qu,qw⟩=>some ⟨qu,qw⟩else(dU x1 x3).bind λjl=>(some (decide ((jl:Int)<0))).bind λij=>(bif ij then(eJ x3 x1).bind λgX=>(dr x2 gX).bind λ⟨nG,m9⟩=>some ⟨nG,m9⟩else(eJ x1 x3).bind λgI=>(dr x0 gI).bind λ⟨sq,su⟩=>some ⟨sq,su⟩))
noncomputable def tN(x0:Zr)(x1:Zr):Option (Zr):=match x0 with|⟨bk,bn⟩=>match x1 with|⟨cu,cm⟩=>(fj ⟨bk,bn⟩).bind λ⟨AX,DO⟩=>(fj ⟨cu,cm⟩).bind λ⟨Mq,Q9⟩=>cE (λ(qY:Bool)=>cE (λ(j5:Unit)=>(bP bn).bind λyE=>(bP cm).bind λvg=>(eY bk yE cu vg).bind λ⟨F4,F5⟩=>some ⟨F4,F5⟩) λK5=>(bif qY then(some (IntKind.i64.wrap (AX+Mq))).bind λjH=>(some (IntKind.i64.wrap ((BitVec.ofInt 64 AX ^^^ BitVec.ofInt 64 jH).toNat))).bind λgI=>(some (IntKind.i64.wrap ((BitVec.ofInt 64 Mq ^^^ BitVec.ofInt 64 jH).toNat))).bind λiP=>(some (IntKind.i64.wrap ((BitVec.ofInt 64 gI &&& BitVec.ofInt 64 iP).toNat))).bind λoD=>(some (decide ((0:Int)<=oD))).bind λsY=>(bif sY then(cW jH).bind λ⟨F6,F7⟩=>some ⟨F6,F7⟩else K5 ())else K5 ())) λK3=>(bif DO then some Q9 else some false).bind λOF=>K3 OF
noncomputable def tQ(x0:Zr)(x1:Zr):Option (Zr):=match x0 with|⟨bk,bn⟩=>match x1 with|⟨cu,cm⟩=>(fj ⟨bk,bn⟩).bind λ⟨AX,DO⟩=>(fj ⟨cu,cm⟩).bind λ⟨Mq,Q9⟩=>cE (λ(qY:Bool)=>cE (λ(j5:Unit)=>(bP bn).bind λyE=>(some (!cu)).bind λsn=>(bP cm).bind λsF=>(eY bk yE sn sF).bind λ⟨acg,ach⟩=>some ⟨acg,ach⟩) λK5=>(bif qY then(some (IntKind.i64.wrap (AX-Mq))).bind λjH=>(some (IntKind.i64.wrap ((BitVec.ofInt 64 AX ^^^ BitVec.ofInt 64 Mq).toNat))).bind λgI=>(some (IntKind.i64.wrap ((BitVec.ofInt 64 AX ^^^ BitVec.ofInt 64 jH).toNat))).bind λiP=>(some (IntKind.i64.wrap ((BitVec.ofInt 64 gI &&& BitVec.ofInt 64 iP).toNat))).bind λoD=>(some (decide ((0:Int)<=oD))).bind λsY=>(bif sY then(cW jH).bind λ⟨F6,F7⟩=>some ⟨F6,F7⟩else K5 ())else K5 ())) λK3=>(bif DO then some Q9 else some false).bind λOF=>K3 OF
noncomputable def dV(x0:Zr)(x1:Zr):Option (Zr):=match x0 with|⟨bk,bn⟩=>match x1 with|⟨cu,cm⟩=>(bP bn).bind λx9=>(bP cm).bind λc9=>cE (λ(Wj:Bool)=>(bif Wj then(some (!(bk==cu))).bind λjG=>(fI x9).bind λiO=>(fI c9).bind λgI=>(some ((iO*gI)%18446744073709551616)).bind λoF=>(ig jG oF).bind λ⟨OG,OH⟩=>some ⟨OG,OH⟩else(some (!(bk==cu))).bind λpg=>(jI x9 c9).bind λvW=>(dr pg vW).bind λ⟨vh,vi⟩=>some ⟨vh,vi⟩)) λK3=>(some (x9.length:Int)).bind λei=>(some (decide ((ei:Int)<=1))).bind λdH=>(bif dH then(some (c9.length:Int)).bind λeX=>(some (decide ((eX:Int)<=1))).bind λjl=>some jl else some false).bind λaci=>K3 aci
noncomputable def jw(x0:Zr):Option (Zr):=match x0 with|⟨bk,bn⟩=>(some (!bk)).bind λx5=>(bP bn).bind λx8=>(gH x8).bind λx9=>(dr x5 x9).bind λ⟨AY,AZ⟩=>some ⟨AY,AZ⟩
noncomputable def dY(x0:Zr):Option (Int):=match x0 with|⟨bk,bn⟩=>(bP bn).bind λx6=>(some (x6.length:Int)).bind λx7=>(some (decide ((x7:Int)=0))).bind λx8=>(bif x8 then some 0 else(bif bk then some (-1)else some 1))
noncomputable def tW(x0:Zr)(x1:Zr):Option (Int):=match x0 with|⟨bk,bn⟩=>match x1 with|⟨cu,cm⟩=>(dY ⟨bk,bn⟩).bind λx8=>(dY ⟨cu,cm⟩).bind λdI=>(some (decide ((x8:Int)<dI))).bind λei=>(bif ei then some (-1)else(some (decide ((dI:Int)<x8))).bind λeX=>(bif eX then some 1 else(some (decide ((x8:Int)<0))).bind λfL=>(bif fL then(bP cm).bind λgX=>(bP bn).bind λiO=>(dU gX iO).bind λkT=>some kT else(bP bn).bind λnV=>(bP cm).bind λsY=>(dU nV sY).bind λku=>some ku)))
noncomputable def iE(x0:Zr)(x1:Zr):Option (Zr×Zr×Int):=match x0 with|⟨bk,bn⟩=>match x1 with|⟨cu,cm⟩=>(bP bn).bind λeD=>(bP cm).bind λfB=>(some (fB.length:Int)).bind λeX=>(some (decide ((eX:Int)=0))).bind λjl=>(bif jl then some (⟨false,[]⟩,⟨false,[]⟩,7)else(jJ eD fB).bind λ⟨Ii,Mr⟩=>(bP Mr).bind λgI=>cE (λ(j3:Bool×Bool)=>match j3 with|⟨Wk,CW⟩=>cE (λ(j5:(List Nat)×(List Nat))=>match j5 with|⟨Wm,OI⟩=>(some (!(CW==cu))).bind λsF=>(dr sF Wm).bind λ⟨OJ,OK⟩=>(dr false OI).bind λ⟨Le,Lf⟩=>some (⟨OJ,OK⟩,⟨Le,Lf⟩,0)) λK5=>(bif Wk then(gW Ii [1]).bind λvW=>(eJ fB gI).bind λnF=>K5 (vW,nF)else K5 (Ii,gI))) λK3=>(bif bk then(some (gI.length:Int)).bind λsY=>(some (decide ((0:Int)<sY))).bind λku=>some ku else some false).bind λacj=>K3 (acj,bk))
noncomputable def qx(x0:Zr)(x1:Zr):Option (Zr):=match x0 with|⟨bk,bn⟩=>match x1 with|⟨cu,cm⟩=>(bP bn).bind λeD=>(bP cm).bind λfB=>(bX (λ(z9:(List Nat)×(List Nat))=>match z9 with|⟨GD,sG⟩=>(show Option (((List Nat)×(List Nat))⊕((List Nat)×(List Nat)))from cE (λ(Ra:Bool)=>(bif Ra then(jJ GD sG).bind λ⟨amM,ai0⟩=>(bP ai0).bind λqX=>some (.inl (sG,qX))else some (.inr (GD,sG)))) λK16=>(some (sG.length:Int)).bind λeX=>(some (decide ((0:Int)<eX))).bind λjl=>(bif jl then(some (GD.length:Int)).bind λiA=>(some (decide ((2:Int)<iA))).bind λjg=>(bif jg then some true else(some (sG.length:Int)).bind λjH=>(some (decide ((2:Int)<jH))).bind λiO=>some iO).bind λWn=>some Wn else some false).bind λWo=>K16 Wo)) (eD,fB)).bind λUo=>match Uo with|⟨Wp,Wq⟩=>(some (Wq.length:Int)).bind λnk=>(some (decide ((nk:Int)=0))).bind λyE=>(bif yE then(gH Wp).bind λvf=>(dr false vf).bind λ⟨F8,F9⟩=>some ⟨F8,F9⟩else(fI Wp).bind λvg=>(fI Wq).bind λsj=>(bX (λ(s24:Nat×Nat)=>match s24 with|⟨SZ,Fh⟩=>(show Option ((Nat×Nat)⊕(Nat))from(some (decide ((0:Nat)<Fh))).bind λAy=>(bif Ay then(Kb SZ Fh).bind λCc=>some (.inl (Fh,Cc))else some (.inr SZ)))) (vg,sj)).bind λLg=>(ig false Lg).bind λ⟨lQ,lS⟩=>some ⟨lQ,lS⟩)
end
section
open Go.Fw Go.Fw.Z Go.RowKit
theorem gY(c:Nat):aet ah 186 [.v (.int .u64 (c:Nat))] 202 128 [.v (.int .u64 (c:Nat))]:=by
 refine QT Tryz.func186 Y (af Y) (λdw M vs hvs=>?_);exact sr<|RT.EY .none (s:=.sv _) Y T Y Y<|ag Y<|dn<|sr<|RT.makeFunc .none (.box Y (.nil)) T<|an (s:=.kU _ _) Y<|dn<|bf<|⟨.inr Y,_,.tmp Y,Y⟩
theorem A0(a b:List Nat):Pure ah 206 [(slc 1 (List.map bh a)),(slc 1 (List.map bh b))] (o5 214 [ref [(slc 1 (List.map bh a))],ref [(slc 1 (List.map bh b))]]):=by
 refine bj Tryz.func206 Y (af Y) (λdw M vs hvs=>?_);refine sr<|RT.EY .none (s:=.sv _) Y T Y Y<|RT.EY .none (s:=.sv _) Y T Y Y<|ag Y<|dn<|sr<|RT.makeFunc .none (.box Y (.box Y (.nil))) T<|an (s:=.kU _ _) Y<|dn<|bR (iU (i:=2) Y [(slc 1 (List.map bh a))] (.cons Y .nil) .any 0 [(4,.kU 214 [.val (ref [(slc 1 (List.map bh a))]),.box 3])] (λ_ _ _=>trivial) (xo.h (l:=[(slc 1 (List.map bh a))])) ⟨@FT.kU _ _ _ _ _ 4 214 [.box 2,.box 3] Y,aq⟩) ?_;exact bR (iU (i:=3) Y [(slc 1 (List.map bh b))] (.cons Y .nil) .any 0 [(4,.kU 214 [.val (ref [(slc 1 (List.map bh a))]),.val (ref [(slc 1 (List.map bh b))])])] (λ_ _ _=>trivial) (xo.h (l:=[(slc 1 (List.map bh b))])) ⟨@FT.kU _ _ _ _ _ 4 214 [.val (ref [(slc 1 (List.map bh a))]),.box 3] Y,aq⟩)<|bR (QX 4 (o5 214 [ref [(slc 1 (List.map bh a))],ref [(slc 1 (List.map bh b))]]) (λ_ _ h=>QY h))<|bf<|⟨.inr Y,QL (.tmp Y (.nil)) Y⟩
theorem A3(a b:List Nat):Iter ah 214 [ref [(slc 1 (List.map bh a))],ref [(slc 1 (List.map bh b))]] (max a.length b.length) (λk=>[.v (.int .u64 ((a.getD k 0%18446744073709551616:Nat):Int)),.v (.int .u64 ((b.getD k 0%18446744073709551616:Nat):Int))]):=by
 refine CK Tryz.func214 Y Y (af Y) (λdw M O l J hJ JX hr=>?_);obtain⟨xA,JX⟩:=JX;have hla:a.length<=9223372036854775807:=by cases xA with|nil=>exact JX.elim|cons _ xA=>exact G7 JX.1
 have hlb:b.length<=9223372036854775807:=by cases xA with|nil=>exact JX.elim|cons _ xA=>cases xA with|nil=>exact JX.2.elim|cons _ _=>exact G7 JX.2.1
 refine cq ?_;refine aX ?_;refine RT.fX .none Y Y (tl Y) ?_;refine RT.len .none Y (tl Y) ?_;refine RT.fX .none Y Y (tl Y) ?_;refine RT.len .none Y (tl Y) ?_;refine RT.max .none (((max a.length b.length:Nat):Int)) Y Y (tl Y) (by simp only[List.length_map];split<;>omega) ?_;refine RT.mv .none Y (tl Y) ?_;refine RT.done ?_;refine aW.n ?_;refine aY ?_
 refine GZ (I:=λx:{i:Nat//i<=max a.length b.length}=>AS.cj 39 [(0,.sv (.v (.func (.yield l) #[] #[]))),(1,.sv (ref [(slc 1 (List.map bh a))])),(2,.sv (ref [(slc 1 (List.map bh b))])),(11,ai ((max a.length b.length:Nat):Int)),(12,ai ((x.1:Nat):Int))] [] [] (x.1)) (μ:=λx=>max a.length b.length-x.1) ⟨0,by omega⟩ (by(try dsimp only);exact cD id Y Y Y Y Y ⟨.sv (by first|exact au|exact SV.bA (by omega)|exact SV.bA (by push_cast;omega)|exact SV.bA (by dsimp only;omega)|exact SV.imp_eq (by simp)),.sv (by first|exact au|exact SV.bA (by omega)|exact SV.bA (by push_cast;omega)|exact SV.bA (by dsimp only;omega)|exact SV.imp_eq (by simp)),.sv (by first|exact au|exact SV.bA (by omega)|exact SV.bA (by push_cast;omega)|exact SV.bA (by dsimp only;omega)|exact SV.imp_eq (by simp)),.sv (by first|exact au|exact SV.bA (by omega)|exact SV.bA (by push_cast;omega)|exact SV.bA (by dsimp only;omega)|exact SV.imp_eq (by simp)),.sv (by first|exact au|exact SV.bA (by omega)|exact SV.bA (by push_cast;omega)|exact SV.bA (by dsimp only;omega)|exact SV.imp_eq (by simp)),aq⟩ trivial trivial (λ_ _=>Y)) ?_;rintro⟨i,hi0⟩
 try dsimp only
 rcases H9 a b i hi0 with⟨hi,E4,J8⟩|⟨hi,E4,J8⟩|⟨hi,E4,J8⟩|hi
 ·
  refine cq ?_;refine aX ?_;refine RT.lss .none (true) Y Y (tl Y) (by simp;omega) ?_;refine RT.done ?_;refine aW.n ?_;refine cq ?_;refine fe Y ?_;refine bw ?_;refine aW.n ?_;refine cq ?_;refine aY ?_;refine cq ?_;refine aX ?_;refine RT.mv .none Y (tl Y) ?_;refine RT.Ma .none Y (tl Y) ?_;refine RT.done ?_;refine aW.n ?_;refine cq ?_;refine aX ?_;refine RT.Ma .none Y (tl Y) ?_;refine RT.Ma .none Y (tl Y) ?_;refine RT.done ?_;refine aW.n ?_;refine cq ?_;refine cq ?_;refine aX ?_;refine RT.mv .none Y (tl Y) ?_;refine RT.fX .none Y Y (tl Y) ?_;refine RT.len .none Y (tl Y) ?_;refine RT.lss .none (true) Y Y (tl Y) (by simp only[List.length_map];simp;omega) ?_;refine RT.done ?_;refine aW.n ?_;refine fe Y ?_;refine aX ?_;refine RT.fX .none Y Y (tl Y) ?_;refine RT.mv .none Y (tl Y) ?_;refine RT.ixA .none [.v (.int .u32 ((a.getD i 0:Nat):Int))] (Int.natCast_nonneg i) (by rw[Int.toNat_natCast,List.getElem?_map,AO E4];rfl) Y Y (tl Y) ?_;refine RT.fX .none Y Y (tl Y) ?_;refine RT.conv .none (((a.getD i 0%18446744073709551616:Nat):Int)) Y (tl Y) Z4 ?_;refine RT.Ma .none Y (tl Y) ?_;refine RT.done ?_;refine aW.n ?_;refine cq ?_;refine cq ?_;refine aX ?_;refine RT.mv .none Y (tl Y) ?_
  refine RT.fX .none Y Y (tl Y) ?_;refine RT.len .none Y (tl Y) ?_;refine RT.lss .none (true) Y Y (tl Y) (by simp only[List.length_map];simp;omega) ?_;refine RT.done ?_;refine aW.n ?_;refine fe Y ?_;refine aX ?_;refine RT.fX .none Y Y (tl Y) ?_;refine RT.mv .none Y (tl Y) ?_;refine RT.ixA .none [.v (.int .u32 ((b.getD i 0:Nat):Int))] (Int.natCast_nonneg i) (by rw[Int.toNat_natCast,List.getElem?_map,AO J8];rfl) Y Y (tl Y) ?_;refine RT.fX .none Y Y (tl Y) ?_;refine RT.conv .none (((b.getD i 0%18446744073709551616:Nat):Int)) Y (tl Y) Z4 ?_;refine RT.Ma .none Y (tl Y) ?_;refine RT.done ?_;refine aW.n ?_;refine cq ?_;refine aX ?_;refine RT.mv .none Y (tl Y) ?_;refine RT.mv .none Y (tl Y) ?_;refine RT.mv .none Y (tl Y) ?_;refine RT.yield .none hr Y (λ_ h=>h) Y (i) Y Y hi (by exact⟨Y,Y,aq⟩) (tl Y) (λyb=>?_);cases yb
  ·
   refine RT.not .none Y (tl Y) true Y ?_;refine RT.done ?_;refine aW.n ?_;refine fe Y ?_;refine bf ?_;refine bF.r ?_;refine aW.r ?_;refine aW.r ?_;refine bF.r ?_;exact⟨.inr rfl,(λh=>by cases h)⟩
  refine RT.not .none Y (tl Y) false Y ?_;refine RT.done ?_;refine aW.n ?_;refine je Y ?_;refine bw ?_;refine bF.n ?_;refine aW.n ?_;refine aX ?_;refine RT.add .none (((i:Nat):Int)+1) Y Y (tl Y) (uL (by omega)) ?_;refine RT.mv .none Y (tl Y) ?_;refine RT.done ?_;refine aW.n ?_;refine⟨⟨i+1,by omega⟩,(by dsimp only;omega),?_⟩
  try dsimp only
  exact cD id Y Y Y Y Y ⟨.sv (by first|exact au|exact SV.bA (by omega)|exact SV.bA (by push_cast;omega)|exact SV.bA (by dsimp only;omega)|exact SV.imp_eq (by simp)),.sv (by first|exact au|exact SV.bA (by omega)|exact SV.bA (by push_cast;omega)|exact SV.bA (by dsimp only;omega)|exact SV.imp_eq (by simp)),.sv (by first|exact au|exact SV.bA (by omega)|exact SV.bA (by push_cast;omega)|exact SV.bA (by dsimp only;omega)|exact SV.imp_eq (by simp)),.sv (by first|exact au|exact SV.bA (by omega)|exact SV.bA (by push_cast;omega)|exact SV.bA (by dsimp only;omega)|exact SV.imp_eq (by simp)),.sv (by first|exact au|exact SV.bA (by omega)|exact SV.bA (by push_cast;omega)|exact SV.bA (by dsimp only;omega)|exact SV.imp_eq (by simp)),aq⟩ trivial trivial (λ_ _=>Y)
 ·
  refine cq ?_;refine aX ?_;refine RT.lss .none (true) Y Y (tl Y) (by simp;omega) ?_;refine RT.done ?_;refine aW.n ?_;refine cq ?_;refine fe Y ?_;refine bw ?_;refine aW.n ?_;refine cq ?_;refine aY ?_;refine cq ?_;refine aX ?_;refine RT.mv .none Y (tl Y) ?_;refine RT.Ma .none Y (tl Y) ?_;refine RT.done ?_;refine aW.n ?_;refine cq ?_;refine aX ?_;refine RT.Ma .none Y (tl Y) ?_;refine RT.Ma .none Y (tl Y) ?_;refine RT.done ?_;refine aW.n ?_;refine cq ?_;refine cq ?_;refine aX ?_;refine RT.mv .none Y (tl Y) ?_;refine RT.fX .none Y Y (tl Y) ?_;refine RT.len .none Y (tl Y) ?_;refine RT.lss .none (true) Y Y (tl Y) (by simp only[List.length_map];simp;omega) ?_;refine RT.done ?_;refine aW.n ?_;refine fe Y ?_;refine aX ?_;refine RT.fX .none Y Y (tl Y) ?_;refine RT.mv .none Y (tl Y) ?_;refine RT.ixA .none [.v (.int .u32 ((a.getD i 0:Nat):Int))] (Int.natCast_nonneg i) (by rw[Int.toNat_natCast,List.getElem?_map,AO E4];rfl) Y Y (tl Y) ?_;refine RT.fX .none Y Y (tl Y) ?_;refine RT.conv .none (((a.getD i 0%18446744073709551616:Nat):Int)) Y (tl Y) Z4 ?_;refine RT.Ma .none Y (tl Y) ?_;refine RT.done ?_;refine aW.n ?_;refine cq ?_;refine cq ?_;refine aX ?_;refine RT.mv .none Y (tl Y) ?_
  refine RT.fX .none Y Y (tl Y) ?_;refine RT.len .none Y (tl Y) ?_;refine RT.lss .none (false) Y Y (tl Y) (by simp only[List.length_map];simp;omega) ?_;refine RT.done ?_;refine aW.n ?_;refine je Y ?_;refine bw ?_;refine aW.n ?_;refine cq ?_;refine aX ?_;refine RT.mv .none Y (tl Y) ?_;refine RT.mv .none Y (tl Y) ?_;refine RT.mv .none Y (tl Y) ?_;refine RT.yield .none hr Y (λ_ h=>h) Y (i) Y Y hi (by exact⟨Y,(by show AV.sv _=AV.sv _;rw[CR J8];rfl),aq⟩) (tl Y) (λyb=>?_);cases yb
  ·
   refine RT.not .none Y (tl Y) true Y ?_;refine RT.done ?_;refine aW.n ?_;refine fe Y ?_;refine bf ?_;refine bF.r ?_;refine aW.r ?_;refine aW.r ?_;refine bF.r ?_;exact⟨.inr rfl,(λh=>by cases h)⟩
  refine RT.not .none Y (tl Y) false Y ?_;refine RT.done ?_;refine aW.n ?_;refine je Y ?_;refine bw ?_;refine bF.n ?_;refine aW.n ?_;refine aX ?_;refine RT.add .none (((i:Nat):Int)+1) Y Y (tl Y) (uL (by omega)) ?_;refine RT.mv .none Y (tl Y) ?_;refine RT.done ?_;refine aW.n ?_;refine⟨⟨i+1,by omega⟩,(by dsimp only;omega),?_⟩
  try dsimp only
  exact cD id Y Y Y Y Y ⟨.sv (by first|exact au|exact SV.bA (by omega)|exact SV.bA (by push_cast;omega)|exact SV.bA (by dsimp only;omega)|exact SV.imp_eq (by simp)),.sv (by first|exact au|exact SV.bA (by omega)|exact SV.bA (by push_cast;omega)|exact SV.bA (by dsimp only;omega)|exact SV.imp_eq (by simp)),.sv (by first|exact au|exact SV.bA (by omega)|exact SV.bA (by push_cast;omega)|exact SV.bA (by dsimp only;omega)|exact SV.imp_eq (by simp)),.sv (by first|exact au|exact SV.bA (by omega)|exact SV.bA (by push_cast;omega)|exact SV.bA (by dsimp only;omega)|exact SV.imp_eq (by simp)),.sv (by first|exact au|exact SV.bA (by omega)|exact SV.bA (by push_cast;omega)|exact SV.bA (by dsimp only;omega)|exact SV.imp_eq (by simp)),aq⟩ trivial trivial (λ_ _=>Y)
 ·
  refine cq ?_;refine aX ?_;refine RT.lss .none (true) Y Y (tl Y) (by simp;omega) ?_;refine RT.done ?_;refine aW.n ?_;refine cq ?_;refine fe Y ?_;refine bw ?_;refine aW.n ?_;refine cq ?_;refine aY ?_;refine cq ?_;refine aX ?_;refine RT.mv .none Y (tl Y) ?_;refine RT.Ma .none Y (tl Y) ?_;refine RT.done ?_;refine aW.n ?_;refine cq ?_;refine aX ?_;refine RT.Ma .none Y (tl Y) ?_;refine RT.Ma .none Y (tl Y) ?_;refine RT.done ?_;refine aW.n ?_;refine cq ?_;refine cq ?_;refine aX ?_;refine RT.mv .none Y (tl Y) ?_;refine RT.fX .none Y Y (tl Y) ?_;refine RT.len .none Y (tl Y) ?_;refine RT.lss .none (false) Y Y (tl Y) (by simp only[List.length_map];simp;omega) ?_;refine RT.done ?_;refine aW.n ?_;refine je Y ?_;refine bw ?_;refine aW.n ?_;refine cq ?_;refine cq ?_;refine aX ?_;refine RT.mv .none Y (tl Y) ?_;refine RT.fX .none Y Y (tl Y) ?_;refine RT.len .none Y (tl Y) ?_;refine RT.lss .none (true) Y Y (tl Y) (by simp only[List.length_map];simp;omega) ?_;refine RT.done ?_;refine aW.n ?_;refine fe Y ?_;refine aX ?_;refine RT.fX .none Y Y (tl Y) ?_;refine RT.mv .none Y (tl Y) ?_
  refine RT.ixA .none [.v (.int .u32 ((b.getD i 0:Nat):Int))] (Int.natCast_nonneg i) (by rw[Int.toNat_natCast,List.getElem?_map,AO J8];rfl) Y Y (tl Y) ?_;refine RT.fX .none Y Y (tl Y) ?_;refine RT.conv .none (((b.getD i 0%18446744073709551616:Nat):Int)) Y (tl Y) Z4 ?_;refine RT.Ma .none Y (tl Y) ?_;refine RT.done ?_;refine aW.n ?_;refine cq ?_;refine aX ?_;refine RT.mv .none Y (tl Y) ?_;refine RT.mv .none Y (tl Y) ?_;refine RT.mv .none Y (tl Y) ?_;refine RT.yield .none hr Y (λ_ h=>h) Y (i) Y Y hi (by exact⟨(by show AV.sv _=AV.sv _;rw[CR E4];rfl),Y,aq⟩) (tl Y) (λyb=>?_);cases yb
  ·
   refine RT.not .none Y (tl Y) true Y ?_;refine RT.done ?_;refine aW.n ?_;refine fe Y ?_;refine bf ?_;refine bF.r ?_;refine aW.r ?_;refine aW.r ?_;refine bF.r ?_;exact⟨.inr rfl,(λh=>by cases h)⟩
  refine RT.not .none Y (tl Y) false Y ?_;refine RT.done ?_;refine aW.n ?_;refine je Y ?_;refine bw ?_;refine bF.n ?_;refine aW.n ?_;refine aX ?_;refine RT.add .none (((i:Nat):Int)+1) Y Y (tl Y) (uL (by omega)) ?_;refine RT.mv .none Y (tl Y) ?_;refine RT.done ?_;refine aW.n ?_;refine⟨⟨i+1,by omega⟩,(by dsimp only;omega),?_⟩
  try dsimp only
  exact cD id Y Y Y Y Y ⟨.sv (by first|exact au|exact SV.bA (by omega)|exact SV.bA (by push_cast;omega)|exact SV.bA (by dsimp only;omega)|exact SV.imp_eq (by simp)),.sv (by first|exact au|exact SV.bA (by omega)|exact SV.bA (by push_cast;omega)|exact SV.bA (by dsimp only;omega)|exact SV.imp_eq (by simp)),.sv (by first|exact au|exact SV.bA (by omega)|exact SV.bA (by push_cast;omega)|exact SV.bA (by dsimp only;omega)|exact SV.imp_eq (by simp)),.sv (by first|exact au|exact SV.bA (by omega)|exact SV.bA (by push_cast;omega)|exact SV.bA (by dsimp only;omega)|exact SV.imp_eq (by simp)),.sv (by first|exact au|exact SV.bA (by omega)|exact SV.bA (by push_cast;omega)|exact SV.bA (by dsimp only;omega)|exact SV.imp_eq (by simp)),aq⟩ trivial trivial (λ_ _=>Y)
 subst hi;refine cq ?_;refine aX ?_;refine RT.lss .none (false) Y Y (tl Y) (by simp) ?_;refine RT.done ?_;refine aW.n ?_;refine cq ?_;refine je Y ?_;refine bN ?_;refine aW.x ?_;refine aW.x ?_;refine bF.x ?_;exact⟨.inl Y,(λ_=>Y)⟩
theorem yG{x0 r:List Nat}(h:gH x0=some r):Gy ah 175 [slc 1 (List.map bh x0)] (TR 130 1 bh r):=by
 refine wc Tryz.func175 Y (af Y) (λdw M vs hvs=>?_);unfold gH at h;refine sr<|ag Y<|dn<|qq<|sr<|mv Y ?_;refine RT.aiq .none Y T (λnb hnb=>?_);cases nb;exact dn<|fs<|sr<|RT.Mh (l:=([]:List Nat)) (e:=bh) .none .nil T Y T Y Y Y Y Y Y<|mv Y<|aR (k:=x0) (e:=bh) Y Y Y h<|an (s:=.row _) Y<|dn<|bf<|⟨.inr Y,_,.tmp Y,Y⟩;have hx:x0=[]:=by simpa using hnb Y
 subst hx;obtain⟨_,_,rfl⟩:=AN h;exact dn<|cT<|sr<|ag Y<|dn<|bR (c8 2 300 130 1 Y Y T)<|bf<|aW.r<|⟨.inr Y,_,.tmp Y,Y⟩
theorem dh{x0:Nat}{c0:Nat}{r:Nat×Nat}(h:cK x0 c0=some r):ZY ah 202 [.v (.int .u64 ((x0:Nat):Int))] 128 [.v (.int .u64 ((c0:Nat):Int))] (.v (.int .u32 ((r.1:Nat):Int))) [.v (.int .u64 ((r.2:Nat):Int))]:=by
 refine QS Tryz.func202 Y (af Y) (λdw M β=>?_);unfold cK at h;refine sr<|ag Y<|dn<|sr<|mv Y<|lV Y Y Y<|lE h λx6 h6 h=>ad _ Y Y (UK.add (a:=x0) (b:=c0) h6)<|ag Y<|dn<|sr<|mv Y<|lE h λx8 h8 h=>RT.shr .none _ Y Y T (by decide) (Mf (k:=.u64) (a:=x6) (q:=32) (s:=32) Y h8)<|RT.AI (cells:=[_]) .none (s:=.sv _) Y Y Y T Y<|dn<|sr<|mv Y<|lE h λdI gC h=>cv _ Y (UK.nat gC)<|ag Y ?_;refine dn<|bf ?_;obtain rfl:=O h;exact⟨.inr Y,lz (.tmp Y (.nil)) au,Y⟩
theorem dx{x0:List Nat}{r:List Nat}(h:bP x0=some r):Pure ah 144 [slc 1 (List.map bh x0)] (slc 1 (List.map bh r)):=by
 refine bj Tryz.func144 Y (af Y) (λdw M vs hvs=>?_);unfold bP at h;refine sr<|aI Y (aC (n:=1) (e:=bh))<|dn<|qq<|bE h λFi yg pq=>?_;refine bK (λ(Ib:(List Nat))=>AS.cj 21 [(0,.sv (slc 1 (List.map bh Ib)))] [] []) (λIb=>Ib=Fi) ?_ (λIb yh=>?_);refine aY ?_;refine bL yg (λuH=>AS.cj 21 [(0,.sv (slc 1 (List.map bh uH)))] [] []) (wR []) (λGB ZA ZB h yj uN=>?_)
 try dsimp only
 refine qq<|qq ?_;refine bJ h (λGF=>AS.cj 21 [(0,.sv (slc 1 (List.map bh GB))),(14,aj GF)] [] []) (λh=>?_) (λIa h=>?_);refine aX<|mv Y<|lE h λx4 h4 h=>ln Y h4<|lE h λx5 h5 h=>gt _ Y Y h5<|mv Y<|bE h λFb dD h=>?_;cases x5;obtain rfl:=O (F dD);exact ww<|ww<|ww<|ww<|ww<|ww<|ww<|pF Y<|dn<|⟨false,h,wR []⟩;refine gm Y<|gm Y<|lE (V dD) λx9 h9 dD=>gn Y h9<|lE dD λdI gC dD=>RT.sub (.some Y Y) _ Y Y T gC<|bE dD λfz lq dD=>RT.Ug (.some Y Y) Y Y T lq<|gr Y Y<|lE dD λeD iF dD=>Uh _ Y Y (eqN (p:=fz) (q:=0) iF) ?_;obtain rfl:=O dD;exact pT Y<|dn<|⟨eD,h,wR []⟩
 try dsimp only
 refine aW.n ?_;cases Ia;refine cF<|bN<|aW.x<|aW.x<|bF.x<|aW.n ?_;obtain rfl:=O (F h);exact⟨GB,uN _ Y,wR []⟩;refine cT<|bw<|aW.n<|aY<|aX<|mv Y<|mv Y<|lE (V h) λdX jO h=>ln Y jO<|lE h λeX jK h=>sb _ Y Y jK<|bE h λjl mz h=>RT.H8 .none 0 eX Y Y ⟨_,Y⟩ T mz<|ag Y<|RT.done<|bF.n ?_;obtain rfl:=O h;exact aW.n ⟨jl,yj _ Y,wR []⟩;subst yh
 try dsimp only
 refine aW.n<|sr<|mv Y<|ag Y<|dn<|bf ?_;obtain rfl:=O pq;exact R1 Y
abbrev ax:SV:=slc 1 (List.map bh [])
theorem nY{x0:Bool}{x1:Nat}(N:Nat){r:Zr}(h:ig x0 x1=some r):dK ah 137 N [aA x0,.v (.int .u64 ((x1:Nat):Int))] (.agg ((fZ N) r)):=by
 refine bU Tryz.func137 Y (af Y) (λdw M vs hN hvs=>?_);unfold ig at h;refine sr<|al (cs:=[aA false,nw N ax]) (by exact⟨au,bu,aq⟩) Y<|dn<|qq<|aY<|sr<|mv Y<|lE h λx7 h7 h=>eq _ Y Y (eqN (p:=x1) (q:=0) h7)<|ag Y<|dn ?_;cases x7;refine cF<|sr<|mv Y<|lE (F h) λfz lq h=>RT.shr .none _ Y Y T (by decide) (Mf (k:=.u64) (a:=x1) (q:=32) (s:=32) Y lq)<|lE h λc9 fC h=>eq _ Y Y (eqN (p:=fz) (q:=0) fC)<|ag Y<|dn ?_;cases c9;refine cF<|bw<|bF.n<|aW.n<|sr<|mv Y<|mv Y<|lE (F h) λij oG h=>cv _ Y (UK.nat oG)<|mv Y<|lE h λiA oH h=>RT.shr .none _ Y Y T (by decide) (Mf (k:=.u64) (a:=x1) (q:=32) (s:=32) Y oH)<|lE h λjg qP h=>cv _ Y (UK.nat qP)<|RT.DE (l:=[ij,jg]) (e:=bh) .none hN (.one Y (.one Y (.nil))) T Y Y Y Y Y Y<|bI (cs:=[_,_]) (cs':=[aA x0,nw N (slc 1 (List.map bh [ij,jg]))]) (.one Y (.one Y (.nil))) ⟨au,au,aq⟩ ?_;refine so Y Y Y<|dn<|bf ?_;obtain rfl:=O h;exact RZ (.agg Y Y (.k2 Y Y) Y (.nil));refine cT<|sr<|mv Y<|mv Y<|lE (V h) λdH gD h=>cv _ Y (UK.nat gD)<|RT.DE (l:=[dH]) (e:=bh) .none hN (.one Y (.nil)) T Y Y Y Y Y Y<|bI (cs:=[_,_]) (cs':=[aA x0,nw N (slc 1 (List.map bh [dH]))]) (.one Y (.one Y (.nil))) ⟨au,au,aq⟩<|so Y Y Y<|dn<|bf<|bF.r<|aW.r ?_;obtain rfl:=O h
 exact RZ (.agg Y Y (.k2 Y Y) Y (.nil));refine cT<|sr<|bI (cs:=[_,_]) (cs':=[aA false,nw N ax]) (.nil) ⟨au,bu,aq⟩<|so Y Y Y<|dn<|bf<|bF.r<|aW.r ?_;obtain rfl:=O (V h);exact RZ (.agg Y Y (.k2 Y Y) Y (.nil))
theorem mN{x0:List Nat}{r:Nat}(h:fI x0=some r):Pure ah 162 [slc 1 (List.map bh x0)] (.v (.int .u64 ((r:Nat):Int))):=by
 refine bj Tryz.func162 Y (af Y) (λdw M vs hvs=>?_);unfold fI at h;refine sr<|ag Y<|dn<|qq<|sr<|mv Y<|lE h λx4 h4 h=>ln Y h4<|dn<|aY<|sr<|lE h λx6 h6 h=>eq _ Y Y (ve (p:=x4) (q:=0) h6)<|ag Y<|dn ?_;cases x6;refine cF<|sr<|lE (F h) λx8 h8 h=>eq _ Y Y (ve (p:=x4) (q:=1) h8)<|ag Y<|dn ?_;cases x8;refine cF<|bw<|bF.n<|aW.n<|qq<|aZ mixed<|mv Y<|bE (F h) λei jx h=>ix Y Y jx<|lr Y Y<|lE h λfB lu h=>cv _ Y (UK.nat lu)<|mv Y<|bE h λeX jK h=>ix Y Y jK<|lr Y Y<|lE h λij oG h=>cv _ Y (UK.nat oG)<|lE h λfL ke h=>RT.shl .none _ Y Y T (by decide) (UK.shl (a:=ij) (q:=32) (s:=32) Y ke)<|lE h λiA oH h=>RT.or .none _ Y Y T (UK.or (a:=fB) (b:=fL) oH) ?_;refine ag Y ?_;refine RT.done ⟨by kernel_rfl,?_⟩;refine aW.n<|bf ?_;obtain rfl:=O h;exact R1 Y;refine cT<|sr<|mv Y<|bE (V h) λdI gC h=>ix Y Y gC<|lr Y Y<|lE h λc9 fC h=>cv _ Y (UK.nat fC)<|ag Y<|dn<|bf<|bF.r<|aW.r ?_;obtain rfl:=O h;exact R1 Y;refine cT<|sr<|ag Y<|dn<|bf<|bF.r<|aW.r ?_;obtain rfl:=O (V h);exact R1 Y
theorem jY{x0:List Nat}{x1:List Nat}{r:Int}(h:dU x0 x1=some r):Pure ah 161 [slc 1 (List.map bh x0),slc 1 (List.map bh x1)] (ay r):=by
 refine bj Tryz.func161 Y (af Y) (λdw M vs hvs=>?_);unfold dU at h;refine sr<|ag Y<|dn<|qq<|sr<|mv Y<|lE h λx7 h7 h=>ln Y h7<|mv Y<|lE h λx9 h9 h=>ln Y h9<|lE h λdI gC h=>ne _ Y Y (JV (p:=x7) (q:=x9) gC)<|dn ?_;cases dI;refine fs<|qq<|sr<|mv Y<|lE (F h) λdX jO h=>ln Y jO<|lE h λeX jK h=>sb _ Y Y jK<|ag Y<|dn<|bE h λe6 vA jo=>?_;refine bK (λ(uI:Unit)=>AS.cj 41 [] [] []) (λuI=>.inl uI=e6) ?_ (λuI vB=>?_);refine aY ?_;refine bL vA (λs6=>AS.cj 41 [(0,.sv (slc 1 (List.map bh x0))),(1,.sv (slc 1 (List.map bh x1))),(5,ai s6)] [] []) (wR []) (λiD y6 G6 h vC qy=>?_)
 try dsimp only
 refine qq<|sr<|mv Y<|lE h λij oG h=>ge _ Y Y oG<|dn ?_;cases ij;refine cF<|bN<|aW.x<|aW.x<|bF.x<|aW.n ?_;obtain rfl:=O (F h);exact⟨(),qy _ Y,wR []⟩;refine cT<|bw<|aW.n<|qq<|aY<|qq<|aZ mixed<|mv Y<|mv Y<|bE (V h) λjG nP h=>ix Y Y nP<|lr Y Y<|mv Y<|mv Y<|bE h λgI m7 h=>ix Y Y m7<|lr Y Y<|lE h λnV yy h=>ne _ Y Y (neN (p:=jG) (q:=gI) yy) ?_;refine RT.done ⟨by kernel_rfl,?_⟩;refine aW.n ?_;cases nV;refine cF<|bw<|bF.n<|aW.n<|aX<|mv Y<|lE (F h) λiA oH h=>sb _ Y Y oH<|ag Y<|RT.done ?_;obtain rfl:=O h;exact aW.n ⟨iA,vC _ Y,wR []⟩;refine cT<|qq<|qq<|aZ mixed<|mv Y<|mv Y<|bE (V h) λsY xp h=>ix Y Y xp<|lr Y Y<|mv Y<|mv Y<|bE h λqX Av h=>ix Y Y Av<|lr Y Y<|lE h λnk vm h=>ls _ Y Y (ltN (p:=sY) (q:=qX) vm) ?_;refine RT.done ⟨by kernel_rfl,?_⟩;refine aW.n ?_;cases nk;refine fs<|sr<|ag Y<|dn<|bf<|bF.r<|aW.r ?_;obtain rfl:=O (F h);have GG:=qy _ Y;subst GG;refine aW.r<|bF.r<|aW.r<|aW.r ?_;obtain rfl:=O jo;exact R1 Y;refine cT<|sr<|ag Y<|dn<|bf<|aW.r<|bF.r<|aW.r ?_;obtain rfl:=O (V h);have GG:=qy _ Y;subst GG;refine aW.r<|bF.r<|aW.r<|aW.r ?_;obtain rfl:=O jo;exact R1 Y;subst vB
 try dsimp only
 refine aW.n<|sr<|ag Y<|dn<|bf ?_;obtain rfl:=O jo;exact R1 Y;refine cT<|qq<|sr<|mv Y<|lE (V h) λc9 fC h=>ln Y fC<|mv Y<|lE h λei jx h=>ln Y jx<|lE h λdH gD h=>ls _ Y Y gD<|dn ?_;cases dH;refine fs<|sr<|ag Y<|dn<|bf<|aW.r ?_;obtain rfl:=O (F h);exact R1 Y;refine cT<|sr<|ag Y<|dn<|bf<|aW.r<|aW.r ?_;obtain rfl:=O (V h);exact R1 Y
theorem xC{x0:List Nat}{x1:List Nat}(N:Nat){r:List Nat}(h:gW x0 x1=some r):dK ah 194 N [slc 1 (List.map bh x0),slc 1 (List.map bh x1)] (nw N (slc 1 (List.map bh r))):=by
 refine bU Tryz.func194 Y (af Y) (λdw M vs hN hvs=>?_);unfold gW at h;refine sr<|aI Y (bu (N:=N) (n:=1) (e:=bh))<|dn<|sr<|mv Y<|lE h λdI gC h=>ln Y gC<|mv Y<|lE h λc9 fC h=>ln Y fC<|lE h λeD iF h=>RT.max .none _ Y Y T (Ol (p:=dI) (q:=c9) iF)<|lE h λei jx h=>ad _ Y Y jx<|bE h λdH gD h=>RT.K0 (e:=bh) .none Y Y T Y T gD<|RT.alloc .none T Y Y<|RT.uK (cells:=[_]) .none Y Y Y Y T Y<|dn<|sr ?_;refine RT.HW .none (gY 0) Y ⟨Y,aq⟩ T Y Y<|RT.alloc .none T Y Y<|RT.AI (cells:=[_]) .none (s:=.kU _ _) Y Y Y T Y<|dn<|qq<|sr<|mv Y<|mv Y<|cl (A0 x0 x1) ⟨Y,Y,aq⟩<|dn<|aY<|bE h λe7 hl7 ho7=>?_;obtain⟨st7,hs7,ht7,hn7⟩:=vV hl7
 refine qW (A3 x0 x1) (λ_ _ _ _ _=>trivial) Y (λk=>AS.cj 35 [(5,.ptr 5 0),(6,.ptr 6 0),(19,.sv (o5 214 [ref [slc 1 (List.map bh x0)],ref [slc 1 (List.map bh x1)]]))] [(6,⟨186,[.kU 202 [.box 16]]⟩),(16,⟨128,[.sv (.v (.int .u64 (((st7 k).1:Nat):Int)))]⟩),(5,⟨39,[.row 302]⟩)] [(302,TR 130 1 bh (st7 k).2)]) [6,16,5] Y (λ_=>⟨Y,Y⟩) (CL Y) (λ_=>Y) (CM Y) (by(try dsimp only);rw[hs7];(try dsimp only);exact cD (λi=>bif Nat.beq i 302 then 15 else i) Y Y Y Y Y ⟨.ptr,.ptr,.sv au,aq⟩ ⟨⟨_,Y,⟨.kU,aq⟩⟩,⟨_,Y,⟨.sv au,aq⟩⟩,⟨_,Y,⟨.row Y,aq⟩⟩,aq⟩ ⟨⟨_,Y,cg.refl _⟩,aq⟩ (λi hi=>by rw[bV (show i≠302 by omega)];rfl)) (λk hk D hD=>?_) ?_;have h:=ht7 k hk;obtain⟨sk,hsk⟩:∃q,st7 k=q:=⟨_,Y⟩;rw[hsk]at h⊢;obtain⟨DF,nW⟩:=sk;dsimp only[AS.Z2,Cq]
 try dsimp only at h
 refine lE h λp20 Wr h=>?_;rw[Wr];refine lE h λp21 amR h=>?_;rw[amR];refine sr<|ag Y<|dn<|aX<|ag Y<|RT.done ?_;refine aW.n ⟨Y,?_⟩;dsimp only[AS.Mc];refine aY<|aZ mixed<|RT.eA .none (s:=.row _) Y Y Y T<|RT.eA .none (s:=.kU _ _) Y Y Y T<|mv Y<|mv Y<|lE h λjH rW h=>ad _ Y Y (UK.add (a:=p20) (b:=p21) rW) ?_;obtain⟨⟨iO,k9⟩,pN,h⟩:=bS h;refine cB (dh pN) 16 Y ⟨Y,aq⟩<|bl (l:=[iO]) (e:=bh) (.one Y (.nil)) Y Y Y Y Y Y<|bE h λgI m7 h=>aR (k:=[iO]) (e:=bh) Y Y Y m7<|RT.uK (cells:=[_]) .none Y Y Y Y T Y ?_;refine RT.done ⟨by kernel_rfl,?_⟩;refine bF.n ?_;replace h:=Option.some.inj h;refine⟨aq,Y,Y,?_⟩
 try dsimp only
 rw[<-h]
 try dsimp only
 exact cD (λi=>bif Nat.beq i 302 then 29 else i) Y Y Y Y Y ⟨.ptr,.ptr,.sv au,aq⟩ ⟨⟨_,Y,⟨.kU,aq⟩⟩,⟨_,Y,⟨.sv au,aq⟩⟩,⟨_,Y,⟨.row Y,aq⟩⟩,aq⟩ ⟨⟨_,Y,cg.refl _⟩,aq⟩ (λi hi=>by rw[bV (show i≠302 by omega)];rfl);rw[hn7];obtain⟨DF,nW⟩:=e7
 try dsimp only
 refine bF.n<|aW.n<|qq<|aZ mixed<|RT.eA .none (s:=.row _) Y Y Y T<|RT.eA .none (s:=.kU _ _) Y Y Y T ?_;obtain⟨⟨iP,k11⟩,pW,ho7⟩:=bS ho7;refine cB (dh pW) 16 Y ⟨Y,aq⟩<|bl (l:=[iP]) (e:=bh) (.one Y (.nil)) Y Y Y Y Y Y<|bE ho7 λsY xp ho7=>RT.aiI (k:=[iP]) (e:=bh) .none hN (λ_ h=>h) Y Y Y T Y T xp<|ag Y ?_;refine RT.done ⟨by kernel_rfl,?_⟩;refine aW.n<|bf ?_;obtain rfl:=O ho7;exact R1 Y
theorem qZ{x0:List Nat}{x1:List Nat}(N:Nat){r:List Nat}(h:eJ x0 x1=some r):dK ah 195 N [slc 1 (List.map bh x0),slc 1 (List.map bh x1)] (nw N (slc 1 (List.map bh r))):=by
 refine bU Tryz.func195 Y (af Y) (λdw M vs hN hvs=>?_);unfold eJ at h;refine sr<|aI Y (bu (N:=N) (n:=1) (e:=bh))<|dn<|sr<|mv Y<|lE h λdI gC h=>ln Y gC<|bE h λfz lq h=>RT.K0 (e:=bh) .none Y Y T Y T lq<|RT.alloc .none T Y Y<|RT.uK (cells:=[_]) .none Y Y Y Y T Y<|dn<|sr<|RT.HW .none (gY 1) Y ⟨Y,aq⟩ T Y Y<|RT.alloc .none T Y Y<|RT.AI (cells:=[_]) .none (s:=.kU _ _) Y Y Y T Y<|dn<|qq<|sr<|mv Y ?_;refine mv Y<|cl (A0 x0 x1) ⟨Y,Y,aq⟩<|dn<|aY<|bE h λe7 hl7 ho7=>?_;obtain⟨st7,hs7,ht7,hn7⟩:=vV hl7;refine qW (A3 x0 x1) (λ_ _ _ _ _=>trivial) Y (λk=>AS.cj 28 [(5,.ptr 5 0),(6,.ptr 6 0),(15,.sv (o5 214 [ref [slc 1 (List.map bh x0)],ref [slc 1 (List.map bh x1)]]))] [(6,⟨186,[.kU 202 [.box 12]]⟩),(12,⟨128,[.sv (.v (.int .u64 (((st7 k).1:Nat):Int)))]⟩),(5,⟨39,[.row 302]⟩)] [(302,TR 130 1 bh (st7 k).2)]) [6,12,5] Y (λ_=>⟨Y,Y⟩) (CL Y) (λ_=>Y) (CM Y) (by(try dsimp only);rw[hs7];(try dsimp only);exact cD (λi=>bif Nat.beq i 302 then 11 else i) Y Y Y Y Y ⟨.ptr,.ptr,.sv au,aq⟩ ⟨⟨_,Y,⟨.kU,aq⟩⟩,⟨_,Y,⟨.sv au,aq⟩⟩,⟨_,Y,⟨.row Y,aq⟩⟩,aq⟩ ⟨⟨_,Y,cg.refl _⟩,aq⟩ (λi hi=>by rw[bV (show i≠302 by omega)];rfl)) (λk hk D hD=>?_) ?_;have h:=ht7 k hk;obtain⟨sk,hsk⟩:∃q,st7 k=q:=⟨_,Y⟩;rw[hsk]at h⊢;obtain⟨Hg,nW⟩:=sk
 dsimp only[AS.Z2,Cq]
 try dsimp only at h
 refine lE h λp16 amS h=>?_;rw[amS];refine lE h λp17 amT h=>?_;rw[amT];refine sr<|ag Y<|dn<|aX<|ag Y<|RT.done ?_;refine aW.n ⟨Y,?_⟩;dsimp only[AS.Mc];refine aY<|aZ mixed<|RT.eA .none (s:=.row _) Y Y Y T<|RT.eA .none (s:=.kU _ _) Y Y Y T<|mv Y<|mv Y<|lE h λiA oH h=>sb _ Y Y (UK.sub (a:=4294967295) (b:=p17) oH)<|lE h λjg qP h=>ad _ Y Y (UK.add (a:=p16) (b:=iA) qP) ?_;obtain⟨⟨gX,k9⟩,oY,h⟩:=bS h;refine cB (dh oY) 12 Y ⟨Y,aq⟩<|bl (l:=[gX]) (e:=bh) (.one Y (.nil)) Y Y Y Y Y Y<|bE h λjH rW h=>aR (k:=[gX]) (e:=bh) Y Y Y rW<|RT.uK (cells:=[_]) .none Y Y Y Y T Y ?_;refine RT.done ⟨by kernel_rfl,?_⟩;refine bF.n ?_;replace h:=Option.some.inj h;refine⟨aq,Y,Y,?_⟩
 try dsimp only
 rw[<-h]
 try dsimp only
 exact cD (λi=>bif Nat.beq i 302 then 26 else i) Y Y Y Y Y ⟨.ptr,.ptr,.sv au,aq⟩ ⟨⟨_,Y,⟨.kU,aq⟩⟩,⟨_,Y,⟨.sv au,aq⟩⟩,⟨_,Y,⟨.row Y,aq⟩⟩,aq⟩ ⟨⟨_,Y,cg.refl _⟩,aq⟩ (λi hi=>by rw[bV (show i≠302 by omega)];rfl);rw[hn7];obtain⟨Hg,nW⟩:=e7
 try dsimp only
 refine bF.n<|aW.n<|sr<|RT.eA .none (s:=.row _) Y Y Y T<|an (s:=.row _) Y<|dn<|lB (i:=302) (E1:=130) (n:=1) (e:=bh) (l:=nW) hN (λ_ h=>h) Y<|bf ?_;obtain rfl:=O ho7;exact R1 Y
theorem DP{x0:List Nat}{x1:List Nat}(N:Nat){r:List Nat}(h:jI x0 x1=some r):dK ah 164 N [slc 1 (List.map bh x0),slc 1 (List.map bh x1)] (nw N (slc 1 (List.map bh r))):=by
 refine bU Tryz.func164 Y (af Y) (λdw M vs hN hvs=>?_);unfold jI at h;refine sr<|aI Y (bu (N:=N) (n:=1) (e:=bh))<|dn<|sr<|mv Y<|lE h λc9 fC h=>ln Y fC<|mv Y<|lE h λei jx h=>ln Y jx<|lE h λdH gD h=>ad _ Y Y gD<|bE h λfB lu h=>RT.tL (n:=1) (e:=bh) .none Y Y T Y T (by rfl) (by decide) (by exact⟨au,aq⟩) lu<|an (s:=.row _) Y<|dn<|qq<|sr<|mv Y<|lE h λeX jK h=>ln Y jK ?_;refine mv Y<|dn<|bE h λe28 ae0 Rb=>?_;refine bK (λ(CT:(List Nat))=>AS.cj 63 [(5,.row 16)] [] [(16,TR 130 1 bh CT)]) (λCT=>CT=e28) ?_ (λCT ae1=>?_);refine aY ?_;refine bL ae0 (λUj=>AS.cj 63 [(1,.sv (slc 1 (List.map bh x1))),(5,.row 16),(17,.sv (slc 1 (List.map bh x0))),(18,ai eX),(19,ai Uj.1)] [] [(16,TR 130 1 bh Uj.2)]) (wR []) (λUj y28 G28 h ae2 ae3=>?_);obtain⟨wm,Mo⟩:=Uj
 try dsimp only
 refine sr<|lE h λij oG h=>ls _ Y Y oG<|dn<|qq ?_;cases ij;refine cF<|bN<|aW.x<|aW.x<|bF.x<|aW.n ?_;obtain rfl:=O (F h);exact⟨Mo,ae3 _ Y,wR []⟩;refine cT<|bw<|aW.n<|qq<|aY<|sr<|mv Y<|bE (V h) λiA oH h=>ix Y Y oH<|lr Y Y<|ag Y<|ag Y<|dn<|sr<|RT.HW .none (gY 0) Y ⟨Y,aq⟩ T Y Y<|an (s:=.kU _ _) Y<|dn<|qq<|sr<|mv Y<|lE h λjH rW h=>ln Y rW<|mv Y<|dn<|bE h λe38 ae4 kX=>?_;refine bK (λ(Ur:Nat×(List Nat))=>AS.cj 63 [(1,.sv (slc 1 (List.map bh x1))),(5,.row 16),(6,ai wm),(8,.kU 202 [.box 24]),(17,.sv (slc 1 (List.map bh x0))),(18,ai eX),(19,ai wm)] [(24,⟨128,[.sv (.v (.int .u64 ((Ur.1:Nat):Int)))]⟩)] [(16,TR 130 1 bh Ur.2)]) (λUr=>Ur=e38) ?_ (λUr ae5=>?_);refine aY ?_;refine bL ae4 (λSX=>AS.cj 63 [(1,.sv (slc 1 (List.map bh x1))),(5,.row 16),(6,ai wm),(7,.sv (.v (.int .u32 ((iA:Nat):Int)))),(8,.kU 202 [.box 24]),(17,.sv (slc 1 (List.map bh x0))),(18,ai eX),(19,ai wm),(25,.sv (slc 1 (List.map bh x1))),(26,ai jH),(27,ai SX.1)] [(24,⟨128,[.sv (.v (.int .u64 ((SX.2.1:Nat):Int)))]⟩)] [(16,TR 130 1 bh SX.2.2)]) (wR []) (λSX y38 G38 h ae6 ae7=>?_);obtain⟨Fe,DG,CS⟩:=SX
 try dsimp only
 refine sr<|lE h λkT uO h=>ls _ Y Y uO<|dn<|qq ?_;cases kT;refine cF<|bN<|aW.x<|aW.x<|bF.x<|aW.n ?_;obtain rfl:=O (F h);exact⟨(DG,CS),ae7 _ Y,wR []⟩;refine cT<|bw<|aW.n<|qq<|aY<|sr<|mv Y<|bE (V h) λoF vD h=>ix Y Y vD<|lr Y Y<|ag Y<|ag Y<|dn<|aX<|mo (s:=.row _) Y<|mv Y<|mv Y<|lE h λku vE h=>ad _ Y Y vE<|mo (s:=.kU _ _) Y<|mo (s:=.row _) Y<|mv Y<|mv Y<|lE h λnk vm h=>ad _ Y Y vm<|bE h λyE GH h=>iR Y Y Y GH ?_;refine bE h λnF yl h=>lR Y Y yl Y<|lE h λvf ET h=>cv _ Y (UK.nat ET)<|mv Y<|lE h λzu Ij h=>cv _ Y (UK.nat Ij)<|mv Y<|lE h λsF zH h=>cv _ Y (UK.nat zH)<|lE h λsj h48 h=>RT.mul .none _ Y Y T (UK.mul (a:=zu) (b:=sF) h48)<|lE h λJY Rc h=>ad _ Y Y (UK.add (a:=vf) (b:=sj) Rc) ?_;obtain⟨⟨Ay,k41⟩,Kk,h⟩:=bS h;refine cB (dh Kk) 24 Y ⟨Y,aq⟩<|bE h λBP Ik h=>iR Y Y Y Ik<|bE h λl42 Ws h=>sR Ay Y Y Y Y Ws<|RT.done<|bF.n<|aW.n<|aX<|lE h λAz GI h=>ad _ Y Y GI<|mv Y<|RT.done ?_;obtain rfl:=O h;exact aW.n ⟨(Az,k41,l42),ae6 _ Y,wR []⟩;subst ae5;obtain⟨Oz,Q0⟩:=Ur
 try dsimp only
 refine aW.n<|aX<|mo (s:=.row _) Y<|mv Y<|mv Y<|lE kX λJZ Ms kX=>ln Y Ms<|lE kX λN0 Wt kX=>ad _ Y Y Wt<|mo (s:=.kU _ _) Y ?_;obtain⟨⟨Uk,k45⟩,h59,kX⟩:=bS kX;refine cB (dh h59) 24 Y ⟨Y,aq⟩<|bE kX λDt N2 kX=>iR Y Y Y N2<|bE kX λl46 ai2 kX=>sR Uk Y Y Y Y ai2<|RT.done<|bF.n<|aW.n<|aX<|lE kX λQ1 h61 kX=>ad _ Y Y h61<|mv Y<|RT.done ?_;obtain rfl:=O kX;exact aW.n ⟨(Q1,l46),ae2 _ Y,wR []⟩;subst ae1
 try dsimp only
 refine aW.n<|sr<|mo (s:=.row _) Y<|an (s:=.row _) Y<|dn<|lB (i:=16) (E1:=130) (n:=1) (e:=bh) (l:=CT) hN (λ_ h=>h) Y<|bf ?_;obtain rfl:=O Rb;exact R1 Y
end
section
open Go.Fw Go.Fw.Z Go.RowKit
theorem DQ{x0:List Nat}{x1:Nat}{r:Nat×List Nat}(h:lO x0 x1=some r):QO ah 204 [.row 1000,.sv (.v (.int .u64 ((x1:Nat):Int)))] (TR 130 1 bh x0) (.sv (.v (.int .u64 ((r.1:Nat):Int)))) (List.flatMap bh r.2):=by
 refine CI Tryz.func204 Y (af Y) Y Y (λdw M v0=>?_);unfold lO at h;refine sr<|ag Y<|dn<|sr<|ag Y<|dn<|qq<|sr<|mo (s:=.row _) Y<|lE h λx9 h9 h=>lL Y Y h9<|lE h λdI gC h=>sb _ Y Y gC<|ag Y<|dn<|bE h λe8 Kl Cd=>?_;refine bK (λ(Lh:Nat×(List Nat))=>AS.cj 34 [(5,.sv (.v (.int .u64 ((Lh.1:Nat):Int))))] [] [(1000,TR 130 1 bh Lh.2)]) (λLh=>Lh=e8) ?_ (λLh Mt=>?_);refine aY ?_;refine bL Kl (λs8=>AS.cj 34 [(0,.row 1000),(1,.sv (.v (.int .u64 ((x1:Nat):Int)))),(5,.sv (.v (.int .u64 ((s8.1:Nat):Int)))),(6,ai s8.2.1)] [] [(1000,TR 130 1 bh s8.2.2)]) (wR []) (λs8 y8 G8 h Mu Mv=>?_);obtain⟨Wc,OA,zD⟩:=s8
 try dsimp only
 refine qq<|sr<|mv Y<|lE h λc9 fC h=>ge _ Y Y fC<|dn ?_;cases c9;refine cF<|bN<|aW.x<|aW.x<|bF.x<|aW.n ?_;obtain rfl:=O (F h);exact⟨(Wc,zD),Mv _ Y,wR []⟩;refine cT<|bw<|aW.n<|qq<|aY<|sr<|mv Y<|lE (V h) λfB lu h=>RT.shl .none _ Y Y T (by decide) (UK.shl (a:=Wc) (q:=32) (s:=32) Y lu)<|mo (s:=.row _) Y<|mv Y<|bE h λjl mz h=>iR Y Y Y mz<|bE h λij oG h=>lR Y Y oG Y<|lE h λfL ke h=>cv _ Y (UK.nat ke)<|lE h λiA oH h=>RT.or .none _ Y Y T (UK.or (a:=fB) (b:=fL) oH)<|ag Y<|dn<|sr<|mo (s:=.row _) Y ?_;refine mv Y<|mv Y<|mv Y<|bE h λiO pN h=>RT.quo .none _ Y Y T (nzU pN) (UK.quo pN)<|lE h λkT uO h=>cv _ Y (UK.nat uO)<|bE h λgI m7 h=>iR Y Y Y m7<|bE h λDH yH h=>sR kT Y Y Y Y yH<|dn<|aX<|mv Y<|mv Y<|bE h λiP pW h=>RT.rem .none _ Y Y T (nzR pW) (Z5 pW)<|ag Y<|RT.done<|bF.n<|aW.n<|aX<|mv Y<|lE h λei jx h=>sb _ Y Y jx ?_;refine ag Y<|RT.done ?_;obtain rfl:=O h;exact aW.n ⟨(iP,ei,DH),Mu _ Y,wR []⟩;subst Mt;obtain⟨aiL,Hh⟩:=Lh
 try dsimp only
 refine aW.n<|sr<|mv Y<|ag Y<|dn<|bf<|bE Cd λ_ hle Cd=>?_;obtain rfl:=O Cd;exact⟨.inr Y,.sv (lz (.tmp Y (.nil)) au),(by show _=qO.live ⟨130,1,x0.length,List.flatMap bh Hh⟩;rw[<-sE hle];rfl)⟩
theorem CX{x0:List Nat}{x1:Nat}{r:List Nat}(h:iW x0 x1=some r):Pure ah 211 [slc 1 (List.map bh x0),.v (.int .u64 ((x1:Nat):Int))] (slc 1 (List.map bh r)):=by
 refine bj Tryz.func211 Y (af Y) (λdw M vs hvs=>?_);unfold iW at h;refine sr<|aI Y (aC (n:=1) (e:=bh))<|dn<|sr<|RT.HW .none (gY 0) Y ⟨Y,aq⟩ T Y Y<|an (s:=.kU _ _) Y<|dn<|sr<|mv Y<|lE h λfz lq h=>ln Y lq<|lE h λc9 fC h=>ad _ Y Y fC<|bE h λeD iF h=>RT.K0 (e:=bh) .none Y Y T Y T iF<|an (s:=.row _) Y<|dn<|qq<|sr<|mv Y<|lE h λdH gD h=>ln Y gD ?_;refine mv Y<|dn<|bE h λe8 Kl Cd=>?_;refine bK (λ(Lh:Nat×(List Nat))=>AS.cj 35 [(5,.kU 202 [.box 9]),(6,.row 302)] [(9,⟨128,[.sv (.v (.int .u64 ((Lh.1:Nat):Int)))]⟩)] [(302,TR 130 1 bh Lh.2)]) (λLh=>Lh=e8) ?_ (λLh Mt=>?_);refine aY ?_;refine bL Kl (λs8=>AS.cj 35 [(1,.sv (.v (.int .u64 ((x1:Nat):Int)))),(5,.kU 202 [.box 9]),(6,.row 302),(14,.sv (slc 1 (List.map bh x0))),(15,ai dH),(16,ai s8.1)] [(9,⟨128,[.sv (.v (.int .u64 ((s8.2.1:Nat):Int)))]⟩)] [(302,TR 130 1 bh s8.2.2)]) (cD (λi=>bif Nat.beq i 302 then 13 else i) Y Y Y Y Y ⟨.sv au,.kU,.row Y,.sv au,.sv au,.sv au,aq⟩ ⟨⟨_,Y,⟨.sv au,aq⟩⟩,aq⟩ ⟨⟨_,Y,cg.refl _⟩,aq⟩ (λi hi=>by rw[bV (show i≠302 by omega)];rfl)) (λs8 y8 G8 h Mu Mv=>?_);obtain⟨DI,zE,nW⟩:=s8
 try dsimp only
 refine sr<|lE h λdX jO h=>ls _ Y Y jO<|dn<|qq ?_;cases dX;refine cF<|bN<|aW.x<|aW.x<|bF.x<|aW.n ?_;obtain rfl:=O (F h);exact⟨(zE,nW),Mv _ Y,wR []⟩;refine cT<|bw<|aW.n<|qq<|aY<|sr<|bE (V h) λeX jK h=>ix Y Y jK<|lr Y Y<|ag Y<|dn<|aX<|mo (s:=.row _) Y<|mo (s:=.kU _ _) Y<|mv Y<|lE h λjg qP h=>cv _ Y (UK.nat qP)<|mv Y<|lE h λjG nP h=>RT.shl .none _ Y Y T (Int.natCast_nonneg _) (UK.shl (a:=jg) (q:=((x1:Nat):Int)) (s:=min x1 64) Y nP) ?_;obtain⟨⟨jH,k10⟩,rW,h⟩:=bS h;refine cB (dh rW) 9 Y ⟨Y,aq⟩<|bl (l:=[jH]) (e:=bh) (.one Y (.nil)) Y Y Y Y Y Y<|bE h λkT uO h=>aR (k:=[jH]) (e:=bh) Y Y Y uO<|an (s:=.row _) Y<|RT.done<|bF.n<|aW.n<|aX<|lE h λgI m7 h=>ad _ Y Y m7<|mv Y<|RT.done ?_;obtain rfl:=O h;exact aW.n ⟨(gI,k10,kT),Mu _ Y,cD (λi=>bif Nat.beq i 302 then 28 else i) Y Y Y Y Y ⟨.sv au,.kU,.row Y,.sv au,.sv au,.sv au,aq⟩ ⟨⟨_,Y,⟨.sv au,aq⟩⟩,aq⟩ ⟨⟨_,Y,cg.refl _⟩,aq⟩ (λi hi=>by rw[bV (show i≠302 by omega)];rfl)⟩;subst Mt;obtain⟨Ic,Wd⟩:=Lh
 try dsimp only
 refine aW.n<|sr<|mo (s:=.row _) Y<|mo (s:=.kU _ _) Y ?_;obtain⟨⟨iP,k12⟩,pW,Cd⟩:=bS Cd;refine cB (dh pW) 9 Y ⟨Y,aq⟩<|bl (l:=[iP]) (e:=bh) (.one Y (.nil)) Y Y Y Y Y Y<|bE Cd λsY xp Cd=>RT.Z6 (k:=[iP]) (e:=bh) .none Y Y Y T Y T xp<|ag Y<|dn<|bf ?_;obtain rfl:=O Cd;exact R1 Y
theorem Ce{x0:List Nat}{x1:Nat}{r:List Nat}(h:mM x0 x1=some r):Gy ah 211 [slc 1 (List.map bh x0),.v (.int .u64 ((x1:Nat):Int))] (TR 130 1 bh r):=by
 refine wc Tryz.func211 Y (af Y) (λdw M vs hvs=>?_);unfold mM at h;refine sr<|ag Y<|dn<|bR (c8 4 304 130 1 Y Y T)<|sr<|RT.HW .none (gY 0) Y ⟨Y,aq⟩ T Y Y<|an (s:=.kU _ _) Y<|dn<|sr<|mv Y<|lE h λfz lq h=>ln Y lq<|lE h λc9 fC h=>ad _ Y Y fC<|bE h λeD iF h=>RT.K0 (e:=bh) .none Y Y T Y T iF<|an (s:=.row _) Y<|dn<|qq<|sr<|mv Y<|lE h λdH gD h=>ln Y gD ?_;refine mv Y<|dn<|bE h λe8 Kl Cd=>?_;refine bK (λ(Lh:Nat×(List Nat))=>AS.cj 35 [(5,.kU 202 [.box 9]),(6,.row 306)] [(9,⟨128,[.sv (.v (.int .u64 ((Lh.1:Nat):Int)))]⟩)] [(306,TR 130 1 bh Lh.2)]) (λLh=>Lh=e8) ?_ (λLh Mt=>?_);refine aY ?_;refine bL Kl (λs8=>AS.cj 35 [(1,.sv (.v (.int .u64 ((x1:Nat):Int)))),(5,.kU 202 [.box 9]),(6,.row 306),(14,.sv (slc 1 (List.map bh x0))),(15,ai dH),(16,ai s8.1)] [(9,⟨128,[.sv (.v (.int .u64 ((s8.2.1:Nat):Int)))]⟩)] [(306,TR 130 1 bh s8.2.2)]) (cD (λi=>bif Nat.beq i 306 then 13 else i) Y Y Y Y Y ⟨.sv au,.kU,.row Y,.sv au,.sv au,.sv au,aq⟩ ⟨⟨_,Y,⟨.sv au,aq⟩⟩,aq⟩ ⟨⟨_,Y,cg.refl _⟩,aq⟩ (λi hi=>by rw[bV (show i≠306 by omega)];rfl)) (λs8 y8 G8 h Mu Mv=>?_);obtain⟨DI,zE,ye⟩:=s8
 try dsimp only
 refine sr<|lE h λdX jO h=>ls _ Y Y jO<|dn<|qq ?_;cases dX;refine cF<|bN<|aW.x<|aW.x<|bF.x<|aW.n ?_;obtain rfl:=O (F h);exact⟨(zE,ye),Mv _ Y,wR []⟩;refine cT<|bw<|aW.n<|qq<|aY<|sr<|bE (V h) λeX jK h=>ix Y Y jK<|lr Y Y<|ag Y<|dn<|aX<|mo (s:=.row _) Y<|mo (s:=.kU _ _) Y<|mv Y<|lE h λjg qP h=>cv _ Y (UK.nat qP)<|mv Y<|lE h λjG nP h=>RT.shl .none _ Y Y T (Int.natCast_nonneg _) (UK.shl (a:=jg) (q:=((x1:Nat):Int)) (s:=min x1 64) Y nP) ?_;obtain⟨⟨jH,k10⟩,rW,h⟩:=bS h;refine cB (dh rW) 9 Y ⟨Y,aq⟩<|bl (l:=[jH]) (e:=bh) (.one Y (.nil)) Y Y Y Y Y Y<|bE h λkT uO h=>aR (k:=[jH]) (e:=bh) Y Y Y uO<|an (s:=.row _) Y<|RT.done<|bF.n<|aW.n<|aX<|lE h λgI m7 h=>ad _ Y Y m7<|mv Y<|RT.done ?_;obtain rfl:=O h;exact aW.n ⟨(gI,k10,kT),Mu _ Y,cD (λi=>bif Nat.beq i 306 then 28 else i) Y Y Y Y Y ⟨.sv au,.kU,.row Y,.sv au,.sv au,.sv au,aq⟩ ⟨⟨_,Y,⟨.sv au,aq⟩⟩,aq⟩ ⟨⟨_,Y,cg.refl _⟩,aq⟩ (λi hi=>by rw[bV (show i≠306 by omega)];rfl)⟩;subst Mt;obtain⟨Ic,yf⟩:=Lh
 try dsimp only
 refine aW.n<|sr<|mo (s:=.row _) Y<|mo (s:=.kU _ _) Y ?_;obtain⟨⟨iP,k12⟩,pW,Cd⟩:=bS Cd;refine cB (dh pW) 9 Y ⟨Y,aq⟩<|bl (l:=[iP]) (e:=bh) (.one Y (.nil)) Y Y Y Y Y Y<|bE Cd λsY xp Cd=>aR (k:=[iP]) (e:=bh) Y Y Y xp<|an (s:=.row _) Y<|dn<|bf ?_;obtain rfl:=O Cd;exact⟨.inr Y,_,.tmp Y,Y⟩
theorem CY{x0:Nat}{r:Int}(h:kx x0=some r):Pure ah 215 [.v (.int .u32 ((x0:Nat):Int))] (ay r):=by
 refine bj Tryz.func215 Y (af Y) (λdw M vs hvs=>?_);unfold kx at h;refine sr<|ag Y<|dn<|qq<|sr<|mv Y<|lE h λx4 h4 h=>ge _ Y Y (leN (p:=65536) (q:=x0) h4)<|dn ?_;refine bJ h (λj2=>AS.cj 19 [(0,.sv (.v (.int .u32 ((j2.1:Nat):Int)))),(2,ai j2.2)] [] []) (λh=>?_) (λj2 h=>?_);cases x4;exact fs<|⟨(x0,0),(F h),wR []⟩;exact cT<|sr<|mv Y<|lE (V h) λx6 h6 h=>RT.shr .none _ Y Y T (by decide) (Mf (k:=.u32) (a:=x0) (q:=16) (s:=16) Y h6)<|ag Y<|dn<|aX<|ag Y<|dn<|⟨(x6,16),h,wR []⟩;obtain⟨Q2,aak⟩:=j2
 try dsimp only
 refine aW.n<|qq<|sr<|mv Y<|lE h λx8 h8 h=>ge _ Y Y (leN (p:=256) (q:=Q2) h8)<|dn ?_;refine bJ h (λj4=>AS.cj 19 [(0,.sv (.v (.int .u32 ((j4.1:Nat):Int)))),(2,ai j4.2)] [] []) (λh=>?_) (λj4 h=>?_);cases x8;exact fs<|⟨(Q2,aak),(F h),wR []⟩;exact cT<|sr<|mv Y<|lE (V h) λdI gC h=>RT.shr .none _ Y Y T (by decide) (Mf (k:=.u32) (a:=Q2) (q:=8) (s:=8) Y gC)<|ag Y<|dn<|aX<|mv Y<|lE h λc9 fC h=>ad _ Y Y fC<|ag Y<|dn<|⟨(dI,c9),h,wR []⟩;obtain⟨aiM,aiN⟩:=j4
 try dsimp only
 refine aW.n<|sr<|mv Y<|mv Y<|lE h λdH gD h=>cv _ Y (UK.nat gD)<|bE h λfB lu h=>?_;refine RT.six (l:=[0,1,2,2,3,3,3,3,4,4,4,4,4,4,4,4,5,5,5,5,5,5,5,5,5,5,5,5,5,5,5,5,6,6,6,6,6,6,6,6,6,6,6,6,6,6,6,6,6,6,6,6,6,6,6,6,6,6,6,6,6,6,6,6,7,7,7,7,7,7,7,7,7,7,7,7,7,7,7,7,7,7,7,7,7,7,7,7,7,7,7,7,7,7,7,7,7,7,7,7,7,7,7,7,7,7,7,7,7,7,7,7,7,7,7,7,7,7,7,7,7,7,7,7,7,7,7,7,8,8,8,8,8,8,8,8,8,8,8,8,8,8,8,8,8,8,8,8,8,8,8,8,8,8,8,8,8,8,8,8,8,8,8,8,8,8,8,8,8,8,8,8,8,8,8,8,8,8,8,8,8,8,8,8,8,8,8,8,8,8,8,8,8,8,8,8,8,8,8,8,8,8,8,8,8,8,8,8,8,8,8,8,8,8,8,8,8,8,8,8,8,8,8,8,8,8,8,8,8,8,8,8,8,8,8,8,8,8,8,8,8,8,8,8,8,8,8,8,8,8,8,8,8,8,8,8]) .none Y Y T lu ?_;refine lE h λdX jO h=>cv _ Y jO<|lE h λeX jK h=>ad _ Y Y jK<|ag Y<|dn<|bf ?_;obtain rfl:=O h;exact R1 Y
theorem vF{x0:Nat}{r:Int}(h:ff x0=some r):Pure ah 210 [.v (.int .u32 ((x0:Nat):Int))] (ay r):=by
 refine bj Tryz.func210 Y (af Y) (λdw M vs hvs=>?_);unfold ff at h;refine sr<|ag Y<|dn<|sr<|mv Y<|bE h λx4 h4 h=>cl (CY h4) ⟨Y,aq⟩<|lE h λx5 h5 h=>sb _ Y Y h5<|ag Y<|dn<|bf ?_;obtain rfl:=O h;exact R1 Y
theorem DR{x0:List Nat}{o0:Nat}{n0:Nat}{x1:List Nat}{r:Nat×List Nat}(h:lP x0 o0 n0 x1=some r):QO ah 212 [.uW 1000 (o0*1) n0,.sv (slc 1 (List.map bh x1))] (TR 130 1 bh x0) (.sv (.v (.int .u64 ((r.1:Nat):Int)))) (List.flatMap bh r.2):=by
 refine CI Tryz.func212 Y (af Y) Y Y (λdw M v0=>?_);unfold lP at h;refine sr<|ag Y<|dn<|sr<|mv Y<|lE h λc9 fC h=>ln Y fC<|ag Y<|dn<|qq<|aZ mixed<|mo (s:=.uW _ _ _) Y<|mv Y<|bE h λdH gD h=>RT.Ov .none Y Y T gD<|bE h λfB lu h=>lR Y Y lu Y<|lE h λdX jO h=>cv _ Y (UK.nat jO)<|lE h λeX jK h=>RT.shl .none _ Y Y T (by decide) (UK.shl (a:=dX) (q:=32) (s:=32) Y jK)<|mo (s:=.uW _ _ _) Y ?_;refine mv Y<|lE h λfL ke h=>sb _ Y Y ke<|bE h λiA oH h=>RT.Ov .none Y Y T oH<|bE h λjg qP h=>lR Y Y qP Y<|lE h λgX oY h=>cv _ Y (UK.nat oY)<|lE h λjG nP h=>RT.or .none _ Y Y T (UK.or (a:=eX) (b:=gX) nP)<|ag Y ?_;refine RT.done ⟨by kernel_rfl,?_⟩;refine aW.n<|qq<|aZ mixed<|mv Y<|mv Y<|lE h λkT uO h=>sb _ Y Y uO<|bE h λgI m7 h=>ix Y Y m7<|lr Y Y<|lE h λnV yy h=>cv _ Y (UK.nat yy)<|mv Y<|mv Y<|lE h λsY xp h=>sb _ Y Y xp<|bE h λku vE h=>ix Y Y vE<|lr Y Y<|lE h λuG DS h=>cv _ Y (UK.nat DS)<|ag Y<|ag Y ?_;refine RT.done ⟨by kernel_rfl,?_⟩;refine aW.n<|qq<|aZ mixed<|mv Y<|mv Y<|bE h λnk vm h=>RT.quo .none _ Y Y T (nzU vm) (UK.quo vm)<|mv Y<|mv Y<|bE h λvf ET h=>RT.rem .none _ Y Y T (nzR ET) (Z5 ET)<|ag Y<|ag Y ?_;refine RT.done ⟨by kernel_rfl,?_⟩;refine aW.n<|qq<|bE h λFi yg pq=>?_
 refine bK (λ(Ul:Nat)=>AS.cj 71 [(9,.sv (.v (.int .u64 ((Ul:Nat):Int))))] [] [(1000,TR 130 1 bh x0)]) (λUl=>Ul=Fi) ?_ (λUl yh=>?_);refine aY ?_;refine bL yg (λuH=>AS.cj 71 [(0,.uW 1000 (o0*1) n0),(5,ai c9),(7,.sv (.v (.int .u64 ((nV:Nat):Int)))),(8,.sv (.v (.int .u64 ((uG:Nat):Int)))),(9,.sv (.v (.int .u64 ((uH.1:Nat):Int)))),(10,.sv (.v (.int .u64 ((uH.2:Nat):Int))))] [] [(1000,TR 130 1 bh x0)]) (wR []) (λuH ZA ZB h yj uN=>?_);obtain⟨Kg,Ld⟩:=uH
 try dsimp only
 refine qq<|qq ?_;refine bJ h (λGF=>AS.cj 71 [(0,.uW 1000 (o0*1) n0),(5,ai c9),(7,.sv (.v (.int .u64 ((nV:Nat):Int)))),(8,.sv (.v (.int .u64 ((uG:Nat):Int)))),(9,.sv (.v (.int .u64 ((Kg:Nat):Int)))),(10,.sv (.v (.int .u64 ((Ld:Nat):Int)))),(61,aj GF)] [] [(1000,TR 130 1 bh x0)]) (λh=>?_) (λQ3 h=>?_);refine aX<|mv Y<|lE h λzu Ij h=>RT.shr .none _ Y Y T (by decide) (Mf (k:=.u64) (a:=Kg) (q:=32) (s:=32) Y Ij)<|lE h λvg h46 h=>ne _ Y Y (neN (p:=zu) (q:=0) h46)<|mv Y<|bE h λWf dD h=>?_;cases vg;refine gm Y<|gm Y<|lE (F dD) λAy Kk dD=>RT.mul (.some Y Y) _ Y Y T (UK.mul (a:=Kg) (b:=uG) Kk)<|gm Y<|lE dD λAz GI dD=>RT.shl (.some Y Y) _ Y Y T (by decide) (UK.shl (a:=Ld) (q:=32) (s:=32) Y GI)<|RT.move (.some Y Y) (s:=.uW _ _ _) Y T<|gm Y<|lE dD λAA OL dD=>RT.sub (.some Y Y) _ Y Y T OL<|bE dD λJZ Ms dD=>RT.Ov (.some Y Y) Y Y T Ms<|bE dD λN0 Wt dD=>RT.Mi (.some Y Y) Y Y Wt Y T ?_;refine lE dD λAu Rd dD=>RT.conv (.some Y Y) _ Y T (UK.nat Rd)<|lE dD λUk h59 dD=>RT.or (.some Y Y) _ Y Y T (UK.or (a:=Az) (b:=Au) h59)<|lE dD λDt N2 dD=>gg _ Y Y (ltN (p:=Uk) (q:=Ay) N2) ?_;obtain rfl:=O dD;exact pF Y<|dn<|⟨Dt,h,wR []⟩;obtain rfl:=O (V dD)
 exact ww<|ww<|ww<|ww<|ww<|ww<|ww<|ww<|ww<|ww<|ww<|ww<|ww<|pT Y<|dn<|⟨true,h,wR []⟩
 try dsimp only
 refine aW.n ?_;cases Q3;refine cF<|bN<|aW.x<|aW.x<|bF.x<|aW.n ?_;obtain rfl:=O (F h);exact⟨Kg,uN _ Y,wR []⟩;refine cT<|bw<|aW.n<|aY<|sr<|mv Y<|lE (V h) λx63 h63 h=>sb _ Y Y (UK.sub (a:=Kg) (b:=1) h63)<|ag Y<|dn<|sr<|mv Y<|mv Y<|lE h λQ4 h66 h=>ad _ Y Y (UK.add (a:=Ld) (b:=nV) h66)<|ag Y<|dn<|sr<|mv Y<|lE h λQ5 h68 h=>RT.shr .none _ Y Y T (by decide) (Mf (k:=.u64) (a:=Q4) (q:=32) (s:=32) Y h68)<|lE h λWe h69 h=>ne _ Y Y (neN (p:=Q5) (q:=0) h69) ?_;refine dn ?_;cases We;refine cF<|bw<|bF.n ?_;obtain rfl:=O (F h);exact aW.n ⟨(x63,Q4),yj _ Y,wR []⟩;refine cT<|bN<|bF.y (by decide)<|aW.x<|bF.x<|aW.n ?_;obtain rfl:=O (V h);exact⟨x63,uN _ Y,wR []⟩;subst yh
 try dsimp only
 refine aW.n<|sr<|mv Y<|ag Y<|dn<|bf<|bE pq λ_ hle pq=>?_;obtain rfl:=O pq;exact⟨.inr Y,.sv (lz (.tmp Y (.nil)) au),(by show _=qO.live ⟨130,1,x0.length,List.flatMap bh x0⟩;rw[<-sE hle];rfl)⟩
theorem xq{x0:List Nat}{o0:Nat}{n0:Nat}{x1:List Nat}{x2:Nat}{r:Bool×List Nat}(h:eK x0 o0 n0 x1 x2=some r):QO ah 213 [.uW 1000 (o0*1) n0,.sv (slc 1 (List.map bh x1)),.sv (.v (.int .u64 ((x2:Nat):Int)))] (TR 130 1 bh x0) (aj r.1) (List.flatMap bh r.2):=by
 refine CI Tryz.func213 Y (af Y) Y Y (λdw M v0=>?_);unfold eK at h;refine sr<|ag Y<|dn<|sr<|ag Y<|dn<|sr<|RT.HW .none (gY 0) Y ⟨Y,aq⟩ T Y Y<|an (s:=.kU _ _) Y<|dn<|qq<|sr<|mo (s:=.uW _ _ _) Y<|lE h λei jx h=>RT.aeL .none Y T jx<|mv Y<|dn<|bE h λUo Mw tX=>?_;refine bK (λ(Fj:Nat×(List Nat))=>AS.cj 51 [(7,.sv (.v (.int .u64 ((Fj.1:Nat):Int))))] [] [(1000,TR 130 1 bh Fj.2)]) (λFj=>Fj=Uo) ?_ (λFj Mx=>?_);refine aY ?_;refine bL Mw (λz9=>AS.cj 51 [(0,.uW 1000 (o0*1) n0),(1,.sv (slc 1 (List.map bh x1))),(2,.sv (.v (.int .u64 ((x2:Nat):Int)))),(7,.sv (.v (.int .u64 ((z9.1:Nat):Int)))),(8,.kU 202 [.box 12]),(14,ai ei),(15,ai z9.2.1)] [(12,⟨128,[.sv (.v (.int .u64 ((z9.2.2.1:Nat):Int)))]⟩)] [(1000,TR 130 1 bh z9.2.2.2)]) (wR []) (λz9 y12 G12 h My Mz=>?_);obtain⟨Um,DJ,Mp,BQ⟩:=z9
 try dsimp only
 refine sr<|lE h λfB lu h=>ls _ Y Y lu<|dn<|qq ?_;cases fB;refine cF<|bN<|aW.x<|aW.x<|bF.x<|aW.n ?_;obtain rfl:=O (F h);exact⟨(Um,BQ),Mz _ Y,wR []⟩;refine cT<|bw<|aW.n<|qq<|aY<|sr<|mv Y<|ag Y<|dn<|sr<|ag Y<|dn<|qq<|sr<|mv Y<|mv Y<|lE (V h) λij oG h=>ln Y oG<|lE h λfL ke h=>ls _ Y Y ke<|dn ?_;refine bJ h (λj14=>AS.cj 51 [(0,.uW 1000 (o0*1) n0),(1,.sv (slc 1 (List.map bh x1))),(2,.sv (.v (.int .u64 ((x2:Nat):Int)))),(7,.sv (.v (.int .u64 ((Um:Nat):Int)))),(8,.kU 202 [.box 12]),(9,ai DJ),(10,.sv (.v (.int .u64 ((j14:Nat):Int)))),(14,ai ei),(15,ai DJ)] [(12,⟨128,[.sv (.v (.int .u64 ((Mp:Nat):Int)))]⟩)] [(1000,TR 130 1 bh BQ)]) (λh=>?_) (λWg h=>?_);cases fL;exact fs<|⟨0,(F h),wR []⟩;exact cT<|aX<|mv Y<|mv Y<|bE (V h) λgX oY h=>ix Y Y oY<|lr Y Y<|lE h λjH rW h=>cv _ Y (UK.nat rW)<|mv Y<|lE h λkT uO h=>RT.mul .none _ Y Y T (UK.mul (a:=jH) (b:=x2) uO)<|ag Y<|dn<|⟨kT,h,wR []⟩
 try dsimp only
 refine aW.n<|qq<|aZ mixed<|mo (s:=.uW _ _ _) Y<|mv Y<|bE h λnV yy h=>RT.Ov .none Y Y T yy<|bE h λiP pW h=>lR Y Y pW Y<|lE h λoD xn h=>cv _ Y (UK.nat xn)<|mo (s:=.kU _ _) Y<|mv Y ?_;obtain⟨⟨pg,k16⟩,yI,h⟩:=bS h;refine cB (dh yI) 12 Y ⟨Y,aq⟩<|lE h λuG DS h=>cv _ Y (UK.nat DS)<|lE h λqX Av h=>sb _ Y Y (UK.sub (a:=oD) (b:=uG) Av)<|mv Y<|lE h λnk vm h=>sb _ Y Y (UK.sub (a:=qX) (b:=Um) vm)<|ag Y ?_;refine RT.done ⟨by kernel_rfl,?_⟩;refine aW.n<|sr<|mo (s:=.uW _ _ _) Y<|mv Y<|mv Y<|lE h λsn Aw h=>cv _ Y (UK.nat Aw)<|bE h λzu Ij h=>RT.Ov .none Y Y T Ij<|bE h λl18 ai3 h=>sR sn Y Y Y Y ai3<|dn<|aX<|mv Y<|lE h λsF zH h=>RT.shr .none _ Y Y T (by decide) (Mf (k:=.u64) (a:=nk) (q:=63) (s:=63) Y zH)<|ag Y<|RT.done<|bF.n<|aW.n<|aX<|lE h λsj h48 h=>ad _ Y Y h48<|mv Y<|RT.done ?_;obtain rfl:=O h;exact aW.n ⟨(sF,sj,k16,l18),My _ Y,wR []⟩;subst Mx;obtain⟨Wh,DK⟩:=Fj
 try dsimp only
 refine aW.n<|sr<|mv Y<|lE tX λAy Kk tX=>ne _ Y Y (neN (p:=Wh) (q:=0) Kk)<|ag Y<|dn<|bf<|bE tX λ_ hle tX=>?_;obtain rfl:=O tX;exact⟨.inr Y,.sv (lz (.tmp Y (.nil)) au),(by show _=qO.live ⟨130,1,x0.length,List.flatMap bh DK⟩;rw[<-sE hle];rfl)⟩
set_option maxHeartbeats 4000000 in
theorem Fk{x0:List Nat}{x1:List Nat}(N:Nat){r:(List Nat)×(List Nat)}(h:m8 x0 x1=some r):dK ah 205 N [slc 1 (List.map bh x0),slc 1 (List.map bh x1)] (.Ca [nw N (slc 1 (List.map bh r.1)),nw N (slc 1 (List.map bh r.2))]):=by
 refine bU Tryz.func205 Y (af Y) (λdw M vs hN hvs=>?_);unfold m8 at h;refine sr<|ag Y<|ag Y<|dn<|bR (c8 4 306 130 1 Y Y T)<|bR (c8 5 308 130 1 Y Y T)<|sr<|mv Y<|lE h λdX jO h=>ln Y jO<|ag Y<|dn<|sr<|mv Y<|mv Y<|lE h λij oG h=>sb _ Y Y oG<|bE h λfL ke h=>ix Y Y ke<|lr Y Y<|bE h λjg qP h=>cl (vF qP) ⟨Y,aq⟩ ?_;refine lE h λgX oY h=>cv _ Y (UK.conv oY)<|ag Y<|dn<|qq<|aZ mixed<|mv Y<|mv Y<|bE h λiO pN h=>cN (Ce pN) ⟨Y,Y,aq⟩<|mv Y<|mv Y<|bE h λoF vD h=>cl (CX vD) ⟨Y,Y,aq⟩<|mv Y<|bE h λiP pW h=>RT.H8 .none 0 dX Y Y ⟨_,Y⟩ T pW<|an (s:=.row _) Y<|ag Y ?_;refine RT.done ⟨by kernel_rfl,?_⟩;refine aW.n<|sr<|mv Y<|lE h λsY xp h=>ln Y xp<|mv Y<|lE h λpg yI h=>sb _ Y Y yI<|lE h λuG DS h=>ad _ Y Y DS<|bE h λqX Av h=>RT.tL (n:=1) (e:=bh) .none Y Y T Y T (by rfl) (by decide) (by exact⟨au,aq⟩) Av<|an (s:=.row _) Y<|dn<|qq<|sr<|mv Y<|lE h λnk vm h=>ln Y vm<|mv Y<|lE h λnF yl h=>sb _ Y Y yl ?_;refine ag Y<|dn<|bE h λe36 amV afb=>?_;refine bK (λ(Us:(List Nat)×(List Nat))=>AS.cj 141 [(4,.row 38),(6,ai dX),(7,.sv (.v (.int .u64 ((gX:Nat):Int)))),(8,.row 27)] [] [(38,TR 130 1 bh Us.1),(27,TR 130 1 bh Us.2)]) (λUs=>Us=e36) ?_ (λUs amW=>?_);refine aY ?_
 refine bL amV (λs36=>AS.cj 141 [(4,.row 38),(6,ai dX),(7,.sv (.v (.int .u64 ((gX:Nat):Int)))),(8,.row 27),(9,.sv (slc 1 (List.map bh iP))),(10,ai s36.1)] [] [(38,TR 130 1 bh s36.2.1),(27,TR 130 1 bh s36.2.2)]) (wR []) (λs36 y36 G36 h amX amY=>?_);obtain⟨nX,AQ,CU⟩:=s36
 try dsimp only
 refine qq<|sr<|mv Y<|lE h λsn Aw h=>ge _ Y Y Aw<|dn ?_;cases sn;refine cF<|bN<|aW.x<|aW.x<|bF.x<|aW.n ?_;obtain rfl:=O (F h);exact⟨(AQ,CU),amY _ Y,wR []⟩;refine cT<|bw<|aW.n<|qq<|aY<|sr<|mo (s:=.row _) Y<|mv Y<|mv Y<|mv Y<|lE (V h) λBP Ik h=>ad _ Y Y Ik<|lE h λAz GI h=>ad _ Y Y GI ?_;obtain⟨⟨o53,n53⟩,Re,h⟩:=bS h;refine RT.aiy .none nX Az Y Y ⟨_,Y⟩ ⟨_,Y⟩ T Re<|mv Y ?_;obtain⟨⟨AA,l38⟩,OL,h⟩:=bS h;refine bE h λ_ amZ h=>cR (l:=CU) (l':=l38) (e:=bh) (DR OL) (sE amZ) 27 Y (.k2 Y Y)<|ag Y<|dn<|qq<|sr<|mo (s:=.row _) Y<|mv Y<|mv Y<|mv Y<|lE h λDt N2 h=>ad _ Y Y N2<|lE h λQ1 h61 h=>ad _ Y Y h61 ?_;obtain⟨⟨o62,n62⟩,Wu,h⟩:=bS h;refine RT.aiy .none nX Q1 Y Y ⟨_,Y⟩ ⟨_,Y⟩ T Wu<|mv Y<|mv Y ?_;obtain⟨⟨N1,Zz⟩,Vp,h⟩:=bS h;refine bE h λ_ am0 h=>cR (l:=l38) (l':=Zz) (e:=bh) (xq Vp) (sE am0) 27 Y (.k3 Y Y Y)<|dn ?_;refine bJ h (λj53=>AS.cj 141 [(4,.row 38),(6,ai dX),(7,.sv (.v (.int .u64 ((gX:Nat):Int)))),(8,.row 27),(9,.sv (slc 1 (List.map bh iP))),(10,ai nX),(11,.sv (.v (.int .u64 ((j53.1:Nat):Int))))] [] [(38,TR 130 1 bh AQ),(27,TR 130 1 bh j53.2)]) (λh=>?_) (λj53 h=>?_);cases N1;exact fs<|⟨(AA,Zz),(F h),wR []⟩
 refine cT<|sr<|mv Y<|lE (V h) λx67 h67 h=>sb _ Y Y (UK.sub (a:=AA) (b:=1) h67)<|ag Y<|dn<|sr<|RT.HW .none (gY 0) Y ⟨Y,aq⟩ T Y Y<|an (s:=.kU _ _) Y<|dn<|qq<|sr<|mv Y<|lE h λJ0 h70 h=>ln Y h70<|mv Y<|dn<|bE h λe65 am1 A4=>?_;refine bK (λ(Ut:Nat×(List Nat))=>AS.cj 141 [(4,.row 38),(6,ai dX),(7,.sv (.v (.int .u64 ((gX:Nat):Int)))),(8,.row 27),(9,.sv (slc 1 (List.map bh iP))),(10,ai nX),(11,.sv (.v (.int .u64 ((x67:Nat):Int)))),(12,.kU 202 [.box 68])] [(68,⟨128,[.sv (.v (.int .u64 ((Ut.1:Nat):Int)))]⟩)] [(38,TR 130 1 bh AQ),(27,TR 130 1 bh Ut.2)]) (λUt=>Ut=e65) ?_ (λUt am2=>?_);refine aY ?_;refine bL am1 (λs65=>AS.cj 141 [(4,.row 38),(6,ai dX),(7,.sv (.v (.int .u64 ((gX:Nat):Int)))),(8,.row 27),(9,.sv (slc 1 (List.map bh iP))),(10,ai nX),(11,.sv (.v (.int .u64 ((x67:Nat):Int)))),(12,.kU 202 [.box 68]),(69,.sv (slc 1 (List.map bh iP))),(70,ai J0),(71,ai s65.1)] [(68,⟨128,[.sv (.v (.int .u64 ((s65.2.1:Nat):Int)))]⟩)] [(38,TR 130 1 bh AQ),(27,TR 130 1 bh s65.2.2)]) (wR []) (λs65 y65 G65 h am3 am4=>?_);obtain⟨Ff,DL,CV⟩:=s65
 try dsimp only
 refine sr<|lE h λUp h72 h=>ls _ Y Y h72<|dn<|qq ?_;cases Up;refine cF<|bN<|aW.x<|aW.x<|bF.x<|aW.n ?_;obtain rfl:=O (F h);exact⟨(DL,CV),am4 _ Y,wR []⟩;refine cT<|bw<|aW.n<|qq<|aY<|sr<|mv Y<|bE (V h) λx74 h74 h=>ix Y Y h74<|lr Y Y<|ag Y<|ag Y<|dn<|aX<|mo (s:=.row _) Y<|mv Y<|mv Y<|lE h λF3 Uu h=>ad _ Y Y Uu<|mo (s:=.kU _ _) Y<|mo (s:=.row _) Y<|mv Y<|mv Y<|lE h λJ1 h84 h=>ad _ Y Y h84<|bE h λx85 h85 h=>iR Y Y Y h85 ?_;refine bE h λQ7 h86 h=>lR Y Y h86 Y<|lE h λIe h87 h=>cv _ Y (UK.nat h87)<|mv Y<|lE h λx89 h89 h=>cv _ Y (UK.nat h89)<|lE h λVo h90 h=>ad _ Y Y (UK.add (a:=Ie) (b:=x89) h90) ?_;obtain⟨⟨x91,k68⟩,h91,h⟩:=bS h;refine cB (dh h91) 68 Y ⟨Y,aq⟩<|bE h λx92 h92 h=>iR Y Y Y h92<|bE h λl69 ai7 h=>sR x91 Y Y Y Y ai7<|RT.done<|bF.n<|aW.n<|aX<|lE h λOB h93 h=>ad _ Y Y h93<|mv Y<|RT.done ?_;obtain rfl:=O h;exact aW.n ⟨(OB,k68,l69),am3 _ Y,wR []⟩;subst am2;obtain⟨OC,Ig⟩:=Ut
 try dsimp only
 refine aW.n<|aX<|mo (s:=.row _) Y<|mv Y<|mv Y<|lE A4 λx97 h97 A4=>ad _ Y Y h97<|mo (s:=.kU _ _) Y<|mo (s:=.row _) Y<|mv Y<|mv Y<|lE A4 λKh Wv A4=>ad _ Y Y Wv<|bE A4 λKi Ww A4=>iR Y Y Y Ww<|bE A4 λKj Wx A4=>lR Y Y Wx Y<|lE A4 λUq afg A4=>cv _ Y (UK.nat afg) ?_;obtain⟨⟨aeS,k72⟩,am9,A4⟩:=bS A4;exact cB (dh am9) 68 Y ⟨Y,aq⟩<|bE A4 λaiQ ana A4=>iR Y Y Y ana<|bE A4 λl73 ai8 A4=>sR aeS Y Y Y Y ai8<|dn<|⟨(x67,l73),A4,wR []⟩;obtain⟨Wi,Q6⟩:=j53
 try dsimp only
 refine aW.n<|aX<|mo (s:=.row _) Y<|mv Y<|mv Y<|lE h λAR Rf h=>cv _ Y (UK.nat Rf)<|bE h λaiO anb h=>iR Y Y Y anb<|bE h λl55 ai9 h=>sR AR Y Y Y Y ai9<|RT.done<|bF.n<|aW.n<|aX<|mv Y<|lE h λvg h46 h=>sb _ Y Y h46<|ag Y<|RT.done ?_;obtain rfl:=O h;exact aW.n ⟨(vg,l55,Q6),amX _ Y,wR []⟩;subst amW;obtain⟨Ih,Fg⟩:=Us
 try dsimp only
 refine aW.n<|sr<|mv Y<|bE afb λQ8 afh afb=>RT.tL (n:=1) (e:=bh) .none Y Y T Y T (by rfl) (by decide) (by exact⟨au,aq⟩) afh<|an (s:=.row _) Y<|dn<|qq<|sr<|mv Y<|mv Y<|dn<|bE afb λe81 anc ane=>?_;refine bK (λ(zG:(List Nat))=>AS.cj 141 [(4,.row 38),(5,.row 114)] [] [(38,TR 130 1 bh Ih),(114,TR 130 1 bh zG)]) (λzG=>zG=e81) ?_ (λzG anf=>?_);refine aY ?_;refine bL anc (λs81=>AS.cj 141 [(4,.row 38),(5,.row 114),(7,.sv (.v (.int .u64 ((gX:Nat):Int)))),(8,.row 27),(115,ai dX),(116,ai s81.1)] [] [(38,TR 130 1 bh Ih),(114,TR 130 1 bh s81.2),(27,TR 130 1 bh Fg)]) (wR []) (λs81 y81 G81 h ang anh=>?_);obtain⟨BR,DM⟩:=s81
 try dsimp only
 refine sr<|lE h λDN Rg h=>ls _ Y Y Rg<|dn<|qq ?_;cases DN;refine cF<|bN<|aW.x<|aW.x<|bF.x<|aW.n ?_;obtain rfl:=O (F h);exact⟨DM,anh _ Y,wR []⟩;refine cT<|bw<|aW.n<|qq<|aY<|sr<|mv Y<|ag Y<|dn<|aZ mixed<|mo (s:=.row _) Y<|mv Y<|mo (s:=.row _) Y<|mv Y<|bE (V h) λaiR ani h=>iR Y Y Y ani<|bE h λaiS Rh h=>lR Y Y Rh Y<|lE h λAT Ri h=>cv _ Y (UK.nat Ri)<|mo (s:=.row _) Y<|mv Y<|lE h λaiT h128 h=>ad _ Y Y h128<|bE h λaiU anj h=>?_;refine iR Y Y Y anj<|bE h λaiV ank h=>lR Y Y ank Y<|lE h λaeT anl h=>cv _ Y (UK.nat anl)<|lE h λaeU anm h=>RT.shl .none _ Y Y T (by decide) (UK.shl (a:=aeT) (q:=32) (s:=32) Y anm)<|lE h λaeV ann h=>RT.or .none _ Y Y T (UK.or (a:=AT) (b:=aeU) ann)<|mv Y<|lE h λaiW ano h=>RT.shr .none _ Y Y T (Int.natCast_nonneg _) (Mf (k:=.u64) (a:=aeV) (q:=((gX:Nat):Int)) (s:=min gX 64) Y ano)<|lE h λaeW anp h=>cv _ Y (UK.nat anp) ?_;refine bE h λaiX anq h=>iR Y Y Y anq<|bE h λl83 aja h=>sR aeW Y Y Y Y aja ?_;refine RT.done ⟨by kernel_rfl,?_⟩;refine bF.n<|aW.n<|aX<|lE h λaeX anr h=>ad _ Y Y anr<|mv Y<|RT.done ?_;obtain rfl:=O h;exact aW.n ⟨(aeX,l83),ang _ Y,wR []⟩;subst anf
 try dsimp only
 refine aW.n<|sr<|mo (s:=.row _) Y<|mo (s:=.row _) Y<|an (s:=.row _) Y<|an (s:=.row _) Y<|dn<|lB (i:=38) (E1:=130) (n:=1) (e:=bh) (l:=Ih) hN (λ_ h=>h) Y<|lB (i:=114) (E1:=130) (n:=1) (e:=bh) (l:=zG) hN (λ_ h=>h) Y<|bf ?_;obtain rfl:=O ane;exact R2 Y Y
theorem uP{x0:List Nat}(N:Nat){r:List Nat}(h:gH x0=some r):dK ah 175 N [slc 1 (List.map bh x0)] (nw N (slc 1 (List.map bh r))):=aai (yG h)
theorem xD{x0:List Nat}{x1:List Nat}(N:Nat){r:(List Nat)×(List Nat)}(h:jJ x0 x1=some r):dK ah 193 N [slc 1 (List.map bh x0),slc 1 (List.map bh x1)] (.Ca [nw N (slc 1 (List.map bh r.1)),nw N (slc 1 (List.map bh r.2))]):=by
 refine bU Tryz.func193 Y (af Y) (λdw M vs hN hvs=>?_);unfold jJ at h;refine sr<|ag Y<|aI Y (bu (N:=N) (n:=1) (e:=bh))<|dn<|bR (c8 4 304 130 1 Y Y T)<|qq<|aY<|sr<|mv Y<|mv Y<|bE h λc9 fC h=>cl (jY fC) ⟨Y,Y,aq⟩<|lE h λeD iF h=>ls _ Y Y iF<|ag Y<|dn ?_;cases eD;refine cF<|sr<|mv Y<|lE (F h) λeX jK h=>ln Y jK<|lE h λjl mz h=>RT.leq .none _ Y Y T mz<|ag Y<|dn ?_;cases jl;refine cF<|sr<|mv Y<|lE (F h) λpg yI h=>ln Y yI<|lE h λuG DS h=>eq _ Y Y (ve (p:=pg) (q:=1) DS)<|ag Y<|dn ?_;cases uG;refine cF<|bw<|bF.n<|aW.n<|sr<|mv Y<|mv Y ?_;obtain⟨⟨aiY,aiZ⟩,GI,h⟩:=bS (F h);refine RT.bZ .none (Fk N GI) hN Y ⟨Y,Y,aq⟩ T<|ex Y Y<|ex Y Y<|ag Y<|ag Y<|dn<|bf ?_;obtain rfl:=O h;exact R2 Y Y;refine cT<|sr<|mv Y<|bE (V h) λvW DT h=>cN (yG DT) ⟨Y,aq⟩<|an (s:=.row _) Y<|dn<|sr<|mo (s:=.row _) Y<|mv Y<|bE h λnF yl h=>ix Y Y yl<|lr Y Y<|lE h λsn Aw h=>cv _ Y (UK.nat Aw) ?_;obtain⟨⟨zu,l5⟩,Ij,h⟩:=bS h;refine bE h λ_ he5 h=>cR (l:=vW) (l':=l5) (e:=bh) (DQ Ij) (sE he5) 39 Y (.k2 Y Y)<|ag Y<|dn<|sr<|mo (s:=.row _) Y<|mv Y<|lE h λsj h48 h=>cv _ Y (UK.nat h48)<|RT.DE (l:=[sj]) (e:=bh) .none hN (.one Y (.nil)) T Y Y Y Y Y Y<|an (s:=.row _) Y<|ag Y<|dn<|lB (i:=39) (E1:=130) (n:=1) (e:=bh) (l:=l5) hN (λ_ h=>h) Y ?_
 refine bf<|bF.r<|aW.r ?_;obtain rfl:=O h;exact R2 Y Y;refine cT<|sr<|mv Y<|bE (V h) λfL ke h=>cl (mN ke) ⟨Y,aq⟩<|mv Y<|bE h λjg qP h=>cl (mN qP) ⟨Y,aq⟩<|ag Y<|ag Y<|dn<|qq<|aZ mixed<|mv Y<|mv Y<|bE h λjH rW h=>RT.quo .none _ Y Y T (nzU rW) (UK.quo rW) ?_;obtain⟨⟨SY,OD⟩,pN,h⟩:=bS h;refine RT.bZ .none (nY N pN) hN Y ⟨Y,Y,aq⟩ T<|fl Y Y<|mv Y<|mv Y<|bE h λnV yy h=>RT.rem .none _ Y Y T (nzR yy) (Z5 yy) ?_;obtain⟨⟨yF,xB⟩,pW,h⟩:=bS h;refine RT.bZ .none (nY N pW) hN Y ⟨Y,Y,aq⟩ T<|fl Y Y<|ag Y<|ag Y ?_;refine RT.done ⟨by kernel_rfl,?_⟩;refine aW.n<|bf<|bF.r<|aW.r ?_;obtain rfl:=O h;exact R2 Y Y;refine cT<|sr<|mv Y<|bE (V h) λdH gD h=>RT.bZ .none (uP N gD) hN Y ⟨Y,aq⟩ T<|ag Y<|ag Y<|dn<|bR (c8 4 310 130 1 Y Y T)<|lB (i:=310) (E1:=130) (n:=1) (e:=bh) (l:=[]) hN (λ_ h=>h) Y<|bf<|bF.r<|aW.r ?_;obtain rfl:=O h;exact R2 Y Y
end
section
open Go.Fw Go.Fw.Z Go.RowKit
theorem fY{x0:Int}(N:Nat){r:Zr}(h:cW x0=some r):dK ah 90 N [ay x0] (.agg ((fZ N) r)):=by
 refine bU Tryz.func90 Y (af Y) (λdw M vs hN hvs=>?_);unfold cW at h;refine sr<|al (cs:=[aA false,nw N ax]) (by exact⟨au,bu,aq⟩) Y<|dn<|sr<|mv Y<|lE h λx5 h5 h=>cv _ Y (UK.conv h5)<|ag Y<|dn<|qq<|sr<|mv Y<|lE h λx7 h7 h=>ls _ Y Y h7<|dn ?_;refine bJ h (λj2=>AS.cj 14 [(0,ai x0),(2,.ptr 2 0),(3,.sv (.v (.int .u64 ((j2:Nat):Int))))] [(2,⟨41,[aj false,.sv (nw N ax)]⟩)] []) (λh=>?_) (λOE h=>?_);cases x7;exact fs<|⟨x5,(F h),wR []⟩;exact cT<|aX<|mv Y<|lE (V h) λx9 h9 h=>RT.neg .none _ Y T (UK.neg h9)<|ag Y<|dn<|⟨x9,h,wR []⟩
 try dsimp only
 refine aW.n<|sr<|mv Y<|lE h λfz lq h=>ls _ Y Y lq<|mv Y ?_;obtain⟨⟨AU,AW⟩,iF,h⟩:=bS h;refine RT.bZ .none (nY N iF) hN Y ⟨Y,Y,aq⟩ T<|so Y Y Y<|dn<|bf ?_;obtain rfl:=O h;exact RZ (.agg Y Y (.k2 Y Y) Y (.nil))
theorem CZ{x0:Int}{r:Zr}(h:cW x0=some r):Pure ah 90 [ay x0] (.agg (eZ r)):=eT (λN=>fY N h) (λN=>(SV.fT (zI _ _)))
theorem jP{x0:Zr}{r:Int×Bool}(h:fj x0=some r):Pure ah 166 [.agg (eZ x0)] (.Ca [ay r.1,aA r.2]):=by
 obtain⟨bk,bn⟩:=x0;refine bj Tryz.func166 Y (af Y) (λdw M vs hvs=>?_);unfold fj at h;refine sr<|bx Y<|ag Y<|ag Y<|dn<|sr<|fa Y Y<|lV Y Y Y<|bE h λx8 h8 h=>cl (dx h8) ⟨Y,aq⟩<|ag Y<|dn<|qq<|sr<|mv Y<|lE h λdI gC h=>ln Y gC<|lE h λfz lq h=>gt _ Y Y lq<|dn ?_;cases fz;refine fs<|sr<|mv Y<|bE (F h) λeD iF h=>cl (mN iF) ⟨Y,aq⟩<|ag Y<|dn<|qq<|sr<|fa Y Y<|lV Y Y Y<|dn ?_;cases bk;refine fs<|qq<|sr<|mv Y<|lE (F h) λiA oH h=>ge _ Y Y (leN (p:=9223372036854775808) (q:=eD) oH)<|dn ?_;cases iA;refine fs<|sr<|mv Y<|lE (F h) λgX oY h=>cv _ Y oY<|ag Y<|ag Y<|dn<|bf ?_;obtain rfl:=O h;exact R2 Y Y;refine cT<|sr<|ag Y<|ag Y<|dn<|bf<|aW.r ?_;obtain rfl:=O (V h);exact R2 Y Y;refine cT<|qq<|sr<|mv Y<|lE (V h) λdX jO h=>gt _ Y Y (ltN (p:=9223372036854775808) (q:=eD) jO)<|dn ?_;cases dX;refine fs<|sr<|mv Y<|lE (F h) λjl mz h=>RT.neg .none _ Y T (UK.neg mz)<|lE h λij oG h=>cv _ Y oG<|ag Y<|ag Y<|dn<|bf<|aW.r ?_;obtain rfl:=O h;exact R2 Y Y;refine cT<|sr<|ag Y<|ag Y<|dn<|bf<|aW.r<|aW.r ?_;obtain rfl:=O (V h);exact R2 Y Y;refine cT<|sr<|ag Y<|ag Y<|dn<|bf<|aW.r ?_;obtain rfl:=O (V h);exact R2 Y Y
theorem ym{x0:List Nat}(N:Nat){r:List Nat}(h:bP x0=some r):dK ah 144 N [nw N (slc 1 (List.map bh x0))] (nw N (slc 1 (List.map bh r))):=by
 refine bU Tryz.func144 Y (af Y) (λdw M vs hN hvs=>?_);unfold bP at h;refine sr<|aI Y (bu (N:=N) (n:=1) (e:=bh))<|dn<|qq<|bE h λFi yg pq=>?_;refine bK (λ(Ib:(List Nat))=>AS.cj 21 [(0,.sv (nw N (slc 1 (List.map bh Ib))))] [] []) (λIb=>Ib=Fi) ?_ (λIb yh=>?_);refine aY ?_;refine bL yg (λuH=>AS.cj 21 [(0,.sv (nw N (slc 1 (List.map bh uH))))] [] []) (wR []) (λGB ZA ZB h yj uN=>?_)
 try dsimp only
 refine qq<|qq ?_;refine bJ h (λGF=>AS.cj 21 [(0,.sv (nw N (slc 1 (List.map bh GB)))),(14,aj GF)] [] []) (λh=>?_) (λIa h=>?_);refine aX<|mv Y<|lE h λx4 h4 h=>RT.Lc .none Y T h4<|lE h λx5 h5 h=>gt _ Y Y h5<|mv Y<|bE h λFb dD h=>?_;cases x5;obtain rfl:=O (F dD);exact ww<|ww<|ww<|ww<|ww<|ww<|ww<|pF Y<|dn<|⟨false,h,wR []⟩;refine gm Y<|gm Y<|lE (V dD) λx9 h9 dD=>RT.Lc (.some Y Y) Y T h9<|lE dD λdI gC dD=>RT.sub (.some Y Y) _ Y Y T gC<|bE dD λfz lq dD=>RT.aiH (.some Y Y) Y Y T lq<|gr Y Y<|lE dD λeD iF dD=>Uh _ Y Y (eqN (p:=fz) (q:=0) iF) ?_;obtain rfl:=O dD;exact pT Y<|dn<|⟨eD,h,wR []⟩
 try dsimp only
 refine aW.n ?_;cases Ia;refine cF<|bN<|aW.x<|aW.x<|bF.x<|aW.n ?_;obtain rfl:=O (F h);exact⟨GB,uN _ Y,wR []⟩;refine cT<|bw<|aW.n<|aY<|aX<|mv Y<|mv Y<|lE (V h) λdX jO h=>RT.Lc .none Y T jO<|lE h λeX jK h=>sb _ Y Y jK<|bE h λjl mz h=>RT.aaj .none 0 eX Y Y ⟨_,Y⟩ T mz<|ag Y<|RT.done<|bF.n ?_;obtain rfl:=O h;exact aW.n ⟨jl,yj _ Y,wR []⟩;subst yh
 try dsimp only
 refine aW.n<|sr<|mv Y<|ag Y<|dn<|bf ?_;obtain rfl:=O pq;exact R1 Y
theorem iG{x0:Bool}{x1:List Nat}(N:Nat){r:Zr}(h:dr x0 x1=some r):dK ah 163 N [aA x0,nw N (slc 1 (List.map bh x1))] (.agg ((fZ N) r)):=by
 refine bU Tryz.func163 Y (af Y) (λdw M vs hN hvs=>?_);unfold dr at h;refine sr<|al (cs:=[aA false,nw N ax]) (by exact⟨au,bu,aq⟩) Y<|dn<|sr<|mv Y<|bE h λx6 h6 h=>RT.bZ .none (ym N h6) hN Y ⟨Y,aq⟩ T<|ag Y<|dn<|qq<|sr<|mv Y<|lE h λx8 h8 h=>RT.Lc .none Y T h8<|lE h λx9 h9 h=>eq _ Y Y (ve (p:=x8) (q:=0) h9)<|dn ?_;cases x9;refine fs<|sr<|mv Y<|mv Y<|bI (cs:=[_,_]) (cs':=[aA x0,nw N (slc 1 (List.map bh x6))]) (.one Y (.one Y (.nil))) ⟨au,au,aq⟩<|so Y Y Y<|dn<|bf ?_;obtain rfl:=O (F h);exact RZ (.agg Y Y (.k2 Y Y) Y (.nil));refine cT<|sr<|bI (cs:=[_,_]) (cs':=[aA false,nw N ax]) (.nil) ⟨au,bu,aq⟩<|so Y Y Y<|dn<|bf<|aW.r ?_;obtain rfl:=O (V h);exact RZ (.agg Y Y (.k2 Y Y) Y (.nil))
theorem wv{x0:Bool}{x1:List Nat}{x2:Bool}{x3:List Nat}(N:Nat){r:Zr}(h:eY x0 x1 x2 x3=some r):dK ah 203 N [aA x0,slc 1 (List.map bh x1),aA x2,slc 1 (List.map bh x3)] (.agg ((fZ N) r)):=by
 refine bU Tryz.func203 Y (af Y) (λdw M vs hN hvs=>?_);unfold eY at h;refine sr<|al (cs:=[aA false,nw N ax]) (by exact⟨au,bu,aq⟩) Y<|dn<|qq<|sr<|mv Y<|mv Y<|lE h λfz lq h=>RT.ZQ .none _ Y Y T lq<|dn ?_;cases fz;refine fs<|qq<|sr<|mv Y<|mv Y<|bE (F h) λjl mz h=>cl (jY mz) ⟨Y,Y,aq⟩<|lE h λij oG h=>ls _ Y Y oG<|dn ?_;cases ij;refine fs<|sr<|mv Y<|mv Y<|mv Y<|bE (F h) λgI m7 h=>RT.bZ .none (qZ N m7) hN Y ⟨Y,Y,aq⟩ T ?_;obtain⟨⟨sq,su⟩,vD,h⟩:=bS h;refine RT.bZ .none (iG N vD) hN Y ⟨Y,Y,aq⟩ T<|so Y Y Y<|dn<|bf ?_;obtain rfl:=O h;exact RZ (.agg Y Y (.k2 Y Y) Y (.nil));refine cT<|sr<|mv Y<|mv Y<|mv Y<|bE (V h) λgX oY h=>RT.bZ .none (qZ N oY) hN Y ⟨Y,Y,aq⟩ T ?_;obtain⟨⟨nG,m9⟩,nP,h⟩:=bS h;refine RT.bZ .none (iG N nP) hN Y ⟨Y,Y,aq⟩ T<|so Y Y Y<|dn<|bf<|aW.r ?_;obtain rfl:=O h;exact RZ (.agg Y Y (.k2 Y Y) Y (.nil));refine cT<|sr<|mv Y<|mv Y<|mv Y<|bE (V h) λdH gD h=>RT.bZ .none (xC N gD) hN Y ⟨Y,Y,aq⟩ T ?_;obtain⟨⟨qu,qw⟩,lu,h⟩:=bS h;refine RT.bZ .none (iG N lu) hN Y ⟨Y,Y,aq⟩ T<|so Y Y Y<|dn<|bf<|aW.r ?_;obtain rfl:=O h;exact RZ (.agg Y Y (.k2 Y Y) Y (.nil))
theorem MA{x0:Zr}{x1:Zr}(N:Nat){r:Zr}(h:tN x0 x1=some r):dK ah 188 N [.agg (eZ x0),.agg (eZ x1)] (.agg ((fZ N) r)):=by
 obtain⟨bk,bn⟩:=x0;obtain⟨cu,cm⟩:=x1;refine bU Tryz.func188 Y (af Y) (λdw M vs hN hvs=>?_);unfold tN at h;refine sr<|bx Y<|bx Y<|al (cs:=[aA false,nw N ax]) (by exact⟨au,bu,aq⟩) Y<|dn<|sr<|ld Y Y (.k2 Y Y) ?_;obtain⟨⟨AX,DO⟩,fC,h⟩:=bS h;refine cl (jP fC) ⟨Y,aq⟩<|mv Y<|ex Y Y<|ex Y Y<|ag Y<|ag Y<|dn<|sr<|ld Y Y (.k2 Y Y) ?_;obtain⟨⟨Mq,Q9⟩,jO,h⟩:=bS h;refine cl (jP jO) ⟨Y,aq⟩<|mv Y<|ex Y Y<|ex Y Y<|ag Y<|ag Y<|dn<|qq<|qq ?_;refine bJ h (λj3=>AS.cj 48 [(2,.ptr 2 0),(3,.ptr 3 0),(4,.ptr 4 0),(5,ai AX),(7,ai Mq),(23,aj j3)] [(4,⟨41,[aj false,.sv (nw N ax)]⟩),(3,⟨41,[aj cu,.sv (slc 1 (List.map bh cm))]⟩),(2,⟨41,[aj bk,.sv (slc 1 (List.map bh bn))]⟩)] []) (λh=>?_) (λqY h=>?_);refine aX<|mv Y<|mv Y<|bE h λOF MB h=>?_;cases DO;obtain rfl:=O (F MB);exact ww<|pF Y<|dn<|⟨false,h,wR []⟩;refine gm Y ?_;obtain rfl:=O (V MB);exact pT Y<|dn<|⟨Q9,h,wR []⟩
 try dsimp only
 refine aW.n ?_;refine bJ h (λj5=>AS.cj 48 [(2,.ptr 2 0),(3,.ptr 3 0),(4,.ptr 4 0)] [(4,⟨41,[aj false,.sv (nw N ax)]⟩),(3,⟨41,[aj cu,.sv (slc 1 (List.map bh cm))]⟩),(2,⟨41,[aj bk,.sv (slc 1 (List.map bh bn))]⟩)] []) (λh=>?_) (λj5 h=>?_);cases qY;exact fs<|⟨(),(F h),wR []⟩;refine cT<|sr<|mv Y<|mv Y<|lE (V h) λjH rW h=>ad _ Y Y rW<|ag Y<|dn<|sr<|mv Y<|mv Y<|lE h λgI m7 h=>RT.xor .none _ Y Y T m7<|mv Y<|mv Y<|lE h λiP pW h=>RT.xor .none _ Y Y T pW<|lE h λoD xn h=>RT.and .none _ Y Y T xn<|lE h λsY xp h=>ge _ Y Y xp<|dn ?_;cases sY;exact fs<|⟨(),(F h),wR []⟩;refine cT<|sr<|mv Y ?_;obtain⟨⟨F6,F7⟩,yI,h⟩:=bS (V h);refine RT.bZ .none (fY N yI) hN Y ⟨Y,aq⟩ T<|so Y Y Y<|dn<|bf<|aW.r<|aW.r ?_;obtain rfl:=O h;exact RZ (.agg Y Y (.k2 Y Y) Y (.nil))
 try dsimp only
 refine aW.n<|qq<|aZ mixed<|fa Y Y<|lV Y Y Y<|fa Y Y<|lV Y Y Y<|bE h λyE GH h=>cl (dx GH) ⟨Y,aq⟩<|fa Y Y<|lV Y Y Y<|fa Y Y<|lV Y Y Y<|bE h λvg h46 h=>cl (dx h46) ⟨Y,aq⟩ ?_;obtain⟨⟨F4,F5⟩,zH,h⟩:=bS h;refine RT.bZ .none (wv N zH) hN Y ⟨Y,Y,Y,Y,aq⟩ T<|so Y Y Y ?_;refine RT.done ⟨by kernel_rfl,?_⟩;refine aW.n<|bf ?_;obtain rfl:=O h;exact RZ (.agg Y Y (.k2 Y Y) Y (.nil))
theorem MC{x0:Zr}{x1:Zr}(N:Nat){r:Zr}(h:tQ x0 x1=some r):dK ah 190 N [.agg (eZ x0),.agg (eZ x1)] (.agg ((fZ N) r)):=by
 obtain⟨bk,bn⟩:=x0;obtain⟨cu,cm⟩:=x1;refine bU Tryz.func190 Y (af Y) (λdw M vs hN hvs=>?_);unfold tQ at h;refine sr<|bx Y<|bx Y<|al (cs:=[aA false,nw N ax]) (by exact⟨au,bu,aq⟩) Y<|dn<|sr<|ld Y Y (.k2 Y Y) ?_;obtain⟨⟨AX,DO⟩,fC,h⟩:=bS h;refine cl (jP fC) ⟨Y,aq⟩<|mv Y<|ex Y Y<|ex Y Y<|ag Y<|ag Y<|dn<|sr<|ld Y Y (.k2 Y Y) ?_;obtain⟨⟨Mq,Q9⟩,jO,h⟩:=bS h;refine cl (jP jO) ⟨Y,aq⟩<|mv Y<|ex Y Y<|ex Y Y<|ag Y<|ag Y<|dn<|qq<|qq ?_;refine bJ h (λj3=>AS.cj 49 [(2,.ptr 2 0),(3,.ptr 3 0),(4,.ptr 4 0),(5,ai AX),(7,ai Mq),(23,aj j3)] [(4,⟨41,[aj false,.sv (nw N ax)]⟩),(3,⟨41,[aj cu,.sv (slc 1 (List.map bh cm))]⟩),(2,⟨41,[aj bk,.sv (slc 1 (List.map bh bn))]⟩)] []) (λh=>?_) (λqY h=>?_);refine aX<|mv Y<|mv Y<|bE h λOF MB h=>?_;cases DO;obtain rfl:=O (F MB);exact ww<|pF Y<|dn<|⟨false,h,wR []⟩;refine gm Y ?_;obtain rfl:=O (V MB);exact pT Y<|dn<|⟨Q9,h,wR []⟩
 try dsimp only
 refine aW.n ?_;refine bJ h (λj5=>AS.cj 49 [(2,.ptr 2 0),(3,.ptr 3 0),(4,.ptr 4 0)] [(4,⟨41,[aj false,.sv (nw N ax)]⟩),(3,⟨41,[aj cu,.sv (slc 1 (List.map bh cm))]⟩),(2,⟨41,[aj bk,.sv (slc 1 (List.map bh bn))]⟩)] []) (λh=>?_) (λj5 h=>?_);cases qY;exact fs<|⟨(),(F h),wR []⟩;refine cT<|sr<|mv Y<|mv Y<|lE (V h) λjH rW h=>sb _ Y Y rW<|ag Y<|dn<|sr<|mv Y<|mv Y<|lE h λgI m7 h=>RT.xor .none _ Y Y T m7<|mv Y<|mv Y<|lE h λiP pW h=>RT.xor .none _ Y Y T pW<|lE h λoD xn h=>RT.and .none _ Y Y T xn<|lE h λsY xp h=>ge _ Y Y xp<|dn ?_;cases sY;exact fs<|⟨(),(F h),wR []⟩;refine cT<|sr<|mv Y ?_;obtain⟨⟨F6,F7⟩,yI,h⟩:=bS (V h);refine RT.bZ .none (fY N yI) hN Y ⟨Y,aq⟩ T<|so Y Y Y<|dn<|bf<|aW.r<|aW.r ?_;obtain rfl:=O h;exact RZ (.agg Y Y (.k2 Y Y) Y (.nil))
 try dsimp only
 refine aW.n<|qq<|aZ mixed<|fa Y Y<|lV Y Y Y<|fa Y Y<|lV Y Y Y<|bE h λyE GH h=>cl (dx GH) ⟨Y,aq⟩<|fa Y Y<|lV Y Y Y<|lE h λsn Aw h=>nt Y _ Aw<|fa Y Y<|lV Y Y Y<|bE h λsF zH h=>cl (dx zH) ⟨Y,aq⟩ ?_;obtain⟨⟨acg,ach⟩,h48,h⟩:=bS h;refine RT.bZ .none (wv N h48) hN Y ⟨Y,Y,Y,Y,aq⟩ T<|so Y Y Y ?_;refine RT.done ⟨by kernel_rfl,?_⟩;refine aW.n<|bf ?_;obtain rfl:=O h;exact RZ (.agg Y Y (.k2 Y Y) Y (.nil))
theorem gJ{x0:Zr}{x1:Zr}(N:Nat){r:Zr}(h:dV x0 x1=some r):dK ah 130 N [.agg (eZ x0),.agg (eZ x1)] (.agg ((fZ N) r)):=by
 obtain⟨bk,bn⟩:=x0;obtain⟨cu,cm⟩:=x1;refine bU Tryz.func130 Y (af Y) (λdw M vs hN hvs=>?_);unfold dV at h;refine sr<|bx Y<|bx Y<|al (cs:=[aA false,nw N ax]) (by exact⟨au,bu,aq⟩) Y<|dn<|qq<|aZ mixed<|fa Y Y<|lV Y Y Y<|bE h λx9 h9 h=>cl (dx h9) ⟨Y,aq⟩<|fa Y Y<|lV Y Y Y<|bE h λc9 fC h=>cl (dx fC) ⟨Y,aq⟩<|ag Y<|ag Y ?_;refine RT.done ⟨by kernel_rfl,?_⟩;refine aW.n<|qq<|qq ?_;refine bJ h (λj3=>AS.cj 41 [(2,.ptr 2 0),(3,.ptr 3 0),(4,.ptr 4 0),(5,.sv (slc 1 (List.map bh x9))),(6,.sv (slc 1 (List.map bh c9))),(20,aj j3)] [(4,⟨41,[aj false,.sv (nw N ax)]⟩),(3,⟨41,[aj cu,.sv (slc 1 (List.map bh cm))]⟩),(2,⟨41,[aj bk,.sv (slc 1 (List.map bh bn))]⟩)] []) (λh=>?_) (λWj h=>?_);refine aX<|mv Y<|lE h λei jx h=>ln Y jx<|lE h λdH gD h=>RT.leq .none _ Y Y T gD<|mv Y<|bE h λaci rY h=>?_;cases dH;obtain rfl:=O (F rY);exact ww<|ww<|ww<|pF Y<|dn<|⟨false,h,wR []⟩;refine gm Y<|lE (V rY) λeX jK rY=>gn Y jK<|lE rY λjl mz rY=>RT.leq (.some Y Y) _ Y Y T mz ?_;obtain rfl:=O rY;exact pT Y<|dn<|⟨jl,h,wR []⟩
 try dsimp only
 refine aW.n ?_;cases Wj;refine fs<|qq<|aZ mixed<|fa Y Y<|lV Y Y Y<|fa Y Y<|lV Y Y Y<|lE (F h) λpg yI h=>RT.T6 .none _ Y Y T yI<|mv Y<|mv Y<|bE h λvW DT h=>RT.bZ .none (DP N DT) hN Y ⟨Y,Y,aq⟩ T ?_;obtain⟨⟨vh,vi⟩,vm,h⟩:=bS h;refine RT.bZ .none (iG N vm) hN Y ⟨Y,Y,aq⟩ T<|so Y Y Y ?_;refine RT.done ⟨by kernel_rfl,?_⟩;refine aW.n<|bf ?_;obtain rfl:=O h;exact RZ (.agg Y Y (.k2 Y Y) Y (.nil));refine cT<|qq<|aZ mixed<|fa Y Y<|lV Y Y Y<|fa Y Y<|lV Y Y Y<|lE (V h) λjG nP h=>RT.T6 .none _ Y Y T nP<|mv Y<|bE h λiO pN h=>cl (mN pN) ⟨Y,aq⟩<|mv Y<|bE h λgI m7 h=>cl (mN m7) ⟨Y,aq⟩<|lE h λoF vD h=>RT.mul .none _ Y Y T (UK.mul (a:=iO) (b:=gI) vD) ?_;obtain⟨⟨OG,OH⟩,yy,h⟩:=bS h;refine RT.bZ .none (nY N yy) hN Y ⟨Y,Y,aq⟩ T<|so Y Y Y ?_;refine RT.done ⟨by kernel_rfl,?_⟩;refine aW.n<|bf<|aW.r ?_;obtain rfl:=O h;exact RZ (.agg Y Y (.k2 Y Y) Y (.nil))
theorem DU{x0:Zr}{x1:Zr}{r:Zr}(h:dV x0 x1=some r):Pure ah 130 [.agg (eZ x0),.agg (eZ x1)] (.agg (eZ r)):=eT (λN=>gJ N h) (λN=>(SV.fT (zI _ _)))
theorem vG{x0:Zr}(N:Nat){r:Zr}(h:jw x0=some r):dK ah 145 N [.agg (eZ x0)] (.agg ((fZ N) r)):=by
 obtain⟨bk,bn⟩:=x0;refine bU Tryz.func145 Y (af Y) (λdw M vs hN hvs=>?_);unfold jw at h;refine sr<|bx Y<|al (cs:=[aA false,nw N ax]) (by exact⟨au,bu,aq⟩) Y<|dn<|qq<|aZ mixed<|fa Y Y<|lV Y Y Y<|lE h λx5 h5 h=>nt Y _ h5<|fa Y Y<|lV Y Y Y<|bE h λx8 h8 h=>cl (dx h8) ⟨Y,aq⟩<|bE h λx9 h9 h=>RT.bZ .none (uP N h9) hN Y ⟨Y,aq⟩ T ?_;obtain⟨⟨AY,AZ⟩,gC,h⟩:=bS h;refine RT.bZ .none (iG N gC) hN Y ⟨Y,Y,aq⟩ T<|so Y Y Y ?_;refine RT.done ⟨by kernel_rfl,?_⟩;refine aW.n<|bf ?_;obtain rfl:=O h;exact RZ (.agg Y Y (.k2 Y Y) Y (.nil))
theorem DV{x0:Zr}{r:Zr}(h:jw x0=some r):Pure ah 145 [.agg (eZ x0)] (.agg (eZ r)):=eT (λN=>vG N h) (λN=>(SV.fT (zI _ _)))
theorem ik{x0:Zr}{r:Int}(h:dY x0=some r):Pure ah 104 [.agg (eZ x0)] (ay r):=by
 obtain⟨bk,bn⟩:=x0;refine bj Tryz.func104 Y (af Y) (λdw M vs hvs=>?_);unfold dY at h;refine sr<|bx Y<|ag Y<|dn<|qq<|aY<|sr<|fa Y Y<|lV Y Y Y<|bE h λx6 h6 h=>cl (dx h6) ⟨Y,aq⟩<|lE h λx7 h7 h=>ln Y h7<|lE h λx8 h8 h=>eq _ Y Y (ve (p:=x7) (q:=0) h8)<|ag Y<|dn ?_;cases x8;refine cF<|sr<|fa Y Y<|lV Y Y Y<|ag Y<|dn ?_;replace h:=F h;cases bk;refine cF<|bw<|bF.n<|aW.n<|sr<|ag Y<|dn<|bf ?_;obtain rfl:=O (F h);exact R1 Y;refine cT<|sr<|ag Y<|dn<|bf<|bF.r<|aW.r ?_;obtain rfl:=O (V h);exact R1 Y;refine cT<|sr<|ag Y<|dn<|bf<|bF.r<|aW.r ?_;obtain rfl:=O (V h);exact R1 Y
theorem MD{x0:Zr}{x1:Zr}{r:Int}(h:tW x0 x1=some r):Pure ah 129 [.agg (eZ x0),.agg (eZ x1)] (ay r):=by
 obtain⟨bk,bn⟩:=x0;obtain⟨cu,cm⟩:=x1;refine bj Tryz.func129 Y (af Y) (λdw M vs hvs=>?_);unfold tW at h;refine sr<|bx Y<|bx Y<|ag Y<|dn<|qq<|aZ mixed<|ld Y Y (.k2 Y Y)<|bE h λx8 h8 h=>cl (ik h8) ⟨Y,aq⟩<|ld Y Y (.k2 Y Y)<|bE h λdI gC h=>cl (ik gC) ⟨Y,aq⟩<|ag Y<|ag Y ?_;refine RT.done ⟨by kernel_rfl,?_⟩;refine aW.n<|qq<|aY<|sr<|mv Y<|mv Y<|lE h λei jx h=>ls _ Y Y jx<|ag Y<|dn ?_;cases ei;refine cF<|sr<|mv Y<|mv Y<|lE (F h) λeX jK h=>gt _ Y Y jK<|ag Y<|dn ?_;cases eX;refine cF<|sr<|mv Y<|lE (F h) λfL ke h=>ls _ Y Y ke<|ag Y<|dn ?_;cases fL;refine cF<|bw<|bF.n<|aW.n<|qq<|aZ mixed<|fa Y Y<|lV Y Y Y<|bE (F h) λnV yy h=>cl (dx yy) ⟨Y,aq⟩<|fa Y Y<|lV Y Y Y<|bE h λsY xp h=>cl (dx xp) ⟨Y,aq⟩<|bE h λku vE h=>cl (jY vE) ⟨Y,Y,aq⟩<|ag Y ?_;refine RT.done ⟨by kernel_rfl,?_⟩;refine aW.n<|bf ?_;obtain rfl:=O h;exact R1 Y;refine cT<|qq<|aZ mixed<|fa Y Y<|lV Y Y Y<|bE (V h) λgX oY h=>cl (dx oY) ⟨Y,aq⟩<|fa Y Y<|lV Y Y Y<|bE h λiO pN h=>cl (dx pN) ⟨Y,aq⟩<|bE h λkT uO h=>cl (jY uO) ⟨Y,Y,aq⟩<|ag Y ?_;refine RT.done ⟨by kernel_rfl,?_⟩;refine aW.n<|bf<|bF.r<|aW.r ?_;obtain rfl:=O h;exact R1 Y;refine cT<|sr<|ag Y<|dn<|bf<|bF.r<|aW.r ?_;obtain rfl:=O (V h);exact R1 Y;refine cT<|sr<|ag Y<|dn<|bf<|bF.r<|aW.r ?_
 obtain rfl:=O (V h);exact R1 Y
theorem Aa{x0:Zr}{x1:Zr}(N:Nat){r:Zr×Zr×Int}(h:iE x0 x1=some r):dK ah 169 N [.agg (eZ x0),.agg (eZ x1)] (.Ca [.agg ((fZ N) r.1),.agg ((fZ N) r.2.1),ay r.2.2]):=by
 obtain⟨bk,bn⟩:=x0;obtain⟨cu,cm⟩:=x1;refine bU Tryz.func169 Y (af Y) (λdw M vs hN hvs=>?_);unfold iE at h;refine sr<|bx Y<|bx Y<|al (cs:=[aA false,nw N ax]) (by exact⟨au,bu,aq⟩) Y<|al (cs:=[aA false,nw N ax]) (by exact⟨au,bu,aq⟩) Y<|ag Y<|dn<|qq<|aZ mixed<|fa Y Y<|lV Y Y Y<|bE h λeD iF h=>cl (dx iF) ⟨Y,aq⟩<|fa Y Y ?_;refine lV Y Y Y<|bE h λfB lu h=>cl (dx lu) ⟨Y,aq⟩<|ag Y<|ag Y ?_;refine RT.done ⟨by kernel_rfl,?_⟩;refine aW.n<|qq<|sr<|mv Y<|lE h λeX jK h=>ln Y jK<|lE h λjl mz h=>eq _ Y Y (ve (p:=eX) (q:=0) mz)<|dn ?_;cases jl;refine fs<|sr<|mv Y<|mv Y ?_;obtain⟨⟨Ii,Mr⟩,nP,h⟩:=bS (F h);refine RT.bZ .none (xD N nP) hN Y ⟨Y,Y,aq⟩ T<|mv Y<|ex Y Y<|ex Y Y<|ag Y<|ag Y<|dn<|sr<|mv Y<|bE h λgI m7 h=>RT.bZ .none (ym N m7) hN Y ⟨Y,aq⟩ T<|ag Y<|dn<|qq<|qq ?_;refine bJ h (λj3=>AS.cj 52 [(2,.ptr 2 0),(3,.ptr 3 0),(4,.ptr 4 0),(5,.ptr 5 0),(8,.sv (slc 1 (List.map bh fB))),(9,.sv (nw N (slc 1 (List.map bh Ii)))),(10,.sv (nw N (slc 1 (List.map bh gI)))),(36,aj j3.1)] [(5,⟨41,[aj false,.sv (nw N ax)]⟩),(4,⟨41,[aj false,.sv (nw N ax)]⟩),(3,⟨41,[aj cu,.sv (slc 1 (List.map bh cm))]⟩),(2,⟨41,[aj j3.2,.sv (slc 1 (List.map bh bn))]⟩)] []) (λh=>?_) (λj3 h=>?_)
 refine aX<|fa Y Y<|lV Y Y Y<|mv Y<|bE h λacj MB h=>?_;cases bk;obtain rfl:=O (F MB);exact ww<|ww<|ww<|pF Y<|dn<|⟨(false,false),h,wR []⟩;refine gm Y<|lE (V MB) λsY xp MB=>RT.Lc (.some Y Y) Y T xp<|lE MB λku vE MB=>gg _ Y Y vE ?_;obtain rfl:=O MB;exact pT Y<|dn<|⟨(ku,true),h,wR []⟩;obtain⟨Wk,CW⟩:=j3
 try dsimp only
 refine aW.n ?_;refine bJ h (λj5=>AS.cj 52 [(2,.ptr 2 0),(3,.ptr 3 0),(4,.ptr 4 0),(5,.ptr 5 0),(9,.sv (nw N (slc 1 (List.map bh j5.1)))),(10,.sv (nw N (slc 1 (List.map bh j5.2))))] [(5,⟨41,[aj false,.sv (nw N ax)]⟩),(4,⟨41,[aj false,.sv (nw N ax)]⟩),(3,⟨41,[aj cu,.sv (slc 1 (List.map bh cm))]⟩),(2,⟨41,[aj CW,.sv (slc 1 (List.map bh bn))]⟩)] []) (λh=>?_) (λj5 h=>?_);cases Wk;exact fs<|⟨(Ii,gI),(F h),wR []⟩;exact cT<|sr<|mv Y<|RT.DE (l:=[1]) (e:=bh) .none hN (.one Y (.nil)) T Y Y Y Y Y Y<|bE (V h) λvW DT h=>RT.bZ .none ((xC N DT).w (args':=[_,_]) ⟨fN,fN,aq⟩) hN Y ⟨Y,Y,aq⟩ T<|ag Y<|dn<|aX<|mv Y<|mv Y<|bE h λnF yl h=>RT.bZ .none ((qZ N yl).w (args':=[_,_]) ⟨au,fN,aq⟩) hN Y ⟨Y,Y,aq⟩ T<|ag Y<|dn<|⟨(vW,nF),h,wR []⟩;obtain⟨Wm,OI⟩:=j5
 try dsimp only
 refine aW.n<|sr<|fa Y Y<|lV Y Y Y<|fa Y Y<|lV Y Y Y<|lE h λsF zH h=>RT.T6 .none _ Y Y T zH<|mv Y ?_;obtain⟨⟨OJ,OK⟩,Rc,h⟩:=bS h;refine RT.bZ .none (iG N Rc) hN Y ⟨Y,Y,aq⟩ T<|mv Y ?_;obtain⟨⟨Le,Lf⟩,Ik,h⟩:=bS h;refine RT.bZ .none (iG N Ik) hN Y ⟨Y,Y,aq⟩ T<|so Y Y Y<|so Y Y Y<|ag Y<|dn<|bf ?_;obtain rfl:=O h;exact RZ (.agg Y Y (.k2 Y Y) Y (.agg Y Y (.k2 Y Y) Y (.tmp Y (.nil))));refine cT<|sr<|bI (cs:=[_,_]) (cs':=[aA false,nw N ax]) (.nil) ⟨au,bu,aq⟩<|bI (cs:=[_,_]) (cs':=[aA false,nw N ax]) (.nil) ⟨au,bu,aq⟩<|so Y Y Y<|so Y Y Y<|ag Y<|dn<|bf<|aW.r ?_;obtain rfl:=O (V h);exact RZ (.agg Y Y (.k2 Y Y) Y (.agg Y Y (.k2 Y Y) Y (.tmp Y (.nil))))
theorem ME{x0:Zr}{x1:Zr}(N:Nat){r:Zr}(h:qx x0 x1=some r):dK ah 168 N [.agg (eZ x0),.agg (eZ x1)] (.agg ((fZ N) r)):=by
 obtain⟨bk,bn⟩:=x0;obtain⟨cu,cm⟩:=x1;refine bU Tryz.func168 Y (af Y) (λdw M vs hN hvs=>?_);unfold qx at h;refine sr<|bx Y<|bx Y<|al (cs:=[aA false,nw N ax]) (by exact⟨au,bu,aq⟩) Y<|dn<|qq<|aZ mixed<|fa Y Y<|lV Y Y Y<|bE h λeD iF h=>cl (dx iF) ⟨Y,aq⟩<|fa Y Y<|lV Y Y Y<|bE h λfB lu h=>cl (dx lu) ⟨Y,aq⟩<|ag Y<|ag Y ?_;refine RT.done ⟨by kernel_rfl,?_⟩;refine aW.n<|qq<|bE h λUo Mw tX=>?_;refine bK (λ(Fj:(List Nat)×(List Nat))=>AS.cj 57 [(4,.ptr 4 0),(5,.sv (slc 1 (List.map bh Fj.1))),(6,.sv (slc 1 (List.map bh Fj.2)))] [(4,⟨41,[aj false,.sv (nw N ax)]⟩)] []) (λFj=>Fj=Uo) ?_ (λFj Mx=>?_);refine aY ?_;refine bL Mw (λz9=>AS.cj 57 [(4,.ptr 4 0),(5,.sv (slc 1 (List.map bh z9.1))),(6,.sv (slc 1 (List.map bh z9.2)))] [(4,⟨41,[aj false,.sv (nw N ax)]⟩)] []) (wR []) (λz9 y12 G12 h My Mz=>?_);obtain⟨GD,sG⟩:=z9
 try dsimp only
 refine qq<|qq ?_;refine bJ h (λVq=>AS.cj 57 [(4,.ptr 4 0),(5,.sv (slc 1 (List.map bh GD))),(6,.sv (slc 1 (List.map bh sG))),(29,aj Vq)] [(4,⟨41,[aj false,.sv (nw N ax)]⟩)] []) (λh=>?_) (λRa h=>?_);refine aX<|mv Y<|lE h λeX jK h=>ln Y jK<|lE h λjl mz h=>gt _ Y Y mz<|mv Y<|bE h λWo wz h=>?_;cases jl;obtain rfl:=O (F wz);exact ww<|ww<|ww<|ww<|wu<|wu<|wu<|ww<|pF Y<|dn<|⟨false,h,wR []⟩;refine gm Y<|lE (V wz) λiA oH wz=>gn Y oH<|lE wz λjg qP wz=>gg _ Y Y qP<|gm Y<|bE wz λWn rZ wz=>?_;cases jg;refine gm Y<|lE (F rZ) λjH rW rZ=>gn Y rW<|lE rZ λiO pN rZ=>gg _ Y Y pN ?_;obtain rfl:=O rZ;refine gF Y ?_;obtain rfl:=O wz;exact pT Y<|dn<|⟨iO,h,wR []⟩;obtain rfl:=O (V rZ);refine ww<|ww<|ww<|gT Y ?_;obtain rfl:=O wz;exact pT Y<|dn<|⟨true,h,wR []⟩
 try dsimp only
 refine aW.n ?_;cases Ra;refine cF<|bN<|aW.x<|aW.x<|bF.x<|aW.n ?_;obtain rfl:=O (F h);exact⟨(GD,sG),Mz _ Y,wR []⟩;refine cT<|bw<|aW.n<|aY<|sr<|mv Y<|mv Y ?_;obtain⟨⟨amM,ai0⟩,xn,h⟩:=bS (V h);refine RT.bZ .none (xD N xn) hN Y ⟨Y,Y,aq⟩ T<|mv Y<|ex Y Y<|ex Y Y<|ag Y<|ag Y<|dn<|aX<|mv Y<|mv Y<|bE h λqX Av h=>RT.bZ .none (ym N Av) hN Y ⟨Y,aq⟩ T<|ag Y<|ag Y<|RT.done<|bF.n ?_;obtain rfl:=O h;exact aW.n ⟨(sG,qX),My _ Y,cD id Y Y Y Y Y ⟨.ptr,.sv au,.sv fN,aq⟩ ⟨⟨_,Y,⟨.sv au,.sv au,aq⟩⟩,aq⟩ trivial (λ_ _=>Y)⟩;subst Mx;obtain⟨Wp,Wq⟩:=Fj
 try dsimp only
 refine aW.n<|qq<|sr<|mv Y<|lE tX λnk vm tX=>ln Y vm<|lE tX λyE GH tX=>eq _ Y Y (ve (p:=nk) (q:=0) GH)<|dn ?_;cases yE;refine fs<|sr<|mv Y<|bE (F tX) λvg h46 tX=>cl (mN h46) ⟨Y,aq⟩<|mv Y<|bE tX λsj h48 tX=>cl (mN h48) ⟨Y,aq⟩<|ag Y<|ag Y<|dn<|qq<|bE tX λe24 ans afi=>?_;refine bK (λ(Lg:Nat)=>AS.cj 57 [(4,.ptr 4 0),(9,.sv (.v (.int .u64 ((Lg:Nat):Int))))] [(4,⟨41,[aj false,.sv (nw N ax)]⟩)] []) (λLg=>Lg=e24) ?_ (λLg ant=>?_);refine aY ?_;refine bL ans (λs24=>AS.cj 57 [(4,.ptr 4 0),(9,.sv (.v (.int .u64 ((s24.1:Nat):Int)))),(10,.sv (.v (.int .u64 ((s24.2:Nat):Int))))] [(4,⟨41,[aj false,.sv (nw N ax)]⟩)] []) (wR []) (λs24 y24 G24 h anu anv=>?_);obtain⟨SZ,Fh⟩:=s24
 try dsimp only
 refine qq<|sr<|mv Y<|lE h λAy Kk h=>gt _ Y Y (ltN (p:=0) (q:=Fh) Kk)<|dn ?_;cases Ay;refine cF<|bN<|aW.x<|aW.x<|bF.x<|aW.n ?_;obtain rfl:=O (F h);exact⟨SZ,anv _ Y,wR []⟩;refine cT<|bw<|aW.n<|aY<|aZ mixed<|mv Y<|mv Y<|mv Y<|bE (V h) λCc Li h=>RT.rem .none _ Y Y T (nzR Li) (Z5 Li)<|ag Y<|ag Y ?_;refine RT.done ⟨by kernel_rfl,?_⟩;refine bF.n ?_;obtain rfl:=O h;exact aW.n ⟨(Fh,Cc),anu _ Y,wR []⟩;subst ant
 try dsimp only
 refine aW.n<|sr<|mv Y ?_;obtain⟨⟨lQ,lS⟩,Ms,afi⟩:=bS afi;refine RT.bZ .none (nY N Ms) hN Y ⟨Y,Y,aq⟩ T<|so Y Y Y<|dn<|bf ?_;obtain rfl:=O afi;exact RZ (.agg Y Y (.k2 Y Y) Y (.nil));refine cT<|sr<|mv Y<|bE (V tX) λvf ET tX=>RT.bZ .none (uP N ET) hN Y ⟨Y,aq⟩ T ?_;obtain⟨⟨F8,F9⟩,Aw,tX⟩:=bS tX;refine RT.bZ .none (iG N Aw) hN Y ⟨Y,Y,aq⟩ T<|so Y Y Y<|dn<|bf<|aW.r ?_;obtain rfl:=O tX;exact RZ (.agg Y Y (.k2 Y Y) Y (.nil))
end
section
open Go.Fw
noncomputable def lC(x0:Zr)(x1:Zr)(x2:Zr)(x3:Zr):Option (Zr×Zr):=match x0 with|⟨bk,bn⟩=>match x1 with|⟨cu,cm⟩=>match x2 with|⟨wA,wB⟩=>match x3 with|⟨uQ,uR⟩=>(dV ⟨bk,bn⟩ ⟨uQ,uR⟩).bind λ⟨jh,iX⟩=>(dV ⟨wA,wB⟩ ⟨cu,cm⟩).bind λ⟨jQ,jR⟩=>(tN ⟨jh,iX⟩ ⟨jQ,jR⟩).bind λ⟨qu,qw⟩=>(dV ⟨cu,cm⟩ ⟨uQ,uR⟩).bind λ⟨lT,lW⟩=>some (⟨qu,qw⟩,⟨lT,lW⟩)
noncomputable def lD(x0:Zr)(x1:Zr)(x2:Zr)(x3:Zr):Option (Zr×Zr):=match x0 with|⟨bk,bn⟩=>match x1 with|⟨cu,cm⟩=>match x2 with|⟨wA,wB⟩=>match x3 with|⟨uQ,uR⟩=>(dV ⟨bk,bn⟩ ⟨uQ,uR⟩).bind λ⟨jh,iX⟩=>(dV ⟨wA,wB⟩ ⟨cu,cm⟩).bind λ⟨jQ,jR⟩=>(tQ ⟨jh,iX⟩ ⟨jQ,jR⟩).bind λ⟨qu,qw⟩=>(dV ⟨cu,cm⟩ ⟨uQ,uR⟩).bind λ⟨lT,lW⟩=>some (⟨qu,qw⟩,⟨lT,lW⟩)
noncomputable def lF(x0:Zr)(x1:Zr)(x2:Zr)(x3:Zr):Option (Zr×Zr):=match x0 with|⟨bk,bn⟩=>match x1 with|⟨cu,cm⟩=>match x2 with|⟨wA,wB⟩=>match x3 with|⟨uQ,uR⟩=>(dV ⟨bk,bn⟩ ⟨wA,wB⟩).bind λ⟨jh,iX⟩=>(dV ⟨cu,cm⟩ ⟨uQ,uR⟩).bind λ⟨jQ,jR⟩=>some (⟨jh,iX⟩,⟨jQ,jR⟩)
noncomputable def lG(x0:Zr)(x1:Zr)(x2:Zr)(x3:Zr):Option (Zr×Zr):=match x0 with|⟨bk,bn⟩=>match x1 with|⟨cu,cm⟩=>match x2 with|⟨wA,wB⟩=>match x3 with|⟨uQ,uR⟩=>(dV ⟨bk,bn⟩ ⟨uQ,uR⟩).bind λ⟨jh,iX⟩=>(dV ⟨cu,cm⟩ ⟨wA,wB⟩).bind λ⟨jQ,jR⟩=>some (⟨jh,iX⟩,⟨jQ,jR⟩)
noncomputable def dZ(x0:Qr):Option (Zr×Zr):=match x0 with|⟨⟨bk,bn⟩,⟨bt,bB⟩⟩=>(dY ⟨bt,bB⟩).bind λx6=>(some (decide ((x6:Int)=0))).bind λx8=>(bif x8 then(cW 1).bind λ⟨xE,xF⟩=>some (⟨bk,bn⟩,⟨xE,xF⟩)else(some (decide ((x6:Int)=(-1)))).bind λeD=>(bif eD then(jw ⟨bk,bn⟩).bind λ⟨qu,qw⟩=>(jw ⟨bt,bB⟩).bind λ⟨lT,lW⟩=>some (⟨qu,qw⟩,⟨lT,lW⟩)else some (⟨bk,bn⟩,⟨bt,bB⟩)))
noncomputable def iq(x0:Zr)(x1:Zr):Option (Qr):=match x0 with|⟨bk,bn⟩=>match x1 with|⟨cu,cm⟩=>(dY ⟨cu,cm⟩).bind λx9=>(some (decide ((x9:Int)<0))).bind λdI=>cE (λ(j2:Bool×(List Nat)×Bool×(List Nat))=>match j2 with|⟨Rj,Rk,Rl,Rm⟩=>(qx ⟨Rl,Rm⟩ ⟨Rj,Rk⟩).bind λ⟨q9,rf⟩=>(iE ⟨Rl,Rm⟩ ⟨q9,rf⟩).bind λ⟨⟨Il,Im⟩,⟨afj,afk⟩,anw⟩=>(iE ⟨Rj,Rk⟩ ⟨q9,rf⟩).bind λ⟨⟨Fl,Fm⟩,⟨afl,afm⟩,anx⟩=>(fj ⟨Fl,Fm⟩).bind λ⟨afn,afo⟩=>cE (λ(Wy:Bool)=>cE (λ(j7:Bool×(List Nat))=>match j7 with|⟨Rn,Ro⟩=>some ⟨⟨Il,Im⟩,⟨Rn,Ro⟩⟩) λK7=>(bif Wy then K7 (false,[])else K7 (Fl,Fm))) λK5=>(bif afo then(some (decide ((afn:Int)=1))).bind λnk=>some nk else some false).bind λack=>K5 ack) λK2=>(bif dI then(jw ⟨bk,bn⟩).bind λ⟨jh,iX⟩=>(jw ⟨cu,cm⟩).bind λ⟨xG,xH⟩=>K2 (xG,xH,jh,iX)else K2 (cu,cm,bk,bn))
noncomputable def fk(x0:Qr):Option (Int×Int×Bool):=match x0 with|⟨⟨bk,bn⟩,⟨bt,bB⟩⟩=>(fj ⟨bk,bn⟩).bind λ⟨MF,aas⟩=>(fj ⟨bt,bB⟩).bind λ⟨Km,ajb⟩=>cE (λ(Rp:Bool)=>(bif Rp then some (0,0,false)else(some (decide ((Km:Int)=0))).bind λvf=>cE (λ(j24:Int×Int)=>match j24 with|⟨OM,acn⟩=>some (OM,acn,true)) λK24=>(bif vf then K24 (MF,1)else(some (decide ((Km:Int)<0))).bind λvg=>cE (λ(j26:Int×Int)=>match j26 with|⟨Wz,WA⟩=>K24 (Wz,WA)) λK26=>(bif vg then(some (IntKind.i64.wrap (0-MF))).bind λsj=>(some (IntKind.i64.wrap (0-Km))).bind λAy=>K26 (sj,Ay)else K26 (MF,Km))))) λK21=>(some (!aas)).bind λij=>(bif ij then some true else(some (!ajb)).bind λjg=>some jg).bind λWB=>(bif WB then some true else(some (decide ((MF:Int)<=(-2147483648)))).bind λiO=>some iO).bind λafp=>(bif afp then some true else(some (decide ((2147483648:Int)<=MF))).bind λnV=>some nV).bind λafq=>(bif afq then some true else(some (decide ((Km:Int)<=(-2147483648)))).bind λku=>some ku).bind λafr=>(bif afr then some true else(some (decide ((2147483648:Int)<=Km))).bind λvW=>some vW).bind λafs=>K21 afs
noncomputable def ir(x0:Int)(x1:Int):Option (Qr):=(bX (λ(s6:Int×Int)=>match s6 with|⟨iD,mA⟩=>(show Option ((Int×Int)⊕(Int))from(some (decide ((mA:Int)≠0))).bind λdI=>(bif dI then(Ka iD mA).bind λei=>some (.inl (mA,ei))else some (.inr iD)))) (x0,x1)).bind λwC=>(some (decide ((wC:Int)<0))).bind λfB=>cE (λ(Uv:Int)=>(some (decide ((Uv:Int)=x1))).bind λfL=>(bif fL then(At x0 Uv).bind λgX=>(cW gX).bind λ⟨nG,m9⟩=>some ⟨⟨nG,m9⟩,⟨false,[]⟩⟩else(At x0 Uv).bind λgI=>(cW gI).bind λ⟨sq,su⟩=>(At x1 Uv).bind λoD=>(cW oD).bind λ⟨qA,qB⟩=>some ⟨⟨sq,su⟩,⟨qA,qB⟩⟩)) λK8=>(bif fB then(some (IntKind.i64.wrap (0-wC))).bind λeX=>K8 eX else K8 wC)
noncomputable def xI(x0:Int):Option (Int):=(some (decide ((x0:Int)<0))).bind λx5=>(bif x5 then some (-1)else(some (decide ((0:Int)<x0))).bind λx8=>(bif x8 then some 1 else some 0))
noncomputable def nZ(x1:Qr)(x2:Qr):Option (Qr):=match x1 with|⟨⟨cu,cm⟩,⟨eE,eG⟩⟩=>match x2 with|⟨⟨wA,wB⟩,⟨Io,Ip⟩⟩=>(dZ ⟨⟨cu,cm⟩,⟨eE,eG⟩⟩).bind λ⟨⟨o6,o7⟩,⟨pX,pY⟩⟩=>(dZ ⟨⟨wA,wB⟩,⟨Io,Ip⟩⟩).bind λ⟨⟨kg,kj⟩,⟨n7,n8⟩⟩=>(lC ⟨o6,o7⟩ ⟨pX,pY⟩ ⟨kg,kj⟩ ⟨n7,n8⟩).bind λ⟨⟨pZ,qa⟩,⟨qb,qc⟩⟩=>(iq ⟨pZ,qa⟩ ⟨qb,qc⟩).bind λ⟨⟨yF,xB⟩,⟨A5,A6⟩⟩=>some ⟨⟨yF,xB⟩,⟨A5,A6⟩⟩
noncomputable def n9(x1:Qr)(x2:Qr):Option (Qr):=match x1 with|⟨⟨cu,cm⟩,⟨eE,eG⟩⟩=>match x2 with|⟨⟨wA,wB⟩,⟨Io,Ip⟩⟩=>(dZ ⟨⟨cu,cm⟩,⟨eE,eG⟩⟩).bind λ⟨⟨o6,o7⟩,⟨pX,pY⟩⟩=>(dZ ⟨⟨wA,wB⟩,⟨Io,Ip⟩⟩).bind λ⟨⟨kg,kj⟩,⟨n7,n8⟩⟩=>(lD ⟨o6,o7⟩ ⟨pX,pY⟩ ⟨kg,kj⟩ ⟨n7,n8⟩).bind λ⟨⟨pZ,qa⟩,⟨qb,qc⟩⟩=>(iq ⟨pZ,qa⟩ ⟨qb,qc⟩).bind λ⟨⟨yF,xB⟩,⟨A5,A6⟩⟩=>some ⟨⟨yF,xB⟩,⟨A5,A6⟩⟩
noncomputable def oa(x1:Qr)(x2:Qr):Option (Qr):=match x1 with|⟨⟨cu,cm⟩,⟨eE,eG⟩⟩=>match x2 with|⟨⟨wA,wB⟩,⟨Io,Ip⟩⟩=>(dZ ⟨⟨cu,cm⟩,⟨eE,eG⟩⟩).bind λ⟨⟨o6,o7⟩,⟨pX,pY⟩⟩=>(dZ ⟨⟨wA,wB⟩,⟨Io,Ip⟩⟩).bind λ⟨⟨kg,kj⟩,⟨n7,n8⟩⟩=>(lF ⟨o6,o7⟩ ⟨pX,pY⟩ ⟨kg,kj⟩ ⟨n7,n8⟩).bind λ⟨⟨pZ,qa⟩,⟨qb,qc⟩⟩=>(iq ⟨pZ,qa⟩ ⟨qb,qc⟩).bind λ⟨⟨yF,xB⟩,⟨A5,A6⟩⟩=>some ⟨⟨yF,xB⟩,⟨A5,A6⟩⟩
noncomputable def lX(x1:Qr)(x2:Qr):Option (Qr):=match x1 with|⟨⟨cu,cm⟩,⟨eE,eG⟩⟩=>match x2 with|⟨⟨wA,wB⟩,⟨Io,Ip⟩⟩=>(dZ ⟨⟨cu,cm⟩,⟨eE,eG⟩⟩).bind λ⟨⟨o6,o7⟩,⟨pX,pY⟩⟩=>(dZ ⟨⟨wA,wB⟩,⟨Io,Ip⟩⟩).bind λ⟨⟨kg,kj⟩,⟨n7,n8⟩⟩=>(lG ⟨o6,o7⟩ ⟨pX,pY⟩ ⟨kg,kj⟩ ⟨n7,n8⟩).bind λ⟨⟨pZ,qa⟩,⟨qb,qc⟩⟩=>(iq ⟨pZ,qa⟩ ⟨qb,qc⟩).bind λ⟨⟨yF,xB⟩,⟨A5,A6⟩⟩=>some ⟨⟨yF,xB⟩,⟨A5,A6⟩⟩
noncomputable def dP(x0:Int):Option (Qr):=(cW x0).bind λ⟨Cf,Cg⟩=>some ⟨⟨Cf,Cg⟩,⟨false,[]⟩⟩
noncomputable def dQ(x0:Qr):Option (Qr):=match x0 with|⟨⟨bk,bn⟩,⟨bt,bB⟩⟩=>(fk ⟨⟨bk,bn⟩,⟨bt,bB⟩⟩).bind λ⟨ZC,ZD,x8c⟩=>(bif x8c then(ir ZC ZD).bind λ⟨⟨jQ,jR⟩,⟨xJ,xK⟩⟩=>some ⟨⟨jQ,jR⟩,⟨xJ,xK⟩⟩else(dZ ⟨⟨bk,bn⟩,⟨bt,bB⟩⟩).bind λ⟨⟨WC,WD⟩,⟨WE,WG⟩⟩=>(iq ⟨WC,WD⟩ ⟨WE,WG⟩).bind λ⟨⟨Ab,Ad⟩,⟨Cv,Cw⟩⟩=>some ⟨⟨Ab,Ad⟩,⟨Cv,Cw⟩⟩)
noncomputable def fg(x0:Qr):Option (Int):=match x0 with|⟨⟨bk,bn⟩,⟨bt,bB⟩⟩=>(dY ⟨bt,bB⟩).bind λx5=>(some (decide ((x5:Int)<0))).bind λx6=>(bif x6 then(dY ⟨bk,bn⟩).bind λx9=>(some (IntKind.i64.wrap (0-x9))).bind λdI=>some dI else(dY ⟨bk,bn⟩).bind λeD=>some eD)
noncomputable def wD(x0:Qr)(x1:Qr):Option (Qr):=match x0 with|⟨⟨bk,bn⟩,⟨bt,bB⟩⟩=>match x1 with|⟨⟨cu,cm⟩,⟨eE,eG⟩⟩=>(fk ⟨⟨bk,bn⟩,⟨bt,bB⟩⟩).bind λ⟨Iq,Fo,Ir⟩=>(fk ⟨⟨cu,cm⟩,⟨eE,eG⟩⟩).bind λ⟨Is,Fp,It⟩=>cE (λ(A7:Bool)=>(bif A7 then(some (IntKind.i64.wrap (Iq*Fp))).bind λgI=>(some (IntKind.i64.wrap (Is*Fo))).bind λiP=>(some (IntKind.i64.wrap (gI+iP))).bind λoD=>(some (IntKind.i64.wrap (Fo*Fp))).bind λpg=>(ir oD pg).bind λ⟨⟨ON,OO⟩,⟨OP,OQ⟩⟩=>some ⟨⟨ON,OO⟩,⟨OP,OQ⟩⟩else(nZ ⟨⟨bk,bn⟩,⟨bt,bB⟩⟩ ⟨⟨cu,cm⟩,⟨eE,eG⟩⟩).bind λ⟨⟨vh,vi⟩,⟨yJ,yK⟩⟩=>some ⟨⟨vh,vi⟩,⟨yJ,yK⟩⟩)) λK3=>(bif Ir then some It else some false).bind λGa=>K3 Ga
noncomputable def wE(x0:Qr)(x1:Qr):Option (Qr):=match x0 with|⟨⟨bk,bn⟩,⟨bt,bB⟩⟩=>match x1 with|⟨⟨cu,cm⟩,⟨eE,eG⟩⟩=>(fk ⟨⟨bk,bn⟩,⟨bt,bB⟩⟩).bind λ⟨Iq,Fo,Ir⟩=>(fk ⟨⟨cu,cm⟩,⟨eE,eG⟩⟩).bind λ⟨Is,Fp,It⟩=>cE (λ(A7:Bool)=>(bif A7 then(some (IntKind.i64.wrap (Iq*Fp))).bind λgI=>(some (IntKind.i64.wrap (Is*Fo))).bind λiP=>(some (IntKind.i64.wrap (gI-iP))).bind λoD=>(some (IntKind.i64.wrap (Fo*Fp))).bind λpg=>(ir oD pg).bind λ⟨⟨ON,OO⟩,⟨OP,OQ⟩⟩=>some ⟨⟨ON,OO⟩,⟨OP,OQ⟩⟩else(n9 ⟨⟨bk,bn⟩,⟨bt,bB⟩⟩ ⟨⟨cu,cm⟩,⟨eE,eG⟩⟩).bind λ⟨⟨vh,vi⟩,⟨yJ,yK⟩⟩=>some ⟨⟨vh,vi⟩,⟨yJ,yK⟩⟩)) λK3=>(bif Ir then some It else some false).bind λGa=>K3 Ga
noncomputable def sH(x0:Qr)(x1:Qr):Option (Qr):=match x0 with|⟨⟨bk,bn⟩,⟨bt,bB⟩⟩=>match x1 with|⟨⟨cu,cm⟩,⟨eE,eG⟩⟩=>(fk ⟨⟨bk,bn⟩,⟨bt,bB⟩⟩).bind λ⟨Iq,Fo,Ir⟩=>(fk ⟨⟨cu,cm⟩,⟨eE,eG⟩⟩).bind λ⟨Is,Fp,It⟩=>cE (λ(A7:Bool)=>(bif A7 then(some (IntKind.i64.wrap (Iq*Is))).bind λgI=>(some (IntKind.i64.wrap (Fo*Fp))).bind λiP=>(ir gI iP).bind λ⟨⟨Cx,Cy⟩,⟨Iu,Iv⟩⟩=>some ⟨⟨Cx,Cy⟩,⟨Iu,Iv⟩⟩else(oa ⟨⟨bk,bn⟩,⟨bt,bB⟩⟩ ⟨⟨cu,cm⟩,⟨eE,eG⟩⟩).bind λ⟨⟨F6,F7⟩,⟨acq,acr⟩⟩=>some ⟨⟨F6,F7⟩,⟨acq,acr⟩⟩)) λK3=>(bif Ir then some It else some false).bind λGa=>K3 Ga
noncomputable def wF(x0:Qr)(x1:Qr):Option (Qr×Int):=match x0 with|⟨⟨bk,bn⟩,⟨bt,bB⟩⟩=>match x1 with|⟨⟨cu,cm⟩,⟨eE,eG⟩⟩=>(fg ⟨⟨cu,cm⟩,⟨eE,eG⟩⟩).bind λeD=>(some (decide ((eD:Int)=0))).bind λei=>(bif ei then some (⟨⟨false,[]⟩,⟨false,[]⟩⟩,7)else(fk ⟨⟨bk,bn⟩,⟨bt,bB⟩⟩).bind λ⟨Kn,MG,WH⟩=>(fk ⟨⟨cu,cm⟩,⟨eE,eG⟩⟩).bind λ⟨Uw,Ux,afu⟩=>cE (λ(Iw:Bool)=>(bif Iw then(some (decide ((Uw:Int)<0))).bind λoD=>cE (λ(j6:Int×Int)=>match j6 with|⟨ajc,ajd⟩=>(some (IntKind.i64.wrap (ajc*Ux))).bind λnk=>(some (IntKind.i64.wrap (MG*ajd))).bind λvf=>(ir nk vf).bind λ⟨⟨F8,F9⟩,⟨OR,OS⟩⟩=>some (⟨⟨F8,F9⟩,⟨OR,OS⟩⟩,0)) λK6=>(bif oD then(some (IntKind.i64.wrap (0-Kn))).bind λku=>(some (IntKind.i64.wrap (0-Uw))).bind λuG=>K6 (ku,uG)else K6 (Kn,Uw))else(lX ⟨⟨bk,bn⟩,⟨bt,bB⟩⟩ ⟨⟨cu,cm⟩,⟨eE,eG⟩⟩).bind λ⟨⟨F4,F5⟩,⟨acs,acu⟩⟩=>some (⟨⟨F4,F5⟩,⟨acs,acu⟩⟩,0))) λK3=>(bif WH then some afu else some false).bind λacv=>K3 acv)
noncomputable def sI(x0:Qr):Option (Qr):=match x0 with|⟨⟨bk,bn⟩,⟨bt,bB⟩⟩=>(dQ ⟨⟨bk,bn⟩,⟨bt,bB⟩⟩).bind λ⟨⟨A8,C0⟩,⟨Fq,GJ⟩⟩=>(jw ⟨A8,C0⟩).bind λ⟨r5,r6⟩=>some ⟨⟨r5,r6⟩,⟨Fq,GJ⟩⟩
noncomputable def wG(x0:Qr)(x1:Qr):Option (Int):=match x0 with|⟨⟨bk,bn⟩,⟨bt,bB⟩⟩=>match x1 with|⟨⟨cu,cm⟩,⟨eE,eG⟩⟩=>(dZ ⟨⟨bk,bn⟩,⟨bt,bB⟩⟩).bind λ⟨⟨o6,o7⟩,⟨pX,pY⟩⟩=>(dZ ⟨⟨cu,cm⟩,⟨eE,eG⟩⟩).bind λ⟨⟨kg,kj⟩,⟨n7,n8⟩⟩=>(dY ⟨o6,o7⟩).bind λiA=>(dY ⟨kg,kj⟩).bind λgX=>cE (λ(Iw:Bool)=>(bif Iw then(some (IntKind.i64.wrap (iA-gX))).bind λsY=>(xI sY).bind λku=>some ku else(dV ⟨o6,o7⟩ ⟨n7,n8⟩).bind λ⟨Ae,Af⟩=>(dV ⟨kg,kj⟩ ⟨pX,pY⟩).bind λ⟨Lj,Lk⟩=>(tW ⟨Ae,Af⟩ ⟨Lj,Lk⟩).bind λnF=>some nF)) λK3=>(some (decide ((iA:Int)≠gX))).bind λiO=>(bif iO then some true else(some (decide ((iA:Int)=0))).bind λoF=>some oF).bind λacw=>K3 acw
end
section
open Go.Fw Go.Fw.Z Go.RowKit
abbrev WI:List (Value×Value):=[(.int .u8 43,.agg #[.func (.func 187) #[] #[]]),(.int .u8 45,.agg #[.func (.func 189) #[] #[]]),(.int .u8 42,.agg #[.func (.func 191) #[] #[]]),(.int .u8 47,.agg #[.func (.func 192) #[] #[]])]
theorem mO:Pure ah 167 [] (V6 WI):=by
 refine bj Tryz.func167 Y (af Y) (λdw M vs hvs=>?_);refine cq<|aX<|RT.Ma .none Y T<|RT.done<|aW.n<|cq<|aaa (af Y) Y Y Y (λS' h0=>?_);exact bf (R1 h0)
theorem A9{x0:Zr}{x1:Zr}{x2:Zr}{x3:Zr}(N:Nat){r:Zr×Zr}(h:lC x0 x1 x2 x3=some r):dK ah 187 N [.agg (eZ x0),.agg (eZ x1),.agg (eZ x2),.agg (eZ x3)] (.Ca [.agg ((fZ N) r.1),.agg ((fZ N) r.2)]):=by
 obtain⟨bk,bn⟩:=x0;obtain⟨cu,cm⟩:=x1;obtain⟨wA,wB⟩:=x2;obtain⟨uQ,uR⟩:=x3;refine bU Tryz.func187 Y (af Y) (λdw M vs hN hvs=>?_);unfold lC at h;refine sr<|bx Y<|bx Y<|bx Y<|bx Y<|al (cs:=[aA false,nw N ax]) (by exact⟨au,bu,aq⟩) Y<|al (cs:=[aA false,nw N ax]) (by exact⟨au,bu,aq⟩) Y<|dn<|qq<|aZ mixed<|ld Y Y (.k2 Y Y)<|ld Y Y (.k2 Y Y) ?_;obtain⟨⟨jh,iX⟩,fC,h⟩:=bS h;refine RT.bZ .none (gJ N fC) hN Y ⟨Y,Y,aq⟩ T<|ld Y Y (.k2 Y Y)<|ld Y Y (.k2 Y Y) ?_;obtain⟨⟨jQ,jR⟩,gD,h⟩:=bS h;refine RT.bZ .none (gJ N gD) hN Y ⟨Y,Y,aq⟩ T ?_;obtain⟨⟨qu,qw⟩,lu,h⟩:=bS h;refine RT.bZ .none ((MA N lu).w (args':=[_,_]) ⟨(SV.fT (show cg [aA jh,nw N (slc 1 (List.map bh iX))] _ from⟨au,fN,aq⟩)),(SV.fT (show cg [aA jQ,nw N (slc 1 (List.map bh jR))] _ from⟨au,fN,aq⟩)),aq⟩) hN Y ⟨Y,Y,aq⟩ T<|ld Y Y (.k2 Y Y)<|ld Y Y (.k2 Y Y) ?_;obtain⟨⟨lT,lW⟩,mz,h⟩:=bS h;refine RT.bZ .none (gJ N mz) hN Y ⟨Y,Y,aq⟩ T<|so Y Y Y<|so Y Y Y ?_;refine RT.done ⟨by kernel_rfl,?_⟩;refine aW.n<|bf ?_;obtain rfl:=O h;exact RZ (.agg Y Y (.k2 Y Y) Y (.agg Y Y (.k2 Y Y) Y (.nil)))
theorem Ba{x0:Zr}{x1:Zr}{x2:Zr}{x3:Zr}(N:Nat){r:Zr×Zr}(h:lD x0 x1 x2 x3=some r):dK ah 189 N [.agg (eZ x0),.agg (eZ x1),.agg (eZ x2),.agg (eZ x3)] (.Ca [.agg ((fZ N) r.1),.agg ((fZ N) r.2)]):=by
 obtain⟨bk,bn⟩:=x0;obtain⟨cu,cm⟩:=x1;obtain⟨wA,wB⟩:=x2;obtain⟨uQ,uR⟩:=x3;refine bU Tryz.func189 Y (af Y) (λdw M vs hN hvs=>?_);unfold lD at h;refine sr<|bx Y<|bx Y<|bx Y<|bx Y<|al (cs:=[aA false,nw N ax]) (by exact⟨au,bu,aq⟩) Y<|al (cs:=[aA false,nw N ax]) (by exact⟨au,bu,aq⟩) Y<|dn<|qq<|aZ mixed<|ld Y Y (.k2 Y Y)<|ld Y Y (.k2 Y Y) ?_;obtain⟨⟨jh,iX⟩,fC,h⟩:=bS h;refine RT.bZ .none (gJ N fC) hN Y ⟨Y,Y,aq⟩ T<|ld Y Y (.k2 Y Y)<|ld Y Y (.k2 Y Y) ?_;obtain⟨⟨jQ,jR⟩,gD,h⟩:=bS h;refine RT.bZ .none (gJ N gD) hN Y ⟨Y,Y,aq⟩ T ?_;obtain⟨⟨qu,qw⟩,lu,h⟩:=bS h;refine RT.bZ .none ((MC N lu).w (args':=[_,_]) ⟨(SV.fT (show cg [aA jh,nw N (slc 1 (List.map bh iX))] _ from⟨au,fN,aq⟩)),(SV.fT (show cg [aA jQ,nw N (slc 1 (List.map bh jR))] _ from⟨au,fN,aq⟩)),aq⟩) hN Y ⟨Y,Y,aq⟩ T<|ld Y Y (.k2 Y Y)<|ld Y Y (.k2 Y Y) ?_;obtain⟨⟨lT,lW⟩,mz,h⟩:=bS h;refine RT.bZ .none (gJ N mz) hN Y ⟨Y,Y,aq⟩ T<|so Y Y Y<|so Y Y Y ?_;refine RT.done ⟨by kernel_rfl,?_⟩;refine aW.n<|bf ?_;obtain rfl:=O h;exact RZ (.agg Y Y (.k2 Y Y) Y (.agg Y Y (.k2 Y Y) Y (.nil)))
theorem Bb{x0:Zr}{x1:Zr}{x2:Zr}{x3:Zr}(N:Nat){r:Zr×Zr}(h:lF x0 x1 x2 x3=some r):dK ah 191 N [.agg (eZ x0),.agg (eZ x1),.agg (eZ x2),.agg (eZ x3)] (.Ca [.agg ((fZ N) r.1),.agg ((fZ N) r.2)]):=by
 obtain⟨bk,bn⟩:=x0;obtain⟨cu,cm⟩:=x1;obtain⟨wA,wB⟩:=x2;obtain⟨uQ,uR⟩:=x3;refine bU Tryz.func191 Y (af Y) (λdw M vs hN hvs=>?_);unfold lF at h;refine sr<|bx Y<|bx Y<|bx Y<|bx Y<|al (cs:=[aA false,nw N ax]) (by exact⟨au,bu,aq⟩) Y<|al (cs:=[aA false,nw N ax]) (by exact⟨au,bu,aq⟩) Y<|dn<|qq<|aZ mixed<|ld Y Y (.k2 Y Y)<|ld Y Y (.k2 Y Y) ?_;obtain⟨⟨jh,iX⟩,fC,h⟩:=bS h;refine RT.bZ .none (gJ N fC) hN Y ⟨Y,Y,aq⟩ T<|ld Y Y (.k2 Y Y)<|ld Y Y (.k2 Y Y) ?_;obtain⟨⟨jQ,jR⟩,gD,h⟩:=bS h;refine RT.bZ .none (gJ N gD) hN Y ⟨Y,Y,aq⟩ T<|so Y Y Y<|so Y Y Y ?_;refine RT.done ⟨by kernel_rfl,?_⟩;refine aW.n<|bf ?_;obtain rfl:=O h;exact RZ (.agg Y Y (.k2 Y Y) Y (.agg Y Y (.k2 Y Y) Y (.nil)))
theorem Bc{x0:Zr}{x1:Zr}{x2:Zr}{x3:Zr}(N:Nat){r:Zr×Zr}(h:lG x0 x1 x2 x3=some r):dK ah 192 N [.agg (eZ x0),.agg (eZ x1),.agg (eZ x2),.agg (eZ x3)] (.Ca [.agg ((fZ N) r.1),.agg ((fZ N) r.2)]):=by
 obtain⟨bk,bn⟩:=x0;obtain⟨cu,cm⟩:=x1;obtain⟨wA,wB⟩:=x2;obtain⟨uQ,uR⟩:=x3;refine bU Tryz.func192 Y (af Y) (λdw M vs hN hvs=>?_);unfold lG at h;refine sr<|bx Y<|bx Y<|bx Y<|bx Y<|al (cs:=[aA false,nw N ax]) (by exact⟨au,bu,aq⟩) Y<|al (cs:=[aA false,nw N ax]) (by exact⟨au,bu,aq⟩) Y<|dn<|qq<|aZ mixed<|ld Y Y (.k2 Y Y)<|ld Y Y (.k2 Y Y) ?_;obtain⟨⟨jh,iX⟩,fC,h⟩:=bS h;refine RT.bZ .none (gJ N fC) hN Y ⟨Y,Y,aq⟩ T<|ld Y Y (.k2 Y Y)<|ld Y Y (.k2 Y Y) ?_;obtain⟨⟨jQ,jR⟩,gD,h⟩:=bS h;refine RT.bZ .none (gJ N gD) hN Y ⟨Y,Y,aq⟩ T<|so Y Y Y<|so Y Y Y ?_;refine RT.done ⟨by kernel_rfl,?_⟩;refine aW.n<|bf ?_;obtain rfl:=O h;exact RZ (.agg Y Y (.k2 Y Y) Y (.agg Y Y (.k2 Y Y) Y (.nil)))
theorem fO{x0:Qr}{r:Zr×Zr}(h:dZ x0=some r):Pure ah 127 [.agg (eQ x0)] (.Ca [.agg (eZ r.1),.agg (eZ r.2)]):=by
 obtain⟨⟨bk,bn⟩,⟨bt,bB⟩⟩:=x0;refine bj Tryz.func127 Y (af Y) (λdw M vs hvs=>?_);unfold dZ at h;refine sr<|bx Y<|al (cs:=[aA false,ax]) (by exact⟨au,aC,aq⟩) Y<|al (cs:=[aA false,ax]) (by exact⟨au,aC,aq⟩) Y<|dn<|qq<|sr<|fa Y Y<|ld Y Y (.k2 Y Y)<|bE h λx6 h6 h=>cl (ik h6) ⟨Y,aq⟩<|dn<|aY<|sr<|lE h λx8 h8 h=>eq _ Y Y (ve (p:=x6) (q:=0) h8) ?_;refine ag Y<|dn ?_;cases x8;refine cF<|sr<|lE (F h) λeD iF h=>eq _ Y Y (ve (p:=x6) (q:=(-1)) iF)<|ag Y<|dn ?_;cases eD;refine cF<|bw<|bF.n<|aW.n<|qq<|aZ mixed<|fa Y Y<|ld Y Y (.k2 Y Y)<|fa Y Y<|ld Y Y (.k2 Y Y)<|so Y Y Y<|so Y Y Y ?_;refine RT.done ⟨by kernel_rfl,?_⟩;refine aW.n<|bf ?_;obtain rfl:=O (F h);exact RZ (.agg Y Y (.k2 Y Y) Y (.agg Y Y (.k2 Y Y) Y (.nil)));refine cT<|qq<|aZ mixed<|fa Y Y<|ld Y Y (.k2 Y Y) ?_;obtain⟨⟨qu,qw⟩,lu,h⟩:=bS (V h);refine cl (DV lu) ⟨Y,aq⟩<|fa Y Y<|ld Y Y (.k2 Y Y) ?_;obtain⟨⟨lT,lW⟩,mz,h⟩:=bS h;refine cl (DV mz) ⟨Y,aq⟩<|so Y Y Y<|so Y Y Y ?_;refine RT.done ⟨by kernel_rfl,?_⟩;refine aW.n<|bf<|bF.r<|aW.r ?_;obtain rfl:=O h;exact RZ (.agg Y Y (.k2 Y Y) Y (.agg Y Y (.k2 Y Y) Y (.nil)));refine cT<|qq<|aZ mixed<|fa Y Y<|ld Y Y (.k2 Y Y) ?_;obtain⟨⟨xE,xF⟩,lq,h⟩:=bS (V h);refine cl (CZ lq) ⟨Y,aq⟩<|so Y Y Y<|so Y Y Y ?_
 refine RT.done ⟨by kernel_rfl,?_⟩;refine aW.n<|bf<|bF.r<|aW.r ?_;obtain rfl:=O h;exact RZ (.agg Y Y (.k2 Y Y) Y (.agg Y Y (.k2 Y Y) Y (.nil)))
theorem oc{x0:Zr}{x1:Zr}(N:Nat){r:Qr}(h:iq x0 x1=some r):dK ah 140 N [.agg (eZ x0),.agg (eZ x1)] (.agg ((fQ N) r)):=by
 obtain⟨bk,bn⟩:=x0;obtain⟨cu,cm⟩:=x1;refine bU Tryz.func140 Y (af Y) (λdw M vs hN hvs=>?_);unfold iq at h;refine sr<|bx Y<|bx Y<|al (cs:=[aA false,nw N ax,aA false,nw N ax]) (by exact⟨au,bu,au,bu,aq⟩) Y<|dn<|qq<|sr<|ld Y Y (.k2 Y Y)<|bE h λx9 h9 h=>cl (ik h9) ⟨Y,aq⟩<|lE h λdI gC h=>ls _ Y Y gC<|dn ?_;refine bJ h (λj2=>AS.cj 46 [(2,.ptr 2 0),(3,.ptr 3 0),(4,.ptr 4 0)] [(4,⟨43,[aj false,.sv (nw N ax),aj false,.sv (nw N ax)]⟩),(3,⟨41,[aj j2.1,.sv (slc 1 (List.map bh j2.2.1))]⟩),(2,⟨41,[aj j2.2.2.1,.sv (slc 1 (List.map bh j2.2.2.2))]⟩)] []) (λh=>?_) (λj2 h=>?_);cases dI;exact fs<|⟨(cu,cm,bk,bn),(F h),wR []⟩;refine cT<|aZ mixed<|ld Y Y (.k2 Y Y) ?_;obtain⟨⟨jh,iX⟩,fC,h⟩:=bS (V h);refine RT.bZ .none (vG N fC) hN Y ⟨Y,aq⟩ T<|ld Y Y (.k2 Y Y) ?_;obtain⟨⟨xG,xH⟩,jx,h⟩:=bS h;refine RT.bZ .none (vG N jx) hN Y ⟨Y,aq⟩ T<|so Y Y Y<|so Y Y Y ?_;refine RT.done ⟨by kernel_rfl,?_⟩;exact aW.n<|⟨(xG,xH,jh,iX),h,cD id Y Y Y Y Y ⟨.ptr,.ptr,.ptr,aq⟩ ⟨⟨_,Y,⟨.sv au,.sv au,.sv au,.sv au,aq⟩⟩,⟨_,Y,⟨.sv au,.sv fN,aq⟩⟩,⟨_,Y,⟨.sv au,.sv fN,aq⟩⟩,aq⟩ trivial (λ_ _=>Y)⟩;obtain⟨Rj,Rk,Rl,Rm⟩:=j2
 try dsimp only
 refine aW.n<|sr<|ld Y Y (.k2 Y Y)<|ld Y Y (.k2 Y Y) ?_;obtain⟨⟨q9,rf⟩,jO,h⟩:=bS h;refine RT.bZ .none (ME N jO) hN Y ⟨Y,Y,aq⟩ T<|al (cs:=[aA false,nw N ax]) (by exact⟨au,bu,aq⟩) Y<|so Y Y Y<|dn<|sr<|ld Y Y (.k2 Y Y)<|ld Y Y (.k2 Y Y) ?_;obtain⟨⟨⟨Il,Im⟩,⟨afj,afk⟩,anw⟩,ke,h⟩:=bS h;refine RT.bZ .none ((Aa N ke).w (args':=[_,_]) ⟨au,(SV.fT (show cg [aA q9,nw N (slc 1 (List.map bh rf))] _ from⟨au,fN,aq⟩)),aq⟩) hN Y ⟨Y,Y,aq⟩ T<|mv Y<|ex Y Y<|ex Y Y<|ex Y Y<|so Y Y Y<|dn<|sr<|ld Y Y (.k2 Y Y)<|ld Y Y (.k2 Y Y) ?_;obtain⟨⟨⟨Fl,Fm⟩,⟨afl,afm⟩,anx⟩,uO,h⟩:=bS h;refine RT.bZ .none ((Aa N uO).w (args':=[_,_]) ⟨au,(SV.fT (show cg [aA q9,nw N (slc 1 (List.map bh rf))] _ from⟨au,fN,aq⟩)),aq⟩) hN Y ⟨Y,Y,aq⟩ T<|mv Y<|ex Y Y<|ex Y Y<|ex Y Y<|so Y Y Y<|dn<|qq<|sr<|ld Y Y (.k2 Y Y) ?_;obtain⟨⟨afn,afo⟩,xp,h⟩:=bS h;refine cl ((jP xp).w (args':=[_]) ⟨(SV.fT (show cg [aA Fl,nw N (slc 1 (List.map bh Fm))] _ from⟨au,fN,aq⟩)),aq⟩) ⟨Y,aq⟩<|mv Y<|ex Y Y<|ex Y Y<|ag Y<|ag Y<|dn<|qq ?_
 refine bJ h (λj5=>AS.cj 46 [(2,.ptr 2 0),(3,.ptr 3 0),(4,.ptr 4 0),(41,aj j5)] [(4,⟨43,[aj false,.sv (nw N ax),aj false,.sv (nw N ax)]⟩),(3,⟨41,[aj Fl,.sv (nw N (slc 1 (List.map bh Fm)))]⟩),(2,⟨41,[aj Il,.sv (nw N (slc 1 (List.map bh Im)))]⟩)] []) (λh=>?_) (λWy h=>?_);refine aX<|mv Y<|mv Y<|bE h λack WJ h=>?_;cases afo;obtain rfl:=O (F WJ);exact ww<|ww<|pF Y<|dn<|⟨false,h,wR []⟩;refine gm Y<|lE (V WJ) λnk vm WJ=>Uh _ Y Y (ve (p:=afn) (q:=1) vm) ?_;obtain rfl:=O WJ;exact pT Y<|dn<|⟨nk,h,wR []⟩
 try dsimp only
 refine aW.n ?_;refine bJ h (λj7=>AS.cj 46 [(2,.ptr 2 0),(3,.ptr 3 0),(4,.ptr 4 0)] [(4,⟨43,[aj false,.sv (nw N ax),aj false,.sv (nw N ax)]⟩),(3,⟨41,[aj j7.1,.sv (nw N (slc 1 (List.map bh j7.2)))]⟩),(2,⟨41,[aj Il,.sv (nw N (slc 1 (List.map bh Im)))]⟩)] []) (λh=>?_) (λj7 h=>?_);cases Wy;exact fs<|⟨(Fl,Fm),(F h),wR []⟩;exact cT<|aX<|bI (cs:=[_,_]) (cs':=[aA false,nw N ax]) (.nil) ⟨au,bu,aq⟩<|so Y Y Y<|dn<|⟨(false,[]),(V h),wR []⟩;obtain⟨Rn,Ro⟩:=j7
 try dsimp only
 refine aW.n<|sr<|ld Y Y (.k2 Y Y)<|ld Y Y (.k2 Y Y)<|bI (cs:=[_,_,_,_]) (cs':=[aA Il,nw N (slc 1 (List.map bh Im)),aA Rn,nw N (slc 1 (List.map bh Ro))]) (.agg Y (.agg Y (.nil))) ⟨au,au,au,au,aq⟩<|so Y Y Y<|dn<|bf ?_;obtain rfl:=O h;exact RZ (.agg Y Y (.k4 Y Y Y Y) Y (.nil))
theorem iu{x0:Qr}{r:Int×Int×Bool}(h:fk x0=some r):Pure ah 134 [.agg (eQ x0)] (.Ca [ay r.1,ay r.2.1,aA r.2.2]):=by
 obtain⟨⟨bk,bn⟩,⟨bt,bB⟩⟩:=x0;refine bj Tryz.func134 Y (af Y) (λdw M vs hvs=>?_);unfold fk at h;refine sr<|bx Y<|ag Y<|ag Y<|ag Y<|dn<|sr<|fa Y Y<|ld Y Y (.k2 Y Y) ?_;obtain⟨⟨MF,aas⟩,gC,h⟩:=bS h;refine cl (jP gC) ⟨Y,aq⟩<|mv Y<|ex Y Y<|ex Y Y<|ag Y<|ag Y<|dn<|sr<|fa Y Y<|ld Y Y (.k2 Y Y) ?_;obtain⟨⟨Km,ajb⟩,lu,h⟩:=bS h;refine cl (jP lu) ⟨Y,aq⟩<|mv Y<|ex Y Y<|ex Y Y<|ag Y<|ag Y<|dn<|qq<|qq ?_;refine bJ h (λj21=>AS.cj 53 [(2,ai MF),(3,ai Km),(40,aj j21)] [] []) (λh=>?_) (λRp h=>?_);refine aX<|mv Y<|lE h λij oG h=>nt Y _ oG<|mv Y<|bE h λWB yL h=>?_;cases ij;refine gm Y<|lE (F yL) λjg qP yL=>QZ Y _ qP ?_;obtain rfl:=O yL;refine pF Y<|mv Y<|bE h λanA r7 h=>?_;cases jg;refine gm Y<|lE (F r7) λiO pN r7=>RT.leq (.some Y Y) _ Y Y T pN ?_;obtain rfl:=O r7;refine pF Y<|mv Y<|bE h λanB C1 h=>?_;cases iO;refine gm Y<|lE (F C1) λnV yy C1=>RT.geq (.some Y Y) _ Y Y T yy ?_;obtain rfl:=O C1;refine pF Y<|mv Y<|bE h λanC kY h=>?_;cases nV;refine gm Y<|lE (F kY) λku vE kY=>RT.leq (.some Y Y) _ Y Y T vE ?_;obtain rfl:=O kY;refine pF Y<|mv Y<|bE h λanD oe h=>?_;cases ku;refine gm Y<|lE (F oe) λvW DT oe=>RT.geq (.some Y Y) _ Y Y T DT ?_;obtain rfl:=O oe;exact pF Y<|dn<|⟨vW,h,wR []⟩;obtain rfl:=O (V oe)
 exact ww<|ww<|pT Y<|dn<|⟨true,h,wR []⟩;obtain rfl:=O (V kY);refine ww<|ww<|pT Y<|mv Y<|bE h λanE yM h=>?_;obtain rfl:=O (V yM);exact ww<|ww<|pT Y<|dn<|⟨true,h,wR []⟩;obtain rfl:=O (V C1);refine ww<|ww<|pT Y<|mv Y<|bE h λanF DW h=>?_;obtain rfl:=O (V DW);refine ww<|ww<|pT Y<|mv Y<|bE h λafw DX h=>?_;obtain rfl:=O (V DX);exact ww<|ww<|pT Y<|dn<|⟨true,h,wR []⟩;obtain rfl:=O (V r7);refine ww<|ww<|pT Y<|mv Y<|bE h λanG WK h=>?_;obtain rfl:=O (V WK);refine ww<|ww<|pT Y<|mv Y<|bE h λanH MH h=>?_;obtain rfl:=O (V MH);refine ww<|ww<|pT Y<|mv Y<|bE h λafx Ko h=>?_;obtain rfl:=O (V Ko);exact ww<|ww<|pT Y<|dn<|⟨true,h,wR []⟩;obtain rfl:=O (V yL);refine ww<|ww<|pT Y<|mv Y<|bE h λanI afy h=>?_;obtain rfl:=O (V afy);refine ww<|ww<|pT Y<|mv Y<|bE h λWL Kp h=>?_;obtain rfl:=O (V Kp);refine ww<|ww<|pT Y<|mv Y<|bE h λanJ Kq h=>?_;obtain rfl:=O (V Kq);refine ww<|ww<|pT Y<|mv Y<|bE h λanK anL h=>?_;obtain rfl:=O (V anL);exact ww<|ww<|pT Y<|dn<|⟨true,h,wR []⟩
 try dsimp only
 refine aW.n ?_;cases Rp;refine fs<|qq<|aY<|sr<|mv Y<|lE (F h) λvf ET h=>eq _ Y Y (ve (p:=Km) (q:=0) ET)<|ag Y<|dn ?_;refine bJ h (λj24=>AS.cj 53 [(2,ai j24.1),(3,ai j24.2)] [] []) (λh=>?_) (λj24 h=>?_);cases vf;refine cF<|sr<|mv Y<|lE (F h) λvg h46 h=>ls _ Y Y h46<|ag Y<|dn ?_;refine bJ h (λj26=>AS.cj 53 [(2,ai j26.1),(3,ai j26.2)] [] []) (λh=>?_) (λj26 h=>?_);cases vg;exact fs<|⟨(MF,Km),(F h),wR []⟩;exact cT<|aX<|mv Y<|lE (V h) λsj h48 h=>RT.neg .none _ Y T h48<|mv Y<|lE h λAy Kk h=>RT.neg .none _ Y T Kk<|ag Y<|ag Y<|dn<|⟨(sj,Ay),h,wR []⟩;obtain⟨Wz,WA⟩:=j26
 try dsimp only
 exact aW.n<|⟨(Wz,WA),h,wR []⟩;exact cT<|aX<|ag Y<|dn<|⟨(MF,1),(V h),wR []⟩;obtain⟨OM,acn⟩:=j24
 try dsimp only
 refine bF.n<|aW.n<|sr<|mv Y<|mv Y<|ag Y<|ag Y<|ag Y<|dn<|bf ?_;obtain rfl:=O h;exact RZ (.tmp Y (.tmp Y (.tmp Y (.nil))));refine cT<|sr<|ag Y<|ag Y<|ag Y<|dn<|bf<|aW.r ?_;obtain rfl:=O (V h);exact RZ (.tmp Y (.tmp Y (.tmp Y (.nil))))
theorem pz{x0:Int}{x1:Int}(N:Nat){r:Qr}(h:ir x0 x1=some r):dK ah 135 N [ay x0,ay x1] (.agg ((fQ N) r)):=by
 refine bU Tryz.func135 Y (af Y) (λdw M vs hN hvs=>?_);unfold ir at h;refine sr<|al (cs:=[aA false,nw N ax,aA false,nw N ax]) (by exact⟨au,bu,au,bu,aq⟩) Y<|dn<|sr<|mv Y<|mv Y<|ag Y<|ag Y<|dn<|qq<|bE h λe6 vA jo=>?_;refine bK (λ(wC:Int)=>AS.cj 36 [(0,ai x0),(1,ai x1),(4,.ptr 4 0),(5,ai wC)] [(4,⟨43,[aj false,.sv (nw N ax),aj false,.sv (nw N ax)]⟩)] []) (λwC=>wC=e6) ?_ (λwC vB=>?_);refine aY ?_;refine bL vA (λs6=>AS.cj 36 [(0,ai x0),(1,ai x1),(4,.ptr 4 0),(5,ai s6.1),(6,ai s6.2)] [(4,⟨43,[aj false,.sv (nw N ax),aj false,.sv (nw N ax)]⟩)] []) (wR []) (λs6 y6 G6 h vC qy=>?_);obtain⟨iD,mA⟩:=s6
 try dsimp only
 refine qq<|sr<|mv Y<|lE h λdI gC h=>ne _ Y Y (JV (p:=mA) (q:=0) gC)<|dn ?_;cases dI;refine cF<|bN<|aW.x<|aW.x<|bF.x<|aW.n ?_;obtain rfl:=O (F h);exact⟨iD,qy _ Y,wR []⟩;refine cT<|bw<|aW.n<|aY<|aZ mixed<|mv Y<|mv Y<|mv Y<|bE (V h) λei jx h=>RT.rem .none _ Y Y T (aeD jx) (aeE jx)<|ag Y<|ag Y ?_;refine RT.done ⟨by kernel_rfl,?_⟩;refine bF.n ?_;obtain rfl:=O h;exact aW.n ⟨(mA,ei),vC _ Y,wR []⟩;subst vB
 try dsimp only
 refine aW.n<|qq<|sr<|mv Y<|lE jo λfB lu jo=>ls _ Y Y lu<|dn ?_;refine bJ jo (λj8=>AS.cj 36 [(0,ai x0),(1,ai x1),(4,.ptr 4 0),(5,ai j8)] [(4,⟨43,[aj false,.sv (nw N ax),aj false,.sv (nw N ax)]⟩)] []) (λjo=>?_) (λUv jo=>?_);cases fB;exact fs<|⟨wC,(F jo),wR []⟩;exact cT<|aX<|mv Y<|lE (V jo) λeX jK jo=>RT.neg .none _ Y T jK<|ag Y<|dn<|⟨eX,jo,wR []⟩
 try dsimp only
 refine aW.n<|qq<|sr<|mv Y<|mv Y<|lE jo λfL ke jo=>eq _ Y Y (ve (p:=Uv) (q:=x1) ke)<|dn ?_;cases fL;refine fs<|qq<|aZ mixed<|mv Y<|mv Y<|bE (F jo) λgI m7 jo=>RT.quo .none _ Y Y T (nzI m7) (V3 m7) ?_;obtain⟨⟨sq,su⟩,vD,jo⟩:=bS jo;refine RT.bZ .none (fY N vD) hN Y ⟨Y,aq⟩ T<|mv Y<|mv Y<|bE jo λoD xn jo=>RT.quo .none _ Y Y T (nzI xn) (V3 xn) ?_;obtain⟨⟨qA,qB⟩,xp,jo⟩:=bS jo;refine RT.bZ .none (fY N xp) hN Y ⟨Y,aq⟩ T<|bI (cs:=[_,_,_,_]) (cs':=[aA sq,nw N (slc 1 (List.map bh su)),aA qA,nw N (slc 1 (List.map bh qB))]) (.agg Y (.agg Y (.nil))) ⟨au,au,au,au,aq⟩<|so Y Y Y ?_;refine RT.done ⟨by kernel_rfl,?_⟩;refine aW.n<|bf ?_;obtain rfl:=O jo;exact RZ (.agg Y Y (.k4 Y Y Y Y) Y (.nil));refine cT<|sr<|mv Y<|mv Y<|bE (V jo) λgX oY jo=>RT.quo .none _ Y Y T (nzI oY) (V3 oY) ?_;obtain⟨⟨nG,m9⟩,nP,jo⟩:=bS jo;refine RT.bZ .none (fY N nP) hN Y ⟨Y,aq⟩ T<|bI (cs:=[_,_,_,_]) (cs':=[aA nG,nw N (slc 1 (List.map bh m9)),aA false,nw N ax]) (.agg Y (.nil)) ⟨au,au,au,bu,aq⟩<|so Y Y Y<|dn<|bf<|aW.r ?_;obtain rfl:=O jo;exact RZ (.agg Y Y (.k4 Y Y Y Y) Y (.nil))
theorem Kr{x0:Int}{x1:Int}{r:Qr}(h:ir x0 x1=some r):Pure ah 135 [ay x0,ay x1] (.agg (eQ r)):=eT (λN=>pz N h) (λN=>(SV.fT (qI _ _)))
theorem MI{x0:Int}{r:Int}(h:xI x0=some r):Pure ah 128 [ay x0] (ay r):=by
 refine bj Tryz.func128 Y (af Y) (λdw M vs hvs=>?_);unfold xI at h;refine sr<|ag Y<|dn<|qq<|aY<|sr<|mv Y<|lE h λx5 h5 h=>ls _ Y Y h5<|ag Y<|dn ?_;cases x5;refine cF<|sr<|mv Y<|lE (F h) λx8 h8 h=>gt _ Y Y h8<|ag Y<|dn ?_;cases x8;refine cF<|bw<|bF.n<|aW.n<|sr<|ag Y<|dn<|bf ?_;obtain rfl:=O (F h);exact R1 Y;refine cT<|sr<|ag Y<|dn<|bf<|bF.r<|aW.r ?_;obtain rfl:=O (V h);exact R1 Y;refine cT<|sr<|ag Y<|dn<|bf<|bF.r<|aW.r ?_;obtain rfl:=O (V h);exact R1 Y
theorem GK{x1:Qr}{x2:Qr}(N:Nat){r:Qr}(h:nZ x1 x2=some r):dK ah 136 N [.v (.int .u8 ((43:Nat):Int)),.agg (eQ x1),.agg (eQ x2)] (.agg ((fQ N) r)):=by
 obtain⟨⟨cu,cm⟩,⟨eE,eG⟩⟩:=x1;obtain⟨⟨wA,wB⟩,⟨Io,Ip⟩⟩:=x2;refine bU Tryz.func136 Y (af Y) (λdw M vs hN hvs=>?_);unfold nZ at h;refine sr<|bx Y<|bx Y<|al (cs:=[aA false,nw N ax,aA false,nw N ax]) (by exact⟨au,bu,au,bu,aq⟩) Y<|dn<|sr<|ld Y Y (.k4 Y Y Y Y) ?_;obtain⟨⟨⟨o6,o7⟩,⟨pX,pY⟩⟩,iF,h⟩:=bS h;refine cl (fO iF) ⟨Y,aq⟩<|mv Y<|ex Y Y<|ex Y Y<|al (cs:=[aA false,nw N ax]) (by exact⟨au,bu,aq⟩) Y<|al (cs:=[aA false,nw N ax]) (by exact⟨au,bu,aq⟩) Y<|so Y Y Y<|so Y Y Y<|dn<|sr<|ld Y Y (.k4 Y Y Y Y) ?_;obtain⟨⟨⟨kg,kj⟩,⟨n7,n8⟩⟩,jK,h⟩:=bS h;refine cl (fO jK) ⟨Y,aq⟩<|mv Y<|ex Y Y<|ex Y Y<|al (cs:=[aA false,nw N ax]) (by exact⟨au,bu,aq⟩) Y<|al (cs:=[aA false,nw N ax]) (by exact⟨au,bu,aq⟩) Y<|so Y Y Y<|so Y Y Y<|dn<|qq<|aZ mixed<|cl mO trivial<|mv Y ?_;refine RT.look .none [.func (.func 187) #[] #[]] Y Y Y T<|fl Y Y<|ld Y Y (.k2 Y Y)<|ld Y Y (.k2 Y Y)<|ld Y Y (.k2 Y Y)<|ld Y Y (.k2 Y Y) ?_;obtain⟨⟨⟨pZ,qa⟩,⟨qb,qc⟩⟩,m7,h⟩:=bS h;refine RT.bZ .none (A9 N m7) hN Y ⟨Y,Y,Y,Y,aq⟩ T<|ex Y Y<|ex Y Y ?_;obtain⟨⟨⟨yF,xB⟩,⟨A5,A6⟩⟩,pW,h⟩:=bS h
 refine RT.bZ .none ((oc N pW).w (args':=[_,_]) ⟨(SV.fT (show cg [aA pZ,nw N (slc 1 (List.map bh qa))] _ from⟨au,fN,aq⟩)),(SV.fT (show cg [aA qb,nw N (slc 1 (List.map bh qc))] _ from⟨au,fN,aq⟩)),aq⟩) hN Y ⟨Y,Y,aq⟩ T<|so Y Y Y ?_;refine RT.done ⟨by kernel_rfl,?_⟩;refine aW.n<|bf ?_;obtain rfl:=O h;exact RZ (.agg Y Y (.k4 Y Y Y Y) Y (.nil))
theorem GL{x1:Qr}{x2:Qr}(N:Nat){r:Qr}(h:n9 x1 x2=some r):dK ah 136 N [.v (.int .u8 ((45:Nat):Int)),.agg (eQ x1),.agg (eQ x2)] (.agg ((fQ N) r)):=by
 obtain⟨⟨cu,cm⟩,⟨eE,eG⟩⟩:=x1;obtain⟨⟨wA,wB⟩,⟨Io,Ip⟩⟩:=x2;refine bU Tryz.func136 Y (af Y) (λdw M vs hN hvs=>?_);unfold n9 at h;refine sr<|bx Y<|bx Y<|al (cs:=[aA false,nw N ax,aA false,nw N ax]) (by exact⟨au,bu,au,bu,aq⟩) Y<|dn<|sr<|ld Y Y (.k4 Y Y Y Y) ?_;obtain⟨⟨⟨o6,o7⟩,⟨pX,pY⟩⟩,iF,h⟩:=bS h;refine cl (fO iF) ⟨Y,aq⟩<|mv Y<|ex Y Y<|ex Y Y<|al (cs:=[aA false,nw N ax]) (by exact⟨au,bu,aq⟩) Y<|al (cs:=[aA false,nw N ax]) (by exact⟨au,bu,aq⟩) Y<|so Y Y Y<|so Y Y Y<|dn<|sr<|ld Y Y (.k4 Y Y Y Y) ?_;obtain⟨⟨⟨kg,kj⟩,⟨n7,n8⟩⟩,jK,h⟩:=bS h;refine cl (fO jK) ⟨Y,aq⟩<|mv Y<|ex Y Y<|ex Y Y<|al (cs:=[aA false,nw N ax]) (by exact⟨au,bu,aq⟩) Y<|al (cs:=[aA false,nw N ax]) (by exact⟨au,bu,aq⟩) Y<|so Y Y Y<|so Y Y Y<|dn<|qq<|aZ mixed<|cl mO trivial<|mv Y ?_;refine RT.look .none [.func (.func 189) #[] #[]] Y Y Y T<|fl Y Y<|ld Y Y (.k2 Y Y)<|ld Y Y (.k2 Y Y)<|ld Y Y (.k2 Y Y)<|ld Y Y (.k2 Y Y) ?_;obtain⟨⟨⟨pZ,qa⟩,⟨qb,qc⟩⟩,m7,h⟩:=bS h;refine RT.bZ .none (Ba N m7) hN Y ⟨Y,Y,Y,Y,aq⟩ T<|ex Y Y<|ex Y Y ?_;obtain⟨⟨⟨yF,xB⟩,⟨A5,A6⟩⟩,pW,h⟩:=bS h
 refine RT.bZ .none ((oc N pW).w (args':=[_,_]) ⟨(SV.fT (show cg [aA pZ,nw N (slc 1 (List.map bh qa))] _ from⟨au,fN,aq⟩)),(SV.fT (show cg [aA qb,nw N (slc 1 (List.map bh qc))] _ from⟨au,fN,aq⟩)),aq⟩) hN Y ⟨Y,Y,aq⟩ T<|so Y Y Y ?_;refine RT.done ⟨by kernel_rfl,?_⟩;refine aW.n<|bf ?_;obtain rfl:=O h;exact RZ (.agg Y Y (.k4 Y Y Y Y) Y (.nil))
theorem GM{x1:Qr}{x2:Qr}(N:Nat){r:Qr}(h:oa x1 x2=some r):dK ah 136 N [.v (.int .u8 ((42:Nat):Int)),.agg (eQ x1),.agg (eQ x2)] (.agg ((fQ N) r)):=by
 obtain⟨⟨cu,cm⟩,⟨eE,eG⟩⟩:=x1;obtain⟨⟨wA,wB⟩,⟨Io,Ip⟩⟩:=x2;refine bU Tryz.func136 Y (af Y) (λdw M vs hN hvs=>?_);unfold oa at h;refine sr<|bx Y<|bx Y<|al (cs:=[aA false,nw N ax,aA false,nw N ax]) (by exact⟨au,bu,au,bu,aq⟩) Y<|dn<|sr<|ld Y Y (.k4 Y Y Y Y) ?_;obtain⟨⟨⟨o6,o7⟩,⟨pX,pY⟩⟩,iF,h⟩:=bS h;refine cl (fO iF) ⟨Y,aq⟩<|mv Y<|ex Y Y<|ex Y Y<|al (cs:=[aA false,nw N ax]) (by exact⟨au,bu,aq⟩) Y<|al (cs:=[aA false,nw N ax]) (by exact⟨au,bu,aq⟩) Y<|so Y Y Y<|so Y Y Y<|dn<|sr<|ld Y Y (.k4 Y Y Y Y) ?_;obtain⟨⟨⟨kg,kj⟩,⟨n7,n8⟩⟩,jK,h⟩:=bS h;refine cl (fO jK) ⟨Y,aq⟩<|mv Y<|ex Y Y<|ex Y Y<|al (cs:=[aA false,nw N ax]) (by exact⟨au,bu,aq⟩) Y<|al (cs:=[aA false,nw N ax]) (by exact⟨au,bu,aq⟩) Y<|so Y Y Y<|so Y Y Y<|dn<|qq<|aZ mixed<|cl mO trivial<|mv Y ?_;refine RT.look .none [.func (.func 191) #[] #[]] Y Y Y T<|fl Y Y<|ld Y Y (.k2 Y Y)<|ld Y Y (.k2 Y Y)<|ld Y Y (.k2 Y Y)<|ld Y Y (.k2 Y Y) ?_;obtain⟨⟨⟨pZ,qa⟩,⟨qb,qc⟩⟩,m7,h⟩:=bS h;refine RT.bZ .none (Bb N m7) hN Y ⟨Y,Y,Y,Y,aq⟩ T<|ex Y Y<|ex Y Y ?_;obtain⟨⟨⟨yF,xB⟩,⟨A5,A6⟩⟩,pW,h⟩:=bS h
 refine RT.bZ .none ((oc N pW).w (args':=[_,_]) ⟨(SV.fT (show cg [aA pZ,nw N (slc 1 (List.map bh qa))] _ from⟨au,fN,aq⟩)),(SV.fT (show cg [aA qb,nw N (slc 1 (List.map bh qc))] _ from⟨au,fN,aq⟩)),aq⟩) hN Y ⟨Y,Y,aq⟩ T<|so Y Y Y ?_;refine RT.done ⟨by kernel_rfl,?_⟩;refine aW.n<|bf ?_;obtain rfl:=O h;exact RZ (.agg Y Y (.k4 Y Y Y Y) Y (.nil))
theorem GN{x1:Qr}{x2:Qr}(N:Nat){r:Qr}(h:lX x1 x2=some r):dK ah 136 N [.v (.int .u8 ((47:Nat):Int)),.agg (eQ x1),.agg (eQ x2)] (.agg ((fQ N) r)):=by
 obtain⟨⟨cu,cm⟩,⟨eE,eG⟩⟩:=x1;obtain⟨⟨wA,wB⟩,⟨Io,Ip⟩⟩:=x2;refine bU Tryz.func136 Y (af Y) (λdw M vs hN hvs=>?_);unfold lX at h;refine sr<|bx Y<|bx Y<|al (cs:=[aA false,nw N ax,aA false,nw N ax]) (by exact⟨au,bu,au,bu,aq⟩) Y<|dn<|sr<|ld Y Y (.k4 Y Y Y Y) ?_;obtain⟨⟨⟨o6,o7⟩,⟨pX,pY⟩⟩,iF,h⟩:=bS h;refine cl (fO iF) ⟨Y,aq⟩<|mv Y<|ex Y Y<|ex Y Y<|al (cs:=[aA false,nw N ax]) (by exact⟨au,bu,aq⟩) Y<|al (cs:=[aA false,nw N ax]) (by exact⟨au,bu,aq⟩) Y<|so Y Y Y<|so Y Y Y<|dn<|sr<|ld Y Y (.k4 Y Y Y Y) ?_;obtain⟨⟨⟨kg,kj⟩,⟨n7,n8⟩⟩,jK,h⟩:=bS h;refine cl (fO jK) ⟨Y,aq⟩<|mv Y<|ex Y Y<|ex Y Y<|al (cs:=[aA false,nw N ax]) (by exact⟨au,bu,aq⟩) Y<|al (cs:=[aA false,nw N ax]) (by exact⟨au,bu,aq⟩) Y<|so Y Y Y<|so Y Y Y<|dn<|qq<|aZ mixed<|cl mO trivial<|mv Y ?_;refine RT.look .none [.func (.func 192) #[] #[]] Y Y Y T<|fl Y Y<|ld Y Y (.k2 Y Y)<|ld Y Y (.k2 Y Y)<|ld Y Y (.k2 Y Y)<|ld Y Y (.k2 Y Y) ?_;obtain⟨⟨⟨pZ,qa⟩,⟨qb,qc⟩⟩,m7,h⟩:=bS h;refine RT.bZ .none (Bc N m7) hN Y ⟨Y,Y,Y,Y,aq⟩ T<|ex Y Y<|ex Y Y ?_;obtain⟨⟨⟨yF,xB⟩,⟨A5,A6⟩⟩,pW,h⟩:=bS h
 refine RT.bZ .none ((oc N pW).w (args':=[_,_]) ⟨(SV.fT (show cg [aA pZ,nw N (slc 1 (List.map bh qa))] _ from⟨au,fN,aq⟩)),(SV.fT (show cg [aA qb,nw N (slc 1 (List.map bh qc))] _ from⟨au,fN,aq⟩)),aq⟩) hN Y ⟨Y,Y,aq⟩ T<|so Y Y Y ?_;refine RT.done ⟨by kernel_rfl,?_⟩;refine aW.n<|bf ?_;obtain rfl:=O h;exact RZ (.agg Y Y (.k4 Y Y Y Y) Y (.nil))
theorem GO{x1:Qr}{x2:Qr}{r:Qr}(h:lX x1 x2=some r):Pure ah 136 [.v (.int .u8 ((47:Nat):Int)),.agg (eQ x1),.agg (eQ x2)] (.agg (eQ r)):=eT (λN=>GN N h) (λN=>(SV.fT (qI _ _)))
end
end Go.Proofs.YtningmnklfpfjaaGreat
