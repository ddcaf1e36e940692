/- A part of the proof: the framework, the plain functions, the followed functions, the plain laws. -/
import Derived.Test.YtningmnklfpfjaaGreatPSO1
set_option linter.unusedVariables false
set_option linter.unusedSimpArgs false
set_option linter.unusedSectionVars false
namespace Go.Fw
section
open Go.RowKit
def cK{J R:Type}(k:J->Option R)(f:(J->Option R)->Option R):Option R:=f k
theorem bind_some{α β:Type}{x:Option α}{f:α->Option β}{r:β}(h:Option.bind x f=some r):∃a,x=some a/\f a=some r:=by
 cases x with
 |none=>cases h
 |some a=>exact⟨a,Y,h⟩
theorem sk{b w:Bool}(h:(b==w)=false):b≠w:=by cases b<;>cases w<;>simp_all
def cZ{α:Type}(l:List α)(i:Int):Option α:=if 0<=i then l[i.toNat]? else none
def oM{α:Type}(l:List α)(i:Int):Option Nat:=if 0<=i/\i<l.length then some i.toNat else none
def y4{α:Type}(l:List α)(lo hi:Int):Option (List α):=if 0<=lo/\lo<=hi/\hi<=l.length then some (cut l lo.toNat hi.toNat)else none
def zJ{α:Type}(by_:Nat)(l k:List α):Option (List α):=if(l.length+k.length)*by_<=140737488355328/\l.length+k.length<=140737488355328 then some (l++k)else none
def BS{α:Type}(by_:Nat)(c:Int)(z:α):Option (List α):=if 0<=c/\by_*c<=281474976710656/\c<=140737488355328 then some (List.replicate c.toNat z)else none
def LD{α:Type}(by_:Nat)(c:Int):Option (List α):=if 0<=c/\by_*c<=281474976710656/\c<=140737488355328 then some []else none
def stM{α:Type}(l:List α)(n:Nat)(y:α):Option (List α):=if n<l.length then some (l.set n y)else none
def we(a b:Int):Option Int:=if b=0 then none else some (IntKind.i64.wrap (a.tdiv b))
def JV(a b:Int):Option Int:=if b=0 then none else some (a.tmod b)
def Du(M a b:Nat):Option Nat:=if b=0 then none else some (a/b%M)
def B6(a b:Nat):Option Nat:=if b=0 then none else some (a%b)
def oF(M a b:Nat):Nat:=(((a:Int)-b)%M).toNat
theorem pJ{α:Type}{l:List α}{i:Int}{a:α}(h:cZ l i=some a):0<=i/\l[i.toNat]? =some a:=by
 unfold cZ at h;split at h
 ·exact⟨by assumption,h⟩
 cases h
theorem LF{α:Type}{l:List α}{i:Int}{k:Nat}(h:oM l i=some k):0<=i/\i<l.length/\i.toNat=k:=by
 unfold oM at h;split at h
 ·rename_i hh;exact⟨hh.1,hh.2,Option.some.inj h⟩
 cases h
theorem CH{α:Type}{l l':List α}{a b:Int}(h:y4 l a b=some l'):0<=a/\a<=b/\b<=l.length/\cut l a.toNat b.toNat=l':=by
 unfold y4 at h;split at h
 ·rename_i hh;exact⟨hh.1,hh.2.1,hh.2.2,Option.some.inj h⟩
 cases h
theorem wh{α:Type}{by_:Nat}{l k l':List α}(h:zJ by_ l k=some l'):(l.length+k.length)*by_<=140737488355328/\l.length+k.length<=140737488355328/\l++k=l':=by
 unfold zJ at h;split at h
 ·rename_i hh;exact⟨hh.1,hh.2,Option.some.inj h⟩
 cases h
theorem LG{α:Type}{by_:Nat}{c:Int}{z:α}{l':List α}(h:BS by_ c z=some l'):0<=c/\by_*c<=281474976710656/\c<=140737488355328/\List.replicate c.toNat z=l':=by
 unfold BS at h;split at h
 ·rename_i hh;exact⟨hh.1,hh.2.1,hh.2.2,Option.some.inj h⟩
 cases h
theorem LH{α:Type}{by_:Nat}{c:Int}{l':List α}(h:LD by_ c=some l'):0<=c/\by_*c<=281474976710656/\c<=140737488355328/\[]=l':=by
 unfold LD at h;split at h
 ·rename_i hh;exact⟨hh.1,hh.2.1,hh.2.2,Option.some.inj h⟩
 cases h
theorem E5{α:Type}{l l':List α}{n:Nat}{y:α}(h:stM l n y=some l'):n<l.length/\l.set n y=l':=by
 unfold stM at h;split at h
 ·rename_i hh;exact⟨hh,Option.some.inj h⟩
 cases h
def nj{S E:Type}(body:S->Option (S⊕E)):Nat->S->Option E
 |0,_=>none
 |n+1,s=>match body s with
  |some (.inl s')=>nj body n s'
  |some (.inr e)=>some e
  |none=>none
theorem uY{S E:Type}{body:S->Option (S⊕E)}:∀{n m:Nat} {s:S} {e:E},n<=m->nj body n s=some e->nj body m s=some e
 |0,_,_,_,_,h=>by cases h
 |n+1,0,_,_,hm,_=>by omega
 |n+1,m+1,s,e,hm,h=>by
  unfold nj at h⊢;cases hb:body s with
  |none=>rw[hb]at h;cases h
  |some y=>
   rw[hb]at h;cases y with
   |inl s'=>exact uY (by omega) h
   |inr e'=>exact h
open Classical in
noncomputable def cy{S E:Type}(body:S->Option (S⊕E))(s:S):Option E:=if h:∃n e,nj body n s=some e then some (Classical.choose (Classical.choose_spec h))else none
theorem uZ{S E:Type}{body:S->Option (S⊕E)}{s:S}{e:E}(h:cy body s=some e):∃n,nj body n s=some e:=by
 unfold cy at h;split at h
 ·rename_i hh;exact⟨_,by rw[<-Option.some.inj h];exact Classical.choose_spec (Classical.choose_spec hh)⟩
 cases h
theorem Aq{S E:Type}{body:S->Option (S⊕E)}{s:S}{e:E}{n:Nat}(h:nj body n s=some e):cy body s=some e:=by
 have hh:∃n e,nj body n s=some e:=⟨n,e,h⟩;unfold cy;rw[dif_pos hh];have h2:=Classical.choose_spec (Classical.choose_spec hh);have h3:=uY (Nat.le_max_left n (Classical.choose hh)) h;have h4:=uY (Nat.le_max_right n (Classical.choose hh)) h2;rw[h3]at h4;exact h4.symm
theorem u0{S E:Type}{body:S->Option (S⊕E)}{s:S}{e:E}(h:body s=some (.inr e)):cy body s=some e:=Aq (n:=1) (by simp[nj,h])
theorem Ar{S E:Type}{body:S->Option (S⊕E)}{s s':S}(h:body s=some (.inl s')):cy body s=cy body s':=by
 cases hl:cy body s' with
 |some e=>obtain⟨n,hn⟩:=uZ hl;exact Aq (n:=n+1) (by simp[nj,h,hn])
 |none=>
  cases ZC:cy body s with
  |none=>rfl
  |some e=>
   obtain⟨n,hn⟩:=uZ ZC;cases n with
   |zero=>cases hn
   |succ n=>simp only[nj,h]at hn;rw[Aq hn]at hl;cases hl
theorem xD{S E:Type}{body:S->Option (S⊕E)}(I:S->Prop)(Post:E->Prop)(μ:S->Nat)
  (step:∀s,I s->(∃s',body s=some (.inl s')/\I s'/\μ s'<μ s)\/(∃e,body s=some (.inr e)/\Post e)) {s:S} (h:I s):∃e,cy body s=some e/\Post e:=by
 have key:∀(n:Nat) (s:S),μ s<=n->I s->∃e,cy body s=some e/\Post e:=by
  intro n
  induction n with
  |zero=>
   intro s hn hs;rcases step s hs with⟨s',_,_,h3⟩|⟨e,h1,h2⟩
   ·omega
   exact⟨e,u0 h1,h2⟩
  |succ n ih=>
   intro s hn hs;rcases step s hs with⟨s',h1,h2,h3⟩|⟨e,h1,h2⟩
   ·obtain⟨e,q1,q2⟩:=ih s' (by omega) h2;exact⟨e,by rw[Ar h1];exact q1,q2⟩
   exact⟨e,u0 h1,h2⟩
 exact key _ s (Nat.le_refl _) h
theorem LI{S E:Type}{body:S->Option (S⊕E)}(st:Nat->S)(n:Nat){e:E}(hs:∀k,k<n->body (st k)=some (.inl (st (k+1))))(he:body (st n)=some (.inr e)):cy body (st 0)=some e:=by
 have key:∀k,k<=n->cy body (st (n-k))=some e:=by
  intro k
  induction k with
  |zero=>intro _;exact u0 he
  |succ k ih=>
   intro hk;rw[Ar (hs (n-(k+1)) (by omega)),show n-(k+1)+1=n-k by omega];exact ih (by omega)
 have:=key n (Nat.le_refl _);rwa[Nat.sub_self]at this
theorem wj{p q:Int}{c:Bool}(h:decide (p=q)=c):(p==q)=c:=by rw[<-h];exact Bool.beq_eq_decide_eq p q
theorem G4{p q:Int}{c:Bool}(h:decide (p≠q)=c):(p != q)=c:=by rw[<-h,bne,Bool.beq_eq_decide_eq p q];simp
theorem ZI{p q:Nat}{c:Bool}(h:decide (p=q)=c):((p:Int)==(q:Int))=c:=wj (by rw[<-h];simp[Int.natCast_inj])
theorem ZJ{p q:Nat}{c:Bool}(h:decide (p≠q)=c):((p:Int) != (q:Int))=c:=G4 (by rw[<-h];simp[Int.natCast_inj])
theorem ZK{p q:Nat}{c:Bool}(h:decide (p<q)=c):decide ((p:Int)<(q:Int))=c:=by rw[<-h];simp
theorem leN{p q:Nat}{c:Bool}(h:decide (p<=q)=c):decide ((p:Int)<=(q:Int))=c:=by rw[<-h];simp
theorem LJ{p q c:Int}(h:max p q=c):(if q>p then q else p)=c:=by rw[<-h];split<;>omega
theorem O0{p q c:Int}(h:min p q=c):(if q<p then q else p)=c:=by rw[<-h];split<;>omega
class UK (k:IntKind) (b:outParam Nat) (M:outParam Nat):Prop where
 w:∀x:Int,k.wrap x=x%M
 hb:k.bits=b
 hm:2^b=M
instance:UK .u8 8 256:=⟨λx=>by simp[IntKind.wrap,IntKind.signed,IntKind.bits],rfl,by decide⟩
instance:UK .u32 32 4294967296:=⟨λx=>by simp[IntKind.wrap,IntKind.signed,IntKind.bits],rfl,by decide⟩
instance:UK .u64 64 18446744073709551616:=⟨λx=>by simp[IntKind.wrap,IntKind.signed,IntKind.bits],rfl,by decide⟩
section uk
variable {k:IntKind}{bi M a b c:Nat}[u:UK k bi M]
include u
theorem UK.pos:0<M:=by rw[<-u.hm];exact Nat.two_pow_pos _
theorem UK.nat(h:a%M=c):k.wrap (a:Int)=(c:Int):=by rw[u.w,<-h,Int.natCast_emod]
theorem UK.add(h:(a+b)%M=c):k.wrap ((a:Int)+(b:Int))=(c:Int):=by rw[<-Int.natCast_add];exact UK.nat h
theorem UK.mul(h:(a*b)%M=c):k.wrap ((a:Int)*(b:Int))=(c:Int):=by rw[<-Int.natCast_mul];exact UK.nat h
theorem UK.sub(h:oF M a b=c):k.wrap ((a:Int)-(b:Int))=(c:Int):=by
 rw[u.w,<-h,oF,Int.toNat_of_nonneg];exact Int.emod_nonneg _ (by have:=UK.pos (k:=k) (bi:=bi) (M:=M);omega)
theorem UK.neg(h:oF M 0 a=c):k.wrap (0-(a:Int))=(c:Int):=UK.sub h
theorem UK.conv{p:Int}(h:(p%M).toNat=c):k.wrap p=(c:Int):=by
 rw[u.w,<-h,Int.toNat_of_nonneg];exact Int.emod_nonneg _ (by have:=UK.pos (k:=k) (bi:=bi) (M:=M);omega)
theorem UK.quo(h:Du M a b=some c):k.wrap ((a:Int).tdiv (b:Int))=(c:Int):=by
 unfold Du at h;split at h
 ·cases h
 rw[Int.tdiv_eq_ediv_of_nonneg (by omega),<-Int.natCast_ediv];exact UK.nat (Option.some.inj h)
theorem UK.shl{q:Int}{s:Nat}(hs:min q.toNat k.bits=s)(h:a*2^s%M=c):k.wrap ((a:Int)*2^(min q.toNat k.bits))=(c:Int):=by
 rw[hs,show(a:Int)*2^s=((a*2^s:Nat):Int) by rw[Int.natCast_mul,Int.natCast_pow];rfl];exact UK.nat h
theorem UK.ofInt(a:Nat):(BitVec.ofInt k.bits (a:Int)).toNat=a%M:=by
 rw[BitVec.ofInt_natCast,BitVec.toNat_ofNat,u.hb,u.hm]
theorem UK.or(h:(a ||| b)%M=c):k.wrap ((BitVec.ofInt k.bits (a:Int) ||| BitVec.ofInt k.bits (b:Int)).toNat)=(c:Int):=by
 rw[BitVec.toNat_or,UK.ofInt,UK.ofInt,<-u.hm,<-Nat.or_mod_two_pow,u.hm,h,UK.nat (a:=c) (c:=c)];rw[<-h,Nat.mod_mod]
end uk
theorem Dv{k:IntKind}{a c s:Nat}{q:Int}(hs:min q.toNat k.bits=s)(h:a/2^s=c):(a:Int).fdiv (2^(min q.toNat k.bits))=(c:Int):=by
 rw[hs,Int.fdiv_eq_ediv_of_nonneg _ (Int.le_of_lt (Int.pow_pos (by decide))),<-h,Int.natCast_ediv,Int.natCast_pow];rfl
theorem O1{a b c:Nat}(h:B6 a b=some c):(a:Int).tmod (b:Int)=(c:Int):=by
 unfold B6 at h;split at h
 ·cases h
 rw[Int.tmod_eq_emod_of_nonneg (by omega),<-Option.some.inj h];rfl
theorem nzU{M a b c:Nat}(h:Du M a b=some c):(b:Int)≠0:=by
 unfold Du at h;split at h
 ·cases h
 omega
theorem ZL{a b c:Nat}(h:B6 a b=some c):(b:Int)≠0:=by
 unfold B6 at h;split at h
 ·cases h
 omega
theorem nzI{a b c:Int}(h:we a b=some c):b≠0:=by unfold we at h;split at h<;>simp_all
theorem aa8{a b c:Int}(h:JV a b=some c):b≠0:=by unfold JV at h;split at h<;>simp_all
theorem Tz{a b c:Int}(h:we a b=some c):IntKind.i64.wrap (a.tdiv b)=c:=by
 unfold we at h;split at h
 ·cases h
 exact Option.some.inj h
theorem aa9{a b c:Int}(h:JV a b=some c):a.tmod b=c:=by
 unfold JV at h;split at h
 ·cases h
 exact Option.some.inj h
abbrev aX(x:Nat):List SV:=[.v (.int .u32 (x:Nat))]
abbrev cM(x:Int):List SV:=[.v (.int .i64 x)]
abbrev eB(x:Bool):List SV:=[.v (.bool x)]
abbrev eS{α:Type}(n:Nat)(e:α->List SV)(l:List α):List SV:=[slc n (l.map e)]
structure Zr where
 neg:Bool
 w:List Nat
structure Qr where
 num:Zr
 den:Zr
abbrev eZ(z:Zr):List SV:=[.v (.bool z.neg),slc 1 (z.w.map aX)]
abbrev eQ(q:Qr):List SV:=[.v (.bool q.num.neg),slc 1 (q.num.w.map aX),.v (.bool q.den.neg),slc 1 (q.den.w.map aX)]
class EL {α:Type} (e:α->List SV) (n:outParam Nat):Prop where
 len:∀x,(e x).length=n
 one:∀x,qA (e x)
instance:EL aX 1:=⟨λ_=>rfl,λ_=>inferInstance⟩
instance:EL cM 1:=⟨λ_=>rfl,λ_=>inferInstance⟩
instance{α:Type}{n:Nat}{e:α->List SV}:EL (eS n e) 1:=⟨λ_=>rfl,λ_=>inferInstance⟩
instance:EL eQ 4:=⟨λ_=>rfl,λ_=>inferInstance⟩
def EG{α:Type}(l k:List α):List α:=k.take l.length++l.drop k.length
structure Tb where
 made:Bool
 vars:Int
 uj:List (List Qr)
 basis:List Int
 rows:List (List Qr)
abbrev vc(x:Tb):List SV:=[.v (.bool x.made),.v (.int .i64 x.vars),slc 1 (x.uj.map (eS 4 eQ)),slc 1 (x.basis.map cM),slc 1 (x.rows.map (eS 4 eQ))]
structure Pv where
 row:Int
 col:Int
abbrev Ow(x:Pv):List SV:=[.v (.int .i64 x.row),.v (.int .i64 x.col)]
instance:EL Ow 2:=⟨λ_=>rfl,λ_=>inferInstance⟩
structure Lr where
 vars:Int
 uj:List (List Qr)
 rows:List (List Qr)
 bounds:List Qr
abbrev Dw(x:Lr):List SV:=[.v (.int .i64 x.vars),slc 1 (x.uj.map (eS 4 eQ)),slc 1 (x.rows.map (eS 4 eQ)),slc 4 (x.bounds.map eQ)]
structure Sz where
 vars:Int
 uj:Int
 rows:Int
 bounds:Int
abbrev eSz(x:Sz):List SV:=[.v (.int .i64 x.vars),.v (.int .i64 x.uj),.v (.int .i64 x.rows),.v (.int .i64 x.bounds)]
abbrev TR(E:TypeId)(sz:Nat){α:Type}(e:α->List SV)(l:List α):Row:=⟨E,sz,l.length,l.flatMap e⟩
theorem aB{α:Type}{n:Nat}{e:α->List SV}:SV.imp (.v (.slice none 0 0)) (slc n (([]:List α).map e)):=λ_ _ h=>.inl ⟨none,h,Y⟩
theorem r5{α:Type}(e:α->List SV)(l:List α):(l.map e).flatten=l.flatMap e:=by rw[List.flatMap_def]
theorem pK{α:Type}{e:α->List SV}{n:Nat}[h:EL e n](l:List α):Rows n (l.map e) (l.flatMap e):=⟨r5 e l,λr hr=>by obtain⟨x,_,rfl⟩:=List.mem_map.1 hr;exact h.len x⟩
theorem CI{M:Mem}:∀{l k:List SV} {vs:List Value},SV.dZ M (l++k) vs->∃us ws,vs=us++ws/\SV.dZ M l us/\SV.dZ M k ws
 |[],_,vs,h=>⟨[],vs,Y,aq,h⟩
 |_::_,_,[],h=>h.elim
 |_::l,_,v::vs,h=>by
  obtain⟨us,ws,rfl,h1,h2⟩:=CI (l:=l) h.2;exact⟨v::us,ws,Y,⟨h.1,h1⟩,h2⟩
theorem lK{α:Type}{e:α->List SV}{n:Nat}[h:EL e n](l:List α):∀M vs,SV.dZ M (l.flatMap e) vs->∀v∈vs,v.oneCell'=true:=by
 intro M
 induction l with
 |nil=>intro vs hv;cases vs with|nil=>simp|cons _ _=>exact hv.elim
 |cons x l ih=>
  intro vs hv;rw[List.flatMap_cons]at hv;obtain⟨us,ws,rfl,h1,h2⟩:=CI hv;intro v hv;rcases List.mem_append.1 hv with hv|hv
  ·exact(h.one x).h M us h1 v hv
  exact ih ws h2 v hv
theorem E6{α:Type}{e:α->List SV}{n:Nat}[h:EL e n]:∀{l:List α} {k:Nat} {a:α},l[k]? =some a->((l.flatMap e).drop (k*n)).take n=e a
 |[],_,_,hh=>by simp at hh
 |x::l,0,a,hh=>by
  simp only[List.getElem?_cons_zero,Option.some.injEq]at hh;subst hh;rw[List.flatMap_cons,Nat.zero_mul,List.drop_zero,<-h.len x,List.take_left'];rfl
 |x::l,k+1,a,hh=>by
  rw[List.getElem?_cons_succ]at hh;rw[List.flatMap_cons,show(k+1)*n=(e x).length+k*n by rw[h.len,Nat.add_mul];omega,<-List.drop_drop,List.drop_left']
  ·exact E6 hh
  rfl
theorem E7{α:Type}{e:α->List SV}{n:Nat}[h:EL e n]{y:α}:∀{l:List α} {k:Nat},k<l.length->lA (l.flatMap e) (k*n) (e y)=(l.set k y).flatMap e:=by
 have aba:∀(u:List SV) (a b:List SV) (j:Nat),j+u.length<=a.length->lA (a++b) j u=lA a j u++b:=by
  intro u
  induction u with
  |nil=>intro a b j _;rfl
  |cons s u ih=>
   intro a b j hj;simp only[List.length_cons]at hj;simp only[lA];rw[List.set_append_left _ _ (by omega),ih _ _ _ (by rw[List.length_set];omega)]
 have abb:∀(u:List SV) (a b:List SV) (j:Nat),lA (a++b) (a.length+j) u=a++lA b j u:=by
  intro u
  induction u with
  |nil=>intro a b j;rfl
  |cons s u ih=>
   intro a b j;simp only[lA];rw[List.set_append_right _ _ (by omega),show a.length+j-a.length=j by omega,show a.length+j+1=a.length+(j+1) by omega,ih]
 have abc:∀(u a:List SV),u.length=a.length->lA a 0 u=u:=by
  have gen:∀(u a p:List SV),u.length=a.length->lA (p++a) p.length u=p++u:=by
   intro u
   induction u with
   |nil=>intro a p ha;have:a=[]:=List.eq_nil_of_length_eq_zero ha.symm;subst this;rfl
   |cons s u ih=>
    intro a p ha;cases a with
    |nil=>cases ha
    |cons t a=>
     simp only[lA];rw[List.set_append_right _ _ (Nat.le_refl _),Nat.sub_self,List.set_cons_zero,show p++s::a=(p++[s])++a by simp,show p.length+1=(p++[s]).length by simp,ih a _ (by simpa using ha)];simp
  intro u a ha;exact gen u a [] ha
 intro l
 induction l with
 |nil=>intro k hk;simp at hk
 |cons x l ih=>
  intro k hk;cases k with
  |zero=>
   rw[List.set_cons_zero,List.flatMap_cons,List.flatMap_cons,Nat.zero_mul,aba _ _ _ _ (by rw[h.len,h.len];omega),abc _ _ (by rw[h.len,h.len])]
  |succ k=>
   simp only[List.length_cons]at hk;rw[List.set_cons_succ,List.flatMap_cons,List.flatMap_cons,show(k+1)*n=(e x).length+k*n by rw[h.len,Nat.add_mul];omega,abb,ih (by omega)]
end
section
open Go.RowKit
section steps
variable {P:Program}{C:Ctx}{ops:Array Oper}{S:AS}{nd:Bool}{K:List Ac->AS->Prop}{rest:List Oper}{acc:List Ac}
variable {gd:Option (Nat×Bool)}{rg:List Nat}{d:Nat}{ty:TypeId}{pos:String}{aft:Array Edge}{x y z:Operand}{T U E0:TypeId}
variable {α:Type}{l l' k:List α}{e:α->List SV}{n by_:Nat}{zv:Value}
theorem RT.abd(hg:Gd ops S gd rg){s X:SV}(hx:S.ev x=.sv s)(hi:SV.imp s X)(hd:d<S.n)
  (next:RunT P C ops nd K rest (⟨rg++aZ x,[],[],⟨some (d,.sv X),[],[]⟩⟩::acc) (S.set d (.sv X))):RunT P C ops nd K (⟨some d,.assign x,ty,pos,aft,gd⟩::rest) acc S:=
 RT.value hg (aZ x) [] [] (.sv X) hd (by intro c h;cases h) (λS' ht _ _ E a w h=>by
  have hx':S'.ev x=.sv s:=by rw[bz (λ_ h=>h) ht,hx]
  exact⟨a.eval x,Y,by have:=h.ev x;rw[hx']at this;exact hi _ _ this,eU⟩) next
theorem JW{E:Env}:∀{l l':List SV} {vs:List Value},cP l l'->SV.dZ E.M l vs->c9 E (l'.map AV.sv) vs:=λhi h=>c9.vS (hi.holds h)
theorem Dx(M:Mem):∀l:List Value,SV.dZ M (l.map SV.v) l
 |[]=>trivial
 |_::l=>⟨Y,Dx M l⟩
theorem RT.qG(hg:Gd ops S gd rg)[tz:iu P T zv]{cs:List SV}(hi:cP (zv.cells.toList.map SV.v) cs){av:List AV}(hav:cs.map AV.sv=av)(hd:d<S.n)(hb:S.b d=none)(hp:C.gB d=none)
  (next:RunT P C ops nd K rest (⟨rg++[],[d],[],⟨some (d,.ptr d 0),[(d,⟨T,av⟩)],[]⟩⟩::acc) ((S.jt d ⟨T,av⟩).set d (.ptr d 0))):RunT P C ops nd K (⟨some d,.alloc T,ty,pos,aft,gd⟩::rest) acc S:=by
 subst hav;exact RT.IA hg (by intro c h;cases h) [] hd hb hp (λS' _ E a w h=>⟨zv.cells.toList,by simp[execOp,Instr.alloc,newVar,newRow,tz.run],JW hi (Dx _ _),λy hy=>by
  obtain⟨s,_,rfl⟩:=List.mem_map.1 hy;exact eU⟩) next
theorem RT.TA(hg:Gd ops S gd rg){pl:List (Nat×Nat)}{zc:List Value}[tP:iB P T pl zc]{parts:Array (Nat×Operand)}{qs:List (Nat×List SV)}(hp:nh S parts.toList qs){cs cs':List SV}(hf:uF (λi=>pl[i]?) (zc.map SV.v) qs=some cs)(hi:cP cs cs')(hd:d<S.n)
  (next:RunT P C ops nd K rest (⟨rg++kF parts.toList,[],[],⟨some (d,.sv (.agg cs')),[],[]⟩⟩::acc) (S.set d (.sv (.agg cs')))):RunT P C ops nd K (⟨some d,.build T parts,ty,pos,aft,gd⟩::rest) acc S:=by
 refine RT.value hg (kF parts.toList) [] [] (.sv (.agg cs')) hd (by intro c h;cases h) (λS' ht _ _ E a w h=>?_) next
 have hu:=tP.h;cases hT:P.underlying T with
 |none=>rw[hT]at hu;cases hu
 |some u=>
  rw[hT]at hu;cases u with
  |struct fs=>
   simp only at hu;have hz:(zeroValue T).run P w=.ok (.agg ⟨zc⟩) w:=iu.run (t:=⟨tP.hz⟩) w;obtain⟨us,h1,h2,_⟩:=Af h (λi=>pl[i]?) hp ht (cells:=zc.map SV.v) (vs:=zc) (Dx _ zc) (List.all_eq_true.1 tP.o) hf;refine⟨.agg ⟨us⟩,?_,⟨us,Y,hi.holds h2⟩,eU⟩;have hm:(fs.mapM (λf=>do pure (f.offset,<-sizeOf f.type):Field->Sem (Nat×Nat))).run P w=.ok pl.toArray w:=by
    have:=rW (P:=P) (w:=w) hu;rw[<-Array.toArray_toList (xs:=fs),List.mapM_toArray];rw[Sem.run_map,this];rfl
   have h1':Instr.fill (λi=>pl.toArray[i]?) ⟨zc⟩ (parts.toList.map λp=>(p.1,a.eval p.2))=some ⟨us⟩:=by simpa using h1
   simp only[execOp,Instr.build,underlying];simp only[Sem.run_bind,hz,Result.andThen_ok,run_program,hT,Sem.run_pure,Value.cells];have hm':(Array.mapM (λf=>do
     let __do_lift<-sizeOf f.type
     pure (f.offset,__do_lift)) fs:Sem _).run P w=.ok pl.toArray w:=hm
   simp only[hm',Result.andThen_ok];have e4:(Array.map (λx=>match x with|(i,x)=>(i,a.eval x)) parts).toList=parts.toList.map λp=>(p.1,a.eval p.2):=by simp
   simp only[e4,h1',Sem.run_pure,Result.andThen_ok]
  |_=>cases hu
theorem Pure.w{f:FuncId}{args args':List SV}{r:SV}(h:Pure P f args r)(hi:cP args' args):Pure P f args' r:=λM w vs hM hv=>h M w vs hM (hi.holds hv)
theorem RT.W4(hg:Gd ops S gd rg){m:Nat}[tS:eE P T E0 m]{c:Int}(hx:S.ev x=.sv (slc n (l.map e)))(hd:d<S.n)(hc:(l.length:Int)=c)
  (next:RunT P C ops nd K rest (⟨rg++aZ x,[],[],⟨some (d,.sv (.v (.int .i64 c))),[],[]⟩⟩::acc) (S.set d (.sv (.v (.int .i64 c))))):RunT P C ops nd K (⟨some d,.call ⟨.builtin .len,#[x],#[T]⟩,ty,pos,aft,gd⟩::rest) acc S:=
 RT.len hg hx hd (by rw[List.length_map,hc];exact next)
theorem RT.QY(hg:Gd ops S gd rg){m:Nat}[tS:eE P T E0 m]{i:Nat}{E1:TypeId}{c:Int}(hx:S.ev x=.row i)(hR:S.r i=.live (TR E1 n e l))(hd:d<S.n)(hc:(l.length:Int)=c)
  (next:RunT P C ops nd K rest (⟨rg++aZ x,[],[i],⟨some (d,.sv (.v (.int .i64 c))),[],[]⟩⟩::acc) (S.set d (.sv (.v (.int .i64 c))))):RunT P C ops nd K (⟨some d,.call ⟨.builtin .len,#[x],#[T]⟩,ty,pos,aft,gd⟩::rest) acc S:=
 RT.aaF hg hx hR hd (by show RunT _ _ _ _ _ _ (⟨_,_,_,⟨some (d,.sv (.v (.int .i64 (l.length:Int)))),_,_⟩⟩::_) (S.set d (.sv (.v (.int .i64 (l.length:Int)))));rw[hc];exact next)
theorem RT.TB(hg:Gd ops S gd rg)[tS:eE P T E0 n]{kk:IntKind}{i:Int}{a:α}(hx:S.ev x=.sv (slc n (l.map e)))(hy:S.ev y=.sv (.v (.int kk i)))(hd:d<S.n)(ha:cZ l i=some a)
  (next:RunT P C ops nd K rest (⟨rg++(aZ x++aZ y),[],[],⟨some (d,.sv (ref (e a))),[],[]⟩⟩::acc) (S.set d (.sv (ref (e a))))):RunT P C ops nd K (⟨some d,.indexAddr T x y,ty,pos,aft,gd⟩::rest) acc S:=
 RT.indexAddr hg (e a) hx hy hd (pJ ha).1 (by rw[List.getElem?_map,(pJ ha).2];rfl) next
theorem RT.As(hg:Gd ops S gd rg)[tS:eE P T E0 n]{lo hi:Option Operand}(a b:Int)(hx:S.ev x=.sv (slc n (l.map e)))(hlo:Ag S 0 lo a)(hhi:Ag S l.length hi b)(hd:d<S.n)(h:y4 l a b=some l')
  (next:RunT P C ops nd K rest (⟨rg++(aZ x++(ni lo++ni hi)),[],[],⟨some (d,.sv (slc n (l'.map e))),[],[]⟩⟩::acc) (S.set d (.sv (slc n (l'.map e))))):RunT P C ops nd K (⟨some d,.slice T x lo hi none,ty,pos,aft,gd⟩::rest) acc S:=by
 obtain⟨h0,h1,h2,h3⟩:=CH h;exact RT.slice hg hx a b hlo (by rw[List.length_map];exact hhi) hd h0 h1 (by rw[List.length_map];exact h2) _ (by rw[IE,h3]) next
theorem RT.eK(hg:Gd ops S gd rg)[tS:eE P T E0 n][tE:ju P E0 n by_ zv]{len:Nat}{parts:Array (Nat×Operand)}{qs:List (Nat×List SV)}(hp:nh S parts.toList qs)(hd:d<S.n)
  (hc:o9 0 qs=true) (hl:qs.length=len) (hsz:(qs.all λq=>Nat.beq q.2.length n)=true) (hlen:Nat.ble (len*n) 16777216=true) (JR:(zv.cells.toList.all λv=>v.oneCell')=true) (jb:qs.map (·.2)=l.map e)
  (next:RunT P C ops nd K rest (⟨rg++kF parts.toList,[],[],⟨some (d,.sv (slc n (l.map e))),[],[]⟩⟩::acc) (S.set d (.sv (slc n (l.map e))))):RunT P C ops nd K (⟨some d,.buildSlice T len parts,ty,pos,aft,gd⟩::rest) acc S:=
 RT.buildSlice hg hp hd hc hl hsz (af hlen) (List.all_eq_true.1 JR) jb next
theorem RT.O2(hg:Gd ops S gd rg)[tS:eE P T E0 n][tE:ju P E0 n by_ zv]{len:Nat}{parts:Array (Nat×Operand)}{qs:List (Nat×List SV)}(hp:nh S parts.toList qs)(hd:d<S.n)(xy:S.r d=.un)(vQ:d<1000)
  (hc:o9 0 qs=true) (hl:qs.length=len) (hsz:(qs.all λq=>Nat.beq q.2.length n)=true) (hlen:Nat.ble (len*n) 16777216=true) (JR:(zv.cells.toList.all λv=>v.oneCell')=true) (jb:qs.map (·.2)=l.map e)
  (next:RunT P C ops nd K rest (⟨rg++kF parts.toList,[],[d],⟨some (d,.row d),[],[(d,.live (TR E0 n e l))]⟩⟩::acc) ((AS.bY [(d,.live (TR E0 n e l))] S).set d (.row d))):RunT P C ops nd K (⟨some d,.buildSlice T len parts,ty,pos,aft,gd⟩::rest) acc S:=by
 refine RT.EX hg hp hd xy vQ hc hl hsz (af hlen) (List.all_eq_true.1 JR) (cells:=l.flatMap e) (by rw[jb,r5]) ?_;have:len=l.length:=by have h0:=congrArg List.length jb;simpa[hl]using h0
 rw[this];exact next
theorem RT.apR(hg:Gd ops S gd rg)[tS:eE P T E0 n][tE:ju P E0 n by_ zv]{i:Nat}(hx:S.ev x=.row i)(hR:S.r i=.live (TR E0 n e l))(hy:S.ev y=.sv (slc n (k.map e)))(hd:d<S.n)(xy:S.r d=.un)(vQ:d<1000)(h:zJ by_ l k=some l')
  (next:RunT P C ops nd K rest (⟨rg++(aZ x++aZ y),[],[i,d],⟨some (d,.row d),[],[(i,.dead),(d,.live (TR E0 n e l'))]⟩⟩::acc) ((AS.bY [(i,.dead),(d,.live (TR E0 n e l'))] S).set d (.row d))):RunT P C ops nd K (⟨some d,.call ⟨.builtin .append,#[x,y],#[T,T]⟩,ty,pos,aft,gd⟩::rest) acc S:=by
 obtain⟨h1,h2,rfl⟩:=wh h;exact RT.OQ hg hx hR hy hd xy vQ (by simpa using h1) (by simpa using h2) _ (by simp[r5]) next
theorem RT.W5(hg:Gd ops S gd rg)[tS:eE P T E0 n][tE:ju P E0 n by_ zv][el:EL e n]{i:Nat}(hx:S.ev x=.row i)(hR:S.r i=.live (TR E0 n e l))(hy:S.ev y=.sv (slc n (k.map e)))(hd:d<S.n)(xy:S.r d=.un)(vQ:d<1000)(h:zJ by_ l k=some l')
  (next:RunT P C ops nd K rest (⟨rg++(aZ x++aZ y),[],[d,i],⟨some (d,.sv (slc n (l'.map e))),[],[(i,.dead),(d,.dead)]⟩⟩::acc) ((AS.bY [(i,.dead),(d,.dead)] S).set d (.sv (slc n (l'.map e))))):RunT P C ops nd K (⟨some d,.call ⟨.builtin .append,#[x,y],#[T,T]⟩,ty,pos,aft,gd⟩::rest) acc S:=by
 obtain⟨h1,h2,rfl⟩:=wh h;have hf:l.flatMap e++(k.map e).flatten=(l++k).flatMap e:=by simp[r5]
 exact RT.IK hg (.row hx hR) hy hd xy vQ (by simpa using h1) (by simpa using h2) _ (rows':=(l++k).map e) (λ_ _ h _=>h) (by rw[hf];exact pK _) (by simp) (by rw[hf];exact lK _) next
theorem CJ(zc:Array Value)(n:Nat)(hz:zc.size=n)(hn:0<n):∀m:Nat,(madeCells zc (m*n)).toList=(List.replicate m zc.toList).flatten
 |0=>by simp[madeCells]
 |m+1=>by
  have ih:=CJ zc n hz hn m;rw[List.replicate_succ',List.flatten_append,<-ih];simp only[madeCells,Array.toList_map,Array.toList_range,List.flatten_cons,List.flatten_nil,List.append_nil];rw[show(m+1)*n=m*n+n by rw[Nat.add_mul];omega,List.range_add,List.map_append,List.map_map];congr 1;apply List.ext_getElem?;intro i;rw[List.getElem?_map];rcases Nat.lt_or_ge i n with hi|hi
  ·rw[List.getElem?_range hi];simp only[Option.map_some,Function.comp];rw[hz,Nat.mul_comm m n,Nat.mul_add_mod,Nat.mod_eq_of_lt hi];rw[getElem!_pos zc i (by omega),Array.getElem?_toList,Array.getElem?_eq_getElem (by omega)]
  rw[List.getElem?_eq_none (by simpa using hi),List.getElem?_eq_none (by simp;omega)];rfl
theorem E8:∀{a b c d:List SV},cP a c->cP b d->cP (a++b) (c++d)
 |[],_,[],_,_,h=>h
 |_::_,_,_::_,_,h,h'=>⟨h.1,E8 h.2 h'⟩
 |[],_,_::_,_,h,_=>h.elim
 |_::_,_,[],_,h,_=>h.elim
theorem E9{zl:List Value}{zz:α}(hi:cP (zl.map SV.v) (e zz)):∀m:Nat,cP ((List.replicate m zl).flatten.map SV.v) ((List.replicate m zz).flatMap e)
 |0=>trivial
 |m+1=>by
  rw[List.replicate_succ,List.replicate_succ,List.flatten_cons,List.map_append,List.flatMap_cons];exact E8 hi (E9 hi m)
theorem RT.nQ(hg:Gd ops S gd rg)[tS:eE P T E0 n][tE:ju P E0 n by_ zv]{kl kc:IntKind}{c:Int}{zz:α}(hx:S.ev x=.sv (.v (.int kl c)))(hy:S.ev y=.sv (.v (.int kc c)))(hd:d<S.n)(xy:S.r d=.un)(vQ:d<1000)(hz:zv.cells.size=n)(hn:0<n)(hi:cP (zv.cells.toList.map SV.v) (e zz))(hm:BS by_ c zz=some l')
  (next:RunT P C ops nd K rest (⟨rg++(aZ x++aZ y),[],[d],⟨some (d,.row d),[],[(d,.live (TR E0 n e l'))]⟩⟩::acc) ((AS.bY [(d,.live (TR E0 n e l'))] S).set d (.row d))):RunT P C ops nd K (⟨some d,.makeSlice T x y,ty,pos,aft,gd⟩::rest) acc S:=by
 obtain⟨h0,hroom,rU,rfl⟩:=LG hm;refine .inl ⟨_,[],[d],_,?_,next⟩;rintro S' hn' ht _ hr i a w L Q ho ⟨E,h⟩ hL;refine cx (C:=C) ho (hg.wanted h (λs hs=>ht s (List.mem_append_left _ hs)) Y) ?_;have h1:a.eval x=.int kl c:=by have h1:=h.ev x;rw[bz (λ_ h=>List.mem_append_right _ (List.mem_append_left _ h)) ht,hx]at h1;exact h1
 have h2:a.eval y=.int kc c:=by have h2:=h.ev y;rw[bz (λ_ h=>List.mem_append_right _ (List.mem_append_right _ h)) ht,hy]at h2;exact h2
 obtain⟨info,hii,hsz,hby,hzz⟩:=ju.info (P:=P) (E:=E0) (n:=n) (by_:=by_) (z:=zv);obtain⟨m,rfl⟩:=Int.eq_ofNat_of_zero_le h0;have hb':info.bytes*m<=281474976710656:=by
  rw[hby];have:((by_*m:Nat):Int)<=281474976710656:=by rw[Int.natCast_mul];exact hroom
  omega
 obtain⟨w',q1,q2,q3⟩:=run_make_full (P:=P) w 0 T E0 info zv n tS.u hii hzz hsz kl kc m hb' (by unfold maxLen;omega) (Nat.zero_le _);have hr':(execOp a.eval ⟨some d,.makeSlice T x y,ty,pos,aft,gd⟩).run P w=.ok (.value (.slice (some ⟨w.heap.size,0,none⟩) m m)) w':=by
  simp only[execOp,h1,h2];simp[q1]
 have JQ:S'.r d=.un:=by rw[hr d (by simp)];exact xy
 have e0:(m:Int).toNat=m:=by simp
 have hall:SV.dZ E.M ((List.replicate m zz).flatMap e) (madeCells zv.cells (m*n)).toList:=by
  rw[CJ zv.cells n hz hn];exact cP.holds (l:=((List.replicate m zv.cells.toList).flatten.map SV.v)) (E9 hi m) (Dx _ _)
 have hlen:(List.replicate (m:Int).toNat zz).length=m:=by simp
 refine cq (C:=C) (by intro c h;cases h) hr' (hL _ _ ⟨_,(h.newRow JQ vQ [] none (.inl ⟨rfl,rfl⟩) (R':=TR E0 n e (List.replicate (m:Int).toNat zz)) (by show w'.ownsRow 0 E0 n _ (List.replicate (m:Int).toNat zz).length _;rw[hlen];exact q2) (by rw[e0];exact hall) (.inr (.inl rfl)) q3).put (d:=d) (x:=.row d) (v:=.slice (some ⟨w.heap.size,0,none⟩) m m) (by simp[AV.holds]) (by show d<S'.n;omega) ⟨λ_ e=>e.elim,λj e=>?_⟩⟩);cases e;show(AS.o7 S' d _).r d≠_;rw[AS.gU];simp
theorem RT.CK(hg:Gd ops S gd rg)[tS:eE P T E0 n][tE:ju P E0 n by_ zv]{kl kc:IntKind}{c:Int}(hx:S.ev x=.sv (.v (.int kl 0)))(hy:S.ev y=.sv (.v (.int kc c)))(hd:d<S.n)(xy:S.r d=.un)(vQ:d<1000)(h:LD (α:=α) by_ c=some l')
  (next:RunT P C ops nd K rest (⟨rg++(aZ x++aZ y),[],[d],⟨some (d,.row d),[],[(d,.live (TR E0 n e l'))]⟩⟩::acc) ((AS.bY [(d,.live (TR E0 n e l'))] S).set d (.row d))):RunT P C ops nd K (⟨some d,.makeSlice T x y,ty,pos,aft,gd⟩::rest) acc S:=by
 obtain⟨h0,h1,h2,rfl⟩:=LH h;exact RT.WE hg hx hy hd xy vQ h0 h1 h2 next
theorem RT.abf(hg:Gd ops S gd rg)[tS:eE P T E0 n]{i j:Nat}{E1:TypeId}{kk:IntKind}{v:Int}(hx:S.ev x=.row i)(hR:S.r i=.live (TR E1 n e l))(hy:S.ev y=.sv (.v (.int kk v)))(hd:d<S.n)(h:oM l v=some j)
  (next:RunT P C ops nd K rest (⟨rg++(aZ x++aZ y),[],[i],⟨some (d,.iM i (j*n)),[],[]⟩⟩::acc) (S.set d (.iM i (j*n)))):RunT P C ops nd K (⟨some d,.indexAddr T x y,ty,pos,aft,gd⟩::rest) acc S:=by
 obtain⟨h0,h1,h2⟩:=LF h;exact RT.ixR hg (.row hx hR) hy hd h0 h1 (j*n) (by rw[h2];omega) next
theorem RT.W6(hg:Gd ops S gd rg)[tV:pH P T][el:EL e 1]{i j:Nat}{E1:TypeId}{a:α}{s:SV}(hx:S.ev x=.iM i (j*1))(hR:S.r i=.live (TR E1 1 e l))(ha:l[j]? =some a)(hs:e a=[s])(hd:d<S.n)
  (next:RunT P C ops nd K rest (⟨rg++aZ x,[],[i],⟨some (d,.sv s),[],[]⟩⟩::acc) (S.set d (.sv s))):RunT P C ops nd K (⟨some d,.load T x,ty,pos,aft,gd⟩::rest) acc S:=by
 refine RT.ldR hg hx hR (s:=s) ?_ hd next
 have:=E6 (e:=e) ha;rw[hs]at this;have h2:=congrArg (·[0]?) this;simpa[List.getElem?_take]using h2
theorem O3(a:List SV)(k:Nat)(s:SV):a.set k s=lA a k [s]:=rfl
theorem RT.abg(hg:Gd ops S gd rg)[tV:pH P T][el:EL e 1]{i j:Nat}{E1:TypeId}{s:SV}[o1:One s](a:α)(hs:e a=[s])(hx:S.ev x=.iM i (j*1))(hR:S.r i=.live (TR E1 1 e l))(hy:S.ev y=.sv s)(h:stM l j a=some l')
  (next:RunT P C ops nd K rest (⟨rg++(aZ x++aZ y),[],[i],⟨none,[],[(i,.live (TR E1 1 e l'))]⟩⟩::acc) (AS.bY [(i,.live (TR E1 1 e l'))] S)):RunT P C ops nd K (⟨none,.store T x y,ty,pos,aft,gd⟩::rest) acc S:=by
 obtain⟨h1,rfl⟩:=E5 h;refine RT.stR hg hx hR hy (by show j*1+1<=l.length*1;omega) ((l.set j a).flatMap e) (by rw[O3,<-hs];exact E7 h1) ?_;have:(TR E1 1 e (l.set j a))=⟨E1,1,l.length,(l.set j a).flatMap e⟩:=by show Row.mk _ _ _ _=_;rw[List.length_set]
 rw[<-this];exact next
theorem RT.W7(hg:Gd ops S gd rg)[tA:zC P T n][el:EL e n]{i j:Nat}{E1:TypeId}(a:α)(hx:S.ev x=.iM i (j*n))(hR:S.r i=.live (TR E1 n e l))(hy:S.ev y=.sv (.agg (e a)))(h:stM l j a=some l')
  (next:RunT P C ops nd K rest (⟨rg++(aZ x++aZ y),[],[i],⟨none,[],[(i,.live (TR E1 n e l'))]⟩⟩::acc) (AS.bY [(i,.live (TR E1 n e l'))] S)):RunT P C ops nd K (⟨none,.store T x y,ty,pos,aft,gd⟩::rest) acc S:=by
 obtain⟨h1,rfl⟩:=E5 h;have o1:=el.one a;refine RT.aaN hg hx hR hy (el.len a) (by show j*n+n<=l.length*n;have:=Nat.mul_le_mul_right n h1;rw[Nat.succ_mul]at this;exact this) ((l.set j a).flatMap e) (E7 h1) ?_;have:(TR E1 n e (l.set j a))=⟨E1,n,l.length,(l.set j a).flatMap e⟩:=by show Row.mk _ _ _ _=_;rw[List.length_set]
 rw[<-this];exact next
end steps
theorem pL{S:AS}{i n:Nat}{E1:TypeId}{α:Type}{e:α->List SV}{l:List α}[el:EL e n](hR:S.r i=.live (TR E1 n e l)):rQ S (S.nf i (slc n (l.map e))):=by
 rintro C a w ⟨E,h⟩;have hlen:l.length<=9223372036854775807:=by
  obtain⟨⟨vs,ho,hv⟩,_⟩:=h.rx i _ hR;rcases ho.2 with⟨_,q2⟩|⟨g',cap,cur,q1,_,q2,q3,q4,q5,q6⟩
  ·have q2:l.length=0:=q2;omega
  have q3:l.length<=cap:=q3;have:maxLen=9223372036854775807:=by decide
  omega
 exact h.nf hR (pK l) (by rw[List.length_map]) hlen (lK l) (λ_ _ h _=>h)
section control
variable {P:Program}{C:Ctx}{S:AS}{Q:Exit->AS->Prop}
theorem bK{A:Code}{J R:Type}{kB:J->Option R}{fA:(J->Option R)->Option R}{r:R}(h:cK kB fA=some r)(I:J->AS)
  (hA:fA kB=some r->Ok P C A S (aV (λS'=>∃j,kB j=some r/\rQ S' (I j)) Q)) (hQ:∀j,kB j=some r->Q .normal (I j)):Ok P C A S Q:=λa w hs=>by
 refine wpIn_mono (hA h a w hs) ?_;rintro e a' w' ⟨S',q,hh⟩;cases e with
 |normal=>obtain⟨j,h1,h2⟩:=q;exact⟨_,hQ j h1,h2 C a' w' hh⟩
 |_=>exact⟨S',q,hh⟩
theorem bV{A:Code}{X:Type}(I:X->AS)(p:X->Prop)(hA:Ok P C A S (aV (λS'=>∃j,p j/\rQ S' (I j)) Q))(hQ:∀j,p j->Q .normal (I j)):Ok P C A S Q:=λa w hs=>by
 refine wpIn_mono (hA a w hs) ?_;rintro e a' w' ⟨S',q,hh⟩;cases e with
 |normal=>obtain⟨j,h1,h2⟩:=q;exact⟨_,hQ j h1,h2 C a' w' hh⟩
 |_=>exact⟨S',q,hh⟩
theorem bW{c:Code}{T E:Type}{body:T->Option (T⊕E)}{s0:T}{e:E}(h:cy body s0=some e)(I:T->AS)(h0:rQ S (I s0))
  (round:∀(s:T) (y:T⊕E) (G:T->Prop),body s=some y->(∀s',y=.inl s'->G s')->(∀e',y=.inr e'->e'=e)->Ok P C c (I s) (aV (λS'=>∃s',G s'/\rQ S' (I s')) Q)):Ok P C (.loop c) S Q:=by
 obtain⟨n,hn⟩:=uZ h;refine vV (ι:={x:T×Nat//nj body x.2 x.1=some e}) (λx=>I x.1.1) (λx=>x.1.2) ⟨(s0,n),hn⟩ h0 ?_;rintro⟨⟨s,m⟩,hm⟩;cases m with
 |zero=>cases hm
 |succ m=>
  cases hb:body s with
  |none=>simp only[nj,hb]at hm;cases hm
  |some y=>
   refine Dk (round s y (λs'=>nj body m s'=some e) hb ?_ ?_) ?_
   ·rintro s' rfl;simpa only[nj,hb]using hm
   ·rintro e' rfl;simp only[nj,hb]at hm;exact Option.some.inj hm
   intro ex S' q;cases ex with
   |normal=>obtain⟨s',h1,h2⟩:=q;exact⟨⟨(s',m),h1⟩,Nat.lt_succ_self m,h2⟩
   |_=>exact q
end control
end
section
open Go.RowKit
abbrev Ox:=List UInt8
def bs(l:Ox):ByteArray:=⟨⟨l⟩⟩
def uH(l:Ox)(i:Int):Option Nat:=(cZ l i).map UInt8.toNat
theorem O4(l:Ox):(bs l).size=l.length:=rfl
theorem TC(l:Ox)(i:Nat):(bs l)[i]? =l[i]? :=by
 rcases Nat.lt_or_ge i l.length with h|h
 ·rw[getElem?_pos (bs l) i h,List.getElem?_eq_getElem h];rfl
 rw[getElem?_neg (bs l) i (by rw[O4];omega),List.getElem?_eq_none h]
section steps
variable {P:Program}{C:Ctx}{ops:Array Oper}{S:AS}{nd:Bool}{K:List Ac->AS->Prop}{rest:List Oper}{acc:List Ac}
variable {gd:Option (Nat×Bool)}{rg:List Nat}{d:Nat}{ty:TypeId}{pos:String}{aft:Array Edge}{x y z:Operand}{T U E0:TypeId}
variable {l l' k:Ox}
theorem RT.skV{op:Op}{j g:Nat}{b want:Bool}(h1:(ops[j]?).bind (·.dst)=some g)(h2:S.t g=.sv (.v (.bool b)))(hb:b≠want)(hd:d<S.n)
  (next:RunT P C ops nd K rest (⟨[g],[],[],⟨some (d,.sv (.v undef)),[],[]⟩⟩::acc) (S.set d (.sv (.v undef)))):RunT P C ops nd K (⟨some d,op,ty,pos,aft,some (j,want)⟩::rest) acc S:=by
 refine .inl ⟨[g],[],[],⟨some (d,.sv (.v undef)),[],[]⟩,?_,next⟩;rintro S' hn ht _ _ i a w L Q ho ⟨E,h⟩ hL;have hv:=h.tm g;rw[ht g (by simp),h2]at hv;have hv:a.tmps.getD g undef=.bool b:=hv;have EF:a.tmps[g]? =some (.bool b):=by
  rw[Array.getD_eq_getD_getElem?]at hv;cases e:a.tmps[g]? with
  |none=>rw[e]at hv;simp[undef]at hv
  |some x=>rw[e]at hv;simp at hv;rw[hv]
 have hw:Region.wanted ⟨some d,op,ty,pos,aft,some (j,want)⟩ (yielded ops a.tmps)=false:=by
  simp[Region.wanted,yielded,h1,EF,hb]
 simp only[wpOpIn,ho,hw];exact⟨λ_ _=>trivial,hL _ _ ⟨E,h.put (x:=.sv (.v undef)) (v:=undef) Y (by omega) ⟨λ_ h=>h.elim,λ_ h=>h.elim⟩⟩⟩
theorem RT.W8{op:Op}{j g:Nat}{want:Bool}(h1:(ops[j]?).bind (·.dst)=some g)(h2:S.t g=.sv (.v undef))(hd:d<S.n)
  (next:RunT P C ops nd K rest (⟨[g],[],[],⟨some (d,.sv (.v undef)),[],[]⟩⟩::acc) (S.set d (.sv (.v undef)))):RunT P C ops nd K (⟨some d,op,ty,pos,aft,some (j,want)⟩::rest) acc S:=by
 refine .inl ⟨[g],[],[],⟨some (d,.sv (.v undef)),[],[]⟩,?_,next⟩;rintro S' hn ht _ _ i a w L Q ho ⟨E,h⟩ hL;have hv:=h.tm g;rw[ht g (by simp),h2]at hv;have hv:a.tmps.getD g undef=undef:=hv;rw[Array.getD_eq_getD_getElem?]at hv;have hw:Region.wanted ⟨some d,op,ty,pos,aft,some (j,want)⟩ (yielded ops a.tmps)=false:=by
  cases e:a.tmps[g]? with
  |none=>simp[Region.wanted,yielded,h1,e]
  |some x=>
   rw[e]at hv;simp only[Option.getD_some]at hv;subst hv;simp[Region.wanted,yielded,h1,e,undef]
 simp only[wpOpIn,ho,hw];exact⟨λ_ _=>trivial,hL _ _ ⟨E,h.put (x:=.sv (.v undef)) (v:=undef) Y (by omega) ⟨λ_ h=>h.elim,λ_ h=>h.elim⟩⟩⟩
theorem RT.six(hg:Gd ops S gd rg)[tS:QJ P T]{kk:IntKind}{i:Int}{c:Nat}(hx:S.ev x=.sv (.v (.string (bs l))))(hy:S.ev y=.sv (.v (.int kk i)))(hd:d<S.n)(h:uH l i=some c)
  (next:RunT P C ops nd K rest (⟨rg++(aZ x++aZ y),[],[],⟨some (d,.sv (.v (.int .u8 (c:Nat)))),[],[]⟩⟩::acc) (S.set d (.sv (.v (.int .u8 (c:Nat)))))):RunT P C ops nd K (⟨some d,.index T x y,ty,pos,aft,gd⟩::rest) acc S:=
 RT.G3 hg (by intro c h;cases h) hx hy hd (λρ w h1 h2=>by
  unfold uH at h;cases hh:cZ l i with
  |none=>rw[hh]at h;cases h
  |some b=>
   rw[hh]at h;obtain⟨q1,q2⟩:=pJ hh;have q3:b.toNat=c:=Option.some.inj h;have q4:(bs l)[i.toNat]? =some b:=by rw[TC];exact q2
   simp[execOp,h1,h2,Instr.index,asIntOf,underlying,tS.h,q1,q4,q3]) next
end steps
section rows
variable {P:Program}{C:Ctx}{ops:Array Oper}{S:AS}{nd:Bool}{K:List Ac->AS->Prop}{rest:List Oper}{acc:List Ac}
variable {gd:Option (Nat×Bool)}{rg:List Nat}{d:Nat}{ty:TypeId}{pos:String}{aft:Array Edge}{x y z:Operand}{T U E0:TypeId}
variable {α:Type}{l l' k:List α}{e:α->List SV}{n by_:Nat}{zv:Value}
end rows
end
section
open Go.RowKit
def uI{α:Type}(l l':List α):Option Unit:=if l'.length=l.length then some ()else none
theorem lM{α:Type}{l l':List α}{u:Unit}(h:uI l l'=some u):l'.length=l.length:=by
 unfold uI at h;split at h
 ·assumption
 cases h
def TD{α:Type}(l:List α)(lo hi:Int):Option (Nat×Nat):=if 0<=lo/\lo<l.length/\lo<=hi/\hi<=l.length then some (lo.toNat,(hi-lo).toNat)else none
theorem LK{α:Type}{l:List α}{lo hi:Int}{o n:Nat}(h:TD l lo hi=some (o,n)):0<=lo/\lo<l.length/\lo<=hi/\hi<=l.length/\lo.toNat=o/\(hi-lo).toNat=n:=by
 unfold TD at h;split at h
 ·rename_i hh;obtain⟨q1,q2⟩:=Prod.mk.inj (Option.some.inj h);exact⟨hh.1,hh.2.1,hh.2.2.1,hh.2.2.2,q1,q2⟩
 cases h
def Oy(o n:Nat)(i:Int):Option Nat:=if 0<=i/\i<n then some (o+i.toNat)else none
theorem LL{o n j:Nat}{i:Int}(h:Oy o n i=some j):0<=i/\i<n/\o+i.toNat=j:=by
 unfold Oy at h;split at h
 ·rename_i hh;exact⟨hh.1,hh.2,Option.some.inj h⟩
 cases h
theorem cP.get:∀{l l':List SV} {k:Nat} {s':SV},cP l l'->l'[k]? =some s'->∃s,l[k]? =some s/\SV.imp s s'
 |x::_,y::_,0,_,h,e=>⟨x,Y,by simp at e;subst e;exact h.1⟩
 |_::l,_::l',k+1,_,h,e=>by simpa using cP.get (l:=l) (l':=l') h.2 (by simpa using e)
 |[],[],_,_,_,e=>by simp at e
 |[],_::_,_,_,h,_=>h.elim
 |_::_,[],_,_,h,_=>h.elim
theorem cP.len:∀{l l':List SV},cP l l'->l'.length=l.length
 |[],[],_=>rfl
 |_::_,_::_,h=>congrArg (· +1) (cP.len h.2)
 |[],_::_,h=>h.elim
 |_::_,[],h=>h.elim
theorem IM{α:Type}{e:α->List SV}{l:List α}{n:Nat}{M:Mem}{v:Value}(h:(slc n (l.map e)).h M v):l.length<=9223372036854775807:=by
 rcases h with⟨_,_,h⟩|⟨b,o,c,_,_,h,_⟩
 ·have:l=[]:=by simpa using h
  subst this;simp
 rwa[List.length_map]at h
theorem zK{α:Type}{e:α->List SV}{l:List α}{n:Nat}{M:Mem}{v:Value}(h:(ref [slc n (l.map e)]).h M v):l.length<=9223372036854775807:=by
 obtain⟨b,o,_,h⟩:=h;obtain⟨y,_,_,h⟩:=h 0 _ Y;exact IM h
theorem vf{l:List Nat}{i:Nat}(h:l.length<=i):l.getD i 0=0:=by simp[List.getD,List.getElem?_eq_none h]
theorem r9{l:List Nat}{i:Nat}(h:i<l.length):l[i]? =some (l.getD i 0):=by simp[List.getD,h]
theorem ij{α:Type}{l:List α}{d:α}{i:Nat}(h:l.length<=i):l.getD i d=d:=by simp[List.getD,List.getElem?_eq_none h]
theorem ew{α:Type}{l:List α}{d:α}{i:Nat}(h:i<l.length):l[i]? =some (l.getD i d):=by simp[List.getD,h]
theorem At{α β:Type}(a:List α)(b:List β)(i:Nat)(h:i<=max a.length b.length):(i<max a.length b.length/\i<a.length/\i<b.length)\/(i<max a.length b.length/\i<a.length/\b.length<=i)\/(i<max a.length b.length/\a.length<=i/\i<b.length)\/i=max a.length b.length:=by omega
section steps
variable {P:Program}{C:Ctx}{ops:Array Oper}{S:AS}{nd:Bool}{K:List Ac->AS->Prop}{rest:List Oper}{acc:List Ac}
variable {gd:Option (Nat×Bool)}{rg:List Nat}{d:Nat}{ty:TypeId}{pos:String}{aft:Array Edge}{x y z:Operand}{T U E0:TypeId}
variable {α:Type}{l l' k:List α}{e:α->List SV}{n by_:Nat}{zv:Value}
theorem TE{E1:TypeId}(h:l'.length=l.length):(⟨E1,n,l.length,l'.flatMap e⟩:Row)=TR E1 n e l':=by show _=Row.mk _ _ _ _;rw[h]
theorem RT.TF(hg:Gd ops S gd rg){f:FuncId}[dw P f]{g:Operand}{xs:Array Operand}{at_:Array TypeId}{args:List AV}{E1:TypeId}{res:AV}(hp:Hq P f args (TR E1 n e l) res (l'.flatMap e))(hlen:l'.length=l.length)(i:Nat)(hR:S.r i=.live (TR E1 n e l))(hrow:args.all AV.xA=true)(hres:res.xA=true)
  (hf:S.ev g=.sv (.v (.func (.func f) #[] #[]))) (hargs:uX S xs.toList (args.map (AV.yE i))) (hd:d<S.n)
  (next:RunT P C ops nd K rest (⟨rg++(aZ g++xs.toList.flatMap aZ),[],[i],⟨some (d,res.yE i),[],[(i,.live (TR E1 n e l'))]⟩⟩::acc) ((AS.bY [(i,.live (TR E1 n e l'))] S).set d (res.yE i))):RunT P C ops nd K (⟨some d,.call ⟨.value g,xs,at_⟩,ty,pos,aft,gd⟩::rest) acc S:=
 RT.WQ hg hp i hR hrow hres hf hargs hd (by rw[TE hlen];exact next)
theorem RT.W9(hg:Gd ops S gd rg)[tS:eE P T E0 n]{i o m:Nat}{E1:TypeId}{lo hi:Option Operand}(a b:Int)(hx:S.ev x=.row i)(hR:S.r i=.live (TR E1 n e l))(hlo:Ag S 0 lo a)(hhi:Ag S l.length hi b)(hd:d<S.n)(h:TD l a b=some (o,m))
  (next:RunT P C ops nd K rest (⟨rg++(aZ x++(ni lo++ni hi)),[],[i],⟨some (d,.nc i (o*n) m),[],[]⟩⟩::acc) (S.set d (.nc i (o*n) m))):RunT P C ops nd K (⟨some d,.slice T x lo hi none,ty,pos,aft,gd⟩::rest) acc S:=by
 obtain⟨h0,h1,h2,h3,h4,h5⟩:=LK h;exact RT.Tl hg (.row hx hR) a b hlo hhi hd h0 h1 h2 h3 (o*n) m (by rw[h4];omega) h5 next
theorem RT.TG(hg:Gd ops S gd rg){m:Nat}[tS:eE P T E0 m]{i o q:Nat}{c:Int}(hx:S.ev x=.nc i o q)(hd:d<S.n)(hc:(q:Int)=c)
  (next:RunT P C ops nd K rest (⟨rg++aZ x,[],[],⟨some (d,.sv (.v (.int .i64 c))),[],[]⟩⟩::acc) (S.set d (.sv (.v (.int .i64 c))))):RunT P C ops nd K (⟨some d,.call ⟨.builtin .len,#[x],#[T]⟩,ty,pos,aft,gd⟩::rest) acc S:=
 RT.WO hg hx hd (by rw[hc];exact next)
theorem RT.Fa(hg:Gd ops S gd rg)[tS:eE P T E0 n]{i o q j:Nat}{kk:IntKind}{v:Int}(hx:S.ev x=.nc i (o*n) q)(hy:S.ev y=.sv (.v (.int kk v)))(hd:d<S.n)(h:Oy o q v=some j)
  (next:RunT P C ops nd K rest (⟨rg++(aZ x++aZ y),[],[],⟨some (d,.iM i (j*n)),[],[]⟩⟩::acc) (S.set d (.iM i (j*n)))):RunT P C ops nd K (⟨some d,.indexAddr T x y,ty,pos,aft,gd⟩::rest) acc S:=by
 obtain⟨h0,h1,h2⟩:=LL h;exact RT.ixR hg (.nc hx) hy hd h0 h1 (j*n) (by rw[<-h2,Nat.add_mul]) next
end steps
def nR{S:Type}(body:Nat->S->Option S):Nat->S->Option S
 |0,s=>some s
 |n+1,s=>(nR body n s).bind (body n)
theorem nJ{S:Type}{body:Nat->S->Option S}:∀{n:Nat} {s e:S},nR body n s=some e->∃st:Nat->S,st 0=s/\(∀k,k<n->body k (st k)=some (st (k+1)))/\st n=e
 |0,s,e,h=>⟨λ_=>s,Y,λ_ h=>by omega,Option.some.inj h⟩
 |n+1,s,e,h=>by
  obtain⟨e1,h1,h2⟩:=bind_some (x:=nR body n s) h;obtain⟨st,q1,q2,q3⟩:=nJ h1;refine⟨λk=>if k=n+1 then e else st k,by simpa using q1,λk hk=>?_,by simp⟩;rcases Nat.lt_or_ge k n with hkn|hkn
  ·simpa[show k≠n+1 by omega,show k≠n by omega]using q2 k hkn
  obtain rfl:k=n:=by omega
  simpa[q3]using h2
theorem CL{S:Type}{body:Nat->S->Option S}(st:Nat->S):∀(n:Nat),(∀k,k<n->body k (st k)=some (st (k+1)))->nR body n (st 0)=some (st n)
 |0,_=>rfl
 |n+1,h=>by
  rw[nR,CL st n (λk hk=>h k (by omega))];exact h n (by omega)
def lN{S E:Type}(body:Nat->S->Option (S⊕E)):Nat->S->Option (S⊕E)
 |0,s=>some (.inl s)
 |n+1,s=>(lN body n s).bind λr=>match r with|.inl s'=>body n s'|.inr e=>some (.inr e)
theorem CM{S E:Type}{body:Nat->S->Option (S⊕E)}:∀{n:Nat} {s:S} {r:S⊕E},lN body n s=some r->∃(m:Nat) (st:Nat->S),st 0=s/\m<=n/\(∀k,k<m->body k (st k)=some (.inl (st (k+1))))/\((m=n/\r=.inl (st n))\/(m<n/\∃e,r=.inr e/\body m (st m)=some (.inr e)))
 |0,s,r,h=>⟨0,λ_=>s,Y,Nat.le_refl _,λ_ h=>by omega,.inl ⟨Y,(Option.some.inj h).symm⟩⟩
 |n+1,s,r,h=>by
  obtain⟨r1,h1,h2⟩:=bind_some (x:=lN body n s) h;obtain⟨m,st,q1,q2,q3,q4⟩:=CM h1;rcases q4 with⟨rfl,rfl⟩|⟨q4,e,rfl,q5⟩
  ·simp only at h2;cases r with
   |inr e=>exact⟨m,st,q1,by omega,q3,.inr ⟨by omega,e,Y,h2⟩⟩
   |inl s'=>
    refine⟨m+1,λk=>if k=m+1 then s' else st k,by simpa using q1,Nat.le_refl _,λk hk=>?_,.inl ⟨Y,by simp⟩⟩;rcases Nat.lt_or_ge k m with hkn|hkn
    ·simpa[show k≠m+1 by omega,show k≠m by omega]using q3 k hkn
    obtain rfl:k=m:=by omega
    simpa using h2
  simp only at h2;cases h2;exact⟨m,st,q1,by omega,q3,.inr ⟨by omega,e,Y,q5⟩⟩
theorem Dy{S E:Type}{body:Nat->S->Option (S⊕E)}{n m:Nat}{st:Nat->S}{r:S⊕E}(h:∀k,k<m->body k (st k)=some (.inl (st (k+1))))(hr:(m=n/\r=.inl (st n))\/(m<n/\∃e,r=.inr e/\body m (st m)=some (.inr e))){k:Nat}(hk:k<n)(hkm:k<=m):
  ∃y,body k (st k)=some y/\(∀s',y=.inl s'->k+1<=m/\s'=st (k+1))/\∀e',y=.inr e'->r=.inr e':=by
 rcases Nat.lt_or_ge k m with q|q
 ·exact⟨_,h k q,(λs' e=>⟨q,by cases e;rfl⟩),(λe' e=>by cases e)⟩
 obtain rfl:k=m:=by omega
 rcases hr with⟨rfl,_⟩|⟨_,e,rfl,he⟩
 ·omega
 exact⟨_,he,(λs' e=>by cases e),(λe' q=>by cases q;rfl)⟩
theorem Fb{S E:Type}{body:Nat->S->Option (S⊕E)}{n m:Nat}{st:Nat->S}{r:S⊕E}(hr:(m=n/\r=.inl (st n))\/(m<n/\∃e,r=.inr e/\body m (st m)=some (.inr e)))(h:n<=m):r=.inl (st n):=by
 rcases hr with⟨_,q⟩|⟨q,_⟩
 ·exact q
 omega
theorem xE{S E:Type}{body:Nat->S->Option (S⊕E)}{n:Nat}{s:S}{r:S⊕E}(h:lN body n s=some r):∃(m:Nat) (st:Nat->S),st 0=s/\(∀k,k<n->k<=m->∃y,body k (st k)=some y/\(∀s',y=.inl s'->k+1<=m/\s'=st (k+1))/\∀e',y=.inr e'->r=.inr e')/\(n<=m->r=.inl (st n)):=by
 obtain⟨m,st,q1,q2,q3,q4⟩:=CM h;exact⟨m,st,q1,λk hk hm=>Dy q3 q4 hk hm,λhn=>Fb q4 hn⟩
end
section
open Go.RowKit
def LM(es:List (Value×Value)):SV where
 h M v:=∃b,v=.map (some b)/\M b 0=some (.tuple ⟨es.map λp=>.tuple #[p.1,p.2]⟩)
 mono hM h:=by obtain⟨b,e,h⟩:=h;exact⟨b,e,hM _ _ _ h⟩
class IN (P:Program) (T:TypeId) (k:outParam TypeId) (e:outParam TypeId):Prop where
 u:P.underlying T=some (.map k e)
def CN(k:IntKind)(n:Int):List (Value×Value)->Option Value
 |[]=>none
 |(.int k' m,v)::l=>if k=k' then(if n=m then some v else CN k n l)else none
 |_::_=>none
theorem uJ{k:IntKind}{n:Int}{v:Value}:∀(es:List MapEntry) (i:Nat),CN k n (es.map λe=>(e.key,e.val))=some v->∃j,Instr.findNow (.int k) (.int k n) es i=some (some (j,v))
 |[],_,h=>by simp[CN]at h
 |⟨key,val,born⟩::es,i,h=>by
  cases key with
  |int k' m=>
   simp only[List.map_cons,CN]at h;by_cases hk:k=k'
   ·subst hk;rw[if_pos rfl]at h;by_cases hn:n=m
    ·subst hn;rw[if_pos rfl]at h;cases h;exact⟨i,by simp[Instr.findNow,Instr.sameNow]⟩
    rw[if_neg hn]at h;obtain⟨j,hj⟩:=uJ es (i+1) h;have hb:(n==m)=false:=by simp[hn]
    exact⟨j,by simp[Instr.findNow,Instr.sameNow,hb,hj]⟩
   rw[if_neg hk]at h;cases h
  |_=>simp[CN]at h
theorem IP:∀(l:List (Value×Value)) (m:List MapEntry),l.map (λp=>Value.tuple #[p.1,p.2])=m.map (λe=>Value.tuple #[e.key,e.val])->m.map (λe=>(e.key,e.val))=l
 |[],[],_=>rfl
 |[],_::_,h=>by simp at h
 |_::_,[],h=>by simp at h
 |(p,q)::l,e::m,h=>by
  simp only[List.map_cons,List.cons.injEq,Value.tuple.injEq]at h⊢;refine⟨?_,IP l m h.2⟩;have:=h.1;simp at this;rw[this.1,this.2]
theorem LN{es:Array MapEntry}{l:List (Value×Value)}(h:(⟨l.map λp=>.tuple #[p.1,p.2]⟩:Array Value)=OI es):es.toList.map (λe=>(e.key,e.val))=l:=
 IP l es.toList (congrArg Array.toList h)
theorem getM{P:Program}{w:World}{r:Nat}{es:Array MapEntry}{ck:Nat}(hb:w.heap[r]? =some (.map es ck)):(getObj r).run P w=.ok (.map es ck) w:=by simp[getObj,Sem.run,hb]
theorem abh{P:Program}{w:World}{r:Nat}{es:Array MapEntry}{ck:Nat}(o:Obj)(hb:w.heap[r]? =some (.map es ck)):(setObj r o).run P w=.ok () {w with heap:=w.heap.setIfInBounds r o}:=by simp[setObj,Sem.run,hb]
theorem ckM{P:Program}{w:World}{kt:TypeId}{k:IntKind}[tI:me P kt k]{n:Int}(bb:Bool):(Instr.checkKey bb 10000 kt (.int k n)).run P w=.ok () w:=by
 rw[show(10000:Nat)=9999+1 from rfl,Instr.checkKey];simp[underlying,tI.h]
theorem LO{M:Mem}:∀l:List Value,SV.dZ M (l.map SV.v) l
 |[]=>trivial
 |_::l=>⟨Y,LO l⟩
section steps
variable {P:Program}{C:Ctx}{ops:Array Oper}{S:AS}{nd:Bool}{K:List Ac->AS->Prop}{rest:List Oper}{acc:List Ac}
variable {gd:Option (Nat×Bool)}{rg:List Nat}{d:Nat}{ty:TypeId}{pos:String}{aft:Array Edge}{x y z:Operand}{T U E0:TypeId}
theorem RT.look(hg:Gd ops S gd rg){kt et:TypeId}[tM:IN P T kt et]{k:IntKind}[tI:me P kt k]{es:List (Value×Value)}{n:Int}(cs:List Value)(hx:S.ev x=.sv (LM es))(hy:S.ev y=.sv (.v (.int k n)))(hl:CN k n es=some (.agg ⟨cs⟩))(hd:d<S.n)
  (next:RunT P C ops nd K rest (⟨rg++(aZ x++aZ y),[],[],⟨some (d,.sv (.agg (cs.map SV.v))),[],[]⟩⟩::acc) (S.set d (.sv (.agg (cs.map SV.v))))):RunT P C ops nd K (⟨some d,.lookup T x y false,ty,pos,aft,gd⟩::rest) acc S:=
 RT.value hg (aZ x++aZ y) [] [] (.sv (.agg (cs.map SV.v))) hd (by intro c h;cases h) (λS' ht _ _ E a w h=>by
  have h1:=h.ev x;rw[bz (λ_ h=>List.mem_append_left _ h) ht,hx]at h1;have h2:a.eval y=.int k n:=by have h2:=h.ev y;rw[bz (λ_ h=>List.mem_append_right _ h) ht,hy]at h2;exact h2
  obtain⟨b,e,hb⟩:=h1;obtain⟨ms,ck,hm,he⟩:=h.c8 _ _ _ hb;have he:=LN he;rw[<-he]at hl;obtain⟨j,hj⟩:=uJ ms.toList 0 hl;refine⟨.agg ⟨cs⟩,?_,⟨cs,Y,?_⟩,eU⟩
  ·have hfk:(Instr.findKey kt (.int k n) ms.toList).run P w=.ok (some (j,.agg ⟨cs⟩)) w:=by
    simp[Instr.findKey,underlying,tI.h,hj]
   simp[execOp,e,h2,Instr.lookup,underlying,tM.u,getM hm,ckM,hfk]
  exact LO cs) next
def si(w:World)(ms:Array MapEntry)(ck:Nat):World:=w.alloc (.map ms ck)
theorem xF(w:World)(ms:Array MapEntry)(ck:Nat):(si w ms ck).heap[w.heap.size]? =some (.map ms ck):=by show(w.heap.push _)[w.heap.size]? =_;simp
theorem run_make{d:Option Nat}{ρ:Operand->Value}{w:World}:(execOp ρ ⟨d,.makeMap T none,ty,pos,aft,none⟩).run P w=.ok (.value (.map (some w.heap.size))) (si w #[] 0):=by
 simp[execOp,Instr.makeMap,si]
theorem zL{d:Option Nat}{kt et:TypeId}[tM:IN P T kt et]{k:IntKind}[tI:me P kt k]{ρ:Operand->Value}{w:World}{ms:Array MapEntry}{ck:Nat}{n:Int}{v:Value}(hx:ρ x=.map (some w.heap.size))(hy:ρ y=.int k n)(hz:ρ z=v)
  (hf:Instr.findNow (.int k) (.int k n) ms.toList 0=some none):(execOp ρ ⟨d,.insert T x y z,ty,pos,aft,none⟩).run P (si w ms ck)=.ok .skip (si w (ms.push ⟨.int k n,v,ck⟩) (ck+1)):=by
 have hfk:(Instr.findKey kt (.int k n) ms.toList).run P (si w ms ck)=.ok none (si w ms ck):=by
  simp[Instr.findKey,underlying,tI.h,hf]
 have abj:∀o:Obj,{si w ms ck with heap:=(si w ms ck).heap.setIfInBounds w.heap.size o}=w.alloc o:=by
  intro o;simp only[si,World.alloc];congr 1;apply Array.ext';simp
 simp[execOp,hx,hy,hz,Instr.mapUpdate,underlying,tM.u,getM (xF w ms ck),ckM,hfk,abh _ (xF w ms ck)];exact abj _
theorem zM{d:Option Nat}{z0:Value}[tP:iB P U [(0,1)] [z0]]{ρ:Operand->Value}{w:World}{v:Value}(hx:ρ x=v)(hv:v.oneCell'=true):(execOp ρ ⟨d,.build U #[(0,x)],ty,pos,aft,none⟩).run P w=.ok (.value (.agg #[v])) w:=by
 have hu:=tP.h;cases hT:P.underlying U with
 |none=>rw[hT]at hu;cases hu
 |some u=>
  rw[hT]at hu;cases u with
  |struct fs=>
   simp only at hu;have hz:(zeroValue U).run P w=.ok (.agg ⟨[z0]⟩) w:=iu.run (t:=⟨tP.hz⟩) w;have hm:(fs.mapM (λf=>do pure (f.offset,<-sizeOf f.type):Field->Sem (Nat×Nat))).run P w=.ok #[(0,1)] w:=by
    have:=rW (P:=P) (w:=w) hu;rw[<-Array.toArray_toList (xs:=fs),List.mapM_toArray];rw[Sem.run_map,this];rfl
   simp only[execOp,Instr.build,underlying];simp only[Sem.run_bind,hz,Result.andThen_ok,run_program,hT,Sem.run_pure,Value.cells];have hm':(Array.mapM (λf=>do
     let __do_lift<-sizeOf f.type
     pure (f.offset,__do_lift)) fs:Sem _).run P w=.ok #[(0,1)] w:=hm
   simp only[hm',Result.andThen_ok];have h1':Instr.fill (λi=>(#[(0,1)]:Array (Nat×Nat))[i]?) ⟨[z0]⟩ [(0,v)]=some ⟨[v]⟩:=by
    simp[Instr.fill,iF hv]
    try rfl
   have e4:(Array.map (λx=>match x with|(i,x)=>(i,ρ x)) #[(0,x)]).toList=[(0,v)]:=by simp[hx]
   simp only[e4,h1',Sem.run_pure,Result.andThen_ok]
  |_=>cases hu
theorem O5{Q:Exit->AS->Prop}{id:Nat}{T U kt et t0:TypeId}[tM:IN P T kt et]{k:IntKind}[tI:me P kt k]{z0:Value}[tP:iB P U [(0,1)] [z0]]{f1 f2 f3 f4:FuncId}{n1 n2 n3 n4:Int}
  {p0 p1 p2 p3 p4 p5 p6 p7 p8 p9 p10:String} {a0 a1 a2 a3 a4 a5 a6 a7 a8 a9 TH:Array Edge} {u1 u2 u3 u4 u5 u6 u7 u8 u9:TypeId} (hn:7<=S.n)
  (h2:Instr.findNow (.int k) (.int k n2) [⟨.int k n1,.agg #[.func (.func f1) #[] #[]],0⟩] 0=some none)
  (h3:Instr.findNow (.int k) (.int k n3) [⟨.int k n1,.agg #[.func (.func f1) #[] #[]],0⟩,⟨.int k n2,.agg #[.func (.func f2) #[] #[]],1⟩] 0=some none)
  (h4:Instr.findNow (.int k) (.int k n4) [⟨.int k n1,.agg #[.func (.func f1) #[] #[]],0⟩,⟨.int k n2,.agg #[.func (.func f2) #[] #[]],1⟩,⟨.int k n3,.agg #[.func (.func f3) #[] #[]],2⟩] 0=some none)
  (hQ:∀S',S'.t 0=.sv (LM [(.int k n1,.agg #[.func (.func f1) #[] #[]]),(.int k n2,.agg #[.func (.func f2) #[] #[]]),(.int k n3,.agg #[.func (.func f3) #[] #[]]),(.int k n4,.agg #[.func (.func f4) #[] #[]])])->Q .normal S'):
  Ok P C (.region id #[⟨some 1,.makeMap T none,t0,p0,a0,none⟩,⟨some 2,.build U #[(0,.func f1)],u1,p1,a1,none⟩,⟨none,.insert T (.tmp 1) (.const (.int k n1)) (.tmp 2),u2,p2,a2,none⟩,
   ⟨some 3,.build U #[(0,.func f2)],u3,p3,a3,none⟩,⟨none,.insert T (.tmp 1) (.const (.int k n2)) (.tmp 3),u4,p4,a4,none⟩,⟨some 4,.build U #[(0,.func f3)],u5,p5,a5,none⟩,⟨none,.insert T (.tmp 1) (.const (.int k n3)) (.tmp 4),u6,p6,a6,none⟩,
   ⟨some 5,.build U #[(0,.func f4)],u7,p7,a7,none⟩,⟨none,.insert T (.tmp 1) (.const (.int k n4)) (.tmp 5),u8,p8,a8,none⟩,⟨some 6,.move (.tmp 1),u9,p9,a9,none⟩,⟨some 0,.assign (.tmp 6),u9,p10,TH,none⟩] false) S Q:=by
 rintro a w ⟨E,h⟩;refine wpIn_region ?_;show wpOpsIn _ _ _ _ _ [0,1,2,3,4,5,6,7,8,9,10] a w;have hS:∀(S:AS) (d:Nat) (x:AV),(S.set d x).n=S.n:=λ_ _ _=>rfl;rw[wpOpsIn_cons];refine cx (C:=C) rfl rfl (cq (C:=C) (by intro c h;cases h) run_make ?_);have g1:=h.put (d:=1) (x:=.sv (.v (.map (some w.heap.size)))) (v:=.map (some w.heap.size)) Y (by omega) eU;show wpOpsIn _ _ _ _ _ _ (a.put (some 1) _) _;generalize a.put (some 1) (.map (some w.heap.size))=b1 at g1⊢;rw[wpOpsIn_cons];refine cx (C:=C) rfl rfl (cq (C:=C) (by intro c h;cases h) (zM rfl rfl) ?_);have g2:=g1.put (d:=2) (x:=.sv (.v (.agg #[.func (.func f1) #[] #[]]))) (v:=.agg #[.func (.func f1) #[] #[]]) Y (by rw[hS];omega) eU;show wpOpsIn _ _ _ _ _ _ (b1.put (some 2) (.agg #[.func (.func f1) #[] #[]])) _;generalize b1.put (some 2) (.agg #[.func (.func f1) #[] #[]])=b2 at g2⊢;rw[wpOpsIn_cons];refine cx (C:=C) rfl rfl (cq (C:=C) (by intro c h;cases h) (zL (k:=k) (n:=n1) (v:=.agg #[.func (.func f1) #[] #[]]) (g2.ev (.tmp 1)) rfl (g2.ev (.tmp 2)) rfl) ?_);show wpOpsIn _ _ _ _ _ _ (b2.put none undef) _;rw[show b2.put none undef=b2 from rfl,wpOpsIn_cons];refine cx (C:=C) rfl rfl (cq (C:=C) (by intro c h;cases h) (zM rfl rfl) ?_)
 have g3:=g2.put (d:=3) (x:=.sv (.v (.agg #[.func (.func f2) #[] #[]]))) (v:=.agg #[.func (.func f2) #[] #[]]) Y (by rw[hS,hS];omega) eU;show wpOpsIn _ _ _ _ _ _ (b2.put (some 3) (.agg #[.func (.func f2) #[] #[]])) _;generalize b2.put (some 3) (.agg #[.func (.func f2) #[] #[]])=b3 at g3⊢;rw[wpOpsIn_cons];refine cx (C:=C) rfl rfl (cq (C:=C) (by intro c h;cases h) (zL (k:=k) (n:=n2) (v:=.agg #[.func (.func f2) #[] #[]]) (g3.ev (.tmp 1)) rfl (g3.ev (.tmp 3)) (by simpa using h2)) ?_);show wpOpsIn _ _ _ _ _ _ (b3.put none undef) _;rw[show b3.put none undef=b3 from rfl,wpOpsIn_cons];refine cx (C:=C) rfl rfl (cq (C:=C) (by intro c h;cases h) (zM rfl rfl) ?_);have g4:=g3.put (d:=4) (x:=.sv (.v (.agg #[.func (.func f3) #[] #[]]))) (v:=.agg #[.func (.func f3) #[] #[]]) Y (by rw[hS,hS,hS];omega) eU;show wpOpsIn _ _ _ _ _ _ (b3.put (some 4) (.agg #[.func (.func f3) #[] #[]])) _;generalize b3.put (some 4) (.agg #[.func (.func f3) #[] #[]])=b4 at g4⊢;rw[wpOpsIn_cons];refine cx (C:=C) rfl rfl (cq (C:=C) (by intro c h;cases h) (zL (k:=k) (n:=n3) (v:=.agg #[.func (.func f3) #[] #[]]) (g4.ev (.tmp 1)) rfl (g4.ev (.tmp 4)) (by simpa using h3)) ?_);show wpOpsIn _ _ _ _ _ _ (b4.put none undef) _
 rw[show b4.put none undef=b4 from rfl,wpOpsIn_cons];refine cx (C:=C) rfl rfl (cq (C:=C) (by intro c h;cases h) (zM rfl rfl) ?_);have g5:=g4.put (d:=5) (x:=.sv (.v (.agg #[.func (.func f4) #[] #[]]))) (v:=.agg #[.func (.func f4) #[] #[]]) Y (by rw[hS,hS,hS,hS];omega) eU;show wpOpsIn _ _ _ _ _ _ (b4.put (some 5) (.agg #[.func (.func f4) #[] #[]])) _;generalize b4.put (some 5) (.agg #[.func (.func f4) #[] #[]])=b5 at g5⊢;rw[wpOpsIn_cons];refine cx (C:=C) rfl rfl (cq (C:=C) (by intro c h;cases h) (zL (k:=k) (n:=n4) (v:=.agg #[.func (.func f4) #[] #[]]) (g5.ev (.tmp 1)) rfl (g5.ev (.tmp 5)) (by simpa using h4)) ?_);show wpOpsIn _ _ _ _ _ _ (b5.put none undef) _;have e1:b5.eval (.tmp 1)=.map (some w.heap.size):=g5.ev (.tmp 1);obtain⟨ms,hms⟩:∃ms:Array MapEntry,(((((#[]:Array MapEntry).push ⟨.int k n1,.agg #[.func (.func f1) #[] #[]],0⟩).push ⟨.int k n2,.agg #[.func (.func f2) #[] #[]],0+1⟩).push ⟨.int k n3,.agg #[.func (.func f3) #[] #[]],0+1+1⟩).push ⟨.int k n4,.agg #[.func (.func f4) #[] #[]],0+1+1+1⟩)=ms:=⟨_,Y⟩;rw[hms];have hno:∀o,E.M w.heap.size o=none:=λo=>by
  cases e:E.M w.heap.size o with
  |none=>rfl
  |some v=>have:=mS h.c8 e;omega
 have g6:=g5.grow (M':=λb o=>if b=w.heap.size/\o=0 then some (.tuple (OI ms))else E.M b o) (w':=si w ms (0+1+1+1+1)) (λb o v e=>by
   have:b≠w.heap.size:=by rintro rfl;rw[hno o]at e;cases e
   simp[this,e]) (λb o v e=>by
   by_cases hb:b=w.heap.size/\o=0
   ·exact .inr (by omega)
   ·simp only[if_neg hb]at e;exact .inl e) (λb o v e=>by
   by_cases hb:b=w.heap.size/\o=0
   ·simp only[if_pos hb]at e;obtain⟨rfl,rfl⟩:=hb;cases e;exact⟨ms,_,xF w ms _,Y⟩
   simp only[if_neg hb]at e;have hlt:=mS h.c8 e;refine(h.c8 b o v e).same ?_;show(w.heap.push _)[b]? =_;rw[Array.getElem?_push,if_neg (by omega)]) ((Below.refl _ _).alloc (Nat.le_refl _) _)
 have hm:∀X:Env,X.M w.heap.size 0=some (.tuple (OI ms))->(LM [(.int k n1,.agg #[.func (.func f1) #[] #[]]),(.int k n2,.agg #[.func (.func f2) #[] #[]]),(.int k n3,.agg #[.func (.func f3) #[] #[]]),(.int k n4,.agg #[.func (.func f4) #[] #[]])]).h X.M (.map (some w.heap.size)):=λX hX=>by
  refine⟨_,Y,?_⟩;rw[hX,<-hms];rfl
 have g7:=g6.put (d:=6) (x:=.sv (.v (.map (some w.heap.size)))) (v:=.map (some w.heap.size)) Y (by rw[hS,hS,hS,hS,hS];omega) eU;rw[show b5.put none undef=b5 from rfl,wpOpsIn_cons];refine cx (C:=C) rfl rfl (cq (C:=C) (by intro c h;cases h) (r:=.ok (.value (.map (some w.heap.size))) _) (by show Result.ok (Next.value (b5.eval (.tmp 1))) _=_;rw[e1]) ?_);show wpOpsIn _ _ _ _ _ _ (b5.put (some 6) (.map (some w.heap.size))) _;generalize b5.put (some 6) (.map (some w.heap.size))=b6 at g7⊢;have e6:b6.eval (.tmp 6)=.map (some w.heap.size):=g7.ev (.tmp 6);have g8:=g7.put (d:=0) (x:=.sv (LM [(.int k n1,.agg #[.func (.func f1) #[] #[]]),(.int k n2,.agg #[.func (.func f2) #[] #[]]),(.int k n3,.agg #[.func (.func f3) #[] #[]]),(.int k n4,.agg #[.func (.func f4) #[] #[]])])) (v:=.map (some w.heap.size)) (hm _ (by simp)) (by rw[hS,hS,hS,hS,hS,hS];omega) eU;rw[wpOpsIn_cons];refine cx (C:=C) rfl rfl (cq (C:=C) (by intro c h;cases h) (r:=.ok (.value (.map (some w.heap.size))) _) (by show Result.ok (Next.value (b6.eval (.tmp 6))) _=_;rw[e6]) ?_);show wpOpsIn _ _ _ _ _ _ (b6.put (some 0) (.map (some w.heap.size))) _;rw[wpOpsIn];exact⟨_,hQ _ Y,_,g8⟩
end steps
theorem kp{P:Program}{b:Frame}{a:Act}{k:List Item}{cs:List Frame}{w:World}{c:Code}:step P (lone (b.atR a (.code (.scope c)::k)) cs w)=.next (lone (b.atR a (.code c:: .inScope c::k)) cs w):=
 step_lone_go (by simp[stepG,stepG.exec,Frame.atR])
theorem B7{P:Program}{b:Frame}{a:Act}{k:List Item}{cs:List Frame}{w:World}{c:Code}:step P (lone (b.atR a (.inScope c::k)) cs w)=.next (lone (b.atR a k) cs w):=
 step_lone_go (by simp[stepG,stepG.exec,Frame.atR])
theorem Hv{F:Fence}{n:Nat}{P:Program}{Q:Exit->Act->World->Prop}{a:Act}{w:World}{c:Code}(h:c.wpIn F n P (Exit.noGoto Q) a w):(Code.scope c).wpIn F n P Q a w:=by
 intro b k cs hro hb hr;have h0:(lone (b.atR a (.code (.scope c)::k)) cs w).fenced P F:=fenced_calm hb hr Y;obtain⟨e,a₁,w₁,hq,JX⟩:=h b (.inScope c::k) cs hro hb hr;cases e with
 |normal=>exact⟨.normal,a₁,w₁,hq,.head h0 kp (StepsIn.trans JX (.one (fenced_calm hb hr Y) B7))⟩
 |exit id=>
  have hx:exitTo id (.inScope c::k)=exitTo id k:=by simp[exitTo]
  exact⟨.exit id,a₁,w₁,hq,λk' hk=>.head h0 kp (JX.1 k' (by rw[hx];exact hk)),
   λhr' hk=>let ⟨k₁,h1,h2⟩:=JX.2 hr' (by rw[hx];exact hk);⟨k₁,h1,.head h0 kp h2⟩⟩
 |goto l=>exact hq.elim
 |ret=>exact⟨_,a₁,w₁,hq,.of_steps (.one h0 kp) JX⟩
 |panic ch=>exact⟨_,a₁,w₁,hq,.of_steps (.one h0 kp) JX⟩
 |outgrown=>exact⟨_,a₁,w₁,hq,.of_steps (.one h0 kp) JX⟩
def O6(Q:Exit->AS->Prop):Exit->AS->Prop
 |.goto _,_=>False
 |e,S=>Q e S
section scope
variable {P:Program}{C:Ctx}{S:AS}{Q:Exit->AS->Prop}
theorem O6.n(h:Q .normal S):O6 Q .normal S:=h
theorem O6.r(h:Q .ret S):O6 Q .ret S:=h
theorem LP{c:Code}(h:Ok P C c S (O6 Q)):Ok P C (.scope c) S Q:=λa w hs=>by
 refine Hv (wpIn_mono (h a w hs) ?_);rintro e a' w' ⟨S',q,hh⟩;cases e<;>first|exact⟨S',q,hh⟩|exact q.elim
theorem LQ{l:Nat}(h:Q .normal S):Ok P C (.label l) S Q:=λ_ _ hs=>wpIn_label ⟨S,h,hs⟩
end scope
end
end Go.Fw
namespace Go.Proofs.YtningmnklfpfjaaGreat
section
open Go.Fw
open Go.Proofs
noncomputable abbrev ah:=Tryz.prog
instance:me ah 2 .i64:=⟨by kernel_rfl⟩
instance:pH ah 2:=⟨by kernel_rfl,by kernel_rfl⟩
instance:ju ah 2 1 8 (.int .i64 0):=⟨by kernel_rfl,by rfl,by decide,by decide⟩
instance:me ah 3 .i64:=⟨by kernel_rfl⟩
instance:pH ah 3:=⟨by kernel_rfl,by kernel_rfl⟩
instance:iu ah 3 (.int .i64 0):=⟨by kernel_rfl⟩
instance:ju ah 3 1 8 (.int .i64 0):=⟨by kernel_rfl,by rfl,by decide,by decide⟩
instance:Dl ah 4:=⟨by kernel_rfl⟩
instance:pH ah 4:=⟨by kernel_rfl,by kernel_rfl⟩
instance:iu ah 4 (.bool false):=⟨by kernel_rfl⟩
instance:me ah 5 .u8:=⟨by kernel_rfl⟩
instance:QJ ah 9:=⟨by kernel_rfl⟩
instance:pH ah 22:=⟨by kernel_rfl,by kernel_rfl⟩
instance:ju ah 22 1 24 (.slice none 0 0):=⟨by kernel_rfl,by rfl,by decide,by decide⟩
instance:eE ah 22 23 1:=⟨by kernel_rfl,by kernel_rfl⟩
instance:pH ah 23:=⟨by kernel_rfl,by kernel_rfl⟩
instance:iu ah 23 (.slice none 0 0):=⟨by kernel_rfl⟩
instance:ju ah 23 1 24 (.slice none 0 0):=⟨by kernel_rfl,by rfl,by decide,by decide⟩
instance:eE ah 23 43 4:=⟨by kernel_rfl,by kernel_rfl⟩
instance:zC ah 25 4:=⟨by kernel_rfl,by kernel_rfl⟩
instance:iu ah 25 (.agg #[.int .i64 0,.slice none 0 0,.slice none 0 0,.slice none 0 0]):=⟨by kernel_rfl⟩
instance:iB ah 25 [(0,1),(1,1),(2,1),(3,1)] [.int .i64 0,.slice none 0 0,.slice none 0 0,.slice none 0 0]:=⟨by kernel_rfl,by kernel_rfl,by rfl⟩
instance:xm ah 25 0 0 3:=⟨by kernel_rfl⟩
instance:xm ah 25 1 1 22:=⟨by kernel_rfl⟩
instance:xm ah 25 2 2 22:=⟨by kernel_rfl⟩
instance:xm ah 25 3 3 23:=⟨by kernel_rfl⟩
instance:eE ah 26 38 2:=⟨by kernel_rfl,by kernel_rfl⟩
instance:pH ah 30:=⟨by kernel_rfl,by kernel_rfl⟩
instance:ju ah 38 2 16 (.agg #[.int .i64 0,.int .i64 0]):=⟨by kernel_rfl,by rfl,by decide,by decide⟩
instance:xm ah 38 0 0 3:=⟨by kernel_rfl⟩
instance:xm ah 38 1 1 3:=⟨by kernel_rfl⟩
instance:pH ah 39:=⟨by kernel_rfl,by kernel_rfl⟩
instance:iu ah 39 (.slice none 0 0):=⟨by kernel_rfl⟩
instance:eE ah 39 130 1:=⟨by kernel_rfl,by kernel_rfl⟩
instance:zC ah 41 2:=⟨by kernel_rfl,by kernel_rfl⟩
instance:EP ah 41:=⟨λw=>⟨1,zC.size (T:=41) (n:=2) w⟩⟩
instance:iu ah 41 (.agg #[.bool false,.slice none 0 0]):=⟨by kernel_rfl⟩
instance:ju ah 41 2 32 (.agg #[.bool false,.slice none 0 0]):=⟨by kernel_rfl,by rfl,by decide,by decide⟩
instance:iB ah 41 [(0,1),(1,1)] [.bool false,.slice none 0 0]:=⟨by kernel_rfl,by kernel_rfl,by rfl⟩
instance:xm ah 41 0 0 4:=⟨by kernel_rfl⟩
instance:xm ah 41 1 1 39:=⟨by kernel_rfl⟩
instance:zC ah 43 4:=⟨by kernel_rfl,by kernel_rfl⟩
instance:iu ah 43 (.agg #[.bool false,.slice none 0 0,.bool false,.slice none 0 0]):=⟨by kernel_rfl⟩
instance:ju ah 43 4 64 (.agg #[.bool false,.slice none 0 0,.bool false,.slice none 0 0]):=⟨by kernel_rfl,by rfl,by decide,by decide⟩
instance:iB ah 43 [(0,2),(2,2)] [.bool false,.slice none 0 0,.bool false,.slice none 0 0]:=⟨by kernel_rfl,by kernel_rfl,by rfl⟩
instance:xm ah 43 0 0 41:=⟨by kernel_rfl⟩
instance:xm ah 43 1 2 41:=⟨by kernel_rfl⟩
instance:pH ah 45:=⟨by kernel_rfl,by kernel_rfl⟩
instance:eE ah 45 3 1:=⟨by kernel_rfl,by kernel_rfl⟩
instance:iB ah 79 [(0,1),(1,1),(2,1),(3,1),(4,1)] [.bool false,.int .i64 0,.slice none 0 0,.slice none 0 0,.slice none 0 0]:=⟨by kernel_rfl,by kernel_rfl,by rfl⟩
instance:xm ah 79 0 0 4:=⟨by kernel_rfl⟩
instance:xm ah 79 1 1 3:=⟨by kernel_rfl⟩
instance:xm ah 79 2 2 22:=⟨by kernel_rfl⟩
instance:xm ah 79 3 3 45:=⟨by kernel_rfl⟩
instance:xm ah 79 4 4 22:=⟨by kernel_rfl⟩
instance:pH ah 89:=⟨by kernel_rfl,by kernel_rfl⟩
instance:zC ah 97 4:=⟨by kernel_rfl,by kernel_rfl⟩
instance:iu ah 97 (.agg #[.int .i64 0,.int .i64 0,.int .i64 0,.int .i64 0]):=⟨by kernel_rfl⟩
instance:iB ah 97 [(0,1),(1,1),(2,1),(3,1)] [.int .i64 0,.int .i64 0,.int .i64 0,.int .i64 0]:=⟨by kernel_rfl,by kernel_rfl,by rfl⟩
instance:xm ah 97 0 0 3:=⟨by kernel_rfl⟩
instance:xm ah 97 1 1 3:=⟨by kernel_rfl⟩
instance:xm ah 97 2 2 3:=⟨by kernel_rfl⟩
instance:xm ah 97 3 3 3:=⟨by kernel_rfl⟩
instance:pH ah 106:=⟨by kernel_rfl,by kernel_rfl⟩
instance:pH ah 117:=⟨by kernel_rfl,by kernel_rfl⟩
instance:ju ah 117 1 24 (.slice none 0 0):=⟨by kernel_rfl,by rfl,by decide,by decide⟩
instance:eE ah 117 2 1:=⟨by kernel_rfl,by kernel_rfl⟩
instance:zC ah 124 1:=⟨by kernel_rfl,by kernel_rfl⟩
instance:iu ah 124 (.agg #[.nilFunc]):=⟨by kernel_rfl⟩
instance:iB ah 124 [(0,1)] [.nilFunc]:=⟨by kernel_rfl,by kernel_rfl,by rfl⟩
instance:xm ah 124 0 0 89:=⟨by kernel_rfl⟩
instance:me ah 128 .u64:=⟨by kernel_rfl⟩
instance:pH ah 128:=⟨by kernel_rfl,by kernel_rfl⟩
instance:me ah 130 .u32:=⟨by kernel_rfl⟩
instance:pH ah 130:=⟨by kernel_rfl,by kernel_rfl⟩
instance:ju ah 130 1 4 (.int .u32 0):=⟨by kernel_rfl,by rfl,by decide,by decide⟩
instance:pH ah 144:=⟨by kernel_rfl,by kernel_rfl⟩
instance:iu ah 144 (.nilFunc):=⟨by kernel_rfl⟩
instance:eE ah 155 22 1:=⟨by kernel_rfl,by kernel_rfl⟩
instance:eE ah 156 117 1:=⟨by kernel_rfl,by kernel_rfl⟩
instance:eE ah 167 41 2:=⟨by kernel_rfl,by kernel_rfl⟩
instance:pH ah 174:=⟨by kernel_rfl,by kernel_rfl⟩
instance:iB ah 176 [(0,1)] [.nilFunc]:=⟨by kernel_rfl,by kernel_rfl,by rfl⟩
instance:xm ah 176 0 0 174:=⟨by kernel_rfl⟩
instance:IN ah 177 5 176:=⟨by kernel_rfl⟩
instance:me ah 179 .u64:=⟨by kernel_rfl⟩
instance:pH ah 186:=⟨by kernel_rfl,by kernel_rfl⟩
instance:iu ah 186 (.nilFunc):=⟨by kernel_rfl⟩
instance:dw ah 9:=⟨by kernel_rfl⟩
instance:dw ah 10:=⟨by kernel_rfl⟩
instance:dw ah 12:=⟨by kernel_rfl⟩
instance:dw ah 14:=⟨by kernel_rfl⟩
instance:dw ah 17:=⟨by kernel_rfl⟩
instance:dw ah 19:=⟨by kernel_rfl⟩
instance:dw ah 21:=⟨by kernel_rfl⟩
instance:dw ah 24:=⟨by kernel_rfl⟩
instance:dw ah 28:=⟨by kernel_rfl⟩
instance:dw ah 33:=⟨by kernel_rfl⟩
instance:dw ah 34:=⟨by kernel_rfl⟩
instance:dw ah 35:=⟨by kernel_rfl⟩
instance:dw ah 36:=⟨by kernel_rfl⟩
instance:dw ah 37:=⟨by kernel_rfl⟩
instance:dw ah 38:=⟨by kernel_rfl⟩
instance:dw ah 39:=⟨by kernel_rfl⟩
instance:dw ah 40:=⟨by kernel_rfl⟩
instance:dw ah 41:=⟨by kernel_rfl⟩
instance:dw ah 42:=⟨by kernel_rfl⟩
instance:dw ah 43:=⟨by kernel_rfl⟩
instance:dw ah 45:=⟨by kernel_rfl⟩
instance:dw ah 47:=⟨by kernel_rfl⟩
instance:dw ah 49:=⟨by kernel_rfl⟩
instance:dw ah 50:=⟨by kernel_rfl⟩
instance:dw ah 52:=⟨by kernel_rfl⟩
instance:dw ah 53:=⟨by kernel_rfl⟩
instance:dw ah 54:=⟨by kernel_rfl⟩
instance:dw ah 56:=⟨by kernel_rfl⟩
instance:dw ah 57:=⟨by kernel_rfl⟩
instance:dw ah 58:=⟨by kernel_rfl⟩
instance:dw ah 59:=⟨by kernel_rfl⟩
instance:dw ah 60:=⟨by kernel_rfl⟩
instance:dw ah 64:=⟨by kernel_rfl⟩
instance:dw ah 65:=⟨by kernel_rfl⟩
instance:dw ah 72:=⟨by kernel_rfl⟩
instance:dw ah 77:=⟨by kernel_rfl⟩
instance:dw ah 78:=⟨by kernel_rfl⟩
instance:dw ah 82:=⟨by kernel_rfl⟩
instance:dw ah 83:=⟨by kernel_rfl⟩
instance:dw ah 84:=⟨by kernel_rfl⟩
instance:dw ah 85:=⟨by kernel_rfl⟩
instance:dw ah 86:=⟨by kernel_rfl⟩
instance:dw ah 87:=⟨by kernel_rfl⟩
instance:dw ah 88:=⟨by kernel_rfl⟩
instance:dw ah 89:=⟨by kernel_rfl⟩
instance:dw ah 90:=⟨by kernel_rfl⟩
instance:dw ah 91:=⟨by kernel_rfl⟩
instance:dw ah 93:=⟨by kernel_rfl⟩
instance:dw ah 94:=⟨by kernel_rfl⟩
instance:dw ah 95:=⟨by kernel_rfl⟩
instance:dw ah 96:=⟨by kernel_rfl⟩
instance:dw ah 97:=⟨by kernel_rfl⟩
instance:dw ah 98:=⟨by kernel_rfl⟩
instance:dw ah 99:=⟨by kernel_rfl⟩
instance:dw ah 100:=⟨by kernel_rfl⟩
instance:dw ah 103:=⟨by kernel_rfl⟩
instance:dw ah 104:=⟨by kernel_rfl⟩
instance:dw ah 105:=⟨by kernel_rfl⟩
instance:dw ah 106:=⟨by kernel_rfl⟩
instance:dw ah 107:=⟨by kernel_rfl⟩
instance:dw ah 108:=⟨by kernel_rfl⟩
instance:dw ah 114:=⟨by kernel_rfl⟩
instance:dw ah 118:=⟨by kernel_rfl⟩
instance:dw ah 125:=⟨by kernel_rfl⟩
instance:dw ah 126:=⟨by kernel_rfl⟩
instance:dw ah 127:=⟨by kernel_rfl⟩
instance:dw ah 128:=⟨by kernel_rfl⟩
instance:dw ah 129:=⟨by kernel_rfl⟩
instance:dw ah 130:=⟨by kernel_rfl⟩
instance:dw ah 131:=⟨by kernel_rfl⟩
instance:dw ah 132:=⟨by kernel_rfl⟩
instance:dw ah 133:=⟨by kernel_rfl⟩
instance:dw ah 134:=⟨by kernel_rfl⟩
instance:dw ah 135:=⟨by kernel_rfl⟩
instance:dw ah 136:=⟨by kernel_rfl⟩
instance:dw ah 137:=⟨by kernel_rfl⟩
instance:dw ah 139:=⟨by kernel_rfl⟩
instance:dw ah 140:=⟨by kernel_rfl⟩
instance:dw ah 141:=⟨by kernel_rfl⟩
instance:dw ah 144:=⟨by kernel_rfl⟩
instance:dw ah 145:=⟨by kernel_rfl⟩
instance:dw ah 161:=⟨by kernel_rfl⟩
instance:dw ah 162:=⟨by kernel_rfl⟩
instance:dw ah 163:=⟨by kernel_rfl⟩
instance:dw ah 164:=⟨by kernel_rfl⟩
instance:dw ah 165:=⟨by kernel_rfl⟩
instance:dw ah 166:=⟨by kernel_rfl⟩
instance:dw ah 167:=⟨by kernel_rfl⟩
instance:dw ah 168:=⟨by kernel_rfl⟩
instance:dw ah 169:=⟨by kernel_rfl⟩
instance:dw ah 175:=⟨by kernel_rfl⟩
instance:dw ah 186:=⟨by kernel_rfl⟩
instance:dw ah 187:=⟨by kernel_rfl⟩
instance:dw ah 188:=⟨by kernel_rfl⟩
instance:dw ah 189:=⟨by kernel_rfl⟩
instance:dw ah 190:=⟨by kernel_rfl⟩
instance:dw ah 191:=⟨by kernel_rfl⟩
instance:dw ah 192:=⟨by kernel_rfl⟩
instance:dw ah 193:=⟨by kernel_rfl⟩
instance:dw ah 194:=⟨by kernel_rfl⟩
instance:dw ah 195:=⟨by kernel_rfl⟩
instance:dw ah 202:=⟨by kernel_rfl⟩
instance:dw ah 203:=⟨by kernel_rfl⟩
instance:dw ah 204:=⟨by kernel_rfl⟩
instance:dw ah 205:=⟨by kernel_rfl⟩
instance:dw ah 206:=⟨by kernel_rfl⟩
instance:dw ah 210:=⟨by kernel_rfl⟩
instance:dw ah 211:=⟨by kernel_rfl⟩
instance:dw ah 212:=⟨by kernel_rfl⟩
instance:dw ah 213:=⟨by kernel_rfl⟩
instance:dw ah 214:=⟨by kernel_rfl⟩
instance:dw ah 215:=⟨by kernel_rfl⟩
theorem mixed:Tryz.prog.follows .mixedOrders=true:=by kernel_rfl
end
section
open Go.Fw Go.RowKit
def snap(W:World):Mem:=λb o=>(W.cell? ⟨b,o,none⟩).filter Value.oneCell'
theorem O7(W:World):(snap W).c8 W:=λ_ _ _ e=>by
 obtain⟨e1,e2⟩:=Option.filter_eq_some_iff.1 e;exact .of e1 e2
theorem O8{W:World}{b o:Nat}{v:Value}(h:W.cell? ⟨b,o,none⟩=some v)(h1:v.oneCell'=true):snap W b o=some v:=Option.filter_eq_some_iff.2 ⟨h,h1⟩
class BT (P:Program) (T:TypeId) {α:Type} (e:α->List SV) (ok:outParam (α->Prop)) (sz:outParam (α->Nat)):Prop where
 h:∀{H:Type} (enc:TypeId×Value->H) (W:World) (fuel:Nat) (cs:List Value) (d:DataW H) (p:List MemPlace),DataW.trod enc P W 0 (λ_=>true) true fuel T cs=some (d,p)->
  ∃x:α,ok x/\SV.dZ (snap W) (e x) cs/\(∀v∈cs,v.oneCell'=true)/\sz x<=Rows.uptoBulk d
section opn
variable {P:Program}{T:TypeId}
theorem LR{k:IntKind}{n:Int}(h:(Lit.int k n).wf=true):k.min<=n/\n<=k.max:=by simpa[Lit.wf]using h
instance[t:me P T .i64]:BT P T cM (λx=>-9223372036854775808<=x/\x<=9223372036854775807) (λ_=>1):=⟨λenc W fuel cs d p h=>by
 obtain⟨n,rfl,hx,hw⟩:=DataW.trod_int t.h h;cases hx;have:=LR hw;exact⟨n,by simpa[IntKind.min,IntKind.max,IntKind.signed,IntKind.bits]using this,⟨rfl,aq⟩,by simp[Value.oneCell'],by simp[Rows.uptoBulk]⟩⟩
theorem Xa{k:IntKind}{M:Nat}{e:Nat->List SV}(t:me P T k)(hk:k.min=0/\k.max=(M:Int)-1)(he:∀n:Nat,e n=[.v (.int k (n:Int))]):BT P T e (λx=>x<M) (λ_=>1):=⟨λenc W fuel cs d p h=>by
 obtain⟨n,rfl,hx,hw⟩:=DataW.trod_int t.h h;cases hx;have:=LR hw;rw[hk.1,hk.2]at this;obtain⟨m,rfl⟩:=Int.eq_ofNat_of_zero_le this.1;exact⟨m,by omega,by rw[he];exact⟨Y,aq⟩,by simp[Value.oneCell'],by simp[Rows.uptoBulk]⟩⟩
instance[t:me P T .u32]:BT P T aX (λx=>x<4294967296) (λ_=>1):=Xa t (by decide) (λ_=>rfl)
instance[t:Dl P T]:BT P T eB (λ_=>True) (λ_=>1):=⟨λenc W fuel cs d p h=>by
 obtain⟨b,rfl,hx⟩:=DataW.trod_bool t.h h;cases hx;exact⟨b,aq,⟨rfl,aq⟩,by simp[Value.oneCell'],by simp[Rows.uptoBulk]⟩⟩
theorem Fe{H α:Type}(sz:α->Nat):∀(xs:List α) (ds:List (DataW H)),xs.length=ds.length->(∀(i:Nat) (x:α) (d:DataW H),xs[i]? =some x->ds[i]? =some d->sz x<=Rows.uptoBulk d)->(xs.map sz).sum<=Rows.uptoBulkAll ds
 |[],[],_,_=>by simp
 |x::xs,d::ds,hl,h=>by
  have h1:=h 0 x d Y Y;have h2:=Fe sz xs ds (by simpa using hl) (λi x d e1 e2=>h (i+1) x d (by simpa using e1) (by simpa using e2));simp only[List.map_cons,List.sum_cons,Rows.uptoBulkAll];omega
 |[],_::_,hl,_=>by simp at hl
 |_::_,[],hl,_=>by simp at hl
instance{E:TypeId}{n:Nat}{α:Type}{e:α->List SV}{ok:α->Prop}{sz:α->Nat}{by_:Nat}{zv:Value}[t:eE P T E n][tE:ju P E n by_ zv][el:EL e n][o:BT P E e ok sz]:BT P T (eS n e) (λl=>l.length<=9223372036854775807/\∀x∈l,ok x) (λl=>(l.map sz).sum+1):=⟨λ{H} enc W fuel cs d p h=>by
 have hcell:P.cellsOf E=n:=by
  have h1:=t.size W;simp only[sizeOf,typeInfo]at h1;cases hi:P.info? E with
  |none=>simp[hi]at h1
  |some i=>simp[hi]at h1;simp[Program.cellsOf,hi,h1]
 have hml:maxLen=9223372036854775807:=by decide
 rcases Deep.open_slice t.u h with⟨rfl,hx⟩|⟨a,len,cap,m,n',D,Pl,rfl,_,hl,hm,hmm,hx,hel⟩
 ·cases hx;exact⟨[],⟨by simp,by simp⟩,⟨.inl ⟨none,rfl,rfl⟩,aq⟩,by simp[Value.oneCell'],by simp[Rows.uptoBulk]⟩
 cases hx;rw[if_pos rfl]at hmm;subst hmm;have one:∀i,i<m->∃x,ok x/\sz x<=Rows.uptoBulk (D i)/\∃cs',W.cells? 0 (a.add (i*n)) n=some cs'/\SV.dZ (snap W) (e x) cs'/\(∀v∈cs',v.oneCell'=true):=by
  intro i hi;obtain⟨cs',h1,h2⟩:=hel i hi;obtain⟨x,q1,q2,q3,q4⟩:=o.h enc W n' cs' (D i) (Pl i) h2;rw[hcell]at h1;exact⟨x,q1,q4,cs',h1,q2,q3⟩
 obtain⟨xs,Xb,hxs⟩:∃xs:List α,xs.length=len/\∀(i:Nat) (x:α),xs[i]? =some x->ok x/\sz x<=Rows.uptoBulk (D i)/\∃cs',W.cells? 0 (a.add (i*n)) n=some cs'/\SV.dZ (snap W) (e x) cs'/\(∀v∈cs',v.oneCell'=true):=by
  clear h hm hel;have:∀k,k<=len->∃xs:List α,xs.length=k/\∀(i:Nat) (x:α),xs[i]? =some x->ok x/\sz x<=Rows.uptoBulk (D i)/\∃cs',W.cells? 0 (a.add (i*n)) n=some cs'/\SV.dZ (snap W) (e x) cs'/\(∀v∈cs',v.oneCell'=true):=by
   intro k
   induction k with
   |zero=>intro _;exact⟨[],rfl,by simp⟩
   |succ k ih=>
    intro hk;obtain⟨xs,h1,h2⟩:=ih (by omega);obtain⟨x,hx⟩:=one k (by omega);refine⟨xs++[x],by simp[h1],λi y hy=>?_⟩;rcases Nat.lt_or_ge i k with hi|hi
    ·exact h2 i y (by rwa[List.getElem?_append_left (by omega)]at hy)
    rw[List.getElem?_append_right (by omega)]at hy;have hi2:i=k:=by
     rcases Nat.lt_or_ge (i-xs.length) 1 with q|q
     ·omega
     rw[List.getElem?_eq_none (by simpa using q)]at hy;cases hy
    subst hi2;rw[h1,Nat.sub_self]at hy;simp at hy;subst hy;exact hx
  exact this len (Nat.le_refl _)
 refine⟨xs,⟨by omega,λx hx=>?_⟩,⟨?_,aq⟩,by simp[Value.oneCell'],?_⟩
 ·obtain⟨i,hi,rfl⟩:=List.getElem_of_mem hx;exact(hxs i _ (List.getElem?_eq_getElem hi)).1
 ·by_cases h0:xs=[]
  ·subst h0;simp at Xb;subst Xb;by_cases hc0:m=0
   ·subst hc0;exact .inl ⟨_,rfl,rfl⟩
   obtain⟨x,_,_,cs',g1,g2,_⟩:=one 0 (by omega);obtain⟨_,g3,g4⟩:=World.cells?_some g1;have hn:0<n:=tE.p;have g5:=g4 0 hn;obtain⟨b,o',spot⟩:=a;have LS:spot=none:=by
    have:∃v,W.cell? (((⟨b,o',spot⟩:Addr).add (0*n)).add 0)=some v:=by
     rw[g5];exact⟨_,List.getElem?_eq_getElem (by omega)⟩
    obtain⟨v,hv⟩:=this;simpa[Addr.add]using World.cell?_spot hv
   subst LS;refine .inr ⟨b,o',m,rfl,by simp,by simp,λi row hr=>by simp at hr⟩
  have yG:0<len:=by
   rcases Nat.eq_zero_or_pos len with hz|hz
   ·exact absurd (List.eq_nil_of_length_eq_zero (by omega)) h0
   exact hz
  have hn:0<n:=tE.p;obtain⟨x,_,_,cs',g1,g2,_⟩:=one 0 (by omega);obtain⟨_,g3,g4⟩:=World.cells?_some g1;have g5:=g4 0 hn;obtain⟨b,o',spot⟩:=a;have LS:spot=none:=by
   have:∃v,W.cell? (((⟨b,o',spot⟩:Addr).add (0*n)).add 0)=some v:=by
    rw[g5];exact⟨_,List.getElem?_eq_getElem (by omega)⟩
   obtain⟨v,hv⟩:=this;simpa[Addr.add]using World.cell?_spot hv
  subst LS;refine .inr ⟨b,o',m,by rw[List.length_map,Xb],by rw[List.length_map];omega,by rw[List.length_map];omega,λi row hr=>?_⟩;rw[List.getElem?_map]at hr;cases hx:xs[i]? with
  |none=>rw[hx]at hr;cases hr
  |some y=>
   rw[hx]at hr;have hr:e y=row:=Option.some.inj hr;subst hr;obtain⟨_,_,cs2,k1,k2,k3⟩:=hxs i y hx;obtain⟨_,k4,k5⟩:=World.cells?_some k1;refine⟨el.len y,λk s hk=>?_⟩;obtain⟨u,hu,hs⟩:=k2.get hk;have hkn:k<n:=by have:=(List.getElem?_eq_some_iff.1 hu).1;omega
   have k6:=k5 k hkn;rw[fR,fR,hu]at k6;exact⟨u,O8 k6 (k3 u (List.mem_of_getElem? hu)),k3 u (List.mem_of_getElem? hu),hs⟩
 have hb:Rows.uptoBulk (DataW.slice ((List.range len).map D) ((List.range (m-len)).map λj=>D (len+j)))=Rows.uptoBulkAll ((List.range len).map D)+Rows.uptoBulkAll ((List.range (m-len)).map λj=>D (len+j))+1:=rfl;rw[hb];have:=Fe sz xs ((List.range len).map D) (by simp[Xb]) (λi x d e1 e2=>by
  have hi:i<len:=by have:=(List.getElem?_eq_some_iff.1 e1).1;omega
  simp[hi]at e2;subst e2;exact(hxs i x e1).2.1)
 omega⟩
class Wa (P:Program) (T:TypeId) (k:outParam Nat):Prop where
 h:(match P.underlying T with|some (.struct fs)=>some fs.size|_=>none)=some k
theorem zN{k:Nat}[s:Wa P T k]{H:Type}{enc:TypeId×Value->H}{W:World}{fuel:Nat}{cs:List Value}{d:DataW H}{p:List MemPlace}(h:DataW.trod enc P W 0 (λ_=>true) true fuel T cs=some (d,p)):
  ∃(xs:List (DataW H×List MemPlace)) (n:Nat),d=.agg (xs.map (·.1))/\cs.length=P.cellsOf T/\xs.length=k/\∀(i off:Nat) (U:TypeId),xm P T i off U->DataW.trod enc P W 0 (λ_=>true) true n U ((cs.drop off).take (P.cellsOf U))=xs[i]? :=by
 have hs:=s.h;cases hT:P.underlying T with
 |none=>rw[hT]at hs;cases hs
 |some u=>
  rw[hT]at hs;cases u with
  |struct fs=>
   have hk:fs.size=k:=Option.some.inj hs;obtain⟨xs,n,_,hx,hl,hn,hf⟩:=DataW.trod_struct hT h;refine⟨xs,n,(Prod.mk.inj hx).1,hl,by omega,λi off U F=>?_⟩;have hF:=F.h;rw[hT]at hF;simp only at hF;cases hg:fs[i]? with
   |none=>rw[hg]at hF;cases hF
   |some f=>
    rw[hg]at hF;simp only[Option.map_some,Option.some.injEq,Prod.mk.injEq]at hF;have:=hf i f hg;rw[hF.1,hF.2]at this;exact this
  |_=>cases hs
class Xc (P:Program) (T:TypeId):Prop where
 h:∀(w:World) (r:Reach) (base:Nat) (v:Value),Value.okWide P w r base T v->v.cells.toList=[v]
instance{E:TypeId}{n:Nat}[t:eE P T E n]:Xc P T:=⟨λw r base v h=>by
 obtain⟨a,l,c,rfl⟩:=WideShapes.okWide_slice t.u h;rfl⟩
theorem IQ{α:Type}{e:α->List SV}{ok:α->Prop}{sz:α->Nat}[o1:Xc P T][o:BT P T e ok sz]{H:Type}{enc:TypeId×Value->H}{W:World}{r:Reach}{base:Nat}{v:Value}{d:DataW H}{p:List MemPlace}
  (hv:Value.okWide P W r base T v) (h:DataW.Trod enc P W 0 (λ_=>true) true T v d p):∃x,ok x/\sz x<=Rows.uptoBulk d/\SV.dZ (snap W) (e x) [v]:=by
 obtain⟨fuel,h⟩:=h;rw[o1.h W r base v hv]at h;obtain⟨x,h1,h2,_,h4⟩:=o.h enc W fuel _ d p h;exact⟨x,h1,h4,h2⟩
theorem O9{α:Type}{e:α->List SV}{ok:α->Prop}{sz:α->Nat}{k:Nat}[s:Wa P T k][o:BT P T e ok sz]{H:Type}{enc:TypeId×Value->H}{W:World}{r:Reach}{base:Nat}{v:Value}{d:DataW H}{p:List MemPlace}
  (hv:Value.okWide P W r base T v) (h:DataW.Trod enc P W 0 (λ_=>true) true T v d p):∃x,ok x/\sz x<=Rows.uptoBulk d/\(SV.agg (e x)).h (snap W) v:=by
 have hs:=s.h;cases hT:P.underlying T with
 |none=>rw[hT]at hs;cases hs
 |some u=>
  rw[hT]at hs;cases u with
  |struct fs=>
   obtain⟨cs,rfl,_⟩:=WideShapes.okWide_struct hT hv;obtain⟨fuel,h⟩:=h;obtain⟨x,h1,h2,_,h4⟩:=o.h enc W fuel _ d p h;exact⟨x,h1,h4,cs.toList,Y,h2⟩
  |_=>cases hs
end opn
theorem Pa{f:FuncId}{vs:List Value}{svs:List SV}{W:World}(hp:Pure ah f svs (.v (.bool true)))(h:SV.dZ (snap W) svs vs):
  Calls ah f ⟨vs⟩ W λe w'=>e=.returned (.bool true)/\Below W.heap.size W w':=
 (hp (snap W) W vs (O7 W) h).mono λ_ _ ⟨v,_,h1,_,_,_,h2,h3⟩=>by
  have h2:v=.bool true:=h2;exact⟨by rw[h1,h2],h3⟩
end
section
open Go.Fw Go.RowKit Go.ChangeShapes Go.WideShapes Go.ChangeAt
theorem abk:ownKnob Tryz.prog.godebug=none:=by kernel_rfl
theorem Au:laidOutB ah=true:=by kernel_rfl
instance:Wa ah 41 2:=⟨by kernel_rfl⟩
set_option maxRecDepth 100000 in
instance:BT ah 41 eZ (λ(z:Zr)=>(True/\(z.w.length<=9223372036854775807/\∀x1∈z.w,x1<4294967296))) (λ(z:Zr)=>(1+((z.w.map λx1=>1).sum+1)+1)):=⟨λenc W fuel cs d p h=>by
 obtain⟨xs,n,rfl,hl,hn,hf⟩:=zN h;have hl:cs.length=2:=hl.trans (by kernel_rfl)
 match xs,hn with
 |[⟨d0,p0⟩,⟨d1,p1⟩],_=>
 match cs,hl with
 |[c0,c1],_=>
 have t0:DataW.trod enc ah W 0 (λ_=>true) true n 4 [c0]=some (d0,p0):=(by have q:=hf 0 _ _ inferInstance;rw[show Tryz.prog.cellsOf 4=1 by kernel_rfl]at q;exact q);obtain⟨x0,a0,b0,e0,s0⟩:=BT.h (P:=ah) (T:=4) (e:=eB) enc W n _ d0 p0 t0;have t1:DataW.trod enc ah W 0 (λ_=>true) true n 39 [c1]=some (d1,p1):=(by have q:=hf 1 _ _ inferInstance;rw[show Tryz.prog.cellsOf 39=1 by kernel_rfl]at q;exact q);obtain⟨x1,a1,b1,e1,s1⟩:=BT.h (P:=ah) (T:=39) (e:=(eS 1 aX)) enc W n _ d1 p1 t1;refine⟨⟨x0,x1⟩,⟨a0,a1⟩,⟨b0.1,b1.1,aq⟩,?_,?_⟩
 ·intro v hv;simp only[List.mem_cons,List.not_mem_nil,or_false]at hv;rcases hv with rfl|rfl
  ·exact e0 _ (by simp)
  exact e1 _ (by simp)
 simp only[List.map_cons,List.map_nil,Rows.uptoBulk,Rows.uptoBulkAll];omega⟩
instance:Wa ah 43 2:=⟨by kernel_rfl⟩
set_option maxRecDepth 100000 in
instance:BT ah 43 eQ (λ(z:Qr)=>((True/\(z.num.w.length<=9223372036854775807/\∀x1∈z.num.w,x1<4294967296))/\(True/\(z.den.w.length<=9223372036854775807/\∀x1∈z.den.w,x1<4294967296)))) (λ(z:Qr)=>((1+((z.num.w.map λx1=>1).sum+1)+1)+(1+((z.den.w.map λx1=>1).sum+1)+1)+1)):=⟨λenc W fuel cs d p h=>by
 obtain⟨xs,n,rfl,hl,hn,hf⟩:=zN h;have hl:cs.length=4:=hl.trans (by kernel_rfl)
 match xs,hn with
 |[⟨d0,p0⟩,⟨d1,p1⟩],_=>
 match cs,hl with
 |[c0,c1,c2,c3],_=>
 have t0:DataW.trod enc ah W 0 (λ_=>true) true n 41 [c0,c1]=some (d0,p0):=(by have q:=hf 0 _ _ inferInstance;rw[show Tryz.prog.cellsOf 41=2 by kernel_rfl]at q;exact q);obtain⟨x0,a0,b0,e0,s0⟩:=BT.h (P:=ah) (T:=41) (e:=eZ) enc W n _ d0 p0 t0;have t1:DataW.trod enc ah W 0 (λ_=>true) true n 41 [c2,c3]=some (d1,p1):=(by have q:=hf 1 _ _ inferInstance;rw[show Tryz.prog.cellsOf 41=2 by kernel_rfl]at q;exact q);obtain⟨x1,a1,b1,e1,s1⟩:=BT.h (P:=ah) (T:=41) (e:=eZ) enc W n _ d1 p1 t1;refine⟨⟨x0,x1⟩,⟨a0,a1⟩,⟨b0.1,b0.2.1,b1.1,b1.2.1,aq⟩,?_,?_⟩
 ·intro v hv;simp only[List.mem_cons,List.not_mem_nil,or_false]at hv;rcases hv with rfl|rfl|rfl|rfl
  ·exact e0 _ (by simp)
  ·exact e0 _ (by simp)
  ·exact e1 _ (by simp)
  exact e1 _ (by simp)
 simp only[List.map_cons,List.map_nil,Rows.uptoBulk,Rows.uptoBulkAll];omega⟩
instance:Wa ah 25 4:=⟨by kernel_rfl⟩
set_option maxRecDepth 100000 in
instance:BT ah 25 Dw (λ(z:Lr)=>((-9223372036854775808<=z.vars/\z.vars<=9223372036854775807)/\(z.uj.length<=9223372036854775807/\∀x1∈z.uj,(x1.length<=9223372036854775807/\∀x2∈x1,((True/\(x2.num.w.length<=9223372036854775807/\∀x3∈x2.num.w,x3<4294967296))/\(True/\(x2.den.w.length<=9223372036854775807/\∀x3∈x2.den.w,x3<4294967296)))))/\(z.rows.length<=9223372036854775807/\∀x1∈z.rows,(x1.length<=9223372036854775807/\∀x2∈x1,((True/\(x2.num.w.length<=9223372036854775807/\∀x3∈x2.num.w,x3<4294967296))/\(True/\(x2.den.w.length<=9223372036854775807/\∀x3∈x2.den.w,x3<4294967296)))))/\(z.bounds.length<=9223372036854775807/\∀x1∈z.bounds,((True/\(x1.num.w.length<=9223372036854775807/\∀x2∈x1.num.w,x2<4294967296))/\(True/\(x1.den.w.length<=9223372036854775807/\∀x2∈x1.den.w,x2<4294967296)))))) (λ(z:Lr)=>(1+((z.uj.map λx1=>((x1.map λx2=>((1+((x2.num.w.map λx3=>1).sum+1)+1)+(1+((x2.den.w.map λx3=>1).sum+1)+1)+1)).sum+1)).sum+1)+((z.rows.map λx1=>((x1.map λx2=>((1+((x2.num.w.map λx3=>1).sum+1)+1)+(1+((x2.den.w.map λx3=>1).sum+1)+1)+1)).sum+1)).sum+1)+((z.bounds.map λx1=>((1+((x1.num.w.map λx2=>1).sum+1)+1)+(1+((x1.den.w.map λx2=>1).sum+1)+1)+1)).sum+1)+1)):=⟨λenc W fuel cs d p h=>by
 obtain⟨xs,n,rfl,hl,hn,hf⟩:=zN h;have hl:cs.length=4:=hl.trans (by kernel_rfl)
 match xs,hn with
 |[⟨d0,p0⟩,⟨d1,p1⟩,⟨d2,p2⟩,⟨d3,p3⟩],_=>
 match cs,hl with
 |[c0,c1,c2,c3],_=>
 have t0:DataW.trod enc ah W 0 (λ_=>true) true n 3 [c0]=some (d0,p0):=(by have q:=hf 0 _ _ inferInstance;rw[show Tryz.prog.cellsOf 3=1 by kernel_rfl]at q;exact q);obtain⟨x0,a0,b0,e0,s0⟩:=BT.h (P:=ah) (T:=3) (e:=cM) enc W n _ d0 p0 t0;have t1:DataW.trod enc ah W 0 (λ_=>true) true n 22 [c1]=some (d1,p1):=(by have q:=hf 1 _ _ inferInstance;rw[show Tryz.prog.cellsOf 22=1 by kernel_rfl]at q;exact q);obtain⟨x1,a1,b1,e1,s1⟩:=BT.h (P:=ah) (T:=22) (e:=(eS 1 (eS 4 eQ))) enc W n _ d1 p1 t1;have t2:DataW.trod enc ah W 0 (λ_=>true) true n 22 [c2]=some (d2,p2):=(by have q:=hf 2 _ _ inferInstance;rw[show Tryz.prog.cellsOf 22=1 by kernel_rfl]at q;exact q);obtain⟨x2,a2,b2,e2,s2⟩:=BT.h (P:=ah) (T:=22) (e:=(eS 1 (eS 4 eQ))) enc W n _ d2 p2 t2;have t3:DataW.trod enc ah W 0 (λ_=>true) true n 23 [c3]=some (d3,p3):=(by have q:=hf 3 _ _ inferInstance;rw[show Tryz.prog.cellsOf 23=1 by kernel_rfl]at q;exact q);obtain⟨x3,a3,b3,e3,s3⟩:=BT.h (P:=ah) (T:=23) (e:=(eS 4 eQ)) enc W n _ d3 p3 t3;refine⟨⟨x0,x1,x2,x3⟩,⟨a0,a1,a2,a3⟩,⟨b0.1,b1.1,b2.1,b3.1,aq⟩,?_,?_⟩
 ·intro v hv;simp only[List.mem_cons,List.not_mem_nil,or_false]at hv;rcases hv with rfl|rfl|rfl|rfl
  ·exact e0 _ (by simp)
  ·exact e1 _ (by simp)
  ·exact e2 _ (by simp)
  exact e3 _ (by simp)
 simp only[List.map_cons,List.map_nil,Rows.uptoBulk,Rows.uptoBulkAll];omega⟩
instance:Wa ah 38 2:=⟨by kernel_rfl⟩
set_option maxRecDepth 100000 in
instance:BT ah 38 Ow (λ(z:Pv)=>((-9223372036854775808<=z.row/\z.row<=9223372036854775807)/\(-9223372036854775808<=z.col/\z.col<=9223372036854775807))) (λ(z:Pv)=>(1+1+1)):=⟨λenc W fuel cs d p h=>by
 obtain⟨xs,n,rfl,hl,hn,hf⟩:=zN h;have hl:cs.length=2:=hl.trans (by kernel_rfl)
 match xs,hn with
 |[⟨d0,p0⟩,⟨d1,p1⟩],_=>
 match cs,hl with
 |[c0,c1],_=>
 have t0:DataW.trod enc ah W 0 (λ_=>true) true n 3 [c0]=some (d0,p0):=(by have q:=hf 0 _ _ inferInstance;rw[show Tryz.prog.cellsOf 3=1 by kernel_rfl]at q;exact q);obtain⟨x0,a0,b0,e0,s0⟩:=BT.h (P:=ah) (T:=3) (e:=cM) enc W n _ d0 p0 t0;have t1:DataW.trod enc ah W 0 (λ_=>true) true n 3 [c1]=some (d1,p1):=(by have q:=hf 1 _ _ inferInstance;rw[show Tryz.prog.cellsOf 3=1 by kernel_rfl]at q;exact q);obtain⟨x1,a1,b1,e1,s1⟩:=BT.h (P:=ah) (T:=3) (e:=cM) enc W n _ d1 p1 t1;refine⟨⟨x0,x1⟩,⟨a0,a1⟩,⟨b0.1,b1.1,aq⟩,?_,?_⟩
 ·intro v hv;simp only[List.mem_cons,List.not_mem_nil,or_false]at hv;rcases hv with rfl|rfl
  ·exact e0 _ (by simp)
  exact e1 _ (by simp)
 simp only[List.map_cons,List.map_nil,Rows.uptoBulk,Rows.uptoBulkAll];omega⟩
end
end Go.Proofs.YtningmnklfpfjaaGreat
namespace Go.Fw
section
open Go.RowKit
theorem xG{S:AS}(i o k:Nat)(E0:TypeId)(sz:Nat){T:TypeId}{cells:List AV}(hb:S.b i=some ⟨T,cells⟩)(hc:cells[o]? =some (.sv (.v (.slice none 0 0))))(hk:S.r k=.un)(WV:k<1000):
  rQ S ((AS.bY [(k,.live ⟨E0,sz,0,[]⟩)] S).jt i ⟨T,cells.set o (.row k)⟩):=by
 rintro C a w ⟨E,h⟩;have h1:=h.newRow hk WV [] none (.inl ⟨Y,Y⟩) (R':=⟨E0,sz,0,[]⟩) (World.ownsRow_nil w 0 E0 sz) (vs':=[]) trivial (.inl Y) (qE w none);have xz:(AS.bY [(k,.live ⟨E0,sz,0,[]⟩)] S).b i=some ⟨T,cells⟩:=hb;have hrk:(AS.bY [(k,.live ⟨E0,sz,0,[]⟩)] S).r k≠ .un:=by
  show(AS.o7 S k _).r k≠_;rw[AS.gU];simp
 refine⟨_,{h1 with wf:=?_,bx:=λj B hB=>?_,inj:=λj j' B B' hB fk e=>?_,rx:=λj R hR=>?_}⟩
 ·refine⟨λt j hj=>?_,h1.wf.tr,λj B hB x hx m hm=>?_,λj B hB x hx m hm=>?_⟩
  ·obtain⟨B,hB⟩:=h1.wf.tb t j hj;by_cases e:j=i
   ·subst e;exact⟨_,AS.cO _ _ _⟩
   exact⟨B,by rw[AS.bQ _ _ _ _ e];exact hB⟩
  ·have key:∃B',(AS.bY [(k,.live ⟨E0,sz,0,[]⟩)] S).b m=some B':=by
    by_cases e:j=i
    ·subst e;rw[AS.cO]at hB;cases hB;rcases List.mem_or_eq_of_mem_set hx with hx|rfl
     ·exact h1.wf.bb j _ xz x hx m hm
     exact hm.elim
    rw[AS.bQ _ _ _ _ e]at hB;exact h1.wf.bb j B hB x hx m hm
   obtain⟨B',fk⟩:=key;by_cases e:m=i
   ·subst e;exact⟨_,AS.cO _ _ _⟩
   exact⟨B',by rw[AS.bQ _ _ _ _ e];exact fk⟩
  by_cases e:j=i
  ·subst e;rw[AS.cO]at hB;cases hB;rcases List.mem_or_eq_of_mem_set hx with hx|rfl
   ·exact h1.wf.br j _ xz x hx m hm
   cases hm;exact hrk
  rw[AS.bQ _ _ _ _ e]at hB;exact h1.wf.br j B hB x hx m hm
 ·by_cases e:j=i
  ·subst e;rw[AS.cO]at hB;cases hB;obtain⟨q1,q2,q3,vs,q4,q5⟩:=h1.bx j _ xz;refine⟨q1,q2,q3,vs,q4,?_⟩;obtain⟨x,hx,hv⟩:=q5.get hc;have hv:x=.slice none 0 0:=hv;have:=c9.set (i:=o) (s:=.row k) (x:=x) q5 (by
    show x=if k=k then _ else _;rw[if_pos rfl];exact hv)
   have he:vs.set o x=vs:=by
    apply List.ext_getElem?;intro n;rw[List.getElem?_set];split
    ·rename_i hn;subst hn;rw[hx];split<;>rename_i hl
     ·rfl
     have:=(List.getElem?_eq_some_iff.1 hx).1;exact absurd this hl
    rfl
   rwa[he]at this
  rw[AS.bQ _ _ _ _ e]at hB;exact h1.bx j B hB
 ·have old:∀n B,((AS.bY [(k,.live ⟨E0,sz,0,[]⟩)] S).jt i ⟨T,cells.set o (.row k)⟩).b n=some B->∃B',(AS.bY [(k,.live ⟨E0,sz,0,[]⟩)] S).b n=some B':=λn B hn=>by
   by_cases e:n=i
   ·subst e;exact⟨_,xz⟩
   rw[AS.bQ _ _ _ _ e]at hn;exact⟨B,hn⟩
  obtain⟨B1,p1⟩:=old j B hB;obtain⟨B2,p2⟩:=old j' B' fk;exact h1.inj j j' B1 B2 p1 p2 e
 obtain⟨p1,p2⟩:=h1.rx j R hR;refine⟨p1,λg hg=>?_⟩;obtain⟨p3,p4,p5,p6⟩:=p2 g hg;refine⟨p3,p4,p5,λn B hn=>?_⟩;by_cases e:n=i
 ·subst e;exact p6 n _ xz
 rw[AS.bQ _ _ _ _ e]at hn;exact p6 n B hn
end
section
open Go.RowKit
section part
variable {P:Program}{C:Ctx}{ops:Array Oper}{acts:List Ac}{S:AS}
theorem vU(listed:Array Bool)(i:Nat)(hs:listed.size=ops.size)(hi:i<ops.size):listed.getD i true=listed.getD i false:=by
 rw[Array.getD_eq_getD_getElem?,Array.getD_eq_getD_getElem?];rw[Array.getElem?_eq_getElem (by omega)];rfl
end part
end
section
open Go.RowKit
instance{g:FuncId}{caps:List SV}:One (iV g caps):=⟨λ_ _ h=>by obtain⟨vs,rfl,_⟩:=h;rfl⟩
section steps
variable {P:Program}{C:Ctx}{ops:Array Oper}{S:AS}{nd:Bool}{K:List Ac->AS->Prop}{rest:List Oper}{acc:List Ac}
variable {gd:Option (Nat×Bool)}{rg:List Nat}{d:Nat}{ty:TypeId}{pos:String}{aft:Array Edge}{x y z:Operand}{T U E0:TypeId}
theorem RT.xH(hg:Gd ops S gd rg){g:FuncId}{xs:Array Operand}{caps:List SV}(hc:ga S xs.toList caps)(hd:d<S.n)
  (next:RunT P C ops nd K rest (⟨rg++xs.toList.flatMap aZ,[],[],⟨some (d,.sv (iV g caps)),[],[]⟩⟩::acc) (S.set d (.sv (iV g caps)))):RunT P C ops nd K (⟨some d,.makeFunc (.func g) #[] xs,ty,pos,aft,gd⟩::rest) acc S:=
 RT.value hg (xs.toList.flatMap aZ) [] [] (.sv (iV g caps)) hd (by intro c h;cases h) (λS' ht _ _ E a w h=>by
  have h1:=ga.vals h hc ht;refine⟨.func (.func g) #[] ⟨xs.toList.map a.eval⟩,?_,⟨_,Y,h1⟩,eU⟩;have e2:xs.map a.eval=⟨xs.toList.map a.eval⟩:=by apply Array.ext';simp
  simp[execOp,Instr.makeFunc,e2]) next
theorem RT.Xd(hg:Gd ops S gd rg){f:FuncId}[dw P f]{g:Operand}{xs:Array Operand}{at_:Array TypeId}{args caps:List SV}{r:SV}(hp:Pure P f (args++caps) r)(hf:S.ev g=.sv (iV f caps))(hargs:ga S xs.toList args)(hd:d<S.n)
  (next:RunT P C ops nd K rest (⟨rg++(aZ g++xs.toList.flatMap aZ),[],[],⟨some (d,.sv r),[],[]⟩⟩::acc) (S.set d (.sv r))):RunT P C ops nd K (⟨some d,.call ⟨.value g,xs,at_⟩,ty,pos,aft,gd⟩::rest) acc S:=by
 refine .inl ⟨_,[],[],_,?_,next⟩;rintro S' hn ht _ _ i a w L Q ho ⟨E,h⟩ hL;refine cx (C:=C) ho (hg.wanted h (λs hs=>ht s (List.mem_append_left _ hs)) Y) ?_;have rT:(iV f caps).h E.M (a.eval g):=by
  have h1:=h.ev g;rw[bz (λ_ h=>List.mem_append_right _ (List.mem_append_left _ h)) ht,hf]at h1;exact h1
 obtain⟨nP,rT,xI⟩:=rT;have hall:=SV.dZ.append (ga.vals h hargs (λs hs=>ht s (List.mem_append_right _ (List.mem_append_right _ hs)))) xI;have hr:(execOp a.eval ⟨some d,.call ⟨.value g,xs,at_⟩,ty,pos,aft,gd⟩).run P w=.ok (.enter f ⟨xs.toList.map a.eval++nP⟩) w:=by
  have e2:xs.map a.eval++⟨nP⟩=⟨xs.toList.map a.eval++nP⟩:=by apply Array.ext';simp
  have e1:=dw.run (P:=P) (f:=f) (xs.map a.eval++⟨nP⟩) w;rw[<-e2];simp[execOp,resolve,rT,Deferred.ofValue,invoke,e1]
 refine cq (C:=C) (by intro c h;cases h) hr ?_;refine⟨λh=>by simp at h,gh ((hp E.M w _ h.c8 hall).mono ?_)⟩;rintro e w' ⟨v,M',rfl,hM,hnew,hin,hv,hb⟩;exact hL _ _ ⟨_,(h.grow hM hnew hin hb).put (x:=.sv r) hv (by show d<S'.n;omega) eU⟩
end steps
end
end Go.Fw
namespace Go.Fw.Z
section
open Go.Fw
theorem T{d n:Nat}(h:Nat.ble (d+1) n=true:=by exact rfl):d<n:=tl h
theorem bE{α β:Type}{x:Option α}{f:α->Option β}{r:β}{G:Prop}(h:Option.bind x f=some r)(k:∀a,x=some a->f a=some r->G):G:=by obtain⟨a,h1,h2⟩:=bind_some h;exact k a h1 h2
theorem lE{α β:Type}{v:α}{f:α->Option β}{r:β}{G:Prop}(h:Option.bind (some v) f=some r)(k:∀a,v=a->f a=some r->G):G:=k v Y h
theorem bS{α β:Type}{x:Option α}{f:α->Option β}{r:β}(h:Option.bind x f=some r):∃a,x=some a/\f a=some r:=bind_some h
theorem F{α:Type}{x y:Option α}{r:α}(h:(bif false then x else y)=some r):y=some r:=h
theorem V{α:Type}{x y:Option α}{r:α}(h:(bif true then x else y)=some r):x=some r:=h
theorem O{α:Type}{a b:α}(h:some a=some b):a=b:=Option.some.inj h
def yE(l:List (Nat×Nat))(i:Nat):Nat:=((l.find? λp=>Nat.beq p.1 i).map (·.2)).getD i
def ZM(l:List (Nat×Nat)):AV->AV
 |.row i=>.row (yE l i)
 |.nc i o n=>.nc (yE l i) o n
 |x=>x
def ZN:AV->Bool
 |.iM _ _=>false
 |.cmp _ _=>false
 |_=>true
theorem avi(l:List (Nat×Nat)){x:AV}(h:ZN x=true):JO (yE l) (ZM l x) x:=by
 cases x with
 |sv s=>exact .sv au
 |ptr i o=>exact .ptr
 |ED i o n c=>exact .ED
 |row i=>exact .row Y
 |iM i k=>cases h
 |nc i o n=>exact .nc Y
 |fW g js=>exact .fW
 |cmp t js=>cases h
theorem Xe(l:List (Nat×Nat)):∀{xs:List AV},(xs.all ZN)=true->Hh (yE l) (xs.map (ZM l)) xs
 |[],_=>trivial
 |x::xs,h=>by simp only[List.all_cons,Bool.and_eq_true]at h;exact⟨avi l h.1,Xe l h.2⟩
theorem wR(l:List (Nat×Nat)){S:AS}{n:Nat}{ts:List (Nat×AV)}{bs:List (Nat×nL)}{rs:List (Nat×Row)}{g:Nat}{go:Bool}
  (ht:ts.map (λp=>S.t p.1)=ts.map (λp=>ZM l p.2):=by exact rfl) (hb:bs.map (λp=>S.b p.1)=bs.map (λp=>some ⟨p.2.T,p.2.cells.map (ZM l)⟩):=by exact rfl) (hr:rs.map (λp=>S.r (yE l p.1))=rs.map (λp=>.live p.2):=by exact rfl)
  (hn:S.n=n:=by exact rfl) (hg:S.g=g:=by exact rfl) (OO:S.go=go:=by exact rfl)
  (hwf:((ts.all λp=>p.2.o8 bs rs)&&(bs.all λp=>p.2.cells.all λx=>x.o8 bs rs))=true:=by exact rfl) (hσ:((rs.all λp=>rs.all λq=>!(Nat.beq (yE l p.1) (yE l q.1))||Nat.beq p.1 q.1))=true:=by exact rfl)
  (hno:((ts.all λp=>ZN p.2)&&(bs.all λp=>p.2.cells.all ZN))=true:=by exact rfl) (hl:(l.all λp=>Nat.ble (p.1+1) 1000)=true:=by exact rfl):rQ S (AS.cI n ts bs rs g go):=by
 simp only[Bool.and_eq_true,List.all_eq_true]at hno;refine ec (yE l) hn hg OO hwf hσ ?_ ?_ ?_ ?_
 ·clear hwf hb hr;obtain⟨h,-⟩:=hno
  induction ts with
  |nil=>trivial
  |cons p ts ih=>
   obtain⟨k,x⟩:=p;simp only[List.map_cons,List.cons.injEq]at ht;refine⟨?_,ih ht.2 (λq hq=>h q (by simp[hq]))⟩;show JO _ (S.t k) x;rw[ht.1];exact avi l (h (k,x) (by simp))
 ·clear hwf ht hr;obtain⟨-,h⟩:=hno
  induction bs with
  |nil=>trivial
  |cons p bs ih=>
   obtain⟨k,x⟩:=p;simp only[List.map_cons,List.cons.injEq]at hb;exact⟨⟨_,hb.1,Xe l (List.all_eq_true.2 (h (k,x) (by simp)))⟩,ih hb.2 (λq hq=>h q (by simp[hq]))⟩
 ·clear hwf ht hb hσ
  induction rs with
  |nil=>trivial
  |cons p rs ih=>
   obtain⟨k,x⟩:=p;simp only[List.map_cons,List.cons.injEq]at hr;exact⟨⟨_,hr.1,cP.refl _⟩,ih hr.2⟩
 intro i hi;unfold yE;have:l.find? (λp=>Nat.beq p.1 i)=none:=by
  rw[List.find?_eq_none];intro p hp e;have h1:=af (List.all_eq_true.1 hl p hp);have h2:=Nat.eq_of_beq_eq_true e;omega
 rw[this];rfl
section
variable {P:Program}{C:Ctx}{S:AS}{Q:Exit->AS->Prop}
theorem qq{x y:Code}(h:Ok P C x S (aV (λS'=>Ok P C y S' Q) Q)):Ok P C (.seq x y) S Q:=bH h
theorem sr{id:Nat}{ops:Array Oper}{y:Code}(h:RunT P C ops true (λ_ S=>aV (λS'=>Ok P C y S' Q) Q .normal S) ops.toList [] S):Ok P C (.seq (.region id ops false) y) S Q:=bH (aW h)
theorem dn{ops:Array Oper}{acc:List Ac}{next:AS->Prop}(h:next S):RunT P C ops true (λ_ S=>aV next Q .normal S) [] acc S:=h
theorem cF{c:Operand}{x y:Code}(hf:Ok P C y S Q)(hc:S.ev c=.sv (.v (.bool false)):=by exact rfl):Ok P C (.cond c x y) S Q:=dV hc hf
theorem cT{c:Operand}{x y:Code}(ht:Ok P C x S Q)(hc:S.ev c=.sv (.v (.bool true)):=by exact rfl):Ok P C (.cond c x y) S Q:=cJ hc ht
theorem fs{c:Operand}{x:Code}{next:AS->Prop}(h:next S)(hc:S.ev c=.sv (.v (.bool false)):=by exact rfl):Ok P C (.cond c x .skip) S (aV next Q):=dV hc (bA h)
theorem R1{A:Prop}{e:Exit}{t:Nat}{s:SV}(h:S.t t=.sv s):(A\/e=e)/\Lh P S [.tmp t] s:=⟨.inr Y,gi (.tmp h .nil) au⟩
theorem R2{A:Prop}{e:Exit}{t u:Nat}{s s':SV}(h:S.t t=.sv s)(h':S.t u=.sv s'):(A\/e=e)/\Lh P S [.tmp t,.tmp u] (.yu [s,s']):=⟨.inr Y,gi (.tmp h (.tmp h' .nil)) au⟩
theorem RZ{A:Prop}{e:Exit}{rs:List ResultVar}{ss:List SV}{r:SV}(h:KN P S rs ss)(h':SV.imp (Lt ss) r:=by exact au):(A\/e=e)/\Lh P S rs r:=⟨.inr Y,gi h h'⟩
end
section
variable {P:Program}{C:Ctx}{ops:Array Oper}{S:AS}{nd:Bool}{K:List Ac->AS->Prop}{rest:List Oper}{acc:List Ac}
variable {gd:Option (Nat×Bool)}{rg:List Nat}{d:Nat}{ty:TypeId}{pos:String}{aft:Array Edge}{x y z:Operand}{T U:TypeId}{k:IntKind}{p q:Int}
theorem pF{s:SV}(hz:S.ev z=.sv s)(next:RunT P C ops nd K rest (⟨[]++(aZ x++aZ z),[],[],⟨some (d,.sv s),[],[]⟩⟩::acc) (S.set d (.sv s)))(hx:S.ev x=.sv (.v (.bool false)):=by exact rfl)(hd:d<S.n:=by exact tl Y):RunT P C ops nd K (⟨some d,.pick x y z,ty,pos,aft,none⟩::rest) acc S:=
 RT.QL .none hx hz hd next
theorem pT{s:SV}(hy:S.ev y=.sv s)(next:RunT P C ops nd K rest (⟨[]++(aZ x++aZ y),[],[],⟨some (d,.sv s),[],[]⟩⟩::acc) (S.set d (.sv s)))(hx:S.ev x=.sv (.v (.bool true)):=by exact rfl)(hd:d<S.n:=by exact tl Y):RunT P C ops nd K (⟨some d,.pick x y z,ty,pos,aft,none⟩::rest) acc S:=
 RT.QK .none hx hy hd next
theorem mo{s:AV}(hx:S.ev x=s)(next:RunT P C ops nd K rest (⟨[]++aZ x,[],[],⟨some (d,s),[],[]⟩⟩::acc) (S.set d s))(hd:d<S.n:=by exact tl Y):RunT P C ops nd K (⟨some d,.move x,ty,pos,aft,none⟩::rest) acc S:=
 RT.move .none hx hd next
theorem ad(c:Int)(hx:S.ev x=.sv (.v (.int k p)))(hy:S.ev y=.sv (.v (.int k q)))(hc:k.wrap (p+q)=c)(next:RunT P C ops nd K rest (⟨[]++(aZ x++aZ y),[],[],⟨some (d,.sv (.v (.int k c))),[],[]⟩⟩::acc) (S.set d (.sv (.v (.int k c)))))(hd:d<S.n:=by exact tl Y):RunT P C ops nd K (⟨some d,.binOp .add T x y U,ty,pos,aft,none⟩::rest) acc S:=
 RT.add .none c hx hy hd hc next
theorem cv{j:IntKind}[tT:me P T j][tU:me P U k](c:Int){k':IntKind}(hx:S.ev x=.sv (.v (.int k' p)))(hc:k.wrap p=c)(next:RunT P C ops nd K rest (⟨[]++aZ x,[],[],⟨some (d,.sv (.v (.int k c))),[],[]⟩⟩::acc) (S.set d (.sv (.v (.int k c)))))(hd:d<S.n:=by exact tl Y):RunT P C ops nd K (⟨some d,.convert T U x,ty,pos,aft,none⟩::rest) acc S:=
 RT.conv .none c hx hd hc next
theorem ls(c:Bool)(hx:S.ev x=.sv (.v (.int k p)))(hy:S.ev y=.sv (.v (.int k q)))(hc:decide (p<q)=c)(next:RunT P C ops nd K rest (⟨[]++(aZ x++aZ y),[],[],⟨some (d,.sv (.v (.bool c))),[],[]⟩⟩::acc) (S.set d (.sv (.v (.bool c)))))(hd:d<S.n:=by exact tl Y):RunT P C ops nd K (⟨some d,.binOp .lss T x y U,ty,pos,aft,none⟩::rest) acc S:=
 RT.lss .none c hx hy hd hc next
theorem sb(c:Int)(hx:S.ev x=.sv (.v (.int k p)))(hy:S.ev y=.sv (.v (.int k q)))(hc:k.wrap (p-q)=c)(next:RunT P C ops nd K rest (⟨[]++(aZ x++aZ y),[],[],⟨some (d,.sv (.v (.int k c))),[],[]⟩⟩::acc) (S.set d (.sv (.v (.int k c)))))(hd:d<S.n:=by exact tl Y):RunT P C ops nd K (⟨some d,.binOp .sub T x y U,ty,pos,aft,none⟩::rest) acc S:=
 RT.sub .none c hx hy hd hc next
theorem an{s:AV}(hx:S.ev x=s)(next:RunT P C ops nd K rest (⟨[]++aZ x,[],[],⟨some (d,s),[],[]⟩⟩::acc) (S.set d s))(hd:d<S.n:=by exact tl Y):RunT P C ops nd K (⟨some d,.assign x,ty,pos,aft,none⟩::rest) acc S:=
 RT.assign .none hx hd next
theorem gt(c:Bool)(hx:S.ev x=.sv (.v (.int k p)))(hy:S.ev y=.sv (.v (.int k q)))(hc:decide (q<p)=c)(next:RunT P C ops nd K rest (⟨[]++(aZ x++aZ y),[],[],⟨some (d,.sv (.v (.bool c))),[],[]⟩⟩::acc) (S.set d (.sv (.v (.bool c)))))(hd:d<S.n:=by exact tl Y):RunT P C ops nd K (⟨some d,.binOp .gtr T x y U,ty,pos,aft,none⟩::rest) acc S:=
 RT.gtr .none c hx hy hd hc next
theorem eq(c:Bool)(hx:S.ev x=.sv (.v (.int k p)))(hy:S.ev y=.sv (.v (.int k q)))(hc:(p==q)=c)(next:RunT P C ops nd K rest (⟨[]++(aZ x++aZ y),[],[],⟨some (d,.sv (.v (.bool c))),[],[]⟩⟩::acc) (S.set d (.sv (.v (.bool c)))))(hd:d<S.n:=by exact tl Y):RunT P C ops nd K (⟨some d,.binOp .eql T x y U,ty,pos,aft,none⟩::rest) acc S:=
 RT.eql .none c hx hy hd hc next
theorem ne(c:Bool)(hx:S.ev x=.sv (.v (.int k p)))(hy:S.ev y=.sv (.v (.int k q)))(hc:(p != q)=c)(next:RunT P C ops nd K rest (⟨[]++(aZ x++aZ y),[],[],⟨some (d,.sv (.v (.bool c))),[],[]⟩⟩::acc) (S.set d (.sv (.v (.bool c)))))(hd:d<S.n:=by exact tl Y):RunT P C ops nd K (⟨some d,.binOp .neq T x y U,ty,pos,aft,none⟩::rest) acc S:=
 RT.neq .none c hx hy hd hc next
theorem ge(c:Bool)(hx:S.ev x=.sv (.v (.int k p)))(hy:S.ev y=.sv (.v (.int k q)))(hc:decide (q<=p)=c)(next:RunT P C ops nd K rest (⟨[]++(aZ x++aZ y),[],[],⟨some (d,.sv (.v (.bool c))),[],[]⟩⟩::acc) (S.set d (.sv (.v (.bool c)))))(hd:d<S.n:=by exact tl Y):RunT P C ops nd K (⟨some d,.binOp .geq T x y U,ty,pos,aft,none⟩::rest) acc S:=
 RT.geq .none c hx hy hd hc next
theorem nt{b:Bool}(hx:S.ev x=.sv (.v (.bool b)))(c:Bool)(hc:(!b)=c)(next:RunT P C ops nd K rest (⟨[]++aZ x,[],[],⟨some (d,.sv (.v (.bool c))),[],[]⟩⟩::acc) (S.set d (.sv (.v (.bool c)))))(hd:d<S.n:=by exact tl Y):RunT P C ops nd K (⟨some d,.unOp .not T x,ty,pos,aft,none⟩::rest) acc S:=
 RT.not .none hx hd c hc next
theorem gF{j_ g_:Nat}{fI:Bool}{s:SV}(hz:S.ev z=.sv s)(next:RunT P C ops nd K rest (⟨[g_]++(aZ x++aZ z),[],[],⟨some (d,.sv s),[],[]⟩⟩::acc) (S.set d (.sv s)))(B8:(ops[j_]?).bind (·.dst)=some g_:=by exact rfl)(B9:S.t g_=.sv (.v (.bool fI)):=by exact rfl)(hx:S.ev x=.sv (.v (.bool false)):=by exact rfl)(hd:d<S.n:=by exact tl Y):RunT P C ops nd K (⟨some d,.pick x y z,ty,pos,aft,some (j_,fI)⟩::rest) acc S:=
 RT.QL (.some B8 B9) hx hz hd next
theorem gT{j_ g_:Nat}{fI:Bool}{s:SV}(hy:S.ev y=.sv s)(next:RunT P C ops nd K rest (⟨[g_]++(aZ x++aZ y),[],[],⟨some (d,.sv s),[],[]⟩⟩::acc) (S.set d (.sv s)))(B8:(ops[j_]?).bind (·.dst)=some g_:=by exact rfl)(B9:S.t g_=.sv (.v (.bool fI)):=by exact rfl)(hx:S.ev x=.sv (.v (.bool true)):=by exact rfl)(hd:d<S.n:=by exact tl Y):RunT P C ops nd K (⟨some d,.pick x y z,ty,pos,aft,some (j_,fI)⟩::rest) acc S:=
 RT.QK (.some B8 B9) hx hy hd next
theorem gq{j_ g_:Nat}{fI:Bool}(c:Bool)(hx:S.ev x=.sv (.v (.int k p)))(hy:S.ev y=.sv (.v (.int k q)))(hc:(p != q)=c)(next:RunT P C ops nd K rest (⟨[g_]++(aZ x++aZ y),[],[],⟨some (d,.sv (.v (.bool c))),[],[]⟩⟩::acc) (S.set d (.sv (.v (.bool c)))))(B8:(ops[j_]?).bind (·.dst)=some g_:=by exact rfl)(B9:S.t g_=.sv (.v (.bool fI)):=by exact rfl)(hd:d<S.n:=by exact tl Y):RunT P C ops nd K (⟨some d,.binOp .neq T x y U,ty,pos,aft,some (j_,fI)⟩::rest) acc S:=
 RT.neq (.some B8 B9) c hx hy hd hc next
theorem gg{j_ g_:Nat}{fI:Bool}(c:Bool)(hx:S.ev x=.sv (.v (.int k p)))(hy:S.ev y=.sv (.v (.int k q)))(hc:decide (q<p)=c)(next:RunT P C ops nd K rest (⟨[g_]++(aZ x++aZ y),[],[],⟨some (d,.sv (.v (.bool c))),[],[]⟩⟩::acc) (S.set d (.sv (.v (.bool c)))))(B8:(ops[j_]?).bind (·.dst)=some g_:=by exact rfl)(B9:S.t g_=.sv (.v (.bool fI)):=by exact rfl)(hd:d<S.n:=by exact tl Y):RunT P C ops nd K (⟨some d,.binOp .gtr T x y U,ty,pos,aft,some (j_,fI)⟩::rest) acc S:=
 RT.gtr (.some B8 B9) c hx hy hd hc next
theorem ZO{j_ g_:Nat}{fI:Bool}(c:Bool)(hx:S.ev x=.sv (.v (.int k p)))(hy:S.ev y=.sv (.v (.int k q)))(hc:(p==q)=c)(next:RunT P C ops nd K rest (⟨[g_]++(aZ x++aZ y),[],[],⟨some (d,.sv (.v (.bool c))),[],[]⟩⟩::acc) (S.set d (.sv (.v (.bool c)))))(B8:(ops[j_]?).bind (·.dst)=some g_:=by exact rfl)(B9:S.t g_=.sv (.v (.bool fI)):=by exact rfl)(hd:d<S.n:=by exact tl Y):RunT P C ops nd K (⟨some d,.binOp .eql T x y U,ty,pos,aft,some (j_,fI)⟩::rest) acc S:=
 RT.eql (.some B8 B9) c hx hy hd hc next
theorem KO{j_ g_:Nat}{fI:Bool}{b:Bool}(hx:S.ev x=.sv (.v (.bool b)))(c:Bool)(hc:(!b)=c)(next:RunT P C ops nd K rest (⟨[g_]++aZ x,[],[],⟨some (d,.sv (.v (.bool c))),[],[]⟩⟩::acc) (S.set d (.sv (.v (.bool c)))))(B8:(ops[j_]?).bind (·.dst)=some g_:=by exact rfl)(B9:S.t g_=.sv (.v (.bool fI)):=by exact rfl)(hd:d<S.n:=by exact tl Y):RunT P C ops nd K (⟨some d,.unOp .not T x,ty,pos,aft,some (j_,fI)⟩::rest) acc S:=
 RT.not (.some B8 B9) hx hd c hc next
end
section
variable {P:Program}{C:Ctx}{ops:Array Oper}{S:AS}{nd:Bool}{K:List Ac->AS->Prop}{rest:List Oper}{acc:List Ac}
variable {gd:Option (Nat×Bool)}{rg:List Nat}{d:Nat}{ty:TypeId}{pos:String}{aft:Array Edge}{x y z:Operand}{T U E0:TypeId}
theorem mv{s:SV}(hx:S.ev x=.sv s)(next:RunT P C ops nd K rest (⟨[]++aZ x,[],[],⟨some (d,.sv s),[],[]⟩⟩::acc) (S.set d (.sv s)))(hd:d<S.n:=by exact tl Y):RunT P C ops nd K (⟨some d,.move x,ty,pos,aft,none⟩::rest) acc S:=
 RT.mv .none hx hd next
theorem ag{s:SV}(hx:S.ev x=.sv s)(next:RunT P C ops nd K rest (⟨[]++aZ x,[],[],⟨some (d,.sv s),[],[]⟩⟩::acc) (S.set d (.sv s)))(hd:d<S.n:=by exact tl Y):RunT P C ops nd K (⟨some d,.assign x,ty,pos,aft,none⟩::rest) acc S:=
 RT.Ah .none hx hd next
theorem cl{f:FuncId}[dw P f]{g:Operand}{xs:Array Operand}{at_:Array TypeId}{args:List SV}{r:SV}(hp:Pure P f args r)(hargs:ga S xs.toList args)(next:RunT P C ops nd K rest (⟨[]++(aZ g++xs.toList.flatMap aZ),[],[],⟨some (d,.sv r),[],[]⟩⟩::acc) (S.set d (.sv r)))(hf:S.ev g=.sv (.v (.func (.func f) #[] #[])):=by exact rfl)(hd:d<S.n:=by exact tl Y):RunT P C ops nd K (⟨some d,.call ⟨.value g,xs,at_⟩,ty,pos,aft,none⟩::rest) acc S:=
 RT.call .none hp hf hargs hd next
theorem ld{n:Nat}[tA:zC P T n]{j off:Nat}{B:nL}{cs:List SV}(hx:S.ev x=.ptr j off)(hB:S.b j=some B)(hcs:KM B.cells off cs)(next:RunT P C ops nd K rest (⟨[]++aZ x,[j],[],⟨some (d,.sv (.agg cs)),[],[]⟩⟩::acc) (S.set d (.sv (.agg cs))))(hn:cs.length=n:=by exact rfl)(hd:d<S.n:=by exact tl Y):RunT P C ops nd K (⟨some d,.load T x,ty,pos,aft,none⟩::rest) acc S:=
 RT.load .none hx hB hcs hn hd next
theorem lV[tV:pH P T]{j off:Nat}{B:nL}{s:SV}(hx:S.ev x=.ptr j off)(hB:S.b j=some B)(hn:B.cells[off]? =some (.sv s))(next:RunT P C ops nd K rest (⟨[]++aZ x,[j],[],⟨some (d,.sv s),[],[]⟩⟩::acc) (S.set d (.sv s)))(hd:d<S.n:=by exact tl Y):RunT P C ops nd K (⟨some d,.load T x,ty,pos,aft,none⟩::rest) acc S:=
 RT.rI .none hx hB hn hd next
theorem fa{f off:Nat}[hf:xm P T f off U][sU:EP P U]{j o:Nat}(hx:S.ev x=.ptr j o){o':Nat}(ho':o+off=o')(next:RunT P C ops nd K rest (⟨[]++aZ x,[],[],⟨some (d,.ptr j o'),[],[]⟩⟩::acc) (S.set d (.ptr j o')))(hd:d<S.n:=by exact tl Y):RunT P C ops nd K (⟨some d,.fieldAddr T x f,ty,pos,aft,none⟩::rest) acc S:=
 RT.fieldAddr .none hx hd ho' next
theorem so{n:Nat}[tA:zC P T n]{j:Nat}{B:nL}{cs:List SV}[o1:qA cs](hx:S.ev x=.ptr j 0)(hB:S.b j=some B)(hy:S.ev y=.sv (.agg cs))(next:RunT P C ops nd K rest (⟨[]++(aZ x++aZ y),[j],[],⟨none,[(j,⟨B.T,cs.map AV.sv⟩)],[]⟩⟩::acc) (S.jt j ⟨B.T,cs.map AV.sv⟩))(uE:cs.length=n:=by exact rfl)(hn:B.cells.length=n:=by exact rfl):RunT P C ops nd K (⟨none,.store T x y,ty,pos,aft,none⟩::rest) acc S:=
 RT.store .none hx hB hy uE hn next
theorem ex{i:Nat}{ss:List SV}{s:SV}(hx:S.ev x=.sv (.yu ss))(hi:ss[i]? =some s)(next:RunT P C ops nd K rest (⟨[]++aZ x,[],[],⟨some (d,.sv s),[],[]⟩⟩::acc) (S.set d (.sv s)))(hd:d<S.n:=by exact tl Y):RunT P C ops nd K (⟨some d,.extract x i,ty,pos,aft,none⟩::rest) acc S:=
 RT.extract .none hx hi hd next
theorem bx{cells:List SV}(hx:S.ev x=.sv (.agg cells))(next:RunT P C ops nd K rest (⟨[]++aZ x,[d],[],⟨some (d,.ptr d 0),[(d,⟨T,cells.map AV.sv⟩)],[]⟩⟩::acc) ((S.jt d ⟨T,cells.map AV.sv⟩).set d (.ptr d 0)))(hd:d<S.n:=by exact tl Y)(hb:S.b d=none:=by exact rfl)(hp:C.gB d=none:=by exact rfl):RunT P C ops nd K (⟨some d,.box T x,ty,pos,aft,none⟩::rest) acc S:=
 RT.box .none hx hd hb hp next
theorem lr[tV:pH P T]{cells:List SV}{s:SV}(hx:S.ev x=.sv (ref cells))(hn:cells[0]? =some s)(next:RunT P C ops nd K rest (⟨[]++aZ x,[],[],⟨some (d,.sv s),[],[]⟩⟩::acc) (S.set d (.sv s)))(hd:d<S.n:=by exact tl Y):RunT P C ops nd K (⟨some d,.load T x,ty,pos,aft,none⟩::rest) acc S:=
 RT.dj .none hx hn hd next
theorem cB{f:FuncId}[dw P f]{g:Operand}{xs:Array Operand}{at_:Array TypeId}{args:List SV}{T:TypeId}{c0 c1:List SV}{res:SV}(hp:Ly P f args T c0 res c1)(j:Nat)(hB:S.b j=some ⟨T,c0.map AV.sv⟩)(hargs:ga S xs.toList args)(next:RunT P C ops nd K rest (⟨[]++(aZ g++xs.toList.flatMap aZ),[j],[],⟨some (d,.sv res),[(j,⟨T,c1.map AV.sv⟩)],[]⟩⟩::acc) ((AS.fj [(j,⟨T,c1.map AV.sv⟩)] S).set d (.sv res)))(hf:S.ev g=.fW f [.box j]:=by exact rfl)(hd:d<S.n:=by exact tl Y):RunT P C ops nd K (⟨some d,.call ⟨.value g,xs,at_⟩,ty,pos,aft,none⟩::rest) acc S:=
 RT.WS .none hp j hB hf hargs hd next
theorem cN{f:FuncId}[dw P f]{g:Operand}{xs:Array Operand}{at_:Array TypeId}{args:List SV}{R:Row}(hp:E4 P f args R)(hargs:ga S xs.toList args)(next:RunT P C ops nd K rest (⟨[]++(aZ g++xs.toList.flatMap aZ),[],[d],⟨some (d,.row d),[],[(d,.live R)]⟩⟩::acc) ((AS.bY [(d,.live R)] S).set d (.row d)))(hf:S.ev g=.sv (.v (.func (.func f) #[] #[])):=by exact rfl)(hd:d<S.n:=by exact tl Y)(xy:S.r d=.un:=by exact rfl)(vQ:d<1000:=by exact tl Y):RunT P C ops nd K (⟨some d,.call ⟨.value g,xs,at_⟩,ty,pos,aft,none⟩::rest) acc S:=
 RT.QW .none hp hf hargs hd xy vQ next
theorem gm{j_ g_:Nat}{fI:Bool}{s:SV}(hx:S.ev x=.sv s)(next:RunT P C ops nd K rest (⟨[g_]++aZ x,[],[],⟨some (d,.sv s),[],[]⟩⟩::acc) (S.set d (.sv s)))(B8:(ops[j_]?).bind (·.dst)=some g_:=by exact rfl)(B9:S.t g_=.sv (.v (.bool fI)):=by exact rfl)(hd:d<S.n:=by exact tl Y):RunT P C ops nd K (⟨some d,.move x,ty,pos,aft,some (j_,fI)⟩::rest) acc S:=
 RT.mv (.some B8 B9) hx hd next
theorem gl{j_ g_:Nat}{fI:Bool}{n:Nat}[tA:zC P T n]{j off:Nat}{B:nL}{cs:List SV}(hx:S.ev x=.ptr j off)(hB:S.b j=some B)(hcs:KM B.cells off cs)(next:RunT P C ops nd K rest (⟨[g_]++aZ x,[j],[],⟨some (d,.sv (.agg cs)),[],[]⟩⟩::acc) (S.set d (.sv (.agg cs))))(B8:(ops[j_]?).bind (·.dst)=some g_:=by exact rfl)(B9:S.t g_=.sv (.v (.bool fI)):=by exact rfl)(hn:cs.length=n:=by exact rfl)(hd:d<S.n:=by exact tl Y):RunT P C ops nd K (⟨some d,.load T x,ty,pos,aft,some (j_,fI)⟩::rest) acc S:=
 RT.load (.some B8 B9) hx hB hcs hn hd next
theorem gc{j_ g_:Nat}{fI:Bool}{f:FuncId}[dw P f]{g:Operand}{xs:Array Operand}{at_:Array TypeId}{args:List SV}{r:SV}(hp:Pure P f args r)(hargs:ga S xs.toList args)(next:RunT P C ops nd K rest (⟨[g_]++(aZ g++xs.toList.flatMap aZ),[],[],⟨some (d,.sv r),[],[]⟩⟩::acc) (S.set d (.sv r)))(B8:(ops[j_]?).bind (·.dst)=some g_:=by exact rfl)(B9:S.t g_=.sv (.v (.bool fI)):=by exact rfl)(hf:S.ev g=.sv (.v (.func (.func f) #[] #[])):=by exact rfl)(hd:d<S.n:=by exact tl Y):RunT P C ops nd K (⟨some d,.call ⟨.value g,xs,at_⟩,ty,pos,aft,some (j_,fI)⟩::rest) acc S:=
 RT.call (.some B8 B9) hp hf hargs hd next
theorem gr{j_ g_:Nat}{fI:Bool}[tV:pH P T]{cells:List SV}{s:SV}(hx:S.ev x=.sv (ref cells))(hn:cells[0]? =some s)(next:RunT P C ops nd K rest (⟨[g_]++aZ x,[],[],⟨some (d,.sv s),[],[]⟩⟩::acc) (S.set d (.sv s)))(B8:(ops[j_]?).bind (·.dst)=some g_:=by exact rfl)(B9:S.t g_=.sv (.v (.bool fI)):=by exact rfl)(hd:d<S.n:=by exact tl Y):RunT P C ops nd K (⟨some d,.load T x,ty,pos,aft,some (j_,fI)⟩::rest) acc S:=
 RT.dj (.some B8 B9) hx hn hd next
end
section
variable {P:Program}{C:Ctx}{ops:Array Oper}{S:AS}{nd:Bool}{K:List Ac->AS->Prop}{rest:List Oper}{acc:List Ac}
variable {gd:Option (Nat×Bool)}{rg:List Nat}{d:Nat}{ty:TypeId}{pos:String}{aft:Array Edge}{x y z:Operand}{T U E0:TypeId}
variable {l l' k:Ox}
theorem ww{op:Op}{j g:Nat}{b want:Bool}(next:RunT P C ops nd K rest (⟨[g],[],[],⟨some (d,.sv (.v undef)),[],[]⟩⟩::acc) (S.set d (.sv (.v undef))))(h1:(ops[j]?).bind (·.dst)=some g:=by exact rfl)(h2:S.t g=.sv (.v (.bool b)):=by exact rfl)(hb:b≠want:=by exact sk Y)(hd:d<S.n:=by exact tl Y):RunT P C ops nd K (⟨some d,op,ty,pos,aft,some (j,want)⟩::rest) acc S:=
 RT.skV h1 h2 hb hd next
theorem wu{op:Op}{j g:Nat}{want:Bool}(next:RunT P C ops nd K rest (⟨[g],[],[],⟨some (d,.sv (.v undef)),[],[]⟩⟩::acc) (S.set d (.sv (.v undef))))(h1:(ops[j]?).bind (·.dst)=some g:=by exact rfl)(h2:S.t g=.sv (.v undef):=by exact rfl)(hd:d<S.n:=by exact tl Y):RunT P C ops nd K (⟨some d,op,ty,pos,aft,some (j,want)⟩::rest) acc S:=
 RT.W8 h1 h2 hd next
end
section
variable {P:Program}{C:Ctx}{ops:Array Oper}{S:AS}{nd:Bool}{K:List Ac->AS->Prop}{rest:List Oper}{acc:List Ac}
variable {gd:Option (Nat×Bool)}{rg:List Nat}{d:Nat}{ty:TypeId}{pos:String}{aft:Array Edge}{x y z:Operand}{T U E0:TypeId}
variable {α:Type}{l l' k:List α}{e:α->List SV}{n by_:Nat}{zv:Value}
theorem ln{m:Nat}[tS:eE P T E0 m]{c:Int}(hx:S.ev x=.sv (slc n (l.map e)))(hc:(l.length:Int)=c)(next:RunT P C ops nd K rest (⟨[]++aZ x,[],[],⟨some (d,.sv (.v (.int .i64 c))),[],[]⟩⟩::acc) (S.set d (.sv (.v (.int .i64 c)))))(hd:d<S.n:=by exact tl Y):RunT P C ops nd K (⟨some d,.call ⟨.builtin .len,#[x],#[T]⟩,ty,pos,aft,none⟩::rest) acc S:=
 RT.W4 .none hx hd hc next
theorem al[tz:iu P T zv]{cs:List SV}(hi:cP (zv.cells.toList.map SV.v) cs){av:List AV}(hav:cs.map AV.sv=av)(next:RunT P C ops nd K rest (⟨[]++[],[d],[],⟨some (d,.ptr d 0),[(d,⟨T,av⟩)],[]⟩⟩::acc) ((S.jt d ⟨T,av⟩).set d (.ptr d 0)))(hd:d<S.n:=by exact tl Y)(hb:S.b d=none:=by exact rfl)(hp:C.gB d=none:=by exact rfl):RunT P C ops nd K (⟨some d,.alloc T,ty,pos,aft,none⟩::rest) acc S:=
 RT.qG .none hi hav hd hb hp next
theorem ix[tS:eE P T E0 n]{kk:IntKind}{i:Int}{a:α}(hx:S.ev x=.sv (slc n (l.map e)))(hy:S.ev y=.sv (.v (.int kk i)))(ha:cZ l i=some a)(next:RunT P C ops nd K rest (⟨[]++(aZ x++aZ y),[],[],⟨some (d,.sv (ref (e a))),[],[]⟩⟩::acc) (S.set d (.sv (ref (e a)))))(hd:d<S.n:=by exact tl Y):RunT P C ops nd K (⟨some d,.indexAddr T x y,ty,pos,aft,none⟩::rest) acc S:=
 RT.TB .none hx hy hd ha next
theorem bl[tS:eE P T E0 n][tE:ju P E0 n by_ zv]{len:Nat}{parts:Array (Nat×Operand)}{qs:List (Nat×List SV)}(hp:nh S parts.toList qs)(hc:o9 0 qs=true)(hl:qs.length=len)(hsz:(qs.all λq=>Nat.beq q.2.length n)=true)(hlen:Nat.ble (len*n) 16777216=true)(JR:(zv.cells.toList.all λv=>v.oneCell')=true)(jb:qs.map (·.2)=l.map e)(next:RunT P C ops nd K rest (⟨[]++kF parts.toList,[],[],⟨some (d,.sv (slc n (l.map e))),[],[]⟩⟩::acc) (S.set d (.sv (slc n (l.map e)))))(hd:d<S.n:=by exact tl Y):RunT P C ops nd K (⟨some d,.buildSlice T len parts,ty,pos,aft,none⟩::rest) acc S:=
 RT.eK .none hp hd hc hl hsz hlen JR jb next
theorem iR[tS:eE P T E0 n]{i j:Nat}{E1:TypeId}{kk:IntKind}{v:Int}(hx:S.ev x=.row i)(hR:S.r i=.live (TR E1 n e l))(hy:S.ev y=.sv (.v (.int kk v)))(h:oM l v=some j)(next:RunT P C ops nd K rest (⟨[]++(aZ x++aZ y),[],[i],⟨some (d,.iM i (j*n)),[],[]⟩⟩::acc) (S.set d (.iM i (j*n))))(hd:d<S.n:=by exact tl Y):RunT P C ops nd K (⟨some d,.indexAddr T x y,ty,pos,aft,none⟩::rest) acc S:=
 RT.abf .none hx hR hy hd h next
theorem aI{s X:SV}(hx:S.ev x=.sv s)(hi:SV.imp s X)(next:RunT P C ops nd K rest (⟨[]++aZ x,[],[],⟨some (d,.sv X),[],[]⟩⟩::acc) (S.set d (.sv X)))(hd:d<S.n:=by exact tl Y):RunT P C ops nd K (⟨some d,.assign x,ty,pos,aft,none⟩::rest) acc S:=
 RT.abd .none hx hi hd next
theorem bI{pl:List (Nat×Nat)}{zc:List Value}[tP:iB P T pl zc]{parts:Array (Nat×Operand)}{qs:List (Nat×List SV)}(hp:nh S parts.toList qs){cs cs':List SV}(hi:cP cs cs')(next:RunT P C ops nd K rest (⟨[]++kF parts.toList,[],[],⟨some (d,.sv (.agg cs')),[],[]⟩⟩::acc) (S.set d (.sv (.agg cs'))))(hf:uF (λi=>pl[i]?) (zc.map SV.v) qs=some cs:=by exact rfl)(hd:d<S.n:=by exact tl Y):RunT P C ops nd K (⟨some d,.build T parts,ty,pos,aft,none⟩::rest) acc S:=
 RT.TA .none hp hf hi hd next
theorem lR[tV:pH P T][el:EL e 1]{i j:Nat}{E1:TypeId}{a:α}{s:SV}(hx:S.ev x=.iM i (j*1))(hR:S.r i=.live (TR E1 1 e l))(ha:l[j]? =some a)(hs:e a=[s])(next:RunT P C ops nd K rest (⟨[]++aZ x,[],[i],⟨some (d,.sv s),[],[]⟩⟩::acc) (S.set d (.sv s)))(hd:d<S.n:=by exact tl Y):RunT P C ops nd K (⟨some d,.load T x,ty,pos,aft,none⟩::rest) acc S:=
 RT.W6 .none hx hR ha hs hd next
theorem aR[tS:eE P T E0 n][tE:ju P E0 n by_ zv]{i:Nat}(hx:S.ev x=.row i)(hR:S.r i=.live (TR E0 n e l))(hy:S.ev y=.sv (slc n (k.map e)))(h:zJ by_ l k=some l')(next:RunT P C ops nd K rest (⟨[]++(aZ x++aZ y),[],[i,d],⟨some (d,.row d),[],[(i,.dead),(d,.live (TR E0 n e l'))]⟩⟩::acc) ((AS.bY [(i,.dead),(d,.live (TR E0 n e l'))] S).set d (.row d)))(hd:d<S.n:=by exact tl Y)(xy:S.r d=.un:=by exact rfl)(vQ:d<1000:=by exact tl Y):RunT P C ops nd K (⟨some d,.call ⟨.builtin .append,#[x,y],#[T,T]⟩,ty,pos,aft,none⟩::rest) acc S:=
 RT.apR .none hx hR hy hd xy vQ h next
theorem sR[tV:pH P T][el:EL e 1]{i j:Nat}{E1:TypeId}{s:SV}[o1:One s](a:α)(hs:e a=[s])(hx:S.ev x=.iM i (j*1))(hR:S.r i=.live (TR E1 1 e l))(hy:S.ev y=.sv s)(h:stM l j a=some l')(next:RunT P C ops nd K rest (⟨[]++(aZ x++aZ y),[],[i],⟨none,[],[(i,.live (TR E1 1 e l'))]⟩⟩::acc) (AS.bY [(i,.live (TR E1 1 e l'))] S)):RunT P C ops nd K (⟨none,.store T x y,ty,pos,aft,none⟩::rest) acc S:=
 RT.abg .none a hs hx hR hy h next
theorem sA[tA:zC P T n][el:EL e n]{i j:Nat}{E1:TypeId}(a:α)(hx:S.ev x=.iM i (j*n))(hR:S.r i=.live (TR E1 n e l))(hy:S.ev y=.sv (.agg (e a)))(h:stM l j a=some l')(next:RunT P C ops nd K rest (⟨[]++(aZ x++aZ y),[],[i],⟨none,[],[(i,.live (TR E1 n e l'))]⟩⟩::acc) (AS.bY [(i,.live (TR E1 n e l'))] S)):RunT P C ops nd K (⟨none,.store T x y,ty,pos,aft,none⟩::rest) acc S:=
 RT.W7 .none a hx hR hy h next
theorem lL{m:Nat}[tS:eE P T E0 m]{i:Nat}{E1:TypeId}{c:Int}(hx:S.ev x=.row i)(hR:S.r i=.live (TR E1 n e l))(hc:(l.length:Int)=c)(next:RunT P C ops nd K rest (⟨[]++aZ x,[],[i],⟨some (d,.sv (.v (.int .i64 c))),[],[]⟩⟩::acc) (S.set d (.sv (.v (.int .i64 c)))))(hd:d<S.n:=by exact tl Y):RunT P C ops nd K (⟨some d,.call ⟨.builtin .len,#[x],#[T]⟩,ty,pos,aft,none⟩::rest) acc S:=
 RT.QY .none hx hR hd hc next
theorem cR{f:FuncId}[dw P f]{g:Operand}{xs:Array Operand}{at_:Array TypeId}{args:List AV}{E1:TypeId}{res:AV}(hp:Hq P f args (TR E1 n e l) res (l'.flatMap e))(hlen:l'.length=l.length)(i:Nat)(hR:S.r i=.live (TR E1 n e l))(hargs:uX S xs.toList (args.map (AV.yE i)))(next:RunT P C ops nd K rest (⟨[]++(aZ g++xs.toList.flatMap aZ),[],[i],⟨some (d,res.yE i),[],[(i,.live (TR E1 n e l'))]⟩⟩::acc) ((AS.bY [(i,.live (TR E1 n e l'))] S).set d (res.yE i)))(hrow:args.all AV.xA=true:=by exact rfl)(hres:res.xA=true:=by exact rfl)(hf:S.ev g=.sv (.v (.func (.func f) #[] #[])):=by exact rfl)(hd:d<S.n:=by exact tl Y):RunT P C ops nd K (⟨some d,.call ⟨.value g,xs,at_⟩,ty,pos,aft,none⟩::rest) acc S:=
 RT.TF .none hp hlen i hR hrow hres hf hargs hd next
theorem gn{j_ g_:Nat}{fI:Bool}{m:Nat}[tS:eE P T E0 m]{c:Int}(hx:S.ev x=.sv (slc n (l.map e)))(hc:(l.length:Int)=c)(next:RunT P C ops nd K rest (⟨[g_]++aZ x,[],[],⟨some (d,.sv (.v (.int .i64 c))),[],[]⟩⟩::acc) (S.set d (.sv (.v (.int .i64 c)))))(B8:(ops[j_]?).bind (·.dst)=some g_:=by exact rfl)(B9:S.t g_=.sv (.v (.bool fI)):=by exact rfl)(hd:d<S.n:=by exact tl Y):RunT P C ops nd K (⟨some d,.call ⟨.builtin .len,#[x],#[T]⟩,ty,pos,aft,some (j_,fI)⟩::rest) acc S:=
 RT.W4 (.some B8 B9) hx hd hc next
end
section
variable {P:Program}{C:Ctx}{ops:Array Oper}{S:AS}{nd:Bool}{K:List Ac->AS->Prop}{rest:List Oper}{acc:List Ac}
variable {gd:Option (Nat×Bool)}{rg:List Nat}{d:Nat}{ty:TypeId}{pos:String}{aft:Array Edge}{x y z:Operand}{T U E0 E1:TypeId}
theorem fl{f off:Nat}[hf:xm P T f off U][tV:pH P U]{cs:List SV}{s:SV}(hx:S.ev x=.sv (.agg cs))(hs:cs[off]? =some s)(next:RunT P C ops nd K rest (⟨[]++aZ x,[],[],⟨some (d,.sv s),[],[]⟩⟩::acc) (S.set d (.sv s)))(hd:d<S.n:=by exact tl Y):RunT P C ops nd K (⟨some d,.field T x f,ty,pos,aft,none⟩::rest) acc S:=
 RT.field .none hx hs hd next
end
end
end Go.Fw.Z
namespace Go.Fw
section
open Go.RowKit
def Mem.fr(M:Mem)(N:Nat):Mem:=λb o=>if N<=b then M b o else none
theorem Mem.Xf(M:Mem)(N:Nat):(M.fr N).le M:=λb o v h=>by
 unfold Mem.fr at h;split at h
 ·exact h
 cases h
theorem Mem.IS{M M':Mem}(h:M.le M')(N:Nat):(M.fr N).le (M'.fr N):=λb o v e=>by
 unfold Mem.fr at*;split at e
 ·rename_i hn;rw[if_pos hn];exact h b o v e
 cases e
theorem Mem.LU(M:Mem)(N:Nat):(M.fr N).fr N=M.fr N:=by
 funext b o;unfold Mem.fr;split<;>rfl
def nw(N:Nat)(s:SV):SV:=⟨λM v=>s.h (M.fr N) v/\∀g,v.ownBlock=some g->∃o,M.fr N g o=some (.agg #[]),λhM h=>⟨s.mono (Mem.IS hM N) h.1,λg e=>by obtain⟨o,q⟩:=h.2 g e;exact⟨o,Mem.IS hM N _ _ _ q⟩⟩⟩
theorem dY{N:Nat}{s:SV}:SV.imp (nw N s) s:=λM _ h=>s.mono (Mem.Xf M N) h.1
instance{N:Nat}{s:SV}{n:Nat}[h:ZB s n]:ZB (nw N s) n:=⟨λM v hv=>h.h M v (dY M v hv)⟩
instance{N:Nat}{s:SV}{n:Nat}{rows:List (List SV)}[h:ON s n rows]:ON (nw N s) n rows:=⟨λM v hv=>h.h M v (dY M v hv)⟩
instance{N:Nat}{s:SV}{n sz:Nat}{f:Nat->Nat->SV}[h:Sub s n sz f]:Sub (nw N s) n sz (λa b=>nw N (f a b)):=⟨λM v hv=>by
 obtain⟨a,c,e,hc,hs⟩:=h.h (M.fr N) v hv.1;refine⟨a,c,e,hc,λlo hi h1 h2=>⟨hs lo hi h1 h2,λg hg=>hv.2 g ?_⟩⟩;subst e;cases a with
 |none=>split at hg<;>cases hg
 |some a=>
  split at hg
  ·exact hg
  have e:(a.add (lo*sz)).block=a.block:=by unfold Addr.add;split<;>rfl
  rw[show(Value.slice (Option.map (λx=>x.add (lo*sz)) (some a)) (hi-lo) (c-lo)).ownBlock=some (a.add (lo*sz)).block from rfl,e]at hg;exact hg⟩
instance{N:Nat}{s:SV}[h:One s]:One (nw N s):=⟨λM v hv=>h.h _ v hv.1⟩
class Sup (N:Nat) (s:SV):Prop where
 h:∀M v,s.h M v->s.h (M.fr N) v
instance{N:Nat}{x:Value}:Sup N (.v x):=⟨λ_ _ h=>h⟩
instance{N:Nat}{s:SV}:Sup N (nw N s):=⟨λM v h=>by show s.h ((M.fr N).fr N) v/\∀g,v.ownBlock=some g->∃o,(M.fr N).fr N g o=some (.agg #[]);rw[Mem.LU];exact h⟩
class Pb (N:Nat) (l:List SV):Prop where
 h:∀s∈l,∀M v,s.h M v->s.h (M.fr N) v
instance{N:Nat}:Pb N []:=⟨λs h=>by cases h⟩
instance{N:Nat}{s:SV}{l:List SV}[a:Sup N s][b:Pb N l]:Pb N (s::l):=⟨λt ht=>by
 rcases List.mem_cons.1 ht with rfl|ht
 ·exact a.h
 exact b.h t ht⟩
class Ff (N:Nat) {α:Type} (e:α->List SV):Prop where
 h:∀x,Pb N (e x)
instance{N:Nat}:Ff N aX:=⟨λ_=>inferInstance⟩
instance{N:Nat}:Ff N cM:=⟨λ_=>inferInstance⟩
abbrev fZ(N:Nat)(z:Zr):List SV:=[.v (.bool z.neg),nw N (slc 1 (z.w.map aX))]
abbrev fQ(N:Nat)(q:Qr):List SV:=[.v (.bool q.num.neg),nw N (slc 1 (q.num.w.map aX)),.v (.bool q.den.neg),nw N (slc 1 (q.den.w.map aX))]
instance{N:Nat}:EL (fQ N) 4:=⟨λ_=>rfl,λ_=>inferInstance⟩
instance{N:Nat}:Ff N (fQ N):=⟨λ_=>inferInstance⟩
theorem bk{α:Type}{N n:Nat}{e:α->List SV}:SV.imp (.v (.slice none 0 0)) (nw N (slc n (([]:List α).map e))):=λ_ _ h=>⟨.inl ⟨none,h,rfl⟩,λg e=>by rw[show _=Value.slice none 0 0 from h]at e;cases e⟩
theorem Pc{α:Type}{n:Nat}{e e':α->List SV}(h:∀x,cP (e' x) (e x))(l:List α):SV.imp (slc n (l.map e')) (slc n (l.map e)):=by
 rintro M v (⟨a,h1,h2⟩|⟨b,o,c,h1,h2,h3,h4⟩)
 ·exact .inl ⟨a,h1,by have:=List.map_eq_nil_iff.1 h2;rw[this];rfl⟩
 refine .inr ⟨b,o,c,by simpa using h1,by simpa using h2,by simpa using h3,λi row hr=>?_⟩;rw[List.getElem?_map]at hr;cases hx:l[i]? with
 |none=>rw[hx]at hr;cases hr
 |some x=>
  rw[hx]at hr;have hr:e x=row:=Option.some.inj hr;subst hr;obtain⟨g1,g2⟩:=h4 i (e' x) (by rw[List.getElem?_map,hx];rfl);refine⟨by rw[cP.len (h x)];exact g1,λk s hs=>?_⟩;obtain⟨s2,B0,hi⟩:=cP.get (h x) hs;obtain⟨y,hy,ho,hh⟩:=g2 k s2 B0;exact⟨y,hy,ho,hi M y hh⟩
theorem zI(N:Nat)(z:Zr):cP (fZ N z) (eZ z):=⟨au,dY,aq⟩
theorem qI(N:Nat)(q:Qr):cP (fQ N q) (eQ q):=⟨au,dY,au,dY,aq⟩
theorem Oz{N:Nat}{l:List Qr}:SV.imp (nw N (slc 4 (l.map (fQ N)))) (slc 4 (l.map eQ)):=λM v h=>Pc (qI N) l M v (dY M v h)
theorem Dz{N n:Nat}{α:Type}{e:α->List SV}[he:Ff N e]{l:List α}{M:Mem}{v:Value}(h:(slc n (l.map e)).h M v)(hb:∀g,v.ownBlock=some g->N<=g/\∃o,M g o=some (.agg #[])):(nw N (slc n (l.map e))).h M v:=by
 refine⟨?_,λg hg=>by obtain⟨h1,o,h2⟩:=hb g hg;exact⟨o,by unfold Mem.fr;rw[if_pos h1];exact h2⟩⟩;rcases h with⟨a,h1,h2⟩|⟨b,o,c,h1,h2,h3,h4⟩
 ·exact .inl ⟨a,h1,h2⟩
 have hN:N<=b:=(hb b (by rw[h1];rfl)).1;refine .inr ⟨b,o,c,h1,h2,h3,λi row hr=>⟨(h4 i row hr).1,λk s hs=>?_⟩⟩;obtain⟨y,hy,ho,hh⟩:=(h4 i row hr).2 k s hs;refine⟨y,by unfold Mem.fr;rw[if_pos hN];exact hy,ho,?_⟩;rw[List.getElem?_map]at hr;cases hx:l[i]? with
 |none=>rw[hx]at hr;cases hr
 |some x=>
  rw[hx]at hr;have hr:e x=row:=Option.some.inj hr;subst hr;exact(he.h x).h s (List.mem_of_getElem? hs) M y hh
section
variable {P:Program}{C:Ctx}{S:AS}{Q:Exit->AS->Prop}
theorem bn.Pd{E:Env}{a:Act}{w:World}(h:bn C S E a w)(vs:List Value)(T:TypeId)(hone:∀v∈vs,v.oneCell'=true):bn C S {E with M:=λb o=>if b=w.heap.size then(vs++[.agg #[]])[o]? else E.M b o} a (w.alloc (.cells ⟨vs⟩ T)):=by
 have hno:∀o,E.M w.heap.size o=none:=λo=>by
  cases e:E.M w.heap.size o with
  |none=>rfl
  |some v=>have:=mS h.c8 e;omega
 refine h.grow (λb o v e=>?_) (λb o v e=>?_) (λb o v e=>?_) (((Below.refl _ _).alloc (Nat.le_refl _) _))
 ·have:b≠w.heap.size:=by rintro rfl;rw[hno o]at e;cases e
  simp[this,e]
 ·by_cases hb:b=w.heap.size
  ·exact .inr (by omega)
  simp only[if_neg hb]at e;exact .inl e
 by_cases hb:b=w.heap.size
 ·subst hb;simp only[if_true]at e;by_cases ho:o<vs.length
  ·rw[List.getElem?_append_left ho]at e;refine .of ?_ (hone v (List.mem_of_getElem? e));rw[World.cell?_alloc_new];simpa using e
  rw[List.getElem?_append_right (by omega)]at e;cases IT:o-vs.length with
  |succ k=>rw[IT]at e;simp at e
  |zero=>
   rw[IT]at e;simp at e;subst e;exact⟨⟨vs⟩,T,by show(w.heap.push _)[w.heap.size]? =_;rw[Array.getElem?_push,if_pos rfl]⟩
 simp only[if_neg hb]at e;refine(h.c8 b o v e).same ?_;show(w.heap.push _)[b]? =_;rw[Array.getElem?_push,if_neg hb]
theorem iS{c:Code}{i n N:Nat}{E1:TypeId}{α:Type}{e:α->List SV}{l:List α}[el:EL e n][he:Ff N e](hN:N<=C.w0.heap.size)(hb:∀k,¬C.tD k)(hR:S.r i=.live (TR E1 n e l))(hk:Ok P C c (S.nf i (nw N (slc n (l.map e)))) Q):Ok P C c S Q:=λa w hs=>by
 obtain⟨E,h⟩:=hs;have hlen:l.length<=9223372036854775807:=by
  obtain⟨⟨vs,ho,hv⟩,_⟩:=h.rx i _ hR;rcases ho.2 with⟨_,q2⟩|⟨g',cap,cur,q1,_,q2,q3,q4,q5,q6⟩
  ·have q2:l.length=0:=q2;omega
  have q3:l.length<=cap:=q3;have:maxLen=9223372036854775807:=by decide
  omega
 exact hk a w (h.nf hR (pK l) (by rw[List.length_map]) hlen (lK l) (λM v hv hg=>Dz hv (λg e=>⟨(hg g e).1.elim (λq=>Nat.le_trans hN q) (λq=>absurd q (hb g)),(hg g e).2⟩)))
def cL(P:Program)(f:FuncId)(N:Nat)(args:List SV)(r:SV):Prop:=
 ∀(M:Mem) (w:World) (vs:List Value),N<=w.heap.size->M.c8 w->SV.dZ M args vs->
  Calls P f ⟨vs⟩ w λe w'=>∃v M',e=.returned v/\M.le M'/\(∀b o x,M' b o=some x->M b o=some x\/w.heap.size<=b)/\M'.c8 w'/\r.h M' v/\Below w.heap.size w w'
theorem cL.w{f:FuncId}{N:Nat}{args args':List SV}{r:SV}(h:cL P f N args r)(hi:cP args' args):cL P f N args' r:=λM w vs hN hM hv=>h M w vs hN hM (hi.holds hv)
theorem bC{f:FuncId}{fn:Func}{code:Code}{N:Nat}{args:List SV}{r:SV}(hf:P.funcs[f]? =some fn)(hb:fn.body=some code)(hn:args.length<=fn.ntmps)
  (h:∀(w:World) (M:Mem) (vs:List Value),N<=w.heap.size->SV.dZ M args vs->Ok P (ES w M) code (AS.init fn.ntmps args) (λe S=>(e=.normal\/e=.ret)/\Lh P S fn.results.toList r)):cL P f N args r:=by
 intro M w vs hN hM hvs;refine(callsIn_wide (n:=0)).1 (callsIn_of_wp_marks (F:=Fence.wide) hf hb trivial ?_);refine wpIn_mono (h w M vs hN hvs _ w ⟨_,jR hM hvs hn⟩) ?_;rintro e a' w' ⟨S',⟨he,ss,QN,himp⟩,E,hh⟩;have key:LeavesInM Fence.wide 0 P fn a'.tmps (λe w'=>∃v M',e=.returned v/\M.le M'/\(∀b o x,M' b o=some x->M b o=some x\/w.heap.size<=b)/\M'.c8 w'/\r.h M' v/\Below w.heap.size w w') a'.defers .returning w':=by
  obtain⟨ds,h1,h2,h3⟩:=hh.marks;rw[h1];refine nv ds w' h2 (λr hr=>(h3 r hr).2.2) (λw2 g1 g2 g3 g4 g5=>?_);have BZ:=hh.Aa h3 g1 g2 g3 g4 g5;obtain⟨v,hv,hs⟩:=Dn BZ QN;refine⟨v,hv,v,E.M,Y,BZ.m0,λb o x e=>?_,BZ.c8,himp _ _ hs,BZ.os,BZ.tape,BZ.output,BZ.grown,λk hk=>BZ.frame k hk (λh=>h)⟩;rcases BZ.eC b o x e with h|h|h
  ·exact .inl h
  ·exact .inr h
  exact h.elim
 rcases he with rfl|rfl
 ·exact key
 exact key
theorem Pe{f:FuncId}{N:Nat}{args:List SV}{E1:TypeId}{n:Nat}{α:Type}{e:α->List SV}{l:List α}[el:EL e n][he:Ff N e](hp:E4 P f args (TR E1 n e l)):cL P f N args (nw N (slc n (l.map e))):=by
 intro M w vs hN hM hvs;refine(hp M w vs hM hvs).mono ?_;rintro ex w' ⟨v,M',us,rfl,hle,hnew,hin,hown,zD,jS,Xg⟩;have jb:Rows n (l.map e) (l.flatMap e):=pK l;have uE:=rV jb;rcases hown.2 with⟨h1,h2⟩|⟨g,cap,cur,h1,_,h2,h3,_,h5,h6⟩
 ·exact⟨v,M',rfl,hle,hnew,hin,⟨.inl ⟨none,h1,by have h2:l.length=0:=h2;rw[List.length_eq_zero_iff.1 h2];rfl⟩,λg e=>by rw[h1]at e;cases e⟩,Xg⟩
 have hg:v.ownBlock=some g:=by rw[h1];rfl
 obtain⟨hge,hno⟩:=jS g hg;have h3:l.length<=cap:=h3;have ahT:maxLen=9223372036854775807:=by decide
 refine⟨v,λb o=>if b=g/\o<l.length*n then us[o]? else if b=g/\o=l.length*n then some (.agg #[])else M' b o,Y,λb o x q=>?_,λb o x q=>?_,λb o x q=>?_,?_,Xg⟩
 ·have:=hle b o x q;have:b≠g:=by rintro rfl;rw[hno o]at this;cases this
  simp[this];assumption
 ·simp only at q;split at q
  ·rename_i hc;exact .inr (by rw[hc.1];exact hge)
  split at q
  ·rename_i hc;exact .inr (by rw[hc.1];exact hge)
  exact hnew b o x q
 ·simp only at q;split at q
  ·rename_i hc;obtain⟨rfl,ER⟩:=hc;refine .of ?_ (lK l _ _ zD x (List.mem_of_getElem? q));simp only[World.cell?,h2];have h6:cur.toList.take (l.length*n)=us:=h6;rw[<-h6,List.getElem?_take,if_pos ER]at q;simpa using q
  split at q
  ·rename_i hc;cases q;rw[hc.1];exact⟨_,_,h2⟩
  exact hin b o x q
 refine Dz ?_ (λg' e'=>by rw[hg]at e';cases e';exact⟨Nat.le_trans hN hge,l.length*n,by simp⟩);refine .inr ⟨g,0,cap,by rw[h1,List.length_map],by rw[List.length_map];exact h3,by rw[List.length_map];omega,λk row hk=>?_⟩;obtain⟨q1,q2⟩:=pI jb k row hk;refine⟨q1,λj s hs=>?_⟩;have B0:=q2 j s hs;obtain⟨y,hy,hys⟩:=zD.get B0;have hlt:k*n+j<l.length*n:=by
  have:=(List.getElem?_eq_some_iff.1 B0).1;rw[uE,List.length_map]at this;exact this
 refine⟨y,by simp[hlt,hy],lK l _ _ zD y (List.mem_of_getElem? hy),s.mono (λb o x q=>?_) hys⟩;have:b≠g:=by rintro rfl;rw[hno o]at q;cases q
 simp[this,q]
end
section
variable {P:Program}{C:Ctx}{ops:Array Oper}{S:AS}{nd:Bool}{K:List Ac->AS->Prop}{rest:List Oper}{acc:List Ac}
variable {gd:Option (Nat×Bool)}{rg:List Nat}{d:Nat}{ty:TypeId}{pos:String}{aft:Array Edge}{x y z:Operand}{T U E0:TypeId}
variable {α:Type}{l l' k:List α}{e:α->List SV}{n by_ N:Nat}{zv:Value}
theorem RT.bM(hg:Gd ops S gd rg){f:FuncId}[dw P f]{g:Operand}{xs:Array Operand}{at_:Array TypeId}{args:List SV}{r:SV}(hp:cL P f N args r)(hN:N<=C.w0.heap.size)(hf:S.ev g=.sv (.v (.func (.func f) #[] #[])))(hargs:ga S xs.toList args)(hd:d<S.n)
  (next:RunT P C ops nd K rest (⟨rg++(aZ g++xs.toList.flatMap aZ),[],[],⟨some (d,.sv r),[],[]⟩⟩::acc) (S.set d (.sv r))):RunT P C ops nd K (⟨some d,.call ⟨.value g,xs,at_⟩,ty,pos,aft,gd⟩::rest) acc S:=by
 refine .inl ⟨_,[],[],_,?_,next⟩;rintro S' hn ht _ _ i a w L Q ho ⟨E,h⟩ hL;refine cx (C:=C) ho (hg.wanted h (λs hs=>ht s (List.mem_append_left _ hs)) Y) ?_;have rT:a.eval g=.func (.func f) #[] #[]:=by
  have h1:=h.ev g;rw[bz (λ_ h=>List.mem_append_right _ (List.mem_append_left _ h)) ht,hf]at h1;exact h1
 have hall:=ga.vals h hargs (λs hs=>ht s (List.mem_append_right _ (List.mem_append_right _ hs)));have hr:(execOp a.eval ⟨some d,.call ⟨.value g,xs,at_⟩,ty,pos,aft,gd⟩).run P w=.ok (.enter f ⟨xs.toList.map a.eval⟩) w:=by
  have e2:xs.map a.eval=⟨xs.toList.map a.eval⟩:=by apply Array.ext';simp
  have e1:=dw.run (P:=P) (f:=f) (xs.map a.eval) w;rw[<-e2];simp[execOp,resolve,rT,Deferred.ofValue,invoke,e1]
 refine cq (C:=C) (by intro c h;cases h) hr ?_;refine⟨λh=>by simp at h,gh ((hp E.M w _ (Nat.le_trans hN h.grown) h.c8 hall).mono ?_)⟩;rintro e w' ⟨v,M',rfl,hM,hnew,hin,hv,hb⟩;exact hL _ _ ⟨_,(h.grow hM hnew hin hb).put (x:=.sv r) hv (by show d<S'.n;omega) eU⟩
theorem RT.CO(hg:Gd ops S gd rg){m:Nat}[tS:eE P T E0 m]{c:Int}(hx:S.ev x=.sv (nw N (slc n (l.map e))))(hd:d<S.n)(hc:(l.length:Int)=c)
  (next:RunT P C ops nd K rest (⟨rg++aZ x,[],[],⟨some (d,.sv (.v (.int .i64 c))),[],[]⟩⟩::acc) (S.set d (.sv (.v (.int .i64 c))))):RunT P C ops nd K (⟨some d,.call ⟨.builtin .len,#[x],#[T]⟩,ty,pos,aft,gd⟩::rest) acc S:=
 RT.len hg hx hd (by rw[List.length_map,hc];exact next)
theorem RT.Xh(hg:Gd ops S gd rg)[tS:eE P T E0 n]{kk:IntKind}{i:Int}{a:α}(hx:S.ev x=.sv (nw N (slc n (l.map e))))(hy:S.ev y=.sv (.v (.int kk i)))(hd:d<S.n)(ha:cZ l i=some a)
  (next:RunT P C ops nd K rest (⟨rg++(aZ x++aZ y),[],[],⟨some (d,.sv (ref (e a))),[],[]⟩⟩::acc) (S.set d (.sv (ref (e a))))):RunT P C ops nd K (⟨some d,.indexAddr T x y,ty,pos,aft,gd⟩::rest) acc S:=
 RT.indexAddr hg (e a) hx hy hd (pJ ha).1 (by rw[List.getElem?_map,(pJ ha).2];rfl) next
theorem RT.Pf(hg:Gd ops S gd rg)[tS:eE P T E0 n]{lo hi:Option Operand}(a b:Int)(hx:S.ev x=.sv (nw N (slc n (l.map e))))(hlo:Ag S 0 lo a)(hhi:Ag S l.length hi b)(hd:d<S.n)(h:y4 l a b=some l')
  (next:RunT P C ops nd K rest (⟨rg++(aZ x++(ni lo++ni hi)),[],[],⟨some (d,.sv (nw N (slc n (l'.map e)))),[],[]⟩⟩::acc) (S.set d (.sv (nw N (slc n (l'.map e)))))):RunT P C ops nd K (⟨some d,.slice T x lo hi none,ty,pos,aft,gd⟩::rest) acc S:=by
 obtain⟨h0,h1,h2,h3⟩:=CH h;exact RT.slice hg hx a b hlo (by rw[List.length_map];exact hhi) hd h0 h1 (by rw[List.length_map];exact h2) _ (by rw[IE,h3]) next
theorem RT.Xi(hg:Gd ops S gd rg)[tS:eE P T E0 n][tE:ju P E0 n by_ zv][el:EL e n][he:Ff N e]{i:Nat}(hN:N<=C.w0.heap.size)(hb:∀k,¬C.tD k)(hx:S.ev x=.row i)(hR:S.r i=.live (TR E0 n e l))(hy:S.ev y=.sv (slc n (k.map e)))(hd:d<S.n)(xy:S.r d=.un)(vQ:d<1000)(h:zJ by_ l k=some l')
  (next:RunT P C ops nd K rest (⟨rg++(aZ x++aZ y),[],[d,i],⟨some (d,.sv (nw N (slc n (l'.map e)))),[],[(i,.dead),(d,.dead)]⟩⟩::acc) ((AS.bY [(i,.dead),(d,.dead)] S).set d (.sv (nw N (slc n (l'.map e)))))):RunT P C ops nd K (⟨some d,.call ⟨.builtin .append,#[x,y],#[T,T]⟩,ty,pos,aft,gd⟩::rest) acc S:=by
 obtain⟨h1,h2,rfl⟩:=wh h;have hf:l.flatMap e++(k.map e).flatten=(l++k).flatMap e:=by simp[r5]
 exact RT.IK hg (.row hx hR) hy hd xy vQ (by simpa using h1) (by simpa using h2) _ (rows':=(l++k).map e) (λ_ _ hv hg=>Dz hv (λg e=>⟨(hg g e).1.elim (λq=>Nat.le_trans hN q) (λq=>absurd q (hb g)),(hg g e).2⟩)) (by rw[hf];exact pK _) (by simp) (by rw[hf];exact lK _) next
theorem RT.wm(hg:Gd ops S gd rg)[tS:eE P T E0 n][tE:ju P E0 n by_ zv][he:Ff N e](hN:N<=C.w0.heap.size){len:Nat}{parts:Array (Nat×Operand)}{qs:List (Nat×List SV)}(hp:nh S parts.toList qs)(hd:d<S.n)
  (hc:o9 0 qs=true) (hl:qs.length=len) (hsz:(qs.all λq=>Nat.beq q.2.length n)=true) (hlen:Nat.ble (len*n) 16777216=true) (JR:(zv.cells.toList.all λv=>v.oneCell')=true) (jb:qs.map (·.2)=l.map e)
  (next:RunT P C ops nd K rest (⟨rg++kF parts.toList,[],[],⟨some (d,.sv (nw N (slc n (l.map e)))),[],[]⟩⟩::acc) (S.set d (.sv (nw N (slc n (l.map e)))))):RunT P C ops nd K (⟨some d,.buildSlice T len parts,ty,pos,aft,gd⟩::rest) acc S:=by
 refine .inl ⟨_,[],[],_,?_,next⟩;rintro S' hn ht _ _ i a w L Q ho ⟨E,h⟩ hL;refine cx (C:=C) ho (hg.wanted h (λs hs=>ht s (List.mem_append_left _ hs)) Y) ?_;obtain⟨vs,hr,hall,hone⟩:=nO (P:=P) (T:=T) (E0:=E0) (n:=n) (by_:=by_) (zv:=zv) (d:=d) (ty:=ty) (pos:=pos) (aft:=aft) (gd:=gd) h hp (λs hs=>ht s (List.mem_append_right _ hs)) hc hl hsz (af hlen) (List.all_eq_true.1 JR);refine cq (C:=C) (by intro c h;cases h) hr (hL _ _ ⟨_,(h.Pd vs E0 hone).put (d:=d) (x:=.sv (nw N (slc n (l.map e)))) (v:=.slice (some ⟨w.heap.size,0,none⟩) len len) ?_ (by show d<S'.n;omega) eU⟩);have hrw:Rows n (qs.map (·.2)) (qs.map (·.2)).flatten:=⟨Y,λr hr=>by
  obtain⟨q,hq,rfl⟩:=List.mem_map.1 hr;exact Nat.eq_of_beq_eq_true (List.all_eq_true.1 hsz q hq)⟩
 have Lq:=tE.p;have hlb:len<=16777216:=Nat.le_trans (Nat.le_mul_of_pos_right _ Lq) (af hlen);refine Dz ?_ (λg e=>by cases e;exact⟨Nat.le_trans hN h.grown,vs.length,by simp⟩);rw[<-jb];refine .inr ⟨w.heap.size,0,len,by rw[List.length_map,hl],by rw[List.length_map,hl];exact Nat.le_refl _,by rw[List.length_map,hl];omega,λk row hk=>?_⟩;obtain⟨q1,q2⟩:=pI hrw k row hk;refine⟨q1,λj s hs=>?_⟩;obtain⟨y,hy,hys⟩:=hall.get (q2 j s hs);refine⟨y,by show(if w.heap.size=w.heap.size then(vs++[Value.agg #[]])[0+k*n+j]? else _)=_;rw[if_pos Y,Nat.zero_add,List.getElem?_append_left (List.getElem?_eq_some_iff.1 hy).1];exact hy,hone y (List.mem_of_getElem? hy),s.mono (λb o v e=>?_) hys⟩;have:b≠w.heap.size:=by rintro rfl;have:=mS h.c8 e;omega
 simp[this,e]
end
end
section
open Go.RowKit
theorem dO{P:Program}{f:FuncId}{args:List SV}{r:Nat->SV}{s:SV}(hp:∀N,cL P f N args (r N))(hi:∀N,SV.imp (r N) s):Pure P f args s:=λM w vs hM hv=>(hp w.heap.size M w vs (Nat.le_refl _) hM hv).mono (λ_ _ ⟨v,M',h1,h2,h3,h4,h5,h6⟩=>⟨v,M',h1,h2,h3,h4,hi _ _ _ h5,h6⟩)
section steps
variable {P:Program}{C:Ctx}{ops:Array Oper}{S:AS}{nd:Bool}{K:List Ac->AS->Prop}{rest:List Oper}{acc:List Ac}{N:Nat}
variable {gd:Option (Nat×Bool)}{rg:List Nat}{d:Nat}{ty:TypeId}{pos:String}{aft:Array Edge}{x y z:Operand}{T U E0:TypeId}
theorem RT.TI(hg:Gd ops S gd rg){f:FuncId}[dw P f]{g:Operand}{xs:Array Operand}{at_:Array TypeId}{args caps:List SV}{r:SV}(hp:cL P f N (args++caps) r)(hN:N<=C.w0.heap.size)(hf:S.ev g=.sv (iV f caps))(hargs:ga S xs.toList args)(hd:d<S.n)
  (next:RunT P C ops nd K rest (⟨rg++(aZ g++xs.toList.flatMap aZ),[],[],⟨some (d,.sv r),[],[]⟩⟩::acc) (S.set d (.sv r))):RunT P C ops nd K (⟨some d,.call ⟨.value g,xs,at_⟩,ty,pos,aft,gd⟩::rest) acc S:=by
 refine .inl ⟨_,[],[],_,?_,next⟩;rintro S' hn ht _ _ i a w L Q ho ⟨E,h⟩ hL;refine cx (C:=C) ho (hg.wanted h (λs hs=>ht s (List.mem_append_left _ hs)) Y) ?_;have rT:(iV f caps).h E.M (a.eval g):=by
  have h1:=h.ev g;rw[bz (λ_ h=>List.mem_append_right _ (List.mem_append_left _ h)) ht,hf]at h1;exact h1
 obtain⟨nP,rT,xI⟩:=rT;have hall:=SV.dZ.append (ga.vals h hargs (λs hs=>ht s (List.mem_append_right _ (List.mem_append_right _ hs)))) xI;have hr:(execOp a.eval ⟨some d,.call ⟨.value g,xs,at_⟩,ty,pos,aft,gd⟩).run P w=.ok (.enter f ⟨xs.toList.map a.eval++nP⟩) w:=by
  have e2:xs.map a.eval++⟨nP⟩=⟨xs.toList.map a.eval++nP⟩:=by apply Array.ext';simp
  have e1:=dw.run (P:=P) (f:=f) (xs.map a.eval++⟨nP⟩) w;rw[<-e2];simp[execOp,resolve,rT,Deferred.ofValue,invoke,e1]
 refine cq (C:=C) (by intro c h;cases h) hr ?_;refine⟨λh=>by simp at h,gh ((hp E.M w _ (Nat.le_trans hN h.grown) h.c8 hall).mono ?_)⟩;rintro e w' ⟨v,M',rfl,hM,hnew,hin,hv,hb⟩;exact hL _ _ ⟨_,(h.grow hM hnew hin hb).put (x:=.sv r) hv (by show d<S'.n;omega) eU⟩
end steps
end
end Go.Fw
namespace Go.Proofs.YtningmnklfpfjaaGreat
section
open Go.Fw
noncomputable def ek(x0:List Nat):Option (List Nat):=zJ 4 [] x0
noncomputable def bR(x0:Nat)(c0:Nat):Option (Nat×Nat):=(some ((x0+c0)%18446744073709551616)).bind λx6=>(some (x6/2^32)).bind λx8=>(some (x6%4294967296)).bind λef=>some (ef,x8)
noncomputable def bu(x0:List Nat):Option (List Nat):=(cy (λ(y5:(List Nat))=>(show Option (((List Nat))⊕((List Nat)))from cK (λ(Av:Bool)=>(bif Av then(some (y5.length:Int)).bind λgM=>(some (IntKind.i64.wrap (gM-1))).bind λfS=>(y4 y5 0 fS).bind λnk=>some (.inl nk)else some (.inr y5))) λKP=>(some (y5.length:Int)).bind λx4=>(some (decide ((0:Int)<x4))).bind λx5=>(bif x5 then(some (y5.length:Int)).bind λx9=>(some (IntKind.i64.wrap (x9-1))).bind λef=>(cZ y5 ef).bind λiN=>(some (decide ((iN:Nat)=0))).bind λiW=>some iW else some false).bind λxJ=>KP xJ)) x0).bind λAw=>some Aw
noncomputable def cu(x0:Bool)(x1:List Nat):Option (Zr):=(bu x1).bind λx6=>(some (x6.length:Int)).bind λx8=>(some (decide ((x8:Int)=0))).bind λx9=>(bif x9 then some ⟨false,[]⟩else some ⟨x0,x6⟩)
noncomputable def eL(x0:Bool)(x1:Nat):Option (Zr):=(some (decide ((x1:Nat)=0))).bind λx7=>(bif x7 then some ⟨false,[]⟩else(some (x1/2^32)).bind λiN=>(some (decide ((iN:Nat)=0))).bind λdP=>(bif dP then(some (x1%4294967296)).bind λeI=>some ⟨x0,[eI]⟩else(some (x1%4294967296)).bind λjc=>(some (x1/2^32)).bind λlB=>(some (lB%4294967296)).bind λjT=>some ⟨x0,[jc,jT]⟩))
noncomputable def dJ(x0:List Nat):Option (Nat):=(some (x0.length:Int)).bind λx4=>(some (decide ((x4:Int)=0))).bind λx6=>(bif x6 then some 0 else(some (decide ((x4:Int)=1))).bind λx8=>(bif x8 then(cZ x0 0).bind λef=>(some (ef%18446744073709551616)).bind λdP=>some dP else(cZ x0 0).bind λfC=>(some (fC%18446744073709551616)).bind λgX=>(cZ x0 1).bind λfS=>(some (fS%18446744073709551616)).bind λjc=>(some (jc*2^32%18446744073709551616)).bind λgN=>(some ((gX ||| gN)%18446744073709551616)).bind λlB=>some lB))
noncomputable def cW(x0:List Nat)(x1:List Nat):Option (Int):=(some (x0.length:Int)).bind λx7=>(some (x1.length:Int)).bind λx9=>(some (decide ((x7:Int)≠x9))).bind λef=>(bif ef then(some (x0.length:Int)).bind λdP=>(some (x1.length:Int)).bind λfC=>(some (decide ((dP:Int)<fC))).bind λeI=>(bif eI then some (-1)else some 1)else(some (x0.length:Int)).bind λgM=>(some (IntKind.i64.wrap (gM-1))).bind λfS=>(cy (λ(rJ:Int)=>(show Option ((Int)⊕((Unit)⊕(Int)))from(some (decide ((0:Int)<=rJ))).bind λjc=>(bif jc then(cZ x0 rJ).bind λyH=>(cZ x1 rJ).bind λiG=>(some (decide ((yH:Nat)≠iG))).bind λtJ=>(bif tJ then(cZ x0 rJ).bind λqH=>(cZ x1 rJ).bind λyI=>(some (decide ((qH:Nat)<yI))).bind λlu=>(bif lu then some (.inr (.inr (-1)))else some (.inr (.inr 1)))else(some (IntKind.i64.wrap (rJ-1))).bind λlB=>some (.inl lB))else some (.inr (.inl ()))))) fS).bind λe6=>match e6 with|.inr v6=>some v6|.inl _=>some 0)
noncomputable def eF(x0:List Nat)(x1:List Nat):Option (List Nat):=(some (x0.length:Int)).bind λef=>(some (x1.length:Int)).bind λdP=>(some (max (ef:Int) dP)).bind λiW=>(some (IntKind.i64.wrap (iW+1))).bind λfC=>(LD (α:=Nat) 4 fC).bind λeI=>(nR (λ(k:Nat) (s7:Nat×(List Nat))=>match s7 with|⟨wv,jd⟩=>(show Option (Nat×(List Nat))from(some (x0.getD k 0%18446744073709551616)).bind λp20=>(some (x1.getD k 0%18446744073709551616)).bind λp21=>(some ((p20+p21)%18446744073709551616)).bind λmU=>(bR mU wv).bind λ⟨lD,k9⟩=>(zJ 4 jd [lD]).bind λiG=>some (k9,iG))) (max x0.length x1.length) (0,eI)).bind λe7=>match e7 with|⟨wv,jd⟩=>(bR 0 wv).bind λ⟨jU,k11⟩=>(zJ 4 jd [jU]).bind λqH=>some qH
noncomputable def dg(x0:List Nat)(x1:List Nat):Option (List Nat):=(some (x0.length:Int)).bind λef=>(LD (α:=Nat) 4 ef).bind λiN=>(nR (λ(k:Nat) (s7:Nat×(List Nat))=>match s7 with|⟨zO,jd⟩=>(show Option (Nat×(List Nat))from(some (x0.getD k 0%18446744073709551616)).bind λp16=>(some (x1.getD k 0%18446744073709551616)).bind λp17=>(some (oF 18446744073709551616 4294967295 p17)).bind λlB=>(some ((p16+lB)%18446744073709551616)).bind λjT=>(bR jT zO).bind λ⟨iX,k9⟩=>(zJ 4 jd [iX]).bind λmU=>some (k9,mU))) (max x0.length x1.length) (1,iN)).bind λe7=>match e7 with|⟨zO,jd⟩=>some jd
noncomputable def fO(x0:List Nat)(x1:List Nat):Option (List Nat):=(some (x0.length:Int)).bind λdP=>(some (x1.length:Int)).bind λfC=>(some (IntKind.i64.wrap (dP+fC))).bind λeI=>(BS 4 eI (0:Nat)).bind λgX=>(some (x0.length:Int)).bind λfS=>(cy (λ(Wb:Int×(List Nat))=>match Wb with|⟨nS,DA⟩=>(show Option ((Int×(List Nat))⊕((List Nat)))from(some (decide ((nS:Int)<fS))).bind λjc=>(bif jc then(cZ x0 nS).bind λlB=>(some (x1.length:Int)).bind λmU=>(cy (λ(IU:Int×Nat×(List Nat))=>match IU with|⟨xK,wz,vg⟩=>(show Option ((Int×Nat×(List Nat))⊕(Nat×(List Nat)))from(some (decide ((xK:Int)<mU))).bind λnT=>(bif nT then(cZ x1 xK).bind λzP=>(some (IntKind.i64.wrap (nS+xK))).bind λrN=>(some (IntKind.i64.wrap (nS+xK))).bind λlu=>(oM vg lu).bind λxn=>(vg[xn]?).bind λsj=>(some (sj%18446744073709551616)).bind λrK=>(some (lB%18446744073709551616)).bind λDB=>(some (zP%18446744073709551616)).bind λtK=>(some ((DB*tK)%18446744073709551616)).bind λtL=>(some ((rK+tL)%18446744073709551616)).bind λWc=>(bR Wc wz).bind λ⟨um,k41⟩=>(oM vg rN).bind λFg=>(stM vg Fg um).bind λQZ=>(some (IntKind.i64.wrap (xK+1))).bind λxL=>some (.inl (xL,k41,QZ))else some (.inr (wz,vg))))) (0,0,DA)).bind λXj=>match Xj with|⟨Fh,Hw⟩=>(some (x1.length:Int)).bind λEH=>(some (IntKind.i64.wrap (nS+EH))).bind λPg=>(bR 0 Fh).bind λ⟨JY,k45⟩=>(oM Hw Pg).bind λKQ=>(stM Hw KQ JY).bind λl46=>(some (IntKind.i64.wrap (nS+1))).bind λHx=>some (.inl (Hx,l46))else some (.inr DA)))) (0,gX)).bind λvh=>some vh
noncomputable def gY(x0:List Nat)(x1:Nat):Option (Nat×List Nat):=(some (x0.length:Int)).bind λx9=>(some (IntKind.i64.wrap (x9-1))).bind λef=>(cy (λ(s8:Nat×Int×(List Nat))=>match s8 with|⟨LV,LW,qJ⟩=>(show Option ((Nat×Int×(List Nat))⊕(Nat×(List Nat)))from(some (decide ((0:Int)<=LW))).bind λdP=>(bif dP then(some (LV*2^32%18446744073709551616)).bind λgX=>(oM qJ LW).bind λnk=>(qJ[nk]?).bind λjc=>(some (jc%18446744073709551616)).bind λgN=>(some ((gX ||| gN)%18446744073709551616)).bind λlB=>(Du 18446744073709551616 lB x1).bind λlD=>(some (lD%4294967296)).bind λnT=>(oM qJ LW).bind λiG=>(stM qJ iG nT).bind λuo=>(B6 lB x1).bind λjU=>(some (IntKind.i64.wrap (LW-1))).bind λfC=>some (.inl (jU,fC,uo))else some (.inr (LV,qJ))))) (0,ef,x0)).bind λe8=>match e8 with|⟨Xk,zQ⟩=>(uI x0 zQ).bind λ_=>some (Xk,zQ)
noncomputable def fm(x0:List Nat)(x1:Nat):Option (List Nat):=(some (x0.length:Int)).bind λiN=>(some (IntKind.i64.wrap (iN+1))).bind λdP=>(LD (α:=Nat) 4 dP).bind λiW=>(some (x0.length:Int)).bind λeI=>(cy (λ(s8:Int×Nat×(List Nat))=>match s8 with|⟨wA,qK,jd⟩=>(show Option ((Int×Nat×(List Nat))⊕(Nat×(List Nat)))from(some (decide ((wA:Int)<eI))).bind λgM=>(bif gM then(cZ x0 wA).bind λfS=>(some (fS%18446744073709551616)).bind λjT=>(some (jT*2^(min x1 64)%18446744073709551616)).bind λyH=>(bR yH qK).bind λ⟨mU,TJ⟩=>(zJ 4 jd [mU]).bind λnT=>(some (IntKind.i64.wrap (wA+1))).bind λiG=>some (.inl (iG,TJ,nT))else some (.inr (qK,jd))))) (0,0,iW)).bind λe8=>match e8 with|⟨Ax,LX⟩=>(bR 0 Ax).bind λ⟨jU,k12⟩=>(zJ 4 LX [jU]).bind λqH=>some qH
noncomputable def iw(x0:List Nat)(x1:Nat):Option (List Nat):=(some (x0.length:Int)).bind λiN=>(some (IntKind.i64.wrap (iN+1))).bind λdP=>(LD (α:=Nat) 4 dP).bind λiW=>(some (x0.length:Int)).bind λeI=>(cy (λ(s8:Int×Nat×(List Nat))=>match s8 with|⟨wA,qK,DC⟩=>(show Option ((Int×Nat×(List Nat))⊕(Nat×(List Nat)))from(some (decide ((wA:Int)<eI))).bind λgM=>(bif gM then(cZ x0 wA).bind λfS=>(some (fS%18446744073709551616)).bind λjT=>(some (jT*2^(min x1 64)%18446744073709551616)).bind λyH=>(bR yH qK).bind λ⟨mU,TJ⟩=>(zJ 4 DC [mU]).bind λnT=>(some (IntKind.i64.wrap (wA+1))).bind λiG=>some (.inl (iG,TJ,nT))else some (.inr (qK,DC))))) (0,0,iW)).bind λe8=>match e8 with|⟨Ax,LY⟩=>(bR 0 Ax).bind λ⟨jU,k12⟩=>(zJ 4 LY [jU]).bind λqH=>some qH
noncomputable def gp(x0:Nat):Option (Int):=(some (decide ((65536:Nat)<=x0))).bind λx4=>cK (λ(j2:Nat×Int)=>match j2 with|⟨Hy,Ph⟩=>(some (decide ((256:Nat)<=Hy))).bind λx8=>cK (λ(j4:Nat×Int)=>match j4 with|⟨Xl,Xm⟩=>(some (Xl%256)).bind λeI=>(uH [0,1,2,2,3,3,3,3,4,4,4,4,4,4,4,4,5,5,5,5,5,5,5,5,5,5,5,5,5,5,5,5,6,6,6,6,6,6,6,6,6,6,6,6,6,6,6,6,6,6,6,6,6,6,6,6,6,6,6,6,6,6,6,6,7,7,7,7,7,7,7,7,7,7,7,7,7,7,7,7,7,7,7,7,7,7,7,7,7,7,7,7,7,7,7,7,7,7,7,7,7,7,7,7,7,7,7,7,7,7,7,7,7,7,7,7,7,7,7,7,7,7,7,7,7,7,7,7,8,8,8,8,8,8,8,8,8,8,8,8,8,8,8,8,8,8,8,8,8,8,8,8,8,8,8,8,8,8,8,8,8,8,8,8,8,8,8,8,8,8,8,8,8,8,8,8,8,8,8,8,8,8,8,8,8,8,8,8,8,8,8,8,8,8,8,8,8,8,8,8,8,8,8,8,8,8,8,8,8,8,8,8,8,8,8,8,8,8,8,8,8,8,8,8,8,8,8,8,8,8,8,8,8,8,8,8,8,8,8,8,8,8,8,8,8,8,8,8,8,8,8,8,8,8,8,8] ((eI:Nat):Int)).bind λgX=>(some (IntKind.i64.wrap (gX:Int))).bind λgM=>(some (IntKind.i64.wrap (Xm+gM))).bind λfS=>some fS) λK4=>(bif x8 then(some (Hy/2^8)).bind λef=>(some (IntKind.i64.wrap (Ph+8))).bind λdP=>K4 (ef,dP)else K4 (Hy,Ph))) λK2=>(bif x4 then(some (x0/2^16)).bind λx6=>K2 (x6,16)else K2 (x0,0))
noncomputable def dx(x0:Nat):Option (Int):=(gp x0).bind λx4=>(some (IntKind.i64.wrap (32-x4))).bind λx5=>some x5
noncomputable def gZ(x0:List Nat)(o0:Nat)(n0:Nat)(x1:List Nat):Option (Nat×List Nat):=(some (x1.length:Int)).bind λdP=>(Oy o0 n0 dP).bind λeI=>(x0[eI]?).bind λgX=>(some (gX%18446744073709551616)).bind λgM=>(some (gM*2^32%18446744073709551616)).bind λfS=>(some (IntKind.i64.wrap (dP-1))).bind λgN=>(Oy o0 n0 gN).bind λlB=>(x0[lB]?).bind λjT=>(some (jT%18446744073709551616)).bind λiX=>(some ((fS ||| iX)%18446744073709551616)).bind λyH=>(some (IntKind.i64.wrap (dP-1))).bind λnT=>(cZ x1 nT).bind λiG=>(some (iG%18446744073709551616)).bind λtJ=>(some (IntKind.i64.wrap (dP-2))).bind λqH=>(cZ x1 qH).bind λrN=>(some (rN%18446744073709551616)).bind λxo=>(Du 18446744073709551616 yH tJ).bind λlu=>(B6 yH tJ).bind λrK=>(cy (λ(DD:Nat×Nat)=>match DD with|⟨Ca,CP⟩=>(show Option ((Nat×Nat)⊕(Nat))from cK (λ(Hz:Bool)=>(bif Hz then(some (oF 18446744073709551616 Ca 1)).bind λXn=>(some ((CP+tJ)%18446744073709551616)).bind λG5=>(some (G5/2^32)).bind λKR=>(some (decide ((KR:Nat)≠0))).bind λHA=>(bif HA then some (.inr Xn)else some (.inl (Xn,G5)))else some (.inr Ca))) λKP=>(some (Ca/2^32)).bind λDB=>(some (decide ((DB:Nat)≠0))).bind λvR=>(bif vR then some true else(some ((Ca*xo)%18446744073709551616)).bind λum=>(some (CP*2^32%18446744073709551616)).bind λxL=>(some (IntKind.i64.wrap (dP-2))).bind λy7=>(Oy o0 n0 y7).bind λEH=>(x0[EH]?).bind λPg=>(some (Pg%18446744073709551616)).bind λx58=>(some ((xL ||| x58)%18446744073709551616)).bind λJY=>(some (decide ((JY:Nat)<um))).bind λKQ=>some KQ).bind λLZ=>KP LZ)) (lu,rK)).bind λJZ=>(uI x0 x0).bind λ_=>some (JZ,x0)
noncomputable def dh(x0:List Nat)(o0:Nat)(n0:Nat)(x1:List Nat)(x2:Nat):Option (Bool×List Nat):=(some (n0:Int)).bind λfC=>(cy (λ(za:Nat×Int×Nat×(List Nat))=>match za with|⟨J0,wB,DE,tN⟩=>(show Option ((Nat×Int×Nat×(List Nat))⊕(Nat×(List Nat)))from(some (decide ((wB:Int)<fC))).bind λgX=>(bif gX then(some (x1.length:Int)).bind λjc=>(some (decide ((wB:Int)<jc))).bind λgN=>cK (λ(L0:Nat)=>(Oy o0 n0 wB).bind λtJ=>(tN[tJ]?).bind λjU=>(some (jU%18446744073709551616)).bind λtO=>(bR L0 DE).bind λ⟨rB,k16⟩=>(some (rB%18446744073709551616)).bind λxo=>(some (oF 18446744073709551616 tO xo)).bind λyI=>(some (oF 18446744073709551616 yI J0)).bind λlu=>(some (lu%4294967296)).bind λAy=>(Oy o0 n0 wB).bind λDB=>(stM tN DB Ay).bind λl18=>(some (lu/2^63)).bind λtK=>(some (IntKind.i64.wrap (wB+1))).bind λtL=>some (.inl (tK,tL,k16,l18))) λK14=>(bif gN then(cZ x1 wB).bind λiX=>(some (iX%18446744073709551616)).bind λmU=>(some ((mU*x2)%18446744073709551616)).bind λnT=>K14 nT else K14 0)else some (.inr (J0,tN))))) (0,0,0,x0)).bind λKS=>match KS with|⟨L1,wC⟩=>(some (decide ((L1:Nat)≠0))).bind λum=>(uI x0 wC).bind λ_=>some (um,wC)
noncomputable def iC(x0:List Nat)(x1:List Nat):Option ((List Nat)×(List Nat)):=(some (x1.length:Int)).bind λgM=>(some (IntKind.i64.wrap (gM-1))).bind λjc=>(cZ x1 jc).bind λgN=>(dx gN).bind λjT=>(some ((jT%18446744073709551616).toNat)).bind λiX=>(iw x0 iX).bind λlD=>(fm x1 iX).bind λzP=>(y4 zP 0 gM).bind λjU=>(some (x0.length:Int)).bind λqH=>(some (IntKind.i64.wrap (qH-gM))).bind λrB=>(some (IntKind.i64.wrap (rB+1))).bind λxo=>(BS 4 xo (0:Nat)).bind λyI=>(some (x0.length:Int)).bind λlu=>(some (IntKind.i64.wrap (lu-gM))).bind λsj=>(cy (λ(TK:Int×(List Nat)×(List Nat))=>match TK with|⟨je,sn,vi⟩=>(show Option ((Int×(List Nat)×(List Nat))⊕((List Nat)×(List Nat)))from(some (decide ((0:Int)<=je))).bind λAy=>(bif Ay then(some (IntKind.i64.wrap (je+gM))).bind λFg=>(some (IntKind.i64.wrap (Fg+1))).bind λxL=>(TD vi je xL).bind λ⟨o53,n53⟩=>(gZ vi o53 n53 jU).bind λ⟨y7,J1⟩=>(uI vi J1).bind λ_=>(some (IntKind.i64.wrap (je+gM))).bind λKQ=>(some (IntKind.i64.wrap (KQ+1))).bind λHx=>(TD J1 je Hx).bind λ⟨o62,n62⟩=>(dh J1 o62 n62 jU y7).bind λ⟨x65,OA⟩=>(uI J1 OA).bind λ_=>cK (λ(Q0:Nat×(List Nat))=>match Q0 with|⟨L2,HB⟩=>(some (L2%4294967296)).bind λTL=>(oM sn je).bind λXo=>(stM sn Xo TL).bind λl55=>(some (IntKind.i64.wrap (je-1))).bind λvR=>some (.inl (vR,l55,HB))) λZP=>(bif x65 then(some (oF 18446744073709551616 y7 1)).bind λQ1=>(some (jU.length:Int)).bind λPj=>(cy (λ(TM:Int×Nat×(List Nat))=>match TM with|⟨xM,wD,vk⟩=>(show Option ((Int×Nat×(List Nat))⊕(Nat×(List Nat)))from(some (decide ((xM:Int)<Pj))).bind λJ2=>(bif J2 then(cZ jU xM).bind λx74=>(some (IntKind.i64.wrap (je+xM))).bind λPk=>(some (IntKind.i64.wrap (je+xM))).bind λx84=>(oM vk x84).bind λXp=>(vk[Xp]?).bind λOB=>(some (OB%18446744073709551616)).bind λOC=>(some (x74%18446744073709551616)).bind λTN=>(some ((OC+TN)%18446744073709551616)).bind λWd=>(bR Wd wD).bind λ⟨x91,k68⟩=>(oM vk Pk).bind λXq=>(stM vk Xq x91).bind λl69=>(some (IntKind.i64.wrap (xM+1))).bind λTO=>some (.inl (TO,k68,l69))else some (.inr (wD,vk))))) (0,0,OA)).bind λe65=>match e65 with|⟨Fi,Az⟩=>(some (IntKind.i64.wrap (je+gM))).bind λWe=>(some (IntKind.i64.wrap (je+gM))).bind λL3=>(oM Az L3).bind λCb=>(Az[Cb]?).bind λXr=>(some (Xr%18446744073709551616)).bind λXs=>(bR Xs Fi).bind λ⟨TP,k72⟩=>(oM Az We).bind λXt=>(stM Az Xt TP).bind λl73=>ZP (Q1,l73)else ZP (y7,OA))else some (.inr (sn,vi))))) (sj,yI,lD)).bind λe36=>match e36 with|⟨AA,xN⟩=>(BS 4 gM (0:Nat)).bind λXu=>(cy (λ(Wf:Int×(List Nat))=>match Wf with|⟨tQ,wE⟩=>(show Option ((Int×(List Nat))⊕((List Nat)))from(some (decide ((tQ:Int)<gM))).bind λTQ=>(bif TQ then(oM xN tQ).bind λXv=>(xN[Xv]?).bind λXw=>(some (Xw%18446744073709551616)).bind λTS=>(some (IntKind.i64.wrap (tQ+1))).bind λXx=>(oM xN Xx).bind λXy=>(xN[Xy]?).bind λXz=>(some (Xz%18446744073709551616)).bind λTT=>(some (TT*2^32%18446744073709551616)).bind λTU=>(some ((TS ||| TU)%18446744073709551616)).bind λTV=>(some (TV/2^(min iX 64))).bind λXA=>(some (XA%4294967296)).bind λTW=>(oM wE tQ).bind λXB=>(stM wE XB TW).bind λl83=>(some (IntKind.i64.wrap (tQ+1))).bind λTX=>some (.inl (TX,l83))else some (.inr wE)))) (0,Xu)).bind λqL=>some (AA,qL)
noncomputable def fP(x0:List Nat)(x1:List Nat):Option ((List Nat)×(List Nat)):=(cW x0 x1).bind λdP=>(some (decide ((dP:Int)<0))).bind λiW=>(bif iW then(ek x0).bind λeI=>some ([],eI)else(some (x0.length:Int)).bind λfS=>(some (decide ((fS:Int)<=2))).bind λnk=>(bif nk then(dJ x0).bind λgN=>(dJ x1).bind λjT=>(Du 18446744073709551616 gN jT).bind λmU=>(eL false mU).bind λ⟨XC,Q2⟩=>(B6 gN jT).bind λtJ=>(eL false tJ).bind λ⟨pM,oN⟩=>some (Q2,oN)else(some (x1.length:Int)).bind λrB=>(some (decide ((rB:Int)=1))).bind λxo=>(bif xo then(ek x0).bind λsq=>(cZ x1 0).bind λsj=>(some (sj%18446744073709551616)).bind λAy=>(gY sq Ay).bind λ⟨DB,l5⟩=>(uI sq l5).bind λ_=>(some (DB%4294967296)).bind λtL=>some (l5,[tL])else(iC x0 x1).bind λ⟨XD,XE⟩=>some (XD,XE))))
noncomputable def cf(x0:Int):Option (Zr):=(some ((x0%18446744073709551616).toNat)).bind λx5=>(some (decide ((x0:Int)<0))).bind λx7=>cK (λ(XF:Nat)=>(some (decide ((x0:Int)<0))).bind λiN=>(eL iN XF).bind λ⟨Fj,Fk⟩=>some ⟨Fj,Fk⟩) λK2=>(bif x7 then(some (oF 18446744073709551616 0 x5)).bind λx9=>K2 x9 else K2 x5)
noncomputable def dA(x0:Zr):Option (Int×Bool):=match x0 with|⟨bp,bt⟩=>(bu bt).bind λx8=>(some (x8.length:Int)).bind λef=>(some (decide ((2:Int)<ef))).bind λiN=>(bif iN then some (0,false)else(dJ x8).bind λiW=>(bif bp then(some (decide ((9223372036854775808:Nat)<iW))).bind λgM=>(bif gM then some (0,false)else(some (oF 18446744073709551616 0 iW)).bind λnk=>(some (IntKind.i64.wrap (nk:Int))).bind λjc=>some (jc,true))else(some (decide ((9223372036854775808:Nat)<=iW))).bind λlB=>(bif lB then some (0,false)else(some (IntKind.i64.wrap (iW:Int))).bind λiX=>some (iX,true))))
noncomputable def dr(x0:Bool)(x1:List Nat)(x2:Bool)(x3:List Nat):Option (Zr):=(some (x0==x2)).bind λiN=>(bif iN then(eF x1 x3).bind λeI=>(cu x0 eI).bind λ⟨mw,mz⟩=>some ⟨mw,mz⟩else(cW x1 x3).bind λnk=>(some (decide ((nk:Int)<0))).bind λjc=>(bif jc then(dg x3 x1).bind λiX=>(cu x2 iX).bind λ⟨lF,kI⟩=>some ⟨lF,kI⟩else(dg x1 x3).bind λiG=>(cu x0 iG).bind λ⟨uK,uL⟩=>some ⟨uK,uL⟩))
noncomputable def mA(x0:Zr)(x1:Zr):Option (Zr):=match x0 with|⟨bp,bt⟩=>match x1 with|⟨cC,cz⟩=>(dA ⟨bp,bt⟩).bind λ⟨Cc,HC⟩=>(dA ⟨cC,cz⟩).bind λ⟨DF,HD⟩=>cK (λ(AB:Bool)=>cK (λ(j5:Unit)=>(bu bt).bind λxn=>(bu cz).bind λvR=>(dr bp xn cC vR).bind λ⟨Fl,Fm⟩=>some ⟨Fl,Fm⟩) λK5=>(bif AB then(some (IntKind.i64.wrap (Cc+DF))).bind λmU=>(some (IntKind.i64.wrap ((BitVec.ofInt 64 Cc ^^^ BitVec.ofInt 64 mU).toNat))).bind λiG=>(some (IntKind.i64.wrap ((BitVec.ofInt 64 DF ^^^ BitVec.ofInt 64 mU).toNat))).bind λjU=>(some (IntKind.i64.wrap ((BitVec.ofInt 64 iG &&& BitVec.ofInt 64 jU).toNat))).bind λtO=>(some (decide ((0:Int)<=tO))).bind λqH=>(bif qH then(cf mU).bind λ⟨su,sw⟩=>some ⟨su,sw⟩else K5 ())else K5 ())) λK3=>(bif HC then some HD else some false).bind λFo=>K3 Fo
noncomputable def mB(x0:Zr)(x1:Zr):Option (Zr):=match x0 with|⟨bp,bt⟩=>match x1 with|⟨cC,cz⟩=>(dA ⟨bp,bt⟩).bind λ⟨Cc,HC⟩=>(dA ⟨cC,cz⟩).bind λ⟨DF,HD⟩=>cK (λ(AB:Bool)=>cK (λ(j5:Unit)=>(bu bt).bind λxn=>(some (!cC)).bind λAy=>(bu cz).bind λtK=>(dr bp xn Ay tK).bind λ⟨Q3,Q4⟩=>some ⟨Q3,Q4⟩) λK5=>(bif AB then(some (IntKind.i64.wrap (Cc-DF))).bind λmU=>(some (IntKind.i64.wrap ((BitVec.ofInt 64 Cc ^^^ BitVec.ofInt 64 DF).toNat))).bind λiG=>(some (IntKind.i64.wrap ((BitVec.ofInt 64 Cc ^^^ BitVec.ofInt 64 mU).toNat))).bind λjU=>(some (IntKind.i64.wrap ((BitVec.ofInt 64 iG &&& BitVec.ofInt 64 jU).toNat))).bind λtO=>(some (decide ((0:Int)<=tO))).bind λqH=>(bif qH then(cf mU).bind λ⟨su,sw⟩=>some ⟨su,sw⟩else K5 ())else K5 ())) λK3=>(bif HC then some HD else some false).bind λFo=>K3 Fo
noncomputable def cX(x0:Zr)(x1:Zr):Option (Zr):=match x0 with|⟨bp,bt⟩=>match x1 with|⟨cC,cz⟩=>(bu bt).bind λx9=>(bu cz).bind λdP=>cK (λ(L4:Bool)=>(bif L4 then(some (!(bp==cC))).bind λyH=>(dJ x9).bind λlD=>(dJ dP).bind λiG=>(some ((lD*iG)%18446744073709551616)).bind λzP=>(eL yH zP).bind λ⟨Q5,Q6⟩=>some ⟨Q5,Q6⟩else(some (!(bp==cC))).bind λrB=>(fO x9 dP).bind λsq=>(cu rB sq).bind λ⟨yJ,yK⟩=>some ⟨yJ,yK⟩)) λK3=>(some (x9.length:Int)).bind λfC=>(some (decide ((fC:Int)<=1))).bind λeI=>(bif eI then(some (dP.length:Int)).bind λfS=>(some (decide ((fS:Int)<=1))).bind λnk=>some nk else some false).bind λQ7=>K3 Q7
noncomputable def fJ(x0:Zr):Option (Zr):=match x0 with|⟨bp,bt⟩=>(some (!bp)).bind λx5=>(bu bt).bind λx8=>(ek x8).bind λx9=>(cu x5 x9).bind λ⟨Fp,Fq⟩=>some ⟨Fp,Fq⟩
noncomputable def c6(x0:Zr):Option (Int):=match x0 with|⟨bp,bt⟩=>(bu bt).bind λx6=>(some (x6.length:Int)).bind λx7=>(some (decide ((x7:Int)=0))).bind λx8=>(bif x8 then some 0 else(bif bp then some (-1)else some 1))
noncomputable def mD(x0:Zr)(x1:Zr):Option (Int):=match x0 with|⟨bp,bt⟩=>match x1 with|⟨cC,cz⟩=>(c6 ⟨bp,bt⟩).bind λx8=>(c6 ⟨cC,cz⟩).bind λef=>(some (decide ((x8:Int)<ef))).bind λfC=>(bif fC then some (-1)else(some (decide ((ef:Int)<x8))).bind λfS=>(bif fS then some 1 else(some (decide ((x8:Int)<0))).bind λgN=>(bif gN then(bu cz).bind λiX=>(bu bt).bind λlD=>(cW iX lD).bind λnT=>some nT else(bu bt).bind λtJ=>(bu cz).bind λqH=>(cW tJ qH).bind λrN=>some rN)))
noncomputable def eV(x0:Zr)(x1:Zr):Option (Zr×Zr×Int):=match x0 with|⟨bp,bt⟩=>match x1 with|⟨cC,cz⟩=>(bu bt).bind λiW=>(bu cz).bind λgX=>(some (gX.length:Int)).bind λfS=>(some (decide ((fS:Int)=0))).bind λnk=>(bif nk then some (⟨false,[]⟩,⟨false,[]⟩,7)else(fP iW gX).bind λ⟨L5,XG⟩=>(bu XG).bind λiG=>cK (λ(j3:Bool×Bool)=>match j3 with|⟨L6,HE⟩=>cK (λ(j5:(List Nat)×(List Nat))=>match j5 with|⟨XH,Q8⟩=>(some (!(HE==cC))).bind λtK=>(cu tK XH).bind λ⟨Q9,Ra⟩=>(cu false Q8).bind λ⟨CQ,CR⟩=>some (⟨Q9,Ra⟩,⟨CQ,CR⟩,0)) λK5=>(bif L6 then(eF L5 [1]).bind λsq=>(dg gX iG).bind λsj=>K5 (sq,sj)else K5 (L5,iG))) λK3=>(bif bp then(some (iG.length:Int)).bind λqH=>(some (decide ((0:Int)<qH))).bind λrN=>some rN else some false).bind λRb=>K3 (Rb,bp))
noncomputable def kq(x0:Zr)(x1:Zr):Option (Zr):=match x0 with|⟨bp,bt⟩=>match x1 with|⟨cC,cz⟩=>(bu bt).bind λiW=>(bu cz).bind λgX=>(cy (λ(za:(List Nat)×(List Nat))=>match za with|⟨J3,DG⟩=>(show Option (((List Nat)×(List Nat))⊕((List Nat)×(List Nat)))from cK (λ(HF:Bool)=>(bif HF then(fP J3 DG).bind λ⟨abG,XI⟩=>(bu XI).bind λyI=>some (.inl (DG,yI))else some (.inr (J3,DG)))) λK16=>(some (DG.length:Int)).bind λfS=>(some (decide ((0:Int)<fS))).bind λnk=>(bif nk then(some (J3.length:Int)).bind λlB=>(some (decide ((2:Int)<lB))).bind λjT=>(bif jT then some true else(some (DG.length:Int)).bind λmU=>(some (decide ((2:Int)<mU))).bind λlD=>some lD).bind λL7=>some L7 else some false).bind λL8=>K16 L8)) (iW,gX)).bind λKS=>match KS with|⟨L9,Ma⟩=>(some (Ma.length:Int)).bind λlu=>(some (decide ((lu:Int)=0))).bind λxn=>(bif xn then(ek L9).bind λrK=>(cu false rK).bind λ⟨Fs,Ft⟩=>some ⟨Fs,Ft⟩else(dJ L9).bind λvR=>(dJ Ma).bind λtL=>(cy (λ(Wg:Nat×Nat)=>match Wg with|⟨IV,xO⟩=>(show Option ((Nat×Nat)⊕(Nat))from(some (decide ((0:Nat)<xO))).bind λum=>(bif um then(B6 IV xO).bind λFu=>some (.inl (xO,Fu))else some (.inr IV)))) (vR,tL)).bind λCS=>(eL false CS).bind λ⟨Rc,Rd⟩=>some ⟨Rc,Rd⟩)
end
section
open Go.Fw Go.Fw.Z Go.RowKit
theorem eG(c:Nat):Tp ah 186 [.v (.int .u64 (c:Nat))] 202 128 [.v (.int .u64 (c:Nat))]:=by
 refine Hr Tryz.func186 Y (af Y) (λee M vs hvs=>?_);exact sr<|RT.xw .none (s:=.sv _) Y T Y Y<|ag Y<|dn<|sr<|RT.makeFunc .none (.box Y (.nil)) T<|an (s:=.fW _ _) Y<|dn<|bh<|⟨.inr Y,_,.tmp Y,Y⟩
theorem sy(a b:List Nat):Pure ah 206 [(slc 1 (List.map aX a)),(slc 1 (List.map aX b))] (iV 214 [ref [(slc 1 (List.map aX a))],ref [(slc 1 (List.map aX b))]]):=by
 refine bw Tryz.func206 Y (af Y) (λee M vs hvs=>?_);refine sr<|RT.xw .none (s:=.sv _) Y T Y Y<|RT.xw .none (s:=.sv _) Y T Y Y<|ag Y<|dn<|sr<|RT.makeFunc .none (.box Y (.box Y (.nil))) T<|an (s:=.fW _ _) Y<|dn<|cY (gW (i:=2) Y [(slc 1 (List.map aX a))] (.cons Y .nil) .any 0 [(4,.fW 214 [.val (ref [(slc 1 (List.map aX a))]),.box 3])] (λ_ _ _=>trivial) (qA.h (l:=[(slc 1 (List.map aX a))])) ⟨@FT.fW _ _ _ _ _ 4 214 [.box 2,.box 3] Y,aq⟩) ?_;exact cY (gW (i:=3) Y [(slc 1 (List.map aX b))] (.cons Y .nil) .any 0 [(4,.fW 214 [.val (ref [(slc 1 (List.map aX a))]),.val (ref [(slc 1 (List.map aX b))])])] (λ_ _ _=>trivial) (qA.h (l:=[(slc 1 (List.map aX b))])) ⟨@FT.fW _ _ _ _ _ 4 214 [.val (ref [(slc 1 (List.map aX a))]),.box 3] Y,aq⟩)<|cY (Ds 4 (iV 214 [ref [(slc 1 (List.map aX a))],ref [(slc 1 (List.map aX b))]]) (λ_ _ h=>Dt h))<|bh<|⟨.inr Y,Dr (.tmp Y (.nil)) Y⟩
theorem sB(a b:List Nat):Iter ah 214 [ref [(slc 1 (List.map aX a))],ref [(slc 1 (List.map aX b))]] (max a.length b.length) (λk=>[.v (.int .u64 ((a.getD k 0%18446744073709551616:Nat):Int)),.v (.int .u64 ((b.getD k 0%18446744073709551616:Nat):Int))]):=by
 refine qF Tryz.func214 Y Y (af Y) (λee M O l J hJ xI hr=>?_);obtain⟨nP,xI⟩:=xI;have hla:a.length<=9223372036854775807:=by cases nP with|nil=>exact xI.elim|cons _ nP=>exact zK xI.1
 have hlb:b.length<=9223372036854775807:=by cases nP with|nil=>exact xI.elim|cons _ nP=>cases nP with|nil=>exact xI.2.elim|cons _ _=>exact zK xI.2.1
 refine bH ?_;refine aW ?_;refine RT.dj .none Y Y (tl Y) ?_;refine RT.len .none Y (tl Y) ?_;refine RT.dj .none Y Y (tl Y) ?_;refine RT.len .none Y (tl Y) ?_;refine RT.max .none (((max a.length b.length:Nat):Int)) Y Y (tl Y) (by simp only[List.length_map];split<;>omega) ?_;refine RT.mv .none Y (tl Y) ?_;refine RT.done ?_;refine aV.n ?_;refine bj ?_
 refine vV (I:=λx:{i:Nat//i<=max a.length b.length}=>AS.cI 39 [(0,.sv (.v (.func (.yield l) #[] #[]))),(1,.sv (ref [(slc 1 (List.map aX a))])),(2,.sv (ref [(slc 1 (List.map aX b))])),(11,ai ((max a.length b.length:Nat):Int)),(12,ai ((x.1:Nat):Int))] [] [] (x.1)) (μ:=λx=>max a.length b.length-x.1) ⟨0,by omega⟩ (by(try dsimp only);exact ec id Y Y Y Y Y ⟨.sv (by first|exact au|exact SV.aY (by omega)|exact SV.aY (by push_cast;omega)|exact SV.aY (by dsimp only;omega)|exact SV.imp_eq (by simp)),.sv (by first|exact au|exact SV.aY (by omega)|exact SV.aY (by push_cast;omega)|exact SV.aY (by dsimp only;omega)|exact SV.imp_eq (by simp)),.sv (by first|exact au|exact SV.aY (by omega)|exact SV.aY (by push_cast;omega)|exact SV.aY (by dsimp only;omega)|exact SV.imp_eq (by simp)),.sv (by first|exact au|exact SV.aY (by omega)|exact SV.aY (by push_cast;omega)|exact SV.aY (by dsimp only;omega)|exact SV.imp_eq (by simp)),.sv (by first|exact au|exact SV.aY (by omega)|exact SV.aY (by push_cast;omega)|exact SV.aY (by dsimp only;omega)|exact SV.imp_eq (by simp)),aq⟩ trivial trivial (λ_ _=>Y)) ?_;rintro⟨i,TY⟩
 try dsimp only
 rcases At a b i TY with⟨hi,xz,BQ⟩|⟨hi,xz,BQ⟩|⟨hi,xz,BQ⟩|hi
 ·
  refine bH ?_;refine aW ?_;refine RT.lss .none (true) Y Y (tl Y) (by simp;omega) ?_;refine RT.done ?_;refine aV.n ?_;refine bH ?_;refine cJ Y ?_;refine bA ?_;refine aV.n ?_;refine bH ?_;refine bj ?_;refine bH ?_;refine aW ?_;refine RT.mv .none Y (tl Y) ?_;refine RT.Ah .none Y (tl Y) ?_;refine RT.done ?_;refine aV.n ?_;refine bH ?_;refine aW ?_;refine RT.Ah .none Y (tl Y) ?_;refine RT.Ah .none Y (tl Y) ?_;refine RT.done ?_;refine aV.n ?_;refine bH ?_;refine bH ?_;refine aW ?_;refine RT.mv .none Y (tl Y) ?_;refine RT.dj .none Y Y (tl Y) ?_;refine RT.len .none Y (tl Y) ?_;refine RT.lss .none (true) Y Y (tl Y) (by simp only[List.length_map];simp;omega) ?_;refine RT.done ?_;refine aV.n ?_;refine cJ Y ?_;refine aW ?_;refine RT.dj .none Y Y (tl Y) ?_;refine RT.mv .none Y (tl Y) ?_;refine RT.Ls .none [.v (.int .u32 ((a.getD i 0:Nat):Int))] (Int.natCast_nonneg i) (by rw[Int.toNat_natCast,List.getElem?_map,r9 xz];rfl) Y Y (tl Y) ?_;refine RT.dj .none Y Y (tl Y) ?_;refine RT.conv .none (((a.getD i 0%18446744073709551616:Nat):Int)) Y (tl Y) OZ ?_;refine RT.Ah .none Y (tl Y) ?_;refine RT.done ?_;refine aV.n ?_;refine bH ?_;refine bH ?_;refine aW ?_;refine RT.mv .none Y (tl Y) ?_
  refine RT.dj .none Y Y (tl Y) ?_;refine RT.len .none Y (tl Y) ?_;refine RT.lss .none (true) Y Y (tl Y) (by simp only[List.length_map];simp;omega) ?_;refine RT.done ?_;refine aV.n ?_;refine cJ Y ?_;refine aW ?_;refine RT.dj .none Y Y (tl Y) ?_;refine RT.mv .none Y (tl Y) ?_;refine RT.Ls .none [.v (.int .u32 ((b.getD i 0:Nat):Int))] (Int.natCast_nonneg i) (by rw[Int.toNat_natCast,List.getElem?_map,r9 BQ];rfl) Y Y (tl Y) ?_;refine RT.dj .none Y Y (tl Y) ?_;refine RT.conv .none (((b.getD i 0%18446744073709551616:Nat):Int)) Y (tl Y) OZ ?_;refine RT.Ah .none Y (tl Y) ?_;refine RT.done ?_;refine aV.n ?_;refine bH ?_;refine aW ?_;refine RT.mv .none Y (tl Y) ?_;refine RT.mv .none Y (tl Y) ?_;refine RT.mv .none Y (tl Y) ?_;refine RT.yield .none hr Y (λ_ h=>h) Y (i) Y Y hi (by exact⟨Y,Y,aq⟩) (tl Y) (λyb=>?_);cases yb
  ·
   refine RT.not .none Y (tl Y) true Y ?_;refine RT.done ?_;refine aV.n ?_;refine cJ Y ?_;refine bh ?_;refine bG.r ?_;refine aV.r ?_;refine aV.r ?_;refine bG.r ?_;exact⟨.inr rfl,(λh=>by cases h)⟩
  refine RT.not .none Y (tl Y) false Y ?_;refine RT.done ?_;refine aV.n ?_;refine dV Y ?_;refine bA ?_;refine bG.n ?_;refine aV.n ?_;refine aW ?_;refine RT.add .none (((i:Nat):Int)+1) Y Y (tl Y) (kG (by omega)) ?_;refine RT.mv .none Y (tl Y) ?_;refine RT.done ?_;refine aV.n ?_;refine⟨⟨i+1,by omega⟩,(by dsimp only;omega),?_⟩
  try dsimp only
  exact ec id Y Y Y Y Y ⟨.sv (by first|exact au|exact SV.aY (by omega)|exact SV.aY (by push_cast;omega)|exact SV.aY (by dsimp only;omega)|exact SV.imp_eq (by simp)),.sv (by first|exact au|exact SV.aY (by omega)|exact SV.aY (by push_cast;omega)|exact SV.aY (by dsimp only;omega)|exact SV.imp_eq (by simp)),.sv (by first|exact au|exact SV.aY (by omega)|exact SV.aY (by push_cast;omega)|exact SV.aY (by dsimp only;omega)|exact SV.imp_eq (by simp)),.sv (by first|exact au|exact SV.aY (by omega)|exact SV.aY (by push_cast;omega)|exact SV.aY (by dsimp only;omega)|exact SV.imp_eq (by simp)),.sv (by first|exact au|exact SV.aY (by omega)|exact SV.aY (by push_cast;omega)|exact SV.aY (by dsimp only;omega)|exact SV.imp_eq (by simp)),aq⟩ trivial trivial (λ_ _=>Y)
 ·
  refine bH ?_;refine aW ?_;refine RT.lss .none (true) Y Y (tl Y) (by simp;omega) ?_;refine RT.done ?_;refine aV.n ?_;refine bH ?_;refine cJ Y ?_;refine bA ?_;refine aV.n ?_;refine bH ?_;refine bj ?_;refine bH ?_;refine aW ?_;refine RT.mv .none Y (tl Y) ?_;refine RT.Ah .none Y (tl Y) ?_;refine RT.done ?_;refine aV.n ?_;refine bH ?_;refine aW ?_;refine RT.Ah .none Y (tl Y) ?_;refine RT.Ah .none Y (tl Y) ?_;refine RT.done ?_;refine aV.n ?_;refine bH ?_;refine bH ?_;refine aW ?_;refine RT.mv .none Y (tl Y) ?_;refine RT.dj .none Y Y (tl Y) ?_;refine RT.len .none Y (tl Y) ?_;refine RT.lss .none (true) Y Y (tl Y) (by simp only[List.length_map];simp;omega) ?_;refine RT.done ?_;refine aV.n ?_;refine cJ Y ?_;refine aW ?_;refine RT.dj .none Y Y (tl Y) ?_;refine RT.mv .none Y (tl Y) ?_;refine RT.Ls .none [.v (.int .u32 ((a.getD i 0:Nat):Int))] (Int.natCast_nonneg i) (by rw[Int.toNat_natCast,List.getElem?_map,r9 xz];rfl) Y Y (tl Y) ?_;refine RT.dj .none Y Y (tl Y) ?_;refine RT.conv .none (((a.getD i 0%18446744073709551616:Nat):Int)) Y (tl Y) OZ ?_;refine RT.Ah .none Y (tl Y) ?_;refine RT.done ?_;refine aV.n ?_;refine bH ?_;refine bH ?_;refine aW ?_;refine RT.mv .none Y (tl Y) ?_
  refine RT.dj .none Y Y (tl Y) ?_;refine RT.len .none Y (tl Y) ?_;refine RT.lss .none (false) Y Y (tl Y) (by simp only[List.length_map];simp;omega) ?_;refine RT.done ?_;refine aV.n ?_;refine dV Y ?_;refine bA ?_;refine aV.n ?_;refine bH ?_;refine aW ?_;refine RT.mv .none Y (tl Y) ?_;refine RT.mv .none Y (tl Y) ?_;refine RT.mv .none Y (tl Y) ?_;refine RT.yield .none hr Y (λ_ h=>h) Y (i) Y Y hi (by exact⟨Y,(by show AV.sv _=AV.sv _;rw[vf BQ];rfl),aq⟩) (tl Y) (λyb=>?_);cases yb
  ·
   refine RT.not .none Y (tl Y) true Y ?_;refine RT.done ?_;refine aV.n ?_;refine cJ Y ?_;refine bh ?_;refine bG.r ?_;refine aV.r ?_;refine aV.r ?_;refine bG.r ?_;exact⟨.inr rfl,(λh=>by cases h)⟩
  refine RT.not .none Y (tl Y) false Y ?_;refine RT.done ?_;refine aV.n ?_;refine dV Y ?_;refine bA ?_;refine bG.n ?_;refine aV.n ?_;refine aW ?_;refine RT.add .none (((i:Nat):Int)+1) Y Y (tl Y) (kG (by omega)) ?_;refine RT.mv .none Y (tl Y) ?_;refine RT.done ?_;refine aV.n ?_;refine⟨⟨i+1,by omega⟩,(by dsimp only;omega),?_⟩
  try dsimp only
  exact ec id Y Y Y Y Y ⟨.sv (by first|exact au|exact SV.aY (by omega)|exact SV.aY (by push_cast;omega)|exact SV.aY (by dsimp only;omega)|exact SV.imp_eq (by simp)),.sv (by first|exact au|exact SV.aY (by omega)|exact SV.aY (by push_cast;omega)|exact SV.aY (by dsimp only;omega)|exact SV.imp_eq (by simp)),.sv (by first|exact au|exact SV.aY (by omega)|exact SV.aY (by push_cast;omega)|exact SV.aY (by dsimp only;omega)|exact SV.imp_eq (by simp)),.sv (by first|exact au|exact SV.aY (by omega)|exact SV.aY (by push_cast;omega)|exact SV.aY (by dsimp only;omega)|exact SV.imp_eq (by simp)),.sv (by first|exact au|exact SV.aY (by omega)|exact SV.aY (by push_cast;omega)|exact SV.aY (by dsimp only;omega)|exact SV.imp_eq (by simp)),aq⟩ trivial trivial (λ_ _=>Y)
 ·
  refine bH ?_;refine aW ?_;refine RT.lss .none (true) Y Y (tl Y) (by simp;omega) ?_;refine RT.done ?_;refine aV.n ?_;refine bH ?_;refine cJ Y ?_;refine bA ?_;refine aV.n ?_;refine bH ?_;refine bj ?_;refine bH ?_;refine aW ?_;refine RT.mv .none Y (tl Y) ?_;refine RT.Ah .none Y (tl Y) ?_;refine RT.done ?_;refine aV.n ?_;refine bH ?_;refine aW ?_;refine RT.Ah .none Y (tl Y) ?_;refine RT.Ah .none Y (tl Y) ?_;refine RT.done ?_;refine aV.n ?_;refine bH ?_;refine bH ?_;refine aW ?_;refine RT.mv .none Y (tl Y) ?_;refine RT.dj .none Y Y (tl Y) ?_;refine RT.len .none Y (tl Y) ?_;refine RT.lss .none (false) Y Y (tl Y) (by simp only[List.length_map];simp;omega) ?_;refine RT.done ?_;refine aV.n ?_;refine dV Y ?_;refine bA ?_;refine aV.n ?_;refine bH ?_;refine bH ?_;refine aW ?_;refine RT.mv .none Y (tl Y) ?_;refine RT.dj .none Y Y (tl Y) ?_;refine RT.len .none Y (tl Y) ?_;refine RT.lss .none (true) Y Y (tl Y) (by simp only[List.length_map];simp;omega) ?_;refine RT.done ?_;refine aV.n ?_;refine cJ Y ?_;refine aW ?_;refine RT.dj .none Y Y (tl Y) ?_;refine RT.mv .none Y (tl Y) ?_
  refine RT.Ls .none [.v (.int .u32 ((b.getD i 0:Nat):Int))] (Int.natCast_nonneg i) (by rw[Int.toNat_natCast,List.getElem?_map,r9 BQ];rfl) Y Y (tl Y) ?_;refine RT.dj .none Y Y (tl Y) ?_;refine RT.conv .none (((b.getD i 0%18446744073709551616:Nat):Int)) Y (tl Y) OZ ?_;refine RT.Ah .none Y (tl Y) ?_;refine RT.done ?_;refine aV.n ?_;refine bH ?_;refine aW ?_;refine RT.mv .none Y (tl Y) ?_;refine RT.mv .none Y (tl Y) ?_;refine RT.mv .none Y (tl Y) ?_;refine RT.yield .none hr Y (λ_ h=>h) Y (i) Y Y hi (by exact⟨(by show AV.sv _=AV.sv _;rw[vf xz];rfl),Y,aq⟩) (tl Y) (λyb=>?_);cases yb
  ·
   refine RT.not .none Y (tl Y) true Y ?_;refine RT.done ?_;refine aV.n ?_;refine cJ Y ?_;refine bh ?_;refine bG.r ?_;refine aV.r ?_;refine aV.r ?_;refine bG.r ?_;exact⟨.inr rfl,(λh=>by cases h)⟩
  refine RT.not .none Y (tl Y) false Y ?_;refine RT.done ?_;refine aV.n ?_;refine dV Y ?_;refine bA ?_;refine bG.n ?_;refine aV.n ?_;refine aW ?_;refine RT.add .none (((i:Nat):Int)+1) Y Y (tl Y) (kG (by omega)) ?_;refine RT.mv .none Y (tl Y) ?_;refine RT.done ?_;refine aV.n ?_;refine⟨⟨i+1,by omega⟩,(by dsimp only;omega),?_⟩
  try dsimp only
  exact ec id Y Y Y Y Y ⟨.sv (by first|exact au|exact SV.aY (by omega)|exact SV.aY (by push_cast;omega)|exact SV.aY (by dsimp only;omega)|exact SV.imp_eq (by simp)),.sv (by first|exact au|exact SV.aY (by omega)|exact SV.aY (by push_cast;omega)|exact SV.aY (by dsimp only;omega)|exact SV.imp_eq (by simp)),.sv (by first|exact au|exact SV.aY (by omega)|exact SV.aY (by push_cast;omega)|exact SV.aY (by dsimp only;omega)|exact SV.imp_eq (by simp)),.sv (by first|exact au|exact SV.aY (by omega)|exact SV.aY (by push_cast;omega)|exact SV.aY (by dsimp only;omega)|exact SV.imp_eq (by simp)),.sv (by first|exact au|exact SV.aY (by omega)|exact SV.aY (by push_cast;omega)|exact SV.aY (by dsimp only;omega)|exact SV.imp_eq (by simp)),aq⟩ trivial trivial (λ_ _=>Y)
 subst hi;refine bH ?_;refine aW ?_;refine RT.lss .none (false) Y Y (tl Y) (by simp) ?_;refine RT.done ?_;refine aV.n ?_;refine bH ?_;refine dV Y ?_;refine cc ?_;refine aV.x ?_;refine aV.x ?_;refine bG.x ?_;exact⟨.inl Y,(λ_=>Y)⟩
theorem pN{x0 r:List Nat}(h:ek x0=some r):E4 ah 175 [slc 1 (List.map aX x0)] (TR 130 1 aX r):=by
 refine qD Tryz.func175 Y (af Y) (λee M vs hvs=>?_);unfold ek at h;refine sr<|ag Y<|dn<|qq<|sr<|mv Y ?_;refine RT.W0 .none Y T (λnb hnb=>?_);cases nb;exact dn<|fs<|sr<|RT.O2 (l:=([]:List Nat)) (e:=aX) .none .nil T Y T Y Y Y Y Y Y<|mv Y<|aR (k:=x0) (e:=aX) Y Y Y h<|an (s:=.row _) Y<|dn<|bh<|⟨.inr Y,_,.tmp Y,Y⟩;have hx:x0=[]:=by simpa using hnb Y
 subst hx;obtain⟨_,_,rfl⟩:=wh h;exact dn<|cT<|sr<|ag Y<|dn<|cY (mu 2 300 130 1 Y Y T)<|bh<|aV.r<|⟨.inr Y,_,.tmp Y,Y⟩
theorem cg{x0:Nat}{c0:Nat}{r:Nat×Nat}(h:bR x0 c0=some r):Ly ah 202 [.v (.int .u64 ((x0:Nat):Int))] 128 [.v (.int .u64 ((c0:Nat):Int))] (.v (.int .u32 ((r.1:Nat):Int))) [.v (.int .u64 ((r.2:Nat):Int))]:=by
 refine Al Tryz.func202 Y (af Y) (λee M β=>?_);unfold bR at h;refine sr<|ag Y<|dn<|sr<|mv Y<|lV Y Y Y<|lE h λx6 h6 h=>ad _ Y Y (UK.add (a:=x0) (b:=c0) h6)<|ag Y<|dn<|sr<|mv Y<|lE h λx8 h8 h=>RT.shr .none _ Y Y T (by decide) (Dv (k:=.u64) (a:=x6) (q:=32) (s:=32) Y h8)<|RT.nM (cells:=[_]) .none (s:=.sv _) Y Y Y T Y<|dn<|sr<|mv Y<|lE h λef gV h=>cv _ Y (UK.nat gV)<|ag Y ?_;refine dn<|bh ?_;obtain rfl:=O h;exact⟨.inr Y,gi (.tmp Y (.nil)) au,Y⟩
theorem cw{x0:List Nat}{r:List Nat}(h:bu x0=some r):Pure ah 144 [slc 1 (List.map aX x0)] (slc 1 (List.map aX r)):=by
 refine bw Tryz.func144 Y (af Y) (λee M vs hvs=>?_);unfold bu at h;refine sr<|aI Y (aB (n:=1) (e:=aX))<|dn<|qq<|bE h λMb DH zb=>?_;refine bV (λ(Aw:(List Nat))=>AS.cI 21 [(0,.sv (slc 1 (List.map aX Aw)))] [] []) (λAw=>Aw=Mb) ?_ (λAw DI=>?_);refine bj ?_;refine bW DH (λDD=>AS.cI 21 [(0,.sv (slc 1 (List.map aX DD)))] [] []) (wR []) (λy5 ZQ ZR h DJ AD=>?_)
 try dsimp only
 refine qq<|qq ?_;refine bK h (λJ4=>AS.cI 21 [(0,.sv (slc 1 (List.map aX y5))),(14,aj J4)] [] []) (λh=>?_) (λAv h=>?_);refine aW<|mv Y<|lE h λx4 h4 h=>ln Y h4<|lE h λx5 h5 h=>gt _ Y Y h5<|mv Y<|bE h λxJ eD h=>?_;cases x5;obtain rfl:=O (F eD);exact ww<|ww<|ww<|ww<|ww<|ww<|ww<|pF Y<|dn<|⟨false,h,wR []⟩;refine gm Y<|gm Y<|lE (V eD) λx9 h9 eD=>gn Y h9<|lE eD λef gV eD=>RT.sub (.some Y Y) _ Y Y T gV<|bE eD λiN pg eD=>RT.TB (.some Y Y) Y Y T pg<|gr Y Y<|lE eD λiW kJ eD=>ZO _ Y Y (ZI (p:=iN) (q:=0) kJ) ?_;obtain rfl:=O eD;exact pT Y<|dn<|⟨iW,h,wR []⟩
 try dsimp only
 refine aV.n ?_;cases Av;refine cF<|cc<|aV.x<|aV.x<|bG.x<|aV.n ?_;obtain rfl:=O (F h);exact⟨y5,AD _ Y,wR []⟩;refine cT<|bA<|aV.n<|bj<|aW<|mv Y<|mv Y<|lE (V h) λgM mW h=>ln Y mW<|lE h λfS kA h=>sb _ Y Y kA<|bE h λnk oG h=>RT.As .none 0 fS Y Y ⟨_,Y⟩ T oG<|ag Y<|RT.done<|bG.n ?_;obtain rfl:=O h;exact aV.n ⟨nk,DJ _ Y,wR []⟩;subst DI
 try dsimp only
 refine aV.n<|sr<|mv Y<|ag Y<|dn<|bh ?_;obtain rfl:=O zb;exact R1 Y
abbrev ax:SV:=slc 1 (List.map aX [])
theorem jg{x0:Bool}{x1:Nat}(N:Nat){r:Zr}(h:eL x0 x1=some r):cL ah 137 N [az x0,.v (.int .u64 ((x1:Nat):Int))] (.agg ((fZ N) r)):=by
 refine bC Tryz.func137 Y (af Y) (λee M vs hN hvs=>?_);unfold eL at h;refine sr<|al (cs:=[az false,nw N ax]) (by exact⟨au,bk,aq⟩) Y<|dn<|qq<|bj<|sr<|mv Y<|lE h λx7 h7 h=>eq _ Y Y (ZI (p:=x1) (q:=0) h7)<|ag Y<|dn ?_;cases x7;refine cF<|sr<|mv Y<|lE (F h) λiN pg h=>RT.shr .none _ Y Y T (by decide) (Dv (k:=.u64) (a:=x1) (q:=32) (s:=32) Y pg)<|lE h λdP gu h=>eq _ Y Y (ZI (p:=iN) (q:=0) gu)<|ag Y<|dn ?_;cases dP;refine cF<|bA<|bG.n<|aV.n<|sr<|mv Y<|mv Y<|lE (F h) λjc pO h=>cv _ Y (UK.nat pO)<|mv Y<|lE h λlB qM h=>RT.shr .none _ Y Y T (by decide) (Dv (k:=.u64) (a:=x1) (q:=32) (s:=32) Y qM)<|lE h λjT sD h=>cv _ Y (UK.nat sD)<|RT.wm (l:=[jc,jT]) (e:=aX) .none hN (.one Y (.one Y (.nil))) T Y Y Y Y Y Y<|bI (cs:=[_,_]) (cs':=[az x0,nw N (slc 1 (List.map aX [jc,jT]))]) (.one Y (.one Y (.nil))) ⟨au,au,aq⟩ ?_;refine so Y Y Y<|dn<|bh ?_;obtain rfl:=O h;exact RZ (.agg Y Y (.k2 Y Y) Y (.nil));refine cT<|sr<|mv Y<|mv Y<|lE (V h) λeI jh h=>cv _ Y (UK.nat jh)<|RT.wm (l:=[eI]) (e:=aX) .none hN (.one Y (.nil)) T Y Y Y Y Y Y<|bI (cs:=[_,_]) (cs':=[az x0,nw N (slc 1 (List.map aX [eI]))]) (.one Y (.one Y (.nil))) ⟨au,au,aq⟩<|so Y Y Y<|dn<|bh<|bG.r<|aV.r ?_;obtain rfl:=O h
 exact RZ (.agg Y Y (.k2 Y Y) Y (.nil));refine cT<|sr<|bI (cs:=[_,_]) (cs':=[az false,nw N ax]) (.nil) ⟨au,bk,aq⟩<|so Y Y Y<|dn<|bh<|bG.r<|aV.r ?_;obtain rfl:=O (V h);exact RZ (.agg Y Y (.k2 Y Y) Y (.nil))
theorem iy{x0:List Nat}{r:Nat}(h:dJ x0=some r):Pure ah 162 [slc 1 (List.map aX x0)] (.v (.int .u64 ((r:Nat):Int))):=by
 refine bw Tryz.func162 Y (af Y) (λee M vs hvs=>?_);unfold dJ at h;refine sr<|ag Y<|dn<|qq<|sr<|mv Y<|lE h λx4 h4 h=>ln Y h4<|dn<|bj<|sr<|lE h λx6 h6 h=>eq _ Y Y (wj (p:=x4) (q:=0) h6)<|ag Y<|dn ?_;cases x6;refine cF<|sr<|lE (F h) λx8 h8 h=>eq _ Y Y (wj (p:=x4) (q:=1) h8)<|ag Y<|dn ?_;cases x8;refine cF<|bA<|bG.n<|aV.n<|qq<|bf mixed<|mv Y<|bE (F h) λfC lz h=>ix Y Y lz<|lr Y Y<|lE h λgX lC h=>cv _ Y (UK.nat lC)<|mv Y<|bE h λfS kA h=>ix Y Y kA<|lr Y Y<|lE h λjc pO h=>cv _ Y (UK.nat pO)<|lE h λgN oH h=>RT.shl .none _ Y Y T (by decide) (UK.shl (a:=jc) (q:=32) (s:=32) Y oH)<|lE h λlB qM h=>RT.or .none _ Y Y T (UK.or (a:=gX) (b:=gN) qM) ?_;refine ag Y ?_;refine RT.done ⟨by kernel_rfl,?_⟩;refine aV.n<|bh ?_;obtain rfl:=O h;exact R1 Y;refine cT<|sr<|mv Y<|bE (V h) λef gV h=>ix Y Y gV<|lr Y Y<|lE h λdP gu h=>cv _ Y (UK.nat gu)<|ag Y<|dn<|bh<|bG.r<|aV.r ?_;obtain rfl:=O h;exact R1 Y;refine cT<|sr<|ag Y<|dn<|bh<|bG.r<|aV.r ?_;obtain rfl:=O (V h);exact R1 Y
theorem fX{x0:List Nat}{x1:List Nat}{r:Int}(h:cW x0 x1=some r):Pure ah 161 [slc 1 (List.map aX x0),slc 1 (List.map aX x1)] (ay r):=by
 refine bw Tryz.func161 Y (af Y) (λee M vs hvs=>?_);unfold cW at h;refine sr<|ag Y<|dn<|qq<|sr<|mv Y<|lE h λx7 h7 h=>ln Y h7<|mv Y<|lE h λx9 h9 h=>ln Y h9<|lE h λef gV h=>ne _ Y Y (G4 (p:=x7) (q:=x9) gV)<|dn ?_;cases ef;refine fs<|qq<|sr<|mv Y<|lE (F h) λgM mW h=>ln Y mW<|lE h λfS kA h=>sb _ Y Y kA<|ag Y<|dn<|bE h λe6 Fv nx=>?_;refine bV (λ(DK:Unit)=>AS.cI 41 [] [] []) (λDK=>.inl DK=e6) ?_ (λDK Fx=>?_);refine bj ?_;refine bW Fv (λs6=>AS.cI 41 [(0,.sv (slc 1 (List.map aX x0))),(1,.sv (slc 1 (List.map aX x1))),(5,ai s6)] [] []) (wR []) (λrJ y6 G6 h Fy AE=>?_)
 try dsimp only
 refine qq<|sr<|mv Y<|lE h λjc pO h=>ge _ Y Y pO<|dn ?_;cases jc;refine cF<|cc<|aV.x<|aV.x<|bG.x<|aV.n ?_;obtain rfl:=O (F h);exact⟨(),AE _ Y,wR []⟩;refine cT<|bA<|aV.n<|qq<|bj<|qq<|bf mixed<|mv Y<|mv Y<|bE (V h) λyH xP h=>ix Y Y xP<|lr Y Y<|mv Y<|mv Y<|bE h λiG nm h=>ix Y Y nm<|lr Y Y<|lE h λtJ CT h=>ne _ Y Y (ZJ (p:=yH) (q:=iG) CT) ?_;refine RT.done ⟨by kernel_rfl,?_⟩;refine aV.n ?_;cases tJ;refine cF<|bA<|bG.n<|aV.n<|aW<|mv Y<|lE (F h) λlB qM h=>sb _ Y Y qM<|ag Y<|RT.done ?_;obtain rfl:=O h;exact aV.n ⟨lB,Fy _ Y,wR []⟩;refine cT<|qq<|qq<|bf mixed<|mv Y<|mv Y<|bE (V h) λqH wF h=>ix Y Y wF<|lr Y Y<|mv Y<|mv Y<|bE h λyI HG h=>ix Y Y HG<|lr Y Y<|lE h λlu rC h=>ls _ Y Y (ZK (p:=qH) (q:=yI) rC) ?_;refine RT.done ⟨by kernel_rfl,?_⟩;refine aV.n ?_;cases lu;refine fs<|sr<|ag Y<|dn<|bh<|bG.r<|aV.r ?_;obtain rfl:=O (F h);have Mc:=AE _ Y;subst Mc;refine aV.r<|bG.r<|aV.r<|aV.r ?_;obtain rfl:=O nx;exact R1 Y;refine cT<|sr<|ag Y<|dn<|bh<|aV.r<|bG.r<|aV.r ?_;obtain rfl:=O (V h);have Mc:=AE _ Y;subst Mc;refine aV.r<|bG.r<|aV.r<|aV.r ?_;obtain rfl:=O nx;exact R1 Y;subst Fx
 try dsimp only
 refine aV.n<|sr<|ag Y<|dn<|bh ?_;obtain rfl:=O nx;exact R1 Y;refine cT<|qq<|sr<|mv Y<|lE (V h) λdP gu h=>ln Y gu<|mv Y<|lE h λfC lz h=>ln Y lz<|lE h λeI jh h=>ls _ Y Y jh<|dn ?_;cases eI;refine fs<|sr<|ag Y<|dn<|bh<|aV.r ?_;obtain rfl:=O (F h);exact R1 Y;refine cT<|sr<|ag Y<|dn<|bh<|aV.r<|aV.r ?_;obtain rfl:=O (V h);exact R1 Y
theorem oO{x0:List Nat}{x1:List Nat}(N:Nat){r:List Nat}(h:eF x0 x1=some r):cL ah 194 N [slc 1 (List.map aX x0),slc 1 (List.map aX x1)] (nw N (slc 1 (List.map aX r))):=by
 refine bC Tryz.func194 Y (af Y) (λee M vs hN hvs=>?_);unfold eF at h;refine sr<|aI Y (bk (N:=N) (n:=1) (e:=aX))<|dn<|sr<|mv Y<|lE h λef gV h=>ln Y gV<|mv Y<|lE h λdP gu h=>ln Y gu<|lE h λiW kJ h=>RT.max .none _ Y Y T (LJ (p:=ef) (q:=dP) kJ)<|lE h λfC lz h=>ad _ Y Y lz<|bE h λeI jh h=>RT.CK (e:=aX) .none Y Y T Y T jh<|RT.alloc .none T Y Y<|RT.nN (cells:=[_]) .none Y Y Y Y T Y<|dn<|sr ?_;refine RT.Am .none (eG 0) Y ⟨Y,aq⟩ T Y Y<|RT.alloc .none T Y Y<|RT.nM (cells:=[_]) .none (s:=.fW _ _) Y Y Y T Y<|dn<|qq<|sr<|mv Y<|mv Y<|cl (sy x0 x1) ⟨Y,Y,aq⟩<|dn<|bj<|bE h λe7 XJ Pm=>?_;obtain⟨J5,XK,XL,XM⟩:=nJ XJ
 refine kH (sB x0 x1) (λ_ _ _ _ _=>trivial) Y (λk=>AS.cI 35 [(5,.ptr 5 0),(6,.ptr 6 0),(19,.sv (iV 214 [ref [slc 1 (List.map aX x0)],ref [slc 1 (List.map aX x1)]]))] [(6,⟨186,[.fW 202 [.box 16]]⟩),(16,⟨128,[.sv (.v (.int .u64 (((J5 k).1:Nat):Int)))]⟩),(5,⟨39,[.row 302]⟩)] [(302,TR 130 1 aX (J5 k).2)]) [6,16,5] Y (λ_=>⟨Y,Y⟩) (rY Y) (λ_=>Y) (rZ Y) (by(try dsimp only);rw[XK];(try dsimp only);exact ec (λi=>bif Nat.beq i 302 then 15 else i) Y Y Y Y Y ⟨.ptr,.ptr,.sv au,aq⟩ ⟨⟨_,Y,⟨.fW,aq⟩⟩,⟨_,Y,⟨.sv au,aq⟩⟩,⟨_,Y,⟨.row Y,aq⟩⟩,aq⟩ ⟨⟨_,Y,cP.refl _⟩,aq⟩ (λi hi=>by rw[cV (show i≠302 by omega)];rfl)) (λk hk D hD=>?_) ?_;have h:=XL k hk;obtain⟨sk,Pn⟩:∃q,J5 k=q:=⟨_,Y⟩;rw[Pn]at h⊢;obtain⟨wv,jd⟩:=sk;dsimp only[AS.Ov,rX]
 try dsimp only at h
 refine lE h λp20 Md h=>?_;rw[Md];refine lE h λp21 abI h=>?_;rw[abI];refine sr<|ag Y<|dn<|aW<|ag Y<|RT.done ?_;refine aV.n ⟨Y,?_⟩;dsimp only[AS.B5];refine bj<|bf mixed<|RT.ig .none (s:=.row _) Y Y Y T<|RT.ig .none (s:=.fW _ _) Y Y Y T<|mv Y<|mv Y<|lE h λmU tR h=>ad _ Y Y (UK.add (a:=p20) (b:=p21) tR) ?_;obtain⟨⟨lD,k9⟩,tW,h⟩:=bS h;refine cB (cg tW) 16 Y ⟨Y,aq⟩<|bl (l:=[lD]) (e:=aX) (.one Y (.nil)) Y Y Y Y Y Y<|bE h λiG nm h=>aR (k:=[lD]) (e:=aX) Y Y Y nm<|RT.nN (cells:=[_]) .none Y Y Y Y T Y ?_;refine RT.done ⟨by kernel_rfl,?_⟩;refine bG.n ?_;replace h:=Option.some.inj h;refine⟨aq,Y,Y,?_⟩
 try dsimp only
 rw[<-h]
 try dsimp only
 exact ec (λi=>bif Nat.beq i 302 then 29 else i) Y Y Y Y Y ⟨.ptr,.ptr,.sv au,aq⟩ ⟨⟨_,Y,⟨.fW,aq⟩⟩,⟨_,Y,⟨.sv au,aq⟩⟩,⟨_,Y,⟨.row Y,aq⟩⟩,aq⟩ ⟨⟨_,Y,cP.refl _⟩,aq⟩ (λi hi=>by rw[cV (show i≠302 by omega)];rfl);rw[XM];obtain⟨wv,jd⟩:=e7
 try dsimp only
 refine bG.n<|aV.n<|qq<|bf mixed<|RT.ig .none (s:=.row _) Y Y Y T<|RT.ig .none (s:=.fW _ _) Y Y Y T ?_;obtain⟨⟨jU,k11⟩,qw,Pm⟩:=bS Pm;refine cB (cg qw) 16 Y ⟨Y,aq⟩<|bl (l:=[jU]) (e:=aX) (.one Y (.nil)) Y Y Y Y Y Y<|bE Pm λqH wF Pm=>RT.Xi (k:=[jU]) (e:=aX) .none hN (λ_ h=>h) Y Y Y T Y T wF<|ag Y ?_;refine RT.done ⟨by kernel_rfl,?_⟩;refine aV.n<|bh ?_;obtain rfl:=O Pm;exact R1 Y
theorem kK{x0:List Nat}{x1:List Nat}(N:Nat){r:List Nat}(h:dg x0 x1=some r):cL ah 195 N [slc 1 (List.map aX x0),slc 1 (List.map aX x1)] (nw N (slc 1 (List.map aX r))):=by
 refine bC Tryz.func195 Y (af Y) (λee M vs hN hvs=>?_);unfold dg at h;refine sr<|aI Y (bk (N:=N) (n:=1) (e:=aX))<|dn<|sr<|mv Y<|lE h λef gV h=>ln Y gV<|bE h λiN pg h=>RT.CK (e:=aX) .none Y Y T Y T pg<|RT.alloc .none T Y Y<|RT.nN (cells:=[_]) .none Y Y Y Y T Y<|dn<|sr<|RT.Am .none (eG 1) Y ⟨Y,aq⟩ T Y Y<|RT.alloc .none T Y Y<|RT.nM (cells:=[_]) .none (s:=.fW _ _) Y Y Y T Y<|dn<|qq<|sr<|mv Y ?_;refine mv Y<|cl (sy x0 x1) ⟨Y,Y,aq⟩<|dn<|bj<|bE h λe7 XJ Pm=>?_;obtain⟨J5,XK,XL,XM⟩:=nJ XJ;refine kH (sB x0 x1) (λ_ _ _ _ _=>trivial) Y (λk=>AS.cI 28 [(5,.ptr 5 0),(6,.ptr 6 0),(15,.sv (iV 214 [ref [slc 1 (List.map aX x0)],ref [slc 1 (List.map aX x1)]]))] [(6,⟨186,[.fW 202 [.box 12]]⟩),(12,⟨128,[.sv (.v (.int .u64 (((J5 k).1:Nat):Int)))]⟩),(5,⟨39,[.row 302]⟩)] [(302,TR 130 1 aX (J5 k).2)]) [6,12,5] Y (λ_=>⟨Y,Y⟩) (rY Y) (λ_=>Y) (rZ Y) (by(try dsimp only);rw[XK];(try dsimp only);exact ec (λi=>bif Nat.beq i 302 then 11 else i) Y Y Y Y Y ⟨.ptr,.ptr,.sv au,aq⟩ ⟨⟨_,Y,⟨.fW,aq⟩⟩,⟨_,Y,⟨.sv au,aq⟩⟩,⟨_,Y,⟨.row Y,aq⟩⟩,aq⟩ ⟨⟨_,Y,cP.refl _⟩,aq⟩ (λi hi=>by rw[cV (show i≠302 by omega)];rfl)) (λk hk D hD=>?_) ?_;have h:=XL k hk;obtain⟨sk,Pn⟩:∃q,J5 k=q:=⟨_,Y⟩;rw[Pn]at h⊢;obtain⟨zO,jd⟩:=sk;dsimp only[AS.Ov,rX]
 try dsimp only at h
 refine lE h λp16 abJ h=>?_;rw[abJ];refine lE h λp17 abK h=>?_;rw[abK];refine sr<|ag Y<|dn<|aW<|ag Y<|RT.done ?_;refine aV.n ⟨Y,?_⟩;dsimp only[AS.B5];refine bj<|bf mixed<|RT.ig .none (s:=.row _) Y Y Y T<|RT.ig .none (s:=.fW _ _) Y Y Y T<|mv Y<|mv Y<|lE h λlB qM h=>sb _ Y Y (UK.sub (a:=4294967295) (b:=p17) qM)<|lE h λjT sD h=>ad _ Y Y (UK.add (a:=p16) (b:=lB) sD) ?_;obtain⟨⟨iX,k9⟩,oP,h⟩:=bS h;refine cB (cg oP) 12 Y ⟨Y,aq⟩<|bl (l:=[iX]) (e:=aX) (.one Y (.nil)) Y Y Y Y Y Y<|bE h λmU tR h=>aR (k:=[iX]) (e:=aX) Y Y Y tR<|RT.nN (cells:=[_]) .none Y Y Y Y T Y ?_;refine RT.done ⟨by kernel_rfl,?_⟩;refine bG.n ?_;replace h:=Option.some.inj h;refine⟨aq,Y,Y,?_⟩
 try dsimp only
 rw[<-h]
 try dsimp only
 exact ec (λi=>bif Nat.beq i 302 then 26 else i) Y Y Y Y Y ⟨.ptr,.ptr,.sv au,aq⟩ ⟨⟨_,Y,⟨.fW,aq⟩⟩,⟨_,Y,⟨.sv au,aq⟩⟩,⟨_,Y,⟨.row Y,aq⟩⟩,aq⟩ ⟨⟨_,Y,cP.refl _⟩,aq⟩ (λi hi=>by rw[cV (show i≠302 by omega)];rfl);rw[XM];obtain⟨zO,jd⟩:=e7
 try dsimp only
 refine bG.n<|aV.n<|sr<|RT.ig .none (s:=.row _) Y Y Y T<|an (s:=.row _) Y<|dn<|iS (i:=302) (E1:=130) (n:=1) (e:=aX) (l:=jd) hN (λ_ h=>h) Y<|bh ?_;obtain rfl:=O Pm;exact R1 Y
theorem wG{x0:List Nat}{x1:List Nat}(N:Nat){r:List Nat}(h:fO x0 x1=some r):cL ah 164 N [slc 1 (List.map aX x0),slc 1 (List.map aX x1)] (nw N (slc 1 (List.map aX r))):=by
 refine bC Tryz.func164 Y (af Y) (λee M vs hN hvs=>?_);unfold fO at h;refine sr<|aI Y (bk (N:=N) (n:=1) (e:=aX))<|dn<|sr<|mv Y<|lE h λdP gu h=>ln Y gu<|mv Y<|lE h λfC lz h=>ln Y lz<|lE h λeI jh h=>ad _ Y Y jh<|bE h λgX lC h=>RT.nQ (n:=1) (e:=aX) .none Y Y T Y T (by rfl) (by decide) (by exact⟨au,aq⟩) lC<|an (s:=.row _) Y<|dn<|qq<|sr<|mv Y<|lE h λfS kA h=>ln Y kA ?_;refine mv Y<|dn<|bE h λe28 abL abM=>?_;refine bV (λ(vh:(List Nat))=>AS.cI 63 [(5,.row 16)] [] [(16,TR 130 1 aX vh)]) (λvh=>vh=e28) ?_ (λvh abN=>?_);refine bj ?_;refine bW abL (λWb=>AS.cI 63 [(1,.sv (slc 1 (List.map aX x1))),(5,.row 16),(17,.sv (slc 1 (List.map aX x0))),(18,ai fS),(19,ai Wb.1)] [] [(16,TR 130 1 aX Wb.2)]) (wR []) (λWb y28 G28 h abO abP=>?_);obtain⟨nS,DA⟩:=Wb
 try dsimp only
 refine sr<|lE h λjc pO h=>ls _ Y Y pO<|dn<|qq ?_;cases jc;refine cF<|cc<|aV.x<|aV.x<|bG.x<|aV.n ?_;obtain rfl:=O (F h);exact⟨DA,abP _ Y,wR []⟩;refine cT<|bA<|aV.n<|qq<|bj<|sr<|mv Y<|bE (V h) λlB qM h=>ix Y Y qM<|lr Y Y<|ag Y<|ag Y<|dn<|sr<|RT.Am .none (eG 0) Y ⟨Y,aq⟩ T Y Y<|an (s:=.fW _ _) Y<|dn<|qq<|sr<|mv Y<|lE h λmU tR h=>ln Y tR<|mv Y<|dn<|bE h λXj TZ gC=>?_;refine bV (λ(J6:Nat×(List Nat))=>AS.cI 63 [(1,.sv (slc 1 (List.map aX x1))),(5,.row 16),(6,ai nS),(8,.fW 202 [.box 24]),(17,.sv (slc 1 (List.map aX x0))),(18,ai fS),(19,ai nS)] [(24,⟨128,[.sv (.v (.int .u64 ((J6.1:Nat):Int)))]⟩)] [(16,TR 130 1 aX J6.2)]) (λJ6=>J6=Xj) ?_ (λJ6 T0=>?_);refine bj ?_;refine bW TZ (λIU=>AS.cI 63 [(1,.sv (slc 1 (List.map aX x1))),(5,.row 16),(6,ai nS),(7,.sv (.v (.int .u32 ((lB:Nat):Int)))),(8,.fW 202 [.box 24]),(17,.sv (slc 1 (List.map aX x0))),(18,ai fS),(19,ai nS),(25,.sv (slc 1 (List.map aX x1))),(26,ai mU),(27,ai IU.1)] [(24,⟨128,[.sv (.v (.int .u64 ((IU.2.1:Nat):Int)))]⟩)] [(16,TR 130 1 aX IU.2.2)]) (wR []) (λIU y38 G38 h T1 T2=>?_);obtain⟨xK,wz,vg⟩:=IU
 try dsimp only
 refine sr<|lE h λnT wH h=>ls _ Y Y wH<|dn<|qq ?_;cases nT;refine cF<|cc<|aV.x<|aV.x<|bG.x<|aV.n ?_;obtain rfl:=O (F h);exact⟨(wz,vg),T2 _ Y,wR []⟩;refine cT<|bA<|aV.n<|qq<|bj<|sr<|mv Y<|bE (V h) λzP DL h=>ix Y Y DL<|lr Y Y<|ag Y<|ag Y<|dn<|aW<|mo (s:=.row _) Y<|mv Y<|mv Y<|lE h λrN AF h=>ad _ Y Y AF<|mo (s:=.fW _ _) Y<|mo (s:=.row _) Y<|mv Y<|mv Y<|lE h λlu rC h=>ad _ Y Y rC<|bE h λxn HH h=>iR Y Y Y HH ?_;refine bE h λsj DM h=>lR Y Y DM Y<|lE h λrK CU h=>cv _ Y (UK.nat CU)<|mv Y<|lE h λDB Me h=>cv _ Y (UK.nat Me)<|mv Y<|lE h λtK ze h=>cv _ Y (UK.nat ze)<|lE h λtL h48 h=>RT.mul .none _ Y Y T (UK.mul (a:=DB) (b:=tK) h48)<|lE h λWc XN h=>ad _ Y Y (UK.add (a:=rK) (b:=tL) XN) ?_;obtain⟨⟨um,k41⟩,Fz,h⟩:=bS h;refine cB (cg Fz) 24 Y ⟨Y,aq⟩<|bE h λFg J7 h=>iR Y Y Y J7<|bE h λQZ Mf h=>sR um Y Y Y Y Mf<|RT.done<|bG.n<|aV.n<|aW<|lE h λxL DN h=>ad _ Y Y DN<|mv Y<|RT.done ?_;obtain rfl:=O h;exact aV.n ⟨(xL,k41,QZ),T1 _ Y,wR []⟩;subst T0;obtain⟨Fh,Hw⟩:=J6
 try dsimp only
 refine aV.n<|aW<|mo (s:=.row _) Y<|mv Y<|mv Y<|lE gC λEH Mg gC=>ln Y Mg<|lE gC λPg XO gC=>ad _ Y Y XO<|mo (s:=.fW _ _) Y ?_;obtain⟨⟨JY,k45⟩,Po,gC⟩:=bS gC;refine cB (cg Po) 24 Y ⟨Y,aq⟩<|bE gC λKQ Pp gC=>iR Y Y Y Pp<|bE gC λl46 XP gC=>sR JY Y Y Y Y XP<|RT.done<|bG.n<|aV.n<|aW<|lE gC λHx T3 gC=>ad _ Y Y T3<|mv Y<|RT.done ?_;obtain rfl:=O gC;exact aV.n ⟨(Hx,l46),abO _ Y,wR []⟩;subst abN
 try dsimp only
 refine aV.n<|sr<|mo (s:=.row _) Y<|an (s:=.row _) Y<|dn<|iS (i:=16) (E1:=130) (n:=1) (e:=aX) (l:=vh) hN (λ_ h=>h) Y<|bh ?_;obtain rfl:=O abM;exact R1 Y
end
section
open Go.Fw Go.Fw.Z Go.RowKit
theorem wI{x0:List Nat}{x1:Nat}{r:Nat×List Nat}(h:gY x0 x1=some r):Hq ah 204 [.row 1000,.sv (.v (.int .u64 ((x1:Nat):Int)))] (TR 130 1 aX x0) (.sv (.v (.int .u64 ((r.1:Nat):Int)))) (List.flatMap aX r.2):=by
 refine uW Tryz.func204 Y (af Y) Y Y (λee M v0=>?_);unfold gY at h;refine sr<|ag Y<|dn<|sr<|ag Y<|dn<|qq<|sr<|mo (s:=.row _) Y<|lE h λx9 h9 h=>lL Y Y h9<|lE h λef gV h=>sb _ Y Y gV<|ag Y<|dn<|bE h λe8 DO wJ=>?_;refine bV (λ(CV:Nat×(List Nat))=>AS.cI 34 [(5,.sv (.v (.int .u64 ((CV.1:Nat):Int))))] [] [(1000,TR 130 1 aX CV.2)]) (λCV=>CV=e8) ?_ (λCV DP=>?_);refine bj ?_;refine bW DO (λs8=>AS.cI 34 [(0,.row 1000),(1,.sv (.v (.int .u64 ((x1:Nat):Int)))),(5,.sv (.v (.int .u64 ((s8.1:Nat):Int)))),(6,ai s8.2.1)] [] [(1000,TR 130 1 aX s8.2.2)]) (wR []) (λs8 y8 G8 h DQ DR=>?_);obtain⟨LV,LW,qJ⟩:=s8
 try dsimp only
 refine qq<|sr<|mv Y<|lE h λdP gu h=>ge _ Y Y gu<|dn ?_;cases dP;refine cF<|cc<|aV.x<|aV.x<|bG.x<|aV.n ?_;obtain rfl:=O (F h);exact⟨(LV,qJ),DR _ Y,wR []⟩;refine cT<|bA<|aV.n<|qq<|bj<|sr<|mv Y<|lE (V h) λgX lC h=>RT.shl .none _ Y Y T (by decide) (UK.shl (a:=LV) (q:=32) (s:=32) Y lC)<|mo (s:=.row _) Y<|mv Y<|bE h λnk oG h=>iR Y Y Y oG<|bE h λjc pO h=>lR Y Y pO Y<|lE h λgN oH h=>cv _ Y (UK.nat oH)<|lE h λlB qM h=>RT.or .none _ Y Y T (UK.or (a:=gX) (b:=gN) qM)<|ag Y<|dn<|sr<|mo (s:=.row _) Y ?_;refine mv Y<|mv Y<|mv Y<|bE h λlD tW h=>RT.quo .none _ Y Y T (nzU tW) (UK.quo tW)<|lE h λnT wH h=>cv _ Y (UK.nat wH)<|bE h λiG nm h=>iR Y Y Y nm<|bE h λuo nU h=>sR nT Y Y Y Y nU<|dn<|aW<|mv Y<|mv Y<|bE h λjU qw h=>RT.rem .none _ Y Y T (ZL qw) (O1 qw)<|ag Y<|RT.done<|bG.n<|aV.n<|aW<|mv Y<|lE h λfC lz h=>sb _ Y Y lz ?_;refine ag Y<|RT.done ?_;obtain rfl:=O h;exact aV.n ⟨(jU,fC,uo),DQ _ Y,wR []⟩;subst DP;obtain⟨Xk,zQ⟩:=CV
 try dsimp only
 refine aV.n<|sr<|mv Y<|ag Y<|dn<|bh<|bE wJ λ_ hle wJ=>?_;obtain rfl:=O wJ;exact⟨.inr Y,.sv (gi (.tmp Y (.nil)) au),(by show _=kz.live ⟨130,1,x0.length,List.flatMap aX zQ⟩;rw[<-lM hle];rfl)⟩
theorem vm{x0:List Nat}{x1:Nat}{r:List Nat}(h:fm x0 x1=some r):Pure ah 211 [slc 1 (List.map aX x0),.v (.int .u64 ((x1:Nat):Int))] (slc 1 (List.map aX r)):=by
 refine bw Tryz.func211 Y (af Y) (λee M vs hvs=>?_);unfold fm at h;refine sr<|aI Y (aB (n:=1) (e:=aX))<|dn<|sr<|RT.Am .none (eG 0) Y ⟨Y,aq⟩ T Y Y<|an (s:=.fW _ _) Y<|dn<|sr<|mv Y<|lE h λiN pg h=>ln Y pg<|lE h λdP gu h=>ad _ Y Y gu<|bE h λiW kJ h=>RT.CK (e:=aX) .none Y Y T Y T kJ<|an (s:=.row _) Y<|dn<|qq<|sr<|mv Y<|lE h λeI jh h=>ln Y jh ?_;refine mv Y<|dn<|bE h λe8 DO wJ=>?_;refine bV (λ(CV:Nat×(List Nat))=>AS.cI 35 [(5,.fW 202 [.box 9]),(6,.row 302)] [(9,⟨128,[.sv (.v (.int .u64 ((CV.1:Nat):Int)))]⟩)] [(302,TR 130 1 aX CV.2)]) (λCV=>CV=e8) ?_ (λCV DP=>?_);refine bj ?_;refine bW DO (λs8=>AS.cI 35 [(1,.sv (.v (.int .u64 ((x1:Nat):Int)))),(5,.fW 202 [.box 9]),(6,.row 302),(14,.sv (slc 1 (List.map aX x0))),(15,ai eI),(16,ai s8.1)] [(9,⟨128,[.sv (.v (.int .u64 ((s8.2.1:Nat):Int)))]⟩)] [(302,TR 130 1 aX s8.2.2)]) (ec (λi=>bif Nat.beq i 302 then 13 else i) Y Y Y Y Y ⟨.sv au,.fW,.row Y,.sv au,.sv au,.sv au,aq⟩ ⟨⟨_,Y,⟨.sv au,aq⟩⟩,aq⟩ ⟨⟨_,Y,cP.refl _⟩,aq⟩ (λi hi=>by rw[cV (show i≠302 by omega)];rfl)) (λs8 y8 G8 h DQ DR=>?_);obtain⟨wA,qK,jd⟩:=s8
 try dsimp only
 refine sr<|lE h λgM mW h=>ls _ Y Y mW<|dn<|qq ?_;cases gM;refine cF<|cc<|aV.x<|aV.x<|bG.x<|aV.n ?_;obtain rfl:=O (F h);exact⟨(qK,jd),DR _ Y,wR []⟩;refine cT<|bA<|aV.n<|qq<|bj<|sr<|bE (V h) λfS kA h=>ix Y Y kA<|lr Y Y<|ag Y<|dn<|aW<|mo (s:=.row _) Y<|mo (s:=.fW _ _) Y<|mv Y<|lE h λjT sD h=>cv _ Y (UK.nat sD)<|mv Y<|lE h λyH xP h=>RT.shl .none _ Y Y T (Int.natCast_nonneg _) (UK.shl (a:=jT) (q:=((x1:Nat):Int)) (s:=min x1 64) Y xP) ?_;obtain⟨⟨mU,TJ⟩,tR,h⟩:=bS h;refine cB (cg tR) 9 Y ⟨Y,aq⟩<|bl (l:=[mU]) (e:=aX) (.one Y (.nil)) Y Y Y Y Y Y<|bE h λnT wH h=>aR (k:=[mU]) (e:=aX) Y Y Y wH<|an (s:=.row _) Y<|RT.done<|bG.n<|aV.n<|aW<|lE h λiG nm h=>ad _ Y Y nm<|mv Y<|RT.done ?_;obtain rfl:=O h;exact aV.n ⟨(iG,TJ,nT),DQ _ Y,ec (λi=>bif Nat.beq i 302 then 28 else i) Y Y Y Y Y ⟨.sv au,.fW,.row Y,.sv au,.sv au,.sv au,aq⟩ ⟨⟨_,Y,⟨.sv au,aq⟩⟩,aq⟩ ⟨⟨_,Y,cP.refl _⟩,aq⟩ (λi hi=>by rw[cV (show i≠302 by omega)];rfl)⟩;subst DP;obtain⟨Ax,LX⟩:=CV
 try dsimp only
 refine aV.n<|sr<|mo (s:=.row _) Y<|mo (s:=.fW _ _) Y ?_;obtain⟨⟨jU,k12⟩,qw,wJ⟩:=bS wJ;refine cB (cg qw) 9 Y ⟨Y,aq⟩<|bl (l:=[jU]) (e:=aX) (.one Y (.nil)) Y Y Y Y Y Y<|bE wJ λqH wF wJ=>RT.W5 (k:=[jU]) (e:=aX) .none Y Y Y T Y T wF<|ag Y<|dn<|bh ?_;obtain rfl:=O wJ;exact R1 Y
theorem ur{x0:List Nat}{x1:Nat}{r:List Nat}(h:iw x0 x1=some r):E4 ah 211 [slc 1 (List.map aX x0),.v (.int .u64 ((x1:Nat):Int))] (TR 130 1 aX r):=by
 refine qD Tryz.func211 Y (af Y) (λee M vs hvs=>?_);unfold iw at h;refine sr<|ag Y<|dn<|cY (mu 4 304 130 1 Y Y T)<|sr<|RT.Am .none (eG 0) Y ⟨Y,aq⟩ T Y Y<|an (s:=.fW _ _) Y<|dn<|sr<|mv Y<|lE h λiN pg h=>ln Y pg<|lE h λdP gu h=>ad _ Y Y gu<|bE h λiW kJ h=>RT.CK (e:=aX) .none Y Y T Y T kJ<|an (s:=.row _) Y<|dn<|qq<|sr<|mv Y<|lE h λeI jh h=>ln Y jh ?_;refine mv Y<|dn<|bE h λe8 DO wJ=>?_;refine bV (λ(CV:Nat×(List Nat))=>AS.cI 35 [(5,.fW 202 [.box 9]),(6,.row 306)] [(9,⟨128,[.sv (.v (.int .u64 ((CV.1:Nat):Int)))]⟩)] [(306,TR 130 1 aX CV.2)]) (λCV=>CV=e8) ?_ (λCV DP=>?_);refine bj ?_;refine bW DO (λs8=>AS.cI 35 [(1,.sv (.v (.int .u64 ((x1:Nat):Int)))),(5,.fW 202 [.box 9]),(6,.row 306),(14,.sv (slc 1 (List.map aX x0))),(15,ai eI),(16,ai s8.1)] [(9,⟨128,[.sv (.v (.int .u64 ((s8.2.1:Nat):Int)))]⟩)] [(306,TR 130 1 aX s8.2.2)]) (ec (λi=>bif Nat.beq i 306 then 13 else i) Y Y Y Y Y ⟨.sv au,.fW,.row Y,.sv au,.sv au,.sv au,aq⟩ ⟨⟨_,Y,⟨.sv au,aq⟩⟩,aq⟩ ⟨⟨_,Y,cP.refl _⟩,aq⟩ (λi hi=>by rw[cV (show i≠306 by omega)];rfl)) (λs8 y8 G8 h DQ DR=>?_);obtain⟨wA,qK,DC⟩:=s8
 try dsimp only
 refine sr<|lE h λgM mW h=>ls _ Y Y mW<|dn<|qq ?_;cases gM;refine cF<|cc<|aV.x<|aV.x<|bG.x<|aV.n ?_;obtain rfl:=O (F h);exact⟨(qK,DC),DR _ Y,wR []⟩;refine cT<|bA<|aV.n<|qq<|bj<|sr<|bE (V h) λfS kA h=>ix Y Y kA<|lr Y Y<|ag Y<|dn<|aW<|mo (s:=.row _) Y<|mo (s:=.fW _ _) Y<|mv Y<|lE h λjT sD h=>cv _ Y (UK.nat sD)<|mv Y<|lE h λyH xP h=>RT.shl .none _ Y Y T (Int.natCast_nonneg _) (UK.shl (a:=jT) (q:=((x1:Nat):Int)) (s:=min x1 64) Y xP) ?_;obtain⟨⟨mU,TJ⟩,tR,h⟩:=bS h;refine cB (cg tR) 9 Y ⟨Y,aq⟩<|bl (l:=[mU]) (e:=aX) (.one Y (.nil)) Y Y Y Y Y Y<|bE h λnT wH h=>aR (k:=[mU]) (e:=aX) Y Y Y wH<|an (s:=.row _) Y<|RT.done<|bG.n<|aV.n<|aW<|lE h λiG nm h=>ad _ Y Y nm<|mv Y<|RT.done ?_;obtain rfl:=O h;exact aV.n ⟨(iG,TJ,nT),DQ _ Y,ec (λi=>bif Nat.beq i 306 then 28 else i) Y Y Y Y Y ⟨.sv au,.fW,.row Y,.sv au,.sv au,.sv au,aq⟩ ⟨⟨_,Y,⟨.sv au,aq⟩⟩,aq⟩ ⟨⟨_,Y,cP.refl _⟩,aq⟩ (λi hi=>by rw[cV (show i≠306 by omega)];rfl)⟩;subst DP;obtain⟨Ax,LY⟩:=CV
 try dsimp only
 refine aV.n<|sr<|mo (s:=.row _) Y<|mo (s:=.fW _ _) Y ?_;obtain⟨⟨jU,k12⟩,qw,wJ⟩:=bS wJ;refine cB (cg qw) 9 Y ⟨Y,aq⟩<|bl (l:=[jU]) (e:=aX) (.one Y (.nil)) Y Y Y Y Y Y<|bE wJ λqH wF wJ=>aR (k:=[jU]) (e:=aX) Y Y Y wF<|an (s:=.row _) Y<|dn<|bh ?_;obtain rfl:=O wJ;exact⟨.inr Y,_,.tmp Y,Y⟩
theorem vn{x0:Nat}{r:Int}(h:gp x0=some r):Pure ah 215 [.v (.int .u32 ((x0:Nat):Int))] (ay r):=by
 refine bw Tryz.func215 Y (af Y) (λee M vs hvs=>?_);unfold gp at h;refine sr<|ag Y<|dn<|qq<|sr<|mv Y<|lE h λx4 h4 h=>ge _ Y Y (leN (p:=65536) (q:=x0) h4)<|dn ?_;refine bK h (λj2=>AS.cI 19 [(0,.sv (.v (.int .u32 ((j2.1:Nat):Int)))),(2,ai j2.2)] [] []) (λh=>?_) (λj2 h=>?_);cases x4;exact fs<|⟨(x0,0),(F h),wR []⟩;exact cT<|sr<|mv Y<|lE (V h) λx6 h6 h=>RT.shr .none _ Y Y T (by decide) (Dv (k:=.u32) (a:=x0) (q:=16) (s:=16) Y h6)<|ag Y<|dn<|aW<|ag Y<|dn<|⟨(x6,16),h,wR []⟩;obtain⟨Hy,Ph⟩:=j2
 try dsimp only
 refine aV.n<|qq<|sr<|mv Y<|lE h λx8 h8 h=>ge _ Y Y (leN (p:=256) (q:=Hy) h8)<|dn ?_;refine bK h (λj4=>AS.cI 19 [(0,.sv (.v (.int .u32 ((j4.1:Nat):Int)))),(2,ai j4.2)] [] []) (λh=>?_) (λj4 h=>?_);cases x8;exact fs<|⟨(Hy,Ph),(F h),wR []⟩;exact cT<|sr<|mv Y<|lE (V h) λef gV h=>RT.shr .none _ Y Y T (by decide) (Dv (k:=.u32) (a:=Hy) (q:=8) (s:=8) Y gV)<|ag Y<|dn<|aW<|mv Y<|lE h λdP gu h=>ad _ Y Y gu<|ag Y<|dn<|⟨(ef,dP),h,wR []⟩;obtain⟨Xl,Xm⟩:=j4
 try dsimp only
 refine aV.n<|sr<|mv Y<|mv Y<|lE h λeI jh h=>cv _ Y (UK.nat jh)<|bE h λgX lC h=>?_;refine RT.six (l:=[0,1,2,2,3,3,3,3,4,4,4,4,4,4,4,4,5,5,5,5,5,5,5,5,5,5,5,5,5,5,5,5,6,6,6,6,6,6,6,6,6,6,6,6,6,6,6,6,6,6,6,6,6,6,6,6,6,6,6,6,6,6,6,6,7,7,7,7,7,7,7,7,7,7,7,7,7,7,7,7,7,7,7,7,7,7,7,7,7,7,7,7,7,7,7,7,7,7,7,7,7,7,7,7,7,7,7,7,7,7,7,7,7,7,7,7,7,7,7,7,7,7,7,7,7,7,7,7,8,8,8,8,8,8,8,8,8,8,8,8,8,8,8,8,8,8,8,8,8,8,8,8,8,8,8,8,8,8,8,8,8,8,8,8,8,8,8,8,8,8,8,8,8,8,8,8,8,8,8,8,8,8,8,8,8,8,8,8,8,8,8,8,8,8,8,8,8,8,8,8,8,8,8,8,8,8,8,8,8,8,8,8,8,8,8,8,8,8,8,8,8,8,8,8,8,8,8,8,8,8,8,8,8,8,8,8,8,8,8,8,8,8,8,8,8,8,8,8,8,8,8,8,8,8,8,8]) .none Y Y T lC ?_;refine lE h λgM mW h=>cv _ Y mW<|lE h λfS kA h=>ad _ Y Y kA<|ag Y<|dn<|bh ?_;obtain rfl:=O h;exact R1 Y
theorem ny{x0:Nat}{r:Int}(h:dx x0=some r):Pure ah 210 [.v (.int .u32 ((x0:Nat):Int))] (ay r):=by
 refine bw Tryz.func210 Y (af Y) (λee M vs hvs=>?_);unfold dx at h;refine sr<|ag Y<|dn<|sr<|mv Y<|bE h λx4 h4 h=>cl (vn h4) ⟨Y,aq⟩<|lE h λx5 h5 h=>sb _ Y Y h5<|ag Y<|dn<|bh ?_;obtain rfl:=O h;exact R1 Y
theorem wK{x0:List Nat}{o0:Nat}{n0:Nat}{x1:List Nat}{r:Nat×List Nat}(h:gZ x0 o0 n0 x1=some r):Hq ah 212 [.nc 1000 (o0*1) n0,.sv (slc 1 (List.map aX x1))] (TR 130 1 aX x0) (.sv (.v (.int .u64 ((r.1:Nat):Int)))) (List.flatMap aX r.2):=by
 refine uW Tryz.func212 Y (af Y) Y Y (λee M v0=>?_);unfold gZ at h;refine sr<|ag Y<|dn<|sr<|mv Y<|lE h λdP gu h=>ln Y gu<|ag Y<|dn<|qq<|bf mixed<|mo (s:=.nc _ _ _) Y<|mv Y<|bE h λeI jh h=>RT.Fa .none Y Y T jh<|bE h λgX lC h=>lR Y Y lC Y<|lE h λgM mW h=>cv _ Y (UK.nat mW)<|lE h λfS kA h=>RT.shl .none _ Y Y T (by decide) (UK.shl (a:=gM) (q:=32) (s:=32) Y kA)<|mo (s:=.nc _ _ _) Y ?_;refine mv Y<|lE h λgN oH h=>sb _ Y Y oH<|bE h λlB qM h=>RT.Fa .none Y Y T qM<|bE h λjT sD h=>lR Y Y sD Y<|lE h λiX oP h=>cv _ Y (UK.nat oP)<|lE h λyH xP h=>RT.or .none _ Y Y T (UK.or (a:=fS) (b:=iX) xP)<|ag Y ?_;refine RT.done ⟨by kernel_rfl,?_⟩;refine aV.n<|qq<|bf mixed<|mv Y<|mv Y<|lE h λnT wH h=>sb _ Y Y wH<|bE h λiG nm h=>ix Y Y nm<|lr Y Y<|lE h λtJ CT h=>cv _ Y (UK.nat CT)<|mv Y<|mv Y<|lE h λqH wF h=>sb _ Y Y wF<|bE h λrN AF h=>ix Y Y AF<|lr Y Y<|lE h λxo FA h=>cv _ Y (UK.nat FA)<|ag Y<|ag Y ?_;refine RT.done ⟨by kernel_rfl,?_⟩;refine aV.n<|qq<|bf mixed<|mv Y<|mv Y<|bE h λlu rC h=>RT.quo .none _ Y Y T (nzU rC) (UK.quo rC)<|mv Y<|mv Y<|bE h λrK CU h=>RT.rem .none _ Y Y T (ZL CU) (O1 CU)<|ag Y<|ag Y ?_;refine RT.done ⟨by kernel_rfl,?_⟩;refine aV.n<|qq<|bE h λMb DH zb=>?_
 refine bV (λ(JZ:Nat)=>AS.cI 71 [(9,.sv (.v (.int .u64 ((JZ:Nat):Int))))] [] [(1000,TR 130 1 aX x0)]) (λJZ=>JZ=Mb) ?_ (λJZ DI=>?_);refine bj ?_;refine bW DH (λDD=>AS.cI 71 [(0,.nc 1000 (o0*1) n0),(5,ai dP),(7,.sv (.v (.int .u64 ((tJ:Nat):Int)))),(8,.sv (.v (.int .u64 ((xo:Nat):Int)))),(9,.sv (.v (.int .u64 ((DD.1:Nat):Int)))),(10,.sv (.v (.int .u64 ((DD.2:Nat):Int))))] [] [(1000,TR 130 1 aX x0)]) (wR []) (λDD ZQ ZR h DJ AD=>?_);obtain⟨Ca,CP⟩:=DD
 try dsimp only
 refine qq<|qq ?_;refine bK h (λJ4=>AS.cI 71 [(0,.nc 1000 (o0*1) n0),(5,ai dP),(7,.sv (.v (.int .u64 ((tJ:Nat):Int)))),(8,.sv (.v (.int .u64 ((xo:Nat):Int)))),(9,.sv (.v (.int .u64 ((Ca:Nat):Int)))),(10,.sv (.v (.int .u64 ((CP:Nat):Int)))),(61,aj J4)] [] [(1000,TR 130 1 aX x0)]) (λh=>?_) (λHz h=>?_);refine aW<|mv Y<|lE h λDB Me h=>RT.shr .none _ Y Y T (by decide) (Dv (k:=.u64) (a:=Ca) (q:=32) (s:=32) Y Me)<|lE h λvR h46 h=>ne _ Y Y (ZJ (p:=DB) (q:=0) h46)<|mv Y<|bE h λLZ eD h=>?_;cases vR;refine gm Y<|gm Y<|lE (F eD) λum Fz eD=>RT.mul (.some Y Y) _ Y Y T (UK.mul (a:=Ca) (b:=xo) Fz)<|gm Y<|lE eD λxL DN eD=>RT.shl (.some Y Y) _ Y Y T (by decide) (UK.shl (a:=CP) (q:=32) (s:=32) Y DN)<|RT.move (.some Y Y) (s:=.nc _ _ _) Y T<|gm Y<|lE eD λy7 Mh eD=>RT.sub (.some Y Y) _ Y Y T Mh<|bE eD λEH Mg eD=>RT.Fa (.some Y Y) Y Y T Mg<|bE eD λPg XO eD=>RT.W6 (.some Y Y) Y Y XO Y T ?_;refine lE eD λx58 h58 eD=>RT.conv (.some Y Y) _ Y T (UK.nat h58)<|lE eD λJY Po eD=>RT.or (.some Y Y) _ Y Y T (UK.or (a:=xL) (b:=x58) Po)<|lE eD λKQ Pp eD=>gg _ Y Y (ZK (p:=JY) (q:=um) Pp) ?_;obtain rfl:=O eD;exact pF Y<|dn<|⟨KQ,h,wR []⟩;obtain rfl:=O (V eD)
 exact ww<|ww<|ww<|ww<|ww<|ww<|ww<|ww<|ww<|ww<|ww<|ww<|ww<|pT Y<|dn<|⟨true,h,wR []⟩
 try dsimp only
 refine aV.n ?_;cases Hz;refine cF<|cc<|aV.x<|aV.x<|bG.x<|aV.n ?_;obtain rfl:=O (F h);exact⟨Ca,AD _ Y,wR []⟩;refine cT<|bA<|aV.n<|bj<|sr<|mv Y<|lE (V h) λXn h63 h=>sb _ Y Y (UK.sub (a:=Ca) (b:=1) h63)<|ag Y<|dn<|sr<|mv Y<|mv Y<|lE h λG5 T4 h=>ad _ Y Y (UK.add (a:=CP) (b:=tJ) T4)<|ag Y<|dn<|sr<|mv Y<|lE h λKR XQ h=>RT.shr .none _ Y Y T (by decide) (Dv (k:=.u64) (a:=G5) (q:=32) (s:=32) Y XQ)<|lE h λHA T5 h=>ne _ Y Y (ZJ (p:=KR) (q:=0) T5) ?_;refine dn ?_;cases HA;refine cF<|bA<|bG.n ?_;obtain rfl:=O (F h);exact aV.n ⟨(Xn,G5),DJ _ Y,wR []⟩;refine cT<|cc<|bG.y (by decide)<|aV.x<|bG.x<|aV.n ?_;obtain rfl:=O (V h);exact⟨Xn,AD _ Y,wR []⟩;subst DI
 try dsimp only
 refine aV.n<|sr<|mv Y<|ag Y<|dn<|bh<|bE zb λ_ hle zb=>?_;obtain rfl:=O zb;exact⟨.inr Y,.sv (gi (.tmp Y (.nil)) au),(by show _=kz.live ⟨130,1,x0.length,List.flatMap aX x0⟩;rw[<-lM hle];rfl)⟩
theorem oI{x0:List Nat}{o0:Nat}{n0:Nat}{x1:List Nat}{x2:Nat}{r:Bool×List Nat}(h:dh x0 o0 n0 x1 x2=some r):Hq ah 213 [.nc 1000 (o0*1) n0,.sv (slc 1 (List.map aX x1)),.sv (.v (.int .u64 ((x2:Nat):Int)))] (TR 130 1 aX x0) (aj r.1) (List.flatMap aX r.2):=by
 refine uW Tryz.func213 Y (af Y) Y Y (λee M v0=>?_);unfold dh at h;refine sr<|ag Y<|dn<|sr<|ag Y<|dn<|sr<|RT.Am .none (eG 0) Y ⟨Y,aq⟩ T Y Y<|an (s:=.fW _ _) Y<|dn<|qq<|sr<|mo (s:=.nc _ _ _) Y<|lE h λfC lz h=>RT.TG .none Y T lz<|mv Y<|dn<|bE h λKS DS mE=>?_;refine bV (λ(xQ:Nat×(List Nat))=>AS.cI 51 [(7,.sv (.v (.int .u64 ((xQ.1:Nat):Int))))] [] [(1000,TR 130 1 aX xQ.2)]) (λxQ=>xQ=KS) ?_ (λxQ Mi=>?_);refine bj ?_;refine bW DS (λza=>AS.cI 51 [(0,.nc 1000 (o0*1) n0),(1,.sv (slc 1 (List.map aX x1))),(2,.sv (.v (.int .u64 ((x2:Nat):Int)))),(7,.sv (.v (.int .u64 ((za.1:Nat):Int)))),(8,.fW 202 [.box 12]),(14,ai fC),(15,ai za.2.1)] [(12,⟨128,[.sv (.v (.int .u64 ((za.2.2.1:Nat):Int)))]⟩)] [(1000,TR 130 1 aX za.2.2.2)]) (wR []) (λza y12 G12 h HI HJ=>?_);obtain⟨J0,wB,DE,tN⟩:=za
 try dsimp only
 refine sr<|lE h λgX lC h=>ls _ Y Y lC<|dn<|qq ?_;cases gX;refine cF<|cc<|aV.x<|aV.x<|bG.x<|aV.n ?_;obtain rfl:=O (F h);exact⟨(J0,tN),HJ _ Y,wR []⟩;refine cT<|bA<|aV.n<|qq<|bj<|sr<|mv Y<|ag Y<|dn<|sr<|ag Y<|dn<|qq<|sr<|mv Y<|mv Y<|lE (V h) λjc pO h=>ln Y pO<|lE h λgN oH h=>ls _ Y Y oH<|dn ?_;refine bK h (λj14=>AS.cI 51 [(0,.nc 1000 (o0*1) n0),(1,.sv (slc 1 (List.map aX x1))),(2,.sv (.v (.int .u64 ((x2:Nat):Int)))),(7,.sv (.v (.int .u64 ((J0:Nat):Int)))),(8,.fW 202 [.box 12]),(9,ai wB),(10,.sv (.v (.int .u64 ((j14:Nat):Int)))),(14,ai fC),(15,ai wB)] [(12,⟨128,[.sv (.v (.int .u64 ((DE:Nat):Int)))]⟩)] [(1000,TR 130 1 aX tN)]) (λh=>?_) (λL0 h=>?_);cases gN;exact fs<|⟨0,(F h),wR []⟩;exact cT<|aW<|mv Y<|mv Y<|bE (V h) λiX oP h=>ix Y Y oP<|lr Y Y<|lE h λmU tR h=>cv _ Y (UK.nat tR)<|mv Y<|lE h λnT wH h=>RT.mul .none _ Y Y T (UK.mul (a:=mU) (b:=x2) wH)<|ag Y<|dn<|⟨nT,h,wR []⟩
 try dsimp only
 refine aV.n<|qq<|bf mixed<|mo (s:=.nc _ _ _) Y<|mv Y<|bE h λtJ CT h=>RT.Fa .none Y Y T CT<|bE h λjU qw h=>lR Y Y qw Y<|lE h λtO zR h=>cv _ Y (UK.nat zR)<|mo (s:=.fW _ _) Y<|mv Y ?_;obtain⟨⟨rB,k16⟩,wL,h⟩:=bS h;refine cB (cg wL) 12 Y ⟨Y,aq⟩<|lE h λxo FA h=>cv _ Y (UK.nat FA)<|lE h λyI HG h=>sb _ Y Y (UK.sub (a:=tO) (b:=xo) HG)<|mv Y<|lE h λlu rC h=>sb _ Y Y (UK.sub (a:=yI) (b:=J0) rC)<|ag Y ?_;refine RT.done ⟨by kernel_rfl,?_⟩;refine aV.n<|sr<|mo (s:=.nc _ _ _) Y<|mv Y<|mv Y<|lE h λAy FB h=>cv _ Y (UK.nat FB)<|bE h λDB Me h=>RT.Fa .none Y Y T Me<|bE h λl18 XR h=>sR Ay Y Y Y Y XR<|dn<|aW<|mv Y<|lE h λtK ze h=>RT.shr .none _ Y Y T (by decide) (Dv (k:=.u64) (a:=lu) (q:=63) (s:=63) Y ze)<|ag Y<|RT.done<|bG.n<|aV.n<|aW<|lE h λtL h48 h=>ad _ Y Y h48<|mv Y<|RT.done ?_;obtain rfl:=O h;exact aV.n ⟨(tK,tL,k16,l18),HI _ Y,wR []⟩;subst Mi;obtain⟨L1,wC⟩:=xQ
 try dsimp only
 refine aV.n<|sr<|mv Y<|lE mE λum Fz mE=>ne _ Y Y (ZJ (p:=L1) (q:=0) Fz)<|ag Y<|dn<|bh<|bE mE λ_ hle mE=>?_;obtain rfl:=O mE;exact⟨.inr Y,.sv (gi (.tmp Y (.nil)) au),(by show _=kz.live ⟨130,1,x0.length,List.flatMap aX wC⟩;rw[<-lM hle];rfl)⟩
set_option maxHeartbeats 4000000 in
theorem xR{x0:List Nat}{x1:List Nat}(N:Nat){r:(List Nat)×(List Nat)}(h:iC x0 x1=some r):cL ah 205 N [slc 1 (List.map aX x0),slc 1 (List.map aX x1)] (.yu [nw N (slc 1 (List.map aX r.1)),nw N (slc 1 (List.map aX r.2))]):=by
 refine bC Tryz.func205 Y (af Y) (λee M vs hN hvs=>?_);unfold iC at h;refine sr<|ag Y<|ag Y<|dn<|cY (mu 4 306 130 1 Y Y T)<|cY (mu 5 308 130 1 Y Y T)<|sr<|mv Y<|lE h λgM mW h=>ln Y mW<|ag Y<|dn<|sr<|mv Y<|mv Y<|lE h λjc pO h=>sb _ Y Y pO<|bE h λgN oH h=>ix Y Y oH<|lr Y Y<|bE h λjT sD h=>cl (ny sD) ⟨Y,aq⟩ ?_;refine lE h λiX oP h=>cv _ Y (UK.conv oP)<|ag Y<|dn<|qq<|bf mixed<|mv Y<|mv Y<|bE h λlD tW h=>cN (ur tW) ⟨Y,Y,aq⟩<|mv Y<|mv Y<|bE h λzP DL h=>cl (vm DL) ⟨Y,Y,aq⟩<|mv Y<|bE h λjU qw h=>RT.As .none 0 gM Y Y ⟨_,Y⟩ T qw<|an (s:=.row _) Y<|ag Y ?_;refine RT.done ⟨by kernel_rfl,?_⟩;refine aV.n<|sr<|mv Y<|lE h λqH wF h=>ln Y wF<|mv Y<|lE h λrB wL h=>sb _ Y Y wL<|lE h λxo FA h=>ad _ Y Y FA<|bE h λyI HG h=>RT.nQ (n:=1) (e:=aX) .none Y Y T Y T (by rfl) (by decide) (by exact⟨au,aq⟩) HG<|an (s:=.row _) Y<|dn<|qq<|sr<|mv Y<|lE h λlu rC h=>ln Y rC<|mv Y<|lE h λsj DM h=>sb _ Y Y DM ?_;refine ag Y<|dn<|bE h λe36 abR T6=>?_;refine bV (λ(J8:(List Nat)×(List Nat))=>AS.cI 141 [(4,.row 38),(6,ai gM),(7,.sv (.v (.int .u64 ((iX:Nat):Int)))),(8,.row 27)] [] [(38,TR 130 1 aX J8.1),(27,TR 130 1 aX J8.2)]) (λJ8=>J8=e36) ?_ (λJ8 abS=>?_);refine bj ?_
 refine bW abR (λTK=>AS.cI 141 [(4,.row 38),(6,ai gM),(7,.sv (.v (.int .u64 ((iX:Nat):Int)))),(8,.row 27),(9,.sv (slc 1 (List.map aX jU))),(10,ai TK.1)] [] [(38,TR 130 1 aX TK.2.1),(27,TR 130 1 aX TK.2.2)]) (wR []) (λTK y36 G36 h abT abU=>?_);obtain⟨je,sn,vi⟩:=TK
 try dsimp only
 refine qq<|sr<|mv Y<|lE h λAy FB h=>ge _ Y Y FB<|dn ?_;cases Ay;refine cF<|cc<|aV.x<|aV.x<|bG.x<|aV.n ?_;obtain rfl:=O (F h);exact⟨(sn,vi),abU _ Y,wR []⟩;refine cT<|bA<|aV.n<|qq<|bj<|sr<|mo (s:=.row _) Y<|mv Y<|mv Y<|mv Y<|lE (V h) λFg J7 h=>ad _ Y Y J7<|lE h λxL DN h=>ad _ Y Y DN ?_;obtain⟨⟨o53,n53⟩,T7,h⟩:=bS h;refine RT.W9 .none je xL Y Y ⟨_,Y⟩ ⟨_,Y⟩ T T7<|mv Y ?_;obtain⟨⟨y7,J1⟩,Mh,h⟩:=bS h;refine bE h λ_ abV h=>cR (l:=vi) (l':=J1) (e:=aX) (wK Mh) (lM abV) 27 Y (.k2 Y Y)<|ag Y<|dn<|qq<|sr<|mo (s:=.row _) Y<|mv Y<|mv Y<|mv Y<|lE h λKQ Pp h=>ad _ Y Y Pp<|lE h λHx T3 h=>ad _ Y Y T3 ?_;obtain⟨⟨o62,n62⟩,h62,h⟩:=bS h;refine RT.W9 .none je Hx Y Y ⟨_,Y⟩ ⟨_,Y⟩ T h62<|mv Y<|mv Y ?_;obtain⟨⟨x65,OA⟩,h65,h⟩:=bS h;refine bE h λ_ abX h=>cR (l:=J1) (l':=OA) (e:=aX) (oI h65) (lM abX) 27 Y (.k3 Y Y Y)<|dn ?_;refine bK h (λQ0=>AS.cI 141 [(4,.row 38),(6,ai gM),(7,.sv (.v (.int .u64 ((iX:Nat):Int)))),(8,.row 27),(9,.sv (slc 1 (List.map aX jU))),(10,ai je),(11,.sv (.v (.int .u64 ((Q0.1:Nat):Int))))] [] [(38,TR 130 1 aX sn),(27,TR 130 1 aX Q0.2)]) (λh=>?_) (λQ0 h=>?_);cases x65;exact fs<|⟨(y7,OA),(F h),wR []⟩
 refine cT<|sr<|mv Y<|lE (V h) λQ1 XS h=>sb _ Y Y (UK.sub (a:=y7) (b:=1) XS)<|ag Y<|dn<|sr<|RT.Am .none (eG 0) Y ⟨Y,aq⟩ T Y Y<|an (s:=.fW _ _) Y<|dn<|qq<|sr<|mv Y<|lE h λPj h70 h=>ln Y h70<|mv Y<|dn<|bE h λe65 abZ sE=>?_;refine bV (λ(J9:Nat×(List Nat))=>AS.cI 141 [(4,.row 38),(6,ai gM),(7,.sv (.v (.int .u64 ((iX:Nat):Int)))),(8,.row 27),(9,.sv (slc 1 (List.map aX jU))),(10,ai je),(11,.sv (.v (.int .u64 ((Q1:Nat):Int)))),(12,.fW 202 [.box 68])] [(68,⟨128,[.sv (.v (.int .u64 ((J9.1:Nat):Int)))]⟩)] [(38,TR 130 1 aX sn),(27,TR 130 1 aX J9.2)]) (λJ9=>J9=e65) ?_ (λJ9 ab0=>?_);refine bj ?_;refine bW abZ (λTM=>AS.cI 141 [(4,.row 38),(6,ai gM),(7,.sv (.v (.int .u64 ((iX:Nat):Int)))),(8,.row 27),(9,.sv (slc 1 (List.map aX jU))),(10,ai je),(11,.sv (.v (.int .u64 ((Q1:Nat):Int)))),(12,.fW 202 [.box 68]),(69,.sv (slc 1 (List.map aX jU))),(70,ai Pj),(71,ai TM.1)] [(68,⟨128,[.sv (.v (.int .u64 ((TM.2.1:Nat):Int)))]⟩)] [(38,TR 130 1 aX sn),(27,TR 130 1 aX TM.2.2)]) (wR []) (λTM y65 G65 h ab1 ab2=>?_);obtain⟨xM,wD,vk⟩:=TM
 try dsimp only
 refine sr<|lE h λJ2 T8 h=>ls _ Y Y T8<|dn<|qq ?_;cases J2;refine cF<|cc<|aV.x<|aV.x<|bG.x<|aV.n ?_;obtain rfl:=O (F h);exact⟨(wD,vk),ab2 _ Y,wR []⟩;refine cT<|bA<|aV.n<|qq<|bj<|sr<|mv Y<|bE (V h) λx74 h74 h=>ix Y Y h74<|lr Y Y<|ag Y<|ag Y<|dn<|aW<|mo (s:=.row _) Y<|mv Y<|mv Y<|lE h λPk XT h=>ad _ Y Y XT<|mo (s:=.fW _ _) Y<|mo (s:=.row _) Y<|mv Y<|mv Y<|lE h λx84 h84 h=>ad _ Y Y h84<|bE h λXp h85 h=>iR Y Y Y h85 ?_;refine bE h λOB XU h=>lR Y Y XU Y<|lE h λOC XV h=>cv _ Y (UK.nat XV)<|mv Y<|lE h λTN h89 h=>cv _ Y (UK.nat h89)<|lE h λWd h90 h=>ad _ Y Y (UK.add (a:=OC) (b:=TN) h90) ?_;obtain⟨⟨x91,k68⟩,h91,h⟩:=bS h;refine cB (cg h91) 68 Y ⟨Y,aq⟩<|bE h λXq h92 h=>iR Y Y Y h92<|bE h λl69 XW h=>sR x91 Y Y Y Y XW<|RT.done<|bG.n<|aV.n<|aW<|lE h λTO h93 h=>ad _ Y Y h93<|mv Y<|RT.done ?_;obtain rfl:=O h;exact aV.n ⟨(TO,k68,l69),ab1 _ Y,wR []⟩;subst ab0;obtain⟨Fi,Az⟩:=J9
 try dsimp only
 refine aV.n<|aW<|mo (s:=.row _) Y<|mv Y<|mv Y<|lE sE λWe h97 sE=>ad _ Y Y h97<|mo (s:=.fW _ _) Y<|mo (s:=.row _) Y<|mv Y<|mv Y<|lE sE λL3 T9 sE=>ad _ Y Y T9<|bE sE λCb Mj sE=>iR Y Y Y Mj<|bE sE λXr acd sE=>lR Y Y acd Y<|lE sE λXs ace sE=>cv _ Y (UK.nat ace) ?_;obtain⟨⟨TP,k72⟩,acf,sE⟩:=bS sE;exact cB (cg acf) 68 Y ⟨Y,aq⟩<|bE sE λXt acg sE=>iR Y Y Y acg<|bE sE λl73 XX sE=>sR TP Y Y Y Y XX<|dn<|⟨(Q1,l73),sE,wR []⟩;obtain⟨L2,HB⟩:=Q0
 try dsimp only
 refine aV.n<|aW<|mo (s:=.row _) Y<|mv Y<|mv Y<|lE h λTL ach h=>cv _ Y (UK.nat ach)<|bE h λXo aci h=>iR Y Y Y aci<|bE h λl55 XY h=>sR TL Y Y Y Y XY<|RT.done<|bG.n<|aV.n<|aW<|mv Y<|lE h λvR h46 h=>sb _ Y Y h46<|ag Y<|RT.done ?_;obtain rfl:=O h;exact aV.n ⟨(vR,l55,HB),abT _ Y,wR []⟩;subst abS;obtain⟨AA,xN⟩:=J8
 try dsimp only
 refine aV.n<|sr<|mv Y<|bE T6 λXu acj T6=>RT.nQ (n:=1) (e:=aX) .none Y Y T Y T (by rfl) (by decide) (by exact⟨au,aq⟩) acj<|an (s:=.row _) Y<|dn<|qq<|sr<|mv Y<|mv Y<|dn<|bE T6 λe81 ack acm=>?_;refine bV (λ(qL:(List Nat))=>AS.cI 141 [(4,.row 38),(5,.row 114)] [] [(38,TR 130 1 aX AA),(114,TR 130 1 aX qL)]) (λqL=>qL=e81) ?_ (λqL acn=>?_);refine bj ?_;refine bW ack (λWf=>AS.cI 141 [(4,.row 38),(5,.row 114),(7,.sv (.v (.int .u64 ((iX:Nat):Int)))),(8,.row 27),(115,ai gM),(116,ai Wf.1)] [] [(38,TR 130 1 aX AA),(114,TR 130 1 aX Wf.2),(27,TR 130 1 aX xN)]) (wR []) (λWf y81 G81 h aco acp=>?_);obtain⟨tQ,wE⟩:=Wf
 try dsimp only
 refine sr<|lE h λTQ acq h=>ls _ Y Y acq<|dn<|qq ?_;cases TQ;refine cF<|cc<|aV.x<|aV.x<|bG.x<|aV.n ?_;obtain rfl:=O (F h);exact⟨wE,acp _ Y,wR []⟩;refine cT<|bA<|aV.n<|qq<|bj<|sr<|mv Y<|ag Y<|dn<|bf mixed<|mo (s:=.row _) Y<|mv Y<|mo (s:=.row _) Y<|mv Y<|bE (V h) λXv acr h=>iR Y Y Y acr<|bE h λXw acs h=>lR Y Y acs Y<|lE h λTS acu h=>cv _ Y (UK.nat acu)<|mo (s:=.row _) Y<|mv Y<|lE h λXx h128 h=>ad _ Y Y h128<|bE h λXy acv h=>?_;refine iR Y Y Y acv<|bE h λXz acw h=>lR Y Y acw Y<|lE h λTT acy h=>cv _ Y (UK.nat acy)<|lE h λTU acz h=>RT.shl .none _ Y Y T (by decide) (UK.shl (a:=TT) (q:=32) (s:=32) Y acz)<|lE h λTV acA h=>RT.or .none _ Y Y T (UK.or (a:=TS) (b:=TU) acA)<|mv Y<|lE h λXA acB h=>RT.shr .none _ Y Y T (Int.natCast_nonneg _) (Dv (k:=.u64) (a:=TV) (q:=((iX:Nat):Int)) (s:=min iX 64) Y acB)<|lE h λTW acC h=>cv _ Y (UK.nat acC) ?_;refine bE h λXB acD h=>iR Y Y Y acD<|bE h λl83 XZ h=>sR TW Y Y Y Y XZ ?_;refine RT.done ⟨by kernel_rfl,?_⟩;refine bG.n<|aV.n<|aW<|lE h λTX acE h=>ad _ Y Y acE<|mv Y<|RT.done ?_;obtain rfl:=O h;exact aV.n ⟨(TX,l83),aco _ Y,wR []⟩;subst acn
 try dsimp only
 refine aV.n<|sr<|mo (s:=.row _) Y<|mo (s:=.row _) Y<|an (s:=.row _) Y<|an (s:=.row _) Y<|dn<|iS (i:=38) (E1:=130) (n:=1) (e:=aX) (l:=AA) hN (λ_ h=>h) Y<|iS (i:=114) (E1:=130) (n:=1) (e:=aX) (l:=qL) hN (λ_ h=>h) Y<|bh ?_;obtain rfl:=O acm;exact R2 Y Y
theorem mX{x0:List Nat}(N:Nat){r:List Nat}(h:ek x0=some r):cL ah 175 N [slc 1 (List.map aX x0)] (nw N (slc 1 (List.map aX r))):=Pe (pN h)
theorem oQ{x0:List Nat}{x1:List Nat}(N:Nat){r:(List Nat)×(List Nat)}(h:fP x0 x1=some r):cL ah 193 N [slc 1 (List.map aX x0),slc 1 (List.map aX x1)] (.yu [nw N (slc 1 (List.map aX r.1)),nw N (slc 1 (List.map aX r.2))]):=by
 refine bC Tryz.func193 Y (af Y) (λee M vs hN hvs=>?_);unfold fP at h;refine sr<|ag Y<|aI Y (bk (N:=N) (n:=1) (e:=aX))<|dn<|cY (mu 4 304 130 1 Y Y T)<|qq<|bj<|sr<|mv Y<|mv Y<|bE h λdP gu h=>cl (fX gu) ⟨Y,Y,aq⟩<|lE h λiW kJ h=>ls _ Y Y kJ<|ag Y<|dn ?_;cases iW;refine cF<|sr<|mv Y<|lE (F h) λfS kA h=>ln Y kA<|lE h λnk oG h=>RT.leq .none _ Y Y T oG<|ag Y<|dn ?_;cases nk;refine cF<|sr<|mv Y<|lE (F h) λrB wL h=>ln Y wL<|lE h λxo FA h=>eq _ Y Y (wj (p:=rB) (q:=1) FA)<|ag Y<|dn ?_;cases xo;refine cF<|bA<|bG.n<|aV.n<|sr<|mv Y<|mv Y ?_;obtain⟨⟨XD,XE⟩,DN,h⟩:=bS (F h);refine RT.bM .none (xR N DN) hN Y ⟨Y,Y,aq⟩ T<|ex Y Y<|ex Y Y<|ag Y<|ag Y<|dn<|bh ?_;obtain rfl:=O h;exact R2 Y Y;refine cT<|sr<|mv Y<|bE (V h) λsq DT h=>cN (pN DT) ⟨Y,aq⟩<|an (s:=.row _) Y<|dn<|sr<|mo (s:=.row _) Y<|mv Y<|bE h λsj DM h=>ix Y Y DM<|lr Y Y<|lE h λAy FB h=>cv _ Y (UK.nat FB) ?_;obtain⟨⟨DB,l5⟩,Me,h⟩:=bS h;refine bE h λ_ he5 h=>cR (l:=sq) (l':=l5) (e:=aX) (wI Me) (lM he5) 39 Y (.k2 Y Y)<|ag Y<|dn<|sr<|mo (s:=.row _) Y<|mv Y<|lE h λtL h48 h=>cv _ Y (UK.nat h48)<|RT.wm (l:=[tL]) (e:=aX) .none hN (.one Y (.nil)) T Y Y Y Y Y Y<|an (s:=.row _) Y<|ag Y<|dn<|iS (i:=39) (E1:=130) (n:=1) (e:=aX) (l:=l5) hN (λ_ h=>h) Y ?_
 refine bh<|bG.r<|aV.r ?_;obtain rfl:=O h;exact R2 Y Y;refine cT<|sr<|mv Y<|bE (V h) λgN oH h=>cl (iy oH) ⟨Y,aq⟩<|mv Y<|bE h λjT sD h=>cl (iy sD) ⟨Y,aq⟩<|ag Y<|ag Y<|dn<|qq<|bf mixed<|mv Y<|mv Y<|bE h λmU tR h=>RT.quo .none _ Y Y T (nzU tR) (UK.quo tR) ?_;obtain⟨⟨XC,Q2⟩,tW,h⟩:=bS h;refine RT.bM .none (jg N tW) hN Y ⟨Y,Y,aq⟩ T<|fl Y Y<|mv Y<|mv Y<|bE h λtJ CT h=>RT.rem .none _ Y Y T (ZL CT) (O1 CT) ?_;obtain⟨⟨pM,oN⟩,qw,h⟩:=bS h;refine RT.bM .none (jg N qw) hN Y ⟨Y,Y,aq⟩ T<|fl Y Y<|ag Y<|ag Y ?_;refine RT.done ⟨by kernel_rfl,?_⟩;refine aV.n<|bh<|bG.r<|aV.r ?_;obtain rfl:=O h;exact R2 Y Y;refine cT<|sr<|mv Y<|bE (V h) λeI jh h=>RT.bM .none (mX N jh) hN Y ⟨Y,aq⟩ T<|ag Y<|ag Y<|dn<|cY (mu 4 310 130 1 Y Y T)<|iS (i:=310) (E1:=130) (n:=1) (e:=aX) (l:=[]) hN (λ_ h=>h) Y<|bh<|bG.r<|aV.r ?_;obtain rfl:=O h;exact R2 Y Y
end
section
open Go.Fw Go.Fw.Z Go.RowKit
theorem dQ{x0:Int}(N:Nat){r:Zr}(h:cf x0=some r):cL ah 90 N [ay x0] (.agg ((fZ N) r)):=by
 refine bC Tryz.func90 Y (af Y) (λee M vs hN hvs=>?_);unfold cf at h;refine sr<|al (cs:=[az false,nw N ax]) (by exact⟨au,bk,aq⟩) Y<|dn<|sr<|mv Y<|lE h λx5 h5 h=>cv _ Y (UK.conv h5)<|ag Y<|dn<|qq<|sr<|mv Y<|lE h λx7 h7 h=>ls _ Y Y h7<|dn ?_;refine bK h (λj2=>AS.cI 14 [(0,ai x0),(2,.ptr 2 0),(3,.sv (.v (.int .u64 ((j2:Nat):Int))))] [(2,⟨41,[aj false,.sv (nw N ax)]⟩)] []) (λh=>?_) (λXF h=>?_);cases x7;exact fs<|⟨x5,(F h),wR []⟩;exact cT<|aW<|mv Y<|lE (V h) λx9 h9 h=>RT.neg .none _ Y T (UK.neg h9)<|ag Y<|dn<|⟨x9,h,wR []⟩
 try dsimp only
 refine aV.n<|sr<|mv Y<|lE h λiN pg h=>ls _ Y Y pg<|mv Y ?_;obtain⟨⟨Fj,Fk⟩,kJ,h⟩:=bS h;refine RT.bM .none (jg N kJ) hN Y ⟨Y,Y,aq⟩ T<|so Y Y Y<|dn<|bh ?_;obtain rfl:=O h;exact RZ (.agg Y Y (.k2 Y Y) Y (.nil))
theorem vo{x0:Int}{r:Zr}(h:cf x0=some r):Pure ah 90 [ay x0] (.agg (eZ r)):=dO (λN=>dQ N h) (λN=>(SV.dB (zI _ _)))
theorem fT{x0:Zr}{r:Int×Bool}(h:dA x0=some r):Pure ah 166 [.agg (eZ x0)] (.yu [ay r.1,az r.2]):=by
 obtain⟨bp,bt⟩:=x0;refine bw Tryz.func166 Y (af Y) (λee M vs hvs=>?_);unfold dA at h;refine sr<|bx Y<|ag Y<|ag Y<|dn<|sr<|fa Y Y<|lV Y Y Y<|bE h λx8 h8 h=>cl (cw h8) ⟨Y,aq⟩<|ag Y<|dn<|qq<|sr<|mv Y<|lE h λef gV h=>ln Y gV<|lE h λiN pg h=>gt _ Y Y pg<|dn ?_;cases iN;refine fs<|sr<|mv Y<|bE (F h) λiW kJ h=>cl (iy kJ) ⟨Y,aq⟩<|ag Y<|dn<|qq<|sr<|fa Y Y<|lV Y Y Y<|dn ?_;cases bp;refine fs<|qq<|sr<|mv Y<|lE (F h) λlB qM h=>ge _ Y Y (leN (p:=9223372036854775808) (q:=iW) qM)<|dn ?_;cases lB;refine fs<|sr<|mv Y<|lE (F h) λiX oP h=>cv _ Y oP<|ag Y<|ag Y<|dn<|bh ?_;obtain rfl:=O h;exact R2 Y Y;refine cT<|sr<|ag Y<|ag Y<|dn<|bh<|aV.r ?_;obtain rfl:=O (V h);exact R2 Y Y;refine cT<|qq<|sr<|mv Y<|lE (V h) λgM mW h=>gt _ Y Y (ZK (p:=9223372036854775808) (q:=iW) mW)<|dn ?_;cases gM;refine fs<|sr<|mv Y<|lE (F h) λnk oG h=>RT.neg .none _ Y T (UK.neg oG)<|lE h λjc pO h=>cv _ Y pO<|ag Y<|ag Y<|dn<|bh<|aV.r ?_;obtain rfl:=O h;exact R2 Y Y;refine cT<|sr<|ag Y<|ag Y<|dn<|bh<|aV.r<|aV.r ?_;obtain rfl:=O (V h);exact R2 Y Y;refine cT<|sr<|ag Y<|ag Y<|dn<|bh<|aV.r ?_;obtain rfl:=O (V h);exact R2 Y Y
theorem pq{x0:List Nat}(N:Nat){r:List Nat}(h:bu x0=some r):cL ah 144 N [nw N (slc 1 (List.map aX x0))] (nw N (slc 1 (List.map aX r))):=by
 refine bC Tryz.func144 Y (af Y) (λee M vs hN hvs=>?_);unfold bu at h;refine sr<|aI Y (bk (N:=N) (n:=1) (e:=aX))<|dn<|qq<|bE h λMb DH zb=>?_;refine bV (λ(Aw:(List Nat))=>AS.cI 21 [(0,.sv (nw N (slc 1 (List.map aX Aw))))] [] []) (λAw=>Aw=Mb) ?_ (λAw DI=>?_);refine bj ?_;refine bW DH (λDD=>AS.cI 21 [(0,.sv (nw N (slc 1 (List.map aX DD))))] [] []) (wR []) (λy5 ZQ ZR h DJ AD=>?_)
 try dsimp only
 refine qq<|qq ?_;refine bK h (λJ4=>AS.cI 21 [(0,.sv (nw N (slc 1 (List.map aX y5)))),(14,aj J4)] [] []) (λh=>?_) (λAv h=>?_);refine aW<|mv Y<|lE h λx4 h4 h=>RT.CO .none Y T h4<|lE h λx5 h5 h=>gt _ Y Y h5<|mv Y<|bE h λxJ eD h=>?_;cases x5;obtain rfl:=O (F eD);exact ww<|ww<|ww<|ww<|ww<|ww<|ww<|pF Y<|dn<|⟨false,h,wR []⟩;refine gm Y<|gm Y<|lE (V eD) λx9 h9 eD=>RT.CO (.some Y Y) Y T h9<|lE eD λef gV eD=>RT.sub (.some Y Y) _ Y Y T gV<|bE eD λiN pg eD=>RT.Xh (.some Y Y) Y Y T pg<|gr Y Y<|lE eD λiW kJ eD=>ZO _ Y Y (ZI (p:=iN) (q:=0) kJ) ?_;obtain rfl:=O eD;exact pT Y<|dn<|⟨iW,h,wR []⟩
 try dsimp only
 refine aV.n ?_;cases Av;refine cF<|cc<|aV.x<|aV.x<|bG.x<|aV.n ?_;obtain rfl:=O (F h);exact⟨y5,AD _ Y,wR []⟩;refine cT<|bA<|aV.n<|bj<|aW<|mv Y<|mv Y<|lE (V h) λgM mW h=>RT.CO .none Y T mW<|lE h λfS kA h=>sb _ Y Y kA<|bE h λnk oG h=>RT.Pf .none 0 fS Y Y ⟨_,Y⟩ T oG<|ag Y<|RT.done<|bG.n ?_;obtain rfl:=O h;exact aV.n ⟨nk,DJ _ Y,wR []⟩;subst DI
 try dsimp only
 refine aV.n<|sr<|mv Y<|ag Y<|dn<|bh ?_;obtain rfl:=O zb;exact R1 Y
theorem eW{x0:Bool}{x1:List Nat}(N:Nat){r:Zr}(h:cu x0 x1=some r):cL ah 163 N [az x0,nw N (slc 1 (List.map aX x1))] (.agg ((fZ N) r)):=by
 refine bC Tryz.func163 Y (af Y) (λee M vs hN hvs=>?_);unfold cu at h;refine sr<|al (cs:=[az false,nw N ax]) (by exact⟨au,bk,aq⟩) Y<|dn<|sr<|mv Y<|bE h λx6 h6 h=>RT.bM .none (pq N h6) hN Y ⟨Y,aq⟩ T<|ag Y<|dn<|qq<|sr<|mv Y<|lE h λx8 h8 h=>RT.CO .none Y T h8<|lE h λx9 h9 h=>eq _ Y Y (wj (p:=x8) (q:=0) h9)<|dn ?_;cases x9;refine fs<|sr<|mv Y<|mv Y<|bI (cs:=[_,_]) (cs':=[az x0,nw N (slc 1 (List.map aX x6))]) (.one Y (.one Y (.nil))) ⟨au,au,aq⟩<|so Y Y Y<|dn<|bh ?_;obtain rfl:=O (F h);exact RZ (.agg Y Y (.k2 Y Y) Y (.nil));refine cT<|sr<|bI (cs:=[_,_]) (cs':=[az false,nw N ax]) (.nil) ⟨au,bk,aq⟩<|so Y Y Y<|dn<|bh<|aV.r ?_;obtain rfl:=O (V h);exact RZ (.agg Y Y (.k2 Y Y) Y (.nil))
theorem nV{x0:Bool}{x1:List Nat}{x2:Bool}{x3:List Nat}(N:Nat){r:Zr}(h:dr x0 x1 x2 x3=some r):cL ah 203 N [az x0,slc 1 (List.map aX x1),az x2,slc 1 (List.map aX x3)] (.agg ((fZ N) r)):=by
 refine bC Tryz.func203 Y (af Y) (λee M vs hN hvs=>?_);unfold dr at h;refine sr<|al (cs:=[az false,nw N ax]) (by exact⟨au,bk,aq⟩) Y<|dn<|qq<|sr<|mv Y<|mv Y<|lE h λiN pg h=>RT.aaE .none _ Y Y T pg<|dn ?_;cases iN;refine fs<|qq<|sr<|mv Y<|mv Y<|bE (F h) λnk oG h=>cl (fX oG) ⟨Y,Y,aq⟩<|lE h λjc pO h=>ls _ Y Y pO<|dn ?_;cases jc;refine fs<|sr<|mv Y<|mv Y<|mv Y<|bE (F h) λiG nm h=>RT.bM .none (kK N nm) hN Y ⟨Y,Y,aq⟩ T ?_;obtain⟨⟨uK,uL⟩,DL,h⟩:=bS h;refine RT.bM .none (eW N DL) hN Y ⟨Y,Y,aq⟩ T<|so Y Y Y<|dn<|bh ?_;obtain rfl:=O h;exact RZ (.agg Y Y (.k2 Y Y) Y (.nil));refine cT<|sr<|mv Y<|mv Y<|mv Y<|bE (V h) λiX oP h=>RT.bM .none (kK N oP) hN Y ⟨Y,Y,aq⟩ T ?_;obtain⟨⟨lF,kI⟩,xP,h⟩:=bS h;refine RT.bM .none (eW N xP) hN Y ⟨Y,Y,aq⟩ T<|so Y Y Y<|dn<|bh<|aV.r ?_;obtain rfl:=O h;exact RZ (.agg Y Y (.k2 Y Y) Y (.nil));refine cT<|sr<|mv Y<|mv Y<|mv Y<|bE (V h) λeI jh h=>RT.bM .none (oO N jh) hN Y ⟨Y,Y,aq⟩ T ?_;obtain⟨⟨mw,mz⟩,lC,h⟩:=bS h;refine RT.bM .none (eW N lC) hN Y ⟨Y,Y,aq⟩ T<|so Y Y Y<|dn<|bh<|aV.r ?_;obtain rfl:=O h;exact RZ (.agg Y Y (.k2 Y Y) Y (.nil))
theorem DU{x0:Zr}{x1:Zr}(N:Nat){r:Zr}(h:mA x0 x1=some r):cL ah 188 N [.agg (eZ x0),.agg (eZ x1)] (.agg ((fZ N) r)):=by
 obtain⟨bp,bt⟩:=x0;obtain⟨cC,cz⟩:=x1;refine bC Tryz.func188 Y (af Y) (λee M vs hN hvs=>?_);unfold mA at h;refine sr<|bx Y<|bx Y<|al (cs:=[az false,nw N ax]) (by exact⟨au,bk,aq⟩) Y<|dn<|sr<|ld Y Y (.k2 Y Y) ?_;obtain⟨⟨Cc,HC⟩,gu,h⟩:=bS h;refine cl (fT gu) ⟨Y,aq⟩<|mv Y<|ex Y Y<|ex Y Y<|ag Y<|ag Y<|dn<|sr<|ld Y Y (.k2 Y Y) ?_;obtain⟨⟨DF,HD⟩,mW,h⟩:=bS h;refine cl (fT mW) ⟨Y,aq⟩<|mv Y<|ex Y Y<|ex Y Y<|ag Y<|ag Y<|dn<|qq<|qq ?_;refine bK h (λj3=>AS.cI 48 [(2,.ptr 2 0),(3,.ptr 3 0),(4,.ptr 4 0),(5,ai Cc),(7,ai DF),(23,aj j3)] [(4,⟨41,[aj false,.sv (nw N ax)]⟩),(3,⟨41,[aj cC,.sv (slc 1 (List.map aX cz))]⟩),(2,⟨41,[aj bp,.sv (slc 1 (List.map aX bt))]⟩)] []) (λh=>?_) (λAB h=>?_);refine aW<|mv Y<|mv Y<|bE h λFo DV h=>?_;cases HC;obtain rfl:=O (F DV);exact ww<|pF Y<|dn<|⟨false,h,wR []⟩;refine gm Y ?_;obtain rfl:=O (V DV);exact pT Y<|dn<|⟨HD,h,wR []⟩
 try dsimp only
 refine aV.n ?_;refine bK h (λj5=>AS.cI 48 [(2,.ptr 2 0),(3,.ptr 3 0),(4,.ptr 4 0)] [(4,⟨41,[aj false,.sv (nw N ax)]⟩),(3,⟨41,[aj cC,.sv (slc 1 (List.map aX cz))]⟩),(2,⟨41,[aj bp,.sv (slc 1 (List.map aX bt))]⟩)] []) (λh=>?_) (λj5 h=>?_);cases AB;exact fs<|⟨(),(F h),wR []⟩;refine cT<|sr<|mv Y<|mv Y<|lE (V h) λmU tR h=>ad _ Y Y tR<|ag Y<|dn<|sr<|mv Y<|mv Y<|lE h λiG nm h=>RT.xor .none _ Y Y T nm<|mv Y<|mv Y<|lE h λjU qw h=>RT.xor .none _ Y Y T qw<|lE h λtO zR h=>RT.and .none _ Y Y T zR<|lE h λqH wF h=>ge _ Y Y wF<|dn ?_;cases qH;exact fs<|⟨(),(F h),wR []⟩;refine cT<|sr<|mv Y ?_;obtain⟨⟨su,sw⟩,wL,h⟩:=bS (V h);refine RT.bM .none (dQ N wL) hN Y ⟨Y,aq⟩ T<|so Y Y Y<|dn<|bh<|aV.r<|aV.r ?_;obtain rfl:=O h;exact RZ (.agg Y Y (.k2 Y Y) Y (.nil))
 try dsimp only
 refine aV.n<|qq<|bf mixed<|fa Y Y<|lV Y Y Y<|fa Y Y<|lV Y Y Y<|bE h λxn HH h=>cl (cw HH) ⟨Y,aq⟩<|fa Y Y<|lV Y Y Y<|fa Y Y<|lV Y Y Y<|bE h λvR h46 h=>cl (cw h46) ⟨Y,aq⟩ ?_;obtain⟨⟨Fl,Fm⟩,ze,h⟩:=bS h;refine RT.bM .none (nV N ze) hN Y ⟨Y,Y,Y,Y,aq⟩ T<|so Y Y Y ?_;refine RT.done ⟨by kernel_rfl,?_⟩;refine aV.n<|bh ?_;obtain rfl:=O h;exact RZ (.agg Y Y (.k2 Y Y) Y (.nil))
theorem DW{x0:Zr}{x1:Zr}(N:Nat){r:Zr}(h:mB x0 x1=some r):cL ah 190 N [.agg (eZ x0),.agg (eZ x1)] (.agg ((fZ N) r)):=by
 obtain⟨bp,bt⟩:=x0;obtain⟨cC,cz⟩:=x1;refine bC Tryz.func190 Y (af Y) (λee M vs hN hvs=>?_);unfold mB at h;refine sr<|bx Y<|bx Y<|al (cs:=[az false,nw N ax]) (by exact⟨au,bk,aq⟩) Y<|dn<|sr<|ld Y Y (.k2 Y Y) ?_;obtain⟨⟨Cc,HC⟩,gu,h⟩:=bS h;refine cl (fT gu) ⟨Y,aq⟩<|mv Y<|ex Y Y<|ex Y Y<|ag Y<|ag Y<|dn<|sr<|ld Y Y (.k2 Y Y) ?_;obtain⟨⟨DF,HD⟩,mW,h⟩:=bS h;refine cl (fT mW) ⟨Y,aq⟩<|mv Y<|ex Y Y<|ex Y Y<|ag Y<|ag Y<|dn<|qq<|qq ?_;refine bK h (λj3=>AS.cI 49 [(2,.ptr 2 0),(3,.ptr 3 0),(4,.ptr 4 0),(5,ai Cc),(7,ai DF),(23,aj j3)] [(4,⟨41,[aj false,.sv (nw N ax)]⟩),(3,⟨41,[aj cC,.sv (slc 1 (List.map aX cz))]⟩),(2,⟨41,[aj bp,.sv (slc 1 (List.map aX bt))]⟩)] []) (λh=>?_) (λAB h=>?_);refine aW<|mv Y<|mv Y<|bE h λFo DV h=>?_;cases HC;obtain rfl:=O (F DV);exact ww<|pF Y<|dn<|⟨false,h,wR []⟩;refine gm Y ?_;obtain rfl:=O (V DV);exact pT Y<|dn<|⟨HD,h,wR []⟩
 try dsimp only
 refine aV.n ?_;refine bK h (λj5=>AS.cI 49 [(2,.ptr 2 0),(3,.ptr 3 0),(4,.ptr 4 0)] [(4,⟨41,[aj false,.sv (nw N ax)]⟩),(3,⟨41,[aj cC,.sv (slc 1 (List.map aX cz))]⟩),(2,⟨41,[aj bp,.sv (slc 1 (List.map aX bt))]⟩)] []) (λh=>?_) (λj5 h=>?_);cases AB;exact fs<|⟨(),(F h),wR []⟩;refine cT<|sr<|mv Y<|mv Y<|lE (V h) λmU tR h=>sb _ Y Y tR<|ag Y<|dn<|sr<|mv Y<|mv Y<|lE h λiG nm h=>RT.xor .none _ Y Y T nm<|mv Y<|mv Y<|lE h λjU qw h=>RT.xor .none _ Y Y T qw<|lE h λtO zR h=>RT.and .none _ Y Y T zR<|lE h λqH wF h=>ge _ Y Y wF<|dn ?_;cases qH;exact fs<|⟨(),(F h),wR []⟩;refine cT<|sr<|mv Y ?_;obtain⟨⟨su,sw⟩,wL,h⟩:=bS (V h);refine RT.bM .none (dQ N wL) hN Y ⟨Y,aq⟩ T<|so Y Y Y<|dn<|bh<|aV.r<|aV.r ?_;obtain rfl:=O h;exact RZ (.agg Y Y (.k2 Y Y) Y (.nil))
 try dsimp only
 refine aV.n<|qq<|bf mixed<|fa Y Y<|lV Y Y Y<|fa Y Y<|lV Y Y Y<|bE h λxn HH h=>cl (cw HH) ⟨Y,aq⟩<|fa Y Y<|lV Y Y Y<|lE h λAy FB h=>nt Y _ FB<|fa Y Y<|lV Y Y Y<|bE h λtK ze h=>cl (cw ze) ⟨Y,aq⟩ ?_;obtain⟨⟨Q3,Q4⟩,h48,h⟩:=bS h;refine RT.bM .none (nV N h48) hN Y ⟨Y,Y,Y,Y,aq⟩ T<|so Y Y Y ?_;refine RT.done ⟨by kernel_rfl,?_⟩;refine aV.n<|bh ?_;obtain rfl:=O h;exact RZ (.agg Y Y (.k2 Y Y) Y (.nil))
theorem ep{x0:Zr}{x1:Zr}(N:Nat){r:Zr}(h:cX x0 x1=some r):cL ah 130 N [.agg (eZ x0),.agg (eZ x1)] (.agg ((fZ N) r)):=by
 obtain⟨bp,bt⟩:=x0;obtain⟨cC,cz⟩:=x1;refine bC Tryz.func130 Y (af Y) (λee M vs hN hvs=>?_);unfold cX at h;refine sr<|bx Y<|bx Y<|al (cs:=[az false,nw N ax]) (by exact⟨au,bk,aq⟩) Y<|dn<|qq<|bf mixed<|fa Y Y<|lV Y Y Y<|bE h λx9 h9 h=>cl (cw h9) ⟨Y,aq⟩<|fa Y Y<|lV Y Y Y<|bE h λdP gu h=>cl (cw gu) ⟨Y,aq⟩<|ag Y<|ag Y ?_;refine RT.done ⟨by kernel_rfl,?_⟩;refine aV.n<|qq<|qq ?_;refine bK h (λj3=>AS.cI 41 [(2,.ptr 2 0),(3,.ptr 3 0),(4,.ptr 4 0),(5,.sv (slc 1 (List.map aX x9))),(6,.sv (slc 1 (List.map aX dP))),(20,aj j3)] [(4,⟨41,[aj false,.sv (nw N ax)]⟩),(3,⟨41,[aj cC,.sv (slc 1 (List.map aX cz))]⟩),(2,⟨41,[aj bp,.sv (slc 1 (List.map aX bt))]⟩)] []) (λh=>?_) (λL4 h=>?_);refine aW<|mv Y<|lE h λfC lz h=>ln Y lz<|lE h λeI jh h=>RT.leq .none _ Y Y T jh<|mv Y<|bE h λQ7 rD h=>?_;cases eI;obtain rfl:=O (F rD);exact ww<|ww<|ww<|pF Y<|dn<|⟨false,h,wR []⟩;refine gm Y<|lE (V rD) λfS kA rD=>gn Y kA<|lE rD λnk oG rD=>RT.leq (.some Y Y) _ Y Y T oG ?_;obtain rfl:=O rD;exact pT Y<|dn<|⟨nk,h,wR []⟩
 try dsimp only
 refine aV.n ?_;cases L4;refine fs<|qq<|bf mixed<|fa Y Y<|lV Y Y Y<|fa Y Y<|lV Y Y Y<|lE (F h) λrB wL h=>RT.OM .none _ Y Y T wL<|mv Y<|mv Y<|bE h λsq DT h=>RT.bM .none (wG N DT) hN Y ⟨Y,Y,aq⟩ T ?_;obtain⟨⟨yJ,yK⟩,rC,h⟩:=bS h;refine RT.bM .none (eW N rC) hN Y ⟨Y,Y,aq⟩ T<|so Y Y Y ?_;refine RT.done ⟨by kernel_rfl,?_⟩;refine aV.n<|bh ?_;obtain rfl:=O h;exact RZ (.agg Y Y (.k2 Y Y) Y (.nil));refine cT<|qq<|bf mixed<|fa Y Y<|lV Y Y Y<|fa Y Y<|lV Y Y Y<|lE (V h) λyH xP h=>RT.OM .none _ Y Y T xP<|mv Y<|bE h λlD tW h=>cl (iy tW) ⟨Y,aq⟩<|mv Y<|bE h λiG nm h=>cl (iy nm) ⟨Y,aq⟩<|lE h λzP DL h=>RT.mul .none _ Y Y T (UK.mul (a:=lD) (b:=iG) DL) ?_;obtain⟨⟨Q5,Q6⟩,CT,h⟩:=bS h;refine RT.bM .none (jg N CT) hN Y ⟨Y,Y,aq⟩ T<|so Y Y Y ?_;refine RT.done ⟨by kernel_rfl,?_⟩;refine aV.n<|bh<|aV.r ?_;obtain rfl:=O h;exact RZ (.agg Y Y (.k2 Y Y) Y (.nil))
theorem wM{x0:Zr}{x1:Zr}{r:Zr}(h:cX x0 x1=some r):Pure ah 130 [.agg (eZ x0),.agg (eZ x1)] (.agg (eZ r)):=dO (λN=>ep N h) (λN=>(SV.dB (zI _ _)))
theorem nA{x0:Zr}(N:Nat){r:Zr}(h:fJ x0=some r):cL ah 145 N [.agg (eZ x0)] (.agg ((fZ N) r)):=by
 obtain⟨bp,bt⟩:=x0;refine bC Tryz.func145 Y (af Y) (λee M vs hN hvs=>?_);unfold fJ at h;refine sr<|bx Y<|al (cs:=[az false,nw N ax]) (by exact⟨au,bk,aq⟩) Y<|dn<|qq<|bf mixed<|fa Y Y<|lV Y Y Y<|lE h λx5 h5 h=>nt Y _ h5<|fa Y Y<|lV Y Y Y<|bE h λx8 h8 h=>cl (cw h8) ⟨Y,aq⟩<|bE h λx9 h9 h=>RT.bM .none (mX N h9) hN Y ⟨Y,aq⟩ T ?_;obtain⟨⟨Fp,Fq⟩,gV,h⟩:=bS h;refine RT.bM .none (eW N gV) hN Y ⟨Y,Y,aq⟩ T<|so Y Y Y ?_;refine RT.done ⟨by kernel_rfl,?_⟩;refine aV.n<|bh ?_;obtain rfl:=O h;exact RZ (.agg Y Y (.k2 Y Y) Y (.nil))
theorem wN{x0:Zr}{r:Zr}(h:fJ x0=some r):Pure ah 145 [.agg (eZ x0)] (.agg (eZ r)):=dO (λN=>nA N h) (λN=>(SV.dB (zI _ _)))
theorem eM{x0:Zr}{r:Int}(h:c6 x0=some r):Pure ah 104 [.agg (eZ x0)] (ay r):=by
 obtain⟨bp,bt⟩:=x0;refine bw Tryz.func104 Y (af Y) (λee M vs hvs=>?_);unfold c6 at h;refine sr<|bx Y<|ag Y<|dn<|qq<|bj<|sr<|fa Y Y<|lV Y Y Y<|bE h λx6 h6 h=>cl (cw h6) ⟨Y,aq⟩<|lE h λx7 h7 h=>ln Y h7<|lE h λx8 h8 h=>eq _ Y Y (wj (p:=x7) (q:=0) h8)<|ag Y<|dn ?_;cases x8;refine cF<|sr<|fa Y Y<|lV Y Y Y<|ag Y<|dn ?_;replace h:=F h;cases bp;refine cF<|bA<|bG.n<|aV.n<|sr<|ag Y<|dn<|bh ?_;obtain rfl:=O (F h);exact R1 Y;refine cT<|sr<|ag Y<|dn<|bh<|bG.r<|aV.r ?_;obtain rfl:=O (V h);exact R1 Y;refine cT<|sr<|ag Y<|dn<|bh<|bG.r<|aV.r ?_;obtain rfl:=O (V h);exact R1 Y
theorem DX{x0:Zr}{x1:Zr}{r:Int}(h:mD x0 x1=some r):Pure ah 129 [.agg (eZ x0),.agg (eZ x1)] (ay r):=by
 obtain⟨bp,bt⟩:=x0;obtain⟨cC,cz⟩:=x1;refine bw Tryz.func129 Y (af Y) (λee M vs hvs=>?_);unfold mD at h;refine sr<|bx Y<|bx Y<|ag Y<|dn<|qq<|bf mixed<|ld Y Y (.k2 Y Y)<|bE h λx8 h8 h=>cl (eM h8) ⟨Y,aq⟩<|ld Y Y (.k2 Y Y)<|bE h λef gV h=>cl (eM gV) ⟨Y,aq⟩<|ag Y<|ag Y ?_;refine RT.done ⟨by kernel_rfl,?_⟩;refine aV.n<|qq<|bj<|sr<|mv Y<|mv Y<|lE h λfC lz h=>ls _ Y Y lz<|ag Y<|dn ?_;cases fC;refine cF<|sr<|mv Y<|mv Y<|lE (F h) λfS kA h=>gt _ Y Y kA<|ag Y<|dn ?_;cases fS;refine cF<|sr<|mv Y<|lE (F h) λgN oH h=>ls _ Y Y oH<|ag Y<|dn ?_;cases gN;refine cF<|bA<|bG.n<|aV.n<|qq<|bf mixed<|fa Y Y<|lV Y Y Y<|bE (F h) λtJ CT h=>cl (cw CT) ⟨Y,aq⟩<|fa Y Y<|lV Y Y Y<|bE h λqH wF h=>cl (cw wF) ⟨Y,aq⟩<|bE h λrN AF h=>cl (fX AF) ⟨Y,Y,aq⟩<|ag Y ?_;refine RT.done ⟨by kernel_rfl,?_⟩;refine aV.n<|bh ?_;obtain rfl:=O h;exact R1 Y;refine cT<|qq<|bf mixed<|fa Y Y<|lV Y Y Y<|bE (V h) λiX oP h=>cl (cw oP) ⟨Y,aq⟩<|fa Y Y<|lV Y Y Y<|bE h λlD tW h=>cl (cw tW) ⟨Y,aq⟩<|bE h λnT wH h=>cl (fX wH) ⟨Y,Y,aq⟩<|ag Y ?_;refine RT.done ⟨by kernel_rfl,?_⟩;refine aV.n<|bh<|bG.r<|aV.r ?_;obtain rfl:=O h;exact R1 Y;refine cT<|sr<|ag Y<|dn<|bh<|bG.r<|aV.r ?_;obtain rfl:=O (V h);exact R1 Y;refine cT<|sr<|ag Y<|dn<|bh<|bG.r<|aV.r ?_
 obtain rfl:=O (V h);exact R1 Y
theorem rE{x0:Zr}{x1:Zr}(N:Nat){r:Zr×Zr×Int}(h:eV x0 x1=some r):cL ah 169 N [.agg (eZ x0),.agg (eZ x1)] (.yu [.agg ((fZ N) r.1),.agg ((fZ N) r.2.1),ay r.2.2]):=by
 obtain⟨bp,bt⟩:=x0;obtain⟨cC,cz⟩:=x1;refine bC Tryz.func169 Y (af Y) (λee M vs hN hvs=>?_);unfold eV at h;refine sr<|bx Y<|bx Y<|al (cs:=[az false,nw N ax]) (by exact⟨au,bk,aq⟩) Y<|al (cs:=[az false,nw N ax]) (by exact⟨au,bk,aq⟩) Y<|ag Y<|dn<|qq<|bf mixed<|fa Y Y<|lV Y Y Y<|bE h λiW kJ h=>cl (cw kJ) ⟨Y,aq⟩<|fa Y Y ?_;refine lV Y Y Y<|bE h λgX lC h=>cl (cw lC) ⟨Y,aq⟩<|ag Y<|ag Y ?_;refine RT.done ⟨by kernel_rfl,?_⟩;refine aV.n<|qq<|sr<|mv Y<|lE h λfS kA h=>ln Y kA<|lE h λnk oG h=>eq _ Y Y (wj (p:=fS) (q:=0) oG)<|dn ?_;cases nk;refine fs<|sr<|mv Y<|mv Y ?_;obtain⟨⟨L5,XG⟩,xP,h⟩:=bS (F h);refine RT.bM .none (oQ N xP) hN Y ⟨Y,Y,aq⟩ T<|mv Y<|ex Y Y<|ex Y Y<|ag Y<|ag Y<|dn<|sr<|mv Y<|bE h λiG nm h=>RT.bM .none (pq N nm) hN Y ⟨Y,aq⟩ T<|ag Y<|dn<|qq<|qq ?_;refine bK h (λj3=>AS.cI 52 [(2,.ptr 2 0),(3,.ptr 3 0),(4,.ptr 4 0),(5,.ptr 5 0),(8,.sv (slc 1 (List.map aX gX))),(9,.sv (nw N (slc 1 (List.map aX L5)))),(10,.sv (nw N (slc 1 (List.map aX iG)))),(36,aj j3.1)] [(5,⟨41,[aj false,.sv (nw N ax)]⟩),(4,⟨41,[aj false,.sv (nw N ax)]⟩),(3,⟨41,[aj cC,.sv (slc 1 (List.map aX cz))]⟩),(2,⟨41,[aj j3.2,.sv (slc 1 (List.map aX bt))]⟩)] []) (λh=>?_) (λj3 h=>?_)
 refine aW<|fa Y Y<|lV Y Y Y<|mv Y<|bE h λRb DV h=>?_;cases bp;obtain rfl:=O (F DV);exact ww<|ww<|ww<|pF Y<|dn<|⟨(false,false),h,wR []⟩;refine gm Y<|lE (V DV) λqH wF DV=>RT.CO (.some Y Y) Y T wF<|lE DV λrN AF DV=>gg _ Y Y AF ?_;obtain rfl:=O DV;exact pT Y<|dn<|⟨(rN,true),h,wR []⟩;obtain⟨L6,HE⟩:=j3
 try dsimp only
 refine aV.n ?_;refine bK h (λj5=>AS.cI 52 [(2,.ptr 2 0),(3,.ptr 3 0),(4,.ptr 4 0),(5,.ptr 5 0),(9,.sv (nw N (slc 1 (List.map aX j5.1)))),(10,.sv (nw N (slc 1 (List.map aX j5.2))))] [(5,⟨41,[aj false,.sv (nw N ax)]⟩),(4,⟨41,[aj false,.sv (nw N ax)]⟩),(3,⟨41,[aj cC,.sv (slc 1 (List.map aX cz))]⟩),(2,⟨41,[aj HE,.sv (slc 1 (List.map aX bt))]⟩)] []) (λh=>?_) (λj5 h=>?_);cases L6;exact fs<|⟨(L5,iG),(F h),wR []⟩;exact cT<|sr<|mv Y<|RT.wm (l:=[1]) (e:=aX) .none hN (.one Y (.nil)) T Y Y Y Y Y Y<|bE (V h) λsq DT h=>RT.bM .none ((oO N DT).w (args':=[_,_]) ⟨dY,dY,aq⟩) hN Y ⟨Y,Y,aq⟩ T<|ag Y<|dn<|aW<|mv Y<|mv Y<|bE h λsj DM h=>RT.bM .none ((kK N DM).w (args':=[_,_]) ⟨au,dY,aq⟩) hN Y ⟨Y,Y,aq⟩ T<|ag Y<|dn<|⟨(sq,sj),h,wR []⟩;obtain⟨XH,Q8⟩:=j5
 try dsimp only
 refine aV.n<|sr<|fa Y Y<|lV Y Y Y<|fa Y Y<|lV Y Y Y<|lE h λtK ze h=>RT.OM .none _ Y Y T ze<|mv Y ?_;obtain⟨⟨Q9,Ra⟩,XN,h⟩:=bS h;refine RT.bM .none (eW N XN) hN Y ⟨Y,Y,aq⟩ T<|mv Y ?_;obtain⟨⟨CQ,CR⟩,J7,h⟩:=bS h;refine RT.bM .none (eW N J7) hN Y ⟨Y,Y,aq⟩ T<|so Y Y Y<|so Y Y Y<|ag Y<|dn<|bh ?_;obtain rfl:=O h;exact RZ (.agg Y Y (.k2 Y Y) Y (.agg Y Y (.k2 Y Y) Y (.tmp Y (.nil))));refine cT<|sr<|bI (cs:=[_,_]) (cs':=[az false,nw N ax]) (.nil) ⟨au,bk,aq⟩<|bI (cs:=[_,_]) (cs':=[az false,nw N ax]) (.nil) ⟨au,bk,aq⟩<|so Y Y Y<|so Y Y Y<|ag Y<|dn<|bh<|aV.r ?_;obtain rfl:=O (V h);exact RZ (.agg Y Y (.k2 Y Y) Y (.agg Y Y (.k2 Y Y) Y (.tmp Y (.nil))))
theorem DY{x0:Zr}{x1:Zr}(N:Nat){r:Zr}(h:kq x0 x1=some r):cL ah 168 N [.agg (eZ x0),.agg (eZ x1)] (.agg ((fZ N) r)):=by
 obtain⟨bp,bt⟩:=x0;obtain⟨cC,cz⟩:=x1;refine bC Tryz.func168 Y (af Y) (λee M vs hN hvs=>?_);unfold kq at h;refine sr<|bx Y<|bx Y<|al (cs:=[az false,nw N ax]) (by exact⟨au,bk,aq⟩) Y<|dn<|qq<|bf mixed<|fa Y Y<|lV Y Y Y<|bE h λiW kJ h=>cl (cw kJ) ⟨Y,aq⟩<|fa Y Y<|lV Y Y Y<|bE h λgX lC h=>cl (cw lC) ⟨Y,aq⟩<|ag Y<|ag Y ?_;refine RT.done ⟨by kernel_rfl,?_⟩;refine aV.n<|qq<|bE h λKS DS mE=>?_;refine bV (λ(xQ:(List Nat)×(List Nat))=>AS.cI 57 [(4,.ptr 4 0),(5,.sv (slc 1 (List.map aX xQ.1))),(6,.sv (slc 1 (List.map aX xQ.2)))] [(4,⟨41,[aj false,.sv (nw N ax)]⟩)] []) (λxQ=>xQ=KS) ?_ (λxQ Mi=>?_);refine bj ?_;refine bW DS (λza=>AS.cI 57 [(4,.ptr 4 0),(5,.sv (slc 1 (List.map aX za.1))),(6,.sv (slc 1 (List.map aX za.2)))] [(4,⟨41,[aj false,.sv (nw N ax)]⟩)] []) (wR []) (λza y12 G12 h HI HJ=>?_);obtain⟨J3,DG⟩:=za
 try dsimp only
 refine qq<|qq ?_;refine bK h (λj16=>AS.cI 57 [(4,.ptr 4 0),(5,.sv (slc 1 (List.map aX J3))),(6,.sv (slc 1 (List.map aX DG))),(29,aj j16)] [(4,⟨41,[aj false,.sv (nw N ax)]⟩)] []) (λh=>?_) (λHF h=>?_);refine aW<|mv Y<|lE h λfS kA h=>ln Y kA<|lE h λnk oG h=>gt _ Y Y oG<|mv Y<|bE h λL8 mF h=>?_;cases nk;obtain rfl:=O (F mF);exact ww<|ww<|ww<|ww<|wu<|wu<|wu<|ww<|pF Y<|dn<|⟨false,h,wR []⟩;refine gm Y<|lE (V mF) λlB qM mF=>gn Y qM<|lE mF λjT sD mF=>gg _ Y Y sD<|gm Y<|bE mF λL7 mY mF=>?_;cases jT;refine gm Y<|lE (F mY) λmU tR mY=>gn Y tR<|lE mY λlD tW mY=>gg _ Y Y tW ?_;obtain rfl:=O mY;refine gF Y ?_;obtain rfl:=O mF;exact pT Y<|dn<|⟨lD,h,wR []⟩;obtain rfl:=O (V mY);refine ww<|ww<|ww<|gT Y ?_;obtain rfl:=O mF;exact pT Y<|dn<|⟨true,h,wR []⟩
 try dsimp only
 refine aV.n ?_;cases HF;refine cF<|cc<|aV.x<|aV.x<|bG.x<|aV.n ?_;obtain rfl:=O (F h);exact⟨(J3,DG),HJ _ Y,wR []⟩;refine cT<|bA<|aV.n<|bj<|sr<|mv Y<|mv Y ?_;obtain⟨⟨abG,XI⟩,zR,h⟩:=bS (V h);refine RT.bM .none (oQ N zR) hN Y ⟨Y,Y,aq⟩ T<|mv Y<|ex Y Y<|ex Y Y<|ag Y<|ag Y<|dn<|aW<|mv Y<|mv Y<|bE h λyI HG h=>RT.bM .none (pq N HG) hN Y ⟨Y,aq⟩ T<|ag Y<|ag Y<|RT.done<|bG.n ?_;obtain rfl:=O h;exact aV.n ⟨(DG,yI),HI _ Y,ec id Y Y Y Y Y ⟨.ptr,.sv au,.sv dY,aq⟩ ⟨⟨_,Y,⟨.sv au,.sv au,aq⟩⟩,aq⟩ trivial (λ_ _=>Y)⟩;subst Mi;obtain⟨L9,Ma⟩:=xQ
 try dsimp only
 refine aV.n<|qq<|sr<|mv Y<|lE mE λlu rC mE=>ln Y rC<|lE mE λxn HH mE=>eq _ Y Y (wj (p:=lu) (q:=0) HH)<|dn ?_;cases xn;refine fs<|sr<|mv Y<|bE (F mE) λvR h46 mE=>cl (iy h46) ⟨Y,aq⟩<|mv Y<|bE mE λtL h48 mE=>cl (iy h48) ⟨Y,aq⟩<|ag Y<|ag Y<|dn<|qq<|bE mE λe24 acG Ua=>?_;refine bV (λ(CS:Nat)=>AS.cI 57 [(4,.ptr 4 0),(9,.sv (.v (.int .u64 ((CS:Nat):Int))))] [(4,⟨41,[aj false,.sv (nw N ax)]⟩)] []) (λCS=>CS=e24) ?_ (λCS acH=>?_);refine bj ?_;refine bW acG (λWg=>AS.cI 57 [(4,.ptr 4 0),(9,.sv (.v (.int .u64 ((Wg.1:Nat):Int)))),(10,.sv (.v (.int .u64 ((Wg.2:Nat):Int))))] [(4,⟨41,[aj false,.sv (nw N ax)]⟩)] []) (wR []) (λWg y24 G24 h acI acJ=>?_);obtain⟨IV,xO⟩:=Wg
 try dsimp only
 refine qq<|sr<|mv Y<|lE h λum Fz h=>gt _ Y Y (ZK (p:=0) (q:=xO) Fz)<|dn ?_;cases um;refine cF<|cc<|aV.x<|aV.x<|bG.x<|aV.n ?_;obtain rfl:=O (F h);exact⟨IV,acJ _ Y,wR []⟩;refine cT<|bA<|aV.n<|bj<|bf mixed<|mv Y<|mv Y<|mv Y<|bE (V h) λFu IW h=>RT.rem .none _ Y Y T (ZL IW) (O1 IW)<|ag Y<|ag Y ?_;refine RT.done ⟨by kernel_rfl,?_⟩;refine bG.n ?_;obtain rfl:=O h;exact aV.n ⟨(xO,Fu),acI _ Y,wR []⟩;subst acH
 try dsimp only
 refine aV.n<|sr<|mv Y ?_;obtain⟨⟨Rc,Rd⟩,Mg,Ua⟩:=bS Ua;refine RT.bM .none (jg N Mg) hN Y ⟨Y,Y,aq⟩ T<|so Y Y Y<|dn<|bh ?_;obtain rfl:=O Ua;exact RZ (.agg Y Y (.k2 Y Y) Y (.nil));refine cT<|sr<|mv Y<|bE (V mE) λrK CU mE=>RT.bM .none (mX N CU) hN Y ⟨Y,aq⟩ T ?_;obtain⟨⟨Fs,Ft⟩,FB,mE⟩:=bS mE;refine RT.bM .none (eW N FB) hN Y ⟨Y,Y,aq⟩ T<|so Y Y Y<|dn<|bh<|aV.r ?_;obtain rfl:=O mE;exact RZ (.agg Y Y (.k2 Y Y) Y (.nil))
end
section
open Go.Fw
noncomputable def gO(x0:Zr)(x1:Zr)(x2:Zr)(x3:Zr):Option (Zr×Zr):=match x0 with|⟨bp,bt⟩=>match x1 with|⟨cC,cz⟩=>match x2 with|⟨nW,nX⟩=>match x3 with|⟨xS,xT⟩=>(cX ⟨bp,bt⟩ ⟨xS,xT⟩).bind λ⟨ik,g9⟩=>(cX ⟨nW,nX⟩ ⟨cC,cz⟩).bind λ⟨kL,kM⟩=>(mA ⟨ik,g9⟩ ⟨kL,kM⟩).bind λ⟨mw,mz⟩=>(cX ⟨cC,cz⟩ ⟨xS,xT⟩).bind λ⟨nq,nu⟩=>some (⟨mw,mz⟩,⟨nq,nu⟩)
noncomputable def gP(x0:Zr)(x1:Zr)(x2:Zr)(x3:Zr):Option (Zr×Zr):=match x0 with|⟨bp,bt⟩=>match x1 with|⟨cC,cz⟩=>match x2 with|⟨nW,nX⟩=>match x3 with|⟨xS,xT⟩=>(cX ⟨bp,bt⟩ ⟨xS,xT⟩).bind λ⟨ik,g9⟩=>(cX ⟨nW,nX⟩ ⟨cC,cz⟩).bind λ⟨kL,kM⟩=>(mB ⟨ik,g9⟩ ⟨kL,kM⟩).bind λ⟨mw,mz⟩=>(cX ⟨cC,cz⟩ ⟨xS,xT⟩).bind λ⟨nq,nu⟩=>some (⟨mw,mz⟩,⟨nq,nu⟩)
noncomputable def gQ(x0:Zr)(x1:Zr)(x2:Zr)(x3:Zr):Option (Zr×Zr):=match x0 with|⟨bp,bt⟩=>match x1 with|⟨cC,cz⟩=>match x2 with|⟨nW,nX⟩=>match x3 with|⟨xS,xT⟩=>(cX ⟨bp,bt⟩ ⟨nW,nX⟩).bind λ⟨ik,g9⟩=>(cX ⟨cC,cz⟩ ⟨xS,xT⟩).bind λ⟨kL,kM⟩=>some (⟨ik,g9⟩,⟨kL,kM⟩)
noncomputable def gR(x0:Zr)(x1:Zr)(x2:Zr)(x3:Zr):Option (Zr×Zr):=match x0 with|⟨bp,bt⟩=>match x1 with|⟨cC,cz⟩=>match x2 with|⟨nW,nX⟩=>match x3 with|⟨xS,xT⟩=>(cX ⟨bp,bt⟩ ⟨xS,xT⟩).bind λ⟨ik,g9⟩=>(cX ⟨cC,cz⟩ ⟨nW,nX⟩).bind λ⟨kL,kM⟩=>some (⟨ik,g9⟩,⟨kL,kM⟩)
noncomputable def c7(x0:Qr):Option (Zr×Zr):=match x0 with|⟨⟨bp,bt⟩,⟨bB,bF⟩⟩=>(c6 ⟨bB,bF⟩).bind λx6=>(some (decide ((x6:Int)=0))).bind λx8=>(bif x8 then(cf 1).bind λ⟨Re,Rf⟩=>some (⟨bp,bt⟩,⟨Re,Rf⟩)else(some (decide ((x6:Int)=(-1)))).bind λiW=>(bif iW then(fJ ⟨bp,bt⟩).bind λ⟨mw,mz⟩=>(fJ ⟨bB,bF⟩).bind λ⟨nq,nu⟩=>some (⟨mw,mz⟩,⟨nq,nu⟩)else some (⟨bp,bt⟩,⟨bB,bF⟩)))
noncomputable def eO(x0:Zr)(x1:Zr):Option (Qr):=match x0 with|⟨bp,bt⟩=>match x1 with|⟨cC,cz⟩=>(c6 ⟨cC,cz⟩).bind λx9=>(some (decide ((x9:Int)<0))).bind λef=>cK (λ(j2:Bool×(List Nat)×Bool×(List Nat))=>match j2 with|⟨HK,HL,HM,HN⟩=>(kq ⟨HM,HN⟩ ⟨HK,HL⟩).bind λ⟨oR,oS⟩=>(eV ⟨HM,HN⟩ ⟨oR,oS⟩).bind λ⟨⟨AG,AH⟩,⟨Ub,Ud⟩,acK⟩=>(eV ⟨HK,HL⟩ ⟨oR,oS⟩).bind λ⟨⟨xU,xV⟩,⟨Ue,Uf⟩,acL⟩=>(dA ⟨xU,xV⟩).bind λ⟨Ug,Uh⟩=>cK (λ(Mk:Bool)=>cK (λ(j7:Bool×(List Nat))=>match j7 with|⟨HO,HP⟩=>some ⟨⟨AG,AH⟩,⟨HO,HP⟩⟩) λK7=>(bif Mk then K7 (false,[])else K7 (xU,xV))) λK5=>(bif Uh then(some (decide ((Ug:Int)=1))).bind λlu=>some lu else some false).bind λRg=>K5 Rg) λK2=>(bif ef then(fJ ⟨bp,bt⟩).bind λ⟨ik,g9⟩=>(fJ ⟨cC,cz⟩).bind λ⟨Ml,Mm⟩=>K2 (Ml,Mm,ik,g9)else K2 (cC,cz,bp,bt))
noncomputable def dD(x0:Qr):Option (Int×Int×Bool):=match x0 with|⟨⟨bp,bt⟩,⟨bB,bF⟩⟩=>(dA ⟨bp,bt⟩).bind λ⟨DZ,X0⟩=>(dA ⟨bB,bF⟩).bind λ⟨Cd,X1⟩=>cK (λ(HQ:Bool)=>(bif HQ then some (0,0,false)else(some (decide ((Cd:Int)=0))).bind λrK=>cK (λ(Rh:Int×Int)=>match Rh with|⟨FC,Ri⟩=>some (FC,Ri,true)) λZS=>(bif rK then ZS (DZ,1)else(some (decide ((Cd:Int)<0))).bind λvR=>cK (λ(Rj:Int×Int)=>match Rj with|⟨Mn,Mo⟩=>ZS (Mn,Mo)) λZT=>(bif vR then(some (IntKind.i64.wrap (0-DZ))).bind λtL=>(some (IntKind.i64.wrap (0-Cd))).bind λum=>ZT (tL,um)else ZT (DZ,Cd))))) λWh=>(some (!X0)).bind λjc=>(bif jc then some true else(some (!X1)).bind λjT=>some jT).bind λMp=>(bif Mp then some true else(some (decide ((DZ:Int)<=(-2147483648)))).bind λlD=>some lD).bind λUi=>(bif Ui then some true else(some (decide ((2147483648:Int)<=DZ))).bind λtJ=>some tJ).bind λUj=>(bif Uj then some true else(some (decide ((Cd:Int)<=(-2147483648)))).bind λrN=>some rN).bind λUk=>(bif Uk then some true else(some (decide ((2147483648:Int)<=Cd))).bind λsq=>some sq).bind λUl=>Wh Ul
noncomputable def eP(x0:Int)(x1:Int):Option (Qr):=(cy (λ(s6:Int×Int)=>match s6 with|⟨rJ,Ka⟩=>(show Option ((Int×Int)⊕(Int))from(some (decide ((Ka:Int)≠0))).bind λef=>(bif ef then(JV rJ Ka).bind λfC=>some (.inl (Ka,fC))else some (.inr rJ)))) (x0,x1)).bind λD0=>(some (decide ((D0:Int)<0))).bind λgX=>cK (λ(Kb:Int)=>(some (decide ((Kb:Int)=x1))).bind λgN=>(bif gN then(we x0 Kb).bind λiX=>(cf iX).bind λ⟨lF,kI⟩=>some ⟨⟨lF,kI⟩,⟨false,[]⟩⟩else(we x0 Kb).bind λiG=>(cf iG).bind λ⟨uK,uL⟩=>(we x1 Kb).bind λtO=>(cf tO).bind λ⟨Mq,Mr⟩=>some ⟨⟨uK,uL⟩,⟨Mq,Mr⟩⟩)) λK8=>(bif gX then(some (IntKind.i64.wrap (0-D0))).bind λfS=>K8 fS else K8 D0)
noncomputable def oT(x0:Int):Option (Int):=(some (decide ((x0:Int)<0))).bind λx5=>(bif x5 then some (-1)else(some (decide ((0:Int)<x0))).bind λx8=>(bif x8 then some 1 else some 0))
noncomputable def ji(x1:Qr)(x2:Qr):Option (Qr):=match x1 with|⟨⟨cC,cz⟩,⟨gD,gE⟩⟩=>match x2 with|⟨⟨nW,nX⟩,⟨AI,AJ⟩⟩=>(c7 ⟨⟨cC,cz⟩,⟨gD,gE⟩⟩).bind λ⟨⟨jF,jG⟩,⟨jV,jW⟩⟩=>(c7 ⟨⟨nW,nX⟩,⟨AI,AJ⟩⟩).bind λ⟨⟨jH,jI⟩,⟨jX,jY⟩⟩=>(gO ⟨jF,jG⟩ ⟨jV,jW⟩ ⟨jH,jI⟩ ⟨jX,jY⟩).bind λ⟨⟨jZ,j0⟩,⟨j1,ke⟩⟩=>(eO ⟨jZ,j0⟩ ⟨j1,ke⟩).bind λ⟨⟨pM,oN⟩,⟨sF,sG⟩⟩=>some ⟨⟨pM,oN⟩,⟨sF,sG⟩⟩
noncomputable def jk(x1:Qr)(x2:Qr):Option (Qr):=match x1 with|⟨⟨cC,cz⟩,⟨gD,gE⟩⟩=>match x2 with|⟨⟨nW,nX⟩,⟨AI,AJ⟩⟩=>(c7 ⟨⟨cC,cz⟩,⟨gD,gE⟩⟩).bind λ⟨⟨jF,jG⟩,⟨jV,jW⟩⟩=>(c7 ⟨⟨nW,nX⟩,⟨AI,AJ⟩⟩).bind λ⟨⟨jH,jI⟩,⟨jX,jY⟩⟩=>(gP ⟨jF,jG⟩ ⟨jV,jW⟩ ⟨jH,jI⟩ ⟨jX,jY⟩).bind λ⟨⟨jZ,j0⟩,⟨j1,ke⟩⟩=>(eO ⟨jZ,j0⟩ ⟨j1,ke⟩).bind λ⟨⟨pM,oN⟩,⟨sF,sG⟩⟩=>some ⟨⟨pM,oN⟩,⟨sF,sG⟩⟩
noncomputable def jl(x1:Qr)(x2:Qr):Option (Qr):=match x1 with|⟨⟨cC,cz⟩,⟨gD,gE⟩⟩=>match x2 with|⟨⟨nW,nX⟩,⟨AI,AJ⟩⟩=>(c7 ⟨⟨cC,cz⟩,⟨gD,gE⟩⟩).bind λ⟨⟨jF,jG⟩,⟨jV,jW⟩⟩=>(c7 ⟨⟨nW,nX⟩,⟨AI,AJ⟩⟩).bind λ⟨⟨jH,jI⟩,⟨jX,jY⟩⟩=>(gQ ⟨jF,jG⟩ ⟨jV,jW⟩ ⟨jH,jI⟩ ⟨jX,jY⟩).bind λ⟨⟨jZ,j0⟩,⟨j1,ke⟩⟩=>(eO ⟨jZ,j0⟩ ⟨j1,ke⟩).bind λ⟨⟨pM,oN⟩,⟨sF,sG⟩⟩=>some ⟨⟨pM,oN⟩,⟨sF,sG⟩⟩
noncomputable def hG(x1:Qr)(x2:Qr):Option (Qr):=match x1 with|⟨⟨cC,cz⟩,⟨gD,gE⟩⟩=>match x2 with|⟨⟨nW,nX⟩,⟨AI,AJ⟩⟩=>(c7 ⟨⟨cC,cz⟩,⟨gD,gE⟩⟩).bind λ⟨⟨jF,jG⟩,⟨jV,jW⟩⟩=>(c7 ⟨⟨nW,nX⟩,⟨AI,AJ⟩⟩).bind λ⟨⟨jH,jI⟩,⟨jX,jY⟩⟩=>(gR ⟨jF,jG⟩ ⟨jV,jW⟩ ⟨jH,jI⟩ ⟨jX,jY⟩).bind λ⟨⟨jZ,j0⟩,⟨j1,ke⟩⟩=>(eO ⟨jZ,j0⟩ ⟨j1,ke⟩).bind λ⟨⟨pM,oN⟩,⟨sF,sG⟩⟩=>some ⟨⟨pM,oN⟩,⟨sF,sG⟩⟩
noncomputable def cD(x0:Int):Option (Qr):=(cf x0).bind λ⟨Um,Uo⟩=>some ⟨⟨Um,Uo⟩,⟨false,[]⟩⟩
noncomputable def cQ(x0:Qr):Option (Qr):=match x0 with|⟨⟨bp,bt⟩,⟨bB,bF⟩⟩=>(dD ⟨⟨bp,bt⟩,⟨bB,bF⟩⟩).bind λ⟨x8a,x8b,x8c⟩=>(bif x8c then(eP x8a x8b).bind λ⟨⟨kL,kM⟩,⟨FD,FE⟩⟩=>some ⟨⟨kL,kM⟩,⟨FD,FE⟩⟩else(c7 ⟨⟨bp,bt⟩,⟨bB,bF⟩⟩).bind λ⟨⟨Ms,Mt⟩,⟨Mu,Mv⟩⟩=>(eO ⟨Ms,Mt⟩ ⟨Mu,Mv⟩).bind λ⟨⟨Rk,Rl⟩,⟨Rm,Rn⟩⟩=>some ⟨⟨Rk,Rl⟩,⟨Rm,Rn⟩⟩)
noncomputable def eA(x0:Qr):Option (Int):=match x0 with|⟨⟨bp,bt⟩,⟨bB,bF⟩⟩=>(c6 ⟨bB,bF⟩).bind λx5=>(some (decide ((x5:Int)<0))).bind λx6=>(bif x6 then(c6 ⟨bp,bt⟩).bind λx9=>(some (IntKind.i64.wrap (0-x9))).bind λef=>some ef else(c6 ⟨bp,bt⟩).bind λiW=>some iW)
noncomputable def kf(x0:Qr)(x1:Qr):Option (Qr):=match x0 with|⟨⟨bp,bt⟩,⟨bB,bF⟩⟩=>match x1 with|⟨⟨cC,cz⟩,⟨gD,gE⟩⟩=>(dD ⟨⟨bp,bt⟩,⟨bB,bF⟩⟩).bind λ⟨AK,xW,AL⟩=>(dD ⟨⟨cC,cz⟩,⟨gD,gE⟩⟩).bind λ⟨AM,xX,AN⟩=>cK (λ(sH:Bool)=>(bif sH then(some (IntKind.i64.wrap (AK*xX))).bind λiG=>(some (IntKind.i64.wrap (AM*xW))).bind λjU=>(some (IntKind.i64.wrap (iG+jU))).bind λtO=>(some (IntKind.i64.wrap (xW*xX))).bind λrB=>(eP tO rB).bind λ⟨⟨FF,FG⟩,⟨FH,FI⟩⟩=>some ⟨⟨FF,FG⟩,⟨FH,FI⟩⟩else(ji ⟨⟨bp,bt⟩,⟨bB,bF⟩⟩ ⟨⟨cC,cz⟩,⟨gD,gE⟩⟩).bind λ⟨⟨yJ,yK⟩,⟨FJ,FK⟩⟩=>some ⟨⟨yJ,yK⟩,⟨FJ,FK⟩⟩)) λK3=>(bif AL then some AN else some false).bind λyL=>K3 yL
noncomputable def nY(x0:Qr)(x1:Qr):Option (Qr):=match x0 with|⟨⟨bp,bt⟩,⟨bB,bF⟩⟩=>match x1 with|⟨⟨cC,cz⟩,⟨gD,gE⟩⟩=>(dD ⟨⟨bp,bt⟩,⟨bB,bF⟩⟩).bind λ⟨AK,xW,AL⟩=>(dD ⟨⟨cC,cz⟩,⟨gD,gE⟩⟩).bind λ⟨AM,xX,AN⟩=>cK (λ(sH:Bool)=>(bif sH then(some (IntKind.i64.wrap (AK*xX))).bind λiG=>(some (IntKind.i64.wrap (AM*xW))).bind λjU=>(some (IntKind.i64.wrap (iG-jU))).bind λtO=>(some (IntKind.i64.wrap (xW*xX))).bind λrB=>(eP tO rB).bind λ⟨⟨FF,FG⟩,⟨FH,FI⟩⟩=>some ⟨⟨FF,FG⟩,⟨FH,FI⟩⟩else(jk ⟨⟨bp,bt⟩,⟨bB,bF⟩⟩ ⟨⟨cC,cz⟩,⟨gD,gE⟩⟩).bind λ⟨⟨yJ,yK⟩,⟨FJ,FK⟩⟩=>some ⟨⟨yJ,yK⟩,⟨FJ,FK⟩⟩)) λK3=>(bif AL then some AN else some false).bind λyL=>K3 yL
noncomputable def jm(x0:Qr)(x1:Qr):Option (Qr):=match x0 with|⟨⟨bp,bt⟩,⟨bB,bF⟩⟩=>match x1 with|⟨⟨cC,cz⟩,⟨gD,gE⟩⟩=>(dD ⟨⟨bp,bt⟩,⟨bB,bF⟩⟩).bind λ⟨AK,xW,AL⟩=>(dD ⟨⟨cC,cz⟩,⟨gD,gE⟩⟩).bind λ⟨AM,xX,AN⟩=>cK (λ(sH:Bool)=>(bif sH then(some (IntKind.i64.wrap (AK*AM))).bind λiG=>(some (IntKind.i64.wrap (xW*xX))).bind λjU=>(eP iG jU).bind λ⟨⟨Ro,Rp⟩,⟨Rr,Rt⟩⟩=>some ⟨⟨Ro,Rp⟩,⟨Rr,Rt⟩⟩else(jl ⟨⟨bp,bt⟩,⟨bB,bF⟩⟩ ⟨⟨cC,cz⟩,⟨gD,gE⟩⟩).bind λ⟨⟨su,sw⟩,⟨FL,FM⟩⟩=>some ⟨⟨su,sw⟩,⟨FL,FM⟩⟩)) λK3=>(bif AL then some AN else some false).bind λyL=>K3 yL
noncomputable def nZ(x0:Qr)(x1:Qr):Option (Qr×Int):=match x0 with|⟨⟨bp,bt⟩,⟨bB,bF⟩⟩=>match x1 with|⟨⟨cC,cz⟩,⟨gD,gE⟩⟩=>(eA ⟨⟨cC,cz⟩,⟨gD,gE⟩⟩).bind λiW=>(some (decide ((iW:Int)=0))).bind λfC=>(bif fC then some (⟨⟨false,[]⟩,⟨false,[]⟩⟩,7)else(dD ⟨⟨bp,bt⟩,⟨bB,bF⟩⟩).bind λ⟨Mw,Pq,Up⟩=>(dD ⟨⟨cC,cz⟩,⟨gD,gE⟩⟩).bind λ⟨Kc,Ke,Uq⟩=>cK (λ(AO:Bool)=>(bif AO then(some (decide ((Kc:Int)<0))).bind λtO=>cK (λ(j6:Int×Int)=>match j6 with|⟨X2,X3⟩=>(some (IntKind.i64.wrap (X2*Ke))).bind λlu=>(some (IntKind.i64.wrap (Pq*X3))).bind λrK=>(eP lu rK).bind λ⟨⟨Fs,Ft⟩,⟨Ru,Rv⟩⟩=>some (⟨⟨Fs,Ft⟩,⟨Ru,Rv⟩⟩,0)) λK6=>(bif tO then(some (IntKind.i64.wrap (0-Mw))).bind λrN=>(some (IntKind.i64.wrap (0-Kc))).bind λxo=>K6 (rN,xo)else K6 (Mw,Kc))else(hG ⟨⟨bp,bt⟩,⟨bB,bF⟩⟩ ⟨⟨cC,cz⟩,⟨gD,gE⟩⟩).bind λ⟨⟨Fl,Fm⟩,⟨Rw,Rx⟩⟩=>some (⟨⟨Fl,Fm⟩,⟨Rw,Rx⟩⟩,0))) λK3=>(bif Up then some Uq else some false).bind λRy=>K3 Ry)
noncomputable def lO(x0:Qr):Option (Qr):=match x0 with|⟨⟨bp,bt⟩,⟨bB,bF⟩⟩=>(cQ ⟨⟨bp,bt⟩,⟨bB,bF⟩⟩).bind λ⟨⟨AP,D1⟩,⟨Ce,D2⟩⟩=>(fJ ⟨AP,D1⟩).bind λ⟨vp,vr⟩=>some ⟨⟨vp,vr⟩,⟨Ce,D2⟩⟩
noncomputable def lP(x0:Qr)(x1:Qr):Option (Int):=match x0 with|⟨⟨bp,bt⟩,⟨bB,bF⟩⟩=>match x1 with|⟨⟨cC,cz⟩,⟨gD,gE⟩⟩=>(c7 ⟨⟨bp,bt⟩,⟨bB,bF⟩⟩).bind λ⟨⟨jF,jG⟩,⟨jV,jW⟩⟩=>(c7 ⟨⟨cC,cz⟩,⟨gD,gE⟩⟩).bind λ⟨⟨jH,jI⟩,⟨jX,jY⟩⟩=>(c6 ⟨jF,jG⟩).bind λlB=>(c6 ⟨jH,jI⟩).bind λiX=>cK (λ(AO:Bool)=>(bif AO then(some (IntKind.i64.wrap (lB-iX))).bind λqH=>(oT qH).bind λrN=>some rN else(cX ⟨jF,jG⟩ ⟨jX,jY⟩).bind λ⟨Rz,RA⟩=>(cX ⟨jH,jI⟩ ⟨jV,jW⟩).bind λ⟨RB,RC⟩=>(mD ⟨Rz,RA⟩ ⟨RB,RC⟩).bind λsj=>some sj)) λK3=>(some (decide ((lB:Int)≠iX))).bind λlD=>(bif lD then some true else(some (decide ((lB:Int)=0))).bind λzP=>some zP).bind λRE=>K3 RE
end
section
open Go.Fw Go.Fw.Z Go.RowKit
abbrev Mx:List (Value×Value):=[(.int .u8 43,.agg #[.func (.func 187) #[] #[]]),(.int .u8 45,.agg #[.func (.func 189) #[] #[]]),(.int .u8 42,.agg #[.func (.func 191) #[] #[]]),(.int .u8 47,.agg #[.func (.func 192) #[] #[]])]
theorem iz:Pure ah 167 [] (LM Mx):=by
 refine bw Tryz.func167 Y (af Y) (λee M vs hvs=>?_);refine bH<|aW<|RT.Ah .none Y T<|RT.done<|aV.n<|bH<|O5 (af Y) Y Y Y (λS' h0=>?_);exact bh (R1 h0)
theorem sI{x0:Zr}{x1:Zr}{x2:Zr}{x3:Zr}(N:Nat){r:Zr×Zr}(h:gO x0 x1 x2 x3=some r):cL ah 187 N [.agg (eZ x0),.agg (eZ x1),.agg (eZ x2),.agg (eZ x3)] (.yu [.agg ((fZ N) r.1),.agg ((fZ N) r.2)]):=by
 obtain⟨bp,bt⟩:=x0;obtain⟨cC,cz⟩:=x1;obtain⟨nW,nX⟩:=x2;obtain⟨xS,xT⟩:=x3;refine bC Tryz.func187 Y (af Y) (λee M vs hN hvs=>?_);unfold gO at h;refine sr<|bx Y<|bx Y<|bx Y<|bx Y<|al (cs:=[az false,nw N ax]) (by exact⟨au,bk,aq⟩) Y<|al (cs:=[az false,nw N ax]) (by exact⟨au,bk,aq⟩) Y<|dn<|qq<|bf mixed<|ld Y Y (.k2 Y Y)<|ld Y Y (.k2 Y Y) ?_;obtain⟨⟨ik,g9⟩,gu,h⟩:=bS h;refine RT.bM .none (ep N gu) hN Y ⟨Y,Y,aq⟩ T<|ld Y Y (.k2 Y Y)<|ld Y Y (.k2 Y Y) ?_;obtain⟨⟨kL,kM⟩,jh,h⟩:=bS h;refine RT.bM .none (ep N jh) hN Y ⟨Y,Y,aq⟩ T ?_;obtain⟨⟨mw,mz⟩,lC,h⟩:=bS h;refine RT.bM .none ((DU N lC).w (args':=[_,_]) ⟨(SV.dB (show cP [az ik,nw N (slc 1 (List.map aX g9))] _ from⟨au,dY,aq⟩)),(SV.dB (show cP [az kL,nw N (slc 1 (List.map aX kM))] _ from⟨au,dY,aq⟩)),aq⟩) hN Y ⟨Y,Y,aq⟩ T<|ld Y Y (.k2 Y Y)<|ld Y Y (.k2 Y Y) ?_;obtain⟨⟨nq,nu⟩,oG,h⟩:=bS h;refine RT.bM .none (ep N oG) hN Y ⟨Y,Y,aq⟩ T<|so Y Y Y<|so Y Y Y ?_;refine RT.done ⟨by kernel_rfl,?_⟩;refine aV.n<|bh ?_;obtain rfl:=O h;exact RZ (.agg Y Y (.k2 Y Y) Y (.agg Y Y (.k2 Y Y) Y (.nil)))
theorem sJ{x0:Zr}{x1:Zr}{x2:Zr}{x3:Zr}(N:Nat){r:Zr×Zr}(h:gP x0 x1 x2 x3=some r):cL ah 189 N [.agg (eZ x0),.agg (eZ x1),.agg (eZ x2),.agg (eZ x3)] (.yu [.agg ((fZ N) r.1),.agg ((fZ N) r.2)]):=by
 obtain⟨bp,bt⟩:=x0;obtain⟨cC,cz⟩:=x1;obtain⟨nW,nX⟩:=x2;obtain⟨xS,xT⟩:=x3;refine bC Tryz.func189 Y (af Y) (λee M vs hN hvs=>?_);unfold gP at h;refine sr<|bx Y<|bx Y<|bx Y<|bx Y<|al (cs:=[az false,nw N ax]) (by exact⟨au,bk,aq⟩) Y<|al (cs:=[az false,nw N ax]) (by exact⟨au,bk,aq⟩) Y<|dn<|qq<|bf mixed<|ld Y Y (.k2 Y Y)<|ld Y Y (.k2 Y Y) ?_;obtain⟨⟨ik,g9⟩,gu,h⟩:=bS h;refine RT.bM .none (ep N gu) hN Y ⟨Y,Y,aq⟩ T<|ld Y Y (.k2 Y Y)<|ld Y Y (.k2 Y Y) ?_;obtain⟨⟨kL,kM⟩,jh,h⟩:=bS h;refine RT.bM .none (ep N jh) hN Y ⟨Y,Y,aq⟩ T ?_;obtain⟨⟨mw,mz⟩,lC,h⟩:=bS h;refine RT.bM .none ((DW N lC).w (args':=[_,_]) ⟨(SV.dB (show cP [az ik,nw N (slc 1 (List.map aX g9))] _ from⟨au,dY,aq⟩)),(SV.dB (show cP [az kL,nw N (slc 1 (List.map aX kM))] _ from⟨au,dY,aq⟩)),aq⟩) hN Y ⟨Y,Y,aq⟩ T<|ld Y Y (.k2 Y Y)<|ld Y Y (.k2 Y Y) ?_;obtain⟨⟨nq,nu⟩,oG,h⟩:=bS h;refine RT.bM .none (ep N oG) hN Y ⟨Y,Y,aq⟩ T<|so Y Y Y<|so Y Y Y ?_;refine RT.done ⟨by kernel_rfl,?_⟩;refine aV.n<|bh ?_;obtain rfl:=O h;exact RZ (.agg Y Y (.k2 Y Y) Y (.agg Y Y (.k2 Y Y) Y (.nil)))
theorem sK{x0:Zr}{x1:Zr}{x2:Zr}{x3:Zr}(N:Nat){r:Zr×Zr}(h:gQ x0 x1 x2 x3=some r):cL ah 191 N [.agg (eZ x0),.agg (eZ x1),.agg (eZ x2),.agg (eZ x3)] (.yu [.agg ((fZ N) r.1),.agg ((fZ N) r.2)]):=by
 obtain⟨bp,bt⟩:=x0;obtain⟨cC,cz⟩:=x1;obtain⟨nW,nX⟩:=x2;obtain⟨xS,xT⟩:=x3;refine bC Tryz.func191 Y (af Y) (λee M vs hN hvs=>?_);unfold gQ at h;refine sr<|bx Y<|bx Y<|bx Y<|bx Y<|al (cs:=[az false,nw N ax]) (by exact⟨au,bk,aq⟩) Y<|al (cs:=[az false,nw N ax]) (by exact⟨au,bk,aq⟩) Y<|dn<|qq<|bf mixed<|ld Y Y (.k2 Y Y)<|ld Y Y (.k2 Y Y) ?_;obtain⟨⟨ik,g9⟩,gu,h⟩:=bS h;refine RT.bM .none (ep N gu) hN Y ⟨Y,Y,aq⟩ T<|ld Y Y (.k2 Y Y)<|ld Y Y (.k2 Y Y) ?_;obtain⟨⟨kL,kM⟩,jh,h⟩:=bS h;refine RT.bM .none (ep N jh) hN Y ⟨Y,Y,aq⟩ T<|so Y Y Y<|so Y Y Y ?_;refine RT.done ⟨by kernel_rfl,?_⟩;refine aV.n<|bh ?_;obtain rfl:=O h;exact RZ (.agg Y Y (.k2 Y Y) Y (.agg Y Y (.k2 Y Y) Y (.nil)))
theorem sL{x0:Zr}{x1:Zr}{x2:Zr}{x3:Zr}(N:Nat){r:Zr×Zr}(h:gR x0 x1 x2 x3=some r):cL ah 192 N [.agg (eZ x0),.agg (eZ x1),.agg (eZ x2),.agg (eZ x3)] (.yu [.agg ((fZ N) r.1),.agg ((fZ N) r.2)]):=by
 obtain⟨bp,bt⟩:=x0;obtain⟨cC,cz⟩:=x1;obtain⟨nW,nX⟩:=x2;obtain⟨xS,xT⟩:=x3;refine bC Tryz.func192 Y (af Y) (λee M vs hN hvs=>?_);unfold gR at h;refine sr<|bx Y<|bx Y<|bx Y<|bx Y<|al (cs:=[az false,nw N ax]) (by exact⟨au,bk,aq⟩) Y<|al (cs:=[az false,nw N ax]) (by exact⟨au,bk,aq⟩) Y<|dn<|qq<|bf mixed<|ld Y Y (.k2 Y Y)<|ld Y Y (.k2 Y Y) ?_;obtain⟨⟨ik,g9⟩,gu,h⟩:=bS h;refine RT.bM .none (ep N gu) hN Y ⟨Y,Y,aq⟩ T<|ld Y Y (.k2 Y Y)<|ld Y Y (.k2 Y Y) ?_;obtain⟨⟨kL,kM⟩,jh,h⟩:=bS h;refine RT.bM .none (ep N jh) hN Y ⟨Y,Y,aq⟩ T<|so Y Y Y<|so Y Y Y ?_;refine RT.done ⟨by kernel_rfl,?_⟩;refine aV.n<|bh ?_;obtain rfl:=O h;exact RZ (.agg Y Y (.k2 Y Y) Y (.agg Y Y (.k2 Y Y) Y (.nil)))
theorem dL{x0:Qr}{r:Zr×Zr}(h:c7 x0=some r):Pure ah 127 [.agg (eQ x0)] (.yu [.agg (eZ r.1),.agg (eZ r.2)]):=by
 obtain⟨⟨bp,bt⟩,⟨bB,bF⟩⟩:=x0;refine bw Tryz.func127 Y (af Y) (λee M vs hvs=>?_);unfold c7 at h;refine sr<|bx Y<|al (cs:=[az false,ax]) (by exact⟨au,aB,aq⟩) Y<|al (cs:=[az false,ax]) (by exact⟨au,aB,aq⟩) Y<|dn<|qq<|sr<|fa Y Y<|ld Y Y (.k2 Y Y)<|bE h λx6 h6 h=>cl (eM h6) ⟨Y,aq⟩<|dn<|bj<|sr<|lE h λx8 h8 h=>eq _ Y Y (wj (p:=x6) (q:=0) h8) ?_;refine ag Y<|dn ?_;cases x8;refine cF<|sr<|lE (F h) λiW kJ h=>eq _ Y Y (wj (p:=x6) (q:=(-1)) kJ)<|ag Y<|dn ?_;cases iW;refine cF<|bA<|bG.n<|aV.n<|qq<|bf mixed<|fa Y Y<|ld Y Y (.k2 Y Y)<|fa Y Y<|ld Y Y (.k2 Y Y)<|so Y Y Y<|so Y Y Y ?_;refine RT.done ⟨by kernel_rfl,?_⟩;refine aV.n<|bh ?_;obtain rfl:=O (F h);exact RZ (.agg Y Y (.k2 Y Y) Y (.agg Y Y (.k2 Y Y) Y (.nil)));refine cT<|qq<|bf mixed<|fa Y Y<|ld Y Y (.k2 Y Y) ?_;obtain⟨⟨mw,mz⟩,lC,h⟩:=bS (V h);refine cl (wN lC) ⟨Y,aq⟩<|fa Y Y<|ld Y Y (.k2 Y Y) ?_;obtain⟨⟨nq,nu⟩,oG,h⟩:=bS h;refine cl (wN oG) ⟨Y,aq⟩<|so Y Y Y<|so Y Y Y ?_;refine RT.done ⟨by kernel_rfl,?_⟩;refine aV.n<|bh<|bG.r<|aV.r ?_;obtain rfl:=O h;exact RZ (.agg Y Y (.k2 Y Y) Y (.agg Y Y (.k2 Y Y) Y (.nil)));refine cT<|qq<|bf mixed<|fa Y Y<|ld Y Y (.k2 Y Y) ?_;obtain⟨⟨Re,Rf⟩,pg,h⟩:=bS (V h);refine cl (vo pg) ⟨Y,aq⟩<|so Y Y Y<|so Y Y Y ?_
 refine RT.done ⟨by kernel_rfl,?_⟩;refine aV.n<|bh<|bG.r<|aV.r ?_;obtain rfl:=O h;exact RZ (.agg Y Y (.k2 Y Y) Y (.agg Y Y (.k2 Y Y) Y (.nil)))
theorem jn{x0:Zr}{x1:Zr}(N:Nat){r:Qr}(h:eO x0 x1=some r):cL ah 140 N [.agg (eZ x0),.agg (eZ x1)] (.agg ((fQ N) r)):=by
 obtain⟨bp,bt⟩:=x0;obtain⟨cC,cz⟩:=x1;refine bC Tryz.func140 Y (af Y) (λee M vs hN hvs=>?_);unfold eO at h;refine sr<|bx Y<|bx Y<|al (cs:=[az false,nw N ax,az false,nw N ax]) (by exact⟨au,bk,au,bk,aq⟩) Y<|dn<|qq<|sr<|ld Y Y (.k2 Y Y)<|bE h λx9 h9 h=>cl (eM h9) ⟨Y,aq⟩<|lE h λef gV h=>ls _ Y Y gV<|dn ?_;refine bK h (λj2=>AS.cI 46 [(2,.ptr 2 0),(3,.ptr 3 0),(4,.ptr 4 0)] [(4,⟨43,[aj false,.sv (nw N ax),aj false,.sv (nw N ax)]⟩),(3,⟨41,[aj j2.1,.sv (slc 1 (List.map aX j2.2.1))]⟩),(2,⟨41,[aj j2.2.2.1,.sv (slc 1 (List.map aX j2.2.2.2))]⟩)] []) (λh=>?_) (λj2 h=>?_);cases ef;exact fs<|⟨(cC,cz,bp,bt),(F h),wR []⟩;refine cT<|bf mixed<|ld Y Y (.k2 Y Y) ?_;obtain⟨⟨ik,g9⟩,gu,h⟩:=bS (V h);refine RT.bM .none (nA N gu) hN Y ⟨Y,aq⟩ T<|ld Y Y (.k2 Y Y) ?_;obtain⟨⟨Ml,Mm⟩,lz,h⟩:=bS h;refine RT.bM .none (nA N lz) hN Y ⟨Y,aq⟩ T<|so Y Y Y<|so Y Y Y ?_;refine RT.done ⟨by kernel_rfl,?_⟩;exact aV.n<|⟨(Ml,Mm,ik,g9),h,ec id Y Y Y Y Y ⟨.ptr,.ptr,.ptr,aq⟩ ⟨⟨_,Y,⟨.sv au,.sv au,.sv au,.sv au,aq⟩⟩,⟨_,Y,⟨.sv au,.sv dY,aq⟩⟩,⟨_,Y,⟨.sv au,.sv dY,aq⟩⟩,aq⟩ trivial (λ_ _=>Y)⟩;obtain⟨HK,HL,HM,HN⟩:=j2
 try dsimp only
 refine aV.n<|sr<|ld Y Y (.k2 Y Y)<|ld Y Y (.k2 Y Y) ?_;obtain⟨⟨oR,oS⟩,mW,h⟩:=bS h;refine RT.bM .none (DY N mW) hN Y ⟨Y,Y,aq⟩ T<|al (cs:=[az false,nw N ax]) (by exact⟨au,bk,aq⟩) Y<|so Y Y Y<|dn<|sr<|ld Y Y (.k2 Y Y)<|ld Y Y (.k2 Y Y) ?_;obtain⟨⟨⟨AG,AH⟩,⟨Ub,Ud⟩,acK⟩,oH,h⟩:=bS h;refine RT.bM .none ((rE N oH).w (args':=[_,_]) ⟨au,(SV.dB (show cP [az oR,nw N (slc 1 (List.map aX oS))] _ from⟨au,dY,aq⟩)),aq⟩) hN Y ⟨Y,Y,aq⟩ T<|mv Y<|ex Y Y<|ex Y Y<|ex Y Y<|so Y Y Y<|dn<|sr<|ld Y Y (.k2 Y Y)<|ld Y Y (.k2 Y Y) ?_;obtain⟨⟨⟨xU,xV⟩,⟨Ue,Uf⟩,acL⟩,wH,h⟩:=bS h;refine RT.bM .none ((rE N wH).w (args':=[_,_]) ⟨au,(SV.dB (show cP [az oR,nw N (slc 1 (List.map aX oS))] _ from⟨au,dY,aq⟩)),aq⟩) hN Y ⟨Y,Y,aq⟩ T<|mv Y<|ex Y Y<|ex Y Y<|ex Y Y<|so Y Y Y<|dn<|qq<|sr<|ld Y Y (.k2 Y Y) ?_;obtain⟨⟨Ug,Uh⟩,wF,h⟩:=bS h;refine cl ((fT wF).w (args':=[_]) ⟨(SV.dB (show cP [az xU,nw N (slc 1 (List.map aX xV))] _ from⟨au,dY,aq⟩)),aq⟩) ⟨Y,aq⟩<|mv Y<|ex Y Y<|ex Y Y<|ag Y<|ag Y<|dn<|qq ?_
 refine bK h (λj5=>AS.cI 46 [(2,.ptr 2 0),(3,.ptr 3 0),(4,.ptr 4 0),(41,aj j5)] [(4,⟨43,[aj false,.sv (nw N ax),aj false,.sv (nw N ax)]⟩),(3,⟨41,[aj xU,.sv (nw N (slc 1 (List.map aX xV)))]⟩),(2,⟨41,[aj AG,.sv (nw N (slc 1 (List.map aX AH)))]⟩)] []) (λh=>?_) (λMk h=>?_);refine aW<|mv Y<|mv Y<|bE h λRg My h=>?_;cases Uh;obtain rfl:=O (F My);exact ww<|ww<|pF Y<|dn<|⟨false,h,wR []⟩;refine gm Y<|lE (V My) λlu rC My=>ZO _ Y Y (wj (p:=Ug) (q:=1) rC) ?_;obtain rfl:=O My;exact pT Y<|dn<|⟨lu,h,wR []⟩
 try dsimp only
 refine aV.n ?_;refine bK h (λj7=>AS.cI 46 [(2,.ptr 2 0),(3,.ptr 3 0),(4,.ptr 4 0)] [(4,⟨43,[aj false,.sv (nw N ax),aj false,.sv (nw N ax)]⟩),(3,⟨41,[aj j7.1,.sv (nw N (slc 1 (List.map aX j7.2)))]⟩),(2,⟨41,[aj AG,.sv (nw N (slc 1 (List.map aX AH)))]⟩)] []) (λh=>?_) (λj7 h=>?_);cases Mk;exact fs<|⟨(xU,xV),(F h),wR []⟩;exact cT<|aW<|bI (cs:=[_,_]) (cs':=[az false,nw N ax]) (.nil) ⟨au,bk,aq⟩<|so Y Y Y<|dn<|⟨(false,[]),(V h),wR []⟩;obtain⟨HO,HP⟩:=j7
 try dsimp only
 refine aV.n<|sr<|ld Y Y (.k2 Y Y)<|ld Y Y (.k2 Y Y)<|bI (cs:=[_,_,_,_]) (cs':=[az AG,nw N (slc 1 (List.map aX AH)),az HO,nw N (slc 1 (List.map aX HP))]) (.agg Y (.agg Y (.nil))) ⟨au,au,au,au,aq⟩<|so Y Y Y<|dn<|bh ?_;obtain rfl:=O h;exact RZ (.agg Y Y (.k4 Y Y Y Y) Y (.nil))
theorem eR{x0:Qr}{r:Int×Int×Bool}(h:dD x0=some r):Pure ah 134 [.agg (eQ x0)] (.yu [ay r.1,ay r.2.1,az r.2.2]):=by
 obtain⟨⟨bp,bt⟩,⟨bB,bF⟩⟩:=x0;refine bw Tryz.func134 Y (af Y) (λee M vs hvs=>?_);unfold dD at h;refine sr<|bx Y<|ag Y<|ag Y<|ag Y<|dn<|sr<|fa Y Y<|ld Y Y (.k2 Y Y) ?_;obtain⟨⟨DZ,X0⟩,gV,h⟩:=bS h;refine cl (fT gV) ⟨Y,aq⟩<|mv Y<|ex Y Y<|ex Y Y<|ag Y<|ag Y<|dn<|sr<|fa Y Y<|ld Y Y (.k2 Y Y) ?_;obtain⟨⟨Cd,X1⟩,lC,h⟩:=bS h;refine cl (fT lC) ⟨Y,aq⟩<|mv Y<|ex Y Y<|ex Y Y<|ag Y<|ag Y<|dn<|qq<|qq ?_;refine bK h (λX4=>AS.cI 53 [(2,ai DZ),(3,ai Cd),(40,aj X4)] [] []) (λh=>?_) (λHQ h=>?_);refine aW<|mv Y<|lE h λjc pO h=>nt Y _ pO<|mv Y<|bE h λMp rL h=>?_;cases jc;refine gm Y<|lE (F rL) λjT sD rL=>KO Y _ sD ?_;obtain rfl:=O rL;refine pF Y<|mv Y<|bE h λacN xY h=>?_;cases jT;refine gm Y<|lE (F xY) λlD tW xY=>RT.leq (.some Y Y) _ Y Y T tW ?_;obtain rfl:=O xY;refine pF Y<|mv Y<|bE h λacO xZ h=>?_;cases lD;refine gm Y<|lE (F xZ) λtJ CT xZ=>RT.geq (.some Y Y) _ Y Y T CT ?_;obtain rfl:=O xZ;refine pF Y<|mv Y<|bE h λacP vu h=>?_;cases tJ;refine gm Y<|lE (F vu) λrN AF vu=>RT.leq (.some Y Y) _ Y Y T AF ?_;obtain rfl:=O vu;refine pF Y<|mv Y<|bE h λacQ Kf h=>?_;cases rN;refine gm Y<|lE (F Kf) λsq DT Kf=>RT.geq (.some Y Y) _ Y Y T DT ?_;obtain rfl:=O Kf;exact pF Y<|dn<|⟨sq,h,wR []⟩;obtain rfl:=O (V Kf)
 exact ww<|ww<|pT Y<|dn<|⟨true,h,wR []⟩;obtain rfl:=O (V vu);refine ww<|ww<|pT Y<|mv Y<|bE h λacR Ur h=>?_;obtain rfl:=O (V Ur);exact ww<|ww<|pT Y<|dn<|⟨true,h,wR []⟩;obtain rfl:=O (V xZ);refine ww<|ww<|pT Y<|mv Y<|bE h λacS Us h=>?_;obtain rfl:=O (V Us);refine ww<|ww<|pT Y<|mv Y<|bE h λacT Ut h=>?_;obtain rfl:=O (V Ut);exact ww<|ww<|pT Y<|dn<|⟨true,h,wR []⟩;obtain rfl:=O (V xY);refine ww<|ww<|pT Y<|mv Y<|bE h λacU Uu h=>?_;obtain rfl:=O (V Uu);refine ww<|ww<|pT Y<|mv Y<|bE h λacV Uv h=>?_;obtain rfl:=O (V Uv);refine ww<|ww<|pT Y<|mv Y<|bE h λacW Uw h=>?_;obtain rfl:=O (V Uw);exact ww<|ww<|pT Y<|dn<|⟨true,h,wR []⟩;obtain rfl:=O (V rL);refine ww<|ww<|pT Y<|mv Y<|bE h λacX Ux h=>?_;obtain rfl:=O (V Ux);refine ww<|ww<|pT Y<|mv Y<|bE h λacY Uy h=>?_;obtain rfl:=O (V Uy);refine ww<|ww<|pT Y<|mv Y<|bE h λacZ Uz h=>?_;obtain rfl:=O (V Uz);refine ww<|ww<|pT Y<|mv Y<|bE h λac0 ac1 h=>?_;obtain rfl:=O (V ac1);exact ww<|ww<|pT Y<|dn<|⟨true,h,wR []⟩
 try dsimp only
 refine aV.n ?_;cases HQ;refine fs<|qq<|bj<|sr<|mv Y<|lE (F h) λrK CU h=>eq _ Y Y (wj (p:=Cd) (q:=0) CU)<|ag Y<|dn ?_;refine bK h (λRh=>AS.cI 53 [(2,ai Rh.1),(3,ai Rh.2)] [] []) (λh=>?_) (λRh h=>?_);cases rK;refine cF<|sr<|mv Y<|lE (F h) λvR h46 h=>ls _ Y Y h46<|ag Y<|dn ?_;refine bK h (λRj=>AS.cI 53 [(2,ai Rj.1),(3,ai Rj.2)] [] []) (λh=>?_) (λRj h=>?_);cases vR;exact fs<|⟨(DZ,Cd),(F h),wR []⟩;exact cT<|aW<|mv Y<|lE (V h) λtL h48 h=>RT.neg .none _ Y T h48<|mv Y<|lE h λum Fz h=>RT.neg .none _ Y T Fz<|ag Y<|ag Y<|dn<|⟨(tL,um),h,wR []⟩;obtain⟨Mn,Mo⟩:=Rj
 try dsimp only
 exact aV.n<|⟨(Mn,Mo),h,wR []⟩;exact cT<|aW<|ag Y<|dn<|⟨(DZ,1),(V h),wR []⟩;obtain⟨FC,Ri⟩:=Rh
 try dsimp only
 refine bG.n<|aV.n<|sr<|mv Y<|mv Y<|ag Y<|ag Y<|ag Y<|dn<|bh ?_;obtain rfl:=O h;exact RZ (.tmp Y (.tmp Y (.tmp Y (.nil))));refine cT<|sr<|ag Y<|ag Y<|ag Y<|dn<|bh<|aV.r ?_;obtain rfl:=O (V h);exact RZ (.tmp Y (.tmp Y (.tmp Y (.nil))))
theorem jK{x0:Int}{x1:Int}(N:Nat){r:Qr}(h:eP x0 x1=some r):cL ah 135 N [ay x0,ay x1] (.agg ((fQ N) r)):=by
 refine bC Tryz.func135 Y (af Y) (λee M vs hN hvs=>?_);unfold eP at h;refine sr<|al (cs:=[az false,nw N ax,az false,nw N ax]) (by exact⟨au,bk,au,bk,aq⟩) Y<|dn<|sr<|mv Y<|mv Y<|ag Y<|ag Y<|dn<|qq<|bE h λe6 Fv nx=>?_;refine bV (λ(D0:Int)=>AS.cI 36 [(0,ai x0),(1,ai x1),(4,.ptr 4 0),(5,ai D0)] [(4,⟨43,[aj false,.sv (nw N ax),aj false,.sv (nw N ax)]⟩)] []) (λD0=>D0=e6) ?_ (λD0 Fx=>?_);refine bj ?_;refine bW Fv (λs6=>AS.cI 36 [(0,ai x0),(1,ai x1),(4,.ptr 4 0),(5,ai s6.1),(6,ai s6.2)] [(4,⟨43,[aj false,.sv (nw N ax),aj false,.sv (nw N ax)]⟩)] []) (wR []) (λs6 y6 G6 h Fy AE=>?_);obtain⟨rJ,Ka⟩:=s6
 try dsimp only
 refine qq<|sr<|mv Y<|lE h λef gV h=>ne _ Y Y (G4 (p:=Ka) (q:=0) gV)<|dn ?_;cases ef;refine cF<|cc<|aV.x<|aV.x<|bG.x<|aV.n ?_;obtain rfl:=O (F h);exact⟨rJ,AE _ Y,wR []⟩;refine cT<|bA<|aV.n<|bj<|bf mixed<|mv Y<|mv Y<|mv Y<|bE (V h) λfC lz h=>RT.rem .none _ Y Y T (aa8 lz) (aa9 lz)<|ag Y<|ag Y ?_;refine RT.done ⟨by kernel_rfl,?_⟩;refine bG.n ?_;obtain rfl:=O h;exact aV.n ⟨(Ka,fC),Fy _ Y,wR []⟩;subst Fx
 try dsimp only
 refine aV.n<|qq<|sr<|mv Y<|lE nx λgX lC nx=>ls _ Y Y lC<|dn ?_;refine bK nx (λj8=>AS.cI 36 [(0,ai x0),(1,ai x1),(4,.ptr 4 0),(5,ai j8)] [(4,⟨43,[aj false,.sv (nw N ax),aj false,.sv (nw N ax)]⟩)] []) (λnx=>?_) (λKb nx=>?_);cases gX;exact fs<|⟨D0,(F nx),wR []⟩;exact cT<|aW<|mv Y<|lE (V nx) λfS kA nx=>RT.neg .none _ Y T kA<|ag Y<|dn<|⟨fS,nx,wR []⟩
 try dsimp only
 refine aV.n<|qq<|sr<|mv Y<|mv Y<|lE nx λgN oH nx=>eq _ Y Y (wj (p:=Kb) (q:=x1) oH)<|dn ?_;cases gN;refine fs<|qq<|bf mixed<|mv Y<|mv Y<|bE (F nx) λiG nm nx=>RT.quo .none _ Y Y T (nzI nm) (Tz nm) ?_;obtain⟨⟨uK,uL⟩,DL,nx⟩:=bS nx;refine RT.bM .none (dQ N DL) hN Y ⟨Y,aq⟩ T<|mv Y<|mv Y<|bE nx λtO zR nx=>RT.quo .none _ Y Y T (nzI zR) (Tz zR) ?_;obtain⟨⟨Mq,Mr⟩,wF,nx⟩:=bS nx;refine RT.bM .none (dQ N wF) hN Y ⟨Y,aq⟩ T<|bI (cs:=[_,_,_,_]) (cs':=[az uK,nw N (slc 1 (List.map aX uL)),az Mq,nw N (slc 1 (List.map aX Mr))]) (.agg Y (.agg Y (.nil))) ⟨au,au,au,au,aq⟩<|so Y Y Y ?_;refine RT.done ⟨by kernel_rfl,?_⟩;refine aV.n<|bh ?_;obtain rfl:=O nx;exact RZ (.agg Y Y (.k4 Y Y Y Y) Y (.nil));refine cT<|sr<|mv Y<|mv Y<|bE (V nx) λiX oP nx=>RT.quo .none _ Y Y T (nzI oP) (Tz oP) ?_;obtain⟨⟨lF,kI⟩,xP,nx⟩:=bS nx;refine RT.bM .none (dQ N xP) hN Y ⟨Y,aq⟩ T<|bI (cs:=[_,_,_,_]) (cs':=[az lF,nw N (slc 1 (List.map aX kI)),az false,nw N ax]) (.agg Y (.nil)) ⟨au,au,au,bk,aq⟩<|so Y Y Y<|dn<|bh<|aV.r ?_;obtain rfl:=O nx;exact RZ (.agg Y Y (.k4 Y Y Y Y) Y (.nil))
theorem Cf{x0:Int}{x1:Int}{r:Qr}(h:eP x0 x1=some r):Pure ah 135 [ay x0,ay x1] (.agg (eQ r)):=dO (λN=>jK N h) (λN=>(SV.dB (qI _ _)))
theorem D3{x0:Int}{r:Int}(h:oT x0=some r):Pure ah 128 [ay x0] (ay r):=by
 refine bw Tryz.func128 Y (af Y) (λee M vs hvs=>?_);unfold oT at h;refine sr<|ag Y<|dn<|qq<|bj<|sr<|mv Y<|lE h λx5 h5 h=>ls _ Y Y h5<|ag Y<|dn ?_;cases x5;refine cF<|sr<|mv Y<|lE (F h) λx8 h8 h=>gt _ Y Y h8<|ag Y<|dn ?_;cases x8;refine cF<|bA<|bG.n<|aV.n<|sr<|ag Y<|dn<|bh ?_;obtain rfl:=O (F h);exact R1 Y;refine cT<|sr<|ag Y<|dn<|bh<|bG.r<|aV.r ?_;obtain rfl:=O (V h);exact R1 Y;refine cT<|sr<|ag Y<|dn<|bh<|bG.r<|aV.r ?_;obtain rfl:=O (V h);exact R1 Y
theorem zg{x1:Qr}{x2:Qr}(N:Nat){r:Qr}(h:ji x1 x2=some r):cL ah 136 N [.v (.int .u8 ((43:Nat):Int)),.agg (eQ x1),.agg (eQ x2)] (.agg ((fQ N) r)):=by
 obtain⟨⟨cC,cz⟩,⟨gD,gE⟩⟩:=x1;obtain⟨⟨nW,nX⟩,⟨AI,AJ⟩⟩:=x2;refine bC Tryz.func136 Y (af Y) (λee M vs hN hvs=>?_);unfold ji at h;refine sr<|bx Y<|bx Y<|al (cs:=[az false,nw N ax,az false,nw N ax]) (by exact⟨au,bk,au,bk,aq⟩) Y<|dn<|sr<|ld Y Y (.k4 Y Y Y Y) ?_;obtain⟨⟨⟨jF,jG⟩,⟨jV,jW⟩⟩,kJ,h⟩:=bS h;refine cl (dL kJ) ⟨Y,aq⟩<|mv Y<|ex Y Y<|ex Y Y<|al (cs:=[az false,nw N ax]) (by exact⟨au,bk,aq⟩) Y<|al (cs:=[az false,nw N ax]) (by exact⟨au,bk,aq⟩) Y<|so Y Y Y<|so Y Y Y<|dn<|sr<|ld Y Y (.k4 Y Y Y Y) ?_;obtain⟨⟨⟨jH,jI⟩,⟨jX,jY⟩⟩,kA,h⟩:=bS h;refine cl (dL kA) ⟨Y,aq⟩<|mv Y<|ex Y Y<|ex Y Y<|al (cs:=[az false,nw N ax]) (by exact⟨au,bk,aq⟩) Y<|al (cs:=[az false,nw N ax]) (by exact⟨au,bk,aq⟩) Y<|so Y Y Y<|so Y Y Y<|dn<|qq<|bf mixed<|cl iz trivial<|mv Y ?_;refine RT.look .none [.func (.func 187) #[] #[]] Y Y Y T<|fl Y Y<|ld Y Y (.k2 Y Y)<|ld Y Y (.k2 Y Y)<|ld Y Y (.k2 Y Y)<|ld Y Y (.k2 Y Y) ?_;obtain⟨⟨⟨jZ,j0⟩,⟨j1,ke⟩⟩,nm,h⟩:=bS h;refine RT.bM .none (sI N nm) hN Y ⟨Y,Y,Y,Y,aq⟩ T<|ex Y Y<|ex Y Y ?_;obtain⟨⟨⟨pM,oN⟩,⟨sF,sG⟩⟩,qw,h⟩:=bS h
 refine RT.bM .none ((jn N qw).w (args':=[_,_]) ⟨(SV.dB (show cP [az jZ,nw N (slc 1 (List.map aX j0))] _ from⟨au,dY,aq⟩)),(SV.dB (show cP [az j1,nw N (slc 1 (List.map aX ke))] _ from⟨au,dY,aq⟩)),aq⟩) hN Y ⟨Y,Y,aq⟩ T<|so Y Y Y ?_;refine RT.done ⟨by kernel_rfl,?_⟩;refine aV.n<|bh ?_;obtain rfl:=O h;exact RZ (.agg Y Y (.k4 Y Y Y Y) Y (.nil))
theorem zh{x1:Qr}{x2:Qr}(N:Nat){r:Qr}(h:jk x1 x2=some r):cL ah 136 N [.v (.int .u8 ((45:Nat):Int)),.agg (eQ x1),.agg (eQ x2)] (.agg ((fQ N) r)):=by
 obtain⟨⟨cC,cz⟩,⟨gD,gE⟩⟩:=x1;obtain⟨⟨nW,nX⟩,⟨AI,AJ⟩⟩:=x2;refine bC Tryz.func136 Y (af Y) (λee M vs hN hvs=>?_);unfold jk at h;refine sr<|bx Y<|bx Y<|al (cs:=[az false,nw N ax,az false,nw N ax]) (by exact⟨au,bk,au,bk,aq⟩) Y<|dn<|sr<|ld Y Y (.k4 Y Y Y Y) ?_;obtain⟨⟨⟨jF,jG⟩,⟨jV,jW⟩⟩,kJ,h⟩:=bS h;refine cl (dL kJ) ⟨Y,aq⟩<|mv Y<|ex Y Y<|ex Y Y<|al (cs:=[az false,nw N ax]) (by exact⟨au,bk,aq⟩) Y<|al (cs:=[az false,nw N ax]) (by exact⟨au,bk,aq⟩) Y<|so Y Y Y<|so Y Y Y<|dn<|sr<|ld Y Y (.k4 Y Y Y Y) ?_;obtain⟨⟨⟨jH,jI⟩,⟨jX,jY⟩⟩,kA,h⟩:=bS h;refine cl (dL kA) ⟨Y,aq⟩<|mv Y<|ex Y Y<|ex Y Y<|al (cs:=[az false,nw N ax]) (by exact⟨au,bk,aq⟩) Y<|al (cs:=[az false,nw N ax]) (by exact⟨au,bk,aq⟩) Y<|so Y Y Y<|so Y Y Y<|dn<|qq<|bf mixed<|cl iz trivial<|mv Y ?_;refine RT.look .none [.func (.func 189) #[] #[]] Y Y Y T<|fl Y Y<|ld Y Y (.k2 Y Y)<|ld Y Y (.k2 Y Y)<|ld Y Y (.k2 Y Y)<|ld Y Y (.k2 Y Y) ?_;obtain⟨⟨⟨jZ,j0⟩,⟨j1,ke⟩⟩,nm,h⟩:=bS h;refine RT.bM .none (sJ N nm) hN Y ⟨Y,Y,Y,Y,aq⟩ T<|ex Y Y<|ex Y Y ?_;obtain⟨⟨⟨pM,oN⟩,⟨sF,sG⟩⟩,qw,h⟩:=bS h
 refine RT.bM .none ((jn N qw).w (args':=[_,_]) ⟨(SV.dB (show cP [az jZ,nw N (slc 1 (List.map aX j0))] _ from⟨au,dY,aq⟩)),(SV.dB (show cP [az j1,nw N (slc 1 (List.map aX ke))] _ from⟨au,dY,aq⟩)),aq⟩) hN Y ⟨Y,Y,aq⟩ T<|so Y Y Y ?_;refine RT.done ⟨by kernel_rfl,?_⟩;refine aV.n<|bh ?_;obtain rfl:=O h;exact RZ (.agg Y Y (.k4 Y Y Y Y) Y (.nil))
theorem zj{x1:Qr}{x2:Qr}(N:Nat){r:Qr}(h:jl x1 x2=some r):cL ah 136 N [.v (.int .u8 ((42:Nat):Int)),.agg (eQ x1),.agg (eQ x2)] (.agg ((fQ N) r)):=by
 obtain⟨⟨cC,cz⟩,⟨gD,gE⟩⟩:=x1;obtain⟨⟨nW,nX⟩,⟨AI,AJ⟩⟩:=x2;refine bC Tryz.func136 Y (af Y) (λee M vs hN hvs=>?_);unfold jl at h;refine sr<|bx Y<|bx Y<|al (cs:=[az false,nw N ax,az false,nw N ax]) (by exact⟨au,bk,au,bk,aq⟩) Y<|dn<|sr<|ld Y Y (.k4 Y Y Y Y) ?_;obtain⟨⟨⟨jF,jG⟩,⟨jV,jW⟩⟩,kJ,h⟩:=bS h;refine cl (dL kJ) ⟨Y,aq⟩<|mv Y<|ex Y Y<|ex Y Y<|al (cs:=[az false,nw N ax]) (by exact⟨au,bk,aq⟩) Y<|al (cs:=[az false,nw N ax]) (by exact⟨au,bk,aq⟩) Y<|so Y Y Y<|so Y Y Y<|dn<|sr<|ld Y Y (.k4 Y Y Y Y) ?_;obtain⟨⟨⟨jH,jI⟩,⟨jX,jY⟩⟩,kA,h⟩:=bS h;refine cl (dL kA) ⟨Y,aq⟩<|mv Y<|ex Y Y<|ex Y Y<|al (cs:=[az false,nw N ax]) (by exact⟨au,bk,aq⟩) Y<|al (cs:=[az false,nw N ax]) (by exact⟨au,bk,aq⟩) Y<|so Y Y Y<|so Y Y Y<|dn<|qq<|bf mixed<|cl iz trivial<|mv Y ?_;refine RT.look .none [.func (.func 191) #[] #[]] Y Y Y T<|fl Y Y<|ld Y Y (.k2 Y Y)<|ld Y Y (.k2 Y Y)<|ld Y Y (.k2 Y Y)<|ld Y Y (.k2 Y Y) ?_;obtain⟨⟨⟨jZ,j0⟩,⟨j1,ke⟩⟩,nm,h⟩:=bS h;refine RT.bM .none (sK N nm) hN Y ⟨Y,Y,Y,Y,aq⟩ T<|ex Y Y<|ex Y Y ?_;obtain⟨⟨⟨pM,oN⟩,⟨sF,sG⟩⟩,qw,h⟩:=bS h
 refine RT.bM .none ((jn N qw).w (args':=[_,_]) ⟨(SV.dB (show cP [az jZ,nw N (slc 1 (List.map aX j0))] _ from⟨au,dY,aq⟩)),(SV.dB (show cP [az j1,nw N (slc 1 (List.map aX ke))] _ from⟨au,dY,aq⟩)),aq⟩) hN Y ⟨Y,Y,aq⟩ T<|so Y Y Y ?_;refine RT.done ⟨by kernel_rfl,?_⟩;refine aV.n<|bh ?_;obtain rfl:=O h;exact RZ (.agg Y Y (.k4 Y Y Y Y) Y (.nil))
theorem zk{x1:Qr}{x2:Qr}(N:Nat){r:Qr}(h:hG x1 x2=some r):cL ah 136 N [.v (.int .u8 ((47:Nat):Int)),.agg (eQ x1),.agg (eQ x2)] (.agg ((fQ N) r)):=by
 obtain⟨⟨cC,cz⟩,⟨gD,gE⟩⟩:=x1;obtain⟨⟨nW,nX⟩,⟨AI,AJ⟩⟩:=x2;refine bC Tryz.func136 Y (af Y) (λee M vs hN hvs=>?_);unfold hG at h;refine sr<|bx Y<|bx Y<|al (cs:=[az false,nw N ax,az false,nw N ax]) (by exact⟨au,bk,au,bk,aq⟩) Y<|dn<|sr<|ld Y Y (.k4 Y Y Y Y) ?_;obtain⟨⟨⟨jF,jG⟩,⟨jV,jW⟩⟩,kJ,h⟩:=bS h;refine cl (dL kJ) ⟨Y,aq⟩<|mv Y<|ex Y Y<|ex Y Y<|al (cs:=[az false,nw N ax]) (by exact⟨au,bk,aq⟩) Y<|al (cs:=[az false,nw N ax]) (by exact⟨au,bk,aq⟩) Y<|so Y Y Y<|so Y Y Y<|dn<|sr<|ld Y Y (.k4 Y Y Y Y) ?_;obtain⟨⟨⟨jH,jI⟩,⟨jX,jY⟩⟩,kA,h⟩:=bS h;refine cl (dL kA) ⟨Y,aq⟩<|mv Y<|ex Y Y<|ex Y Y<|al (cs:=[az false,nw N ax]) (by exact⟨au,bk,aq⟩) Y<|al (cs:=[az false,nw N ax]) (by exact⟨au,bk,aq⟩) Y<|so Y Y Y<|so Y Y Y<|dn<|qq<|bf mixed<|cl iz trivial<|mv Y ?_;refine RT.look .none [.func (.func 192) #[] #[]] Y Y Y T<|fl Y Y<|ld Y Y (.k2 Y Y)<|ld Y Y (.k2 Y Y)<|ld Y Y (.k2 Y Y)<|ld Y Y (.k2 Y Y) ?_;obtain⟨⟨⟨jZ,j0⟩,⟨j1,ke⟩⟩,nm,h⟩:=bS h;refine RT.bM .none (sL N nm) hN Y ⟨Y,Y,Y,Y,aq⟩ T<|ex Y Y<|ex Y Y ?_;obtain⟨⟨⟨pM,oN⟩,⟨sF,sG⟩⟩,qw,h⟩:=bS h
 refine RT.bM .none ((jn N qw).w (args':=[_,_]) ⟨(SV.dB (show cP [az jZ,nw N (slc 1 (List.map aX j0))] _ from⟨au,dY,aq⟩)),(SV.dB (show cP [az j1,nw N (slc 1 (List.map aX ke))] _ from⟨au,dY,aq⟩)),aq⟩) hN Y ⟨Y,Y,aq⟩ T<|so Y Y Y ?_;refine RT.done ⟨by kernel_rfl,?_⟩;refine aV.n<|bh ?_;obtain rfl:=O h;exact RZ (.agg Y Y (.k4 Y Y Y Y) Y (.nil))
theorem zm{x1:Qr}{x2:Qr}{r:Qr}(h:hG x1 x2=some r):Pure ah 136 [.v (.int .u8 ((47:Nat):Int)),.agg (eQ x1),.agg (eQ x2)] (.agg (eQ r)):=dO (λN=>zk N h) (λN=>(SV.dB (qI _ _)))
end
end Go.Proofs.YtningmnklfpfjaaGreat
