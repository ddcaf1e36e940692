/- A part of the proof: the framework, the plain functions, the followed functions, the plain laws. -/
import Derived.Test.YtningmnklfpfjaaGreatPTK1
set_option linter.unusedVariables false
set_option linter.unusedSimpArgs false
namespace Go.Fw
section
open Go.RowKit
def cX{J R:Type}(k:J->Option R)(f:(J->Option R)->Option R):Option R:=f k
theorem bind_some{α β:Type}{x:Option α}{f:α->Option β}{r:β}(h:Option.bind x f=some r):∃a,x=some a/\f a=some r:=by
 cases x with
 |none=>cases h
 |some a=>exact⟨a,Y,h⟩
theorem uO{α β:Type}{v:α}{f:α->Option β}{r:β}(h:Option.bind (some v) f=some r):∃a,v=a/\f a=some r:=⟨v,Y,h⟩
theorem VG{α:Type}{x y:Option α}{r:α}(h:(bif true then x else y)=some r):x=some r:=h
theorem Pt{α:Type}{x y:Option α}{r:α}(h:(bif false then x else y)=some r):y=some r:=h
theorem sk{b w:Bool}(h:(b==w)=false):b≠w:=by cases b<;>cases w<;>simp_all
def cV{α:Type}(l:List α)(i:Int):Option α:=if 0<=i then l[i.toNat]? else none
def qK{α:Type}(l:List α)(i:Int):Option Nat:=if 0<=i/\i<l.length then some i.toNat else none
def HR{α:Type}(l:List α)(lo hi:Int):Option (List α):=if 0<=lo/\lo<=hi/\hi<=l.length then some (cut l lo.toNat hi.toNat)else none
def lM{α:Type}(by_:Nat)(l k:List α):Option (List α):=if(l.length+k.length)*by_<=140737488355328/\l.length+k.length<=140737488355328 then some (l++k)else none
def Ln{α:Type}(by_:Nat)(c:Int)(z:α):Option (List α):=if 0<=c/\by_*c<=281474976710656/\c<=140737488355328 then some (List.replicate c.toNat z)else none
def Xu{α:Type}(by_:Nat)(c:Int):Option (List α):=if 0<=c/\by_*c<=281474976710656/\c<=140737488355328 then some []else none
def stM{α:Type}(l:List α)(n:Nat)(y:α):Option (List α):=if n<l.length then some (l.set n y)else none
def Bl(a b:Int):Option Int:=if b=0 then none else some (IntKind.i64.wrap (a.tdiv b))
def LG(a b:Int):Option Int:=if b=0 then none else some (a.tmod b)
def Ng(M a b:Nat):Option Nat:=if b=0 then none else some (a/b%M)
def LH(a b:Nat):Option Nat:=if b=0 then none else some (a%b)
def w6(M a b:Nat):Nat:=(((a:Int)-b)%M).toNat
theorem zx{α:Type}{l:List α}{i:Int}{a:α}(h:cV l i=some a):0<=i/\l[i.toNat]? =some a:=by
 unfold cV at h;split at h
 ·exact⟨by assumption,h⟩
 cases h
theorem Xv{α:Type}{l:List α}{i:Int}{k:Nat}(h:qK l i=some k):0<=i/\i<l.length/\i.toNat=k:=by
 unfold qK at h;split at h
 ·rename_i hh;exact⟨hh.1,hh.2,Option.some.inj h⟩
 cases h
theorem Mo{α:Type}{l l':List α}{a b:Int}(h:HR l a b=some l'):0<=a/\a<=b/\b<=l.length/\cut l a.toNat b.toNat=l':=by
 unfold HR at h;split at h
 ·rename_i hh;exact⟨hh.1,hh.2.1,hh.2.2,Option.some.inj h⟩
 cases h
theorem BE{α:Type}{by_:Nat}{l k l':List α}(h:lM by_ l k=some l'):(l.length+k.length)*by_<=140737488355328/\l.length+k.length<=140737488355328/\l++k=l':=by
 unfold lM at h;split at h
 ·rename_i hh;exact⟨hh.1,hh.2,Option.some.inj h⟩
 cases h
theorem Xw{α:Type}{by_:Nat}{c:Int}{z:α}{l':List α}(h:Ln by_ c z=some l'):0<=c/\by_*c<=281474976710656/\c<=140737488355328/\List.replicate c.toNat z=l':=by
 unfold Ln at h;split at h
 ·rename_i hh;exact⟨hh.1,hh.2.1,hh.2.2,Option.some.inj h⟩
 cases h
theorem Xx{α:Type}{by_:Nat}{c:Int}{l':List α}(h:Xu by_ c=some l'):0<=c/\by_*c<=281474976710656/\c<=140737488355328/\[]=l':=by
 unfold Xu at h;split at h
 ·rename_i hh;exact⟨hh.1,hh.2.1,hh.2.2,Option.some.inj h⟩
 cases h
theorem Pu{α:Type}{l l':List α}{n:Nat}{y:α}(h:stM l n y=some l'):n<l.length/\l.set n y=l':=by
 unfold stM at h;split at h
 ·rename_i hh;exact⟨hh,Option.some.inj h⟩
 cases h
def vW{S E:Type}(body:S->Option (S⊕E)):Nat->S->Option E
 |0,_=>none
 |n+1,s=>match body s with
  |some (.inl s')=>vW body n s'
  |some (.inr e)=>some e
  |none=>none
theorem DC{S E:Type}{body:S->Option (S⊕E)}:∀{n m:Nat} {s:S} {e:E},n<=m->vW body n s=some e->vW body m s=some e
 |0,_,_,_,_,h=>by cases h
 |n+1,0,_,_,hm,_=>by omega
 |n+1,m+1,s,e,hm,h=>by
  unfold vW at h⊢;cases hb:body s with
  |none=>rw[hb]at h;cases h
  |some y=>
   rw[hb]at h;cases y with
   |inl s'=>exact DC ξ h
   |inr e'=>exact h
open Classical in
noncomputable def cm{S E:Type}(body:S->Option (S⊕E))(s:S):Option E:=if h:∃n e,vW body n s=some e then some (Classical.choose (Classical.choose_spec h))else none
theorem DD{S E:Type}{body:S->Option (S⊕E)}{s:S}{e:E}(h:cm body s=some e):∃n,vW body n s=some e:=by
 unfold cm at h;split at h
 ·rename_i hh;exact⟨_,by rw[<-Option.some.inj h];exact Classical.choose_spec (Classical.choose_spec hh)⟩
 cases h
theorem Jn{S E:Type}{body:S->Option (S⊕E)}{s:S}{e:E}{n:Nat}(h:vW body n s=some e):cm body s=some e:=by
 have hh:∃n e,vW body n s=some e:=⟨n,e,h⟩;unfold cm;rw[dif_pos hh];have h2:=Classical.choose_spec (Classical.choose_spec hh);have h3:=DC (Nat.le_max_left n (Classical.choose hh)) h;have h4:=DC (Nat.le_max_right n (Classical.choose hh)) h2;rw[h3]at h4;exact h4.symm
theorem DE{S E:Type}{body:S->Option (S⊕E)}{s:S}{e:E}(h:body s=some (.inr e)):cm body s=some e:=Jn (n:=1) (by simp[vW,h])
theorem Jo{S E:Type}{body:S->Option (S⊕E)}{s s':S}(h:body s=some (.inl s')):cm body s=cm body s':=by
 cases hl:cm body s' with
 |some e=>obtain⟨n,hn⟩:=DD hl;exact Jn (n:=n+1) (by simp[vW,h,hn])
 |none=>
  cases hl2:cm body s with
  |none=>rfl
  |some e=>
   obtain⟨n,hn⟩:=DD hl2;cases n with
   |zero=>cases hn
   |succ n=>simp only[vW,h]at hn;rw[Jn hn]at hl;cases hl
theorem F9{S E:Type}{body:S->Option (S⊕E)}(I:S->Prop)(Post:E->Prop)(μ:S->Nat)
  (step:∀s,I s->(∃s',body s=some (.inl s')/\I s'/\μ s'<μ s)\/(∃e,body s=some (.inr e)/\Post e)) {s:S} (h:I s):∃e,cm body s=some e/\Post e:=by
 have key:∀(n:Nat) (s:S),μ s<=n->I s->∃e,cm body s=some e/\Post e:=by
  intro n
  induction n with
  |zero=>
   intro s hn hs;rcases step s hs with⟨s',_,_,h3⟩|⟨e,h1,h2⟩
   ·omega
   exact⟨e,DE h1,h2⟩
  |succ n ih=>
   intro s hn hs;rcases step s hs with⟨s',h1,h2,h3⟩|⟨e,h1,h2⟩
   ·obtain⟨e,q1,q2⟩:=ih s' ξ h2;exact⟨e,by rw[Jo h1];exact q1,q2⟩
   exact⟨e,DE h1,h2⟩
 exact key _ s (Nat.le_refl _) h
theorem Xy{S E:Type}{body:S->Option (S⊕E)}(st:Nat->S)(n:Nat){e:E}(hs:∀k,k<n->body (st k)=some (.inl (st (k+1))))(he:body (st n)=some (.inr e)):cm body (st 0)=some e:=by
 have key:∀k,k<=n->cm body (st (n-k))=some e:=by
  intro k
  induction k with
  |zero=>intro _;exact DE he
  |succ k ih=>
   intro hk;rw[Jo (hs (n-(k+1)) ξ),show n-(k+1)+1=n-k by omega];exact ih ξ
 have:=key n (Nat.le_refl _);rwa[Nat.sub_self]at this
theorem yT{p q:Int}{c:Bool}(h:decide (p=q)=c):(p==q)=c:=by rw[<-h];exact Bool.beq_eq_decide_eq p q
theorem Nh{p q:Int}{c:Bool}(h:decide (p≠q)=c):(p != q)=c:=by rw[<-h,bne,Bool.beq_eq_decide_eq p q];simp
theorem eqN{p q:Nat}{c:Bool}(h:decide (p=q)=c):((p:Int)==(q:Int))=c:=yT (by rw[<-h];simp[Int.natCast_inj])
theorem neN{p q:Nat}{c:Bool}(h:decide (p≠q)=c):((p:Int) != (q:Int))=c:=Nh (by rw[<-h];simp[Int.natCast_inj])
theorem ltN{p q:Nat}{c:Bool}(h:decide (p<q)=c):decide ((p:Int)<(q:Int))=c:=by rw[<-h];simp
theorem leN{p q:Nat}{c:Bool}(h:decide (p<=q)=c):decide ((p:Int)<=(q:Int))=c:=by rw[<-h];simp
theorem Pw{p q c:Int}(h:max p q=c):(if q>p then q else p)=c:=by rw[<-h];split<;>omega
theorem Xz{p q c:Int}(h:min p q=c):(if q<p then q else p)=c:=by rw[<-h];split<;>omega
class UK (k:IntKind) (b:outParam Nat) (M:outParam Nat):Prop where
 w:∀x:Int,k.wrap x=x%M
 hb:k.bits=b
 hm:2^b=M
instance:UK .u8 8 256:=⟨λx=>by simp[IntKind.wrap,IntKind.signed,IntKind.bits],rfl,by decide⟩
instance:UK .u32 32 4294967296:=⟨λx=>by simp[IntKind.wrap,IntKind.signed,IntKind.bits],rfl,by decide⟩
instance:UK .u64 64 18446744073709551616:=⟨λx=>by simp[IntKind.wrap,IntKind.signed,IntKind.bits],rfl,by decide⟩
section uk
variable {k:IntKind}{bi M a b c:Nat}[u:UK k bi M]
include u
theorem UK.pos:0<M:=by rw[<-u.hm];exact Nat.two_pow_pos _
theorem UK.nat(h:a%M=c):k.wrap (a:Int)=(c:Int):=by rw[u.w,<-h,Int.natCast_emod]
theorem UK.add(h:(a+b)%M=c):k.wrap ((a:Int)+(b:Int))=(c:Int):=by rw[<-Int.natCast_add];exact UK.nat h
theorem UK.mul(h:(a*b)%M=c):k.wrap ((a:Int)*(b:Int))=(c:Int):=by rw[<-Int.natCast_mul];exact UK.nat h
theorem UK.sub(h:w6 M a b=c):k.wrap ((a:Int)-(b:Int))=(c:Int):=by
 rw[u.w,<-h,w6,Int.toNat_of_nonneg];exact Int.emod_nonneg _ (by have:=UK.pos (k:=k) (bi:=bi) (M:=M);omega)
theorem UK.neg(h:w6 M 0 a=c):k.wrap (0-(a:Int))=(c:Int):=UK.sub h
theorem UK.conv{p:Int}(h:(p%M).toNat=c):k.wrap p=(c:Int):=by
 rw[u.w,<-h,Int.toNat_of_nonneg];exact Int.emod_nonneg _ (by have:=UK.pos (k:=k) (bi:=bi) (M:=M);omega)
theorem UK.quo(h:Ng M a b=some c):k.wrap ((a:Int).tdiv (b:Int))=(c:Int):=by
 unfold Ng at h;split at h
 ·cases h
 rw[Int.tdiv_eq_ediv_of_nonneg ξ,<-Int.natCast_ediv];exact UK.nat (Option.some.inj h)
theorem UK.akq(h:a/b%M=c):k.wrap ((a:Int).tdiv (b:Int))=(c:Int):=by
 rw[Int.tdiv_eq_ediv_of_nonneg ξ,<-Int.natCast_ediv];exact UK.nat h
theorem UK.shl{q:Int}{s:Nat}(hs:min q.toNat k.bits=s)(h:a*2^s%M=c):k.wrap ((a:Int)*2^(min q.toNat k.bits))=(c:Int):=by
 rw[hs,show(a:Int)*2^s=((a*2^s:Nat):Int) by rw[Int.natCast_mul,Int.natCast_pow];rfl];exact UK.nat h
theorem UK.ofInt(a:Nat):(BitVec.ofInt k.bits (a:Int)).toNat=a%M:=by
 rw[BitVec.ofInt_natCast,BitVec.toNat_ofNat,u.hb,u.hm]
theorem UK.or(h:(a ||| b)%M=c):k.wrap ((BitVec.ofInt k.bits (a:Int) ||| BitVec.ofInt k.bits (b:Int)).toNat)=(c:Int):=by
 rw[BitVec.toNat_or,UK.ofInt,UK.ofInt,<-u.hm,<-Nat.or_mod_two_pow,u.hm,h,UK.nat (a:=c) (c:=c)];rw[<-h,Nat.mod_mod]
end uk
theorem Ni{k:IntKind}{a c s:Nat}{q:Int}(hs:min q.toNat k.bits=s)(h:a/2^s=c):(a:Int).fdiv (2^(min q.toNat k.bits))=(c:Int):=by
 rw[hs,Int.fdiv_eq_ediv_of_nonneg _ (Int.le_of_lt (Int.pow_pos η)),<-h,Int.natCast_ediv,Int.natCast_pow];rfl
theorem abH{a b c:Nat}(h:LH a b=some c):(a:Int).tmod (b:Int)=(c:Int):=by
 unfold LH at h;split at h
 ·cases h
 rw[Int.tmod_eq_emod_of_nonneg ξ,<-Option.some.inj h];rfl
theorem adW{a b c:Nat}(h:a%b=c):(a:Int).tmod (b:Int)=(c:Int):=by
 rw[Int.tmod_eq_emod_of_nonneg ξ,<-h];rfl
theorem nzU{M a b c:Nat}(h:Ng M a b=some c):(b:Int)≠0:=by
 unfold Ng at h;split at h
 ·cases h
 omega
theorem nzR{a b c:Nat}(h:LH a b=some c):(b:Int)≠0:=by
 unfold LH at h;split at h
 ·cases h
 omega
theorem nzI{a b c:Int}(h:Bl a b=some c):b≠0:=by unfold Bl at h;split at h<;>simp_all
theorem agi{a b c:Int}(h:LG a b=some c):b≠0:=by unfold LG at h;split at h<;>simp_all
theorem XA{a b c:Int}(h:Bl a b=some c):IntKind.i64.wrap (a.tdiv b)=c:=by
 unfold Bl at h;split at h
 ·cases h
 exact Option.some.inj h
theorem agj{a b c:Int}(h:LG a b=some c):a.tmod b=c:=by
 unfold LG at h;split at h
 ·cases h
 exact Option.some.inj h
abbrev bk(x:Nat):List SV:=[.v (.int .u32 (x:Nat))]
abbrev bO(x:Int):List SV:=[.v (.int .i64 x)]
abbrev eB(x:Bool):List SV:=[.v (.bool x)]
abbrev eS{α:Type}(n:Nat)(e:α->List SV)(l:List α):List SV:=[slc n (l.map e)]
structure Zr where
 neg:Bool
 w:List Nat
structure Qr where
 num:Zr
 den:Zr
abbrev eZ(z:Zr):List SV:=[.v (.bool z.neg),slc 1 (z.w.map bk)]
abbrev eQ(q:Qr):List SV:=[.v (.bool q.num.neg),slc 1 (q.num.w.map bk),.v (.bool q.den.neg),slc 1 (q.den.w.map bk)]
class EL {α:Type} (e:α->List SV) (n:outParam Nat):Prop where
 len:∀x,(e x).length=n
 one:∀x,yO (e x)
instance:EL bk 1:=⟨λ_=>rfl,λ_=>inferInstance⟩
instance:EL bO 1:=⟨λ_=>rfl,λ_=>inferInstance⟩
instance{α:Type}{n:Nat}{e:α->List SV}:EL (eS n e) 1:=⟨λ_=>rfl,λ_=>inferInstance⟩
instance:EL eQ 4:=⟨λ_=>rfl,λ_=>inferInstance⟩
def Nj{α:Type}(l k:List α):List α:=k.take l.length++l.drop k.length
structure Tb where
 made:Bool
 vars:Int
 HS:List (List Qr)
 basis:List Int
 rows:List (List Qr)
abbrev zj(x:Tb):List SV:=[.v (.bool x.made),.v (.int .i64 x.vars),slc 1 (x.HS.map (eS 4 eQ)),slc 1 (x.basis.map bO),slc 1 (x.rows.map (eS 4 eQ))]
structure Pv where
 row:Int
 col:Int
abbrev WK(x:Pv):List SV:=[.v (.int .i64 x.row),.v (.int .i64 x.col)]
instance:EL WK 2:=⟨λ_=>rfl,λ_=>inferInstance⟩
structure Lr where
 vars:Int
 HS:List (List Qr)
 rows:List (List Qr)
 bounds:List Qr
abbrev Lo(x:Lr):List SV:=[.v (.int .i64 x.vars),slc 1 (x.HS.map (eS 4 eQ)),slc 1 (x.rows.map (eS 4 eQ)),slc 4 (x.bounds.map eQ)]
structure Sz where
 vars:Int
 HS:Int
 rows:Int
 bounds:Int
abbrev eSz(x:Sz):List SV:=[.v (.int .i64 x.vars),.v (.int .i64 x.HS),.v (.int .i64 x.rows),.v (.int .i64 x.bounds)]
abbrev TR(E:TypeId)(sz:Nat){α:Type}(e:α->List SV)(l:List α):Row:=⟨E,sz,l.length,l.flatMap e⟩
theorem aD{α:Type}{n:Nat}{e:α->List SV}:SV.imp (.v (.slice none 0 0)) (slc n (([]:List α).map e)):=λ_ _ h=>.inl ⟨none,h,Y⟩
theorem zy{α:Type}(e:α->List SV)(l:List α):(l.map e).flatten=l.flatMap e:=by rw[List.flatMap_def]
theorem uP{α:Type}{e:α->List SV}{n:Nat}[h:EL e n](l:List α):Rows n (l.map e) (l.flatMap e):=⟨zy e l,λr hr=>by obtain⟨x,_,rfl⟩:=List.mem_map.1 hr;exact h.len x⟩
theorem Mp{M:Mem}:∀{l k:List SV} {vs:List Value},SV.eJ M (l++k) vs->∃us ws,vs=us++ws/\SV.eJ M l us/\SV.eJ M k ws
 |[],_,vs,h=>⟨[],vs,Y,ak,h⟩
 |_::_,_,[],h=>h.elim
 |_::l,_,v::vs,h=>by
  obtain⟨us,ws,rfl,h1,h2⟩:=Mp (l:=l) h.2;exact⟨v::us,ws,Y,⟨h.1,h1⟩,h2⟩
theorem oS{α:Type}{e:α->List SV}{n:Nat}[h:EL e n](l:List α):∀M vs,SV.eJ M (l.flatMap e) vs->∀v∈vs,v.oneCell'=true:=by
 intro M
 induction l with
 |nil=>intro vs hv;cases vs with|nil=>simp|cons _ _=>exact hv.elim
 |cons x l ih=>
  intro vs hv;rw[List.flatMap_cons]at hv;obtain⟨us,ws,rfl,h1,h2⟩:=Mp hv;intro v hv;rcases List.mem_append.1 hv with hv|hv
  ·exact(h.one x).h M us h1 v hv
  exact ih ws h2 v hv
theorem Px{α:Type}{e:α->List SV}{n:Nat}[h:EL e n]:∀{l:List α} {k:Nat} {a:α},l[k]? =some a->((l.flatMap e).drop (k*n)).take n=e a
 |[],_,_,hh=>by simp at hh
 |x::l,0,a,hh=>by
  simp only[List.getElem?_cons_zero,Option.some.injEq]at hh;subst hh;rw[List.flatMap_cons,Nat.zero_mul,List.drop_zero,<-h.len x,List.take_left'];rfl
 |x::l,k+1,a,hh=>by
  rw[List.getElem?_cons_succ]at hh;rw[List.flatMap_cons,show(k+1)*n=(e x).length+k*n by rw[h.len,Nat.add_mul];omega,<-List.drop_drop,List.drop_left']
  ·exact Px hh
  rfl
theorem Py{α:Type}{e:α->List SV}{n:Nat}[h:EL e n]{y:α}:∀{l:List α} {k:Nat},k<l.length->qH (l.flatMap e) (k*n) (e y)=(l.set k y).flatMap e:=by
 have aon:∀(u:List SV) (a b:List SV) (j:Nat),j+u.length<=a.length->qH (a++b) j u=qH a j u++b:=by
  intro u
  induction u with
  |nil=>intro a b j _;rfl
  |cons s u ih=>
   intro a b j hj;simp only[List.length_cons]at hj;simp only[qH];rw[List.set_append_left _ _ ξ,ih _ _ _ (by rw[List.length_set];omega)]
 have aoo:∀(u:List SV) (a b:List SV) (j:Nat),qH (a++b) (a.length+j) u=a++qH b j u:=by
  intro u
  induction u with
  |nil=>intro a b j;rfl
  |cons s u ih=>
   intro a b j;simp only[qH];rw[List.set_append_right _ _ ξ,show a.length+j-a.length=j by omega,show a.length+j+1=a.length+(j+1) by omega,ih]
 have aop:∀(u a:List SV),u.length=a.length->qH a 0 u=u:=by
  have gen:∀(u a p:List SV),u.length=a.length->qH (p++a) p.length u=p++u:=by
   intro u
   induction u with
   |nil=>intro a p ha;have:a=[]:=List.eq_nil_of_length_eq_zero ha.symm;subst this;rfl
   |cons s u ih=>
    intro a p ha;cases a with
    |nil=>cases ha
    |cons t a=>
     simp only[qH];rw[List.set_append_right _ _ (Nat.le_refl _),Nat.sub_self,List.set_cons_zero,show p++s::a=(p++[s])++a by simp,show p.length+1=(p++[s]).length by simp,ih a _ (by simpa using ha)];simp
  intro u a ha;exact gen u a [] ha
 intro l
 induction l with
 |nil=>intro k hk;simp at hk
 |cons x l ih=>
  intro k hk;cases k with
  |zero=>
   rw[List.set_cons_zero,List.flatMap_cons,List.flatMap_cons,Nat.zero_mul,aon _ _ _ _ (by rw[h.len,h.len];omega),aop _ _ (by rw[h.len,h.len])]
  |succ k=>
   simp only[List.length_cons]at hk;rw[List.set_cons_succ,List.flatMap_cons,List.flatMap_cons,show(k+1)*n=(e x).length+k*n by rw[h.len,Nat.add_mul];omega,aoo,ih ξ]
end
section
open Go.RowKit
section steps
variable {P:Program}{C:Ctx}{ops:Array Oper}{S:AS}{nd:Bool}{K:List Ac->AS->Prop}{rest:List Oper}{acc:List Ac}
variable {gd:Option (Nat×Bool)}{rg:List Nat}{d:Nat}{ty:TypeId}{pos:String}{aft:Array Edge}{x y z:Operand}{T U E0:TypeId}
variable {α:Type}{l l' k:List α}{e:α->List SV}{n by_:Nat}{zv:Value}
theorem RT.aoq(hg:Gd ops S gd rg){s X:SV}(hx:S.ev x=.sv s)(hi:SV.imp s X)(hd:d<S.n)
  (next:RunT P C ops nd K rest (⟨rg++bn x,[],[],⟨some (d,.sv X),[],[]⟩⟩::acc) (S.set d (.sv X))):RunT P C ops nd K (⟨some d,.assign x,ty,pos,aft,gd⟩::rest) acc S:=
 RT.value hg (bn x) [] [] (.sv X) hd aE (λS' ht _ _ E a w h=>by
  have hx':S'.ev x=.sv s:=by rw[bT (λ_ h=>h) ht,hx]
  exact⟨a.eval x,Y,by have:=h.ev x;rw[hx']at this;exact hi _ _ this,iu⟩) next
theorem VH{E:Env}:∀{l l':List SV} {vs:List Value},cc l l'->SV.eJ E.M l vs->dQ E (l'.map AV.sv) vs:=λhi h=>dQ.Ej (hi.holds h)
theorem Nk(M:Mem):∀l:List Value,SV.eJ M (l.map SV.v) l
 |[]=>trivial
 |_::l=>⟨Y,Nk M l⟩
theorem RT.Al(hg:Gd ops S gd rg)[tz:mN P T zv]{cs:List SV}(hi:cc (zv.cells.toList.map SV.v) cs){av:List AV}(hav:cs.map AV.sv=av)(hd:d<S.n)(hb:S.b d=none)(hp:C.jl d=none)
  (next:RunT P C ops nd K rest (⟨rg++[],[d],[],⟨some (d,.ptr d 0),[(d,⟨T,av⟩)],[]⟩⟩::acc) ((S.nX d ⟨T,av⟩).set d (.ptr d 0))):RunT P C ops nd K (⟨some d,.alloc T,ty,pos,aft,gd⟩::rest) acc S:=by
 subst hav;exact RT.T9 hg aE [] hd hb hp (λS' _ E a w h=>⟨zv.cells.toList,by simp[execOp,Instr.alloc,newVar,newRow,tz.run],VH hi (Nk _ _),λy hy=>by
  obtain⟨s,_,rfl⟩:=List.mem_map.1 hy;exact iu⟩) next
theorem RT.agk(hg:Gd ops S gd rg){pl:List (Nat×Nat)}{zc:List Value}[tP:l9 P T pl zc]{parts:Array (Nat×Operand)}{qs:List (Nat×List SV)}(hp:vU S parts.toList qs){cs cs':List SV}(hf:Dd (λi=>pl[i]?) (zc.map SV.v) qs=some cs)(hi:cc cs cs')(hd:d<S.n)
  (next:RunT P C ops nd K rest (⟨rg++rG parts.toList,[],[],⟨some (d,.sv (.agg cs')),[],[]⟩⟩::acc) (S.set d (.sv (.agg cs')))):RunT P C ops nd K (⟨some d,.build T parts,ty,pos,aft,gd⟩::rest) acc S:=by
 refine RT.value hg (rG parts.toList) [] [] (.sv (.agg cs')) hd aE (λS' ht _ _ E a w h=>?_) next
 have hu:=tP.h;cases hT:P.underlying T with
 |none=>rw[hT]at hu;cases hu
 |some u=>
  rw[hT]at hu;cases u with
  |struct fs=>
   simp only at hu;have hz:(zeroValue T).run P w=.ok (.agg ⟨zc⟩) w:=mN.run (t:=⟨tP.hz⟩) w;obtain⟨us,h1,h2,_⟩:=Jc h (λi=>pl[i]?) hp ht (cells:=zc.map SV.v) (vs:=zc) (Nk _ zc) (List.all_eq_true.1 tP.o) hf;refine⟨.agg ⟨us⟩,?_,⟨us,Y,hi.holds h2⟩,iu⟩;have hm:(fs.mapM (λf=>do pure (f.offset,<-sizeOf f.type):Field->Sem (Nat×Nat))).run P w=.ok pl.toArray w:=by
    have:=Bz (P:=P) (w:=w) hu;rw[<-Array.toArray_toList (xs:=fs),List.mapM_toArray];rw[Sem.run_map,this];rfl
   have h1':Instr.fill (λi=>pl.toArray[i]?) ⟨zc⟩ (parts.toList.map λp=>(p.1,a.eval p.2))=some ⟨us⟩:=by simpa using h1
   simp only[execOp,Instr.build,underlying];simp only[Sem.run_bind,hz,Result.andThen_ok,run_program,hT,Sem.run_pure,Value.cells];have hm':(Array.mapM (λf=>do
     let __do_lift<-sizeOf f.type
     pure (f.offset,__do_lift)) fs:Sem _).run P w=.ok pl.toArray w:=hm
   simp only[hm',Result.andThen_ok];have e4:(Array.map (λx=>match x with|(i,x)=>(i,a.eval x)) parts).toList=parts.toList.map λp=>(p.1,a.eval p.2):=by simp
   simp only[e4,h1',Sem.run_pure,Result.andThen_ok]
  |_=>cases hu
theorem Pure.w{f:FuncId}{args args':List SV}{r:SV}(h:Pure P f args r)(hi:cc args' args):Pure P f args' r:=λM w vs hM hv=>h M w vs hM (hi.holds hv)
theorem F7.w{f:FuncId}{args args':List SV}{R:Row}(h:F7 P f args R)(hi:cc args' args):F7 P f args' R:=λM w vs hM hv=>h M w vs hM (hi.holds hv)
theorem RT.VI(hg:Gd ops S gd rg){m:Nat}[tS:gP P T E0 m]{c:Int}(hx:S.ev x=.sv (slc n (l.map e)))(hd:d<S.n)(hc:(l.length:Int)=c)
  (next:RunT P C ops nd K rest (⟨rg++bn x,[],[],⟨some (d,.sv (.v (.int .i64 c))),[],[]⟩⟩::acc) (S.set d (.sv (.v (.int .i64 c))))):RunT P C ops nd K (⟨some d,.call ⟨.builtin .len,#[x],#[T]⟩,ty,pos,aft,gd⟩::rest) acc S:=
 RT.len hg hx hd (by rw[List.length_map,hc];exact next)
theorem RT.XB(hg:Gd ops S gd rg){m:Nat}[tS:gP P T E0 m]{i:Nat}{E1:TypeId}{c:Int}(hx:S.ev x=.row i)(hR:S.r i=.live (TR E1 n e l))(hd:d<S.n)(hc:(l.length:Int)=c)
  (next:RunT P C ops nd K rest (⟨rg++bn x,[],[i],⟨some (d,.sv (.v (.int .i64 c))),[],[]⟩⟩::acc) (S.set d (.sv (.v (.int .i64 c))))):RunT P C ops nd K (⟨some d,.call ⟨.builtin .len,#[x],#[T]⟩,ty,pos,aft,gd⟩::rest) acc S:=
 RT.anW hg hx hR hd (by show RunT _ _ _ _ _ _ (⟨_,_,_,⟨some (d,.sv (.v (.int .i64 (l.length:Int)))),_,_⟩⟩::_) (S.set d (.sv (.v (.int .i64 (l.length:Int)))));rw[hc];exact next)
theorem RT.Sb(hg:Gd ops S gd rg)[tS:gP P T E0 n]{kk:IntKind}{i:Int}{a:α}(hx:S.ev x=.sv (slc n (l.map e)))(hy:S.ev y=.sv (.v (.int kk i)))(hd:d<S.n)(ha:cV l i=some a)
  (next:RunT P C ops nd K rest (⟨rg++(bn x++bn y),[],[],⟨some (d,.sv (ref (e a))),[],[]⟩⟩::acc) (S.set d (.sv (ref (e a))))):RunT P C ops nd K (⟨some d,.indexAddr T x y,ty,pos,aft,gd⟩::rest) acc S:=
 RT.indexAddr hg (e a) hx hy hd (zx ha).1 (by rw[List.getElem?_map,(zx ha).2];rfl) next
theorem RT.Jp(hg:Gd ops S gd rg)[tS:gP P T E0 n]{lo hi:Option Operand}(a b:Int)(hx:S.ev x=.sv (slc n (l.map e)))(hlo:Jd S 0 lo a)(hhi:Jd S l.length hi b)(hd:d<S.n)(h:HR l a b=some l')
  (next:RunT P C ops nd K rest (⟨rg++(bn x++(vV lo++vV hi)),[],[],⟨some (d,.sv (slc n (l'.map e))),[],[]⟩⟩::acc) (S.set d (.sv (slc n (l'.map e))))):RunT P C ops nd K (⟨some d,.slice T x lo hi none,ty,pos,aft,gd⟩::rest) acc S:=by
 obtain⟨h0,h1,h2,h3⟩:=Mo h;exact RT.slice hg hx a b hlo (by rw[List.length_map];exact hhi) hd h0 h1 (by rw[List.length_map];exact h2) _ (by rw[Ue,h3]) next
theorem RT.jo(hg:Gd ops S gd rg)[tS:gP P T E0 n][tE:nU P E0 n by_ zv]{len:Nat}{parts:Array (Nat×Operand)}{qs:List (Nat×List SV)}(hp:vU S parts.toList qs)(hd:d<S.n)
  (hc:yR 0 qs=true) (hl:qs.length=len) (hsz:(qs.all λq=>Nat.beq q.2.length n)=true) (hlen:Nat.ble (len*n) 16777216=true) (VD:(zv.cells.toList.all λv=>v.oneCell')=true) (n7:qs.map (·.2)=l.map e)
  (next:RunT P C ops nd K rest (⟨rg++rG parts.toList,[],[],⟨some (d,.sv (slc n (l.map e))),[],[]⟩⟩::acc) (S.set d (.sv (slc n (l.map e))))):RunT P C ops nd K (⟨some d,.buildSlice T len parts,ty,pos,aft,gd⟩::rest) acc S:=
 RT.buildSlice hg hp hd hc hl hsz (ae hlen) (List.all_eq_true.1 VD) n7 next
theorem RT.Nl(hg:Gd ops S gd rg)[tS:gP P T E0 n][tE:nU P E0 n by_ zv]{len:Nat}{parts:Array (Nat×Operand)}{qs:List (Nat×List SV)}(hp:vU S parts.toList qs)(hd:d<S.n)(sP:S.r d=.un)(Bq:d<1000)
  (hc:yR 0 qs=true) (hl:qs.length=len) (hsz:(qs.all λq=>Nat.beq q.2.length n)=true) (hlen:Nat.ble (len*n) 16777216=true) (VD:(zv.cells.toList.all λv=>v.oneCell')=true) (n7:qs.map (·.2)=l.map e)
  (next:RunT P C ops nd K rest (⟨rg++rG parts.toList,[],[d],⟨some (d,.row d),[],[(d,.live (TR E0 n e l))]⟩⟩::acc) ((AS.cK [(d,.live (TR E0 n e l))] S).set d (.row d))):RunT P C ops nd K (⟨some d,.buildSlice T len parts,ty,pos,aft,gd⟩::rest) acc S:=by
 refine RT.Pp hg hp hd sP Bq hc hl hsz (ae hlen) (List.all_eq_true.1 VD) (cells:=l.flatMap e) (by rw[n7,zy]) ?_;have:len=l.length:=by have h0:=congrArg List.length n7;simpa[hl]using h0
 rw[this];exact next
theorem RT.apN(hg:Gd ops S gd rg)[tS:gP P T E0 n][tE:nU P E0 n by_ zv](hx:S.ev x=.sv (.v (.slice none 0 0)))(hy:S.ev y=.sv (slc n (k.map e)))(hd:d<S.n)(sP:S.r d=.un)(Bq:d<1000)(h:lM by_ [] k=some l')
  (next:RunT P C ops nd K rest (⟨rg++(bn x++bn y),[],[d],⟨some (d,.row d),[],[(d,.live (TR E0 n e l'))]⟩⟩::acc) ((AS.cK [(d,.live (TR E0 n e l'))] S).set d (.row d))):RunT P C ops nd K (⟨some d,.call ⟨.builtin .append,#[x,y],#[T,T]⟩,ty,pos,aft,gd⟩::rest) acc S:=by
 obtain⟨h1,h2,rfl⟩:=BE h;exact RT.abv hg hx hy hd sP Bq (by simpa using h1) (by simpa using h2) _ (by simp[zy]) next
theorem RT.apR(hg:Gd ops S gd rg)[tS:gP P T E0 n][tE:nU P E0 n by_ zv]{i:Nat}(hx:S.ev x=.row i)(hR:S.r i=.live (TR E0 n e l))(hy:S.ev y=.sv (slc n (k.map e)))(hd:d<S.n)(sP:S.r d=.un)(Bq:d<1000)(h:lM by_ l k=some l')
  (next:RunT P C ops nd K rest (⟨rg++(bn x++bn y),[],[i,d],⟨some (d,.row d),[],[(i,.dead),(d,.live (TR E0 n e l'))]⟩⟩::acc) ((AS.cK [(i,.dead),(d,.live (TR E0 n e l'))] S).set d (.row d))):RunT P C ops nd K (⟨some d,.call ⟨.builtin .append,#[x,y],#[T,T]⟩,ty,pos,aft,gd⟩::rest) acc S:=by
 obtain⟨h1,h2,rfl⟩:=BE h;exact RT.abw hg hx hR hy hd sP Bq (by simpa using h1) (by simpa using h2) _ (by simp[zy]) next
theorem RT.abI(hg:Gd ops S gd rg)[tS:gP P T E0 n][tE:nU P E0 n by_ zv][el:EL e n]{i:Nat}(hx:S.ev x=.row i)(hR:S.r i=.live (TR E0 n e l))(hy:S.ev y=.sv (slc n (k.map e)))(hd:d<S.n)(sP:S.r d=.un)(Bq:d<1000)(h:lM by_ l k=some l')
  (next:RunT P C ops nd K rest (⟨rg++(bn x++bn y),[],[d,i],⟨some (d,.sv (slc n (l'.map e))),[],[(i,.dead),(d,.dead)]⟩⟩::acc) ((AS.cK [(i,.dead),(d,.dead)] S).set d (.sv (slc n (l'.map e))))):RunT P C ops nd K (⟨some d,.call ⟨.builtin .append,#[x,y],#[T,T]⟩,ty,pos,aft,gd⟩::rest) acc S:=by
 obtain⟨h1,h2,rfl⟩:=BE h;have hf:l.flatMap e++(k.map e).flatten=(l++k).flatMap e:=by simp[zy]
 exact RT.Uj hg (.row hx hR) hy hd sP Bq (by simpa using h1) (by simpa using h2) _ (rows':=(l++k).map e) (λ_ _ h _=>h) (by rw[hf];exact uP _) θ (by rw[hf];exact oS _) next
theorem Mq(zc:Array Value)(n:Nat)(hz:zc.size=n)(hn:0<n):∀m:Nat,(madeCells zc (m*n)).toList=(List.replicate m zc.toList).flatten
 |0=>by simp[madeCells]
 |m+1=>by
  have ih:=Mq zc n hz hn m;rw[List.replicate_succ',List.flatten_append,<-ih];simp only[madeCells,Array.toList_map,Array.toList_range,List.flatten_cons,List.flatten_nil,List.append_nil];rw[show(m+1)*n=m*n+n by rw[Nat.add_mul];omega,List.range_add,List.map_append,List.map_map];congr 1;apply List.ext_getElem?;intro i;rw[List.getElem?_map];rcases Nat.lt_or_ge i n with hi|hi
  ·rw[List.getElem?_range hi];simp only[Option.map_some,Function.comp];rw[hz,Nat.mul_comm m n,Nat.mul_add_mod,Nat.mod_eq_of_lt hi];rw[getElem!_pos zc i ξ,Array.getElem?_toList,Array.getElem?_eq_getElem ξ]
  rw[List.getElem?_eq_none (by simpa using hi),List.getElem?_eq_none aH];rfl
theorem Pz:∀{a b c d:List SV},cc a c->cc b d->cc (a++b) (c++d)
 |[],_,[],_,_,h=>h
 |_::_,_,_::_,_,h,h'=>⟨h.1,Pz h.2 h'⟩
 |[],_,_::_,_,h,_=>h.elim
 |_::_,_,[],_,h,_=>h.elim
theorem PA{zl:List Value}{zz:α}(hi:cc (zl.map SV.v) (e zz)):∀m:Nat,cc ((List.replicate m zl).flatten.map SV.v) ((List.replicate m zz).flatMap e)
 |0=>trivial
 |m+1=>by
  rw[List.replicate_succ,List.replicate_succ,List.flatten_cons,List.map_append,List.flatMap_cons];exact Pz hi (PA hi m)
theorem RT.vX(hg:Gd ops S gd rg)[tS:gP P T E0 n][tE:nU P E0 n by_ zv]{kl kc:IntKind}{c:Int}{zz:α}(hx:S.ev x=.sv (.v (.int kl c)))(hy:S.ev y=.sv (.v (.int kc c)))(hd:d<S.n)(sP:S.r d=.un)(Bq:d<1000)(hz:zv.cells.size=n)(hn:0<n)(hi:cc (zv.cells.toList.map SV.v) (e zz))(hm:Ln by_ c zz=some l')
  (next:RunT P C ops nd K rest (⟨rg++(bn x++bn y),[],[d],⟨some (d,.row d),[],[(d,.live (TR E0 n e l'))]⟩⟩::acc) ((AS.cK [(d,.live (TR E0 n e l'))] S).set d (.row d))):RunT P C ops nd K (⟨some d,.makeSlice T x y,ty,pos,aft,gd⟩::rest) acc S:=by
 obtain⟨h0,hroom,yQ,rfl⟩:=Xw hm;refine .inl ⟨_,[],[d],_,?_,next⟩;rintro S' hn' ht _ hr i a w L Q ho ⟨E,h⟩ hL;refine dj (C:=C) ho (hg.wanted h (λs hs=>ht s (List.mem_append_left _ hs)) Y) ?_;have h1:a.eval x=.int kl c:=by have h1:=h.ev x;rw[bT (λ_ h=>List.mem_append_right _ (List.mem_append_left _ h)) ht,hx]at h1;exact h1
 have h2:a.eval y=.int kc c:=by have h2:=h.ev y;rw[bT (λ_ h=>List.mem_append_right _ (List.mem_append_right _ h)) ht,hy]at h2;exact h2
 obtain⟨info,hii,hsz,hby,hzz⟩:=nU.info (P:=P) (E:=E0) (n:=n) (by_:=by_) (z:=zv);obtain⟨m,rfl⟩:=Int.eq_ofNat_of_zero_le h0;have hb':info.bytes*m<=281474976710656:=by
  rw[hby];have:((by_*m:Nat):Int)<=281474976710656:=by rw[Int.natCast_mul];exact hroom
  omega
 obtain⟨w',q1,q2,q3⟩:=run_make_full (P:=P) w 0 T E0 info zv n tS.u hii hzz hsz kl kc m hb' (by unfold maxLen;omega) (Nat.zero_le _);have hr':(execOp a.eval ⟨some d,.makeSlice T x y,ty,pos,aft,gd⟩).run P w=.ok (.value (.slice (some ⟨w.heap.size,0,none⟩) m m)) w':=by
  simp only[execOp,h1,h2];simp[q1]
 have So:S'.r d=.un:=by rw[hr d θ];exact sP
 have e0:(m:Int).toNat=m:=by simp
 have hall:SV.eJ E.M ((List.replicate m zz).flatMap e) (madeCells zv.cells (m*n)).toList:=by
  rw[Mq zv.cells n hz hn];exact cc.holds (l:=((List.replicate m zv.cells.toList).flatten.map SV.v)) (PA hi m) (Nk _ _)
 have hlen:(List.replicate (m:Int).toNat zz).length=m:=by simp
 refine dh (C:=C) aE hr' (hL _ _ ⟨_,(h.newRow So Bq [] none (.inl ⟨rfl,rfl⟩) (R':=TR E0 n e (List.replicate (m:Int).toNat zz)) (by show w'.ownsRow 0 E0 n _ (List.replicate (m:Int).toNat zz).length _;rw[hlen];exact q2) (by rw[e0];exact hall) (.inr (.inl rfl)) q3).put (d:=d) (x:=.row d) (v:=.slice (some ⟨w.heap.size,0,none⟩) m m) (by simp[AV.holds]) (by show d<S'.n;omega) ⟨λ_ e=>e.elim,λj e=>?_⟩⟩);cases e;show(AS.uI S' d _).r d≠_;rw[AS.jn];simp
theorem RT.Mr(hg:Gd ops S gd rg)[tS:gP P T E0 n][tE:nU P E0 n by_ zv]{kl kc:IntKind}{c:Int}(hx:S.ev x=.sv (.v (.int kl 0)))(hy:S.ev y=.sv (.v (.int kc c)))(hd:d<S.n)(sP:S.r d=.un)(Bq:d<1000)(h:Xu (α:=α) by_ c=some l')
  (next:RunT P C ops nd K rest (⟨rg++(bn x++bn y),[],[d],⟨some (d,.row d),[],[(d,.live (TR E0 n e l'))]⟩⟩::acc) ((AS.cK [(d,.live (TR E0 n e l'))] S).set d (.row d))):RunT P C ops nd K (⟨some d,.makeSlice T x y,ty,pos,aft,gd⟩::rest) acc S:=by
 obtain⟨h0,h1,h2,rfl⟩:=Xx h;exact RT.aj3 hg hx hy hd sP Bq h0 h1 h2 next
theorem RT.agl(hg:Gd ops S gd rg)[tS:gP P T E0 n]{i j:Nat}{E1:TypeId}{kk:IntKind}{v:Int}(hx:S.ev x=.row i)(hR:S.r i=.live (TR E1 n e l))(hy:S.ev y=.sv (.v (.int kk v)))(hd:d<S.n)(h:qK l v=some j)
  (next:RunT P C ops nd K rest (⟨rg++(bn x++bn y),[],[i],⟨some (d,.nK i (j*n)),[],[]⟩⟩::acc) (S.set d (.nK i (j*n)))):RunT P C ops nd K (⟨some d,.indexAddr T x y,ty,pos,aft,gd⟩::rest) acc S:=by
 obtain⟨h0,h1,h2⟩:=Xv h;exact RT.ixR hg (.row hx hR) hy hd h0 h1 (j*n) (by rw[h2];omega) next
theorem RT.agm(hg:Gd ops S gd rg)[tV:Af P T][el:EL e 1]{i j:Nat}{E1:TypeId}{a:α}{s:SV}(hx:S.ev x=.nK i (j*1))(hR:S.r i=.live (TR E1 1 e l))(ha:l[j]? =some a)(hs:e a=[s])(hd:d<S.n)
  (next:RunT P C ops nd K rest (⟨rg++bn x,[],[i],⟨some (d,.sv s),[],[]⟩⟩::acc) (S.set d (.sv s))):RunT P C ops nd K (⟨some d,.load T x,ty,pos,aft,gd⟩::rest) acc S:=by
 refine RT.ldR hg hx hR (s:=s) ?_ hd next
 have:=Px (e:=e) ha;rw[hs]at this;have h2:=congrArg (·[0]?) this;simpa[List.getElem?_take]using h2
theorem abJ(a:List SV)(k:Nat)(s:SV):a.set k s=qH a k [s]:=rfl
theorem RT.aks(hg:Gd ops S gd rg)[tV:Af P T][el:EL e 1]{i j:Nat}{E1:TypeId}{s:SV}[o1:One s](a:α)(hs:e a=[s])(hx:S.ev x=.nK i (j*1))(hR:S.r i=.live (TR E1 1 e l))(hy:S.ev y=.sv s)(h:stM l j a=some l')
  (next:RunT P C ops nd K rest (⟨rg++(bn x++bn y),[],[i],⟨none,[],[(i,.live (TR E1 1 e l'))]⟩⟩::acc) (AS.cK [(i,.live (TR E1 1 e l'))] S)):RunT P C ops nd K (⟨none,.store T x y,ty,pos,aft,gd⟩::rest) acc S:=by
 obtain⟨h1,rfl⟩:=Pu h;refine RT.stR hg hx hR hy (by show j*1+1<=l.length*1;omega) ((l.set j a).flatMap e) (by rw[abJ,<-hs];exact Py h1) ?_;have:(TR E1 1 e (l.set j a))=⟨E1,1,l.length,(l.set j a).flatMap e⟩:=by show Row.mk _ _ _ _=_;rw[List.length_set]
 rw[<-this];exact next
theorem RT.akt(hg:Gd ops S gd rg)[tA:Em P T n][el:EL e n]{i j:Nat}{E1:TypeId}(a:α)(hx:S.ev x=.nK i (j*n))(hR:S.r i=.live (TR E1 n e l))(hy:S.ev y=.sv (.agg (e a)))(h:stM l j a=some l')
  (next:RunT P C ops nd K rest (⟨rg++(bn x++bn y),[],[i],⟨none,[],[(i,.live (TR E1 n e l'))]⟩⟩::acc) (AS.cK [(i,.live (TR E1 n e l'))] S)):RunT P C ops nd K (⟨none,.store T x y,ty,pos,aft,gd⟩::rest) acc S:=by
 obtain⟨h1,rfl⟩:=Pu h;have o1:=el.one a;refine RT.an3 hg hx hR hy (el.len a) (by show j*n+n<=l.length*n;have:=Nat.mul_le_mul_right n h1;rw[Nat.succ_mul]at this;exact this) ((l.set j a).flatMap e) (Py h1) ?_;have:(TR E1 n e (l.set j a))=⟨E1,n,l.length,(l.set j a).flatMap e⟩:=by show Row.mk _ _ _ _=_;rw[List.length_set]
 rw[<-this];exact next
end steps
theorem cH{S:AS}{i n:Nat}{E1:TypeId}{α:Type}{e:α->List SV}{l:List α}[el:EL e n](hR:S.r i=.live (TR E1 n e l)):Bv S (S.vT i (slc n (l.map e))):=by
 rintro C a w ⟨E,h⟩;have hlen:l.length<=9223372036854775807:=by
  obtain⟨⟨vs,ho,hv⟩,_⟩:=h.rx i _ hR;rcases ho.2 with⟨_,q2⟩|⟨g',cap,cur,q1,_,q2,q3,q4,q5,q6⟩
  ·have q2:l.length=0:=q2;omega
  have q3:l.length<=cap:=q3;have:maxLen=9223372036854775807:=by decide
  omega
 exact h.vT hR (uP l) (by rw[List.length_map]) hlen (oS l) (λ_ _ h _=>h)
section control
variable {P:Program}{C:Ctx}{S:AS}{Q:Exit->AS->Prop}
theorem bU{A:Code}{J R:Type}{kB:J->Option R}{fA:(J->Option R)->Option R}{r:R}(h:cX kB fA=some r)(I:J->AS)
  (hA:fA kB=some r->Ok P C A S (aY (λS'=>∃j,kB j=some r/\Bv S' (I j)) Q)) (hQ:∀j,kB j=some r->Q .normal (I j)):Ok P C A S Q:=λa w hs=>by
 refine wpIn_mono (hA h a w hs) ?_;rintro e a' w' ⟨S',q,hh⟩;cases e with
 |normal=>obtain⟨j,h1,h2⟩:=q;exact⟨_,hQ j h1,h2 C a' w' hh⟩
 |_=>exact⟨S',q,hh⟩
theorem bM{A:Code}{X:Type}(I:X->AS)(p:X->Prop)(hA:Ok P C A S (aY (λS'=>∃j,p j/\Bv S' (I j)) Q))(hQ:∀j,p j->Q .normal (I j)):Ok P C A S Q:=λa w hs=>by
 refine wpIn_mono (hA a w hs) ?_;rintro e a' w' ⟨S',q,hh⟩;cases e with
 |normal=>obtain⟨j,h1,h2⟩:=q;exact⟨_,hQ j h1,h2 C a' w' hh⟩
 |_=>exact⟨S',q,hh⟩
theorem bN{c:Code}{T E:Type}{body:T->Option (T⊕E)}{s0:T}{e:E}(h:cm body s0=some e)(I:T->AS)(h0:Bv S (I s0))
  (round:∀(s:T) (y:T⊕E) (G:T->Prop),body s=some y->(∀s',y=.inl s'->G s')->(∀e',y=.inr e'->e'=e)->Ok P C c (I s) (aY (λS'=>∃s',G s'/\Bv S' (I s')) Q)):Ok P C (.loop c) S Q:=by
 obtain⟨n,hn⟩:=DD h;refine CE (ι:={x:T×Nat//vW body x.2 x.1=some e}) (λx=>I x.1.1) (λx=>x.1.2) ⟨(s0,n),hn⟩ h0 ?_;rintro⟨⟨s,m⟩,hm⟩;cases m with
 |zero=>cases hm
 |succ m=>
  cases hb:body s with
  |none=>simp only[vW,hb]at hm;cases hm
  |some y=>
   refine Ir (round s y (λs'=>vW body m s'=some e) hb ?_ ?_) ?_
   ·rintro s' rfl;simpa only[vW,hb]using hm
   ·rintro e' rfl;simp only[vW,hb]at hm;exact Option.some.inj hm
   intro ex S' q;cases ex with
   |normal=>obtain⟨s',h1,h2⟩:=q;exact⟨⟨(s',m),h1⟩,Nat.lt_succ_self m,h2⟩
   |_=>exact q
end control
end
section
open Go.RowKit
abbrev Str:=List UInt8
def bs(l:Str):ByteArray:=⟨⟨l⟩⟩
def Df(l:Str)(i:Int):Option Nat:=(cV l i).map UInt8.toNat
theorem abK(l:Str):(bs l).size=l.length:=rfl
theorem agn(l:Str)(i:Nat):(bs l)[i]? =l[i]? :=by
 rcases Nat.lt_or_ge i l.length with h|h
 ·rw[getElem?_pos (bs l) i h,List.getElem?_eq_getElem h];rfl
 rw[getElem?_neg (bs l) i (by rw[abK];omega),List.getElem?_eq_none h]
section steps
variable {P:Program}{C:Ctx}{ops:Array Oper}{S:AS}{nd:Bool}{K:List Ac->AS->Prop}{rest:List Oper}{acc:List Ac}
variable {gd:Option (Nat×Bool)}{rg:List Nat}{d:Nat}{ty:TypeId}{pos:String}{aft:Array Edge}{x y z:Operand}{T U E0:TypeId}
variable {l l' k:Str}
theorem RT.skV{op:Op}{j g:Nat}{b want:Bool}(h1:(ops[j]?).bind (·.dst)=some g)(h2:S.t g=.sv (.v (.bool b)))(hb:b≠want)(hd:d<S.n)
  (next:RunT P C ops nd K rest (⟨[g],[],[],⟨some (d,.sv (.v undef)),[],[]⟩⟩::acc) (S.set d (.sv (.v undef)))):RunT P C ops nd K (⟨some d,op,ty,pos,aft,some (j,want)⟩::rest) acc S:=by
 refine .inl ⟨[g],[],[],⟨some (d,.sv (.v undef)),[],[]⟩,?_,next⟩;rintro S' hn ht _ _ i a w L Q ho ⟨E,h⟩ hL;have hv:=h.tm g;rw[ht g θ,h2]at hv;have hv:a.tmps.getD g undef=.bool b:=hv;have LB:a.tmps[g]? =some (.bool b):=by
  rw[Array.getD_eq_getD_getElem?]at hv;cases e:a.tmps[g]? with
  |none=>rw[e]at hv;simp[undef]at hv
  |some x=>rw[e]at hv;simp at hv;rw[hv]
 have hw:Region.wanted ⟨some d,op,ty,pos,aft,some (j,want)⟩ (yielded ops a.tmps)=false:=by
  simp[Region.wanted,yielded,h1,LB,hb]
 simp only[wpOpIn,ho,hw];exact⟨λ_ _=>trivial,hL _ _ ⟨E,h.put (x:=.sv (.v undef)) (v:=undef) Y ξ ⟨λ_ h=>h.elim,λ_ h=>h.elim⟩⟩⟩
theorem RT.aku{op:Op}{j g:Nat}{want:Bool}(h1:(ops[j]?).bind (·.dst)=some g)(h2:S.t g=.sv (.v undef))(hd:d<S.n)
  (next:RunT P C ops nd K rest (⟨[g],[],[],⟨some (d,.sv (.v undef)),[],[]⟩⟩::acc) (S.set d (.sv (.v undef)))):RunT P C ops nd K (⟨some d,op,ty,pos,aft,some (j,want)⟩::rest) acc S:=by
 refine .inl ⟨[g],[],[],⟨some (d,.sv (.v undef)),[],[]⟩,?_,next⟩;rintro S' hn ht _ _ i a w L Q ho ⟨E,h⟩ hL;have hv:=h.tm g;rw[ht g θ,h2]at hv;have hv:a.tmps.getD g undef=undef:=hv;rw[Array.getD_eq_getD_getElem?]at hv;have hw:Region.wanted ⟨some d,op,ty,pos,aft,some (j,want)⟩ (yielded ops a.tmps)=false:=by
  cases e:a.tmps[g]? with
  |none=>simp[Region.wanted,yielded,h1,e]
  |some x=>
   rw[e]at hv;simp only[Option.getD_some]at hv;subst hv;simp[Region.wanted,yielded,h1,e,undef]
 simp only[wpOpIn,ho,hw];exact⟨λ_ _=>trivial,hL _ _ ⟨E,h.put (x:=.sv (.v undef)) (v:=undef) Y ξ ⟨λ_ h=>h.elim,λ_ h=>h.elim⟩⟩⟩
theorem RT.six(hg:Gd ops S gd rg)[tS:adO P T]{kk:IntKind}{i:Int}{c:Nat}(hx:S.ev x=.sv (.v (.string (bs l))))(hy:S.ev y=.sv (.v (.int kk i)))(hd:d<S.n)(h:Df l i=some c)
  (next:RunT P C ops nd K rest (⟨rg++(bn x++bn y),[],[],⟨some (d,.sv (.v (.int .u8 (c:Nat)))),[],[]⟩⟩::acc) (S.set d (.sv (.v (.int .u8 (c:Nat)))))):RunT P C ops nd K (⟨some d,.index T x y,ty,pos,aft,gd⟩::rest) acc S:=
 RT.R8 hg aE hx hy hd (λρ w h1 h2=>by
  unfold Df at h;cases hh:cV l i with
  |none=>rw[hh]at h;cases h
  |some b=>
   rw[hh]at h;obtain⟨q1,q2⟩:=zx hh;have q3:b.toNat=c:=Option.some.inj h;have q4:(bs l)[i.toNat]? =some b:=by rw[agn];exact q2
   simp[execOp,h1,h2,Instr.index,asIntOf,underlying,tS.h,q1,q4,q3]) next
end steps
section rows
variable {P:Program}{C:Ctx}{ops:Array Oper}{S:AS}{nd:Bool}{K:List Ac->AS->Prop}{rest:List Oper}{acc:List Ac}
variable {gd:Option (Nat×Bool)}{rg:List Nat}{d:Nat}{ty:TypeId}{pos:String}{aft:Array Edge}{x y z:Operand}{T U E0:TypeId}
variable {α:Type}{l l' k:List α}{e:α->List SV}{n by_:Nat}{zv:Value}
end rows
end
section
open Go.RowKit
def Dg{α:Type}(l l':List α):Option Unit:=if l'.length=l.length then some ()else none
theorem tj{α:Type}{l l':List α}{u:Unit}(h:Dg l l'=some u):l'.length=l.length:=by
 unfold Dg at h;split at h
 ·assumption
 cases h
def ckS{α:Type}(l:List α)(lo hi:Int):Option (Nat×Nat):=if 0<=lo/\lo<l.length/\lo<=hi/\hi<=l.length then some (lo.toNat,(hi-lo).toNat)else none
theorem XC{α:Type}{l:List α}{lo hi:Int}{o n:Nat}(h:ckS l lo hi=some (o,n)):0<=lo/\lo<l.length/\lo<=hi/\hi<=l.length/\lo.toNat=o/\(hi-lo).toNat=n:=by
 unfold ckS at h;split at h
 ·rename_i hh;obtain⟨q1,q2⟩:=Prod.mk.inj (Option.some.inj h);exact⟨hh.1,hh.2.1,hh.2.2.1,hh.2.2.2,q1,q2⟩
 cases h
def ckR(o n:Nat)(i:Int):Option Nat:=if 0<=i/\i<n then some (o+i.toNat)else none
theorem XD{o n j:Nat}{i:Int}(h:ckR o n i=some j):0<=i/\i<n/\o+i.toNat=j:=by
 unfold ckR at h;split at h
 ·rename_i hh;exact⟨hh.1,hh.2,Option.some.inj h⟩
 cases h
theorem cc.get:∀{l l':List SV} {k:Nat} {s':SV},cc l l'->l'[k]? =some s'->∃s,l[k]? =some s/\SV.imp s s'
 |x::_,y::_,0,_,h,e=>⟨x,Y,by simp at e;subst e;exact h.1⟩
 |_::l,_::l',k+1,_,h,e=>by simpa using cc.get (l:=l) (l':=l') h.2 (by simpa using e)
 |[],[],_,_,_,e=>by simp at e
 |[],_::_,_,_,h,_=>h.elim
 |_::_,[],_,_,h,_=>h.elim
theorem cc.len:∀{l l':List SV},cc l l'->l'.length=l.length
 |[],[],_=>rfl
 |_::_,_::_,h=>congrArg (· +1) (cc.len h.2)
 |[],_::_,h=>h.elim
 |_::_,[],h=>h.elim
theorem abL{α:Type}{e:α->List SV}{l:List α}{n:Nat}{M:Mem}{v:Value}(h:(slc n (l.map e)).h M v):l.length<=9223372036854775807:=by
 rcases h with⟨_,_,h⟩|⟨b,o,c,_,_,h,_⟩
 ·have:l=[]:=by simpa using h
  subst this;simp
 rwa[List.length_map]at h
theorem Iw{α:Type}{e:α->List SV}{l:List α}{n:Nat}{M:Mem}{v:Value}(h:(ref [slc n (l.map e)]).h M v):l.length<=9223372036854775807:=by
 obtain⟨b,o,_,h⟩:=h;obtain⟨y,_,_,h⟩:=h 0 _ Y;exact abL h
theorem DF{l:List Nat}{i:Nat}(h:l.length<=i):l.getD i 0=0:=by simp[List.getD,List.getElem?_eq_none h]
theorem BF{l:List Nat}{i:Nat}(h:i<l.length):l[i]? =some (l.getD i 0):=by simp[List.getD,h]
theorem mH{α:Type}{l:List α}{d:α}{i:Nat}(h:l.length<=i):l.getD i d=d:=by simp[List.getD,List.getElem?_eq_none h]
theorem ic{α:Type}{l:List α}{d:α}{i:Nat}(h:i<l.length):l[i]? =some (l.getD i d):=by simp[List.getD,h]
theorem Jq{α β:Type}(a:List α)(b:List β)(i:Nat)(h:i<=max a.length b.length):(i<max a.length b.length/\i<a.length/\i<b.length)\/(i<max a.length b.length/\i<a.length/\b.length<=i)\/(i<max a.length b.length/\a.length<=i/\i<b.length)\/i=max a.length b.length:=by omega
section steps
variable {P:Program}{C:Ctx}{ops:Array Oper}{S:AS}{nd:Bool}{K:List Ac->AS->Prop}{rest:List Oper}{acc:List Ac}
variable {gd:Option (Nat×Bool)}{rg:List Nat}{d:Nat}{ty:TypeId}{pos:String}{aft:Array Edge}{x y z:Operand}{T U E0:TypeId}
variable {α:Type}{l l' k:List α}{e:α->List SV}{n by_:Nat}{zv:Value}
theorem agp{E1:TypeId}(h:l'.length=l.length):(⟨E1,n,l.length,l'.flatMap e⟩:Row)=TR E1 n e l':=by show _=Row.mk _ _ _ _;rw[h]
theorem RT.agq(hg:Gd ops S gd rg){f:FuncId}[dm P f]{g:Operand}{xs:Array Operand}{at_:Array TypeId}{args:List AV}{E1:TypeId}{res:AV}(hp:Su P f args (TR E1 n e l) res (l'.flatMap e))(hlen:l'.length=l.length)(i:Nat)(hR:S.r i=.live (TR E1 n e l))(hrow:args.all AV.F5=true)(hres:res.F5=true)
  (hf:S.ev g=.sv (.v (.func (.func f) #[] #[]))) (hargs:DA S xs.toList (args.map (AV.Hi i))) (hd:d<S.n)
  (next:RunT P C ops nd K rest (⟨rg++(bn g++xs.toList.flatMap bn),[],[i],⟨some (d,res.Hi i),[],[(i,.live (TR E1 n e l'))]⟩⟩::acc) ((AS.cK [(i,.live (TR E1 n e l'))] S).set d (res.Hi i))):RunT P C ops nd K (⟨some d,.call ⟨.value g,xs,at_⟩,ty,pos,aft,gd⟩::rest) acc S:=
 RT.akd hg hp i hR hrow hres hf hargs hd (by rw[agp hlen];exact next)
theorem RT.akv(hg:Gd ops S gd rg)[tS:gP P T E0 n]{i o m:Nat}{E1:TypeId}{lo hi:Option Operand}(a b:Int)(hx:S.ev x=.row i)(hR:S.r i=.live (TR E1 n e l))(hlo:Jd S 0 lo a)(hhi:Jd S l.length hi b)(hd:d<S.n)(h:ckS l a b=some (o,m))
  (next:RunT P C ops nd K rest (⟨rg++(bn x++(vV lo++vV hi)),[],[i],⟨some (d,.vS i (o*n) m),[],[]⟩⟩::acc) (S.set d (.vS i (o*n) m))):RunT P C ops nd K (⟨some d,.slice T x lo hi none,ty,pos,aft,gd⟩::rest) acc S:=by
 obtain⟨h0,h1,h2,h3,h4,h5⟩:=XC h;exact RT.af5 hg (.row hx hR) a b hlo hhi hd h0 h1 h2 h3 (o*n) m (by rw[h4];omega) h5 next
theorem RT.agr(hg:Gd ops S gd rg){m:Nat}[tS:gP P T E0 m]{i o q:Nat}{c:Int}(hx:S.ev x=.vS i o q)(hd:d<S.n)(hc:(q:Int)=c)
  (next:RunT P C ops nd K rest (⟨rg++bn x,[],[],⟨some (d,.sv (.v (.int .i64 c))),[],[]⟩⟩::acc) (S.set d (.sv (.v (.int .i64 c))))):RunT P C ops nd K (⟨some d,.call ⟨.builtin .len,#[x],#[T]⟩,ty,pos,aft,gd⟩::rest) acc S:=
 RT.akc hg hx hd (by rw[hc];exact next)
theorem RT.PB(hg:Gd ops S gd rg)[tS:gP P T E0 n]{i o q j:Nat}{kk:IntKind}{v:Int}(hx:S.ev x=.vS i (o*n) q)(hy:S.ev y=.sv (.v (.int kk v)))(hd:d<S.n)(h:ckR o q v=some j)
  (next:RunT P C ops nd K rest (⟨rg++(bn x++bn y),[],[],⟨some (d,.nK i (j*n)),[],[]⟩⟩::acc) (S.set d (.nK i (j*n)))):RunT P C ops nd K (⟨some d,.indexAddr T x y,ty,pos,aft,gd⟩::rest) acc S:=by
 obtain⟨h0,h1,h2⟩:=XD h;exact RT.ixR hg (.vS hx) hy hd h0 h1 (j*n) (by rw[<-h2,Nat.add_mul]) next
end steps
def tq{S:Type}(body:Nat->S->Option S):Nat->S->Option S
 |0,s=>some s
 |n+1,s=>(tq body n s).bind (body n)
theorem tw{S:Type}{body:Nat->S->Option S}:∀{n:Nat} {s e:S},tq body n s=some e->∃st:Nat->S,st 0=s/\(∀k,k<n->body k (st k)=some (st (k+1)))/\st n=e
 |0,s,e,h=>⟨λ_=>s,Y,λ_ h=>by omega,Option.some.inj h⟩
 |n+1,s,e,h=>by
  obtain⟨e1,h1,h2⟩:=bind_some (x:=tq body n s) h;obtain⟨st,q1,q2,q3⟩:=tw h1;refine⟨λk=>if k=n+1 then e else st k,by simpa using q1,λk hk=>?_,by simp⟩;rcases Nat.lt_or_ge k n with hkn|hkn
  ·simpa[show k≠n+1 by omega,show k≠n by omega]using q2 k hkn
  obtain rfl:k=n:=by omega
  simpa[q3]using h2
theorem Ga{S:Type}{body:Nat->S->Option S}(st:Nat->S):∀(n:Nat),(∀k,k<n->body k (st k)=some (st (k+1)))->tq body n (st 0)=some (st n)
 |0,_=>rfl
 |n+1,h=>by
  rw[tq,Ga st n (λk hk=>h k ξ)];exact h n ξ
def w7{S E:Type}(body:Nat->S->Option (S⊕E)):Nat->S->Option (S⊕E)
 |0,s=>some (.inl s)
 |n+1,s=>(w7 body n s).bind λr=>match r with|.inl s'=>body n s'|.inr e=>some (.inr e)
theorem Ms{S E:Type}{body:Nat->S->Option (S⊕E)}:∀{n:Nat} {s:S} {r:S⊕E},w7 body n s=some r->∃(m:Nat) (st:Nat->S),st 0=s/\m<=n/\(∀k,k<m->body k (st k)=some (.inl (st (k+1))))/\((m=n/\r=.inl (st n))\/(m<n/\∃e,r=.inr e/\body m (st m)=some (.inr e)))
 |0,s,r,h=>⟨0,λ_=>s,Y,Nat.le_refl _,λ_ h=>by omega,.inl ⟨Y,(Option.some.inj h).symm⟩⟩
 |n+1,s,r,h=>by
  obtain⟨r1,h1,h2⟩:=bind_some (x:=w7 body n s) h;obtain⟨m,st,q1,q2,q3,q4⟩:=Ms h1;rcases q4 with⟨rfl,rfl⟩|⟨q4,e,rfl,q5⟩
  ·simp only at h2;cases r with
   |inr e=>exact⟨m,st,q1,by omega,q3,.inr ⟨by omega,e,Y,h2⟩⟩
   |inl s'=>
    refine⟨m+1,λk=>if k=m+1 then s' else st k,by simpa using q1,Nat.le_refl _,λk hk=>?_,.inl ⟨Y,by simp⟩⟩;rcases Nat.lt_or_ge k m with hkn|hkn
    ·simpa[show k≠m+1 by omega,show k≠m by omega]using q3 k hkn
    obtain rfl:k=m:=by omega
    simpa using h2
  simp only at h2;cases h2;exact⟨m,st,q1,by omega,q3,.inr ⟨by omega,e,Y,q5⟩⟩
theorem Nm{S E:Type}{body:Nat->S->Option (S⊕E)}{n m:Nat}{st:Nat->S}{r:S⊕E}(h:∀k,k<m->body k (st k)=some (.inl (st (k+1))))(hr:(m=n/\r=.inl (st n))\/(m<n/\∃e,r=.inr e/\body m (st m)=some (.inr e))){k:Nat}(hk:k<n)(hkm:k<=m):
  ∃y,body k (st k)=some y/\(∀s',y=.inl s'->k+1<=m/\s'=st (k+1))/\∀e',y=.inr e'->r=.inr e':=by
 rcases Nat.lt_or_ge k m with q|q
 ·exact⟨_,h k q,(λs' e=>⟨q,by cases e;rfl⟩),(λe' e=>by cases e)⟩
 obtain rfl:k=m:=by omega
 rcases hr with⟨rfl,_⟩|⟨_,e,rfl,he⟩
 ·omega
 exact⟨_,he,(λs' e=>by cases e),(λe' q=>by cases q;rfl)⟩
theorem PC{S E:Type}{body:Nat->S->Option (S⊕E)}{n m:Nat}{st:Nat->S}{r:S⊕E}(hr:(m=n/\r=.inl (st n))\/(m<n/\∃e,r=.inr e/\body m (st m)=some (.inr e)))(h:n<=m):r=.inl (st n):=by
 rcases hr with⟨_,q⟩|⟨q,_⟩
 ·exact q
 omega
theorem Mt{S E:Type}{body:Nat->S->Option (S⊕E)}{n:Nat}{s:S}{r:S⊕E}(h:w7 body n s=some r):∃(m:Nat) (st:Nat->S),st 0=s/\(∀k,k<n->k<=m->∃y,body k (st k)=some y/\(∀s',y=.inl s'->k+1<=m/\s'=st (k+1))/\∀e',y=.inr e'->r=.inr e')/\(n<=m->r=.inl (st n)):=by
 obtain⟨m,st,q1,q2,q3,q4⟩:=Ms h;exact⟨m,st,q1,λk hk hm=>Nm q3 q4 hk hm,λhn=>PC q4 hn⟩
end
section
open Go.RowKit
def XE(es:List (Value×Value)):SV where
 h M v:=∃b,v=.map (some b)/\M b 0=some (.tuple ⟨es.map λp=>.tuple #[p.1,p.2]⟩)
 mono hM h:=by obtain⟨b,e,h⟩:=h;exact⟨b,e,hM _ _ _ h⟩
class Ul (P:Program) (T:TypeId) (k:outParam TypeId) (e:outParam TypeId):Prop where
 u:P.underlying T=some (.map k e)
def Mu(k:IntKind)(n:Int):List (Value×Value)->Option Value
 |[]=>none
 |(.int k' m,v)::l=>if k=k' then(if n=m then some v else Mu k n l)else none
 |_::_=>none
theorem Dh{k:IntKind}{n:Int}{v:Value}:∀(es:List MapEntry) (i:Nat),Mu k n (es.map λe=>(e.key,e.val))=some v->∃j,Instr.findNow (.int k) (.int k n) es i=some (some (j,v))
 |[],_,h=>by simp[Mu]at h
 |⟨key,val,born⟩::es,i,h=>by
  cases key with
  |int k' m=>
   simp only[List.map_cons,Mu]at h;by_cases hk:k=k'
   ·subst hk;rw[if_pos rfl]at h;by_cases hn:n=m
    ·subst hn;rw[if_pos rfl]at h;cases h;exact⟨i,by simp[Instr.findNow,Instr.sameNow]⟩
    rw[if_neg hn]at h;obtain⟨j,hj⟩:=Dh es (i+1) h;have hb:(n==m)=false:=by simp[hn]
    exact⟨j,by simp[Instr.findNow,Instr.sameNow,hb,hj]⟩
   rw[if_neg hk]at h;cases h
  |_=>simp[Mu]at h
theorem Um:∀(l:List (Value×Value)) (m:List MapEntry),l.map (λp=>Value.tuple #[p.1,p.2])=m.map (λe=>Value.tuple #[e.key,e.val])->m.map (λe=>(e.key,e.val))=l
 |[],[],_=>rfl
 |[],_::_,h=>by simp at h
 |_::_,[],h=>by simp at h
 |(p,q)::l,e::m,h=>by
  simp only[List.map_cons,List.cons.injEq,Value.tuple.injEq]at h⊢;refine⟨?_,Um l m h.2⟩;have:=h.1;simp at this;rw[this.1,this.2]
theorem XF{es:Array MapEntry}{l:List (Value×Value)}(h:(⟨l.map λp=>.tuple #[p.1,p.2]⟩:Array Value)=abo es):es.toList.map (λe=>(e.key,e.val))=l:=
 Um l es.toList (congrArg Array.toList h)
theorem getM{P:Program}{w:World}{r:Nat}{es:Array MapEntry}{ck:Nat}(hb:w.heap[r]? =some (.map es ck)):(getObj r).run P w=.ok (.map es ck) w:=by simp[getObj,Sem.run,hb]
theorem aos{P:Program}{w:World}{r:Nat}{es:Array MapEntry}{ck:Nat}(o:Obj)(hb:w.heap[r]? =some (.map es ck)):(setObj r o).run P w=.ok () {w with heap:=w.heap.setIfInBounds r o}:=by simp[setObj,Sem.run,hb]
theorem ckM{P:Program}{w:World}{kt:TypeId}{k:IntKind}[tI:uJ P kt k]{n:Int}(bb:Bool):(Instr.checkKey bb 10000 kt (.int k n)).run P w=.ok () w:=by
 rw[show(10000:Nat)=9999+1 from rfl,Instr.checkKey];simp[underlying,tI.h]
theorem XG{M:Mem}:∀l:List Value,SV.eJ M (l.map SV.v) l
 |[]=>trivial
 |_::l=>⟨Y,XG l⟩
section steps
variable {P:Program}{C:Ctx}{ops:Array Oper}{S:AS}{nd:Bool}{K:List Ac->AS->Prop}{rest:List Oper}{acc:List Ac}
variable {gd:Option (Nat×Bool)}{rg:List Nat}{d:Nat}{ty:TypeId}{pos:String}{aft:Array Edge}{x y z:Operand}{T U E0:TypeId}
theorem RT.look(hg:Gd ops S gd rg){kt et:TypeId}[tM:Ul P T kt et]{k:IntKind}[tI:uJ P kt k]{es:List (Value×Value)}{n:Int}(cs:List Value)(hx:S.ev x=.sv (XE es))(hy:S.ev y=.sv (.v (.int k n)))(hl:Mu k n es=some (.agg ⟨cs⟩))(hd:d<S.n)
  (next:RunT P C ops nd K rest (⟨rg++(bn x++bn y),[],[],⟨some (d,.sv (.agg (cs.map SV.v))),[],[]⟩⟩::acc) (S.set d (.sv (.agg (cs.map SV.v))))):RunT P C ops nd K (⟨some d,.lookup T x y false,ty,pos,aft,gd⟩::rest) acc S:=
 RT.value hg (bn x++bn y) [] [] (.sv (.agg (cs.map SV.v))) hd aE (λS' ht _ _ E a w h=>by
  have h1:=h.ev x;rw[bT (λ_ h=>List.mem_append_left _ h) ht,hx]at h1;have h2:a.eval y=.int k n:=by have h2:=h.ev y;rw[bT (λ_ h=>List.mem_append_right _ h) ht,hy]at h2;exact h2
  obtain⟨b,e,hb⟩:=h1;obtain⟨ms,ck,hm,he⟩:=h.dH _ _ _ hb;have he:=XF he;rw[<-he]at hl;obtain⟨j,hj⟩:=Dh ms.toList 0 hl;refine⟨.agg ⟨cs⟩,?_,⟨cs,Y,?_⟩,iu⟩
  ·have hfk:(Instr.findKey kt (.int k n) ms.toList).run P w=.ok (some (j,.agg ⟨cs⟩)) w:=by
    simp[Instr.findKey,underlying,tI.h,hj]
   simp[execOp,e,h2,Instr.lookup,underlying,tM.u,getM hm,ckM,hfk]
  exact XG cs) next
def BG(w:World)(ms:Array MapEntry)(ck:Nat):World:=w.alloc (.map ms ck)
theorem Gb(w:World)(ms:Array MapEntry)(ck:Nat):(BG w ms ck).heap[w.heap.size]? =some (.map ms ck):=by show(w.heap.push _)[w.heap.size]? =_;simp
theorem run_make{d:Option Nat}{ρ:Operand->Value}{w:World}:(execOp ρ ⟨d,.makeMap T none,ty,pos,aft,none⟩).run P w=.ok (.value (.map (some w.heap.size))) (BG w #[] 0):=by
 simp[execOp,Instr.makeMap,BG]
theorem Iy{d:Option Nat}{kt et:TypeId}[tM:Ul P T kt et]{k:IntKind}[tI:uJ P kt k]{ρ:Operand->Value}{w:World}{ms:Array MapEntry}{ck:Nat}{n:Int}{v:Value}(hx:ρ x=.map (some w.heap.size))(hy:ρ y=.int k n)(hz:ρ z=v)
  (hf:Instr.findNow (.int k) (.int k n) ms.toList 0=some none):(execOp ρ ⟨d,.insert T x y z,ty,pos,aft,none⟩).run P (BG w ms ck)=.ok .skip (BG w (ms.push ⟨.int k n,v,ck⟩) (ck+1)):=by
 have hfk:(Instr.findKey kt (.int k n) ms.toList).run P (BG w ms ck)=.ok none (BG w ms ck):=by
  simp[Instr.findKey,underlying,tI.h,hf]
 have aou:∀o:Obj,{BG w ms ck with heap:=(BG w ms ck).heap.setIfInBounds w.heap.size o}=w.alloc o:=by
  intro o;simp only[BG,World.alloc];congr 1;apply Array.ext';simp
 simp[execOp,hx,hy,hz,Instr.mapUpdate,underlying,tM.u,getM (Gb w ms ck),ckM,hfk,aos _ (Gb w ms ck)];exact aou _
theorem Iz{d:Option Nat}{z0:Value}[tP:l9 P U [(0,1)] [z0]]{ρ:Operand->Value}{w:World}{v:Value}(hx:ρ x=v)(hv:v.oneCell'=true):(execOp ρ ⟨d,.build U #[(0,x)],ty,pos,aft,none⟩).run P w=.ok (.value (.agg #[v])) w:=by
 have hu:=tP.h;cases hT:P.underlying U with
 |none=>rw[hT]at hu;cases hu
 |some u=>
  rw[hT]at hu;cases u with
  |struct fs=>
   simp only at hu;have hz:(zeroValue U).run P w=.ok (.agg ⟨[z0]⟩) w:=mN.run (t:=⟨tP.hz⟩) w;have hm:(fs.mapM (λf=>do pure (f.offset,<-sizeOf f.type):Field->Sem (Nat×Nat))).run P w=.ok #[(0,1)] w:=by
    have:=Bz (P:=P) (w:=w) hu;rw[<-Array.toArray_toList (xs:=fs),List.mapM_toArray];rw[Sem.run_map,this];rfl
   simp only[execOp,Instr.build,underlying];simp only[Sem.run_bind,hz,Result.andThen_ok,run_program,hT,Sem.run_pure,Value.cells];have hm':(Array.mapM (λf=>do
     let __do_lift<-sizeOf f.type
     pure (f.offset,__do_lift)) fs:Sem _).run P w=.ok #[(0,1)] w:=hm
   simp only[hm',Result.andThen_ok];have h1':Instr.fill (λi=>(#[(0,1)]:Array (Nat×Nat))[i]?) ⟨[z0]⟩ [(0,v)]=some ⟨[v]⟩:=by
    simp[Instr.fill,nB hv]
    try rfl
   have e4:(Array.map (λx=>match x with|(i,x)=>(i,ρ x)) #[(0,x)]).toList=[(0,v)]:=by simp[hx]
   simp only[e4,h1',Sem.run_pure,Result.andThen_ok]
  |_=>cases hu
theorem abM{Q:Exit->AS->Prop}{id:Nat}{T U kt et t0:TypeId}[tM:Ul P T kt et]{k:IntKind}[tI:uJ P kt k]{z0:Value}[tP:l9 P U [(0,1)] [z0]]{f1 f2 f3 f4:FuncId}{n1 n2 n3 n4:Int}
  {p0 p1 p2 p3 p4 p5 p6 p7 p8 p9 p10:String} {a0 a1 a2 a3 a4 a5 a6 a7 a8 a9 a10:Array Edge} {u1 u2 u3 u4 u5 u6 u7 u8 u9:TypeId} (hn:7<=S.n)
  (h2:Instr.findNow (.int k) (.int k n2) [⟨.int k n1,.agg #[.func (.func f1) #[] #[]],0⟩] 0=some none)
  (h3:Instr.findNow (.int k) (.int k n3) [⟨.int k n1,.agg #[.func (.func f1) #[] #[]],0⟩,⟨.int k n2,.agg #[.func (.func f2) #[] #[]],1⟩] 0=some none)
  (h4:Instr.findNow (.int k) (.int k n4) [⟨.int k n1,.agg #[.func (.func f1) #[] #[]],0⟩,⟨.int k n2,.agg #[.func (.func f2) #[] #[]],1⟩,⟨.int k n3,.agg #[.func (.func f3) #[] #[]],2⟩] 0=some none)
  (hQ:∀S',S'.t 0=.sv (XE [(.int k n1,.agg #[.func (.func f1) #[] #[]]),(.int k n2,.agg #[.func (.func f2) #[] #[]]),(.int k n3,.agg #[.func (.func f3) #[] #[]]),(.int k n4,.agg #[.func (.func f4) #[] #[]])])->Q .normal S'):
  Ok P C (.region id #[⟨some 1,.makeMap T none,t0,p0,a0,none⟩,⟨some 2,.build U #[(0,.func f1)],u1,p1,a1,none⟩,⟨none,.insert T (.tmp 1) (.const (.int k n1)) (.tmp 2),u2,p2,a2,none⟩,
   ⟨some 3,.build U #[(0,.func f2)],u3,p3,a3,none⟩,⟨none,.insert T (.tmp 1) (.const (.int k n2)) (.tmp 3),u4,p4,a4,none⟩,⟨some 4,.build U #[(0,.func f3)],u5,p5,a5,none⟩,⟨none,.insert T (.tmp 1) (.const (.int k n3)) (.tmp 4),u6,p6,a6,none⟩,
   ⟨some 5,.build U #[(0,.func f4)],u7,p7,a7,none⟩,⟨none,.insert T (.tmp 1) (.const (.int k n4)) (.tmp 5),u8,p8,a8,none⟩,⟨some 6,.move (.tmp 1),u9,p9,a9,none⟩,⟨some 0,.assign (.tmp 6),u9,p10,a10,none⟩] false) S Q:=by
 rintro a w ⟨E,h⟩;refine wpIn_region ?_;show wpOpsIn _ _ _ _ _ [0,1,2,3,4,5,6,7,8,9,10] a w;have hS:∀(S:AS) (d:Nat) (x:AV),(S.set d x).n=S.n:=λ_ _ _=>rfl;rw[wpOpsIn_cons];refine dj (C:=C) rfl rfl (dh (C:=C) aE run_make ?_);have g1:=h.put (d:=1) (x:=.sv (.v (.map (some w.heap.size)))) (v:=.map (some w.heap.size)) Y ξ iu;show wpOpsIn _ _ _ _ _ _ (a.put (some 1) _) _;generalize a.put (some 1) (.map (some w.heap.size))=b1 at g1⊢;rw[wpOpsIn_cons];refine dj (C:=C) rfl rfl (dh (C:=C) aE (Iz rfl rfl) ?_);have g2:=g1.put (d:=2) (x:=.sv (.v (.agg #[.func (.func f1) #[] #[]]))) (v:=.agg #[.func (.func f1) #[] #[]]) Y (by rw[hS];omega) iu;show wpOpsIn _ _ _ _ _ _ (b1.put (some 2) (.agg #[.func (.func f1) #[] #[]])) _;generalize b1.put (some 2) (.agg #[.func (.func f1) #[] #[]])=b2 at g2⊢;rw[wpOpsIn_cons];refine dj (C:=C) rfl rfl (dh (C:=C) aE (Iy (k:=k) (n:=n1) (v:=.agg #[.func (.func f1) #[] #[]]) (g2.ev (.tmp 1)) rfl (g2.ev (.tmp 2)) rfl) ?_);show wpOpsIn _ _ _ _ _ _ (b2.put none undef) _;rw[show b2.put none undef=b2 from rfl,wpOpsIn_cons];refine dj (C:=C) rfl rfl (dh (C:=C) aE (Iz rfl rfl) ?_)
 have g3:=g2.put (d:=3) (x:=.sv (.v (.agg #[.func (.func f2) #[] #[]]))) (v:=.agg #[.func (.func f2) #[] #[]]) Y (by rw[hS,hS];omega) iu;show wpOpsIn _ _ _ _ _ _ (b2.put (some 3) (.agg #[.func (.func f2) #[] #[]])) _;generalize b2.put (some 3) (.agg #[.func (.func f2) #[] #[]])=b3 at g3⊢;rw[wpOpsIn_cons];refine dj (C:=C) rfl rfl (dh (C:=C) aE (Iy (k:=k) (n:=n2) (v:=.agg #[.func (.func f2) #[] #[]]) (g3.ev (.tmp 1)) rfl (g3.ev (.tmp 3)) (by simpa using h2)) ?_);show wpOpsIn _ _ _ _ _ _ (b3.put none undef) _;rw[show b3.put none undef=b3 from rfl,wpOpsIn_cons];refine dj (C:=C) rfl rfl (dh (C:=C) aE (Iz rfl rfl) ?_);have g4:=g3.put (d:=4) (x:=.sv (.v (.agg #[.func (.func f3) #[] #[]]))) (v:=.agg #[.func (.func f3) #[] #[]]) Y (by rw[hS,hS,hS];omega) iu;show wpOpsIn _ _ _ _ _ _ (b3.put (some 4) (.agg #[.func (.func f3) #[] #[]])) _;generalize b3.put (some 4) (.agg #[.func (.func f3) #[] #[]])=b4 at g4⊢;rw[wpOpsIn_cons];refine dj (C:=C) rfl rfl (dh (C:=C) aE (Iy (k:=k) (n:=n3) (v:=.agg #[.func (.func f3) #[] #[]]) (g4.ev (.tmp 1)) rfl (g4.ev (.tmp 4)) (by simpa using h3)) ?_);show wpOpsIn _ _ _ _ _ _ (b4.put none undef) _
 rw[show b4.put none undef=b4 from rfl,wpOpsIn_cons];refine dj (C:=C) rfl rfl (dh (C:=C) aE (Iz rfl rfl) ?_);have g5:=g4.put (d:=5) (x:=.sv (.v (.agg #[.func (.func f4) #[] #[]]))) (v:=.agg #[.func (.func f4) #[] #[]]) Y (by rw[hS,hS,hS,hS];omega) iu;show wpOpsIn _ _ _ _ _ _ (b4.put (some 5) (.agg #[.func (.func f4) #[] #[]])) _;generalize b4.put (some 5) (.agg #[.func (.func f4) #[] #[]])=b5 at g5⊢;rw[wpOpsIn_cons];refine dj (C:=C) rfl rfl (dh (C:=C) aE (Iy (k:=k) (n:=n4) (v:=.agg #[.func (.func f4) #[] #[]]) (g5.ev (.tmp 1)) rfl (g5.ev (.tmp 5)) (by simpa using h4)) ?_);show wpOpsIn _ _ _ _ _ _ (b5.put none undef) _;have e1:b5.eval (.tmp 1)=.map (some w.heap.size):=g5.ev (.tmp 1);obtain⟨ms,hms⟩:∃ms:Array MapEntry,(((((#[]:Array MapEntry).push ⟨.int k n1,.agg #[.func (.func f1) #[] #[]],0⟩).push ⟨.int k n2,.agg #[.func (.func f2) #[] #[]],0+1⟩).push ⟨.int k n3,.agg #[.func (.func f3) #[] #[]],0+1+1⟩).push ⟨.int k n4,.agg #[.func (.func f4) #[] #[]],0+1+1+1⟩)=ms:=⟨_,Y⟩;rw[hms];have hno:∀o,E.M w.heap.size o=none:=λo=>by
  cases e:E.M w.heap.size o with
  |none=>rfl
  |some v=>have:=nL h.dH e;omega
 have g6:=g5.grow (M':=λb o=>if b=w.heap.size/\o=0 then some (.tuple (abo ms))else E.M b o) (w':=BG w ms (0+1+1+1+1)) (λb o v e=>by
   have:b≠w.heap.size:=by rintro rfl;rw[hno o]at e;cases e
   simp[this,e]) (λb o v e=>by
   by_cases hb:b=w.heap.size/\o=0
   ·exact .inr ξ
   ·simp only[if_neg hb]at e;exact .inl e) (λb o v e=>by
   by_cases hb:b=w.heap.size/\o=0
   ·simp only[if_pos hb]at e;obtain⟨rfl,rfl⟩:=hb;cases e;exact⟨ms,_,Gb w ms _,Y⟩
   simp only[if_neg hb]at e;have hlt:=nL h.dH e;refine(h.dH b o v e).same ?_;show(w.heap.push _)[b]? =_;rw[Array.getElem?_push,if_neg ξ]) ((Below.refl _ _).alloc (Nat.le_refl _) _)
 have hm:∀X:Env,X.M w.heap.size 0=some (.tuple (abo ms))->(XE [(.int k n1,.agg #[.func (.func f1) #[] #[]]),(.int k n2,.agg #[.func (.func f2) #[] #[]]),(.int k n3,.agg #[.func (.func f3) #[] #[]]),(.int k n4,.agg #[.func (.func f4) #[] #[]])]).h X.M (.map (some w.heap.size)):=λX hX=>by
  refine⟨_,Y,?_⟩;rw[hX,<-hms];rfl
 have g7:=g6.put (d:=6) (x:=.sv (.v (.map (some w.heap.size)))) (v:=.map (some w.heap.size)) Y (by rw[hS,hS,hS,hS,hS];omega) iu;rw[show b5.put none undef=b5 from rfl,wpOpsIn_cons];refine dj (C:=C) rfl rfl (dh (C:=C) aE (r:=.ok (.value (.map (some w.heap.size))) _) (by show Result.ok (Next.value (b5.eval (.tmp 1))) _=_;rw[e1]) ?_);show wpOpsIn _ _ _ _ _ _ (b5.put (some 6) (.map (some w.heap.size))) _;generalize b5.put (some 6) (.map (some w.heap.size))=b6 at g7⊢;have e6:b6.eval (.tmp 6)=.map (some w.heap.size):=g7.ev (.tmp 6);have g8:=g7.put (d:=0) (x:=.sv (XE [(.int k n1,.agg #[.func (.func f1) #[] #[]]),(.int k n2,.agg #[.func (.func f2) #[] #[]]),(.int k n3,.agg #[.func (.func f3) #[] #[]]),(.int k n4,.agg #[.func (.func f4) #[] #[]])])) (v:=.map (some w.heap.size)) (hm _ θ) (by rw[hS,hS,hS,hS,hS,hS];omega) iu;rw[wpOpsIn_cons];refine dj (C:=C) rfl rfl (dh (C:=C) aE (r:=.ok (.value (.map (some w.heap.size))) _) (by show Result.ok (Next.value (b6.eval (.tmp 6))) _=_;rw[e6]) ?_);show wpOpsIn _ _ _ _ _ _ (b6.put (some 0) (.map (some w.heap.size))) _;rw[wpOpsIn];exact⟨_,hQ _ Y,_,g8⟩
end steps
section scope
variable {P:Program}{C:Ctx}{S:AS}{Q:Exit->AS->Prop}
end scope
end
end Go.Fw
namespace Go.Proofs.YtningmnklfpfjaaGreat
section
open Go.Fw
open Go.Proofs
noncomputable abbrev af:=Tryz.prog
instance:uJ af 2 .i64:=⟨by kernel_rfl⟩
instance:Af af 2:=⟨by kernel_rfl,by kernel_rfl⟩
instance:nU af 2 1 8 (.int .i64 0):=⟨by kernel_rfl,by rfl,by decide,by decide⟩
instance:uJ af 3 .i64:=⟨by kernel_rfl⟩
instance:Af af 3:=⟨by kernel_rfl,by kernel_rfl⟩
instance:mN af 3 (.int .i64 0):=⟨by kernel_rfl⟩
instance:nU af 3 1 8 (.int .i64 0):=⟨by kernel_rfl,by rfl,by decide,by decide⟩
instance:Nb af 4:=⟨by kernel_rfl⟩
instance:Af af 4:=⟨by kernel_rfl,by kernel_rfl⟩
instance:mN af 4 (.bool false):=⟨by kernel_rfl⟩
instance:uJ af 5 .u8:=⟨by kernel_rfl⟩
instance:adO af 9:=⟨by kernel_rfl⟩
instance:Af af 22:=⟨by kernel_rfl,by kernel_rfl⟩
instance:mN af 22 (.slice none 0 0):=⟨by kernel_rfl⟩
instance:nU af 22 1 24 (.slice none 0 0):=⟨by kernel_rfl,by rfl,by decide,by decide⟩
instance:gP af 22 23 1:=⟨by kernel_rfl,by kernel_rfl⟩
instance:Af af 23:=⟨by kernel_rfl,by kernel_rfl⟩
instance:mN af 23 (.slice none 0 0):=⟨by kernel_rfl⟩
instance:nU af 23 1 24 (.slice none 0 0):=⟨by kernel_rfl,by rfl,by decide,by decide⟩
instance:gP af 23 43 4:=⟨by kernel_rfl,by kernel_rfl⟩
instance:Em af 25 4:=⟨by kernel_rfl,by kernel_rfl⟩
instance:Mm af 25:=⟨λw=>⟨3,Em.size (T:=25) (n:=4) w⟩⟩
instance:mN af 25 (.agg #[.int .i64 0,.slice none 0 0,.slice none 0 0,.slice none 0 0]):=⟨by kernel_rfl⟩
instance:l9 af 25 [(0,1),(1,1),(2,1),(3,1)] [.int .i64 0,.slice none 0 0,.slice none 0 0,.slice none 0 0]:=⟨by kernel_rfl,by kernel_rfl,by rfl⟩
instance:Eg af 25 0 0 3:=⟨by kernel_rfl⟩
instance:Eg af 25 1 1 22:=⟨by kernel_rfl⟩
instance:Eg af 25 2 2 22:=⟨by kernel_rfl⟩
instance:Eg af 25 3 3 23:=⟨by kernel_rfl⟩
instance:gP af 26 38 2:=⟨by kernel_rfl,by kernel_rfl⟩
instance:Af af 30:=⟨by kernel_rfl,by kernel_rfl⟩
instance:nU af 38 2 16 (.agg #[.int .i64 0,.int .i64 0]):=⟨by kernel_rfl,by rfl,by decide,by decide⟩
instance:Eg af 38 0 0 3:=⟨by kernel_rfl⟩
instance:Eg af 38 1 1 3:=⟨by kernel_rfl⟩
instance:Af af 39:=⟨by kernel_rfl,by kernel_rfl⟩
instance:mN af 39 (.slice none 0 0):=⟨by kernel_rfl⟩
instance:gP af 39 130 1:=⟨by kernel_rfl,by kernel_rfl⟩
instance:Em af 41 2:=⟨by kernel_rfl,by kernel_rfl⟩
instance:Mm af 41:=⟨λw=>⟨1,Em.size (T:=41) (n:=2) w⟩⟩
instance:mN af 41 (.agg #[.bool false,.slice none 0 0]):=⟨by kernel_rfl⟩
instance:nU af 41 2 32 (.agg #[.bool false,.slice none 0 0]):=⟨by kernel_rfl,by rfl,by decide,by decide⟩
instance:l9 af 41 [(0,1),(1,1)] [.bool false,.slice none 0 0]:=⟨by kernel_rfl,by kernel_rfl,by rfl⟩
instance:Eg af 41 0 0 4:=⟨by kernel_rfl⟩
instance:Eg af 41 1 1 39:=⟨by kernel_rfl⟩
instance:Em af 43 4:=⟨by kernel_rfl,by kernel_rfl⟩
instance:mN af 43 (.agg #[.bool false,.slice none 0 0,.bool false,.slice none 0 0]):=⟨by kernel_rfl⟩
instance:nU af 43 4 64 (.agg #[.bool false,.slice none 0 0,.bool false,.slice none 0 0]):=⟨by kernel_rfl,by rfl,by decide,by decide⟩
instance:l9 af 43 [(0,2),(2,2)] [.bool false,.slice none 0 0,.bool false,.slice none 0 0]:=⟨by kernel_rfl,by kernel_rfl,by rfl⟩
instance:Eg af 43 0 0 41:=⟨by kernel_rfl⟩
instance:Eg af 43 1 2 41:=⟨by kernel_rfl⟩
instance:Af af 45:=⟨by kernel_rfl,by kernel_rfl⟩
instance:gP af 45 3 1:=⟨by kernel_rfl,by kernel_rfl⟩
instance:l9 af 59 [(0,4),(4,1)] [.int .i64 0,.slice none 0 0,.slice none 0 0,.slice none 0 0,.slice none 0 0]:=⟨by kernel_rfl,by kernel_rfl,by rfl⟩
instance:Eg af 59 0 0 25:=⟨by kernel_rfl⟩
instance:Eg af 59 1 4 45:=⟨by kernel_rfl⟩
instance:l9 af 79 [(0,1),(1,1),(2,1),(3,1),(4,1)] [.bool false,.int .i64 0,.slice none 0 0,.slice none 0 0,.slice none 0 0]:=⟨by kernel_rfl,by kernel_rfl,by rfl⟩
instance:Eg af 79 0 0 4:=⟨by kernel_rfl⟩
instance:Eg af 79 1 1 3:=⟨by kernel_rfl⟩
instance:Eg af 79 2 2 22:=⟨by kernel_rfl⟩
instance:Eg af 79 3 3 45:=⟨by kernel_rfl⟩
instance:Eg af 79 4 4 22:=⟨by kernel_rfl⟩
instance:Af af 89:=⟨by kernel_rfl,by kernel_rfl⟩
instance:Em af 97 4:=⟨by kernel_rfl,by kernel_rfl⟩
instance:mN af 97 (.agg #[.int .i64 0,.int .i64 0,.int .i64 0,.int .i64 0]):=⟨by kernel_rfl⟩
instance:l9 af 97 [(0,1),(1,1),(2,1),(3,1)] [.int .i64 0,.int .i64 0,.int .i64 0,.int .i64 0]:=⟨by kernel_rfl,by kernel_rfl,by rfl⟩
instance:Eg af 97 0 0 3:=⟨by kernel_rfl⟩
instance:Eg af 97 1 1 3:=⟨by kernel_rfl⟩
instance:Eg af 97 2 2 3:=⟨by kernel_rfl⟩
instance:Eg af 97 3 3 3:=⟨by kernel_rfl⟩
instance:Af af 106:=⟨by kernel_rfl,by kernel_rfl⟩
instance:Af af 117:=⟨by kernel_rfl,by kernel_rfl⟩
instance:nU af 117 1 24 (.slice none 0 0):=⟨by kernel_rfl,by rfl,by decide,by decide⟩
instance:gP af 117 2 1:=⟨by kernel_rfl,by kernel_rfl⟩
instance:Em af 124 1:=⟨by kernel_rfl,by kernel_rfl⟩
instance:mN af 124 (.agg #[.nilFunc]):=⟨by kernel_rfl⟩
instance:l9 af 124 [(0,1)] [.nilFunc]:=⟨by kernel_rfl,by kernel_rfl,by rfl⟩
instance:Eg af 124 0 0 89:=⟨by kernel_rfl⟩
instance:uJ af 128 .u64:=⟨by kernel_rfl⟩
instance:Af af 128:=⟨by kernel_rfl,by kernel_rfl⟩
instance:uJ af 130 .u32:=⟨by kernel_rfl⟩
instance:Af af 130:=⟨by kernel_rfl,by kernel_rfl⟩
instance:nU af 130 1 4 (.int .u32 0):=⟨by kernel_rfl,by rfl,by decide,by decide⟩
instance:gP af 155 22 1:=⟨by kernel_rfl,by kernel_rfl⟩
instance:gP af 156 117 1:=⟨by kernel_rfl,by kernel_rfl⟩
instance:gP af 167 41 2:=⟨by kernel_rfl,by kernel_rfl⟩
instance:Af af 174:=⟨by kernel_rfl,by kernel_rfl⟩
instance:l9 af 176 [(0,1)] [.nilFunc]:=⟨by kernel_rfl,by kernel_rfl,by rfl⟩
instance:Eg af 176 0 0 174:=⟨by kernel_rfl⟩
instance:Ul af 177 5 176:=⟨by kernel_rfl⟩
instance:uJ af 179 .u64:=⟨by kernel_rfl⟩
instance:Af af 186:=⟨by kernel_rfl,by kernel_rfl⟩
instance:mN af 186 (.nilFunc):=⟨by kernel_rfl⟩
instance:dm af 9:=⟨by kernel_rfl⟩
instance:dm af 10:=⟨by kernel_rfl⟩
instance:dm af 11:=⟨by kernel_rfl⟩
instance:dm af 12:=⟨by kernel_rfl⟩
instance:dm af 13:=⟨by kernel_rfl⟩
instance:dm af 14:=⟨by kernel_rfl⟩
instance:dm af 15:=⟨by kernel_rfl⟩
instance:dm af 16:=⟨by kernel_rfl⟩
instance:dm af 17:=⟨by kernel_rfl⟩
instance:dm af 18:=⟨by kernel_rfl⟩
instance:dm af 19:=⟨by kernel_rfl⟩
instance:dm af 20:=⟨by kernel_rfl⟩
instance:dm af 21:=⟨by kernel_rfl⟩
instance:dm af 22:=⟨by kernel_rfl⟩
instance:dm af 23:=⟨by kernel_rfl⟩
instance:dm af 24:=⟨by kernel_rfl⟩
instance:dm af 27:=⟨by kernel_rfl⟩
instance:dm af 28:=⟨by kernel_rfl⟩
instance:dm af 29:=⟨by kernel_rfl⟩
instance:dm af 33:=⟨by kernel_rfl⟩
instance:dm af 34:=⟨by kernel_rfl⟩
instance:dm af 35:=⟨by kernel_rfl⟩
instance:dm af 37:=⟨by kernel_rfl⟩
instance:dm af 38:=⟨by kernel_rfl⟩
instance:dm af 40:=⟨by kernel_rfl⟩
instance:dm af 41:=⟨by kernel_rfl⟩
instance:dm af 42:=⟨by kernel_rfl⟩
instance:dm af 45:=⟨by kernel_rfl⟩
instance:dm af 47:=⟨by kernel_rfl⟩
instance:dm af 50:=⟨by kernel_rfl⟩
instance:dm af 52:=⟨by kernel_rfl⟩
instance:dm af 53:=⟨by kernel_rfl⟩
instance:dm af 54:=⟨by kernel_rfl⟩
instance:dm af 55:=⟨by kernel_rfl⟩
instance:dm af 56:=⟨by kernel_rfl⟩
instance:dm af 57:=⟨by kernel_rfl⟩
instance:dm af 58:=⟨by kernel_rfl⟩
instance:dm af 59:=⟨by kernel_rfl⟩
instance:dm af 60:=⟨by kernel_rfl⟩
instance:dm af 61:=⟨by kernel_rfl⟩
instance:dm af 62:=⟨by kernel_rfl⟩
instance:dm af 63:=⟨by kernel_rfl⟩
instance:dm af 64:=⟨by kernel_rfl⟩
instance:dm af 65:=⟨by kernel_rfl⟩
instance:dm af 66:=⟨by kernel_rfl⟩
instance:dm af 67:=⟨by kernel_rfl⟩
instance:dm af 68:=⟨by kernel_rfl⟩
instance:dm af 69:=⟨by kernel_rfl⟩
instance:dm af 70:=⟨by kernel_rfl⟩
instance:dm af 71:=⟨by kernel_rfl⟩
instance:dm af 72:=⟨by kernel_rfl⟩
instance:dm af 74:=⟨by kernel_rfl⟩
instance:dm af 75:=⟨by kernel_rfl⟩
instance:dm af 76:=⟨by kernel_rfl⟩
instance:dm af 77:=⟨by kernel_rfl⟩
instance:dm af 78:=⟨by kernel_rfl⟩
instance:dm af 79:=⟨by kernel_rfl⟩
instance:dm af 80:=⟨by kernel_rfl⟩
instance:dm af 81:=⟨by kernel_rfl⟩
instance:dm af 82:=⟨by kernel_rfl⟩
instance:dm af 83:=⟨by kernel_rfl⟩
instance:dm af 84:=⟨by kernel_rfl⟩
instance:dm af 86:=⟨by kernel_rfl⟩
instance:dm af 88:=⟨by kernel_rfl⟩
instance:dm af 89:=⟨by kernel_rfl⟩
instance:dm af 90:=⟨by kernel_rfl⟩
instance:dm af 91:=⟨by kernel_rfl⟩
instance:dm af 93:=⟨by kernel_rfl⟩
instance:dm af 94:=⟨by kernel_rfl⟩
instance:dm af 95:=⟨by kernel_rfl⟩
instance:dm af 96:=⟨by kernel_rfl⟩
instance:dm af 97:=⟨by kernel_rfl⟩
instance:dm af 98:=⟨by kernel_rfl⟩
instance:dm af 99:=⟨by kernel_rfl⟩
instance:dm af 100:=⟨by kernel_rfl⟩
instance:dm af 101:=⟨by kernel_rfl⟩
instance:dm af 102:=⟨by kernel_rfl⟩
instance:dm af 103:=⟨by kernel_rfl⟩
instance:dm af 104:=⟨by kernel_rfl⟩
instance:dm af 105:=⟨by kernel_rfl⟩
instance:dm af 106:=⟨by kernel_rfl⟩
instance:dm af 107:=⟨by kernel_rfl⟩
instance:dm af 108:=⟨by kernel_rfl⟩
instance:dm af 109:=⟨by kernel_rfl⟩
instance:dm af 110:=⟨by kernel_rfl⟩
instance:dm af 111:=⟨by kernel_rfl⟩
instance:dm af 112:=⟨by kernel_rfl⟩
instance:dm af 113:=⟨by kernel_rfl⟩
instance:dm af 114:=⟨by kernel_rfl⟩
instance:dm af 115:=⟨by kernel_rfl⟩
instance:dm af 116:=⟨by kernel_rfl⟩
instance:dm af 117:=⟨by kernel_rfl⟩
instance:dm af 118:=⟨by kernel_rfl⟩
instance:dm af 120:=⟨by kernel_rfl⟩
instance:dm af 121:=⟨by kernel_rfl⟩
instance:dm af 122:=⟨by kernel_rfl⟩
instance:dm af 123:=⟨by kernel_rfl⟩
instance:dm af 124:=⟨by kernel_rfl⟩
instance:dm af 125:=⟨by kernel_rfl⟩
instance:dm af 127:=⟨by kernel_rfl⟩
instance:dm af 128:=⟨by kernel_rfl⟩
instance:dm af 129:=⟨by kernel_rfl⟩
instance:dm af 130:=⟨by kernel_rfl⟩
instance:dm af 132:=⟨by kernel_rfl⟩
instance:dm af 133:=⟨by kernel_rfl⟩
instance:dm af 134:=⟨by kernel_rfl⟩
instance:dm af 135:=⟨by kernel_rfl⟩
instance:dm af 136:=⟨by kernel_rfl⟩
instance:dm af 137:=⟨by kernel_rfl⟩
instance:dm af 139:=⟨by kernel_rfl⟩
instance:dm af 140:=⟨by kernel_rfl⟩
instance:dm af 141:=⟨by kernel_rfl⟩
instance:dm af 142:=⟨by kernel_rfl⟩
instance:dm af 143:=⟨by kernel_rfl⟩
instance:dm af 144:=⟨by kernel_rfl⟩
instance:dm af 145:=⟨by kernel_rfl⟩
instance:dm af 146:=⟨by kernel_rfl⟩
instance:dm af 147:=⟨by kernel_rfl⟩
instance:dm af 148:=⟨by kernel_rfl⟩
instance:dm af 149:=⟨by kernel_rfl⟩
instance:dm af 150:=⟨by kernel_rfl⟩
instance:dm af 151:=⟨by kernel_rfl⟩
instance:dm af 152:=⟨by kernel_rfl⟩
instance:dm af 153:=⟨by kernel_rfl⟩
instance:dm af 154:=⟨by kernel_rfl⟩
instance:dm af 155:=⟨by kernel_rfl⟩
instance:dm af 156:=⟨by kernel_rfl⟩
instance:dm af 157:=⟨by kernel_rfl⟩
instance:dm af 158:=⟨by kernel_rfl⟩
instance:dm af 159:=⟨by kernel_rfl⟩
instance:dm af 160:=⟨by kernel_rfl⟩
instance:dm af 161:=⟨by kernel_rfl⟩
instance:dm af 162:=⟨by kernel_rfl⟩
instance:dm af 163:=⟨by kernel_rfl⟩
instance:dm af 164:=⟨by kernel_rfl⟩
instance:dm af 165:=⟨by kernel_rfl⟩
instance:dm af 166:=⟨by kernel_rfl⟩
instance:dm af 167:=⟨by kernel_rfl⟩
instance:dm af 168:=⟨by kernel_rfl⟩
instance:dm af 169:=⟨by kernel_rfl⟩
instance:dm af 170:=⟨by kernel_rfl⟩
instance:dm af 171:=⟨by kernel_rfl⟩
instance:dm af 172:=⟨by kernel_rfl⟩
instance:dm af 173:=⟨by kernel_rfl⟩
instance:dm af 174:=⟨by kernel_rfl⟩
instance:dm af 175:=⟨by kernel_rfl⟩
instance:dm af 176:=⟨by kernel_rfl⟩
instance:dm af 177:=⟨by kernel_rfl⟩
instance:dm af 178:=⟨by kernel_rfl⟩
instance:dm af 179:=⟨by kernel_rfl⟩
instance:dm af 180:=⟨by kernel_rfl⟩
instance:dm af 181:=⟨by kernel_rfl⟩
instance:dm af 182:=⟨by kernel_rfl⟩
instance:dm af 183:=⟨by kernel_rfl⟩
instance:dm af 184:=⟨by kernel_rfl⟩
instance:dm af 185:=⟨by kernel_rfl⟩
instance:dm af 186:=⟨by kernel_rfl⟩
instance:dm af 187:=⟨by kernel_rfl⟩
instance:dm af 188:=⟨by kernel_rfl⟩
instance:dm af 189:=⟨by kernel_rfl⟩
instance:dm af 190:=⟨by kernel_rfl⟩
instance:dm af 191:=⟨by kernel_rfl⟩
instance:dm af 192:=⟨by kernel_rfl⟩
instance:dm af 193:=⟨by kernel_rfl⟩
instance:dm af 194:=⟨by kernel_rfl⟩
instance:dm af 195:=⟨by kernel_rfl⟩
instance:dm af 196:=⟨by kernel_rfl⟩
instance:dm af 197:=⟨by kernel_rfl⟩
instance:dm af 198:=⟨by kernel_rfl⟩
instance:dm af 199:=⟨by kernel_rfl⟩
instance:dm af 200:=⟨by kernel_rfl⟩
instance:dm af 201:=⟨by kernel_rfl⟩
instance:dm af 202:=⟨by kernel_rfl⟩
instance:dm af 203:=⟨by kernel_rfl⟩
instance:dm af 204:=⟨by kernel_rfl⟩
instance:dm af 205:=⟨by kernel_rfl⟩
instance:dm af 206:=⟨by kernel_rfl⟩
instance:dm af 207:=⟨by kernel_rfl⟩
instance:dm af 208:=⟨by kernel_rfl⟩
instance:dm af 209:=⟨by kernel_rfl⟩
instance:dm af 210:=⟨by kernel_rfl⟩
instance:dm af 211:=⟨by kernel_rfl⟩
instance:dm af 212:=⟨by kernel_rfl⟩
instance:dm af 213:=⟨by kernel_rfl⟩
instance:dm af 214:=⟨by kernel_rfl⟩
instance:dm af 215:=⟨by kernel_rfl⟩
theorem mixed:Tryz.prog.follows .mixedOrders=true:=by kernel_rfl
end
section
open Go.Fw Go.RowKit
def snap(W:World):Mem:=λb o=>(W.cell? ⟨b,o,none⟩).filter Value.oneCell'
theorem abN(W:World):(snap W).dH W:=λ_ _ _ e=>by
 obtain⟨e1,e2⟩:=Option.filter_eq_some_iff.1 e;exact .of e1 e2
theorem abO{W:World}{b o:Nat}{v:Value}(h:W.cell? ⟨b,o,none⟩=some v)(h1:v.oneCell'=true):snap W b o=some v:=Option.filter_eq_some_iff.2 ⟨h,h1⟩
class Lp (P:Program) (T:TypeId) {α:Type} (e:α->List SV) (ok:outParam (α->Prop)) (sz:outParam (α->Nat)):Prop where
 h:∀{H:Type} (enc:TypeId×Value->H) (W:World) (fuel:Nat) (cs:List Value) (d:DataW H) (p:List MemPlace),DataW.trod enc P W 0 (λ_=>true) true fuel T cs=some (d,p)->
  ∃x:α,ok x/\SV.eJ (snap W) (e x) cs/\(∀v∈cs,v.oneCell'=true)/\sz x<=Rows.uptoBulk d
section opn
variable {P:Program}{T:TypeId}
theorem XH{k:IntKind}{n:Int}(h:(Lit.int k n).wf=true):k.min<=n/\n<=k.max:=by simpa[Lit.wf]using h
instance[t:uJ P T .i64]:Lp P T bO (λx=>-9223372036854775808<=x/\x<=9223372036854775807) (λ_=>1):=⟨λenc W fuel cs d p h=>by
 obtain⟨n,rfl,hx,hw⟩:=DataW.trod_int t.h h;cases hx;have:=XH hw;exact⟨n,by simpa[IntKind.min,IntKind.max,IntKind.signed,IntKind.bits]using this,⟨rfl,ak⟩,by simp[Value.oneCell'],by simp[Rows.uptoBulk]⟩⟩
theorem akw{k:IntKind}{M:Nat}{e:Nat->List SV}(t:uJ P T k)(hk:k.min=0/\k.max=(M:Int)-1)(he:∀n:Nat,e n=[.v (.int k (n:Int))]):Lp P T e (λx=>x<M) (λ_=>1):=⟨λenc W fuel cs d p h=>by
 obtain⟨n,rfl,hx,hw⟩:=DataW.trod_int t.h h;cases hx;have:=XH hw;rw[hk.1,hk.2]at this;obtain⟨m,rfl⟩:=Int.eq_ofNat_of_zero_le this.1;exact⟨m,by omega,by rw[he];exact⟨Y,ak⟩,by simp[Value.oneCell'],by simp[Rows.uptoBulk]⟩⟩
instance[t:uJ P T .u32]:Lp P T bk (λx=>x<4294967296) (λ_=>1):=akw t η (λ_=>rfl)
instance[t:Nb P T]:Lp P T eB (λ_=>True) (λ_=>1):=⟨λenc W fuel cs d p h=>by
 obtain⟨b,rfl,hx⟩:=DataW.trod_bool t.h h;cases hx;exact⟨b,ak,⟨rfl,ak⟩,by simp[Value.oneCell'],by simp[Rows.uptoBulk]⟩⟩
theorem PD{H α:Type}(sz:α->Nat):∀(xs:List α) (ds:List (DataW H)),xs.length=ds.length->(∀(i:Nat) (x:α) (d:DataW H),xs[i]? =some x->ds[i]? =some d->sz x<=Rows.uptoBulk d)->(xs.map sz).sum<=Rows.uptoBulkAll ds
 |[],[],_,_=>by simp
 |x::xs,d::ds,hl,h=>by
  have h1:=h 0 x d Y Y;have h2:=PD sz xs ds (by simpa using hl) (λi x d e1 e2=>h (i+1) x d (by simpa using e1) (by simpa using e2));simp only[List.map_cons,List.sum_cons,Rows.uptoBulkAll];omega
 |[],_::_,hl,_=>by simp at hl
 |_::_,[],hl,_=>by simp at hl
instance{E:TypeId}{n:Nat}{α:Type}{e:α->List SV}{ok:α->Prop}{sz:α->Nat}{by_:Nat}{zv:Value}[t:gP P T E n][tE:nU P E n by_ zv][el:EL e n][o:Lp P E e ok sz]:Lp P T (eS n e) (λl=>l.length<=9223372036854775807/\∀x∈l,ok x) (λl=>(l.map sz).sum+1):=⟨λ{H} enc W fuel cs d p h=>by
 have hcell:P.cellsOf E=n:=by
  have h1:=t.size W;simp only[sizeOf,typeInfo]at h1;cases hi:P.info? E with
  |none=>simp[hi]at h1
  |some i=>simp[hi]at h1;simp[Program.cellsOf,hi,h1]
 have hml:maxLen=9223372036854775807:=by decide
 rcases Deep.open_slice t.u h with⟨rfl,hx⟩|⟨a,len,cap,m,n',D,Pl,rfl,_,hl,hm,hmm,hx,hel⟩
 ·cases hx;exact⟨[],⟨by simp,by simp⟩,⟨.inl ⟨none,rfl,rfl⟩,ak⟩,by simp[Value.oneCell'],by simp[Rows.uptoBulk]⟩
 cases hx;rw[if_pos rfl]at hmm;subst hmm;have one:∀i,i<m->∃x,ok x/\sz x<=Rows.uptoBulk (D i)/\∃cs',W.cells? 0 (a.add (i*n)) n=some cs'/\SV.eJ (snap W) (e x) cs'/\(∀v∈cs',v.oneCell'=true):=by
  intro i hi;obtain⟨cs',h1,h2⟩:=hel i hi;obtain⟨x,q1,q2,q3,q4⟩:=o.h enc W n' cs' (D i) (Pl i) h2;rw[hcell]at h1;exact⟨x,q1,q4,cs',h1,q2,q3⟩
 obtain⟨xs,hxl,hxs⟩:∃xs:List α,xs.length=len/\∀(i:Nat) (x:α),xs[i]? =some x->ok x/\sz x<=Rows.uptoBulk (D i)/\∃cs',W.cells? 0 (a.add (i*n)) n=some cs'/\SV.eJ (snap W) (e x) cs'/\(∀v∈cs',v.oneCell'=true):=by
  clear h hm hel;have:∀k,k<=len->∃xs:List α,xs.length=k/\∀(i:Nat) (x:α),xs[i]? =some x->ok x/\sz x<=Rows.uptoBulk (D i)/\∃cs',W.cells? 0 (a.add (i*n)) n=some cs'/\SV.eJ (snap W) (e x) cs'/\(∀v∈cs',v.oneCell'=true):=by
   intro k
   induction k with
   |zero=>intro _;exact⟨[],rfl,by simp⟩
   |succ k ih=>
    intro hk;obtain⟨xs,h1,h2⟩:=ih ξ;obtain⟨x,hx⟩:=one k ξ;refine⟨xs++[x],by simp[h1],λi y hy=>?_⟩;rcases Nat.lt_or_ge i k with hi|hi
    ·exact h2 i y (by rwa[List.getElem?_append_left ξ]at hy)
    rw[List.getElem?_append_right ξ]at hy;have hi2:i=k:=by
     rcases Nat.lt_or_ge (i-xs.length) 1 with q|q
     ·omega
     rw[List.getElem?_eq_none (by simpa using q)]at hy;cases hy
    subst hi2;rw[h1,Nat.sub_self]at hy;simp at hy;subst hy;exact hx
  exact this len (Nat.le_refl _)
 refine⟨xs,⟨by omega,λx hx=>?_⟩,⟨?_,ak⟩,by simp[Value.oneCell'],?_⟩
 ·obtain⟨i,hi,rfl⟩:=List.getElem_of_mem hx;exact(hxs i _ (List.getElem?_eq_getElem hi)).1
 ·by_cases h0:xs=[]
  ·subst h0;simp at hxl;subst hxl;by_cases hc0:m=0
   ·subst hc0;exact .inl ⟨_,rfl,rfl⟩
   obtain⟨x,_,_,cs',g1,g2,_⟩:=one 0 ξ;obtain⟨_,g3,g4⟩:=World.cells?_some g1;have hn:0<n:=tE.p;have g5:=g4 0 hn;obtain⟨b,o',spot⟩:=a;have XI:spot=none:=by
    have:∃v,W.cell? (((⟨b,o',spot⟩:Addr).add (0*n)).add 0)=some v:=by
     rw[g5];exact⟨_,List.getElem?_eq_getElem ξ⟩
    obtain⟨v,hv⟩:=this;simpa[Addr.add]using World.cell?_spot hv
   subst XI;refine .inr ⟨b,o',m,rfl,by simp,by simp,λi row hr=>by simp at hr⟩
  have Di:0<len:=by
   rcases Nat.eq_zero_or_pos len with hz|hz
   ·exact absurd (List.eq_nil_of_length_eq_zero ξ) h0
   exact hz
  have hn:0<n:=tE.p;obtain⟨x,_,_,cs',g1,g2,_⟩:=one 0 ξ;obtain⟨_,g3,g4⟩:=World.cells?_some g1;have g5:=g4 0 hn;obtain⟨b,o',spot⟩:=a;have XI:spot=none:=by
   have:∃v,W.cell? (((⟨b,o',spot⟩:Addr).add (0*n)).add 0)=some v:=by
    rw[g5];exact⟨_,List.getElem?_eq_getElem ξ⟩
   obtain⟨v,hv⟩:=this;simpa[Addr.add]using World.cell?_spot hv
  subst XI;refine .inr ⟨b,o',m,by rw[List.length_map,hxl],by rw[List.length_map];omega,by rw[List.length_map];omega,λi row hr=>?_⟩;rw[List.getElem?_map]at hr;cases hx:xs[i]? with
  |none=>rw[hx]at hr;cases hr
  |some y=>
   rw[hx]at hr;have hr:e y=row:=Option.some.inj hr;subst hr;obtain⟨_,_,cs2,k1,k2,k3⟩:=hxs i y hx;obtain⟨_,k4,k5⟩:=World.cells?_some k1;refine⟨el.len y,λk s hk=>?_⟩;obtain⟨u,hu,hs⟩:=k2.get hk;have hkn:k<n:=by have:=(List.getElem?_eq_some_iff.1 hu).1;omega
   have k6:=k5 k hkn;rw[jA,jA,hu]at k6;exact⟨u,abO k6 (k3 u (List.mem_of_getElem? hu)),k3 u (List.mem_of_getElem? hu),hs⟩
 have hb:Rows.uptoBulk (DataW.slice ((List.range len).map D) ((List.range (m-len)).map λj=>D (len+j)))=Rows.uptoBulkAll ((List.range len).map D)+Rows.uptoBulkAll ((List.range (m-len)).map λj=>D (len+j))+1:=rfl;rw[hb];have:=PD sz xs ((List.range len).map D) (by simp[hxl]) (λi x d e1 e2=>by
  have hi:i<len:=by have:=(List.getElem?_eq_some_iff.1 e1).1;omega
  simp[hi]at e2;subst e2;exact(hxs i x e1).2.1)
 omega⟩
class StN (P:Program) (T:TypeId) (k:outParam Nat):Prop where
 h:(match P.underlying T with|some (.struct fs)=>some fs.size|_=>none)=some k
theorem IA{k:Nat}[s:StN P T k]{H:Type}{enc:TypeId×Value->H}{W:World}{fuel:Nat}{cs:List Value}{d:DataW H}{p:List MemPlace}(h:DataW.trod enc P W 0 (λ_=>true) true fuel T cs=some (d,p)):
  ∃(xs:List (DataW H×List MemPlace)) (n:Nat),d=.agg (xs.map (·.1))/\cs.length=P.cellsOf T/\xs.length=k/\∀(i off:Nat) (U:TypeId),Eg P T i off U->DataW.trod enc P W 0 (λ_=>true) true n U ((cs.drop off).take (P.cellsOf U))=xs[i]? :=by
 have hs:=s.h;cases hT:P.underlying T with
 |none=>rw[hT]at hs;cases hs
 |some u=>
  rw[hT]at hs;cases u with
  |struct fs=>
   have hk:fs.size=k:=Option.some.inj hs;obtain⟨xs,n,_,hx,hl,hn,hf⟩:=DataW.trod_struct hT h;refine⟨xs,n,(Prod.mk.inj hx).1,hl,by omega,λi off U F=>?_⟩;have hF:=F.h;rw[hT]at hF;simp only at hF;cases hg:fs[i]? with
   |none=>rw[hg]at hF;cases hF
   |some f=>
    rw[hg]at hF;simp only[Option.map_some,Option.some.injEq,Prod.mk.injEq]at hF;have:=hf i f hg;rw[hF.1,hF.2]at this;exact this
  |_=>cases hs
class aky (P:Program) (T:TypeId):Prop where
 h:∀(w:World) (r:Reach) (base:Nat) (v:Value),Value.okWide P w r base T v->v.cells.toList=[v]
instance{E:TypeId}{n:Nat}[t:gP P T E n]:aky P T:=⟨λw r base v h=>by
 obtain⟨a,l,c,rfl⟩:=WideShapes.okWide_slice t.u h;rfl⟩
theorem abP{α:Type}{e:α->List SV}{ok:α->Prop}{sz:α->Nat}[o1:aky P T][o:Lp P T e ok sz]{H:Type}{enc:TypeId×Value->H}{W:World}{r:Reach}{base:Nat}{v:Value}{d:DataW H}{p:List MemPlace}
  (hv:Value.okWide P W r base T v) (h:DataW.Trod enc P W 0 (λ_=>true) true T v d p):∃x,ok x/\sz x<=Rows.uptoBulk d/\SV.eJ (snap W) (e x) [v]:=by
 obtain⟨fuel,h⟩:=h;rw[o1.h W r base v hv]at h;obtain⟨x,h1,h2,_,h4⟩:=o.h enc W fuel _ d p h;exact⟨x,h1,h4,h2⟩
theorem abQ{α:Type}{e:α->List SV}{ok:α->Prop}{sz:α->Nat}{k:Nat}[s:StN P T k][o:Lp P T e ok sz]{H:Type}{enc:TypeId×Value->H}{W:World}{r:Reach}{base:Nat}{v:Value}{d:DataW H}{p:List MemPlace}
  (hv:Value.okWide P W r base T v) (h:DataW.Trod enc P W 0 (λ_=>true) true T v d p):∃x,ok x/\sz x<=Rows.uptoBulk d/\(SV.agg (e x)).h (snap W) v:=by
 have hs:=s.h;cases hT:P.underlying T with
 |none=>rw[hT]at hs;cases hs
 |some u=>
  rw[hT]at hs;cases u with
  |struct fs=>
   obtain⟨cs,rfl,_⟩:=WideShapes.okWide_struct hT hv;obtain⟨fuel,h⟩:=h;obtain⟨x,h1,h2,_,h4⟩:=o.h enc W fuel _ d p h;exact⟨x,h1,h4,cs.toList,Y,h2⟩
  |_=>cases hs
end opn
theorem abR{f:FuncId}{vs:List Value}{svs:List SV}{W:World}(hp:Pure af f svs (.v (.bool true)))(h:SV.eJ (snap W) svs vs):
  Calls af f ⟨vs⟩ W λe w'=>e=.returned (.bool true)/\Below W.heap.size W w':=
 (hp (snap W) W vs (abN W) h).mono λ_ _ ⟨v,_,h1,_,_,_,h2,h3⟩=>by
  have h2:v=.bool true:=h2;exact⟨by rw[h1,h2],h3⟩
end
section
open Go.Fw Go.RowKit Go.ChangeShapes Go.WideShapes Go.ChangeAt
theorem aov:ownKnob Tryz.prog.godebug=none:=by kernel_rfl
theorem PE:laidOutB af=true:=by kernel_rfl
instance:StN af 41 2:=⟨by kernel_rfl⟩
set_option maxRecDepth 100000 in
instance:Lp af 41 eZ (λ(z:Zr)=>(True/\(z.w.length<=9223372036854775807/\∀x1∈z.w,x1<4294967296))) (λ(z:Zr)=>(1+((z.w.map λx1=>1).sum+1)+1)):=⟨λenc W fuel cs d p h=>by
 obtain⟨xs,n,rfl,hl,hn,hf⟩:=IA h;have hl:cs.length=2:=hl.trans aJ
 match xs,hn with
 |[⟨d0,p0⟩,⟨d1,p1⟩],_=>
 match cs,hl with
 |[c0,c1],_=>
 have t0:DataW.trod enc af W 0 (λ_=>true) true n 4 [c0]=some (d0,p0):=(by have q:=hf 0 _ _ inferInstance;rw[show Tryz.prog.cellsOf 4=1 by kernel_rfl]at q;exact q);obtain⟨x0,a0,b0,e0,s0⟩:=Lp.h (P:=af) (T:=4) (e:=eB) enc W n _ d0 p0 t0;have t1:DataW.trod enc af W 0 (λ_=>true) true n 39 [c1]=some (d1,p1):=(by have q:=hf 1 _ _ inferInstance;rw[show Tryz.prog.cellsOf 39=1 by kernel_rfl]at q;exact q);obtain⟨x1,a1,b1,e1,s1⟩:=Lp.h (P:=af) (T:=39) (e:=(eS 1 bk)) enc W n _ d1 p1 t1;refine⟨⟨x0,x1⟩,⟨a0,a1⟩,⟨b0.1,b1.1,ak⟩,?_,?_⟩
 ·intro v hv;simp only[List.mem_cons,List.not_mem_nil,or_false]at hv;rcases hv with rfl|rfl
  ·exact e0 _ θ
  exact e1 _ θ
 simp only[List.map_cons,List.map_nil,Rows.uptoBulk,Rows.uptoBulkAll];omega⟩
instance:StN af 43 2:=⟨by kernel_rfl⟩
set_option maxRecDepth 100000 in
instance:Lp af 43 eQ (λ(z:Qr)=>((True/\(z.num.w.length<=9223372036854775807/\∀x1∈z.num.w,x1<4294967296))/\(True/\(z.den.w.length<=9223372036854775807/\∀x1∈z.den.w,x1<4294967296)))) (λ(z:Qr)=>((1+((z.num.w.map λx1=>1).sum+1)+1)+(1+((z.den.w.map λx1=>1).sum+1)+1)+1)):=⟨λenc W fuel cs d p h=>by
 obtain⟨xs,n,rfl,hl,hn,hf⟩:=IA h;have hl:cs.length=4:=hl.trans aJ
 match xs,hn with
 |[⟨d0,p0⟩,⟨d1,p1⟩],_=>
 match cs,hl with
 |[c0,c1,c2,c3],_=>
 have t0:DataW.trod enc af W 0 (λ_=>true) true n 41 [c0,c1]=some (d0,p0):=(by have q:=hf 0 _ _ inferInstance;rw[show Tryz.prog.cellsOf 41=2 by kernel_rfl]at q;exact q);obtain⟨x0,a0,b0,e0,s0⟩:=Lp.h (P:=af) (T:=41) (e:=eZ) enc W n _ d0 p0 t0;have t1:DataW.trod enc af W 0 (λ_=>true) true n 41 [c2,c3]=some (d1,p1):=(by have q:=hf 1 _ _ inferInstance;rw[show Tryz.prog.cellsOf 41=2 by kernel_rfl]at q;exact q);obtain⟨x1,a1,b1,e1,s1⟩:=Lp.h (P:=af) (T:=41) (e:=eZ) enc W n _ d1 p1 t1;refine⟨⟨x0,x1⟩,⟨a0,a1⟩,⟨b0.1,b0.2.1,b1.1,b1.2.1,ak⟩,?_,?_⟩
 ·intro v hv;simp only[List.mem_cons,List.not_mem_nil,or_false]at hv;rcases hv with rfl|rfl|rfl|rfl
  ·exact e0 _ θ
  ·exact e0 _ θ
  ·exact e1 _ θ
  exact e1 _ θ
 simp only[List.map_cons,List.map_nil,Rows.uptoBulk,Rows.uptoBulkAll];omega⟩
instance:StN af 25 4:=⟨by kernel_rfl⟩
set_option maxRecDepth 100000 in
instance:Lp af 25 Lo (λ(z:Lr)=>((-9223372036854775808<=z.vars/\z.vars<=9223372036854775807)/\(z.HS.length<=9223372036854775807/\∀x1∈z.HS,(x1.length<=9223372036854775807/\∀x2∈x1,((True/\(x2.num.w.length<=9223372036854775807/\∀x3∈x2.num.w,x3<4294967296))/\(True/\(x2.den.w.length<=9223372036854775807/\∀x3∈x2.den.w,x3<4294967296)))))/\(z.rows.length<=9223372036854775807/\∀x1∈z.rows,(x1.length<=9223372036854775807/\∀x2∈x1,((True/\(x2.num.w.length<=9223372036854775807/\∀x3∈x2.num.w,x3<4294967296))/\(True/\(x2.den.w.length<=9223372036854775807/\∀x3∈x2.den.w,x3<4294967296)))))/\(z.bounds.length<=9223372036854775807/\∀x1∈z.bounds,((True/\(x1.num.w.length<=9223372036854775807/\∀x2∈x1.num.w,x2<4294967296))/\(True/\(x1.den.w.length<=9223372036854775807/\∀x2∈x1.den.w,x2<4294967296)))))) (λ(z:Lr)=>(1+((z.HS.map λx1=>((x1.map λx2=>((1+((x2.num.w.map λx3=>1).sum+1)+1)+(1+((x2.den.w.map λx3=>1).sum+1)+1)+1)).sum+1)).sum+1)+((z.rows.map λx1=>((x1.map λx2=>((1+((x2.num.w.map λx3=>1).sum+1)+1)+(1+((x2.den.w.map λx3=>1).sum+1)+1)+1)).sum+1)).sum+1)+((z.bounds.map λx1=>((1+((x1.num.w.map λx2=>1).sum+1)+1)+(1+((x1.den.w.map λx2=>1).sum+1)+1)+1)).sum+1)+1)):=⟨λenc W fuel cs d p h=>by
 obtain⟨xs,n,rfl,hl,hn,hf⟩:=IA h;have hl:cs.length=4:=hl.trans aJ
 match xs,hn with
 |[⟨d0,p0⟩,⟨d1,p1⟩,⟨d2,p2⟩,⟨d3,p3⟩],_=>
 match cs,hl with
 |[c0,c1,c2,c3],_=>
 have t0:DataW.trod enc af W 0 (λ_=>true) true n 3 [c0]=some (d0,p0):=(by have q:=hf 0 _ _ inferInstance;rw[show Tryz.prog.cellsOf 3=1 by kernel_rfl]at q;exact q);obtain⟨x0,a0,b0,e0,s0⟩:=Lp.h (P:=af) (T:=3) (e:=bO) enc W n _ d0 p0 t0;have t1:DataW.trod enc af W 0 (λ_=>true) true n 22 [c1]=some (d1,p1):=(by have q:=hf 1 _ _ inferInstance;rw[show Tryz.prog.cellsOf 22=1 by kernel_rfl]at q;exact q);obtain⟨x1,a1,b1,e1,s1⟩:=Lp.h (P:=af) (T:=22) (e:=(eS 1 (eS 4 eQ))) enc W n _ d1 p1 t1;have t2:DataW.trod enc af W 0 (λ_=>true) true n 22 [c2]=some (d2,p2):=(by have q:=hf 2 _ _ inferInstance;rw[show Tryz.prog.cellsOf 22=1 by kernel_rfl]at q;exact q);obtain⟨x2,a2,b2,e2,s2⟩:=Lp.h (P:=af) (T:=22) (e:=(eS 1 (eS 4 eQ))) enc W n _ d2 p2 t2;have t3:DataW.trod enc af W 0 (λ_=>true) true n 23 [c3]=some (d3,p3):=(by have q:=hf 3 _ _ inferInstance;rw[show Tryz.prog.cellsOf 23=1 by kernel_rfl]at q;exact q);obtain⟨x3,a3,b3,e3,s3⟩:=Lp.h (P:=af) (T:=23) (e:=(eS 4 eQ)) enc W n _ d3 p3 t3;refine⟨⟨x0,x1,x2,x3⟩,⟨a0,a1,a2,a3⟩,⟨b0.1,b1.1,b2.1,b3.1,ak⟩,?_,?_⟩
 ·intro v hv;simp only[List.mem_cons,List.not_mem_nil,or_false]at hv;rcases hv with rfl|rfl|rfl|rfl
  ·exact e0 _ θ
  ·exact e1 _ θ
  ·exact e2 _ θ
  exact e3 _ θ
 simp only[List.map_cons,List.map_nil,Rows.uptoBulk,Rows.uptoBulkAll];omega⟩
instance:StN af 38 2:=⟨by kernel_rfl⟩
set_option maxRecDepth 100000 in
instance:Lp af 38 WK (λ(z:Pv)=>((-9223372036854775808<=z.row/\z.row<=9223372036854775807)/\(-9223372036854775808<=z.col/\z.col<=9223372036854775807))) (λ(z:Pv)=>(1+1+1)):=⟨λenc W fuel cs d p h=>by
 obtain⟨xs,n,rfl,hl,hn,hf⟩:=IA h;have hl:cs.length=2:=hl.trans aJ
 match xs,hn with
 |[⟨d0,p0⟩,⟨d1,p1⟩],_=>
 match cs,hl with
 |[c0,c1],_=>
 have t0:DataW.trod enc af W 0 (λ_=>true) true n 3 [c0]=some (d0,p0):=(by have q:=hf 0 _ _ inferInstance;rw[show Tryz.prog.cellsOf 3=1 by kernel_rfl]at q;exact q);obtain⟨x0,a0,b0,e0,s0⟩:=Lp.h (P:=af) (T:=3) (e:=bO) enc W n _ d0 p0 t0;have t1:DataW.trod enc af W 0 (λ_=>true) true n 3 [c1]=some (d1,p1):=(by have q:=hf 1 _ _ inferInstance;rw[show Tryz.prog.cellsOf 3=1 by kernel_rfl]at q;exact q);obtain⟨x1,a1,b1,e1,s1⟩:=Lp.h (P:=af) (T:=3) (e:=bO) enc W n _ d1 p1 t1;refine⟨⟨x0,x1⟩,⟨a0,a1⟩,⟨b0.1,b1.1,ak⟩,?_,?_⟩
 ·intro v hv;simp only[List.mem_cons,List.not_mem_nil,or_false]at hv;rcases hv with rfl|rfl
  ·exact e0 _ θ
  exact e1 _ θ
 simp only[List.map_cons,List.map_nil,Rows.uptoBulk,Rows.uptoBulkAll];omega⟩
end
end Go.Proofs.YtningmnklfpfjaaGreat
namespace Go.Fw
section
open Go.RowKit
theorem iD{S:AS}(i o k:Nat)(E0:TypeId)(sz:Nat){T:TypeId}{cells:List AV}(hb:S.b i=some ⟨T,cells⟩)(hc:cells[o]? =some (.sv (.v (.slice none 0 0))))(hk:S.r k=.un)(hk1:k<1000):
  Bv S ((AS.cK [(k,.live ⟨E0,sz,0,[]⟩)] S).nX i ⟨T,cells.set o (.row k)⟩):=by
 rintro C a w ⟨E,h⟩;have h1:=h.newRow hk hk1 [] none (.inl ⟨Y,Y⟩) (R':=⟨E0,sz,0,[]⟩) (World.ownsRow_nil w 0 E0 sz) (vs':=[]) trivial (.inl Y) (w5 w none);have Ag:(AS.cK [(k,.live ⟨E0,sz,0,[]⟩)] S).b i=some ⟨T,cells⟩:=hb;have hrk:(AS.cK [(k,.live ⟨E0,sz,0,[]⟩)] S).r k≠ .un:=by
  show(AS.uI S k _).r k≠_;rw[AS.jn];simp
 refine⟨_,{h1 with wf:=?_,bx:=λj B hB=>?_,inj:=λj j' B B' hB iZ e=>?_,rx:=λj R hR=>?_}⟩
 ·refine⟨λt j hj=>?_,h1.wf.tr,λj B hB x hx m hm=>?_,λj B hB x hx m hm=>?_⟩
  ·obtain⟨B,hB⟩:=h1.wf.tb t j hj;by_cases e:j=i
   ·subst e;exact⟨_,AS.dP _ _ _⟩
   exact⟨B,by rw[AS.cP _ _ _ _ e];exact hB⟩
  ·have key:∃B',(AS.cK [(k,.live ⟨E0,sz,0,[]⟩)] S).b m=some B':=by
    by_cases e:j=i
    ·subst e;rw[AS.dP]at hB;cases hB;rcases List.mem_or_eq_of_mem_set hx with hx|rfl
     ·exact h1.wf.bb j _ Ag x hx m hm
     exact hm.elim
    rw[AS.cP _ _ _ _ e]at hB;exact h1.wf.bb j B hB x hx m hm
   obtain⟨B',iZ⟩:=key;by_cases e:m=i
   ·subst e;exact⟨_,AS.dP _ _ _⟩
   exact⟨B',by rw[AS.cP _ _ _ _ e];exact iZ⟩
  by_cases e:j=i
  ·subst e;rw[AS.dP]at hB;cases hB;rcases List.mem_or_eq_of_mem_set hx with hx|rfl
   ·exact h1.wf.br j _ Ag x hx m hm
   cases hm;exact hrk
  rw[AS.cP _ _ _ _ e]at hB;exact h1.wf.br j B hB x hx m hm
 ·by_cases e:j=i
  ·subst e;rw[AS.dP]at hB;cases hB;obtain⟨q1,q2,q3,vs,q4,q5⟩:=h1.bx j _ Ag;refine⟨q1,q2,q3,vs,q4,?_⟩;obtain⟨x,hx,hv⟩:=q5.get hc;have hv:x=.slice none 0 0:=hv;have:=dQ.set (i:=o) (s:=.row k) (x:=x) q5 (by
    show x=if k=k then _ else _;rw[if_pos rfl];exact hv)
   have he:vs.set o x=vs:=by
    apply List.ext_getElem?;intro n;rw[List.getElem?_set];split
    ·rename_i hn;subst hn;rw[hx];split<;>rename_i hl
     ·rfl
     have:=(List.getElem?_eq_some_iff.1 hx).1;exact absurd this hl
    rfl
   rwa[he]at this
  rw[AS.cP _ _ _ _ e]at hB;exact h1.bx j B hB
 ·have old:∀n B,((AS.cK [(k,.live ⟨E0,sz,0,[]⟩)] S).nX i ⟨T,cells.set o (.row k)⟩).b n=some B->∃B',(AS.cK [(k,.live ⟨E0,sz,0,[]⟩)] S).b n=some B':=λn B hn=>by
   by_cases e:n=i
   ·subst e;exact⟨_,Ag⟩
   rw[AS.cP _ _ _ _ e]at hn;exact⟨B,hn⟩
  obtain⟨B1,p1⟩:=old j B hB;obtain⟨B2,p2⟩:=old j' B' iZ;exact h1.inj j j' B1 B2 p1 p2 e
 obtain⟨p1,p2⟩:=h1.rx j R hR;refine⟨p1,λg hg=>?_⟩;obtain⟨p3,p4,p5,p6⟩:=p2 g hg;refine⟨p3,p4,p5,λn B hn=>?_⟩;by_cases e:n=i
 ·subst e;exact p6 n _ Ag
 rw[AS.cP _ _ _ _ e]at hn;exact p6 n B hn
end
section
open Go.RowKit
section part
variable {P:Program}{C:Ctx}{ops:Array Oper}{acts:List Ac}{S:AS}
theorem El(listed:Array Bool)(i:Nat)(hs:listed.size=ops.size)(hi:i<ops.size):listed.getD i true=listed.getD i false:=by
 rw[Array.getD_eq_getD_getElem?,Array.getD_eq_getD_getElem?];rw[Array.getElem?_eq_getElem ξ];rfl
end part
end
section
open Go.RowKit
instance{g:FuncId}{caps:List SV}:One (oQ g caps):=⟨λ_ _ h=>by obtain⟨vs,rfl,_⟩:=h;rfl⟩
section steps
variable {P:Program}{C:Ctx}{ops:Array Oper}{S:AS}{nd:Bool}{K:List Ac->AS->Prop}{rest:List Oper}{acc:List Ac}
variable {gd:Option (Nat×Bool)}{rg:List Nat}{d:Nat}{ty:TypeId}{pos:String}{aft:Array Edge}{x y z:Operand}{T U E0:TypeId}
theorem RT.Gc(hg:Gd ops S gd rg){g:FuncId}{xs:Array Operand}{caps:List SV}(hc:gM S xs.toList caps)(hd:d<S.n)
  (next:RunT P C ops nd K rest (⟨rg++xs.toList.flatMap bn,[],[],⟨some (d,.sv (oQ g caps)),[],[]⟩⟩::acc) (S.set d (.sv (oQ g caps)))):RunT P C ops nd K (⟨some d,.makeFunc (.func g) #[] xs,ty,pos,aft,gd⟩::rest) acc S:=
 RT.value hg (xs.toList.flatMap bn) [] [] (.sv (oQ g caps)) hd aE (λS' ht _ _ E a w h=>by
  have h1:=gM.vals h hc ht;refine⟨.func (.func g) #[] ⟨xs.toList.map a.eval⟩,?_,⟨_,Y,h1⟩,iu⟩;have e2:xs.map a.eval=⟨xs.toList.map a.eval⟩:=by apply Array.ext';simp
  simp[execOp,Instr.makeFunc,e2]) next
theorem RT.akz(hg:Gd ops S gd rg){f:FuncId}[dm P f]{g:Operand}{xs:Array Operand}{at_:Array TypeId}{args caps:List SV}{r:SV}(hp:Pure P f (args++caps) r)(hf:S.ev g=.sv (oQ f caps))(hargs:gM S xs.toList args)(hd:d<S.n)
  (next:RunT P C ops nd K rest (⟨rg++(bn g++xs.toList.flatMap bn),[],[],⟨some (d,.sv r),[],[]⟩⟩::acc) (S.set d (.sv r))):RunT P C ops nd K (⟨some d,.call ⟨.value g,xs,at_⟩,ty,pos,aft,gd⟩::rest) acc S:=by
 refine .inl ⟨_,[],[],_,?_,next⟩;rintro S' hn ht _ _ i a w L Q ho ⟨E,h⟩ hL;refine dj (C:=C) ho (hg.wanted h (λs hs=>ht s (List.mem_append_left _ hs)) Y) ?_;have wY:(oQ f caps).h E.M (a.eval g):=by
  have h1:=h.ev g;rw[bT (λ_ h=>List.mem_append_right _ (List.mem_append_left _ h)) ht,hf]at h1;exact h1
 obtain⟨yh,wY,Lq⟩:=wY;have hall:=SV.eJ.append (gM.vals h hargs (λs hs=>ht s (List.mem_append_right _ (List.mem_append_right _ hs)))) Lq;have hr:(execOp a.eval ⟨some d,.call ⟨.value g,xs,at_⟩,ty,pos,aft,gd⟩).run P w=.ok (.enter f ⟨xs.toList.map a.eval++yh⟩) w:=by
  have e2:xs.map a.eval++⟨yh⟩=⟨xs.toList.map a.eval++yh⟩:=by apply Array.ext';simp
  have e1:=dm.run (P:=P) (f:=f) (xs.map a.eval++⟨yh⟩) w;rw[<-e2];simp[execOp,resolve,wY,Deferred.ofValue,invoke,e1]
 refine dh (C:=C) aE hr<|⟨λh=>by simp at h,gG ((hp E.M w _ h.dH hall).mono ?_)⟩;rintro e w' ⟨v,M',rfl,hM,hnew,hin,hv,hb⟩;exact hL _ _ ⟨_,(h.grow hM hnew hin hb).put (x:=.sv r) hv (by show d<S'.n;omega) iu⟩
end steps
end
end Go.Fw
namespace Go.Fw.Z
section
open Go.Fw
theorem T{d n:Nat}(h:Nat.ble (d+1) n=true:=by exact rfl):d<n:=tl h
theorem bE{α β:Type}{x:Option α}{f:α->Option β}{r:β}{G:Prop}(h:Option.bind x f=some r)(k:∀a,x=some a->f a=some r->G):G:=by obtain⟨a,h1,h2⟩:=bind_some h;exact k a h1 h2
theorem lE{α β:Type}{v:α}{f:α->Option β}{r:β}{G:Prop}(h:Option.bind (some v) f=some r)(k:∀a,v=a->f a=some r->G):G:=k v Y h
theorem bS{α β:Type}{x:Option α}{f:α->Option β}{r:β}(h:Option.bind x f=some r):∃a,x=some a/\f a=some r:=bind_some h
theorem F{α:Type}{x y:Option α}{r:α}(h:(bif false then x else y)=some r):y=some r:=h
theorem V{α:Type}{x y:Option α}{r:α}(h:(bif true then x else y)=some r):x=some r:=h
theorem O{α:Type}{a b:α}(h:some a=some b):a=b:=Option.some.inj h
def Hi(l:List (Nat×Nat))(i:Nat):Nat:=((l.find? λp=>Nat.beq p.1 i).map (·.2)).getD i
def rnA(l:List (Nat×Nat)):AV->AV
 |.row i=>.row (Hi l i)
 |.vS i o n=>.vS (Hi l i) o n
 |x=>x
def noR:AV->Bool
 |.nK _ _=>false
 |.cmp _ _=>false
 |_=>true
theorem avi(l:List (Nat×Nat)){x:AV}(h:noR x=true):VA (Hi l) (rnA l x) x:=by
 cases x with
 |sv s=>exact .sv aq
 |ptr i o=>exact .ptr
 |O6 i o n c=>exact .O6
 |row i=>exact .row Y
 |nK i k=>cases h
 |vS i o n=>exact .vS Y
 |lD g js=>exact .lD
 |cmp t js=>cases h
theorem akA(l:List (Nat×Nat)):∀{xs:List AV},(xs.all noR)=true->Sl (Hi l) (xs.map (rnA l)) xs
 |[],_=>trivial
 |x::xs,h=>by simp only[List.all_cons,Bool.and_eq_true]at h;exact⟨avi l h.1,akA l h.2⟩
theorem wR(l:List (Nat×Nat)){S:AS}{n:Nat}{ts:List (Nat×AV)}{bs:List (Nat×ur)}{rs:List (Nat×Row)}{g:Nat}{go:Bool}
  (ht:ts.map (λp=>S.t p.1)=ts.map (λp=>rnA l p.2):=by exact rfl) (hb:bs.map (λp=>S.b p.1)=bs.map (λp=>some ⟨p.2.T,p.2.cells.map (rnA l)⟩):=by exact rfl) (hr:rs.map (λp=>S.r (Hi l p.1))=rs.map (λp=>.live p.2):=by exact rfl)
  (hn:S.n=n:=by exact rfl) (hg:S.g=g:=by exact rfl) (Sa:S.go=go:=by exact rfl)
  (hwf:((ts.all λp=>p.2.rF bs rs)&&(bs.all λp=>p.2.cells.all λx=>x.rF bs rs))=true:=by exact rfl) (hσ:((rs.all λp=>rs.all λq=>!(Nat.beq (Hi l p.1) (Hi l q.1))||Nat.beq p.1 q.1))=true:=by exact rfl)
  (hno:((ts.all λp=>noR p.2)&&(bs.all λp=>p.2.cells.all noR))=true:=by exact rfl) (hl:(l.all λp=>Nat.ble (p.1+1) 1000)=true:=by exact rfl):Bv S (AS.cz n ts bs rs g go):=by
 simp only[Bool.and_eq_true,List.all_eq_true]at hno;refine cj (Hi l) hn hg Sa hwf hσ ?_ ?_ ?_ ?_
 ·clear hwf hb hr;obtain⟨h,-⟩:=hno
  induction ts with
  |nil=>trivial
  |cons p ts ih=>
   obtain⟨k,x⟩:=p;simp only[List.map_cons,List.cons.injEq]at ht;refine⟨?_,ih ht.2 (λq hq=>h q (by simp[hq]))⟩;show VA _ (S.t k) x;rw[ht.1];exact avi l (h (k,x) θ)
 ·clear hwf ht hr;obtain⟨-,h⟩:=hno
  induction bs with
  |nil=>trivial
  |cons p bs ih=>
   obtain⟨k,x⟩:=p;simp only[List.map_cons,List.cons.injEq]at hb;exact⟨⟨_,hb.1,akA l (List.all_eq_true.2 (h (k,x) θ))⟩,ih hb.2 (λq hq=>h q (by simp[hq]))⟩
 ·clear hwf ht hb hσ
  induction rs with
  |nil=>trivial
  |cons p rs ih=>
   obtain⟨k,x⟩:=p;simp only[List.map_cons,List.cons.injEq]at hr;exact⟨⟨_,hr.1,cc.refl _⟩,ih hr.2⟩
 intro i hi;unfold Hi;have:l.find? (λp=>Nat.beq p.1 i)=none:=by
  rw[List.find?_eq_none];intro p hp e;have h1:=ae (List.all_eq_true.1 hl p hp);have h2:=Nat.eq_of_beq_eq_true e;omega
 rw[this];rfl
section
variable {P:Program}{C:Ctx}{S:AS}{Q:Exit->AS->Prop}
theorem qq{x y:Code}(h:Ok P C x S (aY (λS'=>Ok P C y S' Q) Q)):Ok P C (.seq x y) S Q:=b9 h
theorem sr{id:Nat}{ops:Array Oper}{y:Code}(h:RunT P C ops true (λ_ S=>aY (λS'=>Ok P C y S' Q) Q .normal S) ops.toList [] S):Ok P C (.seq (.region id ops false) y) S Q:=b9 (aZ h)
theorem dn{ops:Array Oper}{acc:List Ac}{next:AS->Prop}(h:next S):RunT P C ops true (λ_ S=>aY next Q .normal S) [] acc S:=h
theorem cF{c:Operand}{x y:Code}(hf:Ok P C y S Q)(hc:S.ev c=.sv (.v (.bool false)):=by exact rfl):Ok P C (.cond c x y) S Q:=fN hc hf
theorem aO{c:Operand}{x:Code}{i:Nat}{n1 n2 next:AS->Prop}{Q:Exit->AS->Prop}(h:next S)(hc:S.ev c=.sv (.v (.bool false)):=by exact rfl):Ok P C (.cond c x (.exit i)) S (aY n1 (aY n2 (bJ i (aY next Q)))):=cF (bR (aY.x (aY.x (bJ.x (aY.n h))))) hc
theorem cT{c:Operand}{x y:Code}(ht:Ok P C x S Q)(hc:S.ev c=.sv (.v (.bool true)):=by exact rfl):Ok P C (.cond c x y) S Q:=dR hc ht
theorem aP{c:Operand}{y:Code}{next:AS->Prop}{Q:Exit->AS->Prop}(h:next S)(hc:S.ev c=.sv (.v (.bool true)):=by exact rfl):Ok P C (.cond c .skip y) S (aY next Q):=cT (bC (aY.n h)) hc
theorem fs{c:Operand}{x:Code}{next:AS->Prop}(h:next S)(hc:S.ev c=.sv (.v (.bool false)):=by exact rfl):Ok P C (.cond c x .skip) S (aY next Q):=fN hc (bC h)
theorem R1{A:Prop}{e:Exit}{t:Nat}{s:SV}(h:S.t t=.sv s):(A\/e=e)/\WI P S [.tmp t] s:=⟨.inr Y,gp (.tmp h .nil) aq⟩
theorem R2{A:Prop}{e:Exit}{t u:Nat}{s s':SV}(h:S.t t=.sv s)(h':S.t u=.sv s'):(A\/e=e)/\WI P S [.tmp t,.tmp u] (.Bs [s,s']):=⟨.inr Y,gp (.tmp h (.tmp h' .nil)) aq⟩
theorem RZ{A:Prop}{e:Exit}{rs:List ResultVar}{ss:List SV}{r:SV}(h:WJ P S rs ss)(h':SV.imp (Xk ss) r:=by exact aq):(A\/e=e)/\WI P S rs r:=⟨.inr Y,gp h h'⟩
end
section
variable {P:Program}{C:Ctx}{ops:Array Oper}{S:AS}{nd:Bool}{K:List Ac->AS->Prop}{rest:List Oper}{acc:List Ac}
variable {gd:Option (Nat×Bool)}{rg:List Nat}{d:Nat}{ty:TypeId}{pos:String}{aft:Array Edge}{x y z:Operand}{T U:TypeId}{k:IntKind}{p q:Int}
theorem pF{s:SV}(hz:S.ev z=.sv s)(next:RunT P C ops nd K rest (⟨[]++(bn x++bn z),[],[],⟨some (d,.sv s),[],[]⟩⟩::acc) (S.set d (.sv s)))(hx:S.ev x=.sv (.v (.bool false)):=by exact rfl)(hd:d<S.n:=by exact tl Y):RunT P C ops nd K (⟨some d,.pick x y z,ty,pos,aft,none⟩::rest) acc S:=
 RT.Ml .none hx hz hd next
theorem pT{s:SV}(hy:S.ev y=.sv s)(next:RunT P C ops nd K rest (⟨[]++(bn x++bn y),[],[],⟨some (d,.sv s),[],[]⟩⟩::acc) (S.set d (.sv s)))(hx:S.ev x=.sv (.v (.bool true)):=by exact rfl)(hd:d<S.n:=by exact tl Y):RunT P C ops nd K (⟨some d,.pick x y z,ty,pos,aft,none⟩::rest) acc S:=
 RT.T8 .none hx hy hd next
theorem mo{s:AV}(hx:S.ev x=s)(next:RunT P C ops nd K rest (⟨[]++bn x,[],[],⟨some (d,s),[],[]⟩⟩::acc) (S.set d s))(hd:d<S.n:=by exact tl Y):RunT P C ops nd K (⟨some d,.move x,ty,pos,aft,none⟩::rest) acc S:=
 RT.move .none hx hd next
theorem ad(c:Int)(hx:S.ev x=.sv (.v (.int k p)))(hy:S.ev y=.sv (.v (.int k q)))(hc:k.wrap (p+q)=c)(next:RunT P C ops nd K rest (⟨[]++(bn x++bn y),[],[],⟨some (d,.sv (.v (.int k c))),[],[]⟩⟩::acc) (S.set d (.sv (.v (.int k c)))))(hd:d<S.n:=by exact tl Y):RunT P C ops nd K (⟨some d,.binOp .add T x y U,ty,pos,aft,none⟩::rest) acc S:=
 RT.add .none c hx hy hd hc next
theorem cv{j:IntKind}[tT:uJ P T j][tU:uJ P U k](c:Int){k':IntKind}(hx:S.ev x=.sv (.v (.int k' p)))(hc:k.wrap p=c)(next:RunT P C ops nd K rest (⟨[]++bn x,[],[],⟨some (d,.sv (.v (.int k c))),[],[]⟩⟩::acc) (S.set d (.sv (.v (.int k c)))))(hd:d<S.n:=by exact tl Y):RunT P C ops nd K (⟨some d,.convert T U x,ty,pos,aft,none⟩::rest) acc S:=
 RT.conv .none c hx hd hc next
theorem ls(c:Bool)(hx:S.ev x=.sv (.v (.int k p)))(hy:S.ev y=.sv (.v (.int k q)))(hc:decide (p<q)=c)(next:RunT P C ops nd K rest (⟨[]++(bn x++bn y),[],[],⟨some (d,.sv (.v (.bool c))),[],[]⟩⟩::acc) (S.set d (.sv (.v (.bool c)))))(hd:d<S.n:=by exact tl Y):RunT P C ops nd K (⟨some d,.binOp .lss T x y U,ty,pos,aft,none⟩::rest) acc S:=
 RT.lss .none c hx hy hd hc next
theorem sb(c:Int)(hx:S.ev x=.sv (.v (.int k p)))(hy:S.ev y=.sv (.v (.int k q)))(hc:k.wrap (p-q)=c)(next:RunT P C ops nd K rest (⟨[]++(bn x++bn y),[],[],⟨some (d,.sv (.v (.int k c))),[],[]⟩⟩::acc) (S.set d (.sv (.v (.int k c)))))(hd:d<S.n:=by exact tl Y):RunT P C ops nd K (⟨some d,.binOp .sub T x y U,ty,pos,aft,none⟩::rest) acc S:=
 RT.sub .none c hx hy hd hc next
theorem an{s:AV}(hx:S.ev x=s)(next:RunT P C ops nd K rest (⟨[]++bn x,[],[],⟨some (d,s),[],[]⟩⟩::acc) (S.set d s))(hd:d<S.n:=by exact tl Y):RunT P C ops nd K (⟨some d,.assign x,ty,pos,aft,none⟩::rest) acc S:=
 RT.assign .none hx hd next
theorem gt(c:Bool)(hx:S.ev x=.sv (.v (.int k p)))(hy:S.ev y=.sv (.v (.int k q)))(hc:decide (q<p)=c)(next:RunT P C ops nd K rest (⟨[]++(bn x++bn y),[],[],⟨some (d,.sv (.v (.bool c))),[],[]⟩⟩::acc) (S.set d (.sv (.v (.bool c)))))(hd:d<S.n:=by exact tl Y):RunT P C ops nd K (⟨some d,.binOp .gtr T x y U,ty,pos,aft,none⟩::rest) acc S:=
 RT.gtr .none c hx hy hd hc next
theorem eq(c:Bool)(hx:S.ev x=.sv (.v (.int k p)))(hy:S.ev y=.sv (.v (.int k q)))(hc:(p==q)=c)(next:RunT P C ops nd K rest (⟨[]++(bn x++bn y),[],[],⟨some (d,.sv (.v (.bool c))),[],[]⟩⟩::acc) (S.set d (.sv (.v (.bool c)))))(hd:d<S.n:=by exact tl Y):RunT P C ops nd K (⟨some d,.binOp .eql T x y U,ty,pos,aft,none⟩::rest) acc S:=
 RT.eql .none c hx hy hd hc next
theorem ne(c:Bool)(hx:S.ev x=.sv (.v (.int k p)))(hy:S.ev y=.sv (.v (.int k q)))(hc:(p != q)=c)(next:RunT P C ops nd K rest (⟨[]++(bn x++bn y),[],[],⟨some (d,.sv (.v (.bool c))),[],[]⟩⟩::acc) (S.set d (.sv (.v (.bool c)))))(hd:d<S.n:=by exact tl Y):RunT P C ops nd K (⟨some d,.binOp .neq T x y U,ty,pos,aft,none⟩::rest) acc S:=
 RT.neq .none c hx hy hd hc next
theorem ge(c:Bool)(hx:S.ev x=.sv (.v (.int k p)))(hy:S.ev y=.sv (.v (.int k q)))(hc:decide (q<=p)=c)(next:RunT P C ops nd K rest (⟨[]++(bn x++bn y),[],[],⟨some (d,.sv (.v (.bool c))),[],[]⟩⟩::acc) (S.set d (.sv (.v (.bool c)))))(hd:d<S.n:=by exact tl Y):RunT P C ops nd K (⟨some d,.binOp .geq T x y U,ty,pos,aft,none⟩::rest) acc S:=
 RT.geq .none c hx hy hd hc next
theorem nt{b:Bool}(hx:S.ev x=.sv (.v (.bool b)))(c:Bool)(hc:(!b)=c)(next:RunT P C ops nd K rest (⟨[]++bn x,[],[],⟨some (d,.sv (.v (.bool c))),[],[]⟩⟩::acc) (S.set d (.sv (.v (.bool c)))))(hd:d<S.n:=by exact tl Y):RunT P C ops nd K (⟨some d,.unOp .not T x,ty,pos,aft,none⟩::rest) acc S:=
 RT.not .none hx hd c hc next
theorem gF{j_ g_:Nat}{jM:Bool}{s:SV}(hz:S.ev z=.sv s)(next:RunT P C ops nd K rest (⟨[g_]++(bn x++bn z),[],[],⟨some (d,.sv s),[],[]⟩⟩::acc) (S.set d (.sv s)))(LI:(ops[j_]?).bind (·.dst)=some g_:=by exact rfl)(LJ:S.t g_=.sv (.v (.bool jM)):=by exact rfl)(hx:S.ev x=.sv (.v (.bool false)):=by exact rfl)(hd:d<S.n:=by exact tl Y):RunT P C ops nd K (⟨some d,.pick x y z,ty,pos,aft,some (j_,jM)⟩::rest) acc S:=
 RT.Ml (.some LI LJ) hx hz hd next
theorem gT{j_ g_:Nat}{jM:Bool}{s:SV}(hy:S.ev y=.sv s)(next:RunT P C ops nd K rest (⟨[g_]++(bn x++bn y),[],[],⟨some (d,.sv s),[],[]⟩⟩::acc) (S.set d (.sv s)))(LI:(ops[j_]?).bind (·.dst)=some g_:=by exact rfl)(LJ:S.t g_=.sv (.v (.bool jM)):=by exact rfl)(hx:S.ev x=.sv (.v (.bool true)):=by exact rfl)(hd:d<S.n:=by exact tl Y):RunT P C ops nd K (⟨some d,.pick x y z,ty,pos,aft,some (j_,jM)⟩::rest) acc S:=
 RT.T8 (.some LI LJ) hx hy hd next
theorem gq{j_ g_:Nat}{jM:Bool}(c:Bool)(hx:S.ev x=.sv (.v (.int k p)))(hy:S.ev y=.sv (.v (.int k q)))(hc:(p != q)=c)(next:RunT P C ops nd K rest (⟨[g_]++(bn x++bn y),[],[],⟨some (d,.sv (.v (.bool c))),[],[]⟩⟩::acc) (S.set d (.sv (.v (.bool c)))))(LI:(ops[j_]?).bind (·.dst)=some g_:=by exact rfl)(LJ:S.t g_=.sv (.v (.bool jM)):=by exact rfl)(hd:d<S.n:=by exact tl Y):RunT P C ops nd K (⟨some d,.binOp .neq T x y U,ty,pos,aft,some (j_,jM)⟩::rest) acc S:=
 RT.neq (.some LI LJ) c hx hy hd hc next
theorem gg{j_ g_:Nat}{jM:Bool}(c:Bool)(hx:S.ev x=.sv (.v (.int k p)))(hy:S.ev y=.sv (.v (.int k q)))(hc:decide (q<p)=c)(next:RunT P C ops nd K rest (⟨[g_]++(bn x++bn y),[],[],⟨some (d,.sv (.v (.bool c))),[],[]⟩⟩::acc) (S.set d (.sv (.v (.bool c)))))(LI:(ops[j_]?).bind (·.dst)=some g_:=by exact rfl)(LJ:S.t g_=.sv (.v (.bool jM)):=by exact rfl)(hd:d<S.n:=by exact tl Y):RunT P C ops nd K (⟨some d,.binOp .gtr T x y U,ty,pos,aft,some (j_,jM)⟩::rest) acc S:=
 RT.gtr (.some LI LJ) c hx hy hd hc next
theorem ge_{j_ g_:Nat}{jM:Bool}(c:Bool)(hx:S.ev x=.sv (.v (.int k p)))(hy:S.ev y=.sv (.v (.int k q)))(hc:(p==q)=c)(next:RunT P C ops nd K rest (⟨[g_]++(bn x++bn y),[],[],⟨some (d,.sv (.v (.bool c))),[],[]⟩⟩::acc) (S.set d (.sv (.v (.bool c)))))(LI:(ops[j_]?).bind (·.dst)=some g_:=by exact rfl)(LJ:S.t g_=.sv (.v (.bool jM)):=by exact rfl)(hd:d<S.n:=by exact tl Y):RunT P C ops nd K (⟨some d,.binOp .eql T x y U,ty,pos,aft,some (j_,jM)⟩::rest) acc S:=
 RT.eql (.some LI LJ) c hx hy hd hc next
theorem WL{j_ g_:Nat}{jM:Bool}{b:Bool}(hx:S.ev x=.sv (.v (.bool b)))(c:Bool)(hc:(!b)=c)(next:RunT P C ops nd K rest (⟨[g_]++bn x,[],[],⟨some (d,.sv (.v (.bool c))),[],[]⟩⟩::acc) (S.set d (.sv (.v (.bool c)))))(LI:(ops[j_]?).bind (·.dst)=some g_:=by exact rfl)(LJ:S.t g_=.sv (.v (.bool jM)):=by exact rfl)(hd:d<S.n:=by exact tl Y):RunT P C ops nd K (⟨some d,.unOp .not T x,ty,pos,aft,some (j_,jM)⟩::rest) acc S:=
 RT.not (.some LI LJ) hx hd c hc next
end
section
variable {P:Program}{C:Ctx}{ops:Array Oper}{S:AS}{nd:Bool}{K:List Ac->AS->Prop}{rest:List Oper}{acc:List Ac}
variable {gd:Option (Nat×Bool)}{rg:List Nat}{d:Nat}{ty:TypeId}{pos:String}{aft:Array Edge}{x y z:Operand}{T U E0:TypeId}
theorem mv{s:SV}(hx:S.ev x=.sv s)(next:RunT P C ops nd K rest (⟨[]++bn x,[],[],⟨some (d,.sv s),[],[]⟩⟩::acc) (S.set d (.sv s)))(hd:d<S.n:=by exact tl Y):RunT P C ops nd K (⟨some d,.move x,ty,pos,aft,none⟩::rest) acc S:=
 RT.mv .none hx hd next
theorem ag{s:SV}(hx:S.ev x=.sv s)(next:RunT P C ops nd K rest (⟨[]++bn x,[],[],⟨some (d,.sv s),[],[]⟩⟩::acc) (S.set d (.sv s)))(hd:d<S.n:=by exact tl Y):RunT P C ops nd K (⟨some d,.assign x,ty,pos,aft,none⟩::rest) acc S:=
 RT.BA .none hx hd next
theorem cl{f:FuncId}[dm P f]{g:Operand}{xs:Array Operand}{at_:Array TypeId}{args:List SV}{r:SV}(hp:Pure P f args r)(hargs:gM S xs.toList args)(next:RunT P C ops nd K rest (⟨[]++(bn g++xs.toList.flatMap bn),[],[],⟨some (d,.sv r),[],[]⟩⟩::acc) (S.set d (.sv r)))(hf:S.ev g=.sv (.v (.func (.func f) #[] #[])):=by exact rfl)(hd:d<S.n:=by exact tl Y):RunT P C ops nd K (⟨some d,.call ⟨.value g,xs,at_⟩,ty,pos,aft,none⟩::rest) acc S:=
 RT.call .none hp hf hargs hd next
theorem ld{n:Nat}[tA:Em P T n]{j off:Nat}{B:ur}{cs:List SV}(hx:S.ev x=.ptr j off)(hB:S.b j=some B)(hcs:WH B.cells off cs)(next:RunT P C ops nd K rest (⟨[]++bn x,[j],[],⟨some (d,.sv (.agg cs)),[],[]⟩⟩::acc) (S.set d (.sv (.agg cs))))(hn:cs.length=n:=by exact rfl)(hd:d<S.n:=by exact tl Y):RunT P C ops nd K (⟨some d,.load T x,ty,pos,aft,none⟩::rest) acc S:=
 RT.load .none hx hB hcs hn hd next
theorem lV[tV:Af P T]{j off:Nat}{B:ur}{s:SV}(hx:S.ev x=.ptr j off)(hB:S.b j=some B)(hn:B.cells[off]? =some (.sv s))(next:RunT P C ops nd K rest (⟨[]++bn x,[j],[],⟨some (d,.sv s),[],[]⟩⟩::acc) (S.set d (.sv s)))(hd:d<S.n:=by exact tl Y):RunT P C ops nd K (⟨some d,.load T x,ty,pos,aft,none⟩::rest) acc S:=
 RT.zh .none hx hB hn hd next
theorem fa{f off:Nat}[hf:Eg P T f off U][sU:Mm P U]{j o:Nat}(hx:S.ev x=.ptr j o){o':Nat}(ho':o+off=o')(next:RunT P C ops nd K rest (⟨[]++bn x,[],[],⟨some (d,.ptr j o'),[],[]⟩⟩::acc) (S.set d (.ptr j o')))(hd:d<S.n:=by exact tl Y):RunT P C ops nd K (⟨some d,.fieldAddr T x f,ty,pos,aft,none⟩::rest) acc S:=
 RT.fieldAddr .none hx hd ho' next
theorem so{n:Nat}[tA:Em P T n]{j:Nat}{B:ur}{cs:List SV}[o1:yO cs](hx:S.ev x=.ptr j 0)(hB:S.b j=some B)(hy:S.ev y=.sv (.agg cs))(next:RunT P C ops nd K rest (⟨[]++(bn x++bn y),[j],[],⟨none,[(j,⟨B.T,cs.map AV.sv⟩)],[]⟩⟩::acc) (S.nX j ⟨B.T,cs.map AV.sv⟩))(tg:cs.length=n:=by exact rfl)(hn:B.cells.length=n:=by exact rfl):RunT P C ops nd K (⟨none,.store T x y,ty,pos,aft,none⟩::rest) acc S:=
 RT.store .none hx hB hy tg hn next
theorem ex{i:Nat}{ss:List SV}{s:SV}(hx:S.ev x=.sv (.Bs ss))(hi:ss[i]? =some s)(next:RunT P C ops nd K rest (⟨[]++bn x,[],[],⟨some (d,.sv s),[],[]⟩⟩::acc) (S.set d (.sv s)))(hd:d<S.n:=by exact tl Y):RunT P C ops nd K (⟨some d,.extract x i,ty,pos,aft,none⟩::rest) acc S:=
 RT.extract .none hx hi hd next
theorem bx{cells:List SV}(hx:S.ev x=.sv (.agg cells))(next:RunT P C ops nd K rest (⟨[]++bn x,[d],[],⟨some (d,.ptr d 0),[(d,⟨T,cells.map AV.sv⟩)],[]⟩⟩::acc) ((S.nX d ⟨T,cells.map AV.sv⟩).set d (.ptr d 0)))(hd:d<S.n:=by exact tl Y)(hb:S.b d=none:=by exact rfl)(hp:C.jl d=none:=by exact rfl):RunT P C ops nd K (⟨some d,.box T x,ty,pos,aft,none⟩::rest) acc S:=
 RT.box .none hx hd hb hp next
theorem lr[tV:Af P T]{cells:List SV}{s:SV}(hx:S.ev x=.sv (ref cells))(hn:cells[0]? =some s)(next:RunT P C ops nd K rest (⟨[]++bn x,[],[],⟨some (d,.sv s),[],[]⟩⟩::acc) (S.set d (.sv s)))(hd:d<S.n:=by exact tl Y):RunT P C ops nd K (⟨some d,.load T x,ty,pos,aft,none⟩::rest) acc S:=
 RT.eT .none hx hn hd next
theorem cB{f:FuncId}[dm P f]{g:Operand}{xs:Array Operand}{at_:Array TypeId}{args:List SV}{T:TypeId}{c0 c1:List SV}{res:SV}(hp:abA P f args T c0 res c1)(j:Nat)(hB:S.b j=some ⟨T,c0.map AV.sv⟩)(hargs:gM S xs.toList args)(next:RunT P C ops nd K rest (⟨[]++(bn g++xs.toList.flatMap bn),[j],[],⟨some (d,.sv res),[(j,⟨T,c1.map AV.sv⟩)],[]⟩⟩::acc) ((AS.iM [(j,⟨T,c1.map AV.sv⟩)] S).set d (.sv res)))(hf:S.ev g=.lD f [.box j]:=by exact rfl)(hd:d<S.n:=by exact tl Y):RunT P C ops nd K (⟨some d,.call ⟨.value g,xs,at_⟩,ty,pos,aft,none⟩::rest) acc S:=
 RT.akf .none hp j hB hf hargs hd next
theorem cN{f:FuncId}[dm P f]{g:Operand}{xs:Array Operand}{at_:Array TypeId}{args:List SV}{R:Row}(hp:F7 P f args R)(hargs:gM S xs.toList args)(next:RunT P C ops nd K rest (⟨[]++(bn g++xs.toList.flatMap bn),[],[d],⟨some (d,.row d),[],[(d,.live R)]⟩⟩::acc) ((AS.cK [(d,.live R)] S).set d (.row d)))(hf:S.ev g=.sv (.v (.func (.func f) #[] #[])):=by exact rfl)(hd:d<S.n:=by exact tl Y)(sP:S.r d=.un:=by exact rfl)(Bq:d<1000:=by exact tl Y):RunT P C ops nd K (⟨some d,.call ⟨.value g,xs,at_⟩,ty,pos,aft,none⟩::rest) acc S:=
 RT.adU .none hp hf hargs hd sP Bq next
theorem gm{j_ g_:Nat}{jM:Bool}{s:SV}(hx:S.ev x=.sv s)(next:RunT P C ops nd K rest (⟨[g_]++bn x,[],[],⟨some (d,.sv s),[],[]⟩⟩::acc) (S.set d (.sv s)))(LI:(ops[j_]?).bind (·.dst)=some g_:=by exact rfl)(LJ:S.t g_=.sv (.v (.bool jM)):=by exact rfl)(hd:d<S.n:=by exact tl Y):RunT P C ops nd K (⟨some d,.move x,ty,pos,aft,some (j_,jM)⟩::rest) acc S:=
 RT.mv (.some LI LJ) hx hd next
theorem gl{j_ g_:Nat}{jM:Bool}{n:Nat}[tA:Em P T n]{j off:Nat}{B:ur}{cs:List SV}(hx:S.ev x=.ptr j off)(hB:S.b j=some B)(hcs:WH B.cells off cs)(next:RunT P C ops nd K rest (⟨[g_]++bn x,[j],[],⟨some (d,.sv (.agg cs)),[],[]⟩⟩::acc) (S.set d (.sv (.agg cs))))(LI:(ops[j_]?).bind (·.dst)=some g_:=by exact rfl)(LJ:S.t g_=.sv (.v (.bool jM)):=by exact rfl)(hn:cs.length=n:=by exact rfl)(hd:d<S.n:=by exact tl Y):RunT P C ops nd K (⟨some d,.load T x,ty,pos,aft,some (j_,jM)⟩::rest) acc S:=
 RT.load (.some LI LJ) hx hB hcs hn hd next
theorem gc{j_ g_:Nat}{jM:Bool}{f:FuncId}[dm P f]{g:Operand}{xs:Array Operand}{at_:Array TypeId}{args:List SV}{r:SV}(hp:Pure P f args r)(hargs:gM S xs.toList args)(next:RunT P C ops nd K rest (⟨[g_]++(bn g++xs.toList.flatMap bn),[],[],⟨some (d,.sv r),[],[]⟩⟩::acc) (S.set d (.sv r)))(LI:(ops[j_]?).bind (·.dst)=some g_:=by exact rfl)(LJ:S.t g_=.sv (.v (.bool jM)):=by exact rfl)(hf:S.ev g=.sv (.v (.func (.func f) #[] #[])):=by exact rfl)(hd:d<S.n:=by exact tl Y):RunT P C ops nd K (⟨some d,.call ⟨.value g,xs,at_⟩,ty,pos,aft,some (j_,jM)⟩::rest) acc S:=
 RT.call (.some LI LJ) hp hf hargs hd next
theorem gr{j_ g_:Nat}{jM:Bool}[tV:Af P T]{cells:List SV}{s:SV}(hx:S.ev x=.sv (ref cells))(hn:cells[0]? =some s)(next:RunT P C ops nd K rest (⟨[g_]++bn x,[],[],⟨some (d,.sv s),[],[]⟩⟩::acc) (S.set d (.sv s)))(LI:(ops[j_]?).bind (·.dst)=some g_:=by exact rfl)(LJ:S.t g_=.sv (.v (.bool jM)):=by exact rfl)(hd:d<S.n:=by exact tl Y):RunT P C ops nd K (⟨some d,.load T x,ty,pos,aft,some (j_,jM)⟩::rest) acc S:=
 RT.eT (.some LI LJ) hx hn hd next
end
section
variable {P:Program}{C:Ctx}{ops:Array Oper}{S:AS}{nd:Bool}{K:List Ac->AS->Prop}{rest:List Oper}{acc:List Ac}
variable {gd:Option (Nat×Bool)}{rg:List Nat}{d:Nat}{ty:TypeId}{pos:String}{aft:Array Edge}{x y z:Operand}{T U E0:TypeId}
variable {l l' k:Str}
theorem ww{op:Op}{j g:Nat}{b want:Bool}(next:RunT P C ops nd K rest (⟨[g],[],[],⟨some (d,.sv (.v undef)),[],[]⟩⟩::acc) (S.set d (.sv (.v undef))))(h1:(ops[j]?).bind (·.dst)=some g:=by exact rfl)(h2:S.t g=.sv (.v (.bool b)):=by exact rfl)(hb:b≠want:=by exact sk Y)(hd:d<S.n:=by exact tl Y):RunT P C ops nd K (⟨some d,op,ty,pos,aft,some (j,want)⟩::rest) acc S:=
 RT.skV h1 h2 hb hd next
theorem wu{op:Op}{j g:Nat}{want:Bool}(next:RunT P C ops nd K rest (⟨[g],[],[],⟨some (d,.sv (.v undef)),[],[]⟩⟩::acc) (S.set d (.sv (.v undef))))(h1:(ops[j]?).bind (·.dst)=some g:=by exact rfl)(h2:S.t g=.sv (.v undef):=by exact rfl)(hd:d<S.n:=by exact tl Y):RunT P C ops nd K (⟨some d,op,ty,pos,aft,some (j,want)⟩::rest) acc S:=
 RT.aku h1 h2 hd next
end
section
variable {P:Program}{C:Ctx}{ops:Array Oper}{S:AS}{nd:Bool}{K:List Ac->AS->Prop}{rest:List Oper}{acc:List Ac}
variable {gd:Option (Nat×Bool)}{rg:List Nat}{d:Nat}{ty:TypeId}{pos:String}{aft:Array Edge}{x y z:Operand}{T U E0:TypeId}
variable {α:Type}{l l' k:List α}{e:α->List SV}{n by_:Nat}{zv:Value}
theorem ln{m:Nat}[tS:gP P T E0 m]{c:Int}(hx:S.ev x=.sv (slc n (l.map e)))(hc:(l.length:Int)=c)(next:RunT P C ops nd K rest (⟨[]++bn x,[],[],⟨some (d,.sv (.v (.int .i64 c))),[],[]⟩⟩::acc) (S.set d (.sv (.v (.int .i64 c)))))(hd:d<S.n:=by exact tl Y):RunT P C ops nd K (⟨some d,.call ⟨.builtin .len,#[x],#[T]⟩,ty,pos,aft,none⟩::rest) acc S:=
 RT.VI .none hx hd hc next
theorem al[tz:mN P T zv]{cs:List SV}(hi:cc (zv.cells.toList.map SV.v) cs){av:List AV}(hav:cs.map AV.sv=av)(next:RunT P C ops nd K rest (⟨[]++[],[d],[],⟨some (d,.ptr d 0),[(d,⟨T,av⟩)],[]⟩⟩::acc) ((S.nX d ⟨T,av⟩).set d (.ptr d 0)))(hd:d<S.n:=by exact tl Y)(hb:S.b d=none:=by exact rfl)(hp:C.jl d=none:=by exact rfl):RunT P C ops nd K (⟨some d,.alloc T,ty,pos,aft,none⟩::rest) acc S:=
 RT.Al .none hi hav hd hb hp next
theorem ix[tS:gP P T E0 n]{kk:IntKind}{i:Int}{a:α}(hx:S.ev x=.sv (slc n (l.map e)))(hy:S.ev y=.sv (.v (.int kk i)))(ha:cV l i=some a)(next:RunT P C ops nd K rest (⟨[]++(bn x++bn y),[],[],⟨some (d,.sv (ref (e a))),[],[]⟩⟩::acc) (S.set d (.sv (ref (e a)))))(hd:d<S.n:=by exact tl Y):RunT P C ops nd K (⟨some d,.indexAddr T x y,ty,pos,aft,none⟩::rest) acc S:=
 RT.Sb .none hx hy hd ha next
theorem bl[tS:gP P T E0 n][tE:nU P E0 n by_ zv]{len:Nat}{parts:Array (Nat×Operand)}{qs:List (Nat×List SV)}(hp:vU S parts.toList qs)(hc:yR 0 qs=true)(hl:qs.length=len)(hsz:(qs.all λq=>Nat.beq q.2.length n)=true)(hlen:Nat.ble (len*n) 16777216=true)(VD:(zv.cells.toList.all λv=>v.oneCell')=true)(n7:qs.map (·.2)=l.map e)(next:RunT P C ops nd K rest (⟨[]++rG parts.toList,[],[],⟨some (d,.sv (slc n (l.map e))),[],[]⟩⟩::acc) (S.set d (.sv (slc n (l.map e)))))(hd:d<S.n:=by exact tl Y):RunT P C ops nd K (⟨some d,.buildSlice T len parts,ty,pos,aft,none⟩::rest) acc S:=
 RT.jo .none hp hd hc hl hsz hlen VD n7 next
theorem iR[tS:gP P T E0 n]{i j:Nat}{E1:TypeId}{kk:IntKind}{v:Int}(hx:S.ev x=.row i)(hR:S.r i=.live (TR E1 n e l))(hy:S.ev y=.sv (.v (.int kk v)))(h:qK l v=some j)(next:RunT P C ops nd K rest (⟨[]++(bn x++bn y),[],[i],⟨some (d,.nK i (j*n)),[],[]⟩⟩::acc) (S.set d (.nK i (j*n))))(hd:d<S.n:=by exact tl Y):RunT P C ops nd K (⟨some d,.indexAddr T x y,ty,pos,aft,none⟩::rest) acc S:=
 RT.agl .none hx hR hy hd h next
theorem aI{s X:SV}(hx:S.ev x=.sv s)(hi:SV.imp s X)(next:RunT P C ops nd K rest (⟨[]++bn x,[],[],⟨some (d,.sv X),[],[]⟩⟩::acc) (S.set d (.sv X)))(hd:d<S.n:=by exact tl Y):RunT P C ops nd K (⟨some d,.assign x,ty,pos,aft,none⟩::rest) acc S:=
 RT.aoq .none hx hi hd next
theorem bI{pl:List (Nat×Nat)}{zc:List Value}[tP:l9 P T pl zc]{parts:Array (Nat×Operand)}{qs:List (Nat×List SV)}(hp:vU S parts.toList qs){cs cs':List SV}(hi:cc cs cs')(next:RunT P C ops nd K rest (⟨[]++rG parts.toList,[],[],⟨some (d,.sv (.agg cs')),[],[]⟩⟩::acc) (S.set d (.sv (.agg cs'))))(hf:Dd (λi=>pl[i]?) (zc.map SV.v) qs=some cs:=by exact rfl)(hd:d<S.n:=by exact tl Y):RunT P C ops nd K (⟨some d,.build T parts,ty,pos,aft,none⟩::rest) acc S:=
 RT.agk .none hp hf hi hd next
theorem lR[tV:Af P T][el:EL e 1]{i j:Nat}{E1:TypeId}{a:α}{s:SV}(hx:S.ev x=.nK i (j*1))(hR:S.r i=.live (TR E1 1 e l))(ha:l[j]? =some a)(hs:e a=[s])(next:RunT P C ops nd K rest (⟨[]++bn x,[],[i],⟨some (d,.sv s),[],[]⟩⟩::acc) (S.set d (.sv s)))(hd:d<S.n:=by exact tl Y):RunT P C ops nd K (⟨some d,.load T x,ty,pos,aft,none⟩::rest) acc S:=
 RT.agm .none hx hR ha hs hd next
theorem aR[tS:gP P T E0 n][tE:nU P E0 n by_ zv]{i:Nat}(hx:S.ev x=.row i)(hR:S.r i=.live (TR E0 n e l))(hy:S.ev y=.sv (slc n (k.map e)))(h:lM by_ l k=some l')(next:RunT P C ops nd K rest (⟨[]++(bn x++bn y),[],[i,d],⟨some (d,.row d),[],[(i,.dead),(d,.live (TR E0 n e l'))]⟩⟩::acc) ((AS.cK [(i,.dead),(d,.live (TR E0 n e l'))] S).set d (.row d)))(hd:d<S.n:=by exact tl Y)(sP:S.r d=.un:=by exact rfl)(Bq:d<1000:=by exact tl Y):RunT P C ops nd K (⟨some d,.call ⟨.builtin .append,#[x,y],#[T,T]⟩,ty,pos,aft,none⟩::rest) acc S:=
 RT.apR .none hx hR hy hd sP Bq h next
theorem sR[tV:Af P T][el:EL e 1]{i j:Nat}{E1:TypeId}{s:SV}[o1:One s](a:α)(hs:e a=[s])(hx:S.ev x=.nK i (j*1))(hR:S.r i=.live (TR E1 1 e l))(hy:S.ev y=.sv s)(h:stM l j a=some l')(next:RunT P C ops nd K rest (⟨[]++(bn x++bn y),[],[i],⟨none,[],[(i,.live (TR E1 1 e l'))]⟩⟩::acc) (AS.cK [(i,.live (TR E1 1 e l'))] S)):RunT P C ops nd K (⟨none,.store T x y,ty,pos,aft,none⟩::rest) acc S:=
 RT.aks .none a hs hx hR hy h next
theorem sA[tA:Em P T n][el:EL e n]{i j:Nat}{E1:TypeId}(a:α)(hx:S.ev x=.nK i (j*n))(hR:S.r i=.live (TR E1 n e l))(hy:S.ev y=.sv (.agg (e a)))(h:stM l j a=some l')(next:RunT P C ops nd K rest (⟨[]++(bn x++bn y),[],[i],⟨none,[],[(i,.live (TR E1 n e l'))]⟩⟩::acc) (AS.cK [(i,.live (TR E1 n e l'))] S)):RunT P C ops nd K (⟨none,.store T x y,ty,pos,aft,none⟩::rest) acc S:=
 RT.akt .none a hx hR hy h next
theorem lL{m:Nat}[tS:gP P T E0 m]{i:Nat}{E1:TypeId}{c:Int}(hx:S.ev x=.row i)(hR:S.r i=.live (TR E1 n e l))(hc:(l.length:Int)=c)(next:RunT P C ops nd K rest (⟨[]++bn x,[],[i],⟨some (d,.sv (.v (.int .i64 c))),[],[]⟩⟩::acc) (S.set d (.sv (.v (.int .i64 c)))))(hd:d<S.n:=by exact tl Y):RunT P C ops nd K (⟨some d,.call ⟨.builtin .len,#[x],#[T]⟩,ty,pos,aft,none⟩::rest) acc S:=
 RT.XB .none hx hR hd hc next
theorem cR{f:FuncId}[dm P f]{g:Operand}{xs:Array Operand}{at_:Array TypeId}{args:List AV}{E1:TypeId}{res:AV}(hp:Su P f args (TR E1 n e l) res (l'.flatMap e))(hlen:l'.length=l.length)(i:Nat)(hR:S.r i=.live (TR E1 n e l))(hargs:DA S xs.toList (args.map (AV.Hi i)))(next:RunT P C ops nd K rest (⟨[]++(bn g++xs.toList.flatMap bn),[],[i],⟨some (d,res.Hi i),[],[(i,.live (TR E1 n e l'))]⟩⟩::acc) ((AS.cK [(i,.live (TR E1 n e l'))] S).set d (res.Hi i)))(hrow:args.all AV.F5=true:=by exact rfl)(hres:res.F5=true:=by exact rfl)(hf:S.ev g=.sv (.v (.func (.func f) #[] #[])):=by exact rfl)(hd:d<S.n:=by exact tl Y):RunT P C ops nd K (⟨some d,.call ⟨.value g,xs,at_⟩,ty,pos,aft,none⟩::rest) acc S:=
 RT.agq .none hp hlen i hR hrow hres hf hargs hd next
theorem gn{j_ g_:Nat}{jM:Bool}{m:Nat}[tS:gP P T E0 m]{c:Int}(hx:S.ev x=.sv (slc n (l.map e)))(hc:(l.length:Int)=c)(next:RunT P C ops nd K rest (⟨[g_]++bn x,[],[],⟨some (d,.sv (.v (.int .i64 c))),[],[]⟩⟩::acc) (S.set d (.sv (.v (.int .i64 c)))))(LI:(ops[j_]?).bind (·.dst)=some g_:=by exact rfl)(LJ:S.t g_=.sv (.v (.bool jM)):=by exact rfl)(hd:d<S.n:=by exact tl Y):RunT P C ops nd K (⟨some d,.call ⟨.builtin .len,#[x],#[T]⟩,ty,pos,aft,some (j_,jM)⟩::rest) acc S:=
 RT.VI (.some LI LJ) hx hd hc next
end
section
variable {P:Program}{C:Ctx}{ops:Array Oper}{S:AS}{nd:Bool}{K:List Ac->AS->Prop}{rest:List Oper}{acc:List Ac}
variable {gd:Option (Nat×Bool)}{rg:List Nat}{d:Nat}{ty:TypeId}{pos:String}{aft:Array Edge}{x y z:Operand}{T U E0 E1:TypeId}
theorem fl{f off:Nat}[hf:Eg P T f off U][tV:Af P U]{cs:List SV}{s:SV}(hx:S.ev x=.sv (.agg cs))(hs:cs[off]? =some s)(next:RunT P C ops nd K rest (⟨[]++bn x,[],[],⟨some (d,.sv s),[],[]⟩⟩::acc) (S.set d (.sv s)))(hd:d<S.n:=by exact tl Y):RunT P C ops nd K (⟨some d,.field T x f,ty,pos,aft,none⟩::rest) acc S:=
 RT.field .none hx hs hd next
end
end
end Go.Fw.Z
namespace Go.Fw
section
open Go.RowKit
def Mem.fr(M:Mem)(N:Nat):Mem:=λb o=>if N<=b then M b o else none
theorem Mem.Uo(M:Mem)(N:Nat):(M.fr N).le M:=λb o v h=>by
 unfold Mem.fr at h;split at h
 ·exact h
 cases h
theorem Mem.Up{M M':Mem}(h:M.le M')(N:Nat):(M.fr N).le (M'.fr N):=λb o v e=>by
 unfold Mem.fr at*;split at e
 ·rename_i hn;rw[if_pos hn];exact h b o v e
 cases e
theorem Mem.Jr(M:Mem)(N:Nat):(M.fr N).fr N=M.fr N:=by
 funext b o;unfold Mem.fr;split<;>rfl
def nw(N:Nat)(s:SV):SV:=⟨λM v=>s.h (M.fr N) v/\∀g,v.ownBlock=some g->∃o,M.fr N g o=some (.agg #[]),λhM h=>⟨s.mono (Mem.Up hM N) h.1,λg e=>by obtain⟨o,q⟩:=h.2 g e;exact⟨o,Mem.Up hM N _ _ _ q⟩⟩⟩
theorem fG{N:Nat}{s:SV}:SV.imp (nw N s) s:=λM _ h=>s.mono (Mem.Uo M N) h.1
theorem abS{N:Nat}{s s':SV}(h:SV.imp s s'):SV.imp (nw N s) (nw N s'):=λ_ _ hv=>⟨h _ _ hv.1,hv.2⟩
instance{N:Nat}{s:SV}{n:Nat}[h:Len s n]:Len (nw N s) n:=⟨λM v hv=>h.h M v (fG M v hv)⟩
instance{N:Nat}{s:SV}{n:Nat}{rows:List (List SV)}[h:Slc s n rows]:Slc (nw N s) n rows:=⟨λM v hv=>h.h M v (fG M v hv)⟩
instance{N:Nat}{s:SV}{n sz:Nat}{f:Nat->Nat->SV}[h:Sub s n sz f]:Sub (nw N s) n sz (λa b=>nw N (f a b)):=⟨λM v hv=>by
 obtain⟨a,c,e,hc,hs⟩:=h.h (M.fr N) v hv.1;refine⟨a,c,e,hc,λlo hi h1 h2=>⟨hs lo hi h1 h2,λg hg=>hv.2 g ?_⟩⟩;subst e;cases a with
 |none=>split at hg<;>cases hg
 |some a=>
  split at hg
  ·exact hg
  have e:(a.add (lo*sz)).block=a.block:=by unfold Addr.add;split<;>rfl
  rw[show(Value.slice (Option.map (λx=>x.add (lo*sz)) (some a)) (hi-lo) (c-lo)).ownBlock=some (a.add (lo*sz)).block from rfl,e]at hg;exact hg⟩
instance{N:Nat}{s:SV}[h:One s]:One (nw N s):=⟨λM v hv=>h.h _ v hv.1⟩
class Sup (N:Nat) (s:SV):Prop where
 h:∀M v,s.h M v->s.h (M.fr N) v
instance{N:Nat}{x:Value}:Sup N (.v x):=⟨λ_ _ h=>h⟩
instance{N:Nat}{s:SV}:Sup N (nw N s):=⟨λM v h=>by show s.h ((M.fr N).fr N) v/\∀g,v.ownBlock=some g->∃o,(M.fr N).fr N g o=some (.agg #[]);rw[Mem.Jr];exact h⟩
class abT (N:Nat) (l:List SV):Prop where
 h:∀s∈l,∀M v,s.h M v->s.h (M.fr N) v
instance{N:Nat}:abT N []:=⟨λs h=>by cases h⟩
instance{N:Nat}{s:SV}{l:List SV}[a:Sup N s][b:abT N l]:abT N (s::l):=⟨λt ht=>by
 rcases List.mem_cons.1 ht with rfl|ht
 ·exact a.h
 exact b.h t ht⟩
class Nn (N:Nat) {α:Type} (e:α->List SV):Prop where
 h:∀x,abT N (e x)
instance{N:Nat}:Nn N bk:=⟨λ_=>inferInstance⟩
instance{N:Nat}:Nn N bO:=⟨λ_=>inferInstance⟩
abbrev fZ(N:Nat)(z:Zr):List SV:=[.v (.bool z.neg),nw N (slc 1 (z.w.map bk))]
abbrev fQ(N:Nat)(q:Qr):List SV:=[.v (.bool q.num.neg),nw N (slc 1 (q.num.w.map bk)),.v (.bool q.den.neg),nw N (slc 1 (q.den.w.map bk))]
instance{N:Nat}:EL (fQ N) 4:=⟨λ_=>rfl,λ_=>inferInstance⟩
instance{N:Nat}:Nn N (fQ N):=⟨λ_=>inferInstance⟩
theorem bw{α:Type}{N n:Nat}{e:α->List SV}:SV.imp (.v (.slice none 0 0)) (nw N (slc n (([]:List α).map e))):=λ_ _ h=>⟨.inl ⟨none,h,rfl⟩,λg e=>by rw[show _=Value.slice none 0 0 from h]at e;cases e⟩
theorem IB{α:Type}{n:Nat}{e e':α->List SV}(h:∀x,cc (e' x) (e x))(l:List α):SV.imp (slc n (l.map e')) (slc n (l.map e)):=by
 rintro M v (⟨a,h1,h2⟩|⟨b,o,c,h1,h2,h3,h4⟩)
 ·exact .inl ⟨a,h1,by have:=List.map_eq_nil_iff.1 h2;rw[this];rfl⟩
 refine .inr ⟨b,o,c,by simpa using h1,by simpa using h2,by simpa using h3,λi row hr=>?_⟩;rw[List.getElem?_map]at hr;cases hx:l[i]? with
 |none=>rw[hx]at hr;cases hr
 |some x=>
  rw[hx]at hr;have hr:e x=row:=Option.some.inj hr;subst hr;obtain⟨g1,g2⟩:=h4 i (e' x) (by rw[List.getElem?_map,hx];rfl);refine⟨by rw[cc.len (h x)];exact g1,λk s hs=>?_⟩;obtain⟨s2,A5,hi⟩:=cc.get (h x) hs;obtain⟨y,hy,ho,hh⟩:=g2 k s2 A5;exact⟨y,hy,ho,hi M y hh⟩
theorem zI(N:Nat)(z:Zr):cc (fZ N z) (eZ z):=⟨aq,fG,ak⟩
theorem qI(N:Nat)(q:Qr):cc (fQ N q) (eQ q):=⟨aq,fG,aq,fG,ak⟩
theorem PF{N:Nat}{l:List Qr}:SV.imp (nw N (slc 4 (l.map (fQ N)))) (slc 4 (l.map eQ)):=λM v h=>IB (qI N) l M v (fG M v h)
theorem No{N n:Nat}{α:Type}{e:α->List SV}[he:Nn N e]{l:List α}{M:Mem}{v:Value}(h:(slc n (l.map e)).h M v)(hb:∀g,v.ownBlock=some g->N<=g/\∃o,M g o=some (.agg #[])):(nw N (slc n (l.map e))).h M v:=by
 refine⟨?_,λg hg=>by obtain⟨h1,o,h2⟩:=hb g hg;exact⟨o,by unfold Mem.fr;rw[if_pos h1];exact h2⟩⟩;rcases h with⟨a,h1,h2⟩|⟨b,o,c,h1,h2,h3,h4⟩
 ·exact .inl ⟨a,h1,h2⟩
 have hN:N<=b:=(hb b (by rw[h1];rfl)).1;refine .inr ⟨b,o,c,h1,h2,h3,λi row hr=>⟨(h4 i row hr).1,λk s hs=>?_⟩⟩;obtain⟨y,hy,ho,hh⟩:=(h4 i row hr).2 k s hs;refine⟨y,by unfold Mem.fr;rw[if_pos hN];exact hy,ho,?_⟩;rw[List.getElem?_map]at hr;cases hx:l[i]? with
 |none=>rw[hx]at hr;cases hr
 |some x=>
  rw[hx]at hr;have hr:e x=row:=Option.some.inj hr;subst hr;exact(he.h x).h s (List.mem_of_getElem? hs) M y hh
section
variable {P:Program}{C:Ctx}{S:AS}{Q:Exit->AS->Prop}
theorem bz.abU{E:Env}{a:Act}{w:World}(h:bz C S E a w)(vs:List Value)(T:TypeId)(hone:∀v∈vs,v.oneCell'=true):bz C S {E with M:=λb o=>if b=w.heap.size then(vs++[.agg #[]])[o]? else E.M b o} a (w.alloc (.cells ⟨vs⟩ T)):=by
 have hno:∀o,E.M w.heap.size o=none:=λo=>by
  cases e:E.M w.heap.size o with
  |none=>rfl
  |some v=>have:=nL h.dH e;omega
 refine h.grow (λb o v e=>?_) (λb o v e=>?_) (λb o v e=>?_) (((Below.refl _ _).alloc (Nat.le_refl _) _))
 ·have:b≠w.heap.size:=by rintro rfl;rw[hno o]at e;cases e
  simp[this,e]
 ·by_cases hb:b=w.heap.size
  ·exact .inr ξ
  simp only[if_neg hb]at e;exact .inl e
 by_cases hb:b=w.heap.size
 ·subst hb;simp only[if_true]at e;by_cases ho:o<vs.length
  ·rw[List.getElem?_append_left ho]at e;refine .of ?_ (hone v (List.mem_of_getElem? e));rw[World.cell?_alloc_new];simpa using e
  rw[List.getElem?_append_right ξ]at e;cases Js:o-vs.length with
  |succ k=>rw[Js]at e;simp at e
  |zero=>
   rw[Js]at e;simp at e;subst e;exact⟨⟨vs⟩,T,by show(w.heap.push _)[w.heap.size]? =_;rw[Array.getElem?_push,if_pos rfl]⟩
 simp only[if_neg hb]at e;refine(h.dH b o v e).same ?_;show(w.heap.push _)[b]? =_;rw[Array.getElem?_push,if_neg hb]
theorem jD{c:Code}{i n N:Nat}{E1:TypeId}{α:Type}{e:α->List SV}{l:List α}[el:EL e n][he:Nn N e](hN:N<=C.w0.heap.size)(hb:∀k,¬C.A4 k)(hR:S.r i=.live (TR E1 n e l))(hk:Ok P C c (S.vT i (nw N (slc n (l.map e)))) Q):Ok P C c S Q:=λa w hs=>by
 obtain⟨E,h⟩:=hs;have hlen:l.length<=9223372036854775807:=by
  obtain⟨⟨vs,ho,hv⟩,_⟩:=h.rx i _ hR;rcases ho.2 with⟨_,q2⟩|⟨g',cap,cur,q1,_,q2,q3,q4,q5,q6⟩
  ·have q2:l.length=0:=q2;omega
  have q3:l.length<=cap:=q3;have:maxLen=9223372036854775807:=by decide
  omega
 exact hk a w (h.vT hR (uP l) (by rw[List.length_map]) hlen (oS l) (λM v hv hg=>No hv (λg e=>⟨(hg g e).1.elim (λq=>Nat.le_trans hN q) (λq=>absurd q (hb g)),(hg g e).2⟩)))
def dB(P:Program)(f:FuncId)(N:Nat)(args:List SV)(r:SV):Prop:=
 ∀(M:Mem) (w:World) (vs:List Value),N<=w.heap.size->M.dH w->SV.eJ M args vs->
  Calls P f ⟨vs⟩ w λe w'=>∃v M',e=.returned v/\M.le M'/\(∀b o x,M' b o=some x->M b o=some x\/w.heap.size<=b)/\M'.dH w'/\r.h M' v/\Below w.heap.size w w'
theorem dB.w{f:FuncId}{N:Nat}{args args':List SV}{r:SV}(h:dB P f N args r)(hi:cc args' args):dB P f N args' r:=λM w vs hN hM hv=>h M w vs hN hM (hi.holds hv)
theorem bX{f:FuncId}{fn:Func}{code:Code}{N:Nat}{args:List SV}{r:SV}(hf:P.funcs[f]? =some fn)(hb:fn.body=some code)(hn:args.length<=fn.ntmps)
  (h:∀(w:World) (M:Mem) (vs:List Value),N<=w.heap.size->SV.eJ M args vs->Ok P (C0 w M) code (AS.init fn.ntmps args) (λe S=>(e=.normal\/e=.ret)/\WI P S fn.results.toList r)):dB P f N args r:=by
 intro M w vs hN hM hvs;refine(callsIn_wide (n:=0)).1 (callsIn_of_wp_marks (F:=Fence.wide) hf hb trivial ?_);refine wpIn_mono (h w M vs hN hvs _ w ⟨_,iA hM hvs hn⟩) ?_;rintro e a' w' ⟨S',⟨he,ss,hss,himp⟩,E,hh⟩;have key:LeavesInM Fence.wide 0 P fn a'.tmps (λe w'=>∃v M',e=.returned v/\M.le M'/\(∀b o x,M' b o=some x->M b o=some x\/w.heap.size<=b)/\M'.dH w'/\r.h M' v/\Below w.heap.size w w') a'.defers .returning w':=by
  obtain⟨ds,h1,h2,h3⟩:=hh.marks;rw[h1];refine rE ds w' h2 (λr hr=>(h3 r hr).2.2) (λw2 g1 g2 g3 g4 g5=>?_);have Dx:=hh.Er h3 g1 g2 g3 g4 g5;obtain⟨v,hv,hs⟩:=Ep Dx hss;refine⟨v,hv,v,E.M,Y,Dx.m0,λb o x e=>?_,Dx.dH,himp _ _ hs,Dx.os,Dx.tape,Dx.output,Dx.grown,λk hk=>Dx.frame k hk (λh=>h)⟩;rcases Dx.fu b o x e with h|h|h
  ·exact .inl h
  ·exact .inr h
  exact h.elim
 rcases he with rfl|rfl
 ·exact key
 exact key
theorem abV{f:FuncId}{N:Nat}{args:List SV}{E1:TypeId}{n:Nat}{α:Type}{e:α->List SV}{l:List α}[el:EL e n][he:Nn N e](hp:F7 P f args (TR E1 n e l)):dB P f N args (nw N (slc n (l.map e))):=by
 intro M w vs hN hM hvs;refine(hp M w vs hM hvs).mono ?_;rintro ex w' ⟨v,M',us,rfl,hle,hnew,hin,hown,Is,qj,akB⟩;have n7:Rows n (l.map e) (l.flatMap e):=uP l;have tg:=Bx n7;rcases hown.2 with⟨h1,h2⟩|⟨g,cap,cur,h1,_,h2,h3,_,h5,h6⟩
 ·exact⟨v,M',rfl,hle,hnew,hin,⟨.inl ⟨none,h1,by have h2:l.length=0:=h2;rw[List.length_eq_zero_iff.1 h2];rfl⟩,λg e=>by rw[h1]at e;cases e⟩,akB⟩
 have hg:v.ownBlock=some g:=by rw[h1];rfl
 obtain⟨hge,hno⟩:=qj g hg;have h3:l.length<=cap:=h3;have avE:maxLen=9223372036854775807:=by decide
 refine⟨v,λb o=>if b=g/\o<l.length*n then us[o]? else if b=g/\o=l.length*n then some (.agg #[])else M' b o,Y,λb o x q=>?_,λb o x q=>?_,λb o x q=>?_,?_,akB⟩
 ·have:=hle b o x q;have:b≠g:=by rintro rfl;rw[hno o]at this;cases this
  simp[this];assumption
 ·simp only at q;split at q
  ·rename_i hc;exact .inr (by rw[hc.1];exact hge)
  split at q
  ·rename_i hc;exact .inr (by rw[hc.1];exact hge)
  exact hnew b o x q
 ·simp only at q;split at q
  ·rename_i hc;obtain⟨rfl,Ph⟩:=hc;refine .of ?_ (oS l _ _ Is x (List.mem_of_getElem? q));simp only[World.cell?,h2];have h6:cur.toList.take (l.length*n)=us:=h6;rw[<-h6,List.getElem?_take,if_pos Ph]at q;simpa using q
  split at q
  ·rename_i hc;cases q;rw[hc.1];exact⟨_,_,h2⟩
  exact hin b o x q
 refine No ?_ (λg' e'=>by rw[hg]at e';cases e';exact⟨Nat.le_trans hN hge,l.length*n,by simp⟩);refine .inr ⟨g,0,cap,by rw[h1,List.length_map],by rw[List.length_map];exact h3,by rw[List.length_map];omega,λk row hk=>?_⟩;obtain⟨q1,q2⟩:=zw n7 k row hk;refine⟨q1,λj s hs=>?_⟩;have A5:=q2 j s hs;obtain⟨y,hy,hys⟩:=Is.get A5;have hlt:k*n+j<l.length*n:=by
  have:=(List.getElem?_eq_some_iff.1 A5).1;rw[tg,List.length_map]at this;exact this
 refine⟨y,by simp[hlt,hy],oS l _ _ Is y (List.mem_of_getElem? hy),s.mono (λb o x q=>?_) hys⟩;have:b≠g:=by rintro rfl;rw[hno o]at q;cases q
 simp[this,q]
end
section
variable {P:Program}{C:Ctx}{ops:Array Oper}{S:AS}{nd:Bool}{K:List Ac->AS->Prop}{rest:List Oper}{acc:List Ac}
variable {gd:Option (Nat×Bool)}{rg:List Nat}{d:Nat}{ty:TypeId}{pos:String}{aft:Array Edge}{x y z:Operand}{T U E0:TypeId}
variable {α:Type}{l l' k:List α}{e:α->List SV}{n by_ N:Nat}{zv:Value}
theorem RT.cf(hg:Gd ops S gd rg){f:FuncId}[dm P f]{g:Operand}{xs:Array Operand}{at_:Array TypeId}{args:List SV}{r:SV}(hp:dB P f N args r)(hN:N<=C.w0.heap.size)(hf:S.ev g=.sv (.v (.func (.func f) #[] #[])))(hargs:gM S xs.toList args)(hd:d<S.n)
  (next:RunT P C ops nd K rest (⟨rg++(bn g++xs.toList.flatMap bn),[],[],⟨some (d,.sv r),[],[]⟩⟩::acc) (S.set d (.sv r))):RunT P C ops nd K (⟨some d,.call ⟨.value g,xs,at_⟩,ty,pos,aft,gd⟩::rest) acc S:=by
 refine .inl ⟨_,[],[],_,?_,next⟩;rintro S' hn ht _ _ i a w L Q ho ⟨E,h⟩ hL;refine dj (C:=C) ho (hg.wanted h (λs hs=>ht s (List.mem_append_left _ hs)) Y) ?_;have wY:a.eval g=.func (.func f) #[] #[]:=by
  have h1:=h.ev g;rw[bT (λ_ h=>List.mem_append_right _ (List.mem_append_left _ h)) ht,hf]at h1;exact h1
 have hall:=gM.vals h hargs (λs hs=>ht s (List.mem_append_right _ (List.mem_append_right _ hs)));have hr:(execOp a.eval ⟨some d,.call ⟨.value g,xs,at_⟩,ty,pos,aft,gd⟩).run P w=.ok (.enter f ⟨xs.toList.map a.eval⟩) w:=by
  have e2:xs.map a.eval=⟨xs.toList.map a.eval⟩:=by apply Array.ext';simp
  have e1:=dm.run (P:=P) (f:=f) (xs.map a.eval) w;rw[<-e2];simp[execOp,resolve,wY,Deferred.ofValue,invoke,e1]
 refine dh (C:=C) aE hr<|⟨λh=>by simp at h,gG ((hp E.M w _ (Nat.le_trans hN h.grown) h.dH hall).mono ?_)⟩;rintro e w' ⟨v,M',rfl,hM,hnew,hin,hv,hb⟩;exact hL _ _ ⟨_,(h.grow hM hnew hin hb).put (x:=.sv r) hv (by show d<S'.n;omega) iu⟩
theorem RT.Jt(hg:Gd ops S gd rg){m:Nat}[tS:gP P T E0 m]{c:Int}(hx:S.ev x=.sv (nw N (slc n (l.map e))))(hd:d<S.n)(hc:(l.length:Int)=c)
  (next:RunT P C ops nd K rest (⟨rg++bn x,[],[],⟨some (d,.sv (.v (.int .i64 c))),[],[]⟩⟩::acc) (S.set d (.sv (.v (.int .i64 c))))):RunT P C ops nd K (⟨some d,.call ⟨.builtin .len,#[x],#[T]⟩,ty,pos,aft,gd⟩::rest) acc S:=
 RT.len hg hx hd (by rw[List.length_map,hc];exact next)
theorem RT.akC(hg:Gd ops S gd rg)[tS:gP P T E0 n]{kk:IntKind}{i:Int}{a:α}(hx:S.ev x=.sv (nw N (slc n (l.map e))))(hy:S.ev y=.sv (.v (.int kk i)))(hd:d<S.n)(ha:cV l i=some a)
  (next:RunT P C ops nd K rest (⟨rg++(bn x++bn y),[],[],⟨some (d,.sv (ref (e a))),[],[]⟩⟩::acc) (S.set d (.sv (ref (e a))))):RunT P C ops nd K (⟨some d,.indexAddr T x y,ty,pos,aft,gd⟩::rest) acc S:=
 RT.indexAddr hg (e a) hx hy hd (zx ha).1 (by rw[List.getElem?_map,(zx ha).2];rfl) next
theorem RT.abW(hg:Gd ops S gd rg)[tS:gP P T E0 n]{lo hi:Option Operand}(a b:Int)(hx:S.ev x=.sv (nw N (slc n (l.map e))))(hlo:Jd S 0 lo a)(hhi:Jd S l.length hi b)(hd:d<S.n)(h:HR l a b=some l')
  (next:RunT P C ops nd K rest (⟨rg++(bn x++(vV lo++vV hi)),[],[],⟨some (d,.sv (nw N (slc n (l'.map e)))),[],[]⟩⟩::acc) (S.set d (.sv (nw N (slc n (l'.map e)))))):RunT P C ops nd K (⟨some d,.slice T x lo hi none,ty,pos,aft,gd⟩::rest) acc S:=by
 obtain⟨h0,h1,h2,h3⟩:=Mo h;exact RT.slice hg hx a b hlo (by rw[List.length_map];exact hhi) hd h0 h1 (by rw[List.length_map];exact h2) _ (by rw[Ue,h3]) next
theorem RT.akD(hg:Gd ops S gd rg)[tS:gP P T E0 n][tE:nU P E0 n by_ zv][el:EL e n][he:Nn N e]{i:Nat}(hN:N<=C.w0.heap.size)(hb:∀k,¬C.A4 k)(hx:S.ev x=.row i)(hR:S.r i=.live (TR E0 n e l))(hy:S.ev y=.sv (slc n (k.map e)))(hd:d<S.n)(sP:S.r d=.un)(Bq:d<1000)(h:lM by_ l k=some l')
  (next:RunT P C ops nd K rest (⟨rg++(bn x++bn y),[],[d,i],⟨some (d,.sv (nw N (slc n (l'.map e)))),[],[(i,.dead),(d,.dead)]⟩⟩::acc) ((AS.cK [(i,.dead),(d,.dead)] S).set d (.sv (nw N (slc n (l'.map e)))))):RunT P C ops nd K (⟨some d,.call ⟨.builtin .append,#[x,y],#[T,T]⟩,ty,pos,aft,gd⟩::rest) acc S:=by
 obtain⟨h1,h2,rfl⟩:=BE h;have hf:l.flatMap e++(k.map e).flatten=(l++k).flatMap e:=by simp[zy]
 exact RT.Uj hg (.row hx hR) hy hd sP Bq (by simpa using h1) (by simpa using h2) _ (rows':=(l++k).map e) (λ_ _ hv hg=>No hv (λg e=>⟨(hg g e).1.elim (λq=>Nat.le_trans hN q) (λq=>absurd q (hb g)),(hg g e).2⟩)) (by rw[hf];exact uP _) θ (by rw[hf];exact oS _) next
theorem RT.BH(hg:Gd ops S gd rg)[tS:gP P T E0 n][tE:nU P E0 n by_ zv][he:Nn N e](hN:N<=C.w0.heap.size){len:Nat}{parts:Array (Nat×Operand)}{qs:List (Nat×List SV)}(hp:vU S parts.toList qs)(hd:d<S.n)
  (hc:yR 0 qs=true) (hl:qs.length=len) (hsz:(qs.all λq=>Nat.beq q.2.length n)=true) (hlen:Nat.ble (len*n) 16777216=true) (VD:(zv.cells.toList.all λv=>v.oneCell')=true) (n7:qs.map (·.2)=l.map e)
  (next:RunT P C ops nd K rest (⟨rg++rG parts.toList,[],[],⟨some (d,.sv (nw N (slc n (l.map e)))),[],[]⟩⟩::acc) (S.set d (.sv (nw N (slc n (l.map e)))))):RunT P C ops nd K (⟨some d,.buildSlice T len parts,ty,pos,aft,gd⟩::rest) acc S:=by
 refine .inl ⟨_,[],[],_,?_,next⟩;rintro S' hn ht _ _ i a w L Q ho ⟨E,h⟩ hL;refine dj (C:=C) ho (hg.wanted h (λs hs=>ht s (List.mem_append_left _ hs)) Y) ?_;obtain⟨vs,hr,hall,hone⟩:=wZ (P:=P) (T:=T) (E0:=E0) (n:=n) (by_:=by_) (zv:=zv) (d:=d) (ty:=ty) (pos:=pos) (aft:=aft) (gd:=gd) h hp (λs hs=>ht s (List.mem_append_right _ hs)) hc hl hsz (ae hlen) (List.all_eq_true.1 VD);refine dh (C:=C) aE hr (hL _ _ ⟨_,(h.abU vs E0 hone).put (d:=d) (x:=.sv (nw N (slc n (l.map e)))) (v:=.slice (some ⟨w.heap.size,0,none⟩) len len) ?_ (by show d<S'.n;omega) iu⟩);have hrw:Rows n (qs.map (·.2)) (qs.map (·.2)).flatten:=⟨Y,λr hr=>by
  obtain⟨q,hq,rfl⟩:=List.mem_map.1 hr;exact Nat.eq_of_beq_eq_true (List.all_eq_true.1 hsz q hq)⟩
 have Xj:=tE.p;have hlb:len<=16777216:=Nat.le_trans (Nat.le_mul_of_pos_right _ Xj) (ae hlen);refine No ?_ (λg e=>by cases e;exact⟨Nat.le_trans hN h.grown,vs.length,by simp⟩);rw[<-n7];refine .inr ⟨w.heap.size,0,len,by rw[List.length_map,hl],by rw[List.length_map,hl];exact Nat.le_refl _,by rw[List.length_map,hl];omega,λk row hk=>?_⟩;obtain⟨q1,q2⟩:=zw hrw k row hk;refine⟨q1,λj s hs=>?_⟩;obtain⟨y,hy,hys⟩:=hall.get (q2 j s hs);refine⟨y,by show(if w.heap.size=w.heap.size then(vs++[Value.agg #[]])[0+k*n+j]? else _)=_;rw[if_pos Y,Nat.zero_add,List.getElem?_append_left (List.getElem?_eq_some_iff.1 hy).1];exact hy,hone y (List.mem_of_getElem? hy),s.mono (λb o v e=>?_) hys⟩;have:b≠w.heap.size:=by rintro rfl;have:=nL h.dH e;omega
 simp[this,e]
end
end
section
open Go.RowKit
abbrev fS(N n:Nat){α:Type}(e:α->List SV)(x:List α):List SV:=[nw N (slc n (x.map e))]
instance{N n:Nat}{α:Type}{e:α->List SV}:EL (fS N n e) 1:=⟨λ_=>rfl,λ_=>inferInstance⟩
instance{N n:Nat}{α:Type}{e:α->List SV}:Nn N (fS N n e):=⟨λ_=>inferInstance⟩
theorem dK{P:Program}{f:FuncId}{args:List SV}{r:Nat->SV}{s:SV}(hp:∀N,dB P f N args (r N))(hi:∀N,SV.imp (r N) s):Pure P f args s:=λM w vs hM hv=>(hp w.heap.size M w vs (Nat.le_refl _) hM hv).mono (λ_ _ ⟨v,M',h1,h2,h3,h4,h5,h6⟩=>⟨v,M',h1,h2,h3,h4,hi _ _ _ h5,h6⟩)
theorem akE{N:Nat}{l:List (List Qr)}:SV.imp (nw N (slc 1 (l.map (fS N 4 (fQ N))))) (slc 1 (l.map (eS 4 eQ))):=λM v h=>IB (e':=fS N 4 (fQ N)) (e:=eS 4 eQ) (λ_=>⟨PF,ak⟩) l M v (fG M v h)
section steps
variable {P:Program}{C:Ctx}{ops:Array Oper}{S:AS}{nd:Bool}{K:List Ac->AS->Prop}{rest:List Oper}{acc:List Ac}{N:Nat}
variable {gd:Option (Nat×Bool)}{rg:List Nat}{d:Nat}{ty:TypeId}{pos:String}{aft:Array Edge}{x y z:Operand}{T U E0:TypeId}
theorem RT.ags(hg:Gd ops S gd rg){f:FuncId}[dm P f]{g:Operand}{xs:Array Operand}{at_:Array TypeId}{args caps:List SV}{r:SV}(hp:dB P f N (args++caps) r)(hN:N<=C.w0.heap.size)(hf:S.ev g=.sv (oQ f caps))(hargs:gM S xs.toList args)(hd:d<S.n)
  (next:RunT P C ops nd K rest (⟨rg++(bn g++xs.toList.flatMap bn),[],[],⟨some (d,.sv r),[],[]⟩⟩::acc) (S.set d (.sv r))):RunT P C ops nd K (⟨some d,.call ⟨.value g,xs,at_⟩,ty,pos,aft,gd⟩::rest) acc S:=by
 refine .inl ⟨_,[],[],_,?_,next⟩;rintro S' hn ht _ _ i a w L Q ho ⟨E,h⟩ hL;refine dj (C:=C) ho (hg.wanted h (λs hs=>ht s (List.mem_append_left _ hs)) Y) ?_;have wY:(oQ f caps).h E.M (a.eval g):=by
  have h1:=h.ev g;rw[bT (λ_ h=>List.mem_append_right _ (List.mem_append_left _ h)) ht,hf]at h1;exact h1
 obtain⟨yh,wY,Lq⟩:=wY;have hall:=SV.eJ.append (gM.vals h hargs (λs hs=>ht s (List.mem_append_right _ (List.mem_append_right _ hs)))) Lq;have hr:(execOp a.eval ⟨some d,.call ⟨.value g,xs,at_⟩,ty,pos,aft,gd⟩).run P w=.ok (.enter f ⟨xs.toList.map a.eval++yh⟩) w:=by
  have e2:xs.map a.eval++⟨yh⟩=⟨xs.toList.map a.eval++yh⟩:=by apply Array.ext';simp
  have e1:=dm.run (P:=P) (f:=f) (xs.map a.eval++⟨yh⟩) w;rw[<-e2];simp[execOp,resolve,wY,Deferred.ofValue,invoke,e1]
 refine dh (C:=C) aE hr<|⟨λh=>by simp at h,gG ((hp E.M w _ (Nat.le_trans hN h.grown) h.dH hall).mono ?_)⟩;rintro e w' ⟨v,M',rfl,hM,hnew,hin,hv,hb⟩;exact hL _ _ ⟨_,(h.grow hM hnew hin hb).put (x:=.sv r) hv (by show d<S'.n;omega) iu⟩
end steps
end
end Go.Fw
namespace Go.Proofs.YtningmnklfpfjaaGreat
section
open Go.Fw
noncomputable def gW(x0:List Nat):Option (List Nat):=lM 4 [] x0
noncomputable def cW(x0:Nat)(c0:Nat):Option (Nat×Nat):=(some ((x0+c0)%18446744073709551616)).bind λx6=>(some (x6/2^32)).bind λx8=>(some (x6%4294967296)).bind λdN=>some (dN,x8)
noncomputable def bV(x0:List Nat):Option (List Nat):=(cm (λ(HT:(List Nat))=>(show Option (((List Nat))⊕((List Nat)))from cX (λ(Ju:Bool)=>(bif Ju then(some (HT.length:Int)).bind λdZ=>(some (IntKind.i64.wrap (dZ-1))).bind λfe=>(HR HT 0 fe).bind λkI=>some (.inl kI)else some (.inr HT))) λGe=>(some (HT.length:Int)).bind λx4=>(some (decide ((0:Int)<x4))).bind λx5=>(bif x5 then(some (HT.length:Int)).bind λx9=>(some (IntKind.i64.wrap (x9-1))).bind λdN=>(cV HT dN).bind λfy=>(some (decide ((fy:Nat)=0))).bind λeP=>some eP else some false).bind λGf=>Ge Gf)) x0).bind λJv=>some Jv
noncomputable def dD(x0:Bool)(x1:List Nat):Option (Zr):=(bV x1).bind λx6=>(some (x6.length:Int)).bind λx8=>(some (decide ((x8:Int)=0))).bind λx9=>(bif x9 then some ⟨false,[]⟩else some ⟨x0,x6⟩)
noncomputable def iO(x0:Bool)(x1:Nat):Option (Zr):=(some (decide ((x1:Nat)=0))).bind λx7=>(bif x7 then some ⟨false,[]⟩else(some (x1/2^32)).bind λfy=>(some (decide ((fy:Nat)=0))).bind λdr=>(bif dr then(some (x1%4294967296)).bind λdO=>some ⟨x0,[dO]⟩else(some (x1%4294967296)).bind λiz=>(some (x1/2^32)).bind λiE=>(some (iE%4294967296)).bind λiN=>some ⟨x0,[iz,iN]⟩))
noncomputable def fX(x0:List Nat):Option (Nat):=(some (x0.length:Int)).bind λx4=>(some (decide ((x4:Int)=0))).bind λx6=>(bif x6 then some 0 else(some (decide ((x4:Int)=1))).bind λx8=>(bif x8 then(cV x0 0).bind λdN=>(some (dN%18446744073709551616)).bind λdr=>some dr else(cV x0 0).bind λeL=>(some (eL%18446744073709551616)).bind λfD=>(cV x0 1).bind λfe=>(some (fe%18446744073709551616)).bind λiz=>(some (iz*2^32%18446744073709551616)).bind λfR=>(some ((fD ||| fR)%18446744073709551616)).bind λiE=>some iE))
noncomputable def ef(x0:List Nat)(x1:List Nat):Option (Int):=(some (x0.length:Int)).bind λx7=>(some (x1.length:Int)).bind λx9=>(some (decide ((x7:Int)≠x9))).bind λdN=>(bif dN then(some (x0.length:Int)).bind λdr=>(some (x1.length:Int)).bind λeL=>(some (decide ((dr:Int)<eL))).bind λdO=>(bif dO then some (-1)else some 1)else(some (x0.length:Int)).bind λdZ=>(some (IntKind.i64.wrap (dZ-1))).bind λfe=>(cm (λ(jc:Int)=>(show Option ((Int)⊕((Unit)⊕(Int)))from(some (decide ((0:Int)<=jc))).bind λiz=>(bif iz then(cV x0 jc).bind λkD=>(cV x1 jc).bind λjd=>(some (decide ((kD:Nat)≠jd))).bind λmP=>(bif mP then(cV x0 jc).bind λzk=>(cV x1 jc).bind λwA=>(some (decide ((zk:Nat)<wA))).bind λmI=>(bif mI then some (.inr (.inr (-1)))else some (.inr (.inr 1)))else(some (IntKind.i64.wrap (jc-1))).bind λiE=>some (.inl iE))else some (.inr (.inl ()))))) fe).bind λe6=>match e6 with|.inr v6=>some v6|.inl _=>some 0)
noncomputable def iF(x0:List Nat)(x1:List Nat):Option (List Nat):=(some (x0.length:Int)).bind λdN=>(some (x1.length:Int)).bind λdr=>(some (max (dN:Int) dr)).bind λeP=>(some (IntKind.i64.wrap (eP+1))).bind λeL=>(Xu (α:=Nat) 4 eL).bind λdO=>(tq (λ(k:Nat) (s7:Nat×(List Nat))=>match s7 with|⟨EC,n8⟩=>(show Option (Nat×(List Nat))from(some (x0.getD k 0%18446744073709551616)).bind λp20=>(some (x1.getD k 0%18446744073709551616)).bind λp21=>(some ((p20+p21)%18446744073709551616)).bind λjw=>(cW jw EC).bind λ⟨jm,k9⟩=>(lM 4 n8 [jm]).bind λjd=>some (k9,jd))) (max x0.length x1.length) (0,dO)).bind λe7=>match e7 with|⟨EC,n8⟩=>(cW 0 EC).bind λ⟨kN,k11⟩=>(lM 4 n8 [kN]).bind λzk=>some zk
noncomputable def ff(x0:List Nat)(x1:List Nat):Option (List Nat):=(some (x0.length:Int)).bind λdN=>(Xu (α:=Nat) 4 dN).bind λfy=>(tq (λ(k:Nat) (s7:Nat×(List Nat))=>match s7 with|⟨IC,n8⟩=>(show Option (Nat×(List Nat))from(some (x0.getD k 0%18446744073709551616)).bind λp16=>(some (x1.getD k 0%18446744073709551616)).bind λp17=>(some (w6 18446744073709551616 4294967295 p17)).bind λiE=>(some ((p16+iE)%18446744073709551616)).bind λiN=>(cW iN IC).bind λ⟨iv,k9⟩=>(lM 4 n8 [iv]).bind λjw=>some (k9,jw))) (max x0.length x1.length) (1,fy)).bind λe7=>match e7 with|⟨IC,n8⟩=>some n8
noncomputable def jW(x0:List Nat)(x1:List Nat):Option (List Nat):=(some (x0.length:Int)).bind λdr=>(some (x1.length:Int)).bind λeL=>(some (IntKind.i64.wrap (dr+eL))).bind λdO=>(Ln 4 dO (0:Nat)).bind λfD=>(some (x0.length:Int)).bind λfe=>(cm (λ(VJ:Int×(List Nat))=>match VJ with|⟨w8,Np⟩=>(show Option ((Int×(List Nat))⊕((List Nat)))from(some (decide ((w8:Int)<fe))).bind λiz=>(bif iz then(cV x0 w8).bind λiE=>(some (x1.length:Int)).bind λjw=>(cm (λ(Nq:Int×Nat×(List Nat))=>match Nq with|⟨Gg,ED,DG⟩=>(show Option ((Int×Nat×(List Nat))⊕(Nat×(List Nat)))from(some (decide ((Gg:Int)<jw))).bind λlO=>(bif lO then(cV x1 Gg).bind λvY=>(some (IntKind.i64.wrap (w8+Gg))).bind λqe=>(some (IntKind.i64.wrap (w8+Gg))).bind λmI=>(qK DG mI).bind λyj=>(DG[yj]?).bind λry=>(some (ry%18446744073709551616)).bind λA6=>(some (iE%18446744073709551616)).bind λvZ=>(some (vY%18446744073709551616)).bind λw9=>(some ((vZ*w9)%18446744073709551616)).bind λtD=>(some ((A6+tD)%18446744073709551616)).bind λx49=>(cW x49 ED).bind λ⟨yU,k41⟩=>(qK DG qe).bind λBr=>(stM DG Br yU).bind λl42=>(some (IntKind.i64.wrap (Gg+1))).bind λzm=>some (.inl (zm,k41,l42))else some (.inr (ED,DG))))) (0,0,Np)).bind λe38=>match e38 with|⟨PG,SC⟩=>(some (x1.length:Int)).bind λLs=>(some (IntKind.i64.wrap (w8+Ls))).bind λLt=>(cW 0 PG).bind λ⟨Sc,k45⟩=>(qK SC Lt).bind λPI=>(stM SC PI Sc).bind λl46=>(some (IntKind.i64.wrap (w8+1))).bind λHl=>some (.inl (Hl,l46))else some (.inr Np)))) (0,fD)).bind λDH=>some DH
noncomputable def me(x0:List Nat)(x1:Nat):Option (Nat×List Nat):=(some (x0.length:Int)).bind λx9=>(some (IntKind.i64.wrap (x9-1))).bind λdN=>(cm (λ(s8:Nat×Int×(List Nat))=>match s8 with|⟨XJ,PJ,Am⟩=>(show Option ((Nat×Int×(List Nat))⊕(Nat×(List Nat)))from(some (decide ((0:Int)<=PJ))).bind λdr=>(bif dr then(some (XJ*2^32%18446744073709551616)).bind λfD=>(qK Am PJ).bind λkI=>(Am[kI]?).bind λiz=>(some (iz%18446744073709551616)).bind λfR=>(some ((fD ||| fR)%18446744073709551616)).bind λiE=>(Ng 18446744073709551616 iE x1).bind λjm=>(some (jm%4294967296)).bind λlO=>(qK Am PJ).bind λjd=>(stM Am jd lO).bind λEE=>(LH iE x1).bind λkN=>(some (IntKind.i64.wrap (PJ-1))).bind λeL=>some (.inl (kN,eL,EE))else some (.inr (XJ,Am))))) (0,dN,x0)).bind λe8=>match e8 with|⟨akF,ID⟩=>(Dg x0 ID).bind λ_=>some (akF,ID)
noncomputable def jq(x0:List Nat)(x1:Nat):Option (List Nat):=(some (x0.length:Int)).bind λfy=>(some (IntKind.i64.wrap (fy+1))).bind λdr=>(Xu (α:=Nat) 4 dr).bind λeP=>(some (x0.length:Int)).bind λdO=>(cm (λ(s8:Int×Nat×(List Nat))=>match s8 with|⟨EF,An,n8⟩=>(show Option ((Int×Nat×(List Nat))⊕(Nat×(List Nat)))from(some (decide ((EF:Int)<dO))).bind λdZ=>(bif dZ then(cV x0 EF).bind λfe=>(some (fe%18446744073709551616)).bind λiN=>(some (iN*2^(min x1 64)%18446744073709551616)).bind λkD=>(cW kD An).bind λ⟨jw,k10⟩=>(lM 4 n8 [jw]).bind λlO=>(some (IntKind.i64.wrap (EF+1))).bind λjd=>some (.inl (jd,k10,lO))else some (.inr (An,n8))))) (0,0,eP)).bind λe8=>match e8 with|⟨Jw,XK⟩=>(cW 0 Jw).bind λ⟨kN,k12⟩=>(lM 4 XK [kN]).bind λzk=>some zk
noncomputable def mQ(x0:List Nat)(x1:Nat):Option (List Nat):=(some (x0.length:Int)).bind λfy=>(some (IntKind.i64.wrap (fy+1))).bind λdr=>(Xu (α:=Nat) 4 dr).bind λeP=>(some (x0.length:Int)).bind λdO=>(cm (λ(s8:Int×Nat×(List Nat))=>match s8 with|⟨EF,An,yV⟩=>(show Option ((Int×Nat×(List Nat))⊕(Nat×(List Nat)))from(some (decide ((EF:Int)<dO))).bind λdZ=>(bif dZ then(cV x0 EF).bind λfe=>(some (fe%18446744073709551616)).bind λiN=>(some (iN*2^(min x1 64)%18446744073709551616)).bind λkD=>(cW kD An).bind λ⟨jw,k10⟩=>(lM 4 yV [jw]).bind λlO=>(some (IntKind.i64.wrap (EF+1))).bind λjd=>some (.inl (jd,k10,lO))else some (.inr (An,yV))))) (0,0,eP)).bind λe8=>match e8 with|⟨Jw,yW⟩=>(cW 0 Jw).bind λ⟨kN,k12⟩=>(lM 4 yW [kN]).bind λzk=>some zk
noncomputable def kQ(x0:Nat):Option (Int):=(some (decide ((65536:Nat)<=x0))).bind λx4=>cX (λ(j2:Nat×Int)=>match j2 with|⟨SD,abY⟩=>(some (decide ((256:Nat)<=SD))).bind λx8=>cX (λ(j4:Nat×Int)=>match j4 with|⟨akG,akH⟩=>(some (akG%256)).bind λdO=>(Df [0,1,2,2,3,3,3,3,4,4,4,4,4,4,4,4,5,5,5,5,5,5,5,5,5,5,5,5,5,5,5,5,6,6,6,6,6,6,6,6,6,6,6,6,6,6,6,6,6,6,6,6,6,6,6,6,6,6,6,6,6,6,6,6,7,7,7,7,7,7,7,7,7,7,7,7,7,7,7,7,7,7,7,7,7,7,7,7,7,7,7,7,7,7,7,7,7,7,7,7,7,7,7,7,7,7,7,7,7,7,7,7,7,7,7,7,7,7,7,7,7,7,7,7,7,7,7,7,8,8,8,8,8,8,8,8,8,8,8,8,8,8,8,8,8,8,8,8,8,8,8,8,8,8,8,8,8,8,8,8,8,8,8,8,8,8,8,8,8,8,8,8,8,8,8,8,8,8,8,8,8,8,8,8,8,8,8,8,8,8,8,8,8,8,8,8,8,8,8,8,8,8,8,8,8,8,8,8,8,8,8,8,8,8,8,8,8,8,8,8,8,8,8,8,8,8,8,8,8,8,8,8,8,8,8,8,8,8,8,8,8,8,8,8,8,8,8,8,8,8,8,8,8,8,8,8] ((dO:Nat):Int)).bind λfD=>(some (IntKind.i64.wrap (fD:Int))).bind λdZ=>(some (IntKind.i64.wrap (akH+dZ))).bind λfe=>some fe) λK4=>(bif x8 then(some (SD/2^8)).bind λdN=>(some (IntKind.i64.wrap (abY+8))).bind λdr=>K4 (dN,dr)else K4 (SD,abY))) λK2=>(bif x4 then(some (x0/2^16)).bind λx6=>K2 (x6,16)else K2 (x0,0))
noncomputable def fz(x0:Nat):Option (Int):=(kQ x0).bind λx4=>(some (IntKind.i64.wrap (32-x4))).bind λx5=>some x5
noncomputable def mh(x0:List Nat)(o0:Nat)(n0:Nat)(x1:List Nat):Option (Nat×List Nat):=(some (x1.length:Int)).bind λdr=>(ckR o0 n0 dr).bind λdO=>(x0[dO]?).bind λfD=>(some (fD%18446744073709551616)).bind λdZ=>(some (dZ*2^32%18446744073709551616)).bind λfe=>(some (IntKind.i64.wrap (dr-1))).bind λfR=>(ckR o0 n0 fR).bind λiE=>(x0[iE]?).bind λiN=>(some (iN%18446744073709551616)).bind λiv=>(some ((fe ||| iv)%18446744073709551616)).bind λkD=>(some (IntKind.i64.wrap (dr-1))).bind λlO=>(cV x1 lO).bind λjd=>(some (jd%18446744073709551616)).bind λmP=>(some (IntKind.i64.wrap (dr-2))).bind λzk=>(cV x1 zk).bind λqe=>(some (qe%18446744073709551616)).bind λqk=>(Ng 18446744073709551616 kD mP).bind λmI=>(LH kD mP).bind λA6=>(cm (λ(rI:Nat×Nat)=>match rI with|⟨LK,Mv⟩=>(show Option ((Nat×Nat)⊕(Nat))from cX (λ(SE:Bool)=>(bif SE then(some (w6 18446744073709551616 LK 1)).bind λx63=>(some ((Mv+mP)%18446744073709551616)).bind λMw=>(some (Mw/2^32)).bind λSd=>(some (decide ((Sd:Nat)≠0))).bind λXL=>(bif XL then some (.inr x63)else some (.inl (x63,Mw)))else some (.inr LK))) λGe=>(some (LK/2^32)).bind λvZ=>(some (decide ((vZ:Nat)≠0))).bind λzo=>(bif zo then some true else(some ((LK*qk)%18446744073709551616)).bind λyU=>(some (Mv*2^32%18446744073709551616)).bind λzm=>(some (IntKind.i64.wrap (dr-2))).bind λAo=>(ckR o0 n0 Ao).bind λLs=>(x0[Ls]?).bind λLt=>(some (Lt%18446744073709551616)).bind λSe=>(some ((zm ||| Se)%18446744073709551616)).bind λSc=>(some (decide ((Sc:Nat)<yU))).bind λPI=>some PI).bind λXM=>Ge XM)) (mI,A6)).bind λVK=>(Dg x0 x0).bind λ_=>some (VK,x0)
noncomputable def fg(x0:List Nat)(o0:Nat)(n0:Nat)(x1:List Nat)(x2:Nat):Option (Bool×List Nat):=(some (n0:Int)).bind λeL=>(cm (λ(vF:Nat×Int×Nat×(List Nat))=>match vF with|⟨VL,EG,Nr,CJ⟩=>(show Option ((Nat×Int×Nat×(List Nat))⊕(Nat×(List Nat)))from(some (decide ((EG:Int)<eL))).bind λfD=>(bif fD then(some (x1.length:Int)).bind λiz=>(some (decide ((EG:Int)<iz))).bind λfR=>cX (λ(XN:Nat)=>(ckR o0 n0 EG).bind λmP=>(CJ[mP]?).bind λkN=>(some (kN%18446744073709551616)).bind λpz=>(cW XN Nr).bind λ⟨mF,k16⟩=>(some (mF%18446744073709551616)).bind λqk=>(some (w6 18446744073709551616 pz qk)).bind λwA=>(some (w6 18446744073709551616 wA VL)).bind λmI=>(some (mI%4294967296)).bind λsK=>(ckR o0 n0 EG).bind λvZ=>(stM CJ vZ sK).bind λl18=>(some (mI/2^63)).bind λw9=>(some (IntKind.i64.wrap (EG+1))).bind λtD=>some (.inl (w9,tD,k16,l18))) λK14=>(bif fR then(cV x1 EG).bind λiv=>(some (iv%18446744073709551616)).bind λjw=>(some ((jw*x2)%18446744073709551616)).bind λlO=>K14 lO else K14 0)else some (.inr (VL,CJ))))) (0,0,0,x0)).bind λPK=>match PK with|⟨XO,EH⟩=>(some (decide ((XO:Nat)≠0))).bind λyU=>(Dg x0 EH).bind λ_=>some (yU,EH)
noncomputable def nk(x0:List Nat)(x1:List Nat):Option ((List Nat)×(List Nat)):=(some (x1.length:Int)).bind λdZ=>(some (IntKind.i64.wrap (dZ-1))).bind λiz=>(cV x1 iz).bind λfR=>(fz fR).bind λiN=>(some ((iN%18446744073709551616).toNat)).bind λiv=>(mQ x0 iv).bind λjm=>(jq x1 iv).bind λvY=>(HR vY 0 dZ).bind λkN=>(some (x0.length:Int)).bind λzk=>(some (IntKind.i64.wrap (zk-dZ))).bind λmF=>(some (IntKind.i64.wrap (mF+1))).bind λqk=>(Ln 4 qk (0:Nat)).bind λwA=>(some (x0.length:Int)).bind λmI=>(some (IntKind.i64.wrap (mI-dZ))).bind λry=>(cm (λ(s36:Int×(List Nat)×(List Nat))=>match s36 with|⟨n9,BI,DI⟩=>(show Option ((Int×(List Nat)×(List Nat))⊕((List Nat)×(List Nat)))from(some (decide ((0:Int)<=n9))).bind λsK=>(bif sK then(some (IntKind.i64.wrap (n9+dZ))).bind λBr=>(some (IntKind.i64.wrap (Br+1))).bind λzm=>(ckS DI n9 zm).bind λ⟨o53,n53⟩=>(mh DI o53 n53 kN).bind λ⟨Ao,l38⟩=>(Dg DI l38).bind λ_=>(some (IntKind.i64.wrap (n9+dZ))).bind λPI=>(some (IntKind.i64.wrap (PI+1))).bind λHl=>(ckS l38 n9 Hl).bind λ⟨o62,n62⟩=>(fg l38 o62 n62 kN Ao).bind λ⟨Uq,WM⟩=>(Dg l38 WM).bind λ_=>cX (λ(j53:Nat×(List Nat))=>match j53 with|⟨XP,SF⟩=>(some (XP%4294967296)).bind λagy=>(qK BI n9).bind λakI=>(stM BI akI agy).bind λl55=>(some (IntKind.i64.wrap (n9-1))).bind λzo=>some (.inl (zo,l55,SF))) λK53=>(bif Uq then(some (w6 18446744073709551616 Ao 1)).bind λWN=>(some (kN.length:Int)).bind λx70=>(cm (λ(s65:Int×Nat×(List Nat))=>match s65 with|⟨Gh,EI,DJ⟩=>(show Option ((Int×Nat×(List Nat))⊕(Nat×(List Nat)))from(some (decide ((Gh:Int)<x70))).bind λO8=>(bif O8 then(cV kN Gh).bind λXQ=>(some (IntKind.i64.wrap (n9+Gh))).bind λO9=>(some (IntKind.i64.wrap (n9+Gh))).bind λx84=>(qK DJ x84).bind λWO=>(DJ[WO]?).bind λSG=>(some (SG%18446744073709551616)).bind λx87=>(some (XQ%18446744073709551616)).bind λx89=>(some ((x87+x89)%18446744073709551616)).bind λWQ=>(cW WQ EI).bind λ⟨XR,k68⟩=>(qK DJ O9).bind λx92=>(stM DJ x92 XR).bind λl69=>(some (IntKind.i64.wrap (Gh+1))).bind λx93=>some (.inl (x93,k68,l69))else some (.inr (EI,DJ))))) (0,0,WM)).bind λe65=>match e65 with|⟨PL,Jx⟩=>(some (IntKind.i64.wrap (n9+dZ))).bind λx97=>(some (IntKind.i64.wrap (n9+dZ))).bind λLM=>(qK Jx LM).bind λHU=>(Jx[HU]?).bind λLN=>(some (LN%18446744073709551616)).bind λVM=>(cW VM PL).bind λ⟨agA,k72⟩=>(qK Jx x97).bind λakK=>(stM Jx akK agA).bind λl73=>K53 (WN,l73)else K53 (Ao,WM))else some (.inr (BI,DI))))) (ry,wA,jm)).bind λe36=>match e36 with|⟨Jy,Gi⟩=>(Ln 4 dZ (0:Nat)).bind λSH=>(cm (λ(s81:Int×(List Nat))=>match s81 with|⟨CK,EJ⟩=>(show Option ((Int×(List Nat))⊕((List Nat)))from(some (decide ((CK:Int)<dZ))).bind λagB=>(bif agB then(qK Gi CK).bind λakL=>(Gi[akL]?).bind λakM=>(some (akM%18446744073709551616)).bind λagC=>(some (IntKind.i64.wrap (CK+1))).bind λakN=>(qK Gi akN).bind λakO=>(Gi[akO]?).bind λakP=>(some (akP%18446744073709551616)).bind λagD=>(some (agD*2^32%18446744073709551616)).bind λagE=>(some ((agC ||| agE)%18446744073709551616)).bind λagF=>(some (agF/2^(min iv 64))).bind λakQ=>(some (akQ%4294967296)).bind λagG=>(qK EJ CK).bind λakR=>(stM EJ akR agG).bind λl83=>(some (IntKind.i64.wrap (CK+1))).bind λagH=>some (.inl (agH,l83))else some (.inr EJ)))) (0,SH)).bind λAp=>some (Jy,Ap)
noncomputable def jX(x0:List Nat)(x1:List Nat):Option ((List Nat)×(List Nat)):=(ef x0 x1).bind λdr=>(some (decide ((dr:Int)<0))).bind λeP=>(bif eP then(gW x0).bind λdO=>some ([],dO)else(some (x0.length:Int)).bind λfe=>(some (decide ((fe:Int)<=2))).bind λkI=>(bif kI then(fX x0).bind λfR=>(fX x1).bind λiN=>(Ng 18446744073709551616 fR iN).bind λjw=>(iO false jw).bind λ⟨Ur,PM⟩=>(LH fR iN).bind λmP=>(iO false mP).bind λ⟨zC,yl⟩=>some (PM,yl)else(some (x1.length:Int)).bind λmF=>(some (decide ((mF:Int)=1))).bind λqk=>(bif qk then(gW x0).bind λvI=>(cV x1 0).bind λry=>(some (ry%18446744073709551616)).bind λsK=>(me vI sK).bind λ⟨vZ,l5⟩=>(Dg vI l5).bind λ_=>(some (vZ%4294967296)).bind λtD=>some (l5,[tD])else(nk x0 x1).bind λ⟨akS,akT⟩=>some (akS,akT))))
noncomputable def c8(x0:Int):Option (Zr):=(some ((x0%18446744073709551616).toNat)).bind λx5=>(some (decide ((x0:Int)<0))).bind λx7=>cX (λ(PN:Nat)=>(some (decide ((x0:Int)<0))).bind λfy=>(iO fy PN).bind λ⟨BJ,BK⟩=>some ⟨BJ,BK⟩) λK2=>(bif x7 then(some (w6 18446744073709551616 0 x5)).bind λx9=>K2 x9 else K2 x5)
noncomputable def fE(x0:Zr):Option (Int×Bool):=match x0 with|⟨bt,bu⟩=>(bV bu).bind λx8=>(some (x8.length:Int)).bind λdN=>(some (decide ((2:Int)<dN))).bind λfy=>(bif fy then some (0,false)else(fX x8).bind λeP=>(bif bt then(some (decide ((9223372036854775808:Nat)<eP))).bind λdZ=>(bif dZ then some (0,false)else(some (w6 18446744073709551616 0 eP)).bind λkI=>(some (IntKind.i64.wrap (kI:Int))).bind λiz=>some (iz,true))else(some (decide ((9223372036854775808:Nat)<=eP))).bind λiE=>(bif iE then some (0,false)else(some (IntKind.i64.wrap (eP:Int))).bind λiv=>some (iv,true))))
noncomputable def fm(x0:Bool)(x1:List Nat)(x2:Bool)(x3:List Nat):Option (Zr):=(some (x0==x2)).bind λfy=>(bif fy then(iF x1 x3).bind λdO=>(dD x0 dO).bind λ⟨qL,qM⟩=>some ⟨qL,qM⟩else(ef x1 x3).bind λkI=>(some (decide ((kI:Int)<0))).bind λiz=>(bif iz then(ff x3 x1).bind λiv=>(dD x2 iv).bind λ⟨nO,nm⟩=>some ⟨nO,nm⟩else(ff x1 x3).bind λjd=>(dD x0 jd).bind λ⟨sQ,sS⟩=>some ⟨sQ,sS⟩))
noncomputable def uQ(x0:Zr)(x1:Zr):Option (Zr):=match x0 with|⟨bt,bu⟩=>match x1 with|⟨cG,cC⟩=>(fE ⟨bt,bu⟩).bind λ⟨BL,EK⟩=>(fE ⟨cG,cC⟩).bind λ⟨Ns,SI⟩=>cX (λ(xb:Bool)=>cX (λ(j5:Unit)=>(bV bu).bind λyj=>(bV cC).bind λzo=>(fm bt yj cG zo).bind λ⟨Ho,Hp⟩=>some ⟨Ho,Hp⟩) λK5=>(bif xb then(some (IntKind.i64.wrap (BL+Ns))).bind λjw=>(some (IntKind.i64.wrap ((BitVec.ofInt 64 BL ^^^ BitVec.ofInt 64 jw).toNat))).bind λjd=>(some (IntKind.i64.wrap ((BitVec.ofInt 64 Ns ^^^ BitVec.ofInt 64 jw).toNat))).bind λkN=>(some (IntKind.i64.wrap ((BitVec.ofInt 64 jd &&& BitVec.ofInt 64 kN).toNat))).bind λpz=>(some (decide ((0:Int)<=pz))).bind λzk=>(bif zk then(c8 jw).bind λ⟨Hq,Hr⟩=>some ⟨Hq,Hr⟩else K5 ())else K5 ())) λK3=>(bif EK then some SI else some false).bind λPO=>K3 PO
noncomputable def uR(x0:Zr)(x1:Zr):Option (Zr):=match x0 with|⟨bt,bu⟩=>match x1 with|⟨cG,cC⟩=>(fE ⟨bt,bu⟩).bind λ⟨BL,EK⟩=>(fE ⟨cG,cC⟩).bind λ⟨Ns,SI⟩=>cX (λ(xb:Bool)=>cX (λ(j5:Unit)=>(bV bu).bind λyj=>(some (!cG)).bind λsK=>(bV cC).bind λw9=>(fm bt yj sK w9).bind λ⟨ad0,ad1⟩=>some ⟨ad0,ad1⟩) λK5=>(bif xb then(some (IntKind.i64.wrap (BL-Ns))).bind λjw=>(some (IntKind.i64.wrap ((BitVec.ofInt 64 BL ^^^ BitVec.ofInt 64 Ns).toNat))).bind λjd=>(some (IntKind.i64.wrap ((BitVec.ofInt 64 BL ^^^ BitVec.ofInt 64 jw).toNat))).bind λkN=>(some (IntKind.i64.wrap ((BitVec.ofInt 64 jd &&& BitVec.ofInt 64 kN).toNat))).bind λpz=>(some (decide ((0:Int)<=pz))).bind λzk=>(bif zk then(c8 jw).bind λ⟨Hq,Hr⟩=>some ⟨Hq,Hr⟩else K5 ())else K5 ())) λK3=>(bif EK then some SI else some false).bind λPO=>K3 PO
noncomputable def ei(x0:Zr)(x1:Zr):Option (Zr):=match x0 with|⟨bt,bu⟩=>match x1 with|⟨cG,cC⟩=>(bV bu).bind λx9=>(bV cC).bind λdr=>cX (λ(XS:Bool)=>(bif XS then(some (!(bt==cG))).bind λkD=>(fX x9).bind λjm=>(fX dr).bind λjd=>(some ((jm*jd)%18446744073709551616)).bind λvY=>(iO kD vY).bind λ⟨PR,PS⟩=>some ⟨PR,PS⟩else(some (!(bt==cG))).bind λmF=>(jW x9 dr).bind λvI=>(dD mF vI).bind λ⟨wc,we⟩=>some ⟨wc,we⟩)) λK3=>(some (x9.length:Int)).bind λeL=>(some (decide ((eL:Int)<=1))).bind λdO=>(bif dO then(some (dr.length:Int)).bind λfe=>(some (decide ((fe:Int)<=1))).bind λkI=>some kI else some false).bind λad2=>K3 ad2
noncomputable def jN(x0:Zr):Option (Zr):=match x0 with|⟨bt,bu⟩=>(some (!bt)).bind λx5=>(bV bu).bind λx8=>(gW x8).bind λx9=>(dD x5 x9).bind λ⟨BM,BN⟩=>some ⟨BM,BN⟩
noncomputable def eD(x0:Zr):Option (Int):=match x0 with|⟨bt,bu⟩=>(bV bu).bind λx6=>(some (x6.length:Int)).bind λx7=>(some (decide ((x7:Int)=0))).bind λx8=>(bif x8 then some 0 else(bif bt then some (-1)else some 1))
noncomputable def uS(x0:Zr)(x1:Zr):Option (Int):=match x0 with|⟨bt,bu⟩=>match x1 with|⟨cG,cC⟩=>(eD ⟨bt,bu⟩).bind λx8=>(eD ⟨cG,cC⟩).bind λdN=>(some (decide ((x8:Int)<dN))).bind λeL=>(bif eL then some (-1)else(some (decide ((dN:Int)<x8))).bind λfe=>(bif fe then some 1 else(some (decide ((x8:Int)<0))).bind λfR=>(bif fR then(bV cC).bind λiv=>(bV bu).bind λjm=>(ef iv jm).bind λlO=>some lO else(bV bu).bind λmP=>(bV cC).bind λzk=>(ef mP zk).bind λqe=>some qe)))
noncomputable def je(x0:Zr)(x1:Zr):Option (Zr×Zr×Int):=match x0 with|⟨bt,bu⟩=>match x1 with|⟨cG,cC⟩=>(bV bu).bind λeP=>(bV cC).bind λfD=>(some (fD.length:Int)).bind λfe=>(some (decide ((fe:Int)=0))).bind λkI=>(bif kI then some (⟨false,[]⟩,⟨false,[]⟩,7)else(jX eP fD).bind λ⟨Jz,Nt⟩=>(bV Nt).bind λjd=>cX (λ(j3:Bool×Bool)=>match j3 with|⟨XT,DK⟩=>cX (λ(j5:(List Nat)×(List Nat))=>match j5 with|⟨XU,PT⟩=>(some (!(DK==cG))).bind λw9=>(dD w9 XU).bind λ⟨PU,PV⟩=>(dD false PT).bind λ⟨My,Mz⟩=>some (⟨PU,PV⟩,⟨My,Mz⟩,0)) λK5=>(bif XT then(iF Jz [1]).bind λvI=>(ff fD jd).bind λry=>K5 (vI,ry)else K5 (Jz,jd))) λK3=>(bif bt then(some (jd.length:Int)).bind λzk=>(some (decide ((0:Int)<zk))).bind λqe=>some qe else some false).bind λad3=>K3 (ad3,bt))
noncomputable def qN(x0:Zr)(x1:Zr):Option (Zr):=match x0 with|⟨bt,bu⟩=>match x1 with|⟨cG,cC⟩=>(bV bu).bind λeP=>(bV cC).bind λfD=>(cm (λ(vF:(List Nat)×(List Nat))=>match vF with|⟨HV,tG⟩=>(show Option (((List Nat)×(List Nat))⊕((List Nat)×(List Nat)))from cX (λ(SJ:Bool)=>(bif SJ then(jX HV tG).bind λ⟨aoN,akU⟩=>(bV akU).bind λwA=>some (.inl (tG,wA))else some (.inr (HV,tG)))) λK16=>(some (tG.length:Int)).bind λfe=>(some (decide ((0:Int)<fe))).bind λkI=>(bif kI then(some (HV.length:Int)).bind λiE=>(some (decide ((2:Int)<iE))).bind λiN=>(bif iN then some true else(some (tG.length:Int)).bind λjw=>(some (decide ((2:Int)<jw))).bind λjm=>some jm).bind λXV=>some XV else some false).bind λXW=>K16 XW)) (eP,fD)).bind λPK=>match PK with|⟨XX,XY⟩=>(some (XY.length:Int)).bind λmI=>(some (decide ((mI:Int)=0))).bind λyj=>(bif yj then(gW XX).bind λA6=>(dD false A6).bind λ⟨pH,pI⟩=>some ⟨pH,pI⟩else(fX XX).bind λzo=>(fX XY).bind λtD=>(cm (λ(s24:Nat×Nat)=>match s24 with|⟨Us,Gj⟩=>(show Option ((Nat×Nat)⊕(Nat))from(some (decide ((0:Nat)<Gj))).bind λyU=>(bif yU then(LH Us Gj).bind λHW=>some (.inl (Gj,HW))else some (.inr Us)))) (zo,tD)).bind λMA=>(iO false MA).bind λ⟨ad4,ad5⟩=>some ⟨ad4,ad5⟩)
end
section
open Go.Fw Go.Fw.Z Go.RowKit
theorem iG(c:Nat):af9 af 186 [.v (.int .u64 (c:Nat))] 202 128 [.v (.int .u64 (c:Nat))]:=by
 refine Sw Tryz.func186 Y (ae Y) (λdA M vs hvs=>?_);exact sr<|RT.En .none (s:=.sv _) Y T Y Y<|ag Y<|dn<|sr<|RT.makeFunc .none (.box Y (.nil)) T<|an (s:=.lD _ _) Y<|dn<|bj<|⟨.inr Y,_,.tmp Y,Y⟩
theorem BO(a b:List Nat):Pure af 206 [(aM 1 bk a),(aM 1 bk b)] (oQ 214 [ref [(aM 1 bk a)],ref [(aM 1 bk b)]]):=by
 refine bp Tryz.func206 Y (ae Y) (λdA M vs hvs=>?_);refine sr<|RT.En .none (s:=.sv _) Y T Y Y<|RT.En .none (s:=.sv _) Y T Y Y<|ag Y<|dn<|sr<|RT.makeFunc .none (.box Y (.box Y (.nil))) T<|an (s:=.lD _ _) Y<|dn<|bP (kL (i:=2) Y [(aM 1 bk a)] (.cons Y .nil) .any 0 [(4,.lD 214 [.val (ref [(aM 1 bk a)]),.box 3])] (λ_ _ _=>trivial) (yO.h (l:=[(aM 1 bk a)])) ⟨@FT.lD _ _ _ _ _ 4 214 [.box 2,.box 3] Y,ak⟩) ?_;exact bP (kL (i:=3) Y [(aM 1 bk b)] (.cons Y .nil) .any 0 [(4,.lD 214 [.val (ref [(aM 1 bk a)]),.val (ref [(aM 1 bk b)])])] (λ_ _ _=>trivial) (yO.h (l:=[(aM 1 bk b)])) ⟨@FT.lD _ _ _ _ _ 4 214 [.val (ref [(aM 1 bk a)]),.box 3] Y,ak⟩)<|bP (SA 4 (oQ 214 [ref [(aM 1 bk a)],ref [(aM 1 bk b)]]) (λ_ _ h=>SB h))<|bj<|⟨.inr Y,Sr (.tmp Y (.nil)) Y⟩
theorem BP(a b:List Nat):Iter af 214 [ref [(aM 1 bk a)],ref [(aM 1 bk b)]] (max a.length b.length) (λk=>[.v (.int .u64 ((a.getD k 0%18446744073709551616:Nat):Int)),.v (.int .u64 ((b.getD k 0%18446744073709551616:Nat):Int))]):=by
 refine DB Tryz.func214 Y Y (ae Y) (λdA M O l J hJ Lq hr=>?_);obtain⟨yh,Lq⟩:=Lq;have hla:a.length<=9223372036854775807:=by cases yh with|nil=>exact Lq.elim|cons _ yh=>exact Iw Lq.1
 have hlb:b.length<=9223372036854775807:=by cases yh with|nil=>exact Lq.elim|cons _ yh=>cases yh with|nil=>exact Lq.2.elim|cons _ _=>exact Iw Lq.2.1
 refine b9<|aZ<|RT.eT .none Y Y (tl Y)<|RT.len .none Y (tl Y)<|RT.eT .none Y Y (tl Y)<|RT.len .none Y (tl Y)<|RT.max .none (((max a.length b.length:Nat):Int)) Y Y (tl Y) (by simp only[List.length_map];split<;>omega)<|RT.mv .none Y (tl Y)<|RT.done<|aY.n<|bf ?_
 refine CE (I:=λx:{i:Nat//i<=max a.length b.length}=>AS.cz 39 [(0,.sv (.v (.func (.yield l) #[] #[]))),(1,.sv (ref [(aM 1 bk a)])),(2,.sv (ref [(aM 1 bk b)])),(11,ah ((max a.length b.length:Nat):Int)),(12,ah ((x.1:Nat):Int))] [] [] (x.1)) (μ:=λx=>max a.length b.length-x.1) ⟨0,by omega⟩ (by(try dsimp only);exact cj id Y Y Y Y Y ⟨.sv aq,.sv aq,.sv aq,.sv aq,.sv aq,ak⟩ trivial trivial (λ_ _=>Y)) ?_;rintro⟨i,hi0⟩
 try dsimp only
 rcases Jq a b i hi0 with⟨hi,Ag,By⟩|⟨hi,Ag,By⟩|⟨hi,Ag,By⟩|hi
 ·
  refine b9<|aZ<|RT.lss .none (true) Y Y (tl Y) aH<|RT.done<|aY.n<|b9<|dR Y<|bC<|aY.n<|b9<|bf<|b9<|aZ<|RT.mv .none Y (tl Y)<|RT.BA .none Y (tl Y)<|RT.done<|aY.n<|b9<|aZ<|RT.BA .none Y (tl Y)<|RT.BA .none Y (tl Y)<|RT.done<|aY.n<|b9<|b9<|aZ<|RT.mv .none Y (tl Y)<|RT.eT .none Y Y (tl Y)<|RT.len .none Y (tl Y)<|RT.lss .none (true) Y Y (tl Y) (by simp only[List.length_map];simp;omega)<|RT.done<|aY.n<|dR Y<|aZ<|RT.eT .none Y Y (tl Y)<|RT.mv .none Y (tl Y)<|RT.ixA .none [.v (.int .u32 ((a.getD i 0:Nat):Int))] (Int.natCast_nonneg i) (by rw[Int.toNat_natCast,List.getElem?_map,BF Ag];rfl) Y Y (tl Y)<|RT.eT .none Y Y (tl Y)<|RT.conv .none (((a.getD i 0%18446744073709551616:Nat):Int)) Y (tl Y) abG<|RT.BA .none Y (tl Y)<|RT.done<|aY.n<|b9<|b9<|aZ<|RT.mv .none Y (tl Y) ?_
  refine RT.eT .none Y Y (tl Y)<|RT.len .none Y (tl Y)<|RT.lss .none (true) Y Y (tl Y) (by simp only[List.length_map];simp;omega)<|RT.done<|aY.n<|dR Y<|aZ<|RT.eT .none Y Y (tl Y)<|RT.mv .none Y (tl Y)<|RT.ixA .none [.v (.int .u32 ((b.getD i 0:Nat):Int))] (Int.natCast_nonneg i) (by rw[Int.toNat_natCast,List.getElem?_map,BF By];rfl) Y Y (tl Y)<|RT.eT .none Y Y (tl Y)<|RT.conv .none (((b.getD i 0%18446744073709551616:Nat):Int)) Y (tl Y) abG<|RT.BA .none Y (tl Y)<|RT.done<|aY.n<|b9<|aZ<|RT.mv .none Y (tl Y)<|RT.mv .none Y (tl Y)<|RT.mv .none Y (tl Y)<|RT.yield .none hr Y (λ_ h=>h) Y (i) Y Y hi (by exact⟨Y,Y,ak⟩) (tl Y) (λyb=>?_);cases yb
  ·
   refine RT.not .none Y (tl Y) true Y<|RT.done<|aY.n<|dR Y<|bj<|bJ.r<|aY.r<|aY.r<|bJ.r ?_;exact⟨.inr rfl,(λh=>by cases h)⟩
  refine RT.not .none Y (tl Y) false Y<|RT.done<|aY.n<|fN Y<|bC<|bJ.n<|aY.n<|aZ<|RT.add .none (((i:Nat):Int)+1) Y Y (tl Y) (rH ξ)<|RT.mv .none Y (tl Y)<|RT.done<|aY.n<|⟨⟨i+1,by omega⟩,aF,?_⟩;exact cj id Y Y Y Y Y ⟨.sv aq,.sv aq,.sv aq,.sv aq,.sv aq,ak⟩ trivial trivial (λ_ _=>Y)
 ·
  refine b9<|aZ<|RT.lss .none (true) Y Y (tl Y) aH<|RT.done<|aY.n<|b9<|dR Y<|bC<|aY.n<|b9<|bf<|b9<|aZ<|RT.mv .none Y (tl Y)<|RT.BA .none Y (tl Y)<|RT.done<|aY.n<|b9<|aZ<|RT.BA .none Y (tl Y)<|RT.BA .none Y (tl Y)<|RT.done<|aY.n<|b9<|b9<|aZ<|RT.mv .none Y (tl Y)<|RT.eT .none Y Y (tl Y)<|RT.len .none Y (tl Y)<|RT.lss .none (true) Y Y (tl Y) (by simp only[List.length_map];simp;omega)<|RT.done<|aY.n<|dR Y<|aZ<|RT.eT .none Y Y (tl Y)<|RT.mv .none Y (tl Y)<|RT.ixA .none [.v (.int .u32 ((a.getD i 0:Nat):Int))] (Int.natCast_nonneg i) (by rw[Int.toNat_natCast,List.getElem?_map,BF Ag];rfl) Y Y (tl Y)<|RT.eT .none Y Y (tl Y)<|RT.conv .none (((a.getD i 0%18446744073709551616:Nat):Int)) Y (tl Y) abG<|RT.BA .none Y (tl Y)<|RT.done<|aY.n<|b9<|b9<|aZ<|RT.mv .none Y (tl Y) ?_
  refine RT.eT .none Y Y (tl Y)<|RT.len .none Y (tl Y)<|RT.lss .none (false) Y Y (tl Y) (by simp only[List.length_map];simp;omega)<|RT.done<|aY.n<|fN Y<|bC<|aY.n<|b9<|aZ<|RT.mv .none Y (tl Y)<|RT.mv .none Y (tl Y)<|RT.mv .none Y (tl Y)<|RT.yield .none hr Y (λ_ h=>h) Y (i) Y Y hi (by exact⟨Y,(by show AV.sv _=AV.sv _;rw[DF By];rfl),ak⟩) (tl Y) (λyb=>?_);cases yb
  ·
   refine RT.not .none Y (tl Y) true Y<|RT.done<|aY.n<|dR Y<|bj<|bJ.r<|aY.r<|aY.r<|bJ.r ?_;exact⟨.inr rfl,(λh=>by cases h)⟩
  refine RT.not .none Y (tl Y) false Y<|RT.done<|aY.n<|fN Y<|bC<|bJ.n<|aY.n<|aZ<|RT.add .none (((i:Nat):Int)+1) Y Y (tl Y) (rH ξ)<|RT.mv .none Y (tl Y)<|RT.done<|aY.n<|⟨⟨i+1,by omega⟩,aF,?_⟩;exact cj id Y Y Y Y Y ⟨.sv aq,.sv aq,.sv aq,.sv aq,.sv aq,ak⟩ trivial trivial (λ_ _=>Y)
 ·
  refine b9<|aZ<|RT.lss .none (true) Y Y (tl Y) aH<|RT.done<|aY.n<|b9<|dR Y<|bC<|aY.n<|b9<|bf<|b9<|aZ<|RT.mv .none Y (tl Y)<|RT.BA .none Y (tl Y)<|RT.done<|aY.n<|b9<|aZ<|RT.BA .none Y (tl Y)<|RT.BA .none Y (tl Y)<|RT.done<|aY.n<|b9<|b9<|aZ<|RT.mv .none Y (tl Y)<|RT.eT .none Y Y (tl Y)<|RT.len .none Y (tl Y)<|RT.lss .none (false) Y Y (tl Y) (by simp only[List.length_map];simp;omega)<|RT.done<|aY.n<|fN Y<|bC<|aY.n<|b9<|b9<|aZ<|RT.mv .none Y (tl Y)<|RT.eT .none Y Y (tl Y)<|RT.len .none Y (tl Y)<|RT.lss .none (true) Y Y (tl Y) (by simp only[List.length_map];simp;omega)<|RT.done<|aY.n<|dR Y<|aZ<|RT.eT .none Y Y (tl Y)<|RT.mv .none Y (tl Y) ?_
  refine RT.ixA .none [.v (.int .u32 ((b.getD i 0:Nat):Int))] (Int.natCast_nonneg i) (by rw[Int.toNat_natCast,List.getElem?_map,BF By];rfl) Y Y (tl Y)<|RT.eT .none Y Y (tl Y)<|RT.conv .none (((b.getD i 0%18446744073709551616:Nat):Int)) Y (tl Y) abG<|RT.BA .none Y (tl Y)<|RT.done<|aY.n<|b9<|aZ<|RT.mv .none Y (tl Y)<|RT.mv .none Y (tl Y)<|RT.mv .none Y (tl Y)<|RT.yield .none hr Y (λ_ h=>h) Y (i) Y Y hi (by exact⟨(by show AV.sv _=AV.sv _;rw[DF Ag];rfl),Y,ak⟩) (tl Y) (λyb=>?_);cases yb
  ·
   refine RT.not .none Y (tl Y) true Y<|RT.done<|aY.n<|dR Y<|bj<|bJ.r<|aY.r<|aY.r<|bJ.r ?_;exact⟨.inr rfl,(λh=>by cases h)⟩
  refine RT.not .none Y (tl Y) false Y<|RT.done<|aY.n<|fN Y<|bC<|bJ.n<|aY.n<|aZ<|RT.add .none (((i:Nat):Int)+1) Y Y (tl Y) (rH ξ)<|RT.mv .none Y (tl Y)<|RT.done<|aY.n<|⟨⟨i+1,by omega⟩,aF,?_⟩;exact cj id Y Y Y Y Y ⟨.sv aq,.sv aq,.sv aq,.sv aq,.sv aq,ak⟩ trivial trivial (λ_ _=>Y)
 subst hi;refine b9<|aZ<|RT.lss .none (false) Y Y (tl Y) θ<|RT.done<|aY.n<|b9<|fN Y<|bR<|aY.x<|aY.x<|bJ.x ?_;exact⟨.inl Y,(λ_=>Y)⟩
theorem zD{x0 r:List Nat}(h:gW x0=some r):F7 af 175 [aM 1 bk x0] (TR 130 1 bk r):=by
 refine th Tryz.func175 Y (ae Y) (λdA M vs hvs=>?_);unfold gW at h;refine sr<|ag Y<|dn<|qq<|sr<|mv Y<|RT.akn .none Y T (λnb hnb=>?_);cases nb;exact dn<|fs<|sr<|RT.Nl (l:=([]:List Nat)) (e:=bk) .none .nil T Y T Y Y Y Y Y Y<|mv Y<|aR (k:=x0) (e:=bk) Y Y Y h<|an (s:=.row _) Y<|dn<|bj<|⟨.inr Y,_,.tmp Y,Y⟩;have hx:x0=[]:=by simpa using hnb Y
 subst hx;obtain⟨_,_,rfl⟩:=BE h;exact dn<|cT<|sr<|ag Y<|dn<|bP (cS 2 300 130 1 Y Y T)<|bj<|aY.r<|⟨.inr Y,_,.tmp Y,Y⟩
theorem dy{x0:Nat}{c0:Nat}{r:Nat×Nat}(h:cW x0 c0=some r):abA af 202 [.v (.int .u64 ((x0:Nat):Int))] 128 [.v (.int .u64 ((c0:Nat):Int))] (.v (.int .u32 ((r.1:Nat):Int))) [.v (.int .u64 ((r.2:Nat):Int))]:=by
 refine Sv Tryz.func202 Y (ae Y) (λdA M β=>?_);unfold cW at h;refine sr<|ag Y<|dn<|sr<|mv Y<|lV Y Y Y<|lE h λx6 h6 h=>ad _ Y Y (UK.add (a:=x0) (b:=c0) h6)<|ag Y<|dn<|sr<|mv Y<|lE h λx8 h8 h=>RT.shr .none _ Y Y T η (Ni (k:=.u64) (a:=x6) (q:=32) (s:=32) Y h8)<|RT.yP (cells:=[_]) .none (s:=.sv _) Y Y Y T Y<|dn<|sr<|mv Y<|lE h λdN gL h=>cv _ Y (UK.nat gL)<|ag Y<|dn<|bj ?_;cases O h;exact⟨.inr Y,gp (.tmp Y (.nil)) aq,Y⟩
theorem dG{x0:List Nat}{r:List Nat}(h:bV x0=some r):Pure af 144 [aM 1 bk x0] (aM 1 bk r):=by
 refine bp Tryz.func144 Y (ae Y) (λdA M vs hvs=>?_);unfold bV at h;refine sr<|aI Y (aD (n:=1) (e:=bk))<|dn<|qq<|bE h λEM xd oT=>?_;refine bM (λ(Jv:(List Nat))=>AS.cz 21 [(0,.sv (aM 1 bk Jv))] [] []) (λJv=>Jv=EM) ?_ (λJv xe=>?_);refine bf<|bN xd (λrI=>AS.cz 21 [(0,.sv (aM 1 bk rI))] [] []) (wR []) (λHT XZ X0 h xg tJ=>?_);refine qq<|qq<|bU h (λGk=>AS.cz 21 [(0,.sv (aM 1 bk HT)),(14,ai Gk)] [] []) (λh=>?_) (λJu h=>?_);refine aZ<|mv Y<|lE h λx4 h4 h=>ln Y h4<|lE h λx5 h5 h=>gt _ Y Y h5<|mv Y<|bE h λGf dI h=>?_;cases x5;cases O (F dI);exact ww<|ww<|ww<|ww<|ww<|ww<|ww<|pF Y<|dn<|⟨false,h,wR []⟩;refine gm Y<|gm Y<|lE (V dI) λx9 h9 dI=>gn Y h9<|lE dI λdN gL dI=>RT.sub (.some Y Y) _ Y Y T gL<|bE dI λfy kR dI=>RT.Sb (.some Y Y) Y Y T kR<|gr Y Y<|lE dI λeP jg dI=>ge_ _ Y Y (eqN (p:=fy) (q:=0) jg) ?_;obtain rfl:=O dI;exact pT Y<|dn<|⟨eP,h,wR []⟩;refine aY.n ?_;cases Ju;refine aO ?_;cases O (F h);exact⟨HT,tJ _ Y,wR []⟩;refine aP<|bf<|aZ<|mv Y<|mv Y<|lE (V h) λdZ jE h=>ln Y jE<|lE h λfe jB h=>sb _ Y Y jB<|bE h λkI nq h=>RT.Jp .none 0 fe Y Y ⟨_,Y⟩ T nq<|ag Y<|RT.done<|bJ.n ?_;cases O h;exact aY.n ⟨kI,xg _ Y,wR []⟩;subst xe;refine aY.n<|sr<|mv Y<|ag Y<|dn<|bj ?_;cases O oT;exact R1 Y
abbrev au:SV:=aM 1 bk []
theorem oa{x0:Bool}{x1:Nat}(N:Nat){r:Zr}(h:iO x0 x1=some r):dB af 137 N [ay x0,.v (.int .u64 ((x1:Nat):Int))] (.agg ((fZ N) r)):=by
 refine bX Tryz.func137 Y (ae Y) (λdA M vs hN hvs=>?_);unfold iO at h;refine sr<|al (cs:=[ay false,nw N au]) (by exact⟨aq,bw,ak⟩) Y<|dn<|qq<|bf<|sr<|mv Y<|lE h λx7 h7 h=>eq _ Y Y (eqN (p:=x1) (q:=0) h7)<|ag Y<|dn ?_;cases x7;refine cF<|sr<|mv Y<|lE (F h) λfy kR h=>RT.shr .none _ Y Y T η (Ni (k:=.u64) (a:=x1) (q:=32) (s:=32) Y kR)<|lE h λdr fO h=>eq _ Y Y (eqN (p:=fy) (q:=0) fO)<|ag Y<|dn ?_;cases dr;refine cF<|bC<|bJ.n<|aY.n<|sr<|mv Y<|mv Y<|lE (F h) λiz pA h=>cv _ Y (UK.nat pA)<|mv Y<|lE h λiE oc h=>RT.shr .none _ Y Y T η (Ni (k:=.u64) (a:=x1) (q:=32) (s:=32) Y oc)<|lE h λiN pJ h=>cv _ Y (UK.nat pJ)<|RT.BH (l:=[iz,iN]) (e:=bk) .none hN (.one Y (.one Y (.nil))) T Y Y Y Y Y Y<|bI (cs:=[_,_]) (cs':=[ay x0,nw N (aM 1 bk [iz,iN])]) (.one Y (.one Y (.nil))) ⟨aq,aq,ak⟩<|so Y Y Y<|dn<|bj ?_;cases O h;exact RZ (.agg Y Y (.k2 Y Y) Y (.nil));refine cT<|sr<|mv Y<|mv Y<|lE (V h) λdO gQ h=>cv _ Y (UK.nat gQ)<|RT.BH (l:=[dO]) (e:=bk) .none hN (.one Y (.nil)) T Y Y Y Y Y Y<|bI (cs:=[_,_]) (cs':=[ay x0,nw N (aM 1 bk [dO])]) (.one Y (.one Y (.nil))) ⟨aq,aq,ak⟩<|so Y Y Y<|dn<|bj<|bJ.r<|aY.r ?_;cases O h
 exact RZ (.agg Y Y (.k2 Y Y) Y (.nil));refine cT<|sr<|bI (cs:=[_,_]) (cs':=[ay false,nw N au]) (.nil) ⟨aq,bw,ak⟩<|so Y Y Y<|dn<|bj<|bJ.r<|aY.r ?_;cases O (V h);exact RZ (.agg Y Y (.k2 Y Y) Y (.nil))
theorem mR{x0:List Nat}{r:Nat}(h:fX x0=some r):Pure af 162 [aM 1 bk x0] (.v (.int .u64 ((r:Nat):Int))):=by
 refine bp Tryz.func162 Y (ae Y) (λdA M vs hvs=>?_);unfold fX at h;refine sr<|ag Y<|dn<|qq<|sr<|mv Y<|lE h λx4 h4 h=>ln Y h4<|dn<|bf<|sr<|lE h λx6 h6 h=>eq _ Y Y (yT (p:=x4) (q:=0) h6)<|ag Y<|dn ?_;cases x6;refine cF<|sr<|lE (F h) λx8 h8 h=>eq _ Y Y (yT (p:=x4) (q:=1) h8)<|ag Y<|dn ?_;cases x8;refine cF<|bC<|bJ.n<|aY.n<|qq<|bh mixed<|mv Y<|bE (F h) λeL jZ h=>ix Y Y jZ<|lr Y Y<|lE h λfD kS h=>cv _ Y (UK.nat kS)<|mv Y<|bE h λfe jB h=>ix Y Y jB<|lr Y Y<|lE h λiz pA h=>cv _ Y (UK.nat pA)<|lE h λfR j0 h=>RT.shl .none _ Y Y T η (UK.shl (a:=iz) (q:=32) (s:=32) Y j0)<|lE h λiE oc h=>RT.or .none _ Y Y T (UK.or (a:=fD) (b:=fR) oc)<|ag Y<|RT.done ⟨by kernel_rfl,?_⟩;refine aY.n<|bj ?_;cases O h;exact R1 Y;refine cT<|sr<|mv Y<|bE (V h) λdN gL h=>ix Y Y gL<|lr Y Y<|lE h λdr fO h=>cv _ Y (UK.nat fO)<|ag Y<|dn<|bj<|bJ.r<|aY.r ?_;cases O h;exact R1 Y;refine cT<|sr<|ag Y<|dn<|bj<|bJ.r<|aY.r ?_;cases O (V h);exact R1 Y
theorem kx{x0:List Nat}{x1:List Nat}{r:Int}(h:ef x0 x1=some r):Pure af 161 [aM 1 bk x0,aM 1 bk x1] (ax r):=by
 refine bp Tryz.func161 Y (ae Y) (λdA M vs hvs=>?_);unfold ef at h;refine sr<|ag Y<|dn<|qq<|sr<|mv Y<|lE h λx7 h7 h=>ln Y h7<|mv Y<|lE h λx9 h9 h=>ln Y h9<|lE h λdN gL h=>ne _ Y Y (Nh (p:=x7) (q:=x9) gL)<|dn ?_;cases dN;refine fs<|qq<|sr<|mv Y<|lE (F h) λdZ jE h=>ln Y jE<|lE h λfe jB h=>sb _ Y Y jB<|ag Y<|dn<|bE h λe6 rJ iI=>?_;refine bM (λ(vG:Unit)=>AS.cz 41 [] [] []) (λvG=>.inl vG=e6) ?_ (λvG rK=>?_);refine bf<|bN rJ (λs6=>AS.cz 41 [(0,.sv (aM 1 bk x0)),(1,.sv (aM 1 bk x1)),(5,ah s6)] [] []) (wR []) (λjc y6 G6 h rL nV=>?_);refine qq<|sr<|mv Y<|lE h λiz pA h=>ge _ Y Y pA<|dn ?_;cases iz;refine aO ?_;cases O (F h);exact⟨(),nV _ Y,wR []⟩;refine aP<|qq<|bf<|qq<|bh mixed<|mv Y<|mv Y<|bE (V h) λkD oe h=>ix Y Y oe<|lr Y Y<|mv Y<|mv Y<|bE h λjd nW h=>ix Y Y nW<|lr Y Y<|lE h λmP ya h=>ne _ Y Y (neN (p:=kD) (q:=jd) ya)<|RT.done ⟨by kernel_rfl,?_⟩;refine aY.n ?_;cases mP;refine cF<|bC<|bJ.n<|aY.n<|aZ<|mv Y<|lE (F h) λiE oc h=>sb _ Y Y oc<|ag Y<|RT.done ?_;cases O h;exact aY.n ⟨iE,rL _ Y,wR []⟩;refine cT<|qq<|qq<|bh mixed<|mv Y<|mv Y<|bE (V h) λzk Aq h=>ix Y Y Aq<|lr Y Y<|mv Y<|mv Y<|bE h λwA BQ h=>ix Y Y BQ<|lr Y Y<|lE h λmI vH h=>ls _ Y Y (ltN (p:=zk) (q:=wA) vH)<|RT.done ⟨by kernel_rfl,?_⟩;refine aY.n ?_;cases mI;refine fs<|sr<|ag Y<|dn<|bj<|bJ.r<|aY.r ?_;cases O (F h);have HX:=nV _ Y;subst HX;refine aY.r<|bJ.r<|aY.r<|aY.r ?_;cases O iI;exact R1 Y;refine cT<|sr<|ag Y<|dn<|bj<|aY.r<|bJ.r<|aY.r ?_;cases O (V h);have HX:=nV _ Y;subst HX;refine aY.r<|bJ.r<|aY.r<|aY.r ?_;cases O iI;exact R1 Y;subst rK;refine aY.n<|sr<|ag Y<|dn<|bj ?_;cases O iI;exact R1 Y;refine cT<|qq<|sr<|mv Y<|lE (V h) λdr fO h=>ln Y fO<|mv Y<|lE h λeL jZ h=>ln Y jZ<|lE h λdO gQ h=>ls _ Y Y gQ<|dn ?_;cases dO;refine fs<|sr<|ag Y<|dn<|bj<|aY.r ?_;cases O (F h);exact R1 Y;refine cT<|sr<|ag Y<|dn<|bj<|aY.r<|aY.r ?_;cases O (V h);exact R1 Y
theorem ym{x0:List Nat}{x1:List Nat}(N:Nat){r:List Nat}(h:iF x0 x1=some r):dB af 194 N [aM 1 bk x0,aM 1 bk x1] (nw N (aM 1 bk r)):=by
 refine bX Tryz.func194 Y (ae Y) (λdA M vs hN hvs=>?_);unfold iF at h;refine sr<|aI Y (bw (N:=N) (n:=1) (e:=bk))<|dn<|sr<|mv Y<|lE h λdN gL h=>ln Y gL<|mv Y<|lE h λdr fO h=>ln Y fO<|lE h λeP jg h=>RT.max .none _ Y Y T (Pw (p:=dN) (q:=dr) jg)<|lE h λeL jZ h=>ad _ Y Y jZ<|bE h λdO gQ h=>RT.Mr (e:=bk) .none Y Y T Y T gQ<|RT.alloc .none T Y Y<|RT.kH (cells:=[_]) .none Y Y Y Y T Y<|dn<|sr<|RT.Jh .none (iG 0) Y ⟨Y,ak⟩ T Y Y<|RT.alloc .none T Y Y<|RT.yP (cells:=[_]) .none (s:=.lD _ _) Y Y Y T Y<|dn<|qq<|sr<|mv Y<|mv Y<|cl (BO x0 x1) ⟨Y,Y,ak⟩<|dn<|bf<|bE h λe7 hl7 ho7=>?_;obtain⟨st7,hs7,ht7,hn7⟩:=tw hl7
 refine oR (BP x0 x1) (λ_ _ _ _ _=>trivial) Y (λk=>AS.cz 35 [(5,.ptr 5 0),(6,.ptr 6 0),(19,.sv (oQ 214 [ref [aM 1 bk x0],ref [aM 1 bk x1]]))] [(6,⟨186,[.lD 202 [.box 16]]⟩),(16,⟨128,[.sv (.v (.int .u64 (((st7 k).1:Nat):Int)))]⟩),(5,⟨39,[.row 302]⟩)] [(302,TR 130 1 bk (st7 k).2)]) [6,16,5] Y (λ_=>⟨Y,Y⟩) (BC Y) (λ_=>Y) (BD Y) (by(try dsimp only);rw[hs7];(try dsimp only);exact aN 302 15 Y Y Y Y Y Y ⟨.ptr,.ptr,.sv aq,ak⟩ ⟨⟨_,Y,⟨.lD,ak⟩⟩,⟨_,Y,⟨.sv aq,ak⟩⟩,⟨_,Y,⟨.row Y,ak⟩⟩,ak⟩ ⟨⟨_,Y,cc.refl _⟩,ak⟩) (λk hk D hD=>?_) ?_;have h:=ht7 k hk;obtain⟨sk,X1⟩:∃q,st7 k=q:=⟨_,Y⟩;rw[X1]at h⊢;obtain⟨EC,n8⟩:=sk;dsimp only[AS.inR,BB]
 try dsimp only at h
 refine lE h λp20 X2 h=>?_;rw[X2];refine lE h λp21 aoS h=>?_;rw[aoS];refine sr<|ag Y<|dn<|aZ<|ag Y<|RT.done<|aY.n ⟨Y,?_⟩;dsimp only[AS.LF];refine bf<|bh mixed<|RT.iy .none (s:=.row _) Y Y Y T<|RT.iy .none (s:=.lD _ _) Y Y Y T<|mv Y<|mv Y<|lE h λjw pK h=>ad _ Y Y (UK.add (a:=p20) (b:=p21) pK) ?_;obtain⟨⟨jm,k9⟩,qf,h⟩:=bS h;refine cB (dy qf) 16 Y ⟨Y,ak⟩<|bl (l:=[jm]) (e:=bk) (.one Y (.nil)) Y Y Y Y Y Y<|bE h λjd nW h=>aR (k:=[jm]) (e:=bk) Y Y Y nW<|RT.kH (cells:=[_]) .none Y Y Y Y T Y<|RT.done ⟨by kernel_rfl,?_⟩;refine bJ.n ?_;replace h:=Option.some.inj h;refine⟨ak,Y,Y,?_⟩;rw[<-h];exact aN 302 29 Y Y Y Y Y Y ⟨.ptr,.ptr,.sv aq,ak⟩ ⟨⟨_,Y,⟨.lD,ak⟩⟩,⟨_,Y,⟨.sv aq,ak⟩⟩,⟨_,Y,⟨.row Y,ak⟩⟩,ak⟩ ⟨⟨_,Y,cc.refl _⟩,ak⟩;rw[hn7];obtain⟨EC,n8⟩:=e7;refine bJ.n<|aY.n<|qq<|bh mixed<|RT.iy .none (s:=.row _) Y Y Y T<|RT.iy .none (s:=.lD _ _) Y Y Y T ?_;obtain⟨⟨kN,k11⟩,sL,ho7⟩:=bS ho7;refine cB (dy sL) 16 Y ⟨Y,ak⟩<|bl (l:=[kN]) (e:=bk) (.one Y (.nil)) Y Y Y Y Y Y<|bE ho7 λzk Aq ho7=>RT.akD (k:=[kN]) (e:=bk) .none hN (λ_ h=>h) Y Y Y T Y T Aq<|ag Y<|RT.done ⟨by kernel_rfl,?_⟩;refine aY.n<|bj ?_;cases O ho7;exact R1 Y
theorem rM{x0:List Nat}{x1:List Nat}(N:Nat){r:List Nat}(h:ff x0 x1=some r):dB af 195 N [aM 1 bk x0,aM 1 bk x1] (nw N (aM 1 bk r)):=by
 refine bX Tryz.func195 Y (ae Y) (λdA M vs hN hvs=>?_);unfold ff at h;refine sr<|aI Y (bw (N:=N) (n:=1) (e:=bk))<|dn<|sr<|mv Y<|lE h λdN gL h=>ln Y gL<|bE h λfy kR h=>RT.Mr (e:=bk) .none Y Y T Y T kR<|RT.alloc .none T Y Y<|RT.kH (cells:=[_]) .none Y Y Y Y T Y<|dn<|sr<|RT.Jh .none (iG 1) Y ⟨Y,ak⟩ T Y Y<|RT.alloc .none T Y Y<|RT.yP (cells:=[_]) .none (s:=.lD _ _) Y Y Y T Y<|dn<|qq<|sr<|mv Y<|mv Y<|cl (BO x0 x1) ⟨Y,Y,ak⟩<|dn<|bf<|bE h λe7 hl7 ho7=>?_;obtain⟨st7,hs7,ht7,hn7⟩:=tw hl7;refine oR (BP x0 x1) (λ_ _ _ _ _=>trivial) Y (λk=>AS.cz 28 [(5,.ptr 5 0),(6,.ptr 6 0),(15,.sv (oQ 214 [ref [aM 1 bk x0],ref [aM 1 bk x1]]))] [(6,⟨186,[.lD 202 [.box 12]]⟩),(12,⟨128,[.sv (.v (.int .u64 (((st7 k).1:Nat):Int)))]⟩),(5,⟨39,[.row 302]⟩)] [(302,TR 130 1 bk (st7 k).2)]) [6,12,5] Y (λ_=>⟨Y,Y⟩) (BC Y) (λ_=>Y) (BD Y) (by(try dsimp only);rw[hs7];(try dsimp only);exact aN 302 11 Y Y Y Y Y Y ⟨.ptr,.ptr,.sv aq,ak⟩ ⟨⟨_,Y,⟨.lD,ak⟩⟩,⟨_,Y,⟨.sv aq,ak⟩⟩,⟨_,Y,⟨.row Y,ak⟩⟩,ak⟩ ⟨⟨_,Y,cc.refl _⟩,ak⟩) (λk hk D hD=>?_) ?_;have h:=ht7 k hk;obtain⟨sk,X1⟩:∃q,st7 k=q:=⟨_,Y⟩;rw[X1]at h⊢;obtain⟨IC,n8⟩:=sk
 dsimp only[AS.inR,BB]
 try dsimp only at h
 refine lE h λp16 aoT h=>?_;rw[aoT];refine lE h λp17 aoU h=>?_;rw[aoU];refine sr<|ag Y<|dn<|aZ<|ag Y<|RT.done<|aY.n ⟨Y,?_⟩;dsimp only[AS.LF];refine bf<|bh mixed<|RT.iy .none (s:=.row _) Y Y Y T<|RT.iy .none (s:=.lD _ _) Y Y Y T<|mv Y<|mv Y<|lE h λiE oc h=>sb _ Y Y (UK.sub (a:=4294967295) (b:=p17) oc)<|lE h λiN pJ h=>ad _ Y Y (UK.add (a:=p16) (b:=iE) pJ) ?_;obtain⟨⟨iv,k9⟩,oO,h⟩:=bS h;refine cB (dy oO) 12 Y ⟨Y,ak⟩<|bl (l:=[iv]) (e:=bk) (.one Y (.nil)) Y Y Y Y Y Y<|bE h λjw pK h=>aR (k:=[iv]) (e:=bk) Y Y Y pK<|RT.kH (cells:=[_]) .none Y Y Y Y T Y<|RT.done ⟨by kernel_rfl,?_⟩;refine bJ.n ?_;replace h:=Option.some.inj h;refine⟨ak,Y,Y,?_⟩;rw[<-h];exact aN 302 26 Y Y Y Y Y Y ⟨.ptr,.ptr,.sv aq,ak⟩ ⟨⟨_,Y,⟨.lD,ak⟩⟩,⟨_,Y,⟨.sv aq,ak⟩⟩,⟨_,Y,⟨.row Y,ak⟩⟩,ak⟩ ⟨⟨_,Y,cc.refl _⟩,ak⟩;rw[hn7];obtain⟨IC,n8⟩:=e7;refine bJ.n<|aY.n<|sr<|RT.iy .none (s:=.row _) Y Y Y T<|an (s:=.row _) Y<|dn<|jD (i:=302) (E1:=130) (n:=1) (e:=bk) (l:=n8) hN (λ_ h=>h) Y<|bj ?_;cases O ho7;exact R1 Y
theorem EN{x0:List Nat}{x1:List Nat}(N:Nat){r:List Nat}(h:jW x0 x1=some r):dB af 164 N [aM 1 bk x0,aM 1 bk x1] (nw N (aM 1 bk r)):=by
 refine bX Tryz.func164 Y (ae Y) (λdA M vs hN hvs=>?_);unfold jW at h;refine sr<|aI Y (bw (N:=N) (n:=1) (e:=bk))<|dn<|sr<|mv Y<|lE h λdr fO h=>ln Y fO<|mv Y<|lE h λeL jZ h=>ln Y jZ<|lE h λdO gQ h=>ad _ Y Y gQ<|bE h λfD kS h=>RT.vX (n:=1) (e:=bk) .none Y Y T Y T aK η (by exact⟨aq,ak⟩) kS<|an (s:=.row _) Y<|dn<|qq<|sr<|mv Y<|lE h λfe jB h=>ln Y jB<|mv Y<|dn<|bE h λe28 agK SK=>?_;refine bM (λ(DH:(List Nat))=>AS.cz 63 [(5,.row 16)] [] [(16,TR 130 1 bk DH)]) (λDH=>DH=e28) ?_ (λDH agL=>?_);refine bf<|bN agK (λVJ=>AS.cz 63 [(1,.sv (aM 1 bk x1)),(5,.row 16),(17,.sv (aM 1 bk x0)),(18,ah fe),(19,ah VJ.1)] [] [(16,TR 130 1 bk VJ.2)]) (wR []) (λVJ y28 G28 h agM agN=>?_);obtain⟨w8,Np⟩:=VJ;refine sr<|lE h λiz pA h=>ls _ Y Y pA<|dn<|qq ?_;cases iz;refine aO ?_;cases O (F h);exact⟨Np,agN _ Y,wR []⟩;refine aP<|qq<|bf<|sr<|mv Y<|bE (V h) λiE oc h=>ix Y Y oc<|lr Y Y<|ag Y<|ag Y<|dn<|sr<|RT.Jh .none (iG 0) Y ⟨Y,ak⟩ T Y Y<|an (s:=.lD _ _) Y<|dn<|qq<|sr<|mv Y<|lE h λjw pK h=>ln Y pK<|mv Y<|dn<|bE h λe38 X3 fo=>?_;refine bM (λ(VN:Nat×(List Nat))=>AS.cz 63 [(1,.sv (aM 1 bk x1)),(5,.row 16),(6,ah w8),(8,.lD 202 [.box 24]),(17,.sv (aM 1 bk x0)),(18,ah fe),(19,ah w8)] [(24,⟨128,[.sv (.v (.int .u64 ((VN.1:Nat):Int)))]⟩)] [(16,TR 130 1 bk VN.2)]) (λVN=>VN=e38) ?_ (λVN X4=>?_);refine bf<|bN X3 (λNq=>AS.cz 63 [(1,.sv (aM 1 bk x1)),(5,.row 16),(6,ah w8),(7,.sv (.v (.int .u32 ((iE:Nat):Int)))),(8,.lD 202 [.box 24]),(17,.sv (aM 1 bk x0)),(18,ah fe),(19,ah w8),(25,.sv (aM 1 bk x1)),(26,ah jw),(27,ah Nq.1)] [(24,⟨128,[.sv (.v (.int .u64 ((Nq.2.1:Nat):Int)))]⟩)] [(16,TR 130 1 bk Nq.2.2)]) (wR []) (λNq y38 G38 h X5 X6=>?_);obtain⟨Gg,ED,DG⟩:=Nq;refine sr<|lE h λlO wB h=>ls _ Y Y wB<|dn<|qq ?_;cases lO;refine aO ?_;cases O (F h);exact⟨(ED,DG),X6 _ Y,wR []⟩;refine aP<|qq<|bf<|sr<|mv Y<|bE (V h) λvY Ar h=>ix Y Y Ar<|lr Y Y<|ag Y<|ag Y<|dn<|aZ<|mo (s:=.row _) Y<|mv Y<|mv Y<|lE h λqe zE h=>ad _ Y Y zE<|mo (s:=.lD _ _) Y<|mo (s:=.row _) Y<|mv Y<|mv Y<|lE h λmI vH h=>ad _ Y Y vH<|bE h λyj Gl h=>iR Y Y Y Gl<|bE h λry BR h=>lR Y Y BR Y<|lE h λA6 Lu h=>cv _ Y (UK.nat Lu)<|mv Y<|lE h λvZ DL h=>cv _ Y (UK.nat DL)<|mv Y<|lE h λw9 Bm h=>cv _ Y (UK.nat Bm)<|lE h λtD h48 h=>RT.mul .none _ Y Y T (UK.mul (a:=vZ) (b:=w9) h48)<|lE h λx49 h49 h=>ad _ Y Y (UK.add (a:=A6) (b:=tD) h49) ?_;obtain⟨⟨yU,k41⟩,HY,h⟩:=bS h;refine cB (dy HY) 24 Y ⟨Y,ak⟩<|bE h λBr HZ h=>iR Y Y Y HZ<|bE h λl42 PW h=>sR yU Y Y Y Y PW<|RT.done<|bJ.n<|aY.n<|aZ<|lE h λzm EO h=>ad _ Y Y EO<|mv Y<|RT.done ?_;cases O h;exact aY.n ⟨(zm,k41,l42),X5 _ Y,wR []⟩;subst X4;obtain⟨PG,SC⟩:=VN;refine aY.n<|aZ<|mo (s:=.row _) Y<|mv Y<|mv Y<|lE fo λLs VO fo=>ln Y VO<|lE fo λLt VP fo=>ad _ Y Y VP<|mo (s:=.lD _ _) Y ?_;obtain⟨⟨Sc,k45⟩,SL,fo⟩:=bS fo;refine cB (dy SL) 24 Y ⟨Y,ak⟩<|bE fo λPI Ut fo=>iR Y Y Y Ut<|bE fo λl46 akV fo=>sR Sc Y Y Y Y akV<|RT.done<|bJ.n<|aY.n<|aZ<|lE fo λHl PX fo=>ad _ Y Y PX<|mv Y<|RT.done ?_;cases O fo;exact aY.n ⟨(Hl,l46),agM _ Y,wR []⟩;subst agL;refine aY.n<|sr<|mo (s:=.row _) Y<|an (s:=.row _) Y<|dn<|jD (i:=16) (E1:=130) (n:=1) (e:=bk) (l:=DH) hN (λ_ h=>h) Y<|bj ?_;cases O SK;exact R1 Y
end
section
open Go.Fw Go.Fw.Z Go.RowKit
theorem EP{x0:List Nat}{x1:Nat}{r:Nat×List Nat}(h:me x0 x1=some r):Su af 204 [.row 1000,.sv (.v (.int .u64 ((x1:Nat):Int)))] (TR 130 1 bk x0) (.sv (.v (.int .u64 ((r.1:Nat):Int)))) (List.flatMap bk r.2):=by
 refine Dz Tryz.func204 Y (ae Y) Y Y (λdA M v0=>?_);unfold me at h;refine sr<|ag Y<|dn<|sr<|ag Y<|dn<|qq<|sr<|mo (s:=.row _) Y<|lE h λx9 h9 h=>lL Y Y h9<|lE h λdN gL h=>sb _ Y Y gL<|ag Y<|dn<|bE h λe8 Nu C3=>?_;refine bM (λ(MB:Nat×(List Nat))=>AS.cz 34 [(5,.sv (.v (.int .u64 ((MB.1:Nat):Int))))] [] [(1000,TR 130 1 bk MB.2)]) (λMB=>MB=e8) ?_ (λMB Nv=>?_);refine bf<|bN Nu (λs8=>AS.cz 34 [(0,.row 1000),(1,.sv (.v (.int .u64 ((x1:Nat):Int)))),(5,.sv (.v (.int .u64 ((s8.1:Nat):Int)))),(6,ah s8.2.1)] [] [(1000,TR 130 1 bk s8.2.2)]) (wR []) (λs8 y8 G8 h Nw Nx=>?_);obtain⟨XJ,PJ,Am⟩:=s8;refine qq<|sr<|mv Y<|lE h λdr fO h=>ge _ Y Y fO<|dn ?_;cases dr;refine aO ?_;cases O (F h);exact⟨(XJ,Am),Nx _ Y,wR []⟩;refine aP<|qq<|bf<|sr<|mv Y<|lE (V h) λfD kS h=>RT.shl .none _ Y Y T η (UK.shl (a:=XJ) (q:=32) (s:=32) Y kS)<|mo (s:=.row _) Y<|mv Y<|bE h λkI nq h=>iR Y Y Y nq<|bE h λiz pA h=>lR Y Y pA Y<|lE h λfR j0 h=>cv _ Y (UK.nat j0)<|lE h λiE oc h=>RT.or .none _ Y Y T (UK.or (a:=fD) (b:=fR) oc)<|ag Y<|dn<|sr<|mo (s:=.row _) Y<|mv Y<|mv Y<|mv Y<|bE h λjm qf h=>RT.quo .none _ Y Y T (nzU qf) (UK.quo qf)<|lE h λlO wB h=>cv _ Y (UK.nat wB)<|bE h λjd nW h=>iR Y Y Y nW<|bE h λEE zG h=>sR lO Y Y Y Y zG<|dn<|aZ<|mv Y<|mv Y<|bE h λkN sL h=>RT.rem .none _ Y Y T (nzR sL) (abH sL)<|ag Y<|RT.done<|bJ.n<|aY.n<|aZ<|mv Y<|lE h λeL jZ h=>sb _ Y Y jZ<|ag Y<|RT.done ?_;cases O h;exact aY.n ⟨(kN,eL,EE),Nw _ Y,wR []⟩;subst Nv;obtain⟨akF,ID⟩:=MB;refine aY.n<|sr<|mv Y<|ag Y<|dn<|bj<|bE C3 λ_ hle C3=>?_;cases O C3;exact⟨.inr Y,.sv (gp (.tmp Y (.nil)) aq),(by show _=qa.live ⟨130,1,x0.length,List.flatMap bk ID⟩;rw[<-tj hle];rfl)⟩
theorem DM{x0:List Nat}{x1:Nat}{r:List Nat}(h:jq x0 x1=some r):Pure af 211 [aM 1 bk x0,.v (.int .u64 ((x1:Nat):Int))] (aM 1 bk r):=by
 refine bp Tryz.func211 Y (ae Y) (λdA M vs hvs=>?_);unfold jq at h;refine sr<|aI Y (aD (n:=1) (e:=bk))<|dn<|sr<|RT.Jh .none (iG 0) Y ⟨Y,ak⟩ T Y Y<|an (s:=.lD _ _) Y<|dn<|sr<|mv Y<|lE h λfy kR h=>ln Y kR<|lE h λdr fO h=>ad _ Y Y fO<|bE h λeP jg h=>RT.Mr (e:=bk) .none Y Y T Y T jg<|an (s:=.row _) Y<|dn<|qq<|sr<|mv Y<|lE h λdO gQ h=>ln Y gQ<|mv Y<|dn<|bE h λe8 Nu C3=>?_;refine bM (λ(MB:Nat×(List Nat))=>AS.cz 35 [(5,.lD 202 [.box 9]),(6,.row 302)] [(9,⟨128,[.sv (.v (.int .u64 ((MB.1:Nat):Int)))]⟩)] [(302,TR 130 1 bk MB.2)]) (λMB=>MB=e8) ?_ (λMB Nv=>?_);refine bf<|bN Nu (λs8=>AS.cz 35 [(1,.sv (.v (.int .u64 ((x1:Nat):Int)))),(5,.lD 202 [.box 9]),(6,.row 302),(14,.sv (aM 1 bk x0)),(15,ah dO),(16,ah s8.1)] [(9,⟨128,[.sv (.v (.int .u64 ((s8.2.1:Nat):Int)))]⟩)] [(302,TR 130 1 bk s8.2.2)]) (aN 302 13 Y Y Y Y Y Y ⟨.sv aq,.lD,.row Y,.sv aq,.sv aq,.sv aq,ak⟩ ⟨⟨_,Y,⟨.sv aq,ak⟩⟩,ak⟩ ⟨⟨_,Y,cc.refl _⟩,ak⟩) (λs8 y8 G8 h Nw Nx=>?_);obtain⟨EF,An,n8⟩:=s8;refine sr<|lE h λdZ jE h=>ls _ Y Y jE<|dn<|qq ?_;cases dZ;refine aO ?_;cases O (F h);exact⟨(An,n8),Nx _ Y,wR []⟩;refine aP<|qq<|bf<|sr<|bE (V h) λfe jB h=>ix Y Y jB<|lr Y Y<|ag Y<|dn<|aZ<|mo (s:=.row _) Y<|mo (s:=.lD _ _) Y<|mv Y<|lE h λiN pJ h=>cv _ Y (UK.nat pJ)<|mv Y<|lE h λkD oe h=>RT.shl .none _ Y Y T (Int.natCast_nonneg _) (UK.shl (a:=iN) (q:=((x1:Nat):Int)) (s:=min x1 64) Y oe) ?_;obtain⟨⟨jw,k10⟩,pK,h⟩:=bS h;refine cB (dy pK) 9 Y ⟨Y,ak⟩<|bl (l:=[jw]) (e:=bk) (.one Y (.nil)) Y Y Y Y Y Y<|bE h λlO wB h=>aR (k:=[jw]) (e:=bk) Y Y Y wB<|an (s:=.row _) Y<|RT.done<|bJ.n<|aY.n<|aZ<|lE h λjd nW h=>ad _ Y Y nW<|mv Y<|RT.done ?_;cases O h;exact aY.n ⟨(jd,k10,lO),Nw _ Y,aN 302 28 Y Y Y Y Y Y ⟨.sv aq,.lD,.row Y,.sv aq,.sv aq,.sv aq,ak⟩ ⟨⟨_,Y,⟨.sv aq,ak⟩⟩,ak⟩ ⟨⟨_,Y,cc.refl _⟩,ak⟩⟩;subst Nv;obtain⟨Jw,XK⟩:=MB;refine aY.n<|sr<|mo (s:=.row _) Y<|mo (s:=.lD _ _) Y ?_;obtain⟨⟨kN,k12⟩,sL,C3⟩:=bS C3;refine cB (dy sL) 9 Y ⟨Y,ak⟩<|bl (l:=[kN]) (e:=bk) (.one Y (.nil)) Y Y Y Y Y Y<|bE C3 λzk Aq C3=>RT.abI (k:=[kN]) (e:=bk) .none Y Y Y T Y T Aq<|ag Y<|dn<|bj ?_;cases O C3;exact R1 Y
theorem C4{x0:List Nat}{x1:Nat}{r:List Nat}(h:mQ x0 x1=some r):F7 af 211 [aM 1 bk x0,.v (.int .u64 ((x1:Nat):Int))] (TR 130 1 bk r):=by
 refine th Tryz.func211 Y (ae Y) (λdA M vs hvs=>?_);unfold mQ at h;refine sr<|ag Y<|dn<|bP (cS 4 304 130 1 Y Y T)<|sr<|RT.Jh .none (iG 0) Y ⟨Y,ak⟩ T Y Y<|an (s:=.lD _ _) Y<|dn<|sr<|mv Y<|lE h λfy kR h=>ln Y kR<|lE h λdr fO h=>ad _ Y Y fO<|bE h λeP jg h=>RT.Mr (e:=bk) .none Y Y T Y T jg<|an (s:=.row _) Y<|dn<|qq<|sr<|mv Y<|lE h λdO gQ h=>ln Y gQ<|mv Y<|dn<|bE h λe8 Nu C3=>?_;refine bM (λ(MB:Nat×(List Nat))=>AS.cz 35 [(5,.lD 202 [.box 9]),(6,.row 306)] [(9,⟨128,[.sv (.v (.int .u64 ((MB.1:Nat):Int)))]⟩)] [(306,TR 130 1 bk MB.2)]) (λMB=>MB=e8) ?_ (λMB Nv=>?_);refine bf<|bN Nu (λs8=>AS.cz 35 [(1,.sv (.v (.int .u64 ((x1:Nat):Int)))),(5,.lD 202 [.box 9]),(6,.row 306),(14,.sv (aM 1 bk x0)),(15,ah dO),(16,ah s8.1)] [(9,⟨128,[.sv (.v (.int .u64 ((s8.2.1:Nat):Int)))]⟩)] [(306,TR 130 1 bk s8.2.2)]) (aN 306 13 Y Y Y Y Y Y ⟨.sv aq,.lD,.row Y,.sv aq,.sv aq,.sv aq,ak⟩ ⟨⟨_,Y,⟨.sv aq,ak⟩⟩,ak⟩ ⟨⟨_,Y,cc.refl _⟩,ak⟩) (λs8 y8 G8 h Nw Nx=>?_);obtain⟨EF,An,yV⟩:=s8;refine sr<|lE h λdZ jE h=>ls _ Y Y jE<|dn<|qq ?_;cases dZ;refine aO ?_;cases O (F h);exact⟨(An,yV),Nx _ Y,wR []⟩;refine aP<|qq<|bf<|sr<|bE (V h) λfe jB h=>ix Y Y jB<|lr Y Y<|ag Y<|dn<|aZ<|mo (s:=.row _) Y<|mo (s:=.lD _ _) Y<|mv Y<|lE h λiN pJ h=>cv _ Y (UK.nat pJ)<|mv Y<|lE h λkD oe h=>RT.shl .none _ Y Y T (Int.natCast_nonneg _) (UK.shl (a:=iN) (q:=((x1:Nat):Int)) (s:=min x1 64) Y oe) ?_;obtain⟨⟨jw,k10⟩,pK,h⟩:=bS h;refine cB (dy pK) 9 Y ⟨Y,ak⟩<|bl (l:=[jw]) (e:=bk) (.one Y (.nil)) Y Y Y Y Y Y<|bE h λlO wB h=>aR (k:=[jw]) (e:=bk) Y Y Y wB<|an (s:=.row _) Y<|RT.done<|bJ.n<|aY.n<|aZ<|lE h λjd nW h=>ad _ Y Y nW<|mv Y<|RT.done ?_;cases O h;exact aY.n ⟨(jd,k10,lO),Nw _ Y,aN 306 28 Y Y Y Y Y Y ⟨.sv aq,.lD,.row Y,.sv aq,.sv aq,.sv aq,ak⟩ ⟨⟨_,Y,⟨.sv aq,ak⟩⟩,ak⟩ ⟨⟨_,Y,cc.refl _⟩,ak⟩⟩;subst Nv;obtain⟨Jw,yW⟩:=MB;refine aY.n<|sr<|mo (s:=.row _) Y<|mo (s:=.lD _ _) Y ?_;obtain⟨⟨kN,k12⟩,sL,C3⟩:=bS C3;refine cB (dy sL) 9 Y ⟨Y,ak⟩<|bl (l:=[kN]) (e:=bk) (.one Y (.nil)) Y Y Y Y Y Y<|bE C3 λzk Aq C3=>aR (k:=[kN]) (e:=bk) Y Y Y Aq<|an (s:=.row _) Y<|dn<|bj ?_;cases O C3;exact⟨.inr Y,_,.tmp Y,Y⟩
theorem DN{x0:Nat}{r:Int}(h:kQ x0=some r):Pure af 215 [.v (.int .u32 ((x0:Nat):Int))] (ax r):=by
 refine bp Tryz.func215 Y (ae Y) (λdA M vs hvs=>?_);unfold kQ at h;refine sr<|ag Y<|dn<|qq<|sr<|mv Y<|lE h λx4 h4 h=>ge _ Y Y (leN (p:=65536) (q:=x0) h4)<|dn<|bU h (λj2=>AS.cz 19 [(0,.sv (.v (.int .u32 ((j2.1:Nat):Int)))),(2,ah j2.2)] [] []) (λh=>?_) (λj2 h=>?_);cases x4;exact fs<|⟨(x0,0),(F h),wR []⟩;exact cT<|sr<|mv Y<|lE (V h) λx6 h6 h=>RT.shr .none _ Y Y T η (Ni (k:=.u32) (a:=x0) (q:=16) (s:=16) Y h6)<|ag Y<|dn<|aZ<|ag Y<|dn<|⟨(x6,16),h,wR []⟩;obtain⟨SD,abY⟩:=j2;refine aY.n<|qq<|sr<|mv Y<|lE h λx8 h8 h=>ge _ Y Y (leN (p:=256) (q:=SD) h8)<|dn<|bU h (λj4=>AS.cz 19 [(0,.sv (.v (.int .u32 ((j4.1:Nat):Int)))),(2,ah j4.2)] [] []) (λh=>?_) (λj4 h=>?_);cases x8;exact fs<|⟨(SD,abY),(F h),wR []⟩;exact cT<|sr<|mv Y<|lE (V h) λdN gL h=>RT.shr .none _ Y Y T η (Ni (k:=.u32) (a:=SD) (q:=8) (s:=8) Y gL)<|ag Y<|dn<|aZ<|mv Y<|lE h λdr fO h=>ad _ Y Y fO<|ag Y<|dn<|⟨(dN,dr),h,wR []⟩;obtain⟨akG,akH⟩:=j4;refine aY.n<|sr<|mv Y<|mv Y<|lE h λdO gQ h=>cv _ Y (UK.nat gQ)<|bE h λfD kS h=>?_;refine RT.six (l:=[0,1,2,2,3,3,3,3,4,4,4,4,4,4,4,4,5,5,5,5,5,5,5,5,5,5,5,5,5,5,5,5,6,6,6,6,6,6,6,6,6,6,6,6,6,6,6,6,6,6,6,6,6,6,6,6,6,6,6,6,6,6,6,6,7,7,7,7,7,7,7,7,7,7,7,7,7,7,7,7,7,7,7,7,7,7,7,7,7,7,7,7,7,7,7,7,7,7,7,7,7,7,7,7,7,7,7,7,7,7,7,7,7,7,7,7,7,7,7,7,7,7,7,7,7,7,7,7,8,8,8,8,8,8,8,8,8,8,8,8,8,8,8,8,8,8,8,8,8,8,8,8,8,8,8,8,8,8,8,8,8,8,8,8,8,8,8,8,8,8,8,8,8,8,8,8,8,8,8,8,8,8,8,8,8,8,8,8,8,8,8,8,8,8,8,8,8,8,8,8,8,8,8,8,8,8,8,8,8,8,8,8,8,8,8,8,8,8,8,8,8,8,8,8,8,8,8,8,8,8,8,8,8,8,8,8,8,8,8,8,8,8,8,8,8,8,8,8,8,8,8,8,8,8,8,8]) .none Y Y T kS<|lE h λdZ jE h=>cv _ Y jE<|lE h λfe jB h=>ad _ Y Y jB<|ag Y<|dn<|bj ?_;cases O h;exact R1 Y
theorem wC{x0:Nat}{r:Int}(h:fz x0=some r):Pure af 210 [.v (.int .u32 ((x0:Nat):Int))] (ax r):=by
 refine bp Tryz.func210 Y (ae Y) (λdA M vs hvs=>?_);unfold fz at h;refine sr<|ag Y<|dn<|sr<|mv Y<|bE h λx4 h4 h=>cl (DN h4) ⟨Y,ak⟩<|lE h λx5 h5 h=>sb _ Y Y h5<|ag Y<|dn<|bj ?_;cases O h;exact R1 Y
theorem ER{x0:List Nat}{o0:Nat}{n0:Nat}{x1:List Nat}{r:Nat×List Nat}(h:mh x0 o0 n0 x1=some r):Su af 212 [.vS 1000 (o0*1) n0,.sv (aM 1 bk x1)] (TR 130 1 bk x0) (.sv (.v (.int .u64 ((r.1:Nat):Int)))) (List.flatMap bk r.2):=by
 refine Dz Tryz.func212 Y (ae Y) Y Y (λdA M v0=>?_);unfold mh at h;refine sr<|ag Y<|dn<|sr<|mv Y<|lE h λdr fO h=>ln Y fO<|ag Y<|dn<|qq<|bh mixed<|mo (s:=.vS _ _ _) Y<|mv Y<|bE h λdO gQ h=>RT.PB .none Y Y T gQ<|bE h λfD kS h=>lR Y Y kS Y<|lE h λdZ jE h=>cv _ Y (UK.nat jE)<|lE h λfe jB h=>RT.shl .none _ Y Y T η (UK.shl (a:=dZ) (q:=32) (s:=32) Y jB)<|mo (s:=.vS _ _ _) Y<|mv Y<|lE h λfR j0 h=>sb _ Y Y j0<|bE h λiE oc h=>RT.PB .none Y Y T oc<|bE h λiN pJ h=>lR Y Y pJ Y<|lE h λiv oO h=>cv _ Y (UK.nat oO)<|lE h λkD oe h=>RT.or .none _ Y Y T (UK.or (a:=fe) (b:=iv) oe)<|ag Y<|RT.done ⟨by kernel_rfl,?_⟩;refine aY.n<|qq<|bh mixed<|mv Y<|mv Y<|lE h λlO wB h=>sb _ Y Y wB<|bE h λjd nW h=>ix Y Y nW<|lr Y Y<|lE h λmP ya h=>cv _ Y (UK.nat ya)<|mv Y<|mv Y<|lE h λzk Aq h=>sb _ Y Y Aq<|bE h λqe zE h=>ix Y Y zE<|lr Y Y<|lE h λqk BS h=>cv _ Y (UK.nat BS)<|ag Y<|ag Y<|RT.done ⟨by kernel_rfl,?_⟩;refine aY.n<|qq<|bh mixed<|mv Y<|mv Y<|bE h λmI vH h=>RT.quo .none _ Y Y T (nzU vH) (UK.quo vH)<|mv Y<|mv Y<|bE h λA6 Lu h=>RT.rem .none _ Y Y T (nzR Lu) (abH Lu)<|ag Y<|ag Y<|RT.done ⟨by kernel_rfl,?_⟩;refine aY.n<|qq<|bE h λEM xd oT=>?_
 refine bM (λ(VK:Nat)=>AS.cz 71 [(9,.sv (.v (.int .u64 ((VK:Nat):Int))))] [] [(1000,TR 130 1 bk x0)]) (λVK=>VK=EM) ?_ (λVK xe=>?_);refine bf<|bN xd (λrI=>AS.cz 71 [(0,.vS 1000 (o0*1) n0),(5,ah dr),(7,.sv (.v (.int .u64 ((mP:Nat):Int)))),(8,.sv (.v (.int .u64 ((qk:Nat):Int)))),(9,.sv (.v (.int .u64 ((rI.1:Nat):Int)))),(10,.sv (.v (.int .u64 ((rI.2:Nat):Int))))] [] [(1000,TR 130 1 bk x0)]) (wR []) (λrI XZ X0 h xg tJ=>?_);obtain⟨LK,Mv⟩:=rI;refine qq<|qq<|bU h (λGk=>AS.cz 71 [(0,.vS 1000 (o0*1) n0),(5,ah dr),(7,.sv (.v (.int .u64 ((mP:Nat):Int)))),(8,.sv (.v (.int .u64 ((qk:Nat):Int)))),(9,.sv (.v (.int .u64 ((LK:Nat):Int)))),(10,.sv (.v (.int .u64 ((Mv:Nat):Int)))),(61,ai Gk)] [] [(1000,TR 130 1 bk x0)]) (λh=>?_) (λSE h=>?_);refine aZ<|mv Y<|lE h λvZ DL h=>RT.shr .none _ Y Y T η (Ni (k:=.u64) (a:=LK) (q:=32) (s:=32) Y DL)<|lE h λzo h46 h=>ne _ Y Y (neN (p:=vZ) (q:=0) h46)<|mv Y<|bE h λXM dI h=>?_;cases zo;refine gm Y<|gm Y<|lE (F dI) λyU HY dI=>RT.mul (.some Y Y) _ Y Y T (UK.mul (a:=LK) (b:=qk) HY)<|gm Y<|lE dI λzm EO dI=>RT.shl (.some Y Y) _ Y Y T η (UK.shl (a:=Mv) (q:=32) (s:=32) Y EO)<|RT.move (.some Y Y) (s:=.vS _ _ _) Y T<|gm Y<|lE dI λAo Ny dI=>RT.sub (.some Y Y) _ Y Y T Ny<|bE dI λLs VO dI=>RT.PB (.some Y Y) Y Y T VO<|bE dI λLt VP dI=>RT.agm (.some Y Y) Y Y VP Y T<|lE dI λSe h58 dI=>RT.conv (.some Y Y) _ Y T (UK.nat h58)<|lE dI λSc SL dI=>RT.or (.some Y Y) _ Y Y T (UK.or (a:=zm) (b:=Se) SL)<|lE dI λPI Ut dI=>gg _ Y Y (ltN (p:=Sc) (q:=yU) Ut) ?_;obtain rfl:=O dI;exact pF Y<|dn<|⟨PI,h,wR []⟩;cases O (V dI)
 exact ww<|ww<|ww<|ww<|ww<|ww<|ww<|ww<|ww<|ww<|ww<|ww<|ww<|pT Y<|dn<|⟨true,h,wR []⟩;refine aY.n ?_;cases SE;refine aO ?_;cases O (F h);exact⟨LK,tJ _ Y,wR []⟩;refine aP<|bf<|sr<|mv Y<|lE (V h) λx63 h63 h=>sb _ Y Y (UK.sub (a:=LK) (b:=1) h63)<|ag Y<|dn<|sr<|mv Y<|mv Y<|lE h λMw VQ h=>ad _ Y Y (UK.add (a:=Mv) (b:=mP) VQ)<|ag Y<|dn<|sr<|mv Y<|lE h λSd h68 h=>RT.shr .none _ Y Y T η (Ni (k:=.u64) (a:=Mw) (q:=32) (s:=32) Y h68)<|lE h λXL h69 h=>ne _ Y Y (neN (p:=Sd) (q:=0) h69)<|dn ?_;cases XL;refine cF<|bC<|bJ.n ?_;cases O (F h);exact aY.n ⟨(x63,Mw),xg _ Y,wR []⟩;refine cT<|bR<|bJ.y η<|aY.x<|bJ.x<|aY.n ?_;cases O (V h);exact⟨x63,tJ _ Y,wR []⟩;subst xe;refine aY.n<|sr<|mv Y<|ag Y<|dn<|bj<|bE oT λ_ hle oT=>?_;cases O oT;exact⟨.inr Y,.sv (gp (.tmp Y (.nil)) aq),(by show _=qa.live ⟨130,1,x0.length,List.flatMap bk x0⟩;rw[<-tj hle];rfl)⟩
theorem yd{x0:List Nat}{o0:Nat}{n0:Nat}{x1:List Nat}{x2:Nat}{r:Bool×List Nat}(h:fg x0 o0 n0 x1 x2=some r):Su af 213 [.vS 1000 (o0*1) n0,.sv (aM 1 bk x1),.sv (.v (.int .u64 ((x2:Nat):Int)))] (TR 130 1 bk x0) (ai r.1) (List.flatMap bk r.2):=by
 refine Dz Tryz.func213 Y (ae Y) Y Y (λdA M v0=>?_);unfold fg at h;refine sr<|ag Y<|dn<|sr<|ag Y<|dn<|sr<|RT.Jh .none (iG 0) Y ⟨Y,ak⟩ T Y Y<|an (s:=.lD _ _) Y<|dn<|qq<|sr<|mo (s:=.vS _ _ _) Y<|lE h λeL jZ h=>RT.agr .none Y T jZ<|mv Y<|dn<|bE h λPK Gm nu=>?_;refine bM (λ(Gn:Nat×(List Nat))=>AS.cz 51 [(7,.sv (.v (.int .u64 ((Gn.1:Nat):Int))))] [] [(1000,TR 130 1 bk Gn.2)]) (λGn=>Gn=PK) ?_ (λGn Gp=>?_);refine bf<|bN Gm (λvF=>AS.cz 51 [(0,.vS 1000 (o0*1) n0),(1,.sv (aM 1 bk x1)),(2,.sv (.v (.int .u64 ((x2:Nat):Int)))),(7,.sv (.v (.int .u64 ((vF.1:Nat):Int)))),(8,.lD 202 [.box 12]),(14,ah eL),(15,ah vF.2.1)] [(12,⟨128,[.sv (.v (.int .u64 ((vF.2.2.1:Nat):Int)))]⟩)] [(1000,TR 130 1 bk vF.2.2.2)]) (wR []) (λvF y12 G12 h Gq Gr=>?_);obtain⟨VL,EG,Nr,CJ⟩:=vF;refine sr<|lE h λfD kS h=>ls _ Y Y kS<|dn<|qq ?_;cases fD;refine aO ?_;cases O (F h);exact⟨(VL,CJ),Gr _ Y,wR []⟩;refine aP<|qq<|bf<|sr<|mv Y<|ag Y<|dn<|sr<|ag Y<|dn<|qq<|sr<|mv Y<|mv Y<|lE (V h) λiz pA h=>ln Y pA<|lE h λfR j0 h=>ls _ Y Y j0<|dn<|bU h (λj14=>AS.cz 51 [(0,.vS 1000 (o0*1) n0),(1,.sv (aM 1 bk x1)),(2,.sv (.v (.int .u64 ((x2:Nat):Int)))),(7,.sv (.v (.int .u64 ((VL:Nat):Int)))),(8,.lD 202 [.box 12]),(9,ah EG),(10,.sv (.v (.int .u64 ((j14:Nat):Int)))),(14,ah eL),(15,ah EG)] [(12,⟨128,[.sv (.v (.int .u64 ((Nr:Nat):Int)))]⟩)] [(1000,TR 130 1 bk CJ)]) (λh=>?_) (λXN h=>?_);cases fR;exact fs<|⟨0,(F h),wR []⟩;exact cT<|aZ<|mv Y<|mv Y<|bE (V h) λiv oO h=>ix Y Y oO<|lr Y Y<|lE h λjw pK h=>cv _ Y (UK.nat pK)<|mv Y<|lE h λlO wB h=>RT.mul .none _ Y Y T (UK.mul (a:=jw) (b:=x2) wB)<|ag Y<|dn<|⟨lO,h,wR []⟩;refine aY.n<|qq<|bh mixed<|mo (s:=.vS _ _ _) Y<|mv Y<|bE h λmP ya h=>RT.PB .none Y Y T ya<|bE h λkN sL h=>lR Y Y sL Y<|lE h λpz yc h=>cv _ Y (UK.nat yc)<|mo (s:=.lD _ _) Y<|mv Y ?_;obtain⟨⟨mF,k16⟩,vJ,h⟩:=bS h;refine cB (dy vJ) 12 Y ⟨Y,ak⟩<|lE h λqk BS h=>cv _ Y (UK.nat BS)<|lE h λwA BQ h=>sb _ Y Y (UK.sub (a:=pz) (b:=qk) BQ)<|mv Y<|lE h λmI vH h=>sb _ Y Y (UK.sub (a:=wA) (b:=VL) vH)<|ag Y<|RT.done ⟨by kernel_rfl,?_⟩;refine aY.n<|sr<|mo (s:=.vS _ _ _) Y<|mv Y<|mv Y<|lE h λsK zH h=>cv _ Y (UK.nat zH)<|bE h λvZ DL h=>RT.PB .none Y Y T DL<|bE h λl18 X7 h=>sR sK Y Y Y Y X7<|dn<|aZ<|mv Y<|lE h λw9 Bm h=>RT.shr .none _ Y Y T η (Ni (k:=.u64) (a:=mI) (q:=63) (s:=63) Y Bm)<|ag Y<|RT.done<|bJ.n<|aY.n<|aZ<|lE h λtD h48 h=>ad _ Y Y h48<|mv Y<|RT.done ?_;cases O h;exact aY.n ⟨(w9,tD,k16,l18),Gq _ Y,wR []⟩;subst Gp;obtain⟨XO,EH⟩:=Gn;refine aY.n<|sr<|mv Y<|lE nu λyU HY nu=>ne _ Y Y (neN (p:=XO) (q:=0) HY)<|ag Y<|dn<|bj<|bE nu λ_ hle nu=>?_;cases O nu;exact⟨.inr Y,.sv (gp (.tmp Y (.nil)) aq),(by show _=qa.live ⟨130,1,x0.length,List.flatMap bk EH⟩;rw[<-tj hle];rfl)⟩
set_option maxHeartbeats 4000000 in
theorem Gs{x0:List Nat}{x1:List Nat}(N:Nat){r:(List Nat)×(List Nat)}(h:nk x0 x1=some r):dB af 205 N [aM 1 bk x0,aM 1 bk x1] (.Bs [nw N (aM 1 bk r.1),nw N (aM 1 bk r.2)]):=by
 refine bX Tryz.func205 Y (ae Y) (λdA M vs hN hvs=>?_);unfold nk at h;refine sr<|ag Y<|ag Y<|dn<|bP (cS 4 306 130 1 Y Y T)<|bP (cS 5 308 130 1 Y Y T)<|sr<|mv Y<|lE h λdZ jE h=>ln Y jE<|ag Y<|dn<|sr<|mv Y<|mv Y<|lE h λiz pA h=>sb _ Y Y pA<|bE h λfR j0 h=>ix Y Y j0<|lr Y Y<|bE h λiN pJ h=>cl (wC pJ) ⟨Y,ak⟩<|lE h λiv oO h=>cv _ Y (UK.conv oO)<|ag Y<|dn<|qq<|bh mixed<|mv Y<|mv Y<|bE h λjm qf h=>cN (C4 qf) ⟨Y,Y,ak⟩<|mv Y<|mv Y<|bE h λvY Ar h=>cl (DM Ar) ⟨Y,Y,ak⟩<|mv Y<|bE h λkN sL h=>RT.Jp .none 0 dZ Y Y ⟨_,Y⟩ T sL<|an (s:=.row _) Y<|ag Y<|RT.done ⟨by kernel_rfl,?_⟩;refine aY.n<|sr<|mv Y<|lE h λzk Aq h=>ln Y Aq<|mv Y<|lE h λmF vJ h=>sb _ Y Y vJ<|lE h λqk BS h=>ad _ Y Y BS<|bE h λwA BQ h=>RT.vX (n:=1) (e:=bk) .none Y Y T Y T aK η (by exact⟨aq,ak⟩) BQ<|an (s:=.row _) Y<|dn<|qq<|sr<|mv Y<|lE h λmI vH h=>ln Y vH<|mv Y<|lE h λry BR h=>sb _ Y Y BR<|ag Y<|dn<|bE h λe36 aoW agQ=>?_;refine bM (λ(VR:(List Nat)×(List Nat))=>AS.cz 141 [(4,.row 38),(6,ah dZ),(7,.sv (.v (.int .u64 ((iv:Nat):Int)))),(8,.row 27)] [] [(38,TR 130 1 bk VR.1),(27,TR 130 1 bk VR.2)]) (λVR=>VR=e36) ?_ (λVR aoX=>?_);refine bf ?_
 refine bN aoW (λs36=>AS.cz 141 [(4,.row 38),(6,ah dZ),(7,.sv (.v (.int .u64 ((iv:Nat):Int)))),(8,.row 27),(9,.sv (aM 1 bk kN)),(10,ah s36.1)] [] [(38,TR 130 1 bk s36.2.1),(27,TR 130 1 bk s36.2.2)]) (wR []) (λs36 y36 G36 h aoY aoZ=>?_);obtain⟨n9,BI,DI⟩:=s36;refine qq<|sr<|mv Y<|lE h λsK zH h=>ge _ Y Y zH<|dn ?_;cases sK;refine aO ?_;cases O (F h);exact⟨(BI,DI),aoZ _ Y,wR []⟩;refine aP<|qq<|bf<|sr<|mo (s:=.row _) Y<|mv Y<|mv Y<|mv Y<|lE (V h) λBr HZ h=>ad _ Y Y HZ<|lE h λzm EO h=>ad _ Y Y EO ?_;obtain⟨⟨o53,n53⟩,VS,h⟩:=bS h;refine RT.akv .none n9 zm Y Y ⟨_,Y⟩ ⟨_,Y⟩ T VS<|mv Y ?_;obtain⟨⟨Ao,l38⟩,Ny,h⟩:=bS h;refine bE h λ_ ao0 h=>cR (l:=DI) (l':=l38) (e:=bk) (ER Ny) (tj ao0) 27 Y (.k2 Y Y)<|ag Y<|dn<|qq<|sr<|mo (s:=.row _) Y<|mv Y<|mv Y<|mv Y<|lE h λPI Ut h=>ad _ Y Y Ut<|lE h λHl PX h=>ad _ Y Y PX ?_;obtain⟨⟨o62,n62⟩,h62,h⟩:=bS h;refine RT.akv .none n9 Hl Y Y ⟨_,Y⟩ ⟨_,Y⟩ T h62<|mv Y<|mv Y ?_;obtain⟨⟨Uq,WM⟩,h65,h⟩:=bS h;refine bE h λ_ ao1 h=>cR (l:=l38) (l':=WM) (e:=bk) (yd h65) (tj ao1) 27 Y (.k3 Y Y Y)<|dn<|bU h (λj53=>AS.cz 141 [(4,.row 38),(6,ah dZ),(7,.sv (.v (.int .u64 ((iv:Nat):Int)))),(8,.row 27),(9,.sv (aM 1 bk kN)),(10,ah n9),(11,.sv (.v (.int .u64 ((j53.1:Nat):Int))))] [] [(38,TR 130 1 bk BI),(27,TR 130 1 bk j53.2)]) (λh=>?_) (λj53 h=>?_);cases Uq;exact fs<|⟨(Ao,WM),(F h),wR []⟩
 refine cT<|sr<|mv Y<|lE (V h) λWN X8 h=>sb _ Y Y (UK.sub (a:=Ao) (b:=1) X8)<|ag Y<|dn<|sr<|RT.Jh .none (iG 0) Y ⟨Y,ak⟩ T Y Y<|an (s:=.lD _ _) Y<|dn<|qq<|sr<|mv Y<|lE h λx70 h70 h=>ln Y h70<|mv Y<|dn<|bE h λe65 ao3 BT=>?_;refine bM (λ(VT:Nat×(List Nat))=>AS.cz 141 [(4,.row 38),(6,ah dZ),(7,.sv (.v (.int .u64 ((iv:Nat):Int)))),(8,.row 27),(9,.sv (aM 1 bk kN)),(10,ah n9),(11,.sv (.v (.int .u64 ((WN:Nat):Int)))),(12,.lD 202 [.box 68])] [(68,⟨128,[.sv (.v (.int .u64 ((VT.1:Nat):Int)))]⟩)] [(38,TR 130 1 bk BI),(27,TR 130 1 bk VT.2)]) (λVT=>VT=e65) ?_ (λVT ao4=>?_);refine bf<|bN ao3 (λs65=>AS.cz 141 [(4,.row 38),(6,ah dZ),(7,.sv (.v (.int .u64 ((iv:Nat):Int)))),(8,.row 27),(9,.sv (aM 1 bk kN)),(10,ah n9),(11,.sv (.v (.int .u64 ((WN:Nat):Int)))),(12,.lD 202 [.box 68]),(69,.sv (aM 1 bk kN)),(70,ah x70),(71,ah s65.1)] [(68,⟨128,[.sv (.v (.int .u64 ((s65.2.1:Nat):Int)))]⟩)] [(38,TR 130 1 bk BI),(27,TR 130 1 bk s65.2.2)]) (wR []) (λs65 y65 G65 h ao5 ao6=>?_);obtain⟨Gh,EI,DJ⟩:=s65;refine sr<|lE h λO8 X9 h=>ls _ Y Y X9<|dn<|qq ?_;cases O8;refine aO ?_;cases O (F h);exact⟨(EI,DJ),ao6 _ Y,wR []⟩;refine aP<|qq<|bf<|sr<|mv Y<|bE (V h) λXQ h74 h=>ix Y Y h74<|lr Y Y<|ag Y<|ag Y<|dn<|aZ<|mo (s:=.row _) Y<|mv Y<|mv Y<|lE h λO9 Ya h=>ad _ Y Y Ya<|mo (s:=.lD _ _) Y<|mo (s:=.row _) Y<|mv Y<|mv Y<|lE h λx84 h84 h=>ad _ Y Y h84<|bE h λWO h85 h=>iR Y Y Y h85<|bE h λSG h86 h=>lR Y Y h86 Y<|lE h λx87 h87 h=>cv _ Y (UK.nat h87)<|mv Y<|lE h λx89 h89 h=>cv _ Y (UK.nat h89)<|lE h λWQ h90 h=>ad _ Y Y (UK.add (a:=x87) (b:=x89) h90) ?_;obtain⟨⟨XR,k68⟩,h91,h⟩:=bS h;refine cB (dy h91) 68 Y ⟨Y,ak⟩<|bE h λx92 h92 h=>iR Y Y Y h92<|bE h λl69 ak0 h=>sR XR Y Y Y Y ak0<|RT.done<|bJ.n<|aY.n<|aZ<|lE h λx93 h93 h=>ad _ Y Y h93<|mv Y<|RT.done ?_;cases O h;exact aY.n ⟨(x93,k68,l69),ao5 _ Y,wR []⟩;subst ao4;obtain⟨PL,Jx⟩:=VT;refine aY.n<|aZ<|mo (s:=.row _) Y<|mv Y<|mv Y<|lE BT λx97 h97 BT=>ad _ Y Y h97<|mo (s:=.lD _ _) Y<|mo (s:=.row _) Y<|mv Y<|mv Y<|lE BT λLM Yb BT=>ad _ Y Y Yb<|bE BT λHU SM BT=>iR Y Y Y SM<|bE BT λLN Yc BT=>lR Y Y Yc Y<|lE BT λVM agU BT=>cv _ Y (UK.nat agU) ?_;obtain⟨⟨agA,k72⟩,apa,BT⟩:=bS BT;exact cB (dy apa) 68 Y ⟨Y,ak⟩<|bE BT λakK apb BT=>iR Y Y Y apb<|bE BT λl73 ak1 BT=>sR agA Y Y Y Y ak1<|dn<|⟨(WN,l73),BT,wR []⟩;obtain⟨XP,SF⟩:=j53;refine aY.n<|aZ<|mo (s:=.row _) Y<|mv Y<|mv Y<|lE h λagy apc h=>cv _ Y (UK.nat apc)<|bE h λakI apd h=>iR Y Y Y apd<|bE h λl55 ak2 h=>sR agy Y Y Y Y ak2<|RT.done<|bJ.n<|aY.n<|aZ<|mv Y<|lE h λzo h46 h=>sb _ Y Y h46<|ag Y<|RT.done ?_;cases O h;exact aY.n ⟨(zo,l55,SF),aoY _ Y,wR []⟩;subst aoX;obtain⟨Jy,Gi⟩:=VR;refine aY.n<|sr<|mv Y<|bE agQ λSH agV agQ=>RT.vX (n:=1) (e:=bk) .none Y Y T Y T aK η (by exact⟨aq,ak⟩) agV<|an (s:=.row _) Y<|dn<|qq<|sr<|mv Y<|mv Y<|dn<|bE agQ λe81 ape apf=>?_;refine bM (λ(Ap:(List Nat))=>AS.cz 141 [(4,.row 38),(5,.row 114)] [] [(38,TR 130 1 bk Jy),(114,TR 130 1 bk Ap)]) (λAp=>Ap=e81) ?_ (λAp apg=>?_);refine bf<|bN ape (λs81=>AS.cz 141 [(4,.row 38),(5,.row 114),(7,.sv (.v (.int .u64 ((iv:Nat):Int)))),(8,.row 27),(115,ah dZ),(116,ah s81.1)] [] [(38,TR 130 1 bk Jy),(114,TR 130 1 bk s81.2),(27,TR 130 1 bk Gi)]) (wR []) (λs81 y81 G81 h aph api=>?_);obtain⟨CK,EJ⟩:=s81;refine sr<|lE h λagB apj h=>ls _ Y Y apj<|dn<|qq ?_;cases agB;refine aO ?_;cases O (F h);exact⟨EJ,api _ Y,wR []⟩;refine aP<|qq<|bf<|sr<|mv Y<|ag Y<|dn<|bh mixed<|mo (s:=.row _) Y<|mv Y<|mo (s:=.row _) Y<|mv Y<|bE (V h) λakL apl h=>iR Y Y Y apl<|bE h λakM apm h=>lR Y Y apm Y<|lE h λagC apn h=>cv _ Y (UK.nat apn)<|mo (s:=.row _) Y<|mv Y<|lE h λakN h128 h=>ad _ Y Y h128<|bE h λakO apo h=>?_;refine iR Y Y Y apo<|bE h λakP apq h=>lR Y Y apq Y<|lE h λagD apr h=>cv _ Y (UK.nat apr)<|lE h λagE aps h=>RT.shl .none _ Y Y T η (UK.shl (a:=agD) (q:=32) (s:=32) Y aps)<|lE h λagF apt h=>RT.or .none _ Y Y T (UK.or (a:=agC) (b:=agE) apt)<|mv Y<|lE h λakQ apu h=>RT.shr .none _ Y Y T (Int.natCast_nonneg _) (Ni (k:=.u64) (a:=agF) (q:=((iv:Nat):Int)) (s:=min iv 64) Y apu)<|lE h λagG apv h=>cv _ Y (UK.nat apv)<|bE h λakR apw h=>iR Y Y Y apw<|bE h λl83 ak3 h=>sR agG Y Y Y Y ak3<|RT.done ⟨by kernel_rfl,?_⟩;refine bJ.n<|aY.n<|aZ<|lE h λagH apx h=>ad _ Y Y apx<|mv Y<|RT.done ?_;cases O h;exact aY.n ⟨(agH,l83),aph _ Y,wR []⟩;subst apg;refine aY.n<|sr<|mo (s:=.row _) Y<|mo (s:=.row _) Y<|an (s:=.row _) Y<|an (s:=.row _) Y<|dn<|jD (i:=38) (E1:=130) (n:=1) (e:=bk) (l:=Jy) hN (λ_ h=>h) Y<|jD (i:=114) (E1:=130) (n:=1) (e:=bk) (l:=Ap) hN (λ_ h=>h) Y<|bj ?_;cases O apf;exact R2 Y Y
theorem vK{x0:List Nat}(N:Nat){r:List Nat}(h:gW x0=some r):dB af 175 N [aM 1 bk x0] (nw N (aM 1 bk r)):=abV (zD h)
theorem yn{x0:List Nat}{x1:List Nat}(N:Nat){r:(List Nat)×(List Nat)}(h:jX x0 x1=some r):dB af 193 N [aM 1 bk x0,aM 1 bk x1] (.Bs [nw N (aM 1 bk r.1),nw N (aM 1 bk r.2)]):=by
 refine bX Tryz.func193 Y (ae Y) (λdA M vs hN hvs=>?_);unfold jX at h;refine sr<|ag Y<|aI Y (bw (N:=N) (n:=1) (e:=bk))<|dn<|bP (cS 4 304 130 1 Y Y T)<|qq<|bf<|sr<|mv Y<|mv Y<|bE h λdr fO h=>cl (kx fO) ⟨Y,Y,ak⟩<|lE h λeP jg h=>ls _ Y Y jg<|ag Y<|dn ?_;cases eP;refine cF<|sr<|mv Y<|lE (F h) λfe jB h=>ln Y jB<|lE h λkI nq h=>RT.leq .none _ Y Y T nq<|ag Y<|dn ?_;cases kI;refine cF<|sr<|mv Y<|lE (F h) λmF vJ h=>ln Y vJ<|lE h λqk BS h=>eq _ Y Y (yT (p:=mF) (q:=1) BS)<|ag Y<|dn ?_;cases qk;refine cF<|bC<|bJ.n<|aY.n<|sr<|mv Y<|mv Y ?_;obtain⟨⟨akS,akT⟩,EO,h⟩:=bS (F h);refine RT.cf .none (Gs N EO) hN Y ⟨Y,Y,ak⟩ T<|ex Y Y<|ex Y Y<|ag Y<|ag Y<|dn<|bj ?_;cases O h;exact R2 Y Y;refine cT<|sr<|mv Y<|bE (V h) λvI DO h=>cN (zD DO) ⟨Y,ak⟩<|an (s:=.row _) Y<|dn<|sr<|mo (s:=.row _) Y<|mv Y<|bE h λry BR h=>ix Y Y BR<|lr Y Y<|lE h λsK zH h=>cv _ Y (UK.nat zH) ?_;obtain⟨⟨vZ,l5⟩,DL,h⟩:=bS h;refine bE h λ_ he5 h=>cR (l:=vI) (l':=l5) (e:=bk) (EP DL) (tj he5) 39 Y (.k2 Y Y)<|ag Y<|dn<|sr<|mo (s:=.row _) Y<|mv Y<|lE h λtD h48 h=>cv _ Y (UK.nat h48)<|RT.BH (l:=[tD]) (e:=bk) .none hN (.one Y (.nil)) T Y Y Y Y Y Y<|an (s:=.row _) Y<|ag Y<|dn<|jD (i:=39) (E1:=130) (n:=1) (e:=bk) (l:=l5) hN (λ_ h=>h) Y ?_
 refine bj<|bJ.r<|aY.r ?_;cases O h;exact R2 Y Y;refine cT<|sr<|mv Y<|bE (V h) λfR j0 h=>cl (mR j0) ⟨Y,ak⟩<|mv Y<|bE h λiN pJ h=>cl (mR pJ) ⟨Y,ak⟩<|ag Y<|ag Y<|dn<|qq<|bh mixed<|mv Y<|mv Y<|bE h λjw pK h=>RT.quo .none _ Y Y T (nzU pK) (UK.quo pK) ?_;obtain⟨⟨Ur,PM⟩,qf,h⟩:=bS h;refine RT.cf .none (oa N qf) hN Y ⟨Y,Y,ak⟩ T<|fl Y Y<|mv Y<|mv Y<|bE h λmP ya h=>RT.rem .none _ Y Y T (nzR ya) (abH ya) ?_;obtain⟨⟨zC,yl⟩,sL,h⟩:=bS h;refine RT.cf .none (oa N sL) hN Y ⟨Y,Y,ak⟩ T<|fl Y Y<|ag Y<|ag Y<|RT.done ⟨by kernel_rfl,?_⟩;refine aY.n<|bj<|bJ.r<|aY.r ?_;cases O h;exact R2 Y Y;refine cT<|sr<|mv Y<|bE (V h) λdO gQ h=>RT.cf .none (vK N gQ) hN Y ⟨Y,ak⟩ T<|ag Y<|ag Y<|dn<|bP (cS 4 310 130 1 Y Y T)<|jD (i:=310) (E1:=130) (n:=1) (e:=bk) (l:=[]) hN (λ_ h=>h) Y<|bj<|bJ.r<|aY.r ?_;cases O h;exact R2 Y Y
end
section
open Go.Fw Go.Fw.Z Go.RowKit
theorem gA{x0:Int}(N:Nat){r:Zr}(h:c8 x0=some r):dB af 90 N [ax x0] (.agg ((fZ N) r)):=by
 refine bX Tryz.func90 Y (ae Y) (λdA M vs hN hvs=>?_);unfold c8 at h;refine sr<|al (cs:=[ay false,nw N au]) (by exact⟨aq,bw,ak⟩) Y<|dn<|sr<|mv Y<|lE h λx5 h5 h=>cv _ Y (UK.conv h5)<|ag Y<|dn<|qq<|sr<|mv Y<|lE h λx7 h7 h=>ls _ Y Y h7<|dn<|bU h (λj2=>AS.cz 14 [(0,ah x0),(2,.ptr 2 0),(3,.sv (.v (.int .u64 ((j2:Nat):Int))))] [(2,⟨41,[ai false,.sv (nw N au)]⟩)] []) (λh=>?_) (λPN h=>?_);cases x7;exact fs<|⟨x5,(F h),wR []⟩;exact cT<|aZ<|mv Y<|lE (V h) λx9 h9 h=>RT.neg .none _ Y T (UK.neg h9)<|ag Y<|dn<|⟨x9,h,wR []⟩;refine aY.n<|sr<|mv Y<|lE h λfy kR h=>ls _ Y Y kR<|mv Y ?_;obtain⟨⟨BJ,BK⟩,jg,h⟩:=bS h;refine RT.cf .none (oa N jg) hN Y ⟨Y,Y,ak⟩ T<|so Y Y Y<|dn<|bj ?_;cases O h;exact RZ (.agg Y Y (.k2 Y Y) Y (.nil))
theorem DP{x0:Int}{r:Zr}(h:c8 x0=some r):Pure af 90 [ax x0] (.agg (eZ r)):=dK (λN=>gA N h) (λN=>(SV.eA (zI _ _)))
theorem ke{x0:Zr}{r:Int×Bool}(h:fE x0=some r):Pure af 166 [.agg (eZ x0)] (.Bs [ax r.1,ay r.2]):=by
 obtain⟨bt,bu⟩:=x0;refine bp Tryz.func166 Y (ae Y) (λdA M vs hvs=>?_);unfold fE at h;refine sr<|bx Y<|ag Y<|ag Y<|dn<|sr<|fa Y Y<|lV Y Y Y<|bE h λx8 h8 h=>cl (dG h8) ⟨Y,ak⟩<|ag Y<|dn<|qq<|sr<|mv Y<|lE h λdN gL h=>ln Y gL<|lE h λfy kR h=>gt _ Y Y kR<|dn ?_;cases fy;refine fs<|sr<|mv Y<|bE (F h) λeP jg h=>cl (mR jg) ⟨Y,ak⟩<|ag Y<|dn<|qq<|sr<|fa Y Y<|lV Y Y Y<|dn ?_;cases bt;refine fs<|qq<|sr<|mv Y<|lE (F h) λiE oc h=>ge _ Y Y (leN (p:=9223372036854775808) (q:=eP) oc)<|dn ?_;cases iE;refine fs<|sr<|mv Y<|lE (F h) λiv oO h=>cv _ Y oO<|ag Y<|ag Y<|dn<|bj ?_;cases O h;exact R2 Y Y;refine cT<|sr<|ag Y<|ag Y<|dn<|bj<|aY.r ?_;cases O (V h);exact R2 Y Y;refine cT<|qq<|sr<|mv Y<|lE (V h) λdZ jE h=>gt _ Y Y (ltN (p:=9223372036854775808) (q:=eP) jE)<|dn ?_;cases dZ;refine fs<|sr<|mv Y<|lE (F h) λkI nq h=>RT.neg .none _ Y T (UK.neg nq)<|lE h λiz pA h=>cv _ Y pA<|ag Y<|ag Y<|dn<|bj<|aY.r ?_;cases O h;exact R2 Y Y;refine cT<|sr<|ag Y<|ag Y<|dn<|bj<|aY.r<|aY.r ?_;cases O (V h);exact R2 Y Y;refine cT<|sr<|ag Y<|ag Y<|dn<|bj<|aY.r ?_;cases O (V h);exact R2 Y Y
theorem yX{x0:List Nat}(N:Nat){r:List Nat}(h:bV x0=some r):dB af 144 N [nw N (aM 1 bk x0)] (nw N (aM 1 bk r)):=by
 refine bX Tryz.func144 Y (ae Y) (λdA M vs hN hvs=>?_);unfold bV at h;refine sr<|aI Y (bw (N:=N) (n:=1) (e:=bk))<|dn<|qq<|bE h λEM xd oT=>?_;refine bM (λ(Jv:(List Nat))=>AS.cz 21 [(0,.sv (nw N (aM 1 bk Jv)))] [] []) (λJv=>Jv=EM) ?_ (λJv xe=>?_);refine bf<|bN xd (λrI=>AS.cz 21 [(0,.sv (nw N (aM 1 bk rI)))] [] []) (wR []) (λHT XZ X0 h xg tJ=>?_);refine qq<|qq<|bU h (λGk=>AS.cz 21 [(0,.sv (nw N (aM 1 bk HT))),(14,ai Gk)] [] []) (λh=>?_) (λJu h=>?_);refine aZ<|mv Y<|lE h λx4 h4 h=>RT.Jt .none Y T h4<|lE h λx5 h5 h=>gt _ Y Y h5<|mv Y<|bE h λGf dI h=>?_;cases x5;cases O (F dI);exact ww<|ww<|ww<|ww<|ww<|ww<|ww<|pF Y<|dn<|⟨false,h,wR []⟩;refine gm Y<|gm Y<|lE (V dI) λx9 h9 dI=>RT.Jt (.some Y Y) Y T h9<|lE dI λdN gL dI=>RT.sub (.some Y Y) _ Y Y T gL<|bE dI λfy kR dI=>RT.akC (.some Y Y) Y Y T kR<|gr Y Y<|lE dI λeP jg dI=>ge_ _ Y Y (eqN (p:=fy) (q:=0) jg) ?_;obtain rfl:=O dI;exact pT Y<|dn<|⟨eP,h,wR []⟩;refine aY.n ?_;cases Ju;refine aO ?_;cases O (F h);exact⟨HT,tJ _ Y,wR []⟩;refine aP<|bf<|aZ<|mv Y<|mv Y<|lE (V h) λdZ jE h=>RT.Jt .none Y T jE<|lE h λfe jB h=>sb _ Y Y jB<|bE h λkI nq h=>RT.abW .none 0 fe Y Y ⟨_,Y⟩ T nq<|ag Y<|RT.done<|bJ.n ?_;cases O h;exact aY.n ⟨kI,xg _ Y,wR []⟩;subst xe;refine aY.n<|sr<|mv Y<|ag Y<|dn<|bj ?_;cases O oT;exact R1 Y
theorem jh{x0:Bool}{x1:List Nat}(N:Nat){r:Zr}(h:dD x0 x1=some r):dB af 163 N [ay x0,nw N (aM 1 bk x1)] (.agg ((fZ N) r)):=by
 refine bX Tryz.func163 Y (ae Y) (λdA M vs hN hvs=>?_);unfold dD at h;refine sr<|al (cs:=[ay false,nw N au]) (by exact⟨aq,bw,ak⟩) Y<|dn<|sr<|mv Y<|bE h λx6 h6 h=>RT.cf .none (yX N h6) hN Y ⟨Y,ak⟩ T<|ag Y<|dn<|qq<|sr<|mv Y<|lE h λx8 h8 h=>RT.Jt .none Y T h8<|lE h λx9 h9 h=>eq _ Y Y (yT (p:=x8) (q:=0) h9)<|dn ?_;cases x9;refine fs<|sr<|mv Y<|mv Y<|bI (cs:=[_,_]) (cs':=[ay x0,nw N (aM 1 bk x6)]) (.one Y (.one Y (.nil))) ⟨aq,aq,ak⟩<|so Y Y Y<|dn<|bj ?_;cases O (F h);exact RZ (.agg Y Y (.k2 Y Y) Y (.nil));refine cT<|sr<|bI (cs:=[_,_]) (cs':=[ay false,nw N au]) (.nil) ⟨aq,bw,ak⟩<|so Y Y Y<|dn<|bj<|aY.r ?_;cases O (V h);exact RZ (.agg Y Y (.k2 Y Y) Y (.nil))
theorem xh{x0:Bool}{x1:List Nat}{x2:Bool}{x3:List Nat}(N:Nat){r:Zr}(h:fm x0 x1 x2 x3=some r):dB af 203 N [ay x0,aM 1 bk x1,ay x2,aM 1 bk x3] (.agg ((fZ N) r)):=by
 refine bX Tryz.func203 Y (ae Y) (λdA M vs hN hvs=>?_);unfold fm at h;refine sr<|al (cs:=[ay false,nw N au]) (by exact⟨aq,bw,ak⟩) Y<|dn<|qq<|sr<|mv Y<|mv Y<|lE h λfy kR h=>RT.abt .none _ Y Y T kR<|dn ?_;cases fy;refine fs<|qq<|sr<|mv Y<|mv Y<|bE (F h) λkI nq h=>cl (kx nq) ⟨Y,Y,ak⟩<|lE h λiz pA h=>ls _ Y Y pA<|dn ?_;cases iz;refine fs<|sr<|mv Y<|mv Y<|mv Y<|bE (F h) λjd nW h=>RT.cf .none (rM N nW) hN Y ⟨Y,Y,ak⟩ T ?_;obtain⟨⟨sQ,sS⟩,Ar,h⟩:=bS h;refine RT.cf .none (jh N Ar) hN Y ⟨Y,Y,ak⟩ T<|so Y Y Y<|dn<|bj ?_;cases O h;exact RZ (.agg Y Y (.k2 Y Y) Y (.nil));refine cT<|sr<|mv Y<|mv Y<|mv Y<|bE (V h) λiv oO h=>RT.cf .none (rM N oO) hN Y ⟨Y,Y,ak⟩ T ?_;obtain⟨⟨nO,nm⟩,oe,h⟩:=bS h;refine RT.cf .none (jh N oe) hN Y ⟨Y,Y,ak⟩ T<|so Y Y Y<|dn<|bj<|aY.r ?_;cases O h;exact RZ (.agg Y Y (.k2 Y Y) Y (.nil));refine cT<|sr<|mv Y<|mv Y<|mv Y<|bE (V h) λdO gQ h=>RT.cf .none (ym N gQ) hN Y ⟨Y,Y,ak⟩ T ?_;obtain⟨⟨qL,qM⟩,kS,h⟩:=bS h;refine RT.cf .none (jh N kS) hN Y ⟨Y,Y,ak⟩ T<|so Y Y Y<|dn<|bj<|aY.r ?_;cases O h;exact RZ (.agg Y Y (.k2 Y Y) Y (.nil))
theorem Nz{x0:Zr}{x1:Zr}(N:Nat){r:Zr}(h:uQ x0 x1=some r):dB af 188 N [.agg (eZ x0),.agg (eZ x1)] (.agg ((fZ N) r)):=by
 obtain⟨bt,bu⟩:=x0;obtain⟨cG,cC⟩:=x1;refine bX Tryz.func188 Y (ae Y) (λdA M vs hN hvs=>?_);unfold uQ at h;refine sr<|bx Y<|bx Y<|al (cs:=[ay false,nw N au]) (by exact⟨aq,bw,ak⟩) Y<|dn<|sr<|ld Y Y (.k2 Y Y) ?_;obtain⟨⟨BL,EK⟩,fO,h⟩:=bS h;refine cl (ke fO) ⟨Y,ak⟩<|mv Y<|ex Y Y<|ex Y Y<|ag Y<|ag Y<|dn<|sr<|ld Y Y (.k2 Y Y) ?_;obtain⟨⟨Ns,SI⟩,jE,h⟩:=bS h;refine cl (ke jE) ⟨Y,ak⟩<|mv Y<|ex Y Y<|ex Y Y<|ag Y<|ag Y<|dn<|qq<|qq<|bU h (λj3=>AS.cz 48 [(2,.ptr 2 0),(3,.ptr 3 0),(4,.ptr 4 0),(5,ah BL),(7,ah Ns),(23,ai j3)] [(4,⟨41,[ai false,.sv (nw N au)]⟩),(3,⟨41,[ai cG,.sv (aM 1 bk cC)]⟩),(2,⟨41,[ai bt,.sv (aM 1 bk bu)]⟩)] []) (λh=>?_) (λxb h=>?_);refine aZ<|mv Y<|mv Y<|bE h λPO NA h=>?_;cases EK;cases O (F NA);exact ww<|pF Y<|dn<|⟨false,h,wR []⟩;refine gm Y ?_;cases O (V NA);exact pT Y<|dn<|⟨SI,h,wR []⟩;refine aY.n<|bU h (λj5=>AS.cz 48 [(2,.ptr 2 0),(3,.ptr 3 0),(4,.ptr 4 0)] [(4,⟨41,[ai false,.sv (nw N au)]⟩),(3,⟨41,[ai cG,.sv (aM 1 bk cC)]⟩),(2,⟨41,[ai bt,.sv (aM 1 bk bu)]⟩)] []) (λh=>?_) (λj5 h=>?_);cases xb;exact fs<|⟨(),(F h),wR []⟩;refine cT<|sr<|mv Y<|mv Y<|lE (V h) λjw pK h=>ad _ Y Y pK<|ag Y<|dn<|sr<|mv Y<|mv Y<|lE h λjd nW h=>RT.xor .none _ Y Y T nW<|mv Y<|mv Y<|lE h λkN sL h=>RT.xor .none _ Y Y T sL<|lE h λpz yc h=>RT.and .none _ Y Y T yc<|lE h λzk Aq h=>ge _ Y Y Aq<|dn ?_;cases zk;exact fs<|⟨(),(F h),wR []⟩;refine cT<|sr<|mv Y ?_;obtain⟨⟨Hq,Hr⟩,vJ,h⟩:=bS (V h);refine RT.cf .none (gA N vJ) hN Y ⟨Y,ak⟩ T<|so Y Y Y<|dn<|bj<|aY.r<|aY.r ?_;cases O h;exact RZ (.agg Y Y (.k2 Y Y) Y (.nil));refine aY.n<|qq<|bh mixed<|fa Y Y<|lV Y Y Y<|fa Y Y<|lV Y Y Y<|bE h λyj Gl h=>cl (dG Gl) ⟨Y,ak⟩<|fa Y Y<|lV Y Y Y<|fa Y Y<|lV Y Y Y<|bE h λzo h46 h=>cl (dG h46) ⟨Y,ak⟩ ?_;obtain⟨⟨Ho,Hp⟩,Bm,h⟩:=bS h;refine RT.cf .none (xh N Bm) hN Y ⟨Y,Y,Y,Y,ak⟩ T<|so Y Y Y<|RT.done ⟨by kernel_rfl,?_⟩;refine aY.n<|bj ?_;cases O h;exact RZ (.agg Y Y (.k2 Y Y) Y (.nil))
theorem NB{x0:Zr}{x1:Zr}(N:Nat){r:Zr}(h:uR x0 x1=some r):dB af 190 N [.agg (eZ x0),.agg (eZ x1)] (.agg ((fZ N) r)):=by
 obtain⟨bt,bu⟩:=x0;obtain⟨cG,cC⟩:=x1;refine bX Tryz.func190 Y (ae Y) (λdA M vs hN hvs=>?_);unfold uR at h;refine sr<|bx Y<|bx Y<|al (cs:=[ay false,nw N au]) (by exact⟨aq,bw,ak⟩) Y<|dn<|sr<|ld Y Y (.k2 Y Y) ?_;obtain⟨⟨BL,EK⟩,fO,h⟩:=bS h;refine cl (ke fO) ⟨Y,ak⟩<|mv Y<|ex Y Y<|ex Y Y<|ag Y<|ag Y<|dn<|sr<|ld Y Y (.k2 Y Y) ?_;obtain⟨⟨Ns,SI⟩,jE,h⟩:=bS h;refine cl (ke jE) ⟨Y,ak⟩<|mv Y<|ex Y Y<|ex Y Y<|ag Y<|ag Y<|dn<|qq<|qq<|bU h (λj3=>AS.cz 49 [(2,.ptr 2 0),(3,.ptr 3 0),(4,.ptr 4 0),(5,ah BL),(7,ah Ns),(23,ai j3)] [(4,⟨41,[ai false,.sv (nw N au)]⟩),(3,⟨41,[ai cG,.sv (aM 1 bk cC)]⟩),(2,⟨41,[ai bt,.sv (aM 1 bk bu)]⟩)] []) (λh=>?_) (λxb h=>?_);refine aZ<|mv Y<|mv Y<|bE h λPO NA h=>?_;cases EK;cases O (F NA);exact ww<|pF Y<|dn<|⟨false,h,wR []⟩;refine gm Y ?_;cases O (V NA);exact pT Y<|dn<|⟨SI,h,wR []⟩;refine aY.n<|bU h (λj5=>AS.cz 49 [(2,.ptr 2 0),(3,.ptr 3 0),(4,.ptr 4 0)] [(4,⟨41,[ai false,.sv (nw N au)]⟩),(3,⟨41,[ai cG,.sv (aM 1 bk cC)]⟩),(2,⟨41,[ai bt,.sv (aM 1 bk bu)]⟩)] []) (λh=>?_) (λj5 h=>?_);cases xb;exact fs<|⟨(),(F h),wR []⟩;refine cT<|sr<|mv Y<|mv Y<|lE (V h) λjw pK h=>sb _ Y Y pK<|ag Y<|dn<|sr<|mv Y<|mv Y<|lE h λjd nW h=>RT.xor .none _ Y Y T nW<|mv Y<|mv Y<|lE h λkN sL h=>RT.xor .none _ Y Y T sL<|lE h λpz yc h=>RT.and .none _ Y Y T yc<|lE h λzk Aq h=>ge _ Y Y Aq<|dn ?_;cases zk;exact fs<|⟨(),(F h),wR []⟩;refine cT<|sr<|mv Y ?_;obtain⟨⟨Hq,Hr⟩,vJ,h⟩:=bS (V h);refine RT.cf .none (gA N vJ) hN Y ⟨Y,ak⟩ T<|so Y Y Y<|dn<|bj<|aY.r<|aY.r ?_;cases O h;exact RZ (.agg Y Y (.k2 Y Y) Y (.nil));refine aY.n<|qq<|bh mixed<|fa Y Y<|lV Y Y Y<|fa Y Y<|lV Y Y Y<|bE h λyj Gl h=>cl (dG Gl) ⟨Y,ak⟩<|fa Y Y<|lV Y Y Y<|lE h λsK zH h=>nt Y _ zH<|fa Y Y<|lV Y Y Y<|bE h λw9 Bm h=>cl (dG Bm) ⟨Y,ak⟩ ?_;obtain⟨⟨ad0,ad1⟩,h48,h⟩:=bS h;refine RT.cf .none (xh N h48) hN Y ⟨Y,Y,Y,Y,ak⟩ T<|so Y Y Y<|RT.done ⟨by kernel_rfl,?_⟩;refine aY.n<|bj ?_;cases O h;exact RZ (.agg Y Y (.k2 Y Y) Y (.nil))
theorem gX{x0:Zr}{x1:Zr}(N:Nat){r:Zr}(h:ei x0 x1=some r):dB af 130 N [.agg (eZ x0),.agg (eZ x1)] (.agg ((fZ N) r)):=by
 obtain⟨bt,bu⟩:=x0;obtain⟨cG,cC⟩:=x1;refine bX Tryz.func130 Y (ae Y) (λdA M vs hN hvs=>?_);unfold ei at h;refine sr<|bx Y<|bx Y<|al (cs:=[ay false,nw N au]) (by exact⟨aq,bw,ak⟩) Y<|dn<|qq<|bh mixed<|fa Y Y<|lV Y Y Y<|bE h λx9 h9 h=>cl (dG h9) ⟨Y,ak⟩<|fa Y Y<|lV Y Y Y<|bE h λdr fO h=>cl (dG fO) ⟨Y,ak⟩<|ag Y<|ag Y<|RT.done ⟨by kernel_rfl,?_⟩;refine aY.n<|qq<|qq<|bU h (λj3=>AS.cz 41 [(2,.ptr 2 0),(3,.ptr 3 0),(4,.ptr 4 0),(5,.sv (aM 1 bk x9)),(6,.sv (aM 1 bk dr)),(20,ai j3)] [(4,⟨41,[ai false,.sv (nw N au)]⟩),(3,⟨41,[ai cG,.sv (aM 1 bk cC)]⟩),(2,⟨41,[ai bt,.sv (aM 1 bk bu)]⟩)] []) (λh=>?_) (λXS h=>?_);refine aZ<|mv Y<|lE h λeL jZ h=>ln Y jZ<|lE h λdO gQ h=>RT.leq .none _ Y Y T gQ<|mv Y<|bE h λad2 sM h=>?_;cases dO;cases O (F sM);exact ww<|ww<|ww<|pF Y<|dn<|⟨false,h,wR []⟩;refine gm Y<|lE (V sM) λfe jB sM=>gn Y jB<|lE sM λkI nq sM=>RT.leq (.some Y Y) _ Y Y T nq ?_;obtain rfl:=O sM;exact pT Y<|dn<|⟨kI,h,wR []⟩;refine aY.n ?_;cases XS;refine fs<|qq<|bh mixed<|fa Y Y<|lV Y Y Y<|fa Y Y<|lV Y Y Y<|lE (F h) λmF vJ h=>RT.Vz .none _ Y Y T vJ<|mv Y<|mv Y<|bE h λvI DO h=>RT.cf .none (EN N DO) hN Y ⟨Y,Y,ak⟩ T ?_;obtain⟨⟨wc,we⟩,vH,h⟩:=bS h;refine RT.cf .none (jh N vH) hN Y ⟨Y,Y,ak⟩ T<|so Y Y Y<|RT.done ⟨by kernel_rfl,?_⟩;refine aY.n<|bj ?_;cases O h;exact RZ (.agg Y Y (.k2 Y Y) Y (.nil));refine cT<|qq<|bh mixed<|fa Y Y<|lV Y Y Y<|fa Y Y<|lV Y Y Y<|lE (V h) λkD oe h=>RT.Vz .none _ Y Y T oe<|mv Y<|bE h λjm qf h=>cl (mR qf) ⟨Y,ak⟩<|mv Y<|bE h λjd nW h=>cl (mR nW) ⟨Y,ak⟩<|lE h λvY Ar h=>RT.mul .none _ Y Y T (UK.mul (a:=jm) (b:=jd) Ar) ?_;obtain⟨⟨PR,PS⟩,ya,h⟩:=bS h;refine RT.cf .none (oa N ya) hN Y ⟨Y,Y,ak⟩ T<|so Y Y Y<|RT.done ⟨by kernel_rfl,?_⟩;refine aY.n<|bj<|aY.r ?_;cases O h;exact RZ (.agg Y Y (.k2 Y Y) Y (.nil))
theorem ES{x0:Zr}{x1:Zr}{r:Zr}(h:ei x0 x1=some r):Pure af 130 [.agg (eZ x0),.agg (eZ x1)] (.agg (eZ r)):=dK (λN=>gX N h) (λN=>(SV.eA (zI _ _)))
theorem wD{x0:Zr}(N:Nat){r:Zr}(h:jN x0=some r):dB af 145 N [.agg (eZ x0)] (.agg ((fZ N) r)):=by
 obtain⟨bt,bu⟩:=x0;refine bX Tryz.func145 Y (ae Y) (λdA M vs hN hvs=>?_);unfold jN at h;refine sr<|bx Y<|al (cs:=[ay false,nw N au]) (by exact⟨aq,bw,ak⟩) Y<|dn<|qq<|bh mixed<|fa Y Y<|lV Y Y Y<|lE h λx5 h5 h=>nt Y _ h5<|fa Y Y<|lV Y Y Y<|bE h λx8 h8 h=>cl (dG h8) ⟨Y,ak⟩<|bE h λx9 h9 h=>RT.cf .none (vK N h9) hN Y ⟨Y,ak⟩ T ?_;obtain⟨⟨BM,BN⟩,gL,h⟩:=bS h;refine RT.cf .none (jh N gL) hN Y ⟨Y,Y,ak⟩ T<|so Y Y Y<|RT.done ⟨by kernel_rfl,?_⟩;refine aY.n<|bj ?_;cases O h;exact RZ (.agg Y Y (.k2 Y Y) Y (.nil))
theorem ET{x0:Zr}{r:Zr}(h:jN x0=some r):Pure af 145 [.agg (eZ x0)] (.agg (eZ r)):=dK (λN=>wD N h) (λN=>(SV.eA (zI _ _)))
theorem iP{x0:Zr}{r:Int}(h:eD x0=some r):Pure af 104 [.agg (eZ x0)] (ax r):=by
 obtain⟨bt,bu⟩:=x0;refine bp Tryz.func104 Y (ae Y) (λdA M vs hvs=>?_);unfold eD at h;refine sr<|bx Y<|ag Y<|dn<|qq<|bf<|sr<|fa Y Y<|lV Y Y Y<|bE h λx6 h6 h=>cl (dG h6) ⟨Y,ak⟩<|lE h λx7 h7 h=>ln Y h7<|lE h λx8 h8 h=>eq _ Y Y (yT (p:=x7) (q:=0) h8)<|ag Y<|dn ?_;cases x8;refine cF<|sr<|fa Y Y<|lV Y Y Y<|ag Y<|dn ?_;replace h:=F h;cases bt;refine cF<|bC<|bJ.n<|aY.n<|sr<|ag Y<|dn<|bj ?_;cases O (F h);exact R1 Y;refine cT<|sr<|ag Y<|dn<|bj<|bJ.r<|aY.r ?_;cases O (V h);exact R1 Y;refine cT<|sr<|ag Y<|dn<|bj<|bJ.r<|aY.r ?_;cases O (V h);exact R1 Y
theorem NC{x0:Zr}{x1:Zr}{r:Int}(h:uS x0 x1=some r):Pure af 129 [.agg (eZ x0),.agg (eZ x1)] (ax r):=by
 obtain⟨bt,bu⟩:=x0;obtain⟨cG,cC⟩:=x1;refine bp Tryz.func129 Y (ae Y) (λdA M vs hvs=>?_);unfold uS at h;refine sr<|bx Y<|bx Y<|ag Y<|dn<|qq<|bh mixed<|ld Y Y (.k2 Y Y)<|bE h λx8 h8 h=>cl (iP h8) ⟨Y,ak⟩<|ld Y Y (.k2 Y Y)<|bE h λdN gL h=>cl (iP gL) ⟨Y,ak⟩<|ag Y<|ag Y<|RT.done ⟨by kernel_rfl,?_⟩;refine aY.n<|qq<|bf<|sr<|mv Y<|mv Y<|lE h λeL jZ h=>ls _ Y Y jZ<|ag Y<|dn ?_;cases eL;refine cF<|sr<|mv Y<|mv Y<|lE (F h) λfe jB h=>gt _ Y Y jB<|ag Y<|dn ?_;cases fe;refine cF<|sr<|mv Y<|lE (F h) λfR j0 h=>ls _ Y Y j0<|ag Y<|dn ?_;cases fR;refine cF<|bC<|bJ.n<|aY.n<|qq<|bh mixed<|fa Y Y<|lV Y Y Y<|bE (F h) λmP ya h=>cl (dG ya) ⟨Y,ak⟩<|fa Y Y<|lV Y Y Y<|bE h λzk Aq h=>cl (dG Aq) ⟨Y,ak⟩<|bE h λqe zE h=>cl (kx zE) ⟨Y,Y,ak⟩<|ag Y<|RT.done ⟨by kernel_rfl,?_⟩;refine aY.n<|bj ?_;cases O h;exact R1 Y;refine cT<|qq<|bh mixed<|fa Y Y<|lV Y Y Y<|bE (V h) λiv oO h=>cl (dG oO) ⟨Y,ak⟩<|fa Y Y<|lV Y Y Y<|bE h λjm qf h=>cl (dG qf) ⟨Y,ak⟩<|bE h λlO wB h=>cl (kx wB) ⟨Y,Y,ak⟩<|ag Y<|RT.done ⟨by kernel_rfl,?_⟩;refine aY.n<|bj<|bJ.r<|aY.r ?_;cases O h;exact R1 Y;refine cT<|sr<|ag Y<|dn<|bj<|bJ.r<|aY.r ?_;cases O (V h);exact R1 Y;refine cT<|sr<|ag Y<|dn<|bj<|bJ.r<|aY.r ?_
 cases O (V h);exact R1 Y
theorem A7{x0:Zr}{x1:Zr}(N:Nat){r:Zr×Zr×Int}(h:je x0 x1=some r):dB af 169 N [.agg (eZ x0),.agg (eZ x1)] (.Bs [.agg ((fZ N) r.1),.agg ((fZ N) r.2.1),ax r.2.2]):=by
 obtain⟨bt,bu⟩:=x0;obtain⟨cG,cC⟩:=x1;refine bX Tryz.func169 Y (ae Y) (λdA M vs hN hvs=>?_);unfold je at h;refine sr<|bx Y<|bx Y<|al (cs:=[ay false,nw N au]) (by exact⟨aq,bw,ak⟩) Y<|al (cs:=[ay false,nw N au]) (by exact⟨aq,bw,ak⟩) Y<|ag Y<|dn<|qq<|bh mixed<|fa Y Y<|lV Y Y Y<|bE h λeP jg h=>cl (dG jg) ⟨Y,ak⟩<|fa Y Y<|lV Y Y Y<|bE h λfD kS h=>cl (dG kS) ⟨Y,ak⟩<|ag Y<|ag Y<|RT.done ⟨by kernel_rfl,?_⟩;refine aY.n<|qq<|sr<|mv Y<|lE h λfe jB h=>ln Y jB<|lE h λkI nq h=>eq _ Y Y (yT (p:=fe) (q:=0) nq)<|dn ?_;cases kI;refine fs<|sr<|mv Y<|mv Y ?_;obtain⟨⟨Jz,Nt⟩,oe,h⟩:=bS (F h);refine RT.cf .none (yn N oe) hN Y ⟨Y,Y,ak⟩ T<|mv Y<|ex Y Y<|ex Y Y<|ag Y<|ag Y<|dn<|sr<|mv Y<|bE h λjd nW h=>RT.cf .none (yX N nW) hN Y ⟨Y,ak⟩ T<|ag Y<|dn<|qq<|qq<|bU h (λj3=>AS.cz 52 [(2,.ptr 2 0),(3,.ptr 3 0),(4,.ptr 4 0),(5,.ptr 5 0),(8,.sv (aM 1 bk fD)),(9,.sv (nw N (aM 1 bk Jz))),(10,.sv (nw N (aM 1 bk jd))),(36,ai j3.1)] [(5,⟨41,[ai false,.sv (nw N au)]⟩),(4,⟨41,[ai false,.sv (nw N au)]⟩),(3,⟨41,[ai cG,.sv (aM 1 bk cC)]⟩),(2,⟨41,[ai j3.2,.sv (aM 1 bk bu)]⟩)] []) (λh=>?_) (λj3 h=>?_)
 refine aZ<|fa Y Y<|lV Y Y Y<|mv Y<|bE h λad3 NA h=>?_;cases bt;cases O (F NA);exact ww<|ww<|ww<|pF Y<|dn<|⟨(false,false),h,wR []⟩;refine gm Y<|lE (V NA) λzk Aq NA=>RT.Jt (.some Y Y) Y T Aq<|lE NA λqe zE NA=>gg _ Y Y zE ?_;obtain rfl:=O NA;exact pT Y<|dn<|⟨(qe,true),h,wR []⟩;obtain⟨XT,DK⟩:=j3;refine aY.n<|bU h (λj5=>AS.cz 52 [(2,.ptr 2 0),(3,.ptr 3 0),(4,.ptr 4 0),(5,.ptr 5 0),(9,.sv (nw N (aM 1 bk j5.1))),(10,.sv (nw N (aM 1 bk j5.2)))] [(5,⟨41,[ai false,.sv (nw N au)]⟩),(4,⟨41,[ai false,.sv (nw N au)]⟩),(3,⟨41,[ai cG,.sv (aM 1 bk cC)]⟩),(2,⟨41,[ai DK,.sv (aM 1 bk bu)]⟩)] []) (λh=>?_) (λj5 h=>?_);cases XT;exact fs<|⟨(Jz,jd),(F h),wR []⟩;exact cT<|sr<|mv Y<|RT.BH (l:=[1]) (e:=bk) .none hN (.one Y (.nil)) T Y Y Y Y Y Y<|bE (V h) λvI DO h=>RT.cf .none ((ym N DO).w (args':=[_,_]) ⟨fG,fG,ak⟩) hN Y ⟨Y,Y,ak⟩ T<|ag Y<|dn<|aZ<|mv Y<|mv Y<|bE h λry BR h=>RT.cf .none ((rM N BR).w (args':=[_,_]) ⟨aq,fG,ak⟩) hN Y ⟨Y,Y,ak⟩ T<|ag Y<|dn<|⟨(vI,ry),h,wR []⟩;obtain⟨XU,PT⟩:=j5;refine aY.n<|sr<|fa Y Y<|lV Y Y Y<|fa Y Y<|lV Y Y Y<|lE h λw9 Bm h=>RT.Vz .none _ Y Y T Bm<|mv Y ?_;obtain⟨⟨PU,PV⟩,h49,h⟩:=bS h;refine RT.cf .none (jh N h49) hN Y ⟨Y,Y,ak⟩ T<|mv Y ?_;obtain⟨⟨My,Mz⟩,HZ,h⟩:=bS h;refine RT.cf .none (jh N HZ) hN Y ⟨Y,Y,ak⟩ T<|so Y Y Y<|so Y Y Y<|ag Y<|dn<|bj ?_;cases O h;exact RZ (.agg Y Y (.k2 Y Y) Y (.agg Y Y (.k2 Y Y) Y (.tmp Y (.nil))));refine cT<|sr<|bI (cs:=[_,_]) (cs':=[ay false,nw N au]) (.nil) ⟨aq,bw,ak⟩<|bI (cs:=[_,_]) (cs':=[ay false,nw N au]) (.nil) ⟨aq,bw,ak⟩<|so Y Y Y<|so Y Y Y<|ag Y<|dn<|bj<|aY.r ?_;cases O (V h);exact RZ (.agg Y Y (.k2 Y Y) Y (.agg Y Y (.k2 Y Y) Y (.tmp Y (.nil))))
theorem ND{x0:Zr}{x1:Zr}(N:Nat){r:Zr}(h:qN x0 x1=some r):dB af 168 N [.agg (eZ x0),.agg (eZ x1)] (.agg ((fZ N) r)):=by
 obtain⟨bt,bu⟩:=x0;obtain⟨cG,cC⟩:=x1;refine bX Tryz.func168 Y (ae Y) (λdA M vs hN hvs=>?_);unfold qN at h;refine sr<|bx Y<|bx Y<|al (cs:=[ay false,nw N au]) (by exact⟨aq,bw,ak⟩) Y<|dn<|qq<|bh mixed<|fa Y Y<|lV Y Y Y<|bE h λeP jg h=>cl (dG jg) ⟨Y,ak⟩<|fa Y Y<|lV Y Y Y<|bE h λfD kS h=>cl (dG kS) ⟨Y,ak⟩<|ag Y<|ag Y ?_;refine RT.done ⟨by kernel_rfl,?_⟩;refine aY.n<|qq<|bE h λPK Gm nu=>?_;refine bM (λ(Gn:(List Nat)×(List Nat))=>AS.cz 57 [(4,.ptr 4 0),(5,.sv (aM 1 bk Gn.1)),(6,.sv (aM 1 bk Gn.2))] [(4,⟨41,[ai false,.sv (nw N au)]⟩)] []) (λGn=>Gn=PK) ?_ (λGn Gp=>?_);refine bf ?_;refine bN Gm (λvF=>AS.cz 57 [(4,.ptr 4 0),(5,.sv (aM 1 bk vF.1)),(6,.sv (aM 1 bk vF.2))] [(4,⟨41,[ai false,.sv (nw N au)]⟩)] []) (wR []) (λvF y12 G12 h Gq Gr=>?_);obtain⟨HV,tG⟩:=vF;refine qq<|qq ?_;refine bU h (λWR=>AS.cz 57 [(4,.ptr 4 0),(5,.sv (aM 1 bk HV)),(6,.sv (aM 1 bk tG)),(29,ai WR)] [(4,⟨41,[ai false,.sv (nw N au)]⟩)] []) (λh=>?_) (λSJ h=>?_);refine aZ<|mv Y<|lE h λfe jB h=>ln Y jB<|lE h λkI nq h=>gt _ Y Y nq<|mv Y<|bE h λXW yY h=>?_;cases kI;cases O (F yY);exact ww<|ww<|ww<|ww<|wu<|wu<|wu<|ww<|pF Y<|dn<|⟨false,h,wR []⟩;refine gm Y<|lE (V yY) λiE oc yY=>gn Y oc<|lE yY λiN pJ yY=>gg _ Y Y pJ<|gm Y<|bE yY λXV sN yY=>?_;cases iN;refine gm Y<|lE (F sN) λjw pK sN=>gn Y pK<|lE sN λjm qf sN=>gg _ Y Y qf ?_;obtain rfl:=O sN;refine gF Y ?_;obtain rfl:=O yY;exact pT Y<|dn<|⟨jm,h,wR []⟩;cases O (V sN);refine ww<|ww<|ww<|gT Y ?_;cases O yY;exact pT Y<|dn<|⟨true,h,wR []⟩;refine aY.n ?_;cases SJ;refine aO ?_;obtain rfl:=O (F h);exact⟨(HV,tG),Gr _ Y,wR []⟩;refine aP<|bf<|sr<|mv Y<|mv Y ?_;obtain⟨⟨aoN,akU⟩,yc,h⟩:=bS (V h);refine RT.cf .none (yn N yc) hN Y ⟨Y,Y,ak⟩ T<|mv Y<|ex Y Y<|ex Y Y<|ag Y<|ag Y<|dn<|aZ<|mv Y<|mv Y<|bE h λwA BQ h=>RT.cf .none (yX N BQ) hN Y ⟨Y,ak⟩ T<|ag Y<|ag Y<|RT.done<|bJ.n ?_;obtain rfl:=O h;exact aY.n ⟨(tG,wA),Gq _ Y,cj id Y Y Y Y Y ⟨.ptr,.sv aq,.sv fG,ak⟩ ⟨⟨_,Y,⟨.sv aq,.sv aq,ak⟩⟩,ak⟩ trivial (λ_ _=>Y)⟩;subst Gp;obtain⟨XX,XY⟩:=Gn;refine aY.n<|qq<|sr<|mv Y<|lE nu λmI vH nu=>ln Y vH<|lE nu λyj Gl nu=>eq _ Y Y (yT (p:=mI) (q:=0) Gl)<|dn ?_;cases yj;refine fs<|sr<|mv Y<|bE (F nu) λzo h46 nu=>cl (mR h46) ⟨Y,ak⟩<|mv Y<|bE nu λtD h48 nu=>cl (mR h48) ⟨Y,ak⟩<|ag Y<|ag Y<|dn<|qq<|bE nu λe24 apy agW=>?_;refine bM (λ(MA:Nat)=>AS.cz 57 [(4,.ptr 4 0),(9,.sv (.v (.int .u64 ((MA:Nat):Int))))] [(4,⟨41,[ai false,.sv (nw N au)]⟩)] []) (λMA=>MA=e24) ?_ (λMA apz=>?_);refine bf ?_;refine bN apy (λs24=>AS.cz 57 [(4,.ptr 4 0),(9,.sv (.v (.int .u64 ((s24.1:Nat):Int)))),(10,.sv (.v (.int .u64 ((s24.2:Nat):Int))))] [(4,⟨41,[ai false,.sv (nw N au)]⟩)] []) (wR []) (λs24 y24 G24 h apA apB=>?_);obtain⟨Us,Gj⟩:=s24;refine qq<|sr<|mv Y<|lE h λyU HY h=>gt _ Y Y (ltN (p:=0) (q:=Gj) HY)<|dn ?_;cases yU;refine aO ?_;obtain rfl:=O (F h);exact⟨Us,apB _ Y,wR []⟩;refine aP<|bf<|bh mixed<|mv Y<|mv Y<|mv Y<|bE (V h) λHW Pa h=>RT.rem .none _ Y Y T (nzR Pa) (abH Pa)<|ag Y<|ag Y ?_;refine RT.done ⟨by kernel_rfl,?_⟩;refine bJ.n ?_;obtain rfl:=O h;exact aY.n ⟨(Gj,HW),apA _ Y,wR []⟩;subst apz;refine aY.n<|sr<|mv Y ?_;obtain⟨⟨ad4,ad5⟩,VO,agW⟩:=bS agW;refine RT.cf .none (oa N VO) hN Y ⟨Y,Y,ak⟩ T<|so Y Y Y<|dn<|bj ?_;obtain rfl:=O agW;exact RZ (.agg Y Y (.k2 Y Y) Y (.nil));refine cT<|sr<|mv Y<|bE (V nu) λA6 Lu nu=>RT.cf .none (vK N Lu) hN Y ⟨Y,ak⟩ T ?_;obtain⟨⟨pH,pI⟩,zH,nu⟩:=bS nu;refine RT.cf .none (jh N zH) hN Y ⟨Y,Y,ak⟩ T<|so Y Y Y<|dn<|bj<|aY.r ?_;obtain rfl:=O nu;exact RZ (.agg Y Y (.k2 Y Y) Y (.nil))
end
section
open Go.Fw
noncomputable def lP(x0:Zr)(x1:Zr)(x2:Zr)(x3:Zr):Option (Zr×Zr):=match x0 with|⟨bt,bu⟩=>match x1 with|⟨cG,cC⟩=>match x2 with|⟨xj,xk⟩=>match x3 with|⟨vL,vM⟩=>(ei ⟨bt,bu⟩ ⟨vL,vM⟩).bind λ⟨jC,jr⟩=>(ei ⟨xj,xk⟩ ⟨cG,cC⟩).bind λ⟨kf,kg⟩=>(uQ ⟨jC,jr⟩ ⟨kf,kg⟩).bind λ⟨qL,qM⟩=>(ei ⟨cG,cC⟩ ⟨vL,vM⟩).bind λ⟨kF,kG⟩=>some (⟨qL,qM⟩,⟨kF,kG⟩)
noncomputable def lQ(x0:Zr)(x1:Zr)(x2:Zr)(x3:Zr):Option (Zr×Zr):=match x0 with|⟨bt,bu⟩=>match x1 with|⟨cG,cC⟩=>match x2 with|⟨xj,xk⟩=>match x3 with|⟨vL,vM⟩=>(ei ⟨bt,bu⟩ ⟨vL,vM⟩).bind λ⟨jC,jr⟩=>(ei ⟨xj,xk⟩ ⟨cG,cC⟩).bind λ⟨kf,kg⟩=>(uR ⟨jC,jr⟩ ⟨kf,kg⟩).bind λ⟨qL,qM⟩=>(ei ⟨cG,cC⟩ ⟨vL,vM⟩).bind λ⟨kF,kG⟩=>some (⟨qL,qM⟩,⟨kF,kG⟩)
noncomputable def lS(x0:Zr)(x1:Zr)(x2:Zr)(x3:Zr):Option (Zr×Zr):=match x0 with|⟨bt,bu⟩=>match x1 with|⟨cG,cC⟩=>match x2 with|⟨xj,xk⟩=>match x3 with|⟨vL,vM⟩=>(ei ⟨bt,bu⟩ ⟨xj,xk⟩).bind λ⟨jC,jr⟩=>(ei ⟨cG,cC⟩ ⟨vL,vM⟩).bind λ⟨kf,kg⟩=>some (⟨jC,jr⟩,⟨kf,kg⟩)
noncomputable def lT(x0:Zr)(x1:Zr)(x2:Zr)(x3:Zr):Option (Zr×Zr):=match x0 with|⟨bt,bu⟩=>match x1 with|⟨cG,cC⟩=>match x2 with|⟨xj,xk⟩=>match x3 with|⟨vL,vM⟩=>(ei ⟨bt,bu⟩ ⟨vL,vM⟩).bind λ⟨jC,jr⟩=>(ei ⟨cG,cC⟩ ⟨xj,xk⟩).bind λ⟨kf,kg⟩=>some (⟨jC,jr⟩,⟨kf,kg⟩)
noncomputable def eE(x0:Qr):Option (Zr×Zr):=match x0 with|⟨⟨bt,bu⟩,⟨bD,bG⟩⟩=>(eD ⟨bD,bG⟩).bind λx6=>(some (decide ((x6:Int)=0))).bind λx8=>(bif x8 then(c8 1).bind λ⟨yo,yp⟩=>some (⟨bt,bu⟩,⟨yo,yp⟩)else(some (decide ((x6:Int)=(-1)))).bind λeP=>(bif eP then(jN ⟨bt,bu⟩).bind λ⟨qL,qM⟩=>(jN ⟨bD,bG⟩).bind λ⟨kF,kG⟩=>some (⟨qL,qM⟩,⟨kF,kG⟩)else some (⟨bt,bu⟩,⟨bD,bG⟩)))
noncomputable def iQ(x0:Zr)(x1:Zr):Option (Qr):=match x0 with|⟨bt,bu⟩=>match x1 with|⟨cG,cC⟩=>(eD ⟨cG,cC⟩).bind λx9=>(some (decide ((x9:Int)<0))).bind λdN=>cX (λ(j2:Bool×(List Nat)×Bool×(List Nat))=>match j2 with|⟨SN,SO,SP,SQ⟩=>(qN ⟨SP,SQ⟩ ⟨SN,SO⟩).bind λ⟨rO,rP⟩=>(je ⟨SP,SQ⟩ ⟨rO,rP⟩).bind λ⟨⟨JA,JB⟩,⟨agX,agY⟩,apC⟩=>(je ⟨SN,SO⟩ ⟨rO,rP⟩).bind λ⟨⟨Gt,Gu⟩,⟨agZ,ag0⟩,apD⟩=>(fE ⟨Gt,Gu⟩).bind λ⟨ag1,ag2⟩=>cX (λ(Yd:Bool)=>cX (λ(j7:Bool×(List Nat))=>match j7 with|⟨SR,SS⟩=>some ⟨⟨JA,JB⟩,⟨SR,SS⟩⟩) λK7=>(bif Yd then K7 (false,[])else K7 (Gt,Gu))) λK5=>(bif ag2 then(some (decide ((ag1:Int)=1))).bind λmI=>some mI else some false).bind λad6=>K5 ad6) λK2=>(bif dN then(jN ⟨bt,bu⟩).bind λ⟨jC,jr⟩=>(jN ⟨cG,cC⟩).bind λ⟨yq,yt⟩=>K2 (yq,yt,jC,jr)else K2 (cG,cC,bt,bu))
noncomputable def fH(x0:Qr):Option (Int×Int×Bool):=match x0 with|⟨⟨bt,bu⟩,⟨bD,bG⟩⟩=>(fE ⟨bt,bu⟩).bind λ⟨NF,ab5⟩=>(fE ⟨bD,bG⟩).bind λ⟨LO,ak4⟩=>cX (λ(SU:Bool)=>(bif SU then some (0,0,false)else(some (decide ((LO:Int)=0))).bind λA6=>cX (λ(j24:Int×Int)=>match j24 with|⟨PY,ad8⟩=>some (PY,ad8,true)) λK24=>(bif A6 then K24 (NF,1)else(some (decide ((LO:Int)<0))).bind λzo=>cX (λ(j26:Int×Int)=>match j26 with|⟨Ye,Yf⟩=>K24 (Ye,Yf)) λK26=>(bif zo then(some (IntKind.i64.wrap (0-NF))).bind λtD=>(some (IntKind.i64.wrap (0-LO))).bind λyU=>K26 (tD,yU)else K26 (NF,LO))))) λK21=>(some (!ab5)).bind λiz=>(bif iz then some true else(some (!ak4)).bind λiN=>some iN).bind λYg=>(bif Yg then some true else(some (decide ((NF:Int)<=(-2147483648)))).bind λjm=>some jm).bind λag3=>(bif ag3 then some true else(some (decide ((2147483648:Int)<=NF))).bind λmP=>some mP).bind λag4=>(bif ag4 then some true else(some (decide ((LO:Int)<=(-2147483648)))).bind λqe=>some qe).bind λag5=>(bif ag5 then some true else(some (decide ((2147483648:Int)<=LO))).bind λvI=>some vI).bind λag6=>K21 ag6
noncomputable def iT(x0:Int)(x1:Int):Option (Qr):=(cm (λ(s6:Int×Int)=>match s6 with|⟨jc,mG⟩=>(show Option ((Int×Int)⊕(Int))from(some (decide ((mG:Int)≠0))).bind λdN=>(bif dN then(LG jc mG).bind λeL=>some (.inl (mG,eL))else some (.inr jc)))) (x0,x1)).bind λxl=>(some (decide ((xl:Int)<0))).bind λfD=>cX (λ(VU:Int)=>(some (decide ((VU:Int)=x1))).bind λfR=>(bif fR then(Bl x0 VU).bind λiv=>(c8 iv).bind λ⟨nO,nm⟩=>some ⟨⟨nO,nm⟩,⟨false,[]⟩⟩else(Bl x0 VU).bind λjd=>(c8 jd).bind λ⟨sQ,sS⟩=>(Bl x1 VU).bind λpz=>(c8 pz).bind λ⟨qO,qP⟩=>some ⟨⟨sQ,sS⟩,⟨qO,qP⟩⟩)) λK8=>(bif fD then(some (IntKind.i64.wrap (0-xl))).bind λfe=>K8 fe else K8 xl)
noncomputable def yu(x0:Int):Option (Int):=(some (decide ((x0:Int)<0))).bind λx5=>(bif x5 then some (-1)else(some (decide ((0:Int)<x0))).bind λx8=>(bif x8 then some 1 else some 0))
noncomputable def og(x1:Qr)(x2:Qr):Option (Qr):=match x1 with|⟨⟨cG,cC⟩,⟨eW,eX⟩⟩=>match x2 with|⟨⟨xj,xk⟩,⟨JC,JD⟩⟩=>(eE ⟨⟨cG,cC⟩,⟨eW,eX⟩⟩).bind λ⟨⟨pB,pC⟩,⟨ql,qm⟩⟩=>(eE ⟨⟨xj,xk⟩,⟨JC,JD⟩⟩).bind λ⟨⟨kJ,kK⟩,⟨oh,om⟩⟩=>(lP ⟨pB,pC⟩ ⟨ql,qm⟩ ⟨kJ,kK⟩ ⟨oh,om⟩).bind λ⟨⟨qo,qp⟩,⟨qt,qu⟩⟩=>(iQ ⟨qo,qp⟩ ⟨qt,qu⟩).bind λ⟨⟨zC,yl⟩,⟨BU,BV⟩⟩=>some ⟨⟨zC,yl⟩,⟨BU,BV⟩⟩
noncomputable def oq(x1:Qr)(x2:Qr):Option (Qr):=match x1 with|⟨⟨cG,cC⟩,⟨eW,eX⟩⟩=>match x2 with|⟨⟨xj,xk⟩,⟨JC,JD⟩⟩=>(eE ⟨⟨cG,cC⟩,⟨eW,eX⟩⟩).bind λ⟨⟨pB,pC⟩,⟨ql,qm⟩⟩=>(eE ⟨⟨xj,xk⟩,⟨JC,JD⟩⟩).bind λ⟨⟨kJ,kK⟩,⟨oh,om⟩⟩=>(lQ ⟨pB,pC⟩ ⟨ql,qm⟩ ⟨kJ,kK⟩ ⟨oh,om⟩).bind λ⟨⟨qo,qp⟩,⟨qt,qu⟩⟩=>(iQ ⟨qo,qp⟩ ⟨qt,qu⟩).bind λ⟨⟨zC,yl⟩,⟨BU,BV⟩⟩=>some ⟨⟨zC,yl⟩,⟨BU,BV⟩⟩
noncomputable def ot(x1:Qr)(x2:Qr):Option (Qr):=match x1 with|⟨⟨cG,cC⟩,⟨eW,eX⟩⟩=>match x2 with|⟨⟨xj,xk⟩,⟨JC,JD⟩⟩=>(eE ⟨⟨cG,cC⟩,⟨eW,eX⟩⟩).bind λ⟨⟨pB,pC⟩,⟨ql,qm⟩⟩=>(eE ⟨⟨xj,xk⟩,⟨JC,JD⟩⟩).bind λ⟨⟨kJ,kK⟩,⟨oh,om⟩⟩=>(lS ⟨pB,pC⟩ ⟨ql,qm⟩ ⟨kJ,kK⟩ ⟨oh,om⟩).bind λ⟨⟨qo,qp⟩,⟨qt,qu⟩⟩=>(iQ ⟨qo,qp⟩ ⟨qt,qu⟩).bind λ⟨⟨zC,yl⟩,⟨BU,BV⟩⟩=>some ⟨⟨zC,yl⟩,⟨BU,BV⟩⟩
noncomputable def mm(x1:Qr)(x2:Qr):Option (Qr):=match x1 with|⟨⟨cG,cC⟩,⟨eW,eX⟩⟩=>match x2 with|⟨⟨xj,xk⟩,⟨JC,JD⟩⟩=>(eE ⟨⟨cG,cC⟩,⟨eW,eX⟩⟩).bind λ⟨⟨pB,pC⟩,⟨ql,qm⟩⟩=>(eE ⟨⟨xj,xk⟩,⟨JC,JD⟩⟩).bind λ⟨⟨kJ,kK⟩,⟨oh,om⟩⟩=>(lT ⟨pB,pC⟩ ⟨ql,qm⟩ ⟨kJ,kK⟩ ⟨oh,om⟩).bind λ⟨⟨qo,qp⟩,⟨qt,qu⟩⟩=>(iQ ⟨qo,qp⟩ ⟨qt,qu⟩).bind λ⟨⟨zC,yl⟩,⟨BU,BV⟩⟩=>some ⟨⟨zC,yl⟩,⟨BU,BV⟩⟩
noncomputable def dU(x0:Int):Option (Qr):=(c8 x0).bind λ⟨C5,C6⟩=>some ⟨⟨C5,C6⟩,⟨false,[]⟩⟩
noncomputable def dV(x0:Qr):Option (Qr):=match x0 with|⟨⟨bt,bu⟩,⟨bD,bG⟩⟩=>(fH ⟨⟨bt,bu⟩,⟨bD,bG⟩⟩).bind λ⟨WS,x8b,x8c⟩=>(bif x8c then(iT WS x8b).bind λ⟨⟨kf,kg⟩,⟨yw,yx⟩⟩=>some ⟨⟨kf,kg⟩,⟨yw,yx⟩⟩else(eE ⟨⟨bt,bu⟩,⟨bD,bG⟩⟩).bind λ⟨⟨Yh,Yi⟩,⟨Yj,Yk⟩⟩=>(iQ ⟨Yh,Yi⟩ ⟨Yj,Yk⟩).bind λ⟨⟨Dj,Dk⟩,⟨JE,JF⟩⟩=>some ⟨⟨Dj,Dk⟩,⟨JE,JF⟩⟩)
noncomputable def kT(x0:Qr):Option (Int):=match x0 with|⟨⟨bt,bu⟩,⟨bD,bG⟩⟩=>(eD ⟨bD,bG⟩).bind λx5=>(some (decide ((x5:Int)<0))).bind λx6=>(bif x6 then(eD ⟨bt,bu⟩).bind λx9=>(some (IntKind.i64.wrap (0-x9))).bind λdN=>some dN else(eD ⟨bt,bu⟩).bind λeP=>some eP)
noncomputable def xm(x0:Qr)(x1:Qr):Option (Qr):=match x0 with|⟨⟨bt,bu⟩,⟨bD,bG⟩⟩=>match x1 with|⟨⟨cG,cC⟩,⟨eW,eX⟩⟩=>(fH ⟨⟨bt,bu⟩,⟨bD,bG⟩⟩).bind λ⟨JG,Gv,JH⟩=>(fH ⟨⟨cG,cC⟩,⟨eW,eX⟩⟩).bind λ⟨JI,Gw,JJ⟩=>cX (λ(BW:Bool)=>(bif BW then(some (IntKind.i64.wrap (JG*Gw))).bind λjd=>(some (IntKind.i64.wrap (JI*Gv))).bind λkN=>(some (IntKind.i64.wrap (jd+kN))).bind λpz=>(some (IntKind.i64.wrap (Gv*Gw))).bind λmF=>(iT pz mF).bind λ⟨⟨PZ,P0⟩,⟨P1,P2⟩⟩=>some ⟨⟨PZ,P0⟩,⟨P1,P2⟩⟩else(og ⟨⟨bt,bu⟩,⟨bD,bG⟩⟩ ⟨⟨cG,cC⟩,⟨eW,eX⟩⟩).bind λ⟨⟨wc,we⟩,⟨zJ,zK⟩⟩=>some ⟨⟨wc,we⟩,⟨zJ,zK⟩⟩)) λK3=>(bif JH then some JJ else some false).bind λHs=>K3 Hs
noncomputable def xn(x0:Qr)(x1:Qr):Option (Qr):=match x0 with|⟨⟨bt,bu⟩,⟨bD,bG⟩⟩=>match x1 with|⟨⟨cG,cC⟩,⟨eW,eX⟩⟩=>(fH ⟨⟨bt,bu⟩,⟨bD,bG⟩⟩).bind λ⟨JG,Gv,JH⟩=>(fH ⟨⟨cG,cC⟩,⟨eW,eX⟩⟩).bind λ⟨JI,Gw,JJ⟩=>cX (λ(BW:Bool)=>(bif BW then(some (IntKind.i64.wrap (JG*Gw))).bind λjd=>(some (IntKind.i64.wrap (JI*Gv))).bind λkN=>(some (IntKind.i64.wrap (jd-kN))).bind λpz=>(some (IntKind.i64.wrap (Gv*Gw))).bind λmF=>(iT pz mF).bind λ⟨⟨PZ,P0⟩,⟨P1,P2⟩⟩=>some ⟨⟨PZ,P0⟩,⟨P1,P2⟩⟩else(oq ⟨⟨bt,bu⟩,⟨bD,bG⟩⟩ ⟨⟨cG,cC⟩,⟨eW,eX⟩⟩).bind λ⟨⟨wc,we⟩,⟨zJ,zK⟩⟩=>some ⟨⟨wc,we⟩,⟨zJ,zK⟩⟩)) λK3=>(bif JH then some JJ else some false).bind λHs=>K3 Hs
noncomputable def tK(x0:Qr)(x1:Qr):Option (Qr):=match x0 with|⟨⟨bt,bu⟩,⟨bD,bG⟩⟩=>match x1 with|⟨⟨cG,cC⟩,⟨eW,eX⟩⟩=>(fH ⟨⟨bt,bu⟩,⟨bD,bG⟩⟩).bind λ⟨JG,Gv,JH⟩=>(fH ⟨⟨cG,cC⟩,⟨eW,eX⟩⟩).bind λ⟨JI,Gw,JJ⟩=>cX (λ(BW:Bool)=>(bif BW then(some (IntKind.i64.wrap (JG*JI))).bind λjd=>(some (IntKind.i64.wrap (Gv*Gw))).bind λkN=>(iT jd kN).bind λ⟨⟨Dl,Dm⟩,⟨JK,JM⟩⟩=>some ⟨⟨Dl,Dm⟩,⟨JK,JM⟩⟩else(ot ⟨⟨bt,bu⟩,⟨bD,bG⟩⟩ ⟨⟨cG,cC⟩,⟨eW,eX⟩⟩).bind λ⟨⟨Hq,Hr⟩,⟨aea,aeb⟩⟩=>some ⟨⟨Hq,Hr⟩,⟨aea,aeb⟩⟩)) λK3=>(bif JH then some JJ else some false).bind λHs=>K3 Hs
noncomputable def xo(x0:Qr)(x1:Qr):Option (Qr×Int):=match x0 with|⟨⟨bt,bu⟩,⟨bD,bG⟩⟩=>match x1 with|⟨⟨cG,cC⟩,⟨eW,eX⟩⟩=>(kT ⟨⟨cG,cC⟩,⟨eW,eX⟩⟩).bind λeP=>(some (decide ((eP:Int)=0))).bind λeL=>(bif eL then some (⟨⟨false,[]⟩,⟨false,[]⟩⟩,7)else(fH ⟨⟨bt,bu⟩,⟨bD,bG⟩⟩).bind λ⟨LP,NG,Yl⟩=>(fH ⟨⟨cG,cC⟩,⟨eW,eX⟩⟩).bind λ⟨VV,VW,ag7⟩=>cX (λ(JN:Bool)=>(bif JN then(some (decide ((VV:Int)<0))).bind λpz=>cX (λ(j6:Int×Int)=>match j6 with|⟨ak5,ak6⟩=>(some (IntKind.i64.wrap (ak5*VW))).bind λmI=>(some (IntKind.i64.wrap (NG*ak6))).bind λA6=>(iT mI A6).bind λ⟨⟨pH,pI⟩,⟨sV,sW⟩⟩=>some (⟨⟨pH,pI⟩,⟨sV,sW⟩⟩,0)) λK6=>(bif pz then(some (IntKind.i64.wrap (0-LP))).bind λqe=>(some (IntKind.i64.wrap (0-VV))).bind λqk=>K6 (qe,qk)else K6 (LP,VV))else(mm ⟨⟨bt,bu⟩,⟨bD,bG⟩⟩ ⟨⟨cG,cC⟩,⟨eW,eX⟩⟩).bind λ⟨⟨Ho,Hp⟩,⟨aec,aed⟩⟩=>some (⟨⟨Ho,Hp⟩,⟨aec,aed⟩⟩,0))) λK3=>(bif Yl then some ag7 else some false).bind λaee=>K3 aee)
noncomputable def tL(x0:Qr):Option (Qr):=match x0 with|⟨⟨bt,bu⟩,⟨bD,bG⟩⟩=>(dV ⟨⟨bt,bu⟩,⟨bD,bG⟩⟩).bind λ⟨⟨BX,DQ⟩,⟨Gx,H6⟩⟩=>(jN ⟨BX,DQ⟩).bind λ⟨qw,qx⟩=>some ⟨⟨qw,qx⟩,⟨Gx,H6⟩⟩
noncomputable def xp(x0:Qr)(x1:Qr):Option (Int):=match x0 with|⟨⟨bt,bu⟩,⟨bD,bG⟩⟩=>match x1 with|⟨⟨cG,cC⟩,⟨eW,eX⟩⟩=>(eE ⟨⟨bt,bu⟩,⟨bD,bG⟩⟩).bind λ⟨⟨pB,pC⟩,⟨ql,qm⟩⟩=>(eE ⟨⟨cG,cC⟩,⟨eW,eX⟩⟩).bind λ⟨⟨kJ,kK⟩,⟨oh,om⟩⟩=>(eD ⟨pB,pC⟩).bind λiE=>(eD ⟨kJ,kK⟩).bind λiv=>cX (λ(JN:Bool)=>(bif JN then(some (IntKind.i64.wrap (iE-iv))).bind λzk=>(yu zk).bind λqe=>some qe else(ei ⟨pB,pC⟩ ⟨oh,om⟩).bind λ⟨uT,uU⟩=>(ei ⟨kJ,kK⟩ ⟨ql,qm⟩).bind λ⟨MC,MD⟩=>(uS ⟨uT,uU⟩ ⟨MC,MD⟩).bind λry=>some ry)) λK3=>(some (decide ((iE:Int)≠iv))).bind λjm=>(bif jm then some true else(some (decide ((iE:Int)=0))).bind λvY=>some vY).bind λaef=>K3 aef
end
section
open Go.Fw Go.Fw.Z Go.RowKit
abbrev Ym:List (Value×Value):=[(.int .u8 43,.agg #[.func (.func 187) #[] #[]]),(.int .u8 45,.agg #[.func (.func 189) #[] #[]]),(.int .u8 42,.agg #[.func (.func 191) #[] #[]]),(.int .u8 47,.agg #[.func (.func 192) #[] #[]])]
theorem mS:Pure af 167 [] (XE Ym):=by
 refine bp Tryz.func167 Y (ae Y) (λdA M vs hvs=>?_);refine b9<|aZ<|RT.BA .none Y T<|RT.done<|aY.n<|b9<|abM (ae Y) Y Y Y (λS' h0=>?_);exact bj (R1 h0)
theorem BY{x0:Zr}{x1:Zr}{x2:Zr}{x3:Zr}(N:Nat){r:Zr×Zr}(h:lP x0 x1 x2 x3=some r):dB af 187 N [.agg (eZ x0),.agg (eZ x1),.agg (eZ x2),.agg (eZ x3)] (.Bs [.agg ((fZ N) r.1),.agg ((fZ N) r.2)]):=by
 obtain⟨bt,bu⟩:=x0;obtain⟨cG,cC⟩:=x1;obtain⟨xj,xk⟩:=x2;obtain⟨vL,vM⟩:=x3;refine bX Tryz.func187 Y (ae Y) (λdA M vs hN hvs=>?_);unfold lP at h;refine sr<|bx Y<|bx Y<|bx Y<|bx Y<|al (cs:=[ay false,nw N au]) (by exact⟨aq,bw,ak⟩) Y<|al (cs:=[ay false,nw N au]) (by exact⟨aq,bw,ak⟩) Y<|dn<|qq<|bh mixed<|ld Y Y (.k2 Y Y)<|ld Y Y (.k2 Y Y) ?_;obtain⟨⟨jC,jr⟩,fO,h⟩:=bS h;refine RT.cf .none (gX N fO) hN Y ⟨Y,Y,ak⟩ T<|ld Y Y (.k2 Y Y)<|ld Y Y (.k2 Y Y) ?_;obtain⟨⟨kf,kg⟩,gQ,h⟩:=bS h;refine RT.cf .none (gX N gQ) hN Y ⟨Y,Y,ak⟩ T ?_;obtain⟨⟨qL,qM⟩,kS,h⟩:=bS h;refine RT.cf .none ((Nz N kS).w (args':=[_,_]) ⟨(SV.eA (show cc [ay jC,nw N (aM 1 bk jr)] _ from⟨aq,fG,ak⟩)),(SV.eA (show cc [ay kf,nw N (aM 1 bk kg)] _ from⟨aq,fG,ak⟩)),ak⟩) hN Y ⟨Y,Y,ak⟩ T<|ld Y Y (.k2 Y Y)<|ld Y Y (.k2 Y Y) ?_;obtain⟨⟨kF,kG⟩,nq,h⟩:=bS h;refine RT.cf .none (gX N nq) hN Y ⟨Y,Y,ak⟩ T<|so Y Y Y<|so Y Y Y<|RT.done ⟨by kernel_rfl,?_⟩;refine aY.n<|bj ?_;cases O h;exact RZ (.agg Y Y (.k2 Y Y) Y (.agg Y Y (.k2 Y Y) Y (.nil)))
theorem BZ{x0:Zr}{x1:Zr}{x2:Zr}{x3:Zr}(N:Nat){r:Zr×Zr}(h:lQ x0 x1 x2 x3=some r):dB af 189 N [.agg (eZ x0),.agg (eZ x1),.agg (eZ x2),.agg (eZ x3)] (.Bs [.agg ((fZ N) r.1),.agg ((fZ N) r.2)]):=by
 obtain⟨bt,bu⟩:=x0;obtain⟨cG,cC⟩:=x1;obtain⟨xj,xk⟩:=x2;obtain⟨vL,vM⟩:=x3;refine bX Tryz.func189 Y (ae Y) (λdA M vs hN hvs=>?_);unfold lQ at h;refine sr<|bx Y<|bx Y<|bx Y<|bx Y<|al (cs:=[ay false,nw N au]) (by exact⟨aq,bw,ak⟩) Y<|al (cs:=[ay false,nw N au]) (by exact⟨aq,bw,ak⟩) Y<|dn<|qq<|bh mixed<|ld Y Y (.k2 Y Y)<|ld Y Y (.k2 Y Y) ?_;obtain⟨⟨jC,jr⟩,fO,h⟩:=bS h;refine RT.cf .none (gX N fO) hN Y ⟨Y,Y,ak⟩ T<|ld Y Y (.k2 Y Y)<|ld Y Y (.k2 Y Y) ?_;obtain⟨⟨kf,kg⟩,gQ,h⟩:=bS h;refine RT.cf .none (gX N gQ) hN Y ⟨Y,Y,ak⟩ T ?_;obtain⟨⟨qL,qM⟩,kS,h⟩:=bS h;refine RT.cf .none ((NB N kS).w (args':=[_,_]) ⟨(SV.eA (show cc [ay jC,nw N (aM 1 bk jr)] _ from⟨aq,fG,ak⟩)),(SV.eA (show cc [ay kf,nw N (aM 1 bk kg)] _ from⟨aq,fG,ak⟩)),ak⟩) hN Y ⟨Y,Y,ak⟩ T<|ld Y Y (.k2 Y Y)<|ld Y Y (.k2 Y Y) ?_;obtain⟨⟨kF,kG⟩,nq,h⟩:=bS h;refine RT.cf .none (gX N nq) hN Y ⟨Y,Y,ak⟩ T<|so Y Y Y<|so Y Y Y<|RT.done ⟨by kernel_rfl,?_⟩;refine aY.n<|bj ?_;cases O h;exact RZ (.agg Y Y (.k2 Y Y) Y (.agg Y Y (.k2 Y Y) Y (.nil)))
theorem B3{x0:Zr}{x1:Zr}{x2:Zr}{x3:Zr}(N:Nat){r:Zr×Zr}(h:lS x0 x1 x2 x3=some r):dB af 191 N [.agg (eZ x0),.agg (eZ x1),.agg (eZ x2),.agg (eZ x3)] (.Bs [.agg ((fZ N) r.1),.agg ((fZ N) r.2)]):=by
 obtain⟨bt,bu⟩:=x0;obtain⟨cG,cC⟩:=x1;obtain⟨xj,xk⟩:=x2;obtain⟨vL,vM⟩:=x3;refine bX Tryz.func191 Y (ae Y) (λdA M vs hN hvs=>?_);unfold lS at h;refine sr<|bx Y<|bx Y<|bx Y<|bx Y<|al (cs:=[ay false,nw N au]) (by exact⟨aq,bw,ak⟩) Y<|al (cs:=[ay false,nw N au]) (by exact⟨aq,bw,ak⟩) Y<|dn<|qq<|bh mixed<|ld Y Y (.k2 Y Y)<|ld Y Y (.k2 Y Y) ?_;obtain⟨⟨jC,jr⟩,fO,h⟩:=bS h;refine RT.cf .none (gX N fO) hN Y ⟨Y,Y,ak⟩ T<|ld Y Y (.k2 Y Y)<|ld Y Y (.k2 Y Y) ?_;obtain⟨⟨kf,kg⟩,gQ,h⟩:=bS h;refine RT.cf .none (gX N gQ) hN Y ⟨Y,Y,ak⟩ T<|so Y Y Y<|so Y Y Y<|RT.done ⟨by kernel_rfl,?_⟩;refine aY.n<|bj ?_;cases O h;exact RZ (.agg Y Y (.k2 Y Y) Y (.agg Y Y (.k2 Y Y) Y (.nil)))
theorem B4{x0:Zr}{x1:Zr}{x2:Zr}{x3:Zr}(N:Nat){r:Zr×Zr}(h:lT x0 x1 x2 x3=some r):dB af 192 N [.agg (eZ x0),.agg (eZ x1),.agg (eZ x2),.agg (eZ x3)] (.Bs [.agg ((fZ N) r.1),.agg ((fZ N) r.2)]):=by
 obtain⟨bt,bu⟩:=x0;obtain⟨cG,cC⟩:=x1;obtain⟨xj,xk⟩:=x2;obtain⟨vL,vM⟩:=x3;refine bX Tryz.func192 Y (ae Y) (λdA M vs hN hvs=>?_);unfold lT at h;refine sr<|bx Y<|bx Y<|bx Y<|bx Y<|al (cs:=[ay false,nw N au]) (by exact⟨aq,bw,ak⟩) Y<|al (cs:=[ay false,nw N au]) (by exact⟨aq,bw,ak⟩) Y<|dn<|qq<|bh mixed<|ld Y Y (.k2 Y Y)<|ld Y Y (.k2 Y Y) ?_;obtain⟨⟨jC,jr⟩,fO,h⟩:=bS h;refine RT.cf .none (gX N fO) hN Y ⟨Y,Y,ak⟩ T<|ld Y Y (.k2 Y Y)<|ld Y Y (.k2 Y Y) ?_;obtain⟨⟨kf,kg⟩,gQ,h⟩:=bS h;refine RT.cf .none (gX N gQ) hN Y ⟨Y,Y,ak⟩ T<|so Y Y Y<|so Y Y Y<|RT.done ⟨by kernel_rfl,?_⟩;refine aY.n<|bj ?_;cases O h;exact RZ (.agg Y Y (.k2 Y Y) Y (.agg Y Y (.k2 Y Y) Y (.nil)))
theorem gb{x0:Qr}{r:Zr×Zr}(h:eE x0=some r):Pure af 127 [.agg (eQ x0)] (.Bs [.agg (eZ r.1),.agg (eZ r.2)]):=by
 obtain⟨⟨bt,bu⟩,⟨bD,bG⟩⟩:=x0;refine bp Tryz.func127 Y (ae Y) (λdA M vs hvs=>?_);unfold eE at h;refine sr<|bx Y<|al (cs:=[ay false,au]) (by exact⟨aq,aD,ak⟩) Y<|al (cs:=[ay false,au]) (by exact⟨aq,aD,ak⟩) Y<|dn<|qq<|sr<|fa Y Y<|ld Y Y (.k2 Y Y)<|bE h λx6 h6 h=>cl (iP h6) ⟨Y,ak⟩<|dn<|bf<|sr<|lE h λx8 h8 h=>eq _ Y Y (yT (p:=x6) (q:=0) h8)<|ag Y<|dn ?_;cases x8;refine cF<|sr<|lE (F h) λeP jg h=>eq _ Y Y (yT (p:=x6) (q:=(-1)) jg)<|ag Y<|dn ?_;cases eP;refine cF<|bC<|bJ.n<|aY.n<|qq<|bh mixed<|fa Y Y<|ld Y Y (.k2 Y Y)<|fa Y Y<|ld Y Y (.k2 Y Y)<|so Y Y Y<|so Y Y Y<|RT.done ⟨by kernel_rfl,?_⟩;refine aY.n<|bj ?_;cases O (F h);exact RZ (.agg Y Y (.k2 Y Y) Y (.agg Y Y (.k2 Y Y) Y (.nil)));refine cT<|qq<|bh mixed<|fa Y Y<|ld Y Y (.k2 Y Y) ?_;obtain⟨⟨qL,qM⟩,kS,h⟩:=bS (V h);refine cl (ET kS) ⟨Y,ak⟩<|fa Y Y<|ld Y Y (.k2 Y Y) ?_;obtain⟨⟨kF,kG⟩,nq,h⟩:=bS h;refine cl (ET nq) ⟨Y,ak⟩<|so Y Y Y<|so Y Y Y<|RT.done ⟨by kernel_rfl,?_⟩;refine aY.n<|bj<|bJ.r<|aY.r ?_;cases O h;exact RZ (.agg Y Y (.k2 Y Y) Y (.agg Y Y (.k2 Y Y) Y (.nil)));refine cT<|qq<|bh mixed<|fa Y Y<|ld Y Y (.k2 Y Y) ?_;obtain⟨⟨yo,yp⟩,kR,h⟩:=bS (V h);refine cl (DP kR) ⟨Y,ak⟩<|so Y Y Y<|so Y Y Y ?_
 refine RT.done ⟨by kernel_rfl,?_⟩;refine aY.n<|bj<|bJ.r<|aY.r ?_;cases O h;exact RZ (.agg Y Y (.k2 Y Y) Y (.agg Y Y (.k2 Y Y) Y (.nil)))
theorem ou{x0:Zr}{x1:Zr}(N:Nat){r:Qr}(h:iQ x0 x1=some r):dB af 140 N [.agg (eZ x0),.agg (eZ x1)] (.agg ((fQ N) r)):=by
 obtain⟨bt,bu⟩:=x0;obtain⟨cG,cC⟩:=x1;refine bX Tryz.func140 Y (ae Y) (λdA M vs hN hvs=>?_);unfold iQ at h;refine sr<|bx Y<|bx Y<|al (cs:=[ay false,nw N au,ay false,nw N au]) (by exact⟨aq,bw,aq,bw,ak⟩) Y<|dn<|qq<|sr<|ld Y Y (.k2 Y Y)<|bE h λx9 h9 h=>cl (iP h9) ⟨Y,ak⟩<|lE h λdN gL h=>ls _ Y Y gL<|dn<|bU h (λj2=>AS.cz 46 [(2,.ptr 2 0),(3,.ptr 3 0),(4,.ptr 4 0)] [(4,⟨43,[ai false,.sv (nw N au),ai false,.sv (nw N au)]⟩),(3,⟨41,[ai j2.1,.sv (aM 1 bk j2.2.1)]⟩),(2,⟨41,[ai j2.2.2.1,.sv (aM 1 bk j2.2.2.2)]⟩)] []) (λh=>?_) (λj2 h=>?_);cases dN;exact fs<|⟨(cG,cC,bt,bu),(F h),wR []⟩;refine cT<|bh mixed<|ld Y Y (.k2 Y Y) ?_;obtain⟨⟨jC,jr⟩,fO,h⟩:=bS (V h);refine RT.cf .none (wD N fO) hN Y ⟨Y,ak⟩ T<|ld Y Y (.k2 Y Y) ?_;obtain⟨⟨yq,yt⟩,jZ,h⟩:=bS h;refine RT.cf .none (wD N jZ) hN Y ⟨Y,ak⟩ T<|so Y Y Y<|so Y Y Y<|RT.done ⟨by kernel_rfl,?_⟩;exact aY.n<|⟨(yq,yt,jC,jr),h,cj id Y Y Y Y Y ⟨.ptr,.ptr,.ptr,ak⟩ ⟨⟨_,Y,⟨.sv aq,.sv aq,.sv aq,.sv aq,ak⟩⟩,⟨_,Y,⟨.sv aq,.sv fG,ak⟩⟩,⟨_,Y,⟨.sv aq,.sv fG,ak⟩⟩,ak⟩ trivial (λ_ _=>Y)⟩;obtain⟨SN,SO,SP,SQ⟩:=j2;refine aY.n<|sr<|ld Y Y (.k2 Y Y)<|ld Y Y (.k2 Y Y) ?_;obtain⟨⟨rO,rP⟩,jE,h⟩:=bS h;refine RT.cf .none (ND N jE) hN Y ⟨Y,Y,ak⟩ T<|al (cs:=[ay false,nw N au]) (by exact⟨aq,bw,ak⟩) Y<|so Y Y Y<|dn<|sr<|ld Y Y (.k2 Y Y)<|ld Y Y (.k2 Y Y) ?_;obtain⟨⟨⟨JA,JB⟩,⟨agX,agY⟩,apC⟩,j0,h⟩:=bS h;refine RT.cf .none ((A7 N j0).w (args':=[_,_]) ⟨aq,(SV.eA (show cc [ay rO,nw N (aM 1 bk rP)] _ from⟨aq,fG,ak⟩)),ak⟩) hN Y ⟨Y,Y,ak⟩ T<|mv Y<|ex Y Y<|ex Y Y<|ex Y Y<|so Y Y Y<|dn<|sr<|ld Y Y (.k2 Y Y)<|ld Y Y (.k2 Y Y) ?_;obtain⟨⟨⟨Gt,Gu⟩,⟨agZ,ag0⟩,apD⟩,wB,h⟩:=bS h;refine RT.cf .none ((A7 N wB).w (args':=[_,_]) ⟨aq,(SV.eA (show cc [ay rO,nw N (aM 1 bk rP)] _ from⟨aq,fG,ak⟩)),ak⟩) hN Y ⟨Y,Y,ak⟩ T<|mv Y<|ex Y Y<|ex Y Y<|ex Y Y<|so Y Y Y<|dn<|qq<|sr<|ld Y Y (.k2 Y Y) ?_;obtain⟨⟨ag1,ag2⟩,Aq,h⟩:=bS h;refine cl ((ke Aq).w (args':=[_]) ⟨(SV.eA (show cc [ay Gt,nw N (aM 1 bk Gu)] _ from⟨aq,fG,ak⟩)),ak⟩) ⟨Y,ak⟩<|mv Y<|ex Y Y<|ex Y Y<|ag Y<|ag Y<|dn<|qq ?_
 refine bU h (λj5=>AS.cz 46 [(2,.ptr 2 0),(3,.ptr 3 0),(4,.ptr 4 0),(41,ai j5)] [(4,⟨43,[ai false,.sv (nw N au),ai false,.sv (nw N au)]⟩),(3,⟨41,[ai Gt,.sv (nw N (aM 1 bk Gu))]⟩),(2,⟨41,[ai JA,.sv (nw N (aM 1 bk JB))]⟩)] []) (λh=>?_) (λYd h=>?_);refine aZ<|mv Y<|mv Y<|bE h λad6 Yn h=>?_;cases ag2;cases O (F Yn);exact ww<|ww<|pF Y<|dn<|⟨false,h,wR []⟩;refine gm Y<|lE (V Yn) λmI vH Yn=>ge_ _ Y Y (yT (p:=ag1) (q:=1) vH) ?_;obtain rfl:=O Yn;exact pT Y<|dn<|⟨mI,h,wR []⟩;refine aY.n<|bU h (λj7=>AS.cz 46 [(2,.ptr 2 0),(3,.ptr 3 0),(4,.ptr 4 0)] [(4,⟨43,[ai false,.sv (nw N au),ai false,.sv (nw N au)]⟩),(3,⟨41,[ai j7.1,.sv (nw N (aM 1 bk j7.2))]⟩),(2,⟨41,[ai JA,.sv (nw N (aM 1 bk JB))]⟩)] []) (λh=>?_) (λj7 h=>?_);cases Yd;exact fs<|⟨(Gt,Gu),(F h),wR []⟩;exact cT<|aZ<|bI (cs:=[_,_]) (cs':=[ay false,nw N au]) (.nil) ⟨aq,bw,ak⟩<|so Y Y Y<|dn<|⟨(false,[]),(V h),wR []⟩;obtain⟨SR,SS⟩:=j7;refine aY.n<|sr<|ld Y Y (.k2 Y Y)<|ld Y Y (.k2 Y Y)<|bI (cs:=[_,_,_,_]) (cs':=[ay JA,nw N (aM 1 bk JB),ay SR,nw N (aM 1 bk SS)]) (.agg Y (.agg Y (.nil))) ⟨aq,aq,aq,aq,ak⟩<|so Y Y Y<|dn<|bj ?_;cases O h;exact RZ (.agg Y Y (.k4 Y Y Y Y) Y (.nil))
theorem iU{x0:Qr}{r:Int×Int×Bool}(h:fH x0=some r):Pure af 134 [.agg (eQ x0)] (.Bs [ax r.1,ax r.2.1,ay r.2.2]):=by
 obtain⟨⟨bt,bu⟩,⟨bD,bG⟩⟩:=x0;refine bp Tryz.func134 Y (ae Y) (λdA M vs hvs=>?_);unfold fH at h;refine sr<|bx Y<|ag Y<|ag Y<|ag Y<|dn<|sr<|fa Y Y<|ld Y Y (.k2 Y Y) ?_;obtain⟨⟨NF,ab5⟩,gL,h⟩:=bS h;refine cl (ke gL) ⟨Y,ak⟩<|mv Y<|ex Y Y<|ex Y Y<|ag Y<|ag Y<|dn<|sr<|fa Y Y<|ld Y Y (.k2 Y Y) ?_;obtain⟨⟨LO,ak4⟩,kS,h⟩:=bS h;refine cl (ke kS) ⟨Y,ak⟩<|mv Y<|ex Y Y<|ex Y Y<|ag Y<|ag Y<|dn<|qq<|qq ?_;refine bU h (λj21=>AS.cz 53 [(2,ah NF),(3,ah LO),(40,ai j21)] [] []) (λh=>?_) (λSU h=>?_);refine aZ<|mv Y<|lE h λiz pA h=>nt Y _ pA<|mv Y<|bE h λYg zL h=>?_;cases iz;refine gm Y<|lE (F zL) λiN pJ zL=>WL Y _ pJ ?_;obtain rfl:=O zL;refine pF Y<|mv Y<|bE h λapF DR h=>?_;cases iN;refine gm Y<|lE (F DR) λjm qf DR=>RT.leq (.some Y Y) _ Y Y T qf ?_;obtain rfl:=O DR;refine pF Y<|mv Y<|bE h λapG Gy h=>?_;cases jm;refine gm Y<|lE (F Gy) λmP ya Gy=>RT.geq (.some Y Y) _ Y Y T ya ?_;obtain rfl:=O Gy;refine pF Y<|mv Y<|bE h λapH ye h=>?_;cases mP;refine gm Y<|lE (F ye) λqe zE ye=>RT.leq (.some Y Y) _ Y Y T zE ?_;obtain rfl:=O ye;refine pF Y<|mv Y<|bE h λapI EU h=>?_;cases qe;refine gm Y<|lE (F EU) λvI DO EU=>RT.geq (.some Y Y) _ Y Y T DO ?_;obtain rfl:=O EU;exact pF Y<|dn<|⟨vI,h,wR []⟩;obtain rfl:=O (V EU)
 exact ww<|ww<|pT Y<|dn<|⟨true,h,wR []⟩;obtain rfl:=O (V ye);refine ww<|ww<|pT Y<|mv Y<|bE h λapJ EV h=>?_;obtain rfl:=O (V EV);exact ww<|ww<|pT Y<|dn<|⟨true,h,wR []⟩;obtain rfl:=O (V Gy);refine ww<|ww<|pT Y<|mv Y<|bE h λapK EW h=>?_;obtain rfl:=O (V EW);refine ww<|ww<|pT Y<|mv Y<|bE h λag8 EX h=>?_;obtain rfl:=O (V EX);exact ww<|ww<|pT Y<|dn<|⟨true,h,wR []⟩;obtain rfl:=O (V DR);refine ww<|ww<|pT Y<|mv Y<|bE h λapL Yo h=>?_;obtain rfl:=O (V Yo);refine ww<|ww<|pT Y<|mv Y<|bE h λapO Yp h=>?_;obtain rfl:=O (V Yp);refine ww<|ww<|pT Y<|mv Y<|bE h λag9 Yq h=>?_;obtain rfl:=O (V Yq);exact ww<|ww<|pT Y<|dn<|⟨true,h,wR []⟩;obtain rfl:=O (V zL);refine ww<|ww<|pT Y<|mv Y<|bE h λapP aha h=>?_;obtain rfl:=O (V aha);refine ww<|ww<|pT Y<|mv Y<|bE h λYr ahb h=>?_;obtain rfl:=O (V ahb);refine ww<|ww<|pT Y<|mv Y<|bE h λapQ ahc h=>?_;obtain rfl:=O (V ahc);refine ww<|ww<|pT Y<|mv Y<|bE h λapS apT h=>?_;obtain rfl:=O (V apT);exact ww<|ww<|pT Y<|dn<|⟨true,h,wR []⟩;refine aY.n ?_;cases SU;refine fs<|qq<|bf<|sr<|mv Y<|lE (F h) λA6 Lu h=>eq _ Y Y (yT (p:=LO) (q:=0) Lu)<|ag Y<|dn ?_;refine bU h (λj24=>AS.cz 53 [(2,ah j24.1),(3,ah j24.2)] [] []) (λh=>?_) (λj24 h=>?_);cases A6;refine cF<|sr<|mv Y<|lE (F h) λzo h46 h=>ls _ Y Y h46<|ag Y<|dn ?_;refine bU h (λj26=>AS.cz 53 [(2,ah j26.1),(3,ah j26.2)] [] []) (λh=>?_) (λj26 h=>?_);cases zo;exact fs<|⟨(NF,LO),(F h),wR []⟩;exact cT<|aZ<|mv Y<|lE (V h) λtD h48 h=>RT.neg .none _ Y T h48<|mv Y<|lE h λyU HY h=>RT.neg .none _ Y T HY<|ag Y<|ag Y<|dn<|⟨(tD,yU),h,wR []⟩;obtain⟨Ye,Yf⟩:=j26;exact aY.n<|⟨(Ye,Yf),h,wR []⟩;exact cT<|aZ<|ag Y<|dn<|⟨(NF,1),(V h),wR []⟩;obtain⟨PY,ad8⟩:=j24;refine bJ.n<|aY.n<|sr<|mv Y<|mv Y<|ag Y<|ag Y<|ag Y<|dn<|bj ?_;obtain rfl:=O h;exact RZ (.tmp Y (.tmp Y (.tmp Y (.nil))));refine cT<|sr<|ag Y<|ag Y<|ag Y<|dn<|bj<|aY.r ?_;obtain rfl:=O (V h);exact RZ (.tmp Y (.tmp Y (.tmp Y (.nil))))
theorem pL{x0:Int}{x1:Int}(N:Nat){r:Qr}(h:iT x0 x1=some r):dB af 135 N [ax x0,ax x1] (.agg ((fQ N) r)):=by
 refine bX Tryz.func135 Y (ae Y) (λdA M vs hN hvs=>?_);unfold iT at h;refine sr<|al (cs:=[ay false,nw N au,ay false,nw N au]) (by exact⟨aq,bw,aq,bw,ak⟩) Y<|dn<|sr<|mv Y<|mv Y<|ag Y<|ag Y<|dn<|qq<|bE h λe6 rJ iI=>?_;refine bM (λ(xl:Int)=>AS.cz 36 [(0,ah x0),(1,ah x1),(4,.ptr 4 0),(5,ah xl)] [(4,⟨43,[ai false,.sv (nw N au),ai false,.sv (nw N au)]⟩)] []) (λxl=>xl=e6) ?_ (λxl rK=>?_);refine bf<|bN rJ (λs6=>AS.cz 36 [(0,ah x0),(1,ah x1),(4,.ptr 4 0),(5,ah s6.1),(6,ah s6.2)] [(4,⟨43,[ai false,.sv (nw N au),ai false,.sv (nw N au)]⟩)] []) (wR []) (λs6 y6 G6 h rL nV=>?_);obtain⟨jc,mG⟩:=s6;refine qq<|sr<|mv Y<|lE h λdN gL h=>ne _ Y Y (Nh (p:=mG) (q:=0) gL)<|dn ?_;cases dN;refine aO ?_;cases O (F h);exact⟨jc,nV _ Y,wR []⟩;refine aP<|bf<|bh mixed<|mv Y<|mv Y<|mv Y<|bE (V h) λeL jZ h=>RT.rem .none _ Y Y T (agi jZ) (agj jZ)<|ag Y<|ag Y<|RT.done ⟨by kernel_rfl,?_⟩;refine bJ.n ?_;cases O h;exact aY.n ⟨(mG,eL),rL _ Y,wR []⟩;subst rK;refine aY.n<|qq<|sr<|mv Y<|lE iI λfD kS iI=>ls _ Y Y kS<|dn<|bU iI (λj8=>AS.cz 36 [(0,ah x0),(1,ah x1),(4,.ptr 4 0),(5,ah j8)] [(4,⟨43,[ai false,.sv (nw N au),ai false,.sv (nw N au)]⟩)] []) (λiI=>?_) (λVU iI=>?_);cases fD;exact fs<|⟨xl,(F iI),wR []⟩;exact cT<|aZ<|mv Y<|lE (V iI) λfe jB iI=>RT.neg .none _ Y T jB<|ag Y<|dn<|⟨fe,iI,wR []⟩;refine aY.n<|qq<|sr<|mv Y<|mv Y<|lE iI λfR j0 iI=>eq _ Y Y (yT (p:=VU) (q:=x1) j0)<|dn ?_;cases fR;refine fs<|qq<|bh mixed<|mv Y<|mv Y<|bE (F iI) λjd nW iI=>RT.quo .none _ Y Y T (nzI nW) (XA nW) ?_;obtain⟨⟨sQ,sS⟩,Ar,iI⟩:=bS iI;refine RT.cf .none (gA N Ar) hN Y ⟨Y,ak⟩ T<|mv Y<|mv Y<|bE iI λpz yc iI=>RT.quo .none _ Y Y T (nzI yc) (XA yc) ?_;obtain⟨⟨qO,qP⟩,Aq,iI⟩:=bS iI;refine RT.cf .none (gA N Aq) hN Y ⟨Y,ak⟩ T<|bI (cs:=[_,_,_,_]) (cs':=[ay sQ,nw N (aM 1 bk sS),ay qO,nw N (aM 1 bk qP)]) (.agg Y (.agg Y (.nil))) ⟨aq,aq,aq,aq,ak⟩<|so Y Y Y<|RT.done ⟨by kernel_rfl,?_⟩;refine aY.n<|bj ?_;cases O iI;exact RZ (.agg Y Y (.k4 Y Y Y Y) Y (.nil));refine cT<|sr<|mv Y<|mv Y<|bE (V iI) λiv oO iI=>RT.quo .none _ Y Y T (nzI oO) (XA oO) ?_;obtain⟨⟨nO,nm⟩,oe,iI⟩:=bS iI;refine RT.cf .none (gA N oe) hN Y ⟨Y,ak⟩ T<|bI (cs:=[_,_,_,_]) (cs':=[ay nO,nw N (aM 1 bk nm),ay false,nw N au]) (.agg Y (.nil)) ⟨aq,aq,aq,bw,ak⟩<|so Y Y Y<|dn<|bj<|aY.r ?_;cases O iI;exact RZ (.agg Y Y (.k4 Y Y Y Y) Y (.nil))
theorem LQ{x0:Int}{x1:Int}{r:Qr}(h:iT x0 x1=some r):Pure af 135 [ax x0,ax x1] (.agg (eQ r)):=dK (λN=>pL N h) (λN=>(SV.eA (qI _ _)))
theorem NH{x0:Int}{r:Int}(h:yu x0=some r):Pure af 128 [ax x0] (ax r):=by
 refine bp Tryz.func128 Y (ae Y) (λdA M vs hvs=>?_);unfold yu at h;refine sr<|ag Y<|dn<|qq<|bf<|sr<|mv Y<|lE h λx5 h5 h=>ls _ Y Y h5<|ag Y<|dn ?_;cases x5;refine cF<|sr<|mv Y<|lE (F h) λx8 h8 h=>gt _ Y Y h8<|ag Y<|dn ?_;cases x8;refine cF<|bC<|bJ.n<|aY.n<|sr<|ag Y<|dn<|bj ?_;cases O (F h);exact R1 Y;refine cT<|sr<|ag Y<|dn<|bj<|bJ.r<|aY.r ?_;cases O (V h);exact R1 Y;refine cT<|sr<|ag Y<|dn<|bj<|bJ.r<|aY.r ?_;cases O (V h);exact R1 Y
theorem H7{x1:Qr}{x2:Qr}(N:Nat){r:Qr}(h:og x1 x2=some r):dB af 136 N [.v (.int .u8 ((43:Nat):Int)),.agg (eQ x1),.agg (eQ x2)] (.agg ((fQ N) r)):=by
 obtain⟨⟨cG,cC⟩,⟨eW,eX⟩⟩:=x1;obtain⟨⟨xj,xk⟩,⟨JC,JD⟩⟩:=x2;refine bX Tryz.func136 Y (ae Y) (λdA M vs hN hvs=>?_);unfold og at h;refine sr<|bx Y<|bx Y<|al (cs:=[ay false,nw N au,ay false,nw N au]) (by exact⟨aq,bw,aq,bw,ak⟩) Y<|dn<|sr<|ld Y Y (.k4 Y Y Y Y) ?_;obtain⟨⟨⟨pB,pC⟩,⟨ql,qm⟩⟩,jg,h⟩:=bS h;refine cl (gb jg) ⟨Y,ak⟩<|mv Y<|ex Y Y<|ex Y Y<|al (cs:=[ay false,nw N au]) (by exact⟨aq,bw,ak⟩) Y<|al (cs:=[ay false,nw N au]) (by exact⟨aq,bw,ak⟩) Y<|so Y Y Y<|so Y Y Y<|dn<|sr<|ld Y Y (.k4 Y Y Y Y) ?_;obtain⟨⟨⟨kJ,kK⟩,⟨oh,om⟩⟩,jB,h⟩:=bS h;refine cl (gb jB) ⟨Y,ak⟩<|mv Y<|ex Y Y<|ex Y Y<|al (cs:=[ay false,nw N au]) (by exact⟨aq,bw,ak⟩) Y<|al (cs:=[ay false,nw N au]) (by exact⟨aq,bw,ak⟩) Y<|so Y Y Y<|so Y Y Y<|dn<|qq<|bh mixed<|cl mS trivial<|mv Y<|RT.look .none [.func (.func 187) #[] #[]] Y Y Y T<|fl Y Y<|ld Y Y (.k2 Y Y)<|ld Y Y (.k2 Y Y)<|ld Y Y (.k2 Y Y)<|ld Y Y (.k2 Y Y) ?_;obtain⟨⟨⟨qo,qp⟩,⟨qt,qu⟩⟩,nW,h⟩:=bS h;refine RT.cf .none (BY N nW) hN Y ⟨Y,Y,Y,Y,ak⟩ T<|ex Y Y<|ex Y Y ?_;obtain⟨⟨⟨zC,yl⟩,⟨BU,BV⟩⟩,sL,h⟩:=bS h
 refine RT.cf .none ((ou N sL).w (args':=[_,_]) ⟨(SV.eA (show cc [ay qo,nw N (aM 1 bk qp)] _ from⟨aq,fG,ak⟩)),(SV.eA (show cc [ay qt,nw N (aM 1 bk qu)] _ from⟨aq,fG,ak⟩)),ak⟩) hN Y ⟨Y,Y,ak⟩ T<|so Y Y Y<|RT.done ⟨by kernel_rfl,?_⟩;refine aY.n<|bj ?_;cases O h;exact RZ (.agg Y Y (.k4 Y Y Y Y) Y (.nil))
theorem H8{x1:Qr}{x2:Qr}(N:Nat){r:Qr}(h:oq x1 x2=some r):dB af 136 N [.v (.int .u8 ((45:Nat):Int)),.agg (eQ x1),.agg (eQ x2)] (.agg ((fQ N) r)):=by
 obtain⟨⟨cG,cC⟩,⟨eW,eX⟩⟩:=x1;obtain⟨⟨xj,xk⟩,⟨JC,JD⟩⟩:=x2;refine bX Tryz.func136 Y (ae Y) (λdA M vs hN hvs=>?_);unfold oq at h;refine sr<|bx Y<|bx Y<|al (cs:=[ay false,nw N au,ay false,nw N au]) (by exact⟨aq,bw,aq,bw,ak⟩) Y<|dn<|sr<|ld Y Y (.k4 Y Y Y Y) ?_;obtain⟨⟨⟨pB,pC⟩,⟨ql,qm⟩⟩,jg,h⟩:=bS h;refine cl (gb jg) ⟨Y,ak⟩<|mv Y<|ex Y Y<|ex Y Y<|al (cs:=[ay false,nw N au]) (by exact⟨aq,bw,ak⟩) Y<|al (cs:=[ay false,nw N au]) (by exact⟨aq,bw,ak⟩) Y<|so Y Y Y<|so Y Y Y<|dn<|sr<|ld Y Y (.k4 Y Y Y Y) ?_;obtain⟨⟨⟨kJ,kK⟩,⟨oh,om⟩⟩,jB,h⟩:=bS h;refine cl (gb jB) ⟨Y,ak⟩<|mv Y<|ex Y Y<|ex Y Y<|al (cs:=[ay false,nw N au]) (by exact⟨aq,bw,ak⟩) Y<|al (cs:=[ay false,nw N au]) (by exact⟨aq,bw,ak⟩) Y<|so Y Y Y<|so Y Y Y<|dn<|qq<|bh mixed<|cl mS trivial<|mv Y<|RT.look .none [.func (.func 189) #[] #[]] Y Y Y T<|fl Y Y<|ld Y Y (.k2 Y Y)<|ld Y Y (.k2 Y Y)<|ld Y Y (.k2 Y Y)<|ld Y Y (.k2 Y Y) ?_;obtain⟨⟨⟨qo,qp⟩,⟨qt,qu⟩⟩,nW,h⟩:=bS h;refine RT.cf .none (BZ N nW) hN Y ⟨Y,Y,Y,Y,ak⟩ T<|ex Y Y<|ex Y Y ?_;obtain⟨⟨⟨zC,yl⟩,⟨BU,BV⟩⟩,sL,h⟩:=bS h
 refine RT.cf .none ((ou N sL).w (args':=[_,_]) ⟨(SV.eA (show cc [ay qo,nw N (aM 1 bk qp)] _ from⟨aq,fG,ak⟩)),(SV.eA (show cc [ay qt,nw N (aM 1 bk qu)] _ from⟨aq,fG,ak⟩)),ak⟩) hN Y ⟨Y,Y,ak⟩ T<|so Y Y Y<|RT.done ⟨by kernel_rfl,?_⟩;refine aY.n<|bj ?_;cases O h;exact RZ (.agg Y Y (.k4 Y Y Y Y) Y (.nil))
theorem H9{x1:Qr}{x2:Qr}(N:Nat){r:Qr}(h:ot x1 x2=some r):dB af 136 N [.v (.int .u8 ((42:Nat):Int)),.agg (eQ x1),.agg (eQ x2)] (.agg ((fQ N) r)):=by
 obtain⟨⟨cG,cC⟩,⟨eW,eX⟩⟩:=x1;obtain⟨⟨xj,xk⟩,⟨JC,JD⟩⟩:=x2;refine bX Tryz.func136 Y (ae Y) (λdA M vs hN hvs=>?_);unfold ot at h;refine sr<|bx Y<|bx Y<|al (cs:=[ay false,nw N au,ay false,nw N au]) (by exact⟨aq,bw,aq,bw,ak⟩) Y<|dn<|sr<|ld Y Y (.k4 Y Y Y Y) ?_;obtain⟨⟨⟨pB,pC⟩,⟨ql,qm⟩⟩,jg,h⟩:=bS h;refine cl (gb jg) ⟨Y,ak⟩<|mv Y<|ex Y Y<|ex Y Y<|al (cs:=[ay false,nw N au]) (by exact⟨aq,bw,ak⟩) Y<|al (cs:=[ay false,nw N au]) (by exact⟨aq,bw,ak⟩) Y<|so Y Y Y<|so Y Y Y<|dn<|sr<|ld Y Y (.k4 Y Y Y Y) ?_;obtain⟨⟨⟨kJ,kK⟩,⟨oh,om⟩⟩,jB,h⟩:=bS h;refine cl (gb jB) ⟨Y,ak⟩<|mv Y<|ex Y Y<|ex Y Y<|al (cs:=[ay false,nw N au]) (by exact⟨aq,bw,ak⟩) Y<|al (cs:=[ay false,nw N au]) (by exact⟨aq,bw,ak⟩) Y<|so Y Y Y<|so Y Y Y<|dn<|qq<|bh mixed<|cl mS trivial<|mv Y<|RT.look .none [.func (.func 191) #[] #[]] Y Y Y T<|fl Y Y<|ld Y Y (.k2 Y Y)<|ld Y Y (.k2 Y Y)<|ld Y Y (.k2 Y Y)<|ld Y Y (.k2 Y Y) ?_;obtain⟨⟨⟨qo,qp⟩,⟨qt,qu⟩⟩,nW,h⟩:=bS h;refine RT.cf .none (B3 N nW) hN Y ⟨Y,Y,Y,Y,ak⟩ T<|ex Y Y<|ex Y Y ?_;obtain⟨⟨⟨zC,yl⟩,⟨BU,BV⟩⟩,sL,h⟩:=bS h
 refine RT.cf .none ((ou N sL).w (args':=[_,_]) ⟨(SV.eA (show cc [ay qo,nw N (aM 1 bk qp)] _ from⟨aq,fG,ak⟩)),(SV.eA (show cc [ay qt,nw N (aM 1 bk qu)] _ from⟨aq,fG,ak⟩)),ak⟩) hN Y ⟨Y,Y,ak⟩ T<|so Y Y Y<|RT.done ⟨by kernel_rfl,?_⟩;refine aY.n<|bj ?_;cases O h;exact RZ (.agg Y Y (.k4 Y Y Y Y) Y (.nil))
theorem Ia{x1:Qr}{x2:Qr}(N:Nat){r:Qr}(h:mm x1 x2=some r):dB af 136 N [.v (.int .u8 ((47:Nat):Int)),.agg (eQ x1),.agg (eQ x2)] (.agg ((fQ N) r)):=by
 obtain⟨⟨cG,cC⟩,⟨eW,eX⟩⟩:=x1;obtain⟨⟨xj,xk⟩,⟨JC,JD⟩⟩:=x2;refine bX Tryz.func136 Y (ae Y) (λdA M vs hN hvs=>?_);unfold mm at h;refine sr<|bx Y<|bx Y<|al (cs:=[ay false,nw N au,ay false,nw N au]) (by exact⟨aq,bw,aq,bw,ak⟩) Y<|dn<|sr<|ld Y Y (.k4 Y Y Y Y) ?_;obtain⟨⟨⟨pB,pC⟩,⟨ql,qm⟩⟩,jg,h⟩:=bS h;refine cl (gb jg) ⟨Y,ak⟩<|mv Y<|ex Y Y<|ex Y Y<|al (cs:=[ay false,nw N au]) (by exact⟨aq,bw,ak⟩) Y<|al (cs:=[ay false,nw N au]) (by exact⟨aq,bw,ak⟩) Y<|so Y Y Y<|so Y Y Y<|dn<|sr<|ld Y Y (.k4 Y Y Y Y) ?_;obtain⟨⟨⟨kJ,kK⟩,⟨oh,om⟩⟩,jB,h⟩:=bS h;refine cl (gb jB) ⟨Y,ak⟩<|mv Y<|ex Y Y<|ex Y Y<|al (cs:=[ay false,nw N au]) (by exact⟨aq,bw,ak⟩) Y<|al (cs:=[ay false,nw N au]) (by exact⟨aq,bw,ak⟩) Y<|so Y Y Y<|so Y Y Y<|dn<|qq<|bh mixed<|cl mS trivial<|mv Y<|RT.look .none [.func (.func 192) #[] #[]] Y Y Y T<|fl Y Y<|ld Y Y (.k2 Y Y)<|ld Y Y (.k2 Y Y)<|ld Y Y (.k2 Y Y)<|ld Y Y (.k2 Y Y) ?_;obtain⟨⟨⟨qo,qp⟩,⟨qt,qu⟩⟩,nW,h⟩:=bS h;refine RT.cf .none (B4 N nW) hN Y ⟨Y,Y,Y,Y,ak⟩ T<|ex Y Y<|ex Y Y ?_;obtain⟨⟨⟨zC,yl⟩,⟨BU,BV⟩⟩,sL,h⟩:=bS h
 refine RT.cf .none ((ou N sL).w (args':=[_,_]) ⟨(SV.eA (show cc [ay qo,nw N (aM 1 bk qp)] _ from⟨aq,fG,ak⟩)),(SV.eA (show cc [ay qt,nw N (aM 1 bk qu)] _ from⟨aq,fG,ak⟩)),ak⟩) hN Y ⟨Y,Y,ak⟩ T<|so Y Y Y<|RT.done ⟨by kernel_rfl,?_⟩;refine aY.n<|bj ?_;cases O h;exact RZ (.agg Y Y (.k4 Y Y Y Y) Y (.nil))
theorem Ib{x1:Qr}{x2:Qr}{r:Qr}(h:mm x1 x2=some r):Pure af 136 [.v (.int .u8 ((47:Nat):Int)),.agg (eQ x1),.agg (eQ x2)] (.agg (eQ r)):=dK (λN=>Ia N h) (λN=>(SV.eA (qI _ _)))
end
end Go.Proofs.YtningmnklfpfjaaGreat
