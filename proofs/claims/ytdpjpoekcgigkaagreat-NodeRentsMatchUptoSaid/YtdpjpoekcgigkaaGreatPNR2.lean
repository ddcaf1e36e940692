/- A part of the proof: the framework, the plain functions, the followed functions, the plain laws. -/
import Derived.Test.YtdpjpoekcgigkaaGreatPNR1
set_option linter.unusedVariables false
set_option linter.unusedSimpArgs false
set_option linter.unusedSectionVars false
namespace Go.Fw
section
open Go.RowKit
def cj{J R:Type}(k:J->Option R)(f:(J->Option R)->Option R):Option R:=f k
theorem bind_some{α β:Type}{x:Option α}{f:α->Option β}{r:β}(h:Option.bind x f=some r):∃a,x=some a/\f a=some r:=by
 cases x with
 |none=>cases h
 |some a=>exact⟨a,Y,h⟩
theorem sk{b w:Bool}(h:(b==w)=false):b≠w:=by cases b<;>cases w<;>simp_all
def cm{α:Type}(l:List α)(i:Int):Option α:=if 0<=i then l[i.toNat]? else none
def vh{α:Type}(l:List α)(i:Int):Option Nat:=if 0<=i/\i<l.length then some i.toNat else none
def wS{α:Type}(l:List α)(lo hi:Int):Option (List α):=if 0<=lo/\lo<=hi/\hi<=l.length then some (cut l lo.toNat hi.toNat)else none
def wU{α:Type}(by_:Nat)(l k:List α):Option (List α):=if(l.length+k.length)*by_<=140737488355328/\l.length+k.length<=140737488355328 then some (l++k)else none
def DT{α:Type}(by_:Nat)(c:Int)(z:α):Option (List α):=if 0<=c/\by_*c<=281474976710656/\c<=140737488355328 then some (List.replicate c.toNat z)else none
def KE{α:Type}(by_:Nat)(c:Int):Option (List α):=if 0<=c/\by_*c<=281474976710656/\c<=140737488355328 then some []else none
def stM{α:Type}(l:List α)(n:Nat)(y:α):Option (List α):=if n<l.length then some (l.set n y)else none
def pP(a b:Int):Option Int:=if b=0 then none else some (IntKind.i64.wrap (a.tdiv b))
def zF(a b:Int):Option Int:=if b=0 then none else some (a.tmod b)
def A7(M a b:Nat):Option Nat:=if b=0 then none else some (a/b%M)
def zG(a b:Nat):Option Nat:=if b=0 then none else some (a%b)
def mW(M a b:Nat):Nat:=(((a:Int)-b)%M).toNat
theorem oe{α:Type}{l:List α}{i:Int}{a:α}(h:cm l i=some a):0<=i/\l[i.toNat]? =some a:=by
 unfold cm at h;split at h
 ·exact⟨by assumption,h⟩
 cases h
theorem HV{α:Type}{l:List α}{i:Int}{k:Nat}(h:vh l i=some k):0<=i/\i<l.length/\i.toNat=k:=by
 unfold vh at h;split at h
 ·rename_i hh;exact⟨hh.1,hh.2,Option.some.inj h⟩
 cases h
theorem Ah{α:Type}{l l':List α}{a b:Int}(h:wS l a b=some l'):0<=a/\a<=b/\b<=l.length/\cut l a.toNat b.toNat=l':=by
 unfold wS at h;split at h
 ·rename_i hh;exact⟨hh.1,hh.2.1,hh.2.2,Option.some.inj h⟩
 cases h
theorem tv{α:Type}{by_:Nat}{l k l':List α}(h:wU by_ l k=some l'):(l.length+k.length)*by_<=140737488355328/\l.length+k.length<=140737488355328/\l++k=l':=by
 unfold wU at h;split at h
 ·rename_i hh;exact⟨hh.1,hh.2,Option.some.inj h⟩
 cases h
theorem HW{α:Type}{by_:Nat}{c:Int}{z:α}{l':List α}(h:DT by_ c z=some l'):0<=c/\by_*c<=281474976710656/\c<=140737488355328/\List.replicate c.toNat z=l':=by
 unfold DT at h;split at h
 ·rename_i hh;exact⟨hh.1,hh.2.1,hh.2.2,Option.some.inj h⟩
 cases h
theorem HX{α:Type}{by_:Nat}{c:Int}{l':List α}(h:KE by_ c=some l'):0<=c/\by_*c<=281474976710656/\c<=140737488355328/\[]=l':=by
 unfold KE at h;split at h
 ·rename_i hh;exact⟨hh.1,hh.2.1,hh.2.2,Option.some.inj h⟩
 cases h
theorem Cp{α:Type}{l l':List α}{n:Nat}{y:α}(h:stM l n y=some l'):n<l.length/\l.set n y=l':=by
 unfold stM at h;split at h
 ·rename_i hh;exact⟨hh,Option.some.inj h⟩
 cases h
def mu{S E:Type}(body:S->Option (S⊕E)):Nat->S->Option E
 |0,_=>none
 |n+1,s=>match body s with
  |some (.inl s')=>mu body n s'
  |some (.inr e)=>some e
  |none=>none
theorem sg{S E:Type}{body:S->Option (S⊕E)}:∀{n m:Nat} {s:S} {e:E},n<=m->mu body n s=some e->mu body m s=some e
 |0,_,_,_,_,h=>by cases h
 |n+1,0,_,_,hm,_=>by omega
 |n+1,m+1,s,e,hm,h=>by
  unfold mu at h⊢;cases hb:body s with
  |none=>rw[hb]at h;cases h
  |some y=>
   rw[hb]at h;cases y with
   |inl s'=>exact sg (by omega) h
   |inr e'=>exact h
open Classical in
noncomputable def b9{S E:Type}(body:S->Option (S⊕E))(s:S):Option E:=if h:∃n e,mu body n s=some e then some (Classical.choose (Classical.choose_spec h))else none
theorem si{S E:Type}{body:S->Option (S⊕E)}{s:S}{e:E}(h:b9 body s=some e):∃n,mu body n s=some e:=by
 unfold b9 at h;split at h
 ·rename_i hh;exact⟨_,by rw[<-Option.some.inj h];exact Classical.choose_spec (Classical.choose_spec hh)⟩
 cases h
theorem yc{S E:Type}{body:S->Option (S⊕E)}{s:S}{e:E}{n:Nat}(h:mu body n s=some e):b9 body s=some e:=by
 have hh:∃n e,mu body n s=some e:=⟨n,e,h⟩;unfold b9;rw[dif_pos hh];have h2:=Classical.choose_spec (Classical.choose_spec hh);have h3:=sg (Nat.le_max_left n (Classical.choose hh)) h;have h4:=sg (Nat.le_max_right n (Classical.choose hh)) h2;rw[h3]at h4;exact h4.symm
theorem sj{S E:Type}{body:S->Option (S⊕E)}{s:S}{e:E}(h:body s=some (.inr e)):b9 body s=some e:=yc (n:=1) (by simp[mu,h])
theorem yd{S E:Type}{body:S->Option (S⊕E)}{s s':S}(h:body s=some (.inl s')):b9 body s=b9 body s':=by
 cases hl:b9 body s' with
 |some e=>obtain⟨n,hn⟩:=si hl;exact yc (n:=n+1) (by simp[mu,h,hn])
 |none=>
  cases hl2:b9 body s with
  |none=>rfl
  |some e=>
   obtain⟨n,hn⟩:=si hl2;cases n with
   |zero=>cases hn
   |succ n=>simp only[mu,h]at hn;rw[yc hn]at hl;cases hl
theorem vi{S E:Type}{body:S->Option (S⊕E)}(I:S->Prop)(Post:E->Prop)(μ:S->Nat)
  (step:∀s,I s->(∃s',body s=some (.inl s')/\I s'/\μ s'<μ s)\/(∃e,body s=some (.inr e)/\Post e)) {s:S} (h:I s):∃e,b9 body s=some e/\Post e:=by
 have key:∀(n:Nat) (s:S),μ s<=n->I s->∃e,b9 body s=some e/\Post e:=by
  intro n
  induction n with
  |zero=>
   intro s hn hs;rcases step s hs with⟨s',_,_,h3⟩|⟨e,h1,h2⟩
   ·omega
   exact⟨e,sj h1,h2⟩
  |succ n ih=>
   intro s hn hs;rcases step s hs with⟨s',h1,h2,h3⟩|⟨e,h1,h2⟩
   ·obtain⟨e,q1,q2⟩:=ih s' (by omega) h2;exact⟨e,by rw[yd h1];exact q1,q2⟩
   exact⟨e,sj h1,h2⟩
 exact key _ s (Nat.le_refl _) h
theorem HY{S E:Type}{body:S->Option (S⊕E)}(st:Nat->S)(n:Nat){e:E}(hs:∀k,k<n->body (st k)=some (.inl (st (k+1))))(he:body (st n)=some (.inr e)):b9 body (st 0)=some e:=by
 have key:∀k,k<=n->b9 body (st (n-k))=some e:=by
  intro k
  induction k with
  |zero=>intro _;exact sj he
  |succ k ih=>
   intro hk;rw[yd (hs (n-(k+1)) (by omega)),show n-(k+1)+1=n-k by omega];exact ih (by omega)
 have:=key n (Nat.le_refl _);rwa[Nat.sub_self]at this
theorem uU{p q:Int}{c:Bool}(h:decide (p=q)=c):(p==q)=c:=by rw[<-h];exact Bool.beq_eq_decide_eq p q
theorem Kb{p q:Int}{c:Bool}(h:decide (p≠q)=c):(p != q)=c:=by rw[<-h,bne,Bool.beq_eq_decide_eq p q];simp
theorem UB{p q:Nat}{c:Bool}(h:decide (p=q)=c):((p:Int)==(q:Int))=c:=uU (by rw[<-h];simp[Int.natCast_inj])
theorem Sa{p q:Nat}{c:Bool}(h:decide (p≠q)=c):((p:Int) != (q:Int))=c:=Kb (by rw[<-h];simp[Int.natCast_inj])
theorem UC{p q:Nat}{c:Bool}(h:decide (p<q)=c):decide ((p:Int)<(q:Int))=c:=by rw[<-h];simp
theorem V7{p q:Nat}{c:Bool}(h:decide (p<=q)=c):decide ((p:Int)<=(q:Int))=c:=by rw[<-h];simp
theorem Sb{p q c:Int}(h:max p q=c):(if q>p then q else p)=c:=by rw[<-h];split<;>omega
theorem DU{p q c:Int}(h:min p q=c):(if q<p then q else p)=c:=by rw[<-h];split<;>omega
class UK (k:IntKind) (b:outParam Nat) (M:outParam Nat):Prop where
 w:∀x:Int,k.wrap x=x%M
 hb:k.bits=b
 hm:2^b=M
instance:UK .u8 8 256:=⟨λx=>by simp[IntKind.wrap,IntKind.signed,IntKind.bits],rfl,by decide⟩
instance:UK .u32 32 4294967296:=⟨λx=>by simp[IntKind.wrap,IntKind.signed,IntKind.bits],rfl,by decide⟩
instance:UK .u64 64 18446744073709551616:=⟨λx=>by simp[IntKind.wrap,IntKind.signed,IntKind.bits],rfl,by decide⟩
section uk
variable {k:IntKind}{bi M a b c:Nat}[u:UK k bi M]
include u
theorem UK.pos:0<M:=by rw[<-u.hm];exact Nat.two_pow_pos _
theorem UK.nat(h:a%M=c):k.wrap (a:Int)=(c:Int):=by rw[u.w,<-h,Int.natCast_emod]
theorem UK.add(h:(a+b)%M=c):k.wrap ((a:Int)+(b:Int))=(c:Int):=by rw[<-Int.natCast_add];exact UK.nat h
theorem UK.mul(h:(a*b)%M=c):k.wrap ((a:Int)*(b:Int))=(c:Int):=by rw[<-Int.natCast_mul];exact UK.nat h
theorem UK.sub(h:mW M a b=c):k.wrap ((a:Int)-(b:Int))=(c:Int):=by
 rw[u.w,<-h,mW,Int.toNat_of_nonneg];exact Int.emod_nonneg _ (by have:=UK.pos (k:=k) (bi:=bi) (M:=M);omega)
theorem UK.neg(h:mW M 0 a=c):k.wrap (0-(a:Int))=(c:Int):=UK.sub h
theorem UK.conv{p:Int}(h:(p%M).toNat=c):k.wrap p=(c:Int):=by
 rw[u.w,<-h,Int.toNat_of_nonneg];exact Int.emod_nonneg _ (by have:=UK.pos (k:=k) (bi:=bi) (M:=M);omega)
theorem UK.quo(h:A7 M a b=some c):k.wrap ((a:Int).tdiv (b:Int))=(c:Int):=by
 unfold A7 at h;split at h
 ·cases h
 rw[Int.tdiv_eq_ediv_of_nonneg (by omega),<-Int.natCast_ediv];exact UK.nat (Option.some.inj h)
theorem UK.Sc(h:a/b%M=c):k.wrap ((a:Int).tdiv (b:Int))=(c:Int):=by
 rw[Int.tdiv_eq_ediv_of_nonneg (by omega),<-Int.natCast_ediv];exact UK.nat h
theorem UK.shl{q:Int}{s:Nat}(hs:min q.toNat k.bits=s)(h:a*2^s%M=c):k.wrap ((a:Int)*2^(min q.toNat k.bits))=(c:Int):=by
 rw[hs,show(a:Int)*2^s=((a*2^s:Nat):Int) by rw[Int.natCast_mul,Int.natCast_pow];rfl];exact UK.nat h
theorem UK.ofInt(a:Nat):(BitVec.ofInt k.bits (a:Int)).toNat=a%M:=by
 rw[BitVec.ofInt_natCast,BitVec.toNat_ofNat,u.hb,u.hm]
theorem UK.or(h:(a ||| b)%M=c):k.wrap ((BitVec.ofInt k.bits (a:Int) ||| BitVec.ofInt k.bits (b:Int)).toNat)=(c:Int):=by
 rw[BitVec.toNat_or,UK.ofInt,UK.ofInt,<-u.hm,<-Nat.or_mod_two_pow,u.hm,h,UK.nat (a:=c) (c:=c)];rw[<-h,Nat.mod_mod]
end uk
theorem A8{k:IntKind}{a c s:Nat}{q:Int}(hs:min q.toNat k.bits=s)(h:a/2^s=c):(a:Int).fdiv (2^(min q.toNat k.bits))=(c:Int):=by
 rw[hs,Int.fdiv_eq_ediv_of_nonneg _ (Int.le_of_lt (Int.pow_pos (by decide))),<-h,Int.natCast_ediv,Int.natCast_pow];rfl
theorem KF{a b c:Nat}(h:zG a b=some c):(a:Int).tmod (b:Int)=(c:Int):=by
 unfold zG at h;split at h
 ·cases h
 rw[Int.tmod_eq_emod_of_nonneg (by omega),<-Option.some.inj h];rfl
theorem Mx{a b c:Nat}(h:a%b=c):(a:Int).tmod (b:Int)=(c:Int):=by
 rw[Int.tmod_eq_emod_of_nonneg (by omega),<-h];rfl
theorem V8{M a b c:Nat}(h:A7 M a b=some c):(b:Int)≠0:=by
 unfold A7 at h;split at h
 ·cases h
 omega
theorem UD{a b c:Nat}(h:zG a b=some c):(b:Int)≠0:=by
 unfold zG at h;split at h
 ·cases h
 omega
theorem Sd{a b c:Int}(h:pP a b=some c):b≠0:=by unfold pP at h;split at h<;>simp_all
theorem OD{a b c:Int}(h:zF a b=some c):b≠0:=by unfold zF at h;split at h<;>simp_all
theorem HZ{a b c:Int}(h:pP a b=some c):IntKind.i64.wrap (a.tdiv b)=c:=by
 unfold pP at h;split at h
 ·cases h
 exact Option.some.inj h
theorem OE{a b c:Int}(h:zF a b=some c):a.tmod b=c:=by
 unfold zF at h;split at h
 ·cases h
 exact Option.some.inj h
abbrev aX(x:Nat):List SV:=[.v (.int .u32 (x:Nat))]
abbrev V9(x:Int):List SV:=[.v (.int .i16 x)]
abbrev bB(x:Int):List SV:=[.v (.int .i64 x)]
abbrev eB(x:Bool):List SV:=[.v (.bool x)]
abbrev eS{α:Type}(n:Nat)(e:α->List SV)(l:List α):List SV:=[slc n (l.map e)]
structure Zr where
 neg:Bool
 w:List Nat
structure Qr where
 num:Zr
 den:Zr
abbrev eZ(z:Zr):List SV:=[.v (.bool z.neg),slc 1 (z.w.map aX)]
abbrev eQ(q:Qr):List SV:=[.v (.bool q.num.neg),slc 1 (q.num.w.map aX),.v (.bool q.den.neg),slc 1 (q.den.w.map aX)]
class EL {α:Type} (e:α->List SV) (n:outParam Nat):Prop where
 len:∀x,(e x).length=n
 one:∀x,pN (e x)
instance:EL aX 1:=⟨λ_=>rfl,λ_=>inferInstance⟩
instance:EL bB 1:=⟨λ_=>rfl,λ_=>inferInstance⟩
instance:EL eQ 4:=⟨λ_=>rfl,λ_=>inferInstance⟩
abbrev TR(E:TypeId)(sz:Nat){α:Type}(e:α->List SV)(l:List α):Row:=⟨E,sz,l.length,l.flatMap e⟩
theorem aB{α:Type}{n:Nat}{e:α->List SV}:SV.imp (.v (.slice none 0 0)) (slc n (([]:List α).map e)):=λ_ _ h=>.inl ⟨none,h,Y⟩
theorem qe{α:Type}(e:α->List SV)(l:List α):(l.map e).flatten=l.flatMap e:=by rw[List.flatMap_def]
theorem qf{α:Type}{e:α->List SV}{n:Nat}[h:EL e n](l:List α):Rows n (l.map e) (l.flatMap e):=⟨qe e l,λr hr=>by obtain⟨x,_,rfl⟩:=List.mem_map.1 hr;exact h.len x⟩
theorem Ai{M:Mem}:∀{l k:List SV} {vs:List Value},SV.eu M (l++k) vs->∃us ws,vs=us++ws/\SV.eu M l us/\SV.eu M k ws
 |[],_,vs,h=>⟨[],vs,Y,aq,h⟩
 |_::_,_,[],h=>h.elim
 |_::l,_,v::vs,h=>by
  obtain⟨us,ws,rfl,h1,h2⟩:=Ai (l:=l) h.2;exact⟨v::us,ws,Y,⟨h.1,h1⟩,h2⟩
theorem mJ{α:Type}{e:α->List SV}{n:Nat}[h:EL e n](l:List α):∀M vs,SV.eu M (l.flatMap e) vs->∀v∈vs,v.oneCell'=true:=by
 intro M
 induction l with
 |nil=>intro vs hv;cases vs with|nil=>simp|cons _ _=>exact hv.elim
 |cons x l ih=>
  intro vs hv;rw[List.flatMap_cons]at hv;obtain⟨us,ws,rfl,h1,h2⟩:=Ai hv;intro v hv;rcases List.mem_append.1 hv with hv|hv
  ·exact(h.one x).h M us h1 v hv
  exact ih ws h2 v hv
theorem Cq{α:Type}{e:α->List SV}{n:Nat}[h:EL e n]:∀{l:List α} {k:Nat} {a:α},l[k]? =some a->((l.flatMap e).drop (k*n)).take n=e a
 |[],_,_,hh=>by simp at hh
 |x::l,0,a,hh=>by
  simp only[List.getElem?_cons_zero,Option.some.injEq]at hh;subst hh;rw[List.flatMap_cons,Nat.zero_mul,List.drop_zero,<-h.len x,List.take_left'];rfl
 |x::l,k+1,a,hh=>by
  rw[List.getElem?_cons_succ]at hh;rw[List.flatMap_cons,show(k+1)*n=(e x).length+k*n by rw[h.len,Nat.add_mul];omega,<-List.drop_drop,List.drop_left']
  ·exact Cq hh
  rfl
theorem Cr{α:Type}{e:α->List SV}{n:Nat}[h:EL e n]{y:α}:∀{l:List α} {k:Nat},k<l.length->kE (l.flatMap e) (k*n) (e y)=(l.set k y).flatMap e:=by
 have Wa:∀(u:List SV) (a b:List SV) (j:Nat),j+u.length<=a.length->kE (a++b) j u=kE a j u++b:=by
  intro u
  induction u with
  |nil=>intro a b j _;rfl
  |cons s u ih=>
   intro a b j hj;simp only[List.length_cons]at hj;simp only[kE];rw[List.set_append_left _ _ (by omega),ih _ _ _ (by rw[List.length_set];omega)]
 have Wb:∀(u:List SV) (a b:List SV) (j:Nat),kE (a++b) (a.length+j) u=a++kE b j u:=by
  intro u
  induction u with
  |nil=>intro a b j;rfl
  |cons s u ih=>
   intro a b j;simp only[kE];rw[List.set_append_right _ _ (by omega),show a.length+j-a.length=j by omega,show a.length+j+1=a.length+(j+1) by omega,ih]
 have Wc:∀(u a:List SV),u.length=a.length->kE a 0 u=u:=by
  have gen:∀(u a p:List SV),u.length=a.length->kE (p++a) p.length u=p++u:=by
   intro u
   induction u with
   |nil=>intro a p ha;have:a=[]:=List.eq_nil_of_length_eq_zero ha.symm;subst this;rfl
   |cons s u ih=>
    intro a p ha;cases a with
    |nil=>cases ha
    |cons t a=>
     simp only[kE];rw[List.set_append_right _ _ (Nat.le_refl _),Nat.sub_self,List.set_cons_zero,show p++s::a=(p++[s])++a by simp,show p.length+1=(p++[s]).length by simp,ih a _ (by simpa using ha)];simp
  intro u a ha;exact gen u a [] ha
 intro l
 induction l with
 |nil=>intro k hk;simp at hk
 |cons x l ih=>
  intro k hk;cases k with
  |zero=>
   rw[List.set_cons_zero,List.flatMap_cons,List.flatMap_cons,Nat.zero_mul,Wa _ _ _ _ (by rw[h.len,h.len];omega),Wc _ _ (by rw[h.len,h.len])]
  |succ k=>
   simp only[List.length_cons]at hk;rw[List.set_cons_succ,List.flatMap_cons,List.flatMap_cons,show(k+1)*n=(e x).length+k*n by rw[h.len,Nat.add_mul];omega,Wb,ih (by omega)]
end
section
open Go.RowKit
section steps
variable {P:Program}{C:Ctx}{ops:Array Oper}{S:AS}{nd:Bool}{K:List Ac->AS->Prop}{rest:List Oper}{acc:List Ac}
variable {gd:Option (Nat×Bool)}{rg:List Nat}{d:Nat}{ty:TypeId}{pos:String}{aft:Array Edge}{x y z:Operand}{T U E0:TypeId}
variable {α:Type}{l l' k:List α}{e:α->List SV}{n by_:Nat}{zv:Value}
theorem RT.Wd(hg:Gd ops S gd rg){s X:SV}(hx:S.ev x=.sv s)(hi:SV.imp s X)(hd:d<S.n)
  (next:RunT P C ops nd K rest (⟨rg++aZ x,[],[],⟨some (d,.sv X),[],[]⟩⟩::acc) (S.set d (.sv X))):RunT P C ops nd K (⟨some d,.assign x,ty,pos,aft,gd⟩::rest) acc S:=
 RT.value hg (aZ x) [] [] (.sv X) hd (by intro c h;cases h) (λS' ht _ _ E a w h=>by
  have hx':S'.ev x=.sv s:=by rw[bt (λ_ h=>h) ht,hx]
  exact⟨a.eval x,Y,by have:=h.ev x;rw[hx']at this;exact hi _ _ this,fC⟩) next
theorem Gi{E:Env}:∀{l l':List SV} {vs:List Value},cH l l'->SV.eu E.M l vs->dx E (l'.map AV.sv) vs:=λhi h=>dx.vT (hi.holds h)
theorem A9(M:Mem):∀l:List Value,SV.eu M (l.map SV.v) l
 |[]=>trivial
 |_::l=>⟨Y,A9 M l⟩
theorem RT.sn(hg:Gd ops S gd rg)[tz:jZ P T zv]{cs:List SV}(hi:cH (zv.cells.toList.map SV.v) cs){av:List AV}(We:cs.map AV.sv=av)(hd:d<S.n)(hb:S.b d=none)(hp:C.iY d=none)
  (next:RunT P C ops nd K rest (⟨rg++[],[d],[],⟨some (d,.ptr d 0),[(d,⟨T,av⟩)],[]⟩⟩::acc) ((S.lX d ⟨T,av⟩).set d (.ptr d 0))):RunT P C ops nd K (⟨some d,.alloc T,ty,pos,aft,gd⟩::rest) acc S:=by
 subst We;exact RT.E6 hg (by intro c h;cases h) [] hd hb hp (λS' _ E a w h=>⟨zv.cells.toList,by simp[execOp,Instr.alloc,newVar,newRow,tz.run],Gi hi (A9 _ _),λy hy=>by
  obtain⟨s,_,rfl⟩:=List.mem_map.1 hy;exact fC⟩) next
theorem RT.OF(hg:Gd ops S gd rg){pl:List (Nat×Nat)}{zc:List Value}[tP:lj P T pl zc]{parts:Array (Nat×Operand)}{qs:List (Nat×List SV)}(hp:mm S parts.toList qs){cs cs':List SV}(hf:rN (λi=>pl[i]?) (zc.map SV.v) qs=some cs)(hi:cH cs cs')(hd:d<S.n)
  (next:RunT P C ops nd K rest (⟨rg++j1 parts.toList,[],[],⟨some (d,.sv (.agg cs')),[],[]⟩⟩::acc) (S.set d (.sv (.agg cs')))):RunT P C ops nd K (⟨some d,.build T parts,ty,pos,aft,gd⟩::rest) acc S:=by
 refine RT.value hg (j1 parts.toList) [] [] (.sv (.agg cs')) hd (by intro c h;cases h) (λS' ht _ _ E a w h=>?_) next
 have hu:=tP.h;cases hT:P.underlying T with
 |none=>rw[hT]at hu;cases hu
 |some u=>
  rw[hT]at hu;cases u with
  |struct fs=>
   simp only at hu;have hz:(zeroValue T).run P w=.ok (.agg ⟨zc⟩) w:=jZ.run (t:=⟨tP.hz⟩) w;obtain⟨us,h1,h2,_⟩:=xO h (λi=>pl[i]?) hp ht (cells:=zc.map SV.v) (vs:=zc) (A9 _ zc) (List.all_eq_true.1 tP.o) hf;refine⟨.agg ⟨us⟩,?_,⟨us,Y,hi.holds h2⟩,fC⟩;have hm:(fs.mapM (λf=>do pure (f.offset,<-sizeOf f.type):Field->Sem (Nat×Nat))).run P w=.ok pl.toArray w:=by
    have:=qc (P:=P) (w:=w) hu;rw[<-Array.toArray_toList (xs:=fs),List.mapM_toArray];rw[Sem.run_map,this];rfl
   have h1':Instr.fill (λi=>pl.toArray[i]?) ⟨zc⟩ (parts.toList.map λp=>(p.1,a.eval p.2))=some ⟨us⟩:=by simpa using h1
   simp only[execOp,Instr.build,underlying];simp only[Sem.run_bind,hz,Result.andThen_ok,run_program,hT,Sem.run_pure,Value.cells];have hm':(Array.mapM (λf=>do
     let __do_lift<-sizeOf f.type
     pure (f.offset,__do_lift)) fs:Sem _).run P w=.ok pl.toArray w:=hm
   simp only[hm',Result.andThen_ok];have e4:(Array.map (λx=>match x with|(i,x)=>(i,a.eval x)) parts).toList=parts.toList.map λp=>(p.1,a.eval p.2):=by simp
   simp only[e4,h1',Sem.run_pure,Result.andThen_ok]
  |_=>cases hu
theorem Pure.w{f:FuncId}{args args':List SV}{r:SV}(h:Pure P f args r)(hi:cH args' args):Pure P f args' r:=λM w vs hM hv=>h M w vs hM (hi.holds hv)
theorem RT.Se(hg:Gd ops S gd rg){m:Nat}[tS:ep P T E0 m]{c:Int}(hx:S.ev x=.sv (slc n (l.map e)))(hd:d<S.n)(hc:(l.length:Int)=c)
  (next:RunT P C ops nd K rest (⟨rg++aZ x,[],[],⟨some (d,.sv (.v (.int .i64 c))),[],[]⟩⟩::acc) (S.set d (.sv (.v (.int .i64 c))))):RunT P C ops nd K (⟨some d,.call ⟨.builtin .len,#[x],#[T]⟩,ty,pos,aft,gd⟩::rest) acc S:=
 RT.len hg hx hd (by rw[List.length_map,hc];exact next)
theorem RT.Sf(hg:Gd ops S gd rg){m:Nat}[tS:ep P T E0 m]{i:Nat}{E1:TypeId}{c:Int}(hx:S.ev x=.row i)(hR:S.r i=.live (TR E1 n e l))(hd:d<S.n)(hc:(l.length:Int)=c)
  (next:RunT P C ops nd K rest (⟨rg++aZ x,[],[i],⟨some (d,.sv (.v (.int .i64 c))),[],[]⟩⟩::acc) (S.set d (.sv (.v (.int .i64 c))))):RunT P C ops nd K (⟨some d,.call ⟨.builtin .len,#[x],#[T]⟩,ty,pos,aft,gd⟩::rest) acc S:=
 RT.VA hg hx hR hd (by show RunT _ _ _ _ _ _ (⟨_,_,_,⟨some (d,.sv (.v (.int .i64 (l.length:Int)))),_,_⟩⟩::_) (S.set d (.sv (.v (.int .i64 (l.length:Int)))));rw[hc];exact next)
theorem RT.Wf(hg:Gd ops S gd rg)[tS:ep P T E0 n]{kk:IntKind}{i:Int}{a:α}(hx:S.ev x=.sv (slc n (l.map e)))(hy:S.ev y=.sv (.v (.int kk i)))(hd:d<S.n)(ha:cm l i=some a)
  (next:RunT P C ops nd K rest (⟨rg++(aZ x++aZ y),[],[],⟨some (d,.sv (ref (e a))),[],[]⟩⟩::acc) (S.set d (.sv (ref (e a))))):RunT P C ops nd K (⟨some d,.indexAddr T x y,ty,pos,aft,gd⟩::rest) acc S:=
 RT.indexAddr hg (e a) hx hy hd (oe ha).1 (by rw[List.getElem?_map,(oe ha).2];rfl) next
theorem RT.ye(hg:Gd ops S gd rg)[tS:ep P T E0 n]{lo hi:Option Operand}(a b:Int)(hx:S.ev x=.sv (slc n (l.map e)))(hlo:xP S 0 lo a)(hhi:xP S l.length hi b)(hd:d<S.n)(h:wS l a b=some l')
  (next:RunT P C ops nd K rest (⟨rg++(aZ x++(mq lo++mq hi)),[],[],⟨some (d,.sv (slc n (l'.map e))),[],[]⟩⟩::acc) (S.set d (.sv (slc n (l'.map e))))):RunT P C ops nd K (⟨some d,.slice T x lo hi none,ty,pos,aft,gd⟩::rest) acc S:=by
 obtain⟨h0,h1,h2,h3⟩:=Ah h;exact RT.slice hg hx a b hlo (by rw[List.length_map];exact hhi) hd h0 h1 (by rw[List.length_map];exact h2) _ (by rw[Fb,h3]) next
theorem RT.kY(hg:Gd ops S gd rg)[tS:ep P T E0 n][tE:jU P E0 n by_ zv]{len:Nat}{parts:Array (Nat×Operand)}{qs:List (Nat×List SV)}(hp:mm S parts.toList qs)(hd:d<S.n)
  (hc:nQ 0 qs=true) (hl:qs.length=len) (hsz:(qs.all λq=>Nat.beq q.2.length n)=true) (hlen:Nat.ble (len*n) 16777216=true) (Gc:(zv.cells.toList.all λv=>v.oneCell')=true) (kH:qs.map (·.2)=l.map e)
  (next:RunT P C ops nd K rest (⟨rg++j1 parts.toList,[],[],⟨some (d,.sv (slc n (l.map e))),[],[]⟩⟩::acc) (S.set d (.sv (slc n (l.map e))))):RunT P C ops nd K (⟨some d,.buildSlice T len parts,ty,pos,aft,gd⟩::rest) acc S:=
 RT.buildSlice hg hp hd hc hl hsz (af hlen) (List.all_eq_true.1 Gc) kH next
theorem RT.Ba(hg:Gd ops S gd rg)[tS:ep P T E0 n][tE:jU P E0 n by_ zv]{len:Nat}{parts:Array (Nat×Operand)}{qs:List (Nat×List SV)}(hp:mm S parts.toList qs)(hd:d<S.n)(vc:S.r d=.un)(sV:d<1000)
  (hc:nQ 0 qs=true) (hl:qs.length=len) (hsz:(qs.all λq=>Nat.beq q.2.length n)=true) (hlen:Nat.ble (len*n) 16777216=true) (Gc:(zv.cells.toList.all λv=>v.oneCell')=true) (kH:qs.map (·.2)=l.map e)
  (next:RunT P C ops nd K rest (⟨rg++j1 parts.toList,[],[d],⟨some (d,.row d),[],[(d,.live (TR E0 n e l))]⟩⟩::acc) ((AS.cn [(d,.live (TR E0 n e l))] S).set d (.row d))):RunT P C ops nd K (⟨some d,.buildSlice T len parts,ty,pos,aft,gd⟩::rest) acc S:=by
 refine RT.Ck hg hp hd vc sV hc hl hsz (af hlen) (List.all_eq_true.1 Gc) (cells:=l.flatMap e) (by rw[kH,qe]) ?_;have:len=l.length:=by have h0:=congrArg List.length kH;simpa[hl]using h0
 rw[this];exact next
theorem RT.apR(hg:Gd ops S gd rg)[tS:ep P T E0 n][tE:jU P E0 n by_ zv]{i:Nat}(hx:S.ev x=.row i)(hR:S.r i=.live (TR E0 n e l))(hy:S.ev y=.sv (slc n (k.map e)))(hd:d<S.n)(vc:S.r d=.un)(sV:d<1000)(h:wU by_ l k=some l')
  (next:RunT P C ops nd K rest (⟨rg++(aZ x++aZ y),[],[i,d],⟨some (d,.row d),[],[(i,.dead),(d,.live (TR E0 n e l'))]⟩⟩::acc) ((AS.cn [(i,.dead),(d,.live (TR E0 n e l'))] S).set d (.row d))):RunT P C ops nd K (⟨some d,.call ⟨.builtin .append,#[x,y],#[T,T]⟩,ty,pos,aft,gd⟩::rest) acc S:=by
 obtain⟨h1,h2,rfl⟩:=tv h;exact RT.Ks hg hx hR hy hd vc sV (by simpa using h1) (by simpa using h2) _ (by simp[qe]) next
theorem RT.OG(hg:Gd ops S gd rg)[tS:ep P T E0 n][tE:jU P E0 n by_ zv][el:EL e n]{i:Nat}(hx:S.ev x=.row i)(hR:S.r i=.live (TR E0 n e l))(hy:S.ev y=.sv (slc n (k.map e)))(hd:d<S.n)(vc:S.r d=.un)(sV:d<1000)(h:wU by_ l k=some l')
  (next:RunT P C ops nd K rest (⟨rg++(aZ x++aZ y),[],[d,i],⟨some (d,.sv (slc n (l'.map e))),[],[(i,.dead),(d,.dead)]⟩⟩::acc) ((AS.cn [(i,.dead),(d,.dead)] S).set d (.sv (slc n (l'.map e))))):RunT P C ops nd K (⟨some d,.call ⟨.builtin .append,#[x,y],#[T,T]⟩,ty,pos,aft,gd⟩::rest) acc S:=by
 obtain⟨h1,h2,rfl⟩:=tv h;have hf:l.flatMap e++(k.map e).flatten=(l++k).flatMap e:=by simp[qe]
 exact RT.Fi hg (.row hx hR) hy hd vc sV (by simpa using h1) (by simpa using h2) _ (rows':=(l++k).map e) (λ_ _ h _=>h) (by rw[hf];exact qf _) (by simp) (by rw[hf];exact mJ _) next
theorem Aj(zc:Array Value)(n:Nat)(hz:zc.size=n)(hn:0<n):∀m:Nat,(madeCells zc (m*n)).toList=(List.replicate m zc.toList).flatten
 |0=>by simp[madeCells]
 |m+1=>by
  have ih:=Aj zc n hz hn m;rw[List.replicate_succ',List.flatten_append,<-ih];simp only[madeCells,Array.toList_map,Array.toList_range,List.flatten_cons,List.flatten_nil,List.append_nil];rw[show(m+1)*n=m*n+n by rw[Nat.add_mul];omega,List.range_add,List.map_append,List.map_map];congr 1;apply List.ext_getElem?;intro i;rw[List.getElem?_map];rcases Nat.lt_or_ge i n with hi|hi
  ·rw[List.getElem?_range hi];simp only[Option.map_some,Function.comp];rw[hz,Nat.mul_comm m n,Nat.mul_add_mod,Nat.mod_eq_of_lt hi];rw[getElem!_pos zc i (by omega),Array.getElem?_toList,Array.getElem?_eq_getElem (by omega)]
  rw[List.getElem?_eq_none (by simpa using hi),List.getElem?_eq_none (by simp;omega)];rfl
theorem Cs:∀{a b c d:List SV},cH a c->cH b d->cH (a++b) (c++d)
 |[],_,[],_,_,h=>h
 |_::_,_,_::_,_,h,h'=>⟨h.1,Cs h.2 h'⟩
 |[],_,_::_,_,h,_=>h.elim
 |_::_,_,[],_,h,_=>h.elim
theorem Ct{zl:List Value}{zz:α}(hi:cH (zl.map SV.v) (e zz)):∀m:Nat,cH ((List.replicate m zl).flatten.map SV.v) ((List.replicate m zz).flatMap e)
 |0=>trivial
 |m+1=>by
  rw[List.replicate_succ,List.replicate_succ,List.flatten_cons,List.map_append,List.flatMap_cons];exact Cs hi (Ct hi m)
theorem RT.tw(hg:Gd ops S gd rg)[tS:ep P T E0 n][tE:jU P E0 n by_ zv]{kl kc:IntKind}{c:Int}{zz:α}(hx:S.ev x=.sv (.v (.int kl c)))(hy:S.ev y=.sv (.v (.int kc c)))(hd:d<S.n)(vc:S.r d=.un)(sV:d<1000)(hz:zv.cells.size=n)(hn:0<n)(hi:cH (zv.cells.toList.map SV.v) (e zz))(hm:DT by_ c zz=some l')
  (next:RunT P C ops nd K rest (⟨rg++(aZ x++aZ y),[],[d],⟨some (d,.row d),[],[(d,.live (TR E0 n e l'))]⟩⟩::acc) ((AS.cn [(d,.live (TR E0 n e l'))] S).set d (.row d))):RunT P C ops nd K (⟨some d,.makeSlice T x y,ty,pos,aft,gd⟩::rest) acc S:=by
 obtain⟨h0,hroom,qa,rfl⟩:=HW hm;refine .inl ⟨_,[],[d],_,?_,next⟩;rintro S' hn' ht _ hr i a w L Q ho ⟨E,h⟩ hL;refine ct (C:=C) ho (hg.wanted h (λs hs=>ht s (List.mem_append_left _ hs)) Y) ?_;have h1:a.eval x=.int kl c:=by have h1:=h.ev x;rw[bt (λ_ h=>List.mem_append_right _ (List.mem_append_left _ h)) ht,hx]at h1;exact h1
 have h2:a.eval y=.int kc c:=by have h2:=h.ev y;rw[bt (λ_ h=>List.mem_append_right _ (List.mem_append_right _ h)) ht,hy]at h2;exact h2
 obtain⟨info,hii,hsz,hby,VG⟩:=jU.info (P:=P) (E:=E0) (n:=n) (by_:=by_) (z:=zv);obtain⟨m,rfl⟩:=Int.eq_ofNat_of_zero_le h0;have hb':info.bytes*m<=281474976710656:=by
  rw[hby];have:((by_*m:Nat):Int)<=281474976710656:=by rw[Int.natCast_mul];exact hroom
  omega
 obtain⟨w',q1,q2,q3⟩:=run_make_full (P:=P) w 0 T E0 info zv n tS.u hii VG hsz kl kc m hb' (by unfold maxLen;omega) (Nat.zero_le _);have hr':(execOp a.eval ⟨some d,.makeSlice T x y,ty,pos,aft,gd⟩).run P w=.ok (.value (.slice (some ⟨w.heap.size,0,none⟩) m m)) w':=by
  simp only[execOp,h1,h2];simp[q1]
 have Ga:S'.r d=.un:=by rw[hr d (by simp)];exact vc
 have e0:(m:Int).toNat=m:=by simp
 have hall:SV.eu E.M ((List.replicate m zz).flatMap e) (madeCells zv.cells (m*n)).toList:=by
  rw[Aj zv.cells n hz hn];exact cH.holds (l:=((List.replicate m zv.cells.toList).flatten.map SV.v)) (Ct hi m) (A9 _ _)
 have hlen:(List.replicate (m:Int).toNat zz).length=m:=by simp
 refine cu (C:=C) (by intro c h;cases h) hr' (hL _ _ ⟨_,(h.newRow Ga sV [] none (.inl ⟨rfl,rfl⟩) (R':=TR E0 n e (List.replicate (m:Int).toNat zz)) (by show w'.ownsRow 0 E0 n _ (List.replicate (m:Int).toNat zz).length _;rw[hlen];exact q2) (by rw[e0];exact hall) (.inr (.inl rfl)) q3).put (d:=d) (x:=.row d) (v:=.slice (some ⟨w.heap.size,0,none⟩) m m) (by simp[AV.holds]) (by show d<S'.n;omega) ⟨λ_ e=>e.elim,λj e=>?_⟩⟩);cases e;show(AS.rC S' d _).r d≠_;rw[AS.gV];simp
theorem RT.Fk(hg:Gd ops S gd rg)[tS:ep P T E0 n][tE:jU P E0 n by_ zv]{kl kc:IntKind}{c:Int}(hx:S.ev x=.sv (.v (.int kl 0)))(hy:S.ev y=.sv (.v (.int kc c)))(hd:d<S.n)(vc:S.r d=.un)(sV:d<1000)(h:KE (α:=α) by_ c=some l')
  (next:RunT P C ops nd K rest (⟨rg++(aZ x++aZ y),[],[d],⟨some (d,.row d),[],[(d,.live (TR E0 n e l'))]⟩⟩::acc) ((AS.cn [(d,.live (TR E0 n e l'))] S).set d (.row d))):RunT P C ops nd K (⟨some d,.makeSlice T x y,ty,pos,aft,gd⟩::rest) acc S:=by
 obtain⟨h0,h1,h2,rfl⟩:=HX h;exact RT.RF hg hx hy hd vc sV h0 h1 h2 next
theorem RT.Wg(hg:Gd ops S gd rg)[tS:ep P T E0 n]{i j:Nat}{E1:TypeId}{kk:IntKind}{v:Int}(hx:S.ev x=.row i)(hR:S.r i=.live (TR E1 n e l))(hy:S.ev y=.sv (.v (.int kk v)))(hd:d<S.n)(h:vh l v=some j)
  (next:RunT P C ops nd K rest (⟨rg++(aZ x++aZ y),[],[i],⟨some (d,.gZ i (j*n)),[],[]⟩⟩::acc) (S.set d (.gZ i (j*n)))):RunT P C ops nd K (⟨some d,.indexAddr T x y,ty,pos,aft,gd⟩::rest) acc S:=by
 obtain⟨h0,h1,h2⟩:=HV h;exact RT.ixR hg (.row hx hR) hy hd h0 h1 (j*n) (by rw[h2];omega) next
theorem RT.Sg(hg:Gd ops S gd rg)[tV:pS P T][el:EL e 1]{i j:Nat}{E1:TypeId}{a:α}{s:SV}(hx:S.ev x=.gZ i (j*1))(hR:S.r i=.live (TR E1 1 e l))(ha:l[j]? =some a)(hs:e a=[s])(hd:d<S.n)
  (next:RunT P C ops nd K rest (⟨rg++aZ x,[],[i],⟨some (d,.sv s),[],[]⟩⟩::acc) (S.set d (.sv s))):RunT P C ops nd K (⟨some d,.load T x,ty,pos,aft,gd⟩::rest) acc S:=by
 refine RT.ldR hg hx hR (s:=s) ?_ hd next
 have:=Cq (e:=e) ha;rw[hs]at this;have h2:=congrArg (·[0]?) this;simpa[List.getElem?_take]using h2
theorem KG(a:List SV)(k:Nat)(s:SV):a.set k s=kE a k [s]:=rfl
theorem RT.Wh(hg:Gd ops S gd rg)[tV:pS P T][el:EL e 1]{i j:Nat}{E1:TypeId}{s:SV}[o1:One s](a:α)(hs:e a=[s])(hx:S.ev x=.gZ i (j*1))(hR:S.r i=.live (TR E1 1 e l))(hy:S.ev y=.sv s)(h:stM l j a=some l')
  (next:RunT P C ops nd K rest (⟨rg++(aZ x++aZ y),[],[i],⟨none,[],[(i,.live (TR E1 1 e l'))]⟩⟩::acc) (AS.cn [(i,.live (TR E1 1 e l'))] S)):RunT P C ops nd K (⟨none,.store T x y,ty,pos,aft,gd⟩::rest) acc S:=by
 obtain⟨h1,rfl⟩:=Cp h;refine RT.stR hg hx hR hy (by show j*1+1<=l.length*1;omega) ((l.set j a).flatMap e) (by rw[KG,<-hs];exact Cr h1) ?_;have:(TR E1 1 e (l.set j a))=⟨E1,1,l.length,(l.set j a).flatMap e⟩:=by show Row.mk _ _ _ _=_;rw[List.length_set]
 rw[<-this];exact next
theorem RT.Sh(hg:Gd ops S gd rg)[tA:zy P T n][el:EL e n]{i j:Nat}{E1:TypeId}(a:α)(hx:S.ev x=.gZ i (j*n))(hR:S.r i=.live (TR E1 n e l))(hy:S.ev y=.sv (.agg (e a)))(h:stM l j a=some l')
  (next:RunT P C ops nd K rest (⟨rg++(aZ x++aZ y),[],[i],⟨none,[],[(i,.live (TR E1 n e l'))]⟩⟩::acc) (AS.cn [(i,.live (TR E1 n e l'))] S)):RunT P C ops nd K (⟨none,.store T x y,ty,pos,aft,gd⟩::rest) acc S:=by
 obtain⟨h1,rfl⟩:=Cp h;have o1:=el.one a;refine RT.VK hg hx hR hy (el.len a) (by show j*n+n<=l.length*n;have:=Nat.mul_le_mul_right n h1;rw[Nat.succ_mul]at this;exact this) ((l.set j a).flatMap e) (Cr h1) ?_;have:(TR E1 n e (l.set j a))=⟨E1,n,l.length,(l.set j a).flatMap e⟩:=by show Row.mk _ _ _ _=_;rw[List.length_set]
 rw[<-this];exact next
end steps
theorem jB{S:AS}{i n:Nat}{E1:TypeId}{α:Type}{e:α->List SV}{l:List α}[el:EL e n](hR:S.r i=.live (TR E1 n e l)):rD S (S.mh i (slc n (l.map e))):=by
 rintro C a w ⟨E,h⟩;have hlen:l.length<=9223372036854775807:=by
  obtain⟨⟨vs,ho,hv⟩,_⟩:=h.rx i _ hR;rcases ho.2 with⟨_,q2⟩|⟨g',cap,cur,q1,_,q2,q3,q4,q5,q6⟩
  ·have q2:l.length=0:=q2;omega
  have q3:l.length<=cap:=q3;have:maxLen=9223372036854775807:=by decide
  omega
 exact h.mh hR (qf l) (by rw[List.length_map]) hlen (mJ l) (λ_ _ h _=>h)
section control
variable {P:Program}{C:Ctx}{S:AS}{Q:Exit->AS->Prop}
theorem bG{A:Code}{J R:Type}{kB:J->Option R}{fA:(J->Option R)->Option R}{r:R}(h:cj kB fA=some r)(I:J->AS)
  (hA:fA kB=some r->Ok P C A S (aV (λS'=>∃j,kB j=some r/\rD S' (I j)) Q)) (hQ:∀j,kB j=some r->Q .normal (I j)):Ok P C A S Q:=λa w hs=>by
 refine wpIn_mono (hA h a w hs) ?_;rintro e a' w' ⟨S',q,hh⟩;cases e with
 |normal=>obtain⟨j,h1,h2⟩:=q;exact⟨_,hQ j h1,h2 C a' w' hh⟩
 |_=>exact⟨S',q,hh⟩
theorem bL{A:Code}{X:Type}(I:X->AS)(p:X->Prop)(hA:Ok P C A S (aV (λS'=>∃j,p j/\rD S' (I j)) Q))(hQ:∀j,p j->Q .normal (I j)):Ok P C A S Q:=λa w hs=>by
 refine wpIn_mono (hA a w hs) ?_;rintro e a' w' ⟨S',q,hh⟩;cases e with
 |normal=>obtain⟨j,h1,h2⟩:=q;exact⟨_,hQ j h1,h2 C a' w' hh⟩
 |_=>exact⟨S',q,hh⟩
theorem bM{c:Code}{T E:Type}{body:T->Option (T⊕E)}{s0:T}{e:E}(h:b9 body s0=some e)(I:T->AS)(h0:rD S (I s0))
  (round:∀(s:T) (y:T⊕E) (G:T->Prop),body s=some y->(∀s',y=.inl s'->G s')->(∀e',y=.inr e'->e'=e)->Ok P C c (I s) (aV (λS'=>∃s',G s'/\rD S' (I s')) Q)):Ok P C (.loop c) S Q:=by
 obtain⟨n,hn⟩:=si h;refine AT (ι:={x:T×Nat//mu body x.2 x.1=some e}) (λx=>I x.1.1) (λx=>x.1.2) ⟨(s0,n),hn⟩ h0 ?_;rintro⟨⟨s,m⟩,hm⟩;cases m with
 |zero=>cases hm
 |succ m=>
  cases hb:body s with
  |none=>simp only[mu,hb]at hm;cases hm
  |some y=>
   refine AR (round s y (λs'=>mu body m s'=some e) hb ?_ ?_) ?_
   ·rintro s' rfl;simpa only[mu,hb]using hm
   ·rintro e' rfl;simp only[mu,hb]at hm;exact Option.some.inj hm
   intro ex S' q;cases ex with
   |normal=>obtain⟨s',h1,h2⟩:=q;exact⟨⟨(s',m),h1⟩,Nat.lt_succ_self m,h2⟩
   |_=>exact q
end control
end
section
open Go.RowKit
abbrev KH:=List UInt8
def bs(l:KH):ByteArray:=⟨⟨l⟩⟩
def rP(l:KH)(i:Int):Option Nat:=(cm l i).map UInt8.toNat
theorem KI(l:KH):(bs l).size=l.length:=rfl
theorem OH(l:KH)(i:Nat):(bs l)[i]? =l[i]? :=by
 rcases Nat.lt_or_ge i l.length with h|h
 ·rw[getElem?_pos (bs l) i h,List.getElem?_eq_getElem h];rfl
 rw[getElem?_neg (bs l) i (by rw[KI];omega),List.getElem?_eq_none h]
section steps
variable {P:Program}{C:Ctx}{ops:Array Oper}{S:AS}{nd:Bool}{K:List Ac->AS->Prop}{rest:List Oper}{acc:List Ac}
variable {gd:Option (Nat×Bool)}{rg:List Nat}{d:Nat}{ty:TypeId}{pos:String}{aft:Array Edge}{x y z:Operand}{T U E0:TypeId}
variable {l l' k:KH}
theorem RT.skV{op:Op}{j g:Nat}{b want:Bool}(h1:(ops[j]?).bind (·.dst)=some g)(h2:S.t g=.sv (.v (.bool b)))(hb:b≠want)(hd:d<S.n)
  (next:RunT P C ops nd K rest (⟨[g],[],[],⟨some (d,.sv (.v undef)),[],[]⟩⟩::acc) (S.set d (.sv (.v undef)))):RunT P C ops nd K (⟨some d,op,ty,pos,aft,some (j,want)⟩::rest) acc S:=by
 refine .inl ⟨[g],[],[],⟨some (d,.sv (.v undef)),[],[]⟩,?_,next⟩;rintro S' hn ht _ _ i a w L Q ho ⟨E,h⟩ hL;have hv:=h.tm g;rw[ht g (by simp),h2]at hv;have hv:a.tmps.getD g undef=.bool b:=hv;have F5:a.tmps[g]? =some (.bool b):=by
  rw[Array.getD_eq_getD_getElem?]at hv;cases e:a.tmps[g]? with
  |none=>rw[e]at hv;simp[undef]at hv
  |some x=>rw[e]at hv;simp at hv;rw[hv]
 have hw:Region.wanted ⟨some d,op,ty,pos,aft,some (j,want)⟩ (yielded ops a.tmps)=false:=by
  simp[Region.wanted,yielded,h1,F5,hb]
 simp only[wpOpIn,ho,hw];exact⟨λ_ _=>trivial,hL _ _ ⟨E,h.put (x:=.sv (.v undef)) (v:=undef) Y (by omega) ⟨λ_ h=>h.elim,λ_ h=>h.elim⟩⟩⟩
theorem RT.Si{op:Op}{j g:Nat}{want:Bool}(h1:(ops[j]?).bind (·.dst)=some g)(h2:S.t g=.sv (.v undef))(hd:d<S.n)
  (next:RunT P C ops nd K rest (⟨[g],[],[],⟨some (d,.sv (.v undef)),[],[]⟩⟩::acc) (S.set d (.sv (.v undef)))):RunT P C ops nd K (⟨some d,op,ty,pos,aft,some (j,want)⟩::rest) acc S:=by
 refine .inl ⟨[g],[],[],⟨some (d,.sv (.v undef)),[],[]⟩,?_,next⟩;rintro S' hn ht _ _ i a w L Q ho ⟨E,h⟩ hL;have hv:=h.tm g;rw[ht g (by simp),h2]at hv;have hv:a.tmps.getD g undef=undef:=hv;rw[Array.getD_eq_getD_getElem?]at hv;have hw:Region.wanted ⟨some d,op,ty,pos,aft,some (j,want)⟩ (yielded ops a.tmps)=false:=by
  cases e:a.tmps[g]? with
  |none=>simp[Region.wanted,yielded,h1,e]
  |some x=>
   rw[e]at hv;simp only[Option.getD_some]at hv;subst hv;simp[Region.wanted,yielded,h1,e,undef]
 simp only[wpOpIn,ho,hw];exact⟨λ_ _=>trivial,hL _ _ ⟨E,h.put (x:=.sv (.v undef)) (v:=undef) Y (by omega) ⟨λ_ h=>h.elim,λ_ h=>h.elim⟩⟩⟩
theorem RT.six(hg:Gd ops S gd rg)[tS:Mk P T]{kk:IntKind}{i:Int}{c:Nat}(hx:S.ev x=.sv (.v (.string (bs l))))(hy:S.ev y=.sv (.v (.int kk i)))(hd:d<S.n)(h:rP l i=some c)
  (next:RunT P C ops nd K rest (⟨rg++(aZ x++aZ y),[],[],⟨some (d,.sv (.v (.int .u8 (c:Nat)))),[],[]⟩⟩::acc) (S.set d (.sv (.v (.int .u8 (c:Nat)))))):RunT P C ops nd K (⟨some d,.index T x y,ty,pos,aft,gd⟩::rest) acc S:=
 RT.DD hg (by intro c h;cases h) hx hy hd (λρ w h1 h2=>by
  unfold rP at h;cases hh:cm l i with
  |none=>rw[hh]at h;cases h
  |some b=>
   rw[hh]at h;obtain⟨q1,q2⟩:=oe hh;have q3:b.toNat=c:=Option.some.inj h;have q4:(bs l)[i.toNat]? =some b:=by rw[OH];exact q2
   simp[execOp,h1,h2,Instr.index,asIntOf,underlying,tS.h,q1,q4,q3]) next
end steps
section rows
variable {P:Program}{C:Ctx}{ops:Array Oper}{S:AS}{nd:Bool}{K:List Ac->AS->Prop}{rest:List Oper}{acc:List Ac}
variable {gd:Option (Nat×Bool)}{rg:List Nat}{d:Nat}{ty:TypeId}{pos:String}{aft:Array Edge}{x y z:Operand}{T U E0:TypeId}
variable {α:Type}{l l' k:List α}{e:α->List SV}{n by_:Nat}{zv:Value}
end rows
end
section
open Go.RowKit
def rQ{α:Type}(l l':List α):Option Unit:=if l'.length=l.length then some ()else none
theorem kP{α:Type}{l l':List α}{u:Unit}(h:rQ l l'=some u):l'.length=l.length:=by
 unfold rQ at h;split at h
 ·assumption
 cases h
def OI{α:Type}(l:List α)(lo hi:Int):Option (Nat×Nat):=if 0<=lo/\lo<l.length/\lo<=hi/\hi<=l.length then some (lo.toNat,(hi-lo).toNat)else none
theorem H6{α:Type}{l:List α}{lo hi:Int}{o n:Nat}(h:OI l lo hi=some (o,n)):0<=lo/\lo<l.length/\lo<=hi/\hi<=l.length/\lo.toNat=o/\(hi-lo).toNat=n:=by
 unfold OI at h;split at h
 ·rename_i hh;obtain⟨q1,q2⟩:=Prod.mk.inj (Option.some.inj h);exact⟨hh.1,hh.2.1,hh.2.2.1,hh.2.2.2,q1,q2⟩
 cases h
def Kc(o n:Nat)(i:Int):Option Nat:=if 0<=i/\i<n then some (o+i.toNat)else none
theorem H7{o n j:Nat}{i:Int}(h:Kc o n i=some j):0<=i/\i<n/\o+i.toNat=j:=by
 unfold Kc at h;split at h
 ·rename_i hh;exact⟨hh.1,hh.2,Option.some.inj h⟩
 cases h
theorem cH.get:∀{l l':List SV} {k:Nat} {s':SV},cH l l'->l'[k]? =some s'->∃s,l[k]? =some s/\SV.imp s s'
 |x::_,y::_,0,_,h,e=>⟨x,Y,by simp at e;subst e;exact h.1⟩
 |_::l,_::l',k+1,_,h,e=>by simpa using cH.get (l:=l) (l':=l') h.2 (by simpa using e)
 |[],[],_,_,_,e=>by simp at e
 |[],_::_,_,_,h,_=>h.elim
 |_::_,[],_,_,h,_=>h.elim
theorem cH.len:∀{l l':List SV},cH l l'->l'.length=l.length
 |[],[],_=>rfl
 |_::_,_::_,h=>congrArg (· +1) (cH.len h.2)
 |[],_::_,h=>h.elim
 |_::_,[],h=>h.elim
theorem KJ{α:Type}{e:α->List SV}{l:List α}{n:Nat}{M:Mem}{v:Value}(h:(slc n (l.map e)).h M v):l.length<=9223372036854775807:=by
 rcases h with⟨_,_,h⟩|⟨b,o,c,_,_,h,_⟩
 ·have:l=[]:=by simpa using h
  subst this;simp
 rwa[List.length_map]at h
theorem xm{α:Type}{e:α->List SV}{l:List α}{n:Nat}{M:Mem}{v:Value}(h:(ref [slc n (l.map e)]).h M v):l.length<=9223372036854775807:=by
 obtain⟨b,o,_,h⟩:=h;obtain⟨y,_,_,h⟩:=h 0 _ Y;exact KJ h
theorem sq{l:List Nat}{i:Nat}(h:l.length<=i):l.getD i 0=0:=by simp[List.getD,List.getElem?_eq_none h]
theorem qg{l:List Nat}{i:Nat}(h:i<l.length):l[i]? =some (l.getD i 0):=by simp[List.getD,h]
theorem nG{α:Type}{l:List α}{d:α}{i:Nat}(h:l.length<=i):l.getD i d=d:=by simp[List.getD,List.getElem?_eq_none h]
theorem iP{α:Type}{l:List α}{d:α}{i:Nat}(h:i<l.length):l[i]? =some (l.getD i d):=by simp[List.getD,h]
theorem yf{α β:Type}(a:List α)(b:List β)(i:Nat)(h:i<=max a.length b.length):(i<max a.length b.length/\i<a.length/\i<b.length)\/(i<max a.length b.length/\i<a.length/\b.length<=i)\/(i<max a.length b.length/\a.length<=i/\i<b.length)\/i=max a.length b.length:=by omega
section steps
variable {P:Program}{C:Ctx}{ops:Array Oper}{S:AS}{nd:Bool}{K:List Ac->AS->Prop}{rest:List Oper}{acc:List Ac}
variable {gd:Option (Nat×Bool)}{rg:List Nat}{d:Nat}{ty:TypeId}{pos:String}{aft:Array Edge}{x y z:Operand}{T U E0:TypeId}
variable {α:Type}{l l' k:List α}{e:α->List SV}{n by_:Nat}{zv:Value}
theorem OJ{E1:TypeId}(h:l'.length=l.length):(⟨E1,n,l.length,l'.flatMap e⟩:Row)=TR E1 n e l':=by show _=Row.mk _ _ _ _;rw[h]
theorem RT.OK(hg:Gd ops S gd rg){f:FuncId}[cY P f]{g:Operand}{xs:Array Operand}{at_:Array TypeId}{args:List AV}{E1:TypeId}{res:AV}(hp:DN P f args (TR E1 n e l) res (l'.flatMap e))(hlen:l'.length=l.length)(i:Nat)(hR:S.r i=.live (TR E1 n e l))(hrow:args.all AV.ve=true)(hres:res.ve=true)
  (hf:S.ev g=.sv (.v (.func (.func f) #[] #[]))) (hargs:A6 S xs.toList (args.map (AV.v7 i))) (hd:d<S.n)
  (next:RunT P C ops nd K rest (⟨rg++(aZ g++xs.toList.flatMap aZ),[],[i],⟨some (d,res.v7 i),[],[(i,.live (TR E1 n e l'))]⟩⟩::acc) ((AS.cn [(i,.live (TR E1 n e l'))] S).set d (res.v7 i))):RunT P C ops nd K (⟨some d,.call ⟨.value g,xs,at_⟩,ty,pos,aft,gd⟩::rest) acc S:=
 RT.RO hg hp i hR hrow hres hf hargs hd (by rw[OJ hlen];exact next)
theorem RT.Sj(hg:Gd ops S gd rg)[tS:ep P T E0 n]{i o m:Nat}{E1:TypeId}{lo hi:Option Operand}(a b:Int)(hx:S.ev x=.row i)(hR:S.r i=.live (TR E1 n e l))(hlo:xP S 0 lo a)(hhi:xP S l.length hi b)(hd:d<S.n)(h:OI l a b=some (o,m))
  (next:RunT P C ops nd K rest (⟨rg++(aZ x++(mq lo++mq hi)),[],[i],⟨some (d,.me i (o*n) m),[],[]⟩⟩::acc) (S.set d (.me i (o*n) m))):RunT P C ops nd K (⟨some d,.slice T x lo hi none,ty,pos,aft,gd⟩::rest) acc S:=by
 obtain⟨h0,h1,h2,h3,h4,h5⟩:=H6 h;exact RT.Ot hg (.row hx hR) a b hlo hhi hd h0 h1 h2 h3 (o*n) m (by rw[h4];omega) h5 next
theorem RT.OL(hg:Gd ops S gd rg){m:Nat}[tS:ep P T E0 m]{i o q:Nat}{c:Int}(hx:S.ev x=.me i o q)(hd:d<S.n)(hc:(q:Int)=c)
  (next:RunT P C ops nd K rest (⟨rg++aZ x,[],[],⟨some (d,.sv (.v (.int .i64 c))),[],[]⟩⟩::acc) (S.set d (.sv (.v (.int .i64 c))))):RunT P C ops nd K (⟨some d,.call ⟨.builtin .len,#[x],#[T]⟩,ty,pos,aft,gd⟩::rest) acc S:=
 RT.RN hg hx hd (by rw[hc];exact next)
theorem RT.Cu(hg:Gd ops S gd rg)[tS:ep P T E0 n]{i o q j:Nat}{kk:IntKind}{v:Int}(hx:S.ev x=.me i (o*n) q)(hy:S.ev y=.sv (.v (.int kk v)))(hd:d<S.n)(h:Kc o q v=some j)
  (next:RunT P C ops nd K rest (⟨rg++(aZ x++aZ y),[],[],⟨some (d,.gZ i (j*n)),[],[]⟩⟩::acc) (S.set d (.gZ i (j*n)))):RunT P C ops nd K (⟨some d,.indexAddr T x y,ty,pos,aft,gd⟩::rest) acc S:=by
 obtain⟨h0,h1,h2⟩:=H7 h;exact RT.ixR hg (.me hx) hy hd h0 h1 (j*n) (by rw[<-h2,Nat.add_mul]) next
end steps
def oQ{S:Type}(body:Nat->S->Option S):Nat->S->Option S
 |0,s=>some s
 |n+1,s=>(oQ body n s).bind (body n)
theorem qX{S:Type}{body:Nat->S->Option S}:∀{n:Nat} {s e:S},oQ body n s=some e->∃st:Nat->S,st 0=s/\(∀k,k<n->body k (st k)=some (st (k+1)))/\st n=e
 |0,s,e,h=>⟨λ_=>s,Y,λ_ h=>by omega,Option.some.inj h⟩
 |n+1,s,e,h=>by
  obtain⟨e1,h1,h2⟩:=bind_some (x:=oQ body n s) h;obtain⟨st,q1,q2,q3⟩:=qX h1;refine⟨λk=>if k=n+1 then e else st k,by simpa using q1,λk hk=>?_,by simp⟩;rcases Nat.lt_or_ge k n with hkn|hkn
  ·simpa[show k≠n+1 by omega,show k≠n by omega]using q2 k hkn
  obtain rfl:k=n:=by omega
  simpa[q3]using h2
theorem Ak{S:Type}{body:Nat->S->Option S}(st:Nat->S):∀(n:Nat),(∀k,k<n->body k (st k)=some (st (k+1)))->oQ body n (st 0)=some (st n)
 |0,_=>rfl
 |n+1,h=>by
  rw[oQ,Ak st n (λk hk=>h k (by omega))];exact h n (by omega)
end
section
open Go.RowKit
def H8(es:List (Value×Value)):SV where
 h M v:=∃b,v=.map (some b)/\M b 0=some (.tuple ⟨es.map λp=>.tuple #[p.1,p.2]⟩)
 mono hM h:=by obtain⟨b,e,h⟩:=h;exact⟨b,e,hM _ _ _ h⟩
class Fl (P:Program) (T:TypeId) (k:outParam TypeId) (e:outParam TypeId):Prop where
 u:P.underlying T=some (.map k e)
def Al(k:IntKind)(n:Int):List (Value×Value)->Option Value
 |[]=>none
 |(.int k' m,v)::l=>if k=k' then(if n=m then some v else Al k n l)else none
 |_::_=>none
theorem rR{k:IntKind}{n:Int}{v:Value}:∀(es:List MapEntry) (i:Nat),Al k n (es.map λe=>(e.key,e.val))=some v->∃j,Instr.findNow (.int k) (.int k n) es i=some (some (j,v))
 |[],_,h=>by simp[Al]at h
 |⟨key,val,born⟩::es,i,h=>by
  cases key with
  |int k' m=>
   simp only[List.map_cons,Al]at h;by_cases hk:k=k'
   ·subst hk;rw[if_pos rfl]at h;by_cases hn:n=m
    ·subst hn;rw[if_pos rfl]at h;cases h;exact⟨i,by simp[Instr.findNow,Instr.sameNow]⟩
    rw[if_neg hn]at h;obtain⟨j,hj⟩:=rR es (i+1) h;have hb:(n==m)=false:=by simp[hn]
    exact⟨j,by simp[Instr.findNow,Instr.sameNow,hb,hj]⟩
   rw[if_neg hk]at h;cases h
  |_=>simp[Al]at h
theorem Fm:∀(l:List (Value×Value)) (m:List MapEntry),l.map (λp=>Value.tuple #[p.1,p.2])=m.map (λe=>Value.tuple #[e.key,e.val])->m.map (λe=>(e.key,e.val))=l
 |[],[],_=>rfl
 |[],_::_,h=>by simp at h
 |_::_,[],h=>by simp at h
 |(p,q)::l,e::m,h=>by
  simp only[List.map_cons,List.cons.injEq,Value.tuple.injEq]at h⊢;refine⟨?_,Fm l m h.2⟩;have:=h.1;simp at this;rw[this.1,this.2]
theorem H9{es:Array MapEntry}{l:List (Value×Value)}(h:(⟨l.map λp=>.tuple #[p.1,p.2]⟩:Array Value)=Ki es):es.toList.map (λe=>(e.key,e.val))=l:=
 Fm l es.toList (congrArg Array.toList h)
theorem getM{P:Program}{w:World}{r:Nat}{es:Array MapEntry}{ck:Nat}(hb:w.heap[r]? =some (.map es ck)):(getObj r).run P w=.ok (.map es ck) w:=by simp[getObj,Sem.run,hb]
theorem Wi{P:Program}{w:World}{r:Nat}{es:Array MapEntry}{ck:Nat}(o:Obj)(hb:w.heap[r]? =some (.map es ck)):(setObj r o).run P w=.ok () {w with heap:=w.heap.setIfInBounds r o}:=by simp[setObj,Sem.run,hb]
theorem ckM{P:Program}{w:World}{kt:TypeId}{k:IntKind}[tI:jY P kt k]{n:Int}(bb:Bool):(Instr.checkKey bb 10000 kt (.int k n)).run P w=.ok () w:=by
 rw[show(10000:Nat)=9999+1 from rfl,Instr.checkKey];simp[underlying,tI.h]
theorem Ia{M:Mem}:∀l:List Value,SV.eu M (l.map SV.v) l
 |[]=>trivial
 |_::l=>⟨Y,Ia l⟩
section steps
variable {P:Program}{C:Ctx}{ops:Array Oper}{S:AS}{nd:Bool}{K:List Ac->AS->Prop}{rest:List Oper}{acc:List Ac}
variable {gd:Option (Nat×Bool)}{rg:List Nat}{d:Nat}{ty:TypeId}{pos:String}{aft:Array Edge}{x y z:Operand}{T U E0:TypeId}
theorem RT.look(hg:Gd ops S gd rg){kt et:TypeId}[tM:Fl P T kt et]{k:IntKind}[tI:jY P kt k]{es:List (Value×Value)}{n:Int}(cs:List Value)(hx:S.ev x=.sv (H8 es))(hy:S.ev y=.sv (.v (.int k n)))(hl:Al k n es=some (.agg ⟨cs⟩))(hd:d<S.n)
  (next:RunT P C ops nd K rest (⟨rg++(aZ x++aZ y),[],[],⟨some (d,.sv (.agg (cs.map SV.v))),[],[]⟩⟩::acc) (S.set d (.sv (.agg (cs.map SV.v))))):RunT P C ops nd K (⟨some d,.lookup T x y false,ty,pos,aft,gd⟩::rest) acc S:=
 RT.value hg (aZ x++aZ y) [] [] (.sv (.agg (cs.map SV.v))) hd (by intro c h;cases h) (λS' ht _ _ E a w h=>by
  have h1:=h.ev x;rw[bt (λ_ h=>List.mem_append_left _ h) ht,hx]at h1;have h2:a.eval y=.int k n:=by have h2:=h.ev y;rw[bt (λ_ h=>List.mem_append_right _ h) ht,hy]at h2;exact h2
  obtain⟨b,e,hb⟩:=h1;obtain⟨ms,ck,hm,he⟩:=h.dj _ _ _ hb;have he:=H9 he;rw[<-he]at hl;obtain⟨j,hj⟩:=rR ms.toList 0 hl;refine⟨.agg ⟨cs⟩,?_,⟨cs,Y,?_⟩,fC⟩
  ·have Wj:(Instr.findKey kt (.int k n) ms.toList).run P w=.ok (some (j,.agg ⟨cs⟩)) w:=by
    simp[Instr.findKey,underlying,tI.h,hj]
   simp[execOp,e,h2,Instr.lookup,underlying,tM.u,getM hm,ckM,Wj]
  exact Ia cs) next
def qh(w:World)(ms:Array MapEntry)(ck:Nat):World:=w.alloc (.map ms ck)
theorem vk(w:World)(ms:Array MapEntry)(ck:Nat):(qh w ms ck).heap[w.heap.size]? =some (.map ms ck):=by show(w.heap.push _)[w.heap.size]? =_;simp
theorem run_make{d:Option Nat}{ρ:Operand->Value}{w:World}:(execOp ρ ⟨d,.makeMap T none,ty,pos,aft,none⟩).run P w=.ok (.value (.map (some w.heap.size))) (qh w #[] 0):=by
 simp[execOp,Instr.makeMap,qh]
theorem xn{d:Option Nat}{kt et:TypeId}[tM:Fl P T kt et]{k:IntKind}[tI:jY P kt k]{ρ:Operand->Value}{w:World}{ms:Array MapEntry}{ck:Nat}{n:Int}{v:Value}(hx:ρ x=.map (some w.heap.size))(hy:ρ y=.int k n)(hz:ρ z=v)
  (hf:Instr.findNow (.int k) (.int k n) ms.toList 0=some none):(execOp ρ ⟨d,.insert T x y z,ty,pos,aft,none⟩).run P (qh w ms ck)=.ok .skip (qh w (ms.push ⟨.int k n,v,ck⟩) (ck+1)):=by
 have Wj:(Instr.findKey kt (.int k n) ms.toList).run P (qh w ms ck)=.ok none (qh w ms ck):=by
  simp[Instr.findKey,underlying,tI.h,hf]
 have Wk:∀o:Obj,{qh w ms ck with heap:=(qh w ms ck).heap.setIfInBounds w.heap.size o}=w.alloc o:=by
  intro o;simp only[qh,World.alloc];congr 1;apply Array.ext';simp
 simp[execOp,hx,hy,hz,Instr.mapUpdate,underlying,tM.u,getM (vk w ms ck),ckM,Wj,Wi _ (vk w ms ck)];exact Wk _
theorem xo{d:Option Nat}{z0:Value}[tP:lj P U [(0,1)] [z0]]{ρ:Operand->Value}{w:World}{v:Value}(hx:ρ x=v)(hv:v.oneCell'=true):(execOp ρ ⟨d,.build U #[(0,x)],ty,pos,aft,none⟩).run P w=.ok (.value (.agg #[v])) w:=by
 have hu:=tP.h;cases hT:P.underlying U with
 |none=>rw[hT]at hu;cases hu
 |some u=>
  rw[hT]at hu;cases u with
  |struct fs=>
   simp only at hu;have hz:(zeroValue U).run P w=.ok (.agg ⟨[z0]⟩) w:=jZ.run (t:=⟨tP.hz⟩) w;have hm:(fs.mapM (λf=>do pure (f.offset,<-sizeOf f.type):Field->Sem (Nat×Nat))).run P w=.ok #[(0,1)] w:=by
    have:=qc (P:=P) (w:=w) hu;rw[<-Array.toArray_toList (xs:=fs),List.mapM_toArray];rw[Sem.run_map,this];rfl
   simp only[execOp,Instr.build,underlying];simp only[Sem.run_bind,hz,Result.andThen_ok,run_program,hT,Sem.run_pure,Value.cells];have hm':(Array.mapM (λf=>do
     let __do_lift<-sizeOf f.type
     pure (f.offset,__do_lift)) fs:Sem _).run P w=.ok #[(0,1)] w:=hm
   simp only[hm',Result.andThen_ok];have h1':Instr.fill (λi=>(#[(0,1)]:Array (Nat×Nat))[i]?) ⟨[z0]⟩ [(0,v)]=some ⟨[v]⟩:=by
    simp[Instr.fill,gW hv]
    try rfl
   have e4:(Array.map (λx=>match x with|(i,x)=>(i,ρ x)) #[(0,x)]).toList=[(0,v)]:=by simp[hx]
   simp only[e4,h1',Sem.run_pure,Result.andThen_ok]
  |_=>cases hu
theorem KK{Q:Exit->AS->Prop}{id:Nat}{T U kt et t0:TypeId}[tM:Fl P T kt et]{k:IntKind}[tI:jY P kt k]{z0:Value}[tP:lj P U [(0,1)] [z0]]{f1 f2 f3 f4:FuncId}{n1 n2 n3 n4:Int}
  {p0 p1 p2 p3 p4 p5 p6 p7 p8 p9 p10:String} {a0 a1 a2 a3 a4 a5 a6 a7 a8 a9 a10:Array Edge} {u1 u2 u3 u4 u5 u6 u7 u8 u9:TypeId} (hn:7<=S.n)
  (h2:Instr.findNow (.int k) (.int k n2) [⟨.int k n1,.agg #[.func (.func f1) #[] #[]],0⟩] 0=some none)
  (h3:Instr.findNow (.int k) (.int k n3) [⟨.int k n1,.agg #[.func (.func f1) #[] #[]],0⟩,⟨.int k n2,.agg #[.func (.func f2) #[] #[]],1⟩] 0=some none)
  (h4:Instr.findNow (.int k) (.int k n4) [⟨.int k n1,.agg #[.func (.func f1) #[] #[]],0⟩,⟨.int k n2,.agg #[.func (.func f2) #[] #[]],1⟩,⟨.int k n3,.agg #[.func (.func f3) #[] #[]],2⟩] 0=some none)
  (hQ:∀S',S'.t 0=.sv (H8 [(.int k n1,.agg #[.func (.func f1) #[] #[]]),(.int k n2,.agg #[.func (.func f2) #[] #[]]),(.int k n3,.agg #[.func (.func f3) #[] #[]]),(.int k n4,.agg #[.func (.func f4) #[] #[]])])->Q .normal S'):
  Ok P C (.region id #[⟨some 1,.makeMap T none,t0,p0,a0,none⟩,⟨some 2,.build U #[(0,.func f1)],u1,p1,a1,none⟩,⟨none,.insert T (.tmp 1) (.const (.int k n1)) (.tmp 2),u2,p2,a2,none⟩,
   ⟨some 3,.build U #[(0,.func f2)],u3,p3,a3,none⟩,⟨none,.insert T (.tmp 1) (.const (.int k n2)) (.tmp 3),u4,p4,a4,none⟩,⟨some 4,.build U #[(0,.func f3)],u5,p5,a5,none⟩,⟨none,.insert T (.tmp 1) (.const (.int k n3)) (.tmp 4),u6,p6,a6,none⟩,
   ⟨some 5,.build U #[(0,.func f4)],u7,p7,a7,none⟩,⟨none,.insert T (.tmp 1) (.const (.int k n4)) (.tmp 5),u8,p8,a8,none⟩,⟨some 6,.move (.tmp 1),u9,p9,a9,none⟩,⟨some 0,.assign (.tmp 6),u9,p10,a10,none⟩] false) S Q:=by
 rintro a w ⟨E,h⟩;refine wpIn_region ?_;show wpOpsIn _ _ _ _ _ [0,1,2,3,4,5,6,7,8,9,10] a w;have hS:∀(S:AS) (d:Nat) (x:AV),(S.set d x).n=S.n:=λ_ _ _=>rfl;rw[wpOpsIn_cons];refine ct (C:=C) rfl rfl (cu (C:=C) (by intro c h;cases h) run_make ?_);have g1:=h.put (d:=1) (x:=.sv (.v (.map (some w.heap.size)))) (v:=.map (some w.heap.size)) Y (by omega) fC;show wpOpsIn _ _ _ _ _ _ (a.put (some 1) _) _;generalize a.put (some 1) (.map (some w.heap.size))=b1 at g1⊢;rw[wpOpsIn_cons];refine ct (C:=C) rfl rfl (cu (C:=C) (by intro c h;cases h) (xo rfl rfl) ?_);have g2:=g1.put (d:=2) (x:=.sv (.v (.agg #[.func (.func f1) #[] #[]]))) (v:=.agg #[.func (.func f1) #[] #[]]) Y (by rw[hS];omega) fC;show wpOpsIn _ _ _ _ _ _ (b1.put (some 2) (.agg #[.func (.func f1) #[] #[]])) _;generalize b1.put (some 2) (.agg #[.func (.func f1) #[] #[]])=b2 at g2⊢;rw[wpOpsIn_cons];refine ct (C:=C) rfl rfl (cu (C:=C) (by intro c h;cases h) (xn (k:=k) (n:=n1) (v:=.agg #[.func (.func f1) #[] #[]]) (g2.ev (.tmp 1)) rfl (g2.ev (.tmp 2)) rfl) ?_);show wpOpsIn _ _ _ _ _ _ (b2.put none undef) _;rw[show b2.put none undef=b2 from rfl,wpOpsIn_cons];refine ct (C:=C) rfl rfl (cu (C:=C) (by intro c h;cases h) (xo rfl rfl) ?_)
 have g3:=g2.put (d:=3) (x:=.sv (.v (.agg #[.func (.func f2) #[] #[]]))) (v:=.agg #[.func (.func f2) #[] #[]]) Y (by rw[hS,hS];omega) fC;show wpOpsIn _ _ _ _ _ _ (b2.put (some 3) (.agg #[.func (.func f2) #[] #[]])) _;generalize b2.put (some 3) (.agg #[.func (.func f2) #[] #[]])=b3 at g3⊢;rw[wpOpsIn_cons];refine ct (C:=C) rfl rfl (cu (C:=C) (by intro c h;cases h) (xn (k:=k) (n:=n2) (v:=.agg #[.func (.func f2) #[] #[]]) (g3.ev (.tmp 1)) rfl (g3.ev (.tmp 3)) (by simpa using h2)) ?_);show wpOpsIn _ _ _ _ _ _ (b3.put none undef) _;rw[show b3.put none undef=b3 from rfl,wpOpsIn_cons];refine ct (C:=C) rfl rfl (cu (C:=C) (by intro c h;cases h) (xo rfl rfl) ?_);have g4:=g3.put (d:=4) (x:=.sv (.v (.agg #[.func (.func f3) #[] #[]]))) (v:=.agg #[.func (.func f3) #[] #[]]) Y (by rw[hS,hS,hS];omega) fC;show wpOpsIn _ _ _ _ _ _ (b3.put (some 4) (.agg #[.func (.func f3) #[] #[]])) _;generalize b3.put (some 4) (.agg #[.func (.func f3) #[] #[]])=b4 at g4⊢;rw[wpOpsIn_cons];refine ct (C:=C) rfl rfl (cu (C:=C) (by intro c h;cases h) (xn (k:=k) (n:=n3) (v:=.agg #[.func (.func f3) #[] #[]]) (g4.ev (.tmp 1)) rfl (g4.ev (.tmp 4)) (by simpa using h3)) ?_);show wpOpsIn _ _ _ _ _ _ (b4.put none undef) _
 rw[show b4.put none undef=b4 from rfl,wpOpsIn_cons];refine ct (C:=C) rfl rfl (cu (C:=C) (by intro c h;cases h) (xo rfl rfl) ?_);have g5:=g4.put (d:=5) (x:=.sv (.v (.agg #[.func (.func f4) #[] #[]]))) (v:=.agg #[.func (.func f4) #[] #[]]) Y (by rw[hS,hS,hS,hS];omega) fC;show wpOpsIn _ _ _ _ _ _ (b4.put (some 5) (.agg #[.func (.func f4) #[] #[]])) _;generalize b4.put (some 5) (.agg #[.func (.func f4) #[] #[]])=b5 at g5⊢;rw[wpOpsIn_cons];refine ct (C:=C) rfl rfl (cu (C:=C) (by intro c h;cases h) (xn (k:=k) (n:=n4) (v:=.agg #[.func (.func f4) #[] #[]]) (g5.ev (.tmp 1)) rfl (g5.ev (.tmp 5)) (by simpa using h4)) ?_);show wpOpsIn _ _ _ _ _ _ (b5.put none undef) _;have e1:b5.eval (.tmp 1)=.map (some w.heap.size):=g5.ev (.tmp 1);obtain⟨ms,hms⟩:∃ms:Array MapEntry,(((((#[]:Array MapEntry).push ⟨.int k n1,.agg #[.func (.func f1) #[] #[]],0⟩).push ⟨.int k n2,.agg #[.func (.func f2) #[] #[]],0+1⟩).push ⟨.int k n3,.agg #[.func (.func f3) #[] #[]],0+1+1⟩).push ⟨.int k n4,.agg #[.func (.func f4) #[] #[]],0+1+1+1⟩)=ms:=⟨_,Y⟩;rw[hms];have hno:∀o,E.M w.heap.size o=none:=λo=>by
  cases e:E.M w.heap.size o with
  |none=>rfl
  |some v=>have:=lY h.dj e;omega
 have g6:=g5.grow (M':=λb o=>if b=w.heap.size/\o=0 then some (.tuple (Ki ms))else E.M b o) (w':=qh w ms (0+1+1+1+1)) (λb o v e=>by
   have:b≠w.heap.size:=by rintro rfl;rw[hno o]at e;cases e
   simp[this,e]) (λb o v e=>by
   by_cases hb:b=w.heap.size/\o=0
   ·exact .inr (by omega)
   ·simp only[if_neg hb]at e;exact .inl e) (λb o v e=>by
   by_cases hb:b=w.heap.size/\o=0
   ·simp only[if_pos hb]at e;obtain⟨rfl,rfl⟩:=hb;cases e;exact⟨ms,_,vk w ms _,Y⟩
   simp only[if_neg hb]at e;have hlt:=lY h.dj e;refine(h.dj b o v e).same ?_;show(w.heap.push _)[b]? =_;rw[Array.getElem?_push,if_neg (by omega)]) ((Below.refl _ _).alloc (Nat.le_refl _) _)
 have hm:∀X:Env,X.M w.heap.size 0=some (.tuple (Ki ms))->(H8 [(.int k n1,.agg #[.func (.func f1) #[] #[]]),(.int k n2,.agg #[.func (.func f2) #[] #[]]),(.int k n3,.agg #[.func (.func f3) #[] #[]]),(.int k n4,.agg #[.func (.func f4) #[] #[]])]).h X.M (.map (some w.heap.size)):=λX hX=>by
  refine⟨_,Y,?_⟩;rw[hX,<-hms];rfl
 have g7:=g6.put (d:=6) (x:=.sv (.v (.map (some w.heap.size)))) (v:=.map (some w.heap.size)) Y (by rw[hS,hS,hS,hS,hS];omega) fC;rw[show b5.put none undef=b5 from rfl,wpOpsIn_cons];refine ct (C:=C) rfl rfl (cu (C:=C) (by intro c h;cases h) (r:=.ok (.value (.map (some w.heap.size))) _) (by show Result.ok (Next.value (b5.eval (.tmp 1))) _=_;rw[e1]) ?_);show wpOpsIn _ _ _ _ _ _ (b5.put (some 6) (.map (some w.heap.size))) _;generalize b5.put (some 6) (.map (some w.heap.size))=b6 at g7⊢;have e6:b6.eval (.tmp 6)=.map (some w.heap.size):=g7.ev (.tmp 6);have g8:=g7.put (d:=0) (x:=.sv (H8 [(.int k n1,.agg #[.func (.func f1) #[] #[]]),(.int k n2,.agg #[.func (.func f2) #[] #[]]),(.int k n3,.agg #[.func (.func f3) #[] #[]]),(.int k n4,.agg #[.func (.func f4) #[] #[]])])) (v:=.map (some w.heap.size)) (hm _ (by simp)) (by rw[hS,hS,hS,hS,hS,hS];omega) fC;rw[wpOpsIn_cons];refine ct (C:=C) rfl rfl (cu (C:=C) (by intro c h;cases h) (r:=.ok (.value (.map (some w.heap.size))) _) (by show Result.ok (Next.value (b6.eval (.tmp 6))) _=_;rw[e6]) ?_);show wpOpsIn _ _ _ _ _ _ (b6.put (some 0) (.map (some w.heap.size))) _;rw[wpOpsIn];exact⟨_,hQ _ Y,_,g8⟩
end steps
def ASc(Q:Exit->AS->Prop):Exit->AS->Prop
 |.goto _,_=>False
 |e,S=>Q e S
section scope
variable {P:Program}{C:Ctx}{S:AS}{Q:Exit->AS->Prop}
theorem ASc.x{id:Nat}(h:Q (.exit id) S):ASc Q (.exit id) S:=h
end scope
end
end Go.Fw
namespace Go.Proofs.YtdpjpoekcgigkaaGreat
section
open Go.Fw
open Go.Proofs
noncomputable abbrev ah:=Tryz.prog
instance:jY ah 2 .i64:=⟨by kernel_rfl⟩
instance:pS ah 2:=⟨by kernel_rfl,by kernel_rfl⟩
instance:jU ah 2 1 8 (.int .i64 0):=⟨by kernel_rfl,by rfl,by decide,by decide⟩
instance:jY ah 3 .i64:=⟨by kernel_rfl⟩
instance:pS ah 3:=⟨by kernel_rfl,by kernel_rfl⟩
instance:jZ ah 3 (.int .i64 0):=⟨by kernel_rfl⟩
instance:jU ah 3 1 8 (.int .i64 0):=⟨by kernel_rfl,by rfl,by decide,by decide⟩
instance:AU ah 4:=⟨by kernel_rfl⟩
instance:pS ah 4:=⟨by kernel_rfl,by kernel_rfl⟩
instance:jY ah 5 .u8:=⟨by kernel_rfl⟩
instance:Mk ah 9:=⟨by kernel_rfl⟩
instance:pS ah 22:=⟨by kernel_rfl,by kernel_rfl⟩
instance:jU ah 22 1 24 (.slice none 0 0):=⟨by kernel_rfl,by rfl,by decide,by decide⟩
instance:ep ah 22 27 4:=⟨by kernel_rfl,by kernel_rfl⟩
instance:pS ah 23:=⟨by kernel_rfl,by kernel_rfl⟩
instance:jZ ah 23 (.slice none 0 0):=⟨by kernel_rfl⟩
instance:ep ah 23 71 1:=⟨by kernel_rfl,by kernel_rfl⟩
instance:zy ah 25 2:=⟨by kernel_rfl,by kernel_rfl⟩
instance:Cc ah 25:=⟨λw=>⟨1,zy.size (T:=25) (n:=2) w⟩⟩
instance:jZ ah 25 (.agg #[.bool false,.slice none 0 0]):=⟨by kernel_rfl⟩
instance:lj ah 25 [(0,1),(1,1)] [.bool false,.slice none 0 0]:=⟨by kernel_rfl,by kernel_rfl,by rfl⟩
instance:He ah 25 0 0 4:=⟨by kernel_rfl⟩
instance:He ah 25 1 1 23:=⟨by kernel_rfl⟩
instance:zy ah 27 4:=⟨by kernel_rfl,by kernel_rfl⟩
instance:jZ ah 27 (.agg #[.bool false,.slice none 0 0,.bool false,.slice none 0 0]):=⟨by kernel_rfl⟩
instance:jU ah 27 4 64 (.agg #[.bool false,.slice none 0 0,.bool false,.slice none 0 0]):=⟨by kernel_rfl,by rfl,by decide,by decide⟩
instance:lj ah 27 [(0,2),(2,2)] [.bool false,.slice none 0 0,.bool false,.slice none 0 0]:=⟨by kernel_rfl,by kernel_rfl,by rfl⟩
instance:He ah 27 0 0 25:=⟨by kernel_rfl⟩
instance:He ah 27 1 2 25:=⟨by kernel_rfl⟩
instance:pS ah 38:=⟨by kernel_rfl,by kernel_rfl⟩
instance:ep ah 38 22 1:=⟨by kernel_rfl,by kernel_rfl⟩
instance:pS ah 39:=⟨by kernel_rfl,by kernel_rfl⟩
instance:ep ah 39 3 1:=⟨by kernel_rfl,by kernel_rfl⟩
instance:ep ah 53 2 1:=⟨by kernel_rfl,by kernel_rfl⟩
instance:jY ah 71 .u32:=⟨by kernel_rfl⟩
instance:pS ah 71:=⟨by kernel_rfl,by kernel_rfl⟩
instance:jU ah 71 1 4 (.int .u32 0):=⟨by kernel_rfl,by rfl,by decide,by decide⟩
instance:pS ah 73:=⟨by kernel_rfl,by kernel_rfl⟩
instance:jZ ah 73 (.nilFunc):=⟨by kernel_rfl⟩
instance:jY ah 77 .u64:=⟨by kernel_rfl⟩
instance:pS ah 77:=⟨by kernel_rfl,by kernel_rfl⟩
instance:pS ah 81:=⟨by kernel_rfl,by kernel_rfl⟩
instance:lj ah 83 [(0,1)] [.nilFunc]:=⟨by kernel_rfl,by kernel_rfl,by rfl⟩
instance:He ah 83 0 0 81:=⟨by kernel_rfl⟩
instance:Fl ah 84 5 83:=⟨by kernel_rfl⟩
instance:jY ah 98 .u64:=⟨by kernel_rfl⟩
instance:pS ah 106:=⟨by kernel_rfl,by kernel_rfl⟩
instance:jZ ah 106 (.nilFunc):=⟨by kernel_rfl⟩
instance:cY ah 4:=⟨by kernel_rfl⟩
instance:cY ah 5:=⟨by kernel_rfl⟩
instance:cY ah 6:=⟨by kernel_rfl⟩
instance:cY ah 7:=⟨by kernel_rfl⟩
instance:cY ah 8:=⟨by kernel_rfl⟩
instance:cY ah 9:=⟨by kernel_rfl⟩
instance:cY ah 10:=⟨by kernel_rfl⟩
instance:cY ah 11:=⟨by kernel_rfl⟩
instance:cY ah 12:=⟨by kernel_rfl⟩
instance:cY ah 13:=⟨by kernel_rfl⟩
instance:cY ah 14:=⟨by kernel_rfl⟩
instance:cY ah 15:=⟨by kernel_rfl⟩
instance:cY ah 16:=⟨by kernel_rfl⟩
instance:cY ah 17:=⟨by kernel_rfl⟩
instance:cY ah 18:=⟨by kernel_rfl⟩
instance:cY ah 19:=⟨by kernel_rfl⟩
instance:cY ah 20:=⟨by kernel_rfl⟩
instance:cY ah 21:=⟨by kernel_rfl⟩
instance:cY ah 22:=⟨by kernel_rfl⟩
instance:cY ah 23:=⟨by kernel_rfl⟩
instance:cY ah 24:=⟨by kernel_rfl⟩
instance:cY ah 25:=⟨by kernel_rfl⟩
instance:cY ah 26:=⟨by kernel_rfl⟩
instance:cY ah 27:=⟨by kernel_rfl⟩
instance:cY ah 28:=⟨by kernel_rfl⟩
instance:cY ah 29:=⟨by kernel_rfl⟩
instance:cY ah 30:=⟨by kernel_rfl⟩
instance:cY ah 31:=⟨by kernel_rfl⟩
instance:cY ah 32:=⟨by kernel_rfl⟩
instance:cY ah 33:=⟨by kernel_rfl⟩
instance:cY ah 34:=⟨by kernel_rfl⟩
instance:cY ah 35:=⟨by kernel_rfl⟩
instance:cY ah 36:=⟨by kernel_rfl⟩
instance:cY ah 37:=⟨by kernel_rfl⟩
instance:cY ah 38:=⟨by kernel_rfl⟩
instance:cY ah 39:=⟨by kernel_rfl⟩
instance:cY ah 40:=⟨by kernel_rfl⟩
instance:cY ah 41:=⟨by kernel_rfl⟩
instance:cY ah 42:=⟨by kernel_rfl⟩
instance:cY ah 43:=⟨by kernel_rfl⟩
instance:cY ah 44:=⟨by kernel_rfl⟩
instance:cY ah 45:=⟨by kernel_rfl⟩
instance:cY ah 46:=⟨by kernel_rfl⟩
instance:cY ah 47:=⟨by kernel_rfl⟩
instance:cY ah 48:=⟨by kernel_rfl⟩
instance:cY ah 49:=⟨by kernel_rfl⟩
instance:cY ah 50:=⟨by kernel_rfl⟩
instance:cY ah 51:=⟨by kernel_rfl⟩
instance:cY ah 52:=⟨by kernel_rfl⟩
instance:cY ah 53:=⟨by kernel_rfl⟩
instance:cY ah 54:=⟨by kernel_rfl⟩
instance:cY ah 55:=⟨by kernel_rfl⟩
instance:cY ah 56:=⟨by kernel_rfl⟩
instance:cY ah 57:=⟨by kernel_rfl⟩
instance:cY ah 58:=⟨by kernel_rfl⟩
instance:cY ah 59:=⟨by kernel_rfl⟩
instance:cY ah 60:=⟨by kernel_rfl⟩
instance:cY ah 61:=⟨by kernel_rfl⟩
instance:cY ah 62:=⟨by kernel_rfl⟩
instance:cY ah 63:=⟨by kernel_rfl⟩
instance:cY ah 64:=⟨by kernel_rfl⟩
instance:cY ah 65:=⟨by kernel_rfl⟩
instance:cY ah 66:=⟨by kernel_rfl⟩
instance:cY ah 67:=⟨by kernel_rfl⟩
instance:cY ah 68:=⟨by kernel_rfl⟩
instance:cY ah 69:=⟨by kernel_rfl⟩
instance:cY ah 70:=⟨by kernel_rfl⟩
instance:cY ah 71:=⟨by kernel_rfl⟩
instance:cY ah 72:=⟨by kernel_rfl⟩
instance:cY ah 73:=⟨by kernel_rfl⟩
instance:cY ah 74:=⟨by kernel_rfl⟩
instance:cY ah 75:=⟨by kernel_rfl⟩
instance:cY ah 76:=⟨by kernel_rfl⟩
instance:cY ah 77:=⟨by kernel_rfl⟩
instance:cY ah 78:=⟨by kernel_rfl⟩
instance:cY ah 79:=⟨by kernel_rfl⟩
instance:cY ah 80:=⟨by kernel_rfl⟩
instance:cY ah 81:=⟨by kernel_rfl⟩
instance:cY ah 82:=⟨by kernel_rfl⟩
instance:cY ah 83:=⟨by kernel_rfl⟩
instance:cY ah 84:=⟨by kernel_rfl⟩
instance:cY ah 85:=⟨by kernel_rfl⟩
instance:cY ah 86:=⟨by kernel_rfl⟩
instance:cY ah 87:=⟨by kernel_rfl⟩
instance:cY ah 88:=⟨by kernel_rfl⟩
instance:cY ah 89:=⟨by kernel_rfl⟩
instance:cY ah 90:=⟨by kernel_rfl⟩
instance:cY ah 91:=⟨by kernel_rfl⟩
instance:cY ah 92:=⟨by kernel_rfl⟩
instance:cY ah 94:=⟨by kernel_rfl⟩
instance:cY ah 95:=⟨by kernel_rfl⟩
instance:cY ah 96:=⟨by kernel_rfl⟩
instance:cY ah 97:=⟨by kernel_rfl⟩
instance:cY ah 98:=⟨by kernel_rfl⟩
instance:cY ah 99:=⟨by kernel_rfl⟩
instance:cY ah 100:=⟨by kernel_rfl⟩
instance:cY ah 101:=⟨by kernel_rfl⟩
instance:cY ah 102:=⟨by kernel_rfl⟩
instance:cY ah 103:=⟨by kernel_rfl⟩
instance:cY ah 104:=⟨by kernel_rfl⟩
instance:cY ah 105:=⟨by kernel_rfl⟩
instance:cY ah 106:=⟨by kernel_rfl⟩
instance:cY ah 107:=⟨by kernel_rfl⟩
instance:cY ah 108:=⟨by kernel_rfl⟩
instance:cY ah 109:=⟨by kernel_rfl⟩
instance:cY ah 110:=⟨by kernel_rfl⟩
instance:cY ah 111:=⟨by kernel_rfl⟩
instance:cY ah 112:=⟨by kernel_rfl⟩
instance:cY ah 113:=⟨by kernel_rfl⟩
instance:cY ah 114:=⟨by kernel_rfl⟩
instance:cY ah 115:=⟨by kernel_rfl⟩
theorem mixed:Tryz.prog.follows .mixedOrders=true:=by kernel_rfl
end
section
open Go.Fw Go.RowKit
def snap(W:World):Mem:=λb o=>(W.cell? ⟨b,o,none⟩).filter Value.oneCell'
theorem KL(W:World):(snap W).dj W:=λ_ _ _ e=>by
 obtain⟨e1,e2⟩:=Option.filter_eq_some_iff.1 e;exact .of e1 e2
theorem KM{W:World}{b o:Nat}{v:Value}(h:W.cell? ⟨b,o,none⟩=some v)(h1:v.oneCell'=true):snap W b o=some v:=Option.filter_eq_some_iff.2 ⟨h,h1⟩
class DV (P:Program) (T:TypeId) {α:Type} (e:α->List SV) (ok:outParam (α->Prop)) (sz:outParam (α->Nat)):Prop where
 h:∀{H:Type} (enc:TypeId×Value->H) (W:World) (fuel:Nat) (cs:List Value) (d:DataW H) (p:List MemPlace),DataW.trod enc P W 0 (λ_=>true) true fuel T cs=some (d,p)->
  ∃x:α,ok x/\SV.eu (snap W) (e x) cs/\(∀v∈cs,v.oneCell'=true)/\sz x<=Rows.uptoBulk d
section opn
variable {P:Program}{T:TypeId}
theorem DW{k:IntKind}{n:Int}(h:(Lit.int k n).wf=true):k.min<=n/\n<=k.max:=by simpa[Lit.wf]using h
instance[t:jY P T .i64]:DV P T bB (λx=>-9223372036854775808<=x/\x<=9223372036854775807) (λ_=>1):=⟨λenc W fuel cs d p h=>by
 obtain⟨n,rfl,hx,hw⟩:=DataW.trod_int t.h h;cases hx;have:=DW hw;exact⟨n,by simpa[IntKind.min,IntKind.max,IntKind.signed,IntKind.bits]using this,⟨rfl,aq⟩,by simp[Value.oneCell'],by simp[Rows.uptoBulk]⟩⟩
instance[t:jY P T .i16]:DV P T V9 (λx=>-32768<=x/\x<=32767) (λ_=>1):=⟨λenc W fuel cs d p h=>by
 obtain⟨n,rfl,hx,hw⟩:=DataW.trod_int t.h h;cases hx;have:=DW hw;exact⟨n,by simpa[IntKind.min,IntKind.max,IntKind.signed,IntKind.bits]using this,⟨rfl,aq⟩,by simp[Value.oneCell'],by simp[Rows.uptoBulk]⟩⟩
theorem Sk{k:IntKind}{M:Nat}{e:Nat->List SV}(t:jY P T k)(hk:k.min=0/\k.max=(M:Int)-1)(he:∀n:Nat,e n=[.v (.int k (n:Int))]):DV P T e (λx=>x<M) (λ_=>1):=⟨λenc W fuel cs d p h=>by
 obtain⟨n,rfl,hx,hw⟩:=DataW.trod_int t.h h;cases hx;have:=DW hw;rw[hk.1,hk.2]at this;obtain⟨m,rfl⟩:=Int.eq_ofNat_of_zero_le this.1;exact⟨m,by omega,by rw[he];exact⟨Y,aq⟩,by simp[Value.oneCell'],by simp[Rows.uptoBulk]⟩⟩
instance[t:jY P T .u32]:DV P T aX (λx=>x<4294967296) (λ_=>1):=Sk t (by decide) (λ_=>rfl)
instance[t:AU P T]:DV P T eB (λ_=>True) (λ_=>1):=⟨λenc W fuel cs d p h=>by
 obtain⟨b,rfl,hx⟩:=DataW.trod_bool t.h h;cases hx;exact⟨b,aq,⟨rfl,aq⟩,by simp[Value.oneCell'],by simp[Rows.uptoBulk]⟩⟩
theorem Cv{H α:Type}(sz:α->Nat):∀(xs:List α) (ds:List (DataW H)),xs.length=ds.length->(∀(i:Nat) (x:α) (d:DataW H),xs[i]? =some x->ds[i]? =some d->sz x<=Rows.uptoBulk d)->(xs.map sz).sum<=Rows.uptoBulkAll ds
 |[],[],_,_=>by simp
 |x::xs,d::ds,hl,h=>by
  have h1:=h 0 x d Y Y;have h2:=Cv sz xs ds (by simpa using hl) (λi x d e1 e2=>h (i+1) x d (by simpa using e1) (by simpa using e2));simp only[List.map_cons,List.sum_cons,Rows.uptoBulkAll];omega
 |[],_::_,hl,_=>by simp at hl
 |_::_,[],hl,_=>by simp at hl
instance{E:TypeId}{n:Nat}{α:Type}{e:α->List SV}{ok:α->Prop}{sz:α->Nat}{by_:Nat}{zv:Value}[t:ep P T E n][tE:jU P E n by_ zv][el:EL e n][o:DV P E e ok sz]:DV P T (eS n e) (λl=>l.length<=9223372036854775807/\∀x∈l,ok x) (λl=>(l.map sz).sum+1):=⟨λ{H} enc W fuel cs d p h=>by
 have hcell:P.cellsOf E=n:=by
  have h1:=t.size W;simp only[sizeOf,typeInfo]at h1;cases hi:P.info? E with
  |none=>simp[hi]at h1
  |some i=>simp[hi]at h1;simp[Program.cellsOf,hi,h1]
 have hml:maxLen=9223372036854775807:=by decide
 rcases Deep.open_slice t.u h with⟨rfl,hx⟩|⟨a,len,cap,m,n',D,Pl,rfl,_,hl,hm,hmm,hx,hel⟩
 ·cases hx;exact⟨[],⟨by simp,by simp⟩,⟨.inl ⟨none,rfl,rfl⟩,aq⟩,by simp[Value.oneCell'],by simp[Rows.uptoBulk]⟩
 cases hx;rw[if_pos rfl]at hmm;subst hmm;have one:∀i,i<m->∃x,ok x/\sz x<=Rows.uptoBulk (D i)/\∃cs',W.cells? 0 (a.add (i*n)) n=some cs'/\SV.eu (snap W) (e x) cs'/\(∀v∈cs',v.oneCell'=true):=by
  intro i hi;obtain⟨cs',h1,h2⟩:=hel i hi;obtain⟨x,q1,q2,q3,q4⟩:=o.h enc W n' cs' (D i) (Pl i) h2;rw[hcell]at h1;exact⟨x,q1,q4,cs',h1,q2,q3⟩
 obtain⟨xs,Sl,hxs⟩:∃xs:List α,xs.length=len/\∀(i:Nat) (x:α),xs[i]? =some x->ok x/\sz x<=Rows.uptoBulk (D i)/\∃cs',W.cells? 0 (a.add (i*n)) n=some cs'/\SV.eu (snap W) (e x) cs'/\(∀v∈cs',v.oneCell'=true):=by
  clear h hm hel;have:∀k,k<=len->∃xs:List α,xs.length=k/\∀(i:Nat) (x:α),xs[i]? =some x->ok x/\sz x<=Rows.uptoBulk (D i)/\∃cs',W.cells? 0 (a.add (i*n)) n=some cs'/\SV.eu (snap W) (e x) cs'/\(∀v∈cs',v.oneCell'=true):=by
   intro k
   induction k with
   |zero=>intro _;exact⟨[],rfl,by simp⟩
   |succ k ih=>
    intro hk;obtain⟨xs,h1,h2⟩:=ih (by omega);obtain⟨x,hx⟩:=one k (by omega);refine⟨xs++[x],by simp[h1],λi y hy=>?_⟩;rcases Nat.lt_or_ge i k with hi|hi
    ·exact h2 i y (by rwa[List.getElem?_append_left (by omega)]at hy)
    rw[List.getElem?_append_right (by omega)]at hy;have VI:i=k:=by
     rcases Nat.lt_or_ge (i-xs.length) 1 with q|q
     ·omega
     rw[List.getElem?_eq_none (by simpa using q)]at hy;cases hy
    subst VI;rw[h1,Nat.sub_self]at hy;simp at hy;subst hy;exact hx
  exact this len (Nat.le_refl _)
 refine⟨xs,⟨by omega,λx hx=>?_⟩,⟨?_,aq⟩,by simp[Value.oneCell'],?_⟩
 ·obtain⟨i,hi,rfl⟩:=List.getElem_of_mem hx;exact(hxs i _ (List.getElem?_eq_getElem hi)).1
 ·by_cases h0:xs=[]
  ·subst h0;simp at Sl;subst Sl;by_cases hc0:m=0
   ·subst hc0;exact .inl ⟨_,rfl,rfl⟩
   obtain⟨x,_,_,cs',g1,g2,_⟩:=one 0 (by omega);obtain⟨_,g3,g4⟩:=World.cells?_some g1;have hn:0<n:=tE.p;have g5:=g4 0 hn;obtain⟨b,o',spot⟩:=a;have Ib:spot=none:=by
    have:∃v,W.cell? (((⟨b,o',spot⟩:Addr).add (0*n)).add 0)=some v:=by
     rw[g5];exact⟨_,List.getElem?_eq_getElem (by omega)⟩
    obtain⟨v,hv⟩:=this;simpa[Addr.add]using World.cell?_spot hv
   subst Ib;refine .inr ⟨b,o',m,rfl,by simp,by simp,λi row hr=>by simp at hr⟩
  have rS:0<len:=by
   rcases Nat.eq_zero_or_pos len with hz|hz
   ·exact absurd (List.eq_nil_of_length_eq_zero (by omega)) h0
   exact hz
  have hn:0<n:=tE.p;obtain⟨x,_,_,cs',g1,g2,_⟩:=one 0 (by omega);obtain⟨_,g3,g4⟩:=World.cells?_some g1;have g5:=g4 0 hn;obtain⟨b,o',spot⟩:=a;have Ib:spot=none:=by
   have:∃v,W.cell? (((⟨b,o',spot⟩:Addr).add (0*n)).add 0)=some v:=by
    rw[g5];exact⟨_,List.getElem?_eq_getElem (by omega)⟩
   obtain⟨v,hv⟩:=this;simpa[Addr.add]using World.cell?_spot hv
  subst Ib;refine .inr ⟨b,o',m,by rw[List.length_map,Sl],by rw[List.length_map];omega,by rw[List.length_map];omega,λi row hr=>?_⟩;rw[List.getElem?_map]at hr;cases hx:xs[i]? with
  |none=>rw[hx]at hr;cases hr
  |some y=>
   rw[hx]at hr;have hr:e y=row:=Option.some.inj hr;subst hr;obtain⟨_,_,cs2,k1,k2,k3⟩:=hxs i y hx;obtain⟨_,k4,k5⟩:=World.cells?_some k1;refine⟨el.len y,λk s hk=>?_⟩;obtain⟨u,hu,hs⟩:=k2.get hk;have hkn:k<n:=by have:=(List.getElem?_eq_some_iff.1 hu).1;omega
   have k6:=k5 k hkn;rw[fD,fD,hu]at k6;exact⟨u,KM k6 (k3 u (List.mem_of_getElem? hu)),k3 u (List.mem_of_getElem? hu),hs⟩
 have hb:Rows.uptoBulk (DataW.slice ((List.range len).map D) ((List.range (m-len)).map λj=>D (len+j)))=Rows.uptoBulkAll ((List.range len).map D)+Rows.uptoBulkAll ((List.range (m-len)).map λj=>D (len+j))+1:=rfl;rw[hb];have:=Cv sz xs ((List.range len).map D) (by simp[Sl]) (λi x d e1 e2=>by
  have hi:i<len:=by have:=(List.getElem?_eq_some_iff.1 e1).1;omega
  simp[hi]at e2;subst e2;exact(hxs i x e1).2.1)
 omega⟩
class UE (P:Program) (T:TypeId) (k:outParam Nat):Prop where
 h:(match P.underlying T with|some (.struct fs)=>some fs.size|_=>none)=some k
theorem Fo{k:Nat}[s:UE P T k]{H:Type}{enc:TypeId×Value->H}{W:World}{fuel:Nat}{cs:List Value}{d:DataW H}{p:List MemPlace}(h:DataW.trod enc P W 0 (λ_=>true) true fuel T cs=some (d,p)):
  ∃(xs:List (DataW H×List MemPlace)) (n:Nat),d=.agg (xs.map (·.1))/\cs.length=P.cellsOf T/\xs.length=k/\∀(i off:Nat) (U:TypeId),He P T i off U->DataW.trod enc P W 0 (λ_=>true) true n U ((cs.drop off).take (P.cellsOf U))=xs[i]? :=by
 have hs:=s.h;cases hT:P.underlying T with
 |none=>rw[hT]at hs;cases hs
 |some u=>
  rw[hT]at hs;cases u with
  |struct fs=>
   have hk:fs.size=k:=Option.some.inj hs;obtain⟨xs,n,_,hx,hl,hn,hf⟩:=DataW.trod_struct hT h;refine⟨xs,n,(Prod.mk.inj hx).1,hl,by omega,λi off U F=>?_⟩;have hF:=F.h;rw[hT]at hF;simp only at hF;cases hg:fs[i]? with
   |none=>rw[hg]at hF;cases hF
   |some f=>
    rw[hg]at hF;simp only[Option.map_some,Option.some.injEq,Prod.mk.injEq]at hF;have:=hf i f hg;rw[hF.1,hF.2]at this;exact this
  |_=>cases hs
class OM (P:Program) (T:TypeId):Prop where
 h:∀(w:World) (r:Reach) (base:Nat) (v:Value),Value.okWide P w r base T v->v.cells.toList=[v]
instance{k:IntKind}[t:jY P T k]:OM P T:=⟨λw r base v h=>by
 simp only[Value.okWide,t.h,Cell.okWide,Cell.ok]at h;cases v<;>first|rfl|cases h⟩
instance{E:TypeId}{n:Nat}[t:ep P T E n]:OM P T:=⟨λw r base v h=>by
 obtain⟨a,l,c,rfl⟩:=WideShapes.okWide_slice t.u h;rfl⟩
theorem xp{α:Type}{e:α->List SV}{ok:α->Prop}{sz:α->Nat}[o1:OM P T][o:DV P T e ok sz]{H:Type}{enc:TypeId×Value->H}{W:World}{r:Reach}{base:Nat}{v:Value}{d:DataW H}{p:List MemPlace}
  (hv:Value.okWide P W r base T v) (h:DataW.Trod enc P W 0 (λ_=>true) true T v d p):∃x,ok x/\sz x<=Rows.uptoBulk d/\SV.eu (snap W) (e x) [v]:=by
 obtain⟨fuel,h⟩:=h;rw[o1.h W r base v hv]at h;obtain⟨x,h1,h2,_,h4⟩:=o.h enc W fuel _ d p h;exact⟨x,h1,h4,h2⟩
theorem KN{α:Type}{e:α->List SV}{ok:α->Prop}{sz:α->Nat}{k:Nat}[s:UE P T k][o:DV P T e ok sz]{H:Type}{enc:TypeId×Value->H}{W:World}{r:Reach}{base:Nat}{v:Value}{d:DataW H}{p:List MemPlace}
  (hv:Value.okWide P W r base T v) (h:DataW.Trod enc P W 0 (λ_=>true) true T v d p):∃x,ok x/\sz x<=Rows.uptoBulk d/\(SV.agg (e x)).h (snap W) v:=by
 have hs:=s.h;cases hT:P.underlying T with
 |none=>rw[hT]at hs;cases hs
 |some u=>
  rw[hT]at hs;cases u with
  |struct fs=>
   obtain⟨cs,rfl,_⟩:=WideShapes.okWide_struct hT hv;obtain⟨fuel,h⟩:=h;obtain⟨x,h1,h2,_,h4⟩:=o.h enc W fuel _ d p h;exact⟨x,h1,h4,cs.toList,Y,h2⟩
  |_=>cases hs
end opn
theorem KO{f:FuncId}{vs:List Value}{svs:List SV}{W:World}(hp:Pure ah f svs (.v (.bool true)))(h:SV.eu (snap W) svs vs):
  Calls ah f ⟨vs⟩ W λe w'=>e=.returned (.bool true)/\Below W.heap.size W w':=
 (hp (snap W) W vs (KL W) h).mono λ_ _ ⟨v,_,h1,_,_,_,h2,h3⟩=>by
  have h2:v=.bool true:=h2;exact⟨by rw[h1,h2],h3⟩
end
section
open Go.Fw Go.RowKit Go.ChangeShapes Go.WideShapes Go.ChangeAt
theorem Wm:ownKnob Tryz.prog.godebug=none:=by kernel_rfl
theorem qi:laidOutB ah=true:=by kernel_rfl
instance:UE ah 25 2:=⟨by kernel_rfl⟩
set_option maxRecDepth 100000 in
instance:DV ah 25 eZ (λ(z:Zr)=>(True/\(z.w.length<=9223372036854775807/\∀x1∈z.w,x1<4294967296))) (λ(z:Zr)=>(1+((z.w.map λx1=>1).sum+1)+1)):=⟨λenc W fuel cs d p h=>by
 obtain⟨xs,n,rfl,hl,hn,hf⟩:=Fo h;have hl:cs.length=2:=hl.trans (by kernel_rfl)
 match xs,hn with
 |[⟨d0,p0⟩,⟨d1,p1⟩],_=>
 match cs,hl with
 |[c0,c1],_=>
 have t0:DataW.trod enc ah W 0 (λ_=>true) true n 4 [c0]=some (d0,p0):=(by have q:=hf 0 _ _ inferInstance;rw[show Tryz.prog.cellsOf 4=1 by kernel_rfl]at q;exact q);obtain⟨x0,a0,b0,e0,s0⟩:=DV.h (P:=ah) (T:=4) (e:=eB) enc W n _ d0 p0 t0;have t1:DataW.trod enc ah W 0 (λ_=>true) true n 23 [c1]=some (d1,p1):=(by have q:=hf 1 _ _ inferInstance;rw[show Tryz.prog.cellsOf 23=1 by kernel_rfl]at q;exact q);obtain⟨x1,a1,b1,e1,s1⟩:=DV.h (P:=ah) (T:=23) (e:=(eS 1 aX)) enc W n _ d1 p1 t1;refine⟨⟨x0,x1⟩,⟨a0,a1⟩,⟨b0.1,b1.1,aq⟩,?_,?_⟩
 ·intro v hv;simp only[List.mem_cons,List.not_mem_nil,or_false]at hv;rcases hv with rfl|rfl
  ·exact e0 _ (by simp)
  exact e1 _ (by simp)
 simp only[List.map_cons,List.map_nil,Rows.uptoBulk,Rows.uptoBulkAll];omega⟩
instance:UE ah 27 2:=⟨by kernel_rfl⟩
set_option maxRecDepth 100000 in
instance:DV ah 27 eQ (λ(z:Qr)=>((True/\(z.num.w.length<=9223372036854775807/\∀x1∈z.num.w,x1<4294967296))/\(True/\(z.den.w.length<=9223372036854775807/\∀x1∈z.den.w,x1<4294967296)))) (λ(z:Qr)=>((1+((z.num.w.map λx1=>1).sum+1)+1)+(1+((z.den.w.map λx1=>1).sum+1)+1)+1)):=⟨λenc W fuel cs d p h=>by
 obtain⟨xs,n,rfl,hl,hn,hf⟩:=Fo h;have hl:cs.length=4:=hl.trans (by kernel_rfl)
 match xs,hn with
 |[⟨d0,p0⟩,⟨d1,p1⟩],_=>
 match cs,hl with
 |[c0,c1,c2,c3],_=>
 have t0:DataW.trod enc ah W 0 (λ_=>true) true n 25 [c0,c1]=some (d0,p0):=(by have q:=hf 0 _ _ inferInstance;rw[show Tryz.prog.cellsOf 25=2 by kernel_rfl]at q;exact q);obtain⟨x0,a0,b0,e0,s0⟩:=DV.h (P:=ah) (T:=25) (e:=eZ) enc W n _ d0 p0 t0;have t1:DataW.trod enc ah W 0 (λ_=>true) true n 25 [c2,c3]=some (d1,p1):=(by have q:=hf 1 _ _ inferInstance;rw[show Tryz.prog.cellsOf 25=2 by kernel_rfl]at q;exact q);obtain⟨x1,a1,b1,e1,s1⟩:=DV.h (P:=ah) (T:=25) (e:=eZ) enc W n _ d1 p1 t1;refine⟨⟨x0,x1⟩,⟨a0,a1⟩,⟨b0.1,b0.2.1,b1.1,b1.2.1,aq⟩,?_,?_⟩
 ·intro v hv;simp only[List.mem_cons,List.not_mem_nil,or_false]at hv;rcases hv with rfl|rfl|rfl|rfl
  ·exact e0 _ (by simp)
  ·exact e0 _ (by simp)
  ·exact e1 _ (by simp)
  exact e1 _ (by simp)
 simp only[List.map_cons,List.map_nil,Rows.uptoBulk,Rows.uptoBulkAll];omega⟩
end
end Go.Proofs.YtdpjpoekcgigkaaGreat
namespace Go.Fw
section
open Go.RowKit
section part
variable {P:Program}{C:Ctx}{ops:Array Oper}{acts:List Ac}{S:AS}
theorem sY(listed:Array Bool)(i:Nat)(hs:listed.size=ops.size)(hi:i<ops.size):listed.getD i true=listed.getD i false:=by
 rw[Array.getD_eq_getD_getElem?,Array.getD_eq_getD_getElem?];rw[Array.getElem?_eq_getElem (by omega)];rfl
end part
end
section
open Go.RowKit
section steps
variable {P:Program}{C:Ctx}{ops:Array Oper}{S:AS}{nd:Bool}{K:List Ac->AS->Prop}{rest:List Oper}{acc:List Ac}
variable {gd:Option (Nat×Bool)}{rg:List Nat}{d:Nat}{ty:TypeId}{pos:String}{aft:Array Edge}{x y z:Operand}{T U E0:TypeId}
theorem RT.Am(hg:Gd ops S gd rg){g:FuncId}{xs:Array Operand}{caps:List SV}(hc:hG S xs.toList caps)(hd:d<S.n)
  (next:RunT P C ops nd K rest (⟨rg++xs.toList.flatMap aZ,[],[],⟨some (d,.sv (oc g caps)),[],[]⟩⟩::acc) (S.set d (.sv (oc g caps)))):RunT P C ops nd K (⟨some d,.makeFunc (.func g) #[] xs,ty,pos,aft,gd⟩::rest) acc S:=
 RT.value hg (xs.toList.flatMap aZ) [] [] (.sv (oc g caps)) hd (by intro c h;cases h) (λS' ht _ _ E a w h=>by
  have h1:=hG.vals h hc ht;refine⟨.func (.func g) #[] ⟨xs.toList.map a.eval⟩,?_,⟨_,Y,h1⟩,fC⟩;have e2:xs.map a.eval=⟨xs.toList.map a.eval⟩:=by apply Array.ext';simp
  simp[execOp,Instr.makeFunc,e2]) next
theorem RT.My(hg:Gd ops S gd rg){f:FuncId}[cY P f]{g:Operand}{xs:Array Operand}{at_:Array TypeId}{args caps:List SV}{r:SV}(hp:Pure P f (args++caps) r)(hf:S.ev g=.sv (oc f caps))(hargs:hG S xs.toList args)(hd:d<S.n)
  (next:RunT P C ops nd K rest (⟨rg++(aZ g++xs.toList.flatMap aZ),[],[],⟨some (d,.sv r),[],[]⟩⟩::acc) (S.set d (.sv r))):RunT P C ops nd K (⟨some d,.call ⟨.value g,xs,at_⟩,ty,pos,aft,gd⟩::rest) acc S:=by
 refine .inl ⟨_,[],[],_,?_,next⟩;rintro S' hn ht _ _ i a w L Q ho ⟨E,h⟩ hL;refine ct (C:=C) ho (hg.wanted h (λs hs=>ht s (List.mem_append_left _ hs)) Y) ?_;have AY:(oc f caps).h E.M (a.eval g):=by
  have h1:=h.ev g;rw[bt (λ_ h=>List.mem_append_right _ (List.mem_append_left _ h)) ht,hf]at h1;exact h1
 obtain⟨rE,AY,Cw⟩:=AY;have hall:=SV.eu.append (hG.vals h hargs (λs hs=>ht s (List.mem_append_right _ (List.mem_append_right _ hs)))) Cw;have hr:(execOp a.eval ⟨some d,.call ⟨.value g,xs,at_⟩,ty,pos,aft,gd⟩).run P w=.ok (.enter f ⟨xs.toList.map a.eval++rE⟩) w:=by
  have e2:xs.map a.eval++⟨rE⟩=⟨xs.toList.map a.eval++rE⟩:=by apply Array.ext';simp
  have e1:=cY.run (P:=P) (f:=f) (xs.map a.eval++⟨rE⟩) w;rw[<-e2];simp[execOp,resolve,AY,Deferred.ofValue,invoke,e1]
 refine cu (C:=C) (by intro c h;cases h) hr ?_;refine⟨λh=>by simp at h,k8 ((hp E.M w _ h.dj hall).mono ?_)⟩;rintro e w' ⟨v,M',rfl,hM,hnew,hin,hv,hb⟩;exact hL _ _ ⟨_,(h.grow hM hnew hin hb).put (x:=.sv r) hv (by show d<S'.n;omega) fC⟩
end steps
end
end Go.Fw
namespace Go.Fw.Z
section
open Go.Fw
theorem T{d n:Nat}(h:Nat.ble (d+1) n=true:=by exact rfl):d<n:=tl h
theorem bE{α β:Type}{x:Option α}{f:α->Option β}{r:β}{G:Prop}(h:Option.bind x f=some r)(k:∀a,x=some a->f a=some r->G):G:=by obtain⟨a,h1,h2⟩:=bind_some h;exact k a h1 h2
theorem lE{α β:Type}{v:α}{f:α->Option β}{r:β}{G:Prop}(h:Option.bind (some v) f=some r)(k:∀a,v=a->f a=some r->G):G:=k v Y h
theorem bS{α β:Type}{x:Option α}{f:α->Option β}{r:β}(h:Option.bind x f=some r):∃a,x=some a/\f a=some r:=bind_some h
theorem F{α:Type}{x y:Option α}{r:α}(h:(bif false then x else y)=some r):y=some r:=h
theorem V{α:Type}{x y:Option α}{r:α}(h:(bif true then x else y)=some r):x=some r:=h
theorem O{α:Type}{a b:α}(h:some a=some b):a=b:=Option.some.inj h
def v7(l:List (Nat×Nat))(i:Nat):Nat:=((l.find? λp=>Nat.beq p.1 i).map (·.2)).getD i
def UF(l:List (Nat×Nat)):AV->AV
 |.row i=>.row (v7 l i)
 |.me i o n=>.me (v7 l i) o n
 |x=>x
def UG:AV->Bool
 |.gZ _ _=>false
 |.cmp _ _=>false
 |_=>true
theorem avi(l:List (Nat×Nat)){x:AV}(h:UG x=true):F7 (v7 l) (UF l x) x:=by
 cases x with
 |sv s=>exact .sv au
 |ptr i o=>exact .ptr
 |B3 i o n c=>exact .B3
 |row i=>exact .row Y
 |gZ i k=>cases h
 |me i o n=>exact .me Y
 |fO g js=>exact .fO
 |cmp t js=>cases h
theorem Sn(l:List (Nat×Nat)):∀{xs:List AV},(xs.all UG)=true->DJ (v7 l) (xs.map (UF l)) xs
 |[],_=>trivial
 |x::xs,h=>by simp only[List.all_cons,Bool.and_eq_true]at h;exact⟨avi l h.1,Sn l h.2⟩
theorem wR(l:List (Nat×Nat)){S:AS}{n:Nat}{ts:List (Nat×AV)}{bs:List (Nat×nC)}{rs:List (Nat×Row)}{g:Nat}{go:Bool}
  (ht:ts.map (λp=>S.t p.1)=ts.map (λp=>UF l p.2):=by exact rfl) (hb:bs.map (λp=>S.b p.1)=bs.map (λp=>some ⟨p.2.T,p.2.cells.map (UF l)⟩):=by exact rfl) (hr:rs.map (λp=>S.r (v7 l p.1))=rs.map (λp=>.live p.2):=by exact rfl)
  (hn:S.n=n:=by exact rfl) (hg:S.g=g:=by exact rfl) (DE:S.go=go:=by exact rfl)
  (hwf:((ts.all λp=>p.2.nP bs rs)&&(bs.all λp=>p.2.cells.all λx=>x.nP bs rs))=true:=by exact rfl) (hσ:((rs.all λp=>rs.all λq=>!(Nat.beq (v7 l p.1) (v7 l q.1))||Nat.beq p.1 q.1))=true:=by exact rfl)
  (hno:((ts.all λp=>UG p.2)&&(bs.all λp=>p.2.cells.all UG))=true:=by exact rfl) (hl:(l.all λp=>Nat.ble (p.1+1) 1000)=true:=by exact rfl):rD S (AS.cw n ts bs rs g go):=by
 simp only[Bool.and_eq_true,List.all_eq_true]at hno;refine eL (v7 l) hn hg DE hwf hσ ?_ ?_ ?_ ?_
 ·clear hwf hb hr;obtain⟨h,-⟩:=hno
  induction ts with
  |nil=>trivial
  |cons p ts ih=>
   obtain⟨k,x⟩:=p;simp only[List.map_cons,List.cons.injEq]at ht;refine⟨?_,ih ht.2 (λq hq=>h q (by simp[hq]))⟩;show F7 _ (S.t k) x;rw[ht.1];exact avi l (h (k,x) (by simp))
 ·clear hwf ht hr;obtain⟨-,h⟩:=hno
  induction bs with
  |nil=>trivial
  |cons p bs ih=>
   obtain⟨k,x⟩:=p;simp only[List.map_cons,List.cons.injEq]at hb;exact⟨⟨_,hb.1,Sn l (List.all_eq_true.2 (h (k,x) (by simp)))⟩,ih hb.2 (λq hq=>h q (by simp[hq]))⟩
 ·clear hwf ht hb hσ
  induction rs with
  |nil=>trivial
  |cons p rs ih=>
   obtain⟨k,x⟩:=p;simp only[List.map_cons,List.cons.injEq]at hr;exact⟨⟨_,hr.1,cH.refl _⟩,ih hr.2⟩
 intro i hi;unfold v7;have:l.find? (λp=>Nat.beq p.1 i)=none:=by
  rw[List.find?_eq_none];intro p hp e;have h1:=af (List.all_eq_true.1 hl p hp);have h2:=Nat.eq_of_beq_eq_true e;omega
 rw[this];rfl
section
variable {P:Program}{C:Ctx}{S:AS}{Q:Exit->AS->Prop}
theorem qq{x y:Code}(h:Ok P C x S (aV (λS'=>Ok P C y S' Q) Q)):Ok P C (.seq x y) S Q:=bJ h
theorem sr{id:Nat}{ops:Array Oper}{y:Code}(h:RunT P C ops true (λ_ S=>aV (λS'=>Ok P C y S' Q) Q .normal S) ops.toList [] S):Ok P C (.seq (.region id ops false) y) S Q:=bJ (aW h)
theorem dn{ops:Array Oper}{acc:List Ac}{next:AS->Prop}(h:next S):RunT P C ops true (λ_ S=>aV next Q .normal S) [] acc S:=h
theorem cF{c:Operand}{x y:Code}(hf:Ok P C y S Q)(hc:S.ev c=.sv (.v (.bool false)):=by exact rfl):Ok P C (.cond c x y) S Q:=fB hc hf
theorem cT{c:Operand}{x y:Code}(ht:Ok P C x S Q)(hc:S.ev c=.sv (.v (.bool true)):=by exact rfl):Ok P C (.cond c x y) S Q:=c6 hc ht
theorem fs{c:Operand}{x:Code}{next:AS->Prop}(h:next S)(hc:S.ev c=.sv (.v (.bool false)):=by exact rfl):Ok P C (.cond c x .skip) S (aV next Q):=fB hc (bu h)
theorem R1{A:Prop}{e:Exit}{t:Nat}{s:SV}(h:S.t t=.sv s):(A\/e=e)/\Kp P S [.tmp t] s:=⟨.inr Y,mA (.tmp h .nil) au⟩
theorem R2{A:Prop}{e:Exit}{t u:Nat}{s s':SV}(h:S.t t=.sv s)(h':S.t u=.sv s'):(A\/e=e)/\Kp P S [.tmp t,.tmp u] (.uT [s,s']):=⟨.inr Y,mA (.tmp h (.tmp h' .nil)) au⟩
theorem RZ{A:Prop}{e:Exit}{rs:List ResultVar}{ss:List SV}{r:SV}(h:Hh P S rs ss)(h':SV.imp (HH ss) r:=by exact au):(A\/e=e)/\Kp P S rs r:=⟨.inr Y,mA h h'⟩
end
section
variable {P:Program}{C:Ctx}{ops:Array Oper}{S:AS}{nd:Bool}{K:List Ac->AS->Prop}{rest:List Oper}{acc:List Ac}
variable {gd:Option (Nat×Bool)}{rg:List Nat}{d:Nat}{ty:TypeId}{pos:String}{aft:Array Edge}{x y z:Operand}{T U:TypeId}{k:IntKind}{p q:Int}
theorem pF{s:SV}(hz:S.ev z=.sv s)(next:RunT P C ops nd K rest (⟨[]++(aZ x++aZ z),[],[],⟨some (d,.sv s),[],[]⟩⟩::acc) (S.set d (.sv s)))(hx:S.ev x=.sv (.v (.bool false)):=by exact rfl)(hd:d<S.n:=by exact tl Y):RunT P C ops nd K (⟨some d,.pick x y z,ty,pos,aft,none⟩::rest) acc S:=
 RT.Mm .none hx hz hd next
theorem pT{s:SV}(hy:S.ev y=.sv s)(next:RunT P C ops nd K rest (⟨[]++(aZ x++aZ y),[],[],⟨some (d,.sv s),[],[]⟩⟩::acc) (S.set d (.sv s)))(hx:S.ev x=.sv (.v (.bool true)):=by exact rfl)(hd:d<S.n:=by exact tl Y):RunT P C ops nd K (⟨some d,.pick x y z,ty,pos,aft,none⟩::rest) acc S:=
 RT.Ml .none hx hy hd next
theorem mo{s:AV}(hx:S.ev x=s)(next:RunT P C ops nd K rest (⟨[]++aZ x,[],[],⟨some (d,s),[],[]⟩⟩::acc) (S.set d s))(hd:d<S.n:=by exact tl Y):RunT P C ops nd K (⟨some d,.move x,ty,pos,aft,none⟩::rest) acc S:=
 RT.move .none hx hd next
theorem ad(c:Int)(hx:S.ev x=.sv (.v (.int k p)))(hy:S.ev y=.sv (.v (.int k q)))(hc:k.wrap (p+q)=c)(next:RunT P C ops nd K rest (⟨[]++(aZ x++aZ y),[],[],⟨some (d,.sv (.v (.int k c))),[],[]⟩⟩::acc) (S.set d (.sv (.v (.int k c)))))(hd:d<S.n:=by exact tl Y):RunT P C ops nd K (⟨some d,.binOp .add T x y U,ty,pos,aft,none⟩::rest) acc S:=
 RT.add .none c hx hy hd hc next
theorem cv{j:IntKind}[tT:jY P T j][tU:jY P U k](c:Int){k':IntKind}(hx:S.ev x=.sv (.v (.int k' p)))(hc:k.wrap p=c)(next:RunT P C ops nd K rest (⟨[]++aZ x,[],[],⟨some (d,.sv (.v (.int k c))),[],[]⟩⟩::acc) (S.set d (.sv (.v (.int k c)))))(hd:d<S.n:=by exact tl Y):RunT P C ops nd K (⟨some d,.convert T U x,ty,pos,aft,none⟩::rest) acc S:=
 RT.conv .none c hx hd hc next
theorem ls(c:Bool)(hx:S.ev x=.sv (.v (.int k p)))(hy:S.ev y=.sv (.v (.int k q)))(hc:decide (p<q)=c)(next:RunT P C ops nd K rest (⟨[]++(aZ x++aZ y),[],[],⟨some (d,.sv (.v (.bool c))),[],[]⟩⟩::acc) (S.set d (.sv (.v (.bool c)))))(hd:d<S.n:=by exact tl Y):RunT P C ops nd K (⟨some d,.binOp .lss T x y U,ty,pos,aft,none⟩::rest) acc S:=
 RT.lss .none c hx hy hd hc next
theorem sb(c:Int)(hx:S.ev x=.sv (.v (.int k p)))(hy:S.ev y=.sv (.v (.int k q)))(hc:k.wrap (p-q)=c)(next:RunT P C ops nd K rest (⟨[]++(aZ x++aZ y),[],[],⟨some (d,.sv (.v (.int k c))),[],[]⟩⟩::acc) (S.set d (.sv (.v (.int k c)))))(hd:d<S.n:=by exact tl Y):RunT P C ops nd K (⟨some d,.binOp .sub T x y U,ty,pos,aft,none⟩::rest) acc S:=
 RT.sub .none c hx hy hd hc next
theorem an{s:AV}(hx:S.ev x=s)(next:RunT P C ops nd K rest (⟨[]++aZ x,[],[],⟨some (d,s),[],[]⟩⟩::acc) (S.set d s))(hd:d<S.n:=by exact tl Y):RunT P C ops nd K (⟨some d,.assign x,ty,pos,aft,none⟩::rest) acc S:=
 RT.assign .none hx hd next
theorem gt(c:Bool)(hx:S.ev x=.sv (.v (.int k p)))(hy:S.ev y=.sv (.v (.int k q)))(hc:decide (q<p)=c)(next:RunT P C ops nd K rest (⟨[]++(aZ x++aZ y),[],[],⟨some (d,.sv (.v (.bool c))),[],[]⟩⟩::acc) (S.set d (.sv (.v (.bool c)))))(hd:d<S.n:=by exact tl Y):RunT P C ops nd K (⟨some d,.binOp .gtr T x y U,ty,pos,aft,none⟩::rest) acc S:=
 RT.gtr .none c hx hy hd hc next
theorem eq(c:Bool)(hx:S.ev x=.sv (.v (.int k p)))(hy:S.ev y=.sv (.v (.int k q)))(hc:(p==q)=c)(next:RunT P C ops nd K rest (⟨[]++(aZ x++aZ y),[],[],⟨some (d,.sv (.v (.bool c))),[],[]⟩⟩::acc) (S.set d (.sv (.v (.bool c)))))(hd:d<S.n:=by exact tl Y):RunT P C ops nd K (⟨some d,.binOp .eql T x y U,ty,pos,aft,none⟩::rest) acc S:=
 RT.eql .none c hx hy hd hc next
theorem ne(c:Bool)(hx:S.ev x=.sv (.v (.int k p)))(hy:S.ev y=.sv (.v (.int k q)))(hc:(p != q)=c)(next:RunT P C ops nd K rest (⟨[]++(aZ x++aZ y),[],[],⟨some (d,.sv (.v (.bool c))),[],[]⟩⟩::acc) (S.set d (.sv (.v (.bool c)))))(hd:d<S.n:=by exact tl Y):RunT P C ops nd K (⟨some d,.binOp .neq T x y U,ty,pos,aft,none⟩::rest) acc S:=
 RT.neq .none c hx hy hd hc next
theorem ge(c:Bool)(hx:S.ev x=.sv (.v (.int k p)))(hy:S.ev y=.sv (.v (.int k q)))(hc:decide (q<=p)=c)(next:RunT P C ops nd K rest (⟨[]++(aZ x++aZ y),[],[],⟨some (d,.sv (.v (.bool c))),[],[]⟩⟩::acc) (S.set d (.sv (.v (.bool c)))))(hd:d<S.n:=by exact tl Y):RunT P C ops nd K (⟨some d,.binOp .geq T x y U,ty,pos,aft,none⟩::rest) acc S:=
 RT.geq .none c hx hy hd hc next
theorem nt{b:Bool}(hx:S.ev x=.sv (.v (.bool b)))(c:Bool)(hc:(!b)=c)(next:RunT P C ops nd K rest (⟨[]++aZ x,[],[],⟨some (d,.sv (.v (.bool c))),[],[]⟩⟩::acc) (S.set d (.sv (.v (.bool c)))))(hd:d<S.n:=by exact tl Y):RunT P C ops nd K (⟨some d,.unOp .not T x,ty,pos,aft,none⟩::rest) acc S:=
 RT.not .none hx hd c hc next
theorem gF{j_ g_:Nat}{eM:Bool}{s:SV}(hz:S.ev z=.sv s)(next:RunT P C ops nd K rest (⟨[g_]++(aZ x++aZ z),[],[],⟨some (d,.sv s),[],[]⟩⟩::acc) (S.set d (.sv s)))(zH:(ops[j_]?).bind (·.dst)=some g_:=by exact rfl)(zJ:S.t g_=.sv (.v (.bool eM)):=by exact rfl)(hx:S.ev x=.sv (.v (.bool false)):=by exact rfl)(hd:d<S.n:=by exact tl Y):RunT P C ops nd K (⟨some d,.pick x y z,ty,pos,aft,some (j_,eM)⟩::rest) acc S:=
 RT.Mm (.some zH zJ) hx hz hd next
theorem gT{j_ g_:Nat}{eM:Bool}{s:SV}(hy:S.ev y=.sv s)(next:RunT P C ops nd K rest (⟨[g_]++(aZ x++aZ y),[],[],⟨some (d,.sv s),[],[]⟩⟩::acc) (S.set d (.sv s)))(zH:(ops[j_]?).bind (·.dst)=some g_:=by exact rfl)(zJ:S.t g_=.sv (.v (.bool eM)):=by exact rfl)(hx:S.ev x=.sv (.v (.bool true)):=by exact rfl)(hd:d<S.n:=by exact tl Y):RunT P C ops nd K (⟨some d,.pick x y z,ty,pos,aft,some (j_,eM)⟩::rest) acc S:=
 RT.Ml (.some zH zJ) hx hy hd next
theorem gq{j_ g_:Nat}{eM:Bool}(c:Bool)(hx:S.ev x=.sv (.v (.int k p)))(hy:S.ev y=.sv (.v (.int k q)))(hc:(p != q)=c)(next:RunT P C ops nd K rest (⟨[g_]++(aZ x++aZ y),[],[],⟨some (d,.sv (.v (.bool c))),[],[]⟩⟩::acc) (S.set d (.sv (.v (.bool c)))))(zH:(ops[j_]?).bind (·.dst)=some g_:=by exact rfl)(zJ:S.t g_=.sv (.v (.bool eM)):=by exact rfl)(hd:d<S.n:=by exact tl Y):RunT P C ops nd K (⟨some d,.binOp .neq T x y U,ty,pos,aft,some (j_,eM)⟩::rest) acc S:=
 RT.neq (.some zH zJ) c hx hy hd hc next
theorem gg{j_ g_:Nat}{eM:Bool}(c:Bool)(hx:S.ev x=.sv (.v (.int k p)))(hy:S.ev y=.sv (.v (.int k q)))(hc:decide (q<p)=c)(next:RunT P C ops nd K rest (⟨[g_]++(aZ x++aZ y),[],[],⟨some (d,.sv (.v (.bool c))),[],[]⟩⟩::acc) (S.set d (.sv (.v (.bool c)))))(zH:(ops[j_]?).bind (·.dst)=some g_:=by exact rfl)(zJ:S.t g_=.sv (.v (.bool eM)):=by exact rfl)(hd:d<S.n:=by exact tl Y):RunT P C ops nd K (⟨some d,.binOp .gtr T x y U,ty,pos,aft,some (j_,eM)⟩::rest) acc S:=
 RT.gtr (.some zH zJ) c hx hy hd hc next
theorem Ic{j_ g_:Nat}{eM:Bool}(c:Bool)(hx:S.ev x=.sv (.v (.int k p)))(hy:S.ev y=.sv (.v (.int k q)))(hc:(p==q)=c)(next:RunT P C ops nd K rest (⟨[g_]++(aZ x++aZ y),[],[],⟨some (d,.sv (.v (.bool c))),[],[]⟩⟩::acc) (S.set d (.sv (.v (.bool c)))))(zH:(ops[j_]?).bind (·.dst)=some g_:=by exact rfl)(zJ:S.t g_=.sv (.v (.bool eM)):=by exact rfl)(hd:d<S.n:=by exact tl Y):RunT P C ops nd K (⟨some d,.binOp .eql T x y U,ty,pos,aft,some (j_,eM)⟩::rest) acc S:=
 RT.eql (.some zH zJ) c hx hy hd hc next
theorem gt_{j_ g_:Nat}{eM:Bool}{b:Bool}(hx:S.ev x=.sv (.v (.bool b)))(c:Bool)(hc:(!b)=c)(next:RunT P C ops nd K rest (⟨[g_]++aZ x,[],[],⟨some (d,.sv (.v (.bool c))),[],[]⟩⟩::acc) (S.set d (.sv (.v (.bool c)))))(zH:(ops[j_]?).bind (·.dst)=some g_:=by exact rfl)(zJ:S.t g_=.sv (.v (.bool eM)):=by exact rfl)(hd:d<S.n:=by exact tl Y):RunT P C ops nd K (⟨some d,.unOp .not T x,ty,pos,aft,some (j_,eM)⟩::rest) acc S:=
 RT.not (.some zH zJ) hx hd c hc next
end
section
variable {P:Program}{C:Ctx}{ops:Array Oper}{S:AS}{nd:Bool}{K:List Ac->AS->Prop}{rest:List Oper}{acc:List Ac}
variable {gd:Option (Nat×Bool)}{rg:List Nat}{d:Nat}{ty:TypeId}{pos:String}{aft:Array Edge}{x y z:Operand}{T U E0:TypeId}
theorem mv{s:SV}(hx:S.ev x=.sv s)(next:RunT P C ops nd K rest (⟨[]++aZ x,[],[],⟨some (d,.sv s),[],[]⟩⟩::acc) (S.set d (.sv s)))(hd:d<S.n:=by exact tl Y):RunT P C ops nd K (⟨some d,.move x,ty,pos,aft,none⟩::rest) acc S:=
 RT.mv .none hx hd next
theorem ag{s:SV}(hx:S.ev x=.sv s)(next:RunT P C ops nd K rest (⟨[]++aZ x,[],[],⟨some (d,.sv s),[],[]⟩⟩::acc) (S.set d (.sv s)))(hd:d<S.n:=by exact tl Y):RunT P C ops nd K (⟨some d,.assign x,ty,pos,aft,none⟩::rest) acc S:=
 RT.B5 .none hx hd next
theorem cl{f:FuncId}[cY P f]{g:Operand}{xs:Array Operand}{at_:Array TypeId}{args:List SV}{r:SV}(hp:Pure P f args r)(hargs:hG S xs.toList args)(next:RunT P C ops nd K rest (⟨[]++(aZ g++xs.toList.flatMap aZ),[],[],⟨some (d,.sv r),[],[]⟩⟩::acc) (S.set d (.sv r)))(hf:S.ev g=.sv (.v (.func (.func f) #[] #[])):=by exact rfl)(hd:d<S.n:=by exact tl Y):RunT P C ops nd K (⟨some d,.call ⟨.value g,xs,at_⟩,ty,pos,aft,none⟩::rest) acc S:=
 RT.call .none hp hf hargs hd next
theorem ld{n:Nat}[tA:zy P T n]{j off:Nat}{B:nC}{cs:List SV}(hx:S.ev x=.ptr j off)(hB:S.b j=some B)(hcs:Hf B.cells off cs)(next:RunT P C ops nd K rest (⟨[]++aZ x,[j],[],⟨some (d,.sv (.agg cs)),[],[]⟩⟩::acc) (S.set d (.sv (.agg cs))))(hn:cs.length=n:=by exact rfl)(hd:d<S.n:=by exact tl Y):RunT P C ops nd K (⟨some d,.load T x,ty,pos,aft,none⟩::rest) acc S:=
 RT.load .none hx hB hcs hn hd next
theorem lV[tV:pS P T]{j off:Nat}{B:nC}{s:SV}(hx:S.ev x=.ptr j off)(hB:S.b j=some B)(hn:B.cells[off]? =some (.sv s))(next:RunT P C ops nd K rest (⟨[]++aZ x,[j],[],⟨some (d,.sv s),[],[]⟩⟩::acc) (S.set d (.sv s)))(hd:d<S.n:=by exact tl Y):RunT P C ops nd K (⟨some d,.load T x,ty,pos,aft,none⟩::rest) acc S:=
 RT.VJ .none hx hB hn hd next
theorem fa{f off:Nat}[hf:He P T f off U][sU:Cc P U]{j o:Nat}(hx:S.ev x=.ptr j o){o':Nat}(ho':o+off=o')(next:RunT P C ops nd K rest (⟨[]++aZ x,[],[],⟨some (d,.ptr j o'),[],[]⟩⟩::acc) (S.set d (.ptr j o')))(hd:d<S.n:=by exact tl Y):RunT P C ops nd K (⟨some d,.fieldAddr T x f,ty,pos,aft,none⟩::rest) acc S:=
 RT.fieldAddr .none hx hd ho' next
theorem so{n:Nat}[tA:zy P T n]{j:Nat}{B:nC}{cs:List SV}[o1:pN cs](hx:S.ev x=.ptr j 0)(hB:S.b j=some B)(hy:S.ev y=.sv (.agg cs))(next:RunT P C ops nd K rest (⟨[]++(aZ x++aZ y),[j],[],⟨none,[(j,⟨B.T,cs.map AV.sv⟩)],[]⟩⟩::acc) (S.lX j ⟨B.T,cs.map AV.sv⟩))(sS:cs.length=n:=by exact rfl)(hn:B.cells.length=n:=by exact rfl):RunT P C ops nd K (⟨none,.store T x y,ty,pos,aft,none⟩::rest) acc S:=
 RT.store .none hx hB hy sS hn next
theorem ex{i:Nat}{ss:List SV}{s:SV}(hx:S.ev x=.sv (.uT ss))(hi:ss[i]? =some s)(next:RunT P C ops nd K rest (⟨[]++aZ x,[],[],⟨some (d,.sv s),[],[]⟩⟩::acc) (S.set d (.sv s)))(hd:d<S.n:=by exact tl Y):RunT P C ops nd K (⟨some d,.extract x i,ty,pos,aft,none⟩::rest) acc S:=
 RT.extract .none hx hi hd next
theorem bx{cells:List SV}(hx:S.ev x=.sv (.agg cells))(next:RunT P C ops nd K rest (⟨[]++aZ x,[d],[],⟨some (d,.ptr d 0),[(d,⟨T,cells.map AV.sv⟩)],[]⟩⟩::acc) ((S.lX d ⟨T,cells.map AV.sv⟩).set d (.ptr d 0)))(hd:d<S.n:=by exact tl Y)(hb:S.b d=none:=by exact rfl)(hp:C.iY d=none:=by exact rfl):RunT P C ops nd K (⟨some d,.box T x,ty,pos,aft,none⟩::rest) acc S:=
 RT.box .none hx hd hb hp next
theorem lr[tV:pS P T]{cells:List SV}{s:SV}(hx:S.ev x=.sv (ref cells))(hn:cells[0]? =some s)(next:RunT P C ops nd K rest (⟨[]++aZ x,[],[],⟨some (d,.sv s),[],[]⟩⟩::acc) (S.set d (.sv s)))(hd:d<S.n:=by exact tl Y):RunT P C ops nd K (⟨some d,.load T x,ty,pos,aft,none⟩::rest) acc S:=
 RT.dm .none hx hn hd next
theorem cB{f:FuncId}[cY P f]{g:Operand}{xs:Array Operand}{at_:Array TypeId}{args:List SV}{T:TypeId}{c0 c1:List SV}{res:SV}(hp:HO P f args T c0 res c1)(j:Nat)(hB:S.b j=some ⟨T,c0.map AV.sv⟩)(hargs:hG S xs.toList args)(next:RunT P C ops nd K rest (⟨[]++(aZ g++xs.toList.flatMap aZ),[j],[],⟨some (d,.sv res),[(j,⟨T,c1.map AV.sv⟩)],[]⟩⟩::acc) ((AS.kG [(j,⟨T,c1.map AV.sv⟩)] S).set d (.sv res)))(hf:S.ev g=.fO f [.box j]:=by exact rfl)(hd:d<S.n:=by exact tl Y):RunT P C ops nd K (⟨some d,.call ⟨.value g,xs,at_⟩,ty,pos,aft,none⟩::rest) acc S:=
 RT.RW .none hp j hB hf hargs hd next
theorem cN{f:FuncId}[cY P f]{g:Operand}{xs:Array Operand}{at_:Array TypeId}{args:List SV}{R:Row}(hp:Gf P f args R)(hargs:hG S xs.toList args)(next:RunT P C ops nd K rest (⟨[]++(aZ g++xs.toList.flatMap aZ),[],[d],⟨some (d,.row d),[],[(d,.live R)]⟩⟩::acc) ((AS.cn [(d,.live R)] S).set d (.row d)))(hf:S.ev g=.sv (.v (.func (.func f) #[] #[])):=by exact rfl)(hd:d<S.n:=by exact tl Y)(vc:S.r d=.un:=by exact rfl)(sV:d<1000:=by exact tl Y):RunT P C ops nd K (⟨some d,.call ⟨.value g,xs,at_⟩,ty,pos,aft,none⟩::rest) acc S:=
 RT.RV .none hp hf hargs hd vc sV next
theorem gm{j_ g_:Nat}{eM:Bool}{s:SV}(hx:S.ev x=.sv s)(next:RunT P C ops nd K rest (⟨[g_]++aZ x,[],[],⟨some (d,.sv s),[],[]⟩⟩::acc) (S.set d (.sv s)))(zH:(ops[j_]?).bind (·.dst)=some g_:=by exact rfl)(zJ:S.t g_=.sv (.v (.bool eM)):=by exact rfl)(hd:d<S.n:=by exact tl Y):RunT P C ops nd K (⟨some d,.move x,ty,pos,aft,some (j_,eM)⟩::rest) acc S:=
 RT.mv (.some zH zJ) hx hd next
theorem gl{j_ g_:Nat}{eM:Bool}{n:Nat}[tA:zy P T n]{j off:Nat}{B:nC}{cs:List SV}(hx:S.ev x=.ptr j off)(hB:S.b j=some B)(hcs:Hf B.cells off cs)(next:RunT P C ops nd K rest (⟨[g_]++aZ x,[j],[],⟨some (d,.sv (.agg cs)),[],[]⟩⟩::acc) (S.set d (.sv (.agg cs))))(zH:(ops[j_]?).bind (·.dst)=some g_:=by exact rfl)(zJ:S.t g_=.sv (.v (.bool eM)):=by exact rfl)(hn:cs.length=n:=by exact rfl)(hd:d<S.n:=by exact tl Y):RunT P C ops nd K (⟨some d,.load T x,ty,pos,aft,some (j_,eM)⟩::rest) acc S:=
 RT.load (.some zH zJ) hx hB hcs hn hd next
theorem gc{j_ g_:Nat}{eM:Bool}{f:FuncId}[cY P f]{g:Operand}{xs:Array Operand}{at_:Array TypeId}{args:List SV}{r:SV}(hp:Pure P f args r)(hargs:hG S xs.toList args)(next:RunT P C ops nd K rest (⟨[g_]++(aZ g++xs.toList.flatMap aZ),[],[],⟨some (d,.sv r),[],[]⟩⟩::acc) (S.set d (.sv r)))(zH:(ops[j_]?).bind (·.dst)=some g_:=by exact rfl)(zJ:S.t g_=.sv (.v (.bool eM)):=by exact rfl)(hf:S.ev g=.sv (.v (.func (.func f) #[] #[])):=by exact rfl)(hd:d<S.n:=by exact tl Y):RunT P C ops nd K (⟨some d,.call ⟨.value g,xs,at_⟩,ty,pos,aft,some (j_,eM)⟩::rest) acc S:=
 RT.call (.some zH zJ) hp hf hargs hd next
theorem gr{j_ g_:Nat}{eM:Bool}[tV:pS P T]{cells:List SV}{s:SV}(hx:S.ev x=.sv (ref cells))(hn:cells[0]? =some s)(next:RunT P C ops nd K rest (⟨[g_]++aZ x,[],[],⟨some (d,.sv s),[],[]⟩⟩::acc) (S.set d (.sv s)))(zH:(ops[j_]?).bind (·.dst)=some g_:=by exact rfl)(zJ:S.t g_=.sv (.v (.bool eM)):=by exact rfl)(hd:d<S.n:=by exact tl Y):RunT P C ops nd K (⟨some d,.load T x,ty,pos,aft,some (j_,eM)⟩::rest) acc S:=
 RT.dm (.some zH zJ) hx hn hd next
end
section
variable {P:Program}{C:Ctx}{ops:Array Oper}{S:AS}{nd:Bool}{K:List Ac->AS->Prop}{rest:List Oper}{acc:List Ac}
variable {gd:Option (Nat×Bool)}{rg:List Nat}{d:Nat}{ty:TypeId}{pos:String}{aft:Array Edge}{x y z:Operand}{T U E0:TypeId}
variable {l l' k:KH}
theorem ww{op:Op}{j g:Nat}{b want:Bool}(next:RunT P C ops nd K rest (⟨[g],[],[],⟨some (d,.sv (.v undef)),[],[]⟩⟩::acc) (S.set d (.sv (.v undef))))(h1:(ops[j]?).bind (·.dst)=some g:=by exact rfl)(h2:S.t g=.sv (.v (.bool b)):=by exact rfl)(hb:b≠want:=by exact sk Y)(hd:d<S.n:=by exact tl Y):RunT P C ops nd K (⟨some d,op,ty,pos,aft,some (j,want)⟩::rest) acc S:=
 RT.skV h1 h2 hb hd next
theorem wu{op:Op}{j g:Nat}{want:Bool}(next:RunT P C ops nd K rest (⟨[g],[],[],⟨some (d,.sv (.v undef)),[],[]⟩⟩::acc) (S.set d (.sv (.v undef))))(h1:(ops[j]?).bind (·.dst)=some g:=by exact rfl)(h2:S.t g=.sv (.v undef):=by exact rfl)(hd:d<S.n:=by exact tl Y):RunT P C ops nd K (⟨some d,op,ty,pos,aft,some (j,want)⟩::rest) acc S:=
 RT.Si h1 h2 hd next
end
section
variable {P:Program}{C:Ctx}{ops:Array Oper}{S:AS}{nd:Bool}{K:List Ac->AS->Prop}{rest:List Oper}{acc:List Ac}
variable {gd:Option (Nat×Bool)}{rg:List Nat}{d:Nat}{ty:TypeId}{pos:String}{aft:Array Edge}{x y z:Operand}{T U E0:TypeId}
variable {α:Type}{l l' k:List α}{e:α->List SV}{n by_:Nat}{zv:Value}
theorem ln{m:Nat}[tS:ep P T E0 m]{c:Int}(hx:S.ev x=.sv (slc n (l.map e)))(hc:(l.length:Int)=c)(next:RunT P C ops nd K rest (⟨[]++aZ x,[],[],⟨some (d,.sv (.v (.int .i64 c))),[],[]⟩⟩::acc) (S.set d (.sv (.v (.int .i64 c)))))(hd:d<S.n:=by exact tl Y):RunT P C ops nd K (⟨some d,.call ⟨.builtin .len,#[x],#[T]⟩,ty,pos,aft,none⟩::rest) acc S:=
 RT.Se .none hx hd hc next
theorem al[tz:jZ P T zv]{cs:List SV}(hi:cH (zv.cells.toList.map SV.v) cs){av:List AV}(We:cs.map AV.sv=av)(next:RunT P C ops nd K rest (⟨[]++[],[d],[],⟨some (d,.ptr d 0),[(d,⟨T,av⟩)],[]⟩⟩::acc) ((S.lX d ⟨T,av⟩).set d (.ptr d 0)))(hd:d<S.n:=by exact tl Y)(hb:S.b d=none:=by exact rfl)(hp:C.iY d=none:=by exact rfl):RunT P C ops nd K (⟨some d,.alloc T,ty,pos,aft,none⟩::rest) acc S:=
 RT.sn .none hi We hd hb hp next
theorem ix[tS:ep P T E0 n]{kk:IntKind}{i:Int}{a:α}(hx:S.ev x=.sv (slc n (l.map e)))(hy:S.ev y=.sv (.v (.int kk i)))(ha:cm l i=some a)(next:RunT P C ops nd K rest (⟨[]++(aZ x++aZ y),[],[],⟨some (d,.sv (ref (e a))),[],[]⟩⟩::acc) (S.set d (.sv (ref (e a)))))(hd:d<S.n:=by exact tl Y):RunT P C ops nd K (⟨some d,.indexAddr T x y,ty,pos,aft,none⟩::rest) acc S:=
 RT.Wf .none hx hy hd ha next
theorem bl[tS:ep P T E0 n][tE:jU P E0 n by_ zv]{len:Nat}{parts:Array (Nat×Operand)}{qs:List (Nat×List SV)}(hp:mm S parts.toList qs)(hc:nQ 0 qs=true)(hl:qs.length=len)(hsz:(qs.all λq=>Nat.beq q.2.length n)=true)(hlen:Nat.ble (len*n) 16777216=true)(Gc:(zv.cells.toList.all λv=>v.oneCell')=true)(kH:qs.map (·.2)=l.map e)(next:RunT P C ops nd K rest (⟨[]++j1 parts.toList,[],[],⟨some (d,.sv (slc n (l.map e))),[],[]⟩⟩::acc) (S.set d (.sv (slc n (l.map e)))))(hd:d<S.n:=by exact tl Y):RunT P C ops nd K (⟨some d,.buildSlice T len parts,ty,pos,aft,none⟩::rest) acc S:=
 RT.kY .none hp hd hc hl hsz hlen Gc kH next
theorem iR[tS:ep P T E0 n]{i j:Nat}{E1:TypeId}{kk:IntKind}{v:Int}(hx:S.ev x=.row i)(hR:S.r i=.live (TR E1 n e l))(hy:S.ev y=.sv (.v (.int kk v)))(h:vh l v=some j)(next:RunT P C ops nd K rest (⟨[]++(aZ x++aZ y),[],[i],⟨some (d,.gZ i (j*n)),[],[]⟩⟩::acc) (S.set d (.gZ i (j*n))))(hd:d<S.n:=by exact tl Y):RunT P C ops nd K (⟨some d,.indexAddr T x y,ty,pos,aft,none⟩::rest) acc S:=
 RT.Wg .none hx hR hy hd h next
theorem aI{s X:SV}(hx:S.ev x=.sv s)(hi:SV.imp s X)(next:RunT P C ops nd K rest (⟨[]++aZ x,[],[],⟨some (d,.sv X),[],[]⟩⟩::acc) (S.set d (.sv X)))(hd:d<S.n:=by exact tl Y):RunT P C ops nd K (⟨some d,.assign x,ty,pos,aft,none⟩::rest) acc S:=
 RT.Wd .none hx hi hd next
theorem bI{pl:List (Nat×Nat)}{zc:List Value}[tP:lj P T pl zc]{parts:Array (Nat×Operand)}{qs:List (Nat×List SV)}(hp:mm S parts.toList qs){cs cs':List SV}(hi:cH cs cs')(next:RunT P C ops nd K rest (⟨[]++j1 parts.toList,[],[],⟨some (d,.sv (.agg cs')),[],[]⟩⟩::acc) (S.set d (.sv (.agg cs'))))(hf:rN (λi=>pl[i]?) (zc.map SV.v) qs=some cs:=by exact rfl)(hd:d<S.n:=by exact tl Y):RunT P C ops nd K (⟨some d,.build T parts,ty,pos,aft,none⟩::rest) acc S:=
 RT.OF .none hp hf hi hd next
theorem lR[tV:pS P T][el:EL e 1]{i j:Nat}{E1:TypeId}{a:α}{s:SV}(hx:S.ev x=.gZ i (j*1))(hR:S.r i=.live (TR E1 1 e l))(ha:l[j]? =some a)(hs:e a=[s])(next:RunT P C ops nd K rest (⟨[]++aZ x,[],[i],⟨some (d,.sv s),[],[]⟩⟩::acc) (S.set d (.sv s)))(hd:d<S.n:=by exact tl Y):RunT P C ops nd K (⟨some d,.load T x,ty,pos,aft,none⟩::rest) acc S:=
 RT.Sg .none hx hR ha hs hd next
theorem aR[tS:ep P T E0 n][tE:jU P E0 n by_ zv]{i:Nat}(hx:S.ev x=.row i)(hR:S.r i=.live (TR E0 n e l))(hy:S.ev y=.sv (slc n (k.map e)))(h:wU by_ l k=some l')(next:RunT P C ops nd K rest (⟨[]++(aZ x++aZ y),[],[i,d],⟨some (d,.row d),[],[(i,.dead),(d,.live (TR E0 n e l'))]⟩⟩::acc) ((AS.cn [(i,.dead),(d,.live (TR E0 n e l'))] S).set d (.row d)))(hd:d<S.n:=by exact tl Y)(vc:S.r d=.un:=by exact rfl)(sV:d<1000:=by exact tl Y):RunT P C ops nd K (⟨some d,.call ⟨.builtin .append,#[x,y],#[T,T]⟩,ty,pos,aft,none⟩::rest) acc S:=
 RT.apR .none hx hR hy hd vc sV h next
theorem sR[tV:pS P T][el:EL e 1]{i j:Nat}{E1:TypeId}{s:SV}[o1:One s](a:α)(hs:e a=[s])(hx:S.ev x=.gZ i (j*1))(hR:S.r i=.live (TR E1 1 e l))(hy:S.ev y=.sv s)(h:stM l j a=some l')(next:RunT P C ops nd K rest (⟨[]++(aZ x++aZ y),[],[i],⟨none,[],[(i,.live (TR E1 1 e l'))]⟩⟩::acc) (AS.cn [(i,.live (TR E1 1 e l'))] S)):RunT P C ops nd K (⟨none,.store T x y,ty,pos,aft,none⟩::rest) acc S:=
 RT.Wh .none a hs hx hR hy h next
theorem sA[tA:zy P T n][el:EL e n]{i j:Nat}{E1:TypeId}(a:α)(hx:S.ev x=.gZ i (j*n))(hR:S.r i=.live (TR E1 n e l))(hy:S.ev y=.sv (.agg (e a)))(h:stM l j a=some l')(next:RunT P C ops nd K rest (⟨[]++(aZ x++aZ y),[],[i],⟨none,[],[(i,.live (TR E1 n e l'))]⟩⟩::acc) (AS.cn [(i,.live (TR E1 n e l'))] S)):RunT P C ops nd K (⟨none,.store T x y,ty,pos,aft,none⟩::rest) acc S:=
 RT.Sh .none a hx hR hy h next
theorem lL{m:Nat}[tS:ep P T E0 m]{i:Nat}{E1:TypeId}{c:Int}(hx:S.ev x=.row i)(hR:S.r i=.live (TR E1 n e l))(hc:(l.length:Int)=c)(next:RunT P C ops nd K rest (⟨[]++aZ x,[],[i],⟨some (d,.sv (.v (.int .i64 c))),[],[]⟩⟩::acc) (S.set d (.sv (.v (.int .i64 c)))))(hd:d<S.n:=by exact tl Y):RunT P C ops nd K (⟨some d,.call ⟨.builtin .len,#[x],#[T]⟩,ty,pos,aft,none⟩::rest) acc S:=
 RT.Sf .none hx hR hd hc next
theorem cR{f:FuncId}[cY P f]{g:Operand}{xs:Array Operand}{at_:Array TypeId}{args:List AV}{E1:TypeId}{res:AV}(hp:DN P f args (TR E1 n e l) res (l'.flatMap e))(hlen:l'.length=l.length)(i:Nat)(hR:S.r i=.live (TR E1 n e l))(hargs:A6 S xs.toList (args.map (AV.v7 i)))(next:RunT P C ops nd K rest (⟨[]++(aZ g++xs.toList.flatMap aZ),[],[i],⟨some (d,res.v7 i),[],[(i,.live (TR E1 n e l'))]⟩⟩::acc) ((AS.cn [(i,.live (TR E1 n e l'))] S).set d (res.v7 i)))(hrow:args.all AV.ve=true:=by exact rfl)(hres:res.ve=true:=by exact rfl)(hf:S.ev g=.sv (.v (.func (.func f) #[] #[])):=by exact rfl)(hd:d<S.n:=by exact tl Y):RunT P C ops nd K (⟨some d,.call ⟨.value g,xs,at_⟩,ty,pos,aft,none⟩::rest) acc S:=
 RT.OK .none hp hlen i hR hrow hres hf hargs hd next
theorem gn{j_ g_:Nat}{eM:Bool}{m:Nat}[tS:ep P T E0 m]{c:Int}(hx:S.ev x=.sv (slc n (l.map e)))(hc:(l.length:Int)=c)(next:RunT P C ops nd K rest (⟨[g_]++aZ x,[],[],⟨some (d,.sv (.v (.int .i64 c))),[],[]⟩⟩::acc) (S.set d (.sv (.v (.int .i64 c)))))(zH:(ops[j_]?).bind (·.dst)=some g_:=by exact rfl)(zJ:S.t g_=.sv (.v (.bool eM)):=by exact rfl)(hd:d<S.n:=by exact tl Y):RunT P C ops nd K (⟨some d,.call ⟨.builtin .len,#[x],#[T]⟩,ty,pos,aft,some (j_,eM)⟩::rest) acc S:=
 RT.Se (.some zH zJ) hx hd hc next
end
section
variable {P:Program}{C:Ctx}{ops:Array Oper}{S:AS}{nd:Bool}{K:List Ac->AS->Prop}{rest:List Oper}{acc:List Ac}
variable {gd:Option (Nat×Bool)}{rg:List Nat}{d:Nat}{ty:TypeId}{pos:String}{aft:Array Edge}{x y z:Operand}{T U E0 E1:TypeId}
theorem fl{f off:Nat}[hf:He P T f off U][tV:pS P U]{cs:List SV}{s:SV}(hx:S.ev x=.sv (.agg cs))(hs:cs[off]? =some s)(next:RunT P C ops nd K rest (⟨[]++aZ x,[],[],⟨some (d,.sv s),[],[]⟩⟩::acc) (S.set d (.sv s)))(hd:d<S.n:=by exact tl Y):RunT P C ops nd K (⟨some d,.field T x f,ty,pos,aft,none⟩::rest) acc S:=
 RT.field .none hx hs hd next
end
end
end Go.Fw.Z
namespace Go.Fw
section
open Go.RowKit
def Mem.fr(M:Mem)(N:Nat):Mem:=λb o=>if N<=b then M b o else none
theorem Mem.So(M:Mem)(N:Nat):(M.fr N).le M:=λb o v h=>by
 unfold Mem.fr at h;split at h
 ·exact h
 cases h
theorem Mem.Fp{M M':Mem}(h:M.le M')(N:Nat):(M.fr N).le (M'.fr N):=λb o v e=>by
 unfold Mem.fr at*;split at e
 ·rename_i hn;rw[if_pos hn];exact h b o v e
 cases e
theorem Mem.Sq(M:Mem)(N:Nat):(M.fr N).fr N=M.fr N:=by
 funext b o;unfold Mem.fr;split<;>rfl
def nw(N:Nat)(s:SV):SV:=⟨λM v=>s.h (M.fr N) v/\∀g,v.ownBlock=some g->∃o,M.fr N g o=some (.agg #[]),λhM h=>⟨s.mono (Mem.Fp hM N) h.1,λg e=>by obtain⟨o,q⟩:=h.2 g e;exact⟨o,Mem.Fp hM N _ _ _ q⟩⟩⟩
theorem cq{N:Nat}{s:SV}:SV.imp (nw N s) s:=λM _ h=>s.mono (Mem.So M N) h.1
instance{N:Nat}{s:SV}{n:Nat}[h:Uy s n]:Uy (nw N s) n:=⟨λM v hv=>h.h M v (cq M v hv)⟩
instance{N:Nat}{s:SV}{n:Nat}{rows:List (List SV)}[h:Kn s n rows]:Kn (nw N s) n rows:=⟨λM v hv=>h.h M v (cq M v hv)⟩
instance{N:Nat}{s:SV}{n sz:Nat}{f:Nat->Nat->SV}[h:Sub s n sz f]:Sub (nw N s) n sz (λa b=>nw N (f a b)):=⟨λM v hv=>by
 obtain⟨a,c,e,hc,hs⟩:=h.h (M.fr N) v hv.1;refine⟨a,c,e,hc,λlo hi h1 h2=>⟨hs lo hi h1 h2,λg hg=>hv.2 g ?_⟩⟩;subst e;cases a with
 |none=>split at hg<;>cases hg
 |some a=>
  split at hg
  ·exact hg
  have e:(a.add (lo*sz)).block=a.block:=by unfold Addr.add;split<;>rfl
  rw[show(Value.slice (Option.map (λx=>x.add (lo*sz)) (some a)) (hi-lo) (c-lo)).ownBlock=some (a.add (lo*sz)).block from rfl,e]at hg;exact hg⟩
instance{N:Nat}{s:SV}[h:One s]:One (nw N s):=⟨λM v hv=>h.h _ v hv.1⟩
class Wn (N:Nat) (s:SV):Prop where
 h:∀M v,s.h M v->s.h (M.fr N) v
instance{N:Nat}{x:Value}:Wn N (.v x):=⟨λ_ _ h=>h⟩
instance{N:Nat}{s:SV}:Wn N (nw N s):=⟨λM v h=>by show s.h ((M.fr N).fr N) v/\∀g,v.ownBlock=some g->∃o,(M.fr N).fr N g o=some (.agg #[]);rw[Mem.Sq];exact h⟩
class KP (N:Nat) (l:List SV):Prop where
 h:∀s∈l,∀M v,s.h M v->s.h (M.fr N) v
instance{N:Nat}:KP N []:=⟨λs h=>by cases h⟩
instance{N:Nat}{s:SV}{l:List SV}[a:Wn N s][b:KP N l]:KP N (s::l):=⟨λt ht=>by
 rcases List.mem_cons.1 ht with rfl|ht
 ·exact a.h
 exact b.h t ht⟩
class DX (N:Nat) {α:Type} (e:α->List SV):Prop where
 h:∀x,KP N (e x)
instance{N:Nat}:DX N aX:=⟨λ_=>inferInstance⟩
abbrev fZ(N:Nat)(z:Zr):List SV:=[.v (.bool z.neg),nw N (slc 1 (z.w.map aX))]
abbrev fQ(N:Nat)(q:Qr):List SV:=[.v (.bool q.num.neg),nw N (slc 1 (q.num.w.map aX)),.v (.bool q.den.neg),nw N (slc 1 (q.den.w.map aX))]
instance{N:Nat}:EL (fQ N) 4:=⟨λ_=>rfl,λ_=>inferInstance⟩
instance{N:Nat}:DX N (fQ N):=⟨λ_=>inferInstance⟩
theorem bn{α:Type}{N n:Nat}{e:α->List SV}:SV.imp (.v (.slice none 0 0)) (nw N (slc n (([]:List α).map e))):=λ_ _ h=>⟨.inl ⟨none,h,rfl⟩,λg e=>by rw[show _=Value.slice none 0 0 from h]at e;cases e⟩
theorem KQ{α:Type}{n:Nat}{e e':α->List SV}(h:∀x,cH (e' x) (e x))(l:List α):SV.imp (slc n (l.map e')) (slc n (l.map e)):=by
 rintro M v (⟨a,h1,h2⟩|⟨b,o,c,h1,h2,h3,h4⟩)
 ·exact .inl ⟨a,h1,by have:=List.map_eq_nil_iff.1 h2;rw[this];rfl⟩
 refine .inr ⟨b,o,c,by simpa using h1,by simpa using h2,by simpa using h3,λi row hr=>?_⟩;rw[List.getElem?_map]at hr;cases hx:l[i]? with
 |none=>rw[hx]at hr;cases hr
 |some x=>
  rw[hx]at hr;have hr:e x=row:=Option.some.inj hr;subst hr;obtain⟨g1,g2⟩:=h4 i (e' x) (by rw[List.getElem?_map,hx];rfl);refine⟨by rw[cH.len (h x)];exact g1,λk s hs=>?_⟩;obtain⟨s2,wO,hi⟩:=cH.get (h x) hs;obtain⟨y,hy,ho,hh⟩:=g2 k s2 wO;exact⟨y,hy,ho,hi M y hh⟩
theorem zI(N:Nat)(z:Zr):cH (fZ N z) (eZ z):=⟨au,cq,aq⟩
theorem qI(N:Nat)(q:Qr):cH (fQ N q) (eQ q):=⟨au,cq,au,cq,aq⟩
theorem UH{N:Nat}{l:List Qr}:SV.imp (nw N (slc 4 (l.map (fQ N)))) (slc 4 (l.map eQ)):=λM v h=>KQ (qI N) l M v (cq M v h)
theorem Bb{N n:Nat}{α:Type}{e:α->List SV}[he:DX N e]{l:List α}{M:Mem}{v:Value}(h:(slc n (l.map e)).h M v)(hb:∀g,v.ownBlock=some g->N<=g/\∃o,M g o=some (.agg #[])):(nw N (slc n (l.map e))).h M v:=by
 refine⟨?_,λg hg=>by obtain⟨h1,o,h2⟩:=hb g hg;exact⟨o,by unfold Mem.fr;rw[if_pos h1];exact h2⟩⟩;rcases h with⟨a,h1,h2⟩|⟨b,o,c,h1,h2,h3,h4⟩
 ·exact .inl ⟨a,h1,h2⟩
 have hN:N<=b:=(hb b (by rw[h1];rfl)).1;refine .inr ⟨b,o,c,h1,h2,h3,λi row hr=>⟨(h4 i row hr).1,λk s hs=>?_⟩⟩;obtain⟨y,hy,ho,hh⟩:=(h4 i row hr).2 k s hs;refine⟨y,by unfold Mem.fr;rw[if_pos hN];exact hy,ho,?_⟩;rw[List.getElem?_map]at hr;cases hx:l[i]? with
 |none=>rw[hx]at hr;cases hr
 |some x=>
  rw[hx]at hr;have hr:e x=row:=Option.some.inj hr;subst hr;exact(he.h x).h s (List.mem_of_getElem? hs) M y hh
section
variable {P:Program}{C:Ctx}{S:AS}{Q:Exit->AS->Prop}
theorem bj.KR{E:Env}{a:Act}{w:World}(h:bj C S E a w)(vs:List Value)(T:TypeId)(hone:∀v∈vs,v.oneCell'=true):bj C S {E with M:=λb o=>if b=w.heap.size then(vs++[.agg #[]])[o]? else E.M b o} a (w.alloc (.cells ⟨vs⟩ T)):=by
 have hno:∀o,E.M w.heap.size o=none:=λo=>by
  cases e:E.M w.heap.size o with
  |none=>rfl
  |some v=>have:=lY h.dj e;omega
 refine h.grow (λb o v e=>?_) (λb o v e=>?_) (λb o v e=>?_) (((Below.refl _ _).alloc (Nat.le_refl _) _))
 ·have:b≠w.heap.size:=by rintro rfl;rw[hno o]at e;cases e
  simp[this,e]
 ·by_cases hb:b=w.heap.size
  ·exact .inr (by omega)
  simp only[if_neg hb]at e;exact .inl e
 by_cases hb:b=w.heap.size
 ·subst hb;simp only[if_true]at e;by_cases ho:o<vs.length
  ·rw[List.getElem?_append_left ho]at e;refine .of ?_ (hone v (List.mem_of_getElem? e));rw[World.cell?_alloc_new];simpa using e
  rw[List.getElem?_append_right (by omega)]at e;cases ho2:o-vs.length with
  |succ k=>rw[ho2]at e;simp at e
  |zero=>
   rw[ho2]at e;simp at e;subst e;exact⟨⟨vs⟩,T,by show(w.heap.push _)[w.heap.size]? =_;rw[Array.getElem?_push,if_pos rfl]⟩
 simp only[if_neg hb]at e;refine(h.dj b o v e).same ?_;show(w.heap.push _)[b]? =_;rw[Array.getElem?_push,if_neg hb]
theorem kZ{c:Code}{i n N:Nat}{E1:TypeId}{α:Type}{e:α->List SV}{l:List α}[el:EL e n][he:DX N e](hN:N<=C.w0.heap.size)(hb:∀k,¬C.sQ k)(hR:S.r i=.live (TR E1 n e l))(hk:Ok P C c (S.mh i (nw N (slc n (l.map e)))) Q):Ok P C c S Q:=λa w hs=>by
 obtain⟨E,h⟩:=hs;have hlen:l.length<=9223372036854775807:=by
  obtain⟨⟨vs,ho,hv⟩,_⟩:=h.rx i _ hR;rcases ho.2 with⟨_,q2⟩|⟨g',cap,cur,q1,_,q2,q3,q4,q5,q6⟩
  ·have q2:l.length=0:=q2;omega
  have q3:l.length<=cap:=q3;have:maxLen=9223372036854775807:=by decide
  omega
 exact hk a w (h.mh hR (qf l) (by rw[List.length_map]) hlen (mJ l) (λM v hv hg=>Bb hv (λg e=>⟨(hg g e).1.elim (λq=>Nat.le_trans hN q) (λq=>absurd q (hb g)),(hg g e).2⟩)))
def cZ(P:Program)(f:FuncId)(N:Nat)(args:List SV)(r:SV):Prop:=
 ∀(M:Mem) (w:World) (vs:List Value),N<=w.heap.size->M.dj w->SV.eu M args vs->
  Calls P f ⟨vs⟩ w λe w'=>∃v M',e=.returned v/\M.le M'/\(∀b o x,M' b o=some x->M b o=some x\/w.heap.size<=b)/\M'.dj w'/\r.h M' v/\Below w.heap.size w w'
theorem cZ.w{f:FuncId}{N:Nat}{args args':List SV}{r:SV}(h:cZ P f N args r)(hi:cH args' args):cZ P f N args' r:=λM w vs hN hM hv=>h M w vs hN hM (hi.holds hv)
theorem bF{f:FuncId}{fn:Func}{code:Code}{N:Nat}{args:List SV}{r:SV}(hf:P.funcs[f]? =some fn)(hb:fn.body=some code)(hn:args.length<=fn.ntmps)
  (h:∀(w:World) (M:Mem) (vs:List Value),N<=w.heap.size->SV.eu M args vs->Ok P (Hx w M) code (AS.init fn.ntmps args) (λe S=>(e=.normal\/e=.ret)/\Kp P S fn.results.toList r)):cZ P f N args r:=by
 intro M w vs hN hM hvs;refine(callsIn_wide (n:=0)).1 (callsIn_of_wp_marks (F:=Fence.wide) hf hb trivial ?_);refine wpIn_mono (h w M vs hN hvs _ w ⟨_,mR hM hvs hn⟩) ?_;rintro e a' w' ⟨S',⟨he,ss,Mp,himp⟩,E,hh⟩;have key:LeavesInM Fence.wide 0 P fn a'.tmps (λe w'=>∃v M',e=.returned v/\M.le M'/\(∀b o x,M' b o=some x->M b o=some x\/w.heap.size<=b)/\M'.dj w'/\r.h M' v/\Below w.heap.size w w') a'.defers .returning w':=by
  obtain⟨ds,h1,h2,h3⟩:=hh.marks;rw[h1];refine mz ds w' h2 (λr hr=>(h3 r hr).2.2) (λw2 g1 g2 g3 g4 g5=>?_);have zC:=hh.xJ h3 g1 g2 g3 g4 g5;obtain⟨v,hv,hs⟩:=AZ zC Mp;refine⟨v,hv,v,E.M,Y,zC.m0,λb o x e=>?_,zC.dj,himp _ _ hs,zC.os,zC.tape,zC.output,zC.grown,λk hk=>zC.frame k hk (λh=>h)⟩;rcases zC.fe b o x e with h|h|h
  ·exact .inl h
  ·exact .inr h
  exact h.elim
 rcases he with rfl|rfl
 ·exact key
 exact key
theorem KS{f:FuncId}{N:Nat}{args:List SV}{E1:TypeId}{n:Nat}{α:Type}{e:α->List SV}{l:List α}[el:EL e n][he:DX N e](hp:Gf P f args (TR E1 n e l)):cZ P f N args (nw N (slc n (l.map e))):=by
 intro M w vs hN hM hvs;refine(hp M w vs hM hvs).mono ?_;rintro ex w' ⟨v,M',us,rfl,hle,hnew,hin,hown,zB,HB,Sr⟩;have kH:Rows n (l.map e) (l.flatMap e):=qf l;have sS:=tg kH;rcases hown.2 with⟨h1,h2⟩|⟨g,cap,cur,h1,_,h2,h3,_,h5,h6⟩
 ·exact⟨v,M',rfl,hle,hnew,hin,⟨.inl ⟨none,h1,by have h2:l.length=0:=h2;rw[List.length_eq_zero_iff.1 h2];rfl⟩,λg e=>by rw[h1]at e;cases e⟩,Sr⟩
 have hg:v.ownBlock=some g:=by rw[h1];rfl
 obtain⟨hge,hno⟩:=HB g hg;have h3:l.length<=cap:=h3;have aco:maxLen=9223372036854775807:=by decide
 refine⟨v,λb o=>if b=g/\o<l.length*n then us[o]? else if b=g/\o=l.length*n then some (.agg #[])else M' b o,Y,λb o x q=>?_,λb o x q=>?_,λb o x q=>?_,?_,Sr⟩
 ·have:=hle b o x q;have:b≠g:=by rintro rfl;rw[hno o]at this;cases this
  simp[this];assumption
 ·simp only at q;split at q
  ·rename_i hc;exact .inr (by rw[hc.1];exact hge)
  split at q
  ·rename_i hc;exact .inr (by rw[hc.1];exact hge)
  exact hnew b o x q
 ·simp only at q;split at q
  ·rename_i hc;obtain⟨rfl,Cd⟩:=hc;refine .of ?_ (mJ l _ _ zB x (List.mem_of_getElem? q));simp only[World.cell?,h2];have h6:cur.toList.take (l.length*n)=us:=h6;rw[<-h6,List.getElem?_take,if_pos Cd]at q;simpa using q
  split at q
  ·rename_i hc;cases q;rw[hc.1];exact⟨_,_,h2⟩
  exact hin b o x q
 refine Bb ?_ (λg' e'=>by rw[hg]at e';cases e';exact⟨Nat.le_trans hN hge,l.length*n,by simp⟩);refine .inr ⟨g,0,cap,by rw[h1,List.length_map],by rw[List.length_map];exact h3,by rw[List.length_map];omega,λk row hk=>?_⟩;obtain⟨q1,q2⟩:=qb kH k row hk;refine⟨q1,λj s hs=>?_⟩;have wO:=q2 j s hs;obtain⟨y,hy,hys⟩:=zB.get wO;have hlt:k*n+j<l.length*n:=by
  have:=(List.getElem?_eq_some_iff.1 wO).1;rw[sS,List.length_map]at this;exact this
 refine⟨y,by simp[hlt,hy],mJ l _ _ zB y (List.mem_of_getElem? hy),s.mono (λb o x q=>?_) hys⟩;have:b≠g:=by rintro rfl;rw[hno o]at q;cases q
 simp[this,q]
end
section
variable {P:Program}{C:Ctx}{ops:Array Oper}{S:AS}{nd:Bool}{K:List Ac->AS->Prop}{rest:List Oper}{acc:List Ac}
variable {gd:Option (Nat×Bool)}{rg:List Nat}{d:Nat}{ty:TypeId}{pos:String}{aft:Array Edge}{x y z:Operand}{T U E0:TypeId}
variable {α:Type}{l l' k:List α}{e:α->List SV}{n by_ N:Nat}{zv:Value}
theorem RT.bH(hg:Gd ops S gd rg){f:FuncId}[cY P f]{g:Operand}{xs:Array Operand}{at_:Array TypeId}{args:List SV}{r:SV}(hp:cZ P f N args r)(hN:N<=C.w0.heap.size)(hf:S.ev g=.sv (.v (.func (.func f) #[] #[])))(hargs:hG S xs.toList args)(hd:d<S.n)
  (next:RunT P C ops nd K rest (⟨rg++(aZ g++xs.toList.flatMap aZ),[],[],⟨some (d,.sv r),[],[]⟩⟩::acc) (S.set d (.sv r))):RunT P C ops nd K (⟨some d,.call ⟨.value g,xs,at_⟩,ty,pos,aft,gd⟩::rest) acc S:=by
 refine .inl ⟨_,[],[],_,?_,next⟩;rintro S' hn ht _ _ i a w L Q ho ⟨E,h⟩ hL;refine ct (C:=C) ho (hg.wanted h (λs hs=>ht s (List.mem_append_left _ hs)) Y) ?_;have AY:a.eval g=.func (.func f) #[] #[]:=by
  have h1:=h.ev g;rw[bt (λ_ h=>List.mem_append_right _ (List.mem_append_left _ h)) ht,hf]at h1;exact h1
 have hall:=hG.vals h hargs (λs hs=>ht s (List.mem_append_right _ (List.mem_append_right _ hs)));have hr:(execOp a.eval ⟨some d,.call ⟨.value g,xs,at_⟩,ty,pos,aft,gd⟩).run P w=.ok (.enter f ⟨xs.toList.map a.eval⟩) w:=by
  have e2:xs.map a.eval=⟨xs.toList.map a.eval⟩:=by apply Array.ext';simp
  have e1:=cY.run (P:=P) (f:=f) (xs.map a.eval) w;rw[<-e2];simp[execOp,resolve,AY,Deferred.ofValue,invoke,e1]
 refine cu (C:=C) (by intro c h;cases h) hr ?_;refine⟨λh=>by simp at h,k8 ((hp E.M w _ (Nat.le_trans hN h.grown) h.dj hall).mono ?_)⟩;rintro e w' ⟨v,M',rfl,hM,hnew,hin,hv,hb⟩;exact hL _ _ ⟨_,(h.grow hM hnew hin hb).put (x:=.sv r) hv (by show d<S'.n;omega) fC⟩
theorem RT.Cx(hg:Gd ops S gd rg){m:Nat}[tS:ep P T E0 m]{c:Int}(hx:S.ev x=.sv (nw N (slc n (l.map e))))(hd:d<S.n)(hc:(l.length:Int)=c)
  (next:RunT P C ops nd K rest (⟨rg++aZ x,[],[],⟨some (d,.sv (.v (.int .i64 c))),[],[]⟩⟩::acc) (S.set d (.sv (.v (.int .i64 c))))):RunT P C ops nd K (⟨some d,.call ⟨.builtin .len,#[x],#[T]⟩,ty,pos,aft,gd⟩::rest) acc S:=
 RT.len hg hx hd (by rw[List.length_map,hc];exact next)
theorem RT.ON(hg:Gd ops S gd rg)[tS:ep P T E0 n]{kk:IntKind}{i:Int}{a:α}(hx:S.ev x=.sv (nw N (slc n (l.map e))))(hy:S.ev y=.sv (.v (.int kk i)))(hd:d<S.n)(ha:cm l i=some a)
  (next:RunT P C ops nd K rest (⟨rg++(aZ x++aZ y),[],[],⟨some (d,.sv (ref (e a))),[],[]⟩⟩::acc) (S.set d (.sv (ref (e a))))):RunT P C ops nd K (⟨some d,.indexAddr T x y,ty,pos,aft,gd⟩::rest) acc S:=
 RT.indexAddr hg (e a) hx hy hd (oe ha).1 (by rw[List.getElem?_map,(oe ha).2];rfl) next
theorem RT.KT(hg:Gd ops S gd rg)[tS:ep P T E0 n]{lo hi:Option Operand}(a b:Int)(hx:S.ev x=.sv (nw N (slc n (l.map e))))(hlo:xP S 0 lo a)(hhi:xP S l.length hi b)(hd:d<S.n)(h:wS l a b=some l')
  (next:RunT P C ops nd K rest (⟨rg++(aZ x++(mq lo++mq hi)),[],[],⟨some (d,.sv (nw N (slc n (l'.map e)))),[],[]⟩⟩::acc) (S.set d (.sv (nw N (slc n (l'.map e)))))):RunT P C ops nd K (⟨some d,.slice T x lo hi none,ty,pos,aft,gd⟩::rest) acc S:=by
 obtain⟨h0,h1,h2,h3⟩:=Ah h;exact RT.slice hg hx a b hlo (by rw[List.length_map];exact hhi) hd h0 h1 (by rw[List.length_map];exact h2) _ (by rw[Fb,h3]) next
theorem RT.Ss(hg:Gd ops S gd rg)[tS:ep P T E0 n][tE:jU P E0 n by_ zv][el:EL e n][he:DX N e]{i:Nat}(hN:N<=C.w0.heap.size)(hb:∀k,¬C.sQ k)(hx:S.ev x=.row i)(hR:S.r i=.live (TR E0 n e l))(hy:S.ev y=.sv (slc n (k.map e)))(hd:d<S.n)(vc:S.r d=.un)(sV:d<1000)(h:wU by_ l k=some l')
  (next:RunT P C ops nd K rest (⟨rg++(aZ x++aZ y),[],[d,i],⟨some (d,.sv (nw N (slc n (l'.map e)))),[],[(i,.dead),(d,.dead)]⟩⟩::acc) ((AS.cn [(i,.dead),(d,.dead)] S).set d (.sv (nw N (slc n (l'.map e)))))):RunT P C ops nd K (⟨some d,.call ⟨.builtin .append,#[x,y],#[T,T]⟩,ty,pos,aft,gd⟩::rest) acc S:=by
 obtain⟨h1,h2,rfl⟩:=tv h;have hf:l.flatMap e++(k.map e).flatten=(l++k).flatMap e:=by simp[qe]
 exact RT.Fi hg (.row hx hR) hy hd vc sV (by simpa using h1) (by simpa using h2) _ (rows':=(l++k).map e) (λ_ _ hv hg=>Bb hv (λg e=>⟨(hg g e).1.elim (λq=>Nat.le_trans hN q) (λq=>absurd q (hb g)),(hg g e).2⟩)) (by rw[hf];exact qf _) (by simp) (by rw[hf];exact mJ _) next
theorem RT.tB(hg:Gd ops S gd rg)[tS:ep P T E0 n][tE:jU P E0 n by_ zv][he:DX N e](hN:N<=C.w0.heap.size){len:Nat}{parts:Array (Nat×Operand)}{qs:List (Nat×List SV)}(hp:mm S parts.toList qs)(hd:d<S.n)
  (hc:nQ 0 qs=true) (hl:qs.length=len) (hsz:(qs.all λq=>Nat.beq q.2.length n)=true) (hlen:Nat.ble (len*n) 16777216=true) (Gc:(zv.cells.toList.all λv=>v.oneCell')=true) (kH:qs.map (·.2)=l.map e)
  (next:RunT P C ops nd K rest (⟨rg++j1 parts.toList,[],[],⟨some (d,.sv (nw N (slc n (l.map e)))),[],[]⟩⟩::acc) (S.set d (.sv (nw N (slc n (l.map e)))))):RunT P C ops nd K (⟨some d,.buildSlice T len parts,ty,pos,aft,gd⟩::rest) acc S:=by
 refine .inl ⟨_,[],[],_,?_,next⟩;rintro S' hn ht _ _ i a w L Q ho ⟨E,h⟩ hL;refine ct (C:=C) ho (hg.wanted h (λs hs=>ht s (List.mem_append_left _ hs)) Y) ?_;obtain⟨vs,hr,hall,hone⟩:=mS (P:=P) (T:=T) (E0:=E0) (n:=n) (by_:=by_) (zv:=zv) (d:=d) (ty:=ty) (pos:=pos) (aft:=aft) (gd:=gd) h hp (λs hs=>ht s (List.mem_append_right _ hs)) hc hl hsz (af hlen) (List.all_eq_true.1 Gc);refine cu (C:=C) (by intro c h;cases h) hr (hL _ _ ⟨_,(h.KR vs E0 hone).put (d:=d) (x:=.sv (nw N (slc n (l.map e)))) (v:=.slice (some ⟨w.heap.size,0,none⟩) len len) ?_ (by show d<S'.n;omega) fC⟩);have hrw:Rows n (qs.map (·.2)) (qs.map (·.2)).flatten:=⟨Y,λr hr=>by
  obtain⟨q,hq,rfl⟩:=List.mem_map.1 hr;exact Nat.eq_of_beq_eq_true (List.all_eq_true.1 hsz q hq)⟩
 have HF:=tE.p;have hlb:len<=16777216:=Nat.le_trans (Nat.le_mul_of_pos_right _ HF) (af hlen);refine Bb ?_ (λg e=>by cases e;exact⟨Nat.le_trans hN h.grown,vs.length,by simp⟩);rw[<-kH];refine .inr ⟨w.heap.size,0,len,by rw[List.length_map,hl],by rw[List.length_map,hl];exact Nat.le_refl _,by rw[List.length_map,hl];omega,λk row hk=>?_⟩;obtain⟨q1,q2⟩:=qb hrw k row hk;refine⟨q1,λj s hs=>?_⟩;obtain⟨y,hy,hys⟩:=hall.get (q2 j s hs);refine⟨y,by show(if w.heap.size=w.heap.size then(vs++[Value.agg #[]])[0+k*n+j]? else _)=_;rw[if_pos Y,Nat.zero_add,List.getElem?_append_left (List.getElem?_eq_some_iff.1 hy).1];exact hy,hone y (List.mem_of_getElem? hy),s.mono (λb o v e=>?_) hys⟩;have:b≠w.heap.size:=by rintro rfl;have:=lY h.dj e;omega
 simp[this,e]
end
end
section
open Go.RowKit
theorem ff{P:Program}{f:FuncId}{args:List SV}{r:Nat->SV}{s:SV}(hp:∀N,cZ P f N args (r N))(hi:∀N,SV.imp (r N) s):Pure P f args s:=λM w vs hM hv=>(hp w.heap.size M w vs (Nat.le_refl _) hM hv).mono (λ_ _ ⟨v,M',h1,h2,h3,h4,h5,h6⟩=>⟨v,M',h1,h2,h3,h4,hi _ _ _ h5,h6⟩)
section steps
variable {P:Program}{C:Ctx}{ops:Array Oper}{S:AS}{nd:Bool}{K:List Ac->AS->Prop}{rest:List Oper}{acc:List Ac}{N:Nat}
variable {gd:Option (Nat×Bool)}{rg:List Nat}{d:Nat}{ty:TypeId}{pos:String}{aft:Array Edge}{x y z:Operand}{T U E0:TypeId}
end steps
end
end Go.Fw
namespace Go.Proofs.YtdpjpoekcgigkaaGreat
section
open Go.Fw
noncomputable def dz(x0:List Nat):Option (List Nat):=wU 4 [] x0
noncomputable def bK(x0:Nat)(c0:Nat):Option (Nat×Nat):=(some ((x0+c0)%18446744073709551616)).bind λx6=>(some (x6/2^32)).bind λx8=>(some (x6%4294967296)).bind λew=>some (ew,x8)
noncomputable def bp(x0:List Nat):Option (List Nat):=(b9 (λ(wV:(List Nat))=>(show Option (((List Nat))⊕((List Nat)))from cj (λ(yg:Bool)=>(bif yg then(some (wV.length:Int)).bind λez=>(some (IntKind.i64.wrap (ez-1))).bind λeF=>(wS wV 0 eF).bind λlU=>some (.inl lU)else some (.inr wV))) λOO=>(some (wV.length:Int)).bind λx4=>(some (decide ((0:Int)<x4))).bind λx5=>(bif x5 then(some (wV.length:Int)).bind λx9=>(some (IntKind.i64.wrap (x9-1))).bind λew=>(cm wV ew).bind λeG=>(some (decide ((eG:Nat)=0))).bind λjv=>some jv else some false).bind λDY=>OO DY)) x0).bind λyh=>some yh
noncomputable def bX(x0:Bool)(x1:List Nat):Option (Zr):=(bp x1).bind λx6=>(some (x6.length:Int)).bind λx8=>(some (decide ((x8:Int)=0))).bind λx9=>(bif x9 then some ⟨false,[]⟩else some ⟨x0,x6⟩)
noncomputable def dR(x0:Bool)(x1:Nat):Option (Zr):=(some (decide ((x1:Nat)=0))).bind λx7=>(bif x7 then some ⟨false,[]⟩else(some (x1/2^32)).bind λeG=>(some (decide ((eG:Nat)=0))).bind λeA=>(bif eA then(some (x1%4294967296)).bind λgQ=>some ⟨x0,[gQ]⟩else(some (x1%4294967296)).bind λje=>(some (x1/2^32)).bind λiM=>(some (iM%4294967296)).bind λig=>some ⟨x0,[je,ig]⟩))
noncomputable def c4(x0:List Nat):Option (Nat):=(some (x0.length:Int)).bind λx4=>(some (decide ((x4:Int)=0))).bind λx6=>(bif x6 then some 0 else(some (decide ((x4:Int)=1))).bind λx8=>(bif x8 then(cm x0 0).bind λew=>(some (ew%18446744073709551616)).bind λeA=>some eA else(cm x0 0).bind λgw=>(some (gw%18446744073709551616)).bind λfX=>(cm x0 1).bind λeF=>(some (eF%18446744073709551616)).bind λje=>(some (je*2^32%18446744073709551616)).bind λgY=>(some ((fX ||| gY)%18446744073709551616)).bind λiM=>some iM))
noncomputable def cr(x0:List Nat)(x1:List Nat):Option (Int):=(some (x0.length:Int)).bind λx7=>(some (x1.length:Int)).bind λx9=>(some (decide ((x7:Int)≠x9))).bind λew=>(bif ew then(some (x0.length:Int)).bind λeA=>(some (x1.length:Int)).bind λgw=>(some (decide ((eA:Int)<gw))).bind λgQ=>(bif gQ then some (-1)else some 1)else(some (x0.length:Int)).bind λez=>(some (IntKind.i64.wrap (ez-1))).bind λeF=>(b9 (λ(jw:Int)=>(show Option ((Int)⊕((Unit)⊕(Int)))from(some (decide ((0:Int)<=jw))).bind λje=>(bif je then(cm x0 jw).bind λjC=>(cm x1 jw).bind λiq=>(some (decide ((jC:Nat)≠iq))).bind λnR=>(bif nR then(cm x0 jw).bind λmK=>(cm x1 jw).bind λsu=>(some (decide ((mK:Nat)<su))).bind λnS=>(bif nS then some (.inr (.inr (-1)))else some (.inr (.inr 1)))else(some (IntKind.i64.wrap (jw-1))).bind λiM=>some (.inl iM))else some (.inr (.inl ()))))) eF).bind λe6=>match e6 with|.inr v6=>some v6|.inl _=>some 0)
noncomputable def dM(x0:List Nat)(x1:List Nat):Option (List Nat):=(some (x0.length:Int)).bind λew=>(some (x1.length:Int)).bind λeA=>(some (max (ew:Int) eA)).bind λjv=>(some (IntKind.i64.wrap (jv+1))).bind λgw=>(KE (α:=Nat) 4 gw).bind λgQ=>(oQ (λ(k:Nat) (s7:Nat×(List Nat))=>match s7 with|⟨tC,ir⟩=>(show Option (Nat×(List Nat))from(some (x0.getD k 0%18446744073709551616)).bind λWo=>(some (x1.getD k 0%18446744073709551616)).bind λWp=>(some ((Wo+Wp)%18446744073709551616)).bind λgR=>(bK gR tC).bind λ⟨jV,k9⟩=>(wU 4 ir [jV]).bind λiq=>some (k9,iq))) (max x0.length x1.length) (0,gQ)).bind λe7=>match e7 with|⟨tC,ir⟩=>(bK 0 tC).bind λ⟨iN,k11⟩=>(wU 4 ir [iN]).bind λmK=>some mK
noncomputable def cI(x0:List Nat)(x1:List Nat):Option (List Nat):=(some (x0.length:Int)).bind λew=>(KE (α:=Nat) 4 ew).bind λeG=>(oQ (λ(k:Nat) (s7:Nat×(List Nat))=>match s7 with|⟨xq,ir⟩=>(show Option (Nat×(List Nat))from(some (x0.getD k 0%18446744073709551616)).bind λWq=>(some (x1.getD k 0%18446744073709551616)).bind λWr=>(some (mW 18446744073709551616 4294967295 Wr)).bind λiM=>(some ((Wq+iM)%18446744073709551616)).bind λig=>(bK ig xq).bind λ⟨g9,k9⟩=>(wU 4 ir [g9]).bind λgR=>some (k9,gR))) (max x0.length x1.length) (1,eG)).bind λe7=>match e7 with|⟨xq,ir⟩=>some ir
noncomputable def eX(x0:List Nat)(x1:List Nat):Option (List Nat):=(some (x0.length:Int)).bind λeA=>(some (x1.length:Int)).bind λgw=>(some (IntKind.i64.wrap (eA+gw))).bind λgQ=>(DT 4 gQ (0:Nat)).bind λfX=>(some (x0.length:Int)).bind λeF=>(b9 (λ(Ri:Int×(List Nat))=>match Ri with|⟨mX,Bc⟩=>(show Option ((Int×(List Nat))⊕((List Nat)))from(some (decide ((mX:Int)<eF))).bind λje=>(bif je then(cm x0 mX).bind λiM=>(some (x1.length:Int)).bind λgR=>(b9 (λ(OP:Int×Nat×(List Nat))=>match OP with|⟨vm,tD,sw⟩=>(show Option ((Int×Nat×(List Nat))⊕(Nat×(List Nat)))from(some (decide ((vm:Int)<gR))).bind λn9=>(bif n9 then(cm x1 vm).bind λyj=>(some (IntKind.i64.wrap (mX+vm))).bind λqY=>(some (IntKind.i64.wrap (mX+vm))).bind λnS=>(vh sw nS).bind λwW=>(sw[wW]?).bind λuV=>(some (uV%18446744073709551616)).bind λB6=>(some (iM%18446744073709551616)).bind λxu=>(some (yj%18446744073709551616)).bind λB7=>(some ((xu*B7)%18446744073709551616)).bind λvn=>(some ((B6+vn)%18446744073709551616)).bind λx49=>(bK x49 tD).bind λ⟨vo,Ws⟩=>(vh sw qY).bind λGj=>(stM sw Gj vo).bind λWt=>(some (IntKind.i64.wrap (vm+1))).bind λCy=>some (.inl (Cy,Ws,Wt))else some (.inr (tD,sw))))) (0,0,Bc)).bind λWu=>match Wu with|⟨Cz,DZ⟩=>(some (x1.length:Int)).bind λSt=>(some (IntKind.i64.wrap (mX+St))).bind λSu=>(bK 0 Cz).bind λ⟨OQ,k45⟩=>(vh DZ Su).bind λGk=>(stM DZ Gk OQ).bind λWv=>(some (IntKind.i64.wrap (mX+1))).bind λOR=>some (.inl (OR,Wv))else some (.inr Bc)))) (0,fX)).bind λsx=>some sx
noncomputable def gx(x0:List Nat)(x1:Nat):Option (Nat×List Nat):=(some (x0.length:Int)).bind λx9=>(some (IntKind.i64.wrap (x9-1))).bind λew=>(b9 (λ(s8:Nat×Int×(List Nat))=>match s8 with|⟨Ie,CA,oR⟩=>(show Option ((Nat×Int×(List Nat))⊕(Nat×(List Nat)))from(some (decide ((0:Int)<=CA))).bind λeA=>(bif eA then(some (Ie*2^32%18446744073709551616)).bind λfX=>(vh oR CA).bind λlU=>(oR[lU]?).bind λje=>(some (je%18446744073709551616)).bind λgY=>(some ((fX ||| gY)%18446744073709551616)).bind λiM=>(A7 18446744073709551616 iM x1).bind λjV=>(some (jV%4294967296)).bind λn9=>(vh oR CA).bind λiq=>(stM oR iq n9).bind λD0=>(zG iM x1).bind λiN=>(some (IntKind.i64.wrap (CA-1))).bind λgw=>some (.inl (iN,gw,D0))else some (.inr (Ie,oR))))) (0,ew,x0)).bind λe8=>match e8 with|⟨Sv,xw⟩=>(rQ x0 xw).bind λ_=>some (Sv,xw)
noncomputable def ei(x0:List Nat)(x1:Nat):Option (List Nat):=(some (x0.length:Int)).bind λeG=>(some (IntKind.i64.wrap (eG+1))).bind λeA=>(KE (α:=Nat) 4 eA).bind λjv=>(some (x0.length:Int)).bind λgQ=>(b9 (λ(s8:Int×Nat×(List Nat))=>match s8 with|⟨tF,oS,ir⟩=>(show Option ((Int×Nat×(List Nat))⊕(Nat×(List Nat)))from(some (decide ((tF:Int)<gQ))).bind λez=>(bif ez then(cm x0 tF).bind λeF=>(some (eF%18446744073709551616)).bind λig=>(some (ig*2^(min x1 64)%18446744073709551616)).bind λjC=>(bK jC oS).bind λ⟨gR,OS⟩=>(wU 4 ir [gR]).bind λn9=>(some (IntKind.i64.wrap (tF+1))).bind λiq=>some (.inl (iq,OS,n9))else some (.inr (oS,ir))))) (0,0,jv)).bind λe8=>match e8 with|⟨yl,Ig⟩=>(bK 0 yl).bind λ⟨iN,Ww⟩=>(wU 4 Ig [iN]).bind λmK=>some mK
noncomputable def gH(x0:List Nat)(x1:Nat):Option (List Nat):=(some (x0.length:Int)).bind λeG=>(some (IntKind.i64.wrap (eG+1))).bind λeA=>(KE (α:=Nat) 4 eA).bind λjv=>(some (x0.length:Int)).bind λgQ=>(b9 (λ(s8:Int×Nat×(List Nat))=>match s8 with|⟨tF,oS,nT⟩=>(show Option ((Int×Nat×(List Nat))⊕(Nat×(List Nat)))from(some (decide ((tF:Int)<gQ))).bind λez=>(bif ez then(cm x0 tF).bind λeF=>(some (eF%18446744073709551616)).bind λig=>(some (ig*2^(min x1 64)%18446744073709551616)).bind λjC=>(bK jC oS).bind λ⟨gR,OS⟩=>(wU 4 nT [gR]).bind λn9=>(some (IntKind.i64.wrap (tF+1))).bind λiq=>some (.inl (iq,OS,n9))else some (.inr (oS,nT))))) (0,0,jv)).bind λe8=>match e8 with|⟨yl,nU⟩=>(bK 0 yl).bind λ⟨iN,Ww⟩=>(wU 4 nU [iN]).bind λmK=>some mK
noncomputable def fE(x0:Nat):Option (Int):=(some (decide ((65536:Nat)<=x0))).bind λx4=>cj (λ(j2:Nat×Int)=>match j2 with|⟨D1,KU⟩=>(some (decide ((256:Nat)<=D1))).bind λx8=>cj (λ(j4:Nat×Int)=>match j4 with|⟨Sw,Sx⟩=>(some (Sw%256)).bind λgQ=>(rP [0,1,2,2,3,3,3,3,4,4,4,4,4,4,4,4,5,5,5,5,5,5,5,5,5,5,5,5,5,5,5,5,6,6,6,6,6,6,6,6,6,6,6,6,6,6,6,6,6,6,6,6,6,6,6,6,6,6,6,6,6,6,6,6,7,7,7,7,7,7,7,7,7,7,7,7,7,7,7,7,7,7,7,7,7,7,7,7,7,7,7,7,7,7,7,7,7,7,7,7,7,7,7,7,7,7,7,7,7,7,7,7,7,7,7,7,7,7,7,7,7,7,7,7,7,7,7,7,8,8,8,8,8,8,8,8,8,8,8,8,8,8,8,8,8,8,8,8,8,8,8,8,8,8,8,8,8,8,8,8,8,8,8,8,8,8,8,8,8,8,8,8,8,8,8,8,8,8,8,8,8,8,8,8,8,8,8,8,8,8,8,8,8,8,8,8,8,8,8,8,8,8,8,8,8,8,8,8,8,8,8,8,8,8,8,8,8,8,8,8,8,8,8,8,8,8,8,8,8,8,8,8,8,8,8,8,8,8,8,8,8,8,8,8,8,8,8,8,8,8,8,8,8,8,8,8] ((gQ:Nat):Int)).bind λfX=>(some (IntKind.i64.wrap (fX:Int))).bind λez=>(some (IntKind.i64.wrap (Sx+ez))).bind λeF=>some eF) λK4=>(bif x8 then(some (D1/2^8)).bind λew=>(some (IntKind.i64.wrap (KU+8))).bind λeA=>K4 (ew,eA)else K4 (D1,KU))) λK2=>(bif x4 then(some (x0/2^16)).bind λx6=>K2 (x6,16)else K2 (x0,0))
noncomputable def cP(x0:Nat):Option (Int):=(fE x0).bind λx4=>(some (IntKind.i64.wrap (32-x4))).bind λx5=>some x5
noncomputable def gy(x0:List Nat)(o0:Nat)(n0:Nat)(x1:List Nat):Option (Nat×List Nat):=(some (x1.length:Int)).bind λeA=>(Kc o0 n0 eA).bind λgQ=>(x0[gQ]?).bind λfX=>(some (fX%18446744073709551616)).bind λez=>(some (ez*2^32%18446744073709551616)).bind λeF=>(some (IntKind.i64.wrap (eA-1))).bind λgY=>(Kc o0 n0 gY).bind λiM=>(x0[iM]?).bind λig=>(some (ig%18446744073709551616)).bind λg9=>(some ((eF ||| g9)%18446744073709551616)).bind λjC=>(some (IntKind.i64.wrap (eA-1))).bind λn9=>(cm x1 n9).bind λiq=>(some (iq%18446744073709551616)).bind λnR=>(some (IntKind.i64.wrap (eA-2))).bind λmK=>(cm x1 mK).bind λqY=>(some (qY%18446744073709551616)).bind λrF=>(A7 18446744073709551616 jC nR).bind λnS=>(zG jC nR).bind λB6=>(b9 (λ(uW:Nat×Nat)=>match uW with|⟨zK,An⟩=>(show Option ((Nat×Nat)⊕(Nat))from cj (λ(D2:Bool)=>(bif D2 then(some (mW 18446744073709551616 zK 1)).bind λDF=>(some ((An+nR)%18446744073709551616)).bind λMz=>(some (Mz/2^32)).bind λGl=>(some (decide ((Gl:Nat)≠0))).bind λWx=>(bif Wx then some (.inr DF)else some (.inl (DF,Mz)))else some (.inr zK))) λOO=>(some (zK/2^32)).bind λxu=>(some (decide ((xu:Nat)≠0))).bind λsW=>(bif sW then some true else(some ((zK*rF)%18446744073709551616)).bind λvo=>(some (An*2^32%18446744073709551616)).bind λCy=>(some (IntKind.i64.wrap (eA-2))).bind λKV=>(Kc o0 n0 KV).bind λSt=>(x0[St]?).bind λSu=>(some (Su%18446744073709551616)).bind λFq=>(some ((Cy ||| Fq)%18446744073709551616)).bind λOQ=>(some (decide ((OQ:Nat)<vo))).bind λGk=>some Gk).bind λIh=>OO Ih)) (nS,B6)).bind λGm=>(rQ x0 x0).bind λ_=>some (Gm,x0)
noncomputable def cJ(x0:List Nat)(o0:Nat)(n0:Nat)(x1:List Nat)(x2:Nat):Option (Bool×List Nat):=(some (n0:Int)).bind λgw=>(b9 (λ(D3:Nat×Int×Nat×(List Nat))=>match D3 with|⟨Gn,tG,Bd,qZ⟩=>(show Option ((Nat×Int×Nat×(List Nat))⊕(Nat×(List Nat)))from(some (decide ((tG:Int)<gw))).bind λfX=>(bif fX then(some (x1.length:Int)).bind λje=>(some (decide ((tG:Int)<je))).bind λgY=>cj (λ(Ii:Nat)=>(Kc o0 n0 tG).bind λnR=>(qZ[nR]?).bind λiN=>(some (iN%18446744073709551616)).bind λmL=>(bK Ii Bd).bind λ⟨vp,Wy⟩=>(some (vp%18446744073709551616)).bind λrF=>(some (mW 18446744073709551616 mL rF)).bind λsu=>(some (mW 18446744073709551616 su Gn)).bind λnS=>(some (nS%4294967296)).bind λAo=>(Kc o0 n0 tG).bind λxu=>(stM qZ xu Ao).bind λWz=>(some (nS/2^63)).bind λB7=>(some (IntKind.i64.wrap (tG+1))).bind λvn=>some (.inl (B7,vn,Wy,Wz))) λK14=>(bif gY then(cm x1 tG).bind λg9=>(some (g9%18446744073709551616)).bind λgR=>(some ((gR*x2)%18446744073709551616)).bind λn9=>K14 n9 else K14 0)else some (.inr (Gn,qZ))))) (0,0,0,x0)).bind λOT=>match OT with|⟨Ij,tH⟩=>(some (decide ((Ij:Nat)≠0))).bind λvo=>(rQ x0 tH).bind λ_=>some (vo,tH)
noncomputable def gS(x0:List Nat)(x1:List Nat):Option ((List Nat)×(List Nat)):=(some (x1.length:Int)).bind λez=>(some (IntKind.i64.wrap (ez-1))).bind λje=>(cm x1 je).bind λgY=>(cP gY).bind λig=>(some ((ig%18446744073709551616).toNat)).bind λg9=>(gH x0 g9).bind λjV=>(ei x1 g9).bind λyj=>(wS yj 0 ez).bind λiN=>(some (x0.length:Int)).bind λmK=>(some (IntKind.i64.wrap (mK-ez))).bind λvp=>(some (IntKind.i64.wrap (vp+1))).bind λrF=>(DT 4 rF (0:Nat)).bind λsu=>(some (x0.length:Int)).bind λnS=>(some (IntKind.i64.wrap (nS-ez))).bind λuV=>(b9 (λ(OU:Int×(List Nat)×(List Nat))=>match OU with|⟨iu,qj,sy⟩=>(show Option ((Int×(List Nat)×(List Nat))⊕((List Nat)×(List Nat)))from(some (decide ((0:Int)<=iu))).bind λAo=>(bif Ao then(some (IntKind.i64.wrap (iu+ez))).bind λGj=>(some (IntKind.i64.wrap (Gj+1))).bind λCy=>(OI sy iu Cy).bind λ⟨o53,n53⟩=>(gy sy o53 n53 iN).bind λ⟨KV,OV⟩=>(rQ sy OV).bind λ_=>(some (IntKind.i64.wrap (iu+ez))).bind λGk=>(some (IntKind.i64.wrap (Gk+1))).bind λOR=>(OI OV iu OR).bind λ⟨o62,n62⟩=>(cJ OV o62 n62 iN KV).bind λ⟨OW,Rj⟩=>(rQ OV Rj).bind λ_=>cj (λ(Rk:Nat×(List Nat))=>match Rk with|⟨Ik,D4⟩=>(some (Ik%4294967296)).bind λOX=>(vh qj iu).bind λSy=>(stM qj Sy OX).bind λWA=>(some (IntKind.i64.wrap (iu-1))).bind λsW=>some (.inl (sW,WA,D4))) λK53=>(bif OW then(some (mW 18446744073709551616 KV 1)).bind λSz=>(some (iN.length:Int)).bind λOY=>(b9 (λ(OZ:Int×Nat×(List Nat))=>match OZ with|⟨vr,tJ,sB⟩=>(show Option ((Int×Nat×(List Nat))⊕(Nat×(List Nat)))from(some (decide ((vr:Int)<OY))).bind λWB=>(bif WB then(cm iN vr).bind λSA=>(some (IntKind.i64.wrap (iu+vr))).bind λx79=>(some (IntKind.i64.wrap (iu+vr))).bind λx84=>(vh sB x84).bind λKW=>(sB[KW]?).bind λD5=>(some (D5%18446744073709551616)).bind λWC=>(some (SA%18446744073709551616)).bind λIl=>(some ((WC+Il)%18446744073709551616)).bind λSB=>(bK SB tJ).bind λ⟨O0,WD⟩=>(vh sB x79).bind λx92=>(stM sB x92 O0).bind λWE=>(some (IntKind.i64.wrap (vr+1))).bind λO1=>some (.inl (O1,WD,WE))else some (.inr (tJ,sB))))) (0,0,Rj)).bind λWG=>match WG with|⟨CB,ym⟩=>(some (IntKind.i64.wrap (iu+ez))).bind λRl=>(some (IntKind.i64.wrap (iu+ez))).bind λD6=>(vh ym D6).bind λIm=>(ym[Im]?).bind λD7=>(some (D7%18446744073709551616)).bind λBe=>(bK Be CB).bind λ⟨Gp,k72⟩=>(vh ym Rl).bind λSC=>(stM ym SC Gp).bind λWH=>K53 (Sz,WH)else K53 (KV,Rj))else some (.inr (qj,sy))))) (uV,su,jV)).bind λWI=>match WI with|⟨yn,vu⟩=>(DT 4 ez (0:Nat)).bind λD8=>(b9 (λ(Rm:Int×(List Nat))=>match Rm with|⟨q9,tK⟩=>(show Option ((Int×(List Nat))⊕((List Nat)))from(some (decide ((q9:Int)<ez))).bind λO2=>(bif O2 then(vh vu q9).bind λSD=>(vu[SD]?).bind λSE=>(some (SE%18446744073709551616)).bind λO3=>(some (IntKind.i64.wrap (q9+1))).bind λSF=>(vh vu SF).bind λSG=>(vu[SG]?).bind λSH=>(some (SH%18446744073709551616)).bind λO4=>(some (O4*2^32%18446744073709551616)).bind λO5=>(some ((O3 ||| O5)%18446744073709551616)).bind λO6=>(some (O6/2^(min g9 64))).bind λSI=>(some (SI%4294967296)).bind λO7=>(vh tK q9).bind λSJ=>(stM tK SJ O7).bind λWJ=>(some (IntKind.i64.wrap (q9+1))).bind λO8=>some (.inl (O8,WJ))else some (.inr tK)))) (0,D8)).bind λoT=>some (yn,oT)
noncomputable def eY(x0:List Nat)(x1:List Nat):Option ((List Nat)×(List Nat)):=(cr x0 x1).bind λeA=>(some (decide ((eA:Int)<0))).bind λjv=>(bif jv then(dz x0).bind λgQ=>some ([],gQ)else(some (x0.length:Int)).bind λeF=>(some (decide ((eF:Int)<=2))).bind λlU=>(bif lU then(c4 x0).bind λgY=>(c4 x1).bind λig=>(A7 18446744073709551616 gY ig).bind λgR=>(dR false gR).bind λ⟨Fs,CC⟩=>(zG gY ig).bind λnR=>(dR false nR).bind λ⟨jD,jg⟩=>some (CC,jg)else(some (x1.length:Int)).bind λvp=>(some (decide ((vp:Int)=1))).bind λrF=>(bif rF then(dz x0).bind λuX=>(cm x1 0).bind λuV=>(some (uV%18446744073709551616)).bind λAo=>(gx uX Ao).bind λ⟨xu,l5⟩=>(rQ uX l5).bind λ_=>(some (xu%4294967296)).bind λvn=>some (l5,[vn])else(gS x0 x1).bind λ⟨SK,SL⟩=>some (SK,SL))))
noncomputable def bR(x0:Int):Option (Zr):=(some ((x0%18446744073709551616).toNat)).bind λx5=>(some (decide ((x0:Int)<0))).bind λx7=>cj (λ(CD:Nat)=>(some (decide ((x0:Int)<0))).bind λeG=>(dR eG CD).bind λ⟨qk,ql⟩=>some ⟨qk,ql⟩) λK2=>(bif x7 then(some (mW 18446744073709551616 0 x5)).bind λx9=>K2 x9 else K2 x5)
noncomputable def cU(x0:Zr):Option (Int×Bool):=match x0 with|⟨bC,bA⟩=>(bp bA).bind λx8=>(some (x8.length:Int)).bind λew=>(some (decide ((2:Int)<ew))).bind λeG=>(bif eG then some (0,false)else(c4 x8).bind λjv=>(bif bC then(some (decide ((9223372036854775808:Nat)<jv))).bind λez=>(bif ez then some (0,false)else(some (mW 18446744073709551616 0 jv)).bind λlU=>(some (IntKind.i64.wrap (lU:Int))).bind λje=>some (je,true))else(some (decide ((9223372036854775808:Nat)<=jv))).bind λiM=>(bif iM then some (0,false)else(some (IntKind.i64.wrap (jv:Int))).bind λg9=>some (g9,true))))
noncomputable def cO(x0:Bool)(x1:List Nat)(x2:Bool)(x3:List Nat):Option (Zr):=(some (x0==x2)).bind λeG=>(bif eG then(dM x1 x3).bind λgQ=>(bX x0 gQ).bind λ⟨dK,dL⟩=>some ⟨dK,dL⟩else(cr x1 x3).bind λlU=>(some (decide ((lU:Int)<0))).bind λje=>(bif je then(cI x3 x1).bind λg9=>(bX x2 g9).bind λ⟨tL,tN⟩=>some ⟨tL,tN⟩else(cI x1 x3).bind λiq=>(bX x0 iq).bind λ⟨pz,pA⟩=>some ⟨pz,pA⟩))
noncomputable def lz(x0:Zr)(x1:Zr):Option (Zr):=match x0 with|⟨bC,bA⟩=>match x1 with|⟨bP,bN⟩=>(cU ⟨bC,bA⟩).bind λ⟨zL,D9⟩=>(cU ⟨bP,bN⟩).bind λ⟨Bf,Ea⟩=>cj (λ(yo:Bool)=>cj (λ(j5:Unit)=>(bp bA).bind λwW=>(bp bN).bind λsW=>(cO bC wW bP sW).bind λ⟨CE,CF⟩=>some ⟨CE,CF⟩) λK5=>(bif yo then(some (IntKind.i64.wrap (zL+Bf))).bind λgR=>(some (IntKind.i64.wrap ((BitVec.ofInt 64 zL ^^^ BitVec.ofInt 64 gR).toNat))).bind λiq=>(some (IntKind.i64.wrap ((BitVec.ofInt 64 Bf ^^^ BitVec.ofInt 64 gR).toNat))).bind λiN=>(some (IntKind.i64.wrap ((BitVec.ofInt 64 iq &&& BitVec.ofInt 64 iN).toNat))).bind λmL=>(some (decide ((0:Int)<=mL))).bind λmK=>(bif mK then(bR gR).bind λ⟨kI,kJ⟩=>some ⟨kI,kJ⟩else K5 ())else K5 ())) λK3=>(bif D9 then some Ea else some false).bind λCG=>K3 CG
noncomputable def lA(x0:Zr)(x1:Zr):Option (Zr):=match x0 with|⟨bC,bA⟩=>match x1 with|⟨bP,bN⟩=>(cU ⟨bC,bA⟩).bind λ⟨zL,D9⟩=>(cU ⟨bP,bN⟩).bind λ⟨Bf,Ea⟩=>cj (λ(yo:Bool)=>cj (λ(j5:Unit)=>(bp bA).bind λwW=>(some (!bP)).bind λAo=>(bp bN).bind λB7=>(cO bC wW Ao B7).bind λ⟨MA,MB⟩=>some ⟨MA,MB⟩) λK5=>(bif yo then(some (IntKind.i64.wrap (zL-Bf))).bind λgR=>(some (IntKind.i64.wrap ((BitVec.ofInt 64 zL ^^^ BitVec.ofInt 64 Bf).toNat))).bind λiq=>(some (IntKind.i64.wrap ((BitVec.ofInt 64 zL ^^^ BitVec.ofInt 64 gR).toNat))).bind λiN=>(some (IntKind.i64.wrap ((BitVec.ofInt 64 iq &&& BitVec.ofInt 64 iN).toNat))).bind λmL=>(some (decide ((0:Int)<=mL))).bind λmK=>(bif mK then(bR gR).bind λ⟨kI,kJ⟩=>some ⟨kI,kJ⟩else K5 ())else K5 ())) λK3=>(bif D9 then some Ea else some false).bind λCG=>K3 CG
noncomputable def cQ(x0:Zr)(x1:Zr):Option (Zr):=match x0 with|⟨bC,bA⟩=>match x1 with|⟨bP,bN⟩=>(bp bA).bind λx9=>(bp bN).bind λeA=>cj (λ(Io:Bool)=>(bif Io then(some (!(bC==bP))).bind λjC=>(c4 x9).bind λjV=>(c4 eA).bind λiq=>(some ((jV*iq)%18446744073709551616)).bind λyj=>(dR jC yj).bind λ⟨MC,MD⟩=>some ⟨MC,MD⟩else(some (!(bC==bP))).bind λvp=>(eX x9 eA).bind λuX=>(bX vp uX).bind λ⟨wc,we⟩=>some ⟨wc,we⟩)) λK3=>(some (x9.length:Int)).bind λgw=>(some (decide ((gw:Int)<=1))).bind λgQ=>(bif gQ then(some (eA.length:Int)).bind λeF=>(some (decide ((eF:Int)<=1))).bind λlU=>some lU else some false).bind λME=>K3 ME
noncomputable def eN(x0:Zr):Option (Zr):=match x0 with|⟨bC,bA⟩=>(some (!bC)).bind λx5=>(bp bA).bind λx8=>(dz x8).bind λx9=>(bX x5 x9).bind λ⟨wh,wj⟩=>some ⟨wh,wj⟩
noncomputable def cz(x0:Zr):Option (Int):=match x0 with|⟨bC,bA⟩=>(bp bA).bind λx6=>(some (x6.length:Int)).bind λx7=>(some (decide ((x7:Int)=0))).bind λx8=>(bif x8 then some 0 else(bif bC then some (-1)else some 1))
noncomputable def lB(x0:Zr)(x1:Zr):Option (Int):=match x0 with|⟨bC,bA⟩=>match x1 with|⟨bP,bN⟩=>(cz ⟨bC,bA⟩).bind λx8=>(cz ⟨bP,bN⟩).bind λew=>(some (decide ((x8:Int)<ew))).bind λgw=>(bif gw then some (-1)else(some (decide ((ew:Int)<x8))).bind λeF=>(bif eF then some 1 else(some (decide ((x8:Int)<0))).bind λgY=>(bif gY then(bp bN).bind λg9=>(bp bA).bind λjV=>(cr g9 jV).bind λn9=>some n9 else(bp bA).bind λnR=>(bp bN).bind λmK=>(cr nR mK).bind λqY=>some qY)))
noncomputable def dV(x0:Zr)(x1:Zr):Option (Zr×Zr×Int):=match x0 with|⟨bC,bA⟩=>match x1 with|⟨bP,bN⟩=>(bp bA).bind λjv=>(bp bN).bind λfX=>(some (fX.length:Int)).bind λeF=>(some (decide ((eF:Int)=0))).bind λlU=>(bif lU then some (⟨false,[]⟩,⟨false,[]⟩,7)else(eY jv fX).bind λ⟨yp,Bg⟩=>(bp Bg).bind λiq=>cj (λ(j3:Bool×Bool)=>match j3 with|⟨Ip,sD⟩=>cj (λ(j5:(List Nat)×(List Nat))=>match j5 with|⟨Iq,CH⟩=>(some (!(sD==bP))).bind λB7=>(bX B7 Iq).bind λ⟨CI,CJ⟩=>(bX false CH).bind λ⟨MF,MG⟩=>some (⟨CI,CJ⟩,⟨MF,MG⟩,0)) λK5=>(bif Ip then(dM yp [1]).bind λuX=>(cI fX iq).bind λuV=>K5 (uX,uV)else K5 (yp,iq))) λK3=>(bif bC then(some (iq.length:Int)).bind λmK=>(some (decide ((0:Int)<mK))).bind λqY=>some qY else some false).bind λMH=>K3 (MH,bC))
noncomputable def jE(x0:Zr)(x1:Zr):Option (Zr):=match x0 with|⟨bC,bA⟩=>match x1 with|⟨bP,bN⟩=>(bp bA).bind λjv=>(bp bN).bind λfX=>(b9 (λ(D3:(List Nat)×(List Nat))=>match D3 with|⟨wX,Bh⟩=>(show Option (((List Nat)×(List Nat))⊕((List Nat)×(List Nat)))from cj (λ(Eb:Bool)=>(bif Eb then(eY wX Bh).bind λ⟨WK,SM⟩=>(bp SM).bind λsu=>some (.inl (Bh,su))else some (.inr (wX,Bh)))) λO9=>(some (Bh.length:Int)).bind λeF=>(some (decide ((0:Int)<eF))).bind λlU=>(bif lU then(some (wX.length:Int)).bind λiM=>(some (decide ((2:Int)<iM))).bind λig=>(bif ig then some true else(some (Bh.length:Int)).bind λgR=>(some (decide ((2:Int)<gR))).bind λjV=>some jV).bind λIr=>some Ir else some false).bind λIs=>O9 Is)) (jv,fX)).bind λOT=>match OT with|⟨It,Iu⟩=>(some (Iu.length:Int)).bind λnS=>(some (decide ((nS:Int)=0))).bind λwW=>(bif wW then(dz It).bind λB6=>(bX false B6).bind λ⟨MI,MJ⟩=>some ⟨MI,MJ⟩else(c4 It).bind λsW=>(c4 Iu).bind λvn=>(b9 (λ(Rn:Nat×Nat)=>match Rn with|⟨Ft,vv⟩=>(show Option ((Nat×Nat)⊕(Nat))from(some (decide ((0:Nat)<vv))).bind λvo=>(bif vo then(zG Ft vv).bind λEc=>some (.inl (vv,Ec))else some (.inr Ft)))) (sW,vn)).bind λAp=>(dR false Ap).bind λ⟨MK,ML⟩=>some ⟨MK,ML⟩)
end
section
open Go.Fw Go.Fw.Z Go.RowKit
theorem dN(c:Nat):Ow ah 101 [.v (.int .u64 (c:Nat))] 106 77 [.v (.int .u64 (c:Nat))]:=by
 refine DO Tryz.func101 Y (af Y) (λdI M vs hvs=>?_);exact sr<|RT.zA .none (s:=.sv _) Y T Y Y<|ag Y<|dn<|sr<|RT.makeFunc .none (.box Y (.nil)) T<|an (s:=.fO _ _) Y<|dn<|bf<|⟨.inr Y,_,.tmp Y,Y⟩
theorem qm(a b:List Nat):Pure ah 109 [(slc 1 (List.map aX a)),(slc 1 (List.map aX b))] (oc 114 [ref [(slc 1 (List.map aX a))],ref [(slc 1 (List.map aX b))]]):=by
 refine bk Tryz.func109 Y (af Y) (λdI M vs hvs=>?_);refine sr<|RT.zA .none (s:=.sv _) Y T Y Y<|RT.zA .none (s:=.sv _) Y T Y Y<|ag Y<|dn<|sr<|RT.makeFunc .none (.box Y (.box Y (.nil))) T<|an (s:=.fO _ _) Y<|dn<|cg (gX (i:=2) Y [(slc 1 (List.map aX a))] (.cons Y .nil) .any 0 [(4,.fO 114 [.val (ref [(slc 1 (List.map aX a))]),.box 3])] (λ_ _ _=>trivial) (pN.h (l:=[(slc 1 (List.map aX a))])) ⟨@FT.fO _ _ _ _ _ 4 114 [.box 2,.box 3] Y,aq⟩) ?_;exact cg (gX (i:=3) Y [(slc 1 (List.map aX b))] (.cons Y .nil) .any 0 [(4,.fO 114 [.val (ref [(slc 1 (List.map aX a))]),.val (ref [(slc 1 (List.map aX b))])])] (λ_ _ _=>trivial) (pN.h (l:=[(slc 1 (List.map aX b))])) ⟨@FT.fO _ _ _ _ _ 4 114 [.val (ref [(slc 1 (List.map aX a))]),.box 3] Y,aq⟩)<|cg (HS 4 (oc 114 [ref [(slc 1 (List.map aX a))],ref [(slc 1 (List.map aX b))]]) (λ_ _ h=>HT h))<|bf<|⟨.inr Y,HI (.tmp Y (.nil)) Y⟩
theorem qo(a b:List Nat):Iter ah 114 [ref [(slc 1 (List.map aX a))],ref [(slc 1 (List.map aX b))]] (max a.length b.length) (λk=>[.v (.int .u64 ((a.getD k 0%18446744073709551616:Nat):Int)),.v (.int .u64 ((b.getD k 0%18446744073709551616:Nat):Int))]):=by
 refine xY Tryz.func114 Y Y (af Y) (λdI M O l J hJ Cw hr=>?_);obtain⟨rE,Cw⟩:=Cw;have hla:a.length<=9223372036854775807:=by cases rE with|nil=>exact Cw.elim|cons _ rE=>exact xm Cw.1
 have hlb:b.length<=9223372036854775807:=by cases rE with|nil=>exact Cw.elim|cons _ rE=>cases rE with|nil=>exact Cw.2.elim|cons _ _=>exact xm Cw.2.1
 refine bJ ?_;refine aW ?_;refine RT.dm .none Y Y (tl Y) ?_;refine RT.len .none Y (tl Y) ?_;refine RT.dm .none Y Y (tl Y) ?_;refine RT.len .none Y (tl Y) ?_;refine RT.max .none (((max a.length b.length:Nat):Int)) Y Y (tl Y) (by simp only[List.length_map];split<;>omega) ?_;refine RT.mv .none Y (tl Y) ?_;refine RT.done ?_;refine aV.n ?_;refine bg ?_
 refine AT (I:=λx:{i:Nat//i<=max a.length b.length}=>AS.cw 39 [(0,.sv (.v (.func (.yield l) #[] #[]))),(1,.sv (ref [(slc 1 (List.map aX a))])),(2,.sv (ref [(slc 1 (List.map aX b))])),(11,ai ((max a.length b.length:Nat):Int)),(12,ai ((x.1:Nat):Int))] [] [] (x.1)) (μ:=λx=>max a.length b.length-x.1) ⟨0,by omega⟩ (by(try dsimp only);exact eL id Y Y Y Y Y ⟨.sv (by first|exact au|exact SV.bh (by omega)|exact SV.bh (by push_cast;omega)|exact SV.bh (by dsimp only;omega)|exact SV.imp_eq (by simp)),.sv (by first|exact au|exact SV.bh (by omega)|exact SV.bh (by push_cast;omega)|exact SV.bh (by dsimp only;omega)|exact SV.imp_eq (by simp)),.sv (by first|exact au|exact SV.bh (by omega)|exact SV.bh (by push_cast;omega)|exact SV.bh (by dsimp only;omega)|exact SV.imp_eq (by simp)),.sv (by first|exact au|exact SV.bh (by omega)|exact SV.bh (by push_cast;omega)|exact SV.bh (by dsimp only;omega)|exact SV.imp_eq (by simp)),.sv (by first|exact au|exact SV.bh (by omega)|exact SV.bh (by push_cast;omega)|exact SV.bh (by dsimp only;omega)|exact SV.imp_eq (by simp)),aq⟩ trivial trivial (λ_ _=>Y)) ?_;rintro⟨i,WL⟩
 try dsimp only
 rcases yf a b i WL with⟨hi,A4,Ci⟩|⟨hi,A4,Ci⟩|⟨hi,A4,Ci⟩|hi
 ·
  refine bJ ?_;refine aW ?_;refine RT.lss .none (true) Y Y (tl Y) (by simp;omega) ?_;refine RT.done ?_;refine aV.n ?_;refine bJ ?_;refine c6 Y ?_;refine bu ?_;refine aV.n ?_;refine bJ ?_;refine bg ?_;refine bJ ?_;refine aW ?_;refine RT.mv .none Y (tl Y) ?_;refine RT.B5 .none Y (tl Y) ?_;refine RT.done ?_;refine aV.n ?_;refine bJ ?_;refine aW ?_;refine RT.B5 .none Y (tl Y) ?_;refine RT.B5 .none Y (tl Y) ?_;refine RT.done ?_;refine aV.n ?_;refine bJ ?_;refine bJ ?_;refine aW ?_;refine RT.mv .none Y (tl Y) ?_;refine RT.dm .none Y Y (tl Y) ?_;refine RT.len .none Y (tl Y) ?_;refine RT.lss .none (true) Y Y (tl Y) (by simp only[List.length_map];simp;omega) ?_;refine RT.done ?_;refine aV.n ?_;refine c6 Y ?_;refine aW ?_;refine RT.dm .none Y Y (tl Y) ?_;refine RT.mv .none Y (tl Y) ?_;refine RT.Mt .none [.v (.int .u32 ((a.getD i 0:Nat):Int))] (Int.natCast_nonneg i) (by rw[Int.toNat_natCast,List.getElem?_map,qg A4];rfl) Y Y (tl Y) ?_;refine RT.dm .none Y Y (tl Y) ?_;refine RT.conv .none (((a.getD i 0%18446744073709551616:Nat):Int)) Y (tl Y) KD ?_;refine RT.B5 .none Y (tl Y) ?_;refine RT.done ?_;refine aV.n ?_;refine bJ ?_;refine bJ ?_;refine aW ?_;refine RT.mv .none Y (tl Y) ?_
  refine RT.dm .none Y Y (tl Y) ?_;refine RT.len .none Y (tl Y) ?_;refine RT.lss .none (true) Y Y (tl Y) (by simp only[List.length_map];simp;omega) ?_;refine RT.done ?_;refine aV.n ?_;refine c6 Y ?_;refine aW ?_;refine RT.dm .none Y Y (tl Y) ?_;refine RT.mv .none Y (tl Y) ?_;refine RT.Mt .none [.v (.int .u32 ((b.getD i 0:Nat):Int))] (Int.natCast_nonneg i) (by rw[Int.toNat_natCast,List.getElem?_map,qg Ci];rfl) Y Y (tl Y) ?_;refine RT.dm .none Y Y (tl Y) ?_;refine RT.conv .none (((b.getD i 0%18446744073709551616:Nat):Int)) Y (tl Y) KD ?_;refine RT.B5 .none Y (tl Y) ?_;refine RT.done ?_;refine aV.n ?_;refine bJ ?_;refine aW ?_;refine RT.mv .none Y (tl Y) ?_;refine RT.mv .none Y (tl Y) ?_;refine RT.mv .none Y (tl Y) ?_;refine RT.yield .none hr Y (λ_ h=>h) Y (i) Y Y hi (by exact⟨Y,Y,aq⟩) (tl Y) (λyb=>?_);cases yb
  ·
   refine RT.not .none Y (tl Y) true Y ?_;refine RT.done ?_;refine aV.n ?_;refine c6 Y ?_;refine bf ?_;refine bD.r ?_;refine aV.r ?_;refine aV.r ?_;refine bD.r ?_;exact⟨.inr rfl,(λh=>by cases h)⟩
  refine RT.not .none Y (tl Y) false Y ?_;refine RT.done ?_;refine aV.n ?_;refine fB Y ?_;refine bu ?_;refine bD.n ?_;refine aV.n ?_;refine aW ?_;refine RT.add .none (((i:Nat):Int)+1) Y Y (tl Y) (mU (by omega)) ?_;refine RT.mv .none Y (tl Y) ?_;refine RT.done ?_;refine aV.n ?_;refine⟨⟨i+1,by omega⟩,(by dsimp only;omega),?_⟩
  try dsimp only
  exact eL id Y Y Y Y Y ⟨.sv (by first|exact au|exact SV.bh (by omega)|exact SV.bh (by push_cast;omega)|exact SV.bh (by dsimp only;omega)|exact SV.imp_eq (by simp)),.sv (by first|exact au|exact SV.bh (by omega)|exact SV.bh (by push_cast;omega)|exact SV.bh (by dsimp only;omega)|exact SV.imp_eq (by simp)),.sv (by first|exact au|exact SV.bh (by omega)|exact SV.bh (by push_cast;omega)|exact SV.bh (by dsimp only;omega)|exact SV.imp_eq (by simp)),.sv (by first|exact au|exact SV.bh (by omega)|exact SV.bh (by push_cast;omega)|exact SV.bh (by dsimp only;omega)|exact SV.imp_eq (by simp)),.sv (by first|exact au|exact SV.bh (by omega)|exact SV.bh (by push_cast;omega)|exact SV.bh (by dsimp only;omega)|exact SV.imp_eq (by simp)),aq⟩ trivial trivial (λ_ _=>Y)
 ·
  refine bJ ?_;refine aW ?_;refine RT.lss .none (true) Y Y (tl Y) (by simp;omega) ?_;refine RT.done ?_;refine aV.n ?_;refine bJ ?_;refine c6 Y ?_;refine bu ?_;refine aV.n ?_;refine bJ ?_;refine bg ?_;refine bJ ?_;refine aW ?_;refine RT.mv .none Y (tl Y) ?_;refine RT.B5 .none Y (tl Y) ?_;refine RT.done ?_;refine aV.n ?_;refine bJ ?_;refine aW ?_;refine RT.B5 .none Y (tl Y) ?_;refine RT.B5 .none Y (tl Y) ?_;refine RT.done ?_;refine aV.n ?_;refine bJ ?_;refine bJ ?_;refine aW ?_;refine RT.mv .none Y (tl Y) ?_;refine RT.dm .none Y Y (tl Y) ?_;refine RT.len .none Y (tl Y) ?_;refine RT.lss .none (true) Y Y (tl Y) (by simp only[List.length_map];simp;omega) ?_;refine RT.done ?_;refine aV.n ?_;refine c6 Y ?_;refine aW ?_;refine RT.dm .none Y Y (tl Y) ?_;refine RT.mv .none Y (tl Y) ?_;refine RT.Mt .none [.v (.int .u32 ((a.getD i 0:Nat):Int))] (Int.natCast_nonneg i) (by rw[Int.toNat_natCast,List.getElem?_map,qg A4];rfl) Y Y (tl Y) ?_;refine RT.dm .none Y Y (tl Y) ?_;refine RT.conv .none (((a.getD i 0%18446744073709551616:Nat):Int)) Y (tl Y) KD ?_;refine RT.B5 .none Y (tl Y) ?_;refine RT.done ?_;refine aV.n ?_;refine bJ ?_;refine bJ ?_;refine aW ?_;refine RT.mv .none Y (tl Y) ?_
  refine RT.dm .none Y Y (tl Y) ?_;refine RT.len .none Y (tl Y) ?_;refine RT.lss .none (false) Y Y (tl Y) (by simp only[List.length_map];simp;omega) ?_;refine RT.done ?_;refine aV.n ?_;refine fB Y ?_;refine bu ?_;refine aV.n ?_;refine bJ ?_;refine aW ?_;refine RT.mv .none Y (tl Y) ?_;refine RT.mv .none Y (tl Y) ?_;refine RT.mv .none Y (tl Y) ?_;refine RT.yield .none hr Y (λ_ h=>h) Y (i) Y Y hi (by exact⟨Y,(by show AV.sv _=AV.sv _;rw[sq Ci];rfl),aq⟩) (tl Y) (λyb=>?_);cases yb
  ·
   refine RT.not .none Y (tl Y) true Y ?_;refine RT.done ?_;refine aV.n ?_;refine c6 Y ?_;refine bf ?_;refine bD.r ?_;refine aV.r ?_;refine aV.r ?_;refine bD.r ?_;exact⟨.inr rfl,(λh=>by cases h)⟩
  refine RT.not .none Y (tl Y) false Y ?_;refine RT.done ?_;refine aV.n ?_;refine fB Y ?_;refine bu ?_;refine bD.n ?_;refine aV.n ?_;refine aW ?_;refine RT.add .none (((i:Nat):Int)+1) Y Y (tl Y) (mU (by omega)) ?_;refine RT.mv .none Y (tl Y) ?_;refine RT.done ?_;refine aV.n ?_;refine⟨⟨i+1,by omega⟩,(by dsimp only;omega),?_⟩
  try dsimp only
  exact eL id Y Y Y Y Y ⟨.sv (by first|exact au|exact SV.bh (by omega)|exact SV.bh (by push_cast;omega)|exact SV.bh (by dsimp only;omega)|exact SV.imp_eq (by simp)),.sv (by first|exact au|exact SV.bh (by omega)|exact SV.bh (by push_cast;omega)|exact SV.bh (by dsimp only;omega)|exact SV.imp_eq (by simp)),.sv (by first|exact au|exact SV.bh (by omega)|exact SV.bh (by push_cast;omega)|exact SV.bh (by dsimp only;omega)|exact SV.imp_eq (by simp)),.sv (by first|exact au|exact SV.bh (by omega)|exact SV.bh (by push_cast;omega)|exact SV.bh (by dsimp only;omega)|exact SV.imp_eq (by simp)),.sv (by first|exact au|exact SV.bh (by omega)|exact SV.bh (by push_cast;omega)|exact SV.bh (by dsimp only;omega)|exact SV.imp_eq (by simp)),aq⟩ trivial trivial (λ_ _=>Y)
 ·
  refine bJ ?_;refine aW ?_;refine RT.lss .none (true) Y Y (tl Y) (by simp;omega) ?_;refine RT.done ?_;refine aV.n ?_;refine bJ ?_;refine c6 Y ?_;refine bu ?_;refine aV.n ?_;refine bJ ?_;refine bg ?_;refine bJ ?_;refine aW ?_;refine RT.mv .none Y (tl Y) ?_;refine RT.B5 .none Y (tl Y) ?_;refine RT.done ?_;refine aV.n ?_;refine bJ ?_;refine aW ?_;refine RT.B5 .none Y (tl Y) ?_;refine RT.B5 .none Y (tl Y) ?_;refine RT.done ?_;refine aV.n ?_;refine bJ ?_;refine bJ ?_;refine aW ?_;refine RT.mv .none Y (tl Y) ?_;refine RT.dm .none Y Y (tl Y) ?_;refine RT.len .none Y (tl Y) ?_;refine RT.lss .none (false) Y Y (tl Y) (by simp only[List.length_map];simp;omega) ?_;refine RT.done ?_;refine aV.n ?_;refine fB Y ?_;refine bu ?_;refine aV.n ?_;refine bJ ?_;refine bJ ?_;refine aW ?_;refine RT.mv .none Y (tl Y) ?_;refine RT.dm .none Y Y (tl Y) ?_;refine RT.len .none Y (tl Y) ?_;refine RT.lss .none (true) Y Y (tl Y) (by simp only[List.length_map];simp;omega) ?_;refine RT.done ?_;refine aV.n ?_;refine c6 Y ?_;refine aW ?_;refine RT.dm .none Y Y (tl Y) ?_;refine RT.mv .none Y (tl Y) ?_
  refine RT.Mt .none [.v (.int .u32 ((b.getD i 0:Nat):Int))] (Int.natCast_nonneg i) (by rw[Int.toNat_natCast,List.getElem?_map,qg Ci];rfl) Y Y (tl Y) ?_;refine RT.dm .none Y Y (tl Y) ?_;refine RT.conv .none (((b.getD i 0%18446744073709551616:Nat):Int)) Y (tl Y) KD ?_;refine RT.B5 .none Y (tl Y) ?_;refine RT.done ?_;refine aV.n ?_;refine bJ ?_;refine aW ?_;refine RT.mv .none Y (tl Y) ?_;refine RT.mv .none Y (tl Y) ?_;refine RT.mv .none Y (tl Y) ?_;refine RT.yield .none hr Y (λ_ h=>h) Y (i) Y Y hi (by exact⟨(by show AV.sv _=AV.sv _;rw[sq A4];rfl),Y,aq⟩) (tl Y) (λyb=>?_);cases yb
  ·
   refine RT.not .none Y (tl Y) true Y ?_;refine RT.done ?_;refine aV.n ?_;refine c6 Y ?_;refine bf ?_;refine bD.r ?_;refine aV.r ?_;refine aV.r ?_;refine bD.r ?_;exact⟨.inr rfl,(λh=>by cases h)⟩
  refine RT.not .none Y (tl Y) false Y ?_;refine RT.done ?_;refine aV.n ?_;refine fB Y ?_;refine bu ?_;refine bD.n ?_;refine aV.n ?_;refine aW ?_;refine RT.add .none (((i:Nat):Int)+1) Y Y (tl Y) (mU (by omega)) ?_;refine RT.mv .none Y (tl Y) ?_;refine RT.done ?_;refine aV.n ?_;refine⟨⟨i+1,by omega⟩,(by dsimp only;omega),?_⟩
  try dsimp only
  exact eL id Y Y Y Y Y ⟨.sv (by first|exact au|exact SV.bh (by omega)|exact SV.bh (by push_cast;omega)|exact SV.bh (by dsimp only;omega)|exact SV.imp_eq (by simp)),.sv (by first|exact au|exact SV.bh (by omega)|exact SV.bh (by push_cast;omega)|exact SV.bh (by dsimp only;omega)|exact SV.imp_eq (by simp)),.sv (by first|exact au|exact SV.bh (by omega)|exact SV.bh (by push_cast;omega)|exact SV.bh (by dsimp only;omega)|exact SV.imp_eq (by simp)),.sv (by first|exact au|exact SV.bh (by omega)|exact SV.bh (by push_cast;omega)|exact SV.bh (by dsimp only;omega)|exact SV.imp_eq (by simp)),.sv (by first|exact au|exact SV.bh (by omega)|exact SV.bh (by push_cast;omega)|exact SV.bh (by dsimp only;omega)|exact SV.imp_eq (by simp)),aq⟩ trivial trivial (λ_ _=>Y)
 subst hi;refine bJ ?_;refine aW ?_;refine RT.lss .none (false) Y Y (tl Y) (by simp) ?_;refine RT.done ?_;refine aV.n ?_;refine bJ ?_;refine fB Y ?_;refine bT ?_;refine aV.x ?_;refine aV.x ?_;refine bD.x ?_;exact⟨.inl Y,(λ_=>Y)⟩
theorem og{x0 r:List Nat}(h:dz x0=some r):Gf ah 81 [slc 1 (List.map aX x0)] (TR 71 1 aX r):=by
 refine xT Tryz.func81 Y (af Y) (λdI M vs hvs=>?_);unfold dz at h;refine sr<|ag Y<|dn<|qq<|sr<|mv Y ?_;refine RT.R8 .none Y T (λnb hnb=>?_);cases nb;exact dn<|fs<|sr<|RT.Ba (l:=([]:List Nat)) (e:=aX) .none .nil T Y T Y Y Y Y Y Y<|mv Y<|aR (k:=x0) (e:=aX) Y Y Y h<|an (s:=.row _) Y<|dn<|bf<|⟨.inr Y,_,.tmp Y,Y⟩;have hx:x0=[]:=by simpa using hnb Y
 subst hx;obtain⟨_,_,rfl⟩:=tv h;exact dn<|cT<|sr<|ag Y<|dn<|cg (gu 2 300 71 1 Y Y T)<|bf<|aV.r<|⟨.inr Y,_,.tmp Y,Y⟩
theorem bW{x0:Nat}{c0:Nat}{r:Nat×Nat}(h:bK x0 c0=some r):HO ah 106 [.v (.int .u64 ((x0:Nat):Int))] 77 [.v (.int .u64 ((c0:Nat):Int))] (.v (.int .u32 ((r.1:Nat):Int))) [.v (.int .u64 ((r.2:Nat):Int))]:=by
 refine xU Tryz.func106 Y (af Y) (λdI M β=>?_);unfold bK at h;refine sr<|ag Y<|dn<|sr<|mv Y<|lV Y Y Y<|lE h λx6 h6 h=>ad _ Y Y (UK.add (a:=x0) (b:=c0) h6)<|ag Y<|dn<|sr<|mv Y<|lE h λx8 h8 h=>RT.shr .none _ Y Y T (by decide) (A8 (k:=.u64) (a:=x6) (q:=32) (s:=32) Y h8)<|RT.xG (cells:=[_]) .none (s:=.sv _) Y Y Y T Y<|dn<|sr<|mv Y<|lE h λew ic h=>cv _ Y (UK.nat ic)<|ag Y ?_;refine dn<|bf ?_;obtain rfl:=O h;exact⟨.inr Y,mA (.tmp Y (.nil)) au,Y⟩
theorem bY{x0:List Nat}{r:List Nat}(h:bp x0=some r):Pure ah 76 [slc 1 (List.map aX x0)] (slc 1 (List.map aX r)):=by
 refine bk Tryz.func76 Y (af Y) (λdI M vs hvs=>?_);unfold bp at h;refine sr<|aI Y (aB (n:=1) (e:=aX))<|dn<|qq<|bE h λGq yq qp=>?_;refine bL (λ(yh:(List Nat))=>AS.cw 21 [(0,.sv (slc 1 (List.map aX yh)))] [] []) (λyh=>yh=Gq) ?_ (λyh yt=>?_);refine bg ?_;refine bM yq (λuW=>AS.cw 21 [(0,.sv (slc 1 (List.map aX uW)))] [] []) (wR []) (λwV SN SO h yu wY=>?_)
 try dsimp only
 refine qq<|qq ?_;refine bG h (λKX=>AS.cw 21 [(0,.sv (slc 1 (List.map aX wV))),(14,aj KX)] [] []) (λh=>?_) (λyg h=>?_);refine aW<|mv Y<|lE h λx4 h4 h=>ln Y h4<|lE h λx5 h5 h=>gt _ Y Y h5<|mv Y<|bE h λDY dG h=>?_;cases x5;obtain rfl:=O (F dG);exact ww<|ww<|ww<|ww<|ww<|ww<|ww<|pF Y<|dn<|⟨false,h,wR []⟩;refine gm Y<|gm Y<|lE (V dG) λx9 h9 dG=>gn Y h9<|lE dG λew ic dG=>RT.sub (.some Y Y) _ Y Y T ic<|bE dG λeG jh dG=>RT.Wf (.some Y Y) Y Y T jh<|gr Y Y<|lE dG λjv kF dG=>Ic _ Y Y (UB (p:=eG) (q:=0) kF) ?_;obtain rfl:=O dG;exact pT Y<|dn<|⟨jv,h,wR []⟩
 try dsimp only
 refine aV.n ?_;cases yg;refine cF<|bT<|aV.x<|aV.x<|bD.x<|aV.n ?_;obtain rfl:=O (F h);exact⟨wV,wY _ Y,wR []⟩;refine cT<|bu<|aV.n<|bg<|aW<|mv Y<|mv Y<|lE (V h) λez j6 h=>ln Y j6<|lE h λeF ji h=>sb _ Y Y ji<|bE h λlU mB h=>RT.ye .none 0 eF Y Y ⟨_,Y⟩ T mB<|ag Y<|RT.done<|bD.n ?_;obtain rfl:=O h;exact aV.n ⟨lU,yu _ Y,wR []⟩;subst yt
 try dsimp only
 refine aV.n<|sr<|mv Y<|ag Y<|dn<|bf ?_;obtain rfl:=O qp;exact R1 Y
abbrev ax:SV:=slc 1 (List.map aX [])
theorem iv{x0:Bool}{x1:Nat}(N:Nat){r:Zr}(h:dR x0 x1=some r):cZ ah 62 N [az x0,.v (.int .u64 ((x1:Nat):Int))] (.agg ((fZ N) r)):=by
 refine bF Tryz.func62 Y (af Y) (λdI M vs hN hvs=>?_);unfold dR at h;refine sr<|al (cs:=[az false,nw N ax]) (by exact⟨au,bn,aq⟩) Y<|dn<|qq<|bg<|sr<|mv Y<|lE h λx7 h7 h=>eq _ Y Y (UB (p:=x1) (q:=0) h7)<|ag Y<|dn ?_;cases x7;refine cF<|sr<|mv Y<|lE (F h) λeG jh h=>RT.shr .none _ Y Y T (by decide) (A8 (k:=.u64) (a:=x1) (q:=32) (s:=32) Y jh)<|lE h λeA jk h=>eq _ Y Y (UB (p:=eG) (q:=0) jk)<|ag Y<|dn ?_;cases eA;refine cF<|bu<|bD.n<|aV.n<|sr<|mv Y<|mv Y<|lE (F h) λje oU h=>cv _ Y (UK.nat oU)<|mv Y<|lE h λiM oV h=>RT.shr .none _ Y Y T (by decide) (A8 (k:=.u64) (a:=x1) (q:=32) (s:=32) Y oV)<|lE h λig nV h=>cv _ Y (UK.nat nV)<|RT.tB (l:=[je,ig]) (e:=aX) .none hN (.one Y (.one Y (.nil))) T Y Y Y Y Y Y<|bI (cs:=[_,_]) (cs':=[az x0,nw N (slc 1 (List.map aX [je,ig]))]) (.one Y (.one Y (.nil))) ⟨au,au,aq⟩ ?_;refine so Y Y Y<|dn<|bf ?_;obtain rfl:=O h;exact RZ (.agg Y Y (.k2 Y Y) Y (.nil));refine cT<|sr<|mv Y<|mv Y<|lE (V h) λgQ jl h=>cv _ Y (UK.nat jl)<|RT.tB (l:=[gQ]) (e:=aX) .none hN (.one Y (.nil)) T Y Y Y Y Y Y<|bI (cs:=[_,_]) (cs':=[az x0,nw N (slc 1 (List.map aX [gQ]))]) (.one Y (.one Y (.nil))) ⟨au,au,aq⟩<|so Y Y Y<|dn<|bf<|bD.r<|aV.r ?_;obtain rfl:=O h
 exact RZ (.agg Y Y (.k2 Y Y) Y (.nil));refine cT<|sr<|bI (cs:=[_,_]) (cs':=[az false,nw N ax]) (.nil) ⟨au,bn,aq⟩<|so Y Y Y<|dn<|bf<|bD.r<|aV.r ?_;obtain rfl:=O (V h);exact RZ (.agg Y Y (.k2 Y Y) Y (.nil))
theorem gI{x0:List Nat}{r:Nat}(h:c4 x0=some r):Pure ah 78 [slc 1 (List.map aX x0)] (.v (.int .u64 ((r:Nat):Int))):=by
 refine bk Tryz.func78 Y (af Y) (λdI M vs hvs=>?_);unfold c4 at h;refine sr<|ag Y<|dn<|qq<|sr<|mv Y<|lE h λx4 h4 h=>ln Y h4<|dn<|bg<|sr<|lE h λx6 h6 h=>eq _ Y Y (uU (p:=x4) (q:=0) h6)<|ag Y<|dn ?_;cases x6;refine cF<|sr<|lE (F h) λx8 h8 h=>eq _ Y Y (uU (p:=x4) (q:=1) h8)<|ag Y<|dn ?_;cases x8;refine cF<|bu<|bD.n<|aV.n<|qq<|aY mixed<|mv Y<|bE (F h) λgw lW h=>ix Y Y lW<|lr Y Y<|lE h λfX iw h=>cv _ Y (UK.nat iw)<|mv Y<|bE h λeF ji h=>ix Y Y ji<|lr Y Y<|lE h λje oU h=>cv _ Y (UK.nat oU)<|lE h λgY mY h=>RT.shl .none _ Y Y T (by decide) (UK.shl (a:=je) (q:=32) (s:=32) Y mY)<|lE h λiM oV h=>RT.or .none _ Y Y T (UK.or (a:=fX) (b:=gY) oV) ?_;refine ag Y ?_;refine RT.done ⟨by kernel_rfl,?_⟩;refine aV.n<|bf ?_;obtain rfl:=O h;exact R1 Y;refine cT<|sr<|mv Y<|bE (V h) λew ic h=>ix Y Y ic<|lr Y Y<|lE h λeA jk h=>cv _ Y (UK.nat jk)<|ag Y<|dn<|bf<|bD.r<|aV.r ?_;obtain rfl:=O h;exact R1 Y;refine cT<|sr<|ag Y<|dn<|bf<|bD.r<|aV.r ?_;obtain rfl:=O (V h);exact R1 Y
theorem fm{x0:List Nat}{x1:List Nat}{r:Int}(h:cr x0 x1=some r):Pure ah 77 [slc 1 (List.map aX x0),slc 1 (List.map aX x1)] (ay r):=by
 refine bk Tryz.func77 Y (af Y) (λdI M vs hvs=>?_);unfold cr at h;refine sr<|ag Y<|dn<|qq<|sr<|mv Y<|lE h λx7 h7 h=>ln Y h7<|mv Y<|lE h λx9 h9 h=>ln Y h9<|lE h λew ic h=>ne _ Y Y (Kb (p:=x7) (q:=x9) ic)<|dn ?_;cases ew;refine fs<|qq<|sr<|mv Y<|lE (F h) λez j6 h=>ln Y j6<|lE h λeF ji h=>sb _ Y Y ji<|ag Y<|dn<|bE h λe6 zM jW=>?_;refine bL (λ(pB:Unit)=>AS.cw 41 [] [] []) (λpB=>.inl pB=e6) ?_ (λpB zN=>?_);refine bg ?_;refine bM zM (λs6=>AS.cw 41 [(0,.sv (slc 1 (List.map aX x0))),(1,.sv (slc 1 (List.map aX x1))),(5,ai s6)] [] []) (wR []) (λjw y6 G6 h zO wm=>?_)
 try dsimp only
 refine qq<|sr<|mv Y<|lE h λje oU h=>ge _ Y Y oU<|dn ?_;cases je;refine cF<|bT<|aV.x<|aV.x<|bD.x<|aV.n ?_;obtain rfl:=O (F h);exact⟨(),wm _ Y,wR []⟩;refine cT<|bu<|aV.n<|qq<|bg<|qq<|aY mixed<|mv Y<|mv Y<|bE (V h) λjC mZ h=>ix Y Y mZ<|lr Y Y<|mv Y<|mv Y<|bE h λiq ny h=>ix Y Y ny<|lr Y Y<|lE h λnR wo h=>ne _ Y Y (Sa (p:=jC) (q:=iq) wo) ?_;refine RT.done ⟨by kernel_rfl,?_⟩;refine aV.n ?_;cases nR;refine cF<|bu<|bD.n<|aV.n<|aW<|mv Y<|lE (F h) λiM oV h=>sb _ Y Y oV<|ag Y<|RT.done ?_;obtain rfl:=O h;exact aV.n ⟨iM,zO _ Y,wR []⟩;refine cT<|qq<|qq<|aY mixed<|mv Y<|mv Y<|bE (V h) λmK rG h=>ix Y Y rG<|lr Y Y<|mv Y<|mv Y<|bE h λsu yw h=>ix Y Y yw<|lr Y Y<|lE h λnS uY h=>ls _ Y Y (UC (p:=mK) (q:=su) uY) ?_;refine RT.done ⟨by kernel_rfl,?_⟩;refine aV.n ?_;cases nS;refine fs<|sr<|ag Y<|dn<|bf<|bD.r<|aV.r ?_;obtain rfl:=O (F h);have KY:=wm _ Y;subst KY;refine aV.r<|bD.r<|aV.r<|aV.r ?_;obtain rfl:=O jW;exact R1 Y;refine cT<|sr<|ag Y<|dn<|bf<|aV.r<|bD.r<|aV.r ?_;obtain rfl:=O (V h);have KY:=wm _ Y;subst KY;refine aV.r<|bD.r<|aV.r<|aV.r ?_;obtain rfl:=O jW;exact R1 Y;subst zN
 try dsimp only
 refine aV.n<|sr<|ag Y<|dn<|bf ?_;obtain rfl:=O jW;exact R1 Y;refine cT<|qq<|sr<|mv Y<|lE (V h) λeA jk h=>ln Y jk<|mv Y<|lE h λgw lW h=>ln Y lW<|lE h λgQ jl h=>ls _ Y Y jl<|dn ?_;cases gQ;refine fs<|sr<|ag Y<|dn<|bf<|aV.r ?_;obtain rfl:=O (F h);exact R1 Y;refine cT<|sr<|ag Y<|dn<|bf<|aV.r<|aV.r ?_;obtain rfl:=O (V h);exact R1 Y
theorem nH{x0:List Nat}{x1:List Nat}(N:Nat){r:List Nat}(h:dM x0 x1=some r):cZ ah 103 N [slc 1 (List.map aX x0),slc 1 (List.map aX x1)] (nw N (slc 1 (List.map aX r))):=by
 refine bF Tryz.func103 Y (af Y) (λdI M vs hN hvs=>?_);unfold dM at h;refine sr<|aI Y (bn (N:=N) (n:=1) (e:=aX))<|dn<|sr<|mv Y<|lE h λew ic h=>ln Y ic<|mv Y<|lE h λeA jk h=>ln Y jk<|lE h λjv kF h=>RT.max .none _ Y Y T (Sb (p:=ew) (q:=eA) kF)<|lE h λgw lW h=>ad _ Y Y lW<|bE h λgQ jl h=>RT.Fk (e:=aX) .none Y Y T Y T jl<|RT.alloc .none T Y Y<|RT.AX (cells:=[_]) .none Y Y Y Y T Y<|dn<|sr ?_;refine RT.xW .none (dN 0) Y ⟨Y,aq⟩ T Y Y<|RT.alloc .none T Y Y<|RT.xG (cells:=[_]) .none (s:=.fO _ _) Y Y Y T Y<|dn<|qq<|sr<|mv Y<|mv Y<|cl (qm x0 x1) ⟨Y,Y,aq⟩<|dn<|bg<|bE h λe7 SP KZ=>?_;obtain⟨Gr,SQ,SR,SS⟩:=qX SP
 refine oP (qo x0 x1) (λ_ _ _ _ _=>trivial) Y (λk=>AS.cw 35 [(5,.ptr 5 0),(6,.ptr 6 0),(19,.sv (oc 114 [ref [slc 1 (List.map aX x0)],ref [slc 1 (List.map aX x1)]]))] [(6,⟨106,[.fO 106 [.box 16]]⟩),(16,⟨77,[.sv (.v (.int .u64 (((Gr k).1:Nat):Int)))]⟩),(5,⟨23,[.row 302]⟩)] [(302,TR 71 1 aX (Gr k).2)]) [6,16,5] Y (λ_=>⟨Y,Y⟩) (DR Y) (λ_=>Y) (DS Y) (by(try dsimp only);rw[SQ];(try dsimp only);exact eL (λi=>bif Nat.beq i 302 then 15 else i) Y Y Y Y Y ⟨.ptr,.ptr,.sv au,aq⟩ ⟨⟨_,Y,⟨.fO,aq⟩⟩,⟨_,Y,⟨.sv au,aq⟩⟩,⟨_,Y,⟨.row Y,aq⟩⟩,aq⟩ ⟨⟨_,Y,cH.refl _⟩,aq⟩ (λi hi=>by rw[cX (show i≠302 by omega)];rfl)) (λk hk D hD=>?_) ?_;have h:=SR k hk;obtain⟨sk,SU⟩:∃q,Gr k=q:=⟨_,Y⟩;rw[SU]at h⊢;obtain⟨tC,ir⟩:=sk;dsimp only[AS.RY,Ag]
 try dsimp only at h
 refine lE h λWo WM h=>?_;rw[WM];refine lE h λWp WN h=>?_;rw[WN];refine sr<|ag Y<|dn<|aW<|ag Y<|RT.done ?_;refine aV.n ⟨Y,?_⟩;dsimp only[AS.HQ];refine bg<|aY mixed<|RT.sZ .none (s:=.row _) Y Y Y T<|RT.sZ .none (s:=.fO _ _) Y Y Y T<|mv Y<|mv Y<|lE h λgR nW h=>ad _ Y Y (UK.add (a:=Wo) (b:=Wp) nW) ?_;obtain⟨⟨jV,k9⟩,oJ,h⟩:=bS h;refine cB (bW oJ) 16 Y ⟨Y,aq⟩<|bl (l:=[jV]) (e:=aX) (.one Y (.nil)) Y Y Y Y Y Y<|bE h λiq ny h=>aR (k:=[jV]) (e:=aX) Y Y Y ny<|RT.AX (cells:=[_]) .none Y Y Y Y T Y ?_;refine RT.done ⟨by kernel_rfl,?_⟩;refine bD.n ?_;replace h:=Option.some.inj h;refine⟨aq,Y,Y,?_⟩
 try dsimp only
 rw[<-h]
 try dsimp only
 exact eL (λi=>bif Nat.beq i 302 then 29 else i) Y Y Y Y Y ⟨.ptr,.ptr,.sv au,aq⟩ ⟨⟨_,Y,⟨.fO,aq⟩⟩,⟨_,Y,⟨.sv au,aq⟩⟩,⟨_,Y,⟨.row Y,aq⟩⟩,aq⟩ ⟨⟨_,Y,cH.refl _⟩,aq⟩ (λi hi=>by rw[cX (show i≠302 by omega)];rfl);rw[SS];obtain⟨tC,ir⟩:=e7
 try dsimp only
 refine bD.n<|aV.n<|qq<|aY mixed<|RT.sZ .none (s:=.row _) Y Y Y T<|RT.sZ .none (s:=.fO _ _) Y Y Y T ?_;obtain⟨⟨iN,k11⟩,lZ,KZ⟩:=bS KZ;refine cB (bW lZ) 16 Y ⟨Y,aq⟩<|bl (l:=[iN]) (e:=aX) (.one Y (.nil)) Y Y Y Y Y Y<|bE KZ λmK rG KZ=>RT.Ss (k:=[iN]) (e:=aX) .none hN (λ_ h=>h) Y Y Y T Y T rG<|ag Y ?_;refine RT.done ⟨by kernel_rfl,?_⟩;refine aV.n<|bf ?_;obtain rfl:=O KZ;exact R1 Y
theorem ke{x0:List Nat}{x1:List Nat}(N:Nat){r:List Nat}(h:cI x0 x1=some r):cZ ah 104 N [slc 1 (List.map aX x0),slc 1 (List.map aX x1)] (nw N (slc 1 (List.map aX r))):=by
 refine bF Tryz.func104 Y (af Y) (λdI M vs hN hvs=>?_);unfold cI at h;refine sr<|aI Y (bn (N:=N) (n:=1) (e:=aX))<|dn<|sr<|mv Y<|lE h λew ic h=>ln Y ic<|bE h λeG jh h=>RT.Fk (e:=aX) .none Y Y T Y T jh<|RT.alloc .none T Y Y<|RT.AX (cells:=[_]) .none Y Y Y Y T Y<|dn<|sr<|RT.xW .none (dN 1) Y ⟨Y,aq⟩ T Y Y<|RT.alloc .none T Y Y<|RT.xG (cells:=[_]) .none (s:=.fO _ _) Y Y Y T Y<|dn<|qq<|sr<|mv Y ?_;refine mv Y<|cl (qm x0 x1) ⟨Y,Y,aq⟩<|dn<|bg<|bE h λe7 SP KZ=>?_;obtain⟨Gr,SQ,SR,SS⟩:=qX SP;refine oP (qo x0 x1) (λ_ _ _ _ _=>trivial) Y (λk=>AS.cw 28 [(5,.ptr 5 0),(6,.ptr 6 0),(15,.sv (oc 114 [ref [slc 1 (List.map aX x0)],ref [slc 1 (List.map aX x1)]]))] [(6,⟨106,[.fO 106 [.box 12]]⟩),(12,⟨77,[.sv (.v (.int .u64 (((Gr k).1:Nat):Int)))]⟩),(5,⟨23,[.row 302]⟩)] [(302,TR 71 1 aX (Gr k).2)]) [6,12,5] Y (λ_=>⟨Y,Y⟩) (DR Y) (λ_=>Y) (DS Y) (by(try dsimp only);rw[SQ];(try dsimp only);exact eL (λi=>bif Nat.beq i 302 then 11 else i) Y Y Y Y Y ⟨.ptr,.ptr,.sv au,aq⟩ ⟨⟨_,Y,⟨.fO,aq⟩⟩,⟨_,Y,⟨.sv au,aq⟩⟩,⟨_,Y,⟨.row Y,aq⟩⟩,aq⟩ ⟨⟨_,Y,cH.refl _⟩,aq⟩ (λi hi=>by rw[cX (show i≠302 by omega)];rfl)) (λk hk D hD=>?_) ?_;have h:=SR k hk;obtain⟨sk,SU⟩:∃q,Gr k=q:=⟨_,Y⟩;rw[SU]at h⊢;obtain⟨xq,ir⟩:=sk;dsimp only[AS.RY,Ag]
 try dsimp only at h
 refine lE h λWq WO h=>?_;rw[WO];refine lE h λWr WQ h=>?_;rw[WQ];refine sr<|ag Y<|dn<|aW<|ag Y<|RT.done ?_;refine aV.n ⟨Y,?_⟩;dsimp only[AS.HQ];refine bg<|aY mixed<|RT.sZ .none (s:=.row _) Y Y Y T<|RT.sZ .none (s:=.fO _ _) Y Y Y T<|mv Y<|mv Y<|lE h λiM oV h=>sb _ Y Y (UK.sub (a:=4294967295) (b:=Wr) oV)<|lE h λig nV h=>ad _ Y Y (UK.add (a:=Wq) (b:=iM) nV) ?_;obtain⟨⟨g9,k9⟩,pU,h⟩:=bS h;refine cB (bW pU) 12 Y ⟨Y,aq⟩<|bl (l:=[g9]) (e:=aX) (.one Y (.nil)) Y Y Y Y Y Y<|bE h λgR nW h=>aR (k:=[g9]) (e:=aX) Y Y Y nW<|RT.AX (cells:=[_]) .none Y Y Y Y T Y ?_;refine RT.done ⟨by kernel_rfl,?_⟩;refine bD.n ?_;replace h:=Option.some.inj h;refine⟨aq,Y,Y,?_⟩
 try dsimp only
 rw[<-h]
 try dsimp only
 exact eL (λi=>bif Nat.beq i 302 then 26 else i) Y Y Y Y Y ⟨.ptr,.ptr,.sv au,aq⟩ ⟨⟨_,Y,⟨.fO,aq⟩⟩,⟨_,Y,⟨.sv au,aq⟩⟩,⟨_,Y,⟨.row Y,aq⟩⟩,aq⟩ ⟨⟨_,Y,cH.refl _⟩,aq⟩ (λi hi=>by rw[cX (show i≠302 by omega)];rfl);rw[SS];obtain⟨xq,ir⟩:=e7
 try dsimp only
 refine bD.n<|aV.n<|sr<|RT.sZ .none (s:=.row _) Y Y Y T<|an (s:=.row _) Y<|dn<|kZ (i:=302) (E1:=71) (n:=1) (e:=aX) (l:=ir) hN (λ_ h=>h) Y<|bf ?_;obtain rfl:=O KZ;exact R1 Y
theorem tO{x0:List Nat}{x1:List Nat}(N:Nat){r:List Nat}(h:eX x0 x1=some r):cZ ah 80 N [slc 1 (List.map aX x0),slc 1 (List.map aX x1)] (nw N (slc 1 (List.map aX r))):=by
 refine bF Tryz.func80 Y (af Y) (λdI M vs hN hvs=>?_);unfold eX at h;refine sr<|aI Y (bn (N:=N) (n:=1) (e:=aX))<|dn<|sr<|mv Y<|lE h λeA jk h=>ln Y jk<|mv Y<|lE h λgw lW h=>ln Y lW<|lE h λgQ jl h=>ad _ Y Y jl<|bE h λfX iw h=>RT.tw (n:=1) (e:=aX) .none Y Y T Y T (by rfl) (by decide) (by exact⟨au,aq⟩) iw<|an (s:=.row _) Y<|dn<|qq<|sr<|mv Y<|lE h λeF ji h=>ln Y ji ?_;refine mv Y<|dn<|bE h λe28 WR WS=>?_;refine bL (λ(sx:(List Nat))=>AS.cw 63 [(5,.row 16)] [] [(16,TR 71 1 aX sx)]) (λsx=>sx=e28) ?_ (λsx WT=>?_);refine bg ?_;refine bM WR (λRi=>AS.cw 63 [(1,.sv (slc 1 (List.map aX x1))),(5,.row 16),(17,.sv (slc 1 (List.map aX x0))),(18,ai eF),(19,ai Ri.1)] [] [(16,TR 71 1 aX Ri.2)]) (wR []) (λRi y28 G28 h WU WV=>?_);obtain⟨mX,Bc⟩:=Ri
 try dsimp only
 refine sr<|lE h λje oU h=>ls _ Y Y oU<|dn<|qq ?_;cases je;refine cF<|bT<|aV.x<|aV.x<|bD.x<|aV.n ?_;obtain rfl:=O (F h);exact⟨Bc,WV _ Y,wR []⟩;refine cT<|bu<|aV.n<|qq<|bg<|sr<|mv Y<|bE (V h) λiM oV h=>ix Y Y oV<|lr Y Y<|ag Y<|ag Y<|dn<|sr<|RT.xW .none (dN 0) Y ⟨Y,aq⟩ T Y Y<|an (s:=.fO _ _) Y<|dn<|qq<|sr<|mv Y<|lE h λgR nW h=>ln Y nW<|mv Y<|dn<|bE h λWu WW vw=>?_;refine bL (λ(Gs:Nat×(List Nat))=>AS.cw 63 [(1,.sv (slc 1 (List.map aX x1))),(5,.row 16),(6,ai mX),(8,.fO 106 [.box 24]),(17,.sv (slc 1 (List.map aX x0))),(18,ai eF),(19,ai mX)] [(24,⟨77,[.sv (.v (.int .u64 ((Gs.1:Nat):Int)))]⟩)] [(16,TR 71 1 aX Gs.2)]) (λGs=>Gs=Wu) ?_ (λGs WX=>?_);refine bg ?_;refine bM WW (λOP=>AS.cw 63 [(1,.sv (slc 1 (List.map aX x1))),(5,.row 16),(6,ai mX),(7,.sv (.v (.int .u32 ((iM:Nat):Int)))),(8,.fO 106 [.box 24]),(17,.sv (slc 1 (List.map aX x0))),(18,ai eF),(19,ai mX),(25,.sv (slc 1 (List.map aX x1))),(26,ai gR),(27,ai OP.1)] [(24,⟨77,[.sv (.v (.int .u64 ((OP.2.1:Nat):Int)))]⟩)] [(16,TR 71 1 aX OP.2.2)]) (wR []) (λOP y38 G38 h WY WZ=>?_);obtain⟨vm,tD,sw⟩:=OP
 try dsimp only
 refine sr<|lE h λn9 vz h=>ls _ Y Y vz<|dn<|qq ?_;cases n9;refine cF<|bT<|aV.x<|aV.x<|bD.x<|aV.n ?_;obtain rfl:=O (F h);exact⟨(tD,sw),WZ _ Y,wR []⟩;refine cT<|bu<|aV.n<|qq<|bg<|sr<|mv Y<|bE (V h) λyj zP h=>ix Y Y zP<|lr Y Y<|ag Y<|ag Y<|dn<|aW<|mo (s:=.row _) Y<|mv Y<|mv Y<|lE h λqY zQ h=>ad _ Y Y zQ<|mo (s:=.fO _ _) Y<|mo (s:=.row _) Y<|mv Y<|mv Y<|lE h λnS uY h=>ad _ Y Y uY<|bE h λwW Gt h=>iR Y Y Y Gt ?_;refine bE h λuV CK h=>lR Y Y CK Y<|lE h λB6 Fu h=>cv _ Y (UK.nat Fu)<|mv Y<|lE h λxu Gu h=>cv _ Y (UK.nat Gu)<|mv Y<|lE h λB7 Gv h=>cv _ Y (UK.nat Gv)<|lE h λvn h48 h=>RT.mul .none _ Y Y T (UK.mul (a:=xu) (b:=B7) h48)<|lE h λx49 K0 h=>ad _ Y Y (UK.add (a:=B6) (b:=vn) K0) ?_;obtain⟨⟨vo,Ws⟩,Gw,h⟩:=bS h;refine cB (bW Gw) 24 Y ⟨Y,aq⟩<|bE h λGj K1 h=>iR Y Y Y K1<|bE h λWt SW h=>sR vo Y Y Y Y SW<|RT.done<|bD.n<|aV.n<|aW<|lE h λCy K6 h=>ad _ Y Y K6<|mv Y<|RT.done ?_;obtain rfl:=O h;exact aV.n ⟨(Cy,Ws,Wt),WY _ Y,wR []⟩;subst WX;obtain⟨Cz,DZ⟩:=Gs
 try dsimp only
 refine aV.n<|aW<|mo (s:=.row _) Y<|mv Y<|mv Y<|lE vw λSt SX vw=>ln Y SX<|lE vw λSu W0 vw=>ad _ Y Y W0<|mo (s:=.fO _ _) Y ?_;obtain⟨⟨OQ,k45⟩,W2,vw⟩:=bS vw;refine cB (bW W2) 24 Y ⟨Y,aq⟩<|bE vw λGk MM vw=>iR Y Y Y MM<|bE vw λWv SY vw=>sR OQ Y Y Y Y SY<|RT.done<|bD.n<|aV.n<|aW<|lE vw λOR W4 vw=>ad _ Y Y W4<|mv Y<|RT.done ?_;obtain rfl:=O vw;exact aV.n ⟨(OR,Wv),WU _ Y,wR []⟩;subst WT
 try dsimp only
 refine aV.n<|sr<|mo (s:=.row _) Y<|an (s:=.row _) Y<|dn<|kZ (i:=16) (E1:=71) (n:=1) (e:=aX) (l:=sx) hN (λ_ h=>h) Y<|bf ?_;obtain rfl:=O WS;exact R1 Y
end
section
open Go.Fw Go.Fw.Z Go.RowKit
theorem tQ{x0:List Nat}{x1:Nat}{r:Nat×List Nat}(h:gx x0 x1=some r):DN ah 107 [.row 1000,.sv (.v (.int .u64 ((x1:Nat):Int)))] (TR 71 1 aX x0) (.sv (.v (.int .u64 ((r.1:Nat):Int)))) (List.flatMap aX r.2):=by
 refine r9 Tryz.func107 Y (af Y) Y Y (λdI M v0=>?_);unfold gx at h;refine sr<|ag Y<|dn<|sr<|ag Y<|dn<|qq<|sr<|mo (s:=.row _) Y<|lE h λx9 h9 h=>lL Y Y h9<|lE h λew ic h=>sb _ Y Y ic<|ag Y<|dn<|bE h λe8 Gx wZ=>?_;refine bL (λ(Aq:Nat×(List Nat))=>AS.cw 34 [(5,.sv (.v (.int .u64 ((Aq.1:Nat):Int))))] [] [(1000,TR 71 1 aX Aq.2)]) (λAq=>Aq=e8) ?_ (λAq Gy=>?_);refine bg ?_;refine bM Gx (λs8=>AS.cw 34 [(0,.row 1000),(1,.sv (.v (.int .u64 ((x1:Nat):Int)))),(5,.sv (.v (.int .u64 ((s8.1:Nat):Int)))),(6,ai s8.2.1)] [] [(1000,TR 71 1 aX s8.2.2)]) (wR []) (λs8 y8 G8 h Gz GA=>?_);obtain⟨Ie,CA,oR⟩:=s8
 try dsimp only
 refine qq<|sr<|mv Y<|lE h λeA jk h=>ge _ Y Y jk<|dn ?_;cases eA;refine cF<|bT<|aV.x<|aV.x<|bD.x<|aV.n ?_;obtain rfl:=O (F h);exact⟨(Ie,oR),GA _ Y,wR []⟩;refine cT<|bu<|aV.n<|qq<|bg<|sr<|mv Y<|lE (V h) λfX iw h=>RT.shl .none _ Y Y T (by decide) (UK.shl (a:=Ie) (q:=32) (s:=32) Y iw)<|mo (s:=.row _) Y<|mv Y<|bE h λlU mB h=>iR Y Y Y mB<|bE h λje oU h=>lR Y Y oU Y<|lE h λgY mY h=>cv _ Y (UK.nat mY)<|lE h λiM oV h=>RT.or .none _ Y Y T (UK.or (a:=fX) (b:=gY) oV)<|ag Y<|dn<|sr<|mo (s:=.row _) Y ?_;refine mv Y<|mv Y<|mv Y<|bE h λjV oJ h=>RT.quo .none _ Y Y T (V8 oJ) (UK.quo oJ)<|lE h λn9 vz h=>cv _ Y (UK.nat vz)<|bE h λiq ny h=>iR Y Y Y ny<|bE h λD0 yx h=>sR n9 Y Y Y Y yx<|dn<|aW<|mv Y<|mv Y<|bE h λiN lZ h=>RT.rem .none _ Y Y T (UD lZ) (KF lZ)<|ag Y<|RT.done<|bD.n<|aV.n<|aW<|mv Y<|lE h λgw lW h=>sb _ Y Y lW ?_;refine ag Y<|RT.done ?_;obtain rfl:=O h;exact aV.n ⟨(iN,gw,D0),Gz _ Y,wR []⟩;subst Gy;obtain⟨Sv,xw⟩:=Aq
 try dsimp only
 refine aV.n<|sr<|mv Y<|ag Y<|dn<|bf<|bE wZ λ_ hle wZ=>?_;obtain rfl:=O wZ;exact⟨.inr Y,.sv (mA (.tmp Y (.nil)) au),(by show _=oI.live ⟨71,1,x0.length,List.flatMap aX xw⟩;rw[<-kP hle];rfl)⟩
theorem sE{x0:List Nat}{x1:Nat}{r:List Nat}(h:ei x0 x1=some r):Pure ah 111 [slc 1 (List.map aX x0),.v (.int .u64 ((x1:Nat):Int))] (slc 1 (List.map aX r)):=by
 refine bk Tryz.func111 Y (af Y) (λdI M vs hvs=>?_);unfold ei at h;refine sr<|aI Y (aB (n:=1) (e:=aX))<|dn<|sr<|RT.xW .none (dN 0) Y ⟨Y,aq⟩ T Y Y<|an (s:=.fO _ _) Y<|dn<|sr<|mv Y<|lE h λeG jh h=>ln Y jh<|lE h λeA jk h=>ad _ Y Y jk<|bE h λjv kF h=>RT.Fk (e:=aX) .none Y Y T Y T kF<|an (s:=.row _) Y<|dn<|qq<|sr<|mv Y<|lE h λgQ jl h=>ln Y jl ?_;refine mv Y<|dn<|bE h λe8 Gx wZ=>?_;refine bL (λ(Aq:Nat×(List Nat))=>AS.cw 35 [(5,.fO 106 [.box 9]),(6,.row 302)] [(9,⟨77,[.sv (.v (.int .u64 ((Aq.1:Nat):Int)))]⟩)] [(302,TR 71 1 aX Aq.2)]) (λAq=>Aq=e8) ?_ (λAq Gy=>?_);refine bg ?_;refine bM Gx (λs8=>AS.cw 35 [(1,.sv (.v (.int .u64 ((x1:Nat):Int)))),(5,.fO 106 [.box 9]),(6,.row 302),(14,.sv (slc 1 (List.map aX x0))),(15,ai gQ),(16,ai s8.1)] [(9,⟨77,[.sv (.v (.int .u64 ((s8.2.1:Nat):Int)))]⟩)] [(302,TR 71 1 aX s8.2.2)]) (eL (λi=>bif Nat.beq i 302 then 13 else i) Y Y Y Y Y ⟨.sv au,.fO,.row Y,.sv au,.sv au,.sv au,aq⟩ ⟨⟨_,Y,⟨.sv au,aq⟩⟩,aq⟩ ⟨⟨_,Y,cH.refl _⟩,aq⟩ (λi hi=>by rw[cX (show i≠302 by omega)];rfl)) (λs8 y8 G8 h Gz GA=>?_);obtain⟨tF,oS,ir⟩:=s8
 try dsimp only
 refine sr<|lE h λez j6 h=>ls _ Y Y j6<|dn<|qq ?_;cases ez;refine cF<|bT<|aV.x<|aV.x<|bD.x<|aV.n ?_;obtain rfl:=O (F h);exact⟨(oS,ir),GA _ Y,wR []⟩;refine cT<|bu<|aV.n<|qq<|bg<|sr<|bE (V h) λeF ji h=>ix Y Y ji<|lr Y Y<|ag Y<|dn<|aW<|mo (s:=.row _) Y<|mo (s:=.fO _ _) Y<|mv Y<|lE h λig nV h=>cv _ Y (UK.nat nV)<|mv Y<|lE h λjC mZ h=>RT.shl .none _ Y Y T (Int.natCast_nonneg _) (UK.shl (a:=ig) (q:=((x1:Nat):Int)) (s:=min x1 64) Y mZ) ?_;obtain⟨⟨gR,OS⟩,nW,h⟩:=bS h;refine cB (bW nW) 9 Y ⟨Y,aq⟩<|bl (l:=[gR]) (e:=aX) (.one Y (.nil)) Y Y Y Y Y Y<|bE h λn9 vz h=>aR (k:=[gR]) (e:=aX) Y Y Y vz<|an (s:=.row _) Y<|RT.done<|bD.n<|aV.n<|aW<|lE h λiq ny h=>ad _ Y Y ny<|mv Y<|RT.done ?_;obtain rfl:=O h;exact aV.n ⟨(iq,OS,n9),Gz _ Y,eL (λi=>bif Nat.beq i 302 then 28 else i) Y Y Y Y Y ⟨.sv au,.fO,.row Y,.sv au,.sv au,.sv au,aq⟩ ⟨⟨_,Y,⟨.sv au,aq⟩⟩,aq⟩ ⟨⟨_,Y,cH.refl _⟩,aq⟩ (λi hi=>by rw[cX (show i≠302 by omega)];rfl)⟩;subst Gy;obtain⟨yl,Ig⟩:=Aq
 try dsimp only
 refine aV.n<|sr<|mo (s:=.row _) Y<|mo (s:=.fO _ _) Y ?_;obtain⟨⟨iN,Ww⟩,lZ,wZ⟩:=bS wZ;refine cB (bW lZ) 9 Y ⟨Y,aq⟩<|bl (l:=[iN]) (e:=aX) (.one Y (.nil)) Y Y Y Y Y Y<|bE wZ λmK rG wZ=>RT.OG (k:=[iN]) (e:=aX) .none Y Y Y T Y T rG<|ag Y<|dn<|bf ?_;obtain rfl:=O wZ;exact R1 Y
theorem rH{x0:List Nat}{x1:Nat}{r:List Nat}(h:gH x0 x1=some r):Gf ah 111 [slc 1 (List.map aX x0),.v (.int .u64 ((x1:Nat):Int))] (TR 71 1 aX r):=by
 refine xT Tryz.func111 Y (af Y) (λdI M vs hvs=>?_);unfold gH at h;refine sr<|ag Y<|dn<|cg (gu 4 304 71 1 Y Y T)<|sr<|RT.xW .none (dN 0) Y ⟨Y,aq⟩ T Y Y<|an (s:=.fO _ _) Y<|dn<|sr<|mv Y<|lE h λeG jh h=>ln Y jh<|lE h λeA jk h=>ad _ Y Y jk<|bE h λjv kF h=>RT.Fk (e:=aX) .none Y Y T Y T kF<|an (s:=.row _) Y<|dn<|qq<|sr<|mv Y<|lE h λgQ jl h=>ln Y jl ?_;refine mv Y<|dn<|bE h λe8 Gx wZ=>?_;refine bL (λ(Aq:Nat×(List Nat))=>AS.cw 35 [(5,.fO 106 [.box 9]),(6,.row 306)] [(9,⟨77,[.sv (.v (.int .u64 ((Aq.1:Nat):Int)))]⟩)] [(306,TR 71 1 aX Aq.2)]) (λAq=>Aq=e8) ?_ (λAq Gy=>?_);refine bg ?_;refine bM Gx (λs8=>AS.cw 35 [(1,.sv (.v (.int .u64 ((x1:Nat):Int)))),(5,.fO 106 [.box 9]),(6,.row 306),(14,.sv (slc 1 (List.map aX x0))),(15,ai gQ),(16,ai s8.1)] [(9,⟨77,[.sv (.v (.int .u64 ((s8.2.1:Nat):Int)))]⟩)] [(306,TR 71 1 aX s8.2.2)]) (eL (λi=>bif Nat.beq i 306 then 13 else i) Y Y Y Y Y ⟨.sv au,.fO,.row Y,.sv au,.sv au,.sv au,aq⟩ ⟨⟨_,Y,⟨.sv au,aq⟩⟩,aq⟩ ⟨⟨_,Y,cH.refl _⟩,aq⟩ (λi hi=>by rw[cX (show i≠306 by omega)];rfl)) (λs8 y8 G8 h Gz GA=>?_);obtain⟨tF,oS,nT⟩:=s8
 try dsimp only
 refine sr<|lE h λez j6 h=>ls _ Y Y j6<|dn<|qq ?_;cases ez;refine cF<|bT<|aV.x<|aV.x<|bD.x<|aV.n ?_;obtain rfl:=O (F h);exact⟨(oS,nT),GA _ Y,wR []⟩;refine cT<|bu<|aV.n<|qq<|bg<|sr<|bE (V h) λeF ji h=>ix Y Y ji<|lr Y Y<|ag Y<|dn<|aW<|mo (s:=.row _) Y<|mo (s:=.fO _ _) Y<|mv Y<|lE h λig nV h=>cv _ Y (UK.nat nV)<|mv Y<|lE h λjC mZ h=>RT.shl .none _ Y Y T (Int.natCast_nonneg _) (UK.shl (a:=ig) (q:=((x1:Nat):Int)) (s:=min x1 64) Y mZ) ?_;obtain⟨⟨gR,OS⟩,nW,h⟩:=bS h;refine cB (bW nW) 9 Y ⟨Y,aq⟩<|bl (l:=[gR]) (e:=aX) (.one Y (.nil)) Y Y Y Y Y Y<|bE h λn9 vz h=>aR (k:=[gR]) (e:=aX) Y Y Y vz<|an (s:=.row _) Y<|RT.done<|bD.n<|aV.n<|aW<|lE h λiq ny h=>ad _ Y Y ny<|mv Y<|RT.done ?_;obtain rfl:=O h;exact aV.n ⟨(iq,OS,n9),Gz _ Y,eL (λi=>bif Nat.beq i 306 then 28 else i) Y Y Y Y Y ⟨.sv au,.fO,.row Y,.sv au,.sv au,.sv au,aq⟩ ⟨⟨_,Y,⟨.sv au,aq⟩⟩,aq⟩ ⟨⟨_,Y,cH.refl _⟩,aq⟩ (λi hi=>by rw[cX (show i≠306 by omega)];rfl)⟩;subst Gy;obtain⟨yl,nU⟩:=Aq
 try dsimp only
 refine aV.n<|sr<|mo (s:=.row _) Y<|mo (s:=.fO _ _) Y ?_;obtain⟨⟨iN,Ww⟩,lZ,wZ⟩:=bS wZ;refine cB (bW lZ) 9 Y ⟨Y,aq⟩<|bl (l:=[iN]) (e:=aX) (.one Y (.nil)) Y Y Y Y Y Y<|bE wZ λmK rG wZ=>aR (k:=[iN]) (e:=aX) Y Y Y rG<|an (s:=.row _) Y<|dn<|bf ?_;obtain rfl:=O wZ;exact⟨.inr Y,_,.tmp Y,Y⟩
theorem sF{x0:Nat}{r:Int}(h:fE x0=some r):Pure ah 115 [.v (.int .u32 ((x0:Nat):Int))] (ay r):=by
 refine bk Tryz.func115 Y (af Y) (λdI M vs hvs=>?_);unfold fE at h;refine sr<|ag Y<|dn<|qq<|sr<|mv Y<|lE h λx4 h4 h=>ge _ Y Y (V7 (p:=65536) (q:=x0) h4)<|dn ?_;refine bG h (λj2=>AS.cw 19 [(0,.sv (.v (.int .u32 ((j2.1:Nat):Int)))),(2,ai j2.2)] [] []) (λh=>?_) (λj2 h=>?_);cases x4;exact fs<|⟨(x0,0),(F h),wR []⟩;exact cT<|sr<|mv Y<|lE (V h) λx6 h6 h=>RT.shr .none _ Y Y T (by decide) (A8 (k:=.u32) (a:=x0) (q:=16) (s:=16) Y h6)<|ag Y<|dn<|aW<|ag Y<|dn<|⟨(x6,16),h,wR []⟩;obtain⟨D1,KU⟩:=j2
 try dsimp only
 refine aV.n<|qq<|sr<|mv Y<|lE h λx8 h8 h=>ge _ Y Y (V7 (p:=256) (q:=D1) h8)<|dn ?_;refine bG h (λj4=>AS.cw 19 [(0,.sv (.v (.int .u32 ((j4.1:Nat):Int)))),(2,ai j4.2)] [] []) (λh=>?_) (λj4 h=>?_);cases x8;exact fs<|⟨(D1,KU),(F h),wR []⟩;exact cT<|sr<|mv Y<|lE (V h) λew ic h=>RT.shr .none _ Y Y T (by decide) (A8 (k:=.u32) (a:=D1) (q:=8) (s:=8) Y ic)<|ag Y<|dn<|aW<|mv Y<|lE h λeA jk h=>ad _ Y Y jk<|ag Y<|dn<|⟨(ew,eA),h,wR []⟩;obtain⟨Sw,Sx⟩:=j4
 try dsimp only
 refine aV.n<|sr<|mv Y<|mv Y<|lE h λgQ jl h=>cv _ Y (UK.nat jl)<|bE h λfX iw h=>?_;refine RT.six (l:=[0,1,2,2,3,3,3,3,4,4,4,4,4,4,4,4,5,5,5,5,5,5,5,5,5,5,5,5,5,5,5,5,6,6,6,6,6,6,6,6,6,6,6,6,6,6,6,6,6,6,6,6,6,6,6,6,6,6,6,6,6,6,6,6,7,7,7,7,7,7,7,7,7,7,7,7,7,7,7,7,7,7,7,7,7,7,7,7,7,7,7,7,7,7,7,7,7,7,7,7,7,7,7,7,7,7,7,7,7,7,7,7,7,7,7,7,7,7,7,7,7,7,7,7,7,7,7,7,8,8,8,8,8,8,8,8,8,8,8,8,8,8,8,8,8,8,8,8,8,8,8,8,8,8,8,8,8,8,8,8,8,8,8,8,8,8,8,8,8,8,8,8,8,8,8,8,8,8,8,8,8,8,8,8,8,8,8,8,8,8,8,8,8,8,8,8,8,8,8,8,8,8,8,8,8,8,8,8,8,8,8,8,8,8,8,8,8,8,8,8,8,8,8,8,8,8,8,8,8,8,8,8,8,8,8,8,8,8,8,8,8,8,8,8,8,8,8,8,8,8,8,8,8,8,8,8]) .none Y Y T iw ?_;refine lE h λez j6 h=>cv _ Y j6<|lE h λeF ji h=>ad _ Y Y ji<|ag Y<|dn<|bf ?_;obtain rfl:=O h;exact R1 Y
theorem mD{x0:Nat}{r:Int}(h:cP x0=some r):Pure ah 110 [.v (.int .u32 ((x0:Nat):Int))] (ay r):=by
 refine bk Tryz.func110 Y (af Y) (λdI M vs hvs=>?_);unfold cP at h;refine sr<|ag Y<|dn<|sr<|mv Y<|bE h λx4 h4 h=>cl (sF h4) ⟨Y,aq⟩<|lE h λx5 h5 h=>sb _ Y Y h5<|ag Y<|dn<|bf ?_;obtain rfl:=O h;exact R1 Y
theorem tR{x0:List Nat}{o0:Nat}{n0:Nat}{x1:List Nat}{r:Nat×List Nat}(h:gy x0 o0 n0 x1=some r):DN ah 112 [.me 1000 (o0*1) n0,.sv (slc 1 (List.map aX x1))] (TR 71 1 aX x0) (.sv (.v (.int .u64 ((r.1:Nat):Int)))) (List.flatMap aX r.2):=by
 refine r9 Tryz.func112 Y (af Y) Y Y (λdI M v0=>?_);unfold gy at h;refine sr<|ag Y<|dn<|sr<|mv Y<|lE h λeA jk h=>ln Y jk<|ag Y<|dn<|qq<|aY mixed<|mo (s:=.me _ _ _) Y<|mv Y<|bE h λgQ jl h=>RT.Cu .none Y Y T jl<|bE h λfX iw h=>lR Y Y iw Y<|lE h λez j6 h=>cv _ Y (UK.nat j6)<|lE h λeF ji h=>RT.shl .none _ Y Y T (by decide) (UK.shl (a:=ez) (q:=32) (s:=32) Y ji)<|mo (s:=.me _ _ _) Y ?_;refine mv Y<|lE h λgY mY h=>sb _ Y Y mY<|bE h λiM oV h=>RT.Cu .none Y Y T oV<|bE h λig nV h=>lR Y Y nV Y<|lE h λg9 pU h=>cv _ Y (UK.nat pU)<|lE h λjC mZ h=>RT.or .none _ Y Y T (UK.or (a:=eF) (b:=g9) mZ)<|ag Y ?_;refine RT.done ⟨by kernel_rfl,?_⟩;refine aV.n<|qq<|aY mixed<|mv Y<|mv Y<|lE h λn9 vz h=>sb _ Y Y vz<|bE h λiq ny h=>ix Y Y ny<|lr Y Y<|lE h λnR wo h=>cv _ Y (UK.nat wo)<|mv Y<|mv Y<|lE h λmK rG h=>sb _ Y Y rG<|bE h λqY zQ h=>ix Y Y zQ<|lr Y Y<|lE h λrF yy h=>cv _ Y (UK.nat yy)<|ag Y<|ag Y ?_;refine RT.done ⟨by kernel_rfl,?_⟩;refine aV.n<|qq<|aY mixed<|mv Y<|mv Y<|bE h λnS uY h=>RT.quo .none _ Y Y T (V8 uY) (UK.quo uY)<|mv Y<|mv Y<|bE h λB6 Fu h=>RT.rem .none _ Y Y T (UD Fu) (KF Fu)<|ag Y<|ag Y ?_;refine RT.done ⟨by kernel_rfl,?_⟩;refine aV.n<|qq<|bE h λGq yq qp=>?_
 refine bL (λ(Gm:Nat)=>AS.cw 71 [(9,.sv (.v (.int .u64 ((Gm:Nat):Int))))] [] [(1000,TR 71 1 aX x0)]) (λGm=>Gm=Gq) ?_ (λGm yt=>?_);refine bg ?_;refine bM yq (λuW=>AS.cw 71 [(0,.me 1000 (o0*1) n0),(5,ai eA),(7,.sv (.v (.int .u64 ((nR:Nat):Int)))),(8,.sv (.v (.int .u64 ((rF:Nat):Int)))),(9,.sv (.v (.int .u64 ((uW.1:Nat):Int)))),(10,.sv (.v (.int .u64 ((uW.2:Nat):Int))))] [] [(1000,TR 71 1 aX x0)]) (wR []) (λuW SN SO h yu wY=>?_);obtain⟨zK,An⟩:=uW
 try dsimp only
 refine qq<|qq ?_;refine bG h (λKX=>AS.cw 71 [(0,.me 1000 (o0*1) n0),(5,ai eA),(7,.sv (.v (.int .u64 ((nR:Nat):Int)))),(8,.sv (.v (.int .u64 ((rF:Nat):Int)))),(9,.sv (.v (.int .u64 ((zK:Nat):Int)))),(10,.sv (.v (.int .u64 ((An:Nat):Int)))),(61,aj KX)] [] [(1000,TR 71 1 aX x0)]) (λh=>?_) (λD2 h=>?_);refine aW<|mv Y<|lE h λxu Gu h=>RT.shr .none _ Y Y T (by decide) (A8 (k:=.u64) (a:=zK) (q:=32) (s:=32) Y Gu)<|lE h λsW h46 h=>ne _ Y Y (Sa (p:=xu) (q:=0) h46)<|mv Y<|bE h λIh dG h=>?_;cases sW;refine gm Y<|gm Y<|lE (F dG) λvo Gw dG=>RT.mul (.some Y Y) _ Y Y T (UK.mul (a:=zK) (b:=rF) Gw)<|gm Y<|lE dG λCy K6 dG=>RT.shl (.some Y Y) _ Y Y T (by decide) (UK.shl (a:=An) (q:=32) (s:=32) Y K6)<|RT.move (.some Y Y) (s:=.me _ _ _) Y T<|gm Y<|lE dG λKV W5 dG=>RT.sub (.some Y Y) _ Y Y T W5<|bE dG λSt SX dG=>RT.Cu (.some Y Y) Y Y T SX<|bE dG λSu W0 dG=>RT.Sg (.some Y Y) Y Y W0 Y T ?_;refine lE dG λFq Pa dG=>RT.conv (.some Y Y) _ Y T (UK.nat Pa)<|lE dG λOQ W2 dG=>RT.or (.some Y Y) _ Y Y T (UK.or (a:=Cy) (b:=Fq) W2)<|lE dG λGk MM dG=>gg _ Y Y (UC (p:=OQ) (q:=vo) MM) ?_;obtain rfl:=O dG;exact pF Y<|dn<|⟨Gk,h,wR []⟩;obtain rfl:=O (V dG)
 exact ww<|ww<|ww<|ww<|ww<|ww<|ww<|ww<|ww<|ww<|ww<|ww<|ww<|pT Y<|dn<|⟨true,h,wR []⟩
 try dsimp only
 refine aV.n ?_;cases D2;refine cF<|bT<|aV.x<|aV.x<|bD.x<|aV.n ?_;obtain rfl:=O (F h);exact⟨zK,wY _ Y,wR []⟩;refine cT<|bu<|aV.n<|bg<|sr<|mv Y<|lE (V h) λDF h63 h=>sb _ Y Y (UK.sub (a:=zK) (b:=1) h63)<|ag Y<|dn<|sr<|mv Y<|mv Y<|lE h λMz W6 h=>ad _ Y Y (UK.add (a:=An) (b:=nR) W6)<|ag Y<|dn<|sr<|mv Y<|lE h λGl Pb h=>RT.shr .none _ Y Y T (by decide) (A8 (k:=.u64) (a:=Mz) (q:=32) (s:=32) Y Pb)<|lE h λWx W7 h=>ne _ Y Y (Sa (p:=Gl) (q:=0) W7) ?_;refine dn ?_;cases Wx;refine cF<|bu<|bD.n ?_;obtain rfl:=O (F h);exact aV.n ⟨(DF,Mz),yu _ Y,wR []⟩;refine cT<|bT<|bD.y (by decide)<|aV.x<|bD.x<|aV.n ?_;obtain rfl:=O (V h);exact⟨DF,wY _ Y,wR []⟩;subst yt
 try dsimp only
 refine aV.n<|sr<|mv Y<|ag Y<|dn<|bf<|bE qp λ_ hle qp=>?_;obtain rfl:=O qp;exact⟨.inr Y,.sv (mA (.tmp Y (.nil)) au),(by show _=oI.live ⟨71,1,x0.length,List.flatMap aX x0⟩;rw[<-kP hle];rfl)⟩
theorem nA{x0:List Nat}{o0:Nat}{n0:Nat}{x1:List Nat}{x2:Nat}{r:Bool×List Nat}(h:cJ x0 o0 n0 x1 x2=some r):DN ah 113 [.me 1000 (o0*1) n0,.sv (slc 1 (List.map aX x1)),.sv (.v (.int .u64 ((x2:Nat):Int)))] (TR 71 1 aX x0) (aj r.1) (List.flatMap aX r.2):=by
 refine r9 Tryz.func113 Y (af Y) Y Y (λdI M v0=>?_);unfold cJ at h;refine sr<|ag Y<|dn<|sr<|ag Y<|dn<|sr<|RT.xW .none (dN 0) Y ⟨Y,aq⟩ T Y Y<|an (s:=.fO _ _) Y<|dn<|qq<|sr<|mo (s:=.me _ _ _) Y<|lE h λgw lW h=>RT.OL .none Y T lW<|mv Y<|dn<|bE h λOT Pc oh=>?_;refine bL (λ(vA:Nat×(List Nat))=>AS.cw 51 [(7,.sv (.v (.int .u64 ((vA.1:Nat):Int))))] [] [(1000,TR 71 1 aX vA.2)]) (λvA=>vA=OT) ?_ (λvA Pd=>?_);refine bg ?_;refine bM Pc (λD3=>AS.cw 51 [(0,.me 1000 (o0*1) n0),(1,.sv (slc 1 (List.map aX x1))),(2,.sv (.v (.int .u64 ((x2:Nat):Int)))),(7,.sv (.v (.int .u64 ((D3.1:Nat):Int)))),(8,.fO 106 [.box 12]),(14,ai gw),(15,ai D3.2.1)] [(12,⟨77,[.sv (.v (.int .u64 ((D3.2.2.1:Nat):Int)))]⟩)] [(1000,TR 71 1 aX D3.2.2.2)]) (wR []) (λD3 y12 G12 h Pe Pf=>?_);obtain⟨Gn,tG,Bd,qZ⟩:=D3
 try dsimp only
 refine sr<|lE h λfX iw h=>ls _ Y Y iw<|dn<|qq ?_;cases fX;refine cF<|bT<|aV.x<|aV.x<|bD.x<|aV.n ?_;obtain rfl:=O (F h);exact⟨(Gn,qZ),Pf _ Y,wR []⟩;refine cT<|bu<|aV.n<|qq<|bg<|sr<|mv Y<|ag Y<|dn<|sr<|ag Y<|dn<|qq<|sr<|mv Y<|mv Y<|lE (V h) λje oU h=>ln Y oU<|lE h λgY mY h=>ls _ Y Y mY<|dn ?_;refine bG h (λj14=>AS.cw 51 [(0,.me 1000 (o0*1) n0),(1,.sv (slc 1 (List.map aX x1))),(2,.sv (.v (.int .u64 ((x2:Nat):Int)))),(7,.sv (.v (.int .u64 ((Gn:Nat):Int)))),(8,.fO 106 [.box 12]),(9,ai tG),(10,.sv (.v (.int .u64 ((j14:Nat):Int)))),(14,ai gw),(15,ai tG)] [(12,⟨77,[.sv (.v (.int .u64 ((Bd:Nat):Int)))]⟩)] [(1000,TR 71 1 aX qZ)]) (λh=>?_) (λIi h=>?_);cases gY;exact fs<|⟨0,(F h),wR []⟩;exact cT<|aW<|mv Y<|mv Y<|bE (V h) λg9 pU h=>ix Y Y pU<|lr Y Y<|lE h λgR nW h=>cv _ Y (UK.nat nW)<|mv Y<|lE h λn9 vz h=>RT.mul .none _ Y Y T (UK.mul (a:=gR) (b:=x2) vz)<|ag Y<|dn<|⟨n9,h,wR []⟩
 try dsimp only
 refine aV.n<|qq<|aY mixed<|mo (s:=.me _ _ _) Y<|mv Y<|bE h λnR wo h=>RT.Cu .none Y Y T wo<|bE h λiN lZ h=>lR Y Y lZ Y<|lE h λmL pV h=>cv _ Y (UK.nat pV)<|mo (s:=.fO _ _) Y<|mv Y ?_;obtain⟨⟨vp,Wy⟩,vB,h⟩:=bS h;refine cB (bW vB) 12 Y ⟨Y,aq⟩<|lE h λrF yy h=>cv _ Y (UK.nat yy)<|lE h λsu yw h=>sb _ Y Y (UK.sub (a:=mL) (b:=rF) yw)<|mv Y<|lE h λnS uY h=>sb _ Y Y (UK.sub (a:=su) (b:=Gn) uY)<|ag Y ?_;refine RT.done ⟨by kernel_rfl,?_⟩;refine aV.n<|sr<|mo (s:=.me _ _ _) Y<|mv Y<|mv Y<|lE h λAo CL h=>cv _ Y (UK.nat CL)<|bE h λxu Gu h=>RT.Cu .none Y Y T Gu<|bE h λWz SZ h=>sR Ao Y Y Y Y SZ<|dn<|aW<|mv Y<|lE h λB7 Gv h=>RT.shr .none _ Y Y T (by decide) (A8 (k:=.u64) (a:=nS) (q:=63) (s:=63) Y Gv)<|ag Y<|RT.done<|bD.n<|aV.n<|aW<|lE h λvn h48 h=>ad _ Y Y h48<|mv Y<|RT.done ?_;obtain rfl:=O h;exact aV.n ⟨(B7,vn,Wy,Wz),Pe _ Y,wR []⟩;subst Pd;obtain⟨Ij,tH⟩:=vA
 try dsimp only
 refine aV.n<|sr<|mv Y<|lE oh λvo Gw oh=>ne _ Y Y (Sa (p:=Ij) (q:=0) Gw)<|ag Y<|dn<|bf<|bE oh λ_ hle oh=>?_;obtain rfl:=O oh;exact⟨.inr Y,.sv (mA (.tmp Y (.nil)) au),(by show _=oI.live ⟨71,1,x0.length,List.flatMap aX tH⟩;rw[<-kP hle];rfl)⟩
set_option maxHeartbeats 4000000 in
theorem vC{x0:List Nat}{x1:List Nat}(N:Nat){r:(List Nat)×(List Nat)}(h:gS x0 x1=some r):cZ ah 108 N [slc 1 (List.map aX x0),slc 1 (List.map aX x1)] (.uT [nw N (slc 1 (List.map aX r.1)),nw N (slc 1 (List.map aX r.2))]):=by
 refine bF Tryz.func108 Y (af Y) (λdI M vs hN hvs=>?_);unfold gS at h;refine sr<|ag Y<|ag Y<|dn<|cg (gu 4 306 71 1 Y Y T)<|cg (gu 5 308 71 1 Y Y T)<|sr<|mv Y<|lE h λez j6 h=>ln Y j6<|ag Y<|dn<|sr<|mv Y<|mv Y<|lE h λje oU h=>sb _ Y Y oU<|bE h λgY mY h=>ix Y Y mY<|lr Y Y<|bE h λig nV h=>cl (mD nV) ⟨Y,aq⟩ ?_;refine lE h λg9 pU h=>cv _ Y (UK.conv pU)<|ag Y<|dn<|qq<|aY mixed<|mv Y<|mv Y<|bE h λjV oJ h=>cN (rH oJ) ⟨Y,Y,aq⟩<|mv Y<|mv Y<|bE h λyj zP h=>cl (sE zP) ⟨Y,Y,aq⟩<|mv Y<|bE h λiN lZ h=>RT.ye .none 0 ez Y Y ⟨_,Y⟩ T lZ<|an (s:=.row _) Y<|ag Y ?_;refine RT.done ⟨by kernel_rfl,?_⟩;refine aV.n<|sr<|mv Y<|lE h λmK rG h=>ln Y rG<|mv Y<|lE h λvp vB h=>sb _ Y Y vB<|lE h λrF yy h=>ad _ Y Y yy<|bE h λsu yw h=>RT.tw (n:=1) (e:=aX) .none Y Y T Y T (by rfl) (by decide) (by exact⟨au,aq⟩) yw<|an (s:=.row _) Y<|dn<|qq<|sr<|mv Y<|lE h λnS uY h=>ln Y uY<|mv Y<|lE h λuV CK h=>sb _ Y Y CK ?_;refine ag Y<|dn<|bE h λWI W8 Pg=>?_;refine bL (λ(GB:(List Nat)×(List Nat))=>AS.cw 141 [(4,.row 38),(6,ai ez),(7,.sv (.v (.int .u64 ((g9:Nat):Int)))),(8,.row 27)] [] [(38,TR 71 1 aX GB.1),(27,TR 71 1 aX GB.2)]) (λGB=>GB=WI) ?_ (λGB W9=>?_);refine bg ?_
 refine bM W8 (λOU=>AS.cw 141 [(4,.row 38),(6,ai ez),(7,.sv (.v (.int .u64 ((g9:Nat):Int)))),(8,.row 27),(9,.sv (slc 1 (List.map aX iN))),(10,ai OU.1)] [] [(38,TR 71 1 aX OU.2.1),(27,TR 71 1 aX OU.2.2)]) (wR []) (λOU y36 G36 h Xa Xb=>?_);obtain⟨iu,qj,sy⟩:=OU
 try dsimp only
 refine qq<|sr<|mv Y<|lE h λAo CL h=>ge _ Y Y CL<|dn ?_;cases Ao;refine cF<|bT<|aV.x<|aV.x<|bD.x<|aV.n ?_;obtain rfl:=O (F h);exact⟨(qj,sy),Xb _ Y,wR []⟩;refine cT<|bu<|aV.n<|qq<|bg<|sr<|mo (s:=.row _) Y<|mv Y<|mv Y<|mv Y<|lE (V h) λGj K1 h=>ad _ Y Y K1<|lE h λCy K6 h=>ad _ Y Y K6 ?_;obtain⟨⟨o53,n53⟩,Xc,h⟩:=bS h;refine RT.Sj .none iu Cy Y Y ⟨_,Y⟩ ⟨_,Y⟩ T Xc<|mv Y ?_;obtain⟨⟨KV,OV⟩,W5,h⟩:=bS h;refine bE h λ_ Xd h=>cR (l:=sy) (l':=OV) (e:=aX) (tR W5) (kP Xd) 27 Y (.k2 Y Y)<|ag Y<|dn<|qq<|sr<|mo (s:=.row _) Y<|mv Y<|mv Y<|mv Y<|lE h λGk MM h=>ad _ Y Y MM<|lE h λOR W4 h=>ad _ Y Y W4 ?_;obtain⟨⟨o62,n62⟩,h62,h⟩:=bS h;refine RT.Sj .none iu OR Y Y ⟨_,Y⟩ ⟨_,Y⟩ T h62<|mv Y<|mv Y ?_;obtain⟨⟨OW,Rj⟩,UI,h⟩:=bS h;refine bE h λ_ Xe h=>cR (l:=OV) (l':=Rj) (e:=aX) (nA UI) (kP Xe) 27 Y (.k3 Y Y Y)<|dn ?_;refine bG h (λRk=>AS.cw 141 [(4,.row 38),(6,ai ez),(7,.sv (.v (.int .u64 ((g9:Nat):Int)))),(8,.row 27),(9,.sv (slc 1 (List.map aX iN))),(10,ai iu),(11,.sv (.v (.int .u64 ((Rk.1:Nat):Int))))] [] [(38,TR 71 1 aX qj),(27,TR 71 1 aX Rk.2)]) (λh=>?_) (λRk h=>?_);cases OW;exact fs<|⟨(KV,Rj),(F h),wR []⟩
 refine cT<|sr<|mv Y<|lE (V h) λSz h67 h=>sb _ Y Y (UK.sub (a:=KV) (b:=1) h67)<|ag Y<|dn<|sr<|RT.xW .none (dN 0) Y ⟨Y,aq⟩ T Y Y<|an (s:=.fO _ _) Y<|dn<|qq<|sr<|mv Y<|lE h λOY Xf h=>ln Y Xf<|mv Y<|dn<|bE h λWG Xg qt=>?_;refine bL (λ(GC:Nat×(List Nat))=>AS.cw 141 [(4,.row 38),(6,ai ez),(7,.sv (.v (.int .u64 ((g9:Nat):Int)))),(8,.row 27),(9,.sv (slc 1 (List.map aX iN))),(10,ai iu),(11,.sv (.v (.int .u64 ((Sz:Nat):Int)))),(12,.fO 106 [.box 68])] [(68,⟨77,[.sv (.v (.int .u64 ((GC.1:Nat):Int)))]⟩)] [(38,TR 71 1 aX qj),(27,TR 71 1 aX GC.2)]) (λGC=>GC=WG) ?_ (λGC Xh=>?_);refine bg ?_;refine bM Xg (λOZ=>AS.cw 141 [(4,.row 38),(6,ai ez),(7,.sv (.v (.int .u64 ((g9:Nat):Int)))),(8,.row 27),(9,.sv (slc 1 (List.map aX iN))),(10,ai iu),(11,.sv (.v (.int .u64 ((Sz:Nat):Int)))),(12,.fO 106 [.box 68]),(69,.sv (slc 1 (List.map aX iN))),(70,ai OY),(71,ai OZ.1)] [(68,⟨77,[.sv (.v (.int .u64 ((OZ.2.1:Nat):Int)))]⟩)] [(38,TR 71 1 aX qj),(27,TR 71 1 aX OZ.2.2)]) (wR []) (λOZ y65 G65 h Xi Xj=>?_);obtain⟨vr,tJ,sB⟩:=OZ
 try dsimp only
 refine sr<|lE h λWB h72 h=>ls _ Y Y h72<|dn<|qq ?_;cases WB;refine cF<|bT<|aV.x<|aV.x<|bD.x<|aV.n ?_;obtain rfl:=O (F h);exact⟨(tJ,sB),Xj _ Y,wR []⟩;refine cT<|bu<|aV.n<|qq<|bg<|sr<|mv Y<|bE (V h) λSA Xk h=>ix Y Y Xk<|lr Y Y<|ag Y<|ag Y<|dn<|aW<|mo (s:=.row _) Y<|mv Y<|mv Y<|lE h λx79 h79 h=>ad _ Y Y h79<|mo (s:=.fO _ _) Y<|mo (s:=.row _) Y<|mv Y<|mv Y<|lE h λx84 h84 h=>ad _ Y Y h84<|bE h λKW Ph h=>iR Y Y Y Ph ?_;refine bE h λD5 S0 h=>lR Y Y S0 Y<|lE h λWC h87 h=>cv _ Y (UK.nat h87)<|mv Y<|lE h λIl S3 h=>cv _ Y (UK.nat S3)<|lE h λSB Xl h=>ad _ Y Y (UK.add (a:=WC) (b:=Il) Xl) ?_;obtain⟨⟨O0,WD⟩,Xm,h⟩:=bS h;refine cB (bW Xm) 68 Y ⟨Y,aq⟩<|bE h λx92 h92 h=>iR Y Y Y h92<|bE h λWE S4 h=>sR O0 Y Y Y Y S4<|RT.done<|bD.n<|aV.n<|aW<|lE h λO1 Xn h=>ad _ Y Y Xn<|mv Y<|RT.done ?_;obtain rfl:=O h;exact aV.n ⟨(O1,WD,WE),Xi _ Y,wR []⟩;subst Xh;obtain⟨CB,ym⟩:=GC
 try dsimp only
 refine aV.n<|aW<|mo (s:=.row _) Y<|mv Y<|mv Y<|lE qt λRl Xo qt=>ad _ Y Y Xo<|mo (s:=.fO _ _) Y<|mo (s:=.row _) Y<|mv Y<|mv Y<|lE qt λD6 Pj qt=>ad _ Y Y Pj<|bE qt λIm Pk qt=>iR Y Y Y Pk<|bE qt λD7 Pm qt=>lR Y Y Pm Y<|lE qt λBe Iv qt=>cv _ Y (UK.nat Iv) ?_;obtain⟨⟨Gp,k72⟩,Pn,qt⟩:=bS qt;exact cB (bW Pn) 68 Y ⟨Y,aq⟩<|bE qt λSC Xp qt=>iR Y Y Y Xp<|bE qt λWH S5 qt=>sR Gp Y Y Y Y S5<|dn<|⟨(Sz,WH),qt,wR []⟩;obtain⟨Ik,D4⟩:=Rk
 try dsimp only
 refine aV.n<|aW<|mo (s:=.row _) Y<|mv Y<|mv Y<|lE h λOX Xq h=>cv _ Y (UK.nat Xq)<|bE h λSy Xr h=>iR Y Y Y Xr<|bE h λWA S6 h=>sR OX Y Y Y Y S6<|RT.done<|bD.n<|aV.n<|aW<|mv Y<|lE h λsW h46 h=>sb _ Y Y h46<|ag Y<|RT.done ?_;obtain rfl:=O h;exact aV.n ⟨(sW,WA,D4),Xa _ Y,wR []⟩;subst W9;obtain⟨yn,vu⟩:=GB
 try dsimp only
 refine aV.n<|sr<|mv Y<|bE Pg λD8 Po Pg=>RT.tw (n:=1) (e:=aX) .none Y Y T Y T (by rfl) (by decide) (by exact⟨au,aq⟩) Po<|an (s:=.row _) Y<|dn<|qq<|sr<|mv Y<|mv Y<|dn<|bE Pg λe81 Xs Xt=>?_;refine bL (λ(oT:(List Nat))=>AS.cw 141 [(4,.row 38),(5,.row 114)] [] [(38,TR 71 1 aX yn),(114,TR 71 1 aX oT)]) (λoT=>oT=e81) ?_ (λoT Xu=>?_);refine bg ?_;refine bM Xs (λRm=>AS.cw 141 [(4,.row 38),(5,.row 114),(7,.sv (.v (.int .u64 ((g9:Nat):Int)))),(8,.row 27),(115,ai ez),(116,ai Rm.1)] [] [(38,TR 71 1 aX yn),(114,TR 71 1 aX Rm.2),(27,TR 71 1 aX vu)]) (wR []) (λRm y81 G81 h Xv Xw=>?_);obtain⟨q9,tK⟩:=Rm
 try dsimp only
 refine sr<|lE h λO2 Xx h=>ls _ Y Y Xx<|dn<|qq ?_;cases O2;refine cF<|bT<|aV.x<|aV.x<|bD.x<|aV.n ?_;obtain rfl:=O (F h);exact⟨tK,Xw _ Y,wR []⟩;refine cT<|bu<|aV.n<|qq<|bg<|sr<|mv Y<|ag Y<|dn<|aY mixed<|mo (s:=.row _) Y<|mv Y<|mo (s:=.row _) Y<|mv Y<|bE (V h) λSD Xy h=>iR Y Y Y Xy<|bE h λSE Xz h=>lR Y Y Xz Y<|lE h λO3 XA h=>cv _ Y (UK.nat XA)<|mo (s:=.row _) Y<|mv Y<|lE h λSF h128 h=>ad _ Y Y h128<|bE h λSG XB h=>?_;refine iR Y Y Y XB<|bE h λSH XC h=>lR Y Y XC Y<|lE h λO4 XD h=>cv _ Y (UK.nat XD)<|lE h λO5 XE h=>RT.shl .none _ Y Y T (by decide) (UK.shl (a:=O4) (q:=32) (s:=32) Y XE)<|lE h λO6 XF h=>RT.or .none _ Y Y T (UK.or (a:=O3) (b:=O5) XF)<|mv Y<|lE h λSI XG h=>RT.shr .none _ Y Y T (Int.natCast_nonneg _) (A8 (k:=.u64) (a:=O6) (q:=((g9:Nat):Int)) (s:=min g9 64) Y XG)<|lE h λO7 XH h=>cv _ Y (UK.nat XH) ?_;refine bE h λSJ XI h=>iR Y Y Y XI<|bE h λWJ S7 h=>sR O7 Y Y Y Y S7 ?_;refine RT.done ⟨by kernel_rfl,?_⟩;refine bD.n<|aV.n<|aW<|lE h λO8 XJ h=>ad _ Y Y XJ<|mv Y<|RT.done ?_;obtain rfl:=O h;exact aV.n ⟨(O8,WJ),Xv _ Y,wR []⟩;subst Xu
 try dsimp only
 refine aV.n<|sr<|mo (s:=.row _) Y<|mo (s:=.row _) Y<|an (s:=.row _) Y<|an (s:=.row _) Y<|dn<|kZ (i:=38) (E1:=71) (n:=1) (e:=aX) (l:=yn) hN (λ_ h=>h) Y<|kZ (i:=114) (E1:=71) (n:=1) (e:=aX) (l:=oT) hN (λ_ h=>h) Y<|bf ?_;obtain rfl:=O Xt;exact R2 Y Y
theorem l6{x0:List Nat}(N:Nat){r:List Nat}(h:dz x0=some r):cZ ah 81 N [slc 1 (List.map aX x0)] (nw N (slc 1 (List.map aX r))):=KS (og h)
theorem nI{x0:List Nat}{x1:List Nat}(N:Nat){r:(List Nat)×(List Nat)}(h:eY x0 x1=some r):cZ ah 102 N [slc 1 (List.map aX x0),slc 1 (List.map aX x1)] (.uT [nw N (slc 1 (List.map aX r.1)),nw N (slc 1 (List.map aX r.2))]):=by
 refine bF Tryz.func102 Y (af Y) (λdI M vs hN hvs=>?_);unfold eY at h;refine sr<|ag Y<|aI Y (bn (N:=N) (n:=1) (e:=aX))<|dn<|cg (gu 4 304 71 1 Y Y T)<|qq<|bg<|sr<|mv Y<|mv Y<|bE h λeA jk h=>cl (fm jk) ⟨Y,Y,aq⟩<|lE h λjv kF h=>ls _ Y Y kF<|ag Y<|dn ?_;cases jv;refine cF<|sr<|mv Y<|lE (F h) λeF ji h=>ln Y ji<|lE h λlU mB h=>RT.leq .none _ Y Y T mB<|ag Y<|dn ?_;cases lU;refine cF<|sr<|mv Y<|lE (F h) λvp vB h=>ln Y vB<|lE h λrF yy h=>eq _ Y Y (uU (p:=vp) (q:=1) yy)<|ag Y<|dn ?_;cases rF;refine cF<|bu<|bD.n<|aV.n<|sr<|mv Y<|mv Y ?_;obtain⟨⟨SK,SL⟩,K6,h⟩:=bS (F h);refine RT.bH .none (vC N K6) hN Y ⟨Y,Y,aq⟩ T<|ex Y Y<|ex Y Y<|ag Y<|ag Y<|dn<|bf ?_;obtain rfl:=O h;exact R2 Y Y;refine cT<|sr<|mv Y<|bE (V h) λuX zR h=>cN (og zR) ⟨Y,aq⟩<|an (s:=.row _) Y<|dn<|sr<|mo (s:=.row _) Y<|mv Y<|bE h λuV CK h=>ix Y Y CK<|lr Y Y<|lE h λAo CL h=>cv _ Y (UK.nat CL) ?_;obtain⟨⟨xu,l5⟩,Gu,h⟩:=bS h;refine bE h λ_ he5 h=>cR (l:=uX) (l':=l5) (e:=aX) (tQ Gu) (kP he5) 39 Y (.k2 Y Y)<|ag Y<|dn<|sr<|mo (s:=.row _) Y<|mv Y<|lE h λvn h48 h=>cv _ Y (UK.nat h48)<|RT.tB (l:=[vn]) (e:=aX) .none hN (.one Y (.nil)) T Y Y Y Y Y Y<|an (s:=.row _) Y<|ag Y<|dn<|kZ (i:=39) (E1:=71) (n:=1) (e:=aX) (l:=l5) hN (λ_ h=>h) Y ?_
 refine bf<|bD.r<|aV.r ?_;obtain rfl:=O h;exact R2 Y Y;refine cT<|sr<|mv Y<|bE (V h) λgY mY h=>cl (gI mY) ⟨Y,aq⟩<|mv Y<|bE h λig nV h=>cl (gI nV) ⟨Y,aq⟩<|ag Y<|ag Y<|dn<|qq<|aY mixed<|mv Y<|mv Y<|bE h λgR nW h=>RT.quo .none _ Y Y T (V8 nW) (UK.quo nW) ?_;obtain⟨⟨Fs,CC⟩,oJ,h⟩:=bS h;refine RT.bH .none (iv N oJ) hN Y ⟨Y,Y,aq⟩ T<|fl Y Y<|mv Y<|mv Y<|bE h λnR wo h=>RT.rem .none _ Y Y T (UD wo) (KF wo) ?_;obtain⟨⟨jD,jg⟩,lZ,h⟩:=bS h;refine RT.bH .none (iv N lZ) hN Y ⟨Y,Y,aq⟩ T<|fl Y Y<|ag Y<|ag Y ?_;refine RT.done ⟨by kernel_rfl,?_⟩;refine aV.n<|bf<|bD.r<|aV.r ?_;obtain rfl:=O h;exact R2 Y Y;refine cT<|sr<|mv Y<|bE (V h) λgQ jl h=>RT.bH .none (l6 N jl) hN Y ⟨Y,aq⟩ T<|ag Y<|ag Y<|dn<|cg (gu 4 310 71 1 Y Y T)<|kZ (i:=310) (E1:=71) (n:=1) (e:=aX) (l:=[]) hN (λ_ h=>h) Y<|bf<|bD.r<|aV.r ?_;obtain rfl:=O h;exact R2 Y Y
end
section
open Go.Fw Go.Fw.Z Go.RowKit
theorem dc{x0:Int}(N:Nat){r:Zr}(h:bR x0=some r):cZ ah 39 N [ay x0] (.agg ((fZ N) r)):=by
 refine bF Tryz.func39 Y (af Y) (λdI M vs hN hvs=>?_);unfold bR at h;refine sr<|al (cs:=[az false,nw N ax]) (by exact⟨au,bn,aq⟩) Y<|dn<|sr<|mv Y<|lE h λx5 h5 h=>cv _ Y (UK.conv h5)<|ag Y<|dn<|qq<|sr<|mv Y<|lE h λx7 h7 h=>ls _ Y Y h7<|dn ?_;refine bG h (λj2=>AS.cw 14 [(0,ai x0),(2,.ptr 2 0),(3,.sv (.v (.int .u64 ((j2:Nat):Int))))] [(2,⟨25,[aj false,.sv (nw N ax)]⟩)] []) (λh=>?_) (λCD h=>?_);cases x7;exact fs<|⟨x5,(F h),wR []⟩;exact cT<|aW<|mv Y<|lE (V h) λx9 h9 h=>RT.neg .none _ Y T (UK.neg h9)<|ag Y<|dn<|⟨x9,h,wR []⟩
 try dsimp only
 refine aV.n<|sr<|mv Y<|lE h λeG jh h=>ls _ Y Y jh<|mv Y ?_;obtain⟨⟨qk,ql⟩,kF,h⟩:=bS h;refine RT.bH .none (iv N kF) hN Y ⟨Y,Y,aq⟩ T<|so Y Y Y<|dn<|bf ?_;obtain rfl:=O h;exact RZ (.agg Y Y (.k2 Y Y) Y (.nil))
theorem sG{x0:Int}{r:Zr}(h:bR x0=some r):Pure ah 39 [ay x0] (.agg (eZ r)):=ff (λN=>dc N h) (λN=>(SV.cM (zI _ _)))
theorem fg{x0:Zr}{r:Int×Bool}(h:cU x0=some r):Pure ah 64 [.agg (eZ x0)] (.uT [ay r.1,az r.2]):=by
 obtain⟨bC,bA⟩:=x0;refine bk Tryz.func64 Y (af Y) (λdI M vs hvs=>?_);unfold cU at h;refine sr<|bx Y<|ag Y<|ag Y<|dn<|sr<|fa Y Y<|lV Y Y Y<|bE h λx8 h8 h=>cl (bY h8) ⟨Y,aq⟩<|ag Y<|dn<|qq<|sr<|mv Y<|lE h λew ic h=>ln Y ic<|lE h λeG jh h=>gt _ Y Y jh<|dn ?_;cases eG;refine fs<|sr<|mv Y<|bE (F h) λjv kF h=>cl (gI kF) ⟨Y,aq⟩<|ag Y<|dn<|qq<|sr<|fa Y Y<|lV Y Y Y<|dn ?_;cases bC;refine fs<|qq<|sr<|mv Y<|lE (F h) λiM oV h=>ge _ Y Y (V7 (p:=9223372036854775808) (q:=jv) oV)<|dn ?_;cases iM;refine fs<|sr<|mv Y<|lE (F h) λg9 pU h=>cv _ Y pU<|ag Y<|ag Y<|dn<|bf ?_;obtain rfl:=O h;exact R2 Y Y;refine cT<|sr<|ag Y<|ag Y<|dn<|bf<|aV.r ?_;obtain rfl:=O (V h);exact R2 Y Y;refine cT<|qq<|sr<|mv Y<|lE (V h) λez j6 h=>gt _ Y Y (UC (p:=9223372036854775808) (q:=jv) j6)<|dn ?_;cases ez;refine fs<|sr<|mv Y<|lE (F h) λlU mB h=>RT.neg .none _ Y T (UK.neg mB)<|lE h λje oU h=>cv _ Y oU<|ag Y<|ag Y<|dn<|bf<|aV.r ?_;obtain rfl:=O h;exact R2 Y Y;refine cT<|sr<|ag Y<|ag Y<|dn<|bf<|aV.r<|aV.r ?_;obtain rfl:=O (V h);exact R2 Y Y;refine cT<|sr<|ag Y<|ag Y<|dn<|bf<|aV.r ?_;obtain rfl:=O (V h);exact R2 Y Y
theorem nX{x0:List Nat}(N:Nat){r:List Nat}(h:bp x0=some r):cZ ah 76 N [nw N (slc 1 (List.map aX x0))] (nw N (slc 1 (List.map aX r))):=by
 refine bF Tryz.func76 Y (af Y) (λdI M vs hN hvs=>?_);unfold bp at h;refine sr<|aI Y (bn (N:=N) (n:=1) (e:=aX))<|dn<|qq<|bE h λGq yq qp=>?_;refine bL (λ(yh:(List Nat))=>AS.cw 21 [(0,.sv (nw N (slc 1 (List.map aX yh))))] [] []) (λyh=>yh=Gq) ?_ (λyh yt=>?_);refine bg ?_;refine bM yq (λuW=>AS.cw 21 [(0,.sv (nw N (slc 1 (List.map aX uW))))] [] []) (wR []) (λwV SN SO h yu wY=>?_)
 try dsimp only
 refine qq<|qq ?_;refine bG h (λKX=>AS.cw 21 [(0,.sv (nw N (slc 1 (List.map aX wV)))),(14,aj KX)] [] []) (λh=>?_) (λyg h=>?_);refine aW<|mv Y<|lE h λx4 h4 h=>RT.Cx .none Y T h4<|lE h λx5 h5 h=>gt _ Y Y h5<|mv Y<|bE h λDY dG h=>?_;cases x5;obtain rfl:=O (F dG);exact ww<|ww<|ww<|ww<|ww<|ww<|ww<|pF Y<|dn<|⟨false,h,wR []⟩;refine gm Y<|gm Y<|lE (V dG) λx9 h9 dG=>RT.Cx (.some Y Y) Y T h9<|lE dG λew ic dG=>RT.sub (.some Y Y) _ Y Y T ic<|bE dG λeG jh dG=>RT.ON (.some Y Y) Y Y T jh<|gr Y Y<|lE dG λjv kF dG=>Ic _ Y Y (UB (p:=eG) (q:=0) kF) ?_;obtain rfl:=O dG;exact pT Y<|dn<|⟨jv,h,wR []⟩
 try dsimp only
 refine aV.n ?_;cases yg;refine cF<|bT<|aV.x<|aV.x<|bD.x<|aV.n ?_;obtain rfl:=O (F h);exact⟨wV,wY _ Y,wR []⟩;refine cT<|bu<|aV.n<|bg<|aW<|mv Y<|mv Y<|lE (V h) λez j6 h=>RT.Cx .none Y T j6<|lE h λeF ji h=>sb _ Y Y ji<|bE h λlU mB h=>RT.KT .none 0 eF Y Y ⟨_,Y⟩ T mB<|ag Y<|RT.done<|bD.n ?_;obtain rfl:=O h;exact aV.n ⟨lU,yu _ Y,wR []⟩;subst yt
 try dsimp only
 refine aV.n<|sr<|mv Y<|ag Y<|dn<|bf ?_;obtain rfl:=O qp;exact R1 Y
theorem dW{x0:Bool}{x1:List Nat}(N:Nat){r:Zr}(h:bX x0 x1=some r):cZ ah 79 N [az x0,nw N (slc 1 (List.map aX x1))] (.agg ((fZ N) r)):=by
 refine bF Tryz.func79 Y (af Y) (λdI M vs hN hvs=>?_);unfold bX at h;refine sr<|al (cs:=[az false,nw N ax]) (by exact⟨au,bn,aq⟩) Y<|dn<|sr<|mv Y<|bE h λx6 h6 h=>RT.bH .none (nX N h6) hN Y ⟨Y,aq⟩ T<|ag Y<|dn<|qq<|sr<|mv Y<|lE h λx8 h8 h=>RT.Cx .none Y T h8<|lE h λx9 h9 h=>eq _ Y Y (uU (p:=x8) (q:=0) h9)<|dn ?_;cases x9;refine fs<|sr<|mv Y<|mv Y<|bI (cs:=[_,_]) (cs':=[az x0,nw N (slc 1 (List.map aX x6))]) (.one Y (.one Y (.nil))) ⟨au,au,aq⟩<|so Y Y Y<|dn<|bf ?_;obtain rfl:=O (F h);exact RZ (.agg Y Y (.k2 Y Y) Y (.nil));refine cT<|sr<|bI (cs:=[_,_]) (cs':=[az false,nw N ax]) (.nil) ⟨au,bn,aq⟩<|so Y Y Y<|dn<|bf<|aV.r ?_;obtain rfl:=O (V h);exact RZ (.agg Y Y (.k2 Y Y) Y (.nil))
theorem m5{x0:Bool}{x1:List Nat}{x2:Bool}{x3:List Nat}(N:Nat){r:Zr}(h:cO x0 x1 x2 x3=some r):cZ ah 105 N [az x0,slc 1 (List.map aX x1),az x2,slc 1 (List.map aX x3)] (.agg ((fZ N) r)):=by
 refine bF Tryz.func105 Y (af Y) (λdI M vs hN hvs=>?_);unfold cO at h;refine sr<|al (cs:=[az false,nw N ax]) (by exact⟨au,bn,aq⟩) Y<|dn<|qq<|sr<|mv Y<|mv Y<|lE h λeG jh h=>RT.RA .none _ Y Y T jh<|dn ?_;cases eG;refine fs<|qq<|sr<|mv Y<|mv Y<|bE (F h) λlU mB h=>cl (fm mB) ⟨Y,Y,aq⟩<|lE h λje oU h=>ls _ Y Y oU<|dn ?_;cases je;refine fs<|sr<|mv Y<|mv Y<|mv Y<|bE (F h) λiq ny h=>RT.bH .none (ke N ny) hN Y ⟨Y,Y,aq⟩ T ?_;obtain⟨⟨pz,pA⟩,zP,h⟩:=bS h;refine RT.bH .none (dW N zP) hN Y ⟨Y,Y,aq⟩ T<|so Y Y Y<|dn<|bf ?_;obtain rfl:=O h;exact RZ (.agg Y Y (.k2 Y Y) Y (.nil));refine cT<|sr<|mv Y<|mv Y<|mv Y<|bE (V h) λg9 pU h=>RT.bH .none (ke N pU) hN Y ⟨Y,Y,aq⟩ T ?_;obtain⟨⟨tL,tN⟩,mZ,h⟩:=bS h;refine RT.bH .none (dW N mZ) hN Y ⟨Y,Y,aq⟩ T<|so Y Y Y<|dn<|bf<|aV.r ?_;obtain rfl:=O h;exact RZ (.agg Y Y (.k2 Y Y) Y (.nil));refine cT<|sr<|mv Y<|mv Y<|mv Y<|bE (V h) λgQ jl h=>RT.bH .none (nH N jl) hN Y ⟨Y,Y,aq⟩ T ?_;obtain⟨⟨dK,dL⟩,iw,h⟩:=bS h;refine RT.bH .none (dW N iw) hN Y ⟨Y,Y,aq⟩ T<|so Y Y Y<|dn<|bf<|aV.r ?_;obtain rfl:=O h;exact RZ (.agg Y Y (.k2 Y Y) Y (.nil))
theorem Bi{x0:Zr}{x1:Zr}(N:Nat){r:Zr}(h:lz x0 x1=some r):cZ ah 89 N [.agg (eZ x0),.agg (eZ x1)] (.agg ((fZ N) r)):=by
 obtain⟨bC,bA⟩:=x0;obtain⟨bP,bN⟩:=x1;refine bF Tryz.func89 Y (af Y) (λdI M vs hN hvs=>?_);unfold lz at h;refine sr<|bx Y<|bx Y<|al (cs:=[az false,nw N ax]) (by exact⟨au,bn,aq⟩) Y<|dn<|sr<|ld Y Y (.k2 Y Y) ?_;obtain⟨⟨zL,D9⟩,jk,h⟩:=bS h;refine cl (fg jk) ⟨Y,aq⟩<|mv Y<|ex Y Y<|ex Y Y<|ag Y<|ag Y<|dn<|sr<|ld Y Y (.k2 Y Y) ?_;obtain⟨⟨Bf,Ea⟩,j6,h⟩:=bS h;refine cl (fg j6) ⟨Y,aq⟩<|mv Y<|ex Y Y<|ex Y Y<|ag Y<|ag Y<|dn<|qq<|qq ?_;refine bG h (λj3=>AS.cw 48 [(2,.ptr 2 0),(3,.ptr 3 0),(4,.ptr 4 0),(5,ai zL),(7,ai Bf),(23,aj j3)] [(4,⟨25,[aj false,.sv (nw N ax)]⟩),(3,⟨25,[aj bP,.sv (slc 1 (List.map aX bN))]⟩),(2,⟨25,[aj bC,.sv (slc 1 (List.map aX bA))]⟩)] []) (λh=>?_) (λyo h=>?_);refine aW<|mv Y<|mv Y<|bE h λCG wv h=>?_;cases D9;obtain rfl:=O (F wv);exact ww<|pF Y<|dn<|⟨false,h,wR []⟩;refine gm Y ?_;obtain rfl:=O (V wv);exact pT Y<|dn<|⟨Ea,h,wR []⟩
 try dsimp only
 refine aV.n ?_;refine bG h (λj5=>AS.cw 48 [(2,.ptr 2 0),(3,.ptr 3 0),(4,.ptr 4 0)] [(4,⟨25,[aj false,.sv (nw N ax)]⟩),(3,⟨25,[aj bP,.sv (slc 1 (List.map aX bN))]⟩),(2,⟨25,[aj bC,.sv (slc 1 (List.map aX bA))]⟩)] []) (λh=>?_) (λj5 h=>?_);cases yo;exact fs<|⟨(),(F h),wR []⟩;refine cT<|sr<|mv Y<|mv Y<|lE (V h) λgR nW h=>ad _ Y Y nW<|ag Y<|dn<|sr<|mv Y<|mv Y<|lE h λiq ny h=>RT.xor .none _ Y Y T ny<|mv Y<|mv Y<|lE h λiN lZ h=>RT.xor .none _ Y Y T lZ<|lE h λmL pV h=>RT.and .none _ Y Y T pV<|lE h λmK rG h=>ge _ Y Y rG<|dn ?_;cases mK;exact fs<|⟨(),(F h),wR []⟩;refine cT<|sr<|mv Y ?_;obtain⟨⟨kI,kJ⟩,vB,h⟩:=bS (V h);refine RT.bH .none (dc N vB) hN Y ⟨Y,aq⟩ T<|so Y Y Y<|dn<|bf<|aV.r<|aV.r ?_;obtain rfl:=O h;exact RZ (.agg Y Y (.k2 Y Y) Y (.nil))
 try dsimp only
 refine aV.n<|qq<|aY mixed<|fa Y Y<|lV Y Y Y<|fa Y Y<|lV Y Y Y<|bE h λwW Gt h=>cl (bY Gt) ⟨Y,aq⟩<|fa Y Y<|lV Y Y Y<|fa Y Y<|lV Y Y Y<|bE h λsW h46 h=>cl (bY h46) ⟨Y,aq⟩ ?_;obtain⟨⟨CE,CF⟩,Gv,h⟩:=bS h;refine RT.bH .none (m5 N Gv) hN Y ⟨Y,Y,Y,Y,aq⟩ T<|so Y Y Y ?_;refine RT.done ⟨by kernel_rfl,?_⟩;refine aV.n<|bf ?_;obtain rfl:=O h;exact RZ (.agg Y Y (.k2 Y Y) Y (.nil))
theorem Bj{x0:Zr}{x1:Zr}(N:Nat){r:Zr}(h:lA x0 x1=some r):cZ ah 91 N [.agg (eZ x0),.agg (eZ x1)] (.agg ((fZ N) r)):=by
 obtain⟨bC,bA⟩:=x0;obtain⟨bP,bN⟩:=x1;refine bF Tryz.func91 Y (af Y) (λdI M vs hN hvs=>?_);unfold lA at h;refine sr<|bx Y<|bx Y<|al (cs:=[az false,nw N ax]) (by exact⟨au,bn,aq⟩) Y<|dn<|sr<|ld Y Y (.k2 Y Y) ?_;obtain⟨⟨zL,D9⟩,jk,h⟩:=bS h;refine cl (fg jk) ⟨Y,aq⟩<|mv Y<|ex Y Y<|ex Y Y<|ag Y<|ag Y<|dn<|sr<|ld Y Y (.k2 Y Y) ?_;obtain⟨⟨Bf,Ea⟩,j6,h⟩:=bS h;refine cl (fg j6) ⟨Y,aq⟩<|mv Y<|ex Y Y<|ex Y Y<|ag Y<|ag Y<|dn<|qq<|qq ?_;refine bG h (λj3=>AS.cw 49 [(2,.ptr 2 0),(3,.ptr 3 0),(4,.ptr 4 0),(5,ai zL),(7,ai Bf),(23,aj j3)] [(4,⟨25,[aj false,.sv (nw N ax)]⟩),(3,⟨25,[aj bP,.sv (slc 1 (List.map aX bN))]⟩),(2,⟨25,[aj bC,.sv (slc 1 (List.map aX bA))]⟩)] []) (λh=>?_) (λyo h=>?_);refine aW<|mv Y<|mv Y<|bE h λCG wv h=>?_;cases D9;obtain rfl:=O (F wv);exact ww<|pF Y<|dn<|⟨false,h,wR []⟩;refine gm Y ?_;obtain rfl:=O (V wv);exact pT Y<|dn<|⟨Ea,h,wR []⟩
 try dsimp only
 refine aV.n ?_;refine bG h (λj5=>AS.cw 49 [(2,.ptr 2 0),(3,.ptr 3 0),(4,.ptr 4 0)] [(4,⟨25,[aj false,.sv (nw N ax)]⟩),(3,⟨25,[aj bP,.sv (slc 1 (List.map aX bN))]⟩),(2,⟨25,[aj bC,.sv (slc 1 (List.map aX bA))]⟩)] []) (λh=>?_) (λj5 h=>?_);cases yo;exact fs<|⟨(),(F h),wR []⟩;refine cT<|sr<|mv Y<|mv Y<|lE (V h) λgR nW h=>sb _ Y Y nW<|ag Y<|dn<|sr<|mv Y<|mv Y<|lE h λiq ny h=>RT.xor .none _ Y Y T ny<|mv Y<|mv Y<|lE h λiN lZ h=>RT.xor .none _ Y Y T lZ<|lE h λmL pV h=>RT.and .none _ Y Y T pV<|lE h λmK rG h=>ge _ Y Y rG<|dn ?_;cases mK;exact fs<|⟨(),(F h),wR []⟩;refine cT<|sr<|mv Y ?_;obtain⟨⟨kI,kJ⟩,vB,h⟩:=bS (V h);refine RT.bH .none (dc N vB) hN Y ⟨Y,aq⟩ T<|so Y Y Y<|dn<|bf<|aV.r<|aV.r ?_;obtain rfl:=O h;exact RZ (.agg Y Y (.k2 Y Y) Y (.nil))
 try dsimp only
 refine aV.n<|qq<|aY mixed<|fa Y Y<|lV Y Y Y<|fa Y Y<|lV Y Y Y<|bE h λwW Gt h=>cl (bY Gt) ⟨Y,aq⟩<|fa Y Y<|lV Y Y Y<|lE h λAo CL h=>nt Y _ CL<|fa Y Y<|lV Y Y Y<|bE h λB7 Gv h=>cl (bY Gv) ⟨Y,aq⟩ ?_;obtain⟨⟨MA,MB⟩,h48,h⟩:=bS h;refine RT.bH .none (m5 N h48) hN Y ⟨Y,Y,Y,Y,aq⟩ T<|so Y Y Y ?_;refine RT.done ⟨by kernel_rfl,?_⟩;refine aV.n<|bf ?_;obtain rfl:=O h;exact RZ (.agg Y Y (.k2 Y Y) Y (.nil))
theorem eH{x0:Zr}{x1:Zr}(N:Nat){r:Zr}(h:cQ x0 x1=some r):cZ ah 53 N [.agg (eZ x0),.agg (eZ x1)] (.agg ((fZ N) r)):=by
 obtain⟨bC,bA⟩:=x0;obtain⟨bP,bN⟩:=x1;refine bF Tryz.func53 Y (af Y) (λdI M vs hN hvs=>?_);unfold cQ at h;refine sr<|bx Y<|bx Y<|al (cs:=[az false,nw N ax]) (by exact⟨au,bn,aq⟩) Y<|dn<|qq<|aY mixed<|fa Y Y<|lV Y Y Y<|bE h λx9 h9 h=>cl (bY h9) ⟨Y,aq⟩<|fa Y Y<|lV Y Y Y<|bE h λeA jk h=>cl (bY jk) ⟨Y,aq⟩<|ag Y<|ag Y ?_;refine RT.done ⟨by kernel_rfl,?_⟩;refine aV.n<|qq<|qq ?_;refine bG h (λj3=>AS.cw 41 [(2,.ptr 2 0),(3,.ptr 3 0),(4,.ptr 4 0),(5,.sv (slc 1 (List.map aX x9))),(6,.sv (slc 1 (List.map aX eA))),(20,aj j3)] [(4,⟨25,[aj false,.sv (nw N ax)]⟩),(3,⟨25,[aj bP,.sv (slc 1 (List.map aX bN))]⟩),(2,⟨25,[aj bC,.sv (slc 1 (List.map aX bA))]⟩)] []) (λh=>?_) (λIo h=>?_);refine aW<|mv Y<|lE h λgw lW h=>ln Y lW<|lE h λgQ jl h=>RT.leq .none _ Y Y T jl<|mv Y<|bE h λME oW h=>?_;cases gQ;obtain rfl:=O (F oW);exact ww<|ww<|ww<|pF Y<|dn<|⟨false,h,wR []⟩;refine gm Y<|lE (V oW) λeF ji oW=>gn Y ji<|lE oW λlU mB oW=>RT.leq (.some Y Y) _ Y Y T mB ?_;obtain rfl:=O oW;exact pT Y<|dn<|⟨lU,h,wR []⟩
 try dsimp only
 refine aV.n ?_;cases Io;refine fs<|qq<|aY mixed<|fa Y Y<|lV Y Y Y<|fa Y Y<|lV Y Y Y<|lE (F h) λvp vB h=>RT.F6 .none _ Y Y T vB<|mv Y<|mv Y<|bE h λuX zR h=>RT.bH .none (tO N zR) hN Y ⟨Y,Y,aq⟩ T ?_;obtain⟨⟨wc,we⟩,uY,h⟩:=bS h;refine RT.bH .none (dW N uY) hN Y ⟨Y,Y,aq⟩ T<|so Y Y Y ?_;refine RT.done ⟨by kernel_rfl,?_⟩;refine aV.n<|bf ?_;obtain rfl:=O h;exact RZ (.agg Y Y (.k2 Y Y) Y (.nil));refine cT<|qq<|aY mixed<|fa Y Y<|lV Y Y Y<|fa Y Y<|lV Y Y Y<|lE (V h) λjC mZ h=>RT.F6 .none _ Y Y T mZ<|mv Y<|bE h λjV oJ h=>cl (gI oJ) ⟨Y,aq⟩<|mv Y<|bE h λiq ny h=>cl (gI ny) ⟨Y,aq⟩<|lE h λyj zP h=>RT.mul .none _ Y Y T (UK.mul (a:=jV) (b:=iq) zP) ?_;obtain⟨⟨MC,MD⟩,wo,h⟩:=bS h;refine RT.bH .none (iv N wo) hN Y ⟨Y,Y,aq⟩ T<|so Y Y Y ?_;refine RT.done ⟨by kernel_rfl,?_⟩;refine aV.n<|bf<|aV.r ?_;obtain rfl:=O h;exact RZ (.agg Y Y (.k2 Y Y) Y (.nil))
theorem tW{x0:Zr}{x1:Zr}{r:Zr}(h:cQ x0 x1=some r):Pure ah 53 [.agg (eZ x0),.agg (eZ x1)] (.agg (eZ r)):=ff (λN=>eH N h) (λN=>(SV.cM (zI _ _)))
theorem mE{x0:Zr}(N:Nat){r:Zr}(h:eN x0=some r):cZ ah 55 N [.agg (eZ x0)] (.agg ((fZ N) r)):=by
 obtain⟨bC,bA⟩:=x0;refine bF Tryz.func55 Y (af Y) (λdI M vs hN hvs=>?_);unfold eN at h;refine sr<|bx Y<|al (cs:=[az false,nw N ax]) (by exact⟨au,bn,aq⟩) Y<|dn<|qq<|aY mixed<|fa Y Y<|lV Y Y Y<|lE h λx5 h5 h=>nt Y _ h5<|fa Y Y<|lV Y Y Y<|bE h λx8 h8 h=>cl (bY h8) ⟨Y,aq⟩<|bE h λx9 h9 h=>RT.bH .none (l6 N h9) hN Y ⟨Y,aq⟩ T ?_;obtain⟨⟨wh,wj⟩,ic,h⟩:=bS h;refine RT.bH .none (dW N ic) hN Y ⟨Y,Y,aq⟩ T<|so Y Y Y ?_;refine RT.done ⟨by kernel_rfl,?_⟩;refine aV.n<|bf ?_;obtain rfl:=O h;exact RZ (.agg Y Y (.k2 Y Y) Y (.nil))
theorem tX{x0:Zr}{r:Zr}(h:eN x0=some r):Pure ah 55 [.agg (eZ x0)] (.agg (eZ r)):=ff (λN=>mE N h) (λN=>(SV.cM (zI _ _)))
theorem dS{x0:Zr}{r:Int}(h:cz x0=some r):Pure ah 50 [.agg (eZ x0)] (ay r):=by
 obtain⟨bC,bA⟩:=x0;refine bk Tryz.func50 Y (af Y) (λdI M vs hvs=>?_);unfold cz at h;refine sr<|bx Y<|ag Y<|dn<|qq<|bg<|sr<|fa Y Y<|lV Y Y Y<|bE h λx6 h6 h=>cl (bY h6) ⟨Y,aq⟩<|lE h λx7 h7 h=>ln Y h7<|lE h λx8 h8 h=>eq _ Y Y (uU (p:=x7) (q:=0) h8)<|ag Y<|dn ?_;cases x8;refine cF<|sr<|fa Y Y<|lV Y Y Y<|ag Y<|dn ?_;replace h:=F h;cases bC;refine cF<|bu<|bD.n<|aV.n<|sr<|ag Y<|dn<|bf ?_;obtain rfl:=O (F h);exact R1 Y;refine cT<|sr<|ag Y<|dn<|bf<|bD.r<|aV.r ?_;obtain rfl:=O (V h);exact R1 Y;refine cT<|sr<|ag Y<|dn<|bf<|bD.r<|aV.r ?_;obtain rfl:=O (V h);exact R1 Y
theorem Bk{x0:Zr}{x1:Zr}{r:Int}(h:lB x0 x1=some r):Pure ah 52 [.agg (eZ x0),.agg (eZ x1)] (ay r):=by
 obtain⟨bC,bA⟩:=x0;obtain⟨bP,bN⟩:=x1;refine bk Tryz.func52 Y (af Y) (λdI M vs hvs=>?_);unfold lB at h;refine sr<|bx Y<|bx Y<|ag Y<|dn<|qq<|aY mixed<|ld Y Y (.k2 Y Y)<|bE h λx8 h8 h=>cl (dS h8) ⟨Y,aq⟩<|ld Y Y (.k2 Y Y)<|bE h λew ic h=>cl (dS ic) ⟨Y,aq⟩<|ag Y<|ag Y ?_;refine RT.done ⟨by kernel_rfl,?_⟩;refine aV.n<|qq<|bg<|sr<|mv Y<|mv Y<|lE h λgw lW h=>ls _ Y Y lW<|ag Y<|dn ?_;cases gw;refine cF<|sr<|mv Y<|mv Y<|lE (F h) λeF ji h=>gt _ Y Y ji<|ag Y<|dn ?_;cases eF;refine cF<|sr<|mv Y<|lE (F h) λgY mY h=>ls _ Y Y mY<|ag Y<|dn ?_;cases gY;refine cF<|bu<|bD.n<|aV.n<|qq<|aY mixed<|fa Y Y<|lV Y Y Y<|bE (F h) λnR wo h=>cl (bY wo) ⟨Y,aq⟩<|fa Y Y<|lV Y Y Y<|bE h λmK rG h=>cl (bY rG) ⟨Y,aq⟩<|bE h λqY zQ h=>cl (fm zQ) ⟨Y,Y,aq⟩<|ag Y ?_;refine RT.done ⟨by kernel_rfl,?_⟩;refine aV.n<|bf ?_;obtain rfl:=O h;exact R1 Y;refine cT<|qq<|aY mixed<|fa Y Y<|lV Y Y Y<|bE (V h) λg9 pU h=>cl (bY pU) ⟨Y,aq⟩<|fa Y Y<|lV Y Y Y<|bE h λjV oJ h=>cl (bY oJ) ⟨Y,aq⟩<|bE h λn9 vz h=>cl (fm vz) ⟨Y,Y,aq⟩<|ag Y ?_;refine RT.done ⟨by kernel_rfl,?_⟩;refine aV.n<|bf<|bD.r<|aV.r ?_;obtain rfl:=O h;exact R1 Y;refine cT<|sr<|ag Y<|dn<|bf<|bD.r<|aV.r ?_;obtain rfl:=O (V h);exact R1 Y;refine cT<|sr<|ag Y<|dn<|bf<|bD.r<|aV.r ?_
 obtain rfl:=O (V h);exact R1 Y
theorem pC{x0:Zr}{x1:Zr}(N:Nat){r:Zr×Zr×Int}(h:dV x0 x1=some r):cZ ah 87 N [.agg (eZ x0),.agg (eZ x1)] (.uT [.agg ((fZ N) r.1),.agg ((fZ N) r.2.1),ay r.2.2]):=by
 obtain⟨bC,bA⟩:=x0;obtain⟨bP,bN⟩:=x1;refine bF Tryz.func87 Y (af Y) (λdI M vs hN hvs=>?_);unfold dV at h;refine sr<|bx Y<|bx Y<|al (cs:=[az false,nw N ax]) (by exact⟨au,bn,aq⟩) Y<|al (cs:=[az false,nw N ax]) (by exact⟨au,bn,aq⟩) Y<|ag Y<|dn<|qq<|aY mixed<|fa Y Y<|lV Y Y Y<|bE h λjv kF h=>cl (bY kF) ⟨Y,aq⟩<|fa Y Y ?_;refine lV Y Y Y<|bE h λfX iw h=>cl (bY iw) ⟨Y,aq⟩<|ag Y<|ag Y ?_;refine RT.done ⟨by kernel_rfl,?_⟩;refine aV.n<|qq<|sr<|mv Y<|lE h λeF ji h=>ln Y ji<|lE h λlU mB h=>eq _ Y Y (uU (p:=eF) (q:=0) mB)<|dn ?_;cases lU;refine fs<|sr<|mv Y<|mv Y ?_;obtain⟨⟨yp,Bg⟩,mZ,h⟩:=bS (F h);refine RT.bH .none (nI N mZ) hN Y ⟨Y,Y,aq⟩ T<|mv Y<|ex Y Y<|ex Y Y<|ag Y<|ag Y<|dn<|sr<|mv Y<|bE h λiq ny h=>RT.bH .none (nX N ny) hN Y ⟨Y,aq⟩ T<|ag Y<|dn<|qq<|qq ?_;refine bG h (λj3=>AS.cw 52 [(2,.ptr 2 0),(3,.ptr 3 0),(4,.ptr 4 0),(5,.ptr 5 0),(8,.sv (slc 1 (List.map aX fX))),(9,.sv (nw N (slc 1 (List.map aX yp)))),(10,.sv (nw N (slc 1 (List.map aX iq)))),(36,aj j3.1)] [(5,⟨25,[aj false,.sv (nw N ax)]⟩),(4,⟨25,[aj false,.sv (nw N ax)]⟩),(3,⟨25,[aj bP,.sv (slc 1 (List.map aX bN))]⟩),(2,⟨25,[aj j3.2,.sv (slc 1 (List.map aX bA))]⟩)] []) (λh=>?_) (λj3 h=>?_)
 refine aW<|fa Y Y<|lV Y Y Y<|mv Y<|bE h λMH wv h=>?_;cases bC;obtain rfl:=O (F wv);exact ww<|ww<|ww<|pF Y<|dn<|⟨(false,false),h,wR []⟩;refine gm Y<|lE (V wv) λmK rG wv=>RT.Cx (.some Y Y) Y T rG<|lE wv λqY zQ wv=>gg _ Y Y zQ ?_;obtain rfl:=O wv;exact pT Y<|dn<|⟨(qY,true),h,wR []⟩;obtain⟨Ip,sD⟩:=j3
 try dsimp only
 refine aV.n ?_;refine bG h (λj5=>AS.cw 52 [(2,.ptr 2 0),(3,.ptr 3 0),(4,.ptr 4 0),(5,.ptr 5 0),(9,.sv (nw N (slc 1 (List.map aX j5.1)))),(10,.sv (nw N (slc 1 (List.map aX j5.2))))] [(5,⟨25,[aj false,.sv (nw N ax)]⟩),(4,⟨25,[aj false,.sv (nw N ax)]⟩),(3,⟨25,[aj bP,.sv (slc 1 (List.map aX bN))]⟩),(2,⟨25,[aj sD,.sv (slc 1 (List.map aX bA))]⟩)] []) (λh=>?_) (λj5 h=>?_);cases Ip;exact fs<|⟨(yp,iq),(F h),wR []⟩;exact cT<|sr<|mv Y<|RT.tB (l:=[1]) (e:=aX) .none hN (.one Y (.nil)) T Y Y Y Y Y Y<|bE (V h) λuX zR h=>RT.bH .none ((nH N zR).w (args':=[_,_]) ⟨cq,cq,aq⟩) hN Y ⟨Y,Y,aq⟩ T<|ag Y<|dn<|aW<|mv Y<|mv Y<|bE h λuV CK h=>RT.bH .none ((ke N CK).w (args':=[_,_]) ⟨au,cq,aq⟩) hN Y ⟨Y,Y,aq⟩ T<|ag Y<|dn<|⟨(uX,uV),h,wR []⟩;obtain⟨Iq,CH⟩:=j5
 try dsimp only
 refine aV.n<|sr<|fa Y Y<|lV Y Y Y<|fa Y Y<|lV Y Y Y<|lE h λB7 Gv h=>RT.F6 .none _ Y Y T Gv<|mv Y ?_;obtain⟨⟨CI,CJ⟩,K0,h⟩:=bS h;refine RT.bH .none (dW N K0) hN Y ⟨Y,Y,aq⟩ T<|mv Y ?_;obtain⟨⟨MF,MG⟩,K1,h⟩:=bS h;refine RT.bH .none (dW N K1) hN Y ⟨Y,Y,aq⟩ T<|so Y Y Y<|so Y Y Y<|ag Y<|dn<|bf ?_;obtain rfl:=O h;exact RZ (.agg Y Y (.k2 Y Y) Y (.agg Y Y (.k2 Y Y) Y (.tmp Y (.nil))));refine cT<|sr<|bI (cs:=[_,_]) (cs':=[az false,nw N ax]) (.nil) ⟨au,bn,aq⟩<|bI (cs:=[_,_]) (cs':=[az false,nw N ax]) (.nil) ⟨au,bn,aq⟩<|so Y Y Y<|so Y Y Y<|ag Y<|dn<|bf<|aV.r ?_;obtain rfl:=O (V h);exact RZ (.agg Y Y (.k2 Y Y) Y (.agg Y Y (.k2 Y Y) Y (.tmp Y (.nil))))
theorem Bl{x0:Zr}{x1:Zr}(N:Nat){r:Zr}(h:jE x0 x1=some r):cZ ah 86 N [.agg (eZ x0),.agg (eZ x1)] (.agg ((fZ N) r)):=by
 obtain⟨bC,bA⟩:=x0;obtain⟨bP,bN⟩:=x1;refine bF Tryz.func86 Y (af Y) (λdI M vs hN hvs=>?_);unfold jE at h;refine sr<|bx Y<|bx Y<|al (cs:=[az false,nw N ax]) (by exact⟨au,bn,aq⟩) Y<|dn<|qq<|aY mixed<|fa Y Y<|lV Y Y Y<|bE h λjv kF h=>cl (bY kF) ⟨Y,aq⟩<|fa Y Y<|lV Y Y Y<|bE h λfX iw h=>cl (bY iw) ⟨Y,aq⟩<|ag Y<|ag Y ?_;refine RT.done ⟨by kernel_rfl,?_⟩;refine aV.n<|qq<|bE h λOT Pc oh=>?_;refine bL (λ(vA:(List Nat)×(List Nat))=>AS.cw 57 [(4,.ptr 4 0),(5,.sv (slc 1 (List.map aX vA.1))),(6,.sv (slc 1 (List.map aX vA.2)))] [(4,⟨25,[aj false,.sv (nw N ax)]⟩)] []) (λvA=>vA=OT) ?_ (λvA Pd=>?_);refine bg ?_;refine bM Pc (λD3=>AS.cw 57 [(4,.ptr 4 0),(5,.sv (slc 1 (List.map aX D3.1))),(6,.sv (slc 1 (List.map aX D3.2)))] [(4,⟨25,[aj false,.sv (nw N ax)]⟩)] []) (wR []) (λD3 y12 G12 h Pe Pf=>?_);obtain⟨wX,Bh⟩:=D3
 try dsimp only
 refine qq<|qq ?_;refine bG h (λS8=>AS.cw 57 [(4,.ptr 4 0),(5,.sv (slc 1 (List.map aX wX))),(6,.sv (slc 1 (List.map aX Bh))),(29,aj S8)] [(4,⟨25,[aj false,.sv (nw N ax)]⟩)] []) (λh=>?_) (λEb h=>?_);refine aW<|mv Y<|lE h λeF ji h=>ln Y ji<|lE h λlU mB h=>gt _ Y Y mB<|mv Y<|bE h λIs Bm h=>?_;cases lU;obtain rfl:=O (F Bm);exact ww<|ww<|ww<|ww<|wu<|wu<|wu<|ww<|pF Y<|dn<|⟨false,h,wR []⟩;refine gm Y<|lE (V Bm) λiM oV Bm=>gn Y oV<|lE Bm λig nV Bm=>gg _ Y Y nV<|gm Y<|bE Bm λIr GD Bm=>?_;cases ig;refine gm Y<|lE (F GD) λgR nW GD=>gn Y nW<|lE GD λjV oJ GD=>gg _ Y Y oJ ?_;obtain rfl:=O GD;refine gF Y ?_;obtain rfl:=O Bm;exact pT Y<|dn<|⟨jV,h,wR []⟩;obtain rfl:=O (V GD);refine ww<|ww<|ww<|gT Y ?_;obtain rfl:=O Bm;exact pT Y<|dn<|⟨true,h,wR []⟩
 try dsimp only
 refine aV.n ?_;cases Eb;refine cF<|bT<|aV.x<|aV.x<|bD.x<|aV.n ?_;obtain rfl:=O (F h);exact⟨(wX,Bh),Pf _ Y,wR []⟩;refine cT<|bu<|aV.n<|bg<|sr<|mv Y<|mv Y ?_;obtain⟨⟨WK,SM⟩,pV,h⟩:=bS (V h);refine RT.bH .none (nI N pV) hN Y ⟨Y,Y,aq⟩ T<|mv Y<|ex Y Y<|ex Y Y<|ag Y<|ag Y<|dn<|aW<|mv Y<|mv Y<|bE h λsu yw h=>RT.bH .none (nX N yw) hN Y ⟨Y,aq⟩ T<|ag Y<|ag Y<|RT.done<|bD.n ?_;obtain rfl:=O h;exact aV.n ⟨(Bh,su),Pe _ Y,eL id Y Y Y Y Y ⟨.ptr,.sv au,.sv cq,aq⟩ ⟨⟨_,Y,⟨.sv au,.sv au,aq⟩⟩,aq⟩ trivial (λ_ _=>Y)⟩;subst Pd;obtain⟨It,Iu⟩:=vA
 try dsimp only
 refine aV.n<|qq<|sr<|mv Y<|lE oh λnS uY oh=>ln Y uY<|lE oh λwW Gt oh=>eq _ Y Y (uU (p:=nS) (q:=0) Gt)<|dn ?_;cases wW;refine fs<|sr<|mv Y<|bE (F oh) λsW h46 oh=>cl (gI h46) ⟨Y,aq⟩<|mv Y<|bE oh λvn h48 oh=>cl (gI h48) ⟨Y,aq⟩<|ag Y<|ag Y<|dn<|qq<|bE oh λe24 XK Pp=>?_;refine bL (λ(Ap:Nat)=>AS.cw 57 [(4,.ptr 4 0),(9,.sv (.v (.int .u64 ((Ap:Nat):Int))))] [(4,⟨25,[aj false,.sv (nw N ax)]⟩)] []) (λAp=>Ap=e24) ?_ (λAp XL=>?_);refine bg ?_;refine bM XK (λRn=>AS.cw 57 [(4,.ptr 4 0),(9,.sv (.v (.int .u64 ((Rn.1:Nat):Int)))),(10,.sv (.v (.int .u64 ((Rn.2:Nat):Int))))] [(4,⟨25,[aj false,.sv (nw N ax)]⟩)] []) (wR []) (λRn y24 G24 h XM XN=>?_);obtain⟨Ft,vv⟩:=Rn
 try dsimp only
 refine qq<|sr<|mv Y<|lE h λvo Gw h=>gt _ Y Y (UC (p:=0) (q:=vv) Gw)<|dn ?_;cases vo;refine cF<|bT<|aV.x<|aV.x<|bD.x<|aV.n ?_;obtain rfl:=O (F h);exact⟨Ft,XN _ Y,wR []⟩;refine cT<|bu<|aV.n<|bg<|aY mixed<|mv Y<|mv Y<|mv Y<|bE (V h) λEc MN h=>RT.rem .none _ Y Y T (UD MN) (KF MN)<|ag Y<|ag Y ?_;refine RT.done ⟨by kernel_rfl,?_⟩;refine bD.n ?_;obtain rfl:=O h;exact aV.n ⟨(vv,Ec),XM _ Y,wR []⟩;subst XL
 try dsimp only
 refine aV.n<|sr<|mv Y ?_;obtain⟨⟨MK,ML⟩,SX,Pp⟩:=bS Pp;refine RT.bH .none (iv N SX) hN Y ⟨Y,Y,aq⟩ T<|so Y Y Y<|dn<|bf ?_;obtain rfl:=O Pp;exact RZ (.agg Y Y (.k2 Y Y) Y (.nil));refine cT<|sr<|mv Y<|bE (V oh) λB6 Fu oh=>RT.bH .none (l6 N Fu) hN Y ⟨Y,aq⟩ T ?_;obtain⟨⟨MI,MJ⟩,CL,oh⟩:=bS oh;refine RT.bH .none (dW N CL) hN Y ⟨Y,Y,aq⟩ T<|so Y Y Y<|dn<|bf<|aV.r ?_;obtain rfl:=O oh;exact RZ (.agg Y Y (.k2 Y Y) Y (.nil))
end
section
open Go.Fw
noncomputable def fY(x0:Zr)(x1:Zr)(x2:Zr)(x3:Zr):Option (Zr×Zr):=match x0 with|⟨bC,bA⟩=>match x1 with|⟨bP,bN⟩=>match x2 with|⟨qu,qw⟩=>match x3 with|⟨pQ,pR⟩=>(cQ ⟨bC,bA⟩ ⟨pQ,pR⟩).bind λ⟨lC,lD⟩=>(cQ ⟨qu,qw⟩ ⟨bP,bN⟩).bind λ⟨ej,ek⟩=>(lz ⟨lC,lD⟩ ⟨ej,ek⟩).bind λ⟨dK,dL⟩=>(cQ ⟨bP,bN⟩ ⟨pQ,pR⟩).bind λ⟨jn,jo⟩=>some (⟨dK,dL⟩,⟨jn,jo⟩)
noncomputable def ga(x0:Zr)(x1:Zr)(x2:Zr)(x3:Zr):Option (Zr×Zr):=match x0 with|⟨bC,bA⟩=>match x1 with|⟨bP,bN⟩=>match x2 with|⟨qu,qw⟩=>match x3 with|⟨pQ,pR⟩=>(cQ ⟨bC,bA⟩ ⟨pQ,pR⟩).bind λ⟨lC,lD⟩=>(cQ ⟨qu,qw⟩ ⟨bP,bN⟩).bind λ⟨ej,ek⟩=>(lA ⟨lC,lD⟩ ⟨ej,ek⟩).bind λ⟨dK,dL⟩=>(cQ ⟨bP,bN⟩ ⟨pQ,pR⟩).bind λ⟨jn,jo⟩=>some (⟨dK,dL⟩,⟨jn,jo⟩)
noncomputable def gb(x0:Zr)(x1:Zr)(x2:Zr)(x3:Zr):Option (Zr×Zr):=match x0 with|⟨bC,bA⟩=>match x1 with|⟨bP,bN⟩=>match x2 with|⟨qu,qw⟩=>match x3 with|⟨pQ,pR⟩=>(cQ ⟨bC,bA⟩ ⟨qu,qw⟩).bind λ⟨lC,lD⟩=>(cQ ⟨bP,bN⟩ ⟨pQ,pR⟩).bind λ⟨ej,ek⟩=>some (⟨lC,lD⟩,⟨ej,ek⟩)
noncomputable def cV(x0:Qr):Option (Zr×Zr):=match x0 with|⟨⟨bC,bA⟩,⟨cD,cE⟩⟩=>(cz ⟨cD,cE⟩).bind λx6=>(some (decide ((x6:Int)=0))).bind λx8=>(bif x8 then(bR 1).bind λ⟨om,ot⟩=>some (⟨bC,bA⟩,⟨om,ot⟩)else(some (decide ((x6:Int)=(-1)))).bind λjv=>(bif jv then(eN ⟨bC,bA⟩).bind λ⟨dK,dL⟩=>(eN ⟨cD,cE⟩).bind λ⟨jn,jo⟩=>some (⟨dK,dL⟩,⟨jn,jo⟩)else some (⟨bC,bA⟩,⟨cD,cE⟩)))
noncomputable def eO(x0:Zr)(x1:Zr):Option (Qr):=match x0 with|⟨bC,bA⟩=>match x1 with|⟨bP,bN⟩=>(cz ⟨bP,bN⟩).bind λx9=>(some (decide ((x9:Int)<0))).bind λew=>cj (λ(j2:Bool×(List Nat)×Bool×(List Nat))=>match j2 with|⟨Ed,Ee,Ef,Eg⟩=>(jE ⟨Ef,Eg⟩ ⟨Ed,Ee⟩).bind λ⟨m6,m7⟩=>(dV ⟨Ef,Eg⟩ ⟨m6,m7⟩).bind λ⟨⟨yz,yA⟩,⟨Pq,Pr⟩,XO⟩=>(dV ⟨Ed,Ee⟩ ⟨m6,m7⟩).bind λ⟨⟨vD,vE⟩,⟨Ps,Pt⟩,XP⟩=>(cU ⟨vD,vE⟩).bind λ⟨Pu,Pv⟩=>cj (λ(Iw:Bool)=>cj (λ(j7:Bool×(List Nat))=>match j7 with|⟨Eh,Ei⟩=>some ⟨⟨yz,yA⟩,⟨Eh,Ei⟩⟩) λK7=>(bif Iw then K7 (false,[])else K7 (vD,vE))) λK5=>(bif Pv then(some (decide ((Pu:Int)=1))).bind λnS=>some nS else some false).bind λMO=>K5 MO) λK2=>(bif ew then(eN ⟨bC,bA⟩).bind λ⟨lC,lD⟩=>(eN ⟨bP,bN⟩).bind λ⟨rT,rU⟩=>K2 (rT,rU,lC,lD)else K2 (bP,bN,bC,bA))
noncomputable def dA(x0:Qr):Option (Int×Int×Bool):=match x0 with|⟨⟨bC,bA⟩,⟨cD,cE⟩⟩=>(cU ⟨bC,bA⟩).bind λ⟨Bn,S9⟩=>(cU ⟨cD,cE⟩).bind λ⟨zS,Ta⟩=>cj (λ(Ej:Bool)=>(bif Ej then some (0,0,false)else(some (decide ((zS:Int)=0))).bind λB6=>cj (λ(Ro:Int×Int)=>match Ro with|⟨MP,MQ⟩=>some (MP,MQ,true)) λK24=>(bif B6 then K24 (Bn,1)else(some (decide ((zS:Int)<0))).bind λsW=>cj (λ(Rp:Int×Int)=>match Rp with|⟨Iy,Iz⟩=>K24 (Iy,Iz)) λK26=>(bif sW then(some (IntKind.i64.wrap (0-Bn))).bind λvn=>(some (IntKind.i64.wrap (0-zS))).bind λvo=>K26 (vn,vo)else K26 (Bn,zS))))) λK21=>(some (!S9)).bind λje=>(bif je then some true else(some (!Ta)).bind λig=>some ig).bind λIA=>(bif IA then some true else(some (decide ((Bn:Int)<=(-2147483648)))).bind λjV=>some jV).bind λPw=>(bif Pw then some true else(some (decide ((2147483648:Int)<=Bn))).bind λnR=>some nR).bind λPx=>(bif Px then some true else(some (decide ((zS:Int)<=(-2147483648)))).bind λqY=>some qY).bind λPy=>(bif Py then some true else(some (decide ((2147483648:Int)<=zS))).bind λuX=>some uX).bind λPz=>K21 Pz
noncomputable def fF(x0:Int)(x1:Int):Option (Qr):=(b9 (λ(s6:Int×Int)=>match s6 with|⟨jw,mF⟩=>(show Option ((Int×Int)⊕(Int))from(some (decide ((mF:Int)≠0))).bind λew=>(bif ew then(zF jw mF).bind λgw=>some (.inl (mF,gw))else some (.inr jw)))) (x0,x1)).bind λrI=>(some (decide ((rI:Int)<0))).bind λfX=>cj (λ(GF:Int)=>(some (decide ((GF:Int)=x1))).bind λgY=>(bif gY then(pP x0 GF).bind λg9=>(bR g9).bind λ⟨tL,tN⟩=>some ⟨⟨tL,tN⟩,⟨false,[]⟩⟩else(pP x0 GF).bind λiq=>(bR iq).bind λ⟨pz,pA⟩=>(pP x1 GF).bind λmL=>(bR mL).bind λ⟨Ar,wz⟩=>some ⟨⟨pz,pA⟩,⟨Ar,wz⟩⟩)) λK8=>(bif fX then(some (IntKind.i64.wrap (0-rI))).bind λeF=>K8 eF else K8 rI)
noncomputable def nJ(x0:Int):Option (Int):=(some (decide ((x0:Int)<0))).bind λx5=>(bif x5 then some (-1)else(some (decide ((0:Int)<x0))).bind λx8=>(bif x8 then some 1 else some 0))
noncomputable def iy(x1:Qr)(x2:Qr):Option (Qr):=match x1 with|⟨⟨bP,bN⟩,⟨ee,ef⟩⟩=>match x2 with|⟨⟨qu,qw⟩,⟨CM,CN⟩⟩=>(cV ⟨⟨bP,bN⟩,⟨ee,ef⟩⟩).bind λ⟨⟨kQ,kR⟩,⟨l7,l8⟩⟩=>(cV ⟨⟨qu,qw⟩,⟨CM,CN⟩⟩).bind λ⟨⟨gJ,gK⟩,⟨kf,kg⟩⟩=>(fY ⟨kQ,kR⟩ ⟨l7,l8⟩ ⟨gJ,gK⟩ ⟨kf,kg⟩).bind λ⟨⟨m8,m9⟩,⟨nc,nf⟩⟩=>(eO ⟨m8,m9⟩ ⟨nc,nf⟩).bind λ⟨⟨jD,jg⟩,⟨kK,kL⟩⟩=>some ⟨⟨jD,jg⟩,⟨kK,kL⟩⟩
noncomputable def iz(x1:Qr)(x2:Qr):Option (Qr):=match x1 with|⟨⟨bP,bN⟩,⟨ee,ef⟩⟩=>match x2 with|⟨⟨qu,qw⟩,⟨CM,CN⟩⟩=>(cV ⟨⟨bP,bN⟩,⟨ee,ef⟩⟩).bind λ⟨⟨kQ,kR⟩,⟨l7,l8⟩⟩=>(cV ⟨⟨qu,qw⟩,⟨CM,CN⟩⟩).bind λ⟨⟨gJ,gK⟩,⟨kf,kg⟩⟩=>(ga ⟨kQ,kR⟩ ⟨l7,l8⟩ ⟨gJ,gK⟩ ⟨kf,kg⟩).bind λ⟨⟨m8,m9⟩,⟨nc,nf⟩⟩=>(eO ⟨m8,m9⟩ ⟨nc,nf⟩).bind λ⟨⟨jD,jg⟩,⟨kK,kL⟩⟩=>some ⟨⟨jD,jg⟩,⟨kK,kL⟩⟩
noncomputable def iA(x1:Qr)(x2:Qr):Option (Qr):=match x1 with|⟨⟨bP,bN⟩,⟨ee,ef⟩⟩=>match x2 with|⟨⟨qu,qw⟩,⟨CM,CN⟩⟩=>(cV ⟨⟨bP,bN⟩,⟨ee,ef⟩⟩).bind λ⟨⟨kQ,kR⟩,⟨l7,l8⟩⟩=>(cV ⟨⟨qu,qw⟩,⟨CM,CN⟩⟩).bind λ⟨⟨gJ,gK⟩,⟨kf,kg⟩⟩=>(gb ⟨kQ,kR⟩ ⟨l7,l8⟩ ⟨gJ,gK⟩ ⟨kf,kg⟩).bind λ⟨⟨m8,m9⟩,⟨nc,nf⟩⟩=>(eO ⟨m8,m9⟩ ⟨nc,nf⟩).bind λ⟨⟨jD,jg⟩,⟨kK,kL⟩⟩=>some ⟨⟨jD,jg⟩,⟨kK,kL⟩⟩
noncomputable def cK(x0:Int):Option (Qr):=(bR x0).bind λ⟨rJ,rK⟩=>some ⟨⟨rJ,rK⟩,⟨false,[]⟩⟩
noncomputable def dO(x0:Qr):Option (Qr):=match x0 with|⟨⟨bC,bA⟩,⟨cD,cE⟩⟩=>(dA ⟨⟨bC,bA⟩,⟨cD,cE⟩⟩).bind λ⟨x8a,x8b,XQ⟩=>(bif XQ then(fF x8a x8b).bind λ⟨⟨ej,ek⟩,⟨jF,jG⟩⟩=>some ⟨⟨ej,ek⟩,⟨jF,jG⟩⟩else(cV ⟨⟨bC,bA⟩,⟨cD,cE⟩⟩).bind λ⟨⟨IB,IC⟩,⟨ID,IE⟩⟩=>(eO ⟨IB,IC⟩ ⟨ID,IE⟩).bind λ⟨⟨CO,CP⟩,⟨MR,MS⟩⟩=>some ⟨⟨CO,CP⟩,⟨MR,MS⟩⟩)
noncomputable def jH(x0:Qr):Option (Int):=match x0 with|⟨⟨bC,bA⟩,⟨cD,cE⟩⟩=>(cz ⟨cD,cE⟩).bind λx5=>(some (decide ((x5:Int)<0))).bind λx6=>(bif x6 then(cz ⟨bC,bA⟩).bind λx9=>(some (IntKind.i64.wrap (0-x9))).bind λew=>some ew else(cz ⟨bC,bA⟩).bind λjv=>some jv)
noncomputable def fP(x0:Qr)(x1:Qr):Option (Qr):=match x0 with|⟨⟨bC,bA⟩,⟨cD,cE⟩⟩=>match x1 with|⟨⟨bP,bN⟩,⟨ee,ef⟩⟩=>(dA ⟨⟨bC,bA⟩,⟨cD,cE⟩⟩).bind λ⟨yB,vF,yC⟩=>(dA ⟨⟨bP,bN⟩,⟨ee,ef⟩⟩).bind λ⟨yD,vG,yE⟩=>cj (λ(qx:Bool)=>(bif qx then(some (IntKind.i64.wrap (yB*vG))).bind λiq=>(some (IntKind.i64.wrap (yD*vF))).bind λiN=>(some (IntKind.i64.wrap (iq+iN))).bind λmL=>(some (IntKind.i64.wrap (vF*vG))).bind λvp=>(fF mL vp).bind λ⟨⟨pD,pE⟩,⟨pG,pH⟩⟩=>some ⟨⟨pD,pE⟩,⟨pG,pH⟩⟩else(iy ⟨⟨bC,bA⟩,⟨cD,cE⟩⟩ ⟨⟨bP,bN⟩,⟨ee,ef⟩⟩).bind λ⟨⟨wc,we⟩,⟨CQ,CR⟩⟩=>some ⟨⟨wc,we⟩,⟨CQ,CR⟩⟩)) λK3=>(bif yC then some yE else some false).bind λwA=>K3 wA
noncomputable def iB(x0:Qr)(x1:Qr):Option (Qr):=match x0 with|⟨⟨bC,bA⟩,⟨cD,cE⟩⟩=>match x1 with|⟨⟨bP,bN⟩,⟨ee,ef⟩⟩=>(dA ⟨⟨bC,bA⟩,⟨cD,cE⟩⟩).bind λ⟨yB,vF,yC⟩=>(dA ⟨⟨bP,bN⟩,⟨ee,ef⟩⟩).bind λ⟨yD,vG,yE⟩=>cj (λ(qx:Bool)=>(bif qx then(some (IntKind.i64.wrap (yB*vG))).bind λiq=>(some (IntKind.i64.wrap (yD*vF))).bind λiN=>(some (IntKind.i64.wrap (iq-iN))).bind λmL=>(some (IntKind.i64.wrap (vF*vG))).bind λvp=>(fF mL vp).bind λ⟨⟨pD,pE⟩,⟨pG,pH⟩⟩=>some ⟨⟨pD,pE⟩,⟨pG,pH⟩⟩else(iz ⟨⟨bC,bA⟩,⟨cD,cE⟩⟩ ⟨⟨bP,bN⟩,⟨ee,ef⟩⟩).bind λ⟨⟨wc,we⟩,⟨CQ,CR⟩⟩=>some ⟨⟨wc,we⟩,⟨CQ,CR⟩⟩)) λK3=>(bif yC then some yE else some false).bind λwA=>K3 wA
noncomputable def gL(x0:Qr)(x1:Qr):Option (Qr):=match x0 with|⟨⟨bC,bA⟩,⟨cD,cE⟩⟩=>match x1 with|⟨⟨bP,bN⟩,⟨ee,ef⟩⟩=>(dA ⟨⟨bC,bA⟩,⟨cD,cE⟩⟩).bind λ⟨yB,vF,yC⟩=>(dA ⟨⟨bP,bN⟩,⟨ee,ef⟩⟩).bind λ⟨yD,vG,yE⟩=>cj (λ(qx:Bool)=>(bif qx then(some (IntKind.i64.wrap (yB*yD))).bind λiq=>(some (IntKind.i64.wrap (vF*vG))).bind λiN=>(fF iq iN).bind λ⟨⟨ou,oy⟩,⟨rV,rW⟩⟩=>some ⟨⟨ou,oy⟩,⟨rV,rW⟩⟩else(iA ⟨⟨bC,bA⟩,⟨cD,cE⟩⟩ ⟨⟨bP,bN⟩,⟨ee,ef⟩⟩).bind λ⟨⟨kI,kJ⟩,⟨pI,pJ⟩⟩=>some ⟨⟨kI,kJ⟩,⟨pI,pJ⟩⟩)) λK3=>(bif yC then some yE else some false).bind λwA=>K3 wA
noncomputable def iC(x0:Qr):Option (Qr):=match x0 with|⟨⟨bC,bA⟩,⟨cD,cE⟩⟩=>(dO ⟨⟨bC,bA⟩,⟨cD,cE⟩⟩).bind λ⟨⟨GG,GH⟩,⟨PA,PB⟩⟩=>(eN ⟨GG,GH⟩).bind λ⟨kS,kT⟩=>some ⟨⟨kS,kT⟩,⟨PA,PB⟩⟩
noncomputable def jx(x0:Qr)(x1:Qr):Option (Int):=match x0 with|⟨⟨bC,bA⟩,⟨cD,cE⟩⟩=>match x1 with|⟨⟨bP,bN⟩,⟨ee,ef⟩⟩=>(cV ⟨⟨bC,bA⟩,⟨cD,cE⟩⟩).bind λ⟨⟨kQ,kR⟩,⟨l7,l8⟩⟩=>(cV ⟨⟨bP,bN⟩,⟨ee,ef⟩⟩).bind λ⟨⟨gJ,gK⟩,⟨kf,kg⟩⟩=>(cz ⟨kQ,kR⟩).bind λiM=>(cz ⟨gJ,gK⟩).bind λg9=>cj (λ(IF:Bool)=>(bif IF then(some (IntKind.i64.wrap (iM-g9))).bind λmK=>(nJ mK).bind λqY=>some qY else(cQ ⟨kQ,kR⟩ ⟨kf,kg⟩).bind λ⟨wB,wC⟩=>(cQ ⟨gJ,gK⟩ ⟨l7,l8⟩).bind λ⟨MT,MU⟩=>(lB ⟨wB,wC⟩ ⟨MT,MU⟩).bind λuV=>some uV)) λK3=>(some (decide ((iM:Int)≠g9))).bind λjV=>(bif jV then some true else(some (decide ((iM:Int)=0))).bind λyj=>some yj).bind λMV=>K3 MV
noncomputable def iQ(x0:Qr)(x1:Qr):Option (Bool):=match x0 with|⟨⟨bC,bA⟩,⟨cD,cE⟩⟩=>match x1 with|⟨⟨bP,bN⟩,⟨ee,ef⟩⟩=>(jx ⟨⟨bC,bA⟩,⟨cD,cE⟩⟩ ⟨⟨bP,bN⟩,⟨ee,ef⟩⟩).bind λx7=>(some (decide ((x7:Int)=0))).bind λx8=>some x8
end
section
open Go.Fw Go.Fw.Z Go.RowKit
abbrev IG:List (Value×Value):=[(.int .u8 43,.agg #[.func (.func 88) #[] #[]]),(.int .u8 45,.agg #[.func (.func 90) #[] #[]]),(.int .u8 42,.agg #[.func (.func 92) #[] #[]]),(.int .u8 47,.agg #[.func (.func 93) #[] #[]])]
theorem jy:Pure ah 65 [] (H8 IG):=by
 refine bk Tryz.func65 Y (af Y) (λdI M vs hvs=>?_);refine bJ<|aW<|RT.B5 .none Y T<|RT.done<|aV.n<|bJ<|KK (af Y) Y Y Y (λS' h0=>?_);exact bf (R1 h0)
theorem qy{x0:Zr}{x1:Zr}{x2:Zr}{x3:Zr}(N:Nat){r:Zr×Zr}(h:fY x0 x1 x2 x3=some r):cZ ah 88 N [.agg (eZ x0),.agg (eZ x1),.agg (eZ x2),.agg (eZ x3)] (.uT [.agg ((fZ N) r.1),.agg ((fZ N) r.2)]):=by
 obtain⟨bC,bA⟩:=x0;obtain⟨bP,bN⟩:=x1;obtain⟨qu,qw⟩:=x2;obtain⟨pQ,pR⟩:=x3;refine bF Tryz.func88 Y (af Y) (λdI M vs hN hvs=>?_);unfold fY at h;refine sr<|bx Y<|bx Y<|bx Y<|bx Y<|al (cs:=[az false,nw N ax]) (by exact⟨au,bn,aq⟩) Y<|al (cs:=[az false,nw N ax]) (by exact⟨au,bn,aq⟩) Y<|dn<|qq<|aY mixed<|ld Y Y (.k2 Y Y)<|ld Y Y (.k2 Y Y) ?_;obtain⟨⟨lC,lD⟩,jk,h⟩:=bS h;refine RT.bH .none (eH N jk) hN Y ⟨Y,Y,aq⟩ T<|ld Y Y (.k2 Y Y)<|ld Y Y (.k2 Y Y) ?_;obtain⟨⟨ej,ek⟩,jl,h⟩:=bS h;refine RT.bH .none (eH N jl) hN Y ⟨Y,Y,aq⟩ T ?_;obtain⟨⟨dK,dL⟩,iw,h⟩:=bS h;refine RT.bH .none ((Bi N iw).w (args':=[_,_]) ⟨(SV.cM (show cH [az lC,nw N (slc 1 (List.map aX lD))] _ from⟨au,cq,aq⟩)),(SV.cM (show cH [az ej,nw N (slc 1 (List.map aX ek))] _ from⟨au,cq,aq⟩)),aq⟩) hN Y ⟨Y,Y,aq⟩ T<|ld Y Y (.k2 Y Y)<|ld Y Y (.k2 Y Y) ?_;obtain⟨⟨jn,jo⟩,mB,h⟩:=bS h;refine RT.bH .none (eH N mB) hN Y ⟨Y,Y,aq⟩ T<|so Y Y Y<|so Y Y Y ?_;refine RT.done ⟨by kernel_rfl,?_⟩;refine aV.n<|bf ?_;obtain rfl:=O h;exact RZ (.agg Y Y (.k2 Y Y) Y (.agg Y Y (.k2 Y Y) Y (.nil)))
theorem qA{x0:Zr}{x1:Zr}{x2:Zr}{x3:Zr}(N:Nat){r:Zr×Zr}(h:ga x0 x1 x2 x3=some r):cZ ah 90 N [.agg (eZ x0),.agg (eZ x1),.agg (eZ x2),.agg (eZ x3)] (.uT [.agg ((fZ N) r.1),.agg ((fZ N) r.2)]):=by
 obtain⟨bC,bA⟩:=x0;obtain⟨bP,bN⟩:=x1;obtain⟨qu,qw⟩:=x2;obtain⟨pQ,pR⟩:=x3;refine bF Tryz.func90 Y (af Y) (λdI M vs hN hvs=>?_);unfold ga at h;refine sr<|bx Y<|bx Y<|bx Y<|bx Y<|al (cs:=[az false,nw N ax]) (by exact⟨au,bn,aq⟩) Y<|al (cs:=[az false,nw N ax]) (by exact⟨au,bn,aq⟩) Y<|dn<|qq<|aY mixed<|ld Y Y (.k2 Y Y)<|ld Y Y (.k2 Y Y) ?_;obtain⟨⟨lC,lD⟩,jk,h⟩:=bS h;refine RT.bH .none (eH N jk) hN Y ⟨Y,Y,aq⟩ T<|ld Y Y (.k2 Y Y)<|ld Y Y (.k2 Y Y) ?_;obtain⟨⟨ej,ek⟩,jl,h⟩:=bS h;refine RT.bH .none (eH N jl) hN Y ⟨Y,Y,aq⟩ T ?_;obtain⟨⟨dK,dL⟩,iw,h⟩:=bS h;refine RT.bH .none ((Bj N iw).w (args':=[_,_]) ⟨(SV.cM (show cH [az lC,nw N (slc 1 (List.map aX lD))] _ from⟨au,cq,aq⟩)),(SV.cM (show cH [az ej,nw N (slc 1 (List.map aX ek))] _ from⟨au,cq,aq⟩)),aq⟩) hN Y ⟨Y,Y,aq⟩ T<|ld Y Y (.k2 Y Y)<|ld Y Y (.k2 Y Y) ?_;obtain⟨⟨jn,jo⟩,mB,h⟩:=bS h;refine RT.bH .none (eH N mB) hN Y ⟨Y,Y,aq⟩ T<|so Y Y Y<|so Y Y Y ?_;refine RT.done ⟨by kernel_rfl,?_⟩;refine aV.n<|bf ?_;obtain rfl:=O h;exact RZ (.agg Y Y (.k2 Y Y) Y (.agg Y Y (.k2 Y Y) Y (.nil)))
theorem qB{x0:Zr}{x1:Zr}{x2:Zr}{x3:Zr}(N:Nat){r:Zr×Zr}(h:gb x0 x1 x2 x3=some r):cZ ah 92 N [.agg (eZ x0),.agg (eZ x1),.agg (eZ x2),.agg (eZ x3)] (.uT [.agg ((fZ N) r.1),.agg ((fZ N) r.2)]):=by
 obtain⟨bC,bA⟩:=x0;obtain⟨bP,bN⟩:=x1;obtain⟨qu,qw⟩:=x2;obtain⟨pQ,pR⟩:=x3;refine bF Tryz.func92 Y (af Y) (λdI M vs hN hvs=>?_);unfold gb at h;refine sr<|bx Y<|bx Y<|bx Y<|bx Y<|al (cs:=[az false,nw N ax]) (by exact⟨au,bn,aq⟩) Y<|al (cs:=[az false,nw N ax]) (by exact⟨au,bn,aq⟩) Y<|dn<|qq<|aY mixed<|ld Y Y (.k2 Y Y)<|ld Y Y (.k2 Y Y) ?_;obtain⟨⟨lC,lD⟩,jk,h⟩:=bS h;refine RT.bH .none (eH N jk) hN Y ⟨Y,Y,aq⟩ T<|ld Y Y (.k2 Y Y)<|ld Y Y (.k2 Y Y) ?_;obtain⟨⟨ej,ek⟩,jl,h⟩:=bS h;refine RT.bH .none (eH N jl) hN Y ⟨Y,Y,aq⟩ T<|so Y Y Y<|so Y Y Y ?_;refine RT.done ⟨by kernel_rfl,?_⟩;refine aV.n<|bf ?_;obtain rfl:=O h;exact RZ (.agg Y Y (.k2 Y Y) Y (.agg Y Y (.k2 Y Y) Y (.nil)))
theorem dU{x0:Qr}{r:Zr×Zr}(h:cV x0=some r):Pure ah 49 [.agg (eQ x0)] (.uT [.agg (eZ r.1),.agg (eZ r.2)]):=by
 obtain⟨⟨bC,bA⟩,⟨cD,cE⟩⟩:=x0;refine bk Tryz.func49 Y (af Y) (λdI M vs hvs=>?_);unfold cV at h;refine sr<|bx Y<|al (cs:=[az false,ax]) (by exact⟨au,aB,aq⟩) Y<|al (cs:=[az false,ax]) (by exact⟨au,aB,aq⟩) Y<|dn<|qq<|sr<|fa Y Y<|ld Y Y (.k2 Y Y)<|bE h λx6 h6 h=>cl (dS h6) ⟨Y,aq⟩<|dn<|bg<|sr<|lE h λx8 h8 h=>eq _ Y Y (uU (p:=x6) (q:=0) h8) ?_;refine ag Y<|dn ?_;cases x8;refine cF<|sr<|lE (F h) λjv kF h=>eq _ Y Y (uU (p:=x6) (q:=(-1)) kF)<|ag Y<|dn ?_;cases jv;refine cF<|bu<|bD.n<|aV.n<|qq<|aY mixed<|fa Y Y<|ld Y Y (.k2 Y Y)<|fa Y Y<|ld Y Y (.k2 Y Y)<|so Y Y Y<|so Y Y Y ?_;refine RT.done ⟨by kernel_rfl,?_⟩;refine aV.n<|bf ?_;obtain rfl:=O (F h);exact RZ (.agg Y Y (.k2 Y Y) Y (.agg Y Y (.k2 Y Y) Y (.nil)));refine cT<|qq<|aY mixed<|fa Y Y<|ld Y Y (.k2 Y Y) ?_;obtain⟨⟨dK,dL⟩,iw,h⟩:=bS (V h);refine cl (tX iw) ⟨Y,aq⟩<|fa Y Y<|ld Y Y (.k2 Y Y) ?_;obtain⟨⟨jn,jo⟩,mB,h⟩:=bS h;refine cl (tX mB) ⟨Y,aq⟩<|so Y Y Y<|so Y Y Y ?_;refine RT.done ⟨by kernel_rfl,?_⟩;refine aV.n<|bf<|bD.r<|aV.r ?_;obtain rfl:=O h;exact RZ (.agg Y Y (.k2 Y Y) Y (.agg Y Y (.k2 Y Y) Y (.nil)));refine cT<|qq<|aY mixed<|fa Y Y<|ld Y Y (.k2 Y Y) ?_;obtain⟨⟨om,ot⟩,jh,h⟩:=bS (V h);refine cl (sG jh) ⟨Y,aq⟩<|so Y Y Y<|so Y Y Y ?_
 refine RT.done ⟨by kernel_rfl,?_⟩;refine aV.n<|bf<|bD.r<|aV.r ?_;obtain rfl:=O h;exact RZ (.agg Y Y (.k2 Y Y) Y (.agg Y Y (.k2 Y Y) Y (.nil)))
theorem kj{x0:Zr}{x1:Zr}(N:Nat){r:Qr}(h:eO x0 x1=some r):cZ ah 61 N [.agg (eZ x0),.agg (eZ x1)] (.agg ((fQ N) r)):=by
 obtain⟨bC,bA⟩:=x0;obtain⟨bP,bN⟩:=x1;refine bF Tryz.func61 Y (af Y) (λdI M vs hN hvs=>?_);unfold eO at h;refine sr<|bx Y<|bx Y<|al (cs:=[az false,nw N ax,az false,nw N ax]) (by exact⟨au,bn,au,bn,aq⟩) Y<|dn<|qq<|sr<|ld Y Y (.k2 Y Y)<|bE h λx9 h9 h=>cl (dS h9) ⟨Y,aq⟩<|lE h λew ic h=>ls _ Y Y ic<|dn ?_;refine bG h (λj2=>AS.cw 46 [(2,.ptr 2 0),(3,.ptr 3 0),(4,.ptr 4 0)] [(4,⟨27,[aj false,.sv (nw N ax),aj false,.sv (nw N ax)]⟩),(3,⟨25,[aj j2.1,.sv (slc 1 (List.map aX j2.2.1))]⟩),(2,⟨25,[aj j2.2.2.1,.sv (slc 1 (List.map aX j2.2.2.2))]⟩)] []) (λh=>?_) (λj2 h=>?_);cases ew;exact fs<|⟨(bP,bN,bC,bA),(F h),wR []⟩;refine cT<|aY mixed<|ld Y Y (.k2 Y Y) ?_;obtain⟨⟨lC,lD⟩,jk,h⟩:=bS (V h);refine RT.bH .none (mE N jk) hN Y ⟨Y,aq⟩ T<|ld Y Y (.k2 Y Y) ?_;obtain⟨⟨rT,rU⟩,lW,h⟩:=bS h;refine RT.bH .none (mE N lW) hN Y ⟨Y,aq⟩ T<|so Y Y Y<|so Y Y Y ?_;refine RT.done ⟨by kernel_rfl,?_⟩;exact aV.n<|⟨(rT,rU,lC,lD),h,eL id Y Y Y Y Y ⟨.ptr,.ptr,.ptr,aq⟩ ⟨⟨_,Y,⟨.sv au,.sv au,.sv au,.sv au,aq⟩⟩,⟨_,Y,⟨.sv au,.sv cq,aq⟩⟩,⟨_,Y,⟨.sv au,.sv cq,aq⟩⟩,aq⟩ trivial (λ_ _=>Y)⟩;obtain⟨Ed,Ee,Ef,Eg⟩:=j2
 try dsimp only
 refine aV.n<|sr<|ld Y Y (.k2 Y Y)<|ld Y Y (.k2 Y Y) ?_;obtain⟨⟨m6,m7⟩,j6,h⟩:=bS h;refine RT.bH .none (Bl N j6) hN Y ⟨Y,Y,aq⟩ T<|al (cs:=[az false,nw N ax]) (by exact⟨au,bn,aq⟩) Y<|so Y Y Y<|dn<|sr<|ld Y Y (.k2 Y Y)<|ld Y Y (.k2 Y Y) ?_;obtain⟨⟨⟨yz,yA⟩,⟨Pq,Pr⟩,XO⟩,mY,h⟩:=bS h;refine RT.bH .none ((pC N mY).w (args':=[_,_]) ⟨au,(SV.cM (show cH [az m6,nw N (slc 1 (List.map aX m7))] _ from⟨au,cq,aq⟩)),aq⟩) hN Y ⟨Y,Y,aq⟩ T<|mv Y<|ex Y Y<|ex Y Y<|ex Y Y<|so Y Y Y<|dn<|sr<|ld Y Y (.k2 Y Y)<|ld Y Y (.k2 Y Y) ?_;obtain⟨⟨⟨vD,vE⟩,⟨Ps,Pt⟩,XP⟩,vz,h⟩:=bS h;refine RT.bH .none ((pC N vz).w (args':=[_,_]) ⟨au,(SV.cM (show cH [az m6,nw N (slc 1 (List.map aX m7))] _ from⟨au,cq,aq⟩)),aq⟩) hN Y ⟨Y,Y,aq⟩ T<|mv Y<|ex Y Y<|ex Y Y<|ex Y Y<|so Y Y Y<|dn<|qq<|sr<|ld Y Y (.k2 Y Y) ?_;obtain⟨⟨Pu,Pv⟩,rG,h⟩:=bS h;refine cl ((fg rG).w (args':=[_]) ⟨(SV.cM (show cH [az vD,nw N (slc 1 (List.map aX vE))] _ from⟨au,cq,aq⟩)),aq⟩) ⟨Y,aq⟩<|mv Y<|ex Y Y<|ex Y Y<|ag Y<|ag Y<|dn<|qq ?_
 refine bG h (λj5=>AS.cw 46 [(2,.ptr 2 0),(3,.ptr 3 0),(4,.ptr 4 0),(41,aj j5)] [(4,⟨27,[aj false,.sv (nw N ax),aj false,.sv (nw N ax)]⟩),(3,⟨25,[aj vD,.sv (nw N (slc 1 (List.map aX vE)))]⟩),(2,⟨25,[aj yz,.sv (nw N (slc 1 (List.map aX yA)))]⟩)] []) (λh=>?_) (λIw h=>?_);refine aW<|mv Y<|mv Y<|bE h λMO UJ h=>?_;cases Pv;obtain rfl:=O (F UJ);exact ww<|ww<|pF Y<|dn<|⟨false,h,wR []⟩;refine gm Y<|lE (V UJ) λnS uY UJ=>Ic _ Y Y (uU (p:=Pu) (q:=1) uY) ?_;obtain rfl:=O UJ;exact pT Y<|dn<|⟨nS,h,wR []⟩
 try dsimp only
 refine aV.n ?_;refine bG h (λj7=>AS.cw 46 [(2,.ptr 2 0),(3,.ptr 3 0),(4,.ptr 4 0)] [(4,⟨27,[aj false,.sv (nw N ax),aj false,.sv (nw N ax)]⟩),(3,⟨25,[aj j7.1,.sv (nw N (slc 1 (List.map aX j7.2)))]⟩),(2,⟨25,[aj yz,.sv (nw N (slc 1 (List.map aX yA)))]⟩)] []) (λh=>?_) (λj7 h=>?_);cases Iw;exact fs<|⟨(vD,vE),(F h),wR []⟩;exact cT<|aW<|bI (cs:=[_,_]) (cs':=[az false,nw N ax]) (.nil) ⟨au,bn,aq⟩<|so Y Y Y<|dn<|⟨(false,[]),(V h),wR []⟩;obtain⟨Eh,Ei⟩:=j7
 try dsimp only
 refine aV.n<|sr<|ld Y Y (.k2 Y Y)<|ld Y Y (.k2 Y Y)<|bI (cs:=[_,_,_,_]) (cs':=[az yz,nw N (slc 1 (List.map aX yA)),az Eh,nw N (slc 1 (List.map aX Ei))]) (.agg Y (.agg Y (.nil))) ⟨au,au,au,au,aq⟩<|so Y Y Y<|dn<|bf ?_;obtain rfl:=O h;exact RZ (.agg Y Y (.k4 Y Y Y Y) Y (.nil))
theorem fR{x0:Qr}{r:Int×Int×Bool}(h:dA x0=some r):Pure ah 42 [.agg (eQ x0)] (.uT [ay r.1,ay r.2.1,az r.2.2]):=by
 obtain⟨⟨bC,bA⟩,⟨cD,cE⟩⟩:=x0;refine bk Tryz.func42 Y (af Y) (λdI M vs hvs=>?_);unfold dA at h;refine sr<|bx Y<|ag Y<|ag Y<|ag Y<|dn<|sr<|fa Y Y<|ld Y Y (.k2 Y Y) ?_;obtain⟨⟨Bn,S9⟩,ic,h⟩:=bS h;refine cl (fg ic) ⟨Y,aq⟩<|mv Y<|ex Y Y<|ex Y Y<|ag Y<|ag Y<|dn<|sr<|fa Y Y<|ld Y Y (.k2 Y Y) ?_;obtain⟨⟨zS,Ta⟩,iw,h⟩:=bS h;refine cl (fg iw) ⟨Y,aq⟩<|mv Y<|ex Y Y<|ex Y Y<|ag Y<|ag Y<|dn<|qq<|qq ?_;refine bG h (λj21=>AS.cw 53 [(2,ai Bn),(3,ai zS),(40,aj j21)] [] []) (λh=>?_) (λEj h=>?_);refine aW<|mv Y<|lE h λje oU h=>nt Y _ oU<|mv Y<|bE h λIA La h=>?_;cases je;refine gm Y<|lE (F La) λig nV La=>gt_ Y _ nV ?_;obtain rfl:=O La;refine pF Y<|mv Y<|bE h λXR Lb h=>?_;cases ig;refine gm Y<|lE (F Lb) λjV oJ Lb=>RT.leq (.some Y Y) _ Y Y T oJ ?_;obtain rfl:=O Lb;refine pF Y<|mv Y<|bE h λXS Bo h=>?_;cases jV;refine gm Y<|lE (F Bo) λnR wo Bo=>RT.geq (.some Y Y) _ Y Y T wo ?_;obtain rfl:=O Bo;refine pF Y<|mv Y<|bE h λXT Bp h=>?_;cases nR;refine gm Y<|lE (F Bp) λqY zQ Bp=>RT.leq (.some Y Y) _ Y Y T zQ ?_;obtain rfl:=O Bp;refine pF Y<|mv Y<|bE h λXU Bq h=>?_;cases qY;refine gm Y<|lE (F Bq) λuX zR Bq=>RT.geq (.some Y Y) _ Y Y T zR ?_;obtain rfl:=O Bq;exact pF Y<|dn<|⟨uX,h,wR []⟩;obtain rfl:=O (V Bq)
 exact ww<|ww<|pT Y<|dn<|⟨true,h,wR []⟩;obtain rfl:=O (V Bp);refine ww<|ww<|pT Y<|mv Y<|bE h λXV zT h=>?_;obtain rfl:=O (V zT);exact ww<|ww<|pT Y<|dn<|⟨true,h,wR []⟩;obtain rfl:=O (V Bo);refine ww<|ww<|pT Y<|mv Y<|bE h λXW zU h=>?_;obtain rfl:=O (V zU);refine ww<|ww<|pT Y<|mv Y<|bE h λXX GI h=>?_;obtain rfl:=O (V GI);exact ww<|ww<|pT Y<|dn<|⟨true,h,wR []⟩;obtain rfl:=O (V Lb);refine ww<|ww<|pT Y<|mv Y<|bE h λXY PC h=>?_;obtain rfl:=O (V PC);refine ww<|ww<|pT Y<|mv Y<|bE h λXZ PD h=>?_;obtain rfl:=O (V PD);refine ww<|ww<|pT Y<|mv Y<|bE h λX0 PE h=>?_;obtain rfl:=O (V PE);exact ww<|ww<|pT Y<|dn<|⟨true,h,wR []⟩;obtain rfl:=O (V La);refine ww<|ww<|pT Y<|mv Y<|bE h λX1 PF h=>?_;obtain rfl:=O (V PF);refine ww<|ww<|pT Y<|mv Y<|bE h λX2 PG h=>?_;obtain rfl:=O (V PG);refine ww<|ww<|pT Y<|mv Y<|bE h λX3 PI h=>?_;obtain rfl:=O (V PI);refine ww<|ww<|pT Y<|mv Y<|bE h λX4 PJ h=>?_;obtain rfl:=O (V PJ);exact ww<|ww<|pT Y<|dn<|⟨true,h,wR []⟩
 try dsimp only
 refine aV.n ?_;cases Ej;refine fs<|qq<|bg<|sr<|mv Y<|lE (F h) λB6 Fu h=>eq _ Y Y (uU (p:=zS) (q:=0) Fu)<|ag Y<|dn ?_;refine bG h (λRo=>AS.cw 53 [(2,ai Ro.1),(3,ai Ro.2)] [] []) (λh=>?_) (λRo h=>?_);cases B6;refine cF<|sr<|mv Y<|lE (F h) λsW h46 h=>ls _ Y Y h46<|ag Y<|dn ?_;refine bG h (λRp=>AS.cw 53 [(2,ai Rp.1),(3,ai Rp.2)] [] []) (λh=>?_) (λRp h=>?_);cases sW;exact fs<|⟨(Bn,zS),(F h),wR []⟩;exact cT<|aW<|mv Y<|lE (V h) λvn h48 h=>RT.neg .none _ Y T h48<|mv Y<|lE h λvo Gw h=>RT.neg .none _ Y T Gw<|ag Y<|ag Y<|dn<|⟨(vn,vo),h,wR []⟩;obtain⟨Iy,Iz⟩:=Rp
 try dsimp only
 exact aV.n<|⟨(Iy,Iz),h,wR []⟩;exact cT<|aW<|ag Y<|dn<|⟨(Bn,1),(V h),wR []⟩;obtain⟨MP,MQ⟩:=Ro
 try dsimp only
 refine bD.n<|aV.n<|sr<|mv Y<|mv Y<|ag Y<|ag Y<|ag Y<|dn<|bf ?_;obtain rfl:=O h;exact RZ (.tmp Y (.tmp Y (.tmp Y (.nil))));refine cT<|sr<|ag Y<|ag Y<|ag Y<|dn<|bf<|aV.r ?_;obtain rfl:=O (V h);exact RZ (.tmp Y (.tmp Y (.tmp Y (.nil))))
theorem k7{x0:Int}{x1:Int}(N:Nat){r:Qr}(h:fF x0 x1=some r):cZ ah 43 N [ay x0,ay x1] (.agg ((fQ N) r)):=by
 refine bF Tryz.func43 Y (af Y) (λdI M vs hN hvs=>?_);unfold fF at h;refine sr<|al (cs:=[az false,nw N ax,az false,nw N ax]) (by exact⟨au,bn,au,bn,aq⟩) Y<|dn<|sr<|mv Y<|mv Y<|ag Y<|ag Y<|dn<|qq<|bE h λe6 zM jW=>?_;refine bL (λ(rI:Int)=>AS.cw 36 [(0,ai x0),(1,ai x1),(4,.ptr 4 0),(5,ai rI)] [(4,⟨27,[aj false,.sv (nw N ax),aj false,.sv (nw N ax)]⟩)] []) (λrI=>rI=e6) ?_ (λrI zN=>?_);refine bg ?_;refine bM zM (λs6=>AS.cw 36 [(0,ai x0),(1,ai x1),(4,.ptr 4 0),(5,ai s6.1),(6,ai s6.2)] [(4,⟨27,[aj false,.sv (nw N ax),aj false,.sv (nw N ax)]⟩)] []) (wR []) (λs6 y6 G6 h zO wm=>?_);obtain⟨jw,mF⟩:=s6
 try dsimp only
 refine qq<|sr<|mv Y<|lE h λew ic h=>ne _ Y Y (Kb (p:=mF) (q:=0) ic)<|dn ?_;cases ew;refine cF<|bT<|aV.x<|aV.x<|bD.x<|aV.n ?_;obtain rfl:=O (F h);exact⟨jw,wm _ Y,wR []⟩;refine cT<|bu<|aV.n<|bg<|aY mixed<|mv Y<|mv Y<|mv Y<|bE (V h) λgw lW h=>RT.rem .none _ Y Y T (OD lW) (OE lW)<|ag Y<|ag Y ?_;refine RT.done ⟨by kernel_rfl,?_⟩;refine bD.n ?_;obtain rfl:=O h;exact aV.n ⟨(mF,gw),zO _ Y,wR []⟩;subst zN
 try dsimp only
 refine aV.n<|qq<|sr<|mv Y<|lE jW λfX iw jW=>ls _ Y Y iw<|dn ?_;refine bG jW (λj8=>AS.cw 36 [(0,ai x0),(1,ai x1),(4,.ptr 4 0),(5,ai j8)] [(4,⟨27,[aj false,.sv (nw N ax),aj false,.sv (nw N ax)]⟩)] []) (λjW=>?_) (λGF jW=>?_);cases fX;exact fs<|⟨rI,(F jW),wR []⟩;exact cT<|aW<|mv Y<|lE (V jW) λeF ji jW=>RT.neg .none _ Y T ji<|ag Y<|dn<|⟨eF,jW,wR []⟩
 try dsimp only
 refine aV.n<|qq<|sr<|mv Y<|mv Y<|lE jW λgY mY jW=>eq _ Y Y (uU (p:=GF) (q:=x1) mY)<|dn ?_;cases gY;refine fs<|qq<|aY mixed<|mv Y<|mv Y<|bE (F jW) λiq ny jW=>RT.quo .none _ Y Y T (Sd ny) (HZ ny) ?_;obtain⟨⟨pz,pA⟩,zP,jW⟩:=bS jW;refine RT.bH .none (dc N zP) hN Y ⟨Y,aq⟩ T<|mv Y<|mv Y<|bE jW λmL pV jW=>RT.quo .none _ Y Y T (Sd pV) (HZ pV) ?_;obtain⟨⟨Ar,wz⟩,rG,jW⟩:=bS jW;refine RT.bH .none (dc N rG) hN Y ⟨Y,aq⟩ T<|bI (cs:=[_,_,_,_]) (cs':=[az pz,nw N (slc 1 (List.map aX pA)),az Ar,nw N (slc 1 (List.map aX wz))]) (.agg Y (.agg Y (.nil))) ⟨au,au,au,au,aq⟩<|so Y Y Y ?_;refine RT.done ⟨by kernel_rfl,?_⟩;refine aV.n<|bf ?_;obtain rfl:=O jW;exact RZ (.agg Y Y (.k4 Y Y Y Y) Y (.nil));refine cT<|sr<|mv Y<|mv Y<|bE (V jW) λg9 pU jW=>RT.quo .none _ Y Y T (Sd pU) (HZ pU) ?_;obtain⟨⟨tL,tN⟩,mZ,jW⟩:=bS jW;refine RT.bH .none (dc N mZ) hN Y ⟨Y,aq⟩ T<|bI (cs:=[_,_,_,_]) (cs':=[az tL,nw N (slc 1 (List.map aX tN)),az false,nw N ax]) (.agg Y (.nil)) ⟨au,au,au,bn,aq⟩<|so Y Y Y<|dn<|bf<|aV.r ?_;obtain rfl:=O jW;exact RZ (.agg Y Y (.k4 Y Y Y Y) Y (.nil))
theorem Br{x0:Int}{r:Int}(h:nJ x0=some r):Pure ah 51 [ay x0] (ay r):=by
 refine bk Tryz.func51 Y (af Y) (λdI M vs hvs=>?_);unfold nJ at h;refine sr<|ag Y<|dn<|qq<|bg<|sr<|mv Y<|lE h λx5 h5 h=>ls _ Y Y h5<|ag Y<|dn ?_;cases x5;refine cF<|sr<|mv Y<|lE (F h) λx8 h8 h=>gt _ Y Y h8<|ag Y<|dn ?_;cases x8;refine cF<|bu<|bD.n<|aV.n<|sr<|ag Y<|dn<|bf ?_;obtain rfl:=O (F h);exact R1 Y;refine cT<|sr<|ag Y<|dn<|bf<|bD.r<|aV.r ?_;obtain rfl:=O (V h);exact R1 Y;refine cT<|sr<|ag Y<|dn<|bf<|bD.r<|aV.r ?_;obtain rfl:=O (V h);exact R1 Y
theorem w8{x1:Qr}{x2:Qr}(N:Nat){r:Qr}(h:iy x1 x2=some r):cZ ah 44 N [.v (.int .u8 ((43:Nat):Int)),.agg (eQ x1),.agg (eQ x2)] (.agg ((fQ N) r)):=by
 obtain⟨⟨bP,bN⟩,⟨ee,ef⟩⟩:=x1;obtain⟨⟨qu,qw⟩,⟨CM,CN⟩⟩:=x2;refine bF Tryz.func44 Y (af Y) (λdI M vs hN hvs=>?_);unfold iy at h;refine sr<|bx Y<|bx Y<|al (cs:=[az false,nw N ax,az false,nw N ax]) (by exact⟨au,bn,au,bn,aq⟩) Y<|dn<|sr<|ld Y Y (.k4 Y Y Y Y) ?_;obtain⟨⟨⟨kQ,kR⟩,⟨l7,l8⟩⟩,kF,h⟩:=bS h;refine cl (dU kF) ⟨Y,aq⟩<|mv Y<|ex Y Y<|ex Y Y<|al (cs:=[az false,nw N ax]) (by exact⟨au,bn,aq⟩) Y<|al (cs:=[az false,nw N ax]) (by exact⟨au,bn,aq⟩) Y<|so Y Y Y<|so Y Y Y<|dn<|sr<|ld Y Y (.k4 Y Y Y Y) ?_;obtain⟨⟨⟨gJ,gK⟩,⟨kf,kg⟩⟩,ji,h⟩:=bS h;refine cl (dU ji) ⟨Y,aq⟩<|mv Y<|ex Y Y<|ex Y Y<|al (cs:=[az false,nw N ax]) (by exact⟨au,bn,aq⟩) Y<|al (cs:=[az false,nw N ax]) (by exact⟨au,bn,aq⟩) Y<|so Y Y Y<|so Y Y Y<|dn<|qq<|aY mixed<|cl jy trivial<|mv Y ?_;refine RT.look .none [.func (.func 88) #[] #[]] Y Y Y T<|fl Y Y<|ld Y Y (.k2 Y Y)<|ld Y Y (.k2 Y Y)<|ld Y Y (.k2 Y Y)<|ld Y Y (.k2 Y Y) ?_;obtain⟨⟨⟨m8,m9⟩,⟨nc,nf⟩⟩,ny,h⟩:=bS h;refine RT.bH .none (qy N ny) hN Y ⟨Y,Y,Y,Y,aq⟩ T<|ex Y Y<|ex Y Y ?_;obtain⟨⟨⟨jD,jg⟩,⟨kK,kL⟩⟩,lZ,h⟩:=bS h
 refine RT.bH .none ((kj N lZ).w (args':=[_,_]) ⟨(SV.cM (show cH [az m8,nw N (slc 1 (List.map aX m9))] _ from⟨au,cq,aq⟩)),(SV.cM (show cH [az nc,nw N (slc 1 (List.map aX nf))] _ from⟨au,cq,aq⟩)),aq⟩) hN Y ⟨Y,Y,aq⟩ T<|so Y Y Y ?_;refine RT.done ⟨by kernel_rfl,?_⟩;refine aV.n<|bf ?_;obtain rfl:=O h;exact RZ (.agg Y Y (.k4 Y Y Y Y) Y (.nil))
theorem w9{x1:Qr}{x2:Qr}(N:Nat){r:Qr}(h:iz x1 x2=some r):cZ ah 44 N [.v (.int .u8 ((45:Nat):Int)),.agg (eQ x1),.agg (eQ x2)] (.agg ((fQ N) r)):=by
 obtain⟨⟨bP,bN⟩,⟨ee,ef⟩⟩:=x1;obtain⟨⟨qu,qw⟩,⟨CM,CN⟩⟩:=x2;refine bF Tryz.func44 Y (af Y) (λdI M vs hN hvs=>?_);unfold iz at h;refine sr<|bx Y<|bx Y<|al (cs:=[az false,nw N ax,az false,nw N ax]) (by exact⟨au,bn,au,bn,aq⟩) Y<|dn<|sr<|ld Y Y (.k4 Y Y Y Y) ?_;obtain⟨⟨⟨kQ,kR⟩,⟨l7,l8⟩⟩,kF,h⟩:=bS h;refine cl (dU kF) ⟨Y,aq⟩<|mv Y<|ex Y Y<|ex Y Y<|al (cs:=[az false,nw N ax]) (by exact⟨au,bn,aq⟩) Y<|al (cs:=[az false,nw N ax]) (by exact⟨au,bn,aq⟩) Y<|so Y Y Y<|so Y Y Y<|dn<|sr<|ld Y Y (.k4 Y Y Y Y) ?_;obtain⟨⟨⟨gJ,gK⟩,⟨kf,kg⟩⟩,ji,h⟩:=bS h;refine cl (dU ji) ⟨Y,aq⟩<|mv Y<|ex Y Y<|ex Y Y<|al (cs:=[az false,nw N ax]) (by exact⟨au,bn,aq⟩) Y<|al (cs:=[az false,nw N ax]) (by exact⟨au,bn,aq⟩) Y<|so Y Y Y<|so Y Y Y<|dn<|qq<|aY mixed<|cl jy trivial<|mv Y ?_;refine RT.look .none [.func (.func 90) #[] #[]] Y Y Y T<|fl Y Y<|ld Y Y (.k2 Y Y)<|ld Y Y (.k2 Y Y)<|ld Y Y (.k2 Y Y)<|ld Y Y (.k2 Y Y) ?_;obtain⟨⟨⟨m8,m9⟩,⟨nc,nf⟩⟩,ny,h⟩:=bS h;refine RT.bH .none (qA N ny) hN Y ⟨Y,Y,Y,Y,aq⟩ T<|ex Y Y<|ex Y Y ?_;obtain⟨⟨⟨jD,jg⟩,⟨kK,kL⟩⟩,lZ,h⟩:=bS h
 refine RT.bH .none ((kj N lZ).w (args':=[_,_]) ⟨(SV.cM (show cH [az m8,nw N (slc 1 (List.map aX m9))] _ from⟨au,cq,aq⟩)),(SV.cM (show cH [az nc,nw N (slc 1 (List.map aX nf))] _ from⟨au,cq,aq⟩)),aq⟩) hN Y ⟨Y,Y,aq⟩ T<|so Y Y Y ?_;refine RT.done ⟨by kernel_rfl,?_⟩;refine aV.n<|bf ?_;obtain rfl:=O h;exact RZ (.agg Y Y (.k4 Y Y Y Y) Y (.nil))
theorem xb{x1:Qr}{x2:Qr}(N:Nat){r:Qr}(h:iA x1 x2=some r):cZ ah 44 N [.v (.int .u8 ((42:Nat):Int)),.agg (eQ x1),.agg (eQ x2)] (.agg ((fQ N) r)):=by
 obtain⟨⟨bP,bN⟩,⟨ee,ef⟩⟩:=x1;obtain⟨⟨qu,qw⟩,⟨CM,CN⟩⟩:=x2;refine bF Tryz.func44 Y (af Y) (λdI M vs hN hvs=>?_);unfold iA at h;refine sr<|bx Y<|bx Y<|al (cs:=[az false,nw N ax,az false,nw N ax]) (by exact⟨au,bn,au,bn,aq⟩) Y<|dn<|sr<|ld Y Y (.k4 Y Y Y Y) ?_;obtain⟨⟨⟨kQ,kR⟩,⟨l7,l8⟩⟩,kF,h⟩:=bS h;refine cl (dU kF) ⟨Y,aq⟩<|mv Y<|ex Y Y<|ex Y Y<|al (cs:=[az false,nw N ax]) (by exact⟨au,bn,aq⟩) Y<|al (cs:=[az false,nw N ax]) (by exact⟨au,bn,aq⟩) Y<|so Y Y Y<|so Y Y Y<|dn<|sr<|ld Y Y (.k4 Y Y Y Y) ?_;obtain⟨⟨⟨gJ,gK⟩,⟨kf,kg⟩⟩,ji,h⟩:=bS h;refine cl (dU ji) ⟨Y,aq⟩<|mv Y<|ex Y Y<|ex Y Y<|al (cs:=[az false,nw N ax]) (by exact⟨au,bn,aq⟩) Y<|al (cs:=[az false,nw N ax]) (by exact⟨au,bn,aq⟩) Y<|so Y Y Y<|so Y Y Y<|dn<|qq<|aY mixed<|cl jy trivial<|mv Y ?_;refine RT.look .none [.func (.func 92) #[] #[]] Y Y Y T<|fl Y Y<|ld Y Y (.k2 Y Y)<|ld Y Y (.k2 Y Y)<|ld Y Y (.k2 Y Y)<|ld Y Y (.k2 Y Y) ?_;obtain⟨⟨⟨m8,m9⟩,⟨nc,nf⟩⟩,ny,h⟩:=bS h;refine RT.bH .none (qB N ny) hN Y ⟨Y,Y,Y,Y,aq⟩ T<|ex Y Y<|ex Y Y ?_;obtain⟨⟨⟨jD,jg⟩,⟨kK,kL⟩⟩,lZ,h⟩:=bS h
 refine RT.bH .none ((kj N lZ).w (args':=[_,_]) ⟨(SV.cM (show cH [az m8,nw N (slc 1 (List.map aX m9))] _ from⟨au,cq,aq⟩)),(SV.cM (show cH [az nc,nw N (slc 1 (List.map aX nf))] _ from⟨au,cq,aq⟩)),aq⟩) hN Y ⟨Y,Y,aq⟩ T<|so Y Y Y ?_;refine RT.done ⟨by kernel_rfl,?_⟩;refine aV.n<|bf ?_;obtain rfl:=O h;exact RZ (.agg Y Y (.k4 Y Y Y Y) Y (.nil))
end
section
open Go.Fw Go.Fw.Z Go.RowKit
theorem tY{x0:Int}(N:Nat){r:Qr}(h:cK x0=some r):cZ ah 18 N [ay x0] (.agg ((fQ N) r)):=by
 refine bF Tryz.func18 Y (af Y) (λdI M vs hN hvs=>?_);unfold cK at h;refine sr<|al (cs:=[az false,nw N ax,az false,nw N ax]) (by exact⟨au,bn,au,bn,aq⟩) Y<|dn<|sr<|mv Y ?_;obtain⟨⟨rJ,rK⟩,h4,h⟩:=bS h;refine RT.bH .none (dc N h4) hN Y ⟨Y,aq⟩ T<|bI (cs:=[_,_,_,_]) (cs':=[az rJ,nw N (slc 1 (List.map aX rK)),az false,nw N ax]) (.agg Y (.nil)) ⟨au,au,au,bn,aq⟩<|so Y Y Y<|dn<|bf ?_;obtain rfl:=O h;exact RZ (.agg Y Y (.k4 Y Y Y Y) Y (.nil))
theorem ia{x0:Int}{r:Qr}(h:cK x0=some r):Pure ah 18 [ay x0] (.agg (eQ r)):=ff (λN=>tY N h) (λN=>(SV.cM (qI _ _)))
theorem nK{x0:Qr}(N:Nat){r:Qr}(h:dO x0=some r):cZ ah 34 N [.agg (eQ x0)] (.agg ((fQ N) r)):=by
 obtain⟨⟨bC,bA⟩,⟨cD,cE⟩⟩:=x0;refine bF Tryz.func34 Y (af Y) (λdI M vs hN hvs=>?_);unfold dO at h;refine sr<|bx Y<|al (cs:=[az false,nw N ax,az false,nw N ax]) (by exact⟨au,bn,au,bn,aq⟩) Y<|dn<|qq<|sr<|ld Y Y (.k4 Y Y Y Y) ?_;obtain⟨⟨x8a,x8b,XQ⟩,h8,h⟩:=bS h;refine cl (fR h8) ⟨Y,aq⟩<|mv Y<|ex Y Y<|ex Y Y<|ex Y Y<|ag Y<|ag Y<|ag Y<|dn<|sr<|mv Y<|dn ?_;cases XQ;refine fs<|sr<|ld Y Y (.k4 Y Y Y Y) ?_;obtain⟨⟨⟨IB,IC⟩,⟨ID,IE⟩⟩,j6,h⟩:=bS (F h);refine cl (dU j6) ⟨Y,aq⟩<|ex Y Y<|ex Y Y ?_;obtain⟨⟨⟨CO,CP⟩,⟨MR,MS⟩⟩,oU,h⟩:=bS h;refine RT.bH .none (kj N oU) hN Y ⟨Y,Y,aq⟩ T<|so Y Y Y<|dn<|bf ?_;obtain rfl:=O h;exact RZ (.agg Y Y (.k4 Y Y Y Y) Y (.nil));refine cT<|sr<|mv Y<|mv Y ?_;obtain⟨⟨⟨ej,ek⟩,⟨jF,jG⟩⟩,jl,h⟩:=bS (V h);refine RT.bH .none (k7 N jl) hN Y ⟨Y,Y,aq⟩ T<|so Y Y Y<|dn<|bf<|aV.r ?_;obtain rfl:=O h;exact RZ (.agg Y Y (.k4 Y Y Y Y) Y (.nil))
theorem tZ{x0:Qr}{r:Int}(h:jH x0=some r):Pure ah 57 [.agg (eQ x0)] (ay r):=by
 obtain⟨⟨bC,bA⟩,⟨cD,cE⟩⟩:=x0;refine bk Tryz.func57 Y (af Y) (λdI M vs hvs=>?_);unfold jH at h;refine sr<|bx Y<|ag Y<|dn<|qq<|sr<|fa Y Y<|ld Y Y (.k2 Y Y)<|bE h λx5 h5 h=>cl (dS h5) ⟨Y,aq⟩<|lE h λx6 h6 h=>ls _ Y Y h6<|dn ?_;cases x6;refine fs<|sr<|fa Y Y<|ld Y Y (.k2 Y Y)<|bE (F h) λjv kF h=>cl (dS kF) ⟨Y,aq⟩<|ag Y<|dn<|bf ?_;obtain rfl:=O h;exact R1 Y;refine cT<|sr<|fa Y Y<|ld Y Y (.k2 Y Y)<|bE (V h) λx9 h9 h=>cl (dS h9) ⟨Y,aq⟩<|lE h λew ic h=>RT.neg .none _ Y T ic<|ag Y<|dn<|bf<|aV.r ?_;obtain rfl:=O h;exact R1 Y
theorem nL{x0:Qr}{x1:Qr}(N:Nat){r:Qr}(h:fP x0 x1=some r):cZ ah 38 N [.agg (eQ x0),.agg (eQ x1)] (.agg ((fQ N) r)):=by
 obtain⟨⟨bC,bA⟩,⟨cD,cE⟩⟩:=x0;obtain⟨⟨bP,bN⟩,⟨ee,ef⟩⟩:=x1;refine bF Tryz.func38 Y (af Y) (λdI M vs hN hvs=>?_);unfold fP at h;refine sr<|bx Y<|bx Y<|al (cs:=[az false,nw N ax,az false,nw N ax]) (by exact⟨au,bn,au,bn,aq⟩) Y<|dn<|sr<|ld Y Y (.k4 Y Y Y Y) ?_;obtain⟨⟨yB,vF,yC⟩,kF,h⟩:=bS h;refine cl (fR kF) ⟨Y,aq⟩<|mv Y<|ex Y Y<|ex Y Y<|ex Y Y<|ag Y<|ag Y<|ag Y<|dn<|sr<|ld Y Y (.k4 Y Y Y Y) ?_;obtain⟨⟨yD,vG,yE⟩,mB,h⟩:=bS h;refine cl (fR mB) ⟨Y,aq⟩<|mv Y<|ex Y Y<|ex Y Y<|ex Y Y<|ag Y<|ag Y<|ag Y<|dn<|qq<|qq ?_;refine bG h (λj3=>AS.cw 41 [(2,.ptr 2 0),(3,.ptr 3 0),(4,.ptr 4 0),(5,ai yB),(6,ai vF),(8,ai yD),(9,ai vG),(26,aj j3)] [(4,⟨27,[aj false,.sv (nw N ax),aj false,.sv (nw N ax)]⟩),(3,⟨27,[aj bP,.sv (slc 1 (List.map aX bN)),aj ee,.sv (slc 1 (List.map aX ef))]⟩),(2,⟨27,[aj bC,.sv (slc 1 (List.map aX bA)),aj cD,.sv (slc 1 (List.map aX cE))]⟩)] []) (λh=>?_) (λqx h=>?_);refine aW<|mv Y<|mv Y<|bE h λwA oW h=>?_;cases yC;obtain rfl:=O (F oW);exact ww<|pF Y<|dn<|⟨false,h,wR []⟩;refine gm Y ?_;obtain rfl:=O (V oW);exact pT Y<|dn<|⟨yE,h,wR []⟩
 try dsimp only
 refine aV.n ?_;cases qx;refine fs<|sr<|ld Y Y (.k4 Y Y Y Y)<|ld Y Y (.k4 Y Y Y Y) ?_;obtain⟨⟨⟨wc,we⟩,⟨CQ,CR⟩⟩,uY,h⟩:=bS (F h);refine RT.bH .none (w8 N uY) hN Y ⟨Y,Y,Y,aq⟩ T<|so Y Y Y<|dn<|bf ?_;obtain rfl:=O h;exact RZ (.agg Y Y (.k4 Y Y Y Y) Y (.nil));refine cT<|sr<|mv Y<|mv Y<|lE (V h) λiq ny h=>RT.mul .none _ Y Y T ny<|mv Y<|mv Y<|lE h λiN lZ h=>RT.mul .none _ Y Y T lZ<|lE h λmL pV h=>ad _ Y Y pV<|mv Y<|mv Y<|lE h λvp vB h=>RT.mul .none _ Y Y T vB ?_;obtain⟨⟨⟨pD,pE⟩,⟨pG,pH⟩⟩,yy,h⟩:=bS h;refine RT.bH .none (k7 N yy) hN Y ⟨Y,Y,aq⟩ T<|so Y Y Y<|dn<|bf<|aV.r ?_;obtain rfl:=O h;exact RZ (.agg Y Y (.k4 Y Y Y Y) Y (.nil))
theorem CS{x0:Qr}{x1:Qr}{r:Qr}(h:fP x0 x1=some r):Pure ah 38 [.agg (eQ x0),.agg (eQ x1)] (.agg (eQ r)):=ff (λN=>nL N h) (λN=>(SV.cM (qI _ _)))
theorem wD{x0:Qr}{x1:Qr}(N:Nat){r:Qr}(h:iB x0 x1=some r):cZ ah 23 N [.agg (eQ x0),.agg (eQ x1)] (.agg ((fQ N) r)):=by
 obtain⟨⟨bC,bA⟩,⟨cD,cE⟩⟩:=x0;obtain⟨⟨bP,bN⟩,⟨ee,ef⟩⟩:=x1;refine bF Tryz.func23 Y (af Y) (λdI M vs hN hvs=>?_);unfold iB at h;refine sr<|bx Y<|bx Y<|al (cs:=[az false,nw N ax,az false,nw N ax]) (by exact⟨au,bn,au,bn,aq⟩) Y<|dn<|sr<|ld Y Y (.k4 Y Y Y Y) ?_;obtain⟨⟨yB,vF,yC⟩,kF,h⟩:=bS h;refine cl (fR kF) ⟨Y,aq⟩<|mv Y<|ex Y Y<|ex Y Y<|ex Y Y<|ag Y<|ag Y<|ag Y<|dn<|sr<|ld Y Y (.k4 Y Y Y Y) ?_;obtain⟨⟨yD,vG,yE⟩,mB,h⟩:=bS h;refine cl (fR mB) ⟨Y,aq⟩<|mv Y<|ex Y Y<|ex Y Y<|ex Y Y<|ag Y<|ag Y<|ag Y<|dn<|qq<|qq ?_;refine bG h (λj3=>AS.cw 41 [(2,.ptr 2 0),(3,.ptr 3 0),(4,.ptr 4 0),(5,ai yB),(6,ai vF),(8,ai yD),(9,ai vG),(26,aj j3)] [(4,⟨27,[aj false,.sv (nw N ax),aj false,.sv (nw N ax)]⟩),(3,⟨27,[aj bP,.sv (slc 1 (List.map aX bN)),aj ee,.sv (slc 1 (List.map aX ef))]⟩),(2,⟨27,[aj bC,.sv (slc 1 (List.map aX bA)),aj cD,.sv (slc 1 (List.map aX cE))]⟩)] []) (λh=>?_) (λqx h=>?_);refine aW<|mv Y<|mv Y<|bE h λwA oW h=>?_;cases yC;obtain rfl:=O (F oW);exact ww<|pF Y<|dn<|⟨false,h,wR []⟩;refine gm Y ?_;obtain rfl:=O (V oW);exact pT Y<|dn<|⟨yE,h,wR []⟩
 try dsimp only
 refine aV.n ?_;cases qx;refine fs<|sr<|ld Y Y (.k4 Y Y Y Y)<|ld Y Y (.k4 Y Y Y Y) ?_;obtain⟨⟨⟨wc,we⟩,⟨CQ,CR⟩⟩,uY,h⟩:=bS (F h);refine RT.bH .none (w9 N uY) hN Y ⟨Y,Y,Y,aq⟩ T<|so Y Y Y<|dn<|bf ?_;obtain rfl:=O h;exact RZ (.agg Y Y (.k4 Y Y Y Y) Y (.nil));refine cT<|sr<|mv Y<|mv Y<|lE (V h) λiq ny h=>RT.mul .none _ Y Y T ny<|mv Y<|mv Y<|lE h λiN lZ h=>RT.mul .none _ Y Y T lZ<|lE h λmL pV h=>sb _ Y Y pV<|mv Y<|mv Y<|lE h λvp vB h=>RT.mul .none _ Y Y T vB ?_;obtain⟨⟨⟨pD,pE⟩,⟨pG,pH⟩⟩,yy,h⟩:=bS h;refine RT.bH .none (k7 N yy) hN Y ⟨Y,Y,aq⟩ T<|so Y Y Y<|dn<|bf<|aV.r ?_;obtain rfl:=O h;exact RZ (.agg Y Y (.k4 Y Y Y Y) Y (.nil))
theorem CT{x0:Qr}{x1:Qr}{r:Qr}(h:iB x0 x1=some r):Pure ah 23 [.agg (eQ x0),.agg (eQ x1)] (.agg (eQ r)):=ff (λN=>wD N h) (λN=>(SV.cM (qI _ _)))
theorem CU{x0:Qr}{x1:Qr}(N:Nat){r:Qr}(h:gL x0 x1=some r):cZ ah 22 N [.agg (eQ x0),.agg (eQ x1)] (.agg ((fQ N) r)):=by
 obtain⟨⟨bC,bA⟩,⟨cD,cE⟩⟩:=x0;obtain⟨⟨bP,bN⟩,⟨ee,ef⟩⟩:=x1;refine bF Tryz.func22 Y (af Y) (λdI M vs hN hvs=>?_);unfold gL at h;refine sr<|bx Y<|bx Y<|al (cs:=[az false,nw N ax,az false,nw N ax]) (by exact⟨au,bn,au,bn,aq⟩) Y<|dn<|sr<|ld Y Y (.k4 Y Y Y Y) ?_;obtain⟨⟨yB,vF,yC⟩,kF,h⟩:=bS h;refine cl (fR kF) ⟨Y,aq⟩<|mv Y<|ex Y Y<|ex Y Y<|ex Y Y<|ag Y<|ag Y<|ag Y<|dn<|sr<|ld Y Y (.k4 Y Y Y Y) ?_;obtain⟨⟨yD,vG,yE⟩,mB,h⟩:=bS h;refine cl (fR mB) ⟨Y,aq⟩<|mv Y<|ex Y Y<|ex Y Y<|ex Y Y<|ag Y<|ag Y<|ag Y<|dn<|qq<|qq ?_;refine bG h (λj3=>AS.cw 37 [(2,.ptr 2 0),(3,.ptr 3 0),(4,.ptr 4 0),(5,ai yB),(6,ai vF),(8,ai yD),(9,ai vG),(26,aj j3)] [(4,⟨27,[aj false,.sv (nw N ax),aj false,.sv (nw N ax)]⟩),(3,⟨27,[aj bP,.sv (slc 1 (List.map aX bN)),aj ee,.sv (slc 1 (List.map aX ef))]⟩),(2,⟨27,[aj bC,.sv (slc 1 (List.map aX bA)),aj cD,.sv (slc 1 (List.map aX cE))]⟩)] []) (λh=>?_) (λqx h=>?_);refine aW<|mv Y<|mv Y<|bE h λwA oW h=>?_;cases yC;obtain rfl:=O (F oW);exact ww<|pF Y<|dn<|⟨false,h,wR []⟩;refine gm Y ?_;obtain rfl:=O (V oW);exact pT Y<|dn<|⟨yE,h,wR []⟩
 try dsimp only
 refine aV.n ?_;cases qx;refine fs<|sr<|ld Y Y (.k4 Y Y Y Y)<|ld Y Y (.k4 Y Y Y Y) ?_;obtain⟨⟨⟨kI,kJ⟩,⟨pI,pJ⟩⟩,vB,h⟩:=bS (F h);refine RT.bH .none (xb N vB) hN Y ⟨Y,Y,Y,aq⟩ T<|so Y Y Y<|dn<|bf ?_;obtain rfl:=O h;exact RZ (.agg Y Y (.k4 Y Y Y Y) Y (.nil));refine cT<|sr<|mv Y<|mv Y<|lE (V h) λiq ny h=>RT.mul .none _ Y Y T ny<|mv Y<|mv Y<|lE h λiN lZ h=>RT.mul .none _ Y Y T lZ ?_;obtain⟨⟨⟨ou,oy⟩,⟨rV,rW⟩⟩,pV,h⟩:=bS h;refine RT.bH .none (k7 N pV) hN Y ⟨Y,Y,aq⟩ T<|so Y Y Y<|dn<|bf<|aV.r ?_;obtain rfl:=O h;exact RZ (.agg Y Y (.k4 Y Y Y Y) Y (.nil))
theorem qC{x0:Qr}{x1:Qr}{r:Qr}(h:gL x0 x1=some r):Pure ah 22 [.agg (eQ x0),.agg (eQ x1)] (.agg (eQ r)):=ff (λN=>CU N h) (λN=>(SV.cM (qI _ _)))
theorem wE{x0:Qr}(N:Nat){r:Qr}(h:iC x0=some r):cZ ah 29 N [.agg (eQ x0)] (.agg ((fQ N) r)):=by
 obtain⟨⟨bC,bA⟩,⟨cD,cE⟩⟩:=x0;refine bF Tryz.func29 Y (af Y) (λdI M vs hN hvs=>?_);unfold iC at h;refine sr<|bx Y<|al (cs:=[az false,nw N ax,az false,nw N ax]) (by exact⟨au,bn,au,bn,aq⟩) Y<|dn<|sr<|ld Y Y (.k4 Y Y Y Y) ?_;obtain⟨⟨⟨GG,GH⟩,⟨PA,PB⟩⟩,h5,h⟩:=bS h;refine RT.bH .none (nK N h5) hN Y ⟨Y,aq⟩ T<|al (cs:=[az false,nw N ax,az false,nw N ax]) (by exact⟨au,bn,au,bn,aq⟩) Y<|so Y Y Y<|dn<|qq<|aY mixed<|fa Y Y<|ld Y Y (.k2 Y Y) ?_;obtain⟨⟨kS,kT⟩,h8,h⟩:=bS h;refine RT.bH .none ((mE N h8).w (args':=[_]) ⟨(SV.cM (show cH [az GG,nw N (slc 1 (List.map aX GH))] _ from⟨au,cq,aq⟩)),aq⟩) hN Y ⟨Y,aq⟩ T<|fa Y Y<|ld Y Y (.k2 Y Y)<|bI (cs:=[_,_,_,_]) (cs':=[az kS,nw N (slc 1 (List.map aX kT)),az PA,nw N (slc 1 (List.map aX PB))]) (.agg Y (.agg Y (.nil))) ⟨au,au,au,au,aq⟩<|so Y Y Y ?_;refine RT.done ⟨by kernel_rfl,?_⟩;refine aV.n<|bf ?_;obtain rfl:=O h;exact RZ (.agg Y Y (.k4 Y Y Y Y) Y (.nil))
theorem CV{x0:Qr}{r:Qr}(h:iC x0=some r):Pure ah 29 [.agg (eQ x0)] (.agg (eQ r)):=ff (λN=>wE N h) (λN=>(SV.cM (qI _ _)))
theorem qD{x0:Qr}{x1:Qr}{r:Int}(h:jx x0 x1=some r):Pure ah 26 [.agg (eQ x0),.agg (eQ x1)] (ay r):=by
 obtain⟨⟨bC,bA⟩,⟨cD,cE⟩⟩:=x0;obtain⟨⟨bP,bN⟩,⟨ee,ef⟩⟩:=x1;refine bk Tryz.func26 Y (af Y) (λdI M vs hvs=>?_);unfold jx at h;refine sr<|bx Y<|bx Y<|ag Y<|dn<|sr<|ld Y Y (.k4 Y Y Y Y) ?_;obtain⟨⟨⟨kQ,kR⟩,⟨l7,l8⟩⟩,kF,h⟩:=bS h;refine cl (dU kF) ⟨Y,aq⟩<|mv Y<|ex Y Y<|ex Y Y<|al (cs:=[az false,ax]) (by exact⟨au,aB,aq⟩) Y<|al (cs:=[az false,ax]) (by exact⟨au,aB,aq⟩) Y<|so Y Y Y<|so Y Y Y<|dn<|sr<|ld Y Y (.k4 Y Y Y Y) ?_;obtain⟨⟨⟨gJ,gK⟩,⟨kf,kg⟩⟩,ji,h⟩:=bS h;refine cl (dU ji) ⟨Y,aq⟩<|mv Y<|ex Y Y<|ex Y Y<|al (cs:=[az false,ax]) (by exact⟨au,aB,aq⟩) Y<|al (cs:=[az false,ax]) (by exact⟨au,aB,aq⟩) Y<|so Y Y Y<|so Y Y Y<|dn<|qq<|qq<|aY mixed<|ld Y Y (.k2 Y Y)<|bE h λiM oV h=>?_;refine cl (dS oV) ⟨Y,aq⟩<|ld Y Y (.k2 Y Y)<|bE h λg9 pU h=>cl (dS pU) ⟨Y,aq⟩<|ag Y<|ag Y ?_;refine RT.done ⟨by kernel_rfl,?_⟩;refine aV.n<|qq ?_;refine bG h (λj3=>AS.cw 43 [(5,.ptr 5 0),(6,.ptr 6 0),(7,.ptr 7 0),(8,.ptr 8 0),(9,ai iM),(10,ai g9),(31,aj j3)] [(8,⟨25,[aj kf,.sv (slc 1 (List.map aX kg))]⟩),(7,⟨25,[aj gJ,.sv (slc 1 (List.map aX gK))]⟩),(6,⟨25,[aj l7,.sv (slc 1 (List.map aX l8))]⟩),(5,⟨25,[aj kQ,.sv (slc 1 (List.map aX kR))]⟩)] []) (λh=>?_) (λIF h=>?_)
 refine aW<|mv Y<|mv Y<|lE h λjV oJ h=>ne _ Y Y (Kb (p:=iM) (q:=g9) oJ)<|mv Y<|bE h λMV oW h=>?_;cases jV;refine gm Y<|lE (F oW) λyj zP oW=>Ic _ Y Y (uU (p:=iM) (q:=0) zP) ?_;obtain rfl:=O oW;exact pF Y<|dn<|⟨yj,h,wR []⟩;obtain rfl:=O (V oW);exact ww<|ww<|pT Y<|dn<|⟨true,h,wR []⟩
 try dsimp only
 refine aV.n ?_;cases IF;refine fs<|qq<|aY mixed<|ld Y Y (.k2 Y Y)<|ld Y Y (.k2 Y Y) ?_;obtain⟨⟨wB,wC⟩,yw,h⟩:=bS (F h);refine cl (tW yw) ⟨Y,Y,aq⟩<|ld Y Y (.k2 Y Y)<|ld Y Y (.k2 Y Y) ?_;obtain⟨⟨MT,MU⟩,Gt,h⟩:=bS h;refine cl (tW Gt) ⟨Y,Y,aq⟩<|bE h λuV CK h=>cl (Bk CK) ⟨Y,Y,aq⟩<|ag Y ?_;refine RT.done ⟨by kernel_rfl,?_⟩;refine aV.n<|bf ?_;obtain rfl:=O h;exact R1 Y;refine cT<|sr<|mv Y<|mv Y<|lE (V h) λmK rG h=>sb _ Y Y rG<|bE h λqY zQ h=>cl (Br zQ) ⟨Y,aq⟩<|ag Y<|dn<|bf<|aV.r ?_;obtain rfl:=O h;exact R1 Y
theorem zV{x0:Qr}{x1:Qr}{r:Bool}(h:iQ x0 x1=some r):Pure ah 40 [.agg (eQ x0),.agg (eQ x1)] (az r):=by
 obtain⟨⟨bC,bA⟩,⟨cD,cE⟩⟩:=x0;obtain⟨⟨bP,bN⟩,⟨ee,ef⟩⟩:=x1;refine bk Tryz.func40 Y (af Y) (λdI M vs hvs=>?_);unfold iQ at h;refine sr<|bx Y<|bx Y<|ag Y<|dn<|sr<|ld Y Y (.k4 Y Y Y Y)<|ld Y Y (.k4 Y Y Y Y)<|bE h λx7 h7 h=>cl (qD h7) ⟨Y,Y,aq⟩<|lE h λx8 h8 h=>eq _ Y Y (uU (p:=x7) (q:=0) h8)<|ag Y<|dn<|bf ?_;obtain rfl:=O h;exact R1 Y
end
section
open Go.Fw
noncomputable def lF(x0:Qr)(x1:Qr)(c0:Qr):Option (Qr):=match x0 with|⟨⟨bC,bA⟩,⟨cD,cE⟩⟩=>match x1 with|⟨⟨bP,bN⟩,⟨ee,ef⟩⟩=>match c0 with|⟨⟨II,IJ⟩,⟨IK,IL⟩⟩=>cj (λ(qE:Bool)=>cj (λ(j5:Bool×(List Nat)×Bool×(List Nat))=>match j5 with|⟨As,At,Au,Av⟩=>some ⟨⟨As,At⟩,⟨Au,Av⟩⟩) λK5=>(bif qE then(gL ⟨⟨bC,bA⟩,⟨cD,cE⟩⟩ ⟨⟨bP,bN⟩,⟨ee,ef⟩⟩).bind λ⟨⟨dK,dL⟩,⟨iW,iX⟩⟩=>(fP ⟨⟨II,IJ⟩,⟨IK,IL⟩⟩ ⟨⟨dK,dL⟩,⟨iW,iX⟩⟩).bind λ⟨⟨m6,m7⟩,⟨Aw,Ax⟩⟩=>K5 (m6,m7,Aw,Ax)else K5 (II,IJ,IK,IL))) λK3=>(jH ⟨⟨bC,bA⟩,⟨cD,cE⟩⟩).bind λx6=>(some (decide ((x6:Int)≠0))).bind λx7=>(bif x7 then(jH ⟨⟨bP,bN⟩,⟨ee,ef⟩⟩).bind λew=>(some (decide ((ew:Int)≠0))).bind λeG=>some eG else some false).bind λMW=>K3 MW
noncomputable def kU(x0:List Qr)(x1:List Qr):Option (Qr):=(some (x0.length:Int)).bind λeA=>(some (x1.length:Int)).bind λgw=>(some (min (eA:Int) gw)).bind λgQ=>(wS x0 0 gQ).bind λeF=>(wS x1 0 gQ).bind λgY=>(oQ (λ(k:Nat) (s7:Bool×(List Nat)×Bool×(List Nat))=>match s7 with|⟨yF,yG,yH,yI⟩=>(show Option (Bool×(List Nat)×Bool×(List Nat))from(some (eF.getD k (⟨⟨false,[]⟩,⟨false,[]⟩⟩:Qr))).bind λ⟨⟨MX,MY⟩,⟨MZ,M1⟩⟩=>(some (gY.getD k (⟨⟨false,[]⟩,⟨false,[]⟩⟩:Qr))).bind λ⟨⟨M3,M4⟩,⟨M5,M6⟩⟩=>(lF ⟨⟨MX,MY⟩,⟨MZ,M1⟩⟩ ⟨⟨M3,M4⟩,⟨M5,M6⟩⟩ ⟨⟨yF,yG⟩,⟨yH,yI⟩⟩).bind λ⟨⟨Tb,Tc⟩,⟨Td,Te⟩⟩=>some (Tb,Tc,Td,Te))) (max eF.length gY.length) (false,[],false,[])).bind λe7=>match e7 with|⟨yF,yG,yH,yI⟩=>some ⟨⟨yF,yG⟩,⟨yH,yI⟩⟩
noncomputable def cG(x0:List Int):Option (List Qr):=(some (x0.length:Int)).bind λx7=>(DT 64 x7 (⟨⟨false,[]⟩,⟨false,[]⟩⟩:Qr)).bind λx8=>(some (x0.length:Int)).bind λew=>(b9 (λ(s8:Int×(List Qr))=>match s8 with|⟨CW,IM⟩=>(show Option ((Int×(List Qr))⊕((List Qr)))from(some (decide ((CW:Int)<ew))).bind λeA=>(bif eA then(cm x0 CW).bind λgw=>(cK gw).bind λ⟨⟨jn,jo⟩,⟨ua,uc⟩⟩=>(vh IM CW).bind λje=>(stM IM je ⟨⟨jn,jo⟩,⟨ua,uc⟩⟩).bind λD0=>(some (IntKind.i64.wrap (CW+1))).bind λgY=>some (.inl (gY,D0))else some (.inr IM)))) (0,x8)).bind λEk=>some Ek
end
end Go.Proofs.YtdpjpoekcgigkaaGreat
