/- A part of the proof: the framework, the plain functions, the followed functions, the plain laws. -/
import Derived.Test.YtmiflmkdaeianaaPSG1
set_option linter.unusedVariables false
set_option linter.unusedSimpArgs false
set_option linter.unusedSectionVars false
namespace Go.Fw
section
open Go.RowKit
inductive Src (S:AS) (E0:TypeId) (n:Nat):Operand->List (Nat×gS)->List Nat->Nat->List SV->Prop
 |nil {x:Operand} (h:S.ev x=.sv (.v (.slice none 0 0))):Src S E0 n x [] [] 0 []
 |row {x:Operand} {i m:Nat} {cs:List SV} (h:S.ev x=.row i) (hR:S.r i=.live ⟨E0,n,m,cs⟩):Src S E0 n x [(i,.dead)] [i] m cs
theorem D0{i:Nat}{X:SV}{x:AV}(h:¬x.mr i):x.jh i X=x:=by
 cases x with
 |row k=>simp only[AV.jh];rw[dV (λe=>h e.symm)];rfl
 |eR k o=>simp only[AV.jh];rw[dV (λe=>h e.symm)];rfl
 |jg k o l=>simp only[AV.jh];rw[dV (λe=>h e.symm)];rfl
 |cmp t js=>
  simp only[AV.jh];have:js.any (Fc.rI i)=false:=by
   cases e:js.any (Fc.rI i)with
   |false=>rfl
   |true=>
    obtain⟨c,hc,hi⟩:=List.any_eq_true.1 e;cases c with
    |row j=>have hi:Nat.beq j i=true:=hi;obtain rfl:=Nat.eq_of_beq_eq_true hi;exact absurd hc h
    |_=>cases hi
  rw[this];rfl
 |_=>rfl
section steps
variable {P:Program}{C:Ctx}{ops:Array Oper}{S:AS}{nd:Bool}{K:List Ac->AS->Prop}{rest:List Oper}{acc:List Ac}
variable {gd:Option (Nat×Bool)}{rg:List Nat}{d:Nat}{ty:TypeId}{pos:String}{aft:Array Edge}{x y z:Operand}{T U E0:TypeId}
theorem Src.val{E:Env}{a:Act}{w:World}{S':AS}{n m:Nat}{old:List (Nat×gS)}{rr:List Nat}{cs:List SV}(h:aY C S' E a w)(hx:Src S E0 n x old rr m cs)(ht:∀s∈aW x,S'.t s=S.t s)(hr:∀i∈rr,S'.r i=S.r i):
  (∃vs,w.ownsRow 0 E0 n (a.eval x) m vs/\SV.da E.M cs vs)/\((old=[]/\(a.eval x).ownBlock=none)\/∃i R,old=[(i,.dead)]/\S'.r i=.live R/\(a.eval x).ownBlock=(E.ν i).ownBlock):=by
 cases hx with
 |nil hx=>
  have h1:a.eval x=.slice none 0 0:=by have h1:=h.ev x;rw[bj (λ_ h=>h) ht,hx]at h1;exact h1
  rw[h1];exact⟨⟨[],World.ownsRow_nil _ _ _ _,aq⟩,.inl ⟨Y,Y⟩⟩
 | @row i _ _ hx hR=>
  have h1:a.eval x=E.ν i:=by have h1:=h.ev x;rw[bj (λ_ h=>h) ht,hx]at h1;exact h1
  have jZ:=(hr i (by simp)).trans hR;rw[h1];obtain⟨⟨vs,h2,h3⟩,_⟩:=h.rx i _ jZ;exact⟨⟨vs,h2,h3⟩,.inr ⟨i,_,Y,jZ,Y⟩⟩
theorem RT.BO(hg:Gd ops S gd rg){n by_:Nat}{zv:Value}[tS:dQ P T E0 n][tE:gU P E0 n by_ zv]{old:List (Nat×gS)}{rr:List Nat}{m:Nat}{cs:List SV}{s:SV}{rows:List (List SV)}[hs:Gr s n rows]
  (hx:Src S E0 n x old rr m cs) (hy:S.ev y=.sv s) (hd:d<S.n) (qJ:S.r d=.un) (o7:d<1000) (hroom:(m+rows.length)*by_<=140737488355328) (mA:m+rows.length<=140737488355328)
  (X:SV) {rows':List (List SV)} (hX:∀M v,(slc n rows').h M v->(∀g,v.ownBlock=some g->(C.w0.heap.size<=g\/C.nD g)/\∃o,M g o=some (.agg #[]))->X.h M v) (gP:Rows n rows' (cs++rows.flatten)) (hlen:rows'.length=m+rows.length) (hone:∀M vs,SV.da M (cs++rows.flatten) vs->∀v∈vs,v.oneCell'=true)
  (next:RunT P C ops nd K rest (⟨rg++(aW x++aW y),[],d::rr,⟨some (d,.sv X),[],old++[(d,.dead)]⟩⟩::acc) ((AS.bC (old++[(d,.dead)]) S).set d (.sv X))):RunT P C ops nd K (⟨some d,.call ⟨.builtin .append,#[x,y],#[T,T]⟩,ty,pos,aft,gd⟩::rest) acc S:=by
 refine .inl ⟨_,[],d::rr,_,?_,next⟩;rintro S' hn ht _ hr i a w L Q ho ⟨E,h⟩ hL;refine bV (C:=C) ho (hg.wanted h (λs hs=>ht s (List.mem_append_left _ hs)) Y) ?_;obtain⟨⟨vs,hown,hvs⟩,hold⟩:=hx.val h (λs hs=>ht s (List.mem_append_right _ (List.mem_append_left _ hs))) (λi hi=>hr i (List.mem_cons_of_mem _ hi));have h2:=h.ev y;rw[bj (λ_ h=>List.mem_append_right _ (List.mem_append_right _ h)) ht,hy]at h2;obtain⟨info,hi,hsz,hby,hz⟩:=gU.info (P:=P) (E:=E0) (n:=n) (by_:=by_) (z:=zv);have CE:S'.r d=.un:=by rw[hr d (by simp)];exact qJ
 have run:∃v' w' vs',(Builtin.append_ #[T,T] ty #[a.eval x,a.eval y]).run P w=.ok v' w'/\w'.ownsRow 0 E0 n v' (m+rows.length) vs'/\SV.da E.M (cs++rows.flatten) vs'/\w.grownBy w' (a.eval x).ownBlock/\(v'.ownBlock=(a.eval x).ownBlock\/v'.ownBlock=some w.heap.size\/v'.ownBlock=none):=by
  rcases hs.h _ _ h2 with⟨a0,e,e2⟩|⟨b,o,c,e,hc,yA,hrow⟩
  ·rw[e,e2];cases a0 with
   |none=>exact⟨_,_,vs,run_append_owned_none w 0 T ty E0 info n tS.u hi _ m vs hown,by simpa using hown,by simpa using hvs,⟨Y,Y,Y,Nat.le_refl _,λ_ _ _=>Y⟩,.inl Y⟩
   |some a0=>
    rw[e2,List.length_nil]at hroom mA;obtain⟨v',w',q1,q2,q3,_,q4⟩:=run_append_own_at (P:=P) w 0 T ty E0 info zv n by_ tS.u hi hz hsz hby tE.z tE.p _ m vs hown a0 0 0 [] (by simp) (by simp) (by simp) (by unfold maxLen;omega) hroom (Nat.zero_le _);exact⟨v',w',vs,q1,by simpa using q2,by simpa using hvs,q3,q4.imp id .inl⟩
  obtain⟨us,g1,g2,g3,g4⟩:=tX rows o hrow;rw[e];obtain⟨v',w',q1,q2,q3,_,q4⟩:=run_append_own_at (P:=P) w 0 T ty E0 info zv n by_ tS.u hi hz hsz hby tE.z tE.p _ m vs hown ⟨b,o,none⟩ rows.length c us g2 (λj u hj=>by rw[eD];exact(h.cu _ _ _ (g4 j u hj)).cell (g3 u (List.mem_of_getElem? hj))) g3 (by unfold maxLen;omega) hroom (Nat.zero_le _);exact⟨v',w',vs++us,q1,q2,SV.da.append hvs g1,q3,q4.imp id .inl⟩
 obtain⟨v',w',vs',q1,q2,q3,q4,q5⟩:=run;have hr':(execOp a.eval ⟨some d,.call ⟨.builtin .append,#[x,y],#[T,T]⟩,ty,pos,aft,gd⟩).run P w=.ok (.value v') w':=by
  simp[execOp,resolve,invoke,builtin,q1]
 have BP:∀(l:List (Nat×gS)) (R:gS) (j:Nat),cD (l++[(d,R)]) j=if j=d then some R else cD l j:=by
  intro l R j
  induction l with
  |nil=>rfl
  |cons p l ih=>
   obtain⟨i,R'⟩:=p;rw[List.cons_append,cD,cD,ih];by_cases e:j=d
   ·simp[e]
   simp[e]
 have h3:=(h.newRow CE o7 old (a.eval x).ownBlock hold (R':=⟨E0,n,m+rows.length,cs++rows.flatten⟩) q2 q3 q5 q4).put (d:=d) (x:=.row d) (v:=v') (by simp[AV.holds]) (by rw[(dW _ _).1];omega) ⟨λ_ e=>e.elim,λj e=>by
  cases e;rw[gx,BP];simp⟩
 have ZO:(AS.set (AS.bC (old++[(d,gS.live ⟨E0,n,m+rows.length,cs++rows.flatten⟩)]) S') d (.row d)).r d=.live ⟨E0,n,m+rows.length,cs++rows.flatten⟩:=by
  show(AS.bC _ S').r d=_;rw[gx,BP];simp
 obtain⟨E',h4⟩:=h3.jh ZO gP hlen (Nat.le_trans mA (by decide)) hone hX;have e:(AS.set (AS.bC (old++[(d,gS.live ⟨E0,n,m+rows.length,cs++rows.flatten⟩)]) S') d (.row d)).jh d X=S'.app ⟨some (d,.sv X),[],old++[(d,.dead)]⟩:=by
  have n1:=dW (old++[(d,gS.live ⟨E0,n,m+rows.length,cs++rows.flatten⟩)]) S';have n2:=dW (old++[(d,gS.dead)]) S';refine AS.ext' ?_ (λt=>?_) (λj=>?_) (λj=>?_) ?_ ?_
  ·show(AS.bC _ S').n=(AS.bC _ S').n;rw[n1.1,n2.1]
  ·rw[AS.Ds];show((AS.set (AS.bC _ S') d (.row d)).t t).jh d X=_;by_cases e:t=d
   ·subst e;rw[AS.fK];simp[AV.jh,wT]
   rw[AS.eL _ _ _ _ e,n1.2.1,D0 (λhm=>h.wf.tr t d hm CE)];simp[wT,e]
  ·rw[AS.Dt];show((AS.bC _ S').b j).map _=_;rw[n1.2.2.1];simp only[mu,Option.getD_none];cases hb:S'.b j with
   |none=>rfl
   |some B=>
    rw[Option.map_some];have:B.cells.map (AV.jh d X)=B.cells:=by
     conv=>rhs;rw[<-List.map_id B.cells]
     exact List.map_congr_left λc hc=>D0 (λhm=>h.wf.br j B hb c hc d hm CE)
    rw[this]
  ·rw[AS.Du];show(bif Nat.beq j d then gS.dead else(AS.bC _ S').r j)=_;rw[gx,BP,BP];by_cases e:j=d
   ·subst e;simp
   simp[dV e,e]
  ·rw[(AS.BB _ _).1];exact n1.2.2.2.1
  rw[(AS.BB _ _).2];exact n1.2.2.2.2
 exact bW (C:=C) (by intro c h;cases h) hr' (hL _ _ ⟨E',e▸h4⟩)
end steps
end
section
open Go.RowKit
def cW{J R:Type}(k:J->Option R)(f:(J->Option R)->Option R):Option R:=f k
theorem bind_some{α β:Type}{x:Option α}{f:α->Option β}{r:β}(h:Option.bind x f=some r):∃a,x=some a/\f a=some r:=by
 cases x with
 |none=>cases h
 |some a=>exact⟨a,Y,h⟩
theorem sk{b w:Bool}(h:(b==w)=false):b≠w:=by cases b<;>cases w<;>simp_all
def ek{α:Type}(l:List α)(i:Int):Option α:=if 0<=i then l[i.toNat]? else none
def qN{α:Type}(l:List α)(i:Int):Option Nat:=if 0<=i/\i<l.length then some i.toNat else none
def xl{α:Type}(l:List α)(lo hi:Int):Option (List α):=if 0<=lo/\lo<=hi/\hi<=l.length then some (cut l lo.toNat hi.toNat)else none
def xm{α:Type}(by_:Nat)(l k:List α):Option (List α):=if(l.length+k.length)*by_<=140737488355328/\l.length+k.length<=140737488355328 then some (l++k)else none
def F8{α:Type}(by_:Nat)(c:Int)(z:α):Option (List α):=if 0<=c/\by_*c<=281474976710656/\c<=140737488355328 then some (List.replicate c.toNat z)else none
def GH{α:Type}(by_:Nat)(c:Int):Option (List α):=if 0<=c/\by_*c<=281474976710656/\c<=140737488355328 then some []else none
def stM{α:Type}(l:List α)(n:Nat)(y:α):Option (List α):=if n<l.length then some (l.set n y)else none
def pG(a b:Int):Option Int:=if b=0 then none else some (IntKind.i64.wrap (a.tdiv b))
def CK(a b:Int):Option Int:=if b=0 then none else some (a.tmod b)
def xn(M a b:Nat):Option Nat:=if b=0 then none else some (a/b%M)
def vE(a b:Nat):Option Nat:=if b=0 then none else some (a%b)
def j0(M a b:Nat):Nat:=(((a:Int)-b)%M).toNat
theorem kU{α:Type}{l:List α}{i:Int}{a:α}(h:ek l i=some a):0<=i/\l[i.toNat]? =some a:=by
 unfold ek at h;split at h
 ·exact⟨by assumption,h⟩
 cases h
theorem D1{α:Type}{l:List α}{i:Int}{k:Nat}(h:qN l i=some k):0<=i/\i<l.length/\i.toNat=k:=by
 unfold qN at h;split at h
 ·rename_i hh;exact⟨hh.1,hh.2,Option.some.inj h⟩
 cases h
theorem vY{α:Type}{l l':List α}{a b:Int}(h:xl l a b=some l'):0<=a/\a<=b/\b<=l.length/\cut l a.toNat b.toNat=l':=by
 unfold xl at h;split at h
 ·rename_i hh;exact⟨hh.1,hh.2.1,hh.2.2,Option.some.inj h⟩
 cases h
theorem pH{α:Type}{by_:Nat}{l k l':List α}(h:xm by_ l k=some l'):(l.length+k.length)*by_<=140737488355328/\l.length+k.length<=140737488355328/\l++k=l':=by
 unfold xm at h;split at h
 ·rename_i hh;exact⟨hh.1,hh.2,Option.some.inj h⟩
 cases h
theorem D2{α:Type}{by_:Nat}{c:Int}{z:α}{l':List α}(h:F8 by_ c z=some l'):0<=c/\by_*c<=281474976710656/\c<=140737488355328/\List.replicate c.toNat z=l':=by
 unfold F8 at h;split at h
 ·rename_i hh;exact⟨hh.1,hh.2.1,hh.2.2,Option.some.inj h⟩
 cases h
theorem D3{α:Type}{by_:Nat}{c:Int}{l':List α}(h:GH by_ c=some l'):0<=c/\by_*c<=281474976710656/\c<=140737488355328/\[]=l':=by
 unfold GH at h;split at h
 ·rename_i hh;exact⟨hh.1,hh.2.1,hh.2.2,Option.some.inj h⟩
 cases h
theorem yK{α:Type}{l l':List α}{n:Nat}{y:α}(h:stM l n y=some l'):n<l.length/\l.set n y=l':=by
 unfold stM at h;split at h
 ·rename_i hh;exact⟨hh,Option.some.inj h⟩
 cases h
def jl{S E:Type}(body:S->Option (S⊕E)):Nat->S->Option E
 |0,_=>none
 |n+1,s=>match body s with
  |some (.inl s')=>jl body n s'
  |some (.inr e)=>some e
  |none=>none
theorem oF{S E:Type}{body:S->Option (S⊕E)}:∀{n m:Nat} {s:S} {e:E},n<=m->jl body n s=some e->jl body m s=some e
 |0,_,_,_,_,h=>by cases h
 |n+1,0,_,_,hm,_=>by omega
 |n+1,m+1,s,e,hm,h=>by
  unfold jl at h⊢;cases hb:body s with
  |none=>rw[hb]at h;cases h
  |some y=>
   rw[hb]at h;cases y with
   |inl s'=>exact oF (by omega) h
   |inr e'=>exact h
open Classical in
noncomputable def c5{S E:Type}(body:S->Option (S⊕E))(s:S):Option E:=if h:∃n e,jl body n s=some e then some (Classical.choose (Classical.choose_spec h))else none
theorem oG{S E:Type}{body:S->Option (S⊕E)}{s:S}{e:E}(h:c5 body s=some e):∃n,jl body n s=some e:=by
 unfold c5 at h;split at h
 ·rename_i hh;exact⟨_,by rw[<-Option.some.inj h];exact Classical.choose_spec (Classical.choose_spec hh)⟩
 cases h
theorem uu{S E:Type}{body:S->Option (S⊕E)}{s:S}{e:E}{n:Nat}(h:jl body n s=some e):c5 body s=some e:=by
 have hh:∃n e,jl body n s=some e:=⟨n,e,h⟩;unfold c5;rw[dif_pos hh];have h2:=Classical.choose_spec (Classical.choose_spec hh);have h3:=oF (Nat.le_max_left n (Classical.choose hh)) h;have h4:=oF (Nat.le_max_right n (Classical.choose hh)) h2;rw[h3]at h4;exact h4.symm
theorem oH{S E:Type}{body:S->Option (S⊕E)}{s:S}{e:E}(h:body s=some (.inr e)):c5 body s=some e:=uu (n:=1) (by simp[jl,h])
theorem uw{S E:Type}{body:S->Option (S⊕E)}{s s':S}(h:body s=some (.inl s')):c5 body s=c5 body s':=by
 cases hl:c5 body s' with
 |some e=>obtain⟨n,hn⟩:=oG hl;exact uu (n:=n+1) (by simp[jl,h,hn])
 |none=>
  cases Yt:c5 body s with
  |none=>rfl
  |some e=>
   obtain⟨n,hn⟩:=oG Yt;cases n with
   |zero=>cases hn
   |succ n=>simp only[jl,h]at hn;rw[uu hn]at hl;cases hl
theorem qO{S E:Type}{body:S->Option (S⊕E)}(I:S->Prop)(Post:E->Prop)(μ:S->Nat)
  (step:∀s,I s->(∃s',body s=some (.inl s')/\I s'/\μ s'<μ s)\/(∃e,body s=some (.inr e)/\Post e)) {s:S} (h:I s):∃e,c5 body s=some e/\Post e:=by
 have key:∀(n:Nat) (s:S),μ s<=n->I s->∃e,c5 body s=some e/\Post e:=by
  intro n
  induction n with
  |zero=>
   intro s hn hs;rcases step s hs with⟨s',_,_,h3⟩|⟨e,h1,h2⟩
   ·omega
   exact⟨e,oH h1,h2⟩
  |succ n ih=>
   intro s hn hs;rcases step s hs with⟨s',h1,h2,h3⟩|⟨e,h1,h2⟩
   ·obtain⟨e,q1,q2⟩:=ih s' (by omega) h2;exact⟨e,by rw[uw h1];exact q1,q2⟩
   exact⟨e,oH h1,h2⟩
 exact key _ s (Nat.le_refl _) h
theorem D4{S E:Type}{body:S->Option (S⊕E)}(st:Nat->S)(n:Nat){e:E}(hs:∀k,k<n->body (st k)=some (.inl (st (k+1))))(he:body (st n)=some (.inr e)):c5 body (st 0)=some e:=by
 have key:∀k,k<=n->c5 body (st (n-k))=some e:=by
  intro k
  induction k with
  |zero=>intro _;exact oH he
  |succ k ih=>
   intro hk;rw[uw (hs (n-(k+1)) (by omega)),show n-(k+1)+1=n-k by omega];exact ih (by omega)
 have:=key n (Nat.le_refl _);rwa[Nat.sub_self]at this
theorem qz{p q:Int}{c:Bool}(h:decide (p=q)=c):(p==q)=c:=by rw[<-h];exact Bool.beq_eq_decide_eq p q
theorem KQ{p q:Int}{c:Bool}(h:decide (p≠q)=c):(p != q)=c:=by rw[<-h,bne,Bool.beq_eq_decide_eq p q];simp
theorem NH{p q:Nat}{c:Bool}(h:decide (p=q)=c):((p:Int)==(q:Int))=c:=qz (by rw[<-h];simp[Int.natCast_inj])
theorem NI{p q:Nat}{c:Bool}(h:decide (p≠q)=c):((p:Int) != (q:Int))=c:=KQ (by rw[<-h];simp[Int.natCast_inj])
theorem MQ{p q:Nat}{c:Bool}(h:decide (p<q)=c):decide ((p:Int)<(q:Int))=c:=by rw[<-h];simp
theorem UJ{p q:Nat}{c:Bool}(h:decide (p<=q)=c):decide ((p:Int)<=(q:Int))=c:=by rw[<-h];simp
theorem UL{p q c:Int}(h:max p q=c):(if q>p then q else p)=c:=by rw[<-h];split<;>omega
theorem NJ{p q c:Int}(h:min p q=c):(if q<p then q else p)=c:=by rw[<-h];split<;>omega
class UK (k:IntKind) (b:outParam Nat) (M:outParam Nat):Prop where
 w:∀x:Int,k.wrap x=x%M
 hb:k.bits=b
 hm:2^b=M
instance:UK .u8 8 256:=⟨λx=>by simp[IntKind.wrap,IntKind.signed,IntKind.bits],rfl,by decide⟩
instance:UK .u32 32 4294967296:=⟨λx=>by simp[IntKind.wrap,IntKind.signed,IntKind.bits],rfl,by decide⟩
instance:UK .u64 64 18446744073709551616:=⟨λx=>by simp[IntKind.wrap,IntKind.signed,IntKind.bits],rfl,by decide⟩
section uk
variable {k:IntKind}{bi M a b c:Nat}[u:UK k bi M]
include u
theorem UK.pos:0<M:=by rw[<-u.hm];exact Nat.two_pow_pos _
theorem UK.nat(h:a%M=c):k.wrap (a:Int)=(c:Int):=by rw[u.w,<-h,Int.natCast_emod]
theorem UK.add(h:(a+b)%M=c):k.wrap ((a:Int)+(b:Int))=(c:Int):=by rw[<-Int.natCast_add];exact UK.nat h
theorem UK.mul(h:(a*b)%M=c):k.wrap ((a:Int)*(b:Int))=(c:Int):=by rw[<-Int.natCast_mul];exact UK.nat h
theorem UK.sub(h:j0 M a b=c):k.wrap ((a:Int)-(b:Int))=(c:Int):=by
 rw[u.w,<-h,j0,Int.toNat_of_nonneg];exact Int.emod_nonneg _ (by have:=UK.pos (k:=k) (bi:=bi) (M:=M);omega)
theorem UK.neg(h:j0 M 0 a=c):k.wrap (0-(a:Int))=(c:Int):=UK.sub h
theorem UK.conv{p:Int}(h:(p%M).toNat=c):k.wrap p=(c:Int):=by
 rw[u.w,<-h,Int.toNat_of_nonneg];exact Int.emod_nonneg _ (by have:=UK.pos (k:=k) (bi:=bi) (M:=M);omega)
theorem UK.quo(h:xn M a b=some c):k.wrap ((a:Int).tdiv (b:Int))=(c:Int):=by
 unfold xn at h;split at h
 ·cases h
 rw[Int.tdiv_eq_ediv_of_nonneg (by omega),<-Int.natCast_ediv];exact UK.nat (Option.some.inj h)
theorem UK.shl{q:Int}{s:Nat}(hs:min q.toNat k.bits=s)(h:a*2^s%M=c):k.wrap ((a:Int)*2^(min q.toNat k.bits))=(c:Int):=by
 rw[hs,show(a:Int)*2^s=((a*2^s:Nat):Int) by rw[Int.natCast_mul,Int.natCast_pow];rfl];exact UK.nat h
theorem UK.ofInt(a:Nat):(BitVec.ofInt k.bits (a:Int)).toNat=a%M:=by
 rw[BitVec.ofInt_natCast,BitVec.toNat_ofNat,u.hb,u.hm]
theorem UK.or(h:(a ||| b)%M=c):k.wrap ((BitVec.ofInt k.bits (a:Int) ||| BitVec.ofInt k.bits (b:Int)).toNat)=(c:Int):=by
 rw[BitVec.toNat_or,UK.ofInt,UK.ofInt,<-u.hm,<-Nat.or_mod_two_pow,u.hm,h,UK.nat (a:=c) (c:=c)];rw[<-h,Nat.mod_mod]
end uk
theorem xo{k:IntKind}{a c s:Nat}{q:Int}(hs:min q.toNat k.bits=s)(h:a/2^s=c):(a:Int).fdiv (2^(min q.toNat k.bits))=(c:Int):=by
 rw[hs,Int.fdiv_eq_ediv_of_nonneg _ (Int.le_of_lt (Int.pow_pos (by decide))),<-h,Int.natCast_ediv,Int.natCast_pow];rfl
theorem GI{a b c:Nat}(h:vE a b=some c):(a:Int).tmod (b:Int)=(c:Int):=by
 unfold vE at h;split at h
 ·cases h
 rw[Int.tmod_eq_emod_of_nonneg (by omega),<-Option.some.inj h];rfl
theorem UM{M a b c:Nat}(h:xn M a b=some c):(b:Int)≠0:=by
 unfold xn at h;split at h
 ·cases h
 omega
theorem Sv{a b c:Nat}(h:vE a b=some c):(b:Int)≠0:=by
 unfold vE at h;split at h
 ·cases h
 omega
theorem UN{a b c:Int}(h:pG a b=some c):b≠0:=by unfold pG at h;split at h<;>simp_all
theorem UO{a b c:Int}(h:CK a b=some c):b≠0:=by unfold CK at h;split at h<;>simp_all
theorem KR{a b c:Int}(h:pG a b=some c):IntKind.i64.wrap (a.tdiv b)=c:=by
 unfold pG at h;split at h
 ·cases h
 exact Option.some.inj h
theorem UP{a b c:Int}(h:CK a b=some c):a.tmod b=c:=by
 unfold CK at h;split at h
 ·cases h
 exact Option.some.inj h
abbrev aX(x:Nat):List SV:=[.v (.int .u32 (x:Nat))]
abbrev UQ(x:Int):List SV:=[.v (.int .i16 x)]
abbrev NK(x:Int):List SV:=[.v (.int .i32 x)]
abbrev eB(x:Bool):List SV:=[.v (.bool x)]
abbrev eS{α:Type}(n:Nat)(e:α->List SV)(l:List α):List SV:=[slc n (l.map e)]
structure Zr where
 neg:Bool
 w:List Nat
structure Qr where
 num:Zr
 den:Zr
abbrev eZ(z:Zr):List SV:=[.v (.bool z.neg),slc 1 (z.w.map aX)]
abbrev eQ(q:Qr):List SV:=[.v (.bool q.num.neg),slc 1 (q.num.w.map aX),.v (.bool q.den.neg),slc 1 (q.den.w.map aX)]
class EL {α:Type} (e:α->List SV) (n:outParam Nat):Prop where
 len:∀x,(e x).length=n
 one:∀x,tL (e x)
instance:EL aX 1:=⟨λ_=>rfl,λ_=>inferInstance⟩
instance:EL eZ 2:=⟨λ_=>rfl,λ_=>inferInstance⟩
structure En where
 acc:Int
 kd:Nat
 hour:Int
 jB:Zr
abbrev oI(x:En):List SV:=[.v (.int .i64 x.acc),.v (.int .u8 ((x.kd:Nat):Int)),.v (.int .i64 x.hour),.v (.bool x.jB.neg),slc 1 (x.jB.w.map aX)]
instance:EL oI 5:=⟨λ_=>rfl,λ_=>inferInstance⟩
structure Mv where
 acc:Int
 kd:Nat
 hour:Int
 KS:Qr
abbrev TR(E:TypeId)(sz:Nat){α:Type}(e:α->List SV)(l:List α):Row:=⟨E,sz,l.length,l.flatMap e⟩
theorem aB{α:Type}{n:Nat}{e:α->List SV}:SV.imp (.v (.slice none 0 0)) (slc n (([]:List α).map e)):=λ_ _ h=>.inl ⟨none,h,Y⟩
theorem mF{α:Type}(e:α->List SV)(l:List α):(l.map e).flatten=l.flatMap e:=by rw[List.flatMap_def]
theorem mG{α:Type}{e:α->List SV}{n:Nat}[h:EL e n](l:List α):Rows n (l.map e) (l.flatMap e):=⟨mF e l,λr hr=>by obtain⟨x,_,rfl⟩:=List.mem_map.1 hr;exact h.len x⟩
theorem vZ{M:Mem}:∀{l k:List SV} {vs:List Value},SV.da M (l++k) vs->∃us ws,vs=us++ws/\SV.da M l us/\SV.da M k ws
 |[],_,vs,h=>⟨[],vs,Y,aq,h⟩
 |_::_,_,[],h=>h.elim
 |_::l,_,v::vs,h=>by
  obtain⟨us,ws,rfl,h1,h2⟩:=vZ (l:=l) h.2;exact⟨v::us,ws,Y,⟨h.1,h1⟩,h2⟩
theorem jv{α:Type}{e:α->List SV}{n:Nat}[h:EL e n](l:List α):∀M vs,SV.da M (l.flatMap e) vs->∀v∈vs,v.oneCell'=true:=by
 intro M
 induction l with
 |nil=>intro vs hv;cases vs with|nil=>simp|cons _ _=>exact hv.elim
 |cons x l ih=>
  intro vs hv;rw[List.flatMap_cons]at hv;obtain⟨us,ws,rfl,h1,h2⟩:=vZ hv;intro v hv;rcases List.mem_append.1 hv with hv|hv
  ·exact(h.one x).h M us h1 v hv
  exact ih ws h2 v hv
theorem ux{α:Type}{e:α->List SV}{n:Nat}[h:EL e n]:∀{l:List α} {k:Nat} {a:α},l[k]? =some a->((l.flatMap e).drop (k*n)).take n=e a
 |[],_,_,hh=>by simp at hh
 |x::l,0,a,hh=>by
  simp only[List.getElem?_cons_zero,Option.some.injEq]at hh;subst hh;rw[List.flatMap_cons,Nat.zero_mul,List.drop_zero,<-h.len x,List.take_left'];rfl
 |x::l,k+1,a,hh=>by
  rw[List.getElem?_cons_succ]at hh;rw[List.flatMap_cons,show(k+1)*n=(e x).length+k*n by rw[h.len,Nat.add_mul];omega,<-List.drop_drop,List.drop_left']
  ·exact ux hh
  rfl
theorem yL{α:Type}{e:α->List SV}{n:Nat}[h:EL e n]{y:α}:∀{l:List α} {k:Nat},k<l.length->iu (l.flatMap e) (k*n) (e y)=(l.set k y).flatMap e:=by
 have UR:∀(u:List SV) (a b:List SV) (j:Nat),j+u.length<=a.length->iu (a++b) j u=iu a j u++b:=by
  intro u
  induction u with
  |nil=>intro a b j _;rfl
  |cons s u ih=>
   intro a b j hj;simp only[List.length_cons]at hj;simp only[iu];rw[List.set_append_left _ _ (by omega),ih _ _ _ (by rw[List.length_set];omega)]
 have US:∀(u:List SV) (a b:List SV) (j:Nat),iu (a++b) (a.length+j) u=a++iu b j u:=by
  intro u
  induction u with
  |nil=>intro a b j;rfl
  |cons s u ih=>
   intro a b j;simp only[iu];rw[List.set_append_right _ _ (by omega),show a.length+j-a.length=j by omega,show a.length+j+1=a.length+(j+1) by omega,ih]
 have UT:∀(u a:List SV),u.length=a.length->iu a 0 u=u:=by
  have gen:∀(u a p:List SV),u.length=a.length->iu (p++a) p.length u=p++u:=by
   intro u
   induction u with
   |nil=>intro a p ha;have:a=[]:=List.eq_nil_of_length_eq_zero ha.symm;subst this;rfl
   |cons s u ih=>
    intro a p ha;cases a with
    |nil=>cases ha
    |cons t a=>
     simp only[iu];rw[List.set_append_right _ _ (Nat.le_refl _),Nat.sub_self,List.set_cons_zero,show p++s::a=(p++[s])++a by simp,show p.length+1=(p++[s]).length by simp,ih a _ (by simpa using ha)];simp
  intro u a ha;exact gen u a [] ha
 intro l
 induction l with
 |nil=>intro k hk;simp at hk
 |cons x l ih=>
  intro k hk;cases k with
  |zero=>
   rw[List.set_cons_zero,List.flatMap_cons,List.flatMap_cons,Nat.zero_mul,UR _ _ _ _ (by rw[h.len,h.len];omega),UT _ _ (by rw[h.len,h.len])]
  |succ k=>
   simp only[List.length_cons]at hk;rw[List.set_cons_succ,List.flatMap_cons,List.flatMap_cons,show(k+1)*n=(e x).length+k*n by rw[h.len,Nat.add_mul];omega,US,ih (by omega)]
end
section
open Go.RowKit
section steps
variable {P:Program}{C:Ctx}{ops:Array Oper}{S:AS}{nd:Bool}{K:List Ac->AS->Prop}{rest:List Oper}{acc:List Ac}
variable {gd:Option (Nat×Bool)}{rg:List Nat}{d:Nat}{ty:TypeId}{pos:String}{aft:Array Edge}{x y z:Operand}{T U E0:TypeId}
variable {α:Type}{l l' k:List α}{e:α->List SV}{n by_:Nat}{zv:Value}
theorem RT.UU(hg:Gd ops S gd rg){s X:SV}(hx:S.ev x=.sv s)(hi:SV.imp s X)(hd:d<S.n)
  (next:RunT P C ops nd K rest (⟨rg++aW x,[],[],⟨some (d,.sv X),[],[]⟩⟩::acc) (S.set d (.sv X))):RunT P C ops nd K (⟨some d,.assign x,ty,pos,aft,gd⟩::rest) acc S:=
 RT.value hg (aW x) [] [] (.sv X) hd (by intro c h;cases h) (λS' ht _ _ E a w h=>by
  have hx':S'.ev x=.sv s:=by rw[bj (λ_ h=>h) ht,hx]
  exact⟨a.eval x,Y,by have:=h.ev x;rw[hx']at this;exact hi _ _ this,er⟩) next
theorem CL{E:Env}:∀{l l':List SV} {vs:List Value},dO l l'->SV.da E.M l vs->cj E (l'.map AV.sv) vs:=λhi h=>cj.o8 (hi.holds h)
theorem xp(M:Mem):∀l:List Value,SV.da M (l.map SV.v) l
 |[]=>trivial
 |_::l=>⟨Y,xp M l⟩
theorem RT.KT(hg:Gd ops S gd rg)[tz:iE P T zv]{cs:List SV}(hi:dO (zv.cells.toList.map SV.v) cs){av:List AV}(UW:cs.map AV.sv=av)(hd:d<S.n)(hb:S.b d=none)(hp:C.eT d=none)
  (next:RunT P C ops nd K rest (⟨rg++[],[d],[],⟨some (d,.ptr d 0),[(d,⟨T,av⟩)],[]⟩⟩::acc) ((S.gC d ⟨T,av⟩).set d (.ptr d 0))):RunT P C ops nd K (⟨some d,.alloc T,ty,pos,aft,gd⟩::rest) acc S:=by
 subst UW;exact RT.BE hg (by intro c h;cases h) [] hd hb hp (λS' _ E a w h=>⟨zv.cells.toList,by simp[execOp,Instr.alloc,newVar,newRow,tz.run],CL hi (xp _ _),λy hy=>by
  obtain⟨s,_,rfl⟩:=List.mem_map.1 hy;exact er⟩) next
theorem RT.KU(hg:Gd ops S gd rg){pl:List (Nat×Nat)}{zc:List Value}[tP:gp P T pl zc]{parts:Array (Nat×Operand)}{qs:List (Nat×List SV)}(hp:ji S parts.toList qs){cs cs':List SV}(hf:oe (λi=>pl[i]?) (zc.map SV.v) qs=some cs)(hi:dO cs cs')(hd:d<S.n)
  (next:RunT P C ops nd K rest (⟨rg++gZ parts.toList,[],[],⟨some (d,.sv (.agg cs')),[],[]⟩⟩::acc) (S.set d (.sv (.agg cs')))):RunT P C ops nd K (⟨some d,.build T parts,ty,pos,aft,gd⟩::rest) acc S:=by
 refine RT.value hg (gZ parts.toList) [] [] (.sv (.agg cs')) hd (by intro c h;cases h) (λS' ht _ _ E a w h=>?_) next
 have hu:=tP.h;cases hT:P.underlying T with
 |none=>rw[hT]at hu;cases hu
 |some u=>
  rw[hT]at hu;cases u with
  |struct fs=>
   simp only at hu;have hz:(zeroValue T).run P w=.ok (.agg ⟨zc⟩) w:=iE.run (t:=⟨tP.hz⟩) w;obtain⟨us,h1,h2,_⟩:=ua h (λi=>pl[i]?) hp ht (cells:=zc.map SV.v) (vs:=zc) (xp _ zc) (List.all_eq_true.1 tP.o) hf;refine⟨.agg ⟨us⟩,?_,⟨us,Y,hi.holds h2⟩,er⟩;have hm:(fs.mapM (λf=>do pure (f.offset,<-sizeOf f.type):Field->Sem (Nat×Nat))).run P w=.ok pl.toArray w:=by
    have:=mD (P:=P) (w:=w) hu;rw[<-Array.toArray_toList (xs:=fs),List.mapM_toArray];rw[Sem.run_map,this];rfl
   have h1':Instr.fill (λi=>pl.toArray[i]?) ⟨zc⟩ (parts.toList.map λp=>(p.1,a.eval p.2))=some ⟨us⟩:=by simpa using h1
   simp only[execOp,Instr.build,underlying];simp only[Sem.run_bind,hz,Result.andThen_ok,run_program,hT,Sem.run_pure,Value.cells];have hm':(Array.mapM (λf=>do
     let __do_lift<-sizeOf f.type
     pure (f.offset,__do_lift)) fs:Sem _).run P w=.ok pl.toArray w:=hm
   simp only[hm',Result.andThen_ok];have e4:(Array.map (λx=>match x with|(i,x)=>(i,a.eval x)) parts).toList=parts.toList.map λp=>(p.1,a.eval p.2):=by simp
   simp only[e4,h1',Sem.run_pure,Result.andThen_ok]
  |_=>cases hu
theorem Pure.w{f:FuncId}{args args':List SV}{r:SV}(h:Pure P f args r)(hi:dO args' args):Pure P f args' r:=λM w vs hM hv=>h M w vs hM (hi.holds hv)
theorem RT.NL(hg:Gd ops S gd rg){m:Nat}[tS:dQ P T E0 m]{c:Int}(hx:S.ev x=.sv (slc n (l.map e)))(hd:d<S.n)(hc:(l.length:Int)=c)
  (next:RunT P C ops nd K rest (⟨rg++aW x,[],[],⟨some (d,.sv (.v (.int .i64 c))),[],[]⟩⟩::acc) (S.set d (.sv (.v (.int .i64 c))))):RunT P C ops nd K (⟨some d,.call ⟨.builtin .len,#[x],#[T]⟩,ty,pos,aft,gd⟩::rest) acc S:=
 RT.len hg hx hd (by rw[List.length_map,hc];exact next)
theorem RT.NM(hg:Gd ops S gd rg){m:Nat}[tS:dQ P T E0 m]{i:Nat}{E1:TypeId}{c:Int}(hx:S.ev x=.row i)(hR:S.r i=.live (TR E1 n e l))(hd:d<S.n)(hc:(l.length:Int)=c)
  (next:RunT P C ops nd K rest (⟨rg++aW x,[],[i],⟨some (d,.sv (.v (.int .i64 c))),[],[]⟩⟩::acc) (S.set d (.sv (.v (.int .i64 c))))):RunT P C ops nd K (⟨some d,.call ⟨.builtin .len,#[x],#[T]⟩,ty,pos,aft,gd⟩::rest) acc S:=
 RT.Ug hg hx hR hd (by show RunT _ _ _ _ _ _ (⟨_,_,_,⟨some (d,.sv (.v (.int .i64 (l.length:Int)))),_,_⟩⟩::_) (S.set d (.sv (.v (.int .i64 (l.length:Int)))));rw[hc];exact next)
theorem RT.NN(hg:Gd ops S gd rg)[tS:dQ P T E0 n]{kk:IntKind}{i:Int}{a:α}(hx:S.ev x=.sv (slc n (l.map e)))(hy:S.ev y=.sv (.v (.int kk i)))(hd:d<S.n)(ha:ek l i=some a)
  (next:RunT P C ops nd K rest (⟨rg++(aW x++aW y),[],[],⟨some (d,.sv (ref (e a))),[],[]⟩⟩::acc) (S.set d (.sv (ref (e a))))):RunT P C ops nd K (⟨some d,.indexAddr T x y,ty,pos,aft,gd⟩::rest) acc S:=
 RT.indexAddr hg (e a) hx hy hd (kU ha).1 (by rw[List.getElem?_map,(kU ha).2];rfl) next
theorem RT.D5(hg:Gd ops S gd rg)[tS:dQ P T E0 n]{lo hi:Option Operand}(a b:Int)(hx:S.ev x=.sv (slc n (l.map e)))(hlo:uc S 0 lo a)(hhi:uc S l.length hi b)(hd:d<S.n)(h:xl l a b=some l')
  (next:RunT P C ops nd K rest (⟨rg++(aW x++(jk lo++jk hi)),[],[],⟨some (d,.sv (slc n (l'.map e))),[],[]⟩⟩::acc) (S.set d (.sv (slc n (l'.map e))))):RunT P C ops nd K (⟨some d,.slice T x lo hi none,ty,pos,aft,gd⟩::rest) acc S:=by
 obtain⟨h0,h1,h2,h3⟩:=vY h;exact RT.slice hg hx a b hlo (by rw[List.length_map];exact hhi) hd h0 h1 (by rw[List.length_map];exact h2) _ (by rw[BI,h3]) next
theorem RT.GJ(hg:Gd ops S gd rg)[tS:dQ P T E0 n][tE:gU P E0 n by_ zv]{len:Nat}{parts:Array (Nat×Operand)}{qs:List (Nat×List SV)}(hp:ji S parts.toList qs)(hd:d<S.n)
  (hc:kE 0 qs=true) (hl:qs.length=len) (hsz:(qs.all λq=>Nat.beq q.2.length n)=true) (hlen:Nat.ble (len*n) 16777216=true) (CF:(zv.cells.toList.all λv=>v.oneCell')=true) (gP:qs.map (·.2)=l.map e)
  (next:RunT P C ops nd K rest (⟨rg++gZ parts.toList,[],[],⟨some (d,.sv (slc n (l.map e))),[],[]⟩⟩::acc) (S.set d (.sv (slc n (l.map e))))):RunT P C ops nd K (⟨some d,.buildSlice T len parts,ty,pos,aft,gd⟩::rest) acc S:=
 RT.buildSlice hg hp hd hc hl hsz (af hlen) (List.all_eq_true.1 CF) gP next
theorem RT.GK(hg:Gd ops S gd rg)[tS:dQ P T E0 n][tE:gU P E0 n by_ zv]{len:Nat}{parts:Array (Nat×Operand)}{qs:List (Nat×List SV)}(hp:ji S parts.toList qs)(hd:d<S.n)(qJ:S.r d=.un)(o7:d<1000)
  (hc:kE 0 qs=true) (hl:qs.length=len) (hsz:(qs.all λq=>Nat.beq q.2.length n)=true) (hlen:Nat.ble (len*n) 16777216=true) (CF:(zv.cells.toList.all λv=>v.oneCell')=true) (gP:qs.map (·.2)=l.map e)
  (next:RunT P C ops nd K rest (⟨rg++gZ parts.toList,[],[d],⟨some (d,.row d),[],[(d,.live (TR E0 n e l))]⟩⟩::acc) ((AS.bC [(d,.live (TR E0 n e l))] S).set d (.row d))):RunT P C ops nd K (⟨some d,.buildSlice T len parts,ty,pos,aft,gd⟩::rest) acc S:=by
 refine RT.yG hg hp hd qJ o7 hc hl hsz (af hlen) (List.all_eq_true.1 CF) (cells:=l.flatMap e) (by rw[gP,mF]) ?_;have:len=l.length:=by have h0:=congrArg List.length gP;simpa[hl]using h0
 rw[this];exact next
theorem RT.ZP(hg:Gd ops S gd rg)[tS:dQ P T E0 n][tE:gU P E0 n by_ zv]{i:Nat}(hx:S.ev x=.row i)(hR:S.r i=.live (TR E0 n e l))(hy:S.ev y=.sv (slc n (k.map e)))(hd:d<S.n)(qJ:S.r d=.un)(o7:d<1000)(h:xm by_ l k=some l')
  (next:RunT P C ops nd K rest (⟨rg++(aW x++aW y),[],[i,d],⟨some (d,.row d),[],[(i,.dead),(d,.live (TR E0 n e l'))]⟩⟩::acc) ((AS.bC [(i,.dead),(d,.live (TR E0 n e l'))] S).set d (.row d))):RunT P C ops nd K (⟨some d,.call ⟨.builtin .append,#[x,y],#[T,T]⟩,ty,pos,aft,gd⟩::rest) acc S:=by
 obtain⟨h1,h2,rfl⟩:=pH h;exact RT.Gv hg hx hR hy hd qJ o7 (by simpa using h1) (by simpa using h2) _ (by simp[mF]) next
theorem RT.UX(hg:Gd ops S gd rg)[tS:dQ P T E0 n][tE:gU P E0 n by_ zv][el:EL e n]{i:Nat}(hx:S.ev x=.row i)(hR:S.r i=.live (TR E0 n e l))(hy:S.ev y=.sv (slc n (k.map e)))(hd:d<S.n)(qJ:S.r d=.un)(o7:d<1000)(h:xm by_ l k=some l')
  (next:RunT P C ops nd K rest (⟨rg++(aW x++aW y),[],[d,i],⟨some (d,.sv (slc n (l'.map e))),[],[(i,.dead),(d,.dead)]⟩⟩::acc) ((AS.bC [(i,.dead),(d,.dead)] S).set d (.sv (slc n (l'.map e))))):RunT P C ops nd K (⟨some d,.call ⟨.builtin .append,#[x,y],#[T,T]⟩,ty,pos,aft,gd⟩::rest) acc S:=by
 obtain⟨h1,h2,rfl⟩:=pH h;have hf:l.flatMap e++(k.map e).flatten=(l++k).flatMap e:=by simp[mF]
 exact RT.BO hg (.row hx hR) hy hd qJ o7 (by simpa using h1) (by simpa using h2) _ (rows':=(l++k).map e) (λ_ _ h _=>h) (by rw[hf];exact mG _) (by simp) (by rw[hf];exact jv _) next
theorem v5(zc:Array Value)(n:Nat)(hz:zc.size=n)(hn:0<n):∀m:Nat,(madeCells zc (m*n)).toList=(List.replicate m zc.toList).flatten
 |0=>by simp[madeCells]
 |m+1=>by
  have ih:=v5 zc n hz hn m;rw[List.replicate_succ',List.flatten_append,<-ih];simp only[madeCells,Array.toList_map,Array.toList_range,List.flatten_cons,List.flatten_nil,List.append_nil];rw[show(m+1)*n=m*n+n by rw[Nat.add_mul];omega,List.range_add,List.map_append,List.map_map];congr 1;apply List.ext_getElem?;intro i;rw[List.getElem?_map];rcases Nat.lt_or_ge i n with hi|hi
  ·rw[List.getElem?_range hi];simp only[Option.map_some,Function.comp];rw[hz,Nat.mul_comm m n,Nat.mul_add_mod,Nat.mod_eq_of_lt hi];rw[getElem!_pos zc i (by omega),Array.getElem?_toList,Array.getElem?_eq_getElem (by omega)]
  rw[List.getElem?_eq_none (by simpa using hi),List.getElem?_eq_none (by simp;omega)];rfl
theorem yM:∀{a b c d:List SV},dO a c->dO b d->dO (a++b) (c++d)
 |[],_,[],_,_,h=>h
 |_::_,_,_::_,_,h,h'=>⟨h.1,yM h.2 h'⟩
 |[],_,_::_,_,h,_=>h.elim
 |_::_,_,[],_,h,_=>h.elim
theorem yN{zl:List Value}{zz:α}(hi:dO (zl.map SV.v) (e zz)):∀m:Nat,dO ((List.replicate m zl).flatten.map SV.v) ((List.replicate m zz).flatMap e)
 |0=>trivial
 |m+1=>by
  rw[List.replicate_succ,List.replicate_succ,List.flatten_cons,List.map_append,List.flatMap_cons];exact yM hi (yN hi m)
theorem RT.yO(hg:Gd ops S gd rg)[tS:dQ P T E0 n][tE:gU P E0 n by_ zv]{kl kc:IntKind}{c:Int}{zz:α}(hx:S.ev x=.sv (.v (.int kl c)))(hy:S.ev y=.sv (.v (.int kc c)))(hd:d<S.n)(qJ:S.r d=.un)(o7:d<1000)(hz:zv.cells.size=n)(hn:0<n)(hi:dO (zv.cells.toList.map SV.v) (e zz))(hm:F8 by_ c zz=some l')
  (next:RunT P C ops nd K rest (⟨rg++(aW x++aW y),[],[d],⟨some (d,.row d),[],[(d,.live (TR E0 n e l'))]⟩⟩::acc) ((AS.bC [(d,.live (TR E0 n e l'))] S).set d (.row d))):RunT P C ops nd K (⟨some d,.makeSlice T x y,ty,pos,aft,gd⟩::rest) acc S:=by
 obtain⟨h0,hroom,mA,rfl⟩:=D2 hm;refine .inl ⟨_,[],[d],_,?_,next⟩;rintro S' hn' ht _ hr i a w L Q ho ⟨E,h⟩ hL;refine bV (C:=C) ho (hg.wanted h (λs hs=>ht s (List.mem_append_left _ hs)) Y) ?_;have h1:a.eval x=.int kl c:=by have h1:=h.ev x;rw[bj (λ_ h=>List.mem_append_right _ (List.mem_append_left _ h)) ht,hx]at h1;exact h1
 have h2:a.eval y=.int kc c:=by have h2:=h.ev y;rw[bj (λ_ h=>List.mem_append_right _ (List.mem_append_right _ h)) ht,hy]at h2;exact h2
 obtain⟨info,ZQ,hsz,hby,Ul⟩:=gU.info (P:=P) (E:=E0) (n:=n) (by_:=by_) (z:=zv);obtain⟨m,rfl⟩:=Int.eq_ofNat_of_zero_le h0;have hb':info.bytes*m<=281474976710656:=by
  rw[hby];have:((by_*m:Nat):Int)<=281474976710656:=by rw[Int.natCast_mul];exact hroom
  omega
 obtain⟨w',q1,q2,q3⟩:=run_make_full (P:=P) w 0 T E0 info zv n tS.u ZQ Ul hsz kl kc m hb' (by unfold maxLen;omega) (Nat.zero_le _);have hr':(execOp a.eval ⟨some d,.makeSlice T x y,ty,pos,aft,gd⟩).run P w=.ok (.value (.slice (some ⟨w.heap.size,0,none⟩) m m)) w':=by
  simp only[execOp,h1,h2];simp[q1]
 have CE:S'.r d=.un:=by rw[hr d (by simp)];exact qJ
 have e0:(m:Int).toNat=m:=by simp
 have hall:SV.da E.M ((List.replicate m zz).flatMap e) (madeCells zv.cells (m*n)).toList:=by
  rw[v5 zv.cells n hz hn];exact dO.holds (l:=((List.replicate m zv.cells.toList).flatten.map SV.v)) (yN hi m) (xp _ _)
 have hlen:(List.replicate (m:Int).toNat zz).length=m:=by simp
 refine bW (C:=C) (by intro c h;cases h) hr' (hL _ _ ⟨_,(h.newRow CE o7 [] none (.inl ⟨rfl,rfl⟩) (R':=TR E0 n e (List.replicate (m:Int).toNat zz)) (by show w'.ownsRow 0 E0 n _ (List.replicate (m:Int).toNat zz).length _;rw[hlen];exact q2) (by rw[e0];exact hall) (.inr (.inl rfl)) q3).put (d:=d) (x:=.row d) (v:=.slice (some ⟨w.heap.size,0,none⟩) m m) (by simp[AV.holds]) (by show d<S'.n;omega) ⟨λ_ e=>e.elim,λj e=>?_⟩⟩);cases e;show(AS.kR S' d _).r d≠_;rw[AS.eM];simp
theorem RT.BQ(hg:Gd ops S gd rg)[tS:dQ P T E0 n][tE:gU P E0 n by_ zv]{kl kc:IntKind}{c:Int}(hx:S.ev x=.sv (.v (.int kl 0)))(hy:S.ev y=.sv (.v (.int kc c)))(hd:d<S.n)(qJ:S.r d=.un)(o7:d<1000)(h:GH (α:=α) by_ c=some l')
  (next:RunT P C ops nd K rest (⟨rg++(aW x++aW y),[],[d],⟨some (d,.row d),[],[(d,.live (TR E0 n e l'))]⟩⟩::acc) ((AS.bC [(d,.live (TR E0 n e l'))] S).set d (.row d))):RunT P C ops nd K (⟨some d,.makeSlice T x y,ty,pos,aft,gd⟩::rest) acc S:=by
 obtain⟨h0,h1,h2,rfl⟩:=D3 h;exact RT.Nh hg hx hy hd qJ o7 h0 h1 h2 next
theorem RT.UY(hg:Gd ops S gd rg)[tS:dQ P T E0 n]{i j:Nat}{E1:TypeId}{kk:IntKind}{v:Int}(hx:S.ev x=.row i)(hR:S.r i=.live (TR E1 n e l))(hy:S.ev y=.sv (.v (.int kk v)))(hd:d<S.n)(h:qN l v=some j)
  (next:RunT P C ops nd K rest (⟨rg++(aW x++aW y),[],[i],⟨some (d,.eR i (j*n)),[],[]⟩⟩::acc) (S.set d (.eR i (j*n)))):RunT P C ops nd K (⟨some d,.indexAddr T x y,ty,pos,aft,gd⟩::rest) acc S:=by
 obtain⟨h0,h1,h2⟩:=D1 h;exact RT.YA hg (.row hx hR) hy hd h0 h1 (j*n) (by rw[h2];omega) next
theorem RT.NO(hg:Gd ops S gd rg)[tV:nF P T][el:EL e 1]{i j:Nat}{E1:TypeId}{a:α}{s:SV}(hx:S.ev x=.eR i (j*1))(hR:S.r i=.live (TR E1 1 e l))(ha:l[j]? =some a)(hs:e a=[s])(hd:d<S.n)
  (next:RunT P C ops nd K rest (⟨rg++aW x,[],[i],⟨some (d,.sv s),[],[]⟩⟩::acc) (S.set d (.sv s))):RunT P C ops nd K (⟨some d,.load T x,ty,pos,aft,gd⟩::rest) acc S:=by
 refine RT.ZH hg hx hR (s:=s) ?_ hd next
 have:=ux (e:=e) ha;rw[hs]at this;have h2:=congrArg (·[0]?) this;simpa[List.getElem?_take]using h2
theorem RT.NP(hg:Gd ops S gd rg)[tA:rK P T n][el:EL e n]{i j:Nat}{E1:TypeId}{a:α}(hx:S.ev x=.eR i (j*n))(hR:S.r i=.live (TR E1 n e l))(ha:l[j]? =some a)(hd:d<S.n)
  (next:RunT P C ops nd K rest (⟨rg++aW x,[],[i],⟨some (d,.sv (.agg (e a))),[],[]⟩⟩::acc) (S.set d (.sv (.agg (e a))))):RunT P C ops nd K (⟨some d,.load T x,ty,pos,aft,gd⟩::rest) acc S:=
 RT.Up hg hx hR (ux ha) (el.len a) hd next
theorem GL(a:List SV)(k:Nat)(s:SV):a.set k s=iu a k [s]:=rfl
theorem RT.UZ(hg:Gd ops S gd rg)[tV:nF P T][el:EL e 1]{i j:Nat}{E1:TypeId}{s:SV}[o1:One s](a:α)(hs:e a=[s])(hx:S.ev x=.eR i (j*1))(hR:S.r i=.live (TR E1 1 e l))(hy:S.ev y=.sv s)(h:stM l j a=some l')
  (next:RunT P C ops nd K rest (⟨rg++(aW x++aW y),[],[i],⟨none,[],[(i,.live (TR E1 1 e l'))]⟩⟩::acc) (AS.bC [(i,.live (TR E1 1 e l'))] S)):RunT P C ops nd K (⟨none,.store T x y,ty,pos,aft,gd⟩::rest) acc S:=by
 obtain⟨h1,rfl⟩:=yK h;refine RT.ZK hg hx hR hy (by show j*1+1<=l.length*1;omega) ((l.set j a).flatMap e) (by rw[GL,<-hs];exact yL h1) ?_;have:(TR E1 1 e (l.set j a))=⟨E1,1,l.length,(l.set j a).flatMap e⟩:=by show Row.mk _ _ _ _=_;rw[List.length_set]
 rw[<-this];exact next
theorem RT.NQ(hg:Gd ops S gd rg)[tA:rK P T n][el:EL e n]{i j:Nat}{E1:TypeId}(a:α)(hx:S.ev x=.eR i (j*n))(hR:S.r i=.live (TR E1 n e l))(hy:S.ev y=.sv (.agg (e a)))(h:stM l j a=some l')
  (next:RunT P C ops nd K rest (⟨rg++(aW x++aW y),[],[i],⟨none,[],[(i,.live (TR E1 n e l'))]⟩⟩::acc) (AS.bC [(i,.live (TR E1 n e l'))] S)):RunT P C ops nd K (⟨none,.store T x y,ty,pos,aft,gd⟩::rest) acc S:=by
 obtain⟨h1,rfl⟩:=yK h;have o1:=el.one a;refine RT.Uq hg hx hR hy (el.len a) (by show j*n+n<=l.length*n;have:=Nat.mul_le_mul_right n h1;rw[Nat.succ_mul]at this;exact this) ((l.set j a).flatMap e) (yL h1) ?_;have:(TR E1 n e (l.set j a))=⟨E1,n,l.length,(l.set j a).flatMap e⟩:=by show Row.mk _ _ _ _=_;rw[List.length_set]
 rw[<-this];exact next
end steps
theorem v7{S:AS}{i n:Nat}{E1:TypeId}{α:Type}{e:α->List SV}{l:List α}[el:EL e n](hR:S.r i=.live (TR E1 n e l)):my S (S.jh i (slc n (l.map e))):=by
 rintro C a w ⟨E,h⟩;have hlen:l.length<=9223372036854775807:=by
  obtain⟨⟨vs,ho,hv⟩,_⟩:=h.rx i _ hR;rcases ho.2 with⟨_,q2⟩|⟨g',cap,cur,q1,_,q2,q3,q4,q5,q6⟩
  ·have q2:l.length=0:=q2;omega
  have q3:l.length<=cap:=q3;have:maxLen=9223372036854775807:=by decide
  omega
 exact h.jh hR (mG l) (by rw[List.length_map]) hlen (jv l) (λ_ _ h _=>h)
section control
variable {P:Program}{C:Ctx}{S:AS}{Q:Exit->AS->Prop}
theorem bF{A:Code}{J R:Type}{kB:J->Option R}{fA:(J->Option R)->Option R}{r:R}(h:cW kB fA=some r)(I:J->AS)
  (hA:fA kB=some r->Ok P C A S (aV (λS'=>∃j,kB j=some r/\my S' (I j)) Q)) (hQ:∀j,kB j=some r->Q .normal (I j)):Ok P C A S Q:=λa w hs=>by
 refine wpIn_mono (hA h a w hs) ?_;rintro e a' w' ⟨S',q,hh⟩;cases e with
 |normal=>obtain⟨j,h1,h2⟩:=q;exact⟨_,hQ j h1,h2 C a' w' hh⟩
 |_=>exact⟨S',q,hh⟩
theorem cE{A:Code}{X:Type}(I:X->AS)(p:X->Prop)(hA:Ok P C A S (aV (λS'=>∃j,p j/\my S' (I j)) Q))(hQ:∀j,p j->Q .normal (I j)):Ok P C A S Q:=λa w hs=>by
 refine wpIn_mono (hA a w hs) ?_;rintro e a' w' ⟨S',q,hh⟩;cases e with
 |normal=>obtain⟨j,h1,h2⟩:=q;exact⟨_,hQ j h1,h2 C a' w' hh⟩
 |_=>exact⟨S',q,hh⟩
theorem cG{c:Code}{T E:Type}{body:T->Option (T⊕E)}{s0:T}{e:E}(h:c5 body s0=some e)(I:T->AS)(h0:my S (I s0))
  (round:∀(s:T) (y:T⊕E) (G:T->Prop),body s=some y->(∀s',y=.inl s'->G s')->(∀e',y=.inr e'->e'=e)->Ok P C c (I s) (aV (λS'=>∃s',G s'/\my S' (I s')) Q)):Ok P C (.loop c) S Q:=by
 obtain⟨n,hn⟩:=oG h;refine BD (ι:={x:T×Nat//jl body x.2 x.1=some e}) (λx=>I x.1.1) (λx=>x.1.2) ⟨(s0,n),hn⟩ h0 ?_;rintro⟨⟨s,m⟩,hm⟩;cases m with
 |zero=>cases hm
 |succ m=>
  cases hb:body s with
  |none=>simp only[jl,hb]at hm;cases hm
  |some y=>
   refine w7 (round s y (λs'=>jl body m s'=some e) hb ?_ ?_) ?_
   ·rintro s' rfl;simpa only[jl,hb]using hm
   ·rintro e' rfl;simp only[jl,hb]at hm;exact Option.some.inj hm
   intro ex S' q;cases ex with
   |normal=>obtain⟨s',h1,h2⟩:=q;exact⟨⟨(s',m),h1⟩,Nat.lt_succ_self m,h2⟩
   |_=>exact q
end control
end
section
open Go.RowKit
abbrev KV:=List UInt8
def bs(l:KV):ByteArray:=⟨⟨l⟩⟩
def oh(l:KV)(i:Int):Option Nat:=(ek l i).map UInt8.toNat
theorem GM(l:KV):(bs l).size=l.length:=rfl
theorem KW(l:KV)(i:Nat):(bs l)[i]? =l[i]? :=by
 rcases Nat.lt_or_ge i l.length with h|h
 ·rw[getElem?_pos (bs l) i h,List.getElem?_eq_getElem h];rfl
 rw[getElem?_neg (bs l) i (by rw[GM];omega),List.getElem?_eq_none h]
section steps
variable {P:Program}{C:Ctx}{ops:Array Oper}{S:AS}{nd:Bool}{K:List Ac->AS->Prop}{rest:List Oper}{acc:List Ac}
variable {gd:Option (Nat×Bool)}{rg:List Nat}{d:Nat}{ty:TypeId}{pos:String}{aft:Array Edge}{x y z:Operand}{T U E0:TypeId}
variable {l l' k:KV}
theorem RT.ZR{op:Op}{j g:Nat}{b want:Bool}(h1:(ops[j]?).bind (·.dst)=some g)(h2:S.t g=.sv (.v (.bool b)))(hb:b≠want)(hd:d<S.n)
  (next:RunT P C ops nd K rest (⟨[g],[],[],⟨some (d,.sv (.v undef)),[],[]⟩⟩::acc) (S.set d (.sv (.v undef)))):RunT P C ops nd K (⟨some d,op,ty,pos,aft,some (j,want)⟩::rest) acc S:=by
 refine .inl ⟨[g],[],[],⟨some (d,.sv (.v undef)),[],[]⟩,?_,next⟩;rintro S' hn ht _ _ i a w L Q ho ⟨E,h⟩ hL;have hv:=h.tm g;rw[ht g (by simp),h2]at hv;have hv:a.tmps.getD g undef=.bool b:=hv;have yo:a.tmps[g]? =some (.bool b):=by
  rw[Array.getD_eq_getD_getElem?]at hv;cases e:a.tmps[g]? with
  |none=>rw[e]at hv;simp[undef]at hv
  |some x=>rw[e]at hv;simp at hv;rw[hv]
 have hw:Region.wanted ⟨some d,op,ty,pos,aft,some (j,want)⟩ (yielded ops a.tmps)=false:=by
  simp[Region.wanted,yielded,h1,yo,hb]
 simp only[wpOpIn,ho,hw];exact⟨λ_ _=>trivial,hL _ _ ⟨E,h.put (x:=.sv (.v undef)) (v:=undef) Y (by omega) ⟨λ_ h=>h.elim,λ_ h=>h.elim⟩⟩⟩
theorem RT.NR{op:Op}{j g:Nat}{want:Bool}(h1:(ops[j]?).bind (·.dst)=some g)(h2:S.t g=.sv (.v undef))(hd:d<S.n)
  (next:RunT P C ops nd K rest (⟨[g],[],[],⟨some (d,.sv (.v undef)),[],[]⟩⟩::acc) (S.set d (.sv (.v undef)))):RunT P C ops nd K (⟨some d,op,ty,pos,aft,some (j,want)⟩::rest) acc S:=by
 refine .inl ⟨[g],[],[],⟨some (d,.sv (.v undef)),[],[]⟩,?_,next⟩;rintro S' hn ht _ _ i a w L Q ho ⟨E,h⟩ hL;have hv:=h.tm g;rw[ht g (by simp),h2]at hv;have hv:a.tmps.getD g undef=undef:=hv;rw[Array.getD_eq_getD_getElem?]at hv;have hw:Region.wanted ⟨some d,op,ty,pos,aft,some (j,want)⟩ (yielded ops a.tmps)=false:=by
  cases e:a.tmps[g]? with
  |none=>simp[Region.wanted,yielded,h1,e]
  |some x=>
   rw[e]at hv;simp only[Option.getD_some]at hv;subst hv;simp[Region.wanted,yielded,h1,e,undef]
 simp only[wpOpIn,ho,hw];exact⟨λ_ _=>trivial,hL _ _ ⟨E,h.put (x:=.sv (.v undef)) (v:=undef) Y (by omega) ⟨λ_ h=>h.elim,λ_ h=>h.elim⟩⟩⟩
theorem RT.ZS(hg:Gd ops S gd rg)[tS:Ij P T]{kk:IntKind}{i:Int}{c:Nat}(hx:S.ev x=.sv (.v (.string (bs l))))(hy:S.ev y=.sv (.v (.int kk i)))(hd:d<S.n)(h:oh l i=some c)
  (next:RunT P C ops nd K rest (⟨rg++(aW x++aW y),[],[],⟨some (d,.sv (.v (.int .u8 (c:Nat)))),[],[]⟩⟩::acc) (S.set d (.sv (.v (.int .u8 (c:Nat)))))):RunT P C ops nd K (⟨some d,.index T x y,ty,pos,aft,gd⟩::rest) acc S:=
 RT.Au hg (by intro c h;cases h) hx hy hd (λρ w h1 h2=>by
  unfold oh at h;cases hh:ek l i with
  |none=>rw[hh]at h;cases h
  |some b=>
   rw[hh]at h;obtain⟨q1,q2⟩:=kU hh;have q3:b.toNat=c:=Option.some.inj h;have q4:(bs l)[i.toNat]? =some b:=by rw[KW];exact q2
   simp[execOp,h1,h2,Instr.index,asIntOf,underlying,tS.h,q1,q4,q3]) next
end steps
section rows
variable {P:Program}{C:Ctx}{ops:Array Oper}{S:AS}{nd:Bool}{K:List Ac->AS->Prop}{rest:List Oper}{acc:List Ac}
variable {gd:Option (Nat×Bool)}{rg:List Nat}{d:Nat}{ty:TypeId}{pos:String}{aft:Array Edge}{x y z:Operand}{T U E0:TypeId}
variable {α:Type}{l l' k:List α}{e:α->List SV}{n by_:Nat}{zv:Value}
end rows
end
section
open Go.RowKit
def om{α:Type}(l l':List α):Option Unit:=if l'.length=l.length then some ()else none
theorem iG{α:Type}{l l':List α}{u:Unit}(h:om l l'=some u):l'.length=l.length:=by
 unfold om at h;split at h
 ·assumption
 cases h
def KX{α:Type}(l:List α)(lo hi:Int):Option (Nat×Nat):=if 0<=lo/\lo<l.length/\lo<=hi/\hi<=l.length then some (lo.toNat,(hi-lo).toNat)else none
theorem D6{α:Type}{l:List α}{lo hi:Int}{o n:Nat}(h:KX l lo hi=some (o,n)):0<=lo/\lo<l.length/\lo<=hi/\hi<=l.length/\lo.toNat=o/\(hi-lo).toNat=n:=by
 unfold KX at h;split at h
 ·rename_i hh;obtain⟨q1,q2⟩:=Prod.mk.inj (Option.some.inj h);exact⟨hh.1,hh.2.1,hh.2.2.1,hh.2.2.2,q1,q2⟩
 cases h
def F9(o n:Nat)(i:Int):Option Nat:=if 0<=i/\i<n then some (o+i.toNat)else none
theorem D7{o n j:Nat}{i:Int}(h:F9 o n i=some j):0<=i/\i<n/\o+i.toNat=j:=by
 unfold F9 at h;split at h
 ·rename_i hh;exact⟨hh.1,hh.2,Option.some.inj h⟩
 cases h
theorem GN{α:Type}{e:α->List SV}{l:List α}{n:Nat}{M:Mem}{v:Value}(h:(slc n (l.map e)).h M v):l.length<=9223372036854775807:=by
 rcases h with⟨_,_,h⟩|⟨b,o,c,_,_,h,_⟩
 ·have:l=[]:=by simpa using h
  subst this;simp
 rwa[List.length_map]at h
theorem BR{α:Type}{e:α->List SV}{l:List α}{n:Nat}{M:Mem}{v:Value}(h:(ref [slc n (l.map e)]).h M v):l.length<=9223372036854775807:=by
 obtain⟨b,o,_,h⟩:=h;obtain⟨y,_,_,h⟩:=h 0 _ Y;exact GN h
theorem oJ{l:List Nat}{i:Nat}(h:l.length<=i):l.getD i 0=0:=by simp[List.getD,List.getElem?_eq_none h]
theorem mH{l:List Nat}{i:Nat}(h:i<l.length):l[i]? =some (l.getD i 0):=by simp[List.getD,h]
theorem AO{α β:Type}(a:List α)(b:List β)(i:Nat)(h:i<=max a.length b.length):(i<max a.length b.length/\i<a.length/\i<b.length)\/(i<max a.length b.length/\i<a.length/\b.length<=i)\/(i<max a.length b.length/\a.length<=i/\i<b.length)\/i=max a.length b.length:=by omega
section steps
variable {P:Program}{C:Ctx}{ops:Array Oper}{S:AS}{nd:Bool}{K:List Ac->AS->Prop}{rest:List Oper}{acc:List Ac}
variable {gd:Option (Nat×Bool)}{rg:List Nat}{d:Nat}{ty:TypeId}{pos:String}{aft:Array Edge}{x y z:Operand}{T U E0:TypeId}
variable {α:Type}{l l' k:List α}{e:α->List SV}{n by_:Nat}{zv:Value}
theorem KY{E1:TypeId}(h:l'.length=l.length):(⟨E1,n,l.length,l'.flatMap e⟩:Row)=TR E1 n e l':=by show _=Row.mk _ _ _ _;rw[h]
theorem RT.KZ(hg:Gd ops S gd rg){f:FuncId}[eC P f]{g:Operand}{xs:Array Operand}{at_:Array TypeId}{args:List AV}{E1:TypeId}{res:AV}(hp:AI P f args (TR E1 n e l) res (l'.flatMap e))(hlen:l'.length=l.length)(i:Nat)(hR:S.r i=.live (TR E1 n e l))(hrow:args.all AV.qK=true)(hres:res.qK=true)
  (hf:S.ev g=.sv (.v (.func (.func f) #[] #[]))) (hargs:oE S xs.toList (args.map (AV.rQ i))) (hd:d<S.n)
  (next:RunT P C ops nd K rest (⟨rg++(aW g++xs.toList.flatMap aW),[],[i],⟨some (d,res.rQ i),[],[(i,.live (TR E1 n e l'))]⟩⟩::acc) ((AS.bC [(i,.live (TR E1 n e l'))] S).set d (res.rQ i))):RunT P C ops nd K (⟨some d,.call ⟨.value g,xs,at_⟩,ty,pos,aft,gd⟩::rest) acc S:=
 RT.Nr hg hp i hR hrow hres hf hargs hd (by rw[KY hlen];exact next)
theorem RT.NS(hg:Gd ops S gd rg)[tS:dQ P T E0 n]{i o m:Nat}{E1:TypeId}{lo hi:Option Operand}(a b:Int)(hx:S.ev x=.row i)(hR:S.r i=.live (TR E1 n e l))(hlo:uc S 0 lo a)(hhi:uc S l.length hi b)(hd:d<S.n)(h:KX l a b=some (o,m))
  (next:RunT P C ops nd K rest (⟨rg++(aW x++(jk lo++jk hi)),[],[i],⟨some (d,.jg i (o*n) m),[],[]⟩⟩::acc) (S.set d (.jg i (o*n) m))):RunT P C ops nd K (⟨some d,.slice T x lo hi none,ty,pos,aft,gd⟩::rest) acc S:=by
 obtain⟨h0,h1,h2,h3,h4,h5⟩:=D6 h;exact RT.KC hg (.row hx hR) a b hlo hhi hd h0 h1 h2 h3 (o*n) m (by rw[h4];omega) h5 next
theorem RT.K0(hg:Gd ops S gd rg){m:Nat}[tS:dQ P T E0 m]{i o q:Nat}{c:Int}(hx:S.ev x=.jg i o q)(hd:d<S.n)(hc:(q:Int)=c)
  (next:RunT P C ops nd K rest (⟨rg++aW x,[],[],⟨some (d,.sv (.v (.int .i64 c))),[],[]⟩⟩::acc) (S.set d (.sv (.v (.int .i64 c))))):RunT P C ops nd K (⟨some d,.call ⟨.builtin .len,#[x],#[T]⟩,ty,pos,aft,gd⟩::rest) acc S:=
 RT.Nq hg hx hd (by rw[hc];exact next)
theorem RT.yP(hg:Gd ops S gd rg)[tS:dQ P T E0 n]{i o q j:Nat}{kk:IntKind}{v:Int}(hx:S.ev x=.jg i (o*n) q)(hy:S.ev y=.sv (.v (.int kk v)))(hd:d<S.n)(h:F9 o q v=some j)
  (next:RunT P C ops nd K rest (⟨rg++(aW x++aW y),[],[],⟨some (d,.eR i (j*n)),[],[]⟩⟩::acc) (S.set d (.eR i (j*n)))):RunT P C ops nd K (⟨some d,.indexAddr T x y,ty,pos,aft,gd⟩::rest) acc S:=by
 obtain⟨h0,h1,h2⟩:=D7 h;exact RT.YA hg (.jg hx) hy hd h0 h1 (j*n) (by rw[<-h2,Nat.add_mul]) next
end steps
def mI{S:Type}(body:Nat->S->Option S):Nat->S->Option S
 |0,s=>some s
 |n+1,s=>(mI body n s).bind (body n)
theorem qP{S:Type}{body:Nat->S->Option S}:∀{n:Nat} {s e:S},mI body n s=some e->∃st:Nat->S,st 0=s/\(∀k,k<n->body k (st k)=some (st (k+1)))/\st n=e
 |0,s,e,h=>⟨λ_=>s,Y,λ_ h=>by omega,Option.some.inj h⟩
 |n+1,s,e,h=>by
  obtain⟨e1,h1,h2⟩:=bind_some (x:=mI body n s) h;obtain⟨st,q1,q2,q3⟩:=qP h1;refine⟨λk=>if k=n+1 then e else st k,by simpa using q1,λk hk=>?_,by simp⟩;rcases Nat.lt_or_ge k n with hkn|hkn
  ·simpa[show k≠n+1 by omega,show k≠n by omega]using q2 k hkn
  obtain rfl:k=n:=by omega
  simpa[q3]using h2
theorem v8{S:Type}{body:Nat->S->Option S}(st:Nat->S):∀(n:Nat),(∀k,k<n->body k (st k)=some (st (k+1)))->mI body n (st 0)=some (st n)
 |0,_=>rfl
 |n+1,h=>by
  rw[mI,v8 st n (λk hk=>h k (by omega))];exact h n (by omega)
end
section
open Go.RowKit
def D8(es:List (Value×Value)):SV where
 h M v:=∃b,v=.map (some b)/\M b 0=some (.tuple ⟨es.map λp=>.tuple #[p.1,p.2]⟩)
 mono hM h:=by obtain⟨b,e,h⟩:=h;exact⟨b,e,hM _ _ _ h⟩
class BS (P:Program) (T:TypeId) (k:outParam TypeId) (e:outParam TypeId):Prop where
 u:P.underlying T=some (.map k e)
def wc(k:IntKind)(n:Int):List (Value×Value)->Option Value
 |[]=>none
 |(.int k' m,v)::l=>if k=k' then(if n=m then some v else wc k n l)else none
 |_::_=>none
theorem oq{k:IntKind}{n:Int}{v:Value}:∀(es:List MapEntry) (i:Nat),wc k n (es.map λe=>(e.key,e.val))=some v->∃j,Instr.findNow (.int k) (.int k n) es i=some (some (j,v))
 |[],_,h=>by simp[wc]at h
 |⟨key,val,born⟩::es,i,h=>by
  cases key with
  |int k' m=>
   simp only[List.map_cons,wc]at h;by_cases hk:k=k'
   ·subst hk;rw[if_pos rfl]at h;by_cases hn:n=m
    ·subst hn;rw[if_pos rfl]at h;cases h;exact⟨i,by simp[Instr.findNow,Instr.sameNow]⟩
    rw[if_neg hn]at h;obtain⟨j,hj⟩:=oq es (i+1) h;have hb:(n==m)=false:=by simp[hn]
    exact⟨j,by simp[Instr.findNow,Instr.sameNow,hb,hj]⟩
   rw[if_neg hk]at h;cases h
  |_=>simp[wc]at h
theorem BT:∀(l:List (Value×Value)) (m:List MapEntry),l.map (λp=>Value.tuple #[p.1,p.2])=m.map (λe=>Value.tuple #[e.key,e.val])->m.map (λe=>(e.key,e.val))=l
 |[],[],_=>rfl
 |[],_::_,h=>by simp at h
 |_::_,[],h=>by simp at h
 |(p,q)::l,e::m,h=>by
  simp only[List.map_cons,List.cons.injEq,Value.tuple.injEq]at h⊢;refine⟨?_,BT l m h.2⟩;have:=h.1;simp at this;rw[this.1,this.2]
theorem D9{es:Array MapEntry}{l:List (Value×Value)}(h:(⟨l.map λp=>.tuple #[p.1,p.2]⟩:Array Value)=Gk es):es.toList.map (λe=>(e.key,e.val))=l:=
 BT l es.toList (congrArg Array.toList h)
theorem getM{P:Program}{w:World}{r:Nat}{es:Array MapEntry}{ck:Nat}(hb:w.heap[r]? =some (.map es ck)):(getObj r).run P w=.ok (.map es ck) w:=by simp[getObj,Sem.run,hb]
theorem U0{P:Program}{w:World}{r:Nat}{es:Array MapEntry}{ck:Nat}(o:Obj)(hb:w.heap[r]? =some (.map es ck)):(setObj r o).run P w=.ok () {w with heap:=w.heap.setIfInBounds r o}:=by simp[setObj,Sem.run,hb]
theorem YF{P:Program}{w:World}{kt:TypeId}{k:IntKind}[tI:gN P kt k]{n:Int}(bb:Bool):(Instr.checkKey bb 10000 kt (.int k n)).run P w=.ok () w:=by
 rw[show(10000:Nat)=9999+1 from rfl,Instr.checkKey];simp[underlying,tI.h]
theorem Ea{M:Mem}:∀l:List Value,SV.da M (l.map SV.v) l
 |[]=>trivial
 |_::l=>⟨Y,Ea l⟩
section steps
variable {P:Program}{C:Ctx}{ops:Array Oper}{S:AS}{nd:Bool}{K:List Ac->AS->Prop}{rest:List Oper}{acc:List Ac}
variable {gd:Option (Nat×Bool)}{rg:List Nat}{d:Nat}{ty:TypeId}{pos:String}{aft:Array Edge}{x y z:Operand}{T U E0:TypeId}
theorem RT.look(hg:Gd ops S gd rg){kt et:TypeId}[tM:BS P T kt et]{k:IntKind}[tI:gN P kt k]{es:List (Value×Value)}{n:Int}(cs:List Value)(hx:S.ev x=.sv (D8 es))(hy:S.ev y=.sv (.v (.int k n)))(hl:wc k n es=some (.agg ⟨cs⟩))(hd:d<S.n)
  (next:RunT P C ops nd K rest (⟨rg++(aW x++aW y),[],[],⟨some (d,.sv (.agg (cs.map SV.v))),[],[]⟩⟩::acc) (S.set d (.sv (.agg (cs.map SV.v))))):RunT P C ops nd K (⟨some d,.lookup T x y false,ty,pos,aft,gd⟩::rest) acc S:=
 RT.value hg (aW x++aW y) [] [] (.sv (.agg (cs.map SV.v))) hd (by intro c h;cases h) (λS' ht _ _ E a w h=>by
  have h1:=h.ev x;rw[bj (λ_ h=>List.mem_append_left _ h) ht,hx]at h1;have h2:a.eval y=.int k n:=by have h2:=h.ev y;rw[bj (λ_ h=>List.mem_append_right _ h) ht,hy]at h2;exact h2
  obtain⟨b,e,hb⟩:=h1;obtain⟨ms,ck,hm,he⟩:=h.cu _ _ _ hb;have he:=D9 he;rw[<-he]at hl;obtain⟨j,hj⟩:=oq ms.toList 0 hl;refine⟨.agg ⟨cs⟩,?_,⟨cs,Y,?_⟩,er⟩
  ·have U1:(Instr.findKey kt (.int k n) ms.toList).run P w=.ok (some (j,.agg ⟨cs⟩)) w:=by
    simp[Instr.findKey,underlying,tI.h,hj]
   simp[execOp,e,h2,Instr.lookup,underlying,tM.u,getM hm,YF,U1]
  exact Ea cs) next
def mJ(w:World)(ms:Array MapEntry)(ck:Nat):World:=w.alloc (.map ms ck)
theorem qQ(w:World)(ms:Array MapEntry)(ck:Nat):(mJ w ms ck).heap[w.heap.size]? =some (.map ms ck):=by show(w.heap.push _)[w.heap.size]? =_;simp
theorem run_make{d:Option Nat}{ρ:Operand->Value}{w:World}:(execOp ρ ⟨d,.makeMap T none,ty,pos,aft,none⟩).run P w=.ok (.value (.map (some w.heap.size))) (mJ w #[] 0):=by
 simp[execOp,Instr.makeMap,mJ]
theorem td{d:Option Nat}{kt et:TypeId}[tM:BS P T kt et]{k:IntKind}[tI:gN P kt k]{ρ:Operand->Value}{w:World}{ms:Array MapEntry}{ck:Nat}{n:Int}{v:Value}(hx:ρ x=.map (some w.heap.size))(hy:ρ y=.int k n)(hz:ρ z=v)
  (hf:Instr.findNow (.int k) (.int k n) ms.toList 0=some none):(execOp ρ ⟨d,.insert T x y z,ty,pos,aft,none⟩).run P (mJ w ms ck)=.ok .skip (mJ w (ms.push ⟨.int k n,v,ck⟩) (ck+1)):=by
 have U1:(Instr.findKey kt (.int k n) ms.toList).run P (mJ w ms ck)=.ok none (mJ w ms ck):=by
  simp[Instr.findKey,underlying,tI.h,hf]
 have U3:∀o:Obj,{mJ w ms ck with heap:=(mJ w ms ck).heap.setIfInBounds w.heap.size o}=w.alloc o:=by
  intro o;simp only[mJ,World.alloc];congr 1;apply Array.ext';simp
 simp[execOp,hx,hy,hz,Instr.mapUpdate,underlying,tM.u,getM (qQ w ms ck),YF,U1,U0 _ (qQ w ms ck)];exact U3 _
theorem tf{d:Option Nat}{z0:Value}[tP:gp P U [(0,1)] [z0]]{ρ:Operand->Value}{w:World}{v:Value}(hx:ρ x=v)(hv:v.oneCell'=true):(execOp ρ ⟨d,.build U #[(0,x)],ty,pos,aft,none⟩).run P w=.ok (.value (.agg #[v])) w:=by
 have hu:=tP.h;cases hT:P.underlying U with
 |none=>rw[hT]at hu;cases hu
 |some u=>
  rw[hT]at hu;cases u with
  |struct fs=>
   simp only at hu;have hz:(zeroValue U).run P w=.ok (.agg ⟨[z0]⟩) w:=iE.run (t:=⟨tP.hz⟩) w;have hm:(fs.mapM (λf=>do pure (f.offset,<-sizeOf f.type):Field->Sem (Nat×Nat))).run P w=.ok #[(0,1)] w:=by
    have:=mD (P:=P) (w:=w) hu;rw[<-Array.toArray_toList (xs:=fs),List.mapM_toArray];rw[Sem.run_map,this];rfl
   simp only[execOp,Instr.build,underlying];simp only[Sem.run_bind,hz,Result.andThen_ok,run_program,hT,Sem.run_pure,Value.cells];have hm':(Array.mapM (λf=>do
     let __do_lift<-sizeOf f.type
     pure (f.offset,__do_lift)) fs:Sem _).run P w=.ok #[(0,1)] w:=hm
   simp only[hm',Result.andThen_ok];have h1':Instr.fill (λi=>(#[(0,1)]:Array (Nat×Nat))[i]?) ⟨[z0]⟩ [(0,v)]=some ⟨[v]⟩:=by
    simp[Instr.fill,fC hv]
    try rfl
   have e4:(Array.map (λx=>match x with|(i,x)=>(i,ρ x)) #[(0,x)]).toList=[(0,v)]:=by simp[hx]
   simp only[e4,h1',Sem.run_pure,Result.andThen_ok]
  |_=>cases hu
theorem GO{Q:Exit->AS->Prop}{id:Nat}{T U kt et t0:TypeId}[tM:BS P T kt et]{k:IntKind}[tI:gN P kt k]{z0:Value}[tP:gp P U [(0,1)] [z0]]{f1 f2 f3 f4:FuncId}{n1 n2 n3 n4:Int}
  {p0 p1 p2 p3 p4 p5 p6 p7 p8 p9 ZT:String} {a0 a1 a2 a3 a4 a5 a6 a7 a8 a9 ZU:Array Edge} {u1 u2 u3 u4 u5 u6 u7 u8 u9:TypeId} (hn:7<=S.n)
  (h2:Instr.findNow (.int k) (.int k n2) [⟨.int k n1,.agg #[.func (.func f1) #[] #[]],0⟩] 0=some none)
  (h3:Instr.findNow (.int k) (.int k n3) [⟨.int k n1,.agg #[.func (.func f1) #[] #[]],0⟩,⟨.int k n2,.agg #[.func (.func f2) #[] #[]],1⟩] 0=some none)
  (h4:Instr.findNow (.int k) (.int k n4) [⟨.int k n1,.agg #[.func (.func f1) #[] #[]],0⟩,⟨.int k n2,.agg #[.func (.func f2) #[] #[]],1⟩,⟨.int k n3,.agg #[.func (.func f3) #[] #[]],2⟩] 0=some none)
  (hQ:∀S',S'.t 0=.sv (D8 [(.int k n1,.agg #[.func (.func f1) #[] #[]]),(.int k n2,.agg #[.func (.func f2) #[] #[]]),(.int k n3,.agg #[.func (.func f3) #[] #[]]),(.int k n4,.agg #[.func (.func f4) #[] #[]])])->Q .normal S'):
  Ok P C (.region id #[⟨some 1,.makeMap T none,t0,p0,a0,none⟩,⟨some 2,.build U #[(0,.func f1)],u1,p1,a1,none⟩,⟨none,.insert T (.tmp 1) (.const (.int k n1)) (.tmp 2),u2,p2,a2,none⟩,
   ⟨some 3,.build U #[(0,.func f2)],u3,p3,a3,none⟩,⟨none,.insert T (.tmp 1) (.const (.int k n2)) (.tmp 3),u4,p4,a4,none⟩,⟨some 4,.build U #[(0,.func f3)],u5,p5,a5,none⟩,⟨none,.insert T (.tmp 1) (.const (.int k n3)) (.tmp 4),u6,p6,a6,none⟩,
   ⟨some 5,.build U #[(0,.func f4)],u7,p7,a7,none⟩,⟨none,.insert T (.tmp 1) (.const (.int k n4)) (.tmp 5),u8,p8,a8,none⟩,⟨some 6,.move (.tmp 1),u9,p9,a9,none⟩,⟨some 0,.assign (.tmp 6),u9,ZT,ZU,none⟩] false) S Q:=by
 rintro a w ⟨E,h⟩;refine wpIn_region ?_;show wpOpsIn _ _ _ _ _ [0,1,2,3,4,5,6,7,8,9,10] a w;have hS:∀(S:AS) (d:Nat) (x:AV),(S.set d x).n=S.n:=λ_ _ _=>rfl;rw[wpOpsIn_cons];refine bV (C:=C) rfl rfl (bW (C:=C) (by intro c h;cases h) run_make ?_);have g1:=h.put (d:=1) (x:=.sv (.v (.map (some w.heap.size)))) (v:=.map (some w.heap.size)) Y (by omega) er;show wpOpsIn _ _ _ _ _ _ (a.put (some 1) _) _;generalize a.put (some 1) (.map (some w.heap.size))=b1 at g1⊢;rw[wpOpsIn_cons];refine bV (C:=C) rfl rfl (bW (C:=C) (by intro c h;cases h) (tf rfl rfl) ?_);have g2:=g1.put (d:=2) (x:=.sv (.v (.agg #[.func (.func f1) #[] #[]]))) (v:=.agg #[.func (.func f1) #[] #[]]) Y (by rw[hS];omega) er;show wpOpsIn _ _ _ _ _ _ (b1.put (some 2) (.agg #[.func (.func f1) #[] #[]])) _;generalize b1.put (some 2) (.agg #[.func (.func f1) #[] #[]])=b2 at g2⊢;rw[wpOpsIn_cons];refine bV (C:=C) rfl rfl (bW (C:=C) (by intro c h;cases h) (td (k:=k) (n:=n1) (v:=.agg #[.func (.func f1) #[] #[]]) (g2.ev (.tmp 1)) rfl (g2.ev (.tmp 2)) rfl) ?_);show wpOpsIn _ _ _ _ _ _ (b2.put none undef) _;rw[show b2.put none undef=b2 from rfl,wpOpsIn_cons];refine bV (C:=C) rfl rfl (bW (C:=C) (by intro c h;cases h) (tf rfl rfl) ?_)
 have g3:=g2.put (d:=3) (x:=.sv (.v (.agg #[.func (.func f2) #[] #[]]))) (v:=.agg #[.func (.func f2) #[] #[]]) Y (by rw[hS,hS];omega) er;show wpOpsIn _ _ _ _ _ _ (b2.put (some 3) (.agg #[.func (.func f2) #[] #[]])) _;generalize b2.put (some 3) (.agg #[.func (.func f2) #[] #[]])=b3 at g3⊢;rw[wpOpsIn_cons];refine bV (C:=C) rfl rfl (bW (C:=C) (by intro c h;cases h) (td (k:=k) (n:=n2) (v:=.agg #[.func (.func f2) #[] #[]]) (g3.ev (.tmp 1)) rfl (g3.ev (.tmp 3)) (by simpa using h2)) ?_);show wpOpsIn _ _ _ _ _ _ (b3.put none undef) _;rw[show b3.put none undef=b3 from rfl,wpOpsIn_cons];refine bV (C:=C) rfl rfl (bW (C:=C) (by intro c h;cases h) (tf rfl rfl) ?_);have g4:=g3.put (d:=4) (x:=.sv (.v (.agg #[.func (.func f3) #[] #[]]))) (v:=.agg #[.func (.func f3) #[] #[]]) Y (by rw[hS,hS,hS];omega) er;show wpOpsIn _ _ _ _ _ _ (b3.put (some 4) (.agg #[.func (.func f3) #[] #[]])) _;generalize b3.put (some 4) (.agg #[.func (.func f3) #[] #[]])=b4 at g4⊢;rw[wpOpsIn_cons];refine bV (C:=C) rfl rfl (bW (C:=C) (by intro c h;cases h) (td (k:=k) (n:=n3) (v:=.agg #[.func (.func f3) #[] #[]]) (g4.ev (.tmp 1)) rfl (g4.ev (.tmp 4)) (by simpa using h3)) ?_);show wpOpsIn _ _ _ _ _ _ (b4.put none undef) _
 rw[show b4.put none undef=b4 from rfl,wpOpsIn_cons];refine bV (C:=C) rfl rfl (bW (C:=C) (by intro c h;cases h) (tf rfl rfl) ?_);have g5:=g4.put (d:=5) (x:=.sv (.v (.agg #[.func (.func f4) #[] #[]]))) (v:=.agg #[.func (.func f4) #[] #[]]) Y (by rw[hS,hS,hS,hS];omega) er;show wpOpsIn _ _ _ _ _ _ (b4.put (some 5) (.agg #[.func (.func f4) #[] #[]])) _;generalize b4.put (some 5) (.agg #[.func (.func f4) #[] #[]])=b5 at g5⊢;rw[wpOpsIn_cons];refine bV (C:=C) rfl rfl (bW (C:=C) (by intro c h;cases h) (td (k:=k) (n:=n4) (v:=.agg #[.func (.func f4) #[] #[]]) (g5.ev (.tmp 1)) rfl (g5.ev (.tmp 5)) (by simpa using h4)) ?_);show wpOpsIn _ _ _ _ _ _ (b5.put none undef) _;have e1:b5.eval (.tmp 1)=.map (some w.heap.size):=g5.ev (.tmp 1);obtain⟨ms,YG⟩:∃ms:Array MapEntry,(((((#[]:Array MapEntry).push ⟨.int k n1,.agg #[.func (.func f1) #[] #[]],0⟩).push ⟨.int k n2,.agg #[.func (.func f2) #[] #[]],0+1⟩).push ⟨.int k n3,.agg #[.func (.func f3) #[] #[]],0+1+1⟩).push ⟨.int k n4,.agg #[.func (.func f4) #[] #[]],0+1+1+1⟩)=ms:=⟨_,Y⟩;rw[YG];have hno:∀o,E.M w.heap.size o=none:=λo=>by
  cases e:E.M w.heap.size o with
  |none=>rfl
  |some v=>have:=iZ h.cu e;omega
 have g6:=g5.grow (M':=λb o=>if b=w.heap.size/\o=0 then some (.tuple (Gk ms))else E.M b o) (w':=mJ w ms (0+1+1+1+1)) (λb o v e=>by
   have:b≠w.heap.size:=by rintro rfl;rw[hno o]at e;cases e
   simp[this,e]) (λb o v e=>by
   by_cases hb:b=w.heap.size/\o=0
   ·exact .inr (by omega)
   ·simp only[if_neg hb]at e;exact .inl e) (λb o v e=>by
   by_cases hb:b=w.heap.size/\o=0
   ·simp only[if_pos hb]at e;obtain⟨rfl,rfl⟩:=hb;cases e;exact⟨ms,_,qQ w ms _,Y⟩
   simp only[if_neg hb]at e;have hlt:=iZ h.cu e;refine(h.cu b o v e).same ?_;show(w.heap.push _)[b]? =_;rw[Array.getElem?_push,if_neg (by omega)]) ((Below.refl _ _).alloc (Nat.le_refl _) _)
 have hm:∀X:Env,X.M w.heap.size 0=some (.tuple (Gk ms))->(D8 [(.int k n1,.agg #[.func (.func f1) #[] #[]]),(.int k n2,.agg #[.func (.func f2) #[] #[]]),(.int k n3,.agg #[.func (.func f3) #[] #[]]),(.int k n4,.agg #[.func (.func f4) #[] #[]])]).h X.M (.map (some w.heap.size)):=λX hX=>by
  refine⟨_,Y,?_⟩;rw[hX,<-YG];rfl
 have g7:=g6.put (d:=6) (x:=.sv (.v (.map (some w.heap.size)))) (v:=.map (some w.heap.size)) Y (by rw[hS,hS,hS,hS,hS];omega) er;rw[show b5.put none undef=b5 from rfl,wpOpsIn_cons];refine bV (C:=C) rfl rfl (bW (C:=C) (by intro c h;cases h) (r:=.ok (.value (.map (some w.heap.size))) _) (by show Result.ok (Next.value (b5.eval (.tmp 1))) _=_;rw[e1]) ?_);show wpOpsIn _ _ _ _ _ _ (b5.put (some 6) (.map (some w.heap.size))) _;generalize b5.put (some 6) (.map (some w.heap.size))=b6 at g7⊢;have e6:b6.eval (.tmp 6)=.map (some w.heap.size):=g7.ev (.tmp 6);have g8:=g7.put (d:=0) (x:=.sv (D8 [(.int k n1,.agg #[.func (.func f1) #[] #[]]),(.int k n2,.agg #[.func (.func f2) #[] #[]]),(.int k n3,.agg #[.func (.func f3) #[] #[]]),(.int k n4,.agg #[.func (.func f4) #[] #[]])])) (v:=.map (some w.heap.size)) (hm _ (by simp)) (by rw[hS,hS,hS,hS,hS,hS];omega) er;rw[wpOpsIn_cons];refine bV (C:=C) rfl rfl (bW (C:=C) (by intro c h;cases h) (r:=.ok (.value (.map (some w.heap.size))) _) (by show Result.ok (Next.value (b6.eval (.tmp 6))) _=_;rw[e6]) ?_);show wpOpsIn _ _ _ _ _ _ (b6.put (some 0) (.map (some w.heap.size))) _;rw[wpOpsIn];exact⟨_,hQ _ Y,_,g8⟩
end steps
def Sw(Q:Exit->AS->Prop):Exit->AS->Prop
 |.goto _,_=>False
 |e,S=>Q e S
section scope
variable {P:Program}{C:Ctx}{S:AS}{Q:Exit->AS->Prop}
theorem Sw.n(h:Q .normal S):Sw Q .normal S:=h
theorem Sw.x{id:Nat}(h:Q (.exit id) S):Sw Q (.exit id) S:=h
end scope
end
end Go.Fw
namespace Go.Proofs.Ytmiflmkdaeianaa
section
open Go.Fw
open Go.Proofs
noncomputable abbrev ah:=Try.prog
instance:gN ah 2 .i64:=⟨by kernel_rfl⟩
instance:gN ah 3 .i64:=⟨by kernel_rfl⟩
instance:nF ah 3:=⟨by kernel_rfl,by kernel_rfl⟩
instance:w9 ah 4:=⟨by kernel_rfl⟩
instance:nF ah 4:=⟨by kernel_rfl,by kernel_rfl⟩
instance:gN ah 5 .u8:=⟨by kernel_rfl⟩
instance:nF ah 5:=⟨by kernel_rfl,by kernel_rfl⟩
instance:Ij ah 9:=⟨by kernel_rfl⟩
instance:gN ah 21 .i32:=⟨by kernel_rfl⟩
instance:nF ah 22:=⟨by kernel_rfl,by kernel_rfl⟩
instance:iE ah 22 (.slice none 0 0):=⟨by kernel_rfl⟩
instance:dQ ah 22 80 1:=⟨by kernel_rfl,by kernel_rfl⟩
instance:rK ah 24 2:=⟨by kernel_rfl,by kernel_rfl⟩
instance:yz ah 24:=⟨λw=>⟨1,rK.size (T:=24) (n:=2) w⟩⟩
instance:iE ah 24 (.agg #[.bool false,.slice none 0 0]):=⟨by kernel_rfl⟩
instance:gU ah 24 2 32 (.agg #[.bool false,.slice none 0 0]):=⟨by kernel_rfl,by rfl,by decide,by decide⟩
instance:gp ah 24 [(0,1),(1,1)] [.bool false,.slice none 0 0]:=⟨by kernel_rfl,by kernel_rfl,by rfl⟩
instance:yn ah 24 0 0 4:=⟨by kernel_rfl⟩
instance:yn ah 24 1 1 22:=⟨by kernel_rfl⟩
instance:rK ah 26 4:=⟨by kernel_rfl,by kernel_rfl⟩
instance:iE ah 26 (.agg #[.bool false,.slice none 0 0,.bool false,.slice none 0 0]):=⟨by kernel_rfl⟩
instance:gU ah 26 4 64 (.agg #[.bool false,.slice none 0 0,.bool false,.slice none 0 0]):=⟨by kernel_rfl,by rfl,by decide,by decide⟩
instance:gp ah 26 [(0,2),(2,2)] [.bool false,.slice none 0 0,.bool false,.slice none 0 0]:=⟨by kernel_rfl,by kernel_rfl,by rfl⟩
instance:yn ah 26 0 0 24:=⟨by kernel_rfl⟩
instance:yn ah 26 1 2 24:=⟨by kernel_rfl⟩
instance:nF ah 28:=⟨by kernel_rfl,by kernel_rfl⟩
instance:gU ah 28 1 24 (.slice none 0 0):=⟨by kernel_rfl,by rfl,by decide,by decide⟩
instance:dQ ah 28 26 4:=⟨by kernel_rfl,by kernel_rfl⟩
instance:dQ ah 37 24 2:=⟨by kernel_rfl,by kernel_rfl⟩
instance:nF ah 39:=⟨by kernel_rfl,by kernel_rfl⟩
instance:dQ ah 39 43 5:=⟨by kernel_rfl,by kernel_rfl⟩
instance:rK ah 43 5:=⟨by kernel_rfl,by kernel_rfl⟩
instance:iE ah 43 (.agg #[.int .i64 0,.int .u8 0,.int .i64 0,.bool false,.slice none 0 0]):=⟨by kernel_rfl⟩
instance:gU ah 43 5 56 (.agg #[.int .i64 0,.int .u8 0,.int .i64 0,.bool false,.slice none 0 0]):=⟨by kernel_rfl,by rfl,by decide,by decide⟩
instance:gp ah 43 [(0,1),(1,1),(2,1),(3,2)] [.int .i64 0,.int .u8 0,.int .i64 0,.bool false,.slice none 0 0]:=⟨by kernel_rfl,by kernel_rfl,by rfl⟩
instance:yn ah 43 0 0 3:=⟨by kernel_rfl⟩
instance:yn ah 43 1 1 5:=⟨by kernel_rfl⟩
instance:yn ah 43 2 2 3:=⟨by kernel_rfl⟩
instance:yn ah 43 3 3 24:=⟨by kernel_rfl⟩
instance:gp ah 66 [(0,1),(1,1)] [.int .i64 0,.slice none 0 0]:=⟨by kernel_rfl,by kernel_rfl,by rfl⟩
instance:yn ah 66 0 0 3:=⟨by kernel_rfl⟩
instance:yn ah 66 1 1 39:=⟨by kernel_rfl⟩
instance:dQ ah 79 28 1:=⟨by kernel_rfl,by kernel_rfl⟩
instance:gN ah 80 .u32:=⟨by kernel_rfl⟩
instance:nF ah 80:=⟨by kernel_rfl,by kernel_rfl⟩
instance:gU ah 80 1 4 (.int .u32 0):=⟨by kernel_rfl,by rfl,by decide,by decide⟩
instance:gN ah 100 .u64:=⟨by kernel_rfl⟩
instance:nF ah 100:=⟨by kernel_rfl,by kernel_rfl⟩
instance:nF ah 113:=⟨by kernel_rfl,by kernel_rfl⟩
instance:gp ah 115 [(0,1)] [.nilFunc]:=⟨by kernel_rfl,by kernel_rfl,by rfl⟩
instance:yn ah 115 0 0 113:=⟨by kernel_rfl⟩
instance:BS ah 116 5 115:=⟨by kernel_rfl⟩
instance:nF ah 119:=⟨by kernel_rfl,by kernel_rfl⟩
instance:iE ah 119 (.nilFunc):=⟨by kernel_rfl⟩
instance:gN ah 124 .u64:=⟨by kernel_rfl⟩
instance:eC ah 9:=⟨by kernel_rfl⟩
instance:eC ah 10:=⟨by kernel_rfl⟩
instance:eC ah 11:=⟨by kernel_rfl⟩
instance:eC ah 12:=⟨by kernel_rfl⟩
instance:eC ah 16:=⟨by kernel_rfl⟩
instance:eC ah 17:=⟨by kernel_rfl⟩
instance:eC ah 18:=⟨by kernel_rfl⟩
instance:eC ah 19:=⟨by kernel_rfl⟩
instance:eC ah 20:=⟨by kernel_rfl⟩
instance:eC ah 21:=⟨by kernel_rfl⟩
instance:eC ah 25:=⟨by kernel_rfl⟩
instance:eC ah 27:=⟨by kernel_rfl⟩
instance:eC ah 28:=⟨by kernel_rfl⟩
instance:eC ah 30:=⟨by kernel_rfl⟩
instance:eC ah 31:=⟨by kernel_rfl⟩
instance:eC ah 32:=⟨by kernel_rfl⟩
instance:eC ah 33:=⟨by kernel_rfl⟩
instance:eC ah 34:=⟨by kernel_rfl⟩
instance:eC ah 35:=⟨by kernel_rfl⟩
instance:eC ah 36:=⟨by kernel_rfl⟩
instance:eC ah 37:=⟨by kernel_rfl⟩
instance:eC ah 38:=⟨by kernel_rfl⟩
instance:eC ah 39:=⟨by kernel_rfl⟩
instance:eC ah 40:=⟨by kernel_rfl⟩
instance:eC ah 41:=⟨by kernel_rfl⟩
instance:eC ah 50:=⟨by kernel_rfl⟩
instance:eC ah 51:=⟨by kernel_rfl⟩
instance:eC ah 52:=⟨by kernel_rfl⟩
instance:eC ah 53:=⟨by kernel_rfl⟩
instance:eC ah 54:=⟨by kernel_rfl⟩
instance:eC ah 55:=⟨by kernel_rfl⟩
instance:eC ah 56:=⟨by kernel_rfl⟩
instance:eC ah 57:=⟨by kernel_rfl⟩
instance:eC ah 58:=⟨by kernel_rfl⟩
instance:eC ah 59:=⟨by kernel_rfl⟩
instance:eC ah 60:=⟨by kernel_rfl⟩
instance:eC ah 61:=⟨by kernel_rfl⟩
instance:eC ah 62:=⟨by kernel_rfl⟩
instance:eC ah 63:=⟨by kernel_rfl⟩
instance:eC ah 64:=⟨by kernel_rfl⟩
instance:eC ah 65:=⟨by kernel_rfl⟩
instance:eC ah 66:=⟨by kernel_rfl⟩
instance:eC ah 67:=⟨by kernel_rfl⟩
instance:eC ah 68:=⟨by kernel_rfl⟩
instance:eC ah 69:=⟨by kernel_rfl⟩
instance:eC ah 70:=⟨by kernel_rfl⟩
instance:eC ah 71:=⟨by kernel_rfl⟩
instance:eC ah 72:=⟨by kernel_rfl⟩
instance:eC ah 73:=⟨by kernel_rfl⟩
instance:eC ah 87:=⟨by kernel_rfl⟩
instance:eC ah 88:=⟨by kernel_rfl⟩
instance:eC ah 89:=⟨by kernel_rfl⟩
instance:eC ah 90:=⟨by kernel_rfl⟩
instance:eC ah 91:=⟨by kernel_rfl⟩
instance:eC ah 92:=⟨by kernel_rfl⟩
instance:eC ah 93:=⟨by kernel_rfl⟩
instance:eC ah 94:=⟨by kernel_rfl⟩
instance:eC ah 105:=⟨by kernel_rfl⟩
instance:eC ah 106:=⟨by kernel_rfl⟩
instance:eC ah 109:=⟨by kernel_rfl⟩
instance:eC ah 110:=⟨by kernel_rfl⟩
instance:eC ah 111:=⟨by kernel_rfl⟩
instance:eC ah 112:=⟨by kernel_rfl⟩
instance:eC ah 113:=⟨by kernel_rfl⟩
instance:eC ah 114:=⟨by kernel_rfl⟩
instance:eC ah 118:=⟨by kernel_rfl⟩
theorem mixed:Try.prog.follows .mixedOrders=true:=by kernel_rfl
end
section
open Go.Fw Go.RowKit
def snap(W:World):Mem:=λb o=>(W.cell? ⟨b,o,none⟩).filter Value.oneCell'
theorem GP(W:World):(snap W).cu W:=λ_ _ _ e=>by
 obtain⟨e1,e2⟩:=Option.filter_eq_some_iff.1 e;exact .of e1 e2
theorem GQ{W:World}{b o:Nat}{v:Value}(h:W.cell? ⟨b,o,none⟩=some v)(h1:v.oneCell'=true):snap W b o=some v:=Option.filter_eq_some_iff.2 ⟨h,h1⟩
theorem ko{H:Type}{P:Program}{ts:List TypeId}{ds:List (DataW H)}(j:Nat){t:TypeId}{d:DataW H}(h:(DataW.weightsEach P ts ds).all (· <=reachBytes)=true)(ht:ts[j]? =some t)(hd:ds[j]? =some d):(d.weights P t).all (· <=reachBytes)=true:=
 List.all_eq_true.2 λn hn=>List.all_eq_true.1 h n (DataW.weights_mem_each ht hd n hn)
theorem mK{H:Type}{P:Program}{e:TypeId}:∀{ds:List (DataW H)} {d:DataW H},d∈ds->∀n∈d.weights P e,n∈DataW.weightsAll P e ds
 |x::ds,d,h,n,hn=>by
  simp only[DataW.weightsAll,List.mem_append];rcases List.mem_cons.1 h with rfl|h
  ·exact .inl hn
  exact .inr (mK h n hn)
class AP (P:Program) (T:TypeId) {α:Type} (e:α->List SV) (ok:outParam (α->Prop)) (sz:outParam (α->Nat)):Prop where
 h:∀{H:Type} (enc:TypeId×Value->H) (W:World) (fuel:Nat) (cs:List Value) (d:DataW H) (p:List MemPlace),DataW.trod enc P W 0 (λ_=>true) true fuel T cs=some (d,p)->(d.weights P T).all (· <=reachBytes)=true->
  ∃x:α,ok x/\SV.da (snap W) (e x) cs/\(∀v∈cs,v.oneCell'=true)/\sz x<=Rows.uptoBulk d
section ZV
variable {P:Program}{T:TypeId}
theorem AQ{k:IntKind}{n:Int}(h:(Lit.int k n).wf=true):k.min<=n/\n<=k.max:=by simpa[Lit.wf]using h
instance[t:gN P T .i32]:AP P T NK (λx=>-2147483648<=x/\x<=2147483647) (λ_=>1):=⟨λenc W fuel cs d p h yQ=>by
 obtain⟨n,rfl,hx,hw⟩:=DataW.trod_int t.h h;cases hx;have:=AQ hw;exact⟨n,by simpa[IntKind.min,IntKind.max,IntKind.signed,IntKind.bits]using this,⟨rfl,aq⟩,by simp[Value.oneCell'],by simp[Rows.uptoBulk]⟩⟩
instance[t:gN P T .i16]:AP P T UQ (λx=>-32768<=x/\x<=32767) (λ_=>1):=⟨λenc W fuel cs d p h yQ=>by
 obtain⟨n,rfl,hx,hw⟩:=DataW.trod_int t.h h;cases hx;have:=AQ hw;exact⟨n,by simpa[IntKind.min,IntKind.max,IntKind.signed,IntKind.bits]using this,⟨rfl,aq⟩,by simp[Value.oneCell'],by simp[Rows.uptoBulk]⟩⟩
theorem NT{k:IntKind}{M:Nat}{e:Nat->List SV}(t:gN P T k)(hk:k.min=0/\k.max=(M:Int)-1)(he:∀n:Nat,e n=[.v (.int k (n:Int))]):AP P T e (λx=>x<M) (λ_=>1):=⟨λenc W fuel cs d p h yQ=>by
 obtain⟨n,rfl,hx,hw⟩:=DataW.trod_int t.h h;cases hx;have:=AQ hw;rw[hk.1,hk.2]at this;obtain⟨m,rfl⟩:=Int.eq_ofNat_of_zero_le this.1;exact⟨m,by omega,by rw[he];exact⟨Y,aq⟩,by simp[Value.oneCell'],by simp[Rows.uptoBulk]⟩⟩
instance[t:gN P T .u32]:AP P T aX (λx=>x<4294967296) (λ_=>1):=NT t (by decide) (λ_=>rfl)
instance[t:w9 P T]:AP P T eB (λ_=>True) (λ_=>1):=⟨λenc W fuel cs d p h yQ=>by
 obtain⟨b,rfl,hx⟩:=DataW.trod_bool t.h h;cases hx;exact⟨b,aq,⟨rfl,aq⟩,by simp[Value.oneCell'],by simp[Rows.uptoBulk]⟩⟩
theorem yR{H α:Type}(sz:α->Nat):∀(xs:List α) (ds:List (DataW H)),xs.length=ds.length->(∀(i:Nat) (x:α) (d:DataW H),xs[i]? =some x->ds[i]? =some d->sz x<=Rows.uptoBulk d)->(xs.map sz).sum<=Rows.uptoBulkAll ds
 |[],[],_,_=>by simp
 |x::xs,d::ds,hl,h=>by
  have h1:=h 0 x d Y Y;have h2:=yR sz xs ds (by simpa using hl) (λi x d e1 e2=>h (i+1) x d (by simpa using e1) (by simpa using e2));simp only[List.map_cons,List.sum_cons,Rows.uptoBulkAll];omega
 |[],_::_,hl,_=>by simp at hl
 |_::_,[],hl,_=>by simp at hl
instance{E:TypeId}{n:Nat}{α:Type}{e:α->List SV}{ok:α->Prop}{sz:α->Nat}{by_:Nat}{zv:Value}[t:dQ P T E n][tE:gU P E n by_ zv][el:EL e n][o:AP P E e ok sz]:AP P T (eS n e) (λl=>l.length*by_<=140737488351232/\∀x∈l,ok x) (λl=>(l.map sz).sum+1):=⟨λ{H} enc W fuel cs d p h yQ=>by
 have hcell:P.cellsOf E=n:=by
  have h1:=t.size W;simp only[sizeOf,typeInfo]at h1;cases hi:P.info? E with
  |none=>simp[hi]at h1
  |some i=>simp[hi]at h1;simp[Program.cellsOf,hi,h1]
 have hml:maxLen=9223372036854775807:=by decide
 have hby:P.bytesOf E=by_:=by
  obtain⟨i,hi,_,hb,_⟩:=tE.info;rw[Program.bytesOf,hi];exact hb
 rcases Deep.open_slice t.u h with⟨rfl,hx⟩|⟨a,len,cap,m,n',D,Pl,rfl,_,hl,hm,YH,hx,hel⟩
 ·cases hx;exact⟨[],⟨by simp,by simp⟩,⟨.inl ⟨none,rfl,rfl⟩,aq⟩,by simp[Value.oneCell'],by simp[Rows.uptoBulk]⟩
 cases hx;rw[if_pos rfl]at YH;subst YH;simp only[DataW.weights,t.u,List.all_cons,List.all_append,Bool.and_eq_true,List.length_map,List.length_range,decide_eq_true_eq,hby]at yQ;obtain⟨ZW,YI,U4⟩:=yQ;have hwi:∀i,i<m->((D i).weights P E).all (· <=reachBytes)=true:=λi hi=>List.all_eq_true.2 λn hn=>by
  rcases Nat.lt_or_ge i len with q|q
  ·exact List.all_eq_true.1 YI n (mK (List.mem_map.2 ⟨i,List.mem_range.2 q,rfl⟩) n hn)
  exact List.all_eq_true.1 U4 n (mK (List.mem_map.2 ⟨i-len,List.mem_range.2 (by omega),by rw[show len+(i-len)=i by omega]⟩) n hn)
 have hlb:len*by_<=140737488351232:=Nat.le_trans (Nat.mul_le_mul_right _ (Nat.le_add_right _ _)) ZW;have one:∀i,i<m->∃x,ok x/\sz x<=Rows.uptoBulk (D i)/\∃cs',W.cells? 0 (a.add (i*n)) n=some cs'/\SV.da (snap W) (e x) cs'/\(∀v∈cs',v.oneCell'=true):=by
  intro i hi;obtain⟨cs',h1,h2⟩:=hel i hi;obtain⟨x,q1,q2,q3,q4⟩:=o.h enc W n' cs' (D i) (Pl i) h2 (hwi i hi);rw[hcell]at h1;exact⟨x,q1,q4,cs',h1,q2,q3⟩
 obtain⟨xs,NU,hxs⟩:∃xs:List α,xs.length=len/\∀(i:Nat) (x:α),xs[i]? =some x->ok x/\sz x<=Rows.uptoBulk (D i)/\∃cs',W.cells? 0 (a.add (i*n)) n=some cs'/\SV.da (snap W) (e x) cs'/\(∀v∈cs',v.oneCell'=true):=by
  clear h hm hel;have:∀k,k<=len->∃xs:List α,xs.length=k/\∀(i:Nat) (x:α),xs[i]? =some x->ok x/\sz x<=Rows.uptoBulk (D i)/\∃cs',W.cells? 0 (a.add (i*n)) n=some cs'/\SV.da (snap W) (e x) cs'/\(∀v∈cs',v.oneCell'=true):=by
   intro k
   induction k with
   |zero=>intro _;exact⟨[],rfl,by simp⟩
   |succ k ih=>
    intro hk;obtain⟨xs,h1,h2⟩:=ih (by omega);obtain⟨x,hx⟩:=one k (by omega);refine⟨xs++[x],by simp[h1],λi y hy=>?_⟩;rcases Nat.lt_or_ge i k with hi|hi
    ·exact h2 i y (by rwa[List.getElem?_append_left (by omega)]at hy)
    rw[List.getElem?_append_right (by omega)]at hy;have Uo:i=k:=by
     rcases Nat.lt_or_ge (i-xs.length) 1 with q|q
     ·omega
     rw[List.getElem?_eq_none (by simpa using q)]at hy;cases hy
    subst Uo;rw[h1,Nat.sub_self]at hy;simp at hy;subst hy;exact hx
  exact this len (Nat.le_refl _)
 refine⟨xs,⟨by rw[NU];exact hlb,λx hx=>?_⟩,⟨?_,aq⟩,by simp[Value.oneCell'],?_⟩
 ·obtain⟨i,hi,rfl⟩:=List.getElem_of_mem hx;exact(hxs i _ (List.getElem?_eq_getElem hi)).1
 ·by_cases h0:xs=[]
  ·subst h0;simp at NU;subst NU;by_cases hc0:m=0
   ·subst hc0;exact .inl ⟨_,rfl,rfl⟩
   obtain⟨x,_,_,cs',g1,g2,_⟩:=one 0 (by omega);obtain⟨_,g3,g4⟩:=World.cells?_some g1;have hn:0<n:=tE.p;have g5:=g4 0 hn;obtain⟨b,o',spot⟩:=a;have Eb:spot=none:=by
    have:∃v,W.cell? (((⟨b,o',spot⟩:Addr).add (0*n)).add 0)=some v:=by
     rw[g5];exact⟨_,List.getElem?_eq_getElem (by omega)⟩
    obtain⟨v,hv⟩:=this;simpa[Addr.add]using World.cell?_spot hv
   subst Eb;refine .inr ⟨b,o',m,rfl,by simp,by simp,λi row hr=>by simp at hr⟩
  have rS:0<len:=by
   rcases Nat.eq_zero_or_pos len with hz|hz
   ·exact absurd (List.eq_nil_of_length_eq_zero (by omega)) h0
   exact hz
  have hn:0<n:=tE.p;obtain⟨x,_,_,cs',g1,g2,_⟩:=one 0 (by omega);obtain⟨_,g3,g4⟩:=World.cells?_some g1;have g5:=g4 0 hn;obtain⟨b,o',spot⟩:=a;have Eb:spot=none:=by
   have:∃v,W.cell? (((⟨b,o',spot⟩:Addr).add (0*n)).add 0)=some v:=by
    rw[g5];exact⟨_,List.getElem?_eq_getElem (by omega)⟩
   obtain⟨v,hv⟩:=this;simpa[Addr.add]using World.cell?_spot hv
  subst Eb;refine .inr ⟨b,o',m,by rw[List.length_map,NU],by rw[List.length_map];omega,by rw[List.length_map];omega,λi row hr=>?_⟩;rw[List.getElem?_map]at hr;cases hx:xs[i]? with
  |none=>rw[hx]at hr;cases hr
  |some y=>
   rw[hx]at hr;have hr:e y=row:=Option.some.inj hr;subst hr;obtain⟨_,_,cs2,k1,k2,k3⟩:=hxs i y hx;obtain⟨_,k4,k5⟩:=World.cells?_some k1;refine⟨el.len y,λk s hk=>?_⟩;obtain⟨u,hu,hs⟩:=k2.get hk;have hkn:k<n:=by have:=(List.getElem?_eq_some_iff.1 hu).1;omega
   have k6:=k5 k hkn;rw[eD,eD,hu]at k6;exact⟨u,GQ k6 (k3 u (List.mem_of_getElem? hu)),k3 u (List.mem_of_getElem? hu),hs⟩
 have hb:Rows.uptoBulk (DataW.slice ((List.range len).map D) ((List.range (m-len)).map λj=>D (len+j)))=Rows.uptoBulkAll ((List.range len).map D)+Rows.uptoBulkAll ((List.range (m-len)).map λj=>D (len+j))+1:=rfl;rw[hb];have:=yR sz xs ((List.range len).map D) (by simp[NU]) (λi x d e1 e2=>by
  have hi:i<len:=by have:=(List.getElem?_eq_some_iff.1 e1).1;omega
  simp[hi]at e2;subst e2;exact(hxs i x e1).2.1)
 omega⟩
class Sx (P:Program) (T:TypeId) (k:outParam Nat):Prop where
 h:(match P.underlying T with|some (.struct fs)=>some fs.size|_=>none)=some k
theorem BU{k:Nat}[s:Sx P T k]{H:Type}{enc:TypeId×Value->H}{W:World}{fuel:Nat}{cs:List Value}{d:DataW H}{p:List MemPlace}(h:DataW.trod enc P W 0 (λ_=>true) true fuel T cs=some (d,p))(yQ:(d.weights P T).all (· <=reachBytes)=true):
  ∃(xs:List (DataW H×List MemPlace)) (n:Nat),d=.agg (xs.map (·.1))/\cs.length=P.cellsOf T/\xs.length=k/\∀(i off:Nat) (U:TypeId),yn P T i off U->DataW.trod enc P W 0 (λ_=>true) true n U ((cs.drop off).take (P.cellsOf U))=xs[i]? /\∀x,xs[i]? =some x->(x.1.weights P U).all (· <=reachBytes)=true:=by
 have hs:=s.h;cases hT:P.underlying T with
 |none=>rw[hT]at hs;cases hs
 |some u=>
  rw[hT]at hs;cases u with
  |struct fs=>
   have hk:fs.size=k:=Option.some.inj hs;obtain⟨xs,n,_,hx,hl,hn,hf⟩:=DataW.trod_struct hT h;have hd:=(Prod.mk.inj hx).1;subst hd;refine⟨xs,n,Y,hl,by omega,λi off U F=>?_⟩;have hF:=F.h;rw[hT]at hF;simp only at hF;cases hg:fs[i]? with
   |none=>rw[hg]at hF;cases hF
   |some f=>
    rw[hg]at hF;simp only[Option.map_some,Option.some.injEq,Prod.mk.injEq]at hF;have:=hf i f hg;rw[hF.1,hF.2]at this;refine⟨this,λx ZX=>?_⟩;simp only[DataW.weights,hT]at yQ;exact ko i yQ (by rw[List.getElem?_map,Array.getElem?_toList,hg,Option.map_some,hF.2]) (by rw[List.getElem?_map,ZX];rfl)
  |_=>cases hs
class NV (P:Program) (T:TypeId):Prop where
 h:∀(w:World) (r:Reach) (base:Nat) (v:Value),Value.okWide P w r base T v->v.cells.toList=[v]
instance{k:IntKind}[t:gN P T k]:NV P T:=⟨λw r base v h=>by
 simp only[Value.okWide,t.h,Cell.okWide,Cell.ok]at h;cases v<;>first|rfl|cases h⟩
theorem GR{α:Type}{e:α->List SV}{ok:α->Prop}{sz:α->Nat}[o1:NV P T][o:AP P T e ok sz]{H:Type}{enc:TypeId×Value->H}{W:World}{r:Reach}{base:Nat}{v:Value}{d:DataW H}{p:List MemPlace}
  (hv:Value.okWide P W r base T v) (h:DataW.Trod enc P W 0 (λ_=>true) true T v d p) (yQ:(d.weights P T).all (· <=reachBytes)=true):∃x,ok x/\sz x<=Rows.uptoBulk d/\SV.da (snap W) (e x) [v]:=by
 obtain⟨fuel,h⟩:=h;rw[o1.h W r base v hv]at h;obtain⟨x,h1,h2,_,h4⟩:=o.h enc W fuel _ d p h yQ;exact⟨x,h1,h4,h2⟩
theorem BV{α:Type}{e:α->List SV}{ok:α->Prop}{sz:α->Nat}{k:Nat}[s:Sx P T k][o:AP P T e ok sz]{H:Type}{enc:TypeId×Value->H}{W:World}{r:Reach}{base:Nat}{v:Value}{d:DataW H}{p:List MemPlace}
  (hv:Value.okWide P W r base T v) (h:DataW.Trod enc P W 0 (λ_=>true) true T v d p) (yQ:(d.weights P T).all (· <=reachBytes)=true):∃x,ok x/\sz x<=Rows.uptoBulk d/\(SV.agg (e x)).h (snap W) v:=by
 have hs:=s.h;cases hT:P.underlying T with
 |none=>rw[hT]at hs;cases hs
 |some u=>
  rw[hT]at hs;cases u with
  |struct fs=>
   obtain⟨cs,rfl,_⟩:=WideShapes.okWide_struct hT hv;obtain⟨fuel,h⟩:=h;obtain⟨x,h1,h2,_,h4⟩:=o.h enc W fuel _ d p h yQ;exact⟨x,h1,h4,cs.toList,Y,h2⟩
  |_=>cases hs
end ZV
theorem GS{f:FuncId}{vs:List Value}{YJ:List SV}{W:World}(hp:Pure ah f YJ (.v (.bool true)))(h:SV.da (snap W) YJ vs):
  Calls ah f ⟨vs⟩ W λe w'=>e=.returned (.bool true)/\Below W.heap.size W w':=
 (hp (snap W) W vs (GP W) h).mono λ_ _ ⟨v,_,h1,_,_,_,h2,h3⟩=>by
  have h2:v=.bool true:=h2;exact⟨by rw[h1,h2],h3⟩
end
section
open Go.Fw Go.RowKit Go.ChangeShapes Go.WideShapes Go.ChangeAt
theorem U5:ownKnob Try.prog.godebug=none:=by kernel_rfl
theorem uy:laidOutB ah=true:=by kernel_rfl
instance:Sx ah 24 2:=⟨by kernel_rfl⟩
set_option maxRecDepth 100000 in
instance:AP ah 24 eZ (λ(z:Zr)=>(True/\(z.w.length*4<=140737488351232/\∀x1∈z.w,x1<4294967296))) (λ(z:Zr)=>(1+((z.w.map λx1=>1).sum+1)+1)):=⟨λenc W fuel cs d p h yQ=>by
 obtain⟨xs,n,rfl,hl,hn,hf⟩:=BU h yQ;have hl:cs.length=2:=hl.trans (by kernel_rfl)
 match xs,hn with
 |[⟨d0,p0⟩,⟨d1,p1⟩],_=>
 match cs,hl with
 |[c0,c1],_=>
 have t0:DataW.trod enc ah W 0 (λ_=>true) true n 4 [c0]=some (d0,p0):=(by have q:=(hf 0 _ _ inferInstance).1;rw[show Try.prog.cellsOf 4=1 by kernel_rfl]at q;exact q);obtain⟨x0,a0,b0,e0,s0⟩:=AP.h (P:=ah) (T:=4) (e:=eB) enc W n _ d0 p0 t0 ((hf 0 _ _ inferInstance).2 _ Y);have t1:DataW.trod enc ah W 0 (λ_=>true) true n 22 [c1]=some (d1,p1):=(by have q:=(hf 1 _ _ inferInstance).1;rw[show Try.prog.cellsOf 22=1 by kernel_rfl]at q;exact q);obtain⟨x1,a1,b1,e1,s1⟩:=AP.h (P:=ah) (T:=22) (e:=(eS 1 aX)) enc W n _ d1 p1 t1 ((hf 1 _ _ inferInstance).2 _ Y);refine⟨⟨x0,x1⟩,⟨a0,a1⟩,⟨b0.1,b1.1,aq⟩,?_,?_⟩
 ·intro v hv;simp only[List.mem_cons,List.not_mem_nil,or_false]at hv;rcases hv with rfl|rfl
  ·exact e0 _ (by simp)
  exact e1 _ (by simp)
 simp only[List.map_cons,List.map_nil,Rows.uptoBulk,Rows.uptoBulkAll];omega⟩
instance:Sx ah 26 2:=⟨by kernel_rfl⟩
set_option maxRecDepth 100000 in
instance:AP ah 26 eQ (λ(z:Qr)=>((True/\(z.num.w.length*4<=140737488351232/\∀x1∈z.num.w,x1<4294967296))/\(True/\(z.den.w.length*4<=140737488351232/\∀x1∈z.den.w,x1<4294967296)))) (λ(z:Qr)=>((1+((z.num.w.map λx1=>1).sum+1)+1)+(1+((z.den.w.map λx1=>1).sum+1)+1)+1)):=⟨λenc W fuel cs d p h yQ=>by
 obtain⟨xs,n,rfl,hl,hn,hf⟩:=BU h yQ;have hl:cs.length=4:=hl.trans (by kernel_rfl)
 match xs,hn with
 |[⟨d0,p0⟩,⟨d1,p1⟩],_=>
 match cs,hl with
 |[c0,c1,c2,c3],_=>
 have t0:DataW.trod enc ah W 0 (λ_=>true) true n 24 [c0,c1]=some (d0,p0):=(by have q:=(hf 0 _ _ inferInstance).1;rw[show Try.prog.cellsOf 24=2 by kernel_rfl]at q;exact q);obtain⟨x0,a0,b0,e0,s0⟩:=AP.h (P:=ah) (T:=24) (e:=eZ) enc W n _ d0 p0 t0 ((hf 0 _ _ inferInstance).2 _ Y);have t1:DataW.trod enc ah W 0 (λ_=>true) true n 24 [c2,c3]=some (d1,p1):=(by have q:=(hf 1 _ _ inferInstance).1;rw[show Try.prog.cellsOf 24=2 by kernel_rfl]at q;exact q);obtain⟨x1,a1,b1,e1,s1⟩:=AP.h (P:=ah) (T:=24) (e:=eZ) enc W n _ d1 p1 t1 ((hf 1 _ _ inferInstance).2 _ Y);refine⟨⟨x0,x1⟩,⟨a0,a1⟩,⟨b0.1,b0.2.1,b1.1,b1.2.1,aq⟩,?_,?_⟩
 ·intro v hv;simp only[List.mem_cons,List.not_mem_nil,or_false]at hv;rcases hv with rfl|rfl|rfl|rfl
  ·exact e0 _ (by simp)
  ·exact e0 _ (by simp)
  ·exact e1 _ (by simp)
  exact e1 _ (by simp)
 simp only[List.map_cons,List.map_nil,Rows.uptoBulk,Rows.uptoBulkAll];omega⟩
end
end Go.Proofs.Ytmiflmkdaeianaa
namespace Go.Fw
section
open Go.RowKit
theorem CM{S:AS}(i o k:Nat)(E0:TypeId)(sz:Nat){T:TypeId}{cells:List AV}(hb:S.b i=some ⟨T,cells⟩)(hc:cells[o]? =some (.sv (.v (.slice none 0 0))))(hk:S.r k=.un)(Nz:k<1000):
  my S ((AS.bC [(k,.live ⟨E0,sz,0,[]⟩)] S).gC i ⟨T,cells.set o (.row k)⟩):=by
 rintro C a w ⟨E,h⟩;have h1:=h.newRow hk Nz [] none (.inl ⟨Y,Y⟩) (R':=⟨E0,sz,0,[]⟩) (World.ownsRow_nil w 0 E0 sz) (vs':=[]) trivial (.inl Y) (lH w none);have xj:(AS.bC [(k,.live ⟨E0,sz,0,[]⟩)] S).b i=some ⟨T,cells⟩:=hb;have ZY:(AS.bC [(k,.live ⟨E0,sz,0,[]⟩)] S).r k≠ .un:=by
  show(AS.kR S k _).r k≠_;rw[AS.eM];simp
 refine⟨_,{h1 with wf:=?_,bx:=λj B hB=>?_,inj:=λj j' B B' hB dL e=>?_,rx:=λj R hR=>?_}⟩
 ·refine⟨λt j hj=>?_,h1.wf.tr,λj B hB x hx m hm=>?_,λj B hB x hx m hm=>?_⟩
  ·obtain⟨B,hB⟩:=h1.wf.tb t j hj;by_cases e:j=i
   ·subst e;exact⟨_,AS.cw _ _ _⟩
   exact⟨B,by rw[AS.bA _ _ _ _ e];exact hB⟩
  ·have key:∃B',(AS.bC [(k,.live ⟨E0,sz,0,[]⟩)] S).b m=some B':=by
    by_cases e:j=i
    ·subst e;rw[AS.cw]at hB;cases hB;rcases List.mem_or_eq_of_mem_set hx with hx|rfl
     ·exact h1.wf.bb j _ xj x hx m hm
     exact hm.elim
    rw[AS.bA _ _ _ _ e]at hB;exact h1.wf.bb j B hB x hx m hm
   obtain⟨B',dL⟩:=key;by_cases e:m=i
   ·subst e;exact⟨_,AS.cw _ _ _⟩
   exact⟨B',by rw[AS.bA _ _ _ _ e];exact dL⟩
  by_cases e:j=i
  ·subst e;rw[AS.cw]at hB;cases hB;rcases List.mem_or_eq_of_mem_set hx with hx|rfl
   ·exact h1.wf.br j _ xj x hx m hm
   cases hm;exact ZY
  rw[AS.bA _ _ _ _ e]at hB;exact h1.wf.br j B hB x hx m hm
 ·by_cases e:j=i
  ·subst e;rw[AS.cw]at hB;cases hB;obtain⟨q1,q2,q3,vs,q4,q5⟩:=h1.bx j _ xj;refine⟨q1,q2,q3,vs,q4,?_⟩;obtain⟨x,hx,hv⟩:=q5.get hc;have hv:x=.slice none 0 0:=hv;have:=cj.set (i:=o) (s:=.row k) (x:=x) q5 (by
    show x=if k=k then _ else _;rw[if_pos rfl];exact hv)
   have he:vs.set o x=vs:=by
    apply List.ext_getElem?;intro n;rw[List.getElem?_set];split
    ·rename_i hn;subst hn;rw[hx];split<;>rename_i hl
     ·rfl
     have:=(List.getElem?_eq_some_iff.1 hx).1;exact absurd this hl
    rfl
   rwa[he]at this
  rw[AS.bA _ _ _ _ e]at hB;exact h1.bx j B hB
 ·have old:∀n B,((AS.bC [(k,.live ⟨E0,sz,0,[]⟩)] S).gC i ⟨T,cells.set o (.row k)⟩).b n=some B->∃B',(AS.bC [(k,.live ⟨E0,sz,0,[]⟩)] S).b n=some B':=λn B hn=>by
   by_cases e:n=i
   ·subst e;exact⟨_,xj⟩
   rw[AS.bA _ _ _ _ e]at hn;exact⟨B,hn⟩
  obtain⟨B1,p1⟩:=old j B hB;obtain⟨B2,p2⟩:=old j' B' dL;exact h1.inj j j' B1 B2 p1 p2 e
 obtain⟨p1,p2⟩:=h1.rx j R hR;refine⟨p1,λg hg=>?_⟩;obtain⟨p3,p4,p5,p6⟩:=p2 g hg;refine⟨p3,p4,p5,λn B hn=>?_⟩;by_cases e:n=i
 ·subst e;exact p6 n _ xj
 rw[AS.bA _ _ _ _ e]at hn;exact p6 n B hn
end
section
open Go.RowKit
section part
variable {P:Program}{C:Ctx}{ops:Array Oper}{acts:List Ac}{S:AS}
theorem pg(listed:Array Bool)(i:Nat)(hs:listed.size=ops.size)(hi:i<ops.size):listed.getD i true=listed.getD i false:=by
 rw[Array.getD_eq_getD_getElem?,Array.getD_eq_getD_getElem?];rw[Array.getElem?_eq_getElem (by omega)];rfl
end part
end
end Go.Fw
namespace Go.Fw.Z
section
open Go.Fw
theorem T{d n:Nat}(h:Nat.ble (d+1) n=true:=by exact rfl):d<n:=tl h
theorem bE{α β:Type}{x:Option α}{f:α->Option β}{r:β}{G:Prop}(h:Option.bind x f=some r)(k:∀a,x=some a->f a=some r->G):G:=by obtain⟨a,h1,h2⟩:=bind_some h;exact k a h1 h2
theorem lE{α β:Type}{v:α}{f:α->Option β}{r:β}{G:Prop}(h:Option.bind (some v) f=some r)(k:∀a,v=a->f a=some r->G):G:=k v Y h
theorem bS{α β:Type}{x:Option α}{f:α->Option β}{r:β}(h:Option.bind x f=some r):∃a,x=some a/\f a=some r:=bind_some h
theorem F{α:Type}{x y:Option α}{r:α}(h:(bif false then x else y)=some r):y=some r:=h
theorem V{α:Type}{x y:Option α}{r:α}(h:(bif true then x else y)=some r):x=some r:=h
theorem O{α:Type}{a b:α}(h:some a=some b):a=b:=Option.some.inj h
def rQ(l:List (Nat×Nat))(i:Nat):Nat:=((l.find? λp=>Nat.beq p.1 i).map (·.2)).getD i
def Sy(l:List (Nat×Nat)):AV->AV
 |.row i=>.row (rQ l i)
 |.jg i o n=>.jg (rQ l i) o n
 |x=>x
def Sz:AV->Bool
 |.eR _ _=>false
 |.cmp _ _=>false
 |_=>true
theorem YK(l:List (Nat×Nat)){x:AV}(h:Sz x=true):CC (rQ l) (Sy l x) x:=by
 cases x with
 |sv s=>exact .sv au
 |ptr i o=>exact .ptr
 |yl i o n c=>exact .yl
 |row i=>exact .row Y
 |eR i k=>cases h
 |jg i o n=>exact .jg Y
 |eX g js=>exact .eX
 |cmp t js=>cases h
theorem NW(l:List (Nat×Nat)):∀{xs:List AV},(xs.all Sz)=true->AB (rQ l) (xs.map (Sy l)) xs
 |[],_=>trivial
 |x::xs,h=>by simp only[List.all_cons,Bool.and_eq_true]at h;exact⟨YK l h.1,NW l h.2⟩
theorem wR(l:List (Nat×Nat)){S:AS}{n:Nat}{ts:List (Nat×AV)}{bs:List (Nat×jx)}{rs:List (Nat×Row)}{g:Nat}{go:Bool}
  (ht:ts.map (λp=>S.t p.1)=ts.map (λp=>Sy l p.2):=by exact rfl) (hb:bs.map (λp=>S.b p.1)=bs.map (λp=>some ⟨p.2.T,p.2.cells.map (Sy l)⟩):=by exact rfl) (hr:rs.map (λp=>S.r (rQ l p.1))=rs.map (λp=>.live p.2):=by exact rfl)
  (hn:S.n=n:=by exact rfl) (hg:S.g=g:=by exact rfl) (Gt:S.go=go:=by exact rfl)
  (hwf:((ts.all λp=>p.2.kD bs rs)&&(bs.all λp=>p.2.cells.all λx=>x.kD bs rs))=true:=by exact rfl) (hσ:((rs.all λp=>rs.all λq=>!(Nat.beq (rQ l p.1) (rQ l q.1))||Nat.beq p.1 q.1))=true:=by exact rfl)
  (hno:((ts.all λp=>Sz p.2)&&(bs.all λp=>p.2.cells.all Sz))=true:=by exact rfl) (hl:(l.all λp=>Nat.ble (p.1+1) 1000)=true:=by exact rfl):my S (AS.dR n ts bs rs g go):=by
 simp only[Bool.and_eq_true,List.all_eq_true]at hno;refine iO (rQ l) hn hg Gt hwf hσ ?_ ?_ ?_ ?_
 ·clear hwf hb hr;obtain⟨h,-⟩:=hno
  induction ts with
  |nil=>trivial
  |cons p ts ih=>
   obtain⟨k,x⟩:=p;simp only[List.map_cons,List.cons.injEq]at ht;refine⟨?_,ih ht.2 (λq hq=>h q (by simp[hq]))⟩;show CC _ (S.t k) x;rw[ht.1];exact YK l (h (k,x) (by simp))
 ·clear hwf ht hr;obtain⟨-,h⟩:=hno
  induction bs with
  |nil=>trivial
  |cons p bs ih=>
   obtain⟨k,x⟩:=p;simp only[List.map_cons,List.cons.injEq]at hb;exact⟨⟨_,hb.1,NW l (List.all_eq_true.2 (h (k,x) (by simp)))⟩,ih hb.2 (λq hq=>h q (by simp[hq]))⟩
 ·clear hwf ht hb hσ
  induction rs with
  |nil=>trivial
  |cons p rs ih=>
   obtain⟨k,x⟩:=p;simp only[List.map_cons,List.cons.injEq]at hr;exact⟨⟨_,hr.1,dO.refl _⟩,ih hr.2⟩
 intro i hi;unfold rQ;have:l.find? (λp=>Nat.beq p.1 i)=none:=by
  rw[List.find?_eq_none];intro p hp e;have h1:=af (List.all_eq_true.1 hl p hp);have h2:=Nat.eq_of_beq_eq_true e;omega
 rw[this];rfl
section
variable {P:Program}{C:Ctx}{S:AS}{Q:Exit->AS->Prop}
theorem qq{x y:Code}(h:Ok P C x S (aV (λS'=>Ok P C y S' Q) Q)):Ok P C (.seq x y) S Q:=cg h
theorem sr{id:Nat}{ops:Array Oper}{y:Code}(h:RunT P C ops true (λ_ S=>aV (λS'=>Ok P C y S' Q) Q .normal S) ops.toList [] S):Ok P C (.seq (.region id ops false) y) S Q:=cg (aZ h)
theorem dn{ops:Array Oper}{acc:List Ac}{next:AS->Prop}(h:next S):RunT P C ops true (λ_ S=>aV next Q .normal S) [] acc S:=h
theorem cF{c:Operand}{x y:Code}(hf:Ok P C y S Q)(hc:S.ev c=.sv (.v (.bool false)):=by exact rfl):Ok P C (.cond c x y) S Q:=iN hc hf
theorem cT{c:Operand}{x y:Code}(ht:Ok P C x S Q)(hc:S.ev c=.sv (.v (.bool true)):=by exact rfl):Ok P C (.cond c x y) S Q:=fM hc ht
theorem fs{c:Operand}{x:Code}{next:AS->Prop}(h:next S)(hc:S.ev c=.sv (.v (.bool false)):=by exact rfl):Ok P C (.cond c x .skip) S (aV next Q):=iN hc (bH h)
theorem R1{A:Prop}{e:Exit}{t:Nat}{s:SV}(h:S.t t=.sv s):(A\/e=e)/\DF P S [.tmp t] s:=⟨.inr Y,cS (.tmp h .nil) au⟩
theorem R2{A:Prop}{e:Exit}{t u:Nat}{s s':SV}(h:S.t t=.sv s)(h':S.t u=.sv s'):(A\/e=e)/\DF P S [.tmp t,.tmp u] (.rH [s,s']):=⟨.inr Y,cS (.tmp h (.tmp h' .nil)) au⟩
theorem RZ{A:Prop}{e:Exit}{rs:List ResultVar}{ss:List SV}{r:SV}(h:Dm P S rs ss)(h':SV.imp (DQ ss) r:=by exact au):(A\/e=e)/\DF P S rs r:=⟨.inr Y,cS h h'⟩
end
section
variable {P:Program}{C:Ctx}{ops:Array Oper}{S:AS}{nd:Bool}{K:List Ac->AS->Prop}{rest:List Oper}{acc:List Ac}
variable {gd:Option (Nat×Bool)}{rg:List Nat}{d:Nat}{ty:TypeId}{pos:String}{aft:Array Edge}{x y z:Operand}{T U:TypeId}{k:IntKind}{p q:Int}
theorem pF{s:SV}(hz:S.ev z=.sv s)(next:RunT P C ops nd K rest (⟨[]++(aW x++aW z),[],[],⟨some (d,.sv s),[],[]⟩⟩::acc) (S.set d (.sv s)))(hx:S.ev x=.sv (.v (.bool false)):=by exact rfl)(hd:d<S.n:=by exact tl Y):RunT P C ops nd K (⟨some d,.pick x y z,ty,pos,aft,none⟩::rest) acc S:=
 RT.Il .none hx hz hd next
theorem pT{s:SV}(hy:S.ev y=.sv s)(next:RunT P C ops nd K rest (⟨[]++(aW x++aW y),[],[],⟨some (d,.sv s),[],[]⟩⟩::acc) (S.set d (.sv s)))(hx:S.ev x=.sv (.v (.bool true)):=by exact rfl)(hd:d<S.n:=by exact tl Y):RunT P C ops nd K (⟨some d,.pick x y z,ty,pos,aft,none⟩::rest) acc S:=
 RT.Ik .none hx hy hd next
theorem mo{s:AV}(hx:S.ev x=s)(next:RunT P C ops nd K rest (⟨[]++aW x,[],[],⟨some (d,s),[],[]⟩⟩::acc) (S.set d s))(hd:d<S.n:=by exact tl Y):RunT P C ops nd K (⟨some d,.move x,ty,pos,aft,none⟩::rest) acc S:=
 RT.move .none hx hd next
theorem ad(c:Int)(hx:S.ev x=.sv (.v (.int k p)))(hy:S.ev y=.sv (.v (.int k q)))(hc:k.wrap (p+q)=c)(next:RunT P C ops nd K rest (⟨[]++(aW x++aW y),[],[],⟨some (d,.sv (.v (.int k c))),[],[]⟩⟩::acc) (S.set d (.sv (.v (.int k c)))))(hd:d<S.n:=by exact tl Y):RunT P C ops nd K (⟨some d,.binOp .add T x y U,ty,pos,aft,none⟩::rest) acc S:=
 RT.add .none c hx hy hd hc next
theorem cv{j:IntKind}[tT:gN P T j][tU:gN P U k](c:Int){k':IntKind}(hx:S.ev x=.sv (.v (.int k' p)))(hc:k.wrap p=c)(next:RunT P C ops nd K rest (⟨[]++aW x,[],[],⟨some (d,.sv (.v (.int k c))),[],[]⟩⟩::acc) (S.set d (.sv (.v (.int k c)))))(hd:d<S.n:=by exact tl Y):RunT P C ops nd K (⟨some d,.convert T U x,ty,pos,aft,none⟩::rest) acc S:=
 RT.conv .none c hx hd hc next
theorem ls(c:Bool)(hx:S.ev x=.sv (.v (.int k p)))(hy:S.ev y=.sv (.v (.int k q)))(hc:decide (p<q)=c)(next:RunT P C ops nd K rest (⟨[]++(aW x++aW y),[],[],⟨some (d,.sv (.v (.bool c))),[],[]⟩⟩::acc) (S.set d (.sv (.v (.bool c)))))(hd:d<S.n:=by exact tl Y):RunT P C ops nd K (⟨some d,.binOp .lss T x y U,ty,pos,aft,none⟩::rest) acc S:=
 RT.lss .none c hx hy hd hc next
theorem sb(c:Int)(hx:S.ev x=.sv (.v (.int k p)))(hy:S.ev y=.sv (.v (.int k q)))(hc:k.wrap (p-q)=c)(next:RunT P C ops nd K rest (⟨[]++(aW x++aW y),[],[],⟨some (d,.sv (.v (.int k c))),[],[]⟩⟩::acc) (S.set d (.sv (.v (.int k c)))))(hd:d<S.n:=by exact tl Y):RunT P C ops nd K (⟨some d,.binOp .sub T x y U,ty,pos,aft,none⟩::rest) acc S:=
 RT.sub .none c hx hy hd hc next
theorem an{s:AV}(hx:S.ev x=s)(next:RunT P C ops nd K rest (⟨[]++aW x,[],[],⟨some (d,s),[],[]⟩⟩::acc) (S.set d s))(hd:d<S.n:=by exact tl Y):RunT P C ops nd K (⟨some d,.assign x,ty,pos,aft,none⟩::rest) acc S:=
 RT.assign .none hx hd next
theorem gt(c:Bool)(hx:S.ev x=.sv (.v (.int k p)))(hy:S.ev y=.sv (.v (.int k q)))(hc:decide (q<p)=c)(next:RunT P C ops nd K rest (⟨[]++(aW x++aW y),[],[],⟨some (d,.sv (.v (.bool c))),[],[]⟩⟩::acc) (S.set d (.sv (.v (.bool c)))))(hd:d<S.n:=by exact tl Y):RunT P C ops nd K (⟨some d,.binOp .gtr T x y U,ty,pos,aft,none⟩::rest) acc S:=
 RT.gtr .none c hx hy hd hc next
theorem eq(c:Bool)(hx:S.ev x=.sv (.v (.int k p)))(hy:S.ev y=.sv (.v (.int k q)))(hc:(p==q)=c)(next:RunT P C ops nd K rest (⟨[]++(aW x++aW y),[],[],⟨some (d,.sv (.v (.bool c))),[],[]⟩⟩::acc) (S.set d (.sv (.v (.bool c)))))(hd:d<S.n:=by exact tl Y):RunT P C ops nd K (⟨some d,.binOp .eql T x y U,ty,pos,aft,none⟩::rest) acc S:=
 RT.eql .none c hx hy hd hc next
theorem ne(c:Bool)(hx:S.ev x=.sv (.v (.int k p)))(hy:S.ev y=.sv (.v (.int k q)))(hc:(p != q)=c)(next:RunT P C ops nd K rest (⟨[]++(aW x++aW y),[],[],⟨some (d,.sv (.v (.bool c))),[],[]⟩⟩::acc) (S.set d (.sv (.v (.bool c)))))(hd:d<S.n:=by exact tl Y):RunT P C ops nd K (⟨some d,.binOp .neq T x y U,ty,pos,aft,none⟩::rest) acc S:=
 RT.neq .none c hx hy hd hc next
theorem ge(c:Bool)(hx:S.ev x=.sv (.v (.int k p)))(hy:S.ev y=.sv (.v (.int k q)))(hc:decide (q<=p)=c)(next:RunT P C ops nd K rest (⟨[]++(aW x++aW y),[],[],⟨some (d,.sv (.v (.bool c))),[],[]⟩⟩::acc) (S.set d (.sv (.v (.bool c)))))(hd:d<S.n:=by exact tl Y):RunT P C ops nd K (⟨some d,.binOp .geq T x y U,ty,pos,aft,none⟩::rest) acc S:=
 RT.geq .none c hx hy hd hc next
theorem nt{b:Bool}(hx:S.ev x=.sv (.v (.bool b)))(c:Bool)(hc:(!b)=c)(next:RunT P C ops nd K rest (⟨[]++aW x,[],[],⟨some (d,.sv (.v (.bool c))),[],[]⟩⟩::acc) (S.set d (.sv (.v (.bool c)))))(hd:d<S.n:=by exact tl Y):RunT P C ops nd K (⟨some d,.unOp .not T x,ty,pos,aft,none⟩::rest) acc S:=
 RT.not .none hx hd c hc next
theorem gF{j_ g_:Nat}{ec:Bool}{s:SV}(hz:S.ev z=.sv s)(next:RunT P C ops nd K rest (⟨[g_]++(aW x++aW z),[],[],⟨some (d,.sv s),[],[]⟩⟩::acc) (S.set d (.sv s)))(vF:(ops[j_]?).bind (·.dst)=some g_:=by exact rfl)(vG:S.t g_=.sv (.v (.bool ec)):=by exact rfl)(hx:S.ev x=.sv (.v (.bool false)):=by exact rfl)(hd:d<S.n:=by exact tl Y):RunT P C ops nd K (⟨some d,.pick x y z,ty,pos,aft,some (j_,ec)⟩::rest) acc S:=
 RT.Il (.some vF vG) hx hz hd next
theorem gT{j_ g_:Nat}{ec:Bool}{s:SV}(hy:S.ev y=.sv s)(next:RunT P C ops nd K rest (⟨[g_]++(aW x++aW y),[],[],⟨some (d,.sv s),[],[]⟩⟩::acc) (S.set d (.sv s)))(vF:(ops[j_]?).bind (·.dst)=some g_:=by exact rfl)(vG:S.t g_=.sv (.v (.bool ec)):=by exact rfl)(hx:S.ev x=.sv (.v (.bool true)):=by exact rfl)(hd:d<S.n:=by exact tl Y):RunT P C ops nd K (⟨some d,.pick x y z,ty,pos,aft,some (j_,ec)⟩::rest) acc S:=
 RT.Ik (.some vF vG) hx hy hd next
theorem gq{j_ g_:Nat}{ec:Bool}(c:Bool)(hx:S.ev x=.sv (.v (.int k p)))(hy:S.ev y=.sv (.v (.int k q)))(hc:(p != q)=c)(next:RunT P C ops nd K rest (⟨[g_]++(aW x++aW y),[],[],⟨some (d,.sv (.v (.bool c))),[],[]⟩⟩::acc) (S.set d (.sv (.v (.bool c)))))(vF:(ops[j_]?).bind (·.dst)=some g_:=by exact rfl)(vG:S.t g_=.sv (.v (.bool ec)):=by exact rfl)(hd:d<S.n:=by exact tl Y):RunT P C ops nd K (⟨some d,.binOp .neq T x y U,ty,pos,aft,some (j_,ec)⟩::rest) acc S:=
 RT.neq (.some vF vG) c hx hy hd hc next
theorem gg{j_ g_:Nat}{ec:Bool}(c:Bool)(hx:S.ev x=.sv (.v (.int k p)))(hy:S.ev y=.sv (.v (.int k q)))(hc:decide (q<p)=c)(next:RunT P C ops nd K rest (⟨[g_]++(aW x++aW y),[],[],⟨some (d,.sv (.v (.bool c))),[],[]⟩⟩::acc) (S.set d (.sv (.v (.bool c)))))(vF:(ops[j_]?).bind (·.dst)=some g_:=by exact rfl)(vG:S.t g_=.sv (.v (.bool ec)):=by exact rfl)(hd:d<S.n:=by exact tl Y):RunT P C ops nd K (⟨some d,.binOp .gtr T x y U,ty,pos,aft,some (j_,ec)⟩::rest) acc S:=
 RT.gtr (.some vF vG) c hx hy hd hc next
theorem BW{j_ g_:Nat}{ec:Bool}(c:Bool)(hx:S.ev x=.sv (.v (.int k p)))(hy:S.ev y=.sv (.v (.int k q)))(hc:(p==q)=c)(next:RunT P C ops nd K rest (⟨[g_]++(aW x++aW y),[],[],⟨some (d,.sv (.v (.bool c))),[],[]⟩⟩::acc) (S.set d (.sv (.v (.bool c)))))(vF:(ops[j_]?).bind (·.dst)=some g_:=by exact rfl)(vG:S.t g_=.sv (.v (.bool ec)):=by exact rfl)(hd:d<S.n:=by exact tl Y):RunT P C ops nd K (⟨some d,.binOp .eql T x y U,ty,pos,aft,some (j_,ec)⟩::rest) acc S:=
 RT.eql (.some vF vG) c hx hy hd hc next
theorem U6{j_ g_:Nat}{ec:Bool}{b:Bool}(hx:S.ev x=.sv (.v (.bool b)))(c:Bool)(hc:(!b)=c)(next:RunT P C ops nd K rest (⟨[g_]++aW x,[],[],⟨some (d,.sv (.v (.bool c))),[],[]⟩⟩::acc) (S.set d (.sv (.v (.bool c)))))(vF:(ops[j_]?).bind (·.dst)=some g_:=by exact rfl)(vG:S.t g_=.sv (.v (.bool ec)):=by exact rfl)(hd:d<S.n:=by exact tl Y):RunT P C ops nd K (⟨some d,.unOp .not T x,ty,pos,aft,some (j_,ec)⟩::rest) acc S:=
 RT.not (.some vF vG) hx hd c hc next
end
section
variable {P:Program}{C:Ctx}{ops:Array Oper}{S:AS}{nd:Bool}{K:List Ac->AS->Prop}{rest:List Oper}{acc:List Ac}
variable {gd:Option (Nat×Bool)}{rg:List Nat}{d:Nat}{ty:TypeId}{pos:String}{aft:Array Edge}{x y z:Operand}{T U E0:TypeId}
theorem mv{s:SV}(hx:S.ev x=.sv s)(next:RunT P C ops nd K rest (⟨[]++aW x,[],[],⟨some (d,.sv s),[],[]⟩⟩::acc) (S.set d (.sv s)))(hd:d<S.n:=by exact tl Y):RunT P C ops nd K (⟨some d,.move x,ty,pos,aft,none⟩::rest) acc S:=
 RT.mv .none hx hd next
theorem ag{s:SV}(hx:S.ev x=.sv s)(next:RunT P C ops nd K rest (⟨[]++aW x,[],[],⟨some (d,.sv s),[],[]⟩⟩::acc) (S.set d (.sv s)))(hd:d<S.n:=by exact tl Y):RunT P C ops nd K (⟨some d,.assign x,ty,pos,aft,none⟩::rest) acc S:=
 RT.AG .none hx hd next
theorem cl{f:FuncId}[eC P f]{g:Operand}{xs:Array Operand}{at_:Array TypeId}{args:List SV}{r:SV}(hp:Pure P f args r)(hargs:gh S xs.toList args)(next:RunT P C ops nd K rest (⟨[]++(aW g++xs.toList.flatMap aW),[],[],⟨some (d,.sv r),[],[]⟩⟩::acc) (S.set d (.sv r)))(hf:S.ev g=.sv (.v (.func (.func f) #[] #[])):=by exact rfl)(hd:d<S.n:=by exact tl Y):RunT P C ops nd K (⟨some d,.call ⟨.value g,xs,at_⟩,ty,pos,aft,none⟩::rest) acc S:=
 RT.call .none hp hf hargs hd next
theorem ld{n:Nat}[tA:rK P T n]{j off:Nat}{B:jx}{cs:List SV}(hx:S.ev x=.ptr j off)(hB:S.b j=some B)(hcs:Dl B.cells off cs)(next:RunT P C ops nd K rest (⟨[]++aW x,[j],[],⟨some (d,.sv (.agg cs)),[],[]⟩⟩::acc) (S.set d (.sv (.agg cs))))(hn:cs.length=n:=by exact rfl)(hd:d<S.n:=by exact tl Y):RunT P C ops nd K (⟨some d,.load T x,ty,pos,aft,none⟩::rest) acc S:=
 RT.load .none hx hB hcs hn hd next
theorem lV[tV:nF P T]{j off:Nat}{B:jx}{s:SV}(hx:S.ev x=.ptr j off)(hB:S.b j=some B)(hn:B.cells[off]? =some (.sv s))(next:RunT P C ops nd K rest (⟨[]++aW x,[j],[],⟨some (d,.sv s),[],[]⟩⟩::acc) (S.set d (.sv s)))(hd:d<S.n:=by exact tl Y):RunT P C ops nd K (⟨some d,.load T x,ty,pos,aft,none⟩::rest) acc S:=
 RT.KA .none hx hB hn hd next
theorem fa{f off:Nat}[hf:yn P T f off U][sU:yz P U]{j o:Nat}(hx:S.ev x=.ptr j o){o':Nat}(ho':o+off=o')(next:RunT P C ops nd K rest (⟨[]++aW x,[],[],⟨some (d,.ptr j o'),[],[]⟩⟩::acc) (S.set d (.ptr j o')))(hd:d<S.n:=by exact tl Y):RunT P C ops nd K (⟨some d,.fieldAddr T x f,ty,pos,aft,none⟩::rest) acc S:=
 RT.fieldAddr .none hx hd ho' next
theorem so{n:Nat}[tA:rK P T n]{j:Nat}{B:jx}{cs:List SV}[o1:tL cs](hx:S.ev x=.ptr j 0)(hB:S.b j=some B)(hy:S.ev y=.sv (.agg cs))(next:RunT P C ops nd K rest (⟨[]++(aW x++aW y),[j],[],⟨none,[(j,⟨B.T,cs.map AV.sv⟩)],[]⟩⟩::acc) (S.gC j ⟨B.T,cs.map AV.sv⟩))(qH:cs.length=n:=by exact rfl)(hn:B.cells.length=n:=by exact rfl):RunT P C ops nd K (⟨none,.store T x y,ty,pos,aft,none⟩::rest) acc S:=
 RT.store .none hx hB hy qH hn next
theorem ex{i:Nat}{ss:List SV}{s:SV}(hx:S.ev x=.sv (.rH ss))(hi:ss[i]? =some s)(next:RunT P C ops nd K rest (⟨[]++aW x,[],[],⟨some (d,.sv s),[],[]⟩⟩::acc) (S.set d (.sv s)))(hd:d<S.n:=by exact tl Y):RunT P C ops nd K (⟨some d,.extract x i,ty,pos,aft,none⟩::rest) acc S:=
 RT.extract .none hx hi hd next
theorem bx{cells:List SV}(hx:S.ev x=.sv (.agg cells))(next:RunT P C ops nd K rest (⟨[]++aW x,[d],[],⟨some (d,.ptr d 0),[(d,⟨T,cells.map AV.sv⟩)],[]⟩⟩::acc) ((S.gC d ⟨T,cells.map AV.sv⟩).set d (.ptr d 0)))(hd:d<S.n:=by exact tl Y)(hb:S.b d=none:=by exact rfl)(hp:C.eT d=none:=by exact rfl):RunT P C ops nd K (⟨some d,.box T x,ty,pos,aft,none⟩::rest) acc S:=
 RT.box .none hx hd hb hp next
theorem lr[tV:nF P T]{cells:List SV}{s:SV}(hx:S.ev x=.sv (ref cells))(hn:cells[0]? =some s)(next:RunT P C ops nd K rest (⟨[]++aW x,[],[],⟨some (d,.sv s),[],[]⟩⟩::acc) (S.set d (.sv s)))(hd:d<S.n:=by exact tl Y):RunT P C ops nd K (⟨some d,.load T x,ty,pos,aft,none⟩::rest) acc S:=
 RT.fF .none hx hn hd next
theorem cB{f:FuncId}[eC P f]{g:Operand}{xs:Array Operand}{at_:Array TypeId}{args:List SV}{T:TypeId}{c0 c1:List SV}{res:SV}(hp:Gz P f args T c0 res c1)(j:Nat)(hB:S.b j=some ⟨T,c0.map AV.sv⟩)(hargs:gh S xs.toList args)(next:RunT P C ops nd K rest (⟨[]++(aW g++xs.toList.flatMap aW),[j],[],⟨some (d,.sv res),[(j,⟨T,c1.map AV.sv⟩)],[]⟩⟩::acc) ((AS.dP [(j,⟨T,c1.map AV.sv⟩)] S).set d (.sv res)))(hf:S.ev g=.eX f [.box j]:=by exact rfl)(hd:d<S.n:=by exact tl Y):RunT P C ops nd K (⟨some d,.call ⟨.value g,xs,at_⟩,ty,pos,aft,none⟩::rest) acc S:=
 RT.Nv .none hp j hB hf hargs hd next
theorem cN{f:FuncId}[eC P f]{g:Operand}{xs:Array Operand}{at_:Array TypeId}{args:List SV}{R:Row}(hp:CH P f args R)(hargs:gh S xs.toList args)(next:RunT P C ops nd K rest (⟨[]++(aW g++xs.toList.flatMap aW),[],[d],⟨some (d,.row d),[],[(d,.live R)]⟩⟩::acc) ((AS.bC [(d,.live R)] S).set d (.row d)))(hf:S.ev g=.sv (.v (.func (.func f) #[] #[])):=by exact rfl)(hd:d<S.n:=by exact tl Y)(qJ:S.r d=.un:=by exact rfl)(o7:d<1000:=by exact tl Y):RunT P C ops nd K (⟨some d,.call ⟨.value g,xs,at_⟩,ty,pos,aft,none⟩::rest) acc S:=
 RT.Nu .none hp hf hargs hd qJ o7 next
theorem gm{j_ g_:Nat}{ec:Bool}{s:SV}(hx:S.ev x=.sv s)(next:RunT P C ops nd K rest (⟨[g_]++aW x,[],[],⟨some (d,.sv s),[],[]⟩⟩::acc) (S.set d (.sv s)))(vF:(ops[j_]?).bind (·.dst)=some g_:=by exact rfl)(vG:S.t g_=.sv (.v (.bool ec)):=by exact rfl)(hd:d<S.n:=by exact tl Y):RunT P C ops nd K (⟨some d,.move x,ty,pos,aft,some (j_,ec)⟩::rest) acc S:=
 RT.mv (.some vF vG) hx hd next
theorem gl{j_ g_:Nat}{ec:Bool}{n:Nat}[tA:rK P T n]{j off:Nat}{B:jx}{cs:List SV}(hx:S.ev x=.ptr j off)(hB:S.b j=some B)(hcs:Dl B.cells off cs)(next:RunT P C ops nd K rest (⟨[g_]++aW x,[j],[],⟨some (d,.sv (.agg cs)),[],[]⟩⟩::acc) (S.set d (.sv (.agg cs))))(vF:(ops[j_]?).bind (·.dst)=some g_:=by exact rfl)(vG:S.t g_=.sv (.v (.bool ec)):=by exact rfl)(hn:cs.length=n:=by exact rfl)(hd:d<S.n:=by exact tl Y):RunT P C ops nd K (⟨some d,.load T x,ty,pos,aft,some (j_,ec)⟩::rest) acc S:=
 RT.load (.some vF vG) hx hB hcs hn hd next
theorem gc{j_ g_:Nat}{ec:Bool}{f:FuncId}[eC P f]{g:Operand}{xs:Array Operand}{at_:Array TypeId}{args:List SV}{r:SV}(hp:Pure P f args r)(hargs:gh S xs.toList args)(next:RunT P C ops nd K rest (⟨[g_]++(aW g++xs.toList.flatMap aW),[],[],⟨some (d,.sv r),[],[]⟩⟩::acc) (S.set d (.sv r)))(vF:(ops[j_]?).bind (·.dst)=some g_:=by exact rfl)(vG:S.t g_=.sv (.v (.bool ec)):=by exact rfl)(hf:S.ev g=.sv (.v (.func (.func f) #[] #[])):=by exact rfl)(hd:d<S.n:=by exact tl Y):RunT P C ops nd K (⟨some d,.call ⟨.value g,xs,at_⟩,ty,pos,aft,some (j_,ec)⟩::rest) acc S:=
 RT.call (.some vF vG) hp hf hargs hd next
theorem gr{j_ g_:Nat}{ec:Bool}[tV:nF P T]{cells:List SV}{s:SV}(hx:S.ev x=.sv (ref cells))(hn:cells[0]? =some s)(next:RunT P C ops nd K rest (⟨[g_]++aW x,[],[],⟨some (d,.sv s),[],[]⟩⟩::acc) (S.set d (.sv s)))(vF:(ops[j_]?).bind (·.dst)=some g_:=by exact rfl)(vG:S.t g_=.sv (.v (.bool ec)):=by exact rfl)(hd:d<S.n:=by exact tl Y):RunT P C ops nd K (⟨some d,.load T x,ty,pos,aft,some (j_,ec)⟩::rest) acc S:=
 RT.fF (.some vF vG) hx hn hd next
end
section
variable {P:Program}{C:Ctx}{ops:Array Oper}{S:AS}{nd:Bool}{K:List Ac->AS->Prop}{rest:List Oper}{acc:List Ac}
variable {gd:Option (Nat×Bool)}{rg:List Nat}{d:Nat}{ty:TypeId}{pos:String}{aft:Array Edge}{x y z:Operand}{T U E0:TypeId}
variable {l l' k:KV}
theorem ww{op:Op}{j g:Nat}{b want:Bool}(next:RunT P C ops nd K rest (⟨[g],[],[],⟨some (d,.sv (.v undef)),[],[]⟩⟩::acc) (S.set d (.sv (.v undef))))(h1:(ops[j]?).bind (·.dst)=some g:=by exact rfl)(h2:S.t g=.sv (.v (.bool b)):=by exact rfl)(hb:b≠want:=by exact sk Y)(hd:d<S.n:=by exact tl Y):RunT P C ops nd K (⟨some d,op,ty,pos,aft,some (j,want)⟩::rest) acc S:=
 RT.ZR h1 h2 hb hd next
theorem wu{op:Op}{j g:Nat}{want:Bool}(next:RunT P C ops nd K rest (⟨[g],[],[],⟨some (d,.sv (.v undef)),[],[]⟩⟩::acc) (S.set d (.sv (.v undef))))(h1:(ops[j]?).bind (·.dst)=some g:=by exact rfl)(h2:S.t g=.sv (.v undef):=by exact rfl)(hd:d<S.n:=by exact tl Y):RunT P C ops nd K (⟨some d,op,ty,pos,aft,some (j,want)⟩::rest) acc S:=
 RT.NR h1 h2 hd next
end
section
variable {P:Program}{C:Ctx}{ops:Array Oper}{S:AS}{nd:Bool}{K:List Ac->AS->Prop}{rest:List Oper}{acc:List Ac}
variable {gd:Option (Nat×Bool)}{rg:List Nat}{d:Nat}{ty:TypeId}{pos:String}{aft:Array Edge}{x y z:Operand}{T U E0:TypeId}
variable {α:Type}{l l' k:List α}{e:α->List SV}{n by_:Nat}{zv:Value}
theorem ln{m:Nat}[tS:dQ P T E0 m]{c:Int}(hx:S.ev x=.sv (slc n (l.map e)))(hc:(l.length:Int)=c)(next:RunT P C ops nd K rest (⟨[]++aW x,[],[],⟨some (d,.sv (.v (.int .i64 c))),[],[]⟩⟩::acc) (S.set d (.sv (.v (.int .i64 c)))))(hd:d<S.n:=by exact tl Y):RunT P C ops nd K (⟨some d,.call ⟨.builtin .len,#[x],#[T]⟩,ty,pos,aft,none⟩::rest) acc S:=
 RT.NL .none hx hd hc next
theorem al[tz:iE P T zv]{cs:List SV}(hi:dO (zv.cells.toList.map SV.v) cs){av:List AV}(UW:cs.map AV.sv=av)(next:RunT P C ops nd K rest (⟨[]++[],[d],[],⟨some (d,.ptr d 0),[(d,⟨T,av⟩)],[]⟩⟩::acc) ((S.gC d ⟨T,av⟩).set d (.ptr d 0)))(hd:d<S.n:=by exact tl Y)(hb:S.b d=none:=by exact rfl)(hp:C.eT d=none:=by exact rfl):RunT P C ops nd K (⟨some d,.alloc T,ty,pos,aft,none⟩::rest) acc S:=
 RT.KT .none hi UW hd hb hp next
theorem ix[tS:dQ P T E0 n]{kk:IntKind}{i:Int}{a:α}(hx:S.ev x=.sv (slc n (l.map e)))(hy:S.ev y=.sv (.v (.int kk i)))(ha:ek l i=some a)(next:RunT P C ops nd K rest (⟨[]++(aW x++aW y),[],[],⟨some (d,.sv (ref (e a))),[],[]⟩⟩::acc) (S.set d (.sv (ref (e a)))))(hd:d<S.n:=by exact tl Y):RunT P C ops nd K (⟨some d,.indexAddr T x y,ty,pos,aft,none⟩::rest) acc S:=
 RT.NN .none hx hy hd ha next
theorem bl[tS:dQ P T E0 n][tE:gU P E0 n by_ zv]{len:Nat}{parts:Array (Nat×Operand)}{qs:List (Nat×List SV)}(hp:ji S parts.toList qs)(hc:kE 0 qs=true)(hl:qs.length=len)(hsz:(qs.all λq=>Nat.beq q.2.length n)=true)(hlen:Nat.ble (len*n) 16777216=true)(CF:(zv.cells.toList.all λv=>v.oneCell')=true)(gP:qs.map (·.2)=l.map e)(next:RunT P C ops nd K rest (⟨[]++gZ parts.toList,[],[],⟨some (d,.sv (slc n (l.map e))),[],[]⟩⟩::acc) (S.set d (.sv (slc n (l.map e)))))(hd:d<S.n:=by exact tl Y):RunT P C ops nd K (⟨some d,.buildSlice T len parts,ty,pos,aft,none⟩::rest) acc S:=
 RT.GJ .none hp hd hc hl hsz hlen CF gP next
theorem iR[tS:dQ P T E0 n]{i j:Nat}{E1:TypeId}{kk:IntKind}{v:Int}(hx:S.ev x=.row i)(hR:S.r i=.live (TR E1 n e l))(hy:S.ev y=.sv (.v (.int kk v)))(h:qN l v=some j)(next:RunT P C ops nd K rest (⟨[]++(aW x++aW y),[],[i],⟨some (d,.eR i (j*n)),[],[]⟩⟩::acc) (S.set d (.eR i (j*n))))(hd:d<S.n:=by exact tl Y):RunT P C ops nd K (⟨some d,.indexAddr T x y,ty,pos,aft,none⟩::rest) acc S:=
 RT.UY .none hx hR hy hd h next
theorem aI{s X:SV}(hx:S.ev x=.sv s)(hi:SV.imp s X)(next:RunT P C ops nd K rest (⟨[]++aW x,[],[],⟨some (d,.sv X),[],[]⟩⟩::acc) (S.set d (.sv X)))(hd:d<S.n:=by exact tl Y):RunT P C ops nd K (⟨some d,.assign x,ty,pos,aft,none⟩::rest) acc S:=
 RT.UU .none hx hi hd next
theorem bI{pl:List (Nat×Nat)}{zc:List Value}[tP:gp P T pl zc]{parts:Array (Nat×Operand)}{qs:List (Nat×List SV)}(hp:ji S parts.toList qs){cs cs':List SV}(hi:dO cs cs')(next:RunT P C ops nd K rest (⟨[]++gZ parts.toList,[],[],⟨some (d,.sv (.agg cs')),[],[]⟩⟩::acc) (S.set d (.sv (.agg cs'))))(hf:oe (λi=>pl[i]?) (zc.map SV.v) qs=some cs:=by exact rfl)(hd:d<S.n:=by exact tl Y):RunT P C ops nd K (⟨some d,.build T parts,ty,pos,aft,none⟩::rest) acc S:=
 RT.KU .none hp hf hi hd next
theorem lR[tV:nF P T][el:EL e 1]{i j:Nat}{E1:TypeId}{a:α}{s:SV}(hx:S.ev x=.eR i (j*1))(hR:S.r i=.live (TR E1 1 e l))(ha:l[j]? =some a)(hs:e a=[s])(next:RunT P C ops nd K rest (⟨[]++aW x,[],[i],⟨some (d,.sv s),[],[]⟩⟩::acc) (S.set d (.sv s)))(hd:d<S.n:=by exact tl Y):RunT P C ops nd K (⟨some d,.load T x,ty,pos,aft,none⟩::rest) acc S:=
 RT.NO .none hx hR ha hs hd next
theorem aR[tS:dQ P T E0 n][tE:gU P E0 n by_ zv]{i:Nat}(hx:S.ev x=.row i)(hR:S.r i=.live (TR E0 n e l))(hy:S.ev y=.sv (slc n (k.map e)))(h:xm by_ l k=some l')(next:RunT P C ops nd K rest (⟨[]++(aW x++aW y),[],[i,d],⟨some (d,.row d),[],[(i,.dead),(d,.live (TR E0 n e l'))]⟩⟩::acc) ((AS.bC [(i,.dead),(d,.live (TR E0 n e l'))] S).set d (.row d)))(hd:d<S.n:=by exact tl Y)(qJ:S.r d=.un:=by exact rfl)(o7:d<1000:=by exact tl Y):RunT P C ops nd K (⟨some d,.call ⟨.builtin .append,#[x,y],#[T,T]⟩,ty,pos,aft,none⟩::rest) acc S:=
 RT.ZP .none hx hR hy hd qJ o7 h next
theorem lA[tA:rK P T n][el:EL e n]{i j:Nat}{E1:TypeId}{a:α}(hx:S.ev x=.eR i (j*n))(hR:S.r i=.live (TR E1 n e l))(ha:l[j]? =some a)(next:RunT P C ops nd K rest (⟨[]++aW x,[],[i],⟨some (d,.sv (.agg (e a))),[],[]⟩⟩::acc) (S.set d (.sv (.agg (e a)))))(hd:d<S.n:=by exact tl Y):RunT P C ops nd K (⟨some d,.load T x,ty,pos,aft,none⟩::rest) acc S:=
 RT.NP .none hx hR ha hd next
theorem sR[tV:nF P T][el:EL e 1]{i j:Nat}{E1:TypeId}{s:SV}[o1:One s](a:α)(hs:e a=[s])(hx:S.ev x=.eR i (j*1))(hR:S.r i=.live (TR E1 1 e l))(hy:S.ev y=.sv s)(h:stM l j a=some l')(next:RunT P C ops nd K rest (⟨[]++(aW x++aW y),[],[i],⟨none,[],[(i,.live (TR E1 1 e l'))]⟩⟩::acc) (AS.bC [(i,.live (TR E1 1 e l'))] S)):RunT P C ops nd K (⟨none,.store T x y,ty,pos,aft,none⟩::rest) acc S:=
 RT.UZ .none a hs hx hR hy h next
theorem sA[tA:rK P T n][el:EL e n]{i j:Nat}{E1:TypeId}(a:α)(hx:S.ev x=.eR i (j*n))(hR:S.r i=.live (TR E1 n e l))(hy:S.ev y=.sv (.agg (e a)))(h:stM l j a=some l')(next:RunT P C ops nd K rest (⟨[]++(aW x++aW y),[],[i],⟨none,[],[(i,.live (TR E1 n e l'))]⟩⟩::acc) (AS.bC [(i,.live (TR E1 n e l'))] S)):RunT P C ops nd K (⟨none,.store T x y,ty,pos,aft,none⟩::rest) acc S:=
 RT.NQ .none a hx hR hy h next
theorem lL{m:Nat}[tS:dQ P T E0 m]{i:Nat}{E1:TypeId}{c:Int}(hx:S.ev x=.row i)(hR:S.r i=.live (TR E1 n e l))(hc:(l.length:Int)=c)(next:RunT P C ops nd K rest (⟨[]++aW x,[],[i],⟨some (d,.sv (.v (.int .i64 c))),[],[]⟩⟩::acc) (S.set d (.sv (.v (.int .i64 c)))))(hd:d<S.n:=by exact tl Y):RunT P C ops nd K (⟨some d,.call ⟨.builtin .len,#[x],#[T]⟩,ty,pos,aft,none⟩::rest) acc S:=
 RT.NM .none hx hR hd hc next
theorem cR{f:FuncId}[eC P f]{g:Operand}{xs:Array Operand}{at_:Array TypeId}{args:List AV}{E1:TypeId}{res:AV}(hp:AI P f args (TR E1 n e l) res (l'.flatMap e))(hlen:l'.length=l.length)(i:Nat)(hR:S.r i=.live (TR E1 n e l))(hargs:oE S xs.toList (args.map (AV.rQ i)))(next:RunT P C ops nd K rest (⟨[]++(aW g++xs.toList.flatMap aW),[],[i],⟨some (d,res.rQ i),[],[(i,.live (TR E1 n e l'))]⟩⟩::acc) ((AS.bC [(i,.live (TR E1 n e l'))] S).set d (res.rQ i)))(hrow:args.all AV.qK=true:=by exact rfl)(hres:res.qK=true:=by exact rfl)(hf:S.ev g=.sv (.v (.func (.func f) #[] #[])):=by exact rfl)(hd:d<S.n:=by exact tl Y):RunT P C ops nd K (⟨some d,.call ⟨.value g,xs,at_⟩,ty,pos,aft,none⟩::rest) acc S:=
 RT.KZ .none hp hlen i hR hrow hres hf hargs hd next
theorem gn{j_ g_:Nat}{ec:Bool}{m:Nat}[tS:dQ P T E0 m]{c:Int}(hx:S.ev x=.sv (slc n (l.map e)))(hc:(l.length:Int)=c)(next:RunT P C ops nd K rest (⟨[g_]++aW x,[],[],⟨some (d,.sv (.v (.int .i64 c))),[],[]⟩⟩::acc) (S.set d (.sv (.v (.int .i64 c)))))(vF:(ops[j_]?).bind (·.dst)=some g_:=by exact rfl)(vG:S.t g_=.sv (.v (.bool ec)):=by exact rfl)(hd:d<S.n:=by exact tl Y):RunT P C ops nd K (⟨some d,.call ⟨.builtin .len,#[x],#[T]⟩,ty,pos,aft,some (j_,ec)⟩::rest) acc S:=
 RT.NL (.some vF vG) hx hd hc next
end
section
variable {P:Program}{C:Ctx}{ops:Array Oper}{S:AS}{nd:Bool}{K:List Ac->AS->Prop}{rest:List Oper}{acc:List Ac}
variable {gd:Option (Nat×Bool)}{rg:List Nat}{d:Nat}{ty:TypeId}{pos:String}{aft:Array Edge}{x y z:Operand}{T U E0 E1:TypeId}
theorem fl{f off:Nat}[hf:yn P T f off U][tV:nF P U]{cs:List SV}{s:SV}(hx:S.ev x=.sv (.agg cs))(hs:cs[off]? =some s)(next:RunT P C ops nd K rest (⟨[]++aW x,[],[],⟨some (d,.sv s),[],[]⟩⟩::acc) (S.set d (.sv s)))(hd:d<S.n:=by exact tl Y):RunT P C ops nd K (⟨some d,.field T x f,ty,pos,aft,none⟩::rest) acc S:=
 RT.field .none hx hs hd next
end
end
end Go.Fw.Z
namespace Go.Fw
section
open Go.RowKit
def Mem.fr(M:Mem)(N:Nat):Mem:=λb o=>if N<=b then M b o else none
theorem Mem.NX(M:Mem)(N:Nat):(M.fr N).le M:=λb o v h=>by
 unfold Mem.fr at h;split at h
 ·exact h
 cases h
theorem Mem.BX{M M':Mem}(h:M.le M')(N:Nat):(M.fr N).le (M'.fr N):=λb o v e=>by
 unfold Mem.fr at*;split at e
 ·rename_i hn;rw[if_pos hn];exact h b o v e
 cases e
def nw(N:Nat)(s:SV):SV:=⟨λM v=>s.h (M.fr N) v/\∀g,v.ownBlock=some g->∃o,M.fr N g o=some (.agg #[]),λhM h=>⟨s.mono (Mem.BX hM N) h.1,λg e=>by obtain⟨o,q⟩:=h.2 g e;exact⟨o,Mem.BX hM N _ _ _ q⟩⟩⟩
theorem dD{N:Nat}{s:SV}:SV.imp (nw N s) s:=λM _ h=>s.mono (Mem.NX M N) h.1
instance{N:Nat}{s:SV}{n:Nat}[h:So s n]:So (nw N s) n:=⟨λM v hv=>h.h M v (dD M v hv)⟩
instance{N:Nat}{s:SV}{n:Nat}{rows:List (List SV)}[h:Gr s n rows]:Gr (nw N s) n rows:=⟨λM v hv=>h.h M v (dD M v hv)⟩
instance{N:Nat}{s:SV}{n sz:Nat}{f:Nat->Nat->SV}[h:Sub s n sz f]:Sub (nw N s) n sz (λa b=>nw N (f a b)):=⟨λM v hv=>by
 obtain⟨a,c,e,hc,hs⟩:=h.h (M.fr N) v hv.1;refine⟨a,c,e,hc,λlo hi h1 h2=>⟨hs lo hi h1 h2,λg hg=>hv.2 g ?_⟩⟩;subst e;cases a with
 |none=>split at hg<;>cases hg
 |some a=>
  split at hg
  ·exact hg
  have e:(a.add (lo*sz)).block=a.block:=by unfold Addr.add;split<;>rfl
  rw[show(Value.slice (Option.map (λx=>x.add (lo*sz)) (some a)) (hi-lo) (c-lo)).ownBlock=some (a.add (lo*sz)).block from rfl,e]at hg;exact hg⟩
instance{N:Nat}{s:SV}[h:One s]:One (nw N s):=⟨λM v hv=>h.h _ v hv.1⟩
class YL (N:Nat) (s:SV):Prop where
 h:∀M v,s.h M v->s.h (M.fr N) v
instance{N:Nat}{x:Value}:YL N (.v x):=⟨λ_ _ h=>h⟩
class GU (N:Nat) (l:List SV):Prop where
 h:∀s∈l,∀M v,s.h M v->s.h (M.fr N) v
instance{N:Nat}:GU N []:=⟨λs h=>by cases h⟩
instance{N:Nat}{s:SV}{l:List SV}[a:YL N s][b:GU N l]:GU N (s::l):=⟨λt ht=>by
 rcases List.mem_cons.1 ht with rfl|ht
 ·exact a.h
 exact b.h t ht⟩
class CN (N:Nat) {α:Type} (e:α->List SV):Prop where
 h:∀x,GU N (e x)
instance{N:Nat}:CN N aX:=⟨λ_=>inferInstance⟩
abbrev fZ(N:Nat)(z:Zr):List SV:=[.v (.bool z.neg),nw N (slc 1 (z.w.map aX))]
abbrev fQ(N:Nat)(q:Qr):List SV:=[.v (.bool q.num.neg),nw N (slc 1 (q.num.w.map aX)),.v (.bool q.den.neg),nw N (slc 1 (q.den.w.map aX))]
theorem bk{α:Type}{N n:Nat}{e:α->List SV}:SV.imp (.v (.slice none 0 0)) (nw N (slc n (([]:List α).map e))):=λ_ _ h=>⟨.inl ⟨none,h,rfl⟩,λg e=>by rw[show _=Value.slice none 0 0 from h]at e;cases e⟩
theorem zI(N:Nat)(z:Zr):dO (fZ N z) (eZ z):=⟨au,dD,aq⟩
theorem qI(N:Nat)(q:Qr):dO (fQ N q) (eQ q):=⟨au,dD,au,dD,aq⟩
theorem xq{N n:Nat}{α:Type}{e:α->List SV}[he:CN N e]{l:List α}{M:Mem}{v:Value}(h:(slc n (l.map e)).h M v)(hb:∀g,v.ownBlock=some g->N<=g/\∃o,M g o=some (.agg #[])):(nw N (slc n (l.map e))).h M v:=by
 refine⟨?_,λg hg=>by obtain⟨h1,o,h2⟩:=hb g hg;exact⟨o,by unfold Mem.fr;rw[if_pos h1];exact h2⟩⟩;rcases h with⟨a,h1,h2⟩|⟨b,o,c,h1,h2,h3,h4⟩
 ·exact .inl ⟨a,h1,h2⟩
 have hN:N<=b:=(hb b (by rw[h1];rfl)).1;refine .inr ⟨b,o,c,h1,h2,h3,λi row hr=>⟨(h4 i row hr).1,λk s hs=>?_⟩⟩;obtain⟨y,hy,ho,hh⟩:=(h4 i row hr).2 k s hs;refine⟨y,by unfold Mem.fr;rw[if_pos hN];exact hy,ho,?_⟩;rw[List.getElem?_map]at hr;cases hx:l[i]? with
 |none=>rw[hx]at hr;cases hr
 |some x=>
  rw[hx]at hr;have hr:e x=row:=Option.some.inj hr;subst hr;exact(he.h x).h s (List.mem_of_getElem? hs) M y hh
section
variable {P:Program}{C:Ctx}{S:AS}{Q:Exit->AS->Prop}
theorem aY.GV{E:Env}{a:Act}{w:World}(h:aY C S E a w)(vs:List Value)(T:TypeId)(hone:∀v∈vs,v.oneCell'=true):aY C S {E with M:=λb o=>if b=w.heap.size then(vs++[.agg #[]])[o]? else E.M b o} a (w.alloc (.cells ⟨vs⟩ T)):=by
 have hno:∀o,E.M w.heap.size o=none:=λo=>by
  cases e:E.M w.heap.size o with
  |none=>rfl
  |some v=>have:=iZ h.cu e;omega
 refine h.grow (λb o v e=>?_) (λb o v e=>?_) (λb o v e=>?_) (((Below.refl _ _).alloc (Nat.le_refl _) _))
 ·have:b≠w.heap.size:=by rintro rfl;rw[hno o]at e;cases e
  simp[this,e]
 ·by_cases hb:b=w.heap.size
  ·exact .inr (by omega)
  simp only[if_neg hb]at e;exact .inl e
 by_cases hb:b=w.heap.size
 ·subst hb;simp only[if_true]at e;by_cases ho:o<vs.length
  ·rw[List.getElem?_append_left ho]at e;refine .of ?_ (hone v (List.mem_of_getElem? e));rw[World.cell?_alloc_new];simpa using e
  rw[List.getElem?_append_right (by omega)]at e;cases Dn:o-vs.length with
  |succ k=>rw[Dn]at e;simp at e
  |zero=>
   rw[Dn]at e;simp at e;subst e;exact⟨⟨vs⟩,T,by show(w.heap.push _)[w.heap.size]? =_;rw[Array.getElem?_push,if_pos rfl]⟩
 simp only[if_neg hb]at e;refine(h.cu b o v e).same ?_;show(w.heap.push _)[b]? =_;rw[Array.getElem?_push,if_neg hb]
theorem nI{c:Code}{i n N:Nat}{E1:TypeId}{α:Type}{e:α->List SV}{l:List α}[el:EL e n][he:CN N e](hN:N<=C.w0.heap.size)(hb:∀k,¬C.nD k)(hR:S.r i=.live (TR E1 n e l))(hk:Ok P C c (S.jh i (nw N (slc n (l.map e)))) Q):Ok P C c S Q:=λa w hs=>by
 obtain⟨E,h⟩:=hs;have hlen:l.length<=9223372036854775807:=by
  obtain⟨⟨vs,ho,hv⟩,_⟩:=h.rx i _ hR;rcases ho.2 with⟨_,q2⟩|⟨g',cap,cur,q1,_,q2,q3,q4,q5,q6⟩
  ·have q2:l.length=0:=q2;omega
  have q3:l.length<=cap:=q3;have:maxLen=9223372036854775807:=by decide
  omega
 exact hk a w (h.jh hR (mG l) (by rw[List.length_map]) hlen (jv l) (λM v hv hg=>xq hv (λg e=>⟨(hg g e).1.elim (λq=>Nat.le_trans hN q) (λq=>absurd q (hb g)),(hg g e).2⟩)))
def c6(P:Program)(f:FuncId)(N:Nat)(args:List SV)(r:SV):Prop:=
 ∀(M:Mem) (w:World) (vs:List Value),N<=w.heap.size->M.cu w->SV.da M args vs->
  Calls P f ⟨vs⟩ w λe w'=>∃v M',e=.returned v/\M.le M'/\(∀b o x,M' b o=some x->M b o=some x\/w.heap.size<=b)/\M'.cu w'/\r.h M' v/\Below w.heap.size w w'
theorem c6.w{f:FuncId}{N:Nat}{args args':List SV}{r:SV}(h:c6 P f N args r)(hi:dO args' args):c6 P f N args' r:=λM w vs hN hM hv=>h M w vs hN hM (hi.holds hv)
theorem bt{f:FuncId}{fn:Func}{code:Code}{N:Nat}{args:List SV}{r:SV}(hf:P.funcs[f]? =some fn)(hb:fn.body=some code)(hn:args.length<=fn.ntmps)
  (h:∀(w:World) (M:Mem) (vs:List Value),N<=w.heap.size->SV.da M args vs->Ok P (AA w M) code (AS.init fn.ntmps args) (λe S=>(e=.normal\/e=.ret)/\DF P S fn.results.toList r)):c6 P f N args r:=by
 intro M w vs hN hM hvs;refine(callsIn_wide (n:=0)).1 (callsIn_of_wp_marks (F:=Fence.wide) hf hb trivial ?_);refine wpIn_mono (h w M vs hN hvs _ w ⟨_,iF hM hvs hn⟩) ?_;rintro e a' w' ⟨S',⟨he,ss,Io,himp⟩,E,hh⟩;have key:LeavesInM Fence.wide 0 P fn a'.tmps (λe w'=>∃v M',e=.returned v/\M.le M'/\(∀b o x,M' b o=some x->M b o=some x\/w.heap.size<=b)/\M'.cu w'/\r.h M' v/\Below w.heap.size w w') a'.defers .returning w':=by
  obtain⟨ds,h1,h2,h3⟩:=hh.marks;rw[h1];refine jn ds w' h2 (λr hr=>(h3 r hr).2.2) (λw2 g1 g2 g3 g4 g5=>?_);have vA:=hh.tW h3 g1 g2 g3 g4 g5;obtain⟨v,hv,hs⟩:=xe vA Io;refine⟨v,hv,v,E.M,Y,vA.m0,λb o x e=>?_,vA.cu,himp _ _ hs,vA.os,vA.tape,vA.output,vA.grown,λk hk=>vA.frame k hk (λh=>h)⟩;rcases vA.dc b o x e with h|h|h
  ·exact .inl h
  ·exact .inr h
  exact h.elim
 rcases he with rfl|rfl
 ·exact key
 exact key
theorem GW{f:FuncId}{N:Nat}{args:List SV}{E1:TypeId}{n:Nat}{α:Type}{e:α->List SV}{l:List α}[el:EL e n][he:CN N e](hp:CH P f args (TR E1 n e l)):c6 P f N args (nw N (slc n (l.map e))):=by
 intro M w vs hN hM hvs;refine(hp M w vs hM hvs).mono ?_;rintro ex w' ⟨v,M',us,rfl,hle,hnew,hin,hown,tN,gV,NY⟩;have gP:Rows n (l.map e) (l.flatMap e):=mG l;have qH:=pA gP;rcases hown.2 with⟨h1,h2⟩|⟨g,cap,cur,h1,_,h2,h3,_,h5,h6⟩
 ·exact⟨v,M',rfl,hle,hnew,hin,⟨.inl ⟨none,h1,by have h2:l.length=0:=h2;rw[List.length_eq_zero_iff.1 h2];rfl⟩,λg e=>by rw[h1]at e;cases e⟩,NY⟩
 have hg:v.ownBlock=some g:=by rw[h1];rfl
 obtain⟨hge,hno⟩:=gV g hg;have h3:l.length<=cap:=h3;have ZZ:maxLen=9223372036854775807:=by decide
 refine⟨v,λb o=>if b=g/\o<l.length*n then us[o]? else if b=g/\o=l.length*n then some (.agg #[])else M' b o,Y,λb o x q=>?_,λb o x q=>?_,λb o x q=>?_,?_,NY⟩
 ·have:=hle b o x q;have:b≠g:=by rintro rfl;rw[hno o]at this;cases this
  simp[this];assumption
 ·simp only at q;split at q
  ·rename_i hc;exact .inr (by rw[hc.1];exact hge)
  split at q
  ·rename_i hc;exact .inr (by rw[hc.1];exact hge)
  exact hnew b o x q
 ·simp only at q;split at q
  ·rename_i hc;obtain⟨rfl,yA⟩:=hc;refine .of ?_ (jv l _ _ tN x (List.mem_of_getElem? q));simp only[World.cell?,h2];have h6:cur.toList.take (l.length*n)=us:=h6;rw[<-h6,List.getElem?_take,if_pos yA]at q;simpa using q
  split at q
  ·rename_i hc;cases q;rw[hc.1];exact⟨_,_,h2⟩
  exact hin b o x q
 refine xq ?_ (λg' e'=>by rw[hg]at e';cases e';exact⟨Nat.le_trans hN hge,l.length*n,by simp⟩);refine .inr ⟨g,0,cap,by rw[h1,List.length_map],by rw[List.length_map];exact h3,by rw[List.length_map];omega,λk row hk=>?_⟩;obtain⟨q1,q2⟩:=mB gP k row hk;refine⟨q1,λj s hs=>?_⟩;have Av:=q2 j s hs;obtain⟨y,hy,hys⟩:=tN.get Av;have hlt:k*n+j<l.length*n:=by
  have:=(List.getElem?_eq_some_iff.1 Av).1;rw[qH,List.length_map]at this;exact this
 refine⟨y,by simp[hlt,hy],jv l _ _ tN y (List.mem_of_getElem? hy),s.mono (λb o x q=>?_) hys⟩;have:b≠g:=by rintro rfl;rw[hno o]at q;cases q
 simp[this,q]
end
section
variable {P:Program}{C:Ctx}{ops:Array Oper}{S:AS}{nd:Bool}{K:List Ac->AS->Prop}{rest:List Oper}{acc:List Ac}
variable {gd:Option (Nat×Bool)}{rg:List Nat}{d:Nat}{ty:TypeId}{pos:String}{aft:Array Edge}{x y z:Operand}{T U E0:TypeId}
variable {α:Type}{l l' k:List α}{e:α->List SV}{n by_ N:Nat}{zv:Value}
theorem RT.bu(hg:Gd ops S gd rg){f:FuncId}[eC P f]{g:Operand}{xs:Array Operand}{at_:Array TypeId}{args:List SV}{r:SV}(hp:c6 P f N args r)(hN:N<=C.w0.heap.size)(hf:S.ev g=.sv (.v (.func (.func f) #[] #[])))(hargs:gh S xs.toList args)(hd:d<S.n)
  (next:RunT P C ops nd K rest (⟨rg++(aW g++xs.toList.flatMap aW),[],[],⟨some (d,.sv r),[],[]⟩⟩::acc) (S.set d (.sv r))):RunT P C ops nd K (⟨some d,.call ⟨.value g,xs,at_⟩,ty,pos,aft,gd⟩::rest) acc S:=by
 refine .inl ⟨_,[],[],_,?_,next⟩;rintro S' hn ht _ _ i a w L Q ho ⟨E,h⟩ hL;refine bV (C:=C) ho (hg.wanted h (λs hs=>ht s (List.mem_append_left _ hs)) Y) ?_;have sF:a.eval g=.func (.func f) #[] #[]:=by
  have h1:=h.ev g;rw[bj (λ_ h=>List.mem_append_right _ (List.mem_append_left _ h)) ht,hf]at h1;exact h1
 have hall:=gh.vals h hargs (λs hs=>ht s (List.mem_append_right _ (List.mem_append_right _ hs)));have hr:(execOp a.eval ⟨some d,.call ⟨.value g,xs,at_⟩,ty,pos,aft,gd⟩).run P w=.ok (.enter f ⟨xs.toList.map a.eval⟩) w:=by
  have e2:xs.map a.eval=⟨xs.toList.map a.eval⟩:=by apply Array.ext';simp
  have e1:=eC.run (P:=P) (f:=f) (xs.map a.eval) w;rw[<-e2];simp[execOp,resolve,sF,Deferred.ofValue,invoke,e1]
 refine bW (C:=C) (by intro c h;cases h) hr ?_;refine⟨λh=>by simp at h,fL ((hp E.M w _ (Nat.le_trans hN h.grown) h.cu hall).mono ?_)⟩;rintro e w' ⟨v,M',rfl,hM,hnew,hin,hv,hb⟩;exact hL _ _ ⟨_,(h.grow hM hnew hin hb).put (x:=.sv r) hv (by show d<S'.n;omega) er⟩
theorem RT.yS(hg:Gd ops S gd rg){m:Nat}[tS:dQ P T E0 m]{c:Int}(hx:S.ev x=.sv (nw N (slc n (l.map e))))(hd:d<S.n)(hc:(l.length:Int)=c)
  (next:RunT P C ops nd K rest (⟨rg++aW x,[],[],⟨some (d,.sv (.v (.int .i64 c))),[],[]⟩⟩::acc) (S.set d (.sv (.v (.int .i64 c))))):RunT P C ops nd K (⟨some d,.call ⟨.builtin .len,#[x],#[T]⟩,ty,pos,aft,gd⟩::rest) acc S:=
 RT.len hg hx hd (by rw[List.length_map,hc];exact next)
theorem RT.U7(hg:Gd ops S gd rg)[tS:dQ P T E0 n]{kk:IntKind}{i:Int}{a:α}(hx:S.ev x=.sv (nw N (slc n (l.map e))))(hy:S.ev y=.sv (.v (.int kk i)))(hd:d<S.n)(ha:ek l i=some a)
  (next:RunT P C ops nd K rest (⟨rg++(aW x++aW y),[],[],⟨some (d,.sv (ref (e a))),[],[]⟩⟩::acc) (S.set d (.sv (ref (e a))))):RunT P C ops nd K (⟨some d,.indexAddr T x y,ty,pos,aft,gd⟩::rest) acc S:=
 RT.indexAddr hg (e a) hx hy hd (kU ha).1 (by rw[List.getElem?_map,(kU ha).2];rfl) next
theorem RT.GX(hg:Gd ops S gd rg)[tS:dQ P T E0 n]{lo hi:Option Operand}(a b:Int)(hx:S.ev x=.sv (nw N (slc n (l.map e))))(hlo:uc S 0 lo a)(hhi:uc S l.length hi b)(hd:d<S.n)(h:xl l a b=some l')
  (next:RunT P C ops nd K rest (⟨rg++(aW x++(jk lo++jk hi)),[],[],⟨some (d,.sv (nw N (slc n (l'.map e)))),[],[]⟩⟩::acc) (S.set d (.sv (nw N (slc n (l'.map e)))))):RunT P C ops nd K (⟨some d,.slice T x lo hi none,ty,pos,aft,gd⟩::rest) acc S:=by
 obtain⟨h0,h1,h2,h3⟩:=vY h;exact RT.slice hg hx a b hlo (by rw[List.length_map];exact hhi) hd h0 h1 (by rw[List.length_map];exact h2) _ (by rw[BI,h3]) next
theorem RT.NZ(hg:Gd ops S gd rg)[tS:dQ P T E0 n][tE:gU P E0 n by_ zv][el:EL e n][he:CN N e]{i:Nat}(hN:N<=C.w0.heap.size)(hb:∀k,¬C.nD k)(hx:S.ev x=.row i)(hR:S.r i=.live (TR E0 n e l))(hy:S.ev y=.sv (slc n (k.map e)))(hd:d<S.n)(qJ:S.r d=.un)(o7:d<1000)(h:xm by_ l k=some l')
  (next:RunT P C ops nd K rest (⟨rg++(aW x++aW y),[],[d,i],⟨some (d,.sv (nw N (slc n (l'.map e)))),[],[(i,.dead),(d,.dead)]⟩⟩::acc) ((AS.bC [(i,.dead),(d,.dead)] S).set d (.sv (nw N (slc n (l'.map e)))))):RunT P C ops nd K (⟨some d,.call ⟨.builtin .append,#[x,y],#[T,T]⟩,ty,pos,aft,gd⟩::rest) acc S:=by
 obtain⟨h1,h2,rfl⟩:=pH h;have hf:l.flatMap e++(k.map e).flatten=(l++k).flatMap e:=by simp[mF]
 exact RT.BO hg (.row hx hR) hy hd qJ o7 (by simpa using h1) (by simpa using h2) _ (rows':=(l++k).map e) (λ_ _ hv hg=>xq hv (λg e=>⟨(hg g e).1.elim (λq=>Nat.le_trans hN q) (λq=>absurd q (hb g)),(hg g e).2⟩)) (by rw[hf];exact mG _) (by simp) (by rw[hf];exact jv _) next
theorem RT.pI(hg:Gd ops S gd rg)[tS:dQ P T E0 n][tE:gU P E0 n by_ zv][he:CN N e](hN:N<=C.w0.heap.size){len:Nat}{parts:Array (Nat×Operand)}{qs:List (Nat×List SV)}(hp:ji S parts.toList qs)(hd:d<S.n)
  (hc:kE 0 qs=true) (hl:qs.length=len) (hsz:(qs.all λq=>Nat.beq q.2.length n)=true) (hlen:Nat.ble (len*n) 16777216=true) (CF:(zv.cells.toList.all λv=>v.oneCell')=true) (gP:qs.map (·.2)=l.map e)
  (next:RunT P C ops nd K rest (⟨rg++gZ parts.toList,[],[],⟨some (d,.sv (nw N (slc n (l.map e)))),[],[]⟩⟩::acc) (S.set d (.sv (nw N (slc n (l.map e)))))):RunT P C ops nd K (⟨some d,.buildSlice T len parts,ty,pos,aft,gd⟩::rest) acc S:=by
 refine .inl ⟨_,[],[],_,?_,next⟩;rintro S' hn ht _ _ i a w L Q ho ⟨E,h⟩ hL;refine bV (C:=C) ho (hg.wanted h (λs hs=>ht s (List.mem_append_left _ hs)) Y) ?_;obtain⟨vs,hr,hall,hone⟩:=jz (P:=P) (T:=T) (E0:=E0) (n:=n) (by_:=by_) (zv:=zv) (d:=d) (ty:=ty) (pos:=pos) (aft:=aft) (gd:=gd) h hp (λs hs=>ht s (List.mem_append_right _ hs)) hc hl hsz (af hlen) (List.all_eq_true.1 CF);refine bW (C:=C) (by intro c h;cases h) hr (hL _ _ ⟨_,(h.GV vs E0 hone).put (d:=d) (x:=.sv (nw N (slc n (l.map e)))) (v:=.slice (some ⟨w.heap.size,0,none⟩) len len) ?_ (by show d<S'.n;omega) er⟩);have hrw:Rows n (qs.map (·.2)) (qs.map (·.2)).flatten:=⟨Y,λr hr=>by
  obtain⟨q,hq,rfl⟩:=List.mem_map.1 hr;exact Nat.eq_of_beq_eq_true (List.all_eq_true.1 hsz q hq)⟩
 have DP:=tE.p;have hlb:len<=16777216:=Nat.le_trans (Nat.le_mul_of_pos_right _ DP) (af hlen);refine xq ?_ (λg e=>by cases e;exact⟨Nat.le_trans hN h.grown,vs.length,by simp⟩);rw[<-gP];refine .inr ⟨w.heap.size,0,len,by rw[List.length_map,hl],by rw[List.length_map,hl];exact Nat.le_refl _,by rw[List.length_map,hl];omega,λk row hk=>?_⟩;obtain⟨q1,q2⟩:=mB hrw k row hk;refine⟨q1,λj s hs=>?_⟩;obtain⟨y,hy,hys⟩:=hall.get (q2 j s hs);refine⟨y,by show(if w.heap.size=w.heap.size then(vs++[Value.agg #[]])[0+k*n+j]? else _)=_;rw[if_pos Y,Nat.zero_add,List.getElem?_append_left (List.getElem?_eq_some_iff.1 hy).1];exact hy,hone y (List.mem_of_getElem? hy),s.mono (λb o v e=>?_) hys⟩;have:b≠w.heap.size:=by rintro rfl;have:=iZ h.cu e;omega
 simp[this,e]
end
end
section
open Go.RowKit
theorem dh{P:Program}{f:FuncId}{args:List SV}{r:Nat->SV}{s:SV}(hp:∀N,c6 P f N args (r N))(hi:∀N,SV.imp (r N) s):Pure P f args s:=λM w vs hM hv=>(hp w.heap.size M w vs (Nat.le_refl _) hM hv).mono (λ_ _ ⟨v,M',h1,h2,h3,h4,h5,h6⟩=>⟨v,M',h1,h2,h3,h4,hi _ _ _ h5,h6⟩)
section steps
variable {P:Program}{C:Ctx}{ops:Array Oper}{S:AS}{nd:Bool}{K:List Ac->AS->Prop}{rest:List Oper}{acc:List Ac}{N:Nat}
variable {gd:Option (Nat×Bool)}{rg:List Nat}{d:Nat}{ty:TypeId}{pos:String}{aft:Array Edge}{x y z:Operand}{T U E0:TypeId}
end steps
end
end Go.Fw
namespace Go.Proofs.Ytmiflmkdaeianaa
section
open Go.Fw
noncomputable def cJ(x0:List Nat):Option (List Nat):=xm 4 [] x0
noncomputable def bw(x0:Nat)(c0:Nat):Option (Nat×Nat):=(some ((x0+c0)%18446744073709551616)).bind λx6=>(some (x6/2^32)).bind λx8=>(some (x6%4294967296)).bind λiL=>some (iL,x8)
noncomputable def bg(x0:List Nat):Option (List Nat):=(c5 (λ(sI:(List Nat))=>(show Option (((List Nat))⊕((List Nat)))from cW (λ(uz:Bool)=>(bif uz then(some (sI.length:Int)).bind λiv=>(some (IntKind.i64.wrap (iv-1))).bind λfJ=>(xl sI 0 fJ).bind λmc=>some (.inl mc)else some (.inr sI))) λN0=>(some (sI.length:Int)).bind λx4=>(some (decide ((0:Int)<x4))).bind λx5=>(bif x5 then(some (sI.length:Int)).bind λx9=>(some (IntKind.i64.wrap (x9-1))).bind λiL=>(ek sI iL).bind λnU=>(some (decide ((nU:Nat)=0))).bind λkF=>some kF else some false).bind λAR=>N0 AR)) x0).bind λuA=>some uA
noncomputable def bK(x0:Bool)(x1:List Nat):Option (Zr):=(bg x1).bind λx6=>(some (x6.length:Int)).bind λx8=>(some (decide ((x8:Int)=0))).bind λx9=>(bif x9 then some ⟨false,[]⟩else some ⟨x0,x6⟩)
noncomputable def dz(x0:Bool)(x1:Nat):Option (Zr):=(some (decide ((x1:Nat)=0))).bind λx7=>(bif x7 then some ⟨false,[]⟩else(some (x1/2^32)).bind λnU=>(some (decide ((nU:Nat)=0))).bind λiw=>(bif iw then(some (x1%4294967296)).bind λl7=>some ⟨x0,[l7]⟩else(some (x1%4294967296)).bind λjm=>(some (x1/2^32)).bind λjC=>(some (jC%4294967296)).bind λkp=>some ⟨x0,[jm,kp]⟩))
noncomputable def cH(x0:List Nat):Option (Nat):=(some (x0.length:Int)).bind λx4=>(some (decide ((x4:Int)=0))).bind λx6=>(bif x6 then some 0 else(some (decide ((x4:Int)=1))).bind λx8=>(bif x8 then(ek x0 0).bind λiL=>(some (iL%18446744073709551616)).bind λiw=>some iw else(ek x0 0).bind λkO=>(some (kO%18446744073709551616)).bind λjD=>(ek x0 1).bind λfJ=>(some (fJ%18446744073709551616)).bind λjm=>(some (jm*2^32%18446744073709551616)).bind λkP=>(some ((jD ||| kP)%18446744073709551616)).bind λjC=>some jC))
noncomputable def bY(x0:List Nat)(x1:List Nat):Option (Int):=(some (x0.length:Int)).bind λx7=>(some (x1.length:Int)).bind λx9=>(some (decide ((x7:Int)≠x9))).bind λiL=>(bif iL then(some (x0.length:Int)).bind λiw=>(some (x1.length:Int)).bind λkO=>(some (decide ((iw:Int)<kO))).bind λl7=>(bif l7 then some (-1)else some 1)else(some (x0.length:Int)).bind λiv=>(some (IntKind.i64.wrap (iv-1))).bind λfJ=>(c5 (λ(sJ:Int)=>(show Option ((Int)⊕((Unit)⊕(Int)))from(some (decide ((0:Int)<=sJ))).bind λjm=>(bif jm then(ek x0 sJ).bind λAw=>(ek x1 sJ).bind λg9=>(some (decide ((Aw:Nat)≠g9))).bind λnV=>(bif nV then(ek x0 sJ).bind λmL=>(ek x1 sJ).bind λtg=>(some (decide ((mL:Nat)<tg))).bind λnJ=>(bif nJ then some (.inr (.inr (-1)))else some (.inr (.inr 1)))else(some (IntKind.i64.wrap (sJ-1))).bind λjC=>some (.inl jC))else some (.inr (.inl ()))))) fJ).bind λe6=>match e6 with|.inr v6=>some v6|.inl _=>some 0)
noncomputable def di(x0:List Nat)(x1:List Nat):Option (List Nat):=(some (x0.length:Int)).bind λiL=>(some (x1.length:Int)).bind λiw=>(some (max (iL:Int) iw)).bind λkF=>(some (IntKind.i64.wrap (kF+1))).bind λkO=>(GH (α:=Nat) 4 kO).bind λl7=>(mI (λ(k:Nat) (s7:Nat×(List Nat))=>match s7 with|⟨pJ,fO⟩=>(show Option (Nat×(List Nat))from(some (x0.getD k 0%18446744073709551616)).bind λU8=>(some (x1.getD k 0%18446744073709551616)).bind λU9=>(some ((U8+U9)%18446744073709551616)).bind λiY=>(bw iY pJ).bind λ⟨nW,k9⟩=>(xm 4 fO [nW]).bind λg9=>some (k9,g9))) (max x0.length x1.length) (0,l7)).bind λe7=>match e7 with|⟨pJ,fO⟩=>(bw 0 pJ).bind λ⟨jE,Z0⟩=>(xm 4 fO [jE]).bind λmL=>some mL
noncomputable def cc(x0:List Nat)(x1:List Nat):Option (List Nat):=(some (x0.length:Int)).bind λiL=>(GH (α:=Nat) 4 iL).bind λnU=>(mI (λ(k:Nat) (s7:Nat×(List Nat))=>match s7 with|⟨th,fO⟩=>(show Option (Nat×(List Nat))from(some (x0.getD k 0%18446744073709551616)).bind λVc=>(some (x1.getD k 0%18446744073709551616)).bind λVd=>(some (j0 18446744073709551616 4294967295 Vd)).bind λjC=>(some ((Vc+jC)%18446744073709551616)).bind λkp=>(bw kp th).bind λ⟨fo,k9⟩=>(xm 4 fO [fo]).bind λiY=>some (k9,iY))) (max x0.length x1.length) (1,nU)).bind λe7=>match e7 with|⟨th,fO⟩=>some fO
noncomputable def eo(x0:List Nat)(x1:List Nat):Option (List Nat):=(some (x0.length:Int)).bind λiw=>(some (x1.length:Int)).bind λkO=>(some (IntKind.i64.wrap (iw+kO))).bind λl7=>(F8 4 l7 (0:Nat)).bind λjD=>(some (x0.length:Int)).bind λfJ=>(c5 (λ(MR:Int×(List Nat))=>match MR with|⟨jF,xu⟩=>(show Option ((Int×(List Nat))⊕((List Nat)))from(some (decide ((jF:Int)<fJ))).bind λjm=>(bif jm then(ek x0 jF).bind λjC=>(some (x1.length:Int)).bind λiY=>(c5 (λ(K1:Int×Nat×(List Nat))=>match K1 with|⟨qR,pK,oK⟩=>(show Option ((Int×Nat×(List Nat))⊕(Nat×(List Nat)))from(some (decide ((qR:Int)<iY))).bind λnX=>(bif nX then(ek x1 qR).bind λuB=>(some (IntKind.i64.wrap (jF+qR))).bind λpL=>(some (IntKind.i64.wrap (jF+qR))).bind λnJ=>(qN oK nJ).bind λvH=>(oK[vH]?).bind λot=>(some (ot%18446744073709551616)).bind λyp=>(some (jC%18446744073709551616)).bind λyT=>(some (uB%18446744073709551616)).bind λyU=>(some ((yT*yU)%18446744073709551616)).bind λvr=>(some ((yp+vr)%18446744073709551616)).bind λMS=>(bw MS pK).bind λ⟨tj,Ve⟩=>(qN oK pL).bind λGa=>(stM oK Ga tj).bind λVf=>(some (IntKind.i64.wrap (qR+1))).bind λvI=>some (.inl (vI,Ve,Vf))else some (.inr (pK,oK))))) (0,0,xu)).bind λVg=>match Vg with|⟨yV,AT⟩=>(some (x1.length:Int)).bind λGY=>(some (IntKind.i64.wrap (jF+GY))).bind λN1=>(bw 0 yV).bind λ⟨K9,Z1⟩=>(qN AT N1).bind λCO=>(stM AT CO K9).bind λVh=>(some (IntKind.i64.wrap (jF+1))).bind λGb=>some (.inl (Gb,Vh))else some (.inr xu)))) (0,jD)).bind λoL=>some oL
noncomputable def eN(x0:List Nat)(x1:Nat):Option (Nat×List Nat):=(some (x0.length:Int)).bind λx9=>(some (IntKind.i64.wrap (x9-1))).bind λiL=>(c5 (λ(s8:Nat×Int×(List Nat))=>match s8 with|⟨Ec,Ed,lI⟩=>(show Option ((Nat×Int×(List Nat))⊕(Nat×(List Nat)))from(some (decide ((0:Int)<=Ed))).bind λiw=>(bif iw then(some (Ec*2^32%18446744073709551616)).bind λjD=>(qN lI Ed).bind λmc=>(lI[mc]?).bind λjm=>(some (jm%18446744073709551616)).bind λkP=>(some ((jD ||| kP)%18446744073709551616)).bind λjC=>(xn 18446744073709551616 jC x1).bind λnW=>(some (nW%4294967296)).bind λnX=>(qN lI Ed).bind λg9=>(stM lI g9 nX).bind λGc=>(vE jC x1).bind λjE=>(some (IntKind.i64.wrap (Ed-1))).bind λkO=>some (.inl (jE,kO,Gc))else some (.inr (Ec,lI))))) (0,iL,x0)).bind λe8=>match e8 with|⟨N2,tq⟩=>(om x0 tq).bind λ_=>some (N2,tq)
noncomputable def dM(x0:List Nat)(x1:Nat):Option (List Nat):=(some (x0.length:Int)).bind λnU=>(some (IntKind.i64.wrap (nU+1))).bind λiw=>(GH (α:=Nat) 4 iw).bind λkF=>(some (x0.length:Int)).bind λl7=>(c5 (λ(s8:Int×Nat×(List Nat))=>match s8 with|⟨pM,lJ,fO⟩=>(show Option ((Int×Nat×(List Nat))⊕(Nat×(List Nat)))from(some (decide ((pM:Int)<l7))).bind λiv=>(bif iv then(ek x0 pM).bind λfJ=>(some (fJ%18446744073709551616)).bind λkp=>(some (kp*2^(min x1 64)%18446744073709551616)).bind λAw=>(bw Aw lJ).bind λ⟨iY,La⟩=>(xm 4 fO [iY]).bind λnX=>(some (IntKind.i64.wrap (pM+1))).bind λg9=>some (.inl (g9,La,nX))else some (.inr (lJ,fO))))) (0,0,kF)).bind λe8=>match e8 with|⟨uC,Ee⟩=>(bw 0 uC).bind λ⟨jE,Vi⟩=>(xm 4 Ee [jE]).bind λmL=>some mL
noncomputable def fe(x0:List Nat)(x1:Nat):Option (List Nat):=(some (x0.length:Int)).bind λnU=>(some (IntKind.i64.wrap (nU+1))).bind λiw=>(GH (α:=Nat) 4 iw).bind λkF=>(some (x0.length:Int)).bind λl7=>(c5 (λ(s8:Int×Nat×(List Nat))=>match s8 with|⟨pM,lJ,xw⟩=>(show Option ((Int×Nat×(List Nat))⊕(Nat×(List Nat)))from(some (decide ((pM:Int)<l7))).bind λiv=>(bif iv then(ek x0 pM).bind λfJ=>(some (fJ%18446744073709551616)).bind λkp=>(some (kp*2^(min x1 64)%18446744073709551616)).bind λAw=>(bw Aw lJ).bind λ⟨iY,La⟩=>(xm 4 xw [iY]).bind λnX=>(some (IntKind.i64.wrap (pM+1))).bind λg9=>some (.inl (g9,La,nX))else some (.inr (lJ,xw))))) (0,0,kF)).bind λe8=>match e8 with|⟨uC,Ef⟩=>(bw 0 uC).bind λ⟨jE,Vi⟩=>(xm 4 Ef [jE]).bind λmL=>some mL
noncomputable def eE(x0:Nat):Option (Int):=(some (decide ((65536:Nat)<=x0))).bind λx4=>cW (λ(j2:Nat×Int)=>match j2 with|⟨AU,GZ⟩=>(some (decide ((256:Nat)<=AU))).bind λx8=>cW (λ(j4:Nat×Int)=>match j4 with|⟨N3,N4⟩=>(some (N3%256)).bind λl7=>(oh [0,1,2,2,3,3,3,3,4,4,4,4,4,4,4,4,5,5,5,5,5,5,5,5,5,5,5,5,5,5,5,5,6,6,6,6,6,6,6,6,6,6,6,6,6,6,6,6,6,6,6,6,6,6,6,6,6,6,6,6,6,6,6,6,7,7,7,7,7,7,7,7,7,7,7,7,7,7,7,7,7,7,7,7,7,7,7,7,7,7,7,7,7,7,7,7,7,7,7,7,7,7,7,7,7,7,7,7,7,7,7,7,7,7,7,7,7,7,7,7,7,7,7,7,7,7,7,7,8,8,8,8,8,8,8,8,8,8,8,8,8,8,8,8,8,8,8,8,8,8,8,8,8,8,8,8,8,8,8,8,8,8,8,8,8,8,8,8,8,8,8,8,8,8,8,8,8,8,8,8,8,8,8,8,8,8,8,8,8,8,8,8,8,8,8,8,8,8,8,8,8,8,8,8,8,8,8,8,8,8,8,8,8,8,8,8,8,8,8,8,8,8,8,8,8,8,8,8,8,8,8,8,8,8,8,8,8,8,8,8,8,8,8,8,8,8,8,8,8,8,8,8,8,8,8,8] ((l7:Nat):Int)).bind λjD=>(some (IntKind.i64.wrap (jD:Int))).bind λiv=>(some (IntKind.i64.wrap (N4+iv))).bind λfJ=>some fJ) λK4=>(bif x8 then(some (AU/2^8)).bind λiL=>(some (IntKind.i64.wrap (GZ+8))).bind λiw=>K4 (iL,iw)else K4 (AU,GZ))) λK2=>(bif x4 then(some (x0/2^16)).bind λx6=>K2 (x6,16)else K2 (x0,0))
noncomputable def cx(x0:Nat):Option (Int):=(eE x0).bind λx4=>(some (IntKind.i64.wrap (32-x4))).bind λx5=>some x5
noncomputable def eO(x0:List Nat)(o0:Nat)(n0:Nat)(x1:List Nat):Option (Nat×List Nat):=(some (x1.length:Int)).bind λiw=>(F9 o0 n0 iw).bind λl7=>(x0[l7]?).bind λjD=>(some (jD%18446744073709551616)).bind λiv=>(some (iv*2^32%18446744073709551616)).bind λfJ=>(some (IntKind.i64.wrap (iw-1))).bind λkP=>(F9 o0 n0 kP).bind λjC=>(x0[jC]?).bind λkp=>(some (kp%18446744073709551616)).bind λfo=>(some ((fJ ||| fo)%18446744073709551616)).bind λAw=>(some (IntKind.i64.wrap (iw-1))).bind λnX=>(ek x1 nX).bind λg9=>(some (g9%18446744073709551616)).bind λnV=>(some (IntKind.i64.wrap (iw-2))).bind λmL=>(ek x1 mL).bind λpL=>(some (pL%18446744073709551616)).bind λwe=>(xn 18446744073709551616 Aw nV).bind λnJ=>(vE Aw nV).bind λyp=>(c5 (λ(yW:Nat×Nat)=>match yW with|⟨vJ,wh⟩=>(show Option ((Nat×Nat)⊕(Nat))from cW (λ(AW:Bool)=>(bif AW then(some (j0 18446744073709551616 vJ 1)).bind λN5=>(some ((wh+nV)%18446744073709551616)).bind λN6=>(some (N6/2^32)).bind λLb=>(some (decide ((Lb:Nat)≠0))).bind λVj=>(bif Vj then some (.inr N5)else some (.inl (N5,N6)))else some (.inr vJ))) λN0=>(some (vJ/2^32)).bind λyT=>(some (decide ((yT:Nat)≠0))).bind λuD=>(bif uD then some true else(some ((vJ*we)%18446744073709551616)).bind λtj=>(some (wh*2^32%18446744073709551616)).bind λvI=>(some (IntKind.i64.wrap (iw-2))).bind λG0=>(F9 o0 n0 G0).bind λGY=>(x0[GY]?).bind λN1=>(some (N1%18446744073709551616)).bind λVk=>(some ((vI ||| Vk)%18446744073709551616)).bind λK9=>(some (decide ((K9:Nat)<tj))).bind λCO=>some CO).bind λEg=>N0 Eg)) (nJ,yp)).bind λCP=>(om x0 x0).bind λ_=>some (CP,x0)
noncomputable def cf(x0:List Nat)(o0:Nat)(n0:Nat)(x1:List Nat)(x2:Nat):Option (Bool×List Nat):=(some (n0:Int)).bind λkO=>(c5 (λ(AX:Nat×Int×Nat×(List Nat))=>match AX with|⟨CQ,pN,xx,nK⟩=>(show Option ((Nat×Int×Nat×(List Nat))⊕(Nat×(List Nat)))from(some (decide ((pN:Int)<kO))).bind λjD=>(bif jD then(some (x1.length:Int)).bind λjm=>(some (decide ((pN:Int)<jm))).bind λkP=>cW (λ(Eh:Nat)=>(F9 o0 n0 pN).bind λnV=>(nK[nV]?).bind λjE=>(some (jE%18446744073709551616)).bind λmq=>(bw Eh xx).bind λ⟨vK,Vl⟩=>(some (vK%18446744073709551616)).bind λwe=>(some (j0 18446744073709551616 mq we)).bind λtg=>(some (j0 18446744073709551616 tg CQ)).bind λnJ=>(some (nJ%4294967296)).bind λCR=>(F9 o0 n0 pN).bind λyT=>(stM nK yT CR).bind λVm=>(some (nJ/2^63)).bind λyU=>(some (IntKind.i64.wrap (pN+1))).bind λvr=>some (.inl (yU,vr,Vl,Vm))) λYM=>(bif kP then(ek x1 pN).bind λfo=>(some (fo%18446744073709551616)).bind λiY=>(some ((iY*x2)%18446744073709551616)).bind λnX=>YM nX else YM 0)else some (.inr (CQ,nK))))) (0,0,0,x0)).bind λLc=>match Lc with|⟨Ei,pO⟩=>(some (decide ((Ei:Nat)≠0))).bind λtj=>(om x0 pO).bind λ_=>some (tj,pO)
noncomputable def fu(x0:List Nat)(x1:List Nat):Option ((List Nat)×(List Nat)):=(some (x1.length:Int)).bind λiv=>(some (IntKind.i64.wrap (iv-1))).bind λjm=>(ek x1 jm).bind λkP=>(cx kP).bind λkp=>(some ((kp%18446744073709551616).toNat)).bind λfo=>(fe x0 fo).bind λnW=>(dM x1 fo).bind λuB=>(xl uB 0 iv).bind λjE=>(some (x0.length:Int)).bind λmL=>(some (IntKind.i64.wrap (mL-iv))).bind λvK=>(some (IntKind.i64.wrap (vK+1))).bind λwe=>(F8 4 we (0:Nat)).bind λtg=>(some (x0.length:Int)).bind λnJ=>(some (IntKind.i64.wrap (nJ-iv))).bind λot=>(c5 (λ(Ld:Int×(List Nat)×(List Nat))=>match Ld with|⟨fP,mM,oM⟩=>(show Option ((Int×(List Nat)×(List Nat))⊕((List Nat)×(List Nat)))from(some (decide ((0:Int)<=fP))).bind λCR=>(bif CR then(some (IntKind.i64.wrap (fP+iv))).bind λGa=>(some (IntKind.i64.wrap (Ga+1))).bind λvI=>(KX oM fP vI).bind λ⟨YN,YO⟩=>(eO oM YN YO jE).bind λ⟨G0,Le⟩=>(om oM Le).bind λ_=>(some (IntKind.i64.wrap (fP+iv))).bind λCO=>(some (IntKind.i64.wrap (CO+1))).bind λGb=>(KX Le fP Gb).bind λ⟨YP,YQ⟩=>(cf Le YP YQ jE G0).bind λ⟨Vn,MT⟩=>(om Le MT).bind λ_=>cW (λ(MU:Nat×(List Nat))=>match MU with|⟨Ej,AY⟩=>(some (Ej%4294967296)).bind λLf=>(qN mM fP).bind λN7=>(stM mM N7 Lf).bind λVo=>(some (IntKind.i64.wrap (fP-1))).bind λuD=>some (.inl (uD,Vo,AY))) λYR=>(bif Vn then(some (j0 18446744073709551616 G0 1)).bind λN8=>(some (jE.length:Int)).bind λVp=>(c5 (λ(Lg:Int×Nat×(List Nat))=>match Lg with|⟨qS,pP,oN⟩=>(show Option ((Int×Nat×(List Nat))⊕(Nat×(List Nat)))from(some (decide ((qS:Int)<Vp))).bind λGe=>(bif Ge then(ek jE qS).bind λYS=>(some (IntKind.i64.wrap (fP+qS))).bind λYT=>(some (IntKind.i64.wrap (fP+qS))).bind λMV=>(qN oN MV).bind λYU=>(oN[YU]?).bind λYV=>(some (YV%18446744073709551616)).bind λLh=>(some (YS%18446744073709551616)).bind λVq=>(some ((Lh+Vq)%18446744073709551616)).bind λYW=>(bw YW pP).bind λ⟨Vr,Vs⟩=>(qN oN YT).bind λYX=>(stM oN YX Vr).bind λVt=>(some (IntKind.i64.wrap (qS+1))).bind λLi=>some (.inl (Li,Vs,Vt))else some (.inr (pP,oN))))) (0,0,MT)).bind λVu=>match Vu with|⟨yX,uE⟩=>(some (IntKind.i64.wrap (fP+iv))).bind λYY=>(some (IntKind.i64.wrap (fP+iv))).bind λN9=>(qN uE N9).bind λOa=>(uE[Oa]?).bind λCS=>(some (CS%18446744073709551616)).bind λOb=>(bw Ob yX).bind λ⟨Lj,Z2⟩=>(qN uE YY).bind λOd=>(stM uE Od Lj).bind λVv=>YR (N8,Vv)else YR (G0,MT))else some (.inr (mM,oM))))) (ot,tg,nW)).bind λVw=>match Vw with|⟨uF,qT⟩=>(F8 4 iv (0:Nat)).bind λOe=>(c5 (λ(MW:Int×(List Nat))=>match MW with|⟨nL,pQ⟩=>(show Option ((Int×(List Nat))⊕((List Nat)))from(some (decide ((nL:Int)<iv))).bind λLk=>(bif Lk then(qN qT nL).bind λOf=>(qT[Of]?).bind λOg=>(some (Og%18446744073709551616)).bind λLl=>(some (IntKind.i64.wrap (nL+1))).bind λOh=>(qN qT Oh).bind λOi=>(qT[Oi]?).bind λOj=>(some (Oj%18446744073709551616)).bind λLm=>(some (Lm*2^32%18446744073709551616)).bind λLn=>(some ((Ll ||| Ln)%18446744073709551616)).bind λLo=>(some (Lo/2^(min fo 64))).bind λOl=>(some (Ol%4294967296)).bind λLp=>(qN pQ nL).bind λOm=>(stM pQ Om Lp).bind λVx=>(some (IntKind.i64.wrap (nL+1))).bind λLq=>some (.inl (Lq,Vx))else some (.inr pQ)))) (0,Oe)).bind λlK=>some (uF,lK)
noncomputable def ep(x0:List Nat)(x1:List Nat):Option ((List Nat)×(List Nat)):=(bY x0 x1).bind λiw=>(some (decide ((iw:Int)<0))).bind λkF=>(bif kF then(cJ x0).bind λl7=>some ([],l7)else(some (x0.length:Int)).bind λfJ=>(some (decide ((fJ:Int)<=2))).bind λmc=>(bif mc then(cH x0).bind λkP=>(cH x1).bind λkp=>(xn 18446744073709551616 kP kp).bind λiY=>(dz false iY).bind λ⟨yY,wj⟩=>(vE kP kp).bind λnV=>(dz false nV).bind λ⟨iQ,iA⟩=>some (wj,iA)else(some (x1.length:Int)).bind λvK=>(some (decide ((vK:Int)=1))).bind λwe=>(bif we then(cJ x0).bind λqA=>(ek x1 0).bind λot=>(some (ot%18446744073709551616)).bind λCR=>(eN qA CR).bind λ⟨yT,l5⟩=>(om qA l5).bind λ_=>(some (yT%4294967296)).bind λvr=>some (l5,[vr])else(fu x0 x1).bind λ⟨On,Oo⟩=>some (On,Oo))))
noncomputable def bp(x0:Int):Option (Zr):=(some ((x0%18446744073709551616).toNat)).bind λx5=>(some (decide ((x0:Int)<0))).bind λx7=>cW (λ(Oq:Nat)=>(some (decide ((x0:Int)<0))).bind λnU=>(dz nU Oq).bind λ⟨yZ,y4⟩=>some ⟨yZ,y4⟩) λK2=>(bif x7 then(some (j0 18446744073709551616 0 x5)).bind λx9=>K2 x9 else K2 x5)
noncomputable def cz(x0:Zr):Option (Int×Bool):=match x0 with|⟨bD,bB⟩=>(bg bB).bind λx8=>(some (x8.length:Int)).bind λiL=>(some (decide ((2:Int)<iL))).bind λnU=>(bif nU then some (0,false)else(cH x8).bind λkF=>(bif bD then(some (decide ((9223372036854775808:Nat)<kF))).bind λiv=>(bif iv then some (0,false)else(some (j0 18446744073709551616 0 kF)).bind λmc=>(some (IntKind.i64.wrap (mc:Int))).bind λjm=>some (jm,true))else(some (decide ((9223372036854775808:Nat)<=kF))).bind λjC=>(bif jC then some (0,false)else(some (IntKind.i64.wrap (kF:Int))).bind λfo=>some (fo,true))))
noncomputable def cn(x0:Bool)(x1:List Nat)(x2:Bool)(x3:List Nat):Option (Zr):=(some (x0==x2)).bind λnU=>(bif nU then(di x1 x3).bind λl7=>(bK x0 l7).bind λ⟨mN,mO⟩=>some ⟨mN,mO⟩else(bY x1 x3).bind λmc=>(some (decide ((mc:Int)<0))).bind λjm=>(bif jm then(cc x3 x1).bind λfo=>(bK x2 fo).bind λ⟨jG,jH⟩=>some ⟨jG,jH⟩else(cc x1 x3).bind λg9=>(bK x0 g9).bind λ⟨pR,pS⟩=>some ⟨pR,pS⟩))
noncomputable def c9(x0:Zr)(x1:Zr):Option (Zr):=match x0 with|⟨bD,bB⟩=>match x1 with|⟨cq,b9⟩=>(cz ⟨bD,bB⟩).bind λ⟨vL,AZ⟩=>(cz ⟨cq,b9⟩).bind λ⟨xy,A0⟩=>cW (λ(uG:Bool)=>cW (λ(j5:Unit)=>(bg bB).bind λvH=>(bg b9).bind λuD=>(cn bD vH cq uD).bind λ⟨Iv,Iw⟩=>some ⟨Iv,Iw⟩) λK5=>(bif uG then(some (IntKind.i64.wrap (vL+xy))).bind λiY=>(some (IntKind.i64.wrap ((BitVec.ofInt 64 vL ^^^ BitVec.ofInt 64 iY).toNat))).bind λg9=>(some (IntKind.i64.wrap ((BitVec.ofInt 64 xy ^^^ BitVec.ofInt 64 iY).toNat))).bind λjE=>(some (IntKind.i64.wrap ((BitVec.ofInt 64 g9 &&& BitVec.ofInt 64 jE).toNat))).bind λmq=>(some (decide ((0:Int)<=mq))).bind λmL=>(bif mL then(bp iY).bind λ⟨mP,mQ⟩=>some ⟨mP,mQ⟩else K5 ())else K5 ())) λK3=>(bif AZ then some A0 else some false).bind λy7=>K3 y7
noncomputable def fR(x0:Zr)(x1:Zr):Option (Zr):=match x0 with|⟨bD,bB⟩=>match x1 with|⟨cq,b9⟩=>(cz ⟨bD,bB⟩).bind λ⟨vL,AZ⟩=>(cz ⟨cq,b9⟩).bind λ⟨xy,A0⟩=>cW (λ(uG:Bool)=>cW (λ(j5:Unit)=>(bg bB).bind λvH=>(some (!cq)).bind λCR=>(bg b9).bind λyU=>(cn bD vH CR yU).bind λ⟨Iy,Iz⟩=>some ⟨Iy,Iz⟩) λK5=>(bif uG then(some (IntKind.i64.wrap (vL-xy))).bind λiY=>(some (IntKind.i64.wrap ((BitVec.ofInt 64 vL ^^^ BitVec.ofInt 64 xy).toNat))).bind λg9=>(some (IntKind.i64.wrap ((BitVec.ofInt 64 vL ^^^ BitVec.ofInt 64 iY).toNat))).bind λjE=>(some (IntKind.i64.wrap ((BitVec.ofInt 64 g9 &&& BitVec.ofInt 64 jE).toNat))).bind λmq=>(some (decide ((0:Int)<=mq))).bind λmL=>(bif mL then(bp iY).bind λ⟨mP,mQ⟩=>some ⟨mP,mQ⟩else K5 ())else K5 ())) λK3=>(bif AZ then some A0 else some false).bind λy7=>K3 y7
noncomputable def cO(x0:Zr)(x1:Zr):Option (Zr):=match x0 with|⟨bD,bB⟩=>match x1 with|⟨cq,b9⟩=>(bg bB).bind λx9=>(bg b9).bind λiw=>cW (λ(Ek:Bool)=>(bif Ek then(some (!(bD==cq))).bind λAw=>(cH x9).bind λnW=>(cH iw).bind λg9=>(some ((nW*g9)%18446744073709551616)).bind λuB=>(dz Aw uB).bind λ⟨IA,IB⟩=>some ⟨IA,IB⟩else(some (!(bD==cq))).bind λvK=>(eo x9 iw).bind λqA=>(bK vK qA).bind λ⟨jI,jJ⟩=>some ⟨jI,jJ⟩)) λK3=>(some (x9.length:Int)).bind λkO=>(some (decide ((kO:Int)<=1))).bind λl7=>(bif l7 then(some (iw.length:Int)).bind λfJ=>(some (decide ((fJ:Int)<=1))).bind λmc=>some mc else some false).bind λIC=>K3 IC
noncomputable def dG(x0:Zr):Option (Zr):=match x0 with|⟨bD,bB⟩=>(some (!bD)).bind λx5=>(bg bB).bind λx8=>(cJ x8).bind λx9=>(bK x5 x9).bind λ⟨wm,wo⟩=>some ⟨wm,wo⟩
noncomputable def gQ(x0:Zr):Option (Zr):=match x0 with|⟨bD,bB⟩=>(bg bB).bind λx5=>(cJ x5).bind λx6=>(bK false x6).bind λ⟨El,Em⟩=>some ⟨El,Em⟩
noncomputable def bZ(x0:Zr):Option (Int):=match x0 with|⟨bD,bB⟩=>(bg bB).bind λx6=>(some (x6.length:Int)).bind λx7=>(some (decide ((x7:Int)=0))).bind λx8=>(bif x8 then some 0 else(bif bD then some (-1)else some 1))
noncomputable def fS(x0:Zr)(x1:Zr):Option (Int):=match x0 with|⟨bD,bB⟩=>match x1 with|⟨cq,b9⟩=>(bZ ⟨bD,bB⟩).bind λx8=>(bZ ⟨cq,b9⟩).bind λiL=>(some (decide ((x8:Int)<iL))).bind λkO=>(bif kO then some (-1)else(some (decide ((iL:Int)<x8))).bind λfJ=>(bif fJ then some 1 else(some (decide ((x8:Int)<0))).bind λkP=>(bif kP then(bg b9).bind λfo=>(bg bB).bind λnW=>(bY fo nW).bind λnX=>some nX else(bg bB).bind λnV=>(bg b9).bind λmL=>(bY nV mL).bind λpL=>some pL)))
noncomputable def bT(x0:Zr)(x1:Zr):Option (Zr×Zr×Int):=match x0 with|⟨bD,bB⟩=>match x1 with|⟨cq,b9⟩=>(bg bB).bind λkF=>(bg b9).bind λjD=>(some (jD.length:Int)).bind λfJ=>(some (decide ((fJ:Int)=0))).bind λmc=>(bif mc then some (⟨false,[]⟩,⟨false,[]⟩,7)else(ep kF jD).bind λ⟨Eo,Ot⟩=>(bg Ot).bind λg9=>cW (λ(j3:Bool×Bool)=>match j3 with|⟨Ep,A3⟩=>cW (λ(j5:(List Nat)×(List Nat))=>match j5 with|⟨Ou,ID⟩=>(some (!(A3==cq))).bind λyU=>(bK yU Ou).bind λ⟨IE,IF⟩=>(bK false ID).bind λ⟨za,zb⟩=>some (⟨IE,IF⟩,⟨za,zb⟩,0)) λK5=>(bif Ep then(di Eo [1]).bind λqA=>(cc jD g9).bind λot=>K5 (qA,ot)else K5 (Eo,g9))) λK3=>(bif bD then(some (g9.length:Int)).bind λmL=>(some (decide ((0:Int)<mL))).bind λpL=>some pL else some false).bind λIG=>K3 (IG,bD))
noncomputable def gR(x0:Zr)(x1:Zr):Option (Zr):=match x0 with|⟨bD,bB⟩=>match x1 with|⟨cq,b9⟩=>(bg bB).bind λkF=>(bg b9).bind λjD=>(c5 (λ(AX:(List Nat)×(List Nat))=>match AX with|⟨sK,xz⟩=>(show Option (((List Nat)×(List Nat))⊕((List Nat)×(List Nat)))from cW (λ(A4:Bool)=>(bif A4 then(ep sK xz).bind λ⟨Vy,Ov⟩=>(bg Ov).bind λtg=>some (.inl (xz,tg))else some (.inr (sK,xz)))) λZ3=>(some (xz.length:Int)).bind λfJ=>(some (decide ((0:Int)<fJ))).bind λmc=>(bif mc then(some (sK.length:Int)).bind λjC=>(some (decide ((2:Int)<jC))).bind λkp=>(bif kp then some true else(some (xz.length:Int)).bind λiY=>(some (decide ((2:Int)<iY))).bind λnW=>some nW).bind λEr=>some Er else some false).bind λEs=>Z3 Es)) (kF,jD)).bind λLc=>match Lc with|⟨Et,Eu⟩=>(some (Eu.length:Int)).bind λnJ=>(some (decide ((nJ:Int)=0))).bind λvH=>(bif vH then(cJ Et).bind λyp=>(bK false yp).bind λ⟨II,IJ⟩=>some ⟨II,IJ⟩else(cH Et).bind λuD=>(cH Eu).bind λvr=>(c5 (λ(MX:Nat×Nat)=>match MX with|⟨BY,qV⟩=>(show Option ((Nat×Nat)⊕(Nat))from(some (decide ((0:Nat)<qV))).bind λtj=>(bif tj then(vE BY qV).bind λGf=>some (.inl (qV,Gf))else some (.inr BY)))) (uD,vr)).bind λwv=>(dz false wv).bind λ⟨IK,IL⟩=>some ⟨IK,IL⟩)
end
section
open Go.Fw Go.Fw.Z Go.RowKit
theorem dj(c:Nat):KF ah 92 [.v (.int .u64 (c:Nat))] 113 100 [.v (.int .u64 (c:Nat))]:=by
 refine AK Try.func92 Y (af Y) (λga M vs hvs=>?_);exact sr<|RT.Kw .none (s:=.sv _) Y T Y Y<|ag Y<|dn<|sr<|RT.makeFunc .none (.box Y (.nil)) T<|an (s:=.eX _ _) Y<|dn<|bh<|⟨.inr Y,_,.tmp Y,Y⟩
theorem mR(a b:List Nat):Pure ah 93 [(slc 1 (List.map aX a)),(slc 1 (List.map aX b))] (yD 114 [ref [(slc 1 (List.map aX a))],ref [(slc 1 (List.map aX b))]]):=by
 refine bN Try.func93 Y (af Y) (λga M vs hvs=>?_);refine sr<|RT.Kw .none (s:=.sv _) Y T Y Y<|RT.Kw .none (s:=.sv _) Y T Y Y<|ag Y<|dn<|sr<|RT.makeFunc .none (.box Y (.box Y (.nil))) T<|an (s:=.eX _ _) Y<|dn<|gy (vX (i:=2) Y [(slc 1 (List.map aX a))] (.cons Y .nil) .any 0 [(4,.eX 114 [.val (ref [(slc 1 (List.map aX a))]),.box 3])] (λ_ _ _=>trivial) (tL.h (l:=[(slc 1 (List.map aX a))])) ⟨@FT.eX _ _ _ _ _ 4 114 [.box 2,.box 3] Y,aq⟩) ?_;exact gy (vX (i:=3) Y [(slc 1 (List.map aX b))] (.cons Y .nil) .any 0 [(4,.eX 114 [.val (ref [(slc 1 (List.map aX a))]),.val (ref [(slc 1 (List.map aX b))])])] (λ_ _ _=>trivial) (tL.h (l:=[(slc 1 (List.map aX b))])) ⟨@FT.eX _ _ _ _ _ 4 114 [.val (ref [(slc 1 (List.map aX a))]),.box 3] Y,aq⟩)<|gy (KO 4 (yD 114 [ref [(slc 1 (List.map aX a))],ref [(slc 1 (List.map aX b))]]) (λ_ _ h=>KP h))<|bh<|⟨.inr Y,KB (.tmp Y (.nil)) Y⟩
theorem mS(a b:List Nat):Iter ah 114 [ref [(slc 1 (List.map aX a))],ref [(slc 1 (List.map aX b))]] (max a.length b.length) (λk=>[.v (.int .u64 ((a.getD k 0%18446744073709551616:Nat):Int)),.v (.int .u64 ((b.getD k 0%18446744073709551616:Nat):Int))]):=by
 refine AM Try.func114 Y Y (af Y) (λga M O l J hJ Lr hr=>?_);obtain⟨vq,Lr⟩:=Lr;have hla:a.length<=9223372036854775807:=by cases vq with|nil=>exact Lr.elim|cons _ vq=>exact BR Lr.1
 have hlb:b.length<=9223372036854775807:=by cases vq with|nil=>exact Lr.elim|cons _ vq=>cases vq with|nil=>exact Lr.2.elim|cons _ _=>exact BR Lr.2.1
 refine cg ?_;refine aZ ?_;refine RT.fF .none Y Y (tl Y) ?_;refine RT.len .none Y (tl Y) ?_;refine RT.fF .none Y Y (tl Y) ?_;refine RT.len .none Y (tl Y) ?_;refine RT.max .none (((max a.length b.length:Nat):Int)) Y Y (tl Y) (by simp only[List.length_map];split<;>omega) ?_;refine RT.mv .none Y (tl Y) ?_;refine RT.done ?_;refine aV.n ?_;refine bn ?_
 refine BD (I:=λx:{i:Nat//i<=max a.length b.length}=>AS.dR 39 [(0,.sv (.v (.func (.yield l) #[] #[]))),(1,.sv (ref [(slc 1 (List.map aX a))])),(2,.sv (ref [(slc 1 (List.map aX b))])),(11,ai ((max a.length b.length:Nat):Int)),(12,ai ((x.1:Nat):Int))] [] [] (x.1)) (μ:=λx=>max a.length b.length-x.1) ⟨0,by omega⟩ (by(try dsimp only);exact iO id Y Y Y Y Y ⟨.sv (by first|exact au|exact SV.bq (by omega)|exact SV.bq (by push_cast;omega)|exact SV.bq (by dsimp only;omega)|exact SV.imp_eq (by simp)),.sv (by first|exact au|exact SV.bq (by omega)|exact SV.bq (by push_cast;omega)|exact SV.bq (by dsimp only;omega)|exact SV.imp_eq (by simp)),.sv (by first|exact au|exact SV.bq (by omega)|exact SV.bq (by push_cast;omega)|exact SV.bq (by dsimp only;omega)|exact SV.imp_eq (by simp)),.sv (by first|exact au|exact SV.bq (by omega)|exact SV.bq (by push_cast;omega)|exact SV.bq (by dsimp only;omega)|exact SV.imp_eq (by simp)),.sv (by first|exact au|exact SV.bq (by omega)|exact SV.bq (by push_cast;omega)|exact SV.bq (by dsimp only;omega)|exact SV.imp_eq (by simp)),aq⟩ trivial trivial (λ_ _=>Y)) ?_;rintro⟨i,Z4⟩
 try dsimp only
 rcases AO a b i Z4 with⟨hi,xj,DN⟩|⟨hi,xj,DN⟩|⟨hi,xj,DN⟩|hi
 ·
  refine cg ?_;refine aZ ?_;refine RT.lss .none (true) Y Y (tl Y) (by simp;omega) ?_;refine RT.done ?_;refine aV.n ?_;refine cg ?_;refine fM Y ?_;refine bH ?_;refine aV.n ?_;refine cg ?_;refine bn ?_;refine cg ?_;refine aZ ?_;refine RT.mv .none Y (tl Y) ?_;refine RT.AG .none Y (tl Y) ?_;refine RT.done ?_;refine aV.n ?_;refine cg ?_;refine aZ ?_;refine RT.AG .none Y (tl Y) ?_;refine RT.AG .none Y (tl Y) ?_;refine RT.done ?_;refine aV.n ?_;refine cg ?_;refine cg ?_;refine aZ ?_;refine RT.mv .none Y (tl Y) ?_;refine RT.fF .none Y Y (tl Y) ?_;refine RT.len .none Y (tl Y) ?_;refine RT.lss .none (true) Y Y (tl Y) (by simp only[List.length_map];simp;omega) ?_;refine RT.done ?_;refine aV.n ?_;refine fM Y ?_;refine aZ ?_;refine RT.fF .none Y Y (tl Y) ?_;refine RT.mv .none Y (tl Y) ?_;refine RT.Sr .none [.v (.int .u32 ((a.getD i 0:Nat):Int))] (Int.natCast_nonneg i) (by rw[Int.toNat_natCast,List.getElem?_map,mH xj];rfl) Y Y (tl Y) ?_;refine RT.fF .none Y Y (tl Y) ?_;refine RT.conv .none (((a.getD i 0%18446744073709551616:Nat):Int)) Y (tl Y) GG ?_;refine RT.AG .none Y (tl Y) ?_;refine RT.done ?_;refine aV.n ?_;refine cg ?_;refine cg ?_;refine aZ ?_;refine RT.mv .none Y (tl Y) ?_
  refine RT.fF .none Y Y (tl Y) ?_;refine RT.len .none Y (tl Y) ?_;refine RT.lss .none (true) Y Y (tl Y) (by simp only[List.length_map];simp;omega) ?_;refine RT.done ?_;refine aV.n ?_;refine fM Y ?_;refine aZ ?_;refine RT.fF .none Y Y (tl Y) ?_;refine RT.mv .none Y (tl Y) ?_;refine RT.Sr .none [.v (.int .u32 ((b.getD i 0:Nat):Int))] (Int.natCast_nonneg i) (by rw[Int.toNat_natCast,List.getElem?_map,mH DN];rfl) Y Y (tl Y) ?_;refine RT.fF .none Y Y (tl Y) ?_;refine RT.conv .none (((b.getD i 0%18446744073709551616:Nat):Int)) Y (tl Y) GG ?_;refine RT.AG .none Y (tl Y) ?_;refine RT.done ?_;refine aV.n ?_;refine cg ?_;refine aZ ?_;refine RT.mv .none Y (tl Y) ?_;refine RT.mv .none Y (tl Y) ?_;refine RT.mv .none Y (tl Y) ?_;refine RT.yield .none hr Y (λ_ h=>h) Y (i) Y Y hi (by exact⟨Y,Y,aq⟩) (tl Y) (λyb=>?_);cases yb
  ·
   refine RT.not .none Y (tl Y) true Y ?_;refine RT.done ?_;refine aV.n ?_;refine fM Y ?_;refine bh ?_;refine bG.r ?_;refine aV.r ?_;refine aV.r ?_;refine bG.r ?_;exact⟨.inr rfl,(λh=>by cases h)⟩
  refine RT.not .none Y (tl Y) false Y ?_;refine RT.done ?_;refine aV.n ?_;refine iN Y ?_;refine bH ?_;refine bG.n ?_;refine aV.n ?_;refine aZ ?_;refine RT.add .none (((i:Nat):Int)+1) Y Y (tl Y) (mE (by omega)) ?_;refine RT.mv .none Y (tl Y) ?_;refine RT.done ?_;refine aV.n ?_;refine⟨⟨i+1,by omega⟩,(by dsimp only;omega),?_⟩
  try dsimp only
  exact iO id Y Y Y Y Y ⟨.sv (by first|exact au|exact SV.bq (by omega)|exact SV.bq (by push_cast;omega)|exact SV.bq (by dsimp only;omega)|exact SV.imp_eq (by simp)),.sv (by first|exact au|exact SV.bq (by omega)|exact SV.bq (by push_cast;omega)|exact SV.bq (by dsimp only;omega)|exact SV.imp_eq (by simp)),.sv (by first|exact au|exact SV.bq (by omega)|exact SV.bq (by push_cast;omega)|exact SV.bq (by dsimp only;omega)|exact SV.imp_eq (by simp)),.sv (by first|exact au|exact SV.bq (by omega)|exact SV.bq (by push_cast;omega)|exact SV.bq (by dsimp only;omega)|exact SV.imp_eq (by simp)),.sv (by first|exact au|exact SV.bq (by omega)|exact SV.bq (by push_cast;omega)|exact SV.bq (by dsimp only;omega)|exact SV.imp_eq (by simp)),aq⟩ trivial trivial (λ_ _=>Y)
 ·
  refine cg ?_;refine aZ ?_;refine RT.lss .none (true) Y Y (tl Y) (by simp;omega) ?_;refine RT.done ?_;refine aV.n ?_;refine cg ?_;refine fM Y ?_;refine bH ?_;refine aV.n ?_;refine cg ?_;refine bn ?_;refine cg ?_;refine aZ ?_;refine RT.mv .none Y (tl Y) ?_;refine RT.AG .none Y (tl Y) ?_;refine RT.done ?_;refine aV.n ?_;refine cg ?_;refine aZ ?_;refine RT.AG .none Y (tl Y) ?_;refine RT.AG .none Y (tl Y) ?_;refine RT.done ?_;refine aV.n ?_;refine cg ?_;refine cg ?_;refine aZ ?_;refine RT.mv .none Y (tl Y) ?_;refine RT.fF .none Y Y (tl Y) ?_;refine RT.len .none Y (tl Y) ?_;refine RT.lss .none (true) Y Y (tl Y) (by simp only[List.length_map];simp;omega) ?_;refine RT.done ?_;refine aV.n ?_;refine fM Y ?_;refine aZ ?_;refine RT.fF .none Y Y (tl Y) ?_;refine RT.mv .none Y (tl Y) ?_;refine RT.Sr .none [.v (.int .u32 ((a.getD i 0:Nat):Int))] (Int.natCast_nonneg i) (by rw[Int.toNat_natCast,List.getElem?_map,mH xj];rfl) Y Y (tl Y) ?_;refine RT.fF .none Y Y (tl Y) ?_;refine RT.conv .none (((a.getD i 0%18446744073709551616:Nat):Int)) Y (tl Y) GG ?_;refine RT.AG .none Y (tl Y) ?_;refine RT.done ?_;refine aV.n ?_;refine cg ?_;refine cg ?_;refine aZ ?_;refine RT.mv .none Y (tl Y) ?_
  refine RT.fF .none Y Y (tl Y) ?_;refine RT.len .none Y (tl Y) ?_;refine RT.lss .none (false) Y Y (tl Y) (by simp only[List.length_map];simp;omega) ?_;refine RT.done ?_;refine aV.n ?_;refine iN Y ?_;refine bH ?_;refine aV.n ?_;refine cg ?_;refine aZ ?_;refine RT.mv .none Y (tl Y) ?_;refine RT.mv .none Y (tl Y) ?_;refine RT.mv .none Y (tl Y) ?_;refine RT.yield .none hr Y (λ_ h=>h) Y (i) Y Y hi (by exact⟨Y,(by show AV.sv _=AV.sv _;rw[oJ DN];rfl),aq⟩) (tl Y) (λyb=>?_);cases yb
  ·
   refine RT.not .none Y (tl Y) true Y ?_;refine RT.done ?_;refine aV.n ?_;refine fM Y ?_;refine bh ?_;refine bG.r ?_;refine aV.r ?_;refine aV.r ?_;refine bG.r ?_;exact⟨.inr rfl,(λh=>by cases h)⟩
  refine RT.not .none Y (tl Y) false Y ?_;refine RT.done ?_;refine aV.n ?_;refine iN Y ?_;refine bH ?_;refine bG.n ?_;refine aV.n ?_;refine aZ ?_;refine RT.add .none (((i:Nat):Int)+1) Y Y (tl Y) (mE (by omega)) ?_;refine RT.mv .none Y (tl Y) ?_;refine RT.done ?_;refine aV.n ?_;refine⟨⟨i+1,by omega⟩,(by dsimp only;omega),?_⟩
  try dsimp only
  exact iO id Y Y Y Y Y ⟨.sv (by first|exact au|exact SV.bq (by omega)|exact SV.bq (by push_cast;omega)|exact SV.bq (by dsimp only;omega)|exact SV.imp_eq (by simp)),.sv (by first|exact au|exact SV.bq (by omega)|exact SV.bq (by push_cast;omega)|exact SV.bq (by dsimp only;omega)|exact SV.imp_eq (by simp)),.sv (by first|exact au|exact SV.bq (by omega)|exact SV.bq (by push_cast;omega)|exact SV.bq (by dsimp only;omega)|exact SV.imp_eq (by simp)),.sv (by first|exact au|exact SV.bq (by omega)|exact SV.bq (by push_cast;omega)|exact SV.bq (by dsimp only;omega)|exact SV.imp_eq (by simp)),.sv (by first|exact au|exact SV.bq (by omega)|exact SV.bq (by push_cast;omega)|exact SV.bq (by dsimp only;omega)|exact SV.imp_eq (by simp)),aq⟩ trivial trivial (λ_ _=>Y)
 ·
  refine cg ?_;refine aZ ?_;refine RT.lss .none (true) Y Y (tl Y) (by simp;omega) ?_;refine RT.done ?_;refine aV.n ?_;refine cg ?_;refine fM Y ?_;refine bH ?_;refine aV.n ?_;refine cg ?_;refine bn ?_;refine cg ?_;refine aZ ?_;refine RT.mv .none Y (tl Y) ?_;refine RT.AG .none Y (tl Y) ?_;refine RT.done ?_;refine aV.n ?_;refine cg ?_;refine aZ ?_;refine RT.AG .none Y (tl Y) ?_;refine RT.AG .none Y (tl Y) ?_;refine RT.done ?_;refine aV.n ?_;refine cg ?_;refine cg ?_;refine aZ ?_;refine RT.mv .none Y (tl Y) ?_;refine RT.fF .none Y Y (tl Y) ?_;refine RT.len .none Y (tl Y) ?_;refine RT.lss .none (false) Y Y (tl Y) (by simp only[List.length_map];simp;omega) ?_;refine RT.done ?_;refine aV.n ?_;refine iN Y ?_;refine bH ?_;refine aV.n ?_;refine cg ?_;refine cg ?_;refine aZ ?_;refine RT.mv .none Y (tl Y) ?_;refine RT.fF .none Y Y (tl Y) ?_;refine RT.len .none Y (tl Y) ?_;refine RT.lss .none (true) Y Y (tl Y) (by simp only[List.length_map];simp;omega) ?_;refine RT.done ?_;refine aV.n ?_;refine fM Y ?_;refine aZ ?_;refine RT.fF .none Y Y (tl Y) ?_;refine RT.mv .none Y (tl Y) ?_
  refine RT.Sr .none [.v (.int .u32 ((b.getD i 0:Nat):Int))] (Int.natCast_nonneg i) (by rw[Int.toNat_natCast,List.getElem?_map,mH DN];rfl) Y Y (tl Y) ?_;refine RT.fF .none Y Y (tl Y) ?_;refine RT.conv .none (((b.getD i 0%18446744073709551616:Nat):Int)) Y (tl Y) GG ?_;refine RT.AG .none Y (tl Y) ?_;refine RT.done ?_;refine aV.n ?_;refine cg ?_;refine aZ ?_;refine RT.mv .none Y (tl Y) ?_;refine RT.mv .none Y (tl Y) ?_;refine RT.mv .none Y (tl Y) ?_;refine RT.yield .none hr Y (λ_ h=>h) Y (i) Y Y hi (by exact⟨(by show AV.sv _=AV.sv _;rw[oJ xj];rfl),Y,aq⟩) (tl Y) (λyb=>?_);cases yb
  ·
   refine RT.not .none Y (tl Y) true Y ?_;refine RT.done ?_;refine aV.n ?_;refine fM Y ?_;refine bh ?_;refine bG.r ?_;refine aV.r ?_;refine aV.r ?_;refine bG.r ?_;exact⟨.inr rfl,(λh=>by cases h)⟩
  refine RT.not .none Y (tl Y) false Y ?_;refine RT.done ?_;refine aV.n ?_;refine iN Y ?_;refine bH ?_;refine bG.n ?_;refine aV.n ?_;refine aZ ?_;refine RT.add .none (((i:Nat):Int)+1) Y Y (tl Y) (mE (by omega)) ?_;refine RT.mv .none Y (tl Y) ?_;refine RT.done ?_;refine aV.n ?_;refine⟨⟨i+1,by omega⟩,(by dsimp only;omega),?_⟩
  try dsimp only
  exact iO id Y Y Y Y Y ⟨.sv (by first|exact au|exact SV.bq (by omega)|exact SV.bq (by push_cast;omega)|exact SV.bq (by dsimp only;omega)|exact SV.imp_eq (by simp)),.sv (by first|exact au|exact SV.bq (by omega)|exact SV.bq (by push_cast;omega)|exact SV.bq (by dsimp only;omega)|exact SV.imp_eq (by simp)),.sv (by first|exact au|exact SV.bq (by omega)|exact SV.bq (by push_cast;omega)|exact SV.bq (by dsimp only;omega)|exact SV.imp_eq (by simp)),.sv (by first|exact au|exact SV.bq (by omega)|exact SV.bq (by push_cast;omega)|exact SV.bq (by dsimp only;omega)|exact SV.imp_eq (by simp)),.sv (by first|exact au|exact SV.bq (by omega)|exact SV.bq (by push_cast;omega)|exact SV.bq (by dsimp only;omega)|exact SV.imp_eq (by simp)),aq⟩ trivial trivial (λ_ _=>Y)
 subst hi;refine cg ?_;refine aZ ?_;refine RT.lss .none (false) Y Y (tl Y) (by simp) ?_;refine RT.done ?_;refine aV.n ?_;refine cg ?_;refine iN Y ?_;refine cQ ?_;refine aV.x ?_;refine aV.x ?_;refine bG.x ?_;exact⟨.inl Y,(λ_=>Y)⟩
theorem kV{x0 r:List Nat}(h:cJ x0=some r):CH ah 56 [slc 1 (List.map aX x0)] (TR 80 1 aX r):=by
 refine uh Try.func56 Y (af Y) (λga M vs hvs=>?_);unfold cJ at h;refine sr<|ag Y<|dn<|qq<|sr<|mv Y ?_;refine RT.NF .none Y T (λnb hnb=>?_);cases nb;exact dn<|fs<|sr<|RT.GK (l:=([]:List Nat)) (e:=aX) .none .nil T Y T Y Y Y Y Y Y<|mv Y<|aR (k:=x0) (e:=aX) Y Y Y h<|an (s:=.row _) Y<|dn<|bh<|⟨.inr Y,_,.tmp Y,Y⟩;have hx:x0=[]:=by simpa using hnb Y
 subst hx;obtain⟨_,_,rfl⟩:=pH h;exact dn<|cT<|sr<|ag Y<|dn<|gy (kT 2 300 80 1 Y Y T)<|bh<|aV.r<|⟨.inr Y,_,.tmp Y,Y⟩
theorem bM{x0:Nat}{c0:Nat}{r:Nat×Nat}(h:bw x0 c0=some r):Gz ah 113 [.v (.int .u64 ((x0:Nat):Int))] 100 [.v (.int .u64 ((c0:Nat):Int))] (.v (.int .u32 ((r.1:Nat):Int))) [.v (.int .u64 ((r.2:Nat):Int))]:=by
 refine AJ Try.func113 Y (af Y) (λga M β=>?_);unfold bw at h;refine sr<|ag Y<|dn<|sr<|mv Y<|lV Y Y Y<|lE h λx6 h6 h=>ad _ Y Y (UK.add (a:=x0) (b:=c0) h6)<|ag Y<|dn<|sr<|mv Y<|lE h λx8 h8 h=>RT.shr .none _ Y Y T (by decide) (xo (k:=.u64) (a:=x6) (q:=32) (s:=32) Y h8)<|RT.Ay (cells:=[_]) .none (s:=.sv _) Y Y Y T Y<|dn<|sr<|mv Y<|lE h λiL jy h=>cv _ Y (UK.nat jy)<|ag Y ?_;refine dn<|bh ?_;obtain rfl:=O h;exact⟨.inr Y,cS (.tmp Y (.nil)) au,Y⟩
theorem bL{x0:List Nat}{r:List Nat}(h:bg x0=some r):Pure ah 54 [slc 1 (List.map aX x0)] (slc 1 (List.map aX r)):=by
 refine bN Try.func54 Y (af Y) (λga M vs hvs=>?_);unfold bg at h;refine sr<|aI Y (aB (n:=1) (e:=aX))<|dn<|qq<|bE h λLs A5 xA=>?_;refine cE (λ(uA:(List Nat))=>AS.dR 21 [(0,.sv (slc 1 (List.map aX uA)))] [] []) (λuA=>uA=Ls) ?_ (λuA A6=>?_);refine bn ?_;refine cG A5 (λyW=>AS.dR 21 [(0,.sv (slc 1 (List.map aX yW)))] [] []) (wR []) (λsI Vz VA h A7 ze=>?_)
 try dsimp only
 refine qq<|qq ?_;refine bF h (λLt=>AS.dR 21 [(0,.sv (slc 1 (List.map aX sI))),(14,aj Lt)] [] []) (λh=>?_) (λuz h=>?_);refine aZ<|mv Y<|lE h λx4 h4 h=>ln Y h4<|lE h λx5 h5 h=>gt _ Y Y h5<|mv Y<|bE h λAR dY h=>?_;cases x5;obtain rfl:=O (F dY);exact ww<|ww<|ww<|ww<|ww<|ww<|ww<|pF Y<|dn<|⟨false,h,wR []⟩;refine gm Y<|gm Y<|lE (V dY) λx9 h9 dY=>gn Y h9<|lE dY λiL jy dY=>RT.sub (.some Y Y) _ Y Y T jy<|bE dY λnU qW dY=>RT.NN (.some Y Y) Y Y T qW<|gr Y Y<|lE dY λkF me dY=>BW _ Y Y (NH (p:=nU) (q:=0) me) ?_;obtain rfl:=O dY;exact pT Y<|dn<|⟨kF,h,wR []⟩
 try dsimp only
 refine aV.n ?_;cases uz;refine cF<|cQ<|aV.x<|aV.x<|bG.x<|aV.n ?_;obtain rfl:=O (F h);exact⟨sI,ze _ Y,wR []⟩;refine cT<|bH<|aV.n<|bn<|aZ<|mv Y<|mv Y<|lE (V h) λiv mU h=>ln Y mU<|lE h λfJ jK h=>sb _ Y Y jK<|bE h λmc oO h=>RT.D5 .none 0 fJ Y Y ⟨_,Y⟩ T oO<|ag Y<|RT.done<|bG.n ?_;obtain rfl:=O h;exact aV.n ⟨mc,A7 _ Y,wR []⟩;subst A6
 try dsimp only
 refine aV.n<|sr<|mv Y<|ag Y<|dn<|bh ?_;obtain rfl:=O xA;exact R1 Y
abbrev ax:SV:=slc 1 (List.map aX [])
theorem fT{x0:Bool}{x1:Nat}(N:Nat){r:Zr}(h:dz x0 x1=some r):c6 ah 71 N [az x0,.v (.int .u64 ((x1:Nat):Int))] (.agg ((fZ N) r)):=by
 refine bt Try.func71 Y (af Y) (λga M vs hN hvs=>?_);unfold dz at h;refine sr<|al (cs:=[az false,nw N ax]) (by exact⟨au,bk,aq⟩) Y<|dn<|qq<|bn<|sr<|mv Y<|lE h λx7 h7 h=>eq _ Y Y (NH (p:=x1) (q:=0) h7)<|ag Y<|dn ?_;cases x7;refine cF<|sr<|mv Y<|lE (F h) λnU qW h=>RT.shr .none _ Y Y T (by decide) (xo (k:=.u64) (a:=x1) (q:=32) (s:=32) Y qW)<|lE h λiw kW h=>eq _ Y Y (NH (p:=nU) (q:=0) kW)<|ag Y<|dn ?_;cases iw;refine cF<|bH<|bG.n<|aV.n<|sr<|mv Y<|mv Y<|lE (F h) λjm nY h=>cv _ Y (UK.nat nY)<|mv Y<|lE h λjC sL h=>RT.shr .none _ Y Y T (by decide) (xo (k:=.u64) (a:=x1) (q:=32) (s:=32) Y sL)<|lE h λkp qX h=>cv _ Y (UK.nat qX)<|RT.pI (l:=[jm,kp]) (e:=aX) .none hN (.one Y (.one Y (.nil))) T Y Y Y Y Y Y<|bI (cs:=[_,_]) (cs':=[az x0,nw N (slc 1 (List.map aX [jm,kp]))]) (.one Y (.one Y (.nil))) ⟨au,au,aq⟩ ?_;refine so Y Y Y<|dn<|bh ?_;obtain rfl:=O h;exact RZ (.agg Y Y (.k2 Y Y) Y (.nil));refine cT<|sr<|mv Y<|mv Y<|lE (V h) λl7 pU h=>cv _ Y (UK.nat pU)<|RT.pI (l:=[l7]) (e:=aX) .none hN (.one Y (.nil)) T Y Y Y Y Y Y<|bI (cs:=[_,_]) (cs':=[az x0,nw N (slc 1 (List.map aX [l7]))]) (.one Y (.one Y (.nil))) ⟨au,au,aq⟩<|so Y Y Y<|dn<|bh<|bG.r<|aV.r ?_;obtain rfl:=O h
 exact RZ (.agg Y Y (.k2 Y Y) Y (.nil));refine cT<|sr<|bI (cs:=[_,_]) (cs':=[az false,nw N ax]) (.nil) ⟨au,bk,aq⟩<|so Y Y Y<|dn<|bh<|bG.r<|aV.r ?_;obtain rfl:=O (V h);exact RZ (.agg Y Y (.k2 Y Y) Y (.nil))
theorem ff{x0:List Nat}{r:Nat}(h:cH x0=some r):Pure ah 87 [slc 1 (List.map aX x0)] (.v (.int .u64 ((r:Nat):Int))):=by
 refine bN Try.func87 Y (af Y) (λga M vs hvs=>?_);unfold cH at h;refine sr<|ag Y<|dn<|qq<|sr<|mv Y<|lE h λx4 h4 h=>ln Y h4<|dn<|bn<|sr<|lE h λx6 h6 h=>eq _ Y Y (qz (p:=x4) (q:=0) h6)<|ag Y<|dn ?_;cases x6;refine cF<|sr<|lE (F h) λx8 h8 h=>eq _ Y Y (qz (p:=x4) (q:=1) h8)<|ag Y<|dn ?_;cases x8;refine cF<|bH<|bG.n<|aV.n<|qq<|bf mixed<|mv Y<|bE (F h) λkO rT h=>ix Y Y rT<|lr Y Y<|lE h λjD nZ h=>cv _ Y (UK.nat nZ)<|mv Y<|bE h λfJ jK h=>ix Y Y jK<|lr Y Y<|lE h λjm nY h=>cv _ Y (UK.nat nY)<|lE h λkP qY h=>RT.shl .none _ Y Y T (by decide) (UK.shl (a:=jm) (q:=32) (s:=32) Y qY)<|lE h λjC sL h=>RT.or .none _ Y Y T (UK.or (a:=jD) (b:=kP) sL) ?_;refine ag Y ?_;refine RT.done ⟨by kernel_rfl,?_⟩;refine aV.n<|bh ?_;obtain rfl:=O h;exact R1 Y;refine cT<|sr<|mv Y<|bE (V h) λiL jy h=>ix Y Y jy<|lr Y Y<|lE h λiw kW h=>cv _ Y (UK.nat kW)<|ag Y<|dn<|bh<|bG.r<|aV.r ?_;obtain rfl:=O h;exact R1 Y;refine cT<|sr<|ag Y<|dn<|bh<|bG.r<|aV.r ?_;obtain rfl:=O (V h);exact R1 Y
theorem ey{x0:List Nat}{x1:List Nat}{r:Int}(h:bY x0 x1=some r):Pure ah 72 [slc 1 (List.map aX x0),slc 1 (List.map aX x1)] (ay r):=by
 refine bN Try.func72 Y (af Y) (λga M vs hvs=>?_);unfold bY at h;refine sr<|ag Y<|dn<|qq<|sr<|mv Y<|lE h λx7 h7 h=>ln Y h7<|mv Y<|lE h λx9 h9 h=>ln Y h9<|lE h λiL jy h=>ne _ Y Y (KQ (p:=x7) (q:=x9) jy)<|dn ?_;cases iL;refine fs<|qq<|sr<|mv Y<|lE (F h) λiv mU h=>ln Y mU<|lE h λfJ jK h=>sb _ Y Y jK<|ag Y<|dn<|bE h λe6 VB pV=>?_;refine cE (λ(VC:Unit)=>AS.dR 41 [] [] []) (λVC=>.inl VC=e6) ?_ (λVC VD=>?_);refine bn ?_;refine cG VB (λs6=>AS.dR 41 [(0,.sv (slc 1 (List.map aX x0))),(1,.sv (slc 1 (List.map aX x1))),(5,ai s6)] [] []) (wR []) (λsJ y6 G6 h VE Ow=>?_)
 try dsimp only
 refine qq<|sr<|mv Y<|lE h λjm nY h=>ge _ Y Y nY<|dn ?_;cases jm;refine cF<|cQ<|aV.x<|aV.x<|bG.x<|aV.n ?_;obtain rfl:=O (F h);exact⟨(),Ow _ Y,wR []⟩;refine cT<|bH<|aV.n<|qq<|bn<|qq<|bf mixed<|mv Y<|mv Y<|bE (V h) λAw zf h=>ix Y Y zf<|lr Y Y<|mv Y<|mv Y<|bE h λg9 kQ h=>ix Y Y kQ<|lr Y Y<|lE h λnV yq h=>ne _ Y Y (NI (p:=Aw) (q:=g9) yq) ?_;refine RT.done ⟨by kernel_rfl,?_⟩;refine aV.n ?_;cases nV;refine cF<|bH<|bG.n<|aV.n<|aZ<|mv Y<|lE (F h) λjC sL h=>sb _ Y Y sL<|ag Y<|RT.done ?_;obtain rfl:=O h;exact aV.n ⟨jC,VE _ Y,wR []⟩;refine cT<|qq<|qq<|bf mixed<|mv Y<|mv Y<|bE (V h) λmL pW h=>ix Y Y pW<|lr Y Y<|mv Y<|mv Y<|bE h λtg CT h=>ix Y Y CT<|lr Y Y<|lE h λnJ qB h=>ls _ Y Y (MQ (p:=mL) (q:=tg) qB) ?_;refine RT.done ⟨by kernel_rfl,?_⟩;refine aV.n ?_;cases nJ;refine fs<|sr<|ag Y<|dn<|bh<|bG.r<|aV.r ?_;obtain rfl:=O (F h);have VF:=Ow _ Y;subst VF;refine aV.r<|bG.r<|aV.r<|aV.r ?_;obtain rfl:=O pV;exact R1 Y;refine cT<|sr<|ag Y<|dn<|bh<|aV.r<|bG.r<|aV.r ?_;obtain rfl:=O (V h);have VF:=Ow _ Y;subst VF;refine aV.r<|bG.r<|aV.r<|aV.r ?_;obtain rfl:=O pV;exact R1 Y;subst VD
 try dsimp only
 refine aV.n<|sr<|ag Y<|dn<|bh ?_;obtain rfl:=O pV;exact R1 Y;refine cT<|qq<|sr<|mv Y<|lE (V h) λiw kW h=>ln Y kW<|mv Y<|lE h λkO rT h=>ln Y rT<|lE h λl7 pU h=>ls _ Y Y pU<|dn ?_;cases l7;refine fs<|sr<|ag Y<|dn<|bh<|aV.r ?_;obtain rfl:=O (F h);exact R1 Y;refine cT<|sr<|ag Y<|dn<|bh<|aV.r<|aV.r ?_;obtain rfl:=O (V h);exact R1 Y
theorem kq{x0:List Nat}{x1:List Nat}(N:Nat){r:List Nat}(h:di x0 x1=some r):c6 ah 69 N [slc 1 (List.map aX x0),slc 1 (List.map aX x1)] (nw N (slc 1 (List.map aX r))):=by
 refine bt Try.func69 Y (af Y) (λga M vs hN hvs=>?_);unfold di at h;refine sr<|aI Y (bk (N:=N) (n:=1) (e:=aX))<|dn<|sr<|mv Y<|lE h λiL jy h=>ln Y jy<|mv Y<|lE h λiw kW h=>ln Y kW<|lE h λkF me h=>RT.max .none _ Y Y T (UL (p:=iL) (q:=iw) me)<|lE h λkO rT h=>ad _ Y Y rT<|bE h λl7 pU h=>RT.BQ (e:=aX) .none Y Y T Y T pU<|RT.alloc .none T Y Y<|RT.tO (cells:=[_]) .none Y Y Y Y T Y<|dn<|sr ?_;refine RT.uj .none (dj 0) Y ⟨Y,aq⟩ T Y Y<|RT.alloc .none T Y Y<|RT.Ay (cells:=[_]) .none (s:=.eX _ _) Y Y Y T Y<|dn<|qq<|sr<|mv Y<|mv Y<|cl (mR x0 x1) ⟨Y,Y,aq⟩<|dn<|bn<|bE h λe7 VG Lu=>?_;obtain⟨Lw,VH,VI,VJ⟩:=qP VG
 refine pE (mS x0 x1) (λ_ _ _ _ _=>trivial) Y (λk=>AS.dR 35 [(5,.ptr 5 0),(6,.ptr 6 0),(19,.sv (yD 114 [ref [slc 1 (List.map aX x0)],ref [slc 1 (List.map aX x1)]]))] [(6,⟨119,[.eX 113 [.box 16]]⟩),(16,⟨100,[.sv (.v (.int .u64 (((Lw k).1:Nat):Int)))]⟩),(5,⟨22,[.row 302]⟩)] [(302,TR 80 1 aX (Lw k).2)]) [6,16,5] Y (λ_=>⟨Y,Y⟩) (DY Y) (λ_=>Y) (DZ Y) (by(try dsimp only);rw[VH];(try dsimp only);exact iO (λi=>bif Nat.beq i 302 then 15 else i) Y Y Y Y Y ⟨.ptr,.ptr,.sv au,aq⟩ ⟨⟨_,Y,⟨.eX,aq⟩⟩,⟨_,Y,⟨.sv au,aq⟩⟩,⟨_,Y,⟨.row Y,aq⟩⟩,aq⟩ ⟨⟨_,Y,dO.refl _⟩,aq⟩ (λi hi=>by rw[dV (show i≠302 by omega)];rfl)) (λk hk D hD=>?_) ?_;have h:=VI k hk;obtain⟨sk,VK⟩:∃q,Lw k=q:=⟨_,Y⟩;rw[VK]at h⊢;obtain⟨pJ,fO⟩:=sk;dsimp only[AS.Ss,yJ]
 try dsimp only at h
 refine lE h λU8 VL h=>?_;rw[VL];refine lE h λU9 VM h=>?_;rw[VM];refine sr<|ag Y<|dn<|aZ<|ag Y<|RT.done ?_;refine aV.n ⟨Y,?_⟩;dsimp only[AS.GD];refine bn<|bf mixed<|RT.kg .none (s:=.row _) Y Y Y T<|RT.kg .none (s:=.eX _ _) Y Y Y T<|mv Y<|mv Y<|lE h λiY qC h=>ad _ Y Y (UK.add (a:=U8) (b:=U9) qC) ?_;obtain⟨⟨nW,k9⟩,vu,h⟩:=bS h;refine cB (bM vu) 16 Y ⟨Y,aq⟩<|bl (l:=[nW]) (e:=aX) (.one Y (.nil)) Y Y Y Y Y Y<|bE h λg9 kQ h=>aR (k:=[nW]) (e:=aX) Y Y Y kQ<|RT.tO (cells:=[_]) .none Y Y Y Y T Y ?_;refine RT.done ⟨by kernel_rfl,?_⟩;refine bG.n ?_;replace h:=Option.some.inj h;refine⟨aq,Y,Y,?_⟩
 try dsimp only
 rw[<-h]
 try dsimp only
 exact iO (λi=>bif Nat.beq i 302 then 29 else i) Y Y Y Y Y ⟨.ptr,.ptr,.sv au,aq⟩ ⟨⟨_,Y,⟨.eX,aq⟩⟩,⟨_,Y,⟨.sv au,aq⟩⟩,⟨_,Y,⟨.row Y,aq⟩⟩,aq⟩ ⟨⟨_,Y,dO.refl _⟩,aq⟩ (λi hi=>by rw[dV (show i≠302 by omega)];rfl);rw[VJ];obtain⟨pJ,fO⟩:=e7
 try dsimp only
 refine bG.n<|aV.n<|qq<|bf mixed<|RT.kg .none (s:=.row _) Y Y Y T<|RT.kg .none (s:=.eX _ _) Y Y Y T ?_;obtain⟨⟨jE,Z0⟩,nM,Lu⟩:=bS Lu;refine cB (bM nM) 16 Y ⟨Y,aq⟩<|bl (l:=[jE]) (e:=aX) (.one Y (.nil)) Y Y Y Y Y Y<|bE Lu λmL pW Lu=>RT.NZ (k:=[jE]) (e:=aX) .none hN (λ_ h=>h) Y Y Y T Y T pW<|ag Y ?_;refine RT.done ⟨by kernel_rfl,?_⟩;refine aV.n<|bh ?_;obtain rfl:=O Lu;exact R1 Y
theorem hG{x0:List Nat}{x1:List Nat}(N:Nat){r:List Nat}(h:cc x0 x1=some r):c6 ah 70 N [slc 1 (List.map aX x0),slc 1 (List.map aX x1)] (nw N (slc 1 (List.map aX r))):=by
 refine bt Try.func70 Y (af Y) (λga M vs hN hvs=>?_);unfold cc at h;refine sr<|aI Y (bk (N:=N) (n:=1) (e:=aX))<|dn<|sr<|mv Y<|lE h λiL jy h=>ln Y jy<|bE h λnU qW h=>RT.BQ (e:=aX) .none Y Y T Y T qW<|RT.alloc .none T Y Y<|RT.tO (cells:=[_]) .none Y Y Y Y T Y<|dn<|sr<|RT.uj .none (dj 1) Y ⟨Y,aq⟩ T Y Y<|RT.alloc .none T Y Y<|RT.Ay (cells:=[_]) .none (s:=.eX _ _) Y Y Y T Y<|dn<|qq<|sr<|mv Y ?_;refine mv Y<|cl (mR x0 x1) ⟨Y,Y,aq⟩<|dn<|bn<|bE h λe7 VG Lu=>?_;obtain⟨Lw,VH,VI,VJ⟩:=qP VG;refine pE (mS x0 x1) (λ_ _ _ _ _=>trivial) Y (λk=>AS.dR 28 [(5,.ptr 5 0),(6,.ptr 6 0),(15,.sv (yD 114 [ref [slc 1 (List.map aX x0)],ref [slc 1 (List.map aX x1)]]))] [(6,⟨119,[.eX 113 [.box 12]]⟩),(12,⟨100,[.sv (.v (.int .u64 (((Lw k).1:Nat):Int)))]⟩),(5,⟨22,[.row 302]⟩)] [(302,TR 80 1 aX (Lw k).2)]) [6,12,5] Y (λ_=>⟨Y,Y⟩) (DY Y) (λ_=>Y) (DZ Y) (by(try dsimp only);rw[VH];(try dsimp only);exact iO (λi=>bif Nat.beq i 302 then 11 else i) Y Y Y Y Y ⟨.ptr,.ptr,.sv au,aq⟩ ⟨⟨_,Y,⟨.eX,aq⟩⟩,⟨_,Y,⟨.sv au,aq⟩⟩,⟨_,Y,⟨.row Y,aq⟩⟩,aq⟩ ⟨⟨_,Y,dO.refl _⟩,aq⟩ (λi hi=>by rw[dV (show i≠302 by omega)];rfl)) (λk hk D hD=>?_) ?_;have h:=VI k hk;obtain⟨sk,VK⟩:∃q,Lw k=q:=⟨_,Y⟩;rw[VK]at h⊢;obtain⟨th,fO⟩:=sk;dsimp only[AS.Ss,yJ]
 try dsimp only at h
 refine lE h λVc VN h=>?_;rw[VN];refine lE h λVd VO h=>?_;rw[VO];refine sr<|ag Y<|dn<|aZ<|ag Y<|RT.done ?_;refine aV.n ⟨Y,?_⟩;dsimp only[AS.GD];refine bn<|bf mixed<|RT.kg .none (s:=.row _) Y Y Y T<|RT.kg .none (s:=.eX _ _) Y Y Y T<|mv Y<|mv Y<|lE h λjC sL h=>sb _ Y Y (UK.sub (a:=4294967295) (b:=Vd) sL)<|lE h λkp qX h=>ad _ Y Y (UK.add (a:=Vc) (b:=jC) qX) ?_;obtain⟨⟨fo,k9⟩,ou,h⟩:=bS h;refine cB (bM ou) 12 Y ⟨Y,aq⟩<|bl (l:=[fo]) (e:=aX) (.one Y (.nil)) Y Y Y Y Y Y<|bE h λiY qC h=>aR (k:=[fo]) (e:=aX) Y Y Y qC<|RT.tO (cells:=[_]) .none Y Y Y Y T Y ?_;refine RT.done ⟨by kernel_rfl,?_⟩;refine bG.n ?_;replace h:=Option.some.inj h;refine⟨aq,Y,Y,?_⟩
 try dsimp only
 rw[<-h]
 try dsimp only
 exact iO (λi=>bif Nat.beq i 302 then 26 else i) Y Y Y Y Y ⟨.ptr,.ptr,.sv au,aq⟩ ⟨⟨_,Y,⟨.eX,aq⟩⟩,⟨_,Y,⟨.sv au,aq⟩⟩,⟨_,Y,⟨.row Y,aq⟩⟩,aq⟩ ⟨⟨_,Y,dO.refl _⟩,aq⟩ (λi hi=>by rw[dV (show i≠302 by omega)];rfl);rw[VJ];obtain⟨th,fO⟩:=e7
 try dsimp only
 refine bG.n<|aV.n<|sr<|RT.kg .none (s:=.row _) Y Y Y T<|an (s:=.row _) Y<|dn<|nI (i:=302) (E1:=80) (n:=1) (e:=aX) (l:=fO) hN (λ_ h=>h) Y<|bh ?_;obtain rfl:=O Lu;exact R1 Y
theorem pX{x0:List Nat}{x1:List Nat}(N:Nat){r:List Nat}(h:eo x0 x1=some r):c6 ah 89 N [slc 1 (List.map aX x0),slc 1 (List.map aX x1)] (nw N (slc 1 (List.map aX r))):=by
 refine bt Try.func89 Y (af Y) (λga M vs hN hvs=>?_);unfold eo at h;refine sr<|aI Y (bk (N:=N) (n:=1) (e:=aX))<|dn<|sr<|mv Y<|lE h λiw kW h=>ln Y kW<|mv Y<|lE h λkO rT h=>ln Y rT<|lE h λl7 pU h=>ad _ Y Y pU<|bE h λjD nZ h=>RT.yO (n:=1) (e:=aX) .none Y Y T Y T (by rfl) (by decide) (by exact⟨au,aq⟩) nZ<|an (s:=.row _) Y<|dn<|qq<|sr<|mv Y<|lE h λfJ jK h=>ln Y jK ?_;refine mv Y<|dn<|bE h λZ5 VP VQ=>?_;refine cE (λ(oL:(List Nat))=>AS.dR 63 [(5,.row 16)] [] [(16,TR 80 1 aX oL)]) (λoL=>oL=Z5) ?_ (λoL VR=>?_);refine bn ?_;refine cG VP (λMR=>AS.dR 63 [(1,.sv (slc 1 (List.map aX x1))),(5,.row 16),(17,.sv (slc 1 (List.map aX x0))),(18,ai fJ),(19,ai MR.1)] [] [(16,TR 80 1 aX MR.2)]) (wR []) (λMR y28 G28 h VS VT=>?_);obtain⟨jF,xu⟩:=MR
 try dsimp only
 refine sr<|lE h λjm nY h=>ls _ Y Y nY<|dn<|qq ?_;cases jm;refine cF<|cQ<|aV.x<|aV.x<|bG.x<|aV.n ?_;obtain rfl:=O (F h);exact⟨xu,VT _ Y,wR []⟩;refine cT<|bH<|aV.n<|qq<|bn<|sr<|mv Y<|bE (V h) λjC sL h=>ix Y Y sL<|lr Y Y<|ag Y<|ag Y<|dn<|sr<|RT.uj .none (dj 0) Y ⟨Y,aq⟩ T Y Y<|an (s:=.eX _ _) Y<|dn<|qq<|sr<|mv Y<|lE h λiY qC h=>ln Y qC<|mv Y<|dn<|bE h λVg VU qZ=>?_;refine cE (λ(CU:Nat×(List Nat))=>AS.dR 63 [(1,.sv (slc 1 (List.map aX x1))),(5,.row 16),(6,ai jF),(8,.eX 113 [.box 24]),(17,.sv (slc 1 (List.map aX x0))),(18,ai fJ),(19,ai jF)] [(24,⟨100,[.sv (.v (.int .u64 ((CU.1:Nat):Int)))]⟩)] [(16,TR 80 1 aX CU.2)]) (λCU=>CU=Vg) ?_ (λCU VV=>?_);refine bn ?_;refine cG VU (λK1=>AS.dR 63 [(1,.sv (slc 1 (List.map aX x1))),(5,.row 16),(6,ai jF),(7,.sv (.v (.int .u32 ((jC:Nat):Int)))),(8,.eX 113 [.box 24]),(17,.sv (slc 1 (List.map aX x0))),(18,ai fJ),(19,ai jF),(25,.sv (slc 1 (List.map aX x1))),(26,ai iY),(27,ai K1.1)] [(24,⟨100,[.sv (.v (.int .u64 ((K1.2.1:Nat):Int)))]⟩)] [(16,TR 80 1 aX K1.2.2)]) (wR []) (λK1 y38 G38 h VW VX=>?_);obtain⟨qR,pK,oK⟩:=K1
 try dsimp only
 refine sr<|lE h λnX uH h=>ls _ Y Y uH<|dn<|qq ?_;cases nX;refine cF<|cQ<|aV.x<|aV.x<|bG.x<|aV.n ?_;obtain rfl:=O (F h);exact⟨(pK,oK),VX _ Y,wR []⟩;refine cT<|bH<|aV.n<|qq<|bn<|sr<|mv Y<|bE (V h) λuB xB h=>ix Y Y xB<|lr Y Y<|ag Y<|ag Y<|dn<|aZ<|mo (s:=.row _) Y<|mv Y<|mv Y<|lE h λpL A8 h=>ad _ Y Y A8<|mo (s:=.eX _ _) Y<|mo (s:=.row _) Y<|mv Y<|mv Y<|lE h λnJ qB h=>ad _ Y Y qB<|bE h λvH CV h=>iR Y Y Y CV ?_;refine bE h λot zg h=>lR Y Y zg Y<|lE h λyp Gg h=>cv _ Y (UK.nat Gg)<|mv Y<|lE h λyT Ev h=>cv _ Y (UK.nat Ev)<|mv Y<|lE h λyU Ew h=>cv _ Y (UK.nat Ew)<|lE h λvr h48 h=>RT.mul .none _ Y Y T (UK.mul (a:=yT) (b:=yU) h48)<|lE h λMS Ox h=>ad _ Y Y (UK.add (a:=yp) (b:=vr) Ox) ?_;obtain⟨⟨tj,Ve⟩,CW,h⟩:=bS h;refine cB (bM CW) 24 Y ⟨Y,aq⟩<|bE h λGa G1 h=>iR Y Y Y G1<|bE h λVf Oy h=>sR tj Y Y Y Y Oy<|RT.done<|bG.n<|aV.n<|aZ<|lE h λvI Ex h=>ad _ Y Y Ex<|mv Y<|RT.done ?_;obtain rfl:=O h;exact aV.n ⟨(vI,Ve,Vf),VW _ Y,wR []⟩;subst VV;obtain⟨yV,AT⟩:=CU
 try dsimp only
 refine aV.n<|aZ<|mo (s:=.row _) Y<|mv Y<|mv Y<|lE qZ λGY Lx qZ=>ln Y Lx<|lE qZ λN1 Oz qZ=>ad _ Y Y Oz<|mo (s:=.eX _ _) Y ?_;obtain⟨⟨K9,Z1⟩,VY,qZ⟩:=bS qZ;refine cB (bM VY) 24 Y ⟨Y,aq⟩<|bE qZ λCO G2 qZ=>iR Y Y Y G2<|bE qZ λVh OA qZ=>sR K9 Y Y Y Y OA<|RT.done<|bG.n<|aV.n<|aZ<|lE qZ λGb OB qZ=>ad _ Y Y OB<|mv Y<|RT.done ?_;obtain rfl:=O qZ;exact aV.n ⟨(Gb,Vh),VS _ Y,wR []⟩;subst VR
 try dsimp only
 refine aV.n<|sr<|mo (s:=.row _) Y<|an (s:=.row _) Y<|dn<|nI (i:=16) (E1:=80) (n:=1) (e:=aX) (l:=oL) hN (λ_ h=>h) Y<|bh ?_;obtain rfl:=O VQ;exact R1 Y
end
section
open Go.Fw Go.Fw.Z Go.RowKit
theorem pY{x0:List Nat}{x1:Nat}{r:Nat×List Nat}(h:eN x0 x1=some r):AI ah 90 [.row 1000,.sv (.v (.int .u64 ((x1:Nat):Int)))] (TR 80 1 aX x0) (.sv (.v (.int .u64 ((r.1:Nat):Int)))) (List.flatMap aX r.2):=by
 refine oD Try.func90 Y (af Y) Y Y (λga M v0=>?_);unfold eN at h;refine sr<|ag Y<|dn<|sr<|ag Y<|dn<|qq<|sr<|mo (s:=.row _) Y<|lE h λx9 h9 h=>lL Y Y h9<|lE h λiL jy h=>sb _ Y Y jy<|ag Y<|dn<|bE h λe8 G3 xC=>?_;refine cE (λ(q9:Nat×(List Nat))=>AS.dR 34 [(5,.sv (.v (.int .u64 ((q9.1:Nat):Int))))] [] [(1000,TR 80 1 aX q9.2)]) (λq9=>q9=e8) ?_ (λq9 G4=>?_);refine bn ?_;refine cG G3 (λs8=>AS.dR 34 [(0,.row 1000),(1,.sv (.v (.int .u64 ((x1:Nat):Int)))),(5,.sv (.v (.int .u64 ((s8.1:Nat):Int)))),(6,ai s8.2.1)] [] [(1000,TR 80 1 aX s8.2.2)]) (wR []) (λs8 y8 G8 h G5 G7=>?_);obtain⟨Ec,Ed,lI⟩:=s8
 try dsimp only
 refine qq<|sr<|mv Y<|lE h λiw kW h=>ge _ Y Y kW<|dn ?_;cases iw;refine cF<|cQ<|aV.x<|aV.x<|bG.x<|aV.n ?_;obtain rfl:=O (F h);exact⟨(Ec,lI),G7 _ Y,wR []⟩;refine cT<|bH<|aV.n<|qq<|bn<|sr<|mv Y<|lE (V h) λjD nZ h=>RT.shl .none _ Y Y T (by decide) (UK.shl (a:=Ec) (q:=32) (s:=32) Y nZ)<|mo (s:=.row _) Y<|mv Y<|bE h λmc oO h=>iR Y Y Y oO<|bE h λjm nY h=>lR Y Y nY Y<|lE h λkP qY h=>cv _ Y (UK.nat qY)<|lE h λjC sL h=>RT.or .none _ Y Y T (UK.or (a:=jD) (b:=kP) sL)<|ag Y<|dn<|sr<|mo (s:=.row _) Y ?_;refine mv Y<|mv Y<|mv Y<|bE h λnW vu h=>RT.quo .none _ Y Y T (UM vu) (UK.quo vu)<|lE h λnX uH h=>cv _ Y (UK.nat uH)<|bE h λg9 kQ h=>iR Y Y Y kQ<|bE h λGc Ey h=>sR nX Y Y Y Y Ey<|dn<|aZ<|mv Y<|mv Y<|bE h λjE nM h=>RT.rem .none _ Y Y T (Sv nM) (GI nM)<|ag Y<|RT.done<|bG.n<|aV.n<|aZ<|mv Y<|lE h λkO rT h=>sb _ Y Y rT ?_;refine ag Y<|RT.done ?_;obtain rfl:=O h;exact aV.n ⟨(jE,kO,Gc),G5 _ Y,wR []⟩;subst G4;obtain⟨N2,tq⟩:=q9
 try dsimp only
 refine aV.n<|sr<|mv Y<|ag Y<|dn<|bh<|bE xC λ_ hle xC=>?_;obtain rfl:=O xC;exact⟨.inr Y,.sv (cS (.tmp Y (.nil)) au),(by show _=gS.live ⟨80,1,x0.length,List.flatMap aX tq⟩;rw[<-iG hle];rfl)⟩
theorem oP{x0:List Nat}{x1:Nat}{r:List Nat}(h:dM x0 x1=some r):Pure ah 110 [slc 1 (List.map aX x0),.v (.int .u64 ((x1:Nat):Int))] (slc 1 (List.map aX r)):=by
 refine bN Try.func110 Y (af Y) (λga M vs hvs=>?_);unfold dM at h;refine sr<|aI Y (aB (n:=1) (e:=aX))<|dn<|sr<|RT.uj .none (dj 0) Y ⟨Y,aq⟩ T Y Y<|an (s:=.eX _ _) Y<|dn<|sr<|mv Y<|lE h λnU qW h=>ln Y qW<|lE h λiw kW h=>ad _ Y Y kW<|bE h λkF me h=>RT.BQ (e:=aX) .none Y Y T Y T me<|an (s:=.row _) Y<|dn<|qq<|sr<|mv Y<|lE h λl7 pU h=>ln Y pU ?_;refine mv Y<|dn<|bE h λe8 G3 xC=>?_;refine cE (λ(q9:Nat×(List Nat))=>AS.dR 35 [(5,.eX 113 [.box 9]),(6,.row 302)] [(9,⟨100,[.sv (.v (.int .u64 ((q9.1:Nat):Int)))]⟩)] [(302,TR 80 1 aX q9.2)]) (λq9=>q9=e8) ?_ (λq9 G4=>?_);refine bn ?_;refine cG G3 (λs8=>AS.dR 35 [(1,.sv (.v (.int .u64 ((x1:Nat):Int)))),(5,.eX 113 [.box 9]),(6,.row 302),(14,.sv (slc 1 (List.map aX x0))),(15,ai l7),(16,ai s8.1)] [(9,⟨100,[.sv (.v (.int .u64 ((s8.2.1:Nat):Int)))]⟩)] [(302,TR 80 1 aX s8.2.2)]) (iO (λi=>bif Nat.beq i 302 then 13 else i) Y Y Y Y Y ⟨.sv au,.eX,.row Y,.sv au,.sv au,.sv au,aq⟩ ⟨⟨_,Y,⟨.sv au,aq⟩⟩,aq⟩ ⟨⟨_,Y,dO.refl _⟩,aq⟩ (λi hi=>by rw[dV (show i≠302 by omega)];rfl)) (λs8 y8 G8 h G5 G7=>?_);obtain⟨pM,lJ,fO⟩:=s8
 try dsimp only
 refine sr<|lE h λiv mU h=>ls _ Y Y mU<|dn<|qq ?_;cases iv;refine cF<|cQ<|aV.x<|aV.x<|bG.x<|aV.n ?_;obtain rfl:=O (F h);exact⟨(lJ,fO),G7 _ Y,wR []⟩;refine cT<|bH<|aV.n<|qq<|bn<|sr<|bE (V h) λfJ jK h=>ix Y Y jK<|lr Y Y<|ag Y<|dn<|aZ<|mo (s:=.row _) Y<|mo (s:=.eX _ _) Y<|mv Y<|lE h λkp qX h=>cv _ Y (UK.nat qX)<|mv Y<|lE h λAw zf h=>RT.shl .none _ Y Y T (Int.natCast_nonneg _) (UK.shl (a:=kp) (q:=((x1:Nat):Int)) (s:=min x1 64) Y zf) ?_;obtain⟨⟨iY,La⟩,qC,h⟩:=bS h;refine cB (bM qC) 9 Y ⟨Y,aq⟩<|bl (l:=[iY]) (e:=aX) (.one Y (.nil)) Y Y Y Y Y Y<|bE h λnX uH h=>aR (k:=[iY]) (e:=aX) Y Y Y uH<|an (s:=.row _) Y<|RT.done<|bG.n<|aV.n<|aZ<|lE h λg9 kQ h=>ad _ Y Y kQ<|mv Y<|RT.done ?_;obtain rfl:=O h;exact aV.n ⟨(g9,La,nX),G5 _ Y,iO (λi=>bif Nat.beq i 302 then 28 else i) Y Y Y Y Y ⟨.sv au,.eX,.row Y,.sv au,.sv au,.sv au,aq⟩ ⟨⟨_,Y,⟨.sv au,aq⟩⟩,aq⟩ ⟨⟨_,Y,dO.refl _⟩,aq⟩ (λi hi=>by rw[dV (show i≠302 by omega)];rfl)⟩;subst G4;obtain⟨uC,Ee⟩:=q9
 try dsimp only
 refine aV.n<|sr<|mo (s:=.row _) Y<|mo (s:=.eX _ _) Y ?_;obtain⟨⟨jE,Vi⟩,nM,xC⟩:=bS xC;refine cB (bM nM) 9 Y ⟨Y,aq⟩<|bl (l:=[jE]) (e:=aX) (.one Y (.nil)) Y Y Y Y Y Y<|bE xC λmL pW xC=>RT.UX (k:=[jE]) (e:=aX) .none Y Y Y T Y T pW<|ag Y<|dn<|bh ?_;obtain rfl:=O xC;exact R1 Y
theorem n6{x0:List Nat}{x1:Nat}{r:List Nat}(h:fe x0 x1=some r):CH ah 110 [slc 1 (List.map aX x0),.v (.int .u64 ((x1:Nat):Int))] (TR 80 1 aX r):=by
 refine uh Try.func110 Y (af Y) (λga M vs hvs=>?_);unfold fe at h;refine sr<|ag Y<|dn<|gy (kT 4 304 80 1 Y Y T)<|sr<|RT.uj .none (dj 0) Y ⟨Y,aq⟩ T Y Y<|an (s:=.eX _ _) Y<|dn<|sr<|mv Y<|lE h λnU qW h=>ln Y qW<|lE h λiw kW h=>ad _ Y Y kW<|bE h λkF me h=>RT.BQ (e:=aX) .none Y Y T Y T me<|an (s:=.row _) Y<|dn<|qq<|sr<|mv Y<|lE h λl7 pU h=>ln Y pU ?_;refine mv Y<|dn<|bE h λe8 G3 xC=>?_;refine cE (λ(q9:Nat×(List Nat))=>AS.dR 35 [(5,.eX 113 [.box 9]),(6,.row 306)] [(9,⟨100,[.sv (.v (.int .u64 ((q9.1:Nat):Int)))]⟩)] [(306,TR 80 1 aX q9.2)]) (λq9=>q9=e8) ?_ (λq9 G4=>?_);refine bn ?_;refine cG G3 (λs8=>AS.dR 35 [(1,.sv (.v (.int .u64 ((x1:Nat):Int)))),(5,.eX 113 [.box 9]),(6,.row 306),(14,.sv (slc 1 (List.map aX x0))),(15,ai l7),(16,ai s8.1)] [(9,⟨100,[.sv (.v (.int .u64 ((s8.2.1:Nat):Int)))]⟩)] [(306,TR 80 1 aX s8.2.2)]) (iO (λi=>bif Nat.beq i 306 then 13 else i) Y Y Y Y Y ⟨.sv au,.eX,.row Y,.sv au,.sv au,.sv au,aq⟩ ⟨⟨_,Y,⟨.sv au,aq⟩⟩,aq⟩ ⟨⟨_,Y,dO.refl _⟩,aq⟩ (λi hi=>by rw[dV (show i≠306 by omega)];rfl)) (λs8 y8 G8 h G5 G7=>?_);obtain⟨pM,lJ,xw⟩:=s8
 try dsimp only
 refine sr<|lE h λiv mU h=>ls _ Y Y mU<|dn<|qq ?_;cases iv;refine cF<|cQ<|aV.x<|aV.x<|bG.x<|aV.n ?_;obtain rfl:=O (F h);exact⟨(lJ,xw),G7 _ Y,wR []⟩;refine cT<|bH<|aV.n<|qq<|bn<|sr<|bE (V h) λfJ jK h=>ix Y Y jK<|lr Y Y<|ag Y<|dn<|aZ<|mo (s:=.row _) Y<|mo (s:=.eX _ _) Y<|mv Y<|lE h λkp qX h=>cv _ Y (UK.nat qX)<|mv Y<|lE h λAw zf h=>RT.shl .none _ Y Y T (Int.natCast_nonneg _) (UK.shl (a:=kp) (q:=((x1:Nat):Int)) (s:=min x1 64) Y zf) ?_;obtain⟨⟨iY,La⟩,qC,h⟩:=bS h;refine cB (bM qC) 9 Y ⟨Y,aq⟩<|bl (l:=[iY]) (e:=aX) (.one Y (.nil)) Y Y Y Y Y Y<|bE h λnX uH h=>aR (k:=[iY]) (e:=aX) Y Y Y uH<|an (s:=.row _) Y<|RT.done<|bG.n<|aV.n<|aZ<|lE h λg9 kQ h=>ad _ Y Y kQ<|mv Y<|RT.done ?_;obtain rfl:=O h;exact aV.n ⟨(g9,La,nX),G5 _ Y,iO (λi=>bif Nat.beq i 306 then 28 else i) Y Y Y Y Y ⟨.sv au,.eX,.row Y,.sv au,.sv au,.sv au,aq⟩ ⟨⟨_,Y,⟨.sv au,aq⟩⟩,aq⟩ ⟨⟨_,Y,dO.refl _⟩,aq⟩ (λi hi=>by rw[dV (show i≠306 by omega)];rfl)⟩;subst G4;obtain⟨uC,Ef⟩:=q9
 try dsimp only
 refine aV.n<|sr<|mo (s:=.row _) Y<|mo (s:=.eX _ _) Y ?_;obtain⟨⟨jE,Vi⟩,nM,xC⟩:=bS xC;refine cB (bM nM) 9 Y ⟨Y,aq⟩<|bl (l:=[jE]) (e:=aX) (.one Y (.nil)) Y Y Y Y Y Y<|bE xC λmL pW xC=>aR (k:=[jE]) (e:=aX) Y Y Y pW<|an (s:=.row _) Y<|dn<|bh ?_;obtain rfl:=O xC;exact⟨.inr Y,_,.tmp Y,Y⟩
theorem oQ{x0:Nat}{r:Int}(h:eE x0=some r):Pure ah 118 [.v (.int .u32 ((x0:Nat):Int))] (ay r):=by
 refine bN Try.func118 Y (af Y) (λga M vs hvs=>?_);unfold eE at h;refine sr<|ag Y<|dn<|qq<|sr<|mv Y<|lE h λx4 h4 h=>ge _ Y Y (UJ (p:=65536) (q:=x0) h4)<|dn ?_;refine bF h (λj2=>AS.dR 19 [(0,.sv (.v (.int .u32 ((j2.1:Nat):Int)))),(2,ai j2.2)] [] []) (λh=>?_) (λj2 h=>?_);cases x4;exact fs<|⟨(x0,0),(F h),wR []⟩;exact cT<|sr<|mv Y<|lE (V h) λx6 h6 h=>RT.shr .none _ Y Y T (by decide) (xo (k:=.u32) (a:=x0) (q:=16) (s:=16) Y h6)<|ag Y<|dn<|aZ<|ag Y<|dn<|⟨(x6,16),h,wR []⟩;obtain⟨AU,GZ⟩:=j2
 try dsimp only
 refine aV.n<|qq<|sr<|mv Y<|lE h λx8 h8 h=>ge _ Y Y (UJ (p:=256) (q:=AU) h8)<|dn ?_;refine bF h (λj4=>AS.dR 19 [(0,.sv (.v (.int .u32 ((j4.1:Nat):Int)))),(2,ai j4.2)] [] []) (λh=>?_) (λj4 h=>?_);cases x8;exact fs<|⟨(AU,GZ),(F h),wR []⟩;exact cT<|sr<|mv Y<|lE (V h) λiL jy h=>RT.shr .none _ Y Y T (by decide) (xo (k:=.u32) (a:=AU) (q:=8) (s:=8) Y jy)<|ag Y<|dn<|aZ<|mv Y<|lE h λiw kW h=>ad _ Y Y kW<|ag Y<|dn<|⟨(iL,iw),h,wR []⟩;obtain⟨N3,N4⟩:=j4
 try dsimp only
 refine aV.n<|sr<|mv Y<|mv Y<|lE h λl7 pU h=>cv _ Y (UK.nat pU)<|bE h λjD nZ h=>?_;refine RT.ZS (l:=[0,1,2,2,3,3,3,3,4,4,4,4,4,4,4,4,5,5,5,5,5,5,5,5,5,5,5,5,5,5,5,5,6,6,6,6,6,6,6,6,6,6,6,6,6,6,6,6,6,6,6,6,6,6,6,6,6,6,6,6,6,6,6,6,7,7,7,7,7,7,7,7,7,7,7,7,7,7,7,7,7,7,7,7,7,7,7,7,7,7,7,7,7,7,7,7,7,7,7,7,7,7,7,7,7,7,7,7,7,7,7,7,7,7,7,7,7,7,7,7,7,7,7,7,7,7,7,7,8,8,8,8,8,8,8,8,8,8,8,8,8,8,8,8,8,8,8,8,8,8,8,8,8,8,8,8,8,8,8,8,8,8,8,8,8,8,8,8,8,8,8,8,8,8,8,8,8,8,8,8,8,8,8,8,8,8,8,8,8,8,8,8,8,8,8,8,8,8,8,8,8,8,8,8,8,8,8,8,8,8,8,8,8,8,8,8,8,8,8,8,8,8,8,8,8,8,8,8,8,8,8,8,8,8,8,8,8,8,8,8,8,8,8,8,8,8,8,8,8,8,8,8,8,8,8,8]) .none Y Y T nZ ?_;refine lE h λiv mU h=>cv _ Y mU<|lE h λfJ jK h=>ad _ Y Y jK<|ag Y<|dn<|bh ?_;obtain rfl:=O h;exact R1 Y
theorem jo{x0:Nat}{r:Int}(h:cx x0=some r):Pure ah 109 [.v (.int .u32 ((x0:Nat):Int))] (ay r):=by
 refine bN Try.func109 Y (af Y) (λga M vs hvs=>?_);unfold cx at h;refine sr<|ag Y<|dn<|sr<|mv Y<|bE h λx4 h4 h=>cl (oQ h4) ⟨Y,aq⟩<|lE h λx5 h5 h=>sb _ Y Y h5<|ag Y<|dn<|bh ?_;obtain rfl:=O h;exact R1 Y
theorem pZ{x0:List Nat}{o0:Nat}{n0:Nat}{x1:List Nat}{r:Nat×List Nat}(h:eO x0 o0 n0 x1=some r):AI ah 111 [.jg 1000 (o0*1) n0,.sv (slc 1 (List.map aX x1))] (TR 80 1 aX x0) (.sv (.v (.int .u64 ((r.1:Nat):Int)))) (List.flatMap aX r.2):=by
 refine oD Try.func111 Y (af Y) Y Y (λga M v0=>?_);unfold eO at h;refine sr<|ag Y<|dn<|sr<|mv Y<|lE h λiw kW h=>ln Y kW<|ag Y<|dn<|qq<|bf mixed<|mo (s:=.jg _ _ _) Y<|mv Y<|bE h λl7 pU h=>RT.yP .none Y Y T pU<|bE h λjD nZ h=>lR Y Y nZ Y<|lE h λiv mU h=>cv _ Y (UK.nat mU)<|lE h λfJ jK h=>RT.shl .none _ Y Y T (by decide) (UK.shl (a:=iv) (q:=32) (s:=32) Y jK)<|mo (s:=.jg _ _ _) Y ?_;refine mv Y<|lE h λkP qY h=>sb _ Y Y qY<|bE h λjC sL h=>RT.yP .none Y Y T sL<|bE h λkp qX h=>lR Y Y qX Y<|lE h λfo ou h=>cv _ Y (UK.nat ou)<|lE h λAw zf h=>RT.or .none _ Y Y T (UK.or (a:=fJ) (b:=fo) zf)<|ag Y ?_;refine RT.done ⟨by kernel_rfl,?_⟩;refine aV.n<|qq<|bf mixed<|mv Y<|mv Y<|lE h λnX uH h=>sb _ Y Y uH<|bE h λg9 kQ h=>ix Y Y kQ<|lr Y Y<|lE h λnV yq h=>cv _ Y (UK.nat yq)<|mv Y<|mv Y<|lE h λmL pW h=>sb _ Y Y pW<|bE h λpL A8 h=>ix Y Y A8<|lr Y Y<|lE h λwe xD h=>cv _ Y (UK.nat xD)<|ag Y<|ag Y ?_;refine RT.done ⟨by kernel_rfl,?_⟩;refine aV.n<|qq<|bf mixed<|mv Y<|mv Y<|bE h λnJ qB h=>RT.quo .none _ Y Y T (UM qB) (UK.quo qB)<|mv Y<|mv Y<|bE h λyp Gg h=>RT.rem .none _ Y Y T (Sv Gg) (GI Gg)<|ag Y<|ag Y ?_;refine RT.done ⟨by kernel_rfl,?_⟩;refine aV.n<|qq<|bE h λLs A5 xA=>?_
 refine cE (λ(CP:Nat)=>AS.dR 71 [(9,.sv (.v (.int .u64 ((CP:Nat):Int))))] [] [(1000,TR 80 1 aX x0)]) (λCP=>CP=Ls) ?_ (λCP A6=>?_);refine bn ?_;refine cG A5 (λyW=>AS.dR 71 [(0,.jg 1000 (o0*1) n0),(5,ai iw),(7,.sv (.v (.int .u64 ((nV:Nat):Int)))),(8,.sv (.v (.int .u64 ((we:Nat):Int)))),(9,.sv (.v (.int .u64 ((yW.1:Nat):Int)))),(10,.sv (.v (.int .u64 ((yW.2:Nat):Int))))] [] [(1000,TR 80 1 aX x0)]) (wR []) (λyW Vz VA h A7 ze=>?_);obtain⟨vJ,wh⟩:=yW
 try dsimp only
 refine qq<|qq ?_;refine bF h (λLt=>AS.dR 71 [(0,.jg 1000 (o0*1) n0),(5,ai iw),(7,.sv (.v (.int .u64 ((nV:Nat):Int)))),(8,.sv (.v (.int .u64 ((we:Nat):Int)))),(9,.sv (.v (.int .u64 ((vJ:Nat):Int)))),(10,.sv (.v (.int .u64 ((wh:Nat):Int)))),(61,aj Lt)] [] [(1000,TR 80 1 aX x0)]) (λh=>?_) (λAW h=>?_);refine aZ<|mv Y<|lE h λyT Ev h=>RT.shr .none _ Y Y T (by decide) (xo (k:=.u64) (a:=vJ) (q:=32) (s:=32) Y Ev)<|lE h λuD h46 h=>ne _ Y Y (NI (p:=yT) (q:=0) h46)<|mv Y<|bE h λEg dY h=>?_;cases uD;refine gm Y<|gm Y<|lE (F dY) λtj CW dY=>RT.mul (.some Y Y) _ Y Y T (UK.mul (a:=vJ) (b:=we) CW)<|gm Y<|lE dY λvI Ex dY=>RT.shl (.some Y Y) _ Y Y T (by decide) (UK.shl (a:=wh) (q:=32) (s:=32) Y Ex)<|RT.move (.some Y Y) (s:=.jg _ _ _) Y T<|gm Y<|lE dY λG0 OC dY=>RT.sub (.some Y Y) _ Y Y T OC<|bE dY λGY Lx dY=>RT.yP (.some Y Y) Y Y T Lx<|bE dY λN1 Oz dY=>RT.NO (.some Y Y) Y Y Oz Y T ?_;refine lE dY λVk VZ dY=>RT.conv (.some Y Y) _ Y T (UK.nat VZ)<|lE dY λK9 VY dY=>RT.or (.some Y Y) _ Y Y T (UK.or (a:=vI) (b:=Vk) VY)<|lE dY λCO G2 dY=>gg _ Y Y (MQ (p:=K9) (q:=tj) G2) ?_;obtain rfl:=O dY;exact pF Y<|dn<|⟨CO,h,wR []⟩;obtain rfl:=O (V dY)
 exact ww<|ww<|ww<|ww<|ww<|ww<|ww<|ww<|ww<|ww<|ww<|ww<|ww<|pT Y<|dn<|⟨true,h,wR []⟩
 try dsimp only
 refine aV.n ?_;cases AW;refine cF<|cQ<|aV.x<|aV.x<|bG.x<|aV.n ?_;obtain rfl:=O (F h);exact⟨vJ,ze _ Y,wR []⟩;refine cT<|bH<|aV.n<|bn<|sr<|mv Y<|lE (V h) λN5 h63 h=>sb _ Y Y (UK.sub (a:=vJ) (b:=1) h63)<|ag Y<|dn<|sr<|mv Y<|mv Y<|lE h λN6 V0 h=>ad _ Y Y (UK.add (a:=wh) (b:=nV) V0)<|ag Y<|dn<|sr<|mv Y<|lE h λLb OD h=>RT.shr .none _ Y Y T (by decide) (xo (k:=.u64) (a:=N6) (q:=32) (s:=32) Y OD)<|lE h λVj Z6 h=>ne _ Y Y (NI (p:=Lb) (q:=0) Z6) ?_;refine dn ?_;cases Vj;refine cF<|bH<|bG.n ?_;obtain rfl:=O (F h);exact aV.n ⟨(N5,N6),A7 _ Y,wR []⟩;refine cT<|cQ<|bG.y (by decide)<|aV.x<|bG.x<|aV.n ?_;obtain rfl:=O (V h);exact⟨N5,ze _ Y,wR []⟩;subst A6
 try dsimp only
 refine aV.n<|sr<|mv Y<|ag Y<|dn<|bh<|bE xA λ_ hle xA=>?_;obtain rfl:=O xA;exact⟨.inr Y,.sv (cS (.tmp Y (.nil)) au),(by show _=gS.live ⟨80,1,x0.length,List.flatMap aX x0⟩;rw[<-iG hle];rfl)⟩
theorem j1{x0:List Nat}{o0:Nat}{n0:Nat}{x1:List Nat}{x2:Nat}{r:Bool×List Nat}(h:cf x0 o0 n0 x1 x2=some r):AI ah 112 [.jg 1000 (o0*1) n0,.sv (slc 1 (List.map aX x1)),.sv (.v (.int .u64 ((x2:Nat):Int)))] (TR 80 1 aX x0) (aj r.1) (List.flatMap aX r.2):=by
 refine oD Try.func112 Y (af Y) Y Y (λga M v0=>?_);unfold cf at h;refine sr<|ag Y<|dn<|sr<|ag Y<|dn<|sr<|RT.uj .none (dj 0) Y ⟨Y,aq⟩ T Y Y<|an (s:=.eX _ _) Y<|dn<|qq<|sr<|mo (s:=.jg _ _ _) Y<|lE h λkO rT h=>RT.K0 .none Y T rT<|mv Y<|dn<|bE h λLc Ly kX=>?_;refine cE (λ(rf:Nat×(List Nat))=>AS.dR 51 [(7,.sv (.v (.int .u64 ((rf.1:Nat):Int))))] [] [(1000,TR 80 1 aX rf.2)]) (λrf=>rf=Lc) ?_ (λrf Lz=>?_);refine bn ?_;refine cG Ly (λAX=>AS.dR 51 [(0,.jg 1000 (o0*1) n0),(1,.sv (slc 1 (List.map aX x1))),(2,.sv (.v (.int .u64 ((x2:Nat):Int)))),(7,.sv (.v (.int .u64 ((AX.1:Nat):Int)))),(8,.eX 113 [.box 12]),(14,ai kO),(15,ai AX.2.1)] [(12,⟨100,[.sv (.v (.int .u64 ((AX.2.2.1:Nat):Int)))]⟩)] [(1000,TR 80 1 aX AX.2.2.2)]) (wR []) (λAX Z7 Z8 h LA LB=>?_);obtain⟨CQ,pN,xx,nK⟩:=AX
 try dsimp only
 refine sr<|lE h λjD nZ h=>ls _ Y Y nZ<|dn<|qq ?_;cases jD;refine cF<|cQ<|aV.x<|aV.x<|bG.x<|aV.n ?_;obtain rfl:=O (F h);exact⟨(CQ,nK),LB _ Y,wR []⟩;refine cT<|bH<|aV.n<|qq<|bn<|sr<|mv Y<|ag Y<|dn<|sr<|ag Y<|dn<|qq<|sr<|mv Y<|mv Y<|lE (V h) λjm nY h=>ln Y nY<|lE h λkP qY h=>ls _ Y Y qY<|dn ?_;refine bF h (λZ9=>AS.dR 51 [(0,.jg 1000 (o0*1) n0),(1,.sv (slc 1 (List.map aX x1))),(2,.sv (.v (.int .u64 ((x2:Nat):Int)))),(7,.sv (.v (.int .u64 ((CQ:Nat):Int)))),(8,.eX 113 [.box 12]),(9,ai pN),(10,.sv (.v (.int .u64 ((Z9:Nat):Int)))),(14,ai kO),(15,ai pN)] [(12,⟨100,[.sv (.v (.int .u64 ((xx:Nat):Int)))]⟩)] [(1000,TR 80 1 aX nK)]) (λh=>?_) (λEh h=>?_);cases kP;exact fs<|⟨0,(F h),wR []⟩;exact cT<|aZ<|mv Y<|mv Y<|bE (V h) λfo ou h=>ix Y Y ou<|lr Y Y<|lE h λiY qC h=>cv _ Y (UK.nat qC)<|mv Y<|lE h λnX uH h=>RT.mul .none _ Y Y T (UK.mul (a:=iY) (b:=x2) uH)<|ag Y<|dn<|⟨nX,h,wR []⟩
 try dsimp only
 refine aV.n<|qq<|bf mixed<|mo (s:=.jg _ _ _) Y<|mv Y<|bE h λnV yq h=>RT.yP .none Y Y T yq<|bE h λjE nM h=>lR Y Y nM Y<|lE h λmq rU h=>cv _ Y (UK.nat rU)<|mo (s:=.eX _ _) Y<|mv Y ?_;obtain⟨⟨vK,Vl⟩,vM,h⟩:=bS h;refine cB (bM vM) 12 Y ⟨Y,aq⟩<|lE h λwe xD h=>cv _ Y (UK.nat xD)<|lE h λtg CT h=>sb _ Y Y (UK.sub (a:=mq) (b:=we) CT)<|mv Y<|lE h λnJ qB h=>sb _ Y Y (UK.sub (a:=tg) (b:=CQ) qB)<|ag Y ?_;refine RT.done ⟨by kernel_rfl,?_⟩;refine aV.n<|sr<|mo (s:=.jg _ _ _) Y<|mv Y<|mv Y<|lE h λCR He h=>cv _ Y (UK.nat He)<|bE h λyT Ev h=>RT.yP .none Y Y T Ev<|bE h λVm OE h=>sR CR Y Y Y Y OE<|dn<|aZ<|mv Y<|lE h λyU Ew h=>RT.shr .none _ Y Y T (by decide) (xo (k:=.u64) (a:=nJ) (q:=63) (s:=63) Y Ew)<|ag Y<|RT.done<|bG.n<|aV.n<|aZ<|lE h λvr h48 h=>ad _ Y Y h48<|mv Y<|RT.done ?_;obtain rfl:=O h;exact aV.n ⟨(yU,vr,Vl,Vm),LA _ Y,wR []⟩;subst Lz;obtain⟨Ei,pO⟩:=rf
 try dsimp only
 refine aV.n<|sr<|mv Y<|lE kX λtj CW kX=>ne _ Y Y (NI (p:=Ei) (q:=0) CW)<|ag Y<|dn<|bh<|bE kX λ_ hle kX=>?_;obtain rfl:=O kX;exact⟨.inr Y,.sv (cS (.tmp Y (.nil)) au),(by show _=gS.live ⟨80,1,x0.length,List.flatMap aX pO⟩;rw[<-iG hle];rfl)⟩
set_option maxHeartbeats 4000000 in
theorem ri{x0:List Nat}{x1:List Nat}(N:Nat){r:(List Nat)×(List Nat)}(h:fu x0 x1=some r):c6 ah 91 N [slc 1 (List.map aX x0),slc 1 (List.map aX x1)] (.rH [nw N (slc 1 (List.map aX r.1)),nw N (slc 1 (List.map aX r.2))]):=by
 refine bt Try.func91 Y (af Y) (λga M vs hN hvs=>?_);unfold fu at h;refine sr<|ag Y<|ag Y<|dn<|gy (kT 4 306 80 1 Y Y T)<|gy (kT 5 308 80 1 Y Y T)<|sr<|mv Y<|lE h λiv mU h=>ln Y mU<|ag Y<|dn<|sr<|mv Y<|mv Y<|lE h λjm nY h=>sb _ Y Y nY<|bE h λkP qY h=>ix Y Y qY<|lr Y Y<|bE h λkp qX h=>cl (jo qX) ⟨Y,aq⟩ ?_;refine lE h λfo ou h=>cv _ Y (UK.conv ou)<|ag Y<|dn<|qq<|bf mixed<|mv Y<|mv Y<|bE h λnW vu h=>cN (n6 vu) ⟨Y,Y,aq⟩<|mv Y<|mv Y<|bE h λuB xB h=>cl (oP xB) ⟨Y,Y,aq⟩<|mv Y<|bE h λjE nM h=>RT.D5 .none 0 iv Y Y ⟨_,Y⟩ T nM<|an (s:=.row _) Y<|ag Y ?_;refine RT.done ⟨by kernel_rfl,?_⟩;refine aV.n<|sr<|mv Y<|lE h λmL pW h=>ln Y pW<|mv Y<|lE h λvK vM h=>sb _ Y Y vM<|lE h λwe xD h=>ad _ Y Y xD<|bE h λtg CT h=>RT.yO (n:=1) (e:=aX) .none Y Y T Y T (by rfl) (by decide) (by exact⟨au,aq⟩) CT<|an (s:=.row _) Y<|dn<|qq<|sr<|mv Y<|lE h λnJ qB h=>ln Y qB<|mv Y<|lE h λot zg h=>sb _ Y Y zg ?_;refine ag Y<|dn<|bE h λVw V1 LC=>?_;refine cE (λ(CX:(List Nat)×(List Nat))=>AS.dR 141 [(4,.row 38),(6,ai iv),(7,.sv (.v (.int .u64 ((fo:Nat):Int)))),(8,.row 27)] [] [(38,TR 80 1 aX CX.1),(27,TR 80 1 aX CX.2)]) (λCX=>CX=Vw) ?_ (λCX V3=>?_);refine bn ?_
 refine cG V1 (λLd=>AS.dR 141 [(4,.row 38),(6,ai iv),(7,.sv (.v (.int .u64 ((fo:Nat):Int)))),(8,.row 27),(9,.sv (slc 1 (List.map aX jE))),(10,ai Ld.1)] [] [(38,TR 80 1 aX Ld.2.1),(27,TR 80 1 aX Ld.2.2)]) (wR []) (λLd y36 G36 h V4 V5=>?_);obtain⟨fP,mM,oM⟩:=Ld
 try dsimp only
 refine qq<|sr<|mv Y<|lE h λCR He h=>ge _ Y Y He<|dn ?_;cases CR;refine cF<|cQ<|aV.x<|aV.x<|bG.x<|aV.n ?_;obtain rfl:=O (F h);exact⟨(mM,oM),V5 _ Y,wR []⟩;refine cT<|bH<|aV.n<|qq<|bn<|sr<|mo (s:=.row _) Y<|mv Y<|mv Y<|mv Y<|lE (V h) λGa G1 h=>ad _ Y Y G1<|lE h λvI Ex h=>ad _ Y Y Ex ?_;obtain⟨⟨YN,YO⟩,V6,h⟩:=bS h;refine RT.NS .none fP vI Y Y ⟨_,Y⟩ ⟨_,Y⟩ T V6<|mv Y ?_;obtain⟨⟨G0,Le⟩,OC,h⟩:=bS h;refine bE h λ_ V7 h=>cR (l:=oM) (l':=Le) (e:=aX) (pZ OC) (iG V7) 27 Y (.k2 Y Y)<|ag Y<|dn<|qq<|sr<|mo (s:=.row _) Y<|mv Y<|mv Y<|mv Y<|lE h λCO G2 h=>ad _ Y Y G2<|lE h λGb OB h=>ad _ Y Y OB ?_;obtain⟨⟨YP,YQ⟩,V8,h⟩:=bS h;refine RT.NS .none fP Gb Y Y ⟨_,Y⟩ ⟨_,Y⟩ T V8<|mv Y<|mv Y ?_;obtain⟨⟨Vn,MT⟩,h65,h⟩:=bS h;refine bE h λ_ V9 h=>cR (l:=Le) (l':=MT) (e:=aX) (j1 h65) (iG V9) 27 Y (.k3 Y Y Y)<|dn ?_;refine bF h (λMU=>AS.dR 141 [(4,.row 38),(6,ai iv),(7,.sv (.v (.int .u64 ((fo:Nat):Int)))),(8,.row 27),(9,.sv (slc 1 (List.map aX jE))),(10,ai fP),(11,.sv (.v (.int .u64 ((MU.1:Nat):Int))))] [] [(38,TR 80 1 aX mM),(27,TR 80 1 aX MU.2)]) (λh=>?_) (λMU h=>?_);cases Vn;exact fs<|⟨(G0,MT),(F h),wR []⟩
 refine cT<|sr<|mv Y<|lE (V h) λN8 Wa h=>sb _ Y Y (UK.sub (a:=G0) (b:=1) Wa)<|ag Y<|dn<|sr<|RT.uj .none (dj 0) Y ⟨Y,aq⟩ T Y Y<|an (s:=.eX _ _) Y<|dn<|qq<|sr<|mv Y<|lE h λVp h70 h=>ln Y h70<|mv Y<|dn<|bE h λVu Wb mW=>?_;refine cE (λ(CY:Nat×(List Nat))=>AS.dR 141 [(4,.row 38),(6,ai iv),(7,.sv (.v (.int .u64 ((fo:Nat):Int)))),(8,.row 27),(9,.sv (slc 1 (List.map aX jE))),(10,ai fP),(11,.sv (.v (.int .u64 ((N8:Nat):Int)))),(12,.eX 113 [.box 68])] [(68,⟨100,[.sv (.v (.int .u64 ((CY.1:Nat):Int)))]⟩)] [(38,TR 80 1 aX mM),(27,TR 80 1 aX CY.2)]) (λCY=>CY=Vu) ?_ (λCY Wc=>?_);refine bn ?_;refine cG Wb (λLg=>AS.dR 141 [(4,.row 38),(6,ai iv),(7,.sv (.v (.int .u64 ((fo:Nat):Int)))),(8,.row 27),(9,.sv (slc 1 (List.map aX jE))),(10,ai fP),(11,.sv (.v (.int .u64 ((N8:Nat):Int)))),(12,.eX 113 [.box 68]),(69,.sv (slc 1 (List.map aX jE))),(70,ai Vp),(71,ai Lg.1)] [(68,⟨100,[.sv (.v (.int .u64 ((Lg.2.1:Nat):Int)))]⟩)] [(38,TR 80 1 aX mM),(27,TR 80 1 aX Lg.2.2)]) (wR []) (λLg y65 G65 h Wd We=>?_);obtain⟨qS,pP,oN⟩:=Lg
 try dsimp only
 refine sr<|lE h λGe OF h=>ls _ Y Y OF<|dn<|qq ?_;cases Ge;refine cF<|cQ<|aV.x<|aV.x<|bG.x<|aV.n ?_;obtain rfl:=O (F h);exact⟨(pP,oN),We _ Y,wR []⟩;refine cT<|bH<|aV.n<|qq<|bn<|sr<|mv Y<|bE (V h) λYS h74 h=>ix Y Y h74<|lr Y Y<|ag Y<|ag Y<|dn<|aZ<|mo (s:=.row _) Y<|mv Y<|mv Y<|lE h λYT h79 h=>ad _ Y Y h79<|mo (s:=.eX _ _) Y<|mo (s:=.row _) Y<|mv Y<|mv Y<|lE h λMV Wf h=>ad _ Y Y Wf<|bE h λYU Wg h=>iR Y Y Y Wg ?_;refine bE h λYV h86 h=>lR Y Y h86 Y<|lE h λLh Wh h=>cv _ Y (UK.nat Wh)<|mv Y<|lE h λVq h89 h=>cv _ Y (UK.nat h89)<|lE h λYW h90 h=>ad _ Y Y (UK.add (a:=Lh) (b:=Vq) h90) ?_;obtain⟨⟨Vr,Vs⟩,Wi,h⟩:=bS h;refine cB (bM Wi) 68 Y ⟨Y,aq⟩<|bE h λYX h92 h=>iR Y Y Y h92<|bE h λVt OG h=>sR Vr Y Y Y Y OG<|RT.done<|bG.n<|aV.n<|aZ<|lE h λLi Wj h=>ad _ Y Y Wj<|mv Y<|RT.done ?_;obtain rfl:=O h;exact aV.n ⟨(Li,Vs,Vt),Wd _ Y,wR []⟩;subst Wc;obtain⟨yX,uE⟩:=CY
 try dsimp only
 refine aV.n<|aZ<|mo (s:=.row _) Y<|mv Y<|mv Y<|lE mW λYY Wk mW=>ad _ Y Y Wk<|mo (s:=.eX _ _) Y<|mo (s:=.row _) Y<|mv Y<|mv Y<|lE mW λN9 Wm mW=>ad _ Y Y Wm<|bE mW λOa LD mW=>iR Y Y Y LD<|bE mW λCS LF mW=>lR Y Y LF Y<|lE mW λOb Wn mW=>cv _ Y (UK.nat Wn) ?_;obtain⟨⟨Lj,Z2⟩,Wo,mW⟩:=bS mW;exact cB (bM Wo) 68 Y ⟨Y,aq⟩<|bE mW λOd Wp mW=>iR Y Y Y Wp<|bE mW λVv OH mW=>sR Lj Y Y Y Y OH<|dn<|⟨(N8,Vv),mW,wR []⟩;obtain⟨Ej,AY⟩:=MU
 try dsimp only
 refine aV.n<|aZ<|mo (s:=.row _) Y<|mv Y<|mv Y<|lE h λLf Wq h=>cv _ Y (UK.nat Wq)<|bE h λN7 Wr h=>iR Y Y Y Wr<|bE h λVo OI h=>sR Lf Y Y Y Y OI<|RT.done<|bG.n<|aV.n<|aZ<|mv Y<|lE h λuD h46 h=>sb _ Y Y h46<|ag Y<|RT.done ?_;obtain rfl:=O h;exact aV.n ⟨(uD,Vo,AY),V4 _ Y,wR []⟩;subst V3;obtain⟨uF,qT⟩:=CX
 try dsimp only
 refine aV.n<|sr<|mv Y<|bE LC λOe Ws LC=>RT.yO (n:=1) (e:=aX) .none Y Y T Y T (by rfl) (by decide) (by exact⟨au,aq⟩) Ws<|an (s:=.row _) Y<|dn<|qq<|sr<|mv Y<|mv Y<|dn<|bE LC λe81 Wt Wu=>?_;refine cE (λ(lK:(List Nat))=>AS.dR 141 [(4,.row 38),(5,.row 114)] [] [(38,TR 80 1 aX uF),(114,TR 80 1 aX lK)]) (λlK=>lK=e81) ?_ (λlK Wv=>?_);refine bn ?_;refine cG Wt (λMW=>AS.dR 141 [(4,.row 38),(5,.row 114),(7,.sv (.v (.int .u64 ((fo:Nat):Int)))),(8,.row 27),(115,ai iv),(116,ai MW.1)] [] [(38,TR 80 1 aX uF),(114,TR 80 1 aX MW.2),(27,TR 80 1 aX qT)]) (wR []) (λMW y81 G81 h Ww Wy=>?_);obtain⟨nL,pQ⟩:=MW
 try dsimp only
 refine sr<|lE h λLk Wz h=>ls _ Y Y Wz<|dn<|qq ?_;cases Lk;refine cF<|cQ<|aV.x<|aV.x<|bG.x<|aV.n ?_;obtain rfl:=O (F h);exact⟨pQ,Wy _ Y,wR []⟩;refine cT<|bH<|aV.n<|qq<|bn<|sr<|mv Y<|ag Y<|dn<|bf mixed<|mo (s:=.row _) Y<|mv Y<|mo (s:=.row _) Y<|mv Y<|bE (V h) λOf WA h=>iR Y Y Y WA<|bE h λOg WB h=>lR Y Y WB Y<|lE h λLl WC h=>cv _ Y (UK.nat WC)<|mo (s:=.row _) Y<|mv Y<|lE h λOh h128 h=>ad _ Y Y h128<|bE h λOi WD h=>?_;refine iR Y Y Y WD<|bE h λOj WE h=>lR Y Y WE Y<|lE h λLm WG h=>cv _ Y (UK.nat WG)<|lE h λLn WH h=>RT.shl .none _ Y Y T (by decide) (UK.shl (a:=Lm) (q:=32) (s:=32) Y WH)<|lE h λLo WI h=>RT.or .none _ Y Y T (UK.or (a:=Ll) (b:=Ln) WI)<|mv Y<|lE h λOl WJ h=>RT.shr .none _ Y Y T (Int.natCast_nonneg _) (xo (k:=.u64) (a:=Lo) (q:=((fo:Nat):Int)) (s:=min fo 64) Y WJ)<|lE h λLp WK h=>cv _ Y (UK.nat WK) ?_;refine bE h λOm WL h=>iR Y Y Y WL<|bE h λVx OJ h=>sR Lp Y Y Y Y OJ ?_;refine RT.done ⟨by kernel_rfl,?_⟩;refine bG.n<|aV.n<|aZ<|lE h λLq WM h=>ad _ Y Y WM<|mv Y<|RT.done ?_;obtain rfl:=O h;exact aV.n ⟨(Lq,Vx),Ww _ Y,wR []⟩;subst Wv
 try dsimp only
 refine aV.n<|sr<|mo (s:=.row _) Y<|mo (s:=.row _) Y<|an (s:=.row _) Y<|an (s:=.row _) Y<|dn<|nI (i:=38) (E1:=80) (n:=1) (e:=aX) (l:=uF) hN (λ_ h=>h) Y<|nI (i:=114) (E1:=80) (n:=1) (e:=aX) (l:=lK) hN (λ_ h=>h) Y<|bh ?_;obtain rfl:=O Wu;exact R2 Y Y
theorem gA{x0:List Nat}(N:Nat){r:List Nat}(h:cJ x0=some r):c6 ah 56 N [slc 1 (List.map aX x0)] (nw N (slc 1 (List.map aX r))):=GW (kV h)
theorem ku{x0:List Nat}{x1:List Nat}(N:Nat){r:(List Nat)×(List Nat)}(h:ep x0 x1=some r):c6 ah 68 N [slc 1 (List.map aX x0),slc 1 (List.map aX x1)] (.rH [nw N (slc 1 (List.map aX r.1)),nw N (slc 1 (List.map aX r.2))]):=by
 refine bt Try.func68 Y (af Y) (λga M vs hN hvs=>?_);unfold ep at h;refine sr<|ag Y<|aI Y (bk (N:=N) (n:=1) (e:=aX))<|dn<|gy (kT 4 304 80 1 Y Y T)<|qq<|bn<|sr<|mv Y<|mv Y<|bE h λiw kW h=>cl (ey kW) ⟨Y,Y,aq⟩<|lE h λkF me h=>ls _ Y Y me<|ag Y<|dn ?_;cases kF;refine cF<|sr<|mv Y<|lE (F h) λfJ jK h=>ln Y jK<|lE h λmc oO h=>RT.leq .none _ Y Y T oO<|ag Y<|dn ?_;cases mc;refine cF<|sr<|mv Y<|lE (F h) λvK vM h=>ln Y vM<|lE h λwe xD h=>eq _ Y Y (qz (p:=vK) (q:=1) xD)<|ag Y<|dn ?_;cases we;refine cF<|bH<|bG.n<|aV.n<|sr<|mv Y<|mv Y ?_;obtain⟨⟨On,Oo⟩,Ex,h⟩:=bS (F h);refine RT.bu .none (ri N Ex) hN Y ⟨Y,Y,aq⟩ T<|ex Y Y<|ex Y Y<|ag Y<|ag Y<|dn<|bh ?_;obtain rfl:=O h;exact R2 Y Y;refine cT<|sr<|mv Y<|bE (V h) λqA Ez h=>cN (kV Ez) ⟨Y,aq⟩<|an (s:=.row _) Y<|dn<|sr<|mo (s:=.row _) Y<|mv Y<|bE h λot zg h=>ix Y Y zg<|lr Y Y<|lE h λCR He h=>cv _ Y (UK.nat He) ?_;obtain⟨⟨yT,l5⟩,Ev,h⟩:=bS h;refine bE h λ_ he5 h=>cR (l:=qA) (l':=l5) (e:=aX) (pY Ev) (iG he5) 39 Y (.k2 Y Y)<|ag Y<|dn<|sr<|mo (s:=.row _) Y<|mv Y<|lE h λvr h48 h=>cv _ Y (UK.nat h48)<|RT.pI (l:=[vr]) (e:=aX) .none hN (.one Y (.nil)) T Y Y Y Y Y Y<|an (s:=.row _) Y<|ag Y<|dn<|nI (i:=39) (E1:=80) (n:=1) (e:=aX) (l:=l5) hN (λ_ h=>h) Y ?_
 refine bh<|bG.r<|aV.r ?_;obtain rfl:=O h;exact R2 Y Y;refine cT<|sr<|mv Y<|bE (V h) λkP qY h=>cl (ff qY) ⟨Y,aq⟩<|mv Y<|bE h λkp qX h=>cl (ff qX) ⟨Y,aq⟩<|ag Y<|ag Y<|dn<|qq<|bf mixed<|mv Y<|mv Y<|bE h λiY qC h=>RT.quo .none _ Y Y T (UM qC) (UK.quo qC) ?_;obtain⟨⟨yY,wj⟩,vu,h⟩:=bS h;refine RT.bu .none (fT N vu) hN Y ⟨Y,Y,aq⟩ T<|fl Y Y<|mv Y<|mv Y<|bE h λnV yq h=>RT.rem .none _ Y Y T (Sv yq) (GI yq) ?_;obtain⟨⟨iQ,iA⟩,nM,h⟩:=bS h;refine RT.bu .none (fT N nM) hN Y ⟨Y,Y,aq⟩ T<|fl Y Y<|ag Y<|ag Y ?_;refine RT.done ⟨by kernel_rfl,?_⟩;refine aV.n<|bh<|bG.r<|aV.r ?_;obtain rfl:=O h;exact R2 Y Y;refine cT<|sr<|mv Y<|bE (V h) λl7 pU h=>RT.bu .none (gA N pU) hN Y ⟨Y,aq⟩ T<|ag Y<|ag Y<|dn<|gy (kT 4 310 80 1 Y Y T)<|nI (i:=310) (E1:=80) (n:=1) (e:=aX) (l:=[]) hN (λ_ h=>h) Y<|bh<|bG.r<|aV.r ?_;obtain rfl:=O h;exact R2 Y Y
end
section
open Go.Fw Go.Fw.Z Go.RowKit
theorem cy{x0:Int}(N:Nat){r:Zr}(h:bp x0=some r):c6 ah 35 N [ay x0] (.agg ((fZ N) r)):=by
 refine bt Try.func35 Y (af Y) (λga M vs hN hvs=>?_);unfold bp at h;refine sr<|al (cs:=[az false,nw N ax]) (by exact⟨au,bk,aq⟩) Y<|dn<|sr<|mv Y<|lE h λx5 h5 h=>cv _ Y (UK.conv h5)<|ag Y<|dn<|qq<|sr<|mv Y<|lE h λx7 h7 h=>ls _ Y Y h7<|dn ?_;refine bF h (λj2=>AS.dR 14 [(0,ai x0),(2,.ptr 2 0),(3,.sv (.v (.int .u64 ((j2:Nat):Int))))] [(2,⟨24,[aj false,.sv (nw N ax)]⟩)] []) (λh=>?_) (λOq h=>?_);cases x7;exact fs<|⟨x5,(F h),wR []⟩;exact cT<|aZ<|mv Y<|lE (V h) λx9 h9 h=>RT.neg .none _ Y T (UK.neg h9)<|ag Y<|dn<|⟨x9,h,wR []⟩
 try dsimp only
 refine aV.n<|sr<|mv Y<|lE h λnU qW h=>ls _ Y Y qW<|mv Y ?_;obtain⟨⟨yZ,y4⟩,me,h⟩:=bS h;refine RT.bu .none (fT N me) hN Y ⟨Y,Y,aq⟩ T<|so Y Y Y<|dn<|bh ?_;obtain rfl:=O h;exact RZ (.agg Y Y (.k2 Y Y) Y (.nil))
theorem dm{x0:Int}{r:Zr}(h:bp x0=some r):Pure ah 35 [ay x0] (.agg (eZ r)):=dh (λN=>cy N h) (λN=>(SV.cm (zI _ _)))
theorem eu{x0:Zr}{r:Int×Bool}(h:cz x0=some r):Pure ah 52 [.agg (eZ x0)] (.rH [ay r.1,az r.2]):=by
 obtain⟨bD,bB⟩:=x0;refine bN Try.func52 Y (af Y) (λga M vs hvs=>?_);unfold cz at h;refine sr<|bx Y<|ag Y<|ag Y<|dn<|sr<|fa Y Y<|lV Y Y Y<|bE h λx8 h8 h=>cl (bL h8) ⟨Y,aq⟩<|ag Y<|dn<|qq<|sr<|mv Y<|lE h λiL jy h=>ln Y jy<|lE h λnU qW h=>gt _ Y Y qW<|dn ?_;cases nU;refine fs<|sr<|mv Y<|bE (F h) λkF me h=>cl (ff me) ⟨Y,aq⟩<|ag Y<|dn<|qq<|sr<|fa Y Y<|lV Y Y Y<|dn ?_;cases bD;refine fs<|qq<|sr<|mv Y<|lE (F h) λjC sL h=>ge _ Y Y (UJ (p:=9223372036854775808) (q:=kF) sL)<|dn ?_;cases jC;refine fs<|sr<|mv Y<|lE (F h) λfo ou h=>cv _ Y ou<|ag Y<|ag Y<|dn<|bh ?_;obtain rfl:=O h;exact R2 Y Y;refine cT<|sr<|ag Y<|ag Y<|dn<|bh<|aV.r ?_;obtain rfl:=O (V h);exact R2 Y Y;refine cT<|qq<|sr<|mv Y<|lE (V h) λiv mU h=>gt _ Y Y (MQ (p:=9223372036854775808) (q:=kF) mU)<|dn ?_;cases iv;refine fs<|sr<|mv Y<|lE (F h) λmc oO h=>RT.neg .none _ Y T (UK.neg oO)<|lE h λjm nY h=>cv _ Y nY<|ag Y<|ag Y<|dn<|bh<|aV.r ?_;obtain rfl:=O h;exact R2 Y Y;refine cT<|sr<|ag Y<|ag Y<|dn<|bh<|aV.r<|aV.r ?_;obtain rfl:=O (V h);exact R2 Y Y;refine cT<|sr<|ag Y<|ag Y<|dn<|bh<|aV.r ?_;obtain rfl:=O (V h);exact R2 Y Y
theorem kG{x0:List Nat}(N:Nat){r:List Nat}(h:bg x0=some r):c6 ah 54 N [nw N (slc 1 (List.map aX x0))] (nw N (slc 1 (List.map aX r))):=by
 refine bt Try.func54 Y (af Y) (λga M vs hN hvs=>?_);unfold bg at h;refine sr<|aI Y (bk (N:=N) (n:=1) (e:=aX))<|dn<|qq<|bE h λLs A5 xA=>?_;refine cE (λ(uA:(List Nat))=>AS.dR 21 [(0,.sv (nw N (slc 1 (List.map aX uA))))] [] []) (λuA=>uA=Ls) ?_ (λuA A6=>?_);refine bn ?_;refine cG A5 (λyW=>AS.dR 21 [(0,.sv (nw N (slc 1 (List.map aX yW))))] [] []) (wR []) (λsI Vz VA h A7 ze=>?_)
 try dsimp only
 refine qq<|qq ?_;refine bF h (λLt=>AS.dR 21 [(0,.sv (nw N (slc 1 (List.map aX sI)))),(14,aj Lt)] [] []) (λh=>?_) (λuz h=>?_);refine aZ<|mv Y<|lE h λx4 h4 h=>RT.yS .none Y T h4<|lE h λx5 h5 h=>gt _ Y Y h5<|mv Y<|bE h λAR dY h=>?_;cases x5;obtain rfl:=O (F dY);exact ww<|ww<|ww<|ww<|ww<|ww<|ww<|pF Y<|dn<|⟨false,h,wR []⟩;refine gm Y<|gm Y<|lE (V dY) λx9 h9 dY=>RT.yS (.some Y Y) Y T h9<|lE dY λiL jy dY=>RT.sub (.some Y Y) _ Y Y T jy<|bE dY λnU qW dY=>RT.U7 (.some Y Y) Y Y T qW<|gr Y Y<|lE dY λkF me dY=>BW _ Y Y (NH (p:=nU) (q:=0) me) ?_;obtain rfl:=O dY;exact pT Y<|dn<|⟨kF,h,wR []⟩
 try dsimp only
 refine aV.n ?_;cases uz;refine cF<|cQ<|aV.x<|aV.x<|bG.x<|aV.n ?_;obtain rfl:=O (F h);exact⟨sI,ze _ Y,wR []⟩;refine cT<|bH<|aV.n<|bn<|aZ<|mv Y<|mv Y<|lE (V h) λiv mU h=>RT.yS .none Y T mU<|lE h λfJ jK h=>sb _ Y Y jK<|bE h λmc oO h=>RT.GX .none 0 fJ Y Y ⟨_,Y⟩ T oO<|ag Y<|RT.done<|bG.n ?_;obtain rfl:=O h;exact aV.n ⟨mc,A7 _ Y,wR []⟩;subst A6
 try dsimp only
 refine aV.n<|sr<|mv Y<|ag Y<|dn<|bh ?_;obtain rfl:=O xA;exact R1 Y
theorem cX{x0:Bool}{x1:List Nat}(N:Nat){r:Zr}(h:bK x0 x1=some r):c6 ah 55 N [az x0,nw N (slc 1 (List.map aX x1))] (.agg ((fZ N) r)):=by
 refine bt Try.func55 Y (af Y) (λga M vs hN hvs=>?_);unfold bK at h;refine sr<|al (cs:=[az false,nw N ax]) (by exact⟨au,bk,aq⟩) Y<|dn<|sr<|mv Y<|bE h λx6 h6 h=>RT.bu .none (kG N h6) hN Y ⟨Y,aq⟩ T<|ag Y<|dn<|qq<|sr<|mv Y<|lE h λx8 h8 h=>RT.yS .none Y T h8<|lE h λx9 h9 h=>eq _ Y Y (qz (p:=x8) (q:=0) h9)<|dn ?_;cases x9;refine fs<|sr<|mv Y<|mv Y<|bI (cs:=[_,_]) (cs':=[az x0,nw N (slc 1 (List.map aX x6))]) (.one Y (.one Y (.nil))) ⟨au,au,aq⟩<|so Y Y Y<|dn<|bh ?_;obtain rfl:=O (F h);exact RZ (.agg Y Y (.k2 Y Y) Y (.nil));refine cT<|sr<|bI (cs:=[_,_]) (cs':=[az false,nw N ax]) (.nil) ⟨au,bk,aq⟩<|so Y Y Y<|dn<|bh<|aV.r ?_;obtain rfl:=O (V h);exact RZ (.agg Y Y (.k2 Y Y) Y (.nil))
theorem jL{x0:Bool}{x1:List Nat}{x2:Bool}{x3:List Nat}(N:Nat){r:Zr}(h:cn x0 x1 x2 x3=some r):c6 ah 53 N [az x0,slc 1 (List.map aX x1),az x2,slc 1 (List.map aX x3)] (.agg ((fZ N) r)):=by
 refine bt Try.func53 Y (af Y) (λga M vs hN hvs=>?_);unfold cn at h;refine sr<|al (cs:=[az false,nw N ax]) (by exact⟨au,bk,aq⟩) Y<|dn<|qq<|sr<|mv Y<|mv Y<|lE h λnU qW h=>RT.Ue .none _ Y Y T qW<|dn ?_;cases nU;refine fs<|qq<|sr<|mv Y<|mv Y<|bE (F h) λmc oO h=>cl (ey oO) ⟨Y,Y,aq⟩<|lE h λjm nY h=>ls _ Y Y nY<|dn ?_;cases jm;refine fs<|sr<|mv Y<|mv Y<|mv Y<|bE (F h) λg9 kQ h=>RT.bu .none (hG N kQ) hN Y ⟨Y,Y,aq⟩ T ?_;obtain⟨⟨pR,pS⟩,xB,h⟩:=bS h;refine RT.bu .none (cX N xB) hN Y ⟨Y,Y,aq⟩ T<|so Y Y Y<|dn<|bh ?_;obtain rfl:=O h;exact RZ (.agg Y Y (.k2 Y Y) Y (.nil));refine cT<|sr<|mv Y<|mv Y<|mv Y<|bE (V h) λfo ou h=>RT.bu .none (hG N ou) hN Y ⟨Y,Y,aq⟩ T ?_;obtain⟨⟨jG,jH⟩,zf,h⟩:=bS h;refine RT.bu .none (cX N zf) hN Y ⟨Y,Y,aq⟩ T<|so Y Y Y<|dn<|bh<|aV.r ?_;obtain rfl:=O h;exact RZ (.agg Y Y (.k2 Y Y) Y (.nil));refine cT<|sr<|mv Y<|mv Y<|mv Y<|bE (V h) λl7 pU h=>RT.bu .none (kq N pU) hN Y ⟨Y,Y,aq⟩ T ?_;obtain⟨⟨mN,mO⟩,nZ,h⟩:=bS h;refine RT.bu .none (cX N nZ) hN Y ⟨Y,Y,aq⟩ T<|so Y Y Y<|dn<|bh<|aV.r ?_;obtain rfl:=O h;exact RZ (.agg Y Y (.k2 Y Y) Y (.nil))
theorem lM{x0:Zr}{x1:Zr}(N:Nat){r:Zr}(h:c9 x0 x1=some r):c6 ah 18 N [.agg (eZ x0),.agg (eZ x1)] (.agg ((fZ N) r)):=by
 obtain⟨bD,bB⟩:=x0;obtain⟨cq,b9⟩:=x1;refine bt Try.func18 Y (af Y) (λga M vs hN hvs=>?_);unfold c9 at h;refine sr<|bx Y<|bx Y<|al (cs:=[az false,nw N ax]) (by exact⟨au,bk,aq⟩) Y<|dn<|sr<|ld Y Y (.k2 Y Y) ?_;obtain⟨⟨vL,AZ⟩,kW,h⟩:=bS h;refine cl (eu kW) ⟨Y,aq⟩<|mv Y<|ex Y Y<|ex Y Y<|ag Y<|ag Y<|dn<|sr<|ld Y Y (.k2 Y Y) ?_;obtain⟨⟨xy,A0⟩,mU,h⟩:=bS h;refine cl (eu mU) ⟨Y,aq⟩<|mv Y<|ex Y Y<|ex Y Y<|ag Y<|ag Y<|dn<|qq<|qq ?_;refine bF h (λj3=>AS.dR 48 [(2,.ptr 2 0),(3,.ptr 3 0),(4,.ptr 4 0),(5,ai vL),(7,ai xy),(23,aj j3)] [(4,⟨24,[aj false,.sv (nw N ax)]⟩),(3,⟨24,[aj cq,.sv (slc 1 (List.map aX b9))]⟩),(2,⟨24,[aj bD,.sv (slc 1 (List.map aX bB))]⟩)] []) (λh=>?_) (λuG h=>?_);refine aZ<|mv Y<|mv Y<|bE h λy7 Dp h=>?_;cases AZ;obtain rfl:=O (F Dp);exact ww<|pF Y<|dn<|⟨false,h,wR []⟩;refine gm Y ?_;obtain rfl:=O (V Dp);exact pT Y<|dn<|⟨A0,h,wR []⟩
 try dsimp only
 refine aV.n ?_;refine bF h (λj5=>AS.dR 48 [(2,.ptr 2 0),(3,.ptr 3 0),(4,.ptr 4 0)] [(4,⟨24,[aj false,.sv (nw N ax)]⟩),(3,⟨24,[aj cq,.sv (slc 1 (List.map aX b9))]⟩),(2,⟨24,[aj bD,.sv (slc 1 (List.map aX bB))]⟩)] []) (λh=>?_) (λj5 h=>?_);cases uG;exact fs<|⟨(),(F h),wR []⟩;refine cT<|sr<|mv Y<|mv Y<|lE (V h) λiY qC h=>ad _ Y Y qC<|ag Y<|dn<|sr<|mv Y<|mv Y<|lE h λg9 kQ h=>RT.xor .none _ Y Y T kQ<|mv Y<|mv Y<|lE h λjE nM h=>RT.xor .none _ Y Y T nM<|lE h λmq rU h=>RT.and .none _ Y Y T rU<|lE h λmL pW h=>ge _ Y Y pW<|dn ?_;cases mL;exact fs<|⟨(),(F h),wR []⟩;refine cT<|sr<|mv Y ?_;obtain⟨⟨mP,mQ⟩,vM,h⟩:=bS (V h);refine RT.bu .none (cy N vM) hN Y ⟨Y,aq⟩ T<|so Y Y Y<|dn<|bh<|aV.r<|aV.r ?_;obtain rfl:=O h;exact RZ (.agg Y Y (.k2 Y Y) Y (.nil))
 try dsimp only
 refine aV.n<|qq<|bf mixed<|fa Y Y<|lV Y Y Y<|fa Y Y<|lV Y Y Y<|bE h λvH CV h=>cl (bL CV) ⟨Y,aq⟩<|fa Y Y<|lV Y Y Y<|fa Y Y<|lV Y Y Y<|bE h λuD h46 h=>cl (bL h46) ⟨Y,aq⟩ ?_;obtain⟨⟨Iv,Iw⟩,Ew,h⟩:=bS h;refine RT.bu .none (jL N Ew) hN Y ⟨Y,Y,Y,Y,aq⟩ T<|so Y Y Y ?_;refine RT.done ⟨by kernel_rfl,?_⟩;refine aV.n<|bh ?_;obtain rfl:=O h;exact RZ (.agg Y Y (.k2 Y Y) Y (.nil))
theorem hH{x0:Zr}{x1:Zr}{r:Zr}(h:c9 x0 x1=some r):Pure ah 18 [.agg (eZ x0),.agg (eZ x1)] (.agg (eZ r)):=dh (λN=>lM N h) (λN=>(SV.cm (zI _ _)))
theorem qa{x0:Zr}{x1:Zr}(N:Nat){r:Zr}(h:fR x0 x1=some r):c6 ah 51 N [.agg (eZ x0),.agg (eZ x1)] (.agg ((fZ N) r)):=by
 obtain⟨bD,bB⟩:=x0;obtain⟨cq,b9⟩:=x1;refine bt Try.func51 Y (af Y) (λga M vs hN hvs=>?_);unfold fR at h;refine sr<|bx Y<|bx Y<|al (cs:=[az false,nw N ax]) (by exact⟨au,bk,aq⟩) Y<|dn<|sr<|ld Y Y (.k2 Y Y) ?_;obtain⟨⟨vL,AZ⟩,kW,h⟩:=bS h;refine cl (eu kW) ⟨Y,aq⟩<|mv Y<|ex Y Y<|ex Y Y<|ag Y<|ag Y<|dn<|sr<|ld Y Y (.k2 Y Y) ?_;obtain⟨⟨xy,A0⟩,mU,h⟩:=bS h;refine cl (eu mU) ⟨Y,aq⟩<|mv Y<|ex Y Y<|ex Y Y<|ag Y<|ag Y<|dn<|qq<|qq ?_;refine bF h (λj3=>AS.dR 49 [(2,.ptr 2 0),(3,.ptr 3 0),(4,.ptr 4 0),(5,ai vL),(7,ai xy),(23,aj j3)] [(4,⟨24,[aj false,.sv (nw N ax)]⟩),(3,⟨24,[aj cq,.sv (slc 1 (List.map aX b9))]⟩),(2,⟨24,[aj bD,.sv (slc 1 (List.map aX bB))]⟩)] []) (λh=>?_) (λuG h=>?_);refine aZ<|mv Y<|mv Y<|bE h λy7 Dp h=>?_;cases AZ;obtain rfl:=O (F Dp);exact ww<|pF Y<|dn<|⟨false,h,wR []⟩;refine gm Y ?_;obtain rfl:=O (V Dp);exact pT Y<|dn<|⟨A0,h,wR []⟩
 try dsimp only
 refine aV.n ?_;refine bF h (λj5=>AS.dR 49 [(2,.ptr 2 0),(3,.ptr 3 0),(4,.ptr 4 0)] [(4,⟨24,[aj false,.sv (nw N ax)]⟩),(3,⟨24,[aj cq,.sv (slc 1 (List.map aX b9))]⟩),(2,⟨24,[aj bD,.sv (slc 1 (List.map aX bB))]⟩)] []) (λh=>?_) (λj5 h=>?_);cases uG;exact fs<|⟨(),(F h),wR []⟩;refine cT<|sr<|mv Y<|mv Y<|lE (V h) λiY qC h=>sb _ Y Y qC<|ag Y<|dn<|sr<|mv Y<|mv Y<|lE h λg9 kQ h=>RT.xor .none _ Y Y T kQ<|mv Y<|mv Y<|lE h λjE nM h=>RT.xor .none _ Y Y T nM<|lE h λmq rU h=>RT.and .none _ Y Y T rU<|lE h λmL pW h=>ge _ Y Y pW<|dn ?_;cases mL;exact fs<|⟨(),(F h),wR []⟩;refine cT<|sr<|mv Y ?_;obtain⟨⟨mP,mQ⟩,vM,h⟩:=bS (V h);refine RT.bu .none (cy N vM) hN Y ⟨Y,aq⟩ T<|so Y Y Y<|dn<|bh<|aV.r<|aV.r ?_;obtain rfl:=O h;exact RZ (.agg Y Y (.k2 Y Y) Y (.nil))
 try dsimp only
 refine aV.n<|qq<|bf mixed<|fa Y Y<|lV Y Y Y<|fa Y Y<|lV Y Y Y<|bE h λvH CV h=>cl (bL CV) ⟨Y,aq⟩<|fa Y Y<|lV Y Y Y<|lE h λCR He h=>nt Y _ He<|fa Y Y<|lV Y Y Y<|bE h λyU Ew h=>cl (bL Ew) ⟨Y,aq⟩ ?_;obtain⟨⟨Iy,Iz⟩,h48,h⟩:=bS h;refine RT.bu .none (jL N h48) hN Y ⟨Y,Y,Y,Y,aq⟩ T<|so Y Y Y ?_;refine RT.done ⟨by kernel_rfl,?_⟩;refine aV.n<|bh ?_;obtain rfl:=O h;exact RZ (.agg Y Y (.k2 Y Y) Y (.nil))
theorem xE{x0:Zr}{x1:Zr}{r:Zr}(h:fR x0 x1=some r):Pure ah 51 [.agg (eZ x0),.agg (eZ x1)] (.agg (eZ r)):=dh (λN=>qa N h) (λN=>(SV.cm (zI _ _)))
theorem fg{x0:Zr}{x1:Zr}(N:Nat){r:Zr}(h:cO x0 x1=some r):c6 ah 67 N [.agg (eZ x0),.agg (eZ x1)] (.agg ((fZ N) r)):=by
 obtain⟨bD,bB⟩:=x0;obtain⟨cq,b9⟩:=x1;refine bt Try.func67 Y (af Y) (λga M vs hN hvs=>?_);unfold cO at h;refine sr<|bx Y<|bx Y<|al (cs:=[az false,nw N ax]) (by exact⟨au,bk,aq⟩) Y<|dn<|qq<|bf mixed<|fa Y Y<|lV Y Y Y<|bE h λx9 h9 h=>cl (bL h9) ⟨Y,aq⟩<|fa Y Y<|lV Y Y Y<|bE h λiw kW h=>cl (bL kW) ⟨Y,aq⟩<|ag Y<|ag Y ?_;refine RT.done ⟨by kernel_rfl,?_⟩;refine aV.n<|qq<|qq ?_;refine bF h (λj3=>AS.dR 41 [(2,.ptr 2 0),(3,.ptr 3 0),(4,.ptr 4 0),(5,.sv (slc 1 (List.map aX x9))),(6,.sv (slc 1 (List.map aX iw))),(20,aj j3)] [(4,⟨24,[aj false,.sv (nw N ax)]⟩),(3,⟨24,[aj cq,.sv (slc 1 (List.map aX b9))]⟩),(2,⟨24,[aj bD,.sv (slc 1 (List.map aX bB))]⟩)] []) (λh=>?_) (λEk h=>?_);refine aZ<|mv Y<|lE h λkO rT h=>ln Y rT<|lE h λl7 pU h=>RT.leq .none _ Y Y T pU<|mv Y<|bE h λIC oR h=>?_;cases l7;obtain rfl:=O (F oR);exact ww<|ww<|ww<|pF Y<|dn<|⟨false,h,wR []⟩;refine gm Y<|lE (V oR) λfJ jK oR=>gn Y jK<|lE oR λmc oO oR=>RT.leq (.some Y Y) _ Y Y T oO ?_;obtain rfl:=O oR;exact pT Y<|dn<|⟨mc,h,wR []⟩
 try dsimp only
 refine aV.n ?_;cases Ek;refine fs<|qq<|bf mixed<|fa Y Y<|lV Y Y Y<|fa Y Y<|lV Y Y Y<|lE (F h) λvK vM h=>RT.Gp .none _ Y Y T vM<|mv Y<|mv Y<|bE h λqA Ez h=>RT.bu .none (pX N Ez) hN Y ⟨Y,Y,aq⟩ T ?_;obtain⟨⟨jI,jJ⟩,qB,h⟩:=bS h;refine RT.bu .none (cX N qB) hN Y ⟨Y,Y,aq⟩ T<|so Y Y Y ?_;refine RT.done ⟨by kernel_rfl,?_⟩;refine aV.n<|bh ?_;obtain rfl:=O h;exact RZ (.agg Y Y (.k2 Y Y) Y (.nil));refine cT<|qq<|bf mixed<|fa Y Y<|lV Y Y Y<|fa Y Y<|lV Y Y Y<|lE (V h) λAw zf h=>RT.Gp .none _ Y Y T zf<|mv Y<|bE h λnW vu h=>cl (ff vu) ⟨Y,aq⟩<|mv Y<|bE h λg9 kQ h=>cl (ff kQ) ⟨Y,aq⟩<|lE h λuB xB h=>RT.mul .none _ Y Y T (UK.mul (a:=nW) (b:=g9) xB) ?_;obtain⟨⟨IA,IB⟩,yq,h⟩:=bS h;refine RT.bu .none (fT N yq) hN Y ⟨Y,Y,aq⟩ T<|so Y Y Y ?_;refine RT.done ⟨by kernel_rfl,?_⟩;refine aV.n<|bh<|aV.r ?_;obtain rfl:=O h;exact RZ (.agg Y Y (.k2 Y Y) Y (.nil))
theorem qb{x0:Zr}{x1:Zr}{r:Zr}(h:cO x0 x1=some r):Pure ah 67 [.agg (eZ x0),.agg (eZ x1)] (.agg (eZ r)):=dh (λN=>fg N h) (λN=>(SV.cm (zI _ _)))
theorem jq{x0:Zr}(N:Nat){r:Zr}(h:dG x0=some r):c6 ah 21 N [.agg (eZ x0)] (.agg ((fZ N) r)):=by
 obtain⟨bD,bB⟩:=x0;refine bt Try.func21 Y (af Y) (λga M vs hN hvs=>?_);unfold dG at h;refine sr<|bx Y<|al (cs:=[az false,nw N ax]) (by exact⟨au,bk,aq⟩) Y<|dn<|qq<|bf mixed<|fa Y Y<|lV Y Y Y<|lE h λx5 h5 h=>nt Y _ h5<|fa Y Y<|lV Y Y Y<|bE h λx8 h8 h=>cl (bL h8) ⟨Y,aq⟩<|bE h λx9 h9 h=>RT.bu .none (gA N h9) hN Y ⟨Y,aq⟩ T ?_;obtain⟨⟨wm,wo⟩,jy,h⟩:=bS h;refine RT.bu .none (cX N jy) hN Y ⟨Y,Y,aq⟩ T<|so Y Y Y ?_;refine RT.done ⟨by kernel_rfl,?_⟩;refine aV.n<|bh ?_;obtain rfl:=O h;exact RZ (.agg Y Y (.k2 Y Y) Y (.nil))
theorem lN{x0:Zr}{r:Zr}(h:dG x0=some r):Pure ah 21 [.agg (eZ x0)] (.agg (eZ r)):=dh (λN=>jq N h) (λN=>(SV.cm (zI _ _)))
theorem xF{x0:Zr}(N:Nat){r:Zr}(h:gQ x0=some r):c6 ah 60 N [.agg (eZ x0)] (.agg ((fZ N) r)):=by
 obtain⟨bD,bB⟩:=x0;refine bt Try.func60 Y (af Y) (λga M vs hN hvs=>?_);unfold gQ at h;refine sr<|bx Y<|al (cs:=[az false,nw N ax]) (by exact⟨au,bk,aq⟩) Y<|dn<|sr<|fa Y Y<|lV Y Y Y<|bE h λx5 h5 h=>cl (bL h5) ⟨Y,aq⟩<|bE h λx6 h6 h=>RT.bu .none (gA N h6) hN Y ⟨Y,aq⟩ T ?_;obtain⟨⟨El,Em⟩,h7,h⟩:=bS h;refine RT.bu .none (cX N h7) hN Y ⟨Y,Y,aq⟩ T<|so Y Y Y<|dn<|bh ?_;obtain rfl:=O h;exact RZ (.agg Y Y (.k2 Y Y) Y (.nil))
theorem xG{x0:Zr}{r:Zr}(h:gQ x0=some r):Pure ah 60 [.agg (eZ x0)] (.agg (eZ r)):=dh (λN=>xF N h) (λN=>(SV.cm (zI _ _)))
theorem ee{x0:Zr}{r:Int}(h:bZ x0=some r):Pure ah 36 [.agg (eZ x0)] (ay r):=by
 obtain⟨bD,bB⟩:=x0;refine bN Try.func36 Y (af Y) (λga M vs hvs=>?_);unfold bZ at h;refine sr<|bx Y<|ag Y<|dn<|qq<|bn<|sr<|fa Y Y<|lV Y Y Y<|bE h λx6 h6 h=>cl (bL h6) ⟨Y,aq⟩<|lE h λx7 h7 h=>ln Y h7<|lE h λx8 h8 h=>eq _ Y Y (qz (p:=x7) (q:=0) h8)<|ag Y<|dn ?_;cases x8;refine cF<|sr<|fa Y Y<|lV Y Y Y<|ag Y<|dn ?_;replace h:=F h;cases bD;refine cF<|bH<|bG.n<|aV.n<|sr<|ag Y<|dn<|bh ?_;obtain rfl:=O (F h);exact R1 Y;refine cT<|sr<|ag Y<|dn<|bh<|bG.r<|aV.r ?_;obtain rfl:=O (V h);exact R1 Y;refine cT<|sr<|ag Y<|dn<|bh<|bG.r<|aV.r ?_;obtain rfl:=O (V h);exact R1 Y
theorem qc{x0:Zr}{x1:Zr}{r:Int}(h:fS x0 x1=some r):Pure ah 39 [.agg (eZ x0),.agg (eZ x1)] (ay r):=by
 obtain⟨bD,bB⟩:=x0;obtain⟨cq,b9⟩:=x1;refine bN Try.func39 Y (af Y) (λga M vs hvs=>?_);unfold fS at h;refine sr<|bx Y<|bx Y<|ag Y<|dn<|qq<|bf mixed<|ld Y Y (.k2 Y Y)<|bE h λx8 h8 h=>cl (ee h8) ⟨Y,aq⟩<|ld Y Y (.k2 Y Y)<|bE h λiL jy h=>cl (ee jy) ⟨Y,aq⟩<|ag Y<|ag Y ?_;refine RT.done ⟨by kernel_rfl,?_⟩;refine aV.n<|qq<|bn<|sr<|mv Y<|mv Y<|lE h λkO rT h=>ls _ Y Y rT<|ag Y<|dn ?_;cases kO;refine cF<|sr<|mv Y<|mv Y<|lE (F h) λfJ jK h=>gt _ Y Y jK<|ag Y<|dn ?_;cases fJ;refine cF<|sr<|mv Y<|lE (F h) λkP qY h=>ls _ Y Y qY<|ag Y<|dn ?_;cases kP;refine cF<|bH<|bG.n<|aV.n<|qq<|bf mixed<|fa Y Y<|lV Y Y Y<|bE (F h) λnV yq h=>cl (bL yq) ⟨Y,aq⟩<|fa Y Y<|lV Y Y Y<|bE h λmL pW h=>cl (bL pW) ⟨Y,aq⟩<|bE h λpL A8 h=>cl (ey A8) ⟨Y,Y,aq⟩<|ag Y ?_;refine RT.done ⟨by kernel_rfl,?_⟩;refine aV.n<|bh ?_;obtain rfl:=O h;exact R1 Y;refine cT<|qq<|bf mixed<|fa Y Y<|lV Y Y Y<|bE (V h) λfo ou h=>cl (bL ou) ⟨Y,aq⟩<|fa Y Y<|lV Y Y Y<|bE h λnW vu h=>cl (bL vu) ⟨Y,aq⟩<|bE h λnX uH h=>cl (ey uH) ⟨Y,Y,aq⟩<|ag Y ?_;refine RT.done ⟨by kernel_rfl,?_⟩;refine aV.n<|bh<|bG.r<|aV.r ?_;obtain rfl:=O h;exact R1 Y;refine cT<|sr<|ag Y<|dn<|bh<|bG.r<|aV.r ?_;obtain rfl:=O (V h);exact R1 Y;refine cT<|sr<|ag Y<|dn<|bh<|bG.r<|aV.r ?_
 obtain rfl:=O (V h);exact R1 Y
theorem ja{x0:Zr}{x1:Zr}(N:Nat){r:Zr×Zr×Int}(h:bT x0 x1=some r):c6 ah 34 N [.agg (eZ x0),.agg (eZ x1)] (.rH [.agg ((fZ N) r.1),.agg ((fZ N) r.2.1),ay r.2.2]):=by
 obtain⟨bD,bB⟩:=x0;obtain⟨cq,b9⟩:=x1;refine bt Try.func34 Y (af Y) (λga M vs hN hvs=>?_);unfold bT at h;refine sr<|bx Y<|bx Y<|al (cs:=[az false,nw N ax]) (by exact⟨au,bk,aq⟩) Y<|al (cs:=[az false,nw N ax]) (by exact⟨au,bk,aq⟩) Y<|ag Y<|dn<|qq<|bf mixed<|fa Y Y<|lV Y Y Y<|bE h λkF me h=>cl (bL me) ⟨Y,aq⟩<|fa Y Y ?_;refine lV Y Y Y<|bE h λjD nZ h=>cl (bL nZ) ⟨Y,aq⟩<|ag Y<|ag Y ?_;refine RT.done ⟨by kernel_rfl,?_⟩;refine aV.n<|qq<|sr<|mv Y<|lE h λfJ jK h=>ln Y jK<|lE h λmc oO h=>eq _ Y Y (qz (p:=fJ) (q:=0) oO)<|dn ?_;cases mc;refine fs<|sr<|mv Y<|mv Y ?_;obtain⟨⟨Eo,Ot⟩,zf,h⟩:=bS (F h);refine RT.bu .none (ku N zf) hN Y ⟨Y,Y,aq⟩ T<|mv Y<|ex Y Y<|ex Y Y<|ag Y<|ag Y<|dn<|sr<|mv Y<|bE h λg9 kQ h=>RT.bu .none (kG N kQ) hN Y ⟨Y,aq⟩ T<|ag Y<|dn<|qq<|qq ?_;refine bF h (λj3=>AS.dR 52 [(2,.ptr 2 0),(3,.ptr 3 0),(4,.ptr 4 0),(5,.ptr 5 0),(8,.sv (slc 1 (List.map aX jD))),(9,.sv (nw N (slc 1 (List.map aX Eo)))),(10,.sv (nw N (slc 1 (List.map aX g9)))),(36,aj j3.1)] [(5,⟨24,[aj false,.sv (nw N ax)]⟩),(4,⟨24,[aj false,.sv (nw N ax)]⟩),(3,⟨24,[aj cq,.sv (slc 1 (List.map aX b9))]⟩),(2,⟨24,[aj j3.2,.sv (slc 1 (List.map aX bB))]⟩)] []) (λh=>?_) (λj3 h=>?_)
 refine aZ<|fa Y Y<|lV Y Y Y<|mv Y<|bE h λIG Dp h=>?_;cases bD;obtain rfl:=O (F Dp);exact ww<|ww<|ww<|pF Y<|dn<|⟨(false,false),h,wR []⟩;refine gm Y<|lE (V Dp) λmL pW Dp=>RT.yS (.some Y Y) Y T pW<|lE Dp λpL A8 Dp=>gg _ Y Y A8 ?_;obtain rfl:=O Dp;exact pT Y<|dn<|⟨(pL,true),h,wR []⟩;obtain⟨Ep,A3⟩:=j3
 try dsimp only
 refine aV.n ?_;refine bF h (λj5=>AS.dR 52 [(2,.ptr 2 0),(3,.ptr 3 0),(4,.ptr 4 0),(5,.ptr 5 0),(9,.sv (nw N (slc 1 (List.map aX j5.1)))),(10,.sv (nw N (slc 1 (List.map aX j5.2))))] [(5,⟨24,[aj false,.sv (nw N ax)]⟩),(4,⟨24,[aj false,.sv (nw N ax)]⟩),(3,⟨24,[aj cq,.sv (slc 1 (List.map aX b9))]⟩),(2,⟨24,[aj A3,.sv (slc 1 (List.map aX bB))]⟩)] []) (λh=>?_) (λj5 h=>?_);cases Ep;exact fs<|⟨(Eo,g9),(F h),wR []⟩;exact cT<|sr<|mv Y<|RT.pI (l:=[1]) (e:=aX) .none hN (.one Y (.nil)) T Y Y Y Y Y Y<|bE (V h) λqA Ez h=>RT.bu .none ((kq N Ez).w (args':=[_,_]) ⟨dD,dD,aq⟩) hN Y ⟨Y,Y,aq⟩ T<|ag Y<|dn<|aZ<|mv Y<|mv Y<|bE h λot zg h=>RT.bu .none ((hG N zg).w (args':=[_,_]) ⟨au,dD,aq⟩) hN Y ⟨Y,Y,aq⟩ T<|ag Y<|dn<|⟨(qA,ot),h,wR []⟩;obtain⟨Ou,ID⟩:=j5
 try dsimp only
 refine aV.n<|sr<|fa Y Y<|lV Y Y Y<|fa Y Y<|lV Y Y Y<|lE h λyU Ew h=>RT.Gp .none _ Y Y T Ew<|mv Y ?_;obtain⟨⟨IE,IF⟩,Ox,h⟩:=bS h;refine RT.bu .none (cX N Ox) hN Y ⟨Y,Y,aq⟩ T<|mv Y ?_;obtain⟨⟨za,zb⟩,G1,h⟩:=bS h;refine RT.bu .none (cX N G1) hN Y ⟨Y,Y,aq⟩ T<|so Y Y Y<|so Y Y Y<|ag Y<|dn<|bh ?_;obtain rfl:=O h;exact RZ (.agg Y Y (.k2 Y Y) Y (.agg Y Y (.k2 Y Y) Y (.tmp Y (.nil))));refine cT<|sr<|bI (cs:=[_,_]) (cs':=[az false,nw N ax]) (.nil) ⟨au,bk,aq⟩<|bI (cs:=[_,_]) (cs':=[az false,nw N ax]) (.nil) ⟨au,bk,aq⟩<|so Y Y Y<|so Y Y Y<|ag Y<|dn<|bh<|aV.r ?_;obtain rfl:=O (V h);exact RZ (.agg Y Y (.k2 Y Y) Y (.agg Y Y (.k2 Y Y) Y (.tmp Y (.nil))))
theorem jb{x0:Zr}{x1:Zr}{r:Zr×Zr×Int}(h:bT x0 x1=some r):Pure ah 34 [.agg (eZ x0),.agg (eZ x1)] (.rH [.agg (eZ r.1),.agg (eZ r.2.1),ay r.2.2]):=dh (λN=>ja N h) (λN=>(SV.BJ ⟨(SV.cm (zI _ _)),(SV.cm (zI _ _)),au,aq⟩))
theorem xH{x0:Zr}{x1:Zr}(N:Nat){r:Zr}(h:gR x0 x1=some r):c6 ah 94 N [.agg (eZ x0),.agg (eZ x1)] (.agg ((fZ N) r)):=by
 obtain⟨bD,bB⟩:=x0;obtain⟨cq,b9⟩:=x1;refine bt Try.func94 Y (af Y) (λga M vs hN hvs=>?_);unfold gR at h;refine sr<|bx Y<|bx Y<|al (cs:=[az false,nw N ax]) (by exact⟨au,bk,aq⟩) Y<|dn<|qq<|bf mixed<|fa Y Y<|lV Y Y Y<|bE h λkF me h=>cl (bL me) ⟨Y,aq⟩<|fa Y Y<|lV Y Y Y<|bE h λjD nZ h=>cl (bL nZ) ⟨Y,aq⟩<|ag Y<|ag Y ?_;refine RT.done ⟨by kernel_rfl,?_⟩;refine aV.n<|qq<|bE h λLc Ly kX=>?_;refine cE (λ(rf:(List Nat)×(List Nat))=>AS.dR 57 [(4,.ptr 4 0),(5,.sv (slc 1 (List.map aX rf.1))),(6,.sv (slc 1 (List.map aX rf.2)))] [(4,⟨24,[aj false,.sv (nw N ax)]⟩)] []) (λrf=>rf=Lc) ?_ (λrf Lz=>?_);refine bn ?_;refine cG Ly (λAX=>AS.dR 57 [(4,.ptr 4 0),(5,.sv (slc 1 (List.map aX AX.1))),(6,.sv (slc 1 (List.map aX AX.2)))] [(4,⟨24,[aj false,.sv (nw N ax)]⟩)] []) (wR []) (λAX Z7 Z8 h LA LB=>?_);obtain⟨sK,xz⟩:=AX
 try dsimp only
 refine qq<|qq ?_;refine bF h (λj16=>AS.dR 57 [(4,.ptr 4 0),(5,.sv (slc 1 (List.map aX sK))),(6,.sv (slc 1 (List.map aX xz))),(29,aj j16)] [(4,⟨24,[aj false,.sv (nw N ax)]⟩)] []) (λh=>?_) (λA4 h=>?_);refine aZ<|mv Y<|lE h λfJ jK h=>ln Y jK<|lE h λmc oO h=>gt _ Y Y oO<|mv Y<|bE h λEs n7 h=>?_;cases mc;obtain rfl:=O (F n7);exact ww<|ww<|ww<|ww<|wu<|wu<|wu<|ww<|pF Y<|dn<|⟨false,h,wR []⟩;refine gm Y<|lE (V n7) λjC sL n7=>gn Y sL<|lE n7 λkp qX n7=>gg _ Y Y qX<|gm Y<|bE n7 λEr rj n7=>?_;cases kp;refine gm Y<|lE (F rj) λiY qC rj=>gn Y qC<|lE rj λnW vu rj=>gg _ Y Y vu ?_;obtain rfl:=O rj;refine gF Y ?_;obtain rfl:=O n7;exact pT Y<|dn<|⟨nW,h,wR []⟩;obtain rfl:=O (V rj);refine ww<|ww<|ww<|gT Y ?_;obtain rfl:=O n7;exact pT Y<|dn<|⟨true,h,wR []⟩
 try dsimp only
 refine aV.n ?_;cases A4;refine cF<|cQ<|aV.x<|aV.x<|bG.x<|aV.n ?_;obtain rfl:=O (F h);exact⟨(sK,xz),LB _ Y,wR []⟩;refine cT<|bH<|aV.n<|bn<|sr<|mv Y<|mv Y ?_;obtain⟨⟨Vy,Ov⟩,rU,h⟩:=bS (V h);refine RT.bu .none (ku N rU) hN Y ⟨Y,Y,aq⟩ T<|mv Y<|ex Y Y<|ex Y Y<|ag Y<|ag Y<|dn<|aZ<|mv Y<|mv Y<|bE h λtg CT h=>RT.bu .none (kG N CT) hN Y ⟨Y,aq⟩ T<|ag Y<|ag Y<|RT.done<|bG.n ?_;obtain rfl:=O h;exact aV.n ⟨(xz,tg),LA _ Y,iO id Y Y Y Y Y ⟨.ptr,.sv au,.sv dD,aq⟩ ⟨⟨_,Y,⟨.sv au,.sv au,aq⟩⟩,aq⟩ trivial (λ_ _=>Y)⟩;subst Lz;obtain⟨Et,Eu⟩:=rf
 try dsimp only
 refine aV.n<|qq<|sr<|mv Y<|lE kX λnJ qB kX=>ln Y qB<|lE kX λvH CV kX=>eq _ Y Y (qz (p:=nJ) (q:=0) CV)<|dn ?_;cases vH;refine fs<|sr<|mv Y<|bE (F kX) λuD h46 kX=>cl (ff h46) ⟨Y,aq⟩<|mv Y<|bE kX λvr h48 kX=>cl (ff h48) ⟨Y,aq⟩<|ag Y<|ag Y<|dn<|qq<|bE kX λe24 WN LG=>?_;refine cE (λ(wv:Nat)=>AS.dR 57 [(4,.ptr 4 0),(9,.sv (.v (.int .u64 ((wv:Nat):Int))))] [(4,⟨24,[aj false,.sv (nw N ax)]⟩)] []) (λwv=>wv=e24) ?_ (λwv WO=>?_);refine bn ?_;refine cG WN (λMX=>AS.dR 57 [(4,.ptr 4 0),(9,.sv (.v (.int .u64 ((MX.1:Nat):Int)))),(10,.sv (.v (.int .u64 ((MX.2:Nat):Int))))] [(4,⟨24,[aj false,.sv (nw N ax)]⟩)] []) (wR []) (λMX y24 G24 h WQ WR=>?_);obtain⟨BY,qV⟩:=MX
 try dsimp only
 refine qq<|sr<|mv Y<|lE h λtj CW h=>gt _ Y Y (MQ (p:=0) (q:=qV) CW)<|dn ?_;cases tj;refine cF<|cQ<|aV.x<|aV.x<|bG.x<|aV.n ?_;obtain rfl:=O (F h);exact⟨BY,WR _ Y,wR []⟩;refine cT<|bH<|aV.n<|bn<|bf mixed<|mv Y<|mv Y<|mv Y<|bE (V h) λGf MY h=>RT.rem .none _ Y Y T (Sv MY) (GI MY)<|ag Y<|ag Y ?_;refine RT.done ⟨by kernel_rfl,?_⟩;refine bG.n ?_;obtain rfl:=O h;exact aV.n ⟨(qV,Gf),WQ _ Y,wR []⟩;subst WO
 try dsimp only
 refine aV.n<|sr<|mv Y ?_;obtain⟨⟨IK,IL⟩,Lx,LG⟩:=bS LG;refine RT.bu .none (fT N Lx) hN Y ⟨Y,Y,aq⟩ T<|so Y Y Y<|dn<|bh ?_;obtain rfl:=O LG;exact RZ (.agg Y Y (.k2 Y Y) Y (.nil));refine cT<|sr<|mv Y<|bE (V kX) λyp Gg kX=>RT.bu .none (gA N Gg) hN Y ⟨Y,aq⟩ T ?_;obtain⟨⟨II,IJ⟩,He,kX⟩:=bS kX;refine RT.bu .none (cX N He) hN Y ⟨Y,Y,aq⟩ T<|so Y Y Y<|dn<|bh<|aV.r ?_;obtain rfl:=O kX;exact RZ (.agg Y Y (.k2 Y Y) Y (.nil))
end
section
open Go.Fw
noncomputable def eJ(x0:Zr)(x1:Zr)(x2:Zr)(x3:Zr):Option (Zr×Zr):=match x0 with|⟨bD,bB⟩=>match x1 with|⟨cq,b9⟩=>match x2 with|⟨uI,uJ⟩=>match x3 with|⟨A9,Ba⟩=>(cO ⟨bD,bB⟩ ⟨A9,Ba⟩).bind λ⟨jM,jN⟩=>(cO ⟨uI,uJ⟩ ⟨cq,b9⟩).bind λ⟨iS,iT⟩=>(c9 ⟨jM,jN⟩ ⟨iS,iT⟩).bind λ⟨mN,mO⟩=>(cO ⟨cq,b9⟩ ⟨A9,Ba⟩).bind λ⟨rV,rW⟩=>some (⟨mN,mO⟩,⟨rV,rW⟩)
noncomputable def eK(x0:Zr)(x1:Zr)(x2:Zr)(x3:Zr):Option (Zr×Zr):=match x0 with|⟨bD,bB⟩=>match x1 with|⟨cq,b9⟩=>match x2 with|⟨uI,uJ⟩=>match x3 with|⟨A9,Ba⟩=>(cO ⟨bD,bB⟩ ⟨A9,Ba⟩).bind λ⟨jM,jN⟩=>(cO ⟨uI,uJ⟩ ⟨cq,b9⟩).bind λ⟨iS,iT⟩=>(fR ⟨jM,jN⟩ ⟨iS,iT⟩).bind λ⟨mN,mO⟩=>(cO ⟨cq,b9⟩ ⟨A9,Ba⟩).bind λ⟨rV,rW⟩=>some (⟨mN,mO⟩,⟨rV,rW⟩)
noncomputable def cr(x0:Qr):Option (Zr×Zr):=match x0 with|⟨⟨bD,bB⟩,⟨dr,dH⟩⟩=>(bZ ⟨dr,dH⟩).bind λx6=>(some (decide ((x6:Int)=0))).bind λx8=>(bif x8 then(bp 1).bind λ⟨kY,zh⟩=>some (⟨bD,bB⟩,⟨kY,zh⟩)else(some (decide ((x6:Int)=(-1)))).bind λkF=>(bif kF then(dG ⟨bD,bB⟩).bind λ⟨mN,mO⟩=>(dG ⟨dr,dH⟩).bind λ⟨rV,rW⟩=>some (⟨mN,mO⟩,⟨rV,rW⟩)else some (⟨bD,bB⟩,⟨dr,dH⟩)))
noncomputable def ef(x0:Zr)(x1:Zr):Option (Qr):=match x0 with|⟨bD,bB⟩=>match x1 with|⟨cq,b9⟩=>(bZ ⟨cq,b9⟩).bind λx9=>(some (decide ((x9:Int)<0))).bind λiL=>cW (λ(j2:Bool×(List Nat)×Bool×(List Nat))=>match j2 with|⟨Bb,Bc,Bd,Be⟩=>(gR ⟨Bd,Be⟩ ⟨Bb,Bc⟩).bind λ⟨mX,mY⟩=>(bT ⟨Bd,Be⟩ ⟨mX,mY⟩).bind λ⟨⟨uK,uL⟩,⟨LH,LI⟩,WS⟩=>(bT ⟨Bb,Bc⟩ ⟨mX,mY⟩).bind λ⟨⟨rm,rq⟩,⟨LJ,LK⟩,WT⟩=>(cz ⟨rm,rq⟩).bind λ⟨LL,LM⟩=>cW (λ(EA:Bool)=>cW (λ(j7:Bool×(List Nat))=>match j7 with|⟨Bf,Bg⟩=>some ⟨⟨uK,uL⟩,⟨Bf,Bg⟩⟩) λK7=>(bif EA then K7 (false,[])else K7 (rm,rq))) λK5=>(bif LM then(some (decide ((LL:Int)=1))).bind λnJ=>some nJ else some false).bind λIM=>K5 IM) λK2=>(bif iL then(dG ⟨bD,bB⟩).bind λ⟨jM,jN⟩=>(dG ⟨cq,b9⟩).bind λ⟨EB,EC⟩=>K2 (EB,EC,jM,jN)else K2 (cq,b9,bD,bB))
noncomputable def dA(x0:Qr):Option (Int×Int×Bool):=match x0 with|⟨⟨bD,bB⟩,⟨dr,dH⟩⟩=>(cz ⟨bD,bB⟩).bind λ⟨xI,Hf⟩=>(cz ⟨dr,dH⟩).bind λ⟨vN,OK⟩=>cW (λ(Bh:Bool)=>(bif Bh then some (0,0,false)else(some (decide ((vN:Int)=0))).bind λyp=>cW (λ(MZ:Int×Int)=>match MZ with|⟨IN,IP⟩=>some (IN,IP,true)) λYZ=>(bif yp then YZ (xI,1)else(some (decide ((vN:Int)<0))).bind λuD=>cW (λ(M1:Int×Int)=>match M1 with|⟨ED,EE⟩=>YZ (ED,EE)) λY0=>(bif uD then(some (IntKind.i64.wrap (0-xI))).bind λvr=>(some (IntKind.i64.wrap (0-vN))).bind λtj=>Y0 (vr,tj)else Y0 (xI,vN))))) λK21=>(some (!Hf)).bind λjm=>(bif jm then some true else(some (!OK)).bind λkp=>some kp).bind λEF=>(bif EF then some true else(some (decide ((xI:Int)<=(-2147483648)))).bind λnW=>some nW).bind λLN=>(bif LN then some true else(some (decide ((2147483648:Int)<=xI))).bind λnV=>some nV).bind λLO=>(bif LO then some true else(some (decide ((vN:Int)<=(-2147483648)))).bind λpL=>some pL).bind λLP=>(bif LP then some true else(some (decide ((2147483648:Int)<=vN))).bind λqA=>some qA).bind λLQ=>K21 LQ
noncomputable def fj(x0:Int)(x1:Int):Option (Qr):=(c5 (λ(s6:Int×Int)=>match s6 with|⟨sJ,CZ⟩=>(show Option ((Int×Int)⊕(Int))from(some (decide ((CZ:Int)≠0))).bind λiL=>(bif iL then(CK sJ CZ).bind λkO=>some (.inl (CZ,kO))else some (.inr sJ)))) (x0,x1)).bind λxJ=>(some (decide ((xJ:Int)<0))).bind λjD=>cW (λ(C0:Int)=>(some (decide ((C0:Int)=x1))).bind λkP=>(bif kP then(pG x0 C0).bind λfo=>(bp fo).bind λ⟨jG,jH⟩=>some ⟨⟨jG,jH⟩,⟨false,[]⟩⟩else(pG x0 C0).bind λg9=>(bp g9).bind λ⟨pR,pS⟩=>(pG x1 C0).bind λmq=>(bp mq).bind λ⟨wz,rX⟩=>some ⟨⟨pR,pS⟩,⟨wz,rX⟩⟩)) λK8=>(bif jD then(some (IntKind.i64.wrap (0-xJ))).bind λfJ=>K8 fJ else K8 xJ)
noncomputable def kx(x0:Int):Option (Int):=(some (decide ((x0:Int)<0))).bind λx5=>(bif x5 then some (-1)else(some (decide ((0:Int)<x0))).bind λx8=>(bif x8 then some 1 else some 0))
noncomputable def iM(x0:Zr):Option (Zr):=match x0 with|⟨bD,bB⟩=>(c9 ⟨bD,bB⟩ ⟨false,[]⟩).bind λ⟨xK,xL⟩=>some ⟨xK,xL⟩
noncomputable def fU(x1:Qr)(x2:Qr):Option (Qr):=match x1 with|⟨⟨cq,b9⟩,⟨iy,iz⟩⟩=>match x2 with|⟨⟨uI,uJ⟩,⟨EG,EH⟩⟩=>(cr ⟨⟨cq,b9⟩,⟨iy,iz⟩⟩).bind λ⟨⟨kH,kI⟩,⟨lO,lP⟩⟩=>(cr ⟨⟨uI,uJ⟩,⟨EG,EH⟩⟩).bind λ⟨⟨kJ,kK⟩,⟨lQ,lS⟩⟩=>(eJ ⟨kH,kI⟩ ⟨lO,lP⟩ ⟨kJ,kK⟩ ⟨lQ,lS⟩).bind λ⟨⟨oS,oT⟩,⟨oU,oV⟩⟩=>(ef ⟨oS,oT⟩ ⟨oU,oV⟩).bind λ⟨⟨iQ,iA⟩,⟨mZ,m7⟩⟩=>some ⟨⟨iQ,iA⟩,⟨mZ,m7⟩⟩
noncomputable def fV(x1:Qr)(x2:Qr):Option (Qr):=match x1 with|⟨⟨cq,b9⟩,⟨iy,iz⟩⟩=>match x2 with|⟨⟨uI,uJ⟩,⟨EG,EH⟩⟩=>(cr ⟨⟨cq,b9⟩,⟨iy,iz⟩⟩).bind λ⟨⟨kH,kI⟩,⟨lO,lP⟩⟩=>(cr ⟨⟨uI,uJ⟩,⟨EG,EH⟩⟩).bind λ⟨⟨kJ,kK⟩,⟨lQ,lS⟩⟩=>(eK ⟨kH,kI⟩ ⟨lO,lP⟩ ⟨kJ,kK⟩ ⟨lQ,lS⟩).bind λ⟨⟨oS,oT⟩,⟨oU,oV⟩⟩=>(ef ⟨oS,oT⟩ ⟨oU,oV⟩).bind λ⟨⟨iQ,iA⟩,⟨mZ,m7⟩⟩=>some ⟨⟨iQ,iA⟩,⟨mZ,m7⟩⟩
noncomputable def gG(x0:Int)(x1:Int):Option (Qr×Int):=(some (decide ((x1:Int)=0))).bind λx7=>(bif x7 then some (⟨⟨false,[]⟩,⟨false,[]⟩⟩,7)else(bp x0).bind λ⟨wm,wo⟩=>(bp x1).bind λ⟨jM,jN⟩=>(ef ⟨wm,wo⟩ ⟨jM,jN⟩).bind λ⟨⟨yZ,y4⟩,⟨IQ,IS⟩⟩=>some (⟨⟨yZ,y4⟩,⟨IQ,IS⟩⟩,0))
noncomputable def b7(x0:Zr):Option (Qr):=match x0 with|⟨bD,bB⟩=>(iM ⟨bD,bB⟩).bind λ⟨C1,C2⟩=>some ⟨⟨C1,C2⟩,⟨false,[]⟩⟩
noncomputable def dw(x0:Qr):Option (Qr):=match x0 with|⟨⟨bD,bB⟩,⟨dr,dH⟩⟩=>(dA ⟨⟨bD,bB⟩,⟨dr,dH⟩⟩).bind λ⟨Y1,Y2,WU⟩=>(bif WU then(fj Y1 Y2).bind λ⟨⟨iS,iT⟩,⟨IT,IU⟩⟩=>some ⟨⟨iS,iT⟩,⟨IT,IU⟩⟩else(cr ⟨⟨bD,bB⟩,⟨dr,dH⟩⟩).bind λ⟨⟨EI,EJ⟩,⟨EK,EM⟩⟩=>(ef ⟨EI,EJ⟩ ⟨EK,EM⟩).bind λ⟨⟨uM,qe⟩,⟨uN,rY⟩⟩=>some ⟨⟨uM,qe⟩,⟨uN,rY⟩⟩)
noncomputable def gH(x0:Qr)(x1:Qr):Option (Qr):=match x0 with|⟨⟨bD,bB⟩,⟨dr,dH⟩⟩=>match x1 with|⟨⟨cq,b9⟩,⟨iy,iz⟩⟩=>(dA ⟨⟨bD,bB⟩,⟨dr,dH⟩⟩).bind λ⟨Bi,xM,Bj⟩=>(dA ⟨⟨cq,b9⟩,⟨iy,iz⟩⟩).bind λ⟨Bk,xN,Bl⟩=>cW (λ(uO:Bool)=>(bif uO then(some (IntKind.i64.wrap (Bi*xN))).bind λg9=>(some (IntKind.i64.wrap (Bk*xM))).bind λjE=>(some (IntKind.i64.wrap (g9+jE))).bind λmq=>(some (IntKind.i64.wrap (xM*xN))).bind λvK=>(fj mq vK).bind λ⟨⟨m8,m9⟩,⟨zj,zk⟩⟩=>some ⟨⟨m8,m9⟩,⟨zj,zk⟩⟩else(fU ⟨⟨bD,bB⟩,⟨dr,dH⟩⟩ ⟨⟨cq,b9⟩,⟨iy,iz⟩⟩).bind λ⟨⟨jI,jJ⟩,⟨rZ,r5⟩⟩=>some ⟨⟨jI,jJ⟩,⟨rZ,r5⟩⟩)) λK3=>(bif Bj then some Bl else some false).bind λzm=>K3 zm
noncomputable def gI(x0:Qr)(x1:Qr):Option (Qr):=match x0 with|⟨⟨bD,bB⟩,⟨dr,dH⟩⟩=>match x1 with|⟨⟨cq,b9⟩,⟨iy,iz⟩⟩=>(dA ⟨⟨bD,bB⟩,⟨dr,dH⟩⟩).bind λ⟨Bi,xM,Bj⟩=>(dA ⟨⟨cq,b9⟩,⟨iy,iz⟩⟩).bind λ⟨Bk,xN,Bl⟩=>cW (λ(uO:Bool)=>(bif uO then(some (IntKind.i64.wrap (Bi*xN))).bind λg9=>(some (IntKind.i64.wrap (Bk*xM))).bind λjE=>(some (IntKind.i64.wrap (g9-jE))).bind λmq=>(some (IntKind.i64.wrap (xM*xN))).bind λvK=>(fj mq vK).bind λ⟨⟨m8,m9⟩,⟨zj,zk⟩⟩=>some ⟨⟨m8,m9⟩,⟨zj,zk⟩⟩else(fV ⟨⟨bD,bB⟩,⟨dr,dH⟩⟩ ⟨⟨cq,b9⟩,⟨iy,iz⟩⟩).bind λ⟨⟨jI,jJ⟩,⟨rZ,r5⟩⟩=>some ⟨⟨jI,jJ⟩,⟨rZ,r5⟩⟩)) λK3=>(bif Bj then some Bl else some false).bind λzm=>K3 zm
noncomputable def gJ(x0:Qr):Option (Qr):=match x0 with|⟨⟨bD,bB⟩,⟨dr,dH⟩⟩=>(dw ⟨⟨bD,bB⟩,⟨dr,dH⟩⟩).bind λ⟨⟨xK,xL⟩,⟨Bm,Bn⟩⟩=>(dG ⟨xK,xL⟩).bind λ⟨Bo,Bp⟩=>some ⟨⟨Bo,Bp⟩,⟨Bm,Bn⟩⟩
noncomputable def jO(x0:Qr):Option (Qr):=match x0 with|⟨⟨bD,bB⟩,⟨dr,dH⟩⟩=>(dw ⟨⟨bD,bB⟩,⟨dr,dH⟩⟩).bind λ⟨⟨xK,xL⟩,⟨Bm,Bn⟩⟩=>(gQ ⟨xK,xL⟩).bind λ⟨Bo,Bp⟩=>some ⟨⟨Bo,Bp⟩,⟨Bm,Bn⟩⟩
noncomputable def fW(x0:Qr)(x1:Qr):Option (Int):=match x0 with|⟨⟨bD,bB⟩,⟨dr,dH⟩⟩=>match x1 with|⟨⟨cq,b9⟩,⟨iy,iz⟩⟩=>(cr ⟨⟨bD,bB⟩,⟨dr,dH⟩⟩).bind λ⟨⟨kH,kI⟩,⟨lO,lP⟩⟩=>(cr ⟨⟨cq,b9⟩,⟨iy,iz⟩⟩).bind λ⟨⟨kJ,kK⟩,⟨lQ,lS⟩⟩=>(bZ ⟨kH,kI⟩).bind λjC=>(bZ ⟨kJ,kK⟩).bind λfo=>cW (λ(EN:Bool)=>(bif EN then(some (IntKind.i64.wrap (jC-fo))).bind λmL=>(kx mL).bind λpL=>some pL else(cO ⟨kH,kI⟩ ⟨lQ,lS⟩).bind λ⟨IV,IW⟩=>(cO ⟨kJ,kK⟩ ⟨lO,lP⟩).bind λ⟨zo,zq⟩=>(fS ⟨IV,IW⟩ ⟨zo,zq⟩).bind λot=>some ot)) λK3=>(some (decide ((jC:Int)≠fo))).bind λnW=>(bif nW then some true else(some (decide ((jC:Int)=0))).bind λuB=>some uB).bind λIX=>K3 IX
noncomputable def ia(x0:Qr):Option (Zr):=match x0 with|⟨⟨bD,bB⟩,⟨dr,dH⟩⟩=>(cr ⟨⟨bD,bB⟩,⟨dr,dH⟩⟩).bind λ⟨⟨IY,IZ⟩,⟨I0,I1⟩⟩=>(bT ⟨IY,IZ⟩ ⟨I0,I1⟩).bind λ⟨⟨uP,uQ⟩,⟨LR,LS⟩,WV⟩=>some ⟨uP,uQ⟩
end
section
open Go.Fw Go.Fw.Z Go.RowKit
abbrev EO:List (Value×Value):=[(.int .u8 43,.agg #[.func (.func 105) #[] #[]]),(.int .u8 45,.agg #[.func (.func 106) #[] #[]]),(.int .u8 42,.agg #[.func (.func 107) #[] #[]]),(.int .u8 47,.agg #[.func (.func 108) #[] #[]])]
theorem jP:Pure ah 88 [] (D8 EO):=by
 refine bN Try.func88 Y (af Y) (λga M vs hvs=>?_);refine cg<|aZ<|RT.AG .none Y T<|RT.done<|aV.n<|cg<|GO (af Y) Y Y Y (λS' h0=>?_);exact bh (R1 h0)
theorem nc{x0:Zr}{x1:Zr}{x2:Zr}{x3:Zr}(N:Nat){r:Zr×Zr}(h:eJ x0 x1 x2 x3=some r):c6 ah 105 N [.agg (eZ x0),.agg (eZ x1),.agg (eZ x2),.agg (eZ x3)] (.rH [.agg ((fZ N) r.1),.agg ((fZ N) r.2)]):=by
 obtain⟨bD,bB⟩:=x0;obtain⟨cq,b9⟩:=x1;obtain⟨uI,uJ⟩:=x2;obtain⟨A9,Ba⟩:=x3;refine bt Try.func105 Y (af Y) (λga M vs hN hvs=>?_);unfold eJ at h;refine sr<|bx Y<|bx Y<|bx Y<|bx Y<|al (cs:=[az false,nw N ax]) (by exact⟨au,bk,aq⟩) Y<|al (cs:=[az false,nw N ax]) (by exact⟨au,bk,aq⟩) Y<|dn<|qq<|bf mixed<|ld Y Y (.k2 Y Y)<|ld Y Y (.k2 Y Y) ?_;obtain⟨⟨jM,jN⟩,kW,h⟩:=bS h;refine RT.bu .none (fg N kW) hN Y ⟨Y,Y,aq⟩ T<|ld Y Y (.k2 Y Y)<|ld Y Y (.k2 Y Y) ?_;obtain⟨⟨iS,iT⟩,pU,h⟩:=bS h;refine RT.bu .none (fg N pU) hN Y ⟨Y,Y,aq⟩ T ?_;obtain⟨⟨mN,mO⟩,nZ,h⟩:=bS h;refine RT.bu .none ((lM N nZ).w (args':=[_,_]) ⟨(SV.cm (show dO [az jM,nw N (slc 1 (List.map aX jN))] _ from⟨au,dD,aq⟩)),(SV.cm (show dO [az iS,nw N (slc 1 (List.map aX iT))] _ from⟨au,dD,aq⟩)),aq⟩) hN Y ⟨Y,Y,aq⟩ T<|ld Y Y (.k2 Y Y)<|ld Y Y (.k2 Y Y) ?_;obtain⟨⟨rV,rW⟩,oO,h⟩:=bS h;refine RT.bu .none (fg N oO) hN Y ⟨Y,Y,aq⟩ T<|so Y Y Y<|so Y Y Y ?_;refine RT.done ⟨by kernel_rfl,?_⟩;refine aV.n<|bh ?_;obtain rfl:=O h;exact RZ (.agg Y Y (.k2 Y Y) Y (.agg Y Y (.k2 Y Y) Y (.nil)))
theorem nf{x0:Zr}{x1:Zr}{x2:Zr}{x3:Zr}(N:Nat){r:Zr×Zr}(h:eK x0 x1 x2 x3=some r):c6 ah 106 N [.agg (eZ x0),.agg (eZ x1),.agg (eZ x2),.agg (eZ x3)] (.rH [.agg ((fZ N) r.1),.agg ((fZ N) r.2)]):=by
 obtain⟨bD,bB⟩:=x0;obtain⟨cq,b9⟩:=x1;obtain⟨uI,uJ⟩:=x2;obtain⟨A9,Ba⟩:=x3;refine bt Try.func106 Y (af Y) (λga M vs hN hvs=>?_);unfold eK at h;refine sr<|bx Y<|bx Y<|bx Y<|bx Y<|al (cs:=[az false,nw N ax]) (by exact⟨au,bk,aq⟩) Y<|al (cs:=[az false,nw N ax]) (by exact⟨au,bk,aq⟩) Y<|dn<|qq<|bf mixed<|ld Y Y (.k2 Y Y)<|ld Y Y (.k2 Y Y) ?_;obtain⟨⟨jM,jN⟩,kW,h⟩:=bS h;refine RT.bu .none (fg N kW) hN Y ⟨Y,Y,aq⟩ T<|ld Y Y (.k2 Y Y)<|ld Y Y (.k2 Y Y) ?_;obtain⟨⟨iS,iT⟩,pU,h⟩:=bS h;refine RT.bu .none (fg N pU) hN Y ⟨Y,Y,aq⟩ T ?_;obtain⟨⟨mN,mO⟩,nZ,h⟩:=bS h;refine RT.bu .none ((qa N nZ).w (args':=[_,_]) ⟨(SV.cm (show dO [az jM,nw N (slc 1 (List.map aX jN))] _ from⟨au,dD,aq⟩)),(SV.cm (show dO [az iS,nw N (slc 1 (List.map aX iT))] _ from⟨au,dD,aq⟩)),aq⟩) hN Y ⟨Y,Y,aq⟩ T<|ld Y Y (.k2 Y Y)<|ld Y Y (.k2 Y Y) ?_;obtain⟨⟨rV,rW⟩,oO,h⟩:=bS h;refine RT.bu .none (fg N oO) hN Y ⟨Y,Y,aq⟩ T<|so Y Y Y<|so Y Y Y ?_;refine RT.done ⟨by kernel_rfl,?_⟩;refine aV.n<|bh ?_;obtain rfl:=O h;exact RZ (.agg Y Y (.k2 Y Y) Y (.agg Y Y (.k2 Y Y) Y (.nil)))
theorem ei{x0:Qr}{r:Zr×Zr}(h:cr x0=some r):Pure ah 65 [.agg (eQ x0)] (.rH [.agg (eZ r.1),.agg (eZ r.2)]):=by
 obtain⟨⟨bD,bB⟩,⟨dr,dH⟩⟩:=x0;refine bN Try.func65 Y (af Y) (λga M vs hvs=>?_);unfold cr at h;refine sr<|bx Y<|al (cs:=[az false,ax]) (by exact⟨au,aB,aq⟩) Y<|al (cs:=[az false,ax]) (by exact⟨au,aB,aq⟩) Y<|dn<|qq<|sr<|fa Y Y<|ld Y Y (.k2 Y Y)<|bE h λx6 h6 h=>cl (ee h6) ⟨Y,aq⟩<|dn<|bn<|sr<|lE h λx8 h8 h=>eq _ Y Y (qz (p:=x6) (q:=0) h8) ?_;refine ag Y<|dn ?_;cases x8;refine cF<|sr<|lE (F h) λkF me h=>eq _ Y Y (qz (p:=x6) (q:=(-1)) me)<|ag Y<|dn ?_;cases kF;refine cF<|bH<|bG.n<|aV.n<|qq<|bf mixed<|fa Y Y<|ld Y Y (.k2 Y Y)<|fa Y Y<|ld Y Y (.k2 Y Y)<|so Y Y Y<|so Y Y Y ?_;refine RT.done ⟨by kernel_rfl,?_⟩;refine aV.n<|bh ?_;obtain rfl:=O (F h);exact RZ (.agg Y Y (.k2 Y Y) Y (.agg Y Y (.k2 Y Y) Y (.nil)));refine cT<|qq<|bf mixed<|fa Y Y<|ld Y Y (.k2 Y Y) ?_;obtain⟨⟨mN,mO⟩,nZ,h⟩:=bS (V h);refine cl (lN nZ) ⟨Y,aq⟩<|fa Y Y<|ld Y Y (.k2 Y Y) ?_;obtain⟨⟨rV,rW⟩,oO,h⟩:=bS h;refine cl (lN oO) ⟨Y,aq⟩<|so Y Y Y<|so Y Y Y ?_;refine RT.done ⟨by kernel_rfl,?_⟩;refine aV.n<|bh<|bG.r<|aV.r ?_;obtain rfl:=O h;exact RZ (.agg Y Y (.k2 Y Y) Y (.agg Y Y (.k2 Y Y) Y (.nil)));refine cT<|qq<|bf mixed<|fa Y Y<|ld Y Y (.k2 Y Y) ?_;obtain⟨⟨kY,zh⟩,qW,h⟩:=bS (V h);refine cl (dm qW) ⟨Y,aq⟩<|so Y Y Y<|so Y Y Y ?_
 refine RT.done ⟨by kernel_rfl,?_⟩;refine aV.n<|bh<|bG.r<|aV.r ?_;obtain rfl:=O h;exact RZ (.agg Y Y (.k2 Y Y) Y (.agg Y Y (.k2 Y Y) Y (.nil)))
theorem ic{x0:Zr}{x1:Zr}(N:Nat){r:Qr}(h:ef x0 x1=some r):c6 ah 73 N [.agg (eZ x0),.agg (eZ x1)] (.agg ((fQ N) r)):=by
 obtain⟨bD,bB⟩:=x0;obtain⟨cq,b9⟩:=x1;refine bt Try.func73 Y (af Y) (λga M vs hN hvs=>?_);unfold ef at h;refine sr<|bx Y<|bx Y<|al (cs:=[az false,nw N ax,az false,nw N ax]) (by exact⟨au,bk,au,bk,aq⟩) Y<|dn<|qq<|sr<|ld Y Y (.k2 Y Y)<|bE h λx9 h9 h=>cl (ee h9) ⟨Y,aq⟩<|lE h λiL jy h=>ls _ Y Y jy<|dn ?_;refine bF h (λj2=>AS.dR 46 [(2,.ptr 2 0),(3,.ptr 3 0),(4,.ptr 4 0)] [(4,⟨26,[aj false,.sv (nw N ax),aj false,.sv (nw N ax)]⟩),(3,⟨24,[aj j2.1,.sv (slc 1 (List.map aX j2.2.1))]⟩),(2,⟨24,[aj j2.2.2.1,.sv (slc 1 (List.map aX j2.2.2.2))]⟩)] []) (λh=>?_) (λj2 h=>?_);cases iL;exact fs<|⟨(cq,b9,bD,bB),(F h),wR []⟩;refine cT<|bf mixed<|ld Y Y (.k2 Y Y) ?_;obtain⟨⟨jM,jN⟩,kW,h⟩:=bS (V h);refine RT.bu .none (jq N kW) hN Y ⟨Y,aq⟩ T<|ld Y Y (.k2 Y Y) ?_;obtain⟨⟨EB,EC⟩,rT,h⟩:=bS h;refine RT.bu .none (jq N rT) hN Y ⟨Y,aq⟩ T<|so Y Y Y<|so Y Y Y ?_;refine RT.done ⟨by kernel_rfl,?_⟩;exact aV.n<|⟨(EB,EC,jM,jN),h,iO id Y Y Y Y Y ⟨.ptr,.ptr,.ptr,aq⟩ ⟨⟨_,Y,⟨.sv au,.sv au,.sv au,.sv au,aq⟩⟩,⟨_,Y,⟨.sv au,.sv dD,aq⟩⟩,⟨_,Y,⟨.sv au,.sv dD,aq⟩⟩,aq⟩ trivial (λ_ _=>Y)⟩;obtain⟨Bb,Bc,Bd,Be⟩:=j2
 try dsimp only
 refine aV.n<|sr<|ld Y Y (.k2 Y Y)<|ld Y Y (.k2 Y Y) ?_;obtain⟨⟨mX,mY⟩,mU,h⟩:=bS h;refine RT.bu .none (xH N mU) hN Y ⟨Y,Y,aq⟩ T<|al (cs:=[az false,nw N ax]) (by exact⟨au,bk,aq⟩) Y<|so Y Y Y<|dn<|sr<|ld Y Y (.k2 Y Y)<|ld Y Y (.k2 Y Y) ?_;obtain⟨⟨⟨uK,uL⟩,⟨LH,LI⟩,WS⟩,qY,h⟩:=bS h;refine RT.bu .none ((ja N qY).w (args':=[_,_]) ⟨au,(SV.cm (show dO [az mX,nw N (slc 1 (List.map aX mY))] _ from⟨au,dD,aq⟩)),aq⟩) hN Y ⟨Y,Y,aq⟩ T<|mv Y<|ex Y Y<|ex Y Y<|ex Y Y<|so Y Y Y<|dn<|sr<|ld Y Y (.k2 Y Y)<|ld Y Y (.k2 Y Y) ?_;obtain⟨⟨⟨rm,rq⟩,⟨LJ,LK⟩,WT⟩,uH,h⟩:=bS h;refine RT.bu .none ((ja N uH).w (args':=[_,_]) ⟨au,(SV.cm (show dO [az mX,nw N (slc 1 (List.map aX mY))] _ from⟨au,dD,aq⟩)),aq⟩) hN Y ⟨Y,Y,aq⟩ T<|mv Y<|ex Y Y<|ex Y Y<|ex Y Y<|so Y Y Y<|dn<|qq<|sr<|ld Y Y (.k2 Y Y) ?_;obtain⟨⟨LL,LM⟩,pW,h⟩:=bS h;refine cl ((eu pW).w (args':=[_]) ⟨(SV.cm (show dO [az rm,nw N (slc 1 (List.map aX rq))] _ from⟨au,dD,aq⟩)),aq⟩) ⟨Y,aq⟩<|mv Y<|ex Y Y<|ex Y Y<|ag Y<|ag Y<|dn<|qq ?_
 refine bF h (λj5=>AS.dR 46 [(2,.ptr 2 0),(3,.ptr 3 0),(4,.ptr 4 0),(41,aj j5)] [(4,⟨26,[aj false,.sv (nw N ax),aj false,.sv (nw N ax)]⟩),(3,⟨24,[aj rm,.sv (nw N (slc 1 (List.map aX rq)))]⟩),(2,⟨24,[aj uK,.sv (nw N (slc 1 (List.map aX uL)))]⟩)] []) (λh=>?_) (λEA h=>?_);refine aZ<|mv Y<|mv Y<|bE h λIM Hg h=>?_;cases LM;obtain rfl:=O (F Hg);exact ww<|ww<|pF Y<|dn<|⟨false,h,wR []⟩;refine gm Y<|lE (V Hg) λnJ qB Hg=>BW _ Y Y (qz (p:=LL) (q:=1) qB) ?_;obtain rfl:=O Hg;exact pT Y<|dn<|⟨nJ,h,wR []⟩
 try dsimp only
 refine aV.n ?_;refine bF h (λj7=>AS.dR 46 [(2,.ptr 2 0),(3,.ptr 3 0),(4,.ptr 4 0)] [(4,⟨26,[aj false,.sv (nw N ax),aj false,.sv (nw N ax)]⟩),(3,⟨24,[aj j7.1,.sv (nw N (slc 1 (List.map aX j7.2)))]⟩),(2,⟨24,[aj uK,.sv (nw N (slc 1 (List.map aX uL)))]⟩)] []) (λh=>?_) (λj7 h=>?_);cases EA;exact fs<|⟨(rm,rq),(F h),wR []⟩;exact cT<|aZ<|bI (cs:=[_,_]) (cs':=[az false,nw N ax]) (.nil) ⟨au,bk,aq⟩<|so Y Y Y<|dn<|⟨(false,[]),(V h),wR []⟩;obtain⟨Bf,Bg⟩:=j7
 try dsimp only
 refine aV.n<|sr<|ld Y Y (.k2 Y Y)<|ld Y Y (.k2 Y Y)<|bI (cs:=[_,_,_,_]) (cs':=[az uK,nw N (slc 1 (List.map aX uL)),az Bf,nw N (slc 1 (List.map aX Bg))]) (.agg Y (.agg Y (.nil))) ⟨au,au,au,au,aq⟩<|so Y Y Y<|dn<|bh ?_;obtain rfl:=O h;exact RZ (.agg Y Y (.k4 Y Y Y Y) Y (.nil))
theorem gu{x0:Qr}{r:Int×Int×Bool}(h:dA x0=some r):Pure ah 61 [.agg (eQ x0)] (.rH [ay r.1,ay r.2.1,az r.2.2]):=by
 obtain⟨⟨bD,bB⟩,⟨dr,dH⟩⟩:=x0;refine bN Try.func61 Y (af Y) (λga M vs hvs=>?_);unfold dA at h;refine sr<|bx Y<|ag Y<|ag Y<|ag Y<|dn<|sr<|fa Y Y<|ld Y Y (.k2 Y Y) ?_;obtain⟨⟨xI,Hf⟩,jy,h⟩:=bS h;refine cl (eu jy) ⟨Y,aq⟩<|mv Y<|ex Y Y<|ex Y Y<|ag Y<|ag Y<|dn<|sr<|fa Y Y<|ld Y Y (.k2 Y Y) ?_;obtain⟨⟨vN,OK⟩,nZ,h⟩:=bS h;refine cl (eu nZ) ⟨Y,aq⟩<|mv Y<|ex Y Y<|ex Y Y<|ag Y<|ag Y<|dn<|qq<|qq ?_;refine bF h (λj21=>AS.dR 53 [(2,ai xI),(3,ai vN),(40,aj j21)] [] []) (λh=>?_) (λBh h=>?_);refine aZ<|mv Y<|lE h λjm nY h=>nt Y _ nY<|mv Y<|bE h λEF Hh h=>?_;cases jm;refine gm Y<|lE (F Hh) λkp qX Hh=>U6 Y _ qX ?_;obtain rfl:=O Hh;refine pF Y<|mv Y<|bE h λWW Hi h=>?_;cases kp;refine gm Y<|lE (F Hi) λnW vu Hi=>RT.leq (.some Y Y) _ Y Y T vu ?_;obtain rfl:=O Hi;refine pF Y<|mv Y<|bE h λWX Hj h=>?_;cases nW;refine gm Y<|lE (F Hj) λnV yq Hj=>RT.geq (.some Y Y) _ Y Y T yq ?_;obtain rfl:=O Hj;refine pF Y<|mv Y<|bE h λWY Hl h=>?_;cases nV;refine gm Y<|lE (F Hl) λpL A8 Hl=>RT.leq (.some Y Y) _ Y Y T A8 ?_;obtain rfl:=O Hl;refine pF Y<|mv Y<|bE h λWZ Ho h=>?_;cases pL;refine gm Y<|lE (F Ho) λqA Ez Ho=>RT.geq (.some Y Y) _ Y Y T Ez ?_;obtain rfl:=O Ho;exact pF Y<|dn<|⟨qA,h,wR []⟩;obtain rfl:=O (V Ho)
 exact ww<|ww<|pT Y<|dn<|⟨true,h,wR []⟩;obtain rfl:=O (V Hl);refine ww<|ww<|pT Y<|mv Y<|bE h λW0 W2 h=>?_;obtain rfl:=O (V W2);exact ww<|ww<|pT Y<|dn<|⟨true,h,wR []⟩;obtain rfl:=O (V Hj);refine ww<|ww<|pT Y<|mv Y<|bE h λW4 W5 h=>?_;obtain rfl:=O (V W5);refine ww<|ww<|pT Y<|mv Y<|bE h λW6 W7 h=>?_;obtain rfl:=O (V W7);exact ww<|ww<|pT Y<|dn<|⟨true,h,wR []⟩;obtain rfl:=O (V Hi);refine ww<|ww<|pT Y<|mv Y<|bE h λW8 W9 h=>?_;obtain rfl:=O (V W9);refine ww<|ww<|pT Y<|mv Y<|bE h λXa Xb h=>?_;obtain rfl:=O (V Xb);refine ww<|ww<|pT Y<|mv Y<|bE h λXc Xd h=>?_;obtain rfl:=O (V Xd);exact ww<|ww<|pT Y<|dn<|⟨true,h,wR []⟩;obtain rfl:=O (V Hh);refine ww<|ww<|pT Y<|mv Y<|bE h λXe Xf h=>?_;obtain rfl:=O (V Xf);refine ww<|ww<|pT Y<|mv Y<|bE h λXg Xh h=>?_;obtain rfl:=O (V Xh);refine ww<|ww<|pT Y<|mv Y<|bE h λXi Xj h=>?_;obtain rfl:=O (V Xj);refine ww<|ww<|pT Y<|mv Y<|bE h λXk Xl h=>?_;obtain rfl:=O (V Xl);exact ww<|ww<|pT Y<|dn<|⟨true,h,wR []⟩
 try dsimp only
 refine aV.n ?_;cases Bh;refine fs<|qq<|bn<|sr<|mv Y<|lE (F h) λyp Gg h=>eq _ Y Y (qz (p:=vN) (q:=0) Gg)<|ag Y<|dn ?_;refine bF h (λMZ=>AS.dR 53 [(2,ai MZ.1),(3,ai MZ.2)] [] []) (λh=>?_) (λMZ h=>?_);cases yp;refine cF<|sr<|mv Y<|lE (F h) λuD h46 h=>ls _ Y Y h46<|ag Y<|dn ?_;refine bF h (λM1=>AS.dR 53 [(2,ai M1.1),(3,ai M1.2)] [] []) (λh=>?_) (λM1 h=>?_);cases uD;exact fs<|⟨(xI,vN),(F h),wR []⟩;exact cT<|aZ<|mv Y<|lE (V h) λvr h48 h=>RT.neg .none _ Y T h48<|mv Y<|lE h λtj CW h=>RT.neg .none _ Y T CW<|ag Y<|ag Y<|dn<|⟨(vr,tj),h,wR []⟩;obtain⟨ED,EE⟩:=M1
 try dsimp only
 exact aV.n<|⟨(ED,EE),h,wR []⟩;exact cT<|aZ<|ag Y<|dn<|⟨(xI,1),(V h),wR []⟩;obtain⟨IN,IP⟩:=MZ
 try dsimp only
 refine bG.n<|aV.n<|sr<|mv Y<|mv Y<|ag Y<|ag Y<|ag Y<|dn<|bh ?_;obtain rfl:=O h;exact RZ (.tmp Y (.tmp Y (.tmp Y (.nil))));refine cT<|sr<|ag Y<|ag Y<|ag Y<|dn<|bh<|aV.r ?_;obtain rfl:=O (V h);exact RZ (.tmp Y (.tmp Y (.tmp Y (.nil))))
theorem kL{x0:Int}{x1:Int}(N:Nat){r:Qr}(h:fj x0 x1=some r):c6 ah 62 N [ay x0,ay x1] (.agg ((fQ N) r)):=by
 refine bt Try.func62 Y (af Y) (λga M vs hN hvs=>?_);unfold fj at h;refine sr<|al (cs:=[az false,nw N ax,az false,nw N ax]) (by exact⟨au,bk,au,bk,aq⟩) Y<|dn<|sr<|mv Y<|mv Y<|ag Y<|ag Y<|dn<|qq<|bE h λe6 VB pV=>?_;refine cE (λ(xJ:Int)=>AS.dR 36 [(0,ai x0),(1,ai x1),(4,.ptr 4 0),(5,ai xJ)] [(4,⟨26,[aj false,.sv (nw N ax),aj false,.sv (nw N ax)]⟩)] []) (λxJ=>xJ=e6) ?_ (λxJ VD=>?_);refine bn ?_;refine cG VB (λs6=>AS.dR 36 [(0,ai x0),(1,ai x1),(4,.ptr 4 0),(5,ai s6.1),(6,ai s6.2)] [(4,⟨26,[aj false,.sv (nw N ax),aj false,.sv (nw N ax)]⟩)] []) (wR []) (λs6 y6 G6 h VE Ow=>?_);obtain⟨sJ,CZ⟩:=s6
 try dsimp only
 refine qq<|sr<|mv Y<|lE h λiL jy h=>ne _ Y Y (KQ (p:=CZ) (q:=0) jy)<|dn ?_;cases iL;refine cF<|cQ<|aV.x<|aV.x<|bG.x<|aV.n ?_;obtain rfl:=O (F h);exact⟨sJ,Ow _ Y,wR []⟩;refine cT<|bH<|aV.n<|bn<|bf mixed<|mv Y<|mv Y<|mv Y<|bE (V h) λkO rT h=>RT.rem .none _ Y Y T (UO rT) (UP rT)<|ag Y<|ag Y ?_;refine RT.done ⟨by kernel_rfl,?_⟩;refine bG.n ?_;obtain rfl:=O h;exact aV.n ⟨(CZ,kO),VE _ Y,wR []⟩;subst VD
 try dsimp only
 refine aV.n<|qq<|sr<|mv Y<|lE pV λjD nZ pV=>ls _ Y Y nZ<|dn ?_;refine bF pV (λj8=>AS.dR 36 [(0,ai x0),(1,ai x1),(4,.ptr 4 0),(5,ai j8)] [(4,⟨26,[aj false,.sv (nw N ax),aj false,.sv (nw N ax)]⟩)] []) (λpV=>?_) (λC0 pV=>?_);cases jD;exact fs<|⟨xJ,(F pV),wR []⟩;exact cT<|aZ<|mv Y<|lE (V pV) λfJ jK pV=>RT.neg .none _ Y T jK<|ag Y<|dn<|⟨fJ,pV,wR []⟩
 try dsimp only
 refine aV.n<|qq<|sr<|mv Y<|mv Y<|lE pV λkP qY pV=>eq _ Y Y (qz (p:=C0) (q:=x1) qY)<|dn ?_;cases kP;refine fs<|qq<|bf mixed<|mv Y<|mv Y<|bE (F pV) λg9 kQ pV=>RT.quo .none _ Y Y T (UN kQ) (KR kQ) ?_;obtain⟨⟨pR,pS⟩,xB,pV⟩:=bS pV;refine RT.bu .none (cy N xB) hN Y ⟨Y,aq⟩ T<|mv Y<|mv Y<|bE pV λmq rU pV=>RT.quo .none _ Y Y T (UN rU) (KR rU) ?_;obtain⟨⟨wz,rX⟩,pW,pV⟩:=bS pV;refine RT.bu .none (cy N pW) hN Y ⟨Y,aq⟩ T<|bI (cs:=[_,_,_,_]) (cs':=[az pR,nw N (slc 1 (List.map aX pS)),az wz,nw N (slc 1 (List.map aX rX))]) (.agg Y (.agg Y (.nil))) ⟨au,au,au,au,aq⟩<|so Y Y Y ?_;refine RT.done ⟨by kernel_rfl,?_⟩;refine aV.n<|bh ?_;obtain rfl:=O pV;exact RZ (.agg Y Y (.k4 Y Y Y Y) Y (.nil));refine cT<|sr<|mv Y<|mv Y<|bE (V pV) λfo ou pV=>RT.quo .none _ Y Y T (UN ou) (KR ou) ?_;obtain⟨⟨jG,jH⟩,zf,pV⟩:=bS pV;refine RT.bu .none (cy N zf) hN Y ⟨Y,aq⟩ T<|bI (cs:=[_,_,_,_]) (cs':=[az jG,nw N (slc 1 (List.map aX jH)),az false,nw N ax]) (.agg Y (.nil)) ⟨au,au,au,bk,aq⟩<|so Y Y Y<|dn<|bh<|aV.r ?_;obtain rfl:=O pV;exact RZ (.agg Y Y (.k4 Y Y Y Y) Y (.nil))
theorem xO{x0:Int}{r:Int}(h:kx x0=some r):Pure ah 66 [ay x0] (ay r):=by
 refine bN Try.func66 Y (af Y) (λga M vs hvs=>?_);unfold kx at h;refine sr<|ag Y<|dn<|qq<|bn<|sr<|mv Y<|lE h λx5 h5 h=>ls _ Y Y h5<|ag Y<|dn ?_;cases x5;refine cF<|sr<|mv Y<|lE (F h) λx8 h8 h=>gt _ Y Y h8<|ag Y<|dn ?_;cases x8;refine cF<|bH<|bG.n<|aV.n<|sr<|ag Y<|dn<|bh ?_;obtain rfl:=O (F h);exact R1 Y;refine cT<|sr<|ag Y<|dn<|bh<|bG.r<|aV.r ?_;obtain rfl:=O (V h);exact R1 Y;refine cT<|sr<|ag Y<|dn<|bh<|bG.r<|aV.r ?_;obtain rfl:=O (V h);exact R1 Y
theorem uR{x0:Zr}(N:Nat){r:Zr}(h:iM x0=some r):c6 ah 64 N [.agg (eZ x0)] (.agg ((fZ N) r)):=by
 obtain⟨bD,bB⟩:=x0;refine bt Try.func64 Y (af Y) (λga M vs hN hvs=>?_);unfold iM at h;refine sr<|bx Y<|al (cs:=[az false,nw N ax]) (by exact⟨au,bk,aq⟩) Y<|dn<|sr<|ld Y Y (.k2 Y Y)<|bI (cs:=[_,_]) (cs':=[az false,nw N ax]) (.nil) ⟨au,bk,aq⟩ ?_;obtain⟨⟨xK,xL⟩,h5,h⟩:=bS h;refine RT.bu .none ((lM N h5).w (args':=[_,_]) ⟨au,(SV.cm (show dO [az false,nw N ax] _ from⟨au,dD,aq⟩)),aq⟩) hN Y ⟨Y,Y,aq⟩ T<|so Y Y Y<|dn<|bh ?_;obtain rfl:=O h;exact RZ (.agg Y Y (.k2 Y Y) Y (.nil))
theorem sM{x1:Qr}{x2:Qr}(N:Nat){r:Qr}(h:fU x1 x2=some r):c6 ah 63 N [.v (.int .u8 ((43:Nat):Int)),.agg (eQ x1),.agg (eQ x2)] (.agg ((fQ N) r)):=by
 obtain⟨⟨cq,b9⟩,⟨iy,iz⟩⟩:=x1;obtain⟨⟨uI,uJ⟩,⟨EG,EH⟩⟩:=x2;refine bt Try.func63 Y (af Y) (λga M vs hN hvs=>?_);unfold fU at h;refine sr<|bx Y<|bx Y<|al (cs:=[az false,nw N ax,az false,nw N ax]) (by exact⟨au,bk,au,bk,aq⟩) Y<|dn<|sr<|ld Y Y (.k4 Y Y Y Y) ?_;obtain⟨⟨⟨kH,kI⟩,⟨lO,lP⟩⟩,me,h⟩:=bS h;refine cl (ei me) ⟨Y,aq⟩<|mv Y<|ex Y Y<|ex Y Y<|al (cs:=[az false,nw N ax]) (by exact⟨au,bk,aq⟩) Y<|al (cs:=[az false,nw N ax]) (by exact⟨au,bk,aq⟩) Y<|so Y Y Y<|so Y Y Y<|dn<|sr<|ld Y Y (.k4 Y Y Y Y) ?_;obtain⟨⟨⟨kJ,kK⟩,⟨lQ,lS⟩⟩,jK,h⟩:=bS h;refine cl (ei jK) ⟨Y,aq⟩<|mv Y<|ex Y Y<|ex Y Y<|al (cs:=[az false,nw N ax]) (by exact⟨au,bk,aq⟩) Y<|al (cs:=[az false,nw N ax]) (by exact⟨au,bk,aq⟩) Y<|so Y Y Y<|so Y Y Y<|dn<|qq<|bf mixed<|cl jP trivial<|mv Y ?_;refine RT.look .none [.func (.func 105) #[] #[]] Y Y Y T<|fl Y Y<|ld Y Y (.k2 Y Y)<|ld Y Y (.k2 Y Y)<|ld Y Y (.k2 Y Y)<|ld Y Y (.k2 Y Y) ?_;obtain⟨⟨⟨oS,oT⟩,⟨oU,oV⟩⟩,kQ,h⟩:=bS h;refine RT.bu .none (nc N kQ) hN Y ⟨Y,Y,Y,Y,aq⟩ T<|ex Y Y<|ex Y Y ?_;obtain⟨⟨⟨iQ,iA⟩,⟨mZ,m7⟩⟩,nM,h⟩:=bS h
 refine RT.bu .none ((ic N nM).w (args':=[_,_]) ⟨(SV.cm (show dO [az oS,nw N (slc 1 (List.map aX oT))] _ from⟨au,dD,aq⟩)),(SV.cm (show dO [az oU,nw N (slc 1 (List.map aX oV))] _ from⟨au,dD,aq⟩)),aq⟩) hN Y ⟨Y,Y,aq⟩ T<|so Y Y Y ?_;refine RT.done ⟨by kernel_rfl,?_⟩;refine aV.n<|bh ?_;obtain rfl:=O h;exact RZ (.agg Y Y (.k4 Y Y Y Y) Y (.nil))
theorem sN{x1:Qr}{x2:Qr}(N:Nat){r:Qr}(h:fV x1 x2=some r):c6 ah 63 N [.v (.int .u8 ((45:Nat):Int)),.agg (eQ x1),.agg (eQ x2)] (.agg ((fQ N) r)):=by
 obtain⟨⟨cq,b9⟩,⟨iy,iz⟩⟩:=x1;obtain⟨⟨uI,uJ⟩,⟨EG,EH⟩⟩:=x2;refine bt Try.func63 Y (af Y) (λga M vs hN hvs=>?_);unfold fV at h;refine sr<|bx Y<|bx Y<|al (cs:=[az false,nw N ax,az false,nw N ax]) (by exact⟨au,bk,au,bk,aq⟩) Y<|dn<|sr<|ld Y Y (.k4 Y Y Y Y) ?_;obtain⟨⟨⟨kH,kI⟩,⟨lO,lP⟩⟩,me,h⟩:=bS h;refine cl (ei me) ⟨Y,aq⟩<|mv Y<|ex Y Y<|ex Y Y<|al (cs:=[az false,nw N ax]) (by exact⟨au,bk,aq⟩) Y<|al (cs:=[az false,nw N ax]) (by exact⟨au,bk,aq⟩) Y<|so Y Y Y<|so Y Y Y<|dn<|sr<|ld Y Y (.k4 Y Y Y Y) ?_;obtain⟨⟨⟨kJ,kK⟩,⟨lQ,lS⟩⟩,jK,h⟩:=bS h;refine cl (ei jK) ⟨Y,aq⟩<|mv Y<|ex Y Y<|ex Y Y<|al (cs:=[az false,nw N ax]) (by exact⟨au,bk,aq⟩) Y<|al (cs:=[az false,nw N ax]) (by exact⟨au,bk,aq⟩) Y<|so Y Y Y<|so Y Y Y<|dn<|qq<|bf mixed<|cl jP trivial<|mv Y ?_;refine RT.look .none [.func (.func 106) #[] #[]] Y Y Y T<|fl Y Y<|ld Y Y (.k2 Y Y)<|ld Y Y (.k2 Y Y)<|ld Y Y (.k2 Y Y)<|ld Y Y (.k2 Y Y) ?_;obtain⟨⟨⟨oS,oT⟩,⟨oU,oV⟩⟩,kQ,h⟩:=bS h;refine RT.bu .none (nf N kQ) hN Y ⟨Y,Y,Y,Y,aq⟩ T<|ex Y Y<|ex Y Y ?_;obtain⟨⟨⟨iQ,iA⟩,⟨mZ,m7⟩⟩,nM,h⟩:=bS h
 refine RT.bu .none ((ic N nM).w (args':=[_,_]) ⟨(SV.cm (show dO [az oS,nw N (slc 1 (List.map aX oT))] _ from⟨au,dD,aq⟩)),(SV.cm (show dO [az oU,nw N (slc 1 (List.map aX oV))] _ from⟨au,dD,aq⟩)),aq⟩) hN Y ⟨Y,Y,aq⟩ T<|so Y Y Y ?_;refine RT.done ⟨by kernel_rfl,?_⟩;refine aV.n<|bh ?_;obtain rfl:=O h;exact RZ (.agg Y Y (.k4 Y Y Y Y) Y (.nil))
end
section
open Go.Fw Go.Fw.Z Go.RowKit
theorem zu{x0:Int}{x1:Int}(N:Nat){r:Qr×Int}(h:gG x0 x1=some r):c6 ah 40 N [ay x0,ay x1] (.rH [.agg ((fQ N) r.1),ay r.2]):=by
 refine bt Try.func40 Y (af Y) (λga M vs hN hvs=>?_);unfold gG at h;refine sr<|al (cs:=[az false,nw N ax,az false,nw N ax]) (by exact⟨au,bk,au,bk,aq⟩) Y<|ag Y<|dn<|qq<|sr<|mv Y<|lE h λx7 h7 h=>eq _ Y Y (qz (p:=x1) (q:=0) h7)<|dn ?_;cases x7;refine fs<|sr<|mv Y ?_;obtain⟨⟨wm,wo⟩,jy,h⟩:=bS (F h);refine RT.bu .none (cy N jy) hN Y ⟨Y,aq⟩ T<|mv Y ?_;obtain⟨⟨jM,jN⟩,kW,h⟩:=bS h;refine RT.bu .none (cy N kW) hN Y ⟨Y,aq⟩ T ?_;obtain⟨⟨⟨yZ,y4⟩,⟨IQ,IS⟩⟩,me,h⟩:=bS h;refine RT.bu .none ((ic N me).w (args':=[_,_]) ⟨(SV.cm (show dO [az wm,nw N (slc 1 (List.map aX wo))] _ from⟨au,dD,aq⟩)),(SV.cm (show dO [az jM,nw N (slc 1 (List.map aX jN))] _ from⟨au,dD,aq⟩)),aq⟩) hN Y ⟨Y,Y,aq⟩ T<|so Y Y Y<|ag Y<|dn<|bh ?_;obtain rfl:=O h;exact RZ (.agg Y Y (.k4 Y Y Y Y) Y (.tmp Y (.nil)));refine cT<|sr<|bI (cs:=[_,_,_,_]) (cs':=[az false,nw N ax,az false,nw N ax]) (.nil) ⟨au,bk,au,bk,aq⟩<|so Y Y Y<|ag Y<|dn<|bh<|aV.r ?_;obtain rfl:=O (V h);exact RZ (.agg Y Y (.k4 Y Y Y Y) Y (.tmp Y (.nil)))
theorem r7{x0:Int}{x1:Int}{r:Qr×Int}(h:gG x0 x1=some r):Pure ah 40 [ay x0,ay x1] (.rH [.agg (eQ r.1),ay r.2]):=dh (λN=>zu N h) (λN=>(SV.BJ ⟨(SV.cm (qI _ _)),au,aq⟩))
theorem n8{x0:Zr}(N:Nat){r:Qr}(h:b7 x0=some r):c6 ah 32 N [.agg (eZ x0)] (.agg ((fQ N) r)):=by
 obtain⟨bD,bB⟩:=x0;refine bt Try.func32 Y (af Y) (λga M vs hN hvs=>?_);unfold b7 at h;refine sr<|bx Y<|al (cs:=[az false,nw N ax,az false,nw N ax]) (by exact⟨au,bk,au,bk,aq⟩) Y<|dn<|sr<|ld Y Y (.k2 Y Y) ?_;obtain⟨⟨C1,C2⟩,h4,h⟩:=bS h;refine RT.bu .none (uR N h4) hN Y ⟨Y,aq⟩ T<|bI (cs:=[_,_,_,_]) (cs':=[az C1,nw N (slc 1 (List.map aX C2)),az false,nw N ax]) (.agg Y (.nil)) ⟨au,au,au,bk,aq⟩<|so Y Y Y<|dn<|bh ?_;obtain rfl:=O h;exact RZ (.agg Y Y (.k4 Y Y Y Y) Y (.nil))
theorem gi{x0:Zr}{r:Qr}(h:b7 x0=some r):Pure ah 32 [.agg (eZ x0)] (.agg (eQ r)):=dh (λN=>n8 N h) (λN=>(SV.cm (qI _ _)))
theorem kz{x0:Qr}(N:Nat){r:Qr}(h:dw x0=some r):c6 ah 59 N [.agg (eQ x0)] (.agg ((fQ N) r)):=by
 obtain⟨⟨bD,bB⟩,⟨dr,dH⟩⟩:=x0;refine bt Try.func59 Y (af Y) (λga M vs hN hvs=>?_);unfold dw at h;refine sr<|bx Y<|al (cs:=[az false,nw N ax,az false,nw N ax]) (by exact⟨au,bk,au,bk,aq⟩) Y<|dn<|qq<|sr<|ld Y Y (.k4 Y Y Y Y) ?_;obtain⟨⟨Y1,Y2,WU⟩,h8,h⟩:=bS h;refine cl (gu h8) ⟨Y,aq⟩<|mv Y<|ex Y Y<|ex Y Y<|ex Y Y<|ag Y<|ag Y<|ag Y<|dn<|sr<|mv Y<|dn ?_;cases WU;refine fs<|sr<|ld Y Y (.k4 Y Y Y Y) ?_;obtain⟨⟨⟨EI,EJ⟩,⟨EK,EM⟩⟩,mU,h⟩:=bS (F h);refine cl (ei mU) ⟨Y,aq⟩<|ex Y Y<|ex Y Y ?_;obtain⟨⟨⟨uM,qe⟩,⟨uN,rY⟩⟩,nY,h⟩:=bS h;refine RT.bu .none (ic N nY) hN Y ⟨Y,Y,aq⟩ T<|so Y Y Y<|dn<|bh ?_;obtain rfl:=O h;exact RZ (.agg Y Y (.k4 Y Y Y Y) Y (.nil));refine cT<|sr<|mv Y<|mv Y ?_;obtain⟨⟨⟨iS,iT⟩,⟨IT,IU⟩⟩,pU,h⟩:=bS (V h);refine RT.bu .none (kL N pU) hN Y ⟨Y,Y,aq⟩ T<|so Y Y Y<|dn<|bh<|aV.r ?_;obtain rfl:=O h;exact RZ (.agg Y Y (.k4 Y Y Y Y) Y (.nil))
theorem qf{x0:Qr}{r:Qr}(h:dw x0=some r):Pure ah 59 [.agg (eQ x0)] (.agg (eQ r)):=dh (λN=>kz N h) (λN=>(SV.cm (qI _ _)))
theorem zw{x0:Qr}{x1:Qr}(N:Nat){r:Qr}(h:gH x0 x1=some r):c6 ah 38 N [.agg (eQ x0),.agg (eQ x1)] (.agg ((fQ N) r)):=by
 obtain⟨⟨bD,bB⟩,⟨dr,dH⟩⟩:=x0;obtain⟨⟨cq,b9⟩,⟨iy,iz⟩⟩:=x1;refine bt Try.func38 Y (af Y) (λga M vs hN hvs=>?_);unfold gH at h;refine sr<|bx Y<|bx Y<|al (cs:=[az false,nw N ax,az false,nw N ax]) (by exact⟨au,bk,au,bk,aq⟩) Y<|dn<|sr<|ld Y Y (.k4 Y Y Y Y) ?_;obtain⟨⟨Bi,xM,Bj⟩,me,h⟩:=bS h;refine cl (gu me) ⟨Y,aq⟩<|mv Y<|ex Y Y<|ex Y Y<|ex Y Y<|ag Y<|ag Y<|ag Y<|dn<|sr<|ld Y Y (.k4 Y Y Y Y) ?_;obtain⟨⟨Bk,xN,Bl⟩,oO,h⟩:=bS h;refine cl (gu oO) ⟨Y,aq⟩<|mv Y<|ex Y Y<|ex Y Y<|ex Y Y<|ag Y<|ag Y<|ag Y<|dn<|qq<|qq ?_;refine bF h (λj3=>AS.dR 41 [(2,.ptr 2 0),(3,.ptr 3 0),(4,.ptr 4 0),(5,ai Bi),(6,ai xM),(8,ai Bk),(9,ai xN),(26,aj j3)] [(4,⟨26,[aj false,.sv (nw N ax),aj false,.sv (nw N ax)]⟩),(3,⟨26,[aj cq,.sv (slc 1 (List.map aX b9)),aj iy,.sv (slc 1 (List.map aX iz))]⟩),(2,⟨26,[aj bD,.sv (slc 1 (List.map aX bB)),aj dr,.sv (slc 1 (List.map aX dH))]⟩)] []) (λh=>?_) (λuO h=>?_);refine aZ<|mv Y<|mv Y<|bE h λzm oR h=>?_;cases Bj;obtain rfl:=O (F oR);exact ww<|pF Y<|dn<|⟨false,h,wR []⟩;refine gm Y ?_;obtain rfl:=O (V oR);exact pT Y<|dn<|⟨Bl,h,wR []⟩
 try dsimp only
 refine aV.n ?_;cases uO;refine fs<|sr<|ld Y Y (.k4 Y Y Y Y)<|ld Y Y (.k4 Y Y Y Y) ?_;obtain⟨⟨⟨jI,jJ⟩,⟨rZ,r5⟩⟩,qB,h⟩:=bS (F h);refine RT.bu .none (sM N qB) hN Y ⟨Y,Y,Y,aq⟩ T<|so Y Y Y<|dn<|bh ?_;obtain rfl:=O h;exact RZ (.agg Y Y (.k4 Y Y Y Y) Y (.nil));refine cT<|sr<|mv Y<|mv Y<|lE (V h) λg9 kQ h=>RT.mul .none _ Y Y T kQ<|mv Y<|mv Y<|lE h λjE nM h=>RT.mul .none _ Y Y T nM<|lE h λmq rU h=>ad _ Y Y rU<|mv Y<|mv Y<|lE h λvK vM h=>RT.mul .none _ Y Y T vM ?_;obtain⟨⟨⟨m8,m9⟩,⟨zj,zk⟩⟩,xD,h⟩:=bS h;refine RT.bu .none (kL N xD) hN Y ⟨Y,Y,aq⟩ T<|so Y Y Y<|dn<|bh<|aV.r ?_;obtain rfl:=O h;exact RZ (.agg Y Y (.k4 Y Y Y Y) Y (.nil))
theorem zx{x0:Qr}{x1:Qr}{r:Qr}(h:gH x0 x1=some r):Pure ah 38 [.agg (eQ x0),.agg (eQ x1)] (.agg (eQ r)):=dh (λN=>zw N h) (λN=>(SV.cm (qI _ _)))
theorem zy{x0:Qr}{x1:Qr}(N:Nat){r:Qr}(h:gI x0 x1=some r):c6 ah 31 N [.agg (eQ x0),.agg (eQ x1)] (.agg ((fQ N) r)):=by
 obtain⟨⟨bD,bB⟩,⟨dr,dH⟩⟩:=x0;obtain⟨⟨cq,b9⟩,⟨iy,iz⟩⟩:=x1;refine bt Try.func31 Y (af Y) (λga M vs hN hvs=>?_);unfold gI at h;refine sr<|bx Y<|bx Y<|al (cs:=[az false,nw N ax,az false,nw N ax]) (by exact⟨au,bk,au,bk,aq⟩) Y<|dn<|sr<|ld Y Y (.k4 Y Y Y Y) ?_;obtain⟨⟨Bi,xM,Bj⟩,me,h⟩:=bS h;refine cl (gu me) ⟨Y,aq⟩<|mv Y<|ex Y Y<|ex Y Y<|ex Y Y<|ag Y<|ag Y<|ag Y<|dn<|sr<|ld Y Y (.k4 Y Y Y Y) ?_;obtain⟨⟨Bk,xN,Bl⟩,oO,h⟩:=bS h;refine cl (gu oO) ⟨Y,aq⟩<|mv Y<|ex Y Y<|ex Y Y<|ex Y Y<|ag Y<|ag Y<|ag Y<|dn<|qq<|qq ?_;refine bF h (λj3=>AS.dR 41 [(2,.ptr 2 0),(3,.ptr 3 0),(4,.ptr 4 0),(5,ai Bi),(6,ai xM),(8,ai Bk),(9,ai xN),(26,aj j3)] [(4,⟨26,[aj false,.sv (nw N ax),aj false,.sv (nw N ax)]⟩),(3,⟨26,[aj cq,.sv (slc 1 (List.map aX b9)),aj iy,.sv (slc 1 (List.map aX iz))]⟩),(2,⟨26,[aj bD,.sv (slc 1 (List.map aX bB)),aj dr,.sv (slc 1 (List.map aX dH))]⟩)] []) (λh=>?_) (λuO h=>?_);refine aZ<|mv Y<|mv Y<|bE h λzm oR h=>?_;cases Bj;obtain rfl:=O (F oR);exact ww<|pF Y<|dn<|⟨false,h,wR []⟩;refine gm Y ?_;obtain rfl:=O (V oR);exact pT Y<|dn<|⟨Bl,h,wR []⟩
 try dsimp only
 refine aV.n ?_;cases uO;refine fs<|sr<|ld Y Y (.k4 Y Y Y Y)<|ld Y Y (.k4 Y Y Y Y) ?_;obtain⟨⟨⟨jI,jJ⟩,⟨rZ,r5⟩⟩,qB,h⟩:=bS (F h);refine RT.bu .none (sN N qB) hN Y ⟨Y,Y,Y,aq⟩ T<|so Y Y Y<|dn<|bh ?_;obtain rfl:=O h;exact RZ (.agg Y Y (.k4 Y Y Y Y) Y (.nil));refine cT<|sr<|mv Y<|mv Y<|lE (V h) λg9 kQ h=>RT.mul .none _ Y Y T kQ<|mv Y<|mv Y<|lE h λjE nM h=>RT.mul .none _ Y Y T nM<|lE h λmq rU h=>sb _ Y Y rU<|mv Y<|mv Y<|lE h λvK vM h=>RT.mul .none _ Y Y T vM ?_;obtain⟨⟨⟨m8,m9⟩,⟨zj,zk⟩⟩,xD,h⟩:=bS h;refine RT.bu .none (kL N xD) hN Y ⟨Y,Y,aq⟩ T<|so Y Y Y<|dn<|bh<|aV.r ?_;obtain rfl:=O h;exact RZ (.agg Y Y (.k4 Y Y Y Y) Y (.nil))
theorem r9{x0:Qr}{x1:Qr}{r:Qr}(h:gI x0 x1=some r):Pure ah 31 [.agg (eQ x0),.agg (eQ x1)] (.agg (eQ r)):=dh (λN=>zy N h) (λN=>(SV.cm (qI _ _)))
theorem zA{x0:Qr}(N:Nat){r:Qr}(h:gJ x0=some r):c6 ah 37 N [.agg (eQ x0)] (.agg ((fQ N) r)):=by
 obtain⟨⟨bD,bB⟩,⟨dr,dH⟩⟩:=x0;refine bt Try.func37 Y (af Y) (λga M vs hN hvs=>?_);unfold gJ at h;refine sr<|bx Y<|al (cs:=[az false,nw N ax,az false,nw N ax]) (by exact⟨au,bk,au,bk,aq⟩) Y<|dn<|sr<|ld Y Y (.k4 Y Y Y Y) ?_;obtain⟨⟨⟨xK,xL⟩,⟨Bm,Bn⟩⟩,h5,h⟩:=bS h;refine RT.bu .none (kz N h5) hN Y ⟨Y,aq⟩ T<|al (cs:=[az false,nw N ax,az false,nw N ax]) (by exact⟨au,bk,au,bk,aq⟩) Y<|so Y Y Y<|dn<|qq<|bf mixed<|fa Y Y<|ld Y Y (.k2 Y Y) ?_;obtain⟨⟨Bo,Bp⟩,h8,h⟩:=bS h;refine RT.bu .none ((jq N h8).w (args':=[_]) ⟨(SV.cm (show dO [az xK,nw N (slc 1 (List.map aX xL))] _ from⟨au,dD,aq⟩)),aq⟩) hN Y ⟨Y,aq⟩ T<|fa Y Y<|ld Y Y (.k2 Y Y)<|bI (cs:=[_,_,_,_]) (cs':=[az Bo,nw N (slc 1 (List.map aX Bp)),az Bm,nw N (slc 1 (List.map aX Bn))]) (.agg Y (.agg Y (.nil))) ⟨au,au,au,au,aq⟩<|so Y Y Y ?_;refine RT.done ⟨by kernel_rfl,?_⟩;refine aV.n<|bh ?_;obtain rfl:=O h;exact RZ (.agg Y Y (.k4 Y Y Y Y) Y (.nil))
theorem zB{x0:Qr}{r:Qr}(h:gJ x0=some r):Pure ah 37 [.agg (eQ x0)] (.agg (eQ r)):=dh (λN=>zA N h) (λN=>(SV.cm (qI _ _)))
theorem zC{x0:Qr}{r:Qr}(h:jO x0=some r):Pure ah 30 [.agg (eQ x0)] (.agg (eQ r)):=by
 obtain⟨⟨bD,bB⟩,⟨dr,dH⟩⟩:=x0;refine bN Try.func30 Y (af Y) (λga M vs hvs=>?_);unfold jO at h;refine sr<|bx Y<|al (cs:=[az false,ax,az false,ax]) (by exact⟨au,aB,au,aB,aq⟩) Y<|dn<|sr<|ld Y Y (.k4 Y Y Y Y) ?_;obtain⟨⟨⟨xK,xL⟩,⟨Bm,Bn⟩⟩,h5,h⟩:=bS h;refine cl (qf h5) ⟨Y,aq⟩<|al (cs:=[az false,ax,az false,ax]) (by exact⟨au,aB,au,aB,aq⟩) Y<|so Y Y Y<|dn<|qq<|bf mixed<|fa Y Y<|ld Y Y (.k2 Y Y) ?_;obtain⟨⟨Bo,Bp⟩,h8,h⟩:=bS h;refine cl (xG h8) ⟨Y,aq⟩<|fa Y Y<|ld Y Y (.k2 Y Y)<|bI (cs:=[_,_,_,_]) (cs':=[az Bo,slc 1 (List.map aX Bp),az Bm,slc 1 (List.map aX Bn)]) (.agg Y (.agg Y (.nil))) ⟨au,au,au,au,aq⟩<|so Y Y Y ?_;refine RT.done ⟨by kernel_rfl,?_⟩;refine aV.n<|bh ?_;obtain rfl:=O h;exact RZ (.agg Y Y (.k4 Y Y Y Y) Y (.nil))
theorem ng{x0:Qr}{x1:Qr}{r:Int}(h:fW x0 x1=some r):Pure ah 33 [.agg (eQ x0),.agg (eQ x1)] (ay r):=by
 obtain⟨⟨bD,bB⟩,⟨dr,dH⟩⟩:=x0;obtain⟨⟨cq,b9⟩,⟨iy,iz⟩⟩:=x1;refine bN Try.func33 Y (af Y) (λga M vs hvs=>?_);unfold fW at h;refine sr<|bx Y<|bx Y<|ag Y<|dn<|sr<|ld Y Y (.k4 Y Y Y Y) ?_;obtain⟨⟨⟨kH,kI⟩,⟨lO,lP⟩⟩,me,h⟩:=bS h;refine cl (ei me) ⟨Y,aq⟩<|mv Y<|ex Y Y<|ex Y Y<|al (cs:=[az false,ax]) (by exact⟨au,aB,aq⟩) Y<|al (cs:=[az false,ax]) (by exact⟨au,aB,aq⟩) Y<|so Y Y Y<|so Y Y Y<|dn<|sr<|ld Y Y (.k4 Y Y Y Y) ?_;obtain⟨⟨⟨kJ,kK⟩,⟨lQ,lS⟩⟩,jK,h⟩:=bS h;refine cl (ei jK) ⟨Y,aq⟩<|mv Y<|ex Y Y<|ex Y Y<|al (cs:=[az false,ax]) (by exact⟨au,aB,aq⟩) Y<|al (cs:=[az false,ax]) (by exact⟨au,aB,aq⟩) Y<|so Y Y Y<|so Y Y Y<|dn<|qq<|qq<|bf mixed<|ld Y Y (.k2 Y Y)<|bE h λjC sL h=>?_;refine cl (ee sL) ⟨Y,aq⟩<|ld Y Y (.k2 Y Y)<|bE h λfo ou h=>cl (ee ou) ⟨Y,aq⟩<|ag Y<|ag Y ?_;refine RT.done ⟨by kernel_rfl,?_⟩;refine aV.n<|qq ?_;refine bF h (λj3=>AS.dR 43 [(5,.ptr 5 0),(6,.ptr 6 0),(7,.ptr 7 0),(8,.ptr 8 0),(9,ai jC),(10,ai fo),(31,aj j3)] [(8,⟨24,[aj lQ,.sv (slc 1 (List.map aX lS))]⟩),(7,⟨24,[aj kJ,.sv (slc 1 (List.map aX kK))]⟩),(6,⟨24,[aj lO,.sv (slc 1 (List.map aX lP))]⟩),(5,⟨24,[aj kH,.sv (slc 1 (List.map aX kI))]⟩)] []) (λh=>?_) (λEN h=>?_)
 refine aZ<|mv Y<|mv Y<|lE h λnW vu h=>ne _ Y Y (KQ (p:=jC) (q:=fo) vu)<|mv Y<|bE h λIX oR h=>?_;cases nW;refine gm Y<|lE (F oR) λuB xB oR=>BW _ Y Y (qz (p:=jC) (q:=0) xB) ?_;obtain rfl:=O oR;exact pF Y<|dn<|⟨uB,h,wR []⟩;obtain rfl:=O (V oR);exact ww<|ww<|pT Y<|dn<|⟨true,h,wR []⟩
 try dsimp only
 refine aV.n ?_;cases EN;refine fs<|qq<|bf mixed<|ld Y Y (.k2 Y Y)<|ld Y Y (.k2 Y Y) ?_;obtain⟨⟨IV,IW⟩,CT,h⟩:=bS (F h);refine cl (qb CT) ⟨Y,Y,aq⟩<|ld Y Y (.k2 Y Y)<|ld Y Y (.k2 Y Y) ?_;obtain⟨⟨zo,zq⟩,CV,h⟩:=bS h;refine cl (qb CV) ⟨Y,Y,aq⟩<|bE h λot zg h=>cl (qc zg) ⟨Y,Y,aq⟩<|ag Y ?_;refine RT.done ⟨by kernel_rfl,?_⟩;refine aV.n<|bh ?_;obtain rfl:=O h;exact R1 Y;refine cT<|sr<|mv Y<|mv Y<|lE (V h) λmL pW h=>sb _ Y Y pW<|bE h λpL A8 h=>cl (xO A8) ⟨Y,aq⟩<|ag Y<|dn<|bh<|aV.r ?_;obtain rfl:=O h;exact R1 Y
theorem vO{x0:Qr}{r:Zr}(h:ia x0=some r):Pure ah 41 [.agg (eQ x0)] (.agg (eZ r)):=by
 obtain⟨⟨bD,bB⟩,⟨dr,dH⟩⟩:=x0;refine bN Try.func41 Y (af Y) (λga M vs hvs=>?_);unfold ia at h;refine sr<|bx Y<|al (cs:=[az false,ax]) (by exact⟨au,aB,aq⟩) Y<|dn<|sr<|ld Y Y (.k4 Y Y Y Y) ?_;obtain⟨⟨⟨IY,IZ⟩,⟨I0,I1⟩⟩,h8,h⟩:=bS h;refine cl (ei h8) ⟨Y,aq⟩<|ex Y Y<|ex Y Y ?_;obtain⟨⟨⟨uP,uQ⟩,⟨LR,LS⟩,WV⟩,qW,h⟩:=bS h;refine cl (jb qW) ⟨Y,Y,aq⟩<|mv Y<|ex Y Y<|ex Y Y<|ex Y Y<|al (cs:=[az false,ax]) (by exact⟨au,aB,aq⟩) Y<|al (cs:=[az false,ax]) (by exact⟨au,aB,aq⟩) Y<|so Y Y Y<|so Y Y Y<|ag Y<|dn<|sr<|ld Y Y (.k2 Y Y) ?_;refine so Y Y Y<|dn<|bh ?_;obtain rfl:=O h;exact RZ (.agg Y Y (.k2 Y Y) Y (.nil))
end
end Go.Proofs.Ytmiflmkdaeianaa
