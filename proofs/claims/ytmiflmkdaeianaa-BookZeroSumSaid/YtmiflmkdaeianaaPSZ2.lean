/- A part of the proof: the framework, the plain functions, the followed functions, the plain laws. -/
import Derived.Test.YtmiflmkdaeianaaPSZ1
set_option linter.unusedVariables false
set_option linter.unusedSimpArgs false
set_option linter.unusedSectionVars false
namespace Go.Fw
section
open Go.RowKit
inductive Src (S:AS) (E0:TypeId) (n:Nat):Operand->List (Nat×gR)->List Nat->Nat->List SV->Prop
 |nil {x:Operand} (h:S.ev x=.sv (.v (.slice none 0 0))):Src S E0 n x [] [] 0 []
 |row {x:Operand} {i m:Nat} {cs:List SV} (h:S.ev x=.row i) (hR:S.r i=.live ⟨E0,n,m,cs⟩):Src S E0 n x [(i,.dead)] [i] m cs
theorem Ex{i:Nat}{X:SV}{x:AV}(h:¬x.mr i):x.jm i X=x:=by
 cases x with
 |row k=>simp only[AV.jm];rw[cU (λe=>h e.symm)];rfl
 |eW k o=>simp only[AV.jm];rw[cU (λe=>h e.symm)];rfl
 |jl k o l=>simp only[AV.jm];rw[cU (λe=>h e.symm)];rfl
 |cmp t js=>
  simp only[AV.jm];have:js.any (Fc.rN i)=false:=by
   cases e:js.any (Fc.rN i)with
   |false=>rfl
   |true=>
    obtain⟨c,hc,hi⟩:=List.any_eq_true.1 e;cases c with
    |row j=>have hi:Nat.beq j i=true:=hi;obtain rfl:=Nat.eq_of_beq_eq_true hi;exact absurd hc h
    |_=>cases hi
  rw[this];rfl
 |_=>rfl
section steps
variable {P:Program}{C:Ctx}{ops:Array Oper}{S:AS}{nd:Bool}{K:List Ac->AS->Prop}{rest:List Oper}{acc:List Ac}
variable {gd:Option (Nat×Bool)}{rg:List Nat}{d:Nat}{ty:TypeId}{pos:String}{aft:Array Edge}{x y z:Operand}{T U E0:TypeId}
theorem Src.val{E:Env}{a:Act}{w:World}{S':AS}{n m:Nat}{old:List (Nat×gR)}{rr:List Nat}{cs:List SV}(h:aY C S' E a w)(hx:Src S E0 n x old rr m cs)(ht:∀s∈aW x,S'.t s=S.t s)(hr:∀i∈rr,S'.r i=S.r i):
  (∃vs,w.ownsRow 0 E0 n (a.eval x) m vs/\SV.dg E.M cs vs)/\((old=[]/\(a.eval x).ownBlock=none)\/∃i R,old=[(i,.dead)]/\S'.r i=.live R/\(a.eval x).ownBlock=(E.ν i).ownBlock):=by
 cases hx with
 |nil hx=>
  have h1:a.eval x=.slice none 0 0:=by have h1:=h.ev x;rw[bk (λ_ h=>h) ht,hx]at h1;exact h1
  rw[h1];exact⟨⟨[],World.ownsRow_nil _ _ _ _,aq⟩,.inl ⟨Y,Y⟩⟩
 | @row i _ _ hx hR=>
  have h1:a.eval x=E.ν i:=by have h1:=h.ev x;rw[bk (λ_ h=>h) ht,hx]at h1;exact h1
  have jV:=(hr i (by simp)).trans hR;rw[h1];obtain⟨⟨vs,h2,h3⟩,_⟩:=h.rx i _ jV;exact⟨⟨vs,h2,h3⟩,.inr ⟨i,_,Y,jV,Y⟩⟩
theorem RT.B6(hg:Gd ops S gd rg){n by_:Nat}{zv:Value}[tS:dJ P T E0 n][tE:gH P E0 n by_ zv]{old:List (Nat×gR)}{rr:List Nat}{m:Nat}{cs:List SV}{s:SV}{rows:List (List SV)}[hs:GS s n rows]
  (hx:Src S E0 n x old rr m cs) (hy:S.ev y=.sv s) (hd:d<S.n) (qK:S.r d=.un) (oX:d<1000) (hroom:(m+rows.length)*by_<=140737488355328) (mB:m+rows.length<=140737488355328)
  (X:SV) {rows':List (List SV)} (hX:∀M v,(slc n rows').h M v->(∀g,v.ownBlock=some g->(C.w0.heap.size<=g\/C.ny g)/\∃o,M g o=some (.agg #[]))->X.h M v) (gN:Rows n rows' (cs++rows.flatten)) (hlen:rows'.length=m+rows.length) (hone:∀M vs,SV.dg M (cs++rows.flatten) vs->∀v∈vs,v.oneCell'=true)
  (next:RunT P C ops nd K rest (⟨rg++(aW x++aW y),[],d::rr,⟨some (d,.sv X),[],old++[(d,.dead)]⟩⟩::acc) ((AS.bB (old++[(d,.dead)]) S).set d (.sv X))):RunT P C ops nd K (⟨some d,.call ⟨.builtin .append,#[x,y],#[T,T]⟩,ty,pos,aft,gd⟩::rest) acc S:=by
 refine .inl ⟨_,[],d::rr,_,?_,next⟩;rintro S' hn ht _ hr i a w L Q ho ⟨E,h⟩ hL;refine bV (C:=C) ho (hg.wanted h (λs hs=>ht s (List.mem_append_left _ hs)) Y) ?_;obtain⟨⟨vs,hown,hvs⟩,hold⟩:=hx.val h (λs hs=>ht s (List.mem_append_right _ (List.mem_append_left _ hs))) (λi hi=>hr i (List.mem_cons_of_mem _ hi));have h2:=h.ev y;rw[bk (λ_ h=>List.mem_append_right _ (List.mem_append_right _ h)) ht,hy]at h2;obtain⟨info,hi,hsz,hby,hz⟩:=gH.info (P:=P) (E:=E0) (n:=n) (by_:=by_) (z:=zv);have C3:S'.r d=.un:=by rw[hr d (by simp)];exact qK
 have run:∃v' w' vs',(Builtin.append_ #[T,T] ty #[a.eval x,a.eval y]).run P w=.ok v' w'/\w'.ownsRow 0 E0 n v' (m+rows.length) vs'/\SV.dg E.M (cs++rows.flatten) vs'/\w.grownBy w' (a.eval x).ownBlock/\(v'.ownBlock=(a.eval x).ownBlock\/v'.ownBlock=some w.heap.size\/v'.ownBlock=none):=by
  rcases hs.h _ _ h2 with⟨a0,e,e2⟩|⟨b,o,c,e,hc,za,hrow⟩
  ·rw[e,e2];cases a0 with
   |none=>exact⟨_,_,vs,run_append_owned_none w 0 T ty E0 info n tS.u hi _ m vs hown,by simpa using hown,by simpa using hvs,⟨Y,Y,Y,Nat.le_refl _,λ_ _ _=>Y⟩,.inl Y⟩
   |some a0=>
    rw[e2,List.length_nil]at hroom mB;obtain⟨v',w',q1,q2,q3,_,q4⟩:=run_append_own_at (P:=P) w 0 T ty E0 info zv n by_ tS.u hi hz hsz hby tE.z tE.p _ m vs hown a0 0 0 [] (by simp) (by simp) (by simp) (by unfold maxLen;omega) hroom (Nat.zero_le _);exact⟨v',w',vs,q1,by simpa using q2,by simpa using hvs,q3,q4.imp id .inl⟩
  obtain⟨us,g1,g2,g3,g4⟩:=ur rows o hrow;rw[e];obtain⟨v',w',q1,q2,q3,_,q4⟩:=run_append_own_at (P:=P) w 0 T ty E0 info zv n by_ tS.u hi hz hsz hby tE.z tE.p _ m vs hown ⟨b,o,none⟩ rows.length c us g2 (λj u hj=>by rw[ew];exact(h.cy _ _ _ (g4 j u hj)).cell (g3 u (List.mem_of_getElem? hj))) g3 (by unfold maxLen;omega) hroom (Nat.zero_le _);exact⟨v',w',vs++us,q1,q2,SV.dg.append hvs g1,q3,q4.imp id .inl⟩
 obtain⟨v',w',vs',q1,q2,q3,q4,q5⟩:=run;have hr':(execOp a.eval ⟨some d,.call ⟨.builtin .append,#[x,y],#[T,T]⟩,ty,pos,aft,gd⟩).run P w=.ok (.value v') w':=by
  simp[execOp,resolve,invoke,builtin,q1]
 have B7:∀(l:List (Nat×gR)) (R:gR) (j:Nat),cH (l++[(d,R)]) j=if j=d then some R else cH l j:=by
  intro l R j
  induction l with
  |nil=>rfl
  |cons p l ih=>
   obtain⟨i,R'⟩:=p;rw[List.cons_append,cH,cH,ih];by_cases e:j=d
   ·simp[e]
   simp[e]
 have h3:=(h.newRow C3 oX old (a.eval x).ownBlock hold (R':=⟨E0,n,m+rows.length,cs++rows.flatten⟩) q2 q3 q5 q4).put (d:=d) (x:=.row d) (v:=v') (by simp[AV.holds]) (by rw[(dz _ _).1];omega) ⟨λ_ e=>e.elim,λj e=>by
  cases e;rw[gx,B7];simp⟩
 have hRd:(AS.set (AS.bB (old++[(d,gR.live ⟨E0,n,m+rows.length,cs++rows.flatten⟩)]) S') d (.row d)).r d=.live ⟨E0,n,m+rows.length,cs++rows.flatten⟩:=by
  show(AS.bB _ S').r d=_;rw[gx,B7];simp
 obtain⟨E',h4⟩:=h3.jm hRd gN hlen (Nat.le_trans mB (by decide)) hone hX;have e:(AS.set (AS.bB (old++[(d,gR.live ⟨E0,n,m+rows.length,cs++rows.flatten⟩)]) S') d (.row d)).jm d X=S'.app ⟨some (d,.sv X),[],old++[(d,.dead)]⟩:=by
  have n1:=dz (old++[(d,gR.live ⟨E0,n,m+rows.length,cs++rows.flatten⟩)]) S';have n2:=dz (old++[(d,gR.dead)]) S';refine AS.ext' ?_ (λt=>?_) (λj=>?_) (λj=>?_) ?_ ?_
  ·show(AS.bB _ S').n=(AS.bB _ S').n;rw[n1.1,n2.1]
  ·rw[AS.DX];show((AS.set (AS.bB _ S') d (.row d)).t t).jm d X=_;by_cases e:t=d
   ·subst e;rw[AS.fO];simp[AV.jm,wT]
   rw[AS.eO _ _ _ _ e,n1.2.1,Ex (λhm=>h.wf.tr t d hm C3)];simp[wT,e]
  ·rw[AS.DY];show((AS.bB _ S').b j).map _=_;rw[n1.2.2.1];simp only[my,Option.getD_none];cases hb:S'.b j with
   |none=>rfl
   |some B=>
    rw[Option.map_some];have:B.cells.map (AV.jm d X)=B.cells:=by
     conv=>rhs;rw[<-List.map_id B.cells]
     exact List.map_congr_left λc hc=>Ex (λhm=>h.wf.br j B hb c hc d hm C3)
    rw[this]
  ·rw[AS.DZ];show(bif Nat.beq j d then gR.dead else(AS.bB _ S').r j)=_;rw[gx,B7,B7];by_cases e:j=d
   ·subst e;simp
   simp[cU e,e]
  ·rw[(AS.BQ _ _).1];exact n1.2.2.2.1
  rw[(AS.BQ _ _).2];exact n1.2.2.2.2
 exact bW (C:=C) (by intro c h;cases h) hr' (hL _ _ ⟨E',e▸h4⟩)
end steps
end
section
open Go.RowKit
def cW{J R:Type}(k:J->Option R)(f:(J->Option R)->Option R):Option R:=f k
theorem bind_some{α β:Type}{x:Option α}{f:α->Option β}{r:β}(h:Option.bind x f=some r):∃a,x=some a/\f a=some r:=by
 cases x with
 |none=>cases h
 |some a=>exact⟨a,Y,h⟩
theorem sk{b w:Bool}(h:(b==w)=false):b≠w:=by cases b<;>cases w<;>simp_all
def c7{α:Type}(l:List α)(i:Int):Option α:=if 0<=i then l[i.toNat]? else none
def qO{α:Type}(l:List α)(i:Int):Option Nat:=if 0<=i/\i<l.length then some i.toNat else none
def xS{α:Type}(l:List α)(lo hi:Int):Option (List α):=if 0<=lo/\lo<=hi/\hi<=l.length then some (cut l lo.toNat hi.toNat)else none
def vY{α:Type}(by_:Nat)(l k:List α):Option (List α):=if(l.length+k.length)*by_<=140737488355328/\l.length+k.length<=140737488355328 then some (l++k)else none
def GC{α:Type}(by_:Nat)(c:Int)(z:α):Option (List α):=if 0<=c/\by_*c<=281474976710656/\c<=140737488355328 then some (List.replicate c.toNat z)else none
def Hf{α:Type}(by_:Nat)(c:Int):Option (List α):=if 0<=c/\by_*c<=281474976710656/\c<=140737488355328 then some []else none
def stM{α:Type}(l:List α)(n:Nat)(y:α):Option (List α):=if n<l.length then some (l.set n y)else none
def pB(a b:Int):Option Int:=if b=0 then none else some (IntKind.i64.wrap (a.tdiv b))
def C8(a b:Int):Option Int:=if b=0 then none else some (a.tmod b)
def xT(M a b:Nat):Option Nat:=if b=0 then none else some (a/b%M)
def vZ(a b:Nat):Option Nat:=if b=0 then none else some (a%b)
def jW(M a b:Nat):Nat:=(((a:Int)-b)%M).toNat
theorem kO{α:Type}{l:List α}{i:Int}{a:α}(h:c7 l i=some a):0<=i/\l[i.toNat]? =some a:=by
 unfold c7 at h;split at h
 ·exact⟨by assumption,h⟩
 cases h
theorem Ey{α:Type}{l:List α}{i:Int}{k:Nat}(h:qO l i=some k):0<=i/\i<l.length/\i.toNat=k:=by
 unfold qO at h;split at h
 ·rename_i hh;exact⟨hh.1,hh.2,Option.some.inj h⟩
 cases h
theorem wN{α:Type}{l l':List α}{a b:Int}(h:xS l a b=some l'):0<=a/\a<=b/\b<=l.length/\cut l a.toNat b.toNat=l':=by
 unfold xS at h;split at h
 ·rename_i hh;exact⟨hh.1,hh.2.1,hh.2.2,Option.some.inj h⟩
 cases h
theorem pC{α:Type}{by_:Nat}{l k l':List α}(h:vY by_ l k=some l'):(l.length+k.length)*by_<=140737488355328/\l.length+k.length<=140737488355328/\l++k=l':=by
 unfold vY at h;split at h
 ·rename_i hh;exact⟨hh.1,hh.2,Option.some.inj h⟩
 cases h
theorem Ez{α:Type}{by_:Nat}{c:Int}{z:α}{l':List α}(h:GC by_ c z=some l'):0<=c/\by_*c<=281474976710656/\c<=140737488355328/\List.replicate c.toNat z=l':=by
 unfold GC at h;split at h
 ·rename_i hh;exact⟨hh.1,hh.2.1,hh.2.2,Option.some.inj h⟩
 cases h
theorem EA{α:Type}{by_:Nat}{c:Int}{l':List α}(h:Hf by_ c=some l'):0<=c/\by_*c<=281474976710656/\c<=140737488355328/\[]=l':=by
 unfold Hf at h;split at h
 ·rename_i hh;exact⟨hh.1,hh.2.1,hh.2.2,Option.some.inj h⟩
 cases h
theorem zu{α:Type}{l l':List α}{n:Nat}{y:α}(h:stM l n y=some l'):n<l.length/\l.set n y=l':=by
 unfold stM at h;split at h
 ·rename_i hh;exact⟨hh,Option.some.inj h⟩
 cases h
def jq{S E:Type}(body:S->Option (S⊕E)):Nat->S->Option E
 |0,_=>none
 |n+1,s=>match body s with
  |some (.inl s')=>jq body n s'
  |some (.inr e)=>some e
  |none=>none
theorem ou{S E:Type}{body:S->Option (S⊕E)}:∀{n m:Nat} {s:S} {e:E},n<=m->jq body n s=some e->jq body m s=some e
 |0,_,_,_,_,h=>by cases h
 |n+1,0,_,_,hm,_=>by omega
 |n+1,m+1,s,e,hm,h=>by
  unfold jq at h⊢;cases hb:body s with
  |none=>rw[hb]at h;cases h
  |some y=>
   rw[hb]at h;cases y with
   |inl s'=>exact ou (by omega) h
   |inr e'=>exact h
open Classical in
noncomputable def cI{S E:Type}(body:S->Option (S⊕E))(s:S):Option E:=if h:∃n e,jq body n s=some e then some (Classical.choose (Classical.choose_spec h))else none
theorem ow{S E:Type}{body:S->Option (S⊕E)}{s:S}{e:E}(h:cI body s=some e):∃n,jq body n s=some e:=by
 unfold cI at h;split at h
 ·rename_i hh;exact⟨_,by rw[<-Option.some.inj h];exact Classical.choose_spec (Classical.choose_spec hh)⟩
 cases h
theorem uH{S E:Type}{body:S->Option (S⊕E)}{s:S}{e:E}{n:Nat}(h:jq body n s=some e):cI body s=some e:=by
 have hh:∃n e,jq body n s=some e:=⟨n,e,h⟩;unfold cI;rw[dif_pos hh];have h2:=Classical.choose_spec (Classical.choose_spec hh);have h3:=ou (Nat.le_max_left n (Classical.choose hh)) h;have h4:=ou (Nat.le_max_right n (Classical.choose hh)) h2;rw[h3]at h4;exact h4.symm
theorem oz{S E:Type}{body:S->Option (S⊕E)}{s:S}{e:E}(h:body s=some (.inr e)):cI body s=some e:=uH (n:=1) (by simp[jq,h])
theorem uI{S E:Type}{body:S->Option (S⊕E)}{s s':S}(h:body s=some (.inl s')):cI body s=cI body s':=by
 cases hl:cI body s' with
 |some e=>obtain⟨n,hn⟩:=ow hl;exact uH (n:=n+1) (by simp[jq,h,hn])
 |none=>
  cases ZO:cI body s with
  |none=>rfl
  |some e=>
   obtain⟨n,hn⟩:=ow ZO;cases n with
   |zero=>cases hn
   |succ n=>simp only[jq,h]at hn;rw[uH hn]at hl;cases hl
theorem qP{S E:Type}{body:S->Option (S⊕E)}(I:S->Prop)(Post:E->Prop)(μ:S->Nat)
  (step:∀s,I s->(∃s',body s=some (.inl s')/\I s'/\μ s'<μ s)\/(∃e,body s=some (.inr e)/\Post e)) {s:S} (h:I s):∃e,cI body s=some e/\Post e:=by
 have key:∀(n:Nat) (s:S),μ s<=n->I s->∃e,cI body s=some e/\Post e:=by
  intro n
  induction n with
  |zero=>
   intro s hn hs;rcases step s hs with⟨s',_,_,h3⟩|⟨e,h1,h2⟩
   ·omega
   exact⟨e,oz h1,h2⟩
  |succ n ih=>
   intro s hn hs;rcases step s hs with⟨s',h1,h2,h3⟩|⟨e,h1,h2⟩
   ·obtain⟨e,q1,q2⟩:=ih s' (by omega) h2;exact⟨e,by rw[uI h1];exact q1,q2⟩
   exact⟨e,oz h1,h2⟩
 exact key _ s (Nat.le_refl _) h
theorem EB{S E:Type}{body:S->Option (S⊕E)}(st:Nat->S)(n:Nat){e:E}(hs:∀k,k<n->body (st k)=some (.inl (st (k+1))))(he:body (st n)=some (.inr e)):cI body (st 0)=some e:=by
 have key:∀k,k<=n->cI body (st (n-k))=some e:=by
  intro k
  induction k with
  |zero=>intro _;exact oz he
  |succ k ih=>
   intro hk;rw[uI (hs (n-(k+1)) (by omega)),show n-(k+1)+1=n-k by omega];exact ih (by omega)
 have:=key n (Nat.le_refl _);rwa[Nat.sub_self]at this
theorem oA{p q:Int}{c:Bool}(h:decide (p=q)=c):(p==q)=c:=by rw[<-h];exact Bool.beq_eq_decide_eq p q
theorem Nl{p q:Int}{c:Bool}(h:decide (p≠q)=c):(p != q)=c:=by rw[<-h,bne,Bool.beq_eq_decide_eq p q];simp
theorem Ob{p q:Nat}{c:Bool}(h:decide (p=q)=c):((p:Int)==(q:Int))=c:=oA (by rw[<-h];simp[Int.natCast_inj])
theorem Od{p q:Nat}{c:Bool}(h:decide (p≠q)=c):((p:Int) != (q:Int))=c:=Nl (by rw[<-h];simp[Int.natCast_inj])
theorem Nm{p q:Nat}{c:Bool}(h:decide (p<q)=c):decide ((p:Int)<(q:Int))=c:=by rw[<-h];simp
theorem Tm{p q:Nat}{c:Bool}(h:decide (p<=q)=c):decide ((p:Int)<=(q:Int))=c:=by rw[<-h];simp
theorem VB{p q c:Int}(h:max p q=c):(if q>p then q else p)=c:=by rw[<-h];split<;>omega
theorem Oe{p q c:Int}(h:min p q=c):(if q<p then q else p)=c:=by rw[<-h];split<;>omega
class UK (k:IntKind) (b:outParam Nat) (M:outParam Nat):Prop where
 w:∀x:Int,k.wrap x=x%M
 hb:k.bits=b
 hm:2^b=M
instance:UK .u8 8 256:=⟨λx=>by simp[IntKind.wrap,IntKind.signed,IntKind.bits],rfl,by decide⟩
instance:UK .u32 32 4294967296:=⟨λx=>by simp[IntKind.wrap,IntKind.signed,IntKind.bits],rfl,by decide⟩
instance:UK .u64 64 18446744073709551616:=⟨λx=>by simp[IntKind.wrap,IntKind.signed,IntKind.bits],rfl,by decide⟩
section uk
variable {k:IntKind}{bi M a b c:Nat}[u:UK k bi M]
include u
theorem UK.pos:0<M:=by rw[<-u.hm];exact Nat.two_pow_pos _
theorem UK.nat(h:a%M=c):k.wrap (a:Int)=(c:Int):=by rw[u.w,<-h,Int.natCast_emod]
theorem UK.add(h:(a+b)%M=c):k.wrap ((a:Int)+(b:Int))=(c:Int):=by rw[<-Int.natCast_add];exact UK.nat h
theorem UK.mul(h:(a*b)%M=c):k.wrap ((a:Int)*(b:Int))=(c:Int):=by rw[<-Int.natCast_mul];exact UK.nat h
theorem UK.sub(h:jW M a b=c):k.wrap ((a:Int)-(b:Int))=(c:Int):=by
 rw[u.w,<-h,jW,Int.toNat_of_nonneg];exact Int.emod_nonneg _ (by have:=UK.pos (k:=k) (bi:=bi) (M:=M);omega)
theorem UK.neg(h:jW M 0 a=c):k.wrap (0-(a:Int))=(c:Int):=UK.sub h
theorem UK.conv{p:Int}(h:(p%M).toNat=c):k.wrap p=(c:Int):=by
 rw[u.w,<-h,Int.toNat_of_nonneg];exact Int.emod_nonneg _ (by have:=UK.pos (k:=k) (bi:=bi) (M:=M);omega)
theorem UK.quo(h:xT M a b=some c):k.wrap ((a:Int).tdiv (b:Int))=(c:Int):=by
 unfold xT at h;split at h
 ·cases h
 rw[Int.tdiv_eq_ediv_of_nonneg (by omega),<-Int.natCast_ediv];exact UK.nat (Option.some.inj h)
theorem UK.shl{q:Int}{s:Nat}(hs:min q.toNat k.bits=s)(h:a*2^s%M=c):k.wrap ((a:Int)*2^(min q.toNat k.bits))=(c:Int):=by
 rw[hs,show(a:Int)*2^s=((a*2^s:Nat):Int) by rw[Int.natCast_mul,Int.natCast_pow];rfl];exact UK.nat h
theorem UK.ofInt(a:Nat):(BitVec.ofInt k.bits (a:Int)).toNat=a%M:=by
 rw[BitVec.ofInt_natCast,BitVec.toNat_ofNat,u.hb,u.hm]
theorem UK.or(h:(a ||| b)%M=c):k.wrap ((BitVec.ofInt k.bits (a:Int) ||| BitVec.ofInt k.bits (b:Int)).toNat)=(c:Int):=by
 rw[BitVec.toNat_or,UK.ofInt,UK.ofInt,<-u.hm,<-Nat.or_mod_two_pow,u.hm,h,UK.nat (a:=c) (c:=c)];rw[<-h,Nat.mod_mod]
end uk
theorem xU{k:IntKind}{a c s:Nat}{q:Int}(hs:min q.toNat k.bits=s)(h:a/2^s=c):(a:Int).fdiv (2^(min q.toNat k.bits))=(c:Int):=by
 rw[hs,Int.fdiv_eq_ediv_of_nonneg _ (Int.le_of_lt (Int.pow_pos (by decide))),<-h,Int.natCast_ediv,Int.natCast_pow];rfl
theorem Hg{a b c:Nat}(h:vZ a b=some c):(a:Int).tmod (b:Int)=(c:Int):=by
 unfold vZ at h;split at h
 ·cases h
 rw[Int.tmod_eq_emod_of_nonneg (by omega),<-Option.some.inj h];rfl
theorem VC{M a b c:Nat}(h:xT M a b=some c):(b:Int)≠0:=by
 unfold xT at h;split at h
 ·cases h
 omega
theorem Tn{a b c:Nat}(h:vZ a b=some c):(b:Int)≠0:=by
 unfold vZ at h;split at h
 ·cases h
 omega
theorem VD{a b c:Int}(h:pB a b=some c):b≠0:=by unfold pB at h;split at h<;>simp_all
theorem VE{a b c:Int}(h:C8 a b=some c):b≠0:=by unfold C8 at h;split at h<;>simp_all
theorem Lh{a b c:Int}(h:pB a b=some c):IntKind.i64.wrap (a.tdiv b)=c:=by
 unfold pB at h;split at h
 ·cases h
 exact Option.some.inj h
theorem VF{a b c:Int}(h:C8 a b=some c):a.tmod b=c:=by
 unfold C8 at h;split at h
 ·cases h
 exact Option.some.inj h
abbrev VG(x:Nat):List SV:=[.v (.int .u8 (x:Nat))]
abbrev aX(x:Nat):List SV:=[.v (.int .u32 (x:Nat))]
abbrev VH(x:Int):List SV:=[.v (.int .i16 x)]
abbrev Li(x:Int):List SV:=[.v (.int .i64 x)]
abbrev eB(x:Bool):List SV:=[.v (.bool x)]
abbrev eS{α:Type}(n:Nat)(e:α->List SV)(l:List α):List SV:=[slc n (l.map e)]
structure Zr where
 neg:Bool
 w:List Nat
structure Qr where
 num:Zr
 den:Zr
abbrev eZ(z:Zr):List SV:=[.v (.bool z.neg),slc 1 (z.w.map aX)]
abbrev eQ(q:Qr):List SV:=[.v (.bool q.num.neg),slc 1 (q.num.w.map aX),.v (.bool q.den.neg),slc 1 (q.den.w.map aX)]
class EL {α:Type} (e:α->List SV) (n:outParam Nat):Prop where
 len:∀x,(e x).length=n
 one:∀x,uf (e x)
instance:EL aX 1:=⟨λ_=>rfl,λ_=>inferInstance⟩
instance:EL eZ 2:=⟨λ_=>rfl,λ_=>inferInstance⟩
instance:EL eQ 4:=⟨λ_=>rfl,λ_=>inferInstance⟩
structure En where
 acc:Int
 kd:Nat
 hour:Int
 g9:Zr
abbrev jT(x:En):List SV:=[.v (.int .i64 x.acc),.v (.int .u8 ((x.kd:Nat):Int)),.v (.int .i64 x.hour),.v (.bool x.g9.neg),slc 1 (x.g9.w.map aX)]
instance:EL jT 5:=⟨λ_=>rfl,λ_=>inferInstance⟩
structure Mv where
 acc:Int
 kd:Nat
 hour:Int
 fj:Qr
abbrev EC(x:Mv):List SV:=[.v (.int .i64 x.acc),.v (.int .u8 ((x.kd:Nat):Int)),.v (.int .i64 x.hour),.v (.bool x.fj.num.neg),slc 1 (x.fj.num.w.map aX),.v (.bool x.fj.den.neg),slc 1 (x.fj.den.w.map aX)]
instance:EL EC 7:=⟨λ_=>rfl,λ_=>inferInstance⟩
abbrev TR(E:TypeId)(sz:Nat){α:Type}(e:α->List SV)(l:List α):Row:=⟨E,sz,l.length,l.flatMap e⟩
theorem aB{α:Type}{n:Nat}{e:α->List SV}:SV.imp (.v (.slice none 0 0)) (slc n (([]:List α).map e)):=λ_ _ h=>.inl ⟨none,h,Y⟩
theorem mG{α:Type}(e:α->List SV)(l:List α):(l.map e).flatten=l.flatMap e:=by rw[List.flatMap_def]
theorem mH{α:Type}{e:α->List SV}{n:Nat}[h:EL e n](l:List α):Rows n (l.map e) (l.flatMap e):=⟨mG e l,λr hr=>by obtain⟨x,_,rfl⟩:=List.mem_map.1 hr;exact h.len x⟩
theorem wO{M:Mem}:∀{l k:List SV} {vs:List Value},SV.dg M (l++k) vs->∃us ws,vs=us++ws/\SV.dg M l us/\SV.dg M k ws
 |[],_,vs,h=>⟨[],vs,Y,aq,h⟩
 |_::_,_,[],h=>h.elim
 |_::l,_,v::vs,h=>by
  obtain⟨us,ws,rfl,h1,h2⟩:=wO (l:=l) h.2;exact⟨v::us,ws,Y,⟨h.1,h1⟩,h2⟩
theorem jy{α:Type}{e:α->List SV}{n:Nat}[h:EL e n](l:List α):∀M vs,SV.dg M (l.flatMap e) vs->∀v∈vs,v.oneCell'=true:=by
 intro M
 induction l with
 |nil=>intro vs hv;cases vs with|nil=>simp|cons _ _=>exact hv.elim
 |cons x l ih=>
  intro vs hv;rw[List.flatMap_cons]at hv;obtain⟨us,ws,rfl,h1,h2⟩:=wO hv;intro v hv;rcases List.mem_append.1 hv with hv|hv
  ·exact(h.one x).h M us h1 v hv
  exact ih ws h2 v hv
theorem uJ{α:Type}{e:α->List SV}{n:Nat}[h:EL e n]:∀{l:List α} {k:Nat} {a:α},l[k]? =some a->((l.flatMap e).drop (k*n)).take n=e a
 |[],_,_,hh=>by simp at hh
 |x::l,0,a,hh=>by
  simp only[List.getElem?_cons_zero,Option.some.injEq]at hh;subst hh;rw[List.flatMap_cons,Nat.zero_mul,List.drop_zero,<-h.len x,List.take_left'];rfl
 |x::l,k+1,a,hh=>by
  rw[List.getElem?_cons_succ]at hh;rw[List.flatMap_cons,show(k+1)*n=(e x).length+k*n by rw[h.len,Nat.add_mul];omega,<-List.drop_drop,List.drop_left']
  ·exact uJ hh
  rfl
theorem zw{α:Type}{e:α->List SV}{n:Nat}[h:EL e n]{y:α}:∀{l:List α} {k:Nat},k<l.length->iu (l.flatMap e) (k*n) (e y)=(l.set k y).flatMap e:=by
 have VI:∀(u:List SV) (a b:List SV) (j:Nat),j+u.length<=a.length->iu (a++b) j u=iu a j u++b:=by
  intro u
  induction u with
  |nil=>intro a b j _;rfl
  |cons s u ih=>
   intro a b j hj;simp only[List.length_cons]at hj;simp only[iu];rw[List.set_append_left _ _ (by omega),ih _ _ _ (by rw[List.length_set];omega)]
 have VJ:∀(u:List SV) (a b:List SV) (j:Nat),iu (a++b) (a.length+j) u=a++iu b j u:=by
  intro u
  induction u with
  |nil=>intro a b j;rfl
  |cons s u ih=>
   intro a b j;simp only[iu];rw[List.set_append_right _ _ (by omega),show a.length+j-a.length=j by omega,show a.length+j+1=a.length+(j+1) by omega,ih]
 have VK:∀(u a:List SV),u.length=a.length->iu a 0 u=u:=by
  have gen:∀(u a p:List SV),u.length=a.length->iu (p++a) p.length u=p++u:=by
   intro u
   induction u with
   |nil=>intro a p ha;have:a=[]:=List.eq_nil_of_length_eq_zero ha.symm;subst this;rfl
   |cons s u ih=>
    intro a p ha;cases a with
    |nil=>cases ha
    |cons t a=>
     simp only[iu];rw[List.set_append_right _ _ (Nat.le_refl _),Nat.sub_self,List.set_cons_zero,show p++s::a=(p++[s])++a by simp,show p.length+1=(p++[s]).length by simp,ih a _ (by simpa using ha)];simp
  intro u a ha;exact gen u a [] ha
 intro l
 induction l with
 |nil=>intro k hk;simp at hk
 |cons x l ih=>
  intro k hk;cases k with
  |zero=>
   rw[List.set_cons_zero,List.flatMap_cons,List.flatMap_cons,Nat.zero_mul,VI _ _ _ _ (by rw[h.len,h.len];omega),VK _ _ (by rw[h.len,h.len])]
  |succ k=>
   simp only[List.length_cons]at hk;rw[List.set_cons_succ,List.flatMap_cons,List.flatMap_cons,show(k+1)*n=(e x).length+k*n by rw[h.len,Nat.add_mul];omega,VJ,ih (by omega)]
end
section
open Go.RowKit
section steps
variable {P:Program}{C:Ctx}{ops:Array Oper}{S:AS}{nd:Bool}{K:List Ac->AS->Prop}{rest:List Oper}{acc:List Ac}
variable {gd:Option (Nat×Bool)}{rg:List Nat}{d:Nat}{ty:TypeId}{pos:String}{aft:Array Edge}{x y z:Operand}{T U E0:TypeId}
variable {α:Type}{l l' k:List α}{e:α->List SV}{n by_:Nat}{zv:Value}
theorem RT.VL(hg:Gd ops S gd rg){s X:SV}(hx:S.ev x=.sv s)(hi:SV.imp s X)(hd:d<S.n)
  (next:RunT P C ops nd K rest (⟨rg++aW x,[],[],⟨some (d,.sv X),[],[]⟩⟩::acc) (S.set d (.sv X))):RunT P C ops nd K (⟨some d,.assign x,ty,pos,aft,gd⟩::rest) acc S:=
 RT.value hg (aW x) [] [] (.sv X) hd (by intro c h;cases h) (λS' ht _ _ E a w h=>by
  have hx':S'.ev x=.sv s:=by rw[bk (λ_ h=>h) ht,hx]
  exact⟨a.eval x,Y,by have:=h.ev x;rw[hx']at this;exact hi _ _ this,dY⟩) next
theorem C9{E:Env}:∀{l l':List SV} {vs:List Value},cX l l'->SV.dg E.M l vs->cn E (l'.map AV.sv) vs:=λhi h=>cn.oY (hi.holds h)
theorem xV(M:Mem):∀l:List Value,SV.dg M (l.map SV.v) l
 |[]=>trivial
 |_::l=>⟨Y,xV M l⟩
theorem RT.Lj(hg:Gd ops S gd rg)[tz:iC P T zv]{cs:List SV}(hi:cX (zv.cells.toList.map SV.v) cs){av:List AV}(VM:cs.map AV.sv=av)(hd:d<S.n)(hb:S.b d=none)(hp:C.eX d=none)
  (next:RunT P C ops nd K rest (⟨rg++[],[d],[],⟨some (d,.ptr d 0),[(d,⟨T,av⟩)],[]⟩⟩::acc) ((S.gC d ⟨T,av⟩).set d (.ptr d 0))):RunT P C ops nd K (⟨some d,.alloc T,ty,pos,aft,gd⟩::rest) acc S:=by
 subst VM;exact RT.BT hg (by intro c h;cases h) [] hd hb hp (λS' _ E a w h=>⟨zv.cells.toList,by simp[execOp,Instr.alloc,newVar,newRow,tz.run],C9 hi (xV _ _),λy hy=>by
  obtain⟨s,_,rfl⟩:=List.mem_map.1 hy;exact dY⟩) next
theorem RT.Lk(hg:Gd ops S gd rg){pl:List (Nat×Nat)}{zc:List Value}[tP:gh P T pl zc]{parts:Array (Nat×Operand)}{qs:List (Nat×List SV)}(hp:jn S parts.toList qs){cs cs':List SV}(hf:nV (λi=>pl[i]?) (zc.map SV.v) qs=some cs)(hi:cX cs cs')(hd:d<S.n)
  (next:RunT P C ops nd K rest (⟨rg++gZ parts.toList,[],[],⟨some (d,.sv (.agg cs')),[],[]⟩⟩::acc) (S.set d (.sv (.agg cs')))):RunT P C ops nd K (⟨some d,.build T parts,ty,pos,aft,gd⟩::rest) acc S:=by
 refine RT.value hg (gZ parts.toList) [] [] (.sv (.agg cs')) hd (by intro c h;cases h) (λS' ht _ _ E a w h=>?_) next
 have hu:=tP.h;cases hT:P.underlying T with
 |none=>rw[hT]at hu;cases hu
 |some u=>
  rw[hT]at hu;cases u with
  |struct fs=>
   simp only at hu;have hz:(zeroValue T).run P w=.ok (.agg ⟨zc⟩) w:=iC.run (t:=⟨tP.hz⟩) w;obtain⟨us,h1,h2,_⟩:=ux h (λi=>pl[i]?) hp ht (cells:=zc.map SV.v) (vs:=zc) (xV _ zc) (List.all_eq_true.1 tP.o) hf;refine⟨.agg ⟨us⟩,?_,⟨us,Y,hi.holds h2⟩,dY⟩;have hm:(fs.mapM (λf=>do pure (f.offset,<-sizeOf f.type):Field->Sem (Nat×Nat))).run P w=.ok pl.toArray w:=by
    have:=mE (P:=P) (w:=w) hu;rw[<-Array.toArray_toList (xs:=fs),List.mapM_toArray];rw[Sem.run_map,this];rfl
   have h1':Instr.fill (λi=>pl.toArray[i]?) ⟨zc⟩ (parts.toList.map λp=>(p.1,a.eval p.2))=some ⟨us⟩:=by simpa using h1
   simp only[execOp,Instr.build,underlying];simp only[Sem.run_bind,hz,Result.andThen_ok,run_program,hT,Sem.run_pure,Value.cells];have hm':(Array.mapM (λf=>do
     let __do_lift<-sizeOf f.type
     pure (f.offset,__do_lift)) fs:Sem _).run P w=.ok pl.toArray w:=hm
   simp only[hm',Result.andThen_ok];have e4:(Array.map (λx=>match x with|(i,x)=>(i,a.eval x)) parts).toList=parts.toList.map λp=>(p.1,a.eval p.2):=by simp
   simp only[e4,h1',Sem.run_pure,Result.andThen_ok]
  |_=>cases hu
theorem Pure.w{f:FuncId}{args args':List SV}{r:SV}(h:Pure P f args r)(hi:cX args' args):Pure P f args' r:=λM w vs hM hv=>h M w vs hM (hi.holds hv)
theorem Pure.r{f:FuncId}{args:List SV}{r r':SV}(h:Pure P f args r)(hi:SV.imp r r'):Pure P f args r':=λM w vs hM hv=>(h M w vs hM hv).mono λ_ _ ⟨v,M',h1,h2,h3,h4,h5,h6⟩=>⟨v,M',h1,h2,h3,h4,hi _ _ h5,h6⟩
theorem RT.Of(hg:Gd ops S gd rg){m:Nat}[tS:dJ P T E0 m]{c:Int}(hx:S.ev x=.sv (slc n (l.map e)))(hd:d<S.n)(hc:(l.length:Int)=c)
  (next:RunT P C ops nd K rest (⟨rg++aW x,[],[],⟨some (d,.sv (.v (.int .i64 c))),[],[]⟩⟩::acc) (S.set d (.sv (.v (.int .i64 c))))):RunT P C ops nd K (⟨some d,.call ⟨.builtin .len,#[x],#[T]⟩,ty,pos,aft,gd⟩::rest) acc S:=
 RT.len hg hx hd (by rw[List.length_map,hc];exact next)
theorem RT.Og(hg:Gd ops S gd rg){m:Nat}[tS:dJ P T E0 m]{i:Nat}{E1:TypeId}{c:Int}(hx:S.ev x=.row i)(hR:S.r i=.live (TR E1 n e l))(hd:d<S.n)(hc:(l.length:Int)=c)
  (next:RunT P C ops nd K rest (⟨rg++aW x,[],[i],⟨some (d,.sv (.v (.int .i64 c))),[],[]⟩⟩::acc) (S.set d (.sv (.v (.int .i64 c))))):RunT P C ops nd K (⟨some d,.call ⟨.builtin .len,#[x],#[T]⟩,ty,pos,aft,gd⟩::rest) acc S:=
 RT.U7 hg hx hR hd (by show RunT _ _ _ _ _ _ (⟨_,_,_,⟨some (d,.sv (.v (.int .i64 (l.length:Int)))),_,_⟩⟩::_) (S.set d (.sv (.v (.int .i64 (l.length:Int)))));rw[hc];exact next)
theorem RT.Ll(hg:Gd ops S gd rg)[tS:dJ P T E0 n]{kk:IntKind}{i:Int}{a:α}(hx:S.ev x=.sv (slc n (l.map e)))(hy:S.ev y=.sv (.v (.int kk i)))(hd:d<S.n)(ha:c7 l i=some a)
  (next:RunT P C ops nd K rest (⟨rg++(aW x++aW y),[],[],⟨some (d,.sv (ref (e a))),[],[]⟩⟩::acc) (S.set d (.sv (ref (e a))))):RunT P C ops nd K (⟨some d,.indexAddr T x y,ty,pos,aft,gd⟩::rest) acc S:=
 RT.indexAddr hg (e a) hx hy hd (kO ha).1 (by rw[List.getElem?_map,(kO ha).2];rfl) next
theorem RT.ED(hg:Gd ops S gd rg)[tS:dJ P T E0 n]{lo hi:Option Operand}(a b:Int)(hx:S.ev x=.sv (slc n (l.map e)))(hlo:uy S 0 lo a)(hhi:uy S l.length hi b)(hd:d<S.n)(h:xS l a b=some l')
  (next:RunT P C ops nd K rest (⟨rg++(aW x++(jo lo++jo hi)),[],[],⟨some (d,.sv (slc n (l'.map e))),[],[]⟩⟩::acc) (S.set d (.sv (slc n (l'.map e))))):RunT P C ops nd K (⟨some d,.slice T x lo hi none,ty,pos,aft,gd⟩::rest) acc S:=by
 obtain⟨h0,h1,h2,h3⟩:=wN h;exact RT.slice hg hx a b hlo (by rw[List.length_map];exact hhi) hd h0 h1 (by rw[List.length_map];exact h2) _ (by rw[BY,h3]) next
theorem RT.Hh(hg:Gd ops S gd rg)[tS:dJ P T E0 n][tE:gH P E0 n by_ zv]{len:Nat}{parts:Array (Nat×Operand)}{qs:List (Nat×List SV)}(hp:jn S parts.toList qs)(hd:d<S.n)
  (hc:kE 0 qs=true) (hl:qs.length=len) (hsz:(qs.all λq=>Nat.beq q.2.length n)=true) (hlen:Nat.ble (len*n) 16777216=true) (BX:(zv.cells.toList.all λv=>v.oneCell')=true) (gN:qs.map (·.2)=l.map e)
  (next:RunT P C ops nd K rest (⟨rg++gZ parts.toList,[],[],⟨some (d,.sv (slc n (l.map e))),[],[]⟩⟩::acc) (S.set d (.sv (slc n (l.map e))))):RunT P C ops nd K (⟨some d,.buildSlice T len parts,ty,pos,aft,gd⟩::rest) acc S:=
 RT.buildSlice hg hp hd hc hl hsz (af hlen) (List.all_eq_true.1 BX) gN next
theorem RT.Hi(hg:Gd ops S gd rg)[tS:dJ P T E0 n][tE:gH P E0 n by_ zv]{len:Nat}{parts:Array (Nat×Operand)}{qs:List (Nat×List SV)}(hp:jn S parts.toList qs)(hd:d<S.n)(qK:S.r d=.un)(oX:d<1000)
  (hc:kE 0 qs=true) (hl:qs.length=len) (hsz:(qs.all λq=>Nat.beq q.2.length n)=true) (hlen:Nat.ble (len*n) 16777216=true) (BX:(zv.cells.toList.all λv=>v.oneCell')=true) (gN:qs.map (·.2)=l.map e)
  (next:RunT P C ops nd K rest (⟨rg++gZ parts.toList,[],[d],⟨some (d,.row d),[],[(d,.live (TR E0 n e l))]⟩⟩::acc) ((AS.bB [(d,.live (TR E0 n e l))] S).set d (.row d))):RunT P C ops nd K (⟨some d,.buildSlice T len parts,ty,pos,aft,gd⟩::rest) acc S:=by
 refine RT.zk hg hp hd qK oX hc hl hsz (af hlen) (List.all_eq_true.1 BX) (cells:=l.flatMap e) (by rw[gN,mG]) ?_;have:len=l.length:=by have h0:=congrArg List.length gN;simpa[hl]using h0
 rw[this];exact next
theorem RT.apR(hg:Gd ops S gd rg)[tS:dJ P T E0 n][tE:gH P E0 n by_ zv]{i:Nat}(hx:S.ev x=.row i)(hR:S.r i=.live (TR E0 n e l))(hy:S.ev y=.sv (slc n (k.map e)))(hd:d<S.n)(qK:S.r d=.un)(oX:d<1000)(h:vY by_ l k=some l')
  (next:RunT P C ops nd K rest (⟨rg++(aW x++aW y),[],[i,d],⟨some (d,.row d),[],[(i,.dead),(d,.live (TR E0 n e l'))]⟩⟩::acc) ((AS.bB [(i,.dead),(d,.live (TR E0 n e l'))] S).set d (.row d))):RunT P C ops nd K (⟨some d,.call ⟨.builtin .append,#[x,y],#[T,T]⟩,ty,pos,aft,gd⟩::rest) acc S:=by
 obtain⟨h1,h2,rfl⟩:=pC h;exact RT.GX hg hx hR hy hd qK oX (by simpa using h1) (by simpa using h2) _ (by simp[mG]) next
theorem RT.VN(hg:Gd ops S gd rg)[tS:dJ P T E0 n][tE:gH P E0 n by_ zv][el:EL e n]{i:Nat}(hx:S.ev x=.row i)(hR:S.r i=.live (TR E0 n e l))(hy:S.ev y=.sv (slc n (k.map e)))(hd:d<S.n)(qK:S.r d=.un)(oX:d<1000)(h:vY by_ l k=some l')
  (next:RunT P C ops nd K rest (⟨rg++(aW x++aW y),[],[d,i],⟨some (d,.sv (slc n (l'.map e))),[],[(i,.dead),(d,.dead)]⟩⟩::acc) ((AS.bB [(i,.dead),(d,.dead)] S).set d (.sv (slc n (l'.map e))))):RunT P C ops nd K (⟨some d,.call ⟨.builtin .append,#[x,y],#[T,T]⟩,ty,pos,aft,gd⟩::rest) acc S:=by
 obtain⟨h1,h2,rfl⟩:=pC h;have hf:l.flatMap e++(k.map e).flatten=(l++k).flatMap e:=by simp[mG]
 exact RT.B6 hg (.row hx hR) hy hd qK oX (by simpa using h1) (by simpa using h2) _ (rows':=(l++k).map e) (λ_ _ h _=>h) (by rw[hf];exact mH _) (by simp) (by rw[hf];exact jy _) next
theorem wP(zc:Array Value)(n:Nat)(hz:zc.size=n)(hn:0<n):∀m:Nat,(madeCells zc (m*n)).toList=(List.replicate m zc.toList).flatten
 |0=>by simp[madeCells]
 |m+1=>by
  have ih:=wP zc n hz hn m;rw[List.replicate_succ',List.flatten_append,<-ih];simp only[madeCells,Array.toList_map,Array.toList_range,List.flatten_cons,List.flatten_nil,List.append_nil];rw[show(m+1)*n=m*n+n by rw[Nat.add_mul];omega,List.range_add,List.map_append,List.map_map];congr 1;apply List.ext_getElem?;intro i;rw[List.getElem?_map];rcases Nat.lt_or_ge i n with hi|hi
  ·rw[List.getElem?_range hi];simp only[Option.map_some,Function.comp];rw[hz,Nat.mul_comm m n,Nat.mul_add_mod,Nat.mod_eq_of_lt hi];rw[getElem!_pos zc i (by omega),Array.getElem?_toList,Array.getElem?_eq_getElem (by omega)]
  rw[List.getElem?_eq_none (by simpa using hi),List.getElem?_eq_none (by simp;omega)];rfl
theorem zx:∀{a b c d:List SV},cX a c->cX b d->cX (a++b) (c++d)
 |[],_,[],_,_,h=>h
 |_::_,_,_::_,_,h,h'=>⟨h.1,zx h.2 h'⟩
 |[],_,_::_,_,h,_=>h.elim
 |_::_,_,[],_,h,_=>h.elim
theorem zy{zl:List Value}{zz:α}(hi:cX (zl.map SV.v) (e zz)):∀m:Nat,cX ((List.replicate m zl).flatten.map SV.v) ((List.replicate m zz).flatMap e)
 |0=>trivial
 |m+1=>by
  rw[List.replicate_succ,List.replicate_succ,List.flatten_cons,List.map_append,List.flatMap_cons];exact zx hi (zy hi m)
theorem RT.zA(hg:Gd ops S gd rg)[tS:dJ P T E0 n][tE:gH P E0 n by_ zv]{kl kc:IntKind}{c:Int}{zz:α}(hx:S.ev x=.sv (.v (.int kl c)))(hy:S.ev y=.sv (.v (.int kc c)))(hd:d<S.n)(qK:S.r d=.un)(oX:d<1000)(hz:zv.cells.size=n)(hn:0<n)(hi:cX (zv.cells.toList.map SV.v) (e zz))(hm:GC by_ c zz=some l')
  (next:RunT P C ops nd K rest (⟨rg++(aW x++aW y),[],[d],⟨some (d,.row d),[],[(d,.live (TR E0 n e l'))]⟩⟩::acc) ((AS.bB [(d,.live (TR E0 n e l'))] S).set d (.row d))):RunT P C ops nd K (⟨some d,.makeSlice T x y,ty,pos,aft,gd⟩::rest) acc S:=by
 obtain⟨h0,hroom,mB,rfl⟩:=Ez hm;refine .inl ⟨_,[],[d],_,?_,next⟩;rintro S' hn' ht _ hr i a w L Q ho ⟨E,h⟩ hL;refine bV (C:=C) ho (hg.wanted h (λs hs=>ht s (List.mem_append_left _ hs)) Y) ?_;have h1:a.eval x=.int kl c:=by have h1:=h.ev x;rw[bk (λ_ h=>List.mem_append_right _ (List.mem_append_left _ h)) ht,hx]at h1;exact h1
 have h2:a.eval y=.int kc c:=by have h2:=h.ev y;rw[bk (λ_ h=>List.mem_append_right _ (List.mem_append_right _ h)) ht,hy]at h2;exact h2
 obtain⟨info,hii,hsz,hby,Ve⟩:=gH.info (P:=P) (E:=E0) (n:=n) (by_:=by_) (z:=zv);obtain⟨m,rfl⟩:=Int.eq_ofNat_of_zero_le h0;have hb':info.bytes*m<=281474976710656:=by
  rw[hby];have:((by_*m:Nat):Int)<=281474976710656:=by rw[Int.natCast_mul];exact hroom
  omega
 obtain⟨w',q1,q2,q3⟩:=run_make_full (P:=P) w 0 T E0 info zv n tS.u hii Ve hsz kl kc m hb' (by unfold maxLen;omega) (Nat.zero_le _);have hr':(execOp a.eval ⟨some d,.makeSlice T x y,ty,pos,aft,gd⟩).run P w=.ok (.value (.slice (some ⟨w.heap.size,0,none⟩) m m)) w':=by
  simp only[execOp,h1,h2];simp[q1]
 have C3:S'.r d=.un:=by rw[hr d (by simp)];exact qK
 have e0:(m:Int).toNat=m:=by simp
 have hall:SV.dg E.M ((List.replicate m zz).flatMap e) (madeCells zv.cells (m*n)).toList:=by
  rw[wP zv.cells n hz hn];exact cX.holds (l:=((List.replicate m zv.cells.toList).flatten.map SV.v)) (zy hi m) (xV _ _)
 have hlen:(List.replicate (m:Int).toNat zz).length=m:=by simp
 refine bW (C:=C) (by intro c h;cases h) hr' (hL _ _ ⟨_,(h.newRow C3 oX [] none (.inl ⟨rfl,rfl⟩) (R':=TR E0 n e (List.replicate (m:Int).toNat zz)) (by show w'.ownsRow 0 E0 n _ (List.replicate (m:Int).toNat zz).length _;rw[hlen];exact q2) (by rw[e0];exact hall) (.inr (.inl rfl)) q3).put (d:=d) (x:=.row d) (v:=.slice (some ⟨w.heap.size,0,none⟩) m m) (by simp[AV.holds]) (by show d<S'.n;omega) ⟨λ_ e=>e.elim,λj e=>?_⟩⟩);cases e;show(AS.kL S' d _).r d≠_;rw[AS.eP];simp
theorem RT.B8(hg:Gd ops S gd rg)[tS:dJ P T E0 n][tE:gH P E0 n by_ zv]{kl kc:IntKind}{c:Int}(hx:S.ev x=.sv (.v (.int kl 0)))(hy:S.ev y=.sv (.v (.int kc c)))(hd:d<S.n)(qK:S.r d=.un)(oX:d<1000)(h:Hf (α:=α) by_ c=some l')
  (next:RunT P C ops nd K rest (⟨rg++(aW x++aW y),[],[d],⟨some (d,.row d),[],[(d,.live (TR E0 n e l'))]⟩⟩::acc) ((AS.bB [(d,.live (TR E0 n e l'))] S).set d (.row d))):RunT P C ops nd K (⟨some d,.makeSlice T x y,ty,pos,aft,gd⟩::rest) acc S:=by
 obtain⟨h0,h1,h2,rfl⟩:=EA h;exact RT.NN hg hx hy hd qK oX h0 h1 h2 next
theorem RT.VO(hg:Gd ops S gd rg)[tS:dJ P T E0 n]{i j:Nat}{E1:TypeId}{kk:IntKind}{v:Int}(hx:S.ev x=.row i)(hR:S.r i=.live (TR E1 n e l))(hy:S.ev y=.sv (.v (.int kk v)))(hd:d<S.n)(h:qO l v=some j)
  (next:RunT P C ops nd K rest (⟨rg++(aW x++aW y),[],[i],⟨some (d,.eW i (j*n)),[],[]⟩⟩::acc) (S.set d (.eW i (j*n)))):RunT P C ops nd K (⟨some d,.indexAddr T x y,ty,pos,aft,gd⟩::rest) acc S:=by
 obtain⟨h0,h1,h2⟩:=Ey h;exact RT.ZV hg (.row hx hR) hy hd h0 h1 (j*n) (by rw[h2];omega) next
theorem RT.Oh(hg:Gd ops S gd rg)[tV:nB P T][el:EL e 1]{i j:Nat}{E1:TypeId}{a:α}{s:SV}(hx:S.ev x=.eW i (j*1))(hR:S.r i=.live (TR E1 1 e l))(ha:l[j]? =some a)(hs:e a=[s])(hd:d<S.n)
  (next:RunT P C ops nd K rest (⟨rg++aW x,[],[i],⟨some (d,.sv s),[],[]⟩⟩::acc) (S.set d (.sv s))):RunT P C ops nd K (⟨some d,.load T x,ty,pos,aft,gd⟩::rest) acc S:=by
 refine RT.ldR hg hx hR (s:=s) ?_ hd next
 have:=uJ (e:=e) ha;rw[hs]at this;have h2:=congrArg (·[0]?) this;simpa[List.getElem?_take]using h2
theorem RT.Oi(hg:Gd ops S gd rg)[tA:qF P T n][el:EL e n]{i j:Nat}{E1:TypeId}{a:α}(hx:S.ev x=.eW i (j*n))(hR:S.r i=.live (TR E1 n e l))(ha:l[j]? =some a)(hd:d<S.n)
  (next:RunT P C ops nd K rest (⟨rg++aW x,[],[i],⟨some (d,.sv (.agg (e a))),[],[]⟩⟩::acc) (S.set d (.sv (.agg (e a))))):RunT P C ops nd K (⟨some d,.load T x,ty,pos,aft,gd⟩::rest) acc S:=
 RT.Vh hg hx hR (uJ ha) (el.len a) hd next
theorem Hj(a:List SV)(k:Nat)(s:SV):a.set k s=iu a k [s]:=rfl
theorem RT.VP(hg:Gd ops S gd rg)[tV:nB P T][el:EL e 1]{i j:Nat}{E1:TypeId}{s:SV}[o1:One s](a:α)(hs:e a=[s])(hx:S.ev x=.eW i (j*1))(hR:S.r i=.live (TR E1 1 e l))(hy:S.ev y=.sv s)(h:stM l j a=some l')
  (next:RunT P C ops nd K rest (⟨rg++(aW x++aW y),[],[i],⟨none,[],[(i,.live (TR E1 1 e l'))]⟩⟩::acc) (AS.bB [(i,.live (TR E1 1 e l'))] S)):RunT P C ops nd K (⟨none,.store T x y,ty,pos,aft,gd⟩::rest) acc S:=by
 obtain⟨h1,rfl⟩:=zu h;refine RT.stR hg hx hR hy (by show j*1+1<=l.length*1;omega) ((l.set j a).flatMap e) (by rw[Hj,<-hs];exact zw h1) ?_;have:(TR E1 1 e (l.set j a))=⟨E1,1,l.length,(l.set j a).flatMap e⟩:=by show Row.mk _ _ _ _=_;rw[List.length_set]
 rw[<-this];exact next
theorem RT.Oj(hg:Gd ops S gd rg)[tA:qF P T n][el:EL e n]{i j:Nat}{E1:TypeId}(a:α)(hx:S.ev x=.eW i (j*n))(hR:S.r i=.live (TR E1 n e l))(hy:S.ev y=.sv (.agg (e a)))(h:stM l j a=some l')
  (next:RunT P C ops nd K rest (⟨rg++(aW x++aW y),[],[i],⟨none,[],[(i,.live (TR E1 n e l'))]⟩⟩::acc) (AS.bB [(i,.live (TR E1 n e l'))] S)):RunT P C ops nd K (⟨none,.store T x y,ty,pos,aft,gd⟩::rest) acc S:=by
 obtain⟨h1,rfl⟩:=zu h;have o1:=el.one a;refine RT.Vi hg hx hR hy (el.len a) (by show j*n+n<=l.length*n;have:=Nat.mul_le_mul_right n h1;rw[Nat.succ_mul]at this;exact this) ((l.set j a).flatMap e) (zw h1) ?_;have:(TR E1 n e (l.set j a))=⟨E1,n,l.length,(l.set j a).flatMap e⟩:=by show Row.mk _ _ _ _=_;rw[List.length_set]
 rw[<-this];exact next
end steps
theorem qQ{S:AS}{i n:Nat}{E1:TypeId}{α:Type}{e:α->List SV}{l:List α}[el:EL e n](hR:S.r i=.live (TR E1 n e l)):kN S (S.jm i (slc n (l.map e))):=by
 rintro C a w ⟨E,h⟩;have hlen:l.length<=9223372036854775807:=by
  obtain⟨⟨vs,ho,hv⟩,_⟩:=h.rx i _ hR;rcases ho.2 with⟨_,q2⟩|⟨g',cap,cur,q1,_,q2,q3,q4,q5,q6⟩
  ·have q2:l.length=0:=q2;omega
  have q3:l.length<=cap:=q3;have:maxLen=9223372036854775807:=by decide
  omega
 exact h.jm hR (mH l) (by rw[List.length_map]) hlen (jy l) (λ_ _ h _=>h)
section control
variable {P:Program}{C:Ctx}{S:AS}{Q:Exit->AS->Prop}
theorem bD{A:Code}{J R:Type}{kB:J->Option R}{fA:(J->Option R)->Option R}{r:R}(h:cW kB fA=some r)(I:J->AS)
  (hA:fA kB=some r->Ok P C A S (aV (λS'=>∃j,kB j=some r/\kN S' (I j)) Q)) (hQ:∀j,kB j=some r->Q .normal (I j)):Ok P C A S Q:=λa w hs=>by
 refine wpIn_mono (hA h a w hs) ?_;rintro e a' w' ⟨S',q,hh⟩;cases e with
 |normal=>obtain⟨j,h1,h2⟩:=q;exact⟨_,hQ j h1,h2 C a' w' hh⟩
 |_=>exact⟨S',q,hh⟩
theorem bX{A:Code}{X:Type}(I:X->AS)(p:X->Prop)(hA:Ok P C A S (aV (λS'=>∃j,p j/\kN S' (I j)) Q))(hQ:∀j,p j->Q .normal (I j)):Ok P C A S Q:=λa w hs=>by
 refine wpIn_mono (hA a w hs) ?_;rintro e a' w' ⟨S',q,hh⟩;cases e with
 |normal=>obtain⟨j,h1,h2⟩:=q;exact⟨_,hQ j h1,h2 C a' w' hh⟩
 |_=>exact⟨S',q,hh⟩
theorem bY{c:Code}{T E:Type}{body:T->Option (T⊕E)}{s0:T}{e:E}(h:cI body s0=some e)(I:T->AS)(h0:kN S (I s0))
  (round:∀(s:T) (y:T⊕E) (G:T->Prop),body s=some y->(∀s',y=.inl s'->G s')->(∀e',y=.inr e'->e'=e)->Ok P C c (I s) (aV (λS'=>∃s',G s'/\kN S' (I s')) Q)):Ok P C (.loop c) S Q:=by
 obtain⟨n,hn⟩:=ow h;refine BS (ι:={x:T×Nat//jq body x.2 x.1=some e}) (λx=>I x.1.1) (λx=>x.1.2) ⟨(s0,n),hn⟩ h0 ?_;rintro⟨⟨s,m⟩,hm⟩;cases m with
 |zero=>cases hm
 |succ m=>
  cases hb:body s with
  |none=>simp only[jq,hb]at hm;cases hm
  |some y=>
   refine xJ (round s y (λs'=>jq body m s'=some e) hb ?_ ?_) ?_
   ·rintro s' rfl;simpa only[jq,hb]using hm
   ·rintro e' rfl;simp only[jq,hb]at hm;exact Option.some.inj hm
   intro ex S' q;cases ex with
   |normal=>obtain⟨s',h1,h2⟩:=q;exact⟨⟨(s',m),h1⟩,Nat.lt_succ_self m,h2⟩
   |_=>exact q
end control
end
section
open Go.RowKit
abbrev Lm:=List UInt8
def bs(l:Lm):ByteArray:=⟨⟨l⟩⟩
def nX(l:Lm)(i:Int):Option Nat:=(c7 l i).map UInt8.toNat
theorem Hl(l:Lm):(bs l).size=l.length:=rfl
theorem Ln(l:Lm)(i:Nat):(bs l)[i]? =l[i]? :=by
 rcases Nat.lt_or_ge i l.length with h|h
 ·rw[getElem?_pos (bs l) i h,List.getElem?_eq_getElem h];rfl
 rw[getElem?_neg (bs l) i (by rw[Hl];omega),List.getElem?_eq_none h]
section steps
variable {P:Program}{C:Ctx}{ops:Array Oper}{S:AS}{nd:Bool}{K:List Ac->AS->Prop}{rest:List Oper}{acc:List Ac}
variable {gd:Option (Nat×Bool)}{rg:List Nat}{d:Nat}{ty:TypeId}{pos:String}{aft:Array Edge}{x y z:Operand}{T U E0:TypeId}
variable {l l' k:Lm}
theorem RT.skV{op:Op}{j g:Nat}{b want:Bool}(h1:(ops[j]?).bind (·.dst)=some g)(h2:S.t g=.sv (.v (.bool b)))(hb:b≠want)(hd:d<S.n)
  (next:RunT P C ops nd K rest (⟨[g],[],[],⟨some (d,.sv (.v undef)),[],[]⟩⟩::acc) (S.set d (.sv (.v undef)))):RunT P C ops nd K (⟨some d,op,ty,pos,aft,some (j,want)⟩::rest) acc S:=by
 refine .inl ⟨[g],[],[],⟨some (d,.sv (.v undef)),[],[]⟩,?_,next⟩;rintro S' hn ht _ _ i a w L Q ho ⟨E,h⟩ hL;have hv:=h.tm g;rw[ht g (by simp),h2]at hv;have hv:a.tmps.getD g undef=.bool b:=hv;have yR:a.tmps[g]? =some (.bool b):=by
  rw[Array.getD_eq_getD_getElem?]at hv;cases e:a.tmps[g]? with
  |none=>rw[e]at hv;simp[undef]at hv
  |some x=>rw[e]at hv;simp at hv;rw[hv]
 have hw:Region.wanted ⟨some d,op,ty,pos,aft,some (j,want)⟩ (yielded ops a.tmps)=false:=by
  simp[Region.wanted,yielded,h1,yR,hb]
 simp only[wpOpIn,ho,hw];exact⟨λ_ _=>trivial,hL _ _ ⟨E,h.put (x:=.sv (.v undef)) (v:=undef) Y (by omega) ⟨λ_ h=>h.elim,λ_ h=>h.elim⟩⟩⟩
theorem RT.Ol{op:Op}{j g:Nat}{want:Bool}(h1:(ops[j]?).bind (·.dst)=some g)(h2:S.t g=.sv (.v undef))(hd:d<S.n)
  (next:RunT P C ops nd K rest (⟨[g],[],[],⟨some (d,.sv (.v undef)),[],[]⟩⟩::acc) (S.set d (.sv (.v undef)))):RunT P C ops nd K (⟨some d,op,ty,pos,aft,some (j,want)⟩::rest) acc S:=by
 refine .inl ⟨[g],[],[],⟨some (d,.sv (.v undef)),[],[]⟩,?_,next⟩;rintro S' hn ht _ _ i a w L Q ho ⟨E,h⟩ hL;have hv:=h.tm g;rw[ht g (by simp),h2]at hv;have hv:a.tmps.getD g undef=undef:=hv;rw[Array.getD_eq_getD_getElem?]at hv;have hw:Region.wanted ⟨some d,op,ty,pos,aft,some (j,want)⟩ (yielded ops a.tmps)=false:=by
  cases e:a.tmps[g]? with
  |none=>simp[Region.wanted,yielded,h1,e]
  |some x=>
   rw[e]at hv;simp only[Option.getD_some]at hv;subst hv;simp[Region.wanted,yielded,h1,e,undef]
 simp only[wpOpIn,ho,hw];exact⟨λ_ _=>trivial,hL _ _ ⟨E,h.put (x:=.sv (.v undef)) (v:=undef) Y (by omega) ⟨λ_ h=>h.elim,λ_ h=>h.elim⟩⟩⟩
theorem RT.six(hg:Gd ops S gd rg)[tS:IS P T]{kk:IntKind}{i:Int}{c:Nat}(hx:S.ev x=.sv (.v (.string (bs l))))(hy:S.ev y=.sv (.v (.int kk i)))(hd:d<S.n)(h:nX l i=some c)
  (next:RunT P C ops nd K rest (⟨rg++(aW x++aW y),[],[],⟨some (d,.sv (.v (.int .u8 (c:Nat)))),[],[]⟩⟩::acc) (S.set d (.sv (.v (.int .u8 (c:Nat)))))):RunT P C ops nd K (⟨some d,.index T x y,ty,pos,aft,gd⟩::rest) acc S:=
 RT.AX hg (by intro c h;cases h) hx hy hd (λρ w h1 h2=>by
  unfold nX at h;cases hh:c7 l i with
  |none=>rw[hh]at h;cases h
  |some b=>
   rw[hh]at h;obtain⟨q1,q2⟩:=kO hh;have q3:b.toNat=c:=Option.some.inj h;have q4:(bs l)[i.toNat]? =some b:=by rw[Ln];exact q2
   simp[execOp,h1,h2,Instr.index,asIntOf,underlying,tS.h,q1,q4,q3]) next
end steps
section rows
variable {P:Program}{C:Ctx}{ops:Array Oper}{S:AS}{nd:Bool}{K:List Ac->AS->Prop}{rest:List Oper}{acc:List Ac}
variable {gd:Option (Nat×Bool)}{rg:List Nat}{d:Nat}{ty:TypeId}{pos:String}{aft:Array Edge}{x y z:Operand}{T U E0:TypeId}
variable {α:Type}{l l' k:List α}{e:α->List SV}{n by_:Nat}{zv:Value}
end rows
end
section
open Go.RowKit
def nY{α:Type}(l l':List α):Option Unit:=if l'.length=l.length then some ()else none
theorem iD{α:Type}{l l':List α}{u:Unit}(h:nY l l'=some u):l'.length=l.length:=by
 unfold nY at h;split at h
 ·assumption
 cases h
def Lo{α:Type}(l:List α)(lo hi:Int):Option (Nat×Nat):=if 0<=lo/\lo<l.length/\lo<=hi/\hi<=l.length then some (lo.toNat,(hi-lo).toNat)else none
theorem EE{α:Type}{l:List α}{lo hi:Int}{o n:Nat}(h:Lo l lo hi=some (o,n)):0<=lo/\lo<l.length/\lo<=hi/\hi<=l.length/\lo.toNat=o/\(hi-lo).toNat=n:=by
 unfold Lo at h;split at h
 ·rename_i hh;obtain⟨q1,q2⟩:=Prod.mk.inj (Option.some.inj h);exact⟨hh.1,hh.2.1,hh.2.2.1,hh.2.2.2,q1,q2⟩
 cases h
def GD(o n:Nat)(i:Int):Option Nat:=if 0<=i/\i<n then some (o+i.toNat)else none
theorem EF{o n j:Nat}{i:Int}(h:GD o n i=some j):0<=i/\i<n/\o+i.toNat=j:=by
 unfold GD at h;split at h
 ·rename_i hh;exact⟨hh.1,hh.2,Option.some.inj h⟩
 cases h
def tq:List (List SV)->List (List SV)->Prop
 |[],[]=>True
 |r::l,r'::l'=>cX r r'/\tq l l'
 |_,_=>False
theorem cX.get:∀{l l':List SV} {k:Nat} {s':SV},cX l l'->l'[k]? =some s'->∃s,l[k]? =some s/\SV.imp s s'
 |x::_,y::_,0,_,h,e=>⟨x,Y,by simp at e;subst e;exact h.1⟩
 |_::l,_::l',k+1,_,h,e=>by simpa using cX.get (l:=l) (l':=l') h.2 (by simpa using e)
 |[],[],_,_,_,e=>by simp at e
 |[],_::_,_,_,h,_=>h.elim
 |_::_,[],_,_,h,_=>h.elim
theorem tq.get:∀{l l':List (List SV)} {k:Nat} {s':List SV},tq l l'->l'[k]? =some s'->∃s,l[k]? =some s/\cX s s'
 |x::_,y::_,0,_,h,e=>⟨x,Y,by simp at e;subst e;exact h.1⟩
 |_::l,_::l',k+1,_,h,e=>by simpa using tq.get (l:=l) (l':=l') h.2 (by simpa using e)
 |[],[],_,_,_,e=>by simp at e
 |[],_::_,_,_,h,_=>h.elim
 |_::_,[],_,_,h,_=>h.elim
theorem Ho{α:Type}{e:α->List SV}{l:List α}{n:Nat}{M:Mem}{v:Value}(h:(slc n (l.map e)).h M v):l.length<=9223372036854775807:=by
 rcases h with⟨_,_,h⟩|⟨b,o,c,_,_,h,_⟩
 ·have:l=[]:=by simpa using h
  subst this;simp
 rwa[List.length_map]at h
theorem B9{α:Type}{e:α->List SV}{l:List α}{n:Nat}{M:Mem}{v:Value}(h:(ref [slc n (l.map e)]).h M v):l.length<=9223372036854775807:=by
 obtain⟨b,o,_,h⟩:=h;obtain⟨y,_,_,h⟩:=h 0 _ Y;exact Ho h
theorem oB{l:List Nat}{i:Nat}(h:l.length<=i):l.getD i 0=0:=by simp[List.getD,List.getElem?_eq_none h]
theorem mI{l:List Nat}{i:Nat}(h:i<l.length):l[i]? =some (l.getD i 0):=by simp[List.getD,h]
theorem Bg{α β:Type}(a:List α)(b:List β)(i:Nat)(h:i<=max a.length b.length):(i<max a.length b.length/\i<a.length/\i<b.length)\/(i<max a.length b.length/\i<a.length/\b.length<=i)\/(i<max a.length b.length/\a.length<=i/\i<b.length)\/i=max a.length b.length:=by omega
section steps
variable {P:Program}{C:Ctx}{ops:Array Oper}{S:AS}{nd:Bool}{K:List Ac->AS->Prop}{rest:List Oper}{acc:List Ac}
variable {gd:Option (Nat×Bool)}{rg:List Nat}{d:Nat}{ty:TypeId}{pos:String}{aft:Array Edge}{x y z:Operand}{T U E0:TypeId}
variable {α:Type}{l l' k:List α}{e:α->List SV}{n by_:Nat}{zv:Value}
theorem Lp{E1:TypeId}(h:l'.length=l.length):(⟨E1,n,l.length,l'.flatMap e⟩:Row)=TR E1 n e l':=by show _=Row.mk _ _ _ _;rw[h]
theorem RT.Lq(hg:Gd ops S gd rg){f:FuncId}[er P f]{g:Operand}{xs:Array Operand}{at_:Array TypeId}{args:List AV}{E1:TypeId}{res:AV}(hp:Ba P f args (TR E1 n e l) res (l'.flatMap e))(hlen:l'.length=l.length)(i:Nat)(hR:S.r i=.live (TR E1 n e l))(hrow:args.all AV.qL=true)(hres:res.qL=true)
  (hf:S.ev g=.sv (.v (.func (.func f) #[] #[]))) (hargs:ot S xs.toList (args.map (AV.rU i))) (hd:d<S.n)
  (next:RunT P C ops nd K rest (⟨rg++(aW g++xs.toList.flatMap aW),[],[i],⟨some (d,res.rU i),[],[(i,.live (TR E1 n e l'))]⟩⟩::acc) ((AS.bB [(i,.live (TR E1 n e l'))] S).set d (res.rU i))):RunT P C ops nd K (⟨some d,.call ⟨.value g,xs,at_⟩,ty,pos,aft,gd⟩::rest) acc S:=
 RT.NX hg hp i hR hrow hres hf hargs hd (by rw[Lp hlen];exact next)
theorem RT.Om(hg:Gd ops S gd rg)[tS:dJ P T E0 n]{i o m:Nat}{E1:TypeId}{lo hi:Option Operand}(a b:Int)(hx:S.ev x=.row i)(hR:S.r i=.live (TR E1 n e l))(hlo:uy S 0 lo a)(hhi:uy S l.length hi b)(hd:d<S.n)(h:Lo l a b=some (o,m))
  (next:RunT P C ops nd K rest (⟨rg++(aW x++(jo lo++jo hi)),[],[i],⟨some (d,.jl i (o*n) m),[],[]⟩⟩::acc) (S.set d (.jl i (o*n) m))):RunT P C ops nd K (⟨some d,.slice T x lo hi none,ty,pos,aft,gd⟩::rest) acc S:=by
 obtain⟨h0,h1,h2,h3,h4,h5⟩:=EE h;exact RT.KW hg (.row hx hR) a b hlo hhi hd h0 h1 h2 h3 (o*n) m (by rw[h4];omega) h5 next
theorem RT.Lr(hg:Gd ops S gd rg){m:Nat}[tS:dJ P T E0 m]{i o q:Nat}{c:Int}(hx:S.ev x=.jl i o q)(hd:d<S.n)(hc:(q:Int)=c)
  (next:RunT P C ops nd K rest (⟨rg++aW x,[],[],⟨some (d,.sv (.v (.int .i64 c))),[],[]⟩⟩::acc) (S.set d (.sv (.v (.int .i64 c))))):RunT P C ops nd K (⟨some d,.call ⟨.builtin .len,#[x],#[T]⟩,ty,pos,aft,gd⟩::rest) acc S:=
 RT.NW hg hx hd (by rw[hc];exact next)
theorem RT.zB(hg:Gd ops S gd rg)[tS:dJ P T E0 n]{i o q j:Nat}{kk:IntKind}{v:Int}(hx:S.ev x=.jl i (o*n) q)(hy:S.ev y=.sv (.v (.int kk v)))(hd:d<S.n)(h:GD o q v=some j)
  (next:RunT P C ops nd K rest (⟨rg++(aW x++aW y),[],[],⟨some (d,.eW i (j*n)),[],[]⟩⟩::acc) (S.set d (.eW i (j*n)))):RunT P C ops nd K (⟨some d,.indexAddr T x y,ty,pos,aft,gd⟩::rest) acc S:=by
 obtain⟨h0,h1,h2⟩:=EF h;exact RT.ZV hg (.jl hx) hy hd h0 h1 (j*n) (by rw[<-h2,Nat.add_mul]) next
end steps
def mJ{S:Type}(body:Nat->S->Option S):Nat->S->Option S
 |0,s=>some s
 |n+1,s=>(mJ body n s).bind (body n)
theorem qR{S:Type}{body:Nat->S->Option S}:∀{n:Nat} {s e:S},mJ body n s=some e->∃st:Nat->S,st 0=s/\(∀k,k<n->body k (st k)=some (st (k+1)))/\st n=e
 |0,s,e,h=>⟨λ_=>s,Y,λ_ h=>by omega,Option.some.inj h⟩
 |n+1,s,e,h=>by
  obtain⟨e1,h1,h2⟩:=bind_some (x:=mJ body n s) h;obtain⟨st,q1,q2,q3⟩:=qR h1;refine⟨λk=>if k=n+1 then e else st k,by simpa using q1,λk hk=>?_,by simp⟩;rcases Nat.lt_or_ge k n with hkn|hkn
  ·simpa[show k≠n+1 by omega,show k≠n by omega]using q2 k hkn
  obtain rfl:k=n:=by omega
  simpa[q3]using h2
theorem wQ{S:Type}{body:Nat->S->Option S}(st:Nat->S):∀(n:Nat),(∀k,k<n->body k (st k)=some (st (k+1)))->mJ body n (st 0)=some (st n)
 |0,_=>rfl
 |n+1,h=>by
  rw[mJ,wQ st n (λk hk=>h k (by omega))];exact h n (by omega)
end
section
open Go.RowKit
def EG(es:List (Value×Value)):SV where
 h M v:=∃b,v=.map (some b)/\M b 0=some (.tuple ⟨es.map λp=>.tuple #[p.1,p.2]⟩)
 mono hM h:=by obtain⟨b,e,h⟩:=h;exact⟨b,e,hM _ _ _ h⟩
class Ca (P:Program) (T:TypeId) (k:outParam TypeId) (e:outParam TypeId):Prop where
 u:P.underlying T=some (.map k e)
def wS(k:IntKind)(n:Int):List (Value×Value)->Option Value
 |[]=>none
 |(.int k' m,v)::l=>if k=k' then(if n=m then some v else wS k n l)else none
 |_::_=>none
theorem nZ{k:IntKind}{n:Int}{v:Value}:∀(es:List MapEntry) (i:Nat),wS k n (es.map λe=>(e.key,e.val))=some v->∃j,Instr.findNow (.int k) (.int k n) es i=some (some (j,v))
 |[],_,h=>by simp[wS]at h
 |⟨key,val,born⟩::es,i,h=>by
  cases key with
  |int k' m=>
   simp only[List.map_cons,wS]at h;by_cases hk:k=k'
   ·subst hk;rw[if_pos rfl]at h;by_cases hn:n=m
    ·subst hn;rw[if_pos rfl]at h;cases h;exact⟨i,by simp[Instr.findNow,Instr.sameNow]⟩
    rw[if_neg hn]at h;obtain⟨j,hj⟩:=nZ es (i+1) h;have hb:(n==m)=false:=by simp[hn]
    exact⟨j,by simp[Instr.findNow,Instr.sameNow,hb,hj]⟩
   rw[if_neg hk]at h;cases h
  |_=>simp[wS]at h
theorem Cb:∀(l:List (Value×Value)) (m:List MapEntry),l.map (λp=>Value.tuple #[p.1,p.2])=m.map (λe=>Value.tuple #[e.key,e.val])->m.map (λe=>(e.key,e.val))=l
 |[],[],_=>rfl
 |[],_::_,h=>by simp at h
 |_::_,[],h=>by simp at h
 |(p,q)::l,e::m,h=>by
  simp only[List.map_cons,List.cons.injEq,Value.tuple.injEq]at h⊢;refine⟨?_,Cb l m h.2⟩;have:=h.1;simp at this;rw[this.1,this.2]
theorem EH{es:Array MapEntry}{l:List (Value×Value)}(h:(⟨l.map λp=>.tuple #[p.1,p.2]⟩:Array Value)=GM es):es.toList.map (λe=>(e.key,e.val))=l:=
 Cb l es.toList (congrArg Array.toList h)
theorem getM{P:Program}{w:World}{r:Nat}{es:Array MapEntry}{ck:Nat}(hb:w.heap[r]? =some (.map es ck)):(getObj r).run P w=.ok (.map es ck) w:=by simp[getObj,Sem.run,hb]
theorem VQ{P:Program}{w:World}{r:Nat}{es:Array MapEntry}{ck:Nat}(o:Obj)(hb:w.heap[r]? =some (.map es ck)):(setObj r o).run P w=.ok () {w with heap:=w.heap.setIfInBounds r o}:=by simp[setObj,Sem.run,hb]
theorem Z0{P:Program}{w:World}{kt:TypeId}{k:IntKind}[tI:gL P kt k]{n:Int}(bb:Bool):(Instr.checkKey bb 10000 kt (.int k n)).run P w=.ok () w:=by
 rw[show(10000:Nat)=9999+1 from rfl,Instr.checkKey];simp[underlying,tI.h]
theorem EI{M:Mem}:∀l:List Value,SV.dg M (l.map SV.v) l
 |[]=>trivial
 |_::l=>⟨Y,EI l⟩
section steps
variable {P:Program}{C:Ctx}{ops:Array Oper}{S:AS}{nd:Bool}{K:List Ac->AS->Prop}{rest:List Oper}{acc:List Ac}
variable {gd:Option (Nat×Bool)}{rg:List Nat}{d:Nat}{ty:TypeId}{pos:String}{aft:Array Edge}{x y z:Operand}{T U E0:TypeId}
theorem RT.look(hg:Gd ops S gd rg){kt et:TypeId}[tM:Ca P T kt et]{k:IntKind}[tI:gL P kt k]{es:List (Value×Value)}{n:Int}(cs:List Value)(hx:S.ev x=.sv (EG es))(hy:S.ev y=.sv (.v (.int k n)))(hl:wS k n es=some (.agg ⟨cs⟩))(hd:d<S.n)
  (next:RunT P C ops nd K rest (⟨rg++(aW x++aW y),[],[],⟨some (d,.sv (.agg (cs.map SV.v))),[],[]⟩⟩::acc) (S.set d (.sv (.agg (cs.map SV.v))))):RunT P C ops nd K (⟨some d,.lookup T x y false,ty,pos,aft,gd⟩::rest) acc S:=
 RT.value hg (aW x++aW y) [] [] (.sv (.agg (cs.map SV.v))) hd (by intro c h;cases h) (λS' ht _ _ E a w h=>by
  have h1:=h.ev x;rw[bk (λ_ h=>List.mem_append_left _ h) ht,hx]at h1;have h2:a.eval y=.int k n:=by have h2:=h.ev y;rw[bk (λ_ h=>List.mem_append_right _ h) ht,hy]at h2;exact h2
  obtain⟨b,e,hb⟩:=h1;obtain⟨ms,ck,hm,he⟩:=h.cy _ _ _ hb;have he:=EH he;rw[<-he]at hl;obtain⟨j,hj⟩:=nZ ms.toList 0 hl;refine⟨.agg ⟨cs⟩,?_,⟨cs,Y,?_⟩,dY⟩
  ·have VR:(Instr.findKey kt (.int k n) ms.toList).run P w=.ok (some (j,.agg ⟨cs⟩)) w:=by
    simp[Instr.findKey,underlying,tI.h,hj]
   simp[execOp,e,h2,Instr.lookup,underlying,tM.u,getM hm,Z0,VR]
  exact EI cs) next
def mK(w:World)(ms:Array MapEntry)(ck:Nat):World:=w.alloc (.map ms ck)
theorem qS(w:World)(ms:Array MapEntry)(ck:Nat):(mK w ms ck).heap[w.heap.size]? =some (.map ms ck):=by show(w.heap.push _)[w.heap.size]? =_;simp
theorem run_make{d:Option Nat}{ρ:Operand->Value}{w:World}:(execOp ρ ⟨d,.makeMap T none,ty,pos,aft,none⟩).run P w=.ok (.value (.map (some w.heap.size))) (mK w #[] 0):=by
 simp[execOp,Instr.makeMap,mK]
theorem tu{d:Option Nat}{kt et:TypeId}[tM:Ca P T kt et]{k:IntKind}[tI:gL P kt k]{ρ:Operand->Value}{w:World}{ms:Array MapEntry}{ck:Nat}{n:Int}{v:Value}(hx:ρ x=.map (some w.heap.size))(hy:ρ y=.int k n)(hz:ρ z=v)
  (hf:Instr.findNow (.int k) (.int k n) ms.toList 0=some none):(execOp ρ ⟨d,.insert T x y z,ty,pos,aft,none⟩).run P (mK w ms ck)=.ok .skip (mK w (ms.push ⟨.int k n,v,ck⟩) (ck+1)):=by
 have VR:(Instr.findKey kt (.int k n) ms.toList).run P (mK w ms ck)=.ok none (mK w ms ck):=by
  simp[Instr.findKey,underlying,tI.h,hf]
 have VS:∀o:Obj,{mK w ms ck with heap:=(mK w ms ck).heap.setIfInBounds w.heap.size o}=w.alloc o:=by
  intro o;simp only[mK,World.alloc];congr 1;apply Array.ext';simp
 simp[execOp,hx,hy,hz,Instr.mapUpdate,underlying,tM.u,getM (qS w ms ck),Z0,VR,VQ _ (qS w ms ck)];exact VS _
theorem tv{d:Option Nat}{z0:Value}[tP:gh P U [(0,1)] [z0]]{ρ:Operand->Value}{w:World}{v:Value}(hx:ρ x=v)(hv:v.oneCell'=true):(execOp ρ ⟨d,.build U #[(0,x)],ty,pos,aft,none⟩).run P w=.ok (.value (.agg #[v])) w:=by
 have hu:=tP.h;cases hT:P.underlying U with
 |none=>rw[hT]at hu;cases hu
 |some u=>
  rw[hT]at hu;cases u with
  |struct fs=>
   simp only at hu;have hz:(zeroValue U).run P w=.ok (.agg ⟨[z0]⟩) w:=iC.run (t:=⟨tP.hz⟩) w;have hm:(fs.mapM (λf=>do pure (f.offset,<-sizeOf f.type):Field->Sem (Nat×Nat))).run P w=.ok #[(0,1)] w:=by
    have:=mE (P:=P) (w:=w) hu;rw[<-Array.toArray_toList (xs:=fs),List.mapM_toArray];rw[Sem.run_map,this];rfl
   simp only[execOp,Instr.build,underlying];simp only[Sem.run_bind,hz,Result.andThen_ok,run_program,hT,Sem.run_pure,Value.cells];have hm':(Array.mapM (λf=>do
     let __do_lift<-sizeOf f.type
     pure (f.offset,__do_lift)) fs:Sem _).run P w=.ok #[(0,1)] w:=hm
   simp only[hm',Result.andThen_ok];have h1':Instr.fill (λi=>(#[(0,1)]:Array (Nat×Nat))[i]?) ⟨[z0]⟩ [(0,v)]=some ⟨[v]⟩:=by
    simp[Instr.fill,fG hv]
    try rfl
   have e4:(Array.map (λx=>match x with|(i,x)=>(i,ρ x)) #[(0,x)]).toList=[(0,v)]:=by simp[hx]
   simp only[e4,h1',Sem.run_pure,Result.andThen_ok]
  |_=>cases hu
theorem Hp{Q:Exit->AS->Prop}{id:Nat}{T U kt et t0:TypeId}[tM:Ca P T kt et]{k:IntKind}[tI:gL P kt k]{z0:Value}[tP:gh P U [(0,1)] [z0]]{f1 f2 f3 f4:FuncId}{n1 n2 n3 n4:Int}
  {p0 p1 p2 p3 p4 p5 p6 p7 p8 p9 p10:String} {a0 a1 a2 a3 a4 a5 a6 a7 a8 a9 a10:Array Edge} {u1 u2 u3 u4 u5 u6 u7 u8 u9:TypeId} (hn:7<=S.n)
  (h2:Instr.findNow (.int k) (.int k n2) [⟨.int k n1,.agg #[.func (.func f1) #[] #[]],0⟩] 0=some none)
  (h3:Instr.findNow (.int k) (.int k n3) [⟨.int k n1,.agg #[.func (.func f1) #[] #[]],0⟩,⟨.int k n2,.agg #[.func (.func f2) #[] #[]],1⟩] 0=some none)
  (h4:Instr.findNow (.int k) (.int k n4) [⟨.int k n1,.agg #[.func (.func f1) #[] #[]],0⟩,⟨.int k n2,.agg #[.func (.func f2) #[] #[]],1⟩,⟨.int k n3,.agg #[.func (.func f3) #[] #[]],2⟩] 0=some none)
  (hQ:∀S',S'.t 0=.sv (EG [(.int k n1,.agg #[.func (.func f1) #[] #[]]),(.int k n2,.agg #[.func (.func f2) #[] #[]]),(.int k n3,.agg #[.func (.func f3) #[] #[]]),(.int k n4,.agg #[.func (.func f4) #[] #[]])])->Q .normal S'):
  Ok P C (.region id #[⟨some 1,.makeMap T none,t0,p0,a0,none⟩,⟨some 2,.build U #[(0,.func f1)],u1,p1,a1,none⟩,⟨none,.insert T (.tmp 1) (.const (.int k n1)) (.tmp 2),u2,p2,a2,none⟩,
   ⟨some 3,.build U #[(0,.func f2)],u3,p3,a3,none⟩,⟨none,.insert T (.tmp 1) (.const (.int k n2)) (.tmp 3),u4,p4,a4,none⟩,⟨some 4,.build U #[(0,.func f3)],u5,p5,a5,none⟩,⟨none,.insert T (.tmp 1) (.const (.int k n3)) (.tmp 4),u6,p6,a6,none⟩,
   ⟨some 5,.build U #[(0,.func f4)],u7,p7,a7,none⟩,⟨none,.insert T (.tmp 1) (.const (.int k n4)) (.tmp 5),u8,p8,a8,none⟩,⟨some 6,.move (.tmp 1),u9,p9,a9,none⟩,⟨some 0,.assign (.tmp 6),u9,p10,a10,none⟩] false) S Q:=by
 rintro a w ⟨E,h⟩;refine wpIn_region ?_;show wpOpsIn _ _ _ _ _ [0,1,2,3,4,5,6,7,8,9,10] a w;have hS:∀(S:AS) (d:Nat) (x:AV),(S.set d x).n=S.n:=λ_ _ _=>rfl;rw[wpOpsIn_cons];refine bV (C:=C) rfl rfl (bW (C:=C) (by intro c h;cases h) run_make ?_);have g1:=h.put (d:=1) (x:=.sv (.v (.map (some w.heap.size)))) (v:=.map (some w.heap.size)) Y (by omega) dY;show wpOpsIn _ _ _ _ _ _ (a.put (some 1) _) _;generalize a.put (some 1) (.map (some w.heap.size))=b1 at g1⊢;rw[wpOpsIn_cons];refine bV (C:=C) rfl rfl (bW (C:=C) (by intro c h;cases h) (tv rfl rfl) ?_);have g2:=g1.put (d:=2) (x:=.sv (.v (.agg #[.func (.func f1) #[] #[]]))) (v:=.agg #[.func (.func f1) #[] #[]]) Y (by rw[hS];omega) dY;show wpOpsIn _ _ _ _ _ _ (b1.put (some 2) (.agg #[.func (.func f1) #[] #[]])) _;generalize b1.put (some 2) (.agg #[.func (.func f1) #[] #[]])=b2 at g2⊢;rw[wpOpsIn_cons];refine bV (C:=C) rfl rfl (bW (C:=C) (by intro c h;cases h) (tu (k:=k) (n:=n1) (v:=.agg #[.func (.func f1) #[] #[]]) (g2.ev (.tmp 1)) rfl (g2.ev (.tmp 2)) rfl) ?_);show wpOpsIn _ _ _ _ _ _ (b2.put none undef) _;rw[show b2.put none undef=b2 from rfl,wpOpsIn_cons];refine bV (C:=C) rfl rfl (bW (C:=C) (by intro c h;cases h) (tv rfl rfl) ?_)
 have g3:=g2.put (d:=3) (x:=.sv (.v (.agg #[.func (.func f2) #[] #[]]))) (v:=.agg #[.func (.func f2) #[] #[]]) Y (by rw[hS,hS];omega) dY;show wpOpsIn _ _ _ _ _ _ (b2.put (some 3) (.agg #[.func (.func f2) #[] #[]])) _;generalize b2.put (some 3) (.agg #[.func (.func f2) #[] #[]])=b3 at g3⊢;rw[wpOpsIn_cons];refine bV (C:=C) rfl rfl (bW (C:=C) (by intro c h;cases h) (tu (k:=k) (n:=n2) (v:=.agg #[.func (.func f2) #[] #[]]) (g3.ev (.tmp 1)) rfl (g3.ev (.tmp 3)) (by simpa using h2)) ?_);show wpOpsIn _ _ _ _ _ _ (b3.put none undef) _;rw[show b3.put none undef=b3 from rfl,wpOpsIn_cons];refine bV (C:=C) rfl rfl (bW (C:=C) (by intro c h;cases h) (tv rfl rfl) ?_);have g4:=g3.put (d:=4) (x:=.sv (.v (.agg #[.func (.func f3) #[] #[]]))) (v:=.agg #[.func (.func f3) #[] #[]]) Y (by rw[hS,hS,hS];omega) dY;show wpOpsIn _ _ _ _ _ _ (b3.put (some 4) (.agg #[.func (.func f3) #[] #[]])) _;generalize b3.put (some 4) (.agg #[.func (.func f3) #[] #[]])=b4 at g4⊢;rw[wpOpsIn_cons];refine bV (C:=C) rfl rfl (bW (C:=C) (by intro c h;cases h) (tu (k:=k) (n:=n3) (v:=.agg #[.func (.func f3) #[] #[]]) (g4.ev (.tmp 1)) rfl (g4.ev (.tmp 4)) (by simpa using h3)) ?_);show wpOpsIn _ _ _ _ _ _ (b4.put none undef) _
 rw[show b4.put none undef=b4 from rfl,wpOpsIn_cons];refine bV (C:=C) rfl rfl (bW (C:=C) (by intro c h;cases h) (tv rfl rfl) ?_);have g5:=g4.put (d:=5) (x:=.sv (.v (.agg #[.func (.func f4) #[] #[]]))) (v:=.agg #[.func (.func f4) #[] #[]]) Y (by rw[hS,hS,hS,hS];omega) dY;show wpOpsIn _ _ _ _ _ _ (b4.put (some 5) (.agg #[.func (.func f4) #[] #[]])) _;generalize b4.put (some 5) (.agg #[.func (.func f4) #[] #[]])=b5 at g5⊢;rw[wpOpsIn_cons];refine bV (C:=C) rfl rfl (bW (C:=C) (by intro c h;cases h) (tu (k:=k) (n:=n4) (v:=.agg #[.func (.func f4) #[] #[]]) (g5.ev (.tmp 1)) rfl (g5.ev (.tmp 5)) (by simpa using h4)) ?_);show wpOpsIn _ _ _ _ _ _ (b5.put none undef) _;have e1:b5.eval (.tmp 1)=.map (some w.heap.size):=g5.ev (.tmp 1);obtain⟨ms,Z1⟩:∃ms:Array MapEntry,(((((#[]:Array MapEntry).push ⟨.int k n1,.agg #[.func (.func f1) #[] #[]],0⟩).push ⟨.int k n2,.agg #[.func (.func f2) #[] #[]],0+1⟩).push ⟨.int k n3,.agg #[.func (.func f3) #[] #[]],0+1+1⟩).push ⟨.int k n4,.agg #[.func (.func f4) #[] #[]],0+1+1+1⟩)=ms:=⟨_,Y⟩;rw[Z1];have hno:∀o,E.M w.heap.size o=none:=λo=>by
  cases e:E.M w.heap.size o with
  |none=>rfl
  |some v=>have:=jb h.cy e;omega
 have g6:=g5.grow (M':=λb o=>if b=w.heap.size/\o=0 then some (.tuple (GM ms))else E.M b o) (w':=mK w ms (0+1+1+1+1)) (λb o v e=>by
   have:b≠w.heap.size:=by rintro rfl;rw[hno o]at e;cases e
   simp[this,e]) (λb o v e=>by
   by_cases hb:b=w.heap.size/\o=0
   ·exact .inr (by omega)
   ·simp only[if_neg hb]at e;exact .inl e) (λb o v e=>by
   by_cases hb:b=w.heap.size/\o=0
   ·simp only[if_pos hb]at e;obtain⟨rfl,rfl⟩:=hb;cases e;exact⟨ms,_,qS w ms _,Y⟩
   simp only[if_neg hb]at e;have hlt:=jb h.cy e;refine(h.cy b o v e).same ?_;show(w.heap.push _)[b]? =_;rw[Array.getElem?_push,if_neg (by omega)]) ((Below.refl _ _).alloc (Nat.le_refl _) _)
 have hm:∀X:Env,X.M w.heap.size 0=some (.tuple (GM ms))->(EG [(.int k n1,.agg #[.func (.func f1) #[] #[]]),(.int k n2,.agg #[.func (.func f2) #[] #[]]),(.int k n3,.agg #[.func (.func f3) #[] #[]]),(.int k n4,.agg #[.func (.func f4) #[] #[]])]).h X.M (.map (some w.heap.size)):=λX hX=>by
  refine⟨_,Y,?_⟩;rw[hX,<-Z1];rfl
 have g7:=g6.put (d:=6) (x:=.sv (.v (.map (some w.heap.size)))) (v:=.map (some w.heap.size)) Y (by rw[hS,hS,hS,hS,hS];omega) dY;rw[show b5.put none undef=b5 from rfl,wpOpsIn_cons];refine bV (C:=C) rfl rfl (bW (C:=C) (by intro c h;cases h) (r:=.ok (.value (.map (some w.heap.size))) _) (by show Result.ok (Next.value (b5.eval (.tmp 1))) _=_;rw[e1]) ?_);show wpOpsIn _ _ _ _ _ _ (b5.put (some 6) (.map (some w.heap.size))) _;generalize b5.put (some 6) (.map (some w.heap.size))=b6 at g7⊢;have e6:b6.eval (.tmp 6)=.map (some w.heap.size):=g7.ev (.tmp 6);have g8:=g7.put (d:=0) (x:=.sv (EG [(.int k n1,.agg #[.func (.func f1) #[] #[]]),(.int k n2,.agg #[.func (.func f2) #[] #[]]),(.int k n3,.agg #[.func (.func f3) #[] #[]]),(.int k n4,.agg #[.func (.func f4) #[] #[]])])) (v:=.map (some w.heap.size)) (hm _ (by simp)) (by rw[hS,hS,hS,hS,hS,hS];omega) dY;rw[wpOpsIn_cons];refine bV (C:=C) rfl rfl (bW (C:=C) (by intro c h;cases h) (r:=.ok (.value (.map (some w.heap.size))) _) (by show Result.ok (Next.value (b6.eval (.tmp 6))) _=_;rw[e6]) ?_);show wpOpsIn _ _ _ _ _ _ (b6.put (some 0) (.map (some w.heap.size))) _;rw[wpOpsIn];exact⟨_,hQ _ Y,_,g8⟩
end steps
def Nn(Q:Exit->AS->Prop):Exit->AS->Prop
 |.goto _,_=>False
 |e,S=>Q e S
section scope
variable {P:Program}{C:Ctx}{S:AS}{Q:Exit->AS->Prop}
theorem Nn.n(h:Q .normal S):Nn Q .normal S:=h
theorem Nn.r(h:Q .ret S):Nn Q .ret S:=h
theorem Nn.x{id:Nat}(h:Q (.exit id) S):Nn Q (.exit id) S:=h
end scope
end
end Go.Fw
namespace Go.Proofs.Ytmiflmkdaeianaa
section
open Go.Fw
open Go.Proofs
noncomputable abbrev ah:=Try.prog
instance:gL ah 2 .i64:=⟨by kernel_rfl⟩
instance:gL ah 3 .i64:=⟨by kernel_rfl⟩
instance:nB ah 3:=⟨by kernel_rfl,by kernel_rfl⟩
instance:xL ah 4:=⟨by kernel_rfl⟩
instance:nB ah 4:=⟨by kernel_rfl,by kernel_rfl⟩
instance:gL ah 5 .u8:=⟨by kernel_rfl⟩
instance:nB ah 5:=⟨by kernel_rfl,by kernel_rfl⟩
instance:IS ah 9:=⟨by kernel_rfl⟩
instance:nB ah 22:=⟨by kernel_rfl,by kernel_rfl⟩
instance:iC ah 22 (.slice none 0 0):=⟨by kernel_rfl⟩
instance:dJ ah 22 80 1:=⟨by kernel_rfl,by kernel_rfl⟩
instance:qF ah 24 2:=⟨by kernel_rfl,by kernel_rfl⟩
instance:wK ah 24:=⟨λw=>⟨1,qF.size (T:=24) (n:=2) w⟩⟩
instance:iC ah 24 (.agg #[.bool false,.slice none 0 0]):=⟨by kernel_rfl⟩
instance:gH ah 24 2 32 (.agg #[.bool false,.slice none 0 0]):=⟨by kernel_rfl,by rfl,by decide,by decide⟩
instance:gh ah 24 [(0,1),(1,1)] [.bool false,.slice none 0 0]:=⟨by kernel_rfl,by kernel_rfl,by rfl⟩
instance:vM ah 24 0 0 4:=⟨by kernel_rfl⟩
instance:vM ah 24 1 1 22:=⟨by kernel_rfl⟩
instance:qF ah 26 4:=⟨by kernel_rfl,by kernel_rfl⟩
instance:wK ah 26:=⟨λw=>⟨3,qF.size (T:=26) (n:=4) w⟩⟩
instance:iC ah 26 (.agg #[.bool false,.slice none 0 0,.bool false,.slice none 0 0]):=⟨by kernel_rfl⟩
instance:gH ah 26 4 64 (.agg #[.bool false,.slice none 0 0,.bool false,.slice none 0 0]):=⟨by kernel_rfl,by rfl,by decide,by decide⟩
instance:gh ah 26 [(0,2),(2,2)] [.bool false,.slice none 0 0,.bool false,.slice none 0 0]:=⟨by kernel_rfl,by kernel_rfl,by rfl⟩
instance:vM ah 26 0 0 24:=⟨by kernel_rfl⟩
instance:vM ah 26 1 2 24:=⟨by kernel_rfl⟩
instance:nB ah 28:=⟨by kernel_rfl,by kernel_rfl⟩
instance:gH ah 28 1 24 (.slice none 0 0):=⟨by kernel_rfl,by rfl,by decide,by decide⟩
instance:dJ ah 28 26 4:=⟨by kernel_rfl,by kernel_rfl⟩
instance:dJ ah 33 56 7:=⟨by kernel_rfl,by kernel_rfl⟩
instance:dJ ah 37 24 2:=⟨by kernel_rfl,by kernel_rfl⟩
instance:nB ah 39:=⟨by kernel_rfl,by kernel_rfl⟩
instance:dJ ah 39 43 5:=⟨by kernel_rfl,by kernel_rfl⟩
instance:qF ah 43 5:=⟨by kernel_rfl,by kernel_rfl⟩
instance:iC ah 43 (.agg #[.int .i64 0,.int .u8 0,.int .i64 0,.bool false,.slice none 0 0]):=⟨by kernel_rfl⟩
instance:gH ah 43 5 56 (.agg #[.int .i64 0,.int .u8 0,.int .i64 0,.bool false,.slice none 0 0]):=⟨by kernel_rfl,by rfl,by decide,by decide⟩
instance:gh ah 43 [(0,1),(1,1),(2,1),(3,2)] [.int .i64 0,.int .u8 0,.int .i64 0,.bool false,.slice none 0 0]:=⟨by kernel_rfl,by kernel_rfl,by rfl⟩
instance:vM ah 43 0 0 3:=⟨by kernel_rfl⟩
instance:vM ah 43 1 1 5:=⟨by kernel_rfl⟩
instance:vM ah 43 2 2 3:=⟨by kernel_rfl⟩
instance:vM ah 43 3 3 24:=⟨by kernel_rfl⟩
instance:gH ah 56 7 88 (.agg #[.int .i64 0,.int .u8 0,.int .i64 0,.bool false,.slice none 0 0,.bool false,.slice none 0 0]):=⟨by kernel_rfl,by rfl,by decide,by decide⟩
instance:vM ah 56 0 0 3:=⟨by kernel_rfl⟩
instance:vM ah 56 1 1 5:=⟨by kernel_rfl⟩
instance:vM ah 56 2 2 3:=⟨by kernel_rfl⟩
instance:vM ah 56 3 3 26:=⟨by kernel_rfl⟩
instance:gh ah 66 [(0,1),(1,1)] [.int .i64 0,.slice none 0 0]:=⟨by kernel_rfl,by kernel_rfl,by rfl⟩
instance:vM ah 66 0 0 3:=⟨by kernel_rfl⟩
instance:vM ah 66 1 1 39:=⟨by kernel_rfl⟩
instance:dJ ah 79 28 1:=⟨by kernel_rfl,by kernel_rfl⟩
instance:gL ah 80 .u32:=⟨by kernel_rfl⟩
instance:nB ah 80:=⟨by kernel_rfl,by kernel_rfl⟩
instance:gH ah 80 1 4 (.int .u32 0):=⟨by kernel_rfl,by rfl,by decide,by decide⟩
instance:gL ah 100 .u64:=⟨by kernel_rfl⟩
instance:nB ah 100:=⟨by kernel_rfl,by kernel_rfl⟩
instance:nB ah 113:=⟨by kernel_rfl,by kernel_rfl⟩
instance:gh ah 115 [(0,1)] [.nilFunc]:=⟨by kernel_rfl,by kernel_rfl,by rfl⟩
instance:vM ah 115 0 0 113:=⟨by kernel_rfl⟩
instance:Ca ah 116 5 115:=⟨by kernel_rfl⟩
instance:nB ah 119:=⟨by kernel_rfl,by kernel_rfl⟩
instance:iC ah 119 (.nilFunc):=⟨by kernel_rfl⟩
instance:gL ah 124 .u64:=⟨by kernel_rfl⟩
instance:er ah 9:=⟨by kernel_rfl⟩
instance:er ah 10:=⟨by kernel_rfl⟩
instance:er ah 11:=⟨by kernel_rfl⟩
instance:er ah 12:=⟨by kernel_rfl⟩
instance:er ah 14:=⟨by kernel_rfl⟩
instance:er ah 15:=⟨by kernel_rfl⟩
instance:er ah 16:=⟨by kernel_rfl⟩
instance:er ah 17:=⟨by kernel_rfl⟩
instance:er ah 18:=⟨by kernel_rfl⟩
instance:er ah 19:=⟨by kernel_rfl⟩
instance:er ah 20:=⟨by kernel_rfl⟩
instance:er ah 21:=⟨by kernel_rfl⟩
instance:er ah 25:=⟨by kernel_rfl⟩
instance:er ah 27:=⟨by kernel_rfl⟩
instance:er ah 28:=⟨by kernel_rfl⟩
instance:er ah 31:=⟨by kernel_rfl⟩
instance:er ah 32:=⟨by kernel_rfl⟩
instance:er ah 33:=⟨by kernel_rfl⟩
instance:er ah 34:=⟨by kernel_rfl⟩
instance:er ah 35:=⟨by kernel_rfl⟩
instance:er ah 36:=⟨by kernel_rfl⟩
instance:er ah 39:=⟨by kernel_rfl⟩
instance:er ah 40:=⟨by kernel_rfl⟩
instance:er ah 41:=⟨by kernel_rfl⟩
instance:er ah 50:=⟨by kernel_rfl⟩
instance:er ah 51:=⟨by kernel_rfl⟩
instance:er ah 52:=⟨by kernel_rfl⟩
instance:er ah 53:=⟨by kernel_rfl⟩
instance:er ah 54:=⟨by kernel_rfl⟩
instance:er ah 55:=⟨by kernel_rfl⟩
instance:er ah 56:=⟨by kernel_rfl⟩
instance:er ah 57:=⟨by kernel_rfl⟩
instance:er ah 58:=⟨by kernel_rfl⟩
instance:er ah 61:=⟨by kernel_rfl⟩
instance:er ah 62:=⟨by kernel_rfl⟩
instance:er ah 63:=⟨by kernel_rfl⟩
instance:er ah 64:=⟨by kernel_rfl⟩
instance:er ah 65:=⟨by kernel_rfl⟩
instance:er ah 66:=⟨by kernel_rfl⟩
instance:er ah 67:=⟨by kernel_rfl⟩
instance:er ah 68:=⟨by kernel_rfl⟩
instance:er ah 69:=⟨by kernel_rfl⟩
instance:er ah 70:=⟨by kernel_rfl⟩
instance:er ah 71:=⟨by kernel_rfl⟩
instance:er ah 72:=⟨by kernel_rfl⟩
instance:er ah 73:=⟨by kernel_rfl⟩
instance:er ah 87:=⟨by kernel_rfl⟩
instance:er ah 88:=⟨by kernel_rfl⟩
instance:er ah 89:=⟨by kernel_rfl⟩
instance:er ah 90:=⟨by kernel_rfl⟩
instance:er ah 91:=⟨by kernel_rfl⟩
instance:er ah 92:=⟨by kernel_rfl⟩
instance:er ah 93:=⟨by kernel_rfl⟩
instance:er ah 94:=⟨by kernel_rfl⟩
instance:er ah 106:=⟨by kernel_rfl⟩
instance:er ah 109:=⟨by kernel_rfl⟩
instance:er ah 110:=⟨by kernel_rfl⟩
instance:er ah 111:=⟨by kernel_rfl⟩
instance:er ah 112:=⟨by kernel_rfl⟩
instance:er ah 113:=⟨by kernel_rfl⟩
instance:er ah 114:=⟨by kernel_rfl⟩
instance:er ah 118:=⟨by kernel_rfl⟩
theorem mixed:Try.prog.follows .mixedOrders=true:=by kernel_rfl
end
section
open Go.Fw Go.RowKit
def snap(W:World):Mem:=λb o=>(W.cell? ⟨b,o,none⟩).filter Value.oneCell'
theorem Hq(W:World):(snap W).cy W:=λ_ _ _ e=>by
 obtain⟨e1,e2⟩:=Option.filter_eq_some_iff.1 e;exact .of e1 e2
theorem Hr{W:World}{b o:Nat}{v:Value}(h:W.cell? ⟨b,o,none⟩=some v)(h1:v.oneCell'=true):snap W b o=some v:=Option.filter_eq_some_iff.2 ⟨h,h1⟩
theorem mL{H:Type}{P:Program}{ts:List TypeId}{ds:List (DataW H)}(j:Nat){t:TypeId}{d:DataW H}(h:(DataW.weightsEach P ts ds).all (· <=reachBytes)=true)(ht:ts[j]? =some t)(hd:ds[j]? =some d):(d.weights P t).all (· <=reachBytes)=true:=
 List.all_eq_true.2 λn hn=>List.all_eq_true.1 h n (DataW.weights_mem_each ht hd n hn)
theorem mM{H:Type}{P:Program}{e:TypeId}:∀{ds:List (DataW H)} {d:DataW H},d∈ds->∀n∈d.weights P e,n∈DataW.weightsAll P e ds
 |x::ds,d,h,n,hn=>by
  simp only[DataW.weightsAll,List.mem_append];rcases List.mem_cons.1 h with rfl|h
  ·exact .inl hn
  exact .inr (mM h n hn)
class wU (P:Program) (T:TypeId) {α:Type} (e:α->List SV) (ok:outParam (α->Prop)) (sz:outParam (α->Nat)):Prop where
 h:∀{H:Type} (enc:TypeId×Value->H) (W:World) (fuel:Nat) (cs:List Value) (d:DataW H) (p:List MemPlace),DataW.trod enc P W 0 (λ_=>true) true fuel T cs=some (d,p)->(d.weights P T).all (· <=reachBytes)=true->
  ∃x:α,ok x/\SV.dg (snap W) (e x) cs/\(∀v∈cs,v.oneCell'=true)/\sz x<=Rows.uptoBulk d
section opn
variable {P:Program}{T:TypeId}
theorem Bh{k:IntKind}{n:Int}(h:(Lit.int k n).wf=true):k.min<=n/\n<=k.max:=by simpa[Lit.wf]using h
instance[t:gL P T .i64]:wU P T Li (λx=>-9223372036854775808<=x/\x<=9223372036854775807) (λ_=>1):=⟨λenc W fuel cs d p h zC=>by
 obtain⟨n,rfl,hx,hw⟩:=DataW.trod_int t.h h;cases hx;have:=Bh hw;exact⟨n,by simpa[IntKind.min,IntKind.max,IntKind.signed,IntKind.bits]using this,⟨rfl,aq⟩,by simp[Value.oneCell'],by simp[Rows.uptoBulk]⟩⟩
instance[t:gL P T .i16]:wU P T VH (λx=>-32768<=x/\x<=32767) (λ_=>1):=⟨λenc W fuel cs d p h zC=>by
 obtain⟨n,rfl,hx,hw⟩:=DataW.trod_int t.h h;cases hx;have:=Bh hw;exact⟨n,by simpa[IntKind.min,IntKind.max,IntKind.signed,IntKind.bits]using this,⟨rfl,aq⟩,by simp[Value.oneCell'],by simp[Rows.uptoBulk]⟩⟩
theorem I3{k:IntKind}{M:Nat}{e:Nat->List SV}(t:gL P T k)(hk:k.min=0/\k.max=(M:Int)-1)(he:∀n:Nat,e n=[.v (.int k (n:Int))]):wU P T e (λx=>x<M) (λ_=>1):=⟨λenc W fuel cs d p h zC=>by
 obtain⟨n,rfl,hx,hw⟩:=DataW.trod_int t.h h;cases hx;have:=Bh hw;rw[hk.1,hk.2]at this;obtain⟨m,rfl⟩:=Int.eq_ofNat_of_zero_le this.1;exact⟨m,by omega,by rw[he];exact⟨Y,aq⟩,by simp[Value.oneCell'],by simp[Rows.uptoBulk]⟩⟩
instance[t:gL P T .u8]:wU P T VG (λx=>x<256) (λ_=>1):=I3 t (by decide) (λ_=>rfl)
instance[t:gL P T .u32]:wU P T aX (λx=>x<4294967296) (λ_=>1):=I3 t (by decide) (λ_=>rfl)
instance[t:xL P T]:wU P T eB (λ_=>True) (λ_=>1):=⟨λenc W fuel cs d p h zC=>by
 obtain⟨b,rfl,hx⟩:=DataW.trod_bool t.h h;cases hx;exact⟨b,aq,⟨rfl,aq⟩,by simp[Value.oneCell'],by simp[Rows.uptoBulk]⟩⟩
theorem zD{H α:Type}(sz:α->Nat):∀(xs:List α) (ds:List (DataW H)),xs.length=ds.length->(∀(i:Nat) (x:α) (d:DataW H),xs[i]? =some x->ds[i]? =some d->sz x<=Rows.uptoBulk d)->(xs.map sz).sum<=Rows.uptoBulkAll ds
 |[],[],_,_=>by simp
 |x::xs,d::ds,hl,h=>by
  have h1:=h 0 x d Y Y;have h2:=zD sz xs ds (by simpa using hl) (λi x d e1 e2=>h (i+1) x d (by simpa using e1) (by simpa using e2));simp only[List.map_cons,List.sum_cons,Rows.uptoBulkAll];omega
 |[],_::_,hl,_=>by simp at hl
 |_::_,[],hl,_=>by simp at hl
instance{E:TypeId}{n:Nat}{α:Type}{e:α->List SV}{ok:α->Prop}{sz:α->Nat}{by_:Nat}{zv:Value}[t:dJ P T E n][tE:gH P E n by_ zv][el:EL e n][o:wU P E e ok sz]:wU P T (eS n e) (λl=>l.length*by_<=140737488351232/\∀x∈l,ok x) (λl=>(l.map sz).sum+1):=⟨λ{H} enc W fuel cs d p h zC=>by
 have hcell:P.cellsOf E=n:=by
  have h1:=t.size W;simp only[sizeOf,typeInfo]at h1;cases hi:P.info? E with
  |none=>simp[hi]at h1
  |some i=>simp[hi]at h1;simp[Program.cellsOf,hi,h1]
 have hml:maxLen=9223372036854775807:=by decide
 have hby:P.bytesOf E=by_:=by
  obtain⟨i,hi,_,hb,_⟩:=tE.info;rw[Program.bytesOf,hi];exact hb
 rcases Deep.open_slice t.u h with⟨rfl,hx⟩|⟨a,len,cap,m,n',D,Pl,rfl,_,hl,hm,Z2,hx,hel⟩
 ·cases hx;exact⟨[],⟨by simp,by simp⟩,⟨.inl ⟨none,rfl,rfl⟩,aq⟩,by simp[Value.oneCell'],by simp[Rows.uptoBulk]⟩
 cases hx;rw[if_pos rfl]at Z2;subst Z2;simp only[DataW.weights,t.u,List.all_cons,List.all_append,Bool.and_eq_true,List.length_map,List.length_range,decide_eq_true_eq,hby]at zC;obtain⟨hw0,Z3,VT⟩:=zC;have hwi:∀i,i<m->((D i).weights P E).all (· <=reachBytes)=true:=λi hi=>List.all_eq_true.2 λn hn=>by
  rcases Nat.lt_or_ge i len with q|q
  ·exact List.all_eq_true.1 Z3 n (mM (List.mem_map.2 ⟨i,List.mem_range.2 q,rfl⟩) n hn)
  exact List.all_eq_true.1 VT n (mM (List.mem_map.2 ⟨i-len,List.mem_range.2 (by omega),by rw[show len+(i-len)=i by omega]⟩) n hn)
 have hlb:len*by_<=140737488351232:=Nat.le_trans (Nat.mul_le_mul_right _ (Nat.le_add_right _ _)) hw0;have one:∀i,i<m->∃x,ok x/\sz x<=Rows.uptoBulk (D i)/\∃cs',W.cells? 0 (a.add (i*n)) n=some cs'/\SV.dg (snap W) (e x) cs'/\(∀v∈cs',v.oneCell'=true):=by
  intro i hi;obtain⟨cs',h1,h2⟩:=hel i hi;obtain⟨x,q1,q2,q3,q4⟩:=o.h enc W n' cs' (D i) (Pl i) h2 (hwi i hi);rw[hcell]at h1;exact⟨x,q1,q4,cs',h1,q2,q3⟩
 obtain⟨xs,On,hxs⟩:∃xs:List α,xs.length=len/\∀(i:Nat) (x:α),xs[i]? =some x->ok x/\sz x<=Rows.uptoBulk (D i)/\∃cs',W.cells? 0 (a.add (i*n)) n=some cs'/\SV.dg (snap W) (e x) cs'/\(∀v∈cs',v.oneCell'=true):=by
  clear h hm hel;have:∀k,k<=len->∃xs:List α,xs.length=k/\∀(i:Nat) (x:α),xs[i]? =some x->ok x/\sz x<=Rows.uptoBulk (D i)/\∃cs',W.cells? 0 (a.add (i*n)) n=some cs'/\SV.dg (snap W) (e x) cs'/\(∀v∈cs',v.oneCell'=true):=by
   intro k
   induction k with
   |zero=>intro _;exact⟨[],rfl,by simp⟩
   |succ k ih=>
    intro hk;obtain⟨xs,h1,h2⟩:=ih (by omega);obtain⟨x,hx⟩:=one k (by omega);refine⟨xs++[x],by simp[h1],λi y hy=>?_⟩;rcases Nat.lt_or_ge i k with hi|hi
    ·exact h2 i y (by rwa[List.getElem?_append_left (by omega)]at hy)
    rw[List.getElem?_append_right (by omega)]at hy;have Vg:i=k:=by
     rcases Nat.lt_or_ge (i-xs.length) 1 with q|q
     ·omega
     rw[List.getElem?_eq_none (by simpa using q)]at hy;cases hy
    subst Vg;rw[h1,Nat.sub_self]at hy;simp at hy;subst hy;exact hx
  exact this len (Nat.le_refl _)
 refine⟨xs,⟨by rw[On];exact hlb,λx hx=>?_⟩,⟨?_,aq⟩,by simp[Value.oneCell'],?_⟩
 ·obtain⟨i,hi,rfl⟩:=List.getElem_of_mem hx;exact(hxs i _ (List.getElem?_eq_getElem hi)).1
 ·by_cases h0:xs=[]
  ·subst h0;simp at On;subst On;by_cases hc0:m=0
   ·subst hc0;exact .inl ⟨_,rfl,rfl⟩
   obtain⟨x,_,_,cs',g1,g2,_⟩:=one 0 (by omega);obtain⟨_,g3,g4⟩:=World.cells?_some g1;have hn:0<n:=tE.p;have g5:=g4 0 hn;obtain⟨b,o',spot⟩:=a;have EJ:spot=none:=by
    have:∃v,W.cell? (((⟨b,o',spot⟩:Addr).add (0*n)).add 0)=some v:=by
     rw[g5];exact⟨_,List.getElem?_eq_getElem (by omega)⟩
    obtain⟨v,hv⟩:=this;simpa[Addr.add]using World.cell?_spot hv
   subst EJ;refine .inr ⟨b,o',m,rfl,by simp,by simp,λi row hr=>by simp at hr⟩
  have rW:0<len:=by
   rcases Nat.eq_zero_or_pos len with hz|hz
   ·exact absurd (List.eq_nil_of_length_eq_zero (by omega)) h0
   exact hz
  have hn:0<n:=tE.p;obtain⟨x,_,_,cs',g1,g2,_⟩:=one 0 (by omega);obtain⟨_,g3,g4⟩:=World.cells?_some g1;have g5:=g4 0 hn;obtain⟨b,o',spot⟩:=a;have EJ:spot=none:=by
   have:∃v,W.cell? (((⟨b,o',spot⟩:Addr).add (0*n)).add 0)=some v:=by
    rw[g5];exact⟨_,List.getElem?_eq_getElem (by omega)⟩
   obtain⟨v,hv⟩:=this;simpa[Addr.add]using World.cell?_spot hv
  subst EJ;refine .inr ⟨b,o',m,by rw[List.length_map,On],by rw[List.length_map];omega,by rw[List.length_map];omega,λi row hr=>?_⟩;rw[List.getElem?_map]at hr;cases hx:xs[i]? with
  |none=>rw[hx]at hr;cases hr
  |some y=>
   rw[hx]at hr;have hr:e y=row:=Option.some.inj hr;subst hr;obtain⟨_,_,cs2,k1,k2,k3⟩:=hxs i y hx;obtain⟨_,k4,k5⟩:=World.cells?_some k1;refine⟨el.len y,λk s hk=>?_⟩;obtain⟨u,hu,hs⟩:=k2.get hk;have hkn:k<n:=by have:=(List.getElem?_eq_some_iff.1 hu).1;omega
   have k6:=k5 k hkn;rw[ew,ew,hu]at k6;exact⟨u,Hr k6 (k3 u (List.mem_of_getElem? hu)),k3 u (List.mem_of_getElem? hu),hs⟩
 have hb:Rows.uptoBulk (DataW.slice ((List.range len).map D) ((List.range (m-len)).map λj=>D (len+j)))=Rows.uptoBulkAll ((List.range len).map D)+Rows.uptoBulkAll ((List.range (m-len)).map λj=>D (len+j))+1:=rfl;rw[hb];have:=zD sz xs ((List.range len).map D) (by simp[On]) (λi x d e1 e2=>by
  have hi:i<len:=by have:=(List.getElem?_eq_some_iff.1 e1).1;omega
  simp[hi]at e2;subst e2;exact(hxs i x e1).2.1)
 omega⟩
class To (P:Program) (T:TypeId) (k:outParam Nat):Prop where
 h:(match P.underlying T with|some (.struct fs)=>some fs.size|_=>none)=some k
theorem xW{k:Nat}[s:To P T k]{H:Type}{enc:TypeId×Value->H}{W:World}{fuel:Nat}{cs:List Value}{d:DataW H}{p:List MemPlace}(h:DataW.trod enc P W 0 (λ_=>true) true fuel T cs=some (d,p))(zC:(d.weights P T).all (· <=reachBytes)=true):
  ∃(xs:List (DataW H×List MemPlace)) (n:Nat),d=.agg (xs.map (·.1))/\cs.length=P.cellsOf T/\xs.length=k/\∀(i off:Nat) (U:TypeId),vM P T i off U->DataW.trod enc P W 0 (λ_=>true) true n U ((cs.drop off).take (P.cellsOf U))=xs[i]? /\∀x,xs[i]? =some x->(x.1.weights P U).all (· <=reachBytes)=true:=by
 have hs:=s.h;cases hT:P.underlying T with
 |none=>rw[hT]at hs;cases hs
 |some u=>
  rw[hT]at hs;cases u with
  |struct fs=>
   have hk:fs.size=k:=Option.some.inj hs;obtain⟨xs,n,_,hx,hl,hn,hf⟩:=DataW.trod_struct hT h;have hd:=(Prod.mk.inj hx).1;subst hd;refine⟨xs,n,Y,hl,by omega,λi off U F=>?_⟩;have hF:=F.h;rw[hT]at hF;simp only at hF;cases hg:fs[i]? with
   |none=>rw[hg]at hF;cases hF
   |some f=>
    rw[hg]at hF;simp only[Option.map_some,Option.some.injEq,Prod.mk.injEq]at hF;have:=hf i f hg;rw[hF.1,hF.2]at this;refine⟨this,λx hxi=>?_⟩;simp only[DataW.weights,hT]at zC;exact mL i zC (by rw[List.getElem?_map,Array.getElem?_toList,hg,Option.map_some,hF.2]) (by rw[List.getElem?_map,hxi];rfl)
  |_=>cases hs
class Ls (P:Program) (T:TypeId):Prop where
 h:∀(w:World) (r:Reach) (base:Nat) (v:Value),Value.okWide P w r base T v->v.cells.toList=[v]
instance{k:IntKind}[t:gL P T k]:Ls P T:=⟨λw r base v h=>by
 simp only[Value.okWide,t.h,Cell.okWide,Cell.ok]at h;cases v<;>first|rfl|cases h⟩
instance{E:TypeId}{n:Nat}[t:dJ P T E n]:Ls P T:=⟨λw r base v h=>by
 obtain⟨a,l,c,rfl⟩:=WideShapes.okWide_slice t.u h;rfl⟩
theorem Cc{α:Type}{e:α->List SV}{ok:α->Prop}{sz:α->Nat}[o1:Ls P T][o:wU P T e ok sz]{H:Type}{enc:TypeId×Value->H}{W:World}{r:Reach}{base:Nat}{v:Value}{d:DataW H}{p:List MemPlace}
  (hv:Value.okWide P W r base T v) (h:DataW.Trod enc P W 0 (λ_=>true) true T v d p) (zC:(d.weights P T).all (· <=reachBytes)=true):∃x,ok x/\sz x<=Rows.uptoBulk d/\SV.dg (snap W) (e x) [v]:=by
 obtain⟨fuel,h⟩:=h;rw[o1.h W r base v hv]at h;obtain⟨x,h1,h2,_,h4⟩:=o.h enc W fuel _ d p h zC;exact⟨x,h1,h4,h2⟩
end opn
theorem Hs{f:FuncId}{vs:List Value}{Z4:List SV}{W:World}(hp:Pure ah f Z4 (.v (.bool true)))(h:SV.dg (snap W) Z4 vs):
  Calls ah f ⟨vs⟩ W λe w'=>e=.returned (.bool true)/\Below W.heap.size W w':=
 (hp (snap W) W vs (Hq W) h).mono λ_ _ ⟨v,_,h1,_,_,_,h2,h3⟩=>by
  have h2:v=.bool true:=h2;exact⟨by rw[h1,h2],h3⟩
end
section
open Go.Fw Go.RowKit Go.ChangeShapes Go.WideShapes Go.ChangeAt
theorem VU:ownKnob Try.prog.godebug=none:=by kernel_rfl
theorem zE:laidOutB ah=true:=by kernel_rfl
instance:To ah 24 2:=⟨by kernel_rfl⟩
set_option maxRecDepth 100000 in
instance:wU ah 24 eZ (λ(z:Zr)=>(True/\(z.w.length*4<=140737488351232/\∀x1∈z.w,x1<4294967296))) (λ(z:Zr)=>(1+((z.w.map λx1=>1).sum+1)+1)):=⟨λenc W fuel cs d p h zC=>by
 obtain⟨xs,n,rfl,hl,hn,hf⟩:=xW h zC;have hl:cs.length=2:=hl.trans (by kernel_rfl)
 match xs,hn with
 |[⟨d0,p0⟩,⟨d1,p1⟩],_=>
 match cs,hl with
 |[c0,c1],_=>
 have t0:DataW.trod enc ah W 0 (λ_=>true) true n 4 [c0]=some (d0,p0):=(by have q:=(hf 0 _ _ inferInstance).1;rw[show Try.prog.cellsOf 4=1 by kernel_rfl]at q;exact q);obtain⟨x0,a0,b0,e0,s0⟩:=wU.h (P:=ah) (T:=4) (e:=eB) enc W n _ d0 p0 t0 ((hf 0 _ _ inferInstance).2 _ Y);have t1:DataW.trod enc ah W 0 (λ_=>true) true n 22 [c1]=some (d1,p1):=(by have q:=(hf 1 _ _ inferInstance).1;rw[show Try.prog.cellsOf 22=1 by kernel_rfl]at q;exact q);obtain⟨x1,a1,b1,e1,s1⟩:=wU.h (P:=ah) (T:=22) (e:=(eS 1 aX)) enc W n _ d1 p1 t1 ((hf 1 _ _ inferInstance).2 _ Y);refine⟨⟨x0,x1⟩,⟨a0,a1⟩,⟨b0.1,b1.1,aq⟩,?_,?_⟩
 ·intro v hv;simp only[List.mem_cons,List.not_mem_nil,or_false]at hv;rcases hv with rfl|rfl
  ·exact e0 _ (by simp)
  exact e1 _ (by simp)
 simp only[List.map_cons,List.map_nil,Rows.uptoBulk,Rows.uptoBulkAll];omega⟩
instance:To ah 26 2:=⟨by kernel_rfl⟩
set_option maxRecDepth 100000 in
instance:wU ah 26 eQ (λ(z:Qr)=>((True/\(z.num.w.length*4<=140737488351232/\∀x1∈z.num.w,x1<4294967296))/\(True/\(z.den.w.length*4<=140737488351232/\∀x1∈z.den.w,x1<4294967296)))) (λ(z:Qr)=>((1+((z.num.w.map λx1=>1).sum+1)+1)+(1+((z.den.w.map λx1=>1).sum+1)+1)+1)):=⟨λenc W fuel cs d p h zC=>by
 obtain⟨xs,n,rfl,hl,hn,hf⟩:=xW h zC;have hl:cs.length=4:=hl.trans (by kernel_rfl)
 match xs,hn with
 |[⟨d0,p0⟩,⟨d1,p1⟩],_=>
 match cs,hl with
 |[c0,c1,c2,c3],_=>
 have t0:DataW.trod enc ah W 0 (λ_=>true) true n 24 [c0,c1]=some (d0,p0):=(by have q:=(hf 0 _ _ inferInstance).1;rw[show Try.prog.cellsOf 24=2 by kernel_rfl]at q;exact q);obtain⟨x0,a0,b0,e0,s0⟩:=wU.h (P:=ah) (T:=24) (e:=eZ) enc W n _ d0 p0 t0 ((hf 0 _ _ inferInstance).2 _ Y);have t1:DataW.trod enc ah W 0 (λ_=>true) true n 24 [c2,c3]=some (d1,p1):=(by have q:=(hf 1 _ _ inferInstance).1;rw[show Try.prog.cellsOf 24=2 by kernel_rfl]at q;exact q);obtain⟨x1,a1,b1,e1,s1⟩:=wU.h (P:=ah) (T:=24) (e:=eZ) enc W n _ d1 p1 t1 ((hf 1 _ _ inferInstance).2 _ Y);refine⟨⟨x0,x1⟩,⟨a0,a1⟩,⟨b0.1,b0.2.1,b1.1,b1.2.1,aq⟩,?_,?_⟩
 ·intro v hv;simp only[List.mem_cons,List.not_mem_nil,or_false]at hv;rcases hv with rfl|rfl|rfl|rfl
  ·exact e0 _ (by simp)
  ·exact e0 _ (by simp)
  ·exact e1 _ (by simp)
  exact e1 _ (by simp)
 simp only[List.map_cons,List.map_nil,Rows.uptoBulk,Rows.uptoBulkAll];omega⟩
instance:To ah 56 4:=⟨by kernel_rfl⟩
set_option maxRecDepth 100000 in
instance:wU ah 56 EC (λ(z:Mv)=>((-9223372036854775808<=z.acc/\z.acc<=9223372036854775807)/\z.kd<256/\(-9223372036854775808<=z.hour/\z.hour<=9223372036854775807)/\((True/\(z.fj.num.w.length*4<=140737488351232/\∀x1∈z.fj.num.w,x1<4294967296))/\(True/\(z.fj.den.w.length*4<=140737488351232/\∀x1∈z.fj.den.w,x1<4294967296))))) (λ(z:Mv)=>(1+1+1+((1+((z.fj.num.w.map λx1=>1).sum+1)+1)+(1+((z.fj.den.w.map λx1=>1).sum+1)+1)+1)+1)):=⟨λenc W fuel cs d p h zC=>by
 obtain⟨xs,n,rfl,hl,hn,hf⟩:=xW h zC;have hl:cs.length=7:=hl.trans (by kernel_rfl)
 match xs,hn with
 |[⟨d0,p0⟩,⟨d1,p1⟩,⟨d2,p2⟩,⟨d3,p3⟩],_=>
 match cs,hl with
 |[c0,c1,c2,c3,c4,c5,c6],_=>
 have t0:DataW.trod enc ah W 0 (λ_=>true) true n 3 [c0]=some (d0,p0):=(by have q:=(hf 0 _ _ inferInstance).1;rw[show Try.prog.cellsOf 3=1 by kernel_rfl]at q;exact q);obtain⟨x0,a0,b0,e0,s0⟩:=wU.h (P:=ah) (T:=3) (e:=Li) enc W n _ d0 p0 t0 ((hf 0 _ _ inferInstance).2 _ Y);have t1:DataW.trod enc ah W 0 (λ_=>true) true n 5 [c1]=some (d1,p1):=(by have q:=(hf 1 _ _ inferInstance).1;rw[show Try.prog.cellsOf 5=1 by kernel_rfl]at q;exact q);obtain⟨x1,a1,b1,e1,s1⟩:=wU.h (P:=ah) (T:=5) (e:=VG) enc W n _ d1 p1 t1 ((hf 1 _ _ inferInstance).2 _ Y);have t2:DataW.trod enc ah W 0 (λ_=>true) true n 3 [c2]=some (d2,p2):=(by have q:=(hf 2 _ _ inferInstance).1;rw[show Try.prog.cellsOf 3=1 by kernel_rfl]at q;exact q);obtain⟨x2,a2,b2,e2,s2⟩:=wU.h (P:=ah) (T:=3) (e:=Li) enc W n _ d2 p2 t2 ((hf 2 _ _ inferInstance).2 _ Y);have t3:DataW.trod enc ah W 0 (λ_=>true) true n 26 [c3,c4,c5,c6]=some (d3,p3):=(by have q:=(hf 3 _ _ inferInstance).1;rw[show Try.prog.cellsOf 26=4 by kernel_rfl]at q;exact q);obtain⟨x3,a3,b3,e3,s3⟩:=wU.h (P:=ah) (T:=26) (e:=eQ) enc W n _ d3 p3 t3 ((hf 3 _ _ inferInstance).2 _ Y);refine⟨⟨x0,x1,x2,x3⟩,⟨a0,a1,a2,a3⟩,⟨b0.1,b1.1,b2.1,b3.1,b3.2.1,b3.2.2.1,b3.2.2.2.1,aq⟩,?_,?_⟩
 ·intro v hv;simp only[List.mem_cons,List.not_mem_nil,or_false]at hv;rcases hv with rfl|rfl|rfl|rfl|rfl|rfl|rfl
  ·exact e0 _ (by simp)
  ·exact e1 _ (by simp)
  ·exact e2 _ (by simp)
  ·exact e3 _ (by simp)
  ·exact e3 _ (by simp)
  ·exact e3 _ (by simp)
  exact e3 _ (by simp)
 simp only[List.map_cons,List.map_nil,Rows.uptoBulk,Rows.uptoBulkAll];omega⟩
end
end Go.Proofs.Ytmiflmkdaeianaa
namespace Go.Fw
section
open Go.RowKit
theorem Bi{A B C:AS}(h:kN A B)(k:kN B C):kN A C:=λc a w x=>k c a w (h c a w x)
theorem Da{S:AS}(i o k:Nat)(E0:TypeId)(sz:Nat){T:TypeId}{cells:List AV}(hb:S.b i=some ⟨T,cells⟩)(hc:cells[o]? =some (.sv (.v (.slice none 0 0))))(hk:S.r k=.un)(N4:k<1000):
  kN S ((AS.bB [(k,.live ⟨E0,sz,0,[]⟩)] S).gC i ⟨T,cells.set o (.row k)⟩):=by
 rintro C a w ⟨E,h⟩;have h1:=h.newRow hk N4 [] none (.inl ⟨Y,Y⟩) (R':=⟨E0,sz,0,[]⟩) (World.ownsRow_nil w 0 E0 sz) (vs':=[]) trivial (.inl Y) (lH w none);have xR:(AS.bB [(k,.live ⟨E0,sz,0,[]⟩)] S).b i=some ⟨T,cells⟩:=hb;have hrk:(AS.bB [(k,.live ⟨E0,sz,0,[]⟩)] S).r k≠ .un:=by
  show(AS.kL S k _).r k≠_;rw[AS.eP];simp
 refine⟨_,{h1 with wf:=?_,bx:=λj B hB=>?_,inj:=λj j' B B' hB dL e=>?_,rx:=λj R hR=>?_}⟩
 ·refine⟨λt j hj=>?_,h1.wf.tr,λj B hB x hx m hm=>?_,λj B hB x hx m hm=>?_⟩
  ·obtain⟨B,hB⟩:=h1.wf.tb t j hj;by_cases e:j=i
   ·subst e;exact⟨_,AS.cf _ _ _⟩
   exact⟨B,by rw[AS.bz _ _ _ _ e];exact hB⟩
  ·have key:∃B',(AS.bB [(k,.live ⟨E0,sz,0,[]⟩)] S).b m=some B':=by
    by_cases e:j=i
    ·subst e;rw[AS.cf]at hB;cases hB;rcases List.mem_or_eq_of_mem_set hx with hx|rfl
     ·exact h1.wf.bb j _ xR x hx m hm
     exact hm.elim
    rw[AS.bz _ _ _ _ e]at hB;exact h1.wf.bb j B hB x hx m hm
   obtain⟨B',dL⟩:=key;by_cases e:m=i
   ·subst e;exact⟨_,AS.cf _ _ _⟩
   exact⟨B',by rw[AS.bz _ _ _ _ e];exact dL⟩
  by_cases e:j=i
  ·subst e;rw[AS.cf]at hB;cases hB;rcases List.mem_or_eq_of_mem_set hx with hx|rfl
   ·exact h1.wf.br j _ xR x hx m hm
   cases hm;exact hrk
  rw[AS.bz _ _ _ _ e]at hB;exact h1.wf.br j B hB x hx m hm
 ·by_cases e:j=i
  ·subst e;rw[AS.cf]at hB;cases hB;obtain⟨q1,q2,q3,vs,q4,q5⟩:=h1.bx j _ xR;refine⟨q1,q2,q3,vs,q4,?_⟩;obtain⟨x,hx,hv⟩:=q5.get hc;have hv:x=.slice none 0 0:=hv;have:=cn.set (i:=o) (s:=.row k) (x:=x) q5 (by
    show x=if k=k then _ else _;rw[if_pos rfl];exact hv)
   have he:vs.set o x=vs:=by
    apply List.ext_getElem?;intro n;rw[List.getElem?_set];split
    ·rename_i hn;subst hn;rw[hx];split<;>rename_i hl
     ·rfl
     have:=(List.getElem?_eq_some_iff.1 hx).1;exact absurd this hl
    rfl
   rwa[he]at this
  rw[AS.bz _ _ _ _ e]at hB;exact h1.bx j B hB
 ·have old:∀n B,((AS.bB [(k,.live ⟨E0,sz,0,[]⟩)] S).gC i ⟨T,cells.set o (.row k)⟩).b n=some B->∃B',(AS.bB [(k,.live ⟨E0,sz,0,[]⟩)] S).b n=some B':=λn B hn=>by
   by_cases e:n=i
   ·subst e;exact⟨_,xR⟩
   rw[AS.bz _ _ _ _ e]at hn;exact⟨B,hn⟩
  obtain⟨B1,p1⟩:=old j B hB;obtain⟨B2,p2⟩:=old j' B' dL;exact h1.inj j j' B1 B2 p1 p2 e
 obtain⟨p1,p2⟩:=h1.rx j R hR;refine⟨p1,λg hg=>?_⟩;obtain⟨p3,p4,p5,p6⟩:=p2 g hg;refine⟨p3,p4,p5,λn B hn=>?_⟩;by_cases e:n=i
 ·subst e;exact p6 n _ xR
 rw[AS.bz _ _ _ _ e]at hn;exact p6 n B hn
end
section
open Go.RowKit
section part
variable {P:Program}{C:Ctx}{ops:Array Oper}{acts:List Ac}{S:AS}
theorem o5(listed:Array Bool)(i:Nat)(hs:listed.size=ops.size)(hi:i<ops.size):listed.getD i true=listed.getD i false:=by
 rw[Array.getD_eq_getD_getElem?,Array.getD_eq_getD_getElem?];rw[Array.getElem?_eq_getElem (by omega)];rfl
end part
end
end Go.Fw
namespace Go.Fw.Z
section
open Go.Fw
theorem T{d n:Nat}(h:Nat.ble (d+1) n=true:=by exact rfl):d<n:=tl h
theorem bE{α β:Type}{x:Option α}{f:α->Option β}{r:β}{G:Prop}(h:Option.bind x f=some r)(k:∀a,x=some a->f a=some r->G):G:=by obtain⟨a,h1,h2⟩:=bind_some h;exact k a h1 h2
theorem lE{α β:Type}{v:α}{f:α->Option β}{r:β}{G:Prop}(h:Option.bind (some v) f=some r)(k:∀a,v=a->f a=some r->G):G:=k v Y h
theorem bS{α β:Type}{x:Option α}{f:α->Option β}{r:β}(h:Option.bind x f=some r):∃a,x=some a/\f a=some r:=bind_some h
theorem F{α:Type}{x y:Option α}{r:α}(h:(bif false then x else y)=some r):y=some r:=h
theorem V{α:Type}{x y:Option α}{r:α}(h:(bif true then x else y)=some r):x=some r:=h
theorem O{α:Type}{a b:α}(h:some a=some b):a=b:=Option.some.inj h
def rU(l:List (Nat×Nat))(i:Nat):Nat:=((l.find? λp=>Nat.beq p.1 i).map (·.2)).getD i
def Tp(l:List (Nat×Nat)):AV->AV
 |.row i=>.row (rU l i)
 |.jl i o n=>.jl (rU l i) o n
 |x=>x
def Tq:AV->Bool
 |.eW _ _=>false
 |.cmp _ _=>false
 |_=>true
theorem Z5(l:List (Nat×Nat)){x:AV}(h:Tq x=true):C1 (rU l) (Tp l x) x:=by
 cases x with
 |sv s=>exact .sv au
 |ptr i o=>exact .ptr
 |yP i o n c=>exact .yP
 |row i=>exact .row Y
 |eW i k=>cases h
 |jl i o n=>exact .jl Y
 |ff g js=>exact .ff
 |cmp t js=>cases h
theorem Oo(l:List (Nat×Nat)):∀{xs:List AV},(xs.all Tq)=true->A4 (rU l) (xs.map (Tp l)) xs
 |[],_=>trivial
 |x::xs,h=>by simp only[List.all_cons,Bool.and_eq_true]at h;exact⟨Z5 l h.1,Oo l h.2⟩
theorem wR(l:List (Nat×Nat)){S:AS}{n:Nat}{ts:List (Nat×AV)}{bs:List (Nat×jA)}{rs:List (Nat×Row)}{g:Nat}{go:Bool}
  (ht:ts.map (λp=>S.t p.1)=ts.map (λp=>Tp l p.2):=by exact rfl) (hb:bs.map (λp=>S.b p.1)=bs.map (λp=>some ⟨p.2.T,p.2.cells.map (Tp l)⟩):=by exact rfl) (hr:rs.map (λp=>S.r (rU l p.1))=rs.map (λp=>.live p.2):=by exact rfl)
  (hn:S.n=n:=by exact rfl) (hg:S.g=g:=by exact rfl) (GV:S.go=go:=by exact rfl)
  (hwf:((ts.all λp=>p.2.kD bs rs)&&(bs.all λp=>p.2.cells.all λx=>x.kD bs rs))=true:=by exact rfl) (hσ:((rs.all λp=>rs.all λq=>!(Nat.beq (rU l p.1) (rU l q.1))||Nat.beq p.1 q.1))=true:=by exact rfl)
  (hno:((ts.all λp=>Tq p.2)&&(bs.all λp=>p.2.cells.all Tq))=true:=by exact rfl) (hl:(l.all λp=>Nat.ble (p.1+1) 1000)=true:=by exact rfl):kN S (AS.dm n ts bs rs g go):=by
 simp only[Bool.and_eq_true,List.all_eq_true]at hno;refine fS (rU l) hn hg GV hwf hσ ?_ ?_ ?_ ?_
 ·clear hwf hb hr;obtain⟨h,-⟩:=hno
  induction ts with
  |nil=>trivial
  |cons p ts ih=>
   obtain⟨k,x⟩:=p;simp only[List.map_cons,List.cons.injEq]at ht;refine⟨?_,ih ht.2 (λq hq=>h q (by simp[hq]))⟩;show C1 _ (S.t k) x;rw[ht.1];exact Z5 l (h (k,x) (by simp))
 ·clear hwf ht hr;obtain⟨-,h⟩:=hno
  induction bs with
  |nil=>trivial
  |cons p bs ih=>
   obtain⟨k,x⟩:=p;simp only[List.map_cons,List.cons.injEq]at hb;exact⟨⟨_,hb.1,Oo l (List.all_eq_true.2 (h (k,x) (by simp)))⟩,ih hb.2 (λq hq=>h q (by simp[hq]))⟩
 ·clear hwf ht hb hσ
  induction rs with
  |nil=>trivial
  |cons p rs ih=>
   obtain⟨k,x⟩:=p;simp only[List.map_cons,List.cons.injEq]at hr;exact⟨⟨_,hr.1,cX.refl _⟩,ih hr.2⟩
 intro i hi;unfold rU;have:l.find? (λp=>Nat.beq p.1 i)=none:=by
  rw[List.find?_eq_none];intro p hp e;have h1:=af (List.all_eq_true.1 hl p hp);have h2:=Nat.eq_of_beq_eq_true e;omega
 rw[this];rfl
section
variable {P:Program}{C:Ctx}{S:AS}{Q:Exit->AS->Prop}
theorem qq{x y:Code}(h:Ok P C x S (aV (λS'=>Ok P C y S' Q) Q)):Ok P C (.seq x y) S Q:=cm h
theorem sr{id:Nat}{ops:Array Oper}{y:Code}(h:RunT P C ops true (λ_ S=>aV (λS'=>Ok P C y S' Q) Q .normal S) ops.toList [] S):Ok P C (.seq (.region id ops false) y) S Q:=cm (aZ h)
theorem dn{ops:Array Oper}{acc:List Ac}{next:AS->Prop}(h:next S):RunT P C ops true (λ_ S=>aV next Q .normal S) [] acc S:=h
theorem cF{c:Operand}{x y:Code}(hf:Ok P C y S Q)(hc:S.ev c=.sv (.v (.bool false)):=by exact rfl):Ok P C (.cond c x y) S Q:=iO hc hf
theorem cT{c:Operand}{x y:Code}(ht:Ok P C x S Q)(hc:S.ev c=.sv (.v (.bool true)):=by exact rfl):Ok P C (.cond c x y) S Q:=fP hc ht
theorem fs{c:Operand}{x:Code}{next:AS->Prop}(h:next S)(hc:S.ev c=.sv (.v (.bool false)):=by exact rfl):Ok P C (.cond c x .skip) S (aV next Q):=iO hc (bA h)
theorem R1{A:Prop}{e:Exit}{t:Nat}{s:SV}(h:S.t t=.sv s):(A\/e=e)/\D9 P S [.tmp t] s:=⟨.inr Y,cS (.tmp h .nil) au⟩
theorem R2{A:Prop}{e:Exit}{t u:Nat}{s s':SV}(h:S.t t=.sv s)(h':S.t u=.sv s'):(A\/e=e)/\D9 P S [.tmp t,.tmp u] (.sF [s,s']):=⟨.inr Y,cS (.tmp h (.tmp h' .nil)) au⟩
theorem RZ{A:Prop}{e:Exit}{rs:List ResultVar}{ss:List SV}{r:SV}(h:DU P S rs ss)(h':SV.imp (Ek ss) r:=by exact au):(A\/e=e)/\D9 P S rs r:=⟨.inr Y,cS h h'⟩
end
section
variable {P:Program}{C:Ctx}{ops:Array Oper}{S:AS}{nd:Bool}{K:List Ac->AS->Prop}{rest:List Oper}{acc:List Ac}
variable {gd:Option (Nat×Bool)}{rg:List Nat}{d:Nat}{ty:TypeId}{pos:String}{aft:Array Edge}{x y z:Operand}{T U:TypeId}{k:IntKind}{p q:Int}
theorem pF{s:SV}(hz:S.ev z=.sv s)(next:RunT P C ops nd K rest (⟨[]++(aW x++aW z),[],[],⟨some (d,.sv s),[],[]⟩⟩::acc) (S.set d (.sv s)))(hx:S.ev x=.sv (.v (.bool false)):=by exact rfl)(hd:d<S.n:=by exact tl Y):RunT P C ops nd K (⟨some d,.pick x y z,ty,pos,aft,none⟩::rest) acc S:=
 RT.IU .none hx hz hd next
theorem pT{s:SV}(hy:S.ev y=.sv s)(next:RunT P C ops nd K rest (⟨[]++(aW x++aW y),[],[],⟨some (d,.sv s),[],[]⟩⟩::acc) (S.set d (.sv s)))(hx:S.ev x=.sv (.v (.bool true)):=by exact rfl)(hd:d<S.n:=by exact tl Y):RunT P C ops nd K (⟨some d,.pick x y z,ty,pos,aft,none⟩::rest) acc S:=
 RT.IT .none hx hy hd next
theorem mo{s:AV}(hx:S.ev x=s)(next:RunT P C ops nd K rest (⟨[]++aW x,[],[],⟨some (d,s),[],[]⟩⟩::acc) (S.set d s))(hd:d<S.n:=by exact tl Y):RunT P C ops nd K (⟨some d,.move x,ty,pos,aft,none⟩::rest) acc S:=
 RT.move .none hx hd next
theorem ad(c:Int)(hx:S.ev x=.sv (.v (.int k p)))(hy:S.ev y=.sv (.v (.int k q)))(hc:k.wrap (p+q)=c)(next:RunT P C ops nd K rest (⟨[]++(aW x++aW y),[],[],⟨some (d,.sv (.v (.int k c))),[],[]⟩⟩::acc) (S.set d (.sv (.v (.int k c)))))(hd:d<S.n:=by exact tl Y):RunT P C ops nd K (⟨some d,.binOp .add T x y U,ty,pos,aft,none⟩::rest) acc S:=
 RT.add .none c hx hy hd hc next
theorem cv{j:IntKind}[tT:gL P T j][tU:gL P U k](c:Int){k':IntKind}(hx:S.ev x=.sv (.v (.int k' p)))(hc:k.wrap p=c)(next:RunT P C ops nd K rest (⟨[]++aW x,[],[],⟨some (d,.sv (.v (.int k c))),[],[]⟩⟩::acc) (S.set d (.sv (.v (.int k c)))))(hd:d<S.n:=by exact tl Y):RunT P C ops nd K (⟨some d,.convert T U x,ty,pos,aft,none⟩::rest) acc S:=
 RT.conv .none c hx hd hc next
theorem ls(c:Bool)(hx:S.ev x=.sv (.v (.int k p)))(hy:S.ev y=.sv (.v (.int k q)))(hc:decide (p<q)=c)(next:RunT P C ops nd K rest (⟨[]++(aW x++aW y),[],[],⟨some (d,.sv (.v (.bool c))),[],[]⟩⟩::acc) (S.set d (.sv (.v (.bool c)))))(hd:d<S.n:=by exact tl Y):RunT P C ops nd K (⟨some d,.binOp .lss T x y U,ty,pos,aft,none⟩::rest) acc S:=
 RT.lss .none c hx hy hd hc next
theorem sb(c:Int)(hx:S.ev x=.sv (.v (.int k p)))(hy:S.ev y=.sv (.v (.int k q)))(hc:k.wrap (p-q)=c)(next:RunT P C ops nd K rest (⟨[]++(aW x++aW y),[],[],⟨some (d,.sv (.v (.int k c))),[],[]⟩⟩::acc) (S.set d (.sv (.v (.int k c)))))(hd:d<S.n:=by exact tl Y):RunT P C ops nd K (⟨some d,.binOp .sub T x y U,ty,pos,aft,none⟩::rest) acc S:=
 RT.sub .none c hx hy hd hc next
theorem an{s:AV}(hx:S.ev x=s)(next:RunT P C ops nd K rest (⟨[]++aW x,[],[],⟨some (d,s),[],[]⟩⟩::acc) (S.set d s))(hd:d<S.n:=by exact tl Y):RunT P C ops nd K (⟨some d,.assign x,ty,pos,aft,none⟩::rest) acc S:=
 RT.assign .none hx hd next
theorem gt(c:Bool)(hx:S.ev x=.sv (.v (.int k p)))(hy:S.ev y=.sv (.v (.int k q)))(hc:decide (q<p)=c)(next:RunT P C ops nd K rest (⟨[]++(aW x++aW y),[],[],⟨some (d,.sv (.v (.bool c))),[],[]⟩⟩::acc) (S.set d (.sv (.v (.bool c)))))(hd:d<S.n:=by exact tl Y):RunT P C ops nd K (⟨some d,.binOp .gtr T x y U,ty,pos,aft,none⟩::rest) acc S:=
 RT.gtr .none c hx hy hd hc next
theorem eq(c:Bool)(hx:S.ev x=.sv (.v (.int k p)))(hy:S.ev y=.sv (.v (.int k q)))(hc:(p==q)=c)(next:RunT P C ops nd K rest (⟨[]++(aW x++aW y),[],[],⟨some (d,.sv (.v (.bool c))),[],[]⟩⟩::acc) (S.set d (.sv (.v (.bool c)))))(hd:d<S.n:=by exact tl Y):RunT P C ops nd K (⟨some d,.binOp .eql T x y U,ty,pos,aft,none⟩::rest) acc S:=
 RT.eql .none c hx hy hd hc next
theorem ne(c:Bool)(hx:S.ev x=.sv (.v (.int k p)))(hy:S.ev y=.sv (.v (.int k q)))(hc:(p != q)=c)(next:RunT P C ops nd K rest (⟨[]++(aW x++aW y),[],[],⟨some (d,.sv (.v (.bool c))),[],[]⟩⟩::acc) (S.set d (.sv (.v (.bool c)))))(hd:d<S.n:=by exact tl Y):RunT P C ops nd K (⟨some d,.binOp .neq T x y U,ty,pos,aft,none⟩::rest) acc S:=
 RT.neq .none c hx hy hd hc next
theorem ge(c:Bool)(hx:S.ev x=.sv (.v (.int k p)))(hy:S.ev y=.sv (.v (.int k q)))(hc:decide (q<=p)=c)(next:RunT P C ops nd K rest (⟨[]++(aW x++aW y),[],[],⟨some (d,.sv (.v (.bool c))),[],[]⟩⟩::acc) (S.set d (.sv (.v (.bool c)))))(hd:d<S.n:=by exact tl Y):RunT P C ops nd K (⟨some d,.binOp .geq T x y U,ty,pos,aft,none⟩::rest) acc S:=
 RT.geq .none c hx hy hd hc next
theorem nt{b:Bool}(hx:S.ev x=.sv (.v (.bool b)))(c:Bool)(hc:(!b)=c)(next:RunT P C ops nd K rest (⟨[]++aW x,[],[],⟨some (d,.sv (.v (.bool c))),[],[]⟩⟩::acc) (S.set d (.sv (.v (.bool c)))))(hd:d<S.n:=by exact tl Y):RunT P C ops nd K (⟨some d,.unOp .not T x,ty,pos,aft,none⟩::rest) acc S:=
 RT.not .none hx hd c hc next
theorem gF{j_ g_:Nat}{dS:Bool}{s:SV}(hz:S.ev z=.sv s)(next:RunT P C ops nd K rest (⟨[g_]++(aW x++aW z),[],[],⟨some (d,.sv s),[],[]⟩⟩::acc) (S.set d (.sv s)))(v5:(ops[j_]?).bind (·.dst)=some g_:=by exact rfl)(v7:S.t g_=.sv (.v (.bool dS)):=by exact rfl)(hx:S.ev x=.sv (.v (.bool false)):=by exact rfl)(hd:d<S.n:=by exact tl Y):RunT P C ops nd K (⟨some d,.pick x y z,ty,pos,aft,some (j_,dS)⟩::rest) acc S:=
 RT.IU (.some v5 v7) hx hz hd next
theorem gT{j_ g_:Nat}{dS:Bool}{s:SV}(hy:S.ev y=.sv s)(next:RunT P C ops nd K rest (⟨[g_]++(aW x++aW y),[],[],⟨some (d,.sv s),[],[]⟩⟩::acc) (S.set d (.sv s)))(v5:(ops[j_]?).bind (·.dst)=some g_:=by exact rfl)(v7:S.t g_=.sv (.v (.bool dS)):=by exact rfl)(hx:S.ev x=.sv (.v (.bool true)):=by exact rfl)(hd:d<S.n:=by exact tl Y):RunT P C ops nd K (⟨some d,.pick x y z,ty,pos,aft,some (j_,dS)⟩::rest) acc S:=
 RT.IT (.some v5 v7) hx hy hd next
theorem gq{j_ g_:Nat}{dS:Bool}(c:Bool)(hx:S.ev x=.sv (.v (.int k p)))(hy:S.ev y=.sv (.v (.int k q)))(hc:(p != q)=c)(next:RunT P C ops nd K rest (⟨[g_]++(aW x++aW y),[],[],⟨some (d,.sv (.v (.bool c))),[],[]⟩⟩::acc) (S.set d (.sv (.v (.bool c)))))(v5:(ops[j_]?).bind (·.dst)=some g_:=by exact rfl)(v7:S.t g_=.sv (.v (.bool dS)):=by exact rfl)(hd:d<S.n:=by exact tl Y):RunT P C ops nd K (⟨some d,.binOp .neq T x y U,ty,pos,aft,some (j_,dS)⟩::rest) acc S:=
 RT.neq (.some v5 v7) c hx hy hd hc next
theorem gg{j_ g_:Nat}{dS:Bool}(c:Bool)(hx:S.ev x=.sv (.v (.int k p)))(hy:S.ev y=.sv (.v (.int k q)))(hc:decide (q<p)=c)(next:RunT P C ops nd K rest (⟨[g_]++(aW x++aW y),[],[],⟨some (d,.sv (.v (.bool c))),[],[]⟩⟩::acc) (S.set d (.sv (.v (.bool c)))))(v5:(ops[j_]?).bind (·.dst)=some g_:=by exact rfl)(v7:S.t g_=.sv (.v (.bool dS)):=by exact rfl)(hd:d<S.n:=by exact tl Y):RunT P C ops nd K (⟨some d,.binOp .gtr T x y U,ty,pos,aft,some (j_,dS)⟩::rest) acc S:=
 RT.gtr (.some v5 v7) c hx hy hd hc next
theorem Cd{j_ g_:Nat}{dS:Bool}(c:Bool)(hx:S.ev x=.sv (.v (.int k p)))(hy:S.ev y=.sv (.v (.int k q)))(hc:(p==q)=c)(next:RunT P C ops nd K rest (⟨[g_]++(aW x++aW y),[],[],⟨some (d,.sv (.v (.bool c))),[],[]⟩⟩::acc) (S.set d (.sv (.v (.bool c)))))(v5:(ops[j_]?).bind (·.dst)=some g_:=by exact rfl)(v7:S.t g_=.sv (.v (.bool dS)):=by exact rfl)(hd:d<S.n:=by exact tl Y):RunT P C ops nd K (⟨some d,.binOp .eql T x y U,ty,pos,aft,some (j_,dS)⟩::rest) acc S:=
 RT.eql (.some v5 v7) c hx hy hd hc next
theorem VV{j_ g_:Nat}{dS:Bool}{b:Bool}(hx:S.ev x=.sv (.v (.bool b)))(c:Bool)(hc:(!b)=c)(next:RunT P C ops nd K rest (⟨[g_]++aW x,[],[],⟨some (d,.sv (.v (.bool c))),[],[]⟩⟩::acc) (S.set d (.sv (.v (.bool c)))))(v5:(ops[j_]?).bind (·.dst)=some g_:=by exact rfl)(v7:S.t g_=.sv (.v (.bool dS)):=by exact rfl)(hd:d<S.n:=by exact tl Y):RunT P C ops nd K (⟨some d,.unOp .not T x,ty,pos,aft,some (j_,dS)⟩::rest) acc S:=
 RT.not (.some v5 v7) hx hd c hc next
end
section
variable {P:Program}{C:Ctx}{ops:Array Oper}{S:AS}{nd:Bool}{K:List Ac->AS->Prop}{rest:List Oper}{acc:List Ac}
variable {gd:Option (Nat×Bool)}{rg:List Nat}{d:Nat}{ty:TypeId}{pos:String}{aft:Array Edge}{x y z:Operand}{T U E0:TypeId}
theorem mv{s:SV}(hx:S.ev x=.sv s)(next:RunT P C ops nd K rest (⟨[]++aW x,[],[],⟨some (d,.sv s),[],[]⟩⟩::acc) (S.set d (.sv s)))(hd:d<S.n:=by exact tl Y):RunT P C ops nd K (⟨some d,.move x,ty,pos,aft,none⟩::rest) acc S:=
 RT.mv .none hx hd next
theorem ag{s:SV}(hx:S.ev x=.sv s)(next:RunT P C ops nd K rest (⟨[]++aW x,[],[],⟨some (d,.sv s),[],[]⟩⟩::acc) (S.set d (.sv s)))(hd:d<S.n:=by exact tl Y):RunT P C ops nd K (⟨some d,.assign x,ty,pos,aft,none⟩::rest) acc S:=
 RT.A8 .none hx hd next
theorem cl{f:FuncId}[er P f]{g:Operand}{xs:Array Operand}{at_:Array TypeId}{args:List SV}{r:SV}(hp:Pure P f args r)(hargs:fL S xs.toList args)(next:RunT P C ops nd K rest (⟨[]++(aW g++xs.toList.flatMap aW),[],[],⟨some (d,.sv r),[],[]⟩⟩::acc) (S.set d (.sv r)))(hf:S.ev g=.sv (.v (.func (.func f) #[] #[])):=by exact rfl)(hd:d<S.n:=by exact tl Y):RunT P C ops nd K (⟨some d,.call ⟨.value g,xs,at_⟩,ty,pos,aft,none⟩::rest) acc S:=
 RT.call .none hp hf hargs hd next
theorem ld{n:Nat}[tA:qF P T n]{j off:Nat}{B:jA}{cs:List SV}(hx:S.ev x=.ptr j off)(hB:S.b j=some B)(hcs:DT B.cells off cs)(next:RunT P C ops nd K rest (⟨[]++aW x,[j],[],⟨some (d,.sv (.agg cs)),[],[]⟩⟩::acc) (S.set d (.sv (.agg cs))))(hn:cs.length=n:=by exact rfl)(hd:d<S.n:=by exact tl Y):RunT P C ops nd K (⟨some d,.load T x,ty,pos,aft,none⟩::rest) acc S:=
 RT.load .none hx hB hcs hn hd next
theorem lV[tV:nB P T]{j off:Nat}{B:jA}{s:SV}(hx:S.ev x=.ptr j off)(hB:S.b j=some B)(hn:B.cells[off]? =some (.sv s))(next:RunT P C ops nd K rest (⟨[]++aW x,[j],[],⟨some (d,.sv s),[],[]⟩⟩::acc) (S.set d (.sv s)))(hd:d<S.n:=by exact tl Y):RunT P C ops nd K (⟨some d,.load T x,ty,pos,aft,none⟩::rest) acc S:=
 RT.KU .none hx hB hn hd next
theorem fa{f off:Nat}[hf:vM P T f off U][sU:wK P U]{j o:Nat}(hx:S.ev x=.ptr j o){o':Nat}(ho':o+off=o')(next:RunT P C ops nd K rest (⟨[]++aW x,[],[],⟨some (d,.ptr j o'),[],[]⟩⟩::acc) (S.set d (.ptr j o')))(hd:d<S.n:=by exact tl Y):RunT P C ops nd K (⟨some d,.fieldAddr T x f,ty,pos,aft,none⟩::rest) acc S:=
 RT.fieldAddr .none hx hd ho' next
theorem so{n:Nat}[tA:qF P T n]{j:Nat}{B:jA}{cs:List SV}[o1:uf cs](hx:S.ev x=.ptr j 0)(hB:S.b j=some B)(hy:S.ev y=.sv (.agg cs))(next:RunT P C ops nd K rest (⟨[]++(aW x++aW y),[j],[],⟨none,[(j,⟨B.T,cs.map AV.sv⟩)],[]⟩⟩::acc) (S.gC j ⟨B.T,cs.map AV.sv⟩))(qH:cs.length=n:=by exact rfl)(hn:B.cells.length=n:=by exact rfl):RunT P C ops nd K (⟨none,.store T x y,ty,pos,aft,none⟩::rest) acc S:=
 RT.store .none hx hB hy qH hn next
theorem ex{i:Nat}{ss:List SV}{s:SV}(hx:S.ev x=.sv (.sF ss))(hi:ss[i]? =some s)(next:RunT P C ops nd K rest (⟨[]++aW x,[],[],⟨some (d,.sv s),[],[]⟩⟩::acc) (S.set d (.sv s)))(hd:d<S.n:=by exact tl Y):RunT P C ops nd K (⟨some d,.extract x i,ty,pos,aft,none⟩::rest) acc S:=
 RT.extract .none hx hi hd next
theorem bx{cells:List SV}(hx:S.ev x=.sv (.agg cells))(next:RunT P C ops nd K rest (⟨[]++aW x,[d],[],⟨some (d,.ptr d 0),[(d,⟨T,cells.map AV.sv⟩)],[]⟩⟩::acc) ((S.gC d ⟨T,cells.map AV.sv⟩).set d (.ptr d 0)))(hd:d<S.n:=by exact tl Y)(hb:S.b d=none:=by exact rfl)(hp:C.eX d=none:=by exact rfl):RunT P C ops nd K (⟨some d,.box T x,ty,pos,aft,none⟩::rest) acc S:=
 RT.box .none hx hd hb hp next
theorem lr[tV:nB P T]{cells:List SV}{s:SV}(hx:S.ev x=.sv (ref cells))(hn:cells[0]? =some s)(next:RunT P C ops nd K rest (⟨[]++aW x,[],[],⟨some (d,.sv s),[],[]⟩⟩::acc) (S.set d (.sv s)))(hd:d<S.n:=by exact tl Y):RunT P C ops nd K (⟨some d,.load T x,ty,pos,aft,none⟩::rest) acc S:=
 RT.fJ .none hx hn hd next
theorem cB{f:FuncId}[er P f]{g:Operand}{xs:Array Operand}{at_:Array TypeId}{args:List SV}{T:TypeId}{c0 c1:List SV}{res:SV}(hp:G1 P f args T c0 res c1)(j:Nat)(hB:S.b j=some ⟨T,c0.map AV.sv⟩)(hargs:fL S xs.toList args)(next:RunT P C ops nd K rest (⟨[]++(aW g++xs.toList.flatMap aW),[j],[],⟨some (d,.sv res),[(j,⟨T,c1.map AV.sv⟩)],[]⟩⟩::acc) ((AS.dK [(j,⟨T,c1.map AV.sv⟩)] S).set d (.sv res)))(hf:S.ev g=.ff f [.box j]:=by exact rfl)(hd:d<S.n:=by exact tl Y):RunT P C ops nd K (⟨some d,.call ⟨.value g,xs,at_⟩,ty,pos,aft,none⟩::rest) acc S:=
 RT.N1 .none hp j hB hf hargs hd next
theorem cN{f:FuncId}[er P f]{g:Operand}{xs:Array Operand}{at_:Array TypeId}{args:List SV}{R:Row}(hp:C5 P f args R)(hargs:fL S xs.toList args)(next:RunT P C ops nd K rest (⟨[]++(aW g++xs.toList.flatMap aW),[],[d],⟨some (d,.row d),[],[(d,.live R)]⟩⟩::acc) ((AS.bB [(d,.live R)] S).set d (.row d)))(hf:S.ev g=.sv (.v (.func (.func f) #[] #[])):=by exact rfl)(hd:d<S.n:=by exact tl Y)(qK:S.r d=.un:=by exact rfl)(oX:d<1000:=by exact tl Y):RunT P C ops nd K (⟨some d,.call ⟨.value g,xs,at_⟩,ty,pos,aft,none⟩::rest) acc S:=
 RT.N0 .none hp hf hargs hd qK oX next
theorem gm{j_ g_:Nat}{dS:Bool}{s:SV}(hx:S.ev x=.sv s)(next:RunT P C ops nd K rest (⟨[g_]++aW x,[],[],⟨some (d,.sv s),[],[]⟩⟩::acc) (S.set d (.sv s)))(v5:(ops[j_]?).bind (·.dst)=some g_:=by exact rfl)(v7:S.t g_=.sv (.v (.bool dS)):=by exact rfl)(hd:d<S.n:=by exact tl Y):RunT P C ops nd K (⟨some d,.move x,ty,pos,aft,some (j_,dS)⟩::rest) acc S:=
 RT.mv (.some v5 v7) hx hd next
theorem gl{j_ g_:Nat}{dS:Bool}{n:Nat}[tA:qF P T n]{j off:Nat}{B:jA}{cs:List SV}(hx:S.ev x=.ptr j off)(hB:S.b j=some B)(hcs:DT B.cells off cs)(next:RunT P C ops nd K rest (⟨[g_]++aW x,[j],[],⟨some (d,.sv (.agg cs)),[],[]⟩⟩::acc) (S.set d (.sv (.agg cs))))(v5:(ops[j_]?).bind (·.dst)=some g_:=by exact rfl)(v7:S.t g_=.sv (.v (.bool dS)):=by exact rfl)(hn:cs.length=n:=by exact rfl)(hd:d<S.n:=by exact tl Y):RunT P C ops nd K (⟨some d,.load T x,ty,pos,aft,some (j_,dS)⟩::rest) acc S:=
 RT.load (.some v5 v7) hx hB hcs hn hd next
theorem gc{j_ g_:Nat}{dS:Bool}{f:FuncId}[er P f]{g:Operand}{xs:Array Operand}{at_:Array TypeId}{args:List SV}{r:SV}(hp:Pure P f args r)(hargs:fL S xs.toList args)(next:RunT P C ops nd K rest (⟨[g_]++(aW g++xs.toList.flatMap aW),[],[],⟨some (d,.sv r),[],[]⟩⟩::acc) (S.set d (.sv r)))(v5:(ops[j_]?).bind (·.dst)=some g_:=by exact rfl)(v7:S.t g_=.sv (.v (.bool dS)):=by exact rfl)(hf:S.ev g=.sv (.v (.func (.func f) #[] #[])):=by exact rfl)(hd:d<S.n:=by exact tl Y):RunT P C ops nd K (⟨some d,.call ⟨.value g,xs,at_⟩,ty,pos,aft,some (j_,dS)⟩::rest) acc S:=
 RT.call (.some v5 v7) hp hf hargs hd next
theorem gr{j_ g_:Nat}{dS:Bool}[tV:nB P T]{cells:List SV}{s:SV}(hx:S.ev x=.sv (ref cells))(hn:cells[0]? =some s)(next:RunT P C ops nd K rest (⟨[g_]++aW x,[],[],⟨some (d,.sv s),[],[]⟩⟩::acc) (S.set d (.sv s)))(v5:(ops[j_]?).bind (·.dst)=some g_:=by exact rfl)(v7:S.t g_=.sv (.v (.bool dS)):=by exact rfl)(hd:d<S.n:=by exact tl Y):RunT P C ops nd K (⟨some d,.load T x,ty,pos,aft,some (j_,dS)⟩::rest) acc S:=
 RT.fJ (.some v5 v7) hx hn hd next
end
section
variable {P:Program}{C:Ctx}{ops:Array Oper}{S:AS}{nd:Bool}{K:List Ac->AS->Prop}{rest:List Oper}{acc:List Ac}
variable {gd:Option (Nat×Bool)}{rg:List Nat}{d:Nat}{ty:TypeId}{pos:String}{aft:Array Edge}{x y z:Operand}{T U E0:TypeId}
variable {l l' k:Lm}
theorem ww{op:Op}{j g:Nat}{b want:Bool}(next:RunT P C ops nd K rest (⟨[g],[],[],⟨some (d,.sv (.v undef)),[],[]⟩⟩::acc) (S.set d (.sv (.v undef))))(h1:(ops[j]?).bind (·.dst)=some g:=by exact rfl)(h2:S.t g=.sv (.v (.bool b)):=by exact rfl)(hb:b≠want:=by exact sk Y)(hd:d<S.n:=by exact tl Y):RunT P C ops nd K (⟨some d,op,ty,pos,aft,some (j,want)⟩::rest) acc S:=
 RT.skV h1 h2 hb hd next
theorem wu{op:Op}{j g:Nat}{want:Bool}(next:RunT P C ops nd K rest (⟨[g],[],[],⟨some (d,.sv (.v undef)),[],[]⟩⟩::acc) (S.set d (.sv (.v undef))))(h1:(ops[j]?).bind (·.dst)=some g:=by exact rfl)(h2:S.t g=.sv (.v undef):=by exact rfl)(hd:d<S.n:=by exact tl Y):RunT P C ops nd K (⟨some d,op,ty,pos,aft,some (j,want)⟩::rest) acc S:=
 RT.Ol h1 h2 hd next
end
section
variable {P:Program}{C:Ctx}{ops:Array Oper}{S:AS}{nd:Bool}{K:List Ac->AS->Prop}{rest:List Oper}{acc:List Ac}
variable {gd:Option (Nat×Bool)}{rg:List Nat}{d:Nat}{ty:TypeId}{pos:String}{aft:Array Edge}{x y z:Operand}{T U E0:TypeId}
variable {α:Type}{l l' k:List α}{e:α->List SV}{n by_:Nat}{zv:Value}
theorem ln{m:Nat}[tS:dJ P T E0 m]{c:Int}(hx:S.ev x=.sv (slc n (l.map e)))(hc:(l.length:Int)=c)(next:RunT P C ops nd K rest (⟨[]++aW x,[],[],⟨some (d,.sv (.v (.int .i64 c))),[],[]⟩⟩::acc) (S.set d (.sv (.v (.int .i64 c)))))(hd:d<S.n:=by exact tl Y):RunT P C ops nd K (⟨some d,.call ⟨.builtin .len,#[x],#[T]⟩,ty,pos,aft,none⟩::rest) acc S:=
 RT.Of .none hx hd hc next
theorem al[tz:iC P T zv]{cs:List SV}(hi:cX (zv.cells.toList.map SV.v) cs){av:List AV}(VM:cs.map AV.sv=av)(next:RunT P C ops nd K rest (⟨[]++[],[d],[],⟨some (d,.ptr d 0),[(d,⟨T,av⟩)],[]⟩⟩::acc) ((S.gC d ⟨T,av⟩).set d (.ptr d 0)))(hd:d<S.n:=by exact tl Y)(hb:S.b d=none:=by exact rfl)(hp:C.eX d=none:=by exact rfl):RunT P C ops nd K (⟨some d,.alloc T,ty,pos,aft,none⟩::rest) acc S:=
 RT.Lj .none hi VM hd hb hp next
theorem ix[tS:dJ P T E0 n]{kk:IntKind}{i:Int}{a:α}(hx:S.ev x=.sv (slc n (l.map e)))(hy:S.ev y=.sv (.v (.int kk i)))(ha:c7 l i=some a)(next:RunT P C ops nd K rest (⟨[]++(aW x++aW y),[],[],⟨some (d,.sv (ref (e a))),[],[]⟩⟩::acc) (S.set d (.sv (ref (e a)))))(hd:d<S.n:=by exact tl Y):RunT P C ops nd K (⟨some d,.indexAddr T x y,ty,pos,aft,none⟩::rest) acc S:=
 RT.Ll .none hx hy hd ha next
theorem bl[tS:dJ P T E0 n][tE:gH P E0 n by_ zv]{len:Nat}{parts:Array (Nat×Operand)}{qs:List (Nat×List SV)}(hp:jn S parts.toList qs)(hc:kE 0 qs=true)(hl:qs.length=len)(hsz:(qs.all λq=>Nat.beq q.2.length n)=true)(hlen:Nat.ble (len*n) 16777216=true)(BX:(zv.cells.toList.all λv=>v.oneCell')=true)(gN:qs.map (·.2)=l.map e)(next:RunT P C ops nd K rest (⟨[]++gZ parts.toList,[],[],⟨some (d,.sv (slc n (l.map e))),[],[]⟩⟩::acc) (S.set d (.sv (slc n (l.map e)))))(hd:d<S.n:=by exact tl Y):RunT P C ops nd K (⟨some d,.buildSlice T len parts,ty,pos,aft,none⟩::rest) acc S:=
 RT.Hh .none hp hd hc hl hsz hlen BX gN next
theorem iR[tS:dJ P T E0 n]{i j:Nat}{E1:TypeId}{kk:IntKind}{v:Int}(hx:S.ev x=.row i)(hR:S.r i=.live (TR E1 n e l))(hy:S.ev y=.sv (.v (.int kk v)))(h:qO l v=some j)(next:RunT P C ops nd K rest (⟨[]++(aW x++aW y),[],[i],⟨some (d,.eW i (j*n)),[],[]⟩⟩::acc) (S.set d (.eW i (j*n))))(hd:d<S.n:=by exact tl Y):RunT P C ops nd K (⟨some d,.indexAddr T x y,ty,pos,aft,none⟩::rest) acc S:=
 RT.VO .none hx hR hy hd h next
theorem aI{s X:SV}(hx:S.ev x=.sv s)(hi:SV.imp s X)(next:RunT P C ops nd K rest (⟨[]++aW x,[],[],⟨some (d,.sv X),[],[]⟩⟩::acc) (S.set d (.sv X)))(hd:d<S.n:=by exact tl Y):RunT P C ops nd K (⟨some d,.assign x,ty,pos,aft,none⟩::rest) acc S:=
 RT.VL .none hx hi hd next
theorem bI{pl:List (Nat×Nat)}{zc:List Value}[tP:gh P T pl zc]{parts:Array (Nat×Operand)}{qs:List (Nat×List SV)}(hp:jn S parts.toList qs){cs cs':List SV}(hi:cX cs cs')(next:RunT P C ops nd K rest (⟨[]++gZ parts.toList,[],[],⟨some (d,.sv (.agg cs')),[],[]⟩⟩::acc) (S.set d (.sv (.agg cs'))))(hf:nV (λi=>pl[i]?) (zc.map SV.v) qs=some cs:=by exact rfl)(hd:d<S.n:=by exact tl Y):RunT P C ops nd K (⟨some d,.build T parts,ty,pos,aft,none⟩::rest) acc S:=
 RT.Lk .none hp hf hi hd next
theorem lR[tV:nB P T][el:EL e 1]{i j:Nat}{E1:TypeId}{a:α}{s:SV}(hx:S.ev x=.eW i (j*1))(hR:S.r i=.live (TR E1 1 e l))(ha:l[j]? =some a)(hs:e a=[s])(next:RunT P C ops nd K rest (⟨[]++aW x,[],[i],⟨some (d,.sv s),[],[]⟩⟩::acc) (S.set d (.sv s)))(hd:d<S.n:=by exact tl Y):RunT P C ops nd K (⟨some d,.load T x,ty,pos,aft,none⟩::rest) acc S:=
 RT.Oh .none hx hR ha hs hd next
theorem aR[tS:dJ P T E0 n][tE:gH P E0 n by_ zv]{i:Nat}(hx:S.ev x=.row i)(hR:S.r i=.live (TR E0 n e l))(hy:S.ev y=.sv (slc n (k.map e)))(h:vY by_ l k=some l')(next:RunT P C ops nd K rest (⟨[]++(aW x++aW y),[],[i,d],⟨some (d,.row d),[],[(i,.dead),(d,.live (TR E0 n e l'))]⟩⟩::acc) ((AS.bB [(i,.dead),(d,.live (TR E0 n e l'))] S).set d (.row d)))(hd:d<S.n:=by exact tl Y)(qK:S.r d=.un:=by exact rfl)(oX:d<1000:=by exact tl Y):RunT P C ops nd K (⟨some d,.call ⟨.builtin .append,#[x,y],#[T,T]⟩,ty,pos,aft,none⟩::rest) acc S:=
 RT.apR .none hx hR hy hd qK oX h next
theorem lA[tA:qF P T n][el:EL e n]{i j:Nat}{E1:TypeId}{a:α}(hx:S.ev x=.eW i (j*n))(hR:S.r i=.live (TR E1 n e l))(ha:l[j]? =some a)(next:RunT P C ops nd K rest (⟨[]++aW x,[],[i],⟨some (d,.sv (.agg (e a))),[],[]⟩⟩::acc) (S.set d (.sv (.agg (e a)))))(hd:d<S.n:=by exact tl Y):RunT P C ops nd K (⟨some d,.load T x,ty,pos,aft,none⟩::rest) acc S:=
 RT.Oi .none hx hR ha hd next
theorem sR[tV:nB P T][el:EL e 1]{i j:Nat}{E1:TypeId}{s:SV}[o1:One s](a:α)(hs:e a=[s])(hx:S.ev x=.eW i (j*1))(hR:S.r i=.live (TR E1 1 e l))(hy:S.ev y=.sv s)(h:stM l j a=some l')(next:RunT P C ops nd K rest (⟨[]++(aW x++aW y),[],[i],⟨none,[],[(i,.live (TR E1 1 e l'))]⟩⟩::acc) (AS.bB [(i,.live (TR E1 1 e l'))] S)):RunT P C ops nd K (⟨none,.store T x y,ty,pos,aft,none⟩::rest) acc S:=
 RT.VP .none a hs hx hR hy h next
theorem sA[tA:qF P T n][el:EL e n]{i j:Nat}{E1:TypeId}(a:α)(hx:S.ev x=.eW i (j*n))(hR:S.r i=.live (TR E1 n e l))(hy:S.ev y=.sv (.agg (e a)))(h:stM l j a=some l')(next:RunT P C ops nd K rest (⟨[]++(aW x++aW y),[],[i],⟨none,[],[(i,.live (TR E1 n e l'))]⟩⟩::acc) (AS.bB [(i,.live (TR E1 n e l'))] S)):RunT P C ops nd K (⟨none,.store T x y,ty,pos,aft,none⟩::rest) acc S:=
 RT.Oj .none a hx hR hy h next
theorem lL{m:Nat}[tS:dJ P T E0 m]{i:Nat}{E1:TypeId}{c:Int}(hx:S.ev x=.row i)(hR:S.r i=.live (TR E1 n e l))(hc:(l.length:Int)=c)(next:RunT P C ops nd K rest (⟨[]++aW x,[],[i],⟨some (d,.sv (.v (.int .i64 c))),[],[]⟩⟩::acc) (S.set d (.sv (.v (.int .i64 c)))))(hd:d<S.n:=by exact tl Y):RunT P C ops nd K (⟨some d,.call ⟨.builtin .len,#[x],#[T]⟩,ty,pos,aft,none⟩::rest) acc S:=
 RT.Og .none hx hR hd hc next
theorem cR{f:FuncId}[er P f]{g:Operand}{xs:Array Operand}{at_:Array TypeId}{args:List AV}{E1:TypeId}{res:AV}(hp:Ba P f args (TR E1 n e l) res (l'.flatMap e))(hlen:l'.length=l.length)(i:Nat)(hR:S.r i=.live (TR E1 n e l))(hargs:ot S xs.toList (args.map (AV.rU i)))(next:RunT P C ops nd K rest (⟨[]++(aW g++xs.toList.flatMap aW),[],[i],⟨some (d,res.rU i),[],[(i,.live (TR E1 n e l'))]⟩⟩::acc) ((AS.bB [(i,.live (TR E1 n e l'))] S).set d (res.rU i)))(hrow:args.all AV.qL=true:=by exact rfl)(hres:res.qL=true:=by exact rfl)(hf:S.ev g=.sv (.v (.func (.func f) #[] #[])):=by exact rfl)(hd:d<S.n:=by exact tl Y):RunT P C ops nd K (⟨some d,.call ⟨.value g,xs,at_⟩,ty,pos,aft,none⟩::rest) acc S:=
 RT.Lq .none hp hlen i hR hrow hres hf hargs hd next
theorem gn{j_ g_:Nat}{dS:Bool}{m:Nat}[tS:dJ P T E0 m]{c:Int}(hx:S.ev x=.sv (slc n (l.map e)))(hc:(l.length:Int)=c)(next:RunT P C ops nd K rest (⟨[g_]++aW x,[],[],⟨some (d,.sv (.v (.int .i64 c))),[],[]⟩⟩::acc) (S.set d (.sv (.v (.int .i64 c)))))(v5:(ops[j_]?).bind (·.dst)=some g_:=by exact rfl)(v7:S.t g_=.sv (.v (.bool dS)):=by exact rfl)(hd:d<S.n:=by exact tl Y):RunT P C ops nd K (⟨some d,.call ⟨.builtin .len,#[x],#[T]⟩,ty,pos,aft,some (j_,dS)⟩::rest) acc S:=
 RT.Of (.some v5 v7) hx hd hc next
end
section
variable {P:Program}{C:Ctx}{ops:Array Oper}{S:AS}{nd:Bool}{K:List Ac->AS->Prop}{rest:List Oper}{acc:List Ac}
variable {gd:Option (Nat×Bool)}{rg:List Nat}{d:Nat}{ty:TypeId}{pos:String}{aft:Array Edge}{x y z:Operand}{T U E0 E1:TypeId}
theorem fl{f off:Nat}[hf:vM P T f off U][tV:nB P U]{cs:List SV}{s:SV}(hx:S.ev x=.sv (.agg cs))(hs:cs[off]? =some s)(next:RunT P C ops nd K rest (⟨[]++aW x,[],[],⟨some (d,.sv s),[],[]⟩⟩::acc) (S.set d (.sv s)))(hd:d<S.n:=by exact tl Y):RunT P C ops nd K (⟨some d,.field T x f,ty,pos,aft,none⟩::rest) acc S:=
 RT.field .none hx hs hd next
end
end
end Go.Fw.Z
namespace Go.Fw
section
open Go.RowKit
def Mem.fr(M:Mem)(N:Nat):Mem:=λb o=>if N<=b then M b o else none
theorem Mem.Oq(M:Mem)(N:Nat):(M.fr N).le M:=λb o v h=>by
 unfold Mem.fr at h;split at h
 ·exact h
 cases h
theorem Mem.Ce{M M':Mem}(h:M.le M')(N:Nat):(M.fr N).le (M'.fr N):=λb o v e=>by
 unfold Mem.fr at*;split at e
 ·rename_i hn;rw[if_pos hn];exact h b o v e
 cases e
def nw(N:Nat)(s:SV):SV:=⟨λM v=>s.h (M.fr N) v/\∀g,v.ownBlock=some g->∃o,M.fr N g o=some (.agg #[]),λhM h=>⟨s.mono (Mem.Ce hM N) h.1,λg e=>by obtain⟨o,q⟩:=h.2 g e;exact⟨o,Mem.Ce hM N _ _ _ q⟩⟩⟩
theorem eG{N:Nat}{s:SV}:SV.imp (nw N s) s:=λM _ h=>s.mono (Mem.Oq M N) h.1
instance{N:Nat}{s:SV}{n:Nat}[h:Tg s n]:Tg (nw N s) n:=⟨λM v hv=>h.h M v (eG M v hv)⟩
instance{N:Nat}{s:SV}{n:Nat}{rows:List (List SV)}[h:GS s n rows]:GS (nw N s) n rows:=⟨λM v hv=>h.h M v (eG M v hv)⟩
instance{N:Nat}{s:SV}{n sz:Nat}{f:Nat->Nat->SV}[h:Sub s n sz f]:Sub (nw N s) n sz (λa b=>nw N (f a b)):=⟨λM v hv=>by
 obtain⟨a,c,e,hc,hs⟩:=h.h (M.fr N) v hv.1;refine⟨a,c,e,hc,λlo hi h1 h2=>⟨hs lo hi h1 h2,λg hg=>hv.2 g ?_⟩⟩;subst e;cases a with
 |none=>split at hg<;>cases hg
 |some a=>
  split at hg
  ·exact hg
  have e:(a.add (lo*sz)).block=a.block:=by unfold Addr.add;split<;>rfl
  rw[show(Value.slice (Option.map (λx=>x.add (lo*sz)) (some a)) (hi-lo) (c-lo)).ownBlock=some (a.add (lo*sz)).block from rfl,e]at hg;exact hg⟩
instance{N:Nat}{s:SV}[h:One s]:One (nw N s):=⟨λM v hv=>h.h _ v hv.1⟩
class Z6 (N:Nat) (s:SV):Prop where
 h:∀M v,s.h M v->s.h (M.fr N) v
instance{N:Nat}{x:Value}:Z6 N (.v x):=⟨λ_ _ h=>h⟩
class Ht (N:Nat) (l:List SV):Prop where
 h:∀s∈l,∀M v,s.h M v->s.h (M.fr N) v
instance{N:Nat}:Ht N []:=⟨λs h=>by cases h⟩
instance{N:Nat}{s:SV}{l:List SV}[a:Z6 N s][b:Ht N l]:Ht N (s::l):=⟨λt ht=>by
 rcases List.mem_cons.1 ht with rfl|ht
 ·exact a.h
 exact b.h t ht⟩
class Db (N:Nat) {α:Type} (e:α->List SV):Prop where
 h:∀x,Ht N (e x)
instance{N:Nat}:Db N aX:=⟨λ_=>inferInstance⟩
abbrev fZ(N:Nat)(z:Zr):List SV:=[.v (.bool z.neg),nw N (slc 1 (z.w.map aX))]
abbrev fQ(N:Nat)(q:Qr):List SV:=[.v (.bool q.num.neg),nw N (slc 1 (q.num.w.map aX)),.v (.bool q.den.neg),nw N (slc 1 (q.den.w.map aX))]
theorem bt{α:Type}{N n:Nat}{e:α->List SV}:SV.imp (.v (.slice none 0 0)) (nw N (slc n (([]:List α).map e))):=λ_ _ h=>⟨.inl ⟨none,h,rfl⟩,λg e=>by rw[show _=Value.slice none 0 0 from h]at e;cases e⟩
theorem cX.at:∀{l l':List SV},cX l l'->∀(k:Nat) (s':SV),l'[k]? =some s'->∃s,l[k]? =some s/\SV.imp s s':=λh _ _ e=>cX.get h e
theorem zI(N:Nat)(z:Zr):cX (fZ N z) (eZ z):=⟨au,eG,aq⟩
theorem qI(N:Nat)(q:Qr):cX (fQ N q) (eQ q):=⟨au,eG,au,eG,aq⟩
theorem xX{N n:Nat}{α:Type}{e:α->List SV}[he:Db N e]{l:List α}{M:Mem}{v:Value}(h:(slc n (l.map e)).h M v)(hb:∀g,v.ownBlock=some g->N<=g/\∃o,M g o=some (.agg #[])):(nw N (slc n (l.map e))).h M v:=by
 refine⟨?_,λg hg=>by obtain⟨h1,o,h2⟩:=hb g hg;exact⟨o,by unfold Mem.fr;rw[if_pos h1];exact h2⟩⟩;rcases h with⟨a,h1,h2⟩|⟨b,o,c,h1,h2,h3,h4⟩
 ·exact .inl ⟨a,h1,h2⟩
 have hN:N<=b:=(hb b (by rw[h1];rfl)).1;refine .inr ⟨b,o,c,h1,h2,h3,λi row hr=>⟨(h4 i row hr).1,λk s hs=>?_⟩⟩;obtain⟨y,hy,ho,hh⟩:=(h4 i row hr).2 k s hs;refine⟨y,by unfold Mem.fr;rw[if_pos hN];exact hy,ho,?_⟩;rw[List.getElem?_map]at hr;cases hx:l[i]? with
 |none=>rw[hx]at hr;cases hr
 |some x=>
  rw[hx]at hr;have hr:e x=row:=Option.some.inj hr;subst hr;exact(he.h x).h s (List.mem_of_getElem? hs) M y hh
section
variable {P:Program}{C:Ctx}{S:AS}{Q:Exit->AS->Prop}
theorem aY.Hu{E:Env}{a:Act}{w:World}(h:aY C S E a w)(vs:List Value)(T:TypeId)(hone:∀v∈vs,v.oneCell'=true):aY C S {E with M:=λb o=>if b=w.heap.size then(vs++[.agg #[]])[o]? else E.M b o} a (w.alloc (.cells ⟨vs⟩ T)):=by
 have hno:∀o,E.M w.heap.size o=none:=λo=>by
  cases e:E.M w.heap.size o with
  |none=>rfl
  |some v=>have:=jb h.cy e;omega
 refine h.grow (λb o v e=>?_) (λb o v e=>?_) (λb o v e=>?_) (((Below.refl _ _).alloc (Nat.le_refl _) _))
 ·have:b≠w.heap.size:=by rintro rfl;rw[hno o]at e;cases e
  simp[this,e]
 ·by_cases hb:b=w.heap.size
  ·exact .inr (by omega)
  simp only[if_neg hb]at e;exact .inl e
 by_cases hb:b=w.heap.size
 ·subst hb;simp only[if_true]at e;by_cases ho:o<vs.length
  ·rw[List.getElem?_append_left ho]at e;refine .of ?_ (hone v (List.mem_of_getElem? e));rw[World.cell?_alloc_new];simpa using e
  rw[List.getElem?_append_right (by omega)]at e;cases Cf:o-vs.length with
  |succ k=>rw[Cf]at e;simp at e
  |zero=>
   rw[Cf]at e;simp at e;subst e;exact⟨⟨vs⟩,T,by show(w.heap.push _)[w.heap.size]? =_;rw[Array.getElem?_push,if_pos rfl]⟩
 simp only[if_neg hb]at e;refine(h.cy b o v e).same ?_;show(w.heap.push _)[b]? =_;rw[Array.getElem?_push,if_neg hb]
theorem nE{c:Code}{i n N:Nat}{E1:TypeId}{α:Type}{e:α->List SV}{l:List α}[el:EL e n][he:Db N e](hN:N<=C.w0.heap.size)(hb:∀k,¬C.ny k)(hR:S.r i=.live (TR E1 n e l))(hk:Ok P C c (S.jm i (nw N (slc n (l.map e)))) Q):Ok P C c S Q:=λa w hs=>by
 obtain⟨E,h⟩:=hs;have hlen:l.length<=9223372036854775807:=by
  obtain⟨⟨vs,ho,hv⟩,_⟩:=h.rx i _ hR;rcases ho.2 with⟨_,q2⟩|⟨g',cap,cur,q1,_,q2,q3,q4,q5,q6⟩
  ·have q2:l.length=0:=q2;omega
  have q3:l.length<=cap:=q3;have:maxLen=9223372036854775807:=by decide
  omega
 exact hk a w (h.jm hR (mH l) (by rw[List.length_map]) hlen (jy l) (λM v hv hg=>xX hv (λg e=>⟨(hg g e).1.elim (λq=>Nat.le_trans hN q) (λq=>absurd q (hb g)),(hg g e).2⟩)))
def dU(P:Program)(f:FuncId)(N:Nat)(args:List SV)(r:SV):Prop:=
 ∀(M:Mem) (w:World) (vs:List Value),N<=w.heap.size->M.cy w->SV.dg M args vs->
  Calls P f ⟨vs⟩ w λe w'=>∃v M',e=.returned v/\M.le M'/\(∀b o x,M' b o=some x->M b o=some x\/w.heap.size<=b)/\M'.cy w'/\r.h M' v/\Below w.heap.size w w'
theorem dU.w{f:FuncId}{N:Nat}{args args':List SV}{r:SV}(h:dU P f N args r)(hi:cX args' args):dU P f N args' r:=λM w vs hN hM hv=>h M w vs hN hM (hi.holds hv)
theorem bG{f:FuncId}{fn:Func}{code:Code}{N:Nat}{args:List SV}{r:SV}(hf:P.funcs[f]? =some fn)(hb:fn.body=some code)(hn:args.length<=fn.ntmps)
  (h:∀(w:World) (M:Mem) (vs:List Value),N<=w.heap.size->SV.dg M args vs->Ok P (zb w M) code (AS.init fn.ntmps args) (λe S=>(e=.normal\/e=.ret)/\D9 P S fn.results.toList r)):dU P f N args r:=by
 intro M w vs hN hM hvs;refine(callsIn_wide (n:=0)).1 (callsIn_of_wp_marks (F:=Fence.wide) hf hb trivial ?_);refine wpIn_mono (h w M vs hN hvs _ w ⟨_,gG hM hvs hn⟩) ?_;rintro e a' w' ⟨S',⟨he,ss,IW,himp⟩,E,hh⟩;have key:LeavesInM Fence.wide 0 P fn a'.tmps (λe w'=>∃v M',e=.returned v/\M.le M'/\(∀b o x,M' b o=some x->M b o=some x\/w.heap.size<=b)/\M'.cy w'/\r.h M' v/\Below w.heap.size w w') a'.defers .returning w':=by
  obtain⟨ds,h1,h2,h3⟩:=hh.marks;rw[h1];refine jr ds w' h2 (λr hr=>(h3 r hr).2.2) (λw2 g1 g2 g3 g4 g5=>?_);have vT:=hh.uo h3 g1 g2 g3 g4 g5;obtain⟨v,hv,hs⟩:=xO vT IW;refine⟨v,hv,v,E.M,Y,vT.m0,λb o x e=>?_,vT.cy,himp _ _ hs,vT.os,vT.tape,vT.output,vT.grown,λk hk=>vT.frame k hk (λh=>h)⟩;rcases vT.di b o x e with h|h|h
  ·exact .inl h
  ·exact .inr h
  exact h.elim
 rcases he with rfl|rfl
 ·exact key
 exact key
theorem Hv{f:FuncId}{N:Nat}{args:List SV}{E1:TypeId}{n:Nat}{α:Type}{e:α->List SV}{l:List α}[el:EL e n][he:Db N e](hp:C5 P f args (TR E1 n e l)):dU P f N args (nw N (slc n (l.map e))):=by
 intro M w vs hN hM hvs;refine(hp M w vs hM hvs).mono ?_;rintro ex w' ⟨v,M',us,rfl,hle,hnew,hin,hown,ug,gS,Ot⟩;have gN:Rows n (l.map e) (l.flatMap e):=mH l;have qH:=o9 gN;rcases hown.2 with⟨h1,h2⟩|⟨g,cap,cur,h1,_,h2,h3,_,h5,h6⟩
 ·exact⟨v,M',rfl,hle,hnew,hin,⟨.inl ⟨none,h1,by have h2:l.length=0:=h2;rw[List.length_eq_zero_iff.1 h2];rfl⟩,λg e=>by rw[h1]at e;cases e⟩,Ot⟩
 have hg:v.ownBlock=some g:=by rw[h1];rfl
 obtain⟨hge,hno⟩:=gS g hg;have h3:l.length<=cap:=h3;have abh:maxLen=9223372036854775807:=by decide
 refine⟨v,λb o=>if b=g/\o<l.length*n then us[o]? else if b=g/\o=l.length*n then some (.agg #[])else M' b o,Y,λb o x q=>?_,λb o x q=>?_,λb o x q=>?_,?_,Ot⟩
 ·have:=hle b o x q;have:b≠g:=by rintro rfl;rw[hno o]at this;cases this
  simp[this];assumption
 ·simp only at q;split at q
  ·rename_i hc;exact .inr (by rw[hc.1];exact hge)
  split at q
  ·rename_i hc;exact .inr (by rw[hc.1];exact hge)
  exact hnew b o x q
 ·simp only at q;split at q
  ·rename_i hc;obtain⟨rfl,za⟩:=hc;refine .of ?_ (jy l _ _ ug x (List.mem_of_getElem? q));simp only[World.cell?,h2];have h6:cur.toList.take (l.length*n)=us:=h6;rw[<-h6,List.getElem?_take,if_pos za]at q;simpa using q
  split at q
  ·rename_i hc;cases q;rw[hc.1];exact⟨_,_,h2⟩
  exact hin b o x q
 refine xX ?_ (λg' e'=>by rw[hg]at e';cases e';exact⟨Nat.le_trans hN hge,l.length*n,by simp⟩);refine .inr ⟨g,0,cap,by rw[h1,List.length_map],by rw[List.length_map];exact h3,by rw[List.length_map];omega,λk row hk=>?_⟩;obtain⟨q1,q2⟩:=mD gN k row hk;refine⟨q1,λj s hs=>?_⟩;have AY:=q2 j s hs;obtain⟨y,hy,hys⟩:=ug.get AY;have hlt:k*n+j<l.length*n:=by
  have:=(List.getElem?_eq_some_iff.1 AY).1;rw[qH,List.length_map]at this;exact this
 refine⟨y,by simp[hlt,hy],jy l _ _ ug y (List.mem_of_getElem? hy),s.mono (λb o x q=>?_) hys⟩;have:b≠g:=by rintro rfl;rw[hno o]at q;cases q
 simp[this,q]
end
section
variable {P:Program}{C:Ctx}{ops:Array Oper}{S:AS}{nd:Bool}{K:List Ac->AS->Prop}{rest:List Oper}{acc:List Ac}
variable {gd:Option (Nat×Bool)}{rg:List Nat}{d:Nat}{ty:TypeId}{pos:String}{aft:Array Edge}{x y z:Operand}{T U E0:TypeId}
variable {α:Type}{l l' k:List α}{e:α->List SV}{n by_ N:Nat}{zv:Value}
theorem RT.bJ(hg:Gd ops S gd rg){f:FuncId}[er P f]{g:Operand}{xs:Array Operand}{at_:Array TypeId}{args:List SV}{r:SV}(hp:dU P f N args r)(hN:N<=C.w0.heap.size)(hf:S.ev g=.sv (.v (.func (.func f) #[] #[])))(hargs:fL S xs.toList args)(hd:d<S.n)
  (next:RunT P C ops nd K rest (⟨rg++(aW g++xs.toList.flatMap aW),[],[],⟨some (d,.sv r),[],[]⟩⟩::acc) (S.set d (.sv r))):RunT P C ops nd K (⟨some d,.call ⟨.value g,xs,at_⟩,ty,pos,aft,gd⟩::rest) acc S:=by
 refine .inl ⟨_,[],[],_,?_,next⟩;rintro S' hn ht _ _ i a w L Q ho ⟨E,h⟩ hL;refine bV (C:=C) ho (hg.wanted h (λs hs=>ht s (List.mem_append_left _ hs)) Y) ?_;have qJ:a.eval g=.func (.func f) #[] #[]:=by
  have h1:=h.ev g;rw[bk (λ_ h=>List.mem_append_right _ (List.mem_append_left _ h)) ht,hf]at h1;exact h1
 have hall:=fL.vals h hargs (λs hs=>ht s (List.mem_append_right _ (List.mem_append_right _ hs)));have hr:(execOp a.eval ⟨some d,.call ⟨.value g,xs,at_⟩,ty,pos,aft,gd⟩).run P w=.ok (.enter f ⟨xs.toList.map a.eval⟩) w:=by
  have e2:xs.map a.eval=⟨xs.toList.map a.eval⟩:=by apply Array.ext';simp
  have e1:=er.run (P:=P) (f:=f) (xs.map a.eval) w;rw[<-e2];simp[execOp,resolve,qJ,Deferred.ofValue,invoke,e1]
 refine bW (C:=C) (by intro c h;cases h) hr ?_;refine⟨λh=>by simp at h,fC ((hp E.M w _ (Nat.le_trans hN h.grown) h.cy hall).mono ?_)⟩;rintro e w' ⟨v,M',rfl,hM,hnew,hin,hv,hb⟩;exact hL _ _ ⟨_,(h.grow hM hnew hin hb).put (x:=.sv r) hv (by show d<S'.n;omega) dY⟩
theorem RT.zF(hg:Gd ops S gd rg){m:Nat}[tS:dJ P T E0 m]{c:Int}(hx:S.ev x=.sv (nw N (slc n (l.map e))))(hd:d<S.n)(hc:(l.length:Int)=c)
  (next:RunT P C ops nd K rest (⟨rg++aW x,[],[],⟨some (d,.sv (.v (.int .i64 c))),[],[]⟩⟩::acc) (S.set d (.sv (.v (.int .i64 c))))):RunT P C ops nd K (⟨some d,.call ⟨.builtin .len,#[x],#[T]⟩,ty,pos,aft,gd⟩::rest) acc S:=
 RT.len hg hx hd (by rw[List.length_map,hc];exact next)
theorem RT.VW(hg:Gd ops S gd rg)[tS:dJ P T E0 n]{kk:IntKind}{i:Int}{a:α}(hx:S.ev x=.sv (nw N (slc n (l.map e))))(hy:S.ev y=.sv (.v (.int kk i)))(hd:d<S.n)(ha:c7 l i=some a)
  (next:RunT P C ops nd K rest (⟨rg++(aW x++aW y),[],[],⟨some (d,.sv (ref (e a))),[],[]⟩⟩::acc) (S.set d (.sv (ref (e a))))):RunT P C ops nd K (⟨some d,.indexAddr T x y,ty,pos,aft,gd⟩::rest) acc S:=
 RT.indexAddr hg (e a) hx hy hd (kO ha).1 (by rw[List.getElem?_map,(kO ha).2];rfl) next
theorem RT.Hw(hg:Gd ops S gd rg)[tS:dJ P T E0 n]{lo hi:Option Operand}(a b:Int)(hx:S.ev x=.sv (nw N (slc n (l.map e))))(hlo:uy S 0 lo a)(hhi:uy S l.length hi b)(hd:d<S.n)(h:xS l a b=some l')
  (next:RunT P C ops nd K rest (⟨rg++(aW x++(jo lo++jo hi)),[],[],⟨some (d,.sv (nw N (slc n (l'.map e)))),[],[]⟩⟩::acc) (S.set d (.sv (nw N (slc n (l'.map e)))))):RunT P C ops nd K (⟨some d,.slice T x lo hi none,ty,pos,aft,gd⟩::rest) acc S:=by
 obtain⟨h0,h1,h2,h3⟩:=wN h;exact RT.slice hg hx a b hlo (by rw[List.length_map];exact hhi) hd h0 h1 (by rw[List.length_map];exact h2) _ (by rw[BY,h3]) next
theorem RT.Ou(hg:Gd ops S gd rg)[tS:dJ P T E0 n][tE:gH P E0 n by_ zv][el:EL e n][he:Db N e]{i:Nat}(hN:N<=C.w0.heap.size)(hb:∀k,¬C.ny k)(hx:S.ev x=.row i)(hR:S.r i=.live (TR E0 n e l))(hy:S.ev y=.sv (slc n (k.map e)))(hd:d<S.n)(qK:S.r d=.un)(oX:d<1000)(h:vY by_ l k=some l')
  (next:RunT P C ops nd K rest (⟨rg++(aW x++aW y),[],[d,i],⟨some (d,.sv (nw N (slc n (l'.map e)))),[],[(i,.dead),(d,.dead)]⟩⟩::acc) ((AS.bB [(i,.dead),(d,.dead)] S).set d (.sv (nw N (slc n (l'.map e)))))):RunT P C ops nd K (⟨some d,.call ⟨.builtin .append,#[x,y],#[T,T]⟩,ty,pos,aft,gd⟩::rest) acc S:=by
 obtain⟨h1,h2,rfl⟩:=pC h;have hf:l.flatMap e++(k.map e).flatten=(l++k).flatMap e:=by simp[mG]
 exact RT.B6 hg (.row hx hR) hy hd qK oX (by simpa using h1) (by simpa using h2) _ (rows':=(l++k).map e) (λ_ _ hv hg=>xX hv (λg e=>⟨(hg g e).1.elim (λq=>Nat.le_trans hN q) (λq=>absurd q (hb g)),(hg g e).2⟩)) (by rw[hf];exact mH _) (by simp) (by rw[hf];exact jy _) next
theorem RT.pD(hg:Gd ops S gd rg)[tS:dJ P T E0 n][tE:gH P E0 n by_ zv][he:Db N e](hN:N<=C.w0.heap.size){len:Nat}{parts:Array (Nat×Operand)}{qs:List (Nat×List SV)}(hp:jn S parts.toList qs)(hd:d<S.n)
  (hc:kE 0 qs=true) (hl:qs.length=len) (hsz:(qs.all λq=>Nat.beq q.2.length n)=true) (hlen:Nat.ble (len*n) 16777216=true) (BX:(zv.cells.toList.all λv=>v.oneCell')=true) (gN:qs.map (·.2)=l.map e)
  (next:RunT P C ops nd K rest (⟨rg++gZ parts.toList,[],[],⟨some (d,.sv (nw N (slc n (l.map e)))),[],[]⟩⟩::acc) (S.set d (.sv (nw N (slc n (l.map e)))))):RunT P C ops nd K (⟨some d,.buildSlice T len parts,ty,pos,aft,gd⟩::rest) acc S:=by
 refine .inl ⟨_,[],[],_,?_,next⟩;rintro S' hn ht _ _ i a w L Q ho ⟨E,h⟩ hL;refine bV (C:=C) ho (hg.wanted h (λs hs=>ht s (List.mem_append_left _ hs)) Y) ?_;obtain⟨vs,hr,hall,hone⟩:=jB (P:=P) (T:=T) (E0:=E0) (n:=n) (by_:=by_) (zv:=zv) (d:=d) (ty:=ty) (pos:=pos) (aft:=aft) (gd:=gd) h hp (λs hs=>ht s (List.mem_append_right _ hs)) hc hl hsz (af hlen) (List.all_eq_true.1 BX);refine bW (C:=C) (by intro c h;cases h) hr (hL _ _ ⟨_,(h.Hu vs E0 hone).put (d:=d) (x:=.sv (nw N (slc n (l.map e)))) (v:=.slice (some ⟨w.heap.size,0,none⟩) len len) ?_ (by show d<S'.n;omega) dY⟩);have hrw:Rows n (qs.map (·.2)) (qs.map (·.2)).flatten:=⟨Y,λr hr=>by
  obtain⟨q,hq,rfl⟩:=List.mem_map.1 hr;exact Nat.eq_of_beq_eq_true (List.all_eq_true.1 hsz q hq)⟩
 have Ej:=tE.p;have hlb:len<=16777216:=Nat.le_trans (Nat.le_mul_of_pos_right _ Ej) (af hlen);refine xX ?_ (λg e=>by cases e;exact⟨Nat.le_trans hN h.grown,vs.length,by simp⟩);rw[<-gN];refine .inr ⟨w.heap.size,0,len,by rw[List.length_map,hl],by rw[List.length_map,hl];exact Nat.le_refl _,by rw[List.length_map,hl];omega,λk row hk=>?_⟩;obtain⟨q1,q2⟩:=mD hrw k row hk;refine⟨q1,λj s hs=>?_⟩;obtain⟨y,hy,hys⟩:=hall.get (q2 j s hs);refine⟨y,by show(if w.heap.size=w.heap.size then(vs++[Value.agg #[]])[0+k*n+j]? else _)=_;rw[if_pos Y,Nat.zero_add,List.getElem?_append_left (List.getElem?_eq_some_iff.1 hy).1];exact hy,hone y (List.mem_of_getElem? hy),s.mono (λb o v e=>?_) hys⟩;have:b≠w.heap.size:=by rintro rfl;have:=jb h.cy e;omega
 simp[this,e]
end
end
section
open Go.RowKit
theorem fk{P:Program}{f:FuncId}{args:List SV}{r:Nat->SV}{s:SV}(hp:∀N,dU P f N args (r N))(hi:∀N,SV.imp (r N) s):Pure P f args s:=λM w vs hM hv=>(hp w.heap.size M w vs (Nat.le_refl _) hM hv).mono (λ_ _ ⟨v,M',h1,h2,h3,h4,h5,h6⟩=>⟨v,M',h1,h2,h3,h4,hi _ _ _ h5,h6⟩)
section steps
variable {P:Program}{C:Ctx}{ops:Array Oper}{S:AS}{nd:Bool}{K:List Ac->AS->Prop}{rest:List Oper}{acc:List Ac}{N:Nat}
variable {gd:Option (Nat×Bool)}{rg:List Nat}{d:Nat}{ty:TypeId}{pos:String}{aft:Array Edge}{x y z:Operand}{T U E0:TypeId}
end steps
end
end Go.Fw
namespace Go.Proofs.Ytmiflmkdaeianaa
section
open Go.Fw
noncomputable def c8(x0:List Nat):Option (List Nat):=vY 4 [] x0
noncomputable def bu(x0:Nat)(c0:Nat):Option (Nat×Nat):=(some ((x0+c0)%18446744073709551616)).bind λx6=>(some (x6/2^32)).bind λx8=>(some (x6%4294967296)).bind λgO=>some (gO,x8)
noncomputable def bh(x0:List Nat):Option (List Nat):=(cI (λ(sL:(List Nat))=>(show Option (((List Nat))⊕((List Nat)))from cW (λ(uK:Bool)=>(bif uK then(some (sL.length:Int)).bind λgU=>(some (IntKind.i64.wrap (gU-1))).bind λfN=>(xS sL 0 fN).bind λmq=>some (.inl mq)else some (.inr sL))) λVX=>(some (sL.length:Int)).bind λx4=>(some (decide ((0:Int)<x4))).bind λx5=>(bif x5 then(some (sL.length:Int)).bind λx9=>(some (IntKind.i64.wrap (x9-1))).bind λgO=>(c7 sL gO).bind λkI=>(some (decide ((kI:Nat)=0))).bind λiv=>some iv else some false).bind λBj=>VX Bj)) x0).bind λuL=>some uL
noncomputable def bM(x0:Bool)(x1:List Nat):Option (Zr):=(bh x1).bind λx6=>(some (x6.length:Int)).bind λx8=>(some (decide ((x8:Int)=0))).bind λx9=>(bif x9 then some ⟨false,[]⟩else some ⟨x0,x6⟩)
noncomputable def dA(x0:Bool)(x1:Nat):Option (Zr):=(some (decide ((x1:Nat)=0))).bind λx7=>(bif x7 then some ⟨false,[]⟩else(some (x1/2^32)).bind λkI=>(some (decide ((kI:Nat)=0))).bind λgV=>(bif gV then(some (x1%4294967296)).bind λkJ=>some ⟨x0,[kJ]⟩else(some (x1%4294967296)).bind λiT=>(some (x1/2^32)).bind λjC=>(some (jC%4294967296)).bind λjd=>some ⟨x0,[iT,jd]⟩))
noncomputable def cJ(x0:List Nat):Option (Nat):=(some (x0.length:Int)).bind λx4=>(some (decide ((x4:Int)=0))).bind λx6=>(bif x6 then some 0 else(some (decide ((x4:Int)=1))).bind λx8=>(bif x8 then(c7 x0 0).bind λgO=>(some (gO%18446744073709551616)).bind λgV=>some gV else(c7 x0 0).bind λkK=>(some (kK%18446744073709551616)).bind λjD=>(c7 x0 1).bind λfN=>(some (fN%18446744073709551616)).bind λiT=>(some (iT*2^32%18446744073709551616)).bind λiU=>(some ((jD ||| iU)%18446744073709551616)).bind λjC=>some jC))
noncomputable def b7(x0:List Nat)(x1:List Nat):Option (Int):=(some (x0.length:Int)).bind λx7=>(some (x1.length:Int)).bind λx9=>(some (decide ((x7:Int)≠x9))).bind λgO=>(bif gO then(some (x0.length:Int)).bind λgV=>(some (x1.length:Int)).bind λkK=>(some (decide ((gV:Int)<kK))).bind λkJ=>(bif kJ then some (-1)else some 1)else(some (x0.length:Int)).bind λgU=>(some (IntKind.i64.wrap (gU-1))).bind λfN=>(cI (λ(sM:Int)=>(show Option ((Int)⊕((Unit)⊕(Int)))from(some (decide ((0:Int)<=sM))).bind λiT=>(bif iT then(c7 x0 sM).bind λoC=>(c7 x1 sM).bind λgz=>(some (decide ((oC:Nat)≠gz))).bind λnN=>(bif nN then(c7 x0 sM).bind λjX=>(c7 x1 sM).bind λtw=>(some (decide ((jX:Nat)<tw))).bind λnF=>(bif nF then some (.inr (.inr (-1)))else some (.inr (.inr 1)))else(some (IntKind.i64.wrap (sM-1))).bind λjC=>some (.inl jC))else some (.inr (.inl ()))))) fN).bind λe6=>match e6 with|.inr v6=>some v6|.inl _=>some 0)
noncomputable def dr(x0:List Nat)(x1:List Nat):Option (List Nat):=(some (x0.length:Int)).bind λgO=>(some (x1.length:Int)).bind λgV=>(some (max (gO:Int) gV)).bind λiv=>(some (IntKind.i64.wrap (iv+1))).bind λkK=>(Hf (α:=Nat) 4 kK).bind λkJ=>(mJ (λ(k:Nat) (s7:Nat×(List Nat))=>match s7 with|⟨pE,fT⟩=>(show Option (Nat×(List Nat))from(some (x0.getD k 0%18446744073709551616)).bind λVY=>(some (x1.getD k 0%18446744073709551616)).bind λVZ=>(some ((VY+VZ)%18446744073709551616)).bind λja=>(bu ja pE).bind λ⟨kF,k9⟩=>(vY 4 fT [kF]).bind λgz=>some (k9,gz))) (max x0.length x1.length) (0,kJ)).bind λe7=>match e7 with|⟨pE,fT⟩=>(bu 0 pE).bind λ⟨jE,k11⟩=>(vY 4 fT [jE]).bind λjX=>some jX
noncomputable def cg(x0:List Nat)(x1:List Nat):Option (List Nat):=(some (x0.length:Int)).bind λgO=>(Hf (α:=Nat) 4 gO).bind λkI=>(mJ (λ(k:Nat) (s7:Nat×(List Nat))=>match s7 with|⟨tB,fT⟩=>(show Option (Nat×(List Nat))from(some (x0.getD k 0%18446744073709551616)).bind λV0=>(some (x1.getD k 0%18446744073709551616)).bind λV1=>(some (jW 18446744073709551616 4294967295 V1)).bind λjC=>(some ((V0+jC)%18446744073709551616)).bind λjd=>(bu jd tB).bind λ⟨eK,k9⟩=>(vY 4 fT [eK]).bind λja=>some (k9,ja))) (max x0.length x1.length) (1,kI)).bind λe7=>match e7 with|⟨tB,fT⟩=>some fT
noncomputable def dW(x0:List Nat)(x1:List Nat):Option (List Nat):=(some (x0.length:Int)).bind λgV=>(some (x1.length:Int)).bind λkK=>(some (IntKind.i64.wrap (gV+kK))).bind λkJ=>(GC 4 kJ (0:Nat)).bind λjD=>(some (x0.length:Int)).bind λfN=>(cI (λ(No:Int×(List Nat))=>match No with|⟨jF,xY⟩=>(show Option ((Int×(List Nat))⊕((List Nat)))from(some (decide ((jF:Int)<fN))).bind λiT=>(bif iT then(c7 x0 jF).bind λjC=>(some (x1.length:Int)).bind λja=>(cI (λ(Lt:Int×Nat×(List Nat))=>match Lt with|⟨qT,pG,oD⟩=>(show Option ((Int×Nat×(List Nat))⊕(Nat×(List Nat)))from(some (decide ((qT:Int)<ja))).bind λlB=>(bif lB then(c7 x1 qT).bind λoE=>(some (IntKind.i64.wrap (jF+qT))).bind λnO=>(some (IntKind.i64.wrap (jF+qT))).bind λnF=>(qO oD nF).bind λv8=>(oD[v8]?).bind λqy=>(some (qy%18446744073709551616)).bind λyS=>(some (jC%18446744073709551616)).bind λyT=>(some (oE%18446744073709551616)).bind λzG=>(some ((yT*zG)%18446744073709551616)).bind λvP=>(some ((yS+vP)%18446744073709551616)).bind λZ7=>(bu Z7 pG).bind λ⟨tC,V3⟩=>(qO oD nO).bind λGF=>(stM oD GF tC).bind λV4=>(some (IntKind.i64.wrap (qT+1))).bind λwc=>some (.inl (wc,V3,V4))else some (.inr (pG,oD))))) (0,0,xY)).bind λV5=>match V5 with|⟨zH,Bk⟩=>(some (x1.length:Int)).bind λHx=>(some (IntKind.i64.wrap (jF+Hx))).bind λOv=>(bu 0 zH).bind λ⟨Lu,k45⟩=>(qO Bk Ov).bind λDc=>(stM Bk Dc Lu).bind λV6=>(some (IntKind.i64.wrap (jF+1))).bind λLw=>some (.inl (Lw,V6))else some (.inr xY)))) (0,jD)).bind λoF=>some oF
noncomputable def eR(x0:List Nat)(x1:Nat):Option (Nat×List Nat):=(some (x0.length:Int)).bind λx9=>(some (IntKind.i64.wrap (x9-1))).bind λgO=>(cI (λ(s8:Nat×Int×(List Nat))=>match s8 with|⟨EK,EM,lI⟩=>(show Option ((Nat×Int×(List Nat))⊕(Nat×(List Nat)))from(some (decide ((0:Int)<=EM))).bind λgV=>(bif gV then(some (EK*2^32%18446744073709551616)).bind λjD=>(qO lI EM).bind λmq=>(lI[mq]?).bind λiT=>(some (iT%18446744073709551616)).bind λiU=>(some ((jD ||| iU)%18446744073709551616)).bind λjC=>(xT 18446744073709551616 jC x1).bind λkF=>(some (kF%4294967296)).bind λlB=>(qO lI EM).bind λgz=>(stM lI gz lB).bind λCg=>(vZ jC x1).bind λjE=>(some (IntKind.i64.wrap (EM-1))).bind λkK=>some (.inl (jE,kK,Cg))else some (.inr (EK,lI))))) (0,gO,x0)).bind λe8=>match e8 with|⟨Ow,tD⟩=>(nY x0 tD).bind λ_=>some (Ow,tD)
noncomputable def dN(x0:List Nat)(x1:Nat):Option (List Nat):=(some (x0.length:Int)).bind λkI=>(some (IntKind.i64.wrap (kI+1))).bind λgV=>(Hf (α:=Nat) 4 gV).bind λiv=>(some (x0.length:Int)).bind λkJ=>(cI (λ(s8:Int×Nat×(List Nat))=>match s8 with|⟨pH,lJ,fT⟩=>(show Option ((Int×Nat×(List Nat))⊕(Nat×(List Nat)))from(some (decide ((pH:Int)<kJ))).bind λgU=>(bif gU then(c7 x0 pH).bind λfN=>(some (fN%18446744073709551616)).bind λjd=>(some (jd*2^(min x1 64)%18446744073709551616)).bind λoC=>(bu oC lJ).bind λ⟨ja,Lx⟩=>(vY 4 fT [ja]).bind λlB=>(some (IntKind.i64.wrap (pH+1))).bind λgz=>some (.inl (gz,Lx,lB))else some (.inr (lJ,fT))))) (0,0,iv)).bind λe8=>match e8 with|⟨uM,EN⟩=>(bu 0 uM).bind λ⟨jE,V7⟩=>(vY 4 EN [jE]).bind λjX=>some jX
noncomputable def fm(x0:List Nat)(x1:Nat):Option (List Nat):=(some (x0.length:Int)).bind λkI=>(some (IntKind.i64.wrap (kI+1))).bind λgV=>(Hf (α:=Nat) 4 gV).bind λiv=>(some (x0.length:Int)).bind λkJ=>(cI (λ(s8:Int×Nat×(List Nat))=>match s8 with|⟨pH,lJ,xZ⟩=>(show Option ((Int×Nat×(List Nat))⊕(Nat×(List Nat)))from(some (decide ((pH:Int)<kJ))).bind λgU=>(bif gU then(c7 x0 pH).bind λfN=>(some (fN%18446744073709551616)).bind λjd=>(some (jd*2^(min x1 64)%18446744073709551616)).bind λoC=>(bu oC lJ).bind λ⟨ja,Lx⟩=>(vY 4 xZ [ja]).bind λlB=>(some (IntKind.i64.wrap (pH+1))).bind λgz=>some (.inl (gz,Lx,lB))else some (.inr (lJ,xZ))))) (0,0,iv)).bind λe8=>match e8 with|⟨uM,EO⟩=>(bu 0 uM).bind λ⟨jE,V7⟩=>(vY 4 EO [jE]).bind λjX=>some jX
noncomputable def ez(x0:Nat):Option (Int):=(some (decide ((65536:Nat)<=x0))).bind λx4=>cW (λ(j2:Nat×Int)=>match j2 with|⟨Bl,Hy⟩=>(some (decide ((256:Nat)<=Bl))).bind λx8=>cW (λ(j4:Nat×Int)=>match j4 with|⟨Ox,Oy⟩=>(some (Ox%256)).bind λkJ=>(nX [0,1,2,2,3,3,3,3,4,4,4,4,4,4,4,4,5,5,5,5,5,5,5,5,5,5,5,5,5,5,5,5,6,6,6,6,6,6,6,6,6,6,6,6,6,6,6,6,6,6,6,6,6,6,6,6,6,6,6,6,6,6,6,6,7,7,7,7,7,7,7,7,7,7,7,7,7,7,7,7,7,7,7,7,7,7,7,7,7,7,7,7,7,7,7,7,7,7,7,7,7,7,7,7,7,7,7,7,7,7,7,7,7,7,7,7,7,7,7,7,7,7,7,7,7,7,7,7,8,8,8,8,8,8,8,8,8,8,8,8,8,8,8,8,8,8,8,8,8,8,8,8,8,8,8,8,8,8,8,8,8,8,8,8,8,8,8,8,8,8,8,8,8,8,8,8,8,8,8,8,8,8,8,8,8,8,8,8,8,8,8,8,8,8,8,8,8,8,8,8,8,8,8,8,8,8,8,8,8,8,8,8,8,8,8,8,8,8,8,8,8,8,8,8,8,8,8,8,8,8,8,8,8,8,8,8,8,8,8,8,8,8,8,8,8,8,8,8,8,8,8,8,8,8,8,8] ((kJ:Nat):Int)).bind λjD=>(some (IntKind.i64.wrap (jD:Int))).bind λgU=>(some (IntKind.i64.wrap (Oy+gU))).bind λfN=>some fN) λK4=>(bif x8 then(some (Bl/2^8)).bind λgO=>(some (IntKind.i64.wrap (Hy+8))).bind λgV=>K4 (gO,gV)else K4 (Bl,Hy))) λK2=>(bif x4 then(some (x0/2^16)).bind λx6=>K2 (x6,16)else K2 (x0,0))
noncomputable def cz(x0:Nat):Option (Int):=(ez x0).bind λx4=>(some (IntKind.i64.wrap (32-x4))).bind λx5=>some x5
noncomputable def eT(x0:List Nat)(o0:Nat)(n0:Nat)(x1:List Nat):Option (Nat×List Nat):=(some (x1.length:Int)).bind λgV=>(GD o0 n0 gV).bind λkJ=>(x0[kJ]?).bind λjD=>(some (jD%18446744073709551616)).bind λgU=>(some (gU*2^32%18446744073709551616)).bind λfN=>(some (IntKind.i64.wrap (gV-1))).bind λiU=>(GD o0 n0 iU).bind λjC=>(x0[jC]?).bind λjd=>(some (jd%18446744073709551616)).bind λeK=>(some ((fN ||| eK)%18446744073709551616)).bind λoC=>(some (IntKind.i64.wrap (gV-1))).bind λlB=>(c7 x1 lB).bind λgz=>(some (gz%18446744073709551616)).bind λnN=>(some (IntKind.i64.wrap (gV-2))).bind λjX=>(c7 x1 jX).bind λnO=>(some (nO%18446744073709551616)).bind λwV=>(xT 18446744073709551616 oC nN).bind λnF=>(vZ oC nN).bind λyS=>(cI (λ(zJ:Nat×Nat)=>match zJ with|⟨we,wW⟩=>(show Option ((Nat×Nat)⊕(Nat))from cW (λ(Bm:Bool)=>(bif Bm then(some (jW 18446744073709551616 we 1)).bind λOz=>(some ((wW+nN)%18446744073709551616)).bind λOA=>(some (OA/2^32)).bind λLy=>(some (decide ((Ly:Nat)≠0))).bind λV8=>(bif V8 then some (.inr Oz)else some (.inl (Oz,OA)))else some (.inr we))) λVX=>(some (we/2^32)).bind λyT=>(some (decide ((yT:Nat)≠0))).bind λqV=>(bif qV then some true else(some ((we*wV)%18446744073709551616)).bind λtC=>(some (wW*2^32%18446744073709551616)).bind λwc=>(some (IntKind.i64.wrap (gV-2))).bind λDd=>(GD o0 n0 Dd).bind λHx=>(x0[Hx]?).bind λOv=>(some (Ov%18446744073709551616)).bind λV9=>(some ((wc ||| V9)%18446744073709551616)).bind λLu=>(some (decide ((Lu:Nat)<tC))).bind λDc=>some Dc).bind λEP=>VX EP)) (nF,yS)).bind λDe=>(nY x0 x0).bind λ_=>some (De,x0)
noncomputable def cj(x0:List Nat)(o0:Nat)(n0:Nat)(x1:List Nat)(x2:Nat):Option (Bool×List Nat):=(some (n0:Int)).bind λkK=>(cI (λ(tF:Nat×Int×Nat×(List Nat))=>match tF with|⟨Df,pI,ya,nG⟩=>(show Option ((Nat×Int×Nat×(List Nat))⊕(Nat×(List Nat)))from(some (decide ((pI:Int)<kK))).bind λjD=>(bif jD then(some (x1.length:Int)).bind λiT=>(some (decide ((pI:Int)<iT))).bind λiU=>cW (λ(ER:Nat)=>(GD o0 n0 pI).bind λnN=>(nG[nN]?).bind λjE=>(some (jE%18446744073709551616)).bind λn6=>(bu ER ya).bind λ⟨yU,Wa⟩=>(some (yU%18446744073709551616)).bind λwV=>(some (jW 18446744073709551616 n6 wV)).bind λtw=>(some (jW 18446744073709551616 tw Df)).bind λnF=>(some (nF%4294967296)).bind λDg=>(GD o0 n0 pI).bind λyT=>(stM nG yT Dg).bind λWb=>(some (nF/2^63)).bind λzG=>(some (IntKind.i64.wrap (pI+1))).bind λvP=>some (.inl (zG,vP,Wa,Wb))) λZ8=>(bif iU then(c7 x1 pI).bind λeK=>(some (eK%18446744073709551616)).bind λja=>(some ((ja*x2)%18446744073709551616)).bind λlB=>Z8 lB else Z8 0)else some (.inr (Df,nG))))) (0,0,0,x0)).bind λDh=>match Dh with|⟨ES,pJ⟩=>(some (decide ((ES:Nat)≠0))).bind λtC=>(nY x0 pJ).bind λ_=>some (tC,pJ)
noncomputable def fD(x0:List Nat)(x1:List Nat):Option ((List Nat)×(List Nat)):=(some (x1.length:Int)).bind λgU=>(some (IntKind.i64.wrap (gU-1))).bind λiT=>(c7 x1 iT).bind λiU=>(cz iU).bind λjd=>(some ((jd%18446744073709551616).toNat)).bind λeK=>(fm x0 eK).bind λkF=>(dN x1 eK).bind λoE=>(xS oE 0 gU).bind λjE=>(some (x0.length:Int)).bind λjX=>(some (IntKind.i64.wrap (jX-gU))).bind λyU=>(some (IntKind.i64.wrap (yU+1))).bind λwV=>(GC 4 wV (0:Nat)).bind λtw=>(some (x0.length:Int)).bind λnF=>(some (IntKind.i64.wrap (nF-gU))).bind λqy=>(cI (λ(Lz:Int×(List Nat)×(List Nat))=>match Lz with|⟨fU,mN,oG⟩=>(show Option ((Int×(List Nat)×(List Nat))⊕((List Nat)×(List Nat)))from(some (decide ((0:Int)<=fU))).bind λDg=>(bif Dg then(some (IntKind.i64.wrap (fU+gU))).bind λGF=>(some (IntKind.i64.wrap (GF+1))).bind λwc=>(Lo oG fU wc).bind λ⟨Z9,n53⟩=>(eT oG Z9 n53 jE).bind λ⟨Dd,LA⟩=>(nY oG LA).bind λ_=>(some (IntKind.i64.wrap (fU+gU))).bind λDc=>(some (IntKind.i64.wrap (Dc+1))).bind λLw=>(Lo LA fU Lw).bind λ⟨o62,n62⟩=>(cj LA o62 n62 jE Dd).bind λ⟨Wc,Np⟩=>(nY LA Np).bind λ_=>cW (λ(I4:Nat×(List Nat))=>match I4 with|⟨ET,Bn⟩=>(some (ET%4294967296)).bind λLB=>(qO mN fU).bind λOB=>(stM mN OB LB).bind λWd=>(some (IntKind.i64.wrap (fU-1))).bind λqV=>some (.inl (qV,Wd,Bn))) λTr=>(bif Wc then(some (jW 18446744073709551616 Dd 1)).bind λOC=>(some (jE.length:Int)).bind λWe=>(cI (λ(LC:Int×Nat×(List Nat))=>match LC with|⟨qW,pK,oH⟩=>(show Option ((Int×Nat×(List Nat))⊕(Nat×(List Nat)))from(some (decide ((qW:Int)<We))).bind λEU=>(bif EU then(c7 jE qW).bind λx74=>(some (IntKind.i64.wrap (fU+qW))).bind λx79=>(some (IntKind.i64.wrap (fU+qW))).bind λNq=>(qO oH Nq).bind λx85=>(oH[x85]?).bind λOD=>(some (OD%18446744073709551616)).bind λGG=>(some (x74%18446744073709551616)).bind λLD=>(some ((GG+LD)%18446744073709551616)).bind λx90=>(bu x90 pK).bind λ⟨Wf,Wg⟩=>(qO oH x79).bind λNr=>(stM oH Nr Wf).bind λWh=>(some (IntKind.i64.wrap (qW+1))).bind λLF=>some (.inl (LF,Wg,Wh))else some (.inr (pK,oH))))) (0,0,Np)).bind λWi=>match Wi with|⟨zK,uN⟩=>(some (IntKind.i64.wrap (fU+gU))).bind λx97=>(some (IntKind.i64.wrap (fU+gU))).bind λOE=>(qO uN OE).bind λOF=>(uN[OF]?).bind λDi=>(some (Di%18446744073709551616)).bind λOG=>(bu OG zK).bind λ⟨LG,k72⟩=>(qO uN x97).bind λOH=>(stM uN OH LG).bind λWj=>Tr (OC,Wj)else Tr (Dd,Np))else some (.inr (mN,oG))))) (qy,tw,kF)).bind λWk=>match Wk with|⟨uO,qX⟩=>(GC 4 gU (0:Nat)).bind λOI=>(cI (λ(Ns:Int×(List Nat))=>match Ns with|⟨nH,pL⟩=>(show Option ((Int×(List Nat))⊕((List Nat)))from(some (decide ((nH:Int)<gU))).bind λLH=>(bif LH then(qO qX nH).bind λOJ=>(qX[OJ]?).bind λOK=>(some (OK%18446744073709551616)).bind λLI=>(some (IntKind.i64.wrap (nH+1))).bind λOL=>(qO qX OL).bind λOM=>(qX[OM]?).bind λON=>(some (ON%18446744073709551616)).bind λLJ=>(some (LJ*2^32%18446744073709551616)).bind λLK=>(some ((LI ||| LK)%18446744073709551616)).bind λLL=>(some (LL/2^(min eK 64))).bind λOO=>(some (OO%4294967296)).bind λLM=>(qO pL nH).bind λOP=>(stM pL OP LM).bind λWm=>(some (IntKind.i64.wrap (nH+1))).bind λLN=>some (.inl (LN,Wm))else some (.inr pL)))) (0,OI)).bind λlK=>some (uO,lK)
noncomputable def dX(x0:List Nat)(x1:List Nat):Option ((List Nat)×(List Nat)):=(b7 x0 x1).bind λgV=>(some (decide ((gV:Int)<0))).bind λiv=>(bif iv then(c8 x0).bind λkJ=>some ([],kJ)else(some (x0.length:Int)).bind λfN=>(some (decide ((fN:Int)<=2))).bind λmq=>(bif mq then(cJ x0).bind λiU=>(cJ x1).bind λjd=>(xT 18446744073709551616 iU jd).bind λja=>(dA false ja).bind λ⟨rX,rY⟩=>(vZ iU jd).bind λnN=>(dA false nN).bind λ⟨jG,iV⟩=>some (rY,iV)else(some (x1.length:Int)).bind λyU=>(some (decide ((yU:Int)=1))).bind λwV=>(bif wV then(c8 x0).bind λqz=>(c7 x1 0).bind λqy=>(some (qy%18446744073709551616)).bind λDg=>(eR qz Dg).bind λ⟨yT,l5⟩=>(nY qz l5).bind λ_=>(some (yT%4294967296)).bind λvP=>some (l5,[vP])else(fD x0 x1).bind λ⟨OQ,OR⟩=>some (OQ,OR))))
noncomputable def bp(x0:Int):Option (Zr):=(some ((x0%18446744073709551616).toNat)).bind λx5=>(some (decide ((x0:Int)<0))).bind λx7=>cW (λ(OS:Nat)=>(some (decide ((x0:Int)<0))).bind λkI=>(dA kI OS).bind λ⟨mO,rZ⟩=>some ⟨mO,rZ⟩) λK2=>(bif x7 then(some (jW 18446744073709551616 0 x5)).bind λx9=>K2 x9 else K2 x5)
noncomputable def cD(x0:Zr):Option (Int×Bool):=match x0 with|⟨bR,bN⟩=>(bh bN).bind λx8=>(some (x8.length:Int)).bind λgO=>(some (decide ((2:Int)<gO))).bind λkI=>(bif kI then some (0,false)else(cJ x8).bind λiv=>(bif bR then(some (decide ((9223372036854775808:Nat)<iv))).bind λgU=>(bif gU then some (0,false)else(some (jW 18446744073709551616 0 iv)).bind λmq=>(some (IntKind.i64.wrap (mq:Int))).bind λiT=>some (iT,true))else(some (decide ((9223372036854775808:Nat)<=iv))).bind λjC=>(bif jC then some (0,false)else(some (IntKind.i64.wrap (iv:Int))).bind λeK=>some (eK,true))))
noncomputable def cr(x0:Bool)(x1:List Nat)(x2:Bool)(x3:List Nat):Option (Zr):=(some (x0==x2)).bind λkI=>(bif kI then(dr x1 x3).bind λkJ=>(bM x0 kJ).bind λ⟨n7,n8⟩=>some ⟨n7,n8⟩else(b7 x1 x3).bind λmq=>(some (decide ((mq:Int)<0))).bind λiT=>(bif iT then(cg x3 x1).bind λeK=>(bM x2 eK).bind λ⟨wX,wY⟩=>some ⟨wX,wY⟩else(cg x1 x3).bind λgz=>(bM x0 gz).bind λ⟨wZ,w5⟩=>some ⟨wZ,w5⟩))
noncomputable def cK(x0:Zr)(x1:Zr):Option (Zr):=match x0 with|⟨bR,bN⟩=>match x1 with|⟨dj,cY⟩=>(cD ⟨bR,bN⟩).bind λ⟨wh,Bo⟩=>(cD ⟨dj,cY⟩).bind λ⟨yc,Bp⟩=>cW (λ(uP:Bool)=>cW (λ(j5:Unit)=>(bh bN).bind λv8=>(bh cY).bind λqV=>(cr bR v8 dj qV).bind λ⟨I5,I6⟩=>some ⟨I5,I6⟩) λK5=>(bif uP then(some (IntKind.i64.wrap (wh+yc))).bind λja=>(some (IntKind.i64.wrap ((BitVec.ofInt 64 wh ^^^ BitVec.ofInt 64 ja).toNat))).bind λgz=>(some (IntKind.i64.wrap ((BitVec.ofInt 64 yc ^^^ BitVec.ofInt 64 ja).toNat))).bind λjE=>(some (IntKind.i64.wrap ((BitVec.ofInt 64 gz &&& BitVec.ofInt 64 jE).toNat))).bind λn6=>(some (decide ((0:Int)<=n6))).bind λjX=>(bif jX then(bp ja).bind λ⟨r5,r6⟩=>some ⟨r5,r6⟩else K5 ())else K5 ())) λK3=>(bif Bo then some Bp else some false).bind λzL=>K3 zL
noncomputable def fV(x0:Zr)(x1:Zr):Option (Zr):=match x0 with|⟨bR,bN⟩=>match x1 with|⟨dj,cY⟩=>(cD ⟨bR,bN⟩).bind λ⟨wh,Bo⟩=>(cD ⟨dj,cY⟩).bind λ⟨yc,Bp⟩=>cW (λ(uP:Bool)=>cW (λ(j5:Unit)=>(bh bN).bind λv8=>(some (!dj)).bind λDg=>(bh cY).bind λzG=>(cr bR v8 Dg zG).bind λ⟨I7,I8⟩=>some ⟨I7,I8⟩) λK5=>(bif uP then(some (IntKind.i64.wrap (wh-yc))).bind λja=>(some (IntKind.i64.wrap ((BitVec.ofInt 64 wh ^^^ BitVec.ofInt 64 yc).toNat))).bind λgz=>(some (IntKind.i64.wrap ((BitVec.ofInt 64 wh ^^^ BitVec.ofInt 64 ja).toNat))).bind λjE=>(some (IntKind.i64.wrap ((BitVec.ofInt 64 gz &&& BitVec.ofInt 64 jE).toNat))).bind λn6=>(some (decide ((0:Int)<=n6))).bind λjX=>(bif jX then(bp ja).bind λ⟨r5,r6⟩=>some ⟨r5,r6⟩else K5 ())else K5 ())) λK3=>(bif Bo then some Bp else some false).bind λzL=>K3 zL
noncomputable def cQ(x0:Zr)(x1:Zr):Option (Zr):=match x0 with|⟨bR,bN⟩=>match x1 with|⟨dj,cY⟩=>(bh bN).bind λx9=>(bh cY).bind λgV=>cW (λ(EV:Bool)=>(bif EV then(some (!(bR==dj))).bind λoC=>(cJ x9).bind λkF=>(cJ gV).bind λgz=>(some ((kF*gz)%18446744073709551616)).bind λoE=>(dA oC oE).bind λ⟨I9,Ja⟩=>some ⟨I9,Ja⟩else(some (!(bR==dj))).bind λyU=>(dW x9 gV).bind λqz=>(bM yU qz).bind λ⟨l9,mc⟩=>some ⟨l9,mc⟩)) λK3=>(some (x9.length:Int)).bind λkK=>(some (decide ((kK:Int)<=1))).bind λkJ=>(bif kJ then(some (gV.length:Int)).bind λfN=>(some (decide ((fN:Int)<=1))).bind λmq=>some mq else some false).bind λJb=>K3 Jb
noncomputable def dD(x0:Zr):Option (Zr):=match x0 with|⟨bR,bN⟩=>(some (!bR)).bind λx5=>(bh bN).bind λx8=>(c8 x8).bind λx9=>(bM x5 x9).bind λ⟨w6,w7⟩=>some ⟨w6,w7⟩
noncomputable def ct(x0:Zr):Option (Int):=match x0 with|⟨bR,bN⟩=>(bh bN).bind λx6=>(some (x6.length:Int)).bind λx7=>(some (decide ((x7:Int)=0))).bind λx8=>(bif x8 then some 0 else(bif bR then some (-1)else some 1))
noncomputable def iW(x0:Zr)(x1:Zr):Option (Int):=match x0 with|⟨bR,bN⟩=>match x1 with|⟨dj,cY⟩=>(ct ⟨bR,bN⟩).bind λx8=>(ct ⟨dj,cY⟩).bind λgO=>(some (decide ((x8:Int)<gO))).bind λkK=>(bif kK then some (-1)else(some (decide ((gO:Int)<x8))).bind λfN=>(bif fN then some 1 else(some (decide ((x8:Int)<0))).bind λiU=>(bif iU then(bh cY).bind λeK=>(bh bN).bind λkF=>(b7 eK kF).bind λlB=>some lB else(bh bN).bind λnN=>(bh cY).bind λjX=>(b7 nN jX).bind λnO=>some nO)))
noncomputable def cc(x0:Zr)(x1:Zr):Option (Zr×Zr×Int):=match x0 with|⟨bR,bN⟩=>match x1 with|⟨dj,cY⟩=>(bh bN).bind λiv=>(bh cY).bind λjD=>(some (jD.length:Int)).bind λfN=>(some (decide ((fN:Int)=0))).bind λmq=>(bif mq then some (⟨false,[]⟩,⟨false,[]⟩,7)else(dX iv jD).bind λ⟨EW,OT⟩=>(bh OT).bind λgz=>cW (λ(j3:Bool×Bool)=>match j3 with|⟨EX,Bq⟩=>cW (λ(j5:(List Nat)×(List Nat))=>match j5 with|⟨OU,Jc⟩=>(some (!(Bq==dj))).bind λzG=>(bM zG OU).bind λ⟨Jd,Je⟩=>(bM false Jc).bind λ⟨pM,uQ⟩=>some (⟨Jd,Je⟩,⟨pM,uQ⟩,0)) λK5=>(bif EX then(dr EW [1]).bind λqz=>(cg jD gz).bind λqy=>K5 (qz,qy)else K5 (EW,gz))) λK3=>(bif bR then(some (gz.length:Int)).bind λjX=>(some (decide ((0:Int)<jX))).bind λnO=>some nO else some false).bind λJf=>K3 (Jf,bR))
noncomputable def gP(x0:Zr)(x1:Zr):Option (Zr):=match x0 with|⟨bR,bN⟩=>match x1 with|⟨dj,cY⟩=>(bh bN).bind λiv=>(bh cY).bind λjD=>(cI (λ(tF:(List Nat)×(List Nat))=>match tF with|⟨sN,yd⟩=>(show Option (((List Nat)×(List Nat))⊕((List Nat)×(List Nat)))from cW (λ(Br:Bool)=>(bif Br then(dX sN yd).bind λ⟨Wn,OV⟩=>(bh OV).bind λtw=>some (.inl (yd,tw))else some (.inr (sN,yd)))) λK16=>(some (yd.length:Int)).bind λfN=>(some (decide ((0:Int)<fN))).bind λmq=>(bif mq then(some (sN.length:Int)).bind λjC=>(some (decide ((2:Int)<jC))).bind λjd=>(bif jd then some true else(some (yd.length:Int)).bind λja=>(some (decide ((2:Int)<ja))).bind λkF=>some kF).bind λEY=>some EY else some false).bind λEZ=>K16 EZ)) (iv,jD)).bind λDh=>match Dh with|⟨E4,E5⟩=>(some (E5.length:Int)).bind λnF=>(some (decide ((nF:Int)=0))).bind λv8=>(bif v8 then(c8 E4).bind λyS=>(bM false yS).bind λ⟨Jg,Jh⟩=>some ⟨Jg,Jh⟩else(cJ E4).bind λqV=>(cJ E5).bind λvP=>(cI (λ(Nt:Nat×Nat)=>match Nt with|⟨Ch,qY⟩=>(show Option ((Nat×Nat)⊕(Nat))from(some (decide ((0:Nat)<qY))).bind λtC=>(bif tC then(vZ Ch qY).bind λLO=>some (.inl (qY,LO))else some (.inr Ch)))) (qV,vP)).bind λw8=>(dA false w8).bind λ⟨Ji,Jj⟩=>some ⟨Ji,Jj⟩)
end
section
open Go.Fw Go.Fw.Z Go.RowKit
theorem dw(c:Nat):KZ ah 92 [.v (.int .u64 (c:Nat))] 113 100 [.v (.int .u64 (c:Nat))]:=by
 refine Bc Try.func92 Y (af Y) (λgA M vs hvs=>?_);exact sr<|RT.KQ .none (s:=.sv _) Y T Y Y<|ag Y<|dn<|sr<|RT.makeFunc .none (.box Y (.nil)) T<|an (s:=.ff _ _) Y<|dn<|bj<|⟨.inr Y,_,.tmp Y,Y⟩
theorem mP(a b:List Nat):Pure ah 93 [(slc 1 (List.map aX a)),(slc 1 (List.map aX b))] (zg 114 [ref [(slc 1 (List.map aX a))],ref [(slc 1 (List.map aX b))]]):=by
 refine bL Try.func93 Y (af Y) (λgA M vs hvs=>?_);refine sr<|RT.KQ .none (s:=.sv _) Y T Y Y<|RT.KQ .none (s:=.sv _) Y T Y Y<|ag Y<|dn<|sr<|RT.makeFunc .none (.box Y (.box Y (.nil))) T<|an (s:=.ff _ _) Y<|dn<|fK (wM (i:=2) Y [(slc 1 (List.map aX a))] (.cons Y .nil) .any 0 [(4,.ff 114 [.val (ref [(slc 1 (List.map aX a))]),.box 3])] (λ_ _ _=>trivial) (uf.h (l:=[(slc 1 (List.map aX a))])) ⟨@FT.ff _ _ _ _ _ 4 114 [.box 2,.box 3] Y,aq⟩) ?_;exact fK (wM (i:=3) Y [(slc 1 (List.map aX b))] (.cons Y .nil) .any 0 [(4,.ff 114 [.val (ref [(slc 1 (List.map aX a))]),.val (ref [(slc 1 (List.map aX b))])])] (λ_ _ _=>trivial) (uf.h (l:=[(slc 1 (List.map aX b))])) ⟨@FT.ff _ _ _ _ _ 4 114 [.val (ref [(slc 1 (List.map aX a))]),.box 3] Y,aq⟩)<|fK (Lf 4 (zg 114 [ref [(slc 1 (List.map aX a))],ref [(slc 1 (List.map aX b))]]) (λ_ _ h=>Lg h))<|bj<|⟨.inr Y,KV (.tmp Y (.nil)) Y⟩
theorem mQ(a b:List Nat):Iter ah 114 [ref [(slc 1 (List.map aX a))],ref [(slc 1 (List.map aX b))]] (max a.length b.length) (λk=>[.v (.int .u64 ((a.getD k 0%18446744073709551616:Nat):Int)),.v (.int .u64 ((b.getD k 0%18446744073709551616:Nat):Int))]):=by
 refine Be Try.func114 Y Y (af Y) (λgA M O l J hJ LP hr=>?_);obtain⟨vO,LP⟩:=LP;have hla:a.length<=9223372036854775807:=by cases vO with|nil=>exact LP.elim|cons _ vO=>exact B9 LP.1
 have hlb:b.length<=9223372036854775807:=by cases vO with|nil=>exact LP.elim|cons _ vO=>cases vO with|nil=>exact LP.2.elim|cons _ _=>exact B9 LP.2.1
 refine cm ?_;refine aZ ?_;refine RT.fJ .none Y Y (tl Y) ?_;refine RT.len .none Y (tl Y) ?_;refine RT.fJ .none Y Y (tl Y) ?_;refine RT.len .none Y (tl Y) ?_;refine RT.max .none (((max a.length b.length:Nat):Int)) Y Y (tl Y) (by simp only[List.length_map];split<;>omega) ?_;refine RT.mv .none Y (tl Y) ?_;refine RT.done ?_;refine aV.n ?_;refine bn ?_
 refine BS (I:=λx:{i:Nat//i<=max a.length b.length}=>AS.dm 39 [(0,.sv (.v (.func (.yield l) #[] #[]))),(1,.sv (ref [(slc 1 (List.map aX a))])),(2,.sv (ref [(slc 1 (List.map aX b))])),(11,ai ((max a.length b.length:Nat):Int)),(12,ai ((x.1:Nat):Int))] [] [] (x.1)) (μ:=λx=>max a.length b.length-x.1) ⟨0,by omega⟩ (by(try dsimp only);exact fS id Y Y Y Y Y ⟨.sv (by first|exact au|exact SV.bq (by omega)|exact SV.bq (by push_cast;omega)|exact SV.bq (by dsimp only;omega)|exact SV.imp_eq (by simp)),.sv (by first|exact au|exact SV.bq (by omega)|exact SV.bq (by push_cast;omega)|exact SV.bq (by dsimp only;omega)|exact SV.imp_eq (by simp)),.sv (by first|exact au|exact SV.bq (by omega)|exact SV.bq (by push_cast;omega)|exact SV.bq (by dsimp only;omega)|exact SV.imp_eq (by simp)),.sv (by first|exact au|exact SV.bq (by omega)|exact SV.bq (by push_cast;omega)|exact SV.bq (by dsimp only;omega)|exact SV.imp_eq (by simp)),.sv (by first|exact au|exact SV.bq (by omega)|exact SV.bq (by push_cast;omega)|exact SV.bq (by dsimp only;omega)|exact SV.imp_eq (by simp)),aq⟩ trivial trivial (λ_ _=>Y)) ?_;rintro⟨i,hi0⟩
 try dsimp only
 rcases Bg a b i hi0 with⟨hi,xR,Eh⟩|⟨hi,xR,Eh⟩|⟨hi,xR,Eh⟩|hi
 ·
  refine cm ?_;refine aZ ?_;refine RT.lss .none (true) Y Y (tl Y) (by simp;omega) ?_;refine RT.done ?_;refine aV.n ?_;refine cm ?_;refine fP Y ?_;refine bA ?_;refine aV.n ?_;refine cm ?_;refine bn ?_;refine cm ?_;refine aZ ?_;refine RT.mv .none Y (tl Y) ?_;refine RT.A8 .none Y (tl Y) ?_;refine RT.done ?_;refine aV.n ?_;refine cm ?_;refine aZ ?_;refine RT.A8 .none Y (tl Y) ?_;refine RT.A8 .none Y (tl Y) ?_;refine RT.done ?_;refine aV.n ?_;refine cm ?_;refine cm ?_;refine aZ ?_;refine RT.mv .none Y (tl Y) ?_;refine RT.fJ .none Y Y (tl Y) ?_;refine RT.len .none Y (tl Y) ?_;refine RT.lss .none (true) Y Y (tl Y) (by simp only[List.length_map];simp;omega) ?_;refine RT.done ?_;refine aV.n ?_;refine fP Y ?_;refine aZ ?_;refine RT.fJ .none Y Y (tl Y) ?_;refine RT.mv .none Y (tl Y) ?_;refine RT.Ti .none [.v (.int .u32 ((a.getD i 0:Nat):Int))] (Int.natCast_nonneg i) (by rw[Int.toNat_natCast,List.getElem?_map,mI xR];rfl) Y Y (tl Y) ?_;refine RT.fJ .none Y Y (tl Y) ?_;refine RT.conv .none (((a.getD i 0%18446744073709551616:Nat):Int)) Y (tl Y) He ?_;refine RT.A8 .none Y (tl Y) ?_;refine RT.done ?_;refine aV.n ?_;refine cm ?_;refine cm ?_;refine aZ ?_;refine RT.mv .none Y (tl Y) ?_
  refine RT.fJ .none Y Y (tl Y) ?_;refine RT.len .none Y (tl Y) ?_;refine RT.lss .none (true) Y Y (tl Y) (by simp only[List.length_map];simp;omega) ?_;refine RT.done ?_;refine aV.n ?_;refine fP Y ?_;refine aZ ?_;refine RT.fJ .none Y Y (tl Y) ?_;refine RT.mv .none Y (tl Y) ?_;refine RT.Ti .none [.v (.int .u32 ((b.getD i 0:Nat):Int))] (Int.natCast_nonneg i) (by rw[Int.toNat_natCast,List.getElem?_map,mI Eh];rfl) Y Y (tl Y) ?_;refine RT.fJ .none Y Y (tl Y) ?_;refine RT.conv .none (((b.getD i 0%18446744073709551616:Nat):Int)) Y (tl Y) He ?_;refine RT.A8 .none Y (tl Y) ?_;refine RT.done ?_;refine aV.n ?_;refine cm ?_;refine aZ ?_;refine RT.mv .none Y (tl Y) ?_;refine RT.mv .none Y (tl Y) ?_;refine RT.mv .none Y (tl Y) ?_;refine RT.yield .none hr Y (λ_ h=>h) Y (i) Y Y hi (by exact⟨Y,Y,aq⟩) (tl Y) (λyb=>?_);cases yb
  ·
   refine RT.not .none Y (tl Y) true Y ?_;refine RT.done ?_;refine aV.n ?_;refine fP Y ?_;refine bj ?_;refine bC.r ?_;refine aV.r ?_;refine aV.r ?_;refine bC.r ?_;exact⟨.inr rfl,(λh=>by cases h)⟩
  refine RT.not .none Y (tl Y) false Y ?_;refine RT.done ?_;refine aV.n ?_;refine iO Y ?_;refine bA ?_;refine bC.n ?_;refine aV.n ?_;refine aZ ?_;refine RT.add .none (((i:Nat):Int)+1) Y Y (tl Y) (mF (by omega)) ?_;refine RT.mv .none Y (tl Y) ?_;refine RT.done ?_;refine aV.n ?_;refine⟨⟨i+1,by omega⟩,(by dsimp only;omega),?_⟩
  try dsimp only
  exact fS id Y Y Y Y Y ⟨.sv (by first|exact au|exact SV.bq (by omega)|exact SV.bq (by push_cast;omega)|exact SV.bq (by dsimp only;omega)|exact SV.imp_eq (by simp)),.sv (by first|exact au|exact SV.bq (by omega)|exact SV.bq (by push_cast;omega)|exact SV.bq (by dsimp only;omega)|exact SV.imp_eq (by simp)),.sv (by first|exact au|exact SV.bq (by omega)|exact SV.bq (by push_cast;omega)|exact SV.bq (by dsimp only;omega)|exact SV.imp_eq (by simp)),.sv (by first|exact au|exact SV.bq (by omega)|exact SV.bq (by push_cast;omega)|exact SV.bq (by dsimp only;omega)|exact SV.imp_eq (by simp)),.sv (by first|exact au|exact SV.bq (by omega)|exact SV.bq (by push_cast;omega)|exact SV.bq (by dsimp only;omega)|exact SV.imp_eq (by simp)),aq⟩ trivial trivial (λ_ _=>Y)
 ·
  refine cm ?_;refine aZ ?_;refine RT.lss .none (true) Y Y (tl Y) (by simp;omega) ?_;refine RT.done ?_;refine aV.n ?_;refine cm ?_;refine fP Y ?_;refine bA ?_;refine aV.n ?_;refine cm ?_;refine bn ?_;refine cm ?_;refine aZ ?_;refine RT.mv .none Y (tl Y) ?_;refine RT.A8 .none Y (tl Y) ?_;refine RT.done ?_;refine aV.n ?_;refine cm ?_;refine aZ ?_;refine RT.A8 .none Y (tl Y) ?_;refine RT.A8 .none Y (tl Y) ?_;refine RT.done ?_;refine aV.n ?_;refine cm ?_;refine cm ?_;refine aZ ?_;refine RT.mv .none Y (tl Y) ?_;refine RT.fJ .none Y Y (tl Y) ?_;refine RT.len .none Y (tl Y) ?_;refine RT.lss .none (true) Y Y (tl Y) (by simp only[List.length_map];simp;omega) ?_;refine RT.done ?_;refine aV.n ?_;refine fP Y ?_;refine aZ ?_;refine RT.fJ .none Y Y (tl Y) ?_;refine RT.mv .none Y (tl Y) ?_;refine RT.Ti .none [.v (.int .u32 ((a.getD i 0:Nat):Int))] (Int.natCast_nonneg i) (by rw[Int.toNat_natCast,List.getElem?_map,mI xR];rfl) Y Y (tl Y) ?_;refine RT.fJ .none Y Y (tl Y) ?_;refine RT.conv .none (((a.getD i 0%18446744073709551616:Nat):Int)) Y (tl Y) He ?_;refine RT.A8 .none Y (tl Y) ?_;refine RT.done ?_;refine aV.n ?_;refine cm ?_;refine cm ?_;refine aZ ?_;refine RT.mv .none Y (tl Y) ?_
  refine RT.fJ .none Y Y (tl Y) ?_;refine RT.len .none Y (tl Y) ?_;refine RT.lss .none (false) Y Y (tl Y) (by simp only[List.length_map];simp;omega) ?_;refine RT.done ?_;refine aV.n ?_;refine iO Y ?_;refine bA ?_;refine aV.n ?_;refine cm ?_;refine aZ ?_;refine RT.mv .none Y (tl Y) ?_;refine RT.mv .none Y (tl Y) ?_;refine RT.mv .none Y (tl Y) ?_;refine RT.yield .none hr Y (λ_ h=>h) Y (i) Y Y hi (by exact⟨Y,(by show AV.sv _=AV.sv _;rw[oB Eh];rfl),aq⟩) (tl Y) (λyb=>?_);cases yb
  ·
   refine RT.not .none Y (tl Y) true Y ?_;refine RT.done ?_;refine aV.n ?_;refine fP Y ?_;refine bj ?_;refine bC.r ?_;refine aV.r ?_;refine aV.r ?_;refine bC.r ?_;exact⟨.inr rfl,(λh=>by cases h)⟩
  refine RT.not .none Y (tl Y) false Y ?_;refine RT.done ?_;refine aV.n ?_;refine iO Y ?_;refine bA ?_;refine bC.n ?_;refine aV.n ?_;refine aZ ?_;refine RT.add .none (((i:Nat):Int)+1) Y Y (tl Y) (mF (by omega)) ?_;refine RT.mv .none Y (tl Y) ?_;refine RT.done ?_;refine aV.n ?_;refine⟨⟨i+1,by omega⟩,(by dsimp only;omega),?_⟩
  try dsimp only
  exact fS id Y Y Y Y Y ⟨.sv (by first|exact au|exact SV.bq (by omega)|exact SV.bq (by push_cast;omega)|exact SV.bq (by dsimp only;omega)|exact SV.imp_eq (by simp)),.sv (by first|exact au|exact SV.bq (by omega)|exact SV.bq (by push_cast;omega)|exact SV.bq (by dsimp only;omega)|exact SV.imp_eq (by simp)),.sv (by first|exact au|exact SV.bq (by omega)|exact SV.bq (by push_cast;omega)|exact SV.bq (by dsimp only;omega)|exact SV.imp_eq (by simp)),.sv (by first|exact au|exact SV.bq (by omega)|exact SV.bq (by push_cast;omega)|exact SV.bq (by dsimp only;omega)|exact SV.imp_eq (by simp)),.sv (by first|exact au|exact SV.bq (by omega)|exact SV.bq (by push_cast;omega)|exact SV.bq (by dsimp only;omega)|exact SV.imp_eq (by simp)),aq⟩ trivial trivial (λ_ _=>Y)
 ·
  refine cm ?_;refine aZ ?_;refine RT.lss .none (true) Y Y (tl Y) (by simp;omega) ?_;refine RT.done ?_;refine aV.n ?_;refine cm ?_;refine fP Y ?_;refine bA ?_;refine aV.n ?_;refine cm ?_;refine bn ?_;refine cm ?_;refine aZ ?_;refine RT.mv .none Y (tl Y) ?_;refine RT.A8 .none Y (tl Y) ?_;refine RT.done ?_;refine aV.n ?_;refine cm ?_;refine aZ ?_;refine RT.A8 .none Y (tl Y) ?_;refine RT.A8 .none Y (tl Y) ?_;refine RT.done ?_;refine aV.n ?_;refine cm ?_;refine cm ?_;refine aZ ?_;refine RT.mv .none Y (tl Y) ?_;refine RT.fJ .none Y Y (tl Y) ?_;refine RT.len .none Y (tl Y) ?_;refine RT.lss .none (false) Y Y (tl Y) (by simp only[List.length_map];simp;omega) ?_;refine RT.done ?_;refine aV.n ?_;refine iO Y ?_;refine bA ?_;refine aV.n ?_;refine cm ?_;refine cm ?_;refine aZ ?_;refine RT.mv .none Y (tl Y) ?_;refine RT.fJ .none Y Y (tl Y) ?_;refine RT.len .none Y (tl Y) ?_;refine RT.lss .none (true) Y Y (tl Y) (by simp only[List.length_map];simp;omega) ?_;refine RT.done ?_;refine aV.n ?_;refine fP Y ?_;refine aZ ?_;refine RT.fJ .none Y Y (tl Y) ?_;refine RT.mv .none Y (tl Y) ?_
  refine RT.Ti .none [.v (.int .u32 ((b.getD i 0:Nat):Int))] (Int.natCast_nonneg i) (by rw[Int.toNat_natCast,List.getElem?_map,mI Eh];rfl) Y Y (tl Y) ?_;refine RT.fJ .none Y Y (tl Y) ?_;refine RT.conv .none (((b.getD i 0%18446744073709551616:Nat):Int)) Y (tl Y) He ?_;refine RT.A8 .none Y (tl Y) ?_;refine RT.done ?_;refine aV.n ?_;refine cm ?_;refine aZ ?_;refine RT.mv .none Y (tl Y) ?_;refine RT.mv .none Y (tl Y) ?_;refine RT.mv .none Y (tl Y) ?_;refine RT.yield .none hr Y (λ_ h=>h) Y (i) Y Y hi (by exact⟨(by show AV.sv _=AV.sv _;rw[oB xR];rfl),Y,aq⟩) (tl Y) (λyb=>?_);cases yb
  ·
   refine RT.not .none Y (tl Y) true Y ?_;refine RT.done ?_;refine aV.n ?_;refine fP Y ?_;refine bj ?_;refine bC.r ?_;refine aV.r ?_;refine aV.r ?_;refine bC.r ?_;exact⟨.inr rfl,(λh=>by cases h)⟩
  refine RT.not .none Y (tl Y) false Y ?_;refine RT.done ?_;refine aV.n ?_;refine iO Y ?_;refine bA ?_;refine bC.n ?_;refine aV.n ?_;refine aZ ?_;refine RT.add .none (((i:Nat):Int)+1) Y Y (tl Y) (mF (by omega)) ?_;refine RT.mv .none Y (tl Y) ?_;refine RT.done ?_;refine aV.n ?_;refine⟨⟨i+1,by omega⟩,(by dsimp only;omega),?_⟩
  try dsimp only
  exact fS id Y Y Y Y Y ⟨.sv (by first|exact au|exact SV.bq (by omega)|exact SV.bq (by push_cast;omega)|exact SV.bq (by dsimp only;omega)|exact SV.imp_eq (by simp)),.sv (by first|exact au|exact SV.bq (by omega)|exact SV.bq (by push_cast;omega)|exact SV.bq (by dsimp only;omega)|exact SV.imp_eq (by simp)),.sv (by first|exact au|exact SV.bq (by omega)|exact SV.bq (by push_cast;omega)|exact SV.bq (by dsimp only;omega)|exact SV.imp_eq (by simp)),.sv (by first|exact au|exact SV.bq (by omega)|exact SV.bq (by push_cast;omega)|exact SV.bq (by dsimp only;omega)|exact SV.imp_eq (by simp)),.sv (by first|exact au|exact SV.bq (by omega)|exact SV.bq (by push_cast;omega)|exact SV.bq (by dsimp only;omega)|exact SV.imp_eq (by simp)),aq⟩ trivial trivial (λ_ _=>Y)
 subst hi;refine cm ?_;refine aZ ?_;refine RT.lss .none (false) Y Y (tl Y) (by simp) ?_;refine RT.done ?_;refine aV.n ?_;refine cm ?_;refine iO Y ?_;refine cq ?_;refine aV.x ?_;refine aV.x ?_;refine bC.x ?_;exact⟨.inl Y,(λ_=>Y)⟩
theorem kP{x0 r:List Nat}(h:c8 x0=some r):C5 ah 56 [slc 1 (List.map aX x0)] (TR 80 1 aX r):=by
 refine uC Try.func56 Y (af Y) (λgA M vs hvs=>?_);unfold c8 at h;refine sr<|ag Y<|dn<|qq<|sr<|mv Y ?_;refine RT.N9 .none Y T (λnb hnb=>?_);cases nb;exact dn<|fs<|sr<|RT.Hi (l:=([]:List Nat)) (e:=aX) .none .nil T Y T Y Y Y Y Y Y<|mv Y<|aR (k:=x0) (e:=aX) Y Y Y h<|an (s:=.row _) Y<|dn<|bj<|⟨.inr Y,_,.tmp Y,Y⟩;have hx:x0=[]:=by simpa using hnb Y
 subst hx;obtain⟨_,_,rfl⟩:=pC h;exact dn<|cT<|sr<|ag Y<|dn<|fK (iS 2 300 80 1 Y Y T)<|bj<|aV.r<|⟨.inr Y,_,.tmp Y,Y⟩
theorem bK{x0:Nat}{c0:Nat}{r:Nat×Nat}(h:bu x0 c0=some r):G1 ah 113 [.v (.int .u64 ((x0:Nat):Int))] 100 [.v (.int .u64 ((c0:Nat):Int))] (.v (.int .u32 ((r.1:Nat):Int))) [.v (.int .u64 ((r.2:Nat):Int))]:=by
 refine Bb Try.func113 Y (af Y) (λgA M β=>?_);unfold bu at h;refine sr<|ag Y<|dn<|sr<|mv Y<|lV Y Y Y<|lE h λx6 h6 h=>ad _ Y Y (UK.add (a:=x0) (b:=c0) h6)<|ag Y<|dn<|sr<|mv Y<|lE h λx8 h8 h=>RT.shr .none _ Y Y T (by decide) (xU (k:=.u64) (a:=x6) (q:=32) (s:=32) Y h8)<|RT.A0 (cells:=[_]) .none (s:=.sv _) Y Y Y T Y<|dn<|sr<|mv Y<|lE h λgO jc h=>cv _ Y (UK.nat jc)<|ag Y ?_;refine dn<|bj ?_;obtain rfl:=O h;exact⟨.inr Y,cS (.tmp Y (.nil)) au,Y⟩
theorem bO{x0:List Nat}{r:List Nat}(h:bh x0=some r):Pure ah 54 [slc 1 (List.map aX x0)] (slc 1 (List.map aX r)):=by
 refine bL Try.func54 Y (af Y) (λgA M vs hvs=>?_);unfold bh at h;refine sr<|aI Y (aB (n:=1) (e:=aX))<|dn<|qq<|bE h λLQ Bs ye=>?_;refine bX (λ(uL:(List Nat))=>AS.dm 21 [(0,.sv (slc 1 (List.map aX uL)))] [] []) (λuL=>uL=LQ) ?_ (λuL Bt=>?_);refine bn ?_;refine bY Bs (λzJ=>AS.dm 21 [(0,.sv (slc 1 (List.map aX zJ)))] [] []) (wR []) (λsL Wo Wp h Bu zM=>?_)
 try dsimp only
 refine qq<|qq ?_;refine bD h (λOW=>AS.dm 21 [(0,.sv (slc 1 (List.map aX sL))),(14,aj OW)] [] []) (λh=>?_) (λuK h=>?_);refine aZ<|mv Y<|lE h λx4 h4 h=>ln Y h4<|lE h λx5 h5 h=>gt _ Y Y h5<|mv Y<|bE h λBj eY h=>?_;cases x5;obtain rfl:=O (F eY);exact ww<|ww<|ww<|ww<|ww<|ww<|ww<|pF Y<|dn<|⟨false,h,wR []⟩;refine gm Y<|gm Y<|lE (V eY) λx9 h9 eY=>gn Y h9<|lE eY λgO jc eY=>RT.sub (.some Y Y) _ Y Y T jc<|bE eY λkI oI eY=>RT.Ll (.some Y Y) Y Y T oI<|gr Y Y<|lE eY λiv mu eY=>Cd _ Y Y (Ob (p:=kI) (q:=0) mu) ?_;obtain rfl:=O eY;exact pT Y<|dn<|⟨iv,h,wR []⟩
 try dsimp only
 refine aV.n ?_;cases uK;refine cF<|cq<|aV.x<|aV.x<|bC.x<|aV.n ?_;obtain rfl:=O (F h);exact⟨sL,zM _ Y,wR []⟩;refine cT<|bA<|aV.n<|bn<|aZ<|mv Y<|mv Y<|lE (V h) λgU mw h=>ln Y mw<|lE h λfN jY h=>sb _ Y Y jY<|bE h λmq qZ h=>RT.ED .none 0 fN Y Y ⟨_,Y⟩ T qZ<|ag Y<|RT.done<|bC.n ?_;obtain rfl:=O h;exact aV.n ⟨mq,Bu _ Y,wR []⟩;subst Bt
 try dsimp only
 refine aV.n<|sr<|mv Y<|ag Y<|dn<|bj ?_;obtain rfl:=O ye;exact R1 Y
abbrev ax:SV:=slc 1 (List.map aX [])
theorem fW{x0:Bool}{x1:Nat}(N:Nat){r:Zr}(h:dA x0 x1=some r):dU ah 71 N [az x0,.v (.int .u64 ((x1:Nat):Int))] (.agg ((fZ N) r)):=by
 refine bG Try.func71 Y (af Y) (λgA M vs hN hvs=>?_);unfold dA at h;refine sr<|al (cs:=[az false,nw N ax]) (by exact⟨au,bt,aq⟩) Y<|dn<|qq<|bn<|sr<|mv Y<|lE h λx7 h7 h=>eq _ Y Y (Ob (p:=x1) (q:=0) h7)<|ag Y<|dn ?_;cases x7;refine cF<|sr<|mv Y<|lE (F h) λkI oI h=>RT.shr .none _ Y Y T (by decide) (xU (k:=.u64) (a:=x1) (q:=32) (s:=32) Y oI)<|lE h λgV kQ h=>eq _ Y Y (Ob (p:=kI) (q:=0) kQ)<|ag Y<|dn ?_;cases gV;refine cF<|bA<|bC.n<|aV.n<|sr<|mv Y<|mv Y<|lE (F h) λiT nP h=>cv _ Y (UK.nat nP)<|mv Y<|lE h λjC sO h=>RT.shr .none _ Y Y T (by decide) (xU (k:=.u64) (a:=x1) (q:=32) (s:=32) Y sO)<|lE h λjd oJ h=>cv _ Y (UK.nat oJ)<|RT.pD (l:=[iT,jd]) (e:=aX) .none hN (.one Y (.one Y (.nil))) T Y Y Y Y Y Y<|bI (cs:=[_,_]) (cs':=[az x0,nw N (slc 1 (List.map aX [iT,jd]))]) (.one Y (.one Y (.nil))) ⟨au,au,aq⟩ ?_;refine so Y Y Y<|dn<|bj ?_;obtain rfl:=O h;exact RZ (.agg Y Y (.k2 Y Y) Y (.nil));refine cT<|sr<|mv Y<|mv Y<|lE (V h) λkJ q9 h=>cv _ Y (UK.nat q9)<|RT.pD (l:=[kJ]) (e:=aX) .none hN (.one Y (.nil)) T Y Y Y Y Y Y<|bI (cs:=[_,_]) (cs':=[az x0,nw N (slc 1 (List.map aX [kJ]))]) (.one Y (.one Y (.nil))) ⟨au,au,aq⟩<|so Y Y Y<|dn<|bj<|bC.r<|aV.r ?_;obtain rfl:=O h
 exact RZ (.agg Y Y (.k2 Y Y) Y (.nil));refine cT<|sr<|bI (cs:=[_,_]) (cs':=[az false,nw N ax]) (.nil) ⟨au,bt,aq⟩<|so Y Y Y<|dn<|bj<|bC.r<|aV.r ?_;obtain rfl:=O (V h);exact RZ (.agg Y Y (.k2 Y Y) Y (.nil))
theorem fo{x0:List Nat}{r:Nat}(h:cJ x0=some r):Pure ah 87 [slc 1 (List.map aX x0)] (.v (.int .u64 ((r:Nat):Int))):=by
 refine bL Try.func87 Y (af Y) (λgA M vs hvs=>?_);unfold cJ at h;refine sr<|ag Y<|dn<|qq<|sr<|mv Y<|lE h λx4 h4 h=>ln Y h4<|dn<|bn<|sr<|lE h λx6 h6 h=>eq _ Y Y (oA (p:=x4) (q:=0) h6)<|ag Y<|dn ?_;cases x6;refine cF<|sr<|lE (F h) λx8 h8 h=>eq _ Y Y (oA (p:=x4) (q:=1) h8)<|ag Y<|dn ?_;cases x8;refine cF<|bA<|bC.n<|aV.n<|qq<|bg mixed<|mv Y<|bE (F h) λkK r7 h=>ix Y Y r7<|lr Y Y<|lE h λjD oK h=>cv _ Y (UK.nat oK)<|mv Y<|bE h λfN jY h=>ix Y Y jY<|lr Y Y<|lE h λiT nP h=>cv _ Y (UK.nat nP)<|lE h λiU pN h=>RT.shl .none _ Y Y T (by decide) (UK.shl (a:=iT) (q:=32) (s:=32) Y pN)<|lE h λjC sO h=>RT.or .none _ Y Y T (UK.or (a:=jD) (b:=iU) sO) ?_;refine ag Y ?_;refine RT.done ⟨by kernel_rfl,?_⟩;refine aV.n<|bj ?_;obtain rfl:=O h;exact R1 Y;refine cT<|sr<|mv Y<|bE (V h) λgO jc h=>ix Y Y jc<|lr Y Y<|lE h λgV kQ h=>cv _ Y (UK.nat kQ)<|ag Y<|dn<|bj<|bC.r<|aV.r ?_;obtain rfl:=O h;exact R1 Y;refine cT<|sr<|ag Y<|dn<|bj<|bC.r<|aV.r ?_;obtain rfl:=O (V h);exact R1 Y
theorem ei{x0:List Nat}{x1:List Nat}{r:Int}(h:b7 x0 x1=some r):Pure ah 72 [slc 1 (List.map aX x0),slc 1 (List.map aX x1)] (ay r):=by
 refine bL Try.func72 Y (af Y) (λgA M vs hvs=>?_);unfold b7 at h;refine sr<|ag Y<|dn<|qq<|sr<|mv Y<|lE h λx7 h7 h=>ln Y h7<|mv Y<|lE h λx9 h9 h=>ln Y h9<|lE h λgO jc h=>ne _ Y Y (Nl (p:=x7) (q:=x9) jc)<|dn ?_;cases gO;refine fs<|qq<|sr<|mv Y<|lE (F h) λgU mw h=>ln Y mw<|lE h λfN jY h=>sb _ Y Y jY<|ag Y<|dn<|bE h λe6 Wq pO=>?_;refine bX (λ(Wr:Unit)=>AS.dm 41 [] [] []) (λWr=>.inl Wr=e6) ?_ (λWr Ws=>?_);refine bn ?_;refine bY Wq (λs6=>AS.dm 41 [(0,.sv (slc 1 (List.map aX x0))),(1,.sv (slc 1 (List.map aX x1))),(5,ai s6)] [] []) (wR []) (λsM y6 G6 h Wt OX=>?_)
 try dsimp only
 refine qq<|sr<|mv Y<|lE h λiT nP h=>ge _ Y Y nP<|dn ?_;cases iT;refine cF<|cq<|aV.x<|aV.x<|bC.x<|aV.n ?_;obtain rfl:=O (F h);exact⟨(),OX _ Y,wR []⟩;refine cT<|bA<|aV.n<|qq<|bn<|qq<|bg mixed<|mv Y<|mv Y<|bE (V h) λoC zN h=>ix Y Y zN<|lr Y Y<|mv Y<|mv Y<|bE h λgz me h=>ix Y Y me<|lr Y Y<|lE h λnN yV h=>ne _ Y Y (Od (p:=oC) (q:=gz) yV) ?_;refine RT.done ⟨by kernel_rfl,?_⟩;refine aV.n ?_;cases nN;refine cF<|bA<|bC.n<|aV.n<|aZ<|mv Y<|lE (F h) λjC sO h=>sb _ Y Y sO<|ag Y<|RT.done ?_;obtain rfl:=O h;exact aV.n ⟨jC,Wt _ Y,wR []⟩;refine cT<|qq<|qq<|bg mixed<|mv Y<|mv Y<|bE (V h) λjX oL h=>ix Y Y oL<|lr Y Y<|mv Y<|mv Y<|bE h λtw Dj h=>ix Y Y Dj<|lr Y Y<|lE h λnF r8 h=>ls _ Y Y (Nm (p:=jX) (q:=tw) r8) ?_;refine RT.done ⟨by kernel_rfl,?_⟩;refine aV.n ?_;cases nF;refine fs<|sr<|ag Y<|dn<|bj<|bC.r<|aV.r ?_;obtain rfl:=O (F h);have Wu:=OX _ Y;subst Wu;refine aV.r<|bC.r<|aV.r<|aV.r ?_;obtain rfl:=O pO;exact R1 Y;refine cT<|sr<|ag Y<|dn<|bj<|aV.r<|bC.r<|aV.r ?_;obtain rfl:=O (V h);have Wu:=OX _ Y;subst Wu;refine aV.r<|bC.r<|aV.r<|aV.r ?_;obtain rfl:=O pO;exact R1 Y;subst Ws
 try dsimp only
 refine aV.n<|sr<|ag Y<|dn<|bj ?_;obtain rfl:=O pO;exact R1 Y;refine cT<|qq<|sr<|mv Y<|lE (V h) λgV kQ h=>ln Y kQ<|mv Y<|lE h λkK r7 h=>ln Y r7<|lE h λkJ q9 h=>ls _ Y Y q9<|dn ?_;cases kJ;refine fs<|sr<|ag Y<|dn<|bj<|aV.r ?_;obtain rfl:=O (F h);exact R1 Y;refine cT<|sr<|ag Y<|dn<|bj<|aV.r<|aV.r ?_;obtain rfl:=O (V h);exact R1 Y
theorem kj{x0:List Nat}{x1:List Nat}(N:Nat){r:List Nat}(h:dr x0 x1=some r):dU ah 69 N [slc 1 (List.map aX x0),slc 1 (List.map aX x1)] (nw N (slc 1 (List.map aX r))):=by
 refine bG Try.func69 Y (af Y) (λgA M vs hN hvs=>?_);unfold dr at h;refine sr<|aI Y (bt (N:=N) (n:=1) (e:=aX))<|dn<|sr<|mv Y<|lE h λgO jc h=>ln Y jc<|mv Y<|lE h λgV kQ h=>ln Y kQ<|lE h λiv mu h=>RT.max .none _ Y Y T (VB (p:=gO) (q:=gV) mu)<|lE h λkK r7 h=>ad _ Y Y r7<|bE h λkJ q9 h=>RT.B8 (e:=aX) .none Y Y T Y T q9<|RT.alloc .none T Y Y<|RT.uh (cells:=[_]) .none Y Y Y Y T Y<|dn<|sr ?_;refine RT.uD .none (dw 0) Y ⟨Y,aq⟩ T Y Y<|RT.alloc .none T Y Y<|RT.A0 (cells:=[_]) .none (s:=.ff _ _) Y Y Y T Y<|dn<|qq<|sr<|mv Y<|mv Y<|cl (mP x0 x1) ⟨Y,Y,aq⟩<|dn<|bn<|bE h λe7 Wv LR=>?_;obtain⟨LS,Ww,Wy,Wz⟩:=qR Wv
 refine pA (mQ x0 x1) (λ_ _ _ _ _=>trivial) Y (λk=>AS.dm 35 [(5,.ptr 5 0),(6,.ptr 6 0),(19,.sv (zg 114 [ref [slc 1 (List.map aX x0)],ref [slc 1 (List.map aX x1)]]))] [(6,⟨119,[.ff 113 [.box 16]]⟩),(16,⟨100,[.sv (.v (.int .u64 (((LS k).1:Nat):Int)))]⟩),(5,⟨22,[.row 302]⟩)] [(302,TR 80 1 aX (LS k).2)]) [6,16,5] Y (λ_=>⟨Y,Y⟩) (Ev Y) (λ_=>Y) (Ew Y) (by(try dsimp only);rw[Ww];(try dsimp only);exact fS (λi=>bif Nat.beq i 302 then 15 else i) Y Y Y Y Y ⟨.ptr,.ptr,.sv au,aq⟩ ⟨⟨_,Y,⟨.ff,aq⟩⟩,⟨_,Y,⟨.sv au,aq⟩⟩,⟨_,Y,⟨.row Y,aq⟩⟩,aq⟩ ⟨⟨_,Y,cX.refl _⟩,aq⟩ (λi hi=>by rw[cU (show i≠302 by omega)];rfl)) (λk hk D hD=>?_) ?_;have h:=Wy k hk;obtain⟨sk,WA⟩:∃q,LS k=q:=⟨_,Y⟩;rw[WA]at h⊢;obtain⟨pE,fT⟩:=sk;dsimp only[AS.Tj,zq]
 try dsimp only at h
 refine lE h λVY WB h=>?_;rw[WB];refine lE h λVZ WC h=>?_;rw[WC];refine sr<|ag Y<|dn<|aZ<|ag Y<|RT.done ?_;refine aV.n ⟨Y,?_⟩;dsimp only[AS.G5];refine bn<|bg mixed<|RT.j9 .none (s:=.row _) Y Y Y T<|RT.j9 .none (s:=.ff _ _) Y Y Y T<|mv Y<|mv Y<|lE h λja qA h=>ad _ Y Y (UK.add (a:=VY) (b:=VZ) qA) ?_;obtain⟨⟨kF,k9⟩,r9,h⟩:=bS h;refine cB (bK r9) 16 Y ⟨Y,aq⟩<|bl (l:=[kF]) (e:=aX) (.one Y (.nil)) Y Y Y Y Y Y<|bE h λgz me h=>aR (k:=[kF]) (e:=aX) Y Y Y me<|RT.uh (cells:=[_]) .none Y Y Y Y T Y ?_;refine RT.done ⟨by kernel_rfl,?_⟩;refine bC.n ?_;replace h:=Option.some.inj h;refine⟨aq,Y,Y,?_⟩
 try dsimp only
 rw[<-h]
 try dsimp only
 exact fS (λi=>bif Nat.beq i 302 then 29 else i) Y Y Y Y Y ⟨.ptr,.ptr,.sv au,aq⟩ ⟨⟨_,Y,⟨.ff,aq⟩⟩,⟨_,Y,⟨.sv au,aq⟩⟩,⟨_,Y,⟨.row Y,aq⟩⟩,aq⟩ ⟨⟨_,Y,cX.refl _⟩,aq⟩ (λi hi=>by rw[cU (show i≠302 by omega)];rfl);rw[Wz];obtain⟨pE,fT⟩:=e7
 try dsimp only
 refine bC.n<|aV.n<|qq<|bg mixed<|RT.j9 .none (s:=.row _) Y Y Y T<|RT.j9 .none (s:=.ff _ _) Y Y Y T ?_;obtain⟨⟨jE,k11⟩,n9,LR⟩:=bS LR;refine cB (bK n9) 16 Y ⟨Y,aq⟩<|bl (l:=[jE]) (e:=aX) (.one Y (.nil)) Y Y Y Y Y Y<|bE LR λjX oL LR=>RT.Ou (k:=[jE]) (e:=aX) .none hN (λ_ h=>h) Y Y Y T Y T oL<|ag Y ?_;refine RT.done ⟨by kernel_rfl,?_⟩;refine aV.n<|bj ?_;obtain rfl:=O LR;exact R1 Y
theorem hG{x0:List Nat}{x1:List Nat}(N:Nat){r:List Nat}(h:cg x0 x1=some r):dU ah 70 N [slc 1 (List.map aX x0),slc 1 (List.map aX x1)] (nw N (slc 1 (List.map aX r))):=by
 refine bG Try.func70 Y (af Y) (λgA M vs hN hvs=>?_);unfold cg at h;refine sr<|aI Y (bt (N:=N) (n:=1) (e:=aX))<|dn<|sr<|mv Y<|lE h λgO jc h=>ln Y jc<|bE h λkI oI h=>RT.B8 (e:=aX) .none Y Y T Y T oI<|RT.alloc .none T Y Y<|RT.uh (cells:=[_]) .none Y Y Y Y T Y<|dn<|sr<|RT.uD .none (dw 1) Y ⟨Y,aq⟩ T Y Y<|RT.alloc .none T Y Y<|RT.A0 (cells:=[_]) .none (s:=.ff _ _) Y Y Y T Y<|dn<|qq<|sr<|mv Y ?_;refine mv Y<|cl (mP x0 x1) ⟨Y,Y,aq⟩<|dn<|bn<|bE h λe7 Wv LR=>?_;obtain⟨LS,Ww,Wy,Wz⟩:=qR Wv;refine pA (mQ x0 x1) (λ_ _ _ _ _=>trivial) Y (λk=>AS.dm 28 [(5,.ptr 5 0),(6,.ptr 6 0),(15,.sv (zg 114 [ref [slc 1 (List.map aX x0)],ref [slc 1 (List.map aX x1)]]))] [(6,⟨119,[.ff 113 [.box 12]]⟩),(12,⟨100,[.sv (.v (.int .u64 (((LS k).1:Nat):Int)))]⟩),(5,⟨22,[.row 302]⟩)] [(302,TR 80 1 aX (LS k).2)]) [6,12,5] Y (λ_=>⟨Y,Y⟩) (Ev Y) (λ_=>Y) (Ew Y) (by(try dsimp only);rw[Ww];(try dsimp only);exact fS (λi=>bif Nat.beq i 302 then 11 else i) Y Y Y Y Y ⟨.ptr,.ptr,.sv au,aq⟩ ⟨⟨_,Y,⟨.ff,aq⟩⟩,⟨_,Y,⟨.sv au,aq⟩⟩,⟨_,Y,⟨.row Y,aq⟩⟩,aq⟩ ⟨⟨_,Y,cX.refl _⟩,aq⟩ (λi hi=>by rw[cU (show i≠302 by omega)];rfl)) (λk hk D hD=>?_) ?_;have h:=Wy k hk;obtain⟨sk,WA⟩:∃q,LS k=q:=⟨_,Y⟩;rw[WA]at h⊢;obtain⟨tB,fT⟩:=sk;dsimp only[AS.Tj,zq]
 try dsimp only at h
 refine lE h λV0 WD h=>?_;rw[WD];refine lE h λV1 WE h=>?_;rw[WE];refine sr<|ag Y<|dn<|aZ<|ag Y<|RT.done ?_;refine aV.n ⟨Y,?_⟩;dsimp only[AS.G5];refine bn<|bg mixed<|RT.j9 .none (s:=.row _) Y Y Y T<|RT.j9 .none (s:=.ff _ _) Y Y Y T<|mv Y<|mv Y<|lE h λjC sO h=>sb _ Y Y (UK.sub (a:=4294967295) (b:=V1) sO)<|lE h λjd oJ h=>ad _ Y Y (UK.add (a:=V0) (b:=jC) oJ) ?_;obtain⟨⟨eK,k9⟩,nI,h⟩:=bS h;refine cB (bK nI) 12 Y ⟨Y,aq⟩<|bl (l:=[eK]) (e:=aX) (.one Y (.nil)) Y Y Y Y Y Y<|bE h λja qA h=>aR (k:=[eK]) (e:=aX) Y Y Y qA<|RT.uh (cells:=[_]) .none Y Y Y Y T Y ?_;refine RT.done ⟨by kernel_rfl,?_⟩;refine bC.n ?_;replace h:=Option.some.inj h;refine⟨aq,Y,Y,?_⟩
 try dsimp only
 rw[<-h]
 try dsimp only
 exact fS (λi=>bif Nat.beq i 302 then 26 else i) Y Y Y Y Y ⟨.ptr,.ptr,.sv au,aq⟩ ⟨⟨_,Y,⟨.ff,aq⟩⟩,⟨_,Y,⟨.sv au,aq⟩⟩,⟨_,Y,⟨.row Y,aq⟩⟩,aq⟩ ⟨⟨_,Y,cX.refl _⟩,aq⟩ (λi hi=>by rw[cU (show i≠302 by omega)];rfl);rw[Wz];obtain⟨tB,fT⟩:=e7
 try dsimp only
 refine bC.n<|aV.n<|sr<|RT.j9 .none (s:=.row _) Y Y Y T<|an (s:=.row _) Y<|dn<|nE (i:=302) (E1:=80) (n:=1) (e:=aX) (l:=fT) hN (λ_ h=>h) Y<|bj ?_;obtain rfl:=O LR;exact R1 Y
theorem pP{x0:List Nat}{x1:List Nat}(N:Nat){r:List Nat}(h:dW x0 x1=some r):dU ah 89 N [slc 1 (List.map aX x0),slc 1 (List.map aX x1)] (nw N (slc 1 (List.map aX r))):=by
 refine bG Try.func89 Y (af Y) (λgA M vs hN hvs=>?_);unfold dW at h;refine sr<|aI Y (bt (N:=N) (n:=1) (e:=aX))<|dn<|sr<|mv Y<|lE h λgV kQ h=>ln Y kQ<|mv Y<|lE h λkK r7 h=>ln Y r7<|lE h λkJ q9 h=>ad _ Y Y q9<|bE h λjD oK h=>RT.zA (n:=1) (e:=aX) .none Y Y T Y T (by rfl) (by decide) (by exact⟨au,aq⟩) oK<|an (s:=.row _) Y<|dn<|qq<|sr<|mv Y<|lE h λfN jY h=>ln Y jY ?_;refine mv Y<|dn<|bE h λe28 WG WH=>?_;refine bX (λ(oF:(List Nat))=>AS.dm 63 [(5,.row 16)] [] [(16,TR 80 1 aX oF)]) (λoF=>oF=e28) ?_ (λoF WI=>?_);refine bn ?_;refine bY WG (λNo=>AS.dm 63 [(1,.sv (slc 1 (List.map aX x1))),(5,.row 16),(17,.sv (slc 1 (List.map aX x0))),(18,ai fN),(19,ai No.1)] [] [(16,TR 80 1 aX No.2)]) (wR []) (λNo y28 G28 h WJ WK=>?_);obtain⟨jF,xY⟩:=No
 try dsimp only
 refine sr<|lE h λiT nP h=>ls _ Y Y nP<|dn<|qq ?_;cases iT;refine cF<|cq<|aV.x<|aV.x<|bC.x<|aV.n ?_;obtain rfl:=O (F h);exact⟨xY,WK _ Y,wR []⟩;refine cT<|bA<|aV.n<|qq<|bn<|sr<|mv Y<|bE (V h) λjC sO h=>ix Y Y sO<|lr Y Y<|ag Y<|ag Y<|dn<|sr<|RT.uD .none (dw 0) Y ⟨Y,aq⟩ T Y Y<|an (s:=.ff _ _) Y<|dn<|qq<|sr<|mv Y<|lE h λja qA h=>ln Y qA<|mv Y<|dn<|bE h λV5 WL rf=>?_;refine bX (λ(Dk:Nat×(List Nat))=>AS.dm 63 [(1,.sv (slc 1 (List.map aX x1))),(5,.row 16),(6,ai jF),(8,.ff 113 [.box 24]),(17,.sv (slc 1 (List.map aX x0))),(18,ai fN),(19,ai jF)] [(24,⟨100,[.sv (.v (.int .u64 ((Dk.1:Nat):Int)))]⟩)] [(16,TR 80 1 aX Dk.2)]) (λDk=>Dk=V5) ?_ (λDk WM=>?_);refine bn ?_;refine bY WL (λLt=>AS.dm 63 [(1,.sv (slc 1 (List.map aX x1))),(5,.row 16),(6,ai jF),(7,.sv (.v (.int .u32 ((jC:Nat):Int)))),(8,.ff 113 [.box 24]),(17,.sv (slc 1 (List.map aX x0))),(18,ai fN),(19,ai jF),(25,.sv (slc 1 (List.map aX x1))),(26,ai ja),(27,ai Lt.1)] [(24,⟨100,[.sv (.v (.int .u64 ((Lt.2.1:Nat):Int)))]⟩)] [(16,TR 80 1 aX Lt.2.2)]) (wR []) (λLt y38 G38 h WN WO=>?_);obtain⟨qT,pG,oD⟩:=Lt
 try dsimp only
 refine sr<|lE h λlB uR h=>ls _ Y Y uR<|dn<|qq ?_;cases lB;refine cF<|cq<|aV.x<|aV.x<|bC.x<|aV.n ?_;obtain rfl:=O (F h);exact⟨(pG,oD),WO _ Y,wR []⟩;refine cT<|bA<|aV.n<|qq<|bn<|sr<|mv Y<|bE (V h) λoE yf h=>ix Y Y yf<|lr Y Y<|ag Y<|ag Y<|dn<|aZ<|mo (s:=.row _) Y<|mv Y<|mv Y<|lE h λnO zO h=>ad _ Y Y zO<|mo (s:=.ff _ _) Y<|mo (s:=.row _) Y<|mv Y<|mv Y<|lE h λnF r8 h=>ad _ Y Y r8<|bE h λv8 Bv h=>iR Y Y Y Bv ?_;refine bE h λqy zP h=>lR Y Y zP Y<|lE h λyS GH h=>cv _ Y (UK.nat GH)<|mv Y<|lE h λyT Dl h=>cv _ Y (UK.nat Dl)<|mv Y<|lE h λzG E6 h=>cv _ Y (UK.nat E6)<|lE h λvP h48 h=>RT.mul .none _ Y Y T (UK.mul (a:=yT) (b:=zG) h48)<|lE h λZ7 WQ h=>ad _ Y Y (UK.add (a:=yS) (b:=vP) WQ) ?_;obtain⟨⟨tC,V3⟩,Dm,h⟩:=bS h;refine cB (bK Dm) 24 Y ⟨Y,aq⟩<|bE h λGF E7 h=>iR Y Y Y E7<|bE h λV4 OY h=>sR tC Y Y Y Y OY<|RT.done<|bC.n<|aV.n<|aZ<|lE h λwc E8 h=>ad _ Y Y E8<|mv Y<|RT.done ?_;obtain rfl:=O h;exact aV.n ⟨(wc,V3,V4),WN _ Y,wR []⟩;subst WM;obtain⟨zH,Bk⟩:=Dk
 try dsimp only
 refine aV.n<|aZ<|mo (s:=.row _) Y<|mv Y<|mv Y<|lE rf λHx LU rf=>ln Y LU<|lE rf λOv WR rf=>ad _ Y Y WR<|mo (s:=.ff _ _) Y ?_;obtain⟨⟨Lu,k45⟩,OZ,rf⟩:=bS rf;refine cB (bK OZ) 24 Y ⟨Y,aq⟩<|bE rf λDc Hz rf=>iR Y Y Y Hz<|bE rf λV6 O0 rf=>sR Lu Y Y Y Y O0<|RT.done<|bC.n<|aV.n<|aZ<|lE rf λLw WS rf=>ad _ Y Y WS<|mv Y<|RT.done ?_;obtain rfl:=O rf;exact aV.n ⟨(Lw,V6),WJ _ Y,wR []⟩;subst WI
 try dsimp only
 refine aV.n<|sr<|mo (s:=.row _) Y<|an (s:=.row _) Y<|dn<|nE (i:=16) (E1:=80) (n:=1) (e:=aX) (l:=oF) hN (λ_ h=>h) Y<|bj ?_;obtain rfl:=O WH;exact R1 Y
end
section
open Go.Fw Go.Fw.Z Go.RowKit
theorem pQ{x0:List Nat}{x1:Nat}{r:Nat×List Nat}(h:eR x0 x1=some r):Ba ah 90 [.row 1000,.sv (.v (.int .u64 ((x1:Nat):Int)))] (TR 80 1 aX x0) (.sv (.v (.int .u64 ((r.1:Nat):Int)))) (List.flatMap aX r.2):=by
 refine oq Try.func90 Y (af Y) Y Y (λgA M v0=>?_);unfold eR at h;refine sr<|ag Y<|dn<|sr<|ag Y<|dn<|qq<|sr<|mo (s:=.row _) Y<|lE h λx9 h9 h=>lL Y Y h9<|lE h λgO jc h=>sb _ Y Y jc<|ag Y<|dn<|bE h λe8 E9 wj=>?_;refine bX (λ(ri:Nat×(List Nat))=>AS.dm 34 [(5,.sv (.v (.int .u64 ((ri.1:Nat):Int))))] [] [(1000,TR 80 1 aX ri.2)]) (λri=>ri=e8) ?_ (λri Fa=>?_);refine bn ?_;refine bY E9 (λs8=>AS.dm 34 [(0,.row 1000),(1,.sv (.v (.int .u64 ((x1:Nat):Int)))),(5,.sv (.v (.int .u64 ((s8.1:Nat):Int)))),(6,ai s8.2.1)] [] [(1000,TR 80 1 aX s8.2.2)]) (wR []) (λs8 y8 G8 h Fb Fe=>?_);obtain⟨EK,EM,lI⟩:=s8
 try dsimp only
 refine qq<|sr<|mv Y<|lE h λgV kQ h=>ge _ Y Y kQ<|dn ?_;cases gV;refine cF<|cq<|aV.x<|aV.x<|bC.x<|aV.n ?_;obtain rfl:=O (F h);exact⟨(EK,lI),Fe _ Y,wR []⟩;refine cT<|bA<|aV.n<|qq<|bn<|sr<|mv Y<|lE (V h) λjD oK h=>RT.shl .none _ Y Y T (by decide) (UK.shl (a:=EK) (q:=32) (s:=32) Y oK)<|mo (s:=.row _) Y<|mv Y<|bE h λmq qZ h=>iR Y Y Y qZ<|bE h λiT nP h=>lR Y Y nP Y<|lE h λiU pN h=>cv _ Y (UK.nat pN)<|lE h λjC sO h=>RT.or .none _ Y Y T (UK.or (a:=jD) (b:=iU) sO)<|ag Y<|dn<|sr<|mo (s:=.row _) Y ?_;refine mv Y<|mv Y<|mv Y<|bE h λkF r9 h=>RT.quo .none _ Y Y T (VC r9) (UK.quo r9)<|lE h λlB uR h=>cv _ Y (UK.nat uR)<|bE h λgz me h=>iR Y Y Y me<|bE h λCg Ff h=>sR lB Y Y Y Y Ff<|dn<|aZ<|mv Y<|mv Y<|bE h λjE n9 h=>RT.rem .none _ Y Y T (Tn n9) (Hg n9)<|ag Y<|RT.done<|bC.n<|aV.n<|aZ<|mv Y<|lE h λkK r7 h=>sb _ Y Y r7 ?_;refine ag Y<|RT.done ?_;obtain rfl:=O h;exact aV.n ⟨(jE,kK,Cg),Fb _ Y,wR []⟩;subst Fa;obtain⟨Ow,tD⟩:=ri
 try dsimp only
 refine aV.n<|sr<|mv Y<|ag Y<|dn<|bj<|bE wj λ_ hle wj=>?_;obtain rfl:=O wj;exact⟨.inr Y,.sv (cS (.tmp Y (.nil)) au),(by show _=gR.live ⟨80,1,x0.length,List.flatMap aX tD⟩;rw[<-iD hle];rfl)⟩
theorem oM{x0:List Nat}{x1:Nat}{r:List Nat}(h:dN x0 x1=some r):Pure ah 110 [slc 1 (List.map aX x0),.v (.int .u64 ((x1:Nat):Int))] (slc 1 (List.map aX r)):=by
 refine bL Try.func110 Y (af Y) (λgA M vs hvs=>?_);unfold dN at h;refine sr<|aI Y (aB (n:=1) (e:=aX))<|dn<|sr<|RT.uD .none (dw 0) Y ⟨Y,aq⟩ T Y Y<|an (s:=.ff _ _) Y<|dn<|sr<|mv Y<|lE h λkI oI h=>ln Y oI<|lE h λgV kQ h=>ad _ Y Y kQ<|bE h λiv mu h=>RT.B8 (e:=aX) .none Y Y T Y T mu<|an (s:=.row _) Y<|dn<|qq<|sr<|mv Y<|lE h λkJ q9 h=>ln Y q9 ?_;refine mv Y<|dn<|bE h λe8 E9 wj=>?_;refine bX (λ(ri:Nat×(List Nat))=>AS.dm 35 [(5,.ff 113 [.box 9]),(6,.row 302)] [(9,⟨100,[.sv (.v (.int .u64 ((ri.1:Nat):Int)))]⟩)] [(302,TR 80 1 aX ri.2)]) (λri=>ri=e8) ?_ (λri Fa=>?_);refine bn ?_;refine bY E9 (λs8=>AS.dm 35 [(1,.sv (.v (.int .u64 ((x1:Nat):Int)))),(5,.ff 113 [.box 9]),(6,.row 302),(14,.sv (slc 1 (List.map aX x0))),(15,ai kJ),(16,ai s8.1)] [(9,⟨100,[.sv (.v (.int .u64 ((s8.2.1:Nat):Int)))]⟩)] [(302,TR 80 1 aX s8.2.2)]) (fS (λi=>bif Nat.beq i 302 then 13 else i) Y Y Y Y Y ⟨.sv au,.ff,.row Y,.sv au,.sv au,.sv au,aq⟩ ⟨⟨_,Y,⟨.sv au,aq⟩⟩,aq⟩ ⟨⟨_,Y,cX.refl _⟩,aq⟩ (λi hi=>by rw[cU (show i≠302 by omega)];rfl)) (λs8 y8 G8 h Fb Fe=>?_);obtain⟨pH,lJ,fT⟩:=s8
 try dsimp only
 refine sr<|lE h λgU mw h=>ls _ Y Y mw<|dn<|qq ?_;cases gU;refine cF<|cq<|aV.x<|aV.x<|bC.x<|aV.n ?_;obtain rfl:=O (F h);exact⟨(lJ,fT),Fe _ Y,wR []⟩;refine cT<|bA<|aV.n<|qq<|bn<|sr<|bE (V h) λfN jY h=>ix Y Y jY<|lr Y Y<|ag Y<|dn<|aZ<|mo (s:=.row _) Y<|mo (s:=.ff _ _) Y<|mv Y<|lE h λjd oJ h=>cv _ Y (UK.nat oJ)<|mv Y<|lE h λoC zN h=>RT.shl .none _ Y Y T (Int.natCast_nonneg _) (UK.shl (a:=jd) (q:=((x1:Nat):Int)) (s:=min x1 64) Y zN) ?_;obtain⟨⟨ja,Lx⟩,qA,h⟩:=bS h;refine cB (bK qA) 9 Y ⟨Y,aq⟩<|bl (l:=[ja]) (e:=aX) (.one Y (.nil)) Y Y Y Y Y Y<|bE h λlB uR h=>aR (k:=[ja]) (e:=aX) Y Y Y uR<|an (s:=.row _) Y<|RT.done<|bC.n<|aV.n<|aZ<|lE h λgz me h=>ad _ Y Y me<|mv Y<|RT.done ?_;obtain rfl:=O h;exact aV.n ⟨(gz,Lx,lB),Fb _ Y,fS (λi=>bif Nat.beq i 302 then 28 else i) Y Y Y Y Y ⟨.sv au,.ff,.row Y,.sv au,.sv au,.sv au,aq⟩ ⟨⟨_,Y,⟨.sv au,aq⟩⟩,aq⟩ ⟨⟨_,Y,cX.refl _⟩,aq⟩ (λi hi=>by rw[cU (show i≠302 by omega)];rfl)⟩;subst Fa;obtain⟨uM,EN⟩:=ri
 try dsimp only
 refine aV.n<|sr<|mo (s:=.row _) Y<|mo (s:=.ff _ _) Y ?_;obtain⟨⟨jE,V7⟩,n9,wj⟩:=bS wj;refine cB (bK n9) 9 Y ⟨Y,aq⟩<|bl (l:=[jE]) (e:=aX) (.one Y (.nil)) Y Y Y Y Y Y<|bE wj λjX oL wj=>RT.VN (k:=[jE]) (e:=aX) .none Y Y Y T Y T oL<|ag Y<|dn<|bj ?_;obtain rfl:=O wj;exact R1 Y
theorem nQ{x0:List Nat}{x1:Nat}{r:List Nat}(h:fm x0 x1=some r):C5 ah 110 [slc 1 (List.map aX x0),.v (.int .u64 ((x1:Nat):Int))] (TR 80 1 aX r):=by
 refine uC Try.func110 Y (af Y) (λgA M vs hvs=>?_);unfold fm at h;refine sr<|ag Y<|dn<|fK (iS 4 304 80 1 Y Y T)<|sr<|RT.uD .none (dw 0) Y ⟨Y,aq⟩ T Y Y<|an (s:=.ff _ _) Y<|dn<|sr<|mv Y<|lE h λkI oI h=>ln Y oI<|lE h λgV kQ h=>ad _ Y Y kQ<|bE h λiv mu h=>RT.B8 (e:=aX) .none Y Y T Y T mu<|an (s:=.row _) Y<|dn<|qq<|sr<|mv Y<|lE h λkJ q9 h=>ln Y q9 ?_;refine mv Y<|dn<|bE h λe8 E9 wj=>?_;refine bX (λ(ri:Nat×(List Nat))=>AS.dm 35 [(5,.ff 113 [.box 9]),(6,.row 306)] [(9,⟨100,[.sv (.v (.int .u64 ((ri.1:Nat):Int)))]⟩)] [(306,TR 80 1 aX ri.2)]) (λri=>ri=e8) ?_ (λri Fa=>?_);refine bn ?_;refine bY E9 (λs8=>AS.dm 35 [(1,.sv (.v (.int .u64 ((x1:Nat):Int)))),(5,.ff 113 [.box 9]),(6,.row 306),(14,.sv (slc 1 (List.map aX x0))),(15,ai kJ),(16,ai s8.1)] [(9,⟨100,[.sv (.v (.int .u64 ((s8.2.1:Nat):Int)))]⟩)] [(306,TR 80 1 aX s8.2.2)]) (fS (λi=>bif Nat.beq i 306 then 13 else i) Y Y Y Y Y ⟨.sv au,.ff,.row Y,.sv au,.sv au,.sv au,aq⟩ ⟨⟨_,Y,⟨.sv au,aq⟩⟩,aq⟩ ⟨⟨_,Y,cX.refl _⟩,aq⟩ (λi hi=>by rw[cU (show i≠306 by omega)];rfl)) (λs8 y8 G8 h Fb Fe=>?_);obtain⟨pH,lJ,xZ⟩:=s8
 try dsimp only
 refine sr<|lE h λgU mw h=>ls _ Y Y mw<|dn<|qq ?_;cases gU;refine cF<|cq<|aV.x<|aV.x<|bC.x<|aV.n ?_;obtain rfl:=O (F h);exact⟨(lJ,xZ),Fe _ Y,wR []⟩;refine cT<|bA<|aV.n<|qq<|bn<|sr<|bE (V h) λfN jY h=>ix Y Y jY<|lr Y Y<|ag Y<|dn<|aZ<|mo (s:=.row _) Y<|mo (s:=.ff _ _) Y<|mv Y<|lE h λjd oJ h=>cv _ Y (UK.nat oJ)<|mv Y<|lE h λoC zN h=>RT.shl .none _ Y Y T (Int.natCast_nonneg _) (UK.shl (a:=jd) (q:=((x1:Nat):Int)) (s:=min x1 64) Y zN) ?_;obtain⟨⟨ja,Lx⟩,qA,h⟩:=bS h;refine cB (bK qA) 9 Y ⟨Y,aq⟩<|bl (l:=[ja]) (e:=aX) (.one Y (.nil)) Y Y Y Y Y Y<|bE h λlB uR h=>aR (k:=[ja]) (e:=aX) Y Y Y uR<|an (s:=.row _) Y<|RT.done<|bC.n<|aV.n<|aZ<|lE h λgz me h=>ad _ Y Y me<|mv Y<|RT.done ?_;obtain rfl:=O h;exact aV.n ⟨(gz,Lx,lB),Fb _ Y,fS (λi=>bif Nat.beq i 306 then 28 else i) Y Y Y Y Y ⟨.sv au,.ff,.row Y,.sv au,.sv au,.sv au,aq⟩ ⟨⟨_,Y,⟨.sv au,aq⟩⟩,aq⟩ ⟨⟨_,Y,cX.refl _⟩,aq⟩ (λi hi=>by rw[cU (show i≠306 by omega)];rfl)⟩;subst Fa;obtain⟨uM,EO⟩:=ri
 try dsimp only
 refine aV.n<|sr<|mo (s:=.row _) Y<|mo (s:=.ff _ _) Y ?_;obtain⟨⟨jE,V7⟩,n9,wj⟩:=bS wj;refine cB (bK n9) 9 Y ⟨Y,aq⟩<|bl (l:=[jE]) (e:=aX) (.one Y (.nil)) Y Y Y Y Y Y<|bE wj λjX oL wj=>aR (k:=[jE]) (e:=aX) Y Y Y oL<|an (s:=.row _) Y<|dn<|bj ?_;obtain rfl:=O wj;exact⟨.inr Y,_,.tmp Y,Y⟩
theorem oN{x0:Nat}{r:Int}(h:ez x0=some r):Pure ah 118 [.v (.int .u32 ((x0:Nat):Int))] (ay r):=by
 refine bL Try.func118 Y (af Y) (λgA M vs hvs=>?_);unfold ez at h;refine sr<|ag Y<|dn<|qq<|sr<|mv Y<|lE h λx4 h4 h=>ge _ Y Y (Tm (p:=65536) (q:=x0) h4)<|dn ?_;refine bD h (λj2=>AS.dm 19 [(0,.sv (.v (.int .u32 ((j2.1:Nat):Int)))),(2,ai j2.2)] [] []) (λh=>?_) (λj2 h=>?_);cases x4;exact fs<|⟨(x0,0),(F h),wR []⟩;exact cT<|sr<|mv Y<|lE (V h) λx6 h6 h=>RT.shr .none _ Y Y T (by decide) (xU (k:=.u32) (a:=x0) (q:=16) (s:=16) Y h6)<|ag Y<|dn<|aZ<|ag Y<|dn<|⟨(x6,16),h,wR []⟩;obtain⟨Bl,Hy⟩:=j2
 try dsimp only
 refine aV.n<|qq<|sr<|mv Y<|lE h λx8 h8 h=>ge _ Y Y (Tm (p:=256) (q:=Bl) h8)<|dn ?_;refine bD h (λj4=>AS.dm 19 [(0,.sv (.v (.int .u32 ((j4.1:Nat):Int)))),(2,ai j4.2)] [] []) (λh=>?_) (λj4 h=>?_);cases x8;exact fs<|⟨(Bl,Hy),(F h),wR []⟩;exact cT<|sr<|mv Y<|lE (V h) λgO jc h=>RT.shr .none _ Y Y T (by decide) (xU (k:=.u32) (a:=Bl) (q:=8) (s:=8) Y jc)<|ag Y<|dn<|aZ<|mv Y<|lE h λgV kQ h=>ad _ Y Y kQ<|ag Y<|dn<|⟨(gO,gV),h,wR []⟩;obtain⟨Ox,Oy⟩:=j4
 try dsimp only
 refine aV.n<|sr<|mv Y<|mv Y<|lE h λkJ q9 h=>cv _ Y (UK.nat q9)<|bE h λjD oK h=>?_;refine RT.six (l:=[0,1,2,2,3,3,3,3,4,4,4,4,4,4,4,4,5,5,5,5,5,5,5,5,5,5,5,5,5,5,5,5,6,6,6,6,6,6,6,6,6,6,6,6,6,6,6,6,6,6,6,6,6,6,6,6,6,6,6,6,6,6,6,6,7,7,7,7,7,7,7,7,7,7,7,7,7,7,7,7,7,7,7,7,7,7,7,7,7,7,7,7,7,7,7,7,7,7,7,7,7,7,7,7,7,7,7,7,7,7,7,7,7,7,7,7,7,7,7,7,7,7,7,7,7,7,7,7,8,8,8,8,8,8,8,8,8,8,8,8,8,8,8,8,8,8,8,8,8,8,8,8,8,8,8,8,8,8,8,8,8,8,8,8,8,8,8,8,8,8,8,8,8,8,8,8,8,8,8,8,8,8,8,8,8,8,8,8,8,8,8,8,8,8,8,8,8,8,8,8,8,8,8,8,8,8,8,8,8,8,8,8,8,8,8,8,8,8,8,8,8,8,8,8,8,8,8,8,8,8,8,8,8,8,8,8,8,8,8,8,8,8,8,8,8,8,8,8,8,8,8,8,8,8,8,8]) .none Y Y T oK ?_;refine lE h λgU mw h=>cv _ Y mw<|lE h λfN jY h=>ad _ Y Y jY<|ag Y<|dn<|bj ?_;obtain rfl:=O h;exact R1 Y
theorem jt{x0:Nat}{r:Int}(h:cz x0=some r):Pure ah 109 [.v (.int .u32 ((x0:Nat):Int))] (ay r):=by
 refine bL Try.func109 Y (af Y) (λgA M vs hvs=>?_);unfold cz at h;refine sr<|ag Y<|dn<|sr<|mv Y<|bE h λx4 h4 h=>cl (oN h4) ⟨Y,aq⟩<|lE h λx5 h5 h=>sb _ Y Y h5<|ag Y<|dn<|bj ?_;obtain rfl:=O h;exact R1 Y
theorem pR{x0:List Nat}{o0:Nat}{n0:Nat}{x1:List Nat}{r:Nat×List Nat}(h:eT x0 o0 n0 x1=some r):Ba ah 111 [.jl 1000 (o0*1) n0,.sv (slc 1 (List.map aX x1))] (TR 80 1 aX x0) (.sv (.v (.int .u64 ((r.1:Nat):Int)))) (List.flatMap aX r.2):=by
 refine oq Try.func111 Y (af Y) Y Y (λgA M v0=>?_);unfold eT at h;refine sr<|ag Y<|dn<|sr<|mv Y<|lE h λgV kQ h=>ln Y kQ<|ag Y<|dn<|qq<|bg mixed<|mo (s:=.jl _ _ _) Y<|mv Y<|bE h λkJ q9 h=>RT.zB .none Y Y T q9<|bE h λjD oK h=>lR Y Y oK Y<|lE h λgU mw h=>cv _ Y (UK.nat mw)<|lE h λfN jY h=>RT.shl .none _ Y Y T (by decide) (UK.shl (a:=gU) (q:=32) (s:=32) Y jY)<|mo (s:=.jl _ _ _) Y ?_;refine mv Y<|lE h λiU pN h=>sb _ Y Y pN<|bE h λjC sO h=>RT.zB .none Y Y T sO<|bE h λjd oJ h=>lR Y Y oJ Y<|lE h λeK nI h=>cv _ Y (UK.nat nI)<|lE h λoC zN h=>RT.or .none _ Y Y T (UK.or (a:=fN) (b:=eK) zN)<|ag Y ?_;refine RT.done ⟨by kernel_rfl,?_⟩;refine aV.n<|qq<|bg mixed<|mv Y<|mv Y<|lE h λlB uR h=>sb _ Y Y uR<|bE h λgz me h=>ix Y Y me<|lr Y Y<|lE h λnN yV h=>cv _ Y (UK.nat yV)<|mv Y<|mv Y<|lE h λjX oL h=>sb _ Y Y oL<|bE h λnO zO h=>ix Y Y zO<|lr Y Y<|lE h λwV zQ h=>cv _ Y (UK.nat zQ)<|ag Y<|ag Y ?_;refine RT.done ⟨by kernel_rfl,?_⟩;refine aV.n<|qq<|bg mixed<|mv Y<|mv Y<|bE h λnF r8 h=>RT.quo .none _ Y Y T (VC r8) (UK.quo r8)<|mv Y<|mv Y<|bE h λyS GH h=>RT.rem .none _ Y Y T (Tn GH) (Hg GH)<|ag Y<|ag Y ?_;refine RT.done ⟨by kernel_rfl,?_⟩;refine aV.n<|qq<|bE h λLQ Bs ye=>?_
 refine bX (λ(De:Nat)=>AS.dm 71 [(9,.sv (.v (.int .u64 ((De:Nat):Int))))] [] [(1000,TR 80 1 aX x0)]) (λDe=>De=LQ) ?_ (λDe Bt=>?_);refine bn ?_;refine bY Bs (λzJ=>AS.dm 71 [(0,.jl 1000 (o0*1) n0),(5,ai gV),(7,.sv (.v (.int .u64 ((nN:Nat):Int)))),(8,.sv (.v (.int .u64 ((wV:Nat):Int)))),(9,.sv (.v (.int .u64 ((zJ.1:Nat):Int)))),(10,.sv (.v (.int .u64 ((zJ.2:Nat):Int))))] [] [(1000,TR 80 1 aX x0)]) (wR []) (λzJ Wo Wp h Bu zM=>?_);obtain⟨we,wW⟩:=zJ
 try dsimp only
 refine qq<|qq ?_;refine bD h (λOW=>AS.dm 71 [(0,.jl 1000 (o0*1) n0),(5,ai gV),(7,.sv (.v (.int .u64 ((nN:Nat):Int)))),(8,.sv (.v (.int .u64 ((wV:Nat):Int)))),(9,.sv (.v (.int .u64 ((we:Nat):Int)))),(10,.sv (.v (.int .u64 ((wW:Nat):Int)))),(61,aj OW)] [] [(1000,TR 80 1 aX x0)]) (λh=>?_) (λBm h=>?_);refine aZ<|mv Y<|lE h λyT Dl h=>RT.shr .none _ Y Y T (by decide) (xU (k:=.u64) (a:=we) (q:=32) (s:=32) Y Dl)<|lE h λqV h46 h=>ne _ Y Y (Od (p:=yT) (q:=0) h46)<|mv Y<|bE h λEP eY h=>?_;cases qV;refine gm Y<|gm Y<|lE (F eY) λtC Dm eY=>RT.mul (.some Y Y) _ Y Y T (UK.mul (a:=we) (b:=wV) Dm)<|gm Y<|lE eY λwc E8 eY=>RT.shl (.some Y Y) _ Y Y T (by decide) (UK.shl (a:=wW) (q:=32) (s:=32) Y E8)<|RT.move (.some Y Y) (s:=.jl _ _ _) Y T<|gm Y<|lE eY λDd O1 eY=>RT.sub (.some Y Y) _ Y Y T O1<|bE eY λHx LU eY=>RT.zB (.some Y Y) Y Y T LU<|bE eY λOv WR eY=>RT.Oh (.some Y Y) Y Y WR Y T ?_;refine lE eY λV9 h58 eY=>RT.conv (.some Y Y) _ Y T (UK.nat h58)<|lE eY λLu OZ eY=>RT.or (.some Y Y) _ Y Y T (UK.or (a:=wc) (b:=V9) OZ)<|lE eY λDc Hz eY=>gg _ Y Y (Nm (p:=Lu) (q:=tC) Hz) ?_;obtain rfl:=O eY;exact pF Y<|dn<|⟨Dc,h,wR []⟩;obtain rfl:=O (V eY)
 exact ww<|ww<|ww<|ww<|ww<|ww<|ww<|ww<|ww<|ww<|ww<|ww<|ww<|pT Y<|dn<|⟨true,h,wR []⟩
 try dsimp only
 refine aV.n ?_;cases Bm;refine cF<|cq<|aV.x<|aV.x<|bC.x<|aV.n ?_;obtain rfl:=O (F h);exact⟨we,zM _ Y,wR []⟩;refine cT<|bA<|aV.n<|bn<|sr<|mv Y<|lE (V h) λOz h63 h=>sb _ Y Y (UK.sub (a:=we) (b:=1) h63)<|ag Y<|dn<|sr<|mv Y<|mv Y<|lE h λOA h66 h=>ad _ Y Y (UK.add (a:=wW) (b:=nN) h66)<|ag Y<|dn<|sr<|mv Y<|lE h λLy WT h=>RT.shr .none _ Y Y T (by decide) (xU (k:=.u64) (a:=OA) (q:=32) (s:=32) Y WT)<|lE h λV8 WU h=>ne _ Y Y (Od (p:=Ly) (q:=0) WU) ?_;refine dn ?_;cases V8;refine cF<|bA<|bC.n ?_;obtain rfl:=O (F h);exact aV.n ⟨(Oz,OA),Bu _ Y,wR []⟩;refine cT<|cq<|bC.y (by decide)<|aV.x<|bC.x<|aV.n ?_;obtain rfl:=O (V h);exact⟨Oz,zM _ Y,wR []⟩;subst Bt
 try dsimp only
 refine aV.n<|sr<|mv Y<|ag Y<|dn<|bj<|bE ye λ_ hle ye=>?_;obtain rfl:=O ye;exact⟨.inr Y,.sv (cS (.tmp Y (.nil)) au),(by show _=gR.live ⟨80,1,x0.length,List.flatMap aX x0⟩;rw[<-iD hle];rfl)⟩
theorem jZ{x0:List Nat}{o0:Nat}{n0:Nat}{x1:List Nat}{x2:Nat}{r:Bool×List Nat}(h:cj x0 o0 n0 x1 x2=some r):Ba ah 112 [.jl 1000 (o0*1) n0,.sv (slc 1 (List.map aX x1)),.sv (.v (.int .u64 ((x2:Nat):Int)))] (TR 80 1 aX x0) (aj r.1) (List.flatMap aX r.2):=by
 refine oq Try.func112 Y (af Y) Y Y (λgA M v0=>?_);unfold cj at h;refine sr<|ag Y<|dn<|sr<|ag Y<|dn<|sr<|RT.uD .none (dw 0) Y ⟨Y,aq⟩ T Y Y<|an (s:=.ff _ _) Y<|dn<|qq<|sr<|mo (s:=.jl _ _ _) Y<|lE h λkK r7 h=>RT.Lr .none Y T r7<|mv Y<|dn<|bE h λDh Fg jH=>?_;refine bX (λ(mR:Nat×(List Nat))=>AS.dm 51 [(7,.sv (.v (.int .u64 ((mR.1:Nat):Int))))] [] [(1000,TR 80 1 aX mR.2)]) (λmR=>mR=Dh) ?_ (λmR Fh=>?_);refine bn ?_;refine bY Fg (λtF=>AS.dm 51 [(0,.jl 1000 (o0*1) n0),(1,.sv (slc 1 (List.map aX x1))),(2,.sv (.v (.int .u64 ((x2:Nat):Int)))),(7,.sv (.v (.int .u64 ((tF.1:Nat):Int)))),(8,.ff 113 [.box 12]),(14,ai kK),(15,ai tF.2.1)] [(12,⟨100,[.sv (.v (.int .u64 ((tF.2.2.1:Nat):Int)))]⟩)] [(1000,TR 80 1 aX tF.2.2.2)]) (wR []) (λtF y12 G12 h Fi Dn=>?_);obtain⟨Df,pI,ya,nG⟩:=tF
 try dsimp only
 refine sr<|lE h λjD oK h=>ls _ Y Y oK<|dn<|qq ?_;cases jD;refine cF<|cq<|aV.x<|aV.x<|bC.x<|aV.n ?_;obtain rfl:=O (F h);exact⟨(Df,nG),Dn _ Y,wR []⟩;refine cT<|bA<|aV.n<|qq<|bn<|sr<|mv Y<|ag Y<|dn<|sr<|ag Y<|dn<|qq<|sr<|mv Y<|mv Y<|lE (V h) λiT nP h=>ln Y nP<|lE h λiU pN h=>ls _ Y Y pN<|dn ?_;refine bD h (λj14=>AS.dm 51 [(0,.jl 1000 (o0*1) n0),(1,.sv (slc 1 (List.map aX x1))),(2,.sv (.v (.int .u64 ((x2:Nat):Int)))),(7,.sv (.v (.int .u64 ((Df:Nat):Int)))),(8,.ff 113 [.box 12]),(9,ai pI),(10,.sv (.v (.int .u64 ((j14:Nat):Int)))),(14,ai kK),(15,ai pI)] [(12,⟨100,[.sv (.v (.int .u64 ((ya:Nat):Int)))]⟩)] [(1000,TR 80 1 aX nG)]) (λh=>?_) (λER h=>?_);cases iU;exact fs<|⟨0,(F h),wR []⟩;exact cT<|aZ<|mv Y<|mv Y<|bE (V h) λeK nI h=>ix Y Y nI<|lr Y Y<|lE h λja qA h=>cv _ Y (UK.nat qA)<|mv Y<|lE h λlB uR h=>RT.mul .none _ Y Y T (UK.mul (a:=ja) (b:=x2) uR)<|ag Y<|dn<|⟨lB,h,wR []⟩
 try dsimp only
 refine aV.n<|qq<|bg mixed<|mo (s:=.jl _ _ _) Y<|mv Y<|bE h λnN yV h=>RT.zB .none Y Y T yV<|bE h λjE n9 h=>lR Y Y n9 Y<|lE h λn6 tG h=>cv _ Y (UK.nat tG)<|mo (s:=.ff _ _) Y<|mv Y ?_;obtain⟨⟨yU,Wa⟩,zR,h⟩:=bS h;refine cB (bK zR) 12 Y ⟨Y,aq⟩<|lE h λwV zQ h=>cv _ Y (UK.nat zQ)<|lE h λtw Dj h=>sb _ Y Y (UK.sub (a:=n6) (b:=wV) Dj)<|mv Y<|lE h λnF r8 h=>sb _ Y Y (UK.sub (a:=tw) (b:=Df) r8)<|ag Y ?_;refine RT.done ⟨by kernel_rfl,?_⟩;refine aV.n<|sr<|mo (s:=.jl _ _ _) Y<|mv Y<|mv Y<|lE h λDg HA h=>cv _ Y (UK.nat HA)<|bE h λyT Dl h=>RT.zB .none Y Y T Dl<|bE h λWb O2 h=>sR Dg Y Y Y Y O2<|dn<|aZ<|mv Y<|lE h λzG E6 h=>RT.shr .none _ Y Y T (by decide) (xU (k:=.u64) (a:=nF) (q:=63) (s:=63) Y E6)<|ag Y<|RT.done<|bC.n<|aV.n<|aZ<|lE h λvP h48 h=>ad _ Y Y h48<|mv Y<|RT.done ?_;obtain rfl:=O h;exact aV.n ⟨(zG,vP,Wa,Wb),Fi _ Y,wR []⟩;subst Fh;obtain⟨ES,pJ⟩:=mR
 try dsimp only
 refine aV.n<|sr<|mv Y<|lE jH λtC Dm jH=>ne _ Y Y (Od (p:=ES) (q:=0) Dm)<|ag Y<|dn<|bj<|bE jH λ_ hle jH=>?_;obtain rfl:=O jH;exact⟨.inr Y,.sv (cS (.tmp Y (.nil)) au),(by show _=gR.live ⟨80,1,x0.length,List.flatMap aX pJ⟩;rw[<-iD hle];rfl)⟩
set_option maxHeartbeats 4000000 in
theorem rj{x0:List Nat}{x1:List Nat}(N:Nat){r:(List Nat)×(List Nat)}(h:fD x0 x1=some r):dU ah 91 N [slc 1 (List.map aX x0),slc 1 (List.map aX x1)] (.sF [nw N (slc 1 (List.map aX r.1)),nw N (slc 1 (List.map aX r.2))]):=by
 refine bG Try.func91 Y (af Y) (λgA M vs hN hvs=>?_);unfold fD at h;refine sr<|ag Y<|ag Y<|dn<|fK (iS 4 306 80 1 Y Y T)<|fK (iS 5 308 80 1 Y Y T)<|sr<|mv Y<|lE h λgU mw h=>ln Y mw<|ag Y<|dn<|sr<|mv Y<|mv Y<|lE h λiT nP h=>sb _ Y Y nP<|bE h λiU pN h=>ix Y Y pN<|lr Y Y<|bE h λjd oJ h=>cl (jt oJ) ⟨Y,aq⟩ ?_;refine lE h λeK nI h=>cv _ Y (UK.conv nI)<|ag Y<|dn<|qq<|bg mixed<|mv Y<|mv Y<|bE h λkF r9 h=>cN (nQ r9) ⟨Y,Y,aq⟩<|mv Y<|mv Y<|bE h λoE yf h=>cl (oM yf) ⟨Y,Y,aq⟩<|mv Y<|bE h λjE n9 h=>RT.ED .none 0 gU Y Y ⟨_,Y⟩ T n9<|an (s:=.row _) Y<|ag Y ?_;refine RT.done ⟨by kernel_rfl,?_⟩;refine aV.n<|sr<|mv Y<|lE h λjX oL h=>ln Y oL<|mv Y<|lE h λyU zR h=>sb _ Y Y zR<|lE h λwV zQ h=>ad _ Y Y zQ<|bE h λtw Dj h=>RT.zA (n:=1) (e:=aX) .none Y Y T Y T (by rfl) (by decide) (by exact⟨au,aq⟩) Dj<|an (s:=.row _) Y<|dn<|qq<|sr<|mv Y<|lE h λnF r8 h=>ln Y r8<|mv Y<|lE h λqy zP h=>sb _ Y Y zP ?_;refine ag Y<|dn<|bE h λWk WV LV=>?_;refine bX (λ(Dp:(List Nat)×(List Nat))=>AS.dm 141 [(4,.row 38),(6,ai gU),(7,.sv (.v (.int .u64 ((eK:Nat):Int)))),(8,.row 27)] [] [(38,TR 80 1 aX Dp.1),(27,TR 80 1 aX Dp.2)]) (λDp=>Dp=Wk) ?_ (λDp WW=>?_);refine bn ?_
 refine bY WV (λLz=>AS.dm 141 [(4,.row 38),(6,ai gU),(7,.sv (.v (.int .u64 ((eK:Nat):Int)))),(8,.row 27),(9,.sv (slc 1 (List.map aX jE))),(10,ai Lz.1)] [] [(38,TR 80 1 aX Lz.2.1),(27,TR 80 1 aX Lz.2.2)]) (wR []) (λLz y36 G36 h WX WY=>?_);obtain⟨fU,mN,oG⟩:=Lz
 try dsimp only
 refine qq<|sr<|mv Y<|lE h λDg HA h=>ge _ Y Y HA<|dn ?_;cases Dg;refine cF<|cq<|aV.x<|aV.x<|bC.x<|aV.n ?_;obtain rfl:=O (F h);exact⟨(mN,oG),WY _ Y,wR []⟩;refine cT<|bA<|aV.n<|qq<|bn<|sr<|mo (s:=.row _) Y<|mv Y<|mv Y<|mv Y<|lE (V h) λGF E7 h=>ad _ Y Y E7<|lE h λwc E8 h=>ad _ Y Y E8 ?_;obtain⟨⟨Z9,n53⟩,h53,h⟩:=bS h;refine RT.Om .none fU wc Y Y ⟨_,Y⟩ ⟨_,Y⟩ T h53<|mv Y ?_;obtain⟨⟨Dd,LA⟩,O1,h⟩:=bS h;refine bE h λ_ WZ h=>cR (l:=oG) (l':=LA) (e:=aX) (pR O1) (iD WZ) 27 Y (.k2 Y Y)<|ag Y<|dn<|qq<|sr<|mo (s:=.row _) Y<|mv Y<|mv Y<|mv Y<|lE h λDc Hz h=>ad _ Y Y Hz<|lE h λLw WS h=>ad _ Y Y WS ?_;obtain⟨⟨o62,n62⟩,W0,h⟩:=bS h;refine RT.Om .none fU Lw Y Y ⟨_,Y⟩ ⟨_,Y⟩ T W0<|mv Y<|mv Y ?_;obtain⟨⟨Wc,Np⟩,h65,h⟩:=bS h;refine bE h λ_ W2 h=>cR (l:=LA) (l':=Np) (e:=aX) (jZ h65) (iD W2) 27 Y (.k3 Y Y Y)<|dn ?_;refine bD h (λI4=>AS.dm 141 [(4,.row 38),(6,ai gU),(7,.sv (.v (.int .u64 ((eK:Nat):Int)))),(8,.row 27),(9,.sv (slc 1 (List.map aX jE))),(10,ai fU),(11,.sv (.v (.int .u64 ((I4.1:Nat):Int))))] [] [(38,TR 80 1 aX mN),(27,TR 80 1 aX I4.2)]) (λh=>?_) (λI4 h=>?_);cases Wc;exact fs<|⟨(Dd,Np),(F h),wR []⟩
 refine cT<|sr<|mv Y<|lE (V h) λOC h67 h=>sb _ Y Y (UK.sub (a:=Dd) (b:=1) h67)<|ag Y<|dn<|sr<|RT.uD .none (dw 0) Y ⟨Y,aq⟩ T Y Y<|an (s:=.ff _ _) Y<|dn<|qq<|sr<|mv Y<|lE h λWe h70 h=>ln Y h70<|mv Y<|dn<|bE h λWi W4 mS=>?_;refine bX (λ(Dq:Nat×(List Nat))=>AS.dm 141 [(4,.row 38),(6,ai gU),(7,.sv (.v (.int .u64 ((eK:Nat):Int)))),(8,.row 27),(9,.sv (slc 1 (List.map aX jE))),(10,ai fU),(11,.sv (.v (.int .u64 ((OC:Nat):Int)))),(12,.ff 113 [.box 68])] [(68,⟨100,[.sv (.v (.int .u64 ((Dq.1:Nat):Int)))]⟩)] [(38,TR 80 1 aX mN),(27,TR 80 1 aX Dq.2)]) (λDq=>Dq=Wi) ?_ (λDq W5=>?_);refine bn ?_;refine bY W4 (λLC=>AS.dm 141 [(4,.row 38),(6,ai gU),(7,.sv (.v (.int .u64 ((eK:Nat):Int)))),(8,.row 27),(9,.sv (slc 1 (List.map aX jE))),(10,ai fU),(11,.sv (.v (.int .u64 ((OC:Nat):Int)))),(12,.ff 113 [.box 68]),(69,.sv (slc 1 (List.map aX jE))),(70,ai We),(71,ai LC.1)] [(68,⟨100,[.sv (.v (.int .u64 ((LC.2.1:Nat):Int)))]⟩)] [(38,TR 80 1 aX mN),(27,TR 80 1 aX LC.2.2)]) (wR []) (λLC y65 G65 h W6 W7=>?_);obtain⟨qW,pK,oH⟩:=LC
 try dsimp only
 refine sr<|lE h λEU O3 h=>ls _ Y Y O3<|dn<|qq ?_;cases EU;refine cF<|cq<|aV.x<|aV.x<|bC.x<|aV.n ?_;obtain rfl:=O (F h);exact⟨(pK,oH),W7 _ Y,wR []⟩;refine cT<|bA<|aV.n<|qq<|bn<|sr<|mv Y<|bE (V h) λx74 h74 h=>ix Y Y h74<|lr Y Y<|ag Y<|ag Y<|dn<|aZ<|mo (s:=.row _) Y<|mv Y<|mv Y<|lE h λx79 h79 h=>ad _ Y Y h79<|mo (s:=.ff _ _) Y<|mo (s:=.row _) Y<|mv Y<|mv Y<|lE h λNq W8 h=>ad _ Y Y W8<|bE h λx85 W9 h=>iR Y Y Y W9 ?_;refine bE h λOD Xa h=>lR Y Y Xa Y<|lE h λGG O4 h=>cv _ Y (UK.nat O4)<|mv Y<|lE h λLD Xb h=>cv _ Y (UK.nat Xb)<|lE h λx90 h90 h=>ad _ Y Y (UK.add (a:=GG) (b:=LD) h90) ?_;obtain⟨⟨Wf,Wg⟩,Xc,h⟩:=bS h;refine cB (bK Xc) 68 Y ⟨Y,aq⟩<|bE h λNr Xd h=>iR Y Y Y Xd<|bE h λWh O5 h=>sR Wf Y Y Y Y O5<|RT.done<|bC.n<|aV.n<|aZ<|lE h λLF Xe h=>ad _ Y Y Xe<|mv Y<|RT.done ?_;obtain rfl:=O h;exact aV.n ⟨(LF,Wg,Wh),W6 _ Y,wR []⟩;subst W5;obtain⟨zK,uN⟩:=Dq
 try dsimp only
 refine aV.n<|aZ<|mo (s:=.row _) Y<|mv Y<|mv Y<|lE mS λx97 Xf mS=>ad _ Y Y Xf<|mo (s:=.ff _ _) Y<|mo (s:=.row _) Y<|mv Y<|mv Y<|lE mS λOE Xg mS=>ad _ Y Y Xg<|bE mS λOF LW mS=>iR Y Y Y LW<|bE mS λDi LX mS=>lR Y Y LX Y<|lE mS λOG Xh mS=>cv _ Y (UK.nat Xh) ?_;obtain⟨⟨LG,k72⟩,Xi,mS⟩:=bS mS;exact cB (bK Xi) 68 Y ⟨Y,aq⟩<|bE mS λOH Xj mS=>iR Y Y Y Xj<|bE mS λWj O6 mS=>sR LG Y Y Y Y O6<|dn<|⟨(OC,Wj),mS,wR []⟩;obtain⟨ET,Bn⟩:=I4
 try dsimp only
 refine aV.n<|aZ<|mo (s:=.row _) Y<|mv Y<|mv Y<|lE h λLB Xk h=>cv _ Y (UK.nat Xk)<|bE h λOB Xl h=>iR Y Y Y Xl<|bE h λWd O7 h=>sR LB Y Y Y Y O7<|RT.done<|bC.n<|aV.n<|aZ<|mv Y<|lE h λqV h46 h=>sb _ Y Y h46<|ag Y<|RT.done ?_;obtain rfl:=O h;exact aV.n ⟨(qV,Wd,Bn),WX _ Y,wR []⟩;subst WW;obtain⟨uO,qX⟩:=Dp
 try dsimp only
 refine aV.n<|sr<|mv Y<|bE LV λOI Xm LV=>RT.zA (n:=1) (e:=aX) .none Y Y T Y T (by rfl) (by decide) (by exact⟨au,aq⟩) Xm<|an (s:=.row _) Y<|dn<|qq<|sr<|mv Y<|mv Y<|dn<|bE LV λe81 Xn Xo=>?_;refine bX (λ(lK:(List Nat))=>AS.dm 141 [(4,.row 38),(5,.row 114)] [] [(38,TR 80 1 aX uO),(114,TR 80 1 aX lK)]) (λlK=>lK=e81) ?_ (λlK Xp=>?_);refine bn ?_;refine bY Xn (λNs=>AS.dm 141 [(4,.row 38),(5,.row 114),(7,.sv (.v (.int .u64 ((eK:Nat):Int)))),(8,.row 27),(115,ai gU),(116,ai Ns.1)] [] [(38,TR 80 1 aX uO),(114,TR 80 1 aX Ns.2),(27,TR 80 1 aX qX)]) (wR []) (λNs y81 G81 h Xq Xr=>?_);obtain⟨nH,pL⟩:=Ns
 try dsimp only
 refine sr<|lE h λLH Xs h=>ls _ Y Y Xs<|dn<|qq ?_;cases LH;refine cF<|cq<|aV.x<|aV.x<|bC.x<|aV.n ?_;obtain rfl:=O (F h);exact⟨pL,Xr _ Y,wR []⟩;refine cT<|bA<|aV.n<|qq<|bn<|sr<|mv Y<|ag Y<|dn<|bg mixed<|mo (s:=.row _) Y<|mv Y<|mo (s:=.row _) Y<|mv Y<|bE (V h) λOJ Xt h=>iR Y Y Y Xt<|bE h λOK Xu h=>lR Y Y Xu Y<|lE h λLI Xv h=>cv _ Y (UK.nat Xv)<|mo (s:=.row _) Y<|mv Y<|lE h λOL h128 h=>ad _ Y Y h128<|bE h λOM Xw h=>?_;refine iR Y Y Y Xw<|bE h λON Xx h=>lR Y Y Xx Y<|lE h λLJ Xy h=>cv _ Y (UK.nat Xy)<|lE h λLK Xz h=>RT.shl .none _ Y Y T (by decide) (UK.shl (a:=LJ) (q:=32) (s:=32) Y Xz)<|lE h λLL XA h=>RT.or .none _ Y Y T (UK.or (a:=LI) (b:=LK) XA)<|mv Y<|lE h λOO XB h=>RT.shr .none _ Y Y T (Int.natCast_nonneg _) (xU (k:=.u64) (a:=LL) (q:=((eK:Nat):Int)) (s:=min eK 64) Y XB)<|lE h λLM XC h=>cv _ Y (UK.nat XC) ?_;refine bE h λOP XD h=>iR Y Y Y XD<|bE h λWm O8 h=>sR LM Y Y Y Y O8 ?_;refine RT.done ⟨by kernel_rfl,?_⟩;refine bC.n<|aV.n<|aZ<|lE h λLN XE h=>ad _ Y Y XE<|mv Y<|RT.done ?_;obtain rfl:=O h;exact aV.n ⟨(LN,Wm),Xq _ Y,wR []⟩;subst Xp
 try dsimp only
 refine aV.n<|sr<|mo (s:=.row _) Y<|mo (s:=.row _) Y<|an (s:=.row _) Y<|an (s:=.row _) Y<|dn<|nE (i:=38) (E1:=80) (n:=1) (e:=aX) (l:=uO) hN (λ_ h=>h) Y<|nE (i:=114) (E1:=80) (n:=1) (e:=aX) (l:=lK) hN (λ_ h=>h) Y<|bj ?_;obtain rfl:=O Xo;exact R2 Y Y
theorem je{x0:List Nat}(N:Nat){r:List Nat}(h:c8 x0=some r):dU ah 56 N [slc 1 (List.map aX x0)] (nw N (slc 1 (List.map aX r))):=Hv (kP h)
theorem kn{x0:List Nat}{x1:List Nat}(N:Nat){r:(List Nat)×(List Nat)}(h:dX x0 x1=some r):dU ah 68 N [slc 1 (List.map aX x0),slc 1 (List.map aX x1)] (.sF [nw N (slc 1 (List.map aX r.1)),nw N (slc 1 (List.map aX r.2))]):=by
 refine bG Try.func68 Y (af Y) (λgA M vs hN hvs=>?_);unfold dX at h;refine sr<|ag Y<|aI Y (bt (N:=N) (n:=1) (e:=aX))<|dn<|fK (iS 4 304 80 1 Y Y T)<|qq<|bn<|sr<|mv Y<|mv Y<|bE h λgV kQ h=>cl (ei kQ) ⟨Y,Y,aq⟩<|lE h λiv mu h=>ls _ Y Y mu<|ag Y<|dn ?_;cases iv;refine cF<|sr<|mv Y<|lE (F h) λfN jY h=>ln Y jY<|lE h λmq qZ h=>RT.leq .none _ Y Y T qZ<|ag Y<|dn ?_;cases mq;refine cF<|sr<|mv Y<|lE (F h) λyU zR h=>ln Y zR<|lE h λwV zQ h=>eq _ Y Y (oA (p:=yU) (q:=1) zQ)<|ag Y<|dn ?_;cases wV;refine cF<|bA<|bC.n<|aV.n<|sr<|mv Y<|mv Y ?_;obtain⟨⟨OQ,OR⟩,E8,h⟩:=bS (F h);refine RT.bJ .none (rj N E8) hN Y ⟨Y,Y,aq⟩ T<|ex Y Y<|ex Y Y<|ag Y<|ag Y<|dn<|bj ?_;obtain rfl:=O h;exact R2 Y Y;refine cT<|sr<|mv Y<|bE (V h) λqz Dr h=>cN (kP Dr) ⟨Y,aq⟩<|an (s:=.row _) Y<|dn<|sr<|mo (s:=.row _) Y<|mv Y<|bE h λqy zP h=>ix Y Y zP<|lr Y Y<|lE h λDg HA h=>cv _ Y (UK.nat HA) ?_;obtain⟨⟨yT,l5⟩,Dl,h⟩:=bS h;refine bE h λ_ he5 h=>cR (l:=qz) (l':=l5) (e:=aX) (pQ Dl) (iD he5) 39 Y (.k2 Y Y)<|ag Y<|dn<|sr<|mo (s:=.row _) Y<|mv Y<|lE h λvP h48 h=>cv _ Y (UK.nat h48)<|RT.pD (l:=[vP]) (e:=aX) .none hN (.one Y (.nil)) T Y Y Y Y Y Y<|an (s:=.row _) Y<|ag Y<|dn<|nE (i:=39) (E1:=80) (n:=1) (e:=aX) (l:=l5) hN (λ_ h=>h) Y ?_
 refine bj<|bC.r<|aV.r ?_;obtain rfl:=O h;exact R2 Y Y;refine cT<|sr<|mv Y<|bE (V h) λiU pN h=>cl (fo pN) ⟨Y,aq⟩<|mv Y<|bE h λjd oJ h=>cl (fo oJ) ⟨Y,aq⟩<|ag Y<|ag Y<|dn<|qq<|bg mixed<|mv Y<|mv Y<|bE h λja qA h=>RT.quo .none _ Y Y T (VC qA) (UK.quo qA) ?_;obtain⟨⟨rX,rY⟩,r9,h⟩:=bS h;refine RT.bJ .none (fW N r9) hN Y ⟨Y,Y,aq⟩ T<|fl Y Y<|mv Y<|mv Y<|bE h λnN yV h=>RT.rem .none _ Y Y T (Tn yV) (Hg yV) ?_;obtain⟨⟨jG,iV⟩,n9,h⟩:=bS h;refine RT.bJ .none (fW N n9) hN Y ⟨Y,Y,aq⟩ T<|fl Y Y<|ag Y<|ag Y ?_;refine RT.done ⟨by kernel_rfl,?_⟩;refine aV.n<|bj<|bC.r<|aV.r ?_;obtain rfl:=O h;exact R2 Y Y;refine cT<|sr<|mv Y<|bE (V h) λkJ q9 h=>RT.bJ .none (je N q9) hN Y ⟨Y,aq⟩ T<|ag Y<|ag Y<|dn<|fK (iS 4 310 80 1 Y Y T)<|nE (i:=310) (E1:=80) (n:=1) (e:=aX) (l:=[]) hN (λ_ h=>h) Y<|bj<|bC.r<|aV.r ?_;obtain rfl:=O h;exact R2 Y Y
end
section
open Go.Fw Go.Fw.Z Go.RowKit
theorem cA{x0:Int}(N:Nat){r:Zr}(h:bp x0=some r):dU ah 35 N [ay x0] (.agg ((fZ N) r)):=by
 refine bG Try.func35 Y (af Y) (λgA M vs hN hvs=>?_);unfold bp at h;refine sr<|al (cs:=[az false,nw N ax]) (by exact⟨au,bt,aq⟩) Y<|dn<|sr<|mv Y<|lE h λx5 h5 h=>cv _ Y (UK.conv h5)<|ag Y<|dn<|qq<|sr<|mv Y<|lE h λx7 h7 h=>ls _ Y Y h7<|dn ?_;refine bD h (λj2=>AS.dm 14 [(0,ai x0),(2,.ptr 2 0),(3,.sv (.v (.int .u64 ((j2:Nat):Int))))] [(2,⟨24,[aj false,.sv (nw N ax)]⟩)] []) (λh=>?_) (λOS h=>?_);cases x7;exact fs<|⟨x5,(F h),wR []⟩;exact cT<|aZ<|mv Y<|lE (V h) λx9 h9 h=>RT.neg .none _ Y T (UK.neg h9)<|ag Y<|dn<|⟨x9,h,wR []⟩
 try dsimp only
 refine aV.n<|sr<|mv Y<|lE h λkI oI h=>ls _ Y Y oI<|mv Y ?_;obtain⟨⟨mO,rZ⟩,mu,h⟩:=bS h;refine RT.bJ .none (fW N mu) hN Y ⟨Y,Y,aq⟩ T<|so Y Y Y<|dn<|bj ?_;obtain rfl:=O h;exact RZ (.agg Y Y (.k2 Y Y) Y (.nil))
theorem fu{x0:Int}{r:Zr}(h:bp x0=some r):Pure ah 35 [ay x0] (.agg (eZ r)):=fk (λN=>cA N h) (λN=>(SV.dM (zI _ _)))
theorem ec{x0:Zr}{r:Int×Bool}(h:cD x0=some r):Pure ah 52 [.agg (eZ x0)] (.sF [ay r.1,az r.2]):=by
 obtain⟨bR,bN⟩:=x0;refine bL Try.func52 Y (af Y) (λgA M vs hvs=>?_);unfold cD at h;refine sr<|bx Y<|ag Y<|ag Y<|dn<|sr<|fa Y Y<|lV Y Y Y<|bE h λx8 h8 h=>cl (bO h8) ⟨Y,aq⟩<|ag Y<|dn<|qq<|sr<|mv Y<|lE h λgO jc h=>ln Y jc<|lE h λkI oI h=>gt _ Y Y oI<|dn ?_;cases kI;refine fs<|sr<|mv Y<|bE (F h) λiv mu h=>cl (fo mu) ⟨Y,aq⟩<|ag Y<|dn<|qq<|sr<|fa Y Y<|lV Y Y Y<|dn ?_;cases bR;refine fs<|qq<|sr<|mv Y<|lE (F h) λjC sO h=>ge _ Y Y (Tm (p:=9223372036854775808) (q:=iv) sO)<|dn ?_;cases jC;refine fs<|sr<|mv Y<|lE (F h) λeK nI h=>cv _ Y nI<|ag Y<|ag Y<|dn<|bj ?_;obtain rfl:=O h;exact R2 Y Y;refine cT<|sr<|ag Y<|ag Y<|dn<|bj<|aV.r ?_;obtain rfl:=O (V h);exact R2 Y Y;refine cT<|qq<|sr<|mv Y<|lE (V h) λgU mw h=>gt _ Y Y (Nm (p:=9223372036854775808) (q:=iv) mw)<|dn ?_;cases gU;refine fs<|sr<|mv Y<|lE (F h) λmq qZ h=>RT.neg .none _ Y T (UK.neg qZ)<|lE h λiT nP h=>cv _ Y nP<|ag Y<|ag Y<|dn<|bj<|aV.r ?_;obtain rfl:=O h;exact R2 Y Y;refine cT<|sr<|ag Y<|ag Y<|dn<|bj<|aV.r<|aV.r ?_;obtain rfl:=O (V h);exact R2 Y Y;refine cT<|sr<|ag Y<|ag Y<|dn<|bj<|aV.r ?_;obtain rfl:=O (V h);exact R2 Y Y
theorem kG{x0:List Nat}(N:Nat){r:List Nat}(h:bh x0=some r):dU ah 54 N [nw N (slc 1 (List.map aX x0))] (nw N (slc 1 (List.map aX r))):=by
 refine bG Try.func54 Y (af Y) (λgA M vs hN hvs=>?_);unfold bh at h;refine sr<|aI Y (bt (N:=N) (n:=1) (e:=aX))<|dn<|qq<|bE h λLQ Bs ye=>?_;refine bX (λ(uL:(List Nat))=>AS.dm 21 [(0,.sv (nw N (slc 1 (List.map aX uL))))] [] []) (λuL=>uL=LQ) ?_ (λuL Bt=>?_);refine bn ?_;refine bY Bs (λzJ=>AS.dm 21 [(0,.sv (nw N (slc 1 (List.map aX zJ))))] [] []) (wR []) (λsL Wo Wp h Bu zM=>?_)
 try dsimp only
 refine qq<|qq ?_;refine bD h (λOW=>AS.dm 21 [(0,.sv (nw N (slc 1 (List.map aX sL)))),(14,aj OW)] [] []) (λh=>?_) (λuK h=>?_);refine aZ<|mv Y<|lE h λx4 h4 h=>RT.zF .none Y T h4<|lE h λx5 h5 h=>gt _ Y Y h5<|mv Y<|bE h λBj eY h=>?_;cases x5;obtain rfl:=O (F eY);exact ww<|ww<|ww<|ww<|ww<|ww<|ww<|pF Y<|dn<|⟨false,h,wR []⟩;refine gm Y<|gm Y<|lE (V eY) λx9 h9 eY=>RT.zF (.some Y Y) Y T h9<|lE eY λgO jc eY=>RT.sub (.some Y Y) _ Y Y T jc<|bE eY λkI oI eY=>RT.VW (.some Y Y) Y Y T oI<|gr Y Y<|lE eY λiv mu eY=>Cd _ Y Y (Ob (p:=kI) (q:=0) mu) ?_;obtain rfl:=O eY;exact pT Y<|dn<|⟨iv,h,wR []⟩
 try dsimp only
 refine aV.n ?_;cases uK;refine cF<|cq<|aV.x<|aV.x<|bC.x<|aV.n ?_;obtain rfl:=O (F h);exact⟨sL,zM _ Y,wR []⟩;refine cT<|bA<|aV.n<|bn<|aZ<|mv Y<|mv Y<|lE (V h) λgU mw h=>RT.zF .none Y T mw<|lE h λfN jY h=>sb _ Y Y jY<|bE h λmq qZ h=>RT.Hw .none 0 fN Y Y ⟨_,Y⟩ T qZ<|ag Y<|RT.done<|bC.n ?_;obtain rfl:=O h;exact aV.n ⟨mq,Bu _ Y,wR []⟩;subst Bt
 try dsimp only
 refine aV.n<|sr<|mv Y<|ag Y<|dn<|bj ?_;obtain rfl:=O ye;exact R1 Y
theorem dG{x0:Bool}{x1:List Nat}(N:Nat){r:Zr}(h:bM x0 x1=some r):dU ah 55 N [az x0,nw N (slc 1 (List.map aX x1))] (.agg ((fZ N) r)):=by
 refine bG Try.func55 Y (af Y) (λgA M vs hN hvs=>?_);unfold bM at h;refine sr<|al (cs:=[az false,nw N ax]) (by exact⟨au,bt,aq⟩) Y<|dn<|sr<|mv Y<|bE h λx6 h6 h=>RT.bJ .none (kG N h6) hN Y ⟨Y,aq⟩ T<|ag Y<|dn<|qq<|sr<|mv Y<|lE h λx8 h8 h=>RT.zF .none Y T h8<|lE h λx9 h9 h=>eq _ Y Y (oA (p:=x8) (q:=0) h9)<|dn ?_;cases x9;refine fs<|sr<|mv Y<|mv Y<|bI (cs:=[_,_]) (cs':=[az x0,nw N (slc 1 (List.map aX x6))]) (.one Y (.one Y (.nil))) ⟨au,au,aq⟩<|so Y Y Y<|dn<|bj ?_;obtain rfl:=O (F h);exact RZ (.agg Y Y (.k2 Y Y) Y (.nil));refine cT<|sr<|bI (cs:=[_,_]) (cs':=[az false,nw N ax]) (.nil) ⟨au,bt,aq⟩<|so Y Y Y<|dn<|bj<|aV.r ?_;obtain rfl:=O (V h);exact RZ (.agg Y Y (.k2 Y Y) Y (.nil))
theorem jI{x0:Bool}{x1:List Nat}{x2:Bool}{x3:List Nat}(N:Nat){r:Zr}(h:cr x0 x1 x2 x3=some r):dU ah 53 N [az x0,slc 1 (List.map aX x1),az x2,slc 1 (List.map aX x3)] (.agg ((fZ N) r)):=by
 refine bG Try.func53 Y (af Y) (λgA M vs hN hvs=>?_);unfold cr at h;refine sr<|al (cs:=[az false,nw N ax]) (by exact⟨au,bt,aq⟩) Y<|dn<|qq<|sr<|mv Y<|mv Y<|lE h λkI oI h=>RT.U5 .none _ Y Y T oI<|dn ?_;cases kI;refine fs<|qq<|sr<|mv Y<|mv Y<|bE (F h) λmq qZ h=>cl (ei qZ) ⟨Y,Y,aq⟩<|lE h λiT nP h=>ls _ Y Y nP<|dn ?_;cases iT;refine fs<|sr<|mv Y<|mv Y<|mv Y<|bE (F h) λgz me h=>RT.bJ .none (hG N me) hN Y ⟨Y,Y,aq⟩ T ?_;obtain⟨⟨wZ,w5⟩,yf,h⟩:=bS h;refine RT.bJ .none (dG N yf) hN Y ⟨Y,Y,aq⟩ T<|so Y Y Y<|dn<|bj ?_;obtain rfl:=O h;exact RZ (.agg Y Y (.k2 Y Y) Y (.nil));refine cT<|sr<|mv Y<|mv Y<|mv Y<|bE (V h) λeK nI h=>RT.bJ .none (hG N nI) hN Y ⟨Y,Y,aq⟩ T ?_;obtain⟨⟨wX,wY⟩,zN,h⟩:=bS h;refine RT.bJ .none (dG N zN) hN Y ⟨Y,Y,aq⟩ T<|so Y Y Y<|dn<|bj<|aV.r ?_;obtain rfl:=O h;exact RZ (.agg Y Y (.k2 Y Y) Y (.nil));refine cT<|sr<|mv Y<|mv Y<|mv Y<|bE (V h) λkJ q9 h=>RT.bJ .none (kj N q9) hN Y ⟨Y,Y,aq⟩ T ?_;obtain⟨⟨n7,n8⟩,oK,h⟩:=bS h;refine RT.bJ .none (dG N oK) hN Y ⟨Y,Y,aq⟩ T<|so Y Y Y<|dn<|bj<|aV.r ?_;obtain rfl:=O h;exact RZ (.agg Y Y (.k2 Y Y) Y (.nil))
theorem pS{x0:Zr}{x1:Zr}(N:Nat){r:Zr}(h:cK x0 x1=some r):dU ah 18 N [.agg (eZ x0),.agg (eZ x1)] (.agg ((fZ N) r)):=by
 obtain⟨bR,bN⟩:=x0;obtain⟨dj,cY⟩:=x1;refine bG Try.func18 Y (af Y) (λgA M vs hN hvs=>?_);unfold cK at h;refine sr<|bx Y<|bx Y<|al (cs:=[az false,nw N ax]) (by exact⟨au,bt,aq⟩) Y<|dn<|sr<|ld Y Y (.k2 Y Y) ?_;obtain⟨⟨wh,Bo⟩,kQ,h⟩:=bS h;refine cl (ec kQ) ⟨Y,aq⟩<|mv Y<|ex Y Y<|ex Y Y<|ag Y<|ag Y<|dn<|sr<|ld Y Y (.k2 Y Y) ?_;obtain⟨⟨yc,Bp⟩,mw,h⟩:=bS h;refine cl (ec mw) ⟨Y,aq⟩<|mv Y<|ex Y Y<|ex Y Y<|ag Y<|ag Y<|dn<|qq<|qq ?_;refine bD h (λj3=>AS.dm 48 [(2,.ptr 2 0),(3,.ptr 3 0),(4,.ptr 4 0),(5,ai wh),(7,ai yc),(23,aj j3)] [(4,⟨24,[aj false,.sv (nw N ax)]⟩),(3,⟨24,[aj dj,.sv (slc 1 (List.map aX cY))]⟩),(2,⟨24,[aj bR,.sv (slc 1 (List.map aX bN))]⟩)] []) (λh=>?_) (λuP h=>?_);refine aZ<|mv Y<|mv Y<|bE h λzL DV h=>?_;cases Bo;obtain rfl:=O (F DV);exact ww<|pF Y<|dn<|⟨false,h,wR []⟩;refine gm Y ?_;obtain rfl:=O (V DV);exact pT Y<|dn<|⟨Bp,h,wR []⟩
 try dsimp only
 refine aV.n ?_;refine bD h (λj5=>AS.dm 48 [(2,.ptr 2 0),(3,.ptr 3 0),(4,.ptr 4 0)] [(4,⟨24,[aj false,.sv (nw N ax)]⟩),(3,⟨24,[aj dj,.sv (slc 1 (List.map aX cY))]⟩),(2,⟨24,[aj bR,.sv (slc 1 (List.map aX bN))]⟩)] []) (λh=>?_) (λj5 h=>?_);cases uP;exact fs<|⟨(),(F h),wR []⟩;refine cT<|sr<|mv Y<|mv Y<|lE (V h) λja qA h=>ad _ Y Y qA<|ag Y<|dn<|sr<|mv Y<|mv Y<|lE h λgz me h=>RT.xor .none _ Y Y T me<|mv Y<|mv Y<|lE h λjE n9 h=>RT.xor .none _ Y Y T n9<|lE h λn6 tG h=>RT.and .none _ Y Y T tG<|lE h λjX oL h=>ge _ Y Y oL<|dn ?_;cases jX;exact fs<|⟨(),(F h),wR []⟩;refine cT<|sr<|mv Y ?_;obtain⟨⟨r5,r6⟩,zR,h⟩:=bS (V h);refine RT.bJ .none (cA N zR) hN Y ⟨Y,aq⟩ T<|so Y Y Y<|dn<|bj<|aV.r<|aV.r ?_;obtain rfl:=O h;exact RZ (.agg Y Y (.k2 Y Y) Y (.nil))
 try dsimp only
 refine aV.n<|qq<|bg mixed<|fa Y Y<|lV Y Y Y<|fa Y Y<|lV Y Y Y<|bE h λv8 Bv h=>cl (bO Bv) ⟨Y,aq⟩<|fa Y Y<|lV Y Y Y<|fa Y Y<|lV Y Y Y<|bE h λqV h46 h=>cl (bO h46) ⟨Y,aq⟩ ?_;obtain⟨⟨I5,I6⟩,E6,h⟩:=bS h;refine RT.bJ .none (jI N E6) hN Y ⟨Y,Y,Y,Y,aq⟩ T<|so Y Y Y ?_;refine RT.done ⟨by kernel_rfl,?_⟩;refine aV.n<|bj ?_;obtain rfl:=O h;exact RZ (.agg Y Y (.k2 Y Y) Y (.nil))
theorem fy{x0:Zr}{x1:Zr}{r:Zr}(h:cK x0 x1=some r):Pure ah 18 [.agg (eZ x0),.agg (eZ x1)] (.agg (eZ r)):=fk (λN=>pS N h) (λN=>(SV.dM (zI _ _)))
theorem pU{x0:Zr}{x1:Zr}(N:Nat){r:Zr}(h:fV x0 x1=some r):dU ah 51 N [.agg (eZ x0),.agg (eZ x1)] (.agg ((fZ N) r)):=by
 obtain⟨bR,bN⟩:=x0;obtain⟨dj,cY⟩:=x1;refine bG Try.func51 Y (af Y) (λgA M vs hN hvs=>?_);unfold fV at h;refine sr<|bx Y<|bx Y<|al (cs:=[az false,nw N ax]) (by exact⟨au,bt,aq⟩) Y<|dn<|sr<|ld Y Y (.k2 Y Y) ?_;obtain⟨⟨wh,Bo⟩,kQ,h⟩:=bS h;refine cl (ec kQ) ⟨Y,aq⟩<|mv Y<|ex Y Y<|ex Y Y<|ag Y<|ag Y<|dn<|sr<|ld Y Y (.k2 Y Y) ?_;obtain⟨⟨yc,Bp⟩,mw,h⟩:=bS h;refine cl (ec mw) ⟨Y,aq⟩<|mv Y<|ex Y Y<|ex Y Y<|ag Y<|ag Y<|dn<|qq<|qq ?_;refine bD h (λj3=>AS.dm 49 [(2,.ptr 2 0),(3,.ptr 3 0),(4,.ptr 4 0),(5,ai wh),(7,ai yc),(23,aj j3)] [(4,⟨24,[aj false,.sv (nw N ax)]⟩),(3,⟨24,[aj dj,.sv (slc 1 (List.map aX cY))]⟩),(2,⟨24,[aj bR,.sv (slc 1 (List.map aX bN))]⟩)] []) (λh=>?_) (λuP h=>?_);refine aZ<|mv Y<|mv Y<|bE h λzL DV h=>?_;cases Bo;obtain rfl:=O (F DV);exact ww<|pF Y<|dn<|⟨false,h,wR []⟩;refine gm Y ?_;obtain rfl:=O (V DV);exact pT Y<|dn<|⟨Bp,h,wR []⟩
 try dsimp only
 refine aV.n ?_;refine bD h (λj5=>AS.dm 49 [(2,.ptr 2 0),(3,.ptr 3 0),(4,.ptr 4 0)] [(4,⟨24,[aj false,.sv (nw N ax)]⟩),(3,⟨24,[aj dj,.sv (slc 1 (List.map aX cY))]⟩),(2,⟨24,[aj bR,.sv (slc 1 (List.map aX bN))]⟩)] []) (λh=>?_) (λj5 h=>?_);cases uP;exact fs<|⟨(),(F h),wR []⟩;refine cT<|sr<|mv Y<|mv Y<|lE (V h) λja qA h=>sb _ Y Y qA<|ag Y<|dn<|sr<|mv Y<|mv Y<|lE h λgz me h=>RT.xor .none _ Y Y T me<|mv Y<|mv Y<|lE h λjE n9 h=>RT.xor .none _ Y Y T n9<|lE h λn6 tG h=>RT.and .none _ Y Y T tG<|lE h λjX oL h=>ge _ Y Y oL<|dn ?_;cases jX;exact fs<|⟨(),(F h),wR []⟩;refine cT<|sr<|mv Y ?_;obtain⟨⟨r5,r6⟩,zR,h⟩:=bS (V h);refine RT.bJ .none (cA N zR) hN Y ⟨Y,aq⟩ T<|so Y Y Y<|dn<|bj<|aV.r<|aV.r ?_;obtain rfl:=O h;exact RZ (.agg Y Y (.k2 Y Y) Y (.nil))
 try dsimp only
 refine aV.n<|qq<|bg mixed<|fa Y Y<|lV Y Y Y<|fa Y Y<|lV Y Y Y<|bE h λv8 Bv h=>cl (bO Bv) ⟨Y,aq⟩<|fa Y Y<|lV Y Y Y<|lE h λDg HA h=>nt Y _ HA<|fa Y Y<|lV Y Y Y<|bE h λzG E6 h=>cl (bO E6) ⟨Y,aq⟩ ?_;obtain⟨⟨I7,I8⟩,h48,h⟩:=bS h;refine RT.bJ .none (jI N h48) hN Y ⟨Y,Y,Y,Y,aq⟩ T<|so Y Y Y ?_;refine RT.done ⟨by kernel_rfl,?_⟩;refine aV.n<|bj ?_;obtain rfl:=O h;exact RZ (.agg Y Y (.k2 Y Y) Y (.nil))
theorem yg{x0:Zr}{x1:Zr}{r:Zr}(h:fV x0 x1=some r):Pure ah 51 [.agg (eZ x0),.agg (eZ x1)] (.agg (eZ r)):=fk (λN=>pU N h) (λN=>(SV.dM (zI _ _)))
theorem ju{x0:Zr}{x1:Zr}(N:Nat){r:Zr}(h:cQ x0 x1=some r):dU ah 67 N [.agg (eZ x0),.agg (eZ x1)] (.agg ((fZ N) r)):=by
 obtain⟨bR,bN⟩:=x0;obtain⟨dj,cY⟩:=x1;refine bG Try.func67 Y (af Y) (λgA M vs hN hvs=>?_);unfold cQ at h;refine sr<|bx Y<|bx Y<|al (cs:=[az false,nw N ax]) (by exact⟨au,bt,aq⟩) Y<|dn<|qq<|bg mixed<|fa Y Y<|lV Y Y Y<|bE h λx9 h9 h=>cl (bO h9) ⟨Y,aq⟩<|fa Y Y<|lV Y Y Y<|bE h λgV kQ h=>cl (bO kQ) ⟨Y,aq⟩<|ag Y<|ag Y ?_;refine RT.done ⟨by kernel_rfl,?_⟩;refine aV.n<|qq<|qq ?_;refine bD h (λj3=>AS.dm 41 [(2,.ptr 2 0),(3,.ptr 3 0),(4,.ptr 4 0),(5,.sv (slc 1 (List.map aX x9))),(6,.sv (slc 1 (List.map aX gV))),(20,aj j3)] [(4,⟨24,[aj false,.sv (nw N ax)]⟩),(3,⟨24,[aj dj,.sv (slc 1 (List.map aX cY))]⟩),(2,⟨24,[aj bR,.sv (slc 1 (List.map aX bN))]⟩)] []) (λh=>?_) (λEV h=>?_);refine aZ<|mv Y<|lE h λkK r7 h=>ln Y r7<|lE h λkJ q9 h=>RT.leq .none _ Y Y T q9<|mv Y<|bE h λJb qB h=>?_;cases kJ;obtain rfl:=O (F qB);exact ww<|ww<|ww<|pF Y<|dn<|⟨false,h,wR []⟩;refine gm Y<|lE (V qB) λfN jY qB=>gn Y jY<|lE qB λmq qZ qB=>RT.leq (.some Y Y) _ Y Y T qZ ?_;obtain rfl:=O qB;exact pT Y<|dn<|⟨mq,h,wR []⟩
 try dsimp only
 refine aV.n ?_;cases EV;refine fs<|qq<|bg mixed<|fa Y Y<|lV Y Y Y<|fa Y Y<|lV Y Y Y<|lE (F h) λyU zR h=>RT.GQ .none _ Y Y T zR<|mv Y<|mv Y<|bE h λqz Dr h=>RT.bJ .none (pP N Dr) hN Y ⟨Y,Y,aq⟩ T ?_;obtain⟨⟨l9,mc⟩,r8,h⟩:=bS h;refine RT.bJ .none (dG N r8) hN Y ⟨Y,Y,aq⟩ T<|so Y Y Y ?_;refine RT.done ⟨by kernel_rfl,?_⟩;refine aV.n<|bj ?_;obtain rfl:=O h;exact RZ (.agg Y Y (.k2 Y Y) Y (.nil));refine cT<|qq<|bg mixed<|fa Y Y<|lV Y Y Y<|fa Y Y<|lV Y Y Y<|lE (V h) λoC zN h=>RT.GQ .none _ Y Y T zN<|mv Y<|bE h λkF r9 h=>cl (fo r9) ⟨Y,aq⟩<|mv Y<|bE h λgz me h=>cl (fo me) ⟨Y,aq⟩<|lE h λoE yf h=>RT.mul .none _ Y Y T (UK.mul (a:=kF) (b:=gz) yf) ?_;obtain⟨⟨I9,Ja⟩,yV,h⟩:=bS h;refine RT.bJ .none (fW N yV) hN Y ⟨Y,Y,aq⟩ T<|so Y Y Y ?_;refine RT.done ⟨by kernel_rfl,?_⟩;refine aV.n<|bj<|aV.r ?_;obtain rfl:=O h;exact RZ (.agg Y Y (.k2 Y Y) Y (.nil))
theorem pV{x0:Zr}{x1:Zr}{r:Zr}(h:cQ x0 x1=some r):Pure ah 67 [.agg (eZ x0),.agg (eZ x1)] (.agg (eZ r)):=fk (λN=>ju N h) (λN=>(SV.dM (zI _ _)))
theorem lM{x0:Zr}(N:Nat){r:Zr}(h:dD x0=some r):dU ah 21 N [.agg (eZ x0)] (.agg ((fZ N) r)):=by
 obtain⟨bR,bN⟩:=x0;refine bG Try.func21 Y (af Y) (λgA M vs hN hvs=>?_);unfold dD at h;refine sr<|bx Y<|al (cs:=[az false,nw N ax]) (by exact⟨au,bt,aq⟩) Y<|dn<|qq<|bg mixed<|fa Y Y<|lV Y Y Y<|lE h λx5 h5 h=>nt Y _ h5<|fa Y Y<|lV Y Y Y<|bE h λx8 h8 h=>cl (bO h8) ⟨Y,aq⟩<|bE h λx9 h9 h=>RT.bJ .none (je N h9) hN Y ⟨Y,aq⟩ T ?_;obtain⟨⟨w6,w7⟩,jc,h⟩:=bS h;refine RT.bJ .none (dG N jc) hN Y ⟨Y,Y,aq⟩ T<|so Y Y Y ?_;refine RT.done ⟨by kernel_rfl,?_⟩;refine aV.n<|bj ?_;obtain rfl:=O h;exact RZ (.agg Y Y (.k2 Y Y) Y (.nil))
theorem lN{x0:Zr}{r:Zr}(h:dD x0=some r):Pure ah 21 [.agg (eZ x0)] (.agg (eZ r)):=fk (λN=>lM N h) (λN=>(SV.dM (zI _ _)))
theorem eH{x0:Zr}{r:Int}(h:ct x0=some r):Pure ah 36 [.agg (eZ x0)] (ay r):=by
 obtain⟨bR,bN⟩:=x0;refine bL Try.func36 Y (af Y) (λgA M vs hvs=>?_);unfold ct at h;refine sr<|bx Y<|ag Y<|dn<|qq<|bn<|sr<|fa Y Y<|lV Y Y Y<|bE h λx6 h6 h=>cl (bO h6) ⟨Y,aq⟩<|lE h λx7 h7 h=>ln Y h7<|lE h λx8 h8 h=>eq _ Y Y (oA (p:=x7) (q:=0) h8)<|ag Y<|dn ?_;cases x8;refine cF<|sr<|fa Y Y<|lV Y Y Y<|ag Y<|dn ?_;replace h:=F h;cases bR;refine cF<|bA<|bC.n<|aV.n<|sr<|ag Y<|dn<|bj ?_;obtain rfl:=O (F h);exact R1 Y;refine cT<|sr<|ag Y<|dn<|bj<|bC.r<|aV.r ?_;obtain rfl:=O (V h);exact R1 Y;refine cT<|sr<|ag Y<|dn<|bj<|bC.r<|aV.r ?_;obtain rfl:=O (V h);exact R1 Y
theorem yh{x0:Zr}{x1:Zr}{r:Int}(h:iW x0 x1=some r):Pure ah 39 [.agg (eZ x0),.agg (eZ x1)] (ay r):=by
 obtain⟨bR,bN⟩:=x0;obtain⟨dj,cY⟩:=x1;refine bL Try.func39 Y (af Y) (λgA M vs hvs=>?_);unfold iW at h;refine sr<|bx Y<|bx Y<|ag Y<|dn<|qq<|bg mixed<|ld Y Y (.k2 Y Y)<|bE h λx8 h8 h=>cl (eH h8) ⟨Y,aq⟩<|ld Y Y (.k2 Y Y)<|bE h λgO jc h=>cl (eH jc) ⟨Y,aq⟩<|ag Y<|ag Y ?_;refine RT.done ⟨by kernel_rfl,?_⟩;refine aV.n<|qq<|bn<|sr<|mv Y<|mv Y<|lE h λkK r7 h=>ls _ Y Y r7<|ag Y<|dn ?_;cases kK;refine cF<|sr<|mv Y<|mv Y<|lE (F h) λfN jY h=>gt _ Y Y jY<|ag Y<|dn ?_;cases fN;refine cF<|sr<|mv Y<|lE (F h) λiU pN h=>ls _ Y Y pN<|ag Y<|dn ?_;cases iU;refine cF<|bA<|bC.n<|aV.n<|qq<|bg mixed<|fa Y Y<|lV Y Y Y<|bE (F h) λnN yV h=>cl (bO yV) ⟨Y,aq⟩<|fa Y Y<|lV Y Y Y<|bE h λjX oL h=>cl (bO oL) ⟨Y,aq⟩<|bE h λnO zO h=>cl (ei zO) ⟨Y,Y,aq⟩<|ag Y ?_;refine RT.done ⟨by kernel_rfl,?_⟩;refine aV.n<|bj ?_;obtain rfl:=O h;exact R1 Y;refine cT<|qq<|bg mixed<|fa Y Y<|lV Y Y Y<|bE (V h) λeK nI h=>cl (bO nI) ⟨Y,aq⟩<|fa Y Y<|lV Y Y Y<|bE h λkF r9 h=>cl (bO r9) ⟨Y,aq⟩<|bE h λlB uR h=>cl (ei uR) ⟨Y,Y,aq⟩<|ag Y ?_;refine RT.done ⟨by kernel_rfl,?_⟩;refine aV.n<|bj<|bC.r<|aV.r ?_;obtain rfl:=O h;exact R1 Y;refine cT<|sr<|ag Y<|dn<|bj<|bC.r<|aV.r ?_;obtain rfl:=O (V h);exact R1 Y;refine cT<|sr<|ag Y<|dn<|bj<|bC.r<|aV.r ?_
 obtain rfl:=O (V h);exact R1 Y
theorem jg{x0:Zr}{x1:Zr}(N:Nat){r:Zr×Zr×Int}(h:cc x0 x1=some r):dU ah 34 N [.agg (eZ x0),.agg (eZ x1)] (.sF [.agg ((fZ N) r.1),.agg ((fZ N) r.2.1),ay r.2.2]):=by
 obtain⟨bR,bN⟩:=x0;obtain⟨dj,cY⟩:=x1;refine bG Try.func34 Y (af Y) (λgA M vs hN hvs=>?_);unfold cc at h;refine sr<|bx Y<|bx Y<|al (cs:=[az false,nw N ax]) (by exact⟨au,bt,aq⟩) Y<|al (cs:=[az false,nw N ax]) (by exact⟨au,bt,aq⟩) Y<|ag Y<|dn<|qq<|bg mixed<|fa Y Y<|lV Y Y Y<|bE h λiv mu h=>cl (bO mu) ⟨Y,aq⟩<|fa Y Y ?_;refine lV Y Y Y<|bE h λjD oK h=>cl (bO oK) ⟨Y,aq⟩<|ag Y<|ag Y ?_;refine RT.done ⟨by kernel_rfl,?_⟩;refine aV.n<|qq<|sr<|mv Y<|lE h λfN jY h=>ln Y jY<|lE h λmq qZ h=>eq _ Y Y (oA (p:=fN) (q:=0) qZ)<|dn ?_;cases mq;refine fs<|sr<|mv Y<|mv Y ?_;obtain⟨⟨EW,OT⟩,zN,h⟩:=bS (F h);refine RT.bJ .none (kn N zN) hN Y ⟨Y,Y,aq⟩ T<|mv Y<|ex Y Y<|ex Y Y<|ag Y<|ag Y<|dn<|sr<|mv Y<|bE h λgz me h=>RT.bJ .none (kG N me) hN Y ⟨Y,aq⟩ T<|ag Y<|dn<|qq<|qq ?_;refine bD h (λj3=>AS.dm 52 [(2,.ptr 2 0),(3,.ptr 3 0),(4,.ptr 4 0),(5,.ptr 5 0),(8,.sv (slc 1 (List.map aX jD))),(9,.sv (nw N (slc 1 (List.map aX EW)))),(10,.sv (nw N (slc 1 (List.map aX gz)))),(36,aj j3.1)] [(5,⟨24,[aj false,.sv (nw N ax)]⟩),(4,⟨24,[aj false,.sv (nw N ax)]⟩),(3,⟨24,[aj dj,.sv (slc 1 (List.map aX cY))]⟩),(2,⟨24,[aj j3.2,.sv (slc 1 (List.map aX bN))]⟩)] []) (λh=>?_) (λj3 h=>?_)
 refine aZ<|fa Y Y<|lV Y Y Y<|mv Y<|bE h λJf DV h=>?_;cases bR;obtain rfl:=O (F DV);exact ww<|ww<|ww<|pF Y<|dn<|⟨(false,false),h,wR []⟩;refine gm Y<|lE (V DV) λjX oL DV=>RT.zF (.some Y Y) Y T oL<|lE DV λnO zO DV=>gg _ Y Y zO ?_;obtain rfl:=O DV;exact pT Y<|dn<|⟨(nO,true),h,wR []⟩;obtain⟨EX,Bq⟩:=j3
 try dsimp only
 refine aV.n ?_;refine bD h (λj5=>AS.dm 52 [(2,.ptr 2 0),(3,.ptr 3 0),(4,.ptr 4 0),(5,.ptr 5 0),(9,.sv (nw N (slc 1 (List.map aX j5.1)))),(10,.sv (nw N (slc 1 (List.map aX j5.2))))] [(5,⟨24,[aj false,.sv (nw N ax)]⟩),(4,⟨24,[aj false,.sv (nw N ax)]⟩),(3,⟨24,[aj dj,.sv (slc 1 (List.map aX cY))]⟩),(2,⟨24,[aj Bq,.sv (slc 1 (List.map aX bN))]⟩)] []) (λh=>?_) (λj5 h=>?_);cases EX;exact fs<|⟨(EW,gz),(F h),wR []⟩;exact cT<|sr<|mv Y<|RT.pD (l:=[1]) (e:=aX) .none hN (.one Y (.nil)) T Y Y Y Y Y Y<|bE (V h) λqz Dr h=>RT.bJ .none ((kj N Dr).w (args':=[_,_]) ⟨eG,eG,aq⟩) hN Y ⟨Y,Y,aq⟩ T<|ag Y<|dn<|aZ<|mv Y<|mv Y<|bE h λqy zP h=>RT.bJ .none ((hG N zP).w (args':=[_,_]) ⟨au,eG,aq⟩) hN Y ⟨Y,Y,aq⟩ T<|ag Y<|dn<|⟨(qz,qy),h,wR []⟩;obtain⟨OU,Jc⟩:=j5
 try dsimp only
 refine aV.n<|sr<|fa Y Y<|lV Y Y Y<|fa Y Y<|lV Y Y Y<|lE h λzG E6 h=>RT.GQ .none _ Y Y T E6<|mv Y ?_;obtain⟨⟨Jd,Je⟩,WQ,h⟩:=bS h;refine RT.bJ .none (dG N WQ) hN Y ⟨Y,Y,aq⟩ T<|mv Y ?_;obtain⟨⟨pM,uQ⟩,E7,h⟩:=bS h;refine RT.bJ .none (dG N E7) hN Y ⟨Y,Y,aq⟩ T<|so Y Y Y<|so Y Y Y<|ag Y<|dn<|bj ?_;obtain rfl:=O h;exact RZ (.agg Y Y (.k2 Y Y) Y (.agg Y Y (.k2 Y Y) Y (.tmp Y (.nil))));refine cT<|sr<|bI (cs:=[_,_]) (cs':=[az false,nw N ax]) (.nil) ⟨au,bt,aq⟩<|bI (cs:=[_,_]) (cs':=[az false,nw N ax]) (.nil) ⟨au,bt,aq⟩<|so Y Y Y<|so Y Y Y<|ag Y<|dn<|bj<|aV.r ?_;obtain rfl:=O (V h);exact RZ (.agg Y Y (.k2 Y Y) Y (.agg Y Y (.k2 Y Y) Y (.tmp Y (.nil))))
theorem mg{x0:Zr}{x1:Zr}{r:Zr×Zr×Int}(h:cc x0 x1=some r):Pure ah 34 [.agg (eZ x0),.agg (eZ x1)] (.sF [.agg (eZ r.1),.agg (eZ r.2.1),ay r.2.2]):=fk (λN=>jg N h) (λN=>(SV.BZ ⟨(SV.dM (zI _ _)),(SV.dM (zI _ _)),au,aq⟩))
theorem yj{x0:Zr}{x1:Zr}(N:Nat){r:Zr}(h:gP x0 x1=some r):dU ah 94 N [.agg (eZ x0),.agg (eZ x1)] (.agg ((fZ N) r)):=by
 obtain⟨bR,bN⟩:=x0;obtain⟨dj,cY⟩:=x1;refine bG Try.func94 Y (af Y) (λgA M vs hN hvs=>?_);unfold gP at h;refine sr<|bx Y<|bx Y<|al (cs:=[az false,nw N ax]) (by exact⟨au,bt,aq⟩) Y<|dn<|qq<|bg mixed<|fa Y Y<|lV Y Y Y<|bE h λiv mu h=>cl (bO mu) ⟨Y,aq⟩<|fa Y Y<|lV Y Y Y<|bE h λjD oK h=>cl (bO oK) ⟨Y,aq⟩<|ag Y<|ag Y ?_;refine RT.done ⟨by kernel_rfl,?_⟩;refine aV.n<|qq<|bE h λDh Fg jH=>?_;refine bX (λ(mR:(List Nat)×(List Nat))=>AS.dm 57 [(4,.ptr 4 0),(5,.sv (slc 1 (List.map aX mR.1))),(6,.sv (slc 1 (List.map aX mR.2)))] [(4,⟨24,[aj false,.sv (nw N ax)]⟩)] []) (λmR=>mR=Dh) ?_ (λmR Fh=>?_);refine bn ?_;refine bY Fg (λtF=>AS.dm 57 [(4,.ptr 4 0),(5,.sv (slc 1 (List.map aX tF.1))),(6,.sv (slc 1 (List.map aX tF.2)))] [(4,⟨24,[aj false,.sv (nw N ax)]⟩)] []) (wR []) (λtF y12 G12 h Fi Dn=>?_);obtain⟨sN,yd⟩:=tF
 try dsimp only
 refine qq<|qq ?_;refine bD h (λj16=>AS.dm 57 [(4,.ptr 4 0),(5,.sv (slc 1 (List.map aX sN))),(6,.sv (slc 1 (List.map aX yd))),(29,aj j16)] [(4,⟨24,[aj false,.sv (nw N ax)]⟩)] []) (λh=>?_) (λBr h=>?_);refine aZ<|mv Y<|lE h λfN jY h=>ln Y jY<|lE h λmq qZ h=>gt _ Y Y qZ<|mv Y<|bE h λEZ yl h=>?_;cases mq;obtain rfl:=O (F yl);exact ww<|ww<|ww<|ww<|wu<|wu<|wu<|ww<|pF Y<|dn<|⟨false,h,wR []⟩;refine gm Y<|lE (V yl) λjC sO yl=>gn Y sO<|lE yl λjd oJ yl=>gg _ Y Y oJ<|gm Y<|bE yl λEY oO yl=>?_;cases jd;refine gm Y<|lE (F oO) λja qA oO=>gn Y qA<|lE oO λkF r9 oO=>gg _ Y Y r9 ?_;obtain rfl:=O oO;refine gF Y ?_;obtain rfl:=O yl;exact pT Y<|dn<|⟨kF,h,wR []⟩;obtain rfl:=O (V oO);refine ww<|ww<|ww<|gT Y ?_;obtain rfl:=O yl;exact pT Y<|dn<|⟨true,h,wR []⟩
 try dsimp only
 refine aV.n ?_;cases Br;refine cF<|cq<|aV.x<|aV.x<|bC.x<|aV.n ?_;obtain rfl:=O (F h);exact⟨(sN,yd),Dn _ Y,wR []⟩;refine cT<|bA<|aV.n<|bn<|sr<|mv Y<|mv Y ?_;obtain⟨⟨Wn,OV⟩,tG,h⟩:=bS (V h);refine RT.bJ .none (kn N tG) hN Y ⟨Y,Y,aq⟩ T<|mv Y<|ex Y Y<|ex Y Y<|ag Y<|ag Y<|dn<|aZ<|mv Y<|mv Y<|bE h λtw Dj h=>RT.bJ .none (kG N Dj) hN Y ⟨Y,aq⟩ T<|ag Y<|ag Y<|RT.done<|bC.n ?_;obtain rfl:=O h;exact aV.n ⟨(yd,tw),Fi _ Y,fS id Y Y Y Y Y ⟨.ptr,.sv au,.sv eG,aq⟩ ⟨⟨_,Y,⟨.sv au,.sv au,aq⟩⟩,aq⟩ trivial (λ_ _=>Y)⟩;subst Fh;obtain⟨E4,E5⟩:=mR
 try dsimp only
 refine aV.n<|qq<|sr<|mv Y<|lE jH λnF r8 jH=>ln Y r8<|lE jH λv8 Bv jH=>eq _ Y Y (oA (p:=nF) (q:=0) Bv)<|dn ?_;cases v8;refine fs<|sr<|mv Y<|bE (F jH) λqV h46 jH=>cl (fo h46) ⟨Y,aq⟩<|mv Y<|bE jH λvP h48 jH=>cl (fo h48) ⟨Y,aq⟩<|ag Y<|ag Y<|dn<|qq<|bE jH λe24 XF LY=>?_;refine bX (λ(w8:Nat)=>AS.dm 57 [(4,.ptr 4 0),(9,.sv (.v (.int .u64 ((w8:Nat):Int))))] [(4,⟨24,[aj false,.sv (nw N ax)]⟩)] []) (λw8=>w8=e24) ?_ (λw8 XG=>?_);refine bn ?_;refine bY XF (λNt=>AS.dm 57 [(4,.ptr 4 0),(9,.sv (.v (.int .u64 ((Nt.1:Nat):Int)))),(10,.sv (.v (.int .u64 ((Nt.2:Nat):Int))))] [(4,⟨24,[aj false,.sv (nw N ax)]⟩)] []) (wR []) (λNt y24 G24 h XH XI=>?_);obtain⟨Ch,qY⟩:=Nt
 try dsimp only
 refine qq<|sr<|mv Y<|lE h λtC Dm h=>gt _ Y Y (Nm (p:=0) (q:=qY) Dm)<|dn ?_;cases tC;refine cF<|cq<|aV.x<|aV.x<|bC.x<|aV.n ?_;obtain rfl:=O (F h);exact⟨Ch,XI _ Y,wR []⟩;refine cT<|bA<|aV.n<|bn<|bg mixed<|mv Y<|mv Y<|mv Y<|bE (V h) λLO Ts h=>RT.rem .none _ Y Y T (Tn Ts) (Hg Ts)<|ag Y<|ag Y ?_;refine RT.done ⟨by kernel_rfl,?_⟩;refine bC.n ?_;obtain rfl:=O h;exact aV.n ⟨(qY,LO),XH _ Y,wR []⟩;subst XG
 try dsimp only
 refine aV.n<|sr<|mv Y ?_;obtain⟨⟨Ji,Jj⟩,LU,LY⟩:=bS LY;refine RT.bJ .none (fW N LU) hN Y ⟨Y,Y,aq⟩ T<|so Y Y Y<|dn<|bj ?_;obtain rfl:=O LY;exact RZ (.agg Y Y (.k2 Y Y) Y (.nil));refine cT<|sr<|mv Y<|bE (V jH) λyS GH jH=>RT.bJ .none (je N GH) hN Y ⟨Y,aq⟩ T ?_;obtain⟨⟨Jg,Jh⟩,HA,jH⟩:=bS jH;refine RT.bJ .none (dG N HA) hN Y ⟨Y,Y,aq⟩ T<|so Y Y Y<|dn<|bj<|aV.r ?_;obtain rfl:=O jH;exact RZ (.agg Y Y (.k2 Y Y) Y (.nil))
end
section
open Go.Fw
noncomputable def nR(x0:Zr)(x1:Zr)(x2:Zr)(x3:Zr):Option (Zr×Zr):=match x0 with|⟨bR,bN⟩=>match x1 with|⟨dj,cY⟩=>match x2 with|⟨ym,yn⟩=>match x3 with|⟨Ds,Dt⟩=>(cQ ⟨bR,bN⟩ ⟨Ds,Dt⟩).bind λ⟨kR,kS⟩=>(cQ ⟨ym,yn⟩ ⟨dj,cY⟩).bind λ⟨ko,kp⟩=>(cK ⟨kR,kS⟩ ⟨ko,kp⟩).bind λ⟨n7,n8⟩=>(cQ ⟨dj,cY⟩ ⟨Ds,Dt⟩).bind λ⟨uS,uT⟩=>some (⟨n7,n8⟩,⟨uS,uT⟩)
noncomputable def eL(x0:Zr)(x1:Zr)(x2:Zr)(x3:Zr):Option (Zr×Zr):=match x0 with|⟨bR,bN⟩=>match x1 with|⟨dj,cY⟩=>match x2 with|⟨ym,yn⟩=>match x3 with|⟨Ds,Dt⟩=>(cQ ⟨bR,bN⟩ ⟨Ds,Dt⟩).bind λ⟨kR,kS⟩=>(cQ ⟨ym,yn⟩ ⟨dj,cY⟩).bind λ⟨ko,kp⟩=>(fV ⟨kR,kS⟩ ⟨ko,kp⟩).bind λ⟨n7,n8⟩=>(cQ ⟨dj,cY⟩ ⟨Ds,Dt⟩).bind λ⟨uS,uT⟩=>some (⟨n7,n8⟩,⟨uS,uT⟩)
noncomputable def cu(x0:Qr):Option (Zr×Zr):=match x0 with|⟨⟨bR,bN⟩,⟨gi,gW⟩⟩=>(ct ⟨gi,gW⟩).bind λx6=>(some (decide ((x6:Int)=0))).bind λx8=>(bif x8 then(bp 1).bind λ⟨kT,zS⟩=>some (⟨bR,bN⟩,⟨kT,zS⟩)else(some (decide ((x6:Int)=(-1)))).bind λiv=>(bif iv then(dD ⟨bR,bN⟩).bind λ⟨n7,n8⟩=>(dD ⟨gi,gW⟩).bind λ⟨uS,uT⟩=>some (⟨n7,n8⟩,⟨uS,uT⟩)else some (⟨bR,bN⟩,⟨gi,gW⟩)))
noncomputable def dV(x0:Zr)(x1:Zr):Option (Qr):=match x0 with|⟨bR,bN⟩=>match x1 with|⟨dj,cY⟩=>(ct ⟨dj,cY⟩).bind λx9=>(some (decide ((x9:Int)<0))).bind λgO=>cW (λ(j2:Bool×(List Nat)×Bool×(List Nat))=>match j2 with|⟨Bw,Bx,By,Bz⟩=>(gP ⟨By,Bz⟩ ⟨Bw,Bx⟩).bind λ⟨kq,ku⟩=>(cc ⟨By,Bz⟩ ⟨kq,ku⟩).bind λ⟨⟨uU,uV⟩,⟨LZ,L0⟩,XJ⟩=>(cc ⟨Bw,Bx⟩ ⟨kq,ku⟩).bind λ⟨⟨rm,rq⟩,⟨L1,L2⟩,XK⟩=>(cD ⟨rm,rq⟩).bind λ⟨L3,L4⟩=>cW (λ(Fj:Bool)=>cW (λ(j7:Bool×(List Nat))=>match j7 with|⟨BA,BB⟩=>some ⟨⟨uU,uV⟩,⟨BA,BB⟩⟩) λK7=>(bif Fj then K7 (false,[])else K7 (rm,rq))) λK5=>(bif L4 then(some (decide ((L3:Int)=1))).bind λnF=>some nF else some false).bind λJk=>K5 Jk) λK2=>(bif gO then(dD ⟨bR,bN⟩).bind λ⟨kR,kS⟩=>(dD ⟨dj,cY⟩).bind λ⟨Fk,Fl⟩=>K2 (Fk,Fl,kR,kS)else K2 (dj,cY,bR,bN))
noncomputable def eA(x0:Qr):Option (Int×Int×Bool):=match x0 with|⟨⟨bR,bN⟩,⟨gi,gW⟩⟩=>(cD ⟨bR,bN⟩).bind λ⟨yo,HB⟩=>(cD ⟨gi,gW⟩).bind λ⟨wm,O9⟩=>cW (λ(BC:Bool)=>(bif BC then some (0,0,false)else(some (decide ((wm:Int)=0))).bind λyS=>cW (λ(Nu:Int×Int)=>match Nu with|⟨Jl,Jm⟩=>some (Jl,Jm,true)) λK24=>(bif yS then K24 (yo,1)else(some (decide ((wm:Int)<0))).bind λqV=>cW (λ(Nv:Int×Int)=>match Nv with|⟨Fm,Fo⟩=>K24 (Fm,Fo)) λK26=>(bif qV then(some (IntKind.i64.wrap (0-yo))).bind λvP=>(some (IntKind.i64.wrap (0-wm))).bind λtC=>K26 (vP,tC)else K26 (yo,wm))))) λK21=>(some (!HB)).bind λiT=>(bif iT then some true else(some (!O9)).bind λjd=>some jd).bind λFp=>(bif Fp then some true else(some (decide ((yo:Int)<=(-2147483648)))).bind λkF=>some kF).bind λL5=>(bif L5 then some true else(some (decide ((2147483648:Int)<=yo))).bind λnN=>some nN).bind λL6=>(bif L6 then some true else(some (decide ((wm:Int)<=(-2147483648)))).bind λnO=>some nO).bind λL7=>(bif L7 then some true else(some (decide ((2147483648:Int)<=wm))).bind λqz=>some qz).bind λL8=>K21 L8
noncomputable def ga(x0:Int)(x1:Int):Option (Qr):=(cI (λ(s6:Int×Int)=>match s6 with|⟨sM,Du⟩=>(show Option ((Int×Int)⊕(Int))from(some (decide ((Du:Int)≠0))).bind λgO=>(bif gO then(C8 sM Du).bind λkK=>some (.inl (Du,kK))else some (.inr sM)))) (x0,x1)).bind λyp=>(some (decide ((yp:Int)<0))).bind λjD=>cW (λ(Dv:Int)=>(some (decide ((Dv:Int)=x1))).bind λiU=>(bif iU then(pB x0 Dv).bind λeK=>(bp eK).bind λ⟨wX,wY⟩=>some ⟨⟨wX,wY⟩,⟨false,[]⟩⟩else(pB x0 Dv).bind λgz=>(bp gz).bind λ⟨wZ,w5⟩=>(pB x1 Dv).bind λn6=>(bp n6).bind λ⟨w9,sg⟩=>some ⟨⟨wZ,w5⟩,⟨w9,sg⟩⟩)) λK8=>(bif jD then(some (IntKind.i64.wrap (0-yp))).bind λfN=>K8 fN else K8 yp)
noncomputable def kx(x0:Int):Option (Int):=(some (decide ((x0:Int)<0))).bind λx5=>(bif x5 then some (-1)else(some (decide ((0:Int)<x0))).bind λx8=>(bif x8 then some 1 else some 0))
noncomputable def iN(x0:Zr):Option (Zr):=match x0 with|⟨bR,bN⟩=>(cK ⟨bR,bN⟩ ⟨false,[]⟩).bind λ⟨HC,HD⟩=>some ⟨HC,HD⟩
noncomputable def Fq(x1:Qr)(x2:Qr):Option (Qr):=match x1 with|⟨⟨dj,cY⟩,⟨sP,sQ⟩⟩=>match x2 with|⟨⟨ym,yn⟩,⟨HE,HF⟩⟩=>(cu ⟨⟨dj,cY⟩,⟨sP,sQ⟩⟩).bind λ⟨⟨lO,lP⟩,⟨mU,mW⟩⟩=>(cu ⟨⟨ym,yn⟩,⟨HE,HF⟩⟩).bind λ⟨⟨lQ,lS⟩,⟨mX,mY⟩⟩=>(nR ⟨lO,lP⟩ ⟨mU,mW⟩ ⟨lQ,lS⟩ ⟨mX,mY⟩).bind λ⟨⟨uW,uX⟩,⟨uY,uZ⟩⟩=>(dV ⟨uW,uX⟩ ⟨uY,uZ⟩).bind λ⟨⟨jG,iV⟩,⟨pW,pX⟩⟩=>some ⟨⟨jG,iV⟩,⟨pW,pX⟩⟩
noncomputable def fX(x1:Qr)(x2:Qr):Option (Qr):=match x1 with|⟨⟨dj,cY⟩,⟨sP,sQ⟩⟩=>match x2 with|⟨⟨ym,yn⟩,⟨HE,HF⟩⟩=>(cu ⟨⟨dj,cY⟩,⟨sP,sQ⟩⟩).bind λ⟨⟨lO,lP⟩,⟨mU,mW⟩⟩=>(cu ⟨⟨ym,yn⟩,⟨HE,HF⟩⟩).bind λ⟨⟨lQ,lS⟩,⟨mX,mY⟩⟩=>(eL ⟨lO,lP⟩ ⟨mU,mW⟩ ⟨lQ,lS⟩ ⟨mX,mY⟩).bind λ⟨⟨uW,uX⟩,⟨uY,uZ⟩⟩=>(dV ⟨uW,uX⟩ ⟨uY,uZ⟩).bind λ⟨⟨jG,iV⟩,⟨pW,pX⟩⟩=>some ⟨⟨jG,iV⟩,⟨pW,pX⟩⟩
noncomputable def gI(x0:Int)(x1:Int):Option (Qr×Int):=(some (decide ((x1:Int)=0))).bind λx7=>(bif x7 then some (⟨⟨false,[]⟩,⟨false,[]⟩⟩,7)else(bp x0).bind λ⟨w6,w7⟩=>(bp x1).bind λ⟨kR,kS⟩=>(dV ⟨w6,w7⟩ ⟨kR,kS⟩).bind λ⟨⟨mO,rZ⟩,⟨Jn,Jo⟩⟩=>some (⟨⟨mO,rZ⟩,⟨Jn,Jo⟩⟩,0))
noncomputable def cO(x0:Zr):Option (Qr):=match x0 with|⟨bR,bN⟩=>(iN ⟨bR,bN⟩).bind λ⟨Dw,Dx⟩=>some ⟨⟨Dw,Dx⟩,⟨false,[]⟩⟩
noncomputable def iE(x0:Qr):Option (Qr):=match x0 with|⟨⟨bR,bN⟩,⟨gi,gW⟩⟩=>(eA ⟨⟨bR,bN⟩,⟨gi,gW⟩⟩).bind λ⟨x8a,x8b,x8c⟩=>(bif x8c then(ga x8a x8b).bind λ⟨⟨ko,kp⟩,⟨Pa,Pb⟩⟩=>some ⟨⟨ko,kp⟩,⟨Pa,Pb⟩⟩else(cu ⟨⟨bR,bN⟩,⟨gi,gW⟩⟩).bind λ⟨⟨L9,Ma⟩,⟨Mb,Mc⟩⟩=>(dV ⟨L9,Ma⟩ ⟨Mb,Mc⟩).bind λ⟨⟨xb,si⟩,⟨xd,u0⟩⟩=>some ⟨⟨xb,si⟩,⟨xd,u0⟩⟩)
noncomputable def iF(x0:Qr)(x1:Qr):Option (Qr):=match x0 with|⟨⟨bR,bN⟩,⟨gi,gW⟩⟩=>match x1 with|⟨⟨dj,cY⟩,⟨sP,sQ⟩⟩=>(eA ⟨⟨bR,bN⟩,⟨gi,gW⟩⟩).bind λ⟨Md,HG,Me⟩=>(eA ⟨⟨dj,cY⟩,⟨sP,sQ⟩⟩).bind λ⟨Mf,HH,Mg⟩=>cW (λ(Fs:Bool)=>(bif Fs then(some (IntKind.i64.wrap (Md*HH))).bind λgz=>(some (IntKind.i64.wrap (Mf*HG))).bind λjE=>(some (IntKind.i64.wrap (gz-jE))).bind λn6=>(some (IntKind.i64.wrap (HG*HH))).bind λyU=>(ga n6 yU).bind λ⟨⟨oa,oc⟩,⟨zT,Ci⟩⟩=>some ⟨⟨oa,oc⟩,⟨zT,Ci⟩⟩else(fX ⟨⟨bR,bN⟩,⟨gi,gW⟩⟩ ⟨⟨dj,cY⟩,⟨sP,sQ⟩⟩).bind λ⟨⟨l9,mc⟩,⟨zU,zV⟩⟩=>some ⟨⟨l9,mc⟩,⟨zU,zV⟩⟩)) λK3=>(bif Me then some Mg else some false).bind λJp=>K3 Jp
noncomputable def va(x0:Qr):Option (Qr):=match x0 with|⟨⟨bR,bN⟩,⟨gi,gW⟩⟩=>(iE ⟨⟨bR,bN⟩,⟨gi,gW⟩⟩).bind λ⟨⟨HC,HD⟩,⟨XL,XM⟩⟩=>(dD ⟨HC,HD⟩).bind λ⟨XN,XO⟩=>some ⟨⟨XN,XO⟩,⟨XL,XM⟩⟩
noncomputable def iG(x0:Qr)(x1:Qr):Option (Int):=match x0 with|⟨⟨bR,bN⟩,⟨gi,gW⟩⟩=>match x1 with|⟨⟨dj,cY⟩,⟨sP,sQ⟩⟩=>(cu ⟨⟨bR,bN⟩,⟨gi,gW⟩⟩).bind λ⟨⟨lO,lP⟩,⟨mU,mW⟩⟩=>(cu ⟨⟨dj,cY⟩,⟨sP,sQ⟩⟩).bind λ⟨⟨lQ,lS⟩,⟨mX,mY⟩⟩=>(ct ⟨lO,lP⟩).bind λjC=>(ct ⟨lQ,lS⟩).bind λeK=>cW (λ(Ft:Bool)=>(bif Ft then(some (IntKind.i64.wrap (jC-eK))).bind λjX=>(kx jX).bind λnO=>some nO else(cQ ⟨lO,lP⟩ ⟨mX,mY⟩).bind λ⟨Jq,Jr⟩=>(cQ ⟨lQ,lS⟩ ⟨mU,mW⟩).bind λ⟨kU,kV⟩=>(iW ⟨Jq,Jr⟩ ⟨kU,kV⟩).bind λqy=>some qy)) λK3=>(some (decide ((jC:Int)≠eK))).bind λkF=>(bif kF then some true else(some (decide ((jC:Int)=0))).bind λoE=>some oE).bind λJs=>K3 Js
noncomputable def hH(x0:Qr):Option (Zr):=match x0 with|⟨⟨bR,bN⟩,⟨gi,gW⟩⟩=>(cu ⟨⟨bR,bN⟩,⟨gi,gW⟩⟩).bind λ⟨⟨Jt,Ju⟩,⟨Jv,Jw⟩⟩=>(cc ⟨Jt,Ju⟩ ⟨Jv,Jw⟩).bind λ⟨⟨vb,vc⟩,⟨Mh,Mi⟩,XP⟩=>some ⟨vb,vc⟩
end
section
open Go.Fw Go.Fw.Z Go.RowKit
abbrev Fu:List (Value×Value):=[(.int .u8 43,.agg #[.func (.func 105) #[] #[]]),(.int .u8 45,.agg #[.func (.func 106) #[] #[]]),(.int .u8 42,.agg #[.func (.func 107) #[] #[]]),(.int .u8 47,.agg #[.func (.func 108) #[] #[]])]
theorem oP:Pure ah 88 [] (EG Fu):=by
 refine bL Try.func88 Y (af Y) (λgA M vs hvs=>?_);refine cm<|aZ<|RT.A8 .none Y T<|RT.done<|aV.n<|cm<|Hp (af Y) Y Y Y (λS' h0=>?_);exact bj (R1 h0)
theorem mZ{x0:Zr}{x1:Zr}{x2:Zr}{x3:Zr}(N:Nat){r:Zr×Zr}(h:eL x0 x1 x2 x3=some r):dU ah 106 N [.agg (eZ x0),.agg (eZ x1),.agg (eZ x2),.agg (eZ x3)] (.sF [.agg ((fZ N) r.1),.agg ((fZ N) r.2)]):=by
 obtain⟨bR,bN⟩:=x0;obtain⟨dj,cY⟩:=x1;obtain⟨ym,yn⟩:=x2;obtain⟨Ds,Dt⟩:=x3;refine bG Try.func106 Y (af Y) (λgA M vs hN hvs=>?_);unfold eL at h;refine sr<|bx Y<|bx Y<|bx Y<|bx Y<|al (cs:=[az false,nw N ax]) (by exact⟨au,bt,aq⟩) Y<|al (cs:=[az false,nw N ax]) (by exact⟨au,bt,aq⟩) Y<|dn<|qq<|bg mixed<|ld Y Y (.k2 Y Y)<|ld Y Y (.k2 Y Y) ?_;obtain⟨⟨kR,kS⟩,kQ,h⟩:=bS h;refine RT.bJ .none (ju N kQ) hN Y ⟨Y,Y,aq⟩ T<|ld Y Y (.k2 Y Y)<|ld Y Y (.k2 Y Y) ?_;obtain⟨⟨ko,kp⟩,q9,h⟩:=bS h;refine RT.bJ .none (ju N q9) hN Y ⟨Y,Y,aq⟩ T ?_;obtain⟨⟨n7,n8⟩,oK,h⟩:=bS h;refine RT.bJ .none ((pU N oK).w (args':=[_,_]) ⟨(SV.dM (show cX [az kR,nw N (slc 1 (List.map aX kS))] _ from⟨au,eG,aq⟩)),(SV.dM (show cX [az ko,nw N (slc 1 (List.map aX kp))] _ from⟨au,eG,aq⟩)),aq⟩) hN Y ⟨Y,Y,aq⟩ T<|ld Y Y (.k2 Y Y)<|ld Y Y (.k2 Y Y) ?_;obtain⟨⟨uS,uT⟩,qZ,h⟩:=bS h;refine RT.bJ .none (ju N qZ) hN Y ⟨Y,Y,aq⟩ T<|so Y Y Y<|so Y Y Y ?_;refine RT.done ⟨by kernel_rfl,?_⟩;refine aV.n<|bj ?_;obtain rfl:=O h;exact RZ (.agg Y Y (.k2 Y Y) Y (.agg Y Y (.k2 Y Y) Y (.nil)))
theorem gj{x0:Qr}{r:Zr×Zr}(h:cu x0=some r):Pure ah 65 [.agg (eQ x0)] (.sF [.agg (eZ r.1),.agg (eZ r.2)]):=by
 obtain⟨⟨bR,bN⟩,⟨gi,gW⟩⟩:=x0;refine bL Try.func65 Y (af Y) (λgA M vs hvs=>?_);unfold cu at h;refine sr<|bx Y<|al (cs:=[az false,ax]) (by exact⟨au,aB,aq⟩) Y<|al (cs:=[az false,ax]) (by exact⟨au,aB,aq⟩) Y<|dn<|qq<|sr<|fa Y Y<|ld Y Y (.k2 Y Y)<|bE h λx6 h6 h=>cl (eH h6) ⟨Y,aq⟩<|dn<|bn<|sr<|lE h λx8 h8 h=>eq _ Y Y (oA (p:=x6) (q:=0) h8) ?_;refine ag Y<|dn ?_;cases x8;refine cF<|sr<|lE (F h) λiv mu h=>eq _ Y Y (oA (p:=x6) (q:=(-1)) mu)<|ag Y<|dn ?_;cases iv;refine cF<|bA<|bC.n<|aV.n<|qq<|bg mixed<|fa Y Y<|ld Y Y (.k2 Y Y)<|fa Y Y<|ld Y Y (.k2 Y Y)<|so Y Y Y<|so Y Y Y ?_;refine RT.done ⟨by kernel_rfl,?_⟩;refine aV.n<|bj ?_;obtain rfl:=O (F h);exact RZ (.agg Y Y (.k2 Y Y) Y (.agg Y Y (.k2 Y Y) Y (.nil)));refine cT<|qq<|bg mixed<|fa Y Y<|ld Y Y (.k2 Y Y) ?_;obtain⟨⟨n7,n8⟩,oK,h⟩:=bS (V h);refine cl (lN oK) ⟨Y,aq⟩<|fa Y Y<|ld Y Y (.k2 Y Y) ?_;obtain⟨⟨uS,uT⟩,qZ,h⟩:=bS h;refine cl (lN qZ) ⟨Y,aq⟩<|so Y Y Y<|so Y Y Y ?_;refine RT.done ⟨by kernel_rfl,?_⟩;refine aV.n<|bj<|bC.r<|aV.r ?_;obtain rfl:=O h;exact RZ (.agg Y Y (.k2 Y Y) Y (.agg Y Y (.k2 Y Y) Y (.nil)));refine cT<|qq<|bg mixed<|fa Y Y<|ld Y Y (.k2 Y Y) ?_;obtain⟨⟨kT,zS⟩,oI,h⟩:=bS (V h);refine cl (fu oI) ⟨Y,aq⟩<|so Y Y Y<|so Y Y Y ?_
 refine RT.done ⟨by kernel_rfl,?_⟩;refine aV.n<|bj<|bC.r<|aV.r ?_;obtain rfl:=O h;exact RZ (.agg Y Y (.k2 Y Y) Y (.agg Y Y (.k2 Y Y) Y (.nil)))
theorem m7{x0:Zr}{x1:Zr}(N:Nat){r:Qr}(h:dV x0 x1=some r):dU ah 73 N [.agg (eZ x0),.agg (eZ x1)] (.agg ((fQ N) r)):=by
 obtain⟨bR,bN⟩:=x0;obtain⟨dj,cY⟩:=x1;refine bG Try.func73 Y (af Y) (λgA M vs hN hvs=>?_);unfold dV at h;refine sr<|bx Y<|bx Y<|al (cs:=[az false,nw N ax,az false,nw N ax]) (by exact⟨au,bt,au,bt,aq⟩) Y<|dn<|qq<|sr<|ld Y Y (.k2 Y Y)<|bE h λx9 h9 h=>cl (eH h9) ⟨Y,aq⟩<|lE h λgO jc h=>ls _ Y Y jc<|dn ?_;refine bD h (λj2=>AS.dm 46 [(2,.ptr 2 0),(3,.ptr 3 0),(4,.ptr 4 0)] [(4,⟨26,[aj false,.sv (nw N ax),aj false,.sv (nw N ax)]⟩),(3,⟨24,[aj j2.1,.sv (slc 1 (List.map aX j2.2.1))]⟩),(2,⟨24,[aj j2.2.2.1,.sv (slc 1 (List.map aX j2.2.2.2))]⟩)] []) (λh=>?_) (λj2 h=>?_);cases gO;exact fs<|⟨(dj,cY,bR,bN),(F h),wR []⟩;refine cT<|bg mixed<|ld Y Y (.k2 Y Y) ?_;obtain⟨⟨kR,kS⟩,kQ,h⟩:=bS (V h);refine RT.bJ .none (lM N kQ) hN Y ⟨Y,aq⟩ T<|ld Y Y (.k2 Y Y) ?_;obtain⟨⟨Fk,Fl⟩,r7,h⟩:=bS h;refine RT.bJ .none (lM N r7) hN Y ⟨Y,aq⟩ T<|so Y Y Y<|so Y Y Y ?_;refine RT.done ⟨by kernel_rfl,?_⟩;exact aV.n<|⟨(Fk,Fl,kR,kS),h,fS id Y Y Y Y Y ⟨.ptr,.ptr,.ptr,aq⟩ ⟨⟨_,Y,⟨.sv au,.sv au,.sv au,.sv au,aq⟩⟩,⟨_,Y,⟨.sv au,.sv eG,aq⟩⟩,⟨_,Y,⟨.sv au,.sv eG,aq⟩⟩,aq⟩ trivial (λ_ _=>Y)⟩;obtain⟨Bw,Bx,By,Bz⟩:=j2
 try dsimp only
 refine aV.n<|sr<|ld Y Y (.k2 Y Y)<|ld Y Y (.k2 Y Y) ?_;obtain⟨⟨kq,ku⟩,mw,h⟩:=bS h;refine RT.bJ .none (yj N mw) hN Y ⟨Y,Y,aq⟩ T<|al (cs:=[az false,nw N ax]) (by exact⟨au,bt,aq⟩) Y<|so Y Y Y<|dn<|sr<|ld Y Y (.k2 Y Y)<|ld Y Y (.k2 Y Y) ?_;obtain⟨⟨⟨uU,uV⟩,⟨LZ,L0⟩,XJ⟩,pN,h⟩:=bS h;refine RT.bJ .none ((jg N pN).w (args':=[_,_]) ⟨au,(SV.dM (show cX [az kq,nw N (slc 1 (List.map aX ku))] _ from⟨au,eG,aq⟩)),aq⟩) hN Y ⟨Y,Y,aq⟩ T<|mv Y<|ex Y Y<|ex Y Y<|ex Y Y<|so Y Y Y<|dn<|sr<|ld Y Y (.k2 Y Y)<|ld Y Y (.k2 Y Y) ?_;obtain⟨⟨⟨rm,rq⟩,⟨L1,L2⟩,XK⟩,uR,h⟩:=bS h;refine RT.bJ .none ((jg N uR).w (args':=[_,_]) ⟨au,(SV.dM (show cX [az kq,nw N (slc 1 (List.map aX ku))] _ from⟨au,eG,aq⟩)),aq⟩) hN Y ⟨Y,Y,aq⟩ T<|mv Y<|ex Y Y<|ex Y Y<|ex Y Y<|so Y Y Y<|dn<|qq<|sr<|ld Y Y (.k2 Y Y) ?_;obtain⟨⟨L3,L4⟩,oL,h⟩:=bS h;refine cl ((ec oL).w (args':=[_]) ⟨(SV.dM (show cX [az rm,nw N (slc 1 (List.map aX rq))] _ from⟨au,eG,aq⟩)),aq⟩) ⟨Y,aq⟩<|mv Y<|ex Y Y<|ex Y Y<|ag Y<|ag Y<|dn<|qq ?_
 refine bD h (λj5=>AS.dm 46 [(2,.ptr 2 0),(3,.ptr 3 0),(4,.ptr 4 0),(41,aj j5)] [(4,⟨26,[aj false,.sv (nw N ax),aj false,.sv (nw N ax)]⟩),(3,⟨24,[aj rm,.sv (nw N (slc 1 (List.map aX rq)))]⟩),(2,⟨24,[aj uU,.sv (nw N (slc 1 (List.map aX uV)))]⟩)] []) (λh=>?_) (λFj h=>?_);refine aZ<|mv Y<|mv Y<|bE h λJk HI h=>?_;cases L4;obtain rfl:=O (F HI);exact ww<|ww<|pF Y<|dn<|⟨false,h,wR []⟩;refine gm Y<|lE (V HI) λnF r8 HI=>Cd _ Y Y (oA (p:=L3) (q:=1) r8) ?_;obtain rfl:=O HI;exact pT Y<|dn<|⟨nF,h,wR []⟩
 try dsimp only
 refine aV.n ?_;refine bD h (λj7=>AS.dm 46 [(2,.ptr 2 0),(3,.ptr 3 0),(4,.ptr 4 0)] [(4,⟨26,[aj false,.sv (nw N ax),aj false,.sv (nw N ax)]⟩),(3,⟨24,[aj j7.1,.sv (nw N (slc 1 (List.map aX j7.2)))]⟩),(2,⟨24,[aj uU,.sv (nw N (slc 1 (List.map aX uV)))]⟩)] []) (λh=>?_) (λj7 h=>?_);cases Fj;exact fs<|⟨(rm,rq),(F h),wR []⟩;exact cT<|aZ<|bI (cs:=[_,_]) (cs':=[az false,nw N ax]) (.nil) ⟨au,bt,aq⟩<|so Y Y Y<|dn<|⟨(false,[]),(V h),wR []⟩;obtain⟨BA,BB⟩:=j7
 try dsimp only
 refine aV.n<|sr<|ld Y Y (.k2 Y Y)<|ld Y Y (.k2 Y Y)<|bI (cs:=[_,_,_,_]) (cs':=[az uU,nw N (slc 1 (List.map aX uV)),az BA,nw N (slc 1 (List.map aX BB))]) (.agg Y (.agg Y (.nil))) ⟨au,au,au,au,aq⟩<|so Y Y Y<|dn<|bj ?_;obtain rfl:=O h;exact RZ (.agg Y Y (.k4 Y Y Y Y) Y (.nil))
theorem oe{x0:Qr}{r:Int×Int×Bool}(h:eA x0=some r):Pure ah 61 [.agg (eQ x0)] (.sF [ay r.1,ay r.2.1,az r.2.2]):=by
 obtain⟨⟨bR,bN⟩,⟨gi,gW⟩⟩:=x0;refine bL Try.func61 Y (af Y) (λgA M vs hvs=>?_);unfold eA at h;refine sr<|bx Y<|ag Y<|ag Y<|ag Y<|dn<|sr<|fa Y Y<|ld Y Y (.k2 Y Y) ?_;obtain⟨⟨yo,HB⟩,jc,h⟩:=bS h;refine cl (ec jc) ⟨Y,aq⟩<|mv Y<|ex Y Y<|ex Y Y<|ag Y<|ag Y<|dn<|sr<|fa Y Y<|ld Y Y (.k2 Y Y) ?_;obtain⟨⟨wm,O9⟩,oK,h⟩:=bS h;refine cl (ec oK) ⟨Y,aq⟩<|mv Y<|ex Y Y<|ex Y Y<|ag Y<|ag Y<|dn<|qq<|qq ?_;refine bD h (λj21=>AS.dm 53 [(2,ai yo),(3,ai wm),(40,aj j21)] [] []) (λh=>?_) (λBC h=>?_);refine aZ<|mv Y<|lE h λiT nP h=>nt Y _ nP<|mv Y<|bE h λFp HJ h=>?_;cases iT;refine gm Y<|lE (F HJ) λjd oJ HJ=>VV Y _ oJ ?_;obtain rfl:=O HJ;refine pF Y<|mv Y<|bE h λXQ HK h=>?_;cases jd;refine gm Y<|lE (F HK) λkF r9 HK=>RT.leq (.some Y Y) _ Y Y T r9 ?_;obtain rfl:=O HK;refine pF Y<|mv Y<|bE h λXR HL h=>?_;cases kF;refine gm Y<|lE (F HL) λnN yV HL=>RT.geq (.some Y Y) _ Y Y T yV ?_;obtain rfl:=O HL;refine pF Y<|mv Y<|bE h λXS HM h=>?_;cases nN;refine gm Y<|lE (F HM) λnO zO HM=>RT.leq (.some Y Y) _ Y Y T zO ?_;obtain rfl:=O HM;refine pF Y<|mv Y<|bE h λXT HN h=>?_;cases nO;refine gm Y<|lE (F HN) λqz Dr HN=>RT.geq (.some Y Y) _ Y Y T Dr ?_;obtain rfl:=O HN;exact pF Y<|dn<|⟨qz,h,wR []⟩;obtain rfl:=O (V HN)
 exact ww<|ww<|pT Y<|dn<|⟨true,h,wR []⟩;obtain rfl:=O (V HM);refine ww<|ww<|pT Y<|mv Y<|bE h λXU XV h=>?_;obtain rfl:=O (V XV);exact ww<|ww<|pT Y<|dn<|⟨true,h,wR []⟩;obtain rfl:=O (V HL);refine ww<|ww<|pT Y<|mv Y<|bE h λXW XX h=>?_;obtain rfl:=O (V XX);refine ww<|ww<|pT Y<|mv Y<|bE h λXY XZ h=>?_;obtain rfl:=O (V XZ);exact ww<|ww<|pT Y<|dn<|⟨true,h,wR []⟩;obtain rfl:=O (V HK);refine ww<|ww<|pT Y<|mv Y<|bE h λX0 X1 h=>?_;obtain rfl:=O (V X1);refine ww<|ww<|pT Y<|mv Y<|bE h λX2 X3 h=>?_;obtain rfl:=O (V X3);refine ww<|ww<|pT Y<|mv Y<|bE h λX4 X5 h=>?_;obtain rfl:=O (V X5);exact ww<|ww<|pT Y<|dn<|⟨true,h,wR []⟩;obtain rfl:=O (V HJ);refine ww<|ww<|pT Y<|mv Y<|bE h λX6 X7 h=>?_;obtain rfl:=O (V X7);refine ww<|ww<|pT Y<|mv Y<|bE h λX8 X9 h=>?_;obtain rfl:=O (V X9);refine ww<|ww<|pT Y<|mv Y<|bE h λYa Yb h=>?_;obtain rfl:=O (V Yb);refine ww<|ww<|pT Y<|mv Y<|bE h λYc wo h=>?_;obtain rfl:=O (V wo);exact ww<|ww<|pT Y<|dn<|⟨true,h,wR []⟩
 try dsimp only
 refine aV.n ?_;cases BC;refine fs<|qq<|bn<|sr<|mv Y<|lE (F h) λyS GH h=>eq _ Y Y (oA (p:=wm) (q:=0) GH)<|ag Y<|dn ?_;refine bD h (λNu=>AS.dm 53 [(2,ai Nu.1),(3,ai Nu.2)] [] []) (λh=>?_) (λNu h=>?_);cases yS;refine cF<|sr<|mv Y<|lE (F h) λqV h46 h=>ls _ Y Y h46<|ag Y<|dn ?_;refine bD h (λNv=>AS.dm 53 [(2,ai Nv.1),(3,ai Nv.2)] [] []) (λh=>?_) (λNv h=>?_);cases qV;exact fs<|⟨(yo,wm),(F h),wR []⟩;exact cT<|aZ<|mv Y<|lE (V h) λvP h48 h=>RT.neg .none _ Y T h48<|mv Y<|lE h λtC Dm h=>RT.neg .none _ Y T Dm<|ag Y<|ag Y<|dn<|⟨(vP,tC),h,wR []⟩;obtain⟨Fm,Fo⟩:=Nv
 try dsimp only
 exact aV.n<|⟨(Fm,Fo),h,wR []⟩;exact cT<|aZ<|ag Y<|dn<|⟨(yo,1),(V h),wR []⟩;obtain⟨Jl,Jm⟩:=Nu
 try dsimp only
 refine bC.n<|aV.n<|sr<|mv Y<|mv Y<|ag Y<|ag Y<|ag Y<|dn<|bj ?_;obtain rfl:=O h;exact RZ (.tmp Y (.tmp Y (.tmp Y (.nil))));refine cT<|sr<|ag Y<|ag Y<|ag Y<|dn<|bj<|aV.r ?_;obtain rfl:=O (V h);exact RZ (.tmp Y (.tmp Y (.tmp Y (.nil))))
theorem wv{x0:Int}{x1:Int}(N:Nat){r:Qr}(h:ga x0 x1=some r):dU ah 62 N [ay x0,ay x1] (.agg ((fQ N) r)):=by
 refine bG Try.func62 Y (af Y) (λgA M vs hN hvs=>?_);unfold ga at h;refine sr<|al (cs:=[az false,nw N ax,az false,nw N ax]) (by exact⟨au,bt,au,bt,aq⟩) Y<|dn<|sr<|mv Y<|mv Y<|ag Y<|ag Y<|dn<|qq<|bE h λe6 Wq pO=>?_;refine bX (λ(yp:Int)=>AS.dm 36 [(0,ai x0),(1,ai x1),(4,.ptr 4 0),(5,ai yp)] [(4,⟨26,[aj false,.sv (nw N ax),aj false,.sv (nw N ax)]⟩)] []) (λyp=>yp=e6) ?_ (λyp Ws=>?_);refine bn ?_;refine bY Wq (λs6=>AS.dm 36 [(0,ai x0),(1,ai x1),(4,.ptr 4 0),(5,ai s6.1),(6,ai s6.2)] [(4,⟨26,[aj false,.sv (nw N ax),aj false,.sv (nw N ax)]⟩)] []) (wR []) (λs6 y6 G6 h Wt OX=>?_);obtain⟨sM,Du⟩:=s6
 try dsimp only
 refine qq<|sr<|mv Y<|lE h λgO jc h=>ne _ Y Y (Nl (p:=Du) (q:=0) jc)<|dn ?_;cases gO;refine cF<|cq<|aV.x<|aV.x<|bC.x<|aV.n ?_;obtain rfl:=O (F h);exact⟨sM,OX _ Y,wR []⟩;refine cT<|bA<|aV.n<|bn<|bg mixed<|mv Y<|mv Y<|mv Y<|bE (V h) λkK r7 h=>RT.rem .none _ Y Y T (VE r7) (VF r7)<|ag Y<|ag Y ?_;refine RT.done ⟨by kernel_rfl,?_⟩;refine bC.n ?_;obtain rfl:=O h;exact aV.n ⟨(Du,kK),Wt _ Y,wR []⟩;subst Ws
 try dsimp only
 refine aV.n<|qq<|sr<|mv Y<|lE pO λjD oK pO=>ls _ Y Y oK<|dn ?_;refine bD pO (λj8=>AS.dm 36 [(0,ai x0),(1,ai x1),(4,.ptr 4 0),(5,ai j8)] [(4,⟨26,[aj false,.sv (nw N ax),aj false,.sv (nw N ax)]⟩)] []) (λpO=>?_) (λDv pO=>?_);cases jD;exact fs<|⟨yp,(F pO),wR []⟩;exact cT<|aZ<|mv Y<|lE (V pO) λfN jY pO=>RT.neg .none _ Y T jY<|ag Y<|dn<|⟨fN,pO,wR []⟩
 try dsimp only
 refine aV.n<|qq<|sr<|mv Y<|mv Y<|lE pO λiU pN pO=>eq _ Y Y (oA (p:=Dv) (q:=x1) pN)<|dn ?_;cases iU;refine fs<|qq<|bg mixed<|mv Y<|mv Y<|bE (F pO) λgz me pO=>RT.quo .none _ Y Y T (VD me) (Lh me) ?_;obtain⟨⟨wZ,w5⟩,yf,pO⟩:=bS pO;refine RT.bJ .none (cA N yf) hN Y ⟨Y,aq⟩ T<|mv Y<|mv Y<|bE pO λn6 tG pO=>RT.quo .none _ Y Y T (VD tG) (Lh tG) ?_;obtain⟨⟨w9,sg⟩,oL,pO⟩:=bS pO;refine RT.bJ .none (cA N oL) hN Y ⟨Y,aq⟩ T<|bI (cs:=[_,_,_,_]) (cs':=[az wZ,nw N (slc 1 (List.map aX w5)),az w9,nw N (slc 1 (List.map aX sg))]) (.agg Y (.agg Y (.nil))) ⟨au,au,au,au,aq⟩<|so Y Y Y ?_;refine RT.done ⟨by kernel_rfl,?_⟩;refine aV.n<|bj ?_;obtain rfl:=O pO;exact RZ (.agg Y Y (.k4 Y Y Y Y) Y (.nil));refine cT<|sr<|mv Y<|mv Y<|bE (V pO) λeK nI pO=>RT.quo .none _ Y Y T (VD nI) (Lh nI) ?_;obtain⟨⟨wX,wY⟩,zN,pO⟩:=bS pO;refine RT.bJ .none (cA N zN) hN Y ⟨Y,aq⟩ T<|bI (cs:=[_,_,_,_]) (cs':=[az wX,nw N (slc 1 (List.map aX wY)),az false,nw N ax]) (.agg Y (.nil)) ⟨au,au,au,bt,aq⟩<|so Y Y Y<|dn<|bj<|aV.r ?_;obtain rfl:=O pO;exact RZ (.agg Y Y (.k4 Y Y Y Y) Y (.nil))
theorem yq{x0:Int}{r:Int}(h:kx x0=some r):Pure ah 66 [ay x0] (ay r):=by
 refine bL Try.func66 Y (af Y) (λgA M vs hvs=>?_);unfold kx at h;refine sr<|ag Y<|dn<|qq<|bn<|sr<|mv Y<|lE h λx5 h5 h=>ls _ Y Y h5<|ag Y<|dn ?_;cases x5;refine cF<|sr<|mv Y<|lE (F h) λx8 h8 h=>gt _ Y Y h8<|ag Y<|dn ?_;cases x8;refine cF<|bA<|bC.n<|aV.n<|sr<|ag Y<|dn<|bj ?_;obtain rfl:=O (F h);exact R1 Y;refine cT<|sr<|ag Y<|dn<|bj<|bC.r<|aV.r ?_;obtain rfl:=O (V h);exact R1 Y;refine cT<|sr<|ag Y<|dn<|bj<|bC.r<|aV.r ?_;obtain rfl:=O (V h);exact R1 Y
theorem ve{x0:Zr}(N:Nat){r:Zr}(h:iN x0=some r):dU ah 64 N [.agg (eZ x0)] (.agg ((fZ N) r)):=by
 obtain⟨bR,bN⟩:=x0;refine bG Try.func64 Y (af Y) (λgA M vs hN hvs=>?_);unfold iN at h;refine sr<|bx Y<|al (cs:=[az false,nw N ax]) (by exact⟨au,bt,aq⟩) Y<|dn<|sr<|ld Y Y (.k2 Y Y)<|bI (cs:=[_,_]) (cs':=[az false,nw N ax]) (.nil) ⟨au,bt,aq⟩ ?_;obtain⟨⟨HC,HD⟩,h5,h⟩:=bS h;refine RT.bJ .none ((pS N h5).w (args':=[_,_]) ⟨au,(SV.dM (show cX [az false,nw N ax] _ from⟨au,eG,aq⟩)),aq⟩) hN Y ⟨Y,Y,aq⟩ T<|so Y Y Y<|dn<|bj ?_;obtain rfl:=O h;exact RZ (.agg Y Y (.k2 Y Y) Y (.nil))
theorem sS{x1:Qr}{x2:Qr}(N:Nat){r:Qr}(h:fX x1 x2=some r):dU ah 63 N [.v (.int .u8 ((45:Nat):Int)),.agg (eQ x1),.agg (eQ x2)] (.agg ((fQ N) r)):=by
 obtain⟨⟨dj,cY⟩,⟨sP,sQ⟩⟩:=x1;obtain⟨⟨ym,yn⟩,⟨HE,HF⟩⟩:=x2;refine bG Try.func63 Y (af Y) (λgA M vs hN hvs=>?_);unfold fX at h;refine sr<|bx Y<|bx Y<|al (cs:=[az false,nw N ax,az false,nw N ax]) (by exact⟨au,bt,au,bt,aq⟩) Y<|dn<|sr<|ld Y Y (.k4 Y Y Y Y) ?_;obtain⟨⟨⟨lO,lP⟩,⟨mU,mW⟩⟩,mu,h⟩:=bS h;refine cl (gj mu) ⟨Y,aq⟩<|mv Y<|ex Y Y<|ex Y Y<|al (cs:=[az false,nw N ax]) (by exact⟨au,bt,aq⟩) Y<|al (cs:=[az false,nw N ax]) (by exact⟨au,bt,aq⟩) Y<|so Y Y Y<|so Y Y Y<|dn<|sr<|ld Y Y (.k4 Y Y Y Y) ?_;obtain⟨⟨⟨lQ,lS⟩,⟨mX,mY⟩⟩,jY,h⟩:=bS h;refine cl (gj jY) ⟨Y,aq⟩<|mv Y<|ex Y Y<|ex Y Y<|al (cs:=[az false,nw N ax]) (by exact⟨au,bt,aq⟩) Y<|al (cs:=[az false,nw N ax]) (by exact⟨au,bt,aq⟩) Y<|so Y Y Y<|so Y Y Y<|dn<|qq<|bg mixed<|cl oP trivial<|mv Y ?_;refine RT.look .none [.func (.func 106) #[] #[]] Y Y Y T<|fl Y Y<|ld Y Y (.k2 Y Y)<|ld Y Y (.k2 Y Y)<|ld Y Y (.k2 Y Y)<|ld Y Y (.k2 Y Y) ?_;obtain⟨⟨⟨uW,uX⟩,⟨uY,uZ⟩⟩,me,h⟩:=bS h;refine RT.bJ .none (mZ N me) hN Y ⟨Y,Y,Y,Y,aq⟩ T<|ex Y Y<|ex Y Y ?_;obtain⟨⟨⟨jG,iV⟩,⟨pW,pX⟩⟩,n9,h⟩:=bS h
 refine RT.bJ .none ((m7 N n9).w (args':=[_,_]) ⟨(SV.dM (show cX [az uW,nw N (slc 1 (List.map aX uX))] _ from⟨au,eG,aq⟩)),(SV.dM (show cX [az uY,nw N (slc 1 (List.map aX uZ))] _ from⟨au,eG,aq⟩)),aq⟩) hN Y ⟨Y,Y,aq⟩ T<|so Y Y Y ?_;refine RT.done ⟨by kernel_rfl,?_⟩;refine aV.n<|bj ?_;obtain rfl:=O h;exact RZ (.agg Y Y (.k4 Y Y Y Y) Y (.nil))
end
section
open Go.Fw Go.Fw.Z Go.RowKit
theorem zW{x0:Int}{x1:Int}(N:Nat){r:Qr×Int}(h:gI x0 x1=some r):dU ah 40 N [ay x0,ay x1] (.sF [.agg ((fQ N) r.1),ay r.2]):=by
 refine bG Try.func40 Y (af Y) (λgA M vs hN hvs=>?_);unfold gI at h;refine sr<|al (cs:=[az false,nw N ax,az false,nw N ax]) (by exact⟨au,bt,au,bt,aq⟩) Y<|ag Y<|dn<|qq<|sr<|mv Y<|lE h λx7 h7 h=>eq _ Y Y (oA (p:=x1) (q:=0) h7)<|dn ?_;cases x7;refine fs<|sr<|mv Y ?_;obtain⟨⟨w6,w7⟩,jc,h⟩:=bS (F h);refine RT.bJ .none (cA N jc) hN Y ⟨Y,aq⟩ T<|mv Y ?_;obtain⟨⟨kR,kS⟩,kQ,h⟩:=bS h;refine RT.bJ .none (cA N kQ) hN Y ⟨Y,aq⟩ T ?_;obtain⟨⟨⟨mO,rZ⟩,⟨Jn,Jo⟩⟩,mu,h⟩:=bS h;refine RT.bJ .none ((m7 N mu).w (args':=[_,_]) ⟨(SV.dM (show cX [az w6,nw N (slc 1 (List.map aX w7))] _ from⟨au,eG,aq⟩)),(SV.dM (show cX [az kR,nw N (slc 1 (List.map aX kS))] _ from⟨au,eG,aq⟩)),aq⟩) hN Y ⟨Y,Y,aq⟩ T<|so Y Y Y<|ag Y<|dn<|bj ?_;obtain rfl:=O h;exact RZ (.agg Y Y (.k4 Y Y Y Y) Y (.tmp Y (.nil)));refine cT<|sr<|bI (cs:=[_,_,_,_]) (cs':=[az false,nw N ax,az false,nw N ax]) (.nil) ⟨au,bt,au,bt,aq⟩<|so Y Y Y<|ag Y<|dn<|bj<|aV.r ?_;obtain rfl:=O (V h);exact RZ (.agg Y Y (.k4 Y Y Y Y) Y (.tmp Y (.nil)))
theorem sj{x0:Int}{x1:Int}{r:Qr×Int}(h:gI x0 x1=some r):Pure ah 40 [ay x0,ay x1] (.sF [.agg (eQ r.1),ay r.2]):=fk (λN=>zW N h) (λN=>(SV.BZ ⟨(SV.dM (qI _ _)),au,aq⟩))
theorem nS{x0:Zr}(N:Nat){r:Qr}(h:cO x0=some r):dU ah 32 N [.agg (eZ x0)] (.agg ((fQ N) r)):=by
 obtain⟨bR,bN⟩:=x0;refine bG Try.func32 Y (af Y) (λgA M vs hN hvs=>?_);unfold cO at h;refine sr<|bx Y<|al (cs:=[az false,nw N ax,az false,nw N ax]) (by exact⟨au,bt,au,bt,aq⟩) Y<|dn<|sr<|ld Y Y (.k2 Y Y) ?_;obtain⟨⟨Dw,Dx⟩,h4,h⟩:=bS h;refine RT.bJ .none (ve N h4) hN Y ⟨Y,aq⟩ T<|bI (cs:=[_,_,_,_]) (cs':=[az Dw,nw N (slc 1 (List.map aX Dx)),az false,nw N ax]) (.agg Y (.nil)) ⟨au,au,au,bt,aq⟩<|so Y Y Y<|dn<|bj ?_;obtain rfl:=O h;exact RZ (.agg Y Y (.k4 Y Y Y Y) Y (.nil))
theorem nT{x0:Zr}{r:Qr}(h:cO x0=some r):Pure ah 32 [.agg (eZ x0)] (.agg (eQ r)):=fk (λN=>nS N h) (λN=>(SV.dM (qI _ _)))
theorem zX{x0:Qr}{x1:Qr}(N:Nat){r:Qr}(h:iF x0 x1=some r):dU ah 31 N [.agg (eQ x0),.agg (eQ x1)] (.agg ((fQ N) r)):=by
 obtain⟨⟨bR,bN⟩,⟨gi,gW⟩⟩:=x0;obtain⟨⟨dj,cY⟩,⟨sP,sQ⟩⟩:=x1;refine bG Try.func31 Y (af Y) (λgA M vs hN hvs=>?_);unfold iF at h;refine sr<|bx Y<|bx Y<|al (cs:=[az false,nw N ax,az false,nw N ax]) (by exact⟨au,bt,au,bt,aq⟩) Y<|dn<|sr<|ld Y Y (.k4 Y Y Y Y) ?_;obtain⟨⟨Md,HG,Me⟩,mu,h⟩:=bS h;refine cl (oe mu) ⟨Y,aq⟩<|mv Y<|ex Y Y<|ex Y Y<|ex Y Y<|ag Y<|ag Y<|ag Y<|dn<|sr<|ld Y Y (.k4 Y Y Y Y) ?_;obtain⟨⟨Mf,HH,Mg⟩,qZ,h⟩:=bS h;refine cl (oe qZ) ⟨Y,aq⟩<|mv Y<|ex Y Y<|ex Y Y<|ex Y Y<|ag Y<|ag Y<|ag Y<|dn<|qq<|qq ?_;refine bD h (λj3=>AS.dm 41 [(2,.ptr 2 0),(3,.ptr 3 0),(4,.ptr 4 0),(5,ai Md),(6,ai HG),(8,ai Mf),(9,ai HH),(26,aj j3)] [(4,⟨26,[aj false,.sv (nw N ax),aj false,.sv (nw N ax)]⟩),(3,⟨26,[aj dj,.sv (slc 1 (List.map aX cY)),aj sP,.sv (slc 1 (List.map aX sQ))]⟩),(2,⟨26,[aj bR,.sv (slc 1 (List.map aX bN)),aj gi,.sv (slc 1 (List.map aX gW))]⟩)] []) (λh=>?_) (λFs h=>?_);refine aZ<|mv Y<|mv Y<|bE h λJp qB h=>?_;cases Me;obtain rfl:=O (F qB);exact ww<|pF Y<|dn<|⟨false,h,wR []⟩;refine gm Y ?_;obtain rfl:=O (V qB);exact pT Y<|dn<|⟨Mg,h,wR []⟩
 try dsimp only
 refine aV.n ?_;cases Fs;refine fs<|sr<|ld Y Y (.k4 Y Y Y Y)<|ld Y Y (.k4 Y Y Y Y) ?_;obtain⟨⟨⟨l9,mc⟩,⟨zU,zV⟩⟩,r8,h⟩:=bS (F h);refine RT.bJ .none (sS N r8) hN Y ⟨Y,Y,Y,aq⟩ T<|so Y Y Y<|dn<|bj ?_;obtain rfl:=O h;exact RZ (.agg Y Y (.k4 Y Y Y Y) Y (.nil));refine cT<|sr<|mv Y<|mv Y<|lE (V h) λgz me h=>RT.mul .none _ Y Y T me<|mv Y<|mv Y<|lE h λjE n9 h=>RT.mul .none _ Y Y T n9<|lE h λn6 tG h=>sb _ Y Y tG<|mv Y<|mv Y<|lE h λyU zR h=>RT.mul .none _ Y Y T zR ?_;obtain⟨⟨⟨oa,oc⟩,⟨zT,Ci⟩⟩,zQ,h⟩:=bS h;refine RT.bJ .none (wv N zQ) hN Y ⟨Y,Y,aq⟩ T<|so Y Y Y<|dn<|bj<|aV.r ?_;obtain rfl:=O h;exact RZ (.agg Y Y (.k4 Y Y Y Y) Y (.nil))
theorem zY{x0:Qr}{x1:Qr}{r:Qr}(h:iF x0 x1=some r):Pure ah 31 [.agg (eQ x0),.agg (eQ x1)] (.agg (eQ r)):=fk (λN=>zX N h) (λN=>(SV.dM (qI _ _)))
theorem zZ{x0:Qr}{x1:Qr}{r:Int}(h:iG x0 x1=some r):Pure ah 33 [.agg (eQ x0),.agg (eQ x1)] (ay r):=by
 obtain⟨⟨bR,bN⟩,⟨gi,gW⟩⟩:=x0;obtain⟨⟨dj,cY⟩,⟨sP,sQ⟩⟩:=x1;refine bL Try.func33 Y (af Y) (λgA M vs hvs=>?_);unfold iG at h;refine sr<|bx Y<|bx Y<|ag Y<|dn<|sr<|ld Y Y (.k4 Y Y Y Y) ?_;obtain⟨⟨⟨lO,lP⟩,⟨mU,mW⟩⟩,mu,h⟩:=bS h;refine cl (gj mu) ⟨Y,aq⟩<|mv Y<|ex Y Y<|ex Y Y<|al (cs:=[az false,ax]) (by exact⟨au,aB,aq⟩) Y<|al (cs:=[az false,ax]) (by exact⟨au,aB,aq⟩) Y<|so Y Y Y<|so Y Y Y<|dn<|sr<|ld Y Y (.k4 Y Y Y Y) ?_;obtain⟨⟨⟨lQ,lS⟩,⟨mX,mY⟩⟩,jY,h⟩:=bS h;refine cl (gj jY) ⟨Y,aq⟩<|mv Y<|ex Y Y<|ex Y Y<|al (cs:=[az false,ax]) (by exact⟨au,aB,aq⟩) Y<|al (cs:=[az false,ax]) (by exact⟨au,aB,aq⟩) Y<|so Y Y Y<|so Y Y Y<|dn<|qq<|qq<|bg mixed<|ld Y Y (.k2 Y Y)<|bE h λjC sO h=>?_;refine cl (eH sO) ⟨Y,aq⟩<|ld Y Y (.k2 Y Y)<|bE h λeK nI h=>cl (eH nI) ⟨Y,aq⟩<|ag Y<|ag Y ?_;refine RT.done ⟨by kernel_rfl,?_⟩;refine aV.n<|qq ?_;refine bD h (λj3=>AS.dm 43 [(5,.ptr 5 0),(6,.ptr 6 0),(7,.ptr 7 0),(8,.ptr 8 0),(9,ai jC),(10,ai eK),(31,aj j3)] [(8,⟨24,[aj mX,.sv (slc 1 (List.map aX mY))]⟩),(7,⟨24,[aj lQ,.sv (slc 1 (List.map aX lS))]⟩),(6,⟨24,[aj mU,.sv (slc 1 (List.map aX mW))]⟩),(5,⟨24,[aj lO,.sv (slc 1 (List.map aX lP))]⟩)] []) (λh=>?_) (λFt h=>?_)
 refine aZ<|mv Y<|mv Y<|lE h λkF r9 h=>ne _ Y Y (Nl (p:=jC) (q:=eK) r9)<|mv Y<|bE h λJs qB h=>?_;cases kF;refine gm Y<|lE (F qB) λoE yf qB=>Cd _ Y Y (oA (p:=jC) (q:=0) yf) ?_;obtain rfl:=O qB;exact pF Y<|dn<|⟨oE,h,wR []⟩;obtain rfl:=O (V qB);exact ww<|ww<|pT Y<|dn<|⟨true,h,wR []⟩
 try dsimp only
 refine aV.n ?_;cases Ft;refine fs<|qq<|bg mixed<|ld Y Y (.k2 Y Y)<|ld Y Y (.k2 Y Y) ?_;obtain⟨⟨Jq,Jr⟩,Dj,h⟩:=bS (F h);refine cl (pV Dj) ⟨Y,Y,aq⟩<|ld Y Y (.k2 Y Y)<|ld Y Y (.k2 Y Y) ?_;obtain⟨⟨kU,kV⟩,Bv,h⟩:=bS h;refine cl (pV Bv) ⟨Y,Y,aq⟩<|bE h λqy zP h=>cl (yh zP) ⟨Y,Y,aq⟩<|ag Y ?_;refine RT.done ⟨by kernel_rfl,?_⟩;refine aV.n<|bj ?_;obtain rfl:=O h;exact R1 Y;refine cT<|sr<|mv Y<|mv Y<|lE (V h) λjX oL h=>sb _ Y Y oL<|bE h λnO zO h=>cl (yq zO) ⟨Y,aq⟩<|ag Y<|dn<|bj<|aV.r ?_;obtain rfl:=O h;exact R1 Y
theorem wz{x0:Qr}{r:Zr}(h:hH x0=some r):Pure ah 41 [.agg (eQ x0)] (.agg (eZ r)):=by
 obtain⟨⟨bR,bN⟩,⟨gi,gW⟩⟩:=x0;refine bL Try.func41 Y (af Y) (λgA M vs hvs=>?_);unfold hH at h;refine sr<|bx Y<|al (cs:=[az false,ax]) (by exact⟨au,aB,aq⟩) Y<|dn<|sr<|ld Y Y (.k4 Y Y Y Y) ?_;obtain⟨⟨⟨Jt,Ju⟩,⟨Jv,Jw⟩⟩,h8,h⟩:=bS h;refine cl (gj h8) ⟨Y,aq⟩<|ex Y Y<|ex Y Y ?_;obtain⟨⟨⟨vb,vc⟩,⟨Mh,Mi⟩,XP⟩,oI,h⟩:=bS h;refine cl (mg oI) ⟨Y,Y,aq⟩<|mv Y<|ex Y Y<|ex Y Y<|ex Y Y<|al (cs:=[az false,ax]) (by exact⟨au,aB,aq⟩) Y<|al (cs:=[az false,ax]) (by exact⟨au,aB,aq⟩) Y<|so Y Y Y<|so Y Y Y<|ag Y<|dn<|sr<|ld Y Y (.k2 Y Y) ?_;refine so Y Y Y<|dn<|bj ?_;obtain rfl:=O h;exact RZ (.agg Y Y (.k2 Y Y) Y (.nil))
end
end Go.Proofs.Ytmiflmkdaeianaa
