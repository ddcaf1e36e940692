/- A part of the proof: the framework, the plain functions, the followed functions, the plain laws. -/
import Derived.Test.YtmiflmkdaeianaaPSI1
set_option linter.unusedVariables false
set_option linter.unusedSimpArgs false
set_option linter.unusedSectionVars false
namespace Go.Fw
section
open Go.RowKit
inductive Src (S:AS) (E0:TypeId) (n:Nat):Operand->List (Nat×ir)->List Nat->Nat->List SV->Prop
 |nil {x:Operand} (h:S.ev x=.sv (.v (.slice none 0 0))):Src S E0 n x [] [] 0 []
 |row {x:Operand} {i m:Nat} {cs:List SV} (h:S.ev x=.row i) (hR:S.r i=.live ⟨E0,n,m,cs⟩):Src S E0 n x [(i,.dead)] [i] m cs
theorem F7{i:Nat}{X:SV}{x:AV}(h:¬x.mr i):x.jQ i X=x:=by
 cases x with
 |row k=>simp only[AV.jQ];rw[cG (λe=>h e.symm)];rfl
 |fB k o=>simp only[AV.jQ];rw[cG (λe=>h e.symm)];rfl
 |jO k o l=>simp only[AV.jQ];rw[cG (λe=>h e.symm)];rfl
 |cmp t js=>
  simp only[AV.jQ];have:js.any (Fc.tv i)=false:=by
   cases e:js.any (Fc.tv i)with
   |false=>rfl
   |true=>
    obtain⟨c,hc,hi⟩:=List.any_eq_true.1 e;cases c with
    |row j=>have hi:Nat.beq j i=true:=hi;obtain rfl:=Nat.eq_of_beq_eq_true hi;exact absurd hc h
    |_=>cases hi
  rw[this];rfl
 |_=>rfl
section steps
variable {P:Program}{C:Ctx}{ops:Array Oper}{S:AS}{nd:Bool}{K:List Ac->AS->Prop}{rest:List Oper}{acc:List Ac}
variable {gd:Option (Nat×Bool)}{rg:List Nat}{d:Nat}{ty:TypeId}{pos:String}{aft:Array Edge}{x y z:Operand}{T U E0:TypeId}
theorem Src.val{E:Env}{a:Act}{w:World}{S':AS}{n m:Nat}{old:List (Nat×ir)}{rr:List Nat}{cs:List SV}(h:aY C S' E a w)(hx:Src S E0 n x old rr m cs)(ht:∀s∈aW x,S'.t s=S.t s)(hr:∀i∈rr,S'.r i=S.r i):
  (∃vs,w.ownsRow 0 E0 n (a.eval x) m vs/\SV.dj E.M cs vs)/\((old=[]/\(a.eval x).ownBlock=none)\/∃i R,old=[(i,.dead)]/\S'.r i=.live R/\(a.eval x).ownBlock=(E.ν i).ownBlock):=by
 cases hx with
 |nil hx=>
  have h1:a.eval x=.slice none 0 0:=by have h1:=h.ev x;rw[bk (λ_ h=>h) ht,hx]at h1;exact h1
  rw[h1];exact⟨⟨[],World.ownsRow_nil _ _ _ _,aq⟩,.inl ⟨Y,Y⟩⟩
 | @row i _ _ hx hR=>
  have h1:a.eval x=E.ν i:=by have h1:=h.ev x;rw[bk (λ_ h=>h) ht,hx]at h1;exact h1
  have jv:=(hr i (by simp)).trans hR;rw[h1];obtain⟨⟨vs,h2,h3⟩,_⟩:=h.rx i _ jv;exact⟨⟨vs,h2,h3⟩,.inr ⟨i,_,Y,jv,Y⟩⟩
theorem RT.Dc(hg:Gd ops S gd rg){n by_:Nat}{zv:Value}[tS:dB P T E0 n][tE:gX P E0 n by_ zv]{old:List (Nat×ir)}{rr:List Nat}{m:Nat}{cs:List SV}{s:SV}{rows:List (List SV)}[hs:IK s n rows]
  (hx:Src S E0 n x old rr m cs) (hy:S.ev y=.sv s) (hd:d<S.n) (qF:S.r d=.un) (oR:d<1000) (hroom:(m+rows.length)*by_<=140737488355328) (nA:m+rows.length<=140737488355328)
  (X:SV) {rows':List (List SV)} (hX:∀M v,(slc n rows').h M v->(∀g,v.ownBlock=some g->(C.w0.heap.size<=g\/C.nm g)/\∃o,M g o=some (.agg #[]))->X.h M v) (gN:Rows n rows' (cs++rows.flatten)) (hlen:rows'.length=m+rows.length) (hone:∀M vs,SV.dj M (cs++rows.flatten) vs->∀v∈vs,v.oneCell'=true)
  (next:RunT P C ops nd K rest (⟨rg++(aW x++aW y),[],d::rr,⟨some (d,.sv X),[],old++[(d,.dead)]⟩⟩::acc) ((AS.bz (old++[(d,.dead)]) S).set d (.sv X))):RunT P C ops nd K (⟨some d,.call ⟨.builtin .append,#[x,y],#[T,T]⟩,ty,pos,aft,gd⟩::rest) acc S:=by
 refine .inl ⟨_,[],d::rr,_,?_,next⟩;rintro S' hn ht _ hr i a w L Q ho ⟨E,h⟩ hL;refine bO (C:=C) ho (hg.wanted h (λs hs=>ht s (List.mem_append_left _ hs)) Y) ?_;obtain⟨⟨vs,hown,hvs⟩,hold⟩:=hx.val h (λs hs=>ht s (List.mem_append_right _ (List.mem_append_left _ hs))) (λi hi=>hr i (List.mem_cons_of_mem _ hi));have h2:=h.ev y;rw[bk (λ_ h=>List.mem_append_right _ (List.mem_append_right _ h)) ht,hy]at h2;obtain⟨info,hi,hsz,hby,hz⟩:=gX.info (P:=P) (E:=E0) (n:=n) (by_:=by_) (z:=zv);have Ca:S'.r d=.un:=by rw[hr d (by simp)];exact qF
 have run:∃v' w' vs',(Builtin.append_ #[T,T] ty #[a.eval x,a.eval y]).run P w=.ok v' w'/\w'.ownsRow 0 E0 n v' (m+rows.length) vs'/\SV.dj E.M (cs++rows.flatten) vs'/\w.grownBy w' (a.eval x).ownBlock/\(v'.ownBlock=(a.eval x).ownBlock\/v'.ownBlock=some w.heap.size\/v'.ownBlock=none):=by
  rcases hs.h _ _ h2 with⟨a0,e,e2⟩|⟨b,o,c,e,hc,Al,hrow⟩
  ·rw[e,e2];cases a0 with
   |none=>exact⟨_,_,vs,run_append_owned_none w 0 T ty E0 info n tS.u hi _ m vs hown,by simpa using hown,by simpa using hvs,⟨Y,Y,Y,Nat.le_refl _,λ_ _ _=>Y⟩,.inl Y⟩
   |some a0=>
    rw[e2,List.length_nil]at hroom nA;obtain⟨v',w',q1,q2,q3,_,q4⟩:=run_append_own_at (P:=P) w 0 T ty E0 info zv n by_ tS.u hi hz hsz hby tE.z tE.p _ m vs hown a0 0 0 [] (by simp) (by simp) (by simp) (by unfold maxLen;omega) hroom (Nat.zero_le _);exact⟨v',w',vs,q1,by simpa using q2,by simpa using hvs,q3,q4.imp id .inl⟩
  obtain⟨us,g1,g2,g3,g4⟩:=vH rows o hrow;rw[e];obtain⟨v',w',q1,q2,q3,_,q4⟩:=run_append_own_at (P:=P) w 0 T ty E0 info zv n by_ tS.u hi hz hsz hby tE.z tE.p _ m vs hown ⟨b,o,none⟩ rows.length c us g2 (λj u hj=>by rw[ez];exact(h.b8 _ _ _ (g4 j u hj)).cell (g3 u (List.mem_of_getElem? hj))) g3 (by unfold maxLen;omega) hroom (Nat.zero_le _);exact⟨v',w',vs++us,q1,q2,SV.dj.append hvs g1,q3,q4.imp id .inl⟩
 obtain⟨v',w',vs',q1,q2,q3,q4,q5⟩:=run;have hr':(execOp a.eval ⟨some d,.call ⟨.builtin .append,#[x,y],#[T,T]⟩,ty,pos,aft,gd⟩).run P w=.ok (.value v') w':=by
  simp[execOp,resolve,invoke,builtin,q1]
 have Dd:∀(l:List (Nat×ir)) (R:ir) (j:Nat),cS (l++[(d,R)]) j=if j=d then some R else cS l j:=by
  intro l R j
  induction l with
  |nil=>rfl
  |cons p l ih=>
   obtain⟨i,R'⟩:=p;rw[List.cons_append,cS,cS,ih];by_cases e:j=d
   ·simp[e]
   simp[e]
 have h3:=(h.newRow Ca oR old (a.eval x).ownBlock hold (R':=⟨E0,n,m+rows.length,cs++rows.flatten⟩) q2 q3 q5 q4).put (d:=d) (x:=.row d) (v:=v') (by simp[AV.holds]) (by rw[(cW _ _).1];omega) ⟨λ_ e=>e.elim,λj e=>by
  cases e;rw[gh,Dd];simp⟩
 have hRd:(AS.set (AS.bz (old++[(d,ir.live ⟨E0,n,m+rows.length,cs++rows.flatten⟩)]) S') d (.row d)).r d=.live ⟨E0,n,m+rows.length,cs++rows.flatten⟩:=by
  show(AS.bz _ S').r d=_;rw[gh,Dd];simp
 obtain⟨E',h4⟩:=h3.jQ hRd gN hlen (Nat.le_trans nA (by decide)) hone hX;have e:(AS.set (AS.bz (old++[(d,ir.live ⟨E0,n,m+rows.length,cs++rows.flatten⟩)]) S') d (.row d)).jQ d X=S'.app ⟨some (d,.sv X),[],old++[(d,.dead)]⟩:=by
  have n1:=cW (old++[(d,ir.live ⟨E0,n,m+rows.length,cs++rows.flatten⟩)]) S';have n2:=cW (old++[(d,ir.dead)]) S';refine AS.ext' ?_ (λt=>?_) (λj=>?_) (λj=>?_) ?_ ?_
  ·show(AS.bz _ S').n=(AS.bz _ S').n;rw[n1.1,n2.1]
  ·rw[AS.Fx];show((AS.set (AS.bz _ S') d (.row d)).t t).jQ d X=_;by_cases e:t=d
   ·subst e;rw[AS.fT];simp[AV.jQ,wT]
   rw[AS.eI _ _ _ _ e,n1.2.1,F7 (λhm=>h.wf.tr t d hm Ca)];simp[wT,e]
  ·rw[AS.Fy];show((AS.bz _ S').b j).map _=_;rw[n1.2.2.1];simp only[nn,Option.getD_none];cases hb:S'.b j with
   |none=>rfl
   |some B=>
    rw[Option.map_some];have:B.cells.map (AV.jQ d X)=B.cells:=by
     conv=>rhs;rw[<-List.map_id B.cells]
     exact List.map_congr_left λc hc=>F7 (λhm=>h.wf.br j B hb c hc d hm Ca)
    rw[this]
  ·rw[AS.Fz];show(bif Nat.beq j d then ir.dead else(AS.bz _ S').r j)=_;rw[gh,Dd,Dd];by_cases e:j=d
   ·subst e;simp
   simp[cG e,e]
  ·rw[(AS.C3 _ _).1];exact n1.2.2.2.1
  rw[(AS.C3 _ _).2];exact n1.2.2.2.2
 exact bP (C:=C) (by intro c h;cases h) hr' (hL _ _ ⟨E',e▸h4⟩)
end steps
end
section
open Go.RowKit
def di{J R:Type}(k:J->Option R)(f:(J->Option R)->Option R):Option R:=f k
theorem bind_some{α β:Type}{x:Option α}{f:α->Option β}{r:β}(h:Option.bind x f=some r):∃a,x=some a/\f a=some r:=by
 cases x with
 |none=>cases h
 |some a=>exact⟨a,Y,h⟩
theorem sk{b w:Bool}(h:(b==w)=false):b≠w:=by cases b<;>cases w<;>simp_all
def cq{α:Type}(l:List α)(i:Int):Option α:=if 0<=i then l[i.toNat]? else none
def qu{α:Type}(l:List α)(i:Int):Option Nat:=if 0<=i/\i<l.length then some i.toNat else none
def yQ{α:Type}(l:List α)(lo hi:Int):Option (List α):=if 0<=lo/\lo<=hi/\hi<=l.length then some (cut l lo.toNat hi.toNat)else none
def w9{α:Type}(by_:Nat)(l k:List α):Option (List α):=if(l.length+k.length)*by_<=140737488355328/\l.length+k.length<=140737488355328 then some (l++k)else none
def Fp{α:Type}(by_:Nat)(c:Int)(z:α):Option (List α):=if 0<=c/\by_*c<=281474976710656/\c<=140737488355328 then some (List.replicate c.toNat z)else none
def I0{α:Type}(by_:Nat)(c:Int):Option (List α):=if 0<=c/\by_*c<=281474976710656/\c<=140737488355328 then some []else none
def stM{α:Type}(l:List α)(n:Nat)(y:α):Option (List α):=if n<l.length then some (l.set n y)else none
def qO(a b:Int):Option Int:=if b=0 then none else some (IntKind.i64.wrap (a.tdiv b))
def Es(a b:Int):Option Int:=if b=0 then none else some (a.tmod b)
def yR(M a b:Nat):Option Nat:=if b=0 then none else some (a/b%M)
def xk(a b:Nat):Option Nat:=if b=0 then none else some (a%b)
def kG(M a b:Nat):Nat:=(((a:Int)-b)%M).toNat
theorem lC{α:Type}{l:List α}{i:Int}{a:α}(h:cq l i=some a):0<=i/\l[i.toNat]? =some a:=by
 unfold cq at h;split at h
 ·exact⟨by assumption,h⟩
 cases h
theorem F8{α:Type}{l:List α}{i:Int}{k:Nat}(h:qu l i=some k):0<=i/\i<l.length/\i.toNat=k:=by
 unfold qu at h;split at h
 ·rename_i hh;exact⟨hh.1,hh.2,Option.some.inj h⟩
 cases h
theorem xJ{α:Type}{l l':List α}{a b:Int}(h:yQ l a b=some l'):0<=a/\a<=b/\b<=l.length/\cut l a.toNat b.toNat=l':=by
 unfold yQ at h;split at h
 ·rename_i hh;exact⟨hh.1,hh.2.1,hh.2.2,Option.some.inj h⟩
 cases h
theorem qP{α:Type}{by_:Nat}{l k l':List α}(h:w9 by_ l k=some l'):(l.length+k.length)*by_<=140737488355328/\l.length+k.length<=140737488355328/\l++k=l':=by
 unfold w9 at h;split at h
 ·rename_i hh;exact⟨hh.1,hh.2,Option.some.inj h⟩
 cases h
theorem F9{α:Type}{by_:Nat}{c:Int}{z:α}{l':List α}(h:Fp by_ c z=some l'):0<=c/\by_*c<=281474976710656/\c<=140737488355328/\List.replicate c.toNat z=l':=by
 unfold Fp at h;split at h
 ·rename_i hh;exact⟨hh.1,hh.2.1,hh.2.2,Option.some.inj h⟩
 cases h
theorem Ga{α:Type}{by_:Nat}{c:Int}{l':List α}(h:I0 by_ c=some l'):0<=c/\by_*c<=281474976710656/\c<=140737488355328/\[]=l':=by
 unfold I0 at h;split at h
 ·rename_i hh;exact⟨hh.1,hh.2.1,hh.2.2,Option.some.inj h⟩
 cases h
theorem Aw{α:Type}{l l':List α}{n:Nat}{y:α}(h:stM l n y=some l'):n<l.length/\l.set n y=l':=by
 unfold stM at h;split at h
 ·rename_i hh;exact⟨hh,Option.some.inj h⟩
 cases h
def jS{S E:Type}(body:S->Option (S⊕E)):Nat->S->Option E
 |0,_=>none
 |n+1,s=>match body s with
  |some (.inl s')=>jS body n s'
  |some (.inr e)=>some e
  |none=>none
theorem pM{S E:Type}{body:S->Option (S⊕E)}:∀{n m:Nat} {s:S} {e:E},n<=m->jS body n s=some e->jS body m s=some e
 |0,_,_,_,_,h=>by cases h
 |n+1,0,_,_,hm,_=>by omega
 |n+1,m+1,s,e,hm,h=>by
  unfold jS at h⊢;cases hb:body s with
  |none=>rw[hb]at h;cases h
  |some y=>
   rw[hb]at h;cases y with
   |inl s'=>exact pM (by omega) h
   |inr e'=>exact h
open Classical in
noncomputable def cH{S E:Type}(body:S->Option (S⊕E))(s:S):Option E:=if h:∃n e,jS body n s=some e then some (Classical.choose (Classical.choose_spec h))else none
theorem pN{S E:Type}{body:S->Option (S⊕E)}{s:S}{e:E}(h:cH body s=some e):∃n,jS body n s=some e:=by
 unfold cH at h;split at h
 ·rename_i hh;exact⟨_,by rw[<-Option.some.inj h];exact Classical.choose_spec (Classical.choose_spec hh)⟩
 cases h
theorem vU{S E:Type}{body:S->Option (S⊕E)}{s:S}{e:E}{n:Nat}(h:jS body n s=some e):cH body s=some e:=by
 have hh:∃n e,jS body n s=some e:=⟨n,e,h⟩;unfold cH;rw[dif_pos hh];have h2:=Classical.choose_spec (Classical.choose_spec hh);have h3:=pM (Nat.le_max_left n (Classical.choose hh)) h;have h4:=pM (Nat.le_max_right n (Classical.choose hh)) h2;rw[h3]at h4;exact h4.symm
theorem pO{S E:Type}{body:S->Option (S⊕E)}{s:S}{e:E}(h:body s=some (.inr e)):cH body s=some e:=vU (n:=1) (by simp[jS,h])
theorem vV{S E:Type}{body:S->Option (S⊕E)}{s s':S}(h:body s=some (.inl s')):cH body s=cH body s':=by
 cases hl:cH body s' with
 |some e=>obtain⟨n,hn⟩:=pN hl;exact vU (n:=n+1) (by simp[jS,h,hn])
 |none=>
  cases VW:cH body s with
  |none=>rfl
  |some e=>
   obtain⟨n,hn⟩:=pN VW;cases n with
   |zero=>cases hn
   |succ n=>simp only[jS,h]at hn;rw[vU hn]at hl;cases hl
theorem sx{S E:Type}{body:S->Option (S⊕E)}(I:S->Prop)(Post:E->Prop)(μ:S->Nat)
  (step:∀s,I s->(∃s',body s=some (.inl s')/\I s'/\μ s'<μ s)\/(∃e,body s=some (.inr e)/\Post e)) {s:S} (h:I s):∃e,cH body s=some e/\Post e:=by
 have key:∀(n:Nat) (s:S),μ s<=n->I s->∃e,cH body s=some e/\Post e:=by
  intro n
  induction n with
  |zero=>
   intro s hn hs;rcases step s hs with⟨s',_,_,h3⟩|⟨e,h1,h2⟩
   ·omega
   exact⟨e,pO h1,h2⟩
  |succ n ih=>
   intro s hn hs;rcases step s hs with⟨s',h1,h2,h3⟩|⟨e,h1,h2⟩
   ·obtain⟨e,q1,q2⟩:=ih s' (by omega) h2;exact⟨e,by rw[vV h1];exact q1,q2⟩
   exact⟨e,pO h1,h2⟩
 exact key _ s (Nat.le_refl _) h
theorem Gb{S E:Type}{body:S->Option (S⊕E)}(st:Nat->S)(n:Nat){e:E}(hs:∀k,k<n->body (st k)=some (.inl (st (k+1))))(he:body (st n)=some (.inr e)):cH body (st 0)=some e:=by
 have key:∀k,k<=n->cH body (st (n-k))=some e:=by
  intro k
  induction k with
  |zero=>intro _;exact pO he
  |succ k ih=>
   intro hk;rw[vV (hs (n-(k+1)) (by omega)),show n-(k+1)+1=n-k by omega];exact ih (by omega)
 have:=key n (Nat.le_refl _);rwa[Nat.sub_self]at this
theorem qw{p q:Int}{c:Bool}(h:decide (p=q)=c):(p==q)=c:=by rw[<-h];exact Bool.beq_eq_decide_eq p q
theorem I1{p q:Int}{c:Bool}(h:decide (p≠q)=c):(p != q)=c:=by rw[<-h,bne,Bool.beq_eq_decide_eq p q];simp
theorem Qh{p q:Nat}{c:Bool}(h:decide (p=q)=c):((p:Int)==(q:Int))=c:=qw (by rw[<-h];simp[Int.natCast_inj])
theorem Pp{p q:Nat}{c:Bool}(h:decide (p≠q)=c):((p:Int) != (q:Int))=c:=I1 (by rw[<-h];simp[Int.natCast_inj])
theorem Pq{p q:Nat}{c:Bool}(h:decide (p<q)=c):decide ((p:Int)<(q:Int))=c:=by rw[<-h];simp
theorem Yi{p q:Nat}{c:Bool}(h:decide (p<=q)=c):decide ((p:Int)<=(q:Int))=c:=by rw[<-h];simp
theorem Yj{p q c:Int}(h:max p q=c):(if q>p then q else p)=c:=by rw[<-h];split<;>omega
theorem Qi{p q c:Int}(h:min p q=c):(if q<p then q else p)=c:=by rw[<-h];split<;>omega
class UK (k:IntKind) (b:outParam Nat) (M:outParam Nat):Prop where
 w:∀x:Int,k.wrap x=x%M
 hb:k.bits=b
 hm:2^b=M
instance:UK .u8 8 256:=⟨λx=>by simp[IntKind.wrap,IntKind.signed,IntKind.bits],rfl,by decide⟩
instance:UK .u32 32 4294967296:=⟨λx=>by simp[IntKind.wrap,IntKind.signed,IntKind.bits],rfl,by decide⟩
instance:UK .u64 64 18446744073709551616:=⟨λx=>by simp[IntKind.wrap,IntKind.signed,IntKind.bits],rfl,by decide⟩
section uk
variable {k:IntKind}{bi M a b c:Nat}[u:UK k bi M]
include u
theorem UK.pos:0<M:=by rw[<-u.hm];exact Nat.two_pow_pos _
theorem UK.nat(h:a%M=c):k.wrap (a:Int)=(c:Int):=by rw[u.w,<-h,Int.natCast_emod]
theorem UK.add(h:(a+b)%M=c):k.wrap ((a:Int)+(b:Int))=(c:Int):=by rw[<-Int.natCast_add];exact UK.nat h
theorem UK.mul(h:(a*b)%M=c):k.wrap ((a:Int)*(b:Int))=(c:Int):=by rw[<-Int.natCast_mul];exact UK.nat h
theorem UK.sub(h:kG M a b=c):k.wrap ((a:Int)-(b:Int))=(c:Int):=by
 rw[u.w,<-h,kG,Int.toNat_of_nonneg];exact Int.emod_nonneg _ (by have:=UK.pos (k:=k) (bi:=bi) (M:=M);omega)
theorem UK.neg(h:kG M 0 a=c):k.wrap (0-(a:Int))=(c:Int):=UK.sub h
theorem UK.conv{p:Int}(h:(p%M).toNat=c):k.wrap p=(c:Int):=by
 rw[u.w,<-h,Int.toNat_of_nonneg];exact Int.emod_nonneg _ (by have:=UK.pos (k:=k) (bi:=bi) (M:=M);omega)
theorem UK.quo(h:yR M a b=some c):k.wrap ((a:Int).tdiv (b:Int))=(c:Int):=by
 unfold yR at h;split at h
 ·cases h
 rw[Int.tdiv_eq_ediv_of_nonneg (by omega),<-Int.natCast_ediv];exact UK.nat (Option.some.inj h)
theorem UK.shl{q:Int}{s:Nat}(hs:min q.toNat k.bits=s)(h:a*2^s%M=c):k.wrap ((a:Int)*2^(min q.toNat k.bits))=(c:Int):=by
 rw[hs,show(a:Int)*2^s=((a*2^s:Nat):Int) by rw[Int.natCast_mul,Int.natCast_pow];rfl];exact UK.nat h
theorem UK.ofInt(a:Nat):(BitVec.ofInt k.bits (a:Int)).toNat=a%M:=by
 rw[BitVec.ofInt_natCast,BitVec.toNat_ofNat,u.hb,u.hm]
theorem UK.or(h:(a ||| b)%M=c):k.wrap ((BitVec.ofInt k.bits (a:Int) ||| BitVec.ofInt k.bits (b:Int)).toNat)=(c:Int):=by
 rw[BitVec.toNat_or,UK.ofInt,UK.ofInt,<-u.hm,<-Nat.or_mod_two_pow,u.hm,h,UK.nat (a:=c) (c:=c)];rw[<-h,Nat.mod_mod]
end uk
theorem yS{k:IntKind}{a c s:Nat}{q:Int}(hs:min q.toNat k.bits=s)(h:a/2^s=c):(a:Int).fdiv (2^(min q.toNat k.bits))=(c:Int):=by
 rw[hs,Int.fdiv_eq_ediv_of_nonneg _ (Int.le_of_lt (Int.pow_pos (by decide))),<-h,Int.natCast_ediv,Int.natCast_pow];rfl
theorem I2{a b c:Nat}(h:xk a b=some c):(a:Int).tmod (b:Int)=(c:Int):=by
 unfold xk at h;split at h
 ·cases h
 rw[Int.tmod_eq_emod_of_nonneg (by omega),<-Option.some.inj h];rfl
theorem Yk{M a b c:Nat}(h:yR M a b=some c):(b:Int)≠0:=by
 unfold yR at h;split at h
 ·cases h
 omega
theorem V3{a b c:Nat}(h:xk a b=some c):(b:Int)≠0:=by
 unfold xk at h;split at h
 ·cases h
 omega
theorem Yl{a b c:Int}(h:qO a b=some c):b≠0:=by unfold qO at h;split at h<;>simp_all
theorem Ym{a b c:Int}(h:Es a b=some c):b≠0:=by unfold Es at h;split at h<;>simp_all
theorem MZ{a b c:Int}(h:qO a b=some c):IntKind.i64.wrap (a.tdiv b)=c:=by
 unfold qO at h;split at h
 ·cases h
 exact Option.some.inj h
theorem Yn{a b c:Int}(h:Es a b=some c):a.tmod b=c:=by
 unfold Es at h;split at h
 ·cases h
 exact Option.some.inj h
abbrev Yo(x:Nat):List SV:=[.v (.int .u8 (x:Nat))]
abbrev aZ(x:Nat):List SV:=[.v (.int .u32 (x:Nat))]
abbrev Yp(x:Int):List SV:=[.v (.int .i16 x)]
abbrev M1(x:Int):List SV:=[.v (.int .i64 x)]
abbrev eB(x:Bool):List SV:=[.v (.bool x)]
abbrev eS{α:Type}(n:Nat)(e:α->List SV)(l:List α):List SV:=[slc n (l.map e)]
structure Zr where
 neg:Bool
 w:List Nat
structure Qr where
 num:Zr
 den:Zr
abbrev eZ(z:Zr):List SV:=[.v (.bool z.neg),slc 1 (z.w.map aZ)]
abbrev eQ(q:Qr):List SV:=[.v (.bool q.num.neg),slc 1 (q.num.w.map aZ),.v (.bool q.den.neg),slc 1 (q.den.w.map aZ)]
class EL {α:Type} (e:α->List SV) (n:outParam Nat):Prop where
 len:∀x,(e x).length=n
 one:∀x,si (e x)
instance:EL aZ 1:=⟨λ_=>rfl,λ_=>inferInstance⟩
instance:EL eZ 2:=⟨λ_=>rfl,λ_=>inferInstance⟩
instance:EL eQ 4:=⟨λ_=>rfl,λ_=>inferInstance⟩
structure En where
 acc:Int
 kd:Nat
 hour:Int
 gu:Zr
abbrev ew(x:En):List SV:=[.v (.int .i64 x.acc),.v (.int .u8 ((x.kd:Nat):Int)),.v (.int .i64 x.hour),.v (.bool x.gu.neg),slc 1 (x.gu.w.map aZ)]
instance:EL ew 5:=⟨λ_=>rfl,λ_=>inferInstance⟩
structure Mv where
 acc:Int
 kd:Nat
 hour:Int
 fm:Qr
abbrev Ax(x:Mv):List SV:=[.v (.int .i64 x.acc),.v (.int .u8 ((x.kd:Nat):Int)),.v (.int .i64 x.hour),.v (.bool x.fm.num.neg),slc 1 (x.fm.num.w.map aZ),.v (.bool x.fm.den.neg),slc 1 (x.fm.den.w.map aZ)]
instance:EL Ax 7:=⟨λ_=>rfl,λ_=>inferInstance⟩
structure Bk where
 n:Int
 l:List En
abbrev Yq(x:Bk):List SV:=[.v (.int .i64 x.n),slc 5 (x.l.map ew)]
abbrev TR(E:TypeId)(sz:Nat){α:Type}(e:α->List SV)(l:List α):Row:=⟨E,sz,l.length,l.flatMap e⟩
theorem aB{α:Type}{n:Nat}{e:α->List SV}:SV.imp (.v (.slice none 0 0)) (slc n (([]:List α).map e)):=λ_ _ h=>.inl ⟨none,h,Y⟩
theorem nD{α:Type}(e:α->List SV)(l:List α):(l.map e).flatten=l.flatMap e:=by rw[List.flatMap_def]
theorem nE{α:Type}{e:α->List SV}{n:Nat}[h:EL e n](l:List α):Rows n (l.map e) (l.flatMap e):=⟨nD e l,λr hr=>by obtain⟨x,_,rfl⟩:=List.mem_map.1 hr;exact h.len x⟩
theorem xK{M:Mem}:∀{l k:List SV} {vs:List Value},SV.dj M (l++k) vs->∃us ws,vs=us++ws/\SV.dj M l us/\SV.dj M k ws
 |[],_,vs,h=>⟨[],vs,Y,aq,h⟩
 |_::_,_,[],h=>h.elim
 |_::l,_,v::vs,h=>by
  obtain⟨us,ws,rfl,h1,h2⟩:=xK (l:=l) h.2;exact⟨v::us,ws,Y,⟨h.1,h1⟩,h2⟩
theorem ke{α:Type}{e:α->List SV}{n:Nat}[h:EL e n](l:List α):∀M vs,SV.dj M (l.flatMap e) vs->∀v∈vs,v.oneCell'=true:=by
 intro M
 induction l with
 |nil=>intro vs hv;cases vs with|nil=>simp|cons _ _=>exact hv.elim
 |cons x l ih=>
  intro vs hv;rw[List.flatMap_cons]at hv;obtain⟨us,ws,rfl,h1,h2⟩:=xK hv;intro v hv;rcases List.mem_append.1 hv with hv|hv
  ·exact(h.one x).h M us h1 v hv
  exact ih ws h2 v hv
theorem vW{α:Type}{e:α->List SV}{n:Nat}[h:EL e n]:∀{l:List α} {k:Nat} {a:α},l[k]? =some a->((l.flatMap e).drop (k*n)).take n=e a
 |[],_,_,hh=>by simp at hh
 |x::l,0,a,hh=>by
  simp only[List.getElem?_cons_zero,Option.some.injEq]at hh;subst hh;rw[List.flatMap_cons,Nat.zero_mul,List.drop_zero,<-h.len x,List.take_left'];rfl
 |x::l,k+1,a,hh=>by
  rw[List.getElem?_cons_succ]at hh;rw[List.flatMap_cons,show(k+1)*n=(e x).length+k*n by rw[h.len,Nat.add_mul];omega,<-List.drop_drop,List.drop_left']
  ·exact vW hh
  rfl
theorem Ay{α:Type}{e:α->List SV}{n:Nat}[h:EL e n]{y:α}:∀{l:List α} {k:Nat},k<l.length->gU (l.flatMap e) (k*n) (e y)=(l.set k y).flatMap e:=by
 have Yr:∀(u:List SV) (a b:List SV) (j:Nat),j+u.length<=a.length->gU (a++b) j u=gU a j u++b:=by
  intro u
  induction u with
  |nil=>intro a b j _;rfl
  |cons s u ih=>
   intro a b j hj;simp only[List.length_cons]at hj;simp only[gU];rw[List.set_append_left _ _ (by omega),ih _ _ _ (by rw[List.length_set];omega)]
 have Ys:∀(u:List SV) (a b:List SV) (j:Nat),gU (a++b) (a.length+j) u=a++gU b j u:=by
  intro u
  induction u with
  |nil=>intro a b j;rfl
  |cons s u ih=>
   intro a b j;simp only[gU];rw[List.set_append_right _ _ (by omega),show a.length+j-a.length=j by omega,show a.length+j+1=a.length+(j+1) by omega,ih]
 have Yt:∀(u a:List SV),u.length=a.length->gU a 0 u=u:=by
  have gen:∀(u a p:List SV),u.length=a.length->gU (p++a) p.length u=p++u:=by
   intro u
   induction u with
   |nil=>intro a p ha;have:a=[]:=List.eq_nil_of_length_eq_zero ha.symm;subst this;rfl
   |cons s u ih=>
    intro a p ha;cases a with
    |nil=>cases ha
    |cons t a=>
     simp only[gU];rw[List.set_append_right _ _ (Nat.le_refl _),Nat.sub_self,List.set_cons_zero,show p++s::a=(p++[s])++a by simp,show p.length+1=(p++[s]).length by simp,ih a _ (by simpa using ha)];simp
  intro u a ha;exact gen u a [] ha
 intro l
 induction l with
 |nil=>intro k hk;simp at hk
 |cons x l ih=>
  intro k hk;cases k with
  |zero=>
   rw[List.set_cons_zero,List.flatMap_cons,List.flatMap_cons,Nat.zero_mul,Yr _ _ _ _ (by rw[h.len,h.len];omega),Yt _ _ (by rw[h.len,h.len])]
  |succ k=>
   simp only[List.length_cons]at hk;rw[List.set_cons_succ,List.flatMap_cons,List.flatMap_cons,show(k+1)*n=(e x).length+k*n by rw[h.len,Nat.add_mul];omega,Ys,ih (by omega)]
end
section
open Go.RowKit
section steps
variable {P:Program}{C:Ctx}{ops:Array Oper}{S:AS}{nd:Bool}{K:List Ac->AS->Prop}{rest:List Oper}{acc:List Ac}
variable {gd:Option (Nat×Bool)}{rg:List Nat}{d:Nat}{ty:TypeId}{pos:String}{aft:Array Edge}{x y z:Operand}{T U E0:TypeId}
variable {α:Type}{l l' k:List α}{e:α->List SV}{n by_:Nat}{zv:Value}
theorem RT.Yu(hg:Gd ops S gd rg){s X:SV}(hx:S.ev x=.sv s)(hi:SV.imp s X)(hd:d<S.n)
  (next:RunT P C ops nd K rest (⟨rg++aW x,[],[],⟨some (d,.sv X),[],[]⟩⟩::acc) (S.set d (.sv X))):RunT P C ops nd K (⟨some d,.assign x,ty,pos,aft,gd⟩::rest) acc S:=
 RT.value hg (aW x) [] [] (.sv X) hd (by intro c h;cases h) (λS' ht _ _ E a w h=>by
  have hx':S'.ev x=.sv s:=by rw[bk (λ_ h=>h) ht,hx]
  exact⟨a.eval x,Y,by have:=h.ev x;rw[hx']at this;exact hi _ _ this,dD⟩) next
theorem Et{E:Env}:∀{l l':List SV} {vs:List Value},cJ l l'->SV.dj E.M l vs->cc E (l'.map AV.sv) vs:=λhi h=>cc.qz (hi.holds h)
theorem yT(M:Mem):∀l:List Value,SV.dj M (l.map SV.v) l
 |[]=>trivial
 |_::l=>⟨Y,yT M l⟩
theorem RT.M3(hg:Gd ops S gd rg)[tz:iL P T zv]{cs:List SV}(hi:cJ (zv.cells.toList.map SV.v) cs){av:List AV}(Yv:cs.map AV.sv=av)(hd:d<S.n)(hb:S.b d=none)(hp:C.ey d=none)
  (next:RunT P C ops nd K rest (⟨rg++[],[d],[],⟨some (d,.ptr d 0),[(d,⟨T,av⟩)],[]⟩⟩::acc) ((S.gP d ⟨T,av⟩).set d (.ptr d 0))):RunT P C ops nd K (⟨some d,.alloc T,ty,pos,aft,gd⟩::rest) acc S:=by
 subst Yv;exact RT.Ai hg (by intro c h;cases h) [] hd hb hp (λS' _ E a w h=>⟨zv.cells.toList,by simp[execOp,Instr.alloc,newVar,newRow,tz.run],Et hi (yT _ _),λy hy=>by
  obtain⟨s,_,rfl⟩:=List.mem_map.1 hy;exact dD⟩) next
theorem RT.M4(hg:Gd ops S gd rg){pl:List (Nat×Nat)}{zc:List Value}[tP:gj P T pl zc]{parts:Array (Nat×Operand)}{qs:List (Nat×List SV)}(hp:iQ S parts.toList qs){cs cs':List SV}(hf:nC (λi=>pl[i]?) (zc.map SV.v) qs=some cs)(hi:cJ cs cs')(hd:d<S.n)
  (next:RunT P C ops nd K rest (⟨rg++eX parts.toList,[],[],⟨some (d,.sv (.agg cs')),[],[]⟩⟩::acc) (S.set d (.sv (.agg cs')))):RunT P C ops nd K (⟨some d,.build T parts,ty,pos,aft,gd⟩::rest) acc S:=by
 refine RT.value hg (eX parts.toList) [] [] (.sv (.agg cs')) hd (by intro c h;cases h) (λS' ht _ _ E a w h=>?_) next
 have hu:=tP.h;cases hT:P.underlying T with
 |none=>rw[hT]at hu;cases hu
 |some u=>
  rw[hT]at hu;cases u with
  |struct fs=>
   simp only at hu;have hz:(zeroValue T).run P w=.ok (.agg ⟨zc⟩) w:=iL.run (t:=⟨tP.hz⟩) w;obtain⟨us,h1,h2,_⟩:=qH h (λi=>pl[i]?) hp ht (cells:=zc.map SV.v) (vs:=zc) (yT _ zc) (List.all_eq_true.1 tP.o) hf;refine⟨.agg ⟨us⟩,?_,⟨us,Y,hi.holds h2⟩,dD⟩;have hm:(fs.mapM (λf=>do pure (f.offset,<-sizeOf f.type):Field->Sem (Nat×Nat))).run P w=.ok pl.toArray w:=by
    have:=kM (P:=P) (w:=w) hu;rw[<-Array.toArray_toList (xs:=fs),List.mapM_toArray];rw[Sem.run_map,this];rfl
   have h1':Instr.fill (λi=>pl.toArray[i]?) ⟨zc⟩ (parts.toList.map λp=>(p.1,a.eval p.2))=some ⟨us⟩:=by simpa using h1
   simp only[execOp,Instr.build,underlying];simp only[Sem.run_bind,hz,Result.andThen_ok,run_program,hT,Sem.run_pure,Value.cells];have hm':(Array.mapM (λf=>do
     let __do_lift<-sizeOf f.type
     pure (f.offset,__do_lift)) fs:Sem _).run P w=.ok pl.toArray w:=hm
   simp only[hm',Result.andThen_ok];have e4:(Array.map (λx=>match x with|(i,x)=>(i,a.eval x)) parts).toList=parts.toList.map λp=>(p.1,a.eval p.2):=by simp
   simp only[e4,h1',Sem.run_pure,Result.andThen_ok]
  |_=>cases hu
theorem Pure.w{f:FuncId}{args args':List SV}{r:SV}(h:Pure P f args r)(hi:cJ args' args):Pure P f args' r:=λM w vs hM hv=>h M w vs hM (hi.holds hv)
theorem Pure.r{f:FuncId}{args:List SV}{r r':SV}(h:Pure P f args r)(hi:SV.imp r r'):Pure P f args r':=λM w vs hM hv=>(h M w vs hM hv).mono λ_ _ ⟨v,M',h1,h2,h3,h4,h5,h6⟩=>⟨v,M',h1,h2,h3,h4,hi _ _ h5,h6⟩
theorem RT.Qj(hg:Gd ops S gd rg){m:Nat}[tS:dB P T E0 m]{c:Int}(hx:S.ev x=.sv (slc n (l.map e)))(hd:d<S.n)(hc:(l.length:Int)=c)
  (next:RunT P C ops nd K rest (⟨rg++aW x,[],[],⟨some (d,.sv (.v (.int .i64 c))),[],[]⟩⟩::acc) (S.set d (.sv (.v (.int .i64 c))))):RunT P C ops nd K (⟨some d,.call ⟨.builtin .len,#[x],#[T]⟩,ty,pos,aft,gd⟩::rest) acc S:=
 RT.len hg hx hd (by rw[List.length_map,hc];exact next)
theorem RT.Qk(hg:Gd ops S gd rg){m:Nat}[tS:dB P T E0 m]{i:Nat}{E1:TypeId}{c:Int}(hx:S.ev x=.row i)(hR:S.r i=.live (TR E1 n e l))(hd:d<S.n)(hc:(l.length:Int)=c)
  (next:RunT P C ops nd K rest (⟨rg++aW x,[],[i],⟨some (d,.sv (.v (.int .i64 c))),[],[]⟩⟩::acc) (S.set d (.sv (.v (.int .i64 c))))):RunT P C ops nd K (⟨some d,.call ⟨.builtin .len,#[x],#[T]⟩,ty,pos,aft,gd⟩::rest) acc S:=
 RT.XQ hg hx hR hd (by show RunT _ _ _ _ _ _ (⟨_,_,_,⟨some (d,.sv (.v (.int .i64 (l.length:Int)))),_,_⟩⟩::_) (S.set d (.sv (.v (.int .i64 (l.length:Int)))));rw[hc];exact next)
theorem RT.Gc(hg:Gd ops S gd rg)[tS:dB P T E0 n]{kk:IntKind}{i:Int}{a:α}(hx:S.ev x=.sv (slc n (l.map e)))(hy:S.ev y=.sv (.v (.int kk i)))(hd:d<S.n)(ha:cq l i=some a)
  (next:RunT P C ops nd K rest (⟨rg++(aW x++aW y),[],[],⟨some (d,.sv (ref (e a))),[],[]⟩⟩::acc) (S.set d (.sv (ref (e a))))):RunT P C ops nd K (⟨some d,.indexAddr T x y,ty,pos,aft,gd⟩::rest) acc S:=
 RT.indexAddr hg (e a) hx hy hd (lC ha).1 (by rw[List.getElem?_map,(lC ha).2];rfl) next
theorem RT.Ge(hg:Gd ops S gd rg)[tS:dB P T E0 n]{lo hi:Option Operand}(a b:Int)(hx:S.ev x=.sv (slc n (l.map e)))(hlo:vK S 0 lo a)(hhi:vK S l.length hi b)(hd:d<S.n)(h:yQ l a b=some l')
  (next:RunT P C ops nd K rest (⟨rg++(aW x++(jR lo++jR hi)),[],[],⟨some (d,.sv (slc n (l'.map e))),[],[]⟩⟩::acc) (S.set d (.sv (slc n (l'.map e))))):RunT P C ops nd K (⟨some d,.slice T x lo hi none,ty,pos,aft,gd⟩::rest) acc S:=by
 obtain⟨h0,h1,h2,h3⟩:=xJ h;exact RT.slice hg hx a b hlo (by rw[List.length_map];exact hhi) hd h0 h1 (by rw[List.length_map];exact h2) _ (by rw[C7,h3]) next
theorem RT.I3(hg:Gd ops S gd rg)[tS:dB P T E0 n][tE:gX P E0 n by_ zv]{len:Nat}{parts:Array (Nat×Operand)}{qs:List (Nat×List SV)}(hp:iQ S parts.toList qs)(hd:d<S.n)
  (hc:kY 0 qs=true) (hl:qs.length=len) (hsz:(qs.all λq=>Nat.beq q.2.length n)=true) (hlen:Nat.ble (len*n) 16777216=true) (El:(zv.cells.toList.all λv=>v.oneCell')=true) (gN:qs.map (·.2)=l.map e)
  (next:RunT P C ops nd K rest (⟨rg++eX parts.toList,[],[],⟨some (d,.sv (slc n (l.map e))),[],[]⟩⟩::acc) (S.set d (.sv (slc n (l.map e))))):RunT P C ops nd K (⟨some d,.buildSlice T len parts,ty,pos,aft,gd⟩::rest) acc S:=
 RT.buildSlice hg hp hd hc hl hsz (af hlen) (List.all_eq_true.1 El) gN next
theorem RT.I4(hg:Gd ops S gd rg)[tS:dB P T E0 n][tE:gX P E0 n by_ zv]{len:Nat}{parts:Array (Nat×Operand)}{qs:List (Nat×List SV)}(hp:iQ S parts.toList qs)(hd:d<S.n)(qF:S.r d=.un)(oR:d<1000)
  (hc:kY 0 qs=true) (hl:qs.length=len) (hsz:(qs.all λq=>Nat.beq q.2.length n)=true) (hlen:Nat.ble (len*n) 16777216=true) (El:(zv.cells.toList.all λv=>v.oneCell')=true) (gN:qs.map (·.2)=l.map e)
  (next:RunT P C ops nd K rest (⟨rg++eX parts.toList,[],[d],⟨some (d,.row d),[],[(d,.live (TR E0 n e l))]⟩⟩::acc) ((AS.bz [(d,.live (TR E0 n e l))] S).set d (.row d))):RunT P C ops nd K (⟨some d,.buildSlice T len parts,ty,pos,aft,gd⟩::rest) acc S:=by
 refine RT.As hg hp hd qF oR hc hl hsz (af hlen) (List.all_eq_true.1 El) (cells:=l.flatMap e) (by rw[gN,nD]) ?_;have:len=l.length:=by have h0:=congrArg List.length gN;simpa[hl]using h0
 rw[this];exact next
theorem RT.apR(hg:Gd ops S gd rg)[tS:dB P T E0 n][tE:gX P E0 n by_ zv]{i:Nat}(hx:S.ev x=.row i)(hR:S.r i=.live (TR E0 n e l))(hy:S.ev y=.sv (slc n (k.map e)))(hd:d<S.n)(qF:S.r d=.un)(oR:d<1000)(h:w9 by_ l k=some l')
  (next:RunT P C ops nd K rest (⟨rg++(aW x++aW y),[],[i,d],⟨some (d,.row d),[],[(i,.dead),(d,.live (TR E0 n e l'))]⟩⟩::acc) ((AS.bz [(i,.dead),(d,.live (TR E0 n e l'))] S).set d (.row d))):RunT P C ops nd K (⟨some d,.call ⟨.builtin .append,#[x,y],#[T,T]⟩,ty,pos,aft,gd⟩::rest) acc S:=by
 obtain⟨h1,h2,rfl⟩:=qP h;exact RT.IN hg hx hR hy hd qF oR (by simpa using h1) (by simpa using h2) _ (by simp[nD]) next
theorem RT.Yw(hg:Gd ops S gd rg)[tS:dB P T E0 n][tE:gX P E0 n by_ zv][el:EL e n]{i:Nat}(hx:S.ev x=.row i)(hR:S.r i=.live (TR E0 n e l))(hy:S.ev y=.sv (slc n (k.map e)))(hd:d<S.n)(qF:S.r d=.un)(oR:d<1000)(h:w9 by_ l k=some l')
  (next:RunT P C ops nd K rest (⟨rg++(aW x++aW y),[],[d,i],⟨some (d,.sv (slc n (l'.map e))),[],[(i,.dead),(d,.dead)]⟩⟩::acc) ((AS.bz [(i,.dead),(d,.dead)] S).set d (.sv (slc n (l'.map e))))):RunT P C ops nd K (⟨some d,.call ⟨.builtin .append,#[x,y],#[T,T]⟩,ty,pos,aft,gd⟩::rest) acc S:=by
 obtain⟨h1,h2,rfl⟩:=qP h;have hf:l.flatMap e++(k.map e).flatten=(l++k).flatMap e:=by simp[nD]
 exact RT.Dc hg (.row hx hR) hy hd qF oR (by simpa using h1) (by simpa using h2) _ (rows':=(l++k).map e) (λ_ _ h _=>h) (by rw[hf];exact nE _) (by simp) (by rw[hf];exact ke _) next
theorem xL(zc:Array Value)(n:Nat)(hz:zc.size=n)(hn:0<n):∀m:Nat,(madeCells zc (m*n)).toList=(List.replicate m zc.toList).flatten
 |0=>by simp[madeCells]
 |m+1=>by
  have ih:=xL zc n hz hn m;rw[List.replicate_succ',List.flatten_append,<-ih];simp only[madeCells,Array.toList_map,Array.toList_range,List.flatten_cons,List.flatten_nil,List.append_nil];rw[show(m+1)*n=m*n+n by rw[Nat.add_mul];omega,List.range_add,List.map_append,List.map_map];congr 1;apply List.ext_getElem?;intro i;rw[List.getElem?_map];rcases Nat.lt_or_ge i n with hi|hi
  ·rw[List.getElem?_range hi];simp only[Option.map_some,Function.comp];rw[hz,Nat.mul_comm m n,Nat.mul_add_mod,Nat.mod_eq_of_lt hi];rw[getElem!_pos zc i (by omega),Array.getElem?_toList,Array.getElem?_eq_getElem (by omega)]
  rw[List.getElem?_eq_none (by simpa using hi),List.getElem?_eq_none (by simp;omega)];rfl
theorem Az:∀{a b c d:List SV},cJ a c->cJ b d->cJ (a++b) (c++d)
 |[],_,[],_,_,h=>h
 |_::_,_,_::_,_,h,h'=>⟨h.1,Az h.2 h'⟩
 |[],_,_::_,_,h,_=>h.elim
 |_::_,_,[],_,h,_=>h.elim
theorem AA{zl:List Value}{zz:α}(hi:cJ (zl.map SV.v) (e zz)):∀m:Nat,cJ ((List.replicate m zl).flatten.map SV.v) ((List.replicate m zz).flatMap e)
 |0=>trivial
 |m+1=>by
  rw[List.replicate_succ,List.replicate_succ,List.flatten_cons,List.map_append,List.flatMap_cons];exact Az hi (AA hi m)
theorem RT.tK(hg:Gd ops S gd rg)[tS:dB P T E0 n][tE:gX P E0 n by_ zv]{kl kc:IntKind}{c:Int}{zz:α}(hx:S.ev x=.sv (.v (.int kl c)))(hy:S.ev y=.sv (.v (.int kc c)))(hd:d<S.n)(qF:S.r d=.un)(oR:d<1000)(hz:zv.cells.size=n)(hn:0<n)(hi:cJ (zv.cells.toList.map SV.v) (e zz))(hm:Fp by_ c zz=some l')
  (next:RunT P C ops nd K rest (⟨rg++(aW x++aW y),[],[d],⟨some (d,.row d),[],[(d,.live (TR E0 n e l'))]⟩⟩::acc) ((AS.bz [(d,.live (TR E0 n e l'))] S).set d (.row d))):RunT P C ops nd K (⟨some d,.makeSlice T x y,ty,pos,aft,gd⟩::rest) acc S:=by
 obtain⟨h0,hroom,nA,rfl⟩:=F9 hm;refine .inl ⟨_,[],[d],_,?_,next⟩;rintro S' hn' ht _ hr i a w L Q ho ⟨E,h⟩ hL;refine bO (C:=C) ho (hg.wanted h (λs hs=>ht s (List.mem_append_left _ hs)) Y) ?_;have h1:a.eval x=.int kl c:=by have h1:=h.ev x;rw[bk (λ_ h=>List.mem_append_right _ (List.mem_append_left _ h)) ht,hx]at h1;exact h1
 have h2:a.eval y=.int kc c:=by have h2:=h.ev y;rw[bk (λ_ h=>List.mem_append_right _ (List.mem_append_right _ h)) ht,hy]at h2;exact h2
 obtain⟨info,hii,hsz,hby,XV⟩:=gX.info (P:=P) (E:=E0) (n:=n) (by_:=by_) (z:=zv);obtain⟨m,rfl⟩:=Int.eq_ofNat_of_zero_le h0;have hb':info.bytes*m<=281474976710656:=by
  rw[hby];have:((by_*m:Nat):Int)<=281474976710656:=by rw[Int.natCast_mul];exact hroom
  omega
 obtain⟨w',q1,q2,q3⟩:=run_make_full (P:=P) w 0 T E0 info zv n tS.u hii XV hsz kl kc m hb' (by unfold maxLen;omega) (Nat.zero_le _);have hr':(execOp a.eval ⟨some d,.makeSlice T x y,ty,pos,aft,gd⟩).run P w=.ok (.value (.slice (some ⟨w.heap.size,0,none⟩) m m)) w':=by
  simp only[execOp,h1,h2];simp[q1]
 have Ca:S'.r d=.un:=by rw[hr d (by simp)];exact qF
 have e0:(m:Int).toNat=m:=by simp
 have hall:SV.dj E.M ((List.replicate m zz).flatMap e) (madeCells zv.cells (m*n)).toList:=by
  rw[xL zv.cells n hz hn];exact cJ.holds (l:=((List.replicate m zv.cells.toList).flatten.map SV.v)) (AA hi m) (yT _ _)
 have hlen:(List.replicate (m:Int).toNat zz).length=m:=by simp
 refine bP (C:=C) (by intro c h;cases h) hr' (hL _ _ ⟨_,(h.newRow Ca oR [] none (.inl ⟨rfl,rfl⟩) (R':=TR E0 n e (List.replicate (m:Int).toNat zz)) (by show w'.ownsRow 0 E0 n _ (List.replicate (m:Int).toNat zz).length _;rw[hlen];exact q2) (by rw[e0];exact hall) (.inr (.inl rfl)) q3).put (d:=d) (x:=.row d) (v:=.slice (some ⟨w.heap.size,0,none⟩) m m) (by simp[AV.holds]) (by show d<S'.n;omega) ⟨λ_ e=>e.elim,λj e=>?_⟩⟩);cases e;show(AS.kX S' d _).r d≠_;rw[AS.eJ];simp
theorem RT.De(hg:Gd ops S gd rg)[tS:dB P T E0 n][tE:gX P E0 n by_ zv]{kl kc:IntKind}{c:Int}(hx:S.ev x=.sv (.v (.int kl 0)))(hy:S.ev y=.sv (.v (.int kc c)))(hd:d<S.n)(qF:S.r d=.un)(oR:d<1000)(h:I0 (α:=α) by_ c=some l')
  (next:RunT P C ops nd K rest (⟨rg++(aW x++aW y),[],[d],⟨some (d,.row d),[],[(d,.live (TR E0 n e l'))]⟩⟩::acc) ((AS.bz [(d,.live (TR E0 n e l'))] S).set d (.row d))):RunT P C ops nd K (⟨some d,.makeSlice T x y,ty,pos,aft,gd⟩::rest) acc S:=by
 obtain⟨h0,h1,h2,rfl⟩:=Ga h;exact RT.PU hg hx hy hd qF oR h0 h1 h2 next
theorem RT.Yx(hg:Gd ops S gd rg)[tS:dB P T E0 n]{i j:Nat}{E1:TypeId}{kk:IntKind}{v:Int}(hx:S.ev x=.row i)(hR:S.r i=.live (TR E1 n e l))(hy:S.ev y=.sv (.v (.int kk v)))(hd:d<S.n)(h:qu l v=some j)
  (next:RunT P C ops nd K rest (⟨rg++(aW x++aW y),[],[i],⟨some (d,.fB i (j*n)),[],[]⟩⟩::acc) (S.set d (.fB i (j*n)))):RunT P C ops nd K (⟨some d,.indexAddr T x y,ty,pos,aft,gd⟩::rest) acc S:=by
 obtain⟨h0,h1,h2⟩:=F8 h;exact RT.ixR hg (.row hx hR) hy hd h0 h1 (j*n) (by rw[h2];omega) next
theorem RT.Ql(hg:Gd ops S gd rg)[tV:ni P T][el:EL e 1]{i j:Nat}{E1:TypeId}{a:α}{s:SV}(hx:S.ev x=.fB i (j*1))(hR:S.r i=.live (TR E1 1 e l))(ha:l[j]? =some a)(hs:e a=[s])(hd:d<S.n)
  (next:RunT P C ops nd K rest (⟨rg++aW x,[],[i],⟨some (d,.sv s),[],[]⟩⟩::acc) (S.set d (.sv s))):RunT P C ops nd K (⟨some d,.load T x,ty,pos,aft,gd⟩::rest) acc S:=by
 refine RT.ldR hg hx hR (s:=s) ?_ hd next
 have:=vW (e:=e) ha;rw[hs]at this;have h2:=congrArg (·[0]?) this;simpa[List.getElem?_take]using h2
theorem RT.Qm(hg:Gd ops S gd rg)[tA:rZ P T n][el:EL e n]{i j:Nat}{E1:TypeId}{a:α}(hx:S.ev x=.fB i (j*n))(hR:S.r i=.live (TR E1 n e l))(ha:l[j]? =some a)(hd:d<S.n)
  (next:RunT P C ops nd K rest (⟨rg++aW x,[],[i],⟨some (d,.sv (.agg (e a))),[],[]⟩⟩::acc) (S.set d (.sv (.agg (e a))))):RunT P C ops nd K (⟨some d,.load T x,ty,pos,aft,gd⟩::rest) acc S:=
 RT.XY hg hx hR (vW ha) (el.len a) hd next
theorem I5(a:List SV)(k:Nat)(s:SV):a.set k s=gU a k [s]:=rfl
theorem RT.Yy(hg:Gd ops S gd rg)[tV:ni P T][el:EL e 1]{i j:Nat}{E1:TypeId}{s:SV}[o1:One s](a:α)(hs:e a=[s])(hx:S.ev x=.fB i (j*1))(hR:S.r i=.live (TR E1 1 e l))(hy:S.ev y=.sv s)(h:stM l j a=some l')
  (next:RunT P C ops nd K rest (⟨rg++(aW x++aW y),[],[i],⟨none,[],[(i,.live (TR E1 1 e l'))]⟩⟩::acc) (AS.bz [(i,.live (TR E1 1 e l'))] S)):RunT P C ops nd K (⟨none,.store T x y,ty,pos,aft,gd⟩::rest) acc S:=by
 obtain⟨h1,rfl⟩:=Aw h;refine RT.stR hg hx hR hy (by show j*1+1<=l.length*1;omega) ((l.set j a).flatMap e) (by rw[I5,<-hs];exact Ay h1) ?_;have:(TR E1 1 e (l.set j a))=⟨E1,1,l.length,(l.set j a).flatMap e⟩:=by show Row.mk _ _ _ _=_;rw[List.length_set]
 rw[<-this];exact next
theorem RT.Qn(hg:Gd ops S gd rg)[tA:rZ P T n][el:EL e n]{i j:Nat}{E1:TypeId}(a:α)(hx:S.ev x=.fB i (j*n))(hR:S.r i=.live (TR E1 n e l))(hy:S.ev y=.sv (.agg (e a)))(h:stM l j a=some l')
  (next:RunT P C ops nd K rest (⟨rg++(aW x++aW y),[],[i],⟨none,[],[(i,.live (TR E1 n e l'))]⟩⟩::acc) (AS.bz [(i,.live (TR E1 n e l'))] S)):RunT P C ops nd K (⟨none,.store T x y,ty,pos,aft,gd⟩::rest) acc S:=by
 obtain⟨h1,rfl⟩:=Aw h;have o1:=el.one a;refine RT.XZ hg hx hR hy (el.len a) (by show j*n+n<=l.length*n;have:=Nat.mul_le_mul_right n h1;rw[Nat.succ_mul]at this;exact this) ((l.set j a).flatMap e) (Ay h1) ?_;have:(TR E1 n e (l.set j a))=⟨E1,n,l.length,(l.set j a).flatMap e⟩:=by show Row.mk _ _ _ _=_;rw[List.length_set]
 rw[<-this];exact next
end steps
theorem ji{S:AS}{i n:Nat}{E1:TypeId}{α:Type}{e:α->List SV}{l:List α}[el:EL e n](hR:S.r i=.live (TR E1 n e l)):lz S (S.jQ i (slc n (l.map e))):=by
 rintro C a w ⟨E,h⟩;have hlen:l.length<=9223372036854775807:=by
  obtain⟨⟨vs,ho,hv⟩,_⟩:=h.rx i _ hR;rcases ho.2 with⟨_,q2⟩|⟨g',cap,cur,q1,_,q2,q3,q4,q5,q6⟩
  ·have q2:l.length=0:=q2;omega
  have q3:l.length<=cap:=q3;have:maxLen=9223372036854775807:=by decide
  omega
 exact h.jQ hR (nE l) (by rw[List.length_map]) hlen (ke l) (λ_ _ h _=>h)
section control
variable {P:Program}{C:Ctx}{S:AS}{Q:Exit->AS->Prop}
theorem bH{A:Code}{J R:Type}{kB:J->Option R}{fA:(J->Option R)->Option R}{r:R}(h:di kB fA=some r)(I:J->AS)
  (hA:fA kB=some r->Ok P C A S (aV (λS'=>∃j,kB j=some r/\lz S' (I j)) Q)) (hQ:∀j,kB j=some r->Q .normal (I j)):Ok P C A S Q:=λa w hs=>by
 refine wpIn_mono (hA h a w hs) ?_;rintro e a' w' ⟨S',q,hh⟩;cases e with
 |normal=>obtain⟨j,h1,h2⟩:=q;exact⟨_,hQ j h1,h2 C a' w' hh⟩
 |_=>exact⟨S',q,hh⟩
theorem bW{A:Code}{X:Type}(I:X->AS)(p:X->Prop)(hA:Ok P C A S (aV (λS'=>∃j,p j/\lz S' (I j)) Q))(hQ:∀j,p j->Q .normal (I j)):Ok P C A S Q:=λa w hs=>by
 refine wpIn_mono (hA a w hs) ?_;rintro e a' w' ⟨S',q,hh⟩;cases e with
 |normal=>obtain⟨j,h1,h2⟩:=q;exact⟨_,hQ j h1,h2 C a' w' hh⟩
 |_=>exact⟨S',q,hh⟩
theorem bX{c:Code}{T E:Type}{body:T->Option (T⊕E)}{s0:T}{e:E}(h:cH body s0=some e)(I:T->AS)(h0:lz S (I s0))
  (round:∀(s:T) (y:T⊕E) (G:T->Prop),body s=some y->(∀s',y=.inl s'->G s')->(∀e',y=.inr e'->e'=e)->Ok P C c (I s) (aV (λS'=>∃s',G s'/\lz S' (I s')) Q)):Ok P C (.loop c) S Q:=by
 obtain⟨n,hn⟩:=pN h;refine uW (ι:={x:T×Nat//jS body x.2 x.1=some e}) (λx=>I x.1.1) (λx=>x.1.2) ⟨(s0,n),hn⟩ h0 ?_;rintro⟨⟨s,m⟩,hm⟩;cases m with
 |zero=>cases hm
 |succ m=>
  cases hb:body s with
  |none=>simp only[jS,hb]at hm;cases hm
  |some y=>
   refine yG (round s y (λs'=>jS body m s'=some e) hb ?_ ?_) ?_
   ·rintro s' rfl;simpa only[jS,hb]using hm
   ·rintro e' rfl;simp only[jS,hb]at hm;exact Option.some.inj hm
   intro ex S' q;cases ex with
   |normal=>obtain⟨s',h1,h2⟩:=q;exact⟨⟨(s',m),h1⟩,Nat.lt_succ_self m,h2⟩
   |_=>exact q
end control
end
section
open Go.RowKit
abbrev M5:=List UInt8
def bs(l:M5):ByteArray:=⟨⟨l⟩⟩
def oU(l:M5)(i:Int):Option Nat:=(cq l i).map UInt8.toNat
theorem I6(l:M5):(bs l).size=l.length:=rfl
theorem M6(l:M5)(i:Nat):(bs l)[i]? =l[i]? :=by
 rcases Nat.lt_or_ge i l.length with h|h
 ·rw[getElem?_pos (bs l) i h,List.getElem?_eq_getElem h];rfl
 rw[getElem?_neg (bs l) i (by rw[I6];omega),List.getElem?_eq_none h]
section steps
variable {P:Program}{C:Ctx}{ops:Array Oper}{S:AS}{nd:Bool}{K:List Ac->AS->Prop}{rest:List Oper}{acc:List Ac}
variable {gd:Option (Nat×Bool)}{rg:List Nat}{d:Nat}{ty:TypeId}{pos:String}{aft:Array Edge}{x y z:Operand}{T U E0:TypeId}
variable {l l' k:M5}
theorem RT.skV{op:Op}{j g:Nat}{b want:Bool}(h1:(ops[j]?).bind (·.dst)=some g)(h2:S.t g=.sv (.v (.bool b)))(hb:b≠want)(hd:d<S.n)
  (next:RunT P C ops nd K rest (⟨[g],[],[],⟨some (d,.sv (.v undef)),[],[]⟩⟩::acc) (S.set d (.sv (.v undef)))):RunT P C ops nd K (⟨some d,op,ty,pos,aft,some (j,want)⟩::rest) acc S:=by
 refine .inl ⟨[g],[],[],⟨some (d,.sv (.v undef)),[],[]⟩,?_,next⟩;rintro S' hn ht _ _ i a w L Q ho ⟨E,h⟩ hL;have hv:=h.tm g;rw[ht g (by simp),h2]at hv;have hv:a.tmps.getD g undef=.bool b:=hv;have xH:a.tmps[g]? =some (.bool b):=by
  rw[Array.getD_eq_getD_getElem?]at hv;cases e:a.tmps[g]? with
  |none=>rw[e]at hv;simp[undef]at hv
  |some x=>rw[e]at hv;simp at hv;rw[hv]
 have hw:Region.wanted ⟨some d,op,ty,pos,aft,some (j,want)⟩ (yielded ops a.tmps)=false:=by
  simp[Region.wanted,yielded,h1,xH,hb]
 simp only[wpOpIn,ho,hw];exact⟨λ_ _=>trivial,hL _ _ ⟨E,h.put (x:=.sv (.v undef)) (v:=undef) Y (by omega) ⟨λ_ h=>h.elim,λ_ h=>h.elim⟩⟩⟩
theorem RT.Qo{op:Op}{j g:Nat}{want:Bool}(h1:(ops[j]?).bind (·.dst)=some g)(h2:S.t g=.sv (.v undef))(hd:d<S.n)
  (next:RunT P C ops nd K rest (⟨[g],[],[],⟨some (d,.sv (.v undef)),[],[]⟩⟩::acc) (S.set d (.sv (.v undef)))):RunT P C ops nd K (⟨some d,op,ty,pos,aft,some (j,want)⟩::rest) acc S:=by
 refine .inl ⟨[g],[],[],⟨some (d,.sv (.v undef)),[],[]⟩,?_,next⟩;rintro S' hn ht _ _ i a w L Q ho ⟨E,h⟩ hL;have hv:=h.tm g;rw[ht g (by simp),h2]at hv;have hv:a.tmps.getD g undef=undef:=hv;rw[Array.getD_eq_getD_getElem?]at hv;have hw:Region.wanted ⟨some d,op,ty,pos,aft,some (j,want)⟩ (yielded ops a.tmps)=false:=by
  cases e:a.tmps[g]? with
  |none=>simp[Region.wanted,yielded,h1,e]
  |some x=>
   rw[e]at hv;simp only[Option.getD_some]at hv;subst hv;simp[Region.wanted,yielded,h1,e,undef]
 simp only[wpOpIn,ho,hw];exact⟨λ_ _=>trivial,hL _ _ ⟨E,h.put (x:=.sv (.v undef)) (v:=undef) Y (by omega) ⟨λ_ h=>h.elim,λ_ h=>h.elim⟩⟩⟩
theorem RT.six(hg:Gd ops S gd rg)[tS:Kw P T]{kk:IntKind}{i:Int}{c:Nat}(hx:S.ev x=.sv (.v (.string (bs l))))(hy:S.ev y=.sv (.v (.int kk i)))(hd:d<S.n)(h:oU l i=some c)
  (next:RunT P C ops nd K rest (⟨rg++(aW x++aW y),[],[],⟨some (d,.sv (.v (.int .u8 (c:Nat)))),[],[]⟩⟩::acc) (S.set d (.sv (.v (.int .u8 (c:Nat)))))):RunT P C ops nd K (⟨some d,.index T x y,ty,pos,aft,gd⟩::rest) acc S:=
 RT.BY hg (by intro c h;cases h) hx hy hd (λρ w h1 h2=>by
  unfold oU at h;cases hh:cq l i with
  |none=>rw[hh]at h;cases h
  |some b=>
   rw[hh]at h;obtain⟨q1,q2⟩:=lC hh;have q3:b.toNat=c:=Option.some.inj h;have q4:(bs l)[i.toNat]? =some b:=by rw[M6];exact q2
   simp[execOp,h1,h2,Instr.index,asIntOf,underlying,tS.h,q1,q4,q3]) next
end steps
section rows
variable {P:Program}{C:Ctx}{ops:Array Oper}{S:AS}{nd:Bool}{K:List Ac->AS->Prop}{rest:List Oper}{acc:List Ac}
variable {gd:Option (Nat×Bool)}{rg:List Nat}{d:Nat}{ty:TypeId}{pos:String}{aft:Array Edge}{x y z:Operand}{T U E0:TypeId}
variable {α:Type}{l l' k:List α}{e:α->List SV}{n by_:Nat}{zv:Value}
end rows
end
section
open Go.RowKit
def oV{α:Type}(l l':List α):Option Unit:=if l'.length=l.length then some ()else none
theorem jk{α:Type}{l l':List α}{u:Unit}(h:oV l l'=some u):l'.length=l.length:=by
 unfold oV at h;split at h
 ·assumption
 cases h
def M7{α:Type}(l:List α)(lo hi:Int):Option (Nat×Nat):=if 0<=lo/\lo<l.length/\lo<=hi/\hi<=l.length then some (lo.toNat,(hi-lo).toNat)else none
theorem Gf{α:Type}{l:List α}{lo hi:Int}{o n:Nat}(h:M7 l lo hi=some (o,n)):0<=lo/\lo<l.length/\lo<=hi/\hi<=l.length/\lo.toNat=o/\(hi-lo).toNat=n:=by
 unfold M7 at h;split at h
 ·rename_i hh;obtain⟨q1,q2⟩:=Prod.mk.inj (Option.some.inj h);exact⟨hh.1,hh.2.1,hh.2.2.1,hh.2.2.2,q1,q2⟩
 cases h
def Is(o n:Nat)(i:Int):Option Nat:=if 0<=i/\i<n then some (o+i.toNat)else none
theorem Gg{o n j:Nat}{i:Int}(h:Is o n i=some j):0<=i/\i<n/\o+i.toNat=j:=by
 unfold Is at h;split at h
 ·rename_i hh;exact⟨hh.1,hh.2,Option.some.inj h⟩
 cases h
def u0:List (List SV)->List (List SV)->Prop
 |[],[]=>True
 |r::l,r'::l'=>cJ r r'/\u0 l l'
 |_,_=>False
theorem cJ.get:∀{l l':List SV} {k:Nat} {s':SV},cJ l l'->l'[k]? =some s'->∃s,l[k]? =some s/\SV.imp s s'
 |x::_,y::_,0,_,h,e=>⟨x,Y,by simp at e;subst e;exact h.1⟩
 |_::l,_::l',k+1,_,h,e=>by simpa using cJ.get (l:=l) (l':=l') h.2 (by simpa using e)
 |[],[],_,_,_,e=>by simp at e
 |[],_::_,_,_,h,_=>h.elim
 |_::_,[],_,_,h,_=>h.elim
theorem u0.get:∀{l l':List (List SV)} {k:Nat} {s':List SV},u0 l l'->l'[k]? =some s'->∃s,l[k]? =some s/\cJ s s'
 |x::_,y::_,0,_,h,e=>⟨x,Y,by simp at e;subst e;exact h.1⟩
 |_::l,_::l',k+1,_,h,e=>by simpa using u0.get (l:=l) (l':=l') h.2 (by simpa using e)
 |[],[],_,_,_,e=>by simp at e
 |[],_::_,_,_,h,_=>h.elim
 |_::_,[],_,_,h,_=>h.elim
theorem I7{α:Type}{e:α->List SV}{l:List α}{n:Nat}{M:Mem}{v:Value}(h:(slc n (l.map e)).h M v):l.length<=9223372036854775807:=by
 rcases h with⟨_,_,h⟩|⟨b,o,c,_,_,h,_⟩
 ·have:l=[]:=by simpa using h
  subst this;simp
 rwa[List.length_map]at h
theorem Df{α:Type}{e:α->List SV}{l:List α}{n:Nat}{M:Mem}{v:Value}(h:(ref [slc n (l.map e)]).h M v):l.length<=9223372036854775807:=by
 obtain⟨b,o,_,h⟩:=h;obtain⟨y,_,_,h⟩:=h 0 _ Y;exact I7 h
theorem pP{l:List Nat}{i:Nat}(h:l.length<=i):l.getD i 0=0:=by simp[List.getD,List.getElem?_eq_none h]
theorem nF{l:List Nat}{i:Nat}(h:i<l.length):l[i]? =some (l.getD i 0):=by simp[List.getD,h]
theorem Ck{α β:Type}(a:List α)(b:List β)(i:Nat)(h:i<=max a.length b.length):(i<max a.length b.length/\i<a.length/\i<b.length)\/(i<max a.length b.length/\i<a.length/\b.length<=i)\/(i<max a.length b.length/\a.length<=i/\i<b.length)\/i=max a.length b.length:=by omega
section steps
variable {P:Program}{C:Ctx}{ops:Array Oper}{S:AS}{nd:Bool}{K:List Ac->AS->Prop}{rest:List Oper}{acc:List Ac}
variable {gd:Option (Nat×Bool)}{rg:List Nat}{d:Nat}{ty:TypeId}{pos:String}{aft:Array Edge}{x y z:Operand}{T U E0:TypeId}
variable {α:Type}{l l' k:List α}{e:α->List SV}{n by_:Nat}{zv:Value}
theorem M8{E1:TypeId}(h:l'.length=l.length):(⟨E1,n,l.length,l'.flatMap e⟩:Row)=TR E1 n e l':=by show _=Row.mk _ _ _ _;rw[h]
theorem RT.M9(hg:Gd ops S gd rg){f:FuncId}[dX P f]{g:Operand}{xs:Array Operand}{at_:Array TypeId}{args:List AV}{E1:TypeId}{res:AV}(hp:Cd P f args (TR E1 n e l) res (l'.flatMap e))(hlen:l'.length=l.length)(i:Nat)(hR:S.r i=.live (TR E1 n e l))(hrow:args.all AV.sq=true)(hres:res.sq=true)
  (hf:S.ev g=.sv (.v (.func (.func f) #[] #[]))) (hargs:me S xs.toList (args.map (AV.tH i))) (hd:d<S.n)
  (next:RunT P C ops nd K rest (⟨rg++(aW g++xs.toList.flatMap aW),[],[i],⟨some (d,res.tH i),[],[(i,.live (TR E1 n e l'))]⟩⟩::acc) ((AS.bz [(i,.live (TR E1 n e l'))] S).set d (res.tH i))):RunT P C ops nd K (⟨some d,.call ⟨.value g,xs,at_⟩,ty,pos,aft,gd⟩::rest) acc S:=
 RT.P3 hg hp i hR hrow hres hf hargs hd (by rw[M8 hlen];exact next)
theorem RT.Qp(hg:Gd ops S gd rg)[tS:dB P T E0 n]{i o m:Nat}{E1:TypeId}{lo hi:Option Operand}(a b:Int)(hx:S.ev x=.row i)(hR:S.r i=.live (TR E1 n e l))(hlo:vK S 0 lo a)(hhi:vK S l.length hi b)(hd:d<S.n)(h:M7 l a b=some (o,m))
  (next:RunT P C ops nd K rest (⟨rg++(aW x++(jR lo++jR hi)),[],[i],⟨some (d,.jO i (o*n) m),[],[]⟩⟩::acc) (S.set d (.jO i (o*n) m))):RunT P C ops nd K (⟨some d,.slice T x lo hi none,ty,pos,aft,gd⟩::rest) acc S:=by
 obtain⟨h0,h1,h2,h3,h4,h5⟩:=Gf h;exact RT.MM hg (.row hx hR) a b hlo hhi hd h0 h1 h2 h3 (o*n) m (by rw[h4];omega) h5 next
theorem RT.Na(hg:Gd ops S gd rg){m:Nat}[tS:dB P T E0 m]{i o q:Nat}{c:Int}(hx:S.ev x=.jO i o q)(hd:d<S.n)(hc:(q:Int)=c)
  (next:RunT P C ops nd K rest (⟨rg++aW x,[],[],⟨some (d,.sv (.v (.int .i64 c))),[],[]⟩⟩::acc) (S.set d (.sv (.v (.int .i64 c))))):RunT P C ops nd K (⟨some d,.call ⟨.builtin .len,#[x],#[T]⟩,ty,pos,aft,gd⟩::rest) acc S:=
 RT.P2 hg hx hd (by rw[hc];exact next)
theorem RT.AB(hg:Gd ops S gd rg)[tS:dB P T E0 n]{i o q j:Nat}{kk:IntKind}{v:Int}(hx:S.ev x=.jO i (o*n) q)(hy:S.ev y=.sv (.v (.int kk v)))(hd:d<S.n)(h:Is o q v=some j)
  (next:RunT P C ops nd K rest (⟨rg++(aW x++aW y),[],[],⟨some (d,.fB i (j*n)),[],[]⟩⟩::acc) (S.set d (.fB i (j*n)))):RunT P C ops nd K (⟨some d,.indexAddr T x y,ty,pos,aft,gd⟩::rest) acc S:=by
 obtain⟨h0,h1,h2⟩:=Gg h;exact RT.ixR hg (.jO hx) hy hd h0 h1 (j*n) (by rw[<-h2,Nat.add_mul]) next
end steps
def nG{S:Type}(body:Nat->S->Option S):Nat->S->Option S
 |0,s=>some s
 |n+1,s=>(nG body n s).bind (body n)
theorem sy{S:Type}{body:Nat->S->Option S}:∀{n:Nat} {s e:S},nG body n s=some e->∃st:Nat->S,st 0=s/\(∀k,k<n->body k (st k)=some (st (k+1)))/\st n=e
 |0,s,e,h=>⟨λ_=>s,Y,λ_ h=>by omega,Option.some.inj h⟩
 |n+1,s,e,h=>by
  obtain⟨e1,h1,h2⟩:=bind_some (x:=nG body n s) h;obtain⟨st,q1,q2,q3⟩:=sy h1;refine⟨λk=>if k=n+1 then e else st k,by simpa using q1,λk hk=>?_,by simp⟩;rcases Nat.lt_or_ge k n with hkn|hkn
  ·simpa[show k≠n+1 by omega,show k≠n by omega]using q2 k hkn
  obtain rfl:k=n:=by omega
  simpa[q3]using h2
theorem xM{S:Type}{body:Nat->S->Option S}(st:Nat->S):∀(n:Nat),(∀k,k<n->body k (st k)=some (st (k+1)))->nG body n (st 0)=some (st n)
 |0,_=>rfl
 |n+1,h=>by
  rw[nG,xM st n (λk hk=>h k (by omega))];exact h n (by omega)
end
section
open Go.RowKit
def Gh(es:List (Value×Value)):SV where
 h M v:=∃b,v=.map (some b)/\M b 0=some (.tuple ⟨es.map λp=>.tuple #[p.1,p.2]⟩)
 mono hM h:=by obtain⟨b,e,h⟩:=h;exact⟨b,e,hM _ _ _ h⟩
class Dg (P:Program) (T:TypeId) (k:outParam TypeId) (e:outParam TypeId):Prop where
 u:P.underlying T=some (.map k e)
def xN(k:IntKind)(n:Int):List (Value×Value)->Option Value
 |[]=>none
 |(.int k' m,v)::l=>if k=k' then(if n=m then some v else xN k n l)else none
 |_::_=>none
theorem oW{k:IntKind}{n:Int}{v:Value}:∀(es:List MapEntry) (i:Nat),xN k n (es.map λe=>(e.key,e.val))=some v->∃j,Instr.findNow (.int k) (.int k n) es i=some (some (j,v))
 |[],_,h=>by simp[xN]at h
 |⟨key,val,born⟩::es,i,h=>by
  cases key with
  |int k' m=>
   simp only[List.map_cons,xN]at h;by_cases hk:k=k'
   ·subst hk;rw[if_pos rfl]at h;by_cases hn:n=m
    ·subst hn;rw[if_pos rfl]at h;cases h;exact⟨i,by simp[Instr.findNow,Instr.sameNow]⟩
    rw[if_neg hn]at h;obtain⟨j,hj⟩:=oW es (i+1) h;have hb:(n==m)=false:=by simp[hn]
    exact⟨j,by simp[Instr.findNow,Instr.sameNow,hb,hj]⟩
   rw[if_neg hk]at h;cases h
  |_=>simp[xN]at h
theorem Dh:∀(l:List (Value×Value)) (m:List MapEntry),l.map (λp=>Value.tuple #[p.1,p.2])=m.map (λe=>Value.tuple #[e.key,e.val])->m.map (λe=>(e.key,e.val))=l
 |[],[],_=>rfl
 |[],_::_,h=>by simp at h
 |_::_,[],h=>by simp at h
 |(p,q)::l,e::m,h=>by
  simp only[List.map_cons,List.cons.injEq,Value.tuple.injEq]at h⊢;refine⟨?_,Dh l m h.2⟩;have:=h.1;simp at this;rw[this.1,this.2]
theorem Gi{es:Array MapEntry}{l:List (Value×Value)}(h:(⟨l.map λp=>.tuple #[p.1,p.2]⟩:Array Value)=ID es):es.toList.map (λe=>(e.key,e.val))=l:=
 Dh l es.toList (congrArg Array.toList h)
theorem getM{P:Program}{w:World}{r:Nat}{es:Array MapEntry}{ck:Nat}(hb:w.heap[r]? =some (.map es ck)):(getObj r).run P w=.ok (.map es ck) w:=by simp[getObj,Sem.run,hb]
theorem Yz{P:Program}{w:World}{r:Nat}{es:Array MapEntry}{ck:Nat}(o:Obj)(hb:w.heap[r]? =some (.map es ck)):(setObj r o).run P w=.ok () {w with heap:=w.heap.setIfInBounds r o}:=by simp[setObj,Sem.run,hb]
theorem ckM{P:Program}{w:World}{kt:TypeId}{k:IntKind}[tI:iD P kt k]{n:Int}(bb:Bool):(Instr.checkKey bb 10000 kt (.int k n)).run P w=.ok () w:=by
 rw[show(10000:Nat)=9999+1 from rfl,Instr.checkKey];simp[underlying,tI.h]
theorem Gj{M:Mem}:∀l:List Value,SV.dj M (l.map SV.v) l
 |[]=>trivial
 |_::l=>⟨Y,Gj l⟩
section steps
variable {P:Program}{C:Ctx}{ops:Array Oper}{S:AS}{nd:Bool}{K:List Ac->AS->Prop}{rest:List Oper}{acc:List Ac}
variable {gd:Option (Nat×Bool)}{rg:List Nat}{d:Nat}{ty:TypeId}{pos:String}{aft:Array Edge}{x y z:Operand}{T U E0:TypeId}
theorem RT.look(hg:Gd ops S gd rg){kt et:TypeId}[tM:Dg P T kt et]{k:IntKind}[tI:iD P kt k]{es:List (Value×Value)}{n:Int}(cs:List Value)(hx:S.ev x=.sv (Gh es))(hy:S.ev y=.sv (.v (.int k n)))(hl:xN k n es=some (.agg ⟨cs⟩))(hd:d<S.n)
  (next:RunT P C ops nd K rest (⟨rg++(aW x++aW y),[],[],⟨some (d,.sv (.agg (cs.map SV.v))),[],[]⟩⟩::acc) (S.set d (.sv (.agg (cs.map SV.v))))):RunT P C ops nd K (⟨some d,.lookup T x y false,ty,pos,aft,gd⟩::rest) acc S:=
 RT.value hg (aW x++aW y) [] [] (.sv (.agg (cs.map SV.v))) hd (by intro c h;cases h) (λS' ht _ _ E a w h=>by
  have h1:=h.ev x;rw[bk (λ_ h=>List.mem_append_left _ h) ht,hx]at h1;have h2:a.eval y=.int k n:=by have h2:=h.ev y;rw[bk (λ_ h=>List.mem_append_right _ h) ht,hy]at h2;exact h2
  obtain⟨b,e,hb⟩:=h1;obtain⟨ms,ck,hm,he⟩:=h.b8 _ _ _ hb;have he:=Gi he;rw[<-he]at hl;obtain⟨j,hj⟩:=oW ms.toList 0 hl;refine⟨.agg ⟨cs⟩,?_,⟨cs,Y,?_⟩,dD⟩
  ·have YA:(Instr.findKey kt (.int k n) ms.toList).run P w=.ok (some (j,.agg ⟨cs⟩)) w:=by
    simp[Instr.findKey,underlying,tI.h,hj]
   simp[execOp,e,h2,Instr.lookup,underlying,tM.u,getM hm,ckM,YA]
  exact Gj cs) next
def nH(w:World)(ms:Array MapEntry)(ck:Nat):World:=w.alloc (.map ms ck)
theorem sB(w:World)(ms:Array MapEntry)(ck:Nat):(nH w ms ck).heap[w.heap.size]? =some (.map ms ck):=by show(w.heap.push _)[w.heap.size]? =_;simp
theorem run_make{d:Option Nat}{ρ:Operand->Value}{w:World}:(execOp ρ ⟨d,.makeMap T none,ty,pos,aft,none⟩).run P w=.ok (.value (.map (some w.heap.size))) (nH w #[] 0):=by
 simp[execOp,Instr.makeMap,nH]
theorem va{d:Option Nat}{kt et:TypeId}[tM:Dg P T kt et]{k:IntKind}[tI:iD P kt k]{ρ:Operand->Value}{w:World}{ms:Array MapEntry}{ck:Nat}{n:Int}{v:Value}(hx:ρ x=.map (some w.heap.size))(hy:ρ y=.int k n)(hz:ρ z=v)
  (hf:Instr.findNow (.int k) (.int k n) ms.toList 0=some none):(execOp ρ ⟨d,.insert T x y z,ty,pos,aft,none⟩).run P (nH w ms ck)=.ok .skip (nH w (ms.push ⟨.int k n,v,ck⟩) (ck+1)):=by
 have YA:(Instr.findKey kt (.int k n) ms.toList).run P (nH w ms ck)=.ok none (nH w ms ck):=by
  simp[Instr.findKey,underlying,tI.h,hf]
 have YB:∀o:Obj,{nH w ms ck with heap:=(nH w ms ck).heap.setIfInBounds w.heap.size o}=w.alloc o:=by
  intro o;simp only[nH,World.alloc];congr 1;apply Array.ext';simp
 simp[execOp,hx,hy,hz,Instr.mapUpdate,underlying,tM.u,getM (sB w ms ck),ckM,YA,Yz _ (sB w ms ck)];exact YB _
theorem vb{d:Option Nat}{z0:Value}[tP:gj P U [(0,1)] [z0]]{ρ:Operand->Value}{w:World}{v:Value}(hx:ρ x=v)(hv:v.oneCell'=true):(execOp ρ ⟨d,.build U #[(0,x)],ty,pos,aft,none⟩).run P w=.ok (.value (.agg #[v])) w:=by
 have hu:=tP.h;cases hT:P.underlying U with
 |none=>rw[hT]at hu;cases hu
 |some u=>
  rw[hT]at hu;cases u with
  |struct fs=>
   simp only at hu;have hz:(zeroValue U).run P w=.ok (.agg ⟨[z0]⟩) w:=iL.run (t:=⟨tP.hz⟩) w;have hm:(fs.mapM (λf=>do pure (f.offset,<-sizeOf f.type):Field->Sem (Nat×Nat))).run P w=.ok #[(0,1)] w:=by
    have:=kM (P:=P) (w:=w) hu;rw[<-Array.toArray_toList (xs:=fs),List.mapM_toArray];rw[Sem.run_map,this];rfl
   simp only[execOp,Instr.build,underlying];simp only[Sem.run_bind,hz,Result.andThen_ok,run_program,hT,Sem.run_pure,Value.cells];have hm':(Array.mapM (λf=>do
     let __do_lift<-sizeOf f.type
     pure (f.offset,__do_lift)) fs:Sem _).run P w=.ok #[(0,1)] w:=hm
   simp only[hm',Result.andThen_ok];have h1':Instr.fill (λi=>(#[(0,1)]:Array (Nat×Nat))[i]?) ⟨[z0]⟩ [(0,v)]=some ⟨[v]⟩:=by
    simp[Instr.fill,fY hv]
    try rfl
   have e4:(Array.map (λx=>match x with|(i,x)=>(i,ρ x)) #[(0,x)]).toList=[(0,v)]:=by simp[hx]
   simp only[e4,h1',Sem.run_pure,Result.andThen_ok]
  |_=>cases hu
theorem I8{Q:Exit->AS->Prop}{id:Nat}{T U kt et t0:TypeId}[tM:Dg P T kt et]{k:IntKind}[tI:iD P kt k]{z0:Value}[tP:gj P U [(0,1)] [z0]]{f1 f2 f3 f4:FuncId}{n1 n2 n3 n4:Int}
  {p0 p1 p2 p3 p4 p5 p6 p7 p8 p9 p10:String} {a0 a1 a2 a3 a4 a5 a6 a7 a8 a9 a10:Array Edge} {u1 u2 u3 u4 u5 u6 u7 u8 u9:TypeId} (hn:7<=S.n)
  (h2:Instr.findNow (.int k) (.int k n2) [⟨.int k n1,.agg #[.func (.func f1) #[] #[]],0⟩] 0=some none)
  (h3:Instr.findNow (.int k) (.int k n3) [⟨.int k n1,.agg #[.func (.func f1) #[] #[]],0⟩,⟨.int k n2,.agg #[.func (.func f2) #[] #[]],1⟩] 0=some none)
  (h4:Instr.findNow (.int k) (.int k n4) [⟨.int k n1,.agg #[.func (.func f1) #[] #[]],0⟩,⟨.int k n2,.agg #[.func (.func f2) #[] #[]],1⟩,⟨.int k n3,.agg #[.func (.func f3) #[] #[]],2⟩] 0=some none)
  (hQ:∀S',S'.t 0=.sv (Gh [(.int k n1,.agg #[.func (.func f1) #[] #[]]),(.int k n2,.agg #[.func (.func f2) #[] #[]]),(.int k n3,.agg #[.func (.func f3) #[] #[]]),(.int k n4,.agg #[.func (.func f4) #[] #[]])])->Q .normal S'):
  Ok P C (.region id #[⟨some 1,.makeMap T none,t0,p0,a0,none⟩,⟨some 2,.build U #[(0,.func f1)],u1,p1,a1,none⟩,⟨none,.insert T (.tmp 1) (.const (.int k n1)) (.tmp 2),u2,p2,a2,none⟩,
   ⟨some 3,.build U #[(0,.func f2)],u3,p3,a3,none⟩,⟨none,.insert T (.tmp 1) (.const (.int k n2)) (.tmp 3),u4,p4,a4,none⟩,⟨some 4,.build U #[(0,.func f3)],u5,p5,a5,none⟩,⟨none,.insert T (.tmp 1) (.const (.int k n3)) (.tmp 4),u6,p6,a6,none⟩,
   ⟨some 5,.build U #[(0,.func f4)],u7,p7,a7,none⟩,⟨none,.insert T (.tmp 1) (.const (.int k n4)) (.tmp 5),u8,p8,a8,none⟩,⟨some 6,.move (.tmp 1),u9,p9,a9,none⟩,⟨some 0,.assign (.tmp 6),u9,p10,a10,none⟩] false) S Q:=by
 rintro a w ⟨E,h⟩;refine wpIn_region ?_;show wpOpsIn _ _ _ _ _ [0,1,2,3,4,5,6,7,8,9,10] a w;have hS:∀(S:AS) (d:Nat) (x:AV),(S.set d x).n=S.n:=λ_ _ _=>rfl;rw[wpOpsIn_cons];refine bO (C:=C) rfl rfl (bP (C:=C) (by intro c h;cases h) run_make ?_);have g1:=h.put (d:=1) (x:=.sv (.v (.map (some w.heap.size)))) (v:=.map (some w.heap.size)) Y (by omega) dD;show wpOpsIn _ _ _ _ _ _ (a.put (some 1) _) _;generalize a.put (some 1) (.map (some w.heap.size))=b1 at g1⊢;rw[wpOpsIn_cons];refine bO (C:=C) rfl rfl (bP (C:=C) (by intro c h;cases h) (vb rfl rfl) ?_);have g2:=g1.put (d:=2) (x:=.sv (.v (.agg #[.func (.func f1) #[] #[]]))) (v:=.agg #[.func (.func f1) #[] #[]]) Y (by rw[hS];omega) dD;show wpOpsIn _ _ _ _ _ _ (b1.put (some 2) (.agg #[.func (.func f1) #[] #[]])) _;generalize b1.put (some 2) (.agg #[.func (.func f1) #[] #[]])=b2 at g2⊢;rw[wpOpsIn_cons];refine bO (C:=C) rfl rfl (bP (C:=C) (by intro c h;cases h) (va (k:=k) (n:=n1) (v:=.agg #[.func (.func f1) #[] #[]]) (g2.ev (.tmp 1)) rfl (g2.ev (.tmp 2)) rfl) ?_);show wpOpsIn _ _ _ _ _ _ (b2.put none undef) _;rw[show b2.put none undef=b2 from rfl,wpOpsIn_cons];refine bO (C:=C) rfl rfl (bP (C:=C) (by intro c h;cases h) (vb rfl rfl) ?_)
 have g3:=g2.put (d:=3) (x:=.sv (.v (.agg #[.func (.func f2) #[] #[]]))) (v:=.agg #[.func (.func f2) #[] #[]]) Y (by rw[hS,hS];omega) dD;show wpOpsIn _ _ _ _ _ _ (b2.put (some 3) (.agg #[.func (.func f2) #[] #[]])) _;generalize b2.put (some 3) (.agg #[.func (.func f2) #[] #[]])=b3 at g3⊢;rw[wpOpsIn_cons];refine bO (C:=C) rfl rfl (bP (C:=C) (by intro c h;cases h) (va (k:=k) (n:=n2) (v:=.agg #[.func (.func f2) #[] #[]]) (g3.ev (.tmp 1)) rfl (g3.ev (.tmp 3)) (by simpa using h2)) ?_);show wpOpsIn _ _ _ _ _ _ (b3.put none undef) _;rw[show b3.put none undef=b3 from rfl,wpOpsIn_cons];refine bO (C:=C) rfl rfl (bP (C:=C) (by intro c h;cases h) (vb rfl rfl) ?_);have g4:=g3.put (d:=4) (x:=.sv (.v (.agg #[.func (.func f3) #[] #[]]))) (v:=.agg #[.func (.func f3) #[] #[]]) Y (by rw[hS,hS,hS];omega) dD;show wpOpsIn _ _ _ _ _ _ (b3.put (some 4) (.agg #[.func (.func f3) #[] #[]])) _;generalize b3.put (some 4) (.agg #[.func (.func f3) #[] #[]])=b4 at g4⊢;rw[wpOpsIn_cons];refine bO (C:=C) rfl rfl (bP (C:=C) (by intro c h;cases h) (va (k:=k) (n:=n3) (v:=.agg #[.func (.func f3) #[] #[]]) (g4.ev (.tmp 1)) rfl (g4.ev (.tmp 4)) (by simpa using h3)) ?_);show wpOpsIn _ _ _ _ _ _ (b4.put none undef) _
 rw[show b4.put none undef=b4 from rfl,wpOpsIn_cons];refine bO (C:=C) rfl rfl (bP (C:=C) (by intro c h;cases h) (vb rfl rfl) ?_);have g5:=g4.put (d:=5) (x:=.sv (.v (.agg #[.func (.func f4) #[] #[]]))) (v:=.agg #[.func (.func f4) #[] #[]]) Y (by rw[hS,hS,hS,hS];omega) dD;show wpOpsIn _ _ _ _ _ _ (b4.put (some 5) (.agg #[.func (.func f4) #[] #[]])) _;generalize b4.put (some 5) (.agg #[.func (.func f4) #[] #[]])=b5 at g5⊢;rw[wpOpsIn_cons];refine bO (C:=C) rfl rfl (bP (C:=C) (by intro c h;cases h) (va (k:=k) (n:=n4) (v:=.agg #[.func (.func f4) #[] #[]]) (g5.ev (.tmp 1)) rfl (g5.ev (.tmp 5)) (by simpa using h4)) ?_);show wpOpsIn _ _ _ _ _ _ (b5.put none undef) _;have e1:b5.eval (.tmp 1)=.map (some w.heap.size):=g5.ev (.tmp 1);obtain⟨ms,hms⟩:∃ms:Array MapEntry,(((((#[]:Array MapEntry).push ⟨.int k n1,.agg #[.func (.func f1) #[] #[]],0⟩).push ⟨.int k n2,.agg #[.func (.func f2) #[] #[]],0+1⟩).push ⟨.int k n3,.agg #[.func (.func f3) #[] #[]],0+1+1⟩).push ⟨.int k n4,.agg #[.func (.func f4) #[] #[]],0+1+1+1⟩)=ms:=⟨_,Y⟩;rw[hms];have hno:∀o,E.M w.heap.size o=none:=λo=>by
  cases e:E.M w.heap.size o with
  |none=>rfl
  |some v=>have:=gQ h.b8 e;omega
 have g6:=g5.grow (M':=λb o=>if b=w.heap.size/\o=0 then some (.tuple (ID ms))else E.M b o) (w':=nH w ms (0+1+1+1+1)) (λb o v e=>by
   have:b≠w.heap.size:=by rintro rfl;rw[hno o]at e;cases e
   simp[this,e]) (λb o v e=>by
   by_cases hb:b=w.heap.size/\o=0
   ·exact .inr (by omega)
   ·simp only[if_neg hb]at e;exact .inl e) (λb o v e=>by
   by_cases hb:b=w.heap.size/\o=0
   ·simp only[if_pos hb]at e;obtain⟨rfl,rfl⟩:=hb;cases e;exact⟨ms,_,sB w ms _,Y⟩
   simp only[if_neg hb]at e;have hlt:=gQ h.b8 e;refine(h.b8 b o v e).same ?_;show(w.heap.push _)[b]? =_;rw[Array.getElem?_push,if_neg (by omega)]) ((Below.refl _ _).alloc (Nat.le_refl _) _)
 have hm:∀X:Env,X.M w.heap.size 0=some (.tuple (ID ms))->(Gh [(.int k n1,.agg #[.func (.func f1) #[] #[]]),(.int k n2,.agg #[.func (.func f2) #[] #[]]),(.int k n3,.agg #[.func (.func f3) #[] #[]]),(.int k n4,.agg #[.func (.func f4) #[] #[]])]).h X.M (.map (some w.heap.size)):=λX hX=>by
  refine⟨_,Y,?_⟩;rw[hX,<-hms];rfl
 have g7:=g6.put (d:=6) (x:=.sv (.v (.map (some w.heap.size)))) (v:=.map (some w.heap.size)) Y (by rw[hS,hS,hS,hS,hS];omega) dD;rw[show b5.put none undef=b5 from rfl,wpOpsIn_cons];refine bO (C:=C) rfl rfl (bP (C:=C) (by intro c h;cases h) (r:=.ok (.value (.map (some w.heap.size))) _) (by show Result.ok (Next.value (b5.eval (.tmp 1))) _=_;rw[e1]) ?_);show wpOpsIn _ _ _ _ _ _ (b5.put (some 6) (.map (some w.heap.size))) _;generalize b5.put (some 6) (.map (some w.heap.size))=b6 at g7⊢;have e6:b6.eval (.tmp 6)=.map (some w.heap.size):=g7.ev (.tmp 6);have g8:=g7.put (d:=0) (x:=.sv (Gh [(.int k n1,.agg #[.func (.func f1) #[] #[]]),(.int k n2,.agg #[.func (.func f2) #[] #[]]),(.int k n3,.agg #[.func (.func f3) #[] #[]]),(.int k n4,.agg #[.func (.func f4) #[] #[]])])) (v:=.map (some w.heap.size)) (hm _ (by simp)) (by rw[hS,hS,hS,hS,hS,hS];omega) dD;rw[wpOpsIn_cons];refine bO (C:=C) rfl rfl (bP (C:=C) (by intro c h;cases h) (r:=.ok (.value (.map (some w.heap.size))) _) (by show Result.ok (Next.value (b6.eval (.tmp 6))) _=_;rw[e6]) ?_);show wpOpsIn _ _ _ _ _ _ (b6.put (some 0) (.map (some w.heap.size))) _;rw[wpOpsIn];exact⟨_,hQ _ Y,_,g8⟩
end steps
def Pr(Q:Exit->AS->Prop):Exit->AS->Prop
 |.goto _,_=>False
 |e,S=>Q e S
section scope
variable {P:Program}{C:Ctx}{S:AS}{Q:Exit->AS->Prop}
theorem Pr.n(h:Q .normal S):Pr Q .normal S:=h
theorem Pr.r(h:Q .ret S):Pr Q .ret S:=h
theorem Pr.x{id:Nat}(h:Q (.exit id) S):Pr Q (.exit id) S:=h
end scope
end
end Go.Fw
namespace Go.Proofs.Ytmiflmkdaeianaa
section
open Go.Fw
open Go.Proofs
noncomputable abbrev ah:=Try.prog
instance:iD ah 2 .i64:=⟨by kernel_rfl⟩
instance:iD ah 3 .i64:=⟨by kernel_rfl⟩
instance:ni ah 3:=⟨by kernel_rfl,by kernel_rfl⟩
instance:yH ah 4:=⟨by kernel_rfl⟩
instance:ni ah 4:=⟨by kernel_rfl,by kernel_rfl⟩
instance:iD ah 5 .u8:=⟨by kernel_rfl⟩
instance:ni ah 5:=⟨by kernel_rfl,by kernel_rfl⟩
instance:Kw ah 9:=⟨by kernel_rfl⟩
instance:ni ah 22:=⟨by kernel_rfl,by kernel_rfl⟩
instance:iL ah 22 (.slice none 0 0):=⟨by kernel_rfl⟩
instance:dB ah 22 80 1:=⟨by kernel_rfl,by kernel_rfl⟩
instance:rZ ah 24 2:=⟨by kernel_rfl,by kernel_rfl⟩
instance:vE ah 24:=⟨λw=>⟨1,rZ.size (T:=24) (n:=2) w⟩⟩
instance:iL ah 24 (.agg #[.bool false,.slice none 0 0]):=⟨by kernel_rfl⟩
instance:gX ah 24 2 32 (.agg #[.bool false,.slice none 0 0]):=⟨by kernel_rfl,by rfl,by decide,by decide⟩
instance:gj ah 24 [(0,1),(1,1)] [.bool false,.slice none 0 0]:=⟨by kernel_rfl,by kernel_rfl,by rfl⟩
instance:sg ah 24 0 0 4:=⟨by kernel_rfl⟩
instance:sg ah 24 1 1 22:=⟨by kernel_rfl⟩
instance:rZ ah 26 4:=⟨by kernel_rfl,by kernel_rfl⟩
instance:vE ah 26:=⟨λw=>⟨3,rZ.size (T:=26) (n:=4) w⟩⟩
instance:iL ah 26 (.agg #[.bool false,.slice none 0 0,.bool false,.slice none 0 0]):=⟨by kernel_rfl⟩
instance:gX ah 26 4 64 (.agg #[.bool false,.slice none 0 0,.bool false,.slice none 0 0]):=⟨by kernel_rfl,by rfl,by decide,by decide⟩
instance:gj ah 26 [(0,2),(2,2)] [.bool false,.slice none 0 0,.bool false,.slice none 0 0]:=⟨by kernel_rfl,by kernel_rfl,by rfl⟩
instance:sg ah 26 0 0 24:=⟨by kernel_rfl⟩
instance:sg ah 26 1 2 24:=⟨by kernel_rfl⟩
instance:ni ah 28:=⟨by kernel_rfl,by kernel_rfl⟩
instance:gX ah 28 1 24 (.slice none 0 0):=⟨by kernel_rfl,by rfl,by decide,by decide⟩
instance:dB ah 28 26 4:=⟨by kernel_rfl,by kernel_rfl⟩
instance:dB ah 33 56 7:=⟨by kernel_rfl,by kernel_rfl⟩
instance:dB ah 37 24 2:=⟨by kernel_rfl,by kernel_rfl⟩
instance:ni ah 39:=⟨by kernel_rfl,by kernel_rfl⟩
instance:dB ah 39 43 5:=⟨by kernel_rfl,by kernel_rfl⟩
instance:rZ ah 43 5:=⟨by kernel_rfl,by kernel_rfl⟩
instance:iL ah 43 (.agg #[.int .i64 0,.int .u8 0,.int .i64 0,.bool false,.slice none 0 0]):=⟨by kernel_rfl⟩
instance:gX ah 43 5 56 (.agg #[.int .i64 0,.int .u8 0,.int .i64 0,.bool false,.slice none 0 0]):=⟨by kernel_rfl,by rfl,by decide,by decide⟩
instance:gj ah 43 [(0,1),(1,1),(2,1),(3,2)] [.int .i64 0,.int .u8 0,.int .i64 0,.bool false,.slice none 0 0]:=⟨by kernel_rfl,by kernel_rfl,by rfl⟩
instance:sg ah 43 0 0 3:=⟨by kernel_rfl⟩
instance:sg ah 43 1 1 5:=⟨by kernel_rfl⟩
instance:sg ah 43 2 2 3:=⟨by kernel_rfl⟩
instance:sg ah 43 3 3 24:=⟨by kernel_rfl⟩
instance:dB ah 49 88 5:=⟨by kernel_rfl,by kernel_rfl⟩
instance:gX ah 56 7 88 (.agg #[.int .i64 0,.int .u8 0,.int .i64 0,.bool false,.slice none 0 0,.bool false,.slice none 0 0]):=⟨by kernel_rfl,by rfl,by decide,by decide⟩
instance:sg ah 56 0 0 3:=⟨by kernel_rfl⟩
instance:sg ah 56 1 1 5:=⟨by kernel_rfl⟩
instance:sg ah 56 2 2 3:=⟨by kernel_rfl⟩
instance:sg ah 56 3 3 26:=⟨by kernel_rfl⟩
instance:gj ah 66 [(0,1),(1,1)] [.int .i64 0,.slice none 0 0]:=⟨by kernel_rfl,by kernel_rfl,by rfl⟩
instance:sg ah 66 0 0 3:=⟨by kernel_rfl⟩
instance:sg ah 66 1 1 39:=⟨by kernel_rfl⟩
instance:dB ah 79 28 1:=⟨by kernel_rfl,by kernel_rfl⟩
instance:iD ah 80 .u32:=⟨by kernel_rfl⟩
instance:ni ah 80:=⟨by kernel_rfl,by kernel_rfl⟩
instance:gX ah 80 1 4 (.int .u32 0):=⟨by kernel_rfl,by rfl,by decide,by decide⟩
instance:gX ah 88 5 56 (.agg #[.int .i64 0,.int .u8 0,.int .i64 0,.bool false,.slice none 0 0]):=⟨by kernel_rfl,by rfl,by decide,by decide⟩
instance:sg ah 88 0 0 3:=⟨by kernel_rfl⟩
instance:sg ah 88 1 1 5:=⟨by kernel_rfl⟩
instance:sg ah 88 2 2 3:=⟨by kernel_rfl⟩
instance:sg ah 88 3 3 24:=⟨by kernel_rfl⟩
instance:iD ah 100 .u64:=⟨by kernel_rfl⟩
instance:ni ah 100:=⟨by kernel_rfl,by kernel_rfl⟩
instance:ni ah 113:=⟨by kernel_rfl,by kernel_rfl⟩
instance:gj ah 115 [(0,1)] [.nilFunc]:=⟨by kernel_rfl,by kernel_rfl,by rfl⟩
instance:sg ah 115 0 0 113:=⟨by kernel_rfl⟩
instance:Dg ah 116 5 115:=⟨by kernel_rfl⟩
instance:ni ah 119:=⟨by kernel_rfl,by kernel_rfl⟩
instance:iL ah 119 (.nilFunc):=⟨by kernel_rfl⟩
instance:iD ah 124 .u64:=⟨by kernel_rfl⟩
instance:dX ah 9:=⟨by kernel_rfl⟩
instance:dX ah 10:=⟨by kernel_rfl⟩
instance:dX ah 11:=⟨by kernel_rfl⟩
instance:dX ah 12:=⟨by kernel_rfl⟩
instance:dX ah 14:=⟨by kernel_rfl⟩
instance:dX ah 15:=⟨by kernel_rfl⟩
instance:dX ah 16:=⟨by kernel_rfl⟩
instance:dX ah 17:=⟨by kernel_rfl⟩
instance:dX ah 18:=⟨by kernel_rfl⟩
instance:dX ah 19:=⟨by kernel_rfl⟩
instance:dX ah 20:=⟨by kernel_rfl⟩
instance:dX ah 21:=⟨by kernel_rfl⟩
instance:dX ah 22:=⟨by kernel_rfl⟩
instance:dX ah 23:=⟨by kernel_rfl⟩
instance:dX ah 24:=⟨by kernel_rfl⟩
instance:dX ah 25:=⟨by kernel_rfl⟩
instance:dX ah 26:=⟨by kernel_rfl⟩
instance:dX ah 27:=⟨by kernel_rfl⟩
instance:dX ah 28:=⟨by kernel_rfl⟩
instance:dX ah 31:=⟨by kernel_rfl⟩
instance:dX ah 32:=⟨by kernel_rfl⟩
instance:dX ah 33:=⟨by kernel_rfl⟩
instance:dX ah 34:=⟨by kernel_rfl⟩
instance:dX ah 35:=⟨by kernel_rfl⟩
instance:dX ah 36:=⟨by kernel_rfl⟩
instance:dX ah 39:=⟨by kernel_rfl⟩
instance:dX ah 40:=⟨by kernel_rfl⟩
instance:dX ah 41:=⟨by kernel_rfl⟩
instance:dX ah 50:=⟨by kernel_rfl⟩
instance:dX ah 51:=⟨by kernel_rfl⟩
instance:dX ah 52:=⟨by kernel_rfl⟩
instance:dX ah 53:=⟨by kernel_rfl⟩
instance:dX ah 54:=⟨by kernel_rfl⟩
instance:dX ah 55:=⟨by kernel_rfl⟩
instance:dX ah 56:=⟨by kernel_rfl⟩
instance:dX ah 57:=⟨by kernel_rfl⟩
instance:dX ah 58:=⟨by kernel_rfl⟩
instance:dX ah 61:=⟨by kernel_rfl⟩
instance:dX ah 62:=⟨by kernel_rfl⟩
instance:dX ah 63:=⟨by kernel_rfl⟩
instance:dX ah 64:=⟨by kernel_rfl⟩
instance:dX ah 65:=⟨by kernel_rfl⟩
instance:dX ah 66:=⟨by kernel_rfl⟩
instance:dX ah 67:=⟨by kernel_rfl⟩
instance:dX ah 68:=⟨by kernel_rfl⟩
instance:dX ah 69:=⟨by kernel_rfl⟩
instance:dX ah 70:=⟨by kernel_rfl⟩
instance:dX ah 71:=⟨by kernel_rfl⟩
instance:dX ah 72:=⟨by kernel_rfl⟩
instance:dX ah 73:=⟨by kernel_rfl⟩
instance:dX ah 87:=⟨by kernel_rfl⟩
instance:dX ah 88:=⟨by kernel_rfl⟩
instance:dX ah 89:=⟨by kernel_rfl⟩
instance:dX ah 90:=⟨by kernel_rfl⟩
instance:dX ah 91:=⟨by kernel_rfl⟩
instance:dX ah 92:=⟨by kernel_rfl⟩
instance:dX ah 93:=⟨by kernel_rfl⟩
instance:dX ah 94:=⟨by kernel_rfl⟩
instance:dX ah 106:=⟨by kernel_rfl⟩
instance:dX ah 109:=⟨by kernel_rfl⟩
instance:dX ah 110:=⟨by kernel_rfl⟩
instance:dX ah 111:=⟨by kernel_rfl⟩
instance:dX ah 112:=⟨by kernel_rfl⟩
instance:dX ah 113:=⟨by kernel_rfl⟩
instance:dX ah 114:=⟨by kernel_rfl⟩
instance:dX ah 118:=⟨by kernel_rfl⟩
theorem mixed:Try.prog.follows .mixedOrders=true:=by kernel_rfl
end
section
open Go.Fw Go.RowKit
def snap(W:World):Mem:=λb o=>(W.cell? ⟨b,o,none⟩).filter Value.oneCell'
theorem I9(W:World):(snap W).b8 W:=λ_ _ _ e=>by
 obtain⟨e1,e2⟩:=Option.filter_eq_some_iff.1 e;exact .of e1 e2
theorem Ja{W:World}{b o:Nat}{v:Value}(h:W.cell? ⟨b,o,none⟩=some v)(h1:v.oneCell'=true):snap W b o=some v:=Option.filter_eq_some_iff.2 ⟨h,h1⟩
theorem kN{H:Type}{P:Program}{ts:List TypeId}{ds:List (DataW H)}(j:Nat){t:TypeId}{d:DataW H}(h:(DataW.weightsEach P ts ds).all (· <=reachBytes)=true)(ht:ts[j]? =some t)(hd:ds[j]? =some d):(d.weights P t).all (· <=reachBytes)=true:=
 List.all_eq_true.2 λn hn=>List.all_eq_true.1 h n (DataW.weights_mem_each ht hd n hn)
theorem nI{H:Type}{P:Program}{e:TypeId}:∀{ds:List (DataW H)} {d:DataW H},d∈ds->∀n∈d.weights P e,n∈DataW.weightsAll P e ds
 |x::ds,d,h,n,hn=>by
  simp only[DataW.weightsAll,List.mem_append];rcases List.mem_cons.1 h with rfl|h
  ·exact .inl hn
  exact .inr (nI h n hn)
class xO (P:Program) (T:TypeId) {α:Type} (e:α->List SV) (ok:outParam (α->Prop)) (sz:outParam (α->Nat)):Prop where
 h:∀{H:Type} (enc:TypeId×Value->H) (W:World) (fuel:Nat) (cs:List Value) (d:DataW H) (p:List MemPlace),DataW.trod enc P W 0 (λ_=>true) true fuel T cs=some (d,p)->(d.weights P T).all (· <=reachBytes)=true->
  ∃x:α,ok x/\SV.dj (snap W) (e x) cs/\(∀v∈cs,v.oneCell'=true)/\sz x<=Rows.uptoBulk d
section opn
variable {P:Program}{T:TypeId}
theorem Cm{k:IntKind}{n:Int}(h:(Lit.int k n).wf=true):k.min<=n/\n<=k.max:=by simpa[Lit.wf]using h
instance[t:iD P T .i64]:xO P T M1 (λx=>-9223372036854775808<=x/\x<=9223372036854775807) (λ_=>1):=⟨λenc W fuel cs d p h AD=>by
 obtain⟨n,rfl,hx,hw⟩:=DataW.trod_int t.h h;cases hx;have:=Cm hw;exact⟨n,by simpa[IntKind.min,IntKind.max,IntKind.signed,IntKind.bits]using this,⟨rfl,aq⟩,by simp[Value.oneCell'],by simp[Rows.uptoBulk]⟩⟩
instance[t:iD P T .i16]:xO P T Yp (λx=>-32768<=x/\x<=32767) (λ_=>1):=⟨λenc W fuel cs d p h AD=>by
 obtain⟨n,rfl,hx,hw⟩:=DataW.trod_int t.h h;cases hx;have:=Cm hw;exact⟨n,by simpa[IntKind.min,IntKind.max,IntKind.signed,IntKind.bits]using this,⟨rfl,aq⟩,by simp[Value.oneCell'],by simp[Rows.uptoBulk]⟩⟩
theorem KG{k:IntKind}{M:Nat}{e:Nat->List SV}(t:iD P T k)(hk:k.min=0/\k.max=(M:Int)-1)(he:∀n:Nat,e n=[.v (.int k (n:Int))]):xO P T e (λx=>x<M) (λ_=>1):=⟨λenc W fuel cs d p h AD=>by
 obtain⟨n,rfl,hx,hw⟩:=DataW.trod_int t.h h;cases hx;have:=Cm hw;rw[hk.1,hk.2]at this;obtain⟨m,rfl⟩:=Int.eq_ofNat_of_zero_le this.1;exact⟨m,by omega,by rw[he];exact⟨Y,aq⟩,by simp[Value.oneCell'],by simp[Rows.uptoBulk]⟩⟩
instance[t:iD P T .u8]:xO P T Yo (λx=>x<256) (λ_=>1):=KG t (by decide) (λ_=>rfl)
instance[t:iD P T .u32]:xO P T aZ (λx=>x<4294967296) (λ_=>1):=KG t (by decide) (λ_=>rfl)
instance[t:yH P T]:xO P T eB (λ_=>True) (λ_=>1):=⟨λenc W fuel cs d p h AD=>by
 obtain⟨b,rfl,hx⟩:=DataW.trod_bool t.h h;cases hx;exact⟨b,aq,⟨rfl,aq⟩,by simp[Value.oneCell'],by simp[Rows.uptoBulk]⟩⟩
theorem AE{H α:Type}(sz:α->Nat):∀(xs:List α) (ds:List (DataW H)),xs.length=ds.length->(∀(i:Nat) (x:α) (d:DataW H),xs[i]? =some x->ds[i]? =some d->sz x<=Rows.uptoBulk d)->(xs.map sz).sum<=Rows.uptoBulkAll ds
 |[],[],_,_=>by simp
 |x::xs,d::ds,hl,h=>by
  have h1:=h 0 x d Y Y;have h2:=AE sz xs ds (by simpa using hl) (λi x d e1 e2=>h (i+1) x d (by simpa using e1) (by simpa using e2));simp only[List.map_cons,List.sum_cons,Rows.uptoBulkAll];omega
 |[],_::_,hl,_=>by simp at hl
 |_::_,[],hl,_=>by simp at hl
instance{E:TypeId}{n:Nat}{α:Type}{e:α->List SV}{ok:α->Prop}{sz:α->Nat}{by_:Nat}{zv:Value}[t:dB P T E n][tE:gX P E n by_ zv][el:EL e n][o:xO P E e ok sz]:xO P T (eS n e) (λl=>l.length*by_<=140737488351232/\∀x∈l,ok x) (λl=>(l.map sz).sum+1):=⟨λ{H} enc W fuel cs d p h AD=>by
 have hcell:P.cellsOf E=n:=by
  have h1:=t.size W;simp only[sizeOf,typeInfo]at h1;cases hi:P.info? E with
  |none=>simp[hi]at h1
  |some i=>simp[hi]at h1;simp[Program.cellsOf,hi,h1]
 have hml:maxLen=9223372036854775807:=by decide
 have hby:P.bytesOf E=by_:=by
  obtain⟨i,hi,_,hb,_⟩:=tE.info;rw[Program.bytesOf,hi];exact hb
 rcases Deep.open_slice t.u h with⟨rfl,hx⟩|⟨a,len,cap,m,n',D,Pl,rfl,_,hl,hm,hmm,hx,hel⟩
 ·cases hx;exact⟨[],⟨by simp,by simp⟩,⟨.inl ⟨none,rfl,rfl⟩,aq⟩,by simp[Value.oneCell'],by simp[Rows.uptoBulk]⟩
 cases hx;rw[if_pos rfl]at hmm;subst hmm;simp only[DataW.weights,t.u,List.all_cons,List.all_append,Bool.and_eq_true,List.length_map,List.length_range,decide_eq_true_eq,hby]at AD;obtain⟨hw0,V4,YC⟩:=AD;have hwi:∀i,i<m->((D i).weights P E).all (· <=reachBytes)=true:=λi hi=>List.all_eq_true.2 λn hn=>by
  rcases Nat.lt_or_ge i len with q|q
  ·exact List.all_eq_true.1 V4 n (nI (List.mem_map.2 ⟨i,List.mem_range.2 q,rfl⟩) n hn)
  exact List.all_eq_true.1 YC n (nI (List.mem_map.2 ⟨i-len,List.mem_range.2 (by omega),by rw[show len+(i-len)=i by omega]⟩) n hn)
 have hlb:len*by_<=140737488351232:=Nat.le_trans (Nat.mul_le_mul_right _ (Nat.le_add_right _ _)) hw0;have one:∀i,i<m->∃x,ok x/\sz x<=Rows.uptoBulk (D i)/\∃cs',W.cells? 0 (a.add (i*n)) n=some cs'/\SV.dj (snap W) (e x) cs'/\(∀v∈cs',v.oneCell'=true):=by
  intro i hi;obtain⟨cs',h1,h2⟩:=hel i hi;obtain⟨x,q1,q2,q3,q4⟩:=o.h enc W n' cs' (D i) (Pl i) h2 (hwi i hi);rw[hcell]at h1;exact⟨x,q1,q4,cs',h1,q2,q3⟩
 obtain⟨xs,Qq,hxs⟩:∃xs:List α,xs.length=len/\∀(i:Nat) (x:α),xs[i]? =some x->ok x/\sz x<=Rows.uptoBulk (D i)/\∃cs',W.cells? 0 (a.add (i*n)) n=some cs'/\SV.dj (snap W) (e x) cs'/\(∀v∈cs',v.oneCell'=true):=by
  clear h hm hel;have:∀k,k<=len->∃xs:List α,xs.length=k/\∀(i:Nat) (x:α),xs[i]? =some x->ok x/\sz x<=Rows.uptoBulk (D i)/\∃cs',W.cells? 0 (a.add (i*n)) n=some cs'/\SV.dj (snap W) (e x) cs'/\(∀v∈cs',v.oneCell'=true):=by
   intro k
   induction k with
   |zero=>intro _;exact⟨[],rfl,by simp⟩
   |succ k ih=>
    intro hk;obtain⟨xs,h1,h2⟩:=ih (by omega);obtain⟨x,hx⟩:=one k (by omega);refine⟨xs++[x],by simp[h1],λi y hy=>?_⟩;rcases Nat.lt_or_ge i k with hi|hi
    ·exact h2 i y (by rwa[List.getElem?_append_left (by omega)]at hy)
    rw[List.getElem?_append_right (by omega)]at hy;have XX:i=k:=by
     rcases Nat.lt_or_ge (i-xs.length) 1 with q|q
     ·omega
     rw[List.getElem?_eq_none (by simpa using q)]at hy;cases hy
    subst XX;rw[h1,Nat.sub_self]at hy;simp at hy;subst hy;exact hx
  exact this len (Nat.le_refl _)
 refine⟨xs,⟨by rw[Qq];exact hlb,λx hx=>?_⟩,⟨?_,aq⟩,by simp[Value.oneCell'],?_⟩
 ·obtain⟨i,hi,rfl⟩:=List.getElem_of_mem hx;exact(hxs i _ (List.getElem?_eq_getElem hi)).1
 ·by_cases h0:xs=[]
  ·subst h0;simp at Qq;subst Qq;by_cases hc0:m=0
   ·subst hc0;exact .inl ⟨_,rfl,rfl⟩
   obtain⟨x,_,_,cs',g1,g2,_⟩:=one 0 (by omega);obtain⟨_,g3,g4⟩:=World.cells?_some g1;have hn:0<n:=tE.p;have g5:=g4 0 hn;obtain⟨b,o',spot⟩:=a;have Gk:spot=none:=by
    have:∃v,W.cell? (((⟨b,o',spot⟩:Addr).add (0*n)).add 0)=some v:=by
     rw[g5];exact⟨_,List.getElem?_eq_getElem (by omega)⟩
    obtain⟨v,hv⟩:=this;simpa[Addr.add]using World.cell?_spot hv
   subst Gk;refine .inr ⟨b,o',m,rfl,by simp,by simp,λi row hr=>by simp at hr⟩
  have tL:0<len:=by
   rcases Nat.eq_zero_or_pos len with hz|hz
   ·exact absurd (List.eq_nil_of_length_eq_zero (by omega)) h0
   exact hz
  have hn:0<n:=tE.p;obtain⟨x,_,_,cs',g1,g2,_⟩:=one 0 (by omega);obtain⟨_,g3,g4⟩:=World.cells?_some g1;have g5:=g4 0 hn;obtain⟨b,o',spot⟩:=a;have Gk:spot=none:=by
   have:∃v,W.cell? (((⟨b,o',spot⟩:Addr).add (0*n)).add 0)=some v:=by
    rw[g5];exact⟨_,List.getElem?_eq_getElem (by omega)⟩
   obtain⟨v,hv⟩:=this;simpa[Addr.add]using World.cell?_spot hv
  subst Gk;refine .inr ⟨b,o',m,by rw[List.length_map,Qq],by rw[List.length_map];omega,by rw[List.length_map];omega,λi row hr=>?_⟩;rw[List.getElem?_map]at hr;cases hx:xs[i]? with
  |none=>rw[hx]at hr;cases hr
  |some y=>
   rw[hx]at hr;have hr:e y=row:=Option.some.inj hr;subst hr;obtain⟨_,_,cs2,k1,k2,k3⟩:=hxs i y hx;obtain⟨_,k4,k5⟩:=World.cells?_some k1;refine⟨el.len y,λk s hk=>?_⟩;obtain⟨u,hu,hs⟩:=k2.get hk;have hkn:k<n:=by have:=(List.getElem?_eq_some_iff.1 hu).1;omega
   have k6:=k5 k hkn;rw[ez,ez,hu]at k6;exact⟨u,Ja k6 (k3 u (List.mem_of_getElem? hu)),k3 u (List.mem_of_getElem? hu),hs⟩
 have hb:Rows.uptoBulk (DataW.slice ((List.range len).map D) ((List.range (m-len)).map λj=>D (len+j)))=Rows.uptoBulkAll ((List.range len).map D)+Rows.uptoBulkAll ((List.range (m-len)).map λj=>D (len+j))+1:=rfl;rw[hb];have:=AE sz xs ((List.range len).map D) (by simp[Qq]) (λi x d e1 e2=>by
  have hi:i<len:=by have:=(List.getElem?_eq_some_iff.1 e1).1;omega
  simp[hi]at e2;subst e2;exact(hxs i x e1).2.1)
 omega⟩
class V5 (P:Program) (T:TypeId) (k:outParam Nat):Prop where
 h:(match P.underlying T with|some (.struct fs)=>some fs.size|_=>none)=some k
theorem yU{k:Nat}[s:V5 P T k]{H:Type}{enc:TypeId×Value->H}{W:World}{fuel:Nat}{cs:List Value}{d:DataW H}{p:List MemPlace}(h:DataW.trod enc P W 0 (λ_=>true) true fuel T cs=some (d,p))(AD:(d.weights P T).all (· <=reachBytes)=true):
  ∃(xs:List (DataW H×List MemPlace)) (n:Nat),d=.agg (xs.map (·.1))/\cs.length=P.cellsOf T/\xs.length=k/\∀(i off:Nat) (U:TypeId),sg P T i off U->DataW.trod enc P W 0 (λ_=>true) true n U ((cs.drop off).take (P.cellsOf U))=xs[i]? /\∀x,xs[i]? =some x->(x.1.weights P U).all (· <=reachBytes)=true:=by
 have hs:=s.h;cases hT:P.underlying T with
 |none=>rw[hT]at hs;cases hs
 |some u=>
  rw[hT]at hs;cases u with
  |struct fs=>
   have hk:fs.size=k:=Option.some.inj hs;obtain⟨xs,n,_,hx,hl,hn,hf⟩:=DataW.trod_struct hT h;have hd:=(Prod.mk.inj hx).1;subst hd;refine⟨xs,n,Y,hl,by omega,λi off U F=>?_⟩;have hF:=F.h;rw[hT]at hF;simp only at hF;cases hg:fs[i]? with
   |none=>rw[hg]at hF;cases hF
   |some f=>
    rw[hg]at hF;simp only[Option.map_some,Option.some.injEq,Prod.mk.injEq]at hF;have:=hf i f hg;rw[hF.1,hF.2]at this;refine⟨this,λx hxi=>?_⟩;simp only[DataW.weights,hT]at AD;exact kN i AD (by rw[List.getElem?_map,Array.getElem?_toList,hg,Option.map_some,hF.2]) (by rw[List.getElem?_map,hxi];rfl)
  |_=>cases hs
class Nb (P:Program) (T:TypeId):Prop where
 h:∀(w:World) (r:Reach) (base:Nat) (v:Value),Value.okWide P w r base T v->v.cells.toList=[v]
instance{k:IntKind}[t:iD P T k]:Nb P T:=⟨λw r base v h=>by
 simp only[Value.okWide,t.h,Cell.okWide,Cell.ok]at h;cases v<;>first|rfl|cases h⟩
instance{E:TypeId}{n:Nat}[t:dB P T E n]:Nb P T:=⟨λw r base v h=>by
 obtain⟨a,l,c,rfl⟩:=WideShapes.okWide_slice t.u h;rfl⟩
theorem yV{α:Type}{e:α->List SV}{ok:α->Prop}{sz:α->Nat}[o1:Nb P T][o:xO P T e ok sz]{H:Type}{enc:TypeId×Value->H}{W:World}{r:Reach}{base:Nat}{v:Value}{d:DataW H}{p:List MemPlace}
  (hv:Value.okWide P W r base T v) (h:DataW.Trod enc P W 0 (λ_=>true) true T v d p) (AD:(d.weights P T).all (· <=reachBytes)=true):∃x,ok x/\sz x<=Rows.uptoBulk d/\SV.dj (snap W) (e x) [v]:=by
 obtain⟨fuel,h⟩:=h;rw[o1.h W r base v hv]at h;obtain⟨x,h1,h2,_,h4⟩:=o.h enc W fuel _ d p h AD;exact⟨x,h1,h4,h2⟩
end opn
theorem Jb{f:FuncId}{vs:List Value}{svs:List SV}{W:World}(hp:Pure ah f svs (.v (.bool true)))(h:SV.dj (snap W) svs vs):
  Calls ah f ⟨vs⟩ W λe w'=>e=.returned (.bool true)/\Below W.heap.size W w':=
 (hp (snap W) W vs (I9 W) h).mono λ_ _ ⟨v,_,h1,_,_,_,h2,h3⟩=>by
  have h2:v=.bool true:=h2;exact⟨by rw[h1,h2],h3⟩
end
section
open Go.Fw Go.RowKit Go.ChangeShapes Go.WideShapes Go.ChangeAt
theorem YD:ownKnob Try.prog.godebug=none:=by kernel_rfl
theorem vX:laidOutB ah=true:=by kernel_rfl
instance:V5 ah 24 2:=⟨by kernel_rfl⟩
set_option maxRecDepth 100000 in
instance:xO ah 24 eZ (λ(z:Zr)=>(True/\(z.w.length*4<=140737488351232/\∀x1∈z.w,x1<4294967296))) (λ(z:Zr)=>(1+((z.w.map λx1=>1).sum+1)+1)):=⟨λenc W fuel cs d p h AD=>by
 obtain⟨xs,n,rfl,hl,hn,hf⟩:=yU h AD;have hl:cs.length=2:=hl.trans (by kernel_rfl)
 match xs,hn with
 |[⟨d0,p0⟩,⟨d1,p1⟩],_=>
 match cs,hl with
 |[c0,c1],_=>
 have t0:DataW.trod enc ah W 0 (λ_=>true) true n 4 [c0]=some (d0,p0):=(by have q:=(hf 0 _ _ inferInstance).1;rw[show Try.prog.cellsOf 4=1 by kernel_rfl]at q;exact q);obtain⟨x0,a0,b0,e0,s0⟩:=xO.h (P:=ah) (T:=4) (e:=eB) enc W n _ d0 p0 t0 ((hf 0 _ _ inferInstance).2 _ Y);have t1:DataW.trod enc ah W 0 (λ_=>true) true n 22 [c1]=some (d1,p1):=(by have q:=(hf 1 _ _ inferInstance).1;rw[show Try.prog.cellsOf 22=1 by kernel_rfl]at q;exact q);obtain⟨x1,a1,b1,e1,s1⟩:=xO.h (P:=ah) (T:=22) (e:=(eS 1 aZ)) enc W n _ d1 p1 t1 ((hf 1 _ _ inferInstance).2 _ Y);refine⟨⟨x0,x1⟩,⟨a0,a1⟩,⟨b0.1,b1.1,aq⟩,?_,?_⟩
 ·intro v hv;simp only[List.mem_cons,List.not_mem_nil,or_false]at hv;rcases hv with rfl|rfl
  ·exact e0 _ (by simp)
  exact e1 _ (by simp)
 simp only[List.map_cons,List.map_nil,Rows.uptoBulk,Rows.uptoBulkAll];omega⟩
instance:V5 ah 26 2:=⟨by kernel_rfl⟩
set_option maxRecDepth 100000 in
instance:xO ah 26 eQ (λ(z:Qr)=>((True/\(z.num.w.length*4<=140737488351232/\∀x1∈z.num.w,x1<4294967296))/\(True/\(z.den.w.length*4<=140737488351232/\∀x1∈z.den.w,x1<4294967296)))) (λ(z:Qr)=>((1+((z.num.w.map λx1=>1).sum+1)+1)+(1+((z.den.w.map λx1=>1).sum+1)+1)+1)):=⟨λenc W fuel cs d p h AD=>by
 obtain⟨xs,n,rfl,hl,hn,hf⟩:=yU h AD;have hl:cs.length=4:=hl.trans (by kernel_rfl)
 match xs,hn with
 |[⟨d0,p0⟩,⟨d1,p1⟩],_=>
 match cs,hl with
 |[c0,c1,c2,c3],_=>
 have t0:DataW.trod enc ah W 0 (λ_=>true) true n 24 [c0,c1]=some (d0,p0):=(by have q:=(hf 0 _ _ inferInstance).1;rw[show Try.prog.cellsOf 24=2 by kernel_rfl]at q;exact q);obtain⟨x0,a0,b0,e0,s0⟩:=xO.h (P:=ah) (T:=24) (e:=eZ) enc W n _ d0 p0 t0 ((hf 0 _ _ inferInstance).2 _ Y);have t1:DataW.trod enc ah W 0 (λ_=>true) true n 24 [c2,c3]=some (d1,p1):=(by have q:=(hf 1 _ _ inferInstance).1;rw[show Try.prog.cellsOf 24=2 by kernel_rfl]at q;exact q);obtain⟨x1,a1,b1,e1,s1⟩:=xO.h (P:=ah) (T:=24) (e:=eZ) enc W n _ d1 p1 t1 ((hf 1 _ _ inferInstance).2 _ Y);refine⟨⟨x0,x1⟩,⟨a0,a1⟩,⟨b0.1,b0.2.1,b1.1,b1.2.1,aq⟩,?_,?_⟩
 ·intro v hv;simp only[List.mem_cons,List.not_mem_nil,or_false]at hv;rcases hv with rfl|rfl|rfl|rfl
  ·exact e0 _ (by simp)
  ·exact e0 _ (by simp)
  ·exact e1 _ (by simp)
  exact e1 _ (by simp)
 simp only[List.map_cons,List.map_nil,Rows.uptoBulk,Rows.uptoBulkAll];omega⟩
instance:V5 ah 56 4:=⟨by kernel_rfl⟩
set_option maxRecDepth 100000 in
instance:xO ah 56 Ax (λ(z:Mv)=>((-9223372036854775808<=z.acc/\z.acc<=9223372036854775807)/\z.kd<256/\(-9223372036854775808<=z.hour/\z.hour<=9223372036854775807)/\((True/\(z.fm.num.w.length*4<=140737488351232/\∀x1∈z.fm.num.w,x1<4294967296))/\(True/\(z.fm.den.w.length*4<=140737488351232/\∀x1∈z.fm.den.w,x1<4294967296))))) (λ(z:Mv)=>(1+1+1+((1+((z.fm.num.w.map λx1=>1).sum+1)+1)+(1+((z.fm.den.w.map λx1=>1).sum+1)+1)+1)+1)):=⟨λenc W fuel cs d p h AD=>by
 obtain⟨xs,n,rfl,hl,hn,hf⟩:=yU h AD;have hl:cs.length=7:=hl.trans (by kernel_rfl)
 match xs,hn with
 |[⟨d0,p0⟩,⟨d1,p1⟩,⟨d2,p2⟩,⟨d3,p3⟩],_=>
 match cs,hl with
 |[c0,c1,c2,c3,c4,c5,c6],_=>
 have t0:DataW.trod enc ah W 0 (λ_=>true) true n 3 [c0]=some (d0,p0):=(by have q:=(hf 0 _ _ inferInstance).1;rw[show Try.prog.cellsOf 3=1 by kernel_rfl]at q;exact q);obtain⟨x0,a0,b0,e0,s0⟩:=xO.h (P:=ah) (T:=3) (e:=M1) enc W n _ d0 p0 t0 ((hf 0 _ _ inferInstance).2 _ Y);have t1:DataW.trod enc ah W 0 (λ_=>true) true n 5 [c1]=some (d1,p1):=(by have q:=(hf 1 _ _ inferInstance).1;rw[show Try.prog.cellsOf 5=1 by kernel_rfl]at q;exact q);obtain⟨x1,a1,b1,e1,s1⟩:=xO.h (P:=ah) (T:=5) (e:=Yo) enc W n _ d1 p1 t1 ((hf 1 _ _ inferInstance).2 _ Y);have t2:DataW.trod enc ah W 0 (λ_=>true) true n 3 [c2]=some (d2,p2):=(by have q:=(hf 2 _ _ inferInstance).1;rw[show Try.prog.cellsOf 3=1 by kernel_rfl]at q;exact q);obtain⟨x2,a2,b2,e2,s2⟩:=xO.h (P:=ah) (T:=3) (e:=M1) enc W n _ d2 p2 t2 ((hf 2 _ _ inferInstance).2 _ Y);have t3:DataW.trod enc ah W 0 (λ_=>true) true n 26 [c3,c4,c5,c6]=some (d3,p3):=(by have q:=(hf 3 _ _ inferInstance).1;rw[show Try.prog.cellsOf 26=4 by kernel_rfl]at q;exact q);obtain⟨x3,a3,b3,e3,s3⟩:=xO.h (P:=ah) (T:=26) (e:=eQ) enc W n _ d3 p3 t3 ((hf 3 _ _ inferInstance).2 _ Y);refine⟨⟨x0,x1,x2,x3⟩,⟨a0,a1,a2,a3⟩,⟨b0.1,b1.1,b2.1,b3.1,b3.2.1,b3.2.2.1,b3.2.2.2.1,aq⟩,?_,?_⟩
 ·intro v hv;simp only[List.mem_cons,List.not_mem_nil,or_false]at hv;rcases hv with rfl|rfl|rfl|rfl|rfl|rfl|rfl
  ·exact e0 _ (by simp)
  ·exact e1 _ (by simp)
  ·exact e2 _ (by simp)
  ·exact e3 _ (by simp)
  ·exact e3 _ (by simp)
  ·exact e3 _ (by simp)
  exact e3 _ (by simp)
 simp only[List.map_cons,List.map_nil,Rows.uptoBulk,Rows.uptoBulkAll];omega⟩
end
end Go.Proofs.Ytmiflmkdaeianaa
namespace Go.Fw
section
open Go.RowKit
theorem Cn{A B C:AS}(h:lz A B)(k:lz B C):lz A C:=λc a w x=>k c a w (h c a w x)
theorem Eu{S:AS}(i o k:Nat)(E0:TypeId)(sz:Nat){T:TypeId}{cells:List AV}(hb:S.b i=some ⟨T,cells⟩)(hc:cells[o]? =some (.sv (.v (.slice none 0 0))))(hk:S.r k=.un)(Qa:k<1000):
  lz S ((AS.bz [(k,.live ⟨E0,sz,0,[]⟩)] S).gP i ⟨T,cells.set o (.row k)⟩):=by
 rintro C a w ⟨E,h⟩;have h1:=h.newRow hk Qa [] none (.inl ⟨Y,Y⟩) (R':=⟨E0,sz,0,[]⟩) (World.ownsRow_nil w 0 E0 sz) (vs':=[]) trivial (.inl Y) (kj w none);have yN:(AS.bz [(k,.live ⟨E0,sz,0,[]⟩)] S).b i=some ⟨T,cells⟩:=hb;have hrk:(AS.bz [(k,.live ⟨E0,sz,0,[]⟩)] S).r k≠ .un:=by
  show(AS.kX S k _).r k≠_;rw[AS.eJ];simp
 refine⟨_,{h1 with wf:=?_,bx:=λj B hB=>?_,inj:=λj j' B B' hB dK e=>?_,rx:=λj R hR=>?_}⟩
 ·refine⟨λt j hj=>?_,h1.wf.tr,λj B hB x hx m hm=>?_,λj B hB x hx m hm=>?_⟩
  ·obtain⟨B,hB⟩:=h1.wf.tb t j hj;by_cases e:j=i
   ·subst e;exact⟨_,AS.cj _ _ _⟩
   exact⟨B,by rw[AS.bF _ _ _ _ e];exact hB⟩
  ·have key:∃B',(AS.bz [(k,.live ⟨E0,sz,0,[]⟩)] S).b m=some B':=by
    by_cases e:j=i
    ·subst e;rw[AS.cj]at hB;cases hB;rcases List.mem_or_eq_of_mem_set hx with hx|rfl
     ·exact h1.wf.bb j _ yN x hx m hm
     exact hm.elim
    rw[AS.bF _ _ _ _ e]at hB;exact h1.wf.bb j B hB x hx m hm
   obtain⟨B',dK⟩:=key;by_cases e:m=i
   ·subst e;exact⟨_,AS.cj _ _ _⟩
   exact⟨B',by rw[AS.bF _ _ _ _ e];exact dK⟩
  by_cases e:j=i
  ·subst e;rw[AS.cj]at hB;cases hB;rcases List.mem_or_eq_of_mem_set hx with hx|rfl
   ·exact h1.wf.br j _ yN x hx m hm
   cases hm;exact hrk
  rw[AS.bF _ _ _ _ e]at hB;exact h1.wf.br j B hB x hx m hm
 ·by_cases e:j=i
  ·subst e;rw[AS.cj]at hB;cases hB;obtain⟨q1,q2,q3,vs,q4,q5⟩:=h1.bx j _ yN;refine⟨q1,q2,q3,vs,q4,?_⟩;obtain⟨x,hx,hv⟩:=q5.get hc;have hv:x=.slice none 0 0:=hv;have:=cc.set (i:=o) (s:=.row k) (x:=x) q5 (by
    show x=if k=k then _ else _;rw[if_pos rfl];exact hv)
   have he:vs.set o x=vs:=by
    apply List.ext_getElem?;intro n;rw[List.getElem?_set];split
    ·rename_i hn;subst hn;rw[hx];split<;>rename_i hl
     ·rfl
     have:=(List.getElem?_eq_some_iff.1 hx).1;exact absurd this hl
    rfl
   rwa[he]at this
  rw[AS.bF _ _ _ _ e]at hB;exact h1.bx j B hB
 ·have old:∀n B,((AS.bz [(k,.live ⟨E0,sz,0,[]⟩)] S).gP i ⟨T,cells.set o (.row k)⟩).b n=some B->∃B',(AS.bz [(k,.live ⟨E0,sz,0,[]⟩)] S).b n=some B':=λn B hn=>by
   by_cases e:n=i
   ·subst e;exact⟨_,yN⟩
   rw[AS.bF _ _ _ _ e]at hn;exact⟨B,hn⟩
  obtain⟨B1,p1⟩:=old j B hB;obtain⟨B2,p2⟩:=old j' B' dK;exact h1.inj j j' B1 B2 p1 p2 e
 obtain⟨p1,p2⟩:=h1.rx j R hR;refine⟨p1,λg hg=>?_⟩;obtain⟨p3,p4,p5,p6⟩:=p2 g hg;refine⟨p3,p4,p5,λn B hn=>?_⟩;by_cases e:n=i
 ·subst e;exact p6 n _ yN
 rw[AS.bF _ _ _ _ e]at hn;exact p6 n B hn
end
section
open Go.RowKit
section part
variable {P:Program}{C:Ctx}{ops:Array Oper}{acts:List Ac}{S:AS}
theorem qB(listed:Array Bool)(i:Nat)(hs:listed.size=ops.size)(hi:i<ops.size):listed.getD i true=listed.getD i false:=by
 rw[Array.getD_eq_getD_getElem?,Array.getD_eq_getD_getElem?];rw[Array.getElem?_eq_getElem (by omega)];rfl
end part
end
end Go.Fw
namespace Go.Fw.Z
section
open Go.Fw
theorem T{d n:Nat}(h:Nat.ble (d+1) n=true:=by exact rfl):d<n:=tl h
theorem bE{α β:Type}{x:Option α}{f:α->Option β}{r:β}{G:Prop}(h:Option.bind x f=some r)(k:∀a,x=some a->f a=some r->G):G:=by obtain⟨a,h1,h2⟩:=bind_some h;exact k a h1 h2
theorem lE{α β:Type}{v:α}{f:α->Option β}{r:β}{G:Prop}(h:Option.bind (some v) f=some r)(k:∀a,v=a->f a=some r->G):G:=k v Y h
theorem bS{α β:Type}{x:Option α}{f:α->Option β}{r:β}(h:Option.bind x f=some r):∃a,x=some a/\f a=some r:=bind_some h
theorem F{α:Type}{x y:Option α}{r:α}(h:(bif false then x else y)=some r):y=some r:=h
theorem V{α:Type}{x y:Option α}{r:α}(h:(bif true then x else y)=some r):x=some r:=h
theorem O{α:Type}{a b:α}(h:some a=some b):a=b:=Option.some.inj h
def tH(l:List (Nat×Nat))(i:Nat):Nat:=((l.find? λp=>Nat.beq p.1 i).map (·.2)).getD i
def V6(l:List (Nat×Nat)):AV->AV
 |.row i=>.row (tH l i)
 |.jO i o n=>.jO (tH l i) o n
 |x=>x
def V7:AV->Bool
 |.fB _ _=>false
 |.cmp _ _=>false
 |_=>true
theorem avi(l:List (Nat×Nat)){x:AV}(h:V7 x=true):Ej (tH l) (V6 l x) x:=by
 cases x with
 |sv s=>exact .sv au
 |ptr i o=>exact .ptr
 |Aa i o n c=>exact .Aa
 |row i=>exact .row Y
 |fB i k=>cases h
 |jO i o n=>exact .jO Y
 |fF g js=>exact .fF
 |cmp t js=>cases h
theorem Qs(l:List (Nat×Nat)):∀{xs:List AV},(xs.all V7)=true->B7 (tH l) (xs.map (V6 l)) xs
 |[],_=>trivial
 |x::xs,h=>by simp only[List.all_cons,Bool.and_eq_true]at h;exact⟨avi l h.1,Qs l h.2⟩
theorem wR(l:List (Nat×Nat)){S:AS}{n:Nat}{ts:List (Nat×AV)}{bs:List (Nat×ju)}{rs:List (Nat×Row)}{g:Nat}{go:Bool}
  (ht:ts.map (λp=>S.t p.1)=ts.map (λp=>V6 l p.2):=by exact rfl) (hb:bs.map (λp=>S.b p.1)=bs.map (λp=>some ⟨p.2.T,p.2.cells.map (V6 l)⟩):=by exact rfl) (hr:rs.map (λp=>S.r (tH l p.1))=rs.map (λp=>.live p.2):=by exact rfl)
  (hn:S.n=n:=by exact rfl) (hg:S.g=g:=by exact rfl) (IL:S.go=go:=by exact rfl)
  (hwf:((ts.all λp=>p.2.iO bs rs)&&(bs.all λp=>p.2.cells.all λx=>x.iO bs rs))=true:=by exact rfl) (hσ:((rs.all λp=>rs.all λq=>!(Nat.beq (tH l p.1) (tH l q.1))||Nat.beq p.1 q.1))=true:=by exact rfl)
  (hno:((ts.all λp=>V7 p.2)&&(bs.all λp=>p.2.cells.all V7))=true:=by exact rfl) (hl:(l.all λp=>Nat.ble (p.1+1) 1000)=true:=by exact rfl):lz S (AS.cZ n ts bs rs g go):=by
 simp only[Bool.and_eq_true,List.all_eq_true]at hno;refine eG (tH l) hn hg IL hwf hσ ?_ ?_ ?_ ?_
 ·clear hwf hb hr;obtain⟨h,-⟩:=hno
  induction ts with
  |nil=>trivial
  |cons p ts ih=>
   obtain⟨k,x⟩:=p;simp only[List.map_cons,List.cons.injEq]at ht;refine⟨?_,ih ht.2 (λq hq=>h q (by simp[hq]))⟩;show Ej _ (S.t k) x;rw[ht.1];exact avi l (h (k,x) (by simp))
 ·clear hwf ht hr;obtain⟨-,h⟩:=hno
  induction bs with
  |nil=>trivial
  |cons p bs ih=>
   obtain⟨k,x⟩:=p;simp only[List.map_cons,List.cons.injEq]at hb;exact⟨⟨_,hb.1,Qs l (List.all_eq_true.2 (h (k,x) (by simp)))⟩,ih hb.2 (λq hq=>h q (by simp[hq]))⟩
 ·clear hwf ht hb hσ
  induction rs with
  |nil=>trivial
  |cons p rs ih=>
   obtain⟨k,x⟩:=p;simp only[List.map_cons,List.cons.injEq]at hr;exact⟨⟨_,hr.1,cJ.refl _⟩,ih hr.2⟩
 intro i hi;unfold tH;have:l.find? (λp=>Nat.beq p.1 i)=none:=by
  rw[List.find?_eq_none];intro p hp e;have h1:=af (List.all_eq_true.1 hl p hp);have h2:=Nat.eq_of_beq_eq_true e;omega
 rw[this];rfl
section
variable {P:Program}{C:Ctx}{S:AS}{Q:Exit->AS->Prop}
theorem qq{x y:Code}(h:Ok P C x S (aV (λS'=>Ok P C y S' Q) Q)):Ok P C (.seq x y) S Q:=bR h
theorem sr{id:Nat}{ops:Array Oper}{y:Code}(h:RunT P C ops true (λ_ S=>aV (λS'=>Ok P C y S' Q) Q .normal S) ops.toList [] S):Ok P C (.seq (.region id ops false) y) S Q:=bR (aX h)
theorem dn{ops:Array Oper}{acc:List Ac}{next:AS->Prop}(h:next S):RunT P C ops true (λ_ S=>aV next Q .normal S) [] acc S:=h
theorem cF{c:Operand}{x y:Code}(hf:Ok P C y S Q)(hc:S.ev c=.sv (.v (.bool false)):=by exact rfl):Ok P C (.cond c x y) S Q:=gW hc hf
theorem cT{c:Operand}{x y:Code}(ht:Ok P C x S Q)(hc:S.ev c=.sv (.v (.bool true)):=by exact rfl):Ok P C (.cond c x y) S Q:=fk hc ht
theorem fs{c:Operand}{x:Code}{next:AS->Prop}(h:next S)(hc:S.ev c=.sv (.v (.bool false)):=by exact rfl):Ok P C (.cond c x .skip) S (aV next Q):=gW hc (bu h)
theorem R1{A:Prop}{e:Exit}{t:Nat}{s:SV}(h:S.t t=.sv s):(A\/e=e)/\Fl P S [.tmp t] s:=⟨.inr Y,dh (.tmp h .nil) au⟩
theorem R2{A:Prop}{e:Exit}{t u:Nat}{s s':SV}(h:S.t t=.sv s)(h':S.t u=.sv s'):(A\/e=e)/\Fl P S [.tmp t,.tmp u] (.uB [s,s']):=⟨.inr Y,dh (.tmp h (.tmp h' .nil)) au⟩
theorem RZ{A:Prop}{e:Exit}{rs:List ResultVar}{ss:List SV}{r:SV}(h:Fo P S rs ss)(h':SV.imp (FX ss) r:=by exact au):(A\/e=e)/\Fl P S rs r:=⟨.inr Y,dh h h'⟩
end
section
variable {P:Program}{C:Ctx}{ops:Array Oper}{S:AS}{nd:Bool}{K:List Ac->AS->Prop}{rest:List Oper}{acc:List Ac}
variable {gd:Option (Nat×Bool)}{rg:List Nat}{d:Nat}{ty:TypeId}{pos:String}{aft:Array Edge}{x y z:Operand}{T U:TypeId}{k:IntKind}{p q:Int}
theorem pF{s:SV}(hz:S.ev z=.sv s)(next:RunT P C ops nd K rest (⟨[]++(aW x++aW z),[],[],⟨some (d,.sv s),[],[]⟩⟩::acc) (S.set d (.sv s)))(hx:S.ev x=.sv (.v (.bool false)):=by exact rfl)(hd:d<S.n:=by exact tl Y):RunT P C ops nd K (⟨some d,.pick x y z,ty,pos,aft,none⟩::rest) acc S:=
 RT.Ky .none hx hz hd next
theorem pT{s:SV}(hy:S.ev y=.sv s)(next:RunT P C ops nd K rest (⟨[]++(aW x++aW y),[],[],⟨some (d,.sv s),[],[]⟩⟩::acc) (S.set d (.sv s)))(hx:S.ev x=.sv (.v (.bool true)):=by exact rfl)(hd:d<S.n:=by exact tl Y):RunT P C ops nd K (⟨some d,.pick x y z,ty,pos,aft,none⟩::rest) acc S:=
 RT.Kx .none hx hy hd next
theorem mo{s:AV}(hx:S.ev x=s)(next:RunT P C ops nd K rest (⟨[]++aW x,[],[],⟨some (d,s),[],[]⟩⟩::acc) (S.set d s))(hd:d<S.n:=by exact tl Y):RunT P C ops nd K (⟨some d,.move x,ty,pos,aft,none⟩::rest) acc S:=
 RT.move .none hx hd next
theorem ad(c:Int)(hx:S.ev x=.sv (.v (.int k p)))(hy:S.ev y=.sv (.v (.int k q)))(hc:k.wrap (p+q)=c)(next:RunT P C ops nd K rest (⟨[]++(aW x++aW y),[],[],⟨some (d,.sv (.v (.int k c))),[],[]⟩⟩::acc) (S.set d (.sv (.v (.int k c)))))(hd:d<S.n:=by exact tl Y):RunT P C ops nd K (⟨some d,.binOp .add T x y U,ty,pos,aft,none⟩::rest) acc S:=
 RT.add .none c hx hy hd hc next
theorem cv{j:IntKind}[tT:iD P T j][tU:iD P U k](c:Int){k':IntKind}(hx:S.ev x=.sv (.v (.int k' p)))(hc:k.wrap p=c)(next:RunT P C ops nd K rest (⟨[]++aW x,[],[],⟨some (d,.sv (.v (.int k c))),[],[]⟩⟩::acc) (S.set d (.sv (.v (.int k c)))))(hd:d<S.n:=by exact tl Y):RunT P C ops nd K (⟨some d,.convert T U x,ty,pos,aft,none⟩::rest) acc S:=
 RT.conv .none c hx hd hc next
theorem ls(c:Bool)(hx:S.ev x=.sv (.v (.int k p)))(hy:S.ev y=.sv (.v (.int k q)))(hc:decide (p<q)=c)(next:RunT P C ops nd K rest (⟨[]++(aW x++aW y),[],[],⟨some (d,.sv (.v (.bool c))),[],[]⟩⟩::acc) (S.set d (.sv (.v (.bool c)))))(hd:d<S.n:=by exact tl Y):RunT P C ops nd K (⟨some d,.binOp .lss T x y U,ty,pos,aft,none⟩::rest) acc S:=
 RT.lss .none c hx hy hd hc next
theorem sb(c:Int)(hx:S.ev x=.sv (.v (.int k p)))(hy:S.ev y=.sv (.v (.int k q)))(hc:k.wrap (p-q)=c)(next:RunT P C ops nd K rest (⟨[]++(aW x++aW y),[],[],⟨some (d,.sv (.v (.int k c))),[],[]⟩⟩::acc) (S.set d (.sv (.v (.int k c)))))(hd:d<S.n:=by exact tl Y):RunT P C ops nd K (⟨some d,.binOp .sub T x y U,ty,pos,aft,none⟩::rest) acc S:=
 RT.sub .none c hx hy hd hc next
theorem an{s:AV}(hx:S.ev x=s)(next:RunT P C ops nd K rest (⟨[]++aW x,[],[],⟨some (d,s),[],[]⟩⟩::acc) (S.set d s))(hd:d<S.n:=by exact tl Y):RunT P C ops nd K (⟨some d,.assign x,ty,pos,aft,none⟩::rest) acc S:=
 RT.assign .none hx hd next
theorem gt(c:Bool)(hx:S.ev x=.sv (.v (.int k p)))(hy:S.ev y=.sv (.v (.int k q)))(hc:decide (q<p)=c)(next:RunT P C ops nd K rest (⟨[]++(aW x++aW y),[],[],⟨some (d,.sv (.v (.bool c))),[],[]⟩⟩::acc) (S.set d (.sv (.v (.bool c)))))(hd:d<S.n:=by exact tl Y):RunT P C ops nd K (⟨some d,.binOp .gtr T x y U,ty,pos,aft,none⟩::rest) acc S:=
 RT.gtr .none c hx hy hd hc next
theorem eq(c:Bool)(hx:S.ev x=.sv (.v (.int k p)))(hy:S.ev y=.sv (.v (.int k q)))(hc:(p==q)=c)(next:RunT P C ops nd K rest (⟨[]++(aW x++aW y),[],[],⟨some (d,.sv (.v (.bool c))),[],[]⟩⟩::acc) (S.set d (.sv (.v (.bool c)))))(hd:d<S.n:=by exact tl Y):RunT P C ops nd K (⟨some d,.binOp .eql T x y U,ty,pos,aft,none⟩::rest) acc S:=
 RT.eql .none c hx hy hd hc next
theorem ne(c:Bool)(hx:S.ev x=.sv (.v (.int k p)))(hy:S.ev y=.sv (.v (.int k q)))(hc:(p != q)=c)(next:RunT P C ops nd K rest (⟨[]++(aW x++aW y),[],[],⟨some (d,.sv (.v (.bool c))),[],[]⟩⟩::acc) (S.set d (.sv (.v (.bool c)))))(hd:d<S.n:=by exact tl Y):RunT P C ops nd K (⟨some d,.binOp .neq T x y U,ty,pos,aft,none⟩::rest) acc S:=
 RT.neq .none c hx hy hd hc next
theorem ge(c:Bool)(hx:S.ev x=.sv (.v (.int k p)))(hy:S.ev y=.sv (.v (.int k q)))(hc:decide (q<=p)=c)(next:RunT P C ops nd K rest (⟨[]++(aW x++aW y),[],[],⟨some (d,.sv (.v (.bool c))),[],[]⟩⟩::acc) (S.set d (.sv (.v (.bool c)))))(hd:d<S.n:=by exact tl Y):RunT P C ops nd K (⟨some d,.binOp .geq T x y U,ty,pos,aft,none⟩::rest) acc S:=
 RT.geq .none c hx hy hd hc next
theorem nt{b:Bool}(hx:S.ev x=.sv (.v (.bool b)))(c:Bool)(hc:(!b)=c)(next:RunT P C ops nd K rest (⟨[]++aW x,[],[],⟨some (d,.sv (.v (.bool c))),[],[]⟩⟩::acc) (S.set d (.sv (.v (.bool c)))))(hd:d<S.n:=by exact tl Y):RunT P C ops nd K (⟨some d,.unOp .not T x,ty,pos,aft,none⟩::rest) acc S:=
 RT.not .none hx hd c hc next
theorem gF{j_ g_:Nat}{ei:Bool}{s:SV}(hz:S.ev z=.sv s)(next:RunT P C ops nd K rest (⟨[g_]++(aW x++aW z),[],[],⟨some (d,.sv s),[],[]⟩⟩::acc) (S.set d (.sv s)))(xl:(ops[j_]?).bind (·.dst)=some g_:=by exact rfl)(xm:S.t g_=.sv (.v (.bool ei)):=by exact rfl)(hx:S.ev x=.sv (.v (.bool false)):=by exact rfl)(hd:d<S.n:=by exact tl Y):RunT P C ops nd K (⟨some d,.pick x y z,ty,pos,aft,some (j_,ei)⟩::rest) acc S:=
 RT.Ky (.some xl xm) hx hz hd next
theorem gT{j_ g_:Nat}{ei:Bool}{s:SV}(hy:S.ev y=.sv s)(next:RunT P C ops nd K rest (⟨[g_]++(aW x++aW y),[],[],⟨some (d,.sv s),[],[]⟩⟩::acc) (S.set d (.sv s)))(xl:(ops[j_]?).bind (·.dst)=some g_:=by exact rfl)(xm:S.t g_=.sv (.v (.bool ei)):=by exact rfl)(hx:S.ev x=.sv (.v (.bool true)):=by exact rfl)(hd:d<S.n:=by exact tl Y):RunT P C ops nd K (⟨some d,.pick x y z,ty,pos,aft,some (j_,ei)⟩::rest) acc S:=
 RT.Kx (.some xl xm) hx hy hd next
theorem gq{j_ g_:Nat}{ei:Bool}(c:Bool)(hx:S.ev x=.sv (.v (.int k p)))(hy:S.ev y=.sv (.v (.int k q)))(hc:(p != q)=c)(next:RunT P C ops nd K rest (⟨[g_]++(aW x++aW y),[],[],⟨some (d,.sv (.v (.bool c))),[],[]⟩⟩::acc) (S.set d (.sv (.v (.bool c)))))(xl:(ops[j_]?).bind (·.dst)=some g_:=by exact rfl)(xm:S.t g_=.sv (.v (.bool ei)):=by exact rfl)(hd:d<S.n:=by exact tl Y):RunT P C ops nd K (⟨some d,.binOp .neq T x y U,ty,pos,aft,some (j_,ei)⟩::rest) acc S:=
 RT.neq (.some xl xm) c hx hy hd hc next
theorem gg{j_ g_:Nat}{ei:Bool}(c:Bool)(hx:S.ev x=.sv (.v (.int k p)))(hy:S.ev y=.sv (.v (.int k q)))(hc:decide (q<p)=c)(next:RunT P C ops nd K rest (⟨[g_]++(aW x++aW y),[],[],⟨some (d,.sv (.v (.bool c))),[],[]⟩⟩::acc) (S.set d (.sv (.v (.bool c)))))(xl:(ops[j_]?).bind (·.dst)=some g_:=by exact rfl)(xm:S.t g_=.sv (.v (.bool ei)):=by exact rfl)(hd:d<S.n:=by exact tl Y):RunT P C ops nd K (⟨some d,.binOp .gtr T x y U,ty,pos,aft,some (j_,ei)⟩::rest) acc S:=
 RT.gtr (.some xl xm) c hx hy hd hc next
theorem Co{j_ g_:Nat}{ei:Bool}(c:Bool)(hx:S.ev x=.sv (.v (.int k p)))(hy:S.ev y=.sv (.v (.int k q)))(hc:(p==q)=c)(next:RunT P C ops nd K rest (⟨[g_]++(aW x++aW y),[],[],⟨some (d,.sv (.v (.bool c))),[],[]⟩⟩::acc) (S.set d (.sv (.v (.bool c)))))(xl:(ops[j_]?).bind (·.dst)=some g_:=by exact rfl)(xm:S.t g_=.sv (.v (.bool ei)):=by exact rfl)(hd:d<S.n:=by exact tl Y):RunT P C ops nd K (⟨some d,.binOp .eql T x y U,ty,pos,aft,some (j_,ei)⟩::rest) acc S:=
 RT.eql (.some xl xm) c hx hy hd hc next
theorem YE{j_ g_:Nat}{ei:Bool}{b:Bool}(hx:S.ev x=.sv (.v (.bool b)))(c:Bool)(hc:(!b)=c)(next:RunT P C ops nd K rest (⟨[g_]++aW x,[],[],⟨some (d,.sv (.v (.bool c))),[],[]⟩⟩::acc) (S.set d (.sv (.v (.bool c)))))(xl:(ops[j_]?).bind (·.dst)=some g_:=by exact rfl)(xm:S.t g_=.sv (.v (.bool ei)):=by exact rfl)(hd:d<S.n:=by exact tl Y):RunT P C ops nd K (⟨some d,.unOp .not T x,ty,pos,aft,some (j_,ei)⟩::rest) acc S:=
 RT.not (.some xl xm) hx hd c hc next
end
section
variable {P:Program}{C:Ctx}{ops:Array Oper}{S:AS}{nd:Bool}{K:List Ac->AS->Prop}{rest:List Oper}{acc:List Ac}
variable {gd:Option (Nat×Bool)}{rg:List Nat}{d:Nat}{ty:TypeId}{pos:String}{aft:Array Edge}{x y z:Operand}{T U E0:TypeId}
theorem mv{s:SV}(hx:S.ev x=.sv s)(next:RunT P C ops nd K rest (⟨[]++aW x,[],[],⟨some (d,.sv s),[],[]⟩⟩::acc) (S.set d (.sv s)))(hd:d<S.n:=by exact tl Y):RunT P C ops nd K (⟨some d,.move x,ty,pos,aft,none⟩::rest) acc S:=
 RT.mv .none hx hd next
theorem ag{s:SV}(hx:S.ev x=.sv s)(next:RunT P C ops nd K rest (⟨[]++aW x,[],[],⟨some (d,.sv s),[],[]⟩⟩::acc) (S.set d (.sv s)))(hd:d<S.n:=by exact tl Y):RunT P C ops nd K (⟨some d,.assign x,ty,pos,aft,none⟩::rest) acc S:=
 RT.yO .none hx hd next
theorem cl{f:FuncId}[dX P f]{g:Operand}{xs:Array Operand}{at_:Array TypeId}{args:List SV}{r:SV}(hp:Pure P f args r)(hargs:fD S xs.toList args)(next:RunT P C ops nd K rest (⟨[]++(aW g++xs.toList.flatMap aW),[],[],⟨some (d,.sv r),[],[]⟩⟩::acc) (S.set d (.sv r)))(hf:S.ev g=.sv (.v (.func (.func f) #[] #[])):=by exact rfl)(hd:d<S.n:=by exact tl Y):RunT P C ops nd K (⟨some d,.call ⟨.value g,xs,at_⟩,ty,pos,aft,none⟩::rest) acc S:=
 RT.call .none hp hf hargs hd next
theorem ld{n:Nat}[tA:rZ P T n]{j off:Nat}{B:ju}{cs:List SV}(hx:S.ev x=.ptr j off)(hB:S.b j=some B)(hcs:Fk B.cells off cs)(next:RunT P C ops nd K rest (⟨[]++aW x,[j],[],⟨some (d,.sv (.agg cs)),[],[]⟩⟩::acc) (S.set d (.sv (.agg cs))))(hn:cs.length=n:=by exact rfl)(hd:d<S.n:=by exact tl Y):RunT P C ops nd K (⟨some d,.load T x,ty,pos,aft,none⟩::rest) acc S:=
 RT.load .none hx hB hcs hn hd next
theorem lV[tV:ni P T]{j off:Nat}{B:ju}{s:SV}(hx:S.ev x=.ptr j off)(hB:S.b j=some B)(hn:B.cells[off]? =some (.sv s))(next:RunT P C ops nd K rest (⟨[]++aW x,[j],[],⟨some (d,.sv s),[],[]⟩⟩::acc) (S.set d (.sv s)))(hd:d<S.n:=by exact tl Y):RunT P C ops nd K (⟨some d,.load T x,ty,pos,aft,none⟩::rest) acc S:=
 RT.MK .none hx hB hn hd next
theorem fa{f off:Nat}[hf:sg P T f off U][sU:vE P U]{j o:Nat}(hx:S.ev x=.ptr j o){o':Nat}(ho':o+off=o')(next:RunT P C ops nd K rest (⟨[]++aW x,[],[],⟨some (d,.ptr j o'),[],[]⟩⟩::acc) (S.set d (.ptr j o')))(hd:d<S.n:=by exact tl Y):RunT P C ops nd K (⟨some d,.fieldAddr T x f,ty,pos,aft,none⟩::rest) acc S:=
 RT.fieldAddr .none hx hd ho' next
theorem so{n:Nat}[tA:rZ P T n]{j:Nat}{B:ju}{cs:List SV}[o1:si cs](hx:S.ev x=.ptr j 0)(hB:S.b j=some B)(hy:S.ev y=.sv (.agg cs))(next:RunT P C ops nd K rest (⟨[]++(aW x++aW y),[j],[],⟨none,[(j,⟨B.T,cs.map AV.sv⟩)],[]⟩⟩::acc) (S.gP j ⟨B.T,cs.map AV.sv⟩))(sj:cs.length=n:=by exact rfl)(hn:B.cells.length=n:=by exact rfl):RunT P C ops nd K (⟨none,.store T x y,ty,pos,aft,none⟩::rest) acc S:=
 RT.store .none hx hB hy sj hn next
theorem ex{i:Nat}{ss:List SV}{s:SV}(hx:S.ev x=.sv (.uB ss))(hi:ss[i]? =some s)(next:RunT P C ops nd K rest (⟨[]++aW x,[],[],⟨some (d,.sv s),[],[]⟩⟩::acc) (S.set d (.sv s)))(hd:d<S.n:=by exact tl Y):RunT P C ops nd K (⟨some d,.extract x i,ty,pos,aft,none⟩::rest) acc S:=
 RT.extract .none hx hi hd next
theorem bx{cells:List SV}(hx:S.ev x=.sv (.agg cells))(next:RunT P C ops nd K rest (⟨[]++aW x,[d],[],⟨some (d,.ptr d 0),[(d,⟨T,cells.map AV.sv⟩)],[]⟩⟩::acc) ((S.gP d ⟨T,cells.map AV.sv⟩).set d (.ptr d 0)))(hd:d<S.n:=by exact tl Y)(hb:S.b d=none:=by exact rfl)(hp:C.ey d=none:=by exact rfl):RunT P C ops nd K (⟨some d,.box T x,ty,pos,aft,none⟩::rest) acc S:=
 RT.box .none hx hd hb hp next
theorem lr[tV:ni P T]{cells:List SV}{s:SV}(hx:S.ev x=.sv (ref cells))(hn:cells[0]? =some s)(next:RunT P C ops nd K rest (⟨[]++aW x,[],[],⟨some (d,.sv s),[],[]⟩⟩::acc) (S.set d (.sv s)))(hd:d<S.n:=by exact tl Y):RunT P C ops nd K (⟨some d,.load T x,ty,pos,aft,none⟩::rest) acc S:=
 RT.gb .none hx hn hd next
theorem cB{f:FuncId}[dX P f]{g:Operand}{xs:Array Operand}{at_:Array TypeId}{args:List SV}{T:TypeId}{c0 c1:List SV}{res:SV}(hp:IT P f args T c0 res c1)(j:Nat)(hB:S.b j=some ⟨T,c0.map AV.sv⟩)(hargs:fD S xs.toList args)(next:RunT P C ops nd K rest (⟨[]++(aW g++xs.toList.flatMap aW),[j],[],⟨some (d,.sv res),[(j,⟨T,c1.map AV.sv⟩)],[]⟩⟩::acc) ((AS.dA [(j,⟨T,c1.map AV.sv⟩)] S).set d (.sv res)))(hf:S.ev g=.fF f [.box j]:=by exact rfl)(hd:d<S.n:=by exact tl Y):RunT P C ops nd K (⟨some d,.call ⟨.value g,xs,at_⟩,ty,pos,aft,none⟩::rest) acc S:=
 RT.P7 .none hp j hB hf hargs hd next
theorem cN{f:FuncId}[dX P f]{g:Operand}{xs:Array Operand}{at_:Array TypeId}{args:List SV}{R:Row}(hp:Eo P f args R)(hargs:fD S xs.toList args)(next:RunT P C ops nd K rest (⟨[]++(aW g++xs.toList.flatMap aW),[],[d],⟨some (d,.row d),[],[(d,.live R)]⟩⟩::acc) ((AS.bz [(d,.live R)] S).set d (.row d)))(hf:S.ev g=.sv (.v (.func (.func f) #[] #[])):=by exact rfl)(hd:d<S.n:=by exact tl Y)(qF:S.r d=.un:=by exact rfl)(oR:d<1000:=by exact tl Y):RunT P C ops nd K (⟨some d,.call ⟨.value g,xs,at_⟩,ty,pos,aft,none⟩::rest) acc S:=
 RT.P6 .none hp hf hargs hd qF oR next
theorem gm{j_ g_:Nat}{ei:Bool}{s:SV}(hx:S.ev x=.sv s)(next:RunT P C ops nd K rest (⟨[g_]++aW x,[],[],⟨some (d,.sv s),[],[]⟩⟩::acc) (S.set d (.sv s)))(xl:(ops[j_]?).bind (·.dst)=some g_:=by exact rfl)(xm:S.t g_=.sv (.v (.bool ei)):=by exact rfl)(hd:d<S.n:=by exact tl Y):RunT P C ops nd K (⟨some d,.move x,ty,pos,aft,some (j_,ei)⟩::rest) acc S:=
 RT.mv (.some xl xm) hx hd next
theorem gl{j_ g_:Nat}{ei:Bool}{n:Nat}[tA:rZ P T n]{j off:Nat}{B:ju}{cs:List SV}(hx:S.ev x=.ptr j off)(hB:S.b j=some B)(hcs:Fk B.cells off cs)(next:RunT P C ops nd K rest (⟨[g_]++aW x,[j],[],⟨some (d,.sv (.agg cs)),[],[]⟩⟩::acc) (S.set d (.sv (.agg cs))))(xl:(ops[j_]?).bind (·.dst)=some g_:=by exact rfl)(xm:S.t g_=.sv (.v (.bool ei)):=by exact rfl)(hn:cs.length=n:=by exact rfl)(hd:d<S.n:=by exact tl Y):RunT P C ops nd K (⟨some d,.load T x,ty,pos,aft,some (j_,ei)⟩::rest) acc S:=
 RT.load (.some xl xm) hx hB hcs hn hd next
theorem gc{j_ g_:Nat}{ei:Bool}{f:FuncId}[dX P f]{g:Operand}{xs:Array Operand}{at_:Array TypeId}{args:List SV}{r:SV}(hp:Pure P f args r)(hargs:fD S xs.toList args)(next:RunT P C ops nd K rest (⟨[g_]++(aW g++xs.toList.flatMap aW),[],[],⟨some (d,.sv r),[],[]⟩⟩::acc) (S.set d (.sv r)))(xl:(ops[j_]?).bind (·.dst)=some g_:=by exact rfl)(xm:S.t g_=.sv (.v (.bool ei)):=by exact rfl)(hf:S.ev g=.sv (.v (.func (.func f) #[] #[])):=by exact rfl)(hd:d<S.n:=by exact tl Y):RunT P C ops nd K (⟨some d,.call ⟨.value g,xs,at_⟩,ty,pos,aft,some (j_,ei)⟩::rest) acc S:=
 RT.call (.some xl xm) hp hf hargs hd next
theorem gr{j_ g_:Nat}{ei:Bool}[tV:ni P T]{cells:List SV}{s:SV}(hx:S.ev x=.sv (ref cells))(hn:cells[0]? =some s)(next:RunT P C ops nd K rest (⟨[g_]++aW x,[],[],⟨some (d,.sv s),[],[]⟩⟩::acc) (S.set d (.sv s)))(xl:(ops[j_]?).bind (·.dst)=some g_:=by exact rfl)(xm:S.t g_=.sv (.v (.bool ei)):=by exact rfl)(hd:d<S.n:=by exact tl Y):RunT P C ops nd K (⟨some d,.load T x,ty,pos,aft,some (j_,ei)⟩::rest) acc S:=
 RT.gb (.some xl xm) hx hn hd next
end
section
variable {P:Program}{C:Ctx}{ops:Array Oper}{S:AS}{nd:Bool}{K:List Ac->AS->Prop}{rest:List Oper}{acc:List Ac}
variable {gd:Option (Nat×Bool)}{rg:List Nat}{d:Nat}{ty:TypeId}{pos:String}{aft:Array Edge}{x y z:Operand}{T U E0:TypeId}
variable {l l' k:M5}
theorem ww{op:Op}{j g:Nat}{b want:Bool}(next:RunT P C ops nd K rest (⟨[g],[],[],⟨some (d,.sv (.v undef)),[],[]⟩⟩::acc) (S.set d (.sv (.v undef))))(h1:(ops[j]?).bind (·.dst)=some g:=by exact rfl)(h2:S.t g=.sv (.v (.bool b)):=by exact rfl)(hb:b≠want:=by exact sk Y)(hd:d<S.n:=by exact tl Y):RunT P C ops nd K (⟨some d,op,ty,pos,aft,some (j,want)⟩::rest) acc S:=
 RT.skV h1 h2 hb hd next
theorem wu{op:Op}{j g:Nat}{want:Bool}(next:RunT P C ops nd K rest (⟨[g],[],[],⟨some (d,.sv (.v undef)),[],[]⟩⟩::acc) (S.set d (.sv (.v undef))))(h1:(ops[j]?).bind (·.dst)=some g:=by exact rfl)(h2:S.t g=.sv (.v undef):=by exact rfl)(hd:d<S.n:=by exact tl Y):RunT P C ops nd K (⟨some d,op,ty,pos,aft,some (j,want)⟩::rest) acc S:=
 RT.Qo h1 h2 hd next
end
section
variable {P:Program}{C:Ctx}{ops:Array Oper}{S:AS}{nd:Bool}{K:List Ac->AS->Prop}{rest:List Oper}{acc:List Ac}
variable {gd:Option (Nat×Bool)}{rg:List Nat}{d:Nat}{ty:TypeId}{pos:String}{aft:Array Edge}{x y z:Operand}{T U E0:TypeId}
variable {α:Type}{l l' k:List α}{e:α->List SV}{n by_:Nat}{zv:Value}
theorem ln{m:Nat}[tS:dB P T E0 m]{c:Int}(hx:S.ev x=.sv (slc n (l.map e)))(hc:(l.length:Int)=c)(next:RunT P C ops nd K rest (⟨[]++aW x,[],[],⟨some (d,.sv (.v (.int .i64 c))),[],[]⟩⟩::acc) (S.set d (.sv (.v (.int .i64 c)))))(hd:d<S.n:=by exact tl Y):RunT P C ops nd K (⟨some d,.call ⟨.builtin .len,#[x],#[T]⟩,ty,pos,aft,none⟩::rest) acc S:=
 RT.Qj .none hx hd hc next
theorem al[tz:iL P T zv]{cs:List SV}(hi:cJ (zv.cells.toList.map SV.v) cs){av:List AV}(Yv:cs.map AV.sv=av)(next:RunT P C ops nd K rest (⟨[]++[],[d],[],⟨some (d,.ptr d 0),[(d,⟨T,av⟩)],[]⟩⟩::acc) ((S.gP d ⟨T,av⟩).set d (.ptr d 0)))(hd:d<S.n:=by exact tl Y)(hb:S.b d=none:=by exact rfl)(hp:C.ey d=none:=by exact rfl):RunT P C ops nd K (⟨some d,.alloc T,ty,pos,aft,none⟩::rest) acc S:=
 RT.M3 .none hi Yv hd hb hp next
theorem ix[tS:dB P T E0 n]{kk:IntKind}{i:Int}{a:α}(hx:S.ev x=.sv (slc n (l.map e)))(hy:S.ev y=.sv (.v (.int kk i)))(ha:cq l i=some a)(next:RunT P C ops nd K rest (⟨[]++(aW x++aW y),[],[],⟨some (d,.sv (ref (e a))),[],[]⟩⟩::acc) (S.set d (.sv (ref (e a)))))(hd:d<S.n:=by exact tl Y):RunT P C ops nd K (⟨some d,.indexAddr T x y,ty,pos,aft,none⟩::rest) acc S:=
 RT.Gc .none hx hy hd ha next
theorem bl[tS:dB P T E0 n][tE:gX P E0 n by_ zv]{len:Nat}{parts:Array (Nat×Operand)}{qs:List (Nat×List SV)}(hp:iQ S parts.toList qs)(hc:kY 0 qs=true)(hl:qs.length=len)(hsz:(qs.all λq=>Nat.beq q.2.length n)=true)(hlen:Nat.ble (len*n) 16777216=true)(El:(zv.cells.toList.all λv=>v.oneCell')=true)(gN:qs.map (·.2)=l.map e)(next:RunT P C ops nd K rest (⟨[]++eX parts.toList,[],[],⟨some (d,.sv (slc n (l.map e))),[],[]⟩⟩::acc) (S.set d (.sv (slc n (l.map e)))))(hd:d<S.n:=by exact tl Y):RunT P C ops nd K (⟨some d,.buildSlice T len parts,ty,pos,aft,none⟩::rest) acc S:=
 RT.I3 .none hp hd hc hl hsz hlen El gN next
theorem iR[tS:dB P T E0 n]{i j:Nat}{E1:TypeId}{kk:IntKind}{v:Int}(hx:S.ev x=.row i)(hR:S.r i=.live (TR E1 n e l))(hy:S.ev y=.sv (.v (.int kk v)))(h:qu l v=some j)(next:RunT P C ops nd K rest (⟨[]++(aW x++aW y),[],[i],⟨some (d,.fB i (j*n)),[],[]⟩⟩::acc) (S.set d (.fB i (j*n))))(hd:d<S.n:=by exact tl Y):RunT P C ops nd K (⟨some d,.indexAddr T x y,ty,pos,aft,none⟩::rest) acc S:=
 RT.Yx .none hx hR hy hd h next
theorem aI{s X:SV}(hx:S.ev x=.sv s)(hi:SV.imp s X)(next:RunT P C ops nd K rest (⟨[]++aW x,[],[],⟨some (d,.sv X),[],[]⟩⟩::acc) (S.set d (.sv X)))(hd:d<S.n:=by exact tl Y):RunT P C ops nd K (⟨some d,.assign x,ty,pos,aft,none⟩::rest) acc S:=
 RT.Yu .none hx hi hd next
theorem bI{pl:List (Nat×Nat)}{zc:List Value}[tP:gj P T pl zc]{parts:Array (Nat×Operand)}{qs:List (Nat×List SV)}(hp:iQ S parts.toList qs){cs cs':List SV}(hi:cJ cs cs')(next:RunT P C ops nd K rest (⟨[]++eX parts.toList,[],[],⟨some (d,.sv (.agg cs')),[],[]⟩⟩::acc) (S.set d (.sv (.agg cs'))))(hf:nC (λi=>pl[i]?) (zc.map SV.v) qs=some cs:=by exact rfl)(hd:d<S.n:=by exact tl Y):RunT P C ops nd K (⟨some d,.build T parts,ty,pos,aft,none⟩::rest) acc S:=
 RT.M4 .none hp hf hi hd next
theorem lR[tV:ni P T][el:EL e 1]{i j:Nat}{E1:TypeId}{a:α}{s:SV}(hx:S.ev x=.fB i (j*1))(hR:S.r i=.live (TR E1 1 e l))(ha:l[j]? =some a)(hs:e a=[s])(next:RunT P C ops nd K rest (⟨[]++aW x,[],[i],⟨some (d,.sv s),[],[]⟩⟩::acc) (S.set d (.sv s)))(hd:d<S.n:=by exact tl Y):RunT P C ops nd K (⟨some d,.load T x,ty,pos,aft,none⟩::rest) acc S:=
 RT.Ql .none hx hR ha hs hd next
theorem aR[tS:dB P T E0 n][tE:gX P E0 n by_ zv]{i:Nat}(hx:S.ev x=.row i)(hR:S.r i=.live (TR E0 n e l))(hy:S.ev y=.sv (slc n (k.map e)))(h:w9 by_ l k=some l')(next:RunT P C ops nd K rest (⟨[]++(aW x++aW y),[],[i,d],⟨some (d,.row d),[],[(i,.dead),(d,.live (TR E0 n e l'))]⟩⟩::acc) ((AS.bz [(i,.dead),(d,.live (TR E0 n e l'))] S).set d (.row d)))(hd:d<S.n:=by exact tl Y)(qF:S.r d=.un:=by exact rfl)(oR:d<1000:=by exact tl Y):RunT P C ops nd K (⟨some d,.call ⟨.builtin .append,#[x,y],#[T,T]⟩,ty,pos,aft,none⟩::rest) acc S:=
 RT.apR .none hx hR hy hd qF oR h next
theorem lA[tA:rZ P T n][el:EL e n]{i j:Nat}{E1:TypeId}{a:α}(hx:S.ev x=.fB i (j*n))(hR:S.r i=.live (TR E1 n e l))(ha:l[j]? =some a)(next:RunT P C ops nd K rest (⟨[]++aW x,[],[i],⟨some (d,.sv (.agg (e a))),[],[]⟩⟩::acc) (S.set d (.sv (.agg (e a)))))(hd:d<S.n:=by exact tl Y):RunT P C ops nd K (⟨some d,.load T x,ty,pos,aft,none⟩::rest) acc S:=
 RT.Qm .none hx hR ha hd next
theorem sR[tV:ni P T][el:EL e 1]{i j:Nat}{E1:TypeId}{s:SV}[o1:One s](a:α)(hs:e a=[s])(hx:S.ev x=.fB i (j*1))(hR:S.r i=.live (TR E1 1 e l))(hy:S.ev y=.sv s)(h:stM l j a=some l')(next:RunT P C ops nd K rest (⟨[]++(aW x++aW y),[],[i],⟨none,[],[(i,.live (TR E1 1 e l'))]⟩⟩::acc) (AS.bz [(i,.live (TR E1 1 e l'))] S)):RunT P C ops nd K (⟨none,.store T x y,ty,pos,aft,none⟩::rest) acc S:=
 RT.Yy .none a hs hx hR hy h next
theorem sA[tA:rZ P T n][el:EL e n]{i j:Nat}{E1:TypeId}(a:α)(hx:S.ev x=.fB i (j*n))(hR:S.r i=.live (TR E1 n e l))(hy:S.ev y=.sv (.agg (e a)))(h:stM l j a=some l')(next:RunT P C ops nd K rest (⟨[]++(aW x++aW y),[],[i],⟨none,[],[(i,.live (TR E1 n e l'))]⟩⟩::acc) (AS.bz [(i,.live (TR E1 n e l'))] S)):RunT P C ops nd K (⟨none,.store T x y,ty,pos,aft,none⟩::rest) acc S:=
 RT.Qn .none a hx hR hy h next
theorem lL{m:Nat}[tS:dB P T E0 m]{i:Nat}{E1:TypeId}{c:Int}(hx:S.ev x=.row i)(hR:S.r i=.live (TR E1 n e l))(hc:(l.length:Int)=c)(next:RunT P C ops nd K rest (⟨[]++aW x,[],[i],⟨some (d,.sv (.v (.int .i64 c))),[],[]⟩⟩::acc) (S.set d (.sv (.v (.int .i64 c)))))(hd:d<S.n:=by exact tl Y):RunT P C ops nd K (⟨some d,.call ⟨.builtin .len,#[x],#[T]⟩,ty,pos,aft,none⟩::rest) acc S:=
 RT.Qk .none hx hR hd hc next
theorem cR{f:FuncId}[dX P f]{g:Operand}{xs:Array Operand}{at_:Array TypeId}{args:List AV}{E1:TypeId}{res:AV}(hp:Cd P f args (TR E1 n e l) res (l'.flatMap e))(hlen:l'.length=l.length)(i:Nat)(hR:S.r i=.live (TR E1 n e l))(hargs:me S xs.toList (args.map (AV.tH i)))(next:RunT P C ops nd K rest (⟨[]++(aW g++xs.toList.flatMap aW),[],[i],⟨some (d,res.tH i),[],[(i,.live (TR E1 n e l'))]⟩⟩::acc) ((AS.bz [(i,.live (TR E1 n e l'))] S).set d (res.tH i)))(hrow:args.all AV.sq=true:=by exact rfl)(hres:res.sq=true:=by exact rfl)(hf:S.ev g=.sv (.v (.func (.func f) #[] #[])):=by exact rfl)(hd:d<S.n:=by exact tl Y):RunT P C ops nd K (⟨some d,.call ⟨.value g,xs,at_⟩,ty,pos,aft,none⟩::rest) acc S:=
 RT.M9 .none hp hlen i hR hrow hres hf hargs hd next
theorem gn{j_ g_:Nat}{ei:Bool}{m:Nat}[tS:dB P T E0 m]{c:Int}(hx:S.ev x=.sv (slc n (l.map e)))(hc:(l.length:Int)=c)(next:RunT P C ops nd K rest (⟨[g_]++aW x,[],[],⟨some (d,.sv (.v (.int .i64 c))),[],[]⟩⟩::acc) (S.set d (.sv (.v (.int .i64 c)))))(xl:(ops[j_]?).bind (·.dst)=some g_:=by exact rfl)(xm:S.t g_=.sv (.v (.bool ei)):=by exact rfl)(hd:d<S.n:=by exact tl Y):RunT P C ops nd K (⟨some d,.call ⟨.builtin .len,#[x],#[T]⟩,ty,pos,aft,some (j_,ei)⟩::rest) acc S:=
 RT.Qj (.some xl xm) hx hd hc next
end
section
variable {P:Program}{C:Ctx}{ops:Array Oper}{S:AS}{nd:Bool}{K:List Ac->AS->Prop}{rest:List Oper}{acc:List Ac}
variable {gd:Option (Nat×Bool)}{rg:List Nat}{d:Nat}{ty:TypeId}{pos:String}{aft:Array Edge}{x y z:Operand}{T U E0 E1:TypeId}
theorem fl{f off:Nat}[hf:sg P T f off U][tV:ni P U]{cs:List SV}{s:SV}(hx:S.ev x=.sv (.agg cs))(hs:cs[off]? =some s)(next:RunT P C ops nd K rest (⟨[]++aW x,[],[],⟨some (d,.sv s),[],[]⟩⟩::acc) (S.set d (.sv s)))(hd:d<S.n:=by exact tl Y):RunT P C ops nd K (⟨some d,.field T x f,ty,pos,aft,none⟩::rest) acc S:=
 RT.field .none hx hs hd next
end
end
end Go.Fw.Z
namespace Go.Fw
section
open Go.RowKit
def Mem.fr(M:Mem)(N:Nat):Mem:=λb o=>if N<=b then M b o else none
theorem Mem.Di(M:Mem)(N:Nat):(M.fr N).le M:=λb o v h=>by
 unfold Mem.fr at h;split at h
 ·exact h
 cases h
theorem Mem.Dj{M M':Mem}(h:M.le M')(N:Nat):(M.fr N).le (M'.fr N):=λb o v e=>by
 unfold Mem.fr at*;split at e
 ·rename_i hn;rw[if_pos hn];exact h b o v e
 cases e
theorem Mem.Qt(M:Mem)(N:Nat):(M.fr N).fr N=M.fr N:=by
 funext b o;unfold Mem.fr;split<;>rfl
def nw(N:Nat)(s:SV):SV:=⟨λM v=>s.h (M.fr N) v/\∀g,v.ownBlock=some g->∃o,M.fr N g o=some (.agg #[]),λhM h=>⟨s.mono (Mem.Dj hM N) h.1,λg e=>by obtain⟨o,q⟩:=h.2 g e;exact⟨o,Mem.Dj hM N _ _ _ q⟩⟩⟩
theorem eH{N:Nat}{s:SV}:SV.imp (nw N s) s:=λM _ h=>s.mono (Mem.Di M N) h.1
instance{N:Nat}{s:SV}{n:Nat}[h:PS s n]:PS (nw N s) n:=⟨λM v hv=>h.h M v (eH M v hv)⟩
instance{N:Nat}{s:SV}{n:Nat}{rows:List (List SV)}[h:IK s n rows]:IK (nw N s) n rows:=⟨λM v hv=>h.h M v (eH M v hv)⟩
instance{N:Nat}{s:SV}{n sz:Nat}{f:Nat->Nat->SV}[h:Sub s n sz f]:Sub (nw N s) n sz (λa b=>nw N (f a b)):=⟨λM v hv=>by
 obtain⟨a,c,e,hc,hs⟩:=h.h (M.fr N) v hv.1;refine⟨a,c,e,hc,λlo hi h1 h2=>⟨hs lo hi h1 h2,λg hg=>hv.2 g ?_⟩⟩;subst e;cases a with
 |none=>split at hg<;>cases hg
 |some a=>
  split at hg
  ·exact hg
  have e:(a.add (lo*sz)).block=a.block:=by unfold Addr.add;split<;>rfl
  rw[show(Value.slice (Option.map (λx=>x.add (lo*sz)) (some a)) (hi-lo) (c-lo)).ownBlock=some (a.add (lo*sz)).block from rfl,e]at hg;exact hg⟩
instance{N:Nat}{s:SV}[h:One s]:One (nw N s):=⟨λM v hv=>h.h _ v hv.1⟩
class YF (N:Nat) (s:SV):Prop where
 h:∀M v,s.h M v->s.h (M.fr N) v
instance{N:Nat}{x:Value}:YF N (.v x):=⟨λ_ _ h=>h⟩
instance{N:Nat}{s:SV}:YF N (nw N s):=⟨λM v h=>by show s.h ((M.fr N).fr N) v/\∀g,v.ownBlock=some g->∃o,(M.fr N).fr N g o=some (.agg #[]);rw[Mem.Qt];exact h⟩
class Jc (N:Nat) (l:List SV):Prop where
 h:∀s∈l,∀M v,s.h M v->s.h (M.fr N) v
instance{N:Nat}:Jc N []:=⟨λs h=>by cases h⟩
instance{N:Nat}{s:SV}{l:List SV}[a:YF N s][b:Jc N l]:Jc N (s::l):=⟨λt ht=>by
 rcases List.mem_cons.1 ht with rfl|ht
 ·exact a.h
 exact b.h t ht⟩
class Cp (N:Nat) {α:Type} (e:α->List SV):Prop where
 h:∀x,Jc N (e x)
instance{N:Nat}:Cp N aZ:=⟨λ_=>inferInstance⟩
abbrev fZ(N:Nat)(z:Zr):List SV:=[.v (.bool z.neg),nw N (slc 1 (z.w.map aZ))]
abbrev fQ(N:Nat)(q:Qr):List SV:=[.v (.bool q.num.neg),nw N (slc 1 (q.num.w.map aZ)),.v (.bool q.den.neg),nw N (slc 1 (q.den.w.map aZ))]
abbrev Gl(N:Nat)(x:En):List SV:=[.v (.int .i64 x.acc),.v (.int .u8 ((x.kd:Nat):Int)),.v (.int .i64 x.hour),.v (.bool x.gu.neg),nw N (slc 1 (x.gu.w.map aZ))]
instance{N:Nat}:EL (Gl N) 5:=⟨λ_=>rfl,λ_=>inferInstance⟩
instance{N:Nat}:Cp N (Gl N):=⟨λ_=>inferInstance⟩
theorem bn{α:Type}{N n:Nat}{e:α->List SV}:SV.imp (.v (.slice none 0 0)) (nw N (slc n (([]:List α).map e))):=λ_ _ h=>⟨.inl ⟨none,h,rfl⟩,λg e=>by rw[show _=Value.slice none 0 0 from h]at e;cases e⟩
theorem cJ.at:∀{l l':List SV},cJ l l'->∀(k:Nat) (s':SV),l'[k]? =some s'->∃s,l[k]? =some s/\SV.imp s s':=λh _ _ e=>cJ.get h e
theorem zI(N:Nat)(z:Zr):cJ (fZ N z) (eZ z):=⟨au,eH,aq⟩
theorem qI(N:Nat)(q:Qr):cJ (fQ N q) (eQ q):=⟨au,eH,au,eH,aq⟩
theorem yW{N n:Nat}{α:Type}{e:α->List SV}[he:Cp N e]{l:List α}{M:Mem}{v:Value}(h:(slc n (l.map e)).h M v)(hb:∀g,v.ownBlock=some g->N<=g/\∃o,M g o=some (.agg #[])):(nw N (slc n (l.map e))).h M v:=by
 refine⟨?_,λg hg=>by obtain⟨h1,o,h2⟩:=hb g hg;exact⟨o,by unfold Mem.fr;rw[if_pos h1];exact h2⟩⟩;rcases h with⟨a,h1,h2⟩|⟨b,o,c,h1,h2,h3,h4⟩
 ·exact .inl ⟨a,h1,h2⟩
 have hN:N<=b:=(hb b (by rw[h1];rfl)).1;refine .inr ⟨b,o,c,h1,h2,h3,λi row hr=>⟨(h4 i row hr).1,λk s hs=>?_⟩⟩;obtain⟨y,hy,ho,hh⟩:=(h4 i row hr).2 k s hs;refine⟨y,by unfold Mem.fr;rw[if_pos hN];exact hy,ho,?_⟩;rw[List.getElem?_map]at hr;cases hx:l[i]? with
 |none=>rw[hx]at hr;cases hr
 |some x=>
  rw[hx]at hr;have hr:e x=row:=Option.some.inj hr;subst hr;exact(he.h x).h s (List.mem_of_getElem? hs) M y hh
section
variable {P:Program}{C:Ctx}{S:AS}{Q:Exit->AS->Prop}
theorem aY.Jd{E:Env}{a:Act}{w:World}(h:aY C S E a w)(vs:List Value)(T:TypeId)(hone:∀v∈vs,v.oneCell'=true):aY C S {E with M:=λb o=>if b=w.heap.size then(vs++[.agg #[]])[o]? else E.M b o} a (w.alloc (.cells ⟨vs⟩ T)):=by
 have hno:∀o,E.M w.heap.size o=none:=λo=>by
  cases e:E.M w.heap.size o with
  |none=>rfl
  |some v=>have:=gQ h.b8 e;omega
 refine h.grow (λb o v e=>?_) (λb o v e=>?_) (λb o v e=>?_) (((Below.refl _ _).alloc (Nat.le_refl _) _))
 ·have:b≠w.heap.size:=by rintro rfl;rw[hno o]at e;cases e
  simp[this,e]
 ·by_cases hb:b=w.heap.size
  ·exact .inr (by omega)
  simp only[if_neg hb]at e;exact .inl e
 by_cases hb:b=w.heap.size
 ·subst hb;simp only[if_true]at e;by_cases ho:o<vs.length
  ·rw[List.getElem?_append_left ho]at e;refine .of ?_ (hone v (List.mem_of_getElem? e));rw[World.cell?_alloc_new];simpa using e
  rw[List.getElem?_append_right (by omega)]at e;cases xP:o-vs.length with
  |succ k=>rw[xP]at e;simp at e
  |zero=>
   rw[xP]at e;simp at e;subst e;exact⟨⟨vs⟩,T,by show(w.heap.push _)[w.heap.size]? =_;rw[Array.getElem?_push,if_pos rfl]⟩
 simp only[if_neg hb]at e;refine(h.b8 b o v e).same ?_;show(w.heap.push _)[b]? =_;rw[Array.getElem?_push,if_neg hb]
theorem mh{c:Code}{i n N:Nat}{E1:TypeId}{α:Type}{e:α->List SV}{l:List α}[el:EL e n][he:Cp N e](hN:N<=C.w0.heap.size)(hb:∀k,¬C.nm k)(hR:S.r i=.live (TR E1 n e l))(hk:Ok P C c (S.jQ i (nw N (slc n (l.map e)))) Q):Ok P C c S Q:=λa w hs=>by
 obtain⟨E,h⟩:=hs;have hlen:l.length<=9223372036854775807:=by
  obtain⟨⟨vs,ho,hv⟩,_⟩:=h.rx i _ hR;rcases ho.2 with⟨_,q2⟩|⟨g',cap,cur,q1,_,q2,q3,q4,q5,q6⟩
  ·have q2:l.length=0:=q2;omega
  have q3:l.length<=cap:=q3;have:maxLen=9223372036854775807:=by decide
  omega
 exact hk a w (h.jQ hR (nE l) (by rw[List.length_map]) hlen (ke l) (λM v hv hg=>yW hv (λg e=>⟨(hg g e).1.elim (λq=>Nat.le_trans hN q) (λq=>absurd q (hb g)),(hg g e).2⟩)))
def dR(P:Program)(f:FuncId)(N:Nat)(args:List SV)(r:SV):Prop:=
 ∀(M:Mem) (w:World) (vs:List Value),N<=w.heap.size->M.b8 w->SV.dj M args vs->
  Calls P f ⟨vs⟩ w λe w'=>∃v M',e=.returned v/\M.le M'/\(∀b o x,M' b o=some x->M b o=some x\/w.heap.size<=b)/\M'.b8 w'/\r.h M' v/\Below w.heap.size w w'
theorem dR.w{f:FuncId}{N:Nat}{args args':List SV}{r:SV}(h:dR P f N args r)(hi:cJ args' args):dR P f N args' r:=λM w vs hN hM hv=>h M w vs hN hM (hi.holds hv)
theorem bK{f:FuncId}{fn:Func}{code:Code}{N:Nat}{args:List SV}{r:SV}(hf:P.funcs[f]? =some fn)(hb:fn.body=some code)(hn:args.length<=fn.ntmps)
  (h:∀(w:World) (M:Mem) (vs:List Value),N<=w.heap.size->SV.dj M args vs->Ok P (yK w M) code (AS.init fn.ntmps args) (λe S=>(e=.normal\/e=.ret)/\Fl P S fn.results.toList r)):dR P f N args r:=by
 intro M w vs hN hM hvs;refine(callsIn_wide (n:=0)).1 (callsIn_of_wp_marks (F:=Fence.wide) hf hb trivial ?_);refine wpIn_mono (h w M vs hN hvs _ w ⟨_,fH hM hvs hn⟩) ?_;rintro e a' w' ⟨S',⟨he,ss,Iq,himp⟩,E,hh⟩;have key:LeavesInM Fence.wide 0 P fn a'.tmps (λe w'=>∃v M',e=.returned v/\M.le M'/\(∀b o x,M' b o=some x->M b o=some x\/w.heap.size<=b)/\M'.b8 w'/\r.h M' v/\Below w.heap.size w w') a'.defers .returning w':=by
  obtain⟨ds,h1,h2,h3⟩:=hh.marks;rw[h1];refine gG ds w' h2 (λr hr=>(h3 r hr).2.2) (λw2 g1 g2 g3 g4 g5=>?_);have mU:=hh.ny h3 g1 g2 g3 g4 g5;obtain⟨v,hv,hs⟩:=qD mU Iq;refine⟨v,hv,v,E.M,Y,mU.m0,λb o x e=>?_,mU.b8,himp _ _ hs,mU.os,mU.tape,mU.output,mU.grown,λk hk=>mU.frame k hk (λh=>h)⟩;rcases mU.cV b o x e with h|h|h
  ·exact .inl h
  ·exact .inr h
  exact h.elim
 rcases he with rfl|rfl
 ·exact key
 exact key
theorem Je{f:FuncId}{N:Nat}{args:List SV}{E1:TypeId}{n:Nat}{α:Type}{e:α->List SV}{l:List α}[el:EL e n][he:Cp N e](hp:Eo P f args (TR E1 n e l)):dR P f N args (nw N (slc n (l.map e))):=by
 intro M w vs hN hM hvs;refine(hp M w vs hM hvs).mono ?_;rintro ex w' ⟨v,M',us,rfl,hle,hnew,hin,hown,vB,eT,Qu⟩;have gN:Rows n (l.map e) (l.flatMap e):=nE l;have sj:=qG gN;rcases hown.2 with⟨h1,h2⟩|⟨g,cap,cur,h1,_,h2,h3,_,h5,h6⟩
 ·exact⟨v,M',rfl,hle,hnew,hin,⟨.inl ⟨none,h1,by have h2:l.length=0:=h2;rw[List.length_eq_zero_iff.1 h2];rfl⟩,λg e=>by rw[h1]at e;cases e⟩,Qu⟩
 have hg:v.ownBlock=some g:=by rw[h1];rfl
 obtain⟨hge,hno⟩:=eT g hg;have h3:l.length<=cap:=h3;have YG:maxLen=9223372036854775807:=by decide
 refine⟨v,λb o=>if b=g/\o<l.length*n then us[o]? else if b=g/\o=l.length*n then some (.agg #[])else M' b o,Y,λb o x q=>?_,λb o x q=>?_,λb o x q=>?_,?_,Qu⟩
 ·have:=hle b o x q;have:b≠g:=by rintro rfl;rw[hno o]at this;cases this
  simp[this];assumption
 ·simp only at q;split at q
  ·rename_i hc;exact .inr (by rw[hc.1];exact hge)
  split at q
  ·rename_i hc;exact .inr (by rw[hc.1];exact hge)
  exact hnew b o x q
 ·simp only at q;split at q
  ·rename_i hc;obtain⟨rfl,Al⟩:=hc;refine .of ?_ (ke l _ _ vB x (List.mem_of_getElem? q));simp only[World.cell?,h2];have h6:cur.toList.take (l.length*n)=us:=h6;rw[<-h6,List.getElem?_take,if_pos Al]at q;simpa using q
  split at q
  ·rename_i hc;cases q;rw[hc.1];exact⟨_,_,h2⟩
  exact hin b o x q
 refine yW ?_ (λg' e'=>by rw[hg]at e';cases e';exact⟨Nat.le_trans hN hge,l.length*n,by simp⟩);refine .inr ⟨g,0,cap,by rw[h1,List.length_map],by rw[List.length_map];exact h3,by rw[List.length_map];omega,λk row hk=>?_⟩;obtain⟨q1,q2⟩:=nB gN k row hk;refine⟨q1,λj s hs=>?_⟩;have BZ:=q2 j s hs;obtain⟨y,hy,hys⟩:=vB.get BZ;have hlt:k*n+j<l.length*n:=by
  have:=(List.getElem?_eq_some_iff.1 BZ).1;rw[sj,List.length_map]at this;exact this
 refine⟨y,by simp[hlt,hy],ke l _ _ vB y (List.mem_of_getElem? hy),s.mono (λb o x q=>?_) hys⟩;have:b≠g:=by rintro rfl;rw[hno o]at q;cases q
 simp[this,q]
end
section
variable {P:Program}{C:Ctx}{ops:Array Oper}{S:AS}{nd:Bool}{K:List Ac->AS->Prop}{rest:List Oper}{acc:List Ac}
variable {gd:Option (Nat×Bool)}{rg:List Nat}{d:Nat}{ty:TypeId}{pos:String}{aft:Array Edge}{x y z:Operand}{T U E0:TypeId}
variable {α:Type}{l l' k:List α}{e:α->List SV}{n by_ N:Nat}{zv:Value}
theorem RT.bM(hg:Gd ops S gd rg){f:FuncId}[dX P f]{g:Operand}{xs:Array Operand}{at_:Array TypeId}{args:List SV}{r:SV}(hp:dR P f N args r)(hN:N<=C.w0.heap.size)(hf:S.ev g=.sv (.v (.func (.func f) #[] #[])))(hargs:fD S xs.toList args)(hd:d<S.n)
  (next:RunT P C ops nd K rest (⟨rg++(aW g++xs.toList.flatMap aW),[],[],⟨some (d,.sv r),[],[]⟩⟩::acc) (S.set d (.sv r))):RunT P C ops nd K (⟨some d,.call ⟨.value g,xs,at_⟩,ty,pos,aft,gd⟩::rest) acc S:=by
 refine .inl ⟨_,[],[],_,?_,next⟩;rintro S' hn ht _ _ i a w L Q ho ⟨E,h⟩ hL;refine bO (C:=C) ho (hg.wanted h (λs hs=>ht s (List.mem_append_left _ hs)) Y) ?_;have nx:a.eval g=.func (.func f) #[] #[]:=by
  have h1:=h.ev g;rw[bk (λ_ h=>List.mem_append_right _ (List.mem_append_left _ h)) ht,hf]at h1;exact h1
 have hall:=fD.vals h hargs (λs hs=>ht s (List.mem_append_right _ (List.mem_append_right _ hs)));have hr:(execOp a.eval ⟨some d,.call ⟨.value g,xs,at_⟩,ty,pos,aft,gd⟩).run P w=.ok (.enter f ⟨xs.toList.map a.eval⟩) w:=by
  have e2:xs.map a.eval=⟨xs.toList.map a.eval⟩:=by apply Array.ext';simp
  have e1:=dX.run (P:=P) (f:=f) (xs.map a.eval) w;rw[<-e2];simp[execOp,resolve,nx,Deferred.ofValue,invoke,e1]
 refine bP (C:=C) (by intro c h;cases h) hr ?_;refine⟨λh=>by simp at h,dV ((hp E.M w _ (Nat.le_trans hN h.grown) h.b8 hall).mono ?_)⟩;rintro e w' ⟨v,M',rfl,hM,hnew,hin,hv,hb⟩;exact hL _ _ ⟨_,(h.grow hM hnew hin hb).put (x:=.sv r) hv (by show d<S'.n;omega) dD⟩
theorem RT.AF(hg:Gd ops S gd rg){m:Nat}[tS:dB P T E0 m]{c:Int}(hx:S.ev x=.sv (nw N (slc n (l.map e))))(hd:d<S.n)(hc:(l.length:Int)=c)
  (next:RunT P C ops nd K rest (⟨rg++aW x,[],[],⟨some (d,.sv (.v (.int .i64 c))),[],[]⟩⟩::acc) (S.set d (.sv (.v (.int .i64 c))))):RunT P C ops nd K (⟨some d,.call ⟨.builtin .len,#[x],#[T]⟩,ty,pos,aft,gd⟩::rest) acc S:=
 RT.len hg hx hd (by rw[List.length_map,hc];exact next)
theorem RT.YH(hg:Gd ops S gd rg)[tS:dB P T E0 n]{kk:IntKind}{i:Int}{a:α}(hx:S.ev x=.sv (nw N (slc n (l.map e))))(hy:S.ev y=.sv (.v (.int kk i)))(hd:d<S.n)(ha:cq l i=some a)
  (next:RunT P C ops nd K rest (⟨rg++(aW x++aW y),[],[],⟨some (d,.sv (ref (e a))),[],[]⟩⟩::acc) (S.set d (.sv (ref (e a))))):RunT P C ops nd K (⟨some d,.indexAddr T x y,ty,pos,aft,gd⟩::rest) acc S:=
 RT.indexAddr hg (e a) hx hy hd (lC ha).1 (by rw[List.getElem?_map,(lC ha).2];rfl) next
theorem RT.Jf(hg:Gd ops S gd rg)[tS:dB P T E0 n]{lo hi:Option Operand}(a b:Int)(hx:S.ev x=.sv (nw N (slc n (l.map e))))(hlo:vK S 0 lo a)(hhi:vK S l.length hi b)(hd:d<S.n)(h:yQ l a b=some l')
  (next:RunT P C ops nd K rest (⟨rg++(aW x++(jR lo++jR hi)),[],[],⟨some (d,.sv (nw N (slc n (l'.map e)))),[],[]⟩⟩::acc) (S.set d (.sv (nw N (slc n (l'.map e)))))):RunT P C ops nd K (⟨some d,.slice T x lo hi none,ty,pos,aft,gd⟩::rest) acc S:=by
 obtain⟨h0,h1,h2,h3⟩:=xJ h;exact RT.slice hg hx a b hlo (by rw[List.length_map];exact hhi) hd h0 h1 (by rw[List.length_map];exact h2) _ (by rw[C7,h3]) next
theorem RT.Qv(hg:Gd ops S gd rg)[tS:dB P T E0 n][tE:gX P E0 n by_ zv][el:EL e n][he:Cp N e]{i:Nat}(hN:N<=C.w0.heap.size)(hb:∀k,¬C.nm k)(hx:S.ev x=.row i)(hR:S.r i=.live (TR E0 n e l))(hy:S.ev y=.sv (slc n (k.map e)))(hd:d<S.n)(qF:S.r d=.un)(oR:d<1000)(h:w9 by_ l k=some l')
  (next:RunT P C ops nd K rest (⟨rg++(aW x++aW y),[],[d,i],⟨some (d,.sv (nw N (slc n (l'.map e)))),[],[(i,.dead),(d,.dead)]⟩⟩::acc) ((AS.bz [(i,.dead),(d,.dead)] S).set d (.sv (nw N (slc n (l'.map e)))))):RunT P C ops nd K (⟨some d,.call ⟨.builtin .append,#[x,y],#[T,T]⟩,ty,pos,aft,gd⟩::rest) acc S:=by
 obtain⟨h1,h2,rfl⟩:=qP h;have hf:l.flatMap e++(k.map e).flatten=(l++k).flatMap e:=by simp[nD]
 exact RT.Dc hg (.row hx hR) hy hd qF oR (by simpa using h1) (by simpa using h2) _ (rows':=(l++k).map e) (λ_ _ hv hg=>yW hv (λg e=>⟨(hg g e).1.elim (λq=>Nat.le_trans hN q) (λq=>absurd q (hb g)),(hg g e).2⟩)) (by rw[hf];exact nE _) (by simp) (by rw[hf];exact ke _) next
theorem RT.qQ(hg:Gd ops S gd rg)[tS:dB P T E0 n][tE:gX P E0 n by_ zv][he:Cp N e](hN:N<=C.w0.heap.size){len:Nat}{parts:Array (Nat×Operand)}{qs:List (Nat×List SV)}(hp:iQ S parts.toList qs)(hd:d<S.n)
  (hc:kY 0 qs=true) (hl:qs.length=len) (hsz:(qs.all λq=>Nat.beq q.2.length n)=true) (hlen:Nat.ble (len*n) 16777216=true) (El:(zv.cells.toList.all λv=>v.oneCell')=true) (gN:qs.map (·.2)=l.map e)
  (next:RunT P C ops nd K rest (⟨rg++eX parts.toList,[],[],⟨some (d,.sv (nw N (slc n (l.map e)))),[],[]⟩⟩::acc) (S.set d (.sv (nw N (slc n (l.map e)))))):RunT P C ops nd K (⟨some d,.buildSlice T len parts,ty,pos,aft,gd⟩::rest) acc S:=by
 refine .inl ⟨_,[],[],_,?_,next⟩;rintro S' hn ht _ _ i a w L Q ho ⟨E,h⟩ hL;refine bO (C:=C) ho (hg.wanted h (λs hs=>ht s (List.mem_append_left _ hs)) Y) ?_;obtain⟨vs,hr,hall,hone⟩:=kg (P:=P) (T:=T) (E0:=E0) (n:=n) (by_:=by_) (zv:=zv) (d:=d) (ty:=ty) (pos:=pos) (aft:=aft) (gd:=gd) h hp (λs hs=>ht s (List.mem_append_right _ hs)) hc hl hsz (af hlen) (List.all_eq_true.1 El);refine bP (C:=C) (by intro c h;cases h) hr (hL _ _ ⟨_,(h.Jd vs E0 hone).put (d:=d) (x:=.sv (nw N (slc n (l.map e)))) (v:=.slice (some ⟨w.heap.size,0,none⟩) len len) ?_ (by show d<S'.n;omega) dD⟩);have hrw:Rows n (qs.map (·.2)) (qs.map (·.2)).flatten:=⟨Y,λr hr=>by
  obtain⟨q,hq,rfl⟩:=List.mem_map.1 hr;exact Nat.eq_of_beq_eq_true (List.all_eq_true.1 hsz q hq)⟩
 have FW:=tE.p;have hlb:len<=16777216:=Nat.le_trans (Nat.le_mul_of_pos_right _ FW) (af hlen);refine yW ?_ (λg e=>by cases e;exact⟨Nat.le_trans hN h.grown,vs.length,by simp⟩);rw[<-gN];refine .inr ⟨w.heap.size,0,len,by rw[List.length_map,hl],by rw[List.length_map,hl];exact Nat.le_refl _,by rw[List.length_map,hl];omega,λk row hk=>?_⟩;obtain⟨q1,q2⟩:=nB hrw k row hk;refine⟨q1,λj s hs=>?_⟩;obtain⟨y,hy,hys⟩:=hall.get (q2 j s hs);refine⟨y,by show(if w.heap.size=w.heap.size then(vs++[Value.agg #[]])[0+k*n+j]? else _)=_;rw[if_pos Y,Nat.zero_add,List.getElem?_append_left (List.getElem?_eq_some_iff.1 hy).1];exact hy,hone y (List.mem_of_getElem? hy),s.mono (λb o v e=>?_) hys⟩;have:b≠w.heap.size:=by rintro rfl;have:=gQ h.b8 e;omega
 simp[this,e]
end
end
section
open Go.RowKit
theorem fI{P:Program}{f:FuncId}{args:List SV}{r:Nat->SV}{s:SV}(hp:∀N,dR P f N args (r N))(hi:∀N,SV.imp (r N) s):Pure P f args s:=λM w vs hM hv=>(hp w.heap.size M w vs (Nat.le_refl _) hM hv).mono (λ_ _ ⟨v,M',h1,h2,h3,h4,h5,h6⟩=>⟨v,M',h1,h2,h3,h4,hi _ _ _ h5,h6⟩)
section steps
variable {P:Program}{C:Ctx}{ops:Array Oper}{S:AS}{nd:Bool}{K:List Ac->AS->Prop}{rest:List Oper}{acc:List Ac}{N:Nat}
variable {gd:Option (Nat×Bool)}{rg:List Nat}{d:Nat}{ty:TypeId}{pos:String}{aft:Array Edge}{x y z:Operand}{T U E0:TypeId}
end steps
end
end Go.Fw
namespace Go.Proofs.Ytmiflmkdaeianaa
section
open Go.Fw
noncomputable def dx(x0:List Nat):Option (List Nat):=w9 4 [] x0
noncomputable def bA(x0:Nat)(c0:Nat):Option (Nat×Nat):=(some ((x0+c0)%18446744073709551616)).bind λx6=>(some (x6/2^32)).bind λx8=>(some (x6%4294967296)).bind λfU=>some (fU,x8)
noncomputable def bh(x0:List Nat):Option (List Nat):=(cH (λ(uG:(List Nat))=>(show Option (((List Nat))⊕((List Nat)))from di (λ(vY:Bool)=>(bif vY then(some (uG.length:Int)).bind λgV=>(some (IntKind.i64.wrap (gV-1))).bind λfJ=>(yQ uG 0 fJ).bind λng=>some (.inl ng)else some (.inr uG))) λYI=>(some (uG.length:Int)).bind λx4=>(some (decide ((0:Int)<x4))).bind λx5=>(bif x5 then(some (uG.length:Int)).bind λx9=>(some (IntKind.i64.wrap (x9-1))).bind λfU=>(cq uG fU).bind λlq=>(some (decide ((lq:Nat)=0))).bind λgR=>some gR else some false).bind λCq=>YI Cq)) x0).bind λvZ=>some vZ
noncomputable def bU(x0:Bool)(x1:List Nat):Option (Zr):=(bh x1).bind λx6=>(some (x6.length:Int)).bind λx8=>(some (decide ((x8:Int)=0))).bind λx9=>(bif x9 then some ⟨false,[]⟩else some ⟨x0,x6⟩)
noncomputable def dM(x0:Bool)(x1:Nat):Option (Zr):=(some (decide ((x1:Nat)=0))).bind λx7=>(bif x7 then some ⟨false,[]⟩else(some (x1/2^32)).bind λlq=>(some (decide ((lq:Nat)=0))).bind λgO=>(bif gO then(some (x1%4294967296)).bind λmW=>some ⟨x0,[mW]⟩else(some (x1%4294967296)).bind λiz=>(some (x1/2^32)).bind λjT=>(some (jT%4294967296)).bind λjx=>some ⟨x0,[iz,jx]⟩))
noncomputable def cU(x0:List Nat):Option (Nat):=(some (x0.length:Int)).bind λx4=>(some (decide ((x4:Int)=0))).bind λx6=>(bif x6 then some 0 else(some (decide ((x4:Int)=1))).bind λx8=>(bif x8 then(cq x0 0).bind λfU=>(some (fU%18446744073709551616)).bind λgO=>some gO else(cq x0 0).bind λjU=>(some (jU%18446744073709551616)).bind λjI=>(cq x0 1).bind λfJ=>(some (fJ%18446744073709551616)).bind λiz=>(some (iz*2^32%18446744073709551616)).bind λja=>(some ((jI ||| ja)%18446744073709551616)).bind λjT=>some jT))
noncomputable def cg(x0:List Nat)(x1:List Nat):Option (Int):=(some (x0.length:Int)).bind λx7=>(some (x1.length:Int)).bind λx9=>(some (decide ((x7:Int)≠x9))).bind λfU=>(bif fU then(some (x0.length:Int)).bind λgO=>(some (x1.length:Int)).bind λjU=>(some (decide ((gO:Int)<jU))).bind λmW=>(bif mW then some (-1)else some 1)else(some (x0.length:Int)).bind λgV=>(some (IntKind.i64.wrap (gV-1))).bind λfJ=>(cH (λ(uH:Int)=>(show Option ((Int)⊕((Unit)⊕(Int)))from(some (decide ((0:Int)<=uH))).bind λiz=>(bif iz then(cq x0 uH).bind λB3=>(cq x1 uH).bind λiu=>(some (decide ((B3:Nat)≠iu))).bind λmX=>(bif mX then(cq x0 uH).bind λkH=>(cq x1 uH).bind λvc=>(some (decide ((kH:Nat)<vc))).bind λou=>(bif ou then some (.inr (.inr (-1)))else some (.inr (.inr 1)))else(some (IntKind.i64.wrap (uH-1))).bind λjT=>some (.inl jT))else some (.inr (.inl ()))))) fJ).bind λe6=>match e6 with|.inr v6=>some v6|.inl _=>some 0)
noncomputable def dG(x0:List Nat)(x1:List Nat):Option (List Nat):=(some (x0.length:Int)).bind λfU=>(some (x1.length:Int)).bind λgO=>(some (max (fU:Int) gO)).bind λgR=>(some (IntKind.i64.wrap (gR+1))).bind λjU=>(I0 (α:=Nat) 4 jU).bind λmW=>(nG (λ(k:Nat) (s7:Nat×(List Nat))=>match s7 with|⟨qR,gw⟩=>(show Option (Nat×(List Nat))from(some (x0.getD k 0%18446744073709551616)).bind λYJ=>(some (x1.getD k 0%18446744073709551616)).bind λYK=>(some ((YJ+YK)%18446744073709551616)).bind λjH=>(bA jH qR).bind λ⟨nh,k9⟩=>(w9 4 gw [nh]).bind λiu=>some (k9,iu))) (max x0.length x1.length) (0,mW)).bind λe7=>match e7 with|⟨qR,gw⟩=>(bA 0 qR).bind λ⟨jJ,k11⟩=>(w9 4 gw [jJ]).bind λkH=>some kH
noncomputable def cr(x0:List Nat)(x1:List Nat):Option (List Nat):=(some (x0.length:Int)).bind λfU=>(I0 (α:=Nat) 4 fU).bind λlq=>(nG (λ(k:Nat) (s7:Nat×(List Nat))=>match s7 with|⟨ve,gw⟩=>(show Option (Nat×(List Nat))from(some (x0.getD k 0%18446744073709551616)).bind λYL=>(some (x1.getD k 0%18446744073709551616)).bind λYM=>(some (kG 18446744073709551616 4294967295 YM)).bind λjT=>(some ((YL+jT)%18446744073709551616)).bind λjx=>(bA jx ve).bind λ⟨fe,k9⟩=>(w9 4 gw [fe]).bind λjH=>some (k9,jH))) (max x0.length x1.length) (1,lq)).bind λe7=>match e7 with|⟨ve,gw⟩=>some gw
noncomputable def ep(x0:List Nat)(x1:List Nat):Option (List Nat):=(some (x0.length:Int)).bind λgO=>(some (x1.length:Int)).bind λjU=>(some (IntKind.i64.wrap (gO+jU))).bind λmW=>(Fp 4 mW (0:Nat)).bind λjI=>(some (x0.length:Int)).bind λfJ=>(cH (λ(Ps:Int×(List Nat))=>match Ps with|⟨kn,yX⟩=>(show Option ((Int×(List Nat))⊕((List Nat)))from(some (decide ((kn:Int)<fJ))).bind λiz=>(bif iz then(cq x0 kn).bind λjT=>(some (x1.length:Int)).bind λjH=>(cH (λ(Nc:Int×Nat×(List Nat))=>match Nc with|⟨sD,qS,pQ⟩=>(show Option ((Int×Nat×(List Nat))⊕(Nat×(List Nat)))from(some (decide ((sD:Int)<jH))).bind λlX=>(bif lX then(cq x1 sD).bind λow=>(some (IntKind.i64.wrap (kn+sD))).bind λqT=>(some (IntKind.i64.wrap (kn+sD))).bind λou=>(qu pQ ou).bind λxn=>(pQ[xn]?).bind λr5=>(some (r5%18446744073709551616)).bind λAd=>(some (jT%18446744073709551616)).bind λCr=>(some (ow%18446744073709551616)).bind λAG=>(some ((Cr*AG)%18446744073709551616)).bind λAe=>(some ((Ad+Ae)%18446744073709551616)).bind λx49=>(bA x49 qS).bind λ⟨vf,YN⟩=>(qu pQ qT).bind λIt=>(stM pQ It vf).bind λYO=>(some (IntKind.i64.wrap (sD+1))).bind λuI=>some (.inl (uI,YN,YO))else some (.inr (qS,pQ))))) (0,0,yX)).bind λYP=>match YP with|⟨AH,Cs⟩=>(some (x1.length:Int)).bind λJg=>(some (IntKind.i64.wrap (kn+Jg))).bind λQw=>(bA 0 AH).bind λ⟨Nd,k45⟩=>(qu Cs Qw).bind λEv=>(stM Cs Ev Nd).bind λYQ=>(some (IntKind.i64.wrap (kn+1))).bind λIu=>some (.inl (Iu,YQ))else some (.inr yX)))) (0,jI)).bind λpR=>some pR
noncomputable def fo(x0:List Nat)(x1:Nat):Option (Nat×List Nat):=(some (x0.length:Int)).bind λx9=>(some (IntKind.i64.wrap (x9-1))).bind λfU=>(cH (λ(s8:Nat×Int×(List Nat))=>match s8 with|⟨Gm,Gn,mm⟩=>(show Option ((Nat×Int×(List Nat))⊕(Nat×(List Nat)))from(some (decide ((0:Int)<=Gn))).bind λgO=>(bif gO then(some (Gm*2^32%18446744073709551616)).bind λjI=>(qu mm Gn).bind λng=>(mm[ng]?).bind λiz=>(some (iz%18446744073709551616)).bind λja=>(some ((jI ||| ja)%18446744073709551616)).bind λjT=>(yR 18446744073709551616 jT x1).bind λnh=>(some (nh%4294967296)).bind λlX=>(qu mm Gn).bind λiu=>(stM mm iu lX).bind λvg=>(xk jT x1).bind λjJ=>(some (IntKind.i64.wrap (Gn-1))).bind λjU=>some (.inl (jJ,jU,vg))else some (.inr (Gm,mm))))) (0,fU,x0)).bind λe8=>match e8 with|⟨Qx,vh⟩=>(oV x0 vh).bind λ_=>some (Qx,vh)
noncomputable def dS(x0:List Nat)(x1:Nat):Option (List Nat):=(some (x0.length:Int)).bind λlq=>(some (IntKind.i64.wrap (lq+1))).bind λgO=>(I0 (α:=Nat) 4 gO).bind λgR=>(some (x0.length:Int)).bind λmW=>(cH (λ(s8:Int×Nat×(List Nat))=>match s8 with|⟨qV,mq,gw⟩=>(show Option ((Int×Nat×(List Nat))⊕(Nat×(List Nat)))from(some (decide ((qV:Int)<mW))).bind λgV=>(bif gV then(cq x0 qV).bind λfJ=>(some (fJ%18446744073709551616)).bind λjx=>(some (jx*2^(min x1 64)%18446744073709551616)).bind λB3=>(bA B3 mq).bind λ⟨jH,Nf⟩=>(w9 4 gw [jH]).bind λlX=>(some (IntKind.i64.wrap (qV+1))).bind λiu=>some (.inl (iu,Nf,lX))else some (.inr (mq,gw))))) (0,0,gR)).bind λe8=>match e8 with|⟨v5,Gp⟩=>(bA 0 v5).bind λ⟨jJ,YR⟩=>(w9 4 Gp [jJ]).bind λkH=>some kH
noncomputable def fK(x0:List Nat)(x1:Nat):Option (List Nat):=(some (x0.length:Int)).bind λlq=>(some (IntKind.i64.wrap (lq+1))).bind λgO=>(I0 (α:=Nat) 4 gO).bind λgR=>(some (x0.length:Int)).bind λmW=>(cH (λ(s8:Int×Nat×(List Nat))=>match s8 with|⟨qV,mq,yY⟩=>(show Option ((Int×Nat×(List Nat))⊕(Nat×(List Nat)))from(some (decide ((qV:Int)<mW))).bind λgV=>(bif gV then(cq x0 qV).bind λfJ=>(some (fJ%18446744073709551616)).bind λjx=>(some (jx*2^(min x1 64)%18446744073709551616)).bind λB3=>(bA B3 mq).bind λ⟨jH,Nf⟩=>(w9 4 yY [jH]).bind λlX=>(some (IntKind.i64.wrap (qV+1))).bind λiu=>some (.inl (iu,Nf,lX))else some (.inr (mq,yY))))) (0,0,gR)).bind λe8=>match e8 with|⟨v5,Gq⟩=>(bA 0 v5).bind λ⟨jJ,YR⟩=>(w9 4 Gq [jJ]).bind λkH=>some kH
noncomputable def eK(x0:Nat):Option (Int):=(some (decide ((65536:Nat)<=x0))).bind λx4=>di (λ(j2:Nat×Int)=>match j2 with|⟨Ct,Jh⟩=>(some (decide ((256:Nat)<=Ct))).bind λx8=>di (λ(j4:Nat×Int)=>match j4 with|⟨Qy,Qz⟩=>(some (Qy%256)).bind λmW=>(oU [0,1,2,2,3,3,3,3,4,4,4,4,4,4,4,4,5,5,5,5,5,5,5,5,5,5,5,5,5,5,5,5,6,6,6,6,6,6,6,6,6,6,6,6,6,6,6,6,6,6,6,6,6,6,6,6,6,6,6,6,6,6,6,6,7,7,7,7,7,7,7,7,7,7,7,7,7,7,7,7,7,7,7,7,7,7,7,7,7,7,7,7,7,7,7,7,7,7,7,7,7,7,7,7,7,7,7,7,7,7,7,7,7,7,7,7,7,7,7,7,7,7,7,7,7,7,7,7,8,8,8,8,8,8,8,8,8,8,8,8,8,8,8,8,8,8,8,8,8,8,8,8,8,8,8,8,8,8,8,8,8,8,8,8,8,8,8,8,8,8,8,8,8,8,8,8,8,8,8,8,8,8,8,8,8,8,8,8,8,8,8,8,8,8,8,8,8,8,8,8,8,8,8,8,8,8,8,8,8,8,8,8,8,8,8,8,8,8,8,8,8,8,8,8,8,8,8,8,8,8,8,8,8,8,8,8,8,8,8,8,8,8,8,8,8,8,8,8,8,8,8,8,8,8,8,8] ((mW:Nat):Int)).bind λjI=>(some (IntKind.i64.wrap (jI:Int))).bind λgV=>(some (IntKind.i64.wrap (Qz+gV))).bind λfJ=>some fJ) λK4=>(bif x8 then(some (Ct/2^8)).bind λfU=>(some (IntKind.i64.wrap (Jh+8))).bind λgO=>K4 (fU,gO)else K4 (Ct,Jh))) λK2=>(bif x4 then(some (x0/2^16)).bind λx6=>K2 (x6,16)else K2 (x0,0))
noncomputable def cK(x0:Nat):Option (Int):=(eK x0).bind λx4=>(some (IntKind.i64.wrap (32-x4))).bind λx5=>some x5
noncomputable def fu(x0:List Nat)(o0:Nat)(n0:Nat)(x1:List Nat):Option (Nat×List Nat):=(some (x1.length:Int)).bind λgO=>(Is o0 n0 gO).bind λmW=>(x0[mW]?).bind λjI=>(some (jI%18446744073709551616)).bind λgV=>(some (gV*2^32%18446744073709551616)).bind λfJ=>(some (IntKind.i64.wrap (gO-1))).bind λja=>(Is o0 n0 ja).bind λjT=>(x0[jT]?).bind λjx=>(some (jx%18446744073709551616)).bind λfe=>(some ((fJ ||| fe)%18446744073709551616)).bind λB3=>(some (IntKind.i64.wrap (gO-1))).bind λlX=>(cq x1 lX).bind λiu=>(some (iu%18446744073709551616)).bind λmX=>(some (IntKind.i64.wrap (gO-2))).bind λkH=>(cq x1 kH).bind λqT=>(some (qT%18446744073709551616)).bind λtN=>(yR 18446744073709551616 B3 mX).bind λou=>(xk B3 mX).bind λAd=>(cH (λ(AI:Nat×Nat)=>match AI with|⟨xo,xQ⟩=>(show Option ((Nat×Nat)⊕(Nat))from di (λ(Cu:Bool)=>(bif Cu then(some (kG 18446744073709551616 xo 1)).bind λKH=>(some ((xQ+mX)%18446744073709551616)).bind λFq=>(some (Fq/2^32)).bind λNg=>(some (decide ((Ng:Nat)≠0))).bind λYS=>(bif YS then some (.inr KH)else some (.inl (KH,Fq)))else some (.inr xo))) λYI=>(some (xo/2^32)).bind λCr=>(some (decide ((Cr:Nat)≠0))).bind λv7=>(bif v7 then some true else(some ((xo*tN)%18446744073709551616)).bind λvf=>(some (xQ*2^32%18446744073709551616)).bind λuI=>(some (IntKind.i64.wrap (gO-2))).bind λJi=>(Is o0 n0 Ji).bind λJg=>(x0[Jg]?).bind λQw=>(some (Qw%18446744073709551616)).bind λYT=>(some ((uI ||| YT)%18446744073709551616)).bind λNd=>(some (decide ((Nd:Nat)<vf))).bind λEv=>some Ev).bind λGr=>YI Gr)) (ou,Ad)).bind λEw=>(oV x0 x0).bind λ_=>some (Ew,x0)
noncomputable def cu(x0:List Nat)(o0:Nat)(n0:Nat)(x1:List Nat)(x2:Nat):Option (Bool×List Nat):=(some (n0:Int)).bind λjU=>(cH (λ(vi:Nat×Int×Nat×(List Nat))=>match vi with|⟨Ex,qW,yZ,oz⟩=>(show Option ((Nat×Int×Nat×(List Nat))⊕(Nat×(List Nat)))from(some (decide ((qW:Int)<jU))).bind λjI=>(bif jI then(some (x1.length:Int)).bind λiz=>(some (decide ((qW:Int)<iz))).bind λja=>di (λ(Gs:Nat)=>(Is o0 n0 qW).bind λmX=>(oz[mX]?).bind λjJ=>(some (jJ%18446744073709551616)).bind λmY=>(bA Gs yZ).bind λ⟨v8,YU⟩=>(some (v8%18446744073709551616)).bind λtN=>(some (kG 18446744073709551616 mY tN)).bind λvc=>(some (kG 18446744073709551616 vc Ex)).bind λou=>(some (ou%4294967296)).bind λEy=>(Is o0 n0 qW).bind λCr=>(stM oz Cr Ey).bind λYV=>(some (ou/2^63)).bind λAG=>(some (IntKind.i64.wrap (qW+1))).bind λAe=>some (.inl (AG,Ae,YU,YV))) λK14=>(bif ja then(cq x1 qW).bind λfe=>(some (fe%18446744073709551616)).bind λjH=>(some ((jH*x2)%18446744073709551616)).bind λlX=>K14 lX else K14 0)else some (.inr (Ex,oz))))) (0,0,0,x0)).bind λEz=>match Ez with|⟨Gt,qX⟩=>(some (decide ((Gt:Nat)≠0))).bind λvf=>(oV x0 qX).bind λ_=>some (vf,qX)
noncomputable def fV(x0:List Nat)(x1:List Nat):Option ((List Nat)×(List Nat)):=(some (x1.length:Int)).bind λgV=>(some (IntKind.i64.wrap (gV-1))).bind λiz=>(cq x1 iz).bind λja=>(cK ja).bind λjx=>(some ((jx%18446744073709551616).toNat)).bind λfe=>(fK x0 fe).bind λnh=>(dS x1 fe).bind λow=>(yQ ow 0 gV).bind λjJ=>(some (x0.length:Int)).bind λkH=>(some (IntKind.i64.wrap (kH-gV))).bind λv8=>(some (IntKind.i64.wrap (v8+1))).bind λtN=>(Fp 4 tN (0:Nat)).bind λvc=>(some (x0.length:Int)).bind λou=>(some (IntKind.i64.wrap (ou-gV))).bind λr5=>(cH (λ(Nh:Int×(List Nat)×(List Nat))=>match Nh with|⟨gx,nJ,pS⟩=>(show Option ((Int×(List Nat)×(List Nat))⊕((List Nat)×(List Nat)))from(some (decide ((0:Int)<=gx))).bind λEy=>(bif Ey then(some (IntKind.i64.wrap (gx+gV))).bind λIt=>(some (IntKind.i64.wrap (It+1))).bind λuI=>(M7 pS gx uI).bind λ⟨o53,n53⟩=>(fu pS o53 n53 jJ).bind λ⟨Ji,Ni⟩=>(oV pS Ni).bind λ_=>(some (IntKind.i64.wrap (gx+gV))).bind λEv=>(some (IntKind.i64.wrap (Ev+1))).bind λIu=>(M7 Ni gx Iu).bind λ⟨o62,n62⟩=>(cu Ni o62 n62 jJ Ji).bind λ⟨Pt,Pu⟩=>(oV Ni Pu).bind λ_=>di (λ(Pv:Nat×(List Nat))=>match Pv with|⟨Gu,Cv⟩=>(some (Gu%4294967296)).bind λEA=>(qu nJ gx).bind λQA=>(stM nJ QA EA).bind λYW=>(some (IntKind.i64.wrap (gx-1))).bind λv7=>some (.inl (v7,YW,Cv))) λK53=>(bif Pt then(some (kG 18446744073709551616 Ji 1)).bind λJj=>(some (jJ.length:Int)).bind λPw=>(cH (λ(Nj:Int×Nat×(List Nat))=>match Nj with|⟨sE,qY,pU⟩=>(show Option ((Int×Nat×(List Nat))⊕(Nat×(List Nat)))from(some (decide ((sE:Int)<Pw))).bind λNk=>(bif Nk then(cq jJ sE).bind λQB=>(some (IntKind.i64.wrap (gx+sE))).bind λx79=>(some (IntKind.i64.wrap (gx+sE))).bind λx84=>(qu pU x84).bind λx85=>(pU[x85]?).bind λx86=>(some (x86%18446744073709551616)).bind λNl=>(some (QB%18446744073709551616)).bind λYX=>(some ((Nl+YX)%18446744073709551616)).bind λx90=>(bA x90 qY).bind λ⟨YY,YZ⟩=>(qu pU x79).bind λx92=>(stM pU x92 YY).bind λY0=>(some (IntKind.i64.wrap (sE+1))).bind λNm=>some (.inl (Nm,YZ,Y0))else some (.inr (qY,pU))))) (0,0,Pu)).bind λY1=>match Y1 with|⟨AJ,wc⟩=>(some (IntKind.i64.wrap (gx+gV))).bind λx97=>(some (IntKind.i64.wrap (gx+gV))).bind λQC=>(qu wc QC).bind λQD=>(wc[QD]?).bind λy7=>(some (y7%18446744073709551616)).bind λGv=>(bA Gv AJ).bind λ⟨Nn,k72⟩=>(qu wc x97).bind λEB=>(stM wc EB Nn).bind λY2=>K53 (Jj,Y2)else K53 (Ji,Pu))else some (.inr (nJ,pS))))) (r5,vc,nh)).bind λY3=>match Y3 with|⟨we,sF⟩=>(Fp 4 gV (0:Nat)).bind λQE=>(cH (λ(Px:Int×(List Nat))=>match Px with|⟨oA,qZ⟩=>(show Option ((Int×(List Nat))⊕((List Nat)))from(some (decide ((oA:Int)<gV))).bind λNo=>(bif No then(qu sF oA).bind λQF=>(sF[QF]?).bind λQG=>(some (QG%18446744073709551616)).bind λNp=>(some (IntKind.i64.wrap (oA+1))).bind λQH=>(qu sF QH).bind λQI=>(sF[QI]?).bind λQJ=>(some (QJ%18446744073709551616)).bind λNq=>(some (Nq*2^32%18446744073709551616)).bind λNr=>(some ((Np ||| Nr)%18446744073709551616)).bind λNs=>(some (Ns/2^(min fe 64))).bind λQK=>(some (QK%4294967296)).bind λNt=>(qu qZ oA).bind λQL=>(stM qZ QL Nt).bind λY4=>(some (IntKind.i64.wrap (oA+1))).bind λNu=>some (.inl (Nu,Y4))else some (.inr qZ)))) (0,QE)).bind λmu=>some (we,mu)
noncomputable def er(x0:List Nat)(x1:List Nat):Option ((List Nat)×(List Nat)):=(cg x0 x1).bind λgO=>(some (decide ((gO:Int)<0))).bind λgR=>(bif gR then(dx x0).bind λmW=>some ([],mW)else(some (x0.length:Int)).bind λfJ=>(some (decide ((fJ:Int)<=2))).bind λng=>(bif ng then(cU x0).bind λja=>(cU x1).bind λjx=>(yR 18446744073709551616 ja jx).bind λjH=>(dM false jH).bind λ⟨jc,jd⟩=>(xk ja jx).bind λmX=>(dM false mX).bind λ⟨ko,jA⟩=>some (jd,jA)else(some (x1.length:Int)).bind λv8=>(some (decide ((v8:Int)=1))).bind λtN=>(bif tN then(dx x0).bind λmZ=>(cq x1 0).bind λr5=>(some (r5%18446744073709551616)).bind λEy=>(fo mZ Ey).bind λ⟨Cr,l5⟩=>(oV mZ l5).bind λ_=>(some (Cr%4294967296)).bind λAe=>some (l5,[Ae])else(fV x0 x1).bind λ⟨QM,QN⟩=>some (QM,QN))))
noncomputable def bp(x0:Int):Option (Zr):=(some ((x0%18446744073709551616).toNat)).bind λx5=>(some (decide ((x0:Int)<0))).bind λx7=>di (λ(QO:Nat)=>(some (decide ((x0:Int)<0))).bind λlq=>(dM lq QO).bind λ⟨nK,tO⟩=>some ⟨nK,tO⟩) λK2=>(bif x7 then(some (kG 18446744073709551616 0 x5)).bind λx9=>K2 x9 else K2 x5)
noncomputable def cP(x0:Zr):Option (Int×Bool):=match x0 with|⟨bT,bN⟩=>(bh bN).bind λx8=>(some (x8.length:Int)).bind λfU=>(some (decide ((2:Int)<fU))).bind λlq=>(bif lq then some (0,false)else(cU x8).bind λgR=>(bif bT then(some (decide ((9223372036854775808:Nat)<gR))).bind λgV=>(bif gV then some (0,false)else(some (kG 18446744073709551616 0 gR)).bind λng=>(some (IntKind.i64.wrap (ng:Int))).bind λiz=>some (iz,true))else(some (decide ((9223372036854775808:Nat)<=gR))).bind λjT=>(bif jT then some (0,false)else(some (IntKind.i64.wrap (gR:Int))).bind λfe=>some (fe,true))))
noncomputable def cz(x0:Bool)(x1:List Nat)(x2:Bool)(x3:List Nat):Option (Zr):=(some (x0==x2)).bind λlq=>(bif lq then(dG x1 x3).bind λmW=>(bU x0 mW).bind λ⟨oX,oY⟩=>some ⟨oX,oY⟩else(cg x1 x3).bind λng=>(some (decide ((ng:Int)<0))).bind λiz=>(bif iz then(cr x3 x1).bind λfe=>(bU x2 fe).bind λ⟨xR,xS⟩=>some ⟨xR,xS⟩else(cr x1 x3).bind λiu=>(bU x0 iu).bind λ⟨xT,xU⟩=>some ⟨xT,xU⟩))
noncomputable def da(x0:Zr)(x1:Zr):Option (Zr):=match x0 with|⟨bT,bN⟩=>match x1 with|⟨dz,dm⟩=>(cP ⟨bT,bN⟩).bind λ⟨xp,Cw⟩=>(cP ⟨dz,dm⟩).bind λ⟨za,Cx⟩=>di (λ(wh:Bool)=>di (λ(j5:Unit)=>(bh bN).bind λxn=>(bh dm).bind λv7=>(cz bT xn dz v7).bind λ⟨KI,KJ⟩=>some ⟨KI,KJ⟩) λK5=>(bif wh then(some (IntKind.i64.wrap (xp+za))).bind λjH=>(some (IntKind.i64.wrap ((BitVec.ofInt 64 xp ^^^ BitVec.ofInt 64 jH).toNat))).bind λiu=>(some (IntKind.i64.wrap ((BitVec.ofInt 64 za ^^^ BitVec.ofInt 64 jH).toNat))).bind λjJ=>(some (IntKind.i64.wrap ((BitVec.ofInt 64 iu &&& BitVec.ofInt 64 jJ).toNat))).bind λmY=>(some (decide ((0:Int)<=mY))).bind λkH=>(bif kH then(bp jH).bind λ⟨oZ,m7⟩=>some ⟨oZ,m7⟩else K5 ())else K5 ())) λK3=>(bif Cw then some Cx else some false).bind λAK=>K3 AK
noncomputable def gy(x0:Zr)(x1:Zr):Option (Zr):=match x0 with|⟨bT,bN⟩=>match x1 with|⟨dz,dm⟩=>(cP ⟨bT,bN⟩).bind λ⟨xp,Cw⟩=>(cP ⟨dz,dm⟩).bind λ⟨za,Cx⟩=>di (λ(wh:Bool)=>di (λ(j5:Unit)=>(bh bN).bind λxn=>(some (!dz)).bind λEy=>(bh dm).bind λAG=>(cz bT xn Ey AG).bind λ⟨AL,wj⟩=>some ⟨AL,wj⟩) λK5=>(bif wh then(some (IntKind.i64.wrap (xp-za))).bind λjH=>(some (IntKind.i64.wrap ((BitVec.ofInt 64 xp ^^^ BitVec.ofInt 64 za).toNat))).bind λiu=>(some (IntKind.i64.wrap ((BitVec.ofInt 64 xp ^^^ BitVec.ofInt 64 jH).toNat))).bind λjJ=>(some (IntKind.i64.wrap ((BitVec.ofInt 64 iu &&& BitVec.ofInt 64 jJ).toNat))).bind λmY=>(some (decide ((0:Int)<=mY))).bind λkH=>(bif kH then(bp jH).bind λ⟨oZ,m7⟩=>some ⟨oZ,m7⟩else K5 ())else K5 ())) λK3=>(bif Cw then some Cx else some false).bind λAK=>K3 AK
noncomputable def dc(x0:Zr)(x1:Zr):Option (Zr):=match x0 with|⟨bT,bN⟩=>match x1 with|⟨dz,dm⟩=>(bh bN).bind λx9=>(bh dm).bind λgO=>di (λ(Gw:Bool)=>(bif Gw then(some (!(bT==dz))).bind λB3=>(cU x9).bind λnh=>(cU gO).bind λiu=>(some ((nh*iu)%18446744073709551616)).bind λow=>(dM B3 ow).bind λ⟨Dk,xV⟩=>some ⟨Dk,xV⟩else(some (!(bT==dz))).bind λv8=>(ep x9 gO).bind λmZ=>(bU v8 mZ).bind λ⟨m8,m9⟩=>some ⟨m8,m9⟩)) λK3=>(some (x9.length:Int)).bind λjU=>(some (decide ((jU:Int)<=1))).bind λmW=>(bif mW then(some (gO.length:Int)).bind λfJ=>(some (decide ((fJ:Int)<=1))).bind λng=>some ng else some false).bind λKK=>K3 KK
noncomputable def ek(x0:Zr):Option (Zr):=match x0 with|⟨bT,bN⟩=>(some (!bT)).bind λx5=>(bh bN).bind λx8=>(dx x8).bind λx9=>(bU x5 x9).bind λ⟨xW,xX⟩=>some ⟨xW,xX⟩
noncomputable def cA(x0:Zr):Option (Int):=match x0 with|⟨bT,bN⟩=>(bh bN).bind λx6=>(some (x6.length:Int)).bind λx7=>(some (decide ((x7:Int)=0))).bind λx8=>(bif x8 then some 0 else(bif bT then some (-1)else some 1))
noncomputable def jB(x0:Zr)(x1:Zr):Option (Int):=match x0 with|⟨bT,bN⟩=>match x1 with|⟨dz,dm⟩=>(cA ⟨bT,bN⟩).bind λx8=>(cA ⟨dz,dm⟩).bind λfU=>(some (decide ((x8:Int)<fU))).bind λjU=>(bif jU then some (-1)else(some (decide ((fU:Int)<x8))).bind λfJ=>(bif fJ then some 1 else(some (decide ((x8:Int)<0))).bind λja=>(bif ja then(bh dm).bind λfe=>(bh bN).bind λnh=>(cg fe nh).bind λlX=>some lX else(bh bN).bind λmX=>(bh dm).bind λkH=>(cg mX kH).bind λqT=>some qT)))
noncomputable def cm(x0:Zr)(x1:Zr):Option (Zr×Zr×Int):=match x0 with|⟨bT,bN⟩=>match x1 with|⟨dz,dm⟩=>(bh bN).bind λgR=>(bh dm).bind λjI=>(some (jI.length:Int)).bind λfJ=>(some (decide ((fJ:Int)=0))).bind λng=>(bif ng then some (⟨false,[]⟩,⟨false,[]⟩,7)else(er gR jI).bind λ⟨Gx,QS⟩=>(bh QS).bind λiu=>di (λ(j3:Bool×Bool)=>match j3 with|⟨Gy,Cy⟩=>di (λ(j5:(List Nat)×(List Nat))=>match j5 with|⟨QT,KL⟩=>(some (!(Cy==dz))).bind λAG=>(bU AG QT).bind λ⟨Dl,Dm⟩=>(bU false KL).bind λ⟨AM,AN⟩=>some (⟨Dl,Dm⟩,⟨AM,AN⟩,0)) λK5=>(bif Gy then(dG Gx [1]).bind λmZ=>(cr jI iu).bind λr5=>K5 (mZ,r5)else K5 (Gx,iu))) λK3=>(bif bT then(some (iu.length:Int)).bind λkH=>(some (decide ((0:Int)<kH))).bind λqT=>some qT else some false).bind λKM=>K3 (KM,bT))
noncomputable def iG(x0:Zr)(x1:Zr):Option (Zr):=match x0 with|⟨bT,bN⟩=>match x1 with|⟨dz,dm⟩=>(bh bN).bind λgR=>(bh dm).bind λjI=>(cH (λ(vi:(List Nat)×(List Nat))=>match vi with|⟨uJ,zb⟩=>(show Option (((List Nat)×(List Nat))⊕((List Nat)×(List Nat)))from di (λ(Cz:Bool)=>(bif Cz then(er uJ zb).bind λ⟨Y5,QU⟩=>(bh QU).bind λvc=>some (.inl (zb,vc))else some (.inr (uJ,zb)))) λK16=>(some (zb.length:Int)).bind λfJ=>(some (decide ((0:Int)<fJ))).bind λng=>(bif ng then(some (uJ.length:Int)).bind λjT=>(some (decide ((2:Int)<jT))).bind λjx=>(bif jx then some true else(some (zb.length:Int)).bind λjH=>(some (decide ((2:Int)<jH))).bind λnh=>some nh).bind λGz=>some Gz else some false).bind λGA=>K16 GA)) (gR,jI)).bind λEz=>match Ez with|⟨GB,GC⟩=>(some (GC.length:Int)).bind λou=>(some (decide ((ou:Int)=0))).bind λxn=>(bif xn then(dx GB).bind λAd=>(bU false Ad).bind λ⟨Dn,Dp⟩=>some ⟨Dn,Dp⟩else(cU GB).bind λv7=>(cU GC).bind λAe=>(cH (λ(CA:Nat×Nat)=>match CA with|⟨Dq,sG⟩=>(show Option ((Nat×Nat)⊕(Nat))from(some (decide ((0:Nat)<sG))).bind λvf=>(bif vf then(xk Dq sG).bind λNv=>some (.inl (sG,Nv))else some (.inr Dq)))) (v7,Ae)).bind λxY=>(dM false xY).bind λ⟨KN,KO⟩=>some ⟨KN,KO⟩)
end
section
open Go.Fw Go.Fw.Z Go.RowKit
theorem dH(c:Nat):MP ah 92 [.v (.int .u64 (c:Nat))] 113 100 [.v (.int .u64 (c:Nat))]:=by
 refine Cf Try.func92 Y (af Y) (λgz M vs hvs=>?_);exact sr<|RT.MF .none (s:=.sv _) Y T Y Y<|ag Y<|dn<|sr<|RT.makeFunc .none (.box Y (.nil)) T<|an (s:=.fF _ _) Y<|dn<|bg<|⟨.inr Y,_,.tmp Y,Y⟩
theorem nL(a b:List Nat):Pure ah 93 [(slc 1 (List.map aZ a)),(slc 1 (List.map aZ b))] (Ap 114 [ref [(slc 1 (List.map aZ a))],ref [(slc 1 (List.map aZ b))]]):=by
 refine bL Try.func93 Y (af Y) (λgz M vs hvs=>?_);refine sr<|RT.MF .none (s:=.sv _) Y T Y Y<|RT.MF .none (s:=.sv _) Y T Y Y<|ag Y<|dn<|sr<|RT.makeFunc .none (.box Y (.box Y (.nil))) T<|an (s:=.fF _ _) Y<|dn<|dg (oh (i:=2) Y [(slc 1 (List.map aZ a))] (.cons Y .nil) .any 0 [(4,.fF 114 [.val (ref [(slc 1 (List.map aZ a))]),.box 3])] (λ_ _ _=>trivial) (si.h (l:=[(slc 1 (List.map aZ a))])) ⟨@FT.fF _ _ _ _ _ 4 114 [.box 2,.box 3] Y,aq⟩) ?_;exact dg (oh (i:=3) Y [(slc 1 (List.map aZ b))] (.cons Y .nil) .any 0 [(4,.fF 114 [.val (ref [(slc 1 (List.map aZ a))]),.val (ref [(slc 1 (List.map aZ b))])])] (λ_ _ _=>trivial) (si.h (l:=[(slc 1 (List.map aZ b))])) ⟨@FT.fF _ _ _ _ _ 4 114 [.val (ref [(slc 1 (List.map aZ a))]),.box 3] Y,aq⟩)<|dg (MX 4 (Ap 114 [ref [(slc 1 (List.map aZ a))],ref [(slc 1 (List.map aZ b))]]) (λ_ _ h=>MY h))<|bg<|⟨.inr Y,ML (.tmp Y (.nil)) Y⟩
theorem nM(a b:List Nat):Iter ah 114 [ref [(slc 1 (List.map aZ a))],ref [(slc 1 (List.map aZ b))]] (max a.length b.length) (λk=>[.v (.int .u64 ((a.getD k 0%18446744073709551616:Nat):Int)),.v (.int .u64 ((b.getD k 0%18446744073709551616:Nat):Int))]):=by
 refine Ch Try.func114 Y Y (af Y) (λgz M O l J hJ Nw hr=>?_);obtain⟨w8,Nw⟩:=Nw;have hla:a.length<=9223372036854775807:=by cases w8 with|nil=>exact Nw.elim|cons _ w8=>exact Df Nw.1
 have hlb:b.length<=9223372036854775807:=by cases w8 with|nil=>exact Nw.elim|cons _ w8=>cases w8 with|nil=>exact Nw.2.elim|cons _ _=>exact Df Nw.2.1
 refine bR ?_;refine aX ?_;refine RT.gb .none Y Y (tl Y) ?_;refine RT.len .none Y (tl Y) ?_;refine RT.gb .none Y Y (tl Y) ?_;refine RT.len .none Y (tl Y) ?_;refine RT.max .none (((max a.length b.length:Nat):Int)) Y Y (tl Y) (by simp only[List.length_map];split<;>omega) ?_;refine RT.mv .none Y (tl Y) ?_;refine RT.done ?_;refine aV.n ?_;refine bj ?_
 refine uW (I:=λx:{i:Nat//i<=max a.length b.length}=>AS.cZ 39 [(0,.sv (.v (.func (.yield l) #[] #[]))),(1,.sv (ref [(slc 1 (List.map aZ a))])),(2,.sv (ref [(slc 1 (List.map aZ b))])),(11,ai ((max a.length b.length:Nat):Int)),(12,ai ((x.1:Nat):Int))] [] [] (x.1)) (μ:=λx=>max a.length b.length-x.1) ⟨0,by omega⟩ (by(try dsimp only);exact eG id Y Y Y Y Y ⟨.sv (by first|exact au|exact SV.bq (by omega)|exact SV.bq (by push_cast;omega)|exact SV.bq (by dsimp only;omega)|exact SV.imp_eq (by simp)),.sv (by first|exact au|exact SV.bq (by omega)|exact SV.bq (by push_cast;omega)|exact SV.bq (by dsimp only;omega)|exact SV.imp_eq (by simp)),.sv (by first|exact au|exact SV.bq (by omega)|exact SV.bq (by push_cast;omega)|exact SV.bq (by dsimp only;omega)|exact SV.imp_eq (by simp)),.sv (by first|exact au|exact SV.bq (by omega)|exact SV.bq (by push_cast;omega)|exact SV.bq (by dsimp only;omega)|exact SV.imp_eq (by simp)),.sv (by first|exact au|exact SV.bq (by omega)|exact SV.bq (by push_cast;omega)|exact SV.bq (by dsimp only;omega)|exact SV.imp_eq (by simp)),aq⟩ trivial trivial (λ_ _=>Y)) ?_;rintro⟨i,QV⟩
 try dsimp only
 rcases Ck a b i QV with⟨hi,yN,FU⟩|⟨hi,yN,FU⟩|⟨hi,yN,FU⟩|hi
 ·
  refine bR ?_;refine aX ?_;refine RT.lss .none (true) Y Y (tl Y) (by simp;omega) ?_;refine RT.done ?_;refine aV.n ?_;refine bR ?_;refine fk Y ?_;refine bu ?_;refine aV.n ?_;refine bR ?_;refine bj ?_;refine bR ?_;refine aX ?_;refine RT.mv .none Y (tl Y) ?_;refine RT.yO .none Y (tl Y) ?_;refine RT.done ?_;refine aV.n ?_;refine bR ?_;refine aX ?_;refine RT.yO .none Y (tl Y) ?_;refine RT.yO .none Y (tl Y) ?_;refine RT.done ?_;refine aV.n ?_;refine bR ?_;refine bR ?_;refine aX ?_;refine RT.mv .none Y (tl Y) ?_;refine RT.gb .none Y Y (tl Y) ?_;refine RT.len .none Y (tl Y) ?_;refine RT.lss .none (true) Y Y (tl Y) (by simp only[List.length_map];simp;omega) ?_;refine RT.done ?_;refine aV.n ?_;refine fk Y ?_;refine aX ?_;refine RT.gb .none Y Y (tl Y) ?_;refine RT.mv .none Y (tl Y) ?_;refine RT.VY .none [.v (.int .u32 ((a.getD i 0:Nat):Int))] (Int.natCast_nonneg i) (by rw[Int.toNat_natCast,List.getElem?_map,nF yN];rfl) Y Y (tl Y) ?_;refine RT.gb .none Y Y (tl Y) ?_;refine RT.conv .none (((a.getD i 0%18446744073709551616:Nat):Int)) Y (tl Y) IZ ?_;refine RT.yO .none Y (tl Y) ?_;refine RT.done ?_;refine aV.n ?_;refine bR ?_;refine bR ?_;refine aX ?_;refine RT.mv .none Y (tl Y) ?_
  refine RT.gb .none Y Y (tl Y) ?_;refine RT.len .none Y (tl Y) ?_;refine RT.lss .none (true) Y Y (tl Y) (by simp only[List.length_map];simp;omega) ?_;refine RT.done ?_;refine aV.n ?_;refine fk Y ?_;refine aX ?_;refine RT.gb .none Y Y (tl Y) ?_;refine RT.mv .none Y (tl Y) ?_;refine RT.VY .none [.v (.int .u32 ((b.getD i 0:Nat):Int))] (Int.natCast_nonneg i) (by rw[Int.toNat_natCast,List.getElem?_map,nF FU];rfl) Y Y (tl Y) ?_;refine RT.gb .none Y Y (tl Y) ?_;refine RT.conv .none (((b.getD i 0%18446744073709551616:Nat):Int)) Y (tl Y) IZ ?_;refine RT.yO .none Y (tl Y) ?_;refine RT.done ?_;refine aV.n ?_;refine bR ?_;refine aX ?_;refine RT.mv .none Y (tl Y) ?_;refine RT.mv .none Y (tl Y) ?_;refine RT.mv .none Y (tl Y) ?_;refine RT.yield .none hr Y (λ_ h=>h) Y (i) Y Y hi (by exact⟨Y,Y,aq⟩) (tl Y) (λyb=>?_);cases yb
  ·
   refine RT.not .none Y (tl Y) true Y ?_;refine RT.done ?_;refine aV.n ?_;refine fk Y ?_;refine bg ?_;refine bw.r ?_;refine aV.r ?_;refine aV.r ?_;refine bw.r ?_;exact⟨.inr rfl,(λh=>by cases h)⟩
  refine RT.not .none Y (tl Y) false Y ?_;refine RT.done ?_;refine aV.n ?_;refine gW Y ?_;refine bu ?_;refine bw.n ?_;refine aV.n ?_;refine aX ?_;refine RT.add .none (((i:Nat):Int)+1) Y Y (tl Y) (kZ (by omega)) ?_;refine RT.mv .none Y (tl Y) ?_;refine RT.done ?_;refine aV.n ?_;refine⟨⟨i+1,by omega⟩,(by dsimp only;omega),?_⟩
  try dsimp only
  exact eG id Y Y Y Y Y ⟨.sv (by first|exact au|exact SV.bq (by omega)|exact SV.bq (by push_cast;omega)|exact SV.bq (by dsimp only;omega)|exact SV.imp_eq (by simp)),.sv (by first|exact au|exact SV.bq (by omega)|exact SV.bq (by push_cast;omega)|exact SV.bq (by dsimp only;omega)|exact SV.imp_eq (by simp)),.sv (by first|exact au|exact SV.bq (by omega)|exact SV.bq (by push_cast;omega)|exact SV.bq (by dsimp only;omega)|exact SV.imp_eq (by simp)),.sv (by first|exact au|exact SV.bq (by omega)|exact SV.bq (by push_cast;omega)|exact SV.bq (by dsimp only;omega)|exact SV.imp_eq (by simp)),.sv (by first|exact au|exact SV.bq (by omega)|exact SV.bq (by push_cast;omega)|exact SV.bq (by dsimp only;omega)|exact SV.imp_eq (by simp)),aq⟩ trivial trivial (λ_ _=>Y)
 ·
  refine bR ?_;refine aX ?_;refine RT.lss .none (true) Y Y (tl Y) (by simp;omega) ?_;refine RT.done ?_;refine aV.n ?_;refine bR ?_;refine fk Y ?_;refine bu ?_;refine aV.n ?_;refine bR ?_;refine bj ?_;refine bR ?_;refine aX ?_;refine RT.mv .none Y (tl Y) ?_;refine RT.yO .none Y (tl Y) ?_;refine RT.done ?_;refine aV.n ?_;refine bR ?_;refine aX ?_;refine RT.yO .none Y (tl Y) ?_;refine RT.yO .none Y (tl Y) ?_;refine RT.done ?_;refine aV.n ?_;refine bR ?_;refine bR ?_;refine aX ?_;refine RT.mv .none Y (tl Y) ?_;refine RT.gb .none Y Y (tl Y) ?_;refine RT.len .none Y (tl Y) ?_;refine RT.lss .none (true) Y Y (tl Y) (by simp only[List.length_map];simp;omega) ?_;refine RT.done ?_;refine aV.n ?_;refine fk Y ?_;refine aX ?_;refine RT.gb .none Y Y (tl Y) ?_;refine RT.mv .none Y (tl Y) ?_;refine RT.VY .none [.v (.int .u32 ((a.getD i 0:Nat):Int))] (Int.natCast_nonneg i) (by rw[Int.toNat_natCast,List.getElem?_map,nF yN];rfl) Y Y (tl Y) ?_;refine RT.gb .none Y Y (tl Y) ?_;refine RT.conv .none (((a.getD i 0%18446744073709551616:Nat):Int)) Y (tl Y) IZ ?_;refine RT.yO .none Y (tl Y) ?_;refine RT.done ?_;refine aV.n ?_;refine bR ?_;refine bR ?_;refine aX ?_;refine RT.mv .none Y (tl Y) ?_
  refine RT.gb .none Y Y (tl Y) ?_;refine RT.len .none Y (tl Y) ?_;refine RT.lss .none (false) Y Y (tl Y) (by simp only[List.length_map];simp;omega) ?_;refine RT.done ?_;refine aV.n ?_;refine gW Y ?_;refine bu ?_;refine aV.n ?_;refine bR ?_;refine aX ?_;refine RT.mv .none Y (tl Y) ?_;refine RT.mv .none Y (tl Y) ?_;refine RT.mv .none Y (tl Y) ?_;refine RT.yield .none hr Y (λ_ h=>h) Y (i) Y Y hi (by exact⟨Y,(by show AV.sv _=AV.sv _;rw[pP FU];rfl),aq⟩) (tl Y) (λyb=>?_);cases yb
  ·
   refine RT.not .none Y (tl Y) true Y ?_;refine RT.done ?_;refine aV.n ?_;refine fk Y ?_;refine bg ?_;refine bw.r ?_;refine aV.r ?_;refine aV.r ?_;refine bw.r ?_;exact⟨.inr rfl,(λh=>by cases h)⟩
  refine RT.not .none Y (tl Y) false Y ?_;refine RT.done ?_;refine aV.n ?_;refine gW Y ?_;refine bu ?_;refine bw.n ?_;refine aV.n ?_;refine aX ?_;refine RT.add .none (((i:Nat):Int)+1) Y Y (tl Y) (kZ (by omega)) ?_;refine RT.mv .none Y (tl Y) ?_;refine RT.done ?_;refine aV.n ?_;refine⟨⟨i+1,by omega⟩,(by dsimp only;omega),?_⟩
  try dsimp only
  exact eG id Y Y Y Y Y ⟨.sv (by first|exact au|exact SV.bq (by omega)|exact SV.bq (by push_cast;omega)|exact SV.bq (by dsimp only;omega)|exact SV.imp_eq (by simp)),.sv (by first|exact au|exact SV.bq (by omega)|exact SV.bq (by push_cast;omega)|exact SV.bq (by dsimp only;omega)|exact SV.imp_eq (by simp)),.sv (by first|exact au|exact SV.bq (by omega)|exact SV.bq (by push_cast;omega)|exact SV.bq (by dsimp only;omega)|exact SV.imp_eq (by simp)),.sv (by first|exact au|exact SV.bq (by omega)|exact SV.bq (by push_cast;omega)|exact SV.bq (by dsimp only;omega)|exact SV.imp_eq (by simp)),.sv (by first|exact au|exact SV.bq (by omega)|exact SV.bq (by push_cast;omega)|exact SV.bq (by dsimp only;omega)|exact SV.imp_eq (by simp)),aq⟩ trivial trivial (λ_ _=>Y)
 ·
  refine bR ?_;refine aX ?_;refine RT.lss .none (true) Y Y (tl Y) (by simp;omega) ?_;refine RT.done ?_;refine aV.n ?_;refine bR ?_;refine fk Y ?_;refine bu ?_;refine aV.n ?_;refine bR ?_;refine bj ?_;refine bR ?_;refine aX ?_;refine RT.mv .none Y (tl Y) ?_;refine RT.yO .none Y (tl Y) ?_;refine RT.done ?_;refine aV.n ?_;refine bR ?_;refine aX ?_;refine RT.yO .none Y (tl Y) ?_;refine RT.yO .none Y (tl Y) ?_;refine RT.done ?_;refine aV.n ?_;refine bR ?_;refine bR ?_;refine aX ?_;refine RT.mv .none Y (tl Y) ?_;refine RT.gb .none Y Y (tl Y) ?_;refine RT.len .none Y (tl Y) ?_;refine RT.lss .none (false) Y Y (tl Y) (by simp only[List.length_map];simp;omega) ?_;refine RT.done ?_;refine aV.n ?_;refine gW Y ?_;refine bu ?_;refine aV.n ?_;refine bR ?_;refine bR ?_;refine aX ?_;refine RT.mv .none Y (tl Y) ?_;refine RT.gb .none Y Y (tl Y) ?_;refine RT.len .none Y (tl Y) ?_;refine RT.lss .none (true) Y Y (tl Y) (by simp only[List.length_map];simp;omega) ?_;refine RT.done ?_;refine aV.n ?_;refine fk Y ?_;refine aX ?_;refine RT.gb .none Y Y (tl Y) ?_;refine RT.mv .none Y (tl Y) ?_
  refine RT.VY .none [.v (.int .u32 ((b.getD i 0:Nat):Int))] (Int.natCast_nonneg i) (by rw[Int.toNat_natCast,List.getElem?_map,nF FU];rfl) Y Y (tl Y) ?_;refine RT.gb .none Y Y (tl Y) ?_;refine RT.conv .none (((b.getD i 0%18446744073709551616:Nat):Int)) Y (tl Y) IZ ?_;refine RT.yO .none Y (tl Y) ?_;refine RT.done ?_;refine aV.n ?_;refine bR ?_;refine aX ?_;refine RT.mv .none Y (tl Y) ?_;refine RT.mv .none Y (tl Y) ?_;refine RT.mv .none Y (tl Y) ?_;refine RT.yield .none hr Y (λ_ h=>h) Y (i) Y Y hi (by exact⟨(by show AV.sv _=AV.sv _;rw[pP yN];rfl),Y,aq⟩) (tl Y) (λyb=>?_);cases yb
  ·
   refine RT.not .none Y (tl Y) true Y ?_;refine RT.done ?_;refine aV.n ?_;refine fk Y ?_;refine bg ?_;refine bw.r ?_;refine aV.r ?_;refine aV.r ?_;refine bw.r ?_;exact⟨.inr rfl,(λh=>by cases h)⟩
  refine RT.not .none Y (tl Y) false Y ?_;refine RT.done ?_;refine aV.n ?_;refine gW Y ?_;refine bu ?_;refine bw.n ?_;refine aV.n ?_;refine aX ?_;refine RT.add .none (((i:Nat):Int)+1) Y Y (tl Y) (kZ (by omega)) ?_;refine RT.mv .none Y (tl Y) ?_;refine RT.done ?_;refine aV.n ?_;refine⟨⟨i+1,by omega⟩,(by dsimp only;omega),?_⟩
  try dsimp only
  exact eG id Y Y Y Y Y ⟨.sv (by first|exact au|exact SV.bq (by omega)|exact SV.bq (by push_cast;omega)|exact SV.bq (by dsimp only;omega)|exact SV.imp_eq (by simp)),.sv (by first|exact au|exact SV.bq (by omega)|exact SV.bq (by push_cast;omega)|exact SV.bq (by dsimp only;omega)|exact SV.imp_eq (by simp)),.sv (by first|exact au|exact SV.bq (by omega)|exact SV.bq (by push_cast;omega)|exact SV.bq (by dsimp only;omega)|exact SV.imp_eq (by simp)),.sv (by first|exact au|exact SV.bq (by omega)|exact SV.bq (by push_cast;omega)|exact SV.bq (by dsimp only;omega)|exact SV.imp_eq (by simp)),.sv (by first|exact au|exact SV.bq (by omega)|exact SV.bq (by push_cast;omega)|exact SV.bq (by dsimp only;omega)|exact SV.imp_eq (by simp)),aq⟩ trivial trivial (λ_ _=>Y)
 subst hi;refine bR ?_;refine aX ?_;refine RT.lss .none (false) Y Y (tl Y) (by simp) ?_;refine RT.done ?_;refine aV.n ?_;refine bR ?_;refine gW Y ?_;refine b7 ?_;refine aV.x ?_;refine aV.x ?_;refine bw.x ?_;exact⟨.inl Y,(λ_=>Y)⟩
theorem lD{x0 r:List Nat}(h:dx x0=some r):Eo ah 56 [slc 1 (List.map aZ x0)] (TR 80 1 aZ r):=by
 refine vO Try.func56 Y (af Y) (λgz M vs hvs=>?_);unfold dx at h;refine sr<|ag Y<|dn<|qq<|sr<|mv Y ?_;refine RT.Qf .none Y T (λnb hnb=>?_);cases nb;exact dn<|fs<|sr<|RT.I4 (l:=([]:List Nat)) (e:=aZ) .none .nil T Y T Y Y Y Y Y Y<|mv Y<|aR (k:=x0) (e:=aZ) Y Y Y h<|an (s:=.row _) Y<|dn<|bg<|⟨.inr Y,_,.tmp Y,Y⟩;have hx:x0=[]:=by simpa using hnb Y
 subst hx;obtain⟨_,_,rfl⟩:=qP h;exact dn<|cT<|sr<|ag Y<|dn<|dg (gp 2 300 80 1 Y Y T)<|bg<|aV.r<|⟨.inr Y,_,.tmp Y,Y⟩
theorem bQ{x0:Nat}{c0:Nat}{r:Nat×Nat}(h:bA x0 c0=some r):IT ah 113 [.v (.int .u64 ((x0:Nat):Int))] 100 [.v (.int .u64 ((c0:Nat):Int))] (.v (.int .u32 ((r.1:Nat):Int))) [.v (.int .u64 ((r.2:Nat):Int))]:=by
 refine Ce Try.func113 Y (af Y) (λgz M β=>?_);unfold bA at h;refine sr<|ag Y<|dn<|sr<|mv Y<|lV Y Y Y<|lE h λx6 h6 h=>ad _ Y Y (UK.add (a:=x0) (b:=c0) h6)<|ag Y<|dn<|sr<|mv Y<|lE h λx8 h8 h=>RT.shr .none _ Y Y T (by decide) (yS (k:=.u64) (a:=x6) (q:=32) (s:=32) Y h8)<|RT.B5 (cells:=[_]) .none (s:=.sv _) Y Y Y T Y<|dn<|sr<|mv Y<|lE h λfU iN h=>cv _ Y (UK.nat iN)<|ag Y ?_;refine dn<|bg ?_;obtain rfl:=O h;exact⟨.inr Y,dh (.tmp Y (.nil)) au,Y⟩
theorem bV{x0:List Nat}{r:List Nat}(h:bh x0=some r):Pure ah 54 [slc 1 (List.map aZ x0)] (slc 1 (List.map aZ r)):=by
 refine bL Try.func54 Y (af Y) (λgz M vs hvs=>?_);unfold bh at h;refine sr<|aI Y (aB (n:=1) (e:=aZ))<|dn<|qq<|bE h λNx CB ze=>?_;refine bW (λ(vZ:(List Nat))=>AS.cZ 21 [(0,.sv (slc 1 (List.map aZ vZ)))] [] []) (λvZ=>vZ=Nx) ?_ (λvZ CC=>?_);refine bj ?_;refine bX CB (λAI=>AS.cZ 21 [(0,.sv (slc 1 (List.map aZ AI)))] [] []) (wR []) (λuG Y6 Y7 h CD AO=>?_)
 try dsimp only
 refine qq<|qq ?_;refine bH h (λQW=>AS.cZ 21 [(0,.sv (slc 1 (List.map aZ uG))),(14,aj QW)] [] []) (λh=>?_) (λvY h=>?_);refine aX<|mv Y<|lE h λx4 h4 h=>ln Y h4<|lE h λx5 h5 h=>gt _ Y Y h5<|mv Y<|bE h λCq fC h=>?_;cases x5;obtain rfl:=O (F fC);exact ww<|ww<|ww<|ww<|ww<|ww<|ww<|pF Y<|dn<|⟨false,h,wR []⟩;refine gm Y<|gm Y<|lE (V fC) λx9 h9 fC=>gn Y h9<|lE fC λfU iN fC=>RT.sub (.some Y Y) _ Y Y T iN<|bE fC λlq pV fC=>RT.Gc (.some Y Y) Y Y T pV<|gr Y Y<|lE fC λgR kI fC=>Co _ Y Y (Qh (p:=lq) (q:=0) kI) ?_;obtain rfl:=O fC;exact pT Y<|dn<|⟨gR,h,wR []⟩
 try dsimp only
 refine aV.n ?_;cases vY;refine cF<|b7<|aV.x<|aV.x<|bw.x<|aV.n ?_;obtain rfl:=O (F h);exact⟨uG,AO _ Y,wR []⟩;refine cT<|bu<|aV.n<|bj<|aX<|mv Y<|mv Y<|lE (V h) λgV mw h=>ln Y mw<|lE h λfJ jW h=>sb _ Y Y jW<|bE h λng q9 h=>RT.Ge .none 0 fJ Y Y ⟨_,Y⟩ T q9<|ag Y<|RT.done<|bw.n ?_;obtain rfl:=O h;exact aV.n ⟨ng,CD _ Y,wR []⟩;subst CC
 try dsimp only
 refine aV.n<|sr<|mv Y<|ag Y<|dn<|bg ?_;obtain rfl:=O ze;exact R1 Y
abbrev ax:SV:=slc 1 (List.map aZ [])
theorem gA{x0:Bool}{x1:Nat}(N:Nat){r:Zr}(h:dM x0 x1=some r):dR ah 71 N [az x0,.v (.int .u64 ((x1:Nat):Int))] (.agg ((fZ N) r)):=by
 refine bK Try.func71 Y (af Y) (λgz M vs hN hvs=>?_);unfold dM at h;refine sr<|al (cs:=[az false,nw N ax]) (by exact⟨au,bn,aq⟩) Y<|dn<|qq<|bj<|sr<|mv Y<|lE h λx7 h7 h=>eq _ Y Y (Qh (p:=x1) (q:=0) h7)<|ag Y<|dn ?_;cases x7;refine cF<|sr<|mv Y<|lE (F h) λlq pV h=>RT.shr .none _ Y Y T (by decide) (yS (k:=.u64) (a:=x1) (q:=32) (s:=32) Y pV)<|lE h λgO kp h=>eq _ Y Y (Qh (p:=lq) (q:=0) kp)<|ag Y<|dn ?_;cases gO;refine cF<|bu<|bw.n<|aV.n<|sr<|mv Y<|mv Y<|lE (F h) λiz my h=>cv _ Y (UK.nat my)<|mv Y<|lE h λjT pW h=>RT.shr .none _ Y Y T (by decide) (yS (k:=.u64) (a:=x1) (q:=32) (s:=32) Y pW)<|lE h λjx oJ h=>cv _ Y (UK.nat oJ)<|RT.qQ (l:=[iz,jx]) (e:=aZ) .none hN (.one Y (.one Y (.nil))) T Y Y Y Y Y Y<|bI (cs:=[_,_]) (cs':=[az x0,nw N (slc 1 (List.map aZ [iz,jx]))]) (.one Y (.one Y (.nil))) ⟨au,au,aq⟩ ?_;refine so Y Y Y<|dn<|bg ?_;obtain rfl:=O h;exact RZ (.agg Y Y (.k2 Y Y) Y (.nil));refine cT<|sr<|mv Y<|mv Y<|lE (V h) λmW uK h=>cv _ Y (UK.nat uK)<|RT.qQ (l:=[mW]) (e:=aZ) .none hN (.one Y (.nil)) T Y Y Y Y Y Y<|bI (cs:=[_,_]) (cs':=[az x0,nw N (slc 1 (List.map aZ [mW]))]) (.one Y (.one Y (.nil))) ⟨au,au,aq⟩<|so Y Y Y<|dn<|bg<|bw.r<|aV.r ?_;obtain rfl:=O h
 exact RZ (.agg Y Y (.k2 Y Y) Y (.nil));refine cT<|sr<|bI (cs:=[_,_]) (cs':=[az false,nw N ax]) (.nil) ⟨au,bn,aq⟩<|so Y Y Y<|dn<|bg<|bw.r<|aV.r ?_;obtain rfl:=O (V h);exact RZ (.agg Y Y (.k2 Y Y) Y (.nil))
theorem fL{x0:List Nat}{r:Nat}(h:cU x0=some r):Pure ah 87 [slc 1 (List.map aZ x0)] (.v (.int .u64 ((r:Nat):Int))):=by
 refine bL Try.func87 Y (af Y) (λgz M vs hvs=>?_);unfold cU at h;refine sr<|ag Y<|dn<|qq<|sr<|mv Y<|lE h λx4 h4 h=>ln Y h4<|dn<|bj<|sr<|lE h λx6 h6 h=>eq _ Y Y (qw (p:=x4) (q:=0) h6)<|ag Y<|dn ?_;cases x6;refine cF<|sr<|lE (F h) λx8 h8 h=>eq _ Y Y (qw (p:=x4) (q:=1) h8)<|ag Y<|dn ?_;cases x8;refine cF<|bu<|bw.n<|aV.n<|qq<|bf mixed<|mv Y<|bE (F h) λjU o5 h=>ix Y Y o5<|lr Y Y<|lE h λjI oK h=>cv _ Y (UK.nat oK)<|mv Y<|bE h λfJ jW h=>ix Y Y jW<|lr Y Y<|lE h λiz my h=>cv _ Y (UK.nat my)<|lE h λja pX h=>RT.shl .none _ Y Y T (by decide) (UK.shl (a:=iz) (q:=32) (s:=32) Y pX)<|lE h λjT pW h=>RT.or .none _ Y Y T (UK.or (a:=jI) (b:=ja) pW) ?_;refine ag Y ?_;refine RT.done ⟨by kernel_rfl,?_⟩;refine aV.n<|bg ?_;obtain rfl:=O h;exact R1 Y;refine cT<|sr<|mv Y<|bE (V h) λfU iN h=>ix Y Y iN<|lr Y Y<|lE h λgO kp h=>cv _ Y (UK.nat kp)<|ag Y<|dn<|bg<|bw.r<|aV.r ?_;obtain rfl:=O h;exact R1 Y;refine cT<|sr<|ag Y<|dn<|bg<|bw.r<|aV.r ?_;obtain rfl:=O (V h);exact R1 Y
theorem eF{x0:List Nat}{x1:List Nat}{r:Int}(h:cg x0 x1=some r):Pure ah 72 [slc 1 (List.map aZ x0),slc 1 (List.map aZ x1)] (ay r):=by
 refine bL Try.func72 Y (af Y) (λgz M vs hvs=>?_);unfold cg at h;refine sr<|ag Y<|dn<|qq<|sr<|mv Y<|lE h λx7 h7 h=>ln Y h7<|mv Y<|lE h λx9 h9 h=>ln Y h9<|lE h λfU iN h=>ne _ Y Y (I1 (p:=x7) (q:=x9) iN)<|dn ?_;cases fU;refine fs<|qq<|sr<|mv Y<|lE (F h) λgV mw h=>ln Y mw<|lE h λfJ jW h=>sb _ Y Y jW<|ag Y<|dn<|bE h λe6 QX pY=>?_;refine bW (λ(Y8:Unit)=>AS.cZ 41 [] [] []) (λY8=>.inl Y8=e6) ?_ (λY8 QY=>?_);refine bj ?_;refine bX QX (λs6=>AS.cZ 41 [(0,.sv (slc 1 (List.map aZ x0))),(1,.sv (slc 1 (List.map aZ x1))),(5,ai s6)] [] []) (wR []) (λuH y6 G6 h QZ Ny=>?_)
 try dsimp only
 refine qq<|sr<|mv Y<|lE h λiz my h=>ge _ Y Y my<|dn ?_;cases iz;refine cF<|b7<|aV.x<|aV.x<|bw.x<|aV.n ?_;obtain rfl:=O (F h);exact⟨(),Ny _ Y,wR []⟩;refine cT<|bu<|aV.n<|qq<|bj<|qq<|bf mixed<|mv Y<|mv Y<|bE (V h) λB3 CE h=>ix Y Y CE<|lr Y Y<|mv Y<|mv Y<|bE h λiu lY h=>ix Y Y lY<|lr Y Y<|lE h λmX xb h=>ne _ Y Y (Pp (p:=B3) (q:=iu) xb) ?_;refine RT.done ⟨by kernel_rfl,?_⟩;refine aV.n ?_;cases mX;refine cF<|bu<|bw.n<|aV.n<|aX<|mv Y<|lE (F h) λjT pW h=>sb _ Y Y pW<|ag Y<|RT.done ?_;obtain rfl:=O h;exact aV.n ⟨jT,QZ _ Y,wR []⟩;refine cT<|qq<|qq<|bf mixed<|mv Y<|mv Y<|bE (V h) λkH pZ h=>ix Y Y pZ<|lr Y Y<|mv Y<|mv Y<|bE h λvc EC h=>ix Y Y EC<|lr Y Y<|lE h λou tQ h=>ls _ Y Y (Pq (p:=kH) (q:=vc) tQ) ?_;refine RT.done ⟨by kernel_rfl,?_⟩;refine aV.n ?_;cases ou;refine fs<|sr<|ag Y<|dn<|bg<|bw.r<|aV.r ?_;obtain rfl:=O (F h);have Y9:=Ny _ Y;subst Y9;refine aV.r<|bw.r<|aV.r<|aV.r ?_;obtain rfl:=O pY;exact R1 Y;refine cT<|sr<|ag Y<|dn<|bg<|aV.r<|bw.r<|aV.r ?_;obtain rfl:=O (V h);have Y9:=Ny _ Y;subst Y9;refine aV.r<|bw.r<|aV.r<|aV.r ?_;obtain rfl:=O pY;exact R1 Y;subst QY
 try dsimp only
 refine aV.n<|sr<|ag Y<|dn<|bg ?_;obtain rfl:=O pY;exact R1 Y;refine cT<|qq<|sr<|mv Y<|lE (V h) λgO kp h=>ln Y kp<|mv Y<|lE h λjU o5 h=>ln Y o5<|lE h λmW uK h=>ls _ Y Y uK<|dn ?_;cases mW;refine fs<|sr<|ag Y<|dn<|bg<|aV.r ?_;obtain rfl:=O (F h);exact R1 Y;refine cT<|sr<|ag Y<|dn<|bg<|aV.r<|aV.r ?_;obtain rfl:=O (V h);exact R1 Y
theorem kO{x0:List Nat}{x1:List Nat}(N:Nat){r:List Nat}(h:dG x0 x1=some r):dR ah 69 N [slc 1 (List.map aZ x0),slc 1 (List.map aZ x1)] (nw N (slc 1 (List.map aZ r))):=by
 refine bK Try.func69 Y (af Y) (λgz M vs hN hvs=>?_);unfold dG at h;refine sr<|aI Y (bn (N:=N) (n:=1) (e:=aZ))<|dn<|sr<|mv Y<|lE h λfU iN h=>ln Y iN<|mv Y<|lE h λgO kp h=>ln Y kp<|lE h λgR kI h=>RT.max .none _ Y Y T (Yj (p:=fU) (q:=gO) kI)<|lE h λjU o5 h=>ad _ Y Y o5<|bE h λmW uK h=>RT.De (e:=aZ) .none Y Y T Y T uK<|RT.alloc .none T Y Y<|RT.vD (cells:=[_]) .none Y Y Y Y T Y<|dn<|sr ?_;refine RT.vP .none (dH 0) Y ⟨Y,aq⟩ T Y Y<|RT.alloc .none T Y Y<|RT.B5 (cells:=[_]) .none (s:=.fF _ _) Y Y Y T Y<|dn<|qq<|sr<|mv Y<|mv Y<|cl (nL x0 x1) ⟨Y,Y,aq⟩<|dn<|bj<|bE h λe7 Za Nz=>?_;obtain⟨NA,Zb,Zc,Zd⟩:=sy Za
 refine qN (nM x0 x1) (λ_ _ _ _ _=>trivial) Y (λk=>AS.cZ 35 [(5,.ptr 5 0),(6,.ptr 6 0),(19,.sv (Ap 114 [ref [slc 1 (List.map aZ x0)],ref [slc 1 (List.map aZ x1)]]))] [(6,⟨119,[.fF 113 [.box 16]]⟩),(16,⟨100,[.sv (.v (.int .u64 (((NA k).1:Nat):Int)))]⟩),(5,⟨22,[.row 302]⟩)] [(302,TR 80 1 aZ (NA k).2)]) [6,16,5] Y (λ_=>⟨Y,Y⟩) (F5 Y) (λ_=>Y) (F6 Y) (by(try dsimp only);rw[Zb];(try dsimp only);exact eG (λi=>bif Nat.beq i 302 then 15 else i) Y Y Y Y Y ⟨.ptr,.ptr,.sv au,aq⟩ ⟨⟨_,Y,⟨.fF,aq⟩⟩,⟨_,Y,⟨.sv au,aq⟩⟩,⟨_,Y,⟨.row Y,aq⟩⟩,aq⟩ ⟨⟨_,Y,cJ.refl _⟩,aq⟩ (λi hi=>by rw[cG (show i≠302 by omega)];rfl)) (λk hk D hD=>?_) ?_;have h:=Zc k hk;obtain⟨sk,Ze⟩:∃q,NA k=q:=⟨_,Y⟩;rw[Ze]at h⊢;obtain⟨qR,gw⟩:=sk;dsimp only[AS.VZ,Av]
 try dsimp only at h
 refine lE h λYJ Zf h=>?_;rw[Zf];refine lE h λYK Zg h=>?_;rw[Zg];refine sr<|ag Y<|dn<|aX<|ag Y<|RT.done ?_;refine aV.n ⟨Y,?_⟩;dsimp only[AS.IX];refine bj<|bf mixed<|RT.jP .none (s:=.row _) Y Y Y T<|RT.jP .none (s:=.fF _ _) Y Y Y T<|mv Y<|mv Y<|lE h λjH qx h=>ad _ Y Y (UK.add (a:=YJ) (b:=YK) qx) ?_;obtain⟨⟨nh,k9⟩,o6,h⟩:=bS h;refine cB (bQ o6) 16 Y ⟨Y,aq⟩<|bl (l:=[nh]) (e:=aZ) (.one Y (.nil)) Y Y Y Y Y Y<|bE h λiu lY h=>aR (k:=[nh]) (e:=aZ) Y Y Y lY<|RT.vD (cells:=[_]) .none Y Y Y Y T Y ?_;refine RT.done ⟨by kernel_rfl,?_⟩;refine bw.n ?_;replace h:=Option.some.inj h;refine⟨aq,Y,Y,?_⟩
 try dsimp only
 rw[<-h]
 try dsimp only
 exact eG (λi=>bif Nat.beq i 302 then 29 else i) Y Y Y Y Y ⟨.ptr,.ptr,.sv au,aq⟩ ⟨⟨_,Y,⟨.fF,aq⟩⟩,⟨_,Y,⟨.sv au,aq⟩⟩,⟨_,Y,⟨.row Y,aq⟩⟩,aq⟩ ⟨⟨_,Y,cJ.refl _⟩,aq⟩ (λi hi=>by rw[cG (show i≠302 by omega)];rfl);rw[Zd];obtain⟨qR,gw⟩:=e7
 try dsimp only
 refine bw.n<|aV.n<|qq<|bf mixed<|RT.jP .none (s:=.row _) Y Y Y T<|RT.jP .none (s:=.fF _ _) Y Y Y T ?_;obtain⟨⟨jJ,k11⟩,nj,Nz⟩:=bS Nz;refine cB (bQ nj) 16 Y ⟨Y,aq⟩<|bl (l:=[jJ]) (e:=aZ) (.one Y (.nil)) Y Y Y Y Y Y<|bE Nz λkH pZ Nz=>RT.Qv (k:=[jJ]) (e:=aZ) .none hN (λ_ h=>h) Y Y Y T Y T pZ<|ag Y ?_;refine RT.done ⟨by kernel_rfl,?_⟩;refine aV.n<|bg ?_;obtain rfl:=O Nz;exact R1 Y
theorem iS{x0:List Nat}{x1:List Nat}(N:Nat){r:List Nat}(h:cr x0 x1=some r):dR ah 70 N [slc 1 (List.map aZ x0),slc 1 (List.map aZ x1)] (nw N (slc 1 (List.map aZ r))):=by
 refine bK Try.func70 Y (af Y) (λgz M vs hN hvs=>?_);unfold cr at h;refine sr<|aI Y (bn (N:=N) (n:=1) (e:=aZ))<|dn<|sr<|mv Y<|lE h λfU iN h=>ln Y iN<|bE h λlq pV h=>RT.De (e:=aZ) .none Y Y T Y T pV<|RT.alloc .none T Y Y<|RT.vD (cells:=[_]) .none Y Y Y Y T Y<|dn<|sr<|RT.vP .none (dH 1) Y ⟨Y,aq⟩ T Y Y<|RT.alloc .none T Y Y<|RT.B5 (cells:=[_]) .none (s:=.fF _ _) Y Y Y T Y<|dn<|qq<|sr<|mv Y ?_;refine mv Y<|cl (nL x0 x1) ⟨Y,Y,aq⟩<|dn<|bj<|bE h λe7 Za Nz=>?_;obtain⟨NA,Zb,Zc,Zd⟩:=sy Za;refine qN (nM x0 x1) (λ_ _ _ _ _=>trivial) Y (λk=>AS.cZ 28 [(5,.ptr 5 0),(6,.ptr 6 0),(15,.sv (Ap 114 [ref [slc 1 (List.map aZ x0)],ref [slc 1 (List.map aZ x1)]]))] [(6,⟨119,[.fF 113 [.box 12]]⟩),(12,⟨100,[.sv (.v (.int .u64 (((NA k).1:Nat):Int)))]⟩),(5,⟨22,[.row 302]⟩)] [(302,TR 80 1 aZ (NA k).2)]) [6,12,5] Y (λ_=>⟨Y,Y⟩) (F5 Y) (λ_=>Y) (F6 Y) (by(try dsimp only);rw[Zb];(try dsimp only);exact eG (λi=>bif Nat.beq i 302 then 11 else i) Y Y Y Y Y ⟨.ptr,.ptr,.sv au,aq⟩ ⟨⟨_,Y,⟨.fF,aq⟩⟩,⟨_,Y,⟨.sv au,aq⟩⟩,⟨_,Y,⟨.row Y,aq⟩⟩,aq⟩ ⟨⟨_,Y,cJ.refl _⟩,aq⟩ (λi hi=>by rw[cG (show i≠302 by omega)];rfl)) (λk hk D hD=>?_) ?_;have h:=Zc k hk;obtain⟨sk,Ze⟩:∃q,NA k=q:=⟨_,Y⟩;rw[Ze]at h⊢;obtain⟨ve,gw⟩:=sk;dsimp only[AS.VZ,Av]
 try dsimp only at h
 refine lE h λYL Zh h=>?_;rw[Zh];refine lE h λYM Zi h=>?_;rw[Zi];refine sr<|ag Y<|dn<|aX<|ag Y<|RT.done ?_;refine aV.n ⟨Y,?_⟩;dsimp only[AS.IX];refine bj<|bf mixed<|RT.jP .none (s:=.row _) Y Y Y T<|RT.jP .none (s:=.fF _ _) Y Y Y T<|mv Y<|mv Y<|lE h λjT pW h=>sb _ Y Y (UK.sub (a:=4294967295) (b:=YM) pW)<|lE h λjx oJ h=>ad _ Y Y (UK.add (a:=YL) (b:=jT) oJ) ?_;obtain⟨⟨fe,k9⟩,nk,h⟩:=bS h;refine cB (bQ nk) 12 Y ⟨Y,aq⟩<|bl (l:=[fe]) (e:=aZ) (.one Y (.nil)) Y Y Y Y Y Y<|bE h λjH qx h=>aR (k:=[fe]) (e:=aZ) Y Y Y qx<|RT.vD (cells:=[_]) .none Y Y Y Y T Y ?_;refine RT.done ⟨by kernel_rfl,?_⟩;refine bw.n ?_;replace h:=Option.some.inj h;refine⟨aq,Y,Y,?_⟩
 try dsimp only
 rw[<-h]
 try dsimp only
 exact eG (λi=>bif Nat.beq i 302 then 26 else i) Y Y Y Y Y ⟨.ptr,.ptr,.sv au,aq⟩ ⟨⟨_,Y,⟨.fF,aq⟩⟩,⟨_,Y,⟨.sv au,aq⟩⟩,⟨_,Y,⟨.row Y,aq⟩⟩,aq⟩ ⟨⟨_,Y,cJ.refl _⟩,aq⟩ (λi hi=>by rw[cG (show i≠302 by omega)];rfl);rw[Zd];obtain⟨ve,gw⟩:=e7
 try dsimp only
 refine bw.n<|aV.n<|sr<|RT.jP .none (s:=.row _) Y Y Y T<|an (s:=.row _) Y<|dn<|mh (i:=302) (E1:=80) (n:=1) (e:=aZ) (l:=gw) hN (λ_ h=>h) Y<|bg ?_;obtain rfl:=O Nz;exact R1 Y
theorem rf{x0:List Nat}{x1:List Nat}(N:Nat){r:List Nat}(h:ep x0 x1=some r):dR ah 89 N [slc 1 (List.map aZ x0),slc 1 (List.map aZ x1)] (nw N (slc 1 (List.map aZ r))):=by
 refine bK Try.func89 Y (af Y) (λgz M vs hN hvs=>?_);unfold ep at h;refine sr<|aI Y (bn (N:=N) (n:=1) (e:=aZ))<|dn<|sr<|mv Y<|lE h λgO kp h=>ln Y kp<|mv Y<|lE h λjU o5 h=>ln Y o5<|lE h λmW uK h=>ad _ Y Y uK<|bE h λjI oK h=>RT.tK (n:=1) (e:=aZ) .none Y Y T Y T (by rfl) (by decide) (by exact⟨au,aq⟩) oK<|an (s:=.row _) Y<|dn<|qq<|sr<|mv Y<|lE h λfJ jW h=>ln Y jW ?_;refine mv Y<|dn<|bE h λe28 Zj Zk=>?_;refine bW (λ(pR:(List Nat))=>AS.cZ 63 [(5,.row 16)] [] [(16,TR 80 1 aZ pR)]) (λpR=>pR=e28) ?_ (λpR Zl=>?_);refine bj ?_;refine bX Zj (λPs=>AS.cZ 63 [(1,.sv (slc 1 (List.map aZ x1))),(5,.row 16),(17,.sv (slc 1 (List.map aZ x0))),(18,ai fJ),(19,ai Ps.1)] [] [(16,TR 80 1 aZ Ps.2)]) (wR []) (λPs y28 G28 h Zm Zn=>?_);obtain⟨kn,yX⟩:=Ps
 try dsimp only
 refine sr<|lE h λiz my h=>ls _ Y Y my<|dn<|qq ?_;cases iz;refine cF<|b7<|aV.x<|aV.x<|bw.x<|aV.n ?_;obtain rfl:=O (F h);exact⟨yX,Zn _ Y,wR []⟩;refine cT<|bu<|aV.n<|qq<|bj<|sr<|mv Y<|bE (V h) λjT pW h=>ix Y Y pW<|lr Y Y<|ag Y<|ag Y<|dn<|sr<|RT.vP .none (dH 0) Y ⟨Y,aq⟩ T Y Y<|an (s:=.fF _ _) Y<|dn<|qq<|sr<|mv Y<|lE h λjH qx h=>ln Y qx<|mv Y<|dn<|bE h λYP Zo sH=>?_;refine bW (λ(ED:Nat×(List Nat))=>AS.cZ 63 [(1,.sv (slc 1 (List.map aZ x1))),(5,.row 16),(6,ai kn),(8,.fF 113 [.box 24]),(17,.sv (slc 1 (List.map aZ x0))),(18,ai fJ),(19,ai kn)] [(24,⟨100,[.sv (.v (.int .u64 ((ED.1:Nat):Int)))]⟩)] [(16,TR 80 1 aZ ED.2)]) (λED=>ED=YP) ?_ (λED Zp=>?_);refine bj ?_;refine bX Zo (λNc=>AS.cZ 63 [(1,.sv (slc 1 (List.map aZ x1))),(5,.row 16),(6,ai kn),(7,.sv (.v (.int .u32 ((jT:Nat):Int)))),(8,.fF 113 [.box 24]),(17,.sv (slc 1 (List.map aZ x0))),(18,ai fJ),(19,ai kn),(25,.sv (slc 1 (List.map aZ x1))),(26,ai jH),(27,ai Nc.1)] [(24,⟨100,[.sv (.v (.int .u64 ((Nc.2.1:Nat):Int)))]⟩)] [(16,TR 80 1 aZ Nc.2.2)]) (wR []) (λNc y38 G38 h Zq Zs=>?_);obtain⟨sD,qS,pQ⟩:=Nc
 try dsimp only
 refine sr<|lE h λlX wm h=>ls _ Y Y wm<|dn<|qq ?_;cases lX;refine cF<|b7<|aV.x<|aV.x<|bw.x<|aV.n ?_;obtain rfl:=O (F h);exact⟨(qS,pQ),Zs _ Y,wR []⟩;refine cT<|bu<|aV.n<|qq<|bj<|sr<|mv Y<|bE (V h) λow xq h=>ix Y Y xq<|lr Y Y<|ag Y<|ag Y<|dn<|aX<|mo (s:=.row _) Y<|mv Y<|mv Y<|lE h λqT CF h=>ad _ Y Y CF<|mo (s:=.fF _ _) Y<|mo (s:=.row _) Y<|mv Y<|mv Y<|lE h λou tQ h=>ad _ Y Y tQ<|bE h λxn EE h=>iR Y Y Y EE ?_;refine bE h λr5 AP h=>lR Y Y AP Y<|lE h λAd Fs h=>cv _ Y (UK.nat Fs)<|mv Y<|lE h λCr GD h=>cv _ Y (UK.nat GD)<|mv Y<|lE h λAG GF h=>cv _ Y (UK.nat GF)<|lE h λAe h48 h=>RT.mul .none _ Y Y T (UK.mul (a:=Cr) (b:=AG) h48)<|lE h λx49 Q0 h=>ad _ Y Y (UK.add (a:=Ad) (b:=Ae) Q0) ?_;obtain⟨⟨vf,YN⟩,EF,h⟩:=bS h;refine cB (bQ EF) 24 Y ⟨Y,aq⟩<|bE h λIt Jk h=>iR Y Y Y Jk<|bE h λYO Q1 h=>sR vf Y Y Y Y Q1<|RT.done<|bw.n<|aV.n<|aX<|lE h λuI EG h=>ad _ Y Y EG<|mv Y<|RT.done ?_;obtain rfl:=O h;exact aV.n ⟨(uI,YN,YO),Zq _ Y,wR []⟩;subst Zp;obtain⟨AH,Cs⟩:=ED
 try dsimp only
 refine aV.n<|aX<|mo (s:=.row _) Y<|mv Y<|mv Y<|lE sH λJg NB sH=>ln Y NB<|lE sH λQw Q2 sH=>ad _ Y Y Q2<|mo (s:=.fF _ _) Y ?_;obtain⟨⟨Nd,k45⟩,Zt,sH⟩:=bS sH;refine cB (bQ Zt) 24 Y ⟨Y,aq⟩<|bE sH λEv KP sH=>iR Y Y Y KP<|bE sH λYQ Q3 sH=>sR Nd Y Y Y Y Q3<|RT.done<|bw.n<|aV.n<|aX<|lE sH λIu Q4 sH=>ad _ Y Y Q4<|mv Y<|RT.done ?_;obtain rfl:=O sH;exact aV.n ⟨(Iu,YQ),Zm _ Y,wR []⟩;subst Zl
 try dsimp only
 refine aV.n<|sr<|mo (s:=.row _) Y<|an (s:=.row _) Y<|dn<|mh (i:=16) (E1:=80) (n:=1) (e:=aZ) (l:=pR) hN (λ_ h=>h) Y<|bg ?_;obtain rfl:=O Zk;exact R1 Y
end
section
open Go.Fw Go.Fw.Z Go.RowKit
theorem ri{x0:List Nat}{x1:Nat}{r:Nat×List Nat}(h:fo x0 x1=some r):Cd ah 90 [.row 1000,.sv (.v (.int .u64 ((x1:Nat):Int)))] (TR 80 1 aZ x0) (.sv (.v (.int .u64 ((r.1:Nat):Int)))) (List.flatMap aZ r.2):=by
 refine pL Try.func90 Y (af Y) Y Y (λgz M v0=>?_);unfold fo at h;refine sr<|ag Y<|dn<|sr<|ag Y<|dn<|qq<|sr<|mo (s:=.row _) Y<|lE h λx9 h9 h=>lL Y Y h9<|lE h λfU iN h=>sb _ Y Y iN<|ag Y<|dn<|bE h λe8 AQ sI=>?_;refine bW (λ(sJ:Nat×(List Nat))=>AS.cZ 34 [(5,.sv (.v (.int .u64 ((sJ.1:Nat):Int))))] [] [(1000,TR 80 1 aZ sJ.2)]) (λsJ=>sJ=e8) ?_ (λsJ AR=>?_);refine bj ?_;refine bX AQ (λs8=>AS.cZ 34 [(0,.row 1000),(1,.sv (.v (.int .u64 ((x1:Nat):Int)))),(5,.sv (.v (.int .u64 ((s8.1:Nat):Int)))),(6,ai s8.2.1)] [] [(1000,TR 80 1 aZ s8.2.2)]) (wR []) (λs8 y8 G8 h AT AU=>?_);obtain⟨Gm,Gn,mm⟩:=s8
 try dsimp only
 refine qq<|sr<|mv Y<|lE h λgO kp h=>ge _ Y Y kp<|dn ?_;cases gO;refine cF<|b7<|aV.x<|aV.x<|bw.x<|aV.n ?_;obtain rfl:=O (F h);exact⟨(Gm,mm),AU _ Y,wR []⟩;refine cT<|bu<|aV.n<|qq<|bj<|sr<|mv Y<|lE (V h) λjI oK h=>RT.shl .none _ Y Y T (by decide) (UK.shl (a:=Gm) (q:=32) (s:=32) Y oK)<|mo (s:=.row _) Y<|mv Y<|bE h λng q9 h=>iR Y Y Y q9<|bE h λiz my h=>lR Y Y my Y<|lE h λja pX h=>cv _ Y (UK.nat pX)<|lE h λjT pW h=>RT.or .none _ Y Y T (UK.or (a:=jI) (b:=ja) pW)<|ag Y<|dn<|sr<|mo (s:=.row _) Y ?_;refine mv Y<|mv Y<|mv Y<|bE h λnh o6 h=>RT.quo .none _ Y Y T (Yk o6) (UK.quo o6)<|lE h λlX wm h=>cv _ Y (UK.nat wm)<|bE h λiu lY h=>iR Y Y Y lY<|bE h λvg rj h=>sR lX Y Y Y Y rj<|dn<|aX<|mv Y<|mv Y<|bE h λjJ nj h=>RT.rem .none _ Y Y T (V3 nj) (I2 nj)<|ag Y<|RT.done<|bw.n<|aV.n<|aX<|mv Y<|lE h λjU o5 h=>sb _ Y Y o5 ?_;refine ag Y<|RT.done ?_;obtain rfl:=O h;exact aV.n ⟨(jJ,jU,vg),AT _ Y,wR []⟩;subst AR;obtain⟨Qx,vh⟩:=sJ
 try dsimp only
 refine aV.n<|sr<|mv Y<|ag Y<|dn<|bg<|bE sI λ_ hle sI=>?_;obtain rfl:=O sI;exact⟨.inr Y,.sv (dh (.tmp Y (.nil)) au),(by show _=ir.live ⟨80,1,x0.length,List.flatMap aZ vh⟩;rw[<-jk hle];rfl)⟩
theorem qa{x0:List Nat}{x1:Nat}{r:List Nat}(h:dS x0 x1=some r):Pure ah 110 [slc 1 (List.map aZ x0),.v (.int .u64 ((x1:Nat):Int))] (slc 1 (List.map aZ r)):=by
 refine bL Try.func110 Y (af Y) (λgz M vs hvs=>?_);unfold dS at h;refine sr<|aI Y (aB (n:=1) (e:=aZ))<|dn<|sr<|RT.vP .none (dH 0) Y ⟨Y,aq⟩ T Y Y<|an (s:=.fF _ _) Y<|dn<|sr<|mv Y<|lE h λlq pV h=>ln Y pV<|lE h λgO kp h=>ad _ Y Y kp<|bE h λgR kI h=>RT.De (e:=aZ) .none Y Y T Y T kI<|an (s:=.row _) Y<|dn<|qq<|sr<|mv Y<|lE h λmW uK h=>ln Y uK ?_;refine mv Y<|dn<|bE h λe8 AQ sI=>?_;refine bW (λ(sJ:Nat×(List Nat))=>AS.cZ 35 [(5,.fF 113 [.box 9]),(6,.row 302)] [(9,⟨100,[.sv (.v (.int .u64 ((sJ.1:Nat):Int)))]⟩)] [(302,TR 80 1 aZ sJ.2)]) (λsJ=>sJ=e8) ?_ (λsJ AR=>?_);refine bj ?_;refine bX AQ (λs8=>AS.cZ 35 [(1,.sv (.v (.int .u64 ((x1:Nat):Int)))),(5,.fF 113 [.box 9]),(6,.row 302),(14,.sv (slc 1 (List.map aZ x0))),(15,ai mW),(16,ai s8.1)] [(9,⟨100,[.sv (.v (.int .u64 ((s8.2.1:Nat):Int)))]⟩)] [(302,TR 80 1 aZ s8.2.2)]) (eG (λi=>bif Nat.beq i 302 then 13 else i) Y Y Y Y Y ⟨.sv au,.fF,.row Y,.sv au,.sv au,.sv au,aq⟩ ⟨⟨_,Y,⟨.sv au,aq⟩⟩,aq⟩ ⟨⟨_,Y,cJ.refl _⟩,aq⟩ (λi hi=>by rw[cG (show i≠302 by omega)];rfl)) (λs8 y8 G8 h AT AU=>?_);obtain⟨qV,mq,gw⟩:=s8
 try dsimp only
 refine sr<|lE h λgV mw h=>ls _ Y Y mw<|dn<|qq ?_;cases gV;refine cF<|b7<|aV.x<|aV.x<|bw.x<|aV.n ?_;obtain rfl:=O (F h);exact⟨(mq,gw),AU _ Y,wR []⟩;refine cT<|bu<|aV.n<|qq<|bj<|sr<|bE (V h) λfJ jW h=>ix Y Y jW<|lr Y Y<|ag Y<|dn<|aX<|mo (s:=.row _) Y<|mo (s:=.fF _ _) Y<|mv Y<|lE h λjx oJ h=>cv _ Y (UK.nat oJ)<|mv Y<|lE h λB3 CE h=>RT.shl .none _ Y Y T (Int.natCast_nonneg _) (UK.shl (a:=jx) (q:=((x1:Nat):Int)) (s:=min x1 64) Y CE) ?_;obtain⟨⟨jH,Nf⟩,qx,h⟩:=bS h;refine cB (bQ qx) 9 Y ⟨Y,aq⟩<|bl (l:=[jH]) (e:=aZ) (.one Y (.nil)) Y Y Y Y Y Y<|bE h λlX wm h=>aR (k:=[jH]) (e:=aZ) Y Y Y wm<|an (s:=.row _) Y<|RT.done<|bw.n<|aV.n<|aX<|lE h λiu lY h=>ad _ Y Y lY<|mv Y<|RT.done ?_;obtain rfl:=O h;exact aV.n ⟨(iu,Nf,lX),AT _ Y,eG (λi=>bif Nat.beq i 302 then 28 else i) Y Y Y Y Y ⟨.sv au,.fF,.row Y,.sv au,.sv au,.sv au,aq⟩ ⟨⟨_,Y,⟨.sv au,aq⟩⟩,aq⟩ ⟨⟨_,Y,cJ.refl _⟩,aq⟩ (λi hi=>by rw[cG (show i≠302 by omega)];rfl)⟩;subst AR;obtain⟨v5,Gp⟩:=sJ
 try dsimp only
 refine aV.n<|sr<|mo (s:=.row _) Y<|mo (s:=.fF _ _) Y ?_;obtain⟨⟨jJ,YR⟩,nj,sI⟩:=bS sI;refine cB (bQ nj) 9 Y ⟨Y,aq⟩<|bl (l:=[jJ]) (e:=aZ) (.one Y (.nil)) Y Y Y Y Y Y<|bE sI λkH pZ sI=>RT.Yw (k:=[jJ]) (e:=aZ) .none Y Y Y T Y T pZ<|ag Y<|dn<|bg ?_;obtain rfl:=O sI;exact R1 Y
theorem oL{x0:List Nat}{x1:Nat}{r:List Nat}(h:fK x0 x1=some r):Eo ah 110 [slc 1 (List.map aZ x0),.v (.int .u64 ((x1:Nat):Int))] (TR 80 1 aZ r):=by
 refine vO Try.func110 Y (af Y) (λgz M vs hvs=>?_);unfold fK at h;refine sr<|ag Y<|dn<|dg (gp 4 304 80 1 Y Y T)<|sr<|RT.vP .none (dH 0) Y ⟨Y,aq⟩ T Y Y<|an (s:=.fF _ _) Y<|dn<|sr<|mv Y<|lE h λlq pV h=>ln Y pV<|lE h λgO kp h=>ad _ Y Y kp<|bE h λgR kI h=>RT.De (e:=aZ) .none Y Y T Y T kI<|an (s:=.row _) Y<|dn<|qq<|sr<|mv Y<|lE h λmW uK h=>ln Y uK ?_;refine mv Y<|dn<|bE h λe8 AQ sI=>?_;refine bW (λ(sJ:Nat×(List Nat))=>AS.cZ 35 [(5,.fF 113 [.box 9]),(6,.row 306)] [(9,⟨100,[.sv (.v (.int .u64 ((sJ.1:Nat):Int)))]⟩)] [(306,TR 80 1 aZ sJ.2)]) (λsJ=>sJ=e8) ?_ (λsJ AR=>?_);refine bj ?_;refine bX AQ (λs8=>AS.cZ 35 [(1,.sv (.v (.int .u64 ((x1:Nat):Int)))),(5,.fF 113 [.box 9]),(6,.row 306),(14,.sv (slc 1 (List.map aZ x0))),(15,ai mW),(16,ai s8.1)] [(9,⟨100,[.sv (.v (.int .u64 ((s8.2.1:Nat):Int)))]⟩)] [(306,TR 80 1 aZ s8.2.2)]) (eG (λi=>bif Nat.beq i 306 then 13 else i) Y Y Y Y Y ⟨.sv au,.fF,.row Y,.sv au,.sv au,.sv au,aq⟩ ⟨⟨_,Y,⟨.sv au,aq⟩⟩,aq⟩ ⟨⟨_,Y,cJ.refl _⟩,aq⟩ (λi hi=>by rw[cG (show i≠306 by omega)];rfl)) (λs8 y8 G8 h AT AU=>?_);obtain⟨qV,mq,yY⟩:=s8
 try dsimp only
 refine sr<|lE h λgV mw h=>ls _ Y Y mw<|dn<|qq ?_;cases gV;refine cF<|b7<|aV.x<|aV.x<|bw.x<|aV.n ?_;obtain rfl:=O (F h);exact⟨(mq,yY),AU _ Y,wR []⟩;refine cT<|bu<|aV.n<|qq<|bj<|sr<|bE (V h) λfJ jW h=>ix Y Y jW<|lr Y Y<|ag Y<|dn<|aX<|mo (s:=.row _) Y<|mo (s:=.fF _ _) Y<|mv Y<|lE h λjx oJ h=>cv _ Y (UK.nat oJ)<|mv Y<|lE h λB3 CE h=>RT.shl .none _ Y Y T (Int.natCast_nonneg _) (UK.shl (a:=jx) (q:=((x1:Nat):Int)) (s:=min x1 64) Y CE) ?_;obtain⟨⟨jH,Nf⟩,qx,h⟩:=bS h;refine cB (bQ qx) 9 Y ⟨Y,aq⟩<|bl (l:=[jH]) (e:=aZ) (.one Y (.nil)) Y Y Y Y Y Y<|bE h λlX wm h=>aR (k:=[jH]) (e:=aZ) Y Y Y wm<|an (s:=.row _) Y<|RT.done<|bw.n<|aV.n<|aX<|lE h λiu lY h=>ad _ Y Y lY<|mv Y<|RT.done ?_;obtain rfl:=O h;exact aV.n ⟨(iu,Nf,lX),AT _ Y,eG (λi=>bif Nat.beq i 306 then 28 else i) Y Y Y Y Y ⟨.sv au,.fF,.row Y,.sv au,.sv au,.sv au,aq⟩ ⟨⟨_,Y,⟨.sv au,aq⟩⟩,aq⟩ ⟨⟨_,Y,cJ.refl _⟩,aq⟩ (λi hi=>by rw[cG (show i≠306 by omega)];rfl)⟩;subst AR;obtain⟨v5,Gq⟩:=sJ
 try dsimp only
 refine aV.n<|sr<|mo (s:=.row _) Y<|mo (s:=.fF _ _) Y ?_;obtain⟨⟨jJ,YR⟩,nj,sI⟩:=bS sI;refine cB (bQ nj) 9 Y ⟨Y,aq⟩<|bl (l:=[jJ]) (e:=aZ) (.one Y (.nil)) Y Y Y Y Y Y<|bE sI λkH pZ sI=>aR (k:=[jJ]) (e:=aZ) Y Y Y pZ<|an (s:=.row _) Y<|dn<|bg ?_;obtain rfl:=O sI;exact⟨.inr Y,_,.tmp Y,Y⟩
theorem qb{x0:Nat}{r:Int}(h:eK x0=some r):Pure ah 118 [.v (.int .u32 ((x0:Nat):Int))] (ay r):=by
 refine bL Try.func118 Y (af Y) (λgz M vs hvs=>?_);unfold eK at h;refine sr<|ag Y<|dn<|qq<|sr<|mv Y<|lE h λx4 h4 h=>ge _ Y Y (Yi (p:=65536) (q:=x0) h4)<|dn ?_;refine bH h (λj2=>AS.cZ 19 [(0,.sv (.v (.int .u32 ((j2.1:Nat):Int)))),(2,ai j2.2)] [] []) (λh=>?_) (λj2 h=>?_);cases x4;exact fs<|⟨(x0,0),(F h),wR []⟩;exact cT<|sr<|mv Y<|lE (V h) λx6 h6 h=>RT.shr .none _ Y Y T (by decide) (yS (k:=.u32) (a:=x0) (q:=16) (s:=16) Y h6)<|ag Y<|dn<|aX<|ag Y<|dn<|⟨(x6,16),h,wR []⟩;obtain⟨Ct,Jh⟩:=j2
 try dsimp only
 refine aV.n<|qq<|sr<|mv Y<|lE h λx8 h8 h=>ge _ Y Y (Yi (p:=256) (q:=Ct) h8)<|dn ?_;refine bH h (λj4=>AS.cZ 19 [(0,.sv (.v (.int .u32 ((j4.1:Nat):Int)))),(2,ai j4.2)] [] []) (λh=>?_) (λj4 h=>?_);cases x8;exact fs<|⟨(Ct,Jh),(F h),wR []⟩;exact cT<|sr<|mv Y<|lE (V h) λfU iN h=>RT.shr .none _ Y Y T (by decide) (yS (k:=.u32) (a:=Ct) (q:=8) (s:=8) Y iN)<|ag Y<|dn<|aX<|mv Y<|lE h λgO kp h=>ad _ Y Y kp<|ag Y<|dn<|⟨(fU,gO),h,wR []⟩;obtain⟨Qy,Qz⟩:=j4
 try dsimp only
 refine aV.n<|sr<|mv Y<|mv Y<|lE h λmW uK h=>cv _ Y (UK.nat uK)<|bE h λjI oK h=>?_;refine RT.six (l:=[0,1,2,2,3,3,3,3,4,4,4,4,4,4,4,4,5,5,5,5,5,5,5,5,5,5,5,5,5,5,5,5,6,6,6,6,6,6,6,6,6,6,6,6,6,6,6,6,6,6,6,6,6,6,6,6,6,6,6,6,6,6,6,6,7,7,7,7,7,7,7,7,7,7,7,7,7,7,7,7,7,7,7,7,7,7,7,7,7,7,7,7,7,7,7,7,7,7,7,7,7,7,7,7,7,7,7,7,7,7,7,7,7,7,7,7,7,7,7,7,7,7,7,7,7,7,7,7,8,8,8,8,8,8,8,8,8,8,8,8,8,8,8,8,8,8,8,8,8,8,8,8,8,8,8,8,8,8,8,8,8,8,8,8,8,8,8,8,8,8,8,8,8,8,8,8,8,8,8,8,8,8,8,8,8,8,8,8,8,8,8,8,8,8,8,8,8,8,8,8,8,8,8,8,8,8,8,8,8,8,8,8,8,8,8,8,8,8,8,8,8,8,8,8,8,8,8,8,8,8,8,8,8,8,8,8,8,8,8,8,8,8,8,8,8,8,8,8,8,8,8,8,8,8,8,8]) .none Y Y T oK ?_;refine lE h λgV mw h=>cv _ Y mw<|lE h λfJ jW h=>ad _ Y Y jW<|ag Y<|dn<|bg ?_;obtain rfl:=O h;exact R1 Y
theorem jX{x0:Nat}{r:Int}(h:cK x0=some r):Pure ah 109 [.v (.int .u32 ((x0:Nat):Int))] (ay r):=by
 refine bL Try.func109 Y (af Y) (λgz M vs hvs=>?_);unfold cK at h;refine sr<|ag Y<|dn<|sr<|mv Y<|bE h λx4 h4 h=>cl (qb h4) ⟨Y,aq⟩<|lE h λx5 h5 h=>sb _ Y Y h5<|ag Y<|dn<|bg ?_;obtain rfl:=O h;exact R1 Y
theorem rm{x0:List Nat}{o0:Nat}{n0:Nat}{x1:List Nat}{r:Nat×List Nat}(h:fu x0 o0 n0 x1=some r):Cd ah 111 [.jO 1000 (o0*1) n0,.sv (slc 1 (List.map aZ x1))] (TR 80 1 aZ x0) (.sv (.v (.int .u64 ((r.1:Nat):Int)))) (List.flatMap aZ r.2):=by
 refine pL Try.func111 Y (af Y) Y Y (λgz M v0=>?_);unfold fu at h;refine sr<|ag Y<|dn<|sr<|mv Y<|lE h λgO kp h=>ln Y kp<|ag Y<|dn<|qq<|bf mixed<|mo (s:=.jO _ _ _) Y<|mv Y<|bE h λmW uK h=>RT.AB .none Y Y T uK<|bE h λjI oK h=>lR Y Y oK Y<|lE h λgV mw h=>cv _ Y (UK.nat mw)<|lE h λfJ jW h=>RT.shl .none _ Y Y T (by decide) (UK.shl (a:=gV) (q:=32) (s:=32) Y jW)<|mo (s:=.jO _ _ _) Y ?_;refine mv Y<|lE h λja pX h=>sb _ Y Y pX<|bE h λjT pW h=>RT.AB .none Y Y T pW<|bE h λjx oJ h=>lR Y Y oJ Y<|lE h λfe nk h=>cv _ Y (UK.nat nk)<|lE h λB3 CE h=>RT.or .none _ Y Y T (UK.or (a:=fJ) (b:=fe) CE)<|ag Y ?_;refine RT.done ⟨by kernel_rfl,?_⟩;refine aV.n<|qq<|bf mixed<|mv Y<|mv Y<|lE h λlX wm h=>sb _ Y Y wm<|bE h λiu lY h=>ix Y Y lY<|lr Y Y<|lE h λmX xb h=>cv _ Y (UK.nat xb)<|mv Y<|mv Y<|lE h λkH pZ h=>sb _ Y Y pZ<|bE h λqT CF h=>ix Y Y CF<|lr Y Y<|lE h λtN zf h=>cv _ Y (UK.nat zf)<|ag Y<|ag Y ?_;refine RT.done ⟨by kernel_rfl,?_⟩;refine aV.n<|qq<|bf mixed<|mv Y<|mv Y<|bE h λou tQ h=>RT.quo .none _ Y Y T (Yk tQ) (UK.quo tQ)<|mv Y<|mv Y<|bE h λAd Fs h=>RT.rem .none _ Y Y T (V3 Fs) (I2 Fs)<|ag Y<|ag Y ?_;refine RT.done ⟨by kernel_rfl,?_⟩;refine aV.n<|qq<|bE h λNx CB ze=>?_
 refine bW (λ(Ew:Nat)=>AS.cZ 71 [(9,.sv (.v (.int .u64 ((Ew:Nat):Int))))] [] [(1000,TR 80 1 aZ x0)]) (λEw=>Ew=Nx) ?_ (λEw CC=>?_);refine bj ?_;refine bX CB (λAI=>AS.cZ 71 [(0,.jO 1000 (o0*1) n0),(5,ai gO),(7,.sv (.v (.int .u64 ((mX:Nat):Int)))),(8,.sv (.v (.int .u64 ((tN:Nat):Int)))),(9,.sv (.v (.int .u64 ((AI.1:Nat):Int)))),(10,.sv (.v (.int .u64 ((AI.2:Nat):Int))))] [] [(1000,TR 80 1 aZ x0)]) (wR []) (λAI Y6 Y7 h CD AO=>?_);obtain⟨xo,xQ⟩:=AI
 try dsimp only
 refine qq<|qq ?_;refine bH h (λQW=>AS.cZ 71 [(0,.jO 1000 (o0*1) n0),(5,ai gO),(7,.sv (.v (.int .u64 ((mX:Nat):Int)))),(8,.sv (.v (.int .u64 ((tN:Nat):Int)))),(9,.sv (.v (.int .u64 ((xo:Nat):Int)))),(10,.sv (.v (.int .u64 ((xQ:Nat):Int)))),(61,aj QW)] [] [(1000,TR 80 1 aZ x0)]) (λh=>?_) (λCu h=>?_);refine aX<|mv Y<|lE h λCr GD h=>RT.shr .none _ Y Y T (by decide) (yS (k:=.u64) (a:=xo) (q:=32) (s:=32) Y GD)<|lE h λv7 h46 h=>ne _ Y Y (Pp (p:=Cr) (q:=0) h46)<|mv Y<|bE h λGr fC h=>?_;cases v7;refine gm Y<|gm Y<|lE (F fC) λvf EF fC=>RT.mul (.some Y Y) _ Y Y T (UK.mul (a:=xo) (b:=tN) EF)<|gm Y<|lE fC λuI EG fC=>RT.shl (.some Y Y) _ Y Y T (by decide) (UK.shl (a:=xQ) (q:=32) (s:=32) Y EG)<|RT.move (.some Y Y) (s:=.jO _ _ _) Y T<|gm Y<|lE fC λJi Zu fC=>RT.sub (.some Y Y) _ Y Y T Zu<|bE fC λJg NB fC=>RT.AB (.some Y Y) Y Y T NB<|bE fC λQw Q2 fC=>RT.Ql (.some Y Y) Y Y Q2 Y T ?_;refine lE fC λYT Zv fC=>RT.conv (.some Y Y) _ Y T (UK.nat Zv)<|lE fC λNd Zt fC=>RT.or (.some Y Y) _ Y Y T (UK.or (a:=uI) (b:=YT) Zt)<|lE fC λEv KP fC=>gg _ Y Y (Pq (p:=Nd) (q:=vf) KP) ?_;obtain rfl:=O fC;exact pF Y<|dn<|⟨Ev,h,wR []⟩;obtain rfl:=O (V fC)
 exact ww<|ww<|ww<|ww<|ww<|ww<|ww<|ww<|ww<|ww<|ww<|ww<|ww<|pT Y<|dn<|⟨true,h,wR []⟩
 try dsimp only
 refine aV.n ?_;cases Cu;refine cF<|b7<|aV.x<|aV.x<|bw.x<|aV.n ?_;obtain rfl:=O (F h);exact⟨xo,AO _ Y,wR []⟩;refine cT<|bu<|aV.n<|bj<|sr<|mv Y<|lE (V h) λKH h63 h=>sb _ Y Y (UK.sub (a:=xo) (b:=1) h63)<|ag Y<|dn<|sr<|mv Y<|mv Y<|lE h λFq Q5 h=>ad _ Y Y (UK.add (a:=xQ) (b:=mX) Q5)<|ag Y<|dn<|sr<|mv Y<|lE h λNg Zw h=>RT.shr .none _ Y Y T (by decide) (yS (k:=.u64) (a:=Fq) (q:=32) (s:=32) Y Zw)<|lE h λYS Zx h=>ne _ Y Y (Pp (p:=Ng) (q:=0) Zx) ?_;refine dn ?_;cases YS;refine cF<|bu<|bw.n ?_;obtain rfl:=O (F h);exact aV.n ⟨(KH,Fq),CD _ Y,wR []⟩;refine cT<|b7<|bw.y (by decide)<|aV.x<|bw.x<|aV.n ?_;obtain rfl:=O (V h);exact⟨KH,AO _ Y,wR []⟩;subst CC
 try dsimp only
 refine aV.n<|sr<|mv Y<|ag Y<|dn<|bg<|bE ze λ_ hle ze=>?_;obtain rfl:=O ze;exact⟨.inr Y,.sv (dh (.tmp Y (.nil)) au),(by show _=ir.live ⟨80,1,x0.length,List.flatMap aZ x0⟩;rw[<-jk hle];rfl)⟩
theorem kJ{x0:List Nat}{o0:Nat}{n0:Nat}{x1:List Nat}{x2:Nat}{r:Bool×List Nat}(h:cu x0 o0 n0 x1 x2=some r):Cd ah 112 [.jO 1000 (o0*1) n0,.sv (slc 1 (List.map aZ x1)),.sv (.v (.int .u64 ((x2:Nat):Int)))] (TR 80 1 aZ x0) (aj r.1) (List.flatMap aZ r.2):=by
 refine pL Try.func112 Y (af Y) Y Y (λgz M v0=>?_);unfold cu at h;refine sr<|ag Y<|dn<|sr<|ag Y<|dn<|sr<|RT.vP .none (dH 0) Y ⟨Y,aq⟩ T Y Y<|an (s:=.fF _ _) Y<|dn<|qq<|sr<|mo (s:=.jO _ _ _) Y<|lE h λjU o5 h=>RT.Na .none Y T o5<|mv Y<|dn<|bE h λEz GG kq=>?_;refine bW (λ(nN:Nat×(List Nat))=>AS.cZ 51 [(7,.sv (.v (.int .u64 ((nN.1:Nat):Int))))] [] [(1000,TR 80 1 aZ nN.2)]) (λnN=>nN=Ez) ?_ (λnN GH=>?_);refine bj ?_;refine bX GG (λvi=>AS.cZ 51 [(0,.jO 1000 (o0*1) n0),(1,.sv (slc 1 (List.map aZ x1))),(2,.sv (.v (.int .u64 ((x2:Nat):Int)))),(7,.sv (.v (.int .u64 ((vi.1:Nat):Int)))),(8,.fF 113 [.box 12]),(14,ai jU),(15,ai vi.2.1)] [(12,⟨100,[.sv (.v (.int .u64 ((vi.2.2.1:Nat):Int)))]⟩)] [(1000,TR 80 1 aZ vi.2.2.2)]) (wR []) (λvi y12 G12 h GI EH=>?_);obtain⟨Ex,qW,yZ,oz⟩:=vi
 try dsimp only
 refine sr<|lE h λjI oK h=>ls _ Y Y oK<|dn<|qq ?_;cases jI;refine cF<|b7<|aV.x<|aV.x<|bw.x<|aV.n ?_;obtain rfl:=O (F h);exact⟨(Ex,oz),EH _ Y,wR []⟩;refine cT<|bu<|aV.n<|qq<|bj<|sr<|mv Y<|ag Y<|dn<|sr<|ag Y<|dn<|qq<|sr<|mv Y<|mv Y<|lE (V h) λiz my h=>ln Y my<|lE h λja pX h=>ls _ Y Y pX<|dn ?_;refine bH h (λj14=>AS.cZ 51 [(0,.jO 1000 (o0*1) n0),(1,.sv (slc 1 (List.map aZ x1))),(2,.sv (.v (.int .u64 ((x2:Nat):Int)))),(7,.sv (.v (.int .u64 ((Ex:Nat):Int)))),(8,.fF 113 [.box 12]),(9,ai qW),(10,.sv (.v (.int .u64 ((j14:Nat):Int)))),(14,ai jU),(15,ai qW)] [(12,⟨100,[.sv (.v (.int .u64 ((yZ:Nat):Int)))]⟩)] [(1000,TR 80 1 aZ oz)]) (λh=>?_) (λGs h=>?_);cases ja;exact fs<|⟨0,(F h),wR []⟩;exact cT<|aX<|mv Y<|mv Y<|bE (V h) λfe nk h=>ix Y Y nk<|lr Y Y<|lE h λjH qx h=>cv _ Y (UK.nat qx)<|mv Y<|lE h λlX wm h=>RT.mul .none _ Y Y T (UK.mul (a:=jH) (b:=x2) wm)<|ag Y<|dn<|⟨lX,h,wR []⟩
 try dsimp only
 refine aV.n<|qq<|bf mixed<|mo (s:=.jO _ _ _) Y<|mv Y<|bE h λmX xb h=>RT.AB .none Y Y T xb<|bE h λjJ nj h=>lR Y Y nj Y<|lE h λmY qy h=>cv _ Y (UK.nat qy)<|mo (s:=.fF _ _) Y<|mv Y ?_;obtain⟨⟨v8,YU⟩,xu,h⟩:=bS h;refine cB (bQ xu) 12 Y ⟨Y,aq⟩<|lE h λtN zf h=>cv _ Y (UK.nat zf)<|lE h λvc EC h=>sb _ Y Y (UK.sub (a:=mY) (b:=tN) EC)<|mv Y<|lE h λou tQ h=>sb _ Y Y (UK.sub (a:=vc) (b:=Ex) tQ)<|ag Y ?_;refine RT.done ⟨by kernel_rfl,?_⟩;refine aV.n<|sr<|mo (s:=.jO _ _ _) Y<|mv Y<|mv Y<|lE h λEy GJ h=>cv _ Y (UK.nat GJ)<|bE h λCr GD h=>RT.AB .none Y Y T GD<|bE h λYV Q6 h=>sR Ey Y Y Y Y Q6<|dn<|aX<|mv Y<|lE h λAG GF h=>RT.shr .none _ Y Y T (by decide) (yS (k:=.u64) (a:=ou) (q:=63) (s:=63) Y GF)<|ag Y<|RT.done<|bw.n<|aV.n<|aX<|lE h λAe h48 h=>ad _ Y Y h48<|mv Y<|RT.done ?_;obtain rfl:=O h;exact aV.n ⟨(AG,Ae,YU,YV),GI _ Y,wR []⟩;subst GH;obtain⟨Gt,qX⟩:=nN
 try dsimp only
 refine aV.n<|sr<|mv Y<|lE kq λvf EF kq=>ne _ Y Y (Pp (p:=Gt) (q:=0) EF)<|ag Y<|dn<|bg<|bE kq λ_ hle kq=>?_;obtain rfl:=O kq;exact⟨.inr Y,.sv (dh (.tmp Y (.nil)) au),(by show _=ir.live ⟨80,1,x0.length,List.flatMap aZ qX⟩;rw[<-jk hle];rfl)⟩
set_option maxHeartbeats 4000000 in
theorem sK{x0:List Nat}{x1:List Nat}(N:Nat){r:(List Nat)×(List Nat)}(h:fV x0 x1=some r):dR ah 91 N [slc 1 (List.map aZ x0),slc 1 (List.map aZ x1)] (.uB [nw N (slc 1 (List.map aZ r.1)),nw N (slc 1 (List.map aZ r.2))]):=by
 refine bK Try.func91 Y (af Y) (λgz M vs hN hvs=>?_);unfold fV at h;refine sr<|ag Y<|ag Y<|dn<|dg (gp 4 306 80 1 Y Y T)<|dg (gp 5 308 80 1 Y Y T)<|sr<|mv Y<|lE h λgV mw h=>ln Y mw<|ag Y<|dn<|sr<|mv Y<|mv Y<|lE h λiz my h=>sb _ Y Y my<|bE h λja pX h=>ix Y Y pX<|lr Y Y<|bE h λjx oJ h=>cl (jX oJ) ⟨Y,aq⟩ ?_;refine lE h λfe nk h=>cv _ Y (UK.conv nk)<|ag Y<|dn<|qq<|bf mixed<|mv Y<|mv Y<|bE h λnh o6 h=>cN (oL o6) ⟨Y,Y,aq⟩<|mv Y<|mv Y<|bE h λow xq h=>cl (qa xq) ⟨Y,Y,aq⟩<|mv Y<|bE h λjJ nj h=>RT.Ge .none 0 gV Y Y ⟨_,Y⟩ T nj<|an (s:=.row _) Y<|ag Y ?_;refine RT.done ⟨by kernel_rfl,?_⟩;refine aV.n<|sr<|mv Y<|lE h λkH pZ h=>ln Y pZ<|mv Y<|lE h λv8 xu h=>sb _ Y Y xu<|lE h λtN zf h=>ad _ Y Y zf<|bE h λvc EC h=>RT.tK (n:=1) (e:=aZ) .none Y Y T Y T (by rfl) (by decide) (by exact⟨au,aq⟩) EC<|an (s:=.row _) Y<|dn<|qq<|sr<|mv Y<|lE h λou tQ h=>ln Y tQ<|mv Y<|lE h λr5 AP h=>sb _ Y Y AP ?_;refine ag Y<|dn<|bE h λY3 Zy NC=>?_;refine bW (λ(EI:(List Nat)×(List Nat))=>AS.cZ 141 [(4,.row 38),(6,ai gV),(7,.sv (.v (.int .u64 ((fe:Nat):Int)))),(8,.row 27)] [] [(38,TR 80 1 aZ EI.1),(27,TR 80 1 aZ EI.2)]) (λEI=>EI=Y3) ?_ (λEI Zz=>?_);refine bj ?_
 refine bX Zy (λNh=>AS.cZ 141 [(4,.row 38),(6,ai gV),(7,.sv (.v (.int .u64 ((fe:Nat):Int)))),(8,.row 27),(9,.sv (slc 1 (List.map aZ jJ))),(10,ai Nh.1)] [] [(38,TR 80 1 aZ Nh.2.1),(27,TR 80 1 aZ Nh.2.2)]) (wR []) (λNh y36 G36 h ZA ZB=>?_);obtain⟨gx,nJ,pS⟩:=Nh
 try dsimp only
 refine qq<|sr<|mv Y<|lE h λEy GJ h=>ge _ Y Y GJ<|dn ?_;cases Ey;refine cF<|b7<|aV.x<|aV.x<|bw.x<|aV.n ?_;obtain rfl:=O (F h);exact⟨(nJ,pS),ZB _ Y,wR []⟩;refine cT<|bu<|aV.n<|qq<|bj<|sr<|mo (s:=.row _) Y<|mv Y<|mv Y<|mv Y<|lE (V h) λIt Jk h=>ad _ Y Y Jk<|lE h λuI EG h=>ad _ Y Y EG ?_;obtain⟨⟨o53,n53⟩,ZC,h⟩:=bS h;refine RT.Qp .none gx uI Y Y ⟨_,Y⟩ ⟨_,Y⟩ T ZC<|mv Y ?_;obtain⟨⟨Ji,Ni⟩,Zu,h⟩:=bS h;refine bE h λ_ ZD h=>cR (l:=pS) (l':=Ni) (e:=aZ) (rm Zu) (jk ZD) 27 Y (.k2 Y Y)<|ag Y<|dn<|qq<|sr<|mo (s:=.row _) Y<|mv Y<|mv Y<|mv Y<|lE h λEv KP h=>ad _ Y Y KP<|lE h λIu Q4 h=>ad _ Y Y Q4 ?_;obtain⟨⟨o62,n62⟩,ZE,h⟩:=bS h;refine RT.Qp .none gx Iu Y Y ⟨_,Y⟩ ⟨_,Y⟩ T ZE<|mv Y<|mv Y ?_;obtain⟨⟨Pt,Pu⟩,ZF,h⟩:=bS h;refine bE h λ_ ZG h=>cR (l:=Ni) (l':=Pu) (e:=aZ) (kJ ZF) (jk ZG) 27 Y (.k3 Y Y Y)<|dn ?_;refine bH h (λPv=>AS.cZ 141 [(4,.row 38),(6,ai gV),(7,.sv (.v (.int .u64 ((fe:Nat):Int)))),(8,.row 27),(9,.sv (slc 1 (List.map aZ jJ))),(10,ai gx),(11,.sv (.v (.int .u64 ((Pv.1:Nat):Int))))] [] [(38,TR 80 1 aZ nJ),(27,TR 80 1 aZ Pv.2)]) (λh=>?_) (λPv h=>?_);cases Pt;exact fs<|⟨(Ji,Pu),(F h),wR []⟩
 refine cT<|sr<|mv Y<|lE (V h) λJj ZH h=>sb _ Y Y (UK.sub (a:=Ji) (b:=1) ZH)<|ag Y<|dn<|sr<|RT.vP .none (dH 0) Y ⟨Y,aq⟩ T Y Y<|an (s:=.fF _ _) Y<|dn<|qq<|sr<|mv Y<|lE h λPw ZI h=>ln Y ZI<|mv Y<|dn<|bE h λY1 ZJ nO=>?_;refine bW (λ(EJ:Nat×(List Nat))=>AS.cZ 141 [(4,.row 38),(6,ai gV),(7,.sv (.v (.int .u64 ((fe:Nat):Int)))),(8,.row 27),(9,.sv (slc 1 (List.map aZ jJ))),(10,ai gx),(11,.sv (.v (.int .u64 ((Jj:Nat):Int)))),(12,.fF 113 [.box 68])] [(68,⟨100,[.sv (.v (.int .u64 ((EJ.1:Nat):Int)))]⟩)] [(38,TR 80 1 aZ nJ),(27,TR 80 1 aZ EJ.2)]) (λEJ=>EJ=Y1) ?_ (λEJ ZK=>?_);refine bj ?_;refine bX ZJ (λNj=>AS.cZ 141 [(4,.row 38),(6,ai gV),(7,.sv (.v (.int .u64 ((fe:Nat):Int)))),(8,.row 27),(9,.sv (slc 1 (List.map aZ jJ))),(10,ai gx),(11,.sv (.v (.int .u64 ((Jj:Nat):Int)))),(12,.fF 113 [.box 68]),(69,.sv (slc 1 (List.map aZ jJ))),(70,ai Pw),(71,ai Nj.1)] [(68,⟨100,[.sv (.v (.int .u64 ((Nj.2.1:Nat):Int)))]⟩)] [(38,TR 80 1 aZ nJ),(27,TR 80 1 aZ Nj.2.2)]) (wR []) (λNj y65 G65 h ZL ZM=>?_);obtain⟨sE,qY,pU⟩:=Nj
 try dsimp only
 refine sr<|lE h λNk ZN h=>ls _ Y Y ZN<|dn<|qq ?_;cases Nk;refine cF<|b7<|aV.x<|aV.x<|bw.x<|aV.n ?_;obtain rfl:=O (F h);exact⟨(qY,pU),ZM _ Y,wR []⟩;refine cT<|bu<|aV.n<|qq<|bj<|sr<|mv Y<|bE (V h) λQB ZO h=>ix Y Y ZO<|lr Y Y<|ag Y<|ag Y<|dn<|aX<|mo (s:=.row _) Y<|mv Y<|mv Y<|lE h λx79 h79 h=>ad _ Y Y h79<|mo (s:=.fF _ _) Y<|mo (s:=.row _) Y<|mv Y<|mv Y<|lE h λx84 h84 h=>ad _ Y Y h84<|bE h λx85 ZP h=>iR Y Y Y ZP ?_;refine bE h λx86 ZQ h=>lR Y Y ZQ Y<|lE h λNl ZR h=>cv _ Y (UK.nat ZR)<|mv Y<|lE h λYX h89 h=>cv _ Y (UK.nat h89)<|lE h λx90 h90 h=>ad _ Y Y (UK.add (a:=Nl) (b:=YX) h90) ?_;obtain⟨⟨YY,YZ⟩,Q7,h⟩:=bS h;refine cB (bQ Q7) 68 Y ⟨Y,aq⟩<|bE h λx92 h92 h=>iR Y Y Y h92<|bE h λY0 Q8 h=>sR YY Y Y Y Y Q8<|RT.done<|bw.n<|aV.n<|aX<|lE h λNm ZS h=>ad _ Y Y ZS<|mv Y<|RT.done ?_;obtain rfl:=O h;exact aV.n ⟨(Nm,YZ,Y0),ZL _ Y,wR []⟩;subst ZK;obtain⟨AJ,wc⟩:=EJ
 try dsimp only
 refine aV.n<|aX<|mo (s:=.row _) Y<|mv Y<|mv Y<|lE nO λx97 ZT nO=>ad _ Y Y ZT<|mo (s:=.fF _ _) Y<|mo (s:=.row _) Y<|mv Y<|mv Y<|lE nO λQC ZU nO=>ad _ Y Y ZU<|bE nO λQD ND nO=>iR Y Y Y ND<|bE nO λy7 GK nO=>lR Y Y GK Y<|lE nO λGv NF nO=>cv _ Y (UK.nat NF) ?_;obtain⟨⟨Nn,k72⟩,ZV,nO⟩:=bS nO;exact cB (bQ ZV) 68 Y ⟨Y,aq⟩<|bE nO λEB NG nO=>iR Y Y Y NG<|bE nO λY2 Q9 nO=>sR Nn Y Y Y Y Q9<|dn<|⟨(Jj,Y2),nO,wR []⟩;obtain⟨Gu,Cv⟩:=Pv
 try dsimp only
 refine aV.n<|aX<|mo (s:=.row _) Y<|mv Y<|mv Y<|lE h λEA NH h=>cv _ Y (UK.nat NH)<|bE h λQA ZW h=>iR Y Y Y ZW<|bE h λYW Ra h=>sR EA Y Y Y Y Ra<|RT.done<|bw.n<|aV.n<|aX<|mv Y<|lE h λv7 h46 h=>sb _ Y Y h46<|ag Y<|RT.done ?_;obtain rfl:=O h;exact aV.n ⟨(v7,YW,Cv),ZA _ Y,wR []⟩;subst Zz;obtain⟨we,sF⟩:=EI
 try dsimp only
 refine aV.n<|sr<|mv Y<|bE NC λQE ZX NC=>RT.tK (n:=1) (e:=aZ) .none Y Y T Y T (by rfl) (by decide) (by exact⟨au,aq⟩) ZX<|an (s:=.row _) Y<|dn<|qq<|sr<|mv Y<|mv Y<|dn<|bE NC λe81 ZY ZZ=>?_;refine bW (λ(mu:(List Nat))=>AS.cZ 141 [(4,.row 38),(5,.row 114)] [] [(38,TR 80 1 aZ we),(114,TR 80 1 aZ mu)]) (λmu=>mu=e81) ?_ (λmu Z0=>?_);refine bj ?_;refine bX ZY (λPx=>AS.cZ 141 [(4,.row 38),(5,.row 114),(7,.sv (.v (.int .u64 ((fe:Nat):Int)))),(8,.row 27),(115,ai gV),(116,ai Px.1)] [] [(38,TR 80 1 aZ we),(114,TR 80 1 aZ Px.2),(27,TR 80 1 aZ sF)]) (wR []) (λPx y81 G81 h Z1 Z2=>?_);obtain⟨oA,qZ⟩:=Px
 try dsimp only
 refine sr<|lE h λNo Z3 h=>ls _ Y Y Z3<|dn<|qq ?_;cases No;refine cF<|b7<|aV.x<|aV.x<|bw.x<|aV.n ?_;obtain rfl:=O (F h);exact⟨qZ,Z2 _ Y,wR []⟩;refine cT<|bu<|aV.n<|qq<|bj<|sr<|mv Y<|ag Y<|dn<|bf mixed<|mo (s:=.row _) Y<|mv Y<|mo (s:=.row _) Y<|mv Y<|bE (V h) λQF Z4 h=>iR Y Y Y Z4<|bE h λQG Z5 h=>lR Y Y Z5 Y<|lE h λNp Z6 h=>cv _ Y (UK.nat Z6)<|mo (s:=.row _) Y<|mv Y<|lE h λQH h128 h=>ad _ Y Y h128<|bE h λQI Z7 h=>?_;refine iR Y Y Y Z7<|bE h λQJ Z8 h=>lR Y Y Z8 Y<|lE h λNq Z9 h=>cv _ Y (UK.nat Z9)<|lE h λNr aaa h=>RT.shl .none _ Y Y T (by decide) (UK.shl (a:=Nq) (q:=32) (s:=32) Y aaa)<|lE h λNs aab h=>RT.or .none _ Y Y T (UK.or (a:=Np) (b:=Nr) aab)<|mv Y<|lE h λQK aac h=>RT.shr .none _ Y Y T (Int.natCast_nonneg _) (yS (k:=.u64) (a:=Ns) (q:=((fe:Nat):Int)) (s:=min fe 64) Y aac)<|lE h λNt aad h=>cv _ Y (UK.nat aad) ?_;refine bE h λQL aae h=>iR Y Y Y aae<|bE h λY4 Rb h=>sR Nt Y Y Y Y Rb ?_;refine RT.done ⟨by kernel_rfl,?_⟩;refine bw.n<|aV.n<|aX<|lE h λNu aaf h=>ad _ Y Y aaf<|mv Y<|RT.done ?_;obtain rfl:=O h;exact aV.n ⟨(Nu,Y4),Z1 _ Y,wR []⟩;subst Z0
 try dsimp only
 refine aV.n<|sr<|mo (s:=.row _) Y<|mo (s:=.row _) Y<|an (s:=.row _) Y<|an (s:=.row _) Y<|dn<|mh (i:=38) (E1:=80) (n:=1) (e:=aZ) (l:=we) hN (λ_ h=>h) Y<|mh (i:=114) (E1:=80) (n:=1) (e:=aZ) (l:=mu) hN (λ_ h=>h) Y<|bg ?_;obtain rfl:=O ZZ;exact R2 Y Y
theorem jK{x0:List Nat}(N:Nat){r:List Nat}(h:dx x0=some r):dR ah 56 N [slc 1 (List.map aZ x0)] (nw N (slc 1 (List.map aZ r))):=Je (lD h)
theorem kP{x0:List Nat}{x1:List Nat}(N:Nat){r:(List Nat)×(List Nat)}(h:er x0 x1=some r):dR ah 68 N [slc 1 (List.map aZ x0),slc 1 (List.map aZ x1)] (.uB [nw N (slc 1 (List.map aZ r.1)),nw N (slc 1 (List.map aZ r.2))]):=by
 refine bK Try.func68 Y (af Y) (λgz M vs hN hvs=>?_);unfold er at h;refine sr<|ag Y<|aI Y (bn (N:=N) (n:=1) (e:=aZ))<|dn<|dg (gp 4 304 80 1 Y Y T)<|qq<|bj<|sr<|mv Y<|mv Y<|bE h λgO kp h=>cl (eF kp) ⟨Y,Y,aq⟩<|lE h λgR kI h=>ls _ Y Y kI<|ag Y<|dn ?_;cases gR;refine cF<|sr<|mv Y<|lE (F h) λfJ jW h=>ln Y jW<|lE h λng q9 h=>RT.leq .none _ Y Y T q9<|ag Y<|dn ?_;cases ng;refine cF<|sr<|mv Y<|lE (F h) λv8 xu h=>ln Y xu<|lE h λtN zf h=>eq _ Y Y (qw (p:=v8) (q:=1) zf)<|ag Y<|dn ?_;cases tN;refine cF<|bu<|bw.n<|aV.n<|sr<|mv Y<|mv Y ?_;obtain⟨⟨QM,QN⟩,EG,h⟩:=bS (F h);refine RT.bM .none (sK N EG) hN Y ⟨Y,Y,aq⟩ T<|ex Y Y<|ex Y Y<|ag Y<|ag Y<|dn<|bg ?_;obtain rfl:=O h;exact R2 Y Y;refine cT<|sr<|mv Y<|bE (V h) λmZ CG h=>cN (lD CG) ⟨Y,aq⟩<|an (s:=.row _) Y<|dn<|sr<|mo (s:=.row _) Y<|mv Y<|bE h λr5 AP h=>ix Y Y AP<|lr Y Y<|lE h λEy GJ h=>cv _ Y (UK.nat GJ) ?_;obtain⟨⟨Cr,l5⟩,GD,h⟩:=bS h;refine bE h λ_ he5 h=>cR (l:=mZ) (l':=l5) (e:=aZ) (ri GD) (jk he5) 39 Y (.k2 Y Y)<|ag Y<|dn<|sr<|mo (s:=.row _) Y<|mv Y<|lE h λAe h48 h=>cv _ Y (UK.nat h48)<|RT.qQ (l:=[Ae]) (e:=aZ) .none hN (.one Y (.nil)) T Y Y Y Y Y Y<|an (s:=.row _) Y<|ag Y<|dn<|mh (i:=39) (E1:=80) (n:=1) (e:=aZ) (l:=l5) hN (λ_ h=>h) Y ?_
 refine bg<|bw.r<|aV.r ?_;obtain rfl:=O h;exact R2 Y Y;refine cT<|sr<|mv Y<|bE (V h) λja pX h=>cl (fL pX) ⟨Y,aq⟩<|mv Y<|bE h λjx oJ h=>cl (fL oJ) ⟨Y,aq⟩<|ag Y<|ag Y<|dn<|qq<|bf mixed<|mv Y<|mv Y<|bE h λjH qx h=>RT.quo .none _ Y Y T (Yk qx) (UK.quo qx) ?_;obtain⟨⟨jc,jd⟩,o6,h⟩:=bS h;refine RT.bM .none (gA N o6) hN Y ⟨Y,Y,aq⟩ T<|fl Y Y<|mv Y<|mv Y<|bE h λmX xb h=>RT.rem .none _ Y Y T (V3 xb) (I2 xb) ?_;obtain⟨⟨ko,jA⟩,nj,h⟩:=bS h;refine RT.bM .none (gA N nj) hN Y ⟨Y,Y,aq⟩ T<|fl Y Y<|ag Y<|ag Y ?_;refine RT.done ⟨by kernel_rfl,?_⟩;refine aV.n<|bg<|bw.r<|aV.r ?_;obtain rfl:=O h;exact R2 Y Y;refine cT<|sr<|mv Y<|bE (V h) λmW uK h=>RT.bM .none (jK N uK) hN Y ⟨Y,aq⟩ T<|ag Y<|ag Y<|dn<|dg (gp 4 310 80 1 Y Y T)<|mh (i:=310) (E1:=80) (n:=1) (e:=aZ) (l:=[]) hN (λ_ h=>h) Y<|bg<|bw.r<|aV.r ?_;obtain rfl:=O h;exact R2 Y Y
end
section
open Go.Fw Go.Fw.Z Go.RowKit
theorem cL{x0:Int}(N:Nat){r:Zr}(h:bp x0=some r):dR ah 35 N [ay x0] (.agg ((fZ N) r)):=by
 refine bK Try.func35 Y (af Y) (λgz M vs hN hvs=>?_);unfold bp at h;refine sr<|al (cs:=[az false,nw N ax]) (by exact⟨au,bn,aq⟩) Y<|dn<|sr<|mv Y<|lE h λx5 h5 h=>cv _ Y (UK.conv h5)<|ag Y<|dn<|qq<|sr<|mv Y<|lE h λx7 h7 h=>ls _ Y Y h7<|dn ?_;refine bH h (λj2=>AS.cZ 14 [(0,ai x0),(2,.ptr 2 0),(3,.sv (.v (.int .u64 ((j2:Nat):Int))))] [(2,⟨24,[aj false,.sv (nw N ax)]⟩)] []) (λh=>?_) (λQO h=>?_);cases x7;exact fs<|⟨x5,(F h),wR []⟩;exact cT<|aX<|mv Y<|lE (V h) λx9 h9 h=>RT.neg .none _ Y T (UK.neg h9)<|ag Y<|dn<|⟨x9,h,wR []⟩
 try dsimp only
 refine aV.n<|sr<|mv Y<|lE h λlq pV h=>ls _ Y Y pV<|mv Y ?_;obtain⟨⟨nK,tO⟩,kI,h⟩:=bS h;refine RT.bM .none (gA N kI) hN Y ⟨Y,Y,aq⟩ T<|so Y Y Y<|dn<|bg ?_;obtain rfl:=O h;exact RZ (.agg Y Y (.k2 Y Y) Y (.nil))
theorem fM{x0:Int}{r:Zr}(h:bp x0=some r):Pure ah 35 [ay x0] (.agg (eZ r)):=fI (λN=>cL N h) (λN=>(SV.dL (zI _ _)))
theorem eA{x0:Zr}{r:Int×Bool}(h:cP x0=some r):Pure ah 52 [.agg (eZ x0)] (.uB [ay r.1,az r.2]):=by
 obtain⟨bT,bN⟩:=x0;refine bL Try.func52 Y (af Y) (λgz M vs hvs=>?_);unfold cP at h;refine sr<|bx Y<|ag Y<|ag Y<|dn<|sr<|fa Y Y<|lV Y Y Y<|bE h λx8 h8 h=>cl (bV h8) ⟨Y,aq⟩<|ag Y<|dn<|qq<|sr<|mv Y<|lE h λfU iN h=>ln Y iN<|lE h λlq pV h=>gt _ Y Y pV<|dn ?_;cases lq;refine fs<|sr<|mv Y<|bE (F h) λgR kI h=>cl (fL kI) ⟨Y,aq⟩<|ag Y<|dn<|qq<|sr<|fa Y Y<|lV Y Y Y<|dn ?_;cases bT;refine fs<|qq<|sr<|mv Y<|lE (F h) λjT pW h=>ge _ Y Y (Yi (p:=9223372036854775808) (q:=gR) pW)<|dn ?_;cases jT;refine fs<|sr<|mv Y<|lE (F h) λfe nk h=>cv _ Y nk<|ag Y<|ag Y<|dn<|bg ?_;obtain rfl:=O h;exact R2 Y Y;refine cT<|sr<|ag Y<|ag Y<|dn<|bg<|aV.r ?_;obtain rfl:=O (V h);exact R2 Y Y;refine cT<|qq<|sr<|mv Y<|lE (V h) λgV mw h=>gt _ Y Y (Pq (p:=9223372036854775808) (q:=gR) mw)<|dn ?_;cases gV;refine fs<|sr<|mv Y<|lE (F h) λng q9 h=>RT.neg .none _ Y T (UK.neg q9)<|lE h λiz my h=>cv _ Y my<|ag Y<|ag Y<|dn<|bg<|aV.r ?_;obtain rfl:=O h;exact R2 Y Y;refine cT<|sr<|ag Y<|ag Y<|dn<|bg<|aV.r<|aV.r ?_;obtain rfl:=O (V h);exact R2 Y Y;refine cT<|sr<|ag Y<|ag Y<|dn<|bg<|aV.r ?_;obtain rfl:=O (V h);exact R2 Y Y
theorem k7{x0:List Nat}(N:Nat){r:List Nat}(h:bh x0=some r):dR ah 54 N [nw N (slc 1 (List.map aZ x0))] (nw N (slc 1 (List.map aZ r))):=by
 refine bK Try.func54 Y (af Y) (λgz M vs hN hvs=>?_);unfold bh at h;refine sr<|aI Y (bn (N:=N) (n:=1) (e:=aZ))<|dn<|qq<|bE h λNx CB ze=>?_;refine bW (λ(vZ:(List Nat))=>AS.cZ 21 [(0,.sv (nw N (slc 1 (List.map aZ vZ))))] [] []) (λvZ=>vZ=Nx) ?_ (λvZ CC=>?_);refine bj ?_;refine bX CB (λAI=>AS.cZ 21 [(0,.sv (nw N (slc 1 (List.map aZ AI))))] [] []) (wR []) (λuG Y6 Y7 h CD AO=>?_)
 try dsimp only
 refine qq<|qq ?_;refine bH h (λQW=>AS.cZ 21 [(0,.sv (nw N (slc 1 (List.map aZ uG)))),(14,aj QW)] [] []) (λh=>?_) (λvY h=>?_);refine aX<|mv Y<|lE h λx4 h4 h=>RT.AF .none Y T h4<|lE h λx5 h5 h=>gt _ Y Y h5<|mv Y<|bE h λCq fC h=>?_;cases x5;obtain rfl:=O (F fC);exact ww<|ww<|ww<|ww<|ww<|ww<|ww<|pF Y<|dn<|⟨false,h,wR []⟩;refine gm Y<|gm Y<|lE (V fC) λx9 h9 fC=>RT.AF (.some Y Y) Y T h9<|lE fC λfU iN fC=>RT.sub (.some Y Y) _ Y Y T iN<|bE fC λlq pV fC=>RT.YH (.some Y Y) Y Y T pV<|gr Y Y<|lE fC λgR kI fC=>Co _ Y Y (Qh (p:=lq) (q:=0) kI) ?_;obtain rfl:=O fC;exact pT Y<|dn<|⟨gR,h,wR []⟩
 try dsimp only
 refine aV.n ?_;cases vY;refine cF<|b7<|aV.x<|aV.x<|bw.x<|aV.n ?_;obtain rfl:=O (F h);exact⟨uG,AO _ Y,wR []⟩;refine cT<|bu<|aV.n<|bj<|aX<|mv Y<|mv Y<|lE (V h) λgV mw h=>RT.AF .none Y T mw<|lE h λfJ jW h=>sb _ Y Y jW<|bE h λng q9 h=>RT.Jf .none 0 fJ Y Y ⟨_,Y⟩ T q9<|ag Y<|RT.done<|bw.n ?_;obtain rfl:=O h;exact aV.n ⟨ng,CD _ Y,wR []⟩;subst CC
 try dsimp only
 refine aV.n<|sr<|mv Y<|ag Y<|dn<|bg ?_;obtain rfl:=O ze;exact R1 Y
theorem dN{x0:Bool}{x1:List Nat}(N:Nat){r:Zr}(h:bU x0 x1=some r):dR ah 55 N [az x0,nw N (slc 1 (List.map aZ x1))] (.agg ((fZ N) r)):=by
 refine bK Try.func55 Y (af Y) (λgz M vs hN hvs=>?_);unfold bU at h;refine sr<|al (cs:=[az false,nw N ax]) (by exact⟨au,bn,aq⟩) Y<|dn<|sr<|mv Y<|bE h λx6 h6 h=>RT.bM .none (k7 N h6) hN Y ⟨Y,aq⟩ T<|ag Y<|dn<|qq<|sr<|mv Y<|lE h λx8 h8 h=>RT.AF .none Y T h8<|lE h λx9 h9 h=>eq _ Y Y (qw (p:=x8) (q:=0) h9)<|dn ?_;cases x9;refine fs<|sr<|mv Y<|mv Y<|bI (cs:=[_,_]) (cs':=[az x0,nw N (slc 1 (List.map aZ x6))]) (.one Y (.one Y (.nil))) ⟨au,au,aq⟩<|so Y Y Y<|dn<|bg ?_;obtain rfl:=O (F h);exact RZ (.agg Y Y (.k2 Y Y) Y (.nil));refine cT<|sr<|bI (cs:=[_,_]) (cs':=[az false,nw N ax]) (.nil) ⟨au,bn,aq⟩<|so Y Y Y<|dn<|bg<|aV.r ?_;obtain rfl:=O (V h);exact RZ (.agg Y Y (.k2 Y Y) Y (.nil))
theorem ku{x0:Bool}{x1:List Nat}{x2:Bool}{x3:List Nat}(N:Nat){r:Zr}(h:cz x0 x1 x2 x3=some r):dR ah 53 N [az x0,slc 1 (List.map aZ x1),az x2,slc 1 (List.map aZ x3)] (.agg ((fZ N) r)):=by
 refine bK Try.func53 Y (af Y) (λgz M vs hN hvs=>?_);unfold cz at h;refine sr<|al (cs:=[az false,nw N ax]) (by exact⟨au,bn,aq⟩) Y<|dn<|qq<|sr<|mv Y<|mv Y<|lE h λlq pV h=>RT.XO .none _ Y Y T pV<|dn ?_;cases lq;refine fs<|qq<|sr<|mv Y<|mv Y<|bE (F h) λng q9 h=>cl (eF q9) ⟨Y,Y,aq⟩<|lE h λiz my h=>ls _ Y Y my<|dn ?_;cases iz;refine fs<|sr<|mv Y<|mv Y<|mv Y<|bE (F h) λiu lY h=>RT.bM .none (iS N lY) hN Y ⟨Y,Y,aq⟩ T ?_;obtain⟨⟨xT,xU⟩,xq,h⟩:=bS h;refine RT.bM .none (dN N xq) hN Y ⟨Y,Y,aq⟩ T<|so Y Y Y<|dn<|bg ?_;obtain rfl:=O h;exact RZ (.agg Y Y (.k2 Y Y) Y (.nil));refine cT<|sr<|mv Y<|mv Y<|mv Y<|bE (V h) λfe nk h=>RT.bM .none (iS N nk) hN Y ⟨Y,Y,aq⟩ T ?_;obtain⟨⟨xR,xS⟩,CE,h⟩:=bS h;refine RT.bM .none (dN N CE) hN Y ⟨Y,Y,aq⟩ T<|so Y Y Y<|dn<|bg<|aV.r ?_;obtain rfl:=O h;exact RZ (.agg Y Y (.k2 Y Y) Y (.nil));refine cT<|sr<|mv Y<|mv Y<|mv Y<|bE (V h) λmW uK h=>RT.bM .none (kO N uK) hN Y ⟨Y,Y,aq⟩ T ?_;obtain⟨⟨oX,oY⟩,oK,h⟩:=bS h;refine RT.bM .none (dN N oK) hN Y ⟨Y,Y,aq⟩ T<|so Y Y Y<|dn<|bg<|aV.r ?_;obtain rfl:=O h;exact RZ (.agg Y Y (.k2 Y Y) Y (.nil))
theorem mz{x0:Zr}{x1:Zr}(N:Nat){r:Zr}(h:da x0 x1=some r):dR ah 18 N [.agg (eZ x0),.agg (eZ x1)] (.agg ((fZ N) r)):=by
 obtain⟨bT,bN⟩:=x0;obtain⟨dz,dm⟩:=x1;refine bK Try.func18 Y (af Y) (λgz M vs hN hvs=>?_);unfold da at h;refine sr<|bx Y<|bx Y<|al (cs:=[az false,nw N ax]) (by exact⟨au,bn,aq⟩) Y<|dn<|sr<|ld Y Y (.k2 Y Y) ?_;obtain⟨⟨xp,Cw⟩,kp,h⟩:=bS h;refine cl (eA kp) ⟨Y,aq⟩<|mv Y<|ex Y Y<|ex Y Y<|ag Y<|ag Y<|dn<|sr<|ld Y Y (.k2 Y Y) ?_;obtain⟨⟨za,Cx⟩,mw,h⟩:=bS h;refine cl (eA mw) ⟨Y,aq⟩<|mv Y<|ex Y Y<|ex Y Y<|ag Y<|ag Y<|dn<|qq<|qq ?_;refine bH h (λj3=>AS.cZ 48 [(2,.ptr 2 0),(3,.ptr 3 0),(4,.ptr 4 0),(5,ai xp),(7,ai za),(23,aj j3)] [(4,⟨24,[aj false,.sv (nw N ax)]⟩),(3,⟨24,[aj dz,.sv (slc 1 (List.map aZ dm))]⟩),(2,⟨24,[aj bT,.sv (slc 1 (List.map aZ bN))]⟩)] []) (λh=>?_) (λwh h=>?_);refine aX<|mv Y<|mv Y<|bE h λAK Ft h=>?_;cases Cw;obtain rfl:=O (F Ft);exact ww<|pF Y<|dn<|⟨false,h,wR []⟩;refine gm Y ?_;obtain rfl:=O (V Ft);exact pT Y<|dn<|⟨Cx,h,wR []⟩
 try dsimp only
 refine aV.n ?_;refine bH h (λj5=>AS.cZ 48 [(2,.ptr 2 0),(3,.ptr 3 0),(4,.ptr 4 0)] [(4,⟨24,[aj false,.sv (nw N ax)]⟩),(3,⟨24,[aj dz,.sv (slc 1 (List.map aZ dm))]⟩),(2,⟨24,[aj bT,.sv (slc 1 (List.map aZ bN))]⟩)] []) (λh=>?_) (λj5 h=>?_);cases wh;exact fs<|⟨(),(F h),wR []⟩;refine cT<|sr<|mv Y<|mv Y<|lE (V h) λjH qx h=>ad _ Y Y qx<|ag Y<|dn<|sr<|mv Y<|mv Y<|lE h λiu lY h=>RT.xor .none _ Y Y T lY<|mv Y<|mv Y<|lE h λjJ nj h=>RT.xor .none _ Y Y T nj<|lE h λmY qy h=>RT.and .none _ Y Y T qy<|lE h λkH pZ h=>ge _ Y Y pZ<|dn ?_;cases kH;exact fs<|⟨(),(F h),wR []⟩;refine cT<|sr<|mv Y ?_;obtain⟨⟨oZ,m7⟩,xu,h⟩:=bS (V h);refine RT.bM .none (cL N xu) hN Y ⟨Y,aq⟩ T<|so Y Y Y<|dn<|bg<|aV.r<|aV.r ?_;obtain rfl:=O h;exact RZ (.agg Y Y (.k2 Y Y) Y (.nil))
 try dsimp only
 refine aV.n<|qq<|bf mixed<|fa Y Y<|lV Y Y Y<|fa Y Y<|lV Y Y Y<|bE h λxn EE h=>cl (bV EE) ⟨Y,aq⟩<|fa Y Y<|lV Y Y Y<|fa Y Y<|lV Y Y Y<|bE h λv7 h46 h=>cl (bV h46) ⟨Y,aq⟩ ?_;obtain⟨⟨KI,KJ⟩,GF,h⟩:=bS h;refine RT.bM .none (ku N GF) hN Y ⟨Y,Y,Y,Y,aq⟩ T<|so Y Y Y ?_;refine RT.done ⟨by kernel_rfl,?_⟩;refine aV.n<|bg ?_;obtain rfl:=O h;exact RZ (.agg Y Y (.k2 Y Y) Y (.nil))
theorem gH{x0:Zr}{x1:Zr}{r:Zr}(h:da x0 x1=some r):Pure ah 18 [.agg (eZ x0),.agg (eZ x1)] (.agg (eZ r)):=fI (λN=>mz N h) (λN=>(SV.dL (zI _ _)))
theorem rq{x0:Zr}{x1:Zr}(N:Nat){r:Zr}(h:gy x0 x1=some r):dR ah 51 N [.agg (eZ x0),.agg (eZ x1)] (.agg ((fZ N) r)):=by
 obtain⟨bT,bN⟩:=x0;obtain⟨dz,dm⟩:=x1;refine bK Try.func51 Y (af Y) (λgz M vs hN hvs=>?_);unfold gy at h;refine sr<|bx Y<|bx Y<|al (cs:=[az false,nw N ax]) (by exact⟨au,bn,aq⟩) Y<|dn<|sr<|ld Y Y (.k2 Y Y) ?_;obtain⟨⟨xp,Cw⟩,kp,h⟩:=bS h;refine cl (eA kp) ⟨Y,aq⟩<|mv Y<|ex Y Y<|ex Y Y<|ag Y<|ag Y<|dn<|sr<|ld Y Y (.k2 Y Y) ?_;obtain⟨⟨za,Cx⟩,mw,h⟩:=bS h;refine cl (eA mw) ⟨Y,aq⟩<|mv Y<|ex Y Y<|ex Y Y<|ag Y<|ag Y<|dn<|qq<|qq ?_;refine bH h (λj3=>AS.cZ 49 [(2,.ptr 2 0),(3,.ptr 3 0),(4,.ptr 4 0),(5,ai xp),(7,ai za),(23,aj j3)] [(4,⟨24,[aj false,.sv (nw N ax)]⟩),(3,⟨24,[aj dz,.sv (slc 1 (List.map aZ dm))]⟩),(2,⟨24,[aj bT,.sv (slc 1 (List.map aZ bN))]⟩)] []) (λh=>?_) (λwh h=>?_);refine aX<|mv Y<|mv Y<|bE h λAK Ft h=>?_;cases Cw;obtain rfl:=O (F Ft);exact ww<|pF Y<|dn<|⟨false,h,wR []⟩;refine gm Y ?_;obtain rfl:=O (V Ft);exact pT Y<|dn<|⟨Cx,h,wR []⟩
 try dsimp only
 refine aV.n ?_;refine bH h (λj5=>AS.cZ 49 [(2,.ptr 2 0),(3,.ptr 3 0),(4,.ptr 4 0)] [(4,⟨24,[aj false,.sv (nw N ax)]⟩),(3,⟨24,[aj dz,.sv (slc 1 (List.map aZ dm))]⟩),(2,⟨24,[aj bT,.sv (slc 1 (List.map aZ bN))]⟩)] []) (λh=>?_) (λj5 h=>?_);cases wh;exact fs<|⟨(),(F h),wR []⟩;refine cT<|sr<|mv Y<|mv Y<|lE (V h) λjH qx h=>sb _ Y Y qx<|ag Y<|dn<|sr<|mv Y<|mv Y<|lE h λiu lY h=>RT.xor .none _ Y Y T lY<|mv Y<|mv Y<|lE h λjJ nj h=>RT.xor .none _ Y Y T nj<|lE h λmY qy h=>RT.and .none _ Y Y T qy<|lE h λkH pZ h=>ge _ Y Y pZ<|dn ?_;cases kH;exact fs<|⟨(),(F h),wR []⟩;refine cT<|sr<|mv Y ?_;obtain⟨⟨oZ,m7⟩,xu,h⟩:=bS (V h);refine RT.bM .none (cL N xu) hN Y ⟨Y,aq⟩ T<|so Y Y Y<|dn<|bg<|aV.r<|aV.r ?_;obtain rfl:=O h;exact RZ (.agg Y Y (.k2 Y Y) Y (.nil))
 try dsimp only
 refine aV.n<|qq<|bf mixed<|fa Y Y<|lV Y Y Y<|fa Y Y<|lV Y Y Y<|bE h λxn EE h=>cl (bV EE) ⟨Y,aq⟩<|fa Y Y<|lV Y Y Y<|lE h λEy GJ h=>nt Y _ GJ<|fa Y Y<|lV Y Y Y<|bE h λAG GF h=>cl (bV GF) ⟨Y,aq⟩ ?_;obtain⟨⟨AL,wj⟩,h48,h⟩:=bS h;refine RT.bM .none (ku N h48) hN Y ⟨Y,Y,Y,Y,aq⟩ T<|so Y Y Y ?_;refine RT.done ⟨by kernel_rfl,?_⟩;refine aV.n<|bg ?_;obtain rfl:=O h;exact RZ (.agg Y Y (.k2 Y Y) Y (.nil))
theorem zg{x0:Zr}{x1:Zr}{r:Zr}(h:gy x0 x1=some r):Pure ah 51 [.agg (eZ x0),.agg (eZ x1)] (.agg (eZ r)):=fI (λN=>rq N h) (λN=>(SV.dL (zI _ _)))
theorem jY{x0:Zr}{x1:Zr}(N:Nat){r:Zr}(h:dc x0 x1=some r):dR ah 67 N [.agg (eZ x0),.agg (eZ x1)] (.agg ((fZ N) r)):=by
 obtain⟨bT,bN⟩:=x0;obtain⟨dz,dm⟩:=x1;refine bK Try.func67 Y (af Y) (λgz M vs hN hvs=>?_);unfold dc at h;refine sr<|bx Y<|bx Y<|al (cs:=[az false,nw N ax]) (by exact⟨au,bn,aq⟩) Y<|dn<|qq<|bf mixed<|fa Y Y<|lV Y Y Y<|bE h λx9 h9 h=>cl (bV h9) ⟨Y,aq⟩<|fa Y Y<|lV Y Y Y<|bE h λgO kp h=>cl (bV kp) ⟨Y,aq⟩<|ag Y<|ag Y ?_;refine RT.done ⟨by kernel_rfl,?_⟩;refine aV.n<|qq<|qq ?_;refine bH h (λj3=>AS.cZ 41 [(2,.ptr 2 0),(3,.ptr 3 0),(4,.ptr 4 0),(5,.sv (slc 1 (List.map aZ x9))),(6,.sv (slc 1 (List.map aZ gO))),(20,aj j3)] [(4,⟨24,[aj false,.sv (nw N ax)]⟩),(3,⟨24,[aj dz,.sv (slc 1 (List.map aZ dm))]⟩),(2,⟨24,[aj bT,.sv (slc 1 (List.map aZ bN))]⟩)] []) (λh=>?_) (λGw h=>?_);refine aX<|mv Y<|lE h λjU o5 h=>ln Y o5<|lE h λmW uK h=>RT.leq .none _ Y Y T uK<|mv Y<|bE h λKK o7 h=>?_;cases mW;obtain rfl:=O (F o7);exact ww<|ww<|ww<|pF Y<|dn<|⟨false,h,wR []⟩;refine gm Y<|lE (V o7) λfJ jW o7=>gn Y jW<|lE o7 λng q9 o7=>RT.leq (.some Y Y) _ Y Y T q9 ?_;obtain rfl:=O o7;exact pT Y<|dn<|⟨ng,h,wR []⟩
 try dsimp only
 refine aV.n ?_;cases Gw;refine fs<|qq<|bf mixed<|fa Y Y<|lV Y Y Y<|fa Y Y<|lV Y Y Y<|lE (F h) λv8 xu h=>RT.II .none _ Y Y T xu<|mv Y<|mv Y<|bE h λmZ CG h=>RT.bM .none (rf N CG) hN Y ⟨Y,Y,aq⟩ T ?_;obtain⟨⟨m8,m9⟩,tQ,h⟩:=bS h;refine RT.bM .none (dN N tQ) hN Y ⟨Y,Y,aq⟩ T<|so Y Y Y ?_;refine RT.done ⟨by kernel_rfl,?_⟩;refine aV.n<|bg ?_;obtain rfl:=O h;exact RZ (.agg Y Y (.k2 Y Y) Y (.nil));refine cT<|qq<|bf mixed<|fa Y Y<|lV Y Y Y<|fa Y Y<|lV Y Y Y<|lE (V h) λB3 CE h=>RT.II .none _ Y Y T CE<|mv Y<|bE h λnh o6 h=>cl (fL o6) ⟨Y,aq⟩<|mv Y<|bE h λiu lY h=>cl (fL lY) ⟨Y,aq⟩<|lE h λow xq h=>RT.mul .none _ Y Y T (UK.mul (a:=nh) (b:=iu) xq) ?_;obtain⟨⟨Dk,xV⟩,xb,h⟩:=bS h;refine RT.bM .none (gA N xb) hN Y ⟨Y,Y,aq⟩ T<|so Y Y Y ?_;refine RT.done ⟨by kernel_rfl,?_⟩;refine aV.n<|bg<|aV.r ?_;obtain rfl:=O h;exact RZ (.agg Y Y (.k2 Y Y) Y (.nil))
theorem ru{x0:Zr}{x1:Zr}{r:Zr}(h:dc x0 x1=some r):Pure ah 67 [.agg (eZ x0),.agg (eZ x1)] (.agg (eZ r)):=fI (λN=>jY N h) (λN=>(SV.dL (zI _ _)))
theorem mA{x0:Zr}(N:Nat){r:Zr}(h:ek x0=some r):dR ah 21 N [.agg (eZ x0)] (.agg ((fZ N) r)):=by
 obtain⟨bT,bN⟩:=x0;refine bK Try.func21 Y (af Y) (λgz M vs hN hvs=>?_);unfold ek at h;refine sr<|bx Y<|al (cs:=[az false,nw N ax]) (by exact⟨au,bn,aq⟩) Y<|dn<|qq<|bf mixed<|fa Y Y<|lV Y Y Y<|lE h λx5 h5 h=>nt Y _ h5<|fa Y Y<|lV Y Y Y<|bE h λx8 h8 h=>cl (bV h8) ⟨Y,aq⟩<|bE h λx9 h9 h=>RT.bM .none (jK N h9) hN Y ⟨Y,aq⟩ T ?_;obtain⟨⟨xW,xX⟩,iN,h⟩:=bS h;refine RT.bM .none (dN N iN) hN Y ⟨Y,Y,aq⟩ T<|so Y Y Y ?_;refine RT.done ⟨by kernel_rfl,?_⟩;refine aV.n<|bg ?_;obtain rfl:=O h;exact RZ (.agg Y Y (.k2 Y Y) Y (.nil))
theorem ry{x0:Zr}{r:Zr}(h:ek x0=some r):Pure ah 21 [.agg (eZ x0)] (.agg (eZ r)):=fI (λN=>mA N h) (λN=>(SV.dL (zI _ _)))
theorem eU{x0:Zr}{r:Int}(h:cA x0=some r):Pure ah 36 [.agg (eZ x0)] (ay r):=by
 obtain⟨bT,bN⟩:=x0;refine bL Try.func36 Y (af Y) (λgz M vs hvs=>?_);unfold cA at h;refine sr<|bx Y<|ag Y<|dn<|qq<|bj<|sr<|fa Y Y<|lV Y Y Y<|bE h λx6 h6 h=>cl (bV h6) ⟨Y,aq⟩<|lE h λx7 h7 h=>ln Y h7<|lE h λx8 h8 h=>eq _ Y Y (qw (p:=x7) (q:=0) h8)<|ag Y<|dn ?_;cases x8;refine cF<|sr<|fa Y Y<|lV Y Y Y<|ag Y<|dn ?_;replace h:=F h;cases bT;refine cF<|bu<|bw.n<|aV.n<|sr<|ag Y<|dn<|bg ?_;obtain rfl:=O (F h);exact R1 Y;refine cT<|sr<|ag Y<|dn<|bg<|bw.r<|aV.r ?_;obtain rfl:=O (V h);exact R1 Y;refine cT<|sr<|ag Y<|dn<|bg<|bw.r<|aV.r ?_;obtain rfl:=O (V h);exact R1 Y
theorem zh{x0:Zr}{x1:Zr}{r:Int}(h:jB x0 x1=some r):Pure ah 39 [.agg (eZ x0),.agg (eZ x1)] (ay r):=by
 obtain⟨bT,bN⟩:=x0;obtain⟨dz,dm⟩:=x1;refine bL Try.func39 Y (af Y) (λgz M vs hvs=>?_);unfold jB at h;refine sr<|bx Y<|bx Y<|ag Y<|dn<|qq<|bf mixed<|ld Y Y (.k2 Y Y)<|bE h λx8 h8 h=>cl (eU h8) ⟨Y,aq⟩<|ld Y Y (.k2 Y Y)<|bE h λfU iN h=>cl (eU iN) ⟨Y,aq⟩<|ag Y<|ag Y ?_;refine RT.done ⟨by kernel_rfl,?_⟩;refine aV.n<|qq<|bj<|sr<|mv Y<|mv Y<|lE h λjU o5 h=>ls _ Y Y o5<|ag Y<|dn ?_;cases jU;refine cF<|sr<|mv Y<|mv Y<|lE (F h) λfJ jW h=>gt _ Y Y jW<|ag Y<|dn ?_;cases fJ;refine cF<|sr<|mv Y<|lE (F h) λja pX h=>ls _ Y Y pX<|ag Y<|dn ?_;cases ja;refine cF<|bu<|bw.n<|aV.n<|qq<|bf mixed<|fa Y Y<|lV Y Y Y<|bE (F h) λmX xb h=>cl (bV xb) ⟨Y,aq⟩<|fa Y Y<|lV Y Y Y<|bE h λkH pZ h=>cl (bV pZ) ⟨Y,aq⟩<|bE h λqT CF h=>cl (eF CF) ⟨Y,Y,aq⟩<|ag Y ?_;refine RT.done ⟨by kernel_rfl,?_⟩;refine aV.n<|bg ?_;obtain rfl:=O h;exact R1 Y;refine cT<|qq<|bf mixed<|fa Y Y<|lV Y Y Y<|bE (V h) λfe nk h=>cl (bV nk) ⟨Y,aq⟩<|fa Y Y<|lV Y Y Y<|bE h λnh o6 h=>cl (bV o6) ⟨Y,aq⟩<|bE h λlX wm h=>cl (eF wm) ⟨Y,Y,aq⟩<|ag Y ?_;refine RT.done ⟨by kernel_rfl,?_⟩;refine aV.n<|bg<|bw.r<|aV.r ?_;obtain rfl:=O h;exact R1 Y;refine cT<|sr<|ag Y<|dn<|bg<|bw.r<|aV.r ?_;obtain rfl:=O (V h);exact R1 Y;refine cT<|sr<|ag Y<|dn<|bg<|bw.r<|aV.r ?_
 obtain rfl:=O (V h);exact R1 Y
theorem jL{x0:Zr}{x1:Zr}(N:Nat){r:Zr×Zr×Int}(h:cm x0 x1=some r):dR ah 34 N [.agg (eZ x0),.agg (eZ x1)] (.uB [.agg ((fZ N) r.1),.agg ((fZ N) r.2.1),ay r.2.2]):=by
 obtain⟨bT,bN⟩:=x0;obtain⟨dz,dm⟩:=x1;refine bK Try.func34 Y (af Y) (λgz M vs hN hvs=>?_);unfold cm at h;refine sr<|bx Y<|bx Y<|al (cs:=[az false,nw N ax]) (by exact⟨au,bn,aq⟩) Y<|al (cs:=[az false,nw N ax]) (by exact⟨au,bn,aq⟩) Y<|ag Y<|dn<|qq<|bf mixed<|fa Y Y<|lV Y Y Y<|bE h λgR kI h=>cl (bV kI) ⟨Y,aq⟩<|fa Y Y ?_;refine lV Y Y Y<|bE h λjI oK h=>cl (bV oK) ⟨Y,aq⟩<|ag Y<|ag Y ?_;refine RT.done ⟨by kernel_rfl,?_⟩;refine aV.n<|qq<|sr<|mv Y<|lE h λfJ jW h=>ln Y jW<|lE h λng q9 h=>eq _ Y Y (qw (p:=fJ) (q:=0) q9)<|dn ?_;cases ng;refine fs<|sr<|mv Y<|mv Y ?_;obtain⟨⟨Gx,QS⟩,CE,h⟩:=bS (F h);refine RT.bM .none (kP N CE) hN Y ⟨Y,Y,aq⟩ T<|mv Y<|ex Y Y<|ex Y Y<|ag Y<|ag Y<|dn<|sr<|mv Y<|bE h λiu lY h=>RT.bM .none (k7 N lY) hN Y ⟨Y,aq⟩ T<|ag Y<|dn<|qq<|qq ?_;refine bH h (λj3=>AS.cZ 52 [(2,.ptr 2 0),(3,.ptr 3 0),(4,.ptr 4 0),(5,.ptr 5 0),(8,.sv (slc 1 (List.map aZ jI))),(9,.sv (nw N (slc 1 (List.map aZ Gx)))),(10,.sv (nw N (slc 1 (List.map aZ iu)))),(36,aj j3.1)] [(5,⟨24,[aj false,.sv (nw N ax)]⟩),(4,⟨24,[aj false,.sv (nw N ax)]⟩),(3,⟨24,[aj dz,.sv (slc 1 (List.map aZ dm))]⟩),(2,⟨24,[aj j3.2,.sv (slc 1 (List.map aZ bN))]⟩)] []) (λh=>?_) (λj3 h=>?_)
 refine aX<|fa Y Y<|lV Y Y Y<|mv Y<|bE h λKM Ft h=>?_;cases bT;obtain rfl:=O (F Ft);exact ww<|ww<|ww<|pF Y<|dn<|⟨(false,false),h,wR []⟩;refine gm Y<|lE (V Ft) λkH pZ Ft=>RT.AF (.some Y Y) Y T pZ<|lE Ft λqT CF Ft=>gg _ Y Y CF ?_;obtain rfl:=O Ft;exact pT Y<|dn<|⟨(qT,true),h,wR []⟩;obtain⟨Gy,Cy⟩:=j3
 try dsimp only
 refine aV.n ?_;refine bH h (λj5=>AS.cZ 52 [(2,.ptr 2 0),(3,.ptr 3 0),(4,.ptr 4 0),(5,.ptr 5 0),(9,.sv (nw N (slc 1 (List.map aZ j5.1)))),(10,.sv (nw N (slc 1 (List.map aZ j5.2))))] [(5,⟨24,[aj false,.sv (nw N ax)]⟩),(4,⟨24,[aj false,.sv (nw N ax)]⟩),(3,⟨24,[aj dz,.sv (slc 1 (List.map aZ dm))]⟩),(2,⟨24,[aj Cy,.sv (slc 1 (List.map aZ bN))]⟩)] []) (λh=>?_) (λj5 h=>?_);cases Gy;exact fs<|⟨(Gx,iu),(F h),wR []⟩;exact cT<|sr<|mv Y<|RT.qQ (l:=[1]) (e:=aZ) .none hN (.one Y (.nil)) T Y Y Y Y Y Y<|bE (V h) λmZ CG h=>RT.bM .none ((kO N CG).w (args':=[_,_]) ⟨eH,eH,aq⟩) hN Y ⟨Y,Y,aq⟩ T<|ag Y<|dn<|aX<|mv Y<|mv Y<|bE h λr5 AP h=>RT.bM .none ((iS N AP).w (args':=[_,_]) ⟨au,eH,aq⟩) hN Y ⟨Y,Y,aq⟩ T<|ag Y<|dn<|⟨(mZ,r5),h,wR []⟩;obtain⟨QT,KL⟩:=j5
 try dsimp only
 refine aV.n<|sr<|fa Y Y<|lV Y Y Y<|fa Y Y<|lV Y Y Y<|lE h λAG GF h=>RT.II .none _ Y Y T GF<|mv Y ?_;obtain⟨⟨Dl,Dm⟩,Q0,h⟩:=bS h;refine RT.bM .none (dN N Q0) hN Y ⟨Y,Y,aq⟩ T<|mv Y ?_;obtain⟨⟨AM,AN⟩,Jk,h⟩:=bS h;refine RT.bM .none (dN N Jk) hN Y ⟨Y,Y,aq⟩ T<|so Y Y Y<|so Y Y Y<|ag Y<|dn<|bg ?_;obtain rfl:=O h;exact RZ (.agg Y Y (.k2 Y Y) Y (.agg Y Y (.k2 Y Y) Y (.tmp Y (.nil))));refine cT<|sr<|bI (cs:=[_,_]) (cs':=[az false,nw N ax]) (.nil) ⟨au,bn,aq⟩<|bI (cs:=[_,_]) (cs':=[az false,nw N ax]) (.nil) ⟨au,bn,aq⟩<|so Y Y Y<|so Y Y Y<|ag Y<|dn<|bg<|aV.r ?_;obtain rfl:=O (V h);exact RZ (.agg Y Y (.k2 Y Y) Y (.agg Y Y (.k2 Y Y) Y (.tmp Y (.nil))))
theorem nc{x0:Zr}{x1:Zr}{r:Zr×Zr×Int}(h:cm x0 x1=some r):Pure ah 34 [.agg (eZ x0),.agg (eZ x1)] (.uB [.agg (eZ r.1),.agg (eZ r.2.1),ay r.2.2]):=fI (λN=>jL N h) (λN=>(SV.C8 ⟨(SV.dL (zI _ _)),(SV.dL (zI _ _)),au,aq⟩))
theorem zj{x0:Zr}{x1:Zr}(N:Nat){r:Zr}(h:iG x0 x1=some r):dR ah 94 N [.agg (eZ x0),.agg (eZ x1)] (.agg ((fZ N) r)):=by
 obtain⟨bT,bN⟩:=x0;obtain⟨dz,dm⟩:=x1;refine bK Try.func94 Y (af Y) (λgz M vs hN hvs=>?_);unfold iG at h;refine sr<|bx Y<|bx Y<|al (cs:=[az false,nw N ax]) (by exact⟨au,bn,aq⟩) Y<|dn<|qq<|bf mixed<|fa Y Y<|lV Y Y Y<|bE h λgR kI h=>cl (bV kI) ⟨Y,aq⟩<|fa Y Y<|lV Y Y Y<|bE h λjI oK h=>cl (bV oK) ⟨Y,aq⟩<|ag Y<|ag Y ?_;refine RT.done ⟨by kernel_rfl,?_⟩;refine aV.n<|qq<|bE h λEz GG kq=>?_;refine bW (λ(nN:(List Nat)×(List Nat))=>AS.cZ 57 [(4,.ptr 4 0),(5,.sv (slc 1 (List.map aZ nN.1))),(6,.sv (slc 1 (List.map aZ nN.2)))] [(4,⟨24,[aj false,.sv (nw N ax)]⟩)] []) (λnN=>nN=Ez) ?_ (λnN GH=>?_);refine bj ?_;refine bX GG (λvi=>AS.cZ 57 [(4,.ptr 4 0),(5,.sv (slc 1 (List.map aZ vi.1))),(6,.sv (slc 1 (List.map aZ vi.2)))] [(4,⟨24,[aj false,.sv (nw N ax)]⟩)] []) (wR []) (λvi y12 G12 h GI EH=>?_);obtain⟨uJ,zb⟩:=vi
 try dsimp only
 refine qq<|qq ?_;refine bH h (λj16=>AS.cZ 57 [(4,.ptr 4 0),(5,.sv (slc 1 (List.map aZ uJ))),(6,.sv (slc 1 (List.map aZ zb))),(29,aj j16)] [(4,⟨24,[aj false,.sv (nw N ax)]⟩)] []) (λh=>?_) (λCz h=>?_);refine aX<|mv Y<|lE h λfJ jW h=>ln Y jW<|lE h λng q9 h=>gt _ Y Y q9<|mv Y<|bE h λGA zk h=>?_;cases ng;obtain rfl:=O (F zk);exact ww<|ww<|ww<|ww<|wu<|wu<|wu<|ww<|pF Y<|dn<|⟨false,h,wR []⟩;refine gm Y<|lE (V zk) λjT pW zk=>gn Y pW<|lE zk λjx oJ zk=>gg _ Y Y oJ<|gm Y<|bE zk λGz qc zk=>?_;cases jx;refine gm Y<|lE (F qc) λjH qx qc=>gn Y qx<|lE qc λnh o6 qc=>gg _ Y Y o6 ?_;obtain rfl:=O qc;refine gF Y ?_;obtain rfl:=O zk;exact pT Y<|dn<|⟨nh,h,wR []⟩;obtain rfl:=O (V qc);refine ww<|ww<|ww<|gT Y ?_;obtain rfl:=O zk;exact pT Y<|dn<|⟨true,h,wR []⟩
 try dsimp only
 refine aV.n ?_;cases Cz;refine cF<|b7<|aV.x<|aV.x<|bw.x<|aV.n ?_;obtain rfl:=O (F h);exact⟨(uJ,zb),EH _ Y,wR []⟩;refine cT<|bu<|aV.n<|bj<|sr<|mv Y<|mv Y ?_;obtain⟨⟨Y5,QU⟩,qy,h⟩:=bS (V h);refine RT.bM .none (kP N qy) hN Y ⟨Y,Y,aq⟩ T<|mv Y<|ex Y Y<|ex Y Y<|ag Y<|ag Y<|dn<|aX<|mv Y<|mv Y<|bE h λvc EC h=>RT.bM .none (k7 N EC) hN Y ⟨Y,aq⟩ T<|ag Y<|ag Y<|RT.done<|bw.n ?_;obtain rfl:=O h;exact aV.n ⟨(zb,vc),GI _ Y,eG id Y Y Y Y Y ⟨.ptr,.sv au,.sv eH,aq⟩ ⟨⟨_,Y,⟨.sv au,.sv au,aq⟩⟩,aq⟩ trivial (λ_ _=>Y)⟩;subst GH;obtain⟨GB,GC⟩:=nN
 try dsimp only
 refine aV.n<|qq<|sr<|mv Y<|lE kq λou tQ kq=>ln Y tQ<|lE kq λxn EE kq=>eq _ Y Y (qw (p:=ou) (q:=0) EE)<|dn ?_;cases xn;refine fs<|sr<|mv Y<|bE (F kq) λv7 h46 kq=>cl (fL h46) ⟨Y,aq⟩<|mv Y<|bE kq λAe h48 kq=>cl (fL h48) ⟨Y,aq⟩<|ag Y<|ag Y<|dn<|qq<|bE kq λNI GL kx=>?_;refine bW (λ(xY:Nat)=>AS.cZ 57 [(4,.ptr 4 0),(9,.sv (.v (.int .u64 ((xY:Nat):Int))))] [(4,⟨24,[aj false,.sv (nw N ax)]⟩)] []) (λxY=>xY=NI) ?_ (λxY GM=>?_);refine bj ?_;refine bX GL (λCA=>AS.cZ 57 [(4,.ptr 4 0),(9,.sv (.v (.int .u64 ((CA.1:Nat):Int)))),(10,.sv (.v (.int .u64 ((CA.2:Nat):Int))))] [(4,⟨24,[aj false,.sv (nw N ax)]⟩)] []) (wR []) (λCA y24 G24 h GN EK=>?_);obtain⟨Dq,sG⟩:=CA
 try dsimp only
 refine qq<|sr<|mv Y<|lE h λvf EF h=>gt _ Y Y (Pq (p:=0) (q:=sG) EF)<|dn ?_;cases vf;refine cF<|b7<|aV.x<|aV.x<|bw.x<|aV.n ?_;obtain rfl:=O (F h);exact⟨Dq,EK _ Y,wR []⟩;refine cT<|bu<|aV.n<|bj<|bf mixed<|mv Y<|mv Y<|mv Y<|bE (V h) λNv V8 h=>RT.rem .none _ Y Y T (V3 V8) (I2 V8)<|ag Y<|ag Y ?_;refine RT.done ⟨by kernel_rfl,?_⟩;refine bw.n ?_;obtain rfl:=O h;exact aV.n ⟨(sG,Nv),GN _ Y,wR []⟩;subst GM
 try dsimp only
 refine aV.n<|sr<|mv Y ?_;obtain⟨⟨KN,KO⟩,NB,kx⟩:=bS kx;refine RT.bM .none (gA N NB) hN Y ⟨Y,Y,aq⟩ T<|so Y Y Y<|dn<|bg ?_;obtain rfl:=O kx;exact RZ (.agg Y Y (.k2 Y Y) Y (.nil));refine cT<|sr<|mv Y<|bE (V kq) λAd Fs kq=>RT.bM .none (jK N Fs) hN Y ⟨Y,aq⟩ T ?_;obtain⟨⟨Dn,Dp⟩,GJ,kq⟩:=bS kq;refine RT.bM .none (dN N GJ) hN Y ⟨Y,Y,aq⟩ T<|so Y Y Y<|dn<|bg<|aV.r ?_;obtain rfl:=O kq;exact RZ (.agg Y Y (.k2 Y Y) Y (.nil))
end
section
open Go.Fw
noncomputable def oM(x0:Zr)(x1:Zr)(x2:Zr)(x3:Zr):Option (Zr×Zr):=match x0 with|⟨bT,bN⟩=>match x1 with|⟨dz,dm⟩=>match x2 with|⟨zm,zo⟩=>match x3 with|⟨EM,EN⟩=>(dc ⟨bT,bN⟩ ⟨EM,EN⟩).bind λ⟨lF,lG⟩=>(dc ⟨zm,zo⟩ ⟨dz,dm⟩).bind λ⟨kQ,kR⟩=>(da ⟨lF,lG⟩ ⟨kQ,kR⟩).bind λ⟨oX,oY⟩=>(dc ⟨dz,dm⟩ ⟨EM,EN⟩).bind λ⟨nP,rz⟩=>some (⟨oX,oY⟩,⟨nP,rz⟩)
noncomputable def ff(x0:Zr)(x1:Zr)(x2:Zr)(x3:Zr):Option (Zr×Zr):=match x0 with|⟨bT,bN⟩=>match x1 with|⟨dz,dm⟩=>match x2 with|⟨zm,zo⟩=>match x3 with|⟨EM,EN⟩=>(dc ⟨bT,bN⟩ ⟨EM,EN⟩).bind λ⟨lF,lG⟩=>(dc ⟨zm,zo⟩ ⟨dz,dm⟩).bind λ⟨kQ,kR⟩=>(gy ⟨lF,lG⟩ ⟨kQ,kR⟩).bind λ⟨oX,oY⟩=>(dc ⟨dz,dm⟩ ⟨EM,EN⟩).bind λ⟨nP,rz⟩=>some (⟨oX,oY⟩,⟨nP,rz⟩)
noncomputable def cC(x0:Qr):Option (Zr×Zr):=match x0 with|⟨⟨bT,bN⟩,⟨gZ,iJ⟩⟩=>(cA ⟨gZ,iJ⟩).bind λx6=>(some (decide ((x6:Int)=0))).bind λx8=>(bif x8 then(bp 1).bind λ⟨lH,AW⟩=>some (⟨bT,bN⟩,⟨lH,AW⟩)else(some (decide ((x6:Int)=(-1)))).bind λgR=>(bif gR then(ek ⟨bT,bN⟩).bind λ⟨oX,oY⟩=>(ek ⟨gZ,iJ⟩).bind λ⟨nP,rz⟩=>some (⟨oX,oY⟩,⟨nP,rz⟩)else some (⟨bT,bN⟩,⟨gZ,iJ⟩)))
noncomputable def eo(x0:Zr)(x1:Zr):Option (Qr):=match x0 with|⟨bT,bN⟩=>match x1 with|⟨dz,dm⟩=>(cA ⟨dz,dm⟩).bind λx9=>(some (decide ((x9:Int)<0))).bind λfU=>di (λ(j2:Bool×(List Nat)×Bool×(List Nat))=>match j2 with|⟨CH,CI,CJ,CK⟩=>(iG ⟨CJ,CK⟩ ⟨CH,CI⟩).bind λ⟨kS,kT⟩=>(cm ⟨CJ,CK⟩ ⟨kS,kT⟩).bind λ⟨⟨wo,wv⟩,⟨NJ,NK⟩,aag⟩=>(cm ⟨CH,CI⟩ ⟨kS,kT⟩).bind λ⟨⟨sL,sM⟩,⟨NL,NM⟩,aah⟩=>(cP ⟨sL,sM⟩).bind λ⟨NN,NO⟩=>di (λ(GO:Bool)=>di (λ(j7:Bool×(List Nat))=>match j7 with|⟨CL,CM⟩=>some ⟨⟨wo,wv⟩,⟨CL,CM⟩⟩) λK7=>(bif GO then K7 (false,[])else K7 (sL,sM))) λK5=>(bif NO then(some (decide ((NN:Int)=1))).bind λou=>some ou else some false).bind λKQ=>K5 KQ) λK2=>(bif fU then(ek ⟨bT,bN⟩).bind λ⟨lF,lG⟩=>(ek ⟨dz,dm⟩).bind λ⟨tR,tW⟩=>K2 (tR,tW,lF,lG)else K2 (dz,dm,bT,bN))
noncomputable def eL(x0:Qr):Option (Int×Int×Bool):=match x0 with|⟨⟨bT,bN⟩,⟨gZ,iJ⟩⟩=>(cP ⟨bT,bN⟩).bind λ⟨zq,Jl⟩=>(cP ⟨gZ,iJ⟩).bind λ⟨xw,Rc⟩=>di (λ(CN:Bool)=>(bif CN then some (0,0,false)else(some (decide ((xw:Int)=0))).bind λAd=>di (λ(Py:Int×Int)=>match Py with|⟨KR,KS⟩=>some (KR,KS,true)) λK24=>(bif Ad then K24 (zq,1)else(some (decide ((xw:Int)<0))).bind λv7=>di (λ(Pz:Int×Int)=>match Pz with|⟨GP,GQ⟩=>K24 (GP,GQ)) λK26=>(bif v7 then(some (IntKind.i64.wrap (0-zq))).bind λAe=>(some (IntKind.i64.wrap (0-xw))).bind λvf=>K26 (Ae,vf)else K26 (zq,xw))))) λK21=>(some (!Jl)).bind λiz=>(bif iz then some true else(some (!Rc)).bind λjx=>some jx).bind λGR=>(bif GR then some true else(some (decide ((zq:Int)<=(-2147483648)))).bind λnh=>some nh).bind λNP=>(bif NP then some true else(some (decide ((2147483648:Int)<=zq))).bind λmX=>some mX).bind λNQ=>(bif NQ then some true else(some (decide ((xw:Int)<=(-2147483648)))).bind λqT=>some qT).bind λNR=>(bif NR then some true else(some (decide ((2147483648:Int)<=xw))).bind λmZ=>some mZ).bind λNS=>K21 NS
noncomputable def gI(x0:Int)(x1:Int):Option (Qr):=(cH (λ(s6:Int×Int)=>match s6 with|⟨uH,EO⟩=>(show Option ((Int×Int)⊕(Int))from(some (decide ((EO:Int)≠0))).bind λfU=>(bif fU then(Es uH EO).bind λjU=>some (.inl (EO,jU))else some (.inr uH)))) (x0,x1)).bind λzu=>(some (decide ((zu:Int)<0))).bind λjI=>di (λ(EP:Int)=>(some (decide ((EP:Int)=x1))).bind λja=>(bif ja then(qO x0 EP).bind λfe=>(bp fe).bind λ⟨xR,xS⟩=>some ⟨⟨xR,xS⟩,⟨false,[]⟩⟩else(qO x0 EP).bind λiu=>(bp iu).bind λ⟨xT,xU⟩=>(qO x1 EP).bind λmY=>(bp mY).bind λ⟨xZ,tX⟩=>some ⟨⟨xT,xU⟩,⟨xZ,tX⟩⟩)) λK8=>(bif jI then(some (IntKind.i64.wrap (0-zu))).bind λfJ=>K8 fJ else K8 zu)
noncomputable def kU(x0:Int):Option (Int):=(some (decide ((x0:Int)<0))).bind λx5=>(bif x5 then some (-1)else(some (decide ((0:Int)<x0))).bind λx8=>(bif x8 then some 1 else some 0))
noncomputable def jy(x0:Zr):Option (Zr):=match x0 with|⟨bT,bN⟩=>(da ⟨bT,bN⟩ ⟨false,[]⟩).bind λ⟨Jm,Jn⟩=>some ⟨Jm,Jn⟩
noncomputable def GS(x1:Qr)(x2:Qr):Option (Qr):=match x1 with|⟨⟨dz,dm⟩,⟨uL,uM⟩⟩=>match x2 with|⟨⟨zm,zo⟩,⟨Jo,Jp⟩⟩=>(cC ⟨⟨dz,dm⟩,⟨uL,uM⟩⟩).bind λ⟨⟨mB,mD⟩,⟨nQ,nR⟩⟩=>(cC ⟨⟨zm,zo⟩,⟨Jo,Jp⟩⟩).bind λ⟨⟨mE,mF⟩,⟨nS,nT⟩⟩=>(oM ⟨mB,mD⟩ ⟨nQ,nR⟩ ⟨mE,mF⟩ ⟨nS,nT⟩).bind λ⟨⟨wz,wA⟩,⟨wB,wC⟩⟩=>(eo ⟨wz,wA⟩ ⟨wB,wC⟩).bind λ⟨⟨ko,jA⟩,⟨rA,rB⟩⟩=>some ⟨⟨ko,jA⟩,⟨rA,rB⟩⟩
noncomputable def gB(x1:Qr)(x2:Qr):Option (Qr):=match x1 with|⟨⟨dz,dm⟩,⟨uL,uM⟩⟩=>match x2 with|⟨⟨zm,zo⟩,⟨Jo,Jp⟩⟩=>(cC ⟨⟨dz,dm⟩,⟨uL,uM⟩⟩).bind λ⟨⟨mB,mD⟩,⟨nQ,nR⟩⟩=>(cC ⟨⟨zm,zo⟩,⟨Jo,Jp⟩⟩).bind λ⟨⟨mE,mF⟩,⟨nS,nT⟩⟩=>(ff ⟨mB,mD⟩ ⟨nQ,nR⟩ ⟨mE,mF⟩ ⟨nS,nT⟩).bind λ⟨⟨wz,wA⟩,⟨wB,wC⟩⟩=>(eo ⟨wz,wA⟩ ⟨wB,wC⟩).bind λ⟨⟨ko,jA⟩,⟨rA,rB⟩⟩=>some ⟨⟨ko,jA⟩,⟨rA,rB⟩⟩
noncomputable def iA(x0:Int)(x1:Int):Option (Qr×Int):=(some (decide ((x1:Int)=0))).bind λx7=>(bif x7 then some (⟨⟨false,[]⟩,⟨false,[]⟩⟩,7)else(bp x0).bind λ⟨xW,xX⟩=>(bp x1).bind λ⟨lF,lG⟩=>(eo ⟨xW,xX⟩ ⟨lF,lG⟩).bind λ⟨⟨nK,tO⟩,⟨KT,KU⟩⟩=>some (⟨⟨nK,tO⟩,⟨KT,KU⟩⟩,0))
noncomputable def c7(x0:Zr):Option (Qr):=match x0 with|⟨bT,bN⟩=>(jy ⟨bT,bN⟩).bind λ⟨ER,ES⟩=>some ⟨⟨ER,ES⟩,⟨false,[]⟩⟩
noncomputable def jl(x0:Qr):Option (Qr):=match x0 with|⟨⟨bT,bN⟩,⟨gZ,iJ⟩⟩=>(eL ⟨⟨bT,bN⟩,⟨gZ,iJ⟩⟩).bind λ⟨x8a,x8b,x8c⟩=>(bif x8c then(gI x8a x8b).bind λ⟨⟨kQ,kR⟩,⟨Rd,Re⟩⟩=>some ⟨⟨kQ,kR⟩,⟨Rd,Re⟩⟩else(cC ⟨⟨bT,bN⟩,⟨gZ,iJ⟩⟩).bind λ⟨⟨NT,NU⟩,⟨NV,NW⟩⟩=>(eo ⟨NT,NU⟩ ⟨NV,NW⟩).bind λ⟨⟨ya,tY⟩,⟨yc,wD⟩⟩=>some ⟨⟨ya,tY⟩,⟨yc,wD⟩⟩)
noncomputable def jm(x0:Qr)(x1:Qr):Option (Qr):=match x0 with|⟨⟨bT,bN⟩,⟨gZ,iJ⟩⟩=>match x1 with|⟨⟨dz,dm⟩,⟨uL,uM⟩⟩=>(eL ⟨⟨bT,bN⟩,⟨gZ,iJ⟩⟩).bind λ⟨NX,Jq,NY⟩=>(eL ⟨⟨dz,dm⟩,⟨uL,uM⟩⟩).bind λ⟨NZ,Jr,N0⟩=>di (λ(GU:Bool)=>(bif GU then(some (IntKind.i64.wrap (NX*Jr))).bind λiu=>(some (IntKind.i64.wrap (NZ*Jq))).bind λjJ=>(some (IntKind.i64.wrap (iu-jJ))).bind λmY=>(some (IntKind.i64.wrap (Jq*Jr))).bind λv8=>(gI mY v8).bind λ⟨⟨o8,o9⟩,⟨AX,Dr⟩⟩=>some ⟨⟨o8,o9⟩,⟨AX,Dr⟩⟩else(gB ⟨⟨bT,bN⟩,⟨gZ,iJ⟩⟩ ⟨⟨dz,dm⟩,⟨uL,uM⟩⟩).bind λ⟨⟨m8,m9⟩,⟨AY,AZ⟩⟩=>some ⟨⟨m8,m9⟩,⟨AY,AZ⟩⟩)) λK3=>(bif NY then some N0 else some false).bind λKV=>K3 KV
noncomputable def wE(x0:Qr):Option (Qr):=match x0 with|⟨⟨bT,bN⟩,⟨gZ,iJ⟩⟩=>(jl ⟨⟨bT,bN⟩,⟨gZ,iJ⟩⟩).bind λ⟨⟨Jm,Jn⟩,⟨aai,aaj⟩⟩=>(ek ⟨Jm,Jn⟩).bind λ⟨aak,aal⟩=>some ⟨⟨aak,aal⟩,⟨aai,aaj⟩⟩
noncomputable def jn(x0:Qr)(x1:Qr):Option (Int):=match x0 with|⟨⟨bT,bN⟩,⟨gZ,iJ⟩⟩=>match x1 with|⟨⟨dz,dm⟩,⟨uL,uM⟩⟩=>(cC ⟨⟨bT,bN⟩,⟨gZ,iJ⟩⟩).bind λ⟨⟨mB,mD⟩,⟨nQ,nR⟩⟩=>(cC ⟨⟨dz,dm⟩,⟨uL,uM⟩⟩).bind λ⟨⟨mE,mF⟩,⟨nS,nT⟩⟩=>(cA ⟨mB,mD⟩).bind λjT=>(cA ⟨mE,mF⟩).bind λfe=>di (λ(GV:Bool)=>(bif GV then(some (IntKind.i64.wrap (jT-fe))).bind λkH=>(kU kH).bind λqT=>some qT else(dc ⟨mB,mD⟩ ⟨nS,nT⟩).bind λ⟨KW,KX⟩=>(dc ⟨mE,mF⟩ ⟨nQ,nR⟩).bind λ⟨A0,A3⟩=>(jB ⟨KW,KX⟩ ⟨A0,A3⟩).bind λr5=>some r5)) λK3=>(some (decide ((jT:Int)≠fe))).bind λnh=>(bif nh then some true else(some (decide ((jT:Int)=0))).bind λow=>some ow).bind λKY=>K3 KY
noncomputable def iT(x0:Qr):Option (Zr):=match x0 with|⟨⟨bT,bN⟩,⟨gZ,iJ⟩⟩=>(cC ⟨⟨bT,bN⟩,⟨gZ,iJ⟩⟩).bind λ⟨⟨KZ,K0⟩,⟨K1,K9⟩⟩=>(cm ⟨KZ,K0⟩ ⟨K1,K9⟩).bind λ⟨⟨wF,wG⟩,⟨N3,N4⟩,aam⟩=>some ⟨wF,wG⟩
end
section
open Go.Fw Go.Fw.Z Go.RowKit
abbrev GW:List (Value×Value):=[(.int .u8 43,.agg #[.func (.func 105) #[] #[]]),(.int .u8 45,.agg #[.func (.func 106) #[] #[]]),(.int .u8 42,.agg #[.func (.func 107) #[] #[]]),(.int .u8 47,.agg #[.func (.func 108) #[] #[]])]
theorem qe:Pure ah 88 [] (Gh GW):=by
 refine bL Try.func88 Y (af Y) (λgz M vs hvs=>?_);refine bR<|aX<|RT.yO .none Y T<|RT.done<|aV.n<|bR<|I8 (af Y) Y Y Y (λS' h0=>?_);exact bg (R1 h0)
theorem nU{x0:Zr}{x1:Zr}{x2:Zr}{x3:Zr}(N:Nat){r:Zr×Zr}(h:ff x0 x1 x2 x3=some r):dR ah 106 N [.agg (eZ x0),.agg (eZ x1),.agg (eZ x2),.agg (eZ x3)] (.uB [.agg ((fZ N) r.1),.agg ((fZ N) r.2)]):=by
 obtain⟨bT,bN⟩:=x0;obtain⟨dz,dm⟩:=x1;obtain⟨zm,zo⟩:=x2;obtain⟨EM,EN⟩:=x3;refine bK Try.func106 Y (af Y) (λgz M vs hN hvs=>?_);unfold ff at h;refine sr<|bx Y<|bx Y<|bx Y<|bx Y<|al (cs:=[az false,nw N ax]) (by exact⟨au,bn,aq⟩) Y<|al (cs:=[az false,nw N ax]) (by exact⟨au,bn,aq⟩) Y<|dn<|qq<|bf mixed<|ld Y Y (.k2 Y Y)<|ld Y Y (.k2 Y Y) ?_;obtain⟨⟨lF,lG⟩,kp,h⟩:=bS h;refine RT.bM .none (jY N kp) hN Y ⟨Y,Y,aq⟩ T<|ld Y Y (.k2 Y Y)<|ld Y Y (.k2 Y Y) ?_;obtain⟨⟨kQ,kR⟩,uK,h⟩:=bS h;refine RT.bM .none (jY N uK) hN Y ⟨Y,Y,aq⟩ T ?_;obtain⟨⟨oX,oY⟩,oK,h⟩:=bS h;refine RT.bM .none ((rq N oK).w (args':=[_,_]) ⟨(SV.dL (show cJ [az lF,nw N (slc 1 (List.map aZ lG))] _ from⟨au,eH,aq⟩)),(SV.dL (show cJ [az kQ,nw N (slc 1 (List.map aZ kR))] _ from⟨au,eH,aq⟩)),aq⟩) hN Y ⟨Y,Y,aq⟩ T<|ld Y Y (.k2 Y Y)<|ld Y Y (.k2 Y Y) ?_;obtain⟨⟨nP,rz⟩,q9,h⟩:=bS h;refine RT.bM .none (jY N q9) hN Y ⟨Y,Y,aq⟩ T<|so Y Y Y<|so Y Y Y ?_;refine RT.done ⟨by kernel_rfl,?_⟩;refine aV.n<|bg ?_;obtain rfl:=O h;exact RZ (.agg Y Y (.k2 Y Y) Y (.agg Y Y (.k2 Y Y) Y (.nil)))
theorem g9{x0:Qr}{r:Zr×Zr}(h:cC x0=some r):Pure ah 65 [.agg (eQ x0)] (.uB [.agg (eZ r.1),.agg (eZ r.2)]):=by
 obtain⟨⟨bT,bN⟩,⟨gZ,iJ⟩⟩:=x0;refine bL Try.func65 Y (af Y) (λgz M vs hvs=>?_);unfold cC at h;refine sr<|bx Y<|al (cs:=[az false,ax]) (by exact⟨au,aB,aq⟩) Y<|al (cs:=[az false,ax]) (by exact⟨au,aB,aq⟩) Y<|dn<|qq<|sr<|fa Y Y<|ld Y Y (.k2 Y Y)<|bE h λx6 h6 h=>cl (eU h6) ⟨Y,aq⟩<|dn<|bj<|sr<|lE h λx8 h8 h=>eq _ Y Y (qw (p:=x6) (q:=0) h8) ?_;refine ag Y<|dn ?_;cases x8;refine cF<|sr<|lE (F h) λgR kI h=>eq _ Y Y (qw (p:=x6) (q:=(-1)) kI)<|ag Y<|dn ?_;cases gR;refine cF<|bu<|bw.n<|aV.n<|qq<|bf mixed<|fa Y Y<|ld Y Y (.k2 Y Y)<|fa Y Y<|ld Y Y (.k2 Y Y)<|so Y Y Y<|so Y Y Y ?_;refine RT.done ⟨by kernel_rfl,?_⟩;refine aV.n<|bg ?_;obtain rfl:=O (F h);exact RZ (.agg Y Y (.k2 Y Y) Y (.agg Y Y (.k2 Y Y) Y (.nil)));refine cT<|qq<|bf mixed<|fa Y Y<|ld Y Y (.k2 Y Y) ?_;obtain⟨⟨oX,oY⟩,oK,h⟩:=bS (V h);refine cl (ry oK) ⟨Y,aq⟩<|fa Y Y<|ld Y Y (.k2 Y Y) ?_;obtain⟨⟨nP,rz⟩,q9,h⟩:=bS h;refine cl (ry q9) ⟨Y,aq⟩<|so Y Y Y<|so Y Y Y ?_;refine RT.done ⟨by kernel_rfl,?_⟩;refine aV.n<|bg<|bw.r<|aV.r ?_;obtain rfl:=O h;exact RZ (.agg Y Y (.k2 Y Y) Y (.agg Y Y (.k2 Y Y) Y (.nil)));refine cT<|qq<|bf mixed<|fa Y Y<|ld Y Y (.k2 Y Y) ?_;obtain⟨⟨lH,AW⟩,pV,h⟩:=bS (V h);refine cl (fM pV) ⟨Y,aq⟩<|so Y Y Y<|so Y Y Y ?_
 refine RT.done ⟨by kernel_rfl,?_⟩;refine aV.n<|bg<|bw.r<|aV.r ?_;obtain rfl:=O h;exact RZ (.agg Y Y (.k2 Y Y) Y (.agg Y Y (.k2 Y Y) Y (.nil)))
theorem nV{x0:Zr}{x1:Zr}(N:Nat){r:Qr}(h:eo x0 x1=some r):dR ah 73 N [.agg (eZ x0),.agg (eZ x1)] (.agg ((fQ N) r)):=by
 obtain⟨bT,bN⟩:=x0;obtain⟨dz,dm⟩:=x1;refine bK Try.func73 Y (af Y) (λgz M vs hN hvs=>?_);unfold eo at h;refine sr<|bx Y<|bx Y<|al (cs:=[az false,nw N ax,az false,nw N ax]) (by exact⟨au,bn,au,bn,aq⟩) Y<|dn<|qq<|sr<|ld Y Y (.k2 Y Y)<|bE h λx9 h9 h=>cl (eU h9) ⟨Y,aq⟩<|lE h λfU iN h=>ls _ Y Y iN<|dn ?_;refine bH h (λj2=>AS.cZ 46 [(2,.ptr 2 0),(3,.ptr 3 0),(4,.ptr 4 0)] [(4,⟨26,[aj false,.sv (nw N ax),aj false,.sv (nw N ax)]⟩),(3,⟨24,[aj j2.1,.sv (slc 1 (List.map aZ j2.2.1))]⟩),(2,⟨24,[aj j2.2.2.1,.sv (slc 1 (List.map aZ j2.2.2.2))]⟩)] []) (λh=>?_) (λj2 h=>?_);cases fU;exact fs<|⟨(dz,dm,bT,bN),(F h),wR []⟩;refine cT<|bf mixed<|ld Y Y (.k2 Y Y) ?_;obtain⟨⟨lF,lG⟩,kp,h⟩:=bS (V h);refine RT.bM .none (mA N kp) hN Y ⟨Y,aq⟩ T<|ld Y Y (.k2 Y Y) ?_;obtain⟨⟨tR,tW⟩,o5,h⟩:=bS h;refine RT.bM .none (mA N o5) hN Y ⟨Y,aq⟩ T<|so Y Y Y<|so Y Y Y ?_;refine RT.done ⟨by kernel_rfl,?_⟩;exact aV.n<|⟨(tR,tW,lF,lG),h,eG id Y Y Y Y Y ⟨.ptr,.ptr,.ptr,aq⟩ ⟨⟨_,Y,⟨.sv au,.sv au,.sv au,.sv au,aq⟩⟩,⟨_,Y,⟨.sv au,.sv eH,aq⟩⟩,⟨_,Y,⟨.sv au,.sv eH,aq⟩⟩,aq⟩ trivial (λ_ _=>Y)⟩;obtain⟨CH,CI,CJ,CK⟩:=j2
 try dsimp only
 refine aV.n<|sr<|ld Y Y (.k2 Y Y)<|ld Y Y (.k2 Y Y) ?_;obtain⟨⟨kS,kT⟩,mw,h⟩:=bS h;refine RT.bM .none (zj N mw) hN Y ⟨Y,Y,aq⟩ T<|al (cs:=[az false,nw N ax]) (by exact⟨au,bn,aq⟩) Y<|so Y Y Y<|dn<|sr<|ld Y Y (.k2 Y Y)<|ld Y Y (.k2 Y Y) ?_;obtain⟨⟨⟨wo,wv⟩,⟨NJ,NK⟩,aag⟩,pX,h⟩:=bS h;refine RT.bM .none ((jL N pX).w (args':=[_,_]) ⟨au,(SV.dL (show cJ [az kS,nw N (slc 1 (List.map aZ kT))] _ from⟨au,eH,aq⟩)),aq⟩) hN Y ⟨Y,Y,aq⟩ T<|mv Y<|ex Y Y<|ex Y Y<|ex Y Y<|so Y Y Y<|dn<|sr<|ld Y Y (.k2 Y Y)<|ld Y Y (.k2 Y Y) ?_;obtain⟨⟨⟨sL,sM⟩,⟨NL,NM⟩,aah⟩,wm,h⟩:=bS h;refine RT.bM .none ((jL N wm).w (args':=[_,_]) ⟨au,(SV.dL (show cJ [az kS,nw N (slc 1 (List.map aZ kT))] _ from⟨au,eH,aq⟩)),aq⟩) hN Y ⟨Y,Y,aq⟩ T<|mv Y<|ex Y Y<|ex Y Y<|ex Y Y<|so Y Y Y<|dn<|qq<|sr<|ld Y Y (.k2 Y Y) ?_;obtain⟨⟨NN,NO⟩,pZ,h⟩:=bS h;refine cl ((eA pZ).w (args':=[_]) ⟨(SV.dL (show cJ [az sL,nw N (slc 1 (List.map aZ sM))] _ from⟨au,eH,aq⟩)),aq⟩) ⟨Y,aq⟩<|mv Y<|ex Y Y<|ex Y Y<|ag Y<|ag Y<|dn<|qq ?_
 refine bH h (λj5=>AS.cZ 46 [(2,.ptr 2 0),(3,.ptr 3 0),(4,.ptr 4 0),(41,aj j5)] [(4,⟨26,[aj false,.sv (nw N ax),aj false,.sv (nw N ax)]⟩),(3,⟨24,[aj sL,.sv (nw N (slc 1 (List.map aZ sM)))]⟩),(2,⟨24,[aj wo,.sv (nw N (slc 1 (List.map aZ wv)))]⟩)] []) (λh=>?_) (λGO h=>?_);refine aX<|mv Y<|mv Y<|bE h λKQ Js h=>?_;cases NO;obtain rfl:=O (F Js);exact ww<|ww<|pF Y<|dn<|⟨false,h,wR []⟩;refine gm Y<|lE (V Js) λou tQ Js=>Co _ Y Y (qw (p:=NN) (q:=1) tQ) ?_;obtain rfl:=O Js;exact pT Y<|dn<|⟨ou,h,wR []⟩
 try dsimp only
 refine aV.n ?_;refine bH h (λj7=>AS.cZ 46 [(2,.ptr 2 0),(3,.ptr 3 0),(4,.ptr 4 0)] [(4,⟨26,[aj false,.sv (nw N ax),aj false,.sv (nw N ax)]⟩),(3,⟨24,[aj j7.1,.sv (nw N (slc 1 (List.map aZ j7.2)))]⟩),(2,⟨24,[aj wo,.sv (nw N (slc 1 (List.map aZ wv)))]⟩)] []) (λh=>?_) (λj7 h=>?_);cases GO;exact fs<|⟨(sL,sM),(F h),wR []⟩;exact cT<|aX<|bI (cs:=[_,_]) (cs':=[az false,nw N ax]) (.nil) ⟨au,bn,aq⟩<|so Y Y Y<|dn<|⟨(false,[]),(V h),wR []⟩;obtain⟨CL,CM⟩:=j7
 try dsimp only
 refine aV.n<|sr<|ld Y Y (.k2 Y Y)<|ld Y Y (.k2 Y Y)<|bI (cs:=[_,_,_,_]) (cs':=[az wo,nw N (slc 1 (List.map aZ wv)),az CL,nw N (slc 1 (List.map aZ CM))]) (.agg Y (.agg Y (.nil))) ⟨au,au,au,au,aq⟩<|so Y Y Y<|dn<|bg ?_;obtain rfl:=O h;exact RZ (.agg Y Y (.k4 Y Y Y Y) Y (.nil))
theorem pg{x0:Qr}{r:Int×Int×Bool}(h:eL x0=some r):Pure ah 61 [.agg (eQ x0)] (.uB [ay r.1,ay r.2.1,az r.2.2]):=by
 obtain⟨⟨bT,bN⟩,⟨gZ,iJ⟩⟩:=x0;refine bL Try.func61 Y (af Y) (λgz M vs hvs=>?_);unfold eL at h;refine sr<|bx Y<|ag Y<|ag Y<|ag Y<|dn<|sr<|fa Y Y<|ld Y Y (.k2 Y Y) ?_;obtain⟨⟨zq,Jl⟩,iN,h⟩:=bS h;refine cl (eA iN) ⟨Y,aq⟩<|mv Y<|ex Y Y<|ex Y Y<|ag Y<|ag Y<|dn<|sr<|fa Y Y<|ld Y Y (.k2 Y Y) ?_;obtain⟨⟨xw,Rc⟩,oK,h⟩:=bS h;refine cl (eA oK) ⟨Y,aq⟩<|mv Y<|ex Y Y<|ex Y Y<|ag Y<|ag Y<|dn<|qq<|qq ?_;refine bH h (λj21=>AS.cZ 53 [(2,ai zq),(3,ai xw),(40,aj j21)] [] []) (λh=>?_) (λCN h=>?_);refine aX<|mv Y<|lE h λiz my h=>nt Y _ my<|mv Y<|bE h λGR Jt h=>?_;cases iz;refine gm Y<|lE (F Jt) λjx oJ Jt=>YE Y _ oJ ?_;obtain rfl:=O Jt;refine pF Y<|mv Y<|bE h λaan Ju h=>?_;cases jx;refine gm Y<|lE (F Ju) λnh o6 Ju=>RT.leq (.some Y Y) _ Y Y T o6 ?_;obtain rfl:=O Ju;refine pF Y<|mv Y<|bE h λaao Jv h=>?_;cases nh;refine gm Y<|lE (F Jv) λmX xb Jv=>RT.geq (.some Y Y) _ Y Y T xb ?_;obtain rfl:=O Jv;refine pF Y<|mv Y<|bE h λaap sN h=>?_;cases mX;refine gm Y<|lE (F sN) λqT CF sN=>RT.leq (.some Y Y) _ Y Y T CF ?_;obtain rfl:=O sN;refine pF Y<|mv Y<|bE h λaaq zw h=>?_;cases qT;refine gm Y<|lE (F zw) λmZ CG zw=>RT.geq (.some Y Y) _ Y Y T CG ?_;obtain rfl:=O zw;exact pF Y<|dn<|⟨mZ,h,wR []⟩;obtain rfl:=O (V zw)
 exact ww<|ww<|pT Y<|dn<|⟨true,h,wR []⟩;obtain rfl:=O (V sN);refine ww<|ww<|pT Y<|mv Y<|bE h λaar A4 h=>?_;obtain rfl:=O (V A4);exact ww<|ww<|pT Y<|dn<|⟨true,h,wR []⟩;obtain rfl:=O (V Jv);refine ww<|ww<|pT Y<|mv Y<|bE h λaas N5 h=>?_;obtain rfl:=O (V N5);refine ww<|ww<|pT Y<|mv Y<|bE h λaat aau h=>?_;obtain rfl:=O (V aau);exact ww<|ww<|pT Y<|dn<|⟨true,h,wR []⟩;obtain rfl:=O (V Ju);refine ww<|ww<|pT Y<|mv Y<|bE h λaav xx h=>?_;obtain rfl:=O (V xx);refine ww<|ww<|pT Y<|mv Y<|bE h λaaw xy h=>?_;obtain rfl:=O (V xy);refine ww<|ww<|pT Y<|mv Y<|bE h λaax uN h=>?_;obtain rfl:=O (V uN);exact ww<|ww<|pT Y<|dn<|⟨true,h,wR []⟩;obtain rfl:=O (V Jt);refine ww<|ww<|pT Y<|mv Y<|bE h λaay N6 h=>?_;obtain rfl:=O (V N6);refine ww<|ww<|pT Y<|mv Y<|bE h λaaz N7 h=>?_;obtain rfl:=O (V N7);refine ww<|ww<|pT Y<|mv Y<|bE h λaaA N8 h=>?_;obtain rfl:=O (V N8);refine ww<|ww<|pT Y<|mv Y<|bE h λaaB aaC h=>?_;obtain rfl:=O (V aaC);exact ww<|ww<|pT Y<|dn<|⟨true,h,wR []⟩
 try dsimp only
 refine aV.n ?_;cases CN;refine fs<|qq<|bj<|sr<|mv Y<|lE (F h) λAd Fs h=>eq _ Y Y (qw (p:=xw) (q:=0) Fs)<|ag Y<|dn ?_;refine bH h (λPy=>AS.cZ 53 [(2,ai Py.1),(3,ai Py.2)] [] []) (λh=>?_) (λPy h=>?_);cases Ad;refine cF<|sr<|mv Y<|lE (F h) λv7 h46 h=>ls _ Y Y h46<|ag Y<|dn ?_;refine bH h (λPz=>AS.cZ 53 [(2,ai Pz.1),(3,ai Pz.2)] [] []) (λh=>?_) (λPz h=>?_);cases v7;exact fs<|⟨(zq,xw),(F h),wR []⟩;exact cT<|aX<|mv Y<|lE (V h) λAe h48 h=>RT.neg .none _ Y T h48<|mv Y<|lE h λvf EF h=>RT.neg .none _ Y T EF<|ag Y<|ag Y<|dn<|⟨(Ae,vf),h,wR []⟩;obtain⟨GP,GQ⟩:=Pz
 try dsimp only
 exact aV.n<|⟨(GP,GQ),h,wR []⟩;exact cT<|aX<|ag Y<|dn<|⟨(zq,1),(V h),wR []⟩;obtain⟨KR,KS⟩:=Py
 try dsimp only
 refine bw.n<|aV.n<|sr<|mv Y<|mv Y<|ag Y<|ag Y<|ag Y<|dn<|bg ?_;obtain rfl:=O h;exact RZ (.tmp Y (.tmp Y (.tmp Y (.nil))));refine cT<|sr<|ag Y<|ag Y<|ag Y<|dn<|bg<|aV.r ?_;obtain rfl:=O (V h);exact RZ (.tmp Y (.tmp Y (.tmp Y (.nil))))
theorem xz{x0:Int}{x1:Int}(N:Nat){r:Qr}(h:gI x0 x1=some r):dR ah 62 N [ay x0,ay x1] (.agg ((fQ N) r)):=by
 refine bK Try.func62 Y (af Y) (λgz M vs hN hvs=>?_);unfold gI at h;refine sr<|al (cs:=[az false,nw N ax,az false,nw N ax]) (by exact⟨au,bn,au,bn,aq⟩) Y<|dn<|sr<|mv Y<|mv Y<|ag Y<|ag Y<|dn<|qq<|bE h λe6 QX pY=>?_;refine bW (λ(zu:Int)=>AS.cZ 36 [(0,ai x0),(1,ai x1),(4,.ptr 4 0),(5,ai zu)] [(4,⟨26,[aj false,.sv (nw N ax),aj false,.sv (nw N ax)]⟩)] []) (λzu=>zu=e6) ?_ (λzu QY=>?_);refine bj ?_;refine bX QX (λs6=>AS.cZ 36 [(0,ai x0),(1,ai x1),(4,.ptr 4 0),(5,ai s6.1),(6,ai s6.2)] [(4,⟨26,[aj false,.sv (nw N ax),aj false,.sv (nw N ax)]⟩)] []) (wR []) (λs6 y6 G6 h QZ Ny=>?_);obtain⟨uH,EO⟩:=s6
 try dsimp only
 refine qq<|sr<|mv Y<|lE h λfU iN h=>ne _ Y Y (I1 (p:=EO) (q:=0) iN)<|dn ?_;cases fU;refine cF<|b7<|aV.x<|aV.x<|bw.x<|aV.n ?_;obtain rfl:=O (F h);exact⟨uH,Ny _ Y,wR []⟩;refine cT<|bu<|aV.n<|bj<|bf mixed<|mv Y<|mv Y<|mv Y<|bE (V h) λjU o5 h=>RT.rem .none _ Y Y T (Ym o5) (Yn o5)<|ag Y<|ag Y ?_;refine RT.done ⟨by kernel_rfl,?_⟩;refine bw.n ?_;obtain rfl:=O h;exact aV.n ⟨(EO,jU),QZ _ Y,wR []⟩;subst QY
 try dsimp only
 refine aV.n<|qq<|sr<|mv Y<|lE pY λjI oK pY=>ls _ Y Y oK<|dn ?_;refine bH pY (λj8=>AS.cZ 36 [(0,ai x0),(1,ai x1),(4,.ptr 4 0),(5,ai j8)] [(4,⟨26,[aj false,.sv (nw N ax),aj false,.sv (nw N ax)]⟩)] []) (λpY=>?_) (λEP pY=>?_);cases jI;exact fs<|⟨zu,(F pY),wR []⟩;exact cT<|aX<|mv Y<|lE (V pY) λfJ jW pY=>RT.neg .none _ Y T jW<|ag Y<|dn<|⟨fJ,pY,wR []⟩
 try dsimp only
 refine aV.n<|qq<|sr<|mv Y<|mv Y<|lE pY λja pX pY=>eq _ Y Y (qw (p:=EP) (q:=x1) pX)<|dn ?_;cases ja;refine fs<|qq<|bf mixed<|mv Y<|mv Y<|bE (F pY) λiu lY pY=>RT.quo .none _ Y Y T (Yl lY) (MZ lY) ?_;obtain⟨⟨xT,xU⟩,xq,pY⟩:=bS pY;refine RT.bM .none (cL N xq) hN Y ⟨Y,aq⟩ T<|mv Y<|mv Y<|bE pY λmY qy pY=>RT.quo .none _ Y Y T (Yl qy) (MZ qy) ?_;obtain⟨⟨xZ,tX⟩,pZ,pY⟩:=bS pY;refine RT.bM .none (cL N pZ) hN Y ⟨Y,aq⟩ T<|bI (cs:=[_,_,_,_]) (cs':=[az xT,nw N (slc 1 (List.map aZ xU)),az xZ,nw N (slc 1 (List.map aZ tX))]) (.agg Y (.agg Y (.nil))) ⟨au,au,au,au,aq⟩<|so Y Y Y ?_;refine RT.done ⟨by kernel_rfl,?_⟩;refine aV.n<|bg ?_;obtain rfl:=O pY;exact RZ (.agg Y Y (.k4 Y Y Y Y) Y (.nil));refine cT<|sr<|mv Y<|mv Y<|bE (V pY) λfe nk pY=>RT.quo .none _ Y Y T (Yl nk) (MZ nk) ?_;obtain⟨⟨xR,xS⟩,CE,pY⟩:=bS pY;refine RT.bM .none (cL N CE) hN Y ⟨Y,aq⟩ T<|bI (cs:=[_,_,_,_]) (cs':=[az xR,nw N (slc 1 (List.map aZ xS)),az false,nw N ax]) (.agg Y (.nil)) ⟨au,au,au,bn,aq⟩<|so Y Y Y<|dn<|bg<|aV.r ?_;obtain rfl:=O pY;exact RZ (.agg Y Y (.k4 Y Y Y Y) Y (.nil))
theorem zx{x0:Int}{r:Int}(h:kU x0=some r):Pure ah 66 [ay x0] (ay r):=by
 refine bL Try.func66 Y (af Y) (λgz M vs hvs=>?_);unfold kU at h;refine sr<|ag Y<|dn<|qq<|bj<|sr<|mv Y<|lE h λx5 h5 h=>ls _ Y Y h5<|ag Y<|dn ?_;cases x5;refine cF<|sr<|mv Y<|lE (F h) λx8 h8 h=>gt _ Y Y h8<|ag Y<|dn ?_;cases x8;refine cF<|bu<|bw.n<|aV.n<|sr<|ag Y<|dn<|bg ?_;obtain rfl:=O (F h);exact R1 Y;refine cT<|sr<|ag Y<|dn<|bg<|bw.r<|aV.r ?_;obtain rfl:=O (V h);exact R1 Y;refine cT<|sr<|ag Y<|dn<|bg<|bw.r<|aV.r ?_;obtain rfl:=O (V h);exact R1 Y
theorem wH{x0:Zr}(N:Nat){r:Zr}(h:jy x0=some r):dR ah 64 N [.agg (eZ x0)] (.agg ((fZ N) r)):=by
 obtain⟨bT,bN⟩:=x0;refine bK Try.func64 Y (af Y) (λgz M vs hN hvs=>?_);unfold jy at h;refine sr<|bx Y<|al (cs:=[az false,nw N ax]) (by exact⟨au,bn,aq⟩) Y<|dn<|sr<|ld Y Y (.k2 Y Y)<|bI (cs:=[_,_]) (cs':=[az false,nw N ax]) (.nil) ⟨au,bn,aq⟩ ?_;obtain⟨⟨Jm,Jn⟩,h5,h⟩:=bS h;refine RT.bM .none ((mz N h5).w (args':=[_,_]) ⟨au,(SV.dL (show cJ [az false,nw N ax] _ from⟨au,eH,aq⟩)),aq⟩) hN Y ⟨Y,Y,aq⟩ T<|so Y Y Y<|dn<|bg ?_;obtain rfl:=O h;exact RZ (.agg Y Y (.k2 Y Y) Y (.nil))
theorem uO{x1:Qr}{x2:Qr}(N:Nat){r:Qr}(h:gB x1 x2=some r):dR ah 63 N [.v (.int .u8 ((45:Nat):Int)),.agg (eQ x1),.agg (eQ x2)] (.agg ((fQ N) r)):=by
 obtain⟨⟨dz,dm⟩,⟨uL,uM⟩⟩:=x1;obtain⟨⟨zm,zo⟩,⟨Jo,Jp⟩⟩:=x2;refine bK Try.func63 Y (af Y) (λgz M vs hN hvs=>?_);unfold gB at h;refine sr<|bx Y<|bx Y<|al (cs:=[az false,nw N ax,az false,nw N ax]) (by exact⟨au,bn,au,bn,aq⟩) Y<|dn<|sr<|ld Y Y (.k4 Y Y Y Y) ?_;obtain⟨⟨⟨mB,mD⟩,⟨nQ,nR⟩⟩,kI,h⟩:=bS h;refine cl (g9 kI) ⟨Y,aq⟩<|mv Y<|ex Y Y<|ex Y Y<|al (cs:=[az false,nw N ax]) (by exact⟨au,bn,aq⟩) Y<|al (cs:=[az false,nw N ax]) (by exact⟨au,bn,aq⟩) Y<|so Y Y Y<|so Y Y Y<|dn<|sr<|ld Y Y (.k4 Y Y Y Y) ?_;obtain⟨⟨⟨mE,mF⟩,⟨nS,nT⟩⟩,jW,h⟩:=bS h;refine cl (g9 jW) ⟨Y,aq⟩<|mv Y<|ex Y Y<|ex Y Y<|al (cs:=[az false,nw N ax]) (by exact⟨au,bn,aq⟩) Y<|al (cs:=[az false,nw N ax]) (by exact⟨au,bn,aq⟩) Y<|so Y Y Y<|so Y Y Y<|dn<|qq<|bf mixed<|cl qe trivial<|mv Y ?_;refine RT.look .none [.func (.func 106) #[] #[]] Y Y Y T<|fl Y Y<|ld Y Y (.k2 Y Y)<|ld Y Y (.k2 Y Y)<|ld Y Y (.k2 Y Y)<|ld Y Y (.k2 Y Y) ?_;obtain⟨⟨⟨wz,wA⟩,⟨wB,wC⟩⟩,lY,h⟩:=bS h;refine RT.bM .none (nU N lY) hN Y ⟨Y,Y,Y,Y,aq⟩ T<|ex Y Y<|ex Y Y ?_;obtain⟨⟨⟨ko,jA⟩,⟨rA,rB⟩⟩,nj,h⟩:=bS h
 refine RT.bM .none ((nV N nj).w (args':=[_,_]) ⟨(SV.dL (show cJ [az wz,nw N (slc 1 (List.map aZ wA))] _ from⟨au,eH,aq⟩)),(SV.dL (show cJ [az wB,nw N (slc 1 (List.map aZ wC))] _ from⟨au,eH,aq⟩)),aq⟩) hN Y ⟨Y,Y,aq⟩ T<|so Y Y Y ?_;refine RT.done ⟨by kernel_rfl,?_⟩;refine aV.n<|bg ?_;obtain rfl:=O h;exact RZ (.agg Y Y (.k4 Y Y Y Y) Y (.nil))
end
section
open Go.Fw Go.Fw.Z Go.RowKit
theorem A5{x0:Int}{x1:Int}(N:Nat){r:Qr×Int}(h:iA x0 x1=some r):dR ah 40 N [ay x0,ay x1] (.uB [.agg ((fQ N) r.1),ay r.2]):=by
 refine bK Try.func40 Y (af Y) (λgz M vs hN hvs=>?_);unfold iA at h;refine sr<|al (cs:=[az false,nw N ax,az false,nw N ax]) (by exact⟨au,bn,au,bn,aq⟩) Y<|ag Y<|dn<|qq<|sr<|mv Y<|lE h λx7 h7 h=>eq _ Y Y (qw (p:=x1) (q:=0) h7)<|dn ?_;cases x7;refine fs<|sr<|mv Y ?_;obtain⟨⟨xW,xX⟩,iN,h⟩:=bS (F h);refine RT.bM .none (cL N iN) hN Y ⟨Y,aq⟩ T<|mv Y ?_;obtain⟨⟨lF,lG⟩,kp,h⟩:=bS h;refine RT.bM .none (cL N kp) hN Y ⟨Y,aq⟩ T ?_;obtain⟨⟨⟨nK,tO⟩,⟨KT,KU⟩⟩,kI,h⟩:=bS h;refine RT.bM .none ((nV N kI).w (args':=[_,_]) ⟨(SV.dL (show cJ [az xW,nw N (slc 1 (List.map aZ xX))] _ from⟨au,eH,aq⟩)),(SV.dL (show cJ [az lF,nw N (slc 1 (List.map aZ lG))] _ from⟨au,eH,aq⟩)),aq⟩) hN Y ⟨Y,Y,aq⟩ T<|so Y Y Y<|ag Y<|dn<|bg ?_;obtain rfl:=O h;exact RZ (.agg Y Y (.k4 Y Y Y Y) Y (.tmp Y (.nil)));refine cT<|sr<|bI (cs:=[_,_,_,_]) (cs':=[az false,nw N ax,az false,nw N ax]) (.nil) ⟨au,bn,au,bn,aq⟩<|so Y Y Y<|ag Y<|dn<|bg<|aV.r ?_;obtain rfl:=O (V h);exact RZ (.agg Y Y (.k4 Y Y Y Y) Y (.tmp Y (.nil)))
theorem tZ{x0:Int}{x1:Int}{r:Qr×Int}(h:iA x0 x1=some r):Pure ah 40 [ay x0,ay x1] (.uB [.agg (eQ r.1),ay r.2]):=fI (λN=>A5 N h) (λN=>(SV.C8 ⟨(SV.dL (qI _ _)),au,aq⟩))
theorem oN{x0:Zr}(N:Nat){r:Qr}(h:c7 x0=some r):dR ah 32 N [.agg (eZ x0)] (.agg ((fQ N) r)):=by
 obtain⟨bT,bN⟩:=x0;refine bK Try.func32 Y (af Y) (λgz M vs hN hvs=>?_);unfold c7 at h;refine sr<|bx Y<|al (cs:=[az false,nw N ax,az false,nw N ax]) (by exact⟨au,bn,au,bn,aq⟩) Y<|dn<|sr<|ld Y Y (.k2 Y Y) ?_;obtain⟨⟨ER,ES⟩,h4,h⟩:=bS h;refine RT.bM .none (wH N h4) hN Y ⟨Y,aq⟩ T<|bI (cs:=[_,_,_,_]) (cs':=[az ER,nw N (slc 1 (List.map aZ ES)),az false,nw N ax]) (.agg Y (.nil)) ⟨au,au,au,bn,aq⟩<|so Y Y Y<|dn<|bg ?_;obtain rfl:=O h;exact RZ (.agg Y Y (.k4 Y Y Y Y) Y (.nil))
theorem oO{x0:Zr}{r:Qr}(h:c7 x0=some r):Pure ah 32 [.agg (eZ x0)] (.agg (eQ r)):=fI (λN=>oN N h) (λN=>(SV.dL (qI _ _)))
theorem A6{x0:Qr}{x1:Qr}(N:Nat){r:Qr}(h:jm x0 x1=some r):dR ah 31 N [.agg (eQ x0),.agg (eQ x1)] (.agg ((fQ N) r)):=by
 obtain⟨⟨bT,bN⟩,⟨gZ,iJ⟩⟩:=x0;obtain⟨⟨dz,dm⟩,⟨uL,uM⟩⟩:=x1;refine bK Try.func31 Y (af Y) (λgz M vs hN hvs=>?_);unfold jm at h;refine sr<|bx Y<|bx Y<|al (cs:=[az false,nw N ax,az false,nw N ax]) (by exact⟨au,bn,au,bn,aq⟩) Y<|dn<|sr<|ld Y Y (.k4 Y Y Y Y) ?_;obtain⟨⟨NX,Jq,NY⟩,kI,h⟩:=bS h;refine cl (pg kI) ⟨Y,aq⟩<|mv Y<|ex Y Y<|ex Y Y<|ex Y Y<|ag Y<|ag Y<|ag Y<|dn<|sr<|ld Y Y (.k4 Y Y Y Y) ?_;obtain⟨⟨NZ,Jr,N0⟩,q9,h⟩:=bS h;refine cl (pg q9) ⟨Y,aq⟩<|mv Y<|ex Y Y<|ex Y Y<|ex Y Y<|ag Y<|ag Y<|ag Y<|dn<|qq<|qq ?_;refine bH h (λj3=>AS.cZ 41 [(2,.ptr 2 0),(3,.ptr 3 0),(4,.ptr 4 0),(5,ai NX),(6,ai Jq),(8,ai NZ),(9,ai Jr),(26,aj j3)] [(4,⟨26,[aj false,.sv (nw N ax),aj false,.sv (nw N ax)]⟩),(3,⟨26,[aj dz,.sv (slc 1 (List.map aZ dm)),aj uL,.sv (slc 1 (List.map aZ uM))]⟩),(2,⟨26,[aj bT,.sv (slc 1 (List.map aZ bN)),aj gZ,.sv (slc 1 (List.map aZ iJ))]⟩)] []) (λh=>?_) (λGU h=>?_);refine aX<|mv Y<|mv Y<|bE h λKV o7 h=>?_;cases NY;obtain rfl:=O (F o7);exact ww<|pF Y<|dn<|⟨false,h,wR []⟩;refine gm Y ?_;obtain rfl:=O (V o7);exact pT Y<|dn<|⟨N0,h,wR []⟩
 try dsimp only
 refine aV.n ?_;cases GU;refine fs<|sr<|ld Y Y (.k4 Y Y Y Y)<|ld Y Y (.k4 Y Y Y Y) ?_;obtain⟨⟨⟨m8,m9⟩,⟨AY,AZ⟩⟩,tQ,h⟩:=bS (F h);refine RT.bM .none (uO N tQ) hN Y ⟨Y,Y,Y,aq⟩ T<|so Y Y Y<|dn<|bg ?_;obtain rfl:=O h;exact RZ (.agg Y Y (.k4 Y Y Y Y) Y (.nil));refine cT<|sr<|mv Y<|mv Y<|lE (V h) λiu lY h=>RT.mul .none _ Y Y T lY<|mv Y<|mv Y<|lE h λjJ nj h=>RT.mul .none _ Y Y T nj<|lE h λmY qy h=>sb _ Y Y qy<|mv Y<|mv Y<|lE h λv8 xu h=>RT.mul .none _ Y Y T xu ?_;obtain⟨⟨⟨o8,o9⟩,⟨AX,Dr⟩⟩,zf,h⟩:=bS h;refine RT.bM .none (xz N zf) hN Y ⟨Y,Y,aq⟩ T<|so Y Y Y<|dn<|bg<|aV.r ?_;obtain rfl:=O h;exact RZ (.agg Y Y (.k4 Y Y Y Y) Y (.nil))
theorem A7{x0:Qr}{x1:Qr}{r:Qr}(h:jm x0 x1=some r):Pure ah 31 [.agg (eQ x0),.agg (eQ x1)] (.agg (eQ r)):=fI (λN=>A6 N h) (λN=>(SV.dL (qI _ _)))
theorem A8{x0:Qr}{x1:Qr}{r:Int}(h:jn x0 x1=some r):Pure ah 33 [.agg (eQ x0),.agg (eQ x1)] (ay r):=by
 obtain⟨⟨bT,bN⟩,⟨gZ,iJ⟩⟩:=x0;obtain⟨⟨dz,dm⟩,⟨uL,uM⟩⟩:=x1;refine bL Try.func33 Y (af Y) (λgz M vs hvs=>?_);unfold jn at h;refine sr<|bx Y<|bx Y<|ag Y<|dn<|sr<|ld Y Y (.k4 Y Y Y Y) ?_;obtain⟨⟨⟨mB,mD⟩,⟨nQ,nR⟩⟩,kI,h⟩:=bS h;refine cl (g9 kI) ⟨Y,aq⟩<|mv Y<|ex Y Y<|ex Y Y<|al (cs:=[az false,ax]) (by exact⟨au,aB,aq⟩) Y<|al (cs:=[az false,ax]) (by exact⟨au,aB,aq⟩) Y<|so Y Y Y<|so Y Y Y<|dn<|sr<|ld Y Y (.k4 Y Y Y Y) ?_;obtain⟨⟨⟨mE,mF⟩,⟨nS,nT⟩⟩,jW,h⟩:=bS h;refine cl (g9 jW) ⟨Y,aq⟩<|mv Y<|ex Y Y<|ex Y Y<|al (cs:=[az false,ax]) (by exact⟨au,aB,aq⟩) Y<|al (cs:=[az false,ax]) (by exact⟨au,aB,aq⟩) Y<|so Y Y Y<|so Y Y Y<|dn<|qq<|qq<|bf mixed<|ld Y Y (.k2 Y Y)<|bE h λjT pW h=>?_;refine cl (eU pW) ⟨Y,aq⟩<|ld Y Y (.k2 Y Y)<|bE h λfe nk h=>cl (eU nk) ⟨Y,aq⟩<|ag Y<|ag Y ?_;refine RT.done ⟨by kernel_rfl,?_⟩;refine aV.n<|qq ?_;refine bH h (λj3=>AS.cZ 43 [(5,.ptr 5 0),(6,.ptr 6 0),(7,.ptr 7 0),(8,.ptr 8 0),(9,ai jT),(10,ai fe),(31,aj j3)] [(8,⟨24,[aj nS,.sv (slc 1 (List.map aZ nT))]⟩),(7,⟨24,[aj mE,.sv (slc 1 (List.map aZ mF))]⟩),(6,⟨24,[aj nQ,.sv (slc 1 (List.map aZ nR))]⟩),(5,⟨24,[aj mB,.sv (slc 1 (List.map aZ mD))]⟩)] []) (λh=>?_) (λGV h=>?_)
 refine aX<|mv Y<|mv Y<|lE h λnh o6 h=>ne _ Y Y (I1 (p:=jT) (q:=fe) o6)<|mv Y<|bE h λKY o7 h=>?_;cases nh;refine gm Y<|lE (F o7) λow xq o7=>Co _ Y Y (qw (p:=jT) (q:=0) xq) ?_;obtain rfl:=O o7;exact pF Y<|dn<|⟨ow,h,wR []⟩;obtain rfl:=O (V o7);exact ww<|ww<|pT Y<|dn<|⟨true,h,wR []⟩
 try dsimp only
 refine aV.n ?_;cases GV;refine fs<|qq<|bf mixed<|ld Y Y (.k2 Y Y)<|ld Y Y (.k2 Y Y) ?_;obtain⟨⟨KW,KX⟩,EC,h⟩:=bS (F h);refine cl (ru EC) ⟨Y,Y,aq⟩<|ld Y Y (.k2 Y Y)<|ld Y Y (.k2 Y Y) ?_;obtain⟨⟨A0,A3⟩,EE,h⟩:=bS h;refine cl (ru EE) ⟨Y,Y,aq⟩<|bE h λr5 AP h=>cl (zh AP) ⟨Y,Y,aq⟩<|ag Y ?_;refine RT.done ⟨by kernel_rfl,?_⟩;refine aV.n<|bg ?_;obtain rfl:=O h;exact R1 Y;refine cT<|sr<|mv Y<|mv Y<|lE (V h) λkH pZ h=>sb _ Y Y pZ<|bE h λqT CF h=>cl (zx CF) ⟨Y,aq⟩<|ag Y<|dn<|bg<|aV.r ?_;obtain rfl:=O h;exact R1 Y
theorem xA{x0:Qr}{r:Zr}(h:iT x0=some r):Pure ah 41 [.agg (eQ x0)] (.agg (eZ r)):=by
 obtain⟨⟨bT,bN⟩,⟨gZ,iJ⟩⟩:=x0;refine bL Try.func41 Y (af Y) (λgz M vs hvs=>?_);unfold iT at h;refine sr<|bx Y<|al (cs:=[az false,ax]) (by exact⟨au,aB,aq⟩) Y<|dn<|sr<|ld Y Y (.k4 Y Y Y Y) ?_;obtain⟨⟨⟨KZ,K0⟩,⟨K1,K9⟩⟩,h8,h⟩:=bS h;refine cl (g9 h8) ⟨Y,aq⟩<|ex Y Y<|ex Y Y ?_;obtain⟨⟨⟨wF,wG⟩,⟨N3,N4⟩,aam⟩,pV,h⟩:=bS h;refine cl (nc pV) ⟨Y,Y,aq⟩<|mv Y<|ex Y Y<|ex Y Y<|ex Y Y<|al (cs:=[az false,ax]) (by exact⟨au,aB,aq⟩) Y<|al (cs:=[az false,ax]) (by exact⟨au,aB,aq⟩) Y<|so Y Y Y<|so Y Y Y<|ag Y<|dn<|sr<|ld Y Y (.k2 Y Y) ?_;refine so Y Y Y<|dn<|bg ?_;obtain rfl:=O h;exact RZ (.agg Y Y (.k2 Y Y) Y (.nil))
end
end Go.Proofs.Ytmiflmkdaeianaa
