/- A part of the proof: the framework, the plain functions, the followed functions, the plain laws. -/
import Derived.Test.YtmiflmkdaeianaaPSC1
set_option linter.unusedVariables false
set_option linter.unusedSimpArgs false
set_option linter.unusedSectionVars false
namespace Go.Fw
section
open Go.RowKit
inductive Src (S:AS) (E0:TypeId) (n:Nat):Operand->List (Nat×hG)->List Nat->Nat->List SV->Prop
 |nil {x:Operand} (h:S.ev x=.sv (.v (.slice none 0 0))):Src S E0 n x [] [] 0 []
 |row {x:Operand} {i m:Nat} {cs:List SV} (h:S.ev x=.row i) (hR:S.r i=.live ⟨E0,n,m,cs⟩):Src S E0 n x [(i,.dead)] [i] m cs
theorem EI{i:Nat}{X:SV}{x:AV}(h:¬x.mr i):x.jt i X=x:=by
 cases x with
 |row k=>simp only[AV.jt];rw[cG (λe=>h e.symm)];rfl
 |eX k o=>simp only[AV.jt];rw[cG (λe=>h e.symm)];rfl
 |jr k o l=>simp only[AV.jt];rw[cG (λe=>h e.symm)];rfl
 |cmp t js=>
  simp only[AV.jt];have:js.any (Fc.rV i)=false:=by
   cases e:js.any (Fc.rV i)with
   |false=>rfl
   |true=>
    obtain⟨c,hc,hi⟩:=List.any_eq_true.1 e;cases c with
    |row j=>have hi:Nat.beq j i=true:=hi;obtain rfl:=Nat.eq_of_beq_eq_true hi;exact absurd hc h
    |_=>cases hi
  rw[this];rfl
 |_=>rfl
section steps
variable {P:Program}{C:Ctx}{ops:Array Oper}{S:AS}{nd:Bool}{K:List Ac->AS->Prop}{rest:List Oper}{acc:List Ac}
variable {gd:Option (Nat×Bool)}{rg:List Nat}{d:Nat}{ty:TypeId}{pos:String}{aft:Array Edge}{x y z:Operand}{T U E0:TypeId}
theorem Src.val{E:Env}{a:Act}{w:World}{S':AS}{n m:Nat}{old:List (Nat×hG)}{rr:List Nat}{cs:List SV}(h:aZ C S' E a w)(hx:Src S E0 n x old rr m cs)(ht:∀s∈aW x,S'.t s=S.t s)(hr:∀i∈rr,S'.r i=S.r i):
  (∃vs,w.ownsRow 0 E0 n (a.eval x) m vs/\SV.da E.M cs vs)/\((old=[]/\(a.eval x).ownBlock=none)\/∃i R,old=[(i,.dead)]/\S'.r i=.live R/\(a.eval x).ownBlock=(E.ν i).ownBlock):=by
 cases hx with
 |nil hx=>
  have h1:a.eval x=.slice none 0 0:=by have h1:=h.ev x;rw[bk (λ_ h=>h) ht,hx]at h1;exact h1
  rw[h1];exact⟨⟨[],World.ownsRow_nil _ _ _ _,aq⟩,.inl ⟨Y,Y⟩⟩
 | @row i _ _ hx hR=>
  have h1:a.eval x=E.ν i:=by have h1:=h.ev x;rw[bk (λ_ h=>h) ht,hx]at h1;exact h1
  have jU:=(hr i (by simp)).trans hR;rw[h1];obtain⟨⟨vs,h2,h3⟩,_⟩:=h.rx i _ jU;exact⟨⟨vs,h2,h3⟩,.inr ⟨i,_,Y,jU,Y⟩⟩
theorem RT.Ce(hg:Gd ops S gd rg){n by_:Nat}{zv:Value}[tS:dD P T E0 n][tE:gy P E0 n by_ zv]{old:List (Nat×hG)}{rr:List Nat}{m:Nat}{cs:List SV}{s:SV}{rows:List (List SV)}[hs:Hj s n rows]
  (hx:Src S E0 n x old rr m cs) (hy:S.ev y=.sv s) (hd:d<S.n) (qX:S.r d=.un) (o6:d<1000) (hroom:(m+rows.length)*by_<=140737488355328) (mB:m+rows.length<=140737488355328)
  (X:SV) {rows':List (List SV)} (hX:∀M v,(slc n rows').h M v->(∀g,v.ownBlock=some g->(C.w0.heap.size<=g\/C.nu g)/\∃o,M g o=some (.agg #[]))->X.h M v) (gX:Rows n rows' (cs++rows.flatten)) (hlen:rows'.length=m+rows.length) (hone:∀M vs,SV.da M (cs++rows.flatten) vs->∀v∈vs,v.oneCell'=true)
  (next:RunT P C ops nd K rest (⟨rg++(aW x++aW y),[],d::rr,⟨some (d,.sv X),[],old++[(d,.dead)]⟩⟩::acc) ((AS.bC (old++[(d,.dead)]) S).set d (.sv X))):RunT P C ops nd K (⟨some d,.call ⟨.builtin .append,#[x,y],#[T,T]⟩,ty,pos,aft,gd⟩::rest) acc S:=by
 refine .inl ⟨_,[],d::rr,_,?_,next⟩;rintro S' hn ht _ hr i a w L Q ho ⟨E,h⟩ hL;refine bU (C:=C) ho (hg.wanted h (λs hs=>ht s (List.mem_append_left _ hs)) Y) ?_;obtain⟨⟨vs,hown,hvs⟩,hold⟩:=hx.val h (λs hs=>ht s (List.mem_append_right _ (List.mem_append_left _ hs))) (λi hi=>hr i (List.mem_cons_of_mem _ hi));have h2:=h.ev y;rw[bk (λ_ h=>List.mem_append_right _ (List.mem_append_right _ h)) ht,hy]at h2;obtain⟨info,hi,hsz,hby,hz⟩:=gy.info (P:=P) (E:=E0) (n:=n) (by_:=by_) (z:=zv);have Dd:S'.r d=.un:=by rw[hr d (by simp)];exact qX
 have run:∃v' w' vs',(Builtin.append_ #[T,T] ty #[a.eval x,a.eval y]).run P w=.ok v' w'/\w'.ownsRow 0 E0 n v' (m+rows.length) vs'/\SV.da E.M (cs++rows.flatten) vs'/\w.grownBy w' (a.eval x).ownBlock/\(v'.ownBlock=(a.eval x).ownBlock\/v'.ownBlock=some w.heap.size\/v'.ownBlock=none):=by
  rcases hs.h _ _ h2 with⟨a0,e,e2⟩|⟨b,o,c,e,hc,zq,hrow⟩
  ·rw[e,e2];cases a0 with
   |none=>exact⟨_,_,vs,run_append_owned_none w 0 T ty E0 info n tS.u hi _ m vs hown,by simpa using hown,by simpa using hvs,⟨Y,Y,Y,Nat.le_refl _,λ_ _ _=>Y⟩,.inl Y⟩
   |some a0=>
    rw[e2,List.length_nil]at hroom mB;obtain⟨v',w',q1,q2,q3,_,q4⟩:=run_append_own_at (P:=P) w 0 T ty E0 info zv n by_ tS.u hi hz hsz hby tE.z tE.p _ m vs hown a0 0 0 [] (by simp) (by simp) (by simp) (by unfold maxLen;omega) hroom (Nat.zero_le _);exact⟨v',w',vs,q1,by simpa using q2,by simpa using hvs,q3,q4.imp id .inl⟩
  obtain⟨us,g1,g2,g3,g4⟩:=uu rows o hrow;rw[e];obtain⟨v',w',q1,q2,q3,_,q4⟩:=run_append_own_at (P:=P) w 0 T ty E0 info zv n by_ tS.u hi hz hsz hby tE.z tE.p _ m vs hown ⟨b,o,none⟩ rows.length c us g2 (λj u hj=>by rw[eu];exact(h.cy _ _ _ (g4 j u hj)).cell (g3 u (List.mem_of_getElem? hj))) g3 (by unfold maxLen;omega) hroom (Nat.zero_le _);exact⟨v',w',vs++us,q1,q2,SV.da.append hvs g1,q3,q4.imp id .inl⟩
 obtain⟨v',w',vs',q1,q2,q3,q4,q5⟩:=run;have hr':(execOp a.eval ⟨some d,.call ⟨.builtin .append,#[x,y],#[T,T]⟩,ty,pos,aft,gd⟩).run P w=.ok (.value v') w':=by
  simp[execOp,resolve,invoke,builtin,q1]
 have Cf:∀(l:List (Nat×hG)) (R:hG) (j:Nat),cJ (l++[(d,R)]) j=if j=d then some R else cJ l j:=by
  intro l R j
  induction l with
  |nil=>rfl
  |cons p l ih=>
   obtain⟨i,R'⟩:=p;rw[List.cons_append,cJ,cJ,ih];by_cases e:j=d
   ·simp[e]
   simp[e]
 have h3:=(h.newRow Dd o6 old (a.eval x).ownBlock hold (R':=⟨E0,n,m+rows.length,cs++rows.flatten⟩) q2 q3 q5 q4).put (d:=d) (x:=.row d) (v:=v') (by simp[AV.holds]) (by rw[(dy _ _).1];omega) ⟨λ_ e=>e.elim,λj e=>by
  cases e;rw[gH,Cf];simp⟩
 have hRd:(AS.set (AS.bC (old++[(d,hG.live ⟨E0,n,m+rows.length,cs++rows.flatten⟩)]) S') d (.row d)).r d=.live ⟨E0,n,m+rows.length,cs++rows.flatten⟩:=by
  show(AS.bC _ S').r d=_;rw[gH,Cf];simp
 obtain⟨E',h4⟩:=h3.jt hRd gX hlen (Nat.le_trans mB (by decide)) hone hX;have e:(AS.set (AS.bC (old++[(d,hG.live ⟨E0,n,m+rows.length,cs++rows.flatten⟩)]) S') d (.row d)).jt d X=S'.app ⟨some (d,.sv X),[],old++[(d,.dead)]⟩:=by
  have n1:=dy (old++[(d,hG.live ⟨E0,n,m+rows.length,cs++rows.flatten⟩)]) S';have n2:=dy (old++[(d,hG.dead)]) S';refine AS.ext' ?_ (λt=>?_) (λj=>?_) (λj=>?_) ?_ ?_
  ·show(AS.bC _ S').n=(AS.bC _ S').n;rw[n1.1,n2.1]
  ·rw[AS.D8];show((AS.set (AS.bC _ S') d (.row d)).t t).jt d X=_;by_cases e:t=d
   ·subst e;rw[AS.fR];simp[AV.jt,wT]
   rw[AS.eO _ _ _ _ e,n1.2.1,EI (λhm=>h.wf.tr t d hm Dd)];simp[wT,e]
  ·rw[AS.D9];show((AS.bC _ S').b j).map _=_;rw[n1.2.2.1];simp only[my,Option.getD_none];cases hb:S'.b j with
   |none=>rfl
   |some B=>
    rw[Option.map_some];have:B.cells.map (AV.jt d X)=B.cells:=by
     conv=>rhs;rw[<-List.map_id B.cells]
     exact List.map_congr_left λc hc=>EI (λhm=>h.wf.br j B hb c hc d hm Dd)
    rw[this]
  ·rw[AS.Ea];show(bif Nat.beq j d then hG.dead else(AS.bC _ S').r j)=_;rw[gH,Cf,Cf];by_cases e:j=d
   ·subst e;simp
   simp[cG e,e]
  ·rw[(AS.BZ _ _).1];exact n1.2.2.2.1
  rw[(AS.BZ _ _).2];exact n1.2.2.2.2
 exact bV (C:=C) (by intro c h;cases h) hr' (hL _ _ ⟨E',e▸h4⟩)
end steps
end
section
open Go.RowKit
def cY{J R:Type}(k:J->Option R)(f:(J->Option R)->Option R):Option R:=f k
theorem bind_some{α β:Type}{x:Option α}{f:α->Option β}{r:β}(h:Option.bind x f=some r):∃a,x=some a/\f a=some r:=by
 cases x with
 |none=>cases h
 |some a=>exact⟨a,Y,h⟩
theorem sk{b w:Bool}(h:(b==w)=false):b≠w:=by cases b<;>cases w<;>simp_all
def cI{α:Type}(l:List α)(i:Int):Option α:=if 0<=i then l[i.toNat]? else none
def rf{α:Type}(l:List α)(i:Int):Option Nat:=if 0<=i/\i<l.length then some i.toNat else none
def xV{α:Type}(l:List α)(lo hi:Int):Option (List α):=if 0<=lo/\lo<=hi/\hi<=l.length then some (cut l lo.toNat hi.toNat)else none
def qK{α:Type}(by_:Nat)(l k:List α):Option (List α):=if(l.length+k.length)*by_<=140737488355328/\l.length+k.length<=140737488355328 then some (l++k)else none
def GV{α:Type}(by_:Nat)(c:Int)(z:α):Option (List α):=if 0<=c/\by_*c<=281474976710656/\c<=140737488355328 then some (List.replicate c.toNat z)else none
def HB{α:Type}(by_:Nat)(c:Int):Option (List α):=if 0<=c/\by_*c<=281474976710656/\c<=140737488355328 then some []else none
def stM{α:Type}(l:List α)(n:Nat)(y:α):Option (List α):=if n<l.length then some (l.set n y)else none
def pH(a b:Int):Option Int:=if b=0 then none else some (IntKind.i64.wrap (a.tdiv b))
def Di(a b:Int):Option Int:=if b=0 then none else some (a.tmod b)
def xW(M a b:Nat):Option Nat:=if b=0 then none else some (a/b%M)
def vX(a b:Nat):Option Nat:=if b=0 then none else some (a%b)
def jV(M a b:Nat):Nat:=(((a:Int)-b)%M).toNat
theorem kM{α:Type}{l:List α}{i:Int}{a:α}(h:cI l i=some a):0<=i/\l[i.toNat]? =some a:=by
 unfold cI at h;split at h
 ·exact⟨by assumption,h⟩
 cases h
theorem EJ{α:Type}{l:List α}{i:Int}{k:Nat}(h:rf l i=some k):0<=i/\i<l.length/\i.toNat=k:=by
 unfold rf at h;split at h
 ·rename_i hh;exact⟨hh.1,hh.2,Option.some.inj h⟩
 cases h
theorem wO{α:Type}{l l':List α}{a b:Int}(h:xV l a b=some l'):0<=a/\a<=b/\b<=l.length/\cut l a.toNat b.toNat=l':=by
 unfold xV at h;split at h
 ·rename_i hh;exact⟨hh.1,hh.2.1,hh.2.2,Option.some.inj h⟩
 cases h
theorem pI{α:Type}{by_:Nat}{l k l':List α}(h:qK by_ l k=some l'):(l.length+k.length)*by_<=140737488355328/\l.length+k.length<=140737488355328/\l++k=l':=by
 unfold qK at h;split at h
 ·rename_i hh;exact⟨hh.1,hh.2,Option.some.inj h⟩
 cases h
theorem EK{α:Type}{by_:Nat}{c:Int}{z:α}{l':List α}(h:GV by_ c z=some l'):0<=c/\by_*c<=281474976710656/\c<=140737488355328/\List.replicate c.toNat z=l':=by
 unfold GV at h;split at h
 ·rename_i hh;exact⟨hh.1,hh.2.1,hh.2.2,Option.some.inj h⟩
 cases h
theorem EM{α:Type}{by_:Nat}{c:Int}{l':List α}(h:HB by_ c=some l'):0<=c/\by_*c<=281474976710656/\c<=140737488355328/\[]=l':=by
 unfold HB at h;split at h
 ·rename_i hh;exact⟨hh.1,hh.2.1,hh.2.2,Option.some.inj h⟩
 cases h
theorem zG{α:Type}{l l':List α}{n:Nat}{y:α}(h:stM l n y=some l'):n<l.length/\l.set n y=l':=by
 unfold stM at h;split at h
 ·rename_i hh;exact⟨hh,Option.some.inj h⟩
 cases h
def jw{S E:Type}(body:S->Option (S⊕E)):Nat->S->Option E
 |0,_=>none
 |n+1,s=>match body s with
  |some (.inl s')=>jw body n s'
  |some (.inr e)=>some e
  |none=>none
theorem oC{S E:Type}{body:S->Option (S⊕E)}:∀{n m:Nat} {s:S} {e:E},n<=m->jw body n s=some e->jw body m s=some e
 |0,_,_,_,_,h=>by cases h
 |n+1,0,_,_,hm,_=>by omega
 |n+1,m+1,s,e,hm,h=>by
  unfold jw at h⊢;cases hb:body s with
  |none=>rw[hb]at h;cases h
  |some y=>
   rw[hb]at h;cases y with
   |inl s'=>exact oC (by omega) h
   |inr e'=>exact h
open Classical in
noncomputable def cK{S E:Type}(body:S->Option (S⊕E))(s:S):Option E:=if h:∃n e,jw body n s=some e then some (Classical.choose (Classical.choose_spec h))else none
theorem oD{S E:Type}{body:S->Option (S⊕E)}{s:S}{e:E}(h:cK body s=some e):∃n,jw body n s=some e:=by
 unfold cK at h;split at h
 ·rename_i hh;exact⟨_,by rw[<-Option.some.inj h];exact Classical.choose_spec (Classical.choose_spec hh)⟩
 cases h
theorem uH{S E:Type}{body:S->Option (S⊕E)}{s:S}{e:E}{n:Nat}(h:jw body n s=some e):cK body s=some e:=by
 have hh:∃n e,jw body n s=some e:=⟨n,e,h⟩;unfold cK;rw[dif_pos hh];have h2:=Classical.choose_spec (Classical.choose_spec hh);have h3:=oC (Nat.le_max_left n (Classical.choose hh)) h;have h4:=oC (Nat.le_max_right n (Classical.choose hh)) h2;rw[h3]at h4;exact h4.symm
theorem oE{S E:Type}{body:S->Option (S⊕E)}{s:S}{e:E}(h:body s=some (.inr e)):cK body s=some e:=uH (n:=1) (by simp[jw,h])
theorem uI{S E:Type}{body:S->Option (S⊕E)}{s s':S}(h:body s=some (.inl s')):cK body s=cK body s':=by
 cases hl:cK body s' with
 |some e=>obtain⟨n,hn⟩:=oD hl;exact uH (n:=n+1) (by simp[jw,h,hn])
 |none=>
  cases TV:cK body s with
  |none=>rfl
  |some e=>
   obtain⟨n,hn⟩:=oD TV;cases n with
   |zero=>cases hn
   |succ n=>simp only[jw,h]at hn;rw[uH hn]at hl;cases hl
theorem ri{S E:Type}{body:S->Option (S⊕E)}(I:S->Prop)(Post:E->Prop)(μ:S->Nat)
  (step:∀s,I s->(∃s',body s=some (.inl s')/\I s'/\μ s'<μ s)\/(∃e,body s=some (.inr e)/\Post e)) {s:S} (h:I s):∃e,cK body s=some e/\Post e:=by
 have key:∀(n:Nat) (s:S),μ s<=n->I s->∃e,cK body s=some e/\Post e:=by
  intro n
  induction n with
  |zero=>
   intro s hn hs;rcases step s hs with⟨s',_,_,h3⟩|⟨e,h1,h2⟩
   ·omega
   exact⟨e,oE h1,h2⟩
  |succ n ih=>
   intro s hn hs;rcases step s hs with⟨s',h1,h2,h3⟩|⟨e,h1,h2⟩
   ·obtain⟨e,q1,q2⟩:=ih s' (by omega) h2;exact⟨e,by rw[uI h1];exact q1,q2⟩
   exact⟨e,oE h1,h2⟩
 exact key _ s (Nat.le_refl _) h
theorem EN{S E:Type}{body:S->Option (S⊕E)}(st:Nat->S)(n:Nat){e:E}(hs:∀k,k<n->body (st k)=some (.inl (st (k+1))))(he:body (st n)=some (.inr e)):cK body (st 0)=some e:=by
 have key:∀k,k<=n->cK body (st (n-k))=some e:=by
  intro k
  induction k with
  |zero=>intro _;exact oE he
  |succ k ih=>
   intro hk;rw[uI (hs (n-(k+1)) (by omega)),show n-(k+1)+1=n-k by omega];exact ih (by omega)
 have:=key n (Nat.le_refl _);rwa[Nat.sub_self]at this
theorem pJ{p q:Int}{c:Bool}(h:decide (p=q)=c):(p==q)=c:=by rw[<-h];exact Bool.beq_eq_decide_eq p q
theorem D1{p q:Int}{c:Bool}(h:decide (p≠q)=c):(p != q)=c:=by rw[<-h,bne,Bool.beq_eq_decide_eq p q];simp
theorem OG{p q:Nat}{c:Bool}(h:decide (p=q)=c):((p:Int)==(q:Int))=c:=pJ (by rw[<-h];simp[Int.natCast_inj])
theorem NM{p q:Nat}{c:Bool}(h:decide (p≠q)=c):((p:Int) != (q:Int))=c:=D1 (by rw[<-h];simp[Int.natCast_inj])
theorem NN{p q:Nat}{c:Bool}(h:decide (p<q)=c):decide ((p:Int)<(q:Int))=c:=by rw[<-h];simp
theorem Wc{p q:Nat}{c:Bool}(h:decide (p<=q)=c):decide ((p:Int)<=(q:Int))=c:=by rw[<-h];simp
theorem Wd{p q c:Int}(h:max p q=c):(if q>p then q else p)=c:=by rw[<-h];split<;>omega
theorem OH{p q c:Int}(h:min p q=c):(if q<p then q else p)=c:=by rw[<-h];split<;>omega
class UK (k:IntKind) (b:outParam Nat) (M:outParam Nat):Prop where
 w:∀x:Int,k.wrap x=x%M
 hb:k.bits=b
 hm:2^b=M
instance:UK .u8 8 256:=⟨λx=>by simp[IntKind.wrap,IntKind.signed,IntKind.bits],rfl,by decide⟩
instance:UK .u32 32 4294967296:=⟨λx=>by simp[IntKind.wrap,IntKind.signed,IntKind.bits],rfl,by decide⟩
instance:UK .u64 64 18446744073709551616:=⟨λx=>by simp[IntKind.wrap,IntKind.signed,IntKind.bits],rfl,by decide⟩
section uk
variable {k:IntKind}{bi M a b c:Nat}[u:UK k bi M]
include u
theorem UK.pos:0<M:=by rw[<-u.hm];exact Nat.two_pow_pos _
theorem UK.nat(h:a%M=c):k.wrap (a:Int)=(c:Int):=by rw[u.w,<-h,Int.natCast_emod]
theorem UK.add(h:(a+b)%M=c):k.wrap ((a:Int)+(b:Int))=(c:Int):=by rw[<-Int.natCast_add];exact UK.nat h
theorem UK.mul(h:(a*b)%M=c):k.wrap ((a:Int)*(b:Int))=(c:Int):=by rw[<-Int.natCast_mul];exact UK.nat h
theorem UK.sub(h:jV M a b=c):k.wrap ((a:Int)-(b:Int))=(c:Int):=by
 rw[u.w,<-h,jV,Int.toNat_of_nonneg];exact Int.emod_nonneg _ (by have:=UK.pos (k:=k) (bi:=bi) (M:=M);omega)
theorem UK.neg(h:jV M 0 a=c):k.wrap (0-(a:Int))=(c:Int):=UK.sub h
theorem UK.conv{p:Int}(h:(p%M).toNat=c):k.wrap p=(c:Int):=by
 rw[u.w,<-h,Int.toNat_of_nonneg];exact Int.emod_nonneg _ (by have:=UK.pos (k:=k) (bi:=bi) (M:=M);omega)
theorem UK.quo(h:xW M a b=some c):k.wrap ((a:Int).tdiv (b:Int))=(c:Int):=by
 unfold xW at h;split at h
 ·cases h
 rw[Int.tdiv_eq_ediv_of_nonneg (by omega),<-Int.natCast_ediv];exact UK.nat (Option.some.inj h)
theorem UK.shl{q:Int}{s:Nat}(hs:min q.toNat k.bits=s)(h:a*2^s%M=c):k.wrap ((a:Int)*2^(min q.toNat k.bits))=(c:Int):=by
 rw[hs,show(a:Int)*2^s=((a*2^s:Nat):Int) by rw[Int.natCast_mul,Int.natCast_pow];rfl];exact UK.nat h
theorem UK.ofInt(a:Nat):(BitVec.ofInt k.bits (a:Int)).toNat=a%M:=by
 rw[BitVec.ofInt_natCast,BitVec.toNat_ofNat,u.hb,u.hm]
theorem UK.or(h:(a ||| b)%M=c):k.wrap ((BitVec.ofInt k.bits (a:Int) ||| BitVec.ofInt k.bits (b:Int)).toNat)=(c:Int):=by
 rw[BitVec.toNat_or,UK.ofInt,UK.ofInt,<-u.hm,<-Nat.or_mod_two_pow,u.hm,h,UK.nat (a:=c) (c:=c)];rw[<-h,Nat.mod_mod]
end uk
theorem xX{k:IntKind}{a c s:Nat}{q:Int}(hs:min q.toNat k.bits=s)(h:a/2^s=c):(a:Int).fdiv (2^(min q.toNat k.bits))=(c:Int):=by
 rw[hs,Int.fdiv_eq_ediv_of_nonneg _ (Int.le_of_lt (Int.pow_pos (by decide))),<-h,Int.natCast_ediv,Int.natCast_pow];rfl
theorem HC{a b c:Nat}(h:vX a b=some c):(a:Int).tmod (b:Int)=(c:Int):=by
 unfold vX at h;split at h
 ·cases h
 rw[Int.tmod_eq_emod_of_nonneg (by omega),<-Option.some.inj h];rfl
theorem We{M a b c:Nat}(h:xW M a b=some c):(b:Int)≠0:=by
 unfold xW at h;split at h
 ·cases h
 omega
theorem T1{a b c:Nat}(h:vX a b=some c):(b:Int)≠0:=by
 unfold vX at h;split at h
 ·cases h
 omega
theorem Wf{a b c:Int}(h:pH a b=some c):b≠0:=by unfold pH at h;split at h<;>simp_all
theorem Wg{a b c:Int}(h:Di a b=some c):b≠0:=by unfold Di at h;split at h<;>simp_all
theorem Ln{a b c:Int}(h:pH a b=some c):IntKind.i64.wrap (a.tdiv b)=c:=by
 unfold pH at h;split at h
 ·cases h
 exact Option.some.inj h
theorem Wh{a b c:Int}(h:Di a b=some c):a.tmod b=c:=by
 unfold Di at h;split at h
 ·cases h
 exact Option.some.inj h
abbrev Wi(x:Nat):List SV:=[.v (.int .u8 (x:Nat))]
abbrev aY(x:Nat):List SV:=[.v (.int .u32 (x:Nat))]
abbrev Wj(x:Int):List SV:=[.v (.int .i16 x)]
abbrev Lo(x:Int):List SV:=[.v (.int .i64 x)]
abbrev eB(x:Bool):List SV:=[.v (.bool x)]
abbrev eS{α:Type}(n:Nat)(e:α->List SV)(l:List α):List SV:=[slc n (l.map e)]
structure Zr where
 neg:Bool
 w:List Nat
structure Qr where
 num:Zr
 den:Zr
abbrev eZ(z:Zr):List SV:=[.v (.bool z.neg),slc 1 (z.w.map aY)]
abbrev eQ(q:Qr):List SV:=[.v (.bool q.num.neg),slc 1 (q.num.w.map aY),.v (.bool q.den.neg),slc 1 (q.den.w.map aY)]
class EL {α:Type} (e:α->List SV) (n:outParam Nat):Prop where
 len:∀x,(e x).length=n
 one:∀x,ug (e x)
instance:EL aY 1:=⟨λ_=>rfl,λ_=>inferInstance⟩
instance:EL eZ 2:=⟨λ_=>rfl,λ_=>inferInstance⟩
instance:EL eQ 4:=⟨λ_=>rfl,λ_=>inferInstance⟩
structure En where
 acc:Int
 kd:Nat
 hour:Int
 iH:Zr
abbrev iF(x:En):List SV:=[.v (.int .i64 x.acc),.v (.int .u8 ((x.kd:Nat):Int)),.v (.int .i64 x.hour),.v (.bool x.iH.neg),slc 1 (x.iH.w.map aY)]
instance:EL iF 5:=⟨λ_=>rfl,λ_=>inferInstance⟩
structure Mv where
 acc:Int
 kd:Nat
 hour:Int
 fm:Qr
abbrev wP(x:Mv):List SV:=[.v (.int .i64 x.acc),.v (.int .u8 ((x.kd:Nat):Int)),.v (.int .i64 x.hour),.v (.bool x.fm.num.neg),slc 1 (x.fm.num.w.map aY),.v (.bool x.fm.den.neg),slc 1 (x.fm.den.w.map aY)]
instance:EL wP 7:=⟨λ_=>rfl,λ_=>inferInstance⟩
abbrev TR(E:TypeId)(sz:Nat){α:Type}(e:α->List SV)(l:List α):Row:=⟨E,sz,l.length,l.flatMap e⟩
theorem aB{α:Type}{n:Nat}{e:α->List SV}:SV.imp (.v (.slice none 0 0)) (slc n (([]:List α).map e)):=λ_ _ h=>.inl ⟨none,h,Y⟩
theorem mG{α:Type}(e:α->List SV)(l:List α):(l.map e).flatten=l.flatMap e:=by rw[List.flatMap_def]
theorem mH{α:Type}{e:α->List SV}{n:Nat}[h:EL e n](l:List α):Rows n (l.map e) (l.flatMap e):=⟨mG e l,λr hr=>by obtain⟨x,_,rfl⟩:=List.mem_map.1 hr;exact h.len x⟩
theorem wQ{M:Mem}:∀{l k:List SV} {vs:List Value},SV.da M (l++k) vs->∃us ws,vs=us++ws/\SV.da M l us/\SV.da M k ws
 |[],_,vs,h=>⟨[],vs,Y,aq,h⟩
 |_::_,_,[],h=>h.elim
 |_::l,_,v::vs,h=>by
  obtain⟨us,ws,rfl,h1,h2⟩:=wQ (l:=l) h.2;exact⟨v::us,ws,Y,⟨h.1,h1⟩,h2⟩
theorem jD{α:Type}{e:α->List SV}{n:Nat}[h:EL e n](l:List α):∀M vs,SV.da M (l.flatMap e) vs->∀v∈vs,v.oneCell'=true:=by
 intro M
 induction l with
 |nil=>intro vs hv;cases vs with|nil=>simp|cons _ _=>exact hv.elim
 |cons x l ih=>
  intro vs hv;rw[List.flatMap_cons]at hv;obtain⟨us,ws,rfl,h1,h2⟩:=wQ hv;intro v hv;rcases List.mem_append.1 hv with hv|hv
  ·exact(h.one x).h M us h1 v hv
  exact ih ws h2 v hv
theorem uJ{α:Type}{e:α->List SV}{n:Nat}[h:EL e n]:∀{l:List α} {k:Nat} {a:α},l[k]? =some a->((l.flatMap e).drop (k*n)).take n=e a
 |[],_,_,hh=>by simp at hh
 |x::l,0,a,hh=>by
  simp only[List.getElem?_cons_zero,Option.some.injEq]at hh;subst hh;rw[List.flatMap_cons,Nat.zero_mul,List.drop_zero,<-h.len x,List.take_left'];rfl
 |x::l,k+1,a,hh=>by
  rw[List.getElem?_cons_succ]at hh;rw[List.flatMap_cons,show(k+1)*n=(e x).length+k*n by rw[h.len,Nat.add_mul];omega,<-List.drop_drop,List.drop_left']
  ·exact uJ hh
  rfl
theorem zH{α:Type}{e:α->List SV}{n:Nat}[h:EL e n]{y:α}:∀{l:List α} {k:Nat},k<l.length->iD (l.flatMap e) (k*n) (e y)=(l.set k y).flatMap e:=by
 have Wk:∀(u:List SV) (a b:List SV) (j:Nat),j+u.length<=a.length->iD (a++b) j u=iD a j u++b:=by
  intro u
  induction u with
  |nil=>intro a b j _;rfl
  |cons s u ih=>
   intro a b j hj;simp only[List.length_cons]at hj;simp only[iD];rw[List.set_append_left _ _ (by omega),ih _ _ _ (by rw[List.length_set];omega)]
 have Wm:∀(u:List SV) (a b:List SV) (j:Nat),iD (a++b) (a.length+j) u=a++iD b j u:=by
  intro u
  induction u with
  |nil=>intro a b j;rfl
  |cons s u ih=>
   intro a b j;simp only[iD];rw[List.set_append_right _ _ (by omega),show a.length+j-a.length=j by omega,show a.length+j+1=a.length+(j+1) by omega,ih]
 have Wn:∀(u a:List SV),u.length=a.length->iD a 0 u=u:=by
  have gen:∀(u a p:List SV),u.length=a.length->iD (p++a) p.length u=p++u:=by
   intro u
   induction u with
   |nil=>intro a p ha;have:a=[]:=List.eq_nil_of_length_eq_zero ha.symm;subst this;rfl
   |cons s u ih=>
    intro a p ha;cases a with
    |nil=>cases ha
    |cons t a=>
     simp only[iD];rw[List.set_append_right _ _ (Nat.le_refl _),Nat.sub_self,List.set_cons_zero,show p++s::a=(p++[s])++a by simp,show p.length+1=(p++[s]).length by simp,ih a _ (by simpa using ha)];simp
  intro u a ha;exact gen u a [] ha
 intro l
 induction l with
 |nil=>intro k hk;simp at hk
 |cons x l ih=>
  intro k hk;cases k with
  |zero=>
   rw[List.set_cons_zero,List.flatMap_cons,List.flatMap_cons,Nat.zero_mul,Wk _ _ _ _ (by rw[h.len,h.len];omega),Wn _ _ (by rw[h.len,h.len])]
  |succ k=>
   simp only[List.length_cons]at hk;rw[List.set_cons_succ,List.flatMap_cons,List.flatMap_cons,show(k+1)*n=(e x).length+k*n by rw[h.len,Nat.add_mul];omega,Wm,ih (by omega)]
end
section
open Go.RowKit
section steps
variable {P:Program}{C:Ctx}{ops:Array Oper}{S:AS}{nd:Bool}{K:List Ac->AS->Prop}{rest:List Oper}{acc:List Ac}
variable {gd:Option (Nat×Bool)}{rg:List Nat}{d:Nat}{ty:TypeId}{pos:String}{aft:Array Edge}{x y z:Operand}{T U E0:TypeId}
variable {α:Type}{l l' k:List α}{e:α->List SV}{n by_:Nat}{zv:Value}
theorem RT.Wo(hg:Gd ops S gd rg){s X:SV}(hx:S.ev x=.sv s)(hi:SV.imp s X)(hd:d<S.n)
  (next:RunT P C ops nd K rest (⟨rg++aW x,[],[],⟨some (d,.sv X),[],[]⟩⟩::acc) (S.set d (.sv X))):RunT P C ops nd K (⟨some d,.assign x,ty,pos,aft,gd⟩::rest) acc S:=
 RT.value hg (aW x) [] [] (.sv X) hd (by intro c h;cases h) (λS' ht _ _ E a w h=>by
  have hx':S'.ev x=.sv s:=by rw[bk (λ_ h=>h) ht,hx]
  exact⟨a.eval x,Y,by have:=h.ev x;rw[hx']at this;exact hi _ _ this,dY⟩) next
theorem Dj{E:Env}:∀{l l':List SV} {vs:List Value},cO l l'->SV.da E.M l vs->cn E (l'.map AV.sv) vs:=λhi h=>cn.o9 (hi.holds h)
theorem xY(M:Mem):∀l:List Value,SV.da M (l.map SV.v) l
 |[]=>trivial
 |_::l=>⟨Y,xY M l⟩
theorem RT.Lp(hg:Gd ops S gd rg)[tz:iK P T zv]{cs:List SV}(hi:cO (zv.cells.toList.map SV.v) cs){av:List AV}(Wp:cs.map AV.sv=av)(hd:d<S.n)(hb:S.b d=none)(hp:C.eY d=none)
  (next:RunT P C ops nd K rest (⟨rg++[],[d],[],⟨some (d,.ptr d 0),[(d,⟨T,av⟩)],[]⟩⟩::acc) ((S.gL d ⟨T,av⟩).set d (.ptr d 0))):RunT P C ops nd K (⟨some d,.alloc T,ty,pos,aft,gd⟩::rest) acc S:=by
 subst Wp;exact RT.B4 hg (by intro c h;cases h) [] hd hb hp (λS' _ E a w h=>⟨zv.cells.toList,by simp[execOp,Instr.alloc,newVar,newRow,tz.run],Dj hi (xY _ _),λy hy=>by
  obtain⟨s,_,rfl⟩:=List.mem_map.1 hy;exact dY⟩) next
theorem RT.Lq(hg:Gd ops S gd rg){pl:List (Nat×Nat)}{zc:List Value}[tP:gz P T pl zc]{parts:Array (Nat×Operand)}{qs:List (Nat×List SV)}(hp:ju S parts.toList qs){cs cs':List SV}(hf:nU (λi=>pl[i]?) (zc.map SV.v) qs=some cs)(hi:cO cs cs')(hd:d<S.n)
  (next:RunT P C ops nd K rest (⟨rg++iq parts.toList,[],[],⟨some (d,.sv (.agg cs')),[],[]⟩⟩::acc) (S.set d (.sv (.agg cs')))):RunT P C ops nd K (⟨some d,.build T parts,ty,pos,aft,gd⟩::rest) acc S:=by
 refine RT.value hg (iq parts.toList) [] [] (.sv (.agg cs')) hd (by intro c h;cases h) (λS' ht _ _ E a w h=>?_) next
 have hu:=tP.h;cases hT:P.underlying T with
 |none=>rw[hT]at hu;cases hu
 |some u=>
  rw[hT]at hu;cases u with
  |struct fs=>
   simp only at hu;have hz:(zeroValue T).run P w=.ok (.agg ⟨zc⟩) w:=iK.run (t:=⟨tP.hz⟩) w;obtain⟨us,h1,h2,_⟩:=uy h (λi=>pl[i]?) hp ht (cells:=zc.map SV.v) (vs:=zc) (xY _ zc) (List.all_eq_true.1 tP.o) hf;refine⟨.agg ⟨us⟩,?_,⟨us,Y,hi.holds h2⟩,dY⟩;have hm:(fs.mapM (λf=>do pure (f.offset,<-sizeOf f.type):Field->Sem (Nat×Nat))).run P w=.ok pl.toArray w:=by
    have:=mE (P:=P) (w:=w) hu;rw[<-Array.toArray_toList (xs:=fs),List.mapM_toArray];rw[Sem.run_map,this];rfl
   have h1':Instr.fill (λi=>pl.toArray[i]?) ⟨zc⟩ (parts.toList.map λp=>(p.1,a.eval p.2))=some ⟨us⟩:=by simpa using h1
   simp only[execOp,Instr.build,underlying];simp only[Sem.run_bind,hz,Result.andThen_ok,run_program,hT,Sem.run_pure,Value.cells];have hm':(Array.mapM (λf=>do
     let __do_lift<-sizeOf f.type
     pure (f.offset,__do_lift)) fs:Sem _).run P w=.ok pl.toArray w:=hm
   simp only[hm',Result.andThen_ok];have e4:(Array.map (λx=>match x with|(i,x)=>(i,a.eval x)) parts).toList=parts.toList.map λp=>(p.1,a.eval p.2):=by simp
   simp only[e4,h1',Sem.run_pure,Result.andThen_ok]
  |_=>cases hu
theorem Pure.w{f:FuncId}{args args':List SV}{r:SV}(h:Pure P f args r)(hi:cO args' args):Pure P f args' r:=λM w vs hM hv=>h M w vs hM (hi.holds hv)
theorem Pure.r{f:FuncId}{args:List SV}{r r':SV}(h:Pure P f args r)(hi:SV.imp r r'):Pure P f args r':=λM w vs hM hv=>(h M w vs hM hv).mono λ_ _ ⟨v,M',h1,h2,h3,h4,h5,h6⟩=>⟨v,M',h1,h2,h3,h4,hi _ _ h5,h6⟩
theorem RT.OI(hg:Gd ops S gd rg){m:Nat}[tS:dD P T E0 m]{c:Int}(hx:S.ev x=.sv (slc n (l.map e)))(hd:d<S.n)(hc:(l.length:Int)=c)
  (next:RunT P C ops nd K rest (⟨rg++aW x,[],[],⟨some (d,.sv (.v (.int .i64 c))),[],[]⟩⟩::acc) (S.set d (.sv (.v (.int .i64 c))))):RunT P C ops nd K (⟨some d,.call ⟨.builtin .len,#[x],#[T]⟩,ty,pos,aft,gd⟩::rest) acc S:=
 RT.len hg hx hd (by rw[List.length_map,hc];exact next)
theorem RT.OJ(hg:Gd ops S gd rg){m:Nat}[tS:dD P T E0 m]{i:Nat}{E1:TypeId}{c:Int}(hx:S.ev x=.row i)(hR:S.r i=.live (TR E1 n e l))(hd:d<S.n)(hc:(l.length:Int)=c)
  (next:RunT P C ops nd K rest (⟨rg++aW x,[],[i],⟨some (d,.sv (.v (.int .i64 c))),[],[]⟩⟩::acc) (S.set d (.sv (.v (.int .i64 c))))):RunT P C ops nd K (⟨some d,.call ⟨.builtin .len,#[x],#[T]⟩,ty,pos,aft,gd⟩::rest) acc S:=
 RT.VJ hg hx hR hd (by show RunT _ _ _ _ _ _ (⟨_,_,_,⟨some (d,.sv (.v (.int .i64 (l.length:Int)))),_,_⟩⟩::_) (S.set d (.sv (.v (.int .i64 (l.length:Int)))));rw[hc];exact next)
theorem RT.Dk(hg:Gd ops S gd rg)[tS:dD P T E0 n]{kk:IntKind}{i:Int}{a:α}(hx:S.ev x=.sv (slc n (l.map e)))(hy:S.ev y=.sv (.v (.int kk i)))(hd:d<S.n)(ha:cI l i=some a)
  (next:RunT P C ops nd K rest (⟨rg++(aW x++aW y),[],[],⟨some (d,.sv (ref (e a))),[],[]⟩⟩::acc) (S.set d (.sv (ref (e a))))):RunT P C ops nd K (⟨some d,.indexAddr T x y,ty,pos,aft,gd⟩::rest) acc S:=
 RT.indexAddr hg (e a) hx hy hd (kM ha).1 (by rw[List.getElem?_map,(kM ha).2];rfl) next
theorem RT.EO(hg:Gd ops S gd rg)[tS:dD P T E0 n]{lo hi:Option Operand}(a b:Int)(hx:S.ev x=.sv (slc n (l.map e)))(hlo:uz S 0 lo a)(hhi:uz S l.length hi b)(hd:d<S.n)(h:xV l a b=some l')
  (next:RunT P C ops nd K rest (⟨rg++(aW x++(jv lo++jv hi)),[],[],⟨some (d,.sv (slc n (l'.map e))),[],[]⟩⟩::acc) (S.set d (.sv (slc n (l'.map e))))):RunT P C ops nd K (⟨some d,.slice T x lo hi none,ty,pos,aft,gd⟩::rest) acc S:=by
 obtain⟨h0,h1,h2,h3⟩:=wO h;exact RT.slice hg hx a b hlo (by rw[List.length_map];exact hhi) hd h0 h1 (by rw[List.length_map];exact h2) _ (by rw[B8,h3]) next
theorem RT.HD(hg:Gd ops S gd rg)[tS:dD P T E0 n][tE:gy P E0 n by_ zv]{len:Nat}{parts:Array (Nat×Operand)}{qs:List (Nat×List SV)}(hp:ju S parts.toList qs)(hd:d<S.n)
  (hc:kF 0 qs=true) (hl:qs.length=len) (hsz:(qs.all λq=>Nat.beq q.2.length n)=true) (hlen:Nat.ble (len*n) 16777216=true) (De:(zv.cells.toList.all λv=>v.oneCell')=true) (gX:qs.map (·.2)=l.map e)
  (next:RunT P C ops nd K rest (⟨rg++iq parts.toList,[],[],⟨some (d,.sv (slc n (l.map e))),[],[]⟩⟩::acc) (S.set d (.sv (slc n (l.map e))))):RunT P C ops nd K (⟨some d,.buildSlice T len parts,ty,pos,aft,gd⟩::rest) acc S:=
 RT.buildSlice hg hp hd hc hl hsz (af hlen) (List.all_eq_true.1 De) gX next
theorem RT.xZ(hg:Gd ops S gd rg)[tS:dD P T E0 n][tE:gy P E0 n by_ zv]{len:Nat}{parts:Array (Nat×Operand)}{qs:List (Nat×List SV)}(hp:ju S parts.toList qs)(hd:d<S.n)(qX:S.r d=.un)(o6:d<1000)
  (hc:kF 0 qs=true) (hl:qs.length=len) (hsz:(qs.all λq=>Nat.beq q.2.length n)=true) (hlen:Nat.ble (len*n) 16777216=true) (De:(zv.cells.toList.all λv=>v.oneCell')=true) (gX:qs.map (·.2)=l.map e)
  (next:RunT P C ops nd K rest (⟨rg++iq parts.toList,[],[d],⟨some (d,.row d),[],[(d,.live (TR E0 n e l))]⟩⟩::acc) ((AS.bC [(d,.live (TR E0 n e l))] S).set d (.row d))):RunT P C ops nd K (⟨some d,.buildSlice T len parts,ty,pos,aft,gd⟩::rest) acc S:=by
 refine RT.zC hg hp hd qX o6 hc hl hsz (af hlen) (List.all_eq_true.1 De) (cells:=l.flatMap e) (by rw[gX,mG]) ?_;have:len=l.length:=by have h0:=congrArg List.length gX;simpa[hl]using h0
 rw[this];exact next
theorem RT.apR(hg:Gd ops S gd rg)[tS:dD P T E0 n][tE:gy P E0 n by_ zv]{i:Nat}(hx:S.ev x=.row i)(hR:S.r i=.live (TR E0 n e l))(hy:S.ev y=.sv (slc n (k.map e)))(hd:d<S.n)(qX:S.r d=.un)(o6:d<1000)(h:qK by_ l k=some l')
  (next:RunT P C ops nd K rest (⟨rg++(aW x++aW y),[],[i,d],⟨some (d,.row d),[],[(i,.dead),(d,.live (TR E0 n e l'))]⟩⟩::acc) ((AS.bC [(i,.dead),(d,.live (TR E0 n e l'))] S).set d (.row d))):RunT P C ops nd K (⟨some d,.call ⟨.builtin .append,#[x,y],#[T,T]⟩,ty,pos,aft,gd⟩::rest) acc S:=by
 obtain⟨h1,h2,rfl⟩:=pI h;exact RT.Hq hg hx hR hy hd qX o6 (by simpa using h1) (by simpa using h2) _ (by simp[mG]) next
theorem RT.HE(hg:Gd ops S gd rg)[tS:dD P T E0 n][tE:gy P E0 n by_ zv][el:EL e n]{i:Nat}(hx:S.ev x=.row i)(hR:S.r i=.live (TR E0 n e l))(hy:S.ev y=.sv (slc n (k.map e)))(hd:d<S.n)(qX:S.r d=.un)(o6:d<1000)(h:qK by_ l k=some l')
  (next:RunT P C ops nd K rest (⟨rg++(aW x++aW y),[],[d,i],⟨some (d,.sv (slc n (l'.map e))),[],[(i,.dead),(d,.dead)]⟩⟩::acc) ((AS.bC [(i,.dead),(d,.dead)] S).set d (.sv (slc n (l'.map e))))):RunT P C ops nd K (⟨some d,.call ⟨.builtin .append,#[x,y],#[T,T]⟩,ty,pos,aft,gd⟩::rest) acc S:=by
 obtain⟨h1,h2,rfl⟩:=pI h;have hf:l.flatMap e++(k.map e).flatten=(l++k).flatMap e:=by simp[mG]
 exact RT.Ce hg (.row hx hR) hy hd qX o6 (by simpa using h1) (by simpa using h2) _ (rows':=(l++k).map e) (λ_ _ h _=>h) (by rw[hf];exact mH _) (by simp) (by rw[hf];exact jD _) next
theorem wS(zc:Array Value)(n:Nat)(hz:zc.size=n)(hn:0<n):∀m:Nat,(madeCells zc (m*n)).toList=(List.replicate m zc.toList).flatten
 |0=>by simp[madeCells]
 |m+1=>by
  have ih:=wS zc n hz hn m;rw[List.replicate_succ',List.flatten_append,<-ih];simp only[madeCells,Array.toList_map,Array.toList_range,List.flatten_cons,List.flatten_nil,List.append_nil];rw[show(m+1)*n=m*n+n by rw[Nat.add_mul];omega,List.range_add,List.map_append,List.map_map];congr 1;apply List.ext_getElem?;intro i;rw[List.getElem?_map];rcases Nat.lt_or_ge i n with hi|hi
  ·rw[List.getElem?_range hi];simp only[Option.map_some,Function.comp];rw[hz,Nat.mul_comm m n,Nat.mul_add_mod,Nat.mod_eq_of_lt hi];rw[getElem!_pos zc i (by omega),Array.getElem?_toList,Array.getElem?_eq_getElem (by omega)]
  rw[List.getElem?_eq_none (by simpa using hi),List.getElem?_eq_none (by simp;omega)];rfl
theorem zJ:∀{a b c d:List SV},cO a c->cO b d->cO (a++b) (c++d)
 |[],_,[],_,_,h=>h
 |_::_,_,_::_,_,h,h'=>⟨h.1,zJ h.2 h'⟩
 |[],_,_::_,_,h,_=>h.elim
 |_::_,_,[],_,h,_=>h.elim
theorem zK{zl:List Value}{zz:α}(hi:cO (zl.map SV.v) (e zz)):∀m:Nat,cO ((List.replicate m zl).flatten.map SV.v) ((List.replicate m zz).flatMap e)
 |0=>trivial
 |m+1=>by
  rw[List.replicate_succ,List.replicate_succ,List.flatten_cons,List.map_append,List.flatMap_cons];exact zJ hi (zK hi m)
theorem RT.zL(hg:Gd ops S gd rg)[tS:dD P T E0 n][tE:gy P E0 n by_ zv]{kl kc:IntKind}{c:Int}{zz:α}(hx:S.ev x=.sv (.v (.int kl c)))(hy:S.ev y=.sv (.v (.int kc c)))(hd:d<S.n)(qX:S.r d=.un)(o6:d<1000)(hz:zv.cells.size=n)(hn:0<n)(hi:cO (zv.cells.toList.map SV.v) (e zz))(hm:GV by_ c zz=some l')
  (next:RunT P C ops nd K rest (⟨rg++(aW x++aW y),[],[d],⟨some (d,.row d),[],[(d,.live (TR E0 n e l'))]⟩⟩::acc) ((AS.bC [(d,.live (TR E0 n e l'))] S).set d (.row d))):RunT P C ops nd K (⟨some d,.makeSlice T x y,ty,pos,aft,gd⟩::rest) acc S:=by
 obtain⟨h0,hroom,mB,rfl⟩:=EK hm;refine .inl ⟨_,[],[d],_,?_,next⟩;rintro S' hn' ht _ hr i a w L Q ho ⟨E,h⟩ hL;refine bU (C:=C) ho (hg.wanted h (λs hs=>ht s (List.mem_append_left _ hs)) Y) ?_;have h1:a.eval x=.int kl c:=by have h1:=h.ev x;rw[bk (λ_ h=>List.mem_append_right _ (List.mem_append_left _ h)) ht,hx]at h1;exact h1
 have h2:a.eval y=.int kc c:=by have h2:=h.ev y;rw[bk (λ_ h=>List.mem_append_right _ (List.mem_append_right _ h)) ht,hy]at h2;exact h2
 obtain⟨info,hii,hsz,hby,VO⟩:=gy.info (P:=P) (E:=E0) (n:=n) (by_:=by_) (z:=zv);obtain⟨m,rfl⟩:=Int.eq_ofNat_of_zero_le h0;have hb':info.bytes*m<=281474976710656:=by
  rw[hby];have:((by_*m:Nat):Int)<=281474976710656:=by rw[Int.natCast_mul];exact hroom
  omega
 obtain⟨w',q1,q2,q3⟩:=run_make_full (P:=P) w 0 T E0 info zv n tS.u hii VO hsz kl kc m hb' (by unfold maxLen;omega) (Nat.zero_le _);have hr':(execOp a.eval ⟨some d,.makeSlice T x y,ty,pos,aft,gd⟩).run P w=.ok (.value (.slice (some ⟨w.heap.size,0,none⟩) m m)) w':=by
  simp only[execOp,h1,h2];simp[q1]
 have Dd:S'.r d=.un:=by rw[hr d (by simp)];exact qX
 have e0:(m:Int).toNat=m:=by simp
 have hall:SV.da E.M ((List.replicate m zz).flatMap e) (madeCells zv.cells (m*n)).toList:=by
  rw[wS zv.cells n hz hn];exact cO.holds (l:=((List.replicate m zv.cells.toList).flatten.map SV.v)) (zK hi m) (xY _ _)
 have hlen:(List.replicate (m:Int).toNat zz).length=m:=by simp
 refine bV (C:=C) (by intro c h;cases h) hr' (hL _ _ ⟨_,(h.newRow Dd o6 [] none (.inl ⟨rfl,rfl⟩) (R':=TR E0 n e (List.replicate (m:Int).toNat zz)) (by show w'.ownsRow 0 E0 n _ (List.replicate (m:Int).toNat zz).length _;rw[hlen];exact q2) (by rw[e0];exact hall) (.inr (.inl rfl)) q3).put (d:=d) (x:=.row d) (v:=.slice (some ⟨w.heap.size,0,none⟩) m m) (by simp[AV.holds]) (by show d<S'.n;omega) ⟨λ_ e=>e.elim,λj e=>?_⟩⟩);cases e;show(AS.kJ S' d _).r d≠_;rw[AS.eP];simp
theorem RT.Cg(hg:Gd ops S gd rg)[tS:dD P T E0 n][tE:gy P E0 n by_ zv]{kl kc:IntKind}{c:Int}(hx:S.ev x=.sv (.v (.int kl 0)))(hy:S.ev y=.sv (.v (.int kc c)))(hd:d<S.n)(qX:S.r d=.un)(o6:d<1000)(h:HB (α:=α) by_ c=some l')
  (next:RunT P C ops nd K rest (⟨rg++(aW x++aW y),[],[d],⟨some (d,.row d),[],[(d,.live (TR E0 n e l'))]⟩⟩::acc) ((AS.bC [(d,.live (TR E0 n e l'))] S).set d (.row d))):RunT P C ops nd K (⟨some d,.makeSlice T x y,ty,pos,aft,gd⟩::rest) acc S:=by
 obtain⟨h0,h1,h2,rfl⟩:=EM h;exact RT.Oe hg hx hy hd qX o6 h0 h1 h2 next
theorem RT.Wq(hg:Gd ops S gd rg)[tS:dD P T E0 n]{i j:Nat}{E1:TypeId}{kk:IntKind}{v:Int}(hx:S.ev x=.row i)(hR:S.r i=.live (TR E1 n e l))(hy:S.ev y=.sv (.v (.int kk v)))(hd:d<S.n)(h:rf l v=some j)
  (next:RunT P C ops nd K rest (⟨rg++(aW x++aW y),[],[i],⟨some (d,.eX i (j*n)),[],[]⟩⟩::acc) (S.set d (.eX i (j*n)))):RunT P C ops nd K (⟨some d,.indexAddr T x y,ty,pos,aft,gd⟩::rest) acc S:=by
 obtain⟨h0,h1,h2⟩:=EJ h;exact RT.ZV hg (.row hx hR) hy hd h0 h1 (j*n) (by rw[h2];omega) next
theorem RT.OK(hg:Gd ops S gd rg)[tV:nx P T][el:EL e 1]{i j:Nat}{E1:TypeId}{a:α}{s:SV}(hx:S.ev x=.eX i (j*1))(hR:S.r i=.live (TR E1 1 e l))(ha:l[j]? =some a)(hs:e a=[s])(hd:d<S.n)
  (next:RunT P C ops nd K rest (⟨rg++aW x,[],[i],⟨some (d,.sv s),[],[]⟩⟩::acc) (S.set d (.sv s))):RunT P C ops nd K (⟨some d,.load T x,ty,pos,aft,gd⟩::rest) acc S:=by
 refine RT.ldR hg hx hR (s:=s) ?_ hd next
 have:=uJ (e:=e) ha;rw[hs]at this;have h2:=congrArg (·[0]?) this;simpa[List.getElem?_take]using h2
theorem RT.OL(hg:Gd ops S gd rg)[tA:qS P T n][el:EL e n]{i j:Nat}{E1:TypeId}{a:α}(hx:S.ev x=.eX i (j*n))(hR:S.r i=.live (TR E1 n e l))(ha:l[j]? =some a)(hd:d<S.n)
  (next:RunT P C ops nd K rest (⟨rg++aW x,[],[i],⟨some (d,.sv (.agg (e a))),[],[]⟩⟩::acc) (S.set d (.sv (.agg (e a))))):RunT P C ops nd K (⟨some d,.load T x,ty,pos,aft,gd⟩::rest) acc S:=
 RT.VR hg hx hR (uJ ha) (el.len a) hd next
theorem HF(a:List SV)(k:Nat)(s:SV):a.set k s=iD a k [s]:=rfl
theorem RT.Wr(hg:Gd ops S gd rg)[tV:nx P T][el:EL e 1]{i j:Nat}{E1:TypeId}{s:SV}[o1:One s](a:α)(hs:e a=[s])(hx:S.ev x=.eX i (j*1))(hR:S.r i=.live (TR E1 1 e l))(hy:S.ev y=.sv s)(h:stM l j a=some l')
  (next:RunT P C ops nd K rest (⟨rg++(aW x++aW y),[],[i],⟨none,[],[(i,.live (TR E1 1 e l'))]⟩⟩::acc) (AS.bC [(i,.live (TR E1 1 e l'))] S)):RunT P C ops nd K (⟨none,.store T x y,ty,pos,aft,gd⟩::rest) acc S:=by
 obtain⟨h1,rfl⟩:=zG h;refine RT.stR hg hx hR hy (by show j*1+1<=l.length*1;omega) ((l.set j a).flatMap e) (by rw[HF,<-hs];exact zH h1) ?_;have:(TR E1 1 e (l.set j a))=⟨E1,1,l.length,(l.set j a).flatMap e⟩:=by show Row.mk _ _ _ _=_;rw[List.length_set]
 rw[<-this];exact next
theorem RT.OM(hg:Gd ops S gd rg)[tA:qS P T n][el:EL e n]{i j:Nat}{E1:TypeId}(a:α)(hx:S.ev x=.eX i (j*n))(hR:S.r i=.live (TR E1 n e l))(hy:S.ev y=.sv (.agg (e a)))(h:stM l j a=some l')
  (next:RunT P C ops nd K rest (⟨rg++(aW x++aW y),[],[i],⟨none,[],[(i,.live (TR E1 n e l'))]⟩⟩::acc) (AS.bC [(i,.live (TR E1 n e l'))] S)):RunT P C ops nd K (⟨none,.store T x y,ty,pos,aft,gd⟩::rest) acc S:=by
 obtain⟨h1,rfl⟩:=zG h;have o1:=el.one a;refine RT.VS hg hx hR hy (el.len a) (by show j*n+n<=l.length*n;have:=Nat.mul_le_mul_right n h1;rw[Nat.succ_mul]at this;exact this) ((l.set j a).flatMap e) (zH h1) ?_;have:(TR E1 n e (l.set j a))=⟨E1,n,l.length,(l.set j a).flatMap e⟩:=by show Row.mk _ _ _ _=_;rw[List.length_set]
 rw[<-this];exact next
end steps
theorem nB{S:AS}{i n:Nat}{E1:TypeId}{α:Type}{e:α->List SV}{l:List α}[el:EL e n](hR:S.r i=.live (TR E1 n e l)):kL S (S.jt i (slc n (l.map e))):=by
 rintro C a w ⟨E,h⟩;have hlen:l.length<=9223372036854775807:=by
  obtain⟨⟨vs,ho,hv⟩,_⟩:=h.rx i _ hR;rcases ho.2 with⟨_,q2⟩|⟨g',cap,cur,q1,_,q2,q3,q4,q5,q6⟩
  ·have q2:l.length=0:=q2;omega
  have q3:l.length<=cap:=q3;have:maxLen=9223372036854775807:=by decide
  omega
 exact h.jt hR (mH l) (by rw[List.length_map]) hlen (jD l) (λ_ _ h _=>h)
section control
variable {P:Program}{C:Ctx}{S:AS}{Q:Exit->AS->Prop}
theorem bD{A:Code}{J R:Type}{kB:J->Option R}{fA:(J->Option R)->Option R}{r:R}(h:cY kB fA=some r)(I:J->AS)
  (hA:fA kB=some r->Ok P C A S (aV (λS'=>∃j,kB j=some r/\kL S' (I j)) Q)) (hQ:∀j,kB j=some r->Q .normal (I j)):Ok P C A S Q:=λa w hs=>by
 refine wpIn_mono (hA h a w hs) ?_;rintro e a' w' ⟨S',q,hh⟩;cases e with
 |normal=>obtain⟨j,h1,h2⟩:=q;exact⟨_,hQ j h1,h2 C a' w' hh⟩
 |_=>exact⟨S',q,hh⟩
theorem bW{A:Code}{X:Type}(I:X->AS)(p:X->Prop)(hA:Ok P C A S (aV (λS'=>∃j,p j/\kL S' (I j)) Q))(hQ:∀j,p j->Q .normal (I j)):Ok P C A S Q:=λa w hs=>by
 refine wpIn_mono (hA a w hs) ?_;rintro e a' w' ⟨S',q,hh⟩;cases e with
 |normal=>obtain⟨j,h1,h2⟩:=q;exact⟨_,hQ j h1,h2 C a' w' hh⟩
 |_=>exact⟨S',q,hh⟩
theorem bX{c:Code}{T E:Type}{body:T->Option (T⊕E)}{s0:T}{e:E}(h:cK body s0=some e)(I:T->AS)(h0:kL S (I s0))
  (round:∀(s:T) (y:T⊕E) (G:T->Prop),body s=some y->(∀s',y=.inl s'->G s')->(∀e',y=.inr e'->e'=e)->Ok P C c (I s) (aV (λS'=>∃s',G s'/\kL S' (I s')) Q)):Ok P C (.loop c) S Q:=by
 obtain⟨n,hn⟩:=oD h;refine B3 (ι:={x:T×Nat//jw body x.2 x.1=some e}) (λx=>I x.1.1) (λx=>x.1.2) ⟨(s0,n),hn⟩ h0 ?_;rintro⟨⟨s,m⟩,hm⟩;cases m with
 |zero=>cases hm
 |succ m=>
  cases hb:body s with
  |none=>simp only[jw,hb]at hm;cases hm
  |some y=>
   refine xM (round s y (λs'=>jw body m s'=some e) hb ?_ ?_) ?_
   ·rintro s' rfl;simpa only[jw,hb]using hm
   ·rintro e' rfl;simp only[jw,hb]at hm;exact Option.some.inj hm
   intro ex S' q;cases ex with
   |normal=>obtain⟨s',h1,h2⟩:=q;exact⟨⟨(s',m),h1⟩,Nat.lt_succ_self m,h2⟩
   |_=>exact q
end control
end
section
open Go.RowKit
abbrev Lr:=List UInt8
def bs(l:Lr):ByteArray:=⟨⟨l⟩⟩
def nW(l:Lr)(i:Int):Option Nat:=(cI l i).map UInt8.toNat
theorem HG(l:Lr):(bs l).size=l.length:=rfl
theorem Ls(l:Lr)(i:Nat):(bs l)[i]? =l[i]? :=by
 rcases Nat.lt_or_ge i l.length with h|h
 ·rw[getElem?_pos (bs l) i h,List.getElem?_eq_getElem h];rfl
 rw[getElem?_neg (bs l) i (by rw[HG];omega),List.getElem?_eq_none h]
section steps
variable {P:Program}{C:Ctx}{ops:Array Oper}{S:AS}{nd:Bool}{K:List Ac->AS->Prop}{rest:List Oper}{acc:List Ac}
variable {gd:Option (Nat×Bool)}{rg:List Nat}{d:Nat}{ty:TypeId}{pos:String}{aft:Array Edge}{x y z:Operand}{T U E0:TypeId}
variable {l l' k:Lr}
theorem RT.skV{op:Op}{j g:Nat}{b want:Bool}(h1:(ops[j]?).bind (·.dst)=some g)(h2:S.t g=.sv (.v (.bool b)))(hb:b≠want)(hd:d<S.n)
  (next:RunT P C ops nd K rest (⟨[g],[],[],⟨some (d,.sv (.v undef)),[],[]⟩⟩::acc) (S.set d (.sv (.v undef)))):RunT P C ops nd K (⟨some d,op,ty,pos,aft,some (j,want)⟩::rest) acc S:=by
 refine .inl ⟨[g],[],[],⟨some (d,.sv (.v undef)),[],[]⟩,?_,next⟩;rintro S' hn ht _ _ i a w L Q ho ⟨E,h⟩ hL;have hv:=h.tm g;rw[ht g (by simp),h2]at hv;have hv:a.tmps.getD g undef=.bool b:=hv;have ze:a.tmps[g]? =some (.bool b):=by
  rw[Array.getD_eq_getD_getElem?]at hv;cases e:a.tmps[g]? with
  |none=>rw[e]at hv;simp[undef]at hv
  |some x=>rw[e]at hv;simp at hv;rw[hv]
 have hw:Region.wanted ⟨some d,op,ty,pos,aft,some (j,want)⟩ (yielded ops a.tmps)=false:=by
  simp[Region.wanted,yielded,h1,ze,hb]
 simp only[wpOpIn,ho,hw];exact⟨λ_ _=>trivial,hL _ _ ⟨E,h.put (x:=.sv (.v undef)) (v:=undef) Y (by omega) ⟨λ_ h=>h.elim,λ_ h=>h.elim⟩⟩⟩
theorem RT.ON{op:Op}{j g:Nat}{want:Bool}(h1:(ops[j]?).bind (·.dst)=some g)(h2:S.t g=.sv (.v undef))(hd:d<S.n)
  (next:RunT P C ops nd K rest (⟨[g],[],[],⟨some (d,.sv (.v undef)),[],[]⟩⟩::acc) (S.set d (.sv (.v undef)))):RunT P C ops nd K (⟨some d,op,ty,pos,aft,some (j,want)⟩::rest) acc S:=by
 refine .inl ⟨[g],[],[],⟨some (d,.sv (.v undef)),[],[]⟩,?_,next⟩;rintro S' hn ht _ _ i a w L Q ho ⟨E,h⟩ hL;have hv:=h.tm g;rw[ht g (by simp),h2]at hv;have hv:a.tmps.getD g undef=undef:=hv;rw[Array.getD_eq_getD_getElem?]at hv;have hw:Region.wanted ⟨some d,op,ty,pos,aft,some (j,want)⟩ (yielded ops a.tmps)=false:=by
  cases e:a.tmps[g]? with
  |none=>simp[Region.wanted,yielded,h1,e]
  |some x=>
   rw[e]at hv;simp only[Option.getD_some]at hv;subst hv;simp[Region.wanted,yielded,h1,e,undef]
 simp only[wpOpIn,ho,hw];exact⟨λ_ _=>trivial,hL _ _ ⟨E,h.put (x:=.sv (.v undef)) (v:=undef) Y (by omega) ⟨λ_ h=>h.elim,λ_ h=>h.elim⟩⟩⟩
theorem RT.six(hg:Gd ops S gd rg)[tS:I7 P T]{kk:IntKind}{i:Int}{c:Nat}(hx:S.ev x=.sv (.v (.string (bs l))))(hy:S.ev y=.sv (.v (.int kk i)))(hd:d<S.n)(h:nW l i=some c)
  (next:RunT P C ops nd K rest (⟨rg++(aW x++aW y),[],[],⟨some (d,.sv (.v (.int .u8 (c:Nat)))),[],[]⟩⟩::acc) (S.set d (.sv (.v (.int .u8 (c:Nat)))))):RunT P C ops nd K (⟨some d,.index T x y,ty,pos,aft,gd⟩::rest) acc S:=
 RT.AW hg (by intro c h;cases h) hx hy hd (λρ w h1 h2=>by
  unfold nW at h;cases hh:cI l i with
  |none=>rw[hh]at h;cases h
  |some b=>
   rw[hh]at h;obtain⟨q1,q2⟩:=kM hh;have q3:b.toNat=c:=Option.some.inj h;have q4:(bs l)[i.toNat]? =some b:=by rw[Ls];exact q2
   simp[execOp,h1,h2,Instr.index,asIntOf,underlying,tS.h,q1,q4,q3]) next
end steps
section rows
variable {P:Program}{C:Ctx}{ops:Array Oper}{S:AS}{nd:Bool}{K:List Ac->AS->Prop}{rest:List Oper}{acc:List Ac}
variable {gd:Option (Nat×Bool)}{rg:List Nat}{d:Nat}{ty:TypeId}{pos:String}{aft:Array Edge}{x y z:Operand}{T U E0:TypeId}
variable {α:Type}{l l' k:List α}{e:α->List SV}{n by_:Nat}{zv:Value}
end rows
end
section
open Go.RowKit
def nX{α:Type}(l l':List α):Option Unit:=if l'.length=l.length then some ()else none
theorem iL{α:Type}{l l':List α}{u:Unit}(h:nX l l'=some u):l'.length=l.length:=by
 unfold nX at h;split at h
 ·assumption
 cases h
def Lt{α:Type}(l:List α)(lo hi:Int):Option (Nat×Nat):=if 0<=lo/\lo<l.length/\lo<=hi/\hi<=l.length then some (lo.toNat,(hi-lo).toNat)else none
theorem EP{α:Type}{l:List α}{lo hi:Int}{o n:Nat}(h:Lt l lo hi=some (o,n)):0<=lo/\lo<l.length/\lo<=hi/\hi<=l.length/\lo.toNat=o/\(hi-lo).toNat=n:=by
 unfold Lt at h;split at h
 ·rename_i hh;obtain⟨q1,q2⟩:=Prod.mk.inj (Option.some.inj h);exact⟨hh.1,hh.2.1,hh.2.2.1,hh.2.2.2,q1,q2⟩
 cases h
def GW(o n:Nat)(i:Int):Option Nat:=if 0<=i/\i<n then some (o+i.toNat)else none
theorem ER{o n j:Nat}{i:Int}(h:GW o n i=some j):0<=i/\i<n/\o+i.toNat=j:=by
 unfold GW at h;split at h
 ·rename_i hh;exact⟨hh.1,hh.2,Option.some.inj h⟩
 cases h
def tJ:List (List SV)->List (List SV)->Prop
 |[],[]=>True
 |r::l,r'::l'=>cO r r'/\tJ l l'
 |_,_=>False
theorem cO.get:∀{l l':List SV} {k:Nat} {s':SV},cO l l'->l'[k]? =some s'->∃s,l[k]? =some s/\SV.imp s s'
 |x::_,y::_,0,_,h,e=>⟨x,Y,by simp at e;subst e;exact h.1⟩
 |_::l,_::l',k+1,_,h,e=>by simpa using cO.get (l:=l) (l':=l') h.2 (by simpa using e)
 |[],[],_,_,_,e=>by simp at e
 |[],_::_,_,_,h,_=>h.elim
 |_::_,[],_,_,h,_=>h.elim
theorem tJ.get:∀{l l':List (List SV)} {k:Nat} {s':List SV},tJ l l'->l'[k]? =some s'->∃s,l[k]? =some s/\cO s s'
 |x::_,y::_,0,_,h,e=>⟨x,Y,by simp at e;subst e;exact h.1⟩
 |_::l,_::l',k+1,_,h,e=>by simpa using tJ.get (l:=l) (l':=l') h.2 (by simpa using e)
 |[],[],_,_,_,e=>by simp at e
 |[],_::_,_,_,h,_=>h.elim
 |_::_,[],_,_,h,_=>h.elim
theorem HH{α:Type}{e:α->List SV}{l:List α}{n:Nat}{M:Mem}{v:Value}(h:(slc n (l.map e)).h M v):l.length<=9223372036854775807:=by
 rcases h with⟨_,_,h⟩|⟨b,o,c,_,_,h,_⟩
 ·have:l=[]:=by simpa using h
  subst this;simp
 rwa[List.length_map]at h
theorem Ch{α:Type}{e:α->List SV}{l:List α}{n:Nat}{M:Mem}{v:Value}(h:(ref [slc n (l.map e)]).h M v):l.length<=9223372036854775807:=by
 obtain⟨b,o,_,h⟩:=h;obtain⟨y,_,_,h⟩:=h 0 _ Y;exact HH h
theorem oF{l:List Nat}{i:Nat}(h:l.length<=i):l.getD i 0=0:=by simp[List.getD,List.getElem?_eq_none h]
theorem mI{l:List Nat}{i:Nat}(h:i<l.length):l[i]? =some (l.getD i 0):=by simp[List.getD,h]
theorem Bi{α β:Type}(a:List α)(b:List β)(i:Nat)(h:i<=max a.length b.length):(i<max a.length b.length/\i<a.length/\i<b.length)\/(i<max a.length b.length/\i<a.length/\b.length<=i)\/(i<max a.length b.length/\a.length<=i/\i<b.length)\/i=max a.length b.length:=by omega
section steps
variable {P:Program}{C:Ctx}{ops:Array Oper}{S:AS}{nd:Bool}{K:List Ac->AS->Prop}{rest:List Oper}{acc:List Ac}
variable {gd:Option (Nat×Bool)}{rg:List Nat}{d:Nat}{ty:TypeId}{pos:String}{aft:Array Edge}{x y z:Operand}{T U E0:TypeId}
variable {α:Type}{l l' k:List α}{e:α->List SV}{n by_:Nat}{zv:Value}
theorem Lu{E1:TypeId}(h:l'.length=l.length):(⟨E1,n,l.length,l'.flatMap e⟩:Row)=TR E1 n e l':=by show _=Row.mk _ _ _ _;rw[h]
theorem RT.Lw(hg:Gd ops S gd rg){f:FuncId}[er P f]{g:Operand}{xs:Array Operand}{at_:Array TypeId}{args:List AV}{E1:TypeId}{res:AV}(hp:Bb P f args (TR E1 n e l) res (l'.flatMap e))(hlen:l'.length=l.length)(i:Nat)(hR:S.r i=.live (TR E1 n e l))(hrow:args.all AV.qY=true)(hres:res.qY=true)
  (hf:S.ev g=.sv (.v (.func (.func f) #[] #[]))) (hargs:oA S xs.toList (args.map (AV.r8 i))) (hd:d<S.n)
  (next:RunT P C ops nd K rest (⟨rg++(aW g++xs.toList.flatMap aW),[],[i],⟨some (d,res.r8 i),[],[(i,.live (TR E1 n e l'))]⟩⟩::acc) ((AS.bC [(i,.live (TR E1 n e l'))] S).set d (res.r8 i))):RunT P C ops nd K (⟨some d,.call ⟨.value g,xs,at_⟩,ty,pos,aft,gd⟩::rest) acc S:=
 RT.Oq hg hp i hR hrow hres hf hargs hd (by rw[Lu hlen];exact next)
theorem RT.OO(hg:Gd ops S gd rg)[tS:dD P T E0 n]{i o m:Nat}{E1:TypeId}{lo hi:Option Operand}(a b:Int)(hx:S.ev x=.row i)(hR:S.r i=.live (TR E1 n e l))(hlo:uz S 0 lo a)(hhi:uz S l.length hi b)(hd:d<S.n)(h:Lt l a b=some (o,m))
  (next:RunT P C ops nd K rest (⟨rg++(aW x++(jv lo++jv hi)),[],[i],⟨some (d,.jr i (o*n) m),[],[]⟩⟩::acc) (S.set d (.jr i (o*n) m))):RunT P C ops nd K (⟨some d,.slice T x lo hi none,ty,pos,aft,gd⟩::rest) acc S:=by
 obtain⟨h0,h1,h2,h3,h4,h5⟩:=EP h;exact RT.K9 hg (.row hx hR) a b hlo hhi hd h0 h1 h2 h3 (o*n) m (by rw[h4];omega) h5 next
theorem RT.Lx(hg:Gd ops S gd rg){m:Nat}[tS:dD P T E0 m]{i o q:Nat}{c:Int}(hx:S.ev x=.jr i o q)(hd:d<S.n)(hc:(q:Int)=c)
  (next:RunT P C ops nd K rest (⟨rg++aW x,[],[],⟨some (d,.sv (.v (.int .i64 c))),[],[]⟩⟩::acc) (S.set d (.sv (.v (.int .i64 c))))):RunT P C ops nd K (⟨some d,.call ⟨.builtin .len,#[x],#[T]⟩,ty,pos,aft,gd⟩::rest) acc S:=
 RT.Oo hg hx hd (by rw[hc];exact next)
theorem RT.zM(hg:Gd ops S gd rg)[tS:dD P T E0 n]{i o q j:Nat}{kk:IntKind}{v:Int}(hx:S.ev x=.jr i (o*n) q)(hy:S.ev y=.sv (.v (.int kk v)))(hd:d<S.n)(h:GW o q v=some j)
  (next:RunT P C ops nd K rest (⟨rg++(aW x++aW y),[],[],⟨some (d,.eX i (j*n)),[],[]⟩⟩::acc) (S.set d (.eX i (j*n)))):RunT P C ops nd K (⟨some d,.indexAddr T x y,ty,pos,aft,gd⟩::rest) acc S:=by
 obtain⟨h0,h1,h2⟩:=ER h;exact RT.ZV hg (.jr hx) hy hd h0 h1 (j*n) (by rw[<-h2,Nat.add_mul]) next
end steps
def mJ{S:Type}(body:Nat->S->Option S):Nat->S->Option S
 |0,s=>some s
 |n+1,s=>(mJ body n s).bind (body n)
theorem rj{S:Type}{body:Nat->S->Option S}:∀{n:Nat} {s e:S},mJ body n s=some e->∃st:Nat->S,st 0=s/\(∀k,k<n->body k (st k)=some (st (k+1)))/\st n=e
 |0,s,e,h=>⟨λ_=>s,Y,λ_ h=>by omega,Option.some.inj h⟩
 |n+1,s,e,h=>by
  obtain⟨e1,h1,h2⟩:=bind_some (x:=mJ body n s) h;obtain⟨st,q1,q2,q3⟩:=rj h1;refine⟨λk=>if k=n+1 then e else st k,by simpa using q1,λk hk=>?_,by simp⟩;rcases Nat.lt_or_ge k n with hkn|hkn
  ·simpa[show k≠n+1 by omega,show k≠n by omega]using q2 k hkn
  obtain rfl:k=n:=by omega
  simpa[q3]using h2
theorem wU{S:Type}{body:Nat->S->Option S}(st:Nat->S):∀(n:Nat),(∀k,k<n->body k (st k)=some (st (k+1)))->mJ body n (st 0)=some (st n)
 |0,_=>rfl
 |n+1,h=>by
  rw[mJ,wU st n (λk hk=>h k (by omega))];exact h n (by omega)
end
section
open Go.RowKit
def ES(es:List (Value×Value)):SV where
 h M v:=∃b,v=.map (some b)/\M b 0=some (.tuple ⟨es.map λp=>.tuple #[p.1,p.2]⟩)
 mono hM h:=by obtain⟨b,e,h⟩:=h;exact⟨b,e,hM _ _ _ h⟩
class Ci (P:Program) (T:TypeId) (k:outParam TypeId) (e:outParam TypeId):Prop where
 u:P.underlying T=some (.map k e)
def wV(k:IntKind)(n:Int):List (Value×Value)->Option Value
 |[]=>none
 |(.int k' m,v)::l=>if k=k' then(if n=m then some v else wV k n l)else none
 |_::_=>none
theorem nY{k:IntKind}{n:Int}{v:Value}:∀(es:List MapEntry) (i:Nat),wV k n (es.map λe=>(e.key,e.val))=some v->∃j,Instr.findNow (.int k) (.int k n) es i=some (some (j,v))
 |[],_,h=>by simp[wV]at h
 |⟨key,val,born⟩::es,i,h=>by
  cases key with
  |int k' m=>
   simp only[List.map_cons,wV]at h;by_cases hk:k=k'
   ·subst hk;rw[if_pos rfl]at h;by_cases hn:n=m
    ·subst hn;rw[if_pos rfl]at h;cases h;exact⟨i,by simp[Instr.findNow,Instr.sameNow]⟩
    rw[if_neg hn]at h;obtain⟨j,hj⟩:=nY es (i+1) h;have hb:(n==m)=false:=by simp[hn]
    exact⟨j,by simp[Instr.findNow,Instr.sameNow,hb,hj]⟩
   rw[if_neg hk]at h;cases h
  |_=>simp[wV]at h
theorem Cj:∀(l:List (Value×Value)) (m:List MapEntry),l.map (λp=>Value.tuple #[p.1,p.2])=m.map (λe=>Value.tuple #[e.key,e.val])->m.map (λe=>(e.key,e.val))=l
 |[],[],_=>rfl
 |[],_::_,h=>by simp at h
 |_::_,[],h=>by simp at h
 |(p,q)::l,e::m,h=>by
  simp only[List.map_cons,List.cons.injEq,Value.tuple.injEq]at h⊢;refine⟨?_,Cj l m h.2⟩;have:=h.1;simp at this;rw[this.1,this.2]
theorem ET{es:Array MapEntry}{l:List (Value×Value)}(h:(⟨l.map λp=>.tuple #[p.1,p.2]⟩:Array Value)=G7 es):es.toList.map (λe=>(e.key,e.val))=l:=
 Cj l es.toList (congrArg Array.toList h)
theorem getM{P:Program}{w:World}{r:Nat}{es:Array MapEntry}{ck:Nat}(hb:w.heap[r]? =some (.map es ck)):(getObj r).run P w=.ok (.map es ck) w:=by simp[getObj,Sem.run,hb]
theorem Ws{P:Program}{w:World}{r:Nat}{es:Array MapEntry}{ck:Nat}(o:Obj)(hb:w.heap[r]? =some (.map es ck)):(setObj r o).run P w=.ok () {w with heap:=w.heap.setIfInBounds r o}:=by simp[setObj,Sem.run,hb]
theorem Z0{P:Program}{w:World}{kt:TypeId}{k:IntKind}[tI:gV P kt k]{n:Int}(bb:Bool):(Instr.checkKey bb 10000 kt (.int k n)).run P w=.ok () w:=by
 rw[show(10000:Nat)=9999+1 from rfl,Instr.checkKey];simp[underlying,tI.h]
theorem EU{M:Mem}:∀l:List Value,SV.da M (l.map SV.v) l
 |[]=>trivial
 |_::l=>⟨Y,EU l⟩
section steps
variable {P:Program}{C:Ctx}{ops:Array Oper}{S:AS}{nd:Bool}{K:List Ac->AS->Prop}{rest:List Oper}{acc:List Ac}
variable {gd:Option (Nat×Bool)}{rg:List Nat}{d:Nat}{ty:TypeId}{pos:String}{aft:Array Edge}{x y z:Operand}{T U E0:TypeId}
theorem RT.look(hg:Gd ops S gd rg){kt et:TypeId}[tM:Ci P T kt et]{k:IntKind}[tI:gV P kt k]{es:List (Value×Value)}{n:Int}(cs:List Value)(hx:S.ev x=.sv (ES es))(hy:S.ev y=.sv (.v (.int k n)))(hl:wV k n es=some (.agg ⟨cs⟩))(hd:d<S.n)
  (next:RunT P C ops nd K rest (⟨rg++(aW x++aW y),[],[],⟨some (d,.sv (.agg (cs.map SV.v))),[],[]⟩⟩::acc) (S.set d (.sv (.agg (cs.map SV.v))))):RunT P C ops nd K (⟨some d,.lookup T x y false,ty,pos,aft,gd⟩::rest) acc S:=
 RT.value hg (aW x++aW y) [] [] (.sv (.agg (cs.map SV.v))) hd (by intro c h;cases h) (λS' ht _ _ E a w h=>by
  have h1:=h.ev x;rw[bk (λ_ h=>List.mem_append_left _ h) ht,hx]at h1;have h2:a.eval y=.int k n:=by have h2:=h.ev y;rw[bk (λ_ h=>List.mem_append_right _ h) ht,hy]at h2;exact h2
  obtain⟨b,e,hb⟩:=h1;obtain⟨ms,ck,hm,he⟩:=h.cy _ _ _ hb;have he:=ET he;rw[<-he]at hl;obtain⟨j,hj⟩:=nY ms.toList 0 hl;refine⟨.agg ⟨cs⟩,?_,⟨cs,Y,?_⟩,dY⟩
  ·have Wt:(Instr.findKey kt (.int k n) ms.toList).run P w=.ok (some (j,.agg ⟨cs⟩)) w:=by
    simp[Instr.findKey,underlying,tI.h,hj]
   simp[execOp,e,h2,Instr.lookup,underlying,tM.u,getM hm,Z0,Wt]
  exact EU cs) next
def mK(w:World)(ms:Array MapEntry)(ck:Nat):World:=w.alloc (.map ms ck)
theorem rm(w:World)(ms:Array MapEntry)(ck:Nat):(mK w ms ck).heap[w.heap.size]? =some (.map ms ck):=by show(w.heap.push _)[w.heap.size]? =_;simp
theorem run_make{d:Option Nat}{ρ:Operand->Value}{w:World}:(execOp ρ ⟨d,.makeMap T none,ty,pos,aft,none⟩).run P w=.ok (.value (.map (some w.heap.size))) (mK w #[] 0):=by
 simp[execOp,Instr.makeMap,mK]
theorem tK{d:Option Nat}{kt et:TypeId}[tM:Ci P T kt et]{k:IntKind}[tI:gV P kt k]{ρ:Operand->Value}{w:World}{ms:Array MapEntry}{ck:Nat}{n:Int}{v:Value}(hx:ρ x=.map (some w.heap.size))(hy:ρ y=.int k n)(hz:ρ z=v)
  (hf:Instr.findNow (.int k) (.int k n) ms.toList 0=some none):(execOp ρ ⟨d,.insert T x y z,ty,pos,aft,none⟩).run P (mK w ms ck)=.ok .skip (mK w (ms.push ⟨.int k n,v,ck⟩) (ck+1)):=by
 have Wt:(Instr.findKey kt (.int k n) ms.toList).run P (mK w ms ck)=.ok none (mK w ms ck):=by
  simp[Instr.findKey,underlying,tI.h,hf]
 have Wu:∀o:Obj,{mK w ms ck with heap:=(mK w ms ck).heap.setIfInBounds w.heap.size o}=w.alloc o:=by
  intro o;simp only[mK,World.alloc];congr 1;apply Array.ext';simp
 simp[execOp,hx,hy,hz,Instr.mapUpdate,underlying,tM.u,getM (rm w ms ck),Z0,Wt,Ws _ (rm w ms ck)];exact Wu _
theorem tL{d:Option Nat}{z0:Value}[tP:gz P U [(0,1)] [z0]]{ρ:Operand->Value}{w:World}{v:Value}(hx:ρ x=v)(hv:v.oneCell'=true):(execOp ρ ⟨d,.build U #[(0,x)],ty,pos,aft,none⟩).run P w=.ok (.value (.agg #[v])) w:=by
 have hu:=tP.h;cases hT:P.underlying U with
 |none=>rw[hT]at hu;cases hu
 |some u=>
  rw[hT]at hu;cases u with
  |struct fs=>
   simp only at hu;have hz:(zeroValue U).run P w=.ok (.agg ⟨[z0]⟩) w:=iK.run (t:=⟨tP.hz⟩) w;have hm:(fs.mapM (λf=>do pure (f.offset,<-sizeOf f.type):Field->Sem (Nat×Nat))).run P w=.ok #[(0,1)] w:=by
    have:=mE (P:=P) (w:=w) hu;rw[<-Array.toArray_toList (xs:=fs),List.mapM_toArray];rw[Sem.run_map,this];rfl
   simp only[execOp,Instr.build,underlying];simp only[Sem.run_bind,hz,Result.andThen_ok,run_program,hT,Sem.run_pure,Value.cells];have hm':(Array.mapM (λf=>do
     let __do_lift<-sizeOf f.type
     pure (f.offset,__do_lift)) fs:Sem _).run P w=.ok #[(0,1)] w:=hm
   simp only[hm',Result.andThen_ok];have h1':Instr.fill (λi=>(#[(0,1)]:Array (Nat×Nat))[i]?) ⟨[z0]⟩ [(0,v)]=some ⟨[v]⟩:=by
    simp[Instr.fill,fI hv]
    try rfl
   have e4:(Array.map (λx=>match x with|(i,x)=>(i,ρ x)) #[(0,x)]).toList=[(0,v)]:=by simp[hx]
   simp only[e4,h1',Sem.run_pure,Result.andThen_ok]
  |_=>cases hu
theorem HI{Q:Exit->AS->Prop}{id:Nat}{T U kt et t0:TypeId}[tM:Ci P T kt et]{k:IntKind}[tI:gV P kt k]{z0:Value}[tP:gz P U [(0,1)] [z0]]{f1 f2 f3 f4:FuncId}{n1 n2 n3 n4:Int}
  {p0 p1 p2 p3 p4 p5 p6 p7 p8 p9 p10:String} {a0 a1 a2 a3 a4 a5 a6 a7 a8 a9 a10:Array Edge} {u1 u2 u3 u4 u5 u6 u7 u8 u9:TypeId} (hn:7<=S.n)
  (h2:Instr.findNow (.int k) (.int k n2) [⟨.int k n1,.agg #[.func (.func f1) #[] #[]],0⟩] 0=some none)
  (h3:Instr.findNow (.int k) (.int k n3) [⟨.int k n1,.agg #[.func (.func f1) #[] #[]],0⟩,⟨.int k n2,.agg #[.func (.func f2) #[] #[]],1⟩] 0=some none)
  (h4:Instr.findNow (.int k) (.int k n4) [⟨.int k n1,.agg #[.func (.func f1) #[] #[]],0⟩,⟨.int k n2,.agg #[.func (.func f2) #[] #[]],1⟩,⟨.int k n3,.agg #[.func (.func f3) #[] #[]],2⟩] 0=some none)
  (hQ:∀S',S'.t 0=.sv (ES [(.int k n1,.agg #[.func (.func f1) #[] #[]]),(.int k n2,.agg #[.func (.func f2) #[] #[]]),(.int k n3,.agg #[.func (.func f3) #[] #[]]),(.int k n4,.agg #[.func (.func f4) #[] #[]])])->Q .normal S'):
  Ok P C (.region id #[⟨some 1,.makeMap T none,t0,p0,a0,none⟩,⟨some 2,.build U #[(0,.func f1)],u1,p1,a1,none⟩,⟨none,.insert T (.tmp 1) (.const (.int k n1)) (.tmp 2),u2,p2,a2,none⟩,
   ⟨some 3,.build U #[(0,.func f2)],u3,p3,a3,none⟩,⟨none,.insert T (.tmp 1) (.const (.int k n2)) (.tmp 3),u4,p4,a4,none⟩,⟨some 4,.build U #[(0,.func f3)],u5,p5,a5,none⟩,⟨none,.insert T (.tmp 1) (.const (.int k n3)) (.tmp 4),u6,p6,a6,none⟩,
   ⟨some 5,.build U #[(0,.func f4)],u7,p7,a7,none⟩,⟨none,.insert T (.tmp 1) (.const (.int k n4)) (.tmp 5),u8,p8,a8,none⟩,⟨some 6,.move (.tmp 1),u9,p9,a9,none⟩,⟨some 0,.assign (.tmp 6),u9,p10,a10,none⟩] false) S Q:=by
 rintro a w ⟨E,h⟩;refine wpIn_region ?_;show wpOpsIn _ _ _ _ _ [0,1,2,3,4,5,6,7,8,9,10] a w;have hS:∀(S:AS) (d:Nat) (x:AV),(S.set d x).n=S.n:=λ_ _ _=>rfl;rw[wpOpsIn_cons];refine bU (C:=C) rfl rfl (bV (C:=C) (by intro c h;cases h) run_make ?_);have g1:=h.put (d:=1) (x:=.sv (.v (.map (some w.heap.size)))) (v:=.map (some w.heap.size)) Y (by omega) dY;show wpOpsIn _ _ _ _ _ _ (a.put (some 1) _) _;generalize a.put (some 1) (.map (some w.heap.size))=b1 at g1⊢;rw[wpOpsIn_cons];refine bU (C:=C) rfl rfl (bV (C:=C) (by intro c h;cases h) (tL rfl rfl) ?_);have g2:=g1.put (d:=2) (x:=.sv (.v (.agg #[.func (.func f1) #[] #[]]))) (v:=.agg #[.func (.func f1) #[] #[]]) Y (by rw[hS];omega) dY;show wpOpsIn _ _ _ _ _ _ (b1.put (some 2) (.agg #[.func (.func f1) #[] #[]])) _;generalize b1.put (some 2) (.agg #[.func (.func f1) #[] #[]])=b2 at g2⊢;rw[wpOpsIn_cons];refine bU (C:=C) rfl rfl (bV (C:=C) (by intro c h;cases h) (tK (k:=k) (n:=n1) (v:=.agg #[.func (.func f1) #[] #[]]) (g2.ev (.tmp 1)) rfl (g2.ev (.tmp 2)) rfl) ?_);show wpOpsIn _ _ _ _ _ _ (b2.put none undef) _;rw[show b2.put none undef=b2 from rfl,wpOpsIn_cons];refine bU (C:=C) rfl rfl (bV (C:=C) (by intro c h;cases h) (tL rfl rfl) ?_)
 have g3:=g2.put (d:=3) (x:=.sv (.v (.agg #[.func (.func f2) #[] #[]]))) (v:=.agg #[.func (.func f2) #[] #[]]) Y (by rw[hS,hS];omega) dY;show wpOpsIn _ _ _ _ _ _ (b2.put (some 3) (.agg #[.func (.func f2) #[] #[]])) _;generalize b2.put (some 3) (.agg #[.func (.func f2) #[] #[]])=b3 at g3⊢;rw[wpOpsIn_cons];refine bU (C:=C) rfl rfl (bV (C:=C) (by intro c h;cases h) (tK (k:=k) (n:=n2) (v:=.agg #[.func (.func f2) #[] #[]]) (g3.ev (.tmp 1)) rfl (g3.ev (.tmp 3)) (by simpa using h2)) ?_);show wpOpsIn _ _ _ _ _ _ (b3.put none undef) _;rw[show b3.put none undef=b3 from rfl,wpOpsIn_cons];refine bU (C:=C) rfl rfl (bV (C:=C) (by intro c h;cases h) (tL rfl rfl) ?_);have g4:=g3.put (d:=4) (x:=.sv (.v (.agg #[.func (.func f3) #[] #[]]))) (v:=.agg #[.func (.func f3) #[] #[]]) Y (by rw[hS,hS,hS];omega) dY;show wpOpsIn _ _ _ _ _ _ (b3.put (some 4) (.agg #[.func (.func f3) #[] #[]])) _;generalize b3.put (some 4) (.agg #[.func (.func f3) #[] #[]])=b4 at g4⊢;rw[wpOpsIn_cons];refine bU (C:=C) rfl rfl (bV (C:=C) (by intro c h;cases h) (tK (k:=k) (n:=n3) (v:=.agg #[.func (.func f3) #[] #[]]) (g4.ev (.tmp 1)) rfl (g4.ev (.tmp 4)) (by simpa using h3)) ?_);show wpOpsIn _ _ _ _ _ _ (b4.put none undef) _
 rw[show b4.put none undef=b4 from rfl,wpOpsIn_cons];refine bU (C:=C) rfl rfl (bV (C:=C) (by intro c h;cases h) (tL rfl rfl) ?_);have g5:=g4.put (d:=5) (x:=.sv (.v (.agg #[.func (.func f4) #[] #[]]))) (v:=.agg #[.func (.func f4) #[] #[]]) Y (by rw[hS,hS,hS,hS];omega) dY;show wpOpsIn _ _ _ _ _ _ (b4.put (some 5) (.agg #[.func (.func f4) #[] #[]])) _;generalize b4.put (some 5) (.agg #[.func (.func f4) #[] #[]])=b5 at g5⊢;rw[wpOpsIn_cons];refine bU (C:=C) rfl rfl (bV (C:=C) (by intro c h;cases h) (tK (k:=k) (n:=n4) (v:=.agg #[.func (.func f4) #[] #[]]) (g5.ev (.tmp 1)) rfl (g5.ev (.tmp 5)) (by simpa using h4)) ?_);show wpOpsIn _ _ _ _ _ _ (b5.put none undef) _;have e1:b5.eval (.tmp 1)=.map (some w.heap.size):=g5.ev (.tmp 1);obtain⟨ms,Z1⟩:∃ms:Array MapEntry,(((((#[]:Array MapEntry).push ⟨.int k n1,.agg #[.func (.func f1) #[] #[]],0⟩).push ⟨.int k n2,.agg #[.func (.func f2) #[] #[]],0+1⟩).push ⟨.int k n3,.agg #[.func (.func f3) #[] #[]],0+1+1⟩).push ⟨.int k n4,.agg #[.func (.func f4) #[] #[]],0+1+1+1⟩)=ms:=⟨_,Y⟩;rw[Z1];have hno:∀o,E.M w.heap.size o=none:=λo=>by
  cases e:E.M w.heap.size o with
  |none=>rfl
  |some v=>have:=jk h.cy e;omega
 have g6:=g5.grow (M':=λb o=>if b=w.heap.size/\o=0 then some (.tuple (G7 ms))else E.M b o) (w':=mK w ms (0+1+1+1+1)) (λb o v e=>by
   have:b≠w.heap.size:=by rintro rfl;rw[hno o]at e;cases e
   simp[this,e]) (λb o v e=>by
   by_cases hb:b=w.heap.size/\o=0
   ·exact .inr (by omega)
   ·simp only[if_neg hb]at e;exact .inl e) (λb o v e=>by
   by_cases hb:b=w.heap.size/\o=0
   ·simp only[if_pos hb]at e;obtain⟨rfl,rfl⟩:=hb;cases e;exact⟨ms,_,rm w ms _,Y⟩
   simp only[if_neg hb]at e;have hlt:=jk h.cy e;refine(h.cy b o v e).same ?_;show(w.heap.push _)[b]? =_;rw[Array.getElem?_push,if_neg (by omega)]) ((Below.refl _ _).alloc (Nat.le_refl _) _)
 have hm:∀X:Env,X.M w.heap.size 0=some (.tuple (G7 ms))->(ES [(.int k n1,.agg #[.func (.func f1) #[] #[]]),(.int k n2,.agg #[.func (.func f2) #[] #[]]),(.int k n3,.agg #[.func (.func f3) #[] #[]]),(.int k n4,.agg #[.func (.func f4) #[] #[]])]).h X.M (.map (some w.heap.size)):=λX hX=>by
  refine⟨_,Y,?_⟩;rw[hX,<-Z1];rfl
 have g7:=g6.put (d:=6) (x:=.sv (.v (.map (some w.heap.size)))) (v:=.map (some w.heap.size)) Y (by rw[hS,hS,hS,hS,hS];omega) dY;rw[show b5.put none undef=b5 from rfl,wpOpsIn_cons];refine bU (C:=C) rfl rfl (bV (C:=C) (by intro c h;cases h) (r:=.ok (.value (.map (some w.heap.size))) _) (by show Result.ok (Next.value (b5.eval (.tmp 1))) _=_;rw[e1]) ?_);show wpOpsIn _ _ _ _ _ _ (b5.put (some 6) (.map (some w.heap.size))) _;generalize b5.put (some 6) (.map (some w.heap.size))=b6 at g7⊢;have e6:b6.eval (.tmp 6)=.map (some w.heap.size):=g7.ev (.tmp 6);have g8:=g7.put (d:=0) (x:=.sv (ES [(.int k n1,.agg #[.func (.func f1) #[] #[]]),(.int k n2,.agg #[.func (.func f2) #[] #[]]),(.int k n3,.agg #[.func (.func f3) #[] #[]]),(.int k n4,.agg #[.func (.func f4) #[] #[]])])) (v:=.map (some w.heap.size)) (hm _ (by simp)) (by rw[hS,hS,hS,hS,hS,hS];omega) dY;rw[wpOpsIn_cons];refine bU (C:=C) rfl rfl (bV (C:=C) (by intro c h;cases h) (r:=.ok (.value (.map (some w.heap.size))) _) (by show Result.ok (Next.value (b6.eval (.tmp 6))) _=_;rw[e6]) ?_);show wpOpsIn _ _ _ _ _ _ (b6.put (some 0) (.map (some w.heap.size))) _;rw[wpOpsIn];exact⟨_,hQ _ Y,_,g8⟩
end steps
def NO(Q:Exit->AS->Prop):Exit->AS->Prop
 |.goto _,_=>False
 |e,S=>Q e S
section scope
variable {P:Program}{C:Ctx}{S:AS}{Q:Exit->AS->Prop}
theorem NO.n(h:Q .normal S):NO Q .normal S:=h
theorem NO.r(h:Q .ret S):NO Q .ret S:=h
theorem NO.x{id:Nat}(h:Q (.exit id) S):NO Q (.exit id) S:=h
end scope
end
end Go.Fw
namespace Go.Proofs.Ytmiflmkdaeianaa
section
open Go.Fw
open Go.Proofs
noncomputable abbrev ah:=Try.prog
instance:gV ah 2 .i64:=⟨by kernel_rfl⟩
instance:gV ah 3 .i64:=⟨by kernel_rfl⟩
instance:nx ah 3:=⟨by kernel_rfl,by kernel_rfl⟩
instance:xO ah 4:=⟨by kernel_rfl⟩
instance:nx ah 4:=⟨by kernel_rfl,by kernel_rfl⟩
instance:gV ah 5 .u8:=⟨by kernel_rfl⟩
instance:nx ah 5:=⟨by kernel_rfl,by kernel_rfl⟩
instance:I7 ah 9:=⟨by kernel_rfl⟩
instance:nx ah 22:=⟨by kernel_rfl,by kernel_rfl⟩
instance:iK ah 22 (.slice none 0 0):=⟨by kernel_rfl⟩
instance:dD ah 22 80 1:=⟨by kernel_rfl,by kernel_rfl⟩
instance:qS ah 24 2:=⟨by kernel_rfl,by kernel_rfl⟩
instance:wL ah 24:=⟨λw=>⟨1,qS.size (T:=24) (n:=2) w⟩⟩
instance:iK ah 24 (.agg #[.bool false,.slice none 0 0]):=⟨by kernel_rfl⟩
instance:gy ah 24 2 32 (.agg #[.bool false,.slice none 0 0]):=⟨by kernel_rfl,by rfl,by decide,by decide⟩
instance:gz ah 24 [(0,1),(1,1)] [.bool false,.slice none 0 0]:=⟨by kernel_rfl,by kernel_rfl,by rfl⟩
instance:rX ah 24 0 0 4:=⟨by kernel_rfl⟩
instance:rX ah 24 1 1 22:=⟨by kernel_rfl⟩
instance:qS ah 26 4:=⟨by kernel_rfl,by kernel_rfl⟩
instance:wL ah 26:=⟨λw=>⟨3,qS.size (T:=26) (n:=4) w⟩⟩
instance:iK ah 26 (.agg #[.bool false,.slice none 0 0,.bool false,.slice none 0 0]):=⟨by kernel_rfl⟩
instance:gy ah 26 4 64 (.agg #[.bool false,.slice none 0 0,.bool false,.slice none 0 0]):=⟨by kernel_rfl,by rfl,by decide,by decide⟩
instance:gz ah 26 [(0,2),(2,2)] [.bool false,.slice none 0 0,.bool false,.slice none 0 0]:=⟨by kernel_rfl,by kernel_rfl,by rfl⟩
instance:rX ah 26 0 0 24:=⟨by kernel_rfl⟩
instance:rX ah 26 1 2 24:=⟨by kernel_rfl⟩
instance:nx ah 28:=⟨by kernel_rfl,by kernel_rfl⟩
instance:gy ah 28 1 24 (.slice none 0 0):=⟨by kernel_rfl,by rfl,by decide,by decide⟩
instance:dD ah 28 26 4:=⟨by kernel_rfl,by kernel_rfl⟩
instance:dD ah 33 56 7:=⟨by kernel_rfl,by kernel_rfl⟩
instance:dD ah 37 24 2:=⟨by kernel_rfl,by kernel_rfl⟩
instance:nx ah 39:=⟨by kernel_rfl,by kernel_rfl⟩
instance:dD ah 39 43 5:=⟨by kernel_rfl,by kernel_rfl⟩
instance:qS ah 43 5:=⟨by kernel_rfl,by kernel_rfl⟩
instance:iK ah 43 (.agg #[.int .i64 0,.int .u8 0,.int .i64 0,.bool false,.slice none 0 0]):=⟨by kernel_rfl⟩
instance:gy ah 43 5 56 (.agg #[.int .i64 0,.int .u8 0,.int .i64 0,.bool false,.slice none 0 0]):=⟨by kernel_rfl,by rfl,by decide,by decide⟩
instance:gz ah 43 [(0,1),(1,1),(2,1),(3,2)] [.int .i64 0,.int .u8 0,.int .i64 0,.bool false,.slice none 0 0]:=⟨by kernel_rfl,by kernel_rfl,by rfl⟩
instance:rX ah 43 0 0 3:=⟨by kernel_rfl⟩
instance:rX ah 43 1 1 5:=⟨by kernel_rfl⟩
instance:rX ah 43 2 2 3:=⟨by kernel_rfl⟩
instance:rX ah 43 3 3 24:=⟨by kernel_rfl⟩
instance:dD ah 49 88 5:=⟨by kernel_rfl,by kernel_rfl⟩
instance:gy ah 56 7 88 (.agg #[.int .i64 0,.int .u8 0,.int .i64 0,.bool false,.slice none 0 0,.bool false,.slice none 0 0]):=⟨by kernel_rfl,by rfl,by decide,by decide⟩
instance:rX ah 56 0 0 3:=⟨by kernel_rfl⟩
instance:rX ah 56 1 1 5:=⟨by kernel_rfl⟩
instance:rX ah 56 2 2 3:=⟨by kernel_rfl⟩
instance:rX ah 56 3 3 26:=⟨by kernel_rfl⟩
instance:gz ah 66 [(0,1),(1,1)] [.int .i64 0,.slice none 0 0]:=⟨by kernel_rfl,by kernel_rfl,by rfl⟩
instance:rX ah 66 0 0 3:=⟨by kernel_rfl⟩
instance:rX ah 66 1 1 39:=⟨by kernel_rfl⟩
instance:dD ah 79 28 1:=⟨by kernel_rfl,by kernel_rfl⟩
instance:gV ah 80 .u32:=⟨by kernel_rfl⟩
instance:nx ah 80:=⟨by kernel_rfl,by kernel_rfl⟩
instance:gy ah 80 1 4 (.int .u32 0):=⟨by kernel_rfl,by rfl,by decide,by decide⟩
instance:gy ah 88 5 56 (.agg #[.int .i64 0,.int .u8 0,.int .i64 0,.bool false,.slice none 0 0]):=⟨by kernel_rfl,by rfl,by decide,by decide⟩
instance:rX ah 88 0 0 3:=⟨by kernel_rfl⟩
instance:rX ah 88 1 1 5:=⟨by kernel_rfl⟩
instance:rX ah 88 2 2 3:=⟨by kernel_rfl⟩
instance:rX ah 88 3 3 24:=⟨by kernel_rfl⟩
instance:gV ah 100 .u64:=⟨by kernel_rfl⟩
instance:nx ah 100:=⟨by kernel_rfl,by kernel_rfl⟩
instance:nx ah 113:=⟨by kernel_rfl,by kernel_rfl⟩
instance:gz ah 115 [(0,1)] [.nilFunc]:=⟨by kernel_rfl,by kernel_rfl,by rfl⟩
instance:rX ah 115 0 0 113:=⟨by kernel_rfl⟩
instance:Ci ah 116 5 115:=⟨by kernel_rfl⟩
instance:nx ah 119:=⟨by kernel_rfl,by kernel_rfl⟩
instance:iK ah 119 (.nilFunc):=⟨by kernel_rfl⟩
instance:gV ah 124 .u64:=⟨by kernel_rfl⟩
instance:er ah 9:=⟨by kernel_rfl⟩
instance:er ah 10:=⟨by kernel_rfl⟩
instance:er ah 11:=⟨by kernel_rfl⟩
instance:er ah 12:=⟨by kernel_rfl⟩
instance:er ah 14:=⟨by kernel_rfl⟩
instance:er ah 15:=⟨by kernel_rfl⟩
instance:er ah 16:=⟨by kernel_rfl⟩
instance:er ah 17:=⟨by kernel_rfl⟩
instance:er ah 18:=⟨by kernel_rfl⟩
instance:er ah 19:=⟨by kernel_rfl⟩
instance:er ah 20:=⟨by kernel_rfl⟩
instance:er ah 21:=⟨by kernel_rfl⟩
instance:er ah 22:=⟨by kernel_rfl⟩
instance:er ah 23:=⟨by kernel_rfl⟩
instance:er ah 25:=⟨by kernel_rfl⟩
instance:er ah 27:=⟨by kernel_rfl⟩
instance:er ah 28:=⟨by kernel_rfl⟩
instance:er ah 31:=⟨by kernel_rfl⟩
instance:er ah 32:=⟨by kernel_rfl⟩
instance:er ah 33:=⟨by kernel_rfl⟩
instance:er ah 34:=⟨by kernel_rfl⟩
instance:er ah 35:=⟨by kernel_rfl⟩
instance:er ah 36:=⟨by kernel_rfl⟩
instance:er ah 39:=⟨by kernel_rfl⟩
instance:er ah 40:=⟨by kernel_rfl⟩
instance:er ah 41:=⟨by kernel_rfl⟩
instance:er ah 50:=⟨by kernel_rfl⟩
instance:er ah 51:=⟨by kernel_rfl⟩
instance:er ah 52:=⟨by kernel_rfl⟩
instance:er ah 53:=⟨by kernel_rfl⟩
instance:er ah 54:=⟨by kernel_rfl⟩
instance:er ah 55:=⟨by kernel_rfl⟩
instance:er ah 56:=⟨by kernel_rfl⟩
instance:er ah 57:=⟨by kernel_rfl⟩
instance:er ah 58:=⟨by kernel_rfl⟩
instance:er ah 61:=⟨by kernel_rfl⟩
instance:er ah 62:=⟨by kernel_rfl⟩
instance:er ah 63:=⟨by kernel_rfl⟩
instance:er ah 64:=⟨by kernel_rfl⟩
instance:er ah 65:=⟨by kernel_rfl⟩
instance:er ah 66:=⟨by kernel_rfl⟩
instance:er ah 67:=⟨by kernel_rfl⟩
instance:er ah 68:=⟨by kernel_rfl⟩
instance:er ah 69:=⟨by kernel_rfl⟩
instance:er ah 70:=⟨by kernel_rfl⟩
instance:er ah 71:=⟨by kernel_rfl⟩
instance:er ah 72:=⟨by kernel_rfl⟩
instance:er ah 73:=⟨by kernel_rfl⟩
instance:er ah 87:=⟨by kernel_rfl⟩
instance:er ah 88:=⟨by kernel_rfl⟩
instance:er ah 89:=⟨by kernel_rfl⟩
instance:er ah 90:=⟨by kernel_rfl⟩
instance:er ah 91:=⟨by kernel_rfl⟩
instance:er ah 92:=⟨by kernel_rfl⟩
instance:er ah 93:=⟨by kernel_rfl⟩
instance:er ah 94:=⟨by kernel_rfl⟩
instance:er ah 106:=⟨by kernel_rfl⟩
instance:er ah 109:=⟨by kernel_rfl⟩
instance:er ah 110:=⟨by kernel_rfl⟩
instance:er ah 111:=⟨by kernel_rfl⟩
instance:er ah 112:=⟨by kernel_rfl⟩
instance:er ah 113:=⟨by kernel_rfl⟩
instance:er ah 114:=⟨by kernel_rfl⟩
instance:er ah 118:=⟨by kernel_rfl⟩
theorem mixed:Try.prog.follows .mixedOrders=true:=by kernel_rfl
end
section
open Go.Fw Go.RowKit
def snap(W:World):Mem:=λb o=>(W.cell? ⟨b,o,none⟩).filter Value.oneCell'
theorem HJ(W:World):(snap W).cy W:=λ_ _ _ e=>by
 obtain⟨e1,e2⟩:=Option.filter_eq_some_iff.1 e;exact .of e1 e2
theorem HK{W:World}{b o:Nat}{v:Value}(h:W.cell? ⟨b,o,none⟩=some v)(h1:v.oneCell'=true):snap W b o=some v:=Option.filter_eq_some_iff.2 ⟨h,h1⟩
theorem kj{H:Type}{P:Program}{ts:List TypeId}{ds:List (DataW H)}(j:Nat){t:TypeId}{d:DataW H}(h:(DataW.weightsEach P ts ds).all (· <=reachBytes)=true)(ht:ts[j]? =some t)(hd:ds[j]? =some d):(d.weights P t).all (· <=reachBytes)=true:=
 List.all_eq_true.2 λn hn=>List.all_eq_true.1 h n (DataW.weights_mem_each ht hd n hn)
theorem mL{H:Type}{P:Program}{e:TypeId}:∀{ds:List (DataW H)} {d:DataW H},d∈ds->∀n∈d.weights P e,n∈DataW.weightsAll P e ds
 |x::ds,d,h,n,hn=>by
  simp only[DataW.weightsAll,List.mem_append];rcases List.mem_cons.1 h with rfl|h
  ·exact .inl hn
  exact .inr (mL h n hn)
class wW (P:Program) (T:TypeId) {α:Type} (e:α->List SV) (ok:outParam (α->Prop)) (sz:outParam (α->Nat)):Prop where
 h:∀{H:Type} (enc:TypeId×Value->H) (W:World) (fuel:Nat) (cs:List Value) (d:DataW H) (p:List MemPlace),DataW.trod enc P W 0 (λ_=>true) true fuel T cs=some (d,p)->(d.weights P T).all (· <=reachBytes)=true->
  ∃x:α,ok x/\SV.da (snap W) (e x) cs/\(∀v∈cs,v.oneCell'=true)/\sz x<=Rows.uptoBulk d
section opn
variable {P:Program}{T:TypeId}
theorem Bj{k:IntKind}{n:Int}(h:(Lit.int k n).wf=true):k.min<=n/\n<=k.max:=by simpa[Lit.wf]using h
instance[t:gV P T .i64]:wW P T Lo (λx=>-9223372036854775808<=x/\x<=9223372036854775807) (λ_=>1):=⟨λenc W fuel cs d p h zN=>by
 obtain⟨n,rfl,hx,hw⟩:=DataW.trod_int t.h h;cases hx;have:=Bj hw;exact⟨n,by simpa[IntKind.min,IntKind.max,IntKind.signed,IntKind.bits]using this,⟨rfl,aq⟩,by simp[Value.oneCell'],by simp[Rows.uptoBulk]⟩⟩
instance[t:gV P T .i16]:wW P T Wj (λx=>-32768<=x/\x<=32767) (λ_=>1):=⟨λenc W fuel cs d p h zN=>by
 obtain⟨n,rfl,hx,hw⟩:=DataW.trod_int t.h h;cases hx;have:=Bj hw;exact⟨n,by simpa[IntKind.min,IntKind.max,IntKind.signed,IntKind.bits]using this,⟨rfl,aq⟩,by simp[Value.oneCell'],by simp[Rows.uptoBulk]⟩⟩
theorem Ji{k:IntKind}{M:Nat}{e:Nat->List SV}(t:gV P T k)(hk:k.min=0/\k.max=(M:Int)-1)(he:∀n:Nat,e n=[.v (.int k (n:Int))]):wW P T e (λx=>x<M) (λ_=>1):=⟨λenc W fuel cs d p h zN=>by
 obtain⟨n,rfl,hx,hw⟩:=DataW.trod_int t.h h;cases hx;have:=Bj hw;rw[hk.1,hk.2]at this;obtain⟨m,rfl⟩:=Int.eq_ofNat_of_zero_le this.1;exact⟨m,by omega,by rw[he];exact⟨Y,aq⟩,by simp[Value.oneCell'],by simp[Rows.uptoBulk]⟩⟩
instance[t:gV P T .u8]:wW P T Wi (λx=>x<256) (λ_=>1):=Ji t (by decide) (λ_=>rfl)
instance[t:gV P T .u32]:wW P T aY (λx=>x<4294967296) (λ_=>1):=Ji t (by decide) (λ_=>rfl)
instance[t:xO P T]:wW P T eB (λ_=>True) (λ_=>1):=⟨λenc W fuel cs d p h zN=>by
 obtain⟨b,rfl,hx⟩:=DataW.trod_bool t.h h;cases hx;exact⟨b,aq,⟨rfl,aq⟩,by simp[Value.oneCell'],by simp[Rows.uptoBulk]⟩⟩
theorem zO{H α:Type}(sz:α->Nat):∀(xs:List α) (ds:List (DataW H)),xs.length=ds.length->(∀(i:Nat) (x:α) (d:DataW H),xs[i]? =some x->ds[i]? =some d->sz x<=Rows.uptoBulk d)->(xs.map sz).sum<=Rows.uptoBulkAll ds
 |[],[],_,_=>by simp
 |x::xs,d::ds,hl,h=>by
  have h1:=h 0 x d Y Y;have h2:=zO sz xs ds (by simpa using hl) (λi x d e1 e2=>h (i+1) x d (by simpa using e1) (by simpa using e2));simp only[List.map_cons,List.sum_cons,Rows.uptoBulkAll];omega
 |[],_::_,hl,_=>by simp at hl
 |_::_,[],hl,_=>by simp at hl
instance{E:TypeId}{n:Nat}{α:Type}{e:α->List SV}{ok:α->Prop}{sz:α->Nat}{by_:Nat}{zv:Value}[t:dD P T E n][tE:gy P E n by_ zv][el:EL e n][o:wW P E e ok sz]:wW P T (eS n e) (λl=>l.length*by_<=140737488351232/\∀x∈l,ok x) (λl=>(l.map sz).sum+1):=⟨λ{H} enc W fuel cs d p h zN=>by
 have hcell:P.cellsOf E=n:=by
  have h1:=t.size W;simp only[sizeOf,typeInfo]at h1;cases hi:P.info? E with
  |none=>simp[hi]at h1
  |some i=>simp[hi]at h1;simp[Program.cellsOf,hi,h1]
 have hml:maxLen=9223372036854775807:=by decide
 have hby:P.bytesOf E=by_:=by
  obtain⟨i,hi,_,hb,_⟩:=tE.info;rw[Program.bytesOf,hi];exact hb
 rcases Deep.open_slice t.u h with⟨rfl,hx⟩|⟨a,len,cap,m,n',D,Pl,rfl,_,hl,hm,Z2,hx,hel⟩
 ·cases hx;exact⟨[],⟨by simp,by simp⟩,⟨.inl ⟨none,rfl,rfl⟩,aq⟩,by simp[Value.oneCell'],by simp[Rows.uptoBulk]⟩
 cases hx;rw[if_pos rfl]at Z2;subst Z2;simp only[DataW.weights,t.u,List.all_cons,List.all_append,Bool.and_eq_true,List.length_map,List.length_range,decide_eq_true_eq,hby]at zN;obtain⟨hw0,Z3,Wv⟩:=zN;have hwi:∀i,i<m->((D i).weights P E).all (· <=reachBytes)=true:=λi hi=>List.all_eq_true.2 λn hn=>by
  rcases Nat.lt_or_ge i len with q|q
  ·exact List.all_eq_true.1 Z3 n (mL (List.mem_map.2 ⟨i,List.mem_range.2 q,rfl⟩) n hn)
  exact List.all_eq_true.1 Wv n (mL (List.mem_map.2 ⟨i-len,List.mem_range.2 (by omega),by rw[show len+(i-len)=i by omega]⟩) n hn)
 have hlb:len*by_<=140737488351232:=Nat.le_trans (Nat.mul_le_mul_right _ (Nat.le_add_right _ _)) hw0;have one:∀i,i<m->∃x,ok x/\sz x<=Rows.uptoBulk (D i)/\∃cs',W.cells? 0 (a.add (i*n)) n=some cs'/\SV.da (snap W) (e x) cs'/\(∀v∈cs',v.oneCell'=true):=by
  intro i hi;obtain⟨cs',h1,h2⟩:=hel i hi;obtain⟨x,q1,q2,q3,q4⟩:=o.h enc W n' cs' (D i) (Pl i) h2 (hwi i hi);rw[hcell]at h1;exact⟨x,q1,q4,cs',h1,q2,q3⟩
 obtain⟨xs,OP,hxs⟩:∃xs:List α,xs.length=len/\∀(i:Nat) (x:α),xs[i]? =some x->ok x/\sz x<=Rows.uptoBulk (D i)/\∃cs',W.cells? 0 (a.add (i*n)) n=some cs'/\SV.da (snap W) (e x) cs'/\(∀v∈cs',v.oneCell'=true):=by
  clear h hm hel;have:∀k,k<=len->∃xs:List α,xs.length=k/\∀(i:Nat) (x:α),xs[i]? =some x->ok x/\sz x<=Rows.uptoBulk (D i)/\∃cs',W.cells? 0 (a.add (i*n)) n=some cs'/\SV.da (snap W) (e x) cs'/\(∀v∈cs',v.oneCell'=true):=by
   intro k
   induction k with
   |zero=>intro _;exact⟨[],rfl,by simp⟩
   |succ k ih=>
    intro hk;obtain⟨xs,h1,h2⟩:=ih (by omega);obtain⟨x,hx⟩:=one k (by omega);refine⟨xs++[x],by simp[h1],λi y hy=>?_⟩;rcases Nat.lt_or_ge i k with hi|hi
    ·exact h2 i y (by rwa[List.getElem?_append_left (by omega)]at hy)
    rw[List.getElem?_append_right (by omega)]at hy;have VQ:i=k:=by
     rcases Nat.lt_or_ge (i-xs.length) 1 with q|q
     ·omega
     rw[List.getElem?_eq_none (by simpa using q)]at hy;cases hy
    subst VQ;rw[h1,Nat.sub_self]at hy;simp at hy;subst hy;exact hx
  exact this len (Nat.le_refl _)
 refine⟨xs,⟨by rw[OP];exact hlb,λx hx=>?_⟩,⟨?_,aq⟩,by simp[Value.oneCell'],?_⟩
 ·obtain⟨i,hi,rfl⟩:=List.getElem_of_mem hx;exact(hxs i _ (List.getElem?_eq_getElem hi)).1
 ·by_cases h0:xs=[]
  ·subst h0;simp at OP;subst OP;by_cases hc0:m=0
   ·subst hc0;exact .inl ⟨_,rfl,rfl⟩
   obtain⟨x,_,_,cs',g1,g2,_⟩:=one 0 (by omega);obtain⟨_,g3,g4⟩:=World.cells?_some g1;have hn:0<n:=tE.p;have g5:=g4 0 hn;obtain⟨b,o',spot⟩:=a;have EV:spot=none:=by
    have:∃v,W.cell? (((⟨b,o',spot⟩:Addr).add (0*n)).add 0)=some v:=by
     rw[g5];exact⟨_,List.getElem?_eq_getElem (by omega)⟩
    obtain⟨v,hv⟩:=this;simpa[Addr.add]using World.cell?_spot hv
   subst EV;refine .inr ⟨b,o',m,rfl,by simp,by simp,λi row hr=>by simp at hr⟩
  have sg:0<len:=by
   rcases Nat.eq_zero_or_pos len with hz|hz
   ·exact absurd (List.eq_nil_of_length_eq_zero (by omega)) h0
   exact hz
  have hn:0<n:=tE.p;obtain⟨x,_,_,cs',g1,g2,_⟩:=one 0 (by omega);obtain⟨_,g3,g4⟩:=World.cells?_some g1;have g5:=g4 0 hn;obtain⟨b,o',spot⟩:=a;have EV:spot=none:=by
   have:∃v,W.cell? (((⟨b,o',spot⟩:Addr).add (0*n)).add 0)=some v:=by
    rw[g5];exact⟨_,List.getElem?_eq_getElem (by omega)⟩
   obtain⟨v,hv⟩:=this;simpa[Addr.add]using World.cell?_spot hv
  subst EV;refine .inr ⟨b,o',m,by rw[List.length_map,OP],by rw[List.length_map];omega,by rw[List.length_map];omega,λi row hr=>?_⟩;rw[List.getElem?_map]at hr;cases hx:xs[i]? with
  |none=>rw[hx]at hr;cases hr
  |some y=>
   rw[hx]at hr;have hr:e y=row:=Option.some.inj hr;subst hr;obtain⟨_,_,cs2,k1,k2,k3⟩:=hxs i y hx;obtain⟨_,k4,k5⟩:=World.cells?_some k1;refine⟨el.len y,λk s hk=>?_⟩;obtain⟨u,hu,hs⟩:=k2.get hk;have hkn:k<n:=by have:=(List.getElem?_eq_some_iff.1 hu).1;omega
   have k6:=k5 k hkn;rw[eu,eu,hu]at k6;exact⟨u,HK k6 (k3 u (List.mem_of_getElem? hu)),k3 u (List.mem_of_getElem? hu),hs⟩
 have hb:Rows.uptoBulk (DataW.slice ((List.range len).map D) ((List.range (m-len)).map λj=>D (len+j)))=Rows.uptoBulkAll ((List.range len).map D)+Rows.uptoBulkAll ((List.range (m-len)).map λj=>D (len+j))+1:=rfl;rw[hb];have:=zO sz xs ((List.range len).map D) (by simp[OP]) (λi x d e1 e2=>by
  have hi:i<len:=by have:=(List.getElem?_eq_some_iff.1 e1).1;omega
  simp[hi]at e2;subst e2;exact(hxs i x e1).2.1)
 omega⟩
class T2 (P:Program) (T:TypeId) (k:outParam Nat):Prop where
 h:(match P.underlying T with|some (.struct fs)=>some fs.size|_=>none)=some k
theorem ya{k:Nat}[s:T2 P T k]{H:Type}{enc:TypeId×Value->H}{W:World}{fuel:Nat}{cs:List Value}{d:DataW H}{p:List MemPlace}(h:DataW.trod enc P W 0 (λ_=>true) true fuel T cs=some (d,p))(zN:(d.weights P T).all (· <=reachBytes)=true):
  ∃(xs:List (DataW H×List MemPlace)) (n:Nat),d=.agg (xs.map (·.1))/\cs.length=P.cellsOf T/\xs.length=k/\∀(i off:Nat) (U:TypeId),rX P T i off U->DataW.trod enc P W 0 (λ_=>true) true n U ((cs.drop off).take (P.cellsOf U))=xs[i]? /\∀x,xs[i]? =some x->(x.1.weights P U).all (· <=reachBytes)=true:=by
 have hs:=s.h;cases hT:P.underlying T with
 |none=>rw[hT]at hs;cases hs
 |some u=>
  rw[hT]at hs;cases u with
  |struct fs=>
   have hk:fs.size=k:=Option.some.inj hs;obtain⟨xs,n,_,hx,hl,hn,hf⟩:=DataW.trod_struct hT h;have hd:=(Prod.mk.inj hx).1;subst hd;refine⟨xs,n,Y,hl,by omega,λi off U F=>?_⟩;have hF:=F.h;rw[hT]at hF;simp only at hF;cases hg:fs[i]? with
   |none=>rw[hg]at hF;cases hF
   |some f=>
    rw[hg]at hF;simp only[Option.map_some,Option.some.injEq,Prod.mk.injEq]at hF;have:=hf i f hg;rw[hF.1,hF.2]at this;refine⟨this,λx hxi=>?_⟩;simp only[DataW.weights,hT]at zN;exact kj i zN (by rw[List.getElem?_map,Array.getElem?_toList,hg,Option.map_some,hF.2]) (by rw[List.getElem?_map,hxi];rfl)
  |_=>cases hs
class Ly (P:Program) (T:TypeId):Prop where
 h:∀(w:World) (r:Reach) (base:Nat) (v:Value),Value.okWide P w r base T v->v.cells.toList=[v]
instance{k:IntKind}[t:gV P T k]:Ly P T:=⟨λw r base v h=>by
 simp only[Value.okWide,t.h,Cell.okWide,Cell.ok]at h;cases v<;>first|rfl|cases h⟩
instance{E:TypeId}{n:Nat}[t:dD P T E n]:Ly P T:=⟨λw r base v h=>by
 obtain⟨a,l,c,rfl⟩:=WideShapes.okWide_slice t.u h;rfl⟩
theorem yc{α:Type}{e:α->List SV}{ok:α->Prop}{sz:α->Nat}[o1:Ly P T][o:wW P T e ok sz]{H:Type}{enc:TypeId×Value->H}{W:World}{r:Reach}{base:Nat}{v:Value}{d:DataW H}{p:List MemPlace}
  (hv:Value.okWide P W r base T v) (h:DataW.Trod enc P W 0 (λ_=>true) true T v d p) (zN:(d.weights P T).all (· <=reachBytes)=true):∃x,ok x/\sz x<=Rows.uptoBulk d/\SV.da (snap W) (e x) [v]:=by
 obtain⟨fuel,h⟩:=h;rw[o1.h W r base v hv]at h;obtain⟨x,h1,h2,_,h4⟩:=o.h enc W fuel _ d p h zN;exact⟨x,h1,h4,h2⟩
end opn
theorem HL{f:FuncId}{vs:List Value}{Z4:List SV}{W:World}(hp:Pure ah f Z4 (.v (.bool true)))(h:SV.da (snap W) Z4 vs):
  Calls ah f ⟨vs⟩ W λe w'=>e=.returned (.bool true)/\Below W.heap.size W w':=
 (hp (snap W) W vs (HJ W) h).mono λ_ _ ⟨v,_,h1,_,_,_,h2,h3⟩=>by
  have h2:v=.bool true:=h2;exact⟨by rw[h1,h2],h3⟩
end
section
open Go.Fw Go.RowKit Go.ChangeShapes Go.WideShapes Go.ChangeAt
theorem Ww:ownKnob Try.prog.godebug=none:=by kernel_rfl
theorem uK:laidOutB ah=true:=by kernel_rfl
instance:T2 ah 24 2:=⟨by kernel_rfl⟩
set_option maxRecDepth 100000 in
instance:wW ah 24 eZ (λ(z:Zr)=>(True/\(z.w.length*4<=140737488351232/\∀x1∈z.w,x1<4294967296))) (λ(z:Zr)=>(1+((z.w.map λx1=>1).sum+1)+1)):=⟨λenc W fuel cs d p h zN=>by
 obtain⟨xs,n,rfl,hl,hn,hf⟩:=ya h zN;have hl:cs.length=2:=hl.trans (by kernel_rfl)
 match xs,hn with
 |[⟨d0,p0⟩,⟨d1,p1⟩],_=>
 match cs,hl with
 |[c0,c1],_=>
 have t0:DataW.trod enc ah W 0 (λ_=>true) true n 4 [c0]=some (d0,p0):=(by have q:=(hf 0 _ _ inferInstance).1;rw[show Try.prog.cellsOf 4=1 by kernel_rfl]at q;exact q);obtain⟨x0,a0,b0,e0,s0⟩:=wW.h (P:=ah) (T:=4) (e:=eB) enc W n _ d0 p0 t0 ((hf 0 _ _ inferInstance).2 _ Y);have t1:DataW.trod enc ah W 0 (λ_=>true) true n 22 [c1]=some (d1,p1):=(by have q:=(hf 1 _ _ inferInstance).1;rw[show Try.prog.cellsOf 22=1 by kernel_rfl]at q;exact q);obtain⟨x1,a1,b1,e1,s1⟩:=wW.h (P:=ah) (T:=22) (e:=(eS 1 aY)) enc W n _ d1 p1 t1 ((hf 1 _ _ inferInstance).2 _ Y);refine⟨⟨x0,x1⟩,⟨a0,a1⟩,⟨b0.1,b1.1,aq⟩,?_,?_⟩
 ·intro v hv;simp only[List.mem_cons,List.not_mem_nil,or_false]at hv;rcases hv with rfl|rfl
  ·exact e0 _ (by simp)
  exact e1 _ (by simp)
 simp only[List.map_cons,List.map_nil,Rows.uptoBulk,Rows.uptoBulkAll];omega⟩
instance:T2 ah 26 2:=⟨by kernel_rfl⟩
set_option maxRecDepth 100000 in
instance:wW ah 26 eQ (λ(z:Qr)=>((True/\(z.num.w.length*4<=140737488351232/\∀x1∈z.num.w,x1<4294967296))/\(True/\(z.den.w.length*4<=140737488351232/\∀x1∈z.den.w,x1<4294967296)))) (λ(z:Qr)=>((1+((z.num.w.map λx1=>1).sum+1)+1)+(1+((z.den.w.map λx1=>1).sum+1)+1)+1)):=⟨λenc W fuel cs d p h zN=>by
 obtain⟨xs,n,rfl,hl,hn,hf⟩:=ya h zN;have hl:cs.length=4:=hl.trans (by kernel_rfl)
 match xs,hn with
 |[⟨d0,p0⟩,⟨d1,p1⟩],_=>
 match cs,hl with
 |[c0,c1,c2,c3],_=>
 have t0:DataW.trod enc ah W 0 (λ_=>true) true n 24 [c0,c1]=some (d0,p0):=(by have q:=(hf 0 _ _ inferInstance).1;rw[show Try.prog.cellsOf 24=2 by kernel_rfl]at q;exact q);obtain⟨x0,a0,b0,e0,s0⟩:=wW.h (P:=ah) (T:=24) (e:=eZ) enc W n _ d0 p0 t0 ((hf 0 _ _ inferInstance).2 _ Y);have t1:DataW.trod enc ah W 0 (λ_=>true) true n 24 [c2,c3]=some (d1,p1):=(by have q:=(hf 1 _ _ inferInstance).1;rw[show Try.prog.cellsOf 24=2 by kernel_rfl]at q;exact q);obtain⟨x1,a1,b1,e1,s1⟩:=wW.h (P:=ah) (T:=24) (e:=eZ) enc W n _ d1 p1 t1 ((hf 1 _ _ inferInstance).2 _ Y);refine⟨⟨x0,x1⟩,⟨a0,a1⟩,⟨b0.1,b0.2.1,b1.1,b1.2.1,aq⟩,?_,?_⟩
 ·intro v hv;simp only[List.mem_cons,List.not_mem_nil,or_false]at hv;rcases hv with rfl|rfl|rfl|rfl
  ·exact e0 _ (by simp)
  ·exact e0 _ (by simp)
  ·exact e1 _ (by simp)
  exact e1 _ (by simp)
 simp only[List.map_cons,List.map_nil,Rows.uptoBulk,Rows.uptoBulkAll];omega⟩
instance:T2 ah 56 4:=⟨by kernel_rfl⟩
set_option maxRecDepth 100000 in
instance:wW ah 56 wP (λ(z:Mv)=>((-9223372036854775808<=z.acc/\z.acc<=9223372036854775807)/\z.kd<256/\(-9223372036854775808<=z.hour/\z.hour<=9223372036854775807)/\((True/\(z.fm.num.w.length*4<=140737488351232/\∀x1∈z.fm.num.w,x1<4294967296))/\(True/\(z.fm.den.w.length*4<=140737488351232/\∀x1∈z.fm.den.w,x1<4294967296))))) (λ(z:Mv)=>(1+1+1+((1+((z.fm.num.w.map λx1=>1).sum+1)+1)+(1+((z.fm.den.w.map λx1=>1).sum+1)+1)+1)+1)):=⟨λenc W fuel cs d p h zN=>by
 obtain⟨xs,n,rfl,hl,hn,hf⟩:=ya h zN;have hl:cs.length=7:=hl.trans (by kernel_rfl)
 match xs,hn with
 |[⟨d0,p0⟩,⟨d1,p1⟩,⟨d2,p2⟩,⟨d3,p3⟩],_=>
 match cs,hl with
 |[c0,c1,c2,c3,c4,c5,c6],_=>
 have t0:DataW.trod enc ah W 0 (λ_=>true) true n 3 [c0]=some (d0,p0):=(by have q:=(hf 0 _ _ inferInstance).1;rw[show Try.prog.cellsOf 3=1 by kernel_rfl]at q;exact q);obtain⟨x0,a0,b0,e0,s0⟩:=wW.h (P:=ah) (T:=3) (e:=Lo) enc W n _ d0 p0 t0 ((hf 0 _ _ inferInstance).2 _ Y);have t1:DataW.trod enc ah W 0 (λ_=>true) true n 5 [c1]=some (d1,p1):=(by have q:=(hf 1 _ _ inferInstance).1;rw[show Try.prog.cellsOf 5=1 by kernel_rfl]at q;exact q);obtain⟨x1,a1,b1,e1,s1⟩:=wW.h (P:=ah) (T:=5) (e:=Wi) enc W n _ d1 p1 t1 ((hf 1 _ _ inferInstance).2 _ Y);have t2:DataW.trod enc ah W 0 (λ_=>true) true n 3 [c2]=some (d2,p2):=(by have q:=(hf 2 _ _ inferInstance).1;rw[show Try.prog.cellsOf 3=1 by kernel_rfl]at q;exact q);obtain⟨x2,a2,b2,e2,s2⟩:=wW.h (P:=ah) (T:=3) (e:=Lo) enc W n _ d2 p2 t2 ((hf 2 _ _ inferInstance).2 _ Y);have t3:DataW.trod enc ah W 0 (λ_=>true) true n 26 [c3,c4,c5,c6]=some (d3,p3):=(by have q:=(hf 3 _ _ inferInstance).1;rw[show Try.prog.cellsOf 26=4 by kernel_rfl]at q;exact q);obtain⟨x3,a3,b3,e3,s3⟩:=wW.h (P:=ah) (T:=26) (e:=eQ) enc W n _ d3 p3 t3 ((hf 3 _ _ inferInstance).2 _ Y);refine⟨⟨x0,x1,x2,x3⟩,⟨a0,a1,a2,a3⟩,⟨b0.1,b1.1,b2.1,b3.1,b3.2.1,b3.2.2.1,b3.2.2.2.1,aq⟩,?_,?_⟩
 ·intro v hv;simp only[List.mem_cons,List.not_mem_nil,or_false]at hv;rcases hv with rfl|rfl|rfl|rfl|rfl|rfl|rfl
  ·exact e0 _ (by simp)
  ·exact e1 _ (by simp)
  ·exact e2 _ (by simp)
  ·exact e3 _ (by simp)
  ·exact e3 _ (by simp)
  ·exact e3 _ (by simp)
  exact e3 _ (by simp)
 simp only[List.map_cons,List.map_nil,Rows.uptoBulk,Rows.uptoBulkAll];omega⟩
end
end Go.Proofs.Ytmiflmkdaeianaa
namespace Go.Fw
section
open Go.RowKit
theorem Bk{A B C:AS}(h:kL A B)(k:kL B C):kL A C:=λc a w x=>k c a w (h c a w x)
theorem Dl{S:AS}(i o k:Nat)(E0:TypeId)(sz:Nat){T:TypeId}{cells:List AV}(hb:S.b i=some ⟨T,cells⟩)(hc:cells[o]? =some (.sv (.v (.slice none 0 0))))(hk:S.r k=.un)(Oz:k<1000):
  kL S ((AS.bC [(k,.live ⟨E0,sz,0,[]⟩)] S).gL i ⟨T,cells.set o (.row k)⟩):=by
 rintro C a w ⟨E,h⟩;have h1:=h.newRow hk Oz [] none (.inl ⟨Y,Y⟩) (R':=⟨E0,sz,0,[]⟩) (World.ownsRow_nil w 0 E0 sz) (vs':=[]) trivial (.inl Y) (lF w none);have xU:(AS.bC [(k,.live ⟨E0,sz,0,[]⟩)] S).b i=some ⟨T,cells⟩:=hb;have hrk:(AS.bC [(k,.live ⟨E0,sz,0,[]⟩)] S).r k≠ .un:=by
  show(AS.kJ S k _).r k≠_;rw[AS.eP];simp
 refine⟨_,{h1 with wf:=?_,bx:=λj B hB=>?_,inj:=λj j' B B' hB dK e=>?_,rx:=λj R hR=>?_}⟩
 ·refine⟨λt j hj=>?_,h1.wf.tr,λj B hB x hx m hm=>?_,λj B hB x hx m hm=>?_⟩
  ·obtain⟨B,hB⟩:=h1.wf.tb t j hj;by_cases e:j=i
   ·subst e;exact⟨_,AS.cc _ _ _⟩
   exact⟨B,by rw[AS.bA _ _ _ _ e];exact hB⟩
  ·have key:∃B',(AS.bC [(k,.live ⟨E0,sz,0,[]⟩)] S).b m=some B':=by
    by_cases e:j=i
    ·subst e;rw[AS.cc]at hB;cases hB;rcases List.mem_or_eq_of_mem_set hx with hx|rfl
     ·exact h1.wf.bb j _ xU x hx m hm
     exact hm.elim
    rw[AS.bA _ _ _ _ e]at hB;exact h1.wf.bb j B hB x hx m hm
   obtain⟨B',dK⟩:=key;by_cases e:m=i
   ·subst e;exact⟨_,AS.cc _ _ _⟩
   exact⟨B',by rw[AS.bA _ _ _ _ e];exact dK⟩
  by_cases e:j=i
  ·subst e;rw[AS.cc]at hB;cases hB;rcases List.mem_or_eq_of_mem_set hx with hx|rfl
   ·exact h1.wf.br j _ xU x hx m hm
   cases hm;exact hrk
  rw[AS.bA _ _ _ _ e]at hB;exact h1.wf.br j B hB x hx m hm
 ·by_cases e:j=i
  ·subst e;rw[AS.cc]at hB;cases hB;obtain⟨q1,q2,q3,vs,q4,q5⟩:=h1.bx j _ xU;refine⟨q1,q2,q3,vs,q4,?_⟩;obtain⟨x,hx,hv⟩:=q5.get hc;have hv:x=.slice none 0 0:=hv;have:=cn.set (i:=o) (s:=.row k) (x:=x) q5 (by
    show x=if k=k then _ else _;rw[if_pos rfl];exact hv)
   have he:vs.set o x=vs:=by
    apply List.ext_getElem?;intro n;rw[List.getElem?_set];split
    ·rename_i hn;subst hn;rw[hx];split<;>rename_i hl
     ·rfl
     have:=(List.getElem?_eq_some_iff.1 hx).1;exact absurd this hl
    rfl
   rwa[he]at this
  rw[AS.bA _ _ _ _ e]at hB;exact h1.bx j B hB
 ·have old:∀n B,((AS.bC [(k,.live ⟨E0,sz,0,[]⟩)] S).gL i ⟨T,cells.set o (.row k)⟩).b n=some B->∃B',(AS.bC [(k,.live ⟨E0,sz,0,[]⟩)] S).b n=some B':=λn B hn=>by
   by_cases e:n=i
   ·subst e;exact⟨_,xU⟩
   rw[AS.bA _ _ _ _ e]at hn;exact⟨B,hn⟩
  obtain⟨B1,p1⟩:=old j B hB;obtain⟨B2,p2⟩:=old j' B' dK;exact h1.inj j j' B1 B2 p1 p2 e
 obtain⟨p1,p2⟩:=h1.rx j R hR;refine⟨p1,λg hg=>?_⟩;obtain⟨p3,p4,p5,p6⟩:=p2 g hg;refine⟨p3,p4,p5,λn B hn=>?_⟩;by_cases e:n=i
 ·subst e;exact p6 n _ xU
 rw[AS.bA _ _ _ _ e]at hn;exact p6 n B hn
end
section
open Go.RowKit
section part
variable {P:Program}{C:Ctx}{ops:Array Oper}{acts:List Ac}{S:AS}
theorem pq(listed:Array Bool)(i:Nat)(hs:listed.size=ops.size)(hi:i<ops.size):listed.getD i true=listed.getD i false:=by
 rw[Array.getD_eq_getD_getElem?,Array.getD_eq_getD_getElem?];rw[Array.getElem?_eq_getElem (by omega)];rfl
end part
end
end Go.Fw
namespace Go.Fw.Z
section
open Go.Fw
theorem T{d n:Nat}(h:Nat.ble (d+1) n=true:=by exact rfl):d<n:=tl h
theorem bE{α β:Type}{x:Option α}{f:α->Option β}{r:β}{G:Prop}(h:Option.bind x f=some r)(k:∀a,x=some a->f a=some r->G):G:=by obtain⟨a,h1,h2⟩:=bind_some h;exact k a h1 h2
theorem lE{α β:Type}{v:α}{f:α->Option β}{r:β}{G:Prop}(h:Option.bind (some v) f=some r)(k:∀a,v=a->f a=some r->G):G:=k v Y h
theorem bS{α β:Type}{x:Option α}{f:α->Option β}{r:β}(h:Option.bind x f=some r):∃a,x=some a/\f a=some r:=bind_some h
theorem F{α:Type}{x y:Option α}{r:α}(h:(bif false then x else y)=some r):y=some r:=h
theorem V{α:Type}{x y:Option α}{r:α}(h:(bif true then x else y)=some r):x=some r:=h
theorem O{α:Type}{a b:α}(h:some a=some b):a=b:=Option.some.inj h
def r8(l:List (Nat×Nat))(i:Nat):Nat:=((l.find? λp=>Nat.beq p.1 i).map (·.2)).getD i
def T3(l:List (Nat×Nat)):AV->AV
 |.row i=>.row (r8 l i)
 |.jr i o n=>.jr (r8 l i) o n
 |x=>x
def T4:AV->Bool
 |.eX _ _=>false
 |.cmp _ _=>false
 |_=>true
theorem Z5(l:List (Nat×Nat)){x:AV}(h:T4 x=true):Db (r8 l) (T3 l x) x:=by
 cases x with
 |sv s=>exact .sv au
 |ptr i o=>exact .ptr
 |za i o n c=>exact .za
 |row i=>exact .row Y
 |eX i k=>cases h
 |jr i o n=>exact .jr Y
 |fj g js=>exact .fj
 |cmp t js=>cases h
theorem OQ(l:List (Nat×Nat)):∀{xs:List AV},(xs.all T4)=true->A5 (r8 l) (xs.map (T3 l)) xs
 |[],_=>trivial
 |x::xs,h=>by simp only[List.all_cons,Bool.and_eq_true]at h;exact⟨Z5 l h.1,OQ l h.2⟩
theorem wR(l:List (Nat×Nat)){S:AS}{n:Nat}{ts:List (Nat×AV)}{bs:List (Nat×jF)}{rs:List (Nat×Row)}{g:Nat}{go:Bool}
  (ht:ts.map (λp=>S.t p.1)=ts.map (λp=>T3 l p.2):=by exact rfl) (hb:bs.map (λp=>S.b p.1)=bs.map (λp=>some ⟨p.2.T,p.2.cells.map (T3 l)⟩):=by exact rfl) (hr:rs.map (λp=>S.r (r8 l p.1))=rs.map (λp=>.live p.2):=by exact rfl)
  (hn:S.n=n:=by exact rfl) (hg:S.g=g:=by exact rfl) (Ho:S.go=go:=by exact rfl)
  (hwf:((ts.all λp=>p.2.kE bs rs)&&(bs.all λp=>p.2.cells.all λx=>x.kE bs rs))=true:=by exact rfl) (hσ:((rs.all λp=>rs.all λq=>!(Nat.beq (r8 l p.1) (r8 l q.1))||Nat.beq p.1 q.1))=true:=by exact rfl)
  (hno:((ts.all λp=>T4 p.2)&&(bs.all λp=>p.2.cells.all T4))=true:=by exact rfl) (hl:(l.all λp=>Nat.ble (p.1+1) 1000)=true:=by exact rfl):kL S (AS.dj n ts bs rs g go):=by
 simp only[Bool.and_eq_true,List.all_eq_true]at hno;refine eR (r8 l) hn hg Ho hwf hσ ?_ ?_ ?_ ?_
 ·clear hwf hb hr;obtain⟨h,-⟩:=hno
  induction ts with
  |nil=>trivial
  |cons p ts ih=>
   obtain⟨k,x⟩:=p;simp only[List.map_cons,List.cons.injEq]at ht;refine⟨?_,ih ht.2 (λq hq=>h q (by simp[hq]))⟩;show Db _ (S.t k) x;rw[ht.1];exact Z5 l (h (k,x) (by simp))
 ·clear hwf ht hr;obtain⟨-,h⟩:=hno
  induction bs with
  |nil=>trivial
  |cons p bs ih=>
   obtain⟨k,x⟩:=p;simp only[List.map_cons,List.cons.injEq]at hb;exact⟨⟨_,hb.1,OQ l (List.all_eq_true.2 (h (k,x) (by simp)))⟩,ih hb.2 (λq hq=>h q (by simp[hq]))⟩
 ·clear hwf ht hb hσ
  induction rs with
  |nil=>trivial
  |cons p rs ih=>
   obtain⟨k,x⟩:=p;simp only[List.map_cons,List.cons.injEq]at hr;exact⟨⟨_,hr.1,cO.refl _⟩,ih hr.2⟩
 intro i hi;unfold r8;have:l.find? (λp=>Nat.beq p.1 i)=none:=by
  rw[List.find?_eq_none];intro p hp e;have h1:=af (List.all_eq_true.1 hl p hp);have h2:=Nat.eq_of_beq_eq_true e;omega
 rw[this];rfl
section
variable {P:Program}{C:Ctx}{S:AS}{Q:Exit->AS->Prop}
theorem qq{x y:Code}(h:Ok P C x S (aV (λS'=>Ok P C y S' Q) Q)):Ok P C (.seq x y) S Q:=cm h
theorem sr{id:Nat}{ops:Array Oper}{y:Code}(h:RunT P C ops true (λ_ S=>aV (λS'=>Ok P C y S' Q) Q .normal S) ops.toList [] S):Ok P C (.seq (.region id ops false) y) S Q:=cm (aX h)
theorem dn{ops:Array Oper}{acc:List Ac}{next:AS->Prop}(h:next S):RunT P C ops true (λ_ S=>aV next Q .normal S) [] acc S:=h
theorem cF{c:Operand}{x y:Code}(hf:Ok P C y S Q)(hc:S.ev c=.sv (.v (.bool false)):=by exact rfl):Ok P C (.cond c x y) S Q:=jb hc hf
theorem cT{c:Operand}{x y:Code}(ht:Ok P C x S Q)(hc:S.ev c=.sv (.v (.bool true)):=by exact rfl):Ok P C (.cond c x y) S Q:=fS hc ht
theorem fs{c:Operand}{x:Code}{next:AS->Prop}(h:next S)(hc:S.ev c=.sv (.v (.bool false)):=by exact rfl):Ok P C (.cond c x .skip) S (aV next Q):=jb hc (bz h)
theorem R1{A:Prop}{e:Exit}{t:Nat}{s:SV}(h:S.t t=.sv s):(A\/e=e)/\Ek P S [.tmp t] s:=⟨.inr Y,cW (.tmp h .nil) au⟩
theorem R2{A:Prop}{e:Exit}{t u:Nat}{s s':SV}(h:S.t t=.sv s)(h':S.t u=.sv s'):(A\/e=e)/\Ek P S [.tmp t,.tmp u] (.sN [s,s']):=⟨.inr Y,cW (.tmp h (.tmp h' .nil)) au⟩
theorem RZ{A:Prop}{e:Exit}{rs:List ResultVar}{ss:List SV}{r:SV}(h:D0 P S rs ss)(h':SV.imp (Ex ss) r:=by exact au):(A\/e=e)/\Ek P S rs r:=⟨.inr Y,cW h h'⟩
end
section
variable {P:Program}{C:Ctx}{ops:Array Oper}{S:AS}{nd:Bool}{K:List Ac->AS->Prop}{rest:List Oper}{acc:List Ac}
variable {gd:Option (Nat×Bool)}{rg:List Nat}{d:Nat}{ty:TypeId}{pos:String}{aft:Array Edge}{x y z:Operand}{T U:TypeId}{k:IntKind}{p q:Int}
theorem pF{s:SV}(hz:S.ev z=.sv s)(next:RunT P C ops nd K rest (⟨[]++(aW x++aW z),[],[],⟨some (d,.sv s),[],[]⟩⟩::acc) (S.set d (.sv s)))(hx:S.ev x=.sv (.v (.bool false)):=by exact rfl)(hd:d<S.n:=by exact tl Y):RunT P C ops nd K (⟨some d,.pick x y z,ty,pos,aft,none⟩::rest) acc S:=
 RT.I9 .none hx hz hd next
theorem pT{s:SV}(hy:S.ev y=.sv s)(next:RunT P C ops nd K rest (⟨[]++(aW x++aW y),[],[],⟨some (d,.sv s),[],[]⟩⟩::acc) (S.set d (.sv s)))(hx:S.ev x=.sv (.v (.bool true)):=by exact rfl)(hd:d<S.n:=by exact tl Y):RunT P C ops nd K (⟨some d,.pick x y z,ty,pos,aft,none⟩::rest) acc S:=
 RT.I8 .none hx hy hd next
theorem mo{s:AV}(hx:S.ev x=s)(next:RunT P C ops nd K rest (⟨[]++aW x,[],[],⟨some (d,s),[],[]⟩⟩::acc) (S.set d s))(hd:d<S.n:=by exact tl Y):RunT P C ops nd K (⟨some d,.move x,ty,pos,aft,none⟩::rest) acc S:=
 RT.move .none hx hd next
theorem ad(c:Int)(hx:S.ev x=.sv (.v (.int k p)))(hy:S.ev y=.sv (.v (.int k q)))(hc:k.wrap (p+q)=c)(next:RunT P C ops nd K rest (⟨[]++(aW x++aW y),[],[],⟨some (d,.sv (.v (.int k c))),[],[]⟩⟩::acc) (S.set d (.sv (.v (.int k c)))))(hd:d<S.n:=by exact tl Y):RunT P C ops nd K (⟨some d,.binOp .add T x y U,ty,pos,aft,none⟩::rest) acc S:=
 RT.add .none c hx hy hd hc next
theorem cv{j:IntKind}[tT:gV P T j][tU:gV P U k](c:Int){k':IntKind}(hx:S.ev x=.sv (.v (.int k' p)))(hc:k.wrap p=c)(next:RunT P C ops nd K rest (⟨[]++aW x,[],[],⟨some (d,.sv (.v (.int k c))),[],[]⟩⟩::acc) (S.set d (.sv (.v (.int k c)))))(hd:d<S.n:=by exact tl Y):RunT P C ops nd K (⟨some d,.convert T U x,ty,pos,aft,none⟩::rest) acc S:=
 RT.conv .none c hx hd hc next
theorem ls(c:Bool)(hx:S.ev x=.sv (.v (.int k p)))(hy:S.ev y=.sv (.v (.int k q)))(hc:decide (p<q)=c)(next:RunT P C ops nd K rest (⟨[]++(aW x++aW y),[],[],⟨some (d,.sv (.v (.bool c))),[],[]⟩⟩::acc) (S.set d (.sv (.v (.bool c)))))(hd:d<S.n:=by exact tl Y):RunT P C ops nd K (⟨some d,.binOp .lss T x y U,ty,pos,aft,none⟩::rest) acc S:=
 RT.lss .none c hx hy hd hc next
theorem sb(c:Int)(hx:S.ev x=.sv (.v (.int k p)))(hy:S.ev y=.sv (.v (.int k q)))(hc:k.wrap (p-q)=c)(next:RunT P C ops nd K rest (⟨[]++(aW x++aW y),[],[],⟨some (d,.sv (.v (.int k c))),[],[]⟩⟩::acc) (S.set d (.sv (.v (.int k c)))))(hd:d<S.n:=by exact tl Y):RunT P C ops nd K (⟨some d,.binOp .sub T x y U,ty,pos,aft,none⟩::rest) acc S:=
 RT.sub .none c hx hy hd hc next
theorem an{s:AV}(hx:S.ev x=s)(next:RunT P C ops nd K rest (⟨[]++aW x,[],[],⟨some (d,s),[],[]⟩⟩::acc) (S.set d s))(hd:d<S.n:=by exact tl Y):RunT P C ops nd K (⟨some d,.assign x,ty,pos,aft,none⟩::rest) acc S:=
 RT.assign .none hx hd next
theorem gt(c:Bool)(hx:S.ev x=.sv (.v (.int k p)))(hy:S.ev y=.sv (.v (.int k q)))(hc:decide (q<p)=c)(next:RunT P C ops nd K rest (⟨[]++(aW x++aW y),[],[],⟨some (d,.sv (.v (.bool c))),[],[]⟩⟩::acc) (S.set d (.sv (.v (.bool c)))))(hd:d<S.n:=by exact tl Y):RunT P C ops nd K (⟨some d,.binOp .gtr T x y U,ty,pos,aft,none⟩::rest) acc S:=
 RT.gtr .none c hx hy hd hc next
theorem eq(c:Bool)(hx:S.ev x=.sv (.v (.int k p)))(hy:S.ev y=.sv (.v (.int k q)))(hc:(p==q)=c)(next:RunT P C ops nd K rest (⟨[]++(aW x++aW y),[],[],⟨some (d,.sv (.v (.bool c))),[],[]⟩⟩::acc) (S.set d (.sv (.v (.bool c)))))(hd:d<S.n:=by exact tl Y):RunT P C ops nd K (⟨some d,.binOp .eql T x y U,ty,pos,aft,none⟩::rest) acc S:=
 RT.eql .none c hx hy hd hc next
theorem ne(c:Bool)(hx:S.ev x=.sv (.v (.int k p)))(hy:S.ev y=.sv (.v (.int k q)))(hc:(p != q)=c)(next:RunT P C ops nd K rest (⟨[]++(aW x++aW y),[],[],⟨some (d,.sv (.v (.bool c))),[],[]⟩⟩::acc) (S.set d (.sv (.v (.bool c)))))(hd:d<S.n:=by exact tl Y):RunT P C ops nd K (⟨some d,.binOp .neq T x y U,ty,pos,aft,none⟩::rest) acc S:=
 RT.neq .none c hx hy hd hc next
theorem ge(c:Bool)(hx:S.ev x=.sv (.v (.int k p)))(hy:S.ev y=.sv (.v (.int k q)))(hc:decide (q<=p)=c)(next:RunT P C ops nd K rest (⟨[]++(aW x++aW y),[],[],⟨some (d,.sv (.v (.bool c))),[],[]⟩⟩::acc) (S.set d (.sv (.v (.bool c)))))(hd:d<S.n:=by exact tl Y):RunT P C ops nd K (⟨some d,.binOp .geq T x y U,ty,pos,aft,none⟩::rest) acc S:=
 RT.geq .none c hx hy hd hc next
theorem nt{b:Bool}(hx:S.ev x=.sv (.v (.bool b)))(c:Bool)(hc:(!b)=c)(next:RunT P C ops nd K rest (⟨[]++aW x,[],[],⟨some (d,.sv (.v (.bool c))),[],[]⟩⟩::acc) (S.set d (.sv (.v (.bool c)))))(hd:d<S.n:=by exact tl Y):RunT P C ops nd K (⟨some d,.unOp .not T x,ty,pos,aft,none⟩::rest) acc S:=
 RT.not .none hx hd c hc next
theorem gF{j_ g_:Nat}{dR:Bool}{s:SV}(hz:S.ev z=.sv s)(next:RunT P C ops nd K rest (⟨[g_]++(aW x++aW z),[],[],⟨some (d,.sv s),[],[]⟩⟩::acc) (S.set d (.sv s)))(vY:(ops[j_]?).bind (·.dst)=some g_:=by exact rfl)(vZ:S.t g_=.sv (.v (.bool dR)):=by exact rfl)(hx:S.ev x=.sv (.v (.bool false)):=by exact rfl)(hd:d<S.n:=by exact tl Y):RunT P C ops nd K (⟨some d,.pick x y z,ty,pos,aft,some (j_,dR)⟩::rest) acc S:=
 RT.I9 (.some vY vZ) hx hz hd next
theorem gT{j_ g_:Nat}{dR:Bool}{s:SV}(hy:S.ev y=.sv s)(next:RunT P C ops nd K rest (⟨[g_]++(aW x++aW y),[],[],⟨some (d,.sv s),[],[]⟩⟩::acc) (S.set d (.sv s)))(vY:(ops[j_]?).bind (·.dst)=some g_:=by exact rfl)(vZ:S.t g_=.sv (.v (.bool dR)):=by exact rfl)(hx:S.ev x=.sv (.v (.bool true)):=by exact rfl)(hd:d<S.n:=by exact tl Y):RunT P C ops nd K (⟨some d,.pick x y z,ty,pos,aft,some (j_,dR)⟩::rest) acc S:=
 RT.I8 (.some vY vZ) hx hy hd next
theorem gq{j_ g_:Nat}{dR:Bool}(c:Bool)(hx:S.ev x=.sv (.v (.int k p)))(hy:S.ev y=.sv (.v (.int k q)))(hc:(p != q)=c)(next:RunT P C ops nd K rest (⟨[g_]++(aW x++aW y),[],[],⟨some (d,.sv (.v (.bool c))),[],[]⟩⟩::acc) (S.set d (.sv (.v (.bool c)))))(vY:(ops[j_]?).bind (·.dst)=some g_:=by exact rfl)(vZ:S.t g_=.sv (.v (.bool dR)):=by exact rfl)(hd:d<S.n:=by exact tl Y):RunT P C ops nd K (⟨some d,.binOp .neq T x y U,ty,pos,aft,some (j_,dR)⟩::rest) acc S:=
 RT.neq (.some vY vZ) c hx hy hd hc next
theorem gg{j_ g_:Nat}{dR:Bool}(c:Bool)(hx:S.ev x=.sv (.v (.int k p)))(hy:S.ev y=.sv (.v (.int k q)))(hc:decide (q<p)=c)(next:RunT P C ops nd K rest (⟨[g_]++(aW x++aW y),[],[],⟨some (d,.sv (.v (.bool c))),[],[]⟩⟩::acc) (S.set d (.sv (.v (.bool c)))))(vY:(ops[j_]?).bind (·.dst)=some g_:=by exact rfl)(vZ:S.t g_=.sv (.v (.bool dR)):=by exact rfl)(hd:d<S.n:=by exact tl Y):RunT P C ops nd K (⟨some d,.binOp .gtr T x y U,ty,pos,aft,some (j_,dR)⟩::rest) acc S:=
 RT.gtr (.some vY vZ) c hx hy hd hc next
theorem Ck{j_ g_:Nat}{dR:Bool}(c:Bool)(hx:S.ev x=.sv (.v (.int k p)))(hy:S.ev y=.sv (.v (.int k q)))(hc:(p==q)=c)(next:RunT P C ops nd K rest (⟨[g_]++(aW x++aW y),[],[],⟨some (d,.sv (.v (.bool c))),[],[]⟩⟩::acc) (S.set d (.sv (.v (.bool c)))))(vY:(ops[j_]?).bind (·.dst)=some g_:=by exact rfl)(vZ:S.t g_=.sv (.v (.bool dR)):=by exact rfl)(hd:d<S.n:=by exact tl Y):RunT P C ops nd K (⟨some d,.binOp .eql T x y U,ty,pos,aft,some (j_,dR)⟩::rest) acc S:=
 RT.eql (.some vY vZ) c hx hy hd hc next
theorem T5{j_ g_:Nat}{dR:Bool}{b:Bool}(hx:S.ev x=.sv (.v (.bool b)))(c:Bool)(hc:(!b)=c)(next:RunT P C ops nd K rest (⟨[g_]++aW x,[],[],⟨some (d,.sv (.v (.bool c))),[],[]⟩⟩::acc) (S.set d (.sv (.v (.bool c)))))(vY:(ops[j_]?).bind (·.dst)=some g_:=by exact rfl)(vZ:S.t g_=.sv (.v (.bool dR)):=by exact rfl)(hd:d<S.n:=by exact tl Y):RunT P C ops nd K (⟨some d,.unOp .not T x,ty,pos,aft,some (j_,dR)⟩::rest) acc S:=
 RT.not (.some vY vZ) hx hd c hc next
end
section
variable {P:Program}{C:Ctx}{ops:Array Oper}{S:AS}{nd:Bool}{K:List Ac->AS->Prop}{rest:List Oper}{acc:List Ac}
variable {gd:Option (Nat×Bool)}{rg:List Nat}{d:Nat}{ty:TypeId}{pos:String}{aft:Array Edge}{x y z:Operand}{T U E0:TypeId}
theorem mv{s:SV}(hx:S.ev x=.sv s)(next:RunT P C ops nd K rest (⟨[]++aW x,[],[],⟨some (d,.sv s),[],[]⟩⟩::acc) (S.set d (.sv s)))(hd:d<S.n:=by exact tl Y):RunT P C ops nd K (⟨some d,.move x,ty,pos,aft,none⟩::rest) acc S:=
 RT.mv .none hx hd next
theorem ag{s:SV}(hx:S.ev x=.sv s)(next:RunT P C ops nd K rest (⟨[]++aW x,[],[],⟨some (d,.sv s),[],[]⟩⟩::acc) (S.set d (.sv s)))(hd:d<S.n:=by exact tl Y):RunT P C ops nd K (⟨some d,.assign x,ty,pos,aft,none⟩::rest) acc S:=
 RT.A9 .none hx hd next
theorem cl{f:FuncId}[er P f]{g:Operand}{xs:Array Operand}{at_:Array TypeId}{args:List SV}{r:SV}(hp:Pure P f args r)(hargs:fM S xs.toList args)(next:RunT P C ops nd K rest (⟨[]++(aW g++xs.toList.flatMap aW),[],[],⟨some (d,.sv r),[],[]⟩⟩::acc) (S.set d (.sv r)))(hf:S.ev g=.sv (.v (.func (.func f) #[] #[])):=by exact rfl)(hd:d<S.n:=by exact tl Y):RunT P C ops nd K (⟨some d,.call ⟨.value g,xs,at_⟩,ty,pos,aft,none⟩::rest) acc S:=
 RT.call .none hp hf hargs hd next
theorem ld{n:Nat}[tA:qS P T n]{j off:Nat}{B:jF}{cs:List SV}(hx:S.ev x=.ptr j off)(hB:S.b j=some B)(hcs:DZ B.cells off cs)(next:RunT P C ops nd K rest (⟨[]++aW x,[j],[],⟨some (d,.sv (.agg cs)),[],[]⟩⟩::acc) (S.set d (.sv (.agg cs))))(hn:cs.length=n:=by exact rfl)(hd:d<S.n:=by exact tl Y):RunT P C ops nd K (⟨some d,.load T x,ty,pos,aft,none⟩::rest) acc S:=
 RT.load .none hx hB hcs hn hd next
theorem lV[tV:nx P T]{j off:Nat}{B:jF}{s:SV}(hx:S.ev x=.ptr j off)(hB:S.b j=some B)(hn:B.cells[off]? =some (.sv s))(next:RunT P C ops nd K rest (⟨[]++aW x,[j],[],⟨some (d,.sv s),[],[]⟩⟩::acc) (S.set d (.sv s)))(hd:d<S.n:=by exact tl Y):RunT P C ops nd K (⟨some d,.load T x,ty,pos,aft,none⟩::rest) acc S:=
 RT.K0 .none hx hB hn hd next
theorem fa{f off:Nat}[hf:rX P T f off U][sU:wL P U]{j o:Nat}(hx:S.ev x=.ptr j o){o':Nat}(ho':o+off=o')(next:RunT P C ops nd K rest (⟨[]++aW x,[],[],⟨some (d,.ptr j o'),[],[]⟩⟩::acc) (S.set d (.ptr j o')))(hd:d<S.n:=by exact tl Y):RunT P C ops nd K (⟨some d,.fieldAddr T x f,ty,pos,aft,none⟩::rest) acc S:=
 RT.fieldAddr .none hx hd ho' next
theorem so{n:Nat}[tA:qS P T n]{j:Nat}{B:jF}{cs:List SV}[o1:ug cs](hx:S.ev x=.ptr j 0)(hB:S.b j=some B)(hy:S.ev y=.sv (.agg cs))(next:RunT P C ops nd K rest (⟨[]++(aW x++aW y),[j],[],⟨none,[(j,⟨B.T,cs.map AV.sv⟩)],[]⟩⟩::acc) (S.gL j ⟨B.T,cs.map AV.sv⟩))(qV:cs.length=n:=by exact rfl)(hn:B.cells.length=n:=by exact rfl):RunT P C ops nd K (⟨none,.store T x y,ty,pos,aft,none⟩::rest) acc S:=
 RT.store .none hx hB hy qV hn next
theorem ex{i:Nat}{ss:List SV}{s:SV}(hx:S.ev x=.sv (.sN ss))(hi:ss[i]? =some s)(next:RunT P C ops nd K rest (⟨[]++aW x,[],[],⟨some (d,.sv s),[],[]⟩⟩::acc) (S.set d (.sv s)))(hd:d<S.n:=by exact tl Y):RunT P C ops nd K (⟨some d,.extract x i,ty,pos,aft,none⟩::rest) acc S:=
 RT.extract .none hx hi hd next
theorem bx{cells:List SV}(hx:S.ev x=.sv (.agg cells))(next:RunT P C ops nd K rest (⟨[]++aW x,[d],[],⟨some (d,.ptr d 0),[(d,⟨T,cells.map AV.sv⟩)],[]⟩⟩::acc) ((S.gL d ⟨T,cells.map AV.sv⟩).set d (.ptr d 0)))(hd:d<S.n:=by exact tl Y)(hb:S.b d=none:=by exact rfl)(hp:C.eY d=none:=by exact rfl):RunT P C ops nd K (⟨some d,.box T x,ty,pos,aft,none⟩::rest) acc S:=
 RT.box .none hx hd hb hp next
theorem lr[tV:nx P T]{cells:List SV}{s:SV}(hx:S.ev x=.sv (ref cells))(hn:cells[0]? =some s)(next:RunT P C ops nd K rest (⟨[]++aW x,[],[],⟨some (d,.sv s),[],[]⟩⟩::acc) (S.set d (.sv s)))(hd:d<S.n:=by exact tl Y):RunT P C ops nd K (⟨some d,.load T x,ty,pos,aft,none⟩::rest) acc S:=
 RT.fL .none hx hn hd next
theorem cB{f:FuncId}[er P f]{g:Operand}{xs:Array Operand}{at_:Array TypeId}{args:List SV}{T:TypeId}{c0 c1:List SV}{res:SV}(hp:Hu P f args T c0 res c1)(j:Nat)(hB:S.b j=some ⟨T,c0.map AV.sv⟩)(hargs:fM S xs.toList args)(next:RunT P C ops nd K rest (⟨[]++(aW g++xs.toList.flatMap aW),[j],[],⟨some (d,.sv res),[(j,⟨T,c1.map AV.sv⟩)],[]⟩⟩::acc) ((AS.dJ [(j,⟨T,c1.map AV.sv⟩)] S).set d (.sv res)))(hf:S.ev g=.fj f [.box j]:=by exact rfl)(hd:d<S.n:=by exact tl Y):RunT P C ops nd K (⟨some d,.call ⟨.value g,xs,at_⟩,ty,pos,aft,none⟩::rest) acc S:=
 RT.Ow .none hp j hB hf hargs hd next
theorem cN{f:FuncId}[er P f]{g:Operand}{xs:Array Operand}{at_:Array TypeId}{args:List SV}{R:Row}(hp:Bc P f args R)(hargs:fM S xs.toList args)(next:RunT P C ops nd K rest (⟨[]++(aW g++xs.toList.flatMap aW),[],[d],⟨some (d,.row d),[],[(d,.live R)]⟩⟩::acc) ((AS.bC [(d,.live R)] S).set d (.row d)))(hf:S.ev g=.sv (.v (.func (.func f) #[] #[])):=by exact rfl)(hd:d<S.n:=by exact tl Y)(qX:S.r d=.un:=by exact rfl)(o6:d<1000:=by exact tl Y):RunT P C ops nd K (⟨some d,.call ⟨.value g,xs,at_⟩,ty,pos,aft,none⟩::rest) acc S:=
 RT.Ov .none hp hf hargs hd qX o6 next
theorem gm{j_ g_:Nat}{dR:Bool}{s:SV}(hx:S.ev x=.sv s)(next:RunT P C ops nd K rest (⟨[g_]++aW x,[],[],⟨some (d,.sv s),[],[]⟩⟩::acc) (S.set d (.sv s)))(vY:(ops[j_]?).bind (·.dst)=some g_:=by exact rfl)(vZ:S.t g_=.sv (.v (.bool dR)):=by exact rfl)(hd:d<S.n:=by exact tl Y):RunT P C ops nd K (⟨some d,.move x,ty,pos,aft,some (j_,dR)⟩::rest) acc S:=
 RT.mv (.some vY vZ) hx hd next
theorem gl{j_ g_:Nat}{dR:Bool}{n:Nat}[tA:qS P T n]{j off:Nat}{B:jF}{cs:List SV}(hx:S.ev x=.ptr j off)(hB:S.b j=some B)(hcs:DZ B.cells off cs)(next:RunT P C ops nd K rest (⟨[g_]++aW x,[j],[],⟨some (d,.sv (.agg cs)),[],[]⟩⟩::acc) (S.set d (.sv (.agg cs))))(vY:(ops[j_]?).bind (·.dst)=some g_:=by exact rfl)(vZ:S.t g_=.sv (.v (.bool dR)):=by exact rfl)(hn:cs.length=n:=by exact rfl)(hd:d<S.n:=by exact tl Y):RunT P C ops nd K (⟨some d,.load T x,ty,pos,aft,some (j_,dR)⟩::rest) acc S:=
 RT.load (.some vY vZ) hx hB hcs hn hd next
theorem gc{j_ g_:Nat}{dR:Bool}{f:FuncId}[er P f]{g:Operand}{xs:Array Operand}{at_:Array TypeId}{args:List SV}{r:SV}(hp:Pure P f args r)(hargs:fM S xs.toList args)(next:RunT P C ops nd K rest (⟨[g_]++(aW g++xs.toList.flatMap aW),[],[],⟨some (d,.sv r),[],[]⟩⟩::acc) (S.set d (.sv r)))(vY:(ops[j_]?).bind (·.dst)=some g_:=by exact rfl)(vZ:S.t g_=.sv (.v (.bool dR)):=by exact rfl)(hf:S.ev g=.sv (.v (.func (.func f) #[] #[])):=by exact rfl)(hd:d<S.n:=by exact tl Y):RunT P C ops nd K (⟨some d,.call ⟨.value g,xs,at_⟩,ty,pos,aft,some (j_,dR)⟩::rest) acc S:=
 RT.call (.some vY vZ) hp hf hargs hd next
theorem gr{j_ g_:Nat}{dR:Bool}[tV:nx P T]{cells:List SV}{s:SV}(hx:S.ev x=.sv (ref cells))(hn:cells[0]? =some s)(next:RunT P C ops nd K rest (⟨[g_]++aW x,[],[],⟨some (d,.sv s),[],[]⟩⟩::acc) (S.set d (.sv s)))(vY:(ops[j_]?).bind (·.dst)=some g_:=by exact rfl)(vZ:S.t g_=.sv (.v (.bool dR)):=by exact rfl)(hd:d<S.n:=by exact tl Y):RunT P C ops nd K (⟨some d,.load T x,ty,pos,aft,some (j_,dR)⟩::rest) acc S:=
 RT.fL (.some vY vZ) hx hn hd next
end
section
variable {P:Program}{C:Ctx}{ops:Array Oper}{S:AS}{nd:Bool}{K:List Ac->AS->Prop}{rest:List Oper}{acc:List Ac}
variable {gd:Option (Nat×Bool)}{rg:List Nat}{d:Nat}{ty:TypeId}{pos:String}{aft:Array Edge}{x y z:Operand}{T U E0:TypeId}
variable {l l' k:Lr}
theorem ww{op:Op}{j g:Nat}{b want:Bool}(next:RunT P C ops nd K rest (⟨[g],[],[],⟨some (d,.sv (.v undef)),[],[]⟩⟩::acc) (S.set d (.sv (.v undef))))(h1:(ops[j]?).bind (·.dst)=some g:=by exact rfl)(h2:S.t g=.sv (.v (.bool b)):=by exact rfl)(hb:b≠want:=by exact sk Y)(hd:d<S.n:=by exact tl Y):RunT P C ops nd K (⟨some d,op,ty,pos,aft,some (j,want)⟩::rest) acc S:=
 RT.skV h1 h2 hb hd next
theorem wu{op:Op}{j g:Nat}{want:Bool}(next:RunT P C ops nd K rest (⟨[g],[],[],⟨some (d,.sv (.v undef)),[],[]⟩⟩::acc) (S.set d (.sv (.v undef))))(h1:(ops[j]?).bind (·.dst)=some g:=by exact rfl)(h2:S.t g=.sv (.v undef):=by exact rfl)(hd:d<S.n:=by exact tl Y):RunT P C ops nd K (⟨some d,op,ty,pos,aft,some (j,want)⟩::rest) acc S:=
 RT.ON h1 h2 hd next
end
section
variable {P:Program}{C:Ctx}{ops:Array Oper}{S:AS}{nd:Bool}{K:List Ac->AS->Prop}{rest:List Oper}{acc:List Ac}
variable {gd:Option (Nat×Bool)}{rg:List Nat}{d:Nat}{ty:TypeId}{pos:String}{aft:Array Edge}{x y z:Operand}{T U E0:TypeId}
variable {α:Type}{l l' k:List α}{e:α->List SV}{n by_:Nat}{zv:Value}
theorem ln{m:Nat}[tS:dD P T E0 m]{c:Int}(hx:S.ev x=.sv (slc n (l.map e)))(hc:(l.length:Int)=c)(next:RunT P C ops nd K rest (⟨[]++aW x,[],[],⟨some (d,.sv (.v (.int .i64 c))),[],[]⟩⟩::acc) (S.set d (.sv (.v (.int .i64 c)))))(hd:d<S.n:=by exact tl Y):RunT P C ops nd K (⟨some d,.call ⟨.builtin .len,#[x],#[T]⟩,ty,pos,aft,none⟩::rest) acc S:=
 RT.OI .none hx hd hc next
theorem al[tz:iK P T zv]{cs:List SV}(hi:cO (zv.cells.toList.map SV.v) cs){av:List AV}(Wp:cs.map AV.sv=av)(next:RunT P C ops nd K rest (⟨[]++[],[d],[],⟨some (d,.ptr d 0),[(d,⟨T,av⟩)],[]⟩⟩::acc) ((S.gL d ⟨T,av⟩).set d (.ptr d 0)))(hd:d<S.n:=by exact tl Y)(hb:S.b d=none:=by exact rfl)(hp:C.eY d=none:=by exact rfl):RunT P C ops nd K (⟨some d,.alloc T,ty,pos,aft,none⟩::rest) acc S:=
 RT.Lp .none hi Wp hd hb hp next
theorem ix[tS:dD P T E0 n]{kk:IntKind}{i:Int}{a:α}(hx:S.ev x=.sv (slc n (l.map e)))(hy:S.ev y=.sv (.v (.int kk i)))(ha:cI l i=some a)(next:RunT P C ops nd K rest (⟨[]++(aW x++aW y),[],[],⟨some (d,.sv (ref (e a))),[],[]⟩⟩::acc) (S.set d (.sv (ref (e a)))))(hd:d<S.n:=by exact tl Y):RunT P C ops nd K (⟨some d,.indexAddr T x y,ty,pos,aft,none⟩::rest) acc S:=
 RT.Dk .none hx hy hd ha next
theorem bl[tS:dD P T E0 n][tE:gy P E0 n by_ zv]{len:Nat}{parts:Array (Nat×Operand)}{qs:List (Nat×List SV)}(hp:ju S parts.toList qs)(hc:kF 0 qs=true)(hl:qs.length=len)(hsz:(qs.all λq=>Nat.beq q.2.length n)=true)(hlen:Nat.ble (len*n) 16777216=true)(De:(zv.cells.toList.all λv=>v.oneCell')=true)(gX:qs.map (·.2)=l.map e)(next:RunT P C ops nd K rest (⟨[]++iq parts.toList,[],[],⟨some (d,.sv (slc n (l.map e))),[],[]⟩⟩::acc) (S.set d (.sv (slc n (l.map e)))))(hd:d<S.n:=by exact tl Y):RunT P C ops nd K (⟨some d,.buildSlice T len parts,ty,pos,aft,none⟩::rest) acc S:=
 RT.HD .none hp hd hc hl hsz hlen De gX next
theorem iR[tS:dD P T E0 n]{i j:Nat}{E1:TypeId}{kk:IntKind}{v:Int}(hx:S.ev x=.row i)(hR:S.r i=.live (TR E1 n e l))(hy:S.ev y=.sv (.v (.int kk v)))(h:rf l v=some j)(next:RunT P C ops nd K rest (⟨[]++(aW x++aW y),[],[i],⟨some (d,.eX i (j*n)),[],[]⟩⟩::acc) (S.set d (.eX i (j*n))))(hd:d<S.n:=by exact tl Y):RunT P C ops nd K (⟨some d,.indexAddr T x y,ty,pos,aft,none⟩::rest) acc S:=
 RT.Wq .none hx hR hy hd h next
theorem aI{s X:SV}(hx:S.ev x=.sv s)(hi:SV.imp s X)(next:RunT P C ops nd K rest (⟨[]++aW x,[],[],⟨some (d,.sv X),[],[]⟩⟩::acc) (S.set d (.sv X)))(hd:d<S.n:=by exact tl Y):RunT P C ops nd K (⟨some d,.assign x,ty,pos,aft,none⟩::rest) acc S:=
 RT.Wo .none hx hi hd next
theorem bI{pl:List (Nat×Nat)}{zc:List Value}[tP:gz P T pl zc]{parts:Array (Nat×Operand)}{qs:List (Nat×List SV)}(hp:ju S parts.toList qs){cs cs':List SV}(hi:cO cs cs')(next:RunT P C ops nd K rest (⟨[]++iq parts.toList,[],[],⟨some (d,.sv (.agg cs')),[],[]⟩⟩::acc) (S.set d (.sv (.agg cs'))))(hf:nU (λi=>pl[i]?) (zc.map SV.v) qs=some cs:=by exact rfl)(hd:d<S.n:=by exact tl Y):RunT P C ops nd K (⟨some d,.build T parts,ty,pos,aft,none⟩::rest) acc S:=
 RT.Lq .none hp hf hi hd next
theorem lR[tV:nx P T][el:EL e 1]{i j:Nat}{E1:TypeId}{a:α}{s:SV}(hx:S.ev x=.eX i (j*1))(hR:S.r i=.live (TR E1 1 e l))(ha:l[j]? =some a)(hs:e a=[s])(next:RunT P C ops nd K rest (⟨[]++aW x,[],[i],⟨some (d,.sv s),[],[]⟩⟩::acc) (S.set d (.sv s)))(hd:d<S.n:=by exact tl Y):RunT P C ops nd K (⟨some d,.load T x,ty,pos,aft,none⟩::rest) acc S:=
 RT.OK .none hx hR ha hs hd next
theorem aR[tS:dD P T E0 n][tE:gy P E0 n by_ zv]{i:Nat}(hx:S.ev x=.row i)(hR:S.r i=.live (TR E0 n e l))(hy:S.ev y=.sv (slc n (k.map e)))(h:qK by_ l k=some l')(next:RunT P C ops nd K rest (⟨[]++(aW x++aW y),[],[i,d],⟨some (d,.row d),[],[(i,.dead),(d,.live (TR E0 n e l'))]⟩⟩::acc) ((AS.bC [(i,.dead),(d,.live (TR E0 n e l'))] S).set d (.row d)))(hd:d<S.n:=by exact tl Y)(qX:S.r d=.un:=by exact rfl)(o6:d<1000:=by exact tl Y):RunT P C ops nd K (⟨some d,.call ⟨.builtin .append,#[x,y],#[T,T]⟩,ty,pos,aft,none⟩::rest) acc S:=
 RT.apR .none hx hR hy hd qX o6 h next
theorem lA[tA:qS P T n][el:EL e n]{i j:Nat}{E1:TypeId}{a:α}(hx:S.ev x=.eX i (j*n))(hR:S.r i=.live (TR E1 n e l))(ha:l[j]? =some a)(next:RunT P C ops nd K rest (⟨[]++aW x,[],[i],⟨some (d,.sv (.agg (e a))),[],[]⟩⟩::acc) (S.set d (.sv (.agg (e a)))))(hd:d<S.n:=by exact tl Y):RunT P C ops nd K (⟨some d,.load T x,ty,pos,aft,none⟩::rest) acc S:=
 RT.OL .none hx hR ha hd next
theorem sR[tV:nx P T][el:EL e 1]{i j:Nat}{E1:TypeId}{s:SV}[o1:One s](a:α)(hs:e a=[s])(hx:S.ev x=.eX i (j*1))(hR:S.r i=.live (TR E1 1 e l))(hy:S.ev y=.sv s)(h:stM l j a=some l')(next:RunT P C ops nd K rest (⟨[]++(aW x++aW y),[],[i],⟨none,[],[(i,.live (TR E1 1 e l'))]⟩⟩::acc) (AS.bC [(i,.live (TR E1 1 e l'))] S)):RunT P C ops nd K (⟨none,.store T x y,ty,pos,aft,none⟩::rest) acc S:=
 RT.Wr .none a hs hx hR hy h next
theorem sA[tA:qS P T n][el:EL e n]{i j:Nat}{E1:TypeId}(a:α)(hx:S.ev x=.eX i (j*n))(hR:S.r i=.live (TR E1 n e l))(hy:S.ev y=.sv (.agg (e a)))(h:stM l j a=some l')(next:RunT P C ops nd K rest (⟨[]++(aW x++aW y),[],[i],⟨none,[],[(i,.live (TR E1 n e l'))]⟩⟩::acc) (AS.bC [(i,.live (TR E1 n e l'))] S)):RunT P C ops nd K (⟨none,.store T x y,ty,pos,aft,none⟩::rest) acc S:=
 RT.OM .none a hx hR hy h next
theorem lL{m:Nat}[tS:dD P T E0 m]{i:Nat}{E1:TypeId}{c:Int}(hx:S.ev x=.row i)(hR:S.r i=.live (TR E1 n e l))(hc:(l.length:Int)=c)(next:RunT P C ops nd K rest (⟨[]++aW x,[],[i],⟨some (d,.sv (.v (.int .i64 c))),[],[]⟩⟩::acc) (S.set d (.sv (.v (.int .i64 c)))))(hd:d<S.n:=by exact tl Y):RunT P C ops nd K (⟨some d,.call ⟨.builtin .len,#[x],#[T]⟩,ty,pos,aft,none⟩::rest) acc S:=
 RT.OJ .none hx hR hd hc next
theorem cR{f:FuncId}[er P f]{g:Operand}{xs:Array Operand}{at_:Array TypeId}{args:List AV}{E1:TypeId}{res:AV}(hp:Bb P f args (TR E1 n e l) res (l'.flatMap e))(hlen:l'.length=l.length)(i:Nat)(hR:S.r i=.live (TR E1 n e l))(hargs:oA S xs.toList (args.map (AV.r8 i)))(next:RunT P C ops nd K rest (⟨[]++(aW g++xs.toList.flatMap aW),[],[i],⟨some (d,res.r8 i),[],[(i,.live (TR E1 n e l'))]⟩⟩::acc) ((AS.bC [(i,.live (TR E1 n e l'))] S).set d (res.r8 i)))(hrow:args.all AV.qY=true:=by exact rfl)(hres:res.qY=true:=by exact rfl)(hf:S.ev g=.sv (.v (.func (.func f) #[] #[])):=by exact rfl)(hd:d<S.n:=by exact tl Y):RunT P C ops nd K (⟨some d,.call ⟨.value g,xs,at_⟩,ty,pos,aft,none⟩::rest) acc S:=
 RT.Lw .none hp hlen i hR hrow hres hf hargs hd next
theorem gn{j_ g_:Nat}{dR:Bool}{m:Nat}[tS:dD P T E0 m]{c:Int}(hx:S.ev x=.sv (slc n (l.map e)))(hc:(l.length:Int)=c)(next:RunT P C ops nd K rest (⟨[g_]++aW x,[],[],⟨some (d,.sv (.v (.int .i64 c))),[],[]⟩⟩::acc) (S.set d (.sv (.v (.int .i64 c)))))(vY:(ops[j_]?).bind (·.dst)=some g_:=by exact rfl)(vZ:S.t g_=.sv (.v (.bool dR)):=by exact rfl)(hd:d<S.n:=by exact tl Y):RunT P C ops nd K (⟨some d,.call ⟨.builtin .len,#[x],#[T]⟩,ty,pos,aft,some (j_,dR)⟩::rest) acc S:=
 RT.OI (.some vY vZ) hx hd hc next
end
section
variable {P:Program}{C:Ctx}{ops:Array Oper}{S:AS}{nd:Bool}{K:List Ac->AS->Prop}{rest:List Oper}{acc:List Ac}
variable {gd:Option (Nat×Bool)}{rg:List Nat}{d:Nat}{ty:TypeId}{pos:String}{aft:Array Edge}{x y z:Operand}{T U E0 E1:TypeId}
theorem fl{f off:Nat}[hf:rX P T f off U][tV:nx P U]{cs:List SV}{s:SV}(hx:S.ev x=.sv (.agg cs))(hs:cs[off]? =some s)(next:RunT P C ops nd K rest (⟨[]++aW x,[],[],⟨some (d,.sv s),[],[]⟩⟩::acc) (S.set d (.sv s)))(hd:d<S.n:=by exact tl Y):RunT P C ops nd K (⟨some d,.field T x f,ty,pos,aft,none⟩::rest) acc S:=
 RT.field .none hx hs hd next
end
end
end Go.Fw.Z
namespace Go.Fw
section
open Go.RowKit
def Mem.fr(M:Mem)(N:Nat):Mem:=λb o=>if N<=b then M b o else none
theorem Mem.OR(M:Mem)(N:Nat):(M.fr N).le M:=λb o v h=>by
 unfold Mem.fr at h;split at h
 ·exact h
 cases h
theorem Mem.Cm{M M':Mem}(h:M.le M')(N:Nat):(M.fr N).le (M'.fr N):=λb o v e=>by
 unfold Mem.fr at*;split at e
 ·rename_i hn;rw[if_pos hn];exact h b o v e
 cases e
def nw(N:Nat)(s:SV):SV:=⟨λM v=>s.h (M.fr N) v/\∀g,v.ownBlock=some g->∃o,M.fr N g o=some (.agg #[]),λhM h=>⟨s.mono (Mem.Cm hM N) h.1,λg e=>by obtain⟨o,q⟩:=h.2 g e;exact⟨o,Mem.Cm hM N _ _ _ q⟩⟩⟩
theorem eH{N:Nat}{s:SV}:SV.imp (nw N s) s:=λM _ h=>s.mono (Mem.OR M N) h.1
instance{N:Nat}{s:SV}{n:Nat}[h:TU s n]:TU (nw N s) n:=⟨λM v hv=>h.h M v (eH M v hv)⟩
instance{N:Nat}{s:SV}{n:Nat}{rows:List (List SV)}[h:Hj s n rows]:Hj (nw N s) n rows:=⟨λM v hv=>h.h M v (eH M v hv)⟩
instance{N:Nat}{s:SV}{n sz:Nat}{f:Nat->Nat->SV}[h:Sub s n sz f]:Sub (nw N s) n sz (λa b=>nw N (f a b)):=⟨λM v hv=>by
 obtain⟨a,c,e,hc,hs⟩:=h.h (M.fr N) v hv.1;refine⟨a,c,e,hc,λlo hi h1 h2=>⟨hs lo hi h1 h2,λg hg=>hv.2 g ?_⟩⟩;subst e;cases a with
 |none=>split at hg<;>cases hg
 |some a=>
  split at hg
  ·exact hg
  have e:(a.add (lo*sz)).block=a.block:=by unfold Addr.add;split<;>rfl
  rw[show(Value.slice (Option.map (λx=>x.add (lo*sz)) (some a)) (hi-lo) (c-lo)).ownBlock=some (a.add (lo*sz)).block from rfl,e]at hg;exact hg⟩
instance{N:Nat}{s:SV}[h:One s]:One (nw N s):=⟨λM v hv=>h.h _ v hv.1⟩
class Z6 (N:Nat) (s:SV):Prop where
 h:∀M v,s.h M v->s.h (M.fr N) v
instance{N:Nat}{x:Value}:Z6 N (.v x):=⟨λ_ _ h=>h⟩
class HM (N:Nat) (l:List SV):Prop where
 h:∀s∈l,∀M v,s.h M v->s.h (M.fr N) v
instance{N:Nat}:HM N []:=⟨λs h=>by cases h⟩
instance{N:Nat}{s:SV}{l:List SV}[a:Z6 N s][b:HM N l]:HM N (s::l):=⟨λt ht=>by
 rcases List.mem_cons.1 ht with rfl|ht
 ·exact a.h
 exact b.h t ht⟩
class Dm (N:Nat) {α:Type} (e:α->List SV):Prop where
 h:∀x,HM N (e x)
instance{N:Nat}:Dm N aY:=⟨λ_=>inferInstance⟩
abbrev fZ(N:Nat)(z:Zr):List SV:=[.v (.bool z.neg),nw N (slc 1 (z.w.map aY))]
abbrev fQ(N:Nat)(q:Qr):List SV:=[.v (.bool q.num.neg),nw N (slc 1 (q.num.w.map aY)),.v (.bool q.den.neg),nw N (slc 1 (q.den.w.map aY))]
theorem bt{α:Type}{N n:Nat}{e:α->List SV}:SV.imp (.v (.slice none 0 0)) (nw N (slc n (([]:List α).map e))):=λ_ _ h=>⟨.inl ⟨none,h,rfl⟩,λg e=>by rw[show _=Value.slice none 0 0 from h]at e;cases e⟩
theorem cO.at:∀{l l':List SV},cO l l'->∀(k:Nat) (s':SV),l'[k]? =some s'->∃s,l[k]? =some s/\SV.imp s s':=λh _ _ e=>cO.get h e
theorem zI(N:Nat)(z:Zr):cO (fZ N z) (eZ z):=⟨au,eH,aq⟩
theorem qI(N:Nat)(q:Qr):cO (fQ N q) (eQ q):=⟨au,eH,au,eH,aq⟩
theorem yd{N n:Nat}{α:Type}{e:α->List SV}[he:Dm N e]{l:List α}{M:Mem}{v:Value}(h:(slc n (l.map e)).h M v)(hb:∀g,v.ownBlock=some g->N<=g/\∃o,M g o=some (.agg #[])):(nw N (slc n (l.map e))).h M v:=by
 refine⟨?_,λg hg=>by obtain⟨h1,o,h2⟩:=hb g hg;exact⟨o,by unfold Mem.fr;rw[if_pos h1];exact h2⟩⟩;rcases h with⟨a,h1,h2⟩|⟨b,o,c,h1,h2,h3,h4⟩
 ·exact .inl ⟨a,h1,h2⟩
 have hN:N<=b:=(hb b (by rw[h1];rfl)).1;refine .inr ⟨b,o,c,h1,h2,h3,λi row hr=>⟨(h4 i row hr).1,λk s hs=>?_⟩⟩;obtain⟨y,hy,ho,hh⟩:=(h4 i row hr).2 k s hs;refine⟨y,by unfold Mem.fr;rw[if_pos hN];exact hy,ho,?_⟩;rw[List.getElem?_map]at hr;cases hx:l[i]? with
 |none=>rw[hx]at hr;cases hr
 |some x=>
  rw[hx]at hr;have hr:e x=row:=Option.some.inj hr;subst hr;exact(he.h x).h s (List.mem_of_getElem? hs) M y hh
section
variable {P:Program}{C:Ctx}{S:AS}{Q:Exit->AS->Prop}
theorem aZ.HN{E:Env}{a:Act}{w:World}(h:aZ C S E a w)(vs:List Value)(T:TypeId)(hone:∀v∈vs,v.oneCell'=true):aZ C S {E with M:=λb o=>if b=w.heap.size then(vs++[.agg #[]])[o]? else E.M b o} a (w.alloc (.cells ⟨vs⟩ T)):=by
 have hno:∀o,E.M w.heap.size o=none:=λo=>by
  cases e:E.M w.heap.size o with
  |none=>rfl
  |some v=>have:=jk h.cy e;omega
 refine h.grow (λb o v e=>?_) (λb o v e=>?_) (λb o v e=>?_) (((Below.refl _ _).alloc (Nat.le_refl _) _))
 ·have:b≠w.heap.size:=by rintro rfl;rw[hno o]at e;cases e
  simp[this,e]
 ·by_cases hb:b=w.heap.size
  ·exact .inr (by omega)
  simp only[if_neg hb]at e;exact .inl e
 by_cases hb:b=w.heap.size
 ·subst hb;simp only[if_true]at e;by_cases ho:o<vs.length
  ·rw[List.getElem?_append_left ho]at e;refine .of ?_ (hone v (List.mem_of_getElem? e));rw[World.cell?_alloc_new];simpa using e
  rw[List.getElem?_append_right (by omega)]at e;cases Cn:o-vs.length with
  |succ k=>rw[Cn]at e;simp at e
  |zero=>
   rw[Cn]at e;simp at e;subst e;exact⟨⟨vs⟩,T,by show(w.heap.push _)[w.heap.size]? =_;rw[Array.getElem?_push,if_pos rfl]⟩
 simp only[if_neg hb]at e;refine(h.cy b o v e).same ?_;show(w.heap.push _)[b]? =_;rw[Array.getElem?_push,if_neg hb]
theorem nC{c:Code}{i n N:Nat}{E1:TypeId}{α:Type}{e:α->List SV}{l:List α}[el:EL e n][he:Dm N e](hN:N<=C.w0.heap.size)(hb:∀k,¬C.nu k)(hR:S.r i=.live (TR E1 n e l))(hk:Ok P C c (S.jt i (nw N (slc n (l.map e)))) Q):Ok P C c S Q:=λa w hs=>by
 obtain⟨E,h⟩:=hs;have hlen:l.length<=9223372036854775807:=by
  obtain⟨⟨vs,ho,hv⟩,_⟩:=h.rx i _ hR;rcases ho.2 with⟨_,q2⟩|⟨g',cap,cur,q1,_,q2,q3,q4,q5,q6⟩
  ·have q2:l.length=0:=q2;omega
  have q3:l.length<=cap:=q3;have:maxLen=9223372036854775807:=by decide
  omega
 exact hk a w (h.jt hR (mH l) (by rw[List.length_map]) hlen (jD l) (λM v hv hg=>yd hv (λg e=>⟨(hg g e).1.elim (λq=>Nat.le_trans hN q) (λq=>absurd q (hb g)),(hg g e).2⟩)))
def dS(P:Program)(f:FuncId)(N:Nat)(args:List SV)(r:SV):Prop:=
 ∀(M:Mem) (w:World) (vs:List Value),N<=w.heap.size->M.cy w->SV.da M args vs->
  Calls P f ⟨vs⟩ w λe w'=>∃v M',e=.returned v/\M.le M'/\(∀b o x,M' b o=some x->M b o=some x\/w.heap.size<=b)/\M'.cy w'/\r.h M' v/\Below w.heap.size w w'
theorem dS.w{f:FuncId}{N:Nat}{args args':List SV}{r:SV}(h:dS P f N args r)(hi:cO args' args):dS P f N args' r:=λM w vs hN hM hv=>h M w vs hN hM (hi.holds hv)
theorem bF{f:FuncId}{fn:Func}{code:Code}{N:Nat}{args:List SV}{r:SV}(hf:P.funcs[f]? =some fn)(hb:fn.body=some code)(hn:args.length<=fn.ntmps)
  (h:∀(w:World) (M:Mem) (vs:List Value),N<=w.heap.size->SV.da M args vs->Ok P (zu w M) code (AS.init fn.ntmps args) (λe S=>(e=.normal\/e=.ret)/\Ek P S fn.results.toList r)):dS P f N args r:=by
 intro M w vs hN hM hvs;refine(callsIn_wide (n:=0)).1 (callsIn_of_wp_marks (F:=Fence.wide) hf hb trivial ?_);refine wpIn_mono (h w M vs hN hvs _ w ⟨_,gO hM hvs hn⟩) ?_;rintro e a' w' ⟨S',⟨he,ss,Jb,himp⟩,E,hh⟩;have key:LeavesInM Fence.wide 0 P fn a'.tmps (λe w'=>∃v M',e=.returned v/\M.le M'/\(∀b o x,M' b o=some x->M b o=some x\/w.heap.size<=b)/\M'.cy w'/\r.h M' v/\Below w.heap.size w w') a'.defers .returning w':=by
  obtain⟨ds,h1,h2,h3⟩:=hh.marks;rw[h1];refine jx ds w' h2 (λr hr=>(h3 r hr).2.2) (λw2 g1 g2 g3 g4 g5=>?_);have vS:=hh.ur h3 g1 g2 g3 g4 g5;obtain⟨v,hv,hs⟩:=xR vS Jb;refine⟨v,hv,v,E.M,Y,vS.m0,λb o x e=>?_,vS.cy,himp _ _ hs,vS.os,vS.tape,vS.output,vS.grown,λk hk=>vS.frame k hk (λh=>h)⟩;rcases vS.dh b o x e with h|h|h
  ·exact .inl h
  ·exact .inr h
  exact h.elim
 rcases he with rfl|rfl
 ·exact key
 exact key
theorem HO{f:FuncId}{N:Nat}{args:List SV}{E1:TypeId}{n:Nat}{α:Type}{e:α->List SV}{l:List α}[el:EL e n][he:Dm N e](hp:Bc P f args (TR E1 n e l)):dS P f N args (nw N (slc n (l.map e))):=by
 intro M w vs hN hM hvs;refine(hp M w vs hM hvs).mono ?_;rintro ex w' ⟨v,M',us,rfl,hle,hnew,hin,hown,uh,hH,OS⟩;have gX:Rows n (l.map e) (l.flatMap e):=mH l;have qV:=pB gX;rcases hown.2 with⟨h1,h2⟩|⟨g,cap,cur,h1,_,h2,h3,_,h5,h6⟩
 ·exact⟨v,M',rfl,hle,hnew,hin,⟨.inl ⟨none,h1,by have h2:l.length=0:=h2;rw[List.length_eq_zero_iff.1 h2];rfl⟩,λg e=>by rw[h1]at e;cases e⟩,OS⟩
 have hg:v.ownBlock=some g:=by rw[h1];rfl
 obtain⟨hge,hno⟩:=hH g hg;have h3:l.length<=cap:=h3;have abm:maxLen=9223372036854775807:=by decide
 refine⟨v,λb o=>if b=g/\o<l.length*n then us[o]? else if b=g/\o=l.length*n then some (.agg #[])else M' b o,Y,λb o x q=>?_,λb o x q=>?_,λb o x q=>?_,?_,OS⟩
 ·have:=hle b o x q;have:b≠g:=by rintro rfl;rw[hno o]at this;cases this
  simp[this];assumption
 ·simp only at q;split at q
  ·rename_i hc;exact .inr (by rw[hc.1];exact hge)
  split at q
  ·rename_i hc;exact .inr (by rw[hc.1];exact hge)
  exact hnew b o x q
 ·simp only at q;split at q
  ·rename_i hc;obtain⟨rfl,zq⟩:=hc;refine .of ?_ (jD l _ _ uh x (List.mem_of_getElem? q));simp only[World.cell?,h2];have h6:cur.toList.take (l.length*n)=us:=h6;rw[<-h6,List.getElem?_take,if_pos zq]at q;simpa using q
  split at q
  ·rename_i hc;cases q;rw[hc.1];exact⟨_,_,h2⟩
  exact hin b o x q
 refine yd ?_ (λg' e'=>by rw[hg]at e';cases e';exact⟨Nat.le_trans hN hge,l.length*n,by simp⟩);refine .inr ⟨g,0,cap,by rw[h1,List.length_map],by rw[List.length_map];exact h3,by rw[List.length_map];omega,λk row hk=>?_⟩;obtain⟨q1,q2⟩:=mD gX k row hk;refine⟨q1,λj s hs=>?_⟩;have AX:=q2 j s hs;obtain⟨y,hy,hys⟩:=uh.get AX;have hlt:k*n+j<l.length*n:=by
  have:=(List.getElem?_eq_some_iff.1 AX).1;rw[qV,List.length_map]at this;exact this
 refine⟨y,by simp[hlt,hy],jD l _ _ uh y (List.mem_of_getElem? hy),s.mono (λb o x q=>?_) hys⟩;have:b≠g:=by rintro rfl;rw[hno o]at q;cases q
 simp[this,q]
end
section
variable {P:Program}{C:Ctx}{ops:Array Oper}{S:AS}{nd:Bool}{K:List Ac->AS->Prop}{rest:List Oper}{acc:List Ac}
variable {gd:Option (Nat×Bool)}{rg:List Nat}{d:Nat}{ty:TypeId}{pos:String}{aft:Array Edge}{x y z:Operand}{T U E0:TypeId}
variable {α:Type}{l l' k:List α}{e:α->List SV}{n by_ N:Nat}{zv:Value}
theorem RT.bJ(hg:Gd ops S gd rg){f:FuncId}[er P f]{g:Operand}{xs:Array Operand}{at_:Array TypeId}{args:List SV}{r:SV}(hp:dS P f N args r)(hN:N<=C.w0.heap.size)(hf:S.ev g=.sv (.v (.func (.func f) #[] #[])))(hargs:fM S xs.toList args)(hd:d<S.n)
  (next:RunT P C ops nd K rest (⟨rg++(aW g++xs.toList.flatMap aW),[],[],⟨some (d,.sv r),[],[]⟩⟩::acc) (S.set d (.sv r))):RunT P C ops nd K (⟨some d,.call ⟨.value g,xs,at_⟩,ty,pos,aft,gd⟩::rest) acc S:=by
 refine .inl ⟨_,[],[],_,?_,next⟩;rintro S' hn ht _ _ i a w L Q ho ⟨E,h⟩ hL;refine bU (C:=C) ho (hg.wanted h (λs hs=>ht s (List.mem_append_left _ hs)) Y) ?_;have qW:a.eval g=.func (.func f) #[] #[]:=by
  have h1:=h.ev g;rw[bk (λ_ h=>List.mem_append_right _ (List.mem_append_left _ h)) ht,hf]at h1;exact h1
 have hall:=fM.vals h hargs (λs hs=>ht s (List.mem_append_right _ (List.mem_append_right _ hs)));have hr:(execOp a.eval ⟨some d,.call ⟨.value g,xs,at_⟩,ty,pos,aft,gd⟩).run P w=.ok (.enter f ⟨xs.toList.map a.eval⟩) w:=by
  have e2:xs.map a.eval=⟨xs.toList.map a.eval⟩:=by apply Array.ext';simp
  have e1:=er.run (P:=P) (f:=f) (xs.map a.eval) w;rw[<-e2];simp[execOp,resolve,qW,Deferred.ofValue,invoke,e1]
 refine bV (C:=C) (by intro c h;cases h) hr ?_;refine⟨λh=>by simp at h,fD ((hp E.M w _ (Nat.le_trans hN h.grown) h.cy hall).mono ?_)⟩;rintro e w' ⟨v,M',rfl,hM,hnew,hin,hv,hb⟩;exact hL _ _ ⟨_,(h.grow hM hnew hin hb).put (x:=.sv r) hv (by show d<S'.n;omega) dY⟩
theorem RT.zP(hg:Gd ops S gd rg){m:Nat}[tS:dD P T E0 m]{c:Int}(hx:S.ev x=.sv (nw N (slc n (l.map e))))(hd:d<S.n)(hc:(l.length:Int)=c)
  (next:RunT P C ops nd K rest (⟨rg++aW x,[],[],⟨some (d,.sv (.v (.int .i64 c))),[],[]⟩⟩::acc) (S.set d (.sv (.v (.int .i64 c))))):RunT P C ops nd K (⟨some d,.call ⟨.builtin .len,#[x],#[T]⟩,ty,pos,aft,gd⟩::rest) acc S:=
 RT.len hg hx hd (by rw[List.length_map,hc];exact next)
theorem RT.Wy(hg:Gd ops S gd rg)[tS:dD P T E0 n]{kk:IntKind}{i:Int}{a:α}(hx:S.ev x=.sv (nw N (slc n (l.map e))))(hy:S.ev y=.sv (.v (.int kk i)))(hd:d<S.n)(ha:cI l i=some a)
  (next:RunT P C ops nd K rest (⟨rg++(aW x++aW y),[],[],⟨some (d,.sv (ref (e a))),[],[]⟩⟩::acc) (S.set d (.sv (ref (e a))))):RunT P C ops nd K (⟨some d,.indexAddr T x y,ty,pos,aft,gd⟩::rest) acc S:=
 RT.indexAddr hg (e a) hx hy hd (kM ha).1 (by rw[List.getElem?_map,(kM ha).2];rfl) next
theorem RT.HP(hg:Gd ops S gd rg)[tS:dD P T E0 n]{lo hi:Option Operand}(a b:Int)(hx:S.ev x=.sv (nw N (slc n (l.map e))))(hlo:uz S 0 lo a)(hhi:uz S l.length hi b)(hd:d<S.n)(h:xV l a b=some l')
  (next:RunT P C ops nd K rest (⟨rg++(aW x++(jv lo++jv hi)),[],[],⟨some (d,.sv (nw N (slc n (l'.map e)))),[],[]⟩⟩::acc) (S.set d (.sv (nw N (slc n (l'.map e)))))):RunT P C ops nd K (⟨some d,.slice T x lo hi none,ty,pos,aft,gd⟩::rest) acc S:=by
 obtain⟨h0,h1,h2,h3⟩:=wO h;exact RT.slice hg hx a b hlo (by rw[List.length_map];exact hhi) hd h0 h1 (by rw[List.length_map];exact h2) _ (by rw[B8,h3]) next
theorem RT.OT(hg:Gd ops S gd rg)[tS:dD P T E0 n][tE:gy P E0 n by_ zv][el:EL e n][he:Dm N e]{i:Nat}(hN:N<=C.w0.heap.size)(hb:∀k,¬C.nu k)(hx:S.ev x=.row i)(hR:S.r i=.live (TR E0 n e l))(hy:S.ev y=.sv (slc n (k.map e)))(hd:d<S.n)(qX:S.r d=.un)(o6:d<1000)(h:qK by_ l k=some l')
  (next:RunT P C ops nd K rest (⟨rg++(aW x++aW y),[],[d,i],⟨some (d,.sv (nw N (slc n (l'.map e)))),[],[(i,.dead),(d,.dead)]⟩⟩::acc) ((AS.bC [(i,.dead),(d,.dead)] S).set d (.sv (nw N (slc n (l'.map e)))))):RunT P C ops nd K (⟨some d,.call ⟨.builtin .append,#[x,y],#[T,T]⟩,ty,pos,aft,gd⟩::rest) acc S:=by
 obtain⟨h1,h2,rfl⟩:=pI h;have hf:l.flatMap e++(k.map e).flatten=(l++k).flatMap e:=by simp[mG]
 exact RT.Ce hg (.row hx hR) hy hd qX o6 (by simpa using h1) (by simpa using h2) _ (rows':=(l++k).map e) (λ_ _ hv hg=>yd hv (λg e=>⟨(hg g e).1.elim (λq=>Nat.le_trans hN q) (λq=>absurd q (hb g)),(hg g e).2⟩)) (by rw[hf];exact mH _) (by simp) (by rw[hf];exact jD _) next
theorem RT.pK(hg:Gd ops S gd rg)[tS:dD P T E0 n][tE:gy P E0 n by_ zv][he:Dm N e](hN:N<=C.w0.heap.size){len:Nat}{parts:Array (Nat×Operand)}{qs:List (Nat×List SV)}(hp:ju S parts.toList qs)(hd:d<S.n)
  (hc:kF 0 qs=true) (hl:qs.length=len) (hsz:(qs.all λq=>Nat.beq q.2.length n)=true) (hlen:Nat.ble (len*n) 16777216=true) (De:(zv.cells.toList.all λv=>v.oneCell')=true) (gX:qs.map (·.2)=l.map e)
  (next:RunT P C ops nd K rest (⟨rg++iq parts.toList,[],[],⟨some (d,.sv (nw N (slc n (l.map e)))),[],[]⟩⟩::acc) (S.set d (.sv (nw N (slc n (l.map e)))))):RunT P C ops nd K (⟨some d,.buildSlice T len parts,ty,pos,aft,gd⟩::rest) acc S:=by
 refine .inl ⟨_,[],[],_,?_,next⟩;rintro S' hn ht _ _ i a w L Q ho ⟨E,h⟩ hL;refine bU (C:=C) ho (hg.wanted h (λs hs=>ht s (List.mem_append_left _ hs)) Y) ?_;obtain⟨vs,hr,hall,hone⟩:=jG (P:=P) (T:=T) (E0:=E0) (n:=n) (by_:=by_) (zv:=zv) (d:=d) (ty:=ty) (pos:=pos) (aft:=aft) (gd:=gd) h hp (λs hs=>ht s (List.mem_append_right _ hs)) hc hl hsz (af hlen) (List.all_eq_true.1 De);refine bV (C:=C) (by intro c h;cases h) hr (hL _ _ ⟨_,(h.HN vs E0 hone).put (d:=d) (x:=.sv (nw N (slc n (l.map e)))) (v:=.slice (some ⟨w.heap.size,0,none⟩) len len) ?_ (by show d<S'.n;omega) dY⟩);have hrw:Rows n (qs.map (·.2)) (qs.map (·.2)).flatten:=⟨Y,λr hr=>by
  obtain⟨q,hq,rfl⟩:=List.mem_map.1 hr;exact Nat.eq_of_beq_eq_true (List.all_eq_true.1 hsz q hq)⟩
 have Ew:=tE.p;have hlb:len<=16777216:=Nat.le_trans (Nat.le_mul_of_pos_right _ Ew) (af hlen);refine yd ?_ (λg e=>by cases e;exact⟨Nat.le_trans hN h.grown,vs.length,by simp⟩);rw[<-gX];refine .inr ⟨w.heap.size,0,len,by rw[List.length_map,hl],by rw[List.length_map,hl];exact Nat.le_refl _,by rw[List.length_map,hl];omega,λk row hk=>?_⟩;obtain⟨q1,q2⟩:=mD hrw k row hk;refine⟨q1,λj s hs=>?_⟩;obtain⟨y,hy,hys⟩:=hall.get (q2 j s hs);refine⟨y,by show(if w.heap.size=w.heap.size then(vs++[Value.agg #[]])[0+k*n+j]? else _)=_;rw[if_pos Y,Nat.zero_add,List.getElem?_append_left (List.getElem?_eq_some_iff.1 hy).1];exact hy,hone y (List.mem_of_getElem? hy),s.mono (λb o v e=>?_) hys⟩;have:b≠w.heap.size:=by rintro rfl;have:=jk h.cy e;omega
 simp[this,e]
end
end
section
open Go.RowKit
theorem fo{P:Program}{f:FuncId}{args:List SV}{r:Nat->SV}{s:SV}(hp:∀N,dS P f N args (r N))(hi:∀N,SV.imp (r N) s):Pure P f args s:=λM w vs hM hv=>(hp w.heap.size M w vs (Nat.le_refl _) hM hv).mono (λ_ _ ⟨v,M',h1,h2,h3,h4,h5,h6⟩=>⟨v,M',h1,h2,h3,h4,hi _ _ _ h5,h6⟩)
section steps
variable {P:Program}{C:Ctx}{ops:Array Oper}{S:AS}{nd:Bool}{K:List Ac->AS->Prop}{rest:List Oper}{acc:List Ac}{N:Nat}
variable {gd:Option (Nat×Bool)}{rg:List Nat}{d:Nat}{ty:TypeId}{pos:String}{aft:Array Edge}{x y z:Operand}{T U E0:TypeId}
end steps
end
end Go.Fw
namespace Go.Proofs.Ytmiflmkdaeianaa
section
open Go.Fw
noncomputable def c8(x0:List Nat):Option (List Nat):=qK 4 [] x0
noncomputable def bu(x0:Nat)(c0:Nat):Option (Nat×Nat):=(some ((x0+c0)%18446744073709551616)).bind λx6=>(some (x6/2^32)).bind λx8=>(some (x6%4294967296)).bind λfN=>some (fN,x8)
noncomputable def bh(x0:List Nat):Option (List Nat):=(cK (λ(sW:(List Nat))=>(show Option (((List Nat))⊕((List Nat)))from cY (λ(uL:Bool)=>(bif uL then(some (sW.length:Int)).bind λgh=>(some (IntKind.i64.wrap (gh-1))).bind λgi=>(xV sW 0 gi).bind λmu=>some (.inl mu)else some (.inr sW))) λWz=>(some (sW.length:Int)).bind λx4=>(some (decide ((0:Int)<x4))).bind λx5=>(bif x5 then(some (sW.length:Int)).bind λx9=>(some (IntKind.i64.wrap (x9-1))).bind λfN=>(cI sW fN).bind λkI=>(some (decide ((kI:Nat)=0))).bind λig=>some ig else some false).bind λBl=>Wz Bl)) x0).bind λuM=>some uM
noncomputable def bL(x0:Bool)(x1:List Nat):Option (Zr):=(bh x1).bind λx6=>(some (x6.length:Int)).bind λx8=>(some (decide ((x8:Int)=0))).bind λx9=>(bif x9 then some ⟨false,[]⟩else some ⟨x0,x6⟩)
noncomputable def dz(x0:Bool)(x1:Nat):Option (Zr):=(some (decide ((x1:Nat)=0))).bind λx7=>(bif x7 then some ⟨false,[]⟩else(some (x1/2^32)).bind λkI=>(some (decide ((kI:Nat)=0))).bind λia=>(bif ia then(some (x1%4294967296)).bind λl7=>some ⟨x0,[l7]⟩else(some (x1%4294967296)).bind λiV=>(some (x1/2^32)).bind λjH=>(some (jH%4294967296)).bind λiW=>some ⟨x0,[iV,iW]⟩))
noncomputable def cM(x0:List Nat):Option (Nat):=(some (x0.length:Int)).bind λx4=>(some (decide ((x4:Int)=0))).bind λx6=>(bif x6 then some 0 else(some (decide ((x4:Int)=1))).bind λx8=>(bif x8 then(cI x0 0).bind λfN=>(some (fN%18446744073709551616)).bind λia=>some ia else(cI x0 0).bind λjS=>(some (jS%18446744073709551616)).bind λjl=>(cI x0 1).bind λgi=>(some (gi%18446744073709551616)).bind λiV=>(some (iV*2^32%18446744073709551616)).bind λje=>(some ((jl ||| je)%18446744073709551616)).bind λjH=>some jH))
noncomputable def bY(x0:List Nat)(x1:List Nat):Option (Int):=(some (x0.length:Int)).bind λx7=>(some (x1.length:Int)).bind λx9=>(some (decide ((x7:Int)≠x9))).bind λfN=>(bif fN then(some (x0.length:Int)).bind λia=>(some (x1.length:Int)).bind λjS=>(some (decide ((ia:Int)<jS))).bind λl7=>(bif l7 then some (-1)else some 1)else(some (x0.length:Int)).bind λgh=>(some (IntKind.i64.wrap (gh-1))).bind λgi=>(cK (λ(sX:Int)=>(show Option ((Int)⊕((Unit)⊕(Int)))from(some (decide ((0:Int)<=sX))).bind λiV=>(bif iV then(cI x0 sX).bind λAY=>(cI x1 sX).bind λgJ=>(some (decide ((AY:Nat)≠gJ))).bind λnL=>(bif nL then(cI x0 sX).bind λjW=>(cI x1 sX).bind λrq=>(some (decide ((jW:Nat)<rq))).bind λnD=>(bif nD then some (.inr (.inr (-1)))else some (.inr (.inr 1)))else(some (IntKind.i64.wrap (sX-1))).bind λjH=>some (.inl jH))else some (.inr (.inl ()))))) gi).bind λe6=>match e6 with|.inr v6=>some v6|.inl _=>some 0)
noncomputable def dm(x0:List Nat)(x1:List Nat):Option (List Nat):=(some (x0.length:Int)).bind λfN=>(some (x1.length:Int)).bind λia=>(some (max (fN:Int) ia)).bind λig=>(some (IntKind.i64.wrap (ig+1))).bind λjS=>(HB (α:=Nat) 4 jS).bind λl7=>(mJ (λ(k:Nat) (s7:Nat×(List Nat))=>match s7 with|⟨pL,fV⟩=>(show Option (Nat×(List Nat))from(some (x0.getD k 0%18446744073709551616)).bind λWA=>(some (x1.getD k 0%18446744073709551616)).bind λWB=>(some ((WA+WB)%18446744073709551616)).bind λiM=>(bu iM pL).bind λ⟨mw,k9⟩=>(qK 4 fV [mw]).bind λgJ=>some (k9,gJ))) (max x0.length x1.length) (0,l7)).bind λe7=>match e7 with|⟨pL,fV⟩=>(bu 0 pL).bind λ⟨kn,k11⟩=>(qK 4 fV [kn]).bind λjW=>some jW
noncomputable def cf(x0:List Nat)(x1:List Nat):Option (List Nat):=(some (x0.length:Int)).bind λfN=>(HB (α:=Nat) 4 fN).bind λkI=>(mJ (λ(k:Nat) (s7:Nat×(List Nat))=>match s7 with|⟨tN,fV⟩=>(show Option (Nat×(List Nat))from(some (x0.getD k 0%18446744073709551616)).bind λWC=>(some (x1.getD k 0%18446744073709551616)).bind λWD=>(some (jV 18446744073709551616 4294967295 WD)).bind λjH=>(some ((WC+jH)%18446744073709551616)).bind λiW=>(bu iW tN).bind λ⟨eG,k9⟩=>(qK 4 fV [eG]).bind λiM=>some (k9,iM))) (max x0.length x1.length) (1,kI)).bind λe7=>match e7 with|⟨tN,fV⟩=>some fV
noncomputable def dW(x0:List Nat)(x1:List Nat):Option (List Nat):=(some (x0.length:Int)).bind λia=>(some (x1.length:Int)).bind λjS=>(some (IntKind.i64.wrap (ia+jS))).bind λl7=>(GV 4 l7 (0:Nat)).bind λjl=>(some (x0.length:Int)).bind λgi=>(cK (λ(NP:Int×(List Nat))=>match NP with|⟨jI,ye⟩=>(show Option ((Int×(List Nat))⊕((List Nat)))from(some (decide ((jI:Int)<gi))).bind λiV=>(bif iV then(cI x0 jI).bind λjH=>(some (x1.length:Int)).bind λiM=>(cK (λ(Lz:Int×Nat×(List Nat))=>match Lz with|⟨ru,pM,oG⟩=>(show Option ((Int×Nat×(List Nat))⊕(Nat×(List Nat)))from(some (decide ((ru:Int)<iM))).bind λlq=>(bif lq then(cI x1 ru).bind λoH=>(some (IntKind.i64.wrap (jI+ru))).bind λpN=>(some (IntKind.i64.wrap (jI+ru))).bind λnD=>(rf oG nD).bind λv5=>(oG[v5]?).bind λqL=>(some (qL%18446744073709551616)).bind λv7=>(some (jH%18446744073709551616)).bind λzf=>(some (oH%18446744073709551616)).bind λzQ=>(some ((zf*zQ)%18446744073709551616)).bind λv8=>(some ((v7+v8)%18446744073709551616)).bind λOU=>(bu OU pM).bind λ⟨tO,WE⟩=>(rf oG pN).bind λDn=>(stM oG Dn tO).bind λWG=>(some (IntKind.i64.wrap (ru+1))).bind λqM=>some (.inl (qM,WE,WG))else some (.inr (pM,oG))))) (0,0,ye)).bind λWH=>match WH with|⟨zR,Bm⟩=>(some (x1.length:Int)).bind λD2=>(some (IntKind.i64.wrap (jI+D2))).bind λJj=>(bu 0 zR).bind λ⟨LA,k45⟩=>(rf Bm Jj).bind λuN=>(stM Bm uN LA).bind λWI=>(some (IntKind.i64.wrap (jI+1))).bind λLB=>some (.inl (LB,WI))else some (.inr ye)))) (0,jl)).bind λoI=>some oI
noncomputable def eT(x0:List Nat)(x1:Nat):Option (Nat×List Nat):=(some (x0.length:Int)).bind λx9=>(some (IntKind.i64.wrap (x9-1))).bind λfN=>(cK (λ(s8:Nat×Int×(List Nat))=>match s8 with|⟨EW,EX,lG⟩=>(show Option ((Nat×Int×(List Nat))⊕(Nat×(List Nat)))from(some (decide ((0:Int)<=EX))).bind λia=>(bif ia then(some (EW*2^32%18446744073709551616)).bind λjl=>(rf lG EX).bind λmu=>(lG[mu]?).bind λiV=>(some (iV%18446744073709551616)).bind λje=>(some ((jl ||| je)%18446744073709551616)).bind λjH=>(xW 18446744073709551616 jH x1).bind λmw=>(some (mw%4294967296)).bind λlq=>(rf lG EX).bind λgJ=>(stM lG gJ lq).bind λCo=>(vX jH x1).bind λkn=>(some (IntKind.i64.wrap (EX-1))).bind λjS=>some (.inl (kn,jS,Co))else some (.inr (EW,lG))))) (0,fN,x0)).bind λe8=>match e8 with|⟨OV,tQ⟩=>(nX x0 tQ).bind λ_=>some (OV,tQ)
noncomputable def dM(x0:List Nat)(x1:Nat):Option (List Nat):=(some (x0.length:Int)).bind λkI=>(some (IntKind.i64.wrap (kI+1))).bind λia=>(HB (α:=Nat) 4 ia).bind λig=>(some (x0.length:Int)).bind λl7=>(cK (λ(s8:Int×Nat×(List Nat))=>match s8 with|⟨pO,lH,fV⟩=>(show Option ((Int×Nat×(List Nat))⊕(Nat×(List Nat)))from(some (decide ((pO:Int)<l7))).bind λgh=>(bif gh then(cI x0 pO).bind λgi=>(some (gi%18446744073709551616)).bind λiW=>(some (iW*2^(min x1 64)%18446744073709551616)).bind λAY=>(bu AY lH).bind λ⟨iM,LC⟩=>(qK 4 fV [iM]).bind λlq=>(some (IntKind.i64.wrap (pO+1))).bind λgJ=>some (.inl (gJ,LC,lq))else some (.inr (lH,fV))))) (0,0,ig)).bind λe8=>match e8 with|⟨uO,EY⟩=>(bu 0 uO).bind λ⟨kn,Jk⟩=>(qK 4 EY [kn]).bind λjW=>some jW
noncomputable def fu(x0:List Nat)(x1:Nat):Option (List Nat):=(some (x0.length:Int)).bind λkI=>(some (IntKind.i64.wrap (kI+1))).bind λia=>(HB (α:=Nat) 4 ia).bind λig=>(some (x0.length:Int)).bind λl7=>(cK (λ(s8:Int×Nat×(List Nat))=>match s8 with|⟨pO,lH,yf⟩=>(show Option ((Int×Nat×(List Nat))⊕(Nat×(List Nat)))from(some (decide ((pO:Int)<l7))).bind λgh=>(bif gh then(cI x0 pO).bind λgi=>(some (gi%18446744073709551616)).bind λiW=>(some (iW*2^(min x1 64)%18446744073709551616)).bind λAY=>(bu AY lH).bind λ⟨iM,LC⟩=>(qK 4 yf [iM]).bind λlq=>(some (IntKind.i64.wrap (pO+1))).bind λgJ=>some (.inl (gJ,LC,lq))else some (.inr (lH,yf))))) (0,0,ig)).bind λe8=>match e8 with|⟨uO,EZ⟩=>(bu 0 uO).bind λ⟨kn,Jk⟩=>(qK 4 EZ [kn]).bind λjW=>some jW
noncomputable def ey(x0:Nat):Option (Int):=(some (decide ((65536:Nat)<=x0))).bind λx4=>cY (λ(j2:Nat×Int)=>match j2 with|⟨Bn,HQ⟩=>(some (decide ((256:Nat)<=Bn))).bind λx8=>cY (λ(j4:Nat×Int)=>match j4 with|⟨OW,OX⟩=>(some (OW%256)).bind λl7=>(nW [0,1,2,2,3,3,3,3,4,4,4,4,4,4,4,4,5,5,5,5,5,5,5,5,5,5,5,5,5,5,5,5,6,6,6,6,6,6,6,6,6,6,6,6,6,6,6,6,6,6,6,6,6,6,6,6,6,6,6,6,6,6,6,6,7,7,7,7,7,7,7,7,7,7,7,7,7,7,7,7,7,7,7,7,7,7,7,7,7,7,7,7,7,7,7,7,7,7,7,7,7,7,7,7,7,7,7,7,7,7,7,7,7,7,7,7,7,7,7,7,7,7,7,7,7,7,7,7,8,8,8,8,8,8,8,8,8,8,8,8,8,8,8,8,8,8,8,8,8,8,8,8,8,8,8,8,8,8,8,8,8,8,8,8,8,8,8,8,8,8,8,8,8,8,8,8,8,8,8,8,8,8,8,8,8,8,8,8,8,8,8,8,8,8,8,8,8,8,8,8,8,8,8,8,8,8,8,8,8,8,8,8,8,8,8,8,8,8,8,8,8,8,8,8,8,8,8,8,8,8,8,8,8,8,8,8,8,8,8,8,8,8,8,8,8,8,8,8,8,8,8,8,8,8,8,8] ((l7:Nat):Int)).bind λjl=>(some (IntKind.i64.wrap (jl:Int))).bind λgh=>(some (IntKind.i64.wrap (OX+gh))).bind λgi=>some gi) λK4=>(bif x8 then(some (Bn/2^8)).bind λfN=>(some (IntKind.i64.wrap (HQ+8))).bind λia=>K4 (fN,ia)else K4 (Bn,HQ))) λK2=>(bif x4 then(some (x0/2^16)).bind λx6=>K2 (x6,16)else K2 (x0,0))
noncomputable def cA(x0:Nat):Option (Int):=(ey x0).bind λx4=>(some (IntKind.i64.wrap (32-x4))).bind λx5=>some x5
noncomputable def eU(x0:List Nat)(o0:Nat)(n0:Nat)(x1:List Nat):Option (Nat×List Nat):=(some (x1.length:Int)).bind λia=>(GW o0 n0 ia).bind λl7=>(x0[l7]?).bind λjl=>(some (jl%18446744073709551616)).bind λgh=>(some (gh*2^32%18446744073709551616)).bind λgi=>(some (IntKind.i64.wrap (ia-1))).bind λje=>(GW o0 n0 je).bind λjH=>(x0[jH]?).bind λiW=>(some (iW%18446744073709551616)).bind λeG=>(some ((gi ||| eG)%18446744073709551616)).bind λAY=>(some (IntKind.i64.wrap (ia-1))).bind λlq=>(cI x1 lq).bind λgJ=>(some (gJ%18446744073709551616)).bind λnL=>(some (IntKind.i64.wrap (ia-2))).bind λjW=>(cI x1 jW).bind λpN=>(some (pN%18446744073709551616)).bind λwX=>(xW 18446744073709551616 AY nL).bind λnD=>(vX AY nL).bind λv7=>(cK (λ(zS:Nat×Nat)=>match zS with|⟨wc,wY⟩=>(show Option ((Nat×Nat)⊕(Nat))from cY (λ(Bo:Bool)=>(bif Bo then(some (jV 18446744073709551616 wc 1)).bind λOY=>(some ((wY+nL)%18446744073709551616)).bind λAZ=>(some (AZ/2^32)).bind λE4=>(some (decide ((E4:Nat)≠0))).bind λWJ=>(bif WJ then some (.inr OY)else some (.inl (OY,AZ)))else some (.inr wc))) λWz=>(some (wc/2^32)).bind λzf=>(some (decide ((zf:Nat)≠0))).bind λuP=>(bif uP then some true else(some ((wc*wX)%18446744073709551616)).bind λtO=>(some (wY*2^32%18446744073709551616)).bind λqM=>(some (IntKind.i64.wrap (ia-2))).bind λDp=>(GW o0 n0 Dp).bind λD2=>(x0[D2]?).bind λJj=>(some (Jj%18446744073709551616)).bind λLD=>(some ((qM ||| LD)%18446744073709551616)).bind λLA=>(some (decide ((LA:Nat)<tO))).bind λuN=>some uN).bind λE5=>Wz E5)) (nD,v7)).bind λDq=>(nX x0 x0).bind λ_=>some (Dq,x0)
noncomputable def cg(x0:List Nat)(o0:Nat)(n0:Nat)(x1:List Nat)(x2:Nat):Option (Bool×List Nat):=(some (n0:Int)).bind λjS=>(cK (λ(tR:Nat×Int×Nat×(List Nat))=>match tR with|⟨Dr,pP,yg,nE⟩=>(show Option ((Nat×Int×Nat×(List Nat))⊕(Nat×(List Nat)))from(some (decide ((pP:Int)<jS))).bind λjl=>(bif jl then(some (x1.length:Int)).bind λiV=>(some (decide ((pP:Int)<iV))).bind λje=>cY (λ(E6:Nat)=>(GW o0 n0 pP).bind λnL=>(nE[nL]?).bind λkn=>(some (kn%18446744073709551616)).bind λqN=>(bu E6 yg).bind λ⟨we,WK⟩=>(some (we%18446744073709551616)).bind λwX=>(some (jV 18446744073709551616 qN wX)).bind λrq=>(some (jV 18446744073709551616 rq Dr)).bind λnD=>(some (nD%4294967296)).bind λDs=>(GW o0 n0 pP).bind λzf=>(stM nE zf Ds).bind λWL=>(some (nD/2^63)).bind λzQ=>(some (IntKind.i64.wrap (pP+1))).bind λv8=>some (.inl (zQ,v8,WK,WL))) λZ7=>(bif je then(cI x1 pP).bind λeG=>(some (eG%18446744073709551616)).bind λiM=>(some ((iM*x2)%18446744073709551616)).bind λlq=>Z7 lq else Z7 0)else some (.inr (Dr,nE))))) (0,0,0,x0)).bind λBp=>match Bp with|⟨E7,pQ⟩=>(some (decide ((E7:Nat)≠0))).bind λtO=>(nX x0 pQ).bind λ_=>some (tO,pQ)
noncomputable def fE(x0:List Nat)(x1:List Nat):Option ((List Nat)×(List Nat)):=(some (x1.length:Int)).bind λgh=>(some (IntKind.i64.wrap (gh-1))).bind λiV=>(cI x1 iV).bind λje=>(cA je).bind λiW=>(some ((iW%18446744073709551616).toNat)).bind λeG=>(fu x0 eG).bind λmw=>(dM x1 eG).bind λoH=>(xV oH 0 gh).bind λkn=>(some (x0.length:Int)).bind λjW=>(some (IntKind.i64.wrap (jW-gh))).bind λwe=>(some (IntKind.i64.wrap (we+1))).bind λwX=>(GV 4 wX (0:Nat)).bind λrq=>(some (x0.length:Int)).bind λnD=>(some (IntKind.i64.wrap (nD-gh))).bind λqL=>(cK (λ(LF:Int×(List Nat)×(List Nat))=>match LF with|⟨fW,mM,oJ⟩=>(show Option ((Int×(List Nat)×(List Nat))⊕((List Nat)×(List Nat)))from(some (decide ((0:Int)<=fW))).bind λDs=>(bif Ds then(some (IntKind.i64.wrap (fW+gh))).bind λDn=>(some (IntKind.i64.wrap (Dn+1))).bind λqM=>(Lt oJ fW qM).bind λ⟨Z8,Z9⟩=>(eU oJ Z8 Z9 kn).bind λ⟨Dp,LG⟩=>(nX oJ LG).bind λ_=>(some (IntKind.i64.wrap (fW+gh))).bind λuN=>(some (IntKind.i64.wrap (uN+1))).bind λLB=>(Lt LG fW LB).bind λ⟨o62,n62⟩=>(cg LG o62 n62 kn Dp).bind λ⟨NQ,NR⟩=>(nX LG NR).bind λ_=>cY (λ(NS:Nat×(List Nat))=>match NS with|⟨E8,Bq⟩=>(some (E8%4294967296)).bind λLH=>(rf mM fW).bind λOZ=>(stM mM OZ LH).bind λWM=>(some (IntKind.i64.wrap (fW-1))).bind λuP=>some (.inl (uP,WM,Bq))) λK53=>(bif NQ then(some (jV 18446744073709551616 Dp 1)).bind λO0=>(some (kn.length:Int)).bind λLI=>(cK (λ(LJ:Int×Nat×(List Nat))=>match LJ with|⟨ry,pR,oK⟩=>(show Option ((Int×Nat×(List Nat))⊕(Nat×(List Nat)))from(some (decide ((ry:Int)<LI))).bind λLK=>(bif LK then(cI kn ry).bind λNT=>(some (IntKind.i64.wrap (fW+ry))).bind λx79=>(some (IntKind.i64.wrap (fW+ry))).bind λNU=>(rf oK NU).bind λx85=>(oK[x85]?).bind λx86=>(some (x86%18446744073709551616)).bind λLL=>(some (NT%18446744073709551616)).bind λLM=>(some ((LL+LM)%18446744073709551616)).bind λx90=>(bu x90 pR).bind λ⟨LN,WN⟩=>(rf oK x79).bind λx92=>(stM oK x92 LN).bind λWO=>(some (IntKind.i64.wrap (ry+1))).bind λLO=>some (.inl (LO,WN,WO))else some (.inr (pR,oK))))) (0,0,NR)).bind λWQ=>match WQ with|⟨zT,uQ⟩=>(some (IntKind.i64.wrap (fW+gh))).bind λx97=>(some (IntKind.i64.wrap (fW+gh))).bind λO1=>(rf uQ O1).bind λO2=>(uQ[O2]?).bind λDt=>(some (Dt%18446744073709551616)).bind λE9=>(bu E9 zT).bind λ⟨Br,k72⟩=>(rf uQ x97).bind λO3=>(stM uQ O3 Br).bind λWR=>K53 (O0,WR)else K53 (Dp,NR))else some (.inr (mM,oJ))))) (qL,rq,mw)).bind λWS=>match WS with|⟨uR,rz⟩=>(GV 4 gh (0:Nat)).bind λO4=>(cK (λ(NV:Int×(List Nat))=>match NV with|⟨nF,pS⟩=>(show Option ((Int×(List Nat))⊕((List Nat)))from(some (decide ((nF:Int)<gh))).bind λBs=>(bif Bs then(rf rz nF).bind λO5=>(rz[O5]?).bind λO6=>(some (O6%18446744073709551616)).bind λLP=>(some (IntKind.i64.wrap (nF+1))).bind λO7=>(rf rz O7).bind λO8=>(rz[O8]?).bind λO9=>(some (O9%18446744073709551616)).bind λLQ=>(some (LQ*2^32%18446744073709551616)).bind λLR=>(some ((LP ||| LR)%18446744073709551616)).bind λLS=>(some (LS/2^(min eG 64))).bind λPa=>(some (Pa%4294967296)).bind λLU=>(rf pS nF).bind λPb=>(stM pS Pb LU).bind λWT=>(some (IntKind.i64.wrap (nF+1))).bind λLV=>some (.inl (LV,WT))else some (.inr pS)))) (0,O4)).bind λlI=>some (uR,lI)
noncomputable def dX(x0:List Nat)(x1:List Nat):Option ((List Nat)×(List Nat)):=(bY x0 x1).bind λia=>(some (decide ((ia:Int)<0))).bind λig=>(bif ig then(c8 x0).bind λl7=>some ([],l7)else(some (x0.length:Int)).bind λgi=>(some (decide ((gi:Int)<=2))).bind λmu=>(bif mu then(cM x0).bind λje=>(cM x1).bind λiW=>(xW 18446744073709551616 je iW).bind λiM=>(dz false iM).bind λ⟨si,sj⟩=>(vX je iW).bind λnL=>(dz false nL).bind λ⟨ir,gA⟩=>some (sj,gA)else(some (x1.length:Int)).bind λwe=>(some (decide ((we:Int)=1))).bind λwX=>(bif wX then(c8 x0).bind λnZ=>(cI x1 0).bind λqL=>(some (qL%18446744073709551616)).bind λDs=>(eT nZ Ds).bind λ⟨zf,l5⟩=>(nX nZ l5).bind λ_=>(some (zf%4294967296)).bind λv8=>some (l5,[v8])else(fE x0 x1).bind λ⟨Pc,Pd⟩=>some (Pc,Pd))))
noncomputable def bn(x0:Int):Option (Zr):=(some ((x0%18446744073709551616).toNat)).bind λx5=>(some (decide ((x0:Int)<0))).bind λx7=>cY (λ(Pe:Nat)=>(some (decide ((x0:Int)<0))).bind λkI=>(dz kI Pe).bind λ⟨mN,sn⟩=>some ⟨mN,sn⟩) λK2=>(bif x7 then(some (jV 18446744073709551616 0 x5)).bind λx9=>K2 x9 else K2 x5)
noncomputable def cE(x0:Zr):Option (Int×Bool):=match x0 with|⟨bQ,bM⟩=>(bh bM).bind λx8=>(some (x8.length:Int)).bind λfN=>(some (decide ((2:Int)<fN))).bind λkI=>(bif kI then some (0,false)else(cM x8).bind λig=>(bif bQ then(some (decide ((9223372036854775808:Nat)<ig))).bind λgh=>(bif gh then some (0,false)else(some (jV 18446744073709551616 0 ig)).bind λmu=>(some (IntKind.i64.wrap (mu:Int))).bind λiV=>some (iV,true))else(some (decide ((9223372036854775808:Nat)<=ig))).bind λjH=>(bif jH then some (0,false)else(some (IntKind.i64.wrap (ig:Int))).bind λeG=>some (eG,true))))
noncomputable def cq(x0:Bool)(x1:List Nat)(x2:Bool)(x3:List Nat):Option (Zr):=(some (x0==x2)).bind λkI=>(bif kI then(dm x1 x3).bind λl7=>(bL x0 l7).bind λ⟨n6,n7⟩=>some ⟨n6,n7⟩else(bY x1 x3).bind λmu=>(some (decide ((mu:Int)<0))).bind λiV=>(bif iV then(cf x3 x1).bind λeG=>(bL x2 eG).bind λ⟨wZ,w5⟩=>some ⟨wZ,w5⟩else(cf x1 x3).bind λgJ=>(bL x0 gJ).bind λ⟨w6,w7⟩=>some ⟨w6,w7⟩))
noncomputable def dg(x0:Zr)(x1:Zr):Option (Zr):=match x0 with|⟨bQ,bM⟩=>match x1 with|⟨di,cZ⟩=>(cE ⟨bQ,bM⟩).bind λ⟨wh,Bt⟩=>(cE ⟨di,cZ⟩).bind λ⟨yh,Bu⟩=>cY (λ(uS:Bool)=>cY (λ(j5:Unit)=>(bh bM).bind λv5=>(bh cZ).bind λuP=>(cq bQ v5 di uP).bind λ⟨Jl,Jm⟩=>some ⟨Jl,Jm⟩) λK5=>(bif uS then(some (IntKind.i64.wrap (wh+yh))).bind λiM=>(some (IntKind.i64.wrap ((BitVec.ofInt 64 wh ^^^ BitVec.ofInt 64 iM).toNat))).bind λgJ=>(some (IntKind.i64.wrap ((BitVec.ofInt 64 yh ^^^ BitVec.ofInt 64 iM).toNat))).bind λkn=>(some (IntKind.i64.wrap ((BitVec.ofInt 64 gJ &&& BitVec.ofInt 64 kn).toNat))).bind λqN=>(some (decide ((0:Int)<=qN))).bind λjW=>(bif jW then(bn iM).bind λ⟨n8,l9⟩=>some ⟨n8,l9⟩else K5 ())else K5 ())) λK3=>(bif Bt then some Bu else some false).bind λzU=>K3 zU
noncomputable def fX(x0:Zr)(x1:Zr):Option (Zr):=match x0 with|⟨bQ,bM⟩=>match x1 with|⟨di,cZ⟩=>(cE ⟨bQ,bM⟩).bind λ⟨wh,Bt⟩=>(cE ⟨di,cZ⟩).bind λ⟨yh,Bu⟩=>cY (λ(uS:Bool)=>cY (λ(j5:Unit)=>(bh bM).bind λv5=>(some (!di)).bind λDs=>(bh cZ).bind λzQ=>(cq bQ v5 Ds zQ).bind λ⟨Jn,Jo⟩=>some ⟨Jn,Jo⟩) λK5=>(bif uS then(some (IntKind.i64.wrap (wh-yh))).bind λiM=>(some (IntKind.i64.wrap ((BitVec.ofInt 64 wh ^^^ BitVec.ofInt 64 yh).toNat))).bind λgJ=>(some (IntKind.i64.wrap ((BitVec.ofInt 64 wh ^^^ BitVec.ofInt 64 iM).toNat))).bind λkn=>(some (IntKind.i64.wrap ((BitVec.ofInt 64 gJ &&& BitVec.ofInt 64 kn).toNat))).bind λqN=>(some (decide ((0:Int)<=qN))).bind λjW=>(bif jW then(bn iM).bind λ⟨n8,l9⟩=>some ⟨n8,l9⟩else K5 ())else K5 ())) λK3=>(bif Bt then some Bu else some false).bind λzU=>K3 zU
noncomputable def cV(x0:Zr)(x1:Zr):Option (Zr):=match x0 with|⟨bQ,bM⟩=>match x1 with|⟨di,cZ⟩=>(bh bM).bind λx9=>(bh cZ).bind λia=>cY (λ(Fa:Bool)=>(bif Fa then(some (!(bQ==di))).bind λAY=>(cM x9).bind λmw=>(cM ia).bind λgJ=>(some ((mw*gJ)%18446744073709551616)).bind λoH=>(dz AY oH).bind λ⟨Cp,w8⟩=>some ⟨Cp,w8⟩else(some (!(bQ==di))).bind λwe=>(dW x9 ia).bind λnZ=>(bL we nZ).bind λ⟨mc,me⟩=>some ⟨mc,me⟩)) λK3=>(some (x9.length:Int)).bind λjS=>(some (decide ((jS:Int)<=1))).bind λl7=>(bif l7 then(some (ia.length:Int)).bind λgi=>(some (decide ((gi:Int)<=1))).bind λmu=>some mu else some false).bind λJp=>K3 Jp
noncomputable def dU(x0:Zr):Option (Zr):=match x0 with|⟨bQ,bM⟩=>(some (!bQ)).bind λx5=>(bh bM).bind λx8=>(c8 x8).bind λx9=>(bL x5 x9).bind λ⟨w9,xb⟩=>some ⟨w9,xb⟩
noncomputable def cr(x0:Zr):Option (Int):=match x0 with|⟨bQ,bM⟩=>(bh bM).bind λx6=>(some (x6.length:Int)).bind λx7=>(some (decide ((x7:Int)=0))).bind λx8=>(bif x8 then some 0 else(bif bQ then some (-1)else some 1))
noncomputable def jg(x0:Zr)(x1:Zr):Option (Int):=match x0 with|⟨bQ,bM⟩=>match x1 with|⟨di,cZ⟩=>(cr ⟨bQ,bM⟩).bind λx8=>(cr ⟨di,cZ⟩).bind λfN=>(some (decide ((x8:Int)<fN))).bind λjS=>(bif jS then some (-1)else(some (decide ((fN:Int)<x8))).bind λgi=>(bif gi then some 1 else(some (decide ((x8:Int)<0))).bind λje=>(bif je then(bh cZ).bind λeG=>(bh bM).bind λmw=>(bY eG mw).bind λlq=>some lq else(bh bM).bind λnL=>(bh cZ).bind λjW=>(bY nL jW).bind λpN=>some pN)))
noncomputable def b8(x0:Zr)(x1:Zr):Option (Zr×Zr×Int):=match x0 with|⟨bQ,bM⟩=>match x1 with|⟨di,cZ⟩=>(bh bM).bind λig=>(bh cZ).bind λjl=>(some (jl.length:Int)).bind λgi=>(some (decide ((gi:Int)=0))).bind λmu=>(bif mu then some (⟨false,[]⟩,⟨false,[]⟩,7)else(dX ig jl).bind λ⟨Fb,Pf⟩=>(bh Pf).bind λgJ=>cY (λ(j3:Bool×Bool)=>match j3 with|⟨Fe,Bv⟩=>cY (λ(j5:(List Nat)×(List Nat))=>match j5 with|⟨Pg,Jq⟩=>(some (!(Bv==di))).bind λzQ=>(bL zQ Pg).bind λ⟨Cq,Cr⟩=>(bL false Jq).bind λ⟨zV,zW⟩=>some (⟨Cq,Cr⟩,⟨zV,zW⟩,0)) λK5=>(bif Fe then(dm Fb [1]).bind λnZ=>(cf jl gJ).bind λqL=>K5 (nZ,qL)else K5 (Fb,gJ))) λK3=>(bif bQ then(some (gJ.length:Int)).bind λjW=>(some (decide ((0:Int)<jW))).bind λpN=>some pN else some false).bind λJr=>K3 (Jr,bQ))
noncomputable def gY(x0:Zr)(x1:Zr):Option (Zr):=match x0 with|⟨bQ,bM⟩=>match x1 with|⟨di,cZ⟩=>(bh bM).bind λig=>(bh cZ).bind λjl=>(cK (λ(tR:(List Nat)×(List Nat))=>match tR with|⟨sY,yj⟩=>(show Option (((List Nat)×(List Nat))⊕((List Nat)×(List Nat)))from cY (λ(Bw:Bool)=>(bif Bw then(dX sY yj).bind λ⟨WU,Ph⟩=>(bh Ph).bind λrq=>some (.inl (yj,rq))else some (.inr (sY,yj)))) λK16=>(some (yj.length:Int)).bind λgi=>(some (decide ((0:Int)<gi))).bind λmu=>(bif mu then(some (sY.length:Int)).bind λjH=>(some (decide ((2:Int)<jH))).bind λiW=>(bif iW then some true else(some (yj.length:Int)).bind λiM=>(some (decide ((2:Int)<iM))).bind λmw=>some mw).bind λFf=>some Ff else some false).bind λFg=>K16 Fg)) (ig,jl)).bind λBp=>match Bp with|⟨Fh,Fi⟩=>(some (Fi.length:Int)).bind λnD=>(some (decide ((nD:Int)=0))).bind λv5=>(bif v5 then(c8 Fh).bind λv7=>(bL false v7).bind λ⟨Cs,Ct⟩=>some ⟨Cs,Ct⟩else(cM Fh).bind λuP=>(cM Fi).bind λv8=>(cK (λ(Js:Nat×Nat)=>match Js with|⟨Cu,rA⟩=>(show Option ((Nat×Nat)⊕(Nat))from(some (decide ((0:Nat)<rA))).bind λtO=>(bif tO then(vX Cu rA).bind λGX=>some (.inl (rA,GX))else some (.inr Cu)))) (uP,v8)).bind λxd=>(dz false xd).bind λ⟨Jt,Ju⟩=>some ⟨Jt,Ju⟩)
end
section
open Go.Fw Go.Fw.Z Go.RowKit
theorem dr(c:Nat):Lc ah 92 [.v (.int .u64 (c:Nat))] 113 100 [.v (.int .u64 (c:Nat))]:=by
 refine Be Try.func92 Y (af Y) (λgw M vs hvs=>?_);exact sr<|RT.KV .none (s:=.sv _) Y T Y Y<|ag Y<|dn<|sr<|RT.makeFunc .none (.box Y (.nil)) T<|an (s:=.fj _ _) Y<|dn<|bg<|⟨.inr Y,_,.tmp Y,Y⟩
theorem mO(a b:List Nat):Pure ah 93 [(slc 1 (List.map aY a)),(slc 1 (List.map aY b))] (zy 114 [ref [(slc 1 (List.map aY a))],ref [(slc 1 (List.map aY b))]]):=by
 refine bH Try.func93 Y (af Y) (λgw M vs hvs=>?_);refine sr<|RT.KV .none (s:=.sv _) Y T Y Y<|RT.KV .none (s:=.sv _) Y T Y Y<|ag Y<|dn<|sr<|RT.makeFunc .none (.box Y (.box Y (.nil))) T<|an (s:=.fj _ _) Y<|dn<|ei (wN (i:=2) Y [(slc 1 (List.map aY a))] (.cons Y .nil) .any 0 [(4,.fj 114 [.val (ref [(slc 1 (List.map aY a))]),.box 3])] (λ_ _ _=>trivial) (ug.h (l:=[(slc 1 (List.map aY a))])) ⟨@FT.fj _ _ _ _ _ 4 114 [.box 2,.box 3] Y,aq⟩) ?_;exact ei (wN (i:=3) Y [(slc 1 (List.map aY b))] (.cons Y .nil) .any 0 [(4,.fj 114 [.val (ref [(slc 1 (List.map aY a))]),.val (ref [(slc 1 (List.map aY b))])])] (λ_ _ _=>trivial) (ug.h (l:=[(slc 1 (List.map aY b))])) ⟨@FT.fj _ _ _ _ _ 4 114 [.val (ref [(slc 1 (List.map aY a))]),.box 3] Y,aq⟩)<|ei (Ll 4 (zy 114 [ref [(slc 1 (List.map aY a))],ref [(slc 1 (List.map aY b))]]) (λ_ _ h=>Lm h))<|bg<|⟨.inr Y,K1 (.tmp Y (.nil)) Y⟩
theorem mP(a b:List Nat):Iter ah 114 [ref [(slc 1 (List.map aY a))],ref [(slc 1 (List.map aY b))]] (max a.length b.length) (λk=>[.v (.int .u64 ((a.getD k 0%18446744073709551616:Nat):Int)),.v (.int .u64 ((b.getD k 0%18446744073709551616:Nat):Int))]):=by
 refine Bg Try.func114 Y Y (af Y) (λgw M O l J hJ LW hr=>?_);obtain⟨vN,LW⟩:=LW;have hla:a.length<=9223372036854775807:=by cases vN with|nil=>exact LW.elim|cons _ vN=>exact Ch LW.1
 have hlb:b.length<=9223372036854775807:=by cases vN with|nil=>exact LW.elim|cons _ vN=>cases vN with|nil=>exact LW.2.elim|cons _ _=>exact Ch LW.2.1
 refine cm ?_;refine aX ?_;refine RT.fL .none Y Y (tl Y) ?_;refine RT.len .none Y (tl Y) ?_;refine RT.fL .none Y Y (tl Y) ?_;refine RT.len .none Y (tl Y) ?_;refine RT.max .none (((max a.length b.length:Nat):Int)) Y Y (tl Y) (by simp only[List.length_map];split<;>omega) ?_;refine RT.mv .none Y (tl Y) ?_;refine RT.done ?_;refine aV.n ?_;refine bj ?_
 refine B3 (I:=λx:{i:Nat//i<=max a.length b.length}=>AS.dj 39 [(0,.sv (.v (.func (.yield l) #[] #[]))),(1,.sv (ref [(slc 1 (List.map aY a))])),(2,.sv (ref [(slc 1 (List.map aY b))])),(11,ai ((max a.length b.length:Nat):Int)),(12,ai ((x.1:Nat):Int))] [] [] (x.1)) (μ:=λx=>max a.length b.length-x.1) ⟨0,by omega⟩ (by(try dsimp only);exact eR id Y Y Y Y Y ⟨.sv (by first|exact au|exact SV.bp (by omega)|exact SV.bp (by push_cast;omega)|exact SV.bp (by dsimp only;omega)|exact SV.imp_eq (by simp)),.sv (by first|exact au|exact SV.bp (by omega)|exact SV.bp (by push_cast;omega)|exact SV.bp (by dsimp only;omega)|exact SV.imp_eq (by simp)),.sv (by first|exact au|exact SV.bp (by omega)|exact SV.bp (by push_cast;omega)|exact SV.bp (by dsimp only;omega)|exact SV.imp_eq (by simp)),.sv (by first|exact au|exact SV.bp (by omega)|exact SV.bp (by push_cast;omega)|exact SV.bp (by dsimp only;omega)|exact SV.imp_eq (by simp)),.sv (by first|exact au|exact SV.bp (by omega)|exact SV.bp (by push_cast;omega)|exact SV.bp (by dsimp only;omega)|exact SV.imp_eq (by simp)),aq⟩ trivial trivial (λ_ _=>Y)) ?_;rintro⟨i,hi0⟩
 try dsimp only
 rcases Bi a b i hi0 with⟨hi,xU,Eu⟩|⟨hi,xU,Eu⟩|⟨hi,xU,Eu⟩|hi
 ·
  refine cm ?_;refine aX ?_;refine RT.lss .none (true) Y Y (tl Y) (by simp;omega) ?_;refine RT.done ?_;refine aV.n ?_;refine cm ?_;refine fS Y ?_;refine bz ?_;refine aV.n ?_;refine cm ?_;refine bj ?_;refine cm ?_;refine aX ?_;refine RT.mv .none Y (tl Y) ?_;refine RT.A9 .none Y (tl Y) ?_;refine RT.done ?_;refine aV.n ?_;refine cm ?_;refine aX ?_;refine RT.A9 .none Y (tl Y) ?_;refine RT.A9 .none Y (tl Y) ?_;refine RT.done ?_;refine aV.n ?_;refine cm ?_;refine cm ?_;refine aX ?_;refine RT.mv .none Y (tl Y) ?_;refine RT.fL .none Y Y (tl Y) ?_;refine RT.len .none Y (tl Y) ?_;refine RT.lss .none (true) Y Y (tl Y) (by simp only[List.length_map];simp;omega) ?_;refine RT.done ?_;refine aV.n ?_;refine fS Y ?_;refine aX ?_;refine RT.fL .none Y Y (tl Y) ?_;refine RT.mv .none Y (tl Y) ?_;refine RT.TX .none [.v (.int .u32 ((a.getD i 0:Nat):Int))] (Int.natCast_nonneg i) (by rw[Int.toNat_natCast,List.getElem?_map,mI xU];rfl) Y Y (tl Y) ?_;refine RT.fL .none Y Y (tl Y) ?_;refine RT.conv .none (((a.getD i 0%18446744073709551616:Nat):Int)) Y (tl Y) HA ?_;refine RT.A9 .none Y (tl Y) ?_;refine RT.done ?_;refine aV.n ?_;refine cm ?_;refine cm ?_;refine aX ?_;refine RT.mv .none Y (tl Y) ?_
  refine RT.fL .none Y Y (tl Y) ?_;refine RT.len .none Y (tl Y) ?_;refine RT.lss .none (true) Y Y (tl Y) (by simp only[List.length_map];simp;omega) ?_;refine RT.done ?_;refine aV.n ?_;refine fS Y ?_;refine aX ?_;refine RT.fL .none Y Y (tl Y) ?_;refine RT.mv .none Y (tl Y) ?_;refine RT.TX .none [.v (.int .u32 ((b.getD i 0:Nat):Int))] (Int.natCast_nonneg i) (by rw[Int.toNat_natCast,List.getElem?_map,mI Eu];rfl) Y Y (tl Y) ?_;refine RT.fL .none Y Y (tl Y) ?_;refine RT.conv .none (((b.getD i 0%18446744073709551616:Nat):Int)) Y (tl Y) HA ?_;refine RT.A9 .none Y (tl Y) ?_;refine RT.done ?_;refine aV.n ?_;refine cm ?_;refine aX ?_;refine RT.mv .none Y (tl Y) ?_;refine RT.mv .none Y (tl Y) ?_;refine RT.mv .none Y (tl Y) ?_;refine RT.yield .none hr Y (λ_ h=>h) Y (i) Y Y hi (by exact⟨Y,Y,aq⟩) (tl Y) (λyb=>?_);cases yb
  ·
   refine RT.not .none Y (tl Y) true Y ?_;refine RT.done ?_;refine aV.n ?_;refine fS Y ?_;refine bg ?_;refine bB.r ?_;refine aV.r ?_;refine aV.r ?_;refine bB.r ?_;exact⟨.inr rfl,(λh=>by cases h)⟩
  refine RT.not .none Y (tl Y) false Y ?_;refine RT.done ?_;refine aV.n ?_;refine jb Y ?_;refine bz ?_;refine bB.n ?_;refine aV.n ?_;refine aX ?_;refine RT.add .none (((i:Nat):Int)+1) Y Y (tl Y) (mF (by omega)) ?_;refine RT.mv .none Y (tl Y) ?_;refine RT.done ?_;refine aV.n ?_;refine⟨⟨i+1,by omega⟩,(by dsimp only;omega),?_⟩
  try dsimp only
  exact eR id Y Y Y Y Y ⟨.sv (by first|exact au|exact SV.bp (by omega)|exact SV.bp (by push_cast;omega)|exact SV.bp (by dsimp only;omega)|exact SV.imp_eq (by simp)),.sv (by first|exact au|exact SV.bp (by omega)|exact SV.bp (by push_cast;omega)|exact SV.bp (by dsimp only;omega)|exact SV.imp_eq (by simp)),.sv (by first|exact au|exact SV.bp (by omega)|exact SV.bp (by push_cast;omega)|exact SV.bp (by dsimp only;omega)|exact SV.imp_eq (by simp)),.sv (by first|exact au|exact SV.bp (by omega)|exact SV.bp (by push_cast;omega)|exact SV.bp (by dsimp only;omega)|exact SV.imp_eq (by simp)),.sv (by first|exact au|exact SV.bp (by omega)|exact SV.bp (by push_cast;omega)|exact SV.bp (by dsimp only;omega)|exact SV.imp_eq (by simp)),aq⟩ trivial trivial (λ_ _=>Y)
 ·
  refine cm ?_;refine aX ?_;refine RT.lss .none (true) Y Y (tl Y) (by simp;omega) ?_;refine RT.done ?_;refine aV.n ?_;refine cm ?_;refine fS Y ?_;refine bz ?_;refine aV.n ?_;refine cm ?_;refine bj ?_;refine cm ?_;refine aX ?_;refine RT.mv .none Y (tl Y) ?_;refine RT.A9 .none Y (tl Y) ?_;refine RT.done ?_;refine aV.n ?_;refine cm ?_;refine aX ?_;refine RT.A9 .none Y (tl Y) ?_;refine RT.A9 .none Y (tl Y) ?_;refine RT.done ?_;refine aV.n ?_;refine cm ?_;refine cm ?_;refine aX ?_;refine RT.mv .none Y (tl Y) ?_;refine RT.fL .none Y Y (tl Y) ?_;refine RT.len .none Y (tl Y) ?_;refine RT.lss .none (true) Y Y (tl Y) (by simp only[List.length_map];simp;omega) ?_;refine RT.done ?_;refine aV.n ?_;refine fS Y ?_;refine aX ?_;refine RT.fL .none Y Y (tl Y) ?_;refine RT.mv .none Y (tl Y) ?_;refine RT.TX .none [.v (.int .u32 ((a.getD i 0:Nat):Int))] (Int.natCast_nonneg i) (by rw[Int.toNat_natCast,List.getElem?_map,mI xU];rfl) Y Y (tl Y) ?_;refine RT.fL .none Y Y (tl Y) ?_;refine RT.conv .none (((a.getD i 0%18446744073709551616:Nat):Int)) Y (tl Y) HA ?_;refine RT.A9 .none Y (tl Y) ?_;refine RT.done ?_;refine aV.n ?_;refine cm ?_;refine cm ?_;refine aX ?_;refine RT.mv .none Y (tl Y) ?_
  refine RT.fL .none Y Y (tl Y) ?_;refine RT.len .none Y (tl Y) ?_;refine RT.lss .none (false) Y Y (tl Y) (by simp only[List.length_map];simp;omega) ?_;refine RT.done ?_;refine aV.n ?_;refine jb Y ?_;refine bz ?_;refine aV.n ?_;refine cm ?_;refine aX ?_;refine RT.mv .none Y (tl Y) ?_;refine RT.mv .none Y (tl Y) ?_;refine RT.mv .none Y (tl Y) ?_;refine RT.yield .none hr Y (λ_ h=>h) Y (i) Y Y hi (by exact⟨Y,(by show AV.sv _=AV.sv _;rw[oF Eu];rfl),aq⟩) (tl Y) (λyb=>?_);cases yb
  ·
   refine RT.not .none Y (tl Y) true Y ?_;refine RT.done ?_;refine aV.n ?_;refine fS Y ?_;refine bg ?_;refine bB.r ?_;refine aV.r ?_;refine aV.r ?_;refine bB.r ?_;exact⟨.inr rfl,(λh=>by cases h)⟩
  refine RT.not .none Y (tl Y) false Y ?_;refine RT.done ?_;refine aV.n ?_;refine jb Y ?_;refine bz ?_;refine bB.n ?_;refine aV.n ?_;refine aX ?_;refine RT.add .none (((i:Nat):Int)+1) Y Y (tl Y) (mF (by omega)) ?_;refine RT.mv .none Y (tl Y) ?_;refine RT.done ?_;refine aV.n ?_;refine⟨⟨i+1,by omega⟩,(by dsimp only;omega),?_⟩
  try dsimp only
  exact eR id Y Y Y Y Y ⟨.sv (by first|exact au|exact SV.bp (by omega)|exact SV.bp (by push_cast;omega)|exact SV.bp (by dsimp only;omega)|exact SV.imp_eq (by simp)),.sv (by first|exact au|exact SV.bp (by omega)|exact SV.bp (by push_cast;omega)|exact SV.bp (by dsimp only;omega)|exact SV.imp_eq (by simp)),.sv (by first|exact au|exact SV.bp (by omega)|exact SV.bp (by push_cast;omega)|exact SV.bp (by dsimp only;omega)|exact SV.imp_eq (by simp)),.sv (by first|exact au|exact SV.bp (by omega)|exact SV.bp (by push_cast;omega)|exact SV.bp (by dsimp only;omega)|exact SV.imp_eq (by simp)),.sv (by first|exact au|exact SV.bp (by omega)|exact SV.bp (by push_cast;omega)|exact SV.bp (by dsimp only;omega)|exact SV.imp_eq (by simp)),aq⟩ trivial trivial (λ_ _=>Y)
 ·
  refine cm ?_;refine aX ?_;refine RT.lss .none (true) Y Y (tl Y) (by simp;omega) ?_;refine RT.done ?_;refine aV.n ?_;refine cm ?_;refine fS Y ?_;refine bz ?_;refine aV.n ?_;refine cm ?_;refine bj ?_;refine cm ?_;refine aX ?_;refine RT.mv .none Y (tl Y) ?_;refine RT.A9 .none Y (tl Y) ?_;refine RT.done ?_;refine aV.n ?_;refine cm ?_;refine aX ?_;refine RT.A9 .none Y (tl Y) ?_;refine RT.A9 .none Y (tl Y) ?_;refine RT.done ?_;refine aV.n ?_;refine cm ?_;refine cm ?_;refine aX ?_;refine RT.mv .none Y (tl Y) ?_;refine RT.fL .none Y Y (tl Y) ?_;refine RT.len .none Y (tl Y) ?_;refine RT.lss .none (false) Y Y (tl Y) (by simp only[List.length_map];simp;omega) ?_;refine RT.done ?_;refine aV.n ?_;refine jb Y ?_;refine bz ?_;refine aV.n ?_;refine cm ?_;refine cm ?_;refine aX ?_;refine RT.mv .none Y (tl Y) ?_;refine RT.fL .none Y Y (tl Y) ?_;refine RT.len .none Y (tl Y) ?_;refine RT.lss .none (true) Y Y (tl Y) (by simp only[List.length_map];simp;omega) ?_;refine RT.done ?_;refine aV.n ?_;refine fS Y ?_;refine aX ?_;refine RT.fL .none Y Y (tl Y) ?_;refine RT.mv .none Y (tl Y) ?_
  refine RT.TX .none [.v (.int .u32 ((b.getD i 0:Nat):Int))] (Int.natCast_nonneg i) (by rw[Int.toNat_natCast,List.getElem?_map,mI Eu];rfl) Y Y (tl Y) ?_;refine RT.fL .none Y Y (tl Y) ?_;refine RT.conv .none (((b.getD i 0%18446744073709551616:Nat):Int)) Y (tl Y) HA ?_;refine RT.A9 .none Y (tl Y) ?_;refine RT.done ?_;refine aV.n ?_;refine cm ?_;refine aX ?_;refine RT.mv .none Y (tl Y) ?_;refine RT.mv .none Y (tl Y) ?_;refine RT.mv .none Y (tl Y) ?_;refine RT.yield .none hr Y (λ_ h=>h) Y (i) Y Y hi (by exact⟨(by show AV.sv _=AV.sv _;rw[oF xU];rfl),Y,aq⟩) (tl Y) (λyb=>?_);cases yb
  ·
   refine RT.not .none Y (tl Y) true Y ?_;refine RT.done ?_;refine aV.n ?_;refine fS Y ?_;refine bg ?_;refine bB.r ?_;refine aV.r ?_;refine aV.r ?_;refine bB.r ?_;exact⟨.inr rfl,(λh=>by cases h)⟩
  refine RT.not .none Y (tl Y) false Y ?_;refine RT.done ?_;refine aV.n ?_;refine jb Y ?_;refine bz ?_;refine bB.n ?_;refine aV.n ?_;refine aX ?_;refine RT.add .none (((i:Nat):Int)+1) Y Y (tl Y) (mF (by omega)) ?_;refine RT.mv .none Y (tl Y) ?_;refine RT.done ?_;refine aV.n ?_;refine⟨⟨i+1,by omega⟩,(by dsimp only;omega),?_⟩
  try dsimp only
  exact eR id Y Y Y Y Y ⟨.sv (by first|exact au|exact SV.bp (by omega)|exact SV.bp (by push_cast;omega)|exact SV.bp (by dsimp only;omega)|exact SV.imp_eq (by simp)),.sv (by first|exact au|exact SV.bp (by omega)|exact SV.bp (by push_cast;omega)|exact SV.bp (by dsimp only;omega)|exact SV.imp_eq (by simp)),.sv (by first|exact au|exact SV.bp (by omega)|exact SV.bp (by push_cast;omega)|exact SV.bp (by dsimp only;omega)|exact SV.imp_eq (by simp)),.sv (by first|exact au|exact SV.bp (by omega)|exact SV.bp (by push_cast;omega)|exact SV.bp (by dsimp only;omega)|exact SV.imp_eq (by simp)),.sv (by first|exact au|exact SV.bp (by omega)|exact SV.bp (by push_cast;omega)|exact SV.bp (by dsimp only;omega)|exact SV.imp_eq (by simp)),aq⟩ trivial trivial (λ_ _=>Y)
 subst hi;refine cm ?_;refine aX ?_;refine RT.lss .none (false) Y Y (tl Y) (by simp) ?_;refine RT.done ?_;refine aV.n ?_;refine cm ?_;refine jb Y ?_;refine b9 ?_;refine aV.x ?_;refine aV.x ?_;refine bB.x ?_;exact⟨.inl Y,(λ_=>Y)⟩
theorem kN{x0 r:List Nat}(h:c8 x0=some r):Bc ah 56 [slc 1 (List.map aY x0)] (TR 80 1 aY r):=by
 refine oB Try.func56 Y (af Y) (λgw M vs hvs=>?_);unfold c8 at h;refine sr<|ag Y<|dn<|qq<|sr<|mv Y ?_;refine RT.OE .none Y T (λnb hnb=>?_);cases nb;exact dn<|fs<|sr<|RT.xZ (l:=([]:List Nat)) (e:=aY) .none .nil T Y T Y Y Y Y Y Y<|mv Y<|aR (k:=x0) (e:=aY) Y Y Y h<|an (s:=.row _) Y<|dn<|bg<|⟨.inr Y,_,.tmp Y,Y⟩;have hx:x0=[]:=by simpa using hnb Y
 subst hx;obtain⟨_,_,rfl⟩:=pI h;exact dn<|cT<|sr<|ag Y<|dn<|ei (fU 2 300 80 1 Y Y T)<|bg<|aV.r<|⟨.inr Y,_,.tmp Y,Y⟩
theorem bK{x0:Nat}{c0:Nat}{r:Nat×Nat}(h:bu x0 c0=some r):Hu ah 113 [.v (.int .u64 ((x0:Nat):Int))] 100 [.v (.int .u64 ((c0:Nat):Int))] (.v (.int .u32 ((r.1:Nat):Int))) [.v (.int .u64 ((r.2:Nat):Int))]:=by
 refine Bd Try.func113 Y (af Y) (λgw M β=>?_);unfold bu at h;refine sr<|ag Y<|dn<|sr<|mv Y<|lV Y Y Y<|lE h λx6 h6 h=>ad _ Y Y (UK.add (a:=x0) (b:=c0) h6)<|ag Y<|dn<|sr<|mv Y<|lE h λx8 h8 h=>RT.shr .none _ Y Y T (by decide) (xX (k:=.u64) (a:=x6) (q:=32) (s:=32) Y h8)<|RT.A3 (cells:=[_]) .none (s:=.sv _) Y Y Y T Y<|dn<|sr<|mv Y<|lE h λfN iE h=>cv _ Y (UK.nat iE)<|ag Y ?_;refine dn<|bg ?_;obtain rfl:=O h;exact⟨.inr Y,cW (.tmp Y (.nil)) au,Y⟩
theorem bN{x0:List Nat}{r:List Nat}(h:bh x0=some r):Pure ah 54 [slc 1 (List.map aY x0)] (slc 1 (List.map aY r)):=by
 refine bH Try.func54 Y (af Y) (λgw M vs hvs=>?_);unfold bh at h;refine sr<|aI Y (aB (n:=1) (e:=aY))<|dn<|qq<|bE h λLX Bx yl=>?_;refine bW (λ(uM:(List Nat))=>AS.dj 21 [(0,.sv (slc 1 (List.map aY uM)))] [] []) (λuM=>uM=LX) ?_ (λuM By=>?_);refine bj ?_;refine bX Bx (λzS=>AS.dj 21 [(0,.sv (slc 1 (List.map aY zS)))] [] []) (wR []) (λsW WV WW h Bz zX=>?_)
 try dsimp only
 refine qq<|qq ?_;refine bD h (λPj=>AS.dj 21 [(0,.sv (slc 1 (List.map aY sW))),(14,aj Pj)] [] []) (λh=>?_) (λuL h=>?_);refine aX<|mv Y<|lE h λx4 h4 h=>ln Y h4<|lE h λx5 h5 h=>gt _ Y Y h5<|mv Y<|bE h λBl fe h=>?_;cases x5;obtain rfl:=O (F fe);exact ww<|ww<|ww<|ww<|ww<|ww<|ww<|pF Y<|dn<|⟨false,h,wR []⟩;refine gm Y<|gm Y<|lE (V fe) λx9 h9 fe=>gn Y h9<|lE fe λfN iE fe=>RT.sub (.some Y Y) _ Y Y T iE<|bE fe λkI oL fe=>RT.Dk (.some Y Y) Y Y T oL<|gr Y Y<|lE fe λig lJ fe=>Ck _ Y Y (OG (p:=kI) (q:=0) lJ) ?_;obtain rfl:=O fe;exact pT Y<|dn<|⟨ig,h,wR []⟩
 try dsimp only
 refine aV.n ?_;cases uL;refine cF<|b9<|aV.x<|aV.x<|bB.x<|aV.n ?_;obtain rfl:=O (F h);exact⟨sW,zX _ Y,wR []⟩;refine cT<|bz<|aV.n<|bj<|aX<|mv Y<|mv Y<|lE (V h) λgh kO h=>ln Y kO<|lE h λgi kG h=>sb _ Y Y kG<|bE h λmu pU h=>RT.EO .none 0 gi Y Y ⟨_,Y⟩ T pU<|ag Y<|RT.done<|bB.n ?_;obtain rfl:=O h;exact aV.n ⟨mu,Bz _ Y,wR []⟩;subst By
 try dsimp only
 refine aV.n<|sr<|mv Y<|ag Y<|dn<|bg ?_;obtain rfl:=O yl;exact R1 Y
abbrev ax:SV:=slc 1 (List.map aY [])
theorem fY{x0:Bool}{x1:Nat}(N:Nat){r:Zr}(h:dz x0 x1=some r):dS ah 71 N [az x0,.v (.int .u64 ((x1:Nat):Int))] (.agg ((fZ N) r)):=by
 refine bF Try.func71 Y (af Y) (λgw M vs hN hvs=>?_);unfold dz at h;refine sr<|al (cs:=[az false,nw N ax]) (by exact⟨au,bt,aq⟩) Y<|dn<|qq<|bj<|sr<|mv Y<|lE h λx7 h7 h=>eq _ Y Y (OG (p:=x1) (q:=0) h7)<|ag Y<|dn ?_;cases x7;refine cF<|sr<|mv Y<|lE (F h) λkI oL h=>RT.shr .none _ Y Y T (by decide) (xX (k:=.u64) (a:=x1) (q:=32) (s:=32) Y oL)<|lE h λia kP h=>eq _ Y Y (OG (p:=kI) (q:=0) kP)<|ag Y<|dn ?_;cases ia;refine cF<|bz<|bB.n<|aV.n<|sr<|mv Y<|mv Y<|lE (F h) λiV nM h=>cv _ Y (UK.nat nM)<|mv Y<|lE h λjH sZ h=>RT.shr .none _ Y Y T (by decide) (xX (k:=.u64) (a:=x1) (q:=32) (s:=32) Y sZ)<|lE h λiW oM h=>cv _ Y (UK.nat oM)<|RT.pK (l:=[iV,iW]) (e:=aY) .none hN (.one Y (.one Y (.nil))) T Y Y Y Y Y Y<|bI (cs:=[_,_]) (cs':=[az x0,nw N (slc 1 (List.map aY [iV,iW]))]) (.one Y (.one Y (.nil))) ⟨au,au,aq⟩ ?_;refine so Y Y Y<|dn<|bg ?_;obtain rfl:=O h;exact RZ (.agg Y Y (.k2 Y Y) Y (.nil));refine cT<|sr<|mv Y<|mv Y<|lE (V h) λl7 tc h=>cv _ Y (UK.nat tc)<|RT.pK (l:=[l7]) (e:=aY) .none hN (.one Y (.nil)) T Y Y Y Y Y Y<|bI (cs:=[_,_]) (cs':=[az x0,nw N (slc 1 (List.map aY [l7]))]) (.one Y (.one Y (.nil))) ⟨au,au,aq⟩<|so Y Y Y<|dn<|bg<|bB.r<|aV.r ?_;obtain rfl:=O h
 exact RZ (.agg Y Y (.k2 Y Y) Y (.nil));refine cT<|sr<|bI (cs:=[_,_]) (cs':=[az false,nw N ax]) (.nil) ⟨au,bt,aq⟩<|so Y Y Y<|dn<|bg<|bB.r<|aV.r ?_;obtain rfl:=O (V h);exact RZ (.agg Y Y (.k2 Y Y) Y (.nil))
theorem fy{x0:List Nat}{r:Nat}(h:cM x0=some r):Pure ah 87 [slc 1 (List.map aY x0)] (.v (.int .u64 ((r:Nat):Int))):=by
 refine bH Try.func87 Y (af Y) (λgw M vs hvs=>?_);unfold cM at h;refine sr<|ag Y<|dn<|qq<|sr<|mv Y<|lE h λx4 h4 h=>ln Y h4<|dn<|bj<|sr<|lE h λx6 h6 h=>eq _ Y Y (pJ (p:=x4) (q:=0) h6)<|ag Y<|dn ?_;cases x6;refine cF<|sr<|lE (F h) λx8 h8 h=>eq _ Y Y (pJ (p:=x4) (q:=1) h8)<|ag Y<|dn ?_;cases x8;refine cF<|bz<|bB.n<|aV.n<|qq<|bf mixed<|mv Y<|bE (F h) λjS n9 h=>ix Y Y n9<|lr Y Y<|lE h λjl nN h=>cv _ Y (UK.nat nN)<|mv Y<|bE h λgi kG h=>ix Y Y kG<|lr Y Y<|lE h λiV nM h=>cv _ Y (UK.nat nM)<|lE h λje pV h=>RT.shl .none _ Y Y T (by decide) (UK.shl (a:=iV) (q:=32) (s:=32) Y pV)<|lE h λjH sZ h=>RT.or .none _ Y Y T (UK.or (a:=jl) (b:=je) sZ) ?_;refine ag Y ?_;refine RT.done ⟨by kernel_rfl,?_⟩;refine aV.n<|bg ?_;obtain rfl:=O h;exact R1 Y;refine cT<|sr<|mv Y<|bE (V h) λfN iE h=>ix Y Y iE<|lr Y Y<|lE h λia kP h=>cv _ Y (UK.nat kP)<|ag Y<|dn<|bg<|bB.r<|aV.r ?_;obtain rfl:=O h;exact R1 Y;refine cT<|sr<|ag Y<|dn<|bg<|bB.r<|aV.r ?_;obtain rfl:=O (V h);exact R1 Y
theorem ek{x0:List Nat}{x1:List Nat}{r:Int}(h:bY x0 x1=some r):Pure ah 72 [slc 1 (List.map aY x0),slc 1 (List.map aY x1)] (ay r):=by
 refine bH Try.func72 Y (af Y) (λgw M vs hvs=>?_);unfold bY at h;refine sr<|ag Y<|dn<|qq<|sr<|mv Y<|lE h λx7 h7 h=>ln Y h7<|mv Y<|lE h λx9 h9 h=>ln Y h9<|lE h λfN iE h=>ne _ Y Y (D1 (p:=x7) (q:=x9) iE)<|dn ?_;cases fN;refine fs<|qq<|sr<|mv Y<|lE (F h) λgh kO h=>ln Y kO<|lE h λgi kG h=>sb _ Y Y kG<|ag Y<|dn<|bE h λe6 LY nO=>?_;refine bW (λ(WX:Unit)=>AS.dj 41 [] [] []) (λWX=>.inl WX=e6) ?_ (λWX LZ=>?_);refine bj ?_;refine bX LY (λs6=>AS.dj 41 [(0,.sv (slc 1 (List.map aY x0))),(1,.sv (slc 1 (List.map aY x1))),(5,ai s6)] [] []) (wR []) (λsX y6 G6 h L0 HR=>?_)
 try dsimp only
 refine qq<|sr<|mv Y<|lE h λiV nM h=>ge _ Y Y nM<|dn ?_;cases iV;refine cF<|b9<|aV.x<|aV.x<|bB.x<|aV.n ?_;obtain rfl:=O (F h);exact⟨(),HR _ Y,wR []⟩;refine cT<|bz<|aV.n<|qq<|bj<|qq<|bf mixed<|mv Y<|mv Y<|bE (V h) λAY BA h=>ix Y Y BA<|lr Y Y<|mv Y<|mv Y<|bE h λgJ lu h=>ix Y Y lu<|lr Y Y<|lE h λnL xe h=>ne _ Y Y (NM (p:=AY) (q:=gJ) xe) ?_;refine RT.done ⟨by kernel_rfl,?_⟩;refine aV.n ?_;cases nL;refine cF<|bz<|bB.n<|aV.n<|aX<|mv Y<|lE (F h) λjH sZ h=>sb _ Y Y sZ<|ag Y<|RT.done ?_;obtain rfl:=O h;exact aV.n ⟨jH,L0 _ Y,wR []⟩;refine cT<|qq<|qq<|bf mixed<|mv Y<|mv Y<|bE (V h) λjW oN h=>ix Y Y oN<|lr Y Y<|mv Y<|mv Y<|bE h λrq BB h=>ix Y Y BB<|lr Y Y<|lE h λnD sq h=>ls _ Y Y (NN (p:=jW) (q:=rq) sq) ?_;refine RT.done ⟨by kernel_rfl,?_⟩;refine aV.n ?_;cases nD;refine fs<|sr<|ag Y<|dn<|bg<|bB.r<|aV.r ?_;obtain rfl:=O (F h);have WY:=HR _ Y;subst WY;refine aV.r<|bB.r<|aV.r<|aV.r ?_;obtain rfl:=O nO;exact R1 Y;refine cT<|sr<|ag Y<|dn<|bg<|aV.r<|bB.r<|aV.r ?_;obtain rfl:=O (V h);have WY:=HR _ Y;subst WY;refine aV.r<|bB.r<|aV.r<|aV.r ?_;obtain rfl:=O nO;exact R1 Y;subst LZ
 try dsimp only
 refine aV.n<|sr<|ag Y<|dn<|bg ?_;obtain rfl:=O nO;exact R1 Y;refine cT<|qq<|sr<|mv Y<|lE (V h) λia kP h=>ln Y kP<|mv Y<|lE h λjS n9 h=>ln Y n9<|lE h λl7 tc h=>ls _ Y Y tc<|dn ?_;cases l7;refine fs<|sr<|ag Y<|dn<|bg<|aV.r ?_;obtain rfl:=O (F h);exact R1 Y;refine cT<|sr<|ag Y<|dn<|bg<|aV.r<|aV.r ?_;obtain rfl:=O (V h);exact R1 Y
theorem ko{x0:List Nat}{x1:List Nat}(N:Nat){r:List Nat}(h:dm x0 x1=some r):dS ah 69 N [slc 1 (List.map aY x0),slc 1 (List.map aY x1)] (nw N (slc 1 (List.map aY r))):=by
 refine bF Try.func69 Y (af Y) (λgw M vs hN hvs=>?_);unfold dm at h;refine sr<|aI Y (bt (N:=N) (n:=1) (e:=aY))<|dn<|sr<|mv Y<|lE h λfN iE h=>ln Y iE<|mv Y<|lE h λia kP h=>ln Y kP<|lE h λig lJ h=>RT.max .none _ Y Y T (Wd (p:=fN) (q:=ia) lJ)<|lE h λjS n9 h=>ad _ Y Y n9<|bE h λl7 tc h=>RT.Cg (e:=aY) .none Y Y T Y T tc<|RT.alloc .none T Y Y<|RT.uj (cells:=[_]) .none Y Y Y Y T Y<|dn<|sr ?_;refine RT.uD .none (dr 0) Y ⟨Y,aq⟩ T Y Y<|RT.alloc .none T Y Y<|RT.A3 (cells:=[_]) .none (s:=.fj _ _) Y Y Y T Y<|dn<|qq<|sr<|mv Y<|mv Y<|cl (mO x0 x1) ⟨Y,Y,aq⟩<|dn<|bj<|bE h λe7 WZ L1=>?_;obtain⟨L2,W0,W2,W4⟩:=rj WZ
 refine pG (mP x0 x1) (λ_ _ _ _ _=>trivial) Y (λk=>AS.dj 35 [(5,.ptr 5 0),(6,.ptr 6 0),(19,.sv (zy 114 [ref [slc 1 (List.map aY x0)],ref [slc 1 (List.map aY x1)]]))] [(6,⟨119,[.fj 113 [.box 16]]⟩),(16,⟨100,[.sv (.v (.int .u64 (((L2 k).1:Nat):Int)))]⟩),(5,⟨22,[.row 302]⟩)] [(302,TR 80 1 aY (L2 k).2)]) [6,16,5] Y (λ_=>⟨Y,Y⟩) (EG Y) (λ_=>Y) (EH Y) (by(try dsimp only);rw[W0];(try dsimp only);exact eR (λi=>bif Nat.beq i 302 then 15 else i) Y Y Y Y Y ⟨.ptr,.ptr,.sv au,aq⟩ ⟨⟨_,Y,⟨.fj,aq⟩⟩,⟨_,Y,⟨.sv au,aq⟩⟩,⟨_,Y,⟨.row Y,aq⟩⟩,aq⟩ ⟨⟨_,Y,cO.refl _⟩,aq⟩ (λi hi=>by rw[cG (show i≠302 by omega)];rfl)) (λk hk D hD=>?_) ?_;have h:=W2 k hk;obtain⟨sk,W5⟩:∃q,L2 k=q:=⟨_,Y⟩;rw[W5]at h⊢;obtain⟨pL,fV⟩:=sk;dsimp only[AS.TY,zF]
 try dsimp only at h
 refine lE h λWA W6 h=>?_;rw[W6];refine lE h λWB W7 h=>?_;rw[W7];refine sr<|ag Y<|dn<|aX<|ag Y<|RT.done ?_;refine aV.n ⟨Y,?_⟩;dsimp only[AS.Hy];refine bj<|bf mixed<|RT.j9 .none (s:=.row _) Y Y Y T<|RT.j9 .none (s:=.fj _ _) Y Y Y T<|mv Y<|mv Y<|lE h λiM o7 h=>ad _ Y Y (UK.add (a:=WA) (b:=WB) o7) ?_;obtain⟨⟨mw,k9⟩,su,h⟩:=bS h;refine cB (bK su) 16 Y ⟨Y,aq⟩<|bl (l:=[mw]) (e:=aY) (.one Y (.nil)) Y Y Y Y Y Y<|bE h λgJ lu h=>aR (k:=[mw]) (e:=aY) Y Y Y lu<|RT.uj (cells:=[_]) .none Y Y Y Y T Y ?_;refine RT.done ⟨by kernel_rfl,?_⟩;refine bB.n ?_;replace h:=Option.some.inj h;refine⟨aq,Y,Y,?_⟩
 try dsimp only
 rw[<-h]
 try dsimp only
 exact eR (λi=>bif Nat.beq i 302 then 29 else i) Y Y Y Y Y ⟨.ptr,.ptr,.sv au,aq⟩ ⟨⟨_,Y,⟨.fj,aq⟩⟩,⟨_,Y,⟨.sv au,aq⟩⟩,⟨_,Y,⟨.row Y,aq⟩⟩,aq⟩ ⟨⟨_,Y,cO.refl _⟩,aq⟩ (λi hi=>by rw[cG (show i≠302 by omega)];rfl);rw[W4];obtain⟨pL,fV⟩:=e7
 try dsimp only
 refine bB.n<|aV.n<|qq<|bf mixed<|RT.j9 .none (s:=.row _) Y Y Y T<|RT.j9 .none (s:=.fj _ _) Y Y Y T ?_;obtain⟨⟨kn,k11⟩,oa,L1⟩:=bS L1;refine cB (bK oa) 16 Y ⟨Y,aq⟩<|bl (l:=[kn]) (e:=aY) (.one Y (.nil)) Y Y Y Y Y Y<|bE L1 λjW oN L1=>RT.OT (k:=[kn]) (e:=aY) .none hN (λ_ h=>h) Y Y Y T Y T oN<|ag Y ?_;refine RT.done ⟨by kernel_rfl,?_⟩;refine aV.n<|bg ?_;obtain rfl:=O L1;exact R1 Y
theorem iu{x0:List Nat}{x1:List Nat}(N:Nat){r:List Nat}(h:cf x0 x1=some r):dS ah 70 N [slc 1 (List.map aY x0),slc 1 (List.map aY x1)] (nw N (slc 1 (List.map aY r))):=by
 refine bF Try.func70 Y (af Y) (λgw M vs hN hvs=>?_);unfold cf at h;refine sr<|aI Y (bt (N:=N) (n:=1) (e:=aY))<|dn<|sr<|mv Y<|lE h λfN iE h=>ln Y iE<|bE h λkI oL h=>RT.Cg (e:=aY) .none Y Y T Y T oL<|RT.alloc .none T Y Y<|RT.uj (cells:=[_]) .none Y Y Y Y T Y<|dn<|sr<|RT.uD .none (dr 1) Y ⟨Y,aq⟩ T Y Y<|RT.alloc .none T Y Y<|RT.A3 (cells:=[_]) .none (s:=.fj _ _) Y Y Y T Y<|dn<|qq<|sr<|mv Y ?_;refine mv Y<|cl (mO x0 x1) ⟨Y,Y,aq⟩<|dn<|bj<|bE h λe7 WZ L1=>?_;obtain⟨L2,W0,W2,W4⟩:=rj WZ;refine pG (mP x0 x1) (λ_ _ _ _ _=>trivial) Y (λk=>AS.dj 28 [(5,.ptr 5 0),(6,.ptr 6 0),(15,.sv (zy 114 [ref [slc 1 (List.map aY x0)],ref [slc 1 (List.map aY x1)]]))] [(6,⟨119,[.fj 113 [.box 12]]⟩),(12,⟨100,[.sv (.v (.int .u64 (((L2 k).1:Nat):Int)))]⟩),(5,⟨22,[.row 302]⟩)] [(302,TR 80 1 aY (L2 k).2)]) [6,12,5] Y (λ_=>⟨Y,Y⟩) (EG Y) (λ_=>Y) (EH Y) (by(try dsimp only);rw[W0];(try dsimp only);exact eR (λi=>bif Nat.beq i 302 then 11 else i) Y Y Y Y Y ⟨.ptr,.ptr,.sv au,aq⟩ ⟨⟨_,Y,⟨.fj,aq⟩⟩,⟨_,Y,⟨.sv au,aq⟩⟩,⟨_,Y,⟨.row Y,aq⟩⟩,aq⟩ ⟨⟨_,Y,cO.refl _⟩,aq⟩ (λi hi=>by rw[cG (show i≠302 by omega)];rfl)) (λk hk D hD=>?_) ?_;have h:=W2 k hk;obtain⟨sk,W5⟩:∃q,L2 k=q:=⟨_,Y⟩;rw[W5]at h⊢;obtain⟨tN,fV⟩:=sk;dsimp only[AS.TY,zF]
 try dsimp only at h
 refine lE h λWC W8 h=>?_;rw[W8];refine lE h λWD W9 h=>?_;rw[W9];refine sr<|ag Y<|dn<|aX<|ag Y<|RT.done ?_;refine aV.n ⟨Y,?_⟩;dsimp only[AS.Hy];refine bj<|bf mixed<|RT.j9 .none (s:=.row _) Y Y Y T<|RT.j9 .none (s:=.fj _ _) Y Y Y T<|mv Y<|mv Y<|lE h λjH sZ h=>sb _ Y Y (UK.sub (a:=4294967295) (b:=WD) sZ)<|lE h λiW oM h=>ad _ Y Y (UK.add (a:=WC) (b:=jH) oM) ?_;obtain⟨⟨eG,k9⟩,mg,h⟩:=bS h;refine cB (bK mg) 12 Y ⟨Y,aq⟩<|bl (l:=[eG]) (e:=aY) (.one Y (.nil)) Y Y Y Y Y Y<|bE h λiM o7 h=>aR (k:=[eG]) (e:=aY) Y Y Y o7<|RT.uj (cells:=[_]) .none Y Y Y Y T Y ?_;refine RT.done ⟨by kernel_rfl,?_⟩;refine bB.n ?_;replace h:=Option.some.inj h;refine⟨aq,Y,Y,?_⟩
 try dsimp only
 rw[<-h]
 try dsimp only
 exact eR (λi=>bif Nat.beq i 302 then 26 else i) Y Y Y Y Y ⟨.ptr,.ptr,.sv au,aq⟩ ⟨⟨_,Y,⟨.fj,aq⟩⟩,⟨_,Y,⟨.sv au,aq⟩⟩,⟨_,Y,⟨.row Y,aq⟩⟩,aq⟩ ⟨⟨_,Y,cO.refl _⟩,aq⟩ (λi hi=>by rw[cG (show i≠302 by omega)];rfl);rw[W4];obtain⟨tN,fV⟩:=e7
 try dsimp only
 refine bB.n<|aV.n<|sr<|RT.j9 .none (s:=.row _) Y Y Y T<|an (s:=.row _) Y<|dn<|nC (i:=302) (E1:=80) (n:=1) (e:=aY) (l:=fV) hN (λ_ h=>h) Y<|bg ?_;obtain rfl:=O L1;exact R1 Y
theorem pW{x0:List Nat}{x1:List Nat}(N:Nat){r:List Nat}(h:dW x0 x1=some r):dS ah 89 N [slc 1 (List.map aY x0),slc 1 (List.map aY x1)] (nw N (slc 1 (List.map aY r))):=by
 refine bF Try.func89 Y (af Y) (λgw M vs hN hvs=>?_);unfold dW at h;refine sr<|aI Y (bt (N:=N) (n:=1) (e:=aY))<|dn<|sr<|mv Y<|lE h λia kP h=>ln Y kP<|mv Y<|lE h λjS n9 h=>ln Y n9<|lE h λl7 tc h=>ad _ Y Y tc<|bE h λjl nN h=>RT.zL (n:=1) (e:=aY) .none Y Y T Y T (by rfl) (by decide) (by exact⟨au,aq⟩) nN<|an (s:=.row _) Y<|dn<|qq<|sr<|mv Y<|lE h λgi kG h=>ln Y kG ?_;refine mv Y<|dn<|bE h λe28 Xa Xb=>?_;refine bW (λ(oI:(List Nat))=>AS.dj 63 [(5,.row 16)] [] [(16,TR 80 1 aY oI)]) (λoI=>oI=e28) ?_ (λoI Xc=>?_);refine bj ?_;refine bX Xa (λNP=>AS.dj 63 [(1,.sv (slc 1 (List.map aY x1))),(5,.row 16),(17,.sv (slc 1 (List.map aY x0))),(18,ai gi),(19,ai NP.1)] [] [(16,TR 80 1 aY NP.2)]) (wR []) (λNP y28 G28 h Xd Xe=>?_);obtain⟨jI,ye⟩:=NP
 try dsimp only
 refine sr<|lE h λiV nM h=>ls _ Y Y nM<|dn<|qq ?_;cases iV;refine cF<|b9<|aV.x<|aV.x<|bB.x<|aV.n ?_;obtain rfl:=O (F h);exact⟨ye,Xe _ Y,wR []⟩;refine cT<|bz<|aV.n<|qq<|bj<|sr<|mv Y<|bE (V h) λjH sZ h=>ix Y Y sZ<|lr Y Y<|ag Y<|ag Y<|dn<|sr<|RT.uD .none (dr 0) Y ⟨Y,aq⟩ T Y Y<|an (s:=.fj _ _) Y<|dn<|qq<|sr<|mv Y<|lE h λiM o7 h=>ln Y o7<|mv Y<|dn<|bE h λWH Xf rB=>?_;refine bW (λ(Du:Nat×(List Nat))=>AS.dj 63 [(1,.sv (slc 1 (List.map aY x1))),(5,.row 16),(6,ai jI),(8,.fj 113 [.box 24]),(17,.sv (slc 1 (List.map aY x0))),(18,ai gi),(19,ai jI)] [(24,⟨100,[.sv (.v (.int .u64 ((Du.1:Nat):Int)))]⟩)] [(16,TR 80 1 aY Du.2)]) (λDu=>Du=WH) ?_ (λDu Xg=>?_);refine bj ?_;refine bX Xf (λLz=>AS.dj 63 [(1,.sv (slc 1 (List.map aY x1))),(5,.row 16),(6,ai jI),(7,.sv (.v (.int .u32 ((jH:Nat):Int)))),(8,.fj 113 [.box 24]),(17,.sv (slc 1 (List.map aY x0))),(18,ai gi),(19,ai jI),(25,.sv (slc 1 (List.map aY x1))),(26,ai iM),(27,ai Lz.1)] [(24,⟨100,[.sv (.v (.int .u64 ((Lz.2.1:Nat):Int)))]⟩)] [(16,TR 80 1 aY Lz.2.2)]) (wR []) (λLz y38 G38 h Xh Xi=>?_);obtain⟨ru,pM,oG⟩:=Lz
 try dsimp only
 refine sr<|lE h λlq uT h=>ls _ Y Y uT<|dn<|qq ?_;cases lq;refine cF<|b9<|aV.x<|aV.x<|bB.x<|aV.n ?_;obtain rfl:=O (F h);exact⟨(pM,oG),Xi _ Y,wR []⟩;refine cT<|bz<|aV.n<|qq<|bj<|sr<|mv Y<|bE (V h) λoH ym h=>ix Y Y ym<|lr Y Y<|ag Y<|ag Y<|dn<|aX<|mo (s:=.row _) Y<|mv Y<|mv Y<|lE h λpN BC h=>ad _ Y Y BC<|mo (s:=.fj _ _) Y<|mo (s:=.row _) Y<|mv Y<|mv Y<|lE h λnD sq h=>ad _ Y Y sq<|bE h λv5 Dv h=>iR Y Y Y Dv ?_;refine bE h λqL zY h=>lR Y Y zY Y<|lE h λv7 D3 h=>cv _ Y (UK.nat D3)<|mv Y<|lE h λzf Dw h=>cv _ Y (UK.nat Dw)<|mv Y<|lE h λzQ Fj h=>cv _ Y (UK.nat Fj)<|lE h λv8 h48 h=>RT.mul .none _ Y Y T (UK.mul (a:=zf) (b:=zQ) h48)<|lE h λOU L3 h=>ad _ Y Y (UK.add (a:=v7) (b:=v8) L3) ?_;obtain⟨⟨tO,WE⟩,Dx,h⟩:=bS h;refine cB (bK Dx) 24 Y ⟨Y,aq⟩<|bE h λDn Fk h=>iR Y Y Y Fk<|bE h λWG Pk h=>sR tO Y Y Y Y Pk<|RT.done<|bB.n<|aV.n<|aX<|lE h λqM BD h=>ad _ Y Y BD<|mv Y<|RT.done ?_;obtain rfl:=O h;exact aV.n ⟨(qM,WE,WG),Xh _ Y,wR []⟩;subst Xg;obtain⟨zR,Bm⟩:=Du
 try dsimp only
 refine aV.n<|aX<|mo (s:=.row _) Y<|mv Y<|mv Y<|lE rB λD2 HS rB=>ln Y HS<|lE rB λJj L4 rB=>ad _ Y Y L4<|mo (s:=.fj _ _) Y ?_;obtain⟨⟨LA,k45⟩,Xj,rB⟩:=bS rB;refine cB (bK Xj) 24 Y ⟨Y,aq⟩<|bE rB λuN GY rB=>iR Y Y Y GY<|bE rB λWI Pm rB=>sR LA Y Y Y Y Pm<|RT.done<|bB.n<|aV.n<|aX<|lE rB λLB Xk rB=>ad _ Y Y Xk<|mv Y<|RT.done ?_;obtain rfl:=O rB;exact aV.n ⟨(LB,WI),Xd _ Y,wR []⟩;subst Xc
 try dsimp only
 refine aV.n<|sr<|mo (s:=.row _) Y<|an (s:=.row _) Y<|dn<|nC (i:=16) (E1:=80) (n:=1) (e:=aY) (l:=oI) hN (λ_ h=>h) Y<|bg ?_;obtain rfl:=O Xb;exact R1 Y
end
section
open Go.Fw Go.Fw.Z Go.RowKit
theorem pX{x0:List Nat}{x1:Nat}{r:Nat×List Nat}(h:eT x0 x1=some r):Bb ah 90 [.row 1000,.sv (.v (.int .u64 ((x1:Nat):Int)))] (TR 80 1 aY x0) (.sv (.v (.int .u64 ((r.1:Nat):Int)))) (List.flatMap aY r.2):=by
 refine oz Try.func90 Y (af Y) Y Y (λgw M v0=>?_);unfold eT at h;refine sr<|ag Y<|dn<|sr<|ag Y<|dn<|qq<|sr<|mo (s:=.row _) Y<|lE h λx9 h9 h=>lL Y Y h9<|lE h λfN iE h=>sb _ Y Y iE<|ag Y<|dn<|bE h λe8 Fl wj=>?_;refine bW (λ(rC:Nat×(List Nat))=>AS.dj 34 [(5,.sv (.v (.int .u64 ((rC.1:Nat):Int))))] [] [(1000,TR 80 1 aY rC.2)]) (λrC=>rC=e8) ?_ (λrC Fm=>?_);refine bj ?_;refine bX Fl (λs8=>AS.dj 34 [(0,.row 1000),(1,.sv (.v (.int .u64 ((x1:Nat):Int)))),(5,.sv (.v (.int .u64 ((s8.1:Nat):Int)))),(6,ai s8.2.1)] [] [(1000,TR 80 1 aY s8.2.2)]) (wR []) (λs8 y8 G8 h Fo Fp=>?_);obtain⟨EW,EX,lG⟩:=s8
 try dsimp only
 refine qq<|sr<|mv Y<|lE h λia kP h=>ge _ Y Y kP<|dn ?_;cases ia;refine cF<|b9<|aV.x<|aV.x<|bB.x<|aV.n ?_;obtain rfl:=O (F h);exact⟨(EW,lG),Fp _ Y,wR []⟩;refine cT<|bz<|aV.n<|qq<|bj<|sr<|mv Y<|lE (V h) λjl nN h=>RT.shl .none _ Y Y T (by decide) (UK.shl (a:=EW) (q:=32) (s:=32) Y nN)<|mo (s:=.row _) Y<|mv Y<|bE h λmu pU h=>iR Y Y Y pU<|bE h λiV nM h=>lR Y Y nM Y<|lE h λje pV h=>cv _ Y (UK.nat pV)<|lE h λjH sZ h=>RT.or .none _ Y Y T (UK.or (a:=jl) (b:=je) sZ)<|ag Y<|dn<|sr<|mo (s:=.row _) Y ?_;refine mv Y<|mv Y<|mv Y<|bE h λmw su h=>RT.quo .none _ Y Y T (We su) (UK.quo su)<|lE h λlq uT h=>cv _ Y (UK.nat uT)<|bE h λgJ lu h=>iR Y Y Y lu<|bE h λCo Fq h=>sR lq Y Y Y Y Fq<|dn<|aX<|mv Y<|mv Y<|bE h λkn oa h=>RT.rem .none _ Y Y T (T1 oa) (HC oa)<|ag Y<|RT.done<|bB.n<|aV.n<|aX<|mv Y<|lE h λjS n9 h=>sb _ Y Y n9 ?_;refine ag Y<|RT.done ?_;obtain rfl:=O h;exact aV.n ⟨(kn,jS,Co),Fo _ Y,wR []⟩;subst Fm;obtain⟨OV,tQ⟩:=rC
 try dsimp only
 refine aV.n<|sr<|mv Y<|ag Y<|dn<|bg<|bE wj λ_ hle wj=>?_;obtain rfl:=O wj;exact⟨.inr Y,.sv (cW (.tmp Y (.nil)) au),(by show _=hG.live ⟨80,1,x0.length,List.flatMap aY tQ⟩;rw[<-iL hle];rfl)⟩
theorem oO{x0:List Nat}{x1:Nat}{r:List Nat}(h:dM x0 x1=some r):Pure ah 110 [slc 1 (List.map aY x0),.v (.int .u64 ((x1:Nat):Int))] (slc 1 (List.map aY r)):=by
 refine bH Try.func110 Y (af Y) (λgw M vs hvs=>?_);unfold dM at h;refine sr<|aI Y (aB (n:=1) (e:=aY))<|dn<|sr<|RT.uD .none (dr 0) Y ⟨Y,aq⟩ T Y Y<|an (s:=.fj _ _) Y<|dn<|sr<|mv Y<|lE h λkI oL h=>ln Y oL<|lE h λia kP h=>ad _ Y Y kP<|bE h λig lJ h=>RT.Cg (e:=aY) .none Y Y T Y T lJ<|an (s:=.row _) Y<|dn<|qq<|sr<|mv Y<|lE h λl7 tc h=>ln Y tc ?_;refine mv Y<|dn<|bE h λe8 Fl wj=>?_;refine bW (λ(rC:Nat×(List Nat))=>AS.dj 35 [(5,.fj 113 [.box 9]),(6,.row 302)] [(9,⟨100,[.sv (.v (.int .u64 ((rC.1:Nat):Int)))]⟩)] [(302,TR 80 1 aY rC.2)]) (λrC=>rC=e8) ?_ (λrC Fm=>?_);refine bj ?_;refine bX Fl (λs8=>AS.dj 35 [(1,.sv (.v (.int .u64 ((x1:Nat):Int)))),(5,.fj 113 [.box 9]),(6,.row 302),(14,.sv (slc 1 (List.map aY x0))),(15,ai l7),(16,ai s8.1)] [(9,⟨100,[.sv (.v (.int .u64 ((s8.2.1:Nat):Int)))]⟩)] [(302,TR 80 1 aY s8.2.2)]) (eR (λi=>bif Nat.beq i 302 then 13 else i) Y Y Y Y Y ⟨.sv au,.fj,.row Y,.sv au,.sv au,.sv au,aq⟩ ⟨⟨_,Y,⟨.sv au,aq⟩⟩,aq⟩ ⟨⟨_,Y,cO.refl _⟩,aq⟩ (λi hi=>by rw[cG (show i≠302 by omega)];rfl)) (λs8 y8 G8 h Fo Fp=>?_);obtain⟨pO,lH,fV⟩:=s8
 try dsimp only
 refine sr<|lE h λgh kO h=>ls _ Y Y kO<|dn<|qq ?_;cases gh;refine cF<|b9<|aV.x<|aV.x<|bB.x<|aV.n ?_;obtain rfl:=O (F h);exact⟨(lH,fV),Fp _ Y,wR []⟩;refine cT<|bz<|aV.n<|qq<|bj<|sr<|bE (V h) λgi kG h=>ix Y Y kG<|lr Y Y<|ag Y<|dn<|aX<|mo (s:=.row _) Y<|mo (s:=.fj _ _) Y<|mv Y<|lE h λiW oM h=>cv _ Y (UK.nat oM)<|mv Y<|lE h λAY BA h=>RT.shl .none _ Y Y T (Int.natCast_nonneg _) (UK.shl (a:=iW) (q:=((x1:Nat):Int)) (s:=min x1 64) Y BA) ?_;obtain⟨⟨iM,LC⟩,o7,h⟩:=bS h;refine cB (bK o7) 9 Y ⟨Y,aq⟩<|bl (l:=[iM]) (e:=aY) (.one Y (.nil)) Y Y Y Y Y Y<|bE h λlq uT h=>aR (k:=[iM]) (e:=aY) Y Y Y uT<|an (s:=.row _) Y<|RT.done<|bB.n<|aV.n<|aX<|lE h λgJ lu h=>ad _ Y Y lu<|mv Y<|RT.done ?_;obtain rfl:=O h;exact aV.n ⟨(gJ,LC,lq),Fo _ Y,eR (λi=>bif Nat.beq i 302 then 28 else i) Y Y Y Y Y ⟨.sv au,.fj,.row Y,.sv au,.sv au,.sv au,aq⟩ ⟨⟨_,Y,⟨.sv au,aq⟩⟩,aq⟩ ⟨⟨_,Y,cO.refl _⟩,aq⟩ (λi hi=>by rw[cG (show i≠302 by omega)];rfl)⟩;subst Fm;obtain⟨uO,EY⟩:=rC
 try dsimp only
 refine aV.n<|sr<|mo (s:=.row _) Y<|mo (s:=.fj _ _) Y ?_;obtain⟨⟨kn,Jk⟩,oa,wj⟩:=bS wj;refine cB (bK oa) 9 Y ⟨Y,aq⟩<|bl (l:=[kn]) (e:=aY) (.one Y (.nil)) Y Y Y Y Y Y<|bE wj λjW oN wj=>RT.HE (k:=[kn]) (e:=aY) .none Y Y Y T Y T oN<|ag Y<|dn<|bg ?_;obtain rfl:=O wj;exact R1 Y
theorem nP{x0:List Nat}{x1:Nat}{r:List Nat}(h:fu x0 x1=some r):Bc ah 110 [slc 1 (List.map aY x0),.v (.int .u64 ((x1:Nat):Int))] (TR 80 1 aY r):=by
 refine oB Try.func110 Y (af Y) (λgw M vs hvs=>?_);unfold fu at h;refine sr<|ag Y<|dn<|ei (fU 4 304 80 1 Y Y T)<|sr<|RT.uD .none (dr 0) Y ⟨Y,aq⟩ T Y Y<|an (s:=.fj _ _) Y<|dn<|sr<|mv Y<|lE h λkI oL h=>ln Y oL<|lE h λia kP h=>ad _ Y Y kP<|bE h λig lJ h=>RT.Cg (e:=aY) .none Y Y T Y T lJ<|an (s:=.row _) Y<|dn<|qq<|sr<|mv Y<|lE h λl7 tc h=>ln Y tc ?_;refine mv Y<|dn<|bE h λe8 Fl wj=>?_;refine bW (λ(rC:Nat×(List Nat))=>AS.dj 35 [(5,.fj 113 [.box 9]),(6,.row 306)] [(9,⟨100,[.sv (.v (.int .u64 ((rC.1:Nat):Int)))]⟩)] [(306,TR 80 1 aY rC.2)]) (λrC=>rC=e8) ?_ (λrC Fm=>?_);refine bj ?_;refine bX Fl (λs8=>AS.dj 35 [(1,.sv (.v (.int .u64 ((x1:Nat):Int)))),(5,.fj 113 [.box 9]),(6,.row 306),(14,.sv (slc 1 (List.map aY x0))),(15,ai l7),(16,ai s8.1)] [(9,⟨100,[.sv (.v (.int .u64 ((s8.2.1:Nat):Int)))]⟩)] [(306,TR 80 1 aY s8.2.2)]) (eR (λi=>bif Nat.beq i 306 then 13 else i) Y Y Y Y Y ⟨.sv au,.fj,.row Y,.sv au,.sv au,.sv au,aq⟩ ⟨⟨_,Y,⟨.sv au,aq⟩⟩,aq⟩ ⟨⟨_,Y,cO.refl _⟩,aq⟩ (λi hi=>by rw[cG (show i≠306 by omega)];rfl)) (λs8 y8 G8 h Fo Fp=>?_);obtain⟨pO,lH,yf⟩:=s8
 try dsimp only
 refine sr<|lE h λgh kO h=>ls _ Y Y kO<|dn<|qq ?_;cases gh;refine cF<|b9<|aV.x<|aV.x<|bB.x<|aV.n ?_;obtain rfl:=O (F h);exact⟨(lH,yf),Fp _ Y,wR []⟩;refine cT<|bz<|aV.n<|qq<|bj<|sr<|bE (V h) λgi kG h=>ix Y Y kG<|lr Y Y<|ag Y<|dn<|aX<|mo (s:=.row _) Y<|mo (s:=.fj _ _) Y<|mv Y<|lE h λiW oM h=>cv _ Y (UK.nat oM)<|mv Y<|lE h λAY BA h=>RT.shl .none _ Y Y T (Int.natCast_nonneg _) (UK.shl (a:=iW) (q:=((x1:Nat):Int)) (s:=min x1 64) Y BA) ?_;obtain⟨⟨iM,LC⟩,o7,h⟩:=bS h;refine cB (bK o7) 9 Y ⟨Y,aq⟩<|bl (l:=[iM]) (e:=aY) (.one Y (.nil)) Y Y Y Y Y Y<|bE h λlq uT h=>aR (k:=[iM]) (e:=aY) Y Y Y uT<|an (s:=.row _) Y<|RT.done<|bB.n<|aV.n<|aX<|lE h λgJ lu h=>ad _ Y Y lu<|mv Y<|RT.done ?_;obtain rfl:=O h;exact aV.n ⟨(gJ,LC,lq),Fo _ Y,eR (λi=>bif Nat.beq i 306 then 28 else i) Y Y Y Y Y ⟨.sv au,.fj,.row Y,.sv au,.sv au,.sv au,aq⟩ ⟨⟨_,Y,⟨.sv au,aq⟩⟩,aq⟩ ⟨⟨_,Y,cO.refl _⟩,aq⟩ (λi hi=>by rw[cG (show i≠306 by omega)];rfl)⟩;subst Fm;obtain⟨uO,EZ⟩:=rC
 try dsimp only
 refine aV.n<|sr<|mo (s:=.row _) Y<|mo (s:=.fj _ _) Y ?_;obtain⟨⟨kn,Jk⟩,oa,wj⟩:=bS wj;refine cB (bK oa) 9 Y ⟨Y,aq⟩<|bl (l:=[kn]) (e:=aY) (.one Y (.nil)) Y Y Y Y Y Y<|bE wj λjW oN wj=>aR (k:=[kn]) (e:=aY) Y Y Y oN<|an (s:=.row _) Y<|dn<|bg ?_;obtain rfl:=O wj;exact⟨.inr Y,_,.tmp Y,Y⟩
theorem oP{x0:Nat}{r:Int}(h:ey x0=some r):Pure ah 118 [.v (.int .u32 ((x0:Nat):Int))] (ay r):=by
 refine bH Try.func118 Y (af Y) (λgw M vs hvs=>?_);unfold ey at h;refine sr<|ag Y<|dn<|qq<|sr<|mv Y<|lE h λx4 h4 h=>ge _ Y Y (Wc (p:=65536) (q:=x0) h4)<|dn ?_;refine bD h (λj2=>AS.dj 19 [(0,.sv (.v (.int .u32 ((j2.1:Nat):Int)))),(2,ai j2.2)] [] []) (λh=>?_) (λj2 h=>?_);cases x4;exact fs<|⟨(x0,0),(F h),wR []⟩;exact cT<|sr<|mv Y<|lE (V h) λx6 h6 h=>RT.shr .none _ Y Y T (by decide) (xX (k:=.u32) (a:=x0) (q:=16) (s:=16) Y h6)<|ag Y<|dn<|aX<|ag Y<|dn<|⟨(x6,16),h,wR []⟩;obtain⟨Bn,HQ⟩:=j2
 try dsimp only
 refine aV.n<|qq<|sr<|mv Y<|lE h λx8 h8 h=>ge _ Y Y (Wc (p:=256) (q:=Bn) h8)<|dn ?_;refine bD h (λj4=>AS.dj 19 [(0,.sv (.v (.int .u32 ((j4.1:Nat):Int)))),(2,ai j4.2)] [] []) (λh=>?_) (λj4 h=>?_);cases x8;exact fs<|⟨(Bn,HQ),(F h),wR []⟩;exact cT<|sr<|mv Y<|lE (V h) λfN iE h=>RT.shr .none _ Y Y T (by decide) (xX (k:=.u32) (a:=Bn) (q:=8) (s:=8) Y iE)<|ag Y<|dn<|aX<|mv Y<|lE h λia kP h=>ad _ Y Y kP<|ag Y<|dn<|⟨(fN,ia),h,wR []⟩;obtain⟨OW,OX⟩:=j4
 try dsimp only
 refine aV.n<|sr<|mv Y<|mv Y<|lE h λl7 tc h=>cv _ Y (UK.nat tc)<|bE h λjl nN h=>?_;refine RT.six (l:=[0,1,2,2,3,3,3,3,4,4,4,4,4,4,4,4,5,5,5,5,5,5,5,5,5,5,5,5,5,5,5,5,6,6,6,6,6,6,6,6,6,6,6,6,6,6,6,6,6,6,6,6,6,6,6,6,6,6,6,6,6,6,6,6,7,7,7,7,7,7,7,7,7,7,7,7,7,7,7,7,7,7,7,7,7,7,7,7,7,7,7,7,7,7,7,7,7,7,7,7,7,7,7,7,7,7,7,7,7,7,7,7,7,7,7,7,7,7,7,7,7,7,7,7,7,7,7,7,8,8,8,8,8,8,8,8,8,8,8,8,8,8,8,8,8,8,8,8,8,8,8,8,8,8,8,8,8,8,8,8,8,8,8,8,8,8,8,8,8,8,8,8,8,8,8,8,8,8,8,8,8,8,8,8,8,8,8,8,8,8,8,8,8,8,8,8,8,8,8,8,8,8,8,8,8,8,8,8,8,8,8,8,8,8,8,8,8,8,8,8,8,8,8,8,8,8,8,8,8,8,8,8,8,8,8,8,8,8,8,8,8,8,8,8,8,8,8,8,8,8,8,8,8,8,8,8]) .none Y Y T nN ?_;refine lE h λgh kO h=>cv _ Y kO<|lE h λgi kG h=>ad _ Y Y kG<|ag Y<|dn<|bg ?_;obtain rfl:=O h;exact R1 Y
theorem jy{x0:Nat}{r:Int}(h:cA x0=some r):Pure ah 109 [.v (.int .u32 ((x0:Nat):Int))] (ay r):=by
 refine bH Try.func109 Y (af Y) (λgw M vs hvs=>?_);unfold cA at h;refine sr<|ag Y<|dn<|sr<|mv Y<|bE h λx4 h4 h=>cl (oP h4) ⟨Y,aq⟩<|lE h λx5 h5 h=>sb _ Y Y h5<|ag Y<|dn<|bg ?_;obtain rfl:=O h;exact R1 Y
theorem pY{x0:List Nat}{o0:Nat}{n0:Nat}{x1:List Nat}{r:Nat×List Nat}(h:eU x0 o0 n0 x1=some r):Bb ah 111 [.jr 1000 (o0*1) n0,.sv (slc 1 (List.map aY x1))] (TR 80 1 aY x0) (.sv (.v (.int .u64 ((r.1:Nat):Int)))) (List.flatMap aY r.2):=by
 refine oz Try.func111 Y (af Y) Y Y (λgw M v0=>?_);unfold eU at h;refine sr<|ag Y<|dn<|sr<|mv Y<|lE h λia kP h=>ln Y kP<|ag Y<|dn<|qq<|bf mixed<|mo (s:=.jr _ _ _) Y<|mv Y<|bE h λl7 tc h=>RT.zM .none Y Y T tc<|bE h λjl nN h=>lR Y Y nN Y<|lE h λgh kO h=>cv _ Y (UK.nat kO)<|lE h λgi kG h=>RT.shl .none _ Y Y T (by decide) (UK.shl (a:=gh) (q:=32) (s:=32) Y kG)<|mo (s:=.jr _ _ _) Y ?_;refine mv Y<|lE h λje pV h=>sb _ Y Y pV<|bE h λjH sZ h=>RT.zM .none Y Y T sZ<|bE h λiW oM h=>lR Y Y oM Y<|lE h λeG mg h=>cv _ Y (UK.nat mg)<|lE h λAY BA h=>RT.or .none _ Y Y T (UK.or (a:=gi) (b:=eG) BA)<|ag Y ?_;refine RT.done ⟨by kernel_rfl,?_⟩;refine aV.n<|qq<|bf mixed<|mv Y<|mv Y<|lE h λlq uT h=>sb _ Y Y uT<|bE h λgJ lu h=>ix Y Y lu<|lr Y Y<|lE h λnL xe h=>cv _ Y (UK.nat xe)<|mv Y<|mv Y<|lE h λjW oN h=>sb _ Y Y oN<|bE h λpN BC h=>ix Y Y BC<|lr Y Y<|lE h λwX zZ h=>cv _ Y (UK.nat zZ)<|ag Y<|ag Y ?_;refine RT.done ⟨by kernel_rfl,?_⟩;refine aV.n<|qq<|bf mixed<|mv Y<|mv Y<|bE h λnD sq h=>RT.quo .none _ Y Y T (We sq) (UK.quo sq)<|mv Y<|mv Y<|bE h λv7 D3 h=>RT.rem .none _ Y Y T (T1 D3) (HC D3)<|ag Y<|ag Y ?_;refine RT.done ⟨by kernel_rfl,?_⟩;refine aV.n<|qq<|bE h λLX Bx yl=>?_
 refine bW (λ(Dq:Nat)=>AS.dj 71 [(9,.sv (.v (.int .u64 ((Dq:Nat):Int))))] [] [(1000,TR 80 1 aY x0)]) (λDq=>Dq=LX) ?_ (λDq By=>?_);refine bj ?_;refine bX Bx (λzS=>AS.dj 71 [(0,.jr 1000 (o0*1) n0),(5,ai ia),(7,.sv (.v (.int .u64 ((nL:Nat):Int)))),(8,.sv (.v (.int .u64 ((wX:Nat):Int)))),(9,.sv (.v (.int .u64 ((zS.1:Nat):Int)))),(10,.sv (.v (.int .u64 ((zS.2:Nat):Int))))] [] [(1000,TR 80 1 aY x0)]) (wR []) (λzS WV WW h Bz zX=>?_);obtain⟨wc,wY⟩:=zS
 try dsimp only
 refine qq<|qq ?_;refine bD h (λPj=>AS.dj 71 [(0,.jr 1000 (o0*1) n0),(5,ai ia),(7,.sv (.v (.int .u64 ((nL:Nat):Int)))),(8,.sv (.v (.int .u64 ((wX:Nat):Int)))),(9,.sv (.v (.int .u64 ((wc:Nat):Int)))),(10,.sv (.v (.int .u64 ((wY:Nat):Int)))),(61,aj Pj)] [] [(1000,TR 80 1 aY x0)]) (λh=>?_) (λBo h=>?_);refine aX<|mv Y<|lE h λzf Dw h=>RT.shr .none _ Y Y T (by decide) (xX (k:=.u64) (a:=wc) (q:=32) (s:=32) Y Dw)<|lE h λuP h46 h=>ne _ Y Y (NM (p:=zf) (q:=0) h46)<|mv Y<|bE h λE5 fe h=>?_;cases uP;refine gm Y<|gm Y<|lE (F fe) λtO Dx fe=>RT.mul (.some Y Y) _ Y Y T (UK.mul (a:=wc) (b:=wX) Dx)<|gm Y<|lE fe λqM BD fe=>RT.shl (.some Y Y) _ Y Y T (by decide) (UK.shl (a:=wY) (q:=32) (s:=32) Y BD)<|RT.move (.some Y Y) (s:=.jr _ _ _) Y T<|gm Y<|lE fe λDp Pn fe=>RT.sub (.some Y Y) _ Y Y T Pn<|bE fe λD2 HS fe=>RT.zM (.some Y Y) Y Y T HS<|bE fe λJj L4 fe=>RT.OK (.some Y Y) Y Y L4 Y T ?_;refine lE fe λLD Xl fe=>RT.conv (.some Y Y) _ Y T (UK.nat Xl)<|lE fe λLA Xj fe=>RT.or (.some Y Y) _ Y Y T (UK.or (a:=qM) (b:=LD) Xj)<|lE fe λuN GY fe=>gg _ Y Y (NN (p:=LA) (q:=tO) GY) ?_;obtain rfl:=O fe;exact pF Y<|dn<|⟨uN,h,wR []⟩;obtain rfl:=O (V fe)
 exact ww<|ww<|ww<|ww<|ww<|ww<|ww<|ww<|ww<|ww<|ww<|ww<|ww<|pT Y<|dn<|⟨true,h,wR []⟩
 try dsimp only
 refine aV.n ?_;cases Bo;refine cF<|b9<|aV.x<|aV.x<|bB.x<|aV.n ?_;obtain rfl:=O (F h);exact⟨wc,zX _ Y,wR []⟩;refine cT<|bz<|aV.n<|bj<|sr<|mv Y<|lE (V h) λOY h63 h=>sb _ Y Y (UK.sub (a:=wc) (b:=1) h63)<|ag Y<|dn<|sr<|mv Y<|mv Y<|lE h λAZ Po h=>ad _ Y Y (UK.add (a:=wY) (b:=nL) Po)<|ag Y<|dn<|sr<|mv Y<|lE h λE4 Pp h=>RT.shr .none _ Y Y T (by decide) (xX (k:=.u64) (a:=AZ) (q:=32) (s:=32) Y Pp)<|lE h λWJ h69 h=>ne _ Y Y (NM (p:=E4) (q:=0) h69) ?_;refine dn ?_;cases WJ;refine cF<|bz<|bB.n ?_;obtain rfl:=O (F h);exact aV.n ⟨(OY,AZ),Bz _ Y,wR []⟩;refine cT<|b9<|bB.y (by decide)<|aV.x<|bB.x<|aV.n ?_;obtain rfl:=O (V h);exact⟨OY,zX _ Y,wR []⟩;subst By
 try dsimp only
 refine aV.n<|sr<|mv Y<|ag Y<|dn<|bg<|bE yl λ_ hle yl=>?_;obtain rfl:=O yl;exact⟨.inr Y,.sv (cW (.tmp Y (.nil)) au),(by show _=hG.live ⟨80,1,x0.length,List.flatMap aY x0⟩;rw[<-iL hle];rfl)⟩
theorem jX{x0:List Nat}{o0:Nat}{n0:Nat}{x1:List Nat}{x2:Nat}{r:Bool×List Nat}(h:cg x0 o0 n0 x1 x2=some r):Bb ah 112 [.jr 1000 (o0*1) n0,.sv (slc 1 (List.map aY x1)),.sv (.v (.int .u64 ((x2:Nat):Int)))] (TR 80 1 aY x0) (aj r.1) (List.flatMap aY r.2):=by
 refine oz Try.func112 Y (af Y) Y Y (λgw M v0=>?_);unfold cg at h;refine sr<|ag Y<|dn<|sr<|ag Y<|dn<|sr<|RT.uD .none (dr 0) Y ⟨Y,aq⟩ T Y Y<|an (s:=.fj _ _) Y<|dn<|qq<|sr<|mo (s:=.jr _ _ _) Y<|lE h λjS n9 h=>RT.Lx .none Y T n9<|mv Y<|dn<|bE h λBp Fs jJ=>?_;refine bW (λ(mQ:Nat×(List Nat))=>AS.dj 51 [(7,.sv (.v (.int .u64 ((mQ.1:Nat):Int))))] [] [(1000,TR 80 1 aY mQ.2)]) (λmQ=>mQ=Bp) ?_ (λmQ Ft=>?_);refine bj ?_;refine bX Fs (λtR=>AS.dj 51 [(0,.jr 1000 (o0*1) n0),(1,.sv (slc 1 (List.map aY x1))),(2,.sv (.v (.int .u64 ((x2:Nat):Int)))),(7,.sv (.v (.int .u64 ((tR.1:Nat):Int)))),(8,.fj 113 [.box 12]),(14,ai jS),(15,ai tR.2.1)] [(12,⟨100,[.sv (.v (.int .u64 ((tR.2.2.1:Nat):Int)))]⟩)] [(1000,TR 80 1 aY tR.2.2.2)]) (wR []) (λtR y12 G12 h Fu Dy=>?_);obtain⟨Dr,pP,yg,nE⟩:=tR
 try dsimp only
 refine sr<|lE h λjl nN h=>ls _ Y Y nN<|dn<|qq ?_;cases jl;refine cF<|b9<|aV.x<|aV.x<|bB.x<|aV.n ?_;obtain rfl:=O (F h);exact⟨(Dr,nE),Dy _ Y,wR []⟩;refine cT<|bz<|aV.n<|qq<|bj<|sr<|mv Y<|ag Y<|dn<|sr<|ag Y<|dn<|qq<|sr<|mv Y<|mv Y<|lE (V h) λiV nM h=>ln Y nM<|lE h λje pV h=>ls _ Y Y pV<|dn ?_;refine bD h (λj14=>AS.dj 51 [(0,.jr 1000 (o0*1) n0),(1,.sv (slc 1 (List.map aY x1))),(2,.sv (.v (.int .u64 ((x2:Nat):Int)))),(7,.sv (.v (.int .u64 ((Dr:Nat):Int)))),(8,.fj 113 [.box 12]),(9,ai pP),(10,.sv (.v (.int .u64 ((j14:Nat):Int)))),(14,ai jS),(15,ai pP)] [(12,⟨100,[.sv (.v (.int .u64 ((yg:Nat):Int)))]⟩)] [(1000,TR 80 1 aY nE)]) (λh=>?_) (λE6 h=>?_);cases je;exact fs<|⟨0,(F h),wR []⟩;exact cT<|aX<|mv Y<|mv Y<|bE (V h) λeG mg h=>ix Y Y mg<|lr Y Y<|lE h λiM o7 h=>cv _ Y (UK.nat o7)<|mv Y<|lE h λlq uT h=>RT.mul .none _ Y Y T (UK.mul (a:=iM) (b:=x2) uT)<|ag Y<|dn<|⟨lq,h,wR []⟩
 try dsimp only
 refine aV.n<|qq<|bf mixed<|mo (s:=.jr _ _ _) Y<|mv Y<|bE h λnL xe h=>RT.zM .none Y Y T xe<|bE h λkn oa h=>lR Y Y oa Y<|lE h λqN vO h=>cv _ Y (UK.nat vO)<|mo (s:=.fj _ _) Y<|mv Y ?_;obtain⟨⟨we,WK⟩,wm,h⟩:=bS h;refine cB (bK wm) 12 Y ⟨Y,aq⟩<|lE h λwX zZ h=>cv _ Y (UK.nat zZ)<|lE h λrq BB h=>sb _ Y Y (UK.sub (a:=qN) (b:=wX) BB)<|mv Y<|lE h λnD sq h=>sb _ Y Y (UK.sub (a:=rq) (b:=Dr) sq)<|ag Y ?_;refine RT.done ⟨by kernel_rfl,?_⟩;refine aV.n<|sr<|mo (s:=.jr _ _ _) Y<|mv Y<|mv Y<|lE h λDs Fv h=>cv _ Y (UK.nat Fv)<|bE h λzf Dw h=>RT.zM .none Y Y T Dw<|bE h λWL Pq h=>sR Ds Y Y Y Y Pq<|dn<|aX<|mv Y<|lE h λzQ Fj h=>RT.shr .none _ Y Y T (by decide) (xX (k:=.u64) (a:=nD) (q:=63) (s:=63) Y Fj)<|ag Y<|RT.done<|bB.n<|aV.n<|aX<|lE h λv8 h48 h=>ad _ Y Y h48<|mv Y<|RT.done ?_;obtain rfl:=O h;exact aV.n ⟨(zQ,v8,WK,WL),Fu _ Y,wR []⟩;subst Ft;obtain⟨E7,pQ⟩:=mQ
 try dsimp only
 refine aV.n<|sr<|mv Y<|lE jJ λtO Dx jJ=>ne _ Y Y (NM (p:=E7) (q:=0) Dx)<|ag Y<|dn<|bg<|bE jJ λ_ hle jJ=>?_;obtain rfl:=O jJ;exact⟨.inr Y,.sv (cW (.tmp Y (.nil)) au),(by show _=hG.live ⟨80,1,x0.length,List.flatMap aY pQ⟩;rw[<-iL hle];rfl)⟩
set_option maxHeartbeats 4000000 in
theorem rD{x0:List Nat}{x1:List Nat}(N:Nat){r:(List Nat)×(List Nat)}(h:fE x0 x1=some r):dS ah 91 N [slc 1 (List.map aY x0),slc 1 (List.map aY x1)] (.sN [nw N (slc 1 (List.map aY r.1)),nw N (slc 1 (List.map aY r.2))]):=by
 refine bF Try.func91 Y (af Y) (λgw M vs hN hvs=>?_);unfold fE at h;refine sr<|ag Y<|ag Y<|dn<|ei (fU 4 306 80 1 Y Y T)<|ei (fU 5 308 80 1 Y Y T)<|sr<|mv Y<|lE h λgh kO h=>ln Y kO<|ag Y<|dn<|sr<|mv Y<|mv Y<|lE h λiV nM h=>sb _ Y Y nM<|bE h λje pV h=>ix Y Y pV<|lr Y Y<|bE h λiW oM h=>cl (jy oM) ⟨Y,aq⟩ ?_;refine lE h λeG mg h=>cv _ Y (UK.conv mg)<|ag Y<|dn<|qq<|bf mixed<|mv Y<|mv Y<|bE h λmw su h=>cN (nP su) ⟨Y,Y,aq⟩<|mv Y<|mv Y<|bE h λoH ym h=>cl (oO ym) ⟨Y,Y,aq⟩<|mv Y<|bE h λkn oa h=>RT.EO .none 0 gh Y Y ⟨_,Y⟩ T oa<|an (s:=.row _) Y<|ag Y ?_;refine RT.done ⟨by kernel_rfl,?_⟩;refine aV.n<|sr<|mv Y<|lE h λjW oN h=>ln Y oN<|mv Y<|lE h λwe wm h=>sb _ Y Y wm<|lE h λwX zZ h=>ad _ Y Y zZ<|bE h λrq BB h=>RT.zL (n:=1) (e:=aY) .none Y Y T Y T (by rfl) (by decide) (by exact⟨au,aq⟩) BB<|an (s:=.row _) Y<|dn<|qq<|sr<|mv Y<|lE h λnD sq h=>ln Y sq<|mv Y<|lE h λqL zY h=>sb _ Y Y zY ?_;refine ag Y<|dn<|bE h λWS Xm L5=>?_;refine bW (λ(Dz:(List Nat)×(List Nat))=>AS.dj 141 [(4,.row 38),(6,ai gh),(7,.sv (.v (.int .u64 ((eG:Nat):Int)))),(8,.row 27)] [] [(38,TR 80 1 aY Dz.1),(27,TR 80 1 aY Dz.2)]) (λDz=>Dz=WS) ?_ (λDz Xn=>?_);refine bj ?_
 refine bX Xm (λLF=>AS.dj 141 [(4,.row 38),(6,ai gh),(7,.sv (.v (.int .u64 ((eG:Nat):Int)))),(8,.row 27),(9,.sv (slc 1 (List.map aY kn))),(10,ai LF.1)] [] [(38,TR 80 1 aY LF.2.1),(27,TR 80 1 aY LF.2.2)]) (wR []) (λLF y36 G36 h Xo Xp=>?_);obtain⟨fW,mM,oJ⟩:=LF
 try dsimp only
 refine qq<|sr<|mv Y<|lE h λDs Fv h=>ge _ Y Y Fv<|dn ?_;cases Ds;refine cF<|b9<|aV.x<|aV.x<|bB.x<|aV.n ?_;obtain rfl:=O (F h);exact⟨(mM,oJ),Xp _ Y,wR []⟩;refine cT<|bz<|aV.n<|qq<|bj<|sr<|mo (s:=.row _) Y<|mv Y<|mv Y<|mv Y<|lE (V h) λDn Fk h=>ad _ Y Y Fk<|lE h λqM BD h=>ad _ Y Y BD ?_;obtain⟨⟨Z8,Z9⟩,h53,h⟩:=bS h;refine RT.OO .none fW qM Y Y ⟨_,Y⟩ ⟨_,Y⟩ T h53<|mv Y ?_;obtain⟨⟨Dp,LG⟩,Pn,h⟩:=bS h;refine bE h λ_ Xq h=>cR (l:=oJ) (l':=LG) (e:=aY) (pY Pn) (iL Xq) 27 Y (.k2 Y Y)<|ag Y<|dn<|qq<|sr<|mo (s:=.row _) Y<|mv Y<|mv Y<|mv Y<|lE h λuN GY h=>ad _ Y Y GY<|lE h λLB Xk h=>ad _ Y Y Xk ?_;obtain⟨⟨o62,n62⟩,Pr,h⟩:=bS h;refine RT.OO .none fW LB Y Y ⟨_,Y⟩ ⟨_,Y⟩ T Pr<|mv Y<|mv Y ?_;obtain⟨⟨NQ,NR⟩,Xr,h⟩:=bS h;refine bE h λ_ Xs h=>cR (l:=LG) (l':=NR) (e:=aY) (jX Xr) (iL Xs) 27 Y (.k3 Y Y Y)<|dn ?_;refine bD h (λNS=>AS.dj 141 [(4,.row 38),(6,ai gh),(7,.sv (.v (.int .u64 ((eG:Nat):Int)))),(8,.row 27),(9,.sv (slc 1 (List.map aY kn))),(10,ai fW),(11,.sv (.v (.int .u64 ((NS.1:Nat):Int))))] [] [(38,TR 80 1 aY mM),(27,TR 80 1 aY NS.2)]) (λh=>?_) (λNS h=>?_);cases NQ;exact fs<|⟨(Dp,NR),(F h),wR []⟩
 refine cT<|sr<|mv Y<|lE (V h) λO0 h67 h=>sb _ Y Y (UK.sub (a:=Dp) (b:=1) h67)<|ag Y<|dn<|sr<|RT.uD .none (dr 0) Y ⟨Y,aq⟩ T Y Y<|an (s:=.fj _ _) Y<|dn<|qq<|sr<|mv Y<|lE h λLI Xt h=>ln Y Xt<|mv Y<|dn<|bE h λWQ Xu mR=>?_;refine bW (λ(DA:Nat×(List Nat))=>AS.dj 141 [(4,.row 38),(6,ai gh),(7,.sv (.v (.int .u64 ((eG:Nat):Int)))),(8,.row 27),(9,.sv (slc 1 (List.map aY kn))),(10,ai fW),(11,.sv (.v (.int .u64 ((O0:Nat):Int)))),(12,.fj 113 [.box 68])] [(68,⟨100,[.sv (.v (.int .u64 ((DA.1:Nat):Int)))]⟩)] [(38,TR 80 1 aY mM),(27,TR 80 1 aY DA.2)]) (λDA=>DA=WQ) ?_ (λDA Xv=>?_);refine bj ?_;refine bX Xu (λLJ=>AS.dj 141 [(4,.row 38),(6,ai gh),(7,.sv (.v (.int .u64 ((eG:Nat):Int)))),(8,.row 27),(9,.sv (slc 1 (List.map aY kn))),(10,ai fW),(11,.sv (.v (.int .u64 ((O0:Nat):Int)))),(12,.fj 113 [.box 68]),(69,.sv (slc 1 (List.map aY kn))),(70,ai LI),(71,ai LJ.1)] [(68,⟨100,[.sv (.v (.int .u64 ((LJ.2.1:Nat):Int)))]⟩)] [(38,TR 80 1 aY mM),(27,TR 80 1 aY LJ.2.2)]) (wR []) (λLJ y65 G65 h Xw Xx=>?_);obtain⟨ry,pR,oK⟩:=LJ
 try dsimp only
 refine sr<|lE h λLK Xy h=>ls _ Y Y Xy<|dn<|qq ?_;cases LK;refine cF<|b9<|aV.x<|aV.x<|bB.x<|aV.n ?_;obtain rfl:=O (F h);exact⟨(pR,oK),Xx _ Y,wR []⟩;refine cT<|bz<|aV.n<|qq<|bj<|sr<|mv Y<|bE (V h) λNT Xz h=>ix Y Y Xz<|lr Y Y<|ag Y<|ag Y<|dn<|aX<|mo (s:=.row _) Y<|mv Y<|mv Y<|lE h λx79 h79 h=>ad _ Y Y h79<|mo (s:=.fj _ _) Y<|mo (s:=.row _) Y<|mv Y<|mv Y<|lE h λNU XA h=>ad _ Y Y XA<|bE h λx85 XB h=>iR Y Y Y XB ?_;refine bE h λx86 h86 h=>lR Y Y h86 Y<|lE h λLL XC h=>cv _ Y (UK.nat XC)<|mv Y<|lE h λLM XD h=>cv _ Y (UK.nat XD)<|lE h λx90 h90 h=>ad _ Y Y (UK.add (a:=LL) (b:=LM) h90) ?_;obtain⟨⟨LN,WN⟩,Ps,h⟩:=bS h;refine cB (bK Ps) 68 Y ⟨Y,aq⟩<|bE h λx92 h92 h=>iR Y Y Y h92<|bE h λWO Pt h=>sR LN Y Y Y Y Pt<|RT.done<|bB.n<|aV.n<|aX<|lE h λLO XE h=>ad _ Y Y XE<|mv Y<|RT.done ?_;obtain rfl:=O h;exact aV.n ⟨(LO,WN,WO),Xw _ Y,wR []⟩;subst Xv;obtain⟨zT,uQ⟩:=DA
 try dsimp only
 refine aV.n<|aX<|mo (s:=.row _) Y<|mv Y<|mv Y<|lE mR λx97 XF mR=>ad _ Y Y XF<|mo (s:=.fj _ _) Y<|mo (s:=.row _) Y<|mv Y<|mv Y<|lE mR λO1 XG mR=>ad _ Y Y XG<|bE mR λO2 Fx mR=>iR Y Y Y Fx<|bE mR λDt L6 mR=>lR Y Y L6 Y<|lE mR λE9 L7 mR=>cv _ Y (UK.nat L7) ?_;obtain⟨⟨Br,k72⟩,L8,mR⟩:=bS mR;exact cB (bK L8) 68 Y ⟨Y,aq⟩<|bE mR λO3 XH mR=>iR Y Y Y XH<|bE mR λWR Pu mR=>sR Br Y Y Y Y Pu<|dn<|⟨(O0,WR),mR,wR []⟩;obtain⟨E8,Bq⟩:=NS
 try dsimp only
 refine aV.n<|aX<|mo (s:=.row _) Y<|mv Y<|mv Y<|lE h λLH XI h=>cv _ Y (UK.nat XI)<|bE h λOZ XJ h=>iR Y Y Y XJ<|bE h λWM Pv h=>sR LH Y Y Y Y Pv<|RT.done<|bB.n<|aV.n<|aX<|mv Y<|lE h λuP h46 h=>sb _ Y Y h46<|ag Y<|RT.done ?_;obtain rfl:=O h;exact aV.n ⟨(uP,WM,Bq),Xo _ Y,wR []⟩;subst Xn;obtain⟨uR,rz⟩:=Dz
 try dsimp only
 refine aV.n<|sr<|mv Y<|bE L5 λO4 L9 L5=>RT.zL (n:=1) (e:=aY) .none Y Y T Y T (by rfl) (by decide) (by exact⟨au,aq⟩) L9<|an (s:=.row _) Y<|dn<|qq<|sr<|mv Y<|mv Y<|dn<|bE L5 λe81 XK XL=>?_;refine bW (λ(lI:(List Nat))=>AS.dj 141 [(4,.row 38),(5,.row 114)] [] [(38,TR 80 1 aY uR),(114,TR 80 1 aY lI)]) (λlI=>lI=e81) ?_ (λlI XM=>?_);refine bj ?_;refine bX XK (λNV=>AS.dj 141 [(4,.row 38),(5,.row 114),(7,.sv (.v (.int .u64 ((eG:Nat):Int)))),(8,.row 27),(115,ai gh),(116,ai NV.1)] [] [(38,TR 80 1 aY uR),(114,TR 80 1 aY NV.2),(27,TR 80 1 aY rz)]) (wR []) (λNV y81 G81 h XN XO=>?_);obtain⟨nF,pS⟩:=NV
 try dsimp only
 refine sr<|lE h λBs Ma h=>ls _ Y Y Ma<|dn<|qq ?_;cases Bs;refine cF<|b9<|aV.x<|aV.x<|bB.x<|aV.n ?_;obtain rfl:=O (F h);exact⟨pS,XO _ Y,wR []⟩;refine cT<|bz<|aV.n<|qq<|bj<|sr<|mv Y<|ag Y<|dn<|bf mixed<|mo (s:=.row _) Y<|mv Y<|mo (s:=.row _) Y<|mv Y<|bE (V h) λO5 XP h=>iR Y Y Y XP<|bE h λO6 XQ h=>lR Y Y XQ Y<|lE h λLP XR h=>cv _ Y (UK.nat XR)<|mo (s:=.row _) Y<|mv Y<|lE h λO7 h128 h=>ad _ Y Y h128<|bE h λO8 XS h=>?_;refine iR Y Y Y XS<|bE h λO9 XT h=>lR Y Y XT Y<|lE h λLQ XU h=>cv _ Y (UK.nat XU)<|lE h λLR XV h=>RT.shl .none _ Y Y T (by decide) (UK.shl (a:=LQ) (q:=32) (s:=32) Y XV)<|lE h λLS XW h=>RT.or .none _ Y Y T (UK.or (a:=LP) (b:=LR) XW)<|mv Y<|lE h λPa XX h=>RT.shr .none _ Y Y T (Int.natCast_nonneg _) (xX (k:=.u64) (a:=LS) (q:=((eG:Nat):Int)) (s:=min eG 64) Y XX)<|lE h λLU XY h=>cv _ Y (UK.nat XY) ?_;refine bE h λPb XZ h=>iR Y Y Y XZ<|bE h λWT Pw h=>sR LU Y Y Y Y Pw ?_;refine RT.done ⟨by kernel_rfl,?_⟩;refine bB.n<|aV.n<|aX<|lE h λLV X0 h=>ad _ Y Y X0<|mv Y<|RT.done ?_;obtain rfl:=O h;exact aV.n ⟨(LV,WT),XN _ Y,wR []⟩;subst XM
 try dsimp only
 refine aV.n<|sr<|mo (s:=.row _) Y<|mo (s:=.row _) Y<|an (s:=.row _) Y<|an (s:=.row _) Y<|dn<|nC (i:=38) (E1:=80) (n:=1) (e:=aY) (l:=uR) hN (λ_ h=>h) Y<|nC (i:=114) (E1:=80) (n:=1) (e:=aY) (l:=lI) hN (λ_ h=>h) Y<|bg ?_;obtain rfl:=O XL;exact R2 Y Y
theorem jm{x0:List Nat}(N:Nat){r:List Nat}(h:c8 x0=some r):dS ah 56 N [slc 1 (List.map aY x0)] (nw N (slc 1 (List.map aY r))):=HO (kN h)
theorem kp{x0:List Nat}{x1:List Nat}(N:Nat){r:(List Nat)×(List Nat)}(h:dX x0 x1=some r):dS ah 68 N [slc 1 (List.map aY x0),slc 1 (List.map aY x1)] (.sN [nw N (slc 1 (List.map aY r.1)),nw N (slc 1 (List.map aY r.2))]):=by
 refine bF Try.func68 Y (af Y) (λgw M vs hN hvs=>?_);unfold dX at h;refine sr<|ag Y<|aI Y (bt (N:=N) (n:=1) (e:=aY))<|dn<|ei (fU 4 304 80 1 Y Y T)<|qq<|bj<|sr<|mv Y<|mv Y<|bE h λia kP h=>cl (ek kP) ⟨Y,Y,aq⟩<|lE h λig lJ h=>ls _ Y Y lJ<|ag Y<|dn ?_;cases ig;refine cF<|sr<|mv Y<|lE (F h) λgi kG h=>ln Y kG<|lE h λmu pU h=>RT.leq .none _ Y Y T pU<|ag Y<|dn ?_;cases mu;refine cF<|sr<|mv Y<|lE (F h) λwe wm h=>ln Y wm<|lE h λwX zZ h=>eq _ Y Y (pJ (p:=we) (q:=1) zZ)<|ag Y<|dn ?_;cases wX;refine cF<|bz<|bB.n<|aV.n<|sr<|mv Y<|mv Y ?_;obtain⟨⟨Pc,Pd⟩,BD,h⟩:=bS (F h);refine RT.bJ .none (rD N BD) hN Y ⟨Y,Y,aq⟩ T<|ex Y Y<|ex Y Y<|ag Y<|ag Y<|dn<|bg ?_;obtain rfl:=O h;exact R2 Y Y;refine cT<|sr<|mv Y<|bE (V h) λnZ BE h=>cN (kN BE) ⟨Y,aq⟩<|an (s:=.row _) Y<|dn<|sr<|mo (s:=.row _) Y<|mv Y<|bE h λqL zY h=>ix Y Y zY<|lr Y Y<|lE h λDs Fv h=>cv _ Y (UK.nat Fv) ?_;obtain⟨⟨zf,l5⟩,Dw,h⟩:=bS h;refine bE h λ_ he5 h=>cR (l:=nZ) (l':=l5) (e:=aY) (pX Dw) (iL he5) 39 Y (.k2 Y Y)<|ag Y<|dn<|sr<|mo (s:=.row _) Y<|mv Y<|lE h λv8 h48 h=>cv _ Y (UK.nat h48)<|RT.pK (l:=[v8]) (e:=aY) .none hN (.one Y (.nil)) T Y Y Y Y Y Y<|an (s:=.row _) Y<|ag Y<|dn<|nC (i:=39) (E1:=80) (n:=1) (e:=aY) (l:=l5) hN (λ_ h=>h) Y ?_
 refine bg<|bB.r<|aV.r ?_;obtain rfl:=O h;exact R2 Y Y;refine cT<|sr<|mv Y<|bE (V h) λje pV h=>cl (fy pV) ⟨Y,aq⟩<|mv Y<|bE h λiW oM h=>cl (fy oM) ⟨Y,aq⟩<|ag Y<|ag Y<|dn<|qq<|bf mixed<|mv Y<|mv Y<|bE h λiM o7 h=>RT.quo .none _ Y Y T (We o7) (UK.quo o7) ?_;obtain⟨⟨si,sj⟩,su,h⟩:=bS h;refine RT.bJ .none (fY N su) hN Y ⟨Y,Y,aq⟩ T<|fl Y Y<|mv Y<|mv Y<|bE h λnL xe h=>RT.rem .none _ Y Y T (T1 xe) (HC xe) ?_;obtain⟨⟨ir,gA⟩,oa,h⟩:=bS h;refine RT.bJ .none (fY N oa) hN Y ⟨Y,Y,aq⟩ T<|fl Y Y<|ag Y<|ag Y ?_;refine RT.done ⟨by kernel_rfl,?_⟩;refine aV.n<|bg<|bB.r<|aV.r ?_;obtain rfl:=O h;exact R2 Y Y;refine cT<|sr<|mv Y<|bE (V h) λl7 tc h=>RT.bJ .none (jm N tc) hN Y ⟨Y,aq⟩ T<|ag Y<|ag Y<|dn<|ei (fU 4 310 80 1 Y Y T)<|nC (i:=310) (E1:=80) (n:=1) (e:=aY) (l:=[]) hN (λ_ h=>h) Y<|bg<|bB.r<|aV.r ?_;obtain rfl:=O h;exact R2 Y Y
end
section
open Go.Fw Go.Fw.Z Go.RowKit
theorem cC{x0:Int}(N:Nat){r:Zr}(h:bn x0=some r):dS ah 35 N [ay x0] (.agg ((fZ N) r)):=by
 refine bF Try.func35 Y (af Y) (λgw M vs hN hvs=>?_);unfold bn at h;refine sr<|al (cs:=[az false,nw N ax]) (by exact⟨au,bt,aq⟩) Y<|dn<|sr<|mv Y<|lE h λx5 h5 h=>cv _ Y (UK.conv h5)<|ag Y<|dn<|qq<|sr<|mv Y<|lE h λx7 h7 h=>ls _ Y Y h7<|dn ?_;refine bD h (λj2=>AS.dj 14 [(0,ai x0),(2,.ptr 2 0),(3,.sv (.v (.int .u64 ((j2:Nat):Int))))] [(2,⟨24,[aj false,.sv (nw N ax)]⟩)] []) (λh=>?_) (λPe h=>?_);cases x7;exact fs<|⟨x5,(F h),wR []⟩;exact cT<|aX<|mv Y<|lE (V h) λx9 h9 h=>RT.neg .none _ Y T (UK.neg h9)<|ag Y<|dn<|⟨x9,h,wR []⟩
 try dsimp only
 refine aV.n<|sr<|mv Y<|lE h λkI oL h=>ls _ Y Y oL<|mv Y ?_;obtain⟨⟨mN,sn⟩,lJ,h⟩:=bS h;refine RT.bJ .none (fY N lJ) hN Y ⟨Y,Y,aq⟩ T<|so Y Y Y<|dn<|bg ?_;obtain rfl:=O h;exact RZ (.agg Y Y (.k2 Y Y) Y (.nil))
theorem fz{x0:Int}{r:Zr}(h:bn x0=some r):Pure ah 35 [ay x0] (.agg (eZ r)):=fo (λN=>cC N h) (λN=>(SV.dL (zI _ _)))
theorem dZ{x0:Zr}{r:Int×Bool}(h:cE x0=some r):Pure ah 52 [.agg (eZ x0)] (.sN [ay r.1,az r.2]):=by
 obtain⟨bQ,bM⟩:=x0;refine bH Try.func52 Y (af Y) (λgw M vs hvs=>?_);unfold cE at h;refine sr<|bx Y<|ag Y<|ag Y<|dn<|sr<|fa Y Y<|lV Y Y Y<|bE h λx8 h8 h=>cl (bN h8) ⟨Y,aq⟩<|ag Y<|dn<|qq<|sr<|mv Y<|lE h λfN iE h=>ln Y iE<|lE h λkI oL h=>gt _ Y Y oL<|dn ?_;cases kI;refine fs<|sr<|mv Y<|bE (F h) λig lJ h=>cl (fy lJ) ⟨Y,aq⟩<|ag Y<|dn<|qq<|sr<|fa Y Y<|lV Y Y Y<|dn ?_;cases bQ;refine fs<|qq<|sr<|mv Y<|lE (F h) λjH sZ h=>ge _ Y Y (Wc (p:=9223372036854775808) (q:=ig) sZ)<|dn ?_;cases jH;refine fs<|sr<|mv Y<|lE (F h) λeG mg h=>cv _ Y mg<|ag Y<|ag Y<|dn<|bg ?_;obtain rfl:=O h;exact R2 Y Y;refine cT<|sr<|ag Y<|ag Y<|dn<|bg<|aV.r ?_;obtain rfl:=O (V h);exact R2 Y Y;refine cT<|qq<|sr<|mv Y<|lE (V h) λgh kO h=>gt _ Y Y (NN (p:=9223372036854775808) (q:=ig) kO)<|dn ?_;cases gh;refine fs<|sr<|mv Y<|lE (F h) λmu pU h=>RT.neg .none _ Y T (UK.neg pU)<|lE h λiV nM h=>cv _ Y nM<|ag Y<|ag Y<|dn<|bg<|aV.r ?_;obtain rfl:=O h;exact R2 Y Y;refine cT<|sr<|ag Y<|ag Y<|dn<|bg<|aV.r<|aV.r ?_;obtain rfl:=O (V h);exact R2 Y Y;refine cT<|sr<|ag Y<|ag Y<|dn<|bg<|aV.r ?_;obtain rfl:=O (V h);exact R2 Y Y
theorem kH{x0:List Nat}(N:Nat){r:List Nat}(h:bh x0=some r):dS ah 54 N [nw N (slc 1 (List.map aY x0))] (nw N (slc 1 (List.map aY r))):=by
 refine bF Try.func54 Y (af Y) (λgw M vs hN hvs=>?_);unfold bh at h;refine sr<|aI Y (bt (N:=N) (n:=1) (e:=aY))<|dn<|qq<|bE h λLX Bx yl=>?_;refine bW (λ(uM:(List Nat))=>AS.dj 21 [(0,.sv (nw N (slc 1 (List.map aY uM))))] [] []) (λuM=>uM=LX) ?_ (λuM By=>?_);refine bj ?_;refine bX Bx (λzS=>AS.dj 21 [(0,.sv (nw N (slc 1 (List.map aY zS))))] [] []) (wR []) (λsW WV WW h Bz zX=>?_)
 try dsimp only
 refine qq<|qq ?_;refine bD h (λPj=>AS.dj 21 [(0,.sv (nw N (slc 1 (List.map aY sW)))),(14,aj Pj)] [] []) (λh=>?_) (λuL h=>?_);refine aX<|mv Y<|lE h λx4 h4 h=>RT.zP .none Y T h4<|lE h λx5 h5 h=>gt _ Y Y h5<|mv Y<|bE h λBl fe h=>?_;cases x5;obtain rfl:=O (F fe);exact ww<|ww<|ww<|ww<|ww<|ww<|ww<|pF Y<|dn<|⟨false,h,wR []⟩;refine gm Y<|gm Y<|lE (V fe) λx9 h9 fe=>RT.zP (.some Y Y) Y T h9<|lE fe λfN iE fe=>RT.sub (.some Y Y) _ Y Y T iE<|bE fe λkI oL fe=>RT.Wy (.some Y Y) Y Y T oL<|gr Y Y<|lE fe λig lJ fe=>Ck _ Y Y (OG (p:=kI) (q:=0) lJ) ?_;obtain rfl:=O fe;exact pT Y<|dn<|⟨ig,h,wR []⟩
 try dsimp only
 refine aV.n ?_;cases uL;refine cF<|b9<|aV.x<|aV.x<|bB.x<|aV.n ?_;obtain rfl:=O (F h);exact⟨sW,zX _ Y,wR []⟩;refine cT<|bz<|aV.n<|bj<|aX<|mv Y<|mv Y<|lE (V h) λgh kO h=>RT.zP .none Y T kO<|lE h λgi kG h=>sb _ Y Y kG<|bE h λmu pU h=>RT.HP .none 0 gi Y Y ⟨_,Y⟩ T pU<|ag Y<|RT.done<|bB.n ?_;obtain rfl:=O h;exact aV.n ⟨mu,Bz _ Y,wR []⟩;subst By
 try dsimp only
 refine aV.n<|sr<|mv Y<|ag Y<|dn<|bg ?_;obtain rfl:=O yl;exact R1 Y
theorem dG{x0:Bool}{x1:List Nat}(N:Nat){r:Zr}(h:bL x0 x1=some r):dS ah 55 N [az x0,nw N (slc 1 (List.map aY x1))] (.agg ((fZ N) r)):=by
 refine bF Try.func55 Y (af Y) (λgw M vs hN hvs=>?_);unfold bL at h;refine sr<|al (cs:=[az false,nw N ax]) (by exact⟨au,bt,aq⟩) Y<|dn<|sr<|mv Y<|bE h λx6 h6 h=>RT.bJ .none (kH N h6) hN Y ⟨Y,aq⟩ T<|ag Y<|dn<|qq<|sr<|mv Y<|lE h λx8 h8 h=>RT.zP .none Y T h8<|lE h λx9 h9 h=>eq _ Y Y (pJ (p:=x8) (q:=0) h9)<|dn ?_;cases x9;refine fs<|sr<|mv Y<|mv Y<|bI (cs:=[_,_]) (cs':=[az x0,nw N (slc 1 (List.map aY x6))]) (.one Y (.one Y (.nil))) ⟨au,au,aq⟩<|so Y Y Y<|dn<|bg ?_;obtain rfl:=O (F h);exact RZ (.agg Y Y (.k2 Y Y) Y (.nil));refine cT<|sr<|bI (cs:=[_,_]) (cs':=[az false,nw N ax]) (.nil) ⟨au,bt,aq⟩<|so Y Y Y<|dn<|bg<|aV.r ?_;obtain rfl:=O (V h);exact RZ (.agg Y Y (.k2 Y Y) Y (.nil))
theorem jK{x0:Bool}{x1:List Nat}{x2:Bool}{x3:List Nat}(N:Nat){r:Zr}(h:cq x0 x1 x2 x3=some r):dS ah 53 N [az x0,slc 1 (List.map aY x1),az x2,slc 1 (List.map aY x3)] (.agg ((fZ N) r)):=by
 refine bF Try.func53 Y (af Y) (λgw M vs hN hvs=>?_);unfold cq at h;refine sr<|al (cs:=[az false,nw N ax]) (by exact⟨au,bt,aq⟩) Y<|dn<|qq<|sr<|mv Y<|mv Y<|lE h λkI oL h=>RT.VH .none _ Y Y T oL<|dn ?_;cases kI;refine fs<|qq<|sr<|mv Y<|mv Y<|bE (F h) λmu pU h=>cl (ek pU) ⟨Y,Y,aq⟩<|lE h λiV nM h=>ls _ Y Y nM<|dn ?_;cases iV;refine fs<|sr<|mv Y<|mv Y<|mv Y<|bE (F h) λgJ lu h=>RT.bJ .none (iu N lu) hN Y ⟨Y,Y,aq⟩ T ?_;obtain⟨⟨w6,w7⟩,ym,h⟩:=bS h;refine RT.bJ .none (dG N ym) hN Y ⟨Y,Y,aq⟩ T<|so Y Y Y<|dn<|bg ?_;obtain rfl:=O h;exact RZ (.agg Y Y (.k2 Y Y) Y (.nil));refine cT<|sr<|mv Y<|mv Y<|mv Y<|bE (V h) λeG mg h=>RT.bJ .none (iu N mg) hN Y ⟨Y,Y,aq⟩ T ?_;obtain⟨⟨wZ,w5⟩,BA,h⟩:=bS h;refine RT.bJ .none (dG N BA) hN Y ⟨Y,Y,aq⟩ T<|so Y Y Y<|dn<|bg<|aV.r ?_;obtain rfl:=O h;exact RZ (.agg Y Y (.k2 Y Y) Y (.nil));refine cT<|sr<|mv Y<|mv Y<|mv Y<|bE (V h) λl7 tc h=>RT.bJ .none (ko N tc) hN Y ⟨Y,Y,aq⟩ T ?_;obtain⟨⟨n6,n7⟩,nN,h⟩:=bS h;refine RT.bJ .none (dG N nN) hN Y ⟨Y,Y,aq⟩ T<|so Y Y Y<|dn<|bg<|aV.r ?_;obtain rfl:=O h;exact RZ (.agg Y Y (.k2 Y Y) Y (.nil))
theorem pZ{x0:Zr}{x1:Zr}(N:Nat){r:Zr}(h:dg x0 x1=some r):dS ah 18 N [.agg (eZ x0),.agg (eZ x1)] (.agg ((fZ N) r)):=by
 obtain⟨bQ,bM⟩:=x0;obtain⟨di,cZ⟩:=x1;refine bF Try.func18 Y (af Y) (λgw M vs hN hvs=>?_);unfold dg at h;refine sr<|bx Y<|bx Y<|al (cs:=[az false,nw N ax]) (by exact⟨au,bt,aq⟩) Y<|dn<|sr<|ld Y Y (.k2 Y Y) ?_;obtain⟨⟨wh,Bt⟩,kP,h⟩:=bS h;refine cl (dZ kP) ⟨Y,aq⟩<|mv Y<|ex Y Y<|ex Y Y<|ag Y<|ag Y<|dn<|sr<|ld Y Y (.k2 Y Y) ?_;obtain⟨⟨yh,Bu⟩,kO,h⟩:=bS h;refine cl (dZ kO) ⟨Y,aq⟩<|mv Y<|ex Y Y<|ex Y Y<|ag Y<|ag Y<|dn<|qq<|qq ?_;refine bD h (λj3=>AS.dj 48 [(2,.ptr 2 0),(3,.ptr 3 0),(4,.ptr 4 0),(5,ai wh),(7,ai yh),(23,aj j3)] [(4,⟨24,[aj false,.sv (nw N ax)]⟩),(3,⟨24,[aj di,.sv (slc 1 (List.map aY cZ))]⟩),(2,⟨24,[aj bQ,.sv (slc 1 (List.map aY bM))]⟩)] []) (λh=>?_) (λuS h=>?_);refine aX<|mv Y<|mv Y<|bE h λzU D4 h=>?_;cases Bt;obtain rfl:=O (F D4);exact ww<|pF Y<|dn<|⟨false,h,wR []⟩;refine gm Y ?_;obtain rfl:=O (V D4);exact pT Y<|dn<|⟨Bu,h,wR []⟩
 try dsimp only
 refine aV.n ?_;refine bD h (λj5=>AS.dj 48 [(2,.ptr 2 0),(3,.ptr 3 0),(4,.ptr 4 0)] [(4,⟨24,[aj false,.sv (nw N ax)]⟩),(3,⟨24,[aj di,.sv (slc 1 (List.map aY cZ))]⟩),(2,⟨24,[aj bQ,.sv (slc 1 (List.map aY bM))]⟩)] []) (λh=>?_) (λj5 h=>?_);cases uS;exact fs<|⟨(),(F h),wR []⟩;refine cT<|sr<|mv Y<|mv Y<|lE (V h) λiM o7 h=>ad _ Y Y o7<|ag Y<|dn<|sr<|mv Y<|mv Y<|lE h λgJ lu h=>RT.xor .none _ Y Y T lu<|mv Y<|mv Y<|lE h λkn oa h=>RT.xor .none _ Y Y T oa<|lE h λqN vO h=>RT.and .none _ Y Y T vO<|lE h λjW oN h=>ge _ Y Y oN<|dn ?_;cases jW;exact fs<|⟨(),(F h),wR []⟩;refine cT<|sr<|mv Y ?_;obtain⟨⟨n8,l9⟩,wm,h⟩:=bS (V h);refine RT.bJ .none (cC N wm) hN Y ⟨Y,aq⟩ T<|so Y Y Y<|dn<|bg<|aV.r<|aV.r ?_;obtain rfl:=O h;exact RZ (.agg Y Y (.k2 Y Y) Y (.nil))
 try dsimp only
 refine aV.n<|qq<|bf mixed<|fa Y Y<|lV Y Y Y<|fa Y Y<|lV Y Y Y<|bE h λv5 Dv h=>cl (bN Dv) ⟨Y,aq⟩<|fa Y Y<|lV Y Y Y<|fa Y Y<|lV Y Y Y<|bE h λuP h46 h=>cl (bN h46) ⟨Y,aq⟩ ?_;obtain⟨⟨Jl,Jm⟩,Fj,h⟩:=bS h;refine RT.bJ .none (jK N Fj) hN Y ⟨Y,Y,Y,Y,aq⟩ T<|so Y Y Y ?_;refine RT.done ⟨by kernel_rfl,?_⟩;refine aV.n<|bg ?_;obtain rfl:=O h;exact RZ (.agg Y Y (.k2 Y Y) Y (.nil))
theorem iv{x0:Zr}{x1:Zr}{r:Zr}(h:dg x0 x1=some r):Pure ah 18 [.agg (eZ x0),.agg (eZ x1)] (.agg (eZ r)):=fo (λN=>pZ N h) (λN=>(SV.dL (zI _ _)))
theorem qa{x0:Zr}{x1:Zr}(N:Nat){r:Zr}(h:fX x0 x1=some r):dS ah 51 N [.agg (eZ x0),.agg (eZ x1)] (.agg ((fZ N) r)):=by
 obtain⟨bQ,bM⟩:=x0;obtain⟨di,cZ⟩:=x1;refine bF Try.func51 Y (af Y) (λgw M vs hN hvs=>?_);unfold fX at h;refine sr<|bx Y<|bx Y<|al (cs:=[az false,nw N ax]) (by exact⟨au,bt,aq⟩) Y<|dn<|sr<|ld Y Y (.k2 Y Y) ?_;obtain⟨⟨wh,Bt⟩,kP,h⟩:=bS h;refine cl (dZ kP) ⟨Y,aq⟩<|mv Y<|ex Y Y<|ex Y Y<|ag Y<|ag Y<|dn<|sr<|ld Y Y (.k2 Y Y) ?_;obtain⟨⟨yh,Bu⟩,kO,h⟩:=bS h;refine cl (dZ kO) ⟨Y,aq⟩<|mv Y<|ex Y Y<|ex Y Y<|ag Y<|ag Y<|dn<|qq<|qq ?_;refine bD h (λj3=>AS.dj 49 [(2,.ptr 2 0),(3,.ptr 3 0),(4,.ptr 4 0),(5,ai wh),(7,ai yh),(23,aj j3)] [(4,⟨24,[aj false,.sv (nw N ax)]⟩),(3,⟨24,[aj di,.sv (slc 1 (List.map aY cZ))]⟩),(2,⟨24,[aj bQ,.sv (slc 1 (List.map aY bM))]⟩)] []) (λh=>?_) (λuS h=>?_);refine aX<|mv Y<|mv Y<|bE h λzU D4 h=>?_;cases Bt;obtain rfl:=O (F D4);exact ww<|pF Y<|dn<|⟨false,h,wR []⟩;refine gm Y ?_;obtain rfl:=O (V D4);exact pT Y<|dn<|⟨Bu,h,wR []⟩
 try dsimp only
 refine aV.n ?_;refine bD h (λj5=>AS.dj 49 [(2,.ptr 2 0),(3,.ptr 3 0),(4,.ptr 4 0)] [(4,⟨24,[aj false,.sv (nw N ax)]⟩),(3,⟨24,[aj di,.sv (slc 1 (List.map aY cZ))]⟩),(2,⟨24,[aj bQ,.sv (slc 1 (List.map aY bM))]⟩)] []) (λh=>?_) (λj5 h=>?_);cases uS;exact fs<|⟨(),(F h),wR []⟩;refine cT<|sr<|mv Y<|mv Y<|lE (V h) λiM o7 h=>sb _ Y Y o7<|ag Y<|dn<|sr<|mv Y<|mv Y<|lE h λgJ lu h=>RT.xor .none _ Y Y T lu<|mv Y<|mv Y<|lE h λkn oa h=>RT.xor .none _ Y Y T oa<|lE h λqN vO h=>RT.and .none _ Y Y T vO<|lE h λjW oN h=>ge _ Y Y oN<|dn ?_;cases jW;exact fs<|⟨(),(F h),wR []⟩;refine cT<|sr<|mv Y ?_;obtain⟨⟨n8,l9⟩,wm,h⟩:=bS (V h);refine RT.bJ .none (cC N wm) hN Y ⟨Y,aq⟩ T<|so Y Y Y<|dn<|bg<|aV.r<|aV.r ?_;obtain rfl:=O h;exact RZ (.agg Y Y (.k2 Y Y) Y (.nil))
 try dsimp only
 refine aV.n<|qq<|bf mixed<|fa Y Y<|lV Y Y Y<|fa Y Y<|lV Y Y Y<|bE h λv5 Dv h=>cl (bN Dv) ⟨Y,aq⟩<|fa Y Y<|lV Y Y Y<|lE h λDs Fv h=>nt Y _ Fv<|fa Y Y<|lV Y Y Y<|bE h λzQ Fj h=>cl (bN Fj) ⟨Y,aq⟩ ?_;obtain⟨⟨Jn,Jo⟩,h48,h⟩:=bS h;refine RT.bJ .none (jK N h48) hN Y ⟨Y,Y,Y,Y,aq⟩ T<|so Y Y Y ?_;refine RT.done ⟨by kernel_rfl,?_⟩;refine aV.n<|bg ?_;obtain rfl:=O h;exact RZ (.agg Y Y (.k2 Y Y) Y (.nil))
theorem yn{x0:Zr}{x1:Zr}{r:Zr}(h:fX x0 x1=some r):Pure ah 51 [.agg (eZ x0),.agg (eZ x1)] (.agg (eZ r)):=fo (λN=>qa N h) (λN=>(SV.dL (zI _ _)))
theorem jz{x0:Zr}{x1:Zr}(N:Nat){r:Zr}(h:cV x0 x1=some r):dS ah 67 N [.agg (eZ x0),.agg (eZ x1)] (.agg ((fZ N) r)):=by
 obtain⟨bQ,bM⟩:=x0;obtain⟨di,cZ⟩:=x1;refine bF Try.func67 Y (af Y) (λgw M vs hN hvs=>?_);unfold cV at h;refine sr<|bx Y<|bx Y<|al (cs:=[az false,nw N ax]) (by exact⟨au,bt,aq⟩) Y<|dn<|qq<|bf mixed<|fa Y Y<|lV Y Y Y<|bE h λx9 h9 h=>cl (bN h9) ⟨Y,aq⟩<|fa Y Y<|lV Y Y Y<|bE h λia kP h=>cl (bN kP) ⟨Y,aq⟩<|ag Y<|ag Y ?_;refine RT.done ⟨by kernel_rfl,?_⟩;refine aV.n<|qq<|qq ?_;refine bD h (λj3=>AS.dj 41 [(2,.ptr 2 0),(3,.ptr 3 0),(4,.ptr 4 0),(5,.sv (slc 1 (List.map aY x9))),(6,.sv (slc 1 (List.map aY ia))),(20,aj j3)] [(4,⟨24,[aj false,.sv (nw N ax)]⟩),(3,⟨24,[aj di,.sv (slc 1 (List.map aY cZ))]⟩),(2,⟨24,[aj bQ,.sv (slc 1 (List.map aY bM))]⟩)] []) (λh=>?_) (λFa h=>?_);refine aX<|mv Y<|lE h λjS n9 h=>ln Y n9<|lE h λl7 tc h=>RT.leq .none _ Y Y T tc<|mv Y<|bE h λJp qO h=>?_;cases l7;obtain rfl:=O (F qO);exact ww<|ww<|ww<|pF Y<|dn<|⟨false,h,wR []⟩;refine gm Y<|lE (V qO) λgi kG qO=>gn Y kG<|lE qO λmu pU qO=>RT.leq (.some Y Y) _ Y Y T pU ?_;obtain rfl:=O qO;exact pT Y<|dn<|⟨mu,h,wR []⟩
 try dsimp only
 refine aV.n ?_;cases Fa;refine fs<|qq<|bf mixed<|fa Y Y<|lV Y Y Y<|fa Y Y<|lV Y Y Y<|lE (F h) λwe wm h=>RT.Hh .none _ Y Y T wm<|mv Y<|mv Y<|bE h λnZ BE h=>RT.bJ .none (pW N BE) hN Y ⟨Y,Y,aq⟩ T ?_;obtain⟨⟨mc,me⟩,sq,h⟩:=bS h;refine RT.bJ .none (dG N sq) hN Y ⟨Y,Y,aq⟩ T<|so Y Y Y ?_;refine RT.done ⟨by kernel_rfl,?_⟩;refine aV.n<|bg ?_;obtain rfl:=O h;exact RZ (.agg Y Y (.k2 Y Y) Y (.nil));refine cT<|qq<|bf mixed<|fa Y Y<|lV Y Y Y<|fa Y Y<|lV Y Y Y<|lE (V h) λAY BA h=>RT.Hh .none _ Y Y T BA<|mv Y<|bE h λmw su h=>cl (fy su) ⟨Y,aq⟩<|mv Y<|bE h λgJ lu h=>cl (fy lu) ⟨Y,aq⟩<|lE h λoH ym h=>RT.mul .none _ Y Y T (UK.mul (a:=mw) (b:=gJ) ym) ?_;obtain⟨⟨Cp,w8⟩,xe,h⟩:=bS h;refine RT.bJ .none (fY N xe) hN Y ⟨Y,Y,aq⟩ T<|so Y Y Y ?_;refine RT.done ⟨by kernel_rfl,?_⟩;refine aV.n<|bg<|aV.r ?_;obtain rfl:=O h;exact RZ (.agg Y Y (.k2 Y Y) Y (.nil))
theorem qb{x0:Zr}{x1:Zr}{r:Zr}(h:cV x0 x1=some r):Pure ah 67 [.agg (eZ x0),.agg (eZ x1)] (.agg (eZ r)):=fo (λN=>jz N h) (λN=>(SV.dL (zI _ _)))
theorem lK{x0:Zr}(N:Nat){r:Zr}(h:dU x0=some r):dS ah 21 N [.agg (eZ x0)] (.agg ((fZ N) r)):=by
 obtain⟨bQ,bM⟩:=x0;refine bF Try.func21 Y (af Y) (λgw M vs hN hvs=>?_);unfold dU at h;refine sr<|bx Y<|al (cs:=[az false,nw N ax]) (by exact⟨au,bt,aq⟩) Y<|dn<|qq<|bf mixed<|fa Y Y<|lV Y Y Y<|lE h λx5 h5 h=>nt Y _ h5<|fa Y Y<|lV Y Y Y<|bE h λx8 h8 h=>cl (bN h8) ⟨Y,aq⟩<|bE h λx9 h9 h=>RT.bJ .none (jm N h9) hN Y ⟨Y,aq⟩ T ?_;obtain⟨⟨w9,xb⟩,iE,h⟩:=bS h;refine RT.bJ .none (dG N iE) hN Y ⟨Y,Y,aq⟩ T<|so Y Y Y ?_;refine RT.done ⟨by kernel_rfl,?_⟩;refine aV.n<|bg ?_;obtain rfl:=O h;exact RZ (.agg Y Y (.k2 Y Y) Y (.nil))
theorem qc{x0:Zr}{r:Zr}(h:dU x0=some r):Pure ah 21 [.agg (eZ x0)] (.agg (eZ r)):=fo (λN=>lK N h) (λN=>(SV.dL (zI _ _)))
theorem eI{x0:Zr}{r:Int}(h:cr x0=some r):Pure ah 36 [.agg (eZ x0)] (ay r):=by
 obtain⟨bQ,bM⟩:=x0;refine bH Try.func36 Y (af Y) (λgw M vs hvs=>?_);unfold cr at h;refine sr<|bx Y<|ag Y<|dn<|qq<|bj<|sr<|fa Y Y<|lV Y Y Y<|bE h λx6 h6 h=>cl (bN h6) ⟨Y,aq⟩<|lE h λx7 h7 h=>ln Y h7<|lE h λx8 h8 h=>eq _ Y Y (pJ (p:=x7) (q:=0) h8)<|ag Y<|dn ?_;cases x8;refine cF<|sr<|fa Y Y<|lV Y Y Y<|ag Y<|dn ?_;replace h:=F h;cases bQ;refine cF<|bz<|bB.n<|aV.n<|sr<|ag Y<|dn<|bg ?_;obtain rfl:=O (F h);exact R1 Y;refine cT<|sr<|ag Y<|dn<|bg<|bB.r<|aV.r ?_;obtain rfl:=O (V h);exact R1 Y;refine cT<|sr<|ag Y<|dn<|bg<|bB.r<|aV.r ?_;obtain rfl:=O (V h);exact R1 Y
theorem yo{x0:Zr}{x1:Zr}{r:Int}(h:jg x0 x1=some r):Pure ah 39 [.agg (eZ x0),.agg (eZ x1)] (ay r):=by
 obtain⟨bQ,bM⟩:=x0;obtain⟨di,cZ⟩:=x1;refine bH Try.func39 Y (af Y) (λgw M vs hvs=>?_);unfold jg at h;refine sr<|bx Y<|bx Y<|ag Y<|dn<|qq<|bf mixed<|ld Y Y (.k2 Y Y)<|bE h λx8 h8 h=>cl (eI h8) ⟨Y,aq⟩<|ld Y Y (.k2 Y Y)<|bE h λfN iE h=>cl (eI iE) ⟨Y,aq⟩<|ag Y<|ag Y ?_;refine RT.done ⟨by kernel_rfl,?_⟩;refine aV.n<|qq<|bj<|sr<|mv Y<|mv Y<|lE h λjS n9 h=>ls _ Y Y n9<|ag Y<|dn ?_;cases jS;refine cF<|sr<|mv Y<|mv Y<|lE (F h) λgi kG h=>gt _ Y Y kG<|ag Y<|dn ?_;cases gi;refine cF<|sr<|mv Y<|lE (F h) λje pV h=>ls _ Y Y pV<|ag Y<|dn ?_;cases je;refine cF<|bz<|bB.n<|aV.n<|qq<|bf mixed<|fa Y Y<|lV Y Y Y<|bE (F h) λnL xe h=>cl (bN xe) ⟨Y,aq⟩<|fa Y Y<|lV Y Y Y<|bE h λjW oN h=>cl (bN oN) ⟨Y,aq⟩<|bE h λpN BC h=>cl (ek BC) ⟨Y,Y,aq⟩<|ag Y ?_;refine RT.done ⟨by kernel_rfl,?_⟩;refine aV.n<|bg ?_;obtain rfl:=O h;exact R1 Y;refine cT<|qq<|bf mixed<|fa Y Y<|lV Y Y Y<|bE (V h) λeG mg h=>cl (bN mg) ⟨Y,aq⟩<|fa Y Y<|lV Y Y Y<|bE h λmw su h=>cl (bN su) ⟨Y,aq⟩<|bE h λlq uT h=>cl (ek uT) ⟨Y,Y,aq⟩<|ag Y ?_;refine RT.done ⟨by kernel_rfl,?_⟩;refine aV.n<|bg<|bB.r<|aV.r ?_;obtain rfl:=O h;exact R1 Y;refine cT<|sr<|ag Y<|dn<|bg<|bB.r<|aV.r ?_;obtain rfl:=O (V h);exact R1 Y;refine cT<|sr<|ag Y<|dn<|bg<|bB.r<|aV.r ?_
 obtain rfl:=O (V h);exact R1 Y
theorem jn{x0:Zr}{x1:Zr}(N:Nat){r:Zr×Zr×Int}(h:b8 x0 x1=some r):dS ah 34 N [.agg (eZ x0),.agg (eZ x1)] (.sN [.agg ((fZ N) r.1),.agg ((fZ N) r.2.1),ay r.2.2]):=by
 obtain⟨bQ,bM⟩:=x0;obtain⟨di,cZ⟩:=x1;refine bF Try.func34 Y (af Y) (λgw M vs hN hvs=>?_);unfold b8 at h;refine sr<|bx Y<|bx Y<|al (cs:=[az false,nw N ax]) (by exact⟨au,bt,aq⟩) Y<|al (cs:=[az false,nw N ax]) (by exact⟨au,bt,aq⟩) Y<|ag Y<|dn<|qq<|bf mixed<|fa Y Y<|lV Y Y Y<|bE h λig lJ h=>cl (bN lJ) ⟨Y,aq⟩<|fa Y Y ?_;refine lV Y Y Y<|bE h λjl nN h=>cl (bN nN) ⟨Y,aq⟩<|ag Y<|ag Y ?_;refine RT.done ⟨by kernel_rfl,?_⟩;refine aV.n<|qq<|sr<|mv Y<|lE h λgi kG h=>ln Y kG<|lE h λmu pU h=>eq _ Y Y (pJ (p:=gi) (q:=0) pU)<|dn ?_;cases mu;refine fs<|sr<|mv Y<|mv Y ?_;obtain⟨⟨Fb,Pf⟩,BA,h⟩:=bS (F h);refine RT.bJ .none (kp N BA) hN Y ⟨Y,Y,aq⟩ T<|mv Y<|ex Y Y<|ex Y Y<|ag Y<|ag Y<|dn<|sr<|mv Y<|bE h λgJ lu h=>RT.bJ .none (kH N lu) hN Y ⟨Y,aq⟩ T<|ag Y<|dn<|qq<|qq ?_;refine bD h (λj3=>AS.dj 52 [(2,.ptr 2 0),(3,.ptr 3 0),(4,.ptr 4 0),(5,.ptr 5 0),(8,.sv (slc 1 (List.map aY jl))),(9,.sv (nw N (slc 1 (List.map aY Fb)))),(10,.sv (nw N (slc 1 (List.map aY gJ)))),(36,aj j3.1)] [(5,⟨24,[aj false,.sv (nw N ax)]⟩),(4,⟨24,[aj false,.sv (nw N ax)]⟩),(3,⟨24,[aj di,.sv (slc 1 (List.map aY cZ))]⟩),(2,⟨24,[aj j3.2,.sv (slc 1 (List.map aY bM))]⟩)] []) (λh=>?_) (λj3 h=>?_)
 refine aX<|fa Y Y<|lV Y Y Y<|mv Y<|bE h λJr D4 h=>?_;cases bQ;obtain rfl:=O (F D4);exact ww<|ww<|ww<|pF Y<|dn<|⟨(false,false),h,wR []⟩;refine gm Y<|lE (V D4) λjW oN D4=>RT.zP (.some Y Y) Y T oN<|lE D4 λpN BC D4=>gg _ Y Y BC ?_;obtain rfl:=O D4;exact pT Y<|dn<|⟨(pN,true),h,wR []⟩;obtain⟨Fe,Bv⟩:=j3
 try dsimp only
 refine aV.n ?_;refine bD h (λj5=>AS.dj 52 [(2,.ptr 2 0),(3,.ptr 3 0),(4,.ptr 4 0),(5,.ptr 5 0),(9,.sv (nw N (slc 1 (List.map aY j5.1)))),(10,.sv (nw N (slc 1 (List.map aY j5.2))))] [(5,⟨24,[aj false,.sv (nw N ax)]⟩),(4,⟨24,[aj false,.sv (nw N ax)]⟩),(3,⟨24,[aj di,.sv (slc 1 (List.map aY cZ))]⟩),(2,⟨24,[aj Bv,.sv (slc 1 (List.map aY bM))]⟩)] []) (λh=>?_) (λj5 h=>?_);cases Fe;exact fs<|⟨(Fb,gJ),(F h),wR []⟩;exact cT<|sr<|mv Y<|RT.pK (l:=[1]) (e:=aY) .none hN (.one Y (.nil)) T Y Y Y Y Y Y<|bE (V h) λnZ BE h=>RT.bJ .none ((ko N BE).w (args':=[_,_]) ⟨eH,eH,aq⟩) hN Y ⟨Y,Y,aq⟩ T<|ag Y<|dn<|aX<|mv Y<|mv Y<|bE h λqL zY h=>RT.bJ .none ((iu N zY).w (args':=[_,_]) ⟨au,eH,aq⟩) hN Y ⟨Y,Y,aq⟩ T<|ag Y<|dn<|⟨(nZ,qL),h,wR []⟩;obtain⟨Pg,Jq⟩:=j5
 try dsimp only
 refine aV.n<|sr<|fa Y Y<|lV Y Y Y<|fa Y Y<|lV Y Y Y<|lE h λzQ Fj h=>RT.Hh .none _ Y Y T Fj<|mv Y ?_;obtain⟨⟨Cq,Cr⟩,L3,h⟩:=bS h;refine RT.bJ .none (dG N L3) hN Y ⟨Y,Y,aq⟩ T<|mv Y ?_;obtain⟨⟨zV,zW⟩,Fk,h⟩:=bS h;refine RT.bJ .none (dG N Fk) hN Y ⟨Y,Y,aq⟩ T<|so Y Y Y<|so Y Y Y<|ag Y<|dn<|bg ?_;obtain rfl:=O h;exact RZ (.agg Y Y (.k2 Y Y) Y (.agg Y Y (.k2 Y Y) Y (.tmp Y (.nil))));refine cT<|sr<|bI (cs:=[_,_]) (cs':=[az false,nw N ax]) (.nil) ⟨au,bt,aq⟩<|bI (cs:=[_,_]) (cs':=[az false,nw N ax]) (.nil) ⟨au,bt,aq⟩<|so Y Y Y<|so Y Y Y<|ag Y<|dn<|bg<|aV.r ?_;obtain rfl:=O (V h);exact RZ (.agg Y Y (.k2 Y Y) Y (.agg Y Y (.k2 Y Y) Y (.tmp Y (.nil))))
theorem mh{x0:Zr}{x1:Zr}{r:Zr×Zr×Int}(h:b8 x0 x1=some r):Pure ah 34 [.agg (eZ x0),.agg (eZ x1)] (.sN [.agg (eZ r.1),.agg (eZ r.2.1),ay r.2.2]):=fo (λN=>jn N h) (λN=>(SV.B9 ⟨(SV.dL (zI _ _)),(SV.dL (zI _ _)),au,aq⟩))
theorem yp{x0:Zr}{x1:Zr}(N:Nat){r:Zr}(h:gY x0 x1=some r):dS ah 94 N [.agg (eZ x0),.agg (eZ x1)] (.agg ((fZ N) r)):=by
 obtain⟨bQ,bM⟩:=x0;obtain⟨di,cZ⟩:=x1;refine bF Try.func94 Y (af Y) (λgw M vs hN hvs=>?_);unfold gY at h;refine sr<|bx Y<|bx Y<|al (cs:=[az false,nw N ax]) (by exact⟨au,bt,aq⟩) Y<|dn<|qq<|bf mixed<|fa Y Y<|lV Y Y Y<|bE h λig lJ h=>cl (bN lJ) ⟨Y,aq⟩<|fa Y Y<|lV Y Y Y<|bE h λjl nN h=>cl (bN nN) ⟨Y,aq⟩<|ag Y<|ag Y ?_;refine RT.done ⟨by kernel_rfl,?_⟩;refine aV.n<|qq<|bE h λBp Fs jJ=>?_;refine bW (λ(mQ:(List Nat)×(List Nat))=>AS.dj 57 [(4,.ptr 4 0),(5,.sv (slc 1 (List.map aY mQ.1))),(6,.sv (slc 1 (List.map aY mQ.2)))] [(4,⟨24,[aj false,.sv (nw N ax)]⟩)] []) (λmQ=>mQ=Bp) ?_ (λmQ Ft=>?_);refine bj ?_;refine bX Fs (λtR=>AS.dj 57 [(4,.ptr 4 0),(5,.sv (slc 1 (List.map aY tR.1))),(6,.sv (slc 1 (List.map aY tR.2)))] [(4,⟨24,[aj false,.sv (nw N ax)]⟩)] []) (wR []) (λtR y12 G12 h Fu Dy=>?_);obtain⟨sY,yj⟩:=tR
 try dsimp only
 refine qq<|qq ?_;refine bD h (λj16=>AS.dj 57 [(4,.ptr 4 0),(5,.sv (slc 1 (List.map aY sY))),(6,.sv (slc 1 (List.map aY yj))),(29,aj j16)] [(4,⟨24,[aj false,.sv (nw N ax)]⟩)] []) (λh=>?_) (λBw h=>?_);refine aX<|mv Y<|lE h λgi kG h=>ln Y kG<|lE h λmu pU h=>gt _ Y Y pU<|mv Y<|bE h λFg yq h=>?_;cases mu;obtain rfl:=O (F yq);exact ww<|ww<|ww<|ww<|wu<|wu<|wu<|ww<|pF Y<|dn<|⟨false,h,wR []⟩;refine gm Y<|lE (V yq) λjH sZ yq=>gn Y sZ<|lE yq λiW oM yq=>gg _ Y Y oM<|gm Y<|bE yq λFf oQ yq=>?_;cases iW;refine gm Y<|lE (F oQ) λiM o7 oQ=>gn Y o7<|lE oQ λmw su oQ=>gg _ Y Y su ?_;obtain rfl:=O oQ;refine gF Y ?_;obtain rfl:=O yq;exact pT Y<|dn<|⟨mw,h,wR []⟩;obtain rfl:=O (V oQ);refine ww<|ww<|ww<|gT Y ?_;obtain rfl:=O yq;exact pT Y<|dn<|⟨true,h,wR []⟩
 try dsimp only
 refine aV.n ?_;cases Bw;refine cF<|b9<|aV.x<|aV.x<|bB.x<|aV.n ?_;obtain rfl:=O (F h);exact⟨(sY,yj),Dy _ Y,wR []⟩;refine cT<|bz<|aV.n<|bj<|sr<|mv Y<|mv Y ?_;obtain⟨⟨WU,Ph⟩,vO,h⟩:=bS (V h);refine RT.bJ .none (kp N vO) hN Y ⟨Y,Y,aq⟩ T<|mv Y<|ex Y Y<|ex Y Y<|ag Y<|ag Y<|dn<|aX<|mv Y<|mv Y<|bE h λrq BB h=>RT.bJ .none (kH N BB) hN Y ⟨Y,aq⟩ T<|ag Y<|ag Y<|RT.done<|bB.n ?_;obtain rfl:=O h;exact aV.n ⟨(yj,rq),Fu _ Y,eR id Y Y Y Y Y ⟨.ptr,.sv au,.sv eH,aq⟩ ⟨⟨_,Y,⟨.sv au,.sv au,aq⟩⟩,aq⟩ trivial (λ_ _=>Y)⟩;subst Ft;obtain⟨Fh,Fi⟩:=mQ
 try dsimp only
 refine aV.n<|qq<|sr<|mv Y<|lE jJ λnD sq jJ=>ln Y sq<|lE jJ λv5 Dv jJ=>eq _ Y Y (pJ (p:=nD) (q:=0) Dv)<|dn ?_;cases v5;refine fs<|sr<|mv Y<|bE (F jJ) λuP h46 jJ=>cl (fy h46) ⟨Y,aq⟩<|mv Y<|bE jJ λv8 h48 jJ=>cl (fy h48) ⟨Y,aq⟩<|ag Y<|ag Y<|dn<|qq<|bE jJ λPx Mb DB=>?_;refine bW (λ(xd:Nat)=>AS.dj 57 [(4,.ptr 4 0),(9,.sv (.v (.int .u64 ((xd:Nat):Int))))] [(4,⟨24,[aj false,.sv (nw N ax)]⟩)] []) (λxd=>xd=Px) ?_ (λxd Mc=>?_);refine bj ?_;refine bX Mb (λJs=>AS.dj 57 [(4,.ptr 4 0),(9,.sv (.v (.int .u64 ((Js.1:Nat):Int)))),(10,.sv (.v (.int .u64 ((Js.2:Nat):Int))))] [(4,⟨24,[aj false,.sv (nw N ax)]⟩)] []) (wR []) (λJs y24 G24 h Md HT=>?_);obtain⟨Cu,rA⟩:=Js
 try dsimp only
 refine qq<|sr<|mv Y<|lE h λtO Dx h=>gt _ Y Y (NN (p:=0) (q:=rA) Dx)<|dn ?_;cases tO;refine cF<|b9<|aV.x<|aV.x<|bB.x<|aV.n ?_;obtain rfl:=O (F h);exact⟨Cu,HT _ Y,wR []⟩;refine cT<|bz<|aV.n<|bj<|bf mixed<|mv Y<|mv Y<|mv Y<|bE (V h) λGX NW h=>RT.rem .none _ Y Y T (T1 NW) (HC NW)<|ag Y<|ag Y ?_;refine RT.done ⟨by kernel_rfl,?_⟩;refine bB.n ?_;obtain rfl:=O h;exact aV.n ⟨(rA,GX),Md _ Y,wR []⟩;subst Mc
 try dsimp only
 refine aV.n<|sr<|mv Y ?_;obtain⟨⟨Jt,Ju⟩,HS,DB⟩:=bS DB;refine RT.bJ .none (fY N HS) hN Y ⟨Y,Y,aq⟩ T<|so Y Y Y<|dn<|bg ?_;obtain rfl:=O DB;exact RZ (.agg Y Y (.k2 Y Y) Y (.nil));refine cT<|sr<|mv Y<|bE (V jJ) λv7 D3 jJ=>RT.bJ .none (jm N D3) hN Y ⟨Y,aq⟩ T ?_;obtain⟨⟨Cs,Ct⟩,Fv,jJ⟩:=bS jJ;refine RT.bJ .none (dG N Fv) hN Y ⟨Y,Y,aq⟩ T<|so Y Y Y<|dn<|bg<|aV.r ?_;obtain rfl:=O jJ;exact RZ (.agg Y Y (.k2 Y Y) Y (.nil))
end
section
open Go.Fw
noncomputable def nQ(x0:Zr)(x1:Zr)(x2:Zr)(x3:Zr):Option (Zr×Zr):=match x0 with|⟨bQ,bM⟩=>match x1 with|⟨di,cZ⟩=>match x2 with|⟨yt,yu⟩=>match x3 with|⟨DC,DD⟩=>(cV ⟨bQ,bM⟩ ⟨DC,DD⟩).bind λ⟨kQ,kR⟩=>(cV ⟨yt,yu⟩ ⟨di,cZ⟩).bind λ⟨kq,ku⟩=>(dg ⟨kQ,kR⟩ ⟨kq,ku⟩).bind λ⟨n6,n7⟩=>(cV ⟨di,cZ⟩ ⟨DC,DD⟩).bind λ⟨mS,qe⟩=>some (⟨n6,n7⟩,⟨mS,qe⟩)
noncomputable def eM(x0:Zr)(x1:Zr)(x2:Zr)(x3:Zr):Option (Zr×Zr):=match x0 with|⟨bQ,bM⟩=>match x1 with|⟨di,cZ⟩=>match x2 with|⟨yt,yu⟩=>match x3 with|⟨DC,DD⟩=>(cV ⟨bQ,bM⟩ ⟨DC,DD⟩).bind λ⟨kQ,kR⟩=>(cV ⟨yt,yu⟩ ⟨di,cZ⟩).bind λ⟨kq,ku⟩=>(fX ⟨kQ,kR⟩ ⟨kq,ku⟩).bind λ⟨n6,n7⟩=>(cV ⟨di,cZ⟩ ⟨DC,DD⟩).bind λ⟨mS,qe⟩=>some (⟨n6,n7⟩,⟨mS,qe⟩)
noncomputable def ct(x0:Qr):Option (Zr×Zr):=match x0 with|⟨⟨bQ,bM⟩,⟨gB,ic⟩⟩=>(cr ⟨gB,ic⟩).bind λx6=>(some (decide ((x6:Int)=0))).bind λx8=>(bif x8 then(bn 1).bind λ⟨kS,z6⟩=>some (⟨bQ,bM⟩,⟨kS,z6⟩)else(some (decide ((x6:Int)=(-1)))).bind λig=>(bif ig then(dU ⟨bQ,bM⟩).bind λ⟨n6,n7⟩=>(dU ⟨gB,ic⟩).bind λ⟨mS,qe⟩=>some (⟨n6,n7⟩,⟨mS,qe⟩)else some (⟨bQ,bM⟩,⟨gB,ic⟩)))
noncomputable def dV(x0:Zr)(x1:Zr):Option (Qr):=match x0 with|⟨bQ,bM⟩=>match x1 with|⟨di,cZ⟩=>(cr ⟨di,cZ⟩).bind λx9=>(some (decide ((x9:Int)<0))).bind λfN=>cY (λ(j2:Bool×(List Nat)×Bool×(List Nat))=>match j2 with|⟨BF,BG,BH,BI⟩=>(gY ⟨BH,BI⟩ ⟨BF,BG⟩).bind λ⟨kx,kz⟩=>(b8 ⟨BH,BI⟩ ⟨kx,kz⟩).bind λ⟨⟨uU,uV⟩,⟨Me,Mf⟩,X1⟩=>(b8 ⟨BF,BG⟩ ⟨kx,kz⟩).bind λ⟨⟨rE,rF⟩,⟨Mg,Mh⟩,X2⟩=>(cE ⟨rE,rF⟩).bind λ⟨Mi,Mj⟩=>cY (λ(Fy:Bool)=>cY (λ(j7:Bool×(List Nat))=>match j7 with|⟨BJ,BK⟩=>some ⟨⟨uU,uV⟩,⟨BJ,BK⟩⟩) λK7=>(bif Fy then K7 (false,[])else K7 (rE,rF))) λK5=>(bif Mj then(some (decide ((Mi:Int)=1))).bind λnD=>some nD else some false).bind λJv=>K5 Jv) λK2=>(bif fN then(dU ⟨bQ,bM⟩).bind λ⟨kQ,kR⟩=>(dU ⟨di,cZ⟩).bind λ⟨kT,kU⟩=>K2 (kT,kU,kQ,kR)else K2 (di,cZ,bQ,bM))
noncomputable def ez(x0:Qr):Option (Int×Int×Bool):=match x0 with|⟨⟨bQ,bM⟩,⟨gB,ic⟩⟩=>(cE ⟨bQ,bM⟩).bind λ⟨yw,HU⟩=>(cE ⟨gB,ic⟩).bind λ⟨wo,Py⟩=>cY (λ(BL:Bool)=>(bif BL then some (0,0,false)else(some (decide ((wo:Int)=0))).bind λv7=>cY (λ(NX:Int×Int)=>match NX with|⟨Jw,Jx⟩=>some (Jw,Jx,true)) λK24=>(bif v7 then K24 (yw,1)else(some (decide ((wo:Int)<0))).bind λuP=>cY (λ(NY:Int×Int)=>match NY with|⟨Fz,FA⟩=>K24 (Fz,FA)) λK26=>(bif uP then(some (IntKind.i64.wrap (0-yw))).bind λv8=>(some (IntKind.i64.wrap (0-wo))).bind λtO=>K26 (v8,tO)else K26 (yw,wo))))) λK21=>(some (!HU)).bind λiV=>(bif iV then some true else(some (!Py)).bind λiW=>some iW).bind λFB=>(bif FB then some true else(some (decide ((yw:Int)<=(-2147483648)))).bind λmw=>some mw).bind λMk=>(bif Mk then some true else(some (decide ((2147483648:Int)<=yw))).bind λnL=>some nL).bind λMl=>(bif Ml then some true else(some (decide ((wo:Int)<=(-2147483648)))).bind λpN=>some pN).bind λMm=>(bif Mm then some true else(some (decide ((2147483648:Int)<=wo))).bind λnZ=>some nZ).bind λMn=>K21 Mn
noncomputable def gj(x0:Int)(x1:Int):Option (Qr):=(cK (λ(s6:Int×Int)=>match s6 with|⟨sX,DE⟩=>(show Option ((Int×Int)⊕(Int))from(some (decide ((DE:Int)≠0))).bind λfN=>(bif fN then(Di sX DE).bind λjS=>some (.inl (DE,jS))else some (.inr sX)))) (x0,x1)).bind λyx=>(some (decide ((yx:Int)<0))).bind λjl=>cY (λ(DF:Int)=>(some (decide ((DF:Int)=x1))).bind λje=>(bif je then(pH x0 DF).bind λeG=>(bn eG).bind λ⟨wZ,w5⟩=>some ⟨⟨wZ,w5⟩,⟨false,[]⟩⟩else(pH x0 DF).bind λgJ=>(bn gJ).bind λ⟨w6,w7⟩=>(pH x1 DF).bind λqN=>(bn qN).bind λ⟨xg,sw⟩=>some ⟨⟨w6,w7⟩,⟨xg,sw⟩⟩)) λK8=>(bif jl then(some (IntKind.i64.wrap (0-yx))).bind λgi=>K8 gi else K8 yx)
noncomputable def kA(x0:Int):Option (Int):=(some (decide ((x0:Int)<0))).bind λx5=>(bif x5 then some (-1)else(some (decide ((0:Int)<x0))).bind λx8=>(bif x8 then some 1 else some 0))
noncomputable def iX(x0:Zr):Option (Zr):=match x0 with|⟨bQ,bM⟩=>(dg ⟨bQ,bM⟩ ⟨false,[]⟩).bind λ⟨HV,HW⟩=>some ⟨HV,HW⟩
noncomputable def FC(x1:Qr)(x2:Qr):Option (Qr):=match x1 with|⟨⟨di,cZ⟩,⟨td,tf⟩⟩=>match x2 with|⟨⟨yt,yu⟩,⟨HX,HY⟩⟩=>(ct ⟨⟨di,cZ⟩,⟨td,tf⟩⟩).bind λ⟨⟨lM,lN⟩,⟨mU,mW⟩⟩=>(ct ⟨⟨yt,yu⟩,⟨HX,HY⟩⟩).bind λ⟨⟨lO,lP⟩,⟨mX,mY⟩⟩=>(nQ ⟨lM,lN⟩ ⟨mU,mW⟩ ⟨lO,lP⟩ ⟨mX,mY⟩).bind λ⟨⟨uW,uX⟩,⟨uY,uZ⟩⟩=>(dV ⟨uW,uX⟩ ⟨uY,uZ⟩).bind λ⟨⟨ir,gA⟩,⟨qf,qg⟩⟩=>some ⟨⟨ir,gA⟩,⟨qf,qg⟩⟩
noncomputable def ga(x1:Qr)(x2:Qr):Option (Qr):=match x1 with|⟨⟨di,cZ⟩,⟨td,tf⟩⟩=>match x2 with|⟨⟨yt,yu⟩,⟨HX,HY⟩⟩=>(ct ⟨⟨di,cZ⟩,⟨td,tf⟩⟩).bind λ⟨⟨lM,lN⟩,⟨mU,mW⟩⟩=>(ct ⟨⟨yt,yu⟩,⟨HX,HY⟩⟩).bind λ⟨⟨lO,lP⟩,⟨mX,mY⟩⟩=>(eM ⟨lM,lN⟩ ⟨mU,mW⟩ ⟨lO,lP⟩ ⟨mX,mY⟩).bind λ⟨⟨uW,uX⟩,⟨uY,uZ⟩⟩=>(dV ⟨uW,uX⟩ ⟨uY,uZ⟩).bind λ⟨⟨ir,gA⟩,⟨qf,qg⟩⟩=>some ⟨⟨ir,gA⟩,⟨qf,qg⟩⟩
noncomputable def gP(x0:Int)(x1:Int):Option (Qr×Int):=(some (decide ((x1:Int)=0))).bind λx7=>(bif x7 then some (⟨⟨false,[]⟩,⟨false,[]⟩⟩,7)else(bn x0).bind λ⟨w9,xb⟩=>(bn x1).bind λ⟨kQ,kR⟩=>(dV ⟨w9,xb⟩ ⟨kQ,kR⟩).bind λ⟨⟨mN,sn⟩,⟨Jy,Jz⟩⟩=>some (⟨⟨mN,sn⟩,⟨Jy,Jz⟩⟩,0))
noncomputable def cS(x0:Zr):Option (Qr):=match x0 with|⟨bQ,bM⟩=>(iX ⟨bQ,bM⟩).bind λ⟨DG,DH⟩=>some ⟨⟨DG,DH⟩,⟨false,[]⟩⟩
noncomputable def iN(x0:Qr):Option (Qr):=match x0 with|⟨⟨bQ,bM⟩,⟨gB,ic⟩⟩=>(ez ⟨⟨bQ,bM⟩,⟨gB,ic⟩⟩).bind λ⟨x8a,x8b,x8c⟩=>(bif x8c then(gj x8a x8b).bind λ⟨⟨kq,ku⟩,⟨Pz,PA⟩⟩=>some ⟨⟨kq,ku⟩,⟨Pz,PA⟩⟩else(ct ⟨⟨bQ,bM⟩,⟨gB,ic⟩⟩).bind λ⟨⟨Mo,Mp⟩,⟨Mq,Mr⟩⟩=>(dV ⟨Mo,Mp⟩ ⟨Mq,Mr⟩).bind λ⟨⟨xh,sx⟩,⟨xj,u0⟩⟩=>some ⟨⟨xh,sx⟩,⟨xj,u0⟩⟩)
noncomputable def iO(x0:Qr)(x1:Qr):Option (Qr):=match x0 with|⟨⟨bQ,bM⟩,⟨gB,ic⟩⟩=>match x1 with|⟨⟨di,cZ⟩,⟨td,tf⟩⟩=>(ez ⟨⟨bQ,bM⟩,⟨gB,ic⟩⟩).bind λ⟨Ms,HZ,Mt⟩=>(ez ⟨⟨di,cZ⟩,⟨td,tf⟩⟩).bind λ⟨Mu,H6,Mw⟩=>cY (λ(FD:Bool)=>(bif FD then(some (IntKind.i64.wrap (Ms*H6))).bind λgJ=>(some (IntKind.i64.wrap (Mu*HZ))).bind λkn=>(some (IntKind.i64.wrap (gJ-kn))).bind λqN=>(some (IntKind.i64.wrap (HZ*H6))).bind λwe=>(gj qN we).bind λ⟨⟨oc,oe⟩,⟨z8,Cv⟩⟩=>some ⟨⟨oc,oe⟩,⟨z8,Cv⟩⟩else(ga ⟨⟨bQ,bM⟩,⟨gB,ic⟩⟩ ⟨⟨di,cZ⟩,⟨td,tf⟩⟩).bind λ⟨⟨mc,me⟩,⟨z9,Aa⟩⟩=>some ⟨⟨mc,me⟩,⟨z9,Aa⟩⟩)) λK3=>(bif Mt then some Mw else some false).bind λJA=>K3 JA
noncomputable def va(x0:Qr):Option (Qr):=match x0 with|⟨⟨bQ,bM⟩,⟨gB,ic⟩⟩=>(iN ⟨⟨bQ,bM⟩,⟨gB,ic⟩⟩).bind λ⟨⟨HV,HW⟩,⟨X3,X4⟩⟩=>(dU ⟨HV,HW⟩).bind λ⟨X5,X6⟩=>some ⟨⟨X5,X6⟩,⟨X3,X4⟩⟩
noncomputable def iP(x0:Qr)(x1:Qr):Option (Int):=match x0 with|⟨⟨bQ,bM⟩,⟨gB,ic⟩⟩=>match x1 with|⟨⟨di,cZ⟩,⟨td,tf⟩⟩=>(ct ⟨⟨bQ,bM⟩,⟨gB,ic⟩⟩).bind λ⟨⟨lM,lN⟩,⟨mU,mW⟩⟩=>(ct ⟨⟨di,cZ⟩,⟨td,tf⟩⟩).bind λ⟨⟨lO,lP⟩,⟨mX,mY⟩⟩=>(cr ⟨lM,lN⟩).bind λjH=>(cr ⟨lO,lP⟩).bind λeG=>cY (λ(FE:Bool)=>(bif FE then(some (IntKind.i64.wrap (jH-eG))).bind λjW=>(kA jW).bind λpN=>some pN else(cV ⟨lM,lN⟩ ⟨mX,mY⟩).bind λ⟨JB,JC⟩=>(cV ⟨lO,lP⟩ ⟨mU,mW⟩).bind λ⟨Ab,Ad⟩=>(jg ⟨JB,JC⟩ ⟨Ab,Ad⟩).bind λqL=>some qL)) λK3=>(some (decide ((jH:Int)≠eG))).bind λmw=>(bif mw then some true else(some (decide ((jH:Int)=0))).bind λoH=>some oH).bind λJD=>K3 JD
noncomputable def iw(x0:Qr):Option (Zr):=match x0 with|⟨⟨bQ,bM⟩,⟨gB,ic⟩⟩=>(ct ⟨⟨bQ,bM⟩,⟨gB,ic⟩⟩).bind λ⟨⟨JE,JF⟩,⟨JG,JH⟩⟩=>(b8 ⟨JE,JF⟩ ⟨JG,JH⟩).bind λ⟨⟨vb,vc⟩,⟨Mx,My⟩,X7⟩=>some ⟨vb,vc⟩
end
section
open Go.Fw Go.Fw.Z Go.RowKit
abbrev FF:List (Value×Value):=[(.int .u8 43,.agg #[.func (.func 105) #[] #[]]),(.int .u8 45,.agg #[.func (.func 106) #[] #[]]),(.int .u8 42,.agg #[.func (.func 107) #[] #[]]),(.int .u8 47,.agg #[.func (.func 108) #[] #[]])]
theorem oR:Pure ah 88 [] (ES FF):=by
 refine bH Try.func88 Y (af Y) (λgw M vs hvs=>?_);refine cm<|aX<|RT.A9 .none Y T<|RT.done<|aV.n<|cm<|HI (af Y) Y Y Y (λS' h0=>?_);exact bg (R1 h0)
theorem mZ{x0:Zr}{x1:Zr}{x2:Zr}{x3:Zr}(N:Nat){r:Zr×Zr}(h:eM x0 x1 x2 x3=some r):dS ah 106 N [.agg (eZ x0),.agg (eZ x1),.agg (eZ x2),.agg (eZ x3)] (.sN [.agg ((fZ N) r.1),.agg ((fZ N) r.2)]):=by
 obtain⟨bQ,bM⟩:=x0;obtain⟨di,cZ⟩:=x1;obtain⟨yt,yu⟩:=x2;obtain⟨DC,DD⟩:=x3;refine bF Try.func106 Y (af Y) (λgw M vs hN hvs=>?_);unfold eM at h;refine sr<|bx Y<|bx Y<|bx Y<|bx Y<|al (cs:=[az false,nw N ax]) (by exact⟨au,bt,aq⟩) Y<|al (cs:=[az false,nw N ax]) (by exact⟨au,bt,aq⟩) Y<|dn<|qq<|bf mixed<|ld Y Y (.k2 Y Y)<|ld Y Y (.k2 Y Y) ?_;obtain⟨⟨kQ,kR⟩,kP,h⟩:=bS h;refine RT.bJ .none (jz N kP) hN Y ⟨Y,Y,aq⟩ T<|ld Y Y (.k2 Y Y)<|ld Y Y (.k2 Y Y) ?_;obtain⟨⟨kq,ku⟩,tc,h⟩:=bS h;refine RT.bJ .none (jz N tc) hN Y ⟨Y,Y,aq⟩ T ?_;obtain⟨⟨n6,n7⟩,nN,h⟩:=bS h;refine RT.bJ .none ((qa N nN).w (args':=[_,_]) ⟨(SV.dL (show cO [az kQ,nw N (slc 1 (List.map aY kR))] _ from⟨au,eH,aq⟩)),(SV.dL (show cO [az kq,nw N (slc 1 (List.map aY ku))] _ from⟨au,eH,aq⟩)),aq⟩) hN Y ⟨Y,Y,aq⟩ T<|ld Y Y (.k2 Y Y)<|ld Y Y (.k2 Y Y) ?_;obtain⟨⟨mS,qe⟩,pU,h⟩:=bS h;refine RT.bJ .none (jz N pU) hN Y ⟨Y,Y,aq⟩ T<|so Y Y Y<|so Y Y Y ?_;refine RT.done ⟨by kernel_rfl,?_⟩;refine aV.n<|bg ?_;obtain rfl:=O h;exact RZ (.agg Y Y (.k2 Y Y) Y (.agg Y Y (.k2 Y Y) Y (.nil)))
theorem gC{x0:Qr}{r:Zr×Zr}(h:ct x0=some r):Pure ah 65 [.agg (eQ x0)] (.sN [.agg (eZ r.1),.agg (eZ r.2)]):=by
 obtain⟨⟨bQ,bM⟩,⟨gB,ic⟩⟩:=x0;refine bH Try.func65 Y (af Y) (λgw M vs hvs=>?_);unfold ct at h;refine sr<|bx Y<|al (cs:=[az false,ax]) (by exact⟨au,aB,aq⟩) Y<|al (cs:=[az false,ax]) (by exact⟨au,aB,aq⟩) Y<|dn<|qq<|sr<|fa Y Y<|ld Y Y (.k2 Y Y)<|bE h λx6 h6 h=>cl (eI h6) ⟨Y,aq⟩<|dn<|bj<|sr<|lE h λx8 h8 h=>eq _ Y Y (pJ (p:=x6) (q:=0) h8) ?_;refine ag Y<|dn ?_;cases x8;refine cF<|sr<|lE (F h) λig lJ h=>eq _ Y Y (pJ (p:=x6) (q:=(-1)) lJ)<|ag Y<|dn ?_;cases ig;refine cF<|bz<|bB.n<|aV.n<|qq<|bf mixed<|fa Y Y<|ld Y Y (.k2 Y Y)<|fa Y Y<|ld Y Y (.k2 Y Y)<|so Y Y Y<|so Y Y Y ?_;refine RT.done ⟨by kernel_rfl,?_⟩;refine aV.n<|bg ?_;obtain rfl:=O (F h);exact RZ (.agg Y Y (.k2 Y Y) Y (.agg Y Y (.k2 Y Y) Y (.nil)));refine cT<|qq<|bf mixed<|fa Y Y<|ld Y Y (.k2 Y Y) ?_;obtain⟨⟨n6,n7⟩,nN,h⟩:=bS (V h);refine cl (qc nN) ⟨Y,aq⟩<|fa Y Y<|ld Y Y (.k2 Y Y) ?_;obtain⟨⟨mS,qe⟩,pU,h⟩:=bS h;refine cl (qc pU) ⟨Y,aq⟩<|so Y Y Y<|so Y Y Y ?_;refine RT.done ⟨by kernel_rfl,?_⟩;refine aV.n<|bg<|bB.r<|aV.r ?_;obtain rfl:=O h;exact RZ (.agg Y Y (.k2 Y Y) Y (.agg Y Y (.k2 Y Y) Y (.nil)));refine cT<|qq<|bf mixed<|fa Y Y<|ld Y Y (.k2 Y Y) ?_;obtain⟨⟨kS,z6⟩,oL,h⟩:=bS (V h);refine cl (fz oL) ⟨Y,aq⟩<|so Y Y Y<|so Y Y Y ?_
 refine RT.done ⟨by kernel_rfl,?_⟩;refine aV.n<|bg<|bB.r<|aV.r ?_;obtain rfl:=O h;exact RZ (.agg Y Y (.k2 Y Y) Y (.agg Y Y (.k2 Y Y) Y (.nil)))
theorem m7{x0:Zr}{x1:Zr}(N:Nat){r:Qr}(h:dV x0 x1=some r):dS ah 73 N [.agg (eZ x0),.agg (eZ x1)] (.agg ((fQ N) r)):=by
 obtain⟨bQ,bM⟩:=x0;obtain⟨di,cZ⟩:=x1;refine bF Try.func73 Y (af Y) (λgw M vs hN hvs=>?_);unfold dV at h;refine sr<|bx Y<|bx Y<|al (cs:=[az false,nw N ax,az false,nw N ax]) (by exact⟨au,bt,au,bt,aq⟩) Y<|dn<|qq<|sr<|ld Y Y (.k2 Y Y)<|bE h λx9 h9 h=>cl (eI h9) ⟨Y,aq⟩<|lE h λfN iE h=>ls _ Y Y iE<|dn ?_;refine bD h (λj2=>AS.dj 46 [(2,.ptr 2 0),(3,.ptr 3 0),(4,.ptr 4 0)] [(4,⟨26,[aj false,.sv (nw N ax),aj false,.sv (nw N ax)]⟩),(3,⟨24,[aj j2.1,.sv (slc 1 (List.map aY j2.2.1))]⟩),(2,⟨24,[aj j2.2.2.1,.sv (slc 1 (List.map aY j2.2.2.2))]⟩)] []) (λh=>?_) (λj2 h=>?_);cases fN;exact fs<|⟨(di,cZ,bQ,bM),(F h),wR []⟩;refine cT<|bf mixed<|ld Y Y (.k2 Y Y) ?_;obtain⟨⟨kQ,kR⟩,kP,h⟩:=bS (V h);refine RT.bJ .none (lK N kP) hN Y ⟨Y,aq⟩ T<|ld Y Y (.k2 Y Y) ?_;obtain⟨⟨kT,kU⟩,n9,h⟩:=bS h;refine RT.bJ .none (lK N n9) hN Y ⟨Y,aq⟩ T<|so Y Y Y<|so Y Y Y ?_;refine RT.done ⟨by kernel_rfl,?_⟩;exact aV.n<|⟨(kT,kU,kQ,kR),h,eR id Y Y Y Y Y ⟨.ptr,.ptr,.ptr,aq⟩ ⟨⟨_,Y,⟨.sv au,.sv au,.sv au,.sv au,aq⟩⟩,⟨_,Y,⟨.sv au,.sv eH,aq⟩⟩,⟨_,Y,⟨.sv au,.sv eH,aq⟩⟩,aq⟩ trivial (λ_ _=>Y)⟩;obtain⟨BF,BG,BH,BI⟩:=j2
 try dsimp only
 refine aV.n<|sr<|ld Y Y (.k2 Y Y)<|ld Y Y (.k2 Y Y) ?_;obtain⟨⟨kx,kz⟩,kO,h⟩:=bS h;refine RT.bJ .none (yp N kO) hN Y ⟨Y,Y,aq⟩ T<|al (cs:=[az false,nw N ax]) (by exact⟨au,bt,aq⟩) Y<|so Y Y Y<|dn<|sr<|ld Y Y (.k2 Y Y)<|ld Y Y (.k2 Y Y) ?_;obtain⟨⟨⟨uU,uV⟩,⟨Me,Mf⟩,X1⟩,pV,h⟩:=bS h;refine RT.bJ .none ((jn N pV).w (args':=[_,_]) ⟨au,(SV.dL (show cO [az kx,nw N (slc 1 (List.map aY kz))] _ from⟨au,eH,aq⟩)),aq⟩) hN Y ⟨Y,Y,aq⟩ T<|mv Y<|ex Y Y<|ex Y Y<|ex Y Y<|so Y Y Y<|dn<|sr<|ld Y Y (.k2 Y Y)<|ld Y Y (.k2 Y Y) ?_;obtain⟨⟨⟨rE,rF⟩,⟨Mg,Mh⟩,X2⟩,uT,h⟩:=bS h;refine RT.bJ .none ((jn N uT).w (args':=[_,_]) ⟨au,(SV.dL (show cO [az kx,nw N (slc 1 (List.map aY kz))] _ from⟨au,eH,aq⟩)),aq⟩) hN Y ⟨Y,Y,aq⟩ T<|mv Y<|ex Y Y<|ex Y Y<|ex Y Y<|so Y Y Y<|dn<|qq<|sr<|ld Y Y (.k2 Y Y) ?_;obtain⟨⟨Mi,Mj⟩,oN,h⟩:=bS h;refine cl ((dZ oN).w (args':=[_]) ⟨(SV.dL (show cO [az rE,nw N (slc 1 (List.map aY rF))] _ from⟨au,eH,aq⟩)),aq⟩) ⟨Y,aq⟩<|mv Y<|ex Y Y<|ex Y Y<|ag Y<|ag Y<|dn<|qq ?_
 refine bD h (λj5=>AS.dj 46 [(2,.ptr 2 0),(3,.ptr 3 0),(4,.ptr 4 0),(41,aj j5)] [(4,⟨26,[aj false,.sv (nw N ax),aj false,.sv (nw N ax)]⟩),(3,⟨24,[aj rE,.sv (nw N (slc 1 (List.map aY rF)))]⟩),(2,⟨24,[aj uU,.sv (nw N (slc 1 (List.map aY uV)))]⟩)] []) (λh=>?_) (λFy h=>?_);refine aX<|mv Y<|mv Y<|bE h λJv H7 h=>?_;cases Mj;obtain rfl:=O (F H7);exact ww<|ww<|pF Y<|dn<|⟨false,h,wR []⟩;refine gm Y<|lE (V H7) λnD sq H7=>Ck _ Y Y (pJ (p:=Mi) (q:=1) sq) ?_;obtain rfl:=O H7;exact pT Y<|dn<|⟨nD,h,wR []⟩
 try dsimp only
 refine aV.n ?_;refine bD h (λj7=>AS.dj 46 [(2,.ptr 2 0),(3,.ptr 3 0),(4,.ptr 4 0)] [(4,⟨26,[aj false,.sv (nw N ax),aj false,.sv (nw N ax)]⟩),(3,⟨24,[aj j7.1,.sv (nw N (slc 1 (List.map aY j7.2)))]⟩),(2,⟨24,[aj uU,.sv (nw N (slc 1 (List.map aY uV)))]⟩)] []) (λh=>?_) (λj7 h=>?_);cases Fy;exact fs<|⟨(rE,rF),(F h),wR []⟩;exact cT<|aX<|bI (cs:=[_,_]) (cs':=[az false,nw N ax]) (.nil) ⟨au,bt,aq⟩<|so Y Y Y<|dn<|⟨(false,[]),(V h),wR []⟩;obtain⟨BJ,BK⟩:=j7
 try dsimp only
 refine aV.n<|sr<|ld Y Y (.k2 Y Y)<|ld Y Y (.k2 Y Y)<|bI (cs:=[_,_,_,_]) (cs':=[az uU,nw N (slc 1 (List.map aY uV)),az BJ,nw N (slc 1 (List.map aY BK))]) (.agg Y (.agg Y (.nil))) ⟨au,au,au,au,aq⟩<|so Y Y Y<|dn<|bg ?_;obtain rfl:=O h;exact RZ (.agg Y Y (.k4 Y Y Y Y) Y (.nil))
theorem og{x0:Qr}{r:Int×Int×Bool}(h:ez x0=some r):Pure ah 61 [.agg (eQ x0)] (.sN [ay r.1,ay r.2.1,az r.2.2]):=by
 obtain⟨⟨bQ,bM⟩,⟨gB,ic⟩⟩:=x0;refine bH Try.func61 Y (af Y) (λgw M vs hvs=>?_);unfold ez at h;refine sr<|bx Y<|ag Y<|ag Y<|ag Y<|dn<|sr<|fa Y Y<|ld Y Y (.k2 Y Y) ?_;obtain⟨⟨yw,HU⟩,iE,h⟩:=bS h;refine cl (dZ iE) ⟨Y,aq⟩<|mv Y<|ex Y Y<|ex Y Y<|ag Y<|ag Y<|dn<|sr<|fa Y Y<|ld Y Y (.k2 Y Y) ?_;obtain⟨⟨wo,Py⟩,nN,h⟩:=bS h;refine cl (dZ nN) ⟨Y,aq⟩<|mv Y<|ex Y Y<|ex Y Y<|ag Y<|ag Y<|dn<|qq<|qq ?_;refine bD h (λj21=>AS.dj 53 [(2,ai yw),(3,ai wo),(40,aj j21)] [] []) (λh=>?_) (λBL h=>?_);refine aX<|mv Y<|lE h λiV nM h=>nt Y _ nM<|mv Y<|bE h λFB rG h=>?_;cases iV;refine gm Y<|lE (F rG) λiW oM rG=>T5 Y _ oM ?_;obtain rfl:=O rG;refine pF Y<|mv Y<|bE h λX8 rH h=>?_;cases iW;refine gm Y<|lE (F rH) λmw su rH=>RT.leq (.some Y Y) _ Y Y T su ?_;obtain rfl:=O rH;refine pF Y<|mv Y<|bE h λX9 DI h=>?_;cases mw;refine gm Y<|lE (F DI) λnL xe DI=>RT.geq (.some Y Y) _ Y Y T xe ?_;obtain rfl:=O DI;refine pF Y<|mv Y<|bE h λYa H8 h=>?_;cases nL;refine gm Y<|lE (F H8) λpN BC H8=>RT.leq (.some Y Y) _ Y Y T BC ?_;obtain rfl:=O H8;refine pF Y<|mv Y<|bE h λYb yy h=>?_;cases pN;refine gm Y<|lE (F yy) λnZ BE yy=>RT.geq (.some Y Y) _ Y Y T BE ?_;obtain rfl:=O yy;exact pF Y<|dn<|⟨nZ,h,wR []⟩;obtain rfl:=O (V yy)
 exact ww<|ww<|pT Y<|dn<|⟨true,h,wR []⟩;obtain rfl:=O (V H8);refine ww<|ww<|pT Y<|mv Y<|bE h λYc Ae h=>?_;obtain rfl:=O (V Ae);exact ww<|ww<|pT Y<|dn<|⟨true,h,wR []⟩;obtain rfl:=O (V DI);refine ww<|ww<|pT Y<|mv Y<|bE h λYd Mz h=>?_;obtain rfl:=O (V Mz);refine ww<|ww<|pT Y<|mv Y<|bE h λYe Yf h=>?_;obtain rfl:=O (V Yf);exact ww<|ww<|pT Y<|dn<|⟨true,h,wR []⟩;obtain rfl:=O (V rH);refine ww<|ww<|pT Y<|mv Y<|bE h λYg wv h=>?_;obtain rfl:=O (V wv);refine ww<|ww<|pT Y<|mv Y<|bE h λYh wz h=>?_;obtain rfl:=O (V wz);refine ww<|ww<|pT Y<|mv Y<|bE h λYi tg h=>?_;obtain rfl:=O (V tg);exact ww<|ww<|pT Y<|dn<|⟨true,h,wR []⟩;obtain rfl:=O (V rG);refine ww<|ww<|pT Y<|mv Y<|bE h λYj MA h=>?_;obtain rfl:=O (V MA);refine ww<|ww<|pT Y<|mv Y<|bE h λYk MB h=>?_;obtain rfl:=O (V MB);refine ww<|ww<|pT Y<|mv Y<|bE h λYl MC h=>?_;obtain rfl:=O (V MC);refine ww<|ww<|pT Y<|mv Y<|bE h λYm Yn h=>?_;obtain rfl:=O (V Yn);exact ww<|ww<|pT Y<|dn<|⟨true,h,wR []⟩
 try dsimp only
 refine aV.n ?_;cases BL;refine fs<|qq<|bj<|sr<|mv Y<|lE (F h) λv7 D3 h=>eq _ Y Y (pJ (p:=wo) (q:=0) D3)<|ag Y<|dn ?_;refine bD h (λNX=>AS.dj 53 [(2,ai NX.1),(3,ai NX.2)] [] []) (λh=>?_) (λNX h=>?_);cases v7;refine cF<|sr<|mv Y<|lE (F h) λuP h46 h=>ls _ Y Y h46<|ag Y<|dn ?_;refine bD h (λNY=>AS.dj 53 [(2,ai NY.1),(3,ai NY.2)] [] []) (λh=>?_) (λNY h=>?_);cases uP;exact fs<|⟨(yw,wo),(F h),wR []⟩;exact cT<|aX<|mv Y<|lE (V h) λv8 h48 h=>RT.neg .none _ Y T h48<|mv Y<|lE h λtO Dx h=>RT.neg .none _ Y T Dx<|ag Y<|ag Y<|dn<|⟨(v8,tO),h,wR []⟩;obtain⟨Fz,FA⟩:=NY
 try dsimp only
 exact aV.n<|⟨(Fz,FA),h,wR []⟩;exact cT<|aX<|ag Y<|dn<|⟨(yw,1),(V h),wR []⟩;obtain⟨Jw,Jx⟩:=NX
 try dsimp only
 refine bB.n<|aV.n<|sr<|mv Y<|mv Y<|ag Y<|ag Y<|ag Y<|dn<|bg ?_;obtain rfl:=O h;exact RZ (.tmp Y (.tmp Y (.tmp Y (.nil))));refine cT<|sr<|ag Y<|ag Y<|ag Y<|dn<|bg<|aV.r ?_;obtain rfl:=O (V h);exact RZ (.tmp Y (.tmp Y (.tmp Y (.nil))))
theorem wA{x0:Int}{x1:Int}(N:Nat){r:Qr}(h:gj x0 x1=some r):dS ah 62 N [ay x0,ay x1] (.agg ((fQ N) r)):=by
 refine bF Try.func62 Y (af Y) (λgw M vs hN hvs=>?_);unfold gj at h;refine sr<|al (cs:=[az false,nw N ax,az false,nw N ax]) (by exact⟨au,bt,au,bt,aq⟩) Y<|dn<|sr<|mv Y<|mv Y<|ag Y<|ag Y<|dn<|qq<|bE h λe6 LY nO=>?_;refine bW (λ(yx:Int)=>AS.dj 36 [(0,ai x0),(1,ai x1),(4,.ptr 4 0),(5,ai yx)] [(4,⟨26,[aj false,.sv (nw N ax),aj false,.sv (nw N ax)]⟩)] []) (λyx=>yx=e6) ?_ (λyx LZ=>?_);refine bj ?_;refine bX LY (λs6=>AS.dj 36 [(0,ai x0),(1,ai x1),(4,.ptr 4 0),(5,ai s6.1),(6,ai s6.2)] [(4,⟨26,[aj false,.sv (nw N ax),aj false,.sv (nw N ax)]⟩)] []) (wR []) (λs6 y6 G6 h L0 HR=>?_);obtain⟨sX,DE⟩:=s6
 try dsimp only
 refine qq<|sr<|mv Y<|lE h λfN iE h=>ne _ Y Y (D1 (p:=DE) (q:=0) iE)<|dn ?_;cases fN;refine cF<|b9<|aV.x<|aV.x<|bB.x<|aV.n ?_;obtain rfl:=O (F h);exact⟨sX,HR _ Y,wR []⟩;refine cT<|bz<|aV.n<|bj<|bf mixed<|mv Y<|mv Y<|mv Y<|bE (V h) λjS n9 h=>RT.rem .none _ Y Y T (Wg n9) (Wh n9)<|ag Y<|ag Y ?_;refine RT.done ⟨by kernel_rfl,?_⟩;refine bB.n ?_;obtain rfl:=O h;exact aV.n ⟨(DE,jS),L0 _ Y,wR []⟩;subst LZ
 try dsimp only
 refine aV.n<|qq<|sr<|mv Y<|lE nO λjl nN nO=>ls _ Y Y nN<|dn ?_;refine bD nO (λj8=>AS.dj 36 [(0,ai x0),(1,ai x1),(4,.ptr 4 0),(5,ai j8)] [(4,⟨26,[aj false,.sv (nw N ax),aj false,.sv (nw N ax)]⟩)] []) (λnO=>?_) (λDF nO=>?_);cases jl;exact fs<|⟨yx,(F nO),wR []⟩;exact cT<|aX<|mv Y<|lE (V nO) λgi kG nO=>RT.neg .none _ Y T kG<|ag Y<|dn<|⟨gi,nO,wR []⟩
 try dsimp only
 refine aV.n<|qq<|sr<|mv Y<|mv Y<|lE nO λje pV nO=>eq _ Y Y (pJ (p:=DF) (q:=x1) pV)<|dn ?_;cases je;refine fs<|qq<|bf mixed<|mv Y<|mv Y<|bE (F nO) λgJ lu nO=>RT.quo .none _ Y Y T (Wf lu) (Ln lu) ?_;obtain⟨⟨w6,w7⟩,ym,nO⟩:=bS nO;refine RT.bJ .none (cC N ym) hN Y ⟨Y,aq⟩ T<|mv Y<|mv Y<|bE nO λqN vO nO=>RT.quo .none _ Y Y T (Wf vO) (Ln vO) ?_;obtain⟨⟨xg,sw⟩,oN,nO⟩:=bS nO;refine RT.bJ .none (cC N oN) hN Y ⟨Y,aq⟩ T<|bI (cs:=[_,_,_,_]) (cs':=[az w6,nw N (slc 1 (List.map aY w7)),az xg,nw N (slc 1 (List.map aY sw))]) (.agg Y (.agg Y (.nil))) ⟨au,au,au,au,aq⟩<|so Y Y Y ?_;refine RT.done ⟨by kernel_rfl,?_⟩;refine aV.n<|bg ?_;obtain rfl:=O nO;exact RZ (.agg Y Y (.k4 Y Y Y Y) Y (.nil));refine cT<|sr<|mv Y<|mv Y<|bE (V nO) λeG mg nO=>RT.quo .none _ Y Y T (Wf mg) (Ln mg) ?_;obtain⟨⟨wZ,w5⟩,BA,nO⟩:=bS nO;refine RT.bJ .none (cC N BA) hN Y ⟨Y,aq⟩ T<|bI (cs:=[_,_,_,_]) (cs':=[az wZ,nw N (slc 1 (List.map aY w5)),az false,nw N ax]) (.agg Y (.nil)) ⟨au,au,au,bt,aq⟩<|so Y Y Y<|dn<|bg<|aV.r ?_;obtain rfl:=O nO;exact RZ (.agg Y Y (.k4 Y Y Y Y) Y (.nil))
theorem yz{x0:Int}{r:Int}(h:kA x0=some r):Pure ah 66 [ay x0] (ay r):=by
 refine bH Try.func66 Y (af Y) (λgw M vs hvs=>?_);unfold kA at h;refine sr<|ag Y<|dn<|qq<|bj<|sr<|mv Y<|lE h λx5 h5 h=>ls _ Y Y h5<|ag Y<|dn ?_;cases x5;refine cF<|sr<|mv Y<|lE (F h) λx8 h8 h=>gt _ Y Y h8<|ag Y<|dn ?_;cases x8;refine cF<|bz<|bB.n<|aV.n<|sr<|ag Y<|dn<|bg ?_;obtain rfl:=O (F h);exact R1 Y;refine cT<|sr<|ag Y<|dn<|bg<|bB.r<|aV.r ?_;obtain rfl:=O (V h);exact R1 Y;refine cT<|sr<|ag Y<|dn<|bg<|bB.r<|aV.r ?_;obtain rfl:=O (V h);exact R1 Y
theorem ve{x0:Zr}(N:Nat){r:Zr}(h:iX x0=some r):dS ah 64 N [.agg (eZ x0)] (.agg ((fZ N) r)):=by
 obtain⟨bQ,bM⟩:=x0;refine bF Try.func64 Y (af Y) (λgw M vs hN hvs=>?_);unfold iX at h;refine sr<|bx Y<|al (cs:=[az false,nw N ax]) (by exact⟨au,bt,aq⟩) Y<|dn<|sr<|ld Y Y (.k2 Y Y)<|bI (cs:=[_,_]) (cs':=[az false,nw N ax]) (.nil) ⟨au,bt,aq⟩ ?_;obtain⟨⟨HV,HW⟩,h5,h⟩:=bS h;refine RT.bJ .none ((pZ N h5).w (args':=[_,_]) ⟨au,(SV.dL (show cO [az false,nw N ax] _ from⟨au,eH,aq⟩)),aq⟩) hN Y ⟨Y,Y,aq⟩ T<|so Y Y Y<|dn<|bg ?_;obtain rfl:=O h;exact RZ (.agg Y Y (.k2 Y Y) Y (.nil))
theorem th{x1:Qr}{x2:Qr}(N:Nat){r:Qr}(h:ga x1 x2=some r):dS ah 63 N [.v (.int .u8 ((45:Nat):Int)),.agg (eQ x1),.agg (eQ x2)] (.agg ((fQ N) r)):=by
 obtain⟨⟨di,cZ⟩,⟨td,tf⟩⟩:=x1;obtain⟨⟨yt,yu⟩,⟨HX,HY⟩⟩:=x2;refine bF Try.func63 Y (af Y) (λgw M vs hN hvs=>?_);unfold ga at h;refine sr<|bx Y<|bx Y<|al (cs:=[az false,nw N ax,az false,nw N ax]) (by exact⟨au,bt,au,bt,aq⟩) Y<|dn<|sr<|ld Y Y (.k4 Y Y Y Y) ?_;obtain⟨⟨⟨lM,lN⟩,⟨mU,mW⟩⟩,lJ,h⟩:=bS h;refine cl (gC lJ) ⟨Y,aq⟩<|mv Y<|ex Y Y<|ex Y Y<|al (cs:=[az false,nw N ax]) (by exact⟨au,bt,aq⟩) Y<|al (cs:=[az false,nw N ax]) (by exact⟨au,bt,aq⟩) Y<|so Y Y Y<|so Y Y Y<|dn<|sr<|ld Y Y (.k4 Y Y Y Y) ?_;obtain⟨⟨⟨lO,lP⟩,⟨mX,mY⟩⟩,kG,h⟩:=bS h;refine cl (gC kG) ⟨Y,aq⟩<|mv Y<|ex Y Y<|ex Y Y<|al (cs:=[az false,nw N ax]) (by exact⟨au,bt,aq⟩) Y<|al (cs:=[az false,nw N ax]) (by exact⟨au,bt,aq⟩) Y<|so Y Y Y<|so Y Y Y<|dn<|qq<|bf mixed<|cl oR trivial<|mv Y ?_;refine RT.look .none [.func (.func 106) #[] #[]] Y Y Y T<|fl Y Y<|ld Y Y (.k2 Y Y)<|ld Y Y (.k2 Y Y)<|ld Y Y (.k2 Y Y)<|ld Y Y (.k2 Y Y) ?_;obtain⟨⟨⟨uW,uX⟩,⟨uY,uZ⟩⟩,lu,h⟩:=bS h;refine RT.bJ .none (mZ N lu) hN Y ⟨Y,Y,Y,Y,aq⟩ T<|ex Y Y<|ex Y Y ?_;obtain⟨⟨⟨ir,gA⟩,⟨qf,qg⟩⟩,oa,h⟩:=bS h
 refine RT.bJ .none ((m7 N oa).w (args':=[_,_]) ⟨(SV.dL (show cO [az uW,nw N (slc 1 (List.map aY uX))] _ from⟨au,eH,aq⟩)),(SV.dL (show cO [az uY,nw N (slc 1 (List.map aY uZ))] _ from⟨au,eH,aq⟩)),aq⟩) hN Y ⟨Y,Y,aq⟩ T<|so Y Y Y ?_;refine RT.done ⟨by kernel_rfl,?_⟩;refine aV.n<|bg ?_;obtain rfl:=O h;exact RZ (.agg Y Y (.k4 Y Y Y Y) Y (.nil))
end
section
open Go.Fw Go.Fw.Z Go.RowKit
theorem Af{x0:Int}{x1:Int}(N:Nat){r:Qr×Int}(h:gP x0 x1=some r):dS ah 40 N [ay x0,ay x1] (.sN [.agg ((fQ N) r.1),ay r.2]):=by
 refine bF Try.func40 Y (af Y) (λgw M vs hN hvs=>?_);unfold gP at h;refine sr<|al (cs:=[az false,nw N ax,az false,nw N ax]) (by exact⟨au,bt,au,bt,aq⟩) Y<|ag Y<|dn<|qq<|sr<|mv Y<|lE h λx7 h7 h=>eq _ Y Y (pJ (p:=x1) (q:=0) h7)<|dn ?_;cases x7;refine fs<|sr<|mv Y ?_;obtain⟨⟨w9,xb⟩,iE,h⟩:=bS (F h);refine RT.bJ .none (cC N iE) hN Y ⟨Y,aq⟩ T<|mv Y ?_;obtain⟨⟨kQ,kR⟩,kP,h⟩:=bS h;refine RT.bJ .none (cC N kP) hN Y ⟨Y,aq⟩ T ?_;obtain⟨⟨⟨mN,sn⟩,⟨Jy,Jz⟩⟩,lJ,h⟩:=bS h;refine RT.bJ .none ((m7 N lJ).w (args':=[_,_]) ⟨(SV.dL (show cO [az w9,nw N (slc 1 (List.map aY xb))] _ from⟨au,eH,aq⟩)),(SV.dL (show cO [az kQ,nw N (slc 1 (List.map aY kR))] _ from⟨au,eH,aq⟩)),aq⟩) hN Y ⟨Y,Y,aq⟩ T<|so Y Y Y<|ag Y<|dn<|bg ?_;obtain rfl:=O h;exact RZ (.agg Y Y (.k4 Y Y Y Y) Y (.tmp Y (.nil)));refine cT<|sr<|bI (cs:=[_,_,_,_]) (cs':=[az false,nw N ax,az false,nw N ax]) (.nil) ⟨au,bt,au,bt,aq⟩<|so Y Y Y<|ag Y<|dn<|bg<|aV.r ?_;obtain rfl:=O (V h);exact RZ (.agg Y Y (.k4 Y Y Y Y) Y (.tmp Y (.nil)))
theorem sy{x0:Int}{x1:Int}{r:Qr×Int}(h:gP x0 x1=some r):Pure ah 40 [ay x0,ay x1] (.sN [.agg (eQ r.1),ay r.2]):=fo (λN=>Af N h) (λN=>(SV.B9 ⟨(SV.dL (qI _ _)),au,aq⟩))
theorem nR{x0:Zr}(N:Nat){r:Qr}(h:cS x0=some r):dS ah 32 N [.agg (eZ x0)] (.agg ((fQ N) r)):=by
 obtain⟨bQ,bM⟩:=x0;refine bF Try.func32 Y (af Y) (λgw M vs hN hvs=>?_);unfold cS at h;refine sr<|bx Y<|al (cs:=[az false,nw N ax,az false,nw N ax]) (by exact⟨au,bt,au,bt,aq⟩) Y<|dn<|sr<|ld Y Y (.k2 Y Y) ?_;obtain⟨⟨DG,DH⟩,h4,h⟩:=bS h;refine RT.bJ .none (ve N h4) hN Y ⟨Y,aq⟩ T<|bI (cs:=[_,_,_,_]) (cs':=[az DG,nw N (slc 1 (List.map aY DH)),az false,nw N ax]) (.agg Y (.nil)) ⟨au,au,au,bt,aq⟩<|so Y Y Y<|dn<|bg ?_;obtain rfl:=O h;exact RZ (.agg Y Y (.k4 Y Y Y Y) Y (.nil))
theorem nS{x0:Zr}{r:Qr}(h:cS x0=some r):Pure ah 32 [.agg (eZ x0)] (.agg (eQ r)):=fo (λN=>nR N h) (λN=>(SV.dL (qI _ _)))
theorem Ag{x0:Qr}{x1:Qr}(N:Nat){r:Qr}(h:iO x0 x1=some r):dS ah 31 N [.agg (eQ x0),.agg (eQ x1)] (.agg ((fQ N) r)):=by
 obtain⟨⟨bQ,bM⟩,⟨gB,ic⟩⟩:=x0;obtain⟨⟨di,cZ⟩,⟨td,tf⟩⟩:=x1;refine bF Try.func31 Y (af Y) (λgw M vs hN hvs=>?_);unfold iO at h;refine sr<|bx Y<|bx Y<|al (cs:=[az false,nw N ax,az false,nw N ax]) (by exact⟨au,bt,au,bt,aq⟩) Y<|dn<|sr<|ld Y Y (.k4 Y Y Y Y) ?_;obtain⟨⟨Ms,HZ,Mt⟩,lJ,h⟩:=bS h;refine cl (og lJ) ⟨Y,aq⟩<|mv Y<|ex Y Y<|ex Y Y<|ex Y Y<|ag Y<|ag Y<|ag Y<|dn<|sr<|ld Y Y (.k4 Y Y Y Y) ?_;obtain⟨⟨Mu,H6,Mw⟩,pU,h⟩:=bS h;refine cl (og pU) ⟨Y,aq⟩<|mv Y<|ex Y Y<|ex Y Y<|ex Y Y<|ag Y<|ag Y<|ag Y<|dn<|qq<|qq ?_;refine bD h (λj3=>AS.dj 41 [(2,.ptr 2 0),(3,.ptr 3 0),(4,.ptr 4 0),(5,ai Ms),(6,ai HZ),(8,ai Mu),(9,ai H6),(26,aj j3)] [(4,⟨26,[aj false,.sv (nw N ax),aj false,.sv (nw N ax)]⟩),(3,⟨26,[aj di,.sv (slc 1 (List.map aY cZ)),aj td,.sv (slc 1 (List.map aY tf))]⟩),(2,⟨26,[aj bQ,.sv (slc 1 (List.map aY bM)),aj gB,.sv (slc 1 (List.map aY ic))]⟩)] []) (λh=>?_) (λFD h=>?_);refine aX<|mv Y<|mv Y<|bE h λJA qO h=>?_;cases Mt;obtain rfl:=O (F qO);exact ww<|pF Y<|dn<|⟨false,h,wR []⟩;refine gm Y ?_;obtain rfl:=O (V qO);exact pT Y<|dn<|⟨Mw,h,wR []⟩
 try dsimp only
 refine aV.n ?_;cases FD;refine fs<|sr<|ld Y Y (.k4 Y Y Y Y)<|ld Y Y (.k4 Y Y Y Y) ?_;obtain⟨⟨⟨mc,me⟩,⟨z9,Aa⟩⟩,sq,h⟩:=bS (F h);refine RT.bJ .none (th N sq) hN Y ⟨Y,Y,Y,aq⟩ T<|so Y Y Y<|dn<|bg ?_;obtain rfl:=O h;exact RZ (.agg Y Y (.k4 Y Y Y Y) Y (.nil));refine cT<|sr<|mv Y<|mv Y<|lE (V h) λgJ lu h=>RT.mul .none _ Y Y T lu<|mv Y<|mv Y<|lE h λkn oa h=>RT.mul .none _ Y Y T oa<|lE h λqN vO h=>sb _ Y Y vO<|mv Y<|mv Y<|lE h λwe wm h=>RT.mul .none _ Y Y T wm ?_;obtain⟨⟨⟨oc,oe⟩,⟨z8,Cv⟩⟩,zZ,h⟩:=bS h;refine RT.bJ .none (wA N zZ) hN Y ⟨Y,Y,aq⟩ T<|so Y Y Y<|dn<|bg<|aV.r ?_;obtain rfl:=O h;exact RZ (.agg Y Y (.k4 Y Y Y Y) Y (.nil))
theorem Ah{x0:Qr}{x1:Qr}{r:Qr}(h:iO x0 x1=some r):Pure ah 31 [.agg (eQ x0),.agg (eQ x1)] (.agg (eQ r)):=fo (λN=>Ag N h) (λN=>(SV.dL (qI _ _)))
theorem Ai{x0:Qr}{x1:Qr}{r:Int}(h:iP x0 x1=some r):Pure ah 33 [.agg (eQ x0),.agg (eQ x1)] (ay r):=by
 obtain⟨⟨bQ,bM⟩,⟨gB,ic⟩⟩:=x0;obtain⟨⟨di,cZ⟩,⟨td,tf⟩⟩:=x1;refine bH Try.func33 Y (af Y) (λgw M vs hvs=>?_);unfold iP at h;refine sr<|bx Y<|bx Y<|ag Y<|dn<|sr<|ld Y Y (.k4 Y Y Y Y) ?_;obtain⟨⟨⟨lM,lN⟩,⟨mU,mW⟩⟩,lJ,h⟩:=bS h;refine cl (gC lJ) ⟨Y,aq⟩<|mv Y<|ex Y Y<|ex Y Y<|al (cs:=[az false,ax]) (by exact⟨au,aB,aq⟩) Y<|al (cs:=[az false,ax]) (by exact⟨au,aB,aq⟩) Y<|so Y Y Y<|so Y Y Y<|dn<|sr<|ld Y Y (.k4 Y Y Y Y) ?_;obtain⟨⟨⟨lO,lP⟩,⟨mX,mY⟩⟩,kG,h⟩:=bS h;refine cl (gC kG) ⟨Y,aq⟩<|mv Y<|ex Y Y<|ex Y Y<|al (cs:=[az false,ax]) (by exact⟨au,aB,aq⟩) Y<|al (cs:=[az false,ax]) (by exact⟨au,aB,aq⟩) Y<|so Y Y Y<|so Y Y Y<|dn<|qq<|qq<|bf mixed<|ld Y Y (.k2 Y Y)<|bE h λjH sZ h=>?_;refine cl (eI sZ) ⟨Y,aq⟩<|ld Y Y (.k2 Y Y)<|bE h λeG mg h=>cl (eI mg) ⟨Y,aq⟩<|ag Y<|ag Y ?_;refine RT.done ⟨by kernel_rfl,?_⟩;refine aV.n<|qq ?_;refine bD h (λj3=>AS.dj 43 [(5,.ptr 5 0),(6,.ptr 6 0),(7,.ptr 7 0),(8,.ptr 8 0),(9,ai jH),(10,ai eG),(31,aj j3)] [(8,⟨24,[aj mX,.sv (slc 1 (List.map aY mY))]⟩),(7,⟨24,[aj lO,.sv (slc 1 (List.map aY lP))]⟩),(6,⟨24,[aj mU,.sv (slc 1 (List.map aY mW))]⟩),(5,⟨24,[aj lM,.sv (slc 1 (List.map aY lN))]⟩)] []) (λh=>?_) (λFE h=>?_)
 refine aX<|mv Y<|mv Y<|lE h λmw su h=>ne _ Y Y (D1 (p:=jH) (q:=eG) su)<|mv Y<|bE h λJD qO h=>?_;cases mw;refine gm Y<|lE (F qO) λoH ym qO=>Ck _ Y Y (pJ (p:=jH) (q:=0) ym) ?_;obtain rfl:=O qO;exact pF Y<|dn<|⟨oH,h,wR []⟩;obtain rfl:=O (V qO);exact ww<|ww<|pT Y<|dn<|⟨true,h,wR []⟩
 try dsimp only
 refine aV.n ?_;cases FE;refine fs<|qq<|bf mixed<|ld Y Y (.k2 Y Y)<|ld Y Y (.k2 Y Y) ?_;obtain⟨⟨JB,JC⟩,BB,h⟩:=bS (F h);refine cl (qb BB) ⟨Y,Y,aq⟩<|ld Y Y (.k2 Y Y)<|ld Y Y (.k2 Y Y) ?_;obtain⟨⟨Ab,Ad⟩,Dv,h⟩:=bS h;refine cl (qb Dv) ⟨Y,Y,aq⟩<|bE h λqL zY h=>cl (yo zY) ⟨Y,Y,aq⟩<|ag Y ?_;refine RT.done ⟨by kernel_rfl,?_⟩;refine aV.n<|bg ?_;obtain rfl:=O h;exact R1 Y;refine cT<|sr<|mv Y<|mv Y<|lE (V h) λjW oN h=>sb _ Y Y oN<|bE h λpN BC h=>cl (yz BC) ⟨Y,aq⟩<|ag Y<|dn<|bg<|aV.r ?_;obtain rfl:=O h;exact R1 Y
theorem wB{x0:Qr}{r:Zr}(h:iw x0=some r):Pure ah 41 [.agg (eQ x0)] (.agg (eZ r)):=by
 obtain⟨⟨bQ,bM⟩,⟨gB,ic⟩⟩:=x0;refine bH Try.func41 Y (af Y) (λgw M vs hvs=>?_);unfold iw at h;refine sr<|bx Y<|al (cs:=[az false,ax]) (by exact⟨au,aB,aq⟩) Y<|dn<|sr<|ld Y Y (.k4 Y Y Y Y) ?_;obtain⟨⟨⟨JE,JF⟩,⟨JG,JH⟩⟩,h8,h⟩:=bS h;refine cl (gC h8) ⟨Y,aq⟩<|ex Y Y<|ex Y Y ?_;obtain⟨⟨⟨vb,vc⟩,⟨Mx,My⟩,X7⟩,oL,h⟩:=bS h;refine cl (mh oL) ⟨Y,Y,aq⟩<|mv Y<|ex Y Y<|ex Y Y<|ex Y Y<|al (cs:=[az false,ax]) (by exact⟨au,aB,aq⟩) Y<|al (cs:=[az false,ax]) (by exact⟨au,aB,aq⟩) Y<|so Y Y Y<|so Y Y Y<|ag Y<|dn<|sr<|ld Y Y (.k2 Y Y) ?_;refine so Y Y Y<|dn<|bg ?_;obtain rfl:=O h;exact RZ (.agg Y Y (.k2 Y Y) Y (.nil))
end
end Go.Proofs.Ytmiflmkdaeianaa
