/- A part of the proof: the framework, the plain functions, the followed functions, the plain laws. -/
import Derived.Test.YtfoldppidpmchaaGreatPPS1
set_option linter.unusedVariables false
set_option linter.unusedSimpArgs false
namespace Go.Fw
section
open Go.RowKit
inductive Src (S:AS) (E0:TypeId) (n:Nat):Operand→List (Nat×mE)→List Nat→Nat→List SV→Prop
 |nil {x:Operand} (h:S.ev x=.sv (.v (.slice none 0 0))):Src S E0 n x [] [] 0 []
 |row {x:Operand} {i m:Nat} {cs:List SV} (h:S.ev x=.row i) (hR:S.r i=.live ⟨E0,n,m,cs⟩):Src S E0 n x [(i,.dead)] [i] m cs
theorem LQ{i:Nat}{X:SV}{x:AV}(h:¬x.mr i):x.nN i X=x:=by
 cases x with
 |row k=>simp only[AV.nN];rw[cz (λe=>h e.symm)];rfl
 |iW k o=>simp only[AV.nN];rw[cz (λe=>h e.symm)];rfl
 |nD k o l=>simp only[AV.nN];rw[cz (λe=>h e.symm)];rfl
 |cmp t js=>
  simp only[AV.nN]
  have:js.any (Fc.yL i)=false:=by
   cases e:js.any (Fc.yL i)with
   |false=>rfl
   |true=>
    obtain⟨c,hc,hi⟩:=List.any_eq_true.1 e
    cases c with
    |row j=>have hi:Nat.beq j i=true:=hi;obtain rfl:=Nat.eq_of_beq_eq_true hi;exact absurd hc h
    |_=>cases hi
  rw[this];rfl
 |_=>rfl
section steps
variable {P:Program}{C:Ctx}{ops:Array Oper}{S:AS}{nd:Bool}{K:List Ac→AS→Prop}{rest:List Oper}{acc:List Ac}
variable {gd:Option (Nat×Bool)}{rg:List Nat}{d:Nat}{ty:TypeId}{pos:String}{aft:Array Edge}{x y z:Operand}{T U E0:TypeId}
theorem Src.val{E:Env}{a:Act}{w:World}{S':AS}{n m:Nat}{old:List (Nat×mE)}{rr:List Nat}{cs:List SV}(h:bk C S' E a w)(hx:Src S E0 n x old rr m cs)(ht:∀s∈bg x,S'.t s=S.t s)(hr:∀i∈rr,S'.r i=S.r i):
  (∃vs,w.ownsRow 0 E0 n (a.eval x) m vs∧SV.dX E.M cs vs)∧((old=[]∧(a.eval x).ownBlock=none)∨∃i R,old=[(i,.dead)]∧S'.r i=.live R∧(a.eval x).ownBlock=(E.ν i).ownBlock):=by
 cases hx with
 |nil hx=>
  have h1:a.eval x=.slice none 0 0:=by have h1:=h.ev x;rw[bB (λ_ h=>h) ht,hx]at h1;exact h1
  rw[h1]
  exact⟨⟨[],World.ownsRow_nil _ _ _ _,ak⟩,.inl ⟨Y,Y⟩⟩
 | @row i _ _ hx hR=>
  have h1:a.eval x=E.ν i:=by have h1:=h.ev x;rw[bB (λ_ h=>h) ht,hx]at h1;exact h1
  have v7:=(hr i (by simp)).trans hR
  rw[h1]
  obtain⟨⟨vs,h2,h3⟩,_⟩:=h.rx i _ v7
  exact⟨⟨vs,h2,h3⟩,.inr ⟨i,_,Y,v7,Y⟩⟩
theorem RT.Jf(hg:Gd ops S gd rg){n by_:Nat}{zv:Value}[tS:eA P T E0 n][tE:jO P E0 n by_ zv]{old:List (Nat×mE)}{rr:List Nat}{m:Nat}{cs:List SV}{s:SV}{rows:List (List SV)}[hs:OF s n rows]
  (hx:Src S E0 n x old rr m cs) (hy:S.ev y=.sv s) (hd:d<S.n) (wj:S.r d=.un) (uP:d<1000) (hroom:(m+rows.length)*by_≤140737488355328) (si:m+rows.length≤140737488355328)
  (X:SV) {rows':List (List SV)} (hX:∀M v,(slc n rows').h M v→(∀g,v.ownBlock=some g→(C.w0.heap.size≤g∨C.uO g)∧∃o,M g o=some (.agg #[]))→X.h M v) (l7:Rows n rows' (cs++rows.flatten)) (hlen:rows'.length=m+rows.length) (hone:∀M vs,SV.dX M (cs++rows.flatten) vs→∀v∈vs,v.oneCell'=true)
  (next:RunT P C ops nd K rest (⟨rg++(bg x++bg y),[],d::rr,⟨some (d,.sv X),[],old++[(d,.dead)]⟩⟩::acc) ((AS.cf (old++[(d,.dead)]) S).set d (.sv X))):RunT P C ops nd K (⟨some d,.call ⟨.builtin .append,#[x,y],#[T,T]⟩,ty,pos,aft,gd⟩::rest) acc S:=by
 refine .inl ⟨_,[],d::rr,_,?_,next⟩
 rintro S' hn ht _ hr i a w L Q ho ⟨E,h⟩ hL
 refine cI (C:=C) ho (hg.wanted h (λs hs=>ht s (List.mem_append_left _ hs)) Y) ?_
 obtain⟨⟨vs,hown,hvs⟩,hold⟩:=hx.val h (λs hs=>ht s (List.mem_append_right _ (List.mem_append_left _ hs))) (λi hi=>hr i (List.mem_cons_of_mem _ hi))
 have h2:=h.ev y
 rw[bB (λ_ h=>List.mem_append_right _ (List.mem_append_right _ h)) ht,hy]at h2
 obtain⟨info,hi,hsz,hby,hz⟩:=jO.info (P:=P) (E:=E0) (n:=n) (by_:=by_) (z:=zv)
 have HJ:S'.r d=.un:=by rw[hr d (by simp)];exact wj
 have run:∃v' w' vs',(Builtin.append_ #[T,T] ty #[a.eval x,a.eval y]).run P w=.ok v' w'∧w'.ownsRow 0 E0 n v' (m+rows.length) vs'∧SV.dX E.M (cs++rows.flatten) vs'∧w.grownBy w' (a.eval x).ownBlock∧(v'.ownBlock=(a.eval x).ownBlock∨v'.ownBlock=some w.heap.size∨v'.ownBlock=none):=by
  rcases hs.h _ _ h2 with⟨a0,e,e2⟩|⟨b,o,c,e,hc,Ff,hrow⟩
  ·rw[e,e2]
   cases a0 with
   |none=>exact⟨_,_,vs,run_append_owned_none w 0 T ty E0 info n tS.u hi _ m vs hown,by simpa using hown,by simpa using hvs,⟨Y,Y,Y,Nat.le_refl _,λ_ _ _=>Y⟩,.inl Y⟩
   |some a0=>
    rw[e2,List.length_nil]at hroom si
    obtain⟨v',w',q1,q2,q3,_,q4⟩:=run_append_own_at (P:=P) w 0 T ty E0 info zv n by_ tS.u hi hz hsz hby tE.z tE.p _ m vs hown a0 0 0 [] (by simp) (by simp) (by simp) (by unfold maxLen;omega) hroom (Nat.zero_le _)
    exact⟨v',w',vs,q1,by simpa using q2,by simpa using hvs,q3,q4.imp id .inl⟩
  ·obtain⟨us,g1,g2,g3,g4⟩:=At rows o hrow
   rw[e]
   obtain⟨v',w',q1,q2,q3,_,q4⟩:=run_append_own_at (P:=P) w 0 T ty E0 info zv n by_ tS.u hi hz hsz hby tE.z tE.p _ m vs hown ⟨b,o,none⟩ rows.length c us g2 (λj u hj=>by rw[fU];exact(h.c8 _ _ _ (g4 j u hj)).cell (g3 u (List.mem_of_getElem? hj))) g3 (by unfold maxLen;omega) hroom (Nat.zero_le _)
   exact⟨v',w',vs++us,q1,q2,SV.dX.append hvs g1,q3,q4.imp id .inl⟩
 obtain⟨v',w',vs',q1,q2,q3,q4,q5⟩:=run
 have hr':(execOp a.eval ⟨some d,.call ⟨.builtin .append,#[x,y],#[T,T]⟩,ty,pos,aft,gd⟩).run P w=.ok (.value v') w':=by
  simp[execOp,resolve,invoke,builtin,q1]
 have Jg:∀(l:List (Nat×mE)) (R:mE) (j:Nat),eO (l++[(d,R)]) j=if j=d then some R else eO l j:=by
  intro l R j
  induction l with
  |nil=>rfl
  |cons p l ih=>
   obtain⟨i,R'⟩:=p
   rw[List.cons_append,eO,eO,ih]
   by_cases e:j=d
   ·simp[e]
   ·simp[e]
 have h3:=(h.newRow HJ uP old (a.eval x).ownBlock hold (R':=⟨E0,n,m+rows.length,cs++rows.flatten⟩) q2 q3 q5 q4).put (d:=d) (x:=.row d) (v:=v') (by simp[AV.holds]) (by rw[(iz _ _).1];omega) ⟨λ_ e=>e.elim,λj e=>by
  cases e
  rw[mF,Jg];simp⟩
 have hRd:(AS.set (AS.cf (old++[(d,mE.live ⟨E0,n,m+rows.length,cs++rows.flatten⟩)]) S') d (.row d)).r d=.live ⟨E0,n,m+rows.length,cs++rows.flatten⟩:=by
  show(AS.cf _ S').r d=_
  rw[mF,Jg];simp
 obtain⟨E',h4⟩:=h3.nN hRd l7 hlen (Nat.le_trans si (by decide)) hone hX
 have e:(AS.set (AS.cf (old++[(d,mE.live ⟨E0,n,m+rows.length,cs++rows.flatten⟩)]) S') d (.row d)).nN d X=S'.app ⟨some (d,.sv X),[],old++[(d,.dead)]⟩:=by
  have n1:=iz (old++[(d,mE.live ⟨E0,n,m+rows.length,cs++rows.flatten⟩)]) S'
  have n2:=iz (old++[(d,mE.dead)]) S'
  refine AS.ext' ?_ (λt=>?_) (λj=>?_) (λj=>?_) ?_ ?_
  ·show(AS.cf _ S').n=(AS.cf _ S').n
   rw[n1.1,n2.1]
  ·rw[AS.E4]
   show((AS.set (AS.cf _ S') d (.row d)).t t).nN d X=_
   by_cases e:t=d
   ·subst e;rw[AS.jd];simp[AV.nN,wT]
   ·rw[AS.ia _ _ _ _ e,n1.2.1,LQ (λhm=>h.wf.tr t d hm HJ)];simp[wT,e]
  ·rw[AS.E5]
   show((AS.cf _ S').b j).map _=_
   rw[n1.2.2.1]
   simp only[qk,Option.getD_none]
   cases hb:S'.b j with
   |none=>rfl
   |some B=>
    rw[Option.map_some]
    have:B.cells.map (AV.nN d X)=B.cells:=by
     conv=>rhs;rw[←List.map_id B.cells]
     exact List.map_congr_left λc hc=>LQ (λhm=>h.wf.br j B hb c hc d hm HJ)
    rw[this]
  ·rw[AS.E6]
   show(bif Nat.beq j d then mE.dead else(AS.cf _ S').r j)=_
   rw[mF,Jg,Jg]
   by_cases e:j=d
   ·subst e;simp
   ·simp[cz e,e]
  ·rw[(AS.CJ _ _).1];exact n1.2.2.2.1
  ·rw[(AS.CJ _ _).2];exact n1.2.2.2.2
 exact cJ (C:=C) (by intro c h;cases h) hr' (hL _ _ ⟨E',e▸h4⟩)
end steps
end
section
open Go.RowKit
def cm{J R:Type}(k:J→Option R)(f:(J→Option R)→Option R):Option R:=f k
theorem bind_some{α β:Type}{x:Option α}{f:α→Option β}{r:β}(h:Option.bind x f=some r):∃a,x=some a∧f a=some r:=by
 cases x with
 |none=>cases h
 |some a=>exact⟨a,Y,h⟩
theorem sk{b w:Bool}(h:(b==w)=false):b≠w:=by cases b<;>cases w<;>simp_all
def cQ{α:Type}(l:List α)(i:Int):Option α:=if 0≤i then l[i.toNat]? else none
def vm{α:Type}(l:List α)(i:Int):Option Nat:=if 0≤i∧i<l.length then some i.toNat else none
def uG{α:Type}(l:List α)(lo hi:Int):Option (List α):=if 0≤lo∧lo≤hi∧hi≤l.length then some (cut l lo.toNat hi.toNat)else none
def rM{α:Type}(by_:Nat)(l k:List α):Option (List α):=if(l.length+k.length)*by_≤140737488355328∧l.length+k.length≤140737488355328 then some (l++k)else none
def EX{α:Type}(by_:Nat)(c:Int)(z:α):Option (List α):=if 0≤c∧by_*c≤281474976710656∧c≤140737488355328 then some (List.replicate c.toNat z)else none
def OU{α:Type}(by_:Nat)(c:Int):Option (List α):=if 0≤c∧by_*c≤281474976710656∧c≤140737488355328 then some []else none
def stM{α:Type}(l:List α)(n:Nat)(y:α):Option (List α):=if n<l.length then some (l.set n y)else none
def rX(a b:Int):Option Int:=if b=0 then none else some (IntKind.i64.wrap (a.tdiv b))
def Ce(a b:Int):Option Int:=if b=0 then none else some (a.tmod b)
def Dy(M a b:Nat):Option Nat:=if b=0 then none else some (a/b%M)
def Cf(a b:Nat):Option Nat:=if b=0 then none else some (a%b)
def oC(M a b:Nat):Nat:=(((a:Int)-b)%M).toNat
theorem qp{α:Type}{l:List α}{i:Int}{a:α}(h:cQ l i=some a):0≤i∧l[i.toNat]? =some a:=by
 unfold cQ at h;split at h
 ·exact⟨by assumption,h⟩
 ·cases h
theorem LR{α:Type}{l:List α}{i:Int}{k:Nat}(h:vm l i=some k):0≤i∧i<l.length∧i.toNat=k:=by
 unfold vm at h;split at h
 ·rename_i hh;exact⟨hh.1,hh.2,Option.some.inj h⟩
 ·cases h
theorem CN{α:Type}{l l':List α}{a b:Int}(h:uG l a b=some l'):0≤a∧a≤b∧b≤l.length∧cut l a.toNat b.toNat=l':=by
 unfold uG at h;split at h
 ·rename_i hh;exact⟨hh.1,hh.2.1,hh.2.2,Option.some.inj h⟩
 ·cases h
theorem wE{α:Type}{by_:Nat}{l k l':List α}(h:rM by_ l k=some l'):(l.length+k.length)*by_≤140737488355328∧l.length+k.length≤140737488355328∧l++k=l':=by
 unfold rM at h;split at h
 ·rename_i hh;exact⟨hh.1,hh.2,Option.some.inj h⟩
 ·cases h
theorem LS{α:Type}{by_:Nat}{c:Int}{z:α}{l':List α}(h:EX by_ c z=some l'):0≤c∧by_*c≤281474976710656∧c≤140737488355328∧List.replicate c.toNat z=l':=by
 unfold EX at h;split at h
 ·rename_i hh;exact⟨hh.1,hh.2.1,hh.2.2,Option.some.inj h⟩
 ·cases h
theorem LU{α:Type}{by_:Nat}{c:Int}{l':List α}(h:OU by_ c=some l'):0≤c∧by_*c≤281474976710656∧c≤140737488355328∧[]=l':=by
 unfold OU at h;split at h
 ·rename_i hh;exact⟨hh.1,hh.2.1,hh.2.2,Option.some.inj h⟩
 ·cases h
theorem Fq{α:Type}{l l':List α}{n:Nat}{y:α}(h:stM l n y=some l'):n<l.length∧l.set n y=l':=by
 unfold stM at h;split at h
 ·rename_i hh;exact⟨hh,Option.some.inj h⟩
 ·cases h
def nP{S E:Type}(body:S→Option (S⊕E)):Nat→S→Option E
 |0,_=>none
 |n+1,s=>match body s with
  |some (.inl s')=>nP body n s'
  |some (.inr e)=>some e
  |none=>none
theorem vn{S E:Type}{body:S→Option (S⊕E)}:∀{n m:Nat} {s:S} {e:E},n≤m→nP body n s=some e→nP body m s=some e
 |0,_,_,_,_,h=>by cases h
 |n+1,0,_,_,hm,_=>by omega
 |n+1,m+1,s,e,hm,h=>by
  unfold nP at h⊢
  cases hb:body s with
  |none=>rw[hb]at h;cases h
  |some y=>
   rw[hb]at h
   cases y with
   |inl s'=>exact vn (by omega) h
   |inr e'=>exact h
open Classical in
noncomputable def b9{S E:Type}(body:S→Option (S⊕E))(s:S):Option E:=if h:∃n e,nP body n s=some e then some (Classical.choose (Classical.choose_spec h))else none
theorem vo{S E:Type}{body:S→Option (S⊕E)}{s:S}{e:E}(h:b9 body s=some e):∃n,nP body n s=some e:=by
 unfold b9 at h
 split at h
 ·rename_i hh
  exact⟨_,by rw[←Option.some.inj h];exact Classical.choose_spec (Classical.choose_spec hh)⟩
 ·cases h
theorem AI{S E:Type}{body:S→Option (S⊕E)}{s:S}{e:E}{n:Nat}(h:nP body n s=some e):b9 body s=some e:=by
 have hh:∃n e,nP body n s=some e:=⟨n,e,h⟩
 unfold b9
 rw[dif_pos hh]
 have h2:=Classical.choose_spec (Classical.choose_spec hh)
 have h3:=vn (Nat.le_max_left n (Classical.choose hh)) h
 have h4:=vn (Nat.le_max_right n (Classical.choose hh)) h2
 rw[h3]at h4
 exact h4.symm
theorem vp{S E:Type}{body:S→Option (S⊕E)}{s:S}{e:E}(h:body s=some (.inr e)):b9 body s=some e:=AI (n:=1) (by simp[nP,h])
theorem AJ{S E:Type}{body:S→Option (S⊕E)}{s s':S}(h:body s=some (.inl s')):b9 body s=b9 body s':=by
 cases hl:b9 body s' with
 |some e=>obtain⟨n,hn⟩:=vo hl;exact AI (n:=n+1) (by simp[nP,h,hn])
 |none=>
  cases hl2:b9 body s with
  |none=>rfl
  |some e=>
   obtain⟨n,hn⟩:=vo hl2
   cases n with
   |zero=>cases hn
   |succ n=>simp only[nP,h]at hn;rw[AI hn]at hl;cases hl
theorem xZ{S E:Type}{body:S→Option (S⊕E)}(I:S→Prop)(Post:E→Prop)(μ:S→Nat)
  (step:∀s,I s→(∃s',body s=some (.inl s')∧I s'∧μ s'<μ s)∨(∃e,body s=some (.inr e)∧Post e)) {s:S} (h:I s):∃e,b9 body s=some e∧Post e:=by
 have key:∀(n:Nat) (s:S),μ s≤n→I s→∃e,b9 body s=some e∧Post e:=by
  intro n
  induction n with
  |zero=>
   intro s hn hs
   rcases step s hs with⟨s',_,_,h3⟩|⟨e,h1,h2⟩
   ·omega
   ·exact⟨e,vp h1,h2⟩
  |succ n ih=>
   intro s hn hs
   rcases step s hs with⟨s',h1,h2,h3⟩|⟨e,h1,h2⟩
   ·obtain⟨e,q1,q2⟩:=ih s' (by omega) h2
    exact⟨e,by rw[AJ h1];exact q1,q2⟩
   ·exact⟨e,vp h1,h2⟩
 exact key _ s (Nat.le_refl _) h
theorem LV{S E:Type}{body:S→Option (S⊕E)}(st:Nat→S)(n:Nat){e:E}(hs:∀k,k<n→body (st k)=some (.inl (st (k+1))))(he:body (st n)=some (.inr e)):b9 body (st 0)=some e:=by
 have key:∀k,k≤n→b9 body (st (n-k))=some e:=by
  intro k
  induction k with
  |zero=>intro _;exact vp he
  |succ k ih=>
   intro hk
   rw[AJ (hs (n-(k+1)) (by omega)),show n-(k+1)+1=n-k by omega]
   exact ih (by omega)
 have:=key n (Nat.le_refl _)
 rwa[Nat.sub_self]at this
theorem zF{p q:Int}{c:Bool}(h:decide (p=q)=c):(p==q)=c:=by rw[←h];exact Bool.beq_eq_decide_eq p q
theorem HQ{p q:Int}{c:Bool}(h:decide (p≠q)=c):(p != q)=c:=by rw[←h,bne,Bool.beq_eq_decide_eq p q];simp
theorem YD{p q:Nat}{c:Bool}(h:decide (p=q)=c):((p:Int)==(q:Int))=c:=zF (by rw[←h];simp[Int.natCast_inj])
theorem YE{p q:Nat}{c:Bool}(h:decide (p≠q)=c):((p:Int) != (q:Int))=c:=HQ (by rw[←h];simp[Int.natCast_inj])
theorem YF{p q:Nat}{c:Bool}(h:decide (p<q)=c):decide ((p:Int)<(q:Int))=c:=by rw[←h];simp
theorem ZM{p q:Nat}{c:Bool}(h:decide (p≤q)=c):decide ((p:Int)≤(q:Int))=c:=by rw[←h];simp
theorem OV{p q c:Int}(h:max p q=c):(if q>p then q else p)=c:=by rw[←h];split<;>omega
theorem SX{p q c:Int}(h:min p q=c):(if q<p then q else p)=c:=by rw[←h];split<;>omega
class UK (k:IntKind) (b:outParam Nat) (M:outParam Nat):Prop where
 w:∀x:Int,k.wrap x=x%M
 hb:k.bits=b
 hm:2^b=M
instance:UK .u8 8 256:=⟨λx=>by simp[IntKind.wrap,IntKind.signed,IntKind.bits],rfl,by decide⟩
instance:UK .u32 32 4294967296:=⟨λx=>by simp[IntKind.wrap,IntKind.signed,IntKind.bits],rfl,by decide⟩
instance:UK .u64 64 18446744073709551616:=⟨λx=>by simp[IntKind.wrap,IntKind.signed,IntKind.bits],rfl,by decide⟩
section uk
variable {k:IntKind}{bi M a b c:Nat}[u:UK k bi M]
include u
theorem UK.pos:0<M:=by rw[←u.hm];exact Nat.two_pow_pos _
theorem UK.nat(h:a%M=c):k.wrap (a:Int)=(c:Int):=by rw[u.w,←h,Int.natCast_emod]
theorem UK.add(h:(a+b)%M=c):k.wrap ((a:Int)+(b:Int))=(c:Int):=by rw[←Int.natCast_add];exact UK.nat h
theorem UK.mul(h:(a*b)%M=c):k.wrap ((a:Int)*(b:Int))=(c:Int):=by rw[←Int.natCast_mul];exact UK.nat h
theorem UK.sub(h:oC M a b=c):k.wrap ((a:Int)-(b:Int))=(c:Int):=by
 rw[u.w,←h,oC,Int.toNat_of_nonneg];exact Int.emod_nonneg _ (by have:=UK.pos (k:=k) (bi:=bi) (M:=M);omega)
theorem UK.neg(h:oC M 0 a=c):k.wrap (0-(a:Int))=(c:Int):=UK.sub h
theorem UK.conv{p:Int}(h:(p%M).toNat=c):k.wrap p=(c:Int):=by
 rw[u.w,←h,Int.toNat_of_nonneg];exact Int.emod_nonneg _ (by have:=UK.pos (k:=k) (bi:=bi) (M:=M);omega)
theorem UK.quo(h:Dy M a b=some c):k.wrap ((a:Int).tdiv (b:Int))=(c:Int):=by
 unfold Dy at h;split at h
 ·cases h
 ·rw[Int.tdiv_eq_ediv_of_nonneg (by omega),←Int.natCast_ediv];exact UK.nat (Option.some.inj h)
theorem UK.Wi(h:a/b%M=c):k.wrap ((a:Int).tdiv (b:Int))=(c:Int):=by
 rw[Int.tdiv_eq_ediv_of_nonneg (by omega),←Int.natCast_ediv];exact UK.nat h
theorem UK.shl{q:Int}{s:Nat}(hs:min q.toNat k.bits=s)(h:a*2^s%M=c):k.wrap ((a:Int)*2^(min q.toNat k.bits))=(c:Int):=by
 rw[hs,show(a:Int)*2^s=((a*2^s:Nat):Int) by rw[Int.natCast_mul,Int.natCast_pow];rfl];exact UK.nat h
theorem UK.ofInt(a:Nat):(BitVec.ofInt k.bits (a:Int)).toNat=a%M:=by
 rw[BitVec.ofInt_natCast,BitVec.toNat_ofNat,u.hb,u.hm]
theorem UK.or(h:(a ||| b)%M=c):k.wrap ((BitVec.ofInt k.bits (a:Int) ||| BitVec.ofInt k.bits (b:Int)).toNat)=(c:Int):=by
 rw[BitVec.toNat_or,UK.ofInt,UK.ofInt,←u.hm,←Nat.or_mod_two_pow,u.hm,h,UK.nat (a:=c) (c:=c)]
 rw[←h,Nat.mod_mod]
end uk
theorem Dz{k:IntKind}{a c s:Nat}{q:Int}(hs:min q.toNat k.bits=s)(h:a/2^s=c):(a:Int).fdiv (2^(min q.toNat k.bits))=(c:Int):=by
 rw[hs,Int.fdiv_eq_ediv_of_nonneg _ (Int.le_of_lt (Int.pow_pos (by decide))),←h,Int.natCast_ediv,Int.natCast_pow];rfl
theorem OW{a b c:Nat}(h:Cf a b=some c):(a:Int).tmod (b:Int)=(c:Int):=by
 unfold Cf at h;split at h
 ·cases h
 ·rw[Int.tmod_eq_emod_of_nonneg (by omega),←Option.some.inj h];rfl
theorem QS{a b c:Nat}(h:a%b=c):(a:Int).tmod (b:Int)=(c:Int):=by
 rw[Int.tmod_eq_emod_of_nonneg (by omega),←h];rfl
theorem ZN{M a b c:Nat}(h:Dy M a b=some c):(b:Int)≠0:=by
 unfold Dy at h;split at h
 ·cases h
 ·omega
theorem YG{a b c:Nat}(h:Cf a b=some c):(b:Int)≠0:=by
 unfold Cf at h;split at h
 ·cases h
 ·omega
theorem Wj{a b c:Int}(h:rX a b=some c):b≠0:=by unfold rX at h;split at h<;>simp_all
theorem SY{a b c:Int}(h:Ce a b=some c):b≠0:=by unfold Ce at h;split at h<;>simp_all
theorem LW{a b c:Int}(h:rX a b=some c):IntKind.i64.wrap (a.tdiv b)=c:=by
 unfold rX at h;split at h
 ·cases h
 ·exact Option.some.inj h
theorem SZ{a b c:Int}(h:Ce a b=some c):a.tmod b=c:=by
 unfold Ce at h;split at h
 ·cases h
 ·exact Option.some.inj h
abbrev aX(x:Nat):List SV:=[.v (.int .u32 (x:Nat))]
abbrev bK(x:Int):List SV:=[.v (.int .i64 x)]
abbrev eB(x:Bool):List SV:=[.v (.bool x)]
abbrev eS{α:Type}(n:Nat)(e:α→List SV)(l:List α):List SV:=[slc n (l.map e)]
structure Zr where
 neg:Bool
 w:List Nat
structure Qr where
 num:Zr
 den:Zr
abbrev eZ(z:Zr):List SV:=[.v (.bool z.neg),slc 1 (z.w.map aX)]
abbrev eQ(q:Qr):List SV:=[.v (.bool q.num.neg),slc 1 (q.num.w.map aX),.v (.bool q.den.neg),slc 1 (q.den.w.map aX)]
class EL {α:Type} (e:α→List SV) (n:outParam Nat):Prop where
 len:∀x,(e x).length=n
 one:∀x,uF (e x)
instance:EL aX 1:=⟨λ_=>rfl,λ_=>inferInstance⟩
instance:EL bK 1:=⟨λ_=>rfl,λ_=>inferInstance⟩
instance{α:Type}{n:Nat}{e:α→List SV}:EL (eS n e) 1:=⟨λ_=>rfl,λ_=>inferInstance⟩
instance:EL eQ 4:=⟨λ_=>rfl,λ_=>inferInstance⟩
structure Lr where
 vars:Int
 vr:List (List Qr)
 rows:List (List Qr)
 bounds:List Qr
abbrev vu(x:Lr):List SV:=[.v (.int .i64 x.vars),slc 1 (x.vr.map (eS 4 eQ)),slc 1 (x.rows.map (eS 4 eQ)),slc 4 (x.bounds.map eQ)]
structure Sz where
 vars:Int
 vr:Int
 rows:Int
 bounds:Int
abbrev eSz(x:Sz):List SV:=[.v (.int .i64 x.vars),.v (.int .i64 x.vr),.v (.int .i64 x.rows),.v (.int .i64 x.bounds)]
abbrev TR(E:TypeId)(sz:Nat){α:Type}(e:α→List SV)(l:List α):Row:=⟨E,sz,l.length,l.flatMap e⟩
theorem aA{α:Type}{n:Nat}{e:α→List SV}:SV.imp (.v (.slice none 0 0)) (slc n (([]:List α).map e)):=λ_ _ h=>.inl ⟨none,h,Y⟩
theorem sq{α:Type}(e:α→List SV)(l:List α):(l.map e).flatten=l.flatMap e:=by rw[List.flatMap_def]
theorem su{α:Type}{e:α→List SV}{n:Nat}[h:EL e n](l:List α):Rows n (l.map e) (l.flatMap e):=⟨sq e l,λr hr=>by obtain⟨x,_,rfl⟩:=List.mem_map.1 hr;exact h.len x⟩
theorem CO{M:Mem}:∀{l k:List SV} {vs:List Value},SV.dX M (l++k) vs→∃us ws,vs=us++ws∧SV.dX M l us∧SV.dX M k ws
 |[],_,vs,h=>⟨[],vs,Y,ak,h⟩
 |_::_,_,[],h=>h.elim
 |_::l,_,v::vs,h=>by
  obtain⟨us,ws,rfl,h1,h2⟩:=CO (l:=l) h.2
  exact⟨v::us,ws,Y,⟨h.1,h1⟩,h2⟩
theorem og{α:Type}{e:α→List SV}{n:Nat}[h:EL e n](l:List α):∀M vs,SV.dX M (l.flatMap e) vs→∀v∈vs,v.oneCell'=true:=by
 intro M
 induction l with
 |nil=>intro vs hv;cases vs with|nil=>simp|cons _ _=>exact hv.elim
 |cons x l ih=>
  intro vs hv
  rw[List.flatMap_cons]at hv
  obtain⟨us,ws,rfl,h1,h2⟩:=CO hv
  intro v hv
  rcases List.mem_append.1 hv with hv|hv
  ·exact(h.one x).h M us h1 v hv
  ·exact ih ws h2 v hv
theorem Fs{α:Type}{e:α→List SV}{n:Nat}[h:EL e n]:∀{l:List α} {k:Nat} {a:α},l[k]? =some a→((l.flatMap e).drop (k*n)).take n=e a
 |[],_,_,hh=>by simp at hh
 |x::l,0,a,hh=>by
  simp only[List.getElem?_cons_zero,Option.some.injEq]at hh
  subst hh
  rw[List.flatMap_cons,Nat.zero_mul,List.drop_zero,←h.len x,List.take_left']
  rfl
 |x::l,k+1,a,hh=>by
  rw[List.getElem?_cons_succ]at hh
  rw[List.flatMap_cons,show(k+1)*n=(e x).length+k*n by rw[h.len,Nat.add_mul];omega,←List.drop_drop,List.drop_left']
  ·exact Fs hh
  ·rfl
theorem Ft{α:Type}{e:α→List SV}{n:Nat}[h:EL e n]{y:α}:∀{l:List α} {k:Nat},k<l.length→kx (l.flatMap e) (k*n) (e y)=(l.set k y).flatMap e:=by
 have ZO:∀(u:List SV) (a b:List SV) (j:Nat),j+u.length≤a.length→kx (a++b) j u=kx a j u++b:=by
  intro u
  induction u with
  |nil=>intro a b j _;rfl
  |cons s u ih=>
   intro a b j hj
   simp only[List.length_cons]at hj
   simp only[kx]
   rw[List.set_append_left _ _ (by omega),ih _ _ _ (by rw[List.length_set];omega)]
 have ZP:∀(u:List SV) (a b:List SV) (j:Nat),kx (a++b) (a.length+j) u=a++kx b j u:=by
  intro u
  induction u with
  |nil=>intro a b j;rfl
  |cons s u ih=>
   intro a b j
   simp only[kx]
   rw[List.set_append_right _ _ (by omega),show a.length+j-a.length=j by omega,show a.length+j+1=a.length+(j+1) by omega,ih]
 have ZQ:∀(u a:List SV),u.length=a.length→kx a 0 u=u:=by
  have gen:∀(u a p:List SV),u.length=a.length→kx (p++a) p.length u=p++u:=by
   intro u
   induction u with
   |nil=>intro a p ha;have:a=[]:=List.eq_nil_of_length_eq_zero ha.symm;subst this;rfl
   |cons s u ih=>
    intro a p ha
    cases a with
    |nil=>cases ha
    |cons t a=>
     simp only[kx]
     rw[List.set_append_right _ _ (Nat.le_refl _),Nat.sub_self,List.set_cons_zero,show p++s::a=(p++[s])++a by simp,show p.length+1=(p++[s]).length by simp,ih a _ (by simpa using ha)]
     simp
  intro u a ha
  exact gen u a [] ha
 intro l
 induction l with
 |nil=>intro k hk;simp at hk
 |cons x l ih=>
  intro k hk
  cases k with
  |zero=>
   rw[List.set_cons_zero,List.flatMap_cons,List.flatMap_cons,Nat.zero_mul,ZO _ _ _ _ (by rw[h.len,h.len];omega),ZQ _ _ (by rw[h.len,h.len])]
  |succ k=>
   simp only[List.length_cons]at hk
   rw[List.set_cons_succ,List.flatMap_cons,List.flatMap_cons,show(k+1)*n=(e x).length+k*n by rw[h.len,Nat.add_mul];omega,ZP,ih (by omega)]
end
section
open Go.RowKit
section steps
variable {P:Program}{C:Ctx}{ops:Array Oper}{S:AS}{nd:Bool}{K:List Ac→AS→Prop}{rest:List Oper}{acc:List Ac}
variable {gd:Option (Nat×Bool)}{rg:List Nat}{d:Nat}{ty:TypeId}{pos:String}{aft:Array Edge}{x y z:Operand}{T U E0:TypeId}
variable {α:Type}{l l' k:List α}{e:α→List SV}{n by_:Nat}{zv:Value}
theorem RT.ZR(hg:Gd ops S gd rg){s X:SV}(hx:S.ev x=.sv s)(hi:SV.imp s X)(hd:d<S.n)
  (next:RunT P C ops nd K rest (⟨rg++bg x,[],[],⟨some (d,.sv X),[],[]⟩⟩::acc) (S.set d (.sv X))):RunT P C ops nd K (⟨some d,.assign x,ty,pos,aft,gd⟩::rest) acc S:=
 RT.value hg (bg x) [] [] (.sv X) hd (by intro c h;cases h) (λS' ht _ _ E a w h=>by
  have hx':S'.ev x=.sv s:=by rw[bB (λ_ h=>h) ht,hx]
  exact⟨a.eval x,Y,by have:=h.ev x;rw[hx']at this;exact hi _ _ this,gp⟩) next
theorem Kq{E:Env}:∀{l l':List SV} {vs:List Value},cH l l'→SV.dX E.M l vs→c9 E (l'.map AV.sv) vs:=λhi h=>c9.yM (hi.holds h)
theorem DA(M:Mem):∀l:List Value,SV.dX M (l.map SV.v) l
 |[]=>trivial
 |_::l=>⟨Y,DA M l⟩
theorem RT.qS(hg:Gd ops S gd rg)[tz:iB P T zv]{cs:List SV}(hi:cH (zv.cells.toList.map SV.v) cs){av:List AV}(ZS:cs.map AV.sv=av)(hd:d<S.n)(hb:S.b d=none)(hp:C.iX d=none)
  (next:RunT P C ops nd K rest (⟨rg++[],[d],[],⟨some (d,.ptr d 0),[(d,⟨T,av⟩)],[]⟩⟩::acc) ((S.lT d ⟨T,av⟩).set d (.ptr d 0))):RunT P C ops nd K (⟨some d,.alloc T,ty,pos,aft,gd⟩::rest) acc S:=by
 subst ZS
 exact RT.I8 hg (by intro c h;cases h) [] hd hb hp (λS' _ E a w h=>⟨zv.cells.toList,by simp[execOp,Instr.alloc,newVar,newRow,tz.run],Kq hi (DA _ _),λy hy=>by
  obtain⟨s,_,rfl⟩:=List.mem_map.1 hy
  exact gp⟩) next
theorem RT.S0(hg:Gd ops S gd rg){pl:List (Nat×Nat)}{zc:List Value}[tP:je P T pl zc]{parts:Array (Nat×Operand)}{qs:List (Nat×List SV)}(hp:kV S parts.toList qs){cs cs':List SV}(hf:sn (λi=>pl[i]?) (zc.map SV.v) qs=some cs)(hi:cH cs cs')(hd:d<S.n)
  (next:RunT P C ops nd K rest (⟨rg++gU parts.toList,[],[],⟨some (d,.sv (.agg cs')),[],[]⟩⟩::acc) (S.set d (.sv (.agg cs')))):RunT P C ops nd K (⟨some d,.build T parts,ty,pos,aft,gd⟩::rest) acc S:=by
 refine RT.value hg (gU parts.toList) [] [] (.sv (.agg cs')) hd (by intro c h;cases h) (λS' ht _ _ E a w h=>?_) next
 have hu:=tP.h
 cases hT:P.underlying T with
 |none=>rw[hT]at hu;cases hu
 |some u=>
  rw[hT]at hu
  cases u with
  |struct fs=>
   simp only at hu
   have hz:(zeroValue T).run P w=.ok (.agg ⟨zc⟩) w:=iB.run (t:=⟨tP.hz⟩) w
   obtain⟨us,h1,h2,_⟩:=wv h (λi=>pl[i]?) hp ht (cells:=zc.map SV.v) (vs:=zc) (DA _ zc) (List.all_eq_true.1 tP.o) hf
   refine⟨.agg ⟨us⟩,?_,⟨us,Y,hi.holds h2⟩,gp⟩
   have hm:(fs.mapM (λf=>do pure (f.offset,←sizeOf f.type):Field→Sem (Nat×Nat))).run P w=.ok pl.toArray w:=by
    have:=pB (P:=P) (w:=w) hu
    rw[←Array.toArray_toList (xs:=fs),List.mapM_toArray]
    rw[Sem.run_map,this];rfl
   have h1':Instr.fill (λi=>pl.toArray[i]?) ⟨zc⟩ (parts.toList.map λp=>(p.1,a.eval p.2))=some ⟨us⟩:=by simpa using h1
   simp only[execOp,Instr.build,underlying]
   simp only[Sem.run_bind,hz,Result.andThen_ok,run_program,hT,Sem.run_pure,Value.cells]
   have hm':(Array.mapM (λf=>do
     let __do_lift←sizeOf f.type
     pure (f.offset,__do_lift)) fs:Sem _).run P w=.ok pl.toArray w:=hm
   simp only[hm',Result.andThen_ok]
   have e4:(Array.map (λx=>match x with|(i,x)=>(i,a.eval x)) parts).toList=parts.toList.map λp=>(p.1,a.eval p.2):=by simp
   simp only[e4,h1',Sem.run_pure,Result.andThen_ok]
  |_=>cases hu
theorem Pure.w{f:FuncId}{args args':List SV}{r:SV}(h:Pure P f args r)(hi:cH args' args):Pure P f args' r:=λM w vs hM hv=>h M w vs hM (hi.holds hv)
theorem RT.Wk(hg:Gd ops S gd rg){m:Nat}[tS:eA P T E0 m]{c:Int}(hx:S.ev x=.sv (slc n (l.map e)))(hd:d<S.n)(hc:(l.length:Int)=c)
  (next:RunT P C ops nd K rest (⟨rg++bg x,[],[],⟨some (d,.sv (.v (.int .i64 c))),[],[]⟩⟩::acc) (S.set d (.sv (.v (.int .i64 c))))):RunT P C ops nd K (⟨some d,.call ⟨.builtin .len,#[x],#[T]⟩,ty,pos,aft,gd⟩::rest) acc S:=
 RT.len hg hx hd (by rw[List.length_map,hc];exact next)
theorem RT.LX(hg:Gd ops S gd rg){m:Nat}[tS:eA P T E0 m]{i:Nat}{E1:TypeId}{c:Int}(hx:S.ev x=.row i)(hR:S.r i=.live (TR E1 n e l))(hd:d<S.n)(hc:(l.length:Int)=c)
  (next:RunT P C ops nd K rest (⟨rg++bg x,[],[i],⟨some (d,.sv (.v (.int .i64 c))),[],[]⟩⟩::acc) (S.set d (.sv (.v (.int .i64 c))))):RunT P C ops nd K (⟨some d,.call ⟨.builtin .len,#[x],#[T]⟩,ty,pos,aft,gd⟩::rest) acc S:=
 RT.Zj hg hx hR hd (by show RunT _ _ _ _ _ _ (⟨_,_,_,⟨some (d,.sv (.v (.int .i64 (l.length:Int)))),_,_⟩⟩::_) (S.set d (.sv (.v (.int .i64 (l.length:Int)))));rw[hc];exact next)
theorem RT.QT(hg:Gd ops S gd rg)[tS:eA P T E0 n]{kk:IntKind}{i:Int}{a:α}(hx:S.ev x=.sv (slc n (l.map e)))(hy:S.ev y=.sv (.v (.int kk i)))(hd:d<S.n)(ha:cQ l i=some a)
  (next:RunT P C ops nd K rest (⟨rg++(bg x++bg y),[],[],⟨some (d,.sv (ref (e a))),[],[]⟩⟩::acc) (S.set d (.sv (ref (e a))))):RunT P C ops nd K (⟨some d,.indexAddr T x y,ty,pos,aft,gd⟩::rest) acc S:=
 RT.indexAddr hg (e a) hx hy hd (qp ha).1 (by rw[List.getElem?_map,(qp ha).2];rfl) next
theorem RT.sw(hg:Gd ops S gd rg)[tS:eA P T E0 n]{lo hi:Option Operand}(a b:Int)(hx:S.ev x=.sv (slc n (l.map e)))(hlo:Aw S 0 lo a)(hhi:Aw S l.length hi b)(hd:d<S.n)(h:uG l a b=some l')
  (next:RunT P C ops nd K rest (⟨rg++(bg x++(nO lo++nO hi)),[],[],⟨some (d,.sv (slc n (l'.map e))),[],[]⟩⟩::acc) (S.set d (.sv (slc n (l'.map e))))):RunT P C ops nd K (⟨some d,.slice T x lo hi none,ty,pos,aft,gd⟩::rest) acc S:=by
 obtain⟨h0,h1,h2,h3⟩:=CN h
 exact RT.slice hg hx a b hlo (by rw[List.length_map];exact hhi) hd h0 h1 (by rw[List.length_map];exact h2) _ (by rw[Jb,h3]) next
theorem RT.iY(hg:Gd ops S gd rg)[tS:eA P T E0 n][tE:jO P E0 n by_ zv]{len:Nat}{parts:Array (Nat×Operand)}{qs:List (Nat×List SV)}(hp:kV S parts.toList qs)(hd:d<S.n)
  (hc:pP 0 qs=true) (hl:qs.length=len) (hsz:(qs.all λq=>Nat.beq q.2.length n)=true) (hlen:Nat.ble (len*n) 16777216=true) (Kl:(zv.cells.toList.all λv=>v.oneCell')=true) (l7:qs.map (·.2)=l.map e)
  (next:RunT P C ops nd K rest (⟨rg++gU parts.toList,[],[],⟨some (d,.sv (slc n (l.map e))),[],[]⟩⟩::acc) (S.set d (.sv (slc n (l.map e))))):RunT P C ops nd K (⟨some d,.buildSlice T len parts,ty,pos,aft,gd⟩::rest) acc S:=
 RT.buildSlice hg hp hd hc hl hsz (ae hlen) (List.all_eq_true.1 Kl) l7 next
theorem RT.DB(hg:Gd ops S gd rg)[tS:eA P T E0 n][tE:jO P E0 n by_ zv]{len:Nat}{parts:Array (Nat×Operand)}{qs:List (Nat×List SV)}(hp:kV S parts.toList qs)(hd:d<S.n)(wj:S.r d=.un)(uP:d<1000)
  (hc:pP 0 qs=true) (hl:qs.length=len) (hsz:(qs.all λq=>Nat.beq q.2.length n)=true) (hlen:Nat.ble (len*n) 16777216=true) (Kl:(zv.cells.toList.all λv=>v.oneCell')=true) (l7:qs.map (·.2)=l.map e)
  (next:RunT P C ops nd K rest (⟨rg++gU parts.toList,[],[d],⟨some (d,.row d),[],[(d,.live (TR E0 n e l))]⟩⟩::acc) ((AS.cf [(d,.live (TR E0 n e l))] S).set d (.row d))):RunT P C ops nd K (⟨some d,.buildSlice T len parts,ty,pos,aft,gd⟩::rest) acc S:=by
 refine RT.Fl hg hp hd wj uP hc hl hsz (ae hlen) (List.all_eq_true.1 Kl) (cells:=l.flatMap e) (by rw[l7,sq]) ?_
 have:len=l.length:=by have h0:=congrArg List.length l7;simpa[hl]using h0
 rw[this];exact next
theorem RT.apR(hg:Gd ops S gd rg)[tS:eA P T E0 n][tE:jO P E0 n by_ zv]{i:Nat}(hx:S.ev x=.row i)(hR:S.r i=.live (TR E0 n e l))(hy:S.ev y=.sv (slc n (k.map e)))(hd:d<S.n)(wj:S.r d=.un)(uP:d<1000)(h:rM by_ l k=some l')
  (next:RunT P C ops nd K rest (⟨rg++(bg x++bg y),[],[i,d],⟨some (d,.row d),[],[(i,.dead),(d,.live (TR E0 n e l'))]⟩⟩::acc) ((AS.cf [(i,.dead),(d,.live (TR E0 n e l'))] S).set d (.row d))):RunT P C ops nd K (⟨some d,.call ⟨.builtin .append,#[x,y],#[T,T]⟩,ty,pos,aft,gd⟩::rest) acc S:=by
 obtain⟨h1,h2,rfl⟩:=wE h
 exact RT.OH hg hx hR hy hd wj uP (by simpa using h1) (by simpa using h2) _ (by simp[sq]) next
theorem RT.S3(hg:Gd ops S gd rg)[tS:eA P T E0 n][tE:jO P E0 n by_ zv][el:EL e n]{i:Nat}(hx:S.ev x=.row i)(hR:S.r i=.live (TR E0 n e l))(hy:S.ev y=.sv (slc n (k.map e)))(hd:d<S.n)(wj:S.r d=.un)(uP:d<1000)(h:rM by_ l k=some l')
  (next:RunT P C ops nd K rest (⟨rg++(bg x++bg y),[],[d,i],⟨some (d,.sv (slc n (l'.map e))),[],[(i,.dead),(d,.dead)]⟩⟩::acc) ((AS.cf [(i,.dead),(d,.dead)] S).set d (.sv (slc n (l'.map e))))):RunT P C ops nd K (⟨some d,.call ⟨.builtin .append,#[x,y],#[T,T]⟩,ty,pos,aft,gd⟩::rest) acc S:=by
 obtain⟨h1,h2,rfl⟩:=wE h
 have hf:l.flatMap e++(k.map e).flatten=(l++k).flatMap e:=by simp[sq]
 exact RT.Jf hg (.row hx hR) hy hd wj uP (by simpa using h1) (by simpa using h2) _ (rows':=(l++k).map e) (λ_ _ h _=>h) (by rw[hf];exact su _) (by simp) (by rw[hf];exact og _) next
theorem CP(zc:Array Value)(n:Nat)(hz:zc.size=n)(hn:0<n):∀m:Nat,(madeCells zc (m*n)).toList=(List.replicate m zc.toList).flatten
 |0=>by simp[madeCells]
 |m+1=>by
  have ih:=CP zc n hz hn m
  rw[List.replicate_succ',List.flatten_append,←ih]
  simp only[madeCells,Array.toList_map,Array.toList_range,List.flatten_cons,List.flatten_nil,List.append_nil]
  rw[show(m+1)*n=m*n+n by rw[Nat.add_mul];omega,List.range_add,List.map_append,List.map_map]
  congr 1
  apply List.ext_getElem?
  intro i
  rw[List.getElem?_map]
  rcases Nat.lt_or_ge i n with hi|hi
  ·rw[List.getElem?_range hi]
   simp only[Option.map_some,Function.comp]
   rw[hz,Nat.mul_comm m n,Nat.mul_add_mod,Nat.mod_eq_of_lt hi]
   rw[getElem!_pos zc i (by omega),Array.getElem?_toList,Array.getElem?_eq_getElem (by omega)]
  ·rw[List.getElem?_eq_none (by simpa using hi),List.getElem?_eq_none (by simp;omega)];rfl
theorem Fu:∀{a b c d:List SV},cH a c→cH b d→cH (a++b) (c++d)
 |[],_,[],_,_,h=>h
 |_::_,_,_::_,_,h,h'=>⟨h.1,Fu h.2 h'⟩
 |[],_,_::_,_,h,_=>h.elim
 |_::_,_,[],_,h,_=>h.elim
theorem Fv{zl:List Value}{zz:α}(hi:cH (zl.map SV.v) (e zz)):∀m:Nat,cH ((List.replicate m zl).flatten.map SV.v) ((List.replicate m zz).flatMap e)
 |0=>trivial
 |m+1=>by
  rw[List.replicate_succ,List.replicate_succ,List.flatten_cons,List.map_append,List.flatMap_cons]
  exact Fu hi (Fv hi m)
theorem RT.sx(hg:Gd ops S gd rg)[tS:eA P T E0 n][tE:jO P E0 n by_ zv]{kl kc:IntKind}{c:Int}{zz:α}(hx:S.ev x=.sv (.v (.int kl c)))(hy:S.ev y=.sv (.v (.int kc c)))(hd:d<S.n)(wj:S.r d=.un)(uP:d<1000)(hz:zv.cells.size=n)(hn:0<n)(hi:cH (zv.cells.toList.map SV.v) (e zz))(hm:EX by_ c zz=some l')
  (next:RunT P C ops nd K rest (⟨rg++(bg x++bg y),[],[d],⟨some (d,.row d),[],[(d,.live (TR E0 n e l'))]⟩⟩::acc) ((AS.cf [(d,.live (TR E0 n e l'))] S).set d (.row d))):RunT P C ops nd K (⟨some d,.makeSlice T x y,ty,pos,aft,gd⟩::rest) acc S:=by
 obtain⟨h0,hroom,si,rfl⟩:=LS hm
 refine .inl ⟨_,[],[d],_,?_,next⟩
 rintro S' hn' ht _ hr i a w L Q ho ⟨E,h⟩ hL
 refine cI (C:=C) ho (hg.wanted h (λs hs=>ht s (List.mem_append_left _ hs)) Y) ?_
 have h1:a.eval x=.int kl c:=by have h1:=h.ev x;rw[bB (λ_ h=>List.mem_append_right _ (List.mem_append_left _ h)) ht,hx]at h1;exact h1
 have h2:a.eval y=.int kc c:=by have h2:=h.ev y;rw[bB (λ_ h=>List.mem_append_right _ (List.mem_append_right _ h)) ht,hy]at h2;exact h2
 obtain⟨info,hii,hsz,hby,Zp⟩:=jO.info (P:=P) (E:=E0) (n:=n) (by_:=by_) (z:=zv)
 obtain⟨m,rfl⟩:=Int.eq_ofNat_of_zero_le h0
 have hb':info.bytes*m≤281474976710656:=by
  rw[hby]
  have:((by_*m:Nat):Int)≤281474976710656:=by rw[Int.natCast_mul];exact hroom
  omega
 obtain⟨w',q1,q2,q3⟩:=run_make_full (P:=P) w 0 T E0 info zv n tS.u hii Zp hsz kl kc m hb' (by unfold maxLen;omega) (Nat.zero_le _)
 have hr':(execOp a.eval ⟨some d,.makeSlice T x y,ty,pos,aft,gd⟩).run P w=.ok (.value (.slice (some ⟨w.heap.size,0,none⟩) m m)) w':=by
  simp only[execOp,h1,h2]
  simp[q1]
 have HJ:S'.r d=.un:=by rw[hr d (by simp)];exact wj
 have e0:(m:Int).toNat=m:=by simp
 have hall:SV.dX E.M ((List.replicate m zz).flatMap e) (madeCells zv.cells (m*n)).toList:=by
  rw[CP zv.cells n hz hn]
  exact cH.holds (l:=((List.replicate m zv.cells.toList).flatten.map SV.v)) (Fv hi m) (DA _ _)
 have hlen:(List.replicate (m:Int).toNat zz).length=m:=by simp
 refine cJ (C:=C) (by intro c h;cases h) hr' (hL _ _ ⟨_,(h.newRow HJ uP [] none (.inl ⟨rfl,rfl⟩) (R':=TR E0 n e (List.replicate (m:Int).toNat zz)) (by show w'.ownsRow 0 E0 n _ (List.replicate (m:Int).toNat zz).length _;rw[hlen];exact q2) (by rw[e0];exact hall) (.inr (.inl rfl)) q3).put (d:=d) (x:=.row d) (v:=.slice (some ⟨w.heap.size,0,none⟩) m m) (by simp[AV.holds]) (by show d<S'.n;omega) ⟨λ_ e=>e.elim,λj e=>?_⟩⟩)
 cases e
 show(AS.qj S' d _).r d≠_
 rw[AS.gC];simp
theorem RT.Jh(hg:Gd ops S gd rg)[tS:eA P T E0 n][tE:jO P E0 n by_ zv]{kl kc:IntKind}{c:Int}(hx:S.ev x=.sv (.v (.int kl 0)))(hy:S.ev y=.sv (.v (.int kc c)))(hd:d<S.n)(wj:S.r d=.un)(uP:d<1000)(h:OU (α:=α) by_ c=some l')
  (next:RunT P C ops nd K rest (⟨rg++(bg x++bg y),[],[d],⟨some (d,.row d),[],[(d,.live (TR E0 n e l'))]⟩⟩::acc) ((AS.cf [(d,.live (TR E0 n e l'))] S).set d (.row d))):RunT P C ops nd K (⟨some d,.makeSlice T x y,ty,pos,aft,gd⟩::rest) acc S:=by
 obtain⟨h0,h1,h2,rfl⟩:=LU h
 exact RT.VR hg hx hy hd wj uP h0 h1 h2 next
theorem RT.OX(hg:Gd ops S gd rg)[tS:eA P T E0 n]{i j:Nat}{E1:TypeId}{kk:IntKind}{v:Int}(hx:S.ev x=.row i)(hR:S.r i=.live (TR E1 n e l))(hy:S.ev y=.sv (.v (.int kk v)))(hd:d<S.n)(h:vm l v=some j)
  (next:RunT P C ops nd K rest (⟨rg++(bg x++bg y),[],[i],⟨some (d,.iW i (j*n)),[],[]⟩⟩::acc) (S.set d (.iW i (j*n)))):RunT P C ops nd K (⟨some d,.indexAddr T x y,ty,pos,aft,gd⟩::rest) acc S:=by
 obtain⟨h0,h1,h2⟩:=LR h
 exact RT.ixR hg (.row hx hR) hy hd h0 h1 (j*n) (by rw[h2];omega) next
theorem RT.LY(hg:Gd ops S gd rg)[tV:qN P T][el:EL e 1]{i j:Nat}{E1:TypeId}{a:α}{s:SV}(hx:S.ev x=.iW i (j*1))(hR:S.r i=.live (TR E1 1 e l))(ha:l[j]? =some a)(hs:e a=[s])(hd:d<S.n)
  (next:RunT P C ops nd K rest (⟨rg++bg x,[],[i],⟨some (d,.sv s),[],[]⟩⟩::acc) (S.set d (.sv s))):RunT P C ops nd K (⟨some d,.load T x,ty,pos,aft,gd⟩::rest) acc S:=by
 refine RT.ldR hg hx hR (s:=s) ?_ hd next
 have:=Fs (e:=e) ha
 rw[hs]at this
 have h2:=congrArg (·[0]?) this
 simpa[List.getElem?_take]using h2
theorem OY(a:List SV)(k:Nat)(s:SV):a.set k s=kx a k [s]:=rfl
theorem RT.ZT(hg:Gd ops S gd rg)[tV:qN P T][el:EL e 1]{i j:Nat}{E1:TypeId}{s:SV}[o1:One s](a:α)(hs:e a=[s])(hx:S.ev x=.iW i (j*1))(hR:S.r i=.live (TR E1 1 e l))(hy:S.ev y=.sv s)(h:stM l j a=some l')
  (next:RunT P C ops nd K rest (⟨rg++(bg x++bg y),[],[i],⟨none,[],[(i,.live (TR E1 1 e l'))]⟩⟩::acc) (AS.cf [(i,.live (TR E1 1 e l'))] S)):RunT P C ops nd K (⟨none,.store T x y,ty,pos,aft,gd⟩::rest) acc S:=by
 obtain⟨h1,rfl⟩:=Fq h
 refine RT.stR hg hx hR hy (by show j*1+1≤l.length*1;omega) ((l.set j a).flatMap e) (by rw[OY,←hs];exact Ft h1) ?_
 have:(TR E1 1 e (l.set j a))=⟨E1,1,l.length,(l.set j a).flatMap e⟩:=by show Row.mk _ _ _ _=_;rw[List.length_set]
 rw[←this];exact next
theorem RT.Wm(hg:Gd ops S gd rg)[tA:xO P T n][el:EL e n]{i j:Nat}{E1:TypeId}(a:α)(hx:S.ev x=.iW i (j*n))(hR:S.r i=.live (TR E1 n e l))(hy:S.ev y=.sv (.agg (e a)))(h:stM l j a=some l')
  (next:RunT P C ops nd K rest (⟨rg++(bg x++bg y),[],[i],⟨none,[],[(i,.live (TR E1 n e l'))]⟩⟩::acc) (AS.cf [(i,.live (TR E1 n e l'))] S)):RunT P C ops nd K (⟨none,.store T x y,ty,pos,aft,gd⟩::rest) acc S:=by
 obtain⟨h1,rfl⟩:=Fq h
 have o1:=el.one a
 refine RT.Zt hg hx hR hy (el.len a) (by show j*n+n≤l.length*n;have:=Nat.mul_le_mul_right n h1;rw[Nat.succ_mul]at this;exact this) ((l.set j a).flatMap e) (Ft h1) ?_
 have:(TR E1 n e (l.set j a))=⟨E1,n,l.length,(l.set j a).flatMap e⟩:=by show Row.mk _ _ _ _=_;rw[List.length_set]
 rw[←this];exact next
end steps
theorem dR{S:AS}{i n:Nat}{E1:TypeId}{α:Type}{e:α→List SV}{l:List α}[el:EL e n](hR:S.r i=.live (TR E1 n e l)):r8 S (S.nN i (slc n (l.map e))):=by
 rintro C a w ⟨E,h⟩
 have hlen:l.length≤9223372036854775807:=by
  obtain⟨⟨vs,ho,hv⟩,_⟩:=h.rx i _ hR
  rcases ho.2 with⟨_,q2⟩|⟨g',cap,cur,q1,_,q2,q3,q4,q5,q6⟩
  ·have q2:l.length=0:=q2
   omega
  ·have q3:l.length≤cap:=q3
   have:maxLen=9223372036854775807:=by decide
   omega
 exact h.nN hR (su l) (by rw[List.length_map]) hlen (og l) (λ_ _ h _=>h)
section control
variable {P:Program}{C:Ctx}{S:AS}{Q:Exit→AS→Prop}
theorem bC{A:Code}{J R:Type}{kB:J→Option R}{fA:(J→Option R)→Option R}{r:R}(h:cm kB fA=some r)(I:J→AS)
  (hA:fA kB=some r→Ok P C A S (aV (λS'=>∃j,kB j=some r∧r8 S' (I j)) Q)) (hQ:∀j,kB j=some r→Q .normal (I j)):Ok P C A S Q:=λa w hs=>by
 refine wpIn_mono (hA h a w hs) ?_
 rintro e a' w' ⟨S',q,hh⟩
 cases e with
 |normal=>obtain⟨j,h1,h2⟩:=q;exact⟨_,hQ j h1,h2 C a' w' hh⟩
 |_=>exact⟨S',q,hh⟩
theorem bL{A:Code}{X:Type}(I:X→AS)(p:X→Prop)(hA:Ok P C A S (aV (λS'=>∃j,p j∧r8 S' (I j)) Q))(hQ:∀j,p j→Q .normal (I j)):Ok P C A S Q:=λa w hs=>by
 refine wpIn_mono (hA a w hs) ?_
 rintro e a' w' ⟨S',q,hh⟩
 cases e with
 |normal=>obtain⟨j,h1,h2⟩:=q;exact⟨_,hQ j h1,h2 C a' w' hh⟩
 |_=>exact⟨S',q,hh⟩
theorem bM{c:Code}{T E:Type}{body:T→Option (T⊕E)}{s0:T}{e:E}(h:b9 body s0=some e)(I:T→AS)(h0:r8 S (I s0))
  (round:∀(s:T) (y:T⊕E) (G:T→Prop),body s=some y→(∀s',y=.inl s'→G s')→(∀e',y=.inr e'→e'=e)→Ok P C c (I s) (aV (λS'=>∃s',G s'∧r8 S' (I s')) Q)):Ok P C (.loop c) S Q:=by
 obtain⟨n,hn⟩:=vo h
 refine pA (ι:={x:T×Nat//nP body x.2 x.1=some e}) (λx=>I x.1.1) (λx=>x.1.2) ⟨(s0,n),hn⟩ h0 ?_
 rintro⟨⟨s,m⟩,hm⟩
 cases m with
 |zero=>cases hm
 |succ m=>
  cases hb:body s with
  |none=>simp only[nP,hb]at hm;cases hm
  |some y=>
   refine Dm (round s y (λs'=>nP body m s'=some e) hb ?_ ?_) ?_
   ·rintro s' rfl;simpa only[nP,hb]using hm
   ·rintro e' rfl;simp only[nP,hb]at hm;exact Option.some.inj hm
   ·intro ex S' q
    cases ex with
    |normal=>obtain⟨s',h1,h2⟩:=q;exact⟨⟨(s',m),h1⟩,Nat.lt_succ_self m,h2⟩
    |_=>exact q
end control
end
section
open Go.RowKit
abbrev On:=List UInt8
def bs(l:On):ByteArray:=⟨⟨l⟩⟩
def uS(l:On)(i:Int):Option Nat:=(cQ l i).map UInt8.toNat
theorem OZ(l:On):(bs l).size=l.length:=rfl
theorem S4(l:On)(i:Nat):(bs l)[i]? =l[i]? :=by
 rcases Nat.lt_or_ge i l.length with h|h
 ·rw[getElem?_pos (bs l) i h,List.getElem?_eq_getElem h];rfl
 ·rw[getElem?_neg (bs l) i (by rw[OZ];omega),List.getElem?_eq_none h]
section steps
variable {P:Program}{C:Ctx}{ops:Array Oper}{S:AS}{nd:Bool}{K:List Ac→AS→Prop}{rest:List Oper}{acc:List Ac}
variable {gd:Option (Nat×Bool)}{rg:List Nat}{d:Nat}{ty:TypeId}{pos:String}{aft:Array Edge}{x y z:Operand}{T U E0:TypeId}
variable {l l' k:On}
theorem RT.skV{op:Op}{j g:Nat}{b want:Bool}(h1:(ops[j]?).bind (·.dst)=some g)(h2:S.t g=.sv (.v (.bool b)))(hb:b≠want)(hd:d<S.n)
  (next:RunT P C ops nd K rest (⟨[g],[],[],⟨some (d,.sv (.v undef)),[],[]⟩⟩::acc) (S.set d (.sv (.v undef)))):RunT P C ops nd K (⟨some d,op,ty,pos,aft,some (j,want)⟩::rest) acc S:=by
 refine .inl ⟨[g],[],[],⟨some (d,.sv (.v undef)),[],[]⟩,?_,next⟩
 rintro S' hn ht _ _ i a w L Q ho ⟨E,h⟩ hL
 have hv:=h.tm g
 rw[ht g (by simp),h2]at hv
 have hv:a.tmps.getD g undef=.bool b:=hv
 have Dp:a.tmps[g]? =some (.bool b):=by
  rw[Array.getD_eq_getD_getElem?]at hv
  cases e:a.tmps[g]? with
  |none=>rw[e]at hv;simp[undef]at hv
  |some x=>rw[e]at hv;simp at hv;rw[hv]
 have hw:Region.wanted ⟨some d,op,ty,pos,aft,some (j,want)⟩ (yielded ops a.tmps)=false:=by
  simp[Region.wanted,yielded,h1,Dp,hb]
 simp only[wpOpIn,ho,hw]
 exact⟨λ_ _=>trivial,hL _ _ ⟨E,h.put (x:=.sv (.v undef)) (v:=undef) Y (by omega) ⟨λ_ h=>h.elim,λ_ h=>h.elim⟩⟩⟩
theorem RT.Wn{op:Op}{j g:Nat}{want:Bool}(h1:(ops[j]?).bind (·.dst)=some g)(h2:S.t g=.sv (.v undef))(hd:d<S.n)
  (next:RunT P C ops nd K rest (⟨[g],[],[],⟨some (d,.sv (.v undef)),[],[]⟩⟩::acc) (S.set d (.sv (.v undef)))):RunT P C ops nd K (⟨some d,op,ty,pos,aft,some (j,want)⟩::rest) acc S:=by
 refine .inl ⟨[g],[],[],⟨some (d,.sv (.v undef)),[],[]⟩,?_,next⟩
 rintro S' hn ht _ _ i a w L Q ho ⟨E,h⟩ hL
 have hv:=h.tm g
 rw[ht g (by simp),h2]at hv
 have hv:a.tmps.getD g undef=undef:=hv
 rw[Array.getD_eq_getD_getElem?]at hv
 have hw:Region.wanted ⟨some d,op,ty,pos,aft,some (j,want)⟩ (yielded ops a.tmps)=false:=by
  cases e:a.tmps[g]? with
  |none=>simp[Region.wanted,yielded,h1,e]
  |some x=>
   rw[e]at hv
   simp only[Option.getD_some]at hv
   subst hv
   simp[Region.wanted,yielded,h1,e,undef]
 simp only[wpOpIn,ho,hw]
 exact⟨λ_ _=>trivial,hL _ _ ⟨E,h.put (x:=.sv (.v undef)) (v:=undef) Y (by omega) ⟨λ_ h=>h.elim,λ_ h=>h.elim⟩⟩⟩
theorem RT.six(hg:Gd ops S gd rg)[tS:QF P T]{kk:IntKind}{i:Int}{c:Nat}(hx:S.ev x=.sv (.v (.string (bs l))))(hy:S.ev y=.sv (.v (.int kk i)))(hd:d<S.n)(h:uS l i=some c)
  (next:RunT P C ops nd K rest (⟨rg++(bg x++bg y),[],[],⟨some (d,.sv (.v (.int .u8 (c:Nat)))),[],[]⟩⟩::acc) (S.set d (.sv (.v (.int .u8 (c:Nat)))))):RunT P C ops nd K (⟨some d,.index T x y,ty,pos,aft,gd⟩::rest) acc S:=
 RT.Hx hg (by intro c h;cases h) hx hy hd (λρ w h1 h2=>by
  unfold uS at h
  cases hh:cQ l i with
  |none=>rw[hh]at h;cases h
  |some b=>
   rw[hh]at h
   obtain⟨q1,q2⟩:=qp hh
   have q3:b.toNat=c:=Option.some.inj h
   have q4:(bs l)[i.toNat]? =some b:=by rw[S4];exact q2
   simp[execOp,h1,h2,Instr.index,asIntOf,underlying,tS.h,q1,q4,q3]) next
end steps
section rows
variable {P:Program}{C:Ctx}{ops:Array Oper}{S:AS}{nd:Bool}{K:List Ac→AS→Prop}{rest:List Oper}{acc:List Ac}
variable {gd:Option (Nat×Bool)}{rg:List Nat}{d:Nat}{ty:TypeId}{pos:String}{aft:Array Edge}{x y z:Operand}{T U E0:TypeId}
variable {α:Type}{l l' k:List α}{e:α→List SV}{n by_:Nat}{zv:Value}
end rows
end
section
open Go.RowKit
def uT{α:Type}(l l':List α):Option Unit:=if l'.length=l.length then some ()else none
theorem mh{α:Type}{l l':List α}{u:Unit}(h:uT l l'=some u):l'.length=l.length:=by
 unfold uT at h;split at h
 ·assumption
 ·cases h
def S5{α:Type}(l:List α)(lo hi:Int):Option (Nat×Nat):=if 0≤lo∧lo<l.length∧lo≤hi∧hi≤l.length then some (lo.toNat,(hi-lo).toNat)else none
theorem LZ{α:Type}{l:List α}{lo hi:Int}{o n:Nat}(h:S5 l lo hi=some (o,n)):0≤lo∧lo<l.length∧lo≤hi∧hi≤l.length∧lo.toNat=o∧(hi-lo).toNat=n:=by
 unfold S5 at h;split at h
 ·rename_i hh
  obtain⟨q1,q2⟩:=Prod.mk.inj (Option.some.inj h)
  exact⟨hh.1,hh.2.1,hh.2.2.1,hh.2.2.2,q1,q2⟩
 ·cases h
def Oo(o n:Nat)(i:Int):Option Nat:=if 0≤i∧i<n then some (o+i.toNat)else none
theorem L0{o n j:Nat}{i:Int}(h:Oo o n i=some j):0≤i∧i<n∧o+i.toNat=j:=by
 unfold Oo at h;split at h
 ·rename_i hh;exact⟨hh.1,hh.2,Option.some.inj h⟩
 ·cases h
theorem cH.get:∀{l l':List SV} {k:Nat} {s':SV},cH l l'→l'[k]? =some s'→∃s,l[k]? =some s∧SV.imp s s'
 |x::_,y::_,0,_,h,e=>⟨x,Y,by simp at e;subst e;exact h.1⟩
 |_::l,_::l',k+1,_,h,e=>by simpa using cH.get (l:=l) (l':=l') h.2 (by simpa using e)
 |[],[],_,_,_,e=>by simp at e
 |[],_::_,_,_,h,_=>h.elim
 |_::_,[],_,_,h,_=>h.elim
theorem cH.len:∀{l l':List SV},cH l l'→l'.length=l.length
 |[],[],_=>rfl
 |_::_,_::_,h=>congrArg (· +1) (cH.len h.2)
 |[],_::_,h=>h.elim
 |_::_,[],h=>h.elim
theorem Ji{α:Type}{e:α→List SV}{l:List α}{n:Nat}{M:Mem}{v:Value}(h:(slc n (l.map e)).h M v):l.length≤9223372036854775807:=by
 rcases h with⟨_,_,h⟩|⟨b,o,c,_,_,h,_⟩
 ·have:l=[]:=by simpa using h
  subst this;simp
 ·rwa[List.length_map]at h
theorem ud{α:Type}{e:α→List SV}{l:List α}{n:Nat}{M:Mem}{v:Value}(h:(ref [slc n (l.map e)]).h M v):l.length≤9223372036854775807:=by
 obtain⟨b,o,_,h⟩:=h
 obtain⟨y,_,_,h⟩:=h 0 _ Y
 exact Ji h
theorem vv{l:List Nat}{i:Nat}(h:l.length≤i):l.getD i 0=0:=by simp[List.getD,List.getElem?_eq_none h]
theorem sy{l:List Nat}{i:Nat}(h:i<l.length):l[i]? =some (l.getD i 0):=by simp[List.getD,h]
theorem dA{α:Type}{l:List α}{d:α}{i:Nat}(h:l.length≤i):l.getD i d=d:=by simp[List.getD,List.getElem?_eq_none h]
theorem cD{α:Type}{l:List α}{d:α}{i:Nat}(h:i<l.length):l[i]? =some (l.getD i d):=by simp[List.getD,h]
theorem AK{α β:Type}(a:List α)(b:List β)(i:Nat)(h:i≤max a.length b.length):(i<max a.length b.length∧i<a.length∧i<b.length)∨(i<max a.length b.length∧i<a.length∧b.length≤i)∨(i<max a.length b.length∧a.length≤i∧i<b.length)∨i=max a.length b.length:=by omega
section steps
variable {P:Program}{C:Ctx}{ops:Array Oper}{S:AS}{nd:Bool}{K:List Ac→AS→Prop}{rest:List Oper}{acc:List Ac}
variable {gd:Option (Nat×Bool)}{rg:List Nat}{d:Nat}{ty:TypeId}{pos:String}{aft:Array Edge}{x y z:Operand}{T U E0:TypeId}
variable {α:Type}{l l' k:List α}{e:α→List SV}{n by_:Nat}{zv:Value}
theorem S6{E1:TypeId}(h:l'.length=l.length):(⟨E1,n,l.length,l'.flatMap e⟩:Row)=TR E1 n e l':=by show _=Row.mk _ _ _ _;rw[h]
theorem RT.S7(hg:Gd ops S gd rg){f:FuncId}[cW P f]{g:Operand}{xs:Array Operand}{at_:Array TypeId}{args:List AV}{E1:TypeId}{res:AV}(hp:HM P f args (TR E1 n e l) res (l'.flatMap e))(hlen:l'.length=l.length)(i:Nat)(hR:S.r i=.live (TR E1 n e l))(hrow:args.all AV.xW=true)(hres:res.xW=true)
  (hf:S.ev g=.sv (.v (.func (.func f) #[] #[]))) (hargs:Du S xs.toList (args.map (AV.yS i))) (hd:d<S.n)
  (next:RunT P C ops nd K rest (⟨rg++(bg g++xs.toList.flatMap bg),[],[i],⟨some (d,res.yS i),[],[(i,.live (TR E1 n e l'))]⟩⟩::acc) ((AS.cf [(i,.live (TR E1 n e l'))] S).set d (res.yS i))):RunT P C ops nd K (⟨some d,.call ⟨.value g,xs,at_⟩,ty,pos,aft,gd⟩::rest) acc S:=
 RT.V0 hg hp i hR hrow hres hf hargs hd (by rw[S6 hlen];exact next)
theorem RT.Wo(hg:Gd ops S gd rg)[tS:eA P T E0 n]{i o m:Nat}{E1:TypeId}{lo hi:Option Operand}(a b:Int)(hx:S.ev x=.row i)(hR:S.r i=.live (TR E1 n e l))(hlo:Aw S 0 lo a)(hhi:Aw S l.length hi b)(hd:d<S.n)(h:S5 l a b=some (o,m))
  (next:RunT P C ops nd K rest (⟨rg++(bg x++(nO lo++nO hi)),[],[i],⟨some (d,.nD i (o*n) m),[],[]⟩⟩::acc) (S.set d (.nD i (o*n) m))):RunT P C ops nd K (⟨some d,.slice T x lo hi none,ty,pos,aft,gd⟩::rest) acc S:=by
 obtain⟨h0,h1,h2,h3,h4,h5⟩:=LZ h
 exact RT.SK hg (.row hx hR) a b hlo hhi hd h0 h1 h2 h3 (o*n) m (by rw[h4];omega) h5 next
theorem RT.S8(hg:Gd ops S gd rg){m:Nat}[tS:eA P T E0 m]{i o q:Nat}{c:Int}(hx:S.ev x=.nD i o q)(hd:d<S.n)(hc:(q:Int)=c)
  (next:RunT P C ops nd K rest (⟨rg++bg x,[],[],⟨some (d,.sv (.v (.int .i64 c))),[],[]⟩⟩::acc) (S.set d (.sv (.v (.int .i64 c))))):RunT P C ops nd K (⟨some d,.call ⟨.builtin .len,#[x],#[T]⟩,ty,pos,aft,gd⟩::rest) acc S:=
 RT.VZ hg hx hd (by rw[hc];exact next)
theorem RT.Fx(hg:Gd ops S gd rg)[tS:eA P T E0 n]{i o q j:Nat}{kk:IntKind}{v:Int}(hx:S.ev x=.nD i (o*n) q)(hy:S.ev y=.sv (.v (.int kk v)))(hd:d<S.n)(h:Oo o q v=some j)
  (next:RunT P C ops nd K rest (⟨rg++(bg x++bg y),[],[],⟨some (d,.iW i (j*n)),[],[]⟩⟩::acc) (S.set d (.iW i (j*n)))):RunT P C ops nd K (⟨some d,.indexAddr T x y,ty,pos,aft,gd⟩::rest) acc S:=by
 obtain⟨h0,h1,h2⟩:=L0 h
 exact RT.ixR hg (.nD hx) hy hd h0 h1 (j*n) (by rw[←h2,Nat.add_mul]) next
end steps
def pQ{S:Type}(body:Nat→S→Option S):Nat→S→Option S
 |0,s=>some s
 |n+1,s=>(pQ body n s).bind (body n)
theorem qt{S:Type}{body:Nat→S→Option S}:∀{n:Nat} {s e:S},pQ body n s=some e→∃st:Nat→S,st 0=s∧(∀k,k<n→body k (st k)=some (st (k+1)))∧st n=e
 |0,s,e,h=>⟨λ_=>s,Y,λ_ h=>by omega,Option.some.inj h⟩
 |n+1,s,e,h=>by
  obtain⟨e1,h1,h2⟩:=bind_some (x:=pQ body n s) h
  obtain⟨st,q1,q2,q3⟩:=qt h1
  refine⟨λk=>if k=n+1 then e else st k,by simpa using q1,λk hk=>?_,by simp⟩
  rcases Nat.lt_or_ge k n with hkn|hkn
  ·simpa[show k≠n+1 by omega,show k≠n by omega]using q2 k hkn
  ·obtain rfl:k=n:=by omega
   simpa[q3]using h2
theorem CQ{S:Type}{body:Nat→S→Option S}(st:Nat→S):∀(n:Nat),(∀k,k<n→body k (st k)=some (st (k+1)))→pQ body n (st 0)=some (st n)
 |0,_=>rfl
 |n+1,h=>by
  rw[pQ,CQ st n (λk hk=>h k (by omega))]
  exact h n (by omega)
def nF{S E:Type}(body:Nat→S→Option (S⊕E)):Nat→S→Option (S⊕E)
 |0,s=>some (.inl s)
 |n+1,s=>(nF body n s).bind λr=>match r with|.inl s'=>body n s'|.inr e=>some (.inr e)
theorem CR{S E:Type}{body:Nat→S→Option (S⊕E)}:∀{n:Nat} {s:S} {r:S⊕E},nF body n s=some r→∃(m:Nat) (st:Nat→S),st 0=s∧m≤n∧(∀k,k<m→body k (st k)=some (.inl (st (k+1))))∧((m=n∧r=.inl (st n))∨(m<n∧∃e,r=.inr e∧body m (st m)=some (.inr e)))
 |0,s,r,h=>⟨0,λ_=>s,Y,Nat.le_refl _,λ_ h=>by omega,.inl ⟨Y,(Option.some.inj h).symm⟩⟩
 |n+1,s,r,h=>by
  obtain⟨r1,h1,h2⟩:=bind_some (x:=nF body n s) h
  obtain⟨m,st,q1,q2,q3,q4⟩:=CR h1
  rcases q4 with⟨rfl,rfl⟩|⟨q4,e,rfl,q5⟩
  ·simp only at h2
   cases r with
   |inr e=>exact⟨m,st,q1,by omega,q3,.inr ⟨by omega,e,Y,h2⟩⟩
   |inl s'=>
    refine⟨m+1,λk=>if k=m+1 then s' else st k,by simpa using q1,Nat.le_refl _,λk hk=>?_,.inl ⟨Y,by simp⟩⟩
    rcases Nat.lt_or_ge k m with hkn|hkn
    ·simpa[show k≠m+1 by omega,show k≠m by omega]using q3 k hkn
    ·obtain rfl:k=m:=by omega
     simpa using h2
  ·simp only at h2
   cases h2
   exact⟨m,st,q1,by omega,q3,.inr ⟨by omega,e,Y,q5⟩⟩
theorem DC{S E:Type}{body:Nat→S→Option (S⊕E)}{n m:Nat}{st:Nat→S}{r:S⊕E}(h:∀k,k<m→body k (st k)=some (.inl (st (k+1))))(hr:(m=n∧r=.inl (st n))∨(m<n∧∃e,r=.inr e∧body m (st m)=some (.inr e))){k:Nat}(hk:k<n)(hkm:k≤m):
  ∃y,body k (st k)=some y∧(∀s',y=.inl s'→k+1≤m∧s'=st (k+1))∧∀e',y=.inr e'→r=.inr e':=by
 rcases Nat.lt_or_ge k m with q|q
 ·exact⟨_,h k q,(λs' e=>⟨q,by cases e;rfl⟩),(λe' e=>by cases e)⟩
 ·obtain rfl:k=m:=by omega
  rcases hr with⟨rfl,_⟩|⟨_,e,rfl,he⟩
  ·omega
  ·exact⟨_,he,(λs' e=>by cases e),(λe' q=>by cases q;rfl)⟩
theorem Fy{S E:Type}{body:Nat→S→Option (S⊕E)}{n m:Nat}{st:Nat→S}{r:S⊕E}(hr:(m=n∧r=.inl (st n))∨(m<n∧∃e,r=.inr e∧body m (st m)=some (.inr e)))(h:n≤m):r=.inl (st n):=by
 rcases hr with⟨_,q⟩|⟨q,_⟩
 ·exact q
 ·omega
theorem ya{S E:Type}{body:Nat→S→Option (S⊕E)}{n:Nat}{s:S}{r:S⊕E}(h:nF body n s=some r):∃(m:Nat) (st:Nat→S),st 0=s∧(∀k,k<n→k≤m→∃y,body k (st k)=some y∧(∀s',y=.inl s'→k+1≤m∧s'=st (k+1))∧∀e',y=.inr e'→r=.inr e')∧(n≤m→r=.inl (st n)):=by
 obtain⟨m,st,q1,q2,q3,q4⟩:=CR h
 exact⟨m,st,q1,λk hk hm=>DC q3 q4 hk hm,λhn=>Fy q4 hn⟩
end
section
open Go.RowKit
def L1(es:List (Value×Value)):SV where
 h M v:=∃b,v=.map (some b)∧M b 0=some (.tuple ⟨es.map λp=>.tuple #[p.1,p.2]⟩)
 mono hM h:=by obtain⟨b,e,h⟩:=h;exact⟨b,e,hM _ _ _ h⟩
class Jj (P:Program) (T:TypeId) (k:outParam TypeId) (e:outParam TypeId):Prop where
 u:P.underlying T=some (.map k e)
def CS(k:IntKind)(n:Int):List (Value×Value)→Option Value
 |[]=>none
 |(.int k' m,v)::l=>if k=k' then(if n=m then some v else CS k n l)else none
 |_::_=>none
theorem uU{k:IntKind}{n:Int}{v:Value}:∀(es:List MapEntry) (i:Nat),CS k n (es.map λe=>(e.key,e.val))=some v→∃j,Instr.findNow (.int k) (.int k n) es i=some (some (j,v))
 |[],_,h=>by simp[CS]at h
 |⟨key,val,born⟩::es,i,h=>by
  cases key with
  |int k' m=>
   simp only[List.map_cons,CS]at h
   by_cases hk:k=k'
   ·subst hk
    rw[if_pos rfl]at h
    by_cases hn:n=m
    ·subst hn
     rw[if_pos rfl]at h
     cases h
     exact⟨i,by simp[Instr.findNow,Instr.sameNow]⟩
    ·rw[if_neg hn]at h
     obtain⟨j,hj⟩:=uU es (i+1) h
     have hb:(n==m)=false:=by simp[hn]
     exact⟨j,by simp[Instr.findNow,Instr.sameNow,hb,hj]⟩
   ·rw[if_neg hk]at h;cases h
  |_=>simp[CS]at h
theorem Jk:∀(l:List (Value×Value)) (m:List MapEntry),l.map (λp=>Value.tuple #[p.1,p.2])=m.map (λe=>Value.tuple #[e.key,e.val])→m.map (λe=>(e.key,e.val))=l
 |[],[],_=>rfl
 |[],_::_,h=>by simp at h
 |_::_,[],h=>by simp at h
 |(p,q)::l,e::m,h=>by
  simp only[List.map_cons,List.cons.injEq,Value.tuple.injEq]at h⊢
  refine⟨?_,Jk l m h.2⟩
  have:=h.1
  simp at this
  rw[this.1,this.2]
theorem L2{es:Array MapEntry}{l:List (Value×Value)}(h:(⟨l.map λp=>.tuple #[p.1,p.2]⟩:Array Value)=Oy es):es.toList.map (λe=>(e.key,e.val))=l:=
 Jk l es.toList (congrArg Array.toList h)
theorem getM{P:Program}{w:World}{r:Nat}{es:Array MapEntry}{ck:Nat}(hb:w.heap[r]? =some (.map es ck)):(getObj r).run P w=.ok (.map es ck) w:=by simp[getObj,Sem.run,hb]
theorem ZU{P:Program}{w:World}{r:Nat}{es:Array MapEntry}{ck:Nat}(o:Obj)(hb:w.heap[r]? =some (.map es ck)):(setObj r o).run P w=.ok () {w with heap:=w.heap.setIfInBounds r o}:=by simp[setObj,Sem.run,hb]
theorem ckM{P:Program}{w:World}{kt:TypeId}{k:IntKind}[tI:mO P kt k]{n:Int}(bb:Bool):(Instr.checkKey bb 10000 kt (.int k n)).run P w=.ok () w:=by
 rw[show(10000:Nat)=9999+1 from rfl,Instr.checkKey]
 simp[underlying,tI.h]
theorem L3{M:Mem}:∀l:List Value,SV.dX M (l.map SV.v) l
 |[]=>trivial
 |_::l=>⟨Y,L3 l⟩
section steps
variable {P:Program}{C:Ctx}{ops:Array Oper}{S:AS}{nd:Bool}{K:List Ac→AS→Prop}{rest:List Oper}{acc:List Ac}
variable {gd:Option (Nat×Bool)}{rg:List Nat}{d:Nat}{ty:TypeId}{pos:String}{aft:Array Edge}{x y z:Operand}{T U E0:TypeId}
theorem RT.look(hg:Gd ops S gd rg){kt et:TypeId}[tM:Jj P T kt et]{k:IntKind}[tI:mO P kt k]{es:List (Value×Value)}{n:Int}(cs:List Value)(hx:S.ev x=.sv (L1 es))(hy:S.ev y=.sv (.v (.int k n)))(hl:CS k n es=some (.agg ⟨cs⟩))(hd:d<S.n)
  (next:RunT P C ops nd K rest (⟨rg++(bg x++bg y),[],[],⟨some (d,.sv (.agg (cs.map SV.v))),[],[]⟩⟩::acc) (S.set d (.sv (.agg (cs.map SV.v))))):RunT P C ops nd K (⟨some d,.lookup T x y false,ty,pos,aft,gd⟩::rest) acc S:=
 RT.value hg (bg x++bg y) [] [] (.sv (.agg (cs.map SV.v))) hd (by intro c h;cases h) (λS' ht _ _ E a w h=>by
  have h1:=h.ev x
  rw[bB (λ_ h=>List.mem_append_left _ h) ht,hx]at h1
  have h2:a.eval y=.int k n:=by have h2:=h.ev y;rw[bB (λ_ h=>List.mem_append_right _ h) ht,hy]at h2;exact h2
  obtain⟨b,e,hb⟩:=h1
  obtain⟨ms,ck,hm,he⟩:=h.c8 _ _ _ hb
  have he:=L2 he
  rw[←he]at hl
  obtain⟨j,hj⟩:=uU ms.toList 0 hl
  refine⟨.agg ⟨cs⟩,?_,⟨cs,Y,?_⟩,gp⟩
  ·have ZV:(Instr.findKey kt (.int k n) ms.toList).run P w=.ok (some (j,.agg ⟨cs⟩)) w:=by
    simp[Instr.findKey,underlying,tI.h,hj]
   simp[execOp,e,h2,Instr.lookup,underlying,tM.u,getM hm,ckM,ZV]
  ·exact L3 cs) next
def sB(w:World)(ms:Array MapEntry)(ck:Nat):World:=w.alloc (.map ms ck)
theorem yc(w:World)(ms:Array MapEntry)(ck:Nat):(sB w ms ck).heap[w.heap.size]? =some (.map ms ck):=by show(w.heap.push _)[w.heap.size]? =_;simp
theorem run_make{d:Option Nat}{ρ:Operand→Value}{w:World}:(execOp ρ ⟨d,.makeMap T none,ty,pos,aft,none⟩).run P w=.ok (.value (.map (some w.heap.size))) (sB w #[] 0):=by
 simp[execOp,Instr.makeMap,sB]
theorem z9{d:Option Nat}{kt et:TypeId}[tM:Jj P T kt et]{k:IntKind}[tI:mO P kt k]{ρ:Operand→Value}{w:World}{ms:Array MapEntry}{ck:Nat}{n:Int}{v:Value}(hx:ρ x=.map (some w.heap.size))(hy:ρ y=.int k n)(hz:ρ z=v)
  (hf:Instr.findNow (.int k) (.int k n) ms.toList 0=some none):(execOp ρ ⟨d,.insert T x y z,ty,pos,aft,none⟩).run P (sB w ms ck)=.ok .skip (sB w (ms.push ⟨.int k n,v,ck⟩) (ck+1)):=by
 have ZV:(Instr.findKey kt (.int k n) ms.toList).run P (sB w ms ck)=.ok none (sB w ms ck):=by
  simp[Instr.findKey,underlying,tI.h,hf]
 have ZW:∀o:Obj,{sB w ms ck with heap:=(sB w ms ck).heap.setIfInBounds w.heap.size o}=w.alloc o:=by
  intro o
  simp only[sB,World.alloc]
  congr 1
  apply Array.ext'
  simp
 simp[execOp,hx,hy,hz,Instr.mapUpdate,underlying,tM.u,getM (yc w ms ck),ckM,ZV,ZU _ (yc w ms ck)]
 exact ZW _
theorem Aa{d:Option Nat}{z0:Value}[tP:je P U [(0,1)] [z0]]{ρ:Operand→Value}{w:World}{v:Value}(hx:ρ x=v)(hv:v.oneCell'=true):(execOp ρ ⟨d,.build U #[(0,x)],ty,pos,aft,none⟩).run P w=.ok (.value (.agg #[v])) w:=by
 have hu:=tP.h
 cases hT:P.underlying U with
 |none=>rw[hT]at hu;cases hu
 |some u=>
  rw[hT]at hu
  cases u with
  |struct fs=>
   simp only at hu
   have hz:(zeroValue U).run P w=.ok (.agg ⟨[z0]⟩) w:=iB.run (t:=⟨tP.hz⟩) w
   have hm:(fs.mapM (λf=>do pure (f.offset,←sizeOf f.type):Field→Sem (Nat×Nat))).run P w=.ok #[(0,1)] w:=by
    have:=pB (P:=P) (w:=w) hu
    rw[←Array.toArray_toList (xs:=fs),List.mapM_toArray]
    rw[Sem.run_map,this];rfl
   simp only[execOp,Instr.build,underlying]
   simp only[Sem.run_bind,hz,Result.andThen_ok,run_program,hT,Sem.run_pure,Value.cells]
   have hm':(Array.mapM (λf=>do
     let __do_lift←sizeOf f.type
     pure (f.offset,__do_lift)) fs:Sem _).run P w=.ok #[(0,1)] w:=hm
   simp only[hm',Result.andThen_ok]
   have h1':Instr.fill (λi=>(#[(0,1)]:Array (Nat×Nat))[i]?) ⟨[z0]⟩ [(0,v)]=some ⟨[v]⟩:=by
    simp[Instr.fill,iP hv]
    try rfl
   have e4:(Array.map (λx=>match x with|(i,x)=>(i,ρ x)) #[(0,x)]).toList=[(0,v)]:=by simp[hx]
   simp only[e4,h1',Sem.run_pure,Result.andThen_ok]
  |_=>cases hu
theorem O0{Q:Exit→AS→Prop}{id:Nat}{T U kt et t0:TypeId}[tM:Jj P T kt et]{k:IntKind}[tI:mO P kt k]{z0:Value}[tP:je P U [(0,1)] [z0]]{f1 f2 f3 f4:FuncId}{n1 n2 n3 n4:Int}
  {p0 p1 p2 p3 p4 p5 p6 p7 p8 p9 S9:String} {a0 a1 a2 a3 a4 a5 a6 a7 a8 a9 a10:Array Edge} {u1 u2 u3 u4 u5 u6 u7 u8 u9:TypeId} (hn:7≤S.n)
  (h2:Instr.findNow (.int k) (.int k n2) [⟨.int k n1,.agg #[.func (.func f1) #[] #[]],0⟩] 0=some none)
  (h3:Instr.findNow (.int k) (.int k n3) [⟨.int k n1,.agg #[.func (.func f1) #[] #[]],0⟩,⟨.int k n2,.agg #[.func (.func f2) #[] #[]],1⟩] 0=some none)
  (h4:Instr.findNow (.int k) (.int k n4) [⟨.int k n1,.agg #[.func (.func f1) #[] #[]],0⟩,⟨.int k n2,.agg #[.func (.func f2) #[] #[]],1⟩,⟨.int k n3,.agg #[.func (.func f3) #[] #[]],2⟩] 0=some none)
  (hQ:∀S',S'.t 0=.sv (L1 [(.int k n1,.agg #[.func (.func f1) #[] #[]]),(.int k n2,.agg #[.func (.func f2) #[] #[]]),(.int k n3,.agg #[.func (.func f3) #[] #[]]),(.int k n4,.agg #[.func (.func f4) #[] #[]])])→Q .normal S'):
  Ok P C (.region id #[⟨some 1,.makeMap T none,t0,p0,a0,none⟩,⟨some 2,.build U #[(0,.func f1)],u1,p1,a1,none⟩,⟨none,.insert T (.tmp 1) (.const (.int k n1)) (.tmp 2),u2,p2,a2,none⟩,
   ⟨some 3,.build U #[(0,.func f2)],u3,p3,a3,none⟩,⟨none,.insert T (.tmp 1) (.const (.int k n2)) (.tmp 3),u4,p4,a4,none⟩,⟨some 4,.build U #[(0,.func f3)],u5,p5,a5,none⟩,⟨none,.insert T (.tmp 1) (.const (.int k n3)) (.tmp 4),u6,p6,a6,none⟩,
   ⟨some 5,.build U #[(0,.func f4)],u7,p7,a7,none⟩,⟨none,.insert T (.tmp 1) (.const (.int k n4)) (.tmp 5),u8,p8,a8,none⟩,⟨some 6,.move (.tmp 1),u9,p9,a9,none⟩,⟨some 0,.assign (.tmp 6),u9,S9,a10,none⟩] false) S Q:=by
 rintro a w ⟨E,h⟩
 refine wpIn_region ?_
 show wpOpsIn _ _ _ _ _ [0,1,2,3,4,5,6,7,8,9,10] a w
 have hS:∀(S:AS) (d:Nat) (x:AV),(S.set d x).n=S.n:=λ_ _ _=>rfl
 rw[wpOpsIn_cons]
 refine cI (C:=C) rfl rfl (cJ (C:=C) (by intro c h;cases h) run_make ?_)
 have g1:=h.put (d:=1) (x:=.sv (.v (.map (some w.heap.size)))) (v:=.map (some w.heap.size)) Y (by omega) gp
 show wpOpsIn _ _ _ _ _ _ (a.put (some 1) _) _
 generalize a.put (some 1) (.map (some w.heap.size))=b1 at g1⊢
 rw[wpOpsIn_cons]
 refine cI (C:=C) rfl rfl (cJ (C:=C) (by intro c h;cases h) (Aa rfl rfl) ?_)
 have g2:=g1.put (d:=2) (x:=.sv (.v (.agg #[.func (.func f1) #[] #[]]))) (v:=.agg #[.func (.func f1) #[] #[]]) Y (by rw[hS];omega) gp
 show wpOpsIn _ _ _ _ _ _ (b1.put (some 2) (.agg #[.func (.func f1) #[] #[]])) _
 generalize b1.put (some 2) (.agg #[.func (.func f1) #[] #[]])=b2 at g2⊢
 rw[wpOpsIn_cons]
 refine cI (C:=C) rfl rfl (cJ (C:=C) (by intro c h;cases h) (z9 (k:=k) (n:=n1) (v:=.agg #[.func (.func f1) #[] #[]]) (g2.ev (.tmp 1)) rfl (g2.ev (.tmp 2)) rfl) ?_)
 show wpOpsIn _ _ _ _ _ _ (b2.put none undef) _
 rw[show b2.put none undef=b2 from rfl,wpOpsIn_cons]
 refine cI (C:=C) rfl rfl (cJ (C:=C) (by intro c h;cases h) (Aa rfl rfl) ?_)
 have g3:=g2.put (d:=3) (x:=.sv (.v (.agg #[.func (.func f2) #[] #[]]))) (v:=.agg #[.func (.func f2) #[] #[]]) Y (by rw[hS,hS];omega) gp
 show wpOpsIn _ _ _ _ _ _ (b2.put (some 3) (.agg #[.func (.func f2) #[] #[]])) _
 generalize b2.put (some 3) (.agg #[.func (.func f2) #[] #[]])=b3 at g3⊢
 rw[wpOpsIn_cons]
 refine cI (C:=C) rfl rfl (cJ (C:=C) (by intro c h;cases h) (z9 (k:=k) (n:=n2) (v:=.agg #[.func (.func f2) #[] #[]]) (g3.ev (.tmp 1)) rfl (g3.ev (.tmp 3)) (by simpa using h2)) ?_)
 show wpOpsIn _ _ _ _ _ _ (b3.put none undef) _
 rw[show b3.put none undef=b3 from rfl,wpOpsIn_cons]
 refine cI (C:=C) rfl rfl (cJ (C:=C) (by intro c h;cases h) (Aa rfl rfl) ?_)
 have g4:=g3.put (d:=4) (x:=.sv (.v (.agg #[.func (.func f3) #[] #[]]))) (v:=.agg #[.func (.func f3) #[] #[]]) Y (by rw[hS,hS,hS];omega) gp
 show wpOpsIn _ _ _ _ _ _ (b3.put (some 4) (.agg #[.func (.func f3) #[] #[]])) _
 generalize b3.put (some 4) (.agg #[.func (.func f3) #[] #[]])=b4 at g4⊢
 rw[wpOpsIn_cons]
 refine cI (C:=C) rfl rfl (cJ (C:=C) (by intro c h;cases h) (z9 (k:=k) (n:=n3) (v:=.agg #[.func (.func f3) #[] #[]]) (g4.ev (.tmp 1)) rfl (g4.ev (.tmp 4)) (by simpa using h3)) ?_)
 show wpOpsIn _ _ _ _ _ _ (b4.put none undef) _
 rw[show b4.put none undef=b4 from rfl,wpOpsIn_cons]
 refine cI (C:=C) rfl rfl (cJ (C:=C) (by intro c h;cases h) (Aa rfl rfl) ?_)
 have g5:=g4.put (d:=5) (x:=.sv (.v (.agg #[.func (.func f4) #[] #[]]))) (v:=.agg #[.func (.func f4) #[] #[]]) Y (by rw[hS,hS,hS,hS];omega) gp
 show wpOpsIn _ _ _ _ _ _ (b4.put (some 5) (.agg #[.func (.func f4) #[] #[]])) _
 generalize b4.put (some 5) (.agg #[.func (.func f4) #[] #[]])=b5 at g5⊢
 rw[wpOpsIn_cons]
 refine cI (C:=C) rfl rfl (cJ (C:=C) (by intro c h;cases h) (z9 (k:=k) (n:=n4) (v:=.agg #[.func (.func f4) #[] #[]]) (g5.ev (.tmp 1)) rfl (g5.ev (.tmp 5)) (by simpa using h4)) ?_)
 show wpOpsIn _ _ _ _ _ _ (b5.put none undef) _
 have e1:b5.eval (.tmp 1)=.map (some w.heap.size):=g5.ev (.tmp 1)
 obtain⟨ms,hms⟩:∃ms:Array MapEntry,(((((#[]:Array MapEntry).push ⟨.int k n1,.agg #[.func (.func f1) #[] #[]],0⟩).push ⟨.int k n2,.agg #[.func (.func f2) #[] #[]],0+1⟩).push ⟨.int k n3,.agg #[.func (.func f3) #[] #[]],0+1+1⟩).push ⟨.int k n4,.agg #[.func (.func f4) #[] #[]],0+1+1+1⟩)=ms:=⟨_,Y⟩
 rw[hms]
 have hno:∀o,E.M w.heap.size o=none:=λo=>by
  cases e:E.M w.heap.size o with
  |none=>rfl
  |some v=>have:=kQ h.c8 e;omega
 have g6:=g5.grow (M':=λb o=>if b=w.heap.size∧o=0 then some (.tuple (Oy ms))else E.M b o) (w':=sB w ms (0+1+1+1+1)) (λb o v e=>by
   have:b≠w.heap.size:=by rintro rfl;rw[hno o]at e;cases e
   simp[this,e]) (λb o v e=>by
   by_cases hb:b=w.heap.size∧o=0
   ·exact .inr (by omega)
   ·simp only[if_neg hb]at e;exact .inl e) (λb o v e=>by
   by_cases hb:b=w.heap.size∧o=0
   ·simp only[if_pos hb]at e
    obtain⟨rfl,rfl⟩:=hb
    cases e
    exact⟨ms,_,yc w ms _,Y⟩
   ·simp only[if_neg hb]at e
    have hlt:=kQ h.c8 e
    refine(h.c8 b o v e).same ?_
    show(w.heap.push _)[b]? =_
    rw[Array.getElem?_push,if_neg (by omega)]) ((Below.refl _ _).alloc (Nat.le_refl _) _)
 have hm:∀X:Env,X.M w.heap.size 0=some (.tuple (Oy ms))→(L1 [(.int k n1,.agg #[.func (.func f1) #[] #[]]),(.int k n2,.agg #[.func (.func f2) #[] #[]]),(.int k n3,.agg #[.func (.func f3) #[] #[]]),(.int k n4,.agg #[.func (.func f4) #[] #[]])]).h X.M (.map (some w.heap.size)):=λX hX=>by
  refine⟨_,Y,?_⟩
  rw[hX,←hms];rfl
 have g7:=g6.put (d:=6) (x:=.sv (.v (.map (some w.heap.size)))) (v:=.map (some w.heap.size)) Y (by rw[hS,hS,hS,hS,hS];omega) gp
 rw[show b5.put none undef=b5 from rfl,wpOpsIn_cons]
 refine cI (C:=C) rfl rfl (cJ (C:=C) (by intro c h;cases h) (r:=.ok (.value (.map (some w.heap.size))) _) (by show Result.ok (Next.value (b5.eval (.tmp 1))) _=_;rw[e1]) ?_)
 show wpOpsIn _ _ _ _ _ _ (b5.put (some 6) (.map (some w.heap.size))) _
 generalize b5.put (some 6) (.map (some w.heap.size))=b6 at g7⊢
 have e6:b6.eval (.tmp 6)=.map (some w.heap.size):=g7.ev (.tmp 6)
 have g8:=g7.put (d:=0) (x:=.sv (L1 [(.int k n1,.agg #[.func (.func f1) #[] #[]]),(.int k n2,.agg #[.func (.func f2) #[] #[]]),(.int k n3,.agg #[.func (.func f3) #[] #[]]),(.int k n4,.agg #[.func (.func f4) #[] #[]])])) (v:=.map (some w.heap.size)) (hm _ (by simp)) (by rw[hS,hS,hS,hS,hS,hS];omega) gp
 rw[wpOpsIn_cons]
 refine cI (C:=C) rfl rfl (cJ (C:=C) (by intro c h;cases h) (r:=.ok (.value (.map (some w.heap.size))) _) (by show Result.ok (Next.value (b6.eval (.tmp 6))) _=_;rw[e6]) ?_)
 show wpOpsIn _ _ _ _ _ _ (b6.put (some 0) (.map (some w.heap.size))) _
 rw[wpOpsIn]
 exact⟨_,hQ _ Y,_,g8⟩
end steps
theorem kA{P:Program}{b:Frame}{a:Act}{k:List Item}{cs:List Frame}{w:World}{c:Code}:step P (lone (b.atR a (.code (.scope c)::k)) cs w)=.next (lone (b.atR a (.code c:: .inScope c::k)) cs w):=
 step_lone_go (by simp[stepG,stepG.exec,Frame.atR])
theorem Cg{P:Program}{b:Frame}{a:Act}{k:List Item}{cs:List Frame}{w:World}{c:Code}:step P (lone (b.atR a (.inScope c::k)) cs w)=.next (lone (b.atR a k) cs w):=
 step_lone_go (by simp[stepG,stepG.exec,Frame.atR])
theorem HR{F:Fence}{n:Nat}{P:Program}{Q:Exit→Act→World→Prop}{a:Act}{w:World}{c:Code}(h:c.wpIn F n P (Exit.noGoto Q) a w):(Code.scope c).wpIn F n P Q a w:=by
 intro b k cs hro hb hr
 have h0:(lone (b.atR a (.code (.scope c)::k)) cs w).fenced P F:=fenced_calm hb hr Y
 obtain⟨e,a₁,w₁,hq,Kr⟩:=h b (.inScope c::k) cs hro hb hr
 cases e with
 |normal=>exact⟨.normal,a₁,w₁,hq,.head h0 kA (StepsIn.trans Kr (.one (fenced_calm hb hr Y) Cg))⟩
 |exit id=>
  have hx:exitTo id (.inScope c::k)=exitTo id k:=by simp[exitTo]
  exact⟨.exit id,a₁,w₁,hq,λk' hk=>.head h0 kA (Kr.1 k' (by rw[hx];exact hk)),
   λhr' hk=>let ⟨k₁,h1,h2⟩:=Kr.2 hr' (by rw[hx];exact hk);⟨k₁,h1,.head h0 kA h2⟩⟩
 |goto l=>exact hq.elim
 |ret=>exact⟨_,a₁,w₁,hq,.of_steps (.one h0 kA) Kr⟩
 |panic ch=>exact⟨_,a₁,w₁,hq,.of_steps (.one h0 kA) Kr⟩
 |outgrown=>exact⟨_,a₁,w₁,hq,.of_steps (.one h0 kA) Kr⟩
def Ta(Q:Exit→AS→Prop):Exit→AS→Prop
 |.goto _,_=>False
 |e,S=>Q e S
section scope
variable {P:Program}{C:Ctx}{S:AS}{Q:Exit→AS→Prop}
theorem Ta.r(h:Q .ret S):Ta Q .ret S:=h
theorem L4{c:Code}(h:Ok P C c S (Ta Q)):Ok P C (.scope c) S Q:=λa w hs=>by
 refine HR (wpIn_mono (h a w hs) ?_)
 rintro e a' w' ⟨S',q,hh⟩
 cases e<;>first|exact⟨S',q,hh⟩|exact q.elim
theorem L5{l:Nat}(h:Q .normal S):Ok P C (.label l) S Q:=λ_ _ hs=>wpIn_label ⟨S,h,hs⟩
end scope
end
end Go.Fw
namespace Go.Proofs.YtfoldppidpmchaaGreat
section
open Go.Fw
open Go.Proofs
noncomputable abbrev af:=Tryz.prog
instance:mO af 2 .i64:=⟨by kernel_rfl⟩
instance:qN af 2:=⟨by kernel_rfl,by kernel_rfl⟩
instance:jO af 2 1 8 (.int .i64 0):=⟨by kernel_rfl,by rfl,by decide,by decide⟩
instance:mO af 3 .i64:=⟨by kernel_rfl⟩
instance:qN af 3:=⟨by kernel_rfl,by kernel_rfl⟩
instance:iB af 3 (.int .i64 0):=⟨by kernel_rfl⟩
instance:jO af 3 1 8 (.int .i64 0):=⟨by kernel_rfl,by rfl,by decide,by decide⟩
instance:Dn af 4:=⟨by kernel_rfl⟩
instance:qN af 4:=⟨by kernel_rfl,by kernel_rfl⟩
instance:iB af 4 (.bool false):=⟨by kernel_rfl⟩
instance:mO af 5 .u8:=⟨by kernel_rfl⟩
instance:QF af 9:=⟨by kernel_rfl⟩
instance:qN af 23:=⟨by kernel_rfl,by kernel_rfl⟩
instance:jO af 23 1 24 (.slice none 0 0):=⟨by kernel_rfl,by rfl,by decide,by decide⟩
instance:eA af 23 24 1:=⟨by kernel_rfl,by kernel_rfl⟩
instance:qN af 24:=⟨by kernel_rfl,by kernel_rfl⟩
instance:iB af 24 (.slice none 0 0):=⟨by kernel_rfl⟩
instance:jO af 24 1 24 (.slice none 0 0):=⟨by kernel_rfl,by rfl,by decide,by decide⟩
instance:eA af 24 36 4:=⟨by kernel_rfl,by kernel_rfl⟩
instance:xO af 26 4:=⟨by kernel_rfl,by kernel_rfl⟩
instance:iB af 26 (.agg #[.int .i64 0,.slice none 0 0,.slice none 0 0,.slice none 0 0]):=⟨by kernel_rfl⟩
instance:je af 26 [(0,1),(1,1),(2,1),(3,1)] [.int .i64 0,.slice none 0 0,.slice none 0 0,.slice none 0 0]:=⟨by kernel_rfl,by kernel_rfl,by rfl⟩
instance:CK af 26 0 0 3:=⟨by kernel_rfl⟩
instance:CK af 26 1 1 23:=⟨by kernel_rfl⟩
instance:CK af 26 2 2 23:=⟨by kernel_rfl⟩
instance:CK af 26 3 3 24:=⟨by kernel_rfl⟩
instance:qN af 32:=⟨by kernel_rfl,by kernel_rfl⟩
instance:iB af 32 (.slice none 0 0):=⟨by kernel_rfl⟩
instance:eA af 32 106 1:=⟨by kernel_rfl,by kernel_rfl⟩
instance:xO af 34 2:=⟨by kernel_rfl,by kernel_rfl⟩
instance:Fe af 34:=⟨λw=>⟨1,xO.size (T:=34) (n:=2) w⟩⟩
instance:iB af 34 (.agg #[.bool false,.slice none 0 0]):=⟨by kernel_rfl⟩
instance:jO af 34 2 32 (.agg #[.bool false,.slice none 0 0]):=⟨by kernel_rfl,by rfl,by decide,by decide⟩
instance:je af 34 [(0,1),(1,1)] [.bool false,.slice none 0 0]:=⟨by kernel_rfl,by kernel_rfl,by rfl⟩
instance:CK af 34 0 0 4:=⟨by kernel_rfl⟩
instance:CK af 34 1 1 32:=⟨by kernel_rfl⟩
instance:xO af 36 4:=⟨by kernel_rfl,by kernel_rfl⟩
instance:iB af 36 (.agg #[.bool false,.slice none 0 0,.bool false,.slice none 0 0]):=⟨by kernel_rfl⟩
instance:jO af 36 4 64 (.agg #[.bool false,.slice none 0 0,.bool false,.slice none 0 0]):=⟨by kernel_rfl,by rfl,by decide,by decide⟩
instance:je af 36 [(0,2),(2,2)] [.bool false,.slice none 0 0,.bool false,.slice none 0 0]:=⟨by kernel_rfl,by kernel_rfl,by rfl⟩
instance:CK af 36 0 0 34:=⟨by kernel_rfl⟩
instance:CK af 36 1 2 34:=⟨by kernel_rfl⟩
instance:qN af 62:=⟨by kernel_rfl,by kernel_rfl⟩
instance:jO af 62 1 24 (.slice none 0 0):=⟨by kernel_rfl,by rfl,by decide,by decide⟩
instance:eA af 62 2 1:=⟨by kernel_rfl,by kernel_rfl⟩
instance:xO af 71 4:=⟨by kernel_rfl,by kernel_rfl⟩
instance:iB af 71 (.agg #[.int .i64 0,.int .i64 0,.int .i64 0,.int .i64 0]):=⟨by kernel_rfl⟩
instance:je af 71 [(0,1),(1,1),(2,1),(3,1)] [.int .i64 0,.int .i64 0,.int .i64 0,.int .i64 0]:=⟨by kernel_rfl,by kernel_rfl,by rfl⟩
instance:CK af 71 0 0 3:=⟨by kernel_rfl⟩
instance:CK af 71 1 1 3:=⟨by kernel_rfl⟩
instance:CK af 71 2 2 3:=⟨by kernel_rfl⟩
instance:CK af 71 3 3 3:=⟨by kernel_rfl⟩
instance:qN af 91:=⟨by kernel_rfl,by kernel_rfl⟩
instance:iB af 91 (.nilFunc):=⟨by kernel_rfl⟩
instance:eA af 100 62 1:=⟨by kernel_rfl,by kernel_rfl⟩
instance:eA af 101 23 1:=⟨by kernel_rfl,by kernel_rfl⟩
instance:mO af 104 .u64:=⟨by kernel_rfl⟩
instance:qN af 104:=⟨by kernel_rfl,by kernel_rfl⟩
instance:mO af 106 .u32:=⟨by kernel_rfl⟩
instance:qN af 106:=⟨by kernel_rfl,by kernel_rfl⟩
instance:jO af 106 1 4 (.int .u32 0):=⟨by kernel_rfl,by rfl,by decide,by decide⟩
instance:qN af 116:=⟨by kernel_rfl,by kernel_rfl⟩
instance:je af 118 [(0,1)] [.nilFunc]:=⟨by kernel_rfl,by kernel_rfl,by rfl⟩
instance:CK af 118 0 0 116:=⟨by kernel_rfl⟩
instance:Jj af 119 5 118:=⟨by kernel_rfl⟩
instance:eA af 121 34 2:=⟨by kernel_rfl,by kernel_rfl⟩
instance:eA af 133 3 1:=⟨by kernel_rfl,by kernel_rfl⟩
instance:mO af 140 .u64:=⟨by kernel_rfl⟩
instance:qN af 141:=⟨by kernel_rfl,by kernel_rfl⟩
instance:iB af 141 (.nilFunc):=⟨by kernel_rfl⟩
instance:cW af 9:=⟨by kernel_rfl⟩
instance:cW af 10:=⟨by kernel_rfl⟩
instance:cW af 11:=⟨by kernel_rfl⟩
instance:cW af 12:=⟨by kernel_rfl⟩
instance:cW af 13:=⟨by kernel_rfl⟩
instance:cW af 14:=⟨by kernel_rfl⟩
instance:cW af 15:=⟨by kernel_rfl⟩
instance:cW af 16:=⟨by kernel_rfl⟩
instance:cW af 17:=⟨by kernel_rfl⟩
instance:cW af 18:=⟨by kernel_rfl⟩
instance:cW af 20:=⟨by kernel_rfl⟩
instance:cW af 21:=⟨by kernel_rfl⟩
instance:cW af 22:=⟨by kernel_rfl⟩
instance:cW af 23:=⟨by kernel_rfl⟩
instance:cW af 24:=⟨by kernel_rfl⟩
instance:cW af 32:=⟨by kernel_rfl⟩
instance:cW af 33:=⟨by kernel_rfl⟩
instance:cW af 36:=⟨by kernel_rfl⟩
instance:cW af 37:=⟨by kernel_rfl⟩
instance:cW af 39:=⟨by kernel_rfl⟩
instance:cW af 40:=⟨by kernel_rfl⟩
instance:cW af 41:=⟨by kernel_rfl⟩
instance:cW af 42:=⟨by kernel_rfl⟩
instance:cW af 43:=⟨by kernel_rfl⟩
instance:cW af 44:=⟨by kernel_rfl⟩
instance:cW af 45:=⟨by kernel_rfl⟩
instance:cW af 46:=⟨by kernel_rfl⟩
instance:cW af 47:=⟨by kernel_rfl⟩
instance:cW af 48:=⟨by kernel_rfl⟩
instance:cW af 49:=⟨by kernel_rfl⟩
instance:cW af 50:=⟨by kernel_rfl⟩
instance:cW af 51:=⟨by kernel_rfl⟩
instance:cW af 52:=⟨by kernel_rfl⟩
instance:cW af 53:=⟨by kernel_rfl⟩
instance:cW af 54:=⟨by kernel_rfl⟩
instance:cW af 55:=⟨by kernel_rfl⟩
instance:cW af 56:=⟨by kernel_rfl⟩
instance:cW af 57:=⟨by kernel_rfl⟩
instance:cW af 58:=⟨by kernel_rfl⟩
instance:cW af 62:=⟨by kernel_rfl⟩
instance:cW af 63:=⟨by kernel_rfl⟩
instance:cW af 64:=⟨by kernel_rfl⟩
instance:cW af 65:=⟨by kernel_rfl⟩
instance:cW af 66:=⟨by kernel_rfl⟩
instance:cW af 67:=⟨by kernel_rfl⟩
instance:cW af 68:=⟨by kernel_rfl⟩
instance:cW af 71:=⟨by kernel_rfl⟩
instance:cW af 76:=⟨by kernel_rfl⟩
instance:cW af 78:=⟨by kernel_rfl⟩
instance:cW af 79:=⟨by kernel_rfl⟩
instance:cW af 80:=⟨by kernel_rfl⟩
instance:cW af 81:=⟨by kernel_rfl⟩
instance:cW af 82:=⟨by kernel_rfl⟩
instance:cW af 83:=⟨by kernel_rfl⟩
instance:cW af 84:=⟨by kernel_rfl⟩
instance:cW af 85:=⟨by kernel_rfl⟩
instance:cW af 86:=⟨by kernel_rfl⟩
instance:cW af 87:=⟨by kernel_rfl⟩
instance:cW af 88:=⟨by kernel_rfl⟩
instance:cW af 89:=⟨by kernel_rfl⟩
instance:cW af 90:=⟨by kernel_rfl⟩
instance:cW af 91:=⟨by kernel_rfl⟩
instance:cW af 92:=⟨by kernel_rfl⟩
instance:cW af 93:=⟨by kernel_rfl⟩
instance:cW af 94:=⟨by kernel_rfl⟩
instance:cW af 95:=⟨by kernel_rfl⟩
instance:cW af 96:=⟨by kernel_rfl⟩
instance:cW af 98:=⟨by kernel_rfl⟩
instance:cW af 99:=⟨by kernel_rfl⟩
instance:cW af 100:=⟨by kernel_rfl⟩
instance:cW af 101:=⟨by kernel_rfl⟩
instance:cW af 102:=⟨by kernel_rfl⟩
instance:cW af 106:=⟨by kernel_rfl⟩
instance:cW af 107:=⟨by kernel_rfl⟩
instance:cW af 108:=⟨by kernel_rfl⟩
instance:cW af 109:=⟨by kernel_rfl⟩
instance:cW af 112:=⟨by kernel_rfl⟩
instance:cW af 113:=⟨by kernel_rfl⟩
instance:cW af 114:=⟨by kernel_rfl⟩
instance:cW af 115:=⟨by kernel_rfl⟩
instance:cW af 116:=⟨by kernel_rfl⟩
instance:cW af 117:=⟨by kernel_rfl⟩
instance:cW af 118:=⟨by kernel_rfl⟩
instance:cW af 119:=⟨by kernel_rfl⟩
instance:cW af 120:=⟨by kernel_rfl⟩
instance:cW af 121:=⟨by kernel_rfl⟩
instance:cW af 122:=⟨by kernel_rfl⟩
instance:cW af 123:=⟨by kernel_rfl⟩
instance:cW af 124:=⟨by kernel_rfl⟩
instance:cW af 125:=⟨by kernel_rfl⟩
instance:cW af 126:=⟨by kernel_rfl⟩
instance:cW af 127:=⟨by kernel_rfl⟩
instance:cW af 128:=⟨by kernel_rfl⟩
instance:cW af 129:=⟨by kernel_rfl⟩
instance:cW af 130:=⟨by kernel_rfl⟩
instance:cW af 134:=⟨by kernel_rfl⟩
instance:cW af 135:=⟨by kernel_rfl⟩
instance:cW af 136:=⟨by kernel_rfl⟩
instance:cW af 137:=⟨by kernel_rfl⟩
instance:cW af 138:=⟨by kernel_rfl⟩
instance:cW af 139:=⟨by kernel_rfl⟩
instance:cW af 141:=⟨by kernel_rfl⟩
instance:cW af 143:=⟨by kernel_rfl⟩
instance:cW af 144:=⟨by kernel_rfl⟩
instance:cW af 145:=⟨by kernel_rfl⟩
instance:cW af 146:=⟨by kernel_rfl⟩
instance:cW af 147:=⟨by kernel_rfl⟩
instance:cW af 148:=⟨by kernel_rfl⟩
instance:cW af 149:=⟨by kernel_rfl⟩
instance:cW af 151:=⟨by kernel_rfl⟩
instance:cW af 152:=⟨by kernel_rfl⟩
instance:cW af 153:=⟨by kernel_rfl⟩
instance:cW af 154:=⟨by kernel_rfl⟩
instance:cW af 155:=⟨by kernel_rfl⟩
instance:cW af 156:=⟨by kernel_rfl⟩
instance:cW af 157:=⟨by kernel_rfl⟩
instance:cW af 158:=⟨by kernel_rfl⟩
instance:cW af 159:=⟨by kernel_rfl⟩
instance:cW af 160:=⟨by kernel_rfl⟩
instance:cW af 161:=⟨by kernel_rfl⟩
instance:cW af 162:=⟨by kernel_rfl⟩
instance:cW af 163:=⟨by kernel_rfl⟩
instance:cW af 164:=⟨by kernel_rfl⟩
instance:cW af 165:=⟨by kernel_rfl⟩
instance:cW af 166:=⟨by kernel_rfl⟩
instance:cW af 167:=⟨by kernel_rfl⟩
instance:cW af 168:=⟨by kernel_rfl⟩
instance:cW af 169:=⟨by kernel_rfl⟩
instance:cW af 170:=⟨by kernel_rfl⟩
theorem mixed:Tryz.prog.follows .mixedOrders=true:=by kernel_rfl
end
section
open Go.Fw Go.RowKit
def snap(W:World):Mem:=λb o=>(W.cell? ⟨b,o,none⟩).filter Value.oneCell'
theorem O1(W:World):(snap W).c8 W:=λ_ _ _ e=>by
 obtain⟨e1,e2⟩:=Option.filter_eq_some_iff.1 e
 exact .of e1 e2
theorem O2{W:World}{b o:Nat}{v:Value}(h:W.cell? ⟨b,o,none⟩=some v)(h1:v.oneCell'=true):snap W b o=some v:=Option.filter_eq_some_iff.2 ⟨h,h1⟩
class EY (P:Program) (T:TypeId) {α:Type} (e:α→List SV) (ok:outParam (α→Prop)) (sz:outParam (α→Nat)):Prop where
 h:∀{H:Type} (enc:TypeId×Value→H) (W:World) (fuel:Nat) (cs:List Value) (d:DataW H) (p:List MemPlace),DataW.trod enc P W 0 (λ_=>true) true fuel T cs=some (d,p)→
  ∃x:α,ok x∧SV.dX (snap W) (e x) cs∧(∀v∈cs,v.oneCell'=true)∧sz x≤Rows.uptoBulk d
section opn
variable {P:Program}{T:TypeId}
theorem L6{k:IntKind}{n:Int}(h:(Lit.int k n).wf=true):k.min≤n∧n≤k.max:=by simpa[Lit.wf]using h
instance[t:mO P T .i64]:EY P T bK (λx=>-9223372036854775808≤x∧x≤9223372036854775807) (λ_=>1):=⟨λenc W fuel cs d p h=>by
 obtain⟨n,rfl,hx,hw⟩:=DataW.trod_int t.h h
 cases hx
 have:=L6 hw
 exact⟨n,by simpa[IntKind.min,IntKind.max,IntKind.signed,IntKind.bits]using this,⟨rfl,ak⟩,by simp[Value.oneCell'],by simp[Rows.uptoBulk]⟩⟩
theorem Wp{k:IntKind}{M:Nat}{e:Nat→List SV}(t:mO P T k)(hk:k.min=0∧k.max=(M:Int)-1)(he:∀n:Nat,e n=[.v (.int k (n:Int))]):EY P T e (λx=>x<M) (λ_=>1):=⟨λenc W fuel cs d p h=>by
 obtain⟨n,rfl,hx,hw⟩:=DataW.trod_int t.h h
 cases hx
 have:=L6 hw
 rw[hk.1,hk.2]at this
 obtain⟨m,rfl⟩:=Int.eq_ofNat_of_zero_le this.1
 exact⟨m,by omega,by rw[he];exact⟨Y,ak⟩,by simp[Value.oneCell'],by simp[Rows.uptoBulk]⟩⟩
instance[t:mO P T .u32]:EY P T aX (λx=>x<4294967296) (λ_=>1):=Wp t (by decide) (λ_=>rfl)
instance[t:Dn P T]:EY P T eB (λ_=>True) (λ_=>1):=⟨λenc W fuel cs d p h=>by
 obtain⟨b,rfl,hx⟩:=DataW.trod_bool t.h h
 cases hx
 exact⟨b,ak,⟨rfl,ak⟩,by simp[Value.oneCell'],by simp[Rows.uptoBulk]⟩⟩
theorem Fz{H α:Type}(sz:α→Nat):∀(xs:List α) (ds:List (DataW H)),xs.length=ds.length→(∀(i:Nat) (x:α) (d:DataW H),xs[i]? =some x→ds[i]? =some d→sz x≤Rows.uptoBulk d)→(xs.map sz).sum≤Rows.uptoBulkAll ds
 |[],[],_,_=>by simp
 |x::xs,d::ds,hl,h=>by
  have h1:=h 0 x d Y Y
  have h2:=Fz sz xs ds (by simpa using hl) (λi x d e1 e2=>h (i+1) x d (by simpa using e1) (by simpa using e2))
  simp only[List.map_cons,List.sum_cons,Rows.uptoBulkAll];omega
 |[],_::_,hl,_=>by simp at hl
 |_::_,[],hl,_=>by simp at hl
instance{E:TypeId}{n:Nat}{α:Type}{e:α→List SV}{ok:α→Prop}{sz:α→Nat}{by_:Nat}{zv:Value}[t:eA P T E n][tE:jO P E n by_ zv][el:EL e n][o:EY P E e ok sz]:EY P T (eS n e) (λl=>l.length≤9223372036854775807∧∀x∈l,ok x) (λl=>(l.map sz).sum+1):=⟨λ{H} enc W fuel cs d p h=>by
 have hcell:P.cellsOf E=n:=by
  have h1:=t.size W
  simp only[sizeOf,typeInfo]at h1
  cases hi:P.info? E with
  |none=>simp[hi]at h1
  |some i=>simp[hi]at h1;simp[Program.cellsOf,hi,h1]
 have hml:maxLen=9223372036854775807:=by decide
 rcases Deep.open_slice t.u h with⟨rfl,hx⟩|⟨a,len,cap,m,n',D,Pl,rfl,_,hl,hm,hmm,hx,hel⟩
 ·cases hx
  exact⟨[],⟨by simp,by simp⟩,⟨.inl ⟨none,rfl,rfl⟩,ak⟩,by simp[Value.oneCell'],by simp[Rows.uptoBulk]⟩
 ·cases hx
  rw[if_pos rfl]at hmm
  subst hmm
  have one:∀i,i<m→∃x,ok x∧sz x≤Rows.uptoBulk (D i)∧∃cs',W.cells? 0 (a.add (i*n)) n=some cs'∧SV.dX (snap W) (e x) cs'∧(∀v∈cs',v.oneCell'=true):=by
   intro i hi
   obtain⟨cs',h1,h2⟩:=hel i hi
   obtain⟨x,q1,q2,q3,q4⟩:=o.h enc W n' cs' (D i) (Pl i) h2
   rw[hcell]at h1
   exact⟨x,q1,q4,cs',h1,q2,q3⟩
  obtain⟨xs,Wq,hxs⟩:∃xs:List α,xs.length=len∧∀(i:Nat) (x:α),xs[i]? =some x→ok x∧sz x≤Rows.uptoBulk (D i)∧∃cs',W.cells? 0 (a.add (i*n)) n=some cs'∧SV.dX (snap W) (e x) cs'∧(∀v∈cs',v.oneCell'=true):=by
   clear h hm hel
   have:∀k,k≤len→∃xs:List α,xs.length=k∧∀(i:Nat) (x:α),xs[i]? =some x→ok x∧sz x≤Rows.uptoBulk (D i)∧∃cs',W.cells? 0 (a.add (i*n)) n=some cs'∧SV.dX (snap W) (e x) cs'∧(∀v∈cs',v.oneCell'=true):=by
    intro k
    induction k with
    |zero=>intro _;exact⟨[],rfl,by simp⟩
    |succ k ih=>
     intro hk
     obtain⟨xs,h1,h2⟩:=ih (by omega)
     obtain⟨x,hx⟩:=one k (by omega)
     refine⟨xs++[x],by simp[h1],λi y hy=>?_⟩
     rcases Nat.lt_or_ge i k with hi|hi
     ·exact h2 i y (by rwa[List.getElem?_append_left (by omega)]at hy)
     ·rw[List.getElem?_append_right (by omega)]at hy
      have Zs:i=k:=by
       rcases Nat.lt_or_ge (i-xs.length) 1 with q|q
       ·omega
       ·rw[List.getElem?_eq_none (by simpa using q)]at hy;cases hy
      subst Zs
      rw[h1,Nat.sub_self]at hy
      simp at hy;subst hy;exact hx
   exact this len (Nat.le_refl _)
  refine⟨xs,⟨by omega,λx hx=>?_⟩,⟨?_,ak⟩,by simp[Value.oneCell'],?_⟩
  ·obtain⟨i,hi,rfl⟩:=List.getElem_of_mem hx
   exact(hxs i _ (List.getElem?_eq_getElem hi)).1
  ·by_cases h0:xs=[]
   ·subst h0
    simp at Wq
    subst Wq
    by_cases hc0:m=0
    ·subst hc0;exact .inl ⟨_,rfl,rfl⟩
    ·
     obtain⟨x,_,_,cs',g1,g2,_⟩:=one 0 (by omega)
     obtain⟨_,g3,g4⟩:=World.cells?_some g1
     have hn:0<n:=tE.p
     have g5:=g4 0 hn
     obtain⟨b,o',spot⟩:=a
     have L7:spot=none:=by
      have:∃v,W.cell? (((⟨b,o',spot⟩:Addr).add (0*n)).add 0)=some v:=by
       rw[g5];exact⟨_,List.getElem?_eq_getElem (by omega)⟩
      obtain⟨v,hv⟩:=this
      simpa[Addr.add]using World.cell?_spot hv
     subst L7
     refine .inr ⟨b,o',m,rfl,by simp,by simp,λi row hr=>by simp at hr⟩
   ·have uV:0<len:=by
     rcases Nat.eq_zero_or_pos len with hz|hz
     ·exact absurd (List.eq_nil_of_length_eq_zero (by omega)) h0
     ·exact hz
    have hn:0<n:=tE.p
    obtain⟨x,_,_,cs',g1,g2,_⟩:=one 0 (by omega)
    obtain⟨_,g3,g4⟩:=World.cells?_some g1
    have g5:=g4 0 hn
    obtain⟨b,o',spot⟩:=a
    have L7:spot=none:=by
     have:∃v,W.cell? (((⟨b,o',spot⟩:Addr).add (0*n)).add 0)=some v:=by
      rw[g5];exact⟨_,List.getElem?_eq_getElem (by omega)⟩
     obtain⟨v,hv⟩:=this
     simpa[Addr.add]using World.cell?_spot hv
    subst L7
    refine .inr ⟨b,o',m,by rw[List.length_map,Wq],by rw[List.length_map];omega,by rw[List.length_map];omega,λi row hr=>?_⟩
    rw[List.getElem?_map]at hr
    cases hx:xs[i]? with
    |none=>rw[hx]at hr;cases hr
    |some y=>
     rw[hx]at hr
     have hr:e y=row:=Option.some.inj hr
     subst hr
     obtain⟨_,_,cs2,k1,k2,k3⟩:=hxs i y hx
     obtain⟨_,k4,k5⟩:=World.cells?_some k1
     refine⟨el.len y,λk s hk=>?_⟩
     obtain⟨u,hu,hs⟩:=k2.get hk
     have hkn:k<n:=by have:=(List.getElem?_eq_some_iff.1 hu).1;omega
     have k6:=k5 k hkn
     rw[fU,fU,hu]at k6
     exact⟨u,O2 k6 (k3 u (List.mem_of_getElem? hu)),k3 u (List.mem_of_getElem? hu),hs⟩
  ·have hb:Rows.uptoBulk (DataW.slice ((List.range len).map D) ((List.range (m-len)).map λj=>D (len+j)))=Rows.uptoBulkAll ((List.range len).map D)+Rows.uptoBulkAll ((List.range (m-len)).map λj=>D (len+j))+1:=rfl
   rw[hb]
   have:=Fz sz xs ((List.range len).map D) (by simp[Wq]) (λi x d e1 e2=>by
    have hi:i<len:=by have:=(List.getElem?_eq_some_iff.1 e1).1;omega
    simp[hi]at e2;subst e2
    exact(hxs i x e1).2.1)
   omega⟩
class Wr (P:Program) (T:TypeId) (k:outParam Nat):Prop where
 h:(match P.underlying T with|some (.struct fs)=>some fs.size|_=>none)=some k
theorem DD{k:Nat}[s:Wr P T k]{H:Type}{enc:TypeId×Value→H}{W:World}{fuel:Nat}{cs:List Value}{d:DataW H}{p:List MemPlace}(h:DataW.trod enc P W 0 (λ_=>true) true fuel T cs=some (d,p)):
  ∃(xs:List (DataW H×List MemPlace)) (n:Nat),d=.agg (xs.map (·.1))∧cs.length=P.cellsOf T∧xs.length=k∧∀(i off:Nat) (U:TypeId),CK P T i off U→DataW.trod enc P W 0 (λ_=>true) true n U ((cs.drop off).take (P.cellsOf U))=xs[i]? :=by
 have hs:=s.h
 cases hT:P.underlying T with
 |none=>rw[hT]at hs;cases hs
 |some u=>
  rw[hT]at hs
  cases u with
  |struct fs=>
   have hk:fs.size=k:=Option.some.inj hs
   obtain⟨xs,n,_,hx,hl,hn,hf⟩:=DataW.trod_struct hT h
   refine⟨xs,n,(Prod.mk.inj hx).1,hl,by omega,λi off U F=>?_⟩
   have hF:=F.h
   rw[hT]at hF
   simp only at hF
   cases hg:fs[i]? with
   |none=>rw[hg]at hF;cases hF
   |some f=>
    rw[hg]at hF
    simp only[Option.map_some,Option.some.injEq,Prod.mk.injEq]at hF
    have:=hf i f hg
    rw[hF.1,hF.2]at this
    exact this
  |_=>cases hs
theorem Jl{α:Type}{e:α→List SV}{ok:α→Prop}{sz:α→Nat}{k:Nat}[s:Wr P T k][o:EY P T e ok sz]{H:Type}{enc:TypeId×Value→H}{W:World}{r:Reach}{base:Nat}{v:Value}{d:DataW H}{p:List MemPlace}
  (hv:Value.okWide P W r base T v) (h:DataW.Trod enc P W 0 (λ_=>true) true T v d p):∃x,ok x∧sz x≤Rows.uptoBulk d∧(SV.agg (e x)).h (snap W) v:=by
 have hs:=s.h
 cases hT:P.underlying T with
 |none=>rw[hT]at hs;cases hs
 |some u=>
  rw[hT]at hs
  cases u with
  |struct fs=>
   obtain⟨cs,rfl,_⟩:=WideShapes.okWide_struct hT hv
   obtain⟨fuel,h⟩:=h
   obtain⟨x,h1,h2,_,h4⟩:=o.h enc W fuel _ d p h
   exact⟨x,h1,h4,cs.toList,Y,h2⟩
  |_=>cases hs
end opn
theorem O3{f:FuncId}{vs:List Value}{svs:List SV}{W:World}(hp:Pure af f svs (.v (.bool true)))(h:SV.dX (snap W) svs vs):
  Calls af f ⟨vs⟩ W λe w'=>e=.returned (.bool true)∧Below W.heap.size W w':=
 (hp (snap W) W vs (O1 W) h).mono λ_ _ ⟨v,_,h1,_,_,_,h2,h3⟩=>by
  have h2:v=.bool true:=h2
  exact⟨by rw[h1,h2],h3⟩
end
section
open Go.Fw Go.RowKit Go.ChangeShapes Go.WideShapes Go.ChangeAt
theorem ZX:ownKnob Tryz.prog.godebug=none:=by kernel_rfl
theorem FA:laidOutB af=true:=by kernel_rfl
instance:Wr af 34 2:=⟨by kernel_rfl⟩
set_option maxRecDepth 100000 in
instance:EY af 34 eZ (λ(z:Zr)=>(True∧(z.w.length≤9223372036854775807∧∀x1∈z.w,x1<4294967296))) (λ(z:Zr)=>(1+((z.w.map λx1=>1).sum+1)+1)):=⟨λenc W fuel cs d p h=>by
 obtain⟨xs,n,rfl,hl,hn,hf⟩:=DD h
 have hl:cs.length=2:=hl.trans (by kernel_rfl)
 match xs,hn with
 |[⟨d0,p0⟩,⟨d1,p1⟩],_=>
 match cs,hl with
 |[c0,c1],_=>
 have t0:DataW.trod enc af W 0 (λ_=>true) true n 4 [c0]=some (d0,p0):=(by have q:=hf 0 _ _ inferInstance;rw[show Tryz.prog.cellsOf 4=1 by kernel_rfl]at q;exact q)
 obtain⟨x0,a0,b0,e0,s0⟩:=EY.h (P:=af) (T:=4) (e:=eB) enc W n _ d0 p0 t0
 have t1:DataW.trod enc af W 0 (λ_=>true) true n 32 [c1]=some (d1,p1):=(by have q:=hf 1 _ _ inferInstance;rw[show Tryz.prog.cellsOf 32=1 by kernel_rfl]at q;exact q)
 obtain⟨x1,a1,b1,e1,s1⟩:=EY.h (P:=af) (T:=32) (e:=(eS 1 aX)) enc W n _ d1 p1 t1
 refine⟨⟨x0,x1⟩,⟨a0,a1⟩,⟨b0.1,b1.1,ak⟩,?_,?_⟩
 ·intro v hv;simp only[List.mem_cons,List.not_mem_nil,or_false]at hv;rcases hv with rfl|rfl
  ·exact e0 _ (by simp)
  ·exact e1 _ (by simp)
 ·simp only[List.map_cons,List.map_nil,Rows.uptoBulk,Rows.uptoBulkAll];omega⟩
instance:Wr af 36 2:=⟨by kernel_rfl⟩
set_option maxRecDepth 100000 in
instance:EY af 36 eQ (λ(z:Qr)=>((True∧(z.num.w.length≤9223372036854775807∧∀x1∈z.num.w,x1<4294967296))∧(True∧(z.den.w.length≤9223372036854775807∧∀x1∈z.den.w,x1<4294967296)))) (λ(z:Qr)=>((1+((z.num.w.map λx1=>1).sum+1)+1)+(1+((z.den.w.map λx1=>1).sum+1)+1)+1)):=⟨λenc W fuel cs d p h=>by
 obtain⟨xs,n,rfl,hl,hn,hf⟩:=DD h
 have hl:cs.length=4:=hl.trans (by kernel_rfl)
 match xs,hn with
 |[⟨d0,p0⟩,⟨d1,p1⟩],_=>
 match cs,hl with
 |[c0,c1,c2,c3],_=>
 have t0:DataW.trod enc af W 0 (λ_=>true) true n 34 [c0,c1]=some (d0,p0):=(by have q:=hf 0 _ _ inferInstance;rw[show Tryz.prog.cellsOf 34=2 by kernel_rfl]at q;exact q)
 obtain⟨x0,a0,b0,e0,s0⟩:=EY.h (P:=af) (T:=34) (e:=eZ) enc W n _ d0 p0 t0
 have t1:DataW.trod enc af W 0 (λ_=>true) true n 34 [c2,c3]=some (d1,p1):=(by have q:=hf 1 _ _ inferInstance;rw[show Tryz.prog.cellsOf 34=2 by kernel_rfl]at q;exact q)
 obtain⟨x1,a1,b1,e1,s1⟩:=EY.h (P:=af) (T:=34) (e:=eZ) enc W n _ d1 p1 t1
 refine⟨⟨x0,x1⟩,⟨a0,a1⟩,⟨b0.1,b0.2.1,b1.1,b1.2.1,ak⟩,?_,?_⟩
 ·intro v hv;simp only[List.mem_cons,List.not_mem_nil,or_false]at hv;rcases hv with rfl|rfl|rfl|rfl
  ·exact e0 _ (by simp)
  ·exact e0 _ (by simp)
  ·exact e1 _ (by simp)
  ·exact e1 _ (by simp)
 ·simp only[List.map_cons,List.map_nil,Rows.uptoBulk,Rows.uptoBulkAll];omega⟩
instance:Wr af 26 4:=⟨by kernel_rfl⟩
set_option maxRecDepth 100000 in
instance:EY af 26 vu (λ(z:Lr)=>((-9223372036854775808≤z.vars∧z.vars≤9223372036854775807)∧(z.vr.length≤9223372036854775807∧∀x1∈z.vr,(x1.length≤9223372036854775807∧∀x2∈x1,((True∧(x2.num.w.length≤9223372036854775807∧∀x3∈x2.num.w,x3<4294967296))∧(True∧(x2.den.w.length≤9223372036854775807∧∀x3∈x2.den.w,x3<4294967296)))))∧(z.rows.length≤9223372036854775807∧∀x1∈z.rows,(x1.length≤9223372036854775807∧∀x2∈x1,((True∧(x2.num.w.length≤9223372036854775807∧∀x3∈x2.num.w,x3<4294967296))∧(True∧(x2.den.w.length≤9223372036854775807∧∀x3∈x2.den.w,x3<4294967296)))))∧(z.bounds.length≤9223372036854775807∧∀x1∈z.bounds,((True∧(x1.num.w.length≤9223372036854775807∧∀x2∈x1.num.w,x2<4294967296))∧(True∧(x1.den.w.length≤9223372036854775807∧∀x2∈x1.den.w,x2<4294967296)))))) (λ(z:Lr)=>(1+((z.vr.map λx1=>((x1.map λx2=>((1+((x2.num.w.map λx3=>1).sum+1)+1)+(1+((x2.den.w.map λx3=>1).sum+1)+1)+1)).sum+1)).sum+1)+((z.rows.map λx1=>((x1.map λx2=>((1+((x2.num.w.map λx3=>1).sum+1)+1)+(1+((x2.den.w.map λx3=>1).sum+1)+1)+1)).sum+1)).sum+1)+((z.bounds.map λx1=>((1+((x1.num.w.map λx2=>1).sum+1)+1)+(1+((x1.den.w.map λx2=>1).sum+1)+1)+1)).sum+1)+1)):=⟨λenc W fuel cs d p h=>by
 obtain⟨xs,n,rfl,hl,hn,hf⟩:=DD h
 have hl:cs.length=4:=hl.trans (by kernel_rfl)
 match xs,hn with
 |[⟨d0,p0⟩,⟨d1,p1⟩,⟨d2,p2⟩,⟨d3,p3⟩],_=>
 match cs,hl with
 |[c0,c1,c2,c3],_=>
 have t0:DataW.trod enc af W 0 (λ_=>true) true n 3 [c0]=some (d0,p0):=(by have q:=hf 0 _ _ inferInstance;rw[show Tryz.prog.cellsOf 3=1 by kernel_rfl]at q;exact q)
 obtain⟨x0,a0,b0,e0,s0⟩:=EY.h (P:=af) (T:=3) (e:=bK) enc W n _ d0 p0 t0
 have t1:DataW.trod enc af W 0 (λ_=>true) true n 23 [c1]=some (d1,p1):=(by have q:=hf 1 _ _ inferInstance;rw[show Tryz.prog.cellsOf 23=1 by kernel_rfl]at q;exact q)
 obtain⟨x1,a1,b1,e1,s1⟩:=EY.h (P:=af) (T:=23) (e:=(eS 1 (eS 4 eQ))) enc W n _ d1 p1 t1
 have t2:DataW.trod enc af W 0 (λ_=>true) true n 23 [c2]=some (d2,p2):=(by have q:=hf 2 _ _ inferInstance;rw[show Tryz.prog.cellsOf 23=1 by kernel_rfl]at q;exact q)
 obtain⟨x2,a2,b2,e2,s2⟩:=EY.h (P:=af) (T:=23) (e:=(eS 1 (eS 4 eQ))) enc W n _ d2 p2 t2
 have t3:DataW.trod enc af W 0 (λ_=>true) true n 24 [c3]=some (d3,p3):=(by have q:=hf 3 _ _ inferInstance;rw[show Tryz.prog.cellsOf 24=1 by kernel_rfl]at q;exact q)
 obtain⟨x3,a3,b3,e3,s3⟩:=EY.h (P:=af) (T:=24) (e:=(eS 4 eQ)) enc W n _ d3 p3 t3
 refine⟨⟨x0,x1,x2,x3⟩,⟨a0,a1,a2,a3⟩,⟨b0.1,b1.1,b2.1,b3.1,ak⟩,?_,?_⟩
 ·intro v hv;simp only[List.mem_cons,List.not_mem_nil,or_false]at hv;rcases hv with rfl|rfl|rfl|rfl
  ·exact e0 _ (by simp)
  ·exact e1 _ (by simp)
  ·exact e2 _ (by simp)
  ·exact e3 _ (by simp)
 ·simp only[List.map_cons,List.map_nil,Rows.uptoBulk,Rows.uptoBulkAll];omega⟩
end
end Go.Proofs.YtfoldppidpmchaaGreat
namespace Go.Fw
section
open Go.RowKit
theorem kC{S:AS}(i o k:Nat)(E0:TypeId)(sz:Nat){T:TypeId}{cells:List AV}(hb:S.b i=some ⟨T,cells⟩)(hc:cells[o]? =some (.sv (.v (.slice none 0 0))))(hk:S.r k=.un)(Wb:k<1000):
  r8 S ((AS.cf [(k,.live ⟨E0,sz,0,[]⟩)] S).lT i ⟨T,cells.set o (.row k)⟩):=by
 rintro C a w ⟨E,h⟩
 have h1:=h.newRow hk Wb [] none (.inl ⟨Y,Y⟩) (R':=⟨E0,sz,0,[]⟩) (World.ownsRow_nil w 0 E0 sz) (vs':=[]) trivial (.inl Y) (oB w none)
 have zD:(AS.cf [(k,.live ⟨E0,sz,0,[]⟩)] S).b i=some ⟨T,cells⟩:=hb
 have hrk:(AS.cf [(k,.live ⟨E0,sz,0,[]⟩)] S).r k≠ .un:=by
  show(AS.qj S k _).r k≠_
  rw[AS.gC];simp
 refine⟨_,{h1 with wf:=?_,bx:=λj B hB=>?_,inj:=λj j' B B' hB jQ e=>?_,rx:=λj R hR=>?_}⟩
 ·refine⟨λt j hj=>?_,h1.wf.tr,λj B hB x hx m hm=>?_,λj B hB x hx m hm=>?_⟩
  ·obtain⟨B,hB⟩:=h1.wf.tb t j hj
   by_cases e:j=i
   ·subst e;exact⟨_,AS.dG _ _ _⟩
   ·exact⟨B,by rw[AS.bY _ _ _ _ e];exact hB⟩
  ·have key:∃B',(AS.cf [(k,.live ⟨E0,sz,0,[]⟩)] S).b m=some B':=by
    by_cases e:j=i
    ·subst e;rw[AS.dG]at hB;cases hB
     rcases List.mem_or_eq_of_mem_set hx with hx|rfl
     ·exact h1.wf.bb j _ zD x hx m hm
     ·exact hm.elim
    ·rw[AS.bY _ _ _ _ e]at hB;exact h1.wf.bb j B hB x hx m hm
   obtain⟨B',jQ⟩:=key
   by_cases e:m=i
   ·subst e;exact⟨_,AS.dG _ _ _⟩
   ·exact⟨B',by rw[AS.bY _ _ _ _ e];exact jQ⟩
  ·by_cases e:j=i
   ·subst e;rw[AS.dG]at hB;cases hB
    rcases List.mem_or_eq_of_mem_set hx with hx|rfl
    ·exact h1.wf.br j _ zD x hx m hm
    ·cases hm;exact hrk
   ·rw[AS.bY _ _ _ _ e]at hB;exact h1.wf.br j B hB x hx m hm
 ·by_cases e:j=i
  ·subst e;rw[AS.dG]at hB;cases hB
   obtain⟨q1,q2,q3,vs,q4,q5⟩:=h1.bx j _ zD
   refine⟨q1,q2,q3,vs,q4,?_⟩
   obtain⟨x,hx,hv⟩:=q5.get hc
   have hv:x=.slice none 0 0:=hv
   have:=c9.set (i:=o) (s:=.row k) (x:=x) q5 (by
    show x=if k=k then _ else _
    rw[if_pos rfl];exact hv)
   have he:vs.set o x=vs:=by
    apply List.ext_getElem?
    intro n
    rw[List.getElem?_set]
    split
    ·rename_i hn;subst hn;rw[hx];split<;>rename_i hl
     ·rfl
     ·have:=(List.getElem?_eq_some_iff.1 hx).1;exact absurd this hl
    ·rfl
   rwa[he]at this
  ·rw[AS.bY _ _ _ _ e]at hB;exact h1.bx j B hB
 ·have old:∀n B,((AS.cf [(k,.live ⟨E0,sz,0,[]⟩)] S).lT i ⟨T,cells.set o (.row k)⟩).b n=some B→∃B',(AS.cf [(k,.live ⟨E0,sz,0,[]⟩)] S).b n=some B':=λn B hn=>by
   by_cases e:n=i
   ·subst e;exact⟨_,zD⟩
   ·rw[AS.bY _ _ _ _ e]at hn;exact⟨B,hn⟩
  obtain⟨B1,p1⟩:=old j B hB
  obtain⟨B2,p2⟩:=old j' B' jQ
  exact h1.inj j j' B1 B2 p1 p2 e
 ·obtain⟨p1,p2⟩:=h1.rx j R hR
  refine⟨p1,λg hg=>?_⟩
  obtain⟨p3,p4,p5,p6⟩:=p2 g hg
  refine⟨p3,p4,p5,λn B hn=>?_⟩
  by_cases e:n=i
  ·subst e;exact p6 n _ zD
  ·rw[AS.bY _ _ _ _ e]at hn;exact p6 n B hn
end
section
open Go.RowKit
section part
variable {P:Program}{C:Ctx}{ops:Array Oper}{acts:List Ac}{S:AS}
def wF(ops:Array Oper)(m:Nat)(acts:List Ac):Bool:=
 let b:=Region.before ops
 (acts.length==m)&&(decide (m≤ops.size))&&
 (ops.toList.zipIdx.all λ(o,j)=>o.after.all λe=>!Region.binds .any e||decide (e.on<j))&&
 (acts.zipIdx.all λ(y,j)=>acts.zipIdx.all λ(x,i)=>!(decide (i<j))|| !(x.l6 y)||(b.getD j 0).testBit i)&&
 ((List.range ops.size).all λj=>!(decide (m≤j))||(List.range j).all λi=>(b.getD j 0).testBit i)
theorem sD{m:Nat}(h:wF ops m acts=true):acts.length=m∧m≤ops.size∧
  (∀(j:Nat) (o:Oper),ops[j]? =some o→∀e∈o.after,Region.binds .any e=true→e.on<j)∧
  (∀(i j:Nat) (x y:Ac),acts[i]? =some x→acts[j]? =some y→i<j→x.l6 y=true→((Region.before ops).getD j 0).testBit i=true)∧
  (∀i j:Nat,m≤j→j<ops.size→i<j→((Region.before ops).getD j 0).testBit i=true):=by
 simp only[wF,Bool.and_eq_true,beq_iff_eq,List.all_eq_true,decide_eq_true_eq]at h
 obtain⟨⟨⟨⟨h1,h0⟩,h2⟩,h3⟩,h4⟩:=h
 refine⟨h1,h0,?_,?_,?_⟩
 ·intro j o ho e he hb
  have:=h2 (o,j) (List.mem_zipIdx_iff_getElem?.2 (by simpa using ho))
  simp only[Array.all_eq_true_iff_forall_mem]at this
  have:=this e he
  simpa[hb]using this
 ·intro i j x y hx hy hij hc
  have:=h3 (y,j) (List.mem_zipIdx_iff_getElem?.2 (by simpa using hy)) (x,i) (List.mem_zipIdx_iff_getElem?.2 (by simpa using hx))
  simpa[hij,hc]using this
 ·intro i j hm hj hij
  have:=h4 j (List.mem_range.2 hj)
  simp only[hm,decide_true,Bool.not_true,Bool.false_or,List.all_eq_true]at this
  exact this i (List.mem_range.2 hij)
theorem kR(listed:Array Bool)(i:Nat)(hs:listed.size=ops.size)(hi:i<ops.size):listed.getD i true=listed.getD i false:=by
 rw[Array.getD_eq_getD_getElem?,Array.getD_eq_getD_getElem?]
 rw[Array.getElem?_eq_getElem (by omega)];rfl
theorem AL(v8:∀(j:Nat) (o:Oper),ops[j]? =some o→∀e∈o.after,Region.binds .any e=true→e.on<j)(listed:Array Bool)(hs:listed.size=ops.size)(hr:Region.ready .any ops listed=[]):∀i,i<ops.size→listed.getD i false=true:=by
 intro i
 induction i using Nat.strongRecOn with
 |_ i ih=>
  intro hi
  cases HC:listed.getD i false with
  |true=>rfl
  |false=>
   exfalso
   have:i∈Region.ready .any ops listed:=by
    simp only[Region.ready,List.mem_filter,List.mem_range]
    refine⟨hi,?_⟩
    rw[kR listed i hs hi,HC,Array.getElem?_eq_getElem hi]
    simp only[Bool.not_false,Bool.true_and,Option.map_some,Option.getD_some,Array.all_eq_true_iff_forall_mem]
    intro e he
    cases hb:Region.binds .any e with
    |false=>rfl
    |true=>
     have hlt:=v8 i ops[i] (Array.getElem?_eq_getElem hi) e he hb
     rw[ih e.on hlt (by omega)];rfl
   rw[hr]at this
   simp at this
theorem yU{listed:Array Bool}(hs:listed.size=ops.size)(hD:Down ops (λi=>listed.getD i false)){i:Nat}(hi:i∈Region.ready .any ops listed):
  ∃h:i<ops.size,listed.getD i false=false∧(∀m,(listed.setIfInBounds i true).getD m false=if m=i then true else listed.getD m false)∧Down ops (λm=>(listed.setIfInBounds i true).getD m false):=by
 simp only[Region.ready,List.mem_filter,List.mem_range,Bool.and_eq_true,Bool.not_eq_true']at hi
 obtain⟨hi,HC,hpre⟩:=hi
 have B4:listed.getD i false=false:=by rw[←kR listed i hs hi];exact HC
 have ho:ops[i]? =some ops[i]:=Array.getElem?_eq_getElem hi
 have Lp:∀e∈ops[i].after,Region.binds .any e=true→listed.getD e.on false=true:=by
  rw[ho]at hpre
  simp only[Option.map_some,Option.getD_some,Array.all_eq_true_iff_forall_mem]at hpre
  intro e he hb
  have:=hpre e he
  simpa[hb]using this
 have ez:∀m,(listed.setIfInBounds i true).getD m false=if m=i then true else listed.getD m false:=by
  intro m
  rw[Array.getD_eq_getD_getElem?,Array.getElem?_setIfInBounds]
  by_cases hm:m=i
  ·subst hm;simp[hs,hi]
  ·rw[if_neg (by omega),if_neg hm,Array.getD_eq_getD_getElem?]
 refine⟨hi,B4,ez,?_⟩
 intro j o hj hl e he hb
 simp only[ez]at hl⊢
 by_cases hji:j=i
 ·subst hji
  have:o=ops[j]:=by rw[ho]at hj;exact(Option.some.inj hj).symm
  subst this
  have:=Lp e he hb
  split<;>simp_all
 ·rw[if_neg hji]at hl
  have:=hD j o hj hl e he hb
  split<;>simp_all
theorem DE{m:Nat}(v8:∀(j:Nat) (o:Oper),ops[j]? =some o→∀e∈o.after,Region.binds .any e=true→e.on<j)
  (FB:∀i j:Nat,m≤j→j<ops.size→i<j→((Region.before ops).getD j 0).testBit i=true) {Q:Exit→Act→World→Prop} {R:AS→Prop} (hQ:∀S a w,R S→S.holds C a w→Q .normal a w):
  ∀(fuel k:Nat) (listed:Array Bool) (a:Act) (w:World) (S:AS) (acc:List Ac),m≤k→k≤ops.size→listed.size=ops.size→(∀i,i<ops.size→listed.getD i false=decide (i<k))→ops.size-k≤fuel→Down ops (λi=>listed.getD i false)→
   RunT P C ops true (λ_ S=>R S) (ops.toList.drop k) acc S→S.holds C a w→wpAnyIn (Fr C.ro) 0 P .any ops Q fuel listed a w:=by
 intro fuel
 induction fuel with
 |zero=>
  intro k listed a w S acc hm hk hs hl hf hD hR hh
  obtain rfl:k=ops.size:=by omega
  rw[show ops.toList.drop ops.size=[] by simp]at hR
  refine⟨?_,hQ S a w hR hh⟩
  simp only[Region.ready,List.filter_eq_nil_iff,List.mem_range]
  intro i hi
  rw[kR listed i hs hi,hl i hi,decide_eq_true hi];simp
 |succ fuel ih=>
  intro k listed a w S acc hm hk hs hl hf hD hR hh
  refine⟨λhr=>?_,λi hi=>?_⟩
  ·have hall:=AL v8 listed hs hr
   obtain rfl:k=ops.size:=by
    rcases Nat.lt_or_ge k ops.size with h|h
    ·have:=hall k h
     rw[hl k h]at this
     simp at this
    ·omega
   rw[show ops.toList.drop ops.size=[] by simp]at hR
   exact hQ S a w hR hh
  ·obtain⟨hi,HC,ez,OB⟩:=yU hs hD hi
   have OC:i=k:=by
    have h1:¬i<k:=by rw[hl i hi]at HC;simpa using HC
    rcases Nat.lt_or_ge k i with h|h
    ·have hb:=FB k i (by omega) hi h
     have:=kq OB i k hb (by simp[ez])
     rw[ez,if_neg (by omega),hl k (by omega)]at this
     simp at this
    ·omega
   subst OC
   have ho:ops[i]? =some ops[i]:=Array.getElem?_eq_getElem hi
   have Ws:ops.toList.drop i=ops[i]::ops.toList.drop (i+1):=by
    rw[List.drop_eq_getElem_cons (by simpa using hi)];simp
   rw[Ws]at hR
   have next:∀(S':AS) (acc':List Ac) (a':Act) (w':World),RunT P C ops true (λ_ S=>R S) (ops.toList.drop (i+1)) acc' S'→S'.holds C a' w'→wpAnyIn (Fr C.ro) 0 P .any ops Q fuel (listed.setIfInBounds i true) a' w':=by
    intro S' acc' a' w' h1 h2
    refine ih (i+1) _ a' w' S' acc' (by omega) hi (by simp[hs]) (λj hj=>?_) (by omega) OB h1 h2
    rw[ez]
    by_cases hji:j=i
    ·rw[if_pos hji];simp[hji]
    ·rw[if_neg hji,hl j hj,decide_eq_decide];omega
   rcases hR with⟨rs,rb,rr,e,hop,L8⟩|⟨_,Post,hop,L8⟩
   ·exact hop S Y (λ_ _=>Y) (λ_ _=>Y) (λ_ _=>Y) i a w _ Q ho hh (λa' w' SF=>next _ _ a' w' L8 SF)
   ·exact hop i a w _ Q ho hh (λS' a' w' hp SF=>next S' [] a' w' (L8 S' hp) SF)
theorem DF{m:Nat}(hT:Lm P C ops acts S)(B3:wF ops m acts=true){Q:Exit→Act→World→Prop}
  (hQ:∀(fuel:Nat) (listed:Array Bool) a w,listed.size=ops.size→(∀i,i<ops.size→listed.getD i false=decide (i<m))→ops.size-m≤fuel→Down ops (λi=>listed.getD i false)→(ov S (b7 acts) (λ_=>true) m).holds C a w→wpAnyIn (Fr C.ro) 0 P .any ops Q fuel listed a w):
  ∀(fuel:Nat) (listed:Array Bool) (a:Act) (w:World),listed.size=ops.size→Ln ops.size listed≤fuel→Down ops (λi=>listed.getD i false)→(∀i,listed.getD i false=true→i<m)→
   (ov S (b7 acts) (λi=>listed.getD i false) m).holds C a w→wpAnyIn (Fr C.ro) 0 P .any ops Q fuel listed a w:=by
 obtain⟨hlen,hmn,v8,xT,FB⟩:=sD B3
 have whole:∀(fuel:Nat) (listed:Array Bool) (a:Act) (w:World),listed.size=ops.size→Ln ops.size listed≤fuel→Down ops (λi=>listed.getD i false)→(∀i,listed.getD i false=true→i<m)→
   (ov S (b7 acts) (λi=>listed.getD i false) m).holds C a w→(∀i,i<m→listed.getD i false=true)→wpAnyIn (Fr C.ro) 0 P .any ops Q fuel listed a w:=by
  intro fuel listed a w hs hu hD hL hh hall
  refine hQ fuel listed a w hs (λi hi=>?_) ?_ hD ?_
  ·by_cases h:i<m
   ·rw[hall i h,decide_eq_true h]
   ·rw[decide_eq_false h]
    cases e:listed.getD i false with
    |false=>rfl
    |true=>exact absurd (hL i e) h
  ·have hsub:(List.range ops.size).filter (λi=>!decide (i<m))=(List.range ops.size).filter λi=>!listed.getD i true:=by
    apply List.filter_congr
    intro i hi
    have hi:=List.mem_range.1 hi
    rw[kR listed i hs hi]
    by_cases h:i<m
    ·rw[hall i h,decide_eq_true h]
    ·rw[decide_eq_false h]
     cases e:listed.getD i false with
     |false=>rfl
     |true=>exact absurd (hL i e) h
   have Tb:∀n,m≤n→((List.range n).filter (λi=>!decide (i<m))).length=n-m:=by
    intro n
    induction n with
    |zero=>intro h;simp
    |succ n ih=>
     intro h
     rw[List.range_succ,List.filter_append,List.length_append]
     rcases Nat.lt_or_ge n m with q|q
     ·obtain rfl:m=n+1:=by omega
      have h1:((List.range n).filter (λi=>!decide (i<n+1)))=[]:=by
       rw[List.filter_eq_nil_iff];intro i hi;have:=List.mem_range.1 hi;simp;omega
      rw[h1];simp
     ·rw[ih q,List.filter_cons,decide_eq_false (by omega:¬n<m)];simp;omega
   have h2:Ln ops.size listed=ops.size-m:=by unfold Ln;rw[←hsub,Tb _ hmn]
   omega
  ·rwa[mN S (b7 acts) (L:=λi=>listed.getD i false) (L':=λ_=>true) m hall]at hh
 intro fuel
 induction fuel with
 |zero=>
  intro listed a w hs hu hD hL hh
  refine whole 0 listed a w hs hu hD hL hh (λi hi=>?_)
  cases HC:listed.getD i false with
  |true=>rfl
  |false=>
   exfalso
   have hm:i∈(List.range ops.size).filter λi=>!listed.getD i true:=by
    rw[List.mem_filter];exact⟨List.mem_range.2 (by omega),by rw[kR listed i hs (by omega),HC];rfl⟩
   have:0<Ln ops.size listed:=List.length_pos_of_mem hm
   omega
 |succ fuel ih=>
  intro listed a w hs hu hD hL hh
  by_cases hall:∀i,i<m→listed.getD i false=true
  ·exact whole _ listed a w hs hu hD hL hh hall
  have hex:∃i,i<m∧listed.getD i false=false:=Classical.byContradiction (λhc=>hall (λi hi=>by
   cases e:listed.getD i false with
   |true=>rfl
   |false=>exact absurd ⟨i,hi,e⟩ hc))
  obtain⟨i0,QU,Vv⟩:=hex
  refine⟨λhr=>?_,λi hi=>?_⟩
  ·have:=AL v8 listed hs hr i0 (by omega)
   rw[Vv]at this;cases this
  ·have hi':=hi
   obtain⟨hi,B4,ez,OB⟩:=yU hs hD hi
   have ho:ops[i]? =some ops[i]:=Array.getElem?_eq_getElem hi
   have him:i<m:=by
    rcases Nat.lt_or_ge i m with h|h
    ·exact h
    ·have hb:=FB i0 i h hi (by omega)
     have:=kq OB i i0 hb (by simp[ez])
     rw[ez,if_neg (by omega),Vv]at this
     cases this
   have OA:i<acts.length:=by omega
   have hx:acts[i]? =some acts[i]:=List.getElem?_eq_getElem OA
   have SE:b7 acts i=acts[i].e:=by simp[b7,OA]
   have later:∀k,i<k→listed.getD k false=true→(acts[i]).l6 ((acts[k]?).getD ⟨[],[],[],⟨none,[],[]⟩⟩)=false:=by
    intro k hk hlk
    have hkn:k<m:=hL k hlk
    have hka:acts[k]? =some acts[k]:=List.getElem?_eq_getElem (by omega)
    rw[hka,Option.getD_some]
    cases hc:(acts[i]).l6 acts[k]with
    |false=>rfl
    |true=>
     have hb:=xT i k _ _ hx hka hk hc
     have:=kq hD k i hb hlk
     simp only[B4]at this
     exact absurd this (by simp)
   have Dk:∀k,k<i→listed.getD k false=false→((acts[k]?).getD ⟨[],[],[],⟨none,[],[]⟩⟩).l6 acts[i]=false:=by
    intro k hk hlk
    have hka:acts[k]? =some acts[k]:=List.getElem?_eq_getElem (by omega)
    rw[hka,Option.getD_some]
    cases hc:(acts[k]).l6 acts[i]with
    |false=>rfl
    |true=>
     have hb:=xT k i _ _ hka hx hk hc
     have:=kq OB i k hb (by simp[ez])
     rw[ez,if_neg (by omega),hlk]at this
     exact absurd this (by simp)
   have HD:∀k,((acts[k]?).getD ⟨[],[],[],⟨none,[],[]⟩⟩).e=b7 acts k:=by
    intro k;unfold b7;cases acts[k]? <;>rfl
   have iA:∀{x y:Ac},x.l6 y=false→(∀d∈x.e.ks,d∉y.rs∧d∉y.e.ks)∧(∀d∈y.e.ks,d∉x.rs)∧(∀d∈x.e.kb,d∉y.rb∧d∉y.e.kb)∧(∀d∈y.e.kb,d∉x.rb)∧(∀d∈x.e.kr,d∉y.rr∧d∉y.e.kr)∧(∀d∈y.e.kr,d∉x.rr):=by
    intro x y h
    simp only[Ac.l6,Bool.or_eq_false_iff]at h
    exact⟨fk h.1.1.1.1.1,λd hd=>(fk h.1.1.1.1.2 d hd).1,fk h.1.1.1.2,λd hd=>(fk h.1.1.2 d hd).1,fk h.1.2,λd hd=>(fk h.2 d hd).1⟩
   have look:∀{α:Type} (get:AS→Nat→α) (wr:pq→Nat→Option α) (ez:∀S e s,get (S.app e) s=(wr e s).getD (get S s)) (rk:Ac→List Nat) (wk:pq→List Nat)
     (hk:∀e s,wr e s≠none→s∈wk e) (c1:∀x y:Ac,x.l6 y=false→(∀d∈wk x.e,d∉rk y)∧(∀d∈wk y.e,d∉rk x)),∀s∈rk acts[i],
     get (ov S (b7 acts) (λq=>listed.getD q false) m) s=get (ov S (b7 acts) (λ_=>true) i) s:=by
    intro α get wr ez rk wk hk c1 s B5
    rw[I6 get wr ez S (b7 acts) _ s i m (by omega)]
    ·refine E8 get wr ez S (b7 acts) _ _ s i λm hm hw=>?_
     cases B6:listed.getD m false with
     |true=>rfl
     |false=>
      have:=(c1 _ _ (Dk m hm B6)).1 s (by rw[HD];exact hk _ _ hw)
      exact absurd B5 this
    ·intro m hm1 Zd B6
     cases hw:wr (b7 acts m) s with
     |none=>rfl
     |some x=>
      exfalso
      rcases Nat.lt_or_ge i m with h|h
      ·have:=(c1 _ _ (later m h B6)).2 s (by rw[HD];exact hk _ _ (by rw[hw];simp))
       exact this B5
      ·obtain rfl:m=i:=by omega
       simp only[B4]at B6
       exact absurd B6 (by simp)
   refine hT i ops[i] acts[i] ho hx (ov S (b7 acts) (λq=>listed.getD q false) m) (by rw[Ll,Ll]) ?_ ?_ ?_ i a w _ Q ho hh ?_
   ·exact look AS.t wT AS.E4 Ac.rs pq.ks (λ_ _ h=>Dj h) (λx y h=>⟨λd hd=>((iA h).1 d hd).1,(iA h).2.1⟩)
   ·exact look AS.b (λe=>qk e.bx) AS.E5 Ac.rb pq.kb (λ_ _ h=>ql h) (λx y h=>⟨λd hd=>((iA h).2.2.1 d hd).1,(iA h).2.2.2.1⟩)
   ·exact look AS.r (λe=>eO e.rw) AS.E6 Ac.rr pq.kr (λ_ _ h=>qm h) (λx y h=>⟨λd hd=>((iA h).2.2.2.2.1 d hd).1,(iA h).2.2.2.2.2⟩)
   ·intro a' w' SF
    refine ih (listed.setIfInBounds i true) a' w' (by simp[hs]) ?_ OB ?_ ?_
    ·have:=Lo hi hs (by rw[kR listed i hs hi];exact B4)
     omega
    ·intro k hk
     rw[ez]at hk
     by_cases OC:k=i
     ·omega
     ·rw[if_neg OC]at hk;exact hL k hk
    ·
     have heq:ov S (b7 acts) (λq=>(listed.setIfInBounds i true).getD q false) m=(ov S (b7 acts) (λq=>listed.getD q false) m).app acts[i].e:=by
      have Ze:∀k,k≤i→ov S (b7 acts) (λq=>(listed.setIfInBounds i true).getD q false) k=ov S (b7 acts) (λq=>listed.getD q false) k:=λk hk=>
       mN S (b7 acts) k (λm hm=>by rw[ez,if_neg (by omega)])
      have step:∀k,i<k→k≤m→ov S (b7 acts) (λq=>(listed.setIfInBounds i true).getD q false) k=(ov S (b7 acts) (λq=>listed.getD q false) k).app acts[i].e:=by
       intro k hk hkn
       induction k with
       |zero=>omega
       |succ k Zf=>
        by_cases OC:k=i
        ·subst OC
         show(if(listed.setIfInBounds k true).getD k false then _ else _)=AS.app (if listed.getD k false then _ else _) _
         rw[ez,if_pos Y,if_pos Y,B4,Ze k (Nat.le_refl _),SE]
         rfl
        ·have ih2:=Zf (by omega) (by omega)
         show(if(listed.setIfInBounds i true).getD k false then(ov S (b7 acts) (λq=>(listed.setIfInBounds i true).getD q false) k).app (b7 acts k)else ov S (b7 acts) (λq=>(listed.setIfInBounds i true).getD q false) k)=AS.app (if listed.getD k false then(ov S (b7 acts) (λq=>listed.getD q false) k).app (b7 acts k)else ov S (b7 acts) (λq=>listed.getD q false) k) _
         rw[ez,if_neg OC,ih2]
         cases hlk:listed.getD k false with
         |false=>rfl
         |true=>
          rw[if_pos Y,if_pos rfl]
          have hc:=iA (later k (by omega) hlk)
          rw[HD]at hc
          have two:∀{α:Type} (get:AS→Nat→α) (wr:pq→Nat→Option α) (ez:∀S e s,get (S.app e) s=(wr e s).getD (get S s)) (wk:pq→List Nat) (hk:∀e s,wr e s≠none→s∈wk e)
            (c1:∀d∈wk acts[i].e,d∉wk (b7 acts k)) (T:AS) (s:Nat),get ((T.app acts[i].e).app (b7 acts k)) s=get ((T.app (b7 acts k)).app acts[i].e) s:=by
           intro α get wr ez wk hk c1 T s
           rw[ez,ez,ez,ez]
           cases h1:wr acts[i].e s with
           |none=>rfl
           |some x=>
            cases h2:wr (b7 acts k) s with
            |none=>rfl
            |some y=>exact absurd (hk _ s (by rw[h2];simp)) (c1 s (hk _ s (by rw[h1];simp)))
          refine AS.ext' (by simp[AS.Lk]) (λs=>?_) (λs=>?_) (λs=>?_) (by simp[AS.CJ]) (by simp[AS.CJ])
          ·exact two AS.t wT AS.E4 pq.ks (λ_ _ h=>Dj h) (λd hd=>(hc.1 d hd).2) _ s
          ·exact two AS.b (λe=>qk e.bx) AS.E5 pq.kb (λ_ _ h=>ql h) (λd hd=>(hc.2.2.1 d hd).2) _ s
          ·exact two AS.r (λe=>eO e.rw) AS.E6 pq.kr (λ_ _ h=>qm h) (λd hd=>(hc.2.2.2.2.1 d hd).2) _ s
      exact step m him (Nat.le_refl _)
     rw[heq];exact SF
end part
theorem Ks{P:Program}{C:Ctx}{ops:Array Oper}{K:List Ac→AS→Prop}(rest:List Oper)(S:AS)(h:RunT P C ops false K rest [] S):
  ∃xs:List Ac,xs.length=rest.length∧(∀(i:Nat) (o:Oper) (x:Ac),rest[i]? =some o→xs[i]? =some x→Oz P C ops o x.rs x.rb x.rr (ov S (b7 xs) (λ_=>true) i) x.e)∧K xs.reverse (ov S (b7 xs) (λ_=>true) rest.length):=by
 obtain⟨xs,h1,h2,h3⟩:=xU rest [] S h
 exact⟨xs,h1,h2,by simpa using h3⟩
theorem AM{P:Program}{C:Ctx}{id:Nat}{ops:Array Oper}{S:AS}{Q:Exit→AS→Prop}(m:Nat)(hm:P.follows .mixedOrders=true)
  (h:RunT P C ops false (λacc S=>wF ops m acc.reverse=true∧RunT P C ops true (λ_ S=>Q .normal S) (ops.toList.drop m) [] S) (ops.toList.take m) [] S):Ok P C (.region id ops true) S Q:=λa w hs=>by
 obtain⟨xs,hl,hxs,B3,hq⟩:=Ks _ _ h
 rw[List.reverse_reverse]at B3
 obtain⟨hlen,hmn,v8,xT,FB⟩:=sD B3
 have B6:(ops.toList.take m).length=m:=by simp;omega
 rw[B6]at hq
 refine wpIn_region_any hm ?_
 refine DF (acts:=xs) (S:=S) (m:=m) (λi o x ho hx=>hxs i o x ?_ hx) B3 (λfuel listed a w h1 h2 h3 h4 h5=>DE (m:=m) v8 FB (R:=λS=>Q .normal S) (λS a w hR hh=>⟨S,hR,hh⟩) fuel m listed a w _ [] (Nat.le_refl _) hmn h1 h2 h3 h4 hq h5) ops.size _ a _ (by simp) ?_ ?_ ?_ ?_
 ·have hi:i<m:=by
   have:=(List.getElem?_eq_some_iff.1 hx).1;omega
  rw[List.getElem?_take_of_lt hi];simpa using ho
 ·have:=List.length_filter_le (λi=>!(Array.replicate ops.size false).getD i true) (List.range ops.size)
  simpa[Ln]using this
 ·intro j o _ hj
  exfalso
  simp only[Array.getD_eq_getD_getElem?,Array.getElem?_replicate]at hj
  split at hj<;>simp at hj
 ·intro i hi
  exfalso
  simp only[Array.getD_eq_getD_getElem?,Array.getElem?_replicate]at hi
  split at hi<;>simp at hi
 ·rw[mN S (b7 xs) (L':=λ_=>false) m (λi hi=>by rw[Array.getD_eq_getD_getElem?,Array.getElem?_replicate];split<;>rfl)]
  have:∀k,ov S (b7 xs) (λ_=>false) k=S:=by
   intro k;induction k with
   |zero=>rfl
   |succ k ih=>simpa[ov]using ih
  rw[this]
  exact hs.drew
end
end Go.Fw
namespace Go.Fw.Z
section
open Go.Fw
theorem T{d n:Nat}(h:Nat.ble (d+1) n=true:=by exact rfl):d<n:=tl h
theorem bE{α β:Type}{x:Option α}{f:α→Option β}{r:β}{G:Prop}(h:Option.bind x f=some r)(k:∀a,x=some a→f a=some r→G):G:=by obtain⟨a,h1,h2⟩:=bind_some h;exact k a h1 h2
theorem lE{α β:Type}{v:α}{f:α→Option β}{r:β}{G:Prop}(h:Option.bind (some v) f=some r)(k:∀a,v=a→f a=some r→G):G:=k v Y h
theorem bS{α β:Type}{x:Option α}{f:α→Option β}{r:β}(h:Option.bind x f=some r):∃a,x=some a∧f a=some r:=bind_some h
theorem F{α:Type}{x y:Option α}{r:α}(h:(bif false then x else y)=some r):y=some r:=h
theorem V{α:Type}{x y:Option α}{r:α}(h:(bif true then x else y)=some r):x=some r:=h
theorem O{α:Type}{a b:α}(h:some a=some b):a=b:=Option.some.inj h
def yS(l:List (Nat×Nat))(i:Nat):Nat:=((l.find? λp=>Nat.beq p.1 i).map (·.2)).getD i
def YH(l:List (Nat×Nat)):AV→AV
 |.row i=>.row (yS l i)
 |.nD i o n=>.nD (yS l i) o n
 |x=>x
def YI:AV→Bool
 |.iW _ _=>false
 |.cmp _ _=>false
 |_=>true
theorem avi(l:List (Nat×Nat)){x:AV}(h:YI x=true):Kj (yS l) (YH l x) x:=by
 cases x with
 |sv s=>exact .sv aq
 |ptr i o=>exact .ptr
 |EW i o n c=>exact .EW
 |row i=>exact .row Y
 |iW i k=>cases h
 |nD i o n=>exact .nD Y
 |fT g js=>exact .fT
 |cmp t js=>cases h
theorem Wt(l:List (Nat×Nat)):∀{xs:List AV},(xs.all YI)=true→HG (yS l) (xs.map (YH l)) xs
 |[],_=>trivial
 |x::xs,h=>by simp only[List.all_cons,Bool.and_eq_true]at h;exact⟨avi l h.1,Wt l h.2⟩
theorem wR(l:List (Nat×Nat)){S:AS}{n:Nat}{ts:List (Nat×AV)}{bs:List (Nat×nE)}{rs:List (Nat×Row)}{g:Nat}{go:Bool}
  (ht:ts.map (λp=>S.t p.1)=ts.map (λp=>YH l p.2):=by exact rfl) (hb:bs.map (λp=>S.b p.1)=bs.map (λp=>some ⟨p.2.T,p.2.cells.map (YH l)⟩):=by exact rfl) (hr:rs.map (λp=>S.r (yS l p.1))=rs.map (λp=>.live p.2):=by exact rfl)
  (hn:S.n=n:=by exact rfl) (hg:S.g=g:=by exact rfl) (Hy:S.go=go:=by exact rfl)
  (hwf:((ts.all λp=>p.2.pO bs rs)&&(bs.all λp=>p.2.cells.all λx=>x.pO bs rs))=true:=by exact rfl) (hσ:((rs.all λp=>rs.all λq=>!(Nat.beq (yS l p.1) (yS l q.1))||Nat.beq p.1 q.1))=true:=by exact rfl)
  (hno:((ts.all λp=>YI p.2)&&(bs.all λp=>p.2.cells.all YI))=true:=by exact rfl) (hl:(l.all λp=>Nat.ble (p.1+1) 1000)=true:=by exact rfl):r8 S (AS.cq n ts bs rs g go):=by
 simp only[Bool.and_eq_true,List.all_eq_true]at hno
 refine c6 (yS l) hn hg Hy hwf hσ ?_ ?_ ?_ ?_
 ·clear hwf hb hr
  obtain⟨h,-⟩:=hno
  induction ts with
  |nil=>trivial
  |cons p ts ih=>
   obtain⟨k,x⟩:=p
   simp only[List.map_cons,List.cons.injEq]at ht
   refine⟨?_,ih ht.2 (λq hq=>h q (by simp[hq]))⟩
   show Kj _ (S.t k) x
   rw[ht.1];exact avi l (h (k,x) (by simp))
 ·clear hwf ht hr
  obtain⟨-,h⟩:=hno
  induction bs with
  |nil=>trivial
  |cons p bs ih=>
   obtain⟨k,x⟩:=p
   simp only[List.map_cons,List.cons.injEq]at hb
   exact⟨⟨_,hb.1,Wt l (List.all_eq_true.2 (h (k,x) (by simp)))⟩,ih hb.2 (λq hq=>h q (by simp[hq]))⟩
 ·clear hwf ht hb hσ
  induction rs with
  |nil=>trivial
  |cons p rs ih=>
   obtain⟨k,x⟩:=p
   simp only[List.map_cons,List.cons.injEq]at hr
   exact⟨⟨_,hr.1,cH.refl _⟩,ih hr.2⟩
 ·intro i hi
  unfold yS
  have:l.find? (λp=>Nat.beq p.1 i)=none:=by
   rw[List.find?_eq_none]
   intro p hp e
   have h1:=ae (List.all_eq_true.1 hl p hp)
   have h2:=Nat.eq_of_beq_eq_true e
   omega
  rw[this];rfl
section
variable {P:Program}{C:Ctx}{S:AS}{Q:Exit→AS→Prop}
theorem qq{x y:Code}(h:Ok P C x S (aV (λS'=>Ok P C y S' Q) Q)):Ok P C (.seq x y) S Q:=bz h
theorem sr{id:Nat}{ops:Array Oper}{y:Code}(h:RunT P C ops true (λ_ S=>aV (λS'=>Ok P C y S' Q) Q .normal S) ops.toList [] S):Ok P C (.seq (.region id ops false) y) S Q:=bz (aW h)
theorem dn{ops:Array Oper}{acc:List Ac}{next:AS→Prop}(h:next S):RunT P C ops true (λ_ S=>aV next Q .normal S) [] acc S:=h
theorem cF{c:Operand}{x y:Code}(hf:Ok P C y S Q)(hc:S.ev c=.sv (.v (.bool false)):=by exact rfl):Ok P C (.cond c x y) S Q:=da hc hf
theorem cT{c:Operand}{x y:Code}(ht:Ok P C x S Q)(hc:S.ev c=.sv (.v (.bool true)):=by exact rfl):Ok P C (.cond c x y) S Q:=cA hc ht
theorem fs{c:Operand}{x:Code}{next:AS→Prop}(h:next S)(hc:S.ev c=.sv (.v (.bool false)):=by exact rfl):Ok P C (.cond c x .skip) S (aV next Q):=da hc (bu h)
theorem R1{A:Prop}{e:Exit}{t:Nat}{s:SV}(h:S.t t=.sv s):(A∨e=e)∧Ol P S [.tmp t] s:=⟨.inr Y,nW (.tmp h .nil) aq⟩
theorem R2{A:Prop}{e:Exit}{t u:Nat}{s s':SV}(h:S.t t=.sv s)(h':S.t u=.sv s'):(A∨e=e)∧Ol P S [.tmp t,.tmp u] (.BW [s,s']):=⟨.inr Y,nW (.tmp h (.tmp h' .nil)) aq⟩
theorem RZ{A:Prop}{e:Exit}{rs:List ResultVar}{ss:List SV}{r:SV}(h:Lf P S rs ss)(h':SV.imp (LH ss) r:=by exact aq):(A∨e=e)∧Ol P S rs r:=⟨.inr Y,nW h h'⟩
end
section
variable {P:Program}{C:Ctx}{ops:Array Oper}{S:AS}{nd:Bool}{K:List Ac→AS→Prop}{rest:List Oper}{acc:List Ac}
variable {gd:Option (Nat×Bool)}{rg:List Nat}{d:Nat}{ty:TypeId}{pos:String}{aft:Array Edge}{x y z:Operand}{T U:TypeId}{k:IntKind}{p q:Int}
theorem pF{s:SV}(hz:S.ev z=.sv s)(next:RunT P C ops nd K rest (⟨[]++(bg x++bg z),[],[],⟨some (d,.sv s),[],[]⟩⟩::acc) (S.set d (.sv s)))(hx:S.ev x=.sv (.v (.bool false)):=by exact rfl)(hd:d<S.n:=by exact tl Y):RunT P C ops nd K (⟨some d,.pick x y z,ty,pos,aft,none⟩::rest) acc S:=
 RT.QH .none hx hz hd next
theorem pT{s:SV}(hy:S.ev y=.sv s)(next:RunT P C ops nd K rest (⟨[]++(bg x++bg y),[],[],⟨some (d,.sv s),[],[]⟩⟩::acc) (S.set d (.sv s)))(hx:S.ev x=.sv (.v (.bool true)):=by exact rfl)(hd:d<S.n:=by exact tl Y):RunT P C ops nd K (⟨some d,.pick x y z,ty,pos,aft,none⟩::rest) acc S:=
 RT.QG .none hx hy hd next
theorem mo{s:AV}(hx:S.ev x=s)(next:RunT P C ops nd K rest (⟨[]++bg x,[],[],⟨some (d,s),[],[]⟩⟩::acc) (S.set d s))(hd:d<S.n:=by exact tl Y):RunT P C ops nd K (⟨some d,.move x,ty,pos,aft,none⟩::rest) acc S:=
 RT.move .none hx hd next
theorem ad(c:Int)(hx:S.ev x=.sv (.v (.int k p)))(hy:S.ev y=.sv (.v (.int k q)))(hc:k.wrap (p+q)=c)(next:RunT P C ops nd K rest (⟨[]++(bg x++bg y),[],[],⟨some (d,.sv (.v (.int k c))),[],[]⟩⟩::acc) (S.set d (.sv (.v (.int k c)))))(hd:d<S.n:=by exact tl Y):RunT P C ops nd K (⟨some d,.binOp .add T x y U,ty,pos,aft,none⟩::rest) acc S:=
 RT.add .none c hx hy hd hc next
theorem cv{j:IntKind}[tT:mO P T j][tU:mO P U k](c:Int){k':IntKind}(hx:S.ev x=.sv (.v (.int k' p)))(hc:k.wrap p=c)(next:RunT P C ops nd K rest (⟨[]++bg x,[],[],⟨some (d,.sv (.v (.int k c))),[],[]⟩⟩::acc) (S.set d (.sv (.v (.int k c)))))(hd:d<S.n:=by exact tl Y):RunT P C ops nd K (⟨some d,.convert T U x,ty,pos,aft,none⟩::rest) acc S:=
 RT.conv .none c hx hd hc next
theorem ls(c:Bool)(hx:S.ev x=.sv (.v (.int k p)))(hy:S.ev y=.sv (.v (.int k q)))(hc:decide (p<q)=c)(next:RunT P C ops nd K rest (⟨[]++(bg x++bg y),[],[],⟨some (d,.sv (.v (.bool c))),[],[]⟩⟩::acc) (S.set d (.sv (.v (.bool c)))))(hd:d<S.n:=by exact tl Y):RunT P C ops nd K (⟨some d,.binOp .lss T x y U,ty,pos,aft,none⟩::rest) acc S:=
 RT.lss .none c hx hy hd hc next
theorem sb(c:Int)(hx:S.ev x=.sv (.v (.int k p)))(hy:S.ev y=.sv (.v (.int k q)))(hc:k.wrap (p-q)=c)(next:RunT P C ops nd K rest (⟨[]++(bg x++bg y),[],[],⟨some (d,.sv (.v (.int k c))),[],[]⟩⟩::acc) (S.set d (.sv (.v (.int k c)))))(hd:d<S.n:=by exact tl Y):RunT P C ops nd K (⟨some d,.binOp .sub T x y U,ty,pos,aft,none⟩::rest) acc S:=
 RT.sub .none c hx hy hd hc next
theorem an{s:AV}(hx:S.ev x=s)(next:RunT P C ops nd K rest (⟨[]++bg x,[],[],⟨some (d,s),[],[]⟩⟩::acc) (S.set d s))(hd:d<S.n:=by exact tl Y):RunT P C ops nd K (⟨some d,.assign x,ty,pos,aft,none⟩::rest) acc S:=
 RT.assign .none hx hd next
theorem gt(c:Bool)(hx:S.ev x=.sv (.v (.int k p)))(hy:S.ev y=.sv (.v (.int k q)))(hc:decide (q<p)=c)(next:RunT P C ops nd K rest (⟨[]++(bg x++bg y),[],[],⟨some (d,.sv (.v (.bool c))),[],[]⟩⟩::acc) (S.set d (.sv (.v (.bool c)))))(hd:d<S.n:=by exact tl Y):RunT P C ops nd K (⟨some d,.binOp .gtr T x y U,ty,pos,aft,none⟩::rest) acc S:=
 RT.gtr .none c hx hy hd hc next
theorem eq(c:Bool)(hx:S.ev x=.sv (.v (.int k p)))(hy:S.ev y=.sv (.v (.int k q)))(hc:(p==q)=c)(next:RunT P C ops nd K rest (⟨[]++(bg x++bg y),[],[],⟨some (d,.sv (.v (.bool c))),[],[]⟩⟩::acc) (S.set d (.sv (.v (.bool c)))))(hd:d<S.n:=by exact tl Y):RunT P C ops nd K (⟨some d,.binOp .eql T x y U,ty,pos,aft,none⟩::rest) acc S:=
 RT.eql .none c hx hy hd hc next
theorem ne(c:Bool)(hx:S.ev x=.sv (.v (.int k p)))(hy:S.ev y=.sv (.v (.int k q)))(hc:(p != q)=c)(next:RunT P C ops nd K rest (⟨[]++(bg x++bg y),[],[],⟨some (d,.sv (.v (.bool c))),[],[]⟩⟩::acc) (S.set d (.sv (.v (.bool c)))))(hd:d<S.n:=by exact tl Y):RunT P C ops nd K (⟨some d,.binOp .neq T x y U,ty,pos,aft,none⟩::rest) acc S:=
 RT.neq .none c hx hy hd hc next
theorem ge(c:Bool)(hx:S.ev x=.sv (.v (.int k p)))(hy:S.ev y=.sv (.v (.int k q)))(hc:decide (q≤p)=c)(next:RunT P C ops nd K rest (⟨[]++(bg x++bg y),[],[],⟨some (d,.sv (.v (.bool c))),[],[]⟩⟩::acc) (S.set d (.sv (.v (.bool c)))))(hd:d<S.n:=by exact tl Y):RunT P C ops nd K (⟨some d,.binOp .geq T x y U,ty,pos,aft,none⟩::rest) acc S:=
 RT.geq .none c hx hy hd hc next
theorem nt{b:Bool}(hx:S.ev x=.sv (.v (.bool b)))(c:Bool)(hc:(!b)=c)(next:RunT P C ops nd K rest (⟨[]++bg x,[],[],⟨some (d,.sv (.v (.bool c))),[],[]⟩⟩::acc) (S.set d (.sv (.v (.bool c)))))(hd:d<S.n:=by exact tl Y):RunT P C ops nd K (⟨some d,.unOp .not T x,ty,pos,aft,none⟩::rest) acc S:=
 RT.not .none hx hd c hc next
theorem gF{j_ g_:Nat}{fD:Bool}{s:SV}(hz:S.ev z=.sv s)(next:RunT P C ops nd K rest (⟨[g_]++(bg x++bg z),[],[],⟨some (d,.sv s),[],[]⟩⟩::acc) (S.set d (.sv s)))(Ch:(ops[j_]?).bind (·.dst)=some g_:=by exact rfl)(Ci:S.t g_=.sv (.v (.bool fD)):=by exact rfl)(hx:S.ev x=.sv (.v (.bool false)):=by exact rfl)(hd:d<S.n:=by exact tl Y):RunT P C ops nd K (⟨some d,.pick x y z,ty,pos,aft,some (j_,fD)⟩::rest) acc S:=
 RT.QH (.some Ch Ci) hx hz hd next
theorem gT{j_ g_:Nat}{fD:Bool}{s:SV}(hy:S.ev y=.sv s)(next:RunT P C ops nd K rest (⟨[g_]++(bg x++bg y),[],[],⟨some (d,.sv s),[],[]⟩⟩::acc) (S.set d (.sv s)))(Ch:(ops[j_]?).bind (·.dst)=some g_:=by exact rfl)(Ci:S.t g_=.sv (.v (.bool fD)):=by exact rfl)(hx:S.ev x=.sv (.v (.bool true)):=by exact rfl)(hd:d<S.n:=by exact tl Y):RunT P C ops nd K (⟨some d,.pick x y z,ty,pos,aft,some (j_,fD)⟩::rest) acc S:=
 RT.QG (.some Ch Ci) hx hy hd next
theorem gq{j_ g_:Nat}{fD:Bool}(c:Bool)(hx:S.ev x=.sv (.v (.int k p)))(hy:S.ev y=.sv (.v (.int k q)))(hc:(p != q)=c)(next:RunT P C ops nd K rest (⟨[g_]++(bg x++bg y),[],[],⟨some (d,.sv (.v (.bool c))),[],[]⟩⟩::acc) (S.set d (.sv (.v (.bool c)))))(Ch:(ops[j_]?).bind (·.dst)=some g_:=by exact rfl)(Ci:S.t g_=.sv (.v (.bool fD)):=by exact rfl)(hd:d<S.n:=by exact tl Y):RunT P C ops nd K (⟨some d,.binOp .neq T x y U,ty,pos,aft,some (j_,fD)⟩::rest) acc S:=
 RT.neq (.some Ch Ci) c hx hy hd hc next
theorem gg{j_ g_:Nat}{fD:Bool}(c:Bool)(hx:S.ev x=.sv (.v (.int k p)))(hy:S.ev y=.sv (.v (.int k q)))(hc:decide (q<p)=c)(next:RunT P C ops nd K rest (⟨[g_]++(bg x++bg y),[],[],⟨some (d,.sv (.v (.bool c))),[],[]⟩⟩::acc) (S.set d (.sv (.v (.bool c)))))(Ch:(ops[j_]?).bind (·.dst)=some g_:=by exact rfl)(Ci:S.t g_=.sv (.v (.bool fD)):=by exact rfl)(hd:d<S.n:=by exact tl Y):RunT P C ops nd K (⟨some d,.binOp .gtr T x y U,ty,pos,aft,some (j_,fD)⟩::rest) acc S:=
 RT.gtr (.some Ch Ci) c hx hy hd hc next
theorem Tc{j_ g_:Nat}{fD:Bool}(c:Bool)(hx:S.ev x=.sv (.v (.int k p)))(hy:S.ev y=.sv (.v (.int k q)))(hc:(p==q)=c)(next:RunT P C ops nd K rest (⟨[g_]++(bg x++bg y),[],[],⟨some (d,.sv (.v (.bool c))),[],[]⟩⟩::acc) (S.set d (.sv (.v (.bool c)))))(Ch:(ops[j_]?).bind (·.dst)=some g_:=by exact rfl)(Ci:S.t g_=.sv (.v (.bool fD)):=by exact rfl)(hd:d<S.n:=by exact tl Y):RunT P C ops nd K (⟨some d,.binOp .eql T x y U,ty,pos,aft,some (j_,fD)⟩::rest) acc S:=
 RT.eql (.some Ch Ci) c hx hy hd hc next
theorem gt_{j_ g_:Nat}{fD:Bool}{b:Bool}(hx:S.ev x=.sv (.v (.bool b)))(c:Bool)(hc:(!b)=c)(next:RunT P C ops nd K rest (⟨[g_]++bg x,[],[],⟨some (d,.sv (.v (.bool c))),[],[]⟩⟩::acc) (S.set d (.sv (.v (.bool c)))))(Ch:(ops[j_]?).bind (·.dst)=some g_:=by exact rfl)(Ci:S.t g_=.sv (.v (.bool fD)):=by exact rfl)(hd:d<S.n:=by exact tl Y):RunT P C ops nd K (⟨some d,.unOp .not T x,ty,pos,aft,some (j_,fD)⟩::rest) acc S:=
 RT.not (.some Ch Ci) hx hd c hc next
end
section
variable {P:Program}{C:Ctx}{ops:Array Oper}{S:AS}{nd:Bool}{K:List Ac→AS→Prop}{rest:List Oper}{acc:List Ac}
variable {gd:Option (Nat×Bool)}{rg:List Nat}{d:Nat}{ty:TypeId}{pos:String}{aft:Array Edge}{x y z:Operand}{T U E0:TypeId}
theorem mv{s:SV}(hx:S.ev x=.sv s)(next:RunT P C ops nd K rest (⟨[]++bg x,[],[],⟨some (d,.sv s),[],[]⟩⟩::acc) (S.set d (.sv s)))(hd:d<S.n:=by exact tl Y):RunT P C ops nd K (⟨some d,.move x,ty,pos,aft,none⟩::rest) acc S:=
 RT.mv .none hx hd next
theorem ag{s:SV}(hx:S.ev x=.sv s)(next:RunT P C ops nd K rest (⟨[]++bg x,[],[],⟨some (d,.sv s),[],[]⟩⟩::acc) (S.set d (.sv s)))(hd:d<S.n:=by exact tl Y):RunT P C ops nd K (⟨some d,.assign x,ty,pos,aft,none⟩::rest) acc S:=
 RT.wA .none hx hd next
theorem cl{f:FuncId}[cW P f]{g:Operand}{xs:Array Operand}{at_:Array TypeId}{args:List SV}{r:SV}(hp:Pure P f args r)(hargs:iu S xs.toList args)(next:RunT P C ops nd K rest (⟨[]++(bg g++xs.toList.flatMap bg),[],[],⟨some (d,.sv r),[],[]⟩⟩::acc) (S.set d (.sv r)))(hf:S.ev g=.sv (.v (.func (.func f) #[] #[])):=by exact rfl)(hd:d<S.n:=by exact tl Y):RunT P C ops nd K (⟨some d,.call ⟨.value g,xs,at_⟩,ty,pos,aft,none⟩::rest) acc S:=
 RT.call .none hp hf hargs hd next
theorem ld{n:Nat}[tA:xO P T n]{j off:Nat}{B:nE}{cs:List SV}(hx:S.ev x=.ptr j off)(hB:S.b j=some B)(hcs:Lc B.cells off cs)(next:RunT P C ops nd K rest (⟨[]++bg x,[j],[],⟨some (d,.sv (.agg cs)),[],[]⟩⟩::acc) (S.set d (.sv (.agg cs))))(hn:cs.length=n:=by exact rfl)(hd:d<S.n:=by exact tl Y):RunT P C ops nd K (⟨some d,.load T x,ty,pos,aft,none⟩::rest) acc S:=
 RT.load .none hx hB hcs hn hd next
theorem lV[tV:qN P T]{j off:Nat}{B:nE}{s:SV}(hx:S.ev x=.ptr j off)(hB:S.b j=some B)(hn:B.cells[off]? =some (.sv s))(next:RunT P C ops nd K rest (⟨[]++bg x,[j],[],⟨some (d,.sv s),[],[]⟩⟩::acc) (S.set d (.sv s)))(hd:d<S.n:=by exact tl Y):RunT P C ops nd K (⟨some d,.load T x,ty,pos,aft,none⟩::rest) acc S:=
 RT.oz .none hx hB hn hd next
theorem fa{f off:Nat}[hf:CK P T f off U][sU:Fe P U]{j o:Nat}(hx:S.ev x=.ptr j o){o':Nat}(ho':o+off=o')(next:RunT P C ops nd K rest (⟨[]++bg x,[],[],⟨some (d,.ptr j o'),[],[]⟩⟩::acc) (S.set d (.ptr j o')))(hd:d<S.n:=by exact tl Y):RunT P C ops nd K (⟨some d,.fieldAddr T x f,ty,pos,aft,none⟩::rest) acc S:=
 RT.fieldAddr .none hx hd ho' next
theorem so{n:Nat}[tA:xO P T n]{j:Nat}{B:nE}{cs:List SV}[o1:uF cs](hx:S.ev x=.ptr j 0)(hB:S.b j=some B)(hy:S.ev y=.sv (.agg cs))(next:RunT P C ops nd K rest (⟨[]++(bg x++bg y),[j],[],⟨none,[(j,⟨B.T,cs.map AV.sv⟩)],[]⟩⟩::acc) (S.lT j ⟨B.T,cs.map AV.sv⟩))(tZ:cs.length=n:=by exact rfl)(hn:B.cells.length=n:=by exact rfl):RunT P C ops nd K (⟨none,.store T x y,ty,pos,aft,none⟩::rest) acc S:=
 RT.store .none hx hB hy tZ hn next
theorem ex{i:Nat}{ss:List SV}{s:SV}(hx:S.ev x=.sv (.BW ss))(hi:ss[i]? =some s)(next:RunT P C ops nd K rest (⟨[]++bg x,[],[],⟨some (d,.sv s),[],[]⟩⟩::acc) (S.set d (.sv s)))(hd:d<S.n:=by exact tl Y):RunT P C ops nd K (⟨some d,.extract x i,ty,pos,aft,none⟩::rest) acc S:=
 RT.extract .none hx hi hd next
theorem bx{cells:List SV}(hx:S.ev x=.sv (.agg cells))(next:RunT P C ops nd K rest (⟨[]++bg x,[d],[],⟨some (d,.ptr d 0),[(d,⟨T,cells.map AV.sv⟩)],[]⟩⟩::acc) ((S.lT d ⟨T,cells.map AV.sv⟩).set d (.ptr d 0)))(hd:d<S.n:=by exact tl Y)(hb:S.b d=none:=by exact rfl)(hp:C.iX d=none:=by exact rfl):RunT P C ops nd K (⟨some d,.box T x,ty,pos,aft,none⟩::rest) acc S:=
 RT.box .none hx hd hb hp next
theorem lr[tV:qN P T]{cells:List SV}{s:SV}(hx:S.ev x=.sv (ref cells))(hn:cells[0]? =some s)(next:RunT P C ops nd K rest (⟨[]++bg x,[],[],⟨some (d,.sv s),[],[]⟩⟩::acc) (S.set d (.sv s)))(hd:d<S.n:=by exact tl Y):RunT P C ops nd K (⟨some d,.load T x,ty,pos,aft,none⟩::rest) acc S:=
 RT.cM .none hx hn hd next
theorem cB{f:FuncId}[cW P f]{g:Operand}{xs:Array Operand}{at_:Array TypeId}{args:List SV}{T:TypeId}{c0 c1:List SV}{res:SV}(hp:LN P f args T c0 res c1)(j:Nat)(hB:S.b j=some ⟨T,c0.map AV.sv⟩)(hargs:iu S xs.toList args)(next:RunT P C ops nd K rest (⟨[]++(bg g++xs.toList.flatMap bg),[j],[],⟨some (d,.sv res),[(j,⟨T,c1.map AV.sv⟩)],[]⟩⟩::acc) ((AS.lZ [(j,⟨T,c1.map AV.sv⟩)] S).set d (.sv res)))(hf:S.ev g=.fT f [.box j]:=by exact rfl)(hd:d<S.n:=by exact tl Y):RunT P C ops nd K (⟨some d,.call ⟨.value g,xs,at_⟩,ty,pos,aft,none⟩::rest) acc S:=
 RT.V6 .none hp j hB hf hargs hd next
theorem cN{f:FuncId}[cW P f]{g:Operand}{xs:Array Operand}{at_:Array TypeId}{args:List SV}{R:Row}(hp:Kn P f args R)(hargs:iu S xs.toList args)(next:RunT P C ops nd K rest (⟨[]++(bg g++xs.toList.flatMap bg),[],[d],⟨some (d,.row d),[],[(d,.live R)]⟩⟩::acc) ((AS.cf [(d,.live R)] S).set d (.row d)))(hf:S.ev g=.sv (.v (.func (.func f) #[] #[])):=by exact rfl)(hd:d<S.n:=by exact tl Y)(wj:S.r d=.un:=by exact rfl)(uP:d<1000:=by exact tl Y):RunT P C ops nd K (⟨some d,.call ⟨.value g,xs,at_⟩,ty,pos,aft,none⟩::rest) acc S:=
 RT.V5 .none hp hf hargs hd wj uP next
theorem gm{j_ g_:Nat}{fD:Bool}{s:SV}(hx:S.ev x=.sv s)(next:RunT P C ops nd K rest (⟨[g_]++bg x,[],[],⟨some (d,.sv s),[],[]⟩⟩::acc) (S.set d (.sv s)))(Ch:(ops[j_]?).bind (·.dst)=some g_:=by exact rfl)(Ci:S.t g_=.sv (.v (.bool fD)):=by exact rfl)(hd:d<S.n:=by exact tl Y):RunT P C ops nd K (⟨some d,.move x,ty,pos,aft,some (j_,fD)⟩::rest) acc S:=
 RT.mv (.some Ch Ci) hx hd next
theorem gl{j_ g_:Nat}{fD:Bool}{n:Nat}[tA:xO P T n]{j off:Nat}{B:nE}{cs:List SV}(hx:S.ev x=.ptr j off)(hB:S.b j=some B)(hcs:Lc B.cells off cs)(next:RunT P C ops nd K rest (⟨[g_]++bg x,[j],[],⟨some (d,.sv (.agg cs)),[],[]⟩⟩::acc) (S.set d (.sv (.agg cs))))(Ch:(ops[j_]?).bind (·.dst)=some g_:=by exact rfl)(Ci:S.t g_=.sv (.v (.bool fD)):=by exact rfl)(hn:cs.length=n:=by exact rfl)(hd:d<S.n:=by exact tl Y):RunT P C ops nd K (⟨some d,.load T x,ty,pos,aft,some (j_,fD)⟩::rest) acc S:=
 RT.load (.some Ch Ci) hx hB hcs hn hd next
theorem gc{j_ g_:Nat}{fD:Bool}{f:FuncId}[cW P f]{g:Operand}{xs:Array Operand}{at_:Array TypeId}{args:List SV}{r:SV}(hp:Pure P f args r)(hargs:iu S xs.toList args)(next:RunT P C ops nd K rest (⟨[g_]++(bg g++xs.toList.flatMap bg),[],[],⟨some (d,.sv r),[],[]⟩⟩::acc) (S.set d (.sv r)))(Ch:(ops[j_]?).bind (·.dst)=some g_:=by exact rfl)(Ci:S.t g_=.sv (.v (.bool fD)):=by exact rfl)(hf:S.ev g=.sv (.v (.func (.func f) #[] #[])):=by exact rfl)(hd:d<S.n:=by exact tl Y):RunT P C ops nd K (⟨some d,.call ⟨.value g,xs,at_⟩,ty,pos,aft,some (j_,fD)⟩::rest) acc S:=
 RT.call (.some Ch Ci) hp hf hargs hd next
theorem gr{j_ g_:Nat}{fD:Bool}[tV:qN P T]{cells:List SV}{s:SV}(hx:S.ev x=.sv (ref cells))(hn:cells[0]? =some s)(next:RunT P C ops nd K rest (⟨[g_]++bg x,[],[],⟨some (d,.sv s),[],[]⟩⟩::acc) (S.set d (.sv s)))(Ch:(ops[j_]?).bind (·.dst)=some g_:=by exact rfl)(Ci:S.t g_=.sv (.v (.bool fD)):=by exact rfl)(hd:d<S.n:=by exact tl Y):RunT P C ops nd K (⟨some d,.load T x,ty,pos,aft,some (j_,fD)⟩::rest) acc S:=
 RT.cM (.some Ch Ci) hx hn hd next
end
section
variable {P:Program}{C:Ctx}{ops:Array Oper}{S:AS}{nd:Bool}{K:List Ac→AS→Prop}{rest:List Oper}{acc:List Ac}
variable {gd:Option (Nat×Bool)}{rg:List Nat}{d:Nat}{ty:TypeId}{pos:String}{aft:Array Edge}{x y z:Operand}{T U E0:TypeId}
variable {l l' k:On}
theorem ww{op:Op}{j g:Nat}{b want:Bool}(next:RunT P C ops nd K rest (⟨[g],[],[],⟨some (d,.sv (.v undef)),[],[]⟩⟩::acc) (S.set d (.sv (.v undef))))(h1:(ops[j]?).bind (·.dst)=some g:=by exact rfl)(h2:S.t g=.sv (.v (.bool b)):=by exact rfl)(hb:b≠want:=by exact sk Y)(hd:d<S.n:=by exact tl Y):RunT P C ops nd K (⟨some d,op,ty,pos,aft,some (j,want)⟩::rest) acc S:=
 RT.skV h1 h2 hb hd next
theorem wu{op:Op}{j g:Nat}{want:Bool}(next:RunT P C ops nd K rest (⟨[g],[],[],⟨some (d,.sv (.v undef)),[],[]⟩⟩::acc) (S.set d (.sv (.v undef))))(h1:(ops[j]?).bind (·.dst)=some g:=by exact rfl)(h2:S.t g=.sv (.v undef):=by exact rfl)(hd:d<S.n:=by exact tl Y):RunT P C ops nd K (⟨some d,op,ty,pos,aft,some (j,want)⟩::rest) acc S:=
 RT.Wn h1 h2 hd next
end
section
variable {P:Program}{C:Ctx}{ops:Array Oper}{S:AS}{nd:Bool}{K:List Ac→AS→Prop}{rest:List Oper}{acc:List Ac}
variable {gd:Option (Nat×Bool)}{rg:List Nat}{d:Nat}{ty:TypeId}{pos:String}{aft:Array Edge}{x y z:Operand}{T U E0:TypeId}
variable {α:Type}{l l' k:List α}{e:α→List SV}{n by_:Nat}{zv:Value}
theorem ln{m:Nat}[tS:eA P T E0 m]{c:Int}(hx:S.ev x=.sv (slc n (l.map e)))(hc:(l.length:Int)=c)(next:RunT P C ops nd K rest (⟨[]++bg x,[],[],⟨some (d,.sv (.v (.int .i64 c))),[],[]⟩⟩::acc) (S.set d (.sv (.v (.int .i64 c)))))(hd:d<S.n:=by exact tl Y):RunT P C ops nd K (⟨some d,.call ⟨.builtin .len,#[x],#[T]⟩,ty,pos,aft,none⟩::rest) acc S:=
 RT.Wk .none hx hd hc next
theorem al[tz:iB P T zv]{cs:List SV}(hi:cH (zv.cells.toList.map SV.v) cs){av:List AV}(ZS:cs.map AV.sv=av)(next:RunT P C ops nd K rest (⟨[]++[],[d],[],⟨some (d,.ptr d 0),[(d,⟨T,av⟩)],[]⟩⟩::acc) ((S.lT d ⟨T,av⟩).set d (.ptr d 0)))(hd:d<S.n:=by exact tl Y)(hb:S.b d=none:=by exact rfl)(hp:C.iX d=none:=by exact rfl):RunT P C ops nd K (⟨some d,.alloc T,ty,pos,aft,none⟩::rest) acc S:=
 RT.qS .none hi ZS hd hb hp next
theorem ix[tS:eA P T E0 n]{kk:IntKind}{i:Int}{a:α}(hx:S.ev x=.sv (slc n (l.map e)))(hy:S.ev y=.sv (.v (.int kk i)))(ha:cQ l i=some a)(next:RunT P C ops nd K rest (⟨[]++(bg x++bg y),[],[],⟨some (d,.sv (ref (e a))),[],[]⟩⟩::acc) (S.set d (.sv (ref (e a)))))(hd:d<S.n:=by exact tl Y):RunT P C ops nd K (⟨some d,.indexAddr T x y,ty,pos,aft,none⟩::rest) acc S:=
 RT.QT .none hx hy hd ha next
theorem bl[tS:eA P T E0 n][tE:jO P E0 n by_ zv]{len:Nat}{parts:Array (Nat×Operand)}{qs:List (Nat×List SV)}(hp:kV S parts.toList qs)(hc:pP 0 qs=true)(hl:qs.length=len)(hsz:(qs.all λq=>Nat.beq q.2.length n)=true)(hlen:Nat.ble (len*n) 16777216=true)(Kl:(zv.cells.toList.all λv=>v.oneCell')=true)(l7:qs.map (·.2)=l.map e)(next:RunT P C ops nd K rest (⟨[]++gU parts.toList,[],[],⟨some (d,.sv (slc n (l.map e))),[],[]⟩⟩::acc) (S.set d (.sv (slc n (l.map e)))))(hd:d<S.n:=by exact tl Y):RunT P C ops nd K (⟨some d,.buildSlice T len parts,ty,pos,aft,none⟩::rest) acc S:=
 RT.iY .none hp hd hc hl hsz hlen Kl l7 next
theorem iR[tS:eA P T E0 n]{i j:Nat}{E1:TypeId}{kk:IntKind}{v:Int}(hx:S.ev x=.row i)(hR:S.r i=.live (TR E1 n e l))(hy:S.ev y=.sv (.v (.int kk v)))(h:vm l v=some j)(next:RunT P C ops nd K rest (⟨[]++(bg x++bg y),[],[i],⟨some (d,.iW i (j*n)),[],[]⟩⟩::acc) (S.set d (.iW i (j*n))))(hd:d<S.n:=by exact tl Y):RunT P C ops nd K (⟨some d,.indexAddr T x y,ty,pos,aft,none⟩::rest) acc S:=
 RT.OX .none hx hR hy hd h next
theorem aI{s X:SV}(hx:S.ev x=.sv s)(hi:SV.imp s X)(next:RunT P C ops nd K rest (⟨[]++bg x,[],[],⟨some (d,.sv X),[],[]⟩⟩::acc) (S.set d (.sv X)))(hd:d<S.n:=by exact tl Y):RunT P C ops nd K (⟨some d,.assign x,ty,pos,aft,none⟩::rest) acc S:=
 RT.ZR .none hx hi hd next
theorem bI{pl:List (Nat×Nat)}{zc:List Value}[tP:je P T pl zc]{parts:Array (Nat×Operand)}{qs:List (Nat×List SV)}(hp:kV S parts.toList qs){cs cs':List SV}(hi:cH cs cs')(next:RunT P C ops nd K rest (⟨[]++gU parts.toList,[],[],⟨some (d,.sv (.agg cs')),[],[]⟩⟩::acc) (S.set d (.sv (.agg cs'))))(hf:sn (λi=>pl[i]?) (zc.map SV.v) qs=some cs:=by exact rfl)(hd:d<S.n:=by exact tl Y):RunT P C ops nd K (⟨some d,.build T parts,ty,pos,aft,none⟩::rest) acc S:=
 RT.S0 .none hp hf hi hd next
theorem lR[tV:qN P T][el:EL e 1]{i j:Nat}{E1:TypeId}{a:α}{s:SV}(hx:S.ev x=.iW i (j*1))(hR:S.r i=.live (TR E1 1 e l))(ha:l[j]? =some a)(hs:e a=[s])(next:RunT P C ops nd K rest (⟨[]++bg x,[],[i],⟨some (d,.sv s),[],[]⟩⟩::acc) (S.set d (.sv s)))(hd:d<S.n:=by exact tl Y):RunT P C ops nd K (⟨some d,.load T x,ty,pos,aft,none⟩::rest) acc S:=
 RT.LY .none hx hR ha hs hd next
theorem aR[tS:eA P T E0 n][tE:jO P E0 n by_ zv]{i:Nat}(hx:S.ev x=.row i)(hR:S.r i=.live (TR E0 n e l))(hy:S.ev y=.sv (slc n (k.map e)))(h:rM by_ l k=some l')(next:RunT P C ops nd K rest (⟨[]++(bg x++bg y),[],[i,d],⟨some (d,.row d),[],[(i,.dead),(d,.live (TR E0 n e l'))]⟩⟩::acc) ((AS.cf [(i,.dead),(d,.live (TR E0 n e l'))] S).set d (.row d)))(hd:d<S.n:=by exact tl Y)(wj:S.r d=.un:=by exact rfl)(uP:d<1000:=by exact tl Y):RunT P C ops nd K (⟨some d,.call ⟨.builtin .append,#[x,y],#[T,T]⟩,ty,pos,aft,none⟩::rest) acc S:=
 RT.apR .none hx hR hy hd wj uP h next
theorem sR[tV:qN P T][el:EL e 1]{i j:Nat}{E1:TypeId}{s:SV}[o1:One s](a:α)(hs:e a=[s])(hx:S.ev x=.iW i (j*1))(hR:S.r i=.live (TR E1 1 e l))(hy:S.ev y=.sv s)(h:stM l j a=some l')(next:RunT P C ops nd K rest (⟨[]++(bg x++bg y),[],[i],⟨none,[],[(i,.live (TR E1 1 e l'))]⟩⟩::acc) (AS.cf [(i,.live (TR E1 1 e l'))] S)):RunT P C ops nd K (⟨none,.store T x y,ty,pos,aft,none⟩::rest) acc S:=
 RT.ZT .none a hs hx hR hy h next
theorem sA[tA:xO P T n][el:EL e n]{i j:Nat}{E1:TypeId}(a:α)(hx:S.ev x=.iW i (j*n))(hR:S.r i=.live (TR E1 n e l))(hy:S.ev y=.sv (.agg (e a)))(h:stM l j a=some l')(next:RunT P C ops nd K rest (⟨[]++(bg x++bg y),[],[i],⟨none,[],[(i,.live (TR E1 n e l'))]⟩⟩::acc) (AS.cf [(i,.live (TR E1 n e l'))] S)):RunT P C ops nd K (⟨none,.store T x y,ty,pos,aft,none⟩::rest) acc S:=
 RT.Wm .none a hx hR hy h next
theorem lL{m:Nat}[tS:eA P T E0 m]{i:Nat}{E1:TypeId}{c:Int}(hx:S.ev x=.row i)(hR:S.r i=.live (TR E1 n e l))(hc:(l.length:Int)=c)(next:RunT P C ops nd K rest (⟨[]++bg x,[],[i],⟨some (d,.sv (.v (.int .i64 c))),[],[]⟩⟩::acc) (S.set d (.sv (.v (.int .i64 c)))))(hd:d<S.n:=by exact tl Y):RunT P C ops nd K (⟨some d,.call ⟨.builtin .len,#[x],#[T]⟩,ty,pos,aft,none⟩::rest) acc S:=
 RT.LX .none hx hR hd hc next
theorem cR{f:FuncId}[cW P f]{g:Operand}{xs:Array Operand}{at_:Array TypeId}{args:List AV}{E1:TypeId}{res:AV}(hp:HM P f args (TR E1 n e l) res (l'.flatMap e))(hlen:l'.length=l.length)(i:Nat)(hR:S.r i=.live (TR E1 n e l))(hargs:Du S xs.toList (args.map (AV.yS i)))(next:RunT P C ops nd K rest (⟨[]++(bg g++xs.toList.flatMap bg),[],[i],⟨some (d,res.yS i),[],[(i,.live (TR E1 n e l'))]⟩⟩::acc) ((AS.cf [(i,.live (TR E1 n e l'))] S).set d (res.yS i)))(hrow:args.all AV.xW=true:=by exact rfl)(hres:res.xW=true:=by exact rfl)(hf:S.ev g=.sv (.v (.func (.func f) #[] #[])):=by exact rfl)(hd:d<S.n:=by exact tl Y):RunT P C ops nd K (⟨some d,.call ⟨.value g,xs,at_⟩,ty,pos,aft,none⟩::rest) acc S:=
 RT.S7 .none hp hlen i hR hrow hres hf hargs hd next
theorem gn{j_ g_:Nat}{fD:Bool}{m:Nat}[tS:eA P T E0 m]{c:Int}(hx:S.ev x=.sv (slc n (l.map e)))(hc:(l.length:Int)=c)(next:RunT P C ops nd K rest (⟨[g_]++bg x,[],[],⟨some (d,.sv (.v (.int .i64 c))),[],[]⟩⟩::acc) (S.set d (.sv (.v (.int .i64 c)))))(Ch:(ops[j_]?).bind (·.dst)=some g_:=by exact rfl)(Ci:S.t g_=.sv (.v (.bool fD)):=by exact rfl)(hd:d<S.n:=by exact tl Y):RunT P C ops nd K (⟨some d,.call ⟨.builtin .len,#[x],#[T]⟩,ty,pos,aft,some (j_,fD)⟩::rest) acc S:=
 RT.Wk (.some Ch Ci) hx hd hc next
end
section
variable {P:Program}{C:Ctx}{ops:Array Oper}{S:AS}{nd:Bool}{K:List Ac→AS→Prop}{rest:List Oper}{acc:List Ac}
variable {gd:Option (Nat×Bool)}{rg:List Nat}{d:Nat}{ty:TypeId}{pos:String}{aft:Array Edge}{x y z:Operand}{T U E0 E1:TypeId}
theorem fl{f off:Nat}[hf:CK P T f off U][tV:qN P U]{cs:List SV}{s:SV}(hx:S.ev x=.sv (.agg cs))(hs:cs[off]? =some s)(next:RunT P C ops nd K rest (⟨[]++bg x,[],[],⟨some (d,.sv s),[],[]⟩⟩::acc) (S.set d (.sv s)))(hd:d<S.n:=by exact tl Y):RunT P C ops nd K (⟨some d,.field T x f,ty,pos,aft,none⟩::rest) acc S:=
 RT.field .none hx hs hd next
end
end
end Go.Fw.Z
namespace Go.Fw
section
open Go.RowKit
def Mem.fr(M:Mem)(N:Nat):Mem:=λb o=>if N≤b then M b o else none
theorem Mem.Jm(M:Mem)(N:Nat):(M.fr N).le M:=λb o v h=>by
 unfold Mem.fr at h
 split at h
 ·exact h
 ·cases h
theorem Mem.Jn{M M':Mem}(h:M.le M')(N:Nat):(M.fr N).le (M'.fr N):=λb o v e=>by
 unfold Mem.fr at*
 split at e
 ·rename_i hn;rw[if_pos hn];exact h b o v e
 ·cases e
theorem Mem.Wu(M:Mem)(N:Nat):(M.fr N).fr N=M.fr N:=by
 funext b o;unfold Mem.fr;split<;>rfl
def nw(N:Nat)(s:SV):SV:=⟨λM v=>s.h (M.fr N) v∧∀g,v.ownBlock=some g→∃o,M.fr N g o=some (.agg #[]),λhM h=>⟨s.mono (Mem.Jn hM N) h.1,λg e=>by obtain⟨o,q⟩:=h.2 g e;exact⟨o,Mem.Jn hM N _ _ _ q⟩⟩⟩
theorem dw{N:Nat}{s:SV}:SV.imp (nw N s) s:=λM _ h=>s.mono (Mem.Jm M N) h.1
instance{N:Nat}{s:SV}{n:Nat}[h:VO s n]:VO (nw N s) n:=⟨λM v hv=>h.h M v (dw M v hv)⟩
instance{N:Nat}{s:SV}{n:Nat}{rows:List (List SV)}[h:OF s n rows]:OF (nw N s) n rows:=⟨λM v hv=>h.h M v (dw M v hv)⟩
instance{N:Nat}{s:SV}{n sz:Nat}{f:Nat→Nat→SV}[h:Sub s n sz f]:Sub (nw N s) n sz (λa b=>nw N (f a b)):=⟨λM v hv=>by
 obtain⟨a,c,e,hc,hs⟩:=h.h (M.fr N) v hv.1
 refine⟨a,c,e,hc,λlo hi h1 h2=>⟨hs lo hi h1 h2,λg hg=>hv.2 g ?_⟩⟩
 subst e
 cases a with
 |none=>split at hg<;>cases hg
 |some a=>
  split at hg
  ·exact hg
  ·have e:(a.add (lo*sz)).block=a.block:=by unfold Addr.add;split<;>rfl
   rw[show(Value.slice (Option.map (λx=>x.add (lo*sz)) (some a)) (hi-lo) (c-lo)).ownBlock=some (a.add (lo*sz)).block from rfl,e]at hg
   exact hg⟩
instance{N:Nat}{s:SV}[h:One s]:One (nw N s):=⟨λM v hv=>h.h _ v hv.1⟩
class ZY (N:Nat) (s:SV):Prop where
 h:∀M v,s.h M v→s.h (M.fr N) v
instance{N:Nat}{x:Value}:ZY N (.v x):=⟨λ_ _ h=>h⟩
instance{N:Nat}{s:SV}:ZY N (nw N s):=⟨λM v h=>by show s.h ((M.fr N).fr N) v∧∀g,v.ownBlock=some g→∃o,(M.fr N).fr N g o=some (.agg #[]);rw[Mem.Wu];exact h⟩
class O4 (N:Nat) (l:List SV):Prop where
 h:∀s∈l,∀M v,s.h M v→s.h (M.fr N) v
instance{N:Nat}:O4 N []:=⟨λs h=>by cases h⟩
instance{N:Nat}{s:SV}{l:List SV}[a:ZY N s][b:O4 N l]:O4 N (s::l):=⟨λt ht=>by
 rcases List.mem_cons.1 ht with rfl|ht
 ·exact a.h
 ·exact b.h t ht⟩
class FC (N:Nat) {α:Type} (e:α→List SV):Prop where
 h:∀x,O4 N (e x)
instance{N:Nat}:FC N aX:=⟨λ_=>inferInstance⟩
abbrev fZ(N:Nat)(z:Zr):List SV:=[.v (.bool z.neg),nw N (slc 1 (z.w.map aX))]
abbrev fQ(N:Nat)(q:Qr):List SV:=[.v (.bool q.num.neg),nw N (slc 1 (q.num.w.map aX)),.v (.bool q.den.neg),nw N (slc 1 (q.den.w.map aX))]
instance{N:Nat}:EL (fQ N) 4:=⟨λ_=>rfl,λ_=>inferInstance⟩
instance{N:Nat}:FC N (fQ N):=⟨λ_=>inferInstance⟩
theorem bw{α:Type}{N n:Nat}{e:α→List SV}:SV.imp (.v (.slice none 0 0)) (nw N (slc n (([]:List α).map e))):=λ_ _ h=>⟨.inl ⟨none,h,rfl⟩,λg e=>by rw[show _=Value.slice none 0 0 from h]at e;cases e⟩
theorem Jo{α:Type}{n:Nat}{e e':α→List SV}(h:∀x,cH (e' x) (e x))(l:List α):SV.imp (slc n (l.map e')) (slc n (l.map e)):=by
 rintro M v (⟨a,h1,h2⟩|⟨b,o,c,h1,h2,h3,h4⟩)
 ·exact .inl ⟨a,h1,by have:=List.map_eq_nil_iff.1 h2;rw[this];rfl⟩
 ·refine .inr ⟨b,o,c,by simpa using h1,by simpa using h2,by simpa using h3,λi row hr=>?_⟩
  rw[List.getElem?_map]at hr
  cases hx:l[i]? with
  |none=>rw[hx]at hr;cases hr
  |some x=>
   rw[hx]at hr
   have hr:e x=row:=Option.some.inj hr
   subst hr
   obtain⟨g1,g2⟩:=h4 i (e' x) (by rw[List.getElem?_map,hx];rfl)
   refine⟨by rw[cH.len (h x)];exact g1,λk s hs=>?_⟩
   obtain⟨s2,zC,hi⟩:=cH.get (h x) hs
   obtain⟨y,hy,ho,hh⟩:=g2 k s2 zC
   exact⟨y,hy,ho,hi M y hh⟩
theorem zI(N:Nat)(z:Zr):cH (fZ N z) (eZ z):=⟨aq,dw,ak⟩
theorem qI(N:Nat)(q:Qr):cH (fQ N q) (eQ q):=⟨aq,dw,aq,dw,ak⟩
theorem nwQ{N:Nat}{l:List Qr}:SV.imp (nw N (slc 4 (l.map (fQ N)))) (slc 4 (l.map eQ)):=λM v h=>Jo (qI N) l M v (dw M v h)
theorem DG{N n:Nat}{α:Type}{e:α→List SV}[he:FC N e]{l:List α}{M:Mem}{v:Value}(h:(slc n (l.map e)).h M v)(hb:∀g,v.ownBlock=some g→N≤g∧∃o,M g o=some (.agg #[])):(nw N (slc n (l.map e))).h M v:=by
 refine⟨?_,λg hg=>by obtain⟨h1,o,h2⟩:=hb g hg;exact⟨o,by unfold Mem.fr;rw[if_pos h1];exact h2⟩⟩
 rcases h with⟨a,h1,h2⟩|⟨b,o,c,h1,h2,h3,h4⟩
 ·exact .inl ⟨a,h1,h2⟩
 ·have hN:N≤b:=(hb b (by rw[h1];rfl)).1
  refine .inr ⟨b,o,c,h1,h2,h3,λi row hr=>⟨(h4 i row hr).1,λk s hs=>?_⟩⟩
  obtain⟨y,hy,ho,hh⟩:=(h4 i row hr).2 k s hs
  refine⟨y,by unfold Mem.fr;rw[if_pos hN];exact hy,ho,?_⟩
  rw[List.getElem?_map]at hr
  cases hx:l[i]? with
  |none=>rw[hx]at hr;cases hr
  |some x=>
   rw[hx]at hr
   have hr:e x=row:=Option.some.inj hr
   subst hr
   exact(he.h x).h s (List.mem_of_getElem? hs) M y hh
section
variable {P:Program}{C:Ctx}{S:AS}{Q:Exit→AS→Prop}
theorem bk.O5{E:Env}{a:Act}{w:World}(h:bk C S E a w)(vs:List Value)(T:TypeId)(hone:∀v∈vs,v.oneCell'=true):bk C S {E with M:=λb o=>if b=w.heap.size then(vs++[.agg #[]])[o]? else E.M b o} a (w.alloc (.cells ⟨vs⟩ T)):=by
 have hno:∀o,E.M w.heap.size o=none:=λo=>by
  cases e:E.M w.heap.size o with
  |none=>rfl
  |some v=>have:=kQ h.c8 e;omega
 refine h.grow (λb o v e=>?_) (λb o v e=>?_) (λb o v e=>?_) (((Below.refl _ _).alloc (Nat.le_refl _) _))
 ·have:b≠w.heap.size:=by rintro rfl;rw[hno o]at e;cases e
  simp[this,e]
 ·by_cases hb:b=w.heap.size
  ·exact .inr (by omega)
  ·simp only[if_neg hb]at e;exact .inl e
 ·by_cases hb:b=w.heap.size
  ·subst hb
   simp only[if_true]at e
   by_cases ho:o<vs.length
   ·rw[List.getElem?_append_left ho]at e
    refine .of ?_ (hone v (List.mem_of_getElem? e))
    rw[World.cell?_alloc_new];simpa using e
   ·rw[List.getElem?_append_right (by omega)]at e
    cases YJ:o-vs.length with
    |succ k=>rw[YJ]at e;simp at e
    |zero=>
     rw[YJ]at e
     simp at e
     subst e
     exact⟨⟨vs⟩,T,by show(w.heap.push _)[w.heap.size]? =_;rw[Array.getElem?_push,if_pos rfl]⟩
  ·simp only[if_neg hb]at e
   refine(h.c8 b o v e).same ?_
   show(w.heap.push _)[b]? =_
   rw[Array.getElem?_push,if_neg hb]
theorem pC{c:Code}{i n N:Nat}{E1:TypeId}{α:Type}{e:α→List SV}{l:List α}[el:EL e n][he:FC N e](hN:N≤C.w0.heap.size)(hb:∀k,¬C.uO k)(hR:S.r i=.live (TR E1 n e l))(hk:Ok P C c (S.nN i (nw N (slc n (l.map e)))) Q):Ok P C c S Q:=λa w hs=>by
 obtain⟨E,h⟩:=hs
 have hlen:l.length≤9223372036854775807:=by
  obtain⟨⟨vs,ho,hv⟩,_⟩:=h.rx i _ hR
  rcases ho.2 with⟨_,q2⟩|⟨g',cap,cur,q1,_,q2,q3,q4,q5,q6⟩
  ·have q2:l.length=0:=q2
   omega
  ·have q3:l.length≤cap:=q3
   have:maxLen=9223372036854775807:=by decide
   omega
 exact hk a w (h.nN hR (su l) (by rw[List.length_map]) hlen (og l) (λM v hv hg=>DG hv (λg e=>⟨(hg g e).1.elim (λq=>Nat.le_trans hN q) (λq=>absurd q (hb g)),(hg g e).2⟩)))
def dU(P:Program)(f:FuncId)(N:Nat)(args:List SV)(r:SV):Prop:=
 ∀(M:Mem) (w:World) (vs:List Value),N≤w.heap.size→M.c8 w→SV.dX M args vs→
  Calls P f ⟨vs⟩ w λe w'=>∃v M',e=.returned v∧M.le M'∧(∀b o x,M' b o=some x→M b o=some x∨w.heap.size≤b)∧M'.c8 w'∧r.h M' v∧Below w.heap.size w w'
theorem dU.w{f:FuncId}{N:Nat}{args args':List SV}{r:SV}(h:dU P f N args r)(hi:cH args' args):dU P f N args' r:=λM w vs hN hM hv=>h M w vs hN hM (hi.holds hv)
theorem bP{f:FuncId}{fn:Func}{code:Code}{N:Nat}{args:List SV}{r:SV}(hf:P.funcs[f]? =some fn)(hb:fn.body=some code)(hn:args.length≤fn.ntmps)
  (h:∀(w:World) (M:Mem) (vs:List Value),N≤w.heap.size→SV.dX M args vs→Ok P (B9 w M) code (AS.init fn.ntmps args) (λe S=>(e=.normal∨e=.ret)∧Ol P S fn.results.toList r)):dU P f N args r:=by
 intro M w vs hN hM hvs
 refine(callsIn_wide (n:=0)).1 (callsIn_of_wp_marks (F:=Fence.wide) hf hb trivial ?_)
 refine wpIn_mono (h w M vs hN hvs _ w ⟨_,iD hM hvs hn⟩) ?_
 rintro e a' w' ⟨S',⟨he,ss,Om,himp⟩,E,hh⟩
 have key:LeavesInM Fence.wide 0 P fn a'.tmps (λe w'=>∃v M',e=.returned v∧M.le M'∧(∀b o x,M' b o=some x→M b o=some x∨w.heap.size≤b)∧M'.c8 w'∧r.h M' v∧Below w.heap.size w w') a'.defers .returning w':=by
  obtain⟨ds,h1,h2,h3⟩:=hh.marks
  rw[h1]
  refine kU ds w' h2 (λr hr=>(h3 r hr).2.2) (λw2 g1 g2 g3 g4 g5=>?_)
  have vg:=hh.we h3 g1 g2 g3 g4 g5
  obtain⟨v,hv,hs⟩:=z4 vg Om
  refine⟨v,hv,v,E.M,Y,vg.m0,λb o x e=>?_,vg.c8,himp _ _ hs,vg.os,vg.tape,vg.output,vg.grown,λk hk=>vg.frame k hk (λh=>h)⟩
  rcases vg.eu b o x e with h|h|h
  ·exact .inl h
  ·exact .inr h
  ·exact h.elim
 rcases he with rfl|rfl
 ·exact key
 ·exact key
theorem O6{f:FuncId}{N:Nat}{args:List SV}{E1:TypeId}{n:Nat}{α:Type}{e:α→List SV}{l:List α}[el:EL e n][he:FC N e](hp:Kn P f args (TR E1 n e l)):dU P f N args (nw N (slc n (l.map e))):=by
 intro M w vs hN hM hvs
 refine(hp M w vs hM hvs).mono ?_
 rintro ex w' ⟨v,M',us,rfl,hle,hnew,hin,hown,B7,HK,Wv⟩
 have l7:Rows n (l.map e) (l.flatMap e):=su l
 have tZ:=wm l7
 rcases hown.2 with⟨h1,h2⟩|⟨g,cap,cur,h1,_,h2,h3,_,h5,h6⟩
 ·exact⟨v,M',rfl,hle,hnew,hin,⟨.inl ⟨none,h1,by have h2:l.length=0:=h2;rw[List.length_eq_zero_iff.1 h2];rfl⟩,λg e=>by rw[h1]at e;cases e⟩,Wv⟩
 ·have hg:v.ownBlock=some g:=by rw[h1];rfl
  obtain⟨hge,hno⟩:=HK g hg
  have h3:l.length≤cap:=h3
  have agV:maxLen=9223372036854775807:=by decide
  refine⟨v,λb o=>if b=g∧o<l.length*n then us[o]? else if b=g∧o=l.length*n then some (.agg #[])else M' b o,Y,λb o x q=>?_,λb o x q=>?_,λb o x q=>?_,?_,Wv⟩
  ·have:=hle b o x q
   have:b≠g:=by rintro rfl;rw[hno o]at this;cases this
   simp[this];assumption
  ·simp only at q
   split at q
   ·rename_i hc;exact .inr (by rw[hc.1];exact hge)
   ·split at q
    ·rename_i hc;exact .inr (by rw[hc.1];exact hge)
    ·exact hnew b o x q
  ·simp only at q
   split at q
   ·rename_i hc
    obtain⟨rfl,Ff⟩:=hc
    refine .of ?_ (og l _ _ B7 x (List.mem_of_getElem? q))
    simp only[World.cell?,h2]
    have h6:cur.toList.take (l.length*n)=us:=h6
    rw[←h6,List.getElem?_take,if_pos Ff]at q
    simpa using q
   ·split at q
    ·rename_i hc
     cases q
     rw[hc.1];exact⟨_,_,h2⟩
    ·exact hin b o x q
  ·refine DG ?_ (λg' e'=>by rw[hg]at e';cases e';exact⟨Nat.le_trans hN hge,l.length*n,by simp⟩)
   refine .inr ⟨g,0,cap,by rw[h1,List.length_map],by rw[List.length_map];exact h3,by rw[List.length_map];omega,λk row hk=>?_⟩
   obtain⟨q1,q2⟩:=sj l7 k row hk
   refine⟨q1,λj s hs=>?_⟩
   have zC:=q2 j s hs
   obtain⟨y,hy,hys⟩:=B7.get zC
   have hlt:k*n+j<l.length*n:=by
    have:=(List.getElem?_eq_some_iff.1 zC).1
    rw[tZ,List.length_map]at this;exact this
   refine⟨y,by simp[hlt,hy],og l _ _ B7 y (List.mem_of_getElem? hy),s.mono (λb o x q=>?_) hys⟩
   have:b≠g:=by rintro rfl;rw[hno o]at q;cases q
   simp[this,q]
end
section
variable {P:Program}{C:Ctx}{ops:Array Oper}{S:AS}{nd:Bool}{K:List Ac→AS→Prop}{rest:List Oper}{acc:List Ac}
variable {gd:Option (Nat×Bool)}{rg:List Nat}{d:Nat}{ty:TypeId}{pos:String}{aft:Array Edge}{x y z:Operand}{T U E0:TypeId}
variable {α:Type}{l l' k:List α}{e:α→List SV}{n by_ N:Nat}{zv:Value}
theorem RT.bQ(hg:Gd ops S gd rg){f:FuncId}[cW P f]{g:Operand}{xs:Array Operand}{at_:Array TypeId}{args:List SV}{r:SV}(hp:dU P f N args r)(hN:N≤C.w0.heap.size)(hf:S.ev g=.sv (.v (.func (.func f) #[] #[])))(hargs:iu S xs.toList args)(hd:d<S.n)
  (next:RunT P C ops nd K rest (⟨rg++(bg g++xs.toList.flatMap bg),[],[],⟨some (d,.sv r),[],[]⟩⟩::acc) (S.set d (.sv r))):RunT P C ops nd K (⟨some d,.call ⟨.value g,xs,at_⟩,ty,pos,aft,gd⟩::rest) acc S:=by
 refine .inl ⟨_,[],[],_,?_,next⟩
 rintro S' hn ht _ _ i a w L Q ho ⟨E,h⟩ hL
 refine cI (C:=C) ho (hg.wanted h (λs hs=>ht s (List.mem_append_left _ hs)) Y) ?_
 have B8:a.eval g=.func (.func f) #[] #[]:=by
  have h1:=h.ev g;rw[bB (λ_ h=>List.mem_append_right _ (List.mem_append_left _ h)) ht,hf]at h1;exact h1
 have hall:=iu.vals h hargs (λs hs=>ht s (List.mem_append_right _ (List.mem_append_right _ hs)))
 have hr:(execOp a.eval ⟨some d,.call ⟨.value g,xs,at_⟩,ty,pos,aft,gd⟩).run P w=.ok (.enter f ⟨xs.toList.map a.eval⟩) w:=by
  have e2:xs.map a.eval=⟨xs.toList.map a.eval⟩:=by apply Array.ext';simp
  have e1:=cW.run (P:=P) (f:=f) (xs.map a.eval) w
  rw[←e2]
  simp[execOp,resolve,B8,Deferred.ofValue,invoke,e1]
 refine cJ (C:=C) (by intro c h;cases h) hr ?_
 refine⟨λh=>by simp at h,jR ((hp E.M w _ (Nat.le_trans hN h.grown) h.c8 hall).mono ?_)⟩
 rintro e w' ⟨v,M',rfl,hM,hnew,hin,hv,hb⟩
 exact hL _ _ ⟨_,(h.grow hM hnew hin hb).put (x:=.sv r) hv (by show d<S'.n;omega) gp⟩
theorem RT.FD(hg:Gd ops S gd rg){m:Nat}[tS:eA P T E0 m]{c:Int}(hx:S.ev x=.sv (nw N (slc n (l.map e))))(hd:d<S.n)(hc:(l.length:Int)=c)
  (next:RunT P C ops nd K rest (⟨rg++bg x,[],[],⟨some (d,.sv (.v (.int .i64 c))),[],[]⟩⟩::acc) (S.set d (.sv (.v (.int .i64 c))))):RunT P C ops nd K (⟨some d,.call ⟨.builtin .len,#[x],#[T]⟩,ty,pos,aft,gd⟩::rest) acc S:=
 RT.len hg hx hd (by rw[List.length_map,hc];exact next)
theorem RT.ZZ(hg:Gd ops S gd rg)[tS:eA P T E0 n]{kk:IntKind}{i:Int}{a:α}(hx:S.ev x=.sv (nw N (slc n (l.map e))))(hy:S.ev y=.sv (.v (.int kk i)))(hd:d<S.n)(ha:cQ l i=some a)
  (next:RunT P C ops nd K rest (⟨rg++(bg x++bg y),[],[],⟨some (d,.sv (ref (e a))),[],[]⟩⟩::acc) (S.set d (.sv (ref (e a))))):RunT P C ops nd K (⟨some d,.indexAddr T x y,ty,pos,aft,gd⟩::rest) acc S:=
 RT.indexAddr hg (e a) hx hy hd (qp ha).1 (by rw[List.getElem?_map,(qp ha).2];rfl) next
theorem RT.O7(hg:Gd ops S gd rg)[tS:eA P T E0 n]{lo hi:Option Operand}(a b:Int)(hx:S.ev x=.sv (nw N (slc n (l.map e))))(hlo:Aw S 0 lo a)(hhi:Aw S l.length hi b)(hd:d<S.n)(h:uG l a b=some l')
  (next:RunT P C ops nd K rest (⟨rg++(bg x++(nO lo++nO hi)),[],[],⟨some (d,.sv (nw N (slc n (l'.map e)))),[],[]⟩⟩::acc) (S.set d (.sv (nw N (slc n (l'.map e)))))):RunT P C ops nd K (⟨some d,.slice T x lo hi none,ty,pos,aft,gd⟩::rest) acc S:=by
 obtain⟨h0,h1,h2,h3⟩:=CN h
 exact RT.slice hg hx a b hlo (by rw[List.length_map];exact hhi) hd h0 h1 (by rw[List.length_map];exact h2) _ (by rw[Jb,h3]) next
theorem RT.Ww(hg:Gd ops S gd rg)[tS:eA P T E0 n][tE:jO P E0 n by_ zv][el:EL e n][he:FC N e]{i:Nat}(hN:N≤C.w0.heap.size)(hb:∀k,¬C.uO k)(hx:S.ev x=.row i)(hR:S.r i=.live (TR E0 n e l))(hy:S.ev y=.sv (slc n (k.map e)))(hd:d<S.n)(wj:S.r d=.un)(uP:d<1000)(h:rM by_ l k=some l')
  (next:RunT P C ops nd K rest (⟨rg++(bg x++bg y),[],[d,i],⟨some (d,.sv (nw N (slc n (l'.map e)))),[],[(i,.dead),(d,.dead)]⟩⟩::acc) ((AS.cf [(i,.dead),(d,.dead)] S).set d (.sv (nw N (slc n (l'.map e)))))):RunT P C ops nd K (⟨some d,.call ⟨.builtin .append,#[x,y],#[T,T]⟩,ty,pos,aft,gd⟩::rest) acc S:=by
 obtain⟨h1,h2,rfl⟩:=wE h
 have hf:l.flatMap e++(k.map e).flatten=(l++k).flatMap e:=by simp[sq]
 exact RT.Jf hg (.row hx hR) hy hd wj uP (by simpa using h1) (by simpa using h2) _ (rows':=(l++k).map e) (λ_ _ hv hg=>DG hv (λg e=>⟨(hg g e).1.elim (λq=>Nat.le_trans hN q) (λq=>absurd q (hb g)),(hg g e).2⟩)) (by rw[hf];exact su _) (by simp) (by rw[hf];exact og _) next
theorem RT.wG(hg:Gd ops S gd rg)[tS:eA P T E0 n][tE:jO P E0 n by_ zv][he:FC N e](hN:N≤C.w0.heap.size){len:Nat}{parts:Array (Nat×Operand)}{qs:List (Nat×List SV)}(hp:kV S parts.toList qs)(hd:d<S.n)
  (hc:pP 0 qs=true) (hl:qs.length=len) (hsz:(qs.all λq=>Nat.beq q.2.length n)=true) (hlen:Nat.ble (len*n) 16777216=true) (Kl:(zv.cells.toList.all λv=>v.oneCell')=true) (l7:qs.map (·.2)=l.map e)
  (next:RunT P C ops nd K rest (⟨rg++gU parts.toList,[],[],⟨some (d,.sv (nw N (slc n (l.map e)))),[],[]⟩⟩::acc) (S.set d (.sv (nw N (slc n (l.map e)))))):RunT P C ops nd K (⟨some d,.buildSlice T len parts,ty,pos,aft,gd⟩::rest) acc S:=by
 refine .inl ⟨_,[],[],_,?_,next⟩
 rintro S' hn ht _ _ i a w L Q ho ⟨E,h⟩ hL
 refine cI (C:=C) ho (hg.wanted h (λs hs=>ht s (List.mem_append_left _ hs)) Y) ?_
 obtain⟨vs,hr,hall,hone⟩:=oy (P:=P) (T:=T) (E0:=E0) (n:=n) (by_:=by_) (zv:=zv) (d:=d) (ty:=ty) (pos:=pos) (aft:=aft) (gd:=gd) h hp (λs hs=>ht s (List.mem_append_right _ hs)) hc hl hsz (ae hlen) (List.all_eq_true.1 Kl)
 refine cJ (C:=C) (by intro c h;cases h) hr (hL _ _ ⟨_,(h.O5 vs E0 hone).put (d:=d) (x:=.sv (nw N (slc n (l.map e)))) (v:=.slice (some ⟨w.heap.size,0,none⟩) len len) ?_ (by show d<S'.n;omega) gp⟩)
 have hrw:Rows n (qs.map (·.2)) (qs.map (·.2)).flatten:=⟨Y,λr hr=>by
  obtain⟨q,hq,rfl⟩:=List.mem_map.1 hr
  exact Nat.eq_of_beq_eq_true (List.all_eq_true.1 hsz q hq)⟩
 have LF:=tE.p
 have hlb:len≤16777216:=Nat.le_trans (Nat.le_mul_of_pos_right _ LF) (ae hlen)
 refine DG ?_ (λg e=>by cases e;exact⟨Nat.le_trans hN h.grown,vs.length,by simp⟩)
 rw[←l7]
 refine .inr ⟨w.heap.size,0,len,by rw[List.length_map,hl],by rw[List.length_map,hl];exact Nat.le_refl _,by rw[List.length_map,hl];omega,λk row hk=>?_⟩
 obtain⟨q1,q2⟩:=sj hrw k row hk
 refine⟨q1,λj s hs=>?_⟩
 obtain⟨y,hy,hys⟩:=hall.get (q2 j s hs)
 refine⟨y,by show(if w.heap.size=w.heap.size then(vs++[Value.agg #[]])[0+k*n+j]? else _)=_;rw[if_pos Y,Nat.zero_add,List.getElem?_append_left (List.getElem?_eq_some_iff.1 hy).1];exact hy,hone y (List.mem_of_getElem? hy),s.mono (λb o v e=>?_) hys⟩
 have:b≠w.heap.size:=by rintro rfl;have:=kQ h.c8 e;omega
 simp[this,e]
end
end
section
open Go.RowKit
abbrev fS(N n:Nat){α:Type}(e:α→List SV)(x:List α):List SV:=[nw N (slc n (x.map e))]
instance{N n:Nat}{α:Type}{e:α→List SV}:EL (fS N n e) 1:=⟨λ_=>rfl,λ_=>inferInstance⟩
instance{N n:Nat}{α:Type}{e:α→List SV}:FC N (fS N n e):=⟨λ_=>inferInstance⟩
theorem fW{P:Program}{f:FuncId}{args:List SV}{r:Nat→SV}{s:SV}(hp:∀N,dU P f N args (r N))(hi:∀N,SV.imp (r N) s):Pure P f args s:=λM w vs hM hv=>(hp w.heap.size M w vs (Nat.le_refl _) hM hv).mono (λ_ _ ⟨v,M',h1,h2,h3,h4,h5,h6⟩=>⟨v,M',h1,h2,h3,h4,hi _ _ _ h5,h6⟩)
theorem Z0{N:Nat}{l:List (List Qr)}:SV.imp (nw N (slc 1 (l.map (fS N 4 (fQ N))))) (slc 1 (l.map (eS 4 eQ))):=λM v h=>Jo (e':=fS N 4 (fQ N)) (e:=eS 4 eQ) (λ_=>⟨nwQ,ak⟩) l M v (dw M v h)
section steps
variable {P:Program}{C:Ctx}{ops:Array Oper}{S:AS}{nd:Bool}{K:List Ac→AS→Prop}{rest:List Oper}{acc:List Ac}{N:Nat}
variable {gd:Option (Nat×Bool)}{rg:List Nat}{d:Nat}{ty:TypeId}{pos:String}{aft:Array Edge}{x y z:Operand}{T U E0:TypeId}
end steps
end
end Go.Fw
namespace Go.Proofs.YtfoldppidpmchaaGreat
section
open Go.Fw
noncomputable def ec(x0:List Nat):Option (List Nat):=rM 4 [] x0
noncomputable def bV(x0:Nat)(c0:Nat):Option (Nat×Nat):=(some ((x0+c0)%18446744073709551616)).bind λx6=>(some (x6/2^32)).bind λx8=>(some (x6%4294967296)).bind λdP=>some (dP,x8)
noncomputable def bt(x0:List Nat):Option (List Nat):=(b9 (λ(zG:(List Nat))=>(show Option (((List Nat))⊕((List Nat)))from cm (λ(AN:Bool)=>(bif AN then(some (zG.length:Int)).bind λdS=>(some (IntKind.i64.wrap (dS-1))).bind λeI=>(uG zG 0 eI).bind λkN=>some (.inl kN)else some (.inr zG))) λDH=>(some (zG.length:Int)).bind λx4=>(some (decide ((0:Int)<x4))).bind λx5=>(bif x5 then(some (zG.length:Int)).bind λx9=>(some (IntKind.i64.wrap (x9-1))).bind λdP=>(cQ zG dP).bind λfN=>(some (decide ((fN:Nat)=0))).bind λja=>some ja else some false).bind λHS=>DH HS)) x0).bind λAO=>some AO
noncomputable def ct(x0:Bool)(x1:List Nat):Option (Zr):=(bt x1).bind λx6=>(some (x6.length:Int)).bind λx8=>(some (decide ((x8:Int)=0))).bind λx9=>(bif x9 then some ⟨false,[]⟩else some ⟨x0,x6⟩)
noncomputable def eJ(x0:Bool)(x1:Nat):Option (Zr):=(some (decide ((x1:Nat)=0))).bind λx7=>(bif x7 then some ⟨false,[]⟩else(some (x1/2^32)).bind λfN=>(some (decide ((fN:Nat)=0))).bind λcP=>(bif cP then(some (x1%4294967296)).bind λdL=>some ⟨x0,[dL]⟩else(some (x1%4294967296)).bind λke=>(some (x1/2^32)).bind λgw=>(some (gw%4294967296)).bind λiQ=>some ⟨x0,[ke,iQ]⟩))
noncomputable def dB(x0:List Nat):Option (Nat):=(some (x0.length:Int)).bind λx4=>(some (decide ((x4:Int)=0))).bind λx6=>(bif x6 then some 0 else(some (decide ((x4:Int)=1))).bind λx8=>(bif x8 then(cQ x0 0).bind λdP=>(some (dP%18446744073709551616)).bind λcP=>some cP else(cQ x0 0).bind λdW=>(some (dW%18446744073709551616)).bind λfy=>(cQ x0 1).bind λeI=>(some (eI%18446744073709551616)).bind λke=>(some (ke*2^32%18446744073709551616)).bind λgO=>(some ((fy ||| gO)%18446744073709551616)).bind λgw=>some gw))
noncomputable def cO(x0:List Nat)(x1:List Nat):Option (Int):=(some (x0.length:Int)).bind λx7=>(some (x1.length:Int)).bind λx9=>(some (decide ((x7:Int)≠x9))).bind λdP=>(bif dP then(some (x0.length:Int)).bind λcP=>(some (x1.length:Int)).bind λdW=>(some (decide ((cP:Int)<dW))).bind λdL=>(bif dL then some (-1)else some 1)else(some (x0.length:Int)).bind λdS=>(some (IntKind.i64.wrap (dS-1))).bind λeI=>(b9 (λ(nG:Int)=>(show Option ((Int)⊕((Unit)⊕(Int)))from(some (decide ((0:Int)≤nG))).bind λke=>(bif ke then(cQ x0 nG).bind λkf=>(cQ x1 nG).bind λir=>(some (decide ((kf:Nat)≠ir))).bind λoh=>(bif oh then(cQ x0 nG).bind λnQ=>(cQ x1 nG).bind λwH=>(some (decide ((nQ:Nat)<wH))).bind λnY=>(bif nY then some (.inr (.inr (-1)))else some (.inr (.inr 1)))else(some (IntKind.i64.wrap (nG-1))).bind λgw=>some (.inl gw))else some (.inr (.inl ()))))) eI).bind λe6=>match e6 with|.inr v6=>some v6|.inl _=>some 0)
noncomputable def eC(x0:List Nat)(x1:List Nat):Option (List Nat):=(some (x0.length:Int)).bind λdP=>(some (x1.length:Int)).bind λcP=>(some (max (dP:Int) cP)).bind λja=>(some (IntKind.i64.wrap (ja+1))).bind λdW=>(OU (α:=Nat) 4 dW).bind λdL=>(pQ (λ(k:Nat) (s7:Nat×(List Nat))=>match s7 with|⟨wI,jh⟩=>(show Option (Nat×(List Nat))from(some (x0.getD k 0%18446744073709551616)).bind λZ1=>(some (x1.getD k 0%18446744073709551616)).bind λZ2=>(some ((Z1+Z2)%18446744073709551616)).bind λiS=>(bV iS wI).bind λ⟨iL,k9⟩=>(rM 4 jh [iL]).bind λir=>some (k9,ir))) (max x0.length x1.length) (0,dL)).bind λe7=>match e7 with|⟨wI,jh⟩=>(bV 0 wI).bind λ⟨ji,k11⟩=>(rM 4 jh [ji]).bind λnQ=>some nQ
noncomputable def cX(x0:List Nat)(x1:List Nat):Option (List Nat):=(some (x0.length:Int)).bind λdP=>(OU (α:=Nat) 4 dP).bind λfN=>(pQ (λ(k:Nat) (s7:Nat×(List Nat))=>match s7 with|⟨Ab,jh⟩=>(show Option (Nat×(List Nat))from(some (x0.getD k 0%18446744073709551616)).bind λZ3=>(some (x1.getD k 0%18446744073709551616)).bind λZ4=>(some (oC 18446744073709551616 4294967295 Z4)).bind λgw=>(some ((Z3+gw)%18446744073709551616)).bind λiQ=>(bV iQ Ab).bind λ⟨gV,k9⟩=>(rM 4 jh [gV]).bind λiS=>some (k9,iS))) (max x0.length x1.length) (1,fN)).bind λe7=>match e7 with|⟨Ab,jh⟩=>some jh
noncomputable def fO(x0:List Nat)(x1:List Nat):Option (List Nat):=(some (x0.length:Int)).bind λcP=>(some (x1.length:Int)).bind λdW=>(some (IntKind.i64.wrap (cP+dW))).bind λdL=>(EX 4 dL (0:Nat)).bind λfy=>(some (x0.length:Int)).bind λeI=>(b9 (λ(Vx:Int×(List Nat))=>match Vx with|⟨oD,DI⟩=>(show Option ((Int×(List Nat))⊕((List Nat)))from(some (decide ((oD:Int)<eI))).bind λke=>(bif ke then(cQ x0 oD).bind λgw=>(some (x1.length:Int)).bind λiS=>(b9 (λ(Td:Int×Nat×(List Nat))=>match Td with|⟨yd,wJ,vw⟩=>(show Option ((Int×Nat×(List Nat))⊕(Nat×(List Nat)))from(some (decide ((yd:Int)<iS))).bind λnR=>(bif nR then(cQ x1 yd).bind λye=>(some (IntKind.i64.wrap (oD+yd))).bind λr6=>(some (IntKind.i64.wrap (oD+yd))).bind λnY=>(vm vw nY).bind λxP=>(vw[xP]?).bind λr7=>(some (r7%18446744073709551616)).bind λHA=>(some (gw%18446744073709551616)).bind λzH=>(some (ye%18446744073709551616)).bind λsE=>(some ((zH*sE)%18446744073709551616)).bind λyf=>(some ((HA+yf)%18446744073709551616)).bind λWx=>(bV Wx wJ).bind λ⟨uW,Z5⟩=>(vm vw r6).bind λQV=>(stM vw QV uW).bind λZ6=>(some (IntKind.i64.wrap (yd+1))).bind λyV=>some (.inl (yV,Z5,Z6))else some (.inr (wJ,vw))))) (0,0,DI)).bind λZ7=>match Z7 with|⟨FE,HT⟩=>(some (x1.length:Int)).bind λQW=>(some (IntKind.i64.wrap (oD+QW))).bind λO8=>(bV 0 FE).bind λ⟨L9,k45⟩=>(vm HT O8).bind λKt=>(stM HT Kt L9).bind λZ8=>(some (IntKind.i64.wrap (oD+1))).bind λLh=>some (.inl (Lh,Z8))else some (.inr DI)))) (0,fy)).bind λvz=>some vz
noncomputable def ig(x0:List Nat)(x1:Nat):Option (Nat×List Nat):=(some (x0.length:Int)).bind λx9=>(some (IntKind.i64.wrap (x9-1))).bind λdP=>(b9 (λ(s8:Nat×Int×(List Nat))=>match s8 with|⟨Ma,FF,qT⟩=>(show Option ((Nat×Int×(List Nat))⊕(Nat×(List Nat)))from(some (decide ((0:Int)≤FF))).bind λcP=>(bif cP then(some (Ma*2^32%18446744073709551616)).bind λfy=>(vm qT FF).bind λkN=>(qT[kN]?).bind λke=>(some (ke%18446744073709551616)).bind λgO=>(some ((fy ||| gO)%18446744073709551616)).bind λgw=>(Dy 18446744073709551616 gw x1).bind λiL=>(some (iL%4294967296)).bind λnR=>(vm qT FF).bind λir=>(stM qT ir nR).bind λyg=>(Cf gw x1).bind λji=>(some (IntKind.i64.wrap (FF-1))).bind λdW=>some (.inl (ji,dW,yg))else some (.inr (Ma,qT))))) (0,dP,x0)).bind λe8=>match e8 with|⟨Wy,Ad⟩=>(uT x0 Ad).bind λ_=>some (Wy,Ad)
noncomputable def fe(x0:List Nat)(x1:Nat):Option (List Nat):=(some (x0.length:Int)).bind λfN=>(some (IntKind.i64.wrap (fN+1))).bind λcP=>(OU (α:=Nat) 4 cP).bind λja=>(some (x0.length:Int)).bind λdL=>(b9 (λ(s8:Int×Nat×(List Nat))=>match s8 with|⟨wK,qV,jh⟩=>(show Option ((Int×Nat×(List Nat))⊕(Nat×(List Nat)))from(some (decide ((wK:Int)<dL))).bind λdS=>(bif dS then(cQ x0 wK).bind λeI=>(some (eI%18446744073709551616)).bind λiQ=>(some (iQ*2^(min x1 64)%18446744073709551616)).bind λkf=>(bV kf qV).bind λ⟨iS,Te⟩=>(rM 4 jh [iS]).bind λnR=>(some (IntKind.i64.wrap (wK+1))).bind λir=>some (.inl (ir,Te,nR))else some (.inr (qV,jh))))) (0,0,ja)).bind λe8=>match e8 with|⟨AP,Mb⟩=>(bV 0 AP).bind λ⟨ji,Z9⟩=>(rM 4 Mb [ji]).bind λnQ=>some nQ
noncomputable def iE(x0:List Nat)(x1:Nat):Option (List Nat):=(some (x0.length:Int)).bind λfN=>(some (IntKind.i64.wrap (fN+1))).bind λcP=>(OU (α:=Nat) 4 cP).bind λja=>(some (x0.length:Int)).bind λdL=>(b9 (λ(s8:Int×Nat×(List Nat))=>match s8 with|⟨wK,qV,pR⟩=>(show Option ((Int×Nat×(List Nat))⊕(Nat×(List Nat)))from(some (decide ((wK:Int)<dL))).bind λdS=>(bif dS then(cQ x0 wK).bind λeI=>(some (eI%18446744073709551616)).bind λiQ=>(some (iQ*2^(min x1 64)%18446744073709551616)).bind λkf=>(bV kf qV).bind λ⟨iS,Te⟩=>(rM 4 pR [iS]).bind λnR=>(some (IntKind.i64.wrap (wK+1))).bind λir=>some (.inl (ir,Te,nR))else some (.inr (qV,pR))))) (0,0,ja)).bind λe8=>match e8 with|⟨AP,pS⟩=>(bV 0 AP).bind λ⟨ji,Z9⟩=>(rM 4 pS [ji]).bind λnQ=>some nQ
noncomputable def gE(x0:Nat):Option (Int):=(some (decide ((65536:Nat)≤x0))).bind λx4=>cm (λ(j2:Nat×Int)=>match j2 with|⟨HU,O9⟩=>(some (decide ((256:Nat)≤HU))).bind λx8=>cm (λ(j4:Nat×Int)=>match j4 with|⟨Wz,WA⟩=>(some (Wz%256)).bind λdL=>(uS [0,1,2,2,3,3,3,3,4,4,4,4,4,4,4,4,5,5,5,5,5,5,5,5,5,5,5,5,5,5,5,5,6,6,6,6,6,6,6,6,6,6,6,6,6,6,6,6,6,6,6,6,6,6,6,6,6,6,6,6,6,6,6,6,7,7,7,7,7,7,7,7,7,7,7,7,7,7,7,7,7,7,7,7,7,7,7,7,7,7,7,7,7,7,7,7,7,7,7,7,7,7,7,7,7,7,7,7,7,7,7,7,7,7,7,7,7,7,7,7,7,7,7,7,7,7,7,7,8,8,8,8,8,8,8,8,8,8,8,8,8,8,8,8,8,8,8,8,8,8,8,8,8,8,8,8,8,8,8,8,8,8,8,8,8,8,8,8,8,8,8,8,8,8,8,8,8,8,8,8,8,8,8,8,8,8,8,8,8,8,8,8,8,8,8,8,8,8,8,8,8,8,8,8,8,8,8,8,8,8,8,8,8,8,8,8,8,8,8,8,8,8,8,8,8,8,8,8,8,8,8,8,8,8,8,8,8,8,8,8,8,8,8,8,8,8,8,8,8,8,8,8,8,8,8,8] ((dL:Nat):Int)).bind λfy=>(some (IntKind.i64.wrap (fy:Int))).bind λdS=>(some (IntKind.i64.wrap (WA+dS))).bind λeI=>some eI) λK4=>(bif x8 then(some (HU/2^8)).bind λdP=>(some (IntKind.i64.wrap (O9+8))).bind λcP=>K4 (dP,cP)else K4 (HU,O9))) λK2=>(bif x4 then(some (x0/2^16)).bind λx6=>K2 (x6,16)else K2 (x0,0))
noncomputable def dc(x0:Nat):Option (Int):=(gE x0).bind λx4=>(some (IntKind.i64.wrap (32-x4))).bind λx5=>some x5
noncomputable def ij(x0:List Nat)(o0:Nat)(n0:Nat)(x1:List Nat):Option (Nat×List Nat):=(some (x1.length:Int)).bind λcP=>(Oo o0 n0 cP).bind λdL=>(x0[dL]?).bind λfy=>(some (fy%18446744073709551616)).bind λdS=>(some (dS*2^32%18446744073709551616)).bind λeI=>(some (IntKind.i64.wrap (cP-1))).bind λgO=>(Oo o0 n0 gO).bind λgw=>(x0[gw]?).bind λiQ=>(some (iQ%18446744073709551616)).bind λgV=>(some ((eI ||| gV)%18446744073709551616)).bind λkf=>(some (IntKind.i64.wrap (cP-1))).bind λnR=>(cQ x1 nR).bind λir=>(some (ir%18446744073709551616)).bind λoh=>(some (IntKind.i64.wrap (cP-2))).bind λnQ=>(cQ x1 nQ).bind λr6=>(some (r6%18446744073709551616)).bind λuX=>(Dy 18446744073709551616 kf oh).bind λnY=>(Cf kf oh).bind λHA=>(b9 (λ(sF:Nat×Nat)=>match sF with|⟨Cj,CT⟩=>(show Option ((Nat×Nat)⊕(Nat))from cm (λ(HV:Bool)=>(bif HV then(some (oC 18446744073709551616 Cj 1)).bind λQX=>(some ((CT+oh)%18446744073709551616)).bind λJp=>(some (Jp/2^32)).bind λVy=>(some (decide ((Vy:Nat)≠0))).bind λLi=>(bif Li then some (.inr QX)else some (.inl (QX,Jp)))else some (.inr Cj))) λDH=>(some (Cj/2^32)).bind λzH=>(some (decide ((zH:Nat)≠0))).bind λrN=>(bif rN then some true else(some ((Cj*uX)%18446744073709551616)).bind λuW=>(some (CT*2^32%18446744073709551616)).bind λyV=>(some (IntKind.i64.wrap (cP-2))).bind λDJ=>(Oo o0 n0 DJ).bind λQW=>(x0[QW]?).bind λO8=>(some (O8%18446744073709551616)).bind λVz=>(some ((yV ||| Vz)%18446744073709551616)).bind λL9=>(some (decide ((L9:Nat)<uW))).bind λKt=>some Kt).bind λMc=>DH Mc)) (nY,HA)).bind λKu=>(uT x0 x0).bind λ_=>some (Ku,x0)
noncomputable def cY(x0:List Nat)(o0:Nat)(n0:Nat)(x1:List Nat)(x2:Nat):Option (Bool×List Nat):=(some (n0:Int)).bind λdW=>(b9 (λ(zJ:Nat×Int×Nat×(List Nat))=>match zJ with|⟨Kv,wL,DK,ue⟩=>(show Option ((Nat×Int×Nat×(List Nat))⊕(Nat×(List Nat)))from(some (decide ((wL:Int)<dW))).bind λfy=>(bif fy then(some (x1.length:Int)).bind λke=>(some (decide ((wL:Int)<ke))).bind λgO=>cm (λ(Md:Nat)=>(Oo o0 n0 wL).bind λoh=>(ue[oh]?).bind λji=>(some (ji%18446744073709551616)).bind λmS=>(bV Md DK).bind λ⟨sG,k16⟩=>(some (sG%18446744073709551616)).bind λuX=>(some (oC 18446744073709551616 mS uX)).bind λwH=>(some (oC 18446744073709551616 wH Kv)).bind λnY=>(some (nY%4294967296)).bind λCk=>(Oo o0 n0 wL).bind λzH=>(stM ue zH Ck).bind λl18=>(some (nY/2^63)).bind λsE=>(some (IntKind.i64.wrap (wL+1))).bind λyf=>some (.inl (sE,yf,k16,l18))) λK14=>(bif gO then(cQ x1 wL).bind λgV=>(some (gV%18446744073709551616)).bind λiS=>(some ((iS*x2)%18446744073709551616)).bind λnR=>K14 nR else K14 0)else some (.inr (Kv,ue))))) (0,0,0,x0)).bind λLj=>match Lj with|⟨Me,wM⟩=>(some (decide ((Me:Nat)≠0))).bind λuW=>(uT x0 wM).bind λ_=>some (uW,wM)
noncomputable def iM(x0:List Nat)(x1:List Nat):Option ((List Nat)×(List Nat)):=(some (x1.length:Int)).bind λdS=>(some (IntKind.i64.wrap (dS-1))).bind λke=>(cQ x1 ke).bind λgO=>(dc gO).bind λiQ=>(some ((iQ%18446744073709551616).toNat)).bind λgV=>(iE x0 gV).bind λiL=>(fe x1 gV).bind λye=>(uG ye 0 dS).bind λji=>(some (x0.length:Int)).bind λnQ=>(some (IntKind.i64.wrap (nQ-dS))).bind λsG=>(some (IntKind.i64.wrap (sG+1))).bind λuX=>(EX 4 uX (0:Nat)).bind λwH=>(some (x0.length:Int)).bind λnY=>(some (IntKind.i64.wrap (nY-dS))).bind λr7=>(b9 (λ(Tf:Int×(List Nat)×(List Nat))=>match Tf with|⟨jk,sH,vA⟩=>(show Option ((Int×(List Nat)×(List Nat))⊕((List Nat)×(List Nat)))from(some (decide ((0:Int)≤jk))).bind λCk=>(bif Ck then(some (IntKind.i64.wrap (jk+dS))).bind λQV=>(some (IntKind.i64.wrap (QV+1))).bind λyV=>(S5 vA jk yV).bind λ⟨o53,n53⟩=>(ij vA o53 n53 ji).bind λ⟨DJ,Tg⟩=>(uT vA Tg).bind λ_=>(some (IntKind.i64.wrap (jk+dS))).bind λKt=>(some (IntKind.i64.wrap (Kt+1))).bind λLh=>(S5 Tg jk Lh).bind λ⟨o62,n62⟩=>(cY Tg o62 n62 ji DJ).bind λ⟨Th,VA⟩=>(uT Tg VA).bind λ_=>cm (λ(VB:Nat×(List Nat))=>match VB with|⟨Mf,HW⟩=>(some (Mf%4294967296)).bind λTi=>(vm sH jk).bind λWB=>(stM sH WB Ti).bind λl55=>(some (IntKind.i64.wrap (jk-1))).bind λrN=>some (.inl (rN,l55,HW))) λK53=>(bif Th then(some (oC 18446744073709551616 DJ 1)).bind λWC=>(some (ji.length:Int)).bind λMg=>(b9 (λ(Tj:Int×Nat×(List Nat))=>match Tj with|⟨yh,wN,vB⟩=>(show Option ((Int×Nat×(List Nat))⊕(Nat×(List Nat)))from(some (decide ((yh:Int)<Mg))).bind λMh=>(bif Mh then(cQ ji yh).bind λFG=>(some (IntKind.i64.wrap (jk+yh))).bind λx79=>(some (IntKind.i64.wrap (jk+yh))).bind λx84=>(vm vB x84).bind λWD=>(vB[WD]?).bind λMi=>(some (Mi%18446744073709551616)).bind λx87=>(some (FG%18446744073709551616)).bind λx89=>(some ((x87+x89)%18446744073709551616)).bind λWE=>(bV WE wN).bind λ⟨Tk,k68⟩=>(vm vB x79).bind λx92=>(stM vB x92 Tk).bind λl69=>(some (IntKind.i64.wrap (yh+1))).bind λx93=>some (.inl (x93,k68,l69))else some (.inr (wN,vB))))) (0,0,VA)).bind λe65=>match e65 with|⟨FH,AQ⟩=>(some (IntKind.i64.wrap (jk+dS))).bind λx97=>(some (IntKind.i64.wrap (jk+dS))).bind λHX=>(vm AQ HX).bind λWG=>(AQ[WG]?).bind λHY=>(some (HY%18446744073709551616)).bind λKw=>(bV Kw FH).bind λ⟨Tl,k72⟩=>(vm AQ x97).bind λWH=>(stM AQ WH Tl).bind λl73=>K53 (WC,l73)else K53 (DJ,VA))else some (.inr (sH,vA))))) (r7,wH,iL)).bind λWI=>match WI with|⟨AR,yj⟩=>(EX 4 dS (0:Nat)).bind λHZ=>(b9 (λ(VC:Int×(List Nat))=>match VC with|⟨uf,wO⟩=>(show Option ((Int×(List Nat))⊕((List Nat)))from(some (decide ((uf:Int)<dS))).bind λTm=>(bif Tm then(vm yj uf).bind λWJ=>(yj[WJ]?).bind λWK=>(some (WK%18446744073709551616)).bind λTn=>(some (IntKind.i64.wrap (uf+1))).bind λWL=>(vm yj WL).bind λWM=>(yj[WM]?).bind λWN=>(some (WN%18446744073709551616)).bind λTo=>(some (To*2^32%18446744073709551616)).bind λTp=>(some ((Tn ||| Tp)%18446744073709551616)).bind λTq=>(some (Tq/2^(min gV 64))).bind λWO=>(some (WO%4294967296)).bind λTr=>(vm wO uf).bind λWQ=>(stM wO WQ Tr).bind λl83=>(some (IntKind.i64.wrap (uf+1))).bind λTs=>some (.inl (Ts,l83))else some (.inr wO)))) (0,HZ)).bind λqW=>some (AR,qW)
noncomputable def fP(x0:List Nat)(x1:List Nat):Option ((List Nat)×(List Nat)):=(cO x0 x1).bind λcP=>(some (decide ((cP:Int)<0))).bind λja=>(bif ja then(ec x0).bind λdL=>some ([],dL)else(some (x0.length:Int)).bind λeI=>(some (decide ((eI:Int)≤2))).bind λkN=>(bif kN then(dB x0).bind λgO=>(dB x1).bind λiQ=>(Dy 18446744073709551616 gO iQ).bind λiS=>(eJ false iS).bind λ⟨wP,uY⟩=>(Cf gO iQ).bind λoh=>(eJ false oh).bind λ⟨uZ,sI⟩=>some (uY,sI)else(some (x1.length:Int)).bind λsG=>(some (decide ((sG:Int)=1))).bind λuX=>(bif uX then(ec x0).bind λpU=>(cQ x1 0).bind λr7=>(some (r7%18446744073709551616)).bind λCk=>(ig pU Ck).bind λ⟨zH,l5⟩=>(uT pU l5).bind λ_=>(some (zH%4294967296)).bind λyf=>some (l5,[yf])else(iM x0 x1).bind λ⟨WR,WS⟩=>some (WR,WS))))
noncomputable def bZ(x0:Int):Option (Zr):=(some ((x0%18446744073709551616).toNat)).bind λx5=>(some (decide ((x0:Int)<0))).bind λx7=>cm (λ(FI:Nat)=>(some (decide ((x0:Int)<0))).bind λfN=>(eJ fN FI).bind λ⟨FJ,FK⟩=>some ⟨FJ,FK⟩) λK2=>(bif x7 then(some (oC 18446744073709551616 0 x5)).bind λx9=>K2 x9 else K2 x5)
noncomputable def di(x0:Zr):Option (Int×Bool):=match x0 with|⟨bp,bn⟩=>(bt bn).bind λx8=>(some (x8.length:Int)).bind λdP=>(some (decide ((2:Int)<dP))).bind λfN=>(bif fN then some (0,false)else(dB x8).bind λja=>(bif bp then(some (decide ((9223372036854775808:Nat)<ja))).bind λdS=>(bif dS then some (0,false)else(some (oC 18446744073709551616 0 ja)).bind λkN=>(some (IntKind.i64.wrap (kN:Int))).bind λke=>some (ke,true))else(some (decide ((9223372036854775808:Nat)≤ja))).bind λgw=>(bif gw then some (0,false)else(some (IntKind.i64.wrap (ja:Int))).bind λgV=>some (gV,true))))
noncomputable def c7(x0:Bool)(x1:List Nat)(x2:Bool)(x3:List Nat):Option (Zr):=(some (x0==x2)).bind λfN=>(bif fN then(eC x1 x3).bind λdL=>(ct x0 dL).bind λ⟨jl,jm⟩=>some ⟨jl,jm⟩else(cO x1 x3).bind λkN=>(some (decide ((kN:Int)<0))).bind λke=>(bif ke then(cX x3 x1).bind λgV=>(ct x2 gV).bind λ⟨sJ,rO⟩=>some ⟨sJ,rO⟩else(cX x1 x3).bind λir=>(ct x0 ir).bind λ⟨wQ,wS⟩=>some ⟨wQ,wS⟩))
noncomputable def mU(x0:Zr)(x1:Zr):Option (Zr):=match x0 with|⟨bp,bn⟩=>match x1 with|⟨bU,bR⟩=>(di ⟨bp,bn⟩).bind λ⟨Cm,H6⟩=>(di ⟨bU,bR⟩).bind λ⟨DL,H7⟩=>cm (λ(AT:Bool)=>cm (λ(j5:Unit)=>(bt bn).bind λxP=>(bt bR).bind λrN=>(c7 bp xP bU rN).bind λ⟨FL,FM⟩=>some ⟨FL,FM⟩) λK5=>(bif AT then(some (IntKind.i64.wrap (Cm+DL))).bind λiS=>(some (IntKind.i64.wrap ((BitVec.ofInt 64 Cm ^^^ BitVec.ofInt 64 iS).toNat))).bind λir=>(some (IntKind.i64.wrap ((BitVec.ofInt 64 DL ^^^ BitVec.ofInt 64 iS).toNat))).bind λji=>(some (IntKind.i64.wrap ((BitVec.ofInt 64 ir &&& BitVec.ofInt 64 ji).toNat))).bind λmS=>(some (decide ((0:Int)≤mS))).bind λnQ=>(bif nQ then(bZ iS).bind λ⟨sK,sL⟩=>some ⟨sK,sL⟩else K5 ())else K5 ())) λK3=>(bif H6 then some H7 else some false).bind λFN=>K3 FN
noncomputable def mW(x0:Zr)(x1:Zr):Option (Zr):=match x0 with|⟨bp,bn⟩=>match x1 with|⟨bU,bR⟩=>(di ⟨bp,bn⟩).bind λ⟨Cm,H6⟩=>(di ⟨bU,bR⟩).bind λ⟨DL,H7⟩=>cm (λ(AT:Bool)=>cm (λ(j5:Unit)=>(bt bn).bind λxP=>(some (!bU)).bind λCk=>(bt bR).bind λsE=>(c7 bp xP Ck sE).bind λ⟨QY,QZ⟩=>some ⟨QY,QZ⟩) λK5=>(bif AT then(some (IntKind.i64.wrap (Cm-DL))).bind λiS=>(some (IntKind.i64.wrap ((BitVec.ofInt 64 Cm ^^^ BitVec.ofInt 64 DL).toNat))).bind λir=>(some (IntKind.i64.wrap ((BitVec.ofInt 64 Cm ^^^ BitVec.ofInt 64 iS).toNat))).bind λji=>(some (IntKind.i64.wrap ((BitVec.ofInt 64 ir &&& BitVec.ofInt 64 ji).toNat))).bind λmS=>(some (decide ((0:Int)≤mS))).bind λnQ=>(bif nQ then(bZ iS).bind λ⟨sK,sL⟩=>some ⟨sK,sL⟩else K5 ())else K5 ())) λK3=>(bif H6 then some H7 else some false).bind λFN=>K3 FN
noncomputable def dg(x0:Zr)(x1:Zr):Option (Zr):=match x0 with|⟨bp,bn⟩=>match x1 with|⟨bU,bR⟩=>(bt bn).bind λx9=>(bt bR).bind λcP=>cm (λ(Mj:Bool)=>(bif Mj then(some (!(bp==bU))).bind λkf=>(dB x9).bind λiL=>(dB cP).bind λir=>(some ((iL*ir)%18446744073709551616)).bind λye=>(eJ kf ye).bind λ⟨Q0,Q1⟩=>some ⟨Q0,Q1⟩else(some (!(bp==bU))).bind λsG=>(fO x9 cP).bind λpU=>(ct sG pU).bind λ⟨yW,yX⟩=>some ⟨yW,yX⟩)) λK3=>(some (x9.length:Int)).bind λdW=>(some (decide ((dW:Int)≤1))).bind λdL=>(bif dL then(some (cP.length:Int)).bind λeI=>(some (decide ((eI:Int)≤1))).bind λkN=>some kN else some false).bind λQ2=>K3 Q2
noncomputable def fE(x0:Zr):Option (Zr):=match x0 with|⟨bp,bn⟩=>(some (!bp)).bind λx5=>(bt bn).bind λx8=>(ec x8).bind λx9=>(ct x5 x9).bind λ⟨sM,sN⟩=>some ⟨sM,sN⟩
noncomputable def cS(x0:Zr):Option (Int):=match x0 with|⟨bp,bn⟩=>(bt bn).bind λx6=>(some (x6.length:Int)).bind λx7=>(some (decide ((x7:Int)=0))).bind λx8=>(bif x8 then some 0 else(bif bp then some (-1)else some 1))
noncomputable def mX(x0:Zr)(x1:Zr):Option (Int):=match x0 with|⟨bp,bn⟩=>match x1 with|⟨bU,bR⟩=>(cS ⟨bp,bn⟩).bind λx8=>(cS ⟨bU,bR⟩).bind λdP=>(some (decide ((x8:Int)<dP))).bind λdW=>(bif dW then some (-1)else(some (decide ((dP:Int)<x8))).bind λeI=>(bif eI then some 1 else(some (decide ((x8:Int)<0))).bind λgO=>(bif gO then(bt bR).bind λgV=>(bt bn).bind λiL=>(cO gV iL).bind λnR=>some nR else(bt bn).bind λoh=>(bt bR).bind λnQ=>(cO oh nQ).bind λr6=>some r6)))
noncomputable def eR(x0:Zr)(x1:Zr):Option (Zr×Zr×Int):=match x0 with|⟨bp,bn⟩=>match x1 with|⟨bU,bR⟩=>(bt bn).bind λja=>(bt bR).bind λfy=>(some (fy.length:Int)).bind λeI=>(some (decide ((eI:Int)=0))).bind λkN=>(bif kN then some (⟨false,[]⟩,⟨false,[]⟩,7)else(fP ja fy).bind λ⟨AU,DM⟩=>(bt DM).bind λir=>cm (λ(j3:Bool×Bool)=>match j3 with|⟨Mk,vC⟩=>cm (λ(j5:(List Nat)×(List Nat))=>match j5 with|⟨Ml,FO⟩=>(some (!(vC==bU))).bind λsE=>(ct sE Ml).bind λ⟨FP,FR⟩=>(ct false FO).bind λ⟨Q3,Q4⟩=>some (⟨FP,FR⟩,⟨Q3,Q4⟩,0)) λK5=>(bif Mk then(eC AU [1]).bind λpU=>(cX fy ir).bind λr7=>K5 (pU,r7)else K5 (AU,ir))) λK3=>(bif bp then(some (ir.length:Int)).bind λnQ=>(some (decide ((0:Int)<nQ))).bind λr6=>some r6 else some false).bind λQ5=>K3 (Q5,bp))
noncomputable def kD(x0:Zr)(x1:Zr):Option (Zr):=match x0 with|⟨bp,bn⟩=>match x1 with|⟨bU,bR⟩=>(bt bn).bind λja=>(bt bR).bind λfy=>(b9 (λ(zJ:(List Nat)×(List Nat))=>match zJ with|⟨Kx,DN⟩=>(show Option (((List Nat)×(List Nat))⊕((List Nat)×(List Nat)))from cm (λ(H8:Bool)=>(bif H8 then(fP Kx DN).bind λ⟨aal,WT⟩=>(bt WT).bind λwH=>some (.inl (DN,wH))else some (.inr (Kx,DN)))) λWU=>(some (DN.length:Int)).bind λeI=>(some (decide ((0:Int)<eI))).bind λkN=>(bif kN then(some (Kx.length:Int)).bind λgw=>(some (decide ((2:Int)<gw))).bind λiQ=>(bif iQ then some true else(some (DN.length:Int)).bind λiS=>(some (decide ((2:Int)<iS))).bind λiL=>some iL).bind λMm=>some Mm else some false).bind λMn=>WU Mn)) (ja,fy)).bind λLj=>match Lj with|⟨Mo,Mp⟩=>(some (Mp.length:Int)).bind λnY=>(some (decide ((nY:Int)=0))).bind λxP=>(bif xP then(ec Mo).bind λHA=>(ct false HA).bind λ⟨Q6,Q7⟩=>some ⟨Q6,Q7⟩else(dB Mo).bind λrN=>(dB Mp).bind λyf=>(b9 (λ(VD:Nat×Nat)=>match VD with|⟨Jq,yl⟩=>(show Option ((Nat×Nat)⊕(Nat))from(some (decide ((0:Nat)<yl))).bind λuW=>(bif uW then(Cf Jq yl).bind λCn=>some (.inl (yl,Cn))else some (.inr Jq)))) (rN,yf)).bind λCU=>(eJ false CU).bind λ⟨Q8,Q9⟩=>some ⟨Q8,Q9⟩)
end
section
open Go.Fw Go.Fw.Z Go.RowKit
theorem eD(c:Nat):SN af 143 [.v (.int .u64 (c:Nat))] 157 104 [.v (.int .u64 (c:Nat))]:=by
 refine HN Tryz.func143 Y (ae Y) (λdm M vs hvs=>?_)
 exact sr<|RT.Dq .none (s:=.sv _) Y T Y Y<|ag Y<|dn<|sr<|RT.makeFunc .none (.box Y (.nil)) T<|an (s:=.fT _ _) Y<|dn<|bf<|⟨.inr Y,_,.tmp Y,Y⟩
theorem sO(a b:List Nat):Pure af 160 [(slc 1 (List.map aX a)),(slc 1 (List.map aX b))] (qQ 169 [ref [(slc 1 (List.map aX a))],ref [(slc 1 (List.map aX b))]]):=by
 refine bj Tryz.func160 Y (ae Y) (λdm M vs hvs=>?_)
 refine sr<|RT.Dq .none (s:=.sv _) Y T Y Y<|RT.Dq .none (s:=.sv _) Y T Y Y<|ag Y<|dn<|sr<|RT.makeFunc .none (.box Y (.box Y (.nil))) T<|an (s:=.fT _ _) Y<|dn<|bX (mg (i:=2) Y [(slc 1 (List.map aX a))] (.cons Y .nil) .any 0 [(4,.fT 169 [.val (ref [(slc 1 (List.map aX a))]),.box 3])] (λ_ _ _=>trivial) (uF.h (l:=[(slc 1 (List.map aX a))])) ⟨@FT.fT _ _ _ _ _ 4 169 [.box 2,.box 3] Y,ak⟩) ?_
 exact bX (mg (i:=3) Y [(slc 1 (List.map aX b))] (.cons Y .nil) .any 0 [(4,.fT 169 [.val (ref [(slc 1 (List.map aX a))]),.val (ref [(slc 1 (List.map aX b))])])] (λ_ _ _=>trivial) (uF.h (l:=[(slc 1 (List.map aX b))])) ⟨@FT.fT _ _ _ _ _ 4 169 [.val (ref [(slc 1 (List.map aX a))]),.box 3] Y,ak⟩)<|bX (Dw 4 (qQ 169 [ref [(slc 1 (List.map aX a))],ref [(slc 1 (List.map aX b))]]) (λ_ _ h=>Dx h))<|bf<|⟨.inr Y,Dt (.tmp Y (.nil)) Y⟩
theorem sP(a b:List Nat):Iter af 169 [ref [(slc 1 (List.map aX a))],ref [(slc 1 (List.map aX b))]] (max a.length b.length) (λk=>[.v (.int .u64 ((a.getD k 0%18446744073709551616:Nat):Int)),.v (.int .u64 ((b.getD k 0%18446744073709551616:Nat):Int))]):=by
 refine qR Tryz.func169 Y Y (ae Y) (λdm M O l J hJ xQ hr=>?_)
 obtain⟨rW,xQ⟩:=xQ
 have hla:a.length≤9223372036854775807:=by cases rW with|nil=>exact xQ.elim|cons _ rW=>exact ud xQ.1
 have hlb:b.length≤9223372036854775807:=by cases rW with|nil=>exact xQ.elim|cons _ rW=>cases rW with|nil=>exact xQ.2.elim|cons _ _=>exact ud xQ.2.1
 refine bz ?_
 refine aW ?_
 refine RT.cM .none Y Y (tl Y) ?_
 refine RT.len .none Y (tl Y) ?_
 refine RT.cM .none Y Y (tl Y) ?_
 refine RT.len .none Y (tl Y) ?_
 refine RT.max .none (((max a.length b.length:Nat):Int)) Y Y (tl Y) (by simp only[List.length_map];split<;>omega) ?_
 refine RT.mv .none Y (tl Y) ?_
 refine RT.done ?_
 refine aV.n ?_
 refine bh ?_
 refine pA (I:=λx:{i:Nat//i≤max a.length b.length}=>AS.cq 39 [(0,.sv (.v (.func (.yield l) #[] #[]))),(1,.sv (ref [(slc 1 (List.map aX a))])),(2,.sv (ref [(slc 1 (List.map aX b))])),(11,ah ((max a.length b.length:Nat):Int)),(12,ah ((x.1:Nat):Int))] [] [] (x.1)) (μ:=λx=>max a.length b.length-x.1) ⟨0,by omega⟩ (by(try dsimp only);exact c6 id Y Y Y Y Y ⟨.sv (by first|exact aq|exact SV.aY (by omega)|exact SV.aY (by push_cast;omega)|exact SV.aY (by dsimp only;omega)|exact SV.imp_eq (by simp)),.sv (by first|exact aq|exact SV.aY (by omega)|exact SV.aY (by push_cast;omega)|exact SV.aY (by dsimp only;omega)|exact SV.imp_eq (by simp)),.sv (by first|exact aq|exact SV.aY (by omega)|exact SV.aY (by push_cast;omega)|exact SV.aY (by dsimp only;omega)|exact SV.imp_eq (by simp)),.sv (by first|exact aq|exact SV.aY (by omega)|exact SV.aY (by push_cast;omega)|exact SV.aY (by dsimp only;omega)|exact SV.imp_eq (by simp)),.sv (by first|exact aq|exact SV.aY (by omega)|exact SV.aY (by push_cast;omega)|exact SV.aY (by dsimp only;omega)|exact SV.imp_eq (by simp)),ak⟩ trivial trivial (λ_ _=>Y)) ?_
 rintro⟨i,QU⟩
 try dsimp only
 rcases AK a b i QU with⟨hi,zD,Fj⟩|⟨hi,zD,Fj⟩|⟨hi,zD,Fj⟩|hi
 ·
  refine bz ?_
  refine aW ?_
  refine RT.lss .none (true) Y Y (tl Y) (by simp;omega) ?_
  refine RT.done ?_
  refine aV.n ?_
  refine bz ?_
  refine cA Y ?_
  refine bu ?_
  refine aV.n ?_
  refine bz ?_
  refine bh ?_
  refine bz ?_
  refine aW ?_
  refine RT.mv .none Y (tl Y) ?_
  refine RT.wA .none Y (tl Y) ?_
  refine RT.done ?_
  refine aV.n ?_
  refine bz ?_
  refine aW ?_
  refine RT.wA .none Y (tl Y) ?_
  refine RT.wA .none Y (tl Y) ?_
  refine RT.done ?_
  refine aV.n ?_
  refine bz ?_
  refine bz ?_
  refine aW ?_
  refine RT.mv .none Y (tl Y) ?_
  refine RT.cM .none Y Y (tl Y) ?_
  refine RT.len .none Y (tl Y) ?_
  refine RT.lss .none (true) Y Y (tl Y) (by simp only[List.length_map];simp;omega) ?_
  refine RT.done ?_
  refine aV.n ?_
  refine cA Y ?_
  refine aW ?_
  refine RT.cM .none Y Y (tl Y) ?_
  refine RT.mv .none Y (tl Y) ?_
  refine RT.LG .none [.v (.int .u32 ((a.getD i 0:Nat):Int))] (Int.natCast_nonneg i) (by rw[Int.toNat_natCast,List.getElem?_map,sy zD];rfl) Y Y (tl Y) ?_
  refine RT.cM .none Y Y (tl Y) ?_
  refine RT.conv .none (((a.getD i 0%18446744073709551616:Nat):Int)) Y (tl Y) OT ?_
  refine RT.wA .none Y (tl Y) ?_
  refine RT.done ?_
  refine aV.n ?_
  refine bz ?_
  refine bz ?_
  refine aW ?_
  refine RT.mv .none Y (tl Y) ?_
  refine RT.cM .none Y Y (tl Y) ?_
  refine RT.len .none Y (tl Y) ?_
  refine RT.lss .none (true) Y Y (tl Y) (by simp only[List.length_map];simp;omega) ?_
  refine RT.done ?_
  refine aV.n ?_
  refine cA Y ?_
  refine aW ?_
  refine RT.cM .none Y Y (tl Y) ?_
  refine RT.mv .none Y (tl Y) ?_
  refine RT.LG .none [.v (.int .u32 ((b.getD i 0:Nat):Int))] (Int.natCast_nonneg i) (by rw[Int.toNat_natCast,List.getElem?_map,sy Fj];rfl) Y Y (tl Y) ?_
  refine RT.cM .none Y Y (tl Y) ?_
  refine RT.conv .none (((b.getD i 0%18446744073709551616:Nat):Int)) Y (tl Y) OT ?_
  refine RT.wA .none Y (tl Y) ?_
  refine RT.done ?_
  refine aV.n ?_
  refine bz ?_
  refine aW ?_
  refine RT.mv .none Y (tl Y) ?_
  refine RT.mv .none Y (tl Y) ?_
  refine RT.mv .none Y (tl Y) ?_
  refine RT.yield .none hr Y (λ_ h=>h) Y (i) Y Y hi (by exact⟨Y,Y,ak⟩) (tl Y) (λyb=>?_)
  cases yb
  ·
   refine RT.not .none Y (tl Y) true Y ?_
   refine RT.done ?_
   refine aV.n ?_
   refine cA Y ?_
   refine bf ?_
   refine bA.r ?_
   refine aV.r ?_
   refine aV.r ?_
   refine bA.r ?_
   exact⟨.inr rfl,(λh=>by cases h)⟩
  ·
   refine RT.not .none Y (tl Y) false Y ?_
   refine RT.done ?_
   refine aV.n ?_
   refine da Y ?_
   refine bu ?_
   refine bA.n ?_
   refine aV.n ?_
   refine aW ?_
   refine RT.add .none (((i:Nat):Int)+1) Y Y (tl Y) (jg (by omega)) ?_
   refine RT.mv .none Y (tl Y) ?_
   refine RT.done ?_
   refine aV.n ?_
   refine⟨⟨i+1,by omega⟩,(by dsimp only;omega),?_⟩
   try dsimp only
   exact c6 id Y Y Y Y Y ⟨.sv (by first|exact aq|exact SV.aY (by omega)|exact SV.aY (by push_cast;omega)|exact SV.aY (by dsimp only;omega)|exact SV.imp_eq (by simp)),.sv (by first|exact aq|exact SV.aY (by omega)|exact SV.aY (by push_cast;omega)|exact SV.aY (by dsimp only;omega)|exact SV.imp_eq (by simp)),.sv (by first|exact aq|exact SV.aY (by omega)|exact SV.aY (by push_cast;omega)|exact SV.aY (by dsimp only;omega)|exact SV.imp_eq (by simp)),.sv (by first|exact aq|exact SV.aY (by omega)|exact SV.aY (by push_cast;omega)|exact SV.aY (by dsimp only;omega)|exact SV.imp_eq (by simp)),.sv (by first|exact aq|exact SV.aY (by omega)|exact SV.aY (by push_cast;omega)|exact SV.aY (by dsimp only;omega)|exact SV.imp_eq (by simp)),ak⟩ trivial trivial (λ_ _=>Y)
 ·
  refine bz ?_
  refine aW ?_
  refine RT.lss .none (true) Y Y (tl Y) (by simp;omega) ?_
  refine RT.done ?_
  refine aV.n ?_
  refine bz ?_
  refine cA Y ?_
  refine bu ?_
  refine aV.n ?_
  refine bz ?_
  refine bh ?_
  refine bz ?_
  refine aW ?_
  refine RT.mv .none Y (tl Y) ?_
  refine RT.wA .none Y (tl Y) ?_
  refine RT.done ?_
  refine aV.n ?_
  refine bz ?_
  refine aW ?_
  refine RT.wA .none Y (tl Y) ?_
  refine RT.wA .none Y (tl Y) ?_
  refine RT.done ?_
  refine aV.n ?_
  refine bz ?_
  refine bz ?_
  refine aW ?_
  refine RT.mv .none Y (tl Y) ?_
  refine RT.cM .none Y Y (tl Y) ?_
  refine RT.len .none Y (tl Y) ?_
  refine RT.lss .none (true) Y Y (tl Y) (by simp only[List.length_map];simp;omega) ?_
  refine RT.done ?_
  refine aV.n ?_
  refine cA Y ?_
  refine aW ?_
  refine RT.cM .none Y Y (tl Y) ?_
  refine RT.mv .none Y (tl Y) ?_
  refine RT.LG .none [.v (.int .u32 ((a.getD i 0:Nat):Int))] (Int.natCast_nonneg i) (by rw[Int.toNat_natCast,List.getElem?_map,sy zD];rfl) Y Y (tl Y) ?_
  refine RT.cM .none Y Y (tl Y) ?_
  refine RT.conv .none (((a.getD i 0%18446744073709551616:Nat):Int)) Y (tl Y) OT ?_
  refine RT.wA .none Y (tl Y) ?_
  refine RT.done ?_
  refine aV.n ?_
  refine bz ?_
  refine bz ?_
  refine aW ?_
  refine RT.mv .none Y (tl Y) ?_
  refine RT.cM .none Y Y (tl Y) ?_
  refine RT.len .none Y (tl Y) ?_
  refine RT.lss .none (false) Y Y (tl Y) (by simp only[List.length_map];simp;omega) ?_
  refine RT.done ?_
  refine aV.n ?_
  refine da Y ?_
  refine bu ?_
  refine aV.n ?_
  refine bz ?_
  refine aW ?_
  refine RT.mv .none Y (tl Y) ?_
  refine RT.mv .none Y (tl Y) ?_
  refine RT.mv .none Y (tl Y) ?_
  refine RT.yield .none hr Y (λ_ h=>h) Y (i) Y Y hi (by exact⟨Y,(by show AV.sv _=AV.sv _;rw[vv Fj];rfl),ak⟩) (tl Y) (λyb=>?_)
  cases yb
  ·
   refine RT.not .none Y (tl Y) true Y ?_
   refine RT.done ?_
   refine aV.n ?_
   refine cA Y ?_
   refine bf ?_
   refine bA.r ?_
   refine aV.r ?_
   refine aV.r ?_
   refine bA.r ?_
   exact⟨.inr rfl,(λh=>by cases h)⟩
  ·
   refine RT.not .none Y (tl Y) false Y ?_
   refine RT.done ?_
   refine aV.n ?_
   refine da Y ?_
   refine bu ?_
   refine bA.n ?_
   refine aV.n ?_
   refine aW ?_
   refine RT.add .none (((i:Nat):Int)+1) Y Y (tl Y) (jg (by omega)) ?_
   refine RT.mv .none Y (tl Y) ?_
   refine RT.done ?_
   refine aV.n ?_
   refine⟨⟨i+1,by omega⟩,(by dsimp only;omega),?_⟩
   try dsimp only
   exact c6 id Y Y Y Y Y ⟨.sv (by first|exact aq|exact SV.aY (by omega)|exact SV.aY (by push_cast;omega)|exact SV.aY (by dsimp only;omega)|exact SV.imp_eq (by simp)),.sv (by first|exact aq|exact SV.aY (by omega)|exact SV.aY (by push_cast;omega)|exact SV.aY (by dsimp only;omega)|exact SV.imp_eq (by simp)),.sv (by first|exact aq|exact SV.aY (by omega)|exact SV.aY (by push_cast;omega)|exact SV.aY (by dsimp only;omega)|exact SV.imp_eq (by simp)),.sv (by first|exact aq|exact SV.aY (by omega)|exact SV.aY (by push_cast;omega)|exact SV.aY (by dsimp only;omega)|exact SV.imp_eq (by simp)),.sv (by first|exact aq|exact SV.aY (by omega)|exact SV.aY (by push_cast;omega)|exact SV.aY (by dsimp only;omega)|exact SV.imp_eq (by simp)),ak⟩ trivial trivial (λ_ _=>Y)
 ·
  refine bz ?_
  refine aW ?_
  refine RT.lss .none (true) Y Y (tl Y) (by simp;omega) ?_
  refine RT.done ?_
  refine aV.n ?_
  refine bz ?_
  refine cA Y ?_
  refine bu ?_
  refine aV.n ?_
  refine bz ?_
  refine bh ?_
  refine bz ?_
  refine aW ?_
  refine RT.mv .none Y (tl Y) ?_
  refine RT.wA .none Y (tl Y) ?_
  refine RT.done ?_
  refine aV.n ?_
  refine bz ?_
  refine aW ?_
  refine RT.wA .none Y (tl Y) ?_
  refine RT.wA .none Y (tl Y) ?_
  refine RT.done ?_
  refine aV.n ?_
  refine bz ?_
  refine bz ?_
  refine aW ?_
  refine RT.mv .none Y (tl Y) ?_
  refine RT.cM .none Y Y (tl Y) ?_
  refine RT.len .none Y (tl Y) ?_
  refine RT.lss .none (false) Y Y (tl Y) (by simp only[List.length_map];simp;omega) ?_
  refine RT.done ?_
  refine aV.n ?_
  refine da Y ?_
  refine bu ?_
  refine aV.n ?_
  refine bz ?_
  refine bz ?_
  refine aW ?_
  refine RT.mv .none Y (tl Y) ?_
  refine RT.cM .none Y Y (tl Y) ?_
  refine RT.len .none Y (tl Y) ?_
  refine RT.lss .none (true) Y Y (tl Y) (by simp only[List.length_map];simp;omega) ?_
  refine RT.done ?_
  refine aV.n ?_
  refine cA Y ?_
  refine aW ?_
  refine RT.cM .none Y Y (tl Y) ?_
  refine RT.mv .none Y (tl Y) ?_
  refine RT.LG .none [.v (.int .u32 ((b.getD i 0:Nat):Int))] (Int.natCast_nonneg i) (by rw[Int.toNat_natCast,List.getElem?_map,sy Fj];rfl) Y Y (tl Y) ?_
  refine RT.cM .none Y Y (tl Y) ?_
  refine RT.conv .none (((b.getD i 0%18446744073709551616:Nat):Int)) Y (tl Y) OT ?_
  refine RT.wA .none Y (tl Y) ?_
  refine RT.done ?_
  refine aV.n ?_
  refine bz ?_
  refine aW ?_
  refine RT.mv .none Y (tl Y) ?_
  refine RT.mv .none Y (tl Y) ?_
  refine RT.mv .none Y (tl Y) ?_
  refine RT.yield .none hr Y (λ_ h=>h) Y (i) Y Y hi (by exact⟨(by show AV.sv _=AV.sv _;rw[vv zD];rfl),Y,ak⟩) (tl Y) (λyb=>?_)
  cases yb
  ·
   refine RT.not .none Y (tl Y) true Y ?_
   refine RT.done ?_
   refine aV.n ?_
   refine cA Y ?_
   refine bf ?_
   refine bA.r ?_
   refine aV.r ?_
   refine aV.r ?_
   refine bA.r ?_
   exact⟨.inr rfl,(λh=>by cases h)⟩
  ·
   refine RT.not .none Y (tl Y) false Y ?_
   refine RT.done ?_
   refine aV.n ?_
   refine da Y ?_
   refine bu ?_
   refine bA.n ?_
   refine aV.n ?_
   refine aW ?_
   refine RT.add .none (((i:Nat):Int)+1) Y Y (tl Y) (jg (by omega)) ?_
   refine RT.mv .none Y (tl Y) ?_
   refine RT.done ?_
   refine aV.n ?_
   refine⟨⟨i+1,by omega⟩,(by dsimp only;omega),?_⟩
   try dsimp only
   exact c6 id Y Y Y Y Y ⟨.sv (by first|exact aq|exact SV.aY (by omega)|exact SV.aY (by push_cast;omega)|exact SV.aY (by dsimp only;omega)|exact SV.imp_eq (by simp)),.sv (by first|exact aq|exact SV.aY (by omega)|exact SV.aY (by push_cast;omega)|exact SV.aY (by dsimp only;omega)|exact SV.imp_eq (by simp)),.sv (by first|exact aq|exact SV.aY (by omega)|exact SV.aY (by push_cast;omega)|exact SV.aY (by dsimp only;omega)|exact SV.imp_eq (by simp)),.sv (by first|exact aq|exact SV.aY (by omega)|exact SV.aY (by push_cast;omega)|exact SV.aY (by dsimp only;omega)|exact SV.imp_eq (by simp)),.sv (by first|exact aq|exact SV.aY (by omega)|exact SV.aY (by push_cast;omega)|exact SV.aY (by dsimp only;omega)|exact SV.imp_eq (by simp)),ak⟩ trivial trivial (λ_ _=>Y)
 ·
  subst hi
  refine bz ?_
  refine aW ?_
  refine RT.lss .none (false) Y Y (tl Y) (by simp) ?_
  refine RT.done ?_
  refine aV.n ?_
  refine bz ?_
  refine da Y ?_
  refine bO ?_
  refine aV.x ?_
  refine aV.x ?_
  refine bA.x ?_
  exact⟨.inl Y,(λ_=>Y)⟩
theorem qu{x0 r:List Nat}(h:ec x0=some r):Kn af 123 [slc 1 (List.map aX x0)] (TR 106 1 aX r):=by
 refine AB Tryz.func123 Y (ae Y) (λdm M vs hvs=>?_)
 unfold ec at h
 refine sr<|ag Y<|dn<|qq<|sr<|mv Y ?_
 refine RT.Wg .none Y T (λnb hnb=>?_)
 cases nb
 exact dn<|fs<|sr<|RT.DB (l:=([]:List Nat)) (e:=aX) .none .nil T Y T Y Y Y Y Y Y<|mv Y<|aR (k:=x0) (e:=aX) Y Y Y h<|an (s:=.row _) Y<|dn<|bf<|⟨.inr Y,_,.tmp Y,Y⟩
 have hx:x0=[]:=by simpa using hnb Y
 subst hx
 obtain⟨_,_,rfl⟩:=wE h
 exact dn<|cT<|sr<|ag Y<|dn<|bX (ic 2 300 106 1 Y Y T)<|bf<|aV.r<|⟨.inr Y,_,.tmp Y,Y⟩
theorem cg{x0:Nat}{c0:Nat}{r:Nat×Nat}(h:bV x0 c0=some r):LN af 157 [.v (.int .u64 ((x0:Nat):Int))] 104 [.v (.int .u64 ((c0:Nat):Int))] (.v (.int .u32 ((r.1:Nat):Int))) [.v (.int .u64 ((r.2:Nat):Int))]:=by
 refine AD Tryz.func157 Y (ae Y) (λdm M β=>?_)
 unfold bV at h
 refine sr<|ag Y<|dn<|sr<|mv Y<|lV Y Y Y<|lE h λx6 h6 h=>ad _ Y Y (UK.add (a:=x0) (b:=c0) h6)<|ag Y<|dn<|sr<|mv Y<|lE h λx8 h8 h=>RT.shr .none _ Y Y T (by decide) (Dz (k:=.u64) (a:=x6) (q:=32) (s:=32) Y h8)<|RT.me (cells:=[_]) .none (s:=.sv _) Y Y Y T Y<|dn<|sr<|mv Y<|lE h λdP gA h=>cv _ Y (UK.nat gA)<|ag Y ?_
 refine dn<|bf ?_
 obtain rfl:=O h
 exact⟨.inr Y,nW (.tmp Y (.nil)) aq,Y⟩
theorem cu{x0:List Nat}{r:List Nat}(h:bt x0=some r):Pure af 99 [slc 1 (List.map aX x0)] (slc 1 (List.map aX r)):=by
 refine bj Tryz.func99 Y (ae Y) (λdm M vs hvs=>?_)
 unfold bt at h
 refine sr<|aI Y (aA (n:=1) (e:=aX))<|dn<|qq<|bE h λAW sQ mY=>?_
 refine bL (λ(AO:(List Nat))=>AS.cq 21 [(0,.sv (slc 1 (List.map aX AO)))] [] []) (λAO=>AO=AW) ?_ (λAO sS=>?_)
 refine bh ?_
 refine bM sQ (λsF=>AS.cq 21 [(0,.sv (slc 1 (List.map aX sF)))] [] []) (wR []) (λzG Ra Rb h sV pV=>?_)
 try dsimp only
 refine qq<|qq ?_
 refine bC h (λDO=>AS.cq 21 [(0,.sv (slc 1 (List.map aX zG))),(14,ai DO)] [] []) (λh=>?_) (λAN h=>?_)
 refine aW<|mv Y<|lE h λx4 h4 h=>ln Y h4<|lE h λx5 h5 h=>gt _ Y Y h5<|mv Y<|bE h λHS cE h=>?_
 cases x5
 obtain rfl:=O (F cE)
 exact ww<|ww<|ww<|ww<|ww<|ww<|ww<|pF Y<|dn<|⟨false,h,wR []⟩
 refine gm Y<|gm Y<|lE (V cE) λx9 h9 cE=>gn Y h9<|lE cE λdP gA cE=>RT.sub (.some Y Y) _ Y Y T gA<|bE cE λfN kO cE=>RT.QT (.some Y Y) Y Y T kO<|gr Y Y<|lE cE λja lW cE=>Tc _ Y Y (YD (p:=fN) (q:=0) lW) ?_
 obtain rfl:=O cE
 exact pT Y<|dn<|⟨ja,h,wR []⟩
 try dsimp only
 refine aV.n ?_
 cases AN
 refine cF<|bO<|aV.x<|aV.x<|bA.x<|aV.n ?_
 obtain rfl:=O (F h)
 exact⟨zG,pV _ Y,wR []⟩
 refine cT<|bu<|aV.n<|bh<|aW<|mv Y<|mv Y<|lE (V h) λdS jb h=>ln Y jb<|lE h λeI jP h=>sb _ Y Y jP<|bE h λkN lX h=>RT.sw .none 0 eI Y Y ⟨_,Y⟩ T lX<|ag Y<|RT.done<|bA.n ?_
 obtain rfl:=O h
 exact aV.n ⟨kN,sV _ Y,wR []⟩
 subst sS
 try dsimp only
 refine aV.n<|sr<|mv Y<|ag Y<|dn<|bf ?_
 obtain rfl:=O mY
 exact R1 Y
abbrev au:SV:=slc 1 (List.map aX [])
theorem jn{x0:Bool}{x1:Nat}(N:Nat){r:Zr}(h:eJ x0 x1=some r):dU af 114 N [ay x0,.v (.int .u64 ((x1:Nat):Int))] (.agg ((fZ N) r)):=by
 refine bP Tryz.func114 Y (ae Y) (λdm M vs hN hvs=>?_)
 unfold eJ at h
 refine sr<|al (cs:=[ay false,nw N au]) (by exact⟨aq,bw,ak⟩) Y<|dn<|qq<|bh<|sr<|mv Y<|lE h λx7 h7 h=>eq _ Y Y (YD (p:=x1) (q:=0) h7)<|ag Y<|dn ?_
 cases x7
 refine cF<|sr<|mv Y<|lE (F h) λfN kO h=>RT.shr .none _ Y Y T (by decide) (Dz (k:=.u64) (a:=x1) (q:=32) (s:=32) Y kO)<|lE h λcP fz h=>eq _ Y Y (YD (p:=fN) (q:=0) fz)<|ag Y<|dn ?_
 cases cP
 refine cF<|bu<|bA.n<|aV.n<|sr<|mv Y<|mv Y<|lE (F h) λke qw h=>cv _ Y (UK.nat qw)<|mv Y<|lE h λgw lY h=>RT.shr .none _ Y Y T (by decide) (Dz (k:=.u64) (a:=x1) (q:=32) (s:=32) Y lY)<|lE h λiQ o6 h=>cv _ Y (UK.nat o6)<|RT.wG (l:=[ke,iQ]) (e:=aX) .none hN (.one Y (.one Y (.nil))) T Y Y Y Y Y Y<|bI (cs:=[_,_]) (cs':=[ay x0,nw N (slc 1 (List.map aX [ke,iQ]))]) (.one Y (.one Y (.nil))) ⟨aq,aq,ak⟩ ?_
 refine so Y Y Y<|dn<|bf ?_
 obtain rfl:=O h
 exact RZ (.agg Y Y (.k2 Y Y) Y (.nil))
 refine cT<|sr<|mv Y<|mv Y<|lE (V h) λdL iN h=>cv _ Y (UK.nat iN)<|RT.wG (l:=[dL]) (e:=aX) .none hN (.one Y (.nil)) T Y Y Y Y Y Y<|bI (cs:=[_,_]) (cs':=[ay x0,nw N (slc 1 (List.map aX [dL]))]) (.one Y (.one Y (.nil))) ⟨aq,aq,ak⟩<|so Y Y Y<|dn<|bf<|bA.r<|aV.r ?_
 obtain rfl:=O h
 exact RZ (.agg Y Y (.k2 Y Y) Y (.nil))
 refine cT<|sr<|bI (cs:=[_,_]) (cs':=[ay false,nw N au]) (.nil) ⟨aq,bw,ak⟩<|so Y Y Y<|dn<|bf<|bA.r<|aV.r ?_
 obtain rfl:=O (V h)
 exact RZ (.agg Y Y (.k2 Y Y) Y (.nil))
theorem iF{x0:List Nat}{r:Nat}(h:dB x0=some r):Pure af 115 [slc 1 (List.map aX x0)] (.v (.int .u64 ((r:Nat):Int))):=by
 refine bj Tryz.func115 Y (ae Y) (λdm M vs hvs=>?_)
 unfold dB at h
 refine sr<|ag Y<|dn<|qq<|sr<|mv Y<|lE h λx4 h4 h=>ln Y h4<|dn<|bh<|sr<|lE h λx6 h6 h=>eq _ Y Y (zF (p:=x4) (q:=0) h6)<|ag Y<|dn ?_
 cases x6
 refine cF<|sr<|lE (F h) λx8 h8 h=>eq _ Y Y (zF (p:=x4) (q:=1) h8)<|ag Y<|dn ?_
 cases x8
 refine cF<|bu<|bA.n<|aV.n<|qq<|aZ mixed<|mv Y<|bE (F h) λdW jc h=>ix Y Y jc<|lr Y Y<|lE h λfy jo h=>cv _ Y (UK.nat jo)<|mv Y<|bE h λeI jP h=>ix Y Y jP<|lr Y Y<|lE h λke qw h=>cv _ Y (UK.nat qw)<|lE h λgO mZ h=>RT.shl .none _ Y Y T (by decide) (UK.shl (a:=ke) (q:=32) (s:=32) Y mZ)<|lE h λgw lY h=>RT.or .none _ Y Y T (UK.or (a:=fy) (b:=gO) lY) ?_
 refine ag Y ?_
 refine RT.done ⟨by kernel_rfl,?_⟩
 refine aV.n<|bf ?_
 obtain rfl:=O h
 exact R1 Y
 refine cT<|sr<|mv Y<|bE (V h) λdP gA h=>ix Y Y gA<|lr Y Y<|lE h λcP fz h=>cv _ Y (UK.nat fz)<|ag Y<|dn<|bf<|bA.r<|aV.r ?_
 obtain rfl:=O h
 exact R1 Y
 refine cT<|sr<|ag Y<|dn<|bf<|bA.r<|aV.r ?_
 obtain rfl:=O (V h)
 exact R1 Y
theorem gh{x0:List Nat}{x1:List Nat}{r:Int}(h:cO x0 x1=some r):Pure af 113 [slc 1 (List.map aX x0),slc 1 (List.map aX x1)] (ax r):=by
 refine bj Tryz.func113 Y (ae Y) (λdm M vs hvs=>?_)
 unfold cO at h
 refine sr<|ag Y<|dn<|qq<|sr<|mv Y<|lE h λx7 h7 h=>ln Y h7<|mv Y<|lE h λx9 h9 h=>ln Y h9<|lE h λdP gA h=>ne _ Y Y (HQ (p:=x7) (q:=x9) gA)<|dn ?_
 cases dP
 refine fs<|qq<|sr<|mv Y<|lE (F h) λdS jb h=>ln Y jb<|lE h λeI jP h=>sb _ Y Y jP<|ag Y<|dn<|bE h λe6 AX jX=>?_
 refine bL (λ(H9:Unit)=>AS.cq 41 [] [] []) (λH9=>.inl H9=e6) ?_ (λH9 AY=>?_)
 refine bh ?_
 refine bM AX (λs6=>AS.cq 41 [(0,.sv (slc 1 (List.map aX x0))),(1,.sv (slc 1 (List.map aX x1))),(5,ah s6)] [] []) (wR []) (λnG y6 G6 h AZ wU=>?_)
 try dsimp only
 refine qq<|sr<|mv Y<|lE h λke qw h=>ge _ Y Y qw<|dn ?_
 cases ke
 refine cF<|bO<|aV.x<|aV.x<|bA.x<|aV.n ?_
 obtain rfl:=O (F h)
 exact⟨(),wU _ Y,wR []⟩
 refine cT<|bu<|aV.n<|qq<|bh<|qq<|aZ mixed<|mv Y<|mv Y<|bE (V h) λkf oE h=>ix Y Y oE<|lr Y Y<|mv Y<|mv Y<|bE h λir mI h=>ix Y Y mI<|lr Y Y<|lE h λoh yY h=>ne _ Y Y (YE (p:=kf) (q:=ir) yY) ?_
 refine RT.done ⟨by kernel_rfl,?_⟩
 refine aV.n ?_
 cases oh
 refine cF<|bu<|bA.n<|aV.n<|aW<|mv Y<|lE (F h) λgw lY h=>sb _ Y Y lY<|ag Y<|RT.done ?_
 obtain rfl:=O h
 exact aV.n ⟨gw,AZ _ Y,wR []⟩
 refine cT<|qq<|qq<|aZ mixed<|mv Y<|mv Y<|bE (V h) λnQ sW h=>ix Y Y sW<|lr Y Y<|mv Y<|mv Y<|bE h λwH FU h=>ix Y Y FU<|lr Y Y<|lE h λnY u0 h=>ls _ Y Y (YF (p:=nQ) (q:=wH) u0) ?_
 refine RT.done ⟨by kernel_rfl,?_⟩
 refine aV.n ?_
 cases nY
 refine fs<|sr<|ag Y<|dn<|bf<|bA.r<|aV.r ?_
 obtain rfl:=O (F h)
 have Mq:=wU _ Y
 subst Mq
 refine aV.r<|bA.r<|aV.r<|aV.r ?_
 obtain rfl:=O jX
 exact R1 Y
 refine cT<|sr<|ag Y<|dn<|bf<|aV.r<|bA.r<|aV.r ?_
 obtain rfl:=O (V h)
 have Mq:=wU _ Y
 subst Mq
 refine aV.r<|bA.r<|aV.r<|aV.r ?_
 obtain rfl:=O jX
 exact R1 Y
 subst AY
 try dsimp only
 refine aV.n<|sr<|ag Y<|dn<|bf ?_
 obtain rfl:=O jX
 exact R1 Y
 refine cT<|qq<|sr<|mv Y<|lE (V h) λcP fz h=>ln Y fz<|mv Y<|lE h λdW jc h=>ln Y jc<|lE h λdL iN h=>ls _ Y Y iN<|dn ?_
 cases dL
 refine fs<|sr<|ag Y<|dn<|bf<|aV.r ?_
 obtain rfl:=O (F h)
 exact R1 Y
 refine cT<|sr<|ag Y<|dn<|bf<|aV.r<|aV.r ?_
 obtain rfl:=O (V h)
 exact R1 Y
theorem pD{x0:List Nat}{x1:List Nat}(N:Nat){r:List Nat}(h:eC x0 x1=some r):dU af 147 N [slc 1 (List.map aX x0),slc 1 (List.map aX x1)] (nw N (slc 1 (List.map aX r))):=by
 refine bP Tryz.func147 Y (ae Y) (λdm M vs hN hvs=>?_)
 unfold eC at h
 refine sr<|aI Y (bw (N:=N) (n:=1) (e:=aX))<|dn<|sr<|mv Y<|lE h λdP gA h=>ln Y gA<|mv Y<|lE h λcP fz h=>ln Y fz<|lE h λja lW h=>RT.max .none _ Y Y T (OV (p:=dP) (q:=cP) lW)<|lE h λdW jc h=>ad _ Y Y jc<|bE h λdL iN h=>RT.Jh (e:=aX) .none Y Y T Y T iN<|RT.alloc .none T Y Y<|RT.qP (cells:=[_]) .none Y Y Y Y T Y<|dn<|sr ?_
 refine RT.AE .none (eD 0) Y ⟨Y,ak⟩ T Y Y<|RT.alloc .none T Y Y<|RT.me (cells:=[_]) .none (s:=.fT _ _) Y Y Y T Y<|dn<|qq<|sr<|mv Y<|mv Y<|cl (sO x0 x1) ⟨Y,Y,ak⟩<|dn<|bh<|bE h λe7 WV Pa=>?_
 obtain⟨Ky,WW,WX,WY⟩:=qt WV
 refine nX (sP x0 x1) (λ_ _ _ _ _=>trivial) Y (λk=>AS.cq 35 [(5,.ptr 5 0),(6,.ptr 6 0),(19,.sv (qQ 169 [ref [slc 1 (List.map aX x0)],ref [slc 1 (List.map aX x1)]]))] [(6,⟨141,[.fT 157 [.box 16]]⟩),(16,⟨104,[.sv (.v (.int .u64 (((Ky k).1:Nat):Int)))]⟩),(5,⟨32,[.row 302]⟩)] [(302,TR 106 1 aX (Ky k).2)]) [6,16,5] Y (λ_=>⟨Y,Y⟩) (vi Y) (λ_=>Y) (vk Y) (by(try dsimp only);rw[WW];(try dsimp only);exact c6 (λi=>bif Nat.beq i 302 then 15 else i) Y Y Y Y Y ⟨.ptr,.ptr,.sv aq,ak⟩ ⟨⟨_,Y,⟨.fT,ak⟩⟩,⟨_,Y,⟨.sv aq,ak⟩⟩,⟨_,Y,⟨.row Y,ak⟩⟩,ak⟩ ⟨⟨_,Y,cH.refl _⟩,ak⟩ (λi hi=>by rw[cz (show i≠302 by omega)];rfl)) (λk hk D hD=>?_) ?_
 have h:=WX k hk
 obtain⟨sk,Tt⟩:∃q,Ky k=q:=⟨_,Y⟩
 rw[Tt]at h⊢
 obtain⟨wI,jh⟩:=sk
 dsimp only[AS.OR,uR]
 try dsimp only at h
 refine lE h λZ1 aam h=>?_
 rw[aam]
 refine lE h λZ2 aan h=>?_
 rw[aan]
 refine sr<|ag Y<|dn<|aW<|ag Y<|RT.done ?_
 refine aV.n ⟨Y,?_⟩
 dsimp only[AS.Dv]
 refine bh<|aZ mixed<|RT.ku .none (s:=.row _) Y Y Y T<|RT.ku .none (s:=.fT _ _) Y Y Y T<|mv Y<|mv Y<|lE h λiS pW h=>ad _ Y Y (UK.add (a:=Z1) (b:=Z2) pW) ?_
 obtain⟨⟨iL,k9⟩,o4,h⟩:=bS h
 refine cB (cg o4) 16 Y ⟨Y,ak⟩<|bl (l:=[iL]) (e:=aX) (.one Y (.nil)) Y Y Y Y Y Y<|bE h λir mI h=>aR (k:=[iL]) (e:=aX) Y Y Y mI<|RT.qP (cells:=[_]) .none Y Y Y Y T Y ?_
 refine RT.done ⟨by kernel_rfl,?_⟩
 refine bA.n ?_
 replace h:=Option.some.inj h
 refine⟨ak,Y,Y,?_⟩
 try dsimp only
 rw[←h]
 try dsimp only
 exact c6 (λi=>bif Nat.beq i 302 then 29 else i) Y Y Y Y Y ⟨.ptr,.ptr,.sv aq,ak⟩ ⟨⟨_,Y,⟨.fT,ak⟩⟩,⟨_,Y,⟨.sv aq,ak⟩⟩,⟨_,Y,⟨.row Y,ak⟩⟩,ak⟩ ⟨⟨_,Y,cH.refl _⟩,ak⟩ (λi hi=>by rw[cz (show i≠302 by omega)];rfl)
 rw[WY]
 obtain⟨wI,jh⟩:=e7
 try dsimp only
 refine bA.n<|aV.n<|qq<|aZ mixed<|RT.ku .none (s:=.row _) Y Y Y T<|RT.ku .none (s:=.fT _ _) Y Y Y T ?_
 obtain⟨⟨ji,k11⟩,o7,Pa⟩:=bS Pa
 refine cB (cg o7) 16 Y ⟨Y,ak⟩<|bl (l:=[ji]) (e:=aX) (.one Y (.nil)) Y Y Y Y Y Y<|bE Pa λnQ sW Pa=>RT.Ww (k:=[ji]) (e:=aX) .none hN (λ_ h=>h) Y Y Y T Y T sW<|ag Y ?_
 refine RT.done ⟨by kernel_rfl,?_⟩
 refine aV.n<|bf ?_
 obtain rfl:=O Pa
 exact R1 Y
theorem kW{x0:List Nat}{x1:List Nat}(N:Nat){r:List Nat}(h:cX x0 x1=some r):dU af 148 N [slc 1 (List.map aX x0),slc 1 (List.map aX x1)] (nw N (slc 1 (List.map aX r))):=by
 refine bP Tryz.func148 Y (ae Y) (λdm M vs hN hvs=>?_)
 unfold cX at h
 refine sr<|aI Y (bw (N:=N) (n:=1) (e:=aX))<|dn<|sr<|mv Y<|lE h λdP gA h=>ln Y gA<|bE h λfN kO h=>RT.Jh (e:=aX) .none Y Y T Y T kO<|RT.alloc .none T Y Y<|RT.qP (cells:=[_]) .none Y Y Y Y T Y<|dn<|sr<|RT.AE .none (eD 1) Y ⟨Y,ak⟩ T Y Y<|RT.alloc .none T Y Y<|RT.me (cells:=[_]) .none (s:=.fT _ _) Y Y Y T Y<|dn<|qq<|sr<|mv Y ?_
 refine mv Y<|cl (sO x0 x1) ⟨Y,Y,ak⟩<|dn<|bh<|bE h λe7 WV Pa=>?_
 obtain⟨Ky,WW,WX,WY⟩:=qt WV
 refine nX (sP x0 x1) (λ_ _ _ _ _=>trivial) Y (λk=>AS.cq 28 [(5,.ptr 5 0),(6,.ptr 6 0),(15,.sv (qQ 169 [ref [slc 1 (List.map aX x0)],ref [slc 1 (List.map aX x1)]]))] [(6,⟨141,[.fT 157 [.box 12]]⟩),(12,⟨104,[.sv (.v (.int .u64 (((Ky k).1:Nat):Int)))]⟩),(5,⟨32,[.row 302]⟩)] [(302,TR 106 1 aX (Ky k).2)]) [6,12,5] Y (λ_=>⟨Y,Y⟩) (vi Y) (λ_=>Y) (vk Y) (by(try dsimp only);rw[WW];(try dsimp only);exact c6 (λi=>bif Nat.beq i 302 then 11 else i) Y Y Y Y Y ⟨.ptr,.ptr,.sv aq,ak⟩ ⟨⟨_,Y,⟨.fT,ak⟩⟩,⟨_,Y,⟨.sv aq,ak⟩⟩,⟨_,Y,⟨.row Y,ak⟩⟩,ak⟩ ⟨⟨_,Y,cH.refl _⟩,ak⟩ (λi hi=>by rw[cz (show i≠302 by omega)];rfl)) (λk hk D hD=>?_) ?_
 have h:=WX k hk
 obtain⟨sk,Tt⟩:∃q,Ky k=q:=⟨_,Y⟩
 rw[Tt]at h⊢
 obtain⟨Ab,jh⟩:=sk
 dsimp only[AS.OR,uR]
 try dsimp only at h
 refine lE h λZ3 aao h=>?_
 rw[aao]
 refine lE h λZ4 aap h=>?_
 rw[aap]
 refine sr<|ag Y<|dn<|aW<|ag Y<|RT.done ?_
 refine aV.n ⟨Y,?_⟩
 dsimp only[AS.Dv]
 refine bh<|aZ mixed<|RT.ku .none (s:=.row _) Y Y Y T<|RT.ku .none (s:=.fT _ _) Y Y Y T<|mv Y<|mv Y<|lE h λgw lY h=>sb _ Y Y (UK.sub (a:=4294967295) (b:=Z4) lY)<|lE h λiQ o6 h=>ad _ Y Y (UK.add (a:=Z3) (b:=gw) o6) ?_
 obtain⟨⟨gV,k9⟩,o5,h⟩:=bS h
 refine cB (cg o5) 12 Y ⟨Y,ak⟩<|bl (l:=[gV]) (e:=aX) (.one Y (.nil)) Y Y Y Y Y Y<|bE h λiS pW h=>aR (k:=[gV]) (e:=aX) Y Y Y pW<|RT.qP (cells:=[_]) .none Y Y Y Y T Y ?_
 refine RT.done ⟨by kernel_rfl,?_⟩
 refine bA.n ?_
 replace h:=Option.some.inj h
 refine⟨ak,Y,Y,?_⟩
 try dsimp only
 rw[←h]
 try dsimp only
 exact c6 (λi=>bif Nat.beq i 302 then 26 else i) Y Y Y Y Y ⟨.ptr,.ptr,.sv aq,ak⟩ ⟨⟨_,Y,⟨.fT,ak⟩⟩,⟨_,Y,⟨.sv aq,ak⟩⟩,⟨_,Y,⟨.row Y,ak⟩⟩,ak⟩ ⟨⟨_,Y,cH.refl _⟩,ak⟩ (λi hi=>by rw[cz (show i≠302 by omega)];rfl)
 rw[WY]
 obtain⟨Ab,jh⟩:=e7
 try dsimp only
 refine bA.n<|aV.n<|sr<|RT.ku .none (s:=.row _) Y Y Y T<|an (s:=.row _) Y<|dn<|pC (i:=302) (E1:=106) (n:=1) (e:=aX) (l:=jh) hN (λ_ h=>h) Y<|bf ?_
 obtain rfl:=O Pa
 exact R1 Y
theorem wV{x0:List Nat}{x1:List Nat}(N:Nat){r:List Nat}(h:fO x0 x1=some r):dU af 117 N [slc 1 (List.map aX x0),slc 1 (List.map aX x1)] (nw N (slc 1 (List.map aX r))):=by
 refine bP Tryz.func117 Y (ae Y) (λdm M vs hN hvs=>?_)
 unfold fO at h
 refine sr<|aI Y (bw (N:=N) (n:=1) (e:=aX))<|dn<|sr<|mv Y<|lE h λcP fz h=>ln Y fz<|mv Y<|lE h λdW jc h=>ln Y jc<|lE h λdL iN h=>ad _ Y Y iN<|bE h λfy jo h=>RT.sx (n:=1) (e:=aX) .none Y Y T Y T (by rfl) (by decide) (by exact⟨aq,ak⟩) jo<|an (s:=.row _) Y<|dn<|qq<|sr<|mv Y<|lE h λeI jP h=>ln Y jP ?_
 refine mv Y<|dn<|bE h λe28 aaq aar=>?_
 refine bL (λ(vz:(List Nat))=>AS.cq 63 [(5,.row 16)] [] [(16,TR 106 1 aX vz)]) (λvz=>vz=e28) ?_ (λvz aas=>?_)
 refine bh ?_
 refine bM aaq (λVx=>AS.cq 63 [(1,.sv (slc 1 (List.map aX x1))),(5,.row 16),(17,.sv (slc 1 (List.map aX x0))),(18,ah eI),(19,ah Vx.1)] [] [(16,TR 106 1 aX Vx.2)]) (wR []) (λVx y28 G28 h aat aau=>?_)
 obtain⟨oD,DI⟩:=Vx
 try dsimp only
 refine sr<|lE h λke qw h=>ls _ Y Y qw<|dn<|qq ?_
 cases ke
 refine cF<|bO<|aV.x<|aV.x<|bA.x<|aV.n ?_
 obtain rfl:=O (F h)
 exact⟨DI,aau _ Y,wR []⟩
 refine cT<|bu<|aV.n<|qq<|bh<|sr<|mv Y<|bE (V h) λgw lY h=>ix Y Y lY<|lr Y Y<|ag Y<|ag Y<|dn<|sr<|RT.AE .none (eD 0) Y ⟨Y,ak⟩ T Y Y<|an (s:=.fT _ _) Y<|dn<|qq<|sr<|mv Y<|lE h λiS pW h=>ln Y pW<|mv Y<|dn<|bE h λZ7 aav ym=>?_
 refine bL (λ(Kz:Nat×(List Nat))=>AS.cq 63 [(1,.sv (slc 1 (List.map aX x1))),(5,.row 16),(6,ah oD),(8,.fT 157 [.box 24]),(17,.sv (slc 1 (List.map aX x0))),(18,ah eI),(19,ah oD)] [(24,⟨104,[.sv (.v (.int .u64 ((Kz.1:Nat):Int)))]⟩)] [(16,TR 106 1 aX Kz.2)]) (λKz=>Kz=Z7) ?_ (λKz aaw=>?_)
 refine bh ?_
 refine bM aav (λTd=>AS.cq 63 [(1,.sv (slc 1 (List.map aX x1))),(5,.row 16),(6,ah oD),(7,.sv (.v (.int .u32 ((gw:Nat):Int)))),(8,.fT 157 [.box 24]),(17,.sv (slc 1 (List.map aX x0))),(18,ah eI),(19,ah oD),(25,.sv (slc 1 (List.map aX x1))),(26,ah iS),(27,ah Td.1)] [(24,⟨104,[.sv (.v (.int .u64 ((Td.2.1:Nat):Int)))]⟩)] [(16,TR 106 1 aX Td.2.2)]) (wR []) (λTd y38 G38 h aax aay=>?_)
 obtain⟨yd,wJ,vw⟩:=Td
 try dsimp only
 refine sr<|lE h λnR vD h=>ls _ Y Y vD<|dn<|qq ?_
 cases nR
 refine cF<|bO<|aV.x<|aV.x<|bA.x<|aV.n ?_
 obtain rfl:=O (F h)
 exact⟨(wJ,vw),aay _ Y,wR []⟩
 refine cT<|bu<|aV.n<|qq<|bh<|sr<|mv Y<|bE (V h) λye Co h=>ix Y Y Co<|lr Y Y<|ag Y<|ag Y<|dn<|aW<|mo (s:=.row _) Y<|mv Y<|mv Y<|lE h λr6 A0 h=>ad _ Y Y A0<|mo (s:=.fT _ _) Y<|mo (s:=.row _) Y<|mv Y<|mv Y<|lE h λnY u0 h=>ad _ Y Y u0<|bE h λxP Ia h=>iR Y Y Y Ia ?_
 refine bE h λr7 DP h=>lR Y Y DP Y<|lE h λHA Oq h=>cv _ Y (UK.nat Oq)<|mv Y<|lE h λzH KA h=>cv _ Y (UK.nat KA)<|mv Y<|lE h λsE zK h=>cv _ Y (UK.nat zK)<|lE h λyf h48 h=>RT.mul .none _ Y Y T (UK.mul (a:=zH) (b:=sE) h48)<|lE h λWx Tu h=>ad _ Y Y (UK.add (a:=HA) (b:=yf) Tu) ?_
 obtain⟨⟨uW,Z5⟩,Ib,h⟩:=bS h
 refine cB (cg Ib) 24 Y ⟨Y,ak⟩<|bE h λQV Tv h=>iR Y Y Y Tv<|bE h λZ6 WZ h=>sR uW Y Y Y Y WZ<|RT.done<|bA.n<|aV.n<|aW<|lE h λyV FV h=>ad _ Y Y FV<|mv Y<|RT.done ?_
 obtain rfl:=O h
 exact aV.n ⟨(yV,Z5,Z6),aax _ Y,wR []⟩
 subst aaw
 obtain⟨FE,HT⟩:=Kz
 try dsimp only
 refine aV.n<|aW<|mo (s:=.row _) Y<|mv Y<|mv Y<|lE ym λQW Tw ym=>ln Y Tw<|lE ym λO8 W0 ym=>ad _ Y Y W0<|mo (s:=.fT _ _) Y ?_
 obtain⟨⟨L9,k45⟩,W2,ym⟩:=bS ym
 refine cB (cg W2) 24 Y ⟨Y,ak⟩<|bE ym λKt Rc ym=>iR Y Y Y Rc<|bE ym λZ8 W4 ym=>sR L9 Y Y Y Y W4<|RT.done<|bA.n<|aV.n<|aW<|lE ym λLh W5 ym=>ad _ Y Y W5<|mv Y<|RT.done ?_
 obtain rfl:=O ym
 exact aV.n ⟨(Lh,Z8),aat _ Y,wR []⟩
 subst aas
 try dsimp only
 refine aV.n<|sr<|mo (s:=.row _) Y<|an (s:=.row _) Y<|dn<|pC (i:=16) (E1:=106) (n:=1) (e:=aX) (l:=vz) hN (λ_ h=>h) Y<|bf ?_
 obtain rfl:=O aar
 exact R1 Y
end
section
open Go.Fw Go.Fw.Z Go.RowKit
theorem wW{x0:List Nat}{x1:Nat}{r:Nat×List Nat}(h:ig x0 x1=some r):HM af 158 [.row 1000,.sv (.v (.int .u64 ((x1:Nat):Int)))] (TR 106 1 aX x0) (.sv (.v (.int .u64 ((r.1:Nat):Int)))) (List.flatMap aX r.2):=by
 refine vh Tryz.func158 Y (ae Y) Y Y (λdm M v0=>?_)
 unfold ig at h
 refine sr<|ag Y<|dn<|sr<|ag Y<|dn<|qq<|sr<|mo (s:=.row _) Y<|lE h λx9 h9 h=>lL Y Y h9<|lE h λdP gA h=>sb _ Y Y gA<|ag Y<|dn<|bE h λe8 DQ vE=>?_
 refine bL (λ(CV:Nat×(List Nat))=>AS.cq 34 [(5,.sv (.v (.int .u64 ((CV.1:Nat):Int))))] [] [(1000,TR 106 1 aX CV.2)]) (λCV=>CV=e8) ?_ (λCV DR=>?_)
 refine bh ?_
 refine bM DQ (λs8=>AS.cq 34 [(0,.row 1000),(1,.sv (.v (.int .u64 ((x1:Nat):Int)))),(5,.sv (.v (.int .u64 ((s8.1:Nat):Int)))),(6,ah s8.2.1)] [] [(1000,TR 106 1 aX s8.2.2)]) (wR []) (λs8 y8 G8 h DS DT=>?_)
 obtain⟨Ma,FF,qT⟩:=s8
 try dsimp only
 refine qq<|sr<|mv Y<|lE h λcP fz h=>ge _ Y Y fz<|dn ?_
 cases cP
 refine cF<|bO<|aV.x<|aV.x<|bA.x<|aV.n ?_
 obtain rfl:=O (F h)
 exact⟨(Ma,qT),DT _ Y,wR []⟩
 refine cT<|bu<|aV.n<|qq<|bh<|sr<|mv Y<|lE (V h) λfy jo h=>RT.shl .none _ Y Y T (by decide) (UK.shl (a:=Ma) (q:=32) (s:=32) Y jo)<|mo (s:=.row _) Y<|mv Y<|bE h λkN lX h=>iR Y Y Y lX<|bE h λke qw h=>lR Y Y qw Y<|lE h λgO mZ h=>cv _ Y (UK.nat mZ)<|lE h λgw lY h=>RT.or .none _ Y Y T (UK.or (a:=fy) (b:=gO) lY)<|ag Y<|dn<|sr<|mo (s:=.row _) Y ?_
 refine mv Y<|mv Y<|mv Y<|bE h λiL o4 h=>RT.quo .none _ Y Y T (ZN o4) (UK.quo o4)<|lE h λnR vD h=>cv _ Y (UK.nat vD)<|bE h λir mI h=>iR Y Y Y mI<|bE h λyg qx h=>sR nR Y Y Y Y qx<|dn<|aW<|mv Y<|mv Y<|bE h λji o7 h=>RT.rem .none _ Y Y T (YG o7) (OW o7)<|ag Y<|RT.done<|bA.n<|aV.n<|aW<|mv Y<|lE h λdW jc h=>sb _ Y Y jc ?_
 refine ag Y<|RT.done ?_
 obtain rfl:=O h
 exact aV.n ⟨(ji,dW,yg),DS _ Y,wR []⟩
 subst DR
 obtain⟨Wy,Ad⟩:=CV
 try dsimp only
 refine aV.n<|sr<|mv Y<|ag Y<|dn<|bf<|bE vE λ_ hle vE=>?_
 obtain rfl:=O vE
 exact⟨.inr Y,.sv (nW (.tmp Y (.nil)) aq),(by show _=mE.live ⟨106,1,x0.length,List.flatMap aX Ad⟩;rw[←mh hle];rfl)⟩
theorem vF{x0:List Nat}{x1:Nat}{r:List Nat}(h:fe x0 x1=some r):Pure af 166 [slc 1 (List.map aX x0),.v (.int .u64 ((x1:Nat):Int))] (slc 1 (List.map aX r)):=by
 refine bj Tryz.func166 Y (ae Y) (λdm M vs hvs=>?_)
 unfold fe at h
 refine sr<|aI Y (aA (n:=1) (e:=aX))<|dn<|sr<|RT.AE .none (eD 0) Y ⟨Y,ak⟩ T Y Y<|an (s:=.fT _ _) Y<|dn<|sr<|mv Y<|lE h λfN kO h=>ln Y kO<|lE h λcP fz h=>ad _ Y Y fz<|bE h λja lW h=>RT.Jh (e:=aX) .none Y Y T Y T lW<|an (s:=.row _) Y<|dn<|qq<|sr<|mv Y<|lE h λdL iN h=>ln Y iN ?_
 refine mv Y<|dn<|bE h λe8 DQ vE=>?_
 refine bL (λ(CV:Nat×(List Nat))=>AS.cq 35 [(5,.fT 157 [.box 9]),(6,.row 302)] [(9,⟨104,[.sv (.v (.int .u64 ((CV.1:Nat):Int)))]⟩)] [(302,TR 106 1 aX CV.2)]) (λCV=>CV=e8) ?_ (λCV DR=>?_)
 refine bh ?_
 refine bM DQ (λs8=>AS.cq 35 [(1,.sv (.v (.int .u64 ((x1:Nat):Int)))),(5,.fT 157 [.box 9]),(6,.row 302),(14,.sv (slc 1 (List.map aX x0))),(15,ah dL),(16,ah s8.1)] [(9,⟨104,[.sv (.v (.int .u64 ((s8.2.1:Nat):Int)))]⟩)] [(302,TR 106 1 aX s8.2.2)]) (c6 (λi=>bif Nat.beq i 302 then 13 else i) Y Y Y Y Y ⟨.sv aq,.fT,.row Y,.sv aq,.sv aq,.sv aq,ak⟩ ⟨⟨_,Y,⟨.sv aq,ak⟩⟩,ak⟩ ⟨⟨_,Y,cH.refl _⟩,ak⟩ (λi hi=>by rw[cz (show i≠302 by omega)];rfl)) (λs8 y8 G8 h DS DT=>?_)
 obtain⟨wK,qV,jh⟩:=s8
 try dsimp only
 refine sr<|lE h λdS jb h=>ls _ Y Y jb<|dn<|qq ?_
 cases dS
 refine cF<|bO<|aV.x<|aV.x<|bA.x<|aV.n ?_
 obtain rfl:=O (F h)
 exact⟨(qV,jh),DT _ Y,wR []⟩
 refine cT<|bu<|aV.n<|qq<|bh<|sr<|bE (V h) λeI jP h=>ix Y Y jP<|lr Y Y<|ag Y<|dn<|aW<|mo (s:=.row _) Y<|mo (s:=.fT _ _) Y<|mv Y<|lE h λiQ o6 h=>cv _ Y (UK.nat o6)<|mv Y<|lE h λkf oE h=>RT.shl .none _ Y Y T (Int.natCast_nonneg _) (UK.shl (a:=iQ) (q:=((x1:Nat):Int)) (s:=min x1 64) Y oE) ?_
 obtain⟨⟨iS,Te⟩,pW,h⟩:=bS h
 refine cB (cg pW) 9 Y ⟨Y,ak⟩<|bl (l:=[iS]) (e:=aX) (.one Y (.nil)) Y Y Y Y Y Y<|bE h λnR vD h=>aR (k:=[iS]) (e:=aX) Y Y Y vD<|an (s:=.row _) Y<|RT.done<|bA.n<|aV.n<|aW<|lE h λir mI h=>ad _ Y Y mI<|mv Y<|RT.done ?_
 obtain rfl:=O h
 exact aV.n ⟨(ir,Te,nR),DS _ Y,c6 (λi=>bif Nat.beq i 302 then 28 else i) Y Y Y Y Y ⟨.sv aq,.fT,.row Y,.sv aq,.sv aq,.sv aq,ak⟩ ⟨⟨_,Y,⟨.sv aq,ak⟩⟩,ak⟩ ⟨⟨_,Y,cH.refl _⟩,ak⟩ (λi hi=>by rw[cz (show i≠302 by omega)];rfl)⟩
 subst DR
 obtain⟨AP,Mb⟩:=CV
 try dsimp only
 refine aV.n<|sr<|mo (s:=.row _) Y<|mo (s:=.fT _ _) Y ?_
 obtain⟨⟨ji,Z9⟩,o7,vE⟩:=bS vE
 refine cB (cg o7) 9 Y ⟨Y,ak⟩<|bl (l:=[ji]) (e:=aX) (.one Y (.nil)) Y Y Y Y Y Y<|bE vE λnQ sW vE=>RT.S3 (k:=[ji]) (e:=aX) .none Y Y Y T Y T sW<|ag Y<|dn<|bf ?_
 obtain rfl:=O vE
 exact R1 Y
theorem uH{x0:List Nat}{x1:Nat}{r:List Nat}(h:iE x0 x1=some r):Kn af 166 [slc 1 (List.map aX x0),.v (.int .u64 ((x1:Nat):Int))] (TR 106 1 aX r):=by
 refine AB Tryz.func166 Y (ae Y) (λdm M vs hvs=>?_)
 unfold iE at h
 refine sr<|ag Y<|dn<|bX (ic 4 304 106 1 Y Y T)<|sr<|RT.AE .none (eD 0) Y ⟨Y,ak⟩ T Y Y<|an (s:=.fT _ _) Y<|dn<|sr<|mv Y<|lE h λfN kO h=>ln Y kO<|lE h λcP fz h=>ad _ Y Y fz<|bE h λja lW h=>RT.Jh (e:=aX) .none Y Y T Y T lW<|an (s:=.row _) Y<|dn<|qq<|sr<|mv Y<|lE h λdL iN h=>ln Y iN ?_
 refine mv Y<|dn<|bE h λe8 DQ vE=>?_
 refine bL (λ(CV:Nat×(List Nat))=>AS.cq 35 [(5,.fT 157 [.box 9]),(6,.row 306)] [(9,⟨104,[.sv (.v (.int .u64 ((CV.1:Nat):Int)))]⟩)] [(306,TR 106 1 aX CV.2)]) (λCV=>CV=e8) ?_ (λCV DR=>?_)
 refine bh ?_
 refine bM DQ (λs8=>AS.cq 35 [(1,.sv (.v (.int .u64 ((x1:Nat):Int)))),(5,.fT 157 [.box 9]),(6,.row 306),(14,.sv (slc 1 (List.map aX x0))),(15,ah dL),(16,ah s8.1)] [(9,⟨104,[.sv (.v (.int .u64 ((s8.2.1:Nat):Int)))]⟩)] [(306,TR 106 1 aX s8.2.2)]) (c6 (λi=>bif Nat.beq i 306 then 13 else i) Y Y Y Y Y ⟨.sv aq,.fT,.row Y,.sv aq,.sv aq,.sv aq,ak⟩ ⟨⟨_,Y,⟨.sv aq,ak⟩⟩,ak⟩ ⟨⟨_,Y,cH.refl _⟩,ak⟩ (λi hi=>by rw[cz (show i≠306 by omega)];rfl)) (λs8 y8 G8 h DS DT=>?_)
 obtain⟨wK,qV,pR⟩:=s8
 try dsimp only
 refine sr<|lE h λdS jb h=>ls _ Y Y jb<|dn<|qq ?_
 cases dS
 refine cF<|bO<|aV.x<|aV.x<|bA.x<|aV.n ?_
 obtain rfl:=O (F h)
 exact⟨(qV,pR),DT _ Y,wR []⟩
 refine cT<|bu<|aV.n<|qq<|bh<|sr<|bE (V h) λeI jP h=>ix Y Y jP<|lr Y Y<|ag Y<|dn<|aW<|mo (s:=.row _) Y<|mo (s:=.fT _ _) Y<|mv Y<|lE h λiQ o6 h=>cv _ Y (UK.nat o6)<|mv Y<|lE h λkf oE h=>RT.shl .none _ Y Y T (Int.natCast_nonneg _) (UK.shl (a:=iQ) (q:=((x1:Nat):Int)) (s:=min x1 64) Y oE) ?_
 obtain⟨⟨iS,Te⟩,pW,h⟩:=bS h
 refine cB (cg pW) 9 Y ⟨Y,ak⟩<|bl (l:=[iS]) (e:=aX) (.one Y (.nil)) Y Y Y Y Y Y<|bE h λnR vD h=>aR (k:=[iS]) (e:=aX) Y Y Y vD<|an (s:=.row _) Y<|RT.done<|bA.n<|aV.n<|aW<|lE h λir mI h=>ad _ Y Y mI<|mv Y<|RT.done ?_
 obtain rfl:=O h
 exact aV.n ⟨(ir,Te,nR),DS _ Y,c6 (λi=>bif Nat.beq i 306 then 28 else i) Y Y Y Y Y ⟨.sv aq,.fT,.row Y,.sv aq,.sv aq,.sv aq,ak⟩ ⟨⟨_,Y,⟨.sv aq,ak⟩⟩,ak⟩ ⟨⟨_,Y,cH.refl _⟩,ak⟩ (λi hi=>by rw[cz (show i≠306 by omega)];rfl)⟩
 subst DR
 obtain⟨AP,pS⟩:=CV
 try dsimp only
 refine aV.n<|sr<|mo (s:=.row _) Y<|mo (s:=.fT _ _) Y ?_
 obtain⟨⟨ji,Z9⟩,o7,vE⟩:=bS vE
 refine cB (cg o7) 9 Y ⟨Y,ak⟩<|bl (l:=[ji]) (e:=aX) (.one Y (.nil)) Y Y Y Y Y Y<|bE vE λnQ sW vE=>aR (k:=[ji]) (e:=aX) Y Y Y sW<|an (s:=.row _) Y<|dn<|bf ?_
 obtain rfl:=O vE
 exact⟨.inr Y,_,.tmp Y,Y⟩
theorem vG{x0:Nat}{r:Int}(h:gE x0=some r):Pure af 170 [.v (.int .u32 ((x0:Nat):Int))] (ax r):=by
 refine bj Tryz.func170 Y (ae Y) (λdm M vs hvs=>?_)
 unfold gE at h
 refine sr<|ag Y<|dn<|qq<|sr<|mv Y<|lE h λx4 h4 h=>ge _ Y Y (ZM (p:=65536) (q:=x0) h4)<|dn ?_
 refine bC h (λj2=>AS.cq 19 [(0,.sv (.v (.int .u32 ((j2.1:Nat):Int)))),(2,ah j2.2)] [] []) (λh=>?_) (λj2 h=>?_)
 cases x4
 exact fs<|⟨(x0,0),(F h),wR []⟩
 exact cT<|sr<|mv Y<|lE (V h) λx6 h6 h=>RT.shr .none _ Y Y T (by decide) (Dz (k:=.u32) (a:=x0) (q:=16) (s:=16) Y h6)<|ag Y<|dn<|aW<|ag Y<|dn<|⟨(x6,16),h,wR []⟩
 obtain⟨HU,O9⟩:=j2
 try dsimp only
 refine aV.n<|qq<|sr<|mv Y<|lE h λx8 h8 h=>ge _ Y Y (ZM (p:=256) (q:=HU) h8)<|dn ?_
 refine bC h (λj4=>AS.cq 19 [(0,.sv (.v (.int .u32 ((j4.1:Nat):Int)))),(2,ah j4.2)] [] []) (λh=>?_) (λj4 h=>?_)
 cases x8
 exact fs<|⟨(HU,O9),(F h),wR []⟩
 exact cT<|sr<|mv Y<|lE (V h) λdP gA h=>RT.shr .none _ Y Y T (by decide) (Dz (k:=.u32) (a:=HU) (q:=8) (s:=8) Y gA)<|ag Y<|dn<|aW<|mv Y<|lE h λcP fz h=>ad _ Y Y fz<|ag Y<|dn<|⟨(dP,cP),h,wR []⟩
 obtain⟨Wz,WA⟩:=j4
 try dsimp only
 refine aV.n<|sr<|mv Y<|mv Y<|lE h λdL iN h=>cv _ Y (UK.nat iN)<|bE h λfy jo h=>?_
 refine RT.six (l:=[0,1,2,2,3,3,3,3,4,4,4,4,4,4,4,4,5,5,5,5,5,5,5,5,5,5,5,5,5,5,5,5,6,6,6,6,6,6,6,6,6,6,6,6,6,6,6,6,6,6,6,6,6,6,6,6,6,6,6,6,6,6,6,6,7,7,7,7,7,7,7,7,7,7,7,7,7,7,7,7,7,7,7,7,7,7,7,7,7,7,7,7,7,7,7,7,7,7,7,7,7,7,7,7,7,7,7,7,7,7,7,7,7,7,7,7,7,7,7,7,7,7,7,7,7,7,7,7,8,8,8,8,8,8,8,8,8,8,8,8,8,8,8,8,8,8,8,8,8,8,8,8,8,8,8,8,8,8,8,8,8,8,8,8,8,8,8,8,8,8,8,8,8,8,8,8,8,8,8,8,8,8,8,8,8,8,8,8,8,8,8,8,8,8,8,8,8,8,8,8,8,8,8,8,8,8,8,8,8,8,8,8,8,8,8,8,8,8,8,8,8,8,8,8,8,8,8,8,8,8,8,8,8,8,8,8,8,8,8,8,8,8,8,8,8,8,8,8,8,8,8,8,8,8,8,8]) .none Y Y T jo ?_
 refine lE h λdS jb h=>cv _ Y jb<|lE h λeI jP h=>ad _ Y Y jP<|ag Y<|dn<|bf ?_
 obtain rfl:=O h
 exact R1 Y
theorem nZ{x0:Nat}{r:Int}(h:dc x0=some r):Pure af 165 [.v (.int .u32 ((x0:Nat):Int))] (ax r):=by
 refine bj Tryz.func165 Y (ae Y) (λdm M vs hvs=>?_)
 unfold dc at h
 refine sr<|ag Y<|dn<|sr<|mv Y<|bE h λx4 h4 h=>cl (vG h4) ⟨Y,ak⟩<|lE h λx5 h5 h=>sb _ Y Y h5<|ag Y<|dn<|bf ?_
 obtain rfl:=O h
 exact R1 Y
theorem wX{x0:List Nat}{o0:Nat}{n0:Nat}{x1:List Nat}{r:Nat×List Nat}(h:ij x0 o0 n0 x1=some r):HM af 167 [.nD 1000 (o0*1) n0,.sv (slc 1 (List.map aX x1))] (TR 106 1 aX x0) (.sv (.v (.int .u64 ((r.1:Nat):Int)))) (List.flatMap aX r.2):=by
 refine vh Tryz.func167 Y (ae Y) Y Y (λdm M v0=>?_)
 unfold ij at h
 refine sr<|ag Y<|dn<|sr<|mv Y<|lE h λcP fz h=>ln Y fz<|ag Y<|dn<|qq<|aZ mixed<|mo (s:=.nD _ _ _) Y<|mv Y<|bE h λdL iN h=>RT.Fx .none Y Y T iN<|bE h λfy jo h=>lR Y Y jo Y<|lE h λdS jb h=>cv _ Y (UK.nat jb)<|lE h λeI jP h=>RT.shl .none _ Y Y T (by decide) (UK.shl (a:=dS) (q:=32) (s:=32) Y jP)<|mo (s:=.nD _ _ _) Y ?_
 refine mv Y<|lE h λgO mZ h=>sb _ Y Y mZ<|bE h λgw lY h=>RT.Fx .none Y Y T lY<|bE h λiQ o6 h=>lR Y Y o6 Y<|lE h λgV o5 h=>cv _ Y (UK.nat o5)<|lE h λkf oE h=>RT.or .none _ Y Y T (UK.or (a:=eI) (b:=gV) oE)<|ag Y ?_
 refine RT.done ⟨by kernel_rfl,?_⟩
 refine aV.n<|qq<|aZ mixed<|mv Y<|mv Y<|lE h λnR vD h=>sb _ Y Y vD<|bE h λir mI h=>ix Y Y mI<|lr Y Y<|lE h λoh yY h=>cv _ Y (UK.nat yY)<|mv Y<|mv Y<|lE h λnQ sW h=>sb _ Y Y sW<|bE h λr6 A0 h=>ix Y Y A0<|lr Y Y<|lE h λuX FW h=>cv _ Y (UK.nat FW)<|ag Y<|ag Y ?_
 refine RT.done ⟨by kernel_rfl,?_⟩
 refine aV.n<|qq<|aZ mixed<|mv Y<|mv Y<|bE h λnY u0 h=>RT.quo .none _ Y Y T (ZN u0) (UK.quo u0)<|mv Y<|mv Y<|bE h λHA Oq h=>RT.rem .none _ Y Y T (YG Oq) (OW Oq)<|ag Y<|ag Y ?_
 refine RT.done ⟨by kernel_rfl,?_⟩
 refine aV.n<|qq<|bE h λAW sQ mY=>?_
 refine bL (λ(Ku:Nat)=>AS.cq 71 [(9,.sv (.v (.int .u64 ((Ku:Nat):Int))))] [] [(1000,TR 106 1 aX x0)]) (λKu=>Ku=AW) ?_ (λKu sS=>?_)
 refine bh ?_
 refine bM sQ (λsF=>AS.cq 71 [(0,.nD 1000 (o0*1) n0),(5,ah cP),(7,.sv (.v (.int .u64 ((oh:Nat):Int)))),(8,.sv (.v (.int .u64 ((uX:Nat):Int)))),(9,.sv (.v (.int .u64 ((sF.1:Nat):Int)))),(10,.sv (.v (.int .u64 ((sF.2:Nat):Int))))] [] [(1000,TR 106 1 aX x0)]) (wR []) (λsF Ra Rb h sV pV=>?_)
 obtain⟨Cj,CT⟩:=sF
 try dsimp only
 refine qq<|qq ?_
 refine bC h (λDO=>AS.cq 71 [(0,.nD 1000 (o0*1) n0),(5,ah cP),(7,.sv (.v (.int .u64 ((oh:Nat):Int)))),(8,.sv (.v (.int .u64 ((uX:Nat):Int)))),(9,.sv (.v (.int .u64 ((Cj:Nat):Int)))),(10,.sv (.v (.int .u64 ((CT:Nat):Int)))),(61,ai DO)] [] [(1000,TR 106 1 aX x0)]) (λh=>?_) (λHV h=>?_)
 refine aW<|mv Y<|lE h λzH KA h=>RT.shr .none _ Y Y T (by decide) (Dz (k:=.u64) (a:=Cj) (q:=32) (s:=32) Y KA)<|lE h λrN h46 h=>ne _ Y Y (YE (p:=zH) (q:=0) h46)<|mv Y<|bE h λMc cE h=>?_
 cases rN
 refine gm Y<|gm Y<|lE (F cE) λuW Ib cE=>RT.mul (.some Y Y) _ Y Y T (UK.mul (a:=Cj) (b:=uX) Ib)<|gm Y<|lE cE λyV FV cE=>RT.shl (.some Y Y) _ Y Y T (by decide) (UK.shl (a:=CT) (q:=32) (s:=32) Y FV)<|RT.move (.some Y Y) (s:=.nD _ _ _) Y T<|gm Y<|lE cE λDJ Pb cE=>RT.sub (.some Y Y) _ Y Y T Pb<|bE cE λQW Tw cE=>RT.Fx (.some Y Y) Y Y T Tw<|bE cE λO8 W0 cE=>RT.LY (.some Y Y) Y Y W0 Y T ?_
 refine lE cE λVz h58 cE=>RT.conv (.some Y Y) _ Y T (UK.nat h58)<|lE cE λL9 W2 cE=>RT.or (.some Y Y) _ Y Y T (UK.or (a:=yV) (b:=Vz) W2)<|lE cE λKt Rc cE=>gg _ Y Y (YF (p:=L9) (q:=uW) Rc) ?_
 obtain rfl:=O cE
 exact pF Y<|dn<|⟨Kt,h,wR []⟩
 obtain rfl:=O (V cE)
 exact ww<|ww<|ww<|ww<|ww<|ww<|ww<|ww<|ww<|ww<|ww<|ww<|ww<|pT Y<|dn<|⟨true,h,wR []⟩
 try dsimp only
 refine aV.n ?_
 cases HV
 refine cF<|bO<|aV.x<|aV.x<|bA.x<|aV.n ?_
 obtain rfl:=O (F h)
 exact⟨Cj,pV _ Y,wR []⟩
 refine cT<|bu<|aV.n<|bh<|sr<|mv Y<|lE (V h) λQX h63 h=>sb _ Y Y (UK.sub (a:=Cj) (b:=1) h63)<|ag Y<|dn<|sr<|mv Y<|mv Y<|lE h λJp Tx h=>ad _ Y Y (UK.add (a:=CT) (b:=oh) Tx)<|ag Y<|dn<|sr<|mv Y<|lE h λVy h68 h=>RT.shr .none _ Y Y T (by decide) (Dz (k:=.u64) (a:=Jp) (q:=32) (s:=32) Y h68)<|lE h λLi Pc h=>ne _ Y Y (YE (p:=Vy) (q:=0) Pc) ?_
 refine dn ?_
 cases Li
 refine cF<|bu<|bA.n ?_
 obtain rfl:=O (F h)
 exact aV.n ⟨(QX,Jp),sV _ Y,wR []⟩
 refine cT<|bO<|bA.y (by decide)<|aV.x<|bA.x<|aV.n ?_
 obtain rfl:=O (V h)
 exact⟨QX,pV _ Y,wR []⟩
 subst sS
 try dsimp only
 refine aV.n<|sr<|mv Y<|ag Y<|dn<|bf<|bE mY λ_ hle mY=>?_
 obtain rfl:=O mY
 exact⟨.inr Y,.sv (nW (.tmp Y (.nil)) aq),(by show _=mE.live ⟨106,1,x0.length,List.flatMap aX x0⟩;rw[←mh hle];rfl)⟩
theorem o8{x0:List Nat}{o0:Nat}{n0:Nat}{x1:List Nat}{x2:Nat}{r:Bool×List Nat}(h:cY x0 o0 n0 x1 x2=some r):HM af 168 [.nD 1000 (o0*1) n0,.sv (slc 1 (List.map aX x1)),.sv (.v (.int .u64 ((x2:Nat):Int)))] (TR 106 1 aX x0) (ai r.1) (List.flatMap aX r.2):=by
 refine vh Tryz.func168 Y (ae Y) Y Y (λdm M v0=>?_)
 unfold cY at h
 refine sr<|ag Y<|dn<|sr<|ag Y<|dn<|sr<|RT.AE .none (eD 0) Y ⟨Y,ak⟩ T Y Y<|an (s:=.fT _ _) Y<|dn<|qq<|sr<|mo (s:=.nD _ _ _) Y<|lE h λdW jc h=>RT.S8 .none Y T jc<|mv Y<|dn<|bE h λLj Ic kP=>?_
 refine bL (λ(yn:Nat×(List Nat))=>AS.cq 51 [(7,.sv (.v (.int .u64 ((yn.1:Nat):Int))))] [] [(1000,TR 106 1 aX yn.2)]) (λyn=>yn=Lj) ?_ (λyn Mr=>?_)
 refine bh ?_
 refine bM Ic (λzJ=>AS.cq 51 [(0,.nD 1000 (o0*1) n0),(1,.sv (slc 1 (List.map aX x1))),(2,.sv (.v (.int .u64 ((x2:Nat):Int)))),(7,.sv (.v (.int .u64 ((zJ.1:Nat):Int)))),(8,.fT 157 [.box 12]),(14,ah dW),(15,ah zJ.2.1)] [(12,⟨104,[.sv (.v (.int .u64 ((zJ.2.2.1:Nat):Int)))]⟩)] [(1000,TR 106 1 aX zJ.2.2.2)]) (wR []) (λzJ y12 G12 h Ie Ig=>?_)
 obtain⟨Kv,wL,DK,ue⟩:=zJ
 try dsimp only
 refine sr<|lE h λfy jo h=>ls _ Y Y jo<|dn<|qq ?_
 cases fy
 refine cF<|bO<|aV.x<|aV.x<|bA.x<|aV.n ?_
 obtain rfl:=O (F h)
 exact⟨(Kv,ue),Ig _ Y,wR []⟩
 refine cT<|bu<|aV.n<|qq<|bh<|sr<|mv Y<|ag Y<|dn<|sr<|ag Y<|dn<|qq<|sr<|mv Y<|mv Y<|lE (V h) λke qw h=>ln Y qw<|lE h λgO mZ h=>ls _ Y Y mZ<|dn ?_
 refine bC h (λj14=>AS.cq 51 [(0,.nD 1000 (o0*1) n0),(1,.sv (slc 1 (List.map aX x1))),(2,.sv (.v (.int .u64 ((x2:Nat):Int)))),(7,.sv (.v (.int .u64 ((Kv:Nat):Int)))),(8,.fT 157 [.box 12]),(9,ah wL),(10,.sv (.v (.int .u64 ((j14:Nat):Int)))),(14,ah dW),(15,ah wL)] [(12,⟨104,[.sv (.v (.int .u64 ((DK:Nat):Int)))]⟩)] [(1000,TR 106 1 aX ue)]) (λh=>?_) (λMd h=>?_)
 cases gO
 exact fs<|⟨0,(F h),wR []⟩
 exact cT<|aW<|mv Y<|mv Y<|bE (V h) λgV o5 h=>ix Y Y o5<|lr Y Y<|lE h λiS pW h=>cv _ Y (UK.nat pW)<|mv Y<|lE h λnR vD h=>RT.mul .none _ Y Y T (UK.mul (a:=iS) (b:=x2) vD)<|ag Y<|dn<|⟨nR,h,wR []⟩
 try dsimp only
 refine aV.n<|qq<|aZ mixed<|mo (s:=.nD _ _ _) Y<|mv Y<|bE h λoh yY h=>RT.Fx .none Y Y T yY<|bE h λji o7 h=>lR Y Y o7 Y<|lE h λmS va h=>cv _ Y (UK.nat va)<|mo (s:=.fT _ _) Y<|mv Y ?_
 obtain⟨⟨sG,k16⟩,yo,h⟩:=bS h
 refine cB (cg yo) 12 Y ⟨Y,ak⟩<|lE h λuX FW h=>cv _ Y (UK.nat FW)<|lE h λwH FU h=>sb _ Y Y (UK.sub (a:=mS) (b:=uX) FU)<|mv Y<|lE h λnY u0 h=>sb _ Y Y (UK.sub (a:=wH) (b:=Kv) u0)<|ag Y ?_
 refine RT.done ⟨by kernel_rfl,?_⟩
 refine aV.n<|sr<|mo (s:=.nD _ _ _) Y<|mv Y<|mv Y<|lE h λCk KB h=>cv _ Y (UK.nat KB)<|bE h λzH KA h=>RT.Fx .none Y Y T KA<|bE h λl18 W6 h=>sR Ck Y Y Y Y W6<|dn<|aW<|mv Y<|lE h λsE zK h=>RT.shr .none _ Y Y T (by decide) (Dz (k:=.u64) (a:=nY) (q:=63) (s:=63) Y zK)<|ag Y<|RT.done<|bA.n<|aV.n<|aW<|lE h λyf h48 h=>ad _ Y Y h48<|mv Y<|RT.done ?_
 obtain rfl:=O h
 exact aV.n ⟨(sE,yf,k16,l18),Ie _ Y,wR []⟩
 subst Mr
 obtain⟨Me,wM⟩:=yn
 try dsimp only
 refine aV.n<|sr<|mv Y<|lE kP λuW Ib kP=>ne _ Y Y (YE (p:=Me) (q:=0) Ib)<|ag Y<|dn<|bf<|bE kP λ_ hle kP=>?_
 obtain rfl:=O kP
 exact⟨.inr Y,.sv (nW (.tmp Y (.nil)) aq),(by show _=mE.live ⟨106,1,x0.length,List.flatMap aX wM⟩;rw[←mh hle];rfl)⟩
set_option maxHeartbeats 4000000 in
theorem yp{x0:List Nat}{x1:List Nat}(N:Nat){r:(List Nat)×(List Nat)}(h:iM x0 x1=some r):dU af 159 N [slc 1 (List.map aX x0),slc 1 (List.map aX x1)] (.BW [nw N (slc 1 (List.map aX r.1)),nw N (slc 1 (List.map aX r.2))]):=by
 refine bP Tryz.func159 Y (ae Y) (λdm M vs hN hvs=>?_)
 unfold iM at h
 refine sr<|ag Y<|ag Y<|dn<|bX (ic 4 306 106 1 Y Y T)<|bX (ic 5 308 106 1 Y Y T)<|sr<|mv Y<|lE h λdS jb h=>ln Y jb<|ag Y<|dn<|sr<|mv Y<|mv Y<|lE h λke qw h=>sb _ Y Y qw<|bE h λgO mZ h=>ix Y Y mZ<|lr Y Y<|bE h λiQ o6 h=>cl (nZ o6) ⟨Y,ak⟩ ?_
 refine lE h λgV o5 h=>cv _ Y (UK.conv o5)<|ag Y<|dn<|qq<|aZ mixed<|mv Y<|mv Y<|bE h λiL o4 h=>cN (uH o4) ⟨Y,Y,ak⟩<|mv Y<|mv Y<|bE h λye Co h=>cl (vF Co) ⟨Y,Y,ak⟩<|mv Y<|bE h λji o7 h=>RT.sw .none 0 dS Y Y ⟨_,Y⟩ T o7<|an (s:=.row _) Y<|ag Y ?_
 refine RT.done ⟨by kernel_rfl,?_⟩
 refine aV.n<|sr<|mv Y<|lE h λnQ sW h=>ln Y sW<|mv Y<|lE h λsG yo h=>sb _ Y Y yo<|lE h λuX FW h=>ad _ Y Y FW<|bE h λwH FU h=>RT.sx (n:=1) (e:=aX) .none Y Y T Y T (by rfl) (by decide) (by exact⟨aq,ak⟩) FU<|an (s:=.row _) Y<|dn<|qq<|sr<|mv Y<|lE h λnY u0 h=>ln Y u0<|mv Y<|lE h λr7 DP h=>sb _ Y Y DP ?_
 refine ag Y<|dn<|bE h λWI aaC Ty=>?_
 refine bL (λ(KC:(List Nat)×(List Nat))=>AS.cq 141 [(4,.row 38),(6,ah dS),(7,.sv (.v (.int .u64 ((gV:Nat):Int)))),(8,.row 27)] [] [(38,TR 106 1 aX KC.1),(27,TR 106 1 aX KC.2)]) (λKC=>KC=WI) ?_ (λKC aaD=>?_)
 refine bh ?_
 refine bM aaC (λTf=>AS.cq 141 [(4,.row 38),(6,ah dS),(7,.sv (.v (.int .u64 ((gV:Nat):Int)))),(8,.row 27),(9,.sv (slc 1 (List.map aX ji))),(10,ah Tf.1)] [] [(38,TR 106 1 aX Tf.2.1),(27,TR 106 1 aX Tf.2.2)]) (wR []) (λTf y36 G36 h aaE aaF=>?_)
 obtain⟨jk,sH,vA⟩:=Tf
 try dsimp only
 refine qq<|sr<|mv Y<|lE h λCk KB h=>ge _ Y Y KB<|dn ?_
 cases Ck
 refine cF<|bO<|aV.x<|aV.x<|bA.x<|aV.n ?_
 obtain rfl:=O (F h)
 exact⟨(sH,vA),aaF _ Y,wR []⟩
 refine cT<|bu<|aV.n<|qq<|bh<|sr<|mo (s:=.row _) Y<|mv Y<|mv Y<|mv Y<|lE (V h) λQV Tv h=>ad _ Y Y Tv<|lE h λyV FV h=>ad _ Y Y FV ?_
 obtain⟨⟨o53,n53⟩,W7,h⟩:=bS h
 refine RT.Wo .none jk yV Y Y ⟨_,Y⟩ ⟨_,Y⟩ T W7<|mv Y ?_
 obtain⟨⟨DJ,Tg⟩,Pb,h⟩:=bS h
 refine bE h λ_ aaG h=>cR (l:=vA) (l':=Tg) (e:=aX) (wX Pb) (mh aaG) 27 Y (.k2 Y Y)<|ag Y<|dn<|qq<|sr<|mo (s:=.row _) Y<|mv Y<|mv Y<|mv Y<|lE h λKt Rc h=>ad _ Y Y Rc<|lE h λLh W5 h=>ad _ Y Y W5 ?_
 obtain⟨⟨o62,n62⟩,W8,h⟩:=bS h
 refine RT.Wo .none jk Lh Y Y ⟨_,Y⟩ ⟨_,Y⟩ T W8<|mv Y<|mv Y ?_
 obtain⟨⟨Th,VA⟩,YK,h⟩:=bS h
 refine bE h λ_ aaH h=>cR (l:=Tg) (l':=VA) (e:=aX) (o8 YK) (mh aaH) 27 Y (.k3 Y Y Y)<|dn ?_
 refine bC h (λVB=>AS.cq 141 [(4,.row 38),(6,ah dS),(7,.sv (.v (.int .u64 ((gV:Nat):Int)))),(8,.row 27),(9,.sv (slc 1 (List.map aX ji))),(10,ah jk),(11,.sv (.v (.int .u64 ((VB.1:Nat):Int))))] [] [(38,TR 106 1 aX sH),(27,TR 106 1 aX VB.2)]) (λh=>?_) (λVB h=>?_)
 cases Th
 exact fs<|⟨(DJ,VA),(F h),wR []⟩
 refine cT<|sr<|mv Y<|lE (V h) λWC h67 h=>sb _ Y Y (UK.sub (a:=DJ) (b:=1) h67)<|ag Y<|dn<|sr<|RT.AE .none (eD 0) Y ⟨Y,ak⟩ T Y Y<|an (s:=.fT _ _) Y<|dn<|qq<|sr<|mv Y<|lE h λMg Tz h=>ln Y Tz<|mv Y<|dn<|bE h λe65 aaI sX=>?_
 refine bL (λ(KD:Nat×(List Nat))=>AS.cq 141 [(4,.row 38),(6,ah dS),(7,.sv (.v (.int .u64 ((gV:Nat):Int)))),(8,.row 27),(9,.sv (slc 1 (List.map aX ji))),(10,ah jk),(11,.sv (.v (.int .u64 ((WC:Nat):Int)))),(12,.fT 157 [.box 68])] [(68,⟨104,[.sv (.v (.int .u64 ((KD.1:Nat):Int)))]⟩)] [(38,TR 106 1 aX sH),(27,TR 106 1 aX KD.2)]) (λKD=>KD=e65) ?_ (λKD aaJ=>?_)
 refine bh ?_
 refine bM aaI (λTj=>AS.cq 141 [(4,.row 38),(6,ah dS),(7,.sv (.v (.int .u64 ((gV:Nat):Int)))),(8,.row 27),(9,.sv (slc 1 (List.map aX ji))),(10,ah jk),(11,.sv (.v (.int .u64 ((WC:Nat):Int)))),(12,.fT 157 [.box 68]),(69,.sv (slc 1 (List.map aX ji))),(70,ah Mg),(71,ah Tj.1)] [(68,⟨104,[.sv (.v (.int .u64 ((Tj.2.1:Nat):Int)))]⟩)] [(38,TR 106 1 aX sH),(27,TR 106 1 aX Tj.2.2)]) (wR []) (λTj y65 G65 h aaK aaL=>?_)
 obtain⟨yh,wN,vB⟩:=Tj
 try dsimp only
 refine sr<|lE h λMh W9 h=>ls _ Y Y W9<|dn<|qq ?_
 cases Mh
 refine cF<|bO<|aV.x<|aV.x<|bA.x<|aV.n ?_
 obtain rfl:=O (F h)
 exact⟨(wN,vB),aaL _ Y,wR []⟩
 refine cT<|bu<|aV.n<|qq<|bh<|sr<|mv Y<|bE (V h) λFG Pd h=>ix Y Y Pd<|lr Y Y<|ag Y<|ag Y<|dn<|aW<|mo (s:=.row _) Y<|mv Y<|mv Y<|lE h λx79 h79 h=>ad _ Y Y h79<|mo (s:=.fT _ _) Y<|mo (s:=.row _) Y<|mv Y<|mv Y<|lE h λx84 h84 h=>ad _ Y Y h84<|bE h λWD h85 h=>iR Y Y Y h85 ?_
 refine bE h λMi h86 h=>lR Y Y h86 Y<|lE h λx87 h87 h=>cv _ Y (UK.nat h87)<|mv Y<|lE h λx89 h89 h=>cv _ Y (UK.nat h89)<|lE h λWE h90 h=>ad _ Y Y (UK.add (a:=x87) (b:=x89) h90) ?_
 obtain⟨⟨Tk,k68⟩,h91,h⟩:=bS h
 refine cB (cg h91) 68 Y ⟨Y,ak⟩<|bE h λx92 h92 h=>iR Y Y Y h92<|bE h λl69 Xa h=>sR Tk Y Y Y Y Xa<|RT.done<|bA.n<|aV.n<|aW<|lE h λx93 h93 h=>ad _ Y Y h93<|mv Y<|RT.done ?_
 obtain rfl:=O h
 exact aV.n ⟨(x93,k68,l69),aaK _ Y,wR []⟩
 subst aaJ
 obtain⟨FH,AQ⟩:=KD
 try dsimp only
 refine aV.n<|aW<|mo (s:=.row _) Y<|mv Y<|mv Y<|lE sX λx97 h97 sX=>ad _ Y Y h97<|mo (s:=.fT _ _) Y<|mo (s:=.row _) Y<|mv Y<|mv Y<|lE sX λHX TA sX=>ad _ Y Y TA<|bE sX λWG aaQ sX=>iR Y Y Y aaQ<|bE sX λHY TB sX=>lR Y Y TB Y<|lE sX λKw TC sX=>cv _ Y (UK.nat TC) ?_
 obtain⟨⟨Tl,k72⟩,aaR,sX⟩:=bS sX
 exact cB (cg aaR) 68 Y ⟨Y,ak⟩<|bE sX λWH aaS sX=>iR Y Y Y aaS<|bE sX λl73 Xb sX=>sR Tl Y Y Y Y Xb<|dn<|⟨(WC,l73),sX,wR []⟩
 obtain⟨Mf,HW⟩:=VB
 try dsimp only
 refine aV.n<|aW<|mo (s:=.row _) Y<|mv Y<|mv Y<|lE h λTi aaT h=>cv _ Y (UK.nat aaT)<|bE h λWB aaU h=>iR Y Y Y aaU<|bE h λl55 Xc h=>sR Ti Y Y Y Y Xc<|RT.done<|bA.n<|aV.n<|aW<|mv Y<|lE h λrN h46 h=>sb _ Y Y h46<|ag Y<|RT.done ?_
 obtain rfl:=O h
 exact aV.n ⟨(rN,l55,HW),aaE _ Y,wR []⟩
 subst aaD
 obtain⟨AR,yj⟩:=KC
 try dsimp only
 refine aV.n<|sr<|mv Y<|bE Ty λHZ TD Ty=>RT.sx (n:=1) (e:=aX) .none Y Y T Y T (by rfl) (by decide) (by exact⟨aq,ak⟩) TD<|an (s:=.row _) Y<|dn<|qq<|sr<|mv Y<|mv Y<|dn<|bE Ty λe81 aaV aaW=>?_
 refine bL (λ(qW:(List Nat))=>AS.cq 141 [(4,.row 38),(5,.row 114)] [] [(38,TR 106 1 aX AR),(114,TR 106 1 aX qW)]) (λqW=>qW=e81) ?_ (λqW aaX=>?_)
 refine bh ?_
 refine bM aaV (λVC=>AS.cq 141 [(4,.row 38),(5,.row 114),(7,.sv (.v (.int .u64 ((gV:Nat):Int)))),(8,.row 27),(115,ah dS),(116,ah VC.1)] [] [(38,TR 106 1 aX AR),(114,TR 106 1 aX VC.2),(27,TR 106 1 aX yj)]) (wR []) (λVC y81 G81 h aaY aaZ=>?_)
 obtain⟨uf,wO⟩:=VC
 try dsimp only
 refine sr<|lE h λTm aa0 h=>ls _ Y Y aa0<|dn<|qq ?_
 cases Tm
 refine cF<|bO<|aV.x<|aV.x<|bA.x<|aV.n ?_
 obtain rfl:=O (F h)
 exact⟨wO,aaZ _ Y,wR []⟩
 refine cT<|bu<|aV.n<|qq<|bh<|sr<|mv Y<|ag Y<|dn<|aZ mixed<|mo (s:=.row _) Y<|mv Y<|mo (s:=.row _) Y<|mv Y<|bE (V h) λWJ aa1 h=>iR Y Y Y aa1<|bE h λWK aa2 h=>lR Y Y aa2 Y<|lE h λTn aa3 h=>cv _ Y (UK.nat aa3)<|mo (s:=.row _) Y<|mv Y<|lE h λWL h128 h=>ad _ Y Y h128<|bE h λWM aa4 h=>?_
 refine iR Y Y Y aa4<|bE h λWN aa5 h=>lR Y Y aa5 Y<|lE h λTo aa6 h=>cv _ Y (UK.nat aa6)<|lE h λTp aa7 h=>RT.shl .none _ Y Y T (by decide) (UK.shl (a:=To) (q:=32) (s:=32) Y aa7)<|lE h λTq aa8 h=>RT.or .none _ Y Y T (UK.or (a:=Tn) (b:=Tp) aa8)<|mv Y<|lE h λWO aa9 h=>RT.shr .none _ Y Y T (Int.natCast_nonneg _) (Dz (k:=.u64) (a:=Tq) (q:=((gV:Nat):Int)) (s:=min gV 64) Y aa9)<|lE h λTr aba h=>cv _ Y (UK.nat aba) ?_
 refine bE h λWQ abb h=>iR Y Y Y abb<|bE h λl83 Xd h=>sR Tr Y Y Y Y Xd ?_
 refine RT.done ⟨by kernel_rfl,?_⟩
 refine bA.n<|aV.n<|aW<|lE h λTs abc h=>ad _ Y Y abc<|mv Y<|RT.done ?_
 obtain rfl:=O h
 exact aV.n ⟨(Ts,l83),aaY _ Y,wR []⟩
 subst aaX
 try dsimp only
 refine aV.n<|sr<|mo (s:=.row _) Y<|mo (s:=.row _) Y<|an (s:=.row _) Y<|an (s:=.row _) Y<|dn<|pC (i:=38) (E1:=106) (n:=1) (e:=aX) (l:=AR) hN (λ_ h=>h) Y<|pC (i:=114) (E1:=106) (n:=1) (e:=aX) (l:=qW) hN (λ_ h=>h) Y<|bf ?_
 obtain rfl:=O aaW
 exact R2 Y Y
theorem nH{x0:List Nat}(N:Nat){r:List Nat}(h:ec x0=some r):dU af 123 N [slc 1 (List.map aX x0)] (nw N (slc 1 (List.map aX r))):=O6 (qu h)
theorem pE{x0:List Nat}{x1:List Nat}(N:Nat){r:(List Nat)×(List Nat)}(h:fP x0 x1=some r):dU af 146 N [slc 1 (List.map aX x0),slc 1 (List.map aX x1)] (.BW [nw N (slc 1 (List.map aX r.1)),nw N (slc 1 (List.map aX r.2))]):=by
 refine bP Tryz.func146 Y (ae Y) (λdm M vs hN hvs=>?_)
 unfold fP at h
 refine sr<|ag Y<|aI Y (bw (N:=N) (n:=1) (e:=aX))<|dn<|bX (ic 4 304 106 1 Y Y T)<|qq<|bh<|sr<|mv Y<|mv Y<|bE h λcP fz h=>cl (gh fz) ⟨Y,Y,ak⟩<|lE h λja lW h=>ls _ Y Y lW<|ag Y<|dn ?_
 cases ja
 refine cF<|sr<|mv Y<|lE (F h) λeI jP h=>ln Y jP<|lE h λkN lX h=>RT.leq .none _ Y Y T lX<|ag Y<|dn ?_
 cases kN
 refine cF<|sr<|mv Y<|lE (F h) λsG yo h=>ln Y yo<|lE h λuX FW h=>eq _ Y Y (zF (p:=sG) (q:=1) FW)<|ag Y<|dn ?_
 cases uX
 refine cF<|bu<|bA.n<|aV.n<|sr<|mv Y<|mv Y ?_
 obtain⟨⟨WR,WS⟩,FV,h⟩:=bS (F h)
 refine RT.bQ .none (yp N FV) hN Y ⟨Y,Y,ak⟩ T<|ex Y Y<|ex Y Y<|ag Y<|ag Y<|dn<|bf ?_
 obtain rfl:=O h
 exact R2 Y Y
 refine cT<|sr<|mv Y<|bE (V h) λpU Cp h=>cN (qu Cp) ⟨Y,ak⟩<|an (s:=.row _) Y<|dn<|sr<|mo (s:=.row _) Y<|mv Y<|bE h λr7 DP h=>ix Y Y DP<|lr Y Y<|lE h λCk KB h=>cv _ Y (UK.nat KB) ?_
 obtain⟨⟨zH,l5⟩,KA,h⟩:=bS h
 refine bE h λ_ he5 h=>cR (l:=pU) (l':=l5) (e:=aX) (wW KA) (mh he5) 39 Y (.k2 Y Y)<|ag Y<|dn<|sr<|mo (s:=.row _) Y<|mv Y<|lE h λyf h48 h=>cv _ Y (UK.nat h48)<|RT.wG (l:=[yf]) (e:=aX) .none hN (.one Y (.nil)) T Y Y Y Y Y Y<|an (s:=.row _) Y<|ag Y<|dn<|pC (i:=39) (E1:=106) (n:=1) (e:=aX) (l:=l5) hN (λ_ h=>h) Y ?_
 refine bf<|bA.r<|aV.r ?_
 obtain rfl:=O h
 exact R2 Y Y
 refine cT<|sr<|mv Y<|bE (V h) λgO mZ h=>cl (iF mZ) ⟨Y,ak⟩<|mv Y<|bE h λiQ o6 h=>cl (iF o6) ⟨Y,ak⟩<|ag Y<|ag Y<|dn<|qq<|aZ mixed<|mv Y<|mv Y<|bE h λiS pW h=>RT.quo .none _ Y Y T (ZN pW) (UK.quo pW) ?_
 obtain⟨⟨wP,uY⟩,o4,h⟩:=bS h
 refine RT.bQ .none (jn N o4) hN Y ⟨Y,Y,ak⟩ T<|fl Y Y<|mv Y<|mv Y<|bE h λoh yY h=>RT.rem .none _ Y Y T (YG yY) (OW yY) ?_
 obtain⟨⟨uZ,sI⟩,o7,h⟩:=bS h
 refine RT.bQ .none (jn N o7) hN Y ⟨Y,Y,ak⟩ T<|fl Y Y<|ag Y<|ag Y ?_
 refine RT.done ⟨by kernel_rfl,?_⟩
 refine aV.n<|bf<|bA.r<|aV.r ?_
 obtain rfl:=O h
 exact R2 Y Y
 refine cT<|sr<|mv Y<|bE (V h) λdL iN h=>RT.bQ .none (nH N iN) hN Y ⟨Y,ak⟩ T<|ag Y<|ag Y<|dn<|bX (ic 4 310 106 1 Y Y T)<|pC (i:=310) (E1:=106) (n:=1) (e:=aX) (l:=[]) hN (λ_ h=>h) Y<|bf<|bA.r<|aV.r ?_
 obtain rfl:=O h
 exact R2 Y Y
end
section
open Go.Fw Go.Fw.Z Go.RowKit
theorem dM{x0:Int}(N:Nat){r:Zr}(h:bZ x0=some r):dU af 93 N [ax x0] (.agg ((fZ N) r)):=by
 refine bP Tryz.func93 Y (ae Y) (λdm M vs hN hvs=>?_)
 unfold bZ at h
 refine sr<|al (cs:=[ay false,nw N au]) (by exact⟨aq,bw,ak⟩) Y<|dn<|sr<|mv Y<|lE h λx5 h5 h=>cv _ Y (UK.conv h5)<|ag Y<|dn<|qq<|sr<|mv Y<|lE h λx7 h7 h=>ls _ Y Y h7<|dn ?_
 refine bC h (λj2=>AS.cq 14 [(0,ah x0),(2,.ptr 2 0),(3,.sv (.v (.int .u64 ((j2:Nat):Int))))] [(2,⟨34,[ai false,.sv (nw N au)]⟩)] []) (λh=>?_) (λFI h=>?_)
 cases x7
 exact fs<|⟨x5,(F h),wR []⟩
 exact cT<|aW<|mv Y<|lE (V h) λx9 h9 h=>RT.neg .none _ Y T (UK.neg h9)<|ag Y<|dn<|⟨x9,h,wR []⟩
 try dsimp only
 refine aV.n<|sr<|mv Y<|lE h λfN kO h=>ls _ Y Y kO<|mv Y ?_
 obtain⟨⟨FJ,FK⟩,lW,h⟩:=bS h
 refine RT.bQ .none (jn N lW) hN Y ⟨Y,Y,ak⟩ T<|so Y Y Y<|dn<|bf ?_
 obtain rfl:=O h
 exact RZ (.agg Y Y (.k2 Y Y) Y (.nil))
theorem vH{x0:Int}{r:Zr}(h:bZ x0=some r):Pure af 93 [ax x0] (.agg (eZ r)):=fW (λN=>dM N h) (λN=>(SV.dz (zI _ _)))
theorem fX{x0:Zr}{r:Int×Bool}(h:di x0=some r):Pure af 100 [.agg (eZ x0)] (.BW [ax r.1,ay r.2]):=by
 obtain⟨bp,bn⟩:=x0
 refine bj Tryz.func100 Y (ae Y) (λdm M vs hvs=>?_)
 unfold di at h
 refine sr<|bx Y<|ag Y<|ag Y<|dn<|sr<|fa Y Y<|lV Y Y Y<|bE h λx8 h8 h=>cl (cu h8) ⟨Y,ak⟩<|ag Y<|dn<|qq<|sr<|mv Y<|lE h λdP gA h=>ln Y gA<|lE h λfN kO h=>gt _ Y Y kO<|dn ?_
 cases fN
 refine fs<|sr<|mv Y<|bE (F h) λja lW h=>cl (iF lW) ⟨Y,ak⟩<|ag Y<|dn<|qq<|sr<|fa Y Y<|lV Y Y Y<|dn ?_
 cases bp
 refine fs<|qq<|sr<|mv Y<|lE (F h) λgw lY h=>ge _ Y Y (ZM (p:=9223372036854775808) (q:=ja) lY)<|dn ?_
 cases gw
 refine fs<|sr<|mv Y<|lE (F h) λgV o5 h=>cv _ Y o5<|ag Y<|ag Y<|dn<|bf ?_
 obtain rfl:=O h
 exact R2 Y Y
 refine cT<|sr<|ag Y<|ag Y<|dn<|bf<|aV.r ?_
 obtain rfl:=O (V h)
 exact R2 Y Y
 refine cT<|qq<|sr<|mv Y<|lE (V h) λdS jb h=>gt _ Y Y (YF (p:=9223372036854775808) (q:=ja) jb)<|dn ?_
 cases dS
 refine fs<|sr<|mv Y<|lE (F h) λkN lX h=>RT.neg .none _ Y T (UK.neg lX)<|lE h λke qw h=>cv _ Y qw<|ag Y<|ag Y<|dn<|bf<|aV.r ?_
 obtain rfl:=O h
 exact R2 Y Y
 refine cT<|sr<|ag Y<|ag Y<|dn<|bf<|aV.r<|aV.r ?_
 obtain rfl:=O (V h)
 exact R2 Y Y
 refine cT<|sr<|ag Y<|ag Y<|dn<|bf<|aV.r ?_
 obtain rfl:=O (V h)
 exact R2 Y Y
theorem pX{x0:List Nat}(N:Nat){r:List Nat}(h:bt x0=some r):dU af 99 N [nw N (slc 1 (List.map aX x0))] (nw N (slc 1 (List.map aX r))):=by
 refine bP Tryz.func99 Y (ae Y) (λdm M vs hN hvs=>?_)
 unfold bt at h
 refine sr<|aI Y (bw (N:=N) (n:=1) (e:=aX))<|dn<|qq<|bE h λAW sQ mY=>?_
 refine bL (λ(AO:(List Nat))=>AS.cq 21 [(0,.sv (nw N (slc 1 (List.map aX AO))))] [] []) (λAO=>AO=AW) ?_ (λAO sS=>?_)
 refine bh ?_
 refine bM sQ (λsF=>AS.cq 21 [(0,.sv (nw N (slc 1 (List.map aX sF))))] [] []) (wR []) (λzG Ra Rb h sV pV=>?_)
 try dsimp only
 refine qq<|qq ?_
 refine bC h (λDO=>AS.cq 21 [(0,.sv (nw N (slc 1 (List.map aX zG)))),(14,ai DO)] [] []) (λh=>?_) (λAN h=>?_)
 refine aW<|mv Y<|lE h λx4 h4 h=>RT.FD .none Y T h4<|lE h λx5 h5 h=>gt _ Y Y h5<|mv Y<|bE h λHS cE h=>?_
 cases x5
 obtain rfl:=O (F cE)
 exact ww<|ww<|ww<|ww<|ww<|ww<|ww<|pF Y<|dn<|⟨false,h,wR []⟩
 refine gm Y<|gm Y<|lE (V cE) λx9 h9 cE=>RT.FD (.some Y Y) Y T h9<|lE cE λdP gA cE=>RT.sub (.some Y Y) _ Y Y T gA<|bE cE λfN kO cE=>RT.ZZ (.some Y Y) Y Y T kO<|gr Y Y<|lE cE λja lW cE=>Tc _ Y Y (YD (p:=fN) (q:=0) lW) ?_
 obtain rfl:=O cE
 exact pT Y<|dn<|⟨ja,h,wR []⟩
 try dsimp only
 refine aV.n ?_
 cases AN
 refine cF<|bO<|aV.x<|aV.x<|bA.x<|aV.n ?_
 obtain rfl:=O (F h)
 exact⟨zG,pV _ Y,wR []⟩
 refine cT<|bu<|aV.n<|bh<|aW<|mv Y<|mv Y<|lE (V h) λdS jb h=>RT.FD .none Y T jb<|lE h λeI jP h=>sb _ Y Y jP<|bE h λkN lX h=>RT.O7 .none 0 eI Y Y ⟨_,Y⟩ T lX<|ag Y<|RT.done<|bA.n ?_
 obtain rfl:=O h
 exact aV.n ⟨kN,sV _ Y,wR []⟩
 subst sS
 try dsimp only
 refine aV.n<|sr<|mv Y<|ag Y<|dn<|bf ?_
 obtain rfl:=O mY
 exact R1 Y
theorem eT{x0:Bool}{x1:List Nat}(N:Nat){r:Zr}(h:ct x0 x1=some r):dU af 116 N [ay x0,nw N (slc 1 (List.map aX x1))] (.agg ((fZ N) r)):=by
 refine bP Tryz.func116 Y (ae Y) (λdm M vs hN hvs=>?_)
 unfold ct at h
 refine sr<|al (cs:=[ay false,nw N au]) (by exact⟨aq,bw,ak⟩) Y<|dn<|sr<|mv Y<|bE h λx6 h6 h=>RT.bQ .none (pX N h6) hN Y ⟨Y,ak⟩ T<|ag Y<|dn<|qq<|sr<|mv Y<|lE h λx8 h8 h=>RT.FD .none Y T h8<|lE h λx9 h9 h=>eq _ Y Y (zF (p:=x8) (q:=0) h9)<|dn ?_
 cases x9
 refine fs<|sr<|mv Y<|mv Y<|bI (cs:=[_,_]) (cs':=[ay x0,nw N (slc 1 (List.map aX x6))]) (.one Y (.one Y (.nil))) ⟨aq,aq,ak⟩<|so Y Y Y<|dn<|bf ?_
 obtain rfl:=O (F h)
 exact RZ (.agg Y Y (.k2 Y Y) Y (.nil))
 refine cT<|sr<|bI (cs:=[_,_]) (cs':=[ay false,nw N au]) (.nil) ⟨aq,bw,ak⟩<|so Y Y Y<|dn<|bf<|aV.r ?_
 obtain rfl:=O (V h)
 exact RZ (.agg Y Y (.k2 Y Y) Y (.nil))
theorem oF{x0:Bool}{x1:List Nat}{x2:Bool}{x3:List Nat}(N:Nat){r:Zr}(h:c7 x0 x1 x2 x3=some r):dU af 149 N [ay x0,slc 1 (List.map aX x1),ay x2,slc 1 (List.map aX x3)] (.agg ((fZ N) r)):=by
 refine bP Tryz.func149 Y (ae Y) (λdm M vs hN hvs=>?_)
 unfold c7 at h
 refine sr<|al (cs:=[ay false,nw N au]) (by exact⟨aq,bw,ak⟩) Y<|dn<|qq<|sr<|mv Y<|mv Y<|lE h λfN kO h=>RT.OD .none _ Y Y T kO<|dn ?_
 cases fN
 refine fs<|qq<|sr<|mv Y<|mv Y<|bE (F h) λkN lX h=>cl (gh lX) ⟨Y,Y,ak⟩<|lE h λke qw h=>ls _ Y Y qw<|dn ?_
 cases ke
 refine fs<|sr<|mv Y<|mv Y<|mv Y<|bE (F h) λir mI h=>RT.bQ .none (kW N mI) hN Y ⟨Y,Y,ak⟩ T ?_
 obtain⟨⟨wQ,wS⟩,Co,h⟩:=bS h
 refine RT.bQ .none (eT N Co) hN Y ⟨Y,Y,ak⟩ T<|so Y Y Y<|dn<|bf ?_
 obtain rfl:=O h
 exact RZ (.agg Y Y (.k2 Y Y) Y (.nil))
 refine cT<|sr<|mv Y<|mv Y<|mv Y<|bE (V h) λgV o5 h=>RT.bQ .none (kW N o5) hN Y ⟨Y,Y,ak⟩ T ?_
 obtain⟨⟨sJ,rO⟩,oE,h⟩:=bS h
 refine RT.bQ .none (eT N oE) hN Y ⟨Y,Y,ak⟩ T<|so Y Y Y<|dn<|bf<|aV.r ?_
 obtain rfl:=O h
 exact RZ (.agg Y Y (.k2 Y Y) Y (.nil))
 refine cT<|sr<|mv Y<|mv Y<|mv Y<|bE (V h) λdL iN h=>RT.bQ .none (pD N iN) hN Y ⟨Y,Y,ak⟩ T ?_
 obtain⟨⟨jl,jm⟩,jo,h⟩:=bS h
 refine RT.bQ .none (eT N jo) hN Y ⟨Y,Y,ak⟩ T<|so Y Y Y<|dn<|bf<|aV.r ?_
 obtain rfl:=O h
 exact RZ (.agg Y Y (.k2 Y Y) Y (.nil))
theorem DU{x0:Zr}{x1:Zr}(N:Nat){r:Zr}(h:mU x0 x1=some r):dU af 127 N [.agg (eZ x0),.agg (eZ x1)] (.agg ((fZ N) r)):=by
 obtain⟨bp,bn⟩:=x0
 obtain⟨bU,bR⟩:=x1
 refine bP Tryz.func127 Y (ae Y) (λdm M vs hN hvs=>?_)
 unfold mU at h
 refine sr<|bx Y<|bx Y<|al (cs:=[ay false,nw N au]) (by exact⟨aq,bw,ak⟩) Y<|dn<|sr<|ld Y Y (.k2 Y Y) ?_
 obtain⟨⟨Cm,H6⟩,fz,h⟩:=bS h
 refine cl (fX fz) ⟨Y,ak⟩<|mv Y<|ex Y Y<|ex Y Y<|ag Y<|ag Y<|dn<|sr<|ld Y Y (.k2 Y Y) ?_
 obtain⟨⟨DL,H7⟩,jb,h⟩:=bS h
 refine cl (fX jb) ⟨Y,ak⟩<|mv Y<|ex Y Y<|ex Y Y<|ag Y<|ag Y<|dn<|qq<|qq ?_
 refine bC h (λj3=>AS.cq 48 [(2,.ptr 2 0),(3,.ptr 3 0),(4,.ptr 4 0),(5,ah Cm),(7,ah DL),(23,ai j3)] [(4,⟨34,[ai false,.sv (nw N au)]⟩),(3,⟨34,[ai bU,.sv (slc 1 (List.map aX bR))]⟩),(2,⟨34,[ai bp,.sv (slc 1 (List.map aX bn))]⟩)] []) (λh=>?_) (λAT h=>?_)
 refine aW<|mv Y<|mv Y<|bE h λFN yZ h=>?_
 cases H6
 obtain rfl:=O (F yZ)
 exact ww<|pF Y<|dn<|⟨false,h,wR []⟩
 refine gm Y ?_
 obtain rfl:=O (V yZ)
 exact pT Y<|dn<|⟨H7,h,wR []⟩
 try dsimp only
 refine aV.n ?_
 refine bC h (λj5=>AS.cq 48 [(2,.ptr 2 0),(3,.ptr 3 0),(4,.ptr 4 0)] [(4,⟨34,[ai false,.sv (nw N au)]⟩),(3,⟨34,[ai bU,.sv (slc 1 (List.map aX bR))]⟩),(2,⟨34,[ai bp,.sv (slc 1 (List.map aX bn))]⟩)] []) (λh=>?_) (λj5 h=>?_)
 cases AT
 exact fs<|⟨(),(F h),wR []⟩
 refine cT<|sr<|mv Y<|mv Y<|lE (V h) λiS pW h=>ad _ Y Y pW<|ag Y<|dn<|sr<|mv Y<|mv Y<|lE h λir mI h=>RT.xor .none _ Y Y T mI<|mv Y<|mv Y<|lE h λji o7 h=>RT.xor .none _ Y Y T o7<|lE h λmS va h=>RT.and .none _ Y Y T va<|lE h λnQ sW h=>ge _ Y Y sW<|dn ?_
 cases nQ
 exact fs<|⟨(),(F h),wR []⟩
 refine cT<|sr<|mv Y ?_
 obtain⟨⟨sK,sL⟩,yo,h⟩:=bS (V h)
 refine RT.bQ .none (dM N yo) hN Y ⟨Y,ak⟩ T<|so Y Y Y<|dn<|bf<|aV.r<|aV.r ?_
 obtain rfl:=O h
 exact RZ (.agg Y Y (.k2 Y Y) Y (.nil))
 try dsimp only
 refine aV.n<|qq<|aZ mixed<|fa Y Y<|lV Y Y Y<|fa Y Y<|lV Y Y Y<|bE h λxP Ia h=>cl (cu Ia) ⟨Y,ak⟩<|fa Y Y<|lV Y Y Y<|fa Y Y<|lV Y Y Y<|bE h λrN h46 h=>cl (cu h46) ⟨Y,ak⟩ ?_
 obtain⟨⟨FL,FM⟩,zK,h⟩:=bS h
 refine RT.bQ .none (oF N zK) hN Y ⟨Y,Y,Y,Y,ak⟩ T<|so Y Y Y ?_
 refine RT.done ⟨by kernel_rfl,?_⟩
 refine aV.n<|bf ?_
 obtain rfl:=O h
 exact RZ (.agg Y Y (.k2 Y Y) Y (.nil))
theorem DV{x0:Zr}{x1:Zr}(N:Nat){r:Zr}(h:mW x0 x1=some r):dU af 129 N [.agg (eZ x0),.agg (eZ x1)] (.agg ((fZ N) r)):=by
 obtain⟨bp,bn⟩:=x0
 obtain⟨bU,bR⟩:=x1
 refine bP Tryz.func129 Y (ae Y) (λdm M vs hN hvs=>?_)
 unfold mW at h
 refine sr<|bx Y<|bx Y<|al (cs:=[ay false,nw N au]) (by exact⟨aq,bw,ak⟩) Y<|dn<|sr<|ld Y Y (.k2 Y Y) ?_
 obtain⟨⟨Cm,H6⟩,fz,h⟩:=bS h
 refine cl (fX fz) ⟨Y,ak⟩<|mv Y<|ex Y Y<|ex Y Y<|ag Y<|ag Y<|dn<|sr<|ld Y Y (.k2 Y Y) ?_
 obtain⟨⟨DL,H7⟩,jb,h⟩:=bS h
 refine cl (fX jb) ⟨Y,ak⟩<|mv Y<|ex Y Y<|ex Y Y<|ag Y<|ag Y<|dn<|qq<|qq ?_
 refine bC h (λj3=>AS.cq 49 [(2,.ptr 2 0),(3,.ptr 3 0),(4,.ptr 4 0),(5,ah Cm),(7,ah DL),(23,ai j3)] [(4,⟨34,[ai false,.sv (nw N au)]⟩),(3,⟨34,[ai bU,.sv (slc 1 (List.map aX bR))]⟩),(2,⟨34,[ai bp,.sv (slc 1 (List.map aX bn))]⟩)] []) (λh=>?_) (λAT h=>?_)
 refine aW<|mv Y<|mv Y<|bE h λFN yZ h=>?_
 cases H6
 obtain rfl:=O (F yZ)
 exact ww<|pF Y<|dn<|⟨false,h,wR []⟩
 refine gm Y ?_
 obtain rfl:=O (V yZ)
 exact pT Y<|dn<|⟨H7,h,wR []⟩
 try dsimp only
 refine aV.n ?_
 refine bC h (λj5=>AS.cq 49 [(2,.ptr 2 0),(3,.ptr 3 0),(4,.ptr 4 0)] [(4,⟨34,[ai false,.sv (nw N au)]⟩),(3,⟨34,[ai bU,.sv (slc 1 (List.map aX bR))]⟩),(2,⟨34,[ai bp,.sv (slc 1 (List.map aX bn))]⟩)] []) (λh=>?_) (λj5 h=>?_)
 cases AT
 exact fs<|⟨(),(F h),wR []⟩
 refine cT<|sr<|mv Y<|mv Y<|lE (V h) λiS pW h=>sb _ Y Y pW<|ag Y<|dn<|sr<|mv Y<|mv Y<|lE h λir mI h=>RT.xor .none _ Y Y T mI<|mv Y<|mv Y<|lE h λji o7 h=>RT.xor .none _ Y Y T o7<|lE h λmS va h=>RT.and .none _ Y Y T va<|lE h λnQ sW h=>ge _ Y Y sW<|dn ?_
 cases nQ
 exact fs<|⟨(),(F h),wR []⟩
 refine cT<|sr<|mv Y ?_
 obtain⟨⟨sK,sL⟩,yo,h⟩:=bS (V h)
 refine RT.bQ .none (dM N yo) hN Y ⟨Y,ak⟩ T<|so Y Y Y<|dn<|bf<|aV.r<|aV.r ?_
 obtain rfl:=O h
 exact RZ (.agg Y Y (.k2 Y Y) Y (.nil))
 try dsimp only
 refine aV.n<|qq<|aZ mixed<|fa Y Y<|lV Y Y Y<|fa Y Y<|lV Y Y Y<|bE h λxP Ia h=>cl (cu Ia) ⟨Y,ak⟩<|fa Y Y<|lV Y Y Y<|lE h λCk KB h=>nt Y _ KB<|fa Y Y<|lV Y Y Y<|bE h λsE zK h=>cl (cu zK) ⟨Y,ak⟩ ?_
 obtain⟨⟨QY,QZ⟩,h48,h⟩:=bS h
 refine RT.bQ .none (oF N h48) hN Y ⟨Y,Y,Y,Y,ak⟩ T<|so Y Y Y ?_
 refine RT.done ⟨by kernel_rfl,?_⟩
 refine aV.n<|bf ?_
 obtain rfl:=O h
 exact RZ (.agg Y Y (.k2 Y Y) Y (.nil))
theorem fB{x0:Zr}{x1:Zr}(N:Nat){r:Zr}(h:dg x0 x1=some r):dU af 84 N [.agg (eZ x0),.agg (eZ x1)] (.agg ((fZ N) r)):=by
 obtain⟨bp,bn⟩:=x0
 obtain⟨bU,bR⟩:=x1
 refine bP Tryz.func84 Y (ae Y) (λdm M vs hN hvs=>?_)
 unfold dg at h
 refine sr<|bx Y<|bx Y<|al (cs:=[ay false,nw N au]) (by exact⟨aq,bw,ak⟩) Y<|dn<|qq<|aZ mixed<|fa Y Y<|lV Y Y Y<|bE h λx9 h9 h=>cl (cu h9) ⟨Y,ak⟩<|fa Y Y<|lV Y Y Y<|bE h λcP fz h=>cl (cu fz) ⟨Y,ak⟩<|ag Y<|ag Y ?_
 refine RT.done ⟨by kernel_rfl,?_⟩
 refine aV.n<|qq<|qq ?_
 refine bC h (λj3=>AS.cq 41 [(2,.ptr 2 0),(3,.ptr 3 0),(4,.ptr 4 0),(5,.sv (slc 1 (List.map aX x9))),(6,.sv (slc 1 (List.map aX cP))),(20,ai j3)] [(4,⟨34,[ai false,.sv (nw N au)]⟩),(3,⟨34,[ai bU,.sv (slc 1 (List.map aX bR))]⟩),(2,⟨34,[ai bp,.sv (slc 1 (List.map aX bn))]⟩)] []) (λh=>?_) (λMj h=>?_)
 refine aW<|mv Y<|lE h λdW jc h=>ln Y jc<|lE h λdL iN h=>RT.leq .none _ Y Y T iN<|mv Y<|bE h λQ2 qy h=>?_
 cases dL
 obtain rfl:=O (F qy)
 exact ww<|ww<|ww<|pF Y<|dn<|⟨false,h,wR []⟩
 refine gm Y<|lE (V qy) λeI jP qy=>gn Y jP<|lE qy λkN lX qy=>RT.leq (.some Y Y) _ Y Y T lX ?_
 obtain rfl:=O qy
 exact pT Y<|dn<|⟨kN,h,wR []⟩
 try dsimp only
 refine aV.n ?_
 cases Mj
 refine fs<|qq<|aZ mixed<|fa Y Y<|lV Y Y Y<|fa Y Y<|lV Y Y Y<|lE (F h) λsG yo h=>RT.Lq .none _ Y Y T yo<|mv Y<|mv Y<|bE h λpU Cp h=>RT.bQ .none (wV N Cp) hN Y ⟨Y,Y,ak⟩ T ?_
 obtain⟨⟨yW,yX⟩,u0,h⟩:=bS h
 refine RT.bQ .none (eT N u0) hN Y ⟨Y,Y,ak⟩ T<|so Y Y Y ?_
 refine RT.done ⟨by kernel_rfl,?_⟩
 refine aV.n<|bf ?_
 obtain rfl:=O h
 exact RZ (.agg Y Y (.k2 Y Y) Y (.nil))
 refine cT<|qq<|aZ mixed<|fa Y Y<|lV Y Y Y<|fa Y Y<|lV Y Y Y<|lE (V h) λkf oE h=>RT.Lq .none _ Y Y T oE<|mv Y<|bE h λiL o4 h=>cl (iF o4) ⟨Y,ak⟩<|mv Y<|bE h λir mI h=>cl (iF mI) ⟨Y,ak⟩<|lE h λye Co h=>RT.mul .none _ Y Y T (UK.mul (a:=iL) (b:=ir) Co) ?_
 obtain⟨⟨Q0,Q1⟩,yY,h⟩:=bS h
 refine RT.bQ .none (jn N yY) hN Y ⟨Y,Y,ak⟩ T<|so Y Y Y ?_
 refine RT.done ⟨by kernel_rfl,?_⟩
 refine aV.n<|bf<|aV.r ?_
 obtain rfl:=O h
 exact RZ (.agg Y Y (.k2 Y Y) Y (.nil))
theorem wY{x0:Zr}{x1:Zr}{r:Zr}(h:dg x0 x1=some r):Pure af 84 [.agg (eZ x0),.agg (eZ x1)] (.agg (eZ r)):=fW (λN=>fB N h) (λN=>(SV.dz (zI _ _)))
theorem n5{x0:Zr}(N:Nat){r:Zr}(h:fE x0=some r):dU af 95 N [.agg (eZ x0)] (.agg ((fZ N) r)):=by
 obtain⟨bp,bn⟩:=x0
 refine bP Tryz.func95 Y (ae Y) (λdm M vs hN hvs=>?_)
 unfold fE at h
 refine sr<|bx Y<|al (cs:=[ay false,nw N au]) (by exact⟨aq,bw,ak⟩) Y<|dn<|qq<|aZ mixed<|fa Y Y<|lV Y Y Y<|lE h λx5 h5 h=>nt Y _ h5<|fa Y Y<|lV Y Y Y<|bE h λx8 h8 h=>cl (cu h8) ⟨Y,ak⟩<|bE h λx9 h9 h=>RT.bQ .none (nH N h9) hN Y ⟨Y,ak⟩ T ?_
 obtain⟨⟨sM,sN⟩,gA,h⟩:=bS h
 refine RT.bQ .none (eT N gA) hN Y ⟨Y,Y,ak⟩ T<|so Y Y Y ?_
 refine RT.done ⟨by kernel_rfl,?_⟩
 refine aV.n<|bf ?_
 obtain rfl:=O h
 exact RZ (.agg Y Y (.k2 Y Y) Y (.nil))
theorem wZ{x0:Zr}{r:Zr}(h:fE x0=some r):Pure af 95 [.agg (eZ x0)] (.agg (eZ r)):=fW (λN=>n5 N h) (λN=>(SV.dz (zI _ _)))
theorem eK{x0:Zr}{r:Int}(h:cS x0=some r):Pure af 64 [.agg (eZ x0)] (ax r):=by
 obtain⟨bp,bn⟩:=x0
 refine bj Tryz.func64 Y (ae Y) (λdm M vs hvs=>?_)
 unfold cS at h
 refine sr<|bx Y<|ag Y<|dn<|qq<|bh<|sr<|fa Y Y<|lV Y Y Y<|bE h λx6 h6 h=>cl (cu h6) ⟨Y,ak⟩<|lE h λx7 h7 h=>ln Y h7<|lE h λx8 h8 h=>eq _ Y Y (zF (p:=x7) (q:=0) h8)<|ag Y<|dn ?_
 cases x8
 refine cF<|sr<|fa Y Y<|lV Y Y Y<|ag Y<|dn ?_
 replace h:=F h
 cases bp
 refine cF<|bu<|bA.n<|aV.n<|sr<|ag Y<|dn<|bf ?_
 obtain rfl:=O (F h)
 exact R1 Y
 refine cT<|sr<|ag Y<|dn<|bf<|bA.r<|aV.r ?_
 obtain rfl:=O (V h)
 exact R1 Y
 refine cT<|sr<|ag Y<|dn<|bf<|bA.r<|aV.r ?_
 obtain rfl:=O (V h)
 exact R1 Y
theorem DW{x0:Zr}{x1:Zr}{r:Int}(h:mX x0 x1=some r):Pure af 83 [.agg (eZ x0),.agg (eZ x1)] (ax r):=by
 obtain⟨bp,bn⟩:=x0
 obtain⟨bU,bR⟩:=x1
 refine bj Tryz.func83 Y (ae Y) (λdm M vs hvs=>?_)
 unfold mX at h
 refine sr<|bx Y<|bx Y<|ag Y<|dn<|qq<|aZ mixed<|ld Y Y (.k2 Y Y)<|bE h λx8 h8 h=>cl (eK h8) ⟨Y,ak⟩<|ld Y Y (.k2 Y Y)<|bE h λdP gA h=>cl (eK gA) ⟨Y,ak⟩<|ag Y<|ag Y ?_
 refine RT.done ⟨by kernel_rfl,?_⟩
 refine aV.n<|qq<|bh<|sr<|mv Y<|mv Y<|lE h λdW jc h=>ls _ Y Y jc<|ag Y<|dn ?_
 cases dW
 refine cF<|sr<|mv Y<|mv Y<|lE (F h) λeI jP h=>gt _ Y Y jP<|ag Y<|dn ?_
 cases eI
 refine cF<|sr<|mv Y<|lE (F h) λgO mZ h=>ls _ Y Y mZ<|ag Y<|dn ?_
 cases gO
 refine cF<|bu<|bA.n<|aV.n<|qq<|aZ mixed<|fa Y Y<|lV Y Y Y<|bE (F h) λoh yY h=>cl (cu yY) ⟨Y,ak⟩<|fa Y Y<|lV Y Y Y<|bE h λnQ sW h=>cl (cu sW) ⟨Y,ak⟩<|bE h λr6 A0 h=>cl (gh A0) ⟨Y,Y,ak⟩<|ag Y ?_
 refine RT.done ⟨by kernel_rfl,?_⟩
 refine aV.n<|bf ?_
 obtain rfl:=O h
 exact R1 Y
 refine cT<|qq<|aZ mixed<|fa Y Y<|lV Y Y Y<|bE (V h) λgV o5 h=>cl (cu o5) ⟨Y,ak⟩<|fa Y Y<|lV Y Y Y<|bE h λiL o4 h=>cl (cu o4) ⟨Y,ak⟩<|bE h λnR vD h=>cl (gh vD) ⟨Y,Y,ak⟩<|ag Y ?_
 refine RT.done ⟨by kernel_rfl,?_⟩
 refine aV.n<|bf<|bA.r<|aV.r ?_
 obtain rfl:=O h
 exact R1 Y
 refine cT<|sr<|ag Y<|dn<|bf<|bA.r<|aV.r ?_
 obtain rfl:=O (V h)
 exact R1 Y
 refine cT<|sr<|ag Y<|dn<|bf<|bA.r<|aV.r ?_
 obtain rfl:=O (V h)
 exact R1 Y
theorem rP{x0:Zr}{x1:Zr}(N:Nat){r:Zr×Zr×Int}(h:eR x0 x1=some r):dU af 125 N [.agg (eZ x0),.agg (eZ x1)] (.BW [.agg ((fZ N) r.1),.agg ((fZ N) r.2.1),ax r.2.2]):=by
 obtain⟨bp,bn⟩:=x0
 obtain⟨bU,bR⟩:=x1
 refine bP Tryz.func125 Y (ae Y) (λdm M vs hN hvs=>?_)
 unfold eR at h
 refine sr<|bx Y<|bx Y<|al (cs:=[ay false,nw N au]) (by exact⟨aq,bw,ak⟩) Y<|al (cs:=[ay false,nw N au]) (by exact⟨aq,bw,ak⟩) Y<|ag Y<|dn<|qq<|aZ mixed<|fa Y Y<|lV Y Y Y<|bE h λja lW h=>cl (cu lW) ⟨Y,ak⟩<|fa Y Y ?_
 refine lV Y Y Y<|bE h λfy jo h=>cl (cu jo) ⟨Y,ak⟩<|ag Y<|ag Y ?_
 refine RT.done ⟨by kernel_rfl,?_⟩
 refine aV.n<|qq<|sr<|mv Y<|lE h λeI jP h=>ln Y jP<|lE h λkN lX h=>eq _ Y Y (zF (p:=eI) (q:=0) lX)<|dn ?_
 cases kN
 refine fs<|sr<|mv Y<|mv Y ?_
 obtain⟨⟨AU,DM⟩,oE,h⟩:=bS (F h)
 refine RT.bQ .none (pE N oE) hN Y ⟨Y,Y,ak⟩ T<|mv Y<|ex Y Y<|ex Y Y<|ag Y<|ag Y<|dn<|sr<|mv Y<|bE h λir mI h=>RT.bQ .none (pX N mI) hN Y ⟨Y,ak⟩ T<|ag Y<|dn<|qq<|qq ?_
 refine bC h (λj3=>AS.cq 52 [(2,.ptr 2 0),(3,.ptr 3 0),(4,.ptr 4 0),(5,.ptr 5 0),(8,.sv (slc 1 (List.map aX fy))),(9,.sv (nw N (slc 1 (List.map aX AU)))),(10,.sv (nw N (slc 1 (List.map aX ir)))),(36,ai j3.1)] [(5,⟨34,[ai false,.sv (nw N au)]⟩),(4,⟨34,[ai false,.sv (nw N au)]⟩),(3,⟨34,[ai bU,.sv (slc 1 (List.map aX bR))]⟩),(2,⟨34,[ai j3.2,.sv (slc 1 (List.map aX bn))]⟩)] []) (λh=>?_) (λj3 h=>?_)
 refine aW<|fa Y Y<|lV Y Y Y<|mv Y<|bE h λQ5 yZ h=>?_
 cases bp
 obtain rfl:=O (F yZ)
 exact ww<|ww<|ww<|pF Y<|dn<|⟨(false,false),h,wR []⟩
 refine gm Y<|lE (V yZ) λnQ sW yZ=>RT.FD (.some Y Y) Y T sW<|lE yZ λr6 A0 yZ=>gg _ Y Y A0 ?_
 obtain rfl:=O yZ
 exact pT Y<|dn<|⟨(r6,true),h,wR []⟩
 obtain⟨Mk,vC⟩:=j3
 try dsimp only
 refine aV.n ?_
 refine bC h (λj5=>AS.cq 52 [(2,.ptr 2 0),(3,.ptr 3 0),(4,.ptr 4 0),(5,.ptr 5 0),(9,.sv (nw N (slc 1 (List.map aX j5.1)))),(10,.sv (nw N (slc 1 (List.map aX j5.2))))] [(5,⟨34,[ai false,.sv (nw N au)]⟩),(4,⟨34,[ai false,.sv (nw N au)]⟩),(3,⟨34,[ai bU,.sv (slc 1 (List.map aX bR))]⟩),(2,⟨34,[ai vC,.sv (slc 1 (List.map aX bn))]⟩)] []) (λh=>?_) (λj5 h=>?_)
 cases Mk
 exact fs<|⟨(AU,ir),(F h),wR []⟩
 exact cT<|sr<|mv Y<|RT.wG (l:=[1]) (e:=aX) .none hN (.one Y (.nil)) T Y Y Y Y Y Y<|bE (V h) λpU Cp h=>RT.bQ .none ((pD N Cp).w (args':=[_,_]) ⟨dw,dw,ak⟩) hN Y ⟨Y,Y,ak⟩ T<|ag Y<|dn<|aW<|mv Y<|mv Y<|bE h λr7 DP h=>RT.bQ .none ((kW N DP).w (args':=[_,_]) ⟨aq,dw,ak⟩) hN Y ⟨Y,Y,ak⟩ T<|ag Y<|dn<|⟨(pU,r7),h,wR []⟩
 obtain⟨Ml,FO⟩:=j5
 try dsimp only
 refine aV.n<|sr<|fa Y Y<|lV Y Y Y<|fa Y Y<|lV Y Y Y<|lE h λsE zK h=>RT.Lq .none _ Y Y T zK<|mv Y ?_
 obtain⟨⟨FP,FR⟩,Tu,h⟩:=bS h
 refine RT.bQ .none (eT N Tu) hN Y ⟨Y,Y,ak⟩ T<|mv Y ?_
 obtain⟨⟨Q3,Q4⟩,Tv,h⟩:=bS h
 refine RT.bQ .none (eT N Tv) hN Y ⟨Y,Y,ak⟩ T<|so Y Y Y<|so Y Y Y<|ag Y<|dn<|bf ?_
 obtain rfl:=O h
 exact RZ (.agg Y Y (.k2 Y Y) Y (.agg Y Y (.k2 Y Y) Y (.tmp Y (.nil))))
 refine cT<|sr<|bI (cs:=[_,_]) (cs':=[ay false,nw N au]) (.nil) ⟨aq,bw,ak⟩<|bI (cs:=[_,_]) (cs':=[ay false,nw N au]) (.nil) ⟨aq,bw,ak⟩<|so Y Y Y<|so Y Y Y<|ag Y<|dn<|bf<|aV.r ?_
 obtain rfl:=O (V h)
 exact RZ (.agg Y Y (.k2 Y Y) Y (.agg Y Y (.k2 Y Y) Y (.tmp Y (.nil))))
theorem DX{x0:Zr}{x1:Zr}(N:Nat){r:Zr}(h:kD x0 x1=some r):dU af 124 N [.agg (eZ x0),.agg (eZ x1)] (.agg ((fZ N) r)):=by
 obtain⟨bp,bn⟩:=x0
 obtain⟨bU,bR⟩:=x1
 refine bP Tryz.func124 Y (ae Y) (λdm M vs hN hvs=>?_)
 unfold kD at h
 refine sr<|bx Y<|bx Y<|al (cs:=[ay false,nw N au]) (by exact⟨aq,bw,ak⟩) Y<|dn<|qq<|aZ mixed<|fa Y Y<|lV Y Y Y<|bE h λja lW h=>cl (cu lW) ⟨Y,ak⟩<|fa Y Y<|lV Y Y Y<|bE h λfy jo h=>cl (cu jo) ⟨Y,ak⟩<|ag Y<|ag Y ?_
 refine RT.done ⟨by kernel_rfl,?_⟩
 refine aV.n<|qq<|bE h λLj Ic kP=>?_
 refine bL (λ(yn:(List Nat)×(List Nat))=>AS.cq 57 [(4,.ptr 4 0),(5,.sv (slc 1 (List.map aX yn.1))),(6,.sv (slc 1 (List.map aX yn.2)))] [(4,⟨34,[ai false,.sv (nw N au)]⟩)] []) (λyn=>yn=Lj) ?_ (λyn Mr=>?_)
 refine bh ?_
 refine bM Ic (λzJ=>AS.cq 57 [(4,.ptr 4 0),(5,.sv (slc 1 (List.map aX zJ.1))),(6,.sv (slc 1 (List.map aX zJ.2)))] [(4,⟨34,[ai false,.sv (nw N au)]⟩)] []) (wR []) (λzJ y12 G12 h Ie Ig=>?_)
 obtain⟨Kx,DN⟩:=zJ
 try dsimp only
 refine qq<|qq ?_
 refine bC h (λXe=>AS.cq 57 [(4,.ptr 4 0),(5,.sv (slc 1 (List.map aX Kx))),(6,.sv (slc 1 (List.map aX DN))),(29,ai Xe)] [(4,⟨34,[ai false,.sv (nw N au)]⟩)] []) (λh=>?_) (λH8 h=>?_)
 refine aW<|mv Y<|lE h λeI jP h=>ln Y jP<|lE h λkN lX h=>gt _ Y Y lX<|mv Y<|bE h λMn pY h=>?_
 cases kN
 obtain rfl:=O (F pY)
 exact ww<|ww<|ww<|ww<|wu<|wu<|wu<|ww<|pF Y<|dn<|⟨false,h,wR []⟩
 refine gm Y<|lE (V pY) λgw lY pY=>gn Y lY<|lE pY λiQ o6 pY=>gg _ Y Y o6<|gm Y<|bE pY λMm rY pY=>?_
 cases iQ
 refine gm Y<|lE (F rY) λiS pW rY=>gn Y pW<|lE rY λiL o4 rY=>gg _ Y Y o4 ?_
 obtain rfl:=O rY
 refine gF Y ?_
 obtain rfl:=O pY
 exact pT Y<|dn<|⟨iL,h,wR []⟩
 obtain rfl:=O (V rY)
 refine ww<|ww<|ww<|gT Y ?_
 obtain rfl:=O pY
 exact pT Y<|dn<|⟨true,h,wR []⟩
 try dsimp only
 refine aV.n ?_
 cases H8
 refine cF<|bO<|aV.x<|aV.x<|bA.x<|aV.n ?_
 obtain rfl:=O (F h)
 exact⟨(Kx,DN),Ig _ Y,wR []⟩
 refine cT<|bu<|aV.n<|bh<|sr<|mv Y<|mv Y ?_
 obtain⟨⟨aal,WT⟩,va,h⟩:=bS (V h)
 refine RT.bQ .none (pE N va) hN Y ⟨Y,Y,ak⟩ T<|mv Y<|ex Y Y<|ex Y Y<|ag Y<|ag Y<|dn<|aW<|mv Y<|mv Y<|bE h λwH FU h=>RT.bQ .none (pX N FU) hN Y ⟨Y,ak⟩ T<|ag Y<|ag Y<|RT.done<|bA.n ?_
 obtain rfl:=O h
 exact aV.n ⟨(DN,wH),Ie _ Y,c6 id Y Y Y Y Y ⟨.ptr,.sv aq,.sv dw,ak⟩ ⟨⟨_,Y,⟨.sv aq,.sv aq,ak⟩⟩,ak⟩ trivial (λ_ _=>Y)⟩
 subst Mr
 obtain⟨Mo,Mp⟩:=yn
 try dsimp only
 refine aV.n<|qq<|sr<|mv Y<|lE kP λnY u0 kP=>ln Y u0<|lE kP λxP Ia kP=>eq _ Y Y (zF (p:=nY) (q:=0) Ia)<|dn ?_
 cases xP
 refine fs<|sr<|mv Y<|bE (F kP) λrN h46 kP=>cl (iF h46) ⟨Y,ak⟩<|mv Y<|bE kP λyf h48 kP=>cl (iF h48) ⟨Y,ak⟩<|ag Y<|ag Y<|dn<|qq<|bE kP λe24 abd TE=>?_
 refine bL (λ(CU:Nat)=>AS.cq 57 [(4,.ptr 4 0),(9,.sv (.v (.int .u64 ((CU:Nat):Int))))] [(4,⟨34,[ai false,.sv (nw N au)]⟩)] []) (λCU=>CU=e24) ?_ (λCU abe=>?_)
 refine bh ?_
 refine bM abd (λVD=>AS.cq 57 [(4,.ptr 4 0),(9,.sv (.v (.int .u64 ((VD.1:Nat):Int)))),(10,.sv (.v (.int .u64 ((VD.2:Nat):Int))))] [(4,⟨34,[ai false,.sv (nw N au)]⟩)] []) (wR []) (λVD y24 G24 h abf abg=>?_)
 obtain⟨Jq,yl⟩:=VD
 try dsimp only
 refine qq<|sr<|mv Y<|lE h λuW Ib h=>gt _ Y Y (YF (p:=0) (q:=yl) Ib)<|dn ?_
 cases uW
 refine cF<|bO<|aV.x<|aV.x<|bA.x<|aV.n ?_
 obtain rfl:=O (F h)
 exact⟨Jq,abg _ Y,wR []⟩
 refine cT<|bu<|aV.n<|bh<|aZ mixed<|mv Y<|mv Y<|mv Y<|bE (V h) λCn HB h=>RT.rem .none _ Y Y T (YG HB) (OW HB)<|ag Y<|ag Y ?_
 refine RT.done ⟨by kernel_rfl,?_⟩
 refine bA.n ?_
 obtain rfl:=O h
 exact aV.n ⟨(yl,Cn),abf _ Y,wR []⟩
 subst abe
 try dsimp only
 refine aV.n<|sr<|mv Y ?_
 obtain⟨⟨Q8,Q9⟩,Tw,TE⟩:=bS TE
 refine RT.bQ .none (jn N Tw) hN Y ⟨Y,Y,ak⟩ T<|so Y Y Y<|dn<|bf ?_
 obtain rfl:=O TE
 exact RZ (.agg Y Y (.k2 Y Y) Y (.nil))
 refine cT<|sr<|mv Y<|bE (V kP) λHA Oq kP=>RT.bQ .none (nH N Oq) hN Y ⟨Y,ak⟩ T ?_
 obtain⟨⟨Q6,Q7⟩,KB,kP⟩:=bS kP
 refine RT.bQ .none (eT N KB) hN Y ⟨Y,Y,ak⟩ T<|so Y Y Y<|dn<|bf<|aV.r ?_
 obtain rfl:=O kP
 exact RZ (.agg Y Y (.k2 Y Y) Y (.nil))
end
section
open Go.Fw
noncomputable def gW(x0:Zr)(x1:Zr)(x2:Zr)(x3:Zr):Option (Zr×Zr):=match x0 with|⟨bp,bn⟩=>match x1 with|⟨bU,bR⟩=>match x2 with|⟨sY,sZ⟩=>match x3 with|⟨Cq,Cr⟩=>(dg ⟨bp,bn⟩ ⟨Cq,Cr⟩).bind λ⟨jq,iZ⟩=>(dg ⟨sY,sZ⟩ ⟨bU,bR⟩).bind λ⟨kX,kY⟩=>(mU ⟨jq,iZ⟩ ⟨kX,kY⟩).bind λ⟨jl,jm⟩=>(dg ⟨bU,bR⟩ ⟨Cq,Cr⟩).bind λ⟨gx,gy⟩=>some (⟨jl,jm⟩,⟨gx,gy⟩)
noncomputable def gX(x0:Zr)(x1:Zr)(x2:Zr)(x3:Zr):Option (Zr×Zr):=match x0 with|⟨bp,bn⟩=>match x1 with|⟨bU,bR⟩=>match x2 with|⟨sY,sZ⟩=>match x3 with|⟨Cq,Cr⟩=>(dg ⟨bp,bn⟩ ⟨Cq,Cr⟩).bind λ⟨jq,iZ⟩=>(dg ⟨sY,sZ⟩ ⟨bU,bR⟩).bind λ⟨kX,kY⟩=>(mW ⟨jq,iZ⟩ ⟨kX,kY⟩).bind λ⟨jl,jm⟩=>(dg ⟨bU,bR⟩ ⟨Cq,Cr⟩).bind λ⟨gx,gy⟩=>some (⟨jl,jm⟩,⟨gx,gy⟩)
noncomputable def gY(x0:Zr)(x1:Zr)(x2:Zr)(x3:Zr):Option (Zr×Zr):=match x0 with|⟨bp,bn⟩=>match x1 with|⟨bU,bR⟩=>match x2 with|⟨sY,sZ⟩=>match x3 with|⟨Cq,Cr⟩=>(dg ⟨bp,bn⟩ ⟨sY,sZ⟩).bind λ⟨jq,iZ⟩=>(dg ⟨bU,bR⟩ ⟨Cq,Cr⟩).bind λ⟨kX,kY⟩=>some (⟨jq,iZ⟩,⟨kX,kY⟩)
noncomputable def dj(x0:Qr):Option (Zr×Zr):=match x0 with|⟨⟨bp,bn⟩,⟨bD,bF⟩⟩=>(cS ⟨bD,bF⟩).bind λx6=>(some (decide ((x6:Int)=0))).bind λx8=>(bif x8 then(bZ 1).bind λ⟨FX,FY⟩=>some (⟨bp,bn⟩,⟨FX,FY⟩)else(some (decide ((x6:Int)=(-1)))).bind λja=>(bif ja then(fE ⟨bp,bn⟩).bind λ⟨jl,jm⟩=>(fE ⟨bD,bF⟩).bind λ⟨gx,gy⟩=>some (⟨jl,jm⟩,⟨gx,gy⟩)else some (⟨bp,bn⟩,⟨bD,bF⟩)))
noncomputable def fF(x0:Zr)(x1:Zr):Option (Qr):=match x0 with|⟨bp,bn⟩=>match x1 with|⟨bU,bR⟩=>(cS ⟨bU,bR⟩).bind λx9=>(some (decide ((x9:Int)<0))).bind λdP=>cm (λ(j2:Bool×(List Nat)×Bool×(List Nat))=>match j2 with|⟨Ih,Ii,Ij,Ik⟩=>(kD ⟨Ij,Ik⟩ ⟨Ih,Ii⟩).bind λ⟨kZ,k7⟩=>(eR ⟨Ij,Ik⟩ ⟨kZ,k7⟩).bind λ⟨⟨A3,A4⟩,⟨TF,TG⟩,abh⟩=>(eR ⟨Ih,Ii⟩ ⟨kZ,k7⟩).bind λ⟨⟨yq,yt⟩,⟨TH,TI⟩,abi⟩=>(di ⟨yq,yt⟩).bind λ⟨TJ,TK⟩=>cm (λ(Ms:Bool)=>cm (λ(j7:Bool×(List Nat))=>match j7 with|⟨Il,Im⟩=>some ⟨⟨A3,A4⟩,⟨Il,Im⟩⟩) λK7=>(bif Ms then K7 (false,[])else K7 (yq,yt))) λK5=>(bif TK then(some (decide ((TJ:Int)=1))).bind λnY=>some nY else some false).bind λRd=>K5 Rd) λK2=>(bif dP then(fE ⟨bp,bn⟩).bind λ⟨jq,iZ⟩=>(fE ⟨bU,bR⟩).bind λ⟨A5,A6⟩=>K2 (A5,A6,jq,iZ)else K2 (bU,bR,bp,bn))
noncomputable def ei(x0:Qr):Option (Int×Int×Bool):=match x0 with|⟨⟨bp,bn⟩,⟨bD,bF⟩⟩=>(di ⟨bp,bn⟩).bind λ⟨DY,KE⟩=>(di ⟨bD,bF⟩).bind λ⟨Cs,Xf⟩=>cm (λ(Io:Bool)=>(bif Io then some (0,0,false)else(some (decide ((Cs:Int)=0))).bind λHA=>cm (λ(VE:Int×Int)=>match VE with|⟨Re,Rf⟩=>some (Re,Rf,true)) λK24=>(bif HA then K24 (DY,1)else(some (decide ((Cs:Int)<0))).bind λrN=>cm (λ(VF:Int×Int)=>match VF with|⟨Mt,Mu⟩=>K24 (Mt,Mu)) λK26=>(bif rN then(some (IntKind.i64.wrap (0-DY))).bind λyf=>(some (IntKind.i64.wrap (0-Cs))).bind λuW=>K26 (yf,uW)else K26 (DY,Cs))))) λK21=>(some (!KE)).bind λke=>(bif ke then some true else(some (!Xf)).bind λiQ=>some iQ).bind λMv=>(bif Mv then some true else(some (decide ((DY:Int)≤(-2147483648)))).bind λiL=>some iL).bind λTL=>(bif TL then some true else(some (decide ((2147483648:Int)≤DY))).bind λoh=>some oh).bind λTM=>(bif TM then some true else(some (decide ((Cs:Int)≤(-2147483648)))).bind λr6=>some r6).bind λTN=>(bif TN then some true else(some (decide ((2147483648:Int)≤Cs))).bind λpU=>some pU).bind λTO=>K21 TO
noncomputable def gG(x0:Int)(x1:Int):Option (Qr):=(b9 (λ(s6:Int×Int)=>match s6 with|⟨nG,rZ⟩=>(show Option ((Int×Int)⊕(Int))from(some (decide ((rZ:Int)≠0))).bind λdP=>(bif dP then(Ce nG rZ).bind λdW=>some (.inl (rZ,dW))else some (.inr nG)))) (x0,x1)).bind λuI=>(some (decide ((uI:Int)<0))).bind λfy=>cm (λ(KF:Int)=>(some (decide ((KF:Int)=x1))).bind λgO=>(bif gO then(rX x0 KF).bind λgV=>(bZ gV).bind λ⟨sJ,rO⟩=>some ⟨⟨sJ,rO⟩,⟨false,[]⟩⟩else(rX x0 KF).bind λir=>(bZ ir).bind λ⟨wQ,wS⟩=>(rX x1 KF).bind λmS=>(bZ mS).bind λ⟨Mw,My⟩=>some ⟨⟨wQ,wS⟩,⟨Mw,My⟩⟩)) λK8=>(bif fy then(some (IntKind.i64.wrap (0-uI))).bind λeI=>K8 eI else K8 uI)
noncomputable def pG(x0:Int):Option (Int):=(some (decide ((x0:Int)<0))).bind λx5=>(bif x5 then some (-1)else(some (decide ((0:Int)<x0))).bind λx8=>(bif x8 then some 1 else some 0))
noncomputable def jr(x1:Qr)(x2:Qr):Option (Qr):=match x1 with|⟨⟨bU,bR⟩,⟨dx,dy⟩⟩=>match x2 with|⟨⟨sY,sZ⟩,⟨FZ,F0⟩⟩=>(dj ⟨⟨bU,bR⟩,⟨dx,dy⟩⟩).bind λ⟨⟨mm,mu⟩,⟨nI,nJ⟩⟩=>(dj ⟨⟨sY,sZ⟩,⟨FZ,F0⟩⟩).bind λ⟨⟨iG,iH⟩,⟨k8,lf⟩⟩=>(gW ⟨mm,mu⟩ ⟨nI,nJ⟩ ⟨iG,iH⟩ ⟨k8,lf⟩).bind λ⟨⟨oG,oH⟩,⟨oI,oJ⟩⟩=>(fF ⟨oG,oH⟩ ⟨oI,oJ⟩).bind λ⟨⟨uZ,sI⟩,⟨y4,y5⟩⟩=>some ⟨⟨uZ,sI⟩,⟨y4,y5⟩⟩
noncomputable def jt(x1:Qr)(x2:Qr):Option (Qr):=match x1 with|⟨⟨bU,bR⟩,⟨dx,dy⟩⟩=>match x2 with|⟨⟨sY,sZ⟩,⟨FZ,F0⟩⟩=>(dj ⟨⟨bU,bR⟩,⟨dx,dy⟩⟩).bind λ⟨⟨mm,mu⟩,⟨nI,nJ⟩⟩=>(dj ⟨⟨sY,sZ⟩,⟨FZ,F0⟩⟩).bind λ⟨⟨iG,iH⟩,⟨k8,lf⟩⟩=>(gX ⟨mm,mu⟩ ⟨nI,nJ⟩ ⟨iG,iH⟩ ⟨k8,lf⟩).bind λ⟨⟨oG,oH⟩,⟨oI,oJ⟩⟩=>(fF ⟨oG,oH⟩ ⟨oI,oJ⟩).bind λ⟨⟨uZ,sI⟩,⟨y4,y5⟩⟩=>some ⟨⟨uZ,sI⟩,⟨y4,y5⟩⟩
noncomputable def ju(x1:Qr)(x2:Qr):Option (Qr):=match x1 with|⟨⟨bU,bR⟩,⟨dx,dy⟩⟩=>match x2 with|⟨⟨sY,sZ⟩,⟨FZ,F0⟩⟩=>(dj ⟨⟨bU,bR⟩,⟨dx,dy⟩⟩).bind λ⟨⟨mm,mu⟩,⟨nI,nJ⟩⟩=>(dj ⟨⟨sY,sZ⟩,⟨FZ,F0⟩⟩).bind λ⟨⟨iG,iH⟩,⟨k8,lf⟩⟩=>(gY ⟨mm,mu⟩ ⟨nI,nJ⟩ ⟨iG,iH⟩ ⟨k8,lf⟩).bind λ⟨⟨oG,oH⟩,⟨oI,oJ⟩⟩=>(fF ⟨oG,oH⟩ ⟨oI,oJ⟩).bind λ⟨⟨uZ,sI⟩,⟨y4,y5⟩⟩=>some ⟨⟨uZ,sI⟩,⟨y4,y5⟩⟩
noncomputable def cZ(x0:Int):Option (Qr):=(bZ x0).bind λ⟨lj,lp⟩=>some ⟨⟨lj,lp⟩,⟨false,[]⟩⟩
noncomputable def eE(x0:Qr):Option (Qr):=match x0 with|⟨⟨bp,bn⟩,⟨bD,bF⟩⟩=>(ei ⟨⟨bp,bn⟩,⟨bD,bF⟩⟩).bind λ⟨x8a,x8b,x8c⟩=>(bif x8c then(gG x8a x8b).bind λ⟨⟨kX,kY⟩,⟨F1,F2⟩⟩=>some ⟨⟨kX,kY⟩,⟨F1,F2⟩⟩else(dj ⟨⟨bp,bn⟩,⟨bD,bF⟩⟩).bind λ⟨⟨Mz,MA⟩,⟨MB,MC⟩⟩=>(fF ⟨Mz,MA⟩ ⟨MB,MC⟩).bind λ⟨⟨rQ,rR⟩,⟨w5,w6⟩⟩=>some ⟨⟨rQ,rR⟩,⟨w5,w6⟩⟩)
noncomputable def jv(x0:Qr):Option (Int):=match x0 with|⟨⟨bp,bn⟩,⟨bD,bF⟩⟩=>(cS ⟨bD,bF⟩).bind λx5=>(some (decide ((x5:Int)<0))).bind λx6=>(bif x6 then(cS ⟨bp,bn⟩).bind λx9=>(some (IntKind.i64.wrap (0-x9))).bind λdP=>some dP else(cS ⟨bp,bn⟩).bind λja=>some ja)
noncomputable def mw(x0:Qr)(x1:Qr):Option (Qr):=match x0 with|⟨⟨bp,bn⟩,⟨bD,bF⟩⟩=>match x1 with|⟨⟨bU,bR⟩,⟨dx,dy⟩⟩=>(ei ⟨⟨bp,bn⟩,⟨bD,bF⟩⟩).bind λ⟨A7,yu,A8⟩=>(ei ⟨⟨bU,bR⟩,⟨dx,dy⟩⟩).bind λ⟨A9,yw,Ba⟩=>cm (λ(tc:Bool)=>(bif tc then(some (IntKind.i64.wrap (A7*yw))).bind λir=>(some (IntKind.i64.wrap (A9*yu))).bind λji=>(some (IntKind.i64.wrap (ir+ji))).bind λmS=>(some (IntKind.i64.wrap (yu*yw))).bind λsG=>(gG mS sG).bind λ⟨⟨F3,F4⟩,⟨F5,F6⟩⟩=>some ⟨⟨F3,F4⟩,⟨F5,F6⟩⟩else(jr ⟨⟨bp,bn⟩,⟨bD,bF⟩⟩ ⟨⟨bU,bR⟩,⟨dx,dy⟩⟩).bind λ⟨⟨yW,yX⟩,⟨F7,F8⟩⟩=>some ⟨⟨yW,yX⟩,⟨F7,F8⟩⟩)) λK3=>(bif A8 then some Ba else some false).bind λy7=>K3 y7
noncomputable def my(x0:Qr)(x1:Qr):Option (Qr):=match x0 with|⟨⟨bp,bn⟩,⟨bD,bF⟩⟩=>match x1 with|⟨⟨bU,bR⟩,⟨dx,dy⟩⟩=>(ei ⟨⟨bp,bn⟩,⟨bD,bF⟩⟩).bind λ⟨A7,yu,A8⟩=>(ei ⟨⟨bU,bR⟩,⟨dx,dy⟩⟩).bind λ⟨A9,yw,Ba⟩=>cm (λ(tc:Bool)=>(bif tc then(some (IntKind.i64.wrap (A7*yw))).bind λir=>(some (IntKind.i64.wrap (A9*yu))).bind λji=>(some (IntKind.i64.wrap (ir-ji))).bind λmS=>(some (IntKind.i64.wrap (yu*yw))).bind λsG=>(gG mS sG).bind λ⟨⟨F3,F4⟩,⟨F5,F6⟩⟩=>some ⟨⟨F3,F4⟩,⟨F5,F6⟩⟩else(jt ⟨⟨bp,bn⟩,⟨bD,bF⟩⟩ ⟨⟨bU,bR⟩,⟨dx,dy⟩⟩).bind λ⟨⟨yW,yX⟩,⟨F7,F8⟩⟩=>some ⟨⟨yW,yX⟩,⟨F7,F8⟩⟩)) λK3=>(bif A8 then some Ba else some false).bind λy7=>K3 y7
noncomputable def kg(x0:Qr)(x1:Qr):Option (Qr):=match x0 with|⟨⟨bp,bn⟩,⟨bD,bF⟩⟩=>match x1 with|⟨⟨bU,bR⟩,⟨dx,dy⟩⟩=>(ei ⟨⟨bp,bn⟩,⟨bD,bF⟩⟩).bind λ⟨A7,yu,A8⟩=>(ei ⟨⟨bU,bR⟩,⟨dx,dy⟩⟩).bind λ⟨A9,yw,Ba⟩=>cm (λ(tc:Bool)=>(bif tc then(some (IntKind.i64.wrap (A7*A9))).bind λir=>(some (IntKind.i64.wrap (yu*yw))).bind λji=>(gG ir ji).bind λ⟨⟨F9,Ga⟩,⟨Rg,Rh⟩⟩=>some ⟨⟨F9,Ga⟩,⟨Rg,Rh⟩⟩else(ju ⟨⟨bp,bn⟩,⟨bD,bF⟩⟩ ⟨⟨bU,bR⟩,⟨dx,dy⟩⟩).bind λ⟨⟨sK,sL⟩,⟨Gb,Gc⟩⟩=>some ⟨⟨sK,sL⟩,⟨Gb,Gc⟩⟩)) λK3=>(bif A8 then some Ba else some false).bind λy7=>K3 y7
noncomputable def jw(x0:Qr):Option (Qr):=match x0 with|⟨⟨bp,bn⟩,⟨bD,bF⟩⟩=>(eE ⟨⟨bp,bn⟩,⟨bD,bF⟩⟩).bind λ⟨⟨w7,zL⟩,⟨Ct,DZ⟩⟩=>(fE ⟨w7,zL⟩).bind λ⟨o9,pg⟩=>some ⟨⟨o9,pg⟩,⟨Ct,DZ⟩⟩
noncomputable def mz(x0:Qr)(x1:Qr):Option (Int):=match x0 with|⟨⟨bp,bn⟩,⟨bD,bF⟩⟩=>match x1 with|⟨⟨bU,bR⟩,⟨dx,dy⟩⟩=>(dj ⟨⟨bp,bn⟩,⟨bD,bF⟩⟩).bind λ⟨⟨mm,mu⟩,⟨nI,nJ⟩⟩=>(dj ⟨⟨bU,bR⟩,⟨dx,dy⟩⟩).bind λ⟨⟨iG,iH⟩,⟨k8,lf⟩⟩=>(cS ⟨mm,mu⟩).bind λgw=>(cS ⟨iG,iH⟩).bind λgV=>cm (λ(MD:Bool)=>(bif MD then(some (IntKind.i64.wrap (gw-gV))).bind λnQ=>(pG nQ).bind λr6=>some r6 else(dg ⟨mm,mu⟩ ⟨k8,lf⟩).bind λ⟨Ri,Rj⟩=>(dg ⟨iG,iH⟩ ⟨nI,nJ⟩).bind λ⟨Rk,Rl⟩=>(mX ⟨Ri,Rj⟩ ⟨Rk,Rl⟩).bind λr7=>some r7)) λK3=>(some (decide ((gw:Int)≠gV))).bind λiL=>(bif iL then some true else(some (decide ((gw:Int)=0))).bind λye=>some ye).bind λRm=>K3 Rm
end
end Go.Proofs.YtfoldppidpmchaaGreat
