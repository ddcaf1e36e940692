/- A part of the proof: the framework, the plain functions, the followed functions, the plain laws. -/
import Derived.Test.YtningmnklfpfjaaGreatPTM1
set_option linter.unusedVariables false
set_option linter.unusedSimpArgs false
namespace Go.Fw
section
open Go.RowKit
inductive Src (S:AS) (E0:TypeId) (n:Nat):Operand→List (Nat×qO)→List Nat→Nat→List SV→Prop
 |nil {x:Operand} (h:S.ev x=.sv (.v (.slice none 0 0))):Src S E0 n x [] [] 0 []
 |row {x:Operand} {i m:Nat} {cs:List SV} (h:S.ev x=.row i) (hR:S.r i=.live ⟨E0,n,m,cs⟩):Src S E0 n x [(i,.dead)] [i] m cs
theorem VY{i:Nat}{X:SV}{x:AV}(h:¬x.mr i):x.uX i X=x:=by
 cases x with
 |row k=>simp only[AV.uX];rw[bV (λe=>h e.symm)];rfl
 |nB k o=>simp only[AV.uX];rw[bV (λe=>h e.symm)];rfl
 |uW k o l=>simp only[AV.uX];rw[bV (λe=>h e.symm)];rfl
 |cmp t js=>
  simp only[AV.uX]
  have:js.any (Fc.FW i)=false:=by
   cases e:js.any (Fc.FW i)with
   |false=>rfl
   |true=>
    obtain⟨c,hc,hi⟩:=List.any_eq_true.1 e
    cases c with
    |row j=>have hi:Nat.beq j i=true:=hi;obtain rfl:=Nat.eq_of_beq_eq_true hi;exact absurd hc h
    |_=>cases hi
  rw[this];rfl
 |_=>rfl
section steps
variable {P:Program}{C:Ctx}{ops:Array Oper}{S:AS}{nd:Bool}{K:List Ac→AS→Prop}{rest:List Oper}{acc:List Ac}
variable {gd:Option (Nat×Bool)}{rg:List Nat}{d:Nat}{ty:TypeId}{pos:String}{aft:Array Edge}{x y z:Operand}{T U E0:TypeId}
theorem Src.val{E:Env}{a:Act}{w:World}{S':AS}{n m:Nat}{old:List (Nat×qO)}{rr:List Nat}{cs:List SV}(h:bC C S' E a w)(hx:Src S E0 n x old rr m cs)(ht:∀s∈bp x,S'.t s=S.t s)(hr:∀i∈rr,S'.r i=S.r i):
  (∃vs,w.ownsRow 0 E0 n (a.eval x) m vs∧SV.gw E.M cs vs)∧((old=[]∧(a.eval x).ownBlock=none)∨∃i R,old=[(i,.dead)]∧S'.r i=.live R∧(a.eval x).ownBlock=(E.ν i).ownBlock):=by
 cases hx with
 |nil hx=>
  have h1:a.eval x=.slice none 0 0:=by have h1:=h.ev x;rw[bQ (λ_ h=>h) ht,hx]at h1;exact h1
  rw[h1]
  exact⟨⟨[],World.ownsRow_nil _ _ _ _,ak⟩,.inl ⟨Y,Y⟩⟩
 | @row i _ _ hx hR=>
  have h1:a.eval x=E.ν i:=by have h1:=h.ev x;rw[bQ (λ_ h=>h) ht,hx]at h1;exact h1
  have vW:=(hr i (by simp)).trans hR
  rw[h1]
  obtain⟨⟨vs,h2,h3⟩,_⟩:=h.rx i _ vW
  exact⟨⟨vs,h2,h3⟩,.inr ⟨i,_,Y,vW,Y⟩⟩
theorem RT.Mf(hg:Gd ops S gd rg){n by_:Nat}{zv:Value}[tS:gU P T E0 n][tE:nS P E0 n by_ zv]{old:List (Nat×qO)}{rr:List Nat}{m:Nat}{cs:List SV}{s:SV}{rows:List (List SV)}[hs:ZU s n rows]
  (hx:Src S E0 n x old rr m cs) (hy:S.ev y=.sv s) (hd:d<S.n) (uF:S.r d=.un) (Cr:d<1000) (hroom:(m+rows.length)*by_≤140737488355328) (AN:m+rows.length≤140737488355328)
  (X:SV) {rows':List (List SV)} (hX:∀M v,(slc n rows').h M v→(∀g,v.ownBlock=some g→(C.w0.heap.size≤g∨C.BO g)∧∃o,M g o=some (.agg #[]))→X.h M v) (nT:Rows n rows' (cs++rows.flatten)) (hlen:rows'.length=m+rows.length) (hone:∀M vs,SV.gw M (cs++rows.flatten) vs→∀v∈vs,v.oneCell'=true)
  (next:RunT P C ops nd K rest (⟨rg++(bp x++bp y),[],d::rr,⟨some (d,.sv X),[],old++[(d,.dead)]⟩⟩::acc) ((AS.cO (old++[(d,.dead)]) S).set d (.sv X))):RunT P C ops nd K (⟨some d,.call ⟨.builtin .append,#[x,y],#[T,T]⟩,ty,pos,aft,gd⟩::rest) acc S:=by
 refine .inl ⟨_,[],d::rr,_,?_,next⟩
 rintro S' hn ht _ hr i a w L Q ho ⟨E,h⟩ hL
 refine dy (C:=C) ho (hg.wanted h (λs hs=>ht s (List.mem_append_left _ hs)) Y) ?_
 obtain⟨⟨vs,hown,hvs⟩,hold⟩:=hx.val h (λs hs=>ht s (List.mem_append_right _ (List.mem_append_left _ hs))) (λi hi=>hr i (List.mem_cons_of_mem _ hi))
 have h2:=h.ev y
 rw[bQ (λ_ h=>List.mem_append_right _ (List.mem_append_right _ h)) ht,hy]at h2
 obtain⟨info,hi,hsz,hby,hz⟩:=nS.info (P:=P) (E:=E0) (n:=n) (by_:=by_) (z:=zv)
 have Ue:S'.r d=.un:=by rw[hr d (by simp)];exact uF
 have run:∃v' w' vs',(Builtin.append_ #[T,T] ty #[a.eval x,a.eval y]).run P w=.ok v' w'∧w'.ownsRow 0 E0 n v' (m+rows.length) vs'∧SV.gw E.M (cs++rows.flatten) vs'∧w.grownBy w' (a.eval x).ownBlock∧(v'.ownBlock=(a.eval x).ownBlock∨v'.ownBlock=some w.heap.size∨v'.ownBlock=none):=by
  rcases hs.h _ _ h2 with⟨a0,e,e2⟩|⟨b,o,c,e,hc,Od,hrow⟩
  ·rw[e,e2]
   cases a0 with
   |none=>exact⟨_,_,vs,run_append_owned_none w 0 T ty E0 info n tS.u hi _ m vs hown,by simpa using hown,by simpa using hvs,⟨Y,Y,Y,Nat.le_refl _,λ_ _ _=>Y⟩,.inl Y⟩
   |some a0=>
    rw[e2,List.length_nil]at hroom AN
    obtain⟨v',w',q1,q2,q3,_,q4⟩:=run_append_own_at (P:=P) w 0 T ty E0 info zv n by_ tS.u hi hz hsz hby tE.z tE.p _ m vs hown a0 0 0 [] (by simp) (by simp) (by simp) (by unfold maxLen;omega) hroom (Nat.zero_le _)
    exact⟨v',w',vs,q1,by simpa using q2,by simpa using hvs,q3,q4.imp id .inl⟩
  ·obtain⟨us,g1,g2,g3,g4⟩:=HR rows o hrow
   rw[e]
   obtain⟨v',w',q1,q2,q3,_,q4⟩:=run_append_own_at (P:=P) w 0 T ty E0 info zv n by_ tS.u hi hz hsz hby tE.z tE.p _ m vs hown ⟨b,o,none⟩ rows.length c us g2 (λj u hj=>by rw[jN];exact(h.ep _ _ _ (g4 j u hj)).cell (g3 u (List.mem_of_getElem? hj))) g3 (by unfold maxLen;omega) hroom (Nat.zero_le _)
   exact⟨v',w',vs++us,q1,q2,SV.gw.append hvs g1,q3,q4.imp id .inl⟩
 obtain⟨v',w',vs',q1,q2,q3,q4,q5⟩:=run
 have hr':(execOp a.eval ⟨some d,.call ⟨.builtin .append,#[x,y],#[T,T]⟩,ty,pos,aft,gd⟩).run P w=.ok (.value v') w':=by
  simp[execOp,resolve,invoke,builtin,q1]
 have SS:∀(l:List (Nat×qO)) (R:qO) (j:Nat),fy (l++[(d,R)]) j=if j=d then some R else fy l j:=by
  intro l R j
  induction l with
  |nil=>rfl
  |cons p l ih=>
   obtain⟨i,R'⟩:=p
   rw[List.cons_append,fy,fy,ih]
   by_cases e:j=d
   ·simp[e]
   ·simp[e]
 have h3:=(h.newRow Ue Cr old (a.eval x).ownBlock hold (R':=⟨E0,n,m+rows.length,cs++rows.flatten⟩) q2 q3 q5 q4).put (d:=d) (x:=.row d) (v:=v') (by simp[AV.holds]) (by rw[(ic _ _).1];omega) ⟨λ_ e=>e.elim,λj e=>by
  cases e
  rw[pM,SS];simp⟩
 have hRd:(AS.set (AS.cO (old++[(d,qO.live ⟨E0,n,m+rows.length,cs++rows.flatten⟩)]) S') d (.row d)).r d=.live ⟨E0,n,m+rows.length,cs++rows.flatten⟩:=by
  show(AS.cO _ S').r d=_
  rw[pM,SS];simp
 obtain⟨E',h4⟩:=h3.uX hRd nT hlen (Nat.le_trans AN (by decide)) hone hX
 have e:(AS.set (AS.cO (old++[(d,qO.live ⟨E0,n,m+rows.length,cs++rows.flatten⟩)]) S') d (.row d)).uX d X=S'.app ⟨some (d,.sv X),[],old++[(d,.dead)]⟩:=by
  have n1:=ic (old++[(d,qO.live ⟨E0,n,m+rows.length,cs++rows.flatten⟩)]) S'
  have n2:=ic (old++[(d,qO.dead)]) S'
  refine AS.ext' ?_ (λt=>?_) (λj=>?_) (λj=>?_) ?_ ?_
  ·show(AS.cO _ S').n=(AS.cO _ S').n
   rw[n1.1,n2.1]
  ·rw[AS.Vv]
   show((AS.set (AS.cO _ S') d (.row d)).t t).uX d X=_
   by_cases e:t=d
   ·subst e;rw[AS.nQ];simp[AV.uX,wT]
   ·rw[AS.lI _ _ _ _ e,n1.2.1,VY (λhm=>h.wf.tr t d hm Ue)];simp[wT,e]
  ·rw[AS.Vw]
   show((AS.cO _ S').b j).map _=_
   rw[n1.2.2.1]
   simp only[AG,Option.getD_none]
   cases hb:S'.b j with
   |none=>rfl
   |some B=>
    rw[Option.map_some]
    have:B.cells.map (AV.uX d X)=B.cells:=by
     conv=>rhs;rw[←List.map_id B.cells]
     exact List.map_congr_left λc hc=>VY (λhm=>h.wf.br j B hb c hc d hm Ue)
    rw[this]
  ·rw[AS.Vx]
   show(bif Nat.beq j d then qO.dead else(AS.cO _ S').r j)=_
   rw[pM,SS,SS]
   by_cases e:j=d
   ·subst e;simp
   ·simp[bV e,e]
  ·rw[(AS.SH _ _).1];exact n1.2.2.2.1
  ·rw[(AS.SH _ _).2];exact n1.2.2.2.2
 exact dm (C:=C) (by intro c h;cases h) hr' (hL _ _ ⟨E',e▸h4⟩)
end steps
end
section
open Go.RowKit
def cE{J R:Type}(k:J→Option R)(f:(J→Option R)→Option R):Option R:=f k
theorem bind_some{α β:Type}{x:Option α}{f:α→Option β}{r:β}(h:Option.bind x f=some r):∃a,x=some a∧f a=some r:=by
 cases x with
 |none=>cases h
 |some a=>exact⟨a,Y,h⟩
theorem sk{b w:Bool}(h:(b==w)=false):b≠w:=by cases b<;>cases w<;>simp_all
def cL{α:Type}(l:List α)(i:Int):Option α:=if 0≤i then l[i.toNat]? else none
def kW{α:Type}(l:List α)(i:Int):Option Nat:=if 0≤i∧i<l.length then some i.toNat else none
def GD{α:Type}(l:List α)(lo hi:Int):Option (List α):=if 0≤lo∧lo≤hi∧hi≤l.length then some (cut l lo.toNat hi.toNat)else none
def nC{α:Type}(by_:Nat)(l k:List α):Option (List α):=if(l.length+k.length)*by_≤140737488355328∧l.length+k.length≤140737488355328 then some (l++k)else none
def Hf{α:Type}(by_:Nat)(c:Int)(z:α):Option (List α):=if 0≤c∧by_*c≤281474976710656∧c≤140737488355328 then some (List.replicate c.toNat z)else none
def VZ{α:Type}(by_:Nat)(c:Int):Option (List α):=if 0≤c∧by_*c≤281474976710656∧c≤140737488355328 then some []else none
def stM{α:Type}(l:List α)(n:Nat)(y:α):Option (List α):=if n<l.length then some (l.set n y)else none
def Aw(a b:Int):Option Int:=if b=0 then none else some (IntKind.i64.wrap (a.tdiv b))
def Kf(a b:Int):Option Int:=if b=0 then none else some (a.tmod b)
def Mg(M a b:Nat):Option Nat:=if b=0 then none else some (a/b%M)
def Kg(a b:Nat):Option Nat:=if b=0 then none else some (a%b)
def wj(M a b:Nat):Nat:=(((a:Int)-b)%M).toNat
theorem yC{α:Type}{l:List α}{i:Int}{a:α}(h:cL l i=some a):0≤i∧l[i.toNat]? =some a:=by
 unfold cL at h;split at h
 ·exact⟨by assumption,h⟩
 ·cases h
theorem V0{α:Type}{l:List α}{i:Int}{k:Nat}(h:kW l i=some k):0≤i∧i<l.length∧i.toNat=k:=by
 unfold kW at h;split at h
 ·rename_i hh;exact⟨hh.1,hh.2,Option.some.inj h⟩
 ·cases h
theorem KZ{α:Type}{l l':List α}{a b:Int}(h:GD l a b=some l'):0≤a∧a≤b∧b≤l.length∧cut l a.toNat b.toNat=l':=by
 unfold GD at h;split at h
 ·rename_i hh;exact⟨hh.1,hh.2.1,hh.2.2,Option.some.inj h⟩
 ·cases h
theorem AQ{α:Type}{by_:Nat}{l k l':List α}(h:nC by_ l k=some l'):(l.length+k.length)*by_≤140737488355328∧l.length+k.length≤140737488355328∧l++k=l':=by
 unfold nC at h;split at h
 ·rename_i hh;exact⟨hh.1,hh.2,Option.some.inj h⟩
 ·cases h
theorem V1{α:Type}{by_:Nat}{c:Int}{z:α}{l':List α}(h:Hf by_ c z=some l'):0≤c∧by_*c≤281474976710656∧c≤140737488355328∧List.replicate c.toNat z=l':=by
 unfold Hf at h;split at h
 ·rename_i hh;exact⟨hh.1,hh.2.1,hh.2.2,Option.some.inj h⟩
 ·cases h
theorem V3{α:Type}{by_:Nat}{c:Int}{l':List α}(h:VZ by_ c=some l'):0≤c∧by_*c≤281474976710656∧c≤140737488355328∧[]=l':=by
 unfold VZ at h;split at h
 ·rename_i hh;exact⟨hh.1,hh.2.1,hh.2.2,Option.some.inj h⟩
 ·cases h
theorem On{α:Type}{l l':List α}{n:Nat}{y:α}(h:stM l n y=some l'):n<l.length∧l.set n y=l':=by
 unfold stM at h;split at h
 ·rename_i hh;exact⟨hh,Option.some.inj h⟩
 ·cases h
def vc{S E:Type}(body:S→Option (S⊕E)):Nat→S→Option E
 |0,_=>none
 |n+1,s=>match body s with
  |some (.inl s')=>vc body n s'
  |some (.inr e)=>some e
  |none=>none
theorem CR{S E:Type}{body:S→Option (S⊕E)}:∀{n m:Nat} {s:S} {e:E},n≤m→vc body n s=some e→vc body m s=some e
 |0,_,_,_,_,h=>by cases h
 |n+1,0,_,_,hm,_=>by omega
 |n+1,m+1,s,e,hm,h=>by
  unfold vc at h⊢
  cases hb:body s with
  |none=>rw[hb]at h;cases h
  |some y=>
   rw[hb]at h
   cases y with
   |inl s'=>exact CR (by omega) h
   |inr e'=>exact h
open Classical in
noncomputable def bX{S E:Type}(body:S→Option (S⊕E))(s:S):Option E:=if h:∃n e,vc body n s=some e then some (Classical.choose (Classical.choose_spec h))else none
theorem CS{S E:Type}{body:S→Option (S⊕E)}{s:S}{e:E}(h:bX body s=some e):∃n,vc body n s=some e:=by
 unfold bX at h
 split at h
 ·rename_i hh
  exact⟨_,by rw[←Option.some.inj h];exact Classical.choose_spec (Classical.choose_spec hh)⟩
 ·cases h
theorem H9{S E:Type}{body:S→Option (S⊕E)}{s:S}{e:E}{n:Nat}(h:vc body n s=some e):bX body s=some e:=by
 have hh:∃n e,vc body n s=some e:=⟨n,e,h⟩
 unfold bX
 rw[dif_pos hh]
 have h2:=Classical.choose_spec (Classical.choose_spec hh)
 have h3:=CR (Nat.le_max_left n (Classical.choose hh)) h
 have h4:=CR (Nat.le_max_right n (Classical.choose hh)) h2
 rw[h3]at h4
 exact h4.symm
theorem CT{S E:Type}{body:S→Option (S⊕E)}{s:S}{e:E}(h:body s=some (.inr e)):bX body s=some e:=H9 (n:=1) (by simp[vc,h])
theorem Ia{S E:Type}{body:S→Option (S⊕E)}{s s':S}(h:body s=some (.inl s')):bX body s=bX body s':=by
 cases hl:bX body s' with
 |some e=>obtain⟨n,hn⟩:=CS hl;exact H9 (n:=n+1) (by simp[vc,h,hn])
 |none=>
  cases hl2:bX body s with
  |none=>rfl
  |some e=>
   obtain⟨n,hn⟩:=CS hl2
   cases n with
   |zero=>cases hn
   |succ n=>simp only[vc,h]at hn;rw[H9 hn]at hl;cases hl
theorem yD{S E:Type}{body:S→Option (S⊕E)}(I:S→Prop)(Post:E→Prop)(μ:S→Nat)
  (step:∀s,I s→(∃s',body s=some (.inl s')∧I s'∧μ s'<μ s)∨(∃e,body s=some (.inr e)∧Post e)) {s:S} (h:I s):∃e,bX body s=some e∧Post e:=by
 have key:∀(n:Nat) (s:S),μ s≤n→I s→∃e,bX body s=some e∧Post e:=by
  intro n
  induction n with
  |zero=>
   intro s hn hs
   rcases step s hs with⟨s',_,_,h3⟩|⟨e,h1,h2⟩
   ·omega
   ·exact⟨e,CT h1,h2⟩
  |succ n ih=>
   intro s hn hs
   rcases step s hs with⟨s',h1,h2,h3⟩|⟨e,h1,h2⟩
   ·obtain⟨e,q1,q2⟩:=ih s' (by omega) h2
    exact⟨e,by rw[Ia h1];exact q1,q2⟩
   ·exact⟨e,CT h1,h2⟩
 exact key _ s (Nat.le_refl _) h
theorem V4{S E:Type}{body:S→Option (S⊕E)}(st:Nat→S)(n:Nat){e:E}(hs:∀k,k<n→body (st k)=some (.inl (st (k+1))))(he:body (st n)=some (.inr e)):bX body (st 0)=some e:=by
 have key:∀k,k≤n→bX body (st (n-k))=some e:=by
  intro k
  induction k with
  |zero=>intro _;exact CT he
  |succ k ih=>
   intro hk
   rw[Ia (hs (n-(k+1)) (by omega)),show n-(k+1)+1=n-k by omega]
   exact ih (by omega)
 have:=key n (Nat.le_refl _)
 rwa[Nat.sub_self]at this
theorem ve{p q:Int}{c:Bool}(h:decide (p=q)=c):(p==q)=c:=by rw[←h];exact Bool.beq_eq_decide_eq p q
theorem JY{p q:Int}{c:Bool}(h:decide (p≠q)=c):(p != q)=c:=by rw[←h,bne,Bool.beq_eq_decide_eq p q];simp
theorem eqN{p q:Nat}{c:Bool}(h:decide (p=q)=c):((p:Int)==(q:Int))=c:=ve (by rw[←h];simp[Int.natCast_inj])
theorem neN{p q:Nat}{c:Bool}(h:decide (p≠q)=c):((p:Int) != (q:Int))=c:=JY (by rw[←h];simp[Int.natCast_inj])
theorem ltN{p q:Nat}{c:Bool}(h:decide (p<q)=c):decide ((p:Int)<(q:Int))=c:=by rw[←h];simp
theorem leN{p q:Nat}{c:Bool}(h:decide (p≤q)=c):decide ((p:Int)≤(q:Int))=c:=by rw[←h];simp
theorem Oo{p q c:Int}(h:max p q=c):(if q>p then q else p)=c:=by rw[←h];split<;>omega
theorem V5{p q c:Int}(h:min p q=c):(if q<p then q else p)=c:=by rw[←h];split<;>omega
class UK (k:IntKind) (b:outParam Nat) (M:outParam Nat):Prop where
 w:∀x:Int,k.wrap x=x%M
 hb:k.bits=b
 hm:2^b=M
instance:UK .u8 8 256:=⟨λx=>by simp[IntKind.wrap,IntKind.signed,IntKind.bits],rfl,by decide⟩
instance:UK .u32 32 4294967296:=⟨λx=>by simp[IntKind.wrap,IntKind.signed,IntKind.bits],rfl,by decide⟩
instance:UK .u64 64 18446744073709551616:=⟨λx=>by simp[IntKind.wrap,IntKind.signed,IntKind.bits],rfl,by decide⟩
section uk
variable {k:IntKind}{bi M a b c:Nat}[u:UK k bi M]
include u
theorem UK.pos:0<M:=by rw[←u.hm];exact Nat.two_pow_pos _
theorem UK.nat(h:a%M=c):k.wrap (a:Int)=(c:Int):=by rw[u.w,←h,Int.natCast_emod]
theorem UK.add(h:(a+b)%M=c):k.wrap ((a:Int)+(b:Int))=(c:Int):=by rw[←Int.natCast_add];exact UK.nat h
theorem UK.mul(h:(a*b)%M=c):k.wrap ((a:Int)*(b:Int))=(c:Int):=by rw[←Int.natCast_mul];exact UK.nat h
theorem UK.sub(h:wj M a b=c):k.wrap ((a:Int)-(b:Int))=(c:Int):=by
 rw[u.w,←h,wj,Int.toNat_of_nonneg];exact Int.emod_nonneg _ (by have:=UK.pos (k:=k) (bi:=bi) (M:=M);omega)
theorem UK.neg(h:wj M 0 a=c):k.wrap (0-(a:Int))=(c:Int):=UK.sub h
theorem UK.conv{p:Int}(h:(p%M).toNat=c):k.wrap p=(c:Int):=by
 rw[u.w,←h,Int.toNat_of_nonneg];exact Int.emod_nonneg _ (by have:=UK.pos (k:=k) (bi:=bi) (M:=M);omega)
theorem UK.quo(h:Mg M a b=some c):k.wrap ((a:Int).tdiv (b:Int))=(c:Int):=by
 unfold Mg at h;split at h
 ·cases h
 ·rw[Int.tdiv_eq_ediv_of_nonneg (by omega),←Int.natCast_ediv];exact UK.nat (Option.some.inj h)
theorem UK.aiz(h:a/b%M=c):k.wrap ((a:Int).tdiv (b:Int))=(c:Int):=by
 rw[Int.tdiv_eq_ediv_of_nonneg (by omega),←Int.natCast_ediv];exact UK.nat h
theorem UK.shl{q:Int}{s:Nat}(hs:min q.toNat k.bits=s)(h:a*2^s%M=c):k.wrap ((a:Int)*2^(min q.toNat k.bits))=(c:Int):=by
 rw[hs,show(a:Int)*2^s=((a*2^s:Nat):Int) by rw[Int.natCast_mul,Int.natCast_pow];rfl];exact UK.nat h
theorem UK.ofInt(a:Nat):(BitVec.ofInt k.bits (a:Int)).toNat=a%M:=by
 rw[BitVec.ofInt_natCast,BitVec.toNat_ofNat,u.hb,u.hm]
theorem UK.or(h:(a ||| b)%M=c):k.wrap ((BitVec.ofInt k.bits (a:Int) ||| BitVec.ofInt k.bits (b:Int)).toNat)=(c:Int):=by
 rw[BitVec.toNat_or,UK.ofInt,UK.ofInt,←u.hm,←Nat.or_mod_two_pow,u.hm,h,UK.nat (a:=c) (c:=c)]
 rw[←h,Nat.mod_mod]
end uk
theorem Mh{k:IntKind}{a c s:Nat}{q:Int}(hs:min q.toNat k.bits=s)(h:a/2^s=c):(a:Int).fdiv (2^(min q.toNat k.bits))=(c:Int):=by
 rw[hs,Int.fdiv_eq_ediv_of_nonneg _ (Int.le_of_lt (Int.pow_pos (by decide))),←h,Int.natCast_ediv,Int.natCast_pow];rfl
theorem Z8{a b c:Nat}(h:Kg a b=some c):(a:Int).tmod (b:Int)=(c:Int):=by
 unfold Kg at h;split at h
 ·cases h
 ·rw[Int.tmod_eq_emod_of_nonneg (by omega),←Option.some.inj h];rfl
theorem ace{a b c:Nat}(h:a%b=c):(a:Int).tmod (b:Int)=(c:Int):=by
 rw[Int.tmod_eq_emod_of_nonneg (by omega),←h];rfl
theorem nzU{M a b c:Nat}(h:Mg M a b=some c):(b:Int)≠0:=by
 unfold Mg at h;split at h
 ·cases h
 ·omega
theorem nzR{a b c:Nat}(h:Kg a b=some c):(b:Int)≠0:=by
 unfold Kg at h;split at h
 ·cases h
 ·omega
theorem nzI{a b c:Int}(h:Aw a b=some c):b≠0:=by unfold Aw at h;split at h<;>simp_all
theorem aeJ{a b c:Int}(h:Kf a b=some c):b≠0:=by unfold Kf at h;split at h<;>simp_all
theorem V6{a b c:Int}(h:Aw a b=some c):IntKind.i64.wrap (a.tdiv b)=c:=by
 unfold Aw at h;split at h
 ·cases h
 ·exact Option.some.inj h
theorem aeK{a b c:Int}(h:Kf a b=some c):a.tmod b=c:=by
 unfold Kf at h;split at h
 ·cases h
 ·exact Option.some.inj h
abbrev bh(x:Nat):List SV:=[.v (.int .u32 (x:Nat))]
abbrev bD(x:Int):List SV:=[.v (.int .i64 x)]
abbrev eB(x:Bool):List SV:=[.v (.bool x)]
abbrev eS{α:Type}(n:Nat)(e:α→List SV)(l:List α):List SV:=[slc n (l.map e)]
structure Zr where
 neg:Bool
 w:List Nat
structure Qr where
 num:Zr
 den:Zr
abbrev eZ(z:Zr):List SV:=[.v (.bool z.neg),slc 1 (z.w.map bh)]
abbrev eQ(q:Qr):List SV:=[.v (.bool q.num.neg),slc 1 (q.num.w.map bh),.v (.bool q.den.neg),slc 1 (q.den.w.map bh)]
class EL {α:Type} (e:α→List SV) (n:outParam Nat):Prop where
 len:∀x,(e x).length=n
 one:∀x,xq (e x)
instance:EL bh 1:=⟨λ_=>rfl,λ_=>inferInstance⟩
instance:EL bD 1:=⟨λ_=>rfl,λ_=>inferInstance⟩
instance:EL eB 1:=⟨λ_=>rfl,λ_=>inferInstance⟩
instance{α:Type}{n:Nat}{e:α→List SV}:EL (eS n e) 1:=⟨λ_=>rfl,λ_=>inferInstance⟩
instance:EL eQ 4:=⟨λ_=>rfl,λ_=>inferInstance⟩
def JZ{α:Type}(l k:List α):List α:=k.take l.length++l.drop k.length
structure Tb where
 made:Bool
 vars:Int
 Ib:List (List Qr)
 basis:List Int
 rows:List (List Qr)
abbrev zC(x:Tb):List SV:=[.v (.bool x.made),.v (.int .i64 x.vars),slc 1 (x.Ib.map (eS 4 eQ)),slc 1 (x.basis.map bD),slc 1 (x.rows.map (eS 4 eQ))]
structure Lr where
 vars:Int
 Ib:List (List Qr)
 rows:List (List Qr)
 bounds:List Qr
abbrev K0(x:Lr):List SV:=[.v (.int .i64 x.vars),slc 1 (x.Ib.map (eS 4 eQ)),slc 1 (x.rows.map (eS 4 eQ)),slc 4 (x.bounds.map eQ)]
structure Sz where
 vars:Int
 Ib:Int
 rows:Int
 bounds:Int
abbrev eSz(x:Sz):List SV:=[.v (.int .i64 x.vars),.v (.int .i64 x.Ib),.v (.int .i64 x.rows),.v (.int .i64 x.bounds)]
abbrev TR(E:TypeId)(sz:Nat){α:Type}(e:α→List SV)(l:List α):Row:=⟨E,sz,l.length,l.flatMap e⟩
theorem aB{α:Type}{n:Nat}{e:α→List SV}:SV.imp (.v (.slice none 0 0)) (slc n (([]:List α).map e)):=λ_ _ h=>.inl ⟨none,h,Y⟩
theorem yE{α:Type}(e:α→List SV)(l:List α):(l.map e).flatten=l.flatMap e:=by rw[List.flatMap_def]
theorem wm{α:Type}{e:α→List SV}{n:Nat}[h:EL e n](l:List α):Rows n (l.map e) (l.flatMap e):=⟨yE e l,λr hr=>by obtain⟨x,_,rfl⟩:=List.mem_map.1 hr;exact h.len x⟩
theorem K1{M:Mem}:∀{l k:List SV} {vs:List Value},SV.gw M (l++k) vs→∃us ws,vs=us++ws∧SV.gw M l us∧SV.gw M k ws
 |[],_,vs,h=>⟨[],vs,Y,ak,h⟩
 |_::_,_,[],h=>h.elim
 |_::l,_,v::vs,h=>by
  obtain⟨us,ws,rfl,h1,h2⟩:=K1 (l:=l) h.2
  exact⟨v::us,ws,Y,⟨h.1,h1⟩,h2⟩
theorem qt{α:Type}{e:α→List SV}{n:Nat}[h:EL e n](l:List α):∀M vs,SV.gw M (l.flatMap e) vs→∀v∈vs,v.oneCell'=true:=by
 intro M
 induction l with
 |nil=>intro vs hv;cases vs with|nil=>simp|cons _ _=>exact hv.elim
 |cons x l ih=>
  intro vs hv
  rw[List.flatMap_cons]at hv
  obtain⟨us,ws,rfl,h1,h2⟩:=K1 hv
  intro v hv
  rcases List.mem_append.1 hv with hv|hv
  ·exact(h.one x).h M us h1 v hv
  ·exact ih ws h2 v hv
theorem Oq{α:Type}{e:α→List SV}{n:Nat}[h:EL e n]:∀{l:List α} {k:Nat} {a:α},l[k]? =some a→((l.flatMap e).drop (k*n)).take n=e a
 |[],_,_,hh=>by simp at hh
 |x::l,0,a,hh=>by
  simp only[List.getElem?_cons_zero,Option.some.injEq]at hh
  subst hh
  rw[List.flatMap_cons,Nat.zero_mul,List.drop_zero,←h.len x,List.take_left']
  rfl
 |x::l,k+1,a,hh=>by
  rw[List.getElem?_cons_succ]at hh
  rw[List.flatMap_cons,show(k+1)*n=(e x).length+k*n by rw[h.len,Nat.add_mul];omega,←List.drop_drop,List.drop_left']
  ·exact Oq hh
  ·rfl
theorem Ot{α:Type}{e:α→List SV}{n:Nat}[h:EL e n]{y:α}:∀{l:List α} {k:Nat},k<l.length→rT (l.flatMap e) (k*n) (e y)=(l.set k y).flatMap e:=by
 have ams:∀(u:List SV) (a b:List SV) (j:Nat),j+u.length≤a.length→rT (a++b) j u=rT a j u++b:=by
  intro u
  induction u with
  |nil=>intro a b j _;rfl
  |cons s u ih=>
   intro a b j hj
   simp only[List.length_cons]at hj
   simp only[rT]
   rw[List.set_append_left _ _ (by omega),ih _ _ _ (by rw[List.length_set];omega)]
 have amt:∀(u:List SV) (a b:List SV) (j:Nat),rT (a++b) (a.length+j) u=a++rT b j u:=by
  intro u
  induction u with
  |nil=>intro a b j;rfl
  |cons s u ih=>
   intro a b j
   simp only[rT]
   rw[List.set_append_right _ _ (by omega),show a.length+j-a.length=j by omega,show a.length+j+1=a.length+(j+1) by omega,ih]
 have amu:∀(u a:List SV),u.length=a.length→rT a 0 u=u:=by
  have gen:∀(u a p:List SV),u.length=a.length→rT (p++a) p.length u=p++u:=by
   intro u
   induction u with
   |nil=>intro a p ha;have:a=[]:=List.eq_nil_of_length_eq_zero ha.symm;subst this;rfl
   |cons s u ih=>
    intro a p ha
    cases a with
    |nil=>cases ha
    |cons t a=>
     simp only[rT]
     rw[List.set_append_right _ _ (Nat.le_refl _),Nat.sub_self,List.set_cons_zero,show p++s::a=(p++[s])++a by simp,show p.length+1=(p++[s]).length by simp,ih a _ (by simpa using ha)]
     simp
  intro u a ha
  exact gen u a [] ha
 intro l
 induction l with
 |nil=>intro k hk;simp at hk
 |cons x l ih=>
  intro k hk
  cases k with
  |zero=>
   rw[List.set_cons_zero,List.flatMap_cons,List.flatMap_cons,Nat.zero_mul,ams _ _ _ _ (by rw[h.len,h.len];omega),amu _ _ (by rw[h.len,h.len])]
  |succ k=>
   simp only[List.length_cons]at hk
   rw[List.set_cons_succ,List.flatMap_cons,List.flatMap_cons,show(k+1)*n=(e x).length+k*n by rw[h.len,Nat.add_mul];omega,amt,ih (by omega)]
end
section
open Go.RowKit
section steps
variable {P:Program}{C:Ctx}{ops:Array Oper}{S:AS}{nd:Bool}{K:List Ac→AS→Prop}{rest:List Oper}{acc:List Ac}
variable {gd:Option (Nat×Bool)}{rg:List Nat}{d:Nat}{ty:TypeId}{pos:String}{aft:Array Edge}{x y z:Operand}{T U E0:TypeId}
variable {α:Type}{l l' k:List α}{e:α→List SV}{n by_:Nat}{zv:Value}
theorem RT.amv(hg:Gd ops S gd rg){s X:SV}(hx:S.ev x=.sv s)(hi:SV.imp s X)(hd:d<S.n)
  (next:RunT P C ops nd K rest (⟨rg++bp x,[],[],⟨some (d,.sv X),[],[]⟩⟩::acc) (S.set d (.sv X))):RunT P C ops nd K (⟨some d,.assign x,ty,pos,aft,gd⟩::rest) acc S:=
 RT.value hg (bp x) [] [] (.sv X) hd (by intro c h;cases h) (λS' ht _ _ E a w h=>by
  have hx':S'.ev x=.sv s:=by rw[bQ (λ_ h=>h) ht,hx]
  exact⟨a.eval x,Y,by have:=h.ev x;rw[hx']at this;exact hi _ _ this,iz⟩) next
theorem Ui{E:Env}:∀{l l':List SV} {vs:List Value},cg l l'→SV.gw E.M l vs→eI E (l'.map AV.sv) vs:=λhi h=>eI.Dz (hi.holds h)
theorem Mi(M:Mem):∀l:List Value,SV.gw M (l.map SV.v) l
 |[]=>trivial
 |_::l=>⟨Y,Mi M l⟩
theorem RT.CU(hg:Gd ops S gd rg)[tz:mJ P T zv]{cs:List SV}(hi:cg (zv.cells.toList.map SV.v) cs){av:List AV}(hav:cs.map AV.sv=av)(hd:d<S.n)(hb:S.b d=none)(hp:C.kV d=none)
  (next:RunT P C ops nd K rest (⟨rg++[],[d],[],⟨some (d,.ptr d 0),[(d,⟨T,av⟩)],[]⟩⟩::acc) ((S.oE d ⟨T,av⟩).set d (.ptr d 0))):RunT P C ops nd K (⟨some d,.alloc T,ty,pos,aft,gd⟩::rest) acc S:=by
 subst hav
 exact RT.SJ hg (by intro c h;cases h) [] hd hb hp (λS' _ E a w h=>⟨zv.cells.toList,by simp[execOp,Instr.alloc,newVar,newRow,tz.run],Ui hi (Mi _ _),λy hy=>by
  obtain⟨s,_,rfl⟩:=List.mem_map.1 hy
  exact iz⟩) next
theorem RT.aeL(hg:Gd ops S gd rg){pl:List (Nat×Nat)}{zc:List Value}[tP:lK P T pl zc]{parts:Array (Nat×Operand)}{qs:List (Nat×List SV)}(hp:uY S parts.toList qs){cs cs':List SV}(hf:Cs (λi=>pl[i]?) (zc.map SV.v) qs=some cs)(hi:cg cs cs')(hd:d<S.n)
  (next:RunT P C ops nd K rest (⟨rg++qV parts.toList,[],[],⟨some (d,.sv (.agg cs')),[],[]⟩⟩::acc) (S.set d (.sv (.agg cs')))):RunT P C ops nd K (⟨some d,.build T parts,ty,pos,aft,gd⟩::rest) acc S:=by
 refine RT.value hg (qV parts.toList) [] [] (.sv (.agg cs')) hd (by intro c h;cases h) (λS' ht _ _ E a w h=>?_) next
 have hu:=tP.h
 cases hT:P.underlying T with
 |none=>rw[hT]at hu;cases hu
 |some u=>
  rw[hT]at hu
  cases u with
  |struct fs=>
   simp only at hu
   have hz:(zeroValue T).run P w=.ok (.agg ⟨zc⟩) w:=mJ.run (t:=⟨tP.hz⟩) w
   obtain⟨us,h1,h2,_⟩:=HU h (λi=>pl[i]?) hp ht (cells:=zc.map SV.v) (vs:=zc) (Mi _ zc) (List.all_eq_true.1 tP.o) hf
   refine⟨.agg ⟨us⟩,?_,⟨us,Y,hi.holds h2⟩,iz⟩
   have hm:(fs.mapM (λf=>do pure (f.offset,←sizeOf f.type):Field→Sem (Nat×Nat))).run P w=.ok pl.toArray w:=by
    have:=AP (P:=P) (w:=w) hu
    rw[←Array.toArray_toList (xs:=fs),List.mapM_toArray]
    rw[Sem.run_map,this];rfl
   have h1':Instr.fill (λi=>pl.toArray[i]?) ⟨zc⟩ (parts.toList.map λp=>(p.1,a.eval p.2))=some ⟨us⟩:=by simpa using h1
   simp only[execOp,Instr.build,underlying]
   simp only[Sem.run_bind,hz,Result.andThen_ok,run_program,hT,Sem.run_pure,Value.cells]
   have hm':(Array.mapM (λf=>do
     let __do_lift←sizeOf f.type
     pure (f.offset,__do_lift)) fs:Sem _).run P w=.ok pl.toArray w:=hm
   simp only[hm',Result.andThen_ok]
   have e4:(Array.map (λx=>match x with|(i,x)=>(i,a.eval x)) parts).toList=parts.toList.map λp=>(p.1,a.eval p.2):=by simp
   simp only[e4,h1',Sem.run_pure,Result.andThen_ok]
  |_=>cases hu
theorem Pure.w{f:FuncId}{args args':List SV}{r:SV}(h:Pure P f args r)(hi:cg args' args):Pure P f args' r:=λM w vs hM hv=>h M w vs hM (hi.holds hv)
theorem GB.w{f:FuncId}{args args':List SV}{R:Row}(h:GB P f args R)(hi:cg args' args):GB P f args' R:=λM w vs hM hv=>h M w vs hM (hi.holds hv)
theorem RT.aiB(hg:Gd ops S gd rg){m:Nat}[tS:gU P T E0 m]{c:Int}(hx:S.ev x=.sv (slc n (l.map e)))(hd:d<S.n)(hc:(l.length:Int)=c)
  (next:RunT P C ops nd K rest (⟨rg++bp x,[],[],⟨some (d,.sv (.v (.int .i64 c))),[],[]⟩⟩::acc) (S.set d (.sv (.v (.int .i64 c))))):RunT P C ops nd K (⟨some d,.call ⟨.builtin .len,#[x],#[T]⟩,ty,pos,aft,gd⟩::rest) acc S:=
 RT.len hg hx hd (by rw[List.length_map,hc];exact next)
theorem RT.Ou(hg:Gd ops S gd rg){m:Nat}[tS:gU P T E0 m]{i:Nat}{E1:TypeId}{c:Int}(hx:S.ev x=.row i)(hR:S.r i=.live (TR E1 n e l))(hd:d<S.n)(hc:(l.length:Int)=c)
  (next:RunT P C ops nd K rest (⟨rg++bp x,[],[i],⟨some (d,.sv (.v (.int .i64 c))),[],[]⟩⟩::acc) (S.set d (.sv (.v (.int .i64 c))))):RunT P C ops nd K (⟨some d,.call ⟨.builtin .len,#[x],#[T]⟩,ty,pos,aft,gd⟩::rest) acc S:=
 RT.alZ hg hx hR hd (by show RunT _ _ _ _ _ _ (⟨_,_,_,⟨some (d,.sv (.v (.int .i64 (l.length:Int)))),_,_⟩⟩::_) (S.set d (.sv (.v (.int .i64 (l.length:Int)))));rw[hc];exact next)
theorem RT.Uj(hg:Gd ops S gd rg)[tS:gU P T E0 n]{kk:IntKind}{i:Int}{a:α}(hx:S.ev x=.sv (slc n (l.map e)))(hy:S.ev y=.sv (.v (.int kk i)))(hd:d<S.n)(ha:cL l i=some a)
  (next:RunT P C ops nd K rest (⟨rg++(bp x++bp y),[],[],⟨some (d,.sv (ref (e a))),[],[]⟩⟩::acc) (S.set d (.sv (ref (e a))))):RunT P C ops nd K (⟨some d,.indexAddr T x y,ty,pos,aft,gd⟩::rest) acc S:=
 RT.indexAddr hg (e a) hx hy hd (yC ha).1 (by rw[List.getElem?_map,(yC ha).2];rfl) next
theorem RT.Ic(hg:Gd ops S gd rg)[tS:gU P T E0 n]{lo hi:Option Operand}(a b:Int)(hx:S.ev x=.sv (slc n (l.map e)))(hlo:HV S 0 lo a)(hhi:HV S l.length hi b)(hd:d<S.n)(h:GD l a b=some l')
  (next:RunT P C ops nd K rest (⟨rg++(bp x++(uZ lo++uZ hi)),[],[],⟨some (d,.sv (slc n (l'.map e))),[],[]⟩⟩::acc) (S.set d (.sv (slc n (l'.map e))))):RunT P C ops nd K (⟨some d,.slice T x lo hi none,ty,pos,aft,gd⟩::rest) acc S:=by
 obtain⟨h0,h1,h2,h3⟩:=KZ h
 exact RT.slice hg hx a b hlo (by rw[List.length_map];exact hhi) hd h0 h1 (by rw[List.length_map];exact h2) _ (by rw[SN,h3]) next
theorem RT.jn(hg:Gd ops S gd rg)[tS:gU P T E0 n][tE:nS P E0 n by_ zv]{len:Nat}{parts:Array (Nat×Operand)}{qs:List (Nat×List SV)}(hp:uY S parts.toList qs)(hd:d<S.n)
  (hc:yd 0 qs=true) (hl:qs.length=len) (hsz:(qs.all λq=>Nat.beq q.2.length n)=true) (hlen:Nat.ble (len*n) 16777216=true) (Uf:(zv.cells.toList.all λv=>v.oneCell')=true) (nT:qs.map (·.2)=l.map e)
  (next:RunT P C ops nd K rest (⟨rg++qV parts.toList,[],[],⟨some (d,.sv (slc n (l.map e))),[],[]⟩⟩::acc) (S.set d (.sv (slc n (l.map e))))):RunT P C ops nd K (⟨some d,.buildSlice T len parts,ty,pos,aft,gd⟩::rest) acc S:=
 RT.buildSlice hg hp hd hc hl hsz (ae hlen) (List.all_eq_true.1 Uf) nT next
theorem RT.Mj(hg:Gd ops S gd rg)[tS:gU P T E0 n][tE:nS P E0 n by_ zv]{len:Nat}{parts:Array (Nat×Operand)}{qs:List (Nat×List SV)}(hp:uY S parts.toList qs)(hd:d<S.n)(uF:S.r d=.un)(Cr:d<1000)
  (hc:yd 0 qs=true) (hl:qs.length=len) (hsz:(qs.all λq=>Nat.beq q.2.length n)=true) (hlen:Nat.ble (len*n) 16777216=true) (Uf:(zv.cells.toList.all λv=>v.oneCell')=true) (nT:qs.map (·.2)=l.map e)
  (next:RunT P C ops nd K rest (⟨rg++qV parts.toList,[],[d],⟨some (d,.row d),[],[(d,.live (TR E0 n e l))]⟩⟩::acc) ((AS.cO [(d,.live (TR E0 n e l))] S).set d (.row d))):RunT P C ops nd K (⟨some d,.buildSlice T len parts,ty,pos,aft,gd⟩::rest) acc S:=by
 refine RT.Oj hg hp hd uF Cr hc hl hsz (ae hlen) (List.all_eq_true.1 Uf) (cells:=l.flatMap e) (by rw[nT,yE]) ?_
 have:len=l.length:=by have h0:=congrArg List.length nT;simpa[hl]using h0
 rw[this];exact next
theorem RT.apR(hg:Gd ops S gd rg)[tS:gU P T E0 n][tE:nS P E0 n by_ zv]{i:Nat}(hx:S.ev x=.row i)(hR:S.r i=.live (TR E0 n e l))(hy:S.ev y=.sv (slc n (k.map e)))(hd:d<S.n)(uF:S.r d=.un)(Cr:d<1000)(h:nC by_ l k=some l')
  (next:RunT P C ops nd K rest (⟨rg++(bp x++bp y),[],[i,d],⟨some (d,.row d),[],[(i,.dead),(d,.live (TR E0 n e l'))]⟩⟩::acc) ((AS.cO [(i,.dead),(d,.live (TR E0 n e l'))] S).set d (.row d))):RunT P C ops nd K (⟨some d,.call ⟨.builtin .append,#[x,y],#[T,T]⟩,ty,pos,aft,gd⟩::rest) acc S:=by
 obtain⟨h1,h2,rfl⟩:=AQ h
 exact RT.ZX hg hx hR hy hd uF Cr (by simpa using h1) (by simpa using h2) _ (by simp[yE]) next
theorem RT.Z9(hg:Gd ops S gd rg)[tS:gU P T E0 n][tE:nS P E0 n by_ zv][el:EL e n]{i:Nat}(hx:S.ev x=.row i)(hR:S.r i=.live (TR E0 n e l))(hy:S.ev y=.sv (slc n (k.map e)))(hd:d<S.n)(uF:S.r d=.un)(Cr:d<1000)(h:nC by_ l k=some l')
  (next:RunT P C ops nd K rest (⟨rg++(bp x++bp y),[],[d,i],⟨some (d,.sv (slc n (l'.map e))),[],[(i,.dead),(d,.dead)]⟩⟩::acc) ((AS.cO [(i,.dead),(d,.dead)] S).set d (.sv (slc n (l'.map e))))):RunT P C ops nd K (⟨some d,.call ⟨.builtin .append,#[x,y],#[T,T]⟩,ty,pos,aft,gd⟩::rest) acc S:=by
 obtain⟨h1,h2,rfl⟩:=AQ h
 have hf:l.flatMap e++(k.map e).flatten=(l++k).flatMap e:=by simp[yE]
 exact RT.Mf hg (.row hx hR) hy hd uF Cr (by simpa using h1) (by simpa using h2) _ (rows':=(l++k).map e) (λ_ _ h _=>h) (by rw[hf];exact wm _) (by simp) (by rw[hf];exact qt _) next
theorem RT.aeM(hg:Gd ops S gd rg)[tS:gU P T E0 n][tE:nS P E0 n by_ zv][el:EL e n](hx:S.ev x=.sv (.v (.slice none 0 0)))(hy:S.ev y=.sv (slc n (k.map e)))(hd:d<S.n)(uF:S.r d=.un)(Cr:d<1000)(h:nC by_ [] k=some l')
  (next:RunT P C ops nd K rest (⟨rg++(bp x++bp y),[],[d],⟨some (d,.sv (slc n (l'.map e))),[],[(d,.dead)]⟩⟩::acc) ((AS.cO [(d,.dead)] S).set d (.sv (slc n (l'.map e))))):RunT P C ops nd K (⟨some d,.call ⟨.builtin .append,#[x,y],#[T,T]⟩,ty,pos,aft,gd⟩::rest) acc S:=by
 obtain⟨h1,h2,rfl⟩:=AQ h
 have hf:([]:List SV)++(k.map e).flatten=([]++k).flatMap e:=by simp[yE]
 exact RT.Mf hg (.nil hx) hy hd uF Cr (by simpa using h1) (by simpa using h2) _ (rows':=([]++k).map e) (λ_ _ h _=>h) (by rw[hf];exact wm _) (by simp) (by rw[hf];exact qt _) next
theorem La(zc:Array Value)(n:Nat)(hz:zc.size=n)(hn:0<n):∀m:Nat,(madeCells zc (m*n)).toList=(List.replicate m zc.toList).flatten
 |0=>by simp[madeCells]
 |m+1=>by
  have ih:=La zc n hz hn m
  rw[List.replicate_succ',List.flatten_append,←ih]
  simp only[madeCells,Array.toList_map,Array.toList_range,List.flatten_cons,List.flatten_nil,List.append_nil]
  rw[show(m+1)*n=m*n+n by rw[Nat.add_mul];omega,List.range_add,List.map_append,List.map_map]
  congr 1
  apply List.ext_getElem?
  intro i
  rw[List.getElem?_map]
  rcases Nat.lt_or_ge i n with hi|hi
  ·rw[List.getElem?_range hi]
   simp only[Option.map_some,Function.comp]
   rw[hz,Nat.mul_comm m n,Nat.mul_add_mod,Nat.mod_eq_of_lt hi]
   rw[getElem!_pos zc i (by omega),Array.getElem?_toList,Array.getElem?_eq_getElem (by omega)]
  ·rw[List.getElem?_eq_none (by simpa using hi),List.getElem?_eq_none (by simp;omega)];rfl
theorem Ov:∀{a b c d:List SV},cg a c→cg b d→cg (a++b) (c++d)
 |[],_,[],_,_,h=>h
 |_::_,_,_::_,_,h,h'=>⟨h.1,Ov h.2 h'⟩
 |[],_,_::_,_,h,_=>h.elim
 |_::_,_,[],_,h,_=>h.elim
theorem Ow{zl:List Value}{zz:α}(hi:cg (zl.map SV.v) (e zz)):∀m:Nat,cg ((List.replicate m zl).flatten.map SV.v) ((List.replicate m zz).flatMap e)
 |0=>trivial
 |m+1=>by
  rw[List.replicate_succ,List.replicate_succ,List.flatten_cons,List.map_append,List.flatMap_cons]
  exact Ov hi (Ow hi m)
theorem RT.tK(hg:Gd ops S gd rg)[tS:gU P T E0 n][tE:nS P E0 n by_ zv]{kl kc:IntKind}{c:Int}{zz:α}(hx:S.ev x=.sv (.v (.int kl c)))(hy:S.ev y=.sv (.v (.int kc c)))(hd:d<S.n)(uF:S.r d=.un)(Cr:d<1000)(hz:zv.cells.size=n)(hn:0<n)(hi:cg (zv.cells.toList.map SV.v) (e zz))(hm:Hf by_ c zz=some l')
  (next:RunT P C ops nd K rest (⟨rg++(bp x++bp y),[],[d],⟨some (d,.row d),[],[(d,.live (TR E0 n e l'))]⟩⟩::acc) ((AS.cO [(d,.live (TR E0 n e l'))] S).set d (.row d))):RunT P C ops nd K (⟨some d,.makeSlice T x y,ty,pos,aft,gd⟩::rest) acc S:=by
 obtain⟨h0,hroom,AN,rfl⟩:=V1 hm
 refine .inl ⟨_,[],[d],_,?_,next⟩
 rintro S' hn' ht _ hr i a w L Q ho ⟨E,h⟩ hL
 refine dy (C:=C) ho (hg.wanted h (λs hs=>ht s (List.mem_append_left _ hs)) Y) ?_
 have h1:a.eval x=.int kl c:=by have h1:=h.ev x;rw[bQ (λ_ h=>List.mem_append_right _ (List.mem_append_left _ h)) ht,hx]at h1;exact h1
 have h2:a.eval y=.int kc c:=by have h2:=h.ev y;rw[bQ (λ_ h=>List.mem_append_right _ (List.mem_append_right _ h)) ht,hy]at h2;exact h2
 obtain⟨info,hii,hsz,hby,hzz⟩:=nS.info (P:=P) (E:=E0) (n:=n) (by_:=by_) (z:=zv)
 obtain⟨m,rfl⟩:=Int.eq_ofNat_of_zero_le h0
 have hb':info.bytes*m≤281474976710656:=by
  rw[hby]
  have:((by_*m:Nat):Int)≤281474976710656:=by rw[Int.natCast_mul];exact hroom
  omega
 obtain⟨w',q1,q2,q3⟩:=run_make_full (P:=P) w 0 T E0 info zv n tS.u hii hzz hsz kl kc m hb' (by unfold maxLen;omega) (Nat.zero_le _)
 have hr':(execOp a.eval ⟨some d,.makeSlice T x y,ty,pos,aft,gd⟩).run P w=.ok (.value (.slice (some ⟨w.heap.size,0,none⟩) m m)) w':=by
  simp only[execOp,h1,h2]
  simp[q1]
 have Ue:S'.r d=.un:=by rw[hr d (by simp)];exact uF
 have e0:(m:Int).toNat=m:=by simp
 have hall:SV.gw E.M ((List.replicate m zz).flatMap e) (madeCells zv.cells (m*n)).toList:=by
  rw[La zv.cells n hz hn]
  exact cg.holds (l:=((List.replicate m zv.cells.toList).flatten.map SV.v)) (Ow hi m) (Mi _ _)
 have hlen:(List.replicate (m:Int).toNat zz).length=m:=by simp
 refine dm (C:=C) (by intro c h;cases h) hr' (hL _ _ ⟨_,(h.newRow Ue Cr [] none (.inl ⟨rfl,rfl⟩) (R':=TR E0 n e (List.replicate (m:Int).toNat zz)) (by show w'.ownsRow 0 E0 n _ (List.replicate (m:Int).toNat zz).length _;rw[hlen];exact q2) (by rw[e0];exact hall) (.inr (.inl rfl)) q3).put (d:=d) (x:=.row d) (v:=.slice (some ⟨w.heap.size,0,none⟩) m m) (by simp[AV.holds]) (by show d<S'.n;omega) ⟨λ_ e=>e.elim,λj e=>?_⟩⟩)
 cases e
 show(AS.ya S' d _).r d≠_
 rw[AS.lJ];simp
theorem RT.Lb(hg:Gd ops S gd rg)[tS:gU P T E0 n][tE:nS P E0 n by_ zv]{kl kc:IntKind}{c:Int}(hx:S.ev x=.sv (.v (.int kl 0)))(hy:S.ev y=.sv (.v (.int kc c)))(hd:d<S.n)(uF:S.r d=.un)(Cr:d<1000)(h:VZ (α:=α) by_ c=some l')
  (next:RunT P C ops nd K rest (⟨rg++(bp x++bp y),[],[d],⟨some (d,.row d),[],[(d,.live (TR E0 n e l'))]⟩⟩::acc) ((AS.cO [(d,.live (TR E0 n e l'))] S).set d (.row d))):RunT P C ops nd K (⟨some d,.makeSlice T x y,ty,pos,aft,gd⟩::rest) acc S:=by
 obtain⟨h0,h1,h2,rfl⟩:=V3 h
 exact RT.aia hg hx hy hd uF Cr h0 h1 h2 next
theorem RT.Ox(hg:Gd ops S gd rg)[tS:gU P T E0 n]{i j:Nat}{E1:TypeId}{kk:IntKind}{v:Int}(hx:S.ev x=.row i)(hR:S.r i=.live (TR E1 n e l))(hy:S.ev y=.sv (.v (.int kk v)))(hd:d<S.n)(h:kW l v=some j)
  (next:RunT P C ops nd K rest (⟨rg++(bp x++bp y),[],[i],⟨some (d,.nB i (j*n)),[],[]⟩⟩::acc) (S.set d (.nB i (j*n)))):RunT P C ops nd K (⟨some d,.indexAddr T x y,ty,pos,aft,gd⟩::rest) acc S:=by
 obtain⟨h0,h1,h2⟩:=V0 h
 exact RT.ixR hg (.row hx hR) hy hd h0 h1 (j*n) (by rw[h2];omega) next
theorem RT.Mk(hg:Gd ops S gd rg)[tV:zo P T][el:EL e 1]{i j:Nat}{E1:TypeId}{a:α}{s:SV}(hx:S.ev x=.nB i (j*1))(hR:S.r i=.live (TR E1 1 e l))(ha:l[j]? =some a)(hs:e a=[s])(hd:d<S.n)
  (next:RunT P C ops nd K rest (⟨rg++bp x,[],[i],⟨some (d,.sv s),[],[]⟩⟩::acc) (S.set d (.sv s))):RunT P C ops nd K (⟨some d,.load T x,ty,pos,aft,gd⟩::rest) acc S:=by
 refine RT.ldR hg hx hR (s:=s) ?_ hd next
 have:=Oq (e:=e) ha
 rw[hs]at this
 have h2:=congrArg (·[0]?) this
 simpa[List.getElem?_take]using h2
theorem aaa(a:List SV)(k:Nat)(s:SV):a.set k s=rT a k [s]:=rfl
theorem RT.amx(hg:Gd ops S gd rg)[tV:zo P T][el:EL e 1]{i j:Nat}{E1:TypeId}{s:SV}[o1:One s](a:α)(hs:e a=[s])(hx:S.ev x=.nB i (j*1))(hR:S.r i=.live (TR E1 1 e l))(hy:S.ev y=.sv s)(h:stM l j a=some l')
  (next:RunT P C ops nd K rest (⟨rg++(bp x++bp y),[],[i],⟨none,[],[(i,.live (TR E1 1 e l'))]⟩⟩::acc) (AS.cO [(i,.live (TR E1 1 e l'))] S)):RunT P C ops nd K (⟨none,.store T x y,ty,pos,aft,gd⟩::rest) acc S:=by
 obtain⟨h1,rfl⟩:=On h
 refine RT.stR hg hx hR hy (by show j*1+1≤l.length*1;omega) ((l.set j a).flatMap e) (by rw[aaa,←hs];exact Ot h1) ?_
 have:(TR E1 1 e (l.set j a))=⟨E1,1,l.length,(l.set j a).flatMap e⟩:=by show Row.mk _ _ _ _=_;rw[List.length_set]
 rw[←this];exact next
theorem RT.aiC(hg:Gd ops S gd rg)[tA:Gy P T n][el:EL e n]{i j:Nat}{E1:TypeId}(a:α)(hx:S.ev x=.nB i (j*n))(hR:S.r i=.live (TR E1 n e l))(hy:S.ev y=.sv (.agg (e a)))(h:stM l j a=some l')
  (next:RunT P C ops nd K rest (⟨rg++(bp x++bp y),[],[i],⟨none,[],[(i,.live (TR E1 n e l'))]⟩⟩::acc) (AS.cO [(i,.live (TR E1 n e l'))] S)):RunT P C ops nd K (⟨none,.store T x y,ty,pos,aft,gd⟩::rest) acc S:=by
 obtain⟨h1,rfl⟩:=On h
 have o1:=el.one a
 refine RT.al9 hg hx hR hy (el.len a) (by show j*n+n≤l.length*n;have:=Nat.mul_le_mul_right n h1;rw[Nat.succ_mul]at this;exact this) ((l.set j a).flatMap e) (Ot h1) ?_
 have:(TR E1 n e (l.set j a))=⟨E1,n,l.length,(l.set j a).flatMap e⟩:=by show Row.mk _ _ _ _=_;rw[List.length_set]
 rw[←this];exact next
end steps
theorem cV{S:AS}{i n:Nat}{E1:TypeId}{α:Type}{e:α→List SV}{l:List α}[el:EL e n](hR:S.r i=.live (TR E1 n e l)):AI S (S.uX i (slc n (l.map e))):=by
 rintro C a w ⟨E,h⟩
 have hlen:l.length≤9223372036854775807:=by
  obtain⟨⟨vs,ho,hv⟩,_⟩:=h.rx i _ hR
  rcases ho.2 with⟨_,q2⟩|⟨g',cap,cur,q1,_,q2,q3,q4,q5,q6⟩
  ·have q2:l.length=0:=q2
   omega
  ·have q3:l.length≤cap:=q3
   have:maxLen=9223372036854775807:=by decide
   omega
 exact h.uX hR (wm l) (by rw[List.length_map]) hlen (qt l) (λ_ _ h _=>h)
section control
variable {P:Program}{C:Ctx}{S:AS}{Q:Exit→AS→Prop}
theorem bJ{A:Code}{J R:Type}{kB:J→Option R}{fA:(J→Option R)→Option R}{r:R}(h:cE kB fA=some r)(I:J→AS)
  (hA:fA kB=some r→Ok P C A S (aW (λS'=>∃j,kB j=some r∧AI S' (I j)) Q)) (hQ:∀j,kB j=some r→Q .normal (I j)):Ok P C A S Q:=λa w hs=>by
 refine wpIn_mono (hA h a w hs) ?_
 rintro e a' w' ⟨S',q,hh⟩
 cases e with
 |normal=>obtain⟨j,h1,h2⟩:=q;exact⟨_,hQ j h1,h2 C a' w' hh⟩
 |_=>exact⟨S',q,hh⟩
theorem bK{A:Code}{X:Type}(I:X→AS)(p:X→Prop)(hA:Ok P C A S (aW (λS'=>∃j,p j∧AI S' (I j)) Q))(hQ:∀j,p j→Q .normal (I j)):Ok P C A S Q:=λa w hs=>by
 refine wpIn_mono (hA a w hs) ?_
 rintro e a' w' ⟨S',q,hh⟩
 cases e with
 |normal=>obtain⟨j,h1,h2⟩:=q;exact⟨_,hQ j h1,h2 C a' w' hh⟩
 |_=>exact⟨S',q,hh⟩
theorem bL{c:Code}{T E:Type}{body:T→Option (T⊕E)}{s0:T}{e:E}(h:bX body s0=some e)(I:T→AS)(h0:AI S (I s0))
  (round:∀(s:T) (y:T⊕E) (G:T→Prop),body s=some y→(∀s',y=.inl s'→G s')→(∀e',y=.inr e'→e'=e)→Ok P C c (I s) (aW (λS'=>∃s',G s'∧AI S' (I s')) Q)):Ok P C (.loop c) S Q:=by
 obtain⟨n,hn⟩:=CS h
 refine G2 (ι:={x:T×Nat//vc body x.2 x.1=some e}) (λx=>I x.1.1) (λx=>x.1.2) ⟨(s0,n),hn⟩ h0 ?_
 rintro⟨⟨s,m⟩,hm⟩
 cases m with
 |zero=>cases hm
 |succ m=>
  cases hb:body s with
  |none=>simp only[vc,hb]at hm;cases hm
  |some y=>
   refine L6 (round s y (λs'=>vc body m s'=some e) hb ?_ ?_) ?_
   ·rintro s' rfl;simpa only[vc,hb]using hm
   ·rintro e' rfl;simp only[vc,hb]at hm;exact Option.some.inj hm
   ·intro ex S' q
    cases ex with
    |normal=>obtain⟨s',h1,h2⟩:=q;exact⟨⟨(s',m),h1⟩,Nat.lt_succ_self m,h2⟩
    |_=>exact q
end control
end
section
open Go.RowKit
abbrev ZA:=List UInt8
def bs(l:ZA):ByteArray:=⟨⟨l⟩⟩
def Cv(l:ZA)(i:Int):Option Nat:=(cL l i).map UInt8.toNat
theorem aab(l:ZA):(bs l).size=l.length:=rfl
theorem aeN(l:ZA)(i:Nat):(bs l)[i]? =l[i]? :=by
 rcases Nat.lt_or_ge i l.length with h|h
 ·rw[getElem?_pos (bs l) i h,List.getElem?_eq_getElem h];rfl
 ·rw[getElem?_neg (bs l) i (by rw[aab];omega),List.getElem?_eq_none h]
section steps
variable {P:Program}{C:Ctx}{ops:Array Oper}{S:AS}{nd:Bool}{K:List Ac→AS→Prop}{rest:List Oper}{acc:List Ac}
variable {gd:Option (Nat×Bool)}{rg:List Nat}{d:Nat}{ty:TypeId}{pos:String}{aft:Array Edge}{x y z:Operand}{T U E0:TypeId}
variable {l l' k:ZA}
theorem RT.skV{op:Op}{j g:Nat}{b want:Bool}(h1:(ops[j]?).bind (·.dst)=some g)(h2:S.t g=.sv (.v (.bool b)))(hb:b≠want)(hd:d<S.n)
  (next:RunT P C ops nd K rest (⟨[g],[],[],⟨some (d,.sv (.v undef)),[],[]⟩⟩::acc) (S.set d (.sv (.v undef)))):RunT P C ops nd K (⟨some d,op,ty,pos,aft,some (j,want)⟩::rest) acc S:=by
 refine .inl ⟨[g],[],[],⟨some (d,.sv (.v undef)),[],[]⟩,?_,next⟩
 rintro S' hn ht _ _ i a w L Q ho ⟨E,h⟩ hL
 have hv:=h.tm g
 rw[ht g (by simp),h2]at hv
 have hv:a.tmps.getD g undef=.bool b:=hv
 have N2:a.tmps[g]? =some (.bool b):=by
  rw[Array.getD_eq_getD_getElem?]at hv
  cases e:a.tmps[g]? with
  |none=>rw[e]at hv;simp[undef]at hv
  |some x=>rw[e]at hv;simp at hv;rw[hv]
 have hw:Region.wanted ⟨some d,op,ty,pos,aft,some (j,want)⟩ (yielded ops a.tmps)=false:=by
  simp[Region.wanted,yielded,h1,N2,hb]
 simp only[wpOpIn,ho,hw]
 exact⟨λ_ _=>trivial,hL _ _ ⟨E,h.put (x:=.sv (.v undef)) (v:=undef) Y (by omega) ⟨λ_ h=>h.elim,λ_ h=>h.elim⟩⟩⟩
theorem RT.aiD{op:Op}{j g:Nat}{want:Bool}(h1:(ops[j]?).bind (·.dst)=some g)(h2:S.t g=.sv (.v undef))(hd:d<S.n)
  (next:RunT P C ops nd K rest (⟨[g],[],[],⟨some (d,.sv (.v undef)),[],[]⟩⟩::acc) (S.set d (.sv (.v undef)))):RunT P C ops nd K (⟨some d,op,ty,pos,aft,some (j,want)⟩::rest) acc S:=by
 refine .inl ⟨[g],[],[],⟨some (d,.sv (.v undef)),[],[]⟩,?_,next⟩
 rintro S' hn ht _ _ i a w L Q ho ⟨E,h⟩ hL
 have hv:=h.tm g
 rw[ht g (by simp),h2]at hv
 have hv:a.tmps.getD g undef=undef:=hv
 rw[Array.getD_eq_getD_getElem?]at hv
 have hw:Region.wanted ⟨some d,op,ty,pos,aft,some (j,want)⟩ (yielded ops a.tmps)=false:=by
  cases e:a.tmps[g]? with
  |none=>simp[Region.wanted,yielded,h1,e]
  |some x=>
   rw[e]at hv
   simp only[Option.getD_some]at hv
   subst hv
   simp[Region.wanted,yielded,h1,e,undef]
 simp only[wpOpIn,ho,hw]
 exact⟨λ_ _=>trivial,hL _ _ ⟨E,h.put (x:=.sv (.v undef)) (v:=undef) Y (by omega) ⟨λ_ h=>h.elim,λ_ h=>h.elim⟩⟩⟩
theorem RT.six(hg:Gd ops S gd rg)[tS:abX P T]{kk:IntKind}{i:Int}{c:Nat}(hx:S.ev x=.sv (.v (.string (bs l))))(hy:S.ev y=.sv (.v (.int kk i)))(hd:d<S.n)(h:Cv l i=some c)
  (next:RunT P C ops nd K rest (⟨rg++(bp x++bp y),[],[],⟨some (d,.sv (.v (.int .u8 (c:Nat)))),[],[]⟩⟩::acc) (S.set d (.sv (.v (.int .u8 (c:Nat)))))):RunT P C ops nd K (⟨some d,.index T x y,ty,pos,aft,gd⟩::rest) acc S:=
 RT.N8 hg (by intro c h;cases h) hx hy hd (λρ w h1 h2=>by
  unfold Cv at h
  cases hh:cL l i with
  |none=>rw[hh]at h;cases h
  |some b=>
   rw[hh]at h
   obtain⟨q1,q2⟩:=yC hh
   have q3:b.toNat=c:=Option.some.inj h
   have q4:(bs l)[i.toNat]? =some b:=by rw[aeN];exact q2
   simp[execOp,h1,h2,Instr.index,asIntOf,underlying,tS.h,q1,q4,q3]) next
end steps
section rows
variable {P:Program}{C:Ctx}{ops:Array Oper}{S:AS}{nd:Bool}{K:List Ac→AS→Prop}{rest:List Oper}{acc:List Ac}
variable {gd:Option (Nat×Bool)}{rg:List Nat}{d:Nat}{ty:TypeId}{pos:String}{aft:Array Edge}{x y z:Operand}{T U E0:TypeId}
variable {α:Type}{l l' k:List α}{e:α→List SV}{n by_:Nat}{zv:Value}
end rows
end
section
open Go.RowKit
def Cw{α:Type}(l l':List α):Option Unit:=if l'.length=l.length then some ()else none
theorem sD{α:Type}{l l':List α}{u:Unit}(h:Cw l l'=some u):l'.length=l.length:=by
 unfold Cw at h;split at h
 ·assumption
 ·cases h
def ckS{α:Type}(l:List α)(lo hi:Int):Option (Nat×Nat):=if 0≤lo∧lo<l.length∧lo≤hi∧hi≤l.length then some (lo.toNat,(hi-lo).toNat)else none
theorem V7{α:Type}{l:List α}{lo hi:Int}{o n:Nat}(h:ckS l lo hi=some (o,n)):0≤lo∧lo<l.length∧lo≤hi∧hi≤l.length∧lo.toNat=o∧(hi-lo).toNat=n:=by
 unfold ckS at h;split at h
 ·rename_i hh
  obtain⟨q1,q2⟩:=Prod.mk.inj (Option.some.inj h)
  exact⟨hh.1,hh.2.1,hh.2.2.1,hh.2.2.2,q1,q2⟩
 ·cases h
def ZB(o n:Nat)(i:Int):Option Nat:=if 0≤i∧i<n then some (o+i.toNat)else none
theorem V8{o n j:Nat}{i:Int}(h:ZB o n i=some j):0≤i∧i<n∧o+i.toNat=j:=by
 unfold ZB at h;split at h
 ·rename_i hh;exact⟨hh.1,hh.2,Option.some.inj h⟩
 ·cases h
theorem cg.get:∀{l l':List SV} {k:Nat} {s':SV},cg l l'→l'[k]? =some s'→∃s,l[k]? =some s∧SV.imp s s'
 |x::_,y::_,0,_,h,e=>⟨x,Y,by simp at e;subst e;exact h.1⟩
 |_::l,_::l',k+1,_,h,e=>by simpa using cg.get (l:=l) (l':=l') h.2 (by simpa using e)
 |[],[],_,_,_,e=>by simp at e
 |[],_::_,_,_,h,_=>h.elim
 |_::_,[],_,_,h,_=>h.elim
theorem cg.len:∀{l l':List SV},cg l l'→l'.length=l.length
 |[],[],_=>rfl
 |_::_,_::_,h=>congrArg (· +1) (cg.len h.2)
 |[],_::_,h=>h.elim
 |_::_,[],h=>h.elim
theorem aac{α:Type}{e:α→List SV}{l:List α}{n:Nat}{M:Mem}{v:Value}(h:(slc n (l.map e)).h M v):l.length≤9223372036854775807:=by
 rcases h with⟨_,_,h⟩|⟨b,o,c,_,_,h,_⟩
 ·have:l=[]:=by simpa using h
  subst this;simp
 ·rwa[List.length_map]at h
theorem Hg{α:Type}{e:α→List SV}{l:List α}{n:Nat}{M:Mem}{v:Value}(h:(ref [slc n (l.map e)]).h M v):l.length≤9223372036854775807:=by
 obtain⟨b,o,_,h⟩:=h
 obtain⟨y,_,_,h⟩:=h 0 _ Y
 exact aac h
theorem CV{l:List Nat}{i:Nat}(h:l.length≤i):l.getD i 0=0:=by simp[List.getD,List.getElem?_eq_none h]
theorem AR{l:List Nat}{i:Nat}(h:i<l.length):l[i]? =some (l.getD i 0):=by simp[List.getD,h]
theorem mA{α:Type}{l:List α}{d:α}{i:Nat}(h:l.length≤i):l.getD i d=d:=by simp[List.getD,List.getElem?_eq_none h]
theorem jF{α:Type}{l:List α}{d:α}{i:Nat}(h:i<l.length):l[i]? =some (l.getD i d):=by simp[List.getD,h]
theorem Ie{α β:Type}(a:List α)(b:List β)(i:Nat)(h:i≤max a.length b.length):(i<max a.length b.length∧i<a.length∧i<b.length)∨(i<max a.length b.length∧i<a.length∧b.length≤i)∨(i<max a.length b.length∧a.length≤i∧i<b.length)∨i=max a.length b.length:=by omega
section steps
variable {P:Program}{C:Ctx}{ops:Array Oper}{S:AS}{nd:Bool}{K:List Ac→AS→Prop}{rest:List Oper}{acc:List Ac}
variable {gd:Option (Nat×Bool)}{rg:List Nat}{d:Nat}{ty:TypeId}{pos:String}{aft:Array Edge}{x y z:Operand}{T U E0:TypeId}
variable {α:Type}{l l' k:List α}{e:α→List SV}{n by_:Nat}{zv:Value}
theorem aeP{E1:TypeId}(h:l'.length=l.length):(⟨E1,n,l.length,l'.flatMap e⟩:Row)=TR E1 n e l':=by show _=Row.mk _ _ _ _;rw[h]
theorem RT.aeQ(hg:Gd ops S gd rg){f:FuncId}[cZ P f]{g:Operand}{xs:Array Operand}{at_:Array TypeId}{args:List AV}{E1:TypeId}{res:AV}(hp:QU P f args (TR E1 n e l) res (l'.flatMap e))(hlen:l'.length=l.length)(i:Nat)(hR:S.r i=.live (TR E1 n e l))(hrow:args.all AV.E9=true)(hres:res.E9=true)
  (hf:S.ev g=.sv (.v (.func (.func f) #[] #[]))) (hargs:CN S xs.toList (args.map (AV.F5 i))) (hd:d<S.n)
  (next:RunT P C ops nd K rest (⟨rg++(bp g++xs.toList.flatMap bp),[],[i],⟨some (d,res.F5 i),[],[(i,.live (TR E1 n e l'))]⟩⟩::acc) ((AS.cO [(i,.live (TR E1 n e l'))] S).set d (res.F5 i))):RunT P C ops nd K (⟨some d,.call ⟨.value g,xs,at_⟩,ty,pos,aft,gd⟩::rest) acc S:=
 RT.ail hg hp i hR hrow hres hf hargs hd (by rw[aeP hlen];exact next)
theorem RT.aiE(hg:Gd ops S gd rg)[tS:gU P T E0 n]{i o m:Nat}{E1:TypeId}{lo hi:Option Operand}(a b:Int)(hx:S.ev x=.row i)(hR:S.r i=.live (TR E1 n e l))(hlo:HV S 0 lo a)(hhi:HV S l.length hi b)(hd:d<S.n)(h:ckS l a b=some (o,m))
  (next:RunT P C ops nd K rest (⟨rg++(bp x++(uZ lo++uZ hi)),[],[i],⟨some (d,.uW i (o*n) m),[],[]⟩⟩::acc) (S.set d (.uW i (o*n) m))):RunT P C ops nd K (⟨some d,.slice T x lo hi none,ty,pos,aft,gd⟩::rest) acc S:=by
 obtain⟨h0,h1,h2,h3,h4,h5⟩:=V7 h
 exact RT.aev hg (.row hx hR) a b hlo hhi hd h0 h1 h2 h3 (o*n) m (by rw[h4];omega) h5 next
theorem RT.aeR(hg:Gd ops S gd rg){m:Nat}[tS:gU P T E0 m]{i o q:Nat}{c:Int}(hx:S.ev x=.uW i o q)(hd:d<S.n)(hc:(q:Int)=c)
  (next:RunT P C ops nd K rest (⟨rg++bp x,[],[],⟨some (d,.sv (.v (.int .i64 c))),[],[]⟩⟩::acc) (S.set d (.sv (.v (.int .i64 c))))):RunT P C ops nd K (⟨some d,.call ⟨.builtin .len,#[x],#[T]⟩,ty,pos,aft,gd⟩::rest) acc S:=
 RT.aik hg hx hd (by rw[hc];exact next)
theorem RT.Oy(hg:Gd ops S gd rg)[tS:gU P T E0 n]{i o q j:Nat}{kk:IntKind}{v:Int}(hx:S.ev x=.uW i (o*n) q)(hy:S.ev y=.sv (.v (.int kk v)))(hd:d<S.n)(h:ZB o q v=some j)
  (next:RunT P C ops nd K rest (⟨rg++(bp x++bp y),[],[],⟨some (d,.nB i (j*n)),[],[]⟩⟩::acc) (S.set d (.nB i (j*n)))):RunT P C ops nd K (⟨some d,.indexAddr T x y,ty,pos,aft,gd⟩::rest) acc S:=by
 obtain⟨h0,h1,h2⟩:=V8 h
 exact RT.ixR hg (.uW hx) hy hd h0 h1 (j*n) (by rw[←h2,Nat.add_mul]) next
end steps
def uM{S:Type}(body:Nat→S→Option S):Nat→S→Option S
 |0,s=>some s
 |n+1,s=>(uM body n s).bind (body n)
theorem vX{S:Type}{body:Nat→S→Option S}:∀{n:Nat} {s e:S},uM body n s=some e→∃st:Nat→S,st 0=s∧(∀k,k<n→body k (st k)=some (st (k+1)))∧st n=e
 |0,s,e,h=>⟨λ_=>s,Y,λ_ h=>by omega,Option.some.inj h⟩
 |n+1,s,e,h=>by
  obtain⟨e1,h1,h2⟩:=bind_some (x:=uM body n s) h
  obtain⟨st,q1,q2,q3⟩:=vX h1
  refine⟨λk=>if k=n+1 then e else st k,by simpa using q1,λk hk=>?_,by simp⟩
  rcases Nat.lt_or_ge k n with hkn|hkn
  ·simpa[show k≠n+1 by omega,show k≠n by omega]using q2 k hkn
  ·obtain rfl:k=n:=by omega
   simpa[q3]using h2
theorem Fe{S:Type}{body:Nat→S→Option S}(st:Nat→S):∀(n:Nat),(∀k,k<n→body k (st k)=some (st (k+1)))→uM body n (st 0)=some (st n)
 |0,_=>rfl
 |n+1,h=>by
  rw[uM,Fe st n (λk hk=>h k (by omega))]
  exact h n (by omega)
def wv{S E:Type}(body:Nat→S→Option (S⊕E)):Nat→S→Option (S⊕E)
 |0,s=>some (.inl s)
 |n+1,s=>(wv body n s).bind λr=>match r with|.inl s'=>body n s'|.inr e=>some (.inr e)
theorem Lc{S E:Type}{body:Nat→S→Option (S⊕E)}:∀{n:Nat} {s:S} {r:S⊕E},wv body n s=some r→∃(m:Nat) (st:Nat→S),st 0=s∧m≤n∧(∀k,k<m→body k (st k)=some (.inl (st (k+1))))∧((m=n∧r=.inl (st n))∨(m<n∧∃e,r=.inr e∧body m (st m)=some (.inr e)))
 |0,s,r,h=>⟨0,λ_=>s,Y,Nat.le_refl _,λ_ h=>by omega,.inl ⟨Y,(Option.some.inj h).symm⟩⟩
 |n+1,s,r,h=>by
  obtain⟨r1,h1,h2⟩:=bind_some (x:=wv body n s) h
  obtain⟨m,st,q1,q2,q3,q4⟩:=Lc h1
  rcases q4 with⟨rfl,rfl⟩|⟨q4,e,rfl,q5⟩
  ·simp only at h2
   cases r with
   |inr e=>exact⟨m,st,q1,by omega,q3,.inr ⟨by omega,e,Y,h2⟩⟩
   |inl s'=>
    refine⟨m+1,λk=>if k=m+1 then s' else st k,by simpa using q1,Nat.le_refl _,λk hk=>?_,.inl ⟨Y,by simp⟩⟩
    rcases Nat.lt_or_ge k m with hkn|hkn
    ·simpa[show k≠m+1 by omega,show k≠m by omega]using q3 k hkn
    ·obtain rfl:k=m:=by omega
     simpa using h2
  ·simp only at h2
   cases h2
   exact⟨m,st,q1,by omega,q3,.inr ⟨by omega,e,Y,q5⟩⟩
theorem Ml{S E:Type}{body:Nat→S→Option (S⊕E)}{n m:Nat}{st:Nat→S}{r:S⊕E}(h:∀k,k<m→body k (st k)=some (.inl (st (k+1))))(hr:(m=n∧r=.inl (st n))∨(m<n∧∃e,r=.inr e∧body m (st m)=some (.inr e))){k:Nat}(hk:k<n)(hkm:k≤m):
  ∃y,body k (st k)=some y∧(∀s',y=.inl s'→k+1≤m∧s'=st (k+1))∧∀e',y=.inr e'→r=.inr e':=by
 rcases Nat.lt_or_ge k m with q|q
 ·exact⟨_,h k q,(λs' e=>⟨q,by cases e;rfl⟩),(λe' e=>by cases e)⟩
 ·obtain rfl:k=m:=by omega
  rcases hr with⟨rfl,_⟩|⟨_,e,rfl,he⟩
  ·omega
  ·exact⟨_,he,(λs' e=>by cases e),(λe' q=>by cases q;rfl)⟩
theorem Oz{S E:Type}{body:Nat→S→Option (S⊕E)}{n m:Nat}{st:Nat→S}{r:S⊕E}(hr:(m=n∧r=.inl (st n))∨(m<n∧∃e,r=.inr e∧body m (st m)=some (.inr e)))(h:n≤m):r=.inl (st n):=by
 rcases hr with⟨_,q⟩|⟨q,_⟩
 ·exact q
 ·omega
theorem Ld{S E:Type}{body:Nat→S→Option (S⊕E)}{n:Nat}{s:S}{r:S⊕E}(h:wv body n s=some r):∃(m:Nat) (st:Nat→S),st 0=s∧(∀k,k<n→k≤m→∃y,body k (st k)=some y∧(∀s',y=.inl s'→k+1≤m∧s'=st (k+1))∧∀e',y=.inr e'→r=.inr e')∧(n≤m→r=.inl (st n)):=by
 obtain⟨m,st,q1,q2,q3,q4⟩:=Lc h
 exact⟨m,st,q1,λk hk hm=>Ml q3 q4 hk hm,λhn=>Oz q4 hn⟩
end
section
open Go.RowKit
def V9(es:List (Value×Value)):SV where
 h M v:=∃b,v=.map (some b)∧M b 0=some (.tuple ⟨es.map λp=>.tuple #[p.1,p.2]⟩)
 mono hM h:=by obtain⟨b,e,h⟩:=h;exact⟨b,e,hM _ _ _ h⟩
class SU (P:Program) (T:TypeId) (k:outParam TypeId) (e:outParam TypeId):Prop where
 u:P.underlying T=some (.map k e)
def Le(k:IntKind)(n:Int):List (Value×Value)→Option Value
 |[]=>none
 |(.int k' m,v)::l=>if k=k' then(if n=m then some v else Le k n l)else none
 |_::_=>none
theorem Cx{k:IntKind}{n:Int}{v:Value}:∀(es:List MapEntry) (i:Nat),Le k n (es.map λe=>(e.key,e.val))=some v→∃j,Instr.findNow (.int k) (.int k n) es i=some (some (j,v))
 |[],_,h=>by simp[Le]at h
 |⟨key,val,born⟩::es,i,h=>by
  cases key with
  |int k' m=>
   simp only[List.map_cons,Le]at h
   by_cases hk:k=k'
   ·subst hk
    rw[if_pos rfl]at h
    by_cases hn:n=m
    ·subst hn
     rw[if_pos rfl]at h
     cases h
     exact⟨i,by simp[Instr.findNow,Instr.sameNow]⟩
    ·rw[if_neg hn]at h
     obtain⟨j,hj⟩:=Cx es (i+1) h
     have hb:(n==m)=false:=by simp[hn]
     exact⟨j,by simp[Instr.findNow,Instr.sameNow,hb,hj]⟩
   ·rw[if_neg hk]at h;cases h
  |_=>simp[Le]at h
theorem SW:∀(l:List (Value×Value)) (m:List MapEntry),l.map (λp=>Value.tuple #[p.1,p.2])=m.map (λe=>Value.tuple #[e.key,e.val])→m.map (λe=>(e.key,e.val))=l
 |[],[],_=>rfl
 |[],_::_,h=>by simp at h
 |_::_,[],h=>by simp at h
 |(p,q)::l,e::m,h=>by
  simp only[List.map_cons,List.cons.injEq,Value.tuple.injEq]at h⊢
  refine⟨?_,SW l m h.2⟩
  have:=h.1
  simp at this
  rw[this.1,this.2]
theorem Wa{es:Array MapEntry}{l:List (Value×Value)}(h:(⟨l.map λp=>.tuple #[p.1,p.2]⟩:Array Value)=ZP es):es.toList.map (λe=>(e.key,e.val))=l:=
 SW l es.toList (congrArg Array.toList h)
theorem getM{P:Program}{w:World}{r:Nat}{es:Array MapEntry}{ck:Nat}(hb:w.heap[r]? =some (.map es ck)):(getObj r).run P w=.ok (.map es ck) w:=by simp[getObj,Sem.run,hb]
theorem amy{P:Program}{w:World}{r:Nat}{es:Array MapEntry}{ck:Nat}(o:Obj)(hb:w.heap[r]? =some (.map es ck)):(setObj r o).run P w=.ok () {w with heap:=w.heap.setIfInBounds r o}:=by simp[setObj,Sem.run,hb]
theorem ckM{P:Program}{w:World}{kt:TypeId}{k:IntKind}[tI:tw P kt k]{n:Int}(bb:Bool):(Instr.checkKey bb 10000 kt (.int k n)).run P w=.ok () w:=by
 rw[show(10000:Nat)=9999+1 from rfl,Instr.checkKey]
 simp[underlying,tI.h]
theorem Wb{M:Mem}:∀l:List Value,SV.gw M (l.map SV.v) l
 |[]=>trivial
 |_::l=>⟨Y,Wb l⟩
section steps
variable {P:Program}{C:Ctx}{ops:Array Oper}{S:AS}{nd:Bool}{K:List Ac→AS→Prop}{rest:List Oper}{acc:List Ac}
variable {gd:Option (Nat×Bool)}{rg:List Nat}{d:Nat}{ty:TypeId}{pos:String}{aft:Array Edge}{x y z:Operand}{T U E0:TypeId}
theorem RT.look(hg:Gd ops S gd rg){kt et:TypeId}[tM:SU P T kt et]{k:IntKind}[tI:tw P kt k]{es:List (Value×Value)}{n:Int}(cs:List Value)(hx:S.ev x=.sv (V9 es))(hy:S.ev y=.sv (.v (.int k n)))(hl:Le k n es=some (.agg ⟨cs⟩))(hd:d<S.n)
  (next:RunT P C ops nd K rest (⟨rg++(bp x++bp y),[],[],⟨some (d,.sv (.agg (cs.map SV.v))),[],[]⟩⟩::acc) (S.set d (.sv (.agg (cs.map SV.v))))):RunT P C ops nd K (⟨some d,.lookup T x y false,ty,pos,aft,gd⟩::rest) acc S:=
 RT.value hg (bp x++bp y) [] [] (.sv (.agg (cs.map SV.v))) hd (by intro c h;cases h) (λS' ht _ _ E a w h=>by
  have h1:=h.ev x
  rw[bQ (λ_ h=>List.mem_append_left _ h) ht,hx]at h1
  have h2:a.eval y=.int k n:=by have h2:=h.ev y;rw[bQ (λ_ h=>List.mem_append_right _ h) ht,hy]at h2;exact h2
  obtain⟨b,e,hb⟩:=h1
  obtain⟨ms,ck,hm,he⟩:=h.ep _ _ _ hb
  have he:=Wa he
  rw[←he]at hl
  obtain⟨j,hj⟩:=Cx ms.toList 0 hl
  refine⟨.agg ⟨cs⟩,?_,⟨cs,Y,?_⟩,iz⟩
  ·have hfk:(Instr.findKey kt (.int k n) ms.toList).run P w=.ok (some (j,.agg ⟨cs⟩)) w:=by
    simp[Instr.findKey,underlying,tI.h,hj]
   simp[execOp,e,h2,Instr.lookup,underlying,tM.u,getM hm,ckM,hfk]
  ·exact Wb cs) next
def AT(w:World)(ms:Array MapEntry)(ck:Nat):World:=w.alloc (.map ms ck)
theorem Ff(w:World)(ms:Array MapEntry)(ck:Nat):(AT w ms ck).heap[w.heap.size]? =some (.map ms ck):=by show(w.heap.push _)[w.heap.size]? =_;simp
theorem run_make{d:Option Nat}{ρ:Operand→Value}{w:World}:(execOp ρ ⟨d,.makeMap T none,ty,pos,aft,none⟩).run P w=.ok (.value (.map (some w.heap.size))) (AT w #[] 0):=by
 simp[execOp,Instr.makeMap,AT]
theorem Hh{d:Option Nat}{kt et:TypeId}[tM:SU P T kt et]{k:IntKind}[tI:tw P kt k]{ρ:Operand→Value}{w:World}{ms:Array MapEntry}{ck:Nat}{n:Int}{v:Value}(hx:ρ x=.map (some w.heap.size))(hy:ρ y=.int k n)(hz:ρ z=v)
  (hf:Instr.findNow (.int k) (.int k n) ms.toList 0=some none):(execOp ρ ⟨d,.insert T x y z,ty,pos,aft,none⟩).run P (AT w ms ck)=.ok .skip (AT w (ms.push ⟨.int k n,v,ck⟩) (ck+1)):=by
 have hfk:(Instr.findKey kt (.int k n) ms.toList).run P (AT w ms ck)=.ok none (AT w ms ck):=by
  simp[Instr.findKey,underlying,tI.h,hf]
 have amA:∀o:Obj,{AT w ms ck with heap:=(AT w ms ck).heap.setIfInBounds w.heap.size o}=w.alloc o:=by
  intro o
  simp only[AT,World.alloc]
  congr 1
  apply Array.ext'
  simp
 simp[execOp,hx,hy,hz,Instr.mapUpdate,underlying,tM.u,getM (Ff w ms ck),ckM,hfk,amy _ (Ff w ms ck)]
 exact amA _
theorem Hi{d:Option Nat}{z0:Value}[tP:lK P U [(0,1)] [z0]]{ρ:Operand→Value}{w:World}{v:Value}(hx:ρ x=v)(hv:v.oneCell'=true):(execOp ρ ⟨d,.build U #[(0,x)],ty,pos,aft,none⟩).run P w=.ok (.value (.agg #[v])) w:=by
 have hu:=tP.h
 cases hT:P.underlying U with
 |none=>rw[hT]at hu;cases hu
 |some u=>
  rw[hT]at hu
  cases u with
  |struct fs=>
   simp only at hu
   have hz:(zeroValue U).run P w=.ok (.agg ⟨[z0]⟩) w:=mJ.run (t:=⟨tP.hz⟩) w
   have hm:(fs.mapM (λf=>do pure (f.offset,←sizeOf f.type):Field→Sem (Nat×Nat))).run P w=.ok #[(0,1)] w:=by
    have:=AP (P:=P) (w:=w) hu
    rw[←Array.toArray_toList (xs:=fs),List.mapM_toArray]
    rw[Sem.run_map,this];rfl
   simp only[execOp,Instr.build,underlying]
   simp only[Sem.run_bind,hz,Result.andThen_ok,run_program,hT,Sem.run_pure,Value.cells]
   have hm':(Array.mapM (λf=>do
     let __do_lift←sizeOf f.type
     pure (f.offset,__do_lift)) fs:Sem _).run P w=.ok #[(0,1)] w:=hm
   simp only[hm',Result.andThen_ok]
   have h1':Instr.fill (λi=>(#[(0,1)]:Array (Nat×Nat))[i]?) ⟨[z0]⟩ [(0,v)]=some ⟨[v]⟩:=by
    simp[Instr.fill,ni hv]
    try rfl
   have e4:(Array.map (λx=>match x with|(i,x)=>(i,ρ x)) #[(0,x)]).toList=[(0,v)]:=by simp[hx]
   simp only[e4,h1',Sem.run_pure,Result.andThen_ok]
  |_=>cases hu
theorem aad{Q:Exit→AS→Prop}{id:Nat}{T U kt et t0:TypeId}[tM:SU P T kt et]{k:IntKind}[tI:tw P kt k]{z0:Value}[tP:lK P U [(0,1)] [z0]]{f1 f2 f3 f4:FuncId}{n1 n2 n3 n4:Int}
  {p0 p1 p2 p3 p4 p5 p6 p7 p8 p9 p10:String} {a0 a1 a2 a3 a4 a5 a6 a7 a8 a9 a10:Array Edge} {u1 u2 u3 u4 u5 u6 u7 u8 u9:TypeId} (hn:7≤S.n)
  (h2:Instr.findNow (.int k) (.int k n2) [⟨.int k n1,.agg #[.func (.func f1) #[] #[]],0⟩] 0=some none)
  (h3:Instr.findNow (.int k) (.int k n3) [⟨.int k n1,.agg #[.func (.func f1) #[] #[]],0⟩,⟨.int k n2,.agg #[.func (.func f2) #[] #[]],1⟩] 0=some none)
  (h4:Instr.findNow (.int k) (.int k n4) [⟨.int k n1,.agg #[.func (.func f1) #[] #[]],0⟩,⟨.int k n2,.agg #[.func (.func f2) #[] #[]],1⟩,⟨.int k n3,.agg #[.func (.func f3) #[] #[]],2⟩] 0=some none)
  (hQ:∀S',S'.t 0=.sv (V9 [(.int k n1,.agg #[.func (.func f1) #[] #[]]),(.int k n2,.agg #[.func (.func f2) #[] #[]]),(.int k n3,.agg #[.func (.func f3) #[] #[]]),(.int k n4,.agg #[.func (.func f4) #[] #[]])])→Q .normal S'):
  Ok P C (.region id #[⟨some 1,.makeMap T none,t0,p0,a0,none⟩,⟨some 2,.build U #[(0,.func f1)],u1,p1,a1,none⟩,⟨none,.insert T (.tmp 1) (.const (.int k n1)) (.tmp 2),u2,p2,a2,none⟩,
   ⟨some 3,.build U #[(0,.func f2)],u3,p3,a3,none⟩,⟨none,.insert T (.tmp 1) (.const (.int k n2)) (.tmp 3),u4,p4,a4,none⟩,⟨some 4,.build U #[(0,.func f3)],u5,p5,a5,none⟩,⟨none,.insert T (.tmp 1) (.const (.int k n3)) (.tmp 4),u6,p6,a6,none⟩,
   ⟨some 5,.build U #[(0,.func f4)],u7,p7,a7,none⟩,⟨none,.insert T (.tmp 1) (.const (.int k n4)) (.tmp 5),u8,p8,a8,none⟩,⟨some 6,.move (.tmp 1),u9,p9,a9,none⟩,⟨some 0,.assign (.tmp 6),u9,p10,a10,none⟩] false) S Q:=by
 rintro a w ⟨E,h⟩
 refine wpIn_region ?_
 show wpOpsIn _ _ _ _ _ [0,1,2,3,4,5,6,7,8,9,10] a w
 have hS:∀(S:AS) (d:Nat) (x:AV),(S.set d x).n=S.n:=λ_ _ _=>rfl
 rw[wpOpsIn_cons]
 refine dy (C:=C) rfl rfl (dm (C:=C) (by intro c h;cases h) run_make ?_)
 have g1:=h.put (d:=1) (x:=.sv (.v (.map (some w.heap.size)))) (v:=.map (some w.heap.size)) Y (by omega) iz
 show wpOpsIn _ _ _ _ _ _ (a.put (some 1) _) _
 generalize a.put (some 1) (.map (some w.heap.size))=b1 at g1⊢
 rw[wpOpsIn_cons]
 refine dy (C:=C) rfl rfl (dm (C:=C) (by intro c h;cases h) (Hi rfl rfl) ?_)
 have g2:=g1.put (d:=2) (x:=.sv (.v (.agg #[.func (.func f1) #[] #[]]))) (v:=.agg #[.func (.func f1) #[] #[]]) Y (by rw[hS];omega) iz
 show wpOpsIn _ _ _ _ _ _ (b1.put (some 2) (.agg #[.func (.func f1) #[] #[]])) _
 generalize b1.put (some 2) (.agg #[.func (.func f1) #[] #[]])=b2 at g2⊢
 rw[wpOpsIn_cons]
 refine dy (C:=C) rfl rfl (dm (C:=C) (by intro c h;cases h) (Hh (k:=k) (n:=n1) (v:=.agg #[.func (.func f1) #[] #[]]) (g2.ev (.tmp 1)) rfl (g2.ev (.tmp 2)) rfl) ?_)
 show wpOpsIn _ _ _ _ _ _ (b2.put none undef) _
 rw[show b2.put none undef=b2 from rfl,wpOpsIn_cons]
 refine dy (C:=C) rfl rfl (dm (C:=C) (by intro c h;cases h) (Hi rfl rfl) ?_)
 have g3:=g2.put (d:=3) (x:=.sv (.v (.agg #[.func (.func f2) #[] #[]]))) (v:=.agg #[.func (.func f2) #[] #[]]) Y (by rw[hS,hS];omega) iz
 show wpOpsIn _ _ _ _ _ _ (b2.put (some 3) (.agg #[.func (.func f2) #[] #[]])) _
 generalize b2.put (some 3) (.agg #[.func (.func f2) #[] #[]])=b3 at g3⊢
 rw[wpOpsIn_cons]
 refine dy (C:=C) rfl rfl (dm (C:=C) (by intro c h;cases h) (Hh (k:=k) (n:=n2) (v:=.agg #[.func (.func f2) #[] #[]]) (g3.ev (.tmp 1)) rfl (g3.ev (.tmp 3)) (by simpa using h2)) ?_)
 show wpOpsIn _ _ _ _ _ _ (b3.put none undef) _
 rw[show b3.put none undef=b3 from rfl,wpOpsIn_cons]
 refine dy (C:=C) rfl rfl (dm (C:=C) (by intro c h;cases h) (Hi rfl rfl) ?_)
 have g4:=g3.put (d:=4) (x:=.sv (.v (.agg #[.func (.func f3) #[] #[]]))) (v:=.agg #[.func (.func f3) #[] #[]]) Y (by rw[hS,hS,hS];omega) iz
 show wpOpsIn _ _ _ _ _ _ (b3.put (some 4) (.agg #[.func (.func f3) #[] #[]])) _
 generalize b3.put (some 4) (.agg #[.func (.func f3) #[] #[]])=b4 at g4⊢
 rw[wpOpsIn_cons]
 refine dy (C:=C) rfl rfl (dm (C:=C) (by intro c h;cases h) (Hh (k:=k) (n:=n3) (v:=.agg #[.func (.func f3) #[] #[]]) (g4.ev (.tmp 1)) rfl (g4.ev (.tmp 4)) (by simpa using h3)) ?_)
 show wpOpsIn _ _ _ _ _ _ (b4.put none undef) _
 rw[show b4.put none undef=b4 from rfl,wpOpsIn_cons]
 refine dy (C:=C) rfl rfl (dm (C:=C) (by intro c h;cases h) (Hi rfl rfl) ?_)
 have g5:=g4.put (d:=5) (x:=.sv (.v (.agg #[.func (.func f4) #[] #[]]))) (v:=.agg #[.func (.func f4) #[] #[]]) Y (by rw[hS,hS,hS,hS];omega) iz
 show wpOpsIn _ _ _ _ _ _ (b4.put (some 5) (.agg #[.func (.func f4) #[] #[]])) _
 generalize b4.put (some 5) (.agg #[.func (.func f4) #[] #[]])=b5 at g5⊢
 rw[wpOpsIn_cons]
 refine dy (C:=C) rfl rfl (dm (C:=C) (by intro c h;cases h) (Hh (k:=k) (n:=n4) (v:=.agg #[.func (.func f4) #[] #[]]) (g5.ev (.tmp 1)) rfl (g5.ev (.tmp 5)) (by simpa using h4)) ?_)
 show wpOpsIn _ _ _ _ _ _ (b5.put none undef) _
 have e1:b5.eval (.tmp 1)=.map (some w.heap.size):=g5.ev (.tmp 1)
 obtain⟨ms,hms⟩:∃ms:Array MapEntry,(((((#[]:Array MapEntry).push ⟨.int k n1,.agg #[.func (.func f1) #[] #[]],0⟩).push ⟨.int k n2,.agg #[.func (.func f2) #[] #[]],0+1⟩).push ⟨.int k n3,.agg #[.func (.func f3) #[] #[]],0+1+1⟩).push ⟨.int k n4,.agg #[.func (.func f4) #[] #[]],0+1+1+1⟩)=ms:=⟨_,Y⟩
 rw[hms]
 have hno:∀o,E.M w.heap.size o=none:=λo=>by
  cases e:E.M w.heap.size o with
  |none=>rfl
  |some v=>have:=uJ h.ep e;omega
 have g6:=g5.grow (M':=λb o=>if b=w.heap.size∧o=0 then some (.tuple (ZP ms))else E.M b o) (w':=AT w ms (0+1+1+1+1)) (λb o v e=>by
   have:b≠w.heap.size:=by rintro rfl;rw[hno o]at e;cases e
   simp[this,e]) (λb o v e=>by
   by_cases hb:b=w.heap.size∧o=0
   ·exact .inr (by omega)
   ·simp only[if_neg hb]at e;exact .inl e) (λb o v e=>by
   by_cases hb:b=w.heap.size∧o=0
   ·simp only[if_pos hb]at e
    obtain⟨rfl,rfl⟩:=hb
    cases e
    exact⟨ms,_,Ff w ms _,Y⟩
   ·simp only[if_neg hb]at e
    have hlt:=uJ h.ep e
    refine(h.ep b o v e).same ?_
    show(w.heap.push _)[b]? =_
    rw[Array.getElem?_push,if_neg (by omega)]) ((Below.refl _ _).alloc (Nat.le_refl _) _)
 have hm:∀X:Env,X.M w.heap.size 0=some (.tuple (ZP ms))→(V9 [(.int k n1,.agg #[.func (.func f1) #[] #[]]),(.int k n2,.agg #[.func (.func f2) #[] #[]]),(.int k n3,.agg #[.func (.func f3) #[] #[]]),(.int k n4,.agg #[.func (.func f4) #[] #[]])]).h X.M (.map (some w.heap.size)):=λX hX=>by
  refine⟨_,Y,?_⟩
  rw[hX,←hms];rfl
 have g7:=g6.put (d:=6) (x:=.sv (.v (.map (some w.heap.size)))) (v:=.map (some w.heap.size)) Y (by rw[hS,hS,hS,hS,hS];omega) iz
 rw[show b5.put none undef=b5 from rfl,wpOpsIn_cons]
 refine dy (C:=C) rfl rfl (dm (C:=C) (by intro c h;cases h) (r:=.ok (.value (.map (some w.heap.size))) _) (by show Result.ok (Next.value (b5.eval (.tmp 1))) _=_;rw[e1]) ?_)
 show wpOpsIn _ _ _ _ _ _ (b5.put (some 6) (.map (some w.heap.size))) _
 generalize b5.put (some 6) (.map (some w.heap.size))=b6 at g7⊢
 have e6:b6.eval (.tmp 6)=.map (some w.heap.size):=g7.ev (.tmp 6)
 have g8:=g7.put (d:=0) (x:=.sv (V9 [(.int k n1,.agg #[.func (.func f1) #[] #[]]),(.int k n2,.agg #[.func (.func f2) #[] #[]]),(.int k n3,.agg #[.func (.func f3) #[] #[]]),(.int k n4,.agg #[.func (.func f4) #[] #[]])])) (v:=.map (some w.heap.size)) (hm _ (by simp)) (by rw[hS,hS,hS,hS,hS,hS];omega) iz
 rw[wpOpsIn_cons]
 refine dy (C:=C) rfl rfl (dm (C:=C) (by intro c h;cases h) (r:=.ok (.value (.map (some w.heap.size))) _) (by show Result.ok (Next.value (b6.eval (.tmp 6))) _=_;rw[e6]) ?_)
 show wpOpsIn _ _ _ _ _ _ (b6.put (some 0) (.map (some w.heap.size))) _
 rw[wpOpsIn]
 exact⟨_,hQ _ Y,_,g8⟩
end steps
section scope
variable {P:Program}{C:Ctx}{S:AS}{Q:Exit→AS→Prop}
end scope
end
end Go.Fw
namespace Go.Proofs.YtningmnklfpfjaaGreat
section
open Go.Fw
open Go.Proofs
noncomputable abbrev af:=Tryz.prog
instance:tw af 2 .i64:=⟨by kernel_rfl⟩
instance:zo af 2:=⟨by kernel_rfl,by kernel_rfl⟩
instance:nS af 2 1 8 (.int .i64 0):=⟨by kernel_rfl,by rfl,by decide,by decide⟩
instance:tw af 3 .i64:=⟨by kernel_rfl⟩
instance:zo af 3:=⟨by kernel_rfl,by kernel_rfl⟩
instance:mJ af 3 (.int .i64 0):=⟨by kernel_rfl⟩
instance:nS af 3 1 8 (.int .i64 0):=⟨by kernel_rfl,by rfl,by decide,by decide⟩
instance:L7 af 4:=⟨by kernel_rfl⟩
instance:zo af 4:=⟨by kernel_rfl,by kernel_rfl⟩
instance:mJ af 4 (.bool false):=⟨by kernel_rfl⟩
instance:nS af 4 1 1 (.bool false):=⟨by kernel_rfl,by rfl,by decide,by decide⟩
instance:tw af 5 .u8:=⟨by kernel_rfl⟩
instance:abX af 9:=⟨by kernel_rfl⟩
instance:zo af 22:=⟨by kernel_rfl,by kernel_rfl⟩
instance:mJ af 22 (.slice none 0 0):=⟨by kernel_rfl⟩
instance:nS af 22 1 24 (.slice none 0 0):=⟨by kernel_rfl,by rfl,by decide,by decide⟩
instance:gU af 22 23 1:=⟨by kernel_rfl,by kernel_rfl⟩
instance:zo af 23:=⟨by kernel_rfl,by kernel_rfl⟩
instance:mJ af 23 (.slice none 0 0):=⟨by kernel_rfl⟩
instance:nS af 23 1 24 (.slice none 0 0):=⟨by kernel_rfl,by rfl,by decide,by decide⟩
instance:gU af 23 43 4:=⟨by kernel_rfl,by kernel_rfl⟩
instance:Gy af 25 4:=⟨by kernel_rfl,by kernel_rfl⟩
instance:KX af 25:=⟨λw=>⟨3,Gy.size (T:=25) (n:=4) w⟩⟩
instance:mJ af 25 (.agg #[.int .i64 0,.slice none 0 0,.slice none 0 0,.slice none 0 0]):=⟨by kernel_rfl⟩
instance:lK af 25 [(0,1),(1,1),(2,1),(3,1)] [.int .i64 0,.slice none 0 0,.slice none 0 0,.slice none 0 0]:=⟨by kernel_rfl,by kernel_rfl,by rfl⟩
instance:EV af 25 0 0 3:=⟨by kernel_rfl⟩
instance:EV af 25 1 1 22:=⟨by kernel_rfl⟩
instance:EV af 25 2 2 22:=⟨by kernel_rfl⟩
instance:EV af 25 3 3 23:=⟨by kernel_rfl⟩
instance:zo af 30:=⟨by kernel_rfl,by kernel_rfl⟩
instance:zo af 39:=⟨by kernel_rfl,by kernel_rfl⟩
instance:mJ af 39 (.slice none 0 0):=⟨by kernel_rfl⟩
instance:gU af 39 130 1:=⟨by kernel_rfl,by kernel_rfl⟩
instance:Gy af 41 2:=⟨by kernel_rfl,by kernel_rfl⟩
instance:KX af 41:=⟨λw=>⟨1,Gy.size (T:=41) (n:=2) w⟩⟩
instance:mJ af 41 (.agg #[.bool false,.slice none 0 0]):=⟨by kernel_rfl⟩
instance:nS af 41 2 32 (.agg #[.bool false,.slice none 0 0]):=⟨by kernel_rfl,by rfl,by decide,by decide⟩
instance:lK af 41 [(0,1),(1,1)] [.bool false,.slice none 0 0]:=⟨by kernel_rfl,by kernel_rfl,by rfl⟩
instance:EV af 41 0 0 4:=⟨by kernel_rfl⟩
instance:EV af 41 1 1 39:=⟨by kernel_rfl⟩
instance:Gy af 43 4:=⟨by kernel_rfl,by kernel_rfl⟩
instance:mJ af 43 (.agg #[.bool false,.slice none 0 0,.bool false,.slice none 0 0]):=⟨by kernel_rfl⟩
instance:nS af 43 4 64 (.agg #[.bool false,.slice none 0 0,.bool false,.slice none 0 0]):=⟨by kernel_rfl,by rfl,by decide,by decide⟩
instance:lK af 43 [(0,2),(2,2)] [.bool false,.slice none 0 0,.bool false,.slice none 0 0]:=⟨by kernel_rfl,by kernel_rfl,by rfl⟩
instance:EV af 43 0 0 41:=⟨by kernel_rfl⟩
instance:EV af 43 1 2 41:=⟨by kernel_rfl⟩
instance:zo af 45:=⟨by kernel_rfl,by kernel_rfl⟩
instance:gU af 45 3 1:=⟨by kernel_rfl,by kernel_rfl⟩
instance:lK af 59 [(0,4),(4,1)] [.int .i64 0,.slice none 0 0,.slice none 0 0,.slice none 0 0,.slice none 0 0]:=⟨by kernel_rfl,by kernel_rfl,by rfl⟩
instance:EV af 59 0 0 25:=⟨by kernel_rfl⟩
instance:EV af 59 1 4 45:=⟨by kernel_rfl⟩
instance:lK af 79 [(0,1),(1,1),(2,1),(3,1),(4,1)] [.bool false,.int .i64 0,.slice none 0 0,.slice none 0 0,.slice none 0 0]:=⟨by kernel_rfl,by kernel_rfl,by rfl⟩
instance:EV af 79 0 0 4:=⟨by kernel_rfl⟩
instance:EV af 79 1 1 3:=⟨by kernel_rfl⟩
instance:EV af 79 2 2 22:=⟨by kernel_rfl⟩
instance:EV af 79 3 3 45:=⟨by kernel_rfl⟩
instance:EV af 79 4 4 22:=⟨by kernel_rfl⟩
instance:zo af 89:=⟨by kernel_rfl,by kernel_rfl⟩
instance:gU af 92 4 1:=⟨by kernel_rfl,by kernel_rfl⟩
instance:Gy af 97 4:=⟨by kernel_rfl,by kernel_rfl⟩
instance:mJ af 97 (.agg #[.int .i64 0,.int .i64 0,.int .i64 0,.int .i64 0]):=⟨by kernel_rfl⟩
instance:lK af 97 [(0,1),(1,1),(2,1),(3,1)] [.int .i64 0,.int .i64 0,.int .i64 0,.int .i64 0]:=⟨by kernel_rfl,by kernel_rfl,by rfl⟩
instance:EV af 97 0 0 3:=⟨by kernel_rfl⟩
instance:EV af 97 1 1 3:=⟨by kernel_rfl⟩
instance:EV af 97 2 2 3:=⟨by kernel_rfl⟩
instance:EV af 97 3 3 3:=⟨by kernel_rfl⟩
instance:zo af 106:=⟨by kernel_rfl,by kernel_rfl⟩
instance:zo af 117:=⟨by kernel_rfl,by kernel_rfl⟩
instance:nS af 117 1 24 (.slice none 0 0):=⟨by kernel_rfl,by rfl,by decide,by decide⟩
instance:gU af 117 2 1:=⟨by kernel_rfl,by kernel_rfl⟩
instance:Gy af 124 1:=⟨by kernel_rfl,by kernel_rfl⟩
instance:mJ af 124 (.agg #[.nilFunc]):=⟨by kernel_rfl⟩
instance:lK af 124 [(0,1)] [.nilFunc]:=⟨by kernel_rfl,by kernel_rfl,by rfl⟩
instance:EV af 124 0 0 89:=⟨by kernel_rfl⟩
instance:tw af 128 .u64:=⟨by kernel_rfl⟩
instance:zo af 128:=⟨by kernel_rfl,by kernel_rfl⟩
instance:tw af 130 .u32:=⟨by kernel_rfl⟩
instance:zo af 130:=⟨by kernel_rfl,by kernel_rfl⟩
instance:nS af 130 1 4 (.int .u32 0):=⟨by kernel_rfl,by rfl,by decide,by decide⟩
instance:gU af 155 22 1:=⟨by kernel_rfl,by kernel_rfl⟩
instance:gU af 156 117 1:=⟨by kernel_rfl,by kernel_rfl⟩
instance:gU af 167 41 2:=⟨by kernel_rfl,by kernel_rfl⟩
instance:zo af 174:=⟨by kernel_rfl,by kernel_rfl⟩
instance:lK af 176 [(0,1)] [.nilFunc]:=⟨by kernel_rfl,by kernel_rfl,by rfl⟩
instance:EV af 176 0 0 174:=⟨by kernel_rfl⟩
instance:SU af 177 5 176:=⟨by kernel_rfl⟩
instance:tw af 179 .u64:=⟨by kernel_rfl⟩
instance:zo af 186:=⟨by kernel_rfl,by kernel_rfl⟩
instance:mJ af 186 (.nilFunc):=⟨by kernel_rfl⟩
instance:cZ af 9:=⟨by kernel_rfl⟩
instance:cZ af 10:=⟨by kernel_rfl⟩
instance:cZ af 12:=⟨by kernel_rfl⟩
instance:cZ af 14:=⟨by kernel_rfl⟩
instance:cZ af 16:=⟨by kernel_rfl⟩
instance:cZ af 17:=⟨by kernel_rfl⟩
instance:cZ af 18:=⟨by kernel_rfl⟩
instance:cZ af 19:=⟨by kernel_rfl⟩
instance:cZ af 20:=⟨by kernel_rfl⟩
instance:cZ af 21:=⟨by kernel_rfl⟩
instance:cZ af 23:=⟨by kernel_rfl⟩
instance:cZ af 24:=⟨by kernel_rfl⟩
instance:cZ af 27:=⟨by kernel_rfl⟩
instance:cZ af 28:=⟨by kernel_rfl⟩
instance:cZ af 29:=⟨by kernel_rfl⟩
instance:cZ af 30:=⟨by kernel_rfl⟩
instance:cZ af 31:=⟨by kernel_rfl⟩
instance:cZ af 32:=⟨by kernel_rfl⟩
instance:cZ af 33:=⟨by kernel_rfl⟩
instance:cZ af 34:=⟨by kernel_rfl⟩
instance:cZ af 35:=⟨by kernel_rfl⟩
instance:cZ af 37:=⟨by kernel_rfl⟩
instance:cZ af 38:=⟨by kernel_rfl⟩
instance:cZ af 40:=⟨by kernel_rfl⟩
instance:cZ af 41:=⟨by kernel_rfl⟩
instance:cZ af 42:=⟨by kernel_rfl⟩
instance:cZ af 45:=⟨by kernel_rfl⟩
instance:cZ af 47:=⟨by kernel_rfl⟩
instance:cZ af 50:=⟨by kernel_rfl⟩
instance:cZ af 52:=⟨by kernel_rfl⟩
instance:cZ af 53:=⟨by kernel_rfl⟩
instance:cZ af 54:=⟨by kernel_rfl⟩
instance:cZ af 56:=⟨by kernel_rfl⟩
instance:cZ af 57:=⟨by kernel_rfl⟩
instance:cZ af 58:=⟨by kernel_rfl⟩
instance:cZ af 59:=⟨by kernel_rfl⟩
instance:cZ af 60:=⟨by kernel_rfl⟩
instance:cZ af 61:=⟨by kernel_rfl⟩
instance:cZ af 62:=⟨by kernel_rfl⟩
instance:cZ af 63:=⟨by kernel_rfl⟩
instance:cZ af 64:=⟨by kernel_rfl⟩
instance:cZ af 65:=⟨by kernel_rfl⟩
instance:cZ af 66:=⟨by kernel_rfl⟩
instance:cZ af 67:=⟨by kernel_rfl⟩
instance:cZ af 68:=⟨by kernel_rfl⟩
instance:cZ af 69:=⟨by kernel_rfl⟩
instance:cZ af 70:=⟨by kernel_rfl⟩
instance:cZ af 71:=⟨by kernel_rfl⟩
instance:cZ af 72:=⟨by kernel_rfl⟩
instance:cZ af 74:=⟨by kernel_rfl⟩
instance:cZ af 75:=⟨by kernel_rfl⟩
instance:cZ af 76:=⟨by kernel_rfl⟩
instance:cZ af 77:=⟨by kernel_rfl⟩
instance:cZ af 78:=⟨by kernel_rfl⟩
instance:cZ af 79:=⟨by kernel_rfl⟩
instance:cZ af 80:=⟨by kernel_rfl⟩
instance:cZ af 81:=⟨by kernel_rfl⟩
instance:cZ af 82:=⟨by kernel_rfl⟩
instance:cZ af 83:=⟨by kernel_rfl⟩
instance:cZ af 84:=⟨by kernel_rfl⟩
instance:cZ af 86:=⟨by kernel_rfl⟩
instance:cZ af 88:=⟨by kernel_rfl⟩
instance:cZ af 89:=⟨by kernel_rfl⟩
instance:cZ af 90:=⟨by kernel_rfl⟩
instance:cZ af 91:=⟨by kernel_rfl⟩
instance:cZ af 93:=⟨by kernel_rfl⟩
instance:cZ af 94:=⟨by kernel_rfl⟩
instance:cZ af 95:=⟨by kernel_rfl⟩
instance:cZ af 96:=⟨by kernel_rfl⟩
instance:cZ af 97:=⟨by kernel_rfl⟩
instance:cZ af 98:=⟨by kernel_rfl⟩
instance:cZ af 99:=⟨by kernel_rfl⟩
instance:cZ af 100:=⟨by kernel_rfl⟩
instance:cZ af 101:=⟨by kernel_rfl⟩
instance:cZ af 102:=⟨by kernel_rfl⟩
instance:cZ af 103:=⟨by kernel_rfl⟩
instance:cZ af 104:=⟨by kernel_rfl⟩
instance:cZ af 105:=⟨by kernel_rfl⟩
instance:cZ af 106:=⟨by kernel_rfl⟩
instance:cZ af 107:=⟨by kernel_rfl⟩
instance:cZ af 108:=⟨by kernel_rfl⟩
instance:cZ af 109:=⟨by kernel_rfl⟩
instance:cZ af 110:=⟨by kernel_rfl⟩
instance:cZ af 111:=⟨by kernel_rfl⟩
instance:cZ af 112:=⟨by kernel_rfl⟩
instance:cZ af 113:=⟨by kernel_rfl⟩
instance:cZ af 114:=⟨by kernel_rfl⟩
instance:cZ af 115:=⟨by kernel_rfl⟩
instance:cZ af 116:=⟨by kernel_rfl⟩
instance:cZ af 117:=⟨by kernel_rfl⟩
instance:cZ af 118:=⟨by kernel_rfl⟩
instance:cZ af 120:=⟨by kernel_rfl⟩
instance:cZ af 121:=⟨by kernel_rfl⟩
instance:cZ af 122:=⟨by kernel_rfl⟩
instance:cZ af 123:=⟨by kernel_rfl⟩
instance:cZ af 124:=⟨by kernel_rfl⟩
instance:cZ af 125:=⟨by kernel_rfl⟩
instance:cZ af 127:=⟨by kernel_rfl⟩
instance:cZ af 128:=⟨by kernel_rfl⟩
instance:cZ af 129:=⟨by kernel_rfl⟩
instance:cZ af 130:=⟨by kernel_rfl⟩
instance:cZ af 132:=⟨by kernel_rfl⟩
instance:cZ af 133:=⟨by kernel_rfl⟩
instance:cZ af 134:=⟨by kernel_rfl⟩
instance:cZ af 135:=⟨by kernel_rfl⟩
instance:cZ af 136:=⟨by kernel_rfl⟩
instance:cZ af 137:=⟨by kernel_rfl⟩
instance:cZ af 139:=⟨by kernel_rfl⟩
instance:cZ af 140:=⟨by kernel_rfl⟩
instance:cZ af 141:=⟨by kernel_rfl⟩
instance:cZ af 142:=⟨by kernel_rfl⟩
instance:cZ af 143:=⟨by kernel_rfl⟩
instance:cZ af 144:=⟨by kernel_rfl⟩
instance:cZ af 145:=⟨by kernel_rfl⟩
instance:cZ af 146:=⟨by kernel_rfl⟩
instance:cZ af 147:=⟨by kernel_rfl⟩
instance:cZ af 148:=⟨by kernel_rfl⟩
instance:cZ af 149:=⟨by kernel_rfl⟩
instance:cZ af 150:=⟨by kernel_rfl⟩
instance:cZ af 151:=⟨by kernel_rfl⟩
instance:cZ af 152:=⟨by kernel_rfl⟩
instance:cZ af 153:=⟨by kernel_rfl⟩
instance:cZ af 154:=⟨by kernel_rfl⟩
instance:cZ af 155:=⟨by kernel_rfl⟩
instance:cZ af 156:=⟨by kernel_rfl⟩
instance:cZ af 157:=⟨by kernel_rfl⟩
instance:cZ af 158:=⟨by kernel_rfl⟩
instance:cZ af 159:=⟨by kernel_rfl⟩
instance:cZ af 160:=⟨by kernel_rfl⟩
instance:cZ af 161:=⟨by kernel_rfl⟩
instance:cZ af 162:=⟨by kernel_rfl⟩
instance:cZ af 163:=⟨by kernel_rfl⟩
instance:cZ af 164:=⟨by kernel_rfl⟩
instance:cZ af 165:=⟨by kernel_rfl⟩
instance:cZ af 166:=⟨by kernel_rfl⟩
instance:cZ af 167:=⟨by kernel_rfl⟩
instance:cZ af 168:=⟨by kernel_rfl⟩
instance:cZ af 169:=⟨by kernel_rfl⟩
instance:cZ af 170:=⟨by kernel_rfl⟩
instance:cZ af 171:=⟨by kernel_rfl⟩
instance:cZ af 172:=⟨by kernel_rfl⟩
instance:cZ af 173:=⟨by kernel_rfl⟩
instance:cZ af 174:=⟨by kernel_rfl⟩
instance:cZ af 175:=⟨by kernel_rfl⟩
instance:cZ af 176:=⟨by kernel_rfl⟩
instance:cZ af 177:=⟨by kernel_rfl⟩
instance:cZ af 178:=⟨by kernel_rfl⟩
instance:cZ af 179:=⟨by kernel_rfl⟩
instance:cZ af 180:=⟨by kernel_rfl⟩
instance:cZ af 181:=⟨by kernel_rfl⟩
instance:cZ af 182:=⟨by kernel_rfl⟩
instance:cZ af 183:=⟨by kernel_rfl⟩
instance:cZ af 184:=⟨by kernel_rfl⟩
instance:cZ af 185:=⟨by kernel_rfl⟩
instance:cZ af 186:=⟨by kernel_rfl⟩
instance:cZ af 187:=⟨by kernel_rfl⟩
instance:cZ af 188:=⟨by kernel_rfl⟩
instance:cZ af 189:=⟨by kernel_rfl⟩
instance:cZ af 190:=⟨by kernel_rfl⟩
instance:cZ af 191:=⟨by kernel_rfl⟩
instance:cZ af 192:=⟨by kernel_rfl⟩
instance:cZ af 193:=⟨by kernel_rfl⟩
instance:cZ af 194:=⟨by kernel_rfl⟩
instance:cZ af 195:=⟨by kernel_rfl⟩
instance:cZ af 196:=⟨by kernel_rfl⟩
instance:cZ af 197:=⟨by kernel_rfl⟩
instance:cZ af 198:=⟨by kernel_rfl⟩
instance:cZ af 199:=⟨by kernel_rfl⟩
instance:cZ af 200:=⟨by kernel_rfl⟩
instance:cZ af 201:=⟨by kernel_rfl⟩
instance:cZ af 202:=⟨by kernel_rfl⟩
instance:cZ af 203:=⟨by kernel_rfl⟩
instance:cZ af 204:=⟨by kernel_rfl⟩
instance:cZ af 205:=⟨by kernel_rfl⟩
instance:cZ af 206:=⟨by kernel_rfl⟩
instance:cZ af 207:=⟨by kernel_rfl⟩
instance:cZ af 208:=⟨by kernel_rfl⟩
instance:cZ af 209:=⟨by kernel_rfl⟩
instance:cZ af 210:=⟨by kernel_rfl⟩
instance:cZ af 211:=⟨by kernel_rfl⟩
instance:cZ af 212:=⟨by kernel_rfl⟩
instance:cZ af 213:=⟨by kernel_rfl⟩
instance:cZ af 214:=⟨by kernel_rfl⟩
instance:cZ af 215:=⟨by kernel_rfl⟩
theorem mixed:Tryz.prog.follows .mixedOrders=true:=by kernel_rfl
end
section
open Go.Fw Go.RowKit
def snap(W:World):Mem:=λb o=>(W.cell? ⟨b,o,none⟩).filter Value.oneCell'
theorem aae(W:World):(snap W).ep W:=λ_ _ _ e=>by
 obtain⟨e1,e2⟩:=Option.filter_eq_some_iff.1 e
 exact .of e1 e2
theorem aaf{W:World}{b o:Nat}{v:Value}(h:W.cell? ⟨b,o,none⟩=some v)(h1:v.oneCell'=true):snap W b o=some v:=Option.filter_eq_some_iff.2 ⟨h,h1⟩
class Mm (P:Program) (T:TypeId) {α:Type} (e:α→List SV) (ok:outParam (α→Prop)) (sz:outParam (α→Nat)):Prop where
 h:∀{H:Type} (enc:TypeId×Value→H) (W:World) (fuel:Nat) (cs:List Value) (d:DataW H) (p:List MemPlace),DataW.trod enc P W 0 (λ_=>true) true fuel T cs=some (d,p)→
  ∃x:α,ok x∧SV.gw (snap W) (e x) cs∧(∀v∈cs,v.oneCell'=true)∧sz x≤Rows.uptoBulk d
section opn
variable {P:Program}{T:TypeId}
theorem Wc{k:IntKind}{n:Int}(h:(Lit.int k n).wf=true):k.min≤n∧n≤k.max:=by simpa[Lit.wf]using h
instance[t:tw P T .i64]:Mm P T bD (λx=>-9223372036854775808≤x∧x≤9223372036854775807) (λ_=>1):=⟨λenc W fuel cs d p h=>by
 obtain⟨n,rfl,hx,hw⟩:=DataW.trod_int t.h h
 cases hx
 have:=Wc hw
 exact⟨n,by simpa[IntKind.min,IntKind.max,IntKind.signed,IntKind.bits]using this,⟨rfl,ak⟩,by simp[Value.oneCell'],by simp[Rows.uptoBulk]⟩⟩
theorem aiF{k:IntKind}{M:Nat}{e:Nat→List SV}(t:tw P T k)(hk:k.min=0∧k.max=(M:Int)-1)(he:∀n:Nat,e n=[.v (.int k (n:Int))]):Mm P T e (λx=>x<M) (λ_=>1):=⟨λenc W fuel cs d p h=>by
 obtain⟨n,rfl,hx,hw⟩:=DataW.trod_int t.h h
 cases hx
 have:=Wc hw
 rw[hk.1,hk.2]at this
 obtain⟨m,rfl⟩:=Int.eq_ofNat_of_zero_le this.1
 exact⟨m,by omega,by rw[he];exact⟨Y,ak⟩,by simp[Value.oneCell'],by simp[Rows.uptoBulk]⟩⟩
instance[t:tw P T .u32]:Mm P T bh (λx=>x<4294967296) (λ_=>1):=aiF t (by decide) (λ_=>rfl)
instance[t:L7 P T]:Mm P T eB (λ_=>True) (λ_=>1):=⟨λenc W fuel cs d p h=>by
 obtain⟨b,rfl,hx⟩:=DataW.trod_bool t.h h
 cases hx
 exact⟨b,ak,⟨rfl,ak⟩,by simp[Value.oneCell'],by simp[Rows.uptoBulk]⟩⟩
theorem OA{H α:Type}(sz:α→Nat):∀(xs:List α) (ds:List (DataW H)),xs.length=ds.length→(∀(i:Nat) (x:α) (d:DataW H),xs[i]? =some x→ds[i]? =some d→sz x≤Rows.uptoBulk d)→(xs.map sz).sum≤Rows.uptoBulkAll ds
 |[],[],_,_=>by simp
 |x::xs,d::ds,hl,h=>by
  have h1:=h 0 x d Y Y
  have h2:=OA sz xs ds (by simpa using hl) (λi x d e1 e2=>h (i+1) x d (by simpa using e1) (by simpa using e2))
  simp only[List.map_cons,List.sum_cons,Rows.uptoBulkAll];omega
 |[],_::_,hl,_=>by simp at hl
 |_::_,[],hl,_=>by simp at hl
instance{E:TypeId}{n:Nat}{α:Type}{e:α→List SV}{ok:α→Prop}{sz:α→Nat}{by_:Nat}{zv:Value}[t:gU P T E n][tE:nS P E n by_ zv][el:EL e n][o:Mm P E e ok sz]:Mm P T (eS n e) (λl=>l.length≤9223372036854775807∧∀x∈l,ok x) (λl=>(l.map sz).sum+1):=⟨λ{H} enc W fuel cs d p h=>by
 have hcell:P.cellsOf E=n:=by
  have h1:=t.size W
  simp only[sizeOf,typeInfo]at h1
  cases hi:P.info? E with
  |none=>simp[hi]at h1
  |some i=>simp[hi]at h1;simp[Program.cellsOf,hi,h1]
 have hml:maxLen=9223372036854775807:=by decide
 rcases Deep.open_slice t.u h with⟨rfl,hx⟩|⟨a,len,cap,m,n',D,Pl,rfl,_,hl,hm,hmm,hx,hel⟩
 ·cases hx
  exact⟨[],⟨by simp,by simp⟩,⟨.inl ⟨none,rfl,rfl⟩,ak⟩,by simp[Value.oneCell'],by simp[Rows.uptoBulk]⟩
 ·cases hx
  rw[if_pos rfl]at hmm
  subst hmm
  have one:∀i,i<m→∃x,ok x∧sz x≤Rows.uptoBulk (D i)∧∃cs',W.cells? 0 (a.add (i*n)) n=some cs'∧SV.gw (snap W) (e x) cs'∧(∀v∈cs',v.oneCell'=true):=by
   intro i hi
   obtain⟨cs',h1,h2⟩:=hel i hi
   obtain⟨x,q1,q2,q3,q4⟩:=o.h enc W n' cs' (D i) (Pl i) h2
   rw[hcell]at h1
   exact⟨x,q1,q4,cs',h1,q2,q3⟩
  obtain⟨xs,hxl,hxs⟩:∃xs:List α,xs.length=len∧∀(i:Nat) (x:α),xs[i]? =some x→ok x∧sz x≤Rows.uptoBulk (D i)∧∃cs',W.cells? 0 (a.add (i*n)) n=some cs'∧SV.gw (snap W) (e x) cs'∧(∀v∈cs',v.oneCell'=true):=by
   clear h hm hel
   have:∀k,k≤len→∃xs:List α,xs.length=k∧∀(i:Nat) (x:α),xs[i]? =some x→ok x∧sz x≤Rows.uptoBulk (D i)∧∃cs',W.cells? 0 (a.add (i*n)) n=some cs'∧SV.gw (snap W) (e x) cs'∧(∀v∈cs',v.oneCell'=true):=by
    intro k
    induction k with
    |zero=>intro _;exact⟨[],rfl,by simp⟩
    |succ k ih=>
     intro hk
     obtain⟨xs,h1,h2⟩:=ih (by omega)
     obtain⟨x,hx⟩:=one k (by omega)
     refine⟨xs++[x],by simp[h1],λi y hy=>?_⟩
     rcases Nat.lt_or_ge i k with hi|hi
     ·exact h2 i y (by rwa[List.getElem?_append_left (by omega)]at hy)
     ·rw[List.getElem?_append_right (by omega)]at hy
      have hi2:i=k:=by
       rcases Nat.lt_or_ge (i-xs.length) 1 with q|q
       ·omega
       ·rw[List.getElem?_eq_none (by simpa using q)]at hy;cases hy
      subst hi2
      rw[h1,Nat.sub_self]at hy
      simp at hy;subst hy;exact hx
   exact this len (Nat.le_refl _)
  refine⟨xs,⟨by omega,λx hx=>?_⟩,⟨?_,ak⟩,by simp[Value.oneCell'],?_⟩
  ·obtain⟨i,hi,rfl⟩:=List.getElem_of_mem hx
   exact(hxs i _ (List.getElem?_eq_getElem hi)).1
  ·by_cases h0:xs=[]
   ·subst h0
    simp at hxl
    subst hxl
    by_cases hc0:m=0
    ·subst hc0;exact .inl ⟨_,rfl,rfl⟩
    ·
     obtain⟨x,_,_,cs',g1,g2,_⟩:=one 0 (by omega)
     obtain⟨_,g3,g4⟩:=World.cells?_some g1
     have hn:0<n:=tE.p
     have g5:=g4 0 hn
     obtain⟨b,o',spot⟩:=a
     have Wd:spot=none:=by
      have:∃v,W.cell? (((⟨b,o',spot⟩:Addr).add (0*n)).add 0)=some v:=by
       rw[g5];exact⟨_,List.getElem?_eq_getElem (by omega)⟩
      obtain⟨v,hv⟩:=this
      simpa[Addr.add]using World.cell?_spot hv
     subst Wd
     refine .inr ⟨b,o',m,rfl,by simp,by simp,λi row hr=>by simp at hr⟩
   ·have Cy:0<len:=by
     rcases Nat.eq_zero_or_pos len with hz|hz
     ·exact absurd (List.eq_nil_of_length_eq_zero (by omega)) h0
     ·exact hz
    have hn:0<n:=tE.p
    obtain⟨x,_,_,cs',g1,g2,_⟩:=one 0 (by omega)
    obtain⟨_,g3,g4⟩:=World.cells?_some g1
    have g5:=g4 0 hn
    obtain⟨b,o',spot⟩:=a
    have Wd:spot=none:=by
     have:∃v,W.cell? (((⟨b,o',spot⟩:Addr).add (0*n)).add 0)=some v:=by
      rw[g5];exact⟨_,List.getElem?_eq_getElem (by omega)⟩
     obtain⟨v,hv⟩:=this
     simpa[Addr.add]using World.cell?_spot hv
    subst Wd
    refine .inr ⟨b,o',m,by rw[List.length_map,hxl],by rw[List.length_map];omega,by rw[List.length_map];omega,λi row hr=>?_⟩
    rw[List.getElem?_map]at hr
    cases hx:xs[i]? with
    |none=>rw[hx]at hr;cases hr
    |some y=>
     rw[hx]at hr
     have hr:e y=row:=Option.some.inj hr
     subst hr
     obtain⟨_,_,cs2,k1,k2,k3⟩:=hxs i y hx
     obtain⟨_,k4,k5⟩:=World.cells?_some k1
     refine⟨el.len y,λk s hk=>?_⟩
     obtain⟨u,hu,hs⟩:=k2.get hk
     have hkn:k<n:=by have:=(List.getElem?_eq_some_iff.1 hu).1;omega
     have k6:=k5 k hkn
     rw[jN,jN,hu]at k6
     exact⟨u,aaf k6 (k3 u (List.mem_of_getElem? hu)),k3 u (List.mem_of_getElem? hu),hs⟩
  ·have hb:Rows.uptoBulk (DataW.slice ((List.range len).map D) ((List.range (m-len)).map λj=>D (len+j)))=Rows.uptoBulkAll ((List.range len).map D)+Rows.uptoBulkAll ((List.range (m-len)).map λj=>D (len+j))+1:=rfl
   rw[hb]
   have:=OA sz xs ((List.range len).map D) (by simp[hxl]) (λi x d e1 e2=>by
    have hi:i<len:=by have:=(List.getElem?_eq_some_iff.1 e1).1;omega
    simp[hi]at e2;subst e2
    exact(hxs i x e1).2.1)
   omega⟩
class StN (P:Program) (T:TypeId) (k:outParam Nat):Prop where
 h:(match P.underlying T with|some (.struct fs)=>some fs.size|_=>none)=some k
theorem Mn{k:Nat}[s:StN P T k]{H:Type}{enc:TypeId×Value→H}{W:World}{fuel:Nat}{cs:List Value}{d:DataW H}{p:List MemPlace}(h:DataW.trod enc P W 0 (λ_=>true) true fuel T cs=some (d,p)):
  ∃(xs:List (DataW H×List MemPlace)) (n:Nat),d=.agg (xs.map (·.1))∧cs.length=P.cellsOf T∧xs.length=k∧∀(i off:Nat) (U:TypeId),EV P T i off U→DataW.trod enc P W 0 (λ_=>true) true n U ((cs.drop off).take (P.cellsOf U))=xs[i]? :=by
 have hs:=s.h
 cases hT:P.underlying T with
 |none=>rw[hT]at hs;cases hs
 |some u=>
  rw[hT]at hs
  cases u with
  |struct fs=>
   have hk:fs.size=k:=Option.some.inj hs
   obtain⟨xs,n,_,hx,hl,hn,hf⟩:=DataW.trod_struct hT h
   refine⟨xs,n,(Prod.mk.inj hx).1,hl,by omega,λi off U F=>?_⟩
   have hF:=F.h
   rw[hT]at hF
   simp only at hF
   cases hg:fs[i]? with
   |none=>rw[hg]at hF;cases hF
   |some f=>
    rw[hg]at hF
    simp only[Option.map_some,Option.some.injEq,Prod.mk.injEq]at hF
    have:=hf i f hg
    rw[hF.1,hF.2]at this
    exact this
  |_=>cases hs
class aiI (P:Program) (T:TypeId):Prop where
 h:∀(w:World) (r:Reach) (base:Nat) (v:Value),Value.okWide P w r base T v→v.cells.toList=[v]
instance{E:TypeId}{n:Nat}[t:gU P T E n]:aiI P T:=⟨λw r base v h=>by
 obtain⟨a,l,c,rfl⟩:=WideShapes.okWide_slice t.u h
 rfl⟩
theorem aag{α:Type}{e:α→List SV}{ok:α→Prop}{sz:α→Nat}[o1:aiI P T][o:Mm P T e ok sz]{H:Type}{enc:TypeId×Value→H}{W:World}{r:Reach}{base:Nat}{v:Value}{d:DataW H}{p:List MemPlace}
  (hv:Value.okWide P W r base T v) (h:DataW.Trod enc P W 0 (λ_=>true) true T v d p):∃x,ok x∧sz x≤Rows.uptoBulk d∧SV.gw (snap W) (e x) [v]:=by
 obtain⟨fuel,h⟩:=h
 rw[o1.h W r base v hv]at h
 obtain⟨x,h1,h2,_,h4⟩:=o.h enc W fuel _ d p h
 exact⟨x,h1,h4,h2⟩
theorem aah{α:Type}{e:α→List SV}{ok:α→Prop}{sz:α→Nat}{k:Nat}[s:StN P T k][o:Mm P T e ok sz]{H:Type}{enc:TypeId×Value→H}{W:World}{r:Reach}{base:Nat}{v:Value}{d:DataW H}{p:List MemPlace}
  (hv:Value.okWide P W r base T v) (h:DataW.Trod enc P W 0 (λ_=>true) true T v d p):∃x,ok x∧sz x≤Rows.uptoBulk d∧(SV.agg (e x)).h (snap W) v:=by
 have hs:=s.h
 cases hT:P.underlying T with
 |none=>rw[hT]at hs;cases hs
 |some u=>
  rw[hT]at hs
  cases u with
  |struct fs=>
   obtain⟨cs,rfl,_⟩:=WideShapes.okWide_struct hT hv
   obtain⟨fuel,h⟩:=h
   obtain⟨x,h1,h2,_,h4⟩:=o.h enc W fuel _ d p h
   exact⟨x,h1,h4,cs.toList,Y,h2⟩
  |_=>cases hs
end opn
theorem aai{f:FuncId}{vs:List Value}{svs:List SV}{W:World}(hp:Pure af f svs (.v (.bool true)))(h:SV.gw (snap W) svs vs):
  Calls af f ⟨vs⟩ W λe w'=>e=.returned (.bool true)∧Below W.heap.size W w':=
 (hp (snap W) W vs (aae W) h).mono λ_ _ ⟨v,_,h1,_,_,_,h2,h3⟩=>by
  have h2:v=.bool true:=h2
  exact⟨by rw[h1,h2],h3⟩
end
section
open Go.Fw Go.RowKit Go.ChangeShapes Go.WideShapes Go.ChangeAt
theorem amB:ownKnob Tryz.prog.godebug=none:=by kernel_rfl
theorem OB:laidOutB af=true:=by kernel_rfl
instance:StN af 41 2:=⟨by kernel_rfl⟩
set_option maxRecDepth 100000 in
instance:Mm af 41 eZ (λ(z:Zr)=>(True∧(z.w.length≤9223372036854775807∧∀x1∈z.w,x1<4294967296))) (λ(z:Zr)=>(1+((z.w.map λx1=>1).sum+1)+1)):=⟨λenc W fuel cs d p h=>by
 obtain⟨xs,n,rfl,hl,hn,hf⟩:=Mn h
 have hl:cs.length=2:=hl.trans (by kernel_rfl)
 match xs,hn with
 |[⟨d0,p0⟩,⟨d1,p1⟩],_=>
 match cs,hl with
 |[c0,c1],_=>
 have t0:DataW.trod enc af W 0 (λ_=>true) true n 4 [c0]=some (d0,p0):=(by have q:=hf 0 _ _ inferInstance;rw[show Tryz.prog.cellsOf 4=1 by kernel_rfl]at q;exact q)
 obtain⟨x0,a0,b0,e0,s0⟩:=Mm.h (P:=af) (T:=4) (e:=eB) enc W n _ d0 p0 t0
 have t1:DataW.trod enc af W 0 (λ_=>true) true n 39 [c1]=some (d1,p1):=(by have q:=hf 1 _ _ inferInstance;rw[show Tryz.prog.cellsOf 39=1 by kernel_rfl]at q;exact q)
 obtain⟨x1,a1,b1,e1,s1⟩:=Mm.h (P:=af) (T:=39) (e:=(eS 1 bh)) enc W n _ d1 p1 t1
 refine⟨⟨x0,x1⟩,⟨a0,a1⟩,⟨b0.1,b1.1,ak⟩,?_,?_⟩
 ·intro v hv;simp only[List.mem_cons,List.not_mem_nil,or_false]at hv;rcases hv with rfl|rfl
  ·exact e0 _ (by simp)
  ·exact e1 _ (by simp)
 ·simp only[List.map_cons,List.map_nil,Rows.uptoBulk,Rows.uptoBulkAll];omega⟩
instance:StN af 43 2:=⟨by kernel_rfl⟩
set_option maxRecDepth 100000 in
instance:Mm af 43 eQ (λ(z:Qr)=>((True∧(z.num.w.length≤9223372036854775807∧∀x1∈z.num.w,x1<4294967296))∧(True∧(z.den.w.length≤9223372036854775807∧∀x1∈z.den.w,x1<4294967296)))) (λ(z:Qr)=>((1+((z.num.w.map λx1=>1).sum+1)+1)+(1+((z.den.w.map λx1=>1).sum+1)+1)+1)):=⟨λenc W fuel cs d p h=>by
 obtain⟨xs,n,rfl,hl,hn,hf⟩:=Mn h
 have hl:cs.length=4:=hl.trans (by kernel_rfl)
 match xs,hn with
 |[⟨d0,p0⟩,⟨d1,p1⟩],_=>
 match cs,hl with
 |[c0,c1,c2,c3],_=>
 have t0:DataW.trod enc af W 0 (λ_=>true) true n 41 [c0,c1]=some (d0,p0):=(by have q:=hf 0 _ _ inferInstance;rw[show Tryz.prog.cellsOf 41=2 by kernel_rfl]at q;exact q)
 obtain⟨x0,a0,b0,e0,s0⟩:=Mm.h (P:=af) (T:=41) (e:=eZ) enc W n _ d0 p0 t0
 have t1:DataW.trod enc af W 0 (λ_=>true) true n 41 [c2,c3]=some (d1,p1):=(by have q:=hf 1 _ _ inferInstance;rw[show Tryz.prog.cellsOf 41=2 by kernel_rfl]at q;exact q)
 obtain⟨x1,a1,b1,e1,s1⟩:=Mm.h (P:=af) (T:=41) (e:=eZ) enc W n _ d1 p1 t1
 refine⟨⟨x0,x1⟩,⟨a0,a1⟩,⟨b0.1,b0.2.1,b1.1,b1.2.1,ak⟩,?_,?_⟩
 ·intro v hv;simp only[List.mem_cons,List.not_mem_nil,or_false]at hv;rcases hv with rfl|rfl|rfl|rfl
  ·exact e0 _ (by simp)
  ·exact e0 _ (by simp)
  ·exact e1 _ (by simp)
  ·exact e1 _ (by simp)
 ·simp only[List.map_cons,List.map_nil,Rows.uptoBulk,Rows.uptoBulkAll];omega⟩
instance:StN af 25 4:=⟨by kernel_rfl⟩
set_option maxRecDepth 100000 in
instance:Mm af 25 K0 (λ(z:Lr)=>((-9223372036854775808≤z.vars∧z.vars≤9223372036854775807)∧(z.Ib.length≤9223372036854775807∧∀x1∈z.Ib,(x1.length≤9223372036854775807∧∀x2∈x1,((True∧(x2.num.w.length≤9223372036854775807∧∀x3∈x2.num.w,x3<4294967296))∧(True∧(x2.den.w.length≤9223372036854775807∧∀x3∈x2.den.w,x3<4294967296)))))∧(z.rows.length≤9223372036854775807∧∀x1∈z.rows,(x1.length≤9223372036854775807∧∀x2∈x1,((True∧(x2.num.w.length≤9223372036854775807∧∀x3∈x2.num.w,x3<4294967296))∧(True∧(x2.den.w.length≤9223372036854775807∧∀x3∈x2.den.w,x3<4294967296)))))∧(z.bounds.length≤9223372036854775807∧∀x1∈z.bounds,((True∧(x1.num.w.length≤9223372036854775807∧∀x2∈x1.num.w,x2<4294967296))∧(True∧(x1.den.w.length≤9223372036854775807∧∀x2∈x1.den.w,x2<4294967296)))))) (λ(z:Lr)=>(1+((z.Ib.map λx1=>((x1.map λx2=>((1+((x2.num.w.map λx3=>1).sum+1)+1)+(1+((x2.den.w.map λx3=>1).sum+1)+1)+1)).sum+1)).sum+1)+((z.rows.map λx1=>((x1.map λx2=>((1+((x2.num.w.map λx3=>1).sum+1)+1)+(1+((x2.den.w.map λx3=>1).sum+1)+1)+1)).sum+1)).sum+1)+((z.bounds.map λx1=>((1+((x1.num.w.map λx2=>1).sum+1)+1)+(1+((x1.den.w.map λx2=>1).sum+1)+1)+1)).sum+1)+1)):=⟨λenc W fuel cs d p h=>by
 obtain⟨xs,n,rfl,hl,hn,hf⟩:=Mn h
 have hl:cs.length=4:=hl.trans (by kernel_rfl)
 match xs,hn with
 |[⟨d0,p0⟩,⟨d1,p1⟩,⟨d2,p2⟩,⟨d3,p3⟩],_=>
 match cs,hl with
 |[c0,c1,c2,c3],_=>
 have t0:DataW.trod enc af W 0 (λ_=>true) true n 3 [c0]=some (d0,p0):=(by have q:=hf 0 _ _ inferInstance;rw[show Tryz.prog.cellsOf 3=1 by kernel_rfl]at q;exact q)
 obtain⟨x0,a0,b0,e0,s0⟩:=Mm.h (P:=af) (T:=3) (e:=bD) enc W n _ d0 p0 t0
 have t1:DataW.trod enc af W 0 (λ_=>true) true n 22 [c1]=some (d1,p1):=(by have q:=hf 1 _ _ inferInstance;rw[show Tryz.prog.cellsOf 22=1 by kernel_rfl]at q;exact q)
 obtain⟨x1,a1,b1,e1,s1⟩:=Mm.h (P:=af) (T:=22) (e:=(eS 1 (eS 4 eQ))) enc W n _ d1 p1 t1
 have t2:DataW.trod enc af W 0 (λ_=>true) true n 22 [c2]=some (d2,p2):=(by have q:=hf 2 _ _ inferInstance;rw[show Tryz.prog.cellsOf 22=1 by kernel_rfl]at q;exact q)
 obtain⟨x2,a2,b2,e2,s2⟩:=Mm.h (P:=af) (T:=22) (e:=(eS 1 (eS 4 eQ))) enc W n _ d2 p2 t2
 have t3:DataW.trod enc af W 0 (λ_=>true) true n 23 [c3]=some (d3,p3):=(by have q:=hf 3 _ _ inferInstance;rw[show Tryz.prog.cellsOf 23=1 by kernel_rfl]at q;exact q)
 obtain⟨x3,a3,b3,e3,s3⟩:=Mm.h (P:=af) (T:=23) (e:=(eS 4 eQ)) enc W n _ d3 p3 t3
 refine⟨⟨x0,x1,x2,x3⟩,⟨a0,a1,a2,a3⟩,⟨b0.1,b1.1,b2.1,b3.1,ak⟩,?_,?_⟩
 ·intro v hv;simp only[List.mem_cons,List.not_mem_nil,or_false]at hv;rcases hv with rfl|rfl|rfl|rfl
  ·exact e0 _ (by simp)
  ·exact e1 _ (by simp)
  ·exact e2 _ (by simp)
  ·exact e3 _ (by simp)
 ·simp only[List.map_cons,List.map_nil,Rows.uptoBulk,Rows.uptoBulkAll];omega⟩
end
end Go.Proofs.YtningmnklfpfjaaGreat
namespace Go.Fw
section
open Go.RowKit
theorem BS{S:AS}(i o k:Nat)(E0:TypeId)(sz:Nat){T:TypeId}{cells:List AV}(hb:S.b i=some ⟨T,cells⟩)(hc:cells[o]? =some (.sv (.v (.slice none 0 0))))(hk:S.r k=.un)(hk1:k<1000):
  AI S ((AS.cO [(k,.live ⟨E0,sz,0,[]⟩)] S).oE i ⟨T,cells.set o (.row k)⟩):=by
 rintro C a w ⟨E,h⟩
 have h1:=h.newRow hk hk1 [] none (.inl ⟨Y,Y⟩) (R':=⟨E0,sz,0,[]⟩) (World.ownsRow_nil w 0 E0 sz) (vs':=[]) trivial (.inl Y) (zB w none)
 have E8:(AS.cO [(k,.live ⟨E0,sz,0,[]⟩)] S).b i=some ⟨T,cells⟩:=hb
 have hrk:(AS.cO [(k,.live ⟨E0,sz,0,[]⟩)] S).r k≠ .un:=by
  show(AS.ya S k _).r k≠_
  rw[AS.lJ];simp
 refine⟨_,{h1 with wf:=?_,bx:=λj B hB=>?_,inj:=λj j' B B' hB iT e=>?_,rx:=λj R hR=>?_}⟩
 ·refine⟨λt j hj=>?_,h1.wf.tr,λj B hB x hx m hm=>?_,λj B hB x hx m hm=>?_⟩
  ·obtain⟨B,hB⟩:=h1.wf.tb t j hj
   by_cases e:j=i
   ·subst e;exact⟨_,AS.dO _ _ _⟩
   ·exact⟨B,by rw[AS.cJ _ _ _ _ e];exact hB⟩
  ·have key:∃B',(AS.cO [(k,.live ⟨E0,sz,0,[]⟩)] S).b m=some B':=by
    by_cases e:j=i
    ·subst e;rw[AS.dO]at hB;cases hB
     rcases List.mem_or_eq_of_mem_set hx with hx|rfl
     ·exact h1.wf.bb j _ E8 x hx m hm
     ·exact hm.elim
    ·rw[AS.cJ _ _ _ _ e]at hB;exact h1.wf.bb j B hB x hx m hm
   obtain⟨B',iT⟩:=key
   by_cases e:m=i
   ·subst e;exact⟨_,AS.dO _ _ _⟩
   ·exact⟨B',by rw[AS.cJ _ _ _ _ e];exact iT⟩
  ·by_cases e:j=i
   ·subst e;rw[AS.dO]at hB;cases hB
    rcases List.mem_or_eq_of_mem_set hx with hx|rfl
    ·exact h1.wf.br j _ E8 x hx m hm
    ·cases hm;exact hrk
   ·rw[AS.cJ _ _ _ _ e]at hB;exact h1.wf.br j B hB x hx m hm
 ·by_cases e:j=i
  ·subst e;rw[AS.dO]at hB;cases hB
   obtain⟨q1,q2,q3,vs,q4,q5⟩:=h1.bx j _ E8
   refine⟨q1,q2,q3,vs,q4,?_⟩
   obtain⟨x,hx,hv⟩:=q5.get hc
   have hv:x=.slice none 0 0:=hv
   have:=eI.set (i:=o) (s:=.row k) (x:=x) q5 (by
    show x=if k=k then _ else _
    rw[if_pos rfl];exact hv)
   have he:vs.set o x=vs:=by
    apply List.ext_getElem?
    intro n
    rw[List.getElem?_set]
    split
    ·rename_i hn;subst hn;rw[hx];split<;>rename_i hl
     ·rfl
     ·have:=(List.getElem?_eq_some_iff.1 hx).1;exact absurd this hl
    ·rfl
   rwa[he]at this
  ·rw[AS.cJ _ _ _ _ e]at hB;exact h1.bx j B hB
 ·have old:∀n B,((AS.cO [(k,.live ⟨E0,sz,0,[]⟩)] S).oE i ⟨T,cells.set o (.row k)⟩).b n=some B→∃B',(AS.cO [(k,.live ⟨E0,sz,0,[]⟩)] S).b n=some B':=λn B hn=>by
   by_cases e:n=i
   ·subst e;exact⟨_,E8⟩
   ·rw[AS.cJ _ _ _ _ e]at hn;exact⟨B,hn⟩
  obtain⟨B1,p1⟩:=old j B hB
  obtain⟨B2,p2⟩:=old j' B' iT
  exact h1.inj j j' B1 B2 p1 p2 e
 ·obtain⟨p1,p2⟩:=h1.rx j R hR
  refine⟨p1,λg hg=>?_⟩
  obtain⟨p3,p4,p5,p6⟩:=p2 g hg
  refine⟨p3,p4,p5,λn B hn=>?_⟩
  by_cases e:n=i
  ·subst e;exact p6 n _ E8
  ·rw[AS.cJ _ _ _ _ e]at hn;exact p6 n B hn
end
section
open Go.RowKit
section part
variable {P:Program}{C:Ctx}{ops:Array Oper}{acts:List Ac}{S:AS}
theorem DB(listed:Array Bool)(i:Nat)(hs:listed.size=ops.size)(hi:i<ops.size):listed.getD i true=listed.getD i false:=by
 rw[Array.getD_eq_getD_getElem?,Array.getD_eq_getD_getElem?]
 rw[Array.getElem?_eq_getElem (by omega)];rfl
end part
end
section
open Go.RowKit
instance{g:FuncId}{caps:List SV}:One (o5 g caps):=⟨λ_ _ h=>by obtain⟨vs,rfl,_⟩:=h;rfl⟩
section steps
variable {P:Program}{C:Ctx}{ops:Array Oper}{S:AS}{nd:Bool}{K:List Ac→AS→Prop}{rest:List Oper}{acc:List Ac}
variable {gd:Option (Nat×Bool)}{rg:List Nat}{d:Nat}{ty:TypeId}{pos:String}{aft:Array Edge}{x y z:Operand}{T U E0:TypeId}
theorem RT.Fg(hg:Gd ops S gd rg){g:FuncId}{xs:Array Operand}{caps:List SV}(hc:kf S xs.toList caps)(hd:d<S.n)
  (next:RunT P C ops nd K rest (⟨rg++xs.toList.flatMap bp,[],[],⟨some (d,.sv (o5 g caps)),[],[]⟩⟩::acc) (S.set d (.sv (o5 g caps)))):RunT P C ops nd K (⟨some d,.makeFunc (.func g) #[] xs,ty,pos,aft,gd⟩::rest) acc S:=
 RT.value hg (xs.toList.flatMap bp) [] [] (.sv (o5 g caps)) hd (by intro c h;cases h) (λS' ht _ _ E a w h=>by
  have h1:=kf.vals h hc ht
  refine⟨.func (.func g) #[] ⟨xs.toList.map a.eval⟩,?_,⟨_,Y,h1⟩,iz⟩
  have e2:xs.map a.eval=⟨xs.toList.map a.eval⟩:=by apply Array.ext';simp
  simp[execOp,Instr.makeFunc,e2]) next
theorem RT.aiJ(hg:Gd ops S gd rg){f:FuncId}[cZ P f]{g:Operand}{xs:Array Operand}{at_:Array TypeId}{args caps:List SV}{r:SV}(hp:Pure P f (args++caps) r)(hf:S.ev g=.sv (o5 f caps))(hargs:kf S xs.toList args)(hd:d<S.n)
  (next:RunT P C ops nd K rest (⟨rg++(bp g++xs.toList.flatMap bp),[],[],⟨some (d,.sv r),[],[]⟩⟩::acc) (S.set d (.sv r))):RunT P C ops nd K (⟨some d,.call ⟨.value g,xs,at_⟩,ty,pos,aft,gd⟩::rest) acc S:=by
 refine .inl ⟨_,[],[],_,?_,next⟩
 rintro S' hn ht _ _ i a w L Q ho ⟨E,h⟩ hL
 refine dy (C:=C) ho (hg.wanted h (λs hs=>ht s (List.mem_append_left _ hs)) Y) ?_
 have AM:(o5 f caps).h E.M (a.eval g):=by
  have h1:=h.ev g;rw[bQ (λ_ h=>List.mem_append_right _ (List.mem_append_left _ h)) ht,hf]at h1;exact h1
 obtain⟨xB,AM,J0⟩:=AM
 have hall:=SV.gw.append (kf.vals h hargs (λs hs=>ht s (List.mem_append_right _ (List.mem_append_right _ hs)))) J0
 have hr:(execOp a.eval ⟨some d,.call ⟨.value g,xs,at_⟩,ty,pos,aft,gd⟩).run P w=.ok (.enter f ⟨xs.toList.map a.eval++xB⟩) w:=by
  have e2:xs.map a.eval++⟨xB⟩=⟨xs.toList.map a.eval++xB⟩:=by apply Array.ext';simp
  have e1:=cZ.run (P:=P) (f:=f) (xs.map a.eval++⟨xB⟩) w
  rw[←e2]
  simp[execOp,resolve,AM,Deferred.ofValue,invoke,e1]
 refine dm (C:=C) (by intro c h;cases h) hr ?_
 refine⟨λh=>by simp at h,kp ((hp E.M w _ h.ep hall).mono ?_)⟩
 rintro e w' ⟨v,M',rfl,hM,hnew,hin,hv,hb⟩
 exact hL _ _ ⟨_,(h.grow hM hnew hin hb).put (x:=.sv r) hv (by show d<S'.n;omega) iz⟩
end steps
end
end Go.Fw
namespace Go.Fw.Z
section
open Go.Fw
theorem T{d n:Nat}(h:Nat.ble (d+1) n=true:=by exact rfl):d<n:=tl h
theorem bE{α β:Type}{x:Option α}{f:α→Option β}{r:β}{G:Prop}(h:Option.bind x f=some r)(k:∀a,x=some a→f a=some r→G):G:=by obtain⟨a,h1,h2⟩:=bind_some h;exact k a h1 h2
theorem lE{α β:Type}{v:α}{f:α→Option β}{r:β}{G:Prop}(h:Option.bind (some v) f=some r)(k:∀a,v=a→f a=some r→G):G:=k v Y h
theorem bS{α β:Type}{x:Option α}{f:α→Option β}{r:β}(h:Option.bind x f=some r):∃a,x=some a∧f a=some r:=bind_some h
theorem F{α:Type}{x y:Option α}{r:α}(h:(bif false then x else y)=some r):y=some r:=h
theorem V{α:Type}{x y:Option α}{r:α}(h:(bif true then x else y)=some r):x=some r:=h
theorem O{α:Type}{a b:α}(h:some a=some b):a=b:=Option.some.inj h
def F5(l:List (Nat×Nat))(i:Nat):Nat:=((l.find? λp=>Nat.beq p.1 i).map (·.2)).getD i
def rnA(l:List (Nat×Nat)):AV→AV
 |.row i=>.row (F5 l i)
 |.uW i o n=>.uW (F5 l i) o n
 |x=>x
def noR:AV→Bool
 |.nB _ _=>false
 |.cmp _ _=>false
 |_=>true
theorem avi(l:List (Nat×Nat)){x:AV}(h:noR x=true):Ua (F5 l) (rnA l x) x:=by
 cases x with
 |sv s=>exact .sv aq
 |ptr i o=>exact .ptr
 |N0 i o n c=>exact .N0
 |row i=>exact .row Y
 |nB i k=>cases h
 |uW i o n=>exact .uW Y
 |kU g js=>exact .kU
 |cmp t js=>cases h
theorem aiK(l:List (Nat×Nat)):∀{xs:List AV},(xs.all noR)=true→QK (F5 l) (xs.map (rnA l)) xs
 |[],_=>trivial
 |x::xs,h=>by simp only[List.all_cons,Bool.and_eq_true]at h;exact⟨avi l h.1,aiK l h.2⟩
theorem wR(l:List (Nat×Nat)){S:AS}{n:Nat}{ts:List (Nat×AV)}{bs:List (Nat×wc)}{rs:List (Nat×Row)}{g:Nat}{go:Bool}
  (ht:ts.map (λp=>S.t p.1)=ts.map (λp=>rnA l p.2):=by exact rfl) (hb:bs.map (λp=>S.b p.1)=bs.map (λp=>some ⟨p.2.T,p.2.cells.map (rnA l)⟩):=by exact rfl) (hr:rs.map (λp=>S.r (F5 l p.1))=rs.map (λp=>.live p.2):=by exact rfl)
  (hn:S.n=n:=by exact rfl) (hg:S.g=g:=by exact rfl) (QD:S.go=go:=by exact rfl)
  (hwf:((ts.all λp=>p.2.yc bs rs)&&(bs.all λp=>p.2.cells.all λx=>x.yc bs rs))=true:=by exact rfl) (hσ:((rs.all λp=>rs.all λq=>!(Nat.beq (F5 l p.1) (F5 l q.1))||Nat.beq p.1 q.1))=true:=by exact rfl)
  (hno:((ts.all λp=>noR p.2)&&(bs.all λp=>p.2.cells.all noR))=true:=by exact rfl) (hl:(l.all λp=>Nat.ble (p.1+1) 1000)=true:=by exact rfl):AI S (AS.cj n ts bs rs g go):=by
 simp only[Bool.and_eq_true,List.all_eq_true]at hno
 refine cD (F5 l) hn hg QD hwf hσ ?_ ?_ ?_ ?_
 ·clear hwf hb hr
  obtain⟨h,-⟩:=hno
  induction ts with
  |nil=>trivial
  |cons p ts ih=>
   obtain⟨k,x⟩:=p
   simp only[List.map_cons,List.cons.injEq]at ht
   refine⟨?_,ih ht.2 (λq hq=>h q (by simp[hq]))⟩
   show Ua _ (S.t k) x
   rw[ht.1];exact avi l (h (k,x) (by simp))
 ·clear hwf ht hr
  obtain⟨-,h⟩:=hno
  induction bs with
  |nil=>trivial
  |cons p bs ih=>
   obtain⟨k,x⟩:=p
   simp only[List.map_cons,List.cons.injEq]at hb
   exact⟨⟨_,hb.1,aiK l (List.all_eq_true.2 (h (k,x) (by simp)))⟩,ih hb.2 (λq hq=>h q (by simp[hq]))⟩
 ·clear hwf ht hb hσ
  induction rs with
  |nil=>trivial
  |cons p rs ih=>
   obtain⟨k,x⟩:=p
   simp only[List.map_cons,List.cons.injEq]at hr
   exact⟨⟨_,hr.1,cg.refl _⟩,ih hr.2⟩
 ·intro i hi
  unfold F5
  have:l.find? (λp=>Nat.beq p.1 i)=none:=by
   rw[List.find?_eq_none]
   intro p hp e
   have h1:=ae (List.all_eq_true.1 hl p hp)
   have h2:=Nat.eq_of_beq_eq_true e
   omega
  rw[this];rfl
section
variable {P:Program}{C:Ctx}{S:AS}{Q:Exit→AS→Prop}
theorem qq{x y:Code}(h:Ok P C x S (aW (λS'=>Ok P C y S' Q) Q)):Ok P C (.seq x y) S Q:=cq h
theorem sr{id:Nat}{ops:Array Oper}{y:Code}(h:RunT P C ops true (λ_ S=>aW (λS'=>Ok P C y S' Q) Q .normal S) ops.toList [] S):Ok P C (.seq (.region id ops false) y) S Q:=cq (aX h)
theorem dn{ops:Array Oper}{acc:List Ac}{next:AS→Prop}(h:next S):RunT P C ops true (λ_ S=>aW next Q .normal S) [] acc S:=h
theorem cF{c:Operand}{x y:Code}(hf:Ok P C y S Q)(hc:S.ev c=.sv (.v (.bool false)):=by exact rfl):Ok P C (.cond c x y) S Q:=je hc hf
theorem cT{c:Operand}{x y:Code}(ht:Ok P C x S Q)(hc:S.ev c=.sv (.v (.bool true)):=by exact rfl):Ok P C (.cond c x y) S Q:=fe hc ht
theorem fs{c:Operand}{x:Code}{next:AS→Prop}(h:next S)(hc:S.ev c=.sv (.v (.bool false)):=by exact rfl):Ok P C (.cond c x .skip) S (aW next Q):=je hc (bw h)
theorem R1{A:Prop}{e:Exit}{t:Nat}{s:SV}(h:S.t t=.sv s):(A∨e=e)∧VI P S [.tmp t] s:=⟨.inr Y,lu (.tmp h .nil) aq⟩
theorem R2{A:Prop}{e:Exit}{t u:Nat}{s s':SV}(h:S.t t=.sv s)(h':S.t u=.sv s'):(A∨e=e)∧VI P S [.tmp t,.tmp u] (.Ce [s,s']):=⟨.inr Y,lu (.tmp h (.tmp h' .nil)) aq⟩
theorem RZ{A:Prop}{e:Exit}{rs:List ResultVar}{ss:List SV}{r:SV}(h:Vq P S rs ss)(h':SV.imp (VQ ss) r:=by exact aq):(A∨e=e)∧VI P S rs r:=⟨.inr Y,lu h h'⟩
end
section
variable {P:Program}{C:Ctx}{ops:Array Oper}{S:AS}{nd:Bool}{K:List Ac→AS→Prop}{rest:List Oper}{acc:List Ac}
variable {gd:Option (Nat×Bool)}{rg:List Nat}{d:Nat}{ty:TypeId}{pos:String}{aft:Array Edge}{x y z:Operand}{T U:TypeId}{k:IntKind}{p q:Int}
theorem pF{s:SV}(hz:S.ev z=.sv s)(next:RunT P C ops nd K rest (⟨[]++(bp x++bp z),[],[],⟨some (d,.sv s),[],[]⟩⟩::acc) (S.set d (.sv s)))(hx:S.ev x=.sv (.v (.bool false)):=by exact rfl)(hd:d<S.n:=by exact tl Y):RunT P C ops nd K (⟨some d,.pick x y z,ty,pos,aft,none⟩::rest) acc S:=
 RT.abZ .none hx hz hd next
theorem pT{s:SV}(hy:S.ev y=.sv s)(next:RunT P C ops nd K rest (⟨[]++(bp x++bp y),[],[],⟨some (d,.sv s),[],[]⟩⟩::acc) (S.set d (.sv s)))(hx:S.ev x=.sv (.v (.bool true)):=by exact rfl)(hd:d<S.n:=by exact tl Y):RunT P C ops nd K (⟨some d,.pick x y z,ty,pos,aft,none⟩::rest) acc S:=
 RT.abY .none hx hy hd next
theorem mo{s:AV}(hx:S.ev x=s)(next:RunT P C ops nd K rest (⟨[]++bp x,[],[],⟨some (d,s),[],[]⟩⟩::acc) (S.set d s))(hd:d<S.n:=by exact tl Y):RunT P C ops nd K (⟨some d,.move x,ty,pos,aft,none⟩::rest) acc S:=
 RT.move .none hx hd next
theorem ad(c:Int)(hx:S.ev x=.sv (.v (.int k p)))(hy:S.ev y=.sv (.v (.int k q)))(hc:k.wrap (p+q)=c)(next:RunT P C ops nd K rest (⟨[]++(bp x++bp y),[],[],⟨some (d,.sv (.v (.int k c))),[],[]⟩⟩::acc) (S.set d (.sv (.v (.int k c)))))(hd:d<S.n:=by exact tl Y):RunT P C ops nd K (⟨some d,.binOp .add T x y U,ty,pos,aft,none⟩::rest) acc S:=
 RT.add .none c hx hy hd hc next
theorem cv{j:IntKind}[tT:tw P T j][tU:tw P U k](c:Int){k':IntKind}(hx:S.ev x=.sv (.v (.int k' p)))(hc:k.wrap p=c)(next:RunT P C ops nd K rest (⟨[]++bp x,[],[],⟨some (d,.sv (.v (.int k c))),[],[]⟩⟩::acc) (S.set d (.sv (.v (.int k c)))))(hd:d<S.n:=by exact tl Y):RunT P C ops nd K (⟨some d,.convert T U x,ty,pos,aft,none⟩::rest) acc S:=
 RT.conv .none c hx hd hc next
theorem ls(c:Bool)(hx:S.ev x=.sv (.v (.int k p)))(hy:S.ev y=.sv (.v (.int k q)))(hc:decide (p<q)=c)(next:RunT P C ops nd K rest (⟨[]++(bp x++bp y),[],[],⟨some (d,.sv (.v (.bool c))),[],[]⟩⟩::acc) (S.set d (.sv (.v (.bool c)))))(hd:d<S.n:=by exact tl Y):RunT P C ops nd K (⟨some d,.binOp .lss T x y U,ty,pos,aft,none⟩::rest) acc S:=
 RT.lss .none c hx hy hd hc next
theorem sb(c:Int)(hx:S.ev x=.sv (.v (.int k p)))(hy:S.ev y=.sv (.v (.int k q)))(hc:k.wrap (p-q)=c)(next:RunT P C ops nd K rest (⟨[]++(bp x++bp y),[],[],⟨some (d,.sv (.v (.int k c))),[],[]⟩⟩::acc) (S.set d (.sv (.v (.int k c)))))(hd:d<S.n:=by exact tl Y):RunT P C ops nd K (⟨some d,.binOp .sub T x y U,ty,pos,aft,none⟩::rest) acc S:=
 RT.sub .none c hx hy hd hc next
theorem an{s:AV}(hx:S.ev x=s)(next:RunT P C ops nd K rest (⟨[]++bp x,[],[],⟨some (d,s),[],[]⟩⟩::acc) (S.set d s))(hd:d<S.n:=by exact tl Y):RunT P C ops nd K (⟨some d,.assign x,ty,pos,aft,none⟩::rest) acc S:=
 RT.assign .none hx hd next
theorem gt(c:Bool)(hx:S.ev x=.sv (.v (.int k p)))(hy:S.ev y=.sv (.v (.int k q)))(hc:decide (q<p)=c)(next:RunT P C ops nd K rest (⟨[]++(bp x++bp y),[],[],⟨some (d,.sv (.v (.bool c))),[],[]⟩⟩::acc) (S.set d (.sv (.v (.bool c)))))(hd:d<S.n:=by exact tl Y):RunT P C ops nd K (⟨some d,.binOp .gtr T x y U,ty,pos,aft,none⟩::rest) acc S:=
 RT.gtr .none c hx hy hd hc next
theorem eq(c:Bool)(hx:S.ev x=.sv (.v (.int k p)))(hy:S.ev y=.sv (.v (.int k q)))(hc:(p==q)=c)(next:RunT P C ops nd K rest (⟨[]++(bp x++bp y),[],[],⟨some (d,.sv (.v (.bool c))),[],[]⟩⟩::acc) (S.set d (.sv (.v (.bool c)))))(hd:d<S.n:=by exact tl Y):RunT P C ops nd K (⟨some d,.binOp .eql T x y U,ty,pos,aft,none⟩::rest) acc S:=
 RT.eql .none c hx hy hd hc next
theorem ne(c:Bool)(hx:S.ev x=.sv (.v (.int k p)))(hy:S.ev y=.sv (.v (.int k q)))(hc:(p != q)=c)(next:RunT P C ops nd K rest (⟨[]++(bp x++bp y),[],[],⟨some (d,.sv (.v (.bool c))),[],[]⟩⟩::acc) (S.set d (.sv (.v (.bool c)))))(hd:d<S.n:=by exact tl Y):RunT P C ops nd K (⟨some d,.binOp .neq T x y U,ty,pos,aft,none⟩::rest) acc S:=
 RT.neq .none c hx hy hd hc next
theorem ge(c:Bool)(hx:S.ev x=.sv (.v (.int k p)))(hy:S.ev y=.sv (.v (.int k q)))(hc:decide (q≤p)=c)(next:RunT P C ops nd K rest (⟨[]++(bp x++bp y),[],[],⟨some (d,.sv (.v (.bool c))),[],[]⟩⟩::acc) (S.set d (.sv (.v (.bool c)))))(hd:d<S.n:=by exact tl Y):RunT P C ops nd K (⟨some d,.binOp .geq T x y U,ty,pos,aft,none⟩::rest) acc S:=
 RT.geq .none c hx hy hd hc next
theorem nt{b:Bool}(hx:S.ev x=.sv (.v (.bool b)))(c:Bool)(hc:(!b)=c)(next:RunT P C ops nd K rest (⟨[]++bp x,[],[],⟨some (d,.sv (.v (.bool c))),[],[]⟩⟩::acc) (S.set d (.sv (.v (.bool c)))))(hd:d<S.n:=by exact tl Y):RunT P C ops nd K (⟨some d,.unOp .not T x,ty,pos,aft,none⟩::rest) acc S:=
 RT.not .none hx hd c hc next
theorem gF{j_ g_:Nat}{jv:Bool}{s:SV}(hz:S.ev z=.sv s)(next:RunT P C ops nd K rest (⟨[g_]++(bp x++bp z),[],[],⟨some (d,.sv s),[],[]⟩⟩::acc) (S.set d (.sv s)))(Kh:(ops[j_]?).bind (·.dst)=some g_:=by exact rfl)(Ki:S.t g_=.sv (.v (.bool jv)):=by exact rfl)(hx:S.ev x=.sv (.v (.bool false)):=by exact rfl)(hd:d<S.n:=by exact tl Y):RunT P C ops nd K (⟨some d,.pick x y z,ty,pos,aft,some (j_,jv)⟩::rest) acc S:=
 RT.abZ (.some Kh Ki) hx hz hd next
theorem gT{j_ g_:Nat}{jv:Bool}{s:SV}(hy:S.ev y=.sv s)(next:RunT P C ops nd K rest (⟨[g_]++(bp x++bp y),[],[],⟨some (d,.sv s),[],[]⟩⟩::acc) (S.set d (.sv s)))(Kh:(ops[j_]?).bind (·.dst)=some g_:=by exact rfl)(Ki:S.t g_=.sv (.v (.bool jv)):=by exact rfl)(hx:S.ev x=.sv (.v (.bool true)):=by exact rfl)(hd:d<S.n:=by exact tl Y):RunT P C ops nd K (⟨some d,.pick x y z,ty,pos,aft,some (j_,jv)⟩::rest) acc S:=
 RT.abY (.some Kh Ki) hx hy hd next
theorem gq{j_ g_:Nat}{jv:Bool}(c:Bool)(hx:S.ev x=.sv (.v (.int k p)))(hy:S.ev y=.sv (.v (.int k q)))(hc:(p != q)=c)(next:RunT P C ops nd K rest (⟨[g_]++(bp x++bp y),[],[],⟨some (d,.sv (.v (.bool c))),[],[]⟩⟩::acc) (S.set d (.sv (.v (.bool c)))))(Kh:(ops[j_]?).bind (·.dst)=some g_:=by exact rfl)(Ki:S.t g_=.sv (.v (.bool jv)):=by exact rfl)(hd:d<S.n:=by exact tl Y):RunT P C ops nd K (⟨some d,.binOp .neq T x y U,ty,pos,aft,some (j_,jv)⟩::rest) acc S:=
 RT.neq (.some Kh Ki) c hx hy hd hc next
theorem gg{j_ g_:Nat}{jv:Bool}(c:Bool)(hx:S.ev x=.sv (.v (.int k p)))(hy:S.ev y=.sv (.v (.int k q)))(hc:decide (q<p)=c)(next:RunT P C ops nd K rest (⟨[g_]++(bp x++bp y),[],[],⟨some (d,.sv (.v (.bool c))),[],[]⟩⟩::acc) (S.set d (.sv (.v (.bool c)))))(Kh:(ops[j_]?).bind (·.dst)=some g_:=by exact rfl)(Ki:S.t g_=.sv (.v (.bool jv)):=by exact rfl)(hd:d<S.n:=by exact tl Y):RunT P C ops nd K (⟨some d,.binOp .gtr T x y U,ty,pos,aft,some (j_,jv)⟩::rest) acc S:=
 RT.gtr (.some Kh Ki) c hx hy hd hc next
theorem Uk{j_ g_:Nat}{jv:Bool}(c:Bool)(hx:S.ev x=.sv (.v (.int k p)))(hy:S.ev y=.sv (.v (.int k q)))(hc:(p==q)=c)(next:RunT P C ops nd K rest (⟨[g_]++(bp x++bp y),[],[],⟨some (d,.sv (.v (.bool c))),[],[]⟩⟩::acc) (S.set d (.sv (.v (.bool c)))))(Kh:(ops[j_]?).bind (·.dst)=some g_:=by exact rfl)(Ki:S.t g_=.sv (.v (.bool jv)):=by exact rfl)(hd:d<S.n:=by exact tl Y):RunT P C ops nd K (⟨some d,.binOp .eql T x y U,ty,pos,aft,some (j_,jv)⟩::rest) acc S:=
 RT.eql (.some Kh Ki) c hx hy hd hc next
theorem Q2{j_ g_:Nat}{jv:Bool}{b:Bool}(hx:S.ev x=.sv (.v (.bool b)))(c:Bool)(hc:(!b)=c)(next:RunT P C ops nd K rest (⟨[g_]++bp x,[],[],⟨some (d,.sv (.v (.bool c))),[],[]⟩⟩::acc) (S.set d (.sv (.v (.bool c)))))(Kh:(ops[j_]?).bind (·.dst)=some g_:=by exact rfl)(Ki:S.t g_=.sv (.v (.bool jv)):=by exact rfl)(hd:d<S.n:=by exact tl Y):RunT P C ops nd K (⟨some d,.unOp .not T x,ty,pos,aft,some (j_,jv)⟩::rest) acc S:=
 RT.not (.some Kh Ki) hx hd c hc next
end
section
variable {P:Program}{C:Ctx}{ops:Array Oper}{S:AS}{nd:Bool}{K:List Ac→AS→Prop}{rest:List Oper}{acc:List Ac}
variable {gd:Option (Nat×Bool)}{rg:List Nat}{d:Nat}{ty:TypeId}{pos:String}{aft:Array Edge}{x y z:Operand}{T U E0:TypeId}
theorem mv{s:SV}(hx:S.ev x=.sv s)(next:RunT P C ops nd K rest (⟨[]++bp x,[],[],⟨some (d,.sv s),[],[]⟩⟩::acc) (S.set d (.sv s)))(hd:d<S.n:=by exact tl Y):RunT P C ops nd K (⟨some d,.move x,ty,pos,aft,none⟩::rest) acc S:=
 RT.mv .none hx hd next
theorem ag{s:SV}(hx:S.ev x=.sv s)(next:RunT P C ops nd K rest (⟨[]++bp x,[],[],⟨some (d,.sv s),[],[]⟩⟩::acc) (S.set d (.sv s)))(hd:d<S.n:=by exact tl Y):RunT P C ops nd K (⟨some d,.assign x,ty,pos,aft,none⟩::rest) acc S:=
 RT.Mc .none hx hd next
theorem cl{f:FuncId}[cZ P f]{g:Operand}{xs:Array Operand}{at_:Array TypeId}{args:List SV}{r:SV}(hp:Pure P f args r)(hargs:kf S xs.toList args)(next:RunT P C ops nd K rest (⟨[]++(bp g++xs.toList.flatMap bp),[],[],⟨some (d,.sv r),[],[]⟩⟩::acc) (S.set d (.sv r)))(hf:S.ev g=.sv (.v (.func (.func f) #[] #[])):=by exact rfl)(hd:d<S.n:=by exact tl Y):RunT P C ops nd K (⟨some d,.call ⟨.value g,xs,at_⟩,ty,pos,aft,none⟩::rest) acc S:=
 RT.call .none hp hf hargs hd next
theorem ld{n:Nat}[tA:Gy P T n]{j off:Nat}{B:wc}{cs:List SV}(hx:S.ev x=.ptr j off)(hB:S.b j=some B)(hcs:Vo B.cells off cs)(next:RunT P C ops nd K rest (⟨[]++bp x,[j],[],⟨some (d,.sv (.agg cs)),[],[]⟩⟩::acc) (S.set d (.sv (.agg cs))))(hn:cs.length=n:=by exact rfl)(hd:d<S.n:=by exact tl Y):RunT P C ops nd K (⟨some d,.load T x,ty,pos,aft,none⟩::rest) acc S:=
 RT.load .none hx hB hcs hn hd next
theorem lV[tV:zo P T]{j off:Nat}{B:wc}{s:SV}(hx:S.ev x=.ptr j off)(hB:S.b j=some B)(hn:B.cells[off]? =some (.sv s))(next:RunT P C ops nd K rest (⟨[]++bp x,[j],[],⟨some (d,.sv s),[],[]⟩⟩::acc) (S.set d (.sv s)))(hd:d<S.n:=by exact tl Y):RunT P C ops nd K (⟨some d,.load T x,ty,pos,aft,none⟩::rest) acc S:=
 RT.yy .none hx hB hn hd next
theorem fa{f off:Nat}[hf:EV P T f off U][sU:KX P U]{j o:Nat}(hx:S.ev x=.ptr j o){o':Nat}(ho':o+off=o')(next:RunT P C ops nd K rest (⟨[]++bp x,[],[],⟨some (d,.ptr j o'),[],[]⟩⟩::acc) (S.set d (.ptr j o')))(hd:d<S.n:=by exact tl Y):RunT P C ops nd K (⟨some d,.fieldAddr T x f,ty,pos,aft,none⟩::rest) acc S:=
 RT.fieldAddr .none hx hd ho' next
theorem so{n:Nat}[tA:Gy P T n]{j:Nat}{B:wc}{cs:List SV}[o1:xq cs](hx:S.ev x=.ptr j 0)(hB:S.b j=some B)(hy:S.ev y=.sv (.agg cs))(next:RunT P C ops nd K rest (⟨[]++(bp x++bp y),[j],[],⟨none,[(j,⟨B.T,cs.map AV.sv⟩)],[]⟩⟩::acc) (S.oE j ⟨B.T,cs.map AV.sv⟩))(nN:cs.length=n:=by exact rfl)(hn:B.cells.length=n:=by exact rfl):RunT P C ops nd K (⟨none,.store T x y,ty,pos,aft,none⟩::rest) acc S:=
 RT.store .none hx hB hy nN hn next
theorem ex{i:Nat}{ss:List SV}{s:SV}(hx:S.ev x=.sv (.Ce ss))(hi:ss[i]? =some s)(next:RunT P C ops nd K rest (⟨[]++bp x,[],[],⟨some (d,.sv s),[],[]⟩⟩::acc) (S.set d (.sv s)))(hd:d<S.n:=by exact tl Y):RunT P C ops nd K (⟨some d,.extract x i,ty,pos,aft,none⟩::rest) acc S:=
 RT.extract .none hx hi hd next
theorem bx{cells:List SV}(hx:S.ev x=.sv (.agg cells))(next:RunT P C ops nd K rest (⟨[]++bp x,[d],[],⟨some (d,.ptr d 0),[(d,⟨T,cells.map AV.sv⟩)],[]⟩⟩::acc) ((S.oE d ⟨T,cells.map AV.sv⟩).set d (.ptr d 0)))(hd:d<S.n:=by exact tl Y)(hb:S.b d=none:=by exact rfl)(hp:C.kV d=none:=by exact rfl):RunT P C ops nd K (⟨some d,.box T x,ty,pos,aft,none⟩::rest) acc S:=
 RT.box .none hx hd hb hp next
theorem lr[tV:zo P T]{cells:List SV}{s:SV}(hx:S.ev x=.sv (ref cells))(hn:cells[0]? =some s)(next:RunT P C ops nd K rest (⟨[]++bp x,[],[],⟨some (d,.sv s),[],[]⟩⟩::acc) (S.set d (.sv s)))(hd:d<S.n:=by exact tl Y):RunT P C ops nd K (⟨some d,.load T x,ty,pos,aft,none⟩::rest) acc S:=
 RT.fX .none hx hn hd next
theorem cB{f:FuncId}[cZ P f]{g:Operand}{xs:Array Operand}{at_:Array TypeId}{args:List SV}{T:TypeId}{c0 c1:List SV}{res:SV}(hp:Z1 P f args T c0 res c1)(j:Nat)(hB:S.b j=some ⟨T,c0.map AV.sv⟩)(hargs:kf S xs.toList args)(next:RunT P C ops nd K rest (⟨[]++(bp g++xs.toList.flatMap bp),[j],[],⟨some (d,.sv res),[(j,⟨T,c1.map AV.sv⟩)],[]⟩⟩::acc) ((AS.iQ [(j,⟨T,c1.map AV.sv⟩)] S).set d (.sv res)))(hf:S.ev g=.kU f [.box j]:=by exact rfl)(hd:d<S.n:=by exact tl Y):RunT P C ops nd K (⟨some d,.call ⟨.value g,xs,at_⟩,ty,pos,aft,none⟩::rest) acc S:=
 RT.aio .none hp j hB hf hargs hd next
theorem cN{f:FuncId}[cZ P f]{g:Operand}{xs:Array Operand}{at_:Array TypeId}{args:List SV}{R:Row}(hp:GB P f args R)(hargs:kf S xs.toList args)(next:RunT P C ops nd K rest (⟨[]++(bp g++xs.toList.flatMap bp),[],[d],⟨some (d,.row d),[],[(d,.live R)]⟩⟩::acc) ((AS.cO [(d,.live R)] S).set d (.row d)))(hf:S.ev g=.sv (.v (.func (.func f) #[] #[])):=by exact rfl)(hd:d<S.n:=by exact tl Y)(uF:S.r d=.un:=by exact rfl)(Cr:d<1000:=by exact tl Y):RunT P C ops nd K (⟨some d,.call ⟨.value g,xs,at_⟩,ty,pos,aft,none⟩::rest) acc S:=
 RT.ain .none hp hf hargs hd uF Cr next
theorem gm{j_ g_:Nat}{jv:Bool}{s:SV}(hx:S.ev x=.sv s)(next:RunT P C ops nd K rest (⟨[g_]++bp x,[],[],⟨some (d,.sv s),[],[]⟩⟩::acc) (S.set d (.sv s)))(Kh:(ops[j_]?).bind (·.dst)=some g_:=by exact rfl)(Ki:S.t g_=.sv (.v (.bool jv)):=by exact rfl)(hd:d<S.n:=by exact tl Y):RunT P C ops nd K (⟨some d,.move x,ty,pos,aft,some (j_,jv)⟩::rest) acc S:=
 RT.mv (.some Kh Ki) hx hd next
theorem gl{j_ g_:Nat}{jv:Bool}{n:Nat}[tA:Gy P T n]{j off:Nat}{B:wc}{cs:List SV}(hx:S.ev x=.ptr j off)(hB:S.b j=some B)(hcs:Vo B.cells off cs)(next:RunT P C ops nd K rest (⟨[g_]++bp x,[j],[],⟨some (d,.sv (.agg cs)),[],[]⟩⟩::acc) (S.set d (.sv (.agg cs))))(Kh:(ops[j_]?).bind (·.dst)=some g_:=by exact rfl)(Ki:S.t g_=.sv (.v (.bool jv)):=by exact rfl)(hn:cs.length=n:=by exact rfl)(hd:d<S.n:=by exact tl Y):RunT P C ops nd K (⟨some d,.load T x,ty,pos,aft,some (j_,jv)⟩::rest) acc S:=
 RT.load (.some Kh Ki) hx hB hcs hn hd next
theorem gc{j_ g_:Nat}{jv:Bool}{f:FuncId}[cZ P f]{g:Operand}{xs:Array Operand}{at_:Array TypeId}{args:List SV}{r:SV}(hp:Pure P f args r)(hargs:kf S xs.toList args)(next:RunT P C ops nd K rest (⟨[g_]++(bp g++xs.toList.flatMap bp),[],[],⟨some (d,.sv r),[],[]⟩⟩::acc) (S.set d (.sv r)))(Kh:(ops[j_]?).bind (·.dst)=some g_:=by exact rfl)(Ki:S.t g_=.sv (.v (.bool jv)):=by exact rfl)(hf:S.ev g=.sv (.v (.func (.func f) #[] #[])):=by exact rfl)(hd:d<S.n:=by exact tl Y):RunT P C ops nd K (⟨some d,.call ⟨.value g,xs,at_⟩,ty,pos,aft,some (j_,jv)⟩::rest) acc S:=
 RT.call (.some Kh Ki) hp hf hargs hd next
theorem gr{j_ g_:Nat}{jv:Bool}[tV:zo P T]{cells:List SV}{s:SV}(hx:S.ev x=.sv (ref cells))(hn:cells[0]? =some s)(next:RunT P C ops nd K rest (⟨[g_]++bp x,[],[],⟨some (d,.sv s),[],[]⟩⟩::acc) (S.set d (.sv s)))(Kh:(ops[j_]?).bind (·.dst)=some g_:=by exact rfl)(Ki:S.t g_=.sv (.v (.bool jv)):=by exact rfl)(hd:d<S.n:=by exact tl Y):RunT P C ops nd K (⟨some d,.load T x,ty,pos,aft,some (j_,jv)⟩::rest) acc S:=
 RT.fX (.some Kh Ki) hx hn hd next
end
section
variable {P:Program}{C:Ctx}{ops:Array Oper}{S:AS}{nd:Bool}{K:List Ac→AS→Prop}{rest:List Oper}{acc:List Ac}
variable {gd:Option (Nat×Bool)}{rg:List Nat}{d:Nat}{ty:TypeId}{pos:String}{aft:Array Edge}{x y z:Operand}{T U E0:TypeId}
variable {l l' k:ZA}
theorem ww{op:Op}{j g:Nat}{b want:Bool}(next:RunT P C ops nd K rest (⟨[g],[],[],⟨some (d,.sv (.v undef)),[],[]⟩⟩::acc) (S.set d (.sv (.v undef))))(h1:(ops[j]?).bind (·.dst)=some g:=by exact rfl)(h2:S.t g=.sv (.v (.bool b)):=by exact rfl)(hb:b≠want:=by exact sk Y)(hd:d<S.n:=by exact tl Y):RunT P C ops nd K (⟨some d,op,ty,pos,aft,some (j,want)⟩::rest) acc S:=
 RT.skV h1 h2 hb hd next
theorem wu{op:Op}{j g:Nat}{want:Bool}(next:RunT P C ops nd K rest (⟨[g],[],[],⟨some (d,.sv (.v undef)),[],[]⟩⟩::acc) (S.set d (.sv (.v undef))))(h1:(ops[j]?).bind (·.dst)=some g:=by exact rfl)(h2:S.t g=.sv (.v undef):=by exact rfl)(hd:d<S.n:=by exact tl Y):RunT P C ops nd K (⟨some d,op,ty,pos,aft,some (j,want)⟩::rest) acc S:=
 RT.aiD h1 h2 hd next
end
section
variable {P:Program}{C:Ctx}{ops:Array Oper}{S:AS}{nd:Bool}{K:List Ac→AS→Prop}{rest:List Oper}{acc:List Ac}
variable {gd:Option (Nat×Bool)}{rg:List Nat}{d:Nat}{ty:TypeId}{pos:String}{aft:Array Edge}{x y z:Operand}{T U E0:TypeId}
variable {α:Type}{l l' k:List α}{e:α→List SV}{n by_:Nat}{zv:Value}
theorem ln{m:Nat}[tS:gU P T E0 m]{c:Int}(hx:S.ev x=.sv (slc n (l.map e)))(hc:(l.length:Int)=c)(next:RunT P C ops nd K rest (⟨[]++bp x,[],[],⟨some (d,.sv (.v (.int .i64 c))),[],[]⟩⟩::acc) (S.set d (.sv (.v (.int .i64 c)))))(hd:d<S.n:=by exact tl Y):RunT P C ops nd K (⟨some d,.call ⟨.builtin .len,#[x],#[T]⟩,ty,pos,aft,none⟩::rest) acc S:=
 RT.aiB .none hx hd hc next
theorem al[tz:mJ P T zv]{cs:List SV}(hi:cg (zv.cells.toList.map SV.v) cs){av:List AV}(hav:cs.map AV.sv=av)(next:RunT P C ops nd K rest (⟨[]++[],[d],[],⟨some (d,.ptr d 0),[(d,⟨T,av⟩)],[]⟩⟩::acc) ((S.oE d ⟨T,av⟩).set d (.ptr d 0)))(hd:d<S.n:=by exact tl Y)(hb:S.b d=none:=by exact rfl)(hp:C.kV d=none:=by exact rfl):RunT P C ops nd K (⟨some d,.alloc T,ty,pos,aft,none⟩::rest) acc S:=
 RT.CU .none hi hav hd hb hp next
theorem ix[tS:gU P T E0 n]{kk:IntKind}{i:Int}{a:α}(hx:S.ev x=.sv (slc n (l.map e)))(hy:S.ev y=.sv (.v (.int kk i)))(ha:cL l i=some a)(next:RunT P C ops nd K rest (⟨[]++(bp x++bp y),[],[],⟨some (d,.sv (ref (e a))),[],[]⟩⟩::acc) (S.set d (.sv (ref (e a)))))(hd:d<S.n:=by exact tl Y):RunT P C ops nd K (⟨some d,.indexAddr T x y,ty,pos,aft,none⟩::rest) acc S:=
 RT.Uj .none hx hy hd ha next
theorem bl[tS:gU P T E0 n][tE:nS P E0 n by_ zv]{len:Nat}{parts:Array (Nat×Operand)}{qs:List (Nat×List SV)}(hp:uY S parts.toList qs)(hc:yd 0 qs=true)(hl:qs.length=len)(hsz:(qs.all λq=>Nat.beq q.2.length n)=true)(hlen:Nat.ble (len*n) 16777216=true)(Uf:(zv.cells.toList.all λv=>v.oneCell')=true)(nT:qs.map (·.2)=l.map e)(next:RunT P C ops nd K rest (⟨[]++qV parts.toList,[],[],⟨some (d,.sv (slc n (l.map e))),[],[]⟩⟩::acc) (S.set d (.sv (slc n (l.map e)))))(hd:d<S.n:=by exact tl Y):RunT P C ops nd K (⟨some d,.buildSlice T len parts,ty,pos,aft,none⟩::rest) acc S:=
 RT.jn .none hp hd hc hl hsz hlen Uf nT next
theorem iR[tS:gU P T E0 n]{i j:Nat}{E1:TypeId}{kk:IntKind}{v:Int}(hx:S.ev x=.row i)(hR:S.r i=.live (TR E1 n e l))(hy:S.ev y=.sv (.v (.int kk v)))(h:kW l v=some j)(next:RunT P C ops nd K rest (⟨[]++(bp x++bp y),[],[i],⟨some (d,.nB i (j*n)),[],[]⟩⟩::acc) (S.set d (.nB i (j*n))))(hd:d<S.n:=by exact tl Y):RunT P C ops nd K (⟨some d,.indexAddr T x y,ty,pos,aft,none⟩::rest) acc S:=
 RT.Ox .none hx hR hy hd h next
theorem aI{s X:SV}(hx:S.ev x=.sv s)(hi:SV.imp s X)(next:RunT P C ops nd K rest (⟨[]++bp x,[],[],⟨some (d,.sv X),[],[]⟩⟩::acc) (S.set d (.sv X)))(hd:d<S.n:=by exact tl Y):RunT P C ops nd K (⟨some d,.assign x,ty,pos,aft,none⟩::rest) acc S:=
 RT.amv .none hx hi hd next
theorem bI{pl:List (Nat×Nat)}{zc:List Value}[tP:lK P T pl zc]{parts:Array (Nat×Operand)}{qs:List (Nat×List SV)}(hp:uY S parts.toList qs){cs cs':List SV}(hi:cg cs cs')(next:RunT P C ops nd K rest (⟨[]++qV parts.toList,[],[],⟨some (d,.sv (.agg cs')),[],[]⟩⟩::acc) (S.set d (.sv (.agg cs'))))(hf:Cs (λi=>pl[i]?) (zc.map SV.v) qs=some cs:=by exact rfl)(hd:d<S.n:=by exact tl Y):RunT P C ops nd K (⟨some d,.build T parts,ty,pos,aft,none⟩::rest) acc S:=
 RT.aeL .none hp hf hi hd next
theorem lR[tV:zo P T][el:EL e 1]{i j:Nat}{E1:TypeId}{a:α}{s:SV}(hx:S.ev x=.nB i (j*1))(hR:S.r i=.live (TR E1 1 e l))(ha:l[j]? =some a)(hs:e a=[s])(next:RunT P C ops nd K rest (⟨[]++bp x,[],[i],⟨some (d,.sv s),[],[]⟩⟩::acc) (S.set d (.sv s)))(hd:d<S.n:=by exact tl Y):RunT P C ops nd K (⟨some d,.load T x,ty,pos,aft,none⟩::rest) acc S:=
 RT.Mk .none hx hR ha hs hd next
theorem aR[tS:gU P T E0 n][tE:nS P E0 n by_ zv]{i:Nat}(hx:S.ev x=.row i)(hR:S.r i=.live (TR E0 n e l))(hy:S.ev y=.sv (slc n (k.map e)))(h:nC by_ l k=some l')(next:RunT P C ops nd K rest (⟨[]++(bp x++bp y),[],[i,d],⟨some (d,.row d),[],[(i,.dead),(d,.live (TR E0 n e l'))]⟩⟩::acc) ((AS.cO [(i,.dead),(d,.live (TR E0 n e l'))] S).set d (.row d)))(hd:d<S.n:=by exact tl Y)(uF:S.r d=.un:=by exact rfl)(Cr:d<1000:=by exact tl Y):RunT P C ops nd K (⟨some d,.call ⟨.builtin .append,#[x,y],#[T,T]⟩,ty,pos,aft,none⟩::rest) acc S:=
 RT.apR .none hx hR hy hd uF Cr h next
theorem sR[tV:zo P T][el:EL e 1]{i j:Nat}{E1:TypeId}{s:SV}[o1:One s](a:α)(hs:e a=[s])(hx:S.ev x=.nB i (j*1))(hR:S.r i=.live (TR E1 1 e l))(hy:S.ev y=.sv s)(h:stM l j a=some l')(next:RunT P C ops nd K rest (⟨[]++(bp x++bp y),[],[i],⟨none,[],[(i,.live (TR E1 1 e l'))]⟩⟩::acc) (AS.cO [(i,.live (TR E1 1 e l'))] S)):RunT P C ops nd K (⟨none,.store T x y,ty,pos,aft,none⟩::rest) acc S:=
 RT.amx .none a hs hx hR hy h next
theorem sA[tA:Gy P T n][el:EL e n]{i j:Nat}{E1:TypeId}(a:α)(hx:S.ev x=.nB i (j*n))(hR:S.r i=.live (TR E1 n e l))(hy:S.ev y=.sv (.agg (e a)))(h:stM l j a=some l')(next:RunT P C ops nd K rest (⟨[]++(bp x++bp y),[],[i],⟨none,[],[(i,.live (TR E1 n e l'))]⟩⟩::acc) (AS.cO [(i,.live (TR E1 n e l'))] S)):RunT P C ops nd K (⟨none,.store T x y,ty,pos,aft,none⟩::rest) acc S:=
 RT.aiC .none a hx hR hy h next
theorem lL{m:Nat}[tS:gU P T E0 m]{i:Nat}{E1:TypeId}{c:Int}(hx:S.ev x=.row i)(hR:S.r i=.live (TR E1 n e l))(hc:(l.length:Int)=c)(next:RunT P C ops nd K rest (⟨[]++bp x,[],[i],⟨some (d,.sv (.v (.int .i64 c))),[],[]⟩⟩::acc) (S.set d (.sv (.v (.int .i64 c)))))(hd:d<S.n:=by exact tl Y):RunT P C ops nd K (⟨some d,.call ⟨.builtin .len,#[x],#[T]⟩,ty,pos,aft,none⟩::rest) acc S:=
 RT.Ou .none hx hR hd hc next
theorem cR{f:FuncId}[cZ P f]{g:Operand}{xs:Array Operand}{at_:Array TypeId}{args:List AV}{E1:TypeId}{res:AV}(hp:QU P f args (TR E1 n e l) res (l'.flatMap e))(hlen:l'.length=l.length)(i:Nat)(hR:S.r i=.live (TR E1 n e l))(hargs:CN S xs.toList (args.map (AV.F5 i)))(next:RunT P C ops nd K rest (⟨[]++(bp g++xs.toList.flatMap bp),[],[i],⟨some (d,res.F5 i),[],[(i,.live (TR E1 n e l'))]⟩⟩::acc) ((AS.cO [(i,.live (TR E1 n e l'))] S).set d (res.F5 i)))(hrow:args.all AV.E9=true:=by exact rfl)(hres:res.E9=true:=by exact rfl)(hf:S.ev g=.sv (.v (.func (.func f) #[] #[])):=by exact rfl)(hd:d<S.n:=by exact tl Y):RunT P C ops nd K (⟨some d,.call ⟨.value g,xs,at_⟩,ty,pos,aft,none⟩::rest) acc S:=
 RT.aeQ .none hp hlen i hR hrow hres hf hargs hd next
theorem gn{j_ g_:Nat}{jv:Bool}{m:Nat}[tS:gU P T E0 m]{c:Int}(hx:S.ev x=.sv (slc n (l.map e)))(hc:(l.length:Int)=c)(next:RunT P C ops nd K rest (⟨[g_]++bp x,[],[],⟨some (d,.sv (.v (.int .i64 c))),[],[]⟩⟩::acc) (S.set d (.sv (.v (.int .i64 c)))))(Kh:(ops[j_]?).bind (·.dst)=some g_:=by exact rfl)(Ki:S.t g_=.sv (.v (.bool jv)):=by exact rfl)(hd:d<S.n:=by exact tl Y):RunT P C ops nd K (⟨some d,.call ⟨.builtin .len,#[x],#[T]⟩,ty,pos,aft,some (j_,jv)⟩::rest) acc S:=
 RT.aiB (.some Kh Ki) hx hd hc next
end
section
variable {P:Program}{C:Ctx}{ops:Array Oper}{S:AS}{nd:Bool}{K:List Ac→AS→Prop}{rest:List Oper}{acc:List Ac}
variable {gd:Option (Nat×Bool)}{rg:List Nat}{d:Nat}{ty:TypeId}{pos:String}{aft:Array Edge}{x y z:Operand}{T U E0 E1:TypeId}
theorem fl{f off:Nat}[hf:EV P T f off U][tV:zo P U]{cs:List SV}{s:SV}(hx:S.ev x=.sv (.agg cs))(hs:cs[off]? =some s)(next:RunT P C ops nd K rest (⟨[]++bp x,[],[],⟨some (d,.sv s),[],[]⟩⟩::acc) (S.set d (.sv s)))(hd:d<S.n:=by exact tl Y):RunT P C ops nd K (⟨some d,.field T x f,ty,pos,aft,none⟩::rest) acc S:=
 RT.field .none hx hs hd next
end
end
end Go.Fw.Z
namespace Go.Fw
section
open Go.RowKit
def Mem.fr(M:Mem)(N:Nat):Mem:=λb o=>if N≤b then M b o else none
theorem Mem.aiL(M:Mem)(N:Nat):(M.fr N).le M:=λb o v h=>by
 unfold Mem.fr at h
 split at h
 ·exact h
 ·cases h
theorem Mem.SX{M M':Mem}(h:M.le M')(N:Nat):(M.fr N).le (M'.fr N):=λb o v e=>by
 unfold Mem.fr at*
 split at e
 ·rename_i hn;rw[if_pos hn];exact h b o v e
 ·cases e
theorem Mem.We(M:Mem)(N:Nat):(M.fr N).fr N=M.fr N:=by
 funext b o;unfold Mem.fr;split<;>rfl
def nw(N:Nat)(s:SV):SV:=⟨λM v=>s.h (M.fr N) v∧∀g,v.ownBlock=some g→∃o,M.fr N g o=some (.agg #[]),λhM h=>⟨s.mono (Mem.SX hM N) h.1,λg e=>by obtain⟨o,q⟩:=h.2 g e;exact⟨o,Mem.SX hM N _ _ _ q⟩⟩⟩
theorem fN{N:Nat}{s:SV}:SV.imp (nw N s) s:=λM _ h=>s.mono (Mem.aiL M N) h.1
instance{N:Nat}{s:SV}{n:Nat}[h:Len s n]:Len (nw N s) n:=⟨λM v hv=>h.h M v (fN M v hv)⟩
instance{N:Nat}{s:SV}{n:Nat}{rows:List (List SV)}[h:ZU s n rows]:ZU (nw N s) n rows:=⟨λM v hv=>h.h M v (fN M v hv)⟩
instance{N:Nat}{s:SV}{n sz:Nat}{f:Nat→Nat→SV}[h:Sub s n sz f]:Sub (nw N s) n sz (λa b=>nw N (f a b)):=⟨λM v hv=>by
 obtain⟨a,c,e,hc,hs⟩:=h.h (M.fr N) v hv.1
 refine⟨a,c,e,hc,λlo hi h1 h2=>⟨hs lo hi h1 h2,λg hg=>hv.2 g ?_⟩⟩
 subst e
 cases a with
 |none=>split at hg<;>cases hg
 |some a=>
  split at hg
  ·exact hg
  ·have e:(a.add (lo*sz)).block=a.block:=by unfold Addr.add;split<;>rfl
   rw[show(Value.slice (Option.map (λx=>x.add (lo*sz)) (some a)) (hi-lo) (c-lo)).ownBlock=some (a.add (lo*sz)).block from rfl,e]at hg
   exact hg⟩
instance{N:Nat}{s:SV}[h:One s]:One (nw N s):=⟨λM v hv=>h.h _ v hv.1⟩
class Sup (N:Nat) (s:SV):Prop where
 h:∀M v,s.h M v→s.h (M.fr N) v
instance{N:Nat}{x:Value}:Sup N (.v x):=⟨λ_ _ h=>h⟩
instance{N:Nat}{s:SV}:Sup N (nw N s):=⟨λM v h=>by show s.h ((M.fr N).fr N) v∧∀g,v.ownBlock=some g→∃o,(M.fr N).fr N g o=some (.agg #[]);rw[Mem.We];exact h⟩
class aaj (N:Nat) (l:List SV):Prop where
 h:∀s∈l,∀M v,s.h M v→s.h (M.fr N) v
instance{N:Nat}:aaj N []:=⟨λs h=>by cases h⟩
instance{N:Nat}{s:SV}{l:List SV}[a:Sup N s][b:aaj N l]:aaj N (s::l):=⟨λt ht=>by
 rcases List.mem_cons.1 ht with rfl|ht
 ·exact a.h
 ·exact b.h t ht⟩
class Mo (N:Nat) {α:Type} (e:α→List SV):Prop where
 h:∀x,aaj N (e x)
instance{N:Nat}:Mo N bh:=⟨λ_=>inferInstance⟩
instance{N:Nat}:Mo N bD:=⟨λ_=>inferInstance⟩
abbrev fZ(N:Nat)(z:Zr):List SV:=[.v (.bool z.neg),nw N (slc 1 (z.w.map bh))]
abbrev fQ(N:Nat)(q:Qr):List SV:=[.v (.bool q.num.neg),nw N (slc 1 (q.num.w.map bh)),.v (.bool q.den.neg),nw N (slc 1 (q.den.w.map bh))]
instance{N:Nat}:EL (fQ N) 4:=⟨λ_=>rfl,λ_=>inferInstance⟩
instance{N:Nat}:Mo N (fQ N):=⟨λ_=>inferInstance⟩
theorem bu{α:Type}{N n:Nat}{e:α→List SV}:SV.imp (.v (.slice none 0 0)) (nw N (slc n (([]:List α).map e))):=λ_ _ h=>⟨.inl ⟨none,h,rfl⟩,λg e=>by rw[show _=Value.slice none 0 0 from h]at e;cases e⟩
theorem SY{α:Type}{n:Nat}{e e':α→List SV}(h:∀x,cg (e' x) (e x))(l:List α):SV.imp (slc n (l.map e')) (slc n (l.map e)):=by
 rintro M v (⟨a,h1,h2⟩|⟨b,o,c,h1,h2,h3,h4⟩)
 ·exact .inl ⟨a,h1,by have:=List.map_eq_nil_iff.1 h2;rw[this];rfl⟩
 ·refine .inr ⟨b,o,c,by simpa using h1,by simpa using h2,by simpa using h3,λi row hr=>?_⟩
  rw[List.getElem?_map]at hr
  cases hx:l[i]? with
  |none=>rw[hx]at hr;cases hr
  |some x=>
   rw[hx]at hr
   have hr:e x=row:=Option.some.inj hr
   subst hr
   obtain⟨g1,g2⟩:=h4 i (e' x) (by rw[List.getElem?_map,hx];rfl)
   refine⟨by rw[cg.len (h x)];exact g1,λk s hs=>?_⟩
   obtain⟨s2,EW,hi⟩:=cg.get (h x) hs
   obtain⟨y,hy,ho,hh⟩:=g2 k s2 EW
   exact⟨y,hy,ho,hi M y hh⟩
theorem zI(N:Nat)(z:Zr):cg (fZ N z) (eZ z):=⟨aq,fN,ak⟩
theorem qI(N:Nat)(q:Qr):cg (fQ N q) (eQ q):=⟨aq,fN,aq,fN,ak⟩
theorem Ul{N:Nat}{l:List Qr}:SV.imp (nw N (slc 4 (l.map (fQ N)))) (slc 4 (l.map eQ)):=λM v h=>SY (qI N) l M v (fN M v h)
theorem Mp{N n:Nat}{α:Type}{e:α→List SV}[he:Mo N e]{l:List α}{M:Mem}{v:Value}(h:(slc n (l.map e)).h M v)(hb:∀g,v.ownBlock=some g→N≤g∧∃o,M g o=some (.agg #[])):(nw N (slc n (l.map e))).h M v:=by
 refine⟨?_,λg hg=>by obtain⟨h1,o,h2⟩:=hb g hg;exact⟨o,by unfold Mem.fr;rw[if_pos h1];exact h2⟩⟩
 rcases h with⟨a,h1,h2⟩|⟨b,o,c,h1,h2,h3,h4⟩
 ·exact .inl ⟨a,h1,h2⟩
 ·have hN:N≤b:=(hb b (by rw[h1];rfl)).1
  refine .inr ⟨b,o,c,h1,h2,h3,λi row hr=>⟨(h4 i row hr).1,λk s hs=>?_⟩⟩
  obtain⟨y,hy,ho,hh⟩:=(h4 i row hr).2 k s hs
  refine⟨y,by unfold Mem.fr;rw[if_pos hN];exact hy,ho,?_⟩
  rw[List.getElem?_map]at hr
  cases hx:l[i]? with
  |none=>rw[hx]at hr;cases hr
  |some x=>
   rw[hx]at hr
   have hr:e x=row:=Option.some.inj hr
   subst hr
   exact(he.h x).h s (List.mem_of_getElem? hs) M y hh
section
variable {P:Program}{C:Ctx}{S:AS}{Q:Exit→AS→Prop}
theorem bC.aak{E:Env}{a:Act}{w:World}(h:bC C S E a w)(vs:List Value)(T:TypeId)(hone:∀v∈vs,v.oneCell'=true):bC C S {E with M:=λb o=>if b=w.heap.size then(vs++[.agg #[]])[o]? else E.M b o} a (w.alloc (.cells ⟨vs⟩ T)):=by
 have hno:∀o,E.M w.heap.size o=none:=λo=>by
  cases e:E.M w.heap.size o with
  |none=>rfl
  |some v=>have:=uJ h.ep e;omega
 refine h.grow (λb o v e=>?_) (λb o v e=>?_) (λb o v e=>?_) (((Below.refl _ _).alloc (Nat.le_refl _) _))
 ·have:b≠w.heap.size:=by rintro rfl;rw[hno o]at e;cases e
  simp[this,e]
 ·by_cases hb:b=w.heap.size
  ·exact .inr (by omega)
  ·simp only[if_neg hb]at e;exact .inl e
 ·by_cases hb:b=w.heap.size
  ·subst hb
   simp only[if_true]at e
   by_cases ho:o<vs.length
   ·rw[List.getElem?_append_left ho]at e
    refine .of ?_ (hone v (List.mem_of_getElem? e))
    rw[World.cell?_alloc_new];simpa using e
   ·rw[List.getElem?_append_right (by omega)]at e
    cases SZ:o-vs.length with
    |succ k=>rw[SZ]at e;simp at e
    |zero=>
     rw[SZ]at e
     simp at e
     subst e
     exact⟨⟨vs⟩,T,by show(w.heap.push _)[w.heap.size]? =_;rw[Array.getElem?_push,if_pos rfl]⟩
  ·simp only[if_neg hb]at e
   refine(h.ep b o v e).same ?_
   show(w.heap.push _)[b]? =_
   rw[Array.getElem?_push,if_neg hb]
theorem lz{c:Code}{i n N:Nat}{E1:TypeId}{α:Type}{e:α→List SV}{l:List α}[el:EL e n][he:Mo N e](hN:N≤C.w0.heap.size)(hb:∀k,¬C.BO k)(hR:S.r i=.live (TR E1 n e l))(hk:Ok P C c (S.uX i (nw N (slc n (l.map e)))) Q):Ok P C c S Q:=λa w hs=>by
 obtain⟨E,h⟩:=hs
 have hlen:l.length≤9223372036854775807:=by
  obtain⟨⟨vs,ho,hv⟩,_⟩:=h.rx i _ hR
  rcases ho.2 with⟨_,q2⟩|⟨g',cap,cur,q1,_,q2,q3,q4,q5,q6⟩
  ·have q2:l.length=0:=q2
   omega
  ·have q3:l.length≤cap:=q3
   have:maxLen=9223372036854775807:=by decide
   omega
 exact hk a w (h.uX hR (wm l) (by rw[List.length_map]) hlen (qt l) (λM v hv hg=>Mp hv (λg e=>⟨(hg g e).1.elim (λq=>Nat.le_trans hN q) (λq=>absurd q (hb g)),(hg g e).2⟩)))
def dK(P:Program)(f:FuncId)(N:Nat)(args:List SV)(r:SV):Prop:=
 ∀(M:Mem) (w:World) (vs:List Value),N≤w.heap.size→M.ep w→SV.gw M args vs→
  Calls P f ⟨vs⟩ w λe w'=>∃v M',e=.returned v∧M.le M'∧(∀b o x,M' b o=some x→M b o=some x∨w.heap.size≤b)∧M'.ep w'∧r.h M' v∧Below w.heap.size w w'
theorem dK.w{f:FuncId}{N:Nat}{args args':List SV}{r:SV}(h:dK P f N args r)(hi:cg args' args):dK P f N args' r:=λM w vs hN hM hv=>h M w vs hN hM (hi.holds hv)
theorem bU{f:FuncId}{fn:Func}{code:Code}{N:Nat}{args:List SV}{r:SV}(hf:P.funcs[f]? =some fn)(hb:fn.body=some code)(hn:args.length≤fn.ntmps)
  (h:∀(w:World) (M:Mem) (vs:List Value),N≤w.heap.size→SV.gw M args vs→Ok P (Oe w M) code (AS.init fn.ntmps args) (λe S=>(e=.normal∨e=.ret)∧VI P S fn.results.toList r)):dK P f N args r:=by
 intro M w vs hN hM hvs
 refine(callsIn_wide (n:=0)).1 (callsIn_of_wp_marks (F:=Fence.wide) hf hb trivial ?_)
 refine wpIn_mono (h w M vs hN hvs _ w ⟨_,pU hM hvs hn⟩) ?_
 rintro e a' w' ⟨S',⟨he,ss,hss,himp⟩,E,hh⟩
 have key:LeavesInM Fence.wide 0 P fn a'.tmps (λe w'=>∃v M',e=.returned v∧M.le M'∧(∀b o x,M' b o=some x→M b o=some x∨w.heap.size≤b)∧M'.ep w'∧r.h M' v∧Below w.heap.size w w') a'.defers .returning w':=by
  obtain⟨ds,h1,h2,h3⟩:=hh.marks
  rw[h1]
  refine vz ds w' h2 (λr hr=>(h3 r hr).2.2) (λw2 g1 g2 g3 g4 g5=>?_)
  have Kb:=hh.HQ h3 g1 g2 g3 g4 g5
  obtain⟨v,hv,hs⟩:=L9 Kb hss
  refine⟨v,hv,v,E.M,Y,Kb.m0,λb o x e=>?_,Kb.ep,himp _ _ hs,Kb.os,Kb.tape,Kb.output,Kb.grown,λk hk=>Kb.frame k hk (λh=>h)⟩
  rcases Kb.gS b o x e with h|h|h
  ·exact .inl h
  ·exact .inr h
  ·exact h.elim
 rcases he with rfl|rfl
 ·exact key
 ·exact key
theorem aal{f:FuncId}{N:Nat}{args:List SV}{E1:TypeId}{n:Nat}{α:Type}{e:α→List SV}{l:List α}[el:EL e n][he:Mo N e](hp:GB P f args (TR E1 n e l)):dK P f N args (nw N (slc n (l.map e))):=by
 intro M w vs hN hM hvs
 refine(hp M w vs hM hvs).mono ?_
 rintro ex w' ⟨v,M',us,rfl,hle,hnew,hin,hown,G3,pV,aiM⟩
 have nT:Rows n (l.map e) (l.flatMap e):=wm l
 have nN:=AO nT
 rcases hown.2 with⟨h1,h2⟩|⟨g,cap,cur,h1,_,h2,h3,_,h5,h6⟩
 ·exact⟨v,M',rfl,hle,hnew,hin,⟨.inl ⟨none,h1,by have h2:l.length=0:=h2;rw[List.length_eq_zero_iff.1 h2];rfl⟩,λg e=>by rw[h1]at e;cases e⟩,aiM⟩
 ·have hg:v.ownBlock=some g:=by rw[h1];rfl
  obtain⟨hge,hno⟩:=pV g hg
  have h3:l.length≤cap:=h3
  have atg:maxLen=9223372036854775807:=by decide
  refine⟨v,λb o=>if b=g∧o<l.length*n then us[o]? else if b=g∧o=l.length*n then some (.agg #[])else M' b o,Y,λb o x q=>?_,λb o x q=>?_,λb o x q=>?_,?_,aiM⟩
  ·have:=hle b o x q
   have:b≠g:=by rintro rfl;rw[hno o]at this;cases this
   simp[this];assumption
  ·simp only at q
   split at q
   ·rename_i hc;exact .inr (by rw[hc.1];exact hge)
   ·split at q
    ·rename_i hc;exact .inr (by rw[hc.1];exact hge)
    ·exact hnew b o x q
  ·simp only at q
   split at q
   ·rename_i hc
    obtain⟨rfl,Od⟩:=hc
    refine .of ?_ (qt l _ _ G3 x (List.mem_of_getElem? q))
    simp only[World.cell?,h2]
    have h6:cur.toList.take (l.length*n)=us:=h6
    rw[←h6,List.getElem?_take,if_pos Od]at q
    simpa using q
   ·split at q
    ·rename_i hc
     cases q
     rw[hc.1];exact⟨_,_,h2⟩
    ·exact hin b o x q
  ·refine Mp ?_ (λg' e'=>by rw[hg]at e';cases e';exact⟨Nat.le_trans hN hge,l.length*n,by simp⟩)
   refine .inr ⟨g,0,cap,by rw[h1,List.length_map],by rw[List.length_map];exact h3,by rw[List.length_map];omega,λk row hk=>?_⟩
   obtain⟨q1,q2⟩:=yB nT k row hk
   refine⟨q1,λj s hs=>?_⟩
   have EW:=q2 j s hs
   obtain⟨y,hy,hys⟩:=G3.get EW
   have hlt:k*n+j<l.length*n:=by
    have:=(List.getElem?_eq_some_iff.1 EW).1
    rw[nN,List.length_map]at this;exact this
   refine⟨y,by simp[hlt,hy],qt l _ _ G3 y (List.mem_of_getElem? hy),s.mono (λb o x q=>?_) hys⟩
   have:b≠g:=by rintro rfl;rw[hno o]at q;cases q
   simp[this,q]
end
section
variable {P:Program}{C:Ctx}{ops:Array Oper}{S:AS}{nd:Bool}{K:List Ac→AS→Prop}{rest:List Oper}{acc:List Ac}
variable {gd:Option (Nat×Bool)}{rg:List Nat}{d:Nat}{ty:TypeId}{pos:String}{aft:Array Edge}{x y z:Operand}{T U E0:TypeId}
variable {α:Type}{l l' k:List α}{e:α→List SV}{n by_ N:Nat}{zv:Value}
theorem RT.bZ(hg:Gd ops S gd rg){f:FuncId}[cZ P f]{g:Operand}{xs:Array Operand}{at_:Array TypeId}{args:List SV}{r:SV}(hp:dK P f N args r)(hN:N≤C.w0.heap.size)(hf:S.ev g=.sv (.v (.func (.func f) #[] #[])))(hargs:kf S xs.toList args)(hd:d<S.n)
  (next:RunT P C ops nd K rest (⟨rg++(bp g++xs.toList.flatMap bp),[],[],⟨some (d,.sv r),[],[]⟩⟩::acc) (S.set d (.sv r))):RunT P C ops nd K (⟨some d,.call ⟨.value g,xs,at_⟩,ty,pos,aft,gd⟩::rest) acc S:=by
 refine .inl ⟨_,[],[],_,?_,next⟩
 rintro S' hn ht _ _ i a w L Q ho ⟨E,h⟩ hL
 refine dy (C:=C) ho (hg.wanted h (λs hs=>ht s (List.mem_append_left _ hs)) Y) ?_
 have AM:a.eval g=.func (.func f) #[] #[]:=by
  have h1:=h.ev g;rw[bQ (λ_ h=>List.mem_append_right _ (List.mem_append_left _ h)) ht,hf]at h1;exact h1
 have hall:=kf.vals h hargs (λs hs=>ht s (List.mem_append_right _ (List.mem_append_right _ hs)))
 have hr:(execOp a.eval ⟨some d,.call ⟨.value g,xs,at_⟩,ty,pos,aft,gd⟩).run P w=.ok (.enter f ⟨xs.toList.map a.eval⟩) w:=by
  have e2:xs.map a.eval=⟨xs.toList.map a.eval⟩:=by apply Array.ext';simp
  have e1:=cZ.run (P:=P) (f:=f) (xs.map a.eval) w
  rw[←e2]
  simp[execOp,resolve,AM,Deferred.ofValue,invoke,e1]
 refine dm (C:=C) (by intro c h;cases h) hr ?_
 refine⟨λh=>by simp at h,kp ((hp E.M w _ (Nat.le_trans hN h.grown) h.ep hall).mono ?_)⟩
 rintro e w' ⟨v,M',rfl,hM,hnew,hin,hv,hb⟩
 exact hL _ _ ⟨_,(h.grow hM hnew hin hb).put (x:=.sv r) hv (by show d<S'.n;omega) iz⟩
theorem RT.Lf(hg:Gd ops S gd rg){m:Nat}[tS:gU P T E0 m]{c:Int}(hx:S.ev x=.sv (nw N (slc n (l.map e))))(hd:d<S.n)(hc:(l.length:Int)=c)
  (next:RunT P C ops nd K rest (⟨rg++bp x,[],[],⟨some (d,.sv (.v (.int .i64 c))),[],[]⟩⟩::acc) (S.set d (.sv (.v (.int .i64 c))))):RunT P C ops nd K (⟨some d,.call ⟨.builtin .len,#[x],#[T]⟩,ty,pos,aft,gd⟩::rest) acc S:=
 RT.len hg hx hd (by rw[List.length_map,hc];exact next)
theorem RT.aiN(hg:Gd ops S gd rg)[tS:gU P T E0 n]{kk:IntKind}{i:Int}{a:α}(hx:S.ev x=.sv (nw N (slc n (l.map e))))(hy:S.ev y=.sv (.v (.int kk i)))(hd:d<S.n)(ha:cL l i=some a)
  (next:RunT P C ops nd K rest (⟨rg++(bp x++bp y),[],[],⟨some (d,.sv (ref (e a))),[],[]⟩⟩::acc) (S.set d (.sv (ref (e a))))):RunT P C ops nd K (⟨some d,.indexAddr T x y,ty,pos,aft,gd⟩::rest) acc S:=
 RT.indexAddr hg (e a) hx hy hd (yC ha).1 (by rw[List.getElem?_map,(yC ha).2];rfl) next
theorem RT.aam(hg:Gd ops S gd rg)[tS:gU P T E0 n]{lo hi:Option Operand}(a b:Int)(hx:S.ev x=.sv (nw N (slc n (l.map e))))(hlo:HV S 0 lo a)(hhi:HV S l.length hi b)(hd:d<S.n)(h:GD l a b=some l')
  (next:RunT P C ops nd K rest (⟨rg++(bp x++(uZ lo++uZ hi)),[],[],⟨some (d,.sv (nw N (slc n (l'.map e)))),[],[]⟩⟩::acc) (S.set d (.sv (nw N (slc n (l'.map e)))))):RunT P C ops nd K (⟨some d,.slice T x lo hi none,ty,pos,aft,gd⟩::rest) acc S:=by
 obtain⟨h0,h1,h2,h3⟩:=KZ h
 exact RT.slice hg hx a b hlo (by rw[List.length_map];exact hhi) hd h0 h1 (by rw[List.length_map];exact h2) _ (by rw[SN,h3]) next
theorem RT.aiO(hg:Gd ops S gd rg)[tS:gU P T E0 n][tE:nS P E0 n by_ zv][el:EL e n][he:Mo N e]{i:Nat}(hN:N≤C.w0.heap.size)(hb:∀k,¬C.BO k)(hx:S.ev x=.row i)(hR:S.r i=.live (TR E0 n e l))(hy:S.ev y=.sv (slc n (k.map e)))(hd:d<S.n)(uF:S.r d=.un)(Cr:d<1000)(h:nC by_ l k=some l')
  (next:RunT P C ops nd K rest (⟨rg++(bp x++bp y),[],[d,i],⟨some (d,.sv (nw N (slc n (l'.map e)))),[],[(i,.dead),(d,.dead)]⟩⟩::acc) ((AS.cO [(i,.dead),(d,.dead)] S).set d (.sv (nw N (slc n (l'.map e)))))):RunT P C ops nd K (⟨some d,.call ⟨.builtin .append,#[x,y],#[T,T]⟩,ty,pos,aft,gd⟩::rest) acc S:=by
 obtain⟨h1,h2,rfl⟩:=AQ h
 have hf:l.flatMap e++(k.map e).flatten=(l++k).flatMap e:=by simp[yE]
 exact RT.Mf hg (.row hx hR) hy hd uF Cr (by simpa using h1) (by simpa using h2) _ (rows':=(l++k).map e) (λ_ _ hv hg=>Mp hv (λg e=>⟨(hg g e).1.elim (λq=>Nat.le_trans hN q) (λq=>absurd q (hb g)),(hg g e).2⟩)) (by rw[hf];exact wm _) (by simp) (by rw[hf];exact qt _) next
theorem RT.DI(hg:Gd ops S gd rg)[tS:gU P T E0 n][tE:nS P E0 n by_ zv][he:Mo N e](hN:N≤C.w0.heap.size){len:Nat}{parts:Array (Nat×Operand)}{qs:List (Nat×List SV)}(hp:uY S parts.toList qs)(hd:d<S.n)
  (hc:yd 0 qs=true) (hl:qs.length=len) (hsz:(qs.all λq=>Nat.beq q.2.length n)=true) (hlen:Nat.ble (len*n) 16777216=true) (Uf:(zv.cells.toList.all λv=>v.oneCell')=true) (nT:qs.map (·.2)=l.map e)
  (next:RunT P C ops nd K rest (⟨rg++qV parts.toList,[],[],⟨some (d,.sv (nw N (slc n (l.map e)))),[],[]⟩⟩::acc) (S.set d (.sv (nw N (slc n (l.map e)))))):RunT P C ops nd K (⟨some d,.buildSlice T len parts,ty,pos,aft,gd⟩::rest) acc S:=by
 refine .inl ⟨_,[],[],_,?_,next⟩
 rintro S' hn ht _ _ i a w L Q ho ⟨E,h⟩ hL
 refine dy (C:=C) ho (hg.wanted h (λs hs=>ht s (List.mem_append_left _ hs)) Y) ?_
 obtain⟨vs,hr,hall,hone⟩:=we (P:=P) (T:=T) (E0:=E0) (n:=n) (by_:=by_) (zv:=zv) (d:=d) (ty:=ty) (pos:=pos) (aft:=aft) (gd:=gd) h hp (λs hs=>ht s (List.mem_append_right _ hs)) hc hl hsz (ae hlen) (List.all_eq_true.1 Uf)
 refine dm (C:=C) (by intro c h;cases h) hr (hL _ _ ⟨_,(h.aak vs E0 hone).put (d:=d) (x:=.sv (nw N (slc n (l.map e)))) (v:=.slice (some ⟨w.heap.size,0,none⟩) len len) ?_ (by show d<S'.n;omega) iz⟩)
 have hrw:Rows n (qs.map (·.2)) (qs.map (·.2)).flatten:=⟨Y,λr hr=>by
  obtain⟨q,hq,rfl⟩:=List.mem_map.1 hr
  exact Nat.eq_of_beq_eq_true (List.all_eq_true.1 hsz q hq)⟩
 have VP:=tE.p
 have hlb:len≤16777216:=Nat.le_trans (Nat.le_mul_of_pos_right _ VP) (ae hlen)
 refine Mp ?_ (λg e=>by cases e;exact⟨Nat.le_trans hN h.grown,vs.length,by simp⟩)
 rw[←nT]
 refine .inr ⟨w.heap.size,0,len,by rw[List.length_map,hl],by rw[List.length_map,hl];exact Nat.le_refl _,by rw[List.length_map,hl];omega,λk row hk=>?_⟩
 obtain⟨q1,q2⟩:=yB hrw k row hk
 refine⟨q1,λj s hs=>?_⟩
 obtain⟨y,hy,hys⟩:=hall.get (q2 j s hs)
 refine⟨y,by show(if w.heap.size=w.heap.size then(vs++[Value.agg #[]])[0+k*n+j]? else _)=_;rw[if_pos Y,Nat.zero_add,List.getElem?_append_left (List.getElem?_eq_some_iff.1 hy).1];exact hy,hone y (List.mem_of_getElem? hy),s.mono (λb o v e=>?_) hys⟩
 have:b≠w.heap.size:=by rintro rfl;have:=uJ h.ep e;omega
 simp[this,e]
end
end
section
open Go.RowKit
abbrev fS(N n:Nat){α:Type}(e:α→List SV)(x:List α):List SV:=[nw N (slc n (x.map e))]
instance{N n:Nat}{α:Type}{e:α→List SV}:EL (fS N n e) 1:=⟨λ_=>rfl,λ_=>inferInstance⟩
instance{N n:Nat}{α:Type}{e:α→List SV}:Mo N (fS N n e):=⟨λ_=>inferInstance⟩
theorem eT{P:Program}{f:FuncId}{args:List SV}{r:Nat→SV}{s:SV}(hp:∀N,dK P f N args (r N))(hi:∀N,SV.imp (r N) s):Pure P f args s:=λM w vs hM hv=>(hp w.heap.size M w vs (Nat.le_refl _) hM hv).mono (λ_ _ ⟨v,M',h1,h2,h3,h4,h5,h6⟩=>⟨v,M',h1,h2,h3,h4,hi _ _ _ h5,h6⟩)
theorem aiP{N:Nat}{l:List (List Qr)}:SV.imp (nw N (slc 1 (l.map (fS N 4 (fQ N))))) (slc 1 (l.map (eS 4 eQ))):=λM v h=>SY (e':=fS N 4 (fQ N)) (e:=eS 4 eQ) (λ_=>⟨Ul,ak⟩) l M v (fN M v h)
section steps
variable {P:Program}{C:Ctx}{ops:Array Oper}{S:AS}{nd:Bool}{K:List Ac→AS→Prop}{rest:List Oper}{acc:List Ac}{N:Nat}
variable {gd:Option (Nat×Bool)}{rg:List Nat}{d:Nat}{ty:TypeId}{pos:String}{aft:Array Edge}{x y z:Operand}{T U E0:TypeId}
theorem RT.aeS(hg:Gd ops S gd rg){f:FuncId}[cZ P f]{g:Operand}{xs:Array Operand}{at_:Array TypeId}{args caps:List SV}{r:SV}(hp:dK P f N (args++caps) r)(hN:N≤C.w0.heap.size)(hf:S.ev g=.sv (o5 f caps))(hargs:kf S xs.toList args)(hd:d<S.n)
  (next:RunT P C ops nd K rest (⟨rg++(bp g++xs.toList.flatMap bp),[],[],⟨some (d,.sv r),[],[]⟩⟩::acc) (S.set d (.sv r))):RunT P C ops nd K (⟨some d,.call ⟨.value g,xs,at_⟩,ty,pos,aft,gd⟩::rest) acc S:=by
 refine .inl ⟨_,[],[],_,?_,next⟩
 rintro S' hn ht _ _ i a w L Q ho ⟨E,h⟩ hL
 refine dy (C:=C) ho (hg.wanted h (λs hs=>ht s (List.mem_append_left _ hs)) Y) ?_
 have AM:(o5 f caps).h E.M (a.eval g):=by
  have h1:=h.ev g;rw[bQ (λ_ h=>List.mem_append_right _ (List.mem_append_left _ h)) ht,hf]at h1;exact h1
 obtain⟨xB,AM,J0⟩:=AM
 have hall:=SV.gw.append (kf.vals h hargs (λs hs=>ht s (List.mem_append_right _ (List.mem_append_right _ hs)))) J0
 have hr:(execOp a.eval ⟨some d,.call ⟨.value g,xs,at_⟩,ty,pos,aft,gd⟩).run P w=.ok (.enter f ⟨xs.toList.map a.eval++xB⟩) w:=by
  have e2:xs.map a.eval++⟨xB⟩=⟨xs.toList.map a.eval++xB⟩:=by apply Array.ext';simp
  have e1:=cZ.run (P:=P) (f:=f) (xs.map a.eval++⟨xB⟩) w
  rw[←e2]
  simp[execOp,resolve,AM,Deferred.ofValue,invoke,e1]
 refine dm (C:=C) (by intro c h;cases h) hr ?_
 refine⟨λh=>by simp at h,kp ((hp E.M w _ (Nat.le_trans hN h.grown) h.ep hall).mono ?_)⟩
 rintro e w' ⟨v,M',rfl,hM,hnew,hin,hv,hb⟩
 exact hL _ _ ⟨_,(h.grow hM hnew hin hb).put (x:=.sv r) hv (by show d<S'.n;omega) iz⟩
end steps
end
end Go.Fw
namespace Go.Proofs.YtningmnklfpfjaaGreat
section
open Go.Fw
noncomputable def gH(x0:List Nat):Option (List Nat):=nC 4 [] x0
noncomputable def cK(x0:Nat)(c0:Nat):Option (Nat×Nat):=(some ((x0+c0)%18446744073709551616)).bind λx6=>(some (x6/2^32)).bind λx8=>(some (x6%4294967296)).bind λdI=>some (dI,x8)
noncomputable def bP(x0:List Nat):Option (List Nat):=(bX (λ(GF:(List Nat))=>(show Option (((List Nat))⊕((List Nat)))from cE (λ(Ig:Bool)=>(bif Ig then(some (GF.length:Int)).bind λdX=>(some (IntKind.i64.wrap (dX-1))).bind λeX=>(GD GF 0 eX).bind λjl=>some (.inl jl)else some (.inr GF))) λGG=>(some (GF.length:Int)).bind λx4=>(some (decide ((0:Int)<x4))).bind λx5=>(bif x5 then(some (GF.length:Int)).bind λx9=>(some (IntKind.i64.wrap (x9-1))).bind λdI=>(cL GF dI).bind λfz=>(some (decide ((fz:Nat)=0))).bind λeD=>some eD else some false).bind λFh=>GG Fh)) x0).bind λIh=>some Ih
noncomputable def dr(x0:Bool)(x1:List Nat):Option (Zr):=(bP x1).bind λx6=>(some (x6.length:Int)).bind λx8=>(some (decide ((x8:Int)=0))).bind λx9=>(bif x9 then some ⟨false,[]⟩else some ⟨x0,x6⟩)
noncomputable def ig(x0:Bool)(x1:Nat):Option (Zr):=(some (decide ((x1:Nat)=0))).bind λx7=>(bif x7 then some ⟨false,[]⟩else(some (x1/2^32)).bind λfz=>(some (decide ((fz:Nat)=0))).bind λc9=>(bif c9 then(some (x1%4294967296)).bind λdH=>some ⟨x0,[dH]⟩else(some (x1%4294967296)).bind λij=>(some (x1/2^32)).bind λiA=>(some (iA%4294967296)).bind λjg=>some ⟨x0,[ij,jg]⟩))
noncomputable def fI(x0:List Nat):Option (Nat):=(some (x0.length:Int)).bind λx4=>(some (decide ((x4:Int)=0))).bind λx6=>(bif x6 then some 0 else(some (decide ((x4:Int)=1))).bind λx8=>(bif x8 then(cL x0 0).bind λdI=>(some (dI%18446744073709551616)).bind λc9=>some c9 else(cL x0 0).bind λei=>(some (ei%18446744073709551616)).bind λfB=>(cL x0 1).bind λeX=>(some (eX%18446744073709551616)).bind λij=>(some (ij*2^32%18446744073709551616)).bind λfL=>(some ((fB ||| fL)%18446744073709551616)).bind λiA=>some iA))
noncomputable def dU(x0:List Nat)(x1:List Nat):Option (Int):=(some (x0.length:Int)).bind λx7=>(some (x1.length:Int)).bind λx9=>(some (decide ((x7:Int)≠x9))).bind λdI=>(bif dI then(some (x0.length:Int)).bind λc9=>(some (x1.length:Int)).bind λei=>(some (decide ((c9:Int)<ei))).bind λdH=>(bif dH then some (-1)else some 1)else(some (x0.length:Int)).bind λdX=>(some (IntKind.i64.wrap (dX-1))).bind λeX=>(bX (λ(iD:Int)=>(show Option ((Int)⊕((Unit)⊕(Int)))from(some (decide ((0:Int)≤iD))).bind λij=>(bif ij then(cL x0 iD).bind λjG=>(cL x1 iD).bind λgI=>(some (decide ((jG:Nat)≠gI))).bind λnU=>(bif nU then(cL x0 iD).bind λsX=>(cL x1 iD).bind λqX=>(some (decide ((sX:Nat)<qX))).bind λnj=>(bif nj then some (.inr (.inr (-1)))else some (.inr (.inr 1)))else(some (IntKind.i64.wrap (iD-1))).bind λiA=>some (.inl iA))else some (.inr (.inl ()))))) eX).bind λe6=>match e6 with|.inr v6=>some v6|.inl _=>some 0)
noncomputable def gW(x0:List Nat)(x1:List Nat):Option (List Nat):=(some (x0.length:Int)).bind λdI=>(some (x1.length:Int)).bind λc9=>(some (max (dI:Int) c9)).bind λeD=>(some (IntKind.i64.wrap (eD+1))).bind λei=>(VZ (α:=Nat) 4 ei).bind λdH=>(uM (λ(k:Nat) (s7:Nat×(List Nat))=>match s7 with|⟨DJ,nV⟩=>(show Option (Nat×(List Nat))from(some (x0.getD k 0%18446744073709551616)).bind λp20=>(some (x1.getD k 0%18446744073709551616)).bind λp21=>(some ((p20+p21)%18446744073709551616)).bind λjH=>(cK jH DJ).bind λ⟨iO,k9⟩=>(nC 4 nV [iO]).bind λgI=>some (k9,gI))) (max x0.length x1.length) (0,dH)).bind λe7=>match e7 with|⟨DJ,nV⟩=>(cK 0 DJ).bind λ⟨iP,k11⟩=>(nC 4 nV [iP]).bind λsX=>some sX
noncomputable def eJ(x0:List Nat)(x1:List Nat):Option (List Nat):=(some (x0.length:Int)).bind λdI=>(VZ (α:=Nat) 4 dI).bind λfz=>(uM (λ(k:Nat) (s7:Nat×(List Nat))=>match s7 with|⟨Hj,nV⟩=>(show Option (Nat×(List Nat))from(some (x0.getD k 0%18446744073709551616)).bind λp16=>(some (x1.getD k 0%18446744073709551616)).bind λp17=>(some (wj 18446744073709551616 4294967295 p17)).bind λiA=>(some ((p16+iA)%18446744073709551616)).bind λjg=>(cK jg Hj).bind λ⟨gX,k9⟩=>(nC 4 nV [gX]).bind λjH=>some (k9,jH))) (max x0.length x1.length) (1,fz)).bind λe7=>match e7 with|⟨Hj,nV⟩=>some nV
noncomputable def jI(x0:List Nat)(x1:List Nat):Option (List Nat):=(some (x0.length:Int)).bind λc9=>(some (x1.length:Int)).bind λei=>(some (IntKind.i64.wrap (c9+ei))).bind λdH=>(Hf 4 dH (0:Nat)).bind λfB=>(some (x0.length:Int)).bind λeX=>(bX (λ(Um:Int×(List Nat))=>match Um with|⟨wz,Mq⟩=>(show Option ((Int×(List Nat))⊕((List Nat)))from(some (decide ((wz:Int)<eX))).bind λij=>(bif ij then(cL x0 wz).bind λiA=>(some (x1.length:Int)).bind λjH=>(bX (λ(S0:Int×Nat×(List Nat))=>match S0 with|⟨Fi,DK,CW⟩=>(show Option ((Int×Nat×(List Nat))⊕(Nat×(List Nat)))from(some (decide ((Fi:Int)<jH))).bind λkT=>(bif kT then(cL x1 Fi).bind λoF=>(some (IntKind.i64.wrap (wz+Fi))).bind λku=>(some (IntKind.i64.wrap (wz+Fi))).bind λnj=>(kW CW nj).bind λyF=>(CW[yF]?).bind λnE=>(some (nE%18446744073709551616)).bind λvf=>(some (iA%18446744073709551616)).bind λzu=>(some (oF%18446744073709551616)).bind λsE=>(some ((zu*sE)%18446744073709551616)).bind λr9=>(some ((vf+r9)%18446744073709551616)).bind λJ1=>(cK J1 DK).bind λ⟨AB,k41⟩=>(kW CW ku).bind λBT=>(stM CW BT AB).bind λl42=>(some (IntKind.i64.wrap (Fi+1))).bind λAD=>some (.inl (AD,k41,l42))else some (.inr (DK,CW))))) (0,0,Mq)).bind λe38=>match e38 with|⟨OC,Q3⟩=>(some (x1.length:Int)).bind λJ2=>(some (IntKind.i64.wrap (wz+J2))).bind λN3=>(cK 0 OC).bind λ⟨Uo,k45⟩=>(kW Q3 N3).bind λDx=>(stM Q3 Dx Uo).bind λl46=>(some (IntKind.i64.wrap (wz+1))).bind λQ4=>some (.inl (Q4,l46))else some (.inr Mq)))) (0,fB)).bind λCX=>some CX
noncomputable def lM(x0:List Nat)(x1:Nat):Option (Nat×List Nat):=(some (x0.length:Int)).bind λx9=>(some (IntKind.i64.wrap (x9-1))).bind λdI=>(bX (λ(s8:Nat×Int×(List Nat))=>match s8 with|⟨Wf,OD,zD⟩=>(show Option ((Nat×Int×(List Nat))⊕(Nat×(List Nat)))from(some (decide ((0:Int)≤OD))).bind λc9=>(bif c9 then(some (Wf*2^32%18446744073709551616)).bind λfB=>(kW zD OD).bind λjl=>(zD[jl]?).bind λij=>(some (ij%18446744073709551616)).bind λfL=>(some ((fB ||| fL)%18446744073709551616)).bind λiA=>(Mg 18446744073709551616 iA x1).bind λiO=>(some (iO%4294967296)).bind λkT=>(kW zD OD).bind λgI=>(stM zD gI kT).bind λDL=>(Kg iA x1).bind λiP=>(some (IntKind.i64.wrap (OD-1))).bind λei=>some (.inl (iP,ei,DL))else some (.inr (Wf,zD))))) (0,dI,x0)).bind λe8=>match e8 with|⟨aiR,Hl⟩=>(Cw x0 Hl).bind λ_=>some (aiR,Hl)
noncomputable def iW(x0:List Nat)(x1:Nat):Option (List Nat):=(some (x0.length:Int)).bind λfz=>(some (IntKind.i64.wrap (fz+1))).bind λc9=>(VZ (α:=Nat) 4 c9).bind λeD=>(some (x0.length:Int)).bind λdH=>(bX (λ(s8:Int×Nat×(List Nat))=>match s8 with|⟨DM,zE,nV⟩=>(show Option ((Int×Nat×(List Nat))⊕(Nat×(List Nat)))from(some (decide ((DM:Int)<dH))).bind λdX=>(bif dX then(cL x0 DM).bind λeX=>(some (eX%18446744073709551616)).bind λjg=>(some (jg*2^(min x1 64)%18446744073709551616)).bind λjG=>(cK jG zE).bind λ⟨jH,k10⟩=>(nC 4 nV [jH]).bind λkT=>(some (IntKind.i64.wrap (DM+1))).bind λgI=>some (.inl (gI,k10,kT))else some (.inr (zE,nV))))) (0,0,eD)).bind λe8=>match e8 with|⟨Ii,Wg⟩=>(cK 0 Ii).bind λ⟨iP,k12⟩=>(nC 4 Wg [iP]).bind λsX=>some sX
noncomputable def mL(x0:List Nat)(x1:Nat):Option (List Nat):=(some (x0.length:Int)).bind λfz=>(some (IntKind.i64.wrap (fz+1))).bind λc9=>(VZ (α:=Nat) 4 c9).bind λeD=>(some (x0.length:Int)).bind λdH=>(bX (λ(s8:Int×Nat×(List Nat))=>match s8 with|⟨DM,zE,yf⟩=>(show Option ((Int×Nat×(List Nat))⊕(Nat×(List Nat)))from(some (decide ((DM:Int)<dH))).bind λdX=>(bif dX then(cL x0 DM).bind λeX=>(some (eX%18446744073709551616)).bind λjg=>(some (jg*2^(min x1 64)%18446744073709551616)).bind λjG=>(cK jG zE).bind λ⟨jH,k10⟩=>(nC 4 yf [jH]).bind λkT=>(some (IntKind.i64.wrap (DM+1))).bind λgI=>some (.inl (gI,k10,kT))else some (.inr (zE,yf))))) (0,0,eD)).bind λe8=>match e8 with|⟨Ii,yg⟩=>(cK 0 Ii).bind λ⟨iP,k12⟩=>(nC 4 yg [iP]).bind λsX=>some sX
noncomputable def kx(x0:Nat):Option (Int):=(some (decide ((65536:Nat)≤x0))).bind λx4=>cE (λ(j2:Nat×Int)=>match j2 with|⟨Q5,aan⟩=>(some (decide ((256:Nat)≤Q5))).bind λx8=>cE (λ(j4:Nat×Int)=>match j4 with|⟨aiS,aiT⟩=>(some (aiS%256)).bind λdH=>(Cv [0,1,2,2,3,3,3,3,4,4,4,4,4,4,4,4,5,5,5,5,5,5,5,5,5,5,5,5,5,5,5,5,6,6,6,6,6,6,6,6,6,6,6,6,6,6,6,6,6,6,6,6,6,6,6,6,6,6,6,6,6,6,6,6,7,7,7,7,7,7,7,7,7,7,7,7,7,7,7,7,7,7,7,7,7,7,7,7,7,7,7,7,7,7,7,7,7,7,7,7,7,7,7,7,7,7,7,7,7,7,7,7,7,7,7,7,7,7,7,7,7,7,7,7,7,7,7,7,8,8,8,8,8,8,8,8,8,8,8,8,8,8,8,8,8,8,8,8,8,8,8,8,8,8,8,8,8,8,8,8,8,8,8,8,8,8,8,8,8,8,8,8,8,8,8,8,8,8,8,8,8,8,8,8,8,8,8,8,8,8,8,8,8,8,8,8,8,8,8,8,8,8,8,8,8,8,8,8,8,8,8,8,8,8,8,8,8,8,8,8,8,8,8,8,8,8,8,8,8,8,8,8,8,8,8,8,8,8,8,8,8,8,8,8,8,8,8,8,8,8,8,8,8,8,8,8] ((dH:Nat):Int)).bind λfB=>(some (IntKind.i64.wrap (fB:Int))).bind λdX=>(some (IntKind.i64.wrap (aiT+dX))).bind λeX=>some eX) λK4=>(bif x8 then(some (Q5/2^8)).bind λdI=>(some (IntKind.i64.wrap (aan+8))).bind λc9=>K4 (dI,c9)else K4 (Q5,aan))) λK2=>(bif x4 then(some (x0/2^16)).bind λx6=>K2 (x6,16)else K2 (x0,0))
noncomputable def ff(x0:Nat):Option (Int):=(kx x0).bind λx4=>(some (IntKind.i64.wrap (32-x4))).bind λx5=>some x5
noncomputable def lO(x0:List Nat)(o0:Nat)(n0:Nat)(x1:List Nat):Option (Nat×List Nat):=(some (x1.length:Int)).bind λc9=>(ZB o0 n0 c9).bind λdH=>(x0[dH]?).bind λfB=>(some (fB%18446744073709551616)).bind λdX=>(some (dX*2^32%18446744073709551616)).bind λeX=>(some (IntKind.i64.wrap (c9-1))).bind λfL=>(ZB o0 n0 fL).bind λiA=>(x0[iA]?).bind λjg=>(some (jg%18446744073709551616)).bind λgX=>(some ((eX ||| gX)%18446744073709551616)).bind λjG=>(some (IntKind.i64.wrap (c9-1))).bind λkT=>(cL x1 kT).bind λgI=>(some (gI%18446744073709551616)).bind λnU=>(some (IntKind.i64.wrap (c9-2))).bind λsX=>(cL x1 sX).bind λku=>(some (ku%18446744073709551616)).bind λuG=>(Mg 18446744073709551616 jG nU).bind λnj=>(Kg jG nU).bind λvf=>(bX (λ(uH:Nat×Nat)=>match uH with|⟨Kj,Lg⟩=>(show Option ((Nat×Nat)⊕(Nat))from cE (λ(Q6:Bool)=>(bif Q6 then(some (wj 18446744073709551616 Kj 1)).bind λx63=>(some ((Lg+nU)%18446744073709551616)).bind λQ7=>(some (Q7/2^32)).bind λQ8=>(some (decide ((Q8:Nat)≠0))).bind λWh=>(bif Wh then some (.inr x63)else some (.inl (x63,Q7)))else some (.inr Kj))) λGG=>(some (Kj/2^32)).bind λzu=>(some (decide ((zu:Nat)≠0))).bind λvg=>(bif vg then some true else(some ((Kj*uG)%18446744073709551616)).bind λAB=>(some (Lg*2^32%18446744073709551616)).bind λAD=>(some (IntKind.i64.wrap (c9-2))).bind λAE=>(ZB o0 n0 AE).bind λJ2=>(x0[J2]?).bind λN3=>(some (N3%18446744073709551616)).bind λAx=>(some ((AD ||| Ax)%18446744073709551616)).bind λUo=>(some (decide ((Uo:Nat)<AB))).bind λDx=>some Dx).bind λWi=>GG Wi)) (nj,vf)).bind λUp=>(Cw x0 x0).bind λ_=>some (Up,x0)
noncomputable def eK(x0:List Nat)(o0:Nat)(n0:Nat)(x1:List Nat)(x2:Nat):Option (Bool×List Nat):=(some (n0:Int)).bind λei=>(bX (λ(Ad:Nat×Int×Nat×(List Nat))=>match Ad with|⟨Uq,DN,Mr,BU⟩=>(show Option ((Nat×Int×Nat×(List Nat))⊕(Nat×(List Nat)))from(some (decide ((DN:Int)<ei))).bind λfB=>(bif fB then(some (x1.length:Int)).bind λij=>(some (decide ((DN:Int)<ij))).bind λfL=>cE (λ(Wj:Nat)=>(ZB o0 n0 DN).bind λnU=>(BU[nU]?).bind λiP=>(some (iP%18446744073709551616)).bind λoD=>(cK Wj Mr).bind λ⟨pg,k16⟩=>(some (pg%18446744073709551616)).bind λuG=>(some (wj 18446744073709551616 oD uG)).bind λqX=>(some (wj 18446744073709551616 qX Uq)).bind λnj=>(some (nj%4294967296)).bind λsj=>(ZB o0 n0 DN).bind λzu=>(stM BU zu sj).bind λl18=>(some (nj/2^63)).bind λsE=>(some (IntKind.i64.wrap (DN+1))).bind λr9=>some (.inl (sE,r9,k16,l18))) λK14=>(bif fL then(cL x1 DN).bind λgX=>(some (gX%18446744073709551616)).bind λjH=>(some ((jH*x2)%18446744073709551616)).bind λkT=>K14 kT else K14 0)else some (.inr (Uq,BU))))) (0,0,0,x0)).bind λUr=>match Ur with|⟨Wk,DO⟩=>(some (decide ((Wk:Nat)≠0))).bind λAB=>(Cw x0 DO).bind λ_=>some (AB,DO)
noncomputable def m7(x0:List Nat)(x1:List Nat):Option ((List Nat)×(List Nat)):=(some (x1.length:Int)).bind λdX=>(some (IntKind.i64.wrap (dX-1))).bind λij=>(cL x1 ij).bind λfL=>(ff fL).bind λjg=>(some ((jg%18446744073709551616).toNat)).bind λgX=>(mL x0 gX).bind λiO=>(iW x1 gX).bind λoF=>(GD oF 0 dX).bind λiP=>(some (x0.length:Int)).bind λsX=>(some (IntKind.i64.wrap (sX-dX))).bind λpg=>(some (IntKind.i64.wrap (pg+1))).bind λuG=>(Hf 4 uG (0:Nat)).bind λqX=>(some (x0.length:Int)).bind λnj=>(some (IntKind.i64.wrap (nj-dX))).bind λnE=>(bX (λ(s36:Int×(List Nat)×(List Nat))=>match s36 with|⟨nW,AU,CY⟩=>(show Option ((Int×(List Nat)×(List Nat))⊕((List Nat)×(List Nat)))from(some (decide ((0:Int)≤nW))).bind λsj=>(bif sj then(some (IntKind.i64.wrap (nW+dX))).bind λBT=>(some (IntKind.i64.wrap (BT+1))).bind λAD=>(ckS CY nW AD).bind λ⟨o53,n53⟩=>(lO CY o53 n53 iP).bind λ⟨AE,l38⟩=>(Cw CY l38).bind λ_=>(some (IntKind.i64.wrap (nW+dX))).bind λDx=>(some (IntKind.i64.wrap (Dx+1))).bind λQ4=>(ckS l38 nW Q4).bind λ⟨o62,n62⟩=>(eK l38 o62 n62 iP AE).bind λ⟨N4,ZC⟩=>(Cw l38 ZC).bind λ_=>cE (λ(j53:Nat×(List Nat))=>match j53 with|⟨Wm,Q9⟩=>(some (Wm%4294967296)).bind λAW=>(kW AU nW).bind λaiU=>(stM AU aiU AW).bind λl55=>(some (IntKind.i64.wrap (nW-1))).bind λvg=>some (.inl (vg,l55,Q9))) λK53=>(bif N4 then(some (wj 18446744073709551616 AE 1)).bind λx67=>(some (iP.length:Int)).bind λJ3=>(bX (λ(s65:Int×Nat×(List Nat))=>match s65 with|⟨Fj,DP,CZ⟩=>(show Option ((Int×Nat×(List Nat))⊕(Nat×(List Nat)))from(some (decide ((Fj:Int)<J3))).bind λUs=>(bif Us then(cL iP Fj).bind λx74=>(some (IntKind.i64.wrap (nW+Fj))).bind λF7=>(some (IntKind.i64.wrap (nW+Fj))).bind λJ4=>(kW CZ J4).bind λx85=>(CZ[x85]?).bind λRa=>(some (Ra%18446744073709551616)).bind λIj=>(some (x74%18446744073709551616)).bind λx89=>(some ((Ij+x89)%18446744073709551616)).bind λVr=>(cK Vr DP).bind λ⟨x91,k68⟩=>(kW CZ F7).bind λx92=>(stM CZ x92 x91).bind λl69=>(some (IntKind.i64.wrap (Fj+1))).bind λOE=>some (.inl (OE,k68,l69))else some (.inr (DP,CZ))))) (0,0,ZC)).bind λe65=>match e65 with|⟨OF,Ik⟩=>(some (IntKind.i64.wrap (nW+dX))).bind λx97=>(some (IntKind.i64.wrap (nW+dX))).bind λKk=>(kW Ik Kk).bind λKl=>(Ik[Kl]?).bind λKm=>(some (Km%18446744073709551616)).bind λUt=>(cK Ut OF).bind λ⟨aeY,k72⟩=>(kW Ik x97).bind λaiW=>(stM Ik aiW aeY).bind λl73=>K53 (x67,l73)else K53 (AE,ZC))else some (.inr (AU,CY))))) (nE,qX,iO)).bind λe36=>match e36 with|⟨Il,Fk⟩=>(Hf 4 dX (0:Nat)).bind λRb=>(bX (λ(s81:Int×(List Nat))=>match s81 with|⟨BV,DQ⟩=>(show Option ((Int×(List Nat))⊕((List Nat)))from(some (decide ((BV:Int)<dX))).bind λDR=>(bif DR then(kW Fk BV).bind λaiX=>(Fk[aiX]?).bind λaiY=>(some (aiY%18446744073709551616)).bind λAX=>(some (IntKind.i64.wrap (BV+1))).bind λaiZ=>(kW Fk aiZ).bind λai0=>(Fk[ai0]?).bind λai1=>(some (ai1%18446744073709551616)).bind λaeZ=>(some (aeZ*2^32%18446744073709551616)).bind λae0=>(some ((AX ||| ae0)%18446744073709551616)).bind λae1=>(some (ae1/2^(min gX 64))).bind λai2=>(some (ai2%4294967296)).bind λae2=>(kW DQ BV).bind λai3=>(stM DQ ai3 ae2).bind λl83=>(some (IntKind.i64.wrap (BV+1))).bind λae3=>some (.inl (ae3,l83))else some (.inr DQ)))) (0,Rb)).bind λzG=>some (Il,zG)
noncomputable def jJ(x0:List Nat)(x1:List Nat):Option ((List Nat)×(List Nat)):=(dU x0 x1).bind λc9=>(some (decide ((c9:Int)<0))).bind λeD=>(bif eD then(gH x0).bind λdH=>some ([],dH)else(some (x0.length:Int)).bind λeX=>(some (decide ((eX:Int)≤2))).bind λjl=>(bif jl then(fI x0).bind λfL=>(fI x1).bind λjg=>(Mg 18446744073709551616 fL jg).bind λjH=>(ig false jH).bind λ⟨S3,OG⟩=>(Kg fL jg).bind λnU=>(ig false nU).bind λ⟨yG,xC⟩=>some (OG,xC)else(some (x1.length:Int)).bind λpg=>(some (decide ((pg:Int)=1))).bind λuG=>(bif uG then(gH x0).bind λvY=>(cL x1 0).bind λnE=>(some (nE%18446744073709551616)).bind λsj=>(lM vY sj).bind λ⟨zu,l5⟩=>(Cw vY l5).bind λ_=>(some (zu%4294967296)).bind λr9=>some (l5,[r9])else(m7 x0 x1).bind λ⟨ai4,ai5⟩=>some (ai4,ai5))))
noncomputable def cW(x0:Int):Option (Zr):=(some ((x0%18446744073709551616).toNat)).bind λx5=>(some (decide ((x0:Int)<0))).bind λx7=>cE (λ(OH:Nat)=>(some (decide ((x0:Int)<0))).bind λfz=>(ig fz OH).bind λ⟨AY,AZ⟩=>some ⟨AY,AZ⟩) λK2=>(bif x7 then(some (wj 18446744073709551616 0 x5)).bind λx9=>K2 x9 else K2 x5)
noncomputable def fj(x0:Zr):Option (Int×Bool):=match x0 with|⟨bk,bn⟩=>(bP bn).bind λx8=>(some (x8.length:Int)).bind λdI=>(some (decide ((2:Int)<dI))).bind λfz=>(bif fz then some (0,false)else(fI x8).bind λeD=>(bif bk then(some (decide ((9223372036854775808:Nat)<eD))).bind λdX=>(bif dX then some (0,false)else(some (wj 18446744073709551616 0 eD)).bind λjl=>(some (IntKind.i64.wrap (jl:Int))).bind λij=>some (ij,true))else(some (decide ((9223372036854775808:Nat)≤eD))).bind λiA=>(bif iA then some (0,false)else(some (IntKind.i64.wrap (eD:Int))).bind λgX=>some (gX,true))))
noncomputable def eY(x0:Bool)(x1:List Nat)(x2:Bool)(x3:List Nat):Option (Zr):=(some (x0==x2)).bind λfz=>(bif fz then(gW x1 x3).bind λdH=>(dr x0 dH).bind λ⟨qu,qw⟩=>some ⟨qu,qw⟩else(dU x1 x3).bind λjl=>(some (decide ((jl:Int)<0))).bind λij=>(bif ij then(eJ x3 x1).bind λgX=>(dr x2 gX).bind λ⟨nF,m8⟩=>some ⟨nF,m8⟩else(eJ x1 x3).bind λgI=>(dr x0 gI).bind λ⟨sn,sq⟩=>some ⟨sn,sq⟩))
noncomputable def tL(x0:Zr)(x1:Zr):Option (Zr):=match x0 with|⟨bk,bn⟩=>match x1 with|⟨cu,cm⟩=>(fj ⟨bk,bn⟩).bind λ⟨A0,DS⟩=>(fj ⟨cu,cm⟩).bind λ⟨Ms,Rc⟩=>cE (λ(qY:Bool)=>cE (λ(j5:Unit)=>(bP bn).bind λyF=>(bP cm).bind λvg=>(eY bk yF cu vg).bind λ⟨F8,F9⟩=>some ⟨F8,F9⟩) λK5=>(bif qY then(some (IntKind.i64.wrap (A0+Ms))).bind λjH=>(some (IntKind.i64.wrap ((BitVec.ofInt 64 A0 ^^^ BitVec.ofInt 64 jH).toNat))).bind λgI=>(some (IntKind.i64.wrap ((BitVec.ofInt 64 Ms ^^^ BitVec.ofInt 64 jH).toNat))).bind λiP=>(some (IntKind.i64.wrap ((BitVec.ofInt 64 gI &&& BitVec.ofInt 64 iP).toNat))).bind λoD=>(some (decide ((0:Int)≤oD))).bind λsX=>(bif sX then(cW jH).bind λ⟨Ga,Gb⟩=>some ⟨Ga,Gb⟩else K5 ())else K5 ())) λK3=>(bif DS then some Rc else some false).bind λOI=>K3 OI
noncomputable def tN(x0:Zr)(x1:Zr):Option (Zr):=match x0 with|⟨bk,bn⟩=>match x1 with|⟨cu,cm⟩=>(fj ⟨bk,bn⟩).bind λ⟨A0,DS⟩=>(fj ⟨cu,cm⟩).bind λ⟨Ms,Rc⟩=>cE (λ(qY:Bool)=>cE (λ(j5:Unit)=>(bP bn).bind λyF=>(some (!cu)).bind λsj=>(bP cm).bind λsE=>(eY bk yF sj sE).bind λ⟨acm,acn⟩=>some ⟨acm,acn⟩) λK5=>(bif qY then(some (IntKind.i64.wrap (A0-Ms))).bind λjH=>(some (IntKind.i64.wrap ((BitVec.ofInt 64 A0 ^^^ BitVec.ofInt 64 Ms).toNat))).bind λgI=>(some (IntKind.i64.wrap ((BitVec.ofInt 64 A0 ^^^ BitVec.ofInt 64 jH).toNat))).bind λiP=>(some (IntKind.i64.wrap ((BitVec.ofInt 64 gI &&& BitVec.ofInt 64 iP).toNat))).bind λoD=>(some (decide ((0:Int)≤oD))).bind λsX=>(bif sX then(cW jH).bind λ⟨Ga,Gb⟩=>some ⟨Ga,Gb⟩else K5 ())else K5 ())) λK3=>(bif DS then some Rc else some false).bind λOI=>K3 OI
noncomputable def dV(x0:Zr)(x1:Zr):Option (Zr):=match x0 with|⟨bk,bn⟩=>match x1 with|⟨cu,cm⟩=>(bP bn).bind λx9=>(bP cm).bind λc9=>cE (λ(Wn:Bool)=>(bif Wn then(some (!(bk==cu))).bind λjG=>(fI x9).bind λiO=>(fI c9).bind λgI=>(some ((iO*gI)%18446744073709551616)).bind λoF=>(ig jG oF).bind λ⟨OJ,OK⟩=>some ⟨OJ,OK⟩else(some (!(bk==cu))).bind λpg=>(jI x9 c9).bind λvY=>(dr pg vY).bind λ⟨vh,vi⟩=>some ⟨vh,vi⟩)) λK3=>(some (x9.length:Int)).bind λei=>(some (decide ((ei:Int)≤1))).bind λdH=>(bif dH then(some (c9.length:Int)).bind λeX=>(some (decide ((eX:Int)≤1))).bind λjl=>some jl else some false).bind λaco=>K3 aco
noncomputable def jw(x0:Zr):Option (Zr):=match x0 with|⟨bk,bn⟩=>(some (!bk)).bind λx5=>(bP bn).bind λx8=>(gH x8).bind λx9=>(dr x5 x9).bind λ⟨A3,A4⟩=>some ⟨A3,A4⟩
noncomputable def dY(x0:Zr):Option (Int):=match x0 with|⟨bk,bn⟩=>(bP bn).bind λx6=>(some (x6.length:Int)).bind λx7=>(some (decide ((x7:Int)=0))).bind λx8=>(bif x8 then some 0 else(bif bk then some (-1)else some 1))
noncomputable def tQ(x0:Zr)(x1:Zr):Option (Int):=match x0 with|⟨bk,bn⟩=>match x1 with|⟨cu,cm⟩=>(dY ⟨bk,bn⟩).bind λx8=>(dY ⟨cu,cm⟩).bind λdI=>(some (decide ((x8:Int)<dI))).bind λei=>(bif ei then some (-1)else(some (decide ((dI:Int)<x8))).bind λeX=>(bif eX then some 1 else(some (decide ((x8:Int)<0))).bind λfL=>(bif fL then(bP cm).bind λgX=>(bP bn).bind λiO=>(dU gX iO).bind λkT=>some kT else(bP bn).bind λnU=>(bP cm).bind λsX=>(dU nU sX).bind λku=>some ku)))
noncomputable def iE(x0:Zr)(x1:Zr):Option (Zr×Zr×Int):=match x0 with|⟨bk,bn⟩=>match x1 with|⟨cu,cm⟩=>(bP bn).bind λeD=>(bP cm).bind λfB=>(some (fB.length:Int)).bind λeX=>(some (decide ((eX:Int)=0))).bind λjl=>(bif jl then some (⟨false,[]⟩,⟨false,[]⟩,7)else(jJ eD fB).bind λ⟨Im,Mt⟩=>(bP Mt).bind λgI=>cE (λ(j3:Bool×Bool)=>match j3 with|⟨Wo,C0⟩=>cE (λ(j5:(List Nat)×(List Nat))=>match j5 with|⟨Wp,OL⟩=>(some (!(C0==cu))).bind λsE=>(dr sE Wp).bind λ⟨OM,ON⟩=>(dr false OL).bind λ⟨Lh,Li⟩=>some (⟨OM,ON⟩,⟨Lh,Li⟩,0)) λK5=>(bif Wo then(gW Im [1]).bind λvY=>(eJ fB gI).bind λnE=>K5 (vY,nE)else K5 (Im,gI))) λK3=>(bif bk then(some (gI.length:Int)).bind λsX=>(some (decide ((0:Int)<sX))).bind λku=>some ku else some false).bind λacp=>K3 (acp,bk))
noncomputable def qx(x0:Zr)(x1:Zr):Option (Zr):=match x0 with|⟨bk,bn⟩=>match x1 with|⟨cu,cm⟩=>(bP bn).bind λeD=>(bP cm).bind λfB=>(bX (λ(Ad:(List Nat)×(List Nat))=>match Ad with|⟨GH,sF⟩=>(show Option (((List Nat)×(List Nat))⊕((List Nat)×(List Nat)))from cE (λ(Rd:Bool)=>(bif Rd then(jJ GH sF).bind λ⟨amT,ai6⟩=>(bP ai6).bind λqX=>some (.inl (sF,qX))else some (.inr (GH,sF)))) λK16=>(some (sF.length:Int)).bind λeX=>(some (decide ((0:Int)<eX))).bind λjl=>(bif jl then(some (GH.length:Int)).bind λiA=>(some (decide ((2:Int)<iA))).bind λjg=>(bif jg then some true else(some (sF.length:Int)).bind λjH=>(some (decide ((2:Int)<jH))).bind λiO=>some iO).bind λWq=>some Wq else some false).bind λWr=>K16 Wr)) (eD,fB)).bind λUr=>match Ur with|⟨Ws,Wt⟩=>(some (Wt.length:Int)).bind λnj=>(some (decide ((nj:Int)=0))).bind λyF=>(bif yF then(gH Ws).bind λvf=>(dr false vf).bind λ⟨Gc,Ge⟩=>some ⟨Gc,Ge⟩else(fI Ws).bind λvg=>(fI Wt).bind λr9=>(bX (λ(s24:Nat×Nat)=>match s24 with|⟨S4,Fl⟩=>(show Option ((Nat×Nat)⊕(Nat))from(some (decide ((0:Nat)<Fl))).bind λAB=>(bif AB then(Kg S4 Fl).bind λCg=>some (.inl (Fl,Cg))else some (.inr S4)))) (vg,r9)).bind λLj=>(ig false Lj).bind λ⟨lP,lQ⟩=>some ⟨lP,lQ⟩)
end
section
open Go.Fw Go.Fw.Z Go.RowKit
theorem gY(c:Nat):aez af 186 [.v (.int .u64 (c:Nat))] 202 128 [.v (.int .u64 (c:Nat))]:=by
 refine QW Tryz.func186 Y (ae Y) (λdw M vs hvs=>?_)
 exact sr<|RT.E6 .none (s:=.sv _) Y T Y Y<|ag Y<|dn<|sr<|RT.makeFunc .none (.box Y (.nil)) T<|an (s:=.kU _ _) Y<|dn<|bf<|⟨.inr Y,_,.tmp Y,Y⟩
theorem A5(a b:List Nat):Pure af 206 [(slc 1 (List.map bh a)),(slc 1 (List.map bh b))] (o5 214 [ref [(slc 1 (List.map bh a))],ref [(slc 1 (List.map bh b))]]):=by
 refine bj Tryz.func206 Y (ae Y) (λdw M vs hvs=>?_)
 refine sr<|RT.E6 .none (s:=.sv _) Y T Y Y<|RT.E6 .none (s:=.sv _) Y T Y Y<|ag Y<|dn<|sr<|RT.makeFunc .none (.box Y (.box Y (.nil))) T<|an (s:=.kU _ _) Y<|dn<|bR (iU (i:=2) Y [(slc 1 (List.map bh a))] (.cons Y .nil) .any 0 [(4,.kU 214 [.val (ref [(slc 1 (List.map bh a))]),.box 3])] (λ_ _ _=>trivial) (xq.h (l:=[(slc 1 (List.map bh a))])) ⟨@FT.kU _ _ _ _ _ 4 214 [.box 2,.box 3] Y,ak⟩) ?_
 exact bR (iU (i:=3) Y [(slc 1 (List.map bh b))] (.cons Y .nil) .any 0 [(4,.kU 214 [.val (ref [(slc 1 (List.map bh a))]),.val (ref [(slc 1 (List.map bh b))])])] (λ_ _ _=>trivial) (xq.h (l:=[(slc 1 (List.map bh b))])) ⟨@FT.kU _ _ _ _ _ 4 214 [.val (ref [(slc 1 (List.map bh a))]),.box 3] Y,ak⟩)<|bR (Q0 4 (o5 214 [ref [(slc 1 (List.map bh a))],ref [(slc 1 (List.map bh b))]]) (λ_ _ h=>Q1 h))<|bf<|⟨.inr Y,QO (.tmp Y (.nil)) Y⟩
theorem A6(a b:List Nat):Iter af 214 [ref [(slc 1 (List.map bh a))],ref [(slc 1 (List.map bh b))]] (max a.length b.length) (λk=>[.v (.int .u64 ((a.getD k 0%18446744073709551616:Nat):Int)),.v (.int .u64 ((b.getD k 0%18446744073709551616:Nat):Int))]):=by
 refine CO Tryz.func214 Y Y (ae Y) (λdw M O l J hJ J0 hr=>?_)
 obtain⟨xB,J0⟩:=J0
 have hla:a.length≤9223372036854775807:=by cases xB with|nil=>exact J0.elim|cons _ xB=>exact Hg J0.1
 have hlb:b.length≤9223372036854775807:=by cases xB with|nil=>exact J0.elim|cons _ xB=>cases xB with|nil=>exact J0.2.elim|cons _ _=>exact Hg J0.2.1
 refine cq ?_
 refine aX ?_
 refine RT.fX .none Y Y (tl Y) ?_
 refine RT.len .none Y (tl Y) ?_
 refine RT.fX .none Y Y (tl Y) ?_
 refine RT.len .none Y (tl Y) ?_
 refine RT.max .none (((max a.length b.length:Nat):Int)) Y Y (tl Y) (by simp only[List.length_map];split<;>omega) ?_
 refine RT.mv .none Y (tl Y) ?_
 refine RT.done ?_
 refine aW.n ?_
 refine aY ?_
 refine G2 (I:=λx:{i:Nat//i≤max a.length b.length}=>AS.cj 39 [(0,.sv (.v (.func (.yield l) #[] #[]))),(1,.sv (ref [(slc 1 (List.map bh a))])),(2,.sv (ref [(slc 1 (List.map bh b))])),(11,ah ((max a.length b.length:Nat):Int)),(12,ah ((x.1:Nat):Int))] [] [] (x.1)) (μ:=λx=>max a.length b.length-x.1) ⟨0,by omega⟩ (by(try dsimp only);exact cD id Y Y Y Y Y ⟨.sv (by first|exact aq|exact SV.bA (by omega)|exact SV.bA (by push_cast;omega)|exact SV.bA (by dsimp only;omega)|exact SV.imp_eq (by simp)),.sv (by first|exact aq|exact SV.bA (by omega)|exact SV.bA (by push_cast;omega)|exact SV.bA (by dsimp only;omega)|exact SV.imp_eq (by simp)),.sv (by first|exact aq|exact SV.bA (by omega)|exact SV.bA (by push_cast;omega)|exact SV.bA (by dsimp only;omega)|exact SV.imp_eq (by simp)),.sv (by first|exact aq|exact SV.bA (by omega)|exact SV.bA (by push_cast;omega)|exact SV.bA (by dsimp only;omega)|exact SV.imp_eq (by simp)),.sv (by first|exact aq|exact SV.bA (by omega)|exact SV.bA (by push_cast;omega)|exact SV.bA (by dsimp only;omega)|exact SV.imp_eq (by simp)),ak⟩ trivial trivial (λ_ _=>Y)) ?_
 rintro⟨i,hi0⟩
 try dsimp only
 rcases Ie a b i hi0 with⟨hi,E8,Kc⟩|⟨hi,E8,Kc⟩|⟨hi,E8,Kc⟩|hi
 ·
  refine cq ?_
  refine aX ?_
  refine RT.lss .none (true) Y Y (tl Y) (by simp;omega) ?_
  refine RT.done ?_
  refine aW.n ?_
  refine cq ?_
  refine fe Y ?_
  refine bw ?_
  refine aW.n ?_
  refine cq ?_
  refine aY ?_
  refine cq ?_
  refine aX ?_
  refine RT.mv .none Y (tl Y) ?_
  refine RT.Mc .none Y (tl Y) ?_
  refine RT.done ?_
  refine aW.n ?_
  refine cq ?_
  refine aX ?_
  refine RT.Mc .none Y (tl Y) ?_
  refine RT.Mc .none Y (tl Y) ?_
  refine RT.done ?_
  refine aW.n ?_
  refine cq ?_
  refine cq ?_
  refine aX ?_
  refine RT.mv .none Y (tl Y) ?_
  refine RT.fX .none Y Y (tl Y) ?_
  refine RT.len .none Y (tl Y) ?_
  refine RT.lss .none (true) Y Y (tl Y) (by simp only[List.length_map];simp;omega) ?_
  refine RT.done ?_
  refine aW.n ?_
  refine fe Y ?_
  refine aX ?_
  refine RT.fX .none Y Y (tl Y) ?_
  refine RT.mv .none Y (tl Y) ?_
  refine RT.ixA .none [.v (.int .u32 ((a.getD i 0:Nat):Int))] (Int.natCast_nonneg i) (by rw[Int.toNat_natCast,List.getElem?_map,AR E8];rfl) Y Y (tl Y) ?_
  refine RT.fX .none Y Y (tl Y) ?_
  refine RT.conv .none (((a.getD i 0%18446744073709551616:Nat):Int)) Y (tl Y) Z7 ?_
  refine RT.Mc .none Y (tl Y) ?_
  refine RT.done ?_
  refine aW.n ?_
  refine cq ?_
  refine cq ?_
  refine aX ?_
  refine RT.mv .none Y (tl Y) ?_
  refine RT.fX .none Y Y (tl Y) ?_
  refine RT.len .none Y (tl Y) ?_
  refine RT.lss .none (true) Y Y (tl Y) (by simp only[List.length_map];simp;omega) ?_
  refine RT.done ?_
  refine aW.n ?_
  refine fe Y ?_
  refine aX ?_
  refine RT.fX .none Y Y (tl Y) ?_
  refine RT.mv .none Y (tl Y) ?_
  refine RT.ixA .none [.v (.int .u32 ((b.getD i 0:Nat):Int))] (Int.natCast_nonneg i) (by rw[Int.toNat_natCast,List.getElem?_map,AR Kc];rfl) Y Y (tl Y) ?_
  refine RT.fX .none Y Y (tl Y) ?_
  refine RT.conv .none (((b.getD i 0%18446744073709551616:Nat):Int)) Y (tl Y) Z7 ?_
  refine RT.Mc .none Y (tl Y) ?_
  refine RT.done ?_
  refine aW.n ?_
  refine cq ?_
  refine aX ?_
  refine RT.mv .none Y (tl Y) ?_
  refine RT.mv .none Y (tl Y) ?_
  refine RT.mv .none Y (tl Y) ?_
  refine RT.yield .none hr Y (λ_ h=>h) Y (i) Y Y hi (by exact⟨Y,Y,ak⟩) (tl Y) (λyb=>?_)
  cases yb
  ·
   refine RT.not .none Y (tl Y) true Y ?_
   refine RT.done ?_
   refine aW.n ?_
   refine fe Y ?_
   refine bf ?_
   refine bF.r ?_
   refine aW.r ?_
   refine aW.r ?_
   refine bF.r ?_
   exact⟨.inr rfl,(λh=>by cases h)⟩
  ·
   refine RT.not .none Y (tl Y) false Y ?_
   refine RT.done ?_
   refine aW.n ?_
   refine je Y ?_
   refine bw ?_
   refine bF.n ?_
   refine aW.n ?_
   refine aX ?_
   refine RT.add .none (((i:Nat):Int)+1) Y Y (tl Y) (uL (by omega)) ?_
   refine RT.mv .none Y (tl Y) ?_
   refine RT.done ?_
   refine aW.n ?_
   refine⟨⟨i+1,by omega⟩,(by dsimp only;omega),?_⟩
   try dsimp only
   exact cD id Y Y Y Y Y ⟨.sv (by first|exact aq|exact SV.bA (by omega)|exact SV.bA (by push_cast;omega)|exact SV.bA (by dsimp only;omega)|exact SV.imp_eq (by simp)),.sv (by first|exact aq|exact SV.bA (by omega)|exact SV.bA (by push_cast;omega)|exact SV.bA (by dsimp only;omega)|exact SV.imp_eq (by simp)),.sv (by first|exact aq|exact SV.bA (by omega)|exact SV.bA (by push_cast;omega)|exact SV.bA (by dsimp only;omega)|exact SV.imp_eq (by simp)),.sv (by first|exact aq|exact SV.bA (by omega)|exact SV.bA (by push_cast;omega)|exact SV.bA (by dsimp only;omega)|exact SV.imp_eq (by simp)),.sv (by first|exact aq|exact SV.bA (by omega)|exact SV.bA (by push_cast;omega)|exact SV.bA (by dsimp only;omega)|exact SV.imp_eq (by simp)),ak⟩ trivial trivial (λ_ _=>Y)
 ·
  refine cq ?_
  refine aX ?_
  refine RT.lss .none (true) Y Y (tl Y) (by simp;omega) ?_
  refine RT.done ?_
  refine aW.n ?_
  refine cq ?_
  refine fe Y ?_
  refine bw ?_
  refine aW.n ?_
  refine cq ?_
  refine aY ?_
  refine cq ?_
  refine aX ?_
  refine RT.mv .none Y (tl Y) ?_
  refine RT.Mc .none Y (tl Y) ?_
  refine RT.done ?_
  refine aW.n ?_
  refine cq ?_
  refine aX ?_
  refine RT.Mc .none Y (tl Y) ?_
  refine RT.Mc .none Y (tl Y) ?_
  refine RT.done ?_
  refine aW.n ?_
  refine cq ?_
  refine cq ?_
  refine aX ?_
  refine RT.mv .none Y (tl Y) ?_
  refine RT.fX .none Y Y (tl Y) ?_
  refine RT.len .none Y (tl Y) ?_
  refine RT.lss .none (true) Y Y (tl Y) (by simp only[List.length_map];simp;omega) ?_
  refine RT.done ?_
  refine aW.n ?_
  refine fe Y ?_
  refine aX ?_
  refine RT.fX .none Y Y (tl Y) ?_
  refine RT.mv .none Y (tl Y) ?_
  refine RT.ixA .none [.v (.int .u32 ((a.getD i 0:Nat):Int))] (Int.natCast_nonneg i) (by rw[Int.toNat_natCast,List.getElem?_map,AR E8];rfl) Y Y (tl Y) ?_
  refine RT.fX .none Y Y (tl Y) ?_
  refine RT.conv .none (((a.getD i 0%18446744073709551616:Nat):Int)) Y (tl Y) Z7 ?_
  refine RT.Mc .none Y (tl Y) ?_
  refine RT.done ?_
  refine aW.n ?_
  refine cq ?_
  refine cq ?_
  refine aX ?_
  refine RT.mv .none Y (tl Y) ?_
  refine RT.fX .none Y Y (tl Y) ?_
  refine RT.len .none Y (tl Y) ?_
  refine RT.lss .none (false) Y Y (tl Y) (by simp only[List.length_map];simp;omega) ?_
  refine RT.done ?_
  refine aW.n ?_
  refine je Y ?_
  refine bw ?_
  refine aW.n ?_
  refine cq ?_
  refine aX ?_
  refine RT.mv .none Y (tl Y) ?_
  refine RT.mv .none Y (tl Y) ?_
  refine RT.mv .none Y (tl Y) ?_
  refine RT.yield .none hr Y (λ_ h=>h) Y (i) Y Y hi (by exact⟨Y,(by show AV.sv _=AV.sv _;rw[CV Kc];rfl),ak⟩) (tl Y) (λyb=>?_)
  cases yb
  ·
   refine RT.not .none Y (tl Y) true Y ?_
   refine RT.done ?_
   refine aW.n ?_
   refine fe Y ?_
   refine bf ?_
   refine bF.r ?_
   refine aW.r ?_
   refine aW.r ?_
   refine bF.r ?_
   exact⟨.inr rfl,(λh=>by cases h)⟩
  ·
   refine RT.not .none Y (tl Y) false Y ?_
   refine RT.done ?_
   refine aW.n ?_
   refine je Y ?_
   refine bw ?_
   refine bF.n ?_
   refine aW.n ?_
   refine aX ?_
   refine RT.add .none (((i:Nat):Int)+1) Y Y (tl Y) (uL (by omega)) ?_
   refine RT.mv .none Y (tl Y) ?_
   refine RT.done ?_
   refine aW.n ?_
   refine⟨⟨i+1,by omega⟩,(by dsimp only;omega),?_⟩
   try dsimp only
   exact cD id Y Y Y Y Y ⟨.sv (by first|exact aq|exact SV.bA (by omega)|exact SV.bA (by push_cast;omega)|exact SV.bA (by dsimp only;omega)|exact SV.imp_eq (by simp)),.sv (by first|exact aq|exact SV.bA (by omega)|exact SV.bA (by push_cast;omega)|exact SV.bA (by dsimp only;omega)|exact SV.imp_eq (by simp)),.sv (by first|exact aq|exact SV.bA (by omega)|exact SV.bA (by push_cast;omega)|exact SV.bA (by dsimp only;omega)|exact SV.imp_eq (by simp)),.sv (by first|exact aq|exact SV.bA (by omega)|exact SV.bA (by push_cast;omega)|exact SV.bA (by dsimp only;omega)|exact SV.imp_eq (by simp)),.sv (by first|exact aq|exact SV.bA (by omega)|exact SV.bA (by push_cast;omega)|exact SV.bA (by dsimp only;omega)|exact SV.imp_eq (by simp)),ak⟩ trivial trivial (λ_ _=>Y)
 ·
  refine cq ?_
  refine aX ?_
  refine RT.lss .none (true) Y Y (tl Y) (by simp;omega) ?_
  refine RT.done ?_
  refine aW.n ?_
  refine cq ?_
  refine fe Y ?_
  refine bw ?_
  refine aW.n ?_
  refine cq ?_
  refine aY ?_
  refine cq ?_
  refine aX ?_
  refine RT.mv .none Y (tl Y) ?_
  refine RT.Mc .none Y (tl Y) ?_
  refine RT.done ?_
  refine aW.n ?_
  refine cq ?_
  refine aX ?_
  refine RT.Mc .none Y (tl Y) ?_
  refine RT.Mc .none Y (tl Y) ?_
  refine RT.done ?_
  refine aW.n ?_
  refine cq ?_
  refine cq ?_
  refine aX ?_
  refine RT.mv .none Y (tl Y) ?_
  refine RT.fX .none Y Y (tl Y) ?_
  refine RT.len .none Y (tl Y) ?_
  refine RT.lss .none (false) Y Y (tl Y) (by simp only[List.length_map];simp;omega) ?_
  refine RT.done ?_
  refine aW.n ?_
  refine je Y ?_
  refine bw ?_
  refine aW.n ?_
  refine cq ?_
  refine cq ?_
  refine aX ?_
  refine RT.mv .none Y (tl Y) ?_
  refine RT.fX .none Y Y (tl Y) ?_
  refine RT.len .none Y (tl Y) ?_
  refine RT.lss .none (true) Y Y (tl Y) (by simp only[List.length_map];simp;omega) ?_
  refine RT.done ?_
  refine aW.n ?_
  refine fe Y ?_
  refine aX ?_
  refine RT.fX .none Y Y (tl Y) ?_
  refine RT.mv .none Y (tl Y) ?_
  refine RT.ixA .none [.v (.int .u32 ((b.getD i 0:Nat):Int))] (Int.natCast_nonneg i) (by rw[Int.toNat_natCast,List.getElem?_map,AR Kc];rfl) Y Y (tl Y) ?_
  refine RT.fX .none Y Y (tl Y) ?_
  refine RT.conv .none (((b.getD i 0%18446744073709551616:Nat):Int)) Y (tl Y) Z7 ?_
  refine RT.Mc .none Y (tl Y) ?_
  refine RT.done ?_
  refine aW.n ?_
  refine cq ?_
  refine aX ?_
  refine RT.mv .none Y (tl Y) ?_
  refine RT.mv .none Y (tl Y) ?_
  refine RT.mv .none Y (tl Y) ?_
  refine RT.yield .none hr Y (λ_ h=>h) Y (i) Y Y hi (by exact⟨(by show AV.sv _=AV.sv _;rw[CV E8];rfl),Y,ak⟩) (tl Y) (λyb=>?_)
  cases yb
  ·
   refine RT.not .none Y (tl Y) true Y ?_
   refine RT.done ?_
   refine aW.n ?_
   refine fe Y ?_
   refine bf ?_
   refine bF.r ?_
   refine aW.r ?_
   refine aW.r ?_
   refine bF.r ?_
   exact⟨.inr rfl,(λh=>by cases h)⟩
  ·
   refine RT.not .none Y (tl Y) false Y ?_
   refine RT.done ?_
   refine aW.n ?_
   refine je Y ?_
   refine bw ?_
   refine bF.n ?_
   refine aW.n ?_
   refine aX ?_
   refine RT.add .none (((i:Nat):Int)+1) Y Y (tl Y) (uL (by omega)) ?_
   refine RT.mv .none Y (tl Y) ?_
   refine RT.done ?_
   refine aW.n ?_
   refine⟨⟨i+1,by omega⟩,(by dsimp only;omega),?_⟩
   try dsimp only
   exact cD id Y Y Y Y Y ⟨.sv (by first|exact aq|exact SV.bA (by omega)|exact SV.bA (by push_cast;omega)|exact SV.bA (by dsimp only;omega)|exact SV.imp_eq (by simp)),.sv (by first|exact aq|exact SV.bA (by omega)|exact SV.bA (by push_cast;omega)|exact SV.bA (by dsimp only;omega)|exact SV.imp_eq (by simp)),.sv (by first|exact aq|exact SV.bA (by omega)|exact SV.bA (by push_cast;omega)|exact SV.bA (by dsimp only;omega)|exact SV.imp_eq (by simp)),.sv (by first|exact aq|exact SV.bA (by omega)|exact SV.bA (by push_cast;omega)|exact SV.bA (by dsimp only;omega)|exact SV.imp_eq (by simp)),.sv (by first|exact aq|exact SV.bA (by omega)|exact SV.bA (by push_cast;omega)|exact SV.bA (by dsimp only;omega)|exact SV.imp_eq (by simp)),ak⟩ trivial trivial (λ_ _=>Y)
 ·
  subst hi
  refine cq ?_
  refine aX ?_
  refine RT.lss .none (false) Y Y (tl Y) (by simp) ?_
  refine RT.done ?_
  refine aW.n ?_
  refine cq ?_
  refine je Y ?_
  refine bN ?_
  refine aW.x ?_
  refine aW.x ?_
  refine bF.x ?_
  exact⟨.inl Y,(λ_=>Y)⟩
theorem yH{x0 r:List Nat}(h:gH x0=some r):GB af 175 [slc 1 (List.map bh x0)] (TR 130 1 bh r):=by
 refine wh Tryz.func175 Y (ae Y) (λdw M vs hvs=>?_)
 unfold gH at h
 refine sr<|ag Y<|dn<|qq<|sr<|mv Y ?_
 refine RT.aiw .none Y T (λnb hnb=>?_)
 cases nb
 exact dn<|fs<|sr<|RT.Mj (l:=([]:List Nat)) (e:=bh) .none .nil T Y T Y Y Y Y Y Y<|mv Y<|aR (k:=x0) (e:=bh) Y Y Y h<|an (s:=.row _) Y<|dn<|bf<|⟨.inr Y,_,.tmp Y,Y⟩
 have hx:x0=[]:=by simpa using hnb Y
 subst hx
 obtain⟨_,_,rfl⟩:=AQ h
 exact dn<|cT<|sr<|ag Y<|dn<|bR (c8 2 300 130 1 Y Y T)<|bf<|aW.r<|⟨.inr Y,_,.tmp Y,Y⟩
theorem dh{x0:Nat}{c0:Nat}{r:Nat×Nat}(h:cK x0 c0=some r):Z1 af 202 [.v (.int .u64 ((x0:Nat):Int))] 128 [.v (.int .u64 ((c0:Nat):Int))] (.v (.int .u32 ((r.1:Nat):Int))) [.v (.int .u64 ((r.2:Nat):Int))]:=by
 refine QV Tryz.func202 Y (ae Y) (λdw M β=>?_)
 unfold cK at h
 refine sr<|ag Y<|dn<|sr<|mv Y<|lV Y Y Y<|lE h λx6 h6 h=>ad _ Y Y (UK.add (a:=x0) (b:=c0) h6)<|ag Y<|dn<|sr<|mv Y<|lE h λx8 h8 h=>RT.shr .none _ Y Y T (by decide) (Mh (k:=.u64) (a:=x6) (q:=32) (s:=32) Y h8)<|RT.AL (cells:=[_]) .none (s:=.sv _) Y Y Y T Y<|dn<|sr<|mv Y<|lE h λdI gC h=>cv _ Y (UK.nat gC)<|ag Y ?_
 refine dn<|bf ?_
 obtain rfl:=O h
 exact⟨.inr Y,lu (.tmp Y (.nil)) aq,Y⟩
theorem dx{x0:List Nat}{r:List Nat}(h:bP x0=some r):Pure af 144 [slc 1 (List.map bh x0)] (slc 1 (List.map bh r)):=by
 refine bj Tryz.func144 Y (ae Y) (λdw M vs hvs=>?_)
 unfold bP at h
 refine sr<|aI Y (aB (n:=1) (e:=bh))<|dn<|qq<|bE h λFm yh pq=>?_
 refine bK (λ(Ih:(List Nat))=>AS.cj 21 [(0,.sv (slc 1 (List.map bh Ih)))] [] []) (λIh=>Ih=Fm) ?_ (λIh yj=>?_)
 refine aY ?_
 refine bL yh (λuH=>AS.cj 21 [(0,.sv (slc 1 (List.map bh uH)))] [] []) (wR []) (λGF ZD ZE h yl uN=>?_)
 try dsimp only
 refine qq<|qq ?_
 refine bJ h (λGI=>AS.cj 21 [(0,.sv (slc 1 (List.map bh GF))),(14,ai GI)] [] []) (λh=>?_) (λIg h=>?_)
 refine aX<|mv Y<|lE h λx4 h4 h=>ln Y h4<|lE h λx5 h5 h=>gt _ Y Y h5<|mv Y<|bE h λFh dD h=>?_
 cases x5
 obtain rfl:=O (F dD)
 exact ww<|ww<|ww<|ww<|ww<|ww<|ww<|pF Y<|dn<|⟨false,h,wR []⟩
 refine gm Y<|gm Y<|lE (V dD) λx9 h9 dD=>gn Y h9<|lE dD λdI gC dD=>RT.sub (.some Y Y) _ Y Y T gC<|bE dD λfz lp dD=>RT.Uj (.some Y Y) Y Y T lp<|gr Y Y<|lE dD λeD iF dD=>Uk _ Y Y (eqN (p:=fz) (q:=0) iF) ?_
 obtain rfl:=O dD
 exact pT Y<|dn<|⟨eD,h,wR []⟩
 try dsimp only
 refine aW.n ?_
 cases Ig
 refine cF<|bN<|aW.x<|aW.x<|bF.x<|aW.n ?_
 obtain rfl:=O (F h)
 exact⟨GF,uN _ Y,wR []⟩
 refine cT<|bw<|aW.n<|aY<|aX<|mv Y<|mv Y<|lE (V h) λdX jO h=>ln Y jO<|lE h λeX jK h=>sb _ Y Y jK<|bE h λjl mw h=>RT.Ic .none 0 eX Y Y ⟨_,Y⟩ T mw<|ag Y<|RT.done<|bF.n ?_
 obtain rfl:=O h
 exact aW.n ⟨jl,yl _ Y,wR []⟩
 subst yj
 try dsimp only
 refine aW.n<|sr<|mv Y<|ag Y<|dn<|bf ?_
 obtain rfl:=O pq
 exact R1 Y
abbrev au:SV:=slc 1 (List.map bh [])
theorem nX{x0:Bool}{x1:Nat}(N:Nat){r:Zr}(h:ig x0 x1=some r):dK af 137 N [ay x0,.v (.int .u64 ((x1:Nat):Int))] (.agg ((fZ N) r)):=by
 refine bU Tryz.func137 Y (ae Y) (λdw M vs hN hvs=>?_)
 unfold ig at h
 refine sr<|al (cs:=[ay false,nw N au]) (by exact⟨aq,bu,ak⟩) Y<|dn<|qq<|aY<|sr<|mv Y<|lE h λx7 h7 h=>eq _ Y Y (eqN (p:=x1) (q:=0) h7)<|ag Y<|dn ?_
 cases x7
 refine cF<|sr<|mv Y<|lE (F h) λfz lp h=>RT.shr .none _ Y Y T (by decide) (Mh (k:=.u64) (a:=x1) (q:=32) (s:=32) Y lp)<|lE h λc9 fC h=>eq _ Y Y (eqN (p:=fz) (q:=0) fC)<|ag Y<|dn ?_
 cases c9
 refine cF<|bw<|bF.n<|aW.n<|sr<|mv Y<|mv Y<|lE (F h) λij oG h=>cv _ Y (UK.nat oG)<|mv Y<|lE h λiA oH h=>RT.shr .none _ Y Y T (by decide) (Mh (k:=.u64) (a:=x1) (q:=32) (s:=32) Y oH)<|lE h λjg qP h=>cv _ Y (UK.nat qP)<|RT.DI (l:=[ij,jg]) (e:=bh) .none hN (.one Y (.one Y (.nil))) T Y Y Y Y Y Y<|bI (cs:=[_,_]) (cs':=[ay x0,nw N (slc 1 (List.map bh [ij,jg]))]) (.one Y (.one Y (.nil))) ⟨aq,aq,ak⟩ ?_
 refine so Y Y Y<|dn<|bf ?_
 obtain rfl:=O h
 exact RZ (.agg Y Y (.k2 Y Y) Y (.nil))
 refine cT<|sr<|mv Y<|mv Y<|lE (V h) λdH gD h=>cv _ Y (UK.nat gD)<|RT.DI (l:=[dH]) (e:=bh) .none hN (.one Y (.nil)) T Y Y Y Y Y Y<|bI (cs:=[_,_]) (cs':=[ay x0,nw N (slc 1 (List.map bh [dH]))]) (.one Y (.one Y (.nil))) ⟨aq,aq,ak⟩<|so Y Y Y<|dn<|bf<|bF.r<|aW.r ?_
 obtain rfl:=O h
 exact RZ (.agg Y Y (.k2 Y Y) Y (.nil))
 refine cT<|sr<|bI (cs:=[_,_]) (cs':=[ay false,nw N au]) (.nil) ⟨aq,bu,ak⟩<|so Y Y Y<|dn<|bf<|bF.r<|aW.r ?_
 obtain rfl:=O (V h)
 exact RZ (.agg Y Y (.k2 Y Y) Y (.nil))
theorem mM{x0:List Nat}{r:Nat}(h:fI x0=some r):Pure af 162 [slc 1 (List.map bh x0)] (.v (.int .u64 ((r:Nat):Int))):=by
 refine bj Tryz.func162 Y (ae Y) (λdw M vs hvs=>?_)
 unfold fI at h
 refine sr<|ag Y<|dn<|qq<|sr<|mv Y<|lE h λx4 h4 h=>ln Y h4<|dn<|aY<|sr<|lE h λx6 h6 h=>eq _ Y Y (ve (p:=x4) (q:=0) h6)<|ag Y<|dn ?_
 cases x6
 refine cF<|sr<|lE (F h) λx8 h8 h=>eq _ Y Y (ve (p:=x4) (q:=1) h8)<|ag Y<|dn ?_
 cases x8
 refine cF<|bw<|bF.n<|aW.n<|qq<|aZ mixed<|mv Y<|bE (F h) λei jx h=>ix Y Y jx<|lr Y Y<|lE h λfB lq h=>cv _ Y (UK.nat lq)<|mv Y<|bE h λeX jK h=>ix Y Y jK<|lr Y Y<|lE h λij oG h=>cv _ Y (UK.nat oG)<|lE h λfL ke h=>RT.shl .none _ Y Y T (by decide) (UK.shl (a:=ij) (q:=32) (s:=32) Y ke)<|lE h λiA oH h=>RT.or .none _ Y Y T (UK.or (a:=fB) (b:=fL) oH) ?_
 refine ag Y ?_
 refine RT.done ⟨by kernel_rfl,?_⟩
 refine aW.n<|bf ?_
 obtain rfl:=O h
 exact R1 Y
 refine cT<|sr<|mv Y<|bE (V h) λdI gC h=>ix Y Y gC<|lr Y Y<|lE h λc9 fC h=>cv _ Y (UK.nat fC)<|ag Y<|dn<|bf<|bF.r<|aW.r ?_
 obtain rfl:=O h
 exact R1 Y
 refine cT<|sr<|ag Y<|dn<|bf<|bF.r<|aW.r ?_
 obtain rfl:=O (V h)
 exact R1 Y
theorem jY{x0:List Nat}{x1:List Nat}{r:Int}(h:dU x0 x1=some r):Pure af 161 [slc 1 (List.map bh x0),slc 1 (List.map bh x1)] (ax r):=by
 refine bj Tryz.func161 Y (ae Y) (λdw M vs hvs=>?_)
 unfold dU at h
 refine sr<|ag Y<|dn<|qq<|sr<|mv Y<|lE h λx7 h7 h=>ln Y h7<|mv Y<|lE h λx9 h9 h=>ln Y h9<|lE h λdI gC h=>ne _ Y Y (JY (p:=x7) (q:=x9) gC)<|dn ?_
 cases dI
 refine fs<|qq<|sr<|mv Y<|lE (F h) λdX jO h=>ln Y jO<|lE h λeX jK h=>sb _ Y Y jK<|ag Y<|dn<|bE h λe6 vA jo=>?_
 refine bK (λ(uI:Unit)=>AS.cj 41 [] [] []) (λuI=>.inl uI=e6) ?_ (λuI vB=>?_)
 refine aY ?_
 refine bL vA (λs6=>AS.cj 41 [(0,.sv (slc 1 (List.map bh x0))),(1,.sv (slc 1 (List.map bh x1))),(5,ah s6)] [] []) (wR []) (λiD y6 G6 h vC qy=>?_)
 try dsimp only
 refine qq<|sr<|mv Y<|lE h λij oG h=>ge _ Y Y oG<|dn ?_
 cases ij
 refine cF<|bN<|aW.x<|aW.x<|bF.x<|aW.n ?_
 obtain rfl:=O (F h)
 exact⟨(),qy _ Y,wR []⟩
 refine cT<|bw<|aW.n<|qq<|aY<|qq<|aZ mixed<|mv Y<|mv Y<|bE (V h) λjG nO h=>ix Y Y nO<|lr Y Y<|mv Y<|mv Y<|bE h λgI mZ h=>ix Y Y mZ<|lr Y Y<|lE h λnU yz h=>ne _ Y Y (neN (p:=jG) (q:=gI) yz) ?_
 refine RT.done ⟨by kernel_rfl,?_⟩
 refine aW.n ?_
 cases nU
 refine cF<|bw<|bF.n<|aW.n<|aX<|mv Y<|lE (F h) λiA oH h=>sb _ Y Y oH<|ag Y<|RT.done ?_
 obtain rfl:=O h
 exact aW.n ⟨iA,vC _ Y,wR []⟩
 refine cT<|qq<|qq<|aZ mixed<|mv Y<|mv Y<|bE (V h) λsX xu h=>ix Y Y xu<|lr Y Y<|mv Y<|mv Y<|bE h λqX Ay h=>ix Y Y Ay<|lr Y Y<|lE h λnj vm h=>ls _ Y Y (ltN (p:=sX) (q:=qX) vm) ?_
 refine RT.done ⟨by kernel_rfl,?_⟩
 refine aW.n ?_
 cases nj
 refine fs<|sr<|ag Y<|dn<|bf<|bF.r<|aW.r ?_
 obtain rfl:=O (F h)
 have GJ:=qy _ Y
 subst GJ
 refine aW.r<|bF.r<|aW.r<|aW.r ?_
 obtain rfl:=O jo
 exact R1 Y
 refine cT<|sr<|ag Y<|dn<|bf<|aW.r<|bF.r<|aW.r ?_
 obtain rfl:=O (V h)
 have GJ:=qy _ Y
 subst GJ
 refine aW.r<|bF.r<|aW.r<|aW.r ?_
 obtain rfl:=O jo
 exact R1 Y
 subst vB
 try dsimp only
 refine aW.n<|sr<|ag Y<|dn<|bf ?_
 obtain rfl:=O jo
 exact R1 Y
 refine cT<|qq<|sr<|mv Y<|lE (V h) λc9 fC h=>ln Y fC<|mv Y<|lE h λei jx h=>ln Y jx<|lE h λdH gD h=>ls _ Y Y gD<|dn ?_
 cases dH
 refine fs<|sr<|ag Y<|dn<|bf<|aW.r ?_
 obtain rfl:=O (F h)
 exact R1 Y
 refine cT<|sr<|ag Y<|dn<|bf<|aW.r<|aW.r ?_
 obtain rfl:=O (V h)
 exact R1 Y
theorem xD{x0:List Nat}{x1:List Nat}(N:Nat){r:List Nat}(h:gW x0 x1=some r):dK af 194 N [slc 1 (List.map bh x0),slc 1 (List.map bh x1)] (nw N (slc 1 (List.map bh r))):=by
 refine bU Tryz.func194 Y (ae Y) (λdw M vs hN hvs=>?_)
 unfold gW at h
 refine sr<|aI Y (bu (N:=N) (n:=1) (e:=bh))<|dn<|sr<|mv Y<|lE h λdI gC h=>ln Y gC<|mv Y<|lE h λc9 fC h=>ln Y fC<|lE h λeD iF h=>RT.max .none _ Y Y T (Oo (p:=dI) (q:=c9) iF)<|lE h λei jx h=>ad _ Y Y jx<|bE h λdH gD h=>RT.Lb (e:=bh) .none Y Y T Y T gD<|RT.alloc .none T Y Y<|RT.uK (cells:=[_]) .none Y Y Y Y T Y<|dn<|sr ?_
 refine RT.HZ .none (gY 0) Y ⟨Y,ak⟩ T Y Y<|RT.alloc .none T Y Y<|RT.AL (cells:=[_]) .none (s:=.kU _ _) Y Y Y T Y<|dn<|qq<|sr<|mv Y<|mv Y<|cl (A5 x0 x1) ⟨Y,Y,ak⟩<|dn<|aY<|bE h λe7 hl7 ho7=>?_
 obtain⟨st7,hs7,ht7,hn7⟩:=vX hl7
 refine qW (A6 x0 x1) (λ_ _ _ _ _=>trivial) Y (λk=>AS.cj 35 [(5,.ptr 5 0),(6,.ptr 6 0),(19,.sv (o5 214 [ref [slc 1 (List.map bh x0)],ref [slc 1 (List.map bh x1)]]))] [(6,⟨186,[.kU 202 [.box 16]]⟩),(16,⟨128,[.sv (.v (.int .u64 (((st7 k).1:Nat):Int)))]⟩),(5,⟨39,[.row 302]⟩)] [(302,TR 130 1 bh (st7 k).2)]) [6,16,5] Y (λ_=>⟨Y,Y⟩) (CP Y) (λ_=>Y) (CQ Y) (by(try dsimp only);rw[hs7];(try dsimp only);exact cD (λi=>bif Nat.beq i 302 then 15 else i) Y Y Y Y Y ⟨.ptr,.ptr,.sv aq,ak⟩ ⟨⟨_,Y,⟨.kU,ak⟩⟩,⟨_,Y,⟨.sv aq,ak⟩⟩,⟨_,Y,⟨.row Y,ak⟩⟩,ak⟩ ⟨⟨_,Y,cg.refl _⟩,ak⟩ (λi hi=>by rw[bV (show i≠302 by omega)];rfl)) (λk hk D hD=>?_) ?_
 have h:=ht7 k hk
 obtain⟨sk,hsk⟩:∃q,st7 k=q:=⟨_,Y⟩
 rw[hsk]at h⊢
 obtain⟨DJ,nV⟩:=sk
 dsimp only[AS.Z5,Cu]
 try dsimp only at h
 refine lE h λp20 Wu h=>?_
 rw[Wu]
 refine lE h λp21 amY h=>?_
 rw[amY]
 refine sr<|ag Y<|dn<|aX<|ag Y<|RT.done ?_
 refine aW.n ⟨Y,?_⟩
 dsimp only[AS.Me]
 refine aY<|aZ mixed<|RT.eA .none (s:=.row _) Y Y Y T<|RT.eA .none (s:=.kU _ _) Y Y Y T<|mv Y<|mv Y<|lE h λjH rV h=>ad _ Y Y (UK.add (a:=p20) (b:=p21) rV) ?_
 obtain⟨⟨iO,k9⟩,pN,h⟩:=bS h
 refine cB (dh pN) 16 Y ⟨Y,ak⟩<|bl (l:=[iO]) (e:=bh) (.one Y (.nil)) Y Y Y Y Y Y<|bE h λgI mZ h=>aR (k:=[iO]) (e:=bh) Y Y Y mZ<|RT.uK (cells:=[_]) .none Y Y Y Y T Y ?_
 refine RT.done ⟨by kernel_rfl,?_⟩
 refine bF.n ?_
 replace h:=Option.some.inj h
 refine⟨ak,Y,Y,?_⟩
 try dsimp only
 rw[←h]
 try dsimp only
 exact cD (λi=>bif Nat.beq i 302 then 29 else i) Y Y Y Y Y ⟨.ptr,.ptr,.sv aq,ak⟩ ⟨⟨_,Y,⟨.kU,ak⟩⟩,⟨_,Y,⟨.sv aq,ak⟩⟩,⟨_,Y,⟨.row Y,ak⟩⟩,ak⟩ ⟨⟨_,Y,cg.refl _⟩,ak⟩ (λi hi=>by rw[bV (show i≠302 by omega)];rfl)
 rw[hn7]
 obtain⟨DJ,nV⟩:=e7
 try dsimp only
 refine bF.n<|aW.n<|qq<|aZ mixed<|RT.eA .none (s:=.row _) Y Y Y T<|RT.eA .none (s:=.kU _ _) Y Y Y T ?_
 obtain⟨⟨iP,k11⟩,pW,ho7⟩:=bS ho7
 refine cB (dh pW) 16 Y ⟨Y,ak⟩<|bl (l:=[iP]) (e:=bh) (.one Y (.nil)) Y Y Y Y Y Y<|bE ho7 λsX xu ho7=>RT.aiO (k:=[iP]) (e:=bh) .none hN (λ_ h=>h) Y Y Y T Y T xu<|ag Y ?_
 refine RT.done ⟨by kernel_rfl,?_⟩
 refine aW.n<|bf ?_
 obtain rfl:=O ho7
 exact R1 Y
theorem qZ{x0:List Nat}{x1:List Nat}(N:Nat){r:List Nat}(h:eJ x0 x1=some r):dK af 195 N [slc 1 (List.map bh x0),slc 1 (List.map bh x1)] (nw N (slc 1 (List.map bh r))):=by
 refine bU Tryz.func195 Y (ae Y) (λdw M vs hN hvs=>?_)
 unfold eJ at h
 refine sr<|aI Y (bu (N:=N) (n:=1) (e:=bh))<|dn<|sr<|mv Y<|lE h λdI gC h=>ln Y gC<|bE h λfz lp h=>RT.Lb (e:=bh) .none Y Y T Y T lp<|RT.alloc .none T Y Y<|RT.uK (cells:=[_]) .none Y Y Y Y T Y<|dn<|sr<|RT.HZ .none (gY 1) Y ⟨Y,ak⟩ T Y Y<|RT.alloc .none T Y Y<|RT.AL (cells:=[_]) .none (s:=.kU _ _) Y Y Y T Y<|dn<|qq<|sr<|mv Y ?_
 refine mv Y<|cl (A5 x0 x1) ⟨Y,Y,ak⟩<|dn<|aY<|bE h λe7 hl7 ho7=>?_
 obtain⟨st7,hs7,ht7,hn7⟩:=vX hl7
 refine qW (A6 x0 x1) (λ_ _ _ _ _=>trivial) Y (λk=>AS.cj 28 [(5,.ptr 5 0),(6,.ptr 6 0),(15,.sv (o5 214 [ref [slc 1 (List.map bh x0)],ref [slc 1 (List.map bh x1)]]))] [(6,⟨186,[.kU 202 [.box 12]]⟩),(12,⟨128,[.sv (.v (.int .u64 (((st7 k).1:Nat):Int)))]⟩),(5,⟨39,[.row 302]⟩)] [(302,TR 130 1 bh (st7 k).2)]) [6,12,5] Y (λ_=>⟨Y,Y⟩) (CP Y) (λ_=>Y) (CQ Y) (by(try dsimp only);rw[hs7];(try dsimp only);exact cD (λi=>bif Nat.beq i 302 then 11 else i) Y Y Y Y Y ⟨.ptr,.ptr,.sv aq,ak⟩ ⟨⟨_,Y,⟨.kU,ak⟩⟩,⟨_,Y,⟨.sv aq,ak⟩⟩,⟨_,Y,⟨.row Y,ak⟩⟩,ak⟩ ⟨⟨_,Y,cg.refl _⟩,ak⟩ (λi hi=>by rw[bV (show i≠302 by omega)];rfl)) (λk hk D hD=>?_) ?_
 have h:=ht7 k hk
 obtain⟨sk,hsk⟩:∃q,st7 k=q:=⟨_,Y⟩
 rw[hsk]at h⊢
 obtain⟨Hj,nV⟩:=sk
 dsimp only[AS.Z5,Cu]
 try dsimp only at h
 refine lE h λp16 amZ h=>?_
 rw[amZ]
 refine lE h λp17 am0 h=>?_
 rw[am0]
 refine sr<|ag Y<|dn<|aX<|ag Y<|RT.done ?_
 refine aW.n ⟨Y,?_⟩
 dsimp only[AS.Me]
 refine aY<|aZ mixed<|RT.eA .none (s:=.row _) Y Y Y T<|RT.eA .none (s:=.kU _ _) Y Y Y T<|mv Y<|mv Y<|lE h λiA oH h=>sb _ Y Y (UK.sub (a:=4294967295) (b:=p17) oH)<|lE h λjg qP h=>ad _ Y Y (UK.add (a:=p16) (b:=iA) qP) ?_
 obtain⟨⟨gX,k9⟩,oY,h⟩:=bS h
 refine cB (dh oY) 12 Y ⟨Y,ak⟩<|bl (l:=[gX]) (e:=bh) (.one Y (.nil)) Y Y Y Y Y Y<|bE h λjH rV h=>aR (k:=[gX]) (e:=bh) Y Y Y rV<|RT.uK (cells:=[_]) .none Y Y Y Y T Y ?_
 refine RT.done ⟨by kernel_rfl,?_⟩
 refine bF.n ?_
 replace h:=Option.some.inj h
 refine⟨ak,Y,Y,?_⟩
 try dsimp only
 rw[←h]
 try dsimp only
 exact cD (λi=>bif Nat.beq i 302 then 26 else i) Y Y Y Y Y ⟨.ptr,.ptr,.sv aq,ak⟩ ⟨⟨_,Y,⟨.kU,ak⟩⟩,⟨_,Y,⟨.sv aq,ak⟩⟩,⟨_,Y,⟨.row Y,ak⟩⟩,ak⟩ ⟨⟨_,Y,cg.refl _⟩,ak⟩ (λi hi=>by rw[bV (show i≠302 by omega)];rfl)
 rw[hn7]
 obtain⟨Hj,nV⟩:=e7
 try dsimp only
 refine bF.n<|aW.n<|sr<|RT.eA .none (s:=.row _) Y Y Y T<|an (s:=.row _) Y<|dn<|lz (i:=302) (E1:=130) (n:=1) (e:=bh) (l:=nV) hN (λ_ h=>h) Y<|bf ?_
 obtain rfl:=O ho7
 exact R1 Y
theorem DT{x0:List Nat}{x1:List Nat}(N:Nat){r:List Nat}(h:jI x0 x1=some r):dK af 164 N [slc 1 (List.map bh x0),slc 1 (List.map bh x1)] (nw N (slc 1 (List.map bh r))):=by
 refine bU Tryz.func164 Y (ae Y) (λdw M vs hN hvs=>?_)
 unfold jI at h
 refine sr<|aI Y (bu (N:=N) (n:=1) (e:=bh))<|dn<|sr<|mv Y<|lE h λc9 fC h=>ln Y fC<|mv Y<|lE h λei jx h=>ln Y jx<|lE h λdH gD h=>ad _ Y Y gD<|bE h λfB lq h=>RT.tK (n:=1) (e:=bh) .none Y Y T Y T (by rfl) (by decide) (by exact⟨aq,ak⟩) lq<|an (s:=.row _) Y<|dn<|qq<|sr<|mv Y<|lE h λeX jK h=>ln Y jK ?_
 refine mv Y<|dn<|bE h λe28 ae6 Re=>?_
 refine bK (λ(CX:(List Nat))=>AS.cj 63 [(5,.row 16)] [] [(16,TR 130 1 bh CX)]) (λCX=>CX=e28) ?_ (λCX ae7=>?_)
 refine aY ?_
 refine bL ae6 (λUm=>AS.cj 63 [(1,.sv (slc 1 (List.map bh x1))),(5,.row 16),(17,.sv (slc 1 (List.map bh x0))),(18,ah eX),(19,ah Um.1)] [] [(16,TR 130 1 bh Um.2)]) (wR []) (λUm y28 G28 h ae8 ae9=>?_)
 obtain⟨wz,Mq⟩:=Um
 try dsimp only
 refine sr<|lE h λij oG h=>ls _ Y Y oG<|dn<|qq ?_
 cases ij
 refine cF<|bN<|aW.x<|aW.x<|bF.x<|aW.n ?_
 obtain rfl:=O (F h)
 exact⟨Mq,ae9 _ Y,wR []⟩
 refine cT<|bw<|aW.n<|qq<|aY<|sr<|mv Y<|bE (V h) λiA oH h=>ix Y Y oH<|lr Y Y<|ag Y<|ag Y<|dn<|sr<|RT.HZ .none (gY 0) Y ⟨Y,ak⟩ T Y Y<|an (s:=.kU _ _) Y<|dn<|qq<|sr<|mv Y<|lE h λjH rV h=>ln Y rV<|mv Y<|dn<|bE h λe38 afa kX=>?_
 refine bK (λ(Uu:Nat×(List Nat))=>AS.cj 63 [(1,.sv (slc 1 (List.map bh x1))),(5,.row 16),(6,ah wz),(8,.kU 202 [.box 24]),(17,.sv (slc 1 (List.map bh x0))),(18,ah eX),(19,ah wz)] [(24,⟨128,[.sv (.v (.int .u64 ((Uu.1:Nat):Int)))]⟩)] [(16,TR 130 1 bh Uu.2)]) (λUu=>Uu=e38) ?_ (λUu afb=>?_)
 refine aY ?_
 refine bL afa (λS0=>AS.cj 63 [(1,.sv (slc 1 (List.map bh x1))),(5,.row 16),(6,ah wz),(7,.sv (.v (.int .u32 ((iA:Nat):Int)))),(8,.kU 202 [.box 24]),(17,.sv (slc 1 (List.map bh x0))),(18,ah eX),(19,ah wz),(25,.sv (slc 1 (List.map bh x1))),(26,ah jH),(27,ah S0.1)] [(24,⟨128,[.sv (.v (.int .u64 ((S0.2.1:Nat):Int)))]⟩)] [(16,TR 130 1 bh S0.2.2)]) (wR []) (λS0 y38 G38 h afc afd=>?_)
 obtain⟨Fi,DK,CW⟩:=S0
 try dsimp only
 refine sr<|lE h λkT uO h=>ls _ Y Y uO<|dn<|qq ?_
 cases kT
 refine cF<|bN<|aW.x<|aW.x<|bF.x<|aW.n ?_
 obtain rfl:=O (F h)
 exact⟨(DK,CW),afd _ Y,wR []⟩
 refine cT<|bw<|aW.n<|qq<|aY<|sr<|mv Y<|bE (V h) λoF vD h=>ix Y Y vD<|lr Y Y<|ag Y<|ag Y<|dn<|aX<|mo (s:=.row _) Y<|mv Y<|mv Y<|lE h λku vE h=>ad _ Y Y vE<|mo (s:=.kU _ _) Y<|mo (s:=.row _) Y<|mv Y<|mv Y<|lE h λnj vm h=>ad _ Y Y vm<|bE h λyF GK h=>iR Y Y Y GK ?_
 refine bE h λnE ym h=>lR Y Y ym Y<|lE h λvf EX h=>cv _ Y (UK.nat EX)<|mv Y<|lE h λzu Io h=>cv _ Y (UK.nat Io)<|mv Y<|lE h λsE zH h=>cv _ Y (UK.nat zH)<|lE h λr9 h48 h=>RT.mul .none _ Y Y T (UK.mul (a:=zu) (b:=sE) h48)<|lE h λJ1 Rf h=>ad _ Y Y (UK.add (a:=vf) (b:=r9) Rf) ?_
 obtain⟨⟨AB,k41⟩,Kn,h⟩:=bS h
 refine cB (dh Kn) 24 Y ⟨Y,ak⟩<|bE h λBT Ip h=>iR Y Y Y Ip<|bE h λl42 Wv h=>sR AB Y Y Y Y Wv<|RT.done<|bF.n<|aW.n<|aX<|lE h λAD GL h=>ad _ Y Y GL<|mv Y<|RT.done ?_
 obtain rfl:=O h
 exact aW.n ⟨(AD,k41,l42),afc _ Y,wR []⟩
 subst afb
 obtain⟨OC,Q3⟩:=Uu
 try dsimp only
 refine aW.n<|aX<|mo (s:=.row _) Y<|mv Y<|mv Y<|lE kX λJ2 Mu kX=>ln Y Mu<|lE kX λN3 Ww kX=>ad _ Y Y Ww<|mo (s:=.kU _ _) Y ?_
 obtain⟨⟨Uo,k45⟩,h59,kX⟩:=bS kX
 refine cB (dh h59) 24 Y ⟨Y,ak⟩<|bE kX λDx N5 kX=>iR Y Y Y N5<|bE kX λl46 ai8 kX=>sR Uo Y Y Y Y ai8<|RT.done<|bF.n<|aW.n<|aX<|lE kX λQ4 h61 kX=>ad _ Y Y h61<|mv Y<|RT.done ?_
 obtain rfl:=O kX
 exact aW.n ⟨(Q4,l46),ae8 _ Y,wR []⟩
 subst ae7
 try dsimp only
 refine aW.n<|sr<|mo (s:=.row _) Y<|an (s:=.row _) Y<|dn<|lz (i:=16) (E1:=130) (n:=1) (e:=bh) (l:=CX) hN (λ_ h=>h) Y<|bf ?_
 obtain rfl:=O Re
 exact R1 Y
end
section
open Go.Fw Go.Fw.Z Go.RowKit
theorem DU{x0:List Nat}{x1:Nat}{r:Nat×List Nat}(h:lM x0 x1=some r):QU af 204 [.row 1000,.sv (.v (.int .u64 ((x1:Nat):Int)))] (TR 130 1 bh x0) (.sv (.v (.int .u64 ((r.1:Nat):Int)))) (List.flatMap bh r.2):=by
 refine CM Tryz.func204 Y (ae Y) Y Y (λdw M v0=>?_)
 unfold lM at h
 refine sr<|ag Y<|dn<|sr<|ag Y<|dn<|qq<|sr<|mo (s:=.row _) Y<|lE h λx9 h9 h=>lL Y Y h9<|lE h λdI gC h=>sb _ Y Y gC<|ag Y<|dn<|bE h λe8 Ko Ch=>?_
 refine bK (λ(Lk:Nat×(List Nat))=>AS.cj 34 [(5,.sv (.v (.int .u64 ((Lk.1:Nat):Int))))] [] [(1000,TR 130 1 bh Lk.2)]) (λLk=>Lk=e8) ?_ (λLk Mv=>?_)
 refine aY ?_
 refine bL Ko (λs8=>AS.cj 34 [(0,.row 1000),(1,.sv (.v (.int .u64 ((x1:Nat):Int)))),(5,.sv (.v (.int .u64 ((s8.1:Nat):Int)))),(6,ah s8.2.1)] [] [(1000,TR 130 1 bh s8.2.2)]) (wR []) (λs8 y8 G8 h Mw Mx=>?_)
 obtain⟨Wf,OD,zD⟩:=s8
 try dsimp only
 refine qq<|sr<|mv Y<|lE h λc9 fC h=>ge _ Y Y fC<|dn ?_
 cases c9
 refine cF<|bN<|aW.x<|aW.x<|bF.x<|aW.n ?_
 obtain rfl:=O (F h)
 exact⟨(Wf,zD),Mx _ Y,wR []⟩
 refine cT<|bw<|aW.n<|qq<|aY<|sr<|mv Y<|lE (V h) λfB lq h=>RT.shl .none _ Y Y T (by decide) (UK.shl (a:=Wf) (q:=32) (s:=32) Y lq)<|mo (s:=.row _) Y<|mv Y<|bE h λjl mw h=>iR Y Y Y mw<|bE h λij oG h=>lR Y Y oG Y<|lE h λfL ke h=>cv _ Y (UK.nat ke)<|lE h λiA oH h=>RT.or .none _ Y Y T (UK.or (a:=fB) (b:=fL) oH)<|ag Y<|dn<|sr<|mo (s:=.row _) Y ?_
 refine mv Y<|mv Y<|mv Y<|bE h λiO pN h=>RT.quo .none _ Y Y T (nzU pN) (UK.quo pN)<|lE h λkT uO h=>cv _ Y (UK.nat uO)<|bE h λgI mZ h=>iR Y Y Y mZ<|bE h λDL yI h=>sR kT Y Y Y Y yI<|dn<|aX<|mv Y<|mv Y<|bE h λiP pW h=>RT.rem .none _ Y Y T (nzR pW) (Z8 pW)<|ag Y<|RT.done<|bF.n<|aW.n<|aX<|mv Y<|lE h λei jx h=>sb _ Y Y jx ?_
 refine ag Y<|RT.done ?_
 obtain rfl:=O h
 exact aW.n ⟨(iP,ei,DL),Mw _ Y,wR []⟩
 subst Mv
 obtain⟨aiR,Hl⟩:=Lk
 try dsimp only
 refine aW.n<|sr<|mv Y<|ag Y<|dn<|bf<|bE Ch λ_ hle Ch=>?_
 obtain rfl:=O Ch
 exact⟨.inr Y,.sv (lu (.tmp Y (.nil)) aq),(by show _=qO.live ⟨130,1,x0.length,List.flatMap bh Hl⟩;rw[←sD hle];rfl)⟩
theorem C1{x0:List Nat}{x1:Nat}{r:List Nat}(h:iW x0 x1=some r):Pure af 211 [slc 1 (List.map bh x0),.v (.int .u64 ((x1:Nat):Int))] (slc 1 (List.map bh r)):=by
 refine bj Tryz.func211 Y (ae Y) (λdw M vs hvs=>?_)
 unfold iW at h
 refine sr<|aI Y (aB (n:=1) (e:=bh))<|dn<|sr<|RT.HZ .none (gY 0) Y ⟨Y,ak⟩ T Y Y<|an (s:=.kU _ _) Y<|dn<|sr<|mv Y<|lE h λfz lp h=>ln Y lp<|lE h λc9 fC h=>ad _ Y Y fC<|bE h λeD iF h=>RT.Lb (e:=bh) .none Y Y T Y T iF<|an (s:=.row _) Y<|dn<|qq<|sr<|mv Y<|lE h λdH gD h=>ln Y gD ?_
 refine mv Y<|dn<|bE h λe8 Ko Ch=>?_
 refine bK (λ(Lk:Nat×(List Nat))=>AS.cj 35 [(5,.kU 202 [.box 9]),(6,.row 302)] [(9,⟨128,[.sv (.v (.int .u64 ((Lk.1:Nat):Int)))]⟩)] [(302,TR 130 1 bh Lk.2)]) (λLk=>Lk=e8) ?_ (λLk Mv=>?_)
 refine aY ?_
 refine bL Ko (λs8=>AS.cj 35 [(1,.sv (.v (.int .u64 ((x1:Nat):Int)))),(5,.kU 202 [.box 9]),(6,.row 302),(14,.sv (slc 1 (List.map bh x0))),(15,ah dH),(16,ah s8.1)] [(9,⟨128,[.sv (.v (.int .u64 ((s8.2.1:Nat):Int)))]⟩)] [(302,TR 130 1 bh s8.2.2)]) (cD (λi=>bif Nat.beq i 302 then 13 else i) Y Y Y Y Y ⟨.sv aq,.kU,.row Y,.sv aq,.sv aq,.sv aq,ak⟩ ⟨⟨_,Y,⟨.sv aq,ak⟩⟩,ak⟩ ⟨⟨_,Y,cg.refl _⟩,ak⟩ (λi hi=>by rw[bV (show i≠302 by omega)];rfl)) (λs8 y8 G8 h Mw Mx=>?_)
 obtain⟨DM,zE,nV⟩:=s8
 try dsimp only
 refine sr<|lE h λdX jO h=>ls _ Y Y jO<|dn<|qq ?_
 cases dX
 refine cF<|bN<|aW.x<|aW.x<|bF.x<|aW.n ?_
 obtain rfl:=O (F h)
 exact⟨(zE,nV),Mx _ Y,wR []⟩
 refine cT<|bw<|aW.n<|qq<|aY<|sr<|bE (V h) λeX jK h=>ix Y Y jK<|lr Y Y<|ag Y<|dn<|aX<|mo (s:=.row _) Y<|mo (s:=.kU _ _) Y<|mv Y<|lE h λjg qP h=>cv _ Y (UK.nat qP)<|mv Y<|lE h λjG nO h=>RT.shl .none _ Y Y T (Int.natCast_nonneg _) (UK.shl (a:=jg) (q:=((x1:Nat):Int)) (s:=min x1 64) Y nO) ?_
 obtain⟨⟨jH,k10⟩,rV,h⟩:=bS h
 refine cB (dh rV) 9 Y ⟨Y,ak⟩<|bl (l:=[jH]) (e:=bh) (.one Y (.nil)) Y Y Y Y Y Y<|bE h λkT uO h=>aR (k:=[jH]) (e:=bh) Y Y Y uO<|an (s:=.row _) Y<|RT.done<|bF.n<|aW.n<|aX<|lE h λgI mZ h=>ad _ Y Y mZ<|mv Y<|RT.done ?_
 obtain rfl:=O h
 exact aW.n ⟨(gI,k10,kT),Mw _ Y,cD (λi=>bif Nat.beq i 302 then 28 else i) Y Y Y Y Y ⟨.sv aq,.kU,.row Y,.sv aq,.sv aq,.sv aq,ak⟩ ⟨⟨_,Y,⟨.sv aq,ak⟩⟩,ak⟩ ⟨⟨_,Y,cg.refl _⟩,ak⟩ (λi hi=>by rw[bV (show i≠302 by omega)];rfl)⟩
 subst Mv
 obtain⟨Ii,Wg⟩:=Lk
 try dsimp only
 refine aW.n<|sr<|mo (s:=.row _) Y<|mo (s:=.kU _ _) Y ?_
 obtain⟨⟨iP,k12⟩,pW,Ch⟩:=bS Ch
 refine cB (dh pW) 9 Y ⟨Y,ak⟩<|bl (l:=[iP]) (e:=bh) (.one Y (.nil)) Y Y Y Y Y Y<|bE Ch λsX xu Ch=>RT.Z9 (k:=[iP]) (e:=bh) .none Y Y Y T Y T xu<|ag Y<|dn<|bf ?_
 obtain rfl:=O Ch
 exact R1 Y
theorem Ci{x0:List Nat}{x1:Nat}{r:List Nat}(h:mL x0 x1=some r):GB af 211 [slc 1 (List.map bh x0),.v (.int .u64 ((x1:Nat):Int))] (TR 130 1 bh r):=by
 refine wh Tryz.func211 Y (ae Y) (λdw M vs hvs=>?_)
 unfold mL at h
 refine sr<|ag Y<|dn<|bR (c8 4 304 130 1 Y Y T)<|sr<|RT.HZ .none (gY 0) Y ⟨Y,ak⟩ T Y Y<|an (s:=.kU _ _) Y<|dn<|sr<|mv Y<|lE h λfz lp h=>ln Y lp<|lE h λc9 fC h=>ad _ Y Y fC<|bE h λeD iF h=>RT.Lb (e:=bh) .none Y Y T Y T iF<|an (s:=.row _) Y<|dn<|qq<|sr<|mv Y<|lE h λdH gD h=>ln Y gD ?_
 refine mv Y<|dn<|bE h λe8 Ko Ch=>?_
 refine bK (λ(Lk:Nat×(List Nat))=>AS.cj 35 [(5,.kU 202 [.box 9]),(6,.row 306)] [(9,⟨128,[.sv (.v (.int .u64 ((Lk.1:Nat):Int)))]⟩)] [(306,TR 130 1 bh Lk.2)]) (λLk=>Lk=e8) ?_ (λLk Mv=>?_)
 refine aY ?_
 refine bL Ko (λs8=>AS.cj 35 [(1,.sv (.v (.int .u64 ((x1:Nat):Int)))),(5,.kU 202 [.box 9]),(6,.row 306),(14,.sv (slc 1 (List.map bh x0))),(15,ah dH),(16,ah s8.1)] [(9,⟨128,[.sv (.v (.int .u64 ((s8.2.1:Nat):Int)))]⟩)] [(306,TR 130 1 bh s8.2.2)]) (cD (λi=>bif Nat.beq i 306 then 13 else i) Y Y Y Y Y ⟨.sv aq,.kU,.row Y,.sv aq,.sv aq,.sv aq,ak⟩ ⟨⟨_,Y,⟨.sv aq,ak⟩⟩,ak⟩ ⟨⟨_,Y,cg.refl _⟩,ak⟩ (λi hi=>by rw[bV (show i≠306 by omega)];rfl)) (λs8 y8 G8 h Mw Mx=>?_)
 obtain⟨DM,zE,yf⟩:=s8
 try dsimp only
 refine sr<|lE h λdX jO h=>ls _ Y Y jO<|dn<|qq ?_
 cases dX
 refine cF<|bN<|aW.x<|aW.x<|bF.x<|aW.n ?_
 obtain rfl:=O (F h)
 exact⟨(zE,yf),Mx _ Y,wR []⟩
 refine cT<|bw<|aW.n<|qq<|aY<|sr<|bE (V h) λeX jK h=>ix Y Y jK<|lr Y Y<|ag Y<|dn<|aX<|mo (s:=.row _) Y<|mo (s:=.kU _ _) Y<|mv Y<|lE h λjg qP h=>cv _ Y (UK.nat qP)<|mv Y<|lE h λjG nO h=>RT.shl .none _ Y Y T (Int.natCast_nonneg _) (UK.shl (a:=jg) (q:=((x1:Nat):Int)) (s:=min x1 64) Y nO) ?_
 obtain⟨⟨jH,k10⟩,rV,h⟩:=bS h
 refine cB (dh rV) 9 Y ⟨Y,ak⟩<|bl (l:=[jH]) (e:=bh) (.one Y (.nil)) Y Y Y Y Y Y<|bE h λkT uO h=>aR (k:=[jH]) (e:=bh) Y Y Y uO<|an (s:=.row _) Y<|RT.done<|bF.n<|aW.n<|aX<|lE h λgI mZ h=>ad _ Y Y mZ<|mv Y<|RT.done ?_
 obtain rfl:=O h
 exact aW.n ⟨(gI,k10,kT),Mw _ Y,cD (λi=>bif Nat.beq i 306 then 28 else i) Y Y Y Y Y ⟨.sv aq,.kU,.row Y,.sv aq,.sv aq,.sv aq,ak⟩ ⟨⟨_,Y,⟨.sv aq,ak⟩⟩,ak⟩ ⟨⟨_,Y,cg.refl _⟩,ak⟩ (λi hi=>by rw[bV (show i≠306 by omega)];rfl)⟩
 subst Mv
 obtain⟨Ii,yg⟩:=Lk
 try dsimp only
 refine aW.n<|sr<|mo (s:=.row _) Y<|mo (s:=.kU _ _) Y ?_
 obtain⟨⟨iP,k12⟩,pW,Ch⟩:=bS Ch
 refine cB (dh pW) 9 Y ⟨Y,ak⟩<|bl (l:=[iP]) (e:=bh) (.one Y (.nil)) Y Y Y Y Y Y<|bE Ch λsX xu Ch=>aR (k:=[iP]) (e:=bh) Y Y Y xu<|an (s:=.row _) Y<|dn<|bf ?_
 obtain rfl:=O Ch
 exact⟨.inr Y,_,.tmp Y,Y⟩
theorem C2{x0:Nat}{r:Int}(h:kx x0=some r):Pure af 215 [.v (.int .u32 ((x0:Nat):Int))] (ax r):=by
 refine bj Tryz.func215 Y (ae Y) (λdw M vs hvs=>?_)
 unfold kx at h
 refine sr<|ag Y<|dn<|qq<|sr<|mv Y<|lE h λx4 h4 h=>ge _ Y Y (leN (p:=65536) (q:=x0) h4)<|dn ?_
 refine bJ h (λj2=>AS.cj 19 [(0,.sv (.v (.int .u32 ((j2.1:Nat):Int)))),(2,ah j2.2)] [] []) (λh=>?_) (λj2 h=>?_)
 cases x4
 exact fs<|⟨(x0,0),(F h),wR []⟩
 exact cT<|sr<|mv Y<|lE (V h) λx6 h6 h=>RT.shr .none _ Y Y T (by decide) (Mh (k:=.u32) (a:=x0) (q:=16) (s:=16) Y h6)<|ag Y<|dn<|aX<|ag Y<|dn<|⟨(x6,16),h,wR []⟩
 obtain⟨Q5,aan⟩:=j2
 try dsimp only
 refine aW.n<|qq<|sr<|mv Y<|lE h λx8 h8 h=>ge _ Y Y (leN (p:=256) (q:=Q5) h8)<|dn ?_
 refine bJ h (λj4=>AS.cj 19 [(0,.sv (.v (.int .u32 ((j4.1:Nat):Int)))),(2,ah j4.2)] [] []) (λh=>?_) (λj4 h=>?_)
 cases x8
 exact fs<|⟨(Q5,aan),(F h),wR []⟩
 exact cT<|sr<|mv Y<|lE (V h) λdI gC h=>RT.shr .none _ Y Y T (by decide) (Mh (k:=.u32) (a:=Q5) (q:=8) (s:=8) Y gC)<|ag Y<|dn<|aX<|mv Y<|lE h λc9 fC h=>ad _ Y Y fC<|ag Y<|dn<|⟨(dI,c9),h,wR []⟩
 obtain⟨aiS,aiT⟩:=j4
 try dsimp only
 refine aW.n<|sr<|mv Y<|mv Y<|lE h λdH gD h=>cv _ Y (UK.nat gD)<|bE h λfB lq h=>?_
 refine RT.six (l:=[0,1,2,2,3,3,3,3,4,4,4,4,4,4,4,4,5,5,5,5,5,5,5,5,5,5,5,5,5,5,5,5,6,6,6,6,6,6,6,6,6,6,6,6,6,6,6,6,6,6,6,6,6,6,6,6,6,6,6,6,6,6,6,6,7,7,7,7,7,7,7,7,7,7,7,7,7,7,7,7,7,7,7,7,7,7,7,7,7,7,7,7,7,7,7,7,7,7,7,7,7,7,7,7,7,7,7,7,7,7,7,7,7,7,7,7,7,7,7,7,7,7,7,7,7,7,7,7,8,8,8,8,8,8,8,8,8,8,8,8,8,8,8,8,8,8,8,8,8,8,8,8,8,8,8,8,8,8,8,8,8,8,8,8,8,8,8,8,8,8,8,8,8,8,8,8,8,8,8,8,8,8,8,8,8,8,8,8,8,8,8,8,8,8,8,8,8,8,8,8,8,8,8,8,8,8,8,8,8,8,8,8,8,8,8,8,8,8,8,8,8,8,8,8,8,8,8,8,8,8,8,8,8,8,8,8,8,8,8,8,8,8,8,8,8,8,8,8,8,8,8,8,8,8,8,8]) .none Y Y T lq ?_
 refine lE h λdX jO h=>cv _ Y jO<|lE h λeX jK h=>ad _ Y Y jK<|ag Y<|dn<|bf ?_
 obtain rfl:=O h
 exact R1 Y
theorem vF{x0:Nat}{r:Int}(h:ff x0=some r):Pure af 210 [.v (.int .u32 ((x0:Nat):Int))] (ax r):=by
 refine bj Tryz.func210 Y (ae Y) (λdw M vs hvs=>?_)
 unfold ff at h
 refine sr<|ag Y<|dn<|sr<|mv Y<|bE h λx4 h4 h=>cl (C2 h4) ⟨Y,ak⟩<|lE h λx5 h5 h=>sb _ Y Y h5<|ag Y<|dn<|bf ?_
 obtain rfl:=O h
 exact R1 Y
theorem DV{x0:List Nat}{o0:Nat}{n0:Nat}{x1:List Nat}{r:Nat×List Nat}(h:lO x0 o0 n0 x1=some r):QU af 212 [.uW 1000 (o0*1) n0,.sv (slc 1 (List.map bh x1))] (TR 130 1 bh x0) (.sv (.v (.int .u64 ((r.1:Nat):Int)))) (List.flatMap bh r.2):=by
 refine CM Tryz.func212 Y (ae Y) Y Y (λdw M v0=>?_)
 unfold lO at h
 refine sr<|ag Y<|dn<|sr<|mv Y<|lE h λc9 fC h=>ln Y fC<|ag Y<|dn<|qq<|aZ mixed<|mo (s:=.uW _ _ _) Y<|mv Y<|bE h λdH gD h=>RT.Oy .none Y Y T gD<|bE h λfB lq h=>lR Y Y lq Y<|lE h λdX jO h=>cv _ Y (UK.nat jO)<|lE h λeX jK h=>RT.shl .none _ Y Y T (by decide) (UK.shl (a:=dX) (q:=32) (s:=32) Y jK)<|mo (s:=.uW _ _ _) Y ?_
 refine mv Y<|lE h λfL ke h=>sb _ Y Y ke<|bE h λiA oH h=>RT.Oy .none Y Y T oH<|bE h λjg qP h=>lR Y Y qP Y<|lE h λgX oY h=>cv _ Y (UK.nat oY)<|lE h λjG nO h=>RT.or .none _ Y Y T (UK.or (a:=eX) (b:=gX) nO)<|ag Y ?_
 refine RT.done ⟨by kernel_rfl,?_⟩
 refine aW.n<|qq<|aZ mixed<|mv Y<|mv Y<|lE h λkT uO h=>sb _ Y Y uO<|bE h λgI mZ h=>ix Y Y mZ<|lr Y Y<|lE h λnU yz h=>cv _ Y (UK.nat yz)<|mv Y<|mv Y<|lE h λsX xu h=>sb _ Y Y xu<|bE h λku vE h=>ix Y Y vE<|lr Y Y<|lE h λuG DW h=>cv _ Y (UK.nat DW)<|ag Y<|ag Y ?_
 refine RT.done ⟨by kernel_rfl,?_⟩
 refine aW.n<|qq<|aZ mixed<|mv Y<|mv Y<|bE h λnj vm h=>RT.quo .none _ Y Y T (nzU vm) (UK.quo vm)<|mv Y<|mv Y<|bE h λvf EX h=>RT.rem .none _ Y Y T (nzR EX) (Z8 EX)<|ag Y<|ag Y ?_
 refine RT.done ⟨by kernel_rfl,?_⟩
 refine aW.n<|qq<|bE h λFm yh pq=>?_
 refine bK (λ(Up:Nat)=>AS.cj 71 [(9,.sv (.v (.int .u64 ((Up:Nat):Int))))] [] [(1000,TR 130 1 bh x0)]) (λUp=>Up=Fm) ?_ (λUp yj=>?_)
 refine aY ?_
 refine bL yh (λuH=>AS.cj 71 [(0,.uW 1000 (o0*1) n0),(5,ah c9),(7,.sv (.v (.int .u64 ((nU:Nat):Int)))),(8,.sv (.v (.int .u64 ((uG:Nat):Int)))),(9,.sv (.v (.int .u64 ((uH.1:Nat):Int)))),(10,.sv (.v (.int .u64 ((uH.2:Nat):Int))))] [] [(1000,TR 130 1 bh x0)]) (wR []) (λuH ZD ZE h yl uN=>?_)
 obtain⟨Kj,Lg⟩:=uH
 try dsimp only
 refine qq<|qq ?_
 refine bJ h (λGI=>AS.cj 71 [(0,.uW 1000 (o0*1) n0),(5,ah c9),(7,.sv (.v (.int .u64 ((nU:Nat):Int)))),(8,.sv (.v (.int .u64 ((uG:Nat):Int)))),(9,.sv (.v (.int .u64 ((Kj:Nat):Int)))),(10,.sv (.v (.int .u64 ((Lg:Nat):Int)))),(61,ai GI)] [] [(1000,TR 130 1 bh x0)]) (λh=>?_) (λQ6 h=>?_)
 refine aX<|mv Y<|lE h λzu Io h=>RT.shr .none _ Y Y T (by decide) (Mh (k:=.u64) (a:=Kj) (q:=32) (s:=32) Y Io)<|lE h λvg h46 h=>ne _ Y Y (neN (p:=zu) (q:=0) h46)<|mv Y<|bE h λWi dD h=>?_
 cases vg
 refine gm Y<|gm Y<|lE (F dD) λAB Kn dD=>RT.mul (.some Y Y) _ Y Y T (UK.mul (a:=Kj) (b:=uG) Kn)<|gm Y<|lE dD λAD GL dD=>RT.shl (.some Y Y) _ Y Y T (by decide) (UK.shl (a:=Lg) (q:=32) (s:=32) Y GL)<|RT.move (.some Y Y) (s:=.uW _ _ _) Y T<|gm Y<|lE dD λAE OO dD=>RT.sub (.some Y Y) _ Y Y T OO<|bE dD λJ2 Mu dD=>RT.Oy (.some Y Y) Y Y T Mu<|bE dD λN3 Ww dD=>RT.Mk (.some Y Y) Y Y Ww Y T ?_
 refine lE dD λAx Rg dD=>RT.conv (.some Y Y) _ Y T (UK.nat Rg)<|lE dD λUo h59 dD=>RT.or (.some Y Y) _ Y Y T (UK.or (a:=AD) (b:=Ax) h59)<|lE dD λDx N5 dD=>gg _ Y Y (ltN (p:=Uo) (q:=AB) N5) ?_
 obtain rfl:=O dD
 exact pF Y<|dn<|⟨Dx,h,wR []⟩
 obtain rfl:=O (V dD)
 exact ww<|ww<|ww<|ww<|ww<|ww<|ww<|ww<|ww<|ww<|ww<|ww<|ww<|pT Y<|dn<|⟨true,h,wR []⟩
 try dsimp only
 refine aW.n ?_
 cases Q6
 refine cF<|bN<|aW.x<|aW.x<|bF.x<|aW.n ?_
 obtain rfl:=O (F h)
 exact⟨Kj,uN _ Y,wR []⟩
 refine cT<|bw<|aW.n<|aY<|sr<|mv Y<|lE (V h) λx63 h63 h=>sb _ Y Y (UK.sub (a:=Kj) (b:=1) h63)<|ag Y<|dn<|sr<|mv Y<|mv Y<|lE h λQ7 h66 h=>ad _ Y Y (UK.add (a:=Lg) (b:=nU) h66)<|ag Y<|dn<|sr<|mv Y<|lE h λQ8 h68 h=>RT.shr .none _ Y Y T (by decide) (Mh (k:=.u64) (a:=Q7) (q:=32) (s:=32) Y h68)<|lE h λWh h69 h=>ne _ Y Y (neN (p:=Q8) (q:=0) h69) ?_
 refine dn ?_
 cases Wh
 refine cF<|bw<|bF.n ?_
 obtain rfl:=O (F h)
 exact aW.n ⟨(x63,Q7),yl _ Y,wR []⟩
 refine cT<|bN<|bF.y (by decide)<|aW.x<|bF.x<|aW.n ?_
 obtain rfl:=O (V h)
 exact⟨x63,uN _ Y,wR []⟩
 subst yj
 try dsimp only
 refine aW.n<|sr<|mv Y<|ag Y<|dn<|bf<|bE pq λ_ hle pq=>?_
 obtain rfl:=O pq
 exact⟨.inr Y,.sv (lu (.tmp Y (.nil)) aq),(by show _=qO.live ⟨130,1,x0.length,List.flatMap bh x0⟩;rw[←sD hle];rfl)⟩
theorem xw{x0:List Nat}{o0:Nat}{n0:Nat}{x1:List Nat}{x2:Nat}{r:Bool×List Nat}(h:eK x0 o0 n0 x1 x2=some r):QU af 213 [.uW 1000 (o0*1) n0,.sv (slc 1 (List.map bh x1)),.sv (.v (.int .u64 ((x2:Nat):Int)))] (TR 130 1 bh x0) (ai r.1) (List.flatMap bh r.2):=by
 refine CM Tryz.func213 Y (ae Y) Y Y (λdw M v0=>?_)
 unfold eK at h
 refine sr<|ag Y<|dn<|sr<|ag Y<|dn<|sr<|RT.HZ .none (gY 0) Y ⟨Y,ak⟩ T Y Y<|an (s:=.kU _ _) Y<|dn<|qq<|sr<|mo (s:=.uW _ _ _) Y<|lE h λei jx h=>RT.aeR .none Y T jx<|mv Y<|dn<|bE h λUr My tW=>?_
 refine bK (λ(Fo:Nat×(List Nat))=>AS.cj 51 [(7,.sv (.v (.int .u64 ((Fo.1:Nat):Int))))] [] [(1000,TR 130 1 bh Fo.2)]) (λFo=>Fo=Ur) ?_ (λFo Mz=>?_)
 refine aY ?_
 refine bL My (λAd=>AS.cj 51 [(0,.uW 1000 (o0*1) n0),(1,.sv (slc 1 (List.map bh x1))),(2,.sv (.v (.int .u64 ((x2:Nat):Int)))),(7,.sv (.v (.int .u64 ((Ad.1:Nat):Int)))),(8,.kU 202 [.box 12]),(14,ah ei),(15,ah Ad.2.1)] [(12,⟨128,[.sv (.v (.int .u64 ((Ad.2.2.1:Nat):Int)))]⟩)] [(1000,TR 130 1 bh Ad.2.2.2)]) (wR []) (λAd y12 G12 h MA MB=>?_)
 obtain⟨Uq,DN,Mr,BU⟩:=Ad
 try dsimp only
 refine sr<|lE h λfB lq h=>ls _ Y Y lq<|dn<|qq ?_
 cases fB
 refine cF<|bN<|aW.x<|aW.x<|bF.x<|aW.n ?_
 obtain rfl:=O (F h)
 exact⟨(Uq,BU),MB _ Y,wR []⟩
 refine cT<|bw<|aW.n<|qq<|aY<|sr<|mv Y<|ag Y<|dn<|sr<|ag Y<|dn<|qq<|sr<|mv Y<|mv Y<|lE (V h) λij oG h=>ln Y oG<|lE h λfL ke h=>ls _ Y Y ke<|dn ?_
 refine bJ h (λj14=>AS.cj 51 [(0,.uW 1000 (o0*1) n0),(1,.sv (slc 1 (List.map bh x1))),(2,.sv (.v (.int .u64 ((x2:Nat):Int)))),(7,.sv (.v (.int .u64 ((Uq:Nat):Int)))),(8,.kU 202 [.box 12]),(9,ah DN),(10,.sv (.v (.int .u64 ((j14:Nat):Int)))),(14,ah ei),(15,ah DN)] [(12,⟨128,[.sv (.v (.int .u64 ((Mr:Nat):Int)))]⟩)] [(1000,TR 130 1 bh BU)]) (λh=>?_) (λWj h=>?_)
 cases fL
 exact fs<|⟨0,(F h),wR []⟩
 exact cT<|aX<|mv Y<|mv Y<|bE (V h) λgX oY h=>ix Y Y oY<|lr Y Y<|lE h λjH rV h=>cv _ Y (UK.nat rV)<|mv Y<|lE h λkT uO h=>RT.mul .none _ Y Y T (UK.mul (a:=jH) (b:=x2) uO)<|ag Y<|dn<|⟨kT,h,wR []⟩
 try dsimp only
 refine aW.n<|qq<|aZ mixed<|mo (s:=.uW _ _ _) Y<|mv Y<|bE h λnU yz h=>RT.Oy .none Y Y T yz<|bE h λiP pW h=>lR Y Y pW Y<|lE h λoD xp h=>cv _ Y (UK.nat xp)<|mo (s:=.kU _ _) Y<|mv Y ?_
 obtain⟨⟨pg,k16⟩,yJ,h⟩:=bS h
 refine cB (dh yJ) 12 Y ⟨Y,ak⟩<|lE h λuG DW h=>cv _ Y (UK.nat DW)<|lE h λqX Ay h=>sb _ Y Y (UK.sub (a:=oD) (b:=uG) Ay)<|mv Y<|lE h λnj vm h=>sb _ Y Y (UK.sub (a:=qX) (b:=Uq) vm)<|ag Y ?_
 refine RT.done ⟨by kernel_rfl,?_⟩
 refine aW.n<|sr<|mo (s:=.uW _ _ _) Y<|mv Y<|mv Y<|lE h λsj Az h=>cv _ Y (UK.nat Az)<|bE h λzu Io h=>RT.Oy .none Y Y T Io<|bE h λl18 ai9 h=>sR sj Y Y Y Y ai9<|dn<|aX<|mv Y<|lE h λsE zH h=>RT.shr .none _ Y Y T (by decide) (Mh (k:=.u64) (a:=nj) (q:=63) (s:=63) Y zH)<|ag Y<|RT.done<|bF.n<|aW.n<|aX<|lE h λr9 h48 h=>ad _ Y Y h48<|mv Y<|RT.done ?_
 obtain rfl:=O h
 exact aW.n ⟨(sE,r9,k16,l18),MA _ Y,wR []⟩
 subst Mz
 obtain⟨Wk,DO⟩:=Fo
 try dsimp only
 refine aW.n<|sr<|mv Y<|lE tW λAB Kn tW=>ne _ Y Y (neN (p:=Wk) (q:=0) Kn)<|ag Y<|dn<|bf<|bE tW λ_ hle tW=>?_
 obtain rfl:=O tW
 exact⟨.inr Y,.sv (lu (.tmp Y (.nil)) aq),(by show _=qO.live ⟨130,1,x0.length,List.flatMap bh DO⟩;rw[←sD hle];rfl)⟩
set_option maxHeartbeats 4000000 in
theorem Fp{x0:List Nat}{x1:List Nat}(N:Nat){r:(List Nat)×(List Nat)}(h:m7 x0 x1=some r):dK af 205 N [slc 1 (List.map bh x0),slc 1 (List.map bh x1)] (.Ce [nw N (slc 1 (List.map bh r.1)),nw N (slc 1 (List.map bh r.2))]):=by
 refine bU Tryz.func205 Y (ae Y) (λdw M vs hN hvs=>?_)
 unfold m7 at h
 refine sr<|ag Y<|ag Y<|dn<|bR (c8 4 306 130 1 Y Y T)<|bR (c8 5 308 130 1 Y Y T)<|sr<|mv Y<|lE h λdX jO h=>ln Y jO<|ag Y<|dn<|sr<|mv Y<|mv Y<|lE h λij oG h=>sb _ Y Y oG<|bE h λfL ke h=>ix Y Y ke<|lr Y Y<|bE h λjg qP h=>cl (vF qP) ⟨Y,ak⟩ ?_
 refine lE h λgX oY h=>cv _ Y (UK.conv oY)<|ag Y<|dn<|qq<|aZ mixed<|mv Y<|mv Y<|bE h λiO pN h=>cN (Ci pN) ⟨Y,Y,ak⟩<|mv Y<|mv Y<|bE h λoF vD h=>cl (C1 vD) ⟨Y,Y,ak⟩<|mv Y<|bE h λiP pW h=>RT.Ic .none 0 dX Y Y ⟨_,Y⟩ T pW<|an (s:=.row _) Y<|ag Y ?_
 refine RT.done ⟨by kernel_rfl,?_⟩
 refine aW.n<|sr<|mv Y<|lE h λsX xu h=>ln Y xu<|mv Y<|lE h λpg yJ h=>sb _ Y Y yJ<|lE h λuG DW h=>ad _ Y Y DW<|bE h λqX Ay h=>RT.tK (n:=1) (e:=bh) .none Y Y T Y T (by rfl) (by decide) (by exact⟨aq,ak⟩) Ay<|an (s:=.row _) Y<|dn<|qq<|sr<|mv Y<|lE h λnj vm h=>ln Y vm<|mv Y<|lE h λnE ym h=>sb _ Y Y ym ?_
 refine ag Y<|dn<|bE h λe36 am2 afh=>?_
 refine bK (λ(Uv:(List Nat)×(List Nat))=>AS.cj 141 [(4,.row 38),(6,ah dX),(7,.sv (.v (.int .u64 ((gX:Nat):Int)))),(8,.row 27)] [] [(38,TR 130 1 bh Uv.1),(27,TR 130 1 bh Uv.2)]) (λUv=>Uv=e36) ?_ (λUv am3=>?_)
 refine aY ?_
 refine bL am2 (λs36=>AS.cj 141 [(4,.row 38),(6,ah dX),(7,.sv (.v (.int .u64 ((gX:Nat):Int)))),(8,.row 27),(9,.sv (slc 1 (List.map bh iP))),(10,ah s36.1)] [] [(38,TR 130 1 bh s36.2.1),(27,TR 130 1 bh s36.2.2)]) (wR []) (λs36 y36 G36 h am4 am5=>?_)
 obtain⟨nW,AU,CY⟩:=s36
 try dsimp only
 refine qq<|sr<|mv Y<|lE h λsj Az h=>ge _ Y Y Az<|dn ?_
 cases sj
 refine cF<|bN<|aW.x<|aW.x<|bF.x<|aW.n ?_
 obtain rfl:=O (F h)
 exact⟨(AU,CY),am5 _ Y,wR []⟩
 refine cT<|bw<|aW.n<|qq<|aY<|sr<|mo (s:=.row _) Y<|mv Y<|mv Y<|mv Y<|lE (V h) λBT Ip h=>ad _ Y Y Ip<|lE h λAD GL h=>ad _ Y Y GL ?_
 obtain⟨⟨o53,n53⟩,Rh,h⟩:=bS h
 refine RT.aiE .none nW AD Y Y ⟨_,Y⟩ ⟨_,Y⟩ T Rh<|mv Y ?_
 obtain⟨⟨AE,l38⟩,OO,h⟩:=bS h
 refine bE h λ_ am6 h=>cR (l:=CY) (l':=l38) (e:=bh) (DV OO) (sD am6) 27 Y (.k2 Y Y)<|ag Y<|dn<|qq<|sr<|mo (s:=.row _) Y<|mv Y<|mv Y<|mv Y<|lE h λDx N5 h=>ad _ Y Y N5<|lE h λQ4 h61 h=>ad _ Y Y h61 ?_
 obtain⟨⟨o62,n62⟩,Wx,h⟩:=bS h
 refine RT.aiE .none nW Q4 Y Y ⟨_,Y⟩ ⟨_,Y⟩ T Wx<|mv Y<|mv Y ?_
 obtain⟨⟨N4,ZC⟩,Vs,h⟩:=bS h
 refine bE h λ_ am7 h=>cR (l:=l38) (l':=ZC) (e:=bh) (xw Vs) (sD am7) 27 Y (.k3 Y Y Y)<|dn ?_
 refine bJ h (λj53=>AS.cj 141 [(4,.row 38),(6,ah dX),(7,.sv (.v (.int .u64 ((gX:Nat):Int)))),(8,.row 27),(9,.sv (slc 1 (List.map bh iP))),(10,ah nW),(11,.sv (.v (.int .u64 ((j53.1:Nat):Int))))] [] [(38,TR 130 1 bh AU),(27,TR 130 1 bh j53.2)]) (λh=>?_) (λj53 h=>?_)
 cases N4
 exact fs<|⟨(AE,ZC),(F h),wR []⟩
 refine cT<|sr<|mv Y<|lE (V h) λx67 h67 h=>sb _ Y Y (UK.sub (a:=AE) (b:=1) h67)<|ag Y<|dn<|sr<|RT.HZ .none (gY 0) Y ⟨Y,ak⟩ T Y Y<|an (s:=.kU _ _) Y<|dn<|qq<|sr<|mv Y<|lE h λJ3 h70 h=>ln Y h70<|mv Y<|dn<|bE h λe65 am8 A7=>?_
 refine bK (λ(Uw:Nat×(List Nat))=>AS.cj 141 [(4,.row 38),(6,ah dX),(7,.sv (.v (.int .u64 ((gX:Nat):Int)))),(8,.row 27),(9,.sv (slc 1 (List.map bh iP))),(10,ah nW),(11,.sv (.v (.int .u64 ((x67:Nat):Int)))),(12,.kU 202 [.box 68])] [(68,⟨128,[.sv (.v (.int .u64 ((Uw.1:Nat):Int)))]⟩)] [(38,TR 130 1 bh AU),(27,TR 130 1 bh Uw.2)]) (λUw=>Uw=e65) ?_ (λUw am9=>?_)
 refine aY ?_
 refine bL am8 (λs65=>AS.cj 141 [(4,.row 38),(6,ah dX),(7,.sv (.v (.int .u64 ((gX:Nat):Int)))),(8,.row 27),(9,.sv (slc 1 (List.map bh iP))),(10,ah nW),(11,.sv (.v (.int .u64 ((x67:Nat):Int)))),(12,.kU 202 [.box 68]),(69,.sv (slc 1 (List.map bh iP))),(70,ah J3),(71,ah s65.1)] [(68,⟨128,[.sv (.v (.int .u64 ((s65.2.1:Nat):Int)))]⟩)] [(38,TR 130 1 bh AU),(27,TR 130 1 bh s65.2.2)]) (wR []) (λs65 y65 G65 h ana anb=>?_)
 obtain⟨Fj,DP,CZ⟩:=s65
 try dsimp only
 refine sr<|lE h λUs h72 h=>ls _ Y Y h72<|dn<|qq ?_
 cases Us
 refine cF<|bN<|aW.x<|aW.x<|bF.x<|aW.n ?_
 obtain rfl:=O (F h)
 exact⟨(DP,CZ),anb _ Y,wR []⟩
 refine cT<|bw<|aW.n<|qq<|aY<|sr<|mv Y<|bE (V h) λx74 h74 h=>ix Y Y h74<|lr Y Y<|ag Y<|ag Y<|dn<|aX<|mo (s:=.row _) Y<|mv Y<|mv Y<|lE h λF7 Ux h=>ad _ Y Y Ux<|mo (s:=.kU _ _) Y<|mo (s:=.row _) Y<|mv Y<|mv Y<|lE h λJ4 h84 h=>ad _ Y Y h84<|bE h λx85 h85 h=>iR Y Y Y h85 ?_
 refine bE h λRa h86 h=>lR Y Y h86 Y<|lE h λIj h87 h=>cv _ Y (UK.nat h87)<|mv Y<|lE h λx89 h89 h=>cv _ Y (UK.nat h89)<|lE h λVr h90 h=>ad _ Y Y (UK.add (a:=Ij) (b:=x89) h90) ?_
 obtain⟨⟨x91,k68⟩,h91,h⟩:=bS h
 refine cB (dh h91) 68 Y ⟨Y,ak⟩<|bE h λx92 h92 h=>iR Y Y Y h92<|bE h λl69 ajd h=>sR x91 Y Y Y Y ajd<|RT.done<|bF.n<|aW.n<|aX<|lE h λOE h93 h=>ad _ Y Y h93<|mv Y<|RT.done ?_
 obtain rfl:=O h
 exact aW.n ⟨(OE,k68,l69),ana _ Y,wR []⟩
 subst am9
 obtain⟨OF,Ik⟩:=Uw
 try dsimp only
 refine aW.n<|aX<|mo (s:=.row _) Y<|mv Y<|mv Y<|lE A7 λx97 h97 A7=>ad _ Y Y h97<|mo (s:=.kU _ _) Y<|mo (s:=.row _) Y<|mv Y<|mv Y<|lE A7 λKk Wy A7=>ad _ Y Y Wy<|bE A7 λKl Wz A7=>iR Y Y Y Wz<|bE A7 λKm WA A7=>lR Y Y WA Y<|lE A7 λUt afm A7=>cv _ Y (UK.nat afm) ?_
 obtain⟨⟨aeY,k72⟩,anh,A7⟩:=bS A7
 exact cB (dh anh) 68 Y ⟨Y,ak⟩<|bE A7 λaiW ani A7=>iR Y Y Y ani<|bE A7 λl73 aje A7=>sR aeY Y Y Y Y aje<|dn<|⟨(x67,l73),A7,wR []⟩
 obtain⟨Wm,Q9⟩:=j53
 try dsimp only
 refine aW.n<|aX<|mo (s:=.row _) Y<|mv Y<|mv Y<|lE h λAW Ri h=>cv _ Y (UK.nat Ri)<|bE h λaiU anj h=>iR Y Y Y anj<|bE h λl55 ajf h=>sR AW Y Y Y Y ajf<|RT.done<|bF.n<|aW.n<|aX<|mv Y<|lE h λvg h46 h=>sb _ Y Y h46<|ag Y<|RT.done ?_
 obtain rfl:=O h
 exact aW.n ⟨(vg,l55,Q9),am4 _ Y,wR []⟩
 subst am3
 obtain⟨Il,Fk⟩:=Uv
 try dsimp only
 refine aW.n<|sr<|mv Y<|bE afh λRb afn afh=>RT.tK (n:=1) (e:=bh) .none Y Y T Y T (by rfl) (by decide) (by exact⟨aq,ak⟩) afn<|an (s:=.row _) Y<|dn<|qq<|sr<|mv Y<|mv Y<|dn<|bE afh λe81 ank anl=>?_
 refine bK (λ(zG:(List Nat))=>AS.cj 141 [(4,.row 38),(5,.row 114)] [] [(38,TR 130 1 bh Il),(114,TR 130 1 bh zG)]) (λzG=>zG=e81) ?_ (λzG anm=>?_)
 refine aY ?_
 refine bL ank (λs81=>AS.cj 141 [(4,.row 38),(5,.row 114),(7,.sv (.v (.int .u64 ((gX:Nat):Int)))),(8,.row 27),(115,ah dX),(116,ah s81.1)] [] [(38,TR 130 1 bh Il),(114,TR 130 1 bh s81.2),(27,TR 130 1 bh Fk)]) (wR []) (λs81 y81 G81 h ann ano=>?_)
 obtain⟨BV,DQ⟩:=s81
 try dsimp only
 refine sr<|lE h λDR Rj h=>ls _ Y Y Rj<|dn<|qq ?_
 cases DR
 refine cF<|bN<|aW.x<|aW.x<|bF.x<|aW.n ?_
 obtain rfl:=O (F h)
 exact⟨DQ,ano _ Y,wR []⟩
 refine cT<|bw<|aW.n<|qq<|aY<|sr<|mv Y<|ag Y<|dn<|aZ mixed<|mo (s:=.row _) Y<|mv Y<|mo (s:=.row _) Y<|mv Y<|bE (V h) λaiX anp h=>iR Y Y Y anp<|bE h λaiY Rk h=>lR Y Y Rk Y<|lE h λAX Rl h=>cv _ Y (UK.nat Rl)<|mo (s:=.row _) Y<|mv Y<|lE h λaiZ h128 h=>ad _ Y Y h128<|bE h λai0 anq h=>?_
 refine iR Y Y Y anq<|bE h λai1 anr h=>lR Y Y anr Y<|lE h λaeZ ans h=>cv _ Y (UK.nat ans)<|lE h λae0 ant h=>RT.shl .none _ Y Y T (by decide) (UK.shl (a:=aeZ) (q:=32) (s:=32) Y ant)<|lE h λae1 anu h=>RT.or .none _ Y Y T (UK.or (a:=AX) (b:=ae0) anu)<|mv Y<|lE h λai2 anv h=>RT.shr .none _ Y Y T (Int.natCast_nonneg _) (Mh (k:=.u64) (a:=ae1) (q:=((gX:Nat):Int)) (s:=min gX 64) Y anv)<|lE h λae2 anw h=>cv _ Y (UK.nat anw) ?_
 refine bE h λai3 anx h=>iR Y Y Y anx<|bE h λl83 ajg h=>sR ae2 Y Y Y Y ajg ?_
 refine RT.done ⟨by kernel_rfl,?_⟩
 refine bF.n<|aW.n<|aX<|lE h λae3 anz h=>ad _ Y Y anz<|mv Y<|RT.done ?_
 obtain rfl:=O h
 exact aW.n ⟨(ae3,l83),ann _ Y,wR []⟩
 subst anm
 try dsimp only
 refine aW.n<|sr<|mo (s:=.row _) Y<|mo (s:=.row _) Y<|an (s:=.row _) Y<|an (s:=.row _) Y<|dn<|lz (i:=38) (E1:=130) (n:=1) (e:=bh) (l:=Il) hN (λ_ h=>h) Y<|lz (i:=114) (E1:=130) (n:=1) (e:=bh) (l:=zG) hN (λ_ h=>h) Y<|bf ?_
 obtain rfl:=O anl
 exact R2 Y Y
theorem uP{x0:List Nat}(N:Nat){r:List Nat}(h:gH x0=some r):dK af 175 N [slc 1 (List.map bh x0)] (nw N (slc 1 (List.map bh r))):=aal (yH h)
theorem xE{x0:List Nat}{x1:List Nat}(N:Nat){r:(List Nat)×(List Nat)}(h:jJ x0 x1=some r):dK af 193 N [slc 1 (List.map bh x0),slc 1 (List.map bh x1)] (.Ce [nw N (slc 1 (List.map bh r.1)),nw N (slc 1 (List.map bh r.2))]):=by
 refine bU Tryz.func193 Y (ae Y) (λdw M vs hN hvs=>?_)
 unfold jJ at h
 refine sr<|ag Y<|aI Y (bu (N:=N) (n:=1) (e:=bh))<|dn<|bR (c8 4 304 130 1 Y Y T)<|qq<|aY<|sr<|mv Y<|mv Y<|bE h λc9 fC h=>cl (jY fC) ⟨Y,Y,ak⟩<|lE h λeD iF h=>ls _ Y Y iF<|ag Y<|dn ?_
 cases eD
 refine cF<|sr<|mv Y<|lE (F h) λeX jK h=>ln Y jK<|lE h λjl mw h=>RT.leq .none _ Y Y T mw<|ag Y<|dn ?_
 cases jl
 refine cF<|sr<|mv Y<|lE (F h) λpg yJ h=>ln Y yJ<|lE h λuG DW h=>eq _ Y Y (ve (p:=pg) (q:=1) DW)<|ag Y<|dn ?_
 cases uG
 refine cF<|bw<|bF.n<|aW.n<|sr<|mv Y<|mv Y ?_
 obtain⟨⟨ai4,ai5⟩,GL,h⟩:=bS (F h)
 refine RT.bZ .none (Fp N GL) hN Y ⟨Y,Y,ak⟩ T<|ex Y Y<|ex Y Y<|ag Y<|ag Y<|dn<|bf ?_
 obtain rfl:=O h
 exact R2 Y Y
 refine cT<|sr<|mv Y<|bE (V h) λvY DX h=>cN (yH DX) ⟨Y,ak⟩<|an (s:=.row _) Y<|dn<|sr<|mo (s:=.row _) Y<|mv Y<|bE h λnE ym h=>ix Y Y ym<|lr Y Y<|lE h λsj Az h=>cv _ Y (UK.nat Az) ?_
 obtain⟨⟨zu,l5⟩,Io,h⟩:=bS h
 refine bE h λ_ he5 h=>cR (l:=vY) (l':=l5) (e:=bh) (DU Io) (sD he5) 39 Y (.k2 Y Y)<|ag Y<|dn<|sr<|mo (s:=.row _) Y<|mv Y<|lE h λr9 h48 h=>cv _ Y (UK.nat h48)<|RT.DI (l:=[r9]) (e:=bh) .none hN (.one Y (.nil)) T Y Y Y Y Y Y<|an (s:=.row _) Y<|ag Y<|dn<|lz (i:=39) (E1:=130) (n:=1) (e:=bh) (l:=l5) hN (λ_ h=>h) Y ?_
 refine bf<|bF.r<|aW.r ?_
 obtain rfl:=O h
 exact R2 Y Y
 refine cT<|sr<|mv Y<|bE (V h) λfL ke h=>cl (mM ke) ⟨Y,ak⟩<|mv Y<|bE h λjg qP h=>cl (mM qP) ⟨Y,ak⟩<|ag Y<|ag Y<|dn<|qq<|aZ mixed<|mv Y<|mv Y<|bE h λjH rV h=>RT.quo .none _ Y Y T (nzU rV) (UK.quo rV) ?_
 obtain⟨⟨S3,OG⟩,pN,h⟩:=bS h
 refine RT.bZ .none (nX N pN) hN Y ⟨Y,Y,ak⟩ T<|fl Y Y<|mv Y<|mv Y<|bE h λnU yz h=>RT.rem .none _ Y Y T (nzR yz) (Z8 yz) ?_
 obtain⟨⟨yG,xC⟩,pW,h⟩:=bS h
 refine RT.bZ .none (nX N pW) hN Y ⟨Y,Y,ak⟩ T<|fl Y Y<|ag Y<|ag Y ?_
 refine RT.done ⟨by kernel_rfl,?_⟩
 refine aW.n<|bf<|bF.r<|aW.r ?_
 obtain rfl:=O h
 exact R2 Y Y
 refine cT<|sr<|mv Y<|bE (V h) λdH gD h=>RT.bZ .none (uP N gD) hN Y ⟨Y,ak⟩ T<|ag Y<|ag Y<|dn<|bR (c8 4 310 130 1 Y Y T)<|lz (i:=310) (E1:=130) (n:=1) (e:=bh) (l:=[]) hN (λ_ h=>h) Y<|bf<|bF.r<|aW.r ?_
 obtain rfl:=O h
 exact R2 Y Y
end
section
open Go.Fw Go.Fw.Z Go.RowKit
theorem fY{x0:Int}(N:Nat){r:Zr}(h:cW x0=some r):dK af 90 N [ax x0] (.agg ((fZ N) r)):=by
 refine bU Tryz.func90 Y (ae Y) (λdw M vs hN hvs=>?_)
 unfold cW at h
 refine sr<|al (cs:=[ay false,nw N au]) (by exact⟨aq,bu,ak⟩) Y<|dn<|sr<|mv Y<|lE h λx5 h5 h=>cv _ Y (UK.conv h5)<|ag Y<|dn<|qq<|sr<|mv Y<|lE h λx7 h7 h=>ls _ Y Y h7<|dn ?_
 refine bJ h (λj2=>AS.cj 14 [(0,ah x0),(2,.ptr 2 0),(3,.sv (.v (.int .u64 ((j2:Nat):Int))))] [(2,⟨41,[ai false,.sv (nw N au)]⟩)] []) (λh=>?_) (λOH h=>?_)
 cases x7
 exact fs<|⟨x5,(F h),wR []⟩
 exact cT<|aX<|mv Y<|lE (V h) λx9 h9 h=>RT.neg .none _ Y T (UK.neg h9)<|ag Y<|dn<|⟨x9,h,wR []⟩
 try dsimp only
 refine aW.n<|sr<|mv Y<|lE h λfz lp h=>ls _ Y Y lp<|mv Y ?_
 obtain⟨⟨AY,AZ⟩,iF,h⟩:=bS h
 refine RT.bZ .none (nX N iF) hN Y ⟨Y,Y,ak⟩ T<|so Y Y Y<|dn<|bf ?_
 obtain rfl:=O h
 exact RZ (.agg Y Y (.k2 Y Y) Y (.nil))
theorem C3{x0:Int}{r:Zr}(h:cW x0=some r):Pure af 90 [ax x0] (.agg (eZ r)):=eT (λN=>fY N h) (λN=>(SV.fT (zI _ _)))
theorem jP{x0:Zr}{r:Int×Bool}(h:fj x0=some r):Pure af 166 [.agg (eZ x0)] (.Ce [ax r.1,ay r.2]):=by
 obtain⟨bk,bn⟩:=x0
 refine bj Tryz.func166 Y (ae Y) (λdw M vs hvs=>?_)
 unfold fj at h
 refine sr<|bx Y<|ag Y<|ag Y<|dn<|sr<|fa Y Y<|lV Y Y Y<|bE h λx8 h8 h=>cl (dx h8) ⟨Y,ak⟩<|ag Y<|dn<|qq<|sr<|mv Y<|lE h λdI gC h=>ln Y gC<|lE h λfz lp h=>gt _ Y Y lp<|dn ?_
 cases fz
 refine fs<|sr<|mv Y<|bE (F h) λeD iF h=>cl (mM iF) ⟨Y,ak⟩<|ag Y<|dn<|qq<|sr<|fa Y Y<|lV Y Y Y<|dn ?_
 cases bk
 refine fs<|qq<|sr<|mv Y<|lE (F h) λiA oH h=>ge _ Y Y (leN (p:=9223372036854775808) (q:=eD) oH)<|dn ?_
 cases iA
 refine fs<|sr<|mv Y<|lE (F h) λgX oY h=>cv _ Y oY<|ag Y<|ag Y<|dn<|bf ?_
 obtain rfl:=O h
 exact R2 Y Y
 refine cT<|sr<|ag Y<|ag Y<|dn<|bf<|aW.r ?_
 obtain rfl:=O (V h)
 exact R2 Y Y
 refine cT<|qq<|sr<|mv Y<|lE (V h) λdX jO h=>gt _ Y Y (ltN (p:=9223372036854775808) (q:=eD) jO)<|dn ?_
 cases dX
 refine fs<|sr<|mv Y<|lE (F h) λjl mw h=>RT.neg .none _ Y T (UK.neg mw)<|lE h λij oG h=>cv _ Y oG<|ag Y<|ag Y<|dn<|bf<|aW.r ?_
 obtain rfl:=O h
 exact R2 Y Y
 refine cT<|sr<|ag Y<|ag Y<|dn<|bf<|aW.r<|aW.r ?_
 obtain rfl:=O (V h)
 exact R2 Y Y
 refine cT<|sr<|ag Y<|ag Y<|dn<|bf<|aW.r ?_
 obtain rfl:=O (V h)
 exact R2 Y Y
theorem yn{x0:List Nat}(N:Nat){r:List Nat}(h:bP x0=some r):dK af 144 N [nw N (slc 1 (List.map bh x0))] (nw N (slc 1 (List.map bh r))):=by
 refine bU Tryz.func144 Y (ae Y) (λdw M vs hN hvs=>?_)
 unfold bP at h
 refine sr<|aI Y (bu (N:=N) (n:=1) (e:=bh))<|dn<|qq<|bE h λFm yh pq=>?_
 refine bK (λ(Ih:(List Nat))=>AS.cj 21 [(0,.sv (nw N (slc 1 (List.map bh Ih))))] [] []) (λIh=>Ih=Fm) ?_ (λIh yj=>?_)
 refine aY ?_
 refine bL yh (λuH=>AS.cj 21 [(0,.sv (nw N (slc 1 (List.map bh uH))))] [] []) (wR []) (λGF ZD ZE h yl uN=>?_)
 try dsimp only
 refine qq<|qq ?_
 refine bJ h (λGI=>AS.cj 21 [(0,.sv (nw N (slc 1 (List.map bh GF)))),(14,ai GI)] [] []) (λh=>?_) (λIg h=>?_)
 refine aX<|mv Y<|lE h λx4 h4 h=>RT.Lf .none Y T h4<|lE h λx5 h5 h=>gt _ Y Y h5<|mv Y<|bE h λFh dD h=>?_
 cases x5
 obtain rfl:=O (F dD)
 exact ww<|ww<|ww<|ww<|ww<|ww<|ww<|pF Y<|dn<|⟨false,h,wR []⟩
 refine gm Y<|gm Y<|lE (V dD) λx9 h9 dD=>RT.Lf (.some Y Y) Y T h9<|lE dD λdI gC dD=>RT.sub (.some Y Y) _ Y Y T gC<|bE dD λfz lp dD=>RT.aiN (.some Y Y) Y Y T lp<|gr Y Y<|lE dD λeD iF dD=>Uk _ Y Y (eqN (p:=fz) (q:=0) iF) ?_
 obtain rfl:=O dD
 exact pT Y<|dn<|⟨eD,h,wR []⟩
 try dsimp only
 refine aW.n ?_
 cases Ig
 refine cF<|bN<|aW.x<|aW.x<|bF.x<|aW.n ?_
 obtain rfl:=O (F h)
 exact⟨GF,uN _ Y,wR []⟩
 refine cT<|bw<|aW.n<|aY<|aX<|mv Y<|mv Y<|lE (V h) λdX jO h=>RT.Lf .none Y T jO<|lE h λeX jK h=>sb _ Y Y jK<|bE h λjl mw h=>RT.aam .none 0 eX Y Y ⟨_,Y⟩ T mw<|ag Y<|RT.done<|bF.n ?_
 obtain rfl:=O h
 exact aW.n ⟨jl,yl _ Y,wR []⟩
 subst yj
 try dsimp only
 refine aW.n<|sr<|mv Y<|ag Y<|dn<|bf ?_
 obtain rfl:=O pq
 exact R1 Y
theorem iG{x0:Bool}{x1:List Nat}(N:Nat){r:Zr}(h:dr x0 x1=some r):dK af 163 N [ay x0,nw N (slc 1 (List.map bh x1))] (.agg ((fZ N) r)):=by
 refine bU Tryz.func163 Y (ae Y) (λdw M vs hN hvs=>?_)
 unfold dr at h
 refine sr<|al (cs:=[ay false,nw N au]) (by exact⟨aq,bu,ak⟩) Y<|dn<|sr<|mv Y<|bE h λx6 h6 h=>RT.bZ .none (yn N h6) hN Y ⟨Y,ak⟩ T<|ag Y<|dn<|qq<|sr<|mv Y<|lE h λx8 h8 h=>RT.Lf .none Y T h8<|lE h λx9 h9 h=>eq _ Y Y (ve (p:=x8) (q:=0) h9)<|dn ?_
 cases x9
 refine fs<|sr<|mv Y<|mv Y<|bI (cs:=[_,_]) (cs':=[ay x0,nw N (slc 1 (List.map bh x6))]) (.one Y (.one Y (.nil))) ⟨aq,aq,ak⟩<|so Y Y Y<|dn<|bf ?_
 obtain rfl:=O (F h)
 exact RZ (.agg Y Y (.k2 Y Y) Y (.nil))
 refine cT<|sr<|bI (cs:=[_,_]) (cs':=[ay false,nw N au]) (.nil) ⟨aq,bu,ak⟩<|so Y Y Y<|dn<|bf<|aW.r ?_
 obtain rfl:=O (V h)
 exact RZ (.agg Y Y (.k2 Y Y) Y (.nil))
theorem wA{x0:Bool}{x1:List Nat}{x2:Bool}{x3:List Nat}(N:Nat){r:Zr}(h:eY x0 x1 x2 x3=some r):dK af 203 N [ay x0,slc 1 (List.map bh x1),ay x2,slc 1 (List.map bh x3)] (.agg ((fZ N) r)):=by
 refine bU Tryz.func203 Y (ae Y) (λdw M vs hN hvs=>?_)
 unfold eY at h
 refine sr<|al (cs:=[ay false,nw N au]) (by exact⟨aq,bu,ak⟩) Y<|dn<|qq<|sr<|mv Y<|mv Y<|lE h λfz lp h=>RT.ZT .none _ Y Y T lp<|dn ?_
 cases fz
 refine fs<|qq<|sr<|mv Y<|mv Y<|bE (F h) λjl mw h=>cl (jY mw) ⟨Y,Y,ak⟩<|lE h λij oG h=>ls _ Y Y oG<|dn ?_
 cases ij
 refine fs<|sr<|mv Y<|mv Y<|mv Y<|bE (F h) λgI mZ h=>RT.bZ .none (qZ N mZ) hN Y ⟨Y,Y,ak⟩ T ?_
 obtain⟨⟨sn,sq⟩,vD,h⟩:=bS h
 refine RT.bZ .none (iG N vD) hN Y ⟨Y,Y,ak⟩ T<|so Y Y Y<|dn<|bf ?_
 obtain rfl:=O h
 exact RZ (.agg Y Y (.k2 Y Y) Y (.nil))
 refine cT<|sr<|mv Y<|mv Y<|mv Y<|bE (V h) λgX oY h=>RT.bZ .none (qZ N oY) hN Y ⟨Y,Y,ak⟩ T ?_
 obtain⟨⟨nF,m8⟩,nO,h⟩:=bS h
 refine RT.bZ .none (iG N nO) hN Y ⟨Y,Y,ak⟩ T<|so Y Y Y<|dn<|bf<|aW.r ?_
 obtain rfl:=O h
 exact RZ (.agg Y Y (.k2 Y Y) Y (.nil))
 refine cT<|sr<|mv Y<|mv Y<|mv Y<|bE (V h) λdH gD h=>RT.bZ .none (xD N gD) hN Y ⟨Y,Y,ak⟩ T ?_
 obtain⟨⟨qu,qw⟩,lq,h⟩:=bS h
 refine RT.bZ .none (iG N lq) hN Y ⟨Y,Y,ak⟩ T<|so Y Y Y<|dn<|bf<|aW.r ?_
 obtain rfl:=O h
 exact RZ (.agg Y Y (.k2 Y Y) Y (.nil))
theorem MC{x0:Zr}{x1:Zr}(N:Nat){r:Zr}(h:tL x0 x1=some r):dK af 188 N [.agg (eZ x0),.agg (eZ x1)] (.agg ((fZ N) r)):=by
 obtain⟨bk,bn⟩:=x0
 obtain⟨cu,cm⟩:=x1
 refine bU Tryz.func188 Y (ae Y) (λdw M vs hN hvs=>?_)
 unfold tL at h
 refine sr<|bx Y<|bx Y<|al (cs:=[ay false,nw N au]) (by exact⟨aq,bu,ak⟩) Y<|dn<|sr<|ld Y Y (.k2 Y Y) ?_
 obtain⟨⟨A0,DS⟩,fC,h⟩:=bS h
 refine cl (jP fC) ⟨Y,ak⟩<|mv Y<|ex Y Y<|ex Y Y<|ag Y<|ag Y<|dn<|sr<|ld Y Y (.k2 Y Y) ?_
 obtain⟨⟨Ms,Rc⟩,jO,h⟩:=bS h
 refine cl (jP jO) ⟨Y,ak⟩<|mv Y<|ex Y Y<|ex Y Y<|ag Y<|ag Y<|dn<|qq<|qq ?_
 refine bJ h (λj3=>AS.cj 48 [(2,.ptr 2 0),(3,.ptr 3 0),(4,.ptr 4 0),(5,ah A0),(7,ah Ms),(23,ai j3)] [(4,⟨41,[ai false,.sv (nw N au)]⟩),(3,⟨41,[ai cu,.sv (slc 1 (List.map bh cm))]⟩),(2,⟨41,[ai bk,.sv (slc 1 (List.map bh bn))]⟩)] []) (λh=>?_) (λqY h=>?_)
 refine aX<|mv Y<|mv Y<|bE h λOI MD h=>?_
 cases DS
 obtain rfl:=O (F MD)
 exact ww<|pF Y<|dn<|⟨false,h,wR []⟩
 refine gm Y ?_
 obtain rfl:=O (V MD)
 exact pT Y<|dn<|⟨Rc,h,wR []⟩
 try dsimp only
 refine aW.n ?_
 refine bJ h (λj5=>AS.cj 48 [(2,.ptr 2 0),(3,.ptr 3 0),(4,.ptr 4 0)] [(4,⟨41,[ai false,.sv (nw N au)]⟩),(3,⟨41,[ai cu,.sv (slc 1 (List.map bh cm))]⟩),(2,⟨41,[ai bk,.sv (slc 1 (List.map bh bn))]⟩)] []) (λh=>?_) (λj5 h=>?_)
 cases qY
 exact fs<|⟨(),(F h),wR []⟩
 refine cT<|sr<|mv Y<|mv Y<|lE (V h) λjH rV h=>ad _ Y Y rV<|ag Y<|dn<|sr<|mv Y<|mv Y<|lE h λgI mZ h=>RT.xor .none _ Y Y T mZ<|mv Y<|mv Y<|lE h λiP pW h=>RT.xor .none _ Y Y T pW<|lE h λoD xp h=>RT.and .none _ Y Y T xp<|lE h λsX xu h=>ge _ Y Y xu<|dn ?_
 cases sX
 exact fs<|⟨(),(F h),wR []⟩
 refine cT<|sr<|mv Y ?_
 obtain⟨⟨Ga,Gb⟩,yJ,h⟩:=bS (V h)
 refine RT.bZ .none (fY N yJ) hN Y ⟨Y,ak⟩ T<|so Y Y Y<|dn<|bf<|aW.r<|aW.r ?_
 obtain rfl:=O h
 exact RZ (.agg Y Y (.k2 Y Y) Y (.nil))
 try dsimp only
 refine aW.n<|qq<|aZ mixed<|fa Y Y<|lV Y Y Y<|fa Y Y<|lV Y Y Y<|bE h λyF GK h=>cl (dx GK) ⟨Y,ak⟩<|fa Y Y<|lV Y Y Y<|fa Y Y<|lV Y Y Y<|bE h λvg h46 h=>cl (dx h46) ⟨Y,ak⟩ ?_
 obtain⟨⟨F8,F9⟩,zH,h⟩:=bS h
 refine RT.bZ .none (wA N zH) hN Y ⟨Y,Y,Y,Y,ak⟩ T<|so Y Y Y ?_
 refine RT.done ⟨by kernel_rfl,?_⟩
 refine aW.n<|bf ?_
 obtain rfl:=O h
 exact RZ (.agg Y Y (.k2 Y Y) Y (.nil))
theorem ME{x0:Zr}{x1:Zr}(N:Nat){r:Zr}(h:tN x0 x1=some r):dK af 190 N [.agg (eZ x0),.agg (eZ x1)] (.agg ((fZ N) r)):=by
 obtain⟨bk,bn⟩:=x0
 obtain⟨cu,cm⟩:=x1
 refine bU Tryz.func190 Y (ae Y) (λdw M vs hN hvs=>?_)
 unfold tN at h
 refine sr<|bx Y<|bx Y<|al (cs:=[ay false,nw N au]) (by exact⟨aq,bu,ak⟩) Y<|dn<|sr<|ld Y Y (.k2 Y Y) ?_
 obtain⟨⟨A0,DS⟩,fC,h⟩:=bS h
 refine cl (jP fC) ⟨Y,ak⟩<|mv Y<|ex Y Y<|ex Y Y<|ag Y<|ag Y<|dn<|sr<|ld Y Y (.k2 Y Y) ?_
 obtain⟨⟨Ms,Rc⟩,jO,h⟩:=bS h
 refine cl (jP jO) ⟨Y,ak⟩<|mv Y<|ex Y Y<|ex Y Y<|ag Y<|ag Y<|dn<|qq<|qq ?_
 refine bJ h (λj3=>AS.cj 49 [(2,.ptr 2 0),(3,.ptr 3 0),(4,.ptr 4 0),(5,ah A0),(7,ah Ms),(23,ai j3)] [(4,⟨41,[ai false,.sv (nw N au)]⟩),(3,⟨41,[ai cu,.sv (slc 1 (List.map bh cm))]⟩),(2,⟨41,[ai bk,.sv (slc 1 (List.map bh bn))]⟩)] []) (λh=>?_) (λqY h=>?_)
 refine aX<|mv Y<|mv Y<|bE h λOI MD h=>?_
 cases DS
 obtain rfl:=O (F MD)
 exact ww<|pF Y<|dn<|⟨false,h,wR []⟩
 refine gm Y ?_
 obtain rfl:=O (V MD)
 exact pT Y<|dn<|⟨Rc,h,wR []⟩
 try dsimp only
 refine aW.n ?_
 refine bJ h (λj5=>AS.cj 49 [(2,.ptr 2 0),(3,.ptr 3 0),(4,.ptr 4 0)] [(4,⟨41,[ai false,.sv (nw N au)]⟩),(3,⟨41,[ai cu,.sv (slc 1 (List.map bh cm))]⟩),(2,⟨41,[ai bk,.sv (slc 1 (List.map bh bn))]⟩)] []) (λh=>?_) (λj5 h=>?_)
 cases qY
 exact fs<|⟨(),(F h),wR []⟩
 refine cT<|sr<|mv Y<|mv Y<|lE (V h) λjH rV h=>sb _ Y Y rV<|ag Y<|dn<|sr<|mv Y<|mv Y<|lE h λgI mZ h=>RT.xor .none _ Y Y T mZ<|mv Y<|mv Y<|lE h λiP pW h=>RT.xor .none _ Y Y T pW<|lE h λoD xp h=>RT.and .none _ Y Y T xp<|lE h λsX xu h=>ge _ Y Y xu<|dn ?_
 cases sX
 exact fs<|⟨(),(F h),wR []⟩
 refine cT<|sr<|mv Y ?_
 obtain⟨⟨Ga,Gb⟩,yJ,h⟩:=bS (V h)
 refine RT.bZ .none (fY N yJ) hN Y ⟨Y,ak⟩ T<|so Y Y Y<|dn<|bf<|aW.r<|aW.r ?_
 obtain rfl:=O h
 exact RZ (.agg Y Y (.k2 Y Y) Y (.nil))
 try dsimp only
 refine aW.n<|qq<|aZ mixed<|fa Y Y<|lV Y Y Y<|fa Y Y<|lV Y Y Y<|bE h λyF GK h=>cl (dx GK) ⟨Y,ak⟩<|fa Y Y<|lV Y Y Y<|lE h λsj Az h=>nt Y _ Az<|fa Y Y<|lV Y Y Y<|bE h λsE zH h=>cl (dx zH) ⟨Y,ak⟩ ?_
 obtain⟨⟨acm,acn⟩,h48,h⟩:=bS h
 refine RT.bZ .none (wA N h48) hN Y ⟨Y,Y,Y,Y,ak⟩ T<|so Y Y Y ?_
 refine RT.done ⟨by kernel_rfl,?_⟩
 refine aW.n<|bf ?_
 obtain rfl:=O h
 exact RZ (.agg Y Y (.k2 Y Y) Y (.nil))
theorem gJ{x0:Zr}{x1:Zr}(N:Nat){r:Zr}(h:dV x0 x1=some r):dK af 130 N [.agg (eZ x0),.agg (eZ x1)] (.agg ((fZ N) r)):=by
 obtain⟨bk,bn⟩:=x0
 obtain⟨cu,cm⟩:=x1
 refine bU Tryz.func130 Y (ae Y) (λdw M vs hN hvs=>?_)
 unfold dV at h
 refine sr<|bx Y<|bx Y<|al (cs:=[ay false,nw N au]) (by exact⟨aq,bu,ak⟩) Y<|dn<|qq<|aZ mixed<|fa Y Y<|lV Y Y Y<|bE h λx9 h9 h=>cl (dx h9) ⟨Y,ak⟩<|fa Y Y<|lV Y Y Y<|bE h λc9 fC h=>cl (dx fC) ⟨Y,ak⟩<|ag Y<|ag Y ?_
 refine RT.done ⟨by kernel_rfl,?_⟩
 refine aW.n<|qq<|qq ?_
 refine bJ h (λj3=>AS.cj 41 [(2,.ptr 2 0),(3,.ptr 3 0),(4,.ptr 4 0),(5,.sv (slc 1 (List.map bh x9))),(6,.sv (slc 1 (List.map bh c9))),(20,ai j3)] [(4,⟨41,[ai false,.sv (nw N au)]⟩),(3,⟨41,[ai cu,.sv (slc 1 (List.map bh cm))]⟩),(2,⟨41,[ai bk,.sv (slc 1 (List.map bh bn))]⟩)] []) (λh=>?_) (λWn h=>?_)
 refine aX<|mv Y<|lE h λei jx h=>ln Y jx<|lE h λdH gD h=>RT.leq .none _ Y Y T gD<|mv Y<|bE h λaco rW h=>?_
 cases dH
 obtain rfl:=O (F rW)
 exact ww<|ww<|ww<|pF Y<|dn<|⟨false,h,wR []⟩
 refine gm Y<|lE (V rW) λeX jK rW=>gn Y jK<|lE rW λjl mw rW=>RT.leq (.some Y Y) _ Y Y T mw ?_
 obtain rfl:=O rW
 exact pT Y<|dn<|⟨jl,h,wR []⟩
 try dsimp only
 refine aW.n ?_
 cases Wn
 refine fs<|qq<|aZ mixed<|fa Y Y<|lV Y Y Y<|fa Y Y<|lV Y Y Y<|lE (F h) λpg yJ h=>RT.T9 .none _ Y Y T yJ<|mv Y<|mv Y<|bE h λvY DX h=>RT.bZ .none (DT N DX) hN Y ⟨Y,Y,ak⟩ T ?_
 obtain⟨⟨vh,vi⟩,vm,h⟩:=bS h
 refine RT.bZ .none (iG N vm) hN Y ⟨Y,Y,ak⟩ T<|so Y Y Y ?_
 refine RT.done ⟨by kernel_rfl,?_⟩
 refine aW.n<|bf ?_
 obtain rfl:=O h
 exact RZ (.agg Y Y (.k2 Y Y) Y (.nil))
 refine cT<|qq<|aZ mixed<|fa Y Y<|lV Y Y Y<|fa Y Y<|lV Y Y Y<|lE (V h) λjG nO h=>RT.T9 .none _ Y Y T nO<|mv Y<|bE h λiO pN h=>cl (mM pN) ⟨Y,ak⟩<|mv Y<|bE h λgI mZ h=>cl (mM mZ) ⟨Y,ak⟩<|lE h λoF vD h=>RT.mul .none _ Y Y T (UK.mul (a:=iO) (b:=gI) vD) ?_
 obtain⟨⟨OJ,OK⟩,yz,h⟩:=bS h
 refine RT.bZ .none (nX N yz) hN Y ⟨Y,Y,ak⟩ T<|so Y Y Y ?_
 refine RT.done ⟨by kernel_rfl,?_⟩
 refine aW.n<|bf<|aW.r ?_
 obtain rfl:=O h
 exact RZ (.agg Y Y (.k2 Y Y) Y (.nil))
theorem DY{x0:Zr}{x1:Zr}{r:Zr}(h:dV x0 x1=some r):Pure af 130 [.agg (eZ x0),.agg (eZ x1)] (.agg (eZ r)):=eT (λN=>gJ N h) (λN=>(SV.fT (zI _ _)))
theorem vG{x0:Zr}(N:Nat){r:Zr}(h:jw x0=some r):dK af 145 N [.agg (eZ x0)] (.agg ((fZ N) r)):=by
 obtain⟨bk,bn⟩:=x0
 refine bU Tryz.func145 Y (ae Y) (λdw M vs hN hvs=>?_)
 unfold jw at h
 refine sr<|bx Y<|al (cs:=[ay false,nw N au]) (by exact⟨aq,bu,ak⟩) Y<|dn<|qq<|aZ mixed<|fa Y Y<|lV Y Y Y<|lE h λx5 h5 h=>nt Y _ h5<|fa Y Y<|lV Y Y Y<|bE h λx8 h8 h=>cl (dx h8) ⟨Y,ak⟩<|bE h λx9 h9 h=>RT.bZ .none (uP N h9) hN Y ⟨Y,ak⟩ T ?_
 obtain⟨⟨A3,A4⟩,gC,h⟩:=bS h
 refine RT.bZ .none (iG N gC) hN Y ⟨Y,Y,ak⟩ T<|so Y Y Y ?_
 refine RT.done ⟨by kernel_rfl,?_⟩
 refine aW.n<|bf ?_
 obtain rfl:=O h
 exact RZ (.agg Y Y (.k2 Y Y) Y (.nil))
theorem DZ{x0:Zr}{r:Zr}(h:jw x0=some r):Pure af 145 [.agg (eZ x0)] (.agg (eZ r)):=eT (λN=>vG N h) (λN=>(SV.fT (zI _ _)))
theorem ik{x0:Zr}{r:Int}(h:dY x0=some r):Pure af 104 [.agg (eZ x0)] (ax r):=by
 obtain⟨bk,bn⟩:=x0
 refine bj Tryz.func104 Y (ae Y) (λdw M vs hvs=>?_)
 unfold dY at h
 refine sr<|bx Y<|ag Y<|dn<|qq<|aY<|sr<|fa Y Y<|lV Y Y Y<|bE h λx6 h6 h=>cl (dx h6) ⟨Y,ak⟩<|lE h λx7 h7 h=>ln Y h7<|lE h λx8 h8 h=>eq _ Y Y (ve (p:=x7) (q:=0) h8)<|ag Y<|dn ?_
 cases x8
 refine cF<|sr<|fa Y Y<|lV Y Y Y<|ag Y<|dn ?_
 replace h:=F h
 cases bk
 refine cF<|bw<|bF.n<|aW.n<|sr<|ag Y<|dn<|bf ?_
 obtain rfl:=O (F h)
 exact R1 Y
 refine cT<|sr<|ag Y<|dn<|bf<|bF.r<|aW.r ?_
 obtain rfl:=O (V h)
 exact R1 Y
 refine cT<|sr<|ag Y<|dn<|bf<|bF.r<|aW.r ?_
 obtain rfl:=O (V h)
 exact R1 Y
theorem MF{x0:Zr}{x1:Zr}{r:Int}(h:tQ x0 x1=some r):Pure af 129 [.agg (eZ x0),.agg (eZ x1)] (ax r):=by
 obtain⟨bk,bn⟩:=x0
 obtain⟨cu,cm⟩:=x1
 refine bj Tryz.func129 Y (ae Y) (λdw M vs hvs=>?_)
 unfold tQ at h
 refine sr<|bx Y<|bx Y<|ag Y<|dn<|qq<|aZ mixed<|ld Y Y (.k2 Y Y)<|bE h λx8 h8 h=>cl (ik h8) ⟨Y,ak⟩<|ld Y Y (.k2 Y Y)<|bE h λdI gC h=>cl (ik gC) ⟨Y,ak⟩<|ag Y<|ag Y ?_
 refine RT.done ⟨by kernel_rfl,?_⟩
 refine aW.n<|qq<|aY<|sr<|mv Y<|mv Y<|lE h λei jx h=>ls _ Y Y jx<|ag Y<|dn ?_
 cases ei
 refine cF<|sr<|mv Y<|mv Y<|lE (F h) λeX jK h=>gt _ Y Y jK<|ag Y<|dn ?_
 cases eX
 refine cF<|sr<|mv Y<|lE (F h) λfL ke h=>ls _ Y Y ke<|ag Y<|dn ?_
 cases fL
 refine cF<|bw<|bF.n<|aW.n<|qq<|aZ mixed<|fa Y Y<|lV Y Y Y<|bE (F h) λnU yz h=>cl (dx yz) ⟨Y,ak⟩<|fa Y Y<|lV Y Y Y<|bE h λsX xu h=>cl (dx xu) ⟨Y,ak⟩<|bE h λku vE h=>cl (jY vE) ⟨Y,Y,ak⟩<|ag Y ?_
 refine RT.done ⟨by kernel_rfl,?_⟩
 refine aW.n<|bf ?_
 obtain rfl:=O h
 exact R1 Y
 refine cT<|qq<|aZ mixed<|fa Y Y<|lV Y Y Y<|bE (V h) λgX oY h=>cl (dx oY) ⟨Y,ak⟩<|fa Y Y<|lV Y Y Y<|bE h λiO pN h=>cl (dx pN) ⟨Y,ak⟩<|bE h λkT uO h=>cl (jY uO) ⟨Y,Y,ak⟩<|ag Y ?_
 refine RT.done ⟨by kernel_rfl,?_⟩
 refine aW.n<|bf<|bF.r<|aW.r ?_
 obtain rfl:=O h
 exact R1 Y
 refine cT<|sr<|ag Y<|dn<|bf<|bF.r<|aW.r ?_
 obtain rfl:=O (V h)
 exact R1 Y
 refine cT<|sr<|ag Y<|dn<|bf<|bF.r<|aW.r ?_
 obtain rfl:=O (V h)
 exact R1 Y
theorem Ae{x0:Zr}{x1:Zr}(N:Nat){r:Zr×Zr×Int}(h:iE x0 x1=some r):dK af 169 N [.agg (eZ x0),.agg (eZ x1)] (.Ce [.agg ((fZ N) r.1),.agg ((fZ N) r.2.1),ax r.2.2]):=by
 obtain⟨bk,bn⟩:=x0
 obtain⟨cu,cm⟩:=x1
 refine bU Tryz.func169 Y (ae Y) (λdw M vs hN hvs=>?_)
 unfold iE at h
 refine sr<|bx Y<|bx Y<|al (cs:=[ay false,nw N au]) (by exact⟨aq,bu,ak⟩) Y<|al (cs:=[ay false,nw N au]) (by exact⟨aq,bu,ak⟩) Y<|ag Y<|dn<|qq<|aZ mixed<|fa Y Y<|lV Y Y Y<|bE h λeD iF h=>cl (dx iF) ⟨Y,ak⟩<|fa Y Y ?_
 refine lV Y Y Y<|bE h λfB lq h=>cl (dx lq) ⟨Y,ak⟩<|ag Y<|ag Y ?_
 refine RT.done ⟨by kernel_rfl,?_⟩
 refine aW.n<|qq<|sr<|mv Y<|lE h λeX jK h=>ln Y jK<|lE h λjl mw h=>eq _ Y Y (ve (p:=eX) (q:=0) mw)<|dn ?_
 cases jl
 refine fs<|sr<|mv Y<|mv Y ?_
 obtain⟨⟨Im,Mt⟩,nO,h⟩:=bS (F h)
 refine RT.bZ .none (xE N nO) hN Y ⟨Y,Y,ak⟩ T<|mv Y<|ex Y Y<|ex Y Y<|ag Y<|ag Y<|dn<|sr<|mv Y<|bE h λgI mZ h=>RT.bZ .none (yn N mZ) hN Y ⟨Y,ak⟩ T<|ag Y<|dn<|qq<|qq ?_
 refine bJ h (λj3=>AS.cj 52 [(2,.ptr 2 0),(3,.ptr 3 0),(4,.ptr 4 0),(5,.ptr 5 0),(8,.sv (slc 1 (List.map bh fB))),(9,.sv (nw N (slc 1 (List.map bh Im)))),(10,.sv (nw N (slc 1 (List.map bh gI)))),(36,ai j3.1)] [(5,⟨41,[ai false,.sv (nw N au)]⟩),(4,⟨41,[ai false,.sv (nw N au)]⟩),(3,⟨41,[ai cu,.sv (slc 1 (List.map bh cm))]⟩),(2,⟨41,[ai j3.2,.sv (slc 1 (List.map bh bn))]⟩)] []) (λh=>?_) (λj3 h=>?_)
 refine aX<|fa Y Y<|lV Y Y Y<|mv Y<|bE h λacp MD h=>?_
 cases bk
 obtain rfl:=O (F MD)
 exact ww<|ww<|ww<|pF Y<|dn<|⟨(false,false),h,wR []⟩
 refine gm Y<|lE (V MD) λsX xu MD=>RT.Lf (.some Y Y) Y T xu<|lE MD λku vE MD=>gg _ Y Y vE ?_
 obtain rfl:=O MD
 exact pT Y<|dn<|⟨(ku,true),h,wR []⟩
 obtain⟨Wo,C0⟩:=j3
 try dsimp only
 refine aW.n ?_
 refine bJ h (λj5=>AS.cj 52 [(2,.ptr 2 0),(3,.ptr 3 0),(4,.ptr 4 0),(5,.ptr 5 0),(9,.sv (nw N (slc 1 (List.map bh j5.1)))),(10,.sv (nw N (slc 1 (List.map bh j5.2))))] [(5,⟨41,[ai false,.sv (nw N au)]⟩),(4,⟨41,[ai false,.sv (nw N au)]⟩),(3,⟨41,[ai cu,.sv (slc 1 (List.map bh cm))]⟩),(2,⟨41,[ai C0,.sv (slc 1 (List.map bh bn))]⟩)] []) (λh=>?_) (λj5 h=>?_)
 cases Wo
 exact fs<|⟨(Im,gI),(F h),wR []⟩
 exact cT<|sr<|mv Y<|RT.DI (l:=[1]) (e:=bh) .none hN (.one Y (.nil)) T Y Y Y Y Y Y<|bE (V h) λvY DX h=>RT.bZ .none ((xD N DX).w (args':=[_,_]) ⟨fN,fN,ak⟩) hN Y ⟨Y,Y,ak⟩ T<|ag Y<|dn<|aX<|mv Y<|mv Y<|bE h λnE ym h=>RT.bZ .none ((qZ N ym).w (args':=[_,_]) ⟨aq,fN,ak⟩) hN Y ⟨Y,Y,ak⟩ T<|ag Y<|dn<|⟨(vY,nE),h,wR []⟩
 obtain⟨Wp,OL⟩:=j5
 try dsimp only
 refine aW.n<|sr<|fa Y Y<|lV Y Y Y<|fa Y Y<|lV Y Y Y<|lE h λsE zH h=>RT.T9 .none _ Y Y T zH<|mv Y ?_
 obtain⟨⟨OM,ON⟩,Rf,h⟩:=bS h
 refine RT.bZ .none (iG N Rf) hN Y ⟨Y,Y,ak⟩ T<|mv Y ?_
 obtain⟨⟨Lh,Li⟩,Ip,h⟩:=bS h
 refine RT.bZ .none (iG N Ip) hN Y ⟨Y,Y,ak⟩ T<|so Y Y Y<|so Y Y Y<|ag Y<|dn<|bf ?_
 obtain rfl:=O h
 exact RZ (.agg Y Y (.k2 Y Y) Y (.agg Y Y (.k2 Y Y) Y (.tmp Y (.nil))))
 refine cT<|sr<|bI (cs:=[_,_]) (cs':=[ay false,nw N au]) (.nil) ⟨aq,bu,ak⟩<|bI (cs:=[_,_]) (cs':=[ay false,nw N au]) (.nil) ⟨aq,bu,ak⟩<|so Y Y Y<|so Y Y Y<|ag Y<|dn<|bf<|aW.r ?_
 obtain rfl:=O (V h)
 exact RZ (.agg Y Y (.k2 Y Y) Y (.agg Y Y (.k2 Y Y) Y (.tmp Y (.nil))))
theorem MG{x0:Zr}{x1:Zr}(N:Nat){r:Zr}(h:qx x0 x1=some r):dK af 168 N [.agg (eZ x0),.agg (eZ x1)] (.agg ((fZ N) r)):=by
 obtain⟨bk,bn⟩:=x0
 obtain⟨cu,cm⟩:=x1
 refine bU Tryz.func168 Y (ae Y) (λdw M vs hN hvs=>?_)
 unfold qx at h
 refine sr<|bx Y<|bx Y<|al (cs:=[ay false,nw N au]) (by exact⟨aq,bu,ak⟩) Y<|dn<|qq<|aZ mixed<|fa Y Y<|lV Y Y Y<|bE h λeD iF h=>cl (dx iF) ⟨Y,ak⟩<|fa Y Y<|lV Y Y Y<|bE h λfB lq h=>cl (dx lq) ⟨Y,ak⟩<|ag Y<|ag Y ?_
 refine RT.done ⟨by kernel_rfl,?_⟩
 refine aW.n<|qq<|bE h λUr My tW=>?_
 refine bK (λ(Fo:(List Nat)×(List Nat))=>AS.cj 57 [(4,.ptr 4 0),(5,.sv (slc 1 (List.map bh Fo.1))),(6,.sv (slc 1 (List.map bh Fo.2)))] [(4,⟨41,[ai false,.sv (nw N au)]⟩)] []) (λFo=>Fo=Ur) ?_ (λFo Mz=>?_)
 refine aY ?_
 refine bL My (λAd=>AS.cj 57 [(4,.ptr 4 0),(5,.sv (slc 1 (List.map bh Ad.1))),(6,.sv (slc 1 (List.map bh Ad.2)))] [(4,⟨41,[ai false,.sv (nw N au)]⟩)] []) (wR []) (λAd y12 G12 h MA MB=>?_)
 obtain⟨GH,sF⟩:=Ad
 try dsimp only
 refine qq<|qq ?_
 refine bJ h (λVt=>AS.cj 57 [(4,.ptr 4 0),(5,.sv (slc 1 (List.map bh GH))),(6,.sv (slc 1 (List.map bh sF))),(29,ai Vt)] [(4,⟨41,[ai false,.sv (nw N au)]⟩)] []) (λh=>?_) (λRd h=>?_)
 refine aX<|mv Y<|lE h λeX jK h=>ln Y jK<|lE h λjl mw h=>gt _ Y Y mw<|mv Y<|bE h λWr wB h=>?_
 cases jl
 obtain rfl:=O (F wB)
 exact ww<|ww<|ww<|ww<|wu<|wu<|wu<|ww<|pF Y<|dn<|⟨false,h,wR []⟩
 refine gm Y<|lE (V wB) λiA oH wB=>gn Y oH<|lE wB λjg qP wB=>gg _ Y Y qP<|gm Y<|bE wB λWq rY wB=>?_
 cases jg
 refine gm Y<|lE (F rY) λjH rV rY=>gn Y rV<|lE rY λiO pN rY=>gg _ Y Y pN ?_
 obtain rfl:=O rY
 refine gF Y ?_
 obtain rfl:=O wB
 exact pT Y<|dn<|⟨iO,h,wR []⟩
 obtain rfl:=O (V rY)
 refine ww<|ww<|ww<|gT Y ?_
 obtain rfl:=O wB
 exact pT Y<|dn<|⟨true,h,wR []⟩
 try dsimp only
 refine aW.n ?_
 cases Rd
 refine cF<|bN<|aW.x<|aW.x<|bF.x<|aW.n ?_
 obtain rfl:=O (F h)
 exact⟨(GH,sF),MB _ Y,wR []⟩
 refine cT<|bw<|aW.n<|aY<|sr<|mv Y<|mv Y ?_
 obtain⟨⟨amT,ai6⟩,xp,h⟩:=bS (V h)
 refine RT.bZ .none (xE N xp) hN Y ⟨Y,Y,ak⟩ T<|mv Y<|ex Y Y<|ex Y Y<|ag Y<|ag Y<|dn<|aX<|mv Y<|mv Y<|bE h λqX Ay h=>RT.bZ .none (yn N Ay) hN Y ⟨Y,ak⟩ T<|ag Y<|ag Y<|RT.done<|bF.n ?_
 obtain rfl:=O h
 exact aW.n ⟨(sF,qX),MA _ Y,cD id Y Y Y Y Y ⟨.ptr,.sv aq,.sv fN,ak⟩ ⟨⟨_,Y,⟨.sv aq,.sv aq,ak⟩⟩,ak⟩ trivial (λ_ _=>Y)⟩
 subst Mz
 obtain⟨Ws,Wt⟩:=Fo
 try dsimp only
 refine aW.n<|qq<|sr<|mv Y<|lE tW λnj vm tW=>ln Y vm<|lE tW λyF GK tW=>eq _ Y Y (ve (p:=nj) (q:=0) GK)<|dn ?_
 cases yF
 refine fs<|sr<|mv Y<|bE (F tW) λvg h46 tW=>cl (mM h46) ⟨Y,ak⟩<|mv Y<|bE tW λr9 h48 tW=>cl (mM h48) ⟨Y,ak⟩<|ag Y<|ag Y<|dn<|qq<|bE tW λe24 anA afo=>?_
 refine bK (λ(Lj:Nat)=>AS.cj 57 [(4,.ptr 4 0),(9,.sv (.v (.int .u64 ((Lj:Nat):Int))))] [(4,⟨41,[ai false,.sv (nw N au)]⟩)] []) (λLj=>Lj=e24) ?_ (λLj anB=>?_)
 refine aY ?_
 refine bL anA (λs24=>AS.cj 57 [(4,.ptr 4 0),(9,.sv (.v (.int .u64 ((s24.1:Nat):Int)))),(10,.sv (.v (.int .u64 ((s24.2:Nat):Int))))] [(4,⟨41,[ai false,.sv (nw N au)]⟩)] []) (wR []) (λs24 y24 G24 h anC anD=>?_)
 obtain⟨S4,Fl⟩:=s24
 try dsimp only
 refine qq<|sr<|mv Y<|lE h λAB Kn h=>gt _ Y Y (ltN (p:=0) (q:=Fl) Kn)<|dn ?_
 cases AB
 refine cF<|bN<|aW.x<|aW.x<|bF.x<|aW.n ?_
 obtain rfl:=O (F h)
 exact⟨S4,anD _ Y,wR []⟩
 refine cT<|bw<|aW.n<|aY<|aZ mixed<|mv Y<|mv Y<|mv Y<|bE (V h) λCg Ll h=>RT.rem .none _ Y Y T (nzR Ll) (Z8 Ll)<|ag Y<|ag Y ?_
 refine RT.done ⟨by kernel_rfl,?_⟩
 refine bF.n ?_
 obtain rfl:=O h
 exact aW.n ⟨(Fl,Cg),anC _ Y,wR []⟩
 subst anB
 try dsimp only
 refine aW.n<|sr<|mv Y ?_
 obtain⟨⟨lP,lQ⟩,Mu,afo⟩:=bS afo
 refine RT.bZ .none (nX N Mu) hN Y ⟨Y,Y,ak⟩ T<|so Y Y Y<|dn<|bf ?_
 obtain rfl:=O afo
 exact RZ (.agg Y Y (.k2 Y Y) Y (.nil))
 refine cT<|sr<|mv Y<|bE (V tW) λvf EX tW=>RT.bZ .none (uP N EX) hN Y ⟨Y,ak⟩ T ?_
 obtain⟨⟨Gc,Ge⟩,Az,tW⟩:=bS tW
 refine RT.bZ .none (iG N Az) hN Y ⟨Y,Y,ak⟩ T<|so Y Y Y<|dn<|bf<|aW.r ?_
 obtain rfl:=O tW
 exact RZ (.agg Y Y (.k2 Y Y) Y (.nil))
end
section
open Go.Fw
noncomputable def lB(x0:Zr)(x1:Zr)(x2:Zr)(x3:Zr):Option (Zr×Zr):=match x0 with|⟨bk,bn⟩=>match x1 with|⟨cu,cm⟩=>match x2 with|⟨wC,wD⟩=>match x3 with|⟨uQ,uR⟩=>(dV ⟨bk,bn⟩ ⟨uQ,uR⟩).bind λ⟨jh,iX⟩=>(dV ⟨wC,wD⟩ ⟨cu,cm⟩).bind λ⟨jQ,jR⟩=>(tL ⟨jh,iX⟩ ⟨jQ,jR⟩).bind λ⟨qu,qw⟩=>(dV ⟨cu,cm⟩ ⟨uQ,uR⟩).bind λ⟨lS,lT⟩=>some (⟨qu,qw⟩,⟨lS,lT⟩)
noncomputable def lC(x0:Zr)(x1:Zr)(x2:Zr)(x3:Zr):Option (Zr×Zr):=match x0 with|⟨bk,bn⟩=>match x1 with|⟨cu,cm⟩=>match x2 with|⟨wC,wD⟩=>match x3 with|⟨uQ,uR⟩=>(dV ⟨bk,bn⟩ ⟨uQ,uR⟩).bind λ⟨jh,iX⟩=>(dV ⟨wC,wD⟩ ⟨cu,cm⟩).bind λ⟨jQ,jR⟩=>(tN ⟨jh,iX⟩ ⟨jQ,jR⟩).bind λ⟨qu,qw⟩=>(dV ⟨cu,cm⟩ ⟨uQ,uR⟩).bind λ⟨lS,lT⟩=>some (⟨qu,qw⟩,⟨lS,lT⟩)
noncomputable def lD(x0:Zr)(x1:Zr)(x2:Zr)(x3:Zr):Option (Zr×Zr):=match x0 with|⟨bk,bn⟩=>match x1 with|⟨cu,cm⟩=>match x2 with|⟨wC,wD⟩=>match x3 with|⟨uQ,uR⟩=>(dV ⟨bk,bn⟩ ⟨wC,wD⟩).bind λ⟨jh,iX⟩=>(dV ⟨cu,cm⟩ ⟨uQ,uR⟩).bind λ⟨jQ,jR⟩=>some (⟨jh,iX⟩,⟨jQ,jR⟩)
noncomputable def lF(x0:Zr)(x1:Zr)(x2:Zr)(x3:Zr):Option (Zr×Zr):=match x0 with|⟨bk,bn⟩=>match x1 with|⟨cu,cm⟩=>match x2 with|⟨wC,wD⟩=>match x3 with|⟨uQ,uR⟩=>(dV ⟨bk,bn⟩ ⟨uQ,uR⟩).bind λ⟨jh,iX⟩=>(dV ⟨cu,cm⟩ ⟨wC,wD⟩).bind λ⟨jQ,jR⟩=>some (⟨jh,iX⟩,⟨jQ,jR⟩)
noncomputable def dZ(x0:Qr):Option (Zr×Zr):=match x0 with|⟨⟨bk,bn⟩,⟨bt,bB⟩⟩=>(dY ⟨bt,bB⟩).bind λx6=>(some (decide ((x6:Int)=0))).bind λx8=>(bif x8 then(cW 1).bind λ⟨xF,xG⟩=>some (⟨bk,bn⟩,⟨xF,xG⟩)else(some (decide ((x6:Int)=(-1)))).bind λeD=>(bif eD then(jw ⟨bk,bn⟩).bind λ⟨qu,qw⟩=>(jw ⟨bt,bB⟩).bind λ⟨lS,lT⟩=>some (⟨qu,qw⟩,⟨lS,lT⟩)else some (⟨bk,bn⟩,⟨bt,bB⟩)))
noncomputable def iq(x0:Zr)(x1:Zr):Option (Qr):=match x0 with|⟨bk,bn⟩=>match x1 with|⟨cu,cm⟩=>(dY ⟨cu,cm⟩).bind λx9=>(some (decide ((x9:Int)<0))).bind λdI=>cE (λ(j2:Bool×(List Nat)×Bool×(List Nat))=>match j2 with|⟨Rm,Rn,Ro,Rp⟩=>(qx ⟨Ro,Rp⟩ ⟨Rm,Rn⟩).bind λ⟨q9,rf⟩=>(iE ⟨Ro,Rp⟩ ⟨q9,rf⟩).bind λ⟨⟨Iq,Ir⟩,⟨afp,afq⟩,anE⟩=>(iE ⟨Rm,Rn⟩ ⟨q9,rf⟩).bind λ⟨⟨Fq,Fs⟩,⟨afr,afs⟩,anF⟩=>(fj ⟨Fq,Fs⟩).bind λ⟨afu,afv⟩=>cE (λ(WB:Bool)=>cE (λ(j7:Bool×(List Nat))=>match j7 with|⟨Rr,Ru⟩=>some ⟨⟨Iq,Ir⟩,⟨Rr,Ru⟩⟩) λK7=>(bif WB then K7 (false,[])else K7 (Fq,Fs))) λK5=>(bif afv then(some (decide ((afu:Int)=1))).bind λnj=>some nj else some false).bind λacq=>K5 acq) λK2=>(bif dI then(jw ⟨bk,bn⟩).bind λ⟨jh,iX⟩=>(jw ⟨cu,cm⟩).bind λ⟨xH,xI⟩=>K2 (xH,xI,jh,iX)else K2 (cu,cm,bk,bn))
noncomputable def fk(x0:Qr):Option (Int×Int×Bool):=match x0 with|⟨⟨bk,bn⟩,⟨bt,bB⟩⟩=>(fj ⟨bk,bn⟩).bind λ⟨MH,aav⟩=>(fj ⟨bt,bB⟩).bind λ⟨Kp,ajh⟩=>cE (λ(Rv:Bool)=>(bif Rv then some (0,0,false)else(some (decide ((Kp:Int)=0))).bind λvf=>cE (λ(j24:Int×Int)=>match j24 with|⟨OP,acs⟩=>some (OP,acs,true)) λK24=>(bif vf then K24 (MH,1)else(some (decide ((Kp:Int)<0))).bind λvg=>cE (λ(j26:Int×Int)=>match j26 with|⟨WC,WD⟩=>K24 (WC,WD)) λK26=>(bif vg then(some (IntKind.i64.wrap (0-MH))).bind λr9=>(some (IntKind.i64.wrap (0-Kp))).bind λAB=>K26 (r9,AB)else K26 (MH,Kp))))) λK21=>(some (!aav)).bind λij=>(bif ij then some true else(some (!ajh)).bind λjg=>some jg).bind λWE=>(bif WE then some true else(some (decide ((MH:Int)≤(-2147483648)))).bind λiO=>some iO).bind λafw=>(bif afw then some true else(some (decide ((2147483648:Int)≤MH))).bind λnU=>some nU).bind λafx=>(bif afx then some true else(some (decide ((Kp:Int)≤(-2147483648)))).bind λku=>some ku).bind λafy=>(bif afy then some true else(some (decide ((2147483648:Int)≤Kp))).bind λvY=>some vY).bind λafz=>K21 afz
noncomputable def ir(x0:Int)(x1:Int):Option (Qr):=(bX (λ(s6:Int×Int)=>match s6 with|⟨iD,mz⟩=>(show Option ((Int×Int)⊕(Int))from(some (decide ((mz:Int)≠0))).bind λdI=>(bif dI then(Kf iD mz).bind λei=>some (.inl (mz,ei))else some (.inr iD)))) (x0,x1)).bind λwE=>(some (decide ((wE:Int)<0))).bind λfB=>cE (λ(Uy:Int)=>(some (decide ((Uy:Int)=x1))).bind λfL=>(bif fL then(Aw x0 Uy).bind λgX=>(cW gX).bind λ⟨nF,m8⟩=>some ⟨⟨nF,m8⟩,⟨false,[]⟩⟩else(Aw x0 Uy).bind λgI=>(cW gI).bind λ⟨sn,sq⟩=>(Aw x1 Uy).bind λoD=>(cW oD).bind λ⟨qA,qB⟩=>some ⟨⟨sn,sq⟩,⟨qA,qB⟩⟩)) λK8=>(bif fB then(some (IntKind.i64.wrap (0-wE))).bind λeX=>K8 eX else K8 wE)
noncomputable def xJ(x0:Int):Option (Int):=(some (decide ((x0:Int)<0))).bind λx5=>(bif x5 then some (-1)else(some (decide ((0:Int)<x0))).bind λx8=>(bif x8 then some 1 else some 0))
noncomputable def nY(x1:Qr)(x2:Qr):Option (Qr):=match x1 with|⟨⟨cu,cm⟩,⟨eE,eG⟩⟩=>match x2 with|⟨⟨wC,wD⟩,⟨Is,It⟩⟩=>(dZ ⟨⟨cu,cm⟩,⟨eE,eG⟩⟩).bind λ⟨⟨o6,o7⟩,⟨pX,pY⟩⟩=>(dZ ⟨⟨wC,wD⟩,⟨Is,It⟩⟩).bind λ⟨⟨kg,kj⟩,⟨nZ,n7⟩⟩=>(lB ⟨o6,o7⟩ ⟨pX,pY⟩ ⟨kg,kj⟩ ⟨nZ,n7⟩).bind λ⟨⟨pZ,qa⟩,⟨qb,qc⟩⟩=>(iq ⟨pZ,qa⟩ ⟨qb,qc⟩).bind λ⟨⟨yG,xC⟩,⟨A8,A9⟩⟩=>some ⟨⟨yG,xC⟩,⟨A8,A9⟩⟩
noncomputable def n8(x1:Qr)(x2:Qr):Option (Qr):=match x1 with|⟨⟨cu,cm⟩,⟨eE,eG⟩⟩=>match x2 with|⟨⟨wC,wD⟩,⟨Is,It⟩⟩=>(dZ ⟨⟨cu,cm⟩,⟨eE,eG⟩⟩).bind λ⟨⟨o6,o7⟩,⟨pX,pY⟩⟩=>(dZ ⟨⟨wC,wD⟩,⟨Is,It⟩⟩).bind λ⟨⟨kg,kj⟩,⟨nZ,n7⟩⟩=>(lC ⟨o6,o7⟩ ⟨pX,pY⟩ ⟨kg,kj⟩ ⟨nZ,n7⟩).bind λ⟨⟨pZ,qa⟩,⟨qb,qc⟩⟩=>(iq ⟨pZ,qa⟩ ⟨qb,qc⟩).bind λ⟨⟨yG,xC⟩,⟨A8,A9⟩⟩=>some ⟨⟨yG,xC⟩,⟨A8,A9⟩⟩
noncomputable def n9(x1:Qr)(x2:Qr):Option (Qr):=match x1 with|⟨⟨cu,cm⟩,⟨eE,eG⟩⟩=>match x2 with|⟨⟨wC,wD⟩,⟨Is,It⟩⟩=>(dZ ⟨⟨cu,cm⟩,⟨eE,eG⟩⟩).bind λ⟨⟨o6,o7⟩,⟨pX,pY⟩⟩=>(dZ ⟨⟨wC,wD⟩,⟨Is,It⟩⟩).bind λ⟨⟨kg,kj⟩,⟨nZ,n7⟩⟩=>(lD ⟨o6,o7⟩ ⟨pX,pY⟩ ⟨kg,kj⟩ ⟨nZ,n7⟩).bind λ⟨⟨pZ,qa⟩,⟨qb,qc⟩⟩=>(iq ⟨pZ,qa⟩ ⟨qb,qc⟩).bind λ⟨⟨yG,xC⟩,⟨A8,A9⟩⟩=>some ⟨⟨yG,xC⟩,⟨A8,A9⟩⟩
noncomputable def lW(x1:Qr)(x2:Qr):Option (Qr):=match x1 with|⟨⟨cu,cm⟩,⟨eE,eG⟩⟩=>match x2 with|⟨⟨wC,wD⟩,⟨Is,It⟩⟩=>(dZ ⟨⟨cu,cm⟩,⟨eE,eG⟩⟩).bind λ⟨⟨o6,o7⟩,⟨pX,pY⟩⟩=>(dZ ⟨⟨wC,wD⟩,⟨Is,It⟩⟩).bind λ⟨⟨kg,kj⟩,⟨nZ,n7⟩⟩=>(lF ⟨o6,o7⟩ ⟨pX,pY⟩ ⟨kg,kj⟩ ⟨nZ,n7⟩).bind λ⟨⟨pZ,qa⟩,⟨qb,qc⟩⟩=>(iq ⟨pZ,qa⟩ ⟨qb,qc⟩).bind λ⟨⟨yG,xC⟩,⟨A8,A9⟩⟩=>some ⟨⟨yG,xC⟩,⟨A8,A9⟩⟩
noncomputable def dP(x0:Int):Option (Qr):=(cW x0).bind λ⟨Cj,Ck⟩=>some ⟨⟨Cj,Ck⟩,⟨false,[]⟩⟩
noncomputable def dQ(x0:Qr):Option (Qr):=match x0 with|⟨⟨bk,bn⟩,⟨bt,bB⟩⟩=>(fk ⟨⟨bk,bn⟩,⟨bt,bB⟩⟩).bind λ⟨ZF,ZG,x8c⟩=>(bif x8c then(ir ZF ZG).bind λ⟨⟨jQ,jR⟩,⟨xK,xL⟩⟩=>some ⟨⟨jQ,jR⟩,⟨xK,xL⟩⟩else(dZ ⟨⟨bk,bn⟩,⟨bt,bB⟩⟩).bind λ⟨⟨WG,WH⟩,⟨WI,WJ⟩⟩=>(iq ⟨WG,WH⟩ ⟨WI,WJ⟩).bind λ⟨⟨Af,Ag⟩,⟨Cz,CA⟩⟩=>some ⟨⟨Af,Ag⟩,⟨Cz,CA⟩⟩)
noncomputable def fg(x0:Qr):Option (Int):=match x0 with|⟨⟨bk,bn⟩,⟨bt,bB⟩⟩=>(dY ⟨bt,bB⟩).bind λx5=>(some (decide ((x5:Int)<0))).bind λx6=>(bif x6 then(dY ⟨bk,bn⟩).bind λx9=>(some (IntKind.i64.wrap (0-x9))).bind λdI=>some dI else(dY ⟨bk,bn⟩).bind λeD=>some eD)
noncomputable def wF(x0:Qr)(x1:Qr):Option (Qr):=match x0 with|⟨⟨bk,bn⟩,⟨bt,bB⟩⟩=>match x1 with|⟨⟨cu,cm⟩,⟨eE,eG⟩⟩=>(fk ⟨⟨bk,bn⟩,⟨bt,bB⟩⟩).bind λ⟨Iu,Ft,Iv⟩=>(fk ⟨⟨cu,cm⟩,⟨eE,eG⟩⟩).bind λ⟨Iw,Fu,Iy⟩=>cE (λ(Ba:Bool)=>(bif Ba then(some (IntKind.i64.wrap (Iu*Fu))).bind λgI=>(some (IntKind.i64.wrap (Iw*Ft))).bind λiP=>(some (IntKind.i64.wrap (gI+iP))).bind λoD=>(some (IntKind.i64.wrap (Ft*Fu))).bind λpg=>(ir oD pg).bind λ⟨⟨OQ,OR⟩,⟨OS,OT⟩⟩=>some ⟨⟨OQ,OR⟩,⟨OS,OT⟩⟩else(nY ⟨⟨bk,bn⟩,⟨bt,bB⟩⟩ ⟨⟨cu,cm⟩,⟨eE,eG⟩⟩).bind λ⟨⟨vh,vi⟩,⟨yK,yL⟩⟩=>some ⟨⟨vh,vi⟩,⟨yK,yL⟩⟩)) λK3=>(bif Iv then some Iy else some false).bind λGf=>K3 Gf
noncomputable def wG(x0:Qr)(x1:Qr):Option (Qr):=match x0 with|⟨⟨bk,bn⟩,⟨bt,bB⟩⟩=>match x1 with|⟨⟨cu,cm⟩,⟨eE,eG⟩⟩=>(fk ⟨⟨bk,bn⟩,⟨bt,bB⟩⟩).bind λ⟨Iu,Ft,Iv⟩=>(fk ⟨⟨cu,cm⟩,⟨eE,eG⟩⟩).bind λ⟨Iw,Fu,Iy⟩=>cE (λ(Ba:Bool)=>(bif Ba then(some (IntKind.i64.wrap (Iu*Fu))).bind λgI=>(some (IntKind.i64.wrap (Iw*Ft))).bind λiP=>(some (IntKind.i64.wrap (gI-iP))).bind λoD=>(some (IntKind.i64.wrap (Ft*Fu))).bind λpg=>(ir oD pg).bind λ⟨⟨OQ,OR⟩,⟨OS,OT⟩⟩=>some ⟨⟨OQ,OR⟩,⟨OS,OT⟩⟩else(n8 ⟨⟨bk,bn⟩,⟨bt,bB⟩⟩ ⟨⟨cu,cm⟩,⟨eE,eG⟩⟩).bind λ⟨⟨vh,vi⟩,⟨yK,yL⟩⟩=>some ⟨⟨vh,vi⟩,⟨yK,yL⟩⟩)) λK3=>(bif Iv then some Iy else some false).bind λGf=>K3 Gf
noncomputable def sG(x0:Qr)(x1:Qr):Option (Qr):=match x0 with|⟨⟨bk,bn⟩,⟨bt,bB⟩⟩=>match x1 with|⟨⟨cu,cm⟩,⟨eE,eG⟩⟩=>(fk ⟨⟨bk,bn⟩,⟨bt,bB⟩⟩).bind λ⟨Iu,Ft,Iv⟩=>(fk ⟨⟨cu,cm⟩,⟨eE,eG⟩⟩).bind λ⟨Iw,Fu,Iy⟩=>cE (λ(Ba:Bool)=>(bif Ba then(some (IntKind.i64.wrap (Iu*Iw))).bind λgI=>(some (IntKind.i64.wrap (Ft*Fu))).bind λiP=>(ir gI iP).bind λ⟨⟨CB,CC⟩,⟨Iz,IA⟩⟩=>some ⟨⟨CB,CC⟩,⟨Iz,IA⟩⟩else(n9 ⟨⟨bk,bn⟩,⟨bt,bB⟩⟩ ⟨⟨cu,cm⟩,⟨eE,eG⟩⟩).bind λ⟨⟨Ga,Gb⟩,⟨acw,acy⟩⟩=>some ⟨⟨Ga,Gb⟩,⟨acw,acy⟩⟩)) λK3=>(bif Iv then some Iy else some false).bind λGf=>K3 Gf
noncomputable def wH(x0:Qr)(x1:Qr):Option (Qr×Int):=match x0 with|⟨⟨bk,bn⟩,⟨bt,bB⟩⟩=>match x1 with|⟨⟨cu,cm⟩,⟨eE,eG⟩⟩=>(fg ⟨⟨cu,cm⟩,⟨eE,eG⟩⟩).bind λeD=>(some (decide ((eD:Int)=0))).bind λei=>(bif ei then some (⟨⟨false,[]⟩,⟨false,[]⟩⟩,7)else(fk ⟨⟨bk,bn⟩,⟨bt,bB⟩⟩).bind λ⟨Kq,MI,WK⟩=>(fk ⟨⟨cu,cm⟩,⟨eE,eG⟩⟩).bind λ⟨Uz,UA,afA⟩=>cE (λ(IB:Bool)=>(bif IB then(some (decide ((Uz:Int)<0))).bind λoD=>cE (λ(j6:Int×Int)=>match j6 with|⟨aji,ajj⟩=>(some (IntKind.i64.wrap (aji*UA))).bind λnj=>(some (IntKind.i64.wrap (MI*ajj))).bind λvf=>(ir nj vf).bind λ⟨⟨Gc,Ge⟩,⟨OU,OV⟩⟩=>some (⟨⟨Gc,Ge⟩,⟨OU,OV⟩⟩,0)) λK6=>(bif oD then(some (IntKind.i64.wrap (0-Kq))).bind λku=>(some (IntKind.i64.wrap (0-Uz))).bind λuG=>K6 (ku,uG)else K6 (Kq,Uz))else(lW ⟨⟨bk,bn⟩,⟨bt,bB⟩⟩ ⟨⟨cu,cm⟩,⟨eE,eG⟩⟩).bind λ⟨⟨F8,F9⟩,⟨acz,acA⟩⟩=>some (⟨⟨F8,F9⟩,⟨acz,acA⟩⟩,0))) λK3=>(bif WK then some afA else some false).bind λacB=>K3 acB)
noncomputable def sH(x0:Qr):Option (Qr):=match x0 with|⟨⟨bk,bn⟩,⟨bt,bB⟩⟩=>(dQ ⟨⟨bk,bn⟩,⟨bt,bB⟩⟩).bind λ⟨⟨Bb,C4⟩,⟨Fv,GM⟩⟩=>(jw ⟨Bb,C4⟩).bind λ⟨rZ,r5⟩=>some ⟨⟨rZ,r5⟩,⟨Fv,GM⟩⟩
noncomputable def wI(x0:Qr)(x1:Qr):Option (Int):=match x0 with|⟨⟨bk,bn⟩,⟨bt,bB⟩⟩=>match x1 with|⟨⟨cu,cm⟩,⟨eE,eG⟩⟩=>(dZ ⟨⟨bk,bn⟩,⟨bt,bB⟩⟩).bind λ⟨⟨o6,o7⟩,⟨pX,pY⟩⟩=>(dZ ⟨⟨cu,cm⟩,⟨eE,eG⟩⟩).bind λ⟨⟨kg,kj⟩,⟨nZ,n7⟩⟩=>(dY ⟨o6,o7⟩).bind λiA=>(dY ⟨kg,kj⟩).bind λgX=>cE (λ(IB:Bool)=>(bif IB then(some (IntKind.i64.wrap (iA-gX))).bind λsX=>(xJ sX).bind λku=>some ku else(dV ⟨o6,o7⟩ ⟨nZ,n7⟩).bind λ⟨Ah,Ai⟩=>(dV ⟨kg,kj⟩ ⟨pX,pY⟩).bind λ⟨Lm,Ln⟩=>(tQ ⟨Ah,Ai⟩ ⟨Lm,Ln⟩).bind λnE=>some nE)) λK3=>(some (decide ((iA:Int)≠gX))).bind λiO=>(bif iO then some true else(some (decide ((iA:Int)=0))).bind λoF=>some oF).bind λacC=>K3 acC
end
end Go.Proofs.YtningmnklfpfjaaGreat
