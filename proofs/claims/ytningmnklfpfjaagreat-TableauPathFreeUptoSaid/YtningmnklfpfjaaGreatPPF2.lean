/- A part of the proof: the framework, the plain functions, the followed functions, the plain laws. -/
import Derived.Test.YtningmnklfpfjaaGreatPPF1
set_option linter.unusedVariables false
set_option linter.unusedSimpArgs false
namespace Go.Fw
open Go.RowKit
inductive Src (S:AS) (E0:TypeId) (n:Nat):Operand→List (Nat×lU)→List Nat→Nat→List SV→Prop
 |nil {x:Operand} (h:S.ev x=.sv (.v (.slice none 0 0))):Src S E0 n x [] [] 0 []
 |row {x:Operand} {i m:Nat} {cs:List SV} (h:S.ev x=.row i) (hR:S.r i=.live ⟨E0,n,m,cs⟩):Src S E0 n x [(i,.dead)] [i] m cs
theorem OW{i:Nat}{X:SV}{x:AV}(h:¬x.mr i):x.oH i X=x:=by
 cases x with
 |row k=>simp only[AV.oH];rw[bp (fun e=>h e.symm)];rfl
 |jI k o=>simp only[AV.oH];rw[bp (fun e=>h e.symm)];rfl
 |oe k o l=>simp only[AV.oH];rw[bp (fun e=>h e.symm)];rfl
 |cmp t js=>
  simp only[AV.oH]
  have:js.any (Fc.Av i)=false:=by
   cases e:js.any (Fc.Av i)with
   |false=>rfl
   |true=>
    obtain⟨c,hc,hi⟩:=List.any_eq_true.1 e
    cases c with
    |row j=>have hi:Nat.beq j i=true:=hi;obtain rfl:=Nat.eq_of_beq_eq_true hi;exact absurd hc h
    |_=>cases hi
  rw[this];rfl
 |_=>rfl
section steps
variable {P:Program}{C:Ctx}{ops:Array Oper}{S:AS}{nd:Bool}{K:List Ac→AS→Prop}{rest:List Oper}{acc:List Ac}
variable {gd:Option (Nat×Bool)}{rg:List Nat}{d:Nat}{ty:TypeId}{pos:String}{aft:Array Edge}{x y z:Operand}{T U E0:TypeId}
theorem Src.val{E:Env}{a:Act}{w:World}{S':AS}{n m:Nat}{old:List (Nat×lU)}{rr:List Nat}{cs:List SV}(h:az C S' E a w)(hx:Src S E0 n x old rr m cs)(ht:∀s∈aq x,S'.t s=S.t s)(hr:∀i∈rr,S'.r i=S.r i):
  (∃vs,w.ownsRow 0 E0 n (a.eval x) m vs∧SV.dH E.M cs vs)∧((old=[]∧(a.eval x).ownBlock=none)∨∃i R,old=[(i,.dead)]∧S'.r i=.live R∧(a.eval x).ownBlock=(E.ν i).ownBlock):=by
 cases hx with
 |nil hx=>
  have h1:a.eval x=.slice none 0 0:=by have h1:=h.ev x;rw[aJ (fun _ h=>h) ht,hx]at h1;exact h1
  rw[h1]
  exact⟨⟨[],World.ownsRow_nil _ _ _ _,trivial⟩,.inl ⟨rfl,rfl⟩⟩
 | @row i _ _ hx hR=>
  have h1:a.eval x=E.ν i:=by have h1:=h.ev x;rw[aJ (fun _ h=>h) ht,hx]at h1;exact h1
  have mY:=(hr i (by simp)).trans hR
  rw[h1]
  obtain⟨⟨vs,h2,h3⟩,_⟩:=h.rx i _ mY
  exact⟨⟨vs,h2,h3⟩,.inr ⟨i,_,rfl,mY,rfl⟩⟩
theorem RT.L6(hg:Gd ops S gd rg){n by_:Nat}{zv:Value}[tS:eK P T E0 n][tE:aL P E0 n by_ zv]{old:List (Nat×lU)}{rr:List Nat}{m:Nat}{cs:List SV}{s:SV}{rows:List (List SV)}[hs:SQ s n rows]
  (hx:Src S E0 n x old rr m cs) (hy:S.ev y=.sv s) (hd:d<S.n) (yp:S.r d=.un) (wL:d<1000) (hroom:(m+rows.length)*by_≤140737488355328) (uh:m+rows.length≤140737488355328)
  (X:SV) {rows':List (List SV)} (hX:∀M v,(slc n rows').h M v→(∀g,v.ownBlock=some g→(C.w0.heap.size≤g∨C.vK g)∧∃o,M g o=some (.agg #[]))→X.h M v) (jt:Rows n rows' (cs++rows.flatten)) (hlen:rows'.length=m+rows.length) (hone:∀M vs,SV.dH M (cs++rows.flatten) vs→∀v∈vs,v.oneCell'=true)
  (next:RunT P C ops nd K rest (⟨rg++(aq x++aq y),[],d::rr,⟨some (d,.sv X),[],old++[(d,.dead)]⟩⟩::acc) ((AS.bC (old++[(d,.dead)]) S).set d (.sv X))):RunT P C ops nd K (⟨some d,.call ⟨.builtin .append,#[x,y],#[T,T]⟩,ty,pos,aft,gd⟩::rest) acc S:=by
 refine .inl ⟨_,[],d::rr,_,?_,next⟩
 rintro S' hn ht _ hr i a w L Q ho ⟨E,h⟩ hL
 refine bW (C:=C) ho (hg.wanted h (fun s hs=>ht s (List.mem_append_left _ hs)) rfl) ?_
 obtain⟨⟨vs,hown,hvs⟩,hold⟩:=hx.val h (fun s hs=>ht s (List.mem_append_right _ (List.mem_append_left _ hs))) (fun i hi=>hr i (List.mem_cons_of_mem _ hi))
 have h2:=h.ev y
 rw[aJ (fun _ h=>List.mem_append_right _ (List.mem_append_right _ h)) ht,hy]at h2
 obtain⟨info,hi,hsz,hby,hz⟩:=aL.info (P:=P) (E:=E0) (n:=n) (by_:=by_) (z:=zv)
 have Kv:S'.r d=.un:=by rw[hr d (by simp)];exact yp
 have run:∃v' w' vs',(Builtin.append_ #[T,T] ty #[a.eval x,a.eval y]).run P w=.ok v' w'∧w'.ownsRow 0 E0 n v' (m+rows.length) vs'∧SV.dH E.M (cs++rows.flatten) vs'∧w.grownBy w' (a.eval x).ownBlock∧(v'.ownBlock=(a.eval x).ownBlock∨v'.ownBlock=some w.heap.size∨v'.ownBlock=none):=by
  rcases hs.h _ _ h2 with⟨a0,e,e2⟩|⟨b,o,c,e,hc,Ia,hrow⟩
  ·rw[e,e2]
   cases a0 with
   |none=>exact⟨_,_,vs,run_append_owned_none w 0 T ty E0 info n tS.u hi _ m vs hown,by simpa using hown,by simpa using hvs,⟨rfl,rfl,rfl,Nat.le_refl _,fun _ _ _=>rfl⟩,.inl rfl⟩
   |some a0=>
    rw[e2,List.length_nil]at hroom uh
    obtain⟨v',w',q1,q2,q3,_,q4⟩:=run_append_own_at (P:=P) w 0 T ty E0 info zv n by_ tS.u hi hz hsz hby tE.z tE.p _ m vs hown a0 0 0 [] (by simp) (by simp) (by simp) (by unfold maxLen;omega) hroom (Nat.zero_le _)
    exact⟨v',w',vs,q1,by simpa using q2,by simpa using hvs,q3,q4.imp id .inl⟩
  ·obtain⟨us,g1,g2,g3,g4⟩:=B7 rows o hrow
   rw[e]
   obtain⟨v',w',q1,q2,q3,_,q4⟩:=run_append_own_at (P:=P) w 0 T ty E0 info zv n by_ tS.u hi hz hsz hby tE.z tE.p _ m vs hown ⟨b,o,none⟩ rows.length c us g2 (fun j u hj=>by rw[fO];exact(h.cI _ _ _ (g4 j u hj)).cell (g3 u (List.mem_of_getElem? hj))) g3 (by unfold maxLen;omega) hroom (Nat.zero_le _)
   exact⟨v',w',vs++us,q1,q2,SV.dH.append hvs g1,q3,q4.imp id .inl⟩
 obtain⟨v',w',vs',q1,q2,q3,q4,q5⟩:=run
 have hr':(execOp a.eval ⟨some d,.call ⟨.builtin .append,#[x,y],#[T,T]⟩,ty,pos,aft,gd⟩).run P w=.ok (.value v') w':=by
  simp[execOp,resolve,invoke,builtin,q1]
 have L7:∀(l:List (Nat×lU)) (R:lU) (j:Nat),dh (l++[(d,R)]) j=if j=d then some R else dh l j:=by
  intro l R j
  induction l with
  |nil=>rfl
  |cons p l ih=>
   obtain⟨i,R'⟩:=p
   rw[List.cons_append,dh,dh,ih]
   by_cases e:j=d
   ·simp[e]
   ·simp[e]
 have h3:=(h.newRow Kv wL old (a.eval x).ownBlock hold (R':=⟨E0,n,m+rows.length,cs++rows.flatten⟩) q2 q3 q5 q4).put (d:=d) (x:=.row d) (v:=v') (by simp[AV.holds]) (by rw[(ff _ _).1];omega) ⟨fun _ e=>e.elim,fun j e=>by
  cases e
  rw[lp,L7];simp⟩
 have hRd:(AS.set (AS.bC (old++[(d,lU.live ⟨E0,n,m+rows.length,cs++rows.flatten⟩)]) S') d (.row d)).r d=.live ⟨E0,n,m+rows.length,cs++rows.flatten⟩:=by
  show(AS.bC _ S').r d=_
  rw[lp,L7];simp
 obtain⟨E',h4⟩:=h3.oH hRd jt hlen (Nat.le_trans uh (by decide)) hone hX
 have e:(AS.set (AS.bC (old++[(d,lU.live ⟨E0,n,m+rows.length,cs++rows.flatten⟩)]) S') d (.row d)).oH d X=S'.app ⟨some (d,.sv X),[],old++[(d,.dead)]⟩:=by
  have n1:=ff (old++[(d,lU.live ⟨E0,n,m+rows.length,cs++rows.flatten⟩)]) S'
  have n2:=ff (old++[(d,lU.dead)]) S'
  refine AS.ext' ?_ (fun t=>?_) (fun j=>?_) (fun j=>?_) ?_ ?_
  ·show(AS.bC _ S').n=(AS.bC _ S').n
   rw[n1.1,n2.1]
  ·rw[AS.HV]
   show((AS.set (AS.bC _ S') d (.row d)).t t).oH d X=_
   by_cases e:t=d
   ·subst e;rw[AS.jY];simp[AV.oH,wT]
   ·rw[AS.iG _ _ _ _ e,n1.2.1,OW (fun hm=>h.wf.tr t d hm Kv)];simp[wT,e]
  ·rw[AS.HW]
   show((AS.bC _ S').b j).map _=_
   rw[n1.2.2.1]
   simp only[rj,Option.getD_none]
   cases hb:S'.b j with
   |none=>rfl
   |some B=>
    rw[Option.map_some]
    have:B.cells.map (AV.oH d X)=B.cells:=by
     conv=>rhs;rw[←List.map_id B.cells]
     exact List.map_congr_left fun c hc=>OW (fun hm=>h.wf.br j B hb c hc d hm Kv)
    rw[this]
  ·rw[AS.HX]
   show(bif Nat.beq j d then lU.dead else(AS.bC _ S').r j)=_
   rw[lp,L7,L7]
   by_cases e:j=d
   ·subst e;simp
   ·simp[bp e,e]
  ·rw[(AS.EM _ _).1];exact n1.2.2.2.1
  ·rw[(AS.EM _ _).2];exact n1.2.2.2.2
 exact bR (C:=C) (by intro c h;cases h) hr' (hL _ _ ⟨E',e▸h4⟩)
end steps
end Go.Fw
namespace Go.Fw
open Go.RowKit
def b9{J R:Type}(k:J→Option R)(f:(J→Option R)→Option R):Option R:=f k
theorem bind_some{α β:Type}{x:Option α}{f:α→Option β}{r:β}(h:Option.bind x f=some r):∃a,x=some a∧f a=some r:=by
 cases x with
 |none=>cases h
 |some a=>exact⟨a,rfl,h⟩
theorem sk{b w:Bool}(h:(b==w)=false):b≠w:=by cases b<;>cases w<;>simp_all
def cz{α:Type}(l:List α)(i:Int):Option α:=if 0≤i then l[i.toNat]? else none
def kQ{α:Type}(l:List α)(i:Int):Option Nat:=if 0≤i∧i<l.length then some i.toNat else none
def Ei{α:Type}(l:List α)(lo hi:Int):Option (List α):=if 0≤lo∧lo≤hi∧hi≤l.length then some (cut l lo.toNat hi.toNat)else none
def zM{α:Type}(by_:Nat)(l k:List α):Option (List α):=if(l.length+k.length)*by_≤140737488355328∧l.length+k.length≤140737488355328 then some (l++k)else none
def D4{α:Type}(by_:Nat)(c:Int)(z:α):Option (List α):=if 0≤c∧by_*c≤281474976710656∧c≤140737488355328 then some (List.replicate c.toNat z)else none
def OX{α:Type}(by_:Nat)(c:Int):Option (List α):=if 0≤c∧by_*c≤281474976710656∧c≤140737488355328 then some []else none
def stM{α:Type}(l:List α)(n:Nat)(y:α):Option (List α):=if n<l.length then some (l.set n y)else none
def yz(a b:Int):Option Int:=if b=0 then none else some (IntKind.i64.wrap (a.tdiv b))
def Nl(a b:Int):Option Int:=if b=0 then none else some (a.tmod b)
def F5(M a b:Nat):Option Nat:=if b=0 then none else some (a/b%M)
def Ej(a b:Nat):Option Nat:=if b=0 then none else some (a%b)
def qa(M a b:Nat):Nat:=(((a:Int)-b)%M).toNat
theorem rC{α:Type}{l:List α}{i:Int}{a:α}(h:cz l i=some a):0≤i∧l[i.toNat]? =some a:=by
 unfold cz at h;split at h
 ·exact⟨by assumption,h⟩
 ·cases h
theorem OY{α:Type}{l:List α}{i:Int}{k:Nat}(h:kQ l i=some k):0≤i∧i<l.length∧i.toNat=k:=by
 unfold kQ at h;split at h
 ·rename_i hh;exact⟨hh.1,hh.2,Option.some.inj h⟩
 ·cases h
theorem ER{α:Type}{l l':List α}{a b:Int}(h:Ei l a b=some l'):0≤a∧a≤b∧b≤l.length∧cut l a.toNat b.toNat=l':=by
 unfold Ei at h;split at h
 ·rename_i hh;exact⟨hh.1,hh.2.1,hh.2.2,Option.some.inj h⟩
 ·cases h
theorem uw{α:Type}{by_:Nat}{l k l':List α}(h:zM by_ l k=some l'):(l.length+k.length)*by_≤140737488355328∧l.length+k.length≤140737488355328∧l++k=l':=by
 unfold zM at h;split at h
 ·rename_i hh;exact⟨hh.1,hh.2,Option.some.inj h⟩
 ·cases h
theorem OZ{α:Type}{by_:Nat}{c:Int}{z:α}{l':List α}(h:D4 by_ c z=some l'):0≤c∧by_*c≤281474976710656∧c≤140737488355328∧List.replicate c.toNat z=l':=by
 unfold D4 at h;split at h
 ·rename_i hh;exact⟨hh.1,hh.2.1,hh.2.2,Option.some.inj h⟩
 ·cases h
theorem O0{α:Type}{by_:Nat}{c:Int}{l':List α}(h:OX by_ c=some l'):0≤c∧by_*c≤281474976710656∧c≤140737488355328∧[]=l':=by
 unfold OX at h;split at h
 ·rename_i hh;exact⟨hh.1,hh.2.1,hh.2.2,Option.some.inj h⟩
 ·cases h
theorem Il{α:Type}{l l':List α}{n:Nat}{y:α}(h:stM l n y=some l'):n<l.length∧l.set n y=l':=by
 unfold stM at h;split at h
 ·rename_i hh;exact⟨hh,Option.some.inj h⟩
 ·cases h
def oL{S E:Type}(body:S→Option (S⊕E)):Nat→S→Option E
 |0,_=>none
 |n+1,s=>match body s with
  |some (.inl s')=>oL body n s'
  |some (.inr e)=>some e
  |none=>none
theorem xp{S E:Type}{body:S→Option (S⊕E)}:∀{n m:Nat} {s:S} {e:E},n≤m→oL body n s=some e→oL body m s=some e
 |0,_,_,_,_,h=>by cases h
 |n+1,0,_,_,hm,_=>by omega
 |n+1,m+1,s,e,hm,h=>by
  unfold oL at h⊢
  cases hb:body s with
  |none=>rw[hb]at h;cases h
  |some y=>
   rw[hb]at h
   cases y with
   |inl s'=>exact xp (by omega) h
   |inr e'=>exact h
open Classical in
noncomputable def bQ{S E:Type}(body:S→Option (S⊕E))(s:S):Option E:=if h:∃n e,oL body n s=some e then some (Classical.choose (Classical.choose_spec h))else none
theorem xq{S E:Type}{body:S→Option (S⊕E)}{s:S}{e:E}(h:bQ body s=some e):∃n,oL body n s=some e:=by
 unfold bQ at h
 split at h
 ·rename_i hh
  exact⟨_,by rw[←Option.some.inj h];exact Classical.choose_spec (Classical.choose_spec hh)⟩
 ·cases h
theorem Ci{S E:Type}{body:S→Option (S⊕E)}{s:S}{e:E}{n:Nat}(h:oL body n s=some e):bQ body s=some e:=by
 have hh:∃n e,oL body n s=some e:=⟨n,e,h⟩
 unfold bQ
 rw[dif_pos hh]
 have h2:=Classical.choose_spec (Classical.choose_spec hh)
 have h3:=xp (Nat.le_max_left n (Classical.choose hh)) h
 have h4:=xp (Nat.le_max_right n (Classical.choose hh)) h2
 rw[h3]at h4
 exact h4.symm
theorem xu{S E:Type}{body:S→Option (S⊕E)}{s:S}{e:E}(h:body s=some (.inr e)):bQ body s=some e:=Ci (n:=1) (by simp[oL,h])
theorem Cj{S E:Type}{body:S→Option (S⊕E)}{s s':S}(h:body s=some (.inl s')):bQ body s=bQ body s':=by
 cases hl:bQ body s' with
 |some e=>obtain⟨n,hn⟩:=xq hl;exact Ci (n:=n+1) (by simp[oL,h,hn])
 |none=>
  cases hl2:bQ body s with
  |none=>rfl
  |some e=>
   obtain⟨n,hn⟩:=xq hl2
   cases n with
   |zero=>cases hn
   |succ n=>simp only[oL,h]at hn;rw[Ci hn]at hl;cases hl
theorem rD{S E:Type}{body:S→Option (S⊕E)}(I:S→Prop)(Post:E→Prop)(μ:S→Nat)
  (step:∀s,I s→(∃s',body s=some (.inl s')∧I s'∧μ s'<μ s)∨(∃e,body s=some (.inr e)∧Post e)) {s:S} (h:I s):∃e,bQ body s=some e∧Post e:=by
 have key:∀(n:Nat) (s:S),μ s≤n→I s→∃e,bQ body s=some e∧Post e:=by
  intro n
  induction n with
  |zero=>
   intro s hn hs
   rcases step s hs with⟨s',_,_,h3⟩|⟨e,h1,h2⟩
   ·omega
   ·exact⟨e,xu h1,h2⟩
  |succ n ih=>
   intro s hn hs
   rcases step s hs with⟨s',h1,h2,h3⟩|⟨e,h1,h2⟩
   ·obtain⟨e,q1,q2⟩:=ih s' (by omega) h2
    exact⟨e,by rw[Cj h1];exact q1,q2⟩
   ·exact⟨e,xu h1,h2⟩
 exact key _ s (Nat.le_refl _) h
theorem O1{S E:Type}{body:S→Option (S⊕E)}(st:Nat→S)(n:Nat){e:E}(hs:∀k,k<n→body (st k)=some (.inl (st (k+1))))(he:body (st n)=some (.inr e)):bQ body (st 0)=some e:=by
 have key:∀k,k≤n→bQ body (st (n-k))=some e:=by
  intro k
  induction k with
  |zero=>intro _;exact xu he
  |succ k ih=>
   intro hk
   rw[Cj (hs (n-(k+1)) (by omega)),show n-(k+1)+1=n-k by omega]
   exact ih (by omega)
 have:=key n (Nat.le_refl _)
 rwa[Nat.sub_self]at this
theorem ua{p q:Int}{c:Bool}(h:decide (p=q)=c):(p==q)=c:=by rw[←h];exact Bool.beq_eq_decide_eq p q
theorem F6{p q:Int}{c:Bool}(h:decide (p≠q)=c):(p != q)=c:=by rw[←h,bne,Bool.beq_eq_decide_eq p q];simp
theorem eqN{p q:Nat}{c:Bool}(h:decide (p=q)=c):((p:Int)==(q:Int))=c:=ua (by rw[←h];simp[Int.natCast_inj])
theorem neN{p q:Nat}{c:Bool}(h:decide (p≠q)=c):((p:Int) != (q:Int))=c:=F6 (by rw[←h];simp[Int.natCast_inj])
theorem ltN{p q:Nat}{c:Bool}(h:decide (p<q)=c):decide ((p:Int)<(q:Int))=c:=by rw[←h];simp
theorem leN{p q:Nat}{c:Bool}(h:decide (p≤q)=c):decide ((p:Int)≤(q:Int))=c:=by rw[←h];simp
theorem Im{p q c:Int}(h:max p q=c):(if q>p then q else p)=c:=by rw[←h];split<;>omega
theorem O2{p q c:Int}(h:min p q=c):(if q<p then q else p)=c:=by rw[←h];split<;>omega
class UK (k:IntKind) (b:outParam Nat) (M:outParam Nat):Prop where
 w:∀x:Int,k.wrap x=x%M
 hb:k.bits=b
 hm:2^b=M
instance:UK .u8 8 256:=⟨fun x=>by simp[IntKind.wrap,IntKind.signed,IntKind.bits],rfl,by decide⟩
instance:UK .u16 16 65536:=⟨fun x=>by simp[IntKind.wrap,IntKind.signed,IntKind.bits],rfl,by decide⟩
instance:UK .u32 32 4294967296:=⟨fun x=>by simp[IntKind.wrap,IntKind.signed,IntKind.bits],rfl,by decide⟩
instance:UK .u64 64 18446744073709551616:=⟨fun x=>by simp[IntKind.wrap,IntKind.signed,IntKind.bits],rfl,by decide⟩
section uk
variable {k:IntKind}{bi M a b c:Nat}[u:UK k bi M]
include u
theorem UK.pos:0<M:=by rw[←u.hm];exact Nat.two_pow_pos _
theorem UK.nat(h:a%M=c):k.wrap (a:Int)=(c:Int):=by rw[u.w,←h,Int.natCast_emod]
theorem UK.add(h:(a+b)%M=c):k.wrap ((a:Int)+(b:Int))=(c:Int):=by rw[←Int.natCast_add];exact UK.nat h
theorem UK.mul(h:(a*b)%M=c):k.wrap ((a:Int)*(b:Int))=(c:Int):=by rw[←Int.natCast_mul];exact UK.nat h
theorem UK.sub(h:qa M a b=c):k.wrap ((a:Int)-(b:Int))=(c:Int):=by
 rw[u.w,←h,qa,Int.toNat_of_nonneg];exact Int.emod_nonneg _ (by have:=UK.pos (k:=k) (bi:=bi) (M:=M);omega)
theorem UK.neg(h:qa M 0 a=c):k.wrap (0-(a:Int))=(c:Int):=UK.sub h
theorem UK.conv{p:Int}(h:(p%M).toNat=c):k.wrap p=(c:Int):=by
 rw[u.w,←h,Int.toNat_of_nonneg];exact Int.emod_nonneg _ (by have:=UK.pos (k:=k) (bi:=bi) (M:=M);omega)
theorem UK.quo(h:F5 M a b=some c):k.wrap ((a:Int).tdiv (b:Int))=(c:Int):=by
 unfold F5 at h;split at h
 ·cases h
 ·rw[Int.tdiv_eq_ediv_of_nonneg (by omega),←Int.natCast_ediv];exact UK.nat (Option.some.inj h)
theorem UK.shl{q:Int}{s:Nat}(hs:min q.toNat k.bits=s)(h:a*2^s%M=c):k.wrap ((a:Int)*2^(min q.toNat k.bits))=(c:Int):=by
 rw[hs,show(a:Int)*2^s=((a*2^s:Nat):Int) by rw[Int.natCast_mul,Int.natCast_pow];rfl];exact UK.nat h
theorem UK.ofInt(a:Nat):(BitVec.ofInt k.bits (a:Int)).toNat=a%M:=by
 rw[BitVec.ofInt_natCast,BitVec.toNat_ofNat,u.hb,u.hm]
theorem UK.and(h:(a &&& b)%M=c):k.wrap ((BitVec.ofInt k.bits (a:Int) &&& BitVec.ofInt k.bits (b:Int)).toNat)=(c:Int):=by
 rw[BitVec.toNat_and,UK.ofInt,UK.ofInt,←u.hm,←Nat.and_mod_two_pow,u.hm,h,UK.nat (a:=c) (c:=c)]
 rw[←h,Nat.mod_mod]
theorem UK.or(h:(a ||| b)%M=c):k.wrap ((BitVec.ofInt k.bits (a:Int) ||| BitVec.ofInt k.bits (b:Int)).toNat)=(c:Int):=by
 rw[BitVec.toNat_or,UK.ofInt,UK.ofInt,←u.hm,←Nat.or_mod_two_pow,u.hm,h,UK.nat (a:=c) (c:=c)]
 rw[←h,Nat.mod_mod]
theorem UK.xor(h:(a ^^^ b)%M=c):k.wrap ((BitVec.ofInt k.bits (a:Int) ^^^ BitVec.ofInt k.bits (b:Int)).toNat)=(c:Int):=by
 rw[BitVec.toNat_xor,UK.ofInt,UK.ofInt,←u.hm,←Nat.xor_mod_two_pow,u.hm,h,UK.nat (a:=c) (c:=c)]
 rw[←h,Nat.mod_mod]
end uk
theorem A5{k:IntKind}{a c s:Nat}{q:Int}(hs:min q.toNat k.bits=s)(h:a/2^s=c):(a:Int).fdiv (2^(min q.toNat k.bits))=(c:Int):=by
 rw[hs,Int.fdiv_eq_ediv_of_nonneg _ (Int.le_of_lt (Int.pow_pos (by decide))),←h,Int.natCast_ediv,Int.natCast_pow];rfl
theorem Nm{a b c:Nat}(h:Ej a b=some c):(a:Int).tmod (b:Int)=(c:Int):=by
 unfold Ej at h;split at h
 ·cases h
 ·rw[Int.tmod_eq_emod_of_nonneg (by omega),←Option.some.inj h];rfl
theorem nzU{M a b c:Nat}(h:F5 M a b=some c):(b:Int)≠0:=by
 unfold F5 at h;split at h
 ·cases h
 ·omega
theorem nzR{a b c:Nat}(h:Ej a b=some c):(b:Int)≠0:=by
 unfold Ej at h;split at h
 ·cases h
 ·omega
theorem nzI{a b c:Int}(h:yz a b=some c):b≠0:=by unfold yz at h;split at h<;>simp_all
theorem abc{a b c:Int}(h:Nl a b=some c):b≠0:=by unfold Nl at h;split at h<;>simp_all
theorem Nn{a b c:Int}(h:yz a b=some c):IntKind.i64.wrap (a.tdiv b)=c:=by
 unfold yz at h;split at h
 ·cases h
 ·exact Option.some.inj h
theorem abd{a b c:Int}(h:Nl a b=some c):a.tmod b=c:=by
 unfold Nl at h;split at h
 ·cases h
 ·exact Option.some.inj h
abbrev ah(x:Nat):List SV:=[.v (.int .u32 (x:Nat))]
abbrev bj(x:Int):List SV:=[.v (.int .i64 x)]
abbrev eB(x:Bool):List SV:=[.v (.bool x)]
abbrev eS{α:Type}(n:Nat)(e:α→List SV)(l:List α):List SV:=[slc n (l.map e)]
structure Zr where
 neg:Bool
 w:List Nat
structure Qr where
 num:Zr
 den:Zr
abbrev eZ(z:Zr):List SV:=[.v (.bool z.neg),slc 1 (z.w.map ah)]
abbrev eQ(q:Qr):List SV:=[.v (.bool q.num.neg),slc 1 (q.num.w.map ah),.v (.bool q.den.neg),slc 1 (q.den.w.map ah)]
class EL {α:Type} (e:α→List SV) (n:outParam Nat):Prop where
 len:∀x,(e x).length=n
 one:∀x,qN (e x)
instance:EL ah 1:=⟨fun _=>rfl,fun _=>inferInstance⟩
instance:EL bj 1:=⟨fun _=>rfl,fun _=>inferInstance⟩
instance:EL eB 1:=⟨fun _=>rfl,fun _=>inferInstance⟩
instance{α:Type}{n:Nat}{e:α→List SV}:EL (eS n e) 1:=⟨fun _=>rfl,fun _=>inferInstance⟩
instance:EL eZ 2:=⟨fun _=>rfl,fun _=>inferInstance⟩
instance:EL eQ 4:=⟨fun _=>rfl,fun _=>inferInstance⟩
structure Sd where
 afW:List Qr
 gen:List Qr
 take:List Qr
structure En where
 acc:Int
 kd:Nat
 hour:Int
 akG:Zr
structure A3 where
 a:Int
 b:Int
 c:Int
structure X4 where
 acc:Int
 kd:Nat
 hour:Int
 e:Int
structure Mv where
 acc:Int
 kd:Nat
 hour:Int
 afX:Qr
structure Bk where
 n:Int
 l:List En
def vN{α:Type}(l k:List α):List α:=k.take l.length++l.drop k.length
structure Tb where
 made:Bool
 vars:Int
 xw:List (List Qr)
 basis:List Int
 rows:List (List Qr)
abbrev sE(x:Tb):List SV:=[.v (.bool x.made),.v (.int .i64 x.vars),slc 1 (x.xw.map (eS 4 eQ)),slc 1 (x.basis.map bj),slc 1 (x.rows.map (eS 4 eQ))]
instance:EL sE 5:=⟨fun _=>rfl,fun _=>inferInstance⟩
structure Pv where
 row:Int
 col:Int
abbrev L8(x:Pv):List SV:=[.v (.int .i64 x.row),.v (.int .i64 x.col)]
instance:EL L8 2:=⟨fun _=>rfl,fun _=>inferInstance⟩
structure Lr where
 vars:Int
 xw:List (List Qr)
 rows:List (List Qr)
 bounds:List Qr
abbrev Kh(x:Lr):List SV:=[.v (.int .i64 x.vars),slc 1 (x.xw.map (eS 4 eQ)),slc 1 (x.rows.map (eS 4 eQ)),slc 4 (x.bounds.map eQ)]
instance:EL Kh 4:=⟨fun _=>rfl,fun _=>inferInstance⟩
structure Sz where
 vars:Int
 xw:Int
 rows:Int
 bounds:Int
abbrev eSz(x:Sz):List SV:=[.v (.int .i64 x.vars),.v (.int .i64 x.xw),.v (.int .i64 x.rows),.v (.int .i64 x.bounds)]
instance:EL eSz 4:=⟨fun _=>rfl,fun _=>inferInstance⟩
structure Cn where
 row:List Qr
 most:Qr
abbrev TR(E:TypeId)(sz:Nat){α:Type}(e:α→List SV)(l:List α):Row:=⟨E,sz,l.length,l.flatMap e⟩
theorem imp_nil{α:Type}{n:Nat}{e:α→List SV}:SV.imp (.v (.slice none 0 0)) (slc n (([]:List α).map e)):=fun _ _ h=>.inl ⟨none,h,rfl⟩
theorem ux{α:Type}(e:α→List SV)(l:List α):(l.map e).flatten=l.flatMap e:=by rw[List.flatMap_def]
theorem rE{α:Type}{e:α→List SV}{n:Nat}[h:EL e n](l:List α):Rows n (l.map e) (l.flatMap e):=⟨ux e l,fun r hr=>by obtain⟨x,_,rfl⟩:=List.mem_map.1 hr;exact h.len x⟩
theorem ES{M:Mem}:∀{l k:List SV} {vs:List Value},SV.dH M (l++k) vs→∃us ws,vs=us++ws∧SV.dH M l us∧SV.dH M k ws
 |[],_,vs,h=>⟨[],vs,rfl,trivial,h⟩
 |_::_,_,[],h=>h.elim
 |_::l,_,v::vs,h=>by
  obtain⟨us,ws,rfl,h1,h2⟩:=ES (l:=l) h.2
  exact⟨v::us,ws,rfl,⟨h.1,h1⟩,h2⟩
theorem m7{α:Type}{e:α→List SV}{n:Nat}[h:EL e n](l:List α):∀M vs,SV.dH M (l.flatMap e) vs→∀v∈vs,v.oneCell'=true:=by
 intro M
 induction l with
 |nil=>intro vs hv;cases vs with|nil=>simp|cons _ _=>exact hv.elim
 |cons x l ih=>
  intro vs hv
  rw[List.flatMap_cons]at hv
  obtain⟨us,ws,rfl,h1,h2⟩:=ES hv
  intro v hv
  rcases List.mem_append.1 hv with hv|hv
  ·exact(h.one x).h M us h1 v hv
  ·exact ih ws h2 v hv
theorem Io{α:Type}{e:α→List SV}{n:Nat}[h:EL e n]:∀{l:List α} {k:Nat} {a:α},l[k]? =some a→((l.flatMap e).drop (k*n)).take n=e a
 |[],_,_,hh=>by simp at hh
 |x::l,0,a,hh=>by
  simp only[List.getElem?_cons_zero,Option.some.injEq]at hh
  subst hh
  rw[List.flatMap_cons,Nat.zero_mul,List.drop_zero,←h.len x,List.take_left']
  rfl
 |x::l,k+1,a,hh=>by
  rw[List.getElem?_cons_succ]at hh
  rw[List.flatMap_cons,show(k+1)*n=(e x).length+k*n by rw[h.len,Nat.add_mul];omega,←List.drop_drop,List.drop_left']
  ·exact Io hh
  ·rfl
theorem Ip{α:Type}{e:α→List SV}{n:Nat}[h:EL e n]{y:α}:∀{l:List α} {k:Nat},k<l.length→lC (l.flatMap e) (k*n) (e y)=(l.set k y).flatMap e:=by
 have afZ:∀(u:List SV) (a b:List SV) (j:Nat),j+u.length≤a.length→lC (a++b) j u=lC a j u++b:=by
  intro u
  induction u with
  |nil=>intro a b j _;rfl
  |cons s u ih=>
   intro a b j hj
   simp only[List.length_cons]at hj
   simp only[lC]
   rw[List.set_append_left _ _ (by omega),ih _ _ _ (by rw[List.length_set];omega)]
 have af0:∀(u:List SV) (a b:List SV) (j:Nat),lC (a++b) (a.length+j) u=a++lC b j u:=by
  intro u
  induction u with
  |nil=>intro a b j;rfl
  |cons s u ih=>
   intro a b j
   simp only[lC]
   rw[List.set_append_right _ _ (by omega),show a.length+j-a.length=j by omega,show a.length+j+1=a.length+(j+1) by omega,ih]
 have af1:∀(u a:List SV),u.length=a.length→lC a 0 u=u:=by
  have gen:∀(u a p:List SV),u.length=a.length→lC (p++a) p.length u=p++u:=by
   intro u
   induction u with
   |nil=>intro a p ha;have:a=[]:=List.eq_nil_of_length_eq_zero ha.symm;subst this;rfl
   |cons s u ih=>
    intro a p ha
    cases a with
    |nil=>cases ha
    |cons t a=>
     simp only[lC]
     rw[List.set_append_right _ _ (Nat.le_refl _),Nat.sub_self,List.set_cons_zero,show p++s::a=(p++[s])++a by simp,show p.length+1=(p++[s]).length by simp,ih a _ (by simpa using ha)]
     simp
  intro u a ha
  exact gen u a [] ha
 intro l
 induction l with
 |nil=>intro k hk;simp at hk
 |cons x l ih=>
  intro k hk
  cases k with
  |zero=>
   rw[List.set_cons_zero,List.flatMap_cons,List.flatMap_cons,Nat.zero_mul,afZ _ _ _ _ (by rw[h.len,h.len];omega),af1 _ _ (by rw[h.len,h.len])]
  |succ k=>
   simp only[List.length_cons]at hk
   rw[List.set_cons_succ,List.flatMap_cons,List.flatMap_cons,show(k+1)*n=(e x).length+k*n by rw[h.len,Nat.add_mul];omega,af0,ih (by omega)]
end Go.Fw
namespace Go.Fw
open Go.RowKit
section steps
variable {P:Program}{C:Ctx}{ops:Array Oper}{S:AS}{nd:Bool}{K:List Ac→AS→Prop}{rest:List Oper}{acc:List Ac}
variable {gd:Option (Nat×Bool)}{rg:List Nat}{d:Nat}{ty:TypeId}{pos:String}{aft:Array Edge}{x y z:Operand}{T U E0:TypeId}
variable {α:Type}{l l' k:List α}{e:α→List SV}{n by_:Nat}{zv:Value}
theorem RT.af2(hg:Gd ops S gd rg){s X:SV}(hx:S.ev x=.sv s)(hi:SV.imp s X)(hd:d<S.n)
  (next:RunT P C ops nd K rest (⟨rg++aq x,[],[],⟨some (d,.sv X),[],[]⟩⟩::acc) (S.set d (.sv X))):RunT P C ops nd K (⟨some d,.assign x,ty,pos,aft,gd⟩::rest) acc S:=
 RT.value hg (aq x) [] [] (.sv X) hd (by intro c h;cases h) (fun S' ht _ _ E a w h=>by
  have hx':S'.ev x=.sv s:=by rw[aJ (fun _ h=>h) ht,hx]
  exact⟨a.eval x,rfl,by have:=h.ev x;rw[hx']at this;exact hi _ _ this,eY⟩) next
theorem No{E:Env}:∀{l l':List SV} {vs:List Value},bB l l'→SV.dH E.M l vs→cS E (l'.map AV.sv) vs:=fun hi h=>cS.yj (hi.holds h)
theorem F7(M:Mem):∀l:List Value,SV.dH M (l.map SV.v) l
 |[]=>trivial
 |_::l=>⟨rfl,F7 M l⟩
theorem RT.xx(hg:Gd ops S gd rg)[tz:ax P T zv]{cs:List SV}(hi:bB (zv.cells.toList.map SV.v) cs){av:List AV}(hav:cs.map AV.sv=av)(hd:d<S.n)(hb:S.b d=none)(hp:C.gP d=none)
  (next:RunT P C ops nd K rest (⟨rg++[],[d],[],⟨some (d,.ptr d 0),[(d,⟨T,av⟩)],[]⟩⟩::acc) ((S.kH d ⟨T,av⟩).set d (.ptr d 0))):RunT P C ops nd K (⟨some d,.alloc T,ty,pos,aft,gd⟩::rest) acc S:=by
 subst hav
 exact RT.LV hg (by intro c h;cases h) [] hd hb hp (fun S' _ E a w h=>⟨zv.cells.toList,by simp[execOp,Instr.alloc,newVar,newRow,tz.run],No hi (F7 _ _),fun y hy=>by
  obtain⟨s,_,rfl⟩:=List.mem_map.1 hy
  exact eY⟩) next
theorem RT.WO(hg:Gd ops S gd rg){pl:List (Nat×Nat)}{zc:List Value}[tP:bP P T pl zc]{parts:Array (Nat×Operand)}{qs:List (Nat×List SV)}(hp:oI S parts.toList qs){cs cs':List SV}(hf:wM (fun i=>pl[i]?) (zc.map SV.v) qs=some cs)(hi:bB cs cs')(hd:d<S.n)
  (next:RunT P C ops nd K rest (⟨rg++l7 parts.toList,[],[],⟨some (d,.sv (.agg cs')),[],[]⟩⟩::acc) (S.set d (.sv (.agg cs')))):RunT P C ops nd K (⟨some d,.build T parts,ty,pos,aft,gd⟩::rest) acc S:=by
 refine RT.value hg (l7 parts.toList) [] [] (.sv (.agg cs')) hd (by intro c h;cases h) (fun S' ht _ _ E a w h=>?_) next
 have hu:=tP.h
 cases hT:P.underlying T with
 |none=>rw[hT]at hu;cases hu
 |some u=>
  rw[hT]at hu
  cases u with
  |struct fs=>
   simp only at hu
   have hz:(zeroValue T).run P w=.ok (.agg ⟨zc⟩) w:=ax.run (t:=⟨tP.hz⟩) w
   obtain⟨us,h1,h2,_⟩:=Ca h (fun i=>pl[i]?) hp ht (cells:=zc.map SV.v) (vs:=zc) (F7 _ zc) (List.all_eq_true.1 tP.o) hf
   refine⟨.agg ⟨us⟩,?_,⟨us,rfl,hi.holds h2⟩,eY⟩
   have hm:(fs.mapM (fun f=>do pure (f.offset,←sizeOf f.type):Field→Sem (Nat×Nat))).run P w=.ok pl.toArray w:=by
    have:=um (P:=P) (w:=w) hu
    rw[←Array.toArray_toList (xs:=fs),List.mapM_toArray]
    rw[Sem.run_map,this];rfl
   have h1':Instr.fill (fun i=>pl.toArray[i]?) ⟨zc⟩ (parts.toList.map fun p=>(p.1,a.eval p.2))=some ⟨us⟩:=by simpa using h1
   simp only[execOp,Instr.build,underlying]
   simp only[Sem.run_bind,hz,Result.andThen_ok,run_program,hT,Sem.run_pure,Value.cells]
   have hm':(Array.mapM (fun f=>do
     let __do_lift←sizeOf f.type
     pure (f.offset,__do_lift)) fs:Sem _).run P w=.ok pl.toArray w:=hm
   simp only[hm',Result.andThen_ok]
   have e4:(Array.map (fun x=>match x with|(i,x)=>(i,a.eval x)) parts).toList=parts.toList.map fun p=>(p.1,a.eval p.2):=by simp
   simp only[e4,h1',Sem.run_pure,Result.andThen_ok]
  |_=>cases hu
theorem Pure.w{f:FuncId}{args args':List SV}{r:SV}(h:Pure P f args r)(hi:bB args' args):Pure P f args' r:=fun M w vs hM hv=>h M w vs hM (hi.holds hv)
theorem Pure.r{f:FuncId}{args:List SV}{r r':SV}(h:Pure P f args r)(hi:SV.imp r r'):Pure P f args r':=fun M w vs hM hv=>(h M w vs hM hv).mono fun _ _ ⟨v,M',h1,h2,h3,h4,h5,h6⟩=>⟨v,M',h1,h2,h3,h4,hi _ _ h5,h6⟩
theorem F2.w{f:FuncId}{args args':List SV}{R:Row}(h:F2 P f args R)(hi:bB args' args):F2 P f args' R:=fun M w vs hM hv=>h M w vs hM (hi.holds hv)
theorem RT.abe(hg:Gd ops S gd rg){m:Nat}[tS:eK P T E0 m]{c:Int}(hx:S.ev x=.sv (slc n (l.map e)))(hd:d<S.n)(hc:(l.length:Int)=c)
  (next:RunT P C ops nd K rest (⟨rg++aq x,[],[],⟨some (d,.sv (.v (.int .i64 c))),[],[]⟩⟩::acc) (S.set d (.sv (.v (.int .i64 c))))):RunT P C ops nd K (⟨some d,.call ⟨.builtin .len,#[x],#[T]⟩,ty,pos,aft,gd⟩::rest) acc S:=
 RT.len hg hx hd (by rw[List.length_map,hc];exact next)
theorem RT.O3(hg:Gd ops S gd rg){m:Nat}[tS:eK P T E0 m]{i:Nat}{E1:TypeId}{c:Int}(hx:S.ev x=.row i)(hR:S.r i=.live (TR E1 n e l))(hd:d<S.n)(hc:(l.length:Int)=c)
  (next:RunT P C ops nd K rest (⟨rg++aq x,[],[i],⟨some (d,.sv (.v (.int .i64 c))),[],[]⟩⟩::acc) (S.set d (.sv (.v (.int .i64 c))))):RunT P C ops nd K (⟨some d,.call ⟨.builtin .len,#[x],#[T]⟩,ty,pos,aft,gd⟩::rest) acc S:=
 RT.afx hg hx hR hd (by show RunT _ _ _ _ _ _ (⟨_,_,_,⟨some (d,.sv (.v (.int .i64 (l.length:Int)))),_,_⟩⟩::_) (S.set d (.sv (.v (.int .i64 (l.length:Int)))));rw[hc];exact next)
theorem RT.S8(hg:Gd ops S gd rg)[tS:eK P T E0 n]{kk:IntKind}{i:Int}{a:α}(hx:S.ev x=.sv (slc n (l.map e)))(hy:S.ev y=.sv (.v (.int kk i)))(hd:d<S.n)(ha:cz l i=some a)
  (next:RunT P C ops nd K rest (⟨rg++(aq x++aq y),[],[],⟨some (d,.sv (ref (e a))),[],[]⟩⟩::acc) (S.set d (.sv (ref (e a))))):RunT P C ops nd K (⟨some d,.indexAddr T x y,ty,pos,aft,gd⟩::rest) acc S:=
 RT.indexAddr hg (e a) hx hy hd (rC ha).1 (by rw[List.getElem?_map,(rC ha).2];rfl) next
theorem RT.F8(hg:Gd ops S gd rg)[tS:eK P T E0 n]{lo hi:Option Operand}(a b:Int)(hx:S.ev x=.sv (slc n (l.map e)))(hlo:Cb S 0 lo a)(hhi:Cb S l.length hi b)(hd:d<S.n)(h:Ei l a b=some l')
  (next:RunT P C ops nd K rest (⟨rg++(aq x++(oJ lo++oJ hi)),[],[],⟨some (d,.sv (slc n (l'.map e))),[],[]⟩⟩::acc) (S.set d (.sv (slc n (l'.map e))))):RunT P C ops nd K (⟨some d,.slice T x lo hi none,ty,pos,aft,gd⟩::rest) acc S:=by
 obtain⟨h0,h1,h2,h3⟩:=ER h
 exact RT.slice hg hx a b hlo (by rw[List.length_map];exact hhi) hd h0 h1 (by rw[List.length_map];exact h2) _ (by rw[L0,h3]) next
theorem RT.fX(hg:Gd ops S gd rg)[tS:eK P T E0 n][tE:aL P E0 n by_ zv]{len:Nat}{parts:Array (Nat×Operand)}{qs:List (Nat×List SV)}(hp:oI S parts.toList qs)(hd:d<S.n)
  (hc:qP 0 qs=true) (hl:qs.length=len) (hsz:(qs.all fun q=>Nat.beq q.2.length n)=true) (hlen:Nat.ble (len*n) 16777216=true) (Ni:(zv.cells.toList.all fun v=>v.oneCell')=true) (jt:qs.map (·.2)=l.map e)
  (next:RunT P C ops nd K rest (⟨rg++l7 parts.toList,[],[],⟨some (d,.sv (slc n (l.map e))),[],[]⟩⟩::acc) (S.set d (.sv (slc n (l.map e))))):RunT P C ops nd K (⟨some d,.buildSlice T len parts,ty,pos,aft,gd⟩::rest) acc S:=
 RT.buildSlice hg hp hd hc hl hsz (Nat.le_of_ble_eq_true hlen) (List.all_eq_true.1 Ni) jt next
theorem RT.L9(hg:Gd ops S gd rg)[tS:eK P T E0 n][tE:aL P E0 n by_ zv]{len:Nat}{parts:Array (Nat×Operand)}{qs:List (Nat×List SV)}(hp:oI S parts.toList qs)(hd:d<S.n)(yp:S.r d=.un)(wL:d<1000)
  (hc:qP 0 qs=true) (hl:qs.length=len) (hsz:(qs.all fun q=>Nat.beq q.2.length n)=true) (hlen:Nat.ble (len*n) 16777216=true) (Ni:(zv.cells.toList.all fun v=>v.oneCell')=true) (jt:qs.map (·.2)=l.map e)
  (next:RunT P C ops nd K rest (⟨rg++l7 parts.toList,[],[d],⟨some (d,.row d),[],[(d,.live (TR E0 n e l))]⟩⟩::acc) ((AS.bC [(d,.live (TR E0 n e l))] S).set d (.row d))):RunT P C ops nd K (⟨some d,.buildSlice T len parts,ty,pos,aft,gd⟩::rest) acc S:=by
 refine RT.Ii hg hp hd yp wL hc hl hsz (Nat.le_of_ble_eq_true hlen) (List.all_eq_true.1 Ni) (cells:=l.flatMap e) (by rw[jt,ux]) ?_
 have:len=l.length:=by have h0:=congrArg List.length jt;simpa[hl]using h0
 rw[this];exact next
theorem RT.apR(hg:Gd ops S gd rg)[tS:eK P T E0 n][tE:aL P E0 n by_ zv]{i:Nat}(hx:S.ev x=.row i)(hR:S.r i=.live (TR E0 n e l))(hy:S.ev y=.sv (slc n (k.map e)))(hd:d<S.n)(yp:S.r d=.un)(wL:d<1000)(h:zM by_ l k=some l')
  (next:RunT P C ops nd K rest (⟨rg++(aq x++aq y),[],[i,d],⟨some (d,.row d),[],[(i,.dead),(d,.live (TR E0 n e l'))]⟩⟩::acc) ((AS.bC [(i,.dead),(d,.live (TR E0 n e l'))] S).set d (.row d))):RunT P C ops nd K (⟨some d,.call ⟨.builtin .append,#[x,y],#[T,T]⟩,ty,pos,aft,gd⟩::rest) acc S:=by
 obtain⟨h1,h2,rfl⟩:=uw h
 exact RT.SU hg hx hR hy hd yp wL (by simpa using h1) (by simpa using h2) _ (by simp[ux]) next
theorem RT.WQ(hg:Gd ops S gd rg)[tS:eK P T E0 n][tE:aL P E0 n by_ zv][el:EL e n]{i:Nat}(hx:S.ev x=.row i)(hR:S.r i=.live (TR E0 n e l))(hy:S.ev y=.sv (slc n (k.map e)))(hd:d<S.n)(yp:S.r d=.un)(wL:d<1000)(h:zM by_ l k=some l')
  (next:RunT P C ops nd K rest (⟨rg++(aq x++aq y),[],[d,i],⟨some (d,.sv (slc n (l'.map e))),[],[(i,.dead),(d,.dead)]⟩⟩::acc) ((AS.bC [(i,.dead),(d,.dead)] S).set d (.sv (slc n (l'.map e))))):RunT P C ops nd K (⟨some d,.call ⟨.builtin .append,#[x,y],#[T,T]⟩,ty,pos,aft,gd⟩::rest) acc S:=by
 obtain⟨h1,h2,rfl⟩:=uw h
 have hf:l.flatMap e++(k.map e).flatten=(l++k).flatMap e:=by simp[ux]
 exact RT.L6 hg (.row hx hR) hy hd yp wL (by simpa using h1) (by simpa using h2) _ (rows':=(l++k).map e) (fun _ _ h _=>h) (by rw[hf];exact rE _) (by simp) (by rw[hf];exact m7 _) next
theorem ET(zc:Array Value)(n:Nat)(hz:zc.size=n)(hn:0<n):∀m:Nat,(madeCells zc (m*n)).toList=(List.replicate m zc.toList).flatten
 |0=>by simp[madeCells]
 |m+1=>by
  have ih:=ET zc n hz hn m
  rw[List.replicate_succ',List.flatten_append,←ih]
  simp only[madeCells,Array.toList_map,Array.toList_range,List.flatten_cons,List.flatten_nil,List.append_nil]
  rw[show(m+1)*n=m*n+n by rw[Nat.add_mul];omega,List.range_add,List.map_append,List.map_map]
  congr 1
  apply List.ext_getElem?
  intro i
  rw[List.getElem?_map]
  rcases Nat.lt_or_ge i n with hi|hi
  ·rw[List.getElem?_range hi]
   simp only[Option.map_some,Function.comp]
   rw[hz,Nat.mul_comm m n,Nat.mul_add_mod,Nat.mod_eq_of_lt hi]
   rw[getElem!_pos zc i (by omega),Array.getElem?_toList,Array.getElem?_eq_getElem (by omega)]
  ·rw[List.getElem?_eq_none (by simpa using hi),List.getElem?_eq_none (by simp;omega)];rfl
theorem Iq:∀{a b c d:List SV},bB a c→bB b d→bB (a++b) (c++d)
 |[],_,[],_,_,h=>h
 |_::_,_,_::_,_,h,h'=>⟨h.1,Iq h.2 h'⟩
 |[],_,_::_,_,h,_=>h.elim
 |_::_,_,[],_,h,_=>h.elim
theorem Ir{zl:List Value}{zz:α}(hi:bB (zl.map SV.v) (e zz)):∀m:Nat,bB ((List.replicate m zl).flatten.map SV.v) ((List.replicate m zz).flatMap e)
 |0=>trivial
 |m+1=>by
  rw[List.replicate_succ,List.replicate_succ,List.flatten_cons,List.map_append,List.flatMap_cons]
  exact Iq hi (Ir hi m)
theorem RT.kW(hg:Gd ops S gd rg)[tS:eK P T E0 n][tE:aL P E0 n by_ zv]{kl kc:IntKind}{c:Int}{zz:α}(hx:S.ev x=.sv (.v (.int kl c)))(hy:S.ev y=.sv (.v (.int kc c)))(hd:d<S.n)(yp:S.r d=.un)(wL:d<1000)(hz:zv.cells.size=n)(hn:0<n)(hi:bB (zv.cells.toList.map SV.v) (e zz))(hm:D4 by_ c zz=some l')
  (next:RunT P C ops nd K rest (⟨rg++(aq x++aq y),[],[d],⟨some (d,.row d),[],[(d,.live (TR E0 n e l'))]⟩⟩::acc) ((AS.bC [(d,.live (TR E0 n e l'))] S).set d (.row d))):RunT P C ops nd K (⟨some d,.makeSlice T x y,ty,pos,aft,gd⟩::rest) acc S:=by
 obtain⟨h0,hroom,uh,rfl⟩:=OZ hm
 refine .inl ⟨_,[],[d],_,?_,next⟩
 rintro S' hn' ht _ hr i a w L Q ho ⟨E,h⟩ hL
 refine bW (C:=C) ho (hg.wanted h (fun s hs=>ht s (List.mem_append_left _ hs)) rfl) ?_
 have h1:a.eval x=.int kl c:=by have h1:=h.ev x;rw[aJ (fun _ h=>List.mem_append_right _ (List.mem_append_left _ h)) ht,hx]at h1;exact h1
 have h2:a.eval y=.int kc c:=by have h2:=h.ev y;rw[aJ (fun _ h=>List.mem_append_right _ (List.mem_append_right _ h)) ht,hy]at h2;exact h2
 obtain⟨info,hii,hsz,hby,hzz⟩:=aL.info (P:=P) (E:=E0) (n:=n) (by_:=by_) (z:=zv)
 obtain⟨m,rfl⟩:=Int.eq_ofNat_of_zero_le h0
 have hb':info.bytes*m≤281474976710656:=by
  rw[hby]
  have:((by_*m:Nat):Int)≤281474976710656:=by rw[Int.natCast_mul];exact hroom
  omega
 obtain⟨w',q1,q2,q3⟩:=run_make_full (P:=P) w 0 T E0 info zv n tS.u hii hzz hsz kl kc m hb' (by unfold maxLen;omega) (Nat.zero_le _)
 have hr':(execOp a.eval ⟨some d,.makeSlice T x y,ty,pos,aft,gd⟩).run P w=.ok (.value (.slice (some ⟨w.heap.size,0,none⟩) m m)) w':=by
  simp only[execOp,h1,h2]
  simp[q1]
 have Kv:S'.r d=.un:=by rw[hr d (by simp)];exact yp
 have e0:(m:Int).toNat=m:=by simp
 have hall:SV.dH E.M ((List.replicate m zz).flatMap e) (madeCells zv.cells (m*n)).toList:=by
  rw[ET zv.cells n hz hn]
  exact bB.holds (l:=((List.replicate m zv.cells.toList).flatten.map SV.v)) (Ir hi m) (F7 _ _)
 have hlen:(List.replicate (m:Int).toNat zz).length=m:=by simp
 refine bR (C:=C) (by intro c h;cases h) hr' (hL _ _ ⟨_,(h.newRow Kv wL [] none (.inl ⟨rfl,rfl⟩) (R':=TR E0 n e (List.replicate (m:Int).toNat zz)) (by show w'.ownsRow 0 E0 n _ (List.replicate (m:Int).toNat zz).length _;rw[hlen];exact q2) (by rw[e0];exact hall) (.inr (.inl rfl)) q3).put (d:=d) (x:=.row d) (v:=.slice (some ⟨w.heap.size,0,none⟩) m m) (by simp[AV.holds]) (by show d<S'.n;omega) ⟨fun _ e=>e.elim,fun j e=>?_⟩⟩)
 cases e
 show(AS.oV S' d _).r d≠_
 rw[AS.gU];simp
theorem RT.wO(hg:Gd ops S gd rg)[tS:eK P T E0 n][tE:aL P E0 n by_ zv]{kl kc:IntKind}{c:Int}(hx:S.ev x=.sv (.v (.int kl 0)))(hy:S.ev y=.sv (.v (.int kc c)))(hd:d<S.n)(yp:S.r d=.un)(wL:d<1000)(h:OX (α:=α) by_ c=some l')
  (next:RunT P C ops nd K rest (⟨rg++(aq x++aq y),[],[d],⟨some (d,.row d),[],[(d,.live (TR E0 n e l'))]⟩⟩::acc) ((AS.bC [(d,.live (TR E0 n e l'))] S).set d (.row d))):RunT P C ops nd K (⟨some d,.makeSlice T x y,ty,pos,aft,gd⟩::rest) acc S:=by
 obtain⟨h0,h1,h2,rfl⟩:=O0 h
 exact RT.aaQ hg hx hy hd yp wL h0 h1 h2 next
theorem RT.O4(hg:Gd ops S gd rg)[tS:eK P T E0 n]{i j:Nat}{E1:TypeId}{kk:IntKind}{v:Int}(hx:S.ev x=.row i)(hR:S.r i=.live (TR E1 n e l))(hy:S.ev y=.sv (.v (.int kk v)))(hd:d<S.n)(h:kQ l v=some j)
  (next:RunT P C ops nd K rest (⟨rg++(aq x++aq y),[],[i],⟨some (d,.jI i (j*n)),[],[]⟩⟩::acc) (S.set d (.jI i (j*n)))):RunT P C ops nd K (⟨some d,.indexAddr T x y,ty,pos,aft,gd⟩::rest) acc S:=by
 obtain⟨h0,h1,h2⟩:=OY h
 exact RT.ixR hg (.row hx hR) hy hd h0 h1 (j*n) (by rw[h2];omega) next
theorem RT.Np(hg:Gd ops S gd rg)[tV:bX P T][el:EL e 1]{i j:Nat}{E1:TypeId}{a:α}{s:SV}(hx:S.ev x=.jI i (j*1))(hR:S.r i=.live (TR E1 1 e l))(ha:l[j]? =some a)(hs:e a=[s])(hd:d<S.n)
  (next:RunT P C ops nd K rest (⟨rg++aq x,[],[i],⟨some (d,.sv s),[],[]⟩⟩::acc) (S.set d (.sv s))):RunT P C ops nd K (⟨some d,.load T x,ty,pos,aft,gd⟩::rest) acc S:=by
 refine RT.ldR hg hx hR (s:=s) ?_ hd next
 have:=Io (e:=e) ha
 rw[hs]at this
 have h2:=congrArg (·[0]?) this
 simpa[List.getElem?_take]using h2
theorem S9(a:List SV)(k:Nat)(s:SV):a.set k s=lC a k [s]:=rfl
theorem RT.af4(hg:Gd ops S gd rg)[tV:bX P T][el:EL e 1]{i j:Nat}{E1:TypeId}{s:SV}[o1:One s](a:α)(hs:e a=[s])(hx:S.ev x=.jI i (j*1))(hR:S.r i=.live (TR E1 1 e l))(hy:S.ev y=.sv s)(h:stM l j a=some l')
  (next:RunT P C ops nd K rest (⟨rg++(aq x++aq y),[],[i],⟨none,[],[(i,.live (TR E1 1 e l'))]⟩⟩::acc) (AS.bC [(i,.live (TR E1 1 e l'))] S)):RunT P C ops nd K (⟨none,.store T x y,ty,pos,aft,gd⟩::rest) acc S:=by
 obtain⟨h1,rfl⟩:=Il h
 refine RT.stR hg hx hR hy (by show j*1+1≤l.length*1;omega) ((l.set j a).flatMap e) (by rw[S9,←hs];exact Ip h1) ?_
 have:(TR E1 1 e (l.set j a))=⟨E1,1,l.length,(l.set j a).flatMap e⟩:=by show Row.mk _ _ _ _=_;rw[List.length_set]
 rw[←this];exact next
theorem RT.abf(hg:Gd ops S gd rg)[tA:jr P T n][el:EL e n]{i j:Nat}{E1:TypeId}(a:α)(hx:S.ev x=.jI i (j*n))(hR:S.r i=.live (TR E1 n e l))(hy:S.ev y=.sv (.agg (e a)))(h:stM l j a=some l')
  (next:RunT P C ops nd K rest (⟨rg++(aq x++aq y),[],[i],⟨none,[],[(i,.live (TR E1 n e l'))]⟩⟩::acc) (AS.bC [(i,.live (TR E1 n e l'))] S)):RunT P C ops nd K (⟨none,.store T x y,ty,pos,aft,gd⟩::rest) acc S:=by
 obtain⟨h1,rfl⟩:=Il h
 have o1:=el.one a
 refine RT.afF hg hx hR hy (el.len a) (by show j*n+n≤l.length*n;have:=Nat.mul_le_mul_right n h1;rw[Nat.succ_mul]at this;exact this) ((l.set j a).flatMap e) (Ip h1) ?_
 have:(TR E1 n e (l.set j a))=⟨E1,n,l.length,(l.set j a).flatMap e⟩:=by show Row.mk _ _ _ _=_;rw[List.length_set]
 rw[←this];exact next
end steps
theorem dD{S:AS}{i n:Nat}{E1:TypeId}{α:Type}{e:α→List SV}{l:List α}[el:EL e n](hR:S.r i=.live (TR E1 n e l)):ud S (S.oH i (slc n (l.map e))):=by
 rintro C a w ⟨E,h⟩
 have hlen:l.length≤9223372036854775807:=by
  obtain⟨⟨vs,ho,hv⟩,_⟩:=h.rx i _ hR
  rcases ho.2 with⟨_,q2⟩|⟨g',cap,cur,q1,_,q2,q3,q4,q5,q6⟩
  ·have q2:l.length=0:=q2
   omega
  ·have q3:l.length≤cap:=q3
   have:maxLen=9223372036854775807:=by decide
   omega
 exact h.oH hR (rE l) (by rw[List.length_map]) hlen (m7 l) (fun _ _ h _=>h)
section control
variable {P:Program}{C:Ctx}{S:AS}{Q:Exit→AS→Prop}
theorem aF{A:Code}{J R:Type}{kB:J→Option R}{fA:(J→Option R)→Option R}{r:R}(h:b9 kB fA=some r)(I:J→AS)
  (hA:fA kB=some r→Ok P C A S (ae (fun S'=>∃j,kB j=some r∧ud S' (I j)) Q)) (hQ:∀j,kB j=some r→Q .normal (I j)):Ok P C A S Q:=fun a w hs=>by
 refine wpIn_mono (hA h a w hs) ?_
 rintro e a' w' ⟨S',q,hh⟩
 cases e with
 |normal=>obtain⟨j,h1,h2⟩:=q;exact⟨_,hQ j h1,h2 C a' w' hh⟩
 |_=>exact⟨S',q,hh⟩
theorem aT{A:Code}{X:Type}(I:X→AS)(p:X→Prop)(hA:Ok P C A S (ae (fun S'=>∃j,p j∧ud S' (I j)) Q))(hQ:∀j,p j→Q .normal (I j)):Ok P C A S Q:=fun a w hs=>by
 refine wpIn_mono (hA a w hs) ?_
 rintro e a' w' ⟨S',q,hh⟩
 cases e with
 |normal=>obtain⟨j,h1,h2⟩:=q;exact⟨_,hQ j h1,h2 C a' w' hh⟩
 |_=>exact⟨S',q,hh⟩
theorem aU{c:Code}{T E:Type}{body:T→Option (T⊕E)}{s0:T}{e:E}(h:bQ body s0=some e)(I:T→AS)(h0:ud S (I s0))
  (round:∀(s:T) (y:T⊕E) (G:T→Prop),body s=some y→(∀s',y=.inl s'→G s')→(∀e',y=.inr e'→e'=e)→Ok P C c (I s) (ae (fun S'=>∃s',G s'∧ud S' (I s')) Q)):Ok P C (.loop c) S Q:=by
 obtain⟨n,hn⟩:=xq h
 refine ym (ι:={x:T×Nat//oL body x.2 x.1=some e}) (fun x=>I x.1.1) (fun x=>x.1.2) ⟨(s0,n),hn⟩ h0 ?_
 rintro⟨⟨s,m⟩,hm⟩
 cases m with
 |zero=>cases hm
 |succ m=>
  cases hb:body s with
  |none=>simp only[oL,hb]at hm;cases hm
  |some y=>
   refine FV (round s y (fun s'=>oL body m s'=some e) hb ?_ ?_) ?_
   ·rintro s' rfl;simpa only[oL,hb]using hm
   ·rintro e' rfl;simp only[oL,hb]at hm;exact Option.some.inj hm
   ·intro ex S' q
    cases ex with
    |normal=>obtain⟨s',h1,h2⟩:=q;exact⟨⟨(s',m),h1⟩,Nat.lt_succ_self m,h2⟩
    |_=>exact q
end control
end Go.Fw
namespace Go.Fw
open Go.RowKit
abbrev Sy:=List UInt8
def bs(l:Sy):ByteArray:=⟨⟨l⟩⟩
def wP(l:Sy)(i:Int):Option Nat:=(cz l i).map UInt8.toNat
theorem Ta(l:Sy):(bs l).size=l.length:=rfl
theorem WR(l:Sy)(i:Nat):(bs l)[i]? =l[i]? :=by
 rcases Nat.lt_or_ge i l.length with h|h
 ·rw[getElem?_pos (bs l) i h,List.getElem?_eq_getElem h];rfl
 ·rw[getElem?_neg (bs l) i (by rw[Ta];omega),List.getElem?_eq_none h]
section steps
variable {P:Program}{C:Ctx}{ops:Array Oper}{S:AS}{nd:Bool}{K:List Ac→AS→Prop}{rest:List Oper}{acc:List Ac}
variable {gd:Option (Nat×Bool)}{rg:List Nat}{d:Nat}{ty:TypeId}{pos:String}{aft:Array Edge}{x y z:Operand}{T U E0:TypeId}
variable {l l' k:Sy}
theorem RT.skV{op:Op}{j g:Nat}{b want:Bool}(h1:(ops[j]?).bind (·.dst)=some g)(h2:S.t g=.sv (.v (.bool b)))(hb:b≠want)(hd:d<S.n)
  (next:RunT P C ops nd K rest (⟨[g],[],[],⟨some (d,.sv (.v undef)),[],[]⟩⟩::acc) (S.set d (.sv (.v undef)))):RunT P C ops nd K (⟨some d,op,ty,pos,aft,some (j,want)⟩::rest) acc S:=by
 refine .inl ⟨[g],[],[],⟨some (d,.sv (.v undef)),[],[]⟩,?_,next⟩
 rintro S' hn ht _ _ i a w L Q ho ⟨E,h⟩ hL
 have hv:=h.tm g
 rw[ht g (by simp),h2]at hv
 have hv:a.tmps.getD g undef=.bool b:=hv
 have HQ:a.tmps[g]? =some (.bool b):=by
  rw[Array.getD_eq_getD_getElem?]at hv
  cases e:a.tmps[g]? with
  |none=>rw[e]at hv;simp[undef]at hv
  |some x=>rw[e]at hv;simp at hv;rw[hv]
 have hw:Region.wanted ⟨some d,op,ty,pos,aft,some (j,want)⟩ (yielded ops a.tmps)=false:=by
  simp[Region.wanted,yielded,h1,HQ,hb]
 simp only[wpOpIn,ho,hw]
 exact⟨fun _ _=>trivial,hL _ _ ⟨E,h.put (x:=.sv (.v undef)) (v:=undef) rfl (by omega) ⟨fun _ h=>h.elim,fun _ h=>h.elim⟩⟩⟩
theorem RT.abg{op:Op}{j g:Nat}{want:Bool}(h1:(ops[j]?).bind (·.dst)=some g)(h2:S.t g=.sv (.v undef))(hd:d<S.n)
  (next:RunT P C ops nd K rest (⟨[g],[],[],⟨some (d,.sv (.v undef)),[],[]⟩⟩::acc) (S.set d (.sv (.v undef)))):RunT P C ops nd K (⟨some d,op,ty,pos,aft,some (j,want)⟩::rest) acc S:=by
 refine .inl ⟨[g],[],[],⟨some (d,.sv (.v undef)),[],[]⟩,?_,next⟩
 rintro S' hn ht _ _ i a w L Q ho ⟨E,h⟩ hL
 have hv:=h.tm g
 rw[ht g (by simp),h2]at hv
 have hv:a.tmps.getD g undef=undef:=hv
 rw[Array.getD_eq_getD_getElem?]at hv
 have hw:Region.wanted ⟨some d,op,ty,pos,aft,some (j,want)⟩ (yielded ops a.tmps)=false:=by
  cases e:a.tmps[g]? with
  |none=>simp[Region.wanted,yielded,h1,e]
  |some x=>
   rw[e]at hv
   simp only[Option.getD_some]at hv
   subst hv
   simp[Region.wanted,yielded,h1,e,undef]
 simp only[wpOpIn,ho,hw]
 exact⟨fun _ _=>trivial,hL _ _ ⟨E,h.put (x:=.sv (.v undef)) (v:=undef) rfl (by omega) ⟨fun _ h=>h.elim,fun _ h=>h.elim⟩⟩⟩
theorem RT.six(hg:Gd ops S gd rg)[tS:H6 P T]{kk:IntKind}{i:Int}{c:Nat}(hx:S.ev x=.sv (.v (.string (bs l))))(hy:S.ev y=.sv (.v (.int kk i)))(hd:d<S.n)(h:wP l i=some c)
  (next:RunT P C ops nd K rest (⟨rg++(aq x++aq y),[],[],⟨some (d,.sv (.v (.int .u8 (c:Nat)))),[],[]⟩⟩::acc) (S.set d (.sv (.v (.int .u8 (c:Nat)))))):RunT P C ops nd K (⟨some d,.index T x y,ty,pos,aft,gd⟩::rest) acc S:=
 RT.Kf hg (by intro c h;cases h) hx hy hd (fun ρ w h1 h2=>by
  unfold wP at h
  cases hh:cz l i with
  |none=>rw[hh]at h;cases h
  |some b=>
   rw[hh]at h
   obtain⟨q1,q2⟩:=rC hh
   have q3:b.toNat=c:=Option.some.inj h
   have q4:(bs l)[i.toNat]? =some b:=by rw[WR];exact q2
   simp[execOp,h1,h2,Instr.index,asIntOf,underlying,tS.h,q1,q4,q3]) next
end steps
section rows
variable {P:Program}{C:Ctx}{ops:Array Oper}{S:AS}{nd:Bool}{K:List Ac→AS→Prop}{rest:List Oper}{acc:List Ac}
variable {gd:Option (Nat×Bool)}{rg:List Nat}{d:Nat}{ty:TypeId}{pos:String}{aft:Array Edge}{x y z:Operand}{T U E0:TypeId}
variable {α:Type}{l l' k:List α}{e:α→List SV}{n by_:Nat}{zv:Value}
end rows
end Go.Fw
namespace Go.Fw
open Go.RowKit
def wQ{α:Type}(l l':List α):Option Unit:=if l'.length=l.length then some ()else none
theorem jb{α:Type}{l l':List α}{u:Unit}(h:wQ l l'=some u):l'.length=l.length:=by
 unfold wQ at h;split at h
 ·assumption
 ·cases h
def WS{α:Type}(l:List α)(lo hi:Int):Option (Nat×Nat):=if 0≤lo∧lo<l.length∧lo≤hi∧hi≤l.length then some (lo.toNat,(hi-lo).toNat)else none
theorem O5{α:Type}{l:List α}{lo hi:Int}{o n:Nat}(h:WS l lo hi=some (o,n)):0≤lo∧lo<l.length∧lo≤hi∧hi≤l.length∧lo.toNat=o∧(hi-lo).toNat=n:=by
 unfold WS at h;split at h
 ·rename_i hh
  obtain⟨q1,q2⟩:=Prod.mk.inj (Option.some.inj h)
  exact⟨hh.1,hh.2.1,hh.2.2.1,hh.2.2.2,q1,q2⟩
 ·cases h
def SA(o n:Nat)(i:Int):Option Nat:=if 0≤i∧i<n then some (o+i.toNat)else none
theorem O6{o n j:Nat}{i:Int}(h:SA o n i=some j):0≤i∧i<n∧o+i.toNat=j:=by
 unfold SA at h;split at h
 ·rename_i hh;exact⟨hh.1,hh.2,Option.some.inj h⟩
 ·cases h
def sF:List (List SV)→List (List SV)→Prop
 |[],[]=>True
 |r::l,r'::l'=>bB r r'∧sF l l'
 |_,_=>False
theorem bB.get:∀{l l':List SV} {k:Nat} {s':SV},bB l l'→l'[k]? =some s'→∃s,l[k]? =some s∧SV.imp s s'
 |x::_,y::_,0,_,h,e=>⟨x,rfl,by simp at e;subst e;exact h.1⟩
 |_::l,_::l',k+1,_,h,e=>by simpa using bB.get (l:=l) (l':=l') h.2 (by simpa using e)
 |[],[],_,_,_,e=>by simp at e
 |[],_::_,_,_,h,_=>h.elim
 |_::_,[],_,_,h,_=>h.elim
theorem bB.len:∀{l l':List SV},bB l l'→l'.length=l.length
 |[],[],_=>rfl
 |_::_,_::_,h=>congrArg (· +1) (bB.len h.2)
 |[],_::_,h=>h.elim
 |_::_,[],h=>h.elim
theorem sF.len:∀{l l':List (List SV)},sF l l'→l'.length=l.length
 |[],[],_=>rfl
 |_::_,_::_,h=>congrArg (· +1) (sF.len h.2)
 |[],_::_,h=>h.elim
 |_::_,[],h=>h.elim
theorem sF.get:∀{l l':List (List SV)} {k:Nat} {s':List SV},sF l l'→l'[k]? =some s'→∃s,l[k]? =some s∧bB s s'
 |x::_,y::_,0,_,h,e=>⟨x,rfl,by simp at e;subst e;exact h.1⟩
 |_::l,_::l',k+1,_,h,e=>by simpa using sF.get (l:=l) (l':=l') h.2 (by simpa using e)
 |[],[],_,_,_,e=>by simp at e
 |[],_::_,_,_,h,_=>h.elim
 |_::_,[],_,_,h,_=>h.elim
class PV {α:Type} (e:α→List SV):Prop where
 h:∀x,∃v:Value,e x=[.v v]
instance:PV ah:=⟨fun _=>⟨_,rfl⟩⟩
instance:PV bj:=⟨fun _=>⟨_,rfl⟩⟩
theorem Tc{α:Type}{e:α→List SV}{l:List α}{n:Nat}{M:Mem}{v:Value}(h:(slc n (l.map e)).h M v):l.length≤9223372036854775807:=by
 rcases h with⟨_,_,h⟩|⟨b,o,c,_,_,h,_⟩
 ·have:l=[]:=by simpa using h
  subst this;simp
 ·rwa[List.length_map]at h
theorem vO{α:Type}{e:α→List SV}{l:List α}{n:Nat}{M:Mem}{v:Value}(h:(ref [slc n (l.map e)]).h M v):l.length≤9223372036854775807:=by
 obtain⟨b,o,_,h⟩:=h
 obtain⟨y,_,_,h⟩:=h 0 _ rfl
 exact Tc h
theorem xy{l:List Nat}{i:Nat}(h:l.length≤i):l.getD i 0=0:=by simp[List.getD,List.getElem?_eq_none h]
theorem uy{l:List Nat}{i:Nat}(h:i<l.length):l[i]? =some (l.getD i 0):=by simp[List.getD,h]
theorem iX{α:Type}{l:List α}{d:α}{i:Nat}(h:l.length≤i):l.getD i d=d:=by simp[List.getD,List.getElem?_eq_none h]
theorem jz{α:Type}{l:List α}{d:α}{i:Nat}(h:i<l.length):l[i]? =some (l.getD i d):=by simp[List.getD,h]
theorem Ck{α β:Type}(a:List α)(b:List β)(i:Nat)(h:i≤max a.length b.length):(i<max a.length b.length∧i<a.length∧i<b.length)∨(i<max a.length b.length∧i<a.length∧b.length≤i)∨(i<max a.length b.length∧a.length≤i∧i<b.length)∨i=max a.length b.length:=by omega
section steps
variable {P:Program}{C:Ctx}{ops:Array Oper}{S:AS}{nd:Bool}{K:List Ac→AS→Prop}{rest:List Oper}{acc:List Ac}
variable {gd:Option (Nat×Bool)}{rg:List Nat}{d:Nat}{ty:TypeId}{pos:String}{aft:Array Edge}{x y z:Operand}{T U E0:TypeId}
variable {α:Type}{l l' k:List α}{e:α→List SV}{n by_:Nat}{zv:Value}
theorem WT{E1:TypeId}(h:l'.length=l.length):(⟨E1,n,l.length,l'.flatMap e⟩:Row)=TR E1 n e l':=by show _=Row.mk _ _ _ _;rw[h]
theorem RT.WU(hg:Gd ops S gd rg){f:FuncId}[bF P f]{g:Operand}{xs:Array Operand}{at_:Array TypeId}{args:List AV}{E1:TypeId}{res:AV}(hp:Ky P f args (TR E1 n e l) res (l'.flatMap e))(hlen:l'.length=l.length)(i:Nat)(hR:S.r i=.live (TR E1 n e l))(hrow:args.all AV.zI=true)(hres:res.zI=true)
  (hf:S.ev g=.sv (.v (.func (.func f) #[] #[]))) (hargs:ur S xs.toList (args.map (AV.AB i))) (hd:d<S.n)
  (next:RunT P C ops nd K rest (⟨rg++(aq g++xs.toList.flatMap aq),[],[i],⟨some (d,res.AB i),[],[(i,.live (TR E1 n e l'))]⟩⟩::acc) ((AS.bC [(i,.live (TR E1 n e l'))] S).set d (res.AB i))):RunT P C ops nd K (⟨some d,.call ⟨.value g,xs,at_⟩,ty,pos,aft,gd⟩::rest) acc S:=
 RT.aaZ hg hp i hR hrow hres hf hargs hd (by rw[WT hlen];exact next)
theorem RT.Td(hg:Gd ops S gd rg)[tS:eK P T E0 n]{i o m:Nat}{E1:TypeId}{lo hi:Option Operand}(a b:Int)(hx:S.ev x=.row i)(hR:S.r i=.live (TR E1 n e l))(hlo:Cb S 0 lo a)(hhi:Cb S l.length hi b)(hd:d<S.n)(h:WS l a b=some (o,m))
  (next:RunT P C ops nd K rest (⟨rg++(aq x++(oJ lo++oJ hi)),[],[i],⟨some (d,.oe i (o*n) m),[],[]⟩⟩::acc) (S.set d (.oe i (o*n) m))):RunT P C ops nd K (⟨some d,.slice T x lo hi none,ty,pos,aft,gd⟩::rest) acc S:=by
 obtain⟨h0,h1,h2,h3,h4,h5⟩:=O5 h
 exact RT.WB hg (.row hx hR) a b hlo hhi hd h0 h1 h2 h3 (o*n) m (by rw[h4];omega) h5 next
theorem RT.WV(hg:Gd ops S gd rg){m:Nat}[tS:eK P T E0 m]{i o q:Nat}{c:Int}(hx:S.ev x=.oe i o q)(hd:d<S.n)(hc:(q:Int)=c)
  (next:RunT P C ops nd K rest (⟨rg++aq x,[],[],⟨some (d,.sv (.v (.int .i64 c))),[],[]⟩⟩::acc) (S.set d (.sv (.v (.int .i64 c))))):RunT P C ops nd K (⟨some d,.call ⟨.builtin .len,#[x],#[T]⟩,ty,pos,aft,gd⟩::rest) acc S:=
 RT.aaY hg hx hd (by rw[hc];exact next)
theorem RT.Is(hg:Gd ops S gd rg)[tS:eK P T E0 n]{i o q j:Nat}{kk:IntKind}{v:Int}(hx:S.ev x=.oe i (o*n) q)(hy:S.ev y=.sv (.v (.int kk v)))(hd:d<S.n)(h:SA o q v=some j)
  (next:RunT P C ops nd K rest (⟨rg++(aq x++aq y),[],[],⟨some (d,.jI i (j*n)),[],[]⟩⟩::acc) (S.set d (.jI i (j*n)))):RunT P C ops nd K (⟨some d,.indexAddr T x y,ty,pos,aft,gd⟩::rest) acc S:=by
 obtain⟨h0,h1,h2⟩:=O6 h
 exact RT.ixR hg (.oe hx) hy hd h0 h1 (j*n) (by rw[←h2,Nat.add_mul]) next
end steps
def ot{S:Type}(body:Nat→S→Option S):Nat→S→Option S
 |0,s=>some s
 |n+1,s=>(ot body n s).bind (body n)
theorem jA{S:Type}{body:Nat→S→Option S}:∀{n:Nat} {s e:S},ot body n s=some e→∃st:Nat→S,st 0=s∧(∀k,k<n→body k (st k)=some (st (k+1)))∧st n=e
 |0,s,e,h=>⟨fun _=>s,rfl,fun _ h=>by omega,Option.some.inj h⟩
 |n+1,s,e,h=>by
  obtain⟨e1,h1,h2⟩:=bind_some (x:=ot body n s) h
  obtain⟨st,q1,q2,q3⟩:=jA h1
  refine⟨fun k=>if k=n+1 then e else st k,by simpa using q1,fun k hk=>?_,by simp⟩
  rcases Nat.lt_or_ge k n with hkn|hkn
  ·simpa[show k≠n+1 by omega,show k≠n by omega]using q2 k hkn
  ·obtain rfl:k=n:=by omega
   simpa[q3]using h2
theorem zN{S:Type}{body:Nat→S→Option S}(st:Nat→S):∀(n:Nat),(∀k,k<n→body k (st k)=some (st (k+1)))→ot body n (st 0)=some (st n)
 |0,_=>rfl
 |n+1,h=>by
  rw[ot,zN st n (fun k hk=>h k (by omega))]
  exact h n (by omega)
def ou{S E:Type}(body:Nat→S→Option (S⊕E)):Nat→S→Option (S⊕E)
 |0,s=>some (.inl s)
 |n+1,s=>(ou body n s).bind fun r=>match r with|.inl s'=>body n s'|.inr e=>some (.inr e)
theorem EU{S E:Type}{body:Nat→S→Option (S⊕E)}:∀{n:Nat} {s:S} {r:S⊕E},ou body n s=some r→∃(m:Nat) (st:Nat→S),st 0=s∧m≤n∧(∀k,k<m→body k (st k)=some (.inl (st (k+1))))∧((m=n∧r=.inl (st n))∨(m<n∧∃e,r=.inr e∧body m (st m)=some (.inr e)))
 |0,s,r,h=>⟨0,fun _=>s,rfl,Nat.le_refl _,fun _ h=>by omega,.inl ⟨rfl,(Option.some.inj h).symm⟩⟩
 |n+1,s,r,h=>by
  obtain⟨r1,h1,h2⟩:=bind_some (x:=ou body n s) h
  obtain⟨m,st,q1,q2,q3,q4⟩:=EU h1
  rcases q4 with⟨rfl,rfl⟩|⟨q4,e,rfl,q5⟩
  ·simp only at h2
   cases r with
   |inr e=>exact⟨m,st,q1,by omega,q3,.inr ⟨by omega,e,rfl,h2⟩⟩
   |inl s'=>
    refine⟨m+1,fun k=>if k=m+1 then s' else st k,by simpa using q1,Nat.le_refl _,fun k hk=>?_,.inl ⟨rfl,by simp⟩⟩
    rcases Nat.lt_or_ge k m with hkn|hkn
    ·simpa[show k≠m+1 by omega,show k≠m by omega]using q3 k hkn
    ·obtain rfl:k=m:=by omega
     simpa using h2
  ·simp only at h2
   cases h2
   exact⟨m,st,q1,by omega,q3,.inr ⟨by omega,e,rfl,q5⟩⟩
theorem F9{S E:Type}{body:Nat→S→Option (S⊕E)}{n m:Nat}{st:Nat→S}{r:S⊕E}(h:∀k,k<m→body k (st k)=some (.inl (st (k+1))))(hr:(m=n∧r=.inl (st n))∨(m<n∧∃e,r=.inr e∧body m (st m)=some (.inr e))){k:Nat}(hk:k<n)(hkm:k≤m):
  ∃y,body k (st k)=some y∧(∀s',y=.inl s'→k+1≤m∧s'=st (k+1))∧∀e',y=.inr e'→r=.inr e':=by
 rcases Nat.lt_or_ge k m with q|q
 ·exact⟨_,h k q,(fun s' e=>⟨q,by cases e;rfl⟩),(fun e' e=>by cases e)⟩
 ·obtain rfl:k=m:=by omega
  rcases hr with⟨rfl,_⟩|⟨_,e,rfl,he⟩
  ·omega
  ·exact⟨_,he,(fun s' e=>by cases e),(fun e' q=>by cases q;rfl)⟩
theorem It{S E:Type}{body:Nat→S→Option (S⊕E)}{n m:Nat}{st:Nat→S}{r:S⊕E}(hr:(m=n∧r=.inl (st n))∨(m<n∧∃e,r=.inr e∧body m (st m)=some (.inr e)))(h:n≤m):r=.inl (st n):=by
 rcases hr with⟨_,q⟩|⟨q,_⟩
 ·exact q
 ·omega
theorem zO{S E:Type}{body:Nat→S→Option (S⊕E)}{n:Nat}{s:S}{r:S⊕E}(h:ou body n s=some r):∃(m:Nat) (st:Nat→S),st 0=s∧(∀k,k<n→k≤m→∃y,body k (st k)=some y∧(∀s',y=.inl s'→k+1≤m∧s'=st (k+1))∧∀e',y=.inr e'→r=.inr e')∧(n≤m→r=.inl (st n)):=by
 obtain⟨m,st,q1,q2,q3,q4⟩:=EU h
 exact⟨m,st,q1,fun k hk hm=>F9 q3 q4 hk hm,fun hn=>It q4 hn⟩
end Go.Fw
namespace Go.Fw
open Go.RowKit
def O7(es:List (Value×Value)):SV where
 h M v:=∃b,v=.map (some b)∧M b 0=some (.tuple ⟨es.map fun p=>.tuple #[p.1,p.2]⟩)
 mono hM h:=by obtain⟨b,e,h⟩:=h;exact⟨b,e,hM _ _ _ h⟩
class Ma (P:Program) (T:TypeId) (k:outParam TypeId) (e:outParam TypeId):Prop where
 u:P.underlying T=some (.map k e)
def EV(k:IntKind)(n:Int):List (Value×Value)→Option Value
 |[]=>none
 |(.int k' m,v)::l=>if k=k' then(if n=m then some v else EV k n l)else none
 |_::_=>none
theorem wU{k:IntKind}{n:Int}{v:Value}:∀(es:List MapEntry) (i:Nat),EV k n (es.map fun e=>(e.key,e.val))=some v→∃j,Instr.findNow (.int k) (.int k n) es i=some (some (j,v))
 |[],_,h=>by simp[EV]at h
 |⟨key,val,born⟩::es,i,h=>by
  cases key with
  |int k' m=>
   simp only[List.map_cons,EV]at h
   by_cases hk:k=k'
   ·subst hk
    rw[if_pos rfl]at h
    by_cases hn:n=m
    ·subst hn
     rw[if_pos rfl]at h
     cases h
     exact⟨i,by simp[Instr.findNow,Instr.sameNow]⟩
    ·rw[if_neg hn]at h
     obtain⟨j,hj⟩:=wU es (i+1) h
     have hb:(n==m)=false:=by simp[hn]
     exact⟨j,by simp[Instr.findNow,Instr.sameNow,hb,hj]⟩
   ·rw[if_neg hk]at h;cases h
  |_=>simp[EV]at h
theorem Mb:∀(l:List (Value×Value)) (m:List MapEntry),l.map (fun p=>Value.tuple #[p.1,p.2])=m.map (fun e=>Value.tuple #[e.key,e.val])→m.map (fun e=>(e.key,e.val))=l
 |[],[],_=>rfl
 |[],_::_,h=>by simp at h
 |_::_,[],h=>by simp at h
 |(p,q)::l,e::m,h=>by
  simp only[List.map_cons,List.cons.injEq,Value.tuple.injEq]at h⊢
  refine⟨?_,Mb l m h.2⟩
  have:=h.1
  simp at this
  rw[this.1,this.2]
theorem O8{es:Array MapEntry}{l:List (Value×Value)}(h:(⟨l.map fun p=>.tuple #[p.1,p.2]⟩:Array Value)=SL es):es.toList.map (fun e=>(e.key,e.val))=l:=
 Mb l es.toList (congrArg Array.toList h)
theorem getM{P:Program}{w:World}{r:Nat}{es:Array MapEntry}{ck:Nat}(hb:w.heap[r]? =some (.map es ck)):(getObj r).run P w=.ok (.map es ck) w:=by simp[getObj,Sem.run,hb]
theorem af5{P:Program}{w:World}{r:Nat}{es:Array MapEntry}{ck:Nat}(o:Obj)(hb:w.heap[r]? =some (.map es ck)):(setObj r o).run P w=.ok () {w with heap:=w.heap.setIfInBounds r o}:=by simp[setObj,Sem.run,hb]
theorem ckM{P:Program}{w:World}{kt:TypeId}{k:IntKind}[tI:iV P kt k]{n:Int}(bb:Bool):(Instr.checkKey bb 10000 kt (.int k n)).run P w=.ok () w:=by
 rw[show(10000:Nat)=9999+1 from rfl,Instr.checkKey]
 simp[underlying,tI.h]
theorem O9{M:Mem}:∀l:List Value,SV.dH M (l.map SV.v) l
 |[]=>trivial
 |_::l=>⟨rfl,O9 l⟩
section steps
variable {P:Program}{C:Ctx}{ops:Array Oper}{S:AS}{nd:Bool}{K:List Ac→AS→Prop}{rest:List Oper}{acc:List Ac}
variable {gd:Option (Nat×Bool)}{rg:List Nat}{d:Nat}{ty:TypeId}{pos:String}{aft:Array Edge}{x y z:Operand}{T U E0:TypeId}
theorem RT.look(hg:Gd ops S gd rg){kt et:TypeId}[tM:Ma P T kt et]{k:IntKind}[tI:iV P kt k]{es:List (Value×Value)}{n:Int}(cs:List Value)(hx:S.ev x=.sv (O7 es))(hy:S.ev y=.sv (.v (.int k n)))(hl:EV k n es=some (.agg ⟨cs⟩))(hd:d<S.n)
  (next:RunT P C ops nd K rest (⟨rg++(aq x++aq y),[],[],⟨some (d,.sv (.agg (cs.map SV.v))),[],[]⟩⟩::acc) (S.set d (.sv (.agg (cs.map SV.v))))):RunT P C ops nd K (⟨some d,.lookup T x y false,ty,pos,aft,gd⟩::rest) acc S:=
 RT.value hg (aq x++aq y) [] [] (.sv (.agg (cs.map SV.v))) hd (by intro c h;cases h) (fun S' ht _ _ E a w h=>by
  have h1:=h.ev x
  rw[aJ (fun _ h=>List.mem_append_left _ h) ht,hx]at h1
  have h2:a.eval y=.int k n:=by have h2:=h.ev y;rw[aJ (fun _ h=>List.mem_append_right _ h) ht,hy]at h2;exact h2
  obtain⟨b,e,hb⟩:=h1
  obtain⟨ms,ck,hm,he⟩:=h.cI _ _ _ hb
  have he:=O8 he
  rw[←he]at hl
  obtain⟨j,hj⟩:=wU ms.toList 0 hl
  refine⟨.agg ⟨cs⟩,?_,⟨cs,rfl,?_⟩,eY⟩
  ·have hfk:(Instr.findKey kt (.int k n) ms.toList).run P w=.ok (some (j,.agg ⟨cs⟩)) w:=by
    simp[Instr.findKey,underlying,tI.h,hj]
   simp[execOp,e,h2,Instr.lookup,underlying,tM.u,getM hm,ckM,hfk]
  ·exact O9 cs) next
def uz(w:World)(ms:Array MapEntry)(ck:Nat):World:=w.alloc (.map ms ck)
theorem zP(w:World)(ms:Array MapEntry)(ck:Nat):(uz w ms ck).heap[w.heap.size]? =some (.map ms ck):=by show(w.heap.push _)[w.heap.size]? =_;simp
theorem run_make{d:Option Nat}{ρ:Operand→Value}{w:World}:(execOp ρ ⟨d,.makeMap T none,ty,pos,aft,none⟩).run P w=.ok (.value (.map (some w.heap.size))) (uz w #[] 0):=by
 simp[execOp,Instr.makeMap,uz]
theorem BC{d:Option Nat}{kt et:TypeId}[tM:Ma P T kt et]{k:IntKind}[tI:iV P kt k]{ρ:Operand→Value}{w:World}{ms:Array MapEntry}{ck:Nat}{n:Int}{v:Value}(hx:ρ x=.map (some w.heap.size))(hy:ρ y=.int k n)(hz:ρ z=v)
  (hf:Instr.findNow (.int k) (.int k n) ms.toList 0=some none):(execOp ρ ⟨d,.insert T x y z,ty,pos,aft,none⟩).run P (uz w ms ck)=.ok .skip (uz w (ms.push ⟨.int k n,v,ck⟩) (ck+1)):=by
 have hfk:(Instr.findKey kt (.int k n) ms.toList).run P (uz w ms ck)=.ok none (uz w ms ck):=by
  simp[Instr.findKey,underlying,tI.h,hf]
 have af7:∀o:Obj,{uz w ms ck with heap:=(uz w ms ck).heap.setIfInBounds w.heap.size o}=w.alloc o:=by
  intro o
  simp only[uz,World.alloc]
  congr 1
  apply Array.ext'
  simp
 simp[execOp,hx,hy,hz,Instr.mapUpdate,underlying,tM.u,getM (zP w ms ck),ckM,hfk,af5 _ (zP w ms ck)]
 exact af7 _
theorem BD{d:Option Nat}{z0:Value}[tP:bP P U [(0,1)] [z0]]{ρ:Operand→Value}{w:World}{v:Value}(hx:ρ x=v)(hv:v.oneCell'=true):(execOp ρ ⟨d,.build U #[(0,x)],ty,pos,aft,none⟩).run P w=.ok (.value (.agg #[v])) w:=by
 have hu:=tP.h
 cases hT:P.underlying U with
 |none=>rw[hT]at hu;cases hu
 |some u=>
  rw[hT]at hu
  cases u with
  |struct fs=>
   simp only at hu
   have hz:(zeroValue U).run P w=.ok (.agg ⟨[z0]⟩) w:=ax.run (t:=⟨tP.hz⟩) w
   have hm:(fs.mapM (fun f=>do pure (f.offset,←sizeOf f.type):Field→Sem (Nat×Nat))).run P w=.ok #[(0,1)] w:=by
    have:=um (P:=P) (w:=w) hu
    rw[←Array.toArray_toList (xs:=fs),List.mapM_toArray]
    rw[Sem.run_map,this];rfl
   simp only[execOp,Instr.build,underlying]
   simp only[Sem.run_bind,hz,Result.andThen_ok,run_program,hT,Sem.run_pure,Value.cells]
   have hm':(Array.mapM (fun f=>do
     let __do_lift←sizeOf f.type
     pure (f.offset,__do_lift)) fs:Sem _).run P w=.ok #[(0,1)] w:=hm
   simp only[hm',Result.andThen_ok]
   have h1':Instr.fill (fun i=>(#[(0,1)]:Array (Nat×Nat))[i]?) ⟨[z0]⟩ [(0,v)]=some ⟨[v]⟩:=by
    simp[Instr.fill,jy hv]
    try rfl
   have e4:(Array.map (fun x=>match x with|(i,x)=>(i,ρ x)) #[(0,x)]).toList=[(0,v)]:=by simp[hx]
   simp only[e4,h1',Sem.run_pure,Result.andThen_ok]
  |_=>cases hu
theorem Te{Q:Exit→AS→Prop}{id:Nat}{T U kt et t0:TypeId}[tM:Ma P T kt et]{k:IntKind}[tI:iV P kt k]{z0:Value}[tP:bP P U [(0,1)] [z0]]{f1 f2 f3 f4:FuncId}{n1 n2 n3 n4:Int}
  {p0 p1 p2 p3 p4 p5 p6 p7 p8 p9 p10:String} {a0 a1 a2 a3 a4 a5 a6 a7 a8 a9 a10:Array Edge} {u1 u2 u3 u4 u5 u6 u7 u8 u9:TypeId} (hn:7≤S.n)
  (h2:Instr.findNow (.int k) (.int k n2) [⟨.int k n1,.agg #[.func (.func f1) #[] #[]],0⟩] 0=some none)
  (h3:Instr.findNow (.int k) (.int k n3) [⟨.int k n1,.agg #[.func (.func f1) #[] #[]],0⟩,⟨.int k n2,.agg #[.func (.func f2) #[] #[]],1⟩] 0=some none)
  (h4:Instr.findNow (.int k) (.int k n4) [⟨.int k n1,.agg #[.func (.func f1) #[] #[]],0⟩,⟨.int k n2,.agg #[.func (.func f2) #[] #[]],1⟩,⟨.int k n3,.agg #[.func (.func f3) #[] #[]],2⟩] 0=some none)
  (hQ:∀S',S'.t 0=.sv (O7 [(.int k n1,.agg #[.func (.func f1) #[] #[]]),(.int k n2,.agg #[.func (.func f2) #[] #[]]),(.int k n3,.agg #[.func (.func f3) #[] #[]]),(.int k n4,.agg #[.func (.func f4) #[] #[]])])→Q .normal S'):
  Ok P C (.region id #[⟨some 1,.makeMap T none,t0,p0,a0,none⟩,⟨some 2,.build U #[(0,.func f1)],u1,p1,a1,none⟩,⟨none,.insert T (.tmp 1) (.const (.int k n1)) (.tmp 2),u2,p2,a2,none⟩,
   ⟨some 3,.build U #[(0,.func f2)],u3,p3,a3,none⟩,⟨none,.insert T (.tmp 1) (.const (.int k n2)) (.tmp 3),u4,p4,a4,none⟩,⟨some 4,.build U #[(0,.func f3)],u5,p5,a5,none⟩,⟨none,.insert T (.tmp 1) (.const (.int k n3)) (.tmp 4),u6,p6,a6,none⟩,
   ⟨some 5,.build U #[(0,.func f4)],u7,p7,a7,none⟩,⟨none,.insert T (.tmp 1) (.const (.int k n4)) (.tmp 5),u8,p8,a8,none⟩,⟨some 6,.move (.tmp 1),u9,p9,a9,none⟩,⟨some 0,.assign (.tmp 6),u9,p10,a10,none⟩] false) S Q:=by
 rintro a w ⟨E,h⟩
 refine wpIn_region ?_
 show wpOpsIn _ _ _ _ _ [0,1,2,3,4,5,6,7,8,9,10] a w
 have hS:∀(S:AS) (d:Nat) (x:AV),(S.set d x).n=S.n:=fun _ _ _=>rfl
 rw[wpOpsIn_cons]
 refine bW (C:=C) rfl rfl (bR (C:=C) (by intro c h;cases h) run_make ?_)
 have g1:=h.put (d:=1) (x:=.sv (.v (.map (some w.heap.size)))) (v:=.map (some w.heap.size)) rfl (by omega) eY
 show wpOpsIn _ _ _ _ _ _ (a.put (some 1) _) _
 generalize a.put (some 1) (.map (some w.heap.size))=b1 at g1⊢
 rw[wpOpsIn_cons]
 refine bW (C:=C) rfl rfl (bR (C:=C) (by intro c h;cases h) (BD rfl rfl) ?_)
 have g2:=g1.put (d:=2) (x:=.sv (.v (.agg #[.func (.func f1) #[] #[]]))) (v:=.agg #[.func (.func f1) #[] #[]]) rfl (by rw[hS];omega) eY
 show wpOpsIn _ _ _ _ _ _ (b1.put (some 2) (.agg #[.func (.func f1) #[] #[]])) _
 generalize b1.put (some 2) (.agg #[.func (.func f1) #[] #[]])=b2 at g2⊢
 rw[wpOpsIn_cons]
 refine bW (C:=C) rfl rfl (bR (C:=C) (by intro c h;cases h) (BC (k:=k) (n:=n1) (v:=.agg #[.func (.func f1) #[] #[]]) (g2.ev (.tmp 1)) rfl (g2.ev (.tmp 2)) rfl) ?_)
 show wpOpsIn _ _ _ _ _ _ (b2.put none undef) _
 rw[show b2.put none undef=b2 from rfl,wpOpsIn_cons]
 refine bW (C:=C) rfl rfl (bR (C:=C) (by intro c h;cases h) (BD rfl rfl) ?_)
 have g3:=g2.put (d:=3) (x:=.sv (.v (.agg #[.func (.func f2) #[] #[]]))) (v:=.agg #[.func (.func f2) #[] #[]]) rfl (by rw[hS,hS];omega) eY
 show wpOpsIn _ _ _ _ _ _ (b2.put (some 3) (.agg #[.func (.func f2) #[] #[]])) _
 generalize b2.put (some 3) (.agg #[.func (.func f2) #[] #[]])=b3 at g3⊢
 rw[wpOpsIn_cons]
 refine bW (C:=C) rfl rfl (bR (C:=C) (by intro c h;cases h) (BC (k:=k) (n:=n2) (v:=.agg #[.func (.func f2) #[] #[]]) (g3.ev (.tmp 1)) rfl (g3.ev (.tmp 3)) (by simpa using h2)) ?_)
 show wpOpsIn _ _ _ _ _ _ (b3.put none undef) _
 rw[show b3.put none undef=b3 from rfl,wpOpsIn_cons]
 refine bW (C:=C) rfl rfl (bR (C:=C) (by intro c h;cases h) (BD rfl rfl) ?_)
 have g4:=g3.put (d:=4) (x:=.sv (.v (.agg #[.func (.func f3) #[] #[]]))) (v:=.agg #[.func (.func f3) #[] #[]]) rfl (by rw[hS,hS,hS];omega) eY
 show wpOpsIn _ _ _ _ _ _ (b3.put (some 4) (.agg #[.func (.func f3) #[] #[]])) _
 generalize b3.put (some 4) (.agg #[.func (.func f3) #[] #[]])=b4 at g4⊢
 rw[wpOpsIn_cons]
 refine bW (C:=C) rfl rfl (bR (C:=C) (by intro c h;cases h) (BC (k:=k) (n:=n3) (v:=.agg #[.func (.func f3) #[] #[]]) (g4.ev (.tmp 1)) rfl (g4.ev (.tmp 4)) (by simpa using h3)) ?_)
 show wpOpsIn _ _ _ _ _ _ (b4.put none undef) _
 rw[show b4.put none undef=b4 from rfl,wpOpsIn_cons]
 refine bW (C:=C) rfl rfl (bR (C:=C) (by intro c h;cases h) (BD rfl rfl) ?_)
 have g5:=g4.put (d:=5) (x:=.sv (.v (.agg #[.func (.func f4) #[] #[]]))) (v:=.agg #[.func (.func f4) #[] #[]]) rfl (by rw[hS,hS,hS,hS];omega) eY
 show wpOpsIn _ _ _ _ _ _ (b4.put (some 5) (.agg #[.func (.func f4) #[] #[]])) _
 generalize b4.put (some 5) (.agg #[.func (.func f4) #[] #[]])=b5 at g5⊢
 rw[wpOpsIn_cons]
 refine bW (C:=C) rfl rfl (bR (C:=C) (by intro c h;cases h) (BC (k:=k) (n:=n4) (v:=.agg #[.func (.func f4) #[] #[]]) (g5.ev (.tmp 1)) rfl (g5.ev (.tmp 5)) (by simpa using h4)) ?_)
 show wpOpsIn _ _ _ _ _ _ (b5.put none undef) _
 have e1:b5.eval (.tmp 1)=.map (some w.heap.size):=g5.ev (.tmp 1)
 obtain⟨ms,hms⟩:∃ms:Array MapEntry,(((((#[]:Array MapEntry).push ⟨.int k n1,.agg #[.func (.func f1) #[] #[]],0⟩).push ⟨.int k n2,.agg #[.func (.func f2) #[] #[]],0+1⟩).push ⟨.int k n3,.agg #[.func (.func f3) #[] #[]],0+1+1⟩).push ⟨.int k n4,.agg #[.func (.func f4) #[] #[]],0+1+1+1⟩)=ms:=⟨_,rfl⟩
 rw[hms]
 have hno:∀o,E.M w.heap.size o=none:=fun o=>by
  cases e:E.M w.heap.size o with
  |none=>rfl
  |some v=>have:=og h.cI e;omega
 have g6:=g5.grow (M':=fun b o=>if b=w.heap.size∧o=0 then some (.tuple (SL ms))else E.M b o) (w':=uz w ms (0+1+1+1+1)) (fun b o v e=>by
   have:b≠w.heap.size:=by rintro rfl;rw[hno o]at e;cases e
   simp[this,e]) (fun b o v e=>by
   by_cases hb:b=w.heap.size∧o=0
   ·exact .inr (by omega)
   ·simp only[if_neg hb]at e;exact .inl e) (fun b o v e=>by
   by_cases hb:b=w.heap.size∧o=0
   ·simp only[if_pos hb]at e
    obtain⟨rfl,rfl⟩:=hb
    cases e
    exact⟨ms,_,zP w ms _,rfl⟩
   ·simp only[if_neg hb]at e
    have hlt:=og h.cI e
    refine(h.cI b o v e).same ?_
    show(w.heap.push _)[b]? =_
    rw[Array.getElem?_push,if_neg (by omega)]) ((Below.refl _ _).alloc (Nat.le_refl _) _)
 have hm:∀X:Env,X.M w.heap.size 0=some (.tuple (SL ms))→(O7 [(.int k n1,.agg #[.func (.func f1) #[] #[]]),(.int k n2,.agg #[.func (.func f2) #[] #[]]),(.int k n3,.agg #[.func (.func f3) #[] #[]]),(.int k n4,.agg #[.func (.func f4) #[] #[]])]).h X.M (.map (some w.heap.size)):=fun X hX=>by
  refine⟨_,rfl,?_⟩
  rw[hX,←hms];rfl
 have g7:=g6.put (d:=6) (x:=.sv (.v (.map (some w.heap.size)))) (v:=.map (some w.heap.size)) rfl (by rw[hS,hS,hS,hS,hS];omega) eY
 rw[show b5.put none undef=b5 from rfl,wpOpsIn_cons]
 refine bW (C:=C) rfl rfl (bR (C:=C) (by intro c h;cases h) (r:=.ok (.value (.map (some w.heap.size))) _) (by show Result.ok (Next.value (b5.eval (.tmp 1))) _=_;rw[e1]) ?_)
 show wpOpsIn _ _ _ _ _ _ (b5.put (some 6) (.map (some w.heap.size))) _
 generalize b5.put (some 6) (.map (some w.heap.size))=b6 at g7⊢
 have e6:b6.eval (.tmp 6)=.map (some w.heap.size):=g7.ev (.tmp 6)
 have g8:=g7.put (d:=0) (x:=.sv (O7 [(.int k n1,.agg #[.func (.func f1) #[] #[]]),(.int k n2,.agg #[.func (.func f2) #[] #[]]),(.int k n3,.agg #[.func (.func f3) #[] #[]]),(.int k n4,.agg #[.func (.func f4) #[] #[]])])) (v:=.map (some w.heap.size)) (hm _ (by simp)) (by rw[hS,hS,hS,hS,hS,hS];omega) eY
 rw[wpOpsIn_cons]
 refine bW (C:=C) rfl rfl (bR (C:=C) (by intro c h;cases h) (r:=.ok (.value (.map (some w.heap.size))) _) (by show Result.ok (Next.value (b6.eval (.tmp 6))) _=_;rw[e6]) ?_)
 show wpOpsIn _ _ _ _ _ _ (b6.put (some 0) (.map (some w.heap.size))) _
 rw[wpOpsIn]
 exact⟨_,hQ _ rfl,_,g8⟩
end steps
def ASc(Q:Exit→AS→Prop):Exit→AS→Prop
 |.goto _,_=>False
 |e,S=>Q e S
section scope
variable {P:Program}{C:Ctx}{S:AS}{Q:Exit→AS→Prop}
theorem ASc.n(h:Q .normal S):ASc Q .normal S:=h
theorem ASc.r(h:Q .ret S):ASc Q .ret S:=h
theorem ASc.x{id:Nat}(h:Q (.exit id) S):ASc Q (.exit id) S:=h
end scope
end Go.Fw
namespace Go.Fw
open Go.RowKit
class U8 (P:Program) (T:TypeId) (n:outParam Nat) (E:outParam TypeId) (sz:outParam Nat) (z:outParam (List Value)):Prop where
 u:P.underlying T=some (.array n E)
 s:(P.info? E).map (·.size)=some sz
 hz:(P.info? T).bind (·.zero)=some (.agg ⟨z⟩)
 o:z.all (fun v=>v.oneCell')=true
theorem U8.size{P:Program}{T E:TypeId}{n sz:Nat}{z:List Value}[t:U8 P T n E sz z](w:World):(sizeOf E).run P w=.ok sz w:=by
 have h:=t.s
 unfold Go.sizeOf typeInfo
 cases hi:P.info? E with
 |none=>rw[hi]at h;simp at h
 |some i=>rw[hi]at h;simp at h;simp[hi,h]
section
variable {P:Program}{C:Ctx}{ops:Array Oper}{S:AS}{nd:Bool}{K:List Ac→AS→Prop}{rest:List Oper}{acc:List Ac}
variable {gd:Option (Nat×Bool)}{rg:List Nat}{d:Nat}{ty:TypeId}{pos:String}{aft:Array Edge}{x y z:Operand}{T U E0:TypeId}
end
end Go.Fw
namespace Go.Proofs.YtningmnklfpfjaaGreat
open Go.Fw
open Go.Proofs
instance:bX Tryz.prog 1:=⟨by kernel_rfl,by kernel_rfl⟩
instance:ax Tryz.prog 1 (.nilFunc):=⟨by kernel_rfl⟩
instance:aL Tryz.prog 1 1 8 (.nilFunc):=⟨by kernel_rfl,by rfl,by decide,by decide⟩
instance:iV Tryz.prog 2 .i64:=⟨by kernel_rfl⟩
instance:bX Tryz.prog 2:=⟨by kernel_rfl,by kernel_rfl⟩
instance:ax Tryz.prog 2 (.int .i64 0):=⟨by kernel_rfl⟩
instance:aL Tryz.prog 2 1 8 (.int .i64 0):=⟨by kernel_rfl,by rfl,by decide,by decide⟩
instance:iV Tryz.prog 3 .i64:=⟨by kernel_rfl⟩
instance:bX Tryz.prog 3:=⟨by kernel_rfl,by kernel_rfl⟩
instance:ax Tryz.prog 3 (.int .i64 0):=⟨by kernel_rfl⟩
instance:aL Tryz.prog 3 1 8 (.int .i64 0):=⟨by kernel_rfl,by rfl,by decide,by decide⟩
instance:B3 Tryz.prog 4:=⟨by kernel_rfl⟩
instance:bX Tryz.prog 4:=⟨by kernel_rfl,by kernel_rfl⟩
instance:ax Tryz.prog 4 (.bool false):=⟨by kernel_rfl⟩
instance:aL Tryz.prog 4 1 1 (.bool false):=⟨by kernel_rfl,by rfl,by decide,by decide⟩
instance:iV Tryz.prog 5 .u8:=⟨by kernel_rfl⟩
instance:bX Tryz.prog 5:=⟨by kernel_rfl,by kernel_rfl⟩
instance:ax Tryz.prog 5 (.int .u8 0):=⟨by kernel_rfl⟩
instance:aL Tryz.prog 5 1 1 (.int .u8 0):=⟨by kernel_rfl,by rfl,by decide,by decide⟩
instance:iV Tryz.prog 6 .u8:=⟨by kernel_rfl⟩
instance:bX Tryz.prog 6:=⟨by kernel_rfl,by kernel_rfl⟩
instance:ax Tryz.prog 6 (.int .u8 0):=⟨by kernel_rfl⟩
instance:aL Tryz.prog 6 1 1 (.int .u8 0):=⟨by kernel_rfl,by rfl,by decide,by decide⟩
instance:jr Tryz.prog 7 4:=⟨by kernel_rfl,by kernel_rfl⟩
instance:fP Tryz.prog 7:=⟨fun w=>⟨3,jr.size (T:=7) (n:=4) w⟩⟩
instance:ax Tryz.prog 7 (.agg #[.int .i64 0,.int .i64 0,.bool false,.int .u8 0]):=⟨by kernel_rfl⟩
instance:aL Tryz.prog 7 4 24 (.agg #[.int .i64 0,.int .i64 0,.bool false,.int .u8 0]):=⟨by kernel_rfl,by rfl,by decide,by decide⟩
instance:bP Tryz.prog 7 [(0,1),(1,1),(2,1),(3,1)] [.int .i64 0,.int .i64 0,.bool false,.int .u8 0]:=⟨by kernel_rfl,by kernel_rfl,by rfl⟩
instance:fU Tryz.prog 7 0 0 2:=⟨by kernel_rfl⟩
instance:fU Tryz.prog 7 1 1 3:=⟨by kernel_rfl⟩
instance:fU Tryz.prog 7 2 2 4:=⟨by kernel_rfl⟩
instance:fU Tryz.prog 7 3 3 6:=⟨by kernel_rfl⟩
instance:jr Tryz.prog 8 4:=⟨by kernel_rfl,by kernel_rfl⟩
instance:fP Tryz.prog 8:=⟨fun w=>⟨3,jr.size (T:=8) (n:=4) w⟩⟩
instance:ax Tryz.prog 8 (.agg #[.int .i64 0,.int .i64 0,.bool false,.int .u8 0]):=⟨by kernel_rfl⟩
instance:aL Tryz.prog 8 4 24 (.agg #[.int .i64 0,.int .i64 0,.bool false,.int .u8 0]):=⟨by kernel_rfl,by rfl,by decide,by decide⟩
instance:bP Tryz.prog 8 [(0,1),(1,1),(2,1),(3,1)] [.int .i64 0,.int .i64 0,.bool false,.int .u8 0]:=⟨by kernel_rfl,by kernel_rfl,by rfl⟩
instance:fU Tryz.prog 8 0 0 2:=⟨by kernel_rfl⟩
instance:fU Tryz.prog 8 1 1 3:=⟨by kernel_rfl⟩
instance:fU Tryz.prog 8 2 2 4:=⟨by kernel_rfl⟩
instance:fU Tryz.prog 8 3 3 6:=⟨by kernel_rfl⟩
instance:H6 Tryz.prog 9:=⟨by kernel_rfl⟩
instance:bX Tryz.prog 9:=⟨by kernel_rfl,by kernel_rfl⟩
instance:ax Tryz.prog 9 (.string (ByteArray.mk #[])):=⟨by kernel_rfl⟩
instance:aL Tryz.prog 9 1 16 (.string (ByteArray.mk #[])):=⟨by kernel_rfl,by rfl,by decide,by decide⟩
instance:H6 Tryz.prog 10:=⟨by kernel_rfl⟩
instance:bX Tryz.prog 10:=⟨by kernel_rfl,by kernel_rfl⟩
instance:ax Tryz.prog 10 (.string (ByteArray.mk #[])):=⟨by kernel_rfl⟩
instance:aL Tryz.prog 10 1 16 (.string (ByteArray.mk #[])):=⟨by kernel_rfl,by rfl,by decide,by decide⟩
instance:H6 Tryz.prog 11:=⟨by kernel_rfl⟩
instance:bX Tryz.prog 11:=⟨by kernel_rfl,by kernel_rfl⟩
instance:ax Tryz.prog 11 (.string (ByteArray.mk #[])):=⟨by kernel_rfl⟩
instance:aL Tryz.prog 11 1 16 (.string (ByteArray.mk #[])):=⟨by kernel_rfl,by rfl,by decide,by decide⟩
instance:iV Tryz.prog 12 .u64:=⟨by kernel_rfl⟩
instance:bX Tryz.prog 12:=⟨by kernel_rfl,by kernel_rfl⟩
instance:ax Tryz.prog 12 (.int .u64 0):=⟨by kernel_rfl⟩
instance:aL Tryz.prog 12 1 8 (.int .u64 0):=⟨by kernel_rfl,by rfl,by decide,by decide⟩
instance:jr Tryz.prog 13 2:=⟨by kernel_rfl,by kernel_rfl⟩
instance:fP Tryz.prog 13:=⟨fun w=>⟨1,jr.size (T:=13) (n:=2) w⟩⟩
instance:ax Tryz.prog 13 (.agg #[.string (ByteArray.mk #[]),.int .u64 0]):=⟨by kernel_rfl⟩
instance:aL Tryz.prog 13 2 24 (.agg #[.string (ByteArray.mk #[]),.int .u64 0]):=⟨by kernel_rfl,by rfl,by decide,by decide⟩
instance:bP Tryz.prog 13 [(0,1),(1,1)] [.string (ByteArray.mk #[]),.int .u64 0]:=⟨by kernel_rfl,by kernel_rfl,by rfl⟩
instance:fU Tryz.prog 13 0 0 9:=⟨by kernel_rfl⟩
instance:fU Tryz.prog 13 1 1 12:=⟨by kernel_rfl⟩
instance:jr Tryz.prog 14 2:=⟨by kernel_rfl,by kernel_rfl⟩
instance:fP Tryz.prog 14:=⟨fun w=>⟨1,jr.size (T:=14) (n:=2) w⟩⟩
instance:ax Tryz.prog 14 (.agg #[.string (ByteArray.mk #[]),.int .u64 0]):=⟨by kernel_rfl⟩
instance:aL Tryz.prog 14 2 24 (.agg #[.string (ByteArray.mk #[]),.int .u64 0]):=⟨by kernel_rfl,by rfl,by decide,by decide⟩
instance:bP Tryz.prog 14 [(0,1),(1,1)] [.string (ByteArray.mk #[]),.int .u64 0]:=⟨by kernel_rfl,by kernel_rfl,by rfl⟩
instance:fU Tryz.prog 14 0 0 9:=⟨by kernel_rfl⟩
instance:fU Tryz.prog 14 1 1 12:=⟨by kernel_rfl⟩
instance:bX Tryz.prog 15:=⟨by kernel_rfl,by kernel_rfl⟩
instance:ax Tryz.prog 15 (.pointer none):=⟨by kernel_rfl⟩
instance:aL Tryz.prog 15 1 8 (.pointer none):=⟨by kernel_rfl,by rfl,by decide,by decide⟩
instance:bX Tryz.prog 16:=⟨by kernel_rfl,by kernel_rfl⟩
instance:ax Tryz.prog 16 (.pointer none):=⟨by kernel_rfl⟩
instance:aL Tryz.prog 16 1 8 (.pointer none):=⟨by kernel_rfl,by rfl,by decide,by decide⟩
instance:bX Tryz.prog 17:=⟨by kernel_rfl,by kernel_rfl⟩
instance:ax Tryz.prog 17 (.pointer none):=⟨by kernel_rfl⟩
instance:aL Tryz.prog 17 1 8 (.pointer none):=⟨by kernel_rfl,by rfl,by decide,by decide⟩
instance:jr Tryz.prog 18 1:=⟨by kernel_rfl,by kernel_rfl⟩
instance:fP Tryz.prog 18:=⟨fun w=>⟨0,jr.size (T:=18) (n:=1) w⟩⟩
instance:ax Tryz.prog 18 (.agg #[.pointer none]):=⟨by kernel_rfl⟩
instance:aL Tryz.prog 18 1 8 (.agg #[.pointer none]):=⟨by kernel_rfl,by rfl,by decide,by decide⟩
instance:bP Tryz.prog 18 [(0,1)] [.pointer none]:=⟨by kernel_rfl,by kernel_rfl,by rfl⟩
instance:fU Tryz.prog 18 0 0 17:=⟨by kernel_rfl⟩
instance:jr Tryz.prog 19 1:=⟨by kernel_rfl,by kernel_rfl⟩
instance:fP Tryz.prog 19:=⟨fun w=>⟨0,jr.size (T:=19) (n:=1) w⟩⟩
instance:ax Tryz.prog 19 (.agg #[.pointer none]):=⟨by kernel_rfl⟩
instance:aL Tryz.prog 19 1 8 (.agg #[.pointer none]):=⟨by kernel_rfl,by rfl,by decide,by decide⟩
instance:bP Tryz.prog 19 [(0,1)] [.pointer none]:=⟨by kernel_rfl,by kernel_rfl,by rfl⟩
instance:fU Tryz.prog 19 0 0 17:=⟨by kernel_rfl⟩
instance:bX Tryz.prog 20:=⟨by kernel_rfl,by kernel_rfl⟩
instance:ax Tryz.prog 20 (.nilIface):=⟨by kernel_rfl⟩
instance:aL Tryz.prog 20 1 16 (.nilIface):=⟨by kernel_rfl,by rfl,by decide,by decide⟩
instance:iV Tryz.prog 21 .i32:=⟨by kernel_rfl⟩
instance:bX Tryz.prog 21:=⟨by kernel_rfl,by kernel_rfl⟩
instance:ax Tryz.prog 21 (.int .i32 0):=⟨by kernel_rfl⟩
instance:aL Tryz.prog 21 1 4 (.int .i32 0):=⟨by kernel_rfl,by rfl,by decide,by decide⟩
instance:bX Tryz.prog 22:=⟨by kernel_rfl,by kernel_rfl⟩
instance:ax Tryz.prog 22 (.slice none 0 0):=⟨by kernel_rfl⟩
instance:aL Tryz.prog 22 1 24 (.slice none 0 0):=⟨by kernel_rfl,by rfl,by decide,by decide⟩
instance:eK Tryz.prog 22 23 1:=⟨by kernel_rfl,by kernel_rfl⟩
instance:bX Tryz.prog 23:=⟨by kernel_rfl,by kernel_rfl⟩
instance:ax Tryz.prog 23 (.slice none 0 0):=⟨by kernel_rfl⟩
instance:aL Tryz.prog 23 1 24 (.slice none 0 0):=⟨by kernel_rfl,by rfl,by decide,by decide⟩
instance:eK Tryz.prog 23 43 4:=⟨by kernel_rfl,by kernel_rfl⟩
instance:jr Tryz.prog 24 4:=⟨by kernel_rfl,by kernel_rfl⟩
instance:fP Tryz.prog 24:=⟨fun w=>⟨3,jr.size (T:=24) (n:=4) w⟩⟩
instance:ax Tryz.prog 24 (.agg #[.int .i64 0,.slice none 0 0,.slice none 0 0,.slice none 0 0]):=⟨by kernel_rfl⟩
instance:aL Tryz.prog 24 4 80 (.agg #[.int .i64 0,.slice none 0 0,.slice none 0 0,.slice none 0 0]):=⟨by kernel_rfl,by rfl,by decide,by decide⟩
instance:bP Tryz.prog 24 [(0,1),(1,1),(2,1),(3,1)] [.int .i64 0,.slice none 0 0,.slice none 0 0,.slice none 0 0]:=⟨by kernel_rfl,by kernel_rfl,by rfl⟩
instance:fU Tryz.prog 24 0 0 3:=⟨by kernel_rfl⟩
instance:fU Tryz.prog 24 1 1 22:=⟨by kernel_rfl⟩
instance:fU Tryz.prog 24 2 2 22:=⟨by kernel_rfl⟩
instance:fU Tryz.prog 24 3 3 23:=⟨by kernel_rfl⟩
instance:jr Tryz.prog 25 4:=⟨by kernel_rfl,by kernel_rfl⟩
instance:fP Tryz.prog 25:=⟨fun w=>⟨3,jr.size (T:=25) (n:=4) w⟩⟩
instance:ax Tryz.prog 25 (.agg #[.int .i64 0,.slice none 0 0,.slice none 0 0,.slice none 0 0]):=⟨by kernel_rfl⟩
instance:aL Tryz.prog 25 4 80 (.agg #[.int .i64 0,.slice none 0 0,.slice none 0 0,.slice none 0 0]):=⟨by kernel_rfl,by rfl,by decide,by decide⟩
instance:bP Tryz.prog 25 [(0,1),(1,1),(2,1),(3,1)] [.int .i64 0,.slice none 0 0,.slice none 0 0,.slice none 0 0]:=⟨by kernel_rfl,by kernel_rfl,by rfl⟩
instance:fU Tryz.prog 25 0 0 3:=⟨by kernel_rfl⟩
instance:fU Tryz.prog 25 1 1 22:=⟨by kernel_rfl⟩
instance:fU Tryz.prog 25 2 2 22:=⟨by kernel_rfl⟩
instance:fU Tryz.prog 25 3 3 23:=⟨by kernel_rfl⟩
instance:bX Tryz.prog 26:=⟨by kernel_rfl,by kernel_rfl⟩
instance:ax Tryz.prog 26 (.slice none 0 0):=⟨by kernel_rfl⟩
instance:aL Tryz.prog 26 1 24 (.slice none 0 0):=⟨by kernel_rfl,by rfl,by decide,by decide⟩
instance:eK Tryz.prog 26 38 2:=⟨by kernel_rfl,by kernel_rfl⟩
instance:bX Tryz.prog 27:=⟨by kernel_rfl,by kernel_rfl⟩
instance:ax Tryz.prog 27 (.nilFunc):=⟨by kernel_rfl⟩
instance:aL Tryz.prog 27 1 8 (.nilFunc):=⟨by kernel_rfl,by rfl,by decide,by decide⟩
instance:bX Tryz.prog 28:=⟨by kernel_rfl,by kernel_rfl⟩
instance:ax Tryz.prog 28 (.nilFunc):=⟨by kernel_rfl⟩
instance:aL Tryz.prog 28 1 8 (.nilFunc):=⟨by kernel_rfl,by rfl,by decide,by decide⟩
instance:bX Tryz.prog 29:=⟨by kernel_rfl,by kernel_rfl⟩
instance:ax Tryz.prog 29 (.nilFunc):=⟨by kernel_rfl⟩
instance:aL Tryz.prog 29 1 8 (.nilFunc):=⟨by kernel_rfl,by rfl,by decide,by decide⟩
instance:bX Tryz.prog 30:=⟨by kernel_rfl,by kernel_rfl⟩
instance:ax Tryz.prog 30 (.pointer none):=⟨by kernel_rfl⟩
instance:aL Tryz.prog 30 1 8 (.pointer none):=⟨by kernel_rfl,by rfl,by decide,by decide⟩
instance:iV Tryz.prog 31 .i64:=⟨by kernel_rfl⟩
instance:bX Tryz.prog 31:=⟨by kernel_rfl,by kernel_rfl⟩
instance:ax Tryz.prog 31 (.int .i64 0):=⟨by kernel_rfl⟩
instance:aL Tryz.prog 31 1 8 (.int .i64 0):=⟨by kernel_rfl,by rfl,by decide,by decide⟩
instance:bX Tryz.prog 33:=⟨by kernel_rfl,by kernel_rfl⟩
instance:ax Tryz.prog 33 (.nilFunc):=⟨by kernel_rfl⟩
instance:aL Tryz.prog 33 1 8 (.nilFunc):=⟨by kernel_rfl,by rfl,by decide,by decide⟩
instance:bX Tryz.prog 34:=⟨by kernel_rfl,by kernel_rfl⟩
instance:ax Tryz.prog 34 (.pointer none):=⟨by kernel_rfl⟩
instance:aL Tryz.prog 34 1 8 (.pointer none):=⟨by kernel_rfl,by rfl,by decide,by decide⟩
instance:bX Tryz.prog 35:=⟨by kernel_rfl,by kernel_rfl⟩
instance:ax Tryz.prog 35 (.nilFunc):=⟨by kernel_rfl⟩
instance:aL Tryz.prog 35 1 8 (.nilFunc):=⟨by kernel_rfl,by rfl,by decide,by decide⟩
instance:bX Tryz.prog 36:=⟨by kernel_rfl,by kernel_rfl⟩
instance:ax Tryz.prog 36 (.nilFunc):=⟨by kernel_rfl⟩
instance:aL Tryz.prog 36 1 8 (.nilFunc):=⟨by kernel_rfl,by rfl,by decide,by decide⟩
instance:jr Tryz.prog 37 2:=⟨by kernel_rfl,by kernel_rfl⟩
instance:fP Tryz.prog 37:=⟨fun w=>⟨1,jr.size (T:=37) (n:=2) w⟩⟩
instance:ax Tryz.prog 37 (.agg #[.int .i64 0,.int .i64 0]):=⟨by kernel_rfl⟩
instance:aL Tryz.prog 37 2 16 (.agg #[.int .i64 0,.int .i64 0]):=⟨by kernel_rfl,by rfl,by decide,by decide⟩
instance:bP Tryz.prog 37 [(0,1),(1,1)] [.int .i64 0,.int .i64 0]:=⟨by kernel_rfl,by kernel_rfl,by rfl⟩
instance:fU Tryz.prog 37 0 0 3:=⟨by kernel_rfl⟩
instance:fU Tryz.prog 37 1 1 3:=⟨by kernel_rfl⟩
instance:jr Tryz.prog 38 2:=⟨by kernel_rfl,by kernel_rfl⟩
instance:fP Tryz.prog 38:=⟨fun w=>⟨1,jr.size (T:=38) (n:=2) w⟩⟩
instance:ax Tryz.prog 38 (.agg #[.int .i64 0,.int .i64 0]):=⟨by kernel_rfl⟩
instance:aL Tryz.prog 38 2 16 (.agg #[.int .i64 0,.int .i64 0]):=⟨by kernel_rfl,by rfl,by decide,by decide⟩
instance:bP Tryz.prog 38 [(0,1),(1,1)] [.int .i64 0,.int .i64 0]:=⟨by kernel_rfl,by kernel_rfl,by rfl⟩
instance:fU Tryz.prog 38 0 0 3:=⟨by kernel_rfl⟩
instance:fU Tryz.prog 38 1 1 3:=⟨by kernel_rfl⟩
instance:bX Tryz.prog 39:=⟨by kernel_rfl,by kernel_rfl⟩
instance:ax Tryz.prog 39 (.slice none 0 0):=⟨by kernel_rfl⟩
instance:aL Tryz.prog 39 1 24 (.slice none 0 0):=⟨by kernel_rfl,by rfl,by decide,by decide⟩
instance:eK Tryz.prog 39 130 1:=⟨by kernel_rfl,by kernel_rfl⟩
instance:jr Tryz.prog 40 2:=⟨by kernel_rfl,by kernel_rfl⟩
instance:fP Tryz.prog 40:=⟨fun w=>⟨1,jr.size (T:=40) (n:=2) w⟩⟩
instance:ax Tryz.prog 40 (.agg #[.bool false,.slice none 0 0]):=⟨by kernel_rfl⟩
instance:aL Tryz.prog 40 2 32 (.agg #[.bool false,.slice none 0 0]):=⟨by kernel_rfl,by rfl,by decide,by decide⟩
instance:bP Tryz.prog 40 [(0,1),(1,1)] [.bool false,.slice none 0 0]:=⟨by kernel_rfl,by kernel_rfl,by rfl⟩
instance:fU Tryz.prog 40 0 0 4:=⟨by kernel_rfl⟩
instance:fU Tryz.prog 40 1 1 39:=⟨by kernel_rfl⟩
instance:jr Tryz.prog 41 2:=⟨by kernel_rfl,by kernel_rfl⟩
instance:fP Tryz.prog 41:=⟨fun w=>⟨1,jr.size (T:=41) (n:=2) w⟩⟩
instance:ax Tryz.prog 41 (.agg #[.bool false,.slice none 0 0]):=⟨by kernel_rfl⟩
instance:aL Tryz.prog 41 2 32 (.agg #[.bool false,.slice none 0 0]):=⟨by kernel_rfl,by rfl,by decide,by decide⟩
instance:bP Tryz.prog 41 [(0,1),(1,1)] [.bool false,.slice none 0 0]:=⟨by kernel_rfl,by kernel_rfl,by rfl⟩
instance:fU Tryz.prog 41 0 0 4:=⟨by kernel_rfl⟩
instance:fU Tryz.prog 41 1 1 39:=⟨by kernel_rfl⟩
instance:jr Tryz.prog 42 4:=⟨by kernel_rfl,by kernel_rfl⟩
instance:fP Tryz.prog 42:=⟨fun w=>⟨3,jr.size (T:=42) (n:=4) w⟩⟩
instance:ax Tryz.prog 42 (.agg #[.bool false,.slice none 0 0,.bool false,.slice none 0 0]):=⟨by kernel_rfl⟩
instance:aL Tryz.prog 42 4 64 (.agg #[.bool false,.slice none 0 0,.bool false,.slice none 0 0]):=⟨by kernel_rfl,by rfl,by decide,by decide⟩
instance:bP Tryz.prog 42 [(0,2),(2,2)] [.bool false,.slice none 0 0,.bool false,.slice none 0 0]:=⟨by kernel_rfl,by kernel_rfl,by rfl⟩
instance:fU Tryz.prog 42 0 0 41:=⟨by kernel_rfl⟩
instance:fU Tryz.prog 42 1 2 41:=⟨by kernel_rfl⟩
instance:jr Tryz.prog 43 4:=⟨by kernel_rfl,by kernel_rfl⟩
instance:fP Tryz.prog 43:=⟨fun w=>⟨3,jr.size (T:=43) (n:=4) w⟩⟩
instance:ax Tryz.prog 43 (.agg #[.bool false,.slice none 0 0,.bool false,.slice none 0 0]):=⟨by kernel_rfl⟩
instance:aL Tryz.prog 43 4 64 (.agg #[.bool false,.slice none 0 0,.bool false,.slice none 0 0]):=⟨by kernel_rfl,by rfl,by decide,by decide⟩
instance:bP Tryz.prog 43 [(0,2),(2,2)] [.bool false,.slice none 0 0,.bool false,.slice none 0 0]:=⟨by kernel_rfl,by kernel_rfl,by rfl⟩
instance:fU Tryz.prog 43 0 0 41:=⟨by kernel_rfl⟩
instance:fU Tryz.prog 43 1 2 41:=⟨by kernel_rfl⟩
instance:bX Tryz.prog 44:=⟨by kernel_rfl,by kernel_rfl⟩
instance:ax Tryz.prog 44 (.nilFunc):=⟨by kernel_rfl⟩
instance:aL Tryz.prog 44 1 8 (.nilFunc):=⟨by kernel_rfl,by rfl,by decide,by decide⟩
instance:bX Tryz.prog 45:=⟨by kernel_rfl,by kernel_rfl⟩
instance:ax Tryz.prog 45 (.slice none 0 0):=⟨by kernel_rfl⟩
instance:aL Tryz.prog 45 1 24 (.slice none 0 0):=⟨by kernel_rfl,by rfl,by decide,by decide⟩
instance:eK Tryz.prog 45 3 1:=⟨by kernel_rfl,by kernel_rfl⟩
instance:bX Tryz.prog 46:=⟨by kernel_rfl,by kernel_rfl⟩
instance:ax Tryz.prog 46 (.nilFunc):=⟨by kernel_rfl⟩
instance:aL Tryz.prog 46 1 8 (.nilFunc):=⟨by kernel_rfl,by rfl,by decide,by decide⟩
instance:bX Tryz.prog 47:=⟨by kernel_rfl,by kernel_rfl⟩
instance:ax Tryz.prog 47 (.nilFunc):=⟨by kernel_rfl⟩
instance:aL Tryz.prog 47 1 8 (.nilFunc):=⟨by kernel_rfl,by rfl,by decide,by decide⟩
instance:bX Tryz.prog 48:=⟨by kernel_rfl,by kernel_rfl⟩
instance:ax Tryz.prog 48 (.nilFunc):=⟨by kernel_rfl⟩
instance:aL Tryz.prog 48 1 8 (.nilFunc):=⟨by kernel_rfl,by rfl,by decide,by decide⟩
instance:bX Tryz.prog 49:=⟨by kernel_rfl,by kernel_rfl⟩
instance:ax Tryz.prog 49 (.nilFunc):=⟨by kernel_rfl⟩
instance:aL Tryz.prog 49 1 8 (.nilFunc):=⟨by kernel_rfl,by rfl,by decide,by decide⟩
instance:bX Tryz.prog 50:=⟨by kernel_rfl,by kernel_rfl⟩
instance:ax Tryz.prog 50 (.nilFunc):=⟨by kernel_rfl⟩
instance:aL Tryz.prog 50 1 8 (.nilFunc):=⟨by kernel_rfl,by rfl,by decide,by decide⟩
instance:bX Tryz.prog 51:=⟨by kernel_rfl,by kernel_rfl⟩
instance:ax Tryz.prog 51 (.nilFunc):=⟨by kernel_rfl⟩
instance:aL Tryz.prog 51 1 8 (.nilFunc):=⟨by kernel_rfl,by rfl,by decide,by decide⟩
instance:bX Tryz.prog 52:=⟨by kernel_rfl,by kernel_rfl⟩
instance:ax Tryz.prog 52 (.nilFunc):=⟨by kernel_rfl⟩
instance:aL Tryz.prog 52 1 8 (.nilFunc):=⟨by kernel_rfl,by rfl,by decide,by decide⟩
instance:bX Tryz.prog 53:=⟨by kernel_rfl,by kernel_rfl⟩
instance:ax Tryz.prog 53 (.nilFunc):=⟨by kernel_rfl⟩
instance:aL Tryz.prog 53 1 8 (.nilFunc):=⟨by kernel_rfl,by rfl,by decide,by decide⟩
instance:bX Tryz.prog 54:=⟨by kernel_rfl,by kernel_rfl⟩
instance:ax Tryz.prog 54 (.nilFunc):=⟨by kernel_rfl⟩
instance:aL Tryz.prog 54 1 8 (.nilFunc):=⟨by kernel_rfl,by rfl,by decide,by decide⟩
instance:bX Tryz.prog 55:=⟨by kernel_rfl,by kernel_rfl⟩
instance:ax Tryz.prog 55 (.nilFunc):=⟨by kernel_rfl⟩
instance:aL Tryz.prog 55 1 8 (.nilFunc):=⟨by kernel_rfl,by rfl,by decide,by decide⟩
instance:bX Tryz.prog 56:=⟨by kernel_rfl,by kernel_rfl⟩
instance:ax Tryz.prog 56 (.nilFunc):=⟨by kernel_rfl⟩
instance:aL Tryz.prog 56 1 8 (.nilFunc):=⟨by kernel_rfl,by rfl,by decide,by decide⟩
instance:bX Tryz.prog 57:=⟨by kernel_rfl,by kernel_rfl⟩
instance:ax Tryz.prog 57 (.nilFunc):=⟨by kernel_rfl⟩
instance:aL Tryz.prog 57 1 8 (.nilFunc):=⟨by kernel_rfl,by rfl,by decide,by decide⟩
instance:jr Tryz.prog 58 5:=⟨by kernel_rfl,by kernel_rfl⟩
instance:fP Tryz.prog 58:=⟨fun w=>⟨4,jr.size (T:=58) (n:=5) w⟩⟩
instance:ax Tryz.prog 58 (.agg #[.int .i64 0,.slice none 0 0,.slice none 0 0,.slice none 0 0,.slice none 0 0]):=⟨by kernel_rfl⟩
instance:aL Tryz.prog 58 5 104 (.agg #[.int .i64 0,.slice none 0 0,.slice none 0 0,.slice none 0 0,.slice none 0 0]):=⟨by kernel_rfl,by rfl,by decide,by decide⟩
instance:bP Tryz.prog 58 [(0,4),(4,1)] [.int .i64 0,.slice none 0 0,.slice none 0 0,.slice none 0 0,.slice none 0 0]:=⟨by kernel_rfl,by kernel_rfl,by rfl⟩
instance:fU Tryz.prog 58 0 0 25:=⟨by kernel_rfl⟩
instance:fU Tryz.prog 58 1 4 45:=⟨by kernel_rfl⟩
instance:jr Tryz.prog 59 5:=⟨by kernel_rfl,by kernel_rfl⟩
instance:fP Tryz.prog 59:=⟨fun w=>⟨4,jr.size (T:=59) (n:=5) w⟩⟩
instance:ax Tryz.prog 59 (.agg #[.int .i64 0,.slice none 0 0,.slice none 0 0,.slice none 0 0,.slice none 0 0]):=⟨by kernel_rfl⟩
instance:aL Tryz.prog 59 5 104 (.agg #[.int .i64 0,.slice none 0 0,.slice none 0 0,.slice none 0 0,.slice none 0 0]):=⟨by kernel_rfl,by rfl,by decide,by decide⟩
instance:bP Tryz.prog 59 [(0,4),(4,1)] [.int .i64 0,.slice none 0 0,.slice none 0 0,.slice none 0 0,.slice none 0 0]:=⟨by kernel_rfl,by kernel_rfl,by rfl⟩
instance:fU Tryz.prog 59 0 0 25:=⟨by kernel_rfl⟩
instance:fU Tryz.prog 59 1 4 45:=⟨by kernel_rfl⟩
instance:bX Tryz.prog 60:=⟨by kernel_rfl,by kernel_rfl⟩
instance:ax Tryz.prog 60 (.nilFunc):=⟨by kernel_rfl⟩
instance:aL Tryz.prog 60 1 8 (.nilFunc):=⟨by kernel_rfl,by rfl,by decide,by decide⟩
instance:bX Tryz.prog 61:=⟨by kernel_rfl,by kernel_rfl⟩
instance:ax Tryz.prog 61 (.nilFunc):=⟨by kernel_rfl⟩
instance:aL Tryz.prog 61 1 8 (.nilFunc):=⟨by kernel_rfl,by rfl,by decide,by decide⟩
instance:bX Tryz.prog 62:=⟨by kernel_rfl,by kernel_rfl⟩
instance:ax Tryz.prog 62 (.nilFunc):=⟨by kernel_rfl⟩
instance:aL Tryz.prog 62 1 8 (.nilFunc):=⟨by kernel_rfl,by rfl,by decide,by decide⟩
instance:bX Tryz.prog 63:=⟨by kernel_rfl,by kernel_rfl⟩
instance:ax Tryz.prog 63 (.nilFunc):=⟨by kernel_rfl⟩
instance:aL Tryz.prog 63 1 8 (.nilFunc):=⟨by kernel_rfl,by rfl,by decide,by decide⟩
instance:bX Tryz.prog 64:=⟨by kernel_rfl,by kernel_rfl⟩
instance:ax Tryz.prog 64 (.nilFunc):=⟨by kernel_rfl⟩
instance:aL Tryz.prog 64 1 8 (.nilFunc):=⟨by kernel_rfl,by rfl,by decide,by decide⟩
instance:bX Tryz.prog 65:=⟨by kernel_rfl,by kernel_rfl⟩
instance:ax Tryz.prog 65 (.nilFunc):=⟨by kernel_rfl⟩
instance:aL Tryz.prog 65 1 8 (.nilFunc):=⟨by kernel_rfl,by rfl,by decide,by decide⟩
instance:bX Tryz.prog 67:=⟨by kernel_rfl,by kernel_rfl⟩
instance:ax Tryz.prog 67 (.nilFunc):=⟨by kernel_rfl⟩
instance:aL Tryz.prog 67 1 8 (.nilFunc):=⟨by kernel_rfl,by rfl,by decide,by decide⟩
instance:bX Tryz.prog 68:=⟨by kernel_rfl,by kernel_rfl⟩
instance:ax Tryz.prog 68 (.nilFunc):=⟨by kernel_rfl⟩
instance:aL Tryz.prog 68 1 8 (.nilFunc):=⟨by kernel_rfl,by rfl,by decide,by decide⟩
instance:bX Tryz.prog 69:=⟨by kernel_rfl,by kernel_rfl⟩
instance:ax Tryz.prog 69 (.nilFunc):=⟨by kernel_rfl⟩
instance:aL Tryz.prog 69 1 8 (.nilFunc):=⟨by kernel_rfl,by rfl,by decide,by decide⟩
instance:bX Tryz.prog 70:=⟨by kernel_rfl,by kernel_rfl⟩
instance:ax Tryz.prog 70 (.nilFunc):=⟨by kernel_rfl⟩
instance:aL Tryz.prog 70 1 8 (.nilFunc):=⟨by kernel_rfl,by rfl,by decide,by decide⟩
instance:bX Tryz.prog 71:=⟨by kernel_rfl,by kernel_rfl⟩
instance:ax Tryz.prog 71 (.nilFunc):=⟨by kernel_rfl⟩
instance:aL Tryz.prog 71 1 8 (.nilFunc):=⟨by kernel_rfl,by rfl,by decide,by decide⟩
instance:bX Tryz.prog 72:=⟨by kernel_rfl,by kernel_rfl⟩
instance:ax Tryz.prog 72 (.nilFunc):=⟨by kernel_rfl⟩
instance:aL Tryz.prog 72 1 8 (.nilFunc):=⟨by kernel_rfl,by rfl,by decide,by decide⟩
instance:bX Tryz.prog 73:=⟨by kernel_rfl,by kernel_rfl⟩
instance:ax Tryz.prog 73 (.nilFunc):=⟨by kernel_rfl⟩
instance:aL Tryz.prog 73 1 8 (.nilFunc):=⟨by kernel_rfl,by rfl,by decide,by decide⟩
instance:bX Tryz.prog 74:=⟨by kernel_rfl,by kernel_rfl⟩
instance:ax Tryz.prog 74 (.nilFunc):=⟨by kernel_rfl⟩
instance:aL Tryz.prog 74 1 8 (.nilFunc):=⟨by kernel_rfl,by rfl,by decide,by decide⟩
instance:bX Tryz.prog 75:=⟨by kernel_rfl,by kernel_rfl⟩
instance:ax Tryz.prog 75 (.nilFunc):=⟨by kernel_rfl⟩
instance:aL Tryz.prog 75 1 8 (.nilFunc):=⟨by kernel_rfl,by rfl,by decide,by decide⟩
instance:bX Tryz.prog 76:=⟨by kernel_rfl,by kernel_rfl⟩
instance:ax Tryz.prog 76 (.nilFunc):=⟨by kernel_rfl⟩
instance:aL Tryz.prog 76 1 8 (.nilFunc):=⟨by kernel_rfl,by rfl,by decide,by decide⟩
instance:bX Tryz.prog 77:=⟨by kernel_rfl,by kernel_rfl⟩
instance:ax Tryz.prog 77 (.nilFunc):=⟨by kernel_rfl⟩
instance:aL Tryz.prog 77 1 8 (.nilFunc):=⟨by kernel_rfl,by rfl,by decide,by decide⟩
instance:jr Tryz.prog 78 5:=⟨by kernel_rfl,by kernel_rfl⟩
instance:fP Tryz.prog 78:=⟨fun w=>⟨4,jr.size (T:=78) (n:=5) w⟩⟩
instance:ax Tryz.prog 78 (.agg #[.bool false,.int .i64 0,.slice none 0 0,.slice none 0 0,.slice none 0 0]):=⟨by kernel_rfl⟩
instance:aL Tryz.prog 78 5 88 (.agg #[.bool false,.int .i64 0,.slice none 0 0,.slice none 0 0,.slice none 0 0]):=⟨by kernel_rfl,by rfl,by decide,by decide⟩
instance:bP Tryz.prog 78 [(0,1),(1,1),(2,1),(3,1),(4,1)] [.bool false,.int .i64 0,.slice none 0 0,.slice none 0 0,.slice none 0 0]:=⟨by kernel_rfl,by kernel_rfl,by rfl⟩
instance:fU Tryz.prog 78 0 0 4:=⟨by kernel_rfl⟩
instance:fU Tryz.prog 78 1 1 3:=⟨by kernel_rfl⟩
instance:fU Tryz.prog 78 2 2 22:=⟨by kernel_rfl⟩
instance:fU Tryz.prog 78 3 3 45:=⟨by kernel_rfl⟩
instance:fU Tryz.prog 78 4 4 22:=⟨by kernel_rfl⟩
instance:jr Tryz.prog 79 5:=⟨by kernel_rfl,by kernel_rfl⟩
instance:fP Tryz.prog 79:=⟨fun w=>⟨4,jr.size (T:=79) (n:=5) w⟩⟩
instance:ax Tryz.prog 79 (.agg #[.bool false,.int .i64 0,.slice none 0 0,.slice none 0 0,.slice none 0 0]):=⟨by kernel_rfl⟩
instance:aL Tryz.prog 79 5 88 (.agg #[.bool false,.int .i64 0,.slice none 0 0,.slice none 0 0,.slice none 0 0]):=⟨by kernel_rfl,by rfl,by decide,by decide⟩
instance:bP Tryz.prog 79 [(0,1),(1,1),(2,1),(3,1),(4,1)] [.bool false,.int .i64 0,.slice none 0 0,.slice none 0 0,.slice none 0 0]:=⟨by kernel_rfl,by kernel_rfl,by rfl⟩
instance:fU Tryz.prog 79 0 0 4:=⟨by kernel_rfl⟩
instance:fU Tryz.prog 79 1 1 3:=⟨by kernel_rfl⟩
instance:fU Tryz.prog 79 2 2 22:=⟨by kernel_rfl⟩
instance:fU Tryz.prog 79 3 3 45:=⟨by kernel_rfl⟩
instance:fU Tryz.prog 79 4 4 22:=⟨by kernel_rfl⟩
instance:bX Tryz.prog 80:=⟨by kernel_rfl,by kernel_rfl⟩
instance:ax Tryz.prog 80 (.nilFunc):=⟨by kernel_rfl⟩
instance:aL Tryz.prog 80 1 8 (.nilFunc):=⟨by kernel_rfl,by rfl,by decide,by decide⟩
instance:bX Tryz.prog 81:=⟨by kernel_rfl,by kernel_rfl⟩
instance:ax Tryz.prog 81 (.nilFunc):=⟨by kernel_rfl⟩
instance:aL Tryz.prog 81 1 8 (.nilFunc):=⟨by kernel_rfl,by rfl,by decide,by decide⟩
instance:bX Tryz.prog 82:=⟨by kernel_rfl,by kernel_rfl⟩
instance:ax Tryz.prog 82 (.nilFunc):=⟨by kernel_rfl⟩
instance:aL Tryz.prog 82 1 8 (.nilFunc):=⟨by kernel_rfl,by rfl,by decide,by decide⟩
instance:bX Tryz.prog 83:=⟨by kernel_rfl,by kernel_rfl⟩
instance:ax Tryz.prog 83 (.nilFunc):=⟨by kernel_rfl⟩
instance:aL Tryz.prog 83 1 8 (.nilFunc):=⟨by kernel_rfl,by rfl,by decide,by decide⟩
instance:bX Tryz.prog 84:=⟨by kernel_rfl,by kernel_rfl⟩
instance:ax Tryz.prog 84 (.nilFunc):=⟨by kernel_rfl⟩
instance:aL Tryz.prog 84 1 8 (.nilFunc):=⟨by kernel_rfl,by rfl,by decide,by decide⟩
instance:bX Tryz.prog 85:=⟨by kernel_rfl,by kernel_rfl⟩
instance:ax Tryz.prog 85 (.nilFunc):=⟨by kernel_rfl⟩
instance:aL Tryz.prog 85 1 8 (.nilFunc):=⟨by kernel_rfl,by rfl,by decide,by decide⟩
instance:bX Tryz.prog 86:=⟨by kernel_rfl,by kernel_rfl⟩
instance:ax Tryz.prog 86 (.nilFunc):=⟨by kernel_rfl⟩
instance:aL Tryz.prog 86 1 8 (.nilFunc):=⟨by kernel_rfl,by rfl,by decide,by decide⟩
instance:bX Tryz.prog 87:=⟨by kernel_rfl,by kernel_rfl⟩
instance:ax Tryz.prog 87 (.nilFunc):=⟨by kernel_rfl⟩
instance:aL Tryz.prog 87 1 8 (.nilFunc):=⟨by kernel_rfl,by rfl,by decide,by decide⟩
instance:bX Tryz.prog 88:=⟨by kernel_rfl,by kernel_rfl⟩
instance:ax Tryz.prog 88 (.nilFunc):=⟨by kernel_rfl⟩
instance:aL Tryz.prog 88 1 8 (.nilFunc):=⟨by kernel_rfl,by rfl,by decide,by decide⟩
instance:bX Tryz.prog 89:=⟨by kernel_rfl,by kernel_rfl⟩
instance:ax Tryz.prog 89 (.nilFunc):=⟨by kernel_rfl⟩
instance:aL Tryz.prog 89 1 8 (.nilFunc):=⟨by kernel_rfl,by rfl,by decide,by decide⟩
instance:bX Tryz.prog 90:=⟨by kernel_rfl,by kernel_rfl⟩
instance:ax Tryz.prog 90 (.nilFunc):=⟨by kernel_rfl⟩
instance:aL Tryz.prog 90 1 8 (.nilFunc):=⟨by kernel_rfl,by rfl,by decide,by decide⟩
instance:bX Tryz.prog 91:=⟨by kernel_rfl,by kernel_rfl⟩
instance:ax Tryz.prog 91 (.nilFunc):=⟨by kernel_rfl⟩
instance:aL Tryz.prog 91 1 8 (.nilFunc):=⟨by kernel_rfl,by rfl,by decide,by decide⟩
instance:bX Tryz.prog 92:=⟨by kernel_rfl,by kernel_rfl⟩
instance:ax Tryz.prog 92 (.slice none 0 0):=⟨by kernel_rfl⟩
instance:aL Tryz.prog 92 1 24 (.slice none 0 0):=⟨by kernel_rfl,by rfl,by decide,by decide⟩
instance:eK Tryz.prog 92 4 1:=⟨by kernel_rfl,by kernel_rfl⟩
instance:bX Tryz.prog 94:=⟨by kernel_rfl,by kernel_rfl⟩
instance:ax Tryz.prog 94 (.nilFunc):=⟨by kernel_rfl⟩
instance:aL Tryz.prog 94 1 8 (.nilFunc):=⟨by kernel_rfl,by rfl,by decide,by decide⟩
instance:bX Tryz.prog 95:=⟨by kernel_rfl,by kernel_rfl⟩
instance:ax Tryz.prog 95 (.nilFunc):=⟨by kernel_rfl⟩
instance:aL Tryz.prog 95 1 8 (.nilFunc):=⟨by kernel_rfl,by rfl,by decide,by decide⟩
instance:jr Tryz.prog 96 4:=⟨by kernel_rfl,by kernel_rfl⟩
instance:fP Tryz.prog 96:=⟨fun w=>⟨3,jr.size (T:=96) (n:=4) w⟩⟩
instance:ax Tryz.prog 96 (.agg #[.int .i64 0,.int .i64 0,.int .i64 0,.int .i64 0]):=⟨by kernel_rfl⟩
instance:aL Tryz.prog 96 4 32 (.agg #[.int .i64 0,.int .i64 0,.int .i64 0,.int .i64 0]):=⟨by kernel_rfl,by rfl,by decide,by decide⟩
instance:bP Tryz.prog 96 [(0,1),(1,1),(2,1),(3,1)] [.int .i64 0,.int .i64 0,.int .i64 0,.int .i64 0]:=⟨by kernel_rfl,by kernel_rfl,by rfl⟩
instance:fU Tryz.prog 96 0 0 3:=⟨by kernel_rfl⟩
instance:fU Tryz.prog 96 1 1 3:=⟨by kernel_rfl⟩
instance:fU Tryz.prog 96 2 2 3:=⟨by kernel_rfl⟩
instance:fU Tryz.prog 96 3 3 3:=⟨by kernel_rfl⟩
instance:jr Tryz.prog 97 4:=⟨by kernel_rfl,by kernel_rfl⟩
instance:fP Tryz.prog 97:=⟨fun w=>⟨3,jr.size (T:=97) (n:=4) w⟩⟩
instance:ax Tryz.prog 97 (.agg #[.int .i64 0,.int .i64 0,.int .i64 0,.int .i64 0]):=⟨by kernel_rfl⟩
instance:aL Tryz.prog 97 4 32 (.agg #[.int .i64 0,.int .i64 0,.int .i64 0,.int .i64 0]):=⟨by kernel_rfl,by rfl,by decide,by decide⟩
instance:bP Tryz.prog 97 [(0,1),(1,1),(2,1),(3,1)] [.int .i64 0,.int .i64 0,.int .i64 0,.int .i64 0]:=⟨by kernel_rfl,by kernel_rfl,by rfl⟩
instance:fU Tryz.prog 97 0 0 3:=⟨by kernel_rfl⟩
instance:fU Tryz.prog 97 1 1 3:=⟨by kernel_rfl⟩
instance:fU Tryz.prog 97 2 2 3:=⟨by kernel_rfl⟩
instance:fU Tryz.prog 97 3 3 3:=⟨by kernel_rfl⟩
instance:bX Tryz.prog 98:=⟨by kernel_rfl,by kernel_rfl⟩
instance:ax Tryz.prog 98 (.nilFunc):=⟨by kernel_rfl⟩
instance:aL Tryz.prog 98 1 8 (.nilFunc):=⟨by kernel_rfl,by rfl,by decide,by decide⟩
instance:bX Tryz.prog 99:=⟨by kernel_rfl,by kernel_rfl⟩
instance:ax Tryz.prog 99 (.nilFunc):=⟨by kernel_rfl⟩
instance:aL Tryz.prog 99 1 8 (.nilFunc):=⟨by kernel_rfl,by rfl,by decide,by decide⟩
instance:bX Tryz.prog 100:=⟨by kernel_rfl,by kernel_rfl⟩
instance:ax Tryz.prog 100 (.nilFunc):=⟨by kernel_rfl⟩
instance:aL Tryz.prog 100 1 8 (.nilFunc):=⟨by kernel_rfl,by rfl,by decide,by decide⟩
instance:bX Tryz.prog 101:=⟨by kernel_rfl,by kernel_rfl⟩
instance:ax Tryz.prog 101 (.nilFunc):=⟨by kernel_rfl⟩
instance:aL Tryz.prog 101 1 8 (.nilFunc):=⟨by kernel_rfl,by rfl,by decide,by decide⟩
instance:bX Tryz.prog 102:=⟨by kernel_rfl,by kernel_rfl⟩
instance:ax Tryz.prog 102 (.nilFunc):=⟨by kernel_rfl⟩
instance:aL Tryz.prog 102 1 8 (.nilFunc):=⟨by kernel_rfl,by rfl,by decide,by decide⟩
instance:bX Tryz.prog 103:=⟨by kernel_rfl,by kernel_rfl⟩
instance:ax Tryz.prog 103 (.nilFunc):=⟨by kernel_rfl⟩
instance:aL Tryz.prog 103 1 8 (.nilFunc):=⟨by kernel_rfl,by rfl,by decide,by decide⟩
instance:bX Tryz.prog 104:=⟨by kernel_rfl,by kernel_rfl⟩
instance:ax Tryz.prog 104 (.nilFunc):=⟨by kernel_rfl⟩
instance:aL Tryz.prog 104 1 8 (.nilFunc):=⟨by kernel_rfl,by rfl,by decide,by decide⟩
instance:bX Tryz.prog 105:=⟨by kernel_rfl,by kernel_rfl⟩
instance:ax Tryz.prog 105 (.nilFunc):=⟨by kernel_rfl⟩
instance:aL Tryz.prog 105 1 8 (.nilFunc):=⟨by kernel_rfl,by rfl,by decide,by decide⟩
instance:bX Tryz.prog 106:=⟨by kernel_rfl,by kernel_rfl⟩
instance:ax Tryz.prog 106 (.nilFunc):=⟨by kernel_rfl⟩
instance:aL Tryz.prog 106 1 8 (.nilFunc):=⟨by kernel_rfl,by rfl,by decide,by decide⟩
instance:bX Tryz.prog 107:=⟨by kernel_rfl,by kernel_rfl⟩
instance:ax Tryz.prog 107 (.nilFunc):=⟨by kernel_rfl⟩
instance:aL Tryz.prog 107 1 8 (.nilFunc):=⟨by kernel_rfl,by rfl,by decide,by decide⟩
instance:bX Tryz.prog 108:=⟨by kernel_rfl,by kernel_rfl⟩
instance:ax Tryz.prog 108 (.nilFunc):=⟨by kernel_rfl⟩
instance:aL Tryz.prog 108 1 8 (.nilFunc):=⟨by kernel_rfl,by rfl,by decide,by decide⟩
instance:bX Tryz.prog 109:=⟨by kernel_rfl,by kernel_rfl⟩
instance:ax Tryz.prog 109 (.nilFunc):=⟨by kernel_rfl⟩
instance:aL Tryz.prog 109 1 8 (.nilFunc):=⟨by kernel_rfl,by rfl,by decide,by decide⟩
instance:bX Tryz.prog 110:=⟨by kernel_rfl,by kernel_rfl⟩
instance:ax Tryz.prog 110 (.nilFunc):=⟨by kernel_rfl⟩
instance:aL Tryz.prog 110 1 8 (.nilFunc):=⟨by kernel_rfl,by rfl,by decide,by decide⟩
instance:bX Tryz.prog 111:=⟨by kernel_rfl,by kernel_rfl⟩
instance:ax Tryz.prog 111 (.nilFunc):=⟨by kernel_rfl⟩
instance:aL Tryz.prog 111 1 8 (.nilFunc):=⟨by kernel_rfl,by rfl,by decide,by decide⟩
instance:bX Tryz.prog 112:=⟨by kernel_rfl,by kernel_rfl⟩
instance:ax Tryz.prog 112 (.nilFunc):=⟨by kernel_rfl⟩
instance:aL Tryz.prog 112 1 8 (.nilFunc):=⟨by kernel_rfl,by rfl,by decide,by decide⟩
instance:bX Tryz.prog 113:=⟨by kernel_rfl,by kernel_rfl⟩
instance:ax Tryz.prog 113 (.nilFunc):=⟨by kernel_rfl⟩
instance:aL Tryz.prog 113 1 8 (.nilFunc):=⟨by kernel_rfl,by rfl,by decide,by decide⟩
instance:bX Tryz.prog 114:=⟨by kernel_rfl,by kernel_rfl⟩
instance:ax Tryz.prog 114 (.nilFunc):=⟨by kernel_rfl⟩
instance:aL Tryz.prog 114 1 8 (.nilFunc):=⟨by kernel_rfl,by rfl,by decide,by decide⟩
instance:bX Tryz.prog 115:=⟨by kernel_rfl,by kernel_rfl⟩
instance:ax Tryz.prog 115 (.nilFunc):=⟨by kernel_rfl⟩
instance:aL Tryz.prog 115 1 8 (.nilFunc):=⟨by kernel_rfl,by rfl,by decide,by decide⟩
instance:bX Tryz.prog 116:=⟨by kernel_rfl,by kernel_rfl⟩
instance:ax Tryz.prog 116 (.nilFunc):=⟨by kernel_rfl⟩
instance:aL Tryz.prog 116 1 8 (.nilFunc):=⟨by kernel_rfl,by rfl,by decide,by decide⟩
instance:bX Tryz.prog 117:=⟨by kernel_rfl,by kernel_rfl⟩
instance:ax Tryz.prog 117 (.slice none 0 0):=⟨by kernel_rfl⟩
instance:aL Tryz.prog 117 1 24 (.slice none 0 0):=⟨by kernel_rfl,by rfl,by decide,by decide⟩
instance:eK Tryz.prog 117 2 1:=⟨by kernel_rfl,by kernel_rfl⟩
instance:bX Tryz.prog 118:=⟨by kernel_rfl,by kernel_rfl⟩
instance:ax Tryz.prog 118 (.nilFunc):=⟨by kernel_rfl⟩
instance:aL Tryz.prog 118 1 8 (.nilFunc):=⟨by kernel_rfl,by rfl,by decide,by decide⟩
instance:bX Tryz.prog 119:=⟨by kernel_rfl,by kernel_rfl⟩
instance:ax Tryz.prog 119 (.nilFunc):=⟨by kernel_rfl⟩
instance:aL Tryz.prog 119 1 8 (.nilFunc):=⟨by kernel_rfl,by rfl,by decide,by decide⟩
instance:bX Tryz.prog 120:=⟨by kernel_rfl,by kernel_rfl⟩
instance:ax Tryz.prog 120 (.nilFunc):=⟨by kernel_rfl⟩
instance:aL Tryz.prog 120 1 8 (.nilFunc):=⟨by kernel_rfl,by rfl,by decide,by decide⟩
instance:bX Tryz.prog 122:=⟨by kernel_rfl,by kernel_rfl⟩
instance:ax Tryz.prog 122 (.nilFunc):=⟨by kernel_rfl⟩
instance:aL Tryz.prog 122 1 8 (.nilFunc):=⟨by kernel_rfl,by rfl,by decide,by decide⟩
instance:jr Tryz.prog 123 1:=⟨by kernel_rfl,by kernel_rfl⟩
instance:fP Tryz.prog 123:=⟨fun w=>⟨0,jr.size (T:=123) (n:=1) w⟩⟩
instance:ax Tryz.prog 123 (.agg #[.nilFunc]):=⟨by kernel_rfl⟩
instance:aL Tryz.prog 123 1 8 (.agg #[.nilFunc]):=⟨by kernel_rfl,by rfl,by decide,by decide⟩
instance:bP Tryz.prog 123 [(0,1)] [.nilFunc]:=⟨by kernel_rfl,by kernel_rfl,by rfl⟩
instance:fU Tryz.prog 123 0 0 89:=⟨by kernel_rfl⟩
instance:jr Tryz.prog 124 1:=⟨by kernel_rfl,by kernel_rfl⟩
instance:fP Tryz.prog 124:=⟨fun w=>⟨0,jr.size (T:=124) (n:=1) w⟩⟩
instance:ax Tryz.prog 124 (.agg #[.nilFunc]):=⟨by kernel_rfl⟩
instance:aL Tryz.prog 124 1 8 (.agg #[.nilFunc]):=⟨by kernel_rfl,by rfl,by decide,by decide⟩
instance:bP Tryz.prog 124 [(0,1)] [.nilFunc]:=⟨by kernel_rfl,by kernel_rfl,by rfl⟩
instance:fU Tryz.prog 124 0 0 89:=⟨by kernel_rfl⟩
instance:bX Tryz.prog 125:=⟨by kernel_rfl,by kernel_rfl⟩
instance:ax Tryz.prog 125 (.nilFunc):=⟨by kernel_rfl⟩
instance:aL Tryz.prog 125 1 8 (.nilFunc):=⟨by kernel_rfl,by rfl,by decide,by decide⟩
instance:bX Tryz.prog 126:=⟨by kernel_rfl,by kernel_rfl⟩
instance:ax Tryz.prog 126 (.nilFunc):=⟨by kernel_rfl⟩
instance:aL Tryz.prog 126 1 8 (.nilFunc):=⟨by kernel_rfl,by rfl,by decide,by decide⟩
instance:bX Tryz.prog 127:=⟨by kernel_rfl,by kernel_rfl⟩
instance:ax Tryz.prog 127 (.nilFunc):=⟨by kernel_rfl⟩
instance:aL Tryz.prog 127 1 8 (.nilFunc):=⟨by kernel_rfl,by rfl,by decide,by decide⟩
instance:iV Tryz.prog 128 .u64:=⟨by kernel_rfl⟩
instance:bX Tryz.prog 128:=⟨by kernel_rfl,by kernel_rfl⟩
instance:ax Tryz.prog 128 (.int .u64 0):=⟨by kernel_rfl⟩
instance:aL Tryz.prog 128 1 8 (.int .u64 0):=⟨by kernel_rfl,by rfl,by decide,by decide⟩
instance:bX Tryz.prog 129:=⟨by kernel_rfl,by kernel_rfl⟩
instance:ax Tryz.prog 129 (.nilFunc):=⟨by kernel_rfl⟩
instance:aL Tryz.prog 129 1 8 (.nilFunc):=⟨by kernel_rfl,by rfl,by decide,by decide⟩
instance:iV Tryz.prog 130 .u32:=⟨by kernel_rfl⟩
instance:bX Tryz.prog 130:=⟨by kernel_rfl,by kernel_rfl⟩
instance:ax Tryz.prog 130 (.int .u32 0):=⟨by kernel_rfl⟩
instance:aL Tryz.prog 130 1 4 (.int .u32 0):=⟨by kernel_rfl,by rfl,by decide,by decide⟩
instance:bX Tryz.prog 131:=⟨by kernel_rfl,by kernel_rfl⟩
instance:ax Tryz.prog 131 (.nilFunc):=⟨by kernel_rfl⟩
instance:aL Tryz.prog 131 1 8 (.nilFunc):=⟨by kernel_rfl,by rfl,by decide,by decide⟩
instance:bX Tryz.prog 132:=⟨by kernel_rfl,by kernel_rfl⟩
instance:ax Tryz.prog 132 (.nilFunc):=⟨by kernel_rfl⟩
instance:aL Tryz.prog 132 1 8 (.nilFunc):=⟨by kernel_rfl,by rfl,by decide,by decide⟩
instance:bX Tryz.prog 133:=⟨by kernel_rfl,by kernel_rfl⟩
instance:ax Tryz.prog 133 (.nilFunc):=⟨by kernel_rfl⟩
instance:aL Tryz.prog 133 1 8 (.nilFunc):=⟨by kernel_rfl,by rfl,by decide,by decide⟩
instance:bX Tryz.prog 134:=⟨by kernel_rfl,by kernel_rfl⟩
instance:ax Tryz.prog 134 (.nilFunc):=⟨by kernel_rfl⟩
instance:aL Tryz.prog 134 1 8 (.nilFunc):=⟨by kernel_rfl,by rfl,by decide,by decide⟩
instance:bX Tryz.prog 136:=⟨by kernel_rfl,by kernel_rfl⟩
instance:ax Tryz.prog 136 (.nilFunc):=⟨by kernel_rfl⟩
instance:aL Tryz.prog 136 1 8 (.nilFunc):=⟨by kernel_rfl,by rfl,by decide,by decide⟩
instance:bX Tryz.prog 137:=⟨by kernel_rfl,by kernel_rfl⟩
instance:ax Tryz.prog 137 (.nilFunc):=⟨by kernel_rfl⟩
instance:aL Tryz.prog 137 1 8 (.nilFunc):=⟨by kernel_rfl,by rfl,by decide,by decide⟩
instance:bX Tryz.prog 138:=⟨by kernel_rfl,by kernel_rfl⟩
instance:ax Tryz.prog 138 (.nilFunc):=⟨by kernel_rfl⟩
instance:aL Tryz.prog 138 1 8 (.nilFunc):=⟨by kernel_rfl,by rfl,by decide,by decide⟩
instance:bX Tryz.prog 140:=⟨by kernel_rfl,by kernel_rfl⟩
instance:ax Tryz.prog 140 (.nilFunc):=⟨by kernel_rfl⟩
instance:aL Tryz.prog 140 1 8 (.nilFunc):=⟨by kernel_rfl,by rfl,by decide,by decide⟩
instance:bX Tryz.prog 141:=⟨by kernel_rfl,by kernel_rfl⟩
instance:ax Tryz.prog 141 (.nilFunc):=⟨by kernel_rfl⟩
instance:aL Tryz.prog 141 1 8 (.nilFunc):=⟨by kernel_rfl,by rfl,by decide,by decide⟩
instance:bX Tryz.prog 142:=⟨by kernel_rfl,by kernel_rfl⟩
instance:ax Tryz.prog 142 (.nilFunc):=⟨by kernel_rfl⟩
instance:aL Tryz.prog 142 1 8 (.nilFunc):=⟨by kernel_rfl,by rfl,by decide,by decide⟩
instance:bX Tryz.prog 143:=⟨by kernel_rfl,by kernel_rfl⟩
instance:ax Tryz.prog 143 (.nilFunc):=⟨by kernel_rfl⟩
instance:aL Tryz.prog 143 1 8 (.nilFunc):=⟨by kernel_rfl,by rfl,by decide,by decide⟩
instance:bX Tryz.prog 144:=⟨by kernel_rfl,by kernel_rfl⟩
instance:ax Tryz.prog 144 (.nilFunc):=⟨by kernel_rfl⟩
instance:aL Tryz.prog 144 1 8 (.nilFunc):=⟨by kernel_rfl,by rfl,by decide,by decide⟩
instance:bX Tryz.prog 145:=⟨by kernel_rfl,by kernel_rfl⟩
instance:ax Tryz.prog 145 (.nilFunc):=⟨by kernel_rfl⟩
instance:aL Tryz.prog 145 1 8 (.nilFunc):=⟨by kernel_rfl,by rfl,by decide,by decide⟩
instance:bX Tryz.prog 146:=⟨by kernel_rfl,by kernel_rfl⟩
instance:ax Tryz.prog 146 (.nilFunc):=⟨by kernel_rfl⟩
instance:aL Tryz.prog 146 1 8 (.nilFunc):=⟨by kernel_rfl,by rfl,by decide,by decide⟩
instance:bX Tryz.prog 147:=⟨by kernel_rfl,by kernel_rfl⟩
instance:ax Tryz.prog 147 (.nilFunc):=⟨by kernel_rfl⟩
instance:aL Tryz.prog 147 1 8 (.nilFunc):=⟨by kernel_rfl,by rfl,by decide,by decide⟩
instance:bX Tryz.prog 149:=⟨by kernel_rfl,by kernel_rfl⟩
instance:ax Tryz.prog 149 (.nilFunc):=⟨by kernel_rfl⟩
instance:aL Tryz.prog 149 1 8 (.nilFunc):=⟨by kernel_rfl,by rfl,by decide,by decide⟩
instance:bX Tryz.prog 150:=⟨by kernel_rfl,by kernel_rfl⟩
instance:ax Tryz.prog 150 (.nilFunc):=⟨by kernel_rfl⟩
instance:aL Tryz.prog 150 1 8 (.nilFunc):=⟨by kernel_rfl,by rfl,by decide,by decide⟩
instance:bX Tryz.prog 151:=⟨by kernel_rfl,by kernel_rfl⟩
instance:ax Tryz.prog 151 (.nilFunc):=⟨by kernel_rfl⟩
instance:aL Tryz.prog 151 1 8 (.nilFunc):=⟨by kernel_rfl,by rfl,by decide,by decide⟩
instance:bX Tryz.prog 152:=⟨by kernel_rfl,by kernel_rfl⟩
instance:ax Tryz.prog 152 (.nilFunc):=⟨by kernel_rfl⟩
instance:aL Tryz.prog 152 1 8 (.nilFunc):=⟨by kernel_rfl,by rfl,by decide,by decide⟩
instance:bX Tryz.prog 153:=⟨by kernel_rfl,by kernel_rfl⟩
instance:ax Tryz.prog 153 (.nilFunc):=⟨by kernel_rfl⟩
instance:aL Tryz.prog 153 1 8 (.nilFunc):=⟨by kernel_rfl,by rfl,by decide,by decide⟩
instance:bX Tryz.prog 154:=⟨by kernel_rfl,by kernel_rfl⟩
instance:ax Tryz.prog 154 (.nilFunc):=⟨by kernel_rfl⟩
instance:aL Tryz.prog 154 1 8 (.nilFunc):=⟨by kernel_rfl,by rfl,by decide,by decide⟩
instance:bX Tryz.prog 155:=⟨by kernel_rfl,by kernel_rfl⟩
instance:ax Tryz.prog 155 (.slice none 0 0):=⟨by kernel_rfl⟩
instance:aL Tryz.prog 155 1 24 (.slice none 0 0):=⟨by kernel_rfl,by rfl,by decide,by decide⟩
instance:eK Tryz.prog 155 22 1:=⟨by kernel_rfl,by kernel_rfl⟩
instance:bX Tryz.prog 156:=⟨by kernel_rfl,by kernel_rfl⟩
instance:ax Tryz.prog 156 (.slice none 0 0):=⟨by kernel_rfl⟩
instance:aL Tryz.prog 156 1 24 (.slice none 0 0):=⟨by kernel_rfl,by rfl,by decide,by decide⟩
instance:eK Tryz.prog 156 117 1:=⟨by kernel_rfl,by kernel_rfl⟩
instance:bX Tryz.prog 157:=⟨by kernel_rfl,by kernel_rfl⟩
instance:ax Tryz.prog 157 (.nilFunc):=⟨by kernel_rfl⟩
instance:aL Tryz.prog 157 1 8 (.nilFunc):=⟨by kernel_rfl,by rfl,by decide,by decide⟩
instance:bX Tryz.prog 158:=⟨by kernel_rfl,by kernel_rfl⟩
instance:ax Tryz.prog 158 (.nilFunc):=⟨by kernel_rfl⟩
instance:aL Tryz.prog 158 1 8 (.nilFunc):=⟨by kernel_rfl,by rfl,by decide,by decide⟩
instance:bX Tryz.prog 159:=⟨by kernel_rfl,by kernel_rfl⟩
instance:ax Tryz.prog 159 (.nilFunc):=⟨by kernel_rfl⟩
instance:aL Tryz.prog 159 1 8 (.nilFunc):=⟨by kernel_rfl,by rfl,by decide,by decide⟩
instance:bX Tryz.prog 160:=⟨by kernel_rfl,by kernel_rfl⟩
instance:ax Tryz.prog 160 (.nilFunc):=⟨by kernel_rfl⟩
instance:aL Tryz.prog 160 1 8 (.nilFunc):=⟨by kernel_rfl,by rfl,by decide,by decide⟩
instance:bX Tryz.prog 161:=⟨by kernel_rfl,by kernel_rfl⟩
instance:ax Tryz.prog 161 (.nilFunc):=⟨by kernel_rfl⟩
instance:aL Tryz.prog 161 1 8 (.nilFunc):=⟨by kernel_rfl,by rfl,by decide,by decide⟩
instance:bX Tryz.prog 162:=⟨by kernel_rfl,by kernel_rfl⟩
instance:ax Tryz.prog 162 (.nilFunc):=⟨by kernel_rfl⟩
instance:aL Tryz.prog 162 1 8 (.nilFunc):=⟨by kernel_rfl,by rfl,by decide,by decide⟩
instance:bX Tryz.prog 164:=⟨by kernel_rfl,by kernel_rfl⟩
instance:ax Tryz.prog 164 (.nilFunc):=⟨by kernel_rfl⟩
instance:aL Tryz.prog 164 1 8 (.nilFunc):=⟨by kernel_rfl,by rfl,by decide,by decide⟩
instance:bX Tryz.prog 165:=⟨by kernel_rfl,by kernel_rfl⟩
instance:ax Tryz.prog 165 (.nilFunc):=⟨by kernel_rfl⟩
instance:aL Tryz.prog 165 1 8 (.nilFunc):=⟨by kernel_rfl,by rfl,by decide,by decide⟩
instance:bX Tryz.prog 166:=⟨by kernel_rfl,by kernel_rfl⟩
instance:ax Tryz.prog 166 (.nilFunc):=⟨by kernel_rfl⟩
instance:aL Tryz.prog 166 1 8 (.nilFunc):=⟨by kernel_rfl,by rfl,by decide,by decide⟩
instance:bX Tryz.prog 167:=⟨by kernel_rfl,by kernel_rfl⟩
instance:ax Tryz.prog 167 (.slice none 0 0):=⟨by kernel_rfl⟩
instance:aL Tryz.prog 167 1 24 (.slice none 0 0):=⟨by kernel_rfl,by rfl,by decide,by decide⟩
instance:eK Tryz.prog 167 41 2:=⟨by kernel_rfl,by kernel_rfl⟩
instance:bX Tryz.prog 168:=⟨by kernel_rfl,by kernel_rfl⟩
instance:ax Tryz.prog 168 (.nilFunc):=⟨by kernel_rfl⟩
instance:aL Tryz.prog 168 1 8 (.nilFunc):=⟨by kernel_rfl,by rfl,by decide,by decide⟩
instance:bX Tryz.prog 169:=⟨by kernel_rfl,by kernel_rfl⟩
instance:ax Tryz.prog 169 (.nilFunc):=⟨by kernel_rfl⟩
instance:aL Tryz.prog 169 1 8 (.nilFunc):=⟨by kernel_rfl,by rfl,by decide,by decide⟩
instance:bX Tryz.prog 170:=⟨by kernel_rfl,by kernel_rfl⟩
instance:ax Tryz.prog 170 (.nilFunc):=⟨by kernel_rfl⟩
instance:aL Tryz.prog 170 1 8 (.nilFunc):=⟨by kernel_rfl,by rfl,by decide,by decide⟩
instance:bX Tryz.prog 171:=⟨by kernel_rfl,by kernel_rfl⟩
instance:ax Tryz.prog 171 (.nilFunc):=⟨by kernel_rfl⟩
instance:aL Tryz.prog 171 1 8 (.nilFunc):=⟨by kernel_rfl,by rfl,by decide,by decide⟩
instance:bX Tryz.prog 173:=⟨by kernel_rfl,by kernel_rfl⟩
instance:ax Tryz.prog 173 (.nilFunc):=⟨by kernel_rfl⟩
instance:aL Tryz.prog 173 1 8 (.nilFunc):=⟨by kernel_rfl,by rfl,by decide,by decide⟩
instance:bX Tryz.prog 174:=⟨by kernel_rfl,by kernel_rfl⟩
instance:ax Tryz.prog 174 (.nilFunc):=⟨by kernel_rfl⟩
instance:aL Tryz.prog 174 1 8 (.nilFunc):=⟨by kernel_rfl,by rfl,by decide,by decide⟩
instance:jr Tryz.prog 175 1:=⟨by kernel_rfl,by kernel_rfl⟩
instance:fP Tryz.prog 175:=⟨fun w=>⟨0,jr.size (T:=175) (n:=1) w⟩⟩
instance:ax Tryz.prog 175 (.agg #[.nilFunc]):=⟨by kernel_rfl⟩
instance:aL Tryz.prog 175 1 8 (.agg #[.nilFunc]):=⟨by kernel_rfl,by rfl,by decide,by decide⟩
instance:bP Tryz.prog 175 [(0,1)] [.nilFunc]:=⟨by kernel_rfl,by kernel_rfl,by rfl⟩
instance:fU Tryz.prog 175 0 0 174:=⟨by kernel_rfl⟩
instance:jr Tryz.prog 176 1:=⟨by kernel_rfl,by kernel_rfl⟩
instance:fP Tryz.prog 176:=⟨fun w=>⟨0,jr.size (T:=176) (n:=1) w⟩⟩
instance:ax Tryz.prog 176 (.agg #[.nilFunc]):=⟨by kernel_rfl⟩
instance:aL Tryz.prog 176 1 8 (.agg #[.nilFunc]):=⟨by kernel_rfl,by rfl,by decide,by decide⟩
instance:bP Tryz.prog 176 [(0,1)] [.nilFunc]:=⟨by kernel_rfl,by kernel_rfl,by rfl⟩
instance:fU Tryz.prog 176 0 0 174:=⟨by kernel_rfl⟩
instance:bX Tryz.prog 177:=⟨by kernel_rfl,by kernel_rfl⟩
instance:ax Tryz.prog 177 (.map none):=⟨by kernel_rfl⟩
instance:aL Tryz.prog 177 1 8 (.map none):=⟨by kernel_rfl,by rfl,by decide,by decide⟩
instance:Ma Tryz.prog 177 5 176:=⟨by kernel_rfl⟩
instance:bX Tryz.prog 178:=⟨by kernel_rfl,by kernel_rfl⟩
instance:ax Tryz.prog 178 (.nilFunc):=⟨by kernel_rfl⟩
instance:aL Tryz.prog 178 1 8 (.nilFunc):=⟨by kernel_rfl,by rfl,by decide,by decide⟩
instance:iV Tryz.prog 179 .u64:=⟨by kernel_rfl⟩
instance:bX Tryz.prog 179:=⟨by kernel_rfl,by kernel_rfl⟩
instance:ax Tryz.prog 179 (.int .u64 0):=⟨by kernel_rfl⟩
instance:aL Tryz.prog 179 1 8 (.int .u64 0):=⟨by kernel_rfl,by rfl,by decide,by decide⟩
instance:bX Tryz.prog 181:=⟨by kernel_rfl,by kernel_rfl⟩
instance:ax Tryz.prog 181 (.nilFunc):=⟨by kernel_rfl⟩
instance:aL Tryz.prog 181 1 8 (.nilFunc):=⟨by kernel_rfl,by rfl,by decide,by decide⟩
instance:bX Tryz.prog 182:=⟨by kernel_rfl,by kernel_rfl⟩
instance:ax Tryz.prog 182 (.nilFunc):=⟨by kernel_rfl⟩
instance:aL Tryz.prog 182 1 8 (.nilFunc):=⟨by kernel_rfl,by rfl,by decide,by decide⟩
instance:bX Tryz.prog 183:=⟨by kernel_rfl,by kernel_rfl⟩
instance:ax Tryz.prog 183 (.nilFunc):=⟨by kernel_rfl⟩
instance:aL Tryz.prog 183 1 8 (.nilFunc):=⟨by kernel_rfl,by rfl,by decide,by decide⟩
instance:bX Tryz.prog 184:=⟨by kernel_rfl,by kernel_rfl⟩
instance:ax Tryz.prog 184 (.nilFunc):=⟨by kernel_rfl⟩
instance:aL Tryz.prog 184 1 8 (.nilFunc):=⟨by kernel_rfl,by rfl,by decide,by decide⟩
instance:bX Tryz.prog 185:=⟨by kernel_rfl,by kernel_rfl⟩
instance:ax Tryz.prog 185 (.nilFunc):=⟨by kernel_rfl⟩
instance:aL Tryz.prog 185 1 8 (.nilFunc):=⟨by kernel_rfl,by rfl,by decide,by decide⟩
instance:bX Tryz.prog 186:=⟨by kernel_rfl,by kernel_rfl⟩
instance:ax Tryz.prog 186 (.nilFunc):=⟨by kernel_rfl⟩
instance:aL Tryz.prog 186 1 8 (.nilFunc):=⟨by kernel_rfl,by rfl,by decide,by decide⟩
instance:bX Tryz.prog 187:=⟨by kernel_rfl,by kernel_rfl⟩
instance:ax Tryz.prog 187 (.nilFunc):=⟨by kernel_rfl⟩
instance:aL Tryz.prog 187 1 8 (.nilFunc):=⟨by kernel_rfl,by rfl,by decide,by decide⟩
instance:bX Tryz.prog 189:=⟨by kernel_rfl,by kernel_rfl⟩
instance:ax Tryz.prog 189 (.nilFunc):=⟨by kernel_rfl⟩
instance:aL Tryz.prog 189 1 8 (.nilFunc):=⟨by kernel_rfl,by rfl,by decide,by decide⟩
instance:bX Tryz.prog 191:=⟨by kernel_rfl,by kernel_rfl⟩
instance:ax Tryz.prog 191 (.nilFunc):=⟨by kernel_rfl⟩
instance:aL Tryz.prog 191 1 8 (.nilFunc):=⟨by kernel_rfl,by rfl,by decide,by decide⟩
instance:bX Tryz.prog 192:=⟨by kernel_rfl,by kernel_rfl⟩
instance:ax Tryz.prog 192 (.nilFunc):=⟨by kernel_rfl⟩
instance:aL Tryz.prog 192 1 8 (.nilFunc):=⟨by kernel_rfl,by rfl,by decide,by decide⟩
instance:bX Tryz.prog 193:=⟨by kernel_rfl,by kernel_rfl⟩
instance:ax Tryz.prog 193 (.nilFunc):=⟨by kernel_rfl⟩
instance:aL Tryz.prog 193 1 8 (.nilFunc):=⟨by kernel_rfl,by rfl,by decide,by decide⟩
instance:bX Tryz.prog 194:=⟨by kernel_rfl,by kernel_rfl⟩
instance:ax Tryz.prog 194 (.nilFunc):=⟨by kernel_rfl⟩
instance:aL Tryz.prog 194 1 8 (.nilFunc):=⟨by kernel_rfl,by rfl,by decide,by decide⟩
instance:bX Tryz.prog 195:=⟨by kernel_rfl,by kernel_rfl⟩
instance:ax Tryz.prog 195 (.nilFunc):=⟨by kernel_rfl⟩
instance:aL Tryz.prog 195 1 8 (.nilFunc):=⟨by kernel_rfl,by rfl,by decide,by decide⟩
instance:bX Tryz.prog 196:=⟨by kernel_rfl,by kernel_rfl⟩
instance:ax Tryz.prog 196 (.nilFunc):=⟨by kernel_rfl⟩
instance:aL Tryz.prog 196 1 8 (.nilFunc):=⟨by kernel_rfl,by rfl,by decide,by decide⟩
instance:bX Tryz.prog 197:=⟨by kernel_rfl,by kernel_rfl⟩
instance:ax Tryz.prog 197 (.nilFunc):=⟨by kernel_rfl⟩
instance:aL Tryz.prog 197 1 8 (.nilFunc):=⟨by kernel_rfl,by rfl,by decide,by decide⟩
instance:bX Tryz.prog 198:=⟨by kernel_rfl,by kernel_rfl⟩
instance:ax Tryz.prog 198 (.nilFunc):=⟨by kernel_rfl⟩
instance:aL Tryz.prog 198 1 8 (.nilFunc):=⟨by kernel_rfl,by rfl,by decide,by decide⟩
instance:bX Tryz.prog 199:=⟨by kernel_rfl,by kernel_rfl⟩
instance:ax Tryz.prog 199 (.nilFunc):=⟨by kernel_rfl⟩
instance:aL Tryz.prog 199 1 8 (.nilFunc):=⟨by kernel_rfl,by rfl,by decide,by decide⟩
instance:bX Tryz.prog 200:=⟨by kernel_rfl,by kernel_rfl⟩
instance:ax Tryz.prog 200 (.nilFunc):=⟨by kernel_rfl⟩
instance:aL Tryz.prog 200 1 8 (.nilFunc):=⟨by kernel_rfl,by rfl,by decide,by decide⟩
instance:bX Tryz.prog 201:=⟨by kernel_rfl,by kernel_rfl⟩
instance:ax Tryz.prog 201 (.nilFunc):=⟨by kernel_rfl⟩
instance:aL Tryz.prog 201 1 8 (.nilFunc):=⟨by kernel_rfl,by rfl,by decide,by decide⟩
instance:bX Tryz.prog 202:=⟨by kernel_rfl,by kernel_rfl⟩
instance:ax Tryz.prog 202 (.nilFunc):=⟨by kernel_rfl⟩
instance:aL Tryz.prog 202 1 8 (.nilFunc):=⟨by kernel_rfl,by rfl,by decide,by decide⟩
instance:bX Tryz.prog 203:=⟨by kernel_rfl,by kernel_rfl⟩
instance:ax Tryz.prog 203 (.nilFunc):=⟨by kernel_rfl⟩
instance:aL Tryz.prog 203 1 8 (.nilFunc):=⟨by kernel_rfl,by rfl,by decide,by decide⟩
instance:bX Tryz.prog 204:=⟨by kernel_rfl,by kernel_rfl⟩
instance:ax Tryz.prog 204 (.nilFunc):=⟨by kernel_rfl⟩
instance:aL Tryz.prog 204 1 8 (.nilFunc):=⟨by kernel_rfl,by rfl,by decide,by decide⟩
instance:bX Tryz.prog 205:=⟨by kernel_rfl,by kernel_rfl⟩
instance:ax Tryz.prog 205 (.nilFunc):=⟨by kernel_rfl⟩
instance:aL Tryz.prog 205 1 8 (.nilFunc):=⟨by kernel_rfl,by rfl,by decide,by decide⟩
instance:bX Tryz.prog 206:=⟨by kernel_rfl,by kernel_rfl⟩
instance:ax Tryz.prog 206 (.nilFunc):=⟨by kernel_rfl⟩
instance:aL Tryz.prog 206 1 8 (.nilFunc):=⟨by kernel_rfl,by rfl,by decide,by decide⟩
instance:bX Tryz.prog 207:=⟨by kernel_rfl,by kernel_rfl⟩
instance:ax Tryz.prog 207 (.nilFunc):=⟨by kernel_rfl⟩
instance:aL Tryz.prog 207 1 8 (.nilFunc):=⟨by kernel_rfl,by rfl,by decide,by decide⟩
instance:jr Tryz.prog 208 4:=⟨by kernel_rfl,by kernel_rfl⟩
instance:fP Tryz.prog 208:=⟨fun w=>⟨3,jr.size (T:=208) (n:=4) w⟩⟩
instance:ax Tryz.prog 208 (.agg #[.pointer none,.pointer none,.pointer none,.string (ByteArray.mk #[])]):=⟨by kernel_rfl⟩
instance:aL Tryz.prog 208 4 40 (.agg #[.pointer none,.pointer none,.pointer none,.string (ByteArray.mk #[])]):=⟨by kernel_rfl,by rfl,by decide,by decide⟩
instance:bP Tryz.prog 208 [(0,1),(1,1),(2,1),(3,1)] [.pointer none,.pointer none,.pointer none,.string (ByteArray.mk #[])]:=⟨by kernel_rfl,by kernel_rfl,by rfl⟩
instance:fU Tryz.prog 208 0 0 17:=⟨by kernel_rfl⟩
instance:fU Tryz.prog 208 1 1 17:=⟨by kernel_rfl⟩
instance:fU Tryz.prog 208 2 2 17:=⟨by kernel_rfl⟩
instance:fU Tryz.prog 208 3 3 9:=⟨by kernel_rfl⟩
instance:jr Tryz.prog 209 4:=⟨by kernel_rfl,by kernel_rfl⟩
instance:fP Tryz.prog 209:=⟨fun w=>⟨3,jr.size (T:=209) (n:=4) w⟩⟩
instance:ax Tryz.prog 209 (.agg #[.pointer none,.pointer none,.pointer none,.string (ByteArray.mk #[])]):=⟨by kernel_rfl⟩
instance:aL Tryz.prog 209 4 40 (.agg #[.pointer none,.pointer none,.pointer none,.string (ByteArray.mk #[])]):=⟨by kernel_rfl,by rfl,by decide,by decide⟩
instance:bP Tryz.prog 209 [(0,1),(1,1),(2,1),(3,1)] [.pointer none,.pointer none,.pointer none,.string (ByteArray.mk #[])]:=⟨by kernel_rfl,by kernel_rfl,by rfl⟩
instance:fU Tryz.prog 209 0 0 17:=⟨by kernel_rfl⟩
instance:fU Tryz.prog 209 1 1 17:=⟨by kernel_rfl⟩
instance:fU Tryz.prog 209 2 2 17:=⟨by kernel_rfl⟩
instance:fU Tryz.prog 209 3 3 9:=⟨by kernel_rfl⟩
instance:jr Tryz.prog 210 0:=⟨by kernel_rfl,by kernel_rfl⟩
instance:ax Tryz.prog 210 (.agg #[]):=⟨by kernel_rfl⟩
instance:jr Tryz.prog 211 0:=⟨by kernel_rfl,by kernel_rfl⟩
instance:ax Tryz.prog 211 (.agg #[]):=⟨by kernel_rfl⟩
instance:bP Tryz.prog 211 [(0,0)] []:=⟨by kernel_rfl,by kernel_rfl,by rfl⟩
instance:fU Tryz.prog 211 0 0 210:=⟨by kernel_rfl⟩
instance:jr Tryz.prog 212 0:=⟨by kernel_rfl,by kernel_rfl⟩
instance:ax Tryz.prog 212 (.agg #[]):=⟨by kernel_rfl⟩
instance:bP Tryz.prog 212 [(0,0)] []:=⟨by kernel_rfl,by kernel_rfl,by rfl⟩
instance:fU Tryz.prog 212 0 0 210:=⟨by kernel_rfl⟩
instance:iV Tryz.prog 213 .u8:=⟨by kernel_rfl⟩
instance:bX Tryz.prog 213:=⟨by kernel_rfl,by kernel_rfl⟩
instance:ax Tryz.prog 213 (.int .u8 0):=⟨by kernel_rfl⟩
instance:aL Tryz.prog 213 1 1 (.int .u8 0):=⟨by kernel_rfl,by rfl,by decide,by decide⟩
instance:iV Tryz.prog 214 .u8:=⟨by kernel_rfl⟩
instance:bX Tryz.prog 214:=⟨by kernel_rfl,by kernel_rfl⟩
instance:ax Tryz.prog 214 (.int .u8 0):=⟨by kernel_rfl⟩
instance:aL Tryz.prog 214 1 1 (.int .u8 0):=⟨by kernel_rfl,by rfl,by decide,by decide⟩
instance:bX Tryz.prog 215:=⟨by kernel_rfl,by kernel_rfl⟩
instance:ax Tryz.prog 215 (.nilFunc):=⟨by kernel_rfl⟩
instance:aL Tryz.prog 215 1 8 (.nilFunc):=⟨by kernel_rfl,by rfl,by decide,by decide⟩
instance:bX Tryz.prog 216:=⟨by kernel_rfl,by kernel_rfl⟩
instance:ax Tryz.prog 216 (.pointer none):=⟨by kernel_rfl⟩
instance:aL Tryz.prog 216 1 8 (.pointer none):=⟨by kernel_rfl,by rfl,by decide,by decide⟩
instance:iV Tryz.prog 217 .i32:=⟨by kernel_rfl⟩
instance:bX Tryz.prog 217:=⟨by kernel_rfl,by kernel_rfl⟩
instance:ax Tryz.prog 217 (.int .i32 0):=⟨by kernel_rfl⟩
instance:aL Tryz.prog 217 1 4 (.int .i32 0):=⟨by kernel_rfl,by rfl,by decide,by decide⟩
instance:iV Tryz.prog 218 .i32:=⟨by kernel_rfl⟩
instance:bX Tryz.prog 218:=⟨by kernel_rfl,by kernel_rfl⟩
instance:ax Tryz.prog 218 (.int .i32 0):=⟨by kernel_rfl⟩
instance:aL Tryz.prog 218 1 4 (.int .i32 0):=⟨by kernel_rfl,by rfl,by decide,by decide⟩
instance:jr Tryz.prog 219 11:=⟨by kernel_rfl,by kernel_rfl⟩
instance:fP Tryz.prog 219:=⟨fun w=>⟨10,jr.size (T:=219) (n:=11) w⟩⟩
instance:ax Tryz.prog 219 (.agg #[.int .u64 0,.int .u64 0,.int .u32 0,.int .u8 0,.int .u8 0,.int .u8 0,.int .u8 0,.nilFunc,.pointer none,.int .i32 0,.int .i32 0]):=⟨by kernel_rfl⟩
instance:aL Tryz.prog 219 11 48 (.agg #[.int .u64 0,.int .u64 0,.int .u32 0,.int .u8 0,.int .u8 0,.int .u8 0,.int .u8 0,.nilFunc,.pointer none,.int .i32 0,.int .i32 0]):=⟨by kernel_rfl,by rfl,by decide,by decide⟩
instance:bP Tryz.prog 219 [(0,1),(1,1),(2,1),(3,1),(4,1),(5,1),(6,1),(7,1),(8,1),(9,1),(10,1)] [.int .u64 0,.int .u64 0,.int .u32 0,.int .u8 0,.int .u8 0,.int .u8 0,.int .u8 0,.nilFunc,.pointer none,.int .i32 0,.int .i32 0]:=⟨by kernel_rfl,by kernel_rfl,by rfl⟩
instance:fU Tryz.prog 219 0 0 12:=⟨by kernel_rfl⟩
instance:fU Tryz.prog 219 1 1 12:=⟨by kernel_rfl⟩
instance:fU Tryz.prog 219 2 2 130:=⟨by kernel_rfl⟩
instance:fU Tryz.prog 219 3 3 213:=⟨by kernel_rfl⟩
instance:fU Tryz.prog 219 4 4 5:=⟨by kernel_rfl⟩
instance:fU Tryz.prog 219 5 5 5:=⟨by kernel_rfl⟩
instance:fU Tryz.prog 219 6 6 214:=⟨by kernel_rfl⟩
instance:fU Tryz.prog 219 7 7 215:=⟨by kernel_rfl⟩
instance:fU Tryz.prog 219 8 8 216:=⟨by kernel_rfl⟩
instance:fU Tryz.prog 219 9 9 217:=⟨by kernel_rfl⟩
instance:fU Tryz.prog 219 10 10 218:=⟨by kernel_rfl⟩
instance:jr Tryz.prog 220 11:=⟨by kernel_rfl,by kernel_rfl⟩
instance:fP Tryz.prog 220:=⟨fun w=>⟨10,jr.size (T:=220) (n:=11) w⟩⟩
instance:ax Tryz.prog 220 (.agg #[.int .u64 0,.int .u64 0,.int .u32 0,.int .u8 0,.int .u8 0,.int .u8 0,.int .u8 0,.nilFunc,.pointer none,.int .i32 0,.int .i32 0]):=⟨by kernel_rfl⟩
instance:aL Tryz.prog 220 11 48 (.agg #[.int .u64 0,.int .u64 0,.int .u32 0,.int .u8 0,.int .u8 0,.int .u8 0,.int .u8 0,.nilFunc,.pointer none,.int .i32 0,.int .i32 0]):=⟨by kernel_rfl,by rfl,by decide,by decide⟩
instance:bP Tryz.prog 220 [(0,1),(1,1),(2,1),(3,1),(4,1),(5,1),(6,1),(7,1),(8,1),(9,1),(10,1)] [.int .u64 0,.int .u64 0,.int .u32 0,.int .u8 0,.int .u8 0,.int .u8 0,.int .u8 0,.nilFunc,.pointer none,.int .i32 0,.int .i32 0]:=⟨by kernel_rfl,by kernel_rfl,by rfl⟩
instance:fU Tryz.prog 220 0 0 12:=⟨by kernel_rfl⟩
instance:fU Tryz.prog 220 1 1 12:=⟨by kernel_rfl⟩
instance:fU Tryz.prog 220 2 2 130:=⟨by kernel_rfl⟩
instance:fU Tryz.prog 220 3 3 213:=⟨by kernel_rfl⟩
instance:fU Tryz.prog 220 4 4 5:=⟨by kernel_rfl⟩
instance:fU Tryz.prog 220 5 5 5:=⟨by kernel_rfl⟩
instance:fU Tryz.prog 220 6 6 214:=⟨by kernel_rfl⟩
instance:fU Tryz.prog 220 7 7 215:=⟨by kernel_rfl⟩
instance:fU Tryz.prog 220 8 8 216:=⟨by kernel_rfl⟩
instance:fU Tryz.prog 220 9 9 217:=⟨by kernel_rfl⟩
instance:fU Tryz.prog 220 10 10 218:=⟨by kernel_rfl⟩
instance:bX Tryz.prog 221:=⟨by kernel_rfl,by kernel_rfl⟩
instance:ax Tryz.prog 221 (.pointer none):=⟨by kernel_rfl⟩
instance:aL Tryz.prog 221 1 8 (.pointer none):=⟨by kernel_rfl,by rfl,by decide,by decide⟩
instance:bF Tryz.prog 3:=⟨by kernel_rfl⟩
instance:bF Tryz.prog 4:=⟨by kernel_rfl⟩
instance:bF Tryz.prog 5:=⟨by kernel_rfl⟩
instance:bF Tryz.prog 6:=⟨by kernel_rfl⟩
instance:bF Tryz.prog 7:=⟨by kernel_rfl⟩
instance:bF Tryz.prog 8:=⟨by kernel_rfl⟩
instance:bF Tryz.prog 9:=⟨by kernel_rfl⟩
instance:bF Tryz.prog 10:=⟨by kernel_rfl⟩
instance:bF Tryz.prog 11:=⟨by kernel_rfl⟩
instance:bF Tryz.prog 12:=⟨by kernel_rfl⟩
instance:bF Tryz.prog 13:=⟨by kernel_rfl⟩
instance:bF Tryz.prog 14:=⟨by kernel_rfl⟩
instance:bF Tryz.prog 15:=⟨by kernel_rfl⟩
instance:bF Tryz.prog 16:=⟨by kernel_rfl⟩
instance:bF Tryz.prog 17:=⟨by kernel_rfl⟩
instance:bF Tryz.prog 18:=⟨by kernel_rfl⟩
instance:bF Tryz.prog 19:=⟨by kernel_rfl⟩
instance:bF Tryz.prog 20:=⟨by kernel_rfl⟩
instance:bF Tryz.prog 21:=⟨by kernel_rfl⟩
instance:bF Tryz.prog 22:=⟨by kernel_rfl⟩
instance:bF Tryz.prog 23:=⟨by kernel_rfl⟩
instance:bF Tryz.prog 24:=⟨by kernel_rfl⟩
instance:bF Tryz.prog 25:=⟨by kernel_rfl⟩
instance:bF Tryz.prog 26:=⟨by kernel_rfl⟩
instance:bF Tryz.prog 27:=⟨by kernel_rfl⟩
instance:bF Tryz.prog 28:=⟨by kernel_rfl⟩
instance:bF Tryz.prog 29:=⟨by kernel_rfl⟩
instance:bF Tryz.prog 30:=⟨by kernel_rfl⟩
instance:bF Tryz.prog 31:=⟨by kernel_rfl⟩
instance:bF Tryz.prog 32:=⟨by kernel_rfl⟩
instance:bF Tryz.prog 33:=⟨by kernel_rfl⟩
instance:bF Tryz.prog 34:=⟨by kernel_rfl⟩
instance:bF Tryz.prog 35:=⟨by kernel_rfl⟩
instance:bF Tryz.prog 36:=⟨by kernel_rfl⟩
instance:bF Tryz.prog 37:=⟨by kernel_rfl⟩
instance:bF Tryz.prog 38:=⟨by kernel_rfl⟩
instance:bF Tryz.prog 39:=⟨by kernel_rfl⟩
instance:bF Tryz.prog 40:=⟨by kernel_rfl⟩
instance:bF Tryz.prog 41:=⟨by kernel_rfl⟩
instance:bF Tryz.prog 42:=⟨by kernel_rfl⟩
instance:bF Tryz.prog 43:=⟨by kernel_rfl⟩
instance:bF Tryz.prog 44:=⟨by kernel_rfl⟩
instance:bF Tryz.prog 45:=⟨by kernel_rfl⟩
instance:bF Tryz.prog 46:=⟨by kernel_rfl⟩
instance:bF Tryz.prog 47:=⟨by kernel_rfl⟩
instance:bF Tryz.prog 48:=⟨by kernel_rfl⟩
instance:bF Tryz.prog 49:=⟨by kernel_rfl⟩
instance:bF Tryz.prog 50:=⟨by kernel_rfl⟩
instance:bF Tryz.prog 51:=⟨by kernel_rfl⟩
instance:bF Tryz.prog 52:=⟨by kernel_rfl⟩
instance:bF Tryz.prog 53:=⟨by kernel_rfl⟩
instance:bF Tryz.prog 54:=⟨by kernel_rfl⟩
instance:bF Tryz.prog 55:=⟨by kernel_rfl⟩
instance:bF Tryz.prog 56:=⟨by kernel_rfl⟩
instance:bF Tryz.prog 57:=⟨by kernel_rfl⟩
instance:bF Tryz.prog 58:=⟨by kernel_rfl⟩
instance:bF Tryz.prog 59:=⟨by kernel_rfl⟩
instance:bF Tryz.prog 60:=⟨by kernel_rfl⟩
instance:bF Tryz.prog 61:=⟨by kernel_rfl⟩
instance:bF Tryz.prog 62:=⟨by kernel_rfl⟩
instance:bF Tryz.prog 63:=⟨by kernel_rfl⟩
instance:bF Tryz.prog 64:=⟨by kernel_rfl⟩
instance:bF Tryz.prog 65:=⟨by kernel_rfl⟩
instance:bF Tryz.prog 66:=⟨by kernel_rfl⟩
instance:bF Tryz.prog 67:=⟨by kernel_rfl⟩
instance:bF Tryz.prog 68:=⟨by kernel_rfl⟩
instance:bF Tryz.prog 69:=⟨by kernel_rfl⟩
instance:bF Tryz.prog 70:=⟨by kernel_rfl⟩
instance:bF Tryz.prog 71:=⟨by kernel_rfl⟩
instance:bF Tryz.prog 72:=⟨by kernel_rfl⟩
instance:bF Tryz.prog 73:=⟨by kernel_rfl⟩
instance:bF Tryz.prog 74:=⟨by kernel_rfl⟩
instance:bF Tryz.prog 75:=⟨by kernel_rfl⟩
instance:bF Tryz.prog 76:=⟨by kernel_rfl⟩
instance:bF Tryz.prog 77:=⟨by kernel_rfl⟩
instance:bF Tryz.prog 78:=⟨by kernel_rfl⟩
instance:bF Tryz.prog 79:=⟨by kernel_rfl⟩
instance:bF Tryz.prog 80:=⟨by kernel_rfl⟩
instance:bF Tryz.prog 81:=⟨by kernel_rfl⟩
instance:bF Tryz.prog 82:=⟨by kernel_rfl⟩
instance:bF Tryz.prog 83:=⟨by kernel_rfl⟩
instance:bF Tryz.prog 84:=⟨by kernel_rfl⟩
instance:bF Tryz.prog 85:=⟨by kernel_rfl⟩
instance:bF Tryz.prog 86:=⟨by kernel_rfl⟩
instance:bF Tryz.prog 87:=⟨by kernel_rfl⟩
instance:bF Tryz.prog 88:=⟨by kernel_rfl⟩
instance:bF Tryz.prog 89:=⟨by kernel_rfl⟩
instance:bF Tryz.prog 90:=⟨by kernel_rfl⟩
instance:bF Tryz.prog 91:=⟨by kernel_rfl⟩
instance:bF Tryz.prog 92:=⟨by kernel_rfl⟩
instance:bF Tryz.prog 93:=⟨by kernel_rfl⟩
instance:bF Tryz.prog 94:=⟨by kernel_rfl⟩
instance:bF Tryz.prog 95:=⟨by kernel_rfl⟩
instance:bF Tryz.prog 96:=⟨by kernel_rfl⟩
instance:bF Tryz.prog 97:=⟨by kernel_rfl⟩
instance:bF Tryz.prog 98:=⟨by kernel_rfl⟩
instance:bF Tryz.prog 99:=⟨by kernel_rfl⟩
instance:bF Tryz.prog 100:=⟨by kernel_rfl⟩
instance:bF Tryz.prog 101:=⟨by kernel_rfl⟩
instance:bF Tryz.prog 102:=⟨by kernel_rfl⟩
instance:bF Tryz.prog 103:=⟨by kernel_rfl⟩
instance:bF Tryz.prog 104:=⟨by kernel_rfl⟩
instance:bF Tryz.prog 105:=⟨by kernel_rfl⟩
instance:bF Tryz.prog 106:=⟨by kernel_rfl⟩
instance:bF Tryz.prog 107:=⟨by kernel_rfl⟩
instance:bF Tryz.prog 108:=⟨by kernel_rfl⟩
instance:bF Tryz.prog 109:=⟨by kernel_rfl⟩
instance:bF Tryz.prog 110:=⟨by kernel_rfl⟩
instance:bF Tryz.prog 111:=⟨by kernel_rfl⟩
instance:bF Tryz.prog 112:=⟨by kernel_rfl⟩
instance:bF Tryz.prog 113:=⟨by kernel_rfl⟩
instance:bF Tryz.prog 114:=⟨by kernel_rfl⟩
instance:bF Tryz.prog 115:=⟨by kernel_rfl⟩
instance:bF Tryz.prog 116:=⟨by kernel_rfl⟩
instance:bF Tryz.prog 117:=⟨by kernel_rfl⟩
instance:bF Tryz.prog 118:=⟨by kernel_rfl⟩
instance:bF Tryz.prog 119:=⟨by kernel_rfl⟩
instance:bF Tryz.prog 120:=⟨by kernel_rfl⟩
instance:bF Tryz.prog 121:=⟨by kernel_rfl⟩
instance:bF Tryz.prog 122:=⟨by kernel_rfl⟩
instance:bF Tryz.prog 123:=⟨by kernel_rfl⟩
instance:bF Tryz.prog 124:=⟨by kernel_rfl⟩
instance:bF Tryz.prog 125:=⟨by kernel_rfl⟩
instance:bF Tryz.prog 126:=⟨by kernel_rfl⟩
instance:bF Tryz.prog 127:=⟨by kernel_rfl⟩
instance:bF Tryz.prog 128:=⟨by kernel_rfl⟩
instance:bF Tryz.prog 129:=⟨by kernel_rfl⟩
instance:bF Tryz.prog 130:=⟨by kernel_rfl⟩
instance:bF Tryz.prog 131:=⟨by kernel_rfl⟩
instance:bF Tryz.prog 132:=⟨by kernel_rfl⟩
instance:bF Tryz.prog 133:=⟨by kernel_rfl⟩
instance:bF Tryz.prog 134:=⟨by kernel_rfl⟩
instance:bF Tryz.prog 135:=⟨by kernel_rfl⟩
instance:bF Tryz.prog 136:=⟨by kernel_rfl⟩
instance:bF Tryz.prog 137:=⟨by kernel_rfl⟩
instance:bF Tryz.prog 138:=⟨by kernel_rfl⟩
instance:bF Tryz.prog 139:=⟨by kernel_rfl⟩
instance:bF Tryz.prog 140:=⟨by kernel_rfl⟩
instance:bF Tryz.prog 141:=⟨by kernel_rfl⟩
instance:bF Tryz.prog 142:=⟨by kernel_rfl⟩
instance:bF Tryz.prog 143:=⟨by kernel_rfl⟩
instance:bF Tryz.prog 144:=⟨by kernel_rfl⟩
instance:bF Tryz.prog 145:=⟨by kernel_rfl⟩
instance:bF Tryz.prog 146:=⟨by kernel_rfl⟩
instance:bF Tryz.prog 147:=⟨by kernel_rfl⟩
instance:bF Tryz.prog 148:=⟨by kernel_rfl⟩
instance:bF Tryz.prog 149:=⟨by kernel_rfl⟩
instance:bF Tryz.prog 150:=⟨by kernel_rfl⟩
instance:bF Tryz.prog 151:=⟨by kernel_rfl⟩
instance:bF Tryz.prog 152:=⟨by kernel_rfl⟩
instance:bF Tryz.prog 153:=⟨by kernel_rfl⟩
instance:bF Tryz.prog 154:=⟨by kernel_rfl⟩
instance:bF Tryz.prog 155:=⟨by kernel_rfl⟩
instance:bF Tryz.prog 156:=⟨by kernel_rfl⟩
instance:bF Tryz.prog 157:=⟨by kernel_rfl⟩
instance:bF Tryz.prog 158:=⟨by kernel_rfl⟩
instance:bF Tryz.prog 159:=⟨by kernel_rfl⟩
instance:bF Tryz.prog 160:=⟨by kernel_rfl⟩
instance:bF Tryz.prog 161:=⟨by kernel_rfl⟩
instance:bF Tryz.prog 162:=⟨by kernel_rfl⟩
instance:bF Tryz.prog 163:=⟨by kernel_rfl⟩
instance:bF Tryz.prog 164:=⟨by kernel_rfl⟩
instance:bF Tryz.prog 165:=⟨by kernel_rfl⟩
instance:bF Tryz.prog 166:=⟨by kernel_rfl⟩
instance:bF Tryz.prog 167:=⟨by kernel_rfl⟩
instance:bF Tryz.prog 168:=⟨by kernel_rfl⟩
instance:bF Tryz.prog 169:=⟨by kernel_rfl⟩
instance:bF Tryz.prog 170:=⟨by kernel_rfl⟩
instance:bF Tryz.prog 171:=⟨by kernel_rfl⟩
instance:bF Tryz.prog 172:=⟨by kernel_rfl⟩
instance:bF Tryz.prog 173:=⟨by kernel_rfl⟩
instance:bF Tryz.prog 174:=⟨by kernel_rfl⟩
instance:bF Tryz.prog 175:=⟨by kernel_rfl⟩
instance:bF Tryz.prog 176:=⟨by kernel_rfl⟩
instance:bF Tryz.prog 177:=⟨by kernel_rfl⟩
instance:bF Tryz.prog 178:=⟨by kernel_rfl⟩
instance:bF Tryz.prog 179:=⟨by kernel_rfl⟩
instance:bF Tryz.prog 180:=⟨by kernel_rfl⟩
instance:bF Tryz.prog 181:=⟨by kernel_rfl⟩
instance:bF Tryz.prog 182:=⟨by kernel_rfl⟩
instance:bF Tryz.prog 183:=⟨by kernel_rfl⟩
instance:bF Tryz.prog 184:=⟨by kernel_rfl⟩
instance:bF Tryz.prog 185:=⟨by kernel_rfl⟩
instance:bF Tryz.prog 186:=⟨by kernel_rfl⟩
instance:bF Tryz.prog 187:=⟨by kernel_rfl⟩
instance:bF Tryz.prog 188:=⟨by kernel_rfl⟩
instance:bF Tryz.prog 189:=⟨by kernel_rfl⟩
instance:bF Tryz.prog 190:=⟨by kernel_rfl⟩
instance:bF Tryz.prog 191:=⟨by kernel_rfl⟩
instance:bF Tryz.prog 192:=⟨by kernel_rfl⟩
instance:bF Tryz.prog 193:=⟨by kernel_rfl⟩
instance:bF Tryz.prog 194:=⟨by kernel_rfl⟩
instance:bF Tryz.prog 195:=⟨by kernel_rfl⟩
instance:bF Tryz.prog 196:=⟨by kernel_rfl⟩
instance:bF Tryz.prog 197:=⟨by kernel_rfl⟩
instance:bF Tryz.prog 198:=⟨by kernel_rfl⟩
instance:bF Tryz.prog 199:=⟨by kernel_rfl⟩
instance:bF Tryz.prog 200:=⟨by kernel_rfl⟩
instance:bF Tryz.prog 201:=⟨by kernel_rfl⟩
instance:bF Tryz.prog 202:=⟨by kernel_rfl⟩
instance:bF Tryz.prog 203:=⟨by kernel_rfl⟩
instance:bF Tryz.prog 204:=⟨by kernel_rfl⟩
instance:bF Tryz.prog 205:=⟨by kernel_rfl⟩
instance:bF Tryz.prog 206:=⟨by kernel_rfl⟩
instance:bF Tryz.prog 207:=⟨by kernel_rfl⟩
instance:bF Tryz.prog 208:=⟨by kernel_rfl⟩
instance:bF Tryz.prog 209:=⟨by kernel_rfl⟩
instance:bF Tryz.prog 210:=⟨by kernel_rfl⟩
instance:bF Tryz.prog 211:=⟨by kernel_rfl⟩
instance:bF Tryz.prog 212:=⟨by kernel_rfl⟩
instance:bF Tryz.prog 213:=⟨by kernel_rfl⟩
instance:bF Tryz.prog 214:=⟨by kernel_rfl⟩
instance:bF Tryz.prog 215:=⟨by kernel_rfl⟩
theorem mixed:Tryz.prog.follows .mixedOrders=true:=by kernel_rfl
end Go.Proofs.YtningmnklfpfjaaGreat
namespace Go.Proofs.YtningmnklfpfjaaGreat
open Go.Fw Go.RowKit
def snap(W:World):Mem:=fun b o=>(W.cell? ⟨b,o,none⟩).filter Value.oneCell'
theorem Tf(W:World):(snap W).cI W:=fun _ _ _ e=>by
 obtain⟨e1,e2⟩:=Option.filter_eq_some_iff.1 e
 exact .of e1 e2
theorem Tg{W:World}{b o:Nat}{v:Value}(h:W.cell? ⟨b,o,none⟩=some v)(h1:v.oneCell'=true):snap W b o=some v:=Option.filter_eq_some_iff.2 ⟨h,h1⟩
class wz (P:Program) (T:TypeId) {α:Type} (e:α→List SV) (ok:outParam (α→Prop)) (sz:outParam (α→Nat)):Prop where
 h:∀{H:Type} (enc:TypeId×Value→H) (W:World) (fuel:Nat) (cs:List Value) (d:DataW H) (p:List MemPlace),DataW.trod enc P W 0 (fun _=>true) true fuel T cs=some (d,p)→
  ∃x:α,ok x∧SV.dH (snap W) (e x) cs∧(∀v∈cs,v.oneCell'=true)∧sz x≤Rows.uptoBulk d
section opn
variable {P:Program}{T:TypeId}
theorem Pa{k:IntKind}{n:Int}(h:(Lit.int k n).wf=true):k.min≤n∧n≤k.max:=by simpa[Lit.wf]using h
instance[t:iV P T .i64]:wz P T bj (fun x=>-9223372036854775808≤x∧x≤9223372036854775807) (fun _=>1):=⟨fun enc W fuel cs d p h=>by
 obtain⟨n,rfl,hx,hw⟩:=DataW.trod_int t.h h
 cases hx
 have:=Pa hw
 exact⟨n,by simpa[IntKind.min,IntKind.max,IntKind.signed,IntKind.bits]using this,⟨rfl,trivial⟩,by simp[Value.oneCell'],by simp[Rows.uptoBulk]⟩⟩
theorem abh{k:IntKind}{M:Nat}{e:Nat→List SV}(t:iV P T k)(hk:k.min=0∧k.max=(M:Int)-1)(he:∀n:Nat,e n=[.v (.int k (n:Int))]):wz P T e (fun x=>x<M) (fun _=>1):=⟨fun enc W fuel cs d p h=>by
 obtain⟨n,rfl,hx,hw⟩:=DataW.trod_int t.h h
 cases hx
 have:=Pa hw
 rw[hk.1,hk.2]at this
 obtain⟨m,rfl⟩:=Int.eq_ofNat_of_zero_le this.1
 exact⟨m,by omega,by rw[he];exact⟨rfl,trivial⟩,by simp[Value.oneCell'],by simp[Rows.uptoBulk]⟩⟩
instance[t:iV P T .u32]:wz P T ah (fun x=>x<4294967296) (fun _=>1):=abh t (by decide) (fun _=>rfl)
instance[t:B3 P T]:wz P T eB (fun _=>True) (fun _=>1):=⟨fun enc W fuel cs d p h=>by
 obtain⟨b,rfl,hx⟩:=DataW.trod_bool t.h h
 cases hx
 exact⟨b,trivial,⟨rfl,trivial⟩,by simp[Value.oneCell'],by simp[Rows.uptoBulk]⟩⟩
theorem Iu{H α:Type}(sz:α→Nat):∀(xs:List α) (ds:List (DataW H)),xs.length=ds.length→(∀(i:Nat) (x:α) (d:DataW H),xs[i]? =some x→ds[i]? =some d→sz x≤Rows.uptoBulk d)→(xs.map sz).sum≤Rows.uptoBulkAll ds
 |[],[],_,_=>by simp
 |x::xs,d::ds,hl,h=>by
  have h1:=h 0 x d rfl rfl
  have h2:=Iu sz xs ds (by simpa using hl) (fun i x d e1 e2=>h (i+1) x d (by simpa using e1) (by simpa using e2))
  simp only[List.map_cons,List.sum_cons,Rows.uptoBulkAll];omega
 |[],_::_,hl,_=>by simp at hl
 |_::_,[],hl,_=>by simp at hl
instance{E:TypeId}{n:Nat}{α:Type}{e:α→List SV}{ok:α→Prop}{sz:α→Nat}{by_:Nat}{zv:Value}[t:eK P T E n][tE:aL P E n by_ zv][el:EL e n][o:wz P E e ok sz]:wz P T (eS n e) (fun l=>l.length≤9223372036854775807∧∀x∈l,ok x) (fun l=>(l.map sz).sum+1):=⟨fun{H} enc W fuel cs d p h=>by
 have hcell:P.cellsOf E=n:=by
  have h1:=t.size W
  simp only[sizeOf,typeInfo]at h1
  cases hi:P.info? E with
  |none=>simp[hi]at h1
  |some i=>simp[hi]at h1;simp[Program.cellsOf,hi,h1]
 have hml:maxLen=9223372036854775807:=by decide
 rcases Deep.open_slice t.u h with⟨rfl,hx⟩|⟨a,len,cap,m,n',D,Pl,rfl,_,hl,hm,hmm,hx,hel⟩
 ·cases hx
  exact⟨[],⟨by simp,by simp⟩,⟨.inl ⟨none,rfl,rfl⟩,trivial⟩,by simp[Value.oneCell'],by simp[Rows.uptoBulk]⟩
 ·cases hx
  rw[if_pos rfl]at hmm
  subst hmm
  have one:∀i,i<m→∃x,ok x∧sz x≤Rows.uptoBulk (D i)∧∃cs',W.cells? 0 (a.add (i*n)) n=some cs'∧SV.dH (snap W) (e x) cs'∧(∀v∈cs',v.oneCell'=true):=by
   intro i hi
   obtain⟨cs',h1,h2⟩:=hel i hi
   obtain⟨x,q1,q2,q3,q4⟩:=o.h enc W n' cs' (D i) (Pl i) h2
   rw[hcell]at h1
   exact⟨x,q1,q4,cs',h1,q2,q3⟩
  obtain⟨xs,hxl,hxs⟩:∃xs:List α,xs.length=len∧∀(i:Nat) (x:α),xs[i]? =some x→ok x∧sz x≤Rows.uptoBulk (D i)∧∃cs',W.cells? 0 (a.add (i*n)) n=some cs'∧SV.dH (snap W) (e x) cs'∧(∀v∈cs',v.oneCell'=true):=by
   clear h hm hel
   have:∀k,k≤len→∃xs:List α,xs.length=k∧∀(i:Nat) (x:α),xs[i]? =some x→ok x∧sz x≤Rows.uptoBulk (D i)∧∃cs',W.cells? 0 (a.add (i*n)) n=some cs'∧SV.dH (snap W) (e x) cs'∧(∀v∈cs',v.oneCell'=true):=by
    intro k
    induction k with
    |zero=>intro _;exact⟨[],rfl,by simp⟩
    |succ k ih=>
     intro hk
     obtain⟨xs,h1,h2⟩:=ih (by omega)
     obtain⟨x,hx⟩:=one k (by omega)
     refine⟨xs++[x],by simp[h1],fun i y hy=>?_⟩
     rcases Nat.lt_or_ge i k with hi|hi
     ·exact h2 i y (by rwa[List.getElem?_append_left (by omega)]at hy)
     ·rw[List.getElem?_append_right (by omega)]at hy
      have hi2:i=k:=by
       rcases Nat.lt_or_ge (i-xs.length) 1 with q|q
       ·omega
       ·rw[List.getElem?_eq_none (by simpa using q)]at hy;cases hy
      subst hi2
      rw[h1,Nat.sub_self]at hy
      simp at hy;subst hy;exact hx
   exact this len (Nat.le_refl _)
  refine⟨xs,⟨by omega,fun x hx=>?_⟩,⟨?_,trivial⟩,by simp[Value.oneCell'],?_⟩
  ·obtain⟨i,hi,rfl⟩:=List.getElem_of_mem hx
   exact(hxs i _ (List.getElem?_eq_getElem hi)).1
  ·by_cases h0:xs=[]
   ·subst h0
    simp at hxl
    subst hxl
    by_cases hc0:m=0
    ·subst hc0;exact .inl ⟨_,rfl,rfl⟩
    ·
     obtain⟨x,_,_,cs',g1,g2,_⟩:=one 0 (by omega)
     obtain⟨_,g3,g4⟩:=World.cells?_some g1
     have hn:0<n:=tE.p
     have g5:=g4 0 hn
     obtain⟨b,o',spot⟩:=a
     have Pb:spot=none:=by
      have:∃v,W.cell? (((⟨b,o',spot⟩:Addr).add (0*n)).add 0)=some v:=by
       rw[g5];exact⟨_,List.getElem?_eq_getElem (by omega)⟩
      obtain⟨v,hv⟩:=this
      simpa[Addr.add]using World.cell?_spot hv
     subst Pb
     refine .inr ⟨b,o',m,rfl,by simp,by simp,fun i row hr=>by simp at hr⟩
   ·have AE:0<len:=by
     rcases Nat.eq_zero_or_pos len with hz|hz
     ·exact absurd (List.eq_nil_of_length_eq_zero (by omega)) h0
     ·exact hz
    have hn:0<n:=tE.p
    obtain⟨x,_,_,cs',g1,g2,_⟩:=one 0 (by omega)
    obtain⟨_,g3,g4⟩:=World.cells?_some g1
    have g5:=g4 0 hn
    obtain⟨b,o',spot⟩:=a
    have Pb:spot=none:=by
     have:∃v,W.cell? (((⟨b,o',spot⟩:Addr).add (0*n)).add 0)=some v:=by
      rw[g5];exact⟨_,List.getElem?_eq_getElem (by omega)⟩
     obtain⟨v,hv⟩:=this
     simpa[Addr.add]using World.cell?_spot hv
    subst Pb
    refine .inr ⟨b,o',m,by rw[List.length_map,hxl],by rw[List.length_map];omega,by rw[List.length_map];omega,fun i row hr=>?_⟩
    rw[List.getElem?_map]at hr
    cases hx:xs[i]? with
    |none=>rw[hx]at hr;cases hr
    |some y=>
     rw[hx]at hr
     have hr:e y=row:=Option.some.inj hr
     subst hr
     obtain⟨_,_,cs2,k1,k2,k3⟩:=hxs i y hx
     obtain⟨_,k4,k5⟩:=World.cells?_some k1
     refine⟨el.len y,fun k s hk=>?_⟩
     obtain⟨u,hu,hs⟩:=k2.get hk
     have hkn:k<n:=by have:=(List.getElem?_eq_some_iff.1 hu).1;omega
     have k6:=k5 k hkn
     rw[fO,fO,hu]at k6
     exact⟨u,Tg k6 (k3 u (List.mem_of_getElem? hu)),k3 u (List.mem_of_getElem? hu),hs⟩
  ·have hb:Rows.uptoBulk (DataW.slice ((List.range len).map D) ((List.range (m-len)).map fun j=>D (len+j)))=Rows.uptoBulkAll ((List.range len).map D)+Rows.uptoBulkAll ((List.range (m-len)).map fun j=>D (len+j))+1:=rfl
   rw[hb]
   have:=Iu sz xs ((List.range len).map D) (by simp[hxl]) (fun i x d e1 e2=>by
    have hi:i<len:=by have:=(List.getElem?_eq_some_iff.1 e1).1;omega
    simp[hi]at e2;subst e2
    exact(hxs i x e1).2.1)
   omega⟩
class U9 (P:Program) (T:TypeId) (k:outParam Nat):Prop where
 h:(match P.underlying T with|some (.struct fs)=>some fs.size|_=>none)=some k
theorem vP{k:Nat}[s:U9 P T k]{H:Type}{enc:TypeId×Value→H}{W:World}{fuel:Nat}{cs:List Value}{d:DataW H}{p:List MemPlace}(h:DataW.trod enc P W 0 (fun _=>true) true fuel T cs=some (d,p)):
  ∃(xs:List (DataW H×List MemPlace)) (n:Nat),d=.agg (xs.map (·.1))∧cs.length=P.cellsOf T∧xs.length=k∧∀(i off:Nat) (U:TypeId),fU P T i off U→DataW.trod enc P W 0 (fun _=>true) true n U ((cs.drop off).take (P.cellsOf U))=xs[i]? :=by
 have hs:=s.h
 cases hT:P.underlying T with
 |none=>rw[hT]at hs;cases hs
 |some u=>
  rw[hT]at hs
  cases u with
  |struct fs=>
   have hk:fs.size=k:=Option.some.inj hs
   obtain⟨xs,n,_,hx,hl,hn,hf⟩:=DataW.trod_struct hT h
   refine⟨xs,n,(Prod.mk.inj hx).1,hl,by omega,fun i off U F=>?_⟩
   have hF:=F.h
   rw[hT]at hF
   simp only at hF
   cases hg:fs[i]? with
   |none=>rw[hg]at hF;cases hF
   |some f=>
    rw[hg]at hF
    simp only[Option.map_some,Option.some.injEq,Prod.mk.injEq]at hF
    have:=hf i f hg
    rw[hF.1,hF.2]at this
    exact this
  |_=>cases hs
class Pc (P:Program) (T:TypeId):Prop where
 h:∀(w:World) (r:Reach) (base:Nat) (v:Value),Value.okWide P w r base T v→v.cells.toList=[v]
instance{k:IntKind}[t:iV P T k]:Pc P T:=⟨fun w r base v h=>by
 simp only[Value.okWide,t.h,Cell.okWide,Cell.ok]at h
 cases v<;>first|rfl|cases h⟩
instance[t:B3 P T]:Pc P T:=⟨fun w r base v h=>by
 simp only[Value.okWide,t.h,Cell.okWide,Cell.ok]at h
 cases v<;>first|rfl|cases h⟩
instance[t:H6 P T]:Pc P T:=⟨fun w r base v h=>by
 simp only[Value.okWide,t.h,Cell.okWide,Cell.ok]at h
 cases v<;>first|rfl|cases h⟩
instance{E:TypeId}{n:Nat}[t:eK P T E n]:Pc P T:=⟨fun w r base v h=>by
 obtain⟨a,l,c,rfl⟩:=WideShapes.okWide_slice t.u h
 rfl⟩
theorem Th{α:Type}{e:α→List SV}{ok:α→Prop}{sz:α→Nat}[o1:Pc P T][o:wz P T e ok sz]{H:Type}{enc:TypeId×Value→H}{W:World}{r:Reach}{base:Nat}{v:Value}{d:DataW H}{p:List MemPlace}
  (hv:Value.okWide P W r base T v) (h:DataW.Trod enc P W 0 (fun _=>true) true T v d p):∃x,ok x∧sz x≤Rows.uptoBulk d∧SV.dH (snap W) (e x) [v]:=by
 obtain⟨fuel,h⟩:=h
 rw[o1.h W r base v hv]at h
 obtain⟨x,h1,h2,_,h4⟩:=o.h enc W fuel _ d p h
 exact⟨x,h1,h4,h2⟩
theorem Mc{α:Type}{e:α→List SV}{ok:α→Prop}{sz:α→Nat}{k:Nat}[s:U9 P T k][o:wz P T e ok sz]{H:Type}{enc:TypeId×Value→H}{W:World}{r:Reach}{base:Nat}{v:Value}{d:DataW H}{p:List MemPlace}
  (hv:Value.okWide P W r base T v) (h:DataW.Trod enc P W 0 (fun _=>true) true T v d p):∃x,ok x∧sz x≤Rows.uptoBulk d∧(SV.agg (e x)).h (snap W) v:=by
 have hs:=s.h
 cases hT:P.underlying T with
 |none=>rw[hT]at hs;cases hs
 |some u=>
  rw[hT]at hs
  cases u with
  |struct fs=>
   obtain⟨cs,rfl,_⟩:=WideShapes.okWide_struct hT hv
   obtain⟨fuel,h⟩:=h
   obtain⟨x,h1,h2,_,h4⟩:=o.h enc W fuel _ d p h
   exact⟨x,h1,h4,cs.toList,rfl,h2⟩
  |_=>cases hs
end opn
theorem Ti{f:FuncId}{vs:List Value}{svs:List SV}{W:World}(hp:Pure Tryz.prog f svs (.v (.bool true)))(h:SV.dH (snap W) svs vs):
  Calls Tryz.prog f ⟨vs⟩ W fun e w'=>e=.returned (.bool true)∧Below W.heap.size W w':=
 (hp (snap W) W vs (Tf W) h).mono fun _ _ ⟨v,_,h1,_,_,_,h2,h3⟩=>by
  have h2:v=.bool true:=h2
  exact⟨by rw[h1,h2],h3⟩
end Go.Proofs.YtningmnklfpfjaaGreat
namespace Go.Proofs.YtningmnklfpfjaaGreat
open Go.Fw Go.RowKit Go.ChangeShapes Go.WideShapes Go.ChangeAt
theorem af8:ownKnob Tryz.prog.godebug=none:=by kernel_rfl
theorem Cm:laidOutB Tryz.prog=true:=by kernel_rfl
instance:U9 Tryz.prog 41 2:=⟨by kernel_rfl⟩
set_option maxRecDepth 100000 in
instance:wz Tryz.prog 41 eZ (fun(z:Zr)=>(True∧(z.w.length≤9223372036854775807∧∀x1∈z.w,x1<4294967296))) (fun(z:Zr)=>(1+((z.w.map fun x1=>1).sum+1)+1)):=⟨fun enc W fuel cs d p h=>by
 obtain⟨xs,n,rfl,hl,hn,hf⟩:=vP h
 have hl:cs.length=2:=hl.trans (by kernel_rfl)
 match xs,hn with
 |[⟨d0,p0⟩,⟨d1,p1⟩],_=>
 match cs,hl with
 |[c0,c1],_=>
 have t0:DataW.trod enc Tryz.prog W 0 (fun _=>true) true n 4 [c0]=some (d0,p0):=(by have q:=hf 0 _ _ inferInstance;rw[show Tryz.prog.cellsOf 4=1 by kernel_rfl]at q;exact q)
 obtain⟨x0,a0,b0,e0,s0⟩:=wz.h (P:=Tryz.prog) (T:=4) (e:=eB) enc W n _ d0 p0 t0
 have t1:DataW.trod enc Tryz.prog W 0 (fun _=>true) true n 39 [c1]=some (d1,p1):=(by have q:=hf 1 _ _ inferInstance;rw[show Tryz.prog.cellsOf 39=1 by kernel_rfl]at q;exact q)
 obtain⟨x1,a1,b1,e1,s1⟩:=wz.h (P:=Tryz.prog) (T:=39) (e:=(eS 1 ah)) enc W n _ d1 p1 t1
 refine⟨⟨x0,x1⟩,⟨a0,a1⟩,⟨b0.1,b1.1,trivial⟩,?_,?_⟩
 ·intro v hv;simp only[List.mem_cons,List.not_mem_nil,or_false]at hv;rcases hv with rfl|rfl
  ·exact e0 _ (by simp)
  ·exact e1 _ (by simp)
 ·simp only[List.map_cons,List.map_nil,Rows.uptoBulk,Rows.uptoBulkAll];omega⟩
instance:U9 Tryz.prog 43 2:=⟨by kernel_rfl⟩
set_option maxRecDepth 100000 in
instance:wz Tryz.prog 43 eQ (fun(z:Qr)=>((True∧(z.num.w.length≤9223372036854775807∧∀x1∈z.num.w,x1<4294967296))∧(True∧(z.den.w.length≤9223372036854775807∧∀x1∈z.den.w,x1<4294967296)))) (fun(z:Qr)=>((1+((z.num.w.map fun x1=>1).sum+1)+1)+(1+((z.den.w.map fun x1=>1).sum+1)+1)+1)):=⟨fun enc W fuel cs d p h=>by
 obtain⟨xs,n,rfl,hl,hn,hf⟩:=vP h
 have hl:cs.length=4:=hl.trans (by kernel_rfl)
 match xs,hn with
 |[⟨d0,p0⟩,⟨d1,p1⟩],_=>
 match cs,hl with
 |[c0,c1,c2,c3],_=>
 have t0:DataW.trod enc Tryz.prog W 0 (fun _=>true) true n 41 [c0,c1]=some (d0,p0):=(by have q:=hf 0 _ _ inferInstance;rw[show Tryz.prog.cellsOf 41=2 by kernel_rfl]at q;exact q)
 obtain⟨x0,a0,b0,e0,s0⟩:=wz.h (P:=Tryz.prog) (T:=41) (e:=eZ) enc W n _ d0 p0 t0
 have t1:DataW.trod enc Tryz.prog W 0 (fun _=>true) true n 41 [c2,c3]=some (d1,p1):=(by have q:=hf 1 _ _ inferInstance;rw[show Tryz.prog.cellsOf 41=2 by kernel_rfl]at q;exact q)
 obtain⟨x1,a1,b1,e1,s1⟩:=wz.h (P:=Tryz.prog) (T:=41) (e:=eZ) enc W n _ d1 p1 t1
 refine⟨⟨x0,x1⟩,⟨a0,a1⟩,⟨b0.1,b0.2.1,b1.1,b1.2.1,trivial⟩,?_,?_⟩
 ·intro v hv;simp only[List.mem_cons,List.not_mem_nil,or_false]at hv;rcases hv with rfl|rfl|rfl|rfl
  ·exact e0 _ (by simp)
  ·exact e0 _ (by simp)
  ·exact e1 _ (by simp)
  ·exact e1 _ (by simp)
 ·simp only[List.map_cons,List.map_nil,Rows.uptoBulk,Rows.uptoBulkAll];omega⟩
instance:U9 Tryz.prog 25 4:=⟨by kernel_rfl⟩
set_option maxRecDepth 100000 in
instance:wz Tryz.prog 25 Kh (fun(z:Lr)=>((-9223372036854775808≤z.vars∧z.vars≤9223372036854775807)∧(z.xw.length≤9223372036854775807∧∀x1∈z.xw,(x1.length≤9223372036854775807∧∀x2∈x1,((True∧(x2.num.w.length≤9223372036854775807∧∀x3∈x2.num.w,x3<4294967296))∧(True∧(x2.den.w.length≤9223372036854775807∧∀x3∈x2.den.w,x3<4294967296)))))∧(z.rows.length≤9223372036854775807∧∀x1∈z.rows,(x1.length≤9223372036854775807∧∀x2∈x1,((True∧(x2.num.w.length≤9223372036854775807∧∀x3∈x2.num.w,x3<4294967296))∧(True∧(x2.den.w.length≤9223372036854775807∧∀x3∈x2.den.w,x3<4294967296)))))∧(z.bounds.length≤9223372036854775807∧∀x1∈z.bounds,((True∧(x1.num.w.length≤9223372036854775807∧∀x2∈x1.num.w,x2<4294967296))∧(True∧(x1.den.w.length≤9223372036854775807∧∀x2∈x1.den.w,x2<4294967296)))))) (fun(z:Lr)=>(1+((z.xw.map fun x1=>((x1.map fun x2=>((1+((x2.num.w.map fun x3=>1).sum+1)+1)+(1+((x2.den.w.map fun x3=>1).sum+1)+1)+1)).sum+1)).sum+1)+((z.rows.map fun x1=>((x1.map fun x2=>((1+((x2.num.w.map fun x3=>1).sum+1)+1)+(1+((x2.den.w.map fun x3=>1).sum+1)+1)+1)).sum+1)).sum+1)+((z.bounds.map fun x1=>((1+((x1.num.w.map fun x2=>1).sum+1)+1)+(1+((x1.den.w.map fun x2=>1).sum+1)+1)+1)).sum+1)+1)):=⟨fun enc W fuel cs d p h=>by
 obtain⟨xs,n,rfl,hl,hn,hf⟩:=vP h
 have hl:cs.length=4:=hl.trans (by kernel_rfl)
 match xs,hn with
 |[⟨d0,p0⟩,⟨d1,p1⟩,⟨d2,p2⟩,⟨d3,p3⟩],_=>
 match cs,hl with
 |[c0,c1,c2,c3],_=>
 have t0:DataW.trod enc Tryz.prog W 0 (fun _=>true) true n 3 [c0]=some (d0,p0):=(by have q:=hf 0 _ _ inferInstance;rw[show Tryz.prog.cellsOf 3=1 by kernel_rfl]at q;exact q)
 obtain⟨x0,a0,b0,e0,s0⟩:=wz.h (P:=Tryz.prog) (T:=3) (e:=bj) enc W n _ d0 p0 t0
 have t1:DataW.trod enc Tryz.prog W 0 (fun _=>true) true n 22 [c1]=some (d1,p1):=(by have q:=hf 1 _ _ inferInstance;rw[show Tryz.prog.cellsOf 22=1 by kernel_rfl]at q;exact q)
 obtain⟨x1,a1,b1,e1,s1⟩:=wz.h (P:=Tryz.prog) (T:=22) (e:=(eS 1 (eS 4 eQ))) enc W n _ d1 p1 t1
 have t2:DataW.trod enc Tryz.prog W 0 (fun _=>true) true n 22 [c2]=some (d2,p2):=(by have q:=hf 2 _ _ inferInstance;rw[show Tryz.prog.cellsOf 22=1 by kernel_rfl]at q;exact q)
 obtain⟨x2,a2,b2,e2,s2⟩:=wz.h (P:=Tryz.prog) (T:=22) (e:=(eS 1 (eS 4 eQ))) enc W n _ d2 p2 t2
 have t3:DataW.trod enc Tryz.prog W 0 (fun _=>true) true n 23 [c3]=some (d3,p3):=(by have q:=hf 3 _ _ inferInstance;rw[show Tryz.prog.cellsOf 23=1 by kernel_rfl]at q;exact q)
 obtain⟨x3,a3,b3,e3,s3⟩:=wz.h (P:=Tryz.prog) (T:=23) (e:=(eS 4 eQ)) enc W n _ d3 p3 t3
 refine⟨⟨x0,x1,x2,x3⟩,⟨a0,a1,a2,a3⟩,⟨b0.1,b1.1,b2.1,b3.1,trivial⟩,?_,?_⟩
 ·intro v hv;simp only[List.mem_cons,List.not_mem_nil,or_false]at hv;rcases hv with rfl|rfl|rfl|rfl
  ·exact e0 _ (by simp)
  ·exact e1 _ (by simp)
  ·exact e2 _ (by simp)
  ·exact e3 _ (by simp)
 ·simp only[List.map_cons,List.map_nil,Rows.uptoBulk,Rows.uptoBulkAll];omega⟩
instance:U9 Tryz.prog 38 2:=⟨by kernel_rfl⟩
set_option maxRecDepth 100000 in
instance:wz Tryz.prog 38 L8 (fun(z:Pv)=>((-9223372036854775808≤z.row∧z.row≤9223372036854775807)∧(-9223372036854775808≤z.col∧z.col≤9223372036854775807))) (fun(z:Pv)=>(1+1+1)):=⟨fun enc W fuel cs d p h=>by
 obtain⟨xs,n,rfl,hl,hn,hf⟩:=vP h
 have hl:cs.length=2:=hl.trans (by kernel_rfl)
 match xs,hn with
 |[⟨d0,p0⟩,⟨d1,p1⟩],_=>
 match cs,hl with
 |[c0,c1],_=>
 have t0:DataW.trod enc Tryz.prog W 0 (fun _=>true) true n 3 [c0]=some (d0,p0):=(by have q:=hf 0 _ _ inferInstance;rw[show Tryz.prog.cellsOf 3=1 by kernel_rfl]at q;exact q)
 obtain⟨x0,a0,b0,e0,s0⟩:=wz.h (P:=Tryz.prog) (T:=3) (e:=bj) enc W n _ d0 p0 t0
 have t1:DataW.trod enc Tryz.prog W 0 (fun _=>true) true n 3 [c1]=some (d1,p1):=(by have q:=hf 1 _ _ inferInstance;rw[show Tryz.prog.cellsOf 3=1 by kernel_rfl]at q;exact q)
 obtain⟨x1,a1,b1,e1,s1⟩:=wz.h (P:=Tryz.prog) (T:=3) (e:=bj) enc W n _ d1 p1 t1
 refine⟨⟨x0,x1⟩,⟨a0,a1⟩,⟨b0.1,b1.1,trivial⟩,?_,?_⟩
 ·intro v hv;simp only[List.mem_cons,List.not_mem_nil,or_false]at hv;rcases hv with rfl|rfl
  ·exact e0 _ (by simp)
  ·exact e1 _ (by simp)
 ·simp only[List.map_cons,List.map_nil,Rows.uptoBulk,Rows.uptoBulkAll];omega⟩
instance:U9 Tryz.prog 79 5:=⟨by kernel_rfl⟩
set_option maxRecDepth 100000 in
instance:wz Tryz.prog 79 sE (fun(z:Tb)=>(True∧(-9223372036854775808≤z.vars∧z.vars≤9223372036854775807)∧(z.xw.length≤9223372036854775807∧∀x1∈z.xw,(x1.length≤9223372036854775807∧∀x2∈x1,((True∧(x2.num.w.length≤9223372036854775807∧∀x3∈x2.num.w,x3<4294967296))∧(True∧(x2.den.w.length≤9223372036854775807∧∀x3∈x2.den.w,x3<4294967296)))))∧(z.basis.length≤9223372036854775807∧∀x1∈z.basis,(-9223372036854775808≤x1∧x1≤9223372036854775807))∧(z.rows.length≤9223372036854775807∧∀x1∈z.rows,(x1.length≤9223372036854775807∧∀x2∈x1,((True∧(x2.num.w.length≤9223372036854775807∧∀x3∈x2.num.w,x3<4294967296))∧(True∧(x2.den.w.length≤9223372036854775807∧∀x3∈x2.den.w,x3<4294967296))))))) (fun(z:Tb)=>(1+1+((z.xw.map fun x1=>((x1.map fun x2=>((1+((x2.num.w.map fun x3=>1).sum+1)+1)+(1+((x2.den.w.map fun x3=>1).sum+1)+1)+1)).sum+1)).sum+1)+((z.basis.map fun x1=>1).sum+1)+((z.rows.map fun x1=>((x1.map fun x2=>((1+((x2.num.w.map fun x3=>1).sum+1)+1)+(1+((x2.den.w.map fun x3=>1).sum+1)+1)+1)).sum+1)).sum+1)+1)):=⟨fun enc W fuel cs d p h=>by
 obtain⟨xs,n,rfl,hl,hn,hf⟩:=vP h
 have hl:cs.length=5:=hl.trans (by kernel_rfl)
 match xs,hn with
 |[⟨d0,p0⟩,⟨d1,p1⟩,⟨d2,p2⟩,⟨d3,p3⟩,⟨d4,p4⟩],_=>
 match cs,hl with
 |[c0,c1,c2,c3,c4],_=>
 have t0:DataW.trod enc Tryz.prog W 0 (fun _=>true) true n 4 [c0]=some (d0,p0):=(by have q:=hf 0 _ _ inferInstance;rw[show Tryz.prog.cellsOf 4=1 by kernel_rfl]at q;exact q)
 obtain⟨x0,a0,b0,e0,s0⟩:=wz.h (P:=Tryz.prog) (T:=4) (e:=eB) enc W n _ d0 p0 t0
 have t1:DataW.trod enc Tryz.prog W 0 (fun _=>true) true n 3 [c1]=some (d1,p1):=(by have q:=hf 1 _ _ inferInstance;rw[show Tryz.prog.cellsOf 3=1 by kernel_rfl]at q;exact q)
 obtain⟨x1,a1,b1,e1,s1⟩:=wz.h (P:=Tryz.prog) (T:=3) (e:=bj) enc W n _ d1 p1 t1
 have t2:DataW.trod enc Tryz.prog W 0 (fun _=>true) true n 22 [c2]=some (d2,p2):=(by have q:=hf 2 _ _ inferInstance;rw[show Tryz.prog.cellsOf 22=1 by kernel_rfl]at q;exact q)
 obtain⟨x2,a2,b2,e2,s2⟩:=wz.h (P:=Tryz.prog) (T:=22) (e:=(eS 1 (eS 4 eQ))) enc W n _ d2 p2 t2
 have t3:DataW.trod enc Tryz.prog W 0 (fun _=>true) true n 45 [c3]=some (d3,p3):=(by have q:=hf 3 _ _ inferInstance;rw[show Tryz.prog.cellsOf 45=1 by kernel_rfl]at q;exact q)
 obtain⟨x3,a3,b3,e3,s3⟩:=wz.h (P:=Tryz.prog) (T:=45) (e:=(eS 1 bj)) enc W n _ d3 p3 t3
 have t4:DataW.trod enc Tryz.prog W 0 (fun _=>true) true n 22 [c4]=some (d4,p4):=(by have q:=hf 4 _ _ inferInstance;rw[show Tryz.prog.cellsOf 22=1 by kernel_rfl]at q;exact q)
 obtain⟨x4,a4,b4,e4,s4⟩:=wz.h (P:=Tryz.prog) (T:=22) (e:=(eS 1 (eS 4 eQ))) enc W n _ d4 p4 t4
 refine⟨⟨x0,x1,x2,x3,x4⟩,⟨a0,a1,a2,a3,a4⟩,⟨b0.1,b1.1,b2.1,b3.1,b4.1,trivial⟩,?_,?_⟩
 ·intro v hv;simp only[List.mem_cons,List.not_mem_nil,or_false]at hv;rcases hv with rfl|rfl|rfl|rfl|rfl
  ·exact e0 _ (by simp)
  ·exact e1 _ (by simp)
  ·exact e2 _ (by simp)
  ·exact e3 _ (by simp)
  ·exact e4 _ (by simp)
 ·simp only[List.map_cons,List.map_nil,Rows.uptoBulk,Rows.uptoBulkAll];omega⟩
instance:U9 Tryz.prog 97 4:=⟨by kernel_rfl⟩
set_option maxRecDepth 100000 in
instance:wz Tryz.prog 97 eSz (fun(z:Sz)=>((-9223372036854775808≤z.vars∧z.vars≤9223372036854775807)∧(-9223372036854775808≤z.xw∧z.xw≤9223372036854775807)∧(-9223372036854775808≤z.rows∧z.rows≤9223372036854775807)∧(-9223372036854775808≤z.bounds∧z.bounds≤9223372036854775807))) (fun(z:Sz)=>(1+1+1+1+1)):=⟨fun enc W fuel cs d p h=>by
 obtain⟨xs,n,rfl,hl,hn,hf⟩:=vP h
 have hl:cs.length=4:=hl.trans (by kernel_rfl)
 match xs,hn with
 |[⟨d0,p0⟩,⟨d1,p1⟩,⟨d2,p2⟩,⟨d3,p3⟩],_=>
 match cs,hl with
 |[c0,c1,c2,c3],_=>
 have t0:DataW.trod enc Tryz.prog W 0 (fun _=>true) true n 3 [c0]=some (d0,p0):=(by have q:=hf 0 _ _ inferInstance;rw[show Tryz.prog.cellsOf 3=1 by kernel_rfl]at q;exact q)
 obtain⟨x0,a0,b0,e0,s0⟩:=wz.h (P:=Tryz.prog) (T:=3) (e:=bj) enc W n _ d0 p0 t0
 have t1:DataW.trod enc Tryz.prog W 0 (fun _=>true) true n 3 [c1]=some (d1,p1):=(by have q:=hf 1 _ _ inferInstance;rw[show Tryz.prog.cellsOf 3=1 by kernel_rfl]at q;exact q)
 obtain⟨x1,a1,b1,e1,s1⟩:=wz.h (P:=Tryz.prog) (T:=3) (e:=bj) enc W n _ d1 p1 t1
 have t2:DataW.trod enc Tryz.prog W 0 (fun _=>true) true n 3 [c2]=some (d2,p2):=(by have q:=hf 2 _ _ inferInstance;rw[show Tryz.prog.cellsOf 3=1 by kernel_rfl]at q;exact q)
 obtain⟨x2,a2,b2,e2,s2⟩:=wz.h (P:=Tryz.prog) (T:=3) (e:=bj) enc W n _ d2 p2 t2
 have t3:DataW.trod enc Tryz.prog W 0 (fun _=>true) true n 3 [c3]=some (d3,p3):=(by have q:=hf 3 _ _ inferInstance;rw[show Tryz.prog.cellsOf 3=1 by kernel_rfl]at q;exact q)
 obtain⟨x3,a3,b3,e3,s3⟩:=wz.h (P:=Tryz.prog) (T:=3) (e:=bj) enc W n _ d3 p3 t3
 refine⟨⟨x0,x1,x2,x3⟩,⟨a0,a1,a2,a3⟩,⟨b0.1,b1.1,b2.1,b3.1,trivial⟩,?_,?_⟩
 ·intro v hv;simp only[List.mem_cons,List.not_mem_nil,or_false]at hv;rcases hv with rfl|rfl|rfl|rfl
  ·exact e0 _ (by simp)
  ·exact e1 _ (by simp)
  ·exact e2 _ (by simp)
  ·exact e3 _ (by simp)
 ·simp only[List.map_cons,List.map_nil,Rows.uptoBulk,Rows.uptoBulkAll];omega⟩
end Go.Proofs.YtningmnklfpfjaaGreat
namespace Go.Fw
open Go.RowKit
theorem vQ{S:AS}(i o k:Nat)(E0:TypeId)(sz:Nat){T:TypeId}{cells:List AV}(hb:S.b i=some ⟨T,cells⟩)(hc:cells[o]? =some (.sv (.v (.slice none 0 0))))(hk:S.r k=.un)(hk1:k<1000):
  ud S ((AS.bC [(k,.live ⟨E0,sz,0,[]⟩)] S).kH i ⟨T,cells.set o (.row k)⟩):=by
 rintro C a w ⟨E,h⟩
 have h1:=h.newRow hk hk1 [] none (.inl ⟨rfl,rfl⟩) (R':=⟨E0,sz,0,[]⟩) (World.ownsRow_nil w 0 E0 sz) (vs':=[]) trivial (.inl rfl) (oX w none)
 have zH:(AS.bC [(k,.live ⟨E0,sz,0,[]⟩)] S).b i=some ⟨T,cells⟩:=hb
 have hrk:(AS.bC [(k,.live ⟨E0,sz,0,[]⟩)] S).r k≠ .un:=by
  show(AS.oV S k _).r k≠_
  rw[AS.gU];simp
 refine⟨_,{h1 with wf:=?_,bx:=fun j B hB=>?_,inj:=fun j j' B B' hB fu e=>?_,rx:=fun j R hR=>?_}⟩
 ·refine⟨fun t j hj=>?_,h1.wf.tr,fun j B hB x hx m hm=>?_,fun j B hB x hx m hm=>?_⟩
  ·obtain⟨B,hB⟩:=h1.wf.tb t j hj
   by_cases e:j=i
   ·subst e;exact⟨_,AS.cD _ _ _⟩
   ·exact⟨B,by rw[AS.bw _ _ _ _ e];exact hB⟩
  ·have key:∃B',(AS.bC [(k,.live ⟨E0,sz,0,[]⟩)] S).b m=some B':=by
    by_cases e:j=i
    ·subst e;rw[AS.cD]at hB;cases hB
     rcases List.mem_or_eq_of_mem_set hx with hx|rfl
     ·exact h1.wf.bb j _ zH x hx m hm
     ·exact hm.elim
    ·rw[AS.bw _ _ _ _ e]at hB;exact h1.wf.bb j B hB x hx m hm
   obtain⟨B',fu⟩:=key
   by_cases e:m=i
   ·subst e;exact⟨_,AS.cD _ _ _⟩
   ·exact⟨B',by rw[AS.bw _ _ _ _ e];exact fu⟩
  ·by_cases e:j=i
   ·subst e;rw[AS.cD]at hB;cases hB
    rcases List.mem_or_eq_of_mem_set hx with hx|rfl
    ·exact h1.wf.br j _ zH x hx m hm
    ·cases hm;exact hrk
   ·rw[AS.bw _ _ _ _ e]at hB;exact h1.wf.br j B hB x hx m hm
 ·by_cases e:j=i
  ·subst e;rw[AS.cD]at hB;cases hB
   obtain⟨q1,q2,q3,vs,q4,q5⟩:=h1.bx j _ zH
   refine⟨q1,q2,q3,vs,q4,?_⟩
   obtain⟨x,hx,hv⟩:=q5.get hc
   have hv:x=.slice none 0 0:=hv
   have:=cS.set (i:=o) (s:=.row k) (x:=x) q5 (by
    show x=if k=k then _ else _
    rw[if_pos rfl];exact hv)
   have he:vs.set o x=vs:=by
    apply List.ext_getElem?
    intro n
    rw[List.getElem?_set]
    split
    ·rename_i hn;subst hn;rw[hx];split<;>rename_i hl
     ·rfl
     ·have:=(List.getElem?_eq_some_iff.1 hx).1;exact absurd this hl
    ·rfl
   rwa[he]at this
  ·rw[AS.bw _ _ _ _ e]at hB;exact h1.bx j B hB
 ·have old:∀n B,((AS.bC [(k,.live ⟨E0,sz,0,[]⟩)] S).kH i ⟨T,cells.set o (.row k)⟩).b n=some B→∃B',(AS.bC [(k,.live ⟨E0,sz,0,[]⟩)] S).b n=some B':=fun n B hn=>by
   by_cases e:n=i
   ·subst e;exact⟨_,zH⟩
   ·rw[AS.bw _ _ _ _ e]at hn;exact⟨B,hn⟩
  obtain⟨B1,p1⟩:=old j B hB
  obtain⟨B2,p2⟩:=old j' B' fu
  exact h1.inj j j' B1 B2 p1 p2 e
 ·obtain⟨p1,p2⟩:=h1.rx j R hR
  refine⟨p1,fun g hg=>?_⟩
  obtain⟨p3,p4,p5,p6⟩:=p2 g hg
  refine⟨p3,p4,p5,fun n B hn=>?_⟩
  by_cases e:n=i
  ·subst e;exact p6 n _ zH
  ·rw[AS.bw _ _ _ _ e]at hn;exact p6 n B hn
end Go.Fw
namespace Go.Fw
open Go.RowKit
section part
variable {P:Program}{C:Ctx}{ops:Array Oper}{acts:List Ac}{S:AS}
def yA(ops:Array Oper)(m:Nat)(acts:List Ac):Bool:=
 let b:=Region.before ops
 (acts.length==m)&&(decide (m≤ops.size))&&
 (ops.toList.zipIdx.all fun(o,j)=>o.after.all fun e=>!Region.binds .any e||decide (e.on<j))&&
 (acts.zipIdx.all fun(y,j)=>acts.zipIdx.all fun(x,i)=>!(decide (i<j))|| !(x.mR y)||(b.getD j 0).testBit i)&&
 ((List.range ops.size).all fun j=>!(decide (m≤j))||(List.range j).all fun i=>(b.getD j 0).testBit i)
theorem uA{m:Nat}(h:yA ops m acts=true):acts.length=m∧m≤ops.size∧
  (∀(j:Nat) (o:Oper),ops[j]? =some o→∀e∈o.after,Region.binds .any e=true→e.on<j)∧
  (∀(i j:Nat) (x y:Ac),acts[i]? =some x→acts[j]? =some y→i<j→x.mR y=true→((Region.before ops).getD j 0).testBit i=true)∧
  (∀i j:Nat,m≤j→j<ops.size→i<j→((Region.before ops).getD j 0).testBit i=true):=by
 simp only[yA,Bool.and_eq_true,beq_iff_eq,List.all_eq_true,decide_eq_true_eq]at h
 obtain⟨⟨⟨⟨h1,h0⟩,h2⟩,h3⟩,h4⟩:=h
 refine⟨h1,h0,?_,?_,?_⟩
 ·intro j o ho e he hb
  have:=h2 (o,j) (List.mem_zipIdx_iff_getElem?.2 (by simpa using ho))
  simp only[Array.all_eq_true_iff_forall_mem]at this
  have:=this e he
  simpa[hb]using this
 ·intro i j x y hx hy hij hc
  have:=h3 (y,j) (List.mem_zipIdx_iff_getElem?.2 (by simpa using hy)) (x,i) (List.mem_zipIdx_iff_getElem?.2 (by simpa using hx))
  simpa[hij,hc]using this
 ·intro i j hm hj hij
  have:=h4 j (List.mem_range.2 hj)
  simp only[hm,decide_true,Bool.not_true,Bool.false_or,List.all_eq_true]at this
  exact this i (List.mem_range.2 hij)
theorem lX(listed:Array Bool)(i:Nat)(hs:listed.size=ops.size)(hi:i<ops.size):listed.getD i true=listed.getD i false:=by
 rw[Array.getD_eq_getD_getElem?,Array.getD_eq_getD_getElem?]
 rw[Array.getElem?_eq_getElem (by omega)];rfl
theorem Co(yl:∀(j:Nat) (o:Oper),ops[j]? =some o→∀e∈o.after,Region.binds .any e=true→e.on<j)(listed:Array Bool)(hs:listed.size=ops.size)(hr:Region.ready .any ops listed=[]):∀i,i<ops.size→listed.getD i false=true:=by
 intro i
 induction i using Nat.strongRecOn with
 |_ i ih=>
  intro hi
  cases Kn:listed.getD i false with
  |true=>rfl
  |false=>
   exfalso
   have:i∈Region.ready .any ops listed:=by
    simp only[Region.ready,List.mem_filter,List.mem_range]
    refine⟨hi,?_⟩
    rw[lX listed i hs hi,Kn,Array.getElem?_eq_getElem hi]
    simp only[Bool.not_false,Bool.true_and,Option.map_some,Option.getD_some,Array.all_eq_true_iff_forall_mem]
    intro e he
    cases hb:Region.binds .any e with
    |false=>rfl
    |true=>
     have hlt:=yl i ops[i] (Array.getElem?_eq_getElem hi) e he hb
     rw[ih e.on hlt (by omega)];rfl
   rw[hr]at this
   simp at this
theorem AF{listed:Array Bool}(hs:listed.size=ops.size)(hD:Down ops (fun i=>listed.getD i false)){i:Nat}(hi:i∈Region.ready .any ops listed):
  ∃h:i<ops.size,listed.getD i false=false∧(∀m,(listed.setIfInBounds i true).getD m false=if m=i then true else listed.getD m false)∧Down ops (fun m=>(listed.setIfInBounds i true).getD m false):=by
 simp only[Region.ready,List.mem_filter,List.mem_range,Bool.and_eq_true,Bool.not_eq_true']at hi
 obtain⟨hi,Kn,hpre⟩:=hi
 have Ec:listed.getD i false=false:=by rw[←lX listed i hs hi];exact Kn
 have ho:ops[i]? =some ops[i]:=Array.getElem?_eq_getElem hi
 have Oz:∀e∈ops[i].after,Region.binds .any e=true→listed.getD e.on false=true:=by
  rw[ho]at hpre
  simp only[Option.map_some,Option.getD_some,Array.all_eq_true_iff_forall_mem]at hpre
  intro e he hb
  have:=hpre e he
  simpa[hb]using this
 have eX:∀m,(listed.setIfInBounds i true).getD m false=if m=i then true else listed.getD m false:=by
  intro m
  rw[Array.getD_eq_getD_getElem?,Array.getElem?_setIfInBounds]
  by_cases hm:m=i
  ·subst hm;simp[hs,hi]
  ·rw[if_neg (by omega),if_neg hm,Array.getD_eq_getD_getElem?]
 refine⟨hi,Ec,eX,?_⟩
 intro j o hj hl e he hb
 simp only[eX]at hl⊢
 by_cases hji:j=i
 ·subst hji
  have:o=ops[j]:=by rw[ho]at hj;exact(Option.some.inj hj).symm
  subst this
  have:=Oz e he hb
  split<;>simp_all
 ·rw[if_neg hji]at hl
  have:=hD j o hj hl e he hb
  split<;>simp_all
theorem Ga{m:Nat}(yl:∀(j:Nat) (o:Oper),ops[j]? =some o→∀e∈o.after,Region.binds .any e=true→e.on<j)
  (Iv:∀i j:Nat,m≤j→j<ops.size→i<j→((Region.before ops).getD j 0).testBit i=true) {Q:Exit→Act→World→Prop} {R:AS→Prop} (hQ:∀S a w,R S→S.holds C a w→Q .normal a w):
  ∀(fuel k:Nat) (listed:Array Bool) (a:Act) (w:World) (S:AS) (acc:List Ac),m≤k→k≤ops.size→listed.size=ops.size→(∀i,i<ops.size→listed.getD i false=decide (i<k))→ops.size-k≤fuel→Down ops (fun i=>listed.getD i false)→
   RunT P C ops true (fun _ S=>R S) (ops.toList.drop k) acc S→S.holds C a w→wpAnyIn (Fr C.ro) 0 P .any ops Q fuel listed a w:=by
 intro fuel
 induction fuel with
 |zero=>
  intro k listed a w S acc hm hk hs hl hf hD hR hh
  obtain rfl:k=ops.size:=by omega
  rw[show ops.toList.drop ops.size=[] by simp]at hR
  refine⟨?_,hQ S a w hR hh⟩
  simp only[Region.ready,List.filter_eq_nil_iff,List.mem_range]
  intro i hi
  rw[lX listed i hs hi,hl i hi,decide_eq_true hi];simp
 |succ fuel ih=>
  intro k listed a w S acc hm hk hs hl hf hD hR hh
  refine⟨fun hr=>?_,fun i hi=>?_⟩
  ·have hall:=Co yl listed hs hr
   obtain rfl:k=ops.size:=by
    rcases Nat.lt_or_ge k ops.size with h|h
    ·have:=hall k h
     rw[hl k h]at this
     simp at this
    ·omega
   rw[show ops.toList.drop ops.size=[] by simp]at hR
   exact hQ S a w hR hh
  ·obtain⟨hi,Kn,eX,SO⟩:=AF hs hD hi
   have SP:i=k:=by
    have h1:¬i<k:=by rw[hl i hi]at Kn;simpa using Kn
    rcases Nat.lt_or_ge k i with h|h
    ·have hb:=Iv k i (by omega) hi h
     have:=lN SO i k hb (by simp[eX])
     rw[eX,if_neg (by omega),hl k (by omega)]at this
     simp at this
    ·omega
   subst SP
   have ho:ops[i]? =some ops[i]:=Array.getElem?_eq_getElem hi
   have abi:ops.toList.drop i=ops[i]::ops.toList.drop (i+1):=by
    rw[List.drop_eq_getElem_cons (by simpa using hi)];simp
   rw[abi]at hR
   have next:∀(S':AS) (acc':List Ac) (a':Act) (w':World),RunT P C ops true (fun _ S=>R S) (ops.toList.drop (i+1)) acc' S'→S'.holds C a' w'→wpAnyIn (Fr C.ro) 0 P .any ops Q fuel (listed.setIfInBounds i true) a' w':=by
    intro S' acc' a' w' h1 h2
    refine ih (i+1) _ a' w' S' acc' (by omega) hi (by simp[hs]) (fun j hj=>?_) (by omega) SO h1 h2
    rw[eX]
    by_cases hji:j=i
    ·rw[if_pos hji];simp[hji]
    ·rw[if_neg hji,hl j hj,decide_eq_decide];omega
   rcases hR with⟨rs,rb,rr,e,hop,Pd⟩|⟨_,Post,hop,Pd⟩
   ·exact hop S rfl (fun _ _=>rfl) (fun _ _=>rfl) (fun _ _=>rfl) i a w _ Q ho hh (fun a' w' Wu=>next _ _ a' w' Pd Wu)
   ·exact hop i a w _ Q ho hh (fun S' a' w' hp Wu=>next S' [] a' w' (Pd S' hp) Wu)
theorem Gb{m:Nat}(hT:Ov P C ops acts S)(Eb:yA ops m acts=true){Q:Exit→Act→World→Prop}
  (hQ:∀(fuel:Nat) (listed:Array Bool) a w,listed.size=ops.size→(∀i,i<ops.size→listed.getD i false=decide (i<m))→ops.size-m≤fuel→Down ops (fun i=>listed.getD i false)→(ov S (bH acts) (fun _=>true) m).holds C a w→wpAnyIn (Fr C.ro) 0 P .any ops Q fuel listed a w):
  ∀(fuel:Nat) (listed:Array Bool) (a:Act) (w:World),listed.size=ops.size→Ox ops.size listed≤fuel→Down ops (fun i=>listed.getD i false)→(∀i,listed.getD i false=true→i<m)→
   (ov S (bH acts) (fun i=>listed.getD i false) m).holds C a w→wpAnyIn (Fr C.ro) 0 P .any ops Q fuel listed a w:=by
 obtain⟨hlen,hmn,yl,zE,Iv⟩:=uA Eb
 have whole:∀(fuel:Nat) (listed:Array Bool) (a:Act) (w:World),listed.size=ops.size→Ox ops.size listed≤fuel→Down ops (fun i=>listed.getD i false)→(∀i,listed.getD i false=true→i<m)→
   (ov S (bH acts) (fun i=>listed.getD i false) m).holds C a w→(∀i,i<m→listed.getD i false=true)→wpAnyIn (Fr C.ro) 0 P .any ops Q fuel listed a w:=by
  intro fuel listed a w hs hu hD hL hh hall
  refine hQ fuel listed a w hs (fun i hi=>?_) ?_ hD ?_
  ·by_cases h:i<m
   ·rw[hall i h,decide_eq_true h]
   ·rw[decide_eq_false h]
    cases e:listed.getD i false with
    |false=>rfl
    |true=>exact absurd (hL i e) h
  ·have hsub:(List.range ops.size).filter (fun i=>!decide (i<m))=(List.range ops.size).filter fun i=>!listed.getD i true:=by
    apply List.filter_congr
    intro i hi
    have hi:=List.mem_range.1 hi
    rw[lX listed i hs hi]
    by_cases h:i<m
    ·rw[hall i h,decide_eq_true h]
    ·rw[decide_eq_false h]
     cases e:listed.getD i false with
     |false=>rfl
     |true=>exact absurd (hL i e) h
   have WW:∀n,m≤n→((List.range n).filter (fun i=>!decide (i<m))).length=n-m:=by
    intro n
    induction n with
    |zero=>intro h;simp
    |succ n ih=>
     intro h
     rw[List.range_succ,List.filter_append,List.length_append]
     rcases Nat.lt_or_ge n m with q|q
     ·obtain rfl:m=n+1:=by omega
      have h1:((List.range n).filter (fun i=>!decide (i<n+1)))=[]:=by
       rw[List.filter_eq_nil_iff];intro i hi;have:=List.mem_range.1 hi;simp;omega
      rw[h1];simp
     ·rw[ih q,List.filter_cons,decide_eq_false (by omega:¬n<m)];simp;omega
   have h2:Ox ops.size listed=ops.size-m:=by unfold Ox;rw[←hsub,WW _ hmn]
   omega
  ·rwa[nL S (bH acts) (L:=fun i=>listed.getD i false) (L':=fun _=>true) m hall]at hh
 intro fuel
 induction fuel with
 |zero=>
  intro listed a w hs hu hD hL hh
  refine whole 0 listed a w hs hu hD hL hh (fun i hi=>?_)
  cases Kn:listed.getD i false with
  |true=>rfl
  |false=>
   exfalso
   have hm:i∈(List.range ops.size).filter fun i=>!listed.getD i true:=by
    rw[List.mem_filter];exact⟨List.mem_range.2 (by omega),by rw[lX listed i hs (by omega),Kn];rfl⟩
   have:0<Ox ops.size listed:=List.length_pos_of_mem hm
   omega
 |succ fuel ih=>
  intro listed a w hs hu hD hL hh
  by_cases hall:∀i,i<m→listed.getD i false=true
  ·exact whole _ listed a w hs hu hD hL hh hall
  have hex:∃i,i<m∧listed.getD i false=false:=Classical.byContradiction (fun hc=>hall (fun i hi=>by
   cases e:listed.getD i false with
   |true=>rfl
   |false=>exact absurd ⟨i,hi,e⟩ hc))
  obtain⟨i0,Vc,hl0⟩:=hex
  refine⟨fun hr=>?_,fun i hi=>?_⟩
  ·have:=Co yl listed hs hr i0 (by omega)
   rw[hl0]at this;cases this
  ·have hi':=hi
   obtain⟨hi,Ec,eX,SO⟩:=AF hs hD hi
   have ho:ops[i]? =some ops[i]:=Array.getElem?_eq_getElem hi
   have him:i<m:=by
    rcases Nat.lt_or_ge i m with h|h
    ·exact h
    ·have hb:=Iv i0 i h hi (by omega)
     have:=lN SO i i0 hb (by simp[eX])
     rw[eX,if_neg (by omega),hl0]at this
     cases this
   have SN:i<acts.length:=by omega
   have hx:acts[i]? =some acts[i]:=List.getElem?_eq_getElem SN
   have Wt:bH acts i=acts[i].e:=by simp[bH,SN]
   have later:∀k,i<k→listed.getD k false=true→(acts[i]).mR ((acts[k]?).getD ⟨[],[],[],⟨none,[],[]⟩⟩)=false:=by
    intro k hk hlk
    have hkn:k<m:=hL k hlk
    have hka:acts[k]? =some acts[k]:=List.getElem?_eq_getElem (by omega)
    rw[hka,Option.getD_some]
    cases hc:(acts[i]).mR acts[k]with
    |false=>rfl
    |true=>
     have hb:=zE i k _ _ hx hka hk hc
     have:=lN hD k i hb hlk
     simp only[Ec]at this
     exact absurd this (by simp)
   have FR:∀k,k<i→listed.getD k false=false→((acts[k]?).getD ⟨[],[],[],⟨none,[],[]⟩⟩).mR acts[i]=false:=by
    intro k hk hlk
    have hka:acts[k]? =some acts[k]:=List.getElem?_eq_getElem (by omega)
    rw[hka,Option.getD_some]
    cases hc:(acts[k]).mR acts[i]with
    |false=>rfl
    |true=>
     have hb:=zE k i _ _ hka hx hk hc
     have:=lN SO i k hb (by simp[eX])
     rw[eX,if_neg (by omega),hlk]at this
     exact absurd this (by simp)
   have Ko:∀k,((acts[k]?).getD ⟨[],[],[],⟨none,[],[]⟩⟩).e=bH acts k:=by
    intro k;unfold bH;cases acts[k]? <;>rfl
   have ja:∀{x y:Ac},x.mR y=false→(∀d∈x.e.ks,d∉y.rs∧d∉y.e.ks)∧(∀d∈y.e.ks,d∉x.rs)∧(∀d∈x.e.kb,d∉y.rb∧d∉y.e.kb)∧(∀d∈y.e.kb,d∉x.rb)∧(∀d∈x.e.kr,d∉y.rr∧d∉y.e.kr)∧(∀d∈y.e.kr,d∉x.rr):=by
    intro x y h
    simp only[Ac.mR,Bool.or_eq_false_iff]at h
    exact⟨fK h.1.1.1.1.1,fun d hd=>(fK h.1.1.1.1.2 d hd).1,fK h.1.1.1.2,fun d hd=>(fK h.1.1.2 d hd).1,fK h.1.2,fun d hd=>(fK h.2 d hd).1⟩
   have look:∀{α:Type} (get:AS→Nat→α) (wr:qk→Nat→Option α) (eX:∀S e s,get (S.app e) s=(wr e s).getD (get S s)) (rk:Ac→List Nat) (wk:qk→List Nat)
     (hk:∀e s,wr e s≠none→s∈wk e) (c1:∀x y:Ac,x.mR y=false→(∀d∈wk x.e,d∉rk y)∧(∀d∈wk y.e,d∉rk x)),∀s∈rk acts[i],
     get (ov S (bH acts) (fun q=>listed.getD q false) m) s=get (ov S (bH acts) (fun _=>true) i) s:=by
    intro α get wr eX rk wk hk c1 s Ed
    rw[LS get wr eX S (bH acts) _ s i m (by omega)]
    ·refine HZ get wr eX S (bH acts) _ _ s i fun m hm hw=>?_
     cases EN:listed.getD m false with
     |true=>rfl
     |false=>
      have:=(c1 _ _ (FR m hm EN)).1 s (by rw[Ko];exact hk _ _ hw)
      exact absurd Ed this
    ·intro m hm1 Oe EN
     cases hw:wr (bH acts m) s with
     |none=>rfl
     |some x=>
      exfalso
      rcases Nat.lt_or_ge i m with h|h
      ·have:=(c1 _ _ (later m h EN)).2 s (by rw[Ko];exact hk _ _ (by rw[hw];simp))
       exact this Ed
      ·obtain rfl:m=i:=by omega
       simp only[Ec]at EN
       exact absurd EN (by simp)
   refine hT i ops[i] acts[i] ho hx (ov S (bH acts) (fun q=>listed.getD q false) m) (by rw[Ou,Ou]) ?_ ?_ ?_ i a w _ Q ho hh ?_
   ·exact look AS.t wT AS.HV Ac.rs qk.ks (fun _ _ h=>FP h) (fun x y h=>⟨fun d hd=>((ja h).1 d hd).1,(ja h).2.1⟩)
   ·exact look AS.b (fun e=>rj e.bx) AS.HW Ac.rb qk.kb (fun _ _ h=>ru h) (fun x y h=>⟨fun d hd=>((ja h).2.2.1 d hd).1,(ja h).2.2.2.1⟩)
   ·exact look AS.r (fun e=>dh e.rw) AS.HX Ac.rr qk.kr (fun _ _ h=>ry h) (fun x y h=>⟨fun d hd=>((ja h).2.2.2.2.1 d hd).1,(ja h).2.2.2.2.2⟩)
   ·intro a' w' Wu
    refine ih (listed.setIfInBounds i true) a' w' (by simp[hs]) ?_ SO ?_ ?_
    ·have:=Oy hi hs (by rw[lX listed i hs hi];exact Ec)
     omega
    ·intro k hk
     rw[eX]at hk
     by_cases SP:k=i
     ·omega
     ·rw[if_neg SP]at hk;exact hL k hk
    ·
     have heq:ov S (bH acts) (fun q=>(listed.setIfInBounds i true).getD q false) m=(ov S (bH acts) (fun q=>listed.getD q false) m).app acts[i].e:=by
      have hsm:∀k,k≤i→ov S (bH acts) (fun q=>(listed.setIfInBounds i true).getD q false) k=ov S (bH acts) (fun q=>listed.getD q false) k:=fun k hk=>
       nL S (bH acts) k (fun m hm=>by rw[eX,if_neg (by omega)])
      have step:∀k,i<k→k≤m→ov S (bH acts) (fun q=>(listed.setIfInBounds i true).getD q false) k=(ov S (bH acts) (fun q=>listed.getD q false) k).app acts[i].e:=by
       intro k hk hkn
       induction k with
       |zero=>omega
       |succ k ihk=>
        by_cases SP:k=i
        ·subst SP
         show(if(listed.setIfInBounds k true).getD k false then _ else _)=AS.app (if listed.getD k false then _ else _) _
         rw[eX,if_pos rfl,if_pos rfl,Ec,hsm k (Nat.le_refl _),Wt]
         rfl
        ·have ih2:=ihk (by omega) (by omega)
         show(if(listed.setIfInBounds i true).getD k false then(ov S (bH acts) (fun q=>(listed.setIfInBounds i true).getD q false) k).app (bH acts k)else ov S (bH acts) (fun q=>(listed.setIfInBounds i true).getD q false) k)=AS.app (if listed.getD k false then(ov S (bH acts) (fun q=>listed.getD q false) k).app (bH acts k)else ov S (bH acts) (fun q=>listed.getD q false) k) _
         rw[eX,if_neg SP,ih2]
         cases hlk:listed.getD k false with
         |false=>rfl
         |true=>
          rw[if_pos rfl,if_pos rfl]
          have hc:=ja (later k (by omega) hlk)
          rw[Ko]at hc
          have two:∀{α:Type} (get:AS→Nat→α) (wr:qk→Nat→Option α) (eX:∀S e s,get (S.app e) s=(wr e s).getD (get S s)) (wk:qk→List Nat) (hk:∀e s,wr e s≠none→s∈wk e)
            (c1:∀d∈wk acts[i].e,d∉wk (bH acts k)) (T:AS) (s:Nat),get ((T.app acts[i].e).app (bH acts k)) s=get ((T.app (bH acts k)).app acts[i].e) s:=by
           intro α get wr eX wk hk c1 T s
           rw[eX,eX,eX,eX]
           cases h1:wr acts[i].e s with
           |none=>rfl
           |some x=>
            cases h2:wr (bH acts k) s with
            |none=>rfl
            |some y=>exact absurd (hk _ s (by rw[h2];simp)) (c1 s (hk _ s (by rw[h1];simp)))
          refine AS.ext' (by simp[AS.Ot]) (fun s=>?_) (fun s=>?_) (fun s=>?_) (by simp[AS.EM]) (by simp[AS.EM])
          ·exact two AS.t wT AS.HV qk.ks (fun _ _ h=>FP h) (fun d hd=>(hc.1 d hd).2) _ s
          ·exact two AS.b (fun e=>rj e.bx) AS.HW qk.kb (fun _ _ h=>ru h) (fun d hd=>(hc.2.2.1 d hd).2) _ s
          ·exact two AS.r (fun e=>dh e.rw) AS.HX qk.kr (fun _ _ h=>ry h) (fun d hd=>(hc.2.2.2.2.1 d hd).2) _ s
      exact step m him (Nat.le_refl _)
     rw[heq];exact Wu
end part
theorem Nq{P:Program}{C:Ctx}{ops:Array Oper}{K:List Ac→AS→Prop}(rest:List Oper)(S:AS)(h:RunT P C ops false K rest [] S):
  ∃xs:List Ac,xs.length=rest.length∧(∀(i:Nat) (o:Oper) (x:Ac),rest[i]? =some o→xs[i]? =some x→SM P C ops o x.rs x.rb x.rr (ov S (bH xs) (fun _=>true) i) x.e)∧K xs.reverse (ov S (bH xs) (fun _=>true) rest.length):=by
 obtain⟨xs,h1,h2,h3⟩:=zF rest [] S h
 exact⟨xs,h1,h2,by simpa using h3⟩
theorem Cp{P:Program}{C:Ctx}{id:Nat}{ops:Array Oper}{S:AS}{Q:Exit→AS→Prop}(m:Nat)(hm:P.follows .mixedOrders=true)
  (h:RunT P C ops false (fun acc S=>yA ops m acc.reverse=true∧RunT P C ops true (fun _ S=>Q .normal S) (ops.toList.drop m) [] S) (ops.toList.take m) [] S):Ok P C (.region id ops true) S Q:=fun a w hs=>by
 obtain⟨xs,hl,hxs,Eb,hq⟩:=Nq _ _ h
 rw[List.reverse_reverse]at Eb
 obtain⟨hlen,hmn,yl,zE,Iv⟩:=uA Eb
 have EN:(ops.toList.take m).length=m:=by simp;omega
 rw[EN]at hq
 refine wpIn_region_any hm ?_
 refine Gb (acts:=xs) (S:=S) (m:=m) (fun i o x ho hx=>hxs i o x ?_ hx) Eb (fun fuel listed a w h1 h2 h3 h4 h5=>Ga (m:=m) yl Iv (R:=fun S=>Q .normal S) (fun S a w hR hh=>⟨S,hR,hh⟩) fuel m listed a w _ [] (Nat.le_refl _) hmn h1 h2 h3 h4 hq h5) ops.size _ a _ (by simp) ?_ ?_ ?_ ?_
 ·have hi:i<m:=by
   have:=(List.getElem?_eq_some_iff.1 hx).1;omega
  rw[List.getElem?_take_of_lt hi];simpa using ho
 ·have:=List.length_filter_le (fun i=>!(Array.replicate ops.size false).getD i true) (List.range ops.size)
  simpa[Ox]using this
 ·intro j o _ hj
  exfalso
  simp only[Array.getD_eq_getD_getElem?,Array.getElem?_replicate]at hj
  split at hj<;>simp at hj
 ·intro i hi
  exfalso
  simp only[Array.getD_eq_getD_getElem?,Array.getElem?_replicate]at hi
  split at hi<;>simp at hi
 ·rw[nL S (bH xs) (L':=fun _=>false) m (fun i hi=>by rw[Array.getD_eq_getD_getElem?,Array.getElem?_replicate];split<;>rfl)]
  have:∀k,ov S (bH xs) (fun _=>false) k=S:=by
   intro k;induction k with
   |zero=>rfl
   |succ k ih=>simpa[ov]using ih
  rw[this]
  exact hs.drew
end Go.Fw
namespace Go.Fw
open Go.RowKit
instance{g:FuncId}{caps:List SV}:One (iC g caps):=⟨fun _ _ h=>by obtain⟨vs,rfl,_⟩:=h;rfl⟩
section steps
variable {P:Program}{C:Ctx}{ops:Array Oper}{S:AS}{nd:Bool}{K:List Ac→AS→Prop}{rest:List Oper}{acc:List Ac}
variable {gd:Option (Nat×Bool)}{rg:List Nat}{d:Nat}{ty:TypeId}{pos:String}{aft:Array Edge}{x y z:Operand}{T U E0:TypeId}
theorem RT.vR(hg:Gd ops S gd rg){g:FuncId}{xs:Array Operand}{caps:List SV}(hc:gN S xs.toList caps)(hd:d<S.n)
  (next:RunT P C ops nd K rest (⟨rg++xs.toList.flatMap aq,[],[],⟨some (d,.sv (iC g caps)),[],[]⟩⟩::acc) (S.set d (.sv (iC g caps)))):RunT P C ops nd K (⟨some d,.makeFunc (.func g) #[] xs,ty,pos,aft,gd⟩::rest) acc S:=
 RT.value hg (xs.toList.flatMap aq) [] [] (.sv (iC g caps)) hd (by intro c h;cases h) (fun S' ht _ _ E a w h=>by
  have h1:=gN.vals h hc ht
  refine⟨.func (.func g) #[] ⟨xs.toList.map a.eval⟩,?_,⟨_,rfl,h1⟩,eY⟩
  have e2:xs.map a.eval=⟨xs.toList.map a.eval⟩:=by apply Array.ext';simp
  simp[execOp,Instr.makeFunc,e2]) next
theorem RT.Vd(hg:Gd ops S gd rg){f:FuncId}[bF P f]{g:Operand}{xs:Array Operand}{at_:Array TypeId}{args caps:List SV}{r:SV}(hp:Pure P f (args++caps) r)(hf:S.ev g=.sv (iC f caps))(hargs:gN S xs.toList args)(hd:d<S.n)
  (next:RunT P C ops nd K rest (⟨rg++(aq g++xs.toList.flatMap aq),[],[],⟨some (d,.sv r),[],[]⟩⟩::acc) (S.set d (.sv r))):RunT P C ops nd K (⟨some d,.call ⟨.value g,xs,at_⟩,ty,pos,aft,gd⟩::rest) acc S:=by
 refine .inl ⟨_,[],[],_,?_,next⟩
 rintro S' hn ht _ _ i a w L Q ho ⟨E,h⟩ hL
 refine bW (C:=C) ho (hg.wanted h (fun s hs=>ht s (List.mem_append_left _ hs)) rfl) ?_
 have tW:(iC f caps).h E.M (a.eval g):=by
  have h1:=h.ev g;rw[aJ (fun _ h=>List.mem_append_right _ (List.mem_append_left _ h)) ht,hf]at h1;exact h1
 obtain⟨oK,tW,yg⟩:=tW
 have hall:=SV.dH.append (gN.vals h hargs (fun s hs=>ht s (List.mem_append_right _ (List.mem_append_right _ hs)))) yg
 have hr:(execOp a.eval ⟨some d,.call ⟨.value g,xs,at_⟩,ty,pos,aft,gd⟩).run P w=.ok (.enter f ⟨xs.toList.map a.eval++oK⟩) w:=by
  have e2:xs.map a.eval++⟨oK⟩=⟨xs.toList.map a.eval++oK⟩:=by apply Array.ext';simp
  have e1:=bF.run (P:=P) (f:=f) (xs.map a.eval++⟨oK⟩) w
  rw[←e2]
  simp[execOp,resolve,tW,Deferred.ofValue,invoke,e1]
 refine bR (C:=C) (by intro c h;cases h) hr ?_
 refine⟨fun h=>by simp at h,gB ((hp E.M w _ h.cI hall).mono ?_)⟩
 rintro e w' ⟨v,M',rfl,hM,hnew,hin,hv,hb⟩
 exact hL _ _ ⟨_,(h.grow hM hnew hin hb).put (x:=.sv r) hv (by show d<S'.n;omega) eY⟩
end steps
end Go.Fw
namespace Go.Fw.Z
open Go.Fw
theorem T{d n:Nat}(h:Nat.ble (d+1) n=true:=by exact rfl):d<n:=tl h
theorem bE{α β:Type}{x:Option α}{f:α→Option β}{r:β}{G:Prop}(h:Option.bind x f=some r)(k:∀a,x=some a→f a=some r→G):G:=by obtain⟨a,h1,h2⟩:=bind_some h;exact k a h1 h2
theorem lE{α β:Type}{v:α}{f:α→Option β}{r:β}{G:Prop}(h:Option.bind (some v) f=some r)(k:∀a,v=a→f a=some r→G):G:=k v rfl h
theorem bS{α β:Type}{x:Option α}{f:α→Option β}{r:β}(h:Option.bind x f=some r):∃a,x=some a∧f a=some r:=bind_some h
theorem F{α:Type}{x y:Option α}{r:α}(h:(bif false then x else y)=some r):y=some r:=h
theorem V{α:Type}{x y:Option α}{r:α}(h:(bif true then x else y)=some r):x=some r:=h
theorem O{α:Type}{a b:α}(h:some a=some b):a=b:=Option.some.inj h
def AB(l:List (Nat×Nat))(i:Nat):Nat:=((l.find? fun p=>Nat.beq p.1 i).map (·.2)).getD i
def rnA(l:List (Nat×Nat)):AV→AV
 |.row i=>.row (AB l i)
 |.oe i o n=>.oe (AB l i) o n
 |x=>x
def noR:AV→Bool
 |.jI _ _=>false
 |.cmp _ _=>false
 |_=>true
theorem avi(l:List (Nat×Nat)){x:AV}(h:noR x=true):Ng (AB l) (rnA l x) x:=by
 cases x with
 |sv s=>exact .sv (SV.aa _)
 |ptr i o=>exact .ptr
 |FN i o n c=>exact .FN
 |row i=>exact .row rfl
 |jI i k=>cases h
 |oe i o n=>exact .oe rfl
 |eU g js=>exact .eU
 |cmp t js=>cases h
theorem abj(l:List (Nat×Nat)):∀{xs:List AV},(xs.all noR)=true→Kt (AB l) (xs.map (rnA l)) xs
 |[],_=>trivial
 |x::xs,h=>by simp only[List.all_cons,Bool.and_eq_true]at h;exact⟨avi l h.1,abj l h.2⟩
theorem wR(l:List (Nat×Nat)){S:AS}{n:Nat}{ts:List (Nat×AV)}{bs:List (Nat×oG)}{rs:List (Nat×Row)}{g:Nat}{go:Bool}
  (ht:ts.map (fun p=>S.t p.1)=ts.map (fun p=>rnA l p.2):=by exact rfl) (hb:bs.map (fun p=>S.b p.1)=bs.map (fun p=>some ⟨p.2.T,p.2.cells.map (rnA l)⟩):=by exact rfl) (hr:rs.map (fun p=>S.r (AB l p.1))=rs.map (fun p=>.live p.2):=by exact rfl)
  (hn:S.n=n:=by exact rfl) (hg:S.g=g:=by exact rfl) (SR:S.go=go:=by exact rfl)
  (hwf:((ts.all fun p=>p.2.qO bs rs)&&(bs.all fun p=>p.2.cells.all fun x=>x.qO bs rs))=true:=by exact rfl) (hσ:((rs.all fun p=>rs.all fun q=>!(Nat.beq (AB l p.1) (AB l q.1))||Nat.beq p.1 q.1))=true:=by exact rfl)
  (hno:((ts.all fun p=>noR p.2)&&(bs.all fun p=>p.2.cells.all noR))=true:=by exact rfl) (hl:(l.all fun p=>Nat.ble (p.1+1) 1000)=true:=by exact rfl):ud S (AS.bJ n ts bs rs g go):=by
 simp only[Bool.and_eq_true,List.all_eq_true]at hno
 refine cy (AB l) hn hg SR hwf hσ ?_ ?_ ?_ ?_
 ·clear hwf hb hr
  obtain⟨h,-⟩:=hno
  induction ts with
  |nil=>trivial
  |cons p ts ih=>
   obtain⟨k,x⟩:=p
   simp only[List.map_cons,List.cons.injEq]at ht
   refine⟨?_,ih ht.2 (fun q hq=>h q (by simp[hq]))⟩
   show Ng _ (S.t k) x
   rw[ht.1];exact avi l (h (k,x) (by simp))
 ·clear hwf ht hr
  obtain⟨-,h⟩:=hno
  induction bs with
  |nil=>trivial
  |cons p bs ih=>
   obtain⟨k,x⟩:=p
   simp only[List.map_cons,List.cons.injEq]at hb
   exact⟨⟨_,hb.1,abj l (List.all_eq_true.2 (h (k,x) (by simp)))⟩,ih hb.2 (fun q hq=>h q (by simp[hq]))⟩
 ·clear hwf ht hb hσ
  induction rs with
  |nil=>trivial
  |cons p rs ih=>
   obtain⟨k,x⟩:=p
   simp only[List.map_cons,List.cons.injEq]at hr
   exact⟨⟨_,hr.1,bB.refl _⟩,ih hr.2⟩
 ·intro i hi
  unfold AB
  have:l.find? (fun p=>Nat.beq p.1 i)=none:=by
   rw[List.find?_eq_none]
   intro p hp e
   have h1:=Nat.le_of_ble_eq_true (List.all_eq_true.1 hl p hp)
   have h2:=Nat.eq_of_beq_eq_true e
   omega
  rw[this];rfl
section
variable {P:Program}{C:Ctx}{S:AS}{Q:Exit→AS→Prop}
theorem qq{x y:Code}(h:Ok P C x S (ae (fun S'=>Ok P C y S' Q) Q)):Ok P C (.seq x y) S Q:=aS h
theorem sr{id:Nat}{ops:Array Oper}{y:Code}(h:RunT P C ops true (fun _ S=>ae (fun S'=>Ok P C y S' Q) Q .normal S) ops.toList [] S):Ok P C (.seq (.region id ops false) y) S Q:=aS (af h)
theorem dn{ops:Array Oper}{acc:List Ac}{next:AS→Prop}(h:next S):RunT P C ops true (fun _ S=>ae next Q .normal S) [] acc S:=h
theorem cF{c:Operand}{x y:Code}(hf:Ok P C y S Q)(hc:S.ev c=.sv (.v (.bool false)):=by exact rfl):Ok P C (.cond c x y) S Q:=eV hc hf
theorem cT{c:Operand}{x y:Code}(ht:Ok P C x S Q)(hc:S.ev c=.sv (.v (.bool true)):=by exact rfl):Ok P C (.cond c x y) S Q:=cU hc ht
theorem fs{c:Operand}{x:Code}{next:AS→Prop}(h:next S)(hc:S.ev c=.sv (.v (.bool false)):=by exact rfl):Ok P C (.cond c x .skip) S (ae next Q):=eV hc (aH h)
theorem R1{A:Prop}{e:Exit}{t:Nat}{s:SV}(h:S.t t=.sv s):(A∨e=e)∧Og P S [.tmp t] s:=⟨.inr rfl,gL (.tmp h .nil) (SV.aa _)⟩
theorem R2{A:Prop}{e:Exit}{t u:Nat}{s s':SV}(h:S.t t=.sv s)(h':S.t u=.sv s'):(A∨e=e)∧Og P S [.tmp t,.tmp u] (.wm [s,s']):=⟨.inr rfl,gL (.tmp h (.tmp h' .nil)) (SV.aa _)⟩
theorem RZ{A:Prop}{e:Exit}{rs:List ResultVar}{ss:List SV}{r:SV}(h:Oi P S rs ss)(h':SV.imp (OO ss) r:=by exact SV.aa _):(A∨e=e)∧Og P S rs r:=⟨.inr rfl,gL h h'⟩
end
section
variable {P:Program}{C:Ctx}{ops:Array Oper}{S:AS}{nd:Bool}{K:List Ac→AS→Prop}{rest:List Oper}{acc:List Ac}
variable {gd:Option (Nat×Bool)}{rg:List Nat}{d:Nat}{ty:TypeId}{pos:String}{aft:Array Edge}{x y z:Operand}{T U:TypeId}{k:IntKind}{p q:Int}
theorem pF{s:SV}(hz:S.ev z=.sv s)(next:RunT P C ops nd K rest (⟨[]++(aq x++aq z),[],[],⟨some (d,.sv s),[],[]⟩⟩::acc) (S.set d (.sv s)))(hx:S.ev x=.sv (.v (.bool false)):=by exact rfl)(hd:d<S.n:=by exact tl rfl):RunT P C ops nd K (⟨some d,.pick x y z,ty,pos,aft,none⟩::rest) acc S:=
 RT.UU .none hx hz hd next
theorem pT{s:SV}(hy:S.ev y=.sv s)(next:RunT P C ops nd K rest (⟨[]++(aq x++aq y),[],[],⟨some (d,.sv s),[],[]⟩⟩::acc) (S.set d (.sv s)))(hx:S.ev x=.sv (.v (.bool true)):=by exact rfl)(hd:d<S.n:=by exact tl rfl):RunT P C ops nd K (⟨some d,.pick x y z,ty,pos,aft,none⟩::rest) acc S:=
 RT.UT .none hx hy hd next
theorem mo{s:AV}(hx:S.ev x=s)(next:RunT P C ops nd K rest (⟨[]++aq x,[],[],⟨some (d,s),[],[]⟩⟩::acc) (S.set d s))(hd:d<S.n:=by exact tl rfl):RunT P C ops nd K (⟨some d,.move x,ty,pos,aft,none⟩::rest) acc S:=
 RT.move .none hx hd next
theorem ad(c:Int)(hx:S.ev x=.sv (.v (.int k p)))(hy:S.ev y=.sv (.v (.int k q)))(hc:k.wrap (p+q)=c)(next:RunT P C ops nd K rest (⟨[]++(aq x++aq y),[],[],⟨some (d,.sv (.v (.int k c))),[],[]⟩⟩::acc) (S.set d (.sv (.v (.int k c)))))(hd:d<S.n:=by exact tl rfl):RunT P C ops nd K (⟨some d,.binOp .add T x y U,ty,pos,aft,none⟩::rest) acc S:=
 RT.add .none c hx hy hd hc next
theorem cv{j:IntKind}[tT:iV P T j][tU:iV P U k](c:Int){k':IntKind}(hx:S.ev x=.sv (.v (.int k' p)))(hc:k.wrap p=c)(next:RunT P C ops nd K rest (⟨[]++aq x,[],[],⟨some (d,.sv (.v (.int k c))),[],[]⟩⟩::acc) (S.set d (.sv (.v (.int k c)))))(hd:d<S.n:=by exact tl rfl):RunT P C ops nd K (⟨some d,.convert T U x,ty,pos,aft,none⟩::rest) acc S:=
 RT.conv .none c hx hd hc next
theorem ls(c:Bool)(hx:S.ev x=.sv (.v (.int k p)))(hy:S.ev y=.sv (.v (.int k q)))(hc:decide (p<q)=c)(next:RunT P C ops nd K rest (⟨[]++(aq x++aq y),[],[],⟨some (d,.sv (.v (.bool c))),[],[]⟩⟩::acc) (S.set d (.sv (.v (.bool c)))))(hd:d<S.n:=by exact tl rfl):RunT P C ops nd K (⟨some d,.binOp .lss T x y U,ty,pos,aft,none⟩::rest) acc S:=
 RT.lss .none c hx hy hd hc next
theorem sb(c:Int)(hx:S.ev x=.sv (.v (.int k p)))(hy:S.ev y=.sv (.v (.int k q)))(hc:k.wrap (p-q)=c)(next:RunT P C ops nd K rest (⟨[]++(aq x++aq y),[],[],⟨some (d,.sv (.v (.int k c))),[],[]⟩⟩::acc) (S.set d (.sv (.v (.int k c)))))(hd:d<S.n:=by exact tl rfl):RunT P C ops nd K (⟨some d,.binOp .sub T x y U,ty,pos,aft,none⟩::rest) acc S:=
 RT.sub .none c hx hy hd hc next
theorem an{s:AV}(hx:S.ev x=s)(next:RunT P C ops nd K rest (⟨[]++aq x,[],[],⟨some (d,s),[],[]⟩⟩::acc) (S.set d s))(hd:d<S.n:=by exact tl rfl):RunT P C ops nd K (⟨some d,.assign x,ty,pos,aft,none⟩::rest) acc S:=
 RT.assign .none hx hd next
theorem gt(c:Bool)(hx:S.ev x=.sv (.v (.int k p)))(hy:S.ev y=.sv (.v (.int k q)))(hc:decide (q<p)=c)(next:RunT P C ops nd K rest (⟨[]++(aq x++aq y),[],[],⟨some (d,.sv (.v (.bool c))),[],[]⟩⟩::acc) (S.set d (.sv (.v (.bool c)))))(hd:d<S.n:=by exact tl rfl):RunT P C ops nd K (⟨some d,.binOp .gtr T x y U,ty,pos,aft,none⟩::rest) acc S:=
 RT.gtr .none c hx hy hd hc next
theorem eq(c:Bool)(hx:S.ev x=.sv (.v (.int k p)))(hy:S.ev y=.sv (.v (.int k q)))(hc:(p==q)=c)(next:RunT P C ops nd K rest (⟨[]++(aq x++aq y),[],[],⟨some (d,.sv (.v (.bool c))),[],[]⟩⟩::acc) (S.set d (.sv (.v (.bool c)))))(hd:d<S.n:=by exact tl rfl):RunT P C ops nd K (⟨some d,.binOp .eql T x y U,ty,pos,aft,none⟩::rest) acc S:=
 RT.eql .none c hx hy hd hc next
theorem ne(c:Bool)(hx:S.ev x=.sv (.v (.int k p)))(hy:S.ev y=.sv (.v (.int k q)))(hc:(p != q)=c)(next:RunT P C ops nd K rest (⟨[]++(aq x++aq y),[],[],⟨some (d,.sv (.v (.bool c))),[],[]⟩⟩::acc) (S.set d (.sv (.v (.bool c)))))(hd:d<S.n:=by exact tl rfl):RunT P C ops nd K (⟨some d,.binOp .neq T x y U,ty,pos,aft,none⟩::rest) acc S:=
 RT.neq .none c hx hy hd hc next
theorem ge(c:Bool)(hx:S.ev x=.sv (.v (.int k p)))(hy:S.ev y=.sv (.v (.int k q)))(hc:decide (q≤p)=c)(next:RunT P C ops nd K rest (⟨[]++(aq x++aq y),[],[],⟨some (d,.sv (.v (.bool c))),[],[]⟩⟩::acc) (S.set d (.sv (.v (.bool c)))))(hd:d<S.n:=by exact tl rfl):RunT P C ops nd K (⟨some d,.binOp .geq T x y U,ty,pos,aft,none⟩::rest) acc S:=
 RT.geq .none c hx hy hd hc next
theorem nt{b:Bool}(hx:S.ev x=.sv (.v (.bool b)))(c:Bool)(hc:(!b)=c)(next:RunT P C ops nd K rest (⟨[]++aq x,[],[],⟨some (d,.sv (.v (.bool c))),[],[]⟩⟩::acc) (S.set d (.sv (.v (.bool c)))))(hd:d<S.n:=by exact tl rfl):RunT P C ops nd K (⟨some d,.unOp .not T x,ty,pos,aft,none⟩::rest) acc S:=
 RT.not .none hx hd c hc next
theorem gF{j_ g_:Nat}{gi:Bool}{s:SV}(hz:S.ev z=.sv s)(next:RunT P C ops nd K rest (⟨[g_]++(aq x++aq z),[],[],⟨some (d,.sv s),[],[]⟩⟩::acc) (S.set d (.sv s)))(Ek:(ops[j_]?).bind (·.dst)=some g_:=by exact rfl)(El:S.t g_=.sv (.v (.bool gi)):=by exact rfl)(hx:S.ev x=.sv (.v (.bool false)):=by exact rfl)(hd:d<S.n:=by exact tl rfl):RunT P C ops nd K (⟨some d,.pick x y z,ty,pos,aft,some (j_,gi)⟩::rest) acc S:=
 RT.UU (.some Ek El) hx hz hd next
theorem gT{j_ g_:Nat}{gi:Bool}{s:SV}(hy:S.ev y=.sv s)(next:RunT P C ops nd K rest (⟨[g_]++(aq x++aq y),[],[],⟨some (d,.sv s),[],[]⟩⟩::acc) (S.set d (.sv s)))(Ek:(ops[j_]?).bind (·.dst)=some g_:=by exact rfl)(El:S.t g_=.sv (.v (.bool gi)):=by exact rfl)(hx:S.ev x=.sv (.v (.bool true)):=by exact rfl)(hd:d<S.n:=by exact tl rfl):RunT P C ops nd K (⟨some d,.pick x y z,ty,pos,aft,some (j_,gi)⟩::rest) acc S:=
 RT.UT (.some Ek El) hx hy hd next
theorem gq{j_ g_:Nat}{gi:Bool}(c:Bool)(hx:S.ev x=.sv (.v (.int k p)))(hy:S.ev y=.sv (.v (.int k q)))(hc:(p != q)=c)(next:RunT P C ops nd K rest (⟨[g_]++(aq x++aq y),[],[],⟨some (d,.sv (.v (.bool c))),[],[]⟩⟩::acc) (S.set d (.sv (.v (.bool c)))))(Ek:(ops[j_]?).bind (·.dst)=some g_:=by exact rfl)(El:S.t g_=.sv (.v (.bool gi)):=by exact rfl)(hd:d<S.n:=by exact tl rfl):RunT P C ops nd K (⟨some d,.binOp .neq T x y U,ty,pos,aft,some (j_,gi)⟩::rest) acc S:=
 RT.neq (.some Ek El) c hx hy hd hc next
theorem gg{j_ g_:Nat}{gi:Bool}(c:Bool)(hx:S.ev x=.sv (.v (.int k p)))(hy:S.ev y=.sv (.v (.int k q)))(hc:decide (q<p)=c)(next:RunT P C ops nd K rest (⟨[g_]++(aq x++aq y),[],[],⟨some (d,.sv (.v (.bool c))),[],[]⟩⟩::acc) (S.set d (.sv (.v (.bool c)))))(Ek:(ops[j_]?).bind (·.dst)=some g_:=by exact rfl)(El:S.t g_=.sv (.v (.bool gi)):=by exact rfl)(hd:d<S.n:=by exact tl rfl):RunT P C ops nd K (⟨some d,.binOp .gtr T x y U,ty,pos,aft,some (j_,gi)⟩::rest) acc S:=
 RT.gtr (.some Ek El) c hx hy hd hc next
theorem ge_{j_ g_:Nat}{gi:Bool}(c:Bool)(hx:S.ev x=.sv (.v (.int k p)))(hy:S.ev y=.sv (.v (.int k q)))(hc:(p==q)=c)(next:RunT P C ops nd K rest (⟨[g_]++(aq x++aq y),[],[],⟨some (d,.sv (.v (.bool c))),[],[]⟩⟩::acc) (S.set d (.sv (.v (.bool c)))))(Ek:(ops[j_]?).bind (·.dst)=some g_:=by exact rfl)(El:S.t g_=.sv (.v (.bool gi)):=by exact rfl)(hd:d<S.n:=by exact tl rfl):RunT P C ops nd K (⟨some d,.binOp .eql T x y U,ty,pos,aft,some (j_,gi)⟩::rest) acc S:=
 RT.eql (.some Ek El) c hx hy hd hc next
theorem Ki{j_ g_:Nat}{gi:Bool}{b:Bool}(hx:S.ev x=.sv (.v (.bool b)))(c:Bool)(hc:(!b)=c)(next:RunT P C ops nd K rest (⟨[g_]++aq x,[],[],⟨some (d,.sv (.v (.bool c))),[],[]⟩⟩::acc) (S.set d (.sv (.v (.bool c)))))(Ek:(ops[j_]?).bind (·.dst)=some g_:=by exact rfl)(El:S.t g_=.sv (.v (.bool gi)):=by exact rfl)(hd:d<S.n:=by exact tl rfl):RunT P C ops nd K (⟨some d,.unOp .not T x,ty,pos,aft,some (j_,gi)⟩::rest) acc S:=
 RT.not (.some Ek El) hx hd c hc next
end
section
variable {P:Program}{C:Ctx}{ops:Array Oper}{S:AS}{nd:Bool}{K:List Ac→AS→Prop}{rest:List Oper}{acc:List Ac}
variable {gd:Option (Nat×Bool)}{rg:List Nat}{d:Nat}{ty:TypeId}{pos:String}{aft:Array Edge}{x y z:Operand}{T U E0:TypeId}
theorem mv{s:SV}(hx:S.ev x=.sv s)(next:RunT P C ops nd K rest (⟨[]++aq x,[],[],⟨some (d,.sv s),[],[]⟩⟩::acc) (S.set d (.sv s)))(hd:d<S.n:=by exact tl rfl):RunT P C ops nd K (⟨some d,.move x,ty,pos,aft,none⟩::rest) acc S:=
 RT.mv .none hx hd next
theorem ag{s:SV}(hx:S.ev x=.sv s)(next:RunT P C ops nd K rest (⟨[]++aq x,[],[],⟨some (d,.sv s),[],[]⟩⟩::acc) (S.set d (.sv s)))(hd:d<S.n:=by exact tl rfl):RunT P C ops nd K (⟨some d,.assign x,ty,pos,aft,none⟩::rest) acc S:=
 RT.EP .none hx hd next
theorem cl{f:FuncId}[bF P f]{g:Operand}{xs:Array Operand}{at_:Array TypeId}{args:List SV}{r:SV}(hp:Pure P f args r)(hargs:gN S xs.toList args)(next:RunT P C ops nd K rest (⟨[]++(aq g++xs.toList.flatMap aq),[],[],⟨some (d,.sv r),[],[]⟩⟩::acc) (S.set d (.sv r)))(hf:S.ev g=.sv (.v (.func (.func f) #[] #[])):=by exact rfl)(hd:d<S.n:=by exact tl rfl):RunT P C ops nd K (⟨some d,.call ⟨.value g,xs,at_⟩,ty,pos,aft,none⟩::rest) acc S:=
 RT.call .none hp hf hargs hd next
theorem ld{n:Nat}[tA:jr P T n]{j off:Nat}{B:oG}{cs:List SV}(hx:S.ev x=.ptr j off)(hB:S.b j=some B)(hcs:Of B.cells off cs)(next:RunT P C ops nd K rest (⟨[]++aq x,[j],[],⟨some (d,.sv (.agg cs)),[],[]⟩⟩::acc) (S.set d (.sv (.agg cs))))(hn:cs.length=n:=by exact rfl)(hd:d<S.n:=by exact tl rfl):RunT P C ops nd K (⟨some d,.load T x,ty,pos,aft,none⟩::rest) acc S:=
 RT.load .none hx hB hcs hn hd next
theorem lV[tV:bX P T]{j off:Nat}{B:oG}{s:SV}(hx:S.ev x=.ptr j off)(hB:S.b j=some B)(hn:B.cells[off]? =some (.sv s))(next:RunT P C ops nd K rest (⟨[]++aq x,[j],[],⟨some (d,.sv s),[],[]⟩⟩::acc) (S.set d (.sv s)))(hd:d<S.n:=by exact tl rfl):RunT P C ops nd K (⟨some d,.load T x,ty,pos,aft,none⟩::rest) acc S:=
 RT.sy .none hx hB hn hd next
theorem fa{f off:Nat}[hf:fU P T f off U][sU:fP P U]{j o:Nat}(hx:S.ev x=.ptr j o){o':Nat}(ho':o+off=o')(next:RunT P C ops nd K rest (⟨[]++aq x,[],[],⟨some (d,.ptr j o'),[],[]⟩⟩::acc) (S.set d (.ptr j o')))(hd:d<S.n:=by exact tl rfl):RunT P C ops nd K (⟨some d,.fieldAddr T x f,ty,pos,aft,none⟩::rest) acc S:=
 RT.fieldAddr .none hx hd ho' next
theorem so{n:Nat}[tA:jr P T n]{j:Nat}{B:oG}{cs:List SV}[o1:qN cs](hx:S.ev x=.ptr j 0)(hB:S.b j=some B)(hy:S.ev y=.sv (.agg cs))(next:RunT P C ops nd K rest (⟨[]++(aq x++aq y),[j],[],⟨none,[(j,⟨B.T,cs.map AV.sv⟩)],[]⟩⟩::acc) (S.kH j ⟨B.T,cs.map AV.sv⟩))(sq:cs.length=n:=by exact rfl)(hn:B.cells.length=n:=by exact rfl):RunT P C ops nd K (⟨none,.store T x y,ty,pos,aft,none⟩::rest) acc S:=
 RT.store .none hx hB hy sq hn next
theorem ex{i:Nat}{ss:List SV}{s:SV}(hx:S.ev x=.sv (.wm ss))(hi:ss[i]? =some s)(next:RunT P C ops nd K rest (⟨[]++aq x,[],[],⟨some (d,.sv s),[],[]⟩⟩::acc) (S.set d (.sv s)))(hd:d<S.n:=by exact tl rfl):RunT P C ops nd K (⟨some d,.extract x i,ty,pos,aft,none⟩::rest) acc S:=
 RT.extract .none hx hi hd next
theorem bx{cells:List SV}(hx:S.ev x=.sv (.agg cells))(next:RunT P C ops nd K rest (⟨[]++aq x,[d],[],⟨some (d,.ptr d 0),[(d,⟨T,cells.map AV.sv⟩)],[]⟩⟩::acc) ((S.kH d ⟨T,cells.map AV.sv⟩).set d (.ptr d 0)))(hd:d<S.n:=by exact tl rfl)(hb:S.b d=none:=by exact rfl)(hp:C.gP d=none:=by exact rfl):RunT P C ops nd K (⟨some d,.box T x,ty,pos,aft,none⟩::rest) acc S:=
 RT.box .none hx hd hb hp next
theorem lr[tV:bX P T]{cells:List SV}{s:SV}(hx:S.ev x=.sv (ref cells))(hn:cells[0]? =some s)(next:RunT P C ops nd K rest (⟨[]++aq x,[],[],⟨some (d,.sv s),[],[]⟩⟩::acc) (S.set d (.sv s)))(hd:d<S.n:=by exact tl rfl):RunT P C ops nd K (⟨some d,.load T x,ty,pos,aft,none⟩::rest) acc S:=
 RT.di .none hx hn hd next
theorem cB{f:FuncId}[bF P f]{g:Operand}{xs:Array Operand}{at_:Array TypeId}{args:List SV}{T:TypeId}{c0 c1:List SV}{res:SV}(hp:SZ P f args T c0 res c1)(j:Nat)(hB:S.b j=some ⟨T,c0.map AV.sv⟩)(hargs:gN S xs.toList args)(next:RunT P C ops nd K rest (⟨[]++(aq g++xs.toList.flatMap aq),[j],[],⟨some (d,.sv res),[(j,⟨T,c1.map AV.sv⟩)],[]⟩⟩::acc) ((AS.fG [(j,⟨T,c1.map AV.sv⟩)] S).set d (.sv res)))(hf:S.ev g=.eU f [.box j]:=by exact rfl)(hd:d<S.n:=by exact tl rfl):RunT P C ops nd K (⟨some d,.call ⟨.value g,xs,at_⟩,ty,pos,aft,none⟩::rest) acc S:=
 RT.aa2 .none hp j hB hf hargs hd next
theorem cN{f:FuncId}[bF P f]{g:Operand}{xs:Array Operand}{at_:Array TypeId}{args:List SV}{R:Row}(hp:F2 P f args R)(hargs:gN S xs.toList args)(next:RunT P C ops nd K rest (⟨[]++(aq g++xs.toList.flatMap aq),[],[d],⟨some (d,.row d),[],[(d,.live R)]⟩⟩::acc) ((AS.bC [(d,.live R)] S).set d (.row d)))(hf:S.ev g=.sv (.v (.func (.func f) #[] #[])):=by exact rfl)(hd:d<S.n:=by exact tl rfl)(yp:S.r d=.un:=by exact rfl)(wL:d<1000:=by exact tl rfl):RunT P C ops nd K (⟨some d,.call ⟨.value g,xs,at_⟩,ty,pos,aft,none⟩::rest) acc S:=
 RT.aa1 .none hp hf hargs hd yp wL next
theorem gm{j_ g_:Nat}{gi:Bool}{s:SV}(hx:S.ev x=.sv s)(next:RunT P C ops nd K rest (⟨[g_]++aq x,[],[],⟨some (d,.sv s),[],[]⟩⟩::acc) (S.set d (.sv s)))(Ek:(ops[j_]?).bind (·.dst)=some g_:=by exact rfl)(El:S.t g_=.sv (.v (.bool gi)):=by exact rfl)(hd:d<S.n:=by exact tl rfl):RunT P C ops nd K (⟨some d,.move x,ty,pos,aft,some (j_,gi)⟩::rest) acc S:=
 RT.mv (.some Ek El) hx hd next
theorem gl{j_ g_:Nat}{gi:Bool}{n:Nat}[tA:jr P T n]{j off:Nat}{B:oG}{cs:List SV}(hx:S.ev x=.ptr j off)(hB:S.b j=some B)(hcs:Of B.cells off cs)(next:RunT P C ops nd K rest (⟨[g_]++aq x,[j],[],⟨some (d,.sv (.agg cs)),[],[]⟩⟩::acc) (S.set d (.sv (.agg cs))))(Ek:(ops[j_]?).bind (·.dst)=some g_:=by exact rfl)(El:S.t g_=.sv (.v (.bool gi)):=by exact rfl)(hn:cs.length=n:=by exact rfl)(hd:d<S.n:=by exact tl rfl):RunT P C ops nd K (⟨some d,.load T x,ty,pos,aft,some (j_,gi)⟩::rest) acc S:=
 RT.load (.some Ek El) hx hB hcs hn hd next
theorem gc{j_ g_:Nat}{gi:Bool}{f:FuncId}[bF P f]{g:Operand}{xs:Array Operand}{at_:Array TypeId}{args:List SV}{r:SV}(hp:Pure P f args r)(hargs:gN S xs.toList args)(next:RunT P C ops nd K rest (⟨[g_]++(aq g++xs.toList.flatMap aq),[],[],⟨some (d,.sv r),[],[]⟩⟩::acc) (S.set d (.sv r)))(Ek:(ops[j_]?).bind (·.dst)=some g_:=by exact rfl)(El:S.t g_=.sv (.v (.bool gi)):=by exact rfl)(hf:S.ev g=.sv (.v (.func (.func f) #[] #[])):=by exact rfl)(hd:d<S.n:=by exact tl rfl):RunT P C ops nd K (⟨some d,.call ⟨.value g,xs,at_⟩,ty,pos,aft,some (j_,gi)⟩::rest) acc S:=
 RT.call (.some Ek El) hp hf hargs hd next
theorem gr{j_ g_:Nat}{gi:Bool}[tV:bX P T]{cells:List SV}{s:SV}(hx:S.ev x=.sv (ref cells))(hn:cells[0]? =some s)(next:RunT P C ops nd K rest (⟨[g_]++aq x,[],[],⟨some (d,.sv s),[],[]⟩⟩::acc) (S.set d (.sv s)))(Ek:(ops[j_]?).bind (·.dst)=some g_:=by exact rfl)(El:S.t g_=.sv (.v (.bool gi)):=by exact rfl)(hd:d<S.n:=by exact tl rfl):RunT P C ops nd K (⟨some d,.load T x,ty,pos,aft,some (j_,gi)⟩::rest) acc S:=
 RT.di (.some Ek El) hx hn hd next
end
section
variable {P:Program}{C:Ctx}{ops:Array Oper}{S:AS}{nd:Bool}{K:List Ac→AS→Prop}{rest:List Oper}{acc:List Ac}
variable {gd:Option (Nat×Bool)}{rg:List Nat}{d:Nat}{ty:TypeId}{pos:String}{aft:Array Edge}{x y z:Operand}{T U E0:TypeId}
variable {l l' k:Sy}
theorem ww{op:Op}{j g:Nat}{b want:Bool}(next:RunT P C ops nd K rest (⟨[g],[],[],⟨some (d,.sv (.v undef)),[],[]⟩⟩::acc) (S.set d (.sv (.v undef))))(h1:(ops[j]?).bind (·.dst)=some g:=by exact rfl)(h2:S.t g=.sv (.v (.bool b)):=by exact rfl)(hb:b≠want:=by exact sk rfl)(hd:d<S.n:=by exact tl rfl):RunT P C ops nd K (⟨some d,op,ty,pos,aft,some (j,want)⟩::rest) acc S:=
 RT.skV h1 h2 hb hd next
theorem wu{op:Op}{j g:Nat}{want:Bool}(next:RunT P C ops nd K rest (⟨[g],[],[],⟨some (d,.sv (.v undef)),[],[]⟩⟩::acc) (S.set d (.sv (.v undef))))(h1:(ops[j]?).bind (·.dst)=some g:=by exact rfl)(h2:S.t g=.sv (.v undef):=by exact rfl)(hd:d<S.n:=by exact tl rfl):RunT P C ops nd K (⟨some d,op,ty,pos,aft,some (j,want)⟩::rest) acc S:=
 RT.abg h1 h2 hd next
end
section
variable {P:Program}{C:Ctx}{ops:Array Oper}{S:AS}{nd:Bool}{K:List Ac→AS→Prop}{rest:List Oper}{acc:List Ac}
variable {gd:Option (Nat×Bool)}{rg:List Nat}{d:Nat}{ty:TypeId}{pos:String}{aft:Array Edge}{x y z:Operand}{T U E0:TypeId}
variable {α:Type}{l l' k:List α}{e:α→List SV}{n by_:Nat}{zv:Value}
theorem ln{m:Nat}[tS:eK P T E0 m]{c:Int}(hx:S.ev x=.sv (slc n (l.map e)))(hc:(l.length:Int)=c)(next:RunT P C ops nd K rest (⟨[]++aq x,[],[],⟨some (d,.sv (.v (.int .i64 c))),[],[]⟩⟩::acc) (S.set d (.sv (.v (.int .i64 c)))))(hd:d<S.n:=by exact tl rfl):RunT P C ops nd K (⟨some d,.call ⟨.builtin .len,#[x],#[T]⟩,ty,pos,aft,none⟩::rest) acc S:=
 RT.abe .none hx hd hc next
theorem al[tz:ax P T zv]{cs:List SV}(hi:bB (zv.cells.toList.map SV.v) cs){av:List AV}(hav:cs.map AV.sv=av)(next:RunT P C ops nd K rest (⟨[]++[],[d],[],⟨some (d,.ptr d 0),[(d,⟨T,av⟩)],[]⟩⟩::acc) ((S.kH d ⟨T,av⟩).set d (.ptr d 0)))(hd:d<S.n:=by exact tl rfl)(hb:S.b d=none:=by exact rfl)(hp:C.gP d=none:=by exact rfl):RunT P C ops nd K (⟨some d,.alloc T,ty,pos,aft,none⟩::rest) acc S:=
 RT.xx .none hi hav hd hb hp next
theorem ix[tS:eK P T E0 n]{kk:IntKind}{i:Int}{a:α}(hx:S.ev x=.sv (slc n (l.map e)))(hy:S.ev y=.sv (.v (.int kk i)))(ha:cz l i=some a)(next:RunT P C ops nd K rest (⟨[]++(aq x++aq y),[],[],⟨some (d,.sv (ref (e a))),[],[]⟩⟩::acc) (S.set d (.sv (ref (e a)))))(hd:d<S.n:=by exact tl rfl):RunT P C ops nd K (⟨some d,.indexAddr T x y,ty,pos,aft,none⟩::rest) acc S:=
 RT.S8 .none hx hy hd ha next
theorem bl[tS:eK P T E0 n][tE:aL P E0 n by_ zv]{len:Nat}{parts:Array (Nat×Operand)}{qs:List (Nat×List SV)}(hp:oI S parts.toList qs)(hc:qP 0 qs=true)(hl:qs.length=len)(hsz:(qs.all fun q=>Nat.beq q.2.length n)=true)(hlen:Nat.ble (len*n) 16777216=true)(Ni:(zv.cells.toList.all fun v=>v.oneCell')=true)(jt:qs.map (·.2)=l.map e)(next:RunT P C ops nd K rest (⟨[]++l7 parts.toList,[],[],⟨some (d,.sv (slc n (l.map e))),[],[]⟩⟩::acc) (S.set d (.sv (slc n (l.map e)))))(hd:d<S.n:=by exact tl rfl):RunT P C ops nd K (⟨some d,.buildSlice T len parts,ty,pos,aft,none⟩::rest) acc S:=
 RT.fX .none hp hd hc hl hsz hlen Ni jt next
theorem iR[tS:eK P T E0 n]{i j:Nat}{E1:TypeId}{kk:IntKind}{v:Int}(hx:S.ev x=.row i)(hR:S.r i=.live (TR E1 n e l))(hy:S.ev y=.sv (.v (.int kk v)))(h:kQ l v=some j)(next:RunT P C ops nd K rest (⟨[]++(aq x++aq y),[],[i],⟨some (d,.jI i (j*n)),[],[]⟩⟩::acc) (S.set d (.jI i (j*n))))(hd:d<S.n:=by exact tl rfl):RunT P C ops nd K (⟨some d,.indexAddr T x y,ty,pos,aft,none⟩::rest) acc S:=
 RT.O4 .none hx hR hy hd h next
theorem aI{s X:SV}(hx:S.ev x=.sv s)(hi:SV.imp s X)(next:RunT P C ops nd K rest (⟨[]++aq x,[],[],⟨some (d,.sv X),[],[]⟩⟩::acc) (S.set d (.sv X)))(hd:d<S.n:=by exact tl rfl):RunT P C ops nd K (⟨some d,.assign x,ty,pos,aft,none⟩::rest) acc S:=
 RT.af2 .none hx hi hd next
theorem bI{pl:List (Nat×Nat)}{zc:List Value}[tP:bP P T pl zc]{parts:Array (Nat×Operand)}{qs:List (Nat×List SV)}(hp:oI S parts.toList qs){cs cs':List SV}(hi:bB cs cs')(next:RunT P C ops nd K rest (⟨[]++l7 parts.toList,[],[],⟨some (d,.sv (.agg cs')),[],[]⟩⟩::acc) (S.set d (.sv (.agg cs'))))(hf:wM (fun i=>pl[i]?) (zc.map SV.v) qs=some cs:=by exact rfl)(hd:d<S.n:=by exact tl rfl):RunT P C ops nd K (⟨some d,.build T parts,ty,pos,aft,none⟩::rest) acc S:=
 RT.WO .none hp hf hi hd next
theorem lR[tV:bX P T][el:EL e 1]{i j:Nat}{E1:TypeId}{a:α}{s:SV}(hx:S.ev x=.jI i (j*1))(hR:S.r i=.live (TR E1 1 e l))(ha:l[j]? =some a)(hs:e a=[s])(next:RunT P C ops nd K rest (⟨[]++aq x,[],[i],⟨some (d,.sv s),[],[]⟩⟩::acc) (S.set d (.sv s)))(hd:d<S.n:=by exact tl rfl):RunT P C ops nd K (⟨some d,.load T x,ty,pos,aft,none⟩::rest) acc S:=
 RT.Np .none hx hR ha hs hd next
theorem aR[tS:eK P T E0 n][tE:aL P E0 n by_ zv]{i:Nat}(hx:S.ev x=.row i)(hR:S.r i=.live (TR E0 n e l))(hy:S.ev y=.sv (slc n (k.map e)))(h:zM by_ l k=some l')(next:RunT P C ops nd K rest (⟨[]++(aq x++aq y),[],[i,d],⟨some (d,.row d),[],[(i,.dead),(d,.live (TR E0 n e l'))]⟩⟩::acc) ((AS.bC [(i,.dead),(d,.live (TR E0 n e l'))] S).set d (.row d)))(hd:d<S.n:=by exact tl rfl)(yp:S.r d=.un:=by exact rfl)(wL:d<1000:=by exact tl rfl):RunT P C ops nd K (⟨some d,.call ⟨.builtin .append,#[x,y],#[T,T]⟩,ty,pos,aft,none⟩::rest) acc S:=
 RT.apR .none hx hR hy hd yp wL h next
theorem sR[tV:bX P T][el:EL e 1]{i j:Nat}{E1:TypeId}{s:SV}[o1:One s](a:α)(hs:e a=[s])(hx:S.ev x=.jI i (j*1))(hR:S.r i=.live (TR E1 1 e l))(hy:S.ev y=.sv s)(h:stM l j a=some l')(next:RunT P C ops nd K rest (⟨[]++(aq x++aq y),[],[i],⟨none,[],[(i,.live (TR E1 1 e l'))]⟩⟩::acc) (AS.bC [(i,.live (TR E1 1 e l'))] S)):RunT P C ops nd K (⟨none,.store T x y,ty,pos,aft,none⟩::rest) acc S:=
 RT.af4 .none a hs hx hR hy h next
theorem sA[tA:jr P T n][el:EL e n]{i j:Nat}{E1:TypeId}(a:α)(hx:S.ev x=.jI i (j*n))(hR:S.r i=.live (TR E1 n e l))(hy:S.ev y=.sv (.agg (e a)))(h:stM l j a=some l')(next:RunT P C ops nd K rest (⟨[]++(aq x++aq y),[],[i],⟨none,[],[(i,.live (TR E1 n e l'))]⟩⟩::acc) (AS.bC [(i,.live (TR E1 n e l'))] S)):RunT P C ops nd K (⟨none,.store T x y,ty,pos,aft,none⟩::rest) acc S:=
 RT.abf .none a hx hR hy h next
theorem lL{m:Nat}[tS:eK P T E0 m]{i:Nat}{E1:TypeId}{c:Int}(hx:S.ev x=.row i)(hR:S.r i=.live (TR E1 n e l))(hc:(l.length:Int)=c)(next:RunT P C ops nd K rest (⟨[]++aq x,[],[i],⟨some (d,.sv (.v (.int .i64 c))),[],[]⟩⟩::acc) (S.set d (.sv (.v (.int .i64 c)))))(hd:d<S.n:=by exact tl rfl):RunT P C ops nd K (⟨some d,.call ⟨.builtin .len,#[x],#[T]⟩,ty,pos,aft,none⟩::rest) acc S:=
 RT.O3 .none hx hR hd hc next
theorem cR{f:FuncId}[bF P f]{g:Operand}{xs:Array Operand}{at_:Array TypeId}{args:List AV}{E1:TypeId}{res:AV}(hp:Ky P f args (TR E1 n e l) res (l'.flatMap e))(hlen:l'.length=l.length)(i:Nat)(hR:S.r i=.live (TR E1 n e l))(hargs:ur S xs.toList (args.map (AV.AB i)))(next:RunT P C ops nd K rest (⟨[]++(aq g++xs.toList.flatMap aq),[],[i],⟨some (d,res.AB i),[],[(i,.live (TR E1 n e l'))]⟩⟩::acc) ((AS.bC [(i,.live (TR E1 n e l'))] S).set d (res.AB i)))(hrow:args.all AV.zI=true:=by exact rfl)(hres:res.zI=true:=by exact rfl)(hf:S.ev g=.sv (.v (.func (.func f) #[] #[])):=by exact rfl)(hd:d<S.n:=by exact tl rfl):RunT P C ops nd K (⟨some d,.call ⟨.value g,xs,at_⟩,ty,pos,aft,none⟩::rest) acc S:=
 RT.WU .none hp hlen i hR hrow hres hf hargs hd next
theorem gn{j_ g_:Nat}{gi:Bool}{m:Nat}[tS:eK P T E0 m]{c:Int}(hx:S.ev x=.sv (slc n (l.map e)))(hc:(l.length:Int)=c)(next:RunT P C ops nd K rest (⟨[g_]++aq x,[],[],⟨some (d,.sv (.v (.int .i64 c))),[],[]⟩⟩::acc) (S.set d (.sv (.v (.int .i64 c)))))(Ek:(ops[j_]?).bind (·.dst)=some g_:=by exact rfl)(El:S.t g_=.sv (.v (.bool gi)):=by exact rfl)(hd:d<S.n:=by exact tl rfl):RunT P C ops nd K (⟨some d,.call ⟨.builtin .len,#[x],#[T]⟩,ty,pos,aft,some (j_,gi)⟩::rest) acc S:=
 RT.abe (.some Ek El) hx hd hc next
end
section
variable {P:Program}{C:Ctx}{ops:Array Oper}{S:AS}{nd:Bool}{K:List Ac→AS→Prop}{rest:List Oper}{acc:List Ac}
variable {gd:Option (Nat×Bool)}{rg:List Nat}{d:Nat}{ty:TypeId}{pos:String}{aft:Array Edge}{x y z:Operand}{T U E0 E1:TypeId}
theorem fl{f off:Nat}[hf:fU P T f off U][tV:bX P U]{cs:List SV}{s:SV}(hx:S.ev x=.sv (.agg cs))(hs:cs[off]? =some s)(next:RunT P C ops nd K rest (⟨[]++aq x,[],[],⟨some (d,.sv s),[],[]⟩⟩::acc) (S.set d (.sv s)))(hd:d<S.n:=by exact tl rfl):RunT P C ops nd K (⟨some d,.field T x f,ty,pos,aft,none⟩::rest) acc S:=
 RT.field .none hx hs hd next
end
end Go.Fw.Z
namespace Go.Proofs.YtningmnklfpfjaaGreat
open Go.Fw
noncomputable def dj(x0:List Nat):Option (List Nat):=zM 4 [] x0
noncomputable def bz(x0:Nat)(c0:Nat):Option (Nat×Nat):=(some ((x0+c0)%18446744073709551616)).bind fun x6=>(some (x6/2^32)).bind fun x8=>(some (x6%4294967296)).bind fun ek=>some (ek,x8)
noncomputable def aG(x0:List Nat):Option (List Nat):=(bQ (fun(A6:(List Nat))=>(show Option (((List Nat))⊕((List Nat)))from b9 (fun(Cq:Bool)=>(bif Cq then(some (A6.length:Int)).bind fun gx=>(some (IntKind.i64.wrap (gx-1))).bind fun fF=>(Ei A6 0 fF).bind fun kS=>some (.inl kS)else some (.inr A6))) fun Oj=>(some (A6.length:Int)).bind fun x4=>(some (decide ((0:Int)<x4))).bind fun x5=>(bif x5 then(some (A6.length:Int)).bind fun x9=>(some (IntKind.i64.wrap (x9-1))).bind fun ek=>(cz A6 ek).bind fun iI=>(some (decide ((iI:Nat)=0))).bind fun iA=>some iA else some false).bind fun zQ=>Oj zQ)) x0).bind fun Cr=>some Cr
noncomputable def bO(x0:Bool)(x1:List Nat):Option (Zr):=(aG x1).bind fun x6=>(some (x6.length:Int)).bind fun x8=>(some (decide ((x8:Int)=0))).bind fun x9=>(bif x9 then some ⟨false,[]⟩else some ⟨x0,x6⟩)
noncomputable def dI(x0:Bool)(x1:Nat):Option (Zr):=(some (decide ((x1:Nat)=0))).bind fun x7=>(bif x7 then some ⟨false,[]⟩else(some (x1/2^32)).bind fun iI=>(some (decide ((iI:Nat)=0))).bind fun dW=>(bif dW then(some (x1%4294967296)).bind fun dR=>some ⟨x0,[dR]⟩else(some (x1%4294967296)).bind fun gO=>(some (x1/2^32)).bind fun jB=>(some (jB%4294967296)).bind fun jJ=>some ⟨x0,[gO,jJ]⟩))
noncomputable def dB(x0:List Nat):Option (Nat):=(some (x0.length:Int)).bind fun x4=>(some (decide ((x4:Int)=0))).bind fun x6=>(bif x6 then some 0 else(some (decide ((x4:Int)=1))).bind fun x8=>(bif x8 then(cz x0 0).bind fun ek=>(some (ek%18446744073709551616)).bind fun dW=>some dW else(cz x0 0).bind fun fg=>(some (fg%18446744073709551616)).bind fun iY=>(cz x0 1).bind fun fF=>(some (fF%18446744073709551616)).bind fun gO=>(some (gO*2^32%18446744073709551616)).bind fun ik=>(some ((iY ||| ik)%18446744073709551616)).bind fun jB=>some jB))
noncomputable def cJ(x0:List Nat)(x1:List Nat):Option (Int):=(some (x0.length:Int)).bind fun x7=>(some (x1.length:Int)).bind fun x9=>(some (decide ((x7:Int)≠x9))).bind fun ek=>(bif ek then(some (x0.length:Int)).bind fun dW=>(some (x1.length:Int)).bind fun fg=>(some (decide ((dW:Int)<fg))).bind fun dR=>(bif dR then some (-1)else some 1)else(some (x0.length:Int)).bind fun gx=>(some (IntKind.i64.wrap (gx-1))).bind fun fF=>(bQ (fun(rG:Int)=>(show Option ((Int)⊕((Unit)⊕(Int)))from(some (decide ((0:Int)≤rG))).bind fun gO=>(bif gO then(cz x0 rG).bind fun vS=>(cz x1 rG).bind fun iq=>(some (decide ((vS:Nat)≠iq))).bind fun rf=>(bif rf then(cz x0 rG).bind fun m8=>(cz x1 rG).bind fun yB=>(some (decide ((m8:Nat)<yB))).bind fun lO=>(bif lO then some (.inr (.inr (-1)))else some (.inr (.inr 1)))else(some (IntKind.i64.wrap (rG-1))).bind fun jB=>some (.inl jB))else some (.inr (.inl ()))))) fF).bind fun e6=>match e6 with|.inr v6=>some v6|.inl _=>some 0)
noncomputable def dy(x0:List Nat)(x1:List Nat):Option (List Nat):=(some (x0.length:Int)).bind fun ek=>(some (x1.length:Int)).bind fun dW=>(some (max (ek:Int) dW)).bind fun iA=>(some (IntKind.i64.wrap (iA+1))).bind fun fg=>(OX (α:=Nat) 4 fg).bind fun dR=>(ot (fun(k:Nat) (s7:Nat×(List Nat))=>match s7 with|⟨sG,gQ⟩=>(show Option (Nat×(List Nat))from(some (x0.getD k 0%18446744073709551616)).bind fun p20=>(some (x1.getD k 0%18446744073709551616)).bind fun p21=>(some ((p20+p21)%18446744073709551616)).bind fun lG=>(bz lG sG).bind fun⟨lq,k9⟩=>(zM 4 gQ [lq]).bind fun iq=>some (k9,iq))) (max x0.length x1.length) (0,dR)).bind fun e7=>match e7 with|⟨sG,gQ⟩=>(bz 0 sG).bind fun⟨iD,k11⟩=>(zM 4 gQ [iD]).bind fun m8=>some m8
noncomputable def cg(x0:List Nat)(x1:List Nat):Option (List Nat):=(some (x0.length:Int)).bind fun ek=>(OX (α:=Nat) 4 ek).bind fun iI=>(ot (fun(k:Nat) (s7:Nat×(List Nat))=>match s7 with|⟨vT,gQ⟩=>(show Option (Nat×(List Nat))from(some (x0.getD k 0%18446744073709551616)).bind fun p16=>(some (x1.getD k 0%18446744073709551616)).bind fun p17=>(some (qa 18446744073709551616 4294967295 p17)).bind fun jB=>(some ((p16+jB)%18446744073709551616)).bind fun jJ=>(bz jJ vT).bind fun⟨ir,k9⟩=>(zM 4 gQ [ir]).bind fun lG=>some (k9,lG))) (max x0.length x1.length) (1,iI)).bind fun e7=>match e7 with|⟨vT,gQ⟩=>some gQ
noncomputable def dX(x0:List Nat)(x1:List Nat):Option (List Nat):=(some (x0.length:Int)).bind fun dW=>(some (x1.length:Int)).bind fun fg=>(some (IntKind.i64.wrap (dW+fg))).bind fun dR=>(D4 4 dR (0:Nat)).bind fun iY=>(some (x0.length:Int)).bind fun fF=>(bQ (fun(Pe:Int×(List Nat))=>match Pe with|⟨kT,zR⟩=>(show Option ((Int×(List Nat))⊕((List Nat)))from(some (decide ((kT:Int)<fF))).bind fun gO=>(bif gO then(cz x0 kT).bind fun jB=>(some (x1.length:Int)).bind fun lG=>(bQ (fun(EW:Int×Nat×(List Nat))=>match EW with|⟨xz,rH,sH⟩=>(show Option ((Int×Nat×(List Nat))⊕(Nat×(List Nat)))from(some (decide ((xz:Int)<lG))).bind fun oM=>(bif oM then(cz x1 xz).bind fun uB=>(some (IntKind.i64.wrap (kT+xz))).bind fun ow=>(some (IntKind.i64.wrap (kT+xz))).bind fun lO=>(kQ sH lO).bind fun tG=>(sH[tG]?).bind fun oZ=>(some (oZ%18446744073709551616)).bind fun tJ=>(some (jB%18446744073709551616)).bind fun xA=>(some (uB%18446744073709551616)).bind fun uC=>(some ((xA*uC)%18446744073709551616)).bind fun rI=>(some ((tJ+rI)%18446744073709551616)).bind fun Iw=>(bz Iw rH).bind fun⟨ri,k41⟩=>(kQ sH ow).bind fun Gc=>(stM sH Gc ri).bind fun SB=>(some (IntKind.i64.wrap (xz+1))).bind fun uc=>some (.inl (uc,k41,SB))else some (.inr (rH,sH))))) (0,0,zR)).bind fun WX=>match WX with|⟨Cs,Ge⟩=>(some (x1.length:Int)).bind fun D5=>(some (IntKind.i64.wrap (kT+D5))).bind fun SC=>(bz 0 Cs).bind fun⟨KE,k45⟩=>(kQ Ge SC).bind fun EX=>(stM Ge EX KE).bind fun l46=>(some (IntKind.i64.wrap (kT+1))).bind fun D6=>some (.inl (D6,l46))else some (.inr zR)))) (0,iY)).bind fun m9=>some m9
noncomputable def iJ(x0:List Nat)(x1:Nat):Option (Nat×List Nat):=(some (x0.length:Int)).bind fun x9=>(some (IntKind.i64.wrap (x9-1))).bind fun ek=>(bQ (fun(s8:Nat×Int×(List Nat))=>match s8 with|⟨Pf,Pg,sI⟩=>(show Option ((Nat×Int×(List Nat))⊕(Nat×(List Nat)))from(some (decide ((0:Int)≤Pg))).bind fun dW=>(bif dW then(some (Pf*2^32%18446744073709551616)).bind fun iY=>(kQ sI Pg).bind fun kS=>(sI[kS]?).bind fun gO=>(some (gO%18446744073709551616)).bind fun ik=>(some ((iY ||| ik)%18446744073709551616)).bind fun jB=>(F5 18446744073709551616 jB x1).bind fun lq=>(some (lq%4294967296)).bind fun oM=>(kQ sI Pg).bind fun iq=>(stM sI iq oM).bind fun yC=>(Ej jB x1).bind fun iD=>(some (IntKind.i64.wrap (Pg-1))).bind fun fg=>some (.inl (iD,fg,yC))else some (.inr (Pf,sI))))) (0,ek,x0)).bind fun e8=>match e8 with|⟨abq,BE⟩=>(wQ x0 BE).bind fun _=>some (abq,BE)
noncomputable def fH(x0:List Nat)(x1:Nat):Option (List Nat):=(some (x0.length:Int)).bind fun iI=>(some (IntKind.i64.wrap (iI+1))).bind fun dW=>(OX (α:=Nat) 4 dW).bind fun iA=>(some (x0.length:Int)).bind fun dR=>(bQ (fun(s8:Int×Nat×(List Nat))=>match s8 with|⟨yD,sJ,gQ⟩=>(show Option ((Int×Nat×(List Nat))⊕(Nat×(List Nat)))from(some (decide ((yD:Int)<dR))).bind fun gx=>(bif gx then(cz x0 yD).bind fun fF=>(some (fF%18446744073709551616)).bind fun jJ=>(some (jJ*2^(min x1 64)%18446744073709551616)).bind fun vS=>(bz vS sJ).bind fun⟨lG,WY⟩=>(zM 4 gQ [lG]).bind fun oM=>(some (IntKind.i64.wrap (yD+1))).bind fun iq=>some (.inl (iq,WY,oM))else some (.inr (sJ,gQ))))) (0,0,iA)).bind fun e8=>match e8 with|⟨Ct,Ph⟩=>(bz 0 Ct).bind fun⟨iD,k12⟩=>(zM 4 Ph [iD]).bind fun m8=>some m8
noncomputable def jc(x0:List Nat)(x1:Nat):Option (List Nat):=(some (x0.length:Int)).bind fun iI=>(some (IntKind.i64.wrap (iI+1))).bind fun dW=>(OX (α:=Nat) 4 dW).bind fun iA=>(some (x0.length:Int)).bind fun dR=>(bQ (fun(s8:Int×Nat×(List Nat))=>match s8 with|⟨yD,sJ,Gf⟩=>(show Option ((Int×Nat×(List Nat))⊕(Nat×(List Nat)))from(some (decide ((yD:Int)<dR))).bind fun gx=>(bif gx then(cz x0 yD).bind fun fF=>(some (fF%18446744073709551616)).bind fun jJ=>(some (jJ*2^(min x1 64)%18446744073709551616)).bind fun vS=>(bz vS sJ).bind fun⟨lG,WY⟩=>(zM 4 Gf [lG]).bind fun oM=>(some (IntKind.i64.wrap (yD+1))).bind fun iq=>some (.inl (iq,WY,oM))else some (.inr (sJ,Gf))))) (0,0,iA)).bind fun e8=>match e8 with|⟨Ct,Pj⟩=>(bz 0 Ct).bind fun⟨iD,k12⟩=>(zM 4 Pj [iD]).bind fun m8=>some m8
noncomputable def gV(x0:Nat):Option (Int):=(some (decide ((65536:Nat)≤x0))).bind fun x4=>b9 (fun(j2:Nat×Int)=>match j2 with|⟨KF,Tj⟩=>(some (decide ((256:Nat)≤KF))).bind fun x8=>b9 (fun(j4:Nat×Int)=>match j4 with|⟨abr,abt⟩=>(some (abr%256)).bind fun dR=>(wP [0,1,2,2,3,3,3,3,4,4,4,4,4,4,4,4,5,5,5,5,5,5,5,5,5,5,5,5,5,5,5,5,6,6,6,6,6,6,6,6,6,6,6,6,6,6,6,6,6,6,6,6,6,6,6,6,6,6,6,6,6,6,6,6,7,7,7,7,7,7,7,7,7,7,7,7,7,7,7,7,7,7,7,7,7,7,7,7,7,7,7,7,7,7,7,7,7,7,7,7,7,7,7,7,7,7,7,7,7,7,7,7,7,7,7,7,7,7,7,7,7,7,7,7,7,7,7,7,8,8,8,8,8,8,8,8,8,8,8,8,8,8,8,8,8,8,8,8,8,8,8,8,8,8,8,8,8,8,8,8,8,8,8,8,8,8,8,8,8,8,8,8,8,8,8,8,8,8,8,8,8,8,8,8,8,8,8,8,8,8,8,8,8,8,8,8,8,8,8,8,8,8,8,8,8,8,8,8,8,8,8,8,8,8,8,8,8,8,8,8,8,8,8,8,8,8,8,8,8,8,8,8,8,8,8,8,8,8,8,8,8,8,8,8,8,8,8,8,8,8,8,8,8,8,8,8] ((dR:Nat):Int)).bind fun iY=>(some (IntKind.i64.wrap (iY:Int))).bind fun gx=>(some (IntKind.i64.wrap (abt+gx))).bind fun fF=>some fF) fun K4=>(bif x8 then(some (KF/2^8)).bind fun ek=>(some (IntKind.i64.wrap (Tj+8))).bind fun dW=>K4 (ek,dW)else K4 (KF,Tj))) fun K2=>(bif x4 then(some (x0/2^16)).bind fun x6=>K2 (x6,16)else K2 (x0,0))
noncomputable def dm(x0:Nat):Option (Int):=(gV x0).bind fun x4=>(some (IntKind.i64.wrap (32-x4))).bind fun x5=>some x5
noncomputable def iK(x0:List Nat)(o0:Nat)(n0:Nat)(x1:List Nat):Option (Nat×List Nat):=(some (x1.length:Int)).bind fun dW=>(SA o0 n0 dW).bind fun dR=>(x0[dR]?).bind fun iY=>(some (iY%18446744073709551616)).bind fun gx=>(some (gx*2^32%18446744073709551616)).bind fun fF=>(some (IntKind.i64.wrap (dW-1))).bind fun ik=>(SA o0 n0 ik).bind fun jB=>(x0[jB]?).bind fun jJ=>(some (jJ%18446744073709551616)).bind fun ir=>(some ((fF ||| ir)%18446744073709551616)).bind fun vS=>(some (IntKind.i64.wrap (dW-1))).bind fun oM=>(cz x1 oM).bind fun iq=>(some (iq%18446744073709551616)).bind fun rf=>(some (IntKind.i64.wrap (dW-2))).bind fun m8=>(cz x1 m8).bind fun ow=>(some (ow%18446744073709551616)).bind fun sK=>(F5 18446744073709551616 vS rf).bind fun lO=>(Ej vS rf).bind fun tJ=>(bQ (fun(Gg:Nat×Nat)=>match Gg with|⟨Em,EY⟩=>(show Option ((Nat×Nat)⊕(Nat))from b9 (fun(KG:Bool)=>(bif KG then(some (qa 18446744073709551616 Em 1)).bind fun x63=>(some ((EY+rf)%18446744073709551616)).bind fun Kj=>(some (Kj/2^32)).bind fun KH=>(some (decide ((KH:Nat)≠0))).bind fun Md=>(bif Md then some (.inr x63)else some (.inl (x63,Kj)))else some (.inr Em))) fun Oj=>(some (Em/2^32)).bind fun xA=>(some (decide ((xA:Nat)≠0))).bind fun vU=>(bif vU then some true else(some ((Em*sK)%18446744073709551616)).bind fun ri=>(some (EY*2^32%18446744073709551616)).bind fun uc=>(some (IntKind.i64.wrap (dW-2))).bind fun wA=>(SA o0 n0 wA).bind fun D5=>(x0[D5]?).bind fun SC=>(some (SC%18446744073709551616)).bind fun SD=>(some ((uc ||| SD)%18446744073709551616)).bind fun KE=>(some (decide ((KE:Nat)<ri))).bind fun EX=>some EX).bind fun Pk=>Oj Pk)) (lO,tJ)).bind fun Nr=>(wQ x0 x0).bind fun _=>some (Nr,x0)
noncomputable def cY(x0:List Nat)(o0:Nat)(n0:Nat)(x1:List Nat)(x2:Nat):Option (Bool×List Nat):=(some (n0:Int)).bind fun fg=>(bQ (fun(yE:Nat×Int×Nat×(List Nat))=>match yE with|⟨Ns,yF,Gh,vV⟩=>(show Option ((Nat×Int×Nat×(List Nat))⊕(Nat×(List Nat)))from(some (decide ((yF:Int)<fg))).bind fun iY=>(bif iY then(some (x1.length:Int)).bind fun gO=>(some (decide ((yF:Int)<gO))).bind fun ik=>b9 (fun(Pm:Nat)=>(SA o0 n0 yF).bind fun rf=>(vV[rf]?).bind fun iD=>(some (iD%18446744073709551616)).bind fun sL=>(bz Pm Gh).bind fun⟨oP,k16⟩=>(some (oP%18446744073709551616)).bind fun sK=>(some (qa 18446744073709551616 sL sK)).bind fun yB=>(some (qa 18446744073709551616 yB Ns)).bind fun lO=>(some (lO%4294967296)).bind fun zS=>(SA o0 n0 yF).bind fun xA=>(stM vV xA zS).bind fun l18=>(some (lO/2^63)).bind fun uC=>(some (IntKind.i64.wrap (yF+1))).bind fun rI=>some (.inl (uC,rI,k16,l18))) fun K14=>(bif ik then(cz x1 yF).bind fun ir=>(some (ir%18446744073709551616)).bind fun lG=>(some ((lG*x2)%18446744073709551616)).bind fun oM=>K14 oM else K14 0)else some (.inr (Ns,vV))))) (0,0,0,x0)).bind fun Pn=>match Pn with|⟨Po,yG⟩=>(some (decide ((Po:Nat)≠0))).bind fun ri=>(wQ x0 yG).bind fun _=>some (ri,yG)
noncomputable def fM(x0:List Nat)(x1:List Nat):Option ((List Nat)×(List Nat)):=(some (x1.length:Int)).bind fun gx=>(some (IntKind.i64.wrap (gx-1))).bind fun gO=>(cz x1 gO).bind fun ik=>(dm ik).bind fun jJ=>(some ((jJ%18446744073709551616).toNat)).bind fun ir=>(jc x0 ir).bind fun lq=>(fH x1 ir).bind fun uB=>(Ei uB 0 gx).bind fun iD=>(some (x0.length:Int)).bind fun m8=>(some (IntKind.i64.wrap (m8-gx))).bind fun oP=>(some (IntKind.i64.wrap (oP+1))).bind fun sK=>(D4 4 sK (0:Nat)).bind fun yB=>(some (x0.length:Int)).bind fun lO=>(some (IntKind.i64.wrap (lO-gx))).bind fun oZ=>(bQ (fun(Nt:Int×(List Nat)×(List Nat))=>match Nt with|⟨gD,nc,qQ⟩=>(show Option ((Int×(List Nat)×(List Nat))⊕((List Nat)×(List Nat)))from(some (decide ((0:Int)≤gD))).bind fun zS=>(bif zS then(some (IntKind.i64.wrap (gD+gx))).bind fun Gc=>(some (IntKind.i64.wrap (Gc+1))).bind fun uc=>(WS qQ gD uc).bind fun⟨o53,n53⟩=>(iK qQ o53 n53 iD).bind fun⟨wA,Ol⟩=>(wQ qQ Ol).bind fun _=>(some (IntKind.i64.wrap (gD+gx))).bind fun EX=>(some (IntKind.i64.wrap (EX+1))).bind fun D6=>(WS Ol gD D6).bind fun⟨o62,n62⟩=>(cY Ol o62 n62 iD wA).bind fun⟨Ve,Nu⟩=>(wQ Ol Nu).bind fun _=>b9 (fun(Nv:Nat×(List Nat))=>match Nv with|⟨KI,Cu⟩=>(some (KI%4294967296)).bind fun Cv=>(kQ nc gD).bind fun WZ=>(stM nc WZ Cv).bind fun l55=>(some (IntKind.i64.wrap (gD-1))).bind fun vU=>some (.inl (vU,l55,Cu))) fun K53=>(bif Ve then(some (qa 18446744073709551616 wA 1)).bind fun Om=>(some (iD.length:Int)).bind fun D7=>(bQ (fun(Nw:Int×Nat×(List Nat))=>match Nw with|⟨xB,rJ,sM⟩=>(show Option ((Int×Nat×(List Nat))⊕(Nat×(List Nat)))from(some (decide ((xB:Int)<D7))).bind fun KJ=>(bif KJ then(cz iD xB).bind fun x74=>(some (IntKind.i64.wrap (gD+xB))).bind fun Iy=>(some (IntKind.i64.wrap (gD+xB))).bind fun Pp=>(kQ sM Pp).bind fun x85=>(sM[x85]?).bind fun Pq=>(some (Pq%18446744073709551616)).bind fun Iz=>(some (x74%18446744073709551616)).bind fun x89=>(some ((Iz+x89)%18446744073709551616)).bind fun SE=>(bz SE rJ).bind fun⟨x91,k68⟩=>(kQ sM Iy).bind fun x92=>(stM sM x92 x91).bind fun Tk=>(some (IntKind.i64.wrap (xB+1))).bind fun Me=>some (.inl (Me,k68,Tk))else some (.inr (rJ,sM))))) (0,0,Nu)).bind fun e65=>match e65 with|⟨Cw,zT⟩=>(some (IntKind.i64.wrap (gD+gx))).bind fun x97=>(some (IntKind.i64.wrap (gD+gx))).bind fun KK=>(kQ zT KK).bind fun KL=>(zT[KL]?).bind fun W0=>(some (W0%18446744073709551616)).bind fun W2=>(bz W2 Cw).bind fun⟨IA,k72⟩=>(kQ zT x97).bind fun W4=>(stM zT W4 IA).bind fun l73=>K53 (Om,l73)else K53 (wA,Nu))else some (.inr (nc,qQ))))) (oZ,yB,lq)).bind fun e36=>match e36 with|⟨sN,uD⟩=>(D4 4 gx (0:Nat)).bind fun W5=>(bQ (fun(Pr:Int×(List Nat))=>match Pr with|⟨sO,sP⟩=>(show Option ((Int×(List Nat))⊕((List Nat)))from(some (decide ((sO:Int)<gx))).bind fun Eo=>(bif Eo then(kQ uD sO).bind fun W6=>(uD[W6]?).bind fun W7=>(some (W7%18446744073709551616)).bind fun Cx=>(some (IntKind.i64.wrap (sO+1))).bind fun Nx=>(kQ uD Nx).bind fun KM=>(uD[KM]?).bind fun W8=>(some (W8%18446744073709551616)).bind fun Ps=>(some (Ps*2^32%18446744073709551616)).bind fun Pt=>(some ((Cx ||| Pt)%18446744073709551616)).bind fun IB=>(some (IB/2^(min ir 64))).bind fun Ny=>(some (Ny%4294967296)).bind fun IC=>(kQ sP sO).bind fun KN=>(stM sP KN IC).bind fun l83=>(some (IntKind.i64.wrap (sO+1))).bind fun Pu=>some (.inl (Pu,l83))else some (.inr sP)))) (0,W5)).bind fun kI=>some (sN,kI)
noncomputable def dY(x0:List Nat)(x1:List Nat):Option ((List Nat)×(List Nat)):=(cJ x0 x1).bind fun dW=>(some (decide ((dW:Int)<0))).bind fun iA=>(bif iA then(dj x0).bind fun dR=>some ([],dR)else(some (x0.length:Int)).bind fun fF=>(some (decide ((fF:Int)≤2))).bind fun kS=>(bif kS then(dB x0).bind fun ik=>(dB x1).bind fun jJ=>(F5 18446744073709551616 ik jJ).bind fun lG=>(dI false lG).bind fun⟨Vf,Pw⟩=>(Ej ik jJ).bind fun rf=>(dI false rf).bind fun⟨nO,mS⟩=>some (Pw,mS)else(some (x1.length:Int)).bind fun oP=>(some (decide ((oP:Int)=1))).bind fun sK=>(bif sK then(dj x0).bind fun tX=>(cz x1 0).bind fun oZ=>(some (oZ%18446744073709551616)).bind fun zS=>(iJ tX zS).bind fun⟨xA,l5⟩=>(wQ tX l5).bind fun _=>(some (xA%4294967296)).bind fun rI=>some (l5,[rI])else(fM x0 x1).bind fun⟨W9,Xa⟩=>some (W9,Xa))))
noncomputable def bD(x0:Int):Option (Zr):=(some ((x0%18446744073709551616).toNat)).bind fun x5=>(some (decide ((x0:Int)<0))).bind fun x7=>b9 (fun(Xb:Nat)=>(some (decide ((x0:Int)<0))).bind fun iI=>(dI iI Xb).bind fun⟨EZ,E4⟩=>some ⟨EZ,E4⟩) fun K2=>(bif x7 then(some (qa 18446744073709551616 0 x5)).bind fun x9=>K2 x9 else K2 x5)
noncomputable def dx(x0:Zr):Option (Int×Bool):=match x0 with|⟨aC,aD⟩=>(aG aD).bind fun x8=>(some (x8.length:Int)).bind fun ek=>(some (decide ((2:Int)<ek))).bind fun iI=>(bif iI then some (0,false)else(dB x8).bind fun iA=>(bif aC then(some (decide ((9223372036854775808:Nat)<iA))).bind fun gx=>(bif gx then some (0,false)else(some (qa 18446744073709551616 0 iA)).bind fun kS=>(some (IntKind.i64.wrap (kS:Int))).bind fun gO=>some (gO,true))else(some (decide ((9223372036854775808:Nat)≤iA))).bind fun jB=>(bif jB then some (0,false)else(some (IntKind.i64.wrap (iA:Int))).bind fun ir=>some (ir,true))))
noncomputable def cw(x0:Bool)(x1:List Nat)(x2:Bool)(x3:List Nat):Option (Zr):=(some (x0==x2)).bind fun iI=>(bif iI then(dy x1 x3).bind fun dR=>(bO x0 dR).bind fun⟨nP,nQ⟩=>some ⟨nP,nQ⟩else(cJ x1 x3).bind fun kS=>(some (decide ((kS:Int)<0))).bind fun gO=>(bif gO then(cg x3 x1).bind fun ir=>(bO x2 ir).bind fun⟨iL,iB⟩=>some ⟨iL,iB⟩else(cg x1 x3).bind fun iq=>(bO x0 iq).bind fun⟨o5,o6⟩=>some ⟨o5,o6⟩))
noncomputable def j1(x0:Zr)(x1:Zr):Option (Zr):=match x0 with|⟨aC,aD⟩=>match x1 with|⟨bN,bL⟩=>(dx ⟨aC,aD⟩).bind fun⟨yH,Cy⟩=>(dx ⟨bN,bL⟩).bind fun⟨zU,Cz⟩=>b9 (fun(o7:Bool)=>b9 (fun(j5:Unit)=>(aG aD).bind fun tG=>(aG bL).bind fun vU=>(cw aC tG bN vU).bind fun⟨E5,E6⟩=>some ⟨E5,E6⟩) fun K5=>(bif o7 then(some (IntKind.i64.wrap (yH+zU))).bind fun lG=>(some (IntKind.i64.wrap ((BitVec.ofInt 64 yH ^^^ BitVec.ofInt 64 lG).toNat))).bind fun iq=>(some (IntKind.i64.wrap ((BitVec.ofInt 64 zU ^^^ BitVec.ofInt 64 lG).toNat))).bind fun iD=>(some (IntKind.i64.wrap ((BitVec.ofInt 64 iq &&& BitVec.ofInt 64 iD).toNat))).bind fun sL=>(some (decide ((0:Int)≤sL))).bind fun m8=>(bif m8 then(bD lG).bind fun⟨uE,uF⟩=>some ⟨uE,uF⟩else K5 ())else K5 ())) fun K3=>(bif Cy then some Cz else some false).bind fun CA=>K3 CA
noncomputable def j9(x0:Zr)(x1:Zr):Option (Zr):=match x0 with|⟨aC,aD⟩=>match x1 with|⟨bN,bL⟩=>(dx ⟨aC,aD⟩).bind fun⟨yH,Cy⟩=>(dx ⟨bN,bL⟩).bind fun⟨zU,Cz⟩=>b9 (fun(o7:Bool)=>b9 (fun(j5:Unit)=>(aG aD).bind fun tG=>(some (!bN)).bind fun zS=>(aG bL).bind fun uC=>(cw aC tG zS uC).bind fun⟨Px,Py⟩=>some ⟨Px,Py⟩) fun K5=>(bif o7 then(some (IntKind.i64.wrap (yH-zU))).bind fun lG=>(some (IntKind.i64.wrap ((BitVec.ofInt 64 yH ^^^ BitVec.ofInt 64 zU).toNat))).bind fun iq=>(some (IntKind.i64.wrap ((BitVec.ofInt 64 yH ^^^ BitVec.ofInt 64 lG).toNat))).bind fun iD=>(some (IntKind.i64.wrap ((BitVec.ofInt 64 iq &&& BitVec.ofInt 64 iD).toNat))).bind fun sL=>(some (decide ((0:Int)≤sL))).bind fun m8=>(bif m8 then(bD lG).bind fun⟨uE,uF⟩=>some ⟨uE,uF⟩else K5 ())else K5 ())) fun K3=>(bif Cy then some Cz else some false).bind fun CA=>K3 CA
noncomputable def cA(x0:Zr)(x1:Zr):Option (Zr):=match x0 with|⟨aC,aD⟩=>match x1 with|⟨bN,bL⟩=>(aG aD).bind fun x9=>(aG bL).bind fun dW=>b9 (fun(ID:Bool)=>(bif ID then(some (!(aC==bN))).bind fun vS=>(dB x9).bind fun lq=>(dB dW).bind fun iq=>(some ((lq*iq)%18446744073709551616)).bind fun uB=>(dI vS uB).bind fun⟨Pz,PA⟩=>some ⟨Pz,PA⟩else(some (!(aC==bN))).bind fun oP=>(dX x9 dW).bind fun tX=>(bO oP tX).bind fun⟨uG,uH⟩=>some ⟨uG,uH⟩)) fun K3=>(some (x9.length:Int)).bind fun fg=>(some (decide ((fg:Int)≤1))).bind fun dR=>(bif dR then(some (dW.length:Int)).bind fun fF=>(some (decide ((fF:Int)≤1))).bind fun kS=>some kS else some false).bind fun PB=>K3 PB
noncomputable def fy(x0:Zr):Option (Zr):=match x0 with|⟨aC,aD⟩=>(some (!aC)).bind fun x5=>(aG aD).bind fun x8=>(dj x8).bind fun x9=>(bO x5 x9).bind fun⟨CB,CC⟩=>some ⟨CB,CC⟩
noncomputable def cM(x0:Zr):Option (Int):=match x0 with|⟨aC,aD⟩=>(aG aD).bind fun x6=>(some (x6.length:Int)).bind fun x7=>(some (decide ((x7:Int)=0))).bind fun x8=>(bif x8 then some 0 else(bif aC then some (-1)else some 1))
noncomputable def nR(x0:Zr)(x1:Zr):Option (Int):=match x0 with|⟨aC,aD⟩=>match x1 with|⟨bN,bL⟩=>(cM ⟨aC,aD⟩).bind fun x8=>(cM ⟨bN,bL⟩).bind fun ek=>(some (decide ((x8:Int)<ek))).bind fun fg=>(bif fg then some (-1)else(some (decide ((ek:Int)<x8))).bind fun fF=>(bif fF then some 1 else(some (decide ((x8:Int)<0))).bind fun ik=>(bif ik then(aG bL).bind fun ir=>(aG aD).bind fun lq=>(cJ ir lq).bind fun oM=>some oM else(aG aD).bind fun rf=>(aG bL).bind fun m8=>(cJ rf m8).bind fun ow=>some ow)))
noncomputable def dJ(x0:Zr)(x1:Zr):Option (Zr×Zr×Int):=match x0 with|⟨aC,aD⟩=>match x1 with|⟨bN,bL⟩=>(aG aD).bind fun iA=>(aG bL).bind fun iY=>(some (iY.length:Int)).bind fun fF=>(some (decide ((fF:Int)=0))).bind fun kS=>(bif kS then some (⟨false,[]⟩,⟨false,[]⟩,7)else(dY iA iY).bind fun⟨IE,Xc⟩=>(aG Xc).bind fun iq=>b9 (fun(j3:Bool×Bool)=>match j3 with|⟨IF,CD⟩=>b9 (fun(j5:(List Nat)×(List Nat))=>match j5 with|⟨Xd,PC⟩=>(some (!(CD==bN))).bind fun uC=>(bO uC Xd).bind fun⟨PD,PE⟩=>(bO false PC).bind fun⟨CE,CF⟩=>some (⟨PD,PE⟩,⟨CE,CF⟩,0)) fun K5=>(bif IF then(dy IE [1]).bind fun tX=>(cg iY iq).bind fun oZ=>K5 (tX,oZ)else K5 (IE,iq))) fun K3=>(bif aC then(some (iq.length:Int)).bind fun m8=>(some (decide ((0:Int)<m8))).bind fun ow=>some ow else some false).bind fun PF=>K3 (PF,aC))
noncomputable def iZ(x0:Zr)(x1:Zr):Option (Zr):=match x0 with|⟨aC,aD⟩=>match x1 with|⟨bN,bL⟩=>(aG aD).bind fun iA=>(aG bL).bind fun iY=>(bQ (fun(yE:(List Nat)×(List Nat))=>match yE with|⟨Gi,zV⟩=>(show Option (((List Nat)×(List Nat))⊕((List Nat)×(List Nat)))from b9 (fun(CG:Bool)=>(bif CG then(dY Gi zV).bind fun⟨abD,Xe⟩=>(aG Xe).bind fun yB=>some (.inl (zV,yB))else some (.inr (Gi,zV)))) fun K16=>(some (zV.length:Int)).bind fun fF=>(some (decide ((0:Int)<fF))).bind fun kS=>(bif kS then(some (Gi.length:Int)).bind fun jB=>(some (decide ((2:Int)<jB))).bind fun jJ=>(bif jJ then some true else(some (zV.length:Int)).bind fun lG=>(some (decide ((2:Int)<lG))).bind fun lq=>some lq).bind fun KO=>some KO else some false).bind fun KP=>K16 KP)) (iA,iY)).bind fun Pn=>match Pn with|⟨Mf,Mg⟩=>(some (Mg.length:Int)).bind fun lO=>(some (decide ((lO:Int)=0))).bind fun tG=>(bif tG then(dj Mf).bind fun tJ=>(bO false tJ).bind fun⟨E7,E8⟩=>some ⟨E7,E8⟩else(dB Mf).bind fun vU=>(dB Mg).bind fun rI=>(bQ (fun(PG:Nat×Nat)=>match PG with|⟨E9,sQ⟩=>(show Option ((Nat×Nat)⊕(Nat))from(some (decide ((0:Nat)<sQ))).bind fun ri=>(bif ri then(Ej E9 sQ).bind fun yI=>some (.inl (sQ,yI))else some (.inr E9)))) (vU,rI)).bind fun uI=>(dI false uI).bind fun⟨o8,qp⟩=>some ⟨o8,qp⟩)
end Go.Proofs.YtningmnklfpfjaaGreat
namespace Go.Proofs.YtningmnklfpfjaaGreat
open Go.Fw Go.Fw.Z Go.RowKit
theorem cE(c:Nat):WG Tryz.prog 186 [.v (.int .u64 (c:Nat))] 202 128 [.v (.int .u64 (c:Nat))]:=by
 refine KA Tryz.func186 rfl (Nat.le_of_ble_eq_true rfl) (fun cO M vs hvs=>?_)
 exact sr<|RT.uf .none (s:=.sv _) rfl T rfl rfl<|ag rfl<|dn<|sr<|RT.makeFunc .none (.box rfl (.nil)) T<|an (s:=.eU _ _) rfl<|dn<|aj<|⟨.inr rfl,_,.tmp rfl,rfl⟩
theorem l9(a b:List Nat):Pure Tryz.prog 206 [(slc 1 (List.map ah a)),(slc 1 (List.map ah b))] (iC 214 [ref [(slc 1 (List.map ah a))],ref [(slc 1 (List.map ah b))]]):=by
 refine ay Tryz.func206 rfl (Nat.le_of_ble_eq_true rfl) (fun cO M vs hvs=>?_)
 refine sr<|RT.uf .none (s:=.sv _) rfl T rfl rfl<|RT.uf .none (s:=.sv _) rfl T rfl rfl<|ag rfl<|dn<|sr<|RT.makeFunc .none (.box rfl (.box rfl (.nil))) T<|an (s:=.eU _ _) rfl<|dn<|bt (gw (i:=2) rfl [(slc 1 (List.map ah a))] (.cons rfl .nil) .any 0 [(4,.eU 214 [.val (ref [(slc 1 (List.map ah a))]),.box 3])] (fun _ _ _=>trivial) (qN.h (l:=[(slc 1 (List.map ah a))])) ⟨@FT.eU _ _ _ _ _ 4 214 [.box 2,.box 3] rfl,trivial⟩) ?_
 exact bt (gw (i:=3) rfl [(slc 1 (List.map ah b))] (.cons rfl .nil) .any 0 [(4,.eU 214 [.val (ref [(slc 1 (List.map ah a))]),.val (ref [(slc 1 (List.map ah b))])])] (fun _ _ _=>trivial) (qN.h (l:=[(slc 1 (List.map ah b))])) ⟨@FT.eU _ _ _ _ _ 4 214 [.val (ref [(slc 1 (List.map ah a))]),.box 3] rfl,trivial⟩)<|bt (F3 4 (iC 214 [ref [(slc 1 (List.map ah a))],ref [(slc 1 (List.map ah b))]]) (fun _ _ h=>F4 h))<|aj<|⟨.inr rfl,FZ (.tmp rfl (.nil)) rfl⟩
theorem mc(a b:List Nat):Iter Tryz.prog 214 [ref [(slc 1 (List.map ah a))],ref [(slc 1 (List.map ah b))]] (max a.length b.length) (fun k=>[.v (.int .u64 ((a.getD k 0%18446744073709551616:Nat):Int)),.v (.int .u64 ((b.getD k 0%18446744073709551616:Nat):Int))]):=by
 refine sD Tryz.func214 rfl rfl (Nat.le_of_ble_eq_true rfl) (fun cO M O l J hJ yg hr=>?_)
 obtain⟨oK,yg⟩:=yg
 have hla:a.length≤9223372036854775807:=by cases oK with|nil=>exact yg.elim|cons _ oK=>exact vO yg.1
 have hlb:b.length≤9223372036854775807:=by cases oK with|nil=>exact yg.elim|cons _ oK=>cases oK with|nil=>exact yg.2.elim|cons _ _=>exact vO yg.2.1
 refine aS ?_
 refine af ?_
 refine RT.di .none rfl rfl (tl rfl) ?_
 refine RT.len .none rfl (tl rfl) ?_
 refine RT.di .none rfl rfl (tl rfl) ?_
 refine RT.len .none rfl (tl rfl) ?_
 refine RT.max .none (((max a.length b.length:Nat):Int)) rfl rfl (tl rfl) (by simp only[List.length_map];split<;>omega) ?_
 refine RT.mv .none rfl (tl rfl) ?_
 refine RT.done ?_
 refine ae.n ?_
 refine ak ?_
 refine ym (I:=fun x:{i:Nat//i≤max a.length b.length}=>AS.bJ 39 [(0,.sv (.v (.func (.yield l) #[] #[]))),(1,.sv (ref [(slc 1 (List.map ah a))])),(2,.sv (ref [(slc 1 (List.map ah b))])),(11,.sv (.v (.int .i64 ((max a.length b.length:Nat):Int)))),(12,.sv (.v (.int .i64 ((x.1:Nat):Int))))] [] [] (x.1)) (μ:=fun x=>max a.length b.length-x.1) ⟨0,by omega⟩ (by(try dsimp only);exact cy id rfl rfl rfl rfl rfl ⟨.sv (by first|exact SV.aa _|exact SV.au (by omega)|exact SV.au (by push_cast;omega)|exact SV.au (by dsimp only;omega)|exact SV.imp_eq (by simp)),.sv (by first|exact SV.aa _|exact SV.au (by omega)|exact SV.au (by push_cast;omega)|exact SV.au (by dsimp only;omega)|exact SV.imp_eq (by simp)),.sv (by first|exact SV.aa _|exact SV.au (by omega)|exact SV.au (by push_cast;omega)|exact SV.au (by dsimp only;omega)|exact SV.imp_eq (by simp)),.sv (by first|exact SV.aa _|exact SV.au (by omega)|exact SV.au (by push_cast;omega)|exact SV.au (by dsimp only;omega)|exact SV.imp_eq (by simp)),.sv (by first|exact SV.aa _|exact SV.au (by omega)|exact SV.au (by push_cast;omega)|exact SV.au (by dsimp only;omega)|exact SV.imp_eq (by simp)),trivial⟩ trivial trivial (fun _ _=>rfl)) ?_
 rintro⟨i,Vc⟩
 try dsimp only
 rcases Ck a b i Vc with⟨hi,zH,BA⟩|⟨hi,zH,BA⟩|⟨hi,zH,BA⟩|hi
 ·
  refine aS ?_
  refine af ?_
  refine RT.lss .none (true) rfl rfl (tl rfl) (by simp;omega) ?_
  refine RT.done ?_
  refine ae.n ?_
  refine aS ?_
  refine cU rfl ?_
  refine aH ?_
  refine ae.n ?_
  refine aS ?_
  refine ak ?_
  refine aS ?_
  refine af ?_
  refine RT.mv .none rfl (tl rfl) ?_
  refine RT.EP .none rfl (tl rfl) ?_
  refine RT.done ?_
  refine ae.n ?_
  refine aS ?_
  refine af ?_
  refine RT.EP .none rfl (tl rfl) ?_
  refine RT.EP .none rfl (tl rfl) ?_
  refine RT.done ?_
  refine ae.n ?_
  refine aS ?_
  refine aS ?_
  refine af ?_
  refine RT.mv .none rfl (tl rfl) ?_
  refine RT.di .none rfl rfl (tl rfl) ?_
  refine RT.len .none rfl (tl rfl) ?_
  refine RT.lss .none (true) rfl rfl (tl rfl) (by simp only[List.length_map];simp;omega) ?_
  refine RT.done ?_
  refine ae.n ?_
  refine cU rfl ?_
  refine af ?_
  refine RT.di .none rfl rfl (tl rfl) ?_
  refine RT.mv .none rfl (tl rfl) ?_
  refine RT.U1 .none [.v (.int .u32 ((a.getD i 0:Nat):Int))] (Int.natCast_nonneg i) (by rw[Int.toNat_natCast,List.getElem?_map,uy zH];rfl) rfl rfl (tl rfl) ?_
  refine RT.di .none rfl rfl (tl rfl) ?_
  refine RT.conv .none (((a.getD i 0%18446744073709551616:Nat):Int)) rfl (tl rfl) S7 ?_
  refine RT.EP .none rfl (tl rfl) ?_
  refine RT.done ?_
  refine ae.n ?_
  refine aS ?_
  refine aS ?_
  refine af ?_
  refine RT.mv .none rfl (tl rfl) ?_
  refine RT.di .none rfl rfl (tl rfl) ?_
  refine RT.len .none rfl (tl rfl) ?_
  refine RT.lss .none (true) rfl rfl (tl rfl) (by simp only[List.length_map];simp;omega) ?_
  refine RT.done ?_
  refine ae.n ?_
  refine cU rfl ?_
  refine af ?_
  refine RT.di .none rfl rfl (tl rfl) ?_
  refine RT.mv .none rfl (tl rfl) ?_
  refine RT.U1 .none [.v (.int .u32 ((b.getD i 0:Nat):Int))] (Int.natCast_nonneg i) (by rw[Int.toNat_natCast,List.getElem?_map,uy BA];rfl) rfl rfl (tl rfl) ?_
  refine RT.di .none rfl rfl (tl rfl) ?_
  refine RT.conv .none (((b.getD i 0%18446744073709551616:Nat):Int)) rfl (tl rfl) S7 ?_
  refine RT.EP .none rfl (tl rfl) ?_
  refine RT.done ?_
  refine ae.n ?_
  refine aS ?_
  refine af ?_
  refine RT.mv .none rfl (tl rfl) ?_
  refine RT.mv .none rfl (tl rfl) ?_
  refine RT.mv .none rfl (tl rfl) ?_
  refine RT.yield .none hr rfl (fun _ h=>h) rfl (i) rfl rfl hi (by exact⟨rfl,rfl,trivial⟩) (tl rfl) (fun yb=>?_)
  cases yb
  ·
   refine RT.not .none rfl (tl rfl) true rfl ?_
   refine RT.done ?_
   refine ae.n ?_
   refine cU rfl ?_
   refine aj ?_
   refine aK.r ?_
   refine ae.r ?_
   refine ae.r ?_
   refine aK.r ?_
   exact⟨.inr rfl,(fun h=>by cases h)⟩
  ·
   refine RT.not .none rfl (tl rfl) false rfl ?_
   refine RT.done ?_
   refine ae.n ?_
   refine eV rfl ?_
   refine aH ?_
   refine aK.n ?_
   refine ae.n ?_
   refine af ?_
   refine RT.add .none (((i:Nat):Int)+1) rfl rfl (tl rfl) (mZ (by omega)) ?_
   refine RT.mv .none rfl (tl rfl) ?_
   refine RT.done ?_
   refine ae.n ?_
   refine⟨⟨i+1,by omega⟩,(by dsimp only;omega),?_⟩
   try dsimp only
   exact cy id rfl rfl rfl rfl rfl ⟨.sv (by first|exact SV.aa _|exact SV.au (by omega)|exact SV.au (by push_cast;omega)|exact SV.au (by dsimp only;omega)|exact SV.imp_eq (by simp)),.sv (by first|exact SV.aa _|exact SV.au (by omega)|exact SV.au (by push_cast;omega)|exact SV.au (by dsimp only;omega)|exact SV.imp_eq (by simp)),.sv (by first|exact SV.aa _|exact SV.au (by omega)|exact SV.au (by push_cast;omega)|exact SV.au (by dsimp only;omega)|exact SV.imp_eq (by simp)),.sv (by first|exact SV.aa _|exact SV.au (by omega)|exact SV.au (by push_cast;omega)|exact SV.au (by dsimp only;omega)|exact SV.imp_eq (by simp)),.sv (by first|exact SV.aa _|exact SV.au (by omega)|exact SV.au (by push_cast;omega)|exact SV.au (by dsimp only;omega)|exact SV.imp_eq (by simp)),trivial⟩ trivial trivial (fun _ _=>rfl)
 ·
  refine aS ?_
  refine af ?_
  refine RT.lss .none (true) rfl rfl (tl rfl) (by simp;omega) ?_
  refine RT.done ?_
  refine ae.n ?_
  refine aS ?_
  refine cU rfl ?_
  refine aH ?_
  refine ae.n ?_
  refine aS ?_
  refine ak ?_
  refine aS ?_
  refine af ?_
  refine RT.mv .none rfl (tl rfl) ?_
  refine RT.EP .none rfl (tl rfl) ?_
  refine RT.done ?_
  refine ae.n ?_
  refine aS ?_
  refine af ?_
  refine RT.EP .none rfl (tl rfl) ?_
  refine RT.EP .none rfl (tl rfl) ?_
  refine RT.done ?_
  refine ae.n ?_
  refine aS ?_
  refine aS ?_
  refine af ?_
  refine RT.mv .none rfl (tl rfl) ?_
  refine RT.di .none rfl rfl (tl rfl) ?_
  refine RT.len .none rfl (tl rfl) ?_
  refine RT.lss .none (true) rfl rfl (tl rfl) (by simp only[List.length_map];simp;omega) ?_
  refine RT.done ?_
  refine ae.n ?_
  refine cU rfl ?_
  refine af ?_
  refine RT.di .none rfl rfl (tl rfl) ?_
  refine RT.mv .none rfl (tl rfl) ?_
  refine RT.U1 .none [.v (.int .u32 ((a.getD i 0:Nat):Int))] (Int.natCast_nonneg i) (by rw[Int.toNat_natCast,List.getElem?_map,uy zH];rfl) rfl rfl (tl rfl) ?_
  refine RT.di .none rfl rfl (tl rfl) ?_
  refine RT.conv .none (((a.getD i 0%18446744073709551616:Nat):Int)) rfl (tl rfl) S7 ?_
  refine RT.EP .none rfl (tl rfl) ?_
  refine RT.done ?_
  refine ae.n ?_
  refine aS ?_
  refine aS ?_
  refine af ?_
  refine RT.mv .none rfl (tl rfl) ?_
  refine RT.di .none rfl rfl (tl rfl) ?_
  refine RT.len .none rfl (tl rfl) ?_
  refine RT.lss .none (false) rfl rfl (tl rfl) (by simp only[List.length_map];simp;omega) ?_
  refine RT.done ?_
  refine ae.n ?_
  refine eV rfl ?_
  refine aH ?_
  refine ae.n ?_
  refine aS ?_
  refine af ?_
  refine RT.mv .none rfl (tl rfl) ?_
  refine RT.mv .none rfl (tl rfl) ?_
  refine RT.mv .none rfl (tl rfl) ?_
  refine RT.yield .none hr rfl (fun _ h=>h) rfl (i) rfl rfl hi (by exact⟨rfl,(by show AV.sv _=AV.sv _;rw[xy BA];rfl),trivial⟩) (tl rfl) (fun yb=>?_)
  cases yb
  ·
   refine RT.not .none rfl (tl rfl) true rfl ?_
   refine RT.done ?_
   refine ae.n ?_
   refine cU rfl ?_
   refine aj ?_
   refine aK.r ?_
   refine ae.r ?_
   refine ae.r ?_
   refine aK.r ?_
   exact⟨.inr rfl,(fun h=>by cases h)⟩
  ·
   refine RT.not .none rfl (tl rfl) false rfl ?_
   refine RT.done ?_
   refine ae.n ?_
   refine eV rfl ?_
   refine aH ?_
   refine aK.n ?_
   refine ae.n ?_
   refine af ?_
   refine RT.add .none (((i:Nat):Int)+1) rfl rfl (tl rfl) (mZ (by omega)) ?_
   refine RT.mv .none rfl (tl rfl) ?_
   refine RT.done ?_
   refine ae.n ?_
   refine⟨⟨i+1,by omega⟩,(by dsimp only;omega),?_⟩
   try dsimp only
   exact cy id rfl rfl rfl rfl rfl ⟨.sv (by first|exact SV.aa _|exact SV.au (by omega)|exact SV.au (by push_cast;omega)|exact SV.au (by dsimp only;omega)|exact SV.imp_eq (by simp)),.sv (by first|exact SV.aa _|exact SV.au (by omega)|exact SV.au (by push_cast;omega)|exact SV.au (by dsimp only;omega)|exact SV.imp_eq (by simp)),.sv (by first|exact SV.aa _|exact SV.au (by omega)|exact SV.au (by push_cast;omega)|exact SV.au (by dsimp only;omega)|exact SV.imp_eq (by simp)),.sv (by first|exact SV.aa _|exact SV.au (by omega)|exact SV.au (by push_cast;omega)|exact SV.au (by dsimp only;omega)|exact SV.imp_eq (by simp)),.sv (by first|exact SV.aa _|exact SV.au (by omega)|exact SV.au (by push_cast;omega)|exact SV.au (by dsimp only;omega)|exact SV.imp_eq (by simp)),trivial⟩ trivial trivial (fun _ _=>rfl)
 ·
  refine aS ?_
  refine af ?_
  refine RT.lss .none (true) rfl rfl (tl rfl) (by simp;omega) ?_
  refine RT.done ?_
  refine ae.n ?_
  refine aS ?_
  refine cU rfl ?_
  refine aH ?_
  refine ae.n ?_
  refine aS ?_
  refine ak ?_
  refine aS ?_
  refine af ?_
  refine RT.mv .none rfl (tl rfl) ?_
  refine RT.EP .none rfl (tl rfl) ?_
  refine RT.done ?_
  refine ae.n ?_
  refine aS ?_
  refine af ?_
  refine RT.EP .none rfl (tl rfl) ?_
  refine RT.EP .none rfl (tl rfl) ?_
  refine RT.done ?_
  refine ae.n ?_
  refine aS ?_
  refine aS ?_
  refine af ?_
  refine RT.mv .none rfl (tl rfl) ?_
  refine RT.di .none rfl rfl (tl rfl) ?_
  refine RT.len .none rfl (tl rfl) ?_
  refine RT.lss .none (false) rfl rfl (tl rfl) (by simp only[List.length_map];simp;omega) ?_
  refine RT.done ?_
  refine ae.n ?_
  refine eV rfl ?_
  refine aH ?_
  refine ae.n ?_
  refine aS ?_
  refine aS ?_
  refine af ?_
  refine RT.mv .none rfl (tl rfl) ?_
  refine RT.di .none rfl rfl (tl rfl) ?_
  refine RT.len .none rfl (tl rfl) ?_
  refine RT.lss .none (true) rfl rfl (tl rfl) (by simp only[List.length_map];simp;omega) ?_
  refine RT.done ?_
  refine ae.n ?_
  refine cU rfl ?_
  refine af ?_
  refine RT.di .none rfl rfl (tl rfl) ?_
  refine RT.mv .none rfl (tl rfl) ?_
  refine RT.U1 .none [.v (.int .u32 ((b.getD i 0:Nat):Int))] (Int.natCast_nonneg i) (by rw[Int.toNat_natCast,List.getElem?_map,uy BA];rfl) rfl rfl (tl rfl) ?_
  refine RT.di .none rfl rfl (tl rfl) ?_
  refine RT.conv .none (((b.getD i 0%18446744073709551616:Nat):Int)) rfl (tl rfl) S7 ?_
  refine RT.EP .none rfl (tl rfl) ?_
  refine RT.done ?_
  refine ae.n ?_
  refine aS ?_
  refine af ?_
  refine RT.mv .none rfl (tl rfl) ?_
  refine RT.mv .none rfl (tl rfl) ?_
  refine RT.mv .none rfl (tl rfl) ?_
  refine RT.yield .none hr rfl (fun _ h=>h) rfl (i) rfl rfl hi (by exact⟨(by show AV.sv _=AV.sv _;rw[xy zH];rfl),rfl,trivial⟩) (tl rfl) (fun yb=>?_)
  cases yb
  ·
   refine RT.not .none rfl (tl rfl) true rfl ?_
   refine RT.done ?_
   refine ae.n ?_
   refine cU rfl ?_
   refine aj ?_
   refine aK.r ?_
   refine ae.r ?_
   refine ae.r ?_
   refine aK.r ?_
   exact⟨.inr rfl,(fun h=>by cases h)⟩
  ·
   refine RT.not .none rfl (tl rfl) false rfl ?_
   refine RT.done ?_
   refine ae.n ?_
   refine eV rfl ?_
   refine aH ?_
   refine aK.n ?_
   refine ae.n ?_
   refine af ?_
   refine RT.add .none (((i:Nat):Int)+1) rfl rfl (tl rfl) (mZ (by omega)) ?_
   refine RT.mv .none rfl (tl rfl) ?_
   refine RT.done ?_
   refine ae.n ?_
   refine⟨⟨i+1,by omega⟩,(by dsimp only;omega),?_⟩
   try dsimp only
   exact cy id rfl rfl rfl rfl rfl ⟨.sv (by first|exact SV.aa _|exact SV.au (by omega)|exact SV.au (by push_cast;omega)|exact SV.au (by dsimp only;omega)|exact SV.imp_eq (by simp)),.sv (by first|exact SV.aa _|exact SV.au (by omega)|exact SV.au (by push_cast;omega)|exact SV.au (by dsimp only;omega)|exact SV.imp_eq (by simp)),.sv (by first|exact SV.aa _|exact SV.au (by omega)|exact SV.au (by push_cast;omega)|exact SV.au (by dsimp only;omega)|exact SV.imp_eq (by simp)),.sv (by first|exact SV.aa _|exact SV.au (by omega)|exact SV.au (by push_cast;omega)|exact SV.au (by dsimp only;omega)|exact SV.imp_eq (by simp)),.sv (by first|exact SV.aa _|exact SV.au (by omega)|exact SV.au (by push_cast;omega)|exact SV.au (by dsimp only;omega)|exact SV.imp_eq (by simp)),trivial⟩ trivial trivial (fun _ _=>rfl)
 ·
  subst hi
  refine aS ?_
  refine af ?_
  refine RT.lss .none (false) rfl rfl (tl rfl) (by simp) ?_
  refine RT.done ?_
  refine ae.n ?_
  refine aS ?_
  refine eV rfl ?_
  refine bf ?_
  refine ae.x ?_
  refine ae.x ?_
  refine aK.x ?_
  exact⟨.inl rfl,(fun _=>rfl)⟩
theorem oz{x0 r:List Nat}(h:dj x0=some r):Pure Tryz.prog 175 [slc 1 (List.map ah x0)] (slc 1 (List.map ah r)):=by
 refine ay Tryz.func175 rfl (Nat.le_of_ble_eq_true rfl) (fun cO M vs hvs=>?_)
 unfold dj at h
 refine sr<|aI rfl (imp_nil (n:=1) (e:=ah))<|dn<|qq<|sr<|mv rfl ?_
 refine RT.U7 .none rfl T (fun nb hnb=>?_)
 cases nb
 exact dn<|fs<|sr<|RT.L9 (l:=([]:List Nat)) (e:=ah) .none .nil T rfl T rfl rfl rfl rfl rfl rfl<|mv rfl<|RT.WQ (k:=x0) (e:=ah) .none rfl rfl rfl T rfl T h<|ag rfl<|dn<|aj<|RZ (.tmp rfl .nil)
 have hx:x0=[]:=by simpa using hnb rfl
 subst hx
 obtain⟨_,_,rfl⟩:=uw h
 exact dn<|cT<|sr<|aI rfl (imp_nil (n:=1) (e:=ah))<|dn<|aj<|ae.r<|RZ (.tmp rfl .nil)
theorem nf{x0 r:List Nat}(h:dj x0=some r):F2 Tryz.prog 175 [slc 1 (List.map ah x0)] (TR 130 1 ah r):=by
 refine Ce Tryz.func175 rfl (Nat.le_of_ble_eq_true rfl) (fun cO M vs hvs=>?_)
 unfold dj at h
 refine sr<|ag rfl<|dn<|qq<|sr<|mv rfl ?_
 refine RT.U7 .none rfl T (fun nb hnb=>?_)
 cases nb
 exact dn<|fs<|sr<|RT.L9 (l:=([]:List Nat)) (e:=ah) .none .nil T rfl T rfl rfl rfl rfl rfl rfl<|mv rfl<|aR (k:=x0) (e:=ah) rfl rfl rfl h<|an (s:=.row _) rfl<|dn<|aj<|⟨.inr rfl,_,.tmp rfl,rfl⟩
 have hx:x0=[]:=by simpa using hnb rfl
 subst hx
 obtain⟨_,_,rfl⟩:=uw h
 exact dn<|cT<|sr<|ag rfl<|dn<|bt (fR 2 300 130 1 rfl rfl T)<|aj<|ae.r<|⟨.inr rfl,_,.tmp rfl,rfl⟩
theorem aY{x0:Nat}{c0:Nat}{r:Nat×Nat}(h:bz x0 c0=some r):SZ Tryz.prog 202 [.v (.int .u64 ((x0:Nat):Int))] 128 [.v (.int .u64 ((c0:Nat):Int))] (.v (.int .u32 ((r.1:Nat):Int))) [.v (.int .u64 ((r.2:Nat):Int))]:=by
 refine Kz Tryz.func202 rfl (Nat.le_of_ble_eq_true rfl) (fun cO M β=>?_)
 unfold bz at h
 refine sr<|ag rfl<|dn<|sr<|mv rfl<|lV rfl rfl rfl<|lE h fun x6 h6 h=>ad _ rfl rfl (UK.add (a:=x0) (b:=c0) h6)<|ag rfl<|dn<|sr<|mv rfl<|lE h fun x8 h8 h=>RT.shr .none _ rfl rfl T (by decide) (A5 (k:=.u64) (a:=x6) (q:=32) (s:=32) rfl h8)<|RT.oh (cells:=[_]) .none (s:=.sv _) rfl rfl rfl T rfl<|dn<|sr<|mv rfl<|lE h fun ek gC h=>cv _ rfl (UK.nat gC)<|ag rfl ?_
 refine dn<|aj ?_
 obtain rfl:=O h
 exact⟨.inr rfl,gL (.tmp rfl (.nil)) (SV.aa _),rfl⟩
theorem aQ{x0:List Nat}{r:List Nat}(h:aG x0=some r):Pure Tryz.prog 144 [slc 1 (List.map ah x0)] (slc 1 (List.map ah r)):=by
 refine ay Tryz.func144 rfl (Nat.le_of_ble_eq_true rfl) (fun cO M vs hvs=>?_)
 unfold aG at h
 refine sr<|aI rfl (imp_nil (n:=1) (e:=ah))<|dn<|qq<|bE h fun PI Gj A7=>?_
 refine aT (fun(Cr:(List Nat))=>AS.bJ 21 [(0,.sv (slc 1 (List.map ah Cr)))] [] []) (fun Cr=>Cr=PI) ?_ (fun Cr Gk=>?_)
 refine ak ?_
 refine aU Gj (fun Gg=>AS.bJ 21 [(0,.sv (slc 1 (List.map ah Gg)))] [] []) (wR []) (fun A6 y10 G10 h Gl CH=>?_)
 try dsimp only
 refine qq<|qq ?_
 refine aF h (fun Nz=>AS.bJ 21 [(0,.sv (slc 1 (List.map ah A6))),(14,.sv (.v (.bool Nz)))] [] []) (fun h=>?_) (fun Cq h=>?_)
 refine af<|mv rfl<|lE h fun x4 h4 h=>ln rfl h4<|lE h fun x5 h5 h=>gt _ rfl rfl h5<|mv rfl<|bE h fun zQ dZ h=>?_
 cases x5
 obtain rfl:=O (F dZ)
 exact ww<|ww<|ww<|ww<|ww<|ww<|ww<|pF rfl<|dn<|⟨false,h,wR []⟩
 refine gm rfl<|gm rfl<|lE (V dZ) fun x9 h9 dZ=>gn rfl h9<|lE dZ fun ek gC dZ=>RT.sub (.some rfl rfl) _ rfl rfl T gC<|bE dZ fun iI nh dZ=>RT.S8 (.some rfl rfl) rfl rfl T nh<|gr rfl rfl<|lE dZ fun iA gW dZ=>ge_ _ rfl rfl (eqN (p:=iI) (q:=0) gW) ?_
 obtain rfl:=O dZ
 exact pT rfl<|dn<|⟨iA,h,wR []⟩
 try dsimp only
 refine ae.n ?_
 cases Cq
 refine cF<|bf<|ae.x<|ae.x<|aK.x<|ae.n ?_
 obtain rfl:=O (F h)
 exact⟨A6,CH _ rfl,wR []⟩
 refine cT<|aH<|ae.n<|ak<|af<|mv rfl<|mv rfl<|lE (V h) fun gx lH h=>ln rfl lH<|lE h fun fF iM h=>sb _ rfl rfl iM<|bE h fun kS kJ h=>RT.F8 .none 0 fF rfl rfl ⟨_,rfl⟩ T kJ<|ag rfl<|RT.done<|aK.n ?_
 obtain rfl:=O h
 exact ae.n ⟨kS,Gl _ rfl,wR []⟩
 subst Gk
 try dsimp only
 refine ae.n<|sr<|mv rfl<|ag rfl<|dn<|aj ?_
 obtain rfl:=O A7
 exact R1 rfl
theorem fz{x0:Bool}{x1:List Nat}{r:Zr}(h:bO x0 x1=some r):Pure Tryz.prog 163 [.v (.bool x0),slc 1 (List.map ah x1)] (.agg (eZ r)):=by
 refine ay Tryz.func163 rfl (Nat.le_of_ble_eq_true rfl) (fun cO M vs hvs=>?_)
 unfold bO at h
 refine sr<|al (cs:=[.v (.bool false),slc 1 (List.map ah [])]) (by exact⟨SV.aa _,imp_nil,trivial⟩) rfl<|dn<|sr<|mv rfl<|bE h fun x6 h6 h=>cl (aQ h6) ⟨rfl,trivial⟩<|ag rfl<|dn<|qq<|sr<|mv rfl<|lE h fun x8 h8 h=>ln rfl h8<|lE h fun x9 h9 h=>eq _ rfl rfl (ua (p:=x8) (q:=0) h9)<|dn ?_
 cases x9
 refine fs<|sr<|mv rfl<|mv rfl<|bI (cs:=[_,_]) (cs':=[.v (.bool x0),slc 1 (List.map ah x6)]) (.one rfl (.one rfl (.nil))) ⟨SV.aa _,SV.aa _,trivial⟩<|so rfl rfl rfl<|dn<|aj ?_
 obtain rfl:=O (F h)
 exact RZ (.agg rfl rfl (.cons rfl (.cons rfl (.nil))) rfl (.nil))
 refine cT<|sr<|bI (cs:=[_,_]) (cs':=[.v (.bool false),slc 1 (List.map ah [])]) (.nil) ⟨SV.aa _,imp_nil,trivial⟩<|so rfl rfl rfl<|dn<|aj<|ae.r ?_
 obtain rfl:=O (V h)
 exact RZ (.agg rfl rfl (.cons rfl (.cons rfl (.nil))) rfl (.nil))
theorem ke{x0:Bool}{x1:Nat}{r:Zr}(h:dI x0 x1=some r):Pure Tryz.prog 137 [.v (.bool x0),.v (.int .u64 ((x1:Nat):Int))] (.agg (eZ r)):=by
 refine ay Tryz.func137 rfl (Nat.le_of_ble_eq_true rfl) (fun cO M vs hvs=>?_)
 unfold dI at h
 refine sr<|al (cs:=[.v (.bool false),slc 1 (List.map ah [])]) (by exact⟨SV.aa _,imp_nil,trivial⟩) rfl<|dn<|qq<|ak<|sr<|mv rfl<|lE h fun x7 h7 h=>eq _ rfl rfl (eqN (p:=x1) (q:=0) h7)<|ag rfl<|dn ?_
 cases x7
 refine cF<|sr<|mv rfl<|lE (F h) fun iI nh h=>RT.shr .none _ rfl rfl T (by decide) (A5 (k:=.u64) (a:=x1) (q:=32) (s:=32) rfl nh)<|lE h fun dW fj h=>eq _ rfl rfl (eqN (p:=iI) (q:=0) fj)<|ag rfl<|dn ?_
 cases dW
 refine cF<|aH<|aK.n<|ae.n<|sr<|mv rfl<|mv rfl<|lE (F h) fun gO lW h=>cv _ rfl (UK.nat lW)<|mv rfl<|lE h fun jB nS h=>RT.shr .none _ rfl rfl T (by decide) (A5 (k:=.u64) (a:=x1) (q:=32) (s:=32) rfl nS)<|lE h fun jJ qb h=>cv _ rfl (UK.nat qb)<|bl (l:=[gO,jJ]) (e:=ah) (.one rfl (.one rfl (.nil))) rfl rfl rfl rfl rfl rfl<|bI (cs:=[_,_]) (cs':=[.v (.bool x0),slc 1 (List.map ah [gO,jJ])]) (.one rfl (.one rfl (.nil))) ⟨SV.aa _,SV.aa _,trivial⟩ ?_
 refine so rfl rfl rfl<|dn<|aj ?_
 obtain rfl:=O h
 exact RZ (.agg rfl rfl (.cons rfl (.cons rfl (.nil))) rfl (.nil))
 refine cT<|sr<|mv rfl<|mv rfl<|lE (V h) fun dR fT h=>cv _ rfl (UK.nat fT)<|bl (l:=[dR]) (e:=ah) (.one rfl (.nil)) rfl rfl rfl rfl rfl rfl<|bI (cs:=[_,_]) (cs':=[.v (.bool x0),slc 1 (List.map ah [dR])]) (.one rfl (.one rfl (.nil))) ⟨SV.aa _,SV.aa _,trivial⟩<|so rfl rfl rfl<|dn<|aj<|aK.r<|ae.r ?_
 obtain rfl:=O h
 exact RZ (.agg rfl rfl (.cons rfl (.cons rfl (.nil))) rfl (.nil))
 refine cT<|sr<|bI (cs:=[_,_]) (cs':=[.v (.bool false),slc 1 (List.map ah [])]) (.nil) ⟨SV.aa _,imp_nil,trivial⟩<|so rfl rfl rfl<|dn<|aj<|aK.r<|ae.r ?_
 obtain rfl:=O (V h)
 exact RZ (.agg rfl rfl (.cons rfl (.cons rfl (.nil))) rfl (.nil))
theorem dz{x0:List Nat}{r:Nat}(h:dB x0=some r):Pure Tryz.prog 162 [slc 1 (List.map ah x0)] (.v (.int .u64 ((r:Nat):Int))):=by
 refine ay Tryz.func162 rfl (Nat.le_of_ble_eq_true rfl) (fun cO M vs hvs=>?_)
 unfold dB at h
 refine sr<|ag rfl<|dn<|qq<|sr<|mv rfl<|lE h fun x4 h4 h=>ln rfl h4<|dn<|ak<|sr<|lE h fun x6 h6 h=>eq _ rfl rfl (ua (p:=x4) (q:=0) h6)<|ag rfl<|dn ?_
 cases x6
 refine cF<|sr<|lE (F h) fun x8 h8 h=>eq _ rfl rfl (ua (p:=x4) (q:=1) h8)<|ag rfl<|dn ?_
 cases x8
 refine cF<|aH<|aK.n<|ae.n<|qq<|ai mixed<|mv rfl<|bE (F h) fun fg jv h=>ix rfl rfl jv<|lr rfl rfl<|lE h fun iY kX h=>cv _ rfl (UK.nat kX)<|mv rfl<|bE h fun fF iM h=>ix rfl rfl iM<|lr rfl rfl<|lE h fun gO lW h=>cv _ rfl (UK.nat lW)<|lE h fun ik ni h=>RT.shl .none _ rfl rfl T (by decide) (UK.shl (a:=gO) (q:=32) (s:=32) rfl ni)<|lE h fun jB nS h=>RT.or .none _ rfl rfl T (UK.or (a:=iY) (b:=ik) nS) ?_
 refine ag rfl ?_
 refine RT.done ⟨by kernel_rfl,?_⟩
 refine ae.n<|aj ?_
 obtain rfl:=O h
 exact R1 rfl
 refine cT<|sr<|mv rfl<|bE (V h) fun ek gC h=>ix rfl rfl gC<|lr rfl rfl<|lE h fun dW fj h=>cv _ rfl (UK.nat fj)<|ag rfl<|dn<|aj<|aK.r<|ae.r ?_
 obtain rfl:=O h
 exact R1 rfl
 refine cT<|sr<|ag rfl<|dn<|aj<|aK.r<|ae.r ?_
 obtain rfl:=O (V h)
 exact R1 rfl
theorem dG{x0:List Nat}{x1:List Nat}{r:Int}(h:cJ x0 x1=some r):Pure Tryz.prog 161 [slc 1 (List.map ah x0),slc 1 (List.map ah x1)] (.v (.int .i64 r)):=by
 refine ay Tryz.func161 rfl (Nat.le_of_ble_eq_true rfl) (fun cO M vs hvs=>?_)
 unfold cJ at h
 refine sr<|ag rfl<|dn<|qq<|sr<|mv rfl<|lE h fun x7 h7 h=>ln rfl h7<|mv rfl<|lE h fun x9 h9 h=>ln rfl h9<|lE h fun ek gC h=>ne _ rfl rfl (F6 (p:=x7) (q:=x9) gC)<|dn ?_
 cases ek
 refine fs<|qq<|sr<|mv rfl<|lE (F h) fun gx lH h=>ln rfl lH<|lE h fun fF iM h=>sb _ rfl rfl iM<|ag rfl<|dn<|bE h fun e6 CI jd=>?_
 refine aT (fun(Gm:Unit)=>AS.bJ 41 [] [] []) (fun Gm=>.inl Gm=e6) ?_ (fun Gm CJ=>?_)
 refine ak ?_
 refine aU CI (fun s6=>AS.bJ 41 [(0,.sv (slc 1 (List.map ah x0))),(1,.sv (slc 1 (List.map ah x1))),(5,.sv (.v (.int .i64 s6)))] [] []) (wR []) (fun rG y6 G6 h CK yJ=>?_)
 try dsimp only
 refine qq<|sr<|mv rfl<|lE h fun gO lW h=>ge _ rfl rfl lW<|dn ?_
 cases gO
 refine cF<|bf<|ae.x<|ae.x<|aK.x<|ae.n ?_
 obtain rfl:=O (F h)
 exact⟨(),yJ _ rfl,wR []⟩
 refine cT<|aH<|ae.n<|qq<|ak<|qq<|ai mixed<|mv rfl<|mv rfl<|bE (V h) fun vS qc h=>ix rfl rfl qc<|lr rfl rfl<|mv rfl<|mv rfl<|bE h fun iq jw h=>ix rfl rfl jw<|lr rfl rfl<|lE h fun rf xC h=>ne _ rfl rfl (neN (p:=vS) (q:=iq) xC) ?_
 refine RT.done ⟨by kernel_rfl,?_⟩
 refine ae.n ?_
 cases rf
 refine cF<|aH<|aK.n<|ae.n<|af<|mv rfl<|lE (F h) fun jB nS h=>sb _ rfl rfl nS<|ag rfl<|RT.done ?_
 obtain rfl:=O h
 exact ae.n ⟨jB,CK _ rfl,wR []⟩
 refine cT<|qq<|qq<|ai mixed<|mv rfl<|mv rfl<|bE (V h) fun m8 o9 h=>ix rfl rfl o9<|lr rfl rfl<|mv rfl<|mv rfl<|bE h fun yB Gn h=>ix rfl rfl Gn<|lr rfl rfl<|lE h fun lO oc h=>ls _ rfl rfl (ltN (p:=m8) (q:=yB) oc) ?_
 refine RT.done ⟨by kernel_rfl,?_⟩
 refine ae.n ?_
 cases lO
 refine fs<|sr<|ag rfl<|dn<|aj<|aK.r<|ae.r ?_
 obtain rfl:=O (F h)
 have PJ:=yJ _ rfl
 subst PJ
 refine ae.r<|aK.r<|ae.r<|ae.r ?_
 obtain rfl:=O jd
 exact R1 rfl
 refine cT<|sr<|ag rfl<|dn<|aj<|ae.r<|aK.r<|ae.r ?_
 obtain rfl:=O (V h)
 have PJ:=yJ _ rfl
 subst PJ
 refine ae.r<|aK.r<|ae.r<|ae.r ?_
 obtain rfl:=O jd
 exact R1 rfl
 subst CJ
 try dsimp only
 refine ae.n<|sr<|ag rfl<|dn<|aj ?_
 obtain rfl:=O jd
 exact R1 rfl
 refine cT<|qq<|sr<|mv rfl<|lE (V h) fun dW fj h=>ln rfl fj<|mv rfl<|lE h fun fg jv h=>ln rfl jv<|lE h fun dR fT h=>ls _ rfl rfl fT<|dn ?_
 cases dR
 refine fs<|sr<|ag rfl<|dn<|aj<|ae.r ?_
 obtain rfl:=O (F h)
 exact R1 rfl
 refine cT<|sr<|ag rfl<|dn<|aj<|ae.r<|ae.r ?_
 obtain rfl:=O (V h)
 exact R1 rfl
theorem qt{x0:List Nat}{x1:List Nat}{r:List Nat}(h:dy x0 x1=some r):Pure Tryz.prog 194 [slc 1 (List.map ah x0),slc 1 (List.map ah x1)] (slc 1 (List.map ah r)):=by
 refine ay Tryz.func194 rfl (Nat.le_of_ble_eq_true rfl) (fun cO M vs hvs=>?_)
 unfold dy at h
 refine sr<|aI rfl (imp_nil (n:=1) (e:=ah))<|dn<|sr<|mv rfl<|lE h fun ek gC h=>ln rfl gC<|mv rfl<|lE h fun dW fj h=>ln rfl fj<|lE h fun iA gW h=>RT.max .none _ rfl rfl T (Im (p:=ek) (q:=dW) gW)<|lE h fun fg jv h=>ad _ rfl rfl jv<|bE h fun dR fT h=>RT.wO (e:=ah) .none rfl rfl T rfl T fT<|RT.alloc .none T rfl rfl<|RT.iH (cells:=[_]) .none rfl rfl rfl rfl T rfl<|dn<|sr<|RT.uu .none (cE 0) rfl ⟨rfl,trivial⟩ T rfl rfl ?_
 refine RT.alloc .none T rfl rfl<|RT.oh (cells:=[_]) .none (s:=.eU _ _) rfl rfl rfl T rfl<|dn<|qq<|sr<|mv rfl<|mv rfl<|cl (l9 x0 x1) ⟨rfl,rfl,trivial⟩<|dn<|ak<|bE h fun e7 Xf KQ=>?_
 obtain⟨KR,Xg,Xh,Xi⟩:=jA Xf
 refine fW (mc x0 x1) (fun _ _ _ _ _=>trivial) rfl (fun k=>AS.bJ 35 [(5,.ptr 5 0),(6,.ptr 6 0),(19,.sv (iC 214 [ref [slc 1 (List.map ah x0)],ref [slc 1 (List.map ah x1)]]))] [(6,⟨186,[.eU 202 [.box 16]]⟩),(16,⟨128,[.sv (.v (.int .u64 (((KR k).1:Nat):Int)))]⟩),(5,⟨39,[.row 302]⟩)] [(302,TR 130 1 ah (KR k).2)]) [6,16,5] rfl (fun _=>⟨rfl,rfl⟩) (om rfl) (fun _=>rfl) (oq rfl) (by(try dsimp only);rw[Xg];(try dsimp only);exact cy (fun i=>bif Nat.beq i 302 then 15 else i) rfl rfl rfl rfl rfl ⟨.ptr,.ptr,.sv (SV.aa _),trivial⟩ ⟨⟨_,rfl,⟨.eU,trivial⟩⟩,⟨_,rfl,⟨.sv (SV.aa _),trivial⟩⟩,⟨_,rfl,⟨.row rfl,trivial⟩⟩,trivial⟩ ⟨⟨_,rfl,bB.refl _⟩,trivial⟩ (fun i hi=>by rw[bp (show i≠302 by omega)];rfl)) (fun k hk D hD=>?_) ?_
 have h:=Xh k hk
 obtain⟨sk,IG⟩:∃q,KR k=q:=⟨_,rfl⟩
 rw[IG]at h⊢
 obtain⟨sG,gQ⟩:=sk
 dsimp only[AS.L4,oY]
 try dsimp only at h
 refine lE h fun p20 CL h=>?_
 rw[CL]
 refine lE h fun p21 Xj h=>?_
 rw[Xj]
 refine sr<|ag rfl<|dn<|af<|ag rfl<|RT.done ?_
 refine ae.n ⟨rfl,?_⟩
 dsimp only[AS.yy]
 refine ak<|ai mixed<|RT.c7 .none (s:=.row _) rfl rfl rfl T<|RT.c7 .none (s:=.eU _ _) rfl rfl rfl T<|mv rfl<|mv rfl<|lE h fun lG oQ h=>ad _ rfl rfl (UK.add (a:=p20) (b:=p21) oQ) ?_
 obtain⟨⟨lq,k9⟩,oU,h⟩:=bS h
 refine cB (aY oU) 16 rfl ⟨rfl,trivial⟩<|bl (l:=[lq]) (e:=ah) (.one rfl (.nil)) rfl rfl rfl rfl rfl rfl<|bE h fun iq jw h=>aR (k:=[lq]) (e:=ah) rfl rfl rfl jw<|RT.iH (cells:=[_]) .none rfl rfl rfl rfl T rfl ?_
 refine RT.done ⟨by kernel_rfl,?_⟩
 refine aK.n ?_
 replace h:=Option.some.inj h
 refine⟨trivial,rfl,rfl,?_⟩
 try dsimp only
 rw[←h]
 try dsimp only
 exact cy (fun i=>bif Nat.beq i 302 then 29 else i) rfl rfl rfl rfl rfl ⟨.ptr,.ptr,.sv (SV.aa _),trivial⟩ ⟨⟨_,rfl,⟨.eU,trivial⟩⟩,⟨_,rfl,⟨.sv (SV.aa _),trivial⟩⟩,⟨_,rfl,⟨.row rfl,trivial⟩⟩,trivial⟩ ⟨⟨_,rfl,bB.refl _⟩,trivial⟩ (fun i hi=>by rw[bp (show i≠302 by omega)];rfl)
 rw[Xi]
 obtain⟨sG,gQ⟩:=e7
 try dsimp only
 refine aK.n<|ae.n<|qq<|ai mixed<|RT.c7 .none (s:=.row _) rfl rfl rfl T<|RT.c7 .none (s:=.eU _ _) rfl rfl rfl T ?_
 obtain⟨⟨iD,k11⟩,kV,KQ⟩:=bS KQ
 refine cB (aY kV) 16 rfl ⟨rfl,trivial⟩<|bl (l:=[iD]) (e:=ah) (.one rfl (.nil)) rfl rfl rfl rfl rfl rfl<|bE KQ fun m8 o9 KQ=>RT.WQ (k:=[iD]) (e:=ah) .none rfl rfl rfl T rfl T o9<|ag rfl ?_
 refine RT.done ⟨by kernel_rfl,?_⟩
 refine ae.n<|aj ?_
 obtain rfl:=O KQ
 exact R1 rfl
theorem me{x0:List Nat}{x1:List Nat}{r:List Nat}(h:cg x0 x1=some r):Pure Tryz.prog 195 [slc 1 (List.map ah x0),slc 1 (List.map ah x1)] (slc 1 (List.map ah r)):=by
 refine ay Tryz.func195 rfl (Nat.le_of_ble_eq_true rfl) (fun cO M vs hvs=>?_)
 unfold cg at h
 refine sr<|aI rfl (imp_nil (n:=1) (e:=ah))<|dn<|sr<|mv rfl<|lE h fun ek gC h=>ln rfl gC<|bE h fun iI nh h=>RT.wO (e:=ah) .none rfl rfl T rfl T nh<|RT.alloc .none T rfl rfl<|RT.iH (cells:=[_]) .none rfl rfl rfl rfl T rfl<|dn<|sr<|RT.uu .none (cE 1) rfl ⟨rfl,trivial⟩ T rfl rfl<|RT.alloc .none T rfl rfl<|RT.oh (cells:=[_]) .none (s:=.eU _ _) rfl rfl rfl T rfl<|dn<|qq<|sr<|mv rfl ?_
 refine mv rfl<|cl (l9 x0 x1) ⟨rfl,rfl,trivial⟩<|dn<|ak<|bE h fun e7 Xf KQ=>?_
 obtain⟨KR,Xg,Xh,Xi⟩:=jA Xf
 refine fW (mc x0 x1) (fun _ _ _ _ _=>trivial) rfl (fun k=>AS.bJ 28 [(5,.ptr 5 0),(6,.ptr 6 0),(15,.sv (iC 214 [ref [slc 1 (List.map ah x0)],ref [slc 1 (List.map ah x1)]]))] [(6,⟨186,[.eU 202 [.box 12]]⟩),(12,⟨128,[.sv (.v (.int .u64 (((KR k).1:Nat):Int)))]⟩),(5,⟨39,[.row 302]⟩)] [(302,TR 130 1 ah (KR k).2)]) [6,12,5] rfl (fun _=>⟨rfl,rfl⟩) (om rfl) (fun _=>rfl) (oq rfl) (by(try dsimp only);rw[Xg];(try dsimp only);exact cy (fun i=>bif Nat.beq i 302 then 11 else i) rfl rfl rfl rfl rfl ⟨.ptr,.ptr,.sv (SV.aa _),trivial⟩ ⟨⟨_,rfl,⟨.eU,trivial⟩⟩,⟨_,rfl,⟨.sv (SV.aa _),trivial⟩⟩,⟨_,rfl,⟨.row rfl,trivial⟩⟩,trivial⟩ ⟨⟨_,rfl,bB.refl _⟩,trivial⟩ (fun i hi=>by rw[bp (show i≠302 by omega)];rfl)) (fun k hk D hD=>?_) ?_
 have h:=Xh k hk
 obtain⟨sk,IG⟩:∃q,KR k=q:=⟨_,rfl⟩
 rw[IG]at h⊢
 obtain⟨vT,gQ⟩:=sk
 dsimp only[AS.L4,oY]
 try dsimp only at h
 refine lE h fun p16 Xk h=>?_
 rw[Xk]
 refine lE h fun p17 Xl h=>?_
 rw[Xl]
 refine sr<|ag rfl<|dn<|af<|ag rfl<|RT.done ?_
 refine ae.n ⟨rfl,?_⟩
 dsimp only[AS.yy]
 refine ak<|ai mixed<|RT.c7 .none (s:=.row _) rfl rfl rfl T<|RT.c7 .none (s:=.eU _ _) rfl rfl rfl T<|mv rfl<|mv rfl<|lE h fun jB nS h=>sb _ rfl rfl (UK.sub (a:=4294967295) (b:=p17) nS)<|lE h fun jJ qb h=>ad _ rfl rfl (UK.add (a:=p16) (b:=jB) qb) ?_
 obtain⟨⟨ir,k9⟩,mP,h⟩:=bS h
 refine cB (aY mP) 12 rfl ⟨rfl,trivial⟩<|bl (l:=[ir]) (e:=ah) (.one rfl (.nil)) rfl rfl rfl rfl rfl rfl<|bE h fun lG oQ h=>aR (k:=[ir]) (e:=ah) rfl rfl rfl oQ<|RT.iH (cells:=[_]) .none rfl rfl rfl rfl T rfl ?_
 refine RT.done ⟨by kernel_rfl,?_⟩
 refine aK.n ?_
 replace h:=Option.some.inj h
 refine⟨trivial,rfl,rfl,?_⟩
 try dsimp only
 rw[←h]
 try dsimp only
 exact cy (fun i=>bif Nat.beq i 302 then 26 else i) rfl rfl rfl rfl rfl ⟨.ptr,.ptr,.sv (SV.aa _),trivial⟩ ⟨⟨_,rfl,⟨.eU,trivial⟩⟩,⟨_,rfl,⟨.sv (SV.aa _),trivial⟩⟩,⟨_,rfl,⟨.row rfl,trivial⟩⟩,trivial⟩ ⟨⟨_,rfl,bB.refl _⟩,trivial⟩ (fun i hi=>by rw[bp (show i≠302 by omega)];rfl)
 rw[Xi]
 obtain⟨vT,gQ⟩:=e7
 try dsimp only
 refine aK.n<|ae.n<|sr<|RT.c7 .none (s:=.row _) rfl rfl rfl T<|an (s:=.row _) rfl<|dn<|bt (dD (i:=302) (E1:=130) (n:=1) (e:=ah) (l:=gQ) rfl)<|aj ?_
 obtain rfl:=O KQ
 exact R1 rfl
theorem yK{x0:List Nat}{x1:List Nat}{r:List Nat}(h:dX x0 x1=some r):Pure Tryz.prog 164 [slc 1 (List.map ah x0),slc 1 (List.map ah x1)] (slc 1 (List.map ah r)):=by
 refine ay Tryz.func164 rfl (Nat.le_of_ble_eq_true rfl) (fun cO M vs hvs=>?_)
 unfold dX at h
 refine sr<|aI rfl (imp_nil (n:=1) (e:=ah))<|dn<|sr<|mv rfl<|lE h fun dW fj h=>ln rfl fj<|mv rfl<|lE h fun fg jv h=>ln rfl jv<|lE h fun dR fT h=>ad _ rfl rfl fT<|bE h fun iY kX h=>RT.kW (n:=1) (e:=ah) .none rfl rfl T rfl T (by rfl) (by decide) (by exact⟨SV.aa _,trivial⟩) kX<|an (s:=.row _) rfl<|dn<|qq<|sr<|mv rfl<|lE h fun fF iM h=>ln rfl iM ?_
 refine mv rfl<|dn<|bE h fun e28 Xm Xn=>?_
 refine aT (fun(m9:(List Nat))=>AS.bJ 63 [(5,.row 16)] [] [(16,TR 130 1 ah m9)]) (fun m9=>m9=e28) ?_ (fun m9 Xo=>?_)
 refine ak ?_
 refine aU Xm (fun Pe=>AS.bJ 63 [(1,.sv (slc 1 (List.map ah x1))),(5,.row 16),(17,.sv (slc 1 (List.map ah x0))),(18,.sv (.v (.int .i64 fF))),(19,.sv (.v (.int .i64 Pe.1)))] [] [(16,TR 130 1 ah Pe.2)]) (wR []) (fun Pe y28 G28 h Xp Xq=>?_)
 obtain⟨kT,zR⟩:=Pe
 try dsimp only
 refine sr<|lE h fun gO lW h=>ls _ rfl rfl lW<|dn<|qq ?_
 cases gO
 refine cF<|bf<|ae.x<|ae.x<|aK.x<|ae.n ?_
 obtain rfl:=O (F h)
 exact⟨zR,Xq _ rfl,wR []⟩
 refine cT<|aH<|ae.n<|qq<|ak<|sr<|mv rfl<|bE (V h) fun jB nS h=>ix rfl rfl nS<|lr rfl rfl<|ag rfl<|ag rfl<|dn<|sr<|RT.uu .none (cE 0) rfl ⟨rfl,trivial⟩ T rfl rfl<|an (s:=.eU _ _) rfl<|dn<|qq<|sr<|mv rfl<|lE h fun lG oQ h=>ln rfl oQ<|mv rfl<|dn<|bE h fun WX PK eT=>?_
 refine aT (fun(zW:Nat×(List Nat))=>AS.bJ 63 [(1,.sv (slc 1 (List.map ah x1))),(5,.row 16),(6,.sv (.v (.int .i64 kT))),(8,.eU 202 [.box 24]),(17,.sv (slc 1 (List.map ah x0))),(18,.sv (.v (.int .i64 fF))),(19,.sv (.v (.int .i64 kT)))] [(24,⟨128,[.sv (.v (.int .u64 ((zW.1:Nat):Int)))]⟩)] [(16,TR 130 1 ah zW.2)]) (fun zW=>zW=WX) ?_ (fun zW PL=>?_)
 refine ak ?_
 refine aU PK (fun EW=>AS.bJ 63 [(1,.sv (slc 1 (List.map ah x1))),(5,.row 16),(6,.sv (.v (.int .i64 kT))),(7,.sv (.v (.int .u32 ((jB:Nat):Int)))),(8,.eU 202 [.box 24]),(17,.sv (slc 1 (List.map ah x0))),(18,.sv (.v (.int .i64 fF))),(19,.sv (.v (.int .i64 kT))),(25,.sv (slc 1 (List.map ah x1))),(26,.sv (.v (.int .i64 lG))),(27,.sv (.v (.int .i64 EW.1)))] [(24,⟨128,[.sv (.v (.int .u64 ((EW.2.1:Nat):Int)))]⟩)] [(16,TR 130 1 ah EW.2.2)]) (wR []) (fun EW y38 G38 h PM PN=>?_)
 obtain⟨xz,rH,sH⟩:=EW
 try dsimp only
 refine sr<|lE h fun oM sS h=>ls _ rfl rfl sS<|dn<|qq ?_
 cases oM
 refine cF<|bf<|ae.x<|ae.x<|aK.x<|ae.n ?_
 obtain rfl:=O (F h)
 exact⟨(rH,sH),PN _ rfl,wR []⟩
 refine cT<|aH<|ae.n<|qq<|ak<|sr<|mv rfl<|bE (V h) fun uB uJ h=>ix rfl rfl uJ<|lr rfl rfl<|ag rfl<|ag rfl<|dn<|af<|mo (s:=.row _) rfl<|mv rfl<|mv rfl<|lE h fun ow xD h=>ad _ rfl rfl xD<|mo (s:=.eU _ _) rfl<|mo (s:=.row _) rfl<|mv rfl<|mv rfl<|lE h fun lO oc h=>ad _ rfl rfl oc<|bE h fun tG zX h=>iR rfl rfl rfl zX ?_
 refine bE h fun oZ xE h=>lR rfl rfl xE rfl<|lE h fun tJ BF h=>cv _ rfl (UK.nat BF)<|mv rfl<|lE h fun xA Gp h=>cv _ rfl (UK.nat Gp)<|mv rfl<|lE h fun uC xF h=>cv _ rfl (UK.nat xF)<|lE h fun rI h48 h=>RT.mul .none _ rfl rfl T (UK.mul (a:=xA) (b:=uC) h48)<|lE h fun Iw KS h=>ad _ rfl rfl (UK.add (a:=tJ) (b:=rI) KS) ?_
 obtain⟨⟨ri,k41⟩,A8,h⟩:=bS h
 refine cB (aY A8) 24 rfl ⟨rfl,trivial⟩<|bE h fun Gc Gq h=>iR rfl rfl rfl Gq<|bE h fun SB II h=>sR ri rfl rfl rfl rfl II<|RT.done<|aK.n<|ae.n<|af<|lE h fun uc yL h=>ad _ rfl rfl yL<|mv rfl<|RT.done ?_
 obtain rfl:=O h
 exact ae.n ⟨(uc,k41,SB),PM _ rfl,wR []⟩
 subst PL
 obtain⟨Cs,Ge⟩:=zW
 try dsimp only
 refine ae.n<|af<|mo (s:=.row _) rfl<|mv rfl<|mv rfl<|lE eT fun D5 Ep eT=>ln rfl Ep<|lE eT fun SC Xr eT=>ad _ rfl rfl Xr<|mo (s:=.eU _ _) rfl ?_
 obtain⟨⟨KE,k45⟩,Tl,eT⟩:=bS eT
 refine cB (aY Tl) 24 rfl ⟨rfl,trivial⟩<|bE eT fun EX KT eT=>iR rfl rfl rfl KT<|bE eT fun l46 PO eT=>sR KE rfl rfl rfl rfl PO<|RT.done<|aK.n<|ae.n<|af<|lE eT fun D6 KU eT=>ad _ rfl rfl KU<|mv rfl<|RT.done ?_
 obtain rfl:=O eT
 exact ae.n ⟨(D6,l46),Xp _ rfl,wR []⟩
 subst Xo
 try dsimp only
 refine ae.n<|sr<|mo (s:=.row _) rfl<|an (s:=.row _) rfl<|dn<|bt (dD (i:=16) (E1:=130) (n:=1) (e:=ah) (l:=m9) rfl)<|aj ?_
 obtain rfl:=O Xn
 exact R1 rfl
end Go.Proofs.YtningmnklfpfjaaGreat
