/- A part of the proof: the framework, the plain functions, the followed functions, the plain laws. -/
import Derived.Test.YtningmnklfpfjaaGreatPTE1
set_option linter.unusedVariables false
set_option linter.unusedSimpArgs false
namespace Go.Fw
open Go.RowKit
inductive Src (S:AS) (E0:TypeId) (n:Nat):Operand→List (Nat×lq)→List Nat→Nat→List SV→Prop
 |nil {x:Operand} (h:S.ev x=.sv (.v (.slice none 0 0))):Src S E0 n x [] [] 0 []
 |row {x:Operand} {i m:Nat} {cs:List SV} (h:S.ev x=.row i) (hR:S.r i=.live ⟨E0,n,m,cs⟩):Src S E0 n x [(i,.dead)] [i] m cs
theorem MD{i:Nat}{X:SV}{x:AV}(h:¬x.mr i):x.nY i X=x:=by
 cases x with
 |row k=>simp only[AV.nY];rw[bH (fun e=>h e.symm)];rfl
 |je k o=>simp only[AV.nY];rw[bH (fun e=>h e.symm)];rfl
 |nP k o l=>simp only[AV.nY];rw[bH (fun e=>h e.symm)];rfl
 |cmp t js=>
  simp only[AV.nY]
  have:js.any (Fc.zO i)=false:=by
   cases e:js.any (Fc.zO i)with
   |false=>rfl
   |true=>
    obtain⟨c,hc,hi⟩:=List.any_eq_true.1 e
    cases c with
    |row j=>have hi:Nat.beq j i=true:=hi;obtain rfl:=Nat.eq_of_beq_eq_true hi;exact absurd hc h
    |_=>cases hi
  rw[this];rfl
 |_=>rfl
section steps
variable {P:Program}{C:Ctx}{ops:Array Oper}{S:AS}{nd:Bool}{K:List Ac→AS→Prop}{rest:List Oper}{acc:List Ac}
variable {gd:Option (Nat×Bool)}{rg:List Nat}{d:Nat}{ty:TypeId}{pos:String}{aft:Array Edge}{x y z:Operand}{T U E0:TypeId}
theorem Src.val{E:Env}{a:Act}{w:World}{S':AS}{n m:Nat}{old:List (Nat×lq)}{rr:List Nat}{cs:List SV}(h:az C S' E a w)(hx:Src S E0 n x old rr m cs)(ht:∀s∈au x,S'.t s=S.t s)(hr:∀i∈rr,S'.r i=S.r i):
  (∃vs,w.ownsRow 0 E0 n (a.eval x) m vs∧SV.dR E.M cs vs)∧((old=[]∧(a.eval x).ownBlock=none)∨∃i R,old=[(i,.dead)]∧S'.r i=.live R∧(a.eval x).ownBlock=(E.ν i).ownBlock):=by
 cases hx with
 |nil hx=>
  have h1:a.eval x=.slice none 0 0:=by have h1:=h.ev x;rw[aH (fun _ h=>h) ht,hx]at h1;exact h1
  rw[h1]
  exact⟨⟨[],World.ownsRow_nil _ _ _ _,trivial⟩,.inl ⟨rfl,rfl⟩⟩
 | @row i _ _ hx hR=>
  have h1:a.eval x=E.ν i:=by have h1:=h.ev x;rw[aH (fun _ h=>h) ht,hx]at h1;exact h1
  have oB:=(hr i (by simp)).trans hR
  rw[h1]
  obtain⟨⟨vs,h2,h3⟩,_⟩:=h.rx i _ oB
  exact⟨⟨vs,h2,h3⟩,.inr ⟨i,_,rfl,oB,rfl⟩⟩
theorem RT.JP(hg:Gd ops S gd rg){n by_:Nat}{zv:Value}[tS:eA P T E0 n][tE:aK P E0 n by_ zv]{old:List (Nat×lq)}{rr:List Nat}{m:Nat}{cs:List SV}{s:SV}{rows:List (List SV)}[hs:Qq s n rows]
  (hx:Src S E0 n x old rr m cs) (hy:S.ev y=.sv s) (hd:d<S.n) (yL:S.r d=.un) (xx:d<1000) (hroom:(m+rows.length)*by_≤140737488355328) (tD:m+rows.length≤140737488355328)
  (X:SV) {rows':List (List SV)} (hX:∀M v,(slc n rows').h M v→(∀g,v.ownBlock=some g→(C.w0.heap.size≤g∨C.vc g)∧∃o,M g o=some (.agg #[]))→X.h M v) (jx:Rows n rows' (cs++rows.flatten)) (hlen:rows'.length=m+rows.length) (hone:∀M vs,SV.dR M (cs++rows.flatten) vs→∀v∈vs,v.oneCell'=true)
  (next:RunT P C ops nd K rest (⟨rg++(au x++au y),[],d::rr,⟨some (d,.sv X),[],old++[(d,.dead)]⟩⟩::acc) ((AS.bA (old++[(d,.dead)]) S).set d (.sv X))):RunT P C ops nd K (⟨some d,.call ⟨.builtin .append,#[x,y],#[T,T]⟩,ty,pos,aft,gd⟩::rest) acc S:=by
 refine .inl ⟨_,[],d::rr,_,?_,next⟩
 rintro S' hn ht _ hr i a w L Q ho ⟨E,h⟩ hL
 refine bX (C:=C) ho (hg.wanted h (fun s hs=>ht s (List.mem_append_left _ hs)) rfl) ?_
 obtain⟨⟨vs,hown,hvs⟩,hold⟩:=hx.val h (fun s hs=>ht s (List.mem_append_right _ (List.mem_append_left _ hs))) (fun i hi=>hr i (List.mem_cons_of_mem _ hi))
 have h2:=h.ev y
 rw[aH (fun _ h=>List.mem_append_right _ (List.mem_append_right _ h)) ht,hy]at h2
 obtain⟨info,hi,hsz,hby,hz⟩:=aK.info (P:=P) (E:=E0) (n:=n) (by_:=by_) (z:=zv)
 have KT:S'.r d=.un:=by rw[hr d (by simp)];exact yL
 have run:∃v' w' vs',(Builtin.append_ #[T,T] ty #[a.eval x,a.eval y]).run P w=.ok v' w'∧w'.ownsRow 0 E0 n v' (m+rows.length) vs'∧SV.dR E.M (cs++rows.flatten) vs'∧w.grownBy w' (a.eval x).ownBlock∧(v'.ownBlock=(a.eval x).ownBlock∨v'.ownBlock=some w.heap.size∨v'.ownBlock=none):=by
  rcases hs.h _ _ h2 with⟨a0,e,e2⟩|⟨b,o,c,e,hc,Gw,hrow⟩
  ·rw[e,e2]
   cases a0 with
   |none=>exact⟨_,_,vs,run_append_owned_none w 0 T ty E0 info n tS.u hi _ m vs hown,by simpa using hown,by simpa using hvs,⟨rfl,rfl,rfl,Nat.le_refl _,fun _ _ _=>rfl⟩,.inl rfl⟩
   |some a0=>
    rw[e2,List.length_nil]at hroom tD
    obtain⟨v',w',q1,q2,q3,_,q4⟩:=run_append_own_at (P:=P) w 0 T ty E0 info zv n by_ tS.u hi hz hsz hby tE.z tE.p _ m vs hown a0 0 0 [] (by simp) (by simp) (by simp) (by unfold maxLen;omega) hroom (Nat.zero_le _)
    exact⟨v',w',vs,q1,by simpa using q2,by simpa using hvs,q3,q4.imp id .inl⟩
  ·obtain⟨us,g1,g2,g3,g4⟩:=Bm rows o hrow
   rw[e]
   obtain⟨v',w',q1,q2,q3,_,q4⟩:=run_append_own_at (P:=P) w 0 T ty E0 info zv n by_ tS.u hi hz hsz hby tE.z tE.p _ m vs hown ⟨b,o,none⟩ rows.length c us g2 (fun j u hj=>by rw[fV];exact(h.cM _ _ _ (g4 j u hj)).cell (g3 u (List.mem_of_getElem? hj))) g3 (by unfold maxLen;omega) hroom (Nat.zero_le _)
   exact⟨v',w',vs++us,q1,q2,SV.dR.append hvs g1,q3,q4.imp id .inl⟩
 obtain⟨v',w',vs',q1,q2,q3,q4,q5⟩:=run
 have hr':(execOp a.eval ⟨some d,.call ⟨.builtin .append,#[x,y],#[T,T]⟩,ty,pos,aft,gd⟩).run P w=.ok (.value v') w':=by
  simp[execOp,resolve,invoke,builtin,q1]
 have JQ:∀(l:List (Nat×lq)) (R:lq) (j:Nat),di (l++[(d,R)]) j=if j=d then some R else di l j:=by
  intro l R j
  induction l with
  |nil=>rfl
  |cons p l ih=>
   obtain⟨i,R'⟩:=p
   rw[List.cons_append,di,di,ih]
   by_cases e:j=d
   ·simp[e]
   ·simp[e]
 have h3:=(h.newRow KT xx old (a.eval x).ownBlock hold (R':=⟨E0,n,m+rows.length,cs++rows.flatten⟩) q2 q3 q5 q4).put (d:=d) (x:=.row d) (v:=v') (by simp[AV.holds]) (by rw[(eM _ _).1];omega) ⟨fun _ e=>e.elim,fun j e=>by
  cases e
  rw[kK,JQ];simp⟩
 have hRd:(AS.set (AS.bA (old++[(d,lq.live ⟨E0,n,m+rows.length,cs++rows.flatten⟩)]) S') d (.row d)).r d=.live ⟨E0,n,m+rows.length,cs++rows.flatten⟩:=by
  show(AS.bA _ S').r d=_
  rw[kK,JQ];simp
 obtain⟨E',h4⟩:=h3.nY hRd jx hlen (Nat.le_trans tD (by decide)) hone hX
 have e:(AS.set (AS.bA (old++[(d,lq.live ⟨E0,n,m+rows.length,cs++rows.flatten⟩)]) S') d (.row d)).nY d X=S'.app ⟨some (d,.sv X),[],old++[(d,.dead)]⟩:=by
  have n1:=eM (old++[(d,lq.live ⟨E0,n,m+rows.length,cs++rows.flatten⟩)]) S'
  have n2:=eM (old++[(d,lq.dead)]) S'
  refine AS.ext' ?_ (fun t=>?_) (fun j=>?_) (fun j=>?_) ?_ ?_
  ·show(AS.bA _ S').n=(AS.bA _ S').n
   rw[n1.1,n2.1]
  ·rw[AS.L6]
   show((AS.set (AS.bA _ S') d (.row d)).t t).nY d X=_
   by_cases e:t=d
   ·subst e;rw[AS.jv];simp[AV.nY,wT]
   ·rw[AS.ia _ _ _ _ e,n1.2.1,MD (fun hm=>h.wf.tr t d hm KT)];simp[wT,e]
  ·rw[AS.L7]
   show((AS.bA _ S').b j).map _=_
   rw[n1.2.2.1]
   simp only[tj,Option.getD_none]
   cases hb:S'.b j with
   |none=>rfl
   |some B=>
    rw[Option.map_some]
    have:B.cells.map (AV.nY d X)=B.cells:=by
     conv=>rhs;rw[←List.map_id B.cells]
     exact List.map_congr_left fun c hc=>MD (fun hm=>h.wf.br j B hb c hc d hm KT)
    rw[this]
  ·rw[AS.L8]
   show(bif Nat.beq j d then lq.dead else(AS.bA _ S').r j)=_
   rw[kK,JQ,JQ]
   by_cases e:j=d
   ·subst e;simp
   ·simp[bH e,e]
  ·rw[(AS.JD _ _).1];exact n1.2.2.2.1
  ·rw[(AS.JD _ _).2];exact n1.2.2.2.2
 exact bR (C:=C) (by intro c h;cases h) hr' (hL _ _ ⟨E',e▸h4⟩)
end steps
end Go.Fw
namespace Go.Fw
open Go.RowKit
def cm{J R:Type}(k:J→Option R)(f:(J→Option R)→Option R):Option R:=f k
theorem bind_some{α β:Type}{x:Option α}{f:α→Option β}{r:β}(h:Option.bind x f=some r):∃a,x=some a∧f a=some r:=by
 cases x with
 |none=>cases h
 |some a=>exact⟨a,rfl,h⟩
theorem sk{b w:Bool}(h:(b==w)=false):b≠w:=by cases b<;>cases w<;>simp_all
def cy{α:Type}(l:List α)(i:Int):Option α:=if 0≤i then l[i.toNat]? else none
def pI{α:Type}(l:List α)(i:Int):Option Nat:=if 0≤i∧i<l.length then some i.toNat else none
def xK{α:Type}(l:List α)(lo hi:Int):Option (List α):=if 0≤lo∧lo≤hi∧hi≤l.length then some (cut l lo.toNat hi.toNat)else none
def xy{α:Type}(by_:Nat)(l k:List α):Option (List α):=if(l.length+k.length)*by_≤140737488355328∧l.length+k.length≤140737488355328 then some (l++k)else none
def AT{α:Type}(by_:Nat)(c:Int)(z:α):Option (List α):=if 0≤c∧by_*c≤281474976710656∧c≤140737488355328 then some (List.replicate c.toNat z)else none
def ME{α:Type}(by_:Nat)(c:Int):Option (List α):=if 0≤c∧by_*c≤281474976710656∧c≤140737488355328 then some []else none
def stM{α:Type}(l:List α)(n:Nat)(y:α):Option (List α):=if n<l.length then some (l.set n y)else none
def xL(a b:Int):Option Int:=if b=0 then none else some (IntKind.i64.wrap (a.tdiv b))
def KX(a b:Int):Option Int:=if b=0 then none else some (a.tmod b)
def E6(M a b:Nat):Option Nat:=if b=0 then none else some (a/b%M)
def Dt(a b:Nat):Option Nat:=if b=0 then none else some (a%b)
def pJ(M a b:Nat):Nat:=(((a:Int)-b)%M).toNat
theorem qC{α:Type}{l:List α}{i:Int}{a:α}(h:cy l i=some a):0≤i∧l[i.toNat]? =some a:=by
 unfold cy at h;split at h
 ·exact⟨by assumption,h⟩
 ·cases h
theorem MF{α:Type}{l:List α}{i:Int}{k:Nat}(h:pI l i=some k):0≤i∧i<l.length∧i.toNat=k:=by
 unfold pI at h;split at h
 ·rename_i hh;exact⟨hh.1,hh.2,Option.some.inj h⟩
 ·cases h
theorem D4{α:Type}{l l':List α}{a b:Int}(h:xK l a b=some l'):0≤a∧a≤b∧b≤l.length∧cut l a.toNat b.toNat=l':=by
 unfold xK at h;split at h
 ·rename_i hh;exact⟨hh.1,hh.2.1,hh.2.2,Option.some.inj h⟩
 ·cases h
theorem tK{α:Type}{by_:Nat}{l k l':List α}(h:xy by_ l k=some l'):(l.length+k.length)*by_≤140737488355328∧l.length+k.length≤140737488355328∧l++k=l':=by
 unfold xy at h;split at h
 ·rename_i hh;exact⟨hh.1,hh.2,Option.some.inj h⟩
 ·cases h
theorem MG{α:Type}{by_:Nat}{c:Int}{z:α}{l':List α}(h:AT by_ c z=some l'):0≤c∧by_*c≤281474976710656∧c≤140737488355328∧List.replicate c.toNat z=l':=by
 unfold AT at h;split at h
 ·rename_i hh;exact⟨hh.1,hh.2.1,hh.2.2,Option.some.inj h⟩
 ·cases h
theorem MH{α:Type}{by_:Nat}{c:Int}{l':List α}(h:ME by_ c=some l'):0≤c∧by_*c≤281474976710656∧c≤140737488355328∧[]=l':=by
 unfold ME at h;split at h
 ·rename_i hh;exact⟨hh.1,hh.2.1,hh.2.2,Option.some.inj h⟩
 ·cases h
theorem GG{α:Type}{l l':List α}{n:Nat}{y:α}(h:stM l n y=some l'):n<l.length∧l.set n y=l':=by
 unfold stM at h;split at h
 ·rename_i hh;exact⟨hh,Option.some.inj h⟩
 ·cases h
def n9{S E:Type}(body:S→Option (S⊕E)):Nat→S→Option E
 |0,_=>none
 |n+1,s=>match body s with
  |some (.inl s')=>n9 body n s'
  |some (.inr e)=>some e
  |none=>none
theorem wM{S E:Type}{body:S→Option (S⊕E)}:∀{n m:Nat} {s:S} {e:E},n≤m→n9 body n s=some e→n9 body m s=some e
 |0,_,_,_,_,h=>by cases h
 |n+1,0,_,_,hm,_=>by omega
 |n+1,m+1,s,e,hm,h=>by
  unfold n9 at h⊢
  cases hb:body s with
  |none=>rw[hb]at h;cases h
  |some y=>
   rw[hb]at h
   cases y with
   |inl s'=>exact wM (by omega) h
   |inr e'=>exact h
open Classical in
noncomputable def bU{S E:Type}(body:S→Option (S⊕E))(s:S):Option E:=if h:∃n e,n9 body n s=some e then some (Classical.choose (Classical.choose_spec h))else none
theorem wN{S E:Type}{body:S→Option (S⊕E)}{s:S}{e:E}(h:bU body s=some e):∃n,n9 body n s=some e:=by
 unfold bU at h
 split at h
 ·rename_i hh
  exact⟨_,by rw[←Option.some.inj h];exact Classical.choose_spec (Classical.choose_spec hh)⟩
 ·cases h
theorem Bz{S E:Type}{body:S→Option (S⊕E)}{s:S}{e:E}{n:Nat}(h:n9 body n s=some e):bU body s=some e:=by
 have hh:∃n e,n9 body n s=some e:=⟨n,e,h⟩
 unfold bU
 rw[dif_pos hh]
 have h2:=Classical.choose_spec (Classical.choose_spec hh)
 have h3:=wM (Nat.le_max_left n (Classical.choose hh)) h
 have h4:=wM (Nat.le_max_right n (Classical.choose hh)) h2
 rw[h3]at h4
 exact h4.symm
theorem wO{S E:Type}{body:S→Option (S⊕E)}{s:S}{e:E}(h:body s=some (.inr e)):bU body s=some e:=Bz (n:=1) (by simp[n9,h])
theorem BA{S E:Type}{body:S→Option (S⊕E)}{s s':S}(h:body s=some (.inl s')):bU body s=bU body s':=by
 cases hl:bU body s' with
 |some e=>obtain⟨n,hn⟩:=wN hl;exact Bz (n:=n+1) (by simp[n9,h,hn])
 |none=>
  cases hl2:bU body s with
  |none=>rfl
  |some e=>
   obtain⟨n,hn⟩:=wN hl2
   cases n with
   |zero=>cases hn
   |succ n=>simp only[n9,h]at hn;rw[Bz hn]at hl;cases hl
theorem yQ{S E:Type}{body:S→Option (S⊕E)}(I:S→Prop)(Post:E→Prop)(μ:S→Nat)
  (step:∀s,I s→(∃s',body s=some (.inl s')∧I s'∧μ s'<μ s)∨(∃e,body s=some (.inr e)∧Post e)) {s:S} (h:I s):∃e,bU body s=some e∧Post e:=by
 have key:∀(n:Nat) (s:S),μ s≤n→I s→∃e,bU body s=some e∧Post e:=by
  intro n
  induction n with
  |zero=>
   intro s hn hs
   rcases step s hs with⟨s',_,_,h3⟩|⟨e,h1,h2⟩
   ·omega
   ·exact⟨e,wO h1,h2⟩
  |succ n ih=>
   intro s hn hs
   rcases step s hs with⟨s',h1,h2,h3⟩|⟨e,h1,h2⟩
   ·obtain⟨e,q1,q2⟩:=ih s' (by omega) h2
    exact⟨e,by rw[BA h1];exact q1,q2⟩
   ·exact⟨e,wO h1,h2⟩
 exact key _ s (Nat.le_refl _) h
theorem MI{S E:Type}{body:S→Option (S⊕E)}(st:Nat→S)(n:Nat){e:E}(hs:∀k,k<n→body (st k)=some (.inl (st (k+1))))(he:body (st n)=some (.inr e)):bU body (st 0)=some e:=by
 have key:∀k,k≤n→bU body (st (n-k))=some e:=by
  intro k
  induction k with
  |zero=>intro _;exact wO he
  |succ k ih=>
   intro hk
   rw[BA (hs (n-(k+1)) (by omega)),show n-(k+1)+1=n-k by omega]
   exact ih (by omega)
 have:=key n (Nat.le_refl _)
 rwa[Nat.sub_self]at this
theorem vh{p q:Int}{c:Bool}(h:decide (p=q)=c):(p==q)=c:=by rw[←h];exact Bool.beq_eq_decide_eq p q
theorem Gk{p q:Int}{c:Bool}(h:decide (p≠q)=c):(p != q)=c:=by rw[←h,bne,Bool.beq_eq_decide_eq p q];simp
theorem XX{p q:Nat}{c:Bool}(h:decide (p=q)=c):((p:Int)==(q:Int))=c:=vh (by rw[←h];simp[Int.natCast_inj])
theorem neN{p q:Nat}{c:Bool}(h:decide (p≠q)=c):((p:Int) != (q:Int))=c:=Gk (by rw[←h];simp[Int.natCast_inj])
theorem YN{p q:Nat}{c:Bool}(h:decide (p<q)=c):decide ((p:Int)<(q:Int))=c:=by rw[←h];simp
theorem leN{p q:Nat}{c:Bool}(h:decide (p≤q)=c):decide ((p:Int)≤(q:Int))=c:=by rw[←h];simp
theorem GH{p q c:Int}(h:max p q=c):(if q>p then q else p)=c:=by rw[←h];split<;>omega
theorem E7{p q c:Int}(h:min p q=c):(if q<p then q else p)=c:=by rw[←h];split<;>omega
class UK (k:IntKind) (b:outParam Nat) (M:outParam Nat):Prop where
 w:∀x:Int,k.wrap x=x%M
 hb:k.bits=b
 hm:2^b=M
instance:UK .u8 8 256:=⟨fun x=>by simp[IntKind.wrap,IntKind.signed,IntKind.bits],rfl,by decide⟩
instance:UK .u16 16 65536:=⟨fun x=>by simp[IntKind.wrap,IntKind.signed,IntKind.bits],rfl,by decide⟩
instance:UK .u32 32 4294967296:=⟨fun x=>by simp[IntKind.wrap,IntKind.signed,IntKind.bits],rfl,by decide⟩
instance:UK .u64 64 18446744073709551616:=⟨fun x=>by simp[IntKind.wrap,IntKind.signed,IntKind.bits],rfl,by decide⟩
section uk
variable {k:IntKind}{bi M a b c:Nat}[u:UK k bi M]
include u
theorem UK.pos:0<M:=by rw[←u.hm];exact Nat.two_pow_pos _
theorem UK.nat(h:a%M=c):k.wrap (a:Int)=(c:Int):=by rw[u.w,←h,Int.natCast_emod]
theorem UK.add(h:(a+b)%M=c):k.wrap ((a:Int)+(b:Int))=(c:Int):=by rw[←Int.natCast_add];exact UK.nat h
theorem UK.mul(h:(a*b)%M=c):k.wrap ((a:Int)*(b:Int))=(c:Int):=by rw[←Int.natCast_mul];exact UK.nat h
theorem UK.sub(h:pJ M a b=c):k.wrap ((a:Int)-(b:Int))=(c:Int):=by
 rw[u.w,←h,pJ,Int.toNat_of_nonneg];exact Int.emod_nonneg _ (by have:=UK.pos (k:=k) (bi:=bi) (M:=M);omega)
theorem UK.neg(h:pJ M 0 a=c):k.wrap (0-(a:Int))=(c:Int):=UK.sub h
theorem UK.conv{p:Int}(h:(p%M).toNat=c):k.wrap p=(c:Int):=by
 rw[u.w,←h,Int.toNat_of_nonneg];exact Int.emod_nonneg _ (by have:=UK.pos (k:=k) (bi:=bi) (M:=M);omega)
theorem UK.quo(h:E6 M a b=some c):k.wrap ((a:Int).tdiv (b:Int))=(c:Int):=by
 unfold E6 at h;split at h
 ·cases h
 ·rw[Int.tdiv_eq_ediv_of_nonneg (by omega),←Int.natCast_ediv];exact UK.nat (Option.some.inj h)
theorem UK.shl{q:Int}{s:Nat}(hs:min q.toNat k.bits=s)(h:a*2^s%M=c):k.wrap ((a:Int)*2^(min q.toNat k.bits))=(c:Int):=by
 rw[hs,show(a:Int)*2^s=((a*2^s:Nat):Int) by rw[Int.natCast_mul,Int.natCast_pow];rfl];exact UK.nat h
theorem UK.ofInt(a:Nat):(BitVec.ofInt k.bits (a:Int)).toNat=a%M:=by
 rw[BitVec.ofInt_natCast,BitVec.toNat_ofNat,u.hb,u.hm]
theorem UK.and(h:(a &&& b)%M=c):k.wrap ((BitVec.ofInt k.bits (a:Int) &&& BitVec.ofInt k.bits (b:Int)).toNat)=(c:Int):=by
 rw[BitVec.toNat_and,UK.ofInt,UK.ofInt,←u.hm,←Nat.and_mod_two_pow,u.hm,h,UK.nat (a:=c) (c:=c)]
 rw[←h,Nat.mod_mod]
theorem UK.or(h:(a ||| b)%M=c):k.wrap ((BitVec.ofInt k.bits (a:Int) ||| BitVec.ofInt k.bits (b:Int)).toNat)=(c:Int):=by
 rw[BitVec.toNat_or,UK.ofInt,UK.ofInt,←u.hm,←Nat.or_mod_two_pow,u.hm,h,UK.nat (a:=c) (c:=c)]
 rw[←h,Nat.mod_mod]
theorem UK.xor(h:(a ^^^ b)%M=c):k.wrap ((BitVec.ofInt k.bits (a:Int) ^^^ BitVec.ofInt k.bits (b:Int)).toNat)=(c:Int):=by
 rw[BitVec.toNat_xor,UK.ofInt,UK.ofInt,←u.hm,←Nat.xor_mod_two_pow,u.hm,h,UK.nat (a:=c) (c:=c)]
 rw[←h,Nat.mod_mod]
end uk
theorem Aj{k:IntKind}{a c s:Nat}{q:Int}(hs:min q.toNat k.bits=s)(h:a/2^s=c):(a:Int).fdiv (2^(min q.toNat k.bits))=(c:Int):=by
 rw[hs,Int.fdiv_eq_ediv_of_nonneg _ (Int.le_of_lt (Int.pow_pos (by decide))),←h,Int.natCast_ediv,Int.natCast_pow];rfl
theorem KY{a b c:Nat}(h:Dt a b=some c):(a:Int).tmod (b:Int)=(c:Int):=by
 unfold Dt at h;split at h
 ·cases h
 ·rw[Int.tmod_eq_emod_of_nonneg (by omega),←Option.some.inj h];rfl
theorem nzU{M a b c:Nat}(h:E6 M a b=some c):(b:Int)≠0:=by
 unfold E6 at h;split at h
 ·cases h
 ·omega
theorem XY{a b c:Nat}(h:Dt a b=some c):(b:Int)≠0:=by
 unfold Dt at h;split at h
 ·cases h
 ·omega
theorem XZ{a b c:Int}(h:xL a b=some c):b≠0:=by unfold xL at h;split at h<;>simp_all
theorem YO{a b c:Int}(h:KX a b=some c):b≠0:=by unfold KX at h;split at h<;>simp_all
theorem KZ{a b c:Int}(h:xL a b=some c):IntKind.i64.wrap (a.tdiv b)=c:=by
 unfold xL at h;split at h
 ·cases h
 ·exact Option.some.inj h
theorem YP{a b c:Int}(h:KX a b=some c):a.tmod b=c:=by
 unfold KX at h;split at h
 ·cases h
 ·exact Option.some.inj h
abbrev ah(x:Nat):List SV:=[.v (.int .u32 (x:Nat))]
abbrev bT(x:Int):List SV:=[.v (.int .i64 x)]
abbrev eB(x:Bool):List SV:=[.v (.bool x)]
abbrev eS{α:Type}(n:Nat)(e:α→List SV)(l:List α):List SV:=[slc n (l.map e)]
structure Zr where
 neg:Bool
 w:List Nat
structure Qr where
 num:Zr
 den:Zr
abbrev eZ(z:Zr):List SV:=[.v (.bool z.neg),slc 1 (z.w.map ah)]
abbrev eQ(q:Qr):List SV:=[.v (.bool q.num.neg),slc 1 (q.num.w.map ah),.v (.bool q.den.neg),slc 1 (q.den.w.map ah)]
class EL {α:Type} (e:α→List SV) (n:outParam Nat):Prop where
 len:∀x,(e x).length=n
 one:∀x,qy (e x)
instance:EL ah 1:=⟨fun _=>rfl,fun _=>inferInstance⟩
instance:EL bT 1:=⟨fun _=>rfl,fun _=>inferInstance⟩
instance:EL eB 1:=⟨fun _=>rfl,fun _=>inferInstance⟩
instance{α:Type}{n:Nat}{e:α→List SV}:EL (eS n e) 1:=⟨fun _=>rfl,fun _=>inferInstance⟩
instance:EL eZ 2:=⟨fun _=>rfl,fun _=>inferInstance⟩
instance:EL eQ 4:=⟨fun _=>rfl,fun _=>inferInstance⟩
structure Sd where
 acD:List Qr
 gen:List Qr
 take:List Qr
structure En where
 acc:Int
 kd:Nat
 hour:Int
 agI:Zr
structure A3 where
 a:Int
 b:Int
 c:Int
structure X4 where
 acc:Int
 kd:Nat
 hour:Int
 e:Int
structure Mv where
 acc:Int
 kd:Nat
 hour:Int
 acE:Qr
structure Bk where
 n:Int
 l:List En
def Gl{α:Type}(l k:List α):List α:=k.take l.length++l.drop k.length
structure Tb where
 made:Bool
 vars:Int
 pK:List (List Qr)
 basis:List Int
 rows:List (List Qr)
abbrev rJ(x:Tb):List SV:=[.v (.bool x.made),.v (.int .i64 x.vars),slc 1 (x.pK.map (eS 4 eQ)),slc 1 (x.basis.map bT),slc 1 (x.rows.map (eS 4 eQ))]
instance:EL rJ 5:=⟨fun _=>rfl,fun _=>inferInstance⟩
structure Pv where
 row:Int
 col:Int
abbrev Qa(x:Pv):List SV:=[.v (.int .i64 x.row),.v (.int .i64 x.col)]
instance:EL Qa 2:=⟨fun _=>rfl,fun _=>inferInstance⟩
structure Lr where
 vars:Int
 pK:List (List Qr)
 rows:List (List Qr)
 bounds:List Qr
abbrev Gm(x:Lr):List SV:=[.v (.int .i64 x.vars),slc 1 (x.pK.map (eS 4 eQ)),slc 1 (x.rows.map (eS 4 eQ)),slc 4 (x.bounds.map eQ)]
instance:EL Gm 4:=⟨fun _=>rfl,fun _=>inferInstance⟩
structure Sz where
 vars:Int
 pK:Int
 rows:Int
 bounds:Int
abbrev eSz(x:Sz):List SV:=[.v (.int .i64 x.vars),.v (.int .i64 x.pK),.v (.int .i64 x.rows),.v (.int .i64 x.bounds)]
instance:EL eSz 4:=⟨fun _=>rfl,fun _=>inferInstance⟩
structure Cn where
 row:List Qr
 most:Qr
abbrev TR(E:TypeId)(sz:Nat){α:Type}(e:α→List SV)(l:List α):Row:=⟨E,sz,l.length,l.flatMap e⟩
theorem imp_nil{α:Type}{n:Nat}{e:α→List SV}:SV.imp (.v (.slice none 0 0)) (slc n (([]:List α).map e)):=fun _ _ h=>.inl ⟨none,h,rfl⟩
theorem tL{α:Type}(e:α→List SV)(l:List α):(l.map e).flatten=l.flatMap e:=by rw[List.flatMap_def]
theorem qD{α:Type}{e:α→List SV}{n:Nat}[h:EL e n](l:List α):Rows n (l.map e) (l.flatMap e):=⟨tL e l,fun r hr=>by obtain⟨x,_,rfl⟩:=List.mem_map.1 hr;exact h.len x⟩
theorem D5{M:Mem}:∀{l k:List SV} {vs:List Value},SV.dR M (l++k) vs→∃us ws,vs=us++ws∧SV.dR M l us∧SV.dR M k ws
 |[],_,vs,h=>⟨[],vs,rfl,trivial,h⟩
 |_::_,_,[],h=>h.elim
 |_::l,_,v::vs,h=>by
  obtain⟨us,ws,rfl,h1,h2⟩:=D5 (l:=l) h.2
  exact⟨v::us,ws,rfl,⟨h.1,h1⟩,h2⟩
theorem mM{α:Type}{e:α→List SV}{n:Nat}[h:EL e n](l:List α):∀M vs,SV.dR M (l.flatMap e) vs→∀v∈vs,v.oneCell'=true:=by
 intro M
 induction l with
 |nil=>intro vs hv;cases vs with|nil=>simp|cons _ _=>exact hv.elim
 |cons x l ih=>
  intro vs hv
  rw[List.flatMap_cons]at hv
  obtain⟨us,ws,rfl,h1,h2⟩:=D5 hv
  intro v hv
  rcases List.mem_append.1 hv with hv|hv
  ·exact(h.one x).h M us h1 v hv
  ·exact ih ws h2 v hv
theorem GI{α:Type}{e:α→List SV}{n:Nat}[h:EL e n]:∀{l:List α} {k:Nat} {a:α},l[k]? =some a→((l.flatMap e).drop (k*n)).take n=e a
 |[],_,_,hh=>by simp at hh
 |x::l,0,a,hh=>by
  simp only[List.getElem?_cons_zero,Option.some.injEq]at hh
  subst hh
  rw[List.flatMap_cons,Nat.zero_mul,List.drop_zero,←h.len x,List.take_left']
  rfl
 |x::l,k+1,a,hh=>by
  rw[List.getElem?_cons_succ]at hh
  rw[List.flatMap_cons,show(k+1)*n=(e x).length+k*n by rw[h.len,Nat.add_mul];omega,←List.drop_drop,List.drop_left']
  ·exact GI hh
  ·rfl
theorem GJ{α:Type}{e:α→List SV}{n:Nat}[h:EL e n]{y:α}:∀{l:List α} {k:Nat},k<l.length→kN (l.flatMap e) (k*n) (e y)=(l.set k y).flatMap e:=by
 have acG:∀(u:List SV) (a b:List SV) (j:Nat),j+u.length≤a.length→kN (a++b) j u=kN a j u++b:=by
  intro u
  induction u with
  |nil=>intro a b j _;rfl
  |cons s u ih=>
   intro a b j hj
   simp only[List.length_cons]at hj
   simp only[kN]
   rw[List.set_append_left _ _ (by omega),ih _ _ _ (by rw[List.length_set];omega)]
 have acH:∀(u:List SV) (a b:List SV) (j:Nat),kN (a++b) (a.length+j) u=a++kN b j u:=by
  intro u
  induction u with
  |nil=>intro a b j;rfl
  |cons s u ih=>
   intro a b j
   simp only[kN]
   rw[List.set_append_right _ _ (by omega),show a.length+j-a.length=j by omega,show a.length+j+1=a.length+(j+1) by omega,ih]
 have acI:∀(u a:List SV),u.length=a.length→kN a 0 u=u:=by
  have gen:∀(u a p:List SV),u.length=a.length→kN (p++a) p.length u=p++u:=by
   intro u
   induction u with
   |nil=>intro a p ha;have:a=[]:=List.eq_nil_of_length_eq_zero ha.symm;subst this;rfl
   |cons s u ih=>
    intro a p ha
    cases a with
    |nil=>cases ha
    |cons t a=>
     simp only[kN]
     rw[List.set_append_right _ _ (Nat.le_refl _),Nat.sub_self,List.set_cons_zero,show p++s::a=(p++[s])++a by simp,show p.length+1=(p++[s]).length by simp,ih a _ (by simpa using ha)]
     simp
  intro u a ha
  exact gen u a [] ha
 intro l
 induction l with
 |nil=>intro k hk;simp at hk
 |cons x l ih=>
  intro k hk
  cases k with
  |zero=>
   rw[List.set_cons_zero,List.flatMap_cons,List.flatMap_cons,Nat.zero_mul,acG _ _ _ _ (by rw[h.len,h.len];omega),acI _ _ (by rw[h.len,h.len])]
  |succ k=>
   simp only[List.length_cons]at hk
   rw[List.set_cons_succ,List.flatMap_cons,List.flatMap_cons,show(k+1)*n=(e x).length+k*n by rw[h.len,Nat.add_mul];omega,acH,ih (by omega)]
end Go.Fw
namespace Go.Fw
open Go.RowKit
section steps
variable {P:Program}{C:Ctx}{ops:Array Oper}{S:AS}{nd:Bool}{K:List Ac→AS→Prop}{rest:List Oper}{acc:List Ac}
variable {gd:Option (Nat×Bool)}{rg:List Nat}{d:Nat}{ty:TypeId}{pos:String}{aft:Array Edge}{x y z:Operand}{T U E0:TypeId}
variable {α:Type}{l l' k:List α}{e:α→List SV}{n by_:Nat}{zv:Value}
theorem RT.acJ(hg:Gd ops S gd rg){s X:SV}(hx:S.ev x=.sv s)(hi:SV.imp s X)(hd:d<S.n)
  (next:RunT P C ops nd K rest (⟨rg++au x,[],[],⟨some (d,.sv X),[],[]⟩⟩::acc) (S.set d (.sv X))):RunT P C ops nd K (⟨some d,.assign x,ty,pos,aft,gd⟩::rest) acc S:=
 RT.value hg (au x) [] [] (.sv X) hd (by intro c h;cases h) (fun S' ht _ _ E a w h=>by
  have hx':S'.ev x=.sv s:=by rw[aH (fun _ h=>h) ht,hx]
  exact⟨a.eval x,rfl,by have:=h.ev x;rw[hx']at this;exact hi _ _ this,eR⟩) next
theorem K0{E:Env}:∀{l l':List SV} {vs:List Value},bQ l l'→SV.dR E.M l vs→cO E (l'.map AV.sv) vs:=fun hi h=>cO.xB (hi.holds h)
theorem E8(M:Mem):∀l:List Value,SV.dR M (l.map SV.v) l
 |[]=>trivial
 |_::l=>⟨rfl,E8 M l⟩
theorem RT.rK(hg:Gd ops S gd rg)[tz:ax P T zv]{cs:List SV}(hi:bQ (zv.cells.toList.map SV.v) cs){av:List AV}(hav:cs.map AV.sv=av)(hd:d<S.n)(hb:S.b d=none)(hp:C.gQ d=none)
  (next:RunT P C ops nd K rest (⟨rg++[],[d],[],⟨some (d,.ptr d 0),[(d,⟨T,av⟩)],[]⟩⟩::acc) ((S.jV d ⟨T,av⟩).set d (.ptr d 0))):RunT P C ops nd K (⟨some d,.alloc T,ty,pos,aft,gd⟩::rest) acc S:=by
 subst hav
 exact RT.JF hg (by intro c h;cases h) [] hd hb hp (fun S' _ E a w h=>⟨zv.cells.toList,by simp[execOp,Instr.alloc,newVar,newRow,tz.run],K0 hi (E8 _ _),fun y hy=>by
  obtain⟨s,_,rfl⟩:=List.mem_map.1 hy
  exact eR⟩) next
theorem RT.Uu(hg:Gd ops S gd rg){pl:List (Nat×Nat)}{zc:List Value}[tP:bK P T pl zc]{parts:Array (Nat×Operand)}{qs:List (Nat×List SV)}(hp:nZ S parts.toList qs){cs cs':List SV}(hf:vY (fun i=>pl[i]?) (zc.map SV.v) qs=some cs)(hi:bQ cs cs')(hd:d<S.n)
  (next:RunT P C ops nd K rest (⟨rg++lF parts.toList,[],[],⟨some (d,.sv (.agg cs')),[],[]⟩⟩::acc) (S.set d (.sv (.agg cs')))):RunT P C ops nd K (⟨some d,.build T parts,ty,pos,aft,gd⟩::rest) acc S:=by
 refine RT.value hg (lF parts.toList) [] [] (.sv (.agg cs')) hd (by intro c h;cases h) (fun S' ht _ _ E a w h=>?_) next
 have hu:=tP.h
 cases hT:P.underlying T with
 |none=>rw[hT]at hu;cases hu
 |some u=>
  rw[hT]at hu
  cases u with
  |struct fs=>
   simp only at hu
   have hz:(zeroValue T).run P w=.ok (.agg ⟨zc⟩) w:=ax.run (t:=⟨tP.hz⟩) w
   obtain⟨us,h1,h2,_⟩:=Bp h (fun i=>pl[i]?) hp ht (cells:=zc.map SV.v) (vs:=zc) (E8 _ zc) (List.all_eq_true.1 tP.o) hf
   refine⟨.agg ⟨us⟩,?_,⟨us,rfl,hi.holds h2⟩,eR⟩
   have hm:(fs.mapM (fun f=>do pure (f.offset,←sizeOf f.type):Field→Sem (Nat×Nat))).run P w=.ok pl.toArray w:=by
    have:=tG (P:=P) (w:=w) hu
    rw[←Array.toArray_toList (xs:=fs),List.mapM_toArray]
    rw[Sem.run_map,this];rfl
   have h1':Instr.fill (fun i=>pl.toArray[i]?) ⟨zc⟩ (parts.toList.map fun p=>(p.1,a.eval p.2))=some ⟨us⟩:=by simpa using h1
   simp only[execOp,Instr.build,underlying]
   simp only[Sem.run_bind,hz,Result.andThen_ok,run_program,hT,Sem.run_pure,Value.cells]
   have hm':(Array.mapM (fun f=>do
     let __do_lift←sizeOf f.type
     pure (f.offset,__do_lift)) fs:Sem _).run P w=.ok pl.toArray w:=hm
   simp only[hm',Result.andThen_ok]
   have e4:(Array.map (fun x=>match x with|(i,x)=>(i,a.eval x)) parts).toList=parts.toList.map fun p=>(p.1,a.eval p.2):=by simp
   simp only[e4,h1',Sem.run_pure,Result.andThen_ok]
  |_=>cases hu
theorem Pure.w{f:FuncId}{args args':List SV}{r:SV}(h:Pure P f args r)(hi:bQ args' args):Pure P f args' r:=fun M w vs hM hv=>h M w vs hM (hi.holds hv)
theorem Pure.r{f:FuncId}{args:List SV}{r r':SV}(h:Pure P f args r)(hi:SV.imp r r'):Pure P f args r':=fun M w vs hM hv=>(h M w vs hM hv).mono fun _ _ ⟨v,M',h1,h2,h3,h4,h5,h6⟩=>⟨v,M',h1,h2,h3,h4,hi _ _ h5,h6⟩
theorem Ah.w{f:FuncId}{args args':List SV}{R:Row}(h:Ah P f args R)(hi:bQ args' args):Ah P f args' R:=fun M w vs hM hv=>h M w vs hM (hi.holds hv)
theorem RT.YQ(hg:Gd ops S gd rg){m:Nat}[tS:eA P T E0 m]{c:Int}(hx:S.ev x=.sv (slc n (l.map e)))(hd:d<S.n)(hc:(l.length:Int)=c)
  (next:RunT P C ops nd K rest (⟨rg++au x,[],[],⟨some (d,.sv (.v (.int .i64 c))),[],[]⟩⟩::acc) (S.set d (.sv (.v (.int .i64 c))))):RunT P C ops nd K (⟨some d,.call ⟨.builtin .len,#[x],#[T]⟩,ty,pos,aft,gd⟩::rest) acc S:=
 RT.len hg hx hd (by rw[List.length_map,hc];exact next)
theorem RT.SA(hg:Gd ops S gd rg){m:Nat}[tS:eA P T E0 m]{i:Nat}{E1:TypeId}{c:Int}(hx:S.ev x=.row i)(hR:S.r i=.live (TR E1 n e l))(hd:d<S.n)(hc:(l.length:Int)=c)
  (next:RunT P C ops nd K rest (⟨rg++au x,[],[i],⟨some (d,.sv (.v (.int .i64 c))),[],[]⟩⟩::acc) (S.set d (.sv (.v (.int .i64 c))))):RunT P C ops nd K (⟨some d,.call ⟨.builtin .len,#[x],#[T]⟩,ty,pos,aft,gd⟩::rest) acc S:=
 RT.ab6 hg hx hR hd (by show RunT _ _ _ _ _ _ (⟨_,_,_,⟨some (d,.sv (.v (.int .i64 (l.length:Int)))),_,_⟩⟩::_) (S.set d (.sv (.v (.int .i64 (l.length:Int)))));rw[hc];exact next)
theorem RT.Uv(hg:Gd ops S gd rg)[tS:eA P T E0 n]{kk:IntKind}{i:Int}{a:α}(hx:S.ev x=.sv (slc n (l.map e)))(hy:S.ev y=.sv (.v (.int kk i)))(hd:d<S.n)(ha:cy l i=some a)
  (next:RunT P C ops nd K rest (⟨rg++(au x++au y),[],[],⟨some (d,.sv (ref (e a))),[],[]⟩⟩::acc) (S.set d (.sv (ref (e a))))):RunT P C ops nd K (⟨some d,.indexAddr T x y,ty,pos,aft,gd⟩::rest) acc S:=
 RT.indexAddr hg (e a) hx hy hd (qC ha).1 (by rw[List.getElem?_map,(qC ha).2];rfl) next
theorem RT.wP(hg:Gd ops S gd rg)[tS:eA P T E0 n]{lo hi:Option Operand}(a b:Int)(hx:S.ev x=.sv (slc n (l.map e)))(hlo:Bq S 0 lo a)(hhi:Bq S l.length hi b)(hd:d<S.n)(h:xK l a b=some l')
  (next:RunT P C ops nd K rest (⟨rg++(au x++(n7 lo++n7 hi)),[],[],⟨some (d,.sv (slc n (l'.map e))),[],[]⟩⟩::acc) (S.set d (.sv (slc n (l'.map e))))):RunT P C ops nd K (⟨some d,.slice T x lo hi none,ty,pos,aft,gd⟩::rest) acc S:=by
 obtain⟨h0,h1,h2,h3⟩:=D4 h
 exact RT.slice hg hx a b hlo (by rw[List.length_map];exact hhi) hd h0 h1 (by rw[List.length_map];exact h2) _ (by rw[JJ,h3]) next
theorem RT.eO(hg:Gd ops S gd rg)[tS:eA P T E0 n][tE:aK P E0 n by_ zv]{len:Nat}{parts:Array (Nat×Operand)}{qs:List (Nat×List SV)}(hp:nZ S parts.toList qs)(hd:d<S.n)
  (hc:qi 0 qs=true) (hl:qs.length=len) (hsz:(qs.all fun q=>Nat.beq q.2.length n)=true) (hlen:Nat.ble (len*n) 16777216=true) (KU:(zv.cells.toList.all fun v=>v.oneCell')=true) (jx:qs.map (·.2)=l.map e)
  (next:RunT P C ops nd K rest (⟨rg++lF parts.toList,[],[],⟨some (d,.sv (slc n (l.map e))),[],[]⟩⟩::acc) (S.set d (.sv (slc n (l.map e))))):RunT P C ops nd K (⟨some d,.buildSlice T len parts,ty,pos,aft,gd⟩::rest) acc S:=
 RT.buildSlice hg hp hd hc hl hsz (Nat.le_of_ble_eq_true hlen) (List.all_eq_true.1 KU) jx next
theorem RT.JR(hg:Gd ops S gd rg)[tS:eA P T E0 n][tE:aK P E0 n by_ zv]{len:Nat}{parts:Array (Nat×Operand)}{qs:List (Nat×List SV)}(hp:nZ S parts.toList qs)(hd:d<S.n)(yL:S.r d=.un)(xx:d<1000)
  (hc:qi 0 qs=true) (hl:qs.length=len) (hsz:(qs.all fun q=>Nat.beq q.2.length n)=true) (hlen:Nat.ble (len*n) 16777216=true) (KU:(zv.cells.toList.all fun v=>v.oneCell')=true) (jx:qs.map (·.2)=l.map e)
  (next:RunT P C ops nd K rest (⟨rg++lF parts.toList,[],[d],⟨some (d,.row d),[],[(d,.live (TR E0 n e l))]⟩⟩::acc) ((AS.bA [(d,.live (TR E0 n e l))] S).set d (.row d))):RunT P C ops nd K (⟨some d,.buildSlice T len parts,ty,pos,aft,gd⟩::rest) acc S:=by
 refine RT.GC hg hp hd yL xx hc hl hsz (Nat.le_of_ble_eq_true hlen) (List.all_eq_true.1 KU) (cells:=l.flatMap e) (by rw[jx,tL]) ?_
 have:len=l.length:=by have h0:=congrArg List.length jx;simpa[hl]using h0
 rw[this];exact next
theorem RT.apR(hg:Gd ops S gd rg)[tS:eA P T E0 n][tE:aK P E0 n by_ zv]{i:Nat}(hx:S.ev x=.row i)(hR:S.r i=.live (TR E0 n e l))(hy:S.ev y=.sv (slc n (k.map e)))(hd:d<S.n)(yL:S.r d=.un)(xx:d<1000)(h:xy by_ l k=some l')
  (next:RunT P C ops nd K rest (⟨rg++(au x++au y),[],[i,d],⟨some (d,.row d),[],[(i,.dead),(d,.live (TR E0 n e l'))]⟩⟩::acc) ((AS.bA [(i,.dead),(d,.live (TR E0 n e l'))] S).set d (.row d))):RunT P C ops nd K (⟨some d,.call ⟨.builtin .append,#[x,y],#[T,T]⟩,ty,pos,aft,gd⟩::rest) acc S:=by
 obtain⟨h1,h2,rfl⟩:=tK h
 exact RT.Qu hg hx hR hy hd yL xx (by simpa using h1) (by simpa using h2) _ (by simp[tL]) next
theorem RT.MJ(hg:Gd ops S gd rg)[tS:eA P T E0 n][tE:aK P E0 n by_ zv][el:EL e n]{i:Nat}(hx:S.ev x=.row i)(hR:S.r i=.live (TR E0 n e l))(hy:S.ev y=.sv (slc n (k.map e)))(hd:d<S.n)(yL:S.r d=.un)(xx:d<1000)(h:xy by_ l k=some l')
  (next:RunT P C ops nd K rest (⟨rg++(au x++au y),[],[d,i],⟨some (d,.sv (slc n (l'.map e))),[],[(i,.dead),(d,.dead)]⟩⟩::acc) ((AS.bA [(i,.dead),(d,.dead)] S).set d (.sv (slc n (l'.map e))))):RunT P C ops nd K (⟨some d,.call ⟨.builtin .append,#[x,y],#[T,T]⟩,ty,pos,aft,gd⟩::rest) acc S:=by
 obtain⟨h1,h2,rfl⟩:=tK h
 have hf:l.flatMap e++(k.map e).flatten=(l++k).flatMap e:=by simp[tL]
 exact RT.JP hg (.row hx hR) hy hd yL xx (by simpa using h1) (by simpa using h2) _ (rows':=(l++k).map e) (fun _ _ h _=>h) (by rw[hf];exact qD _) (by simp) (by rw[hf];exact mM _) next
theorem D6(zc:Array Value)(n:Nat)(hz:zc.size=n)(hn:0<n):∀m:Nat,(madeCells zc (m*n)).toList=(List.replicate m zc.toList).flatten
 |0=>by simp[madeCells]
 |m+1=>by
  have ih:=D6 zc n hz hn m
  rw[List.replicate_succ',List.flatten_append,←ih]
  simp only[madeCells,Array.toList_map,Array.toList_range,List.flatten_cons,List.flatten_nil,List.append_nil]
  rw[show(m+1)*n=m*n+n by rw[Nat.add_mul];omega,List.range_add,List.map_append,List.map_map]
  congr 1
  apply List.ext_getElem?
  intro i
  rw[List.getElem?_map]
  rcases Nat.lt_or_ge i n with hi|hi
  ·rw[List.getElem?_range hi]
   simp only[Option.map_some,Function.comp]
   rw[hz,Nat.mul_comm m n,Nat.mul_add_mod,Nat.mod_eq_of_lt hi]
   rw[getElem!_pos zc i (by omega),Array.getElem?_toList,Array.getElem?_eq_getElem (by omega)]
  ·rw[List.getElem?_eq_none (by simpa using hi),List.getElem?_eq_none (by simp;omega)];rfl
theorem GK:∀{a b c d:List SV},bQ a c→bQ b d→bQ (a++b) (c++d)
 |[],_,[],_,_,h=>h
 |_::_,_,_::_,_,h,h'=>⟨h.1,GK h.2 h'⟩
 |[],_,_::_,_,h,_=>h.elim
 |_::_,_,[],_,h,_=>h.elim
theorem GL{zl:List Value}{zz:α}(hi:bQ (zl.map SV.v) (e zz)):∀m:Nat,bQ ((List.replicate m zl).flatten.map SV.v) ((List.replicate m zz).flatMap e)
 |0=>trivial
 |m+1=>by
  rw[List.replicate_succ,List.replicate_succ,List.flatten_cons,List.map_append,List.flatMap_cons]
  exact GK hi (GL hi m)
theorem RT.jy(hg:Gd ops S gd rg)[tS:eA P T E0 n][tE:aK P E0 n by_ zv]{kl kc:IntKind}{c:Int}{zz:α}(hx:S.ev x=.sv (.v (.int kl c)))(hy:S.ev y=.sv (.v (.int kc c)))(hd:d<S.n)(yL:S.r d=.un)(xx:d<1000)(hz:zv.cells.size=n)(hn:0<n)(hi:bQ (zv.cells.toList.map SV.v) (e zz))(hm:AT by_ c zz=some l')
  (next:RunT P C ops nd K rest (⟨rg++(au x++au y),[],[d],⟨some (d,.row d),[],[(d,.live (TR E0 n e l'))]⟩⟩::acc) ((AS.bA [(d,.live (TR E0 n e l'))] S).set d (.row d))):RunT P C ops nd K (⟨some d,.makeSlice T x y,ty,pos,aft,gd⟩::rest) acc S:=by
 obtain⟨h0,hroom,tD,rfl⟩:=MG hm
 refine .inl ⟨_,[],[d],_,?_,next⟩
 rintro S' hn' ht _ hr i a w L Q ho ⟨E,h⟩ hL
 refine bX (C:=C) ho (hg.wanted h (fun s hs=>ht s (List.mem_append_left _ hs)) rfl) ?_
 have h1:a.eval x=.int kl c:=by have h1:=h.ev x;rw[aH (fun _ h=>List.mem_append_right _ (List.mem_append_left _ h)) ht,hx]at h1;exact h1
 have h2:a.eval y=.int kc c:=by have h2:=h.ev y;rw[aH (fun _ h=>List.mem_append_right _ (List.mem_append_right _ h)) ht,hy]at h2;exact h2
 obtain⟨info,hii,hsz,hby,hzz⟩:=aK.info (P:=P) (E:=E0) (n:=n) (by_:=by_) (z:=zv)
 obtain⟨m,rfl⟩:=Int.eq_ofNat_of_zero_le h0
 have hb':info.bytes*m≤281474976710656:=by
  rw[hby]
  have:((by_*m:Nat):Int)≤281474976710656:=by rw[Int.natCast_mul];exact hroom
  omega
 obtain⟨w',q1,q2,q3⟩:=run_make_full (P:=P) w 0 T E0 info zv n tS.u hii hzz hsz kl kc m hb' (by unfold maxLen;omega) (Nat.zero_le _)
 have hr':(execOp a.eval ⟨some d,.makeSlice T x y,ty,pos,aft,gd⟩).run P w=.ok (.value (.slice (some ⟨w.heap.size,0,none⟩) m m)) w':=by
  simp only[execOp,h1,h2]
  simp[q1]
 have KT:S'.r d=.un:=by rw[hr d (by simp)];exact yL
 have e0:(m:Int).toNat=m:=by simp
 have hall:SV.dR E.M ((List.replicate m zz).flatMap e) (madeCells zv.cells (m*n)).toList:=by
  rw[D6 zv.cells n hz hn]
  exact bQ.holds (l:=((List.replicate m zv.cells.toList).flatten.map SV.v)) (GL hi m) (E8 _ _)
 have hlen:(List.replicate (m:Int).toNat zz).length=m:=by simp
 refine bR (C:=C) (by intro c h;cases h) hr' (hL _ _ ⟨_,(h.newRow KT xx [] none (.inl ⟨rfl,rfl⟩) (R':=TR E0 n e (List.replicate (m:Int).toNat zz)) (by show w'.ownsRow 0 E0 n _ (List.replicate (m:Int).toNat zz).length _;rw[hlen];exact q2) (by rw[e0];exact hall) (.inr (.inl rfl)) q3).put (d:=d) (x:=.row d) (v:=.slice (some ⟨w.heap.size,0,none⟩) m m) (by simp[AV.holds]) (by show d<S'.n;omega) ⟨fun _ e=>e.elim,fun j e=>?_⟩⟩)
 cases e
 show(AS.qg S' d _).r d≠_
 rw[AS.ic];simp
theorem RT.v9(hg:Gd ops S gd rg)[tS:eA P T E0 n][tE:aK P E0 n by_ zv]{kl kc:IntKind}{c:Int}(hx:S.ev x=.sv (.v (.int kl 0)))(hy:S.ev y=.sv (.v (.int kc c)))(hd:d<S.n)(yL:S.r d=.un)(xx:d<1000)(h:ME (α:=α) by_ c=some l')
  (next:RunT P C ops nd K rest (⟨rg++(au x++au y),[],[d],⟨some (d,.row d),[],[(d,.live (TR E0 n e l'))]⟩⟩::acc) ((AS.bA [(d,.live (TR E0 n e l'))] S).set d (.row d))):RunT P C ops nd K (⟨some d,.makeSlice T x y,ty,pos,aft,gd⟩::rest) acc S:=by
 obtain⟨h0,h1,h2,rfl⟩:=MH h
 exact RT.Yr hg hx hy hd yL xx h0 h1 h2 next
theorem RT.acL(hg:Gd ops S gd rg)[tS:eA P T E0 n]{i j:Nat}{E1:TypeId}{kk:IntKind}{v:Int}(hx:S.ev x=.row i)(hR:S.r i=.live (TR E1 n e l))(hy:S.ev y=.sv (.v (.int kk v)))(hd:d<S.n)(h:pI l v=some j)
  (next:RunT P C ops nd K rest (⟨rg++(au x++au y),[],[i],⟨some (d,.je i (j*n)),[],[]⟩⟩::acc) (S.set d (.je i (j*n)))):RunT P C ops nd K (⟨some d,.indexAddr T x y,ty,pos,aft,gd⟩::rest) acc S:=by
 obtain⟨h0,h1,h2⟩:=MF h
 exact RT.ixR hg (.row hx hR) hy hd h0 h1 (j*n) (by rw[h2];omega) next
theorem RT.YR(hg:Gd ops S gd rg)[tV:bP P T][el:EL e 1]{i j:Nat}{E1:TypeId}{a:α}{s:SV}(hx:S.ev x=.je i (j*1))(hR:S.r i=.live (TR E1 1 e l))(ha:l[j]? =some a)(hs:e a=[s])(hd:d<S.n)
  (next:RunT P C ops nd K rest (⟨rg++au x,[],[i],⟨some (d,.sv s),[],[]⟩⟩::acc) (S.set d (.sv s))):RunT P C ops nd K (⟨some d,.load T x,ty,pos,aft,gd⟩::rest) acc S:=by
 refine RT.ldR hg hx hR (s:=s) ?_ hd next
 have:=GI (e:=e) ha
 rw[hs]at this
 have h2:=congrArg (·[0]?) this
 simpa[List.getElem?_take]using h2
theorem QE(a:List SV)(k:Nat)(s:SV):a.set k s=kN a k [s]:=rfl
theorem RT.acM(hg:Gd ops S gd rg)[tV:bP P T][el:EL e 1]{i j:Nat}{E1:TypeId}{s:SV}[o1:One s](a:α)(hs:e a=[s])(hx:S.ev x=.je i (j*1))(hR:S.r i=.live (TR E1 1 e l))(hy:S.ev y=.sv s)(h:stM l j a=some l')
  (next:RunT P C ops nd K rest (⟨rg++(au x++au y),[],[i],⟨none,[],[(i,.live (TR E1 1 e l'))]⟩⟩::acc) (AS.bA [(i,.live (TR E1 1 e l'))] S)):RunT P C ops nd K (⟨none,.store T x y,ty,pos,aft,gd⟩::rest) acc S:=by
 obtain⟨h1,rfl⟩:=GG h
 refine RT.stR hg hx hR hy (by show j*1+1≤l.length*1;omega) ((l.set j a).flatMap e) (by rw[QE,←hs];exact GJ h1) ?_
 have:(TR E1 1 e (l.set j a))=⟨E1,1,l.length,(l.set j a).flatMap e⟩:=by show Row.mk _ _ _ _=_;rw[List.length_set]
 rw[←this];exact next
theorem RT.YS(hg:Gd ops S gd rg)[tA:iO P T n][el:EL e n]{i j:Nat}{E1:TypeId}(a:α)(hx:S.ev x=.je i (j*n))(hR:S.r i=.live (TR E1 n e l))(hy:S.ev y=.sv (.agg (e a)))(h:stM l j a=some l')
  (next:RunT P C ops nd K rest (⟨rg++(au x++au y),[],[i],⟨none,[],[(i,.live (TR E1 n e l'))]⟩⟩::acc) (AS.bA [(i,.live (TR E1 n e l'))] S)):RunT P C ops nd K (⟨none,.store T x y,ty,pos,aft,gd⟩::rest) acc S:=by
 obtain⟨h1,rfl⟩:=GG h
 have o1:=el.one a
 refine RT.ach hg hx hR hy (el.len a) (by show j*n+n≤l.length*n;have:=Nat.mul_le_mul_right n h1;rw[Nat.succ_mul]at this;exact this) ((l.set j a).flatMap e) (GJ h1) ?_
 have:(TR E1 n e (l.set j a))=⟨E1,n,l.length,(l.set j a).flatMap e⟩:=by show Row.mk _ _ _ _=_;rw[List.length_set]
 rw[←this];exact next
end steps
theorem c8{S:AS}{i n:Nat}{E1:TypeId}{α:Type}{e:α→List SV}{l:List α}[el:EL e n](hR:S.r i=.live (TR E1 n e l)):tu S (S.nY i (slc n (l.map e))):=by
 rintro C a w ⟨E,h⟩
 have hlen:l.length≤9223372036854775807:=by
  obtain⟨⟨vs,ho,hv⟩,_⟩:=h.rx i _ hR
  rcases ho.2 with⟨_,q2⟩|⟨g',cap,cur,q1,_,q2,q3,q4,q5,q6⟩
  ·have q2:l.length=0:=q2
   omega
  ·have q3:l.length≤cap:=q3
   have:maxLen=9223372036854775807:=by decide
   omega
 exact h.nY hR (qD l) (by rw[List.length_map]) hlen (mM l) (fun _ _ h _=>h)
section control
variable {P:Program}{C:Ctx}{S:AS}{Q:Exit→AS→Prop}
theorem aF{A:Code}{J R:Type}{kB:J→Option R}{fA:(J→Option R)→Option R}{r:R}(h:cm kB fA=some r)(I:J→AS)
  (hA:fA kB=some r→Ok P C A S (ae (fun S'=>∃j,kB j=some r∧tu S' (I j)) Q)) (hQ:∀j,kB j=some r→Q .normal (I j)):Ok P C A S Q:=fun a w hs=>by
 refine wpIn_mono (hA h a w hs) ?_
 rintro e a' w' ⟨S',q,hh⟩
 cases e with
 |normal=>obtain⟨j,h1,h2⟩:=q;exact⟨_,hQ j h1,h2 C a' w' hh⟩
 |_=>exact⟨S',q,hh⟩
theorem aV{A:Code}{X:Type}(I:X→AS)(p:X→Prop)(hA:Ok P C A S (ae (fun S'=>∃j,p j∧tu S' (I j)) Q))(hQ:∀j,p j→Q .normal (I j)):Ok P C A S Q:=fun a w hs=>by
 refine wpIn_mono (hA a w hs) ?_
 rintro e a' w' ⟨S',q,hh⟩
 cases e with
 |normal=>obtain⟨j,h1,h2⟩:=q;exact⟨_,hQ j h1,h2 C a' w' hh⟩
 |_=>exact⟨S',q,hh⟩
theorem aW{c:Code}{T E:Type}{body:T→Option (T⊕E)}{s0:T}{e:E}(h:bU body s0=some e)(I:T→AS)(h0:tu S (I s0))
  (round:∀(s:T) (y:T⊕E) (G:T→Prop),body s=some y→(∀s',y=.inl s'→G s')→(∀e',y=.inr e'→e'=e)→Ok P C c (I s) (ae (fun S'=>∃s',G s'∧tu S' (I s')) Q)):Ok P C (.loop c) S Q:=by
 obtain⟨n,hn⟩:=wN h
 refine xE (ι:={x:T×Nat//n9 body x.2 x.1=some e}) (fun x=>I x.1.1) (fun x=>x.1.2) ⟨(s0,n),hn⟩ h0 ?_
 rintro⟨⟨s,m⟩,hm⟩
 cases m with
 |zero=>cases hm
 |succ m=>
  cases hb:body s with
  |none=>simp only[n9,hb]at hm;cases hm
  |some y=>
   refine EU (round s y (fun s'=>n9 body m s'=some e) hb ?_ ?_) ?_
   ·rintro s' rfl;simpa only[n9,hb]using hm
   ·rintro e' rfl;simp only[n9,hb]at hm;exact Option.some.inj hm
   ·intro ex S' q
    cases ex with
    |normal=>obtain⟨s',h1,h2⟩:=q;exact⟨⟨(s',m),h1⟩,Nat.lt_succ_self m,h2⟩
    |_=>exact q
end control
end Go.Fw
namespace Go.Fw
open Go.RowKit
abbrev Qb:=List UInt8
def bs(l:Qb):ByteArray:=⟨⟨l⟩⟩
def wc(l:Qb)(i:Int):Option Nat:=(cy l i).map UInt8.toNat
theorem QF(l:Qb):(bs l).size=l.length:=rfl
theorem Uw(l:Qb)(i:Nat):(bs l)[i]? =l[i]? :=by
 rcases Nat.lt_or_ge i l.length with h|h
 ·rw[getElem?_pos (bs l) i h,List.getElem?_eq_getElem h];rfl
 ·rw[getElem?_neg (bs l) i (by rw[QF];omega),List.getElem?_eq_none h]
section steps
variable {P:Program}{C:Ctx}{ops:Array Oper}{S:AS}{nd:Bool}{K:List Ac→AS→Prop}{rest:List Oper}{acc:List Ac}
variable {gd:Option (Nat×Bool)}{rg:List Nat}{d:Nat}{ty:TypeId}{pos:String}{aft:Array Edge}{x y z:Operand}{T U E0:TypeId}
variable {l l' k:Qb}
theorem RT.skV{op:Op}{j g:Nat}{b want:Bool}(h1:(ops[j]?).bind (·.dst)=some g)(h2:S.t g=.sv (.v (.bool b)))(hb:b≠want)(hd:d<S.n)
  (next:RunT P C ops nd K rest (⟨[g],[],[],⟨some (d,.sv (.v undef)),[],[]⟩⟩::acc) (S.set d (.sv (.v undef)))):RunT P C ops nd K (⟨some d,op,ty,pos,aft,some (j,want)⟩::rest) acc S:=by
 refine .inl ⟨[g],[],[],⟨some (d,.sv (.v undef)),[],[]⟩,?_,next⟩
 rintro S' hn ht _ _ i a w L Q ho ⟨E,h⟩ hL
 have hv:=h.tm g
 rw[ht g (by simp),h2]at hv
 have hv:a.tmps.getD g undef=.bool b:=hv
 have Gj:a.tmps[g]? =some (.bool b):=by
  rw[Array.getD_eq_getD_getElem?]at hv
  cases e:a.tmps[g]? with
  |none=>rw[e]at hv;simp[undef]at hv
  |some x=>rw[e]at hv;simp at hv;rw[hv]
 have hw:Region.wanted ⟨some d,op,ty,pos,aft,some (j,want)⟩ (yielded ops a.tmps)=false:=by
  simp[Region.wanted,yielded,h1,Gj,hb]
 simp only[wpOpIn,ho,hw]
 exact⟨fun _ _=>trivial,hL _ _ ⟨E,h.put (x:=.sv (.v undef)) (v:=undef) rfl (by omega) ⟨fun _ h=>h.elim,fun _ h=>h.elim⟩⟩⟩
theorem RT.YT{op:Op}{j g:Nat}{want:Bool}(h1:(ops[j]?).bind (·.dst)=some g)(h2:S.t g=.sv (.v undef))(hd:d<S.n)
  (next:RunT P C ops nd K rest (⟨[g],[],[],⟨some (d,.sv (.v undef)),[],[]⟩⟩::acc) (S.set d (.sv (.v undef)))):RunT P C ops nd K (⟨some d,op,ty,pos,aft,some (j,want)⟩::rest) acc S:=by
 refine .inl ⟨[g],[],[],⟨some (d,.sv (.v undef)),[],[]⟩,?_,next⟩
 rintro S' hn ht _ _ i a w L Q ho ⟨E,h⟩ hL
 have hv:=h.tm g
 rw[ht g (by simp),h2]at hv
 have hv:a.tmps.getD g undef=undef:=hv
 rw[Array.getD_eq_getD_getElem?]at hv
 have hw:Region.wanted ⟨some d,op,ty,pos,aft,some (j,want)⟩ (yielded ops a.tmps)=false:=by
  cases e:a.tmps[g]? with
  |none=>simp[Region.wanted,yielded,h1,e]
  |some x=>
   rw[e]at hv
   simp only[Option.getD_some]at hv
   subst hv
   simp[Region.wanted,yielded,h1,e,undef]
 simp only[wpOpIn,ho,hw]
 exact⟨fun _ _=>trivial,hL _ _ ⟨E,h.put (x:=.sv (.v undef)) (v:=undef) rfl (by omega) ⟨fun _ h=>h.elim,fun _ h=>h.elim⟩⟩⟩
theorem RT.six(hg:Gd ops S gd rg)[tS:Gs P T]{kk:IntKind}{i:Int}{c:Nat}(hx:S.ev x=.sv (.v (.string (bs l))))(hy:S.ev y=.sv (.v (.int kk i)))(hd:d<S.n)(h:wc l i=some c)
  (next:RunT P C ops nd K rest (⟨rg++(au x++au y),[],[],⟨some (d,.sv (.v (.int .u8 (c:Nat)))),[],[]⟩⟩::acc) (S.set d (.sv (.v (.int .u8 (c:Nat)))))):RunT P C ops nd K (⟨some d,.index T x y,ty,pos,aft,gd⟩::rest) acc S:=
 RT.Iz hg (by intro c h;cases h) hx hy hd (fun ρ w h1 h2=>by
  unfold wc at h
  cases hh:cy l i with
  |none=>rw[hh]at h;cases h
  |some b=>
   rw[hh]at h
   obtain⟨q1,q2⟩:=qC hh
   have q3:b.toNat=c:=Option.some.inj h
   have q4:(bs l)[i.toNat]? =some b:=by rw[Uw];exact q2
   simp[execOp,h1,h2,Instr.index,asIntOf,underlying,tS.h,q1,q4,q3]) next
end steps
section rows
variable {P:Program}{C:Ctx}{ops:Array Oper}{S:AS}{nd:Bool}{K:List Ac→AS→Prop}{rest:List Oper}{acc:List Ac}
variable {gd:Option (Nat×Bool)}{rg:List Nat}{d:Nat}{ty:TypeId}{pos:String}{aft:Array Edge}{x y z:Operand}{T U E0:TypeId}
variable {α:Type}{l l' k:List α}{e:α→List SV}{n by_:Nat}{zv:Value}
end rows
end Go.Fw
namespace Go.Fw
open Go.RowKit
def we{α:Type}(l l':List α):Option Unit:=if l'.length=l.length then some ()else none
theorem iC{α:Type}{l l':List α}{u:Unit}(h:we l l'=some u):l'.length=l.length:=by
 unfold we at h;split at h
 ·assumption
 ·cases h
def Ux{α:Type}(l:List α)(lo hi:Int):Option (Nat×Nat):=if 0≤lo∧lo<l.length∧lo≤hi∧hi≤l.length then some (lo.toNat,(hi-lo).toNat)else none
theorem MK{α:Type}{l:List α}{lo hi:Int}{o n:Nat}(h:Ux l lo hi=some (o,n)):0≤lo∧lo<l.length∧lo≤hi∧hi≤l.length∧lo.toNat=o∧(hi-lo).toNat=n:=by
 unfold Ux at h;split at h
 ·rename_i hh
  obtain⟨q1,q2⟩:=Prod.mk.inj (Option.some.inj h)
  exact⟨hh.1,hh.2.1,hh.2.2.1,hh.2.2.2,q1,q2⟩
 ·cases h
def Qc(o n:Nat)(i:Int):Option Nat:=if 0≤i∧i<n then some (o+i.toNat)else none
theorem ML{o n j:Nat}{i:Int}(h:Qc o n i=some j):0≤i∧i<n∧o+i.toNat=j:=by
 unfold Qc at h;split at h
 ·rename_i hh;exact⟨hh.1,hh.2,Option.some.inj h⟩
 ·cases h
def rL:List (List SV)→List (List SV)→Prop
 |[],[]=>True
 |r::l,r'::l'=>bQ r r'∧rL l l'
 |_,_=>False
theorem bQ.get:∀{l l':List SV} {k:Nat} {s':SV},bQ l l'→l'[k]? =some s'→∃s,l[k]? =some s∧SV.imp s s'
 |x::_,y::_,0,_,h,e=>⟨x,rfl,by simp at e;subst e;exact h.1⟩
 |_::l,_::l',k+1,_,h,e=>by simpa using bQ.get (l:=l) (l':=l') h.2 (by simpa using e)
 |[],[],_,_,_,e=>by simp at e
 |[],_::_,_,_,h,_=>h.elim
 |_::_,[],_,_,h,_=>h.elim
theorem bQ.len:∀{l l':List SV},bQ l l'→l'.length=l.length
 |[],[],_=>rfl
 |_::_,_::_,h=>congrArg (· +1) (bQ.len h.2)
 |[],_::_,h=>h.elim
 |_::_,[],h=>h.elim
theorem rL.len:∀{l l':List (List SV)},rL l l'→l'.length=l.length
 |[],[],_=>rfl
 |_::_,_::_,h=>congrArg (· +1) (rL.len h.2)
 |[],_::_,h=>h.elim
 |_::_,[],h=>h.elim
theorem rL.get:∀{l l':List (List SV)} {k:Nat} {s':List SV},rL l l'→l'[k]? =some s'→∃s,l[k]? =some s∧bQ s s'
 |x::_,y::_,0,_,h,e=>⟨x,rfl,by simp at e;subst e;exact h.1⟩
 |_::l,_::l',k+1,_,h,e=>by simpa using rL.get (l:=l) (l':=l') h.2 (by simpa using e)
 |[],[],_,_,_,e=>by simp at e
 |[],_::_,_,_,h,_=>h.elim
 |_::_,[],_,_,h,_=>h.elim
class PV {α:Type} (e:α→List SV):Prop where
 h:∀x,∃v:Value,e x=[.v v]
instance:PV ah:=⟨fun _=>⟨_,rfl⟩⟩
instance:PV bT:=⟨fun _=>⟨_,rfl⟩⟩
theorem JS{α:Type}{e:α→List SV}{l:List α}{n:Nat}{M:Mem}{v:Value}(h:(slc n (l.map e)).h M v):l.length≤9223372036854775807:=by
 rcases h with⟨_,_,h⟩|⟨b,o,c,_,_,h,_⟩
 ·have:l=[]:=by simpa using h
  subst this;simp
 ·rwa[List.length_map]at h
theorem AU{α:Type}{e:α→List SV}{l:List α}{n:Nat}{M:Mem}{v:Value}(h:(ref [slc n (l.map e)]).h M v):l.length≤9223372036854775807:=by
 obtain⟨b,o,_,h⟩:=h
 obtain⟨y,_,_,h⟩:=h 0 _ rfl
 exact JS h
theorem wQ{l:List Nat}{i:Nat}(h:l.length≤i):l.getD i 0=0:=by simp[List.getD,List.getElem?_eq_none h]
theorem tN{l:List Nat}{i:Nat}(h:i<l.length):l[i]? =some (l.getD i 0):=by simp[List.getD,h]
theorem iy{α:Type}{l:List α}{d:α}{i:Nat}(h:l.length≤i):l.getD i d=d:=by simp[List.getD,List.getElem?_eq_none h]
theorem dZ{α:Type}{l:List α}{d:α}{i:Nat}(h:i<l.length):l[i]? =some (l.getD i d):=by simp[List.getD,h]
theorem BB{α β:Type}(a:List α)(b:List β)(i:Nat)(h:i≤max a.length b.length):(i<max a.length b.length∧i<a.length∧i<b.length)∨(i<max a.length b.length∧i<a.length∧b.length≤i)∨(i<max a.length b.length∧a.length≤i∧i<b.length)∨i=max a.length b.length:=by omega
section steps
variable {P:Program}{C:Ctx}{ops:Array Oper}{S:AS}{nd:Bool}{K:List Ac→AS→Prop}{rest:List Oper}{acc:List Ac}
variable {gd:Option (Nat×Bool)}{rg:List Nat}{d:Nat}{ty:TypeId}{pos:String}{aft:Array Edge}{x y z:Operand}{T U E0:TypeId}
variable {α:Type}{l l' k:List α}{e:α→List SV}{n by_:Nat}{zv:Value}
theorem Uy{E1:TypeId}(h:l'.length=l.length):(⟨E1,n,l.length,l'.flatMap e⟩:Row)=TR E1 n e l':=by show _=Row.mk _ _ _ _;rw[h]
theorem RT.Uz(hg:Gd ops S gd rg){f:FuncId}[bB P f]{g:Operand}{xs:Array Operand}{at_:Array TypeId}{args:List AV}{E1:TypeId}{res:AV}(hp:IM P f args (TR E1 n e l) res (l'.flatMap e))(hlen:l'.length=l.length)(i:Nat)(hR:S.r i=.live (TR E1 n e l))(hrow:args.all AV.yN=true)(hres:res.yN=true)
  (hf:S.ev g=.sv (.v (.func (.func f) #[] #[]))) (hargs:wK S xs.toList (args.map (AV.zW i))) (hd:d<S.n)
  (next:RunT P C ops nd K rest (⟨rg++(au g++xs.toList.flatMap au),[],[i],⟨some (d,res.zW i),[],[(i,.live (TR E1 n e l'))]⟩⟩::acc) ((AS.bA [(i,.live (TR E1 n e l'))] S).set d (res.zW i))):RunT P C ops nd K (⟨some d,.call ⟨.value g,xs,at_⟩,ty,pos,aft,gd⟩::rest) acc S:=
 RT.YB hg hp i hR hrow hres hf hargs hd (by rw[Uy hlen];exact next)
theorem RT.QG(hg:Gd ops S gd rg)[tS:eA P T E0 n]{i o m:Nat}{E1:TypeId}{lo hi:Option Operand}(a b:Int)(hx:S.ev x=.row i)(hR:S.r i=.live (TR E1 n e l))(hlo:Bq S 0 lo a)(hhi:Bq S l.length hi b)(hd:d<S.n)(h:Ux l a b=some (o,m))
  (next:RunT P C ops nd K rest (⟨rg++(au x++(n7 lo++n7 hi)),[],[i],⟨some (d,.nP i (o*n) m),[],[]⟩⟩::acc) (S.set d (.nP i (o*n) m))):RunT P C ops nd K (⟨some d,.slice T x lo hi none,ty,pos,aft,gd⟩::rest) acc S:=by
 obtain⟨h0,h1,h2,h3,h4,h5⟩:=MK h
 exact RT.Uf hg (.row hx hR) a b hlo hhi hd h0 h1 h2 h3 (o*n) m (by rw[h4];omega) h5 next
theorem RT.UA(hg:Gd ops S gd rg){m:Nat}[tS:eA P T E0 m]{i o q:Nat}{c:Int}(hx:S.ev x=.nP i o q)(hd:d<S.n)(hc:(q:Int)=c)
  (next:RunT P C ops nd K rest (⟨rg++au x,[],[],⟨some (d,.sv (.v (.int .i64 c))),[],[]⟩⟩::acc) (S.set d (.sv (.v (.int .i64 c))))):RunT P C ops nd K (⟨some d,.call ⟨.builtin .len,#[x],#[T]⟩,ty,pos,aft,gd⟩::rest) acc S:=
 RT.YA hg hx hd (by rw[hc];exact next)
theorem RT.GM(hg:Gd ops S gd rg)[tS:eA P T E0 n]{i o q j:Nat}{kk:IntKind}{v:Int}(hx:S.ev x=.nP i (o*n) q)(hy:S.ev y=.sv (.v (.int kk v)))(hd:d<S.n)(h:Qc o q v=some j)
  (next:RunT P C ops nd K rest (⟨rg++(au x++au y),[],[],⟨some (d,.je i (j*n)),[],[]⟩⟩::acc) (S.set d (.je i (j*n)))):RunT P C ops nd K (⟨some d,.indexAddr T x y,ty,pos,aft,gd⟩::rest) acc S:=by
 obtain⟨h0,h1,h2⟩:=ML h
 exact RT.ixR hg (.nP hx) hy hd h0 h1 (j*n) (by rw[←h2,Nat.add_mul]) next
end steps
def lH{S:Type}(body:Nat→S→Option S):Nat→S→Option S
 |0,s=>some s
 |n+1,s=>(lH body n s).bind (body n)
theorem gA{S:Type}{body:Nat→S→Option S}:∀{n:Nat} {s e:S},lH body n s=some e→∃st:Nat→S,st 0=s∧(∀k,k<n→body k (st k)=some (st (k+1)))∧st n=e
 |0,s,e,h=>⟨fun _=>s,rfl,fun _ h=>by omega,Option.some.inj h⟩
 |n+1,s,e,h=>by
  obtain⟨e1,h1,h2⟩:=bind_some (x:=lH body n s) h
  obtain⟨st,q1,q2,q3⟩:=gA h1
  refine⟨fun k=>if k=n+1 then e else st k,by simpa using q1,fun k hk=>?_,by simp⟩
  rcases Nat.lt_or_ge k n with hkn|hkn
  ·simpa[show k≠n+1 by omega,show k≠n by omega]using q2 k hkn
  ·obtain rfl:k=n:=by omega
   simpa[q3]using h2
theorem yR{S:Type}{body:Nat→S→Option S}(st:Nat→S):∀(n:Nat),(∀k,k<n→body k (st k)=some (st (k+1)))→lH body n (st 0)=some (st n)
 |0,_=>rfl
 |n+1,h=>by
  rw[lH,yR st n (fun k hk=>h k (by omega))]
  exact h n (by omega)
def oJ{S E:Type}(body:Nat→S→Option (S⊕E)):Nat→S→Option (S⊕E)
 |0,s=>some (.inl s)
 |n+1,s=>(oJ body n s).bind fun r=>match r with|.inl s'=>body n s'|.inr e=>some (.inr e)
theorem D7{S E:Type}{body:Nat→S→Option (S⊕E)}:∀{n:Nat} {s:S} {r:S⊕E},oJ body n s=some r→∃(m:Nat) (st:Nat→S),st 0=s∧m≤n∧(∀k,k<m→body k (st k)=some (.inl (st (k+1))))∧((m=n∧r=.inl (st n))∨(m<n∧∃e,r=.inr e∧body m (st m)=some (.inr e)))
 |0,s,r,h=>⟨0,fun _=>s,rfl,Nat.le_refl _,fun _ h=>by omega,.inl ⟨rfl,(Option.some.inj h).symm⟩⟩
 |n+1,s,r,h=>by
  obtain⟨r1,h1,h2⟩:=bind_some (x:=oJ body n s) h
  obtain⟨m,st,q1,q2,q3,q4⟩:=D7 h1
  rcases q4 with⟨rfl,rfl⟩|⟨q4,e,rfl,q5⟩
  ·simp only at h2
   cases r with
   |inr e=>exact⟨m,st,q1,by omega,q3,.inr ⟨by omega,e,rfl,h2⟩⟩
   |inl s'=>
    refine⟨m+1,fun k=>if k=m+1 then s' else st k,by simpa using q1,Nat.le_refl _,fun k hk=>?_,.inl ⟨rfl,by simp⟩⟩
    rcases Nat.lt_or_ge k m with hkn|hkn
    ·simpa[show k≠m+1 by omega,show k≠m by omega]using q3 k hkn
    ·obtain rfl:k=m:=by omega
     simpa using h2
  ·simp only at h2
   cases h2
   exact⟨m,st,q1,by omega,q3,.inr ⟨by omega,e,rfl,q5⟩⟩
theorem E9{S E:Type}{body:Nat→S→Option (S⊕E)}{n m:Nat}{st:Nat→S}{r:S⊕E}(h:∀k,k<m→body k (st k)=some (.inl (st (k+1))))(hr:(m=n∧r=.inl (st n))∨(m<n∧∃e,r=.inr e∧body m (st m)=some (.inr e))){k:Nat}(hk:k<n)(hkm:k≤m):
  ∃y,body k (st k)=some y∧(∀s',y=.inl s'→k+1≤m∧s'=st (k+1))∧∀e',y=.inr e'→r=.inr e':=by
 rcases Nat.lt_or_ge k m with q|q
 ·exact⟨_,h k q,(fun s' e=>⟨q,by cases e;rfl⟩),(fun e' e=>by cases e)⟩
 ·obtain rfl:k=m:=by omega
  rcases hr with⟨rfl,_⟩|⟨_,e,rfl,he⟩
  ·omega
  ·exact⟨_,he,(fun s' e=>by cases e),(fun e' q=>by cases q;rfl)⟩
theorem GN{S E:Type}{body:Nat→S→Option (S⊕E)}{n m:Nat}{st:Nat→S}{r:S⊕E}(hr:(m=n∧r=.inl (st n))∨(m<n∧∃e,r=.inr e∧body m (st m)=some (.inr e)))(h:n≤m):r=.inl (st n):=by
 rcases hr with⟨_,q⟩|⟨q,_⟩
 ·exact q
 ·omega
theorem D8{S E:Type}{body:Nat→S→Option (S⊕E)}{n:Nat}{s:S}{r:S⊕E}(h:oJ body n s=some r):∃(m:Nat) (st:Nat→S),st 0=s∧(∀k,k<n→k≤m→∃y,body k (st k)=some y∧(∀s',y=.inl s'→k+1≤m∧s'=st (k+1))∧∀e',y=.inr e'→r=.inr e')∧(n≤m→r=.inl (st n)):=by
 obtain⟨m,st,q1,q2,q3,q4⟩:=D7 h
 exact⟨m,st,q1,fun k hk hm=>E9 q3 q4 hk hm,fun hn=>GN q4 hn⟩
end Go.Fw
namespace Go.Fw
open Go.RowKit
def MM(es:List (Value×Value)):SV where
 h M v:=∃b,v=.map (some b)∧M b 0=some (.tuple ⟨es.map fun p=>.tuple #[p.1,p.2]⟩)
 mono hM h:=by obtain⟨b,e,h⟩:=h;exact⟨b,e,hM _ _ _ h⟩
class JU (P:Program) (T:TypeId) (k:outParam TypeId) (e:outParam TypeId):Prop where
 u:P.underlying T=some (.map k e)
def D9(k:IntKind)(n:Int):List (Value×Value)→Option Value
 |[]=>none
 |(.int k' m,v)::l=>if k=k' then(if n=m then some v else D9 k n l)else none
 |_::_=>none
theorem wh{k:IntKind}{n:Int}{v:Value}:∀(es:List MapEntry) (i:Nat),D9 k n (es.map fun e=>(e.key,e.val))=some v→∃j,Instr.findNow (.int k) (.int k n) es i=some (some (j,v))
 |[],_,h=>by simp[D9]at h
 |⟨key,val,born⟩::es,i,h=>by
  cases key with
  |int k' m=>
   simp only[List.map_cons,D9]at h
   by_cases hk:k=k'
   ·subst hk
    rw[if_pos rfl]at h
    by_cases hn:n=m
    ·subst hn
     rw[if_pos rfl]at h
     cases h
     exact⟨i,by simp[Instr.findNow,Instr.sameNow]⟩
    ·rw[if_neg hn]at h
     obtain⟨j,hj⟩:=wh es (i+1) h
     have hb:(n==m)=false:=by simp[hn]
     exact⟨j,by simp[Instr.findNow,Instr.sameNow,hb,hj]⟩
   ·rw[if_neg hk]at h;cases h
  |_=>simp[D9]at h
theorem JV:∀(l:List (Value×Value)) (m:List MapEntry),l.map (fun p=>Value.tuple #[p.1,p.2])=m.map (fun e=>Value.tuple #[e.key,e.val])→m.map (fun e=>(e.key,e.val))=l
 |[],[],_=>rfl
 |[],_::_,h=>by simp at h
 |_::_,[],h=>by simp at h
 |(p,q)::l,e::m,h=>by
  simp only[List.map_cons,List.cons.injEq,Value.tuple.injEq]at h⊢
  refine⟨?_,JV l m h.2⟩
  have:=h.1
  simp at this
  rw[this.1,this.2]
theorem MN{es:Array MapEntry}{l:List (Value×Value)}(h:(⟨l.map fun p=>.tuple #[p.1,p.2]⟩:Array Value)=Qm es):es.toList.map (fun e=>(e.key,e.val))=l:=
 JV l es.toList (congrArg Array.toList h)
theorem getM{P:Program}{w:World}{r:Nat}{es:Array MapEntry}{ck:Nat}(hb:w.heap[r]? =some (.map es ck)):(getObj r).run P w=.ok (.map es ck) w:=by simp[getObj,Sem.run,hb]
theorem acN{P:Program}{w:World}{r:Nat}{es:Array MapEntry}{ck:Nat}(o:Obj)(hb:w.heap[r]? =some (.map es ck)):(setObj r o).run P w=.ok () {w with heap:=w.heap.setIfInBounds r o}:=by simp[setObj,Sem.run,hb]
theorem ckM{P:Program}{w:World}{kt:TypeId}{k:IntKind}[tI:iw P kt k]{n:Int}(bb:Bool):(Instr.checkKey bb 10000 kt (.int k n)).run P w=.ok () w:=by
 rw[show(10000:Nat)=9999+1 from rfl,Instr.checkKey]
 simp[underlying,tI.h]
theorem MO{M:Mem}:∀l:List Value,SV.dR M (l.map SV.v) l
 |[]=>trivial
 |_::l=>⟨rfl,MO l⟩
section steps
variable {P:Program}{C:Ctx}{ops:Array Oper}{S:AS}{nd:Bool}{K:List Ac→AS→Prop}{rest:List Oper}{acc:List Ac}
variable {gd:Option (Nat×Bool)}{rg:List Nat}{d:Nat}{ty:TypeId}{pos:String}{aft:Array Edge}{x y z:Operand}{T U E0:TypeId}
theorem RT.look(hg:Gd ops S gd rg){kt et:TypeId}[tM:JU P T kt et]{k:IntKind}[tI:iw P kt k]{es:List (Value×Value)}{n:Int}(cs:List Value)(hx:S.ev x=.sv (MM es))(hy:S.ev y=.sv (.v (.int k n)))(hl:D9 k n es=some (.agg ⟨cs⟩))(hd:d<S.n)
  (next:RunT P C ops nd K rest (⟨rg++(au x++au y),[],[],⟨some (d,.sv (.agg (cs.map SV.v))),[],[]⟩⟩::acc) (S.set d (.sv (.agg (cs.map SV.v))))):RunT P C ops nd K (⟨some d,.lookup T x y false,ty,pos,aft,gd⟩::rest) acc S:=
 RT.value hg (au x++au y) [] [] (.sv (.agg (cs.map SV.v))) hd (by intro c h;cases h) (fun S' ht _ _ E a w h=>by
  have h1:=h.ev x
  rw[aH (fun _ h=>List.mem_append_left _ h) ht,hx]at h1
  have h2:a.eval y=.int k n:=by have h2:=h.ev y;rw[aH (fun _ h=>List.mem_append_right _ h) ht,hy]at h2;exact h2
  obtain⟨b,e,hb⟩:=h1
  obtain⟨ms,ck,hm,he⟩:=h.cM _ _ _ hb
  have he:=MN he
  rw[←he]at hl
  obtain⟨j,hj⟩:=wh ms.toList 0 hl
  refine⟨.agg ⟨cs⟩,?_,⟨cs,rfl,?_⟩,eR⟩
  ·have hfk:(Instr.findKey kt (.int k n) ms.toList).run P w=.ok (some (j,.agg ⟨cs⟩)) w:=by
    simp[Instr.findKey,underlying,tI.h,hj]
   simp[execOp,e,h2,Instr.lookup,underlying,tM.u,getM hm,ckM,hfk]
  ·exact MO cs) next
def tO(w:World)(ms:Array MapEntry)(ck:Nat):World:=w.alloc (.map ms ck)
theorem yS(w:World)(ms:Array MapEntry)(ck:Nat):(tO w ms ck).heap[w.heap.size]? =some (.map ms ck):=by show(w.heap.push _)[w.heap.size]? =_;simp
theorem run_make{d:Option Nat}{ρ:Operand→Value}{w:World}:(execOp ρ ⟨d,.makeMap T none,ty,pos,aft,none⟩).run P w=.ok (.value (.map (some w.heap.size))) (tO w #[] 0):=by
 simp[execOp,Instr.makeMap,tO]
theorem AW{d:Option Nat}{kt et:TypeId}[tM:JU P T kt et]{k:IntKind}[tI:iw P kt k]{ρ:Operand→Value}{w:World}{ms:Array MapEntry}{ck:Nat}{n:Int}{v:Value}(hx:ρ x=.map (some w.heap.size))(hy:ρ y=.int k n)(hz:ρ z=v)
  (hf:Instr.findNow (.int k) (.int k n) ms.toList 0=some none):(execOp ρ ⟨d,.insert T x y z,ty,pos,aft,none⟩).run P (tO w ms ck)=.ok .skip (tO w (ms.push ⟨.int k n,v,ck⟩) (ck+1)):=by
 have hfk:(Instr.findKey kt (.int k n) ms.toList).run P (tO w ms ck)=.ok none (tO w ms ck):=by
  simp[Instr.findKey,underlying,tI.h,hf]
 have acP:∀o:Obj,{tO w ms ck with heap:=(tO w ms ck).heap.setIfInBounds w.heap.size o}=w.alloc o:=by
  intro o
  simp only[tO,World.alloc]
  congr 1
  apply Array.ext'
  simp
 simp[execOp,hx,hy,hz,Instr.mapUpdate,underlying,tM.u,getM (yS w ms ck),ckM,hfk,acN _ (yS w ms ck)]
 exact acP _
theorem AX{d:Option Nat}{z0:Value}[tP:bK P U [(0,1)] [z0]]{ρ:Operand→Value}{w:World}{v:Value}(hx:ρ x=v)(hv:v.oneCell'=true):(execOp ρ ⟨d,.build U #[(0,x)],ty,pos,aft,none⟩).run P w=.ok (.value (.agg #[v])) w:=by
 have hu:=tP.h
 cases hT:P.underlying U with
 |none=>rw[hT]at hu;cases hu
 |some u=>
  rw[hT]at hu
  cases u with
  |struct fs=>
   simp only at hu
   have hz:(zeroValue U).run P w=.ok (.agg ⟨[z0]⟩) w:=ax.run (t:=⟨tP.hz⟩) w
   have hm:(fs.mapM (fun f=>do pure (f.offset,←sizeOf f.type):Field→Sem (Nat×Nat))).run P w=.ok #[(0,1)] w:=by
    have:=tG (P:=P) (w:=w) hu
    rw[←Array.toArray_toList (xs:=fs),List.mapM_toArray]
    rw[Sem.run_map,this];rfl
   simp only[execOp,Instr.build,underlying]
   simp only[Sem.run_bind,hz,Result.andThen_ok,run_program,hT,Sem.run_pure,Value.cells]
   have hm':(Array.mapM (fun f=>do
     let __do_lift←sizeOf f.type
     pure (f.offset,__do_lift)) fs:Sem _).run P w=.ok #[(0,1)] w:=hm
   simp only[hm',Result.andThen_ok]
   have h1':Instr.fill (fun i=>(#[(0,1)]:Array (Nat×Nat))[i]?) ⟨[z0]⟩ [(0,v)]=some ⟨[v]⟩:=by
    simp[Instr.fill,iW hv]
    try rfl
   have e4:(Array.map (fun x=>match x with|(i,x)=>(i,ρ x)) #[(0,x)]).toList=[(0,v)]:=by simp[hx]
   simp only[e4,h1',Sem.run_pure,Result.andThen_ok]
  |_=>cases hu
theorem QH{Q:Exit→AS→Prop}{id:Nat}{T U kt et t0:TypeId}[tM:JU P T kt et]{k:IntKind}[tI:iw P kt k]{z0:Value}[tP:bK P U [(0,1)] [z0]]{f1 f2 f3 f4:FuncId}{n1 n2 n3 n4:Int}
  {p0 p1 p2 p3 p4 p5 p6 p7 p8 p9 p10:String} {a0 a1 a2 a3 a4 a5 a6 a7 a8 a9 a10:Array Edge} {u1 u2 u3 u4 u5 u6 u7 u8 u9:TypeId} (hn:7≤S.n)
  (h2:Instr.findNow (.int k) (.int k n2) [⟨.int k n1,.agg #[.func (.func f1) #[] #[]],0⟩] 0=some none)
  (h3:Instr.findNow (.int k) (.int k n3) [⟨.int k n1,.agg #[.func (.func f1) #[] #[]],0⟩,⟨.int k n2,.agg #[.func (.func f2) #[] #[]],1⟩] 0=some none)
  (h4:Instr.findNow (.int k) (.int k n4) [⟨.int k n1,.agg #[.func (.func f1) #[] #[]],0⟩,⟨.int k n2,.agg #[.func (.func f2) #[] #[]],1⟩,⟨.int k n3,.agg #[.func (.func f3) #[] #[]],2⟩] 0=some none)
  (hQ:∀S',S'.t 0=.sv (MM [(.int k n1,.agg #[.func (.func f1) #[] #[]]),(.int k n2,.agg #[.func (.func f2) #[] #[]]),(.int k n3,.agg #[.func (.func f3) #[] #[]]),(.int k n4,.agg #[.func (.func f4) #[] #[]])])→Q .normal S'):
  Ok P C (.region id #[⟨some 1,.makeMap T none,t0,p0,a0,none⟩,⟨some 2,.build U #[(0,.func f1)],u1,p1,a1,none⟩,⟨none,.insert T (.tmp 1) (.const (.int k n1)) (.tmp 2),u2,p2,a2,none⟩,
   ⟨some 3,.build U #[(0,.func f2)],u3,p3,a3,none⟩,⟨none,.insert T (.tmp 1) (.const (.int k n2)) (.tmp 3),u4,p4,a4,none⟩,⟨some 4,.build U #[(0,.func f3)],u5,p5,a5,none⟩,⟨none,.insert T (.tmp 1) (.const (.int k n3)) (.tmp 4),u6,p6,a6,none⟩,
   ⟨some 5,.build U #[(0,.func f4)],u7,p7,a7,none⟩,⟨none,.insert T (.tmp 1) (.const (.int k n4)) (.tmp 5),u8,p8,a8,none⟩,⟨some 6,.move (.tmp 1),u9,p9,a9,none⟩,⟨some 0,.assign (.tmp 6),u9,p10,a10,none⟩] false) S Q:=by
 rintro a w ⟨E,h⟩
 refine wpIn_region ?_
 show wpOpsIn _ _ _ _ _ [0,1,2,3,4,5,6,7,8,9,10] a w
 have hS:∀(S:AS) (d:Nat) (x:AV),(S.set d x).n=S.n:=fun _ _ _=>rfl
 rw[wpOpsIn_cons]
 refine bX (C:=C) rfl rfl (bR (C:=C) (by intro c h;cases h) run_make ?_)
 have g1:=h.put (d:=1) (x:=.sv (.v (.map (some w.heap.size)))) (v:=.map (some w.heap.size)) rfl (by omega) eR
 show wpOpsIn _ _ _ _ _ _ (a.put (some 1) _) _
 generalize a.put (some 1) (.map (some w.heap.size))=b1 at g1⊢
 rw[wpOpsIn_cons]
 refine bX (C:=C) rfl rfl (bR (C:=C) (by intro c h;cases h) (AX rfl rfl) ?_)
 have g2:=g1.put (d:=2) (x:=.sv (.v (.agg #[.func (.func f1) #[] #[]]))) (v:=.agg #[.func (.func f1) #[] #[]]) rfl (by rw[hS];omega) eR
 show wpOpsIn _ _ _ _ _ _ (b1.put (some 2) (.agg #[.func (.func f1) #[] #[]])) _
 generalize b1.put (some 2) (.agg #[.func (.func f1) #[] #[]])=b2 at g2⊢
 rw[wpOpsIn_cons]
 refine bX (C:=C) rfl rfl (bR (C:=C) (by intro c h;cases h) (AW (k:=k) (n:=n1) (v:=.agg #[.func (.func f1) #[] #[]]) (g2.ev (.tmp 1)) rfl (g2.ev (.tmp 2)) rfl) ?_)
 show wpOpsIn _ _ _ _ _ _ (b2.put none undef) _
 rw[show b2.put none undef=b2 from rfl,wpOpsIn_cons]
 refine bX (C:=C) rfl rfl (bR (C:=C) (by intro c h;cases h) (AX rfl rfl) ?_)
 have g3:=g2.put (d:=3) (x:=.sv (.v (.agg #[.func (.func f2) #[] #[]]))) (v:=.agg #[.func (.func f2) #[] #[]]) rfl (by rw[hS,hS];omega) eR
 show wpOpsIn _ _ _ _ _ _ (b2.put (some 3) (.agg #[.func (.func f2) #[] #[]])) _
 generalize b2.put (some 3) (.agg #[.func (.func f2) #[] #[]])=b3 at g3⊢
 rw[wpOpsIn_cons]
 refine bX (C:=C) rfl rfl (bR (C:=C) (by intro c h;cases h) (AW (k:=k) (n:=n2) (v:=.agg #[.func (.func f2) #[] #[]]) (g3.ev (.tmp 1)) rfl (g3.ev (.tmp 3)) (by simpa using h2)) ?_)
 show wpOpsIn _ _ _ _ _ _ (b3.put none undef) _
 rw[show b3.put none undef=b3 from rfl,wpOpsIn_cons]
 refine bX (C:=C) rfl rfl (bR (C:=C) (by intro c h;cases h) (AX rfl rfl) ?_)
 have g4:=g3.put (d:=4) (x:=.sv (.v (.agg #[.func (.func f3) #[] #[]]))) (v:=.agg #[.func (.func f3) #[] #[]]) rfl (by rw[hS,hS,hS];omega) eR
 show wpOpsIn _ _ _ _ _ _ (b3.put (some 4) (.agg #[.func (.func f3) #[] #[]])) _
 generalize b3.put (some 4) (.agg #[.func (.func f3) #[] #[]])=b4 at g4⊢
 rw[wpOpsIn_cons]
 refine bX (C:=C) rfl rfl (bR (C:=C) (by intro c h;cases h) (AW (k:=k) (n:=n3) (v:=.agg #[.func (.func f3) #[] #[]]) (g4.ev (.tmp 1)) rfl (g4.ev (.tmp 4)) (by simpa using h3)) ?_)
 show wpOpsIn _ _ _ _ _ _ (b4.put none undef) _
 rw[show b4.put none undef=b4 from rfl,wpOpsIn_cons]
 refine bX (C:=C) rfl rfl (bR (C:=C) (by intro c h;cases h) (AX rfl rfl) ?_)
 have g5:=g4.put (d:=5) (x:=.sv (.v (.agg #[.func (.func f4) #[] #[]]))) (v:=.agg #[.func (.func f4) #[] #[]]) rfl (by rw[hS,hS,hS,hS];omega) eR
 show wpOpsIn _ _ _ _ _ _ (b4.put (some 5) (.agg #[.func (.func f4) #[] #[]])) _
 generalize b4.put (some 5) (.agg #[.func (.func f4) #[] #[]])=b5 at g5⊢
 rw[wpOpsIn_cons]
 refine bX (C:=C) rfl rfl (bR (C:=C) (by intro c h;cases h) (AW (k:=k) (n:=n4) (v:=.agg #[.func (.func f4) #[] #[]]) (g5.ev (.tmp 1)) rfl (g5.ev (.tmp 5)) (by simpa using h4)) ?_)
 show wpOpsIn _ _ _ _ _ _ (b5.put none undef) _
 have e1:b5.eval (.tmp 1)=.map (some w.heap.size):=g5.ev (.tmp 1)
 obtain⟨ms,hms⟩:∃ms:Array MapEntry,(((((#[]:Array MapEntry).push ⟨.int k n1,.agg #[.func (.func f1) #[] #[]],0⟩).push ⟨.int k n2,.agg #[.func (.func f2) #[] #[]],0+1⟩).push ⟨.int k n3,.agg #[.func (.func f3) #[] #[]],0+1+1⟩).push ⟨.int k n4,.agg #[.func (.func f4) #[] #[]],0+1+1+1⟩)=ms:=⟨_,rfl⟩
 rw[hms]
 have hno:∀o,E.M w.heap.size o=none:=fun o=>by
  cases e:E.M w.heap.size o with
  |none=>rfl
  |some v=>have:=nQ h.cM e;omega
 have g6:=g5.grow (M':=fun b o=>if b=w.heap.size∧o=0 then some (.tuple (Qm ms))else E.M b o) (w':=tO w ms (0+1+1+1+1)) (fun b o v e=>by
   have:b≠w.heap.size:=by rintro rfl;rw[hno o]at e;cases e
   simp[this,e]) (fun b o v e=>by
   by_cases hb:b=w.heap.size∧o=0
   ·exact .inr (by omega)
   ·simp only[if_neg hb]at e;exact .inl e) (fun b o v e=>by
   by_cases hb:b=w.heap.size∧o=0
   ·simp only[if_pos hb]at e
    obtain⟨rfl,rfl⟩:=hb
    cases e
    exact⟨ms,_,yS w ms _,rfl⟩
   ·simp only[if_neg hb]at e
    have hlt:=nQ h.cM e
    refine(h.cM b o v e).same ?_
    show(w.heap.push _)[b]? =_
    rw[Array.getElem?_push,if_neg (by omega)]) ((Below.refl _ _).alloc (Nat.le_refl _) _)
 have hm:∀X:Env,X.M w.heap.size 0=some (.tuple (Qm ms))→(MM [(.int k n1,.agg #[.func (.func f1) #[] #[]]),(.int k n2,.agg #[.func (.func f2) #[] #[]]),(.int k n3,.agg #[.func (.func f3) #[] #[]]),(.int k n4,.agg #[.func (.func f4) #[] #[]])]).h X.M (.map (some w.heap.size)):=fun X hX=>by
  refine⟨_,rfl,?_⟩
  rw[hX,←hms];rfl
 have g7:=g6.put (d:=6) (x:=.sv (.v (.map (some w.heap.size)))) (v:=.map (some w.heap.size)) rfl (by rw[hS,hS,hS,hS,hS];omega) eR
 rw[show b5.put none undef=b5 from rfl,wpOpsIn_cons]
 refine bX (C:=C) rfl rfl (bR (C:=C) (by intro c h;cases h) (r:=.ok (.value (.map (some w.heap.size))) _) (by show Result.ok (Next.value (b5.eval (.tmp 1))) _=_;rw[e1]) ?_)
 show wpOpsIn _ _ _ _ _ _ (b5.put (some 6) (.map (some w.heap.size))) _
 generalize b5.put (some 6) (.map (some w.heap.size))=b6 at g7⊢
 have e6:b6.eval (.tmp 6)=.map (some w.heap.size):=g7.ev (.tmp 6)
 have g8:=g7.put (d:=0) (x:=.sv (MM [(.int k n1,.agg #[.func (.func f1) #[] #[]]),(.int k n2,.agg #[.func (.func f2) #[] #[]]),(.int k n3,.agg #[.func (.func f3) #[] #[]]),(.int k n4,.agg #[.func (.func f4) #[] #[]])])) (v:=.map (some w.heap.size)) (hm _ (by simp)) (by rw[hS,hS,hS,hS,hS,hS];omega) eR
 rw[wpOpsIn_cons]
 refine bX (C:=C) rfl rfl (bR (C:=C) (by intro c h;cases h) (r:=.ok (.value (.map (some w.heap.size))) _) (by show Result.ok (Next.value (b6.eval (.tmp 6))) _=_;rw[e6]) ?_)
 show wpOpsIn _ _ _ _ _ _ (b6.put (some 0) (.map (some w.heap.size))) _
 rw[wpOpsIn]
 exact⟨_,hQ _ rfl,_,g8⟩
end steps
def X0(Q:Exit→AS→Prop):Exit→AS→Prop
 |.goto _,_=>False
 |e,S=>Q e S
section scope
variable {P:Program}{C:Ctx}{S:AS}{Q:Exit→AS→Prop}
theorem X0.n(h:Q .normal S):X0 Q .normal S:=h
theorem X0.r(h:Q .ret S):X0 Q .ret S:=h
theorem X0.x{id:Nat}(h:Q (.exit id) S):X0 Q (.exit id) S:=h
end scope
end Go.Fw
namespace Go.Fw
open Go.RowKit
class SB (P:Program) (T:TypeId) (n:outParam Nat) (E:outParam TypeId) (sz:outParam Nat) (z:outParam (List Value)):Prop where
 u:P.underlying T=some (.array n E)
 s:(P.info? E).map (·.size)=some sz
 hz:(P.info? T).bind (·.zero)=some (.agg ⟨z⟩)
 o:z.all (fun v=>v.oneCell')=true
theorem SB.size{P:Program}{T E:TypeId}{n sz:Nat}{z:List Value}[t:SB P T n E sz z](w:World):(sizeOf E).run P w=.ok sz w:=by
 have h:=t.s
 unfold Go.sizeOf typeInfo
 cases hi:P.info? E with
 |none=>rw[hi]at h;simp at h
 |some i=>rw[hi]at h;simp at h;simp[hi,h]
section
variable {P:Program}{C:Ctx}{ops:Array Oper}{S:AS}{nd:Bool}{K:List Ac→AS→Prop}{rest:List Oper}{acc:List Ac}
variable {gd:Option (Nat×Bool)}{rg:List Nat}{d:Nat}{ty:TypeId}{pos:String}{aft:Array Edge}{x y z:Operand}{T U E0:TypeId}
end
end Go.Fw
namespace Go.Proofs.YtningmnklfpfjaaGreat
open Go.Fw
open Go.Proofs
instance:bP Tryz.prog 1:=⟨by kernel_rfl,by kernel_rfl⟩
instance:ax Tryz.prog 1 (.nilFunc):=⟨by kernel_rfl⟩
instance:aK Tryz.prog 1 1 8 (.nilFunc):=⟨by kernel_rfl,by rfl,by decide,by decide⟩
instance:iw Tryz.prog 2 .i64:=⟨by kernel_rfl⟩
instance:bP Tryz.prog 2:=⟨by kernel_rfl,by kernel_rfl⟩
instance:ax Tryz.prog 2 (.int .i64 0):=⟨by kernel_rfl⟩
instance:aK Tryz.prog 2 1 8 (.int .i64 0):=⟨by kernel_rfl,by rfl,by decide,by decide⟩
instance:iw Tryz.prog 3 .i64:=⟨by kernel_rfl⟩
instance:bP Tryz.prog 3:=⟨by kernel_rfl,by kernel_rfl⟩
instance:ax Tryz.prog 3 (.int .i64 0):=⟨by kernel_rfl⟩
instance:aK Tryz.prog 3 1 8 (.int .i64 0):=⟨by kernel_rfl,by rfl,by decide,by decide⟩
instance:Bh Tryz.prog 4:=⟨by kernel_rfl⟩
instance:bP Tryz.prog 4:=⟨by kernel_rfl,by kernel_rfl⟩
instance:ax Tryz.prog 4 (.bool false):=⟨by kernel_rfl⟩
instance:aK Tryz.prog 4 1 1 (.bool false):=⟨by kernel_rfl,by rfl,by decide,by decide⟩
instance:iw Tryz.prog 5 .u8:=⟨by kernel_rfl⟩
instance:bP Tryz.prog 5:=⟨by kernel_rfl,by kernel_rfl⟩
instance:ax Tryz.prog 5 (.int .u8 0):=⟨by kernel_rfl⟩
instance:aK Tryz.prog 5 1 1 (.int .u8 0):=⟨by kernel_rfl,by rfl,by decide,by decide⟩
instance:iw Tryz.prog 6 .u8:=⟨by kernel_rfl⟩
instance:bP Tryz.prog 6:=⟨by kernel_rfl,by kernel_rfl⟩
instance:ax Tryz.prog 6 (.int .u8 0):=⟨by kernel_rfl⟩
instance:aK Tryz.prog 6 1 1 (.int .u8 0):=⟨by kernel_rfl,by rfl,by decide,by decide⟩
instance:iO Tryz.prog 7 4:=⟨by kernel_rfl,by kernel_rfl⟩
instance:fC Tryz.prog 7:=⟨fun w=>⟨3,iO.size (T:=7) (n:=4) w⟩⟩
instance:ax Tryz.prog 7 (.agg #[.int .i64 0,.int .i64 0,.bool false,.int .u8 0]):=⟨by kernel_rfl⟩
instance:aK Tryz.prog 7 4 24 (.agg #[.int .i64 0,.int .i64 0,.bool false,.int .u8 0]):=⟨by kernel_rfl,by rfl,by decide,by decide⟩
instance:bK Tryz.prog 7 [(0,1),(1,1),(2,1),(3,1)] [.int .i64 0,.int .i64 0,.bool false,.int .u8 0]:=⟨by kernel_rfl,by kernel_rfl,by rfl⟩
instance:fG Tryz.prog 7 0 0 2:=⟨by kernel_rfl⟩
instance:fG Tryz.prog 7 1 1 3:=⟨by kernel_rfl⟩
instance:fG Tryz.prog 7 2 2 4:=⟨by kernel_rfl⟩
instance:fG Tryz.prog 7 3 3 6:=⟨by kernel_rfl⟩
instance:iO Tryz.prog 8 4:=⟨by kernel_rfl,by kernel_rfl⟩
instance:fC Tryz.prog 8:=⟨fun w=>⟨3,iO.size (T:=8) (n:=4) w⟩⟩
instance:ax Tryz.prog 8 (.agg #[.int .i64 0,.int .i64 0,.bool false,.int .u8 0]):=⟨by kernel_rfl⟩
instance:aK Tryz.prog 8 4 24 (.agg #[.int .i64 0,.int .i64 0,.bool false,.int .u8 0]):=⟨by kernel_rfl,by rfl,by decide,by decide⟩
instance:bK Tryz.prog 8 [(0,1),(1,1),(2,1),(3,1)] [.int .i64 0,.int .i64 0,.bool false,.int .u8 0]:=⟨by kernel_rfl,by kernel_rfl,by rfl⟩
instance:fG Tryz.prog 8 0 0 2:=⟨by kernel_rfl⟩
instance:fG Tryz.prog 8 1 1 3:=⟨by kernel_rfl⟩
instance:fG Tryz.prog 8 2 2 4:=⟨by kernel_rfl⟩
instance:fG Tryz.prog 8 3 3 6:=⟨by kernel_rfl⟩
instance:Gs Tryz.prog 9:=⟨by kernel_rfl⟩
instance:bP Tryz.prog 9:=⟨by kernel_rfl,by kernel_rfl⟩
instance:ax Tryz.prog 9 (.string (ByteArray.mk #[])):=⟨by kernel_rfl⟩
instance:aK Tryz.prog 9 1 16 (.string (ByteArray.mk #[])):=⟨by kernel_rfl,by rfl,by decide,by decide⟩
instance:Gs Tryz.prog 10:=⟨by kernel_rfl⟩
instance:bP Tryz.prog 10:=⟨by kernel_rfl,by kernel_rfl⟩
instance:ax Tryz.prog 10 (.string (ByteArray.mk #[])):=⟨by kernel_rfl⟩
instance:aK Tryz.prog 10 1 16 (.string (ByteArray.mk #[])):=⟨by kernel_rfl,by rfl,by decide,by decide⟩
instance:Gs Tryz.prog 11:=⟨by kernel_rfl⟩
instance:bP Tryz.prog 11:=⟨by kernel_rfl,by kernel_rfl⟩
instance:ax Tryz.prog 11 (.string (ByteArray.mk #[])):=⟨by kernel_rfl⟩
instance:aK Tryz.prog 11 1 16 (.string (ByteArray.mk #[])):=⟨by kernel_rfl,by rfl,by decide,by decide⟩
instance:iw Tryz.prog 12 .u64:=⟨by kernel_rfl⟩
instance:bP Tryz.prog 12:=⟨by kernel_rfl,by kernel_rfl⟩
instance:ax Tryz.prog 12 (.int .u64 0):=⟨by kernel_rfl⟩
instance:aK Tryz.prog 12 1 8 (.int .u64 0):=⟨by kernel_rfl,by rfl,by decide,by decide⟩
instance:iO Tryz.prog 13 2:=⟨by kernel_rfl,by kernel_rfl⟩
instance:fC Tryz.prog 13:=⟨fun w=>⟨1,iO.size (T:=13) (n:=2) w⟩⟩
instance:ax Tryz.prog 13 (.agg #[.string (ByteArray.mk #[]),.int .u64 0]):=⟨by kernel_rfl⟩
instance:aK Tryz.prog 13 2 24 (.agg #[.string (ByteArray.mk #[]),.int .u64 0]):=⟨by kernel_rfl,by rfl,by decide,by decide⟩
instance:bK Tryz.prog 13 [(0,1),(1,1)] [.string (ByteArray.mk #[]),.int .u64 0]:=⟨by kernel_rfl,by kernel_rfl,by rfl⟩
instance:fG Tryz.prog 13 0 0 9:=⟨by kernel_rfl⟩
instance:fG Tryz.prog 13 1 1 12:=⟨by kernel_rfl⟩
instance:iO Tryz.prog 14 2:=⟨by kernel_rfl,by kernel_rfl⟩
instance:fC Tryz.prog 14:=⟨fun w=>⟨1,iO.size (T:=14) (n:=2) w⟩⟩
instance:ax Tryz.prog 14 (.agg #[.string (ByteArray.mk #[]),.int .u64 0]):=⟨by kernel_rfl⟩
instance:aK Tryz.prog 14 2 24 (.agg #[.string (ByteArray.mk #[]),.int .u64 0]):=⟨by kernel_rfl,by rfl,by decide,by decide⟩
instance:bK Tryz.prog 14 [(0,1),(1,1)] [.string (ByteArray.mk #[]),.int .u64 0]:=⟨by kernel_rfl,by kernel_rfl,by rfl⟩
instance:fG Tryz.prog 14 0 0 9:=⟨by kernel_rfl⟩
instance:fG Tryz.prog 14 1 1 12:=⟨by kernel_rfl⟩
instance:bP Tryz.prog 15:=⟨by kernel_rfl,by kernel_rfl⟩
instance:ax Tryz.prog 15 (.pointer none):=⟨by kernel_rfl⟩
instance:aK Tryz.prog 15 1 8 (.pointer none):=⟨by kernel_rfl,by rfl,by decide,by decide⟩
instance:bP Tryz.prog 16:=⟨by kernel_rfl,by kernel_rfl⟩
instance:ax Tryz.prog 16 (.pointer none):=⟨by kernel_rfl⟩
instance:aK Tryz.prog 16 1 8 (.pointer none):=⟨by kernel_rfl,by rfl,by decide,by decide⟩
instance:bP Tryz.prog 17:=⟨by kernel_rfl,by kernel_rfl⟩
instance:ax Tryz.prog 17 (.pointer none):=⟨by kernel_rfl⟩
instance:aK Tryz.prog 17 1 8 (.pointer none):=⟨by kernel_rfl,by rfl,by decide,by decide⟩
instance:iO Tryz.prog 18 1:=⟨by kernel_rfl,by kernel_rfl⟩
instance:fC Tryz.prog 18:=⟨fun w=>⟨0,iO.size (T:=18) (n:=1) w⟩⟩
instance:ax Tryz.prog 18 (.agg #[.pointer none]):=⟨by kernel_rfl⟩
instance:aK Tryz.prog 18 1 8 (.agg #[.pointer none]):=⟨by kernel_rfl,by rfl,by decide,by decide⟩
instance:bK Tryz.prog 18 [(0,1)] [.pointer none]:=⟨by kernel_rfl,by kernel_rfl,by rfl⟩
instance:fG Tryz.prog 18 0 0 17:=⟨by kernel_rfl⟩
instance:iO Tryz.prog 19 1:=⟨by kernel_rfl,by kernel_rfl⟩
instance:fC Tryz.prog 19:=⟨fun w=>⟨0,iO.size (T:=19) (n:=1) w⟩⟩
instance:ax Tryz.prog 19 (.agg #[.pointer none]):=⟨by kernel_rfl⟩
instance:aK Tryz.prog 19 1 8 (.agg #[.pointer none]):=⟨by kernel_rfl,by rfl,by decide,by decide⟩
instance:bK Tryz.prog 19 [(0,1)] [.pointer none]:=⟨by kernel_rfl,by kernel_rfl,by rfl⟩
instance:fG Tryz.prog 19 0 0 17:=⟨by kernel_rfl⟩
instance:bP Tryz.prog 20:=⟨by kernel_rfl,by kernel_rfl⟩
instance:ax Tryz.prog 20 (.nilIface):=⟨by kernel_rfl⟩
instance:aK Tryz.prog 20 1 16 (.nilIface):=⟨by kernel_rfl,by rfl,by decide,by decide⟩
instance:iw Tryz.prog 21 .i32:=⟨by kernel_rfl⟩
instance:bP Tryz.prog 21:=⟨by kernel_rfl,by kernel_rfl⟩
instance:ax Tryz.prog 21 (.int .i32 0):=⟨by kernel_rfl⟩
instance:aK Tryz.prog 21 1 4 (.int .i32 0):=⟨by kernel_rfl,by rfl,by decide,by decide⟩
instance:bP Tryz.prog 22:=⟨by kernel_rfl,by kernel_rfl⟩
instance:ax Tryz.prog 22 (.slice none 0 0):=⟨by kernel_rfl⟩
instance:aK Tryz.prog 22 1 24 (.slice none 0 0):=⟨by kernel_rfl,by rfl,by decide,by decide⟩
instance:eA Tryz.prog 22 23 1:=⟨by kernel_rfl,by kernel_rfl⟩
instance:bP Tryz.prog 23:=⟨by kernel_rfl,by kernel_rfl⟩
instance:ax Tryz.prog 23 (.slice none 0 0):=⟨by kernel_rfl⟩
instance:aK Tryz.prog 23 1 24 (.slice none 0 0):=⟨by kernel_rfl,by rfl,by decide,by decide⟩
instance:eA Tryz.prog 23 43 4:=⟨by kernel_rfl,by kernel_rfl⟩
instance:iO Tryz.prog 24 4:=⟨by kernel_rfl,by kernel_rfl⟩
instance:fC Tryz.prog 24:=⟨fun w=>⟨3,iO.size (T:=24) (n:=4) w⟩⟩
instance:ax Tryz.prog 24 (.agg #[.int .i64 0,.slice none 0 0,.slice none 0 0,.slice none 0 0]):=⟨by kernel_rfl⟩
instance:aK Tryz.prog 24 4 80 (.agg #[.int .i64 0,.slice none 0 0,.slice none 0 0,.slice none 0 0]):=⟨by kernel_rfl,by rfl,by decide,by decide⟩
instance:bK Tryz.prog 24 [(0,1),(1,1),(2,1),(3,1)] [.int .i64 0,.slice none 0 0,.slice none 0 0,.slice none 0 0]:=⟨by kernel_rfl,by kernel_rfl,by rfl⟩
instance:fG Tryz.prog 24 0 0 3:=⟨by kernel_rfl⟩
instance:fG Tryz.prog 24 1 1 22:=⟨by kernel_rfl⟩
instance:fG Tryz.prog 24 2 2 22:=⟨by kernel_rfl⟩
instance:fG Tryz.prog 24 3 3 23:=⟨by kernel_rfl⟩
instance:iO Tryz.prog 25 4:=⟨by kernel_rfl,by kernel_rfl⟩
instance:fC Tryz.prog 25:=⟨fun w=>⟨3,iO.size (T:=25) (n:=4) w⟩⟩
instance:ax Tryz.prog 25 (.agg #[.int .i64 0,.slice none 0 0,.slice none 0 0,.slice none 0 0]):=⟨by kernel_rfl⟩
instance:aK Tryz.prog 25 4 80 (.agg #[.int .i64 0,.slice none 0 0,.slice none 0 0,.slice none 0 0]):=⟨by kernel_rfl,by rfl,by decide,by decide⟩
instance:bK Tryz.prog 25 [(0,1),(1,1),(2,1),(3,1)] [.int .i64 0,.slice none 0 0,.slice none 0 0,.slice none 0 0]:=⟨by kernel_rfl,by kernel_rfl,by rfl⟩
instance:fG Tryz.prog 25 0 0 3:=⟨by kernel_rfl⟩
instance:fG Tryz.prog 25 1 1 22:=⟨by kernel_rfl⟩
instance:fG Tryz.prog 25 2 2 22:=⟨by kernel_rfl⟩
instance:fG Tryz.prog 25 3 3 23:=⟨by kernel_rfl⟩
instance:bP Tryz.prog 26:=⟨by kernel_rfl,by kernel_rfl⟩
instance:ax Tryz.prog 26 (.slice none 0 0):=⟨by kernel_rfl⟩
instance:aK Tryz.prog 26 1 24 (.slice none 0 0):=⟨by kernel_rfl,by rfl,by decide,by decide⟩
instance:eA Tryz.prog 26 38 2:=⟨by kernel_rfl,by kernel_rfl⟩
instance:bP Tryz.prog 27:=⟨by kernel_rfl,by kernel_rfl⟩
instance:ax Tryz.prog 27 (.nilFunc):=⟨by kernel_rfl⟩
instance:aK Tryz.prog 27 1 8 (.nilFunc):=⟨by kernel_rfl,by rfl,by decide,by decide⟩
instance:bP Tryz.prog 28:=⟨by kernel_rfl,by kernel_rfl⟩
instance:ax Tryz.prog 28 (.nilFunc):=⟨by kernel_rfl⟩
instance:aK Tryz.prog 28 1 8 (.nilFunc):=⟨by kernel_rfl,by rfl,by decide,by decide⟩
instance:bP Tryz.prog 29:=⟨by kernel_rfl,by kernel_rfl⟩
instance:ax Tryz.prog 29 (.nilFunc):=⟨by kernel_rfl⟩
instance:aK Tryz.prog 29 1 8 (.nilFunc):=⟨by kernel_rfl,by rfl,by decide,by decide⟩
instance:bP Tryz.prog 30:=⟨by kernel_rfl,by kernel_rfl⟩
instance:ax Tryz.prog 30 (.pointer none):=⟨by kernel_rfl⟩
instance:aK Tryz.prog 30 1 8 (.pointer none):=⟨by kernel_rfl,by rfl,by decide,by decide⟩
instance:iw Tryz.prog 31 .i64:=⟨by kernel_rfl⟩
instance:bP Tryz.prog 31:=⟨by kernel_rfl,by kernel_rfl⟩
instance:ax Tryz.prog 31 (.int .i64 0):=⟨by kernel_rfl⟩
instance:aK Tryz.prog 31 1 8 (.int .i64 0):=⟨by kernel_rfl,by rfl,by decide,by decide⟩
instance:bP Tryz.prog 33:=⟨by kernel_rfl,by kernel_rfl⟩
instance:ax Tryz.prog 33 (.nilFunc):=⟨by kernel_rfl⟩
instance:aK Tryz.prog 33 1 8 (.nilFunc):=⟨by kernel_rfl,by rfl,by decide,by decide⟩
instance:bP Tryz.prog 34:=⟨by kernel_rfl,by kernel_rfl⟩
instance:ax Tryz.prog 34 (.pointer none):=⟨by kernel_rfl⟩
instance:aK Tryz.prog 34 1 8 (.pointer none):=⟨by kernel_rfl,by rfl,by decide,by decide⟩
instance:bP Tryz.prog 35:=⟨by kernel_rfl,by kernel_rfl⟩
instance:ax Tryz.prog 35 (.nilFunc):=⟨by kernel_rfl⟩
instance:aK Tryz.prog 35 1 8 (.nilFunc):=⟨by kernel_rfl,by rfl,by decide,by decide⟩
instance:bP Tryz.prog 36:=⟨by kernel_rfl,by kernel_rfl⟩
instance:ax Tryz.prog 36 (.nilFunc):=⟨by kernel_rfl⟩
instance:aK Tryz.prog 36 1 8 (.nilFunc):=⟨by kernel_rfl,by rfl,by decide,by decide⟩
instance:iO Tryz.prog 37 2:=⟨by kernel_rfl,by kernel_rfl⟩
instance:fC Tryz.prog 37:=⟨fun w=>⟨1,iO.size (T:=37) (n:=2) w⟩⟩
instance:ax Tryz.prog 37 (.agg #[.int .i64 0,.int .i64 0]):=⟨by kernel_rfl⟩
instance:aK Tryz.prog 37 2 16 (.agg #[.int .i64 0,.int .i64 0]):=⟨by kernel_rfl,by rfl,by decide,by decide⟩
instance:bK Tryz.prog 37 [(0,1),(1,1)] [.int .i64 0,.int .i64 0]:=⟨by kernel_rfl,by kernel_rfl,by rfl⟩
instance:fG Tryz.prog 37 0 0 3:=⟨by kernel_rfl⟩
instance:fG Tryz.prog 37 1 1 3:=⟨by kernel_rfl⟩
instance:iO Tryz.prog 38 2:=⟨by kernel_rfl,by kernel_rfl⟩
instance:fC Tryz.prog 38:=⟨fun w=>⟨1,iO.size (T:=38) (n:=2) w⟩⟩
instance:ax Tryz.prog 38 (.agg #[.int .i64 0,.int .i64 0]):=⟨by kernel_rfl⟩
instance:aK Tryz.prog 38 2 16 (.agg #[.int .i64 0,.int .i64 0]):=⟨by kernel_rfl,by rfl,by decide,by decide⟩
instance:bK Tryz.prog 38 [(0,1),(1,1)] [.int .i64 0,.int .i64 0]:=⟨by kernel_rfl,by kernel_rfl,by rfl⟩
instance:fG Tryz.prog 38 0 0 3:=⟨by kernel_rfl⟩
instance:fG Tryz.prog 38 1 1 3:=⟨by kernel_rfl⟩
instance:bP Tryz.prog 39:=⟨by kernel_rfl,by kernel_rfl⟩
instance:ax Tryz.prog 39 (.slice none 0 0):=⟨by kernel_rfl⟩
instance:aK Tryz.prog 39 1 24 (.slice none 0 0):=⟨by kernel_rfl,by rfl,by decide,by decide⟩
instance:eA Tryz.prog 39 130 1:=⟨by kernel_rfl,by kernel_rfl⟩
instance:iO Tryz.prog 40 2:=⟨by kernel_rfl,by kernel_rfl⟩
instance:fC Tryz.prog 40:=⟨fun w=>⟨1,iO.size (T:=40) (n:=2) w⟩⟩
instance:ax Tryz.prog 40 (.agg #[.bool false,.slice none 0 0]):=⟨by kernel_rfl⟩
instance:aK Tryz.prog 40 2 32 (.agg #[.bool false,.slice none 0 0]):=⟨by kernel_rfl,by rfl,by decide,by decide⟩
instance:bK Tryz.prog 40 [(0,1),(1,1)] [.bool false,.slice none 0 0]:=⟨by kernel_rfl,by kernel_rfl,by rfl⟩
instance:fG Tryz.prog 40 0 0 4:=⟨by kernel_rfl⟩
instance:fG Tryz.prog 40 1 1 39:=⟨by kernel_rfl⟩
instance:iO Tryz.prog 41 2:=⟨by kernel_rfl,by kernel_rfl⟩
instance:fC Tryz.prog 41:=⟨fun w=>⟨1,iO.size (T:=41) (n:=2) w⟩⟩
instance:ax Tryz.prog 41 (.agg #[.bool false,.slice none 0 0]):=⟨by kernel_rfl⟩
instance:aK Tryz.prog 41 2 32 (.agg #[.bool false,.slice none 0 0]):=⟨by kernel_rfl,by rfl,by decide,by decide⟩
instance:bK Tryz.prog 41 [(0,1),(1,1)] [.bool false,.slice none 0 0]:=⟨by kernel_rfl,by kernel_rfl,by rfl⟩
instance:fG Tryz.prog 41 0 0 4:=⟨by kernel_rfl⟩
instance:fG Tryz.prog 41 1 1 39:=⟨by kernel_rfl⟩
instance:iO Tryz.prog 42 4:=⟨by kernel_rfl,by kernel_rfl⟩
instance:fC Tryz.prog 42:=⟨fun w=>⟨3,iO.size (T:=42) (n:=4) w⟩⟩
instance:ax Tryz.prog 42 (.agg #[.bool false,.slice none 0 0,.bool false,.slice none 0 0]):=⟨by kernel_rfl⟩
instance:aK Tryz.prog 42 4 64 (.agg #[.bool false,.slice none 0 0,.bool false,.slice none 0 0]):=⟨by kernel_rfl,by rfl,by decide,by decide⟩
instance:bK Tryz.prog 42 [(0,2),(2,2)] [.bool false,.slice none 0 0,.bool false,.slice none 0 0]:=⟨by kernel_rfl,by kernel_rfl,by rfl⟩
instance:fG Tryz.prog 42 0 0 41:=⟨by kernel_rfl⟩
instance:fG Tryz.prog 42 1 2 41:=⟨by kernel_rfl⟩
instance:iO Tryz.prog 43 4:=⟨by kernel_rfl,by kernel_rfl⟩
instance:fC Tryz.prog 43:=⟨fun w=>⟨3,iO.size (T:=43) (n:=4) w⟩⟩
instance:ax Tryz.prog 43 (.agg #[.bool false,.slice none 0 0,.bool false,.slice none 0 0]):=⟨by kernel_rfl⟩
instance:aK Tryz.prog 43 4 64 (.agg #[.bool false,.slice none 0 0,.bool false,.slice none 0 0]):=⟨by kernel_rfl,by rfl,by decide,by decide⟩
instance:bK Tryz.prog 43 [(0,2),(2,2)] [.bool false,.slice none 0 0,.bool false,.slice none 0 0]:=⟨by kernel_rfl,by kernel_rfl,by rfl⟩
instance:fG Tryz.prog 43 0 0 41:=⟨by kernel_rfl⟩
instance:fG Tryz.prog 43 1 2 41:=⟨by kernel_rfl⟩
instance:bP Tryz.prog 44:=⟨by kernel_rfl,by kernel_rfl⟩
instance:ax Tryz.prog 44 (.nilFunc):=⟨by kernel_rfl⟩
instance:aK Tryz.prog 44 1 8 (.nilFunc):=⟨by kernel_rfl,by rfl,by decide,by decide⟩
instance:bP Tryz.prog 45:=⟨by kernel_rfl,by kernel_rfl⟩
instance:ax Tryz.prog 45 (.slice none 0 0):=⟨by kernel_rfl⟩
instance:aK Tryz.prog 45 1 24 (.slice none 0 0):=⟨by kernel_rfl,by rfl,by decide,by decide⟩
instance:eA Tryz.prog 45 3 1:=⟨by kernel_rfl,by kernel_rfl⟩
instance:bP Tryz.prog 46:=⟨by kernel_rfl,by kernel_rfl⟩
instance:ax Tryz.prog 46 (.nilFunc):=⟨by kernel_rfl⟩
instance:aK Tryz.prog 46 1 8 (.nilFunc):=⟨by kernel_rfl,by rfl,by decide,by decide⟩
instance:bP Tryz.prog 47:=⟨by kernel_rfl,by kernel_rfl⟩
instance:ax Tryz.prog 47 (.nilFunc):=⟨by kernel_rfl⟩
instance:aK Tryz.prog 47 1 8 (.nilFunc):=⟨by kernel_rfl,by rfl,by decide,by decide⟩
instance:bP Tryz.prog 48:=⟨by kernel_rfl,by kernel_rfl⟩
instance:ax Tryz.prog 48 (.nilFunc):=⟨by kernel_rfl⟩
instance:aK Tryz.prog 48 1 8 (.nilFunc):=⟨by kernel_rfl,by rfl,by decide,by decide⟩
instance:bP Tryz.prog 49:=⟨by kernel_rfl,by kernel_rfl⟩
instance:ax Tryz.prog 49 (.nilFunc):=⟨by kernel_rfl⟩
instance:aK Tryz.prog 49 1 8 (.nilFunc):=⟨by kernel_rfl,by rfl,by decide,by decide⟩
instance:bP Tryz.prog 50:=⟨by kernel_rfl,by kernel_rfl⟩
instance:ax Tryz.prog 50 (.nilFunc):=⟨by kernel_rfl⟩
instance:aK Tryz.prog 50 1 8 (.nilFunc):=⟨by kernel_rfl,by rfl,by decide,by decide⟩
instance:bP Tryz.prog 51:=⟨by kernel_rfl,by kernel_rfl⟩
instance:ax Tryz.prog 51 (.nilFunc):=⟨by kernel_rfl⟩
instance:aK Tryz.prog 51 1 8 (.nilFunc):=⟨by kernel_rfl,by rfl,by decide,by decide⟩
instance:bP Tryz.prog 52:=⟨by kernel_rfl,by kernel_rfl⟩
instance:ax Tryz.prog 52 (.nilFunc):=⟨by kernel_rfl⟩
instance:aK Tryz.prog 52 1 8 (.nilFunc):=⟨by kernel_rfl,by rfl,by decide,by decide⟩
instance:bP Tryz.prog 53:=⟨by kernel_rfl,by kernel_rfl⟩
instance:ax Tryz.prog 53 (.nilFunc):=⟨by kernel_rfl⟩
instance:aK Tryz.prog 53 1 8 (.nilFunc):=⟨by kernel_rfl,by rfl,by decide,by decide⟩
instance:bP Tryz.prog 54:=⟨by kernel_rfl,by kernel_rfl⟩
instance:ax Tryz.prog 54 (.nilFunc):=⟨by kernel_rfl⟩
instance:aK Tryz.prog 54 1 8 (.nilFunc):=⟨by kernel_rfl,by rfl,by decide,by decide⟩
instance:bP Tryz.prog 55:=⟨by kernel_rfl,by kernel_rfl⟩
instance:ax Tryz.prog 55 (.nilFunc):=⟨by kernel_rfl⟩
instance:aK Tryz.prog 55 1 8 (.nilFunc):=⟨by kernel_rfl,by rfl,by decide,by decide⟩
instance:bP Tryz.prog 56:=⟨by kernel_rfl,by kernel_rfl⟩
instance:ax Tryz.prog 56 (.nilFunc):=⟨by kernel_rfl⟩
instance:aK Tryz.prog 56 1 8 (.nilFunc):=⟨by kernel_rfl,by rfl,by decide,by decide⟩
instance:bP Tryz.prog 57:=⟨by kernel_rfl,by kernel_rfl⟩
instance:ax Tryz.prog 57 (.nilFunc):=⟨by kernel_rfl⟩
instance:aK Tryz.prog 57 1 8 (.nilFunc):=⟨by kernel_rfl,by rfl,by decide,by decide⟩
instance:iO Tryz.prog 58 5:=⟨by kernel_rfl,by kernel_rfl⟩
instance:fC Tryz.prog 58:=⟨fun w=>⟨4,iO.size (T:=58) (n:=5) w⟩⟩
instance:ax Tryz.prog 58 (.agg #[.int .i64 0,.slice none 0 0,.slice none 0 0,.slice none 0 0,.slice none 0 0]):=⟨by kernel_rfl⟩
instance:aK Tryz.prog 58 5 104 (.agg #[.int .i64 0,.slice none 0 0,.slice none 0 0,.slice none 0 0,.slice none 0 0]):=⟨by kernel_rfl,by rfl,by decide,by decide⟩
instance:bK Tryz.prog 58 [(0,4),(4,1)] [.int .i64 0,.slice none 0 0,.slice none 0 0,.slice none 0 0,.slice none 0 0]:=⟨by kernel_rfl,by kernel_rfl,by rfl⟩
instance:fG Tryz.prog 58 0 0 25:=⟨by kernel_rfl⟩
instance:fG Tryz.prog 58 1 4 45:=⟨by kernel_rfl⟩
instance:iO Tryz.prog 59 5:=⟨by kernel_rfl,by kernel_rfl⟩
instance:fC Tryz.prog 59:=⟨fun w=>⟨4,iO.size (T:=59) (n:=5) w⟩⟩
instance:ax Tryz.prog 59 (.agg #[.int .i64 0,.slice none 0 0,.slice none 0 0,.slice none 0 0,.slice none 0 0]):=⟨by kernel_rfl⟩
instance:aK Tryz.prog 59 5 104 (.agg #[.int .i64 0,.slice none 0 0,.slice none 0 0,.slice none 0 0,.slice none 0 0]):=⟨by kernel_rfl,by rfl,by decide,by decide⟩
instance:bK Tryz.prog 59 [(0,4),(4,1)] [.int .i64 0,.slice none 0 0,.slice none 0 0,.slice none 0 0,.slice none 0 0]:=⟨by kernel_rfl,by kernel_rfl,by rfl⟩
instance:fG Tryz.prog 59 0 0 25:=⟨by kernel_rfl⟩
instance:fG Tryz.prog 59 1 4 45:=⟨by kernel_rfl⟩
instance:bP Tryz.prog 60:=⟨by kernel_rfl,by kernel_rfl⟩
instance:ax Tryz.prog 60 (.nilFunc):=⟨by kernel_rfl⟩
instance:aK Tryz.prog 60 1 8 (.nilFunc):=⟨by kernel_rfl,by rfl,by decide,by decide⟩
instance:bP Tryz.prog 61:=⟨by kernel_rfl,by kernel_rfl⟩
instance:ax Tryz.prog 61 (.nilFunc):=⟨by kernel_rfl⟩
instance:aK Tryz.prog 61 1 8 (.nilFunc):=⟨by kernel_rfl,by rfl,by decide,by decide⟩
instance:bP Tryz.prog 62:=⟨by kernel_rfl,by kernel_rfl⟩
instance:ax Tryz.prog 62 (.nilFunc):=⟨by kernel_rfl⟩
instance:aK Tryz.prog 62 1 8 (.nilFunc):=⟨by kernel_rfl,by rfl,by decide,by decide⟩
instance:bP Tryz.prog 63:=⟨by kernel_rfl,by kernel_rfl⟩
instance:ax Tryz.prog 63 (.nilFunc):=⟨by kernel_rfl⟩
instance:aK Tryz.prog 63 1 8 (.nilFunc):=⟨by kernel_rfl,by rfl,by decide,by decide⟩
instance:bP Tryz.prog 64:=⟨by kernel_rfl,by kernel_rfl⟩
instance:ax Tryz.prog 64 (.nilFunc):=⟨by kernel_rfl⟩
instance:aK Tryz.prog 64 1 8 (.nilFunc):=⟨by kernel_rfl,by rfl,by decide,by decide⟩
instance:bP Tryz.prog 65:=⟨by kernel_rfl,by kernel_rfl⟩
instance:ax Tryz.prog 65 (.nilFunc):=⟨by kernel_rfl⟩
instance:aK Tryz.prog 65 1 8 (.nilFunc):=⟨by kernel_rfl,by rfl,by decide,by decide⟩
instance:bP Tryz.prog 67:=⟨by kernel_rfl,by kernel_rfl⟩
instance:ax Tryz.prog 67 (.nilFunc):=⟨by kernel_rfl⟩
instance:aK Tryz.prog 67 1 8 (.nilFunc):=⟨by kernel_rfl,by rfl,by decide,by decide⟩
instance:bP Tryz.prog 68:=⟨by kernel_rfl,by kernel_rfl⟩
instance:ax Tryz.prog 68 (.nilFunc):=⟨by kernel_rfl⟩
instance:aK Tryz.prog 68 1 8 (.nilFunc):=⟨by kernel_rfl,by rfl,by decide,by decide⟩
instance:bP Tryz.prog 69:=⟨by kernel_rfl,by kernel_rfl⟩
instance:ax Tryz.prog 69 (.nilFunc):=⟨by kernel_rfl⟩
instance:aK Tryz.prog 69 1 8 (.nilFunc):=⟨by kernel_rfl,by rfl,by decide,by decide⟩
instance:bP Tryz.prog 70:=⟨by kernel_rfl,by kernel_rfl⟩
instance:ax Tryz.prog 70 (.nilFunc):=⟨by kernel_rfl⟩
instance:aK Tryz.prog 70 1 8 (.nilFunc):=⟨by kernel_rfl,by rfl,by decide,by decide⟩
instance:bP Tryz.prog 71:=⟨by kernel_rfl,by kernel_rfl⟩
instance:ax Tryz.prog 71 (.nilFunc):=⟨by kernel_rfl⟩
instance:aK Tryz.prog 71 1 8 (.nilFunc):=⟨by kernel_rfl,by rfl,by decide,by decide⟩
instance:bP Tryz.prog 72:=⟨by kernel_rfl,by kernel_rfl⟩
instance:ax Tryz.prog 72 (.nilFunc):=⟨by kernel_rfl⟩
instance:aK Tryz.prog 72 1 8 (.nilFunc):=⟨by kernel_rfl,by rfl,by decide,by decide⟩
instance:bP Tryz.prog 73:=⟨by kernel_rfl,by kernel_rfl⟩
instance:ax Tryz.prog 73 (.nilFunc):=⟨by kernel_rfl⟩
instance:aK Tryz.prog 73 1 8 (.nilFunc):=⟨by kernel_rfl,by rfl,by decide,by decide⟩
instance:bP Tryz.prog 74:=⟨by kernel_rfl,by kernel_rfl⟩
instance:ax Tryz.prog 74 (.nilFunc):=⟨by kernel_rfl⟩
instance:aK Tryz.prog 74 1 8 (.nilFunc):=⟨by kernel_rfl,by rfl,by decide,by decide⟩
instance:bP Tryz.prog 75:=⟨by kernel_rfl,by kernel_rfl⟩
instance:ax Tryz.prog 75 (.nilFunc):=⟨by kernel_rfl⟩
instance:aK Tryz.prog 75 1 8 (.nilFunc):=⟨by kernel_rfl,by rfl,by decide,by decide⟩
instance:bP Tryz.prog 76:=⟨by kernel_rfl,by kernel_rfl⟩
instance:ax Tryz.prog 76 (.nilFunc):=⟨by kernel_rfl⟩
instance:aK Tryz.prog 76 1 8 (.nilFunc):=⟨by kernel_rfl,by rfl,by decide,by decide⟩
instance:bP Tryz.prog 77:=⟨by kernel_rfl,by kernel_rfl⟩
instance:ax Tryz.prog 77 (.nilFunc):=⟨by kernel_rfl⟩
instance:aK Tryz.prog 77 1 8 (.nilFunc):=⟨by kernel_rfl,by rfl,by decide,by decide⟩
instance:iO Tryz.prog 78 5:=⟨by kernel_rfl,by kernel_rfl⟩
instance:fC Tryz.prog 78:=⟨fun w=>⟨4,iO.size (T:=78) (n:=5) w⟩⟩
instance:ax Tryz.prog 78 (.agg #[.bool false,.int .i64 0,.slice none 0 0,.slice none 0 0,.slice none 0 0]):=⟨by kernel_rfl⟩
instance:aK Tryz.prog 78 5 88 (.agg #[.bool false,.int .i64 0,.slice none 0 0,.slice none 0 0,.slice none 0 0]):=⟨by kernel_rfl,by rfl,by decide,by decide⟩
instance:bK Tryz.prog 78 [(0,1),(1,1),(2,1),(3,1),(4,1)] [.bool false,.int .i64 0,.slice none 0 0,.slice none 0 0,.slice none 0 0]:=⟨by kernel_rfl,by kernel_rfl,by rfl⟩
instance:fG Tryz.prog 78 0 0 4:=⟨by kernel_rfl⟩
instance:fG Tryz.prog 78 1 1 3:=⟨by kernel_rfl⟩
instance:fG Tryz.prog 78 2 2 22:=⟨by kernel_rfl⟩
instance:fG Tryz.prog 78 3 3 45:=⟨by kernel_rfl⟩
instance:fG Tryz.prog 78 4 4 22:=⟨by kernel_rfl⟩
instance:iO Tryz.prog 79 5:=⟨by kernel_rfl,by kernel_rfl⟩
instance:fC Tryz.prog 79:=⟨fun w=>⟨4,iO.size (T:=79) (n:=5) w⟩⟩
instance:ax Tryz.prog 79 (.agg #[.bool false,.int .i64 0,.slice none 0 0,.slice none 0 0,.slice none 0 0]):=⟨by kernel_rfl⟩
instance:aK Tryz.prog 79 5 88 (.agg #[.bool false,.int .i64 0,.slice none 0 0,.slice none 0 0,.slice none 0 0]):=⟨by kernel_rfl,by rfl,by decide,by decide⟩
instance:bK Tryz.prog 79 [(0,1),(1,1),(2,1),(3,1),(4,1)] [.bool false,.int .i64 0,.slice none 0 0,.slice none 0 0,.slice none 0 0]:=⟨by kernel_rfl,by kernel_rfl,by rfl⟩
instance:fG Tryz.prog 79 0 0 4:=⟨by kernel_rfl⟩
instance:fG Tryz.prog 79 1 1 3:=⟨by kernel_rfl⟩
instance:fG Tryz.prog 79 2 2 22:=⟨by kernel_rfl⟩
instance:fG Tryz.prog 79 3 3 45:=⟨by kernel_rfl⟩
instance:fG Tryz.prog 79 4 4 22:=⟨by kernel_rfl⟩
instance:bP Tryz.prog 80:=⟨by kernel_rfl,by kernel_rfl⟩
instance:ax Tryz.prog 80 (.nilFunc):=⟨by kernel_rfl⟩
instance:aK Tryz.prog 80 1 8 (.nilFunc):=⟨by kernel_rfl,by rfl,by decide,by decide⟩
instance:bP Tryz.prog 81:=⟨by kernel_rfl,by kernel_rfl⟩
instance:ax Tryz.prog 81 (.nilFunc):=⟨by kernel_rfl⟩
instance:aK Tryz.prog 81 1 8 (.nilFunc):=⟨by kernel_rfl,by rfl,by decide,by decide⟩
instance:bP Tryz.prog 82:=⟨by kernel_rfl,by kernel_rfl⟩
instance:ax Tryz.prog 82 (.nilFunc):=⟨by kernel_rfl⟩
instance:aK Tryz.prog 82 1 8 (.nilFunc):=⟨by kernel_rfl,by rfl,by decide,by decide⟩
instance:bP Tryz.prog 83:=⟨by kernel_rfl,by kernel_rfl⟩
instance:ax Tryz.prog 83 (.nilFunc):=⟨by kernel_rfl⟩
instance:aK Tryz.prog 83 1 8 (.nilFunc):=⟨by kernel_rfl,by rfl,by decide,by decide⟩
instance:bP Tryz.prog 84:=⟨by kernel_rfl,by kernel_rfl⟩
instance:ax Tryz.prog 84 (.nilFunc):=⟨by kernel_rfl⟩
instance:aK Tryz.prog 84 1 8 (.nilFunc):=⟨by kernel_rfl,by rfl,by decide,by decide⟩
instance:bP Tryz.prog 85:=⟨by kernel_rfl,by kernel_rfl⟩
instance:ax Tryz.prog 85 (.nilFunc):=⟨by kernel_rfl⟩
instance:aK Tryz.prog 85 1 8 (.nilFunc):=⟨by kernel_rfl,by rfl,by decide,by decide⟩
instance:bP Tryz.prog 86:=⟨by kernel_rfl,by kernel_rfl⟩
instance:ax Tryz.prog 86 (.nilFunc):=⟨by kernel_rfl⟩
instance:aK Tryz.prog 86 1 8 (.nilFunc):=⟨by kernel_rfl,by rfl,by decide,by decide⟩
instance:bP Tryz.prog 87:=⟨by kernel_rfl,by kernel_rfl⟩
instance:ax Tryz.prog 87 (.nilFunc):=⟨by kernel_rfl⟩
instance:aK Tryz.prog 87 1 8 (.nilFunc):=⟨by kernel_rfl,by rfl,by decide,by decide⟩
instance:bP Tryz.prog 88:=⟨by kernel_rfl,by kernel_rfl⟩
instance:ax Tryz.prog 88 (.nilFunc):=⟨by kernel_rfl⟩
instance:aK Tryz.prog 88 1 8 (.nilFunc):=⟨by kernel_rfl,by rfl,by decide,by decide⟩
instance:bP Tryz.prog 89:=⟨by kernel_rfl,by kernel_rfl⟩
instance:ax Tryz.prog 89 (.nilFunc):=⟨by kernel_rfl⟩
instance:aK Tryz.prog 89 1 8 (.nilFunc):=⟨by kernel_rfl,by rfl,by decide,by decide⟩
instance:bP Tryz.prog 90:=⟨by kernel_rfl,by kernel_rfl⟩
instance:ax Tryz.prog 90 (.nilFunc):=⟨by kernel_rfl⟩
instance:aK Tryz.prog 90 1 8 (.nilFunc):=⟨by kernel_rfl,by rfl,by decide,by decide⟩
instance:bP Tryz.prog 91:=⟨by kernel_rfl,by kernel_rfl⟩
instance:ax Tryz.prog 91 (.nilFunc):=⟨by kernel_rfl⟩
instance:aK Tryz.prog 91 1 8 (.nilFunc):=⟨by kernel_rfl,by rfl,by decide,by decide⟩
instance:bP Tryz.prog 92:=⟨by kernel_rfl,by kernel_rfl⟩
instance:ax Tryz.prog 92 (.slice none 0 0):=⟨by kernel_rfl⟩
instance:aK Tryz.prog 92 1 24 (.slice none 0 0):=⟨by kernel_rfl,by rfl,by decide,by decide⟩
instance:eA Tryz.prog 92 4 1:=⟨by kernel_rfl,by kernel_rfl⟩
instance:bP Tryz.prog 94:=⟨by kernel_rfl,by kernel_rfl⟩
instance:ax Tryz.prog 94 (.nilFunc):=⟨by kernel_rfl⟩
instance:aK Tryz.prog 94 1 8 (.nilFunc):=⟨by kernel_rfl,by rfl,by decide,by decide⟩
instance:bP Tryz.prog 95:=⟨by kernel_rfl,by kernel_rfl⟩
instance:ax Tryz.prog 95 (.nilFunc):=⟨by kernel_rfl⟩
instance:aK Tryz.prog 95 1 8 (.nilFunc):=⟨by kernel_rfl,by rfl,by decide,by decide⟩
instance:iO Tryz.prog 96 4:=⟨by kernel_rfl,by kernel_rfl⟩
instance:fC Tryz.prog 96:=⟨fun w=>⟨3,iO.size (T:=96) (n:=4) w⟩⟩
instance:ax Tryz.prog 96 (.agg #[.int .i64 0,.int .i64 0,.int .i64 0,.int .i64 0]):=⟨by kernel_rfl⟩
instance:aK Tryz.prog 96 4 32 (.agg #[.int .i64 0,.int .i64 0,.int .i64 0,.int .i64 0]):=⟨by kernel_rfl,by rfl,by decide,by decide⟩
instance:bK Tryz.prog 96 [(0,1),(1,1),(2,1),(3,1)] [.int .i64 0,.int .i64 0,.int .i64 0,.int .i64 0]:=⟨by kernel_rfl,by kernel_rfl,by rfl⟩
instance:fG Tryz.prog 96 0 0 3:=⟨by kernel_rfl⟩
instance:fG Tryz.prog 96 1 1 3:=⟨by kernel_rfl⟩
instance:fG Tryz.prog 96 2 2 3:=⟨by kernel_rfl⟩
instance:fG Tryz.prog 96 3 3 3:=⟨by kernel_rfl⟩
instance:iO Tryz.prog 97 4:=⟨by kernel_rfl,by kernel_rfl⟩
instance:fC Tryz.prog 97:=⟨fun w=>⟨3,iO.size (T:=97) (n:=4) w⟩⟩
instance:ax Tryz.prog 97 (.agg #[.int .i64 0,.int .i64 0,.int .i64 0,.int .i64 0]):=⟨by kernel_rfl⟩
instance:aK Tryz.prog 97 4 32 (.agg #[.int .i64 0,.int .i64 0,.int .i64 0,.int .i64 0]):=⟨by kernel_rfl,by rfl,by decide,by decide⟩
instance:bK Tryz.prog 97 [(0,1),(1,1),(2,1),(3,1)] [.int .i64 0,.int .i64 0,.int .i64 0,.int .i64 0]:=⟨by kernel_rfl,by kernel_rfl,by rfl⟩
instance:fG Tryz.prog 97 0 0 3:=⟨by kernel_rfl⟩
instance:fG Tryz.prog 97 1 1 3:=⟨by kernel_rfl⟩
instance:fG Tryz.prog 97 2 2 3:=⟨by kernel_rfl⟩
instance:fG Tryz.prog 97 3 3 3:=⟨by kernel_rfl⟩
instance:bP Tryz.prog 98:=⟨by kernel_rfl,by kernel_rfl⟩
instance:ax Tryz.prog 98 (.nilFunc):=⟨by kernel_rfl⟩
instance:aK Tryz.prog 98 1 8 (.nilFunc):=⟨by kernel_rfl,by rfl,by decide,by decide⟩
instance:bP Tryz.prog 99:=⟨by kernel_rfl,by kernel_rfl⟩
instance:ax Tryz.prog 99 (.nilFunc):=⟨by kernel_rfl⟩
instance:aK Tryz.prog 99 1 8 (.nilFunc):=⟨by kernel_rfl,by rfl,by decide,by decide⟩
instance:bP Tryz.prog 100:=⟨by kernel_rfl,by kernel_rfl⟩
instance:ax Tryz.prog 100 (.nilFunc):=⟨by kernel_rfl⟩
instance:aK Tryz.prog 100 1 8 (.nilFunc):=⟨by kernel_rfl,by rfl,by decide,by decide⟩
instance:bP Tryz.prog 101:=⟨by kernel_rfl,by kernel_rfl⟩
instance:ax Tryz.prog 101 (.nilFunc):=⟨by kernel_rfl⟩
instance:aK Tryz.prog 101 1 8 (.nilFunc):=⟨by kernel_rfl,by rfl,by decide,by decide⟩
instance:bP Tryz.prog 102:=⟨by kernel_rfl,by kernel_rfl⟩
instance:ax Tryz.prog 102 (.nilFunc):=⟨by kernel_rfl⟩
instance:aK Tryz.prog 102 1 8 (.nilFunc):=⟨by kernel_rfl,by rfl,by decide,by decide⟩
instance:bP Tryz.prog 103:=⟨by kernel_rfl,by kernel_rfl⟩
instance:ax Tryz.prog 103 (.nilFunc):=⟨by kernel_rfl⟩
instance:aK Tryz.prog 103 1 8 (.nilFunc):=⟨by kernel_rfl,by rfl,by decide,by decide⟩
instance:bP Tryz.prog 104:=⟨by kernel_rfl,by kernel_rfl⟩
instance:ax Tryz.prog 104 (.nilFunc):=⟨by kernel_rfl⟩
instance:aK Tryz.prog 104 1 8 (.nilFunc):=⟨by kernel_rfl,by rfl,by decide,by decide⟩
instance:bP Tryz.prog 105:=⟨by kernel_rfl,by kernel_rfl⟩
instance:ax Tryz.prog 105 (.nilFunc):=⟨by kernel_rfl⟩
instance:aK Tryz.prog 105 1 8 (.nilFunc):=⟨by kernel_rfl,by rfl,by decide,by decide⟩
instance:bP Tryz.prog 106:=⟨by kernel_rfl,by kernel_rfl⟩
instance:ax Tryz.prog 106 (.nilFunc):=⟨by kernel_rfl⟩
instance:aK Tryz.prog 106 1 8 (.nilFunc):=⟨by kernel_rfl,by rfl,by decide,by decide⟩
instance:bP Tryz.prog 107:=⟨by kernel_rfl,by kernel_rfl⟩
instance:ax Tryz.prog 107 (.nilFunc):=⟨by kernel_rfl⟩
instance:aK Tryz.prog 107 1 8 (.nilFunc):=⟨by kernel_rfl,by rfl,by decide,by decide⟩
instance:bP Tryz.prog 108:=⟨by kernel_rfl,by kernel_rfl⟩
instance:ax Tryz.prog 108 (.nilFunc):=⟨by kernel_rfl⟩
instance:aK Tryz.prog 108 1 8 (.nilFunc):=⟨by kernel_rfl,by rfl,by decide,by decide⟩
instance:bP Tryz.prog 109:=⟨by kernel_rfl,by kernel_rfl⟩
instance:ax Tryz.prog 109 (.nilFunc):=⟨by kernel_rfl⟩
instance:aK Tryz.prog 109 1 8 (.nilFunc):=⟨by kernel_rfl,by rfl,by decide,by decide⟩
instance:bP Tryz.prog 110:=⟨by kernel_rfl,by kernel_rfl⟩
instance:ax Tryz.prog 110 (.nilFunc):=⟨by kernel_rfl⟩
instance:aK Tryz.prog 110 1 8 (.nilFunc):=⟨by kernel_rfl,by rfl,by decide,by decide⟩
instance:bP Tryz.prog 111:=⟨by kernel_rfl,by kernel_rfl⟩
instance:ax Tryz.prog 111 (.nilFunc):=⟨by kernel_rfl⟩
instance:aK Tryz.prog 111 1 8 (.nilFunc):=⟨by kernel_rfl,by rfl,by decide,by decide⟩
instance:bP Tryz.prog 112:=⟨by kernel_rfl,by kernel_rfl⟩
instance:ax Tryz.prog 112 (.nilFunc):=⟨by kernel_rfl⟩
instance:aK Tryz.prog 112 1 8 (.nilFunc):=⟨by kernel_rfl,by rfl,by decide,by decide⟩
instance:bP Tryz.prog 113:=⟨by kernel_rfl,by kernel_rfl⟩
instance:ax Tryz.prog 113 (.nilFunc):=⟨by kernel_rfl⟩
instance:aK Tryz.prog 113 1 8 (.nilFunc):=⟨by kernel_rfl,by rfl,by decide,by decide⟩
instance:bP Tryz.prog 114:=⟨by kernel_rfl,by kernel_rfl⟩
instance:ax Tryz.prog 114 (.nilFunc):=⟨by kernel_rfl⟩
instance:aK Tryz.prog 114 1 8 (.nilFunc):=⟨by kernel_rfl,by rfl,by decide,by decide⟩
instance:bP Tryz.prog 115:=⟨by kernel_rfl,by kernel_rfl⟩
instance:ax Tryz.prog 115 (.nilFunc):=⟨by kernel_rfl⟩
instance:aK Tryz.prog 115 1 8 (.nilFunc):=⟨by kernel_rfl,by rfl,by decide,by decide⟩
instance:bP Tryz.prog 116:=⟨by kernel_rfl,by kernel_rfl⟩
instance:ax Tryz.prog 116 (.nilFunc):=⟨by kernel_rfl⟩
instance:aK Tryz.prog 116 1 8 (.nilFunc):=⟨by kernel_rfl,by rfl,by decide,by decide⟩
instance:bP Tryz.prog 117:=⟨by kernel_rfl,by kernel_rfl⟩
instance:ax Tryz.prog 117 (.slice none 0 0):=⟨by kernel_rfl⟩
instance:aK Tryz.prog 117 1 24 (.slice none 0 0):=⟨by kernel_rfl,by rfl,by decide,by decide⟩
instance:eA Tryz.prog 117 2 1:=⟨by kernel_rfl,by kernel_rfl⟩
instance:bP Tryz.prog 118:=⟨by kernel_rfl,by kernel_rfl⟩
instance:ax Tryz.prog 118 (.nilFunc):=⟨by kernel_rfl⟩
instance:aK Tryz.prog 118 1 8 (.nilFunc):=⟨by kernel_rfl,by rfl,by decide,by decide⟩
instance:bP Tryz.prog 119:=⟨by kernel_rfl,by kernel_rfl⟩
instance:ax Tryz.prog 119 (.nilFunc):=⟨by kernel_rfl⟩
instance:aK Tryz.prog 119 1 8 (.nilFunc):=⟨by kernel_rfl,by rfl,by decide,by decide⟩
instance:bP Tryz.prog 120:=⟨by kernel_rfl,by kernel_rfl⟩
instance:ax Tryz.prog 120 (.nilFunc):=⟨by kernel_rfl⟩
instance:aK Tryz.prog 120 1 8 (.nilFunc):=⟨by kernel_rfl,by rfl,by decide,by decide⟩
instance:bP Tryz.prog 122:=⟨by kernel_rfl,by kernel_rfl⟩
instance:ax Tryz.prog 122 (.nilFunc):=⟨by kernel_rfl⟩
instance:aK Tryz.prog 122 1 8 (.nilFunc):=⟨by kernel_rfl,by rfl,by decide,by decide⟩
instance:iO Tryz.prog 123 1:=⟨by kernel_rfl,by kernel_rfl⟩
instance:fC Tryz.prog 123:=⟨fun w=>⟨0,iO.size (T:=123) (n:=1) w⟩⟩
instance:ax Tryz.prog 123 (.agg #[.nilFunc]):=⟨by kernel_rfl⟩
instance:aK Tryz.prog 123 1 8 (.agg #[.nilFunc]):=⟨by kernel_rfl,by rfl,by decide,by decide⟩
instance:bK Tryz.prog 123 [(0,1)] [.nilFunc]:=⟨by kernel_rfl,by kernel_rfl,by rfl⟩
instance:fG Tryz.prog 123 0 0 89:=⟨by kernel_rfl⟩
instance:iO Tryz.prog 124 1:=⟨by kernel_rfl,by kernel_rfl⟩
instance:fC Tryz.prog 124:=⟨fun w=>⟨0,iO.size (T:=124) (n:=1) w⟩⟩
instance:ax Tryz.prog 124 (.agg #[.nilFunc]):=⟨by kernel_rfl⟩
instance:aK Tryz.prog 124 1 8 (.agg #[.nilFunc]):=⟨by kernel_rfl,by rfl,by decide,by decide⟩
instance:bK Tryz.prog 124 [(0,1)] [.nilFunc]:=⟨by kernel_rfl,by kernel_rfl,by rfl⟩
instance:fG Tryz.prog 124 0 0 89:=⟨by kernel_rfl⟩
instance:bP Tryz.prog 125:=⟨by kernel_rfl,by kernel_rfl⟩
instance:ax Tryz.prog 125 (.nilFunc):=⟨by kernel_rfl⟩
instance:aK Tryz.prog 125 1 8 (.nilFunc):=⟨by kernel_rfl,by rfl,by decide,by decide⟩
instance:bP Tryz.prog 126:=⟨by kernel_rfl,by kernel_rfl⟩
instance:ax Tryz.prog 126 (.nilFunc):=⟨by kernel_rfl⟩
instance:aK Tryz.prog 126 1 8 (.nilFunc):=⟨by kernel_rfl,by rfl,by decide,by decide⟩
instance:bP Tryz.prog 127:=⟨by kernel_rfl,by kernel_rfl⟩
instance:ax Tryz.prog 127 (.nilFunc):=⟨by kernel_rfl⟩
instance:aK Tryz.prog 127 1 8 (.nilFunc):=⟨by kernel_rfl,by rfl,by decide,by decide⟩
instance:iw Tryz.prog 128 .u64:=⟨by kernel_rfl⟩
instance:bP Tryz.prog 128:=⟨by kernel_rfl,by kernel_rfl⟩
instance:ax Tryz.prog 128 (.int .u64 0):=⟨by kernel_rfl⟩
instance:aK Tryz.prog 128 1 8 (.int .u64 0):=⟨by kernel_rfl,by rfl,by decide,by decide⟩
instance:bP Tryz.prog 129:=⟨by kernel_rfl,by kernel_rfl⟩
instance:ax Tryz.prog 129 (.nilFunc):=⟨by kernel_rfl⟩
instance:aK Tryz.prog 129 1 8 (.nilFunc):=⟨by kernel_rfl,by rfl,by decide,by decide⟩
instance:iw Tryz.prog 130 .u32:=⟨by kernel_rfl⟩
instance:bP Tryz.prog 130:=⟨by kernel_rfl,by kernel_rfl⟩
instance:ax Tryz.prog 130 (.int .u32 0):=⟨by kernel_rfl⟩
instance:aK Tryz.prog 130 1 4 (.int .u32 0):=⟨by kernel_rfl,by rfl,by decide,by decide⟩
instance:bP Tryz.prog 131:=⟨by kernel_rfl,by kernel_rfl⟩
instance:ax Tryz.prog 131 (.nilFunc):=⟨by kernel_rfl⟩
instance:aK Tryz.prog 131 1 8 (.nilFunc):=⟨by kernel_rfl,by rfl,by decide,by decide⟩
instance:bP Tryz.prog 132:=⟨by kernel_rfl,by kernel_rfl⟩
instance:ax Tryz.prog 132 (.nilFunc):=⟨by kernel_rfl⟩
instance:aK Tryz.prog 132 1 8 (.nilFunc):=⟨by kernel_rfl,by rfl,by decide,by decide⟩
instance:bP Tryz.prog 133:=⟨by kernel_rfl,by kernel_rfl⟩
instance:ax Tryz.prog 133 (.nilFunc):=⟨by kernel_rfl⟩
instance:aK Tryz.prog 133 1 8 (.nilFunc):=⟨by kernel_rfl,by rfl,by decide,by decide⟩
instance:bP Tryz.prog 134:=⟨by kernel_rfl,by kernel_rfl⟩
instance:ax Tryz.prog 134 (.nilFunc):=⟨by kernel_rfl⟩
instance:aK Tryz.prog 134 1 8 (.nilFunc):=⟨by kernel_rfl,by rfl,by decide,by decide⟩
instance:bP Tryz.prog 136:=⟨by kernel_rfl,by kernel_rfl⟩
instance:ax Tryz.prog 136 (.nilFunc):=⟨by kernel_rfl⟩
instance:aK Tryz.prog 136 1 8 (.nilFunc):=⟨by kernel_rfl,by rfl,by decide,by decide⟩
instance:bP Tryz.prog 137:=⟨by kernel_rfl,by kernel_rfl⟩
instance:ax Tryz.prog 137 (.nilFunc):=⟨by kernel_rfl⟩
instance:aK Tryz.prog 137 1 8 (.nilFunc):=⟨by kernel_rfl,by rfl,by decide,by decide⟩
instance:bP Tryz.prog 138:=⟨by kernel_rfl,by kernel_rfl⟩
instance:ax Tryz.prog 138 (.nilFunc):=⟨by kernel_rfl⟩
instance:aK Tryz.prog 138 1 8 (.nilFunc):=⟨by kernel_rfl,by rfl,by decide,by decide⟩
instance:bP Tryz.prog 140:=⟨by kernel_rfl,by kernel_rfl⟩
instance:ax Tryz.prog 140 (.nilFunc):=⟨by kernel_rfl⟩
instance:aK Tryz.prog 140 1 8 (.nilFunc):=⟨by kernel_rfl,by rfl,by decide,by decide⟩
instance:bP Tryz.prog 141:=⟨by kernel_rfl,by kernel_rfl⟩
instance:ax Tryz.prog 141 (.nilFunc):=⟨by kernel_rfl⟩
instance:aK Tryz.prog 141 1 8 (.nilFunc):=⟨by kernel_rfl,by rfl,by decide,by decide⟩
instance:bP Tryz.prog 142:=⟨by kernel_rfl,by kernel_rfl⟩
instance:ax Tryz.prog 142 (.nilFunc):=⟨by kernel_rfl⟩
instance:aK Tryz.prog 142 1 8 (.nilFunc):=⟨by kernel_rfl,by rfl,by decide,by decide⟩
instance:bP Tryz.prog 143:=⟨by kernel_rfl,by kernel_rfl⟩
instance:ax Tryz.prog 143 (.nilFunc):=⟨by kernel_rfl⟩
instance:aK Tryz.prog 143 1 8 (.nilFunc):=⟨by kernel_rfl,by rfl,by decide,by decide⟩
instance:bP Tryz.prog 144:=⟨by kernel_rfl,by kernel_rfl⟩
instance:ax Tryz.prog 144 (.nilFunc):=⟨by kernel_rfl⟩
instance:aK Tryz.prog 144 1 8 (.nilFunc):=⟨by kernel_rfl,by rfl,by decide,by decide⟩
instance:bP Tryz.prog 145:=⟨by kernel_rfl,by kernel_rfl⟩
instance:ax Tryz.prog 145 (.nilFunc):=⟨by kernel_rfl⟩
instance:aK Tryz.prog 145 1 8 (.nilFunc):=⟨by kernel_rfl,by rfl,by decide,by decide⟩
instance:bP Tryz.prog 146:=⟨by kernel_rfl,by kernel_rfl⟩
instance:ax Tryz.prog 146 (.nilFunc):=⟨by kernel_rfl⟩
instance:aK Tryz.prog 146 1 8 (.nilFunc):=⟨by kernel_rfl,by rfl,by decide,by decide⟩
instance:bP Tryz.prog 147:=⟨by kernel_rfl,by kernel_rfl⟩
instance:ax Tryz.prog 147 (.nilFunc):=⟨by kernel_rfl⟩
instance:aK Tryz.prog 147 1 8 (.nilFunc):=⟨by kernel_rfl,by rfl,by decide,by decide⟩
instance:bP Tryz.prog 149:=⟨by kernel_rfl,by kernel_rfl⟩
instance:ax Tryz.prog 149 (.nilFunc):=⟨by kernel_rfl⟩
instance:aK Tryz.prog 149 1 8 (.nilFunc):=⟨by kernel_rfl,by rfl,by decide,by decide⟩
instance:bP Tryz.prog 150:=⟨by kernel_rfl,by kernel_rfl⟩
instance:ax Tryz.prog 150 (.nilFunc):=⟨by kernel_rfl⟩
instance:aK Tryz.prog 150 1 8 (.nilFunc):=⟨by kernel_rfl,by rfl,by decide,by decide⟩
instance:bP Tryz.prog 151:=⟨by kernel_rfl,by kernel_rfl⟩
instance:ax Tryz.prog 151 (.nilFunc):=⟨by kernel_rfl⟩
instance:aK Tryz.prog 151 1 8 (.nilFunc):=⟨by kernel_rfl,by rfl,by decide,by decide⟩
instance:bP Tryz.prog 152:=⟨by kernel_rfl,by kernel_rfl⟩
instance:ax Tryz.prog 152 (.nilFunc):=⟨by kernel_rfl⟩
instance:aK Tryz.prog 152 1 8 (.nilFunc):=⟨by kernel_rfl,by rfl,by decide,by decide⟩
instance:bP Tryz.prog 153:=⟨by kernel_rfl,by kernel_rfl⟩
instance:ax Tryz.prog 153 (.nilFunc):=⟨by kernel_rfl⟩
instance:aK Tryz.prog 153 1 8 (.nilFunc):=⟨by kernel_rfl,by rfl,by decide,by decide⟩
instance:bP Tryz.prog 154:=⟨by kernel_rfl,by kernel_rfl⟩
instance:ax Tryz.prog 154 (.nilFunc):=⟨by kernel_rfl⟩
instance:aK Tryz.prog 154 1 8 (.nilFunc):=⟨by kernel_rfl,by rfl,by decide,by decide⟩
instance:bP Tryz.prog 155:=⟨by kernel_rfl,by kernel_rfl⟩
instance:ax Tryz.prog 155 (.slice none 0 0):=⟨by kernel_rfl⟩
instance:aK Tryz.prog 155 1 24 (.slice none 0 0):=⟨by kernel_rfl,by rfl,by decide,by decide⟩
instance:eA Tryz.prog 155 22 1:=⟨by kernel_rfl,by kernel_rfl⟩
instance:bP Tryz.prog 156:=⟨by kernel_rfl,by kernel_rfl⟩
instance:ax Tryz.prog 156 (.slice none 0 0):=⟨by kernel_rfl⟩
instance:aK Tryz.prog 156 1 24 (.slice none 0 0):=⟨by kernel_rfl,by rfl,by decide,by decide⟩
instance:eA Tryz.prog 156 117 1:=⟨by kernel_rfl,by kernel_rfl⟩
instance:bP Tryz.prog 157:=⟨by kernel_rfl,by kernel_rfl⟩
instance:ax Tryz.prog 157 (.nilFunc):=⟨by kernel_rfl⟩
instance:aK Tryz.prog 157 1 8 (.nilFunc):=⟨by kernel_rfl,by rfl,by decide,by decide⟩
instance:bP Tryz.prog 158:=⟨by kernel_rfl,by kernel_rfl⟩
instance:ax Tryz.prog 158 (.nilFunc):=⟨by kernel_rfl⟩
instance:aK Tryz.prog 158 1 8 (.nilFunc):=⟨by kernel_rfl,by rfl,by decide,by decide⟩
instance:bP Tryz.prog 159:=⟨by kernel_rfl,by kernel_rfl⟩
instance:ax Tryz.prog 159 (.nilFunc):=⟨by kernel_rfl⟩
instance:aK Tryz.prog 159 1 8 (.nilFunc):=⟨by kernel_rfl,by rfl,by decide,by decide⟩
instance:bP Tryz.prog 160:=⟨by kernel_rfl,by kernel_rfl⟩
instance:ax Tryz.prog 160 (.nilFunc):=⟨by kernel_rfl⟩
instance:aK Tryz.prog 160 1 8 (.nilFunc):=⟨by kernel_rfl,by rfl,by decide,by decide⟩
instance:bP Tryz.prog 161:=⟨by kernel_rfl,by kernel_rfl⟩
instance:ax Tryz.prog 161 (.nilFunc):=⟨by kernel_rfl⟩
instance:aK Tryz.prog 161 1 8 (.nilFunc):=⟨by kernel_rfl,by rfl,by decide,by decide⟩
instance:bP Tryz.prog 162:=⟨by kernel_rfl,by kernel_rfl⟩
instance:ax Tryz.prog 162 (.nilFunc):=⟨by kernel_rfl⟩
instance:aK Tryz.prog 162 1 8 (.nilFunc):=⟨by kernel_rfl,by rfl,by decide,by decide⟩
instance:bP Tryz.prog 164:=⟨by kernel_rfl,by kernel_rfl⟩
instance:ax Tryz.prog 164 (.nilFunc):=⟨by kernel_rfl⟩
instance:aK Tryz.prog 164 1 8 (.nilFunc):=⟨by kernel_rfl,by rfl,by decide,by decide⟩
instance:bP Tryz.prog 165:=⟨by kernel_rfl,by kernel_rfl⟩
instance:ax Tryz.prog 165 (.nilFunc):=⟨by kernel_rfl⟩
instance:aK Tryz.prog 165 1 8 (.nilFunc):=⟨by kernel_rfl,by rfl,by decide,by decide⟩
instance:bP Tryz.prog 166:=⟨by kernel_rfl,by kernel_rfl⟩
instance:ax Tryz.prog 166 (.nilFunc):=⟨by kernel_rfl⟩
instance:aK Tryz.prog 166 1 8 (.nilFunc):=⟨by kernel_rfl,by rfl,by decide,by decide⟩
instance:bP Tryz.prog 167:=⟨by kernel_rfl,by kernel_rfl⟩
instance:ax Tryz.prog 167 (.slice none 0 0):=⟨by kernel_rfl⟩
instance:aK Tryz.prog 167 1 24 (.slice none 0 0):=⟨by kernel_rfl,by rfl,by decide,by decide⟩
instance:eA Tryz.prog 167 41 2:=⟨by kernel_rfl,by kernel_rfl⟩
instance:bP Tryz.prog 168:=⟨by kernel_rfl,by kernel_rfl⟩
instance:ax Tryz.prog 168 (.nilFunc):=⟨by kernel_rfl⟩
instance:aK Tryz.prog 168 1 8 (.nilFunc):=⟨by kernel_rfl,by rfl,by decide,by decide⟩
instance:bP Tryz.prog 169:=⟨by kernel_rfl,by kernel_rfl⟩
instance:ax Tryz.prog 169 (.nilFunc):=⟨by kernel_rfl⟩
instance:aK Tryz.prog 169 1 8 (.nilFunc):=⟨by kernel_rfl,by rfl,by decide,by decide⟩
instance:bP Tryz.prog 170:=⟨by kernel_rfl,by kernel_rfl⟩
instance:ax Tryz.prog 170 (.nilFunc):=⟨by kernel_rfl⟩
instance:aK Tryz.prog 170 1 8 (.nilFunc):=⟨by kernel_rfl,by rfl,by decide,by decide⟩
instance:bP Tryz.prog 171:=⟨by kernel_rfl,by kernel_rfl⟩
instance:ax Tryz.prog 171 (.nilFunc):=⟨by kernel_rfl⟩
instance:aK Tryz.prog 171 1 8 (.nilFunc):=⟨by kernel_rfl,by rfl,by decide,by decide⟩
instance:bP Tryz.prog 173:=⟨by kernel_rfl,by kernel_rfl⟩
instance:ax Tryz.prog 173 (.nilFunc):=⟨by kernel_rfl⟩
instance:aK Tryz.prog 173 1 8 (.nilFunc):=⟨by kernel_rfl,by rfl,by decide,by decide⟩
instance:bP Tryz.prog 174:=⟨by kernel_rfl,by kernel_rfl⟩
instance:ax Tryz.prog 174 (.nilFunc):=⟨by kernel_rfl⟩
instance:aK Tryz.prog 174 1 8 (.nilFunc):=⟨by kernel_rfl,by rfl,by decide,by decide⟩
instance:iO Tryz.prog 175 1:=⟨by kernel_rfl,by kernel_rfl⟩
instance:fC Tryz.prog 175:=⟨fun w=>⟨0,iO.size (T:=175) (n:=1) w⟩⟩
instance:ax Tryz.prog 175 (.agg #[.nilFunc]):=⟨by kernel_rfl⟩
instance:aK Tryz.prog 175 1 8 (.agg #[.nilFunc]):=⟨by kernel_rfl,by rfl,by decide,by decide⟩
instance:bK Tryz.prog 175 [(0,1)] [.nilFunc]:=⟨by kernel_rfl,by kernel_rfl,by rfl⟩
instance:fG Tryz.prog 175 0 0 174:=⟨by kernel_rfl⟩
instance:iO Tryz.prog 176 1:=⟨by kernel_rfl,by kernel_rfl⟩
instance:fC Tryz.prog 176:=⟨fun w=>⟨0,iO.size (T:=176) (n:=1) w⟩⟩
instance:ax Tryz.prog 176 (.agg #[.nilFunc]):=⟨by kernel_rfl⟩
instance:aK Tryz.prog 176 1 8 (.agg #[.nilFunc]):=⟨by kernel_rfl,by rfl,by decide,by decide⟩
instance:bK Tryz.prog 176 [(0,1)] [.nilFunc]:=⟨by kernel_rfl,by kernel_rfl,by rfl⟩
instance:fG Tryz.prog 176 0 0 174:=⟨by kernel_rfl⟩
instance:bP Tryz.prog 177:=⟨by kernel_rfl,by kernel_rfl⟩
instance:ax Tryz.prog 177 (.map none):=⟨by kernel_rfl⟩
instance:aK Tryz.prog 177 1 8 (.map none):=⟨by kernel_rfl,by rfl,by decide,by decide⟩
instance:JU Tryz.prog 177 5 176:=⟨by kernel_rfl⟩
instance:bP Tryz.prog 178:=⟨by kernel_rfl,by kernel_rfl⟩
instance:ax Tryz.prog 178 (.nilFunc):=⟨by kernel_rfl⟩
instance:aK Tryz.prog 178 1 8 (.nilFunc):=⟨by kernel_rfl,by rfl,by decide,by decide⟩
instance:iw Tryz.prog 179 .u64:=⟨by kernel_rfl⟩
instance:bP Tryz.prog 179:=⟨by kernel_rfl,by kernel_rfl⟩
instance:ax Tryz.prog 179 (.int .u64 0):=⟨by kernel_rfl⟩
instance:aK Tryz.prog 179 1 8 (.int .u64 0):=⟨by kernel_rfl,by rfl,by decide,by decide⟩
instance:bP Tryz.prog 181:=⟨by kernel_rfl,by kernel_rfl⟩
instance:ax Tryz.prog 181 (.nilFunc):=⟨by kernel_rfl⟩
instance:aK Tryz.prog 181 1 8 (.nilFunc):=⟨by kernel_rfl,by rfl,by decide,by decide⟩
instance:bP Tryz.prog 182:=⟨by kernel_rfl,by kernel_rfl⟩
instance:ax Tryz.prog 182 (.nilFunc):=⟨by kernel_rfl⟩
instance:aK Tryz.prog 182 1 8 (.nilFunc):=⟨by kernel_rfl,by rfl,by decide,by decide⟩
instance:bP Tryz.prog 183:=⟨by kernel_rfl,by kernel_rfl⟩
instance:ax Tryz.prog 183 (.nilFunc):=⟨by kernel_rfl⟩
instance:aK Tryz.prog 183 1 8 (.nilFunc):=⟨by kernel_rfl,by rfl,by decide,by decide⟩
instance:bP Tryz.prog 184:=⟨by kernel_rfl,by kernel_rfl⟩
instance:ax Tryz.prog 184 (.nilFunc):=⟨by kernel_rfl⟩
instance:aK Tryz.prog 184 1 8 (.nilFunc):=⟨by kernel_rfl,by rfl,by decide,by decide⟩
instance:bP Tryz.prog 185:=⟨by kernel_rfl,by kernel_rfl⟩
instance:ax Tryz.prog 185 (.nilFunc):=⟨by kernel_rfl⟩
instance:aK Tryz.prog 185 1 8 (.nilFunc):=⟨by kernel_rfl,by rfl,by decide,by decide⟩
instance:bP Tryz.prog 186:=⟨by kernel_rfl,by kernel_rfl⟩
instance:ax Tryz.prog 186 (.nilFunc):=⟨by kernel_rfl⟩
instance:aK Tryz.prog 186 1 8 (.nilFunc):=⟨by kernel_rfl,by rfl,by decide,by decide⟩
instance:bP Tryz.prog 187:=⟨by kernel_rfl,by kernel_rfl⟩
instance:ax Tryz.prog 187 (.nilFunc):=⟨by kernel_rfl⟩
instance:aK Tryz.prog 187 1 8 (.nilFunc):=⟨by kernel_rfl,by rfl,by decide,by decide⟩
instance:bP Tryz.prog 189:=⟨by kernel_rfl,by kernel_rfl⟩
instance:ax Tryz.prog 189 (.nilFunc):=⟨by kernel_rfl⟩
instance:aK Tryz.prog 189 1 8 (.nilFunc):=⟨by kernel_rfl,by rfl,by decide,by decide⟩
instance:bP Tryz.prog 191:=⟨by kernel_rfl,by kernel_rfl⟩
instance:ax Tryz.prog 191 (.nilFunc):=⟨by kernel_rfl⟩
instance:aK Tryz.prog 191 1 8 (.nilFunc):=⟨by kernel_rfl,by rfl,by decide,by decide⟩
instance:bP Tryz.prog 192:=⟨by kernel_rfl,by kernel_rfl⟩
instance:ax Tryz.prog 192 (.nilFunc):=⟨by kernel_rfl⟩
instance:aK Tryz.prog 192 1 8 (.nilFunc):=⟨by kernel_rfl,by rfl,by decide,by decide⟩
instance:bP Tryz.prog 193:=⟨by kernel_rfl,by kernel_rfl⟩
instance:ax Tryz.prog 193 (.nilFunc):=⟨by kernel_rfl⟩
instance:aK Tryz.prog 193 1 8 (.nilFunc):=⟨by kernel_rfl,by rfl,by decide,by decide⟩
instance:bP Tryz.prog 194:=⟨by kernel_rfl,by kernel_rfl⟩
instance:ax Tryz.prog 194 (.nilFunc):=⟨by kernel_rfl⟩
instance:aK Tryz.prog 194 1 8 (.nilFunc):=⟨by kernel_rfl,by rfl,by decide,by decide⟩
instance:bP Tryz.prog 195:=⟨by kernel_rfl,by kernel_rfl⟩
instance:ax Tryz.prog 195 (.nilFunc):=⟨by kernel_rfl⟩
instance:aK Tryz.prog 195 1 8 (.nilFunc):=⟨by kernel_rfl,by rfl,by decide,by decide⟩
instance:bP Tryz.prog 196:=⟨by kernel_rfl,by kernel_rfl⟩
instance:ax Tryz.prog 196 (.nilFunc):=⟨by kernel_rfl⟩
instance:aK Tryz.prog 196 1 8 (.nilFunc):=⟨by kernel_rfl,by rfl,by decide,by decide⟩
instance:bP Tryz.prog 197:=⟨by kernel_rfl,by kernel_rfl⟩
instance:ax Tryz.prog 197 (.nilFunc):=⟨by kernel_rfl⟩
instance:aK Tryz.prog 197 1 8 (.nilFunc):=⟨by kernel_rfl,by rfl,by decide,by decide⟩
instance:bP Tryz.prog 198:=⟨by kernel_rfl,by kernel_rfl⟩
instance:ax Tryz.prog 198 (.nilFunc):=⟨by kernel_rfl⟩
instance:aK Tryz.prog 198 1 8 (.nilFunc):=⟨by kernel_rfl,by rfl,by decide,by decide⟩
instance:bP Tryz.prog 199:=⟨by kernel_rfl,by kernel_rfl⟩
instance:ax Tryz.prog 199 (.nilFunc):=⟨by kernel_rfl⟩
instance:aK Tryz.prog 199 1 8 (.nilFunc):=⟨by kernel_rfl,by rfl,by decide,by decide⟩
instance:bP Tryz.prog 200:=⟨by kernel_rfl,by kernel_rfl⟩
instance:ax Tryz.prog 200 (.nilFunc):=⟨by kernel_rfl⟩
instance:aK Tryz.prog 200 1 8 (.nilFunc):=⟨by kernel_rfl,by rfl,by decide,by decide⟩
instance:bP Tryz.prog 201:=⟨by kernel_rfl,by kernel_rfl⟩
instance:ax Tryz.prog 201 (.nilFunc):=⟨by kernel_rfl⟩
instance:aK Tryz.prog 201 1 8 (.nilFunc):=⟨by kernel_rfl,by rfl,by decide,by decide⟩
instance:bP Tryz.prog 202:=⟨by kernel_rfl,by kernel_rfl⟩
instance:ax Tryz.prog 202 (.nilFunc):=⟨by kernel_rfl⟩
instance:aK Tryz.prog 202 1 8 (.nilFunc):=⟨by kernel_rfl,by rfl,by decide,by decide⟩
instance:bP Tryz.prog 203:=⟨by kernel_rfl,by kernel_rfl⟩
instance:ax Tryz.prog 203 (.nilFunc):=⟨by kernel_rfl⟩
instance:aK Tryz.prog 203 1 8 (.nilFunc):=⟨by kernel_rfl,by rfl,by decide,by decide⟩
instance:bP Tryz.prog 204:=⟨by kernel_rfl,by kernel_rfl⟩
instance:ax Tryz.prog 204 (.nilFunc):=⟨by kernel_rfl⟩
instance:aK Tryz.prog 204 1 8 (.nilFunc):=⟨by kernel_rfl,by rfl,by decide,by decide⟩
instance:bP Tryz.prog 205:=⟨by kernel_rfl,by kernel_rfl⟩
instance:ax Tryz.prog 205 (.nilFunc):=⟨by kernel_rfl⟩
instance:aK Tryz.prog 205 1 8 (.nilFunc):=⟨by kernel_rfl,by rfl,by decide,by decide⟩
instance:bP Tryz.prog 206:=⟨by kernel_rfl,by kernel_rfl⟩
instance:ax Tryz.prog 206 (.nilFunc):=⟨by kernel_rfl⟩
instance:aK Tryz.prog 206 1 8 (.nilFunc):=⟨by kernel_rfl,by rfl,by decide,by decide⟩
instance:bP Tryz.prog 207:=⟨by kernel_rfl,by kernel_rfl⟩
instance:ax Tryz.prog 207 (.nilFunc):=⟨by kernel_rfl⟩
instance:aK Tryz.prog 207 1 8 (.nilFunc):=⟨by kernel_rfl,by rfl,by decide,by decide⟩
instance:iO Tryz.prog 208 4:=⟨by kernel_rfl,by kernel_rfl⟩
instance:fC Tryz.prog 208:=⟨fun w=>⟨3,iO.size (T:=208) (n:=4) w⟩⟩
instance:ax Tryz.prog 208 (.agg #[.pointer none,.pointer none,.pointer none,.string (ByteArray.mk #[])]):=⟨by kernel_rfl⟩
instance:aK Tryz.prog 208 4 40 (.agg #[.pointer none,.pointer none,.pointer none,.string (ByteArray.mk #[])]):=⟨by kernel_rfl,by rfl,by decide,by decide⟩
instance:bK Tryz.prog 208 [(0,1),(1,1),(2,1),(3,1)] [.pointer none,.pointer none,.pointer none,.string (ByteArray.mk #[])]:=⟨by kernel_rfl,by kernel_rfl,by rfl⟩
instance:fG Tryz.prog 208 0 0 17:=⟨by kernel_rfl⟩
instance:fG Tryz.prog 208 1 1 17:=⟨by kernel_rfl⟩
instance:fG Tryz.prog 208 2 2 17:=⟨by kernel_rfl⟩
instance:fG Tryz.prog 208 3 3 9:=⟨by kernel_rfl⟩
instance:iO Tryz.prog 209 4:=⟨by kernel_rfl,by kernel_rfl⟩
instance:fC Tryz.prog 209:=⟨fun w=>⟨3,iO.size (T:=209) (n:=4) w⟩⟩
instance:ax Tryz.prog 209 (.agg #[.pointer none,.pointer none,.pointer none,.string (ByteArray.mk #[])]):=⟨by kernel_rfl⟩
instance:aK Tryz.prog 209 4 40 (.agg #[.pointer none,.pointer none,.pointer none,.string (ByteArray.mk #[])]):=⟨by kernel_rfl,by rfl,by decide,by decide⟩
instance:bK Tryz.prog 209 [(0,1),(1,1),(2,1),(3,1)] [.pointer none,.pointer none,.pointer none,.string (ByteArray.mk #[])]:=⟨by kernel_rfl,by kernel_rfl,by rfl⟩
instance:fG Tryz.prog 209 0 0 17:=⟨by kernel_rfl⟩
instance:fG Tryz.prog 209 1 1 17:=⟨by kernel_rfl⟩
instance:fG Tryz.prog 209 2 2 17:=⟨by kernel_rfl⟩
instance:fG Tryz.prog 209 3 3 9:=⟨by kernel_rfl⟩
instance:iO Tryz.prog 210 0:=⟨by kernel_rfl,by kernel_rfl⟩
instance:ax Tryz.prog 210 (.agg #[]):=⟨by kernel_rfl⟩
instance:iO Tryz.prog 211 0:=⟨by kernel_rfl,by kernel_rfl⟩
instance:ax Tryz.prog 211 (.agg #[]):=⟨by kernel_rfl⟩
instance:bK Tryz.prog 211 [(0,0)] []:=⟨by kernel_rfl,by kernel_rfl,by rfl⟩
instance:fG Tryz.prog 211 0 0 210:=⟨by kernel_rfl⟩
instance:iO Tryz.prog 212 0:=⟨by kernel_rfl,by kernel_rfl⟩
instance:ax Tryz.prog 212 (.agg #[]):=⟨by kernel_rfl⟩
instance:bK Tryz.prog 212 [(0,0)] []:=⟨by kernel_rfl,by kernel_rfl,by rfl⟩
instance:fG Tryz.prog 212 0 0 210:=⟨by kernel_rfl⟩
instance:iw Tryz.prog 213 .u8:=⟨by kernel_rfl⟩
instance:bP Tryz.prog 213:=⟨by kernel_rfl,by kernel_rfl⟩
instance:ax Tryz.prog 213 (.int .u8 0):=⟨by kernel_rfl⟩
instance:aK Tryz.prog 213 1 1 (.int .u8 0):=⟨by kernel_rfl,by rfl,by decide,by decide⟩
instance:iw Tryz.prog 214 .u8:=⟨by kernel_rfl⟩
instance:bP Tryz.prog 214:=⟨by kernel_rfl,by kernel_rfl⟩
instance:ax Tryz.prog 214 (.int .u8 0):=⟨by kernel_rfl⟩
instance:aK Tryz.prog 214 1 1 (.int .u8 0):=⟨by kernel_rfl,by rfl,by decide,by decide⟩
instance:bP Tryz.prog 215:=⟨by kernel_rfl,by kernel_rfl⟩
instance:ax Tryz.prog 215 (.nilFunc):=⟨by kernel_rfl⟩
instance:aK Tryz.prog 215 1 8 (.nilFunc):=⟨by kernel_rfl,by rfl,by decide,by decide⟩
instance:bP Tryz.prog 216:=⟨by kernel_rfl,by kernel_rfl⟩
instance:ax Tryz.prog 216 (.pointer none):=⟨by kernel_rfl⟩
instance:aK Tryz.prog 216 1 8 (.pointer none):=⟨by kernel_rfl,by rfl,by decide,by decide⟩
instance:iw Tryz.prog 217 .i32:=⟨by kernel_rfl⟩
instance:bP Tryz.prog 217:=⟨by kernel_rfl,by kernel_rfl⟩
instance:ax Tryz.prog 217 (.int .i32 0):=⟨by kernel_rfl⟩
instance:aK Tryz.prog 217 1 4 (.int .i32 0):=⟨by kernel_rfl,by rfl,by decide,by decide⟩
instance:iw Tryz.prog 218 .i32:=⟨by kernel_rfl⟩
instance:bP Tryz.prog 218:=⟨by kernel_rfl,by kernel_rfl⟩
instance:ax Tryz.prog 218 (.int .i32 0):=⟨by kernel_rfl⟩
instance:aK Tryz.prog 218 1 4 (.int .i32 0):=⟨by kernel_rfl,by rfl,by decide,by decide⟩
instance:iO Tryz.prog 219 11:=⟨by kernel_rfl,by kernel_rfl⟩
instance:fC Tryz.prog 219:=⟨fun w=>⟨10,iO.size (T:=219) (n:=11) w⟩⟩
instance:ax Tryz.prog 219 (.agg #[.int .u64 0,.int .u64 0,.int .u32 0,.int .u8 0,.int .u8 0,.int .u8 0,.int .u8 0,.nilFunc,.pointer none,.int .i32 0,.int .i32 0]):=⟨by kernel_rfl⟩
instance:aK Tryz.prog 219 11 48 (.agg #[.int .u64 0,.int .u64 0,.int .u32 0,.int .u8 0,.int .u8 0,.int .u8 0,.int .u8 0,.nilFunc,.pointer none,.int .i32 0,.int .i32 0]):=⟨by kernel_rfl,by rfl,by decide,by decide⟩
instance:bK Tryz.prog 219 [(0,1),(1,1),(2,1),(3,1),(4,1),(5,1),(6,1),(7,1),(8,1),(9,1),(10,1)] [.int .u64 0,.int .u64 0,.int .u32 0,.int .u8 0,.int .u8 0,.int .u8 0,.int .u8 0,.nilFunc,.pointer none,.int .i32 0,.int .i32 0]:=⟨by kernel_rfl,by kernel_rfl,by rfl⟩
instance:fG Tryz.prog 219 0 0 12:=⟨by kernel_rfl⟩
instance:fG Tryz.prog 219 1 1 12:=⟨by kernel_rfl⟩
instance:fG Tryz.prog 219 2 2 130:=⟨by kernel_rfl⟩
instance:fG Tryz.prog 219 3 3 213:=⟨by kernel_rfl⟩
instance:fG Tryz.prog 219 4 4 5:=⟨by kernel_rfl⟩
instance:fG Tryz.prog 219 5 5 5:=⟨by kernel_rfl⟩
instance:fG Tryz.prog 219 6 6 214:=⟨by kernel_rfl⟩
instance:fG Tryz.prog 219 7 7 215:=⟨by kernel_rfl⟩
instance:fG Tryz.prog 219 8 8 216:=⟨by kernel_rfl⟩
instance:fG Tryz.prog 219 9 9 217:=⟨by kernel_rfl⟩
instance:fG Tryz.prog 219 10 10 218:=⟨by kernel_rfl⟩
instance:iO Tryz.prog 220 11:=⟨by kernel_rfl,by kernel_rfl⟩
instance:fC Tryz.prog 220:=⟨fun w=>⟨10,iO.size (T:=220) (n:=11) w⟩⟩
instance:ax Tryz.prog 220 (.agg #[.int .u64 0,.int .u64 0,.int .u32 0,.int .u8 0,.int .u8 0,.int .u8 0,.int .u8 0,.nilFunc,.pointer none,.int .i32 0,.int .i32 0]):=⟨by kernel_rfl⟩
instance:aK Tryz.prog 220 11 48 (.agg #[.int .u64 0,.int .u64 0,.int .u32 0,.int .u8 0,.int .u8 0,.int .u8 0,.int .u8 0,.nilFunc,.pointer none,.int .i32 0,.int .i32 0]):=⟨by kernel_rfl,by rfl,by decide,by decide⟩
instance:bK Tryz.prog 220 [(0,1),(1,1),(2,1),(3,1),(4,1),(5,1),(6,1),(7,1),(8,1),(9,1),(10,1)] [.int .u64 0,.int .u64 0,.int .u32 0,.int .u8 0,.int .u8 0,.int .u8 0,.int .u8 0,.nilFunc,.pointer none,.int .i32 0,.int .i32 0]:=⟨by kernel_rfl,by kernel_rfl,by rfl⟩
instance:fG Tryz.prog 220 0 0 12:=⟨by kernel_rfl⟩
instance:fG Tryz.prog 220 1 1 12:=⟨by kernel_rfl⟩
instance:fG Tryz.prog 220 2 2 130:=⟨by kernel_rfl⟩
instance:fG Tryz.prog 220 3 3 213:=⟨by kernel_rfl⟩
instance:fG Tryz.prog 220 4 4 5:=⟨by kernel_rfl⟩
instance:fG Tryz.prog 220 5 5 5:=⟨by kernel_rfl⟩
instance:fG Tryz.prog 220 6 6 214:=⟨by kernel_rfl⟩
instance:fG Tryz.prog 220 7 7 215:=⟨by kernel_rfl⟩
instance:fG Tryz.prog 220 8 8 216:=⟨by kernel_rfl⟩
instance:fG Tryz.prog 220 9 9 217:=⟨by kernel_rfl⟩
instance:fG Tryz.prog 220 10 10 218:=⟨by kernel_rfl⟩
instance:bP Tryz.prog 221:=⟨by kernel_rfl,by kernel_rfl⟩
instance:ax Tryz.prog 221 (.pointer none):=⟨by kernel_rfl⟩
instance:aK Tryz.prog 221 1 8 (.pointer none):=⟨by kernel_rfl,by rfl,by decide,by decide⟩
instance:bB Tryz.prog 3:=⟨by kernel_rfl⟩
instance:bB Tryz.prog 4:=⟨by kernel_rfl⟩
instance:bB Tryz.prog 5:=⟨by kernel_rfl⟩
instance:bB Tryz.prog 6:=⟨by kernel_rfl⟩
instance:bB Tryz.prog 7:=⟨by kernel_rfl⟩
instance:bB Tryz.prog 8:=⟨by kernel_rfl⟩
instance:bB Tryz.prog 9:=⟨by kernel_rfl⟩
instance:bB Tryz.prog 10:=⟨by kernel_rfl⟩
instance:bB Tryz.prog 11:=⟨by kernel_rfl⟩
instance:bB Tryz.prog 12:=⟨by kernel_rfl⟩
instance:bB Tryz.prog 13:=⟨by kernel_rfl⟩
instance:bB Tryz.prog 14:=⟨by kernel_rfl⟩
instance:bB Tryz.prog 15:=⟨by kernel_rfl⟩
instance:bB Tryz.prog 16:=⟨by kernel_rfl⟩
instance:bB Tryz.prog 17:=⟨by kernel_rfl⟩
instance:bB Tryz.prog 18:=⟨by kernel_rfl⟩
instance:bB Tryz.prog 19:=⟨by kernel_rfl⟩
instance:bB Tryz.prog 20:=⟨by kernel_rfl⟩
instance:bB Tryz.prog 21:=⟨by kernel_rfl⟩
instance:bB Tryz.prog 22:=⟨by kernel_rfl⟩
instance:bB Tryz.prog 23:=⟨by kernel_rfl⟩
instance:bB Tryz.prog 24:=⟨by kernel_rfl⟩
instance:bB Tryz.prog 25:=⟨by kernel_rfl⟩
instance:bB Tryz.prog 26:=⟨by kernel_rfl⟩
instance:bB Tryz.prog 27:=⟨by kernel_rfl⟩
instance:bB Tryz.prog 28:=⟨by kernel_rfl⟩
instance:bB Tryz.prog 29:=⟨by kernel_rfl⟩
instance:bB Tryz.prog 30:=⟨by kernel_rfl⟩
instance:bB Tryz.prog 31:=⟨by kernel_rfl⟩
instance:bB Tryz.prog 32:=⟨by kernel_rfl⟩
instance:bB Tryz.prog 33:=⟨by kernel_rfl⟩
instance:bB Tryz.prog 34:=⟨by kernel_rfl⟩
instance:bB Tryz.prog 35:=⟨by kernel_rfl⟩
instance:bB Tryz.prog 36:=⟨by kernel_rfl⟩
instance:bB Tryz.prog 37:=⟨by kernel_rfl⟩
instance:bB Tryz.prog 38:=⟨by kernel_rfl⟩
instance:bB Tryz.prog 39:=⟨by kernel_rfl⟩
instance:bB Tryz.prog 40:=⟨by kernel_rfl⟩
instance:bB Tryz.prog 41:=⟨by kernel_rfl⟩
instance:bB Tryz.prog 42:=⟨by kernel_rfl⟩
instance:bB Tryz.prog 43:=⟨by kernel_rfl⟩
instance:bB Tryz.prog 44:=⟨by kernel_rfl⟩
instance:bB Tryz.prog 45:=⟨by kernel_rfl⟩
instance:bB Tryz.prog 46:=⟨by kernel_rfl⟩
instance:bB Tryz.prog 47:=⟨by kernel_rfl⟩
instance:bB Tryz.prog 48:=⟨by kernel_rfl⟩
instance:bB Tryz.prog 49:=⟨by kernel_rfl⟩
instance:bB Tryz.prog 50:=⟨by kernel_rfl⟩
instance:bB Tryz.prog 51:=⟨by kernel_rfl⟩
instance:bB Tryz.prog 52:=⟨by kernel_rfl⟩
instance:bB Tryz.prog 53:=⟨by kernel_rfl⟩
instance:bB Tryz.prog 54:=⟨by kernel_rfl⟩
instance:bB Tryz.prog 55:=⟨by kernel_rfl⟩
instance:bB Tryz.prog 56:=⟨by kernel_rfl⟩
instance:bB Tryz.prog 57:=⟨by kernel_rfl⟩
instance:bB Tryz.prog 58:=⟨by kernel_rfl⟩
instance:bB Tryz.prog 59:=⟨by kernel_rfl⟩
instance:bB Tryz.prog 60:=⟨by kernel_rfl⟩
instance:bB Tryz.prog 61:=⟨by kernel_rfl⟩
instance:bB Tryz.prog 62:=⟨by kernel_rfl⟩
instance:bB Tryz.prog 63:=⟨by kernel_rfl⟩
instance:bB Tryz.prog 64:=⟨by kernel_rfl⟩
instance:bB Tryz.prog 65:=⟨by kernel_rfl⟩
instance:bB Tryz.prog 66:=⟨by kernel_rfl⟩
instance:bB Tryz.prog 67:=⟨by kernel_rfl⟩
instance:bB Tryz.prog 68:=⟨by kernel_rfl⟩
instance:bB Tryz.prog 69:=⟨by kernel_rfl⟩
instance:bB Tryz.prog 70:=⟨by kernel_rfl⟩
instance:bB Tryz.prog 71:=⟨by kernel_rfl⟩
instance:bB Tryz.prog 72:=⟨by kernel_rfl⟩
instance:bB Tryz.prog 73:=⟨by kernel_rfl⟩
instance:bB Tryz.prog 74:=⟨by kernel_rfl⟩
instance:bB Tryz.prog 75:=⟨by kernel_rfl⟩
instance:bB Tryz.prog 76:=⟨by kernel_rfl⟩
instance:bB Tryz.prog 77:=⟨by kernel_rfl⟩
instance:bB Tryz.prog 78:=⟨by kernel_rfl⟩
instance:bB Tryz.prog 79:=⟨by kernel_rfl⟩
instance:bB Tryz.prog 80:=⟨by kernel_rfl⟩
instance:bB Tryz.prog 81:=⟨by kernel_rfl⟩
instance:bB Tryz.prog 82:=⟨by kernel_rfl⟩
instance:bB Tryz.prog 83:=⟨by kernel_rfl⟩
instance:bB Tryz.prog 84:=⟨by kernel_rfl⟩
instance:bB Tryz.prog 85:=⟨by kernel_rfl⟩
instance:bB Tryz.prog 86:=⟨by kernel_rfl⟩
instance:bB Tryz.prog 87:=⟨by kernel_rfl⟩
instance:bB Tryz.prog 88:=⟨by kernel_rfl⟩
instance:bB Tryz.prog 89:=⟨by kernel_rfl⟩
instance:bB Tryz.prog 90:=⟨by kernel_rfl⟩
instance:bB Tryz.prog 91:=⟨by kernel_rfl⟩
instance:bB Tryz.prog 92:=⟨by kernel_rfl⟩
instance:bB Tryz.prog 93:=⟨by kernel_rfl⟩
instance:bB Tryz.prog 94:=⟨by kernel_rfl⟩
instance:bB Tryz.prog 95:=⟨by kernel_rfl⟩
instance:bB Tryz.prog 96:=⟨by kernel_rfl⟩
instance:bB Tryz.prog 97:=⟨by kernel_rfl⟩
instance:bB Tryz.prog 98:=⟨by kernel_rfl⟩
instance:bB Tryz.prog 99:=⟨by kernel_rfl⟩
instance:bB Tryz.prog 100:=⟨by kernel_rfl⟩
instance:bB Tryz.prog 101:=⟨by kernel_rfl⟩
instance:bB Tryz.prog 102:=⟨by kernel_rfl⟩
instance:bB Tryz.prog 103:=⟨by kernel_rfl⟩
instance:bB Tryz.prog 104:=⟨by kernel_rfl⟩
instance:bB Tryz.prog 105:=⟨by kernel_rfl⟩
instance:bB Tryz.prog 106:=⟨by kernel_rfl⟩
instance:bB Tryz.prog 107:=⟨by kernel_rfl⟩
instance:bB Tryz.prog 108:=⟨by kernel_rfl⟩
instance:bB Tryz.prog 109:=⟨by kernel_rfl⟩
instance:bB Tryz.prog 110:=⟨by kernel_rfl⟩
instance:bB Tryz.prog 111:=⟨by kernel_rfl⟩
instance:bB Tryz.prog 112:=⟨by kernel_rfl⟩
instance:bB Tryz.prog 113:=⟨by kernel_rfl⟩
instance:bB Tryz.prog 114:=⟨by kernel_rfl⟩
instance:bB Tryz.prog 115:=⟨by kernel_rfl⟩
instance:bB Tryz.prog 116:=⟨by kernel_rfl⟩
instance:bB Tryz.prog 117:=⟨by kernel_rfl⟩
instance:bB Tryz.prog 118:=⟨by kernel_rfl⟩
instance:bB Tryz.prog 119:=⟨by kernel_rfl⟩
instance:bB Tryz.prog 120:=⟨by kernel_rfl⟩
instance:bB Tryz.prog 121:=⟨by kernel_rfl⟩
instance:bB Tryz.prog 122:=⟨by kernel_rfl⟩
instance:bB Tryz.prog 123:=⟨by kernel_rfl⟩
instance:bB Tryz.prog 124:=⟨by kernel_rfl⟩
instance:bB Tryz.prog 125:=⟨by kernel_rfl⟩
instance:bB Tryz.prog 126:=⟨by kernel_rfl⟩
instance:bB Tryz.prog 127:=⟨by kernel_rfl⟩
instance:bB Tryz.prog 128:=⟨by kernel_rfl⟩
instance:bB Tryz.prog 129:=⟨by kernel_rfl⟩
instance:bB Tryz.prog 130:=⟨by kernel_rfl⟩
instance:bB Tryz.prog 131:=⟨by kernel_rfl⟩
instance:bB Tryz.prog 132:=⟨by kernel_rfl⟩
instance:bB Tryz.prog 133:=⟨by kernel_rfl⟩
instance:bB Tryz.prog 134:=⟨by kernel_rfl⟩
instance:bB Tryz.prog 135:=⟨by kernel_rfl⟩
instance:bB Tryz.prog 136:=⟨by kernel_rfl⟩
instance:bB Tryz.prog 137:=⟨by kernel_rfl⟩
instance:bB Tryz.prog 138:=⟨by kernel_rfl⟩
instance:bB Tryz.prog 139:=⟨by kernel_rfl⟩
instance:bB Tryz.prog 140:=⟨by kernel_rfl⟩
instance:bB Tryz.prog 141:=⟨by kernel_rfl⟩
instance:bB Tryz.prog 142:=⟨by kernel_rfl⟩
instance:bB Tryz.prog 143:=⟨by kernel_rfl⟩
instance:bB Tryz.prog 144:=⟨by kernel_rfl⟩
instance:bB Tryz.prog 145:=⟨by kernel_rfl⟩
instance:bB Tryz.prog 146:=⟨by kernel_rfl⟩
instance:bB Tryz.prog 147:=⟨by kernel_rfl⟩
instance:bB Tryz.prog 148:=⟨by kernel_rfl⟩
instance:bB Tryz.prog 149:=⟨by kernel_rfl⟩
instance:bB Tryz.prog 150:=⟨by kernel_rfl⟩
instance:bB Tryz.prog 151:=⟨by kernel_rfl⟩
instance:bB Tryz.prog 152:=⟨by kernel_rfl⟩
instance:bB Tryz.prog 153:=⟨by kernel_rfl⟩
instance:bB Tryz.prog 154:=⟨by kernel_rfl⟩
instance:bB Tryz.prog 155:=⟨by kernel_rfl⟩
instance:bB Tryz.prog 156:=⟨by kernel_rfl⟩
instance:bB Tryz.prog 157:=⟨by kernel_rfl⟩
instance:bB Tryz.prog 158:=⟨by kernel_rfl⟩
instance:bB Tryz.prog 159:=⟨by kernel_rfl⟩
instance:bB Tryz.prog 160:=⟨by kernel_rfl⟩
instance:bB Tryz.prog 161:=⟨by kernel_rfl⟩
instance:bB Tryz.prog 162:=⟨by kernel_rfl⟩
instance:bB Tryz.prog 163:=⟨by kernel_rfl⟩
instance:bB Tryz.prog 164:=⟨by kernel_rfl⟩
instance:bB Tryz.prog 165:=⟨by kernel_rfl⟩
instance:bB Tryz.prog 166:=⟨by kernel_rfl⟩
instance:bB Tryz.prog 167:=⟨by kernel_rfl⟩
instance:bB Tryz.prog 168:=⟨by kernel_rfl⟩
instance:bB Tryz.prog 169:=⟨by kernel_rfl⟩
instance:bB Tryz.prog 170:=⟨by kernel_rfl⟩
instance:bB Tryz.prog 171:=⟨by kernel_rfl⟩
instance:bB Tryz.prog 172:=⟨by kernel_rfl⟩
instance:bB Tryz.prog 173:=⟨by kernel_rfl⟩
instance:bB Tryz.prog 174:=⟨by kernel_rfl⟩
instance:bB Tryz.prog 175:=⟨by kernel_rfl⟩
instance:bB Tryz.prog 176:=⟨by kernel_rfl⟩
instance:bB Tryz.prog 177:=⟨by kernel_rfl⟩
instance:bB Tryz.prog 178:=⟨by kernel_rfl⟩
instance:bB Tryz.prog 179:=⟨by kernel_rfl⟩
instance:bB Tryz.prog 180:=⟨by kernel_rfl⟩
instance:bB Tryz.prog 181:=⟨by kernel_rfl⟩
instance:bB Tryz.prog 182:=⟨by kernel_rfl⟩
instance:bB Tryz.prog 183:=⟨by kernel_rfl⟩
instance:bB Tryz.prog 184:=⟨by kernel_rfl⟩
instance:bB Tryz.prog 185:=⟨by kernel_rfl⟩
instance:bB Tryz.prog 186:=⟨by kernel_rfl⟩
instance:bB Tryz.prog 187:=⟨by kernel_rfl⟩
instance:bB Tryz.prog 188:=⟨by kernel_rfl⟩
instance:bB Tryz.prog 189:=⟨by kernel_rfl⟩
instance:bB Tryz.prog 190:=⟨by kernel_rfl⟩
instance:bB Tryz.prog 191:=⟨by kernel_rfl⟩
instance:bB Tryz.prog 192:=⟨by kernel_rfl⟩
instance:bB Tryz.prog 193:=⟨by kernel_rfl⟩
instance:bB Tryz.prog 194:=⟨by kernel_rfl⟩
instance:bB Tryz.prog 195:=⟨by kernel_rfl⟩
instance:bB Tryz.prog 196:=⟨by kernel_rfl⟩
instance:bB Tryz.prog 197:=⟨by kernel_rfl⟩
instance:bB Tryz.prog 198:=⟨by kernel_rfl⟩
instance:bB Tryz.prog 199:=⟨by kernel_rfl⟩
instance:bB Tryz.prog 200:=⟨by kernel_rfl⟩
instance:bB Tryz.prog 201:=⟨by kernel_rfl⟩
instance:bB Tryz.prog 202:=⟨by kernel_rfl⟩
instance:bB Tryz.prog 203:=⟨by kernel_rfl⟩
instance:bB Tryz.prog 204:=⟨by kernel_rfl⟩
instance:bB Tryz.prog 205:=⟨by kernel_rfl⟩
instance:bB Tryz.prog 206:=⟨by kernel_rfl⟩
instance:bB Tryz.prog 207:=⟨by kernel_rfl⟩
instance:bB Tryz.prog 208:=⟨by kernel_rfl⟩
instance:bB Tryz.prog 209:=⟨by kernel_rfl⟩
instance:bB Tryz.prog 210:=⟨by kernel_rfl⟩
instance:bB Tryz.prog 211:=⟨by kernel_rfl⟩
instance:bB Tryz.prog 212:=⟨by kernel_rfl⟩
instance:bB Tryz.prog 213:=⟨by kernel_rfl⟩
instance:bB Tryz.prog 214:=⟨by kernel_rfl⟩
instance:bB Tryz.prog 215:=⟨by kernel_rfl⟩
theorem mixed:Tryz.prog.follows .mixedOrders=true:=by kernel_rfl
end Go.Proofs.YtningmnklfpfjaaGreat
namespace Go.Proofs.YtningmnklfpfjaaGreat
open Go.Fw Go.RowKit
def snap(W:World):Mem:=fun b o=>(W.cell? ⟨b,o,none⟩).filter Value.oneCell'
theorem QI(W:World):(snap W).cM W:=fun _ _ _ e=>by
 obtain⟨e1,e2⟩:=Option.filter_eq_some_iff.1 e
 exact .of e1 e2
theorem QJ{W:World}{b o:Nat}{v:Value}(h:W.cell? ⟨b,o,none⟩=some v)(h1:v.oneCell'=true):snap W b o=some v:=Option.filter_eq_some_iff.2 ⟨h,h1⟩
class vI (P:Program) (T:TypeId) {α:Type} (e:α→List SV) (ok:outParam (α→Prop)) (sz:outParam (α→Nat)):Prop where
 h:∀{H:Type} (enc:TypeId×Value→H) (W:World) (fuel:Nat) (cs:List Value) (d:DataW H) (p:List MemPlace),DataW.trod enc P W 0 (fun _=>true) true fuel T cs=some (d,p)→
  ∃x:α,ok x∧SV.dR (snap W) (e x) cs∧(∀v∈cs,v.oneCell'=true)∧sz x≤Rows.uptoBulk d
section opn
variable {P:Program}{T:TypeId}
theorem MP{k:IntKind}{n:Int}(h:(Lit.int k n).wf=true):k.min≤n∧n≤k.max:=by simpa[Lit.wf]using h
instance[t:iw P T .i64]:vI P T bT (fun x=>-9223372036854775808≤x∧x≤9223372036854775807) (fun _=>1):=⟨fun enc W fuel cs d p h=>by
 obtain⟨n,rfl,hx,hw⟩:=DataW.trod_int t.h h
 cases hx
 have:=MP hw
 exact⟨n,by simpa[IntKind.min,IntKind.max,IntKind.signed,IntKind.bits]using this,⟨rfl,trivial⟩,by simp[Value.oneCell'],by simp[Rows.uptoBulk]⟩⟩
theorem YU{k:IntKind}{M:Nat}{e:Nat→List SV}(t:iw P T k)(hk:k.min=0∧k.max=(M:Int)-1)(he:∀n:Nat,e n=[.v (.int k (n:Int))]):vI P T e (fun x=>x<M) (fun _=>1):=⟨fun enc W fuel cs d p h=>by
 obtain⟨n,rfl,hx,hw⟩:=DataW.trod_int t.h h
 cases hx
 have:=MP hw
 rw[hk.1,hk.2]at this
 obtain⟨m,rfl⟩:=Int.eq_ofNat_of_zero_le this.1
 exact⟨m,by omega,by rw[he];exact⟨rfl,trivial⟩,by simp[Value.oneCell'],by simp[Rows.uptoBulk]⟩⟩
instance[t:iw P T .u32]:vI P T ah (fun x=>x<4294967296) (fun _=>1):=YU t (by decide) (fun _=>rfl)
instance[t:Bh P T]:vI P T eB (fun _=>True) (fun _=>1):=⟨fun enc W fuel cs d p h=>by
 obtain⟨b,rfl,hx⟩:=DataW.trod_bool t.h h
 cases hx
 exact⟨b,trivial,⟨rfl,trivial⟩,by simp[Value.oneCell'],by simp[Rows.uptoBulk]⟩⟩
theorem GO{H α:Type}(sz:α→Nat):∀(xs:List α) (ds:List (DataW H)),xs.length=ds.length→(∀(i:Nat) (x:α) (d:DataW H),xs[i]? =some x→ds[i]? =some d→sz x≤Rows.uptoBulk d)→(xs.map sz).sum≤Rows.uptoBulkAll ds
 |[],[],_,_=>by simp
 |x::xs,d::ds,hl,h=>by
  have h1:=h 0 x d rfl rfl
  have h2:=GO sz xs ds (by simpa using hl) (fun i x d e1 e2=>h (i+1) x d (by simpa using e1) (by simpa using e2))
  simp only[List.map_cons,List.sum_cons,Rows.uptoBulkAll];omega
 |[],_::_,hl,_=>by simp at hl
 |_::_,[],hl,_=>by simp at hl
instance{E:TypeId}{n:Nat}{α:Type}{e:α→List SV}{ok:α→Prop}{sz:α→Nat}{by_:Nat}{zv:Value}[t:eA P T E n][tE:aK P E n by_ zv][el:EL e n][o:vI P E e ok sz]:vI P T (eS n e) (fun l=>l.length≤9223372036854775807∧∀x∈l,ok x) (fun l=>(l.map sz).sum+1):=⟨fun{H} enc W fuel cs d p h=>by
 have hcell:P.cellsOf E=n:=by
  have h1:=t.size W
  simp only[sizeOf,typeInfo]at h1
  cases hi:P.info? E with
  |none=>simp[hi]at h1
  |some i=>simp[hi]at h1;simp[Program.cellsOf,hi,h1]
 have hml:maxLen=9223372036854775807:=by decide
 rcases Deep.open_slice t.u h with⟨rfl,hx⟩|⟨a,len,cap,m,n',D,Pl,rfl,_,hl,hm,hmm,hx,hel⟩
 ·cases hx
  exact⟨[],⟨by simp,by simp⟩,⟨.inl ⟨none,rfl,rfl⟩,trivial⟩,by simp[Value.oneCell'],by simp[Rows.uptoBulk]⟩
 ·cases hx
  rw[if_pos rfl]at hmm
  subst hmm
  have one:∀i,i<m→∃x,ok x∧sz x≤Rows.uptoBulk (D i)∧∃cs',W.cells? 0 (a.add (i*n)) n=some cs'∧SV.dR (snap W) (e x) cs'∧(∀v∈cs',v.oneCell'=true):=by
   intro i hi
   obtain⟨cs',h1,h2⟩:=hel i hi
   obtain⟨x,q1,q2,q3,q4⟩:=o.h enc W n' cs' (D i) (Pl i) h2
   rw[hcell]at h1
   exact⟨x,q1,q4,cs',h1,q2,q3⟩
  obtain⟨xs,hxl,hxs⟩:∃xs:List α,xs.length=len∧∀(i:Nat) (x:α),xs[i]? =some x→ok x∧sz x≤Rows.uptoBulk (D i)∧∃cs',W.cells? 0 (a.add (i*n)) n=some cs'∧SV.dR (snap W) (e x) cs'∧(∀v∈cs',v.oneCell'=true):=by
   clear h hm hel
   have:∀k,k≤len→∃xs:List α,xs.length=k∧∀(i:Nat) (x:α),xs[i]? =some x→ok x∧sz x≤Rows.uptoBulk (D i)∧∃cs',W.cells? 0 (a.add (i*n)) n=some cs'∧SV.dR (snap W) (e x) cs'∧(∀v∈cs',v.oneCell'=true):=by
    intro k
    induction k with
    |zero=>intro _;exact⟨[],rfl,by simp⟩
    |succ k ih=>
     intro hk
     obtain⟨xs,h1,h2⟩:=ih (by omega)
     obtain⟨x,hx⟩:=one k (by omega)
     refine⟨xs++[x],by simp[h1],fun i y hy=>?_⟩
     rcases Nat.lt_or_ge i k with hi|hi
     ·exact h2 i y (by rwa[List.getElem?_append_left (by omega)]at hy)
     ·rw[List.getElem?_append_right (by omega)]at hy
      have hi2:i=k:=by
       rcases Nat.lt_or_ge (i-xs.length) 1 with q|q
       ·omega
       ·rw[List.getElem?_eq_none (by simpa using q)]at hy;cases hy
      subst hi2
      rw[h1,Nat.sub_self]at hy
      simp at hy;subst hy;exact hx
   exact this len (Nat.le_refl _)
  refine⟨xs,⟨by omega,fun x hx=>?_⟩,⟨?_,trivial⟩,by simp[Value.oneCell'],?_⟩
  ·obtain⟨i,hi,rfl⟩:=List.getElem_of_mem hx
   exact(hxs i _ (List.getElem?_eq_getElem hi)).1
  ·by_cases h0:xs=[]
   ·subst h0
    simp at hxl
    subst hxl
    by_cases hc0:m=0
    ·subst hc0;exact .inl ⟨_,rfl,rfl⟩
    ·
     obtain⟨x,_,_,cs',g1,g2,_⟩:=one 0 (by omega)
     obtain⟨_,g3,g4⟩:=World.cells?_some g1
     have hn:0<n:=tE.p
     have g5:=g4 0 hn
     obtain⟨b,o',spot⟩:=a
     have MQ:spot=none:=by
      have:∃v,W.cell? (((⟨b,o',spot⟩:Addr).add (0*n)).add 0)=some v:=by
       rw[g5];exact⟨_,List.getElem?_eq_getElem (by omega)⟩
      obtain⟨v,hv⟩:=this
      simpa[Addr.add]using World.cell?_spot hv
     subst MQ
     refine .inr ⟨b,o',m,rfl,by simp,by simp,fun i row hr=>by simp at hr⟩
   ·have zY:0<len:=by
     rcases Nat.eq_zero_or_pos len with hz|hz
     ·exact absurd (List.eq_nil_of_length_eq_zero (by omega)) h0
     ·exact hz
    have hn:0<n:=tE.p
    obtain⟨x,_,_,cs',g1,g2,_⟩:=one 0 (by omega)
    obtain⟨_,g3,g4⟩:=World.cells?_some g1
    have g5:=g4 0 hn
    obtain⟨b,o',spot⟩:=a
    have MQ:spot=none:=by
     have:∃v,W.cell? (((⟨b,o',spot⟩:Addr).add (0*n)).add 0)=some v:=by
      rw[g5];exact⟨_,List.getElem?_eq_getElem (by omega)⟩
     obtain⟨v,hv⟩:=this
     simpa[Addr.add]using World.cell?_spot hv
    subst MQ
    refine .inr ⟨b,o',m,by rw[List.length_map,hxl],by rw[List.length_map];omega,by rw[List.length_map];omega,fun i row hr=>?_⟩
    rw[List.getElem?_map]at hr
    cases hx:xs[i]? with
    |none=>rw[hx]at hr;cases hr
    |some y=>
     rw[hx]at hr
     have hr:e y=row:=Option.some.inj hr
     subst hr
     obtain⟨_,_,cs2,k1,k2,k3⟩:=hxs i y hx
     obtain⟨_,k4,k5⟩:=World.cells?_some k1
     refine⟨el.len y,fun k s hk=>?_⟩
     obtain⟨u,hu,hs⟩:=k2.get hk
     have hkn:k<n:=by have:=(List.getElem?_eq_some_iff.1 hu).1;omega
     have k6:=k5 k hkn
     rw[fV,fV,hu]at k6
     exact⟨u,QJ k6 (k3 u (List.mem_of_getElem? hu)),k3 u (List.mem_of_getElem? hu),hs⟩
  ·have hb:Rows.uptoBulk (DataW.slice ((List.range len).map D) ((List.range (m-len)).map fun j=>D (len+j)))=Rows.uptoBulkAll ((List.range len).map D)+Rows.uptoBulkAll ((List.range (m-len)).map fun j=>D (len+j))+1:=rfl
   rw[hb]
   have:=GO sz xs ((List.range len).map D) (by simp[hxl]) (fun i x d e1 e2=>by
    have hi:i<len:=by have:=(List.getElem?_eq_some_iff.1 e1).1;omega
    simp[hi]at e2;subst e2
    exact(hxs i x e1).2.1)
   omega⟩
class SC (P:Program) (T:TypeId) (k:outParam Nat):Prop where
 h:(match P.underlying T with|some (.struct fs)=>some fs.size|_=>none)=some k
theorem vi{k:Nat}[s:SC P T k]{H:Type}{enc:TypeId×Value→H}{W:World}{fuel:Nat}{cs:List Value}{d:DataW H}{p:List MemPlace}(h:DataW.trod enc P W 0 (fun _=>true) true fuel T cs=some (d,p)):
  ∃(xs:List (DataW H×List MemPlace)) (n:Nat),d=.agg (xs.map (·.1))∧cs.length=P.cellsOf T∧xs.length=k∧∀(i off:Nat) (U:TypeId),fG P T i off U→DataW.trod enc P W 0 (fun _=>true) true n U ((cs.drop off).take (P.cellsOf U))=xs[i]? :=by
 have hs:=s.h
 cases hT:P.underlying T with
 |none=>rw[hT]at hs;cases hs
 |some u=>
  rw[hT]at hs
  cases u with
  |struct fs=>
   have hk:fs.size=k:=Option.some.inj hs
   obtain⟨xs,n,_,hx,hl,hn,hf⟩:=DataW.trod_struct hT h
   refine⟨xs,n,(Prod.mk.inj hx).1,hl,by omega,fun i off U F=>?_⟩
   have hF:=F.h
   rw[hT]at hF
   simp only at hF
   cases hg:fs[i]? with
   |none=>rw[hg]at hF;cases hF
   |some f=>
    rw[hg]at hF
    simp only[Option.map_some,Option.some.injEq,Prod.mk.injEq]at hF
    have:=hf i f hg
    rw[hF.1,hF.2]at this
    exact this
  |_=>cases hs
class MR (P:Program) (T:TypeId):Prop where
 h:∀(w:World) (r:Reach) (base:Nat) (v:Value),Value.okWide P w r base T v→v.cells.toList=[v]
instance{k:IntKind}[t:iw P T k]:MR P T:=⟨fun w r base v h=>by
 simp only[Value.okWide,t.h,Cell.okWide,Cell.ok]at h
 cases v<;>first|rfl|cases h⟩
instance[t:Bh P T]:MR P T:=⟨fun w r base v h=>by
 simp only[Value.okWide,t.h,Cell.okWide,Cell.ok]at h
 cases v<;>first|rfl|cases h⟩
instance[t:Gs P T]:MR P T:=⟨fun w r base v h=>by
 simp only[Value.okWide,t.h,Cell.okWide,Cell.ok]at h
 cases v<;>first|rfl|cases h⟩
instance{E:TypeId}{n:Nat}[t:eA P T E n]:MR P T:=⟨fun w r base v h=>by
 obtain⟨a,l,c,rfl⟩:=WideShapes.okWide_slice t.u h
 rfl⟩
theorem JW{α:Type}{e:α→List SV}{ok:α→Prop}{sz:α→Nat}[o1:MR P T][o:vI P T e ok sz]{H:Type}{enc:TypeId×Value→H}{W:World}{r:Reach}{base:Nat}{v:Value}{d:DataW H}{p:List MemPlace}
  (hv:Value.okWide P W r base T v) (h:DataW.Trod enc P W 0 (fun _=>true) true T v d p):∃x,ok x∧sz x≤Rows.uptoBulk d∧SV.dR (snap W) (e x) [v]:=by
 obtain⟨fuel,h⟩:=h
 rw[o1.h W r base v hv]at h
 obtain⟨x,h1,h2,_,h4⟩:=o.h enc W fuel _ d p h
 exact⟨x,h1,h4,h2⟩
theorem QK{α:Type}{e:α→List SV}{ok:α→Prop}{sz:α→Nat}{k:Nat}[s:SC P T k][o:vI P T e ok sz]{H:Type}{enc:TypeId×Value→H}{W:World}{r:Reach}{base:Nat}{v:Value}{d:DataW H}{p:List MemPlace}
  (hv:Value.okWide P W r base T v) (h:DataW.Trod enc P W 0 (fun _=>true) true T v d p):∃x,ok x∧sz x≤Rows.uptoBulk d∧(SV.agg (e x)).h (snap W) v:=by
 have hs:=s.h
 cases hT:P.underlying T with
 |none=>rw[hT]at hs;cases hs
 |some u=>
  rw[hT]at hs
  cases u with
  |struct fs=>
   obtain⟨cs,rfl,_⟩:=WideShapes.okWide_struct hT hv
   obtain⟨fuel,h⟩:=h
   obtain⟨x,h1,h2,_,h4⟩:=o.h enc W fuel _ d p h
   exact⟨x,h1,h4,cs.toList,rfl,h2⟩
  |_=>cases hs
end opn
theorem QL{f:FuncId}{vs:List Value}{svs:List SV}{W:World}(hp:Pure Tryz.prog f svs (.v (.bool true)))(h:SV.dR (snap W) svs vs):
  Calls Tryz.prog f ⟨vs⟩ W fun e w'=>e=.returned (.bool true)∧Below W.heap.size W w':=
 (hp (snap W) W vs (QI W) h).mono fun _ _ ⟨v,_,h1,_,_,_,h2,h3⟩=>by
  have h2:v=.bool true:=h2
  exact⟨by rw[h1,h2],h3⟩
end Go.Proofs.YtningmnklfpfjaaGreat
namespace Go.Proofs.YtningmnklfpfjaaGreat
open Go.Fw Go.RowKit Go.ChangeShapes Go.WideShapes Go.ChangeAt
theorem acQ:ownKnob Tryz.prog.godebug=none:=by kernel_rfl
theorem BC:laidOutB Tryz.prog=true:=by kernel_rfl
instance:SC Tryz.prog 41 2:=⟨by kernel_rfl⟩
set_option maxRecDepth 100000 in
instance:vI Tryz.prog 41 eZ (fun(z:Zr)=>(True∧(z.w.length≤9223372036854775807∧∀x1∈z.w,x1<4294967296))) (fun(z:Zr)=>(1+((z.w.map fun x1=>1).sum+1)+1)):=⟨fun enc W fuel cs d p h=>by
 obtain⟨xs,n,rfl,hl,hn,hf⟩:=vi h
 have hl:cs.length=2:=hl.trans (by kernel_rfl)
 match xs,hn with
 |[⟨d0,p0⟩,⟨d1,p1⟩],_=>
 match cs,hl with
 |[c0,c1],_=>
 have t0:DataW.trod enc Tryz.prog W 0 (fun _=>true) true n 4 [c0]=some (d0,p0):=(by have q:=hf 0 _ _ inferInstance;rw[show Tryz.prog.cellsOf 4=1 by kernel_rfl]at q;exact q)
 obtain⟨x0,a0,b0,e0,s0⟩:=vI.h (P:=Tryz.prog) (T:=4) (e:=eB) enc W n _ d0 p0 t0
 have t1:DataW.trod enc Tryz.prog W 0 (fun _=>true) true n 39 [c1]=some (d1,p1):=(by have q:=hf 1 _ _ inferInstance;rw[show Tryz.prog.cellsOf 39=1 by kernel_rfl]at q;exact q)
 obtain⟨x1,a1,b1,e1,s1⟩:=vI.h (P:=Tryz.prog) (T:=39) (e:=(eS 1 ah)) enc W n _ d1 p1 t1
 refine⟨⟨x0,x1⟩,⟨a0,a1⟩,⟨b0.1,b1.1,trivial⟩,?_,?_⟩
 ·intro v hv;simp only[List.mem_cons,List.not_mem_nil,or_false]at hv;rcases hv with rfl|rfl
  ·exact e0 _ (by simp)
  ·exact e1 _ (by simp)
 ·simp only[List.map_cons,List.map_nil,Rows.uptoBulk,Rows.uptoBulkAll];omega⟩
instance:SC Tryz.prog 43 2:=⟨by kernel_rfl⟩
set_option maxRecDepth 100000 in
instance:vI Tryz.prog 43 eQ (fun(z:Qr)=>((True∧(z.num.w.length≤9223372036854775807∧∀x1∈z.num.w,x1<4294967296))∧(True∧(z.den.w.length≤9223372036854775807∧∀x1∈z.den.w,x1<4294967296)))) (fun(z:Qr)=>((1+((z.num.w.map fun x1=>1).sum+1)+1)+(1+((z.den.w.map fun x1=>1).sum+1)+1)+1)):=⟨fun enc W fuel cs d p h=>by
 obtain⟨xs,n,rfl,hl,hn,hf⟩:=vi h
 have hl:cs.length=4:=hl.trans (by kernel_rfl)
 match xs,hn with
 |[⟨d0,p0⟩,⟨d1,p1⟩],_=>
 match cs,hl with
 |[c0,c1,c2,c3],_=>
 have t0:DataW.trod enc Tryz.prog W 0 (fun _=>true) true n 41 [c0,c1]=some (d0,p0):=(by have q:=hf 0 _ _ inferInstance;rw[show Tryz.prog.cellsOf 41=2 by kernel_rfl]at q;exact q)
 obtain⟨x0,a0,b0,e0,s0⟩:=vI.h (P:=Tryz.prog) (T:=41) (e:=eZ) enc W n _ d0 p0 t0
 have t1:DataW.trod enc Tryz.prog W 0 (fun _=>true) true n 41 [c2,c3]=some (d1,p1):=(by have q:=hf 1 _ _ inferInstance;rw[show Tryz.prog.cellsOf 41=2 by kernel_rfl]at q;exact q)
 obtain⟨x1,a1,b1,e1,s1⟩:=vI.h (P:=Tryz.prog) (T:=41) (e:=eZ) enc W n _ d1 p1 t1
 refine⟨⟨x0,x1⟩,⟨a0,a1⟩,⟨b0.1,b0.2.1,b1.1,b1.2.1,trivial⟩,?_,?_⟩
 ·intro v hv;simp only[List.mem_cons,List.not_mem_nil,or_false]at hv;rcases hv with rfl|rfl|rfl|rfl
  ·exact e0 _ (by simp)
  ·exact e0 _ (by simp)
  ·exact e1 _ (by simp)
  ·exact e1 _ (by simp)
 ·simp only[List.map_cons,List.map_nil,Rows.uptoBulk,Rows.uptoBulkAll];omega⟩
instance:SC Tryz.prog 25 4:=⟨by kernel_rfl⟩
set_option maxRecDepth 100000 in
instance:vI Tryz.prog 25 Gm (fun(z:Lr)=>((-9223372036854775808≤z.vars∧z.vars≤9223372036854775807)∧(z.pK.length≤9223372036854775807∧∀x1∈z.pK,(x1.length≤9223372036854775807∧∀x2∈x1,((True∧(x2.num.w.length≤9223372036854775807∧∀x3∈x2.num.w,x3<4294967296))∧(True∧(x2.den.w.length≤9223372036854775807∧∀x3∈x2.den.w,x3<4294967296)))))∧(z.rows.length≤9223372036854775807∧∀x1∈z.rows,(x1.length≤9223372036854775807∧∀x2∈x1,((True∧(x2.num.w.length≤9223372036854775807∧∀x3∈x2.num.w,x3<4294967296))∧(True∧(x2.den.w.length≤9223372036854775807∧∀x3∈x2.den.w,x3<4294967296)))))∧(z.bounds.length≤9223372036854775807∧∀x1∈z.bounds,((True∧(x1.num.w.length≤9223372036854775807∧∀x2∈x1.num.w,x2<4294967296))∧(True∧(x1.den.w.length≤9223372036854775807∧∀x2∈x1.den.w,x2<4294967296)))))) (fun(z:Lr)=>(1+((z.pK.map fun x1=>((x1.map fun x2=>((1+((x2.num.w.map fun x3=>1).sum+1)+1)+(1+((x2.den.w.map fun x3=>1).sum+1)+1)+1)).sum+1)).sum+1)+((z.rows.map fun x1=>((x1.map fun x2=>((1+((x2.num.w.map fun x3=>1).sum+1)+1)+(1+((x2.den.w.map fun x3=>1).sum+1)+1)+1)).sum+1)).sum+1)+((z.bounds.map fun x1=>((1+((x1.num.w.map fun x2=>1).sum+1)+1)+(1+((x1.den.w.map fun x2=>1).sum+1)+1)+1)).sum+1)+1)):=⟨fun enc W fuel cs d p h=>by
 obtain⟨xs,n,rfl,hl,hn,hf⟩:=vi h
 have hl:cs.length=4:=hl.trans (by kernel_rfl)
 match xs,hn with
 |[⟨d0,p0⟩,⟨d1,p1⟩,⟨d2,p2⟩,⟨d3,p3⟩],_=>
 match cs,hl with
 |[c0,c1,c2,c3],_=>
 have t0:DataW.trod enc Tryz.prog W 0 (fun _=>true) true n 3 [c0]=some (d0,p0):=(by have q:=hf 0 _ _ inferInstance;rw[show Tryz.prog.cellsOf 3=1 by kernel_rfl]at q;exact q)
 obtain⟨x0,a0,b0,e0,s0⟩:=vI.h (P:=Tryz.prog) (T:=3) (e:=bT) enc W n _ d0 p0 t0
 have t1:DataW.trod enc Tryz.prog W 0 (fun _=>true) true n 22 [c1]=some (d1,p1):=(by have q:=hf 1 _ _ inferInstance;rw[show Tryz.prog.cellsOf 22=1 by kernel_rfl]at q;exact q)
 obtain⟨x1,a1,b1,e1,s1⟩:=vI.h (P:=Tryz.prog) (T:=22) (e:=(eS 1 (eS 4 eQ))) enc W n _ d1 p1 t1
 have t2:DataW.trod enc Tryz.prog W 0 (fun _=>true) true n 22 [c2]=some (d2,p2):=(by have q:=hf 2 _ _ inferInstance;rw[show Tryz.prog.cellsOf 22=1 by kernel_rfl]at q;exact q)
 obtain⟨x2,a2,b2,e2,s2⟩:=vI.h (P:=Tryz.prog) (T:=22) (e:=(eS 1 (eS 4 eQ))) enc W n _ d2 p2 t2
 have t3:DataW.trod enc Tryz.prog W 0 (fun _=>true) true n 23 [c3]=some (d3,p3):=(by have q:=hf 3 _ _ inferInstance;rw[show Tryz.prog.cellsOf 23=1 by kernel_rfl]at q;exact q)
 obtain⟨x3,a3,b3,e3,s3⟩:=vI.h (P:=Tryz.prog) (T:=23) (e:=(eS 4 eQ)) enc W n _ d3 p3 t3
 refine⟨⟨x0,x1,x2,x3⟩,⟨a0,a1,a2,a3⟩,⟨b0.1,b1.1,b2.1,b3.1,trivial⟩,?_,?_⟩
 ·intro v hv;simp only[List.mem_cons,List.not_mem_nil,or_false]at hv;rcases hv with rfl|rfl|rfl|rfl
  ·exact e0 _ (by simp)
  ·exact e1 _ (by simp)
  ·exact e2 _ (by simp)
  ·exact e3 _ (by simp)
 ·simp only[List.map_cons,List.map_nil,Rows.uptoBulk,Rows.uptoBulkAll];omega⟩
instance:SC Tryz.prog 38 2:=⟨by kernel_rfl⟩
set_option maxRecDepth 100000 in
instance:vI Tryz.prog 38 Qa (fun(z:Pv)=>((-9223372036854775808≤z.row∧z.row≤9223372036854775807)∧(-9223372036854775808≤z.col∧z.col≤9223372036854775807))) (fun(z:Pv)=>(1+1+1)):=⟨fun enc W fuel cs d p h=>by
 obtain⟨xs,n,rfl,hl,hn,hf⟩:=vi h
 have hl:cs.length=2:=hl.trans (by kernel_rfl)
 match xs,hn with
 |[⟨d0,p0⟩,⟨d1,p1⟩],_=>
 match cs,hl with
 |[c0,c1],_=>
 have t0:DataW.trod enc Tryz.prog W 0 (fun _=>true) true n 3 [c0]=some (d0,p0):=(by have q:=hf 0 _ _ inferInstance;rw[show Tryz.prog.cellsOf 3=1 by kernel_rfl]at q;exact q)
 obtain⟨x0,a0,b0,e0,s0⟩:=vI.h (P:=Tryz.prog) (T:=3) (e:=bT) enc W n _ d0 p0 t0
 have t1:DataW.trod enc Tryz.prog W 0 (fun _=>true) true n 3 [c1]=some (d1,p1):=(by have q:=hf 1 _ _ inferInstance;rw[show Tryz.prog.cellsOf 3=1 by kernel_rfl]at q;exact q)
 obtain⟨x1,a1,b1,e1,s1⟩:=vI.h (P:=Tryz.prog) (T:=3) (e:=bT) enc W n _ d1 p1 t1
 refine⟨⟨x0,x1⟩,⟨a0,a1⟩,⟨b0.1,b1.1,trivial⟩,?_,?_⟩
 ·intro v hv;simp only[List.mem_cons,List.not_mem_nil,or_false]at hv;rcases hv with rfl|rfl
  ·exact e0 _ (by simp)
  ·exact e1 _ (by simp)
 ·simp only[List.map_cons,List.map_nil,Rows.uptoBulk,Rows.uptoBulkAll];omega⟩
instance:SC Tryz.prog 79 5:=⟨by kernel_rfl⟩
set_option maxRecDepth 100000 in
instance:vI Tryz.prog 79 rJ (fun(z:Tb)=>(True∧(-9223372036854775808≤z.vars∧z.vars≤9223372036854775807)∧(z.pK.length≤9223372036854775807∧∀x1∈z.pK,(x1.length≤9223372036854775807∧∀x2∈x1,((True∧(x2.num.w.length≤9223372036854775807∧∀x3∈x2.num.w,x3<4294967296))∧(True∧(x2.den.w.length≤9223372036854775807∧∀x3∈x2.den.w,x3<4294967296)))))∧(z.basis.length≤9223372036854775807∧∀x1∈z.basis,(-9223372036854775808≤x1∧x1≤9223372036854775807))∧(z.rows.length≤9223372036854775807∧∀x1∈z.rows,(x1.length≤9223372036854775807∧∀x2∈x1,((True∧(x2.num.w.length≤9223372036854775807∧∀x3∈x2.num.w,x3<4294967296))∧(True∧(x2.den.w.length≤9223372036854775807∧∀x3∈x2.den.w,x3<4294967296))))))) (fun(z:Tb)=>(1+1+((z.pK.map fun x1=>((x1.map fun x2=>((1+((x2.num.w.map fun x3=>1).sum+1)+1)+(1+((x2.den.w.map fun x3=>1).sum+1)+1)+1)).sum+1)).sum+1)+((z.basis.map fun x1=>1).sum+1)+((z.rows.map fun x1=>((x1.map fun x2=>((1+((x2.num.w.map fun x3=>1).sum+1)+1)+(1+((x2.den.w.map fun x3=>1).sum+1)+1)+1)).sum+1)).sum+1)+1)):=⟨fun enc W fuel cs d p h=>by
 obtain⟨xs,n,rfl,hl,hn,hf⟩:=vi h
 have hl:cs.length=5:=hl.trans (by kernel_rfl)
 match xs,hn with
 |[⟨d0,p0⟩,⟨d1,p1⟩,⟨d2,p2⟩,⟨d3,p3⟩,⟨d4,p4⟩],_=>
 match cs,hl with
 |[c0,c1,c2,c3,c4],_=>
 have t0:DataW.trod enc Tryz.prog W 0 (fun _=>true) true n 4 [c0]=some (d0,p0):=(by have q:=hf 0 _ _ inferInstance;rw[show Tryz.prog.cellsOf 4=1 by kernel_rfl]at q;exact q)
 obtain⟨x0,a0,b0,e0,s0⟩:=vI.h (P:=Tryz.prog) (T:=4) (e:=eB) enc W n _ d0 p0 t0
 have t1:DataW.trod enc Tryz.prog W 0 (fun _=>true) true n 3 [c1]=some (d1,p1):=(by have q:=hf 1 _ _ inferInstance;rw[show Tryz.prog.cellsOf 3=1 by kernel_rfl]at q;exact q)
 obtain⟨x1,a1,b1,e1,s1⟩:=vI.h (P:=Tryz.prog) (T:=3) (e:=bT) enc W n _ d1 p1 t1
 have t2:DataW.trod enc Tryz.prog W 0 (fun _=>true) true n 22 [c2]=some (d2,p2):=(by have q:=hf 2 _ _ inferInstance;rw[show Tryz.prog.cellsOf 22=1 by kernel_rfl]at q;exact q)
 obtain⟨x2,a2,b2,e2,s2⟩:=vI.h (P:=Tryz.prog) (T:=22) (e:=(eS 1 (eS 4 eQ))) enc W n _ d2 p2 t2
 have t3:DataW.trod enc Tryz.prog W 0 (fun _=>true) true n 45 [c3]=some (d3,p3):=(by have q:=hf 3 _ _ inferInstance;rw[show Tryz.prog.cellsOf 45=1 by kernel_rfl]at q;exact q)
 obtain⟨x3,a3,b3,e3,s3⟩:=vI.h (P:=Tryz.prog) (T:=45) (e:=(eS 1 bT)) enc W n _ d3 p3 t3
 have t4:DataW.trod enc Tryz.prog W 0 (fun _=>true) true n 22 [c4]=some (d4,p4):=(by have q:=hf 4 _ _ inferInstance;rw[show Tryz.prog.cellsOf 22=1 by kernel_rfl]at q;exact q)
 obtain⟨x4,a4,b4,e4,s4⟩:=vI.h (P:=Tryz.prog) (T:=22) (e:=(eS 1 (eS 4 eQ))) enc W n _ d4 p4 t4
 refine⟨⟨x0,x1,x2,x3,x4⟩,⟨a0,a1,a2,a3,a4⟩,⟨b0.1,b1.1,b2.1,b3.1,b4.1,trivial⟩,?_,?_⟩
 ·intro v hv;simp only[List.mem_cons,List.not_mem_nil,or_false]at hv;rcases hv with rfl|rfl|rfl|rfl|rfl
  ·exact e0 _ (by simp)
  ·exact e1 _ (by simp)
  ·exact e2 _ (by simp)
  ·exact e3 _ (by simp)
  ·exact e4 _ (by simp)
 ·simp only[List.map_cons,List.map_nil,Rows.uptoBulk,Rows.uptoBulkAll];omega⟩
instance:SC Tryz.prog 97 4:=⟨by kernel_rfl⟩
set_option maxRecDepth 100000 in
instance:vI Tryz.prog 97 eSz (fun(z:Sz)=>((-9223372036854775808≤z.vars∧z.vars≤9223372036854775807)∧(-9223372036854775808≤z.pK∧z.pK≤9223372036854775807)∧(-9223372036854775808≤z.rows∧z.rows≤9223372036854775807)∧(-9223372036854775808≤z.bounds∧z.bounds≤9223372036854775807))) (fun(z:Sz)=>(1+1+1+1+1)):=⟨fun enc W fuel cs d p h=>by
 obtain⟨xs,n,rfl,hl,hn,hf⟩:=vi h
 have hl:cs.length=4:=hl.trans (by kernel_rfl)
 match xs,hn with
 |[⟨d0,p0⟩,⟨d1,p1⟩,⟨d2,p2⟩,⟨d3,p3⟩],_=>
 match cs,hl with
 |[c0,c1,c2,c3],_=>
 have t0:DataW.trod enc Tryz.prog W 0 (fun _=>true) true n 3 [c0]=some (d0,p0):=(by have q:=hf 0 _ _ inferInstance;rw[show Tryz.prog.cellsOf 3=1 by kernel_rfl]at q;exact q)
 obtain⟨x0,a0,b0,e0,s0⟩:=vI.h (P:=Tryz.prog) (T:=3) (e:=bT) enc W n _ d0 p0 t0
 have t1:DataW.trod enc Tryz.prog W 0 (fun _=>true) true n 3 [c1]=some (d1,p1):=(by have q:=hf 1 _ _ inferInstance;rw[show Tryz.prog.cellsOf 3=1 by kernel_rfl]at q;exact q)
 obtain⟨x1,a1,b1,e1,s1⟩:=vI.h (P:=Tryz.prog) (T:=3) (e:=bT) enc W n _ d1 p1 t1
 have t2:DataW.trod enc Tryz.prog W 0 (fun _=>true) true n 3 [c2]=some (d2,p2):=(by have q:=hf 2 _ _ inferInstance;rw[show Tryz.prog.cellsOf 3=1 by kernel_rfl]at q;exact q)
 obtain⟨x2,a2,b2,e2,s2⟩:=vI.h (P:=Tryz.prog) (T:=3) (e:=bT) enc W n _ d2 p2 t2
 have t3:DataW.trod enc Tryz.prog W 0 (fun _=>true) true n 3 [c3]=some (d3,p3):=(by have q:=hf 3 _ _ inferInstance;rw[show Tryz.prog.cellsOf 3=1 by kernel_rfl]at q;exact q)
 obtain⟨x3,a3,b3,e3,s3⟩:=vI.h (P:=Tryz.prog) (T:=3) (e:=bT) enc W n _ d3 p3 t3
 refine⟨⟨x0,x1,x2,x3⟩,⟨a0,a1,a2,a3⟩,⟨b0.1,b1.1,b2.1,b3.1,trivial⟩,?_,?_⟩
 ·intro v hv;simp only[List.mem_cons,List.not_mem_nil,or_false]at hv;rcases hv with rfl|rfl|rfl|rfl
  ·exact e0 _ (by simp)
  ·exact e1 _ (by simp)
  ·exact e2 _ (by simp)
  ·exact e3 _ (by simp)
 ·simp only[List.map_cons,List.map_nil,Rows.uptoBulk,Rows.uptoBulkAll];omega⟩
end Go.Proofs.YtningmnklfpfjaaGreat
namespace Go.Fw
open Go.RowKit
theorem qE{S:AS}(i o k:Nat)(E0:TypeId)(sz:Nat){T:TypeId}{cells:List AV}(hb:S.b i=some ⟨T,cells⟩)(hc:cells[o]? =some (.sv (.v (.slice none 0 0))))(hk:S.r k=.un)(YH:k<1000):
  tu S ((AS.bA [(k,.live ⟨E0,sz,0,[]⟩)] S).jV i ⟨T,cells.set o (.row k)⟩):=by
 rintro C a w ⟨E,h⟩
 have h1:=h.newRow hk YH [] none (.inl ⟨rfl,rfl⟩) (R':=⟨E0,sz,0,[]⟩) (World.ownsRow_nil w 0 E0 sz) (vs':=[]) trivial (.inl rfl) (rH w none)
 have yM:(AS.bA [(k,.live ⟨E0,sz,0,[]⟩)] S).b i=some ⟨T,cells⟩:=hb
 have hrk:(AS.bA [(k,.live ⟨E0,sz,0,[]⟩)] S).r k≠ .un:=by
  show(AS.qg S k _).r k≠_
  rw[AS.ic];simp
 refine⟨_,{h1 with wf:=?_,bx:=fun j B hB=>?_,inj:=fun j j' B B' hB fj e=>?_,rx:=fun j R hR=>?_}⟩
 ·refine⟨fun t j hj=>?_,h1.wf.tr,fun j B hB x hx m hm=>?_,fun j B hB x hx m hm=>?_⟩
  ·obtain⟨B,hB⟩:=h1.wf.tb t j hj
   by_cases e:j=i
   ·subst e;exact⟨_,AS.cx _ _ _⟩
   ·exact⟨B,by rw[AS.bk _ _ _ _ e];exact hB⟩
  ·have key:∃B',(AS.bA [(k,.live ⟨E0,sz,0,[]⟩)] S).b m=some B':=by
    by_cases e:j=i
    ·subst e;rw[AS.cx]at hB;cases hB
     rcases List.mem_or_eq_of_mem_set hx with hx|rfl
     ·exact h1.wf.bb j _ yM x hx m hm
     ·exact hm.elim
    ·rw[AS.bk _ _ _ _ e]at hB;exact h1.wf.bb j B hB x hx m hm
   obtain⟨B',fj⟩:=key
   by_cases e:m=i
   ·subst e;exact⟨_,AS.cx _ _ _⟩
   ·exact⟨B',by rw[AS.bk _ _ _ _ e];exact fj⟩
  ·by_cases e:j=i
   ·subst e;rw[AS.cx]at hB;cases hB
    rcases List.mem_or_eq_of_mem_set hx with hx|rfl
    ·exact h1.wf.br j _ yM x hx m hm
    ·cases hm;exact hrk
   ·rw[AS.bk _ _ _ _ e]at hB;exact h1.wf.br j B hB x hx m hm
 ·by_cases e:j=i
  ·subst e;rw[AS.cx]at hB;cases hB
   obtain⟨q1,q2,q3,vs,q4,q5⟩:=h1.bx j _ yM
   refine⟨q1,q2,q3,vs,q4,?_⟩
   obtain⟨x,hx,hv⟩:=q5.get hc
   have hv:x=.slice none 0 0:=hv
   have:=cO.set (i:=o) (s:=.row k) (x:=x) q5 (by
    show x=if k=k then _ else _
    rw[if_pos rfl];exact hv)
   have he:vs.set o x=vs:=by
    apply List.ext_getElem?
    intro n
    rw[List.getElem?_set]
    split
    ·rename_i hn;subst hn;rw[hx];split<;>rename_i hl
     ·rfl
     ·have:=(List.getElem?_eq_some_iff.1 hx).1;exact absurd this hl
    ·rfl
   rwa[he]at this
  ·rw[AS.bk _ _ _ _ e]at hB;exact h1.bx j B hB
 ·have old:∀n B,((AS.bA [(k,.live ⟨E0,sz,0,[]⟩)] S).jV i ⟨T,cells.set o (.row k)⟩).b n=some B→∃B',(AS.bA [(k,.live ⟨E0,sz,0,[]⟩)] S).b n=some B':=fun n B hn=>by
   by_cases e:n=i
   ·subst e;exact⟨_,yM⟩
   ·rw[AS.bk _ _ _ _ e]at hn;exact⟨B,hn⟩
  obtain⟨B1,p1⟩:=old j B hB
  obtain⟨B2,p2⟩:=old j' B' fj
  exact h1.inj j j' B1 B2 p1 p2 e
 ·obtain⟨p1,p2⟩:=h1.rx j R hR
  refine⟨p1,fun g hg=>?_⟩
  obtain⟨p3,p4,p5,p6⟩:=p2 g hg
  refine⟨p3,p4,p5,fun n B hn=>?_⟩
  by_cases e:n=i
  ·subst e;exact p6 n _ yM
  ·rw[AS.bk _ _ _ _ e]at hn;exact p6 n B hn
end Go.Fw
namespace Go.Fw
open Go.RowKit
section part
variable {P:Program}{C:Ctx}{ops:Array Oper}{acts:List Ac}{S:AS}
theorem xD(listed:Array Bool)(i:Nat)(hs:listed.size=ops.size)(hi:i<ops.size):listed.getD i true=listed.getD i false:=by
 rw[Array.getD_eq_getD_getElem?,Array.getD_eq_getD_getElem?]
 rw[Array.getElem?_eq_getElem (by omega)];rfl
end part
end Go.Fw
namespace Go.Fw
open Go.RowKit
instance{g:FuncId}{caps:List SV}:One (gS g caps):=⟨fun _ _ h=>by obtain⟨vs,rfl,_⟩:=h;rfl⟩
section steps
variable {P:Program}{C:Ctx}{ops:Array Oper}{S:AS}{nd:Bool}{K:List Ac→AS→Prop}{rest:List Oper}{acc:List Ac}
variable {gd:Option (Nat×Bool)}{rg:List Nat}{d:Nat}{ty:TypeId}{pos:String}{aft:Array Edge}{x y z:Operand}{T U E0:TypeId}
theorem RT.vk(hg:Gd ops S gd rg){g:FuncId}{xs:Array Operand}{caps:List SV}(hc:gw S xs.toList caps)(hd:d<S.n)
  (next:RunT P C ops nd K rest (⟨rg++xs.toList.flatMap au,[],[],⟨some (d,.sv (gS g caps)),[],[]⟩⟩::acc) (S.set d (.sv (gS g caps)))):RunT P C ops nd K (⟨some d,.makeFunc (.func g) #[] xs,ty,pos,aft,gd⟩::rest) acc S:=
 RT.value hg (xs.toList.flatMap au) [] [] (.sv (gS g caps)) hd (by intro c h;cases h) (fun S' ht _ _ E a w h=>by
  have h1:=gw.vals h hc ht
  refine⟨.func (.func g) #[] ⟨xs.toList.map a.eval⟩,?_,⟨_,rfl,h1⟩,eR⟩
  have e2:xs.map a.eval=⟨xs.toList.map a.eval⟩:=by apply Array.ext';simp
  simp[execOp,Instr.makeFunc,e2]) next
theorem RT.SD(hg:Gd ops S gd rg){f:FuncId}[bB P f]{g:Operand}{xs:Array Operand}{at_:Array TypeId}{args caps:List SV}{r:SV}(hp:Pure P f (args++caps) r)(hf:S.ev g=.sv (gS f caps))(hargs:gw S xs.toList args)(hd:d<S.n)
  (next:RunT P C ops nd K rest (⟨rg++(au g++xs.toList.flatMap au),[],[],⟨some (d,.sv r),[],[]⟩⟩::acc) (S.set d (.sv r))):RunT P C ops nd K (⟨some d,.call ⟨.value g,xs,at_⟩,ty,pos,aft,gd⟩::rest) acc S:=by
 refine .inl ⟨_,[],[],_,?_,next⟩
 rintro S' hn ht _ _ i a w L Q ho ⟨E,h⟩ hL
 refine bX (C:=C) ho (hg.wanted h (fun s hs=>ht s (List.mem_append_left _ hs)) rfl) ?_
 have tC:(gS f caps).h E.M (a.eval g):=by
  have h1:=h.ev g;rw[aH (fun _ h=>List.mem_append_right _ (List.mem_append_left _ h)) ht,hf]at h1;exact h1
 obtain⟨oI,tC,yT⟩:=tC
 have hall:=SV.dR.append (gw.vals h hargs (fun s hs=>ht s (List.mem_append_right _ (List.mem_append_right _ hs)))) yT
 have hr:(execOp a.eval ⟨some d,.call ⟨.value g,xs,at_⟩,ty,pos,aft,gd⟩).run P w=.ok (.enter f ⟨xs.toList.map a.eval++oI⟩) w:=by
  have e2:xs.map a.eval++⟨oI⟩=⟨xs.toList.map a.eval++oI⟩:=by apply Array.ext';simp
  have e1:=bB.run (P:=P) (f:=f) (xs.map a.eval++⟨oI⟩) w
  rw[←e2]
  simp[execOp,resolve,tC,Deferred.ofValue,invoke,e1]
 refine bR (C:=C) (by intro c h;cases h) hr ?_
 refine⟨fun h=>by simp at h,gC ((hp E.M w _ h.cM hall).mono ?_)⟩
 rintro e w' ⟨v,M',rfl,hM,hnew,hin,hv,hb⟩
 exact hL _ _ ⟨_,(h.grow hM hnew hin hb).put (x:=.sv r) hv (by show d<S'.n;omega) eR⟩
end steps
end Go.Fw
namespace Go.Fw.Z
open Go.Fw
theorem T{d n:Nat}(h:Nat.ble (d+1) n=true:=by exact rfl):d<n:=tl h
theorem bE{α β:Type}{x:Option α}{f:α→Option β}{r:β}{G:Prop}(h:Option.bind x f=some r)(k:∀a,x=some a→f a=some r→G):G:=by obtain⟨a,h1,h2⟩:=bind_some h;exact k a h1 h2
theorem lE{α β:Type}{v:α}{f:α→Option β}{r:β}{G:Prop}(h:Option.bind (some v) f=some r)(k:∀a,v=a→f a=some r→G):G:=k v rfl h
theorem bS{α β:Type}{x:Option α}{f:α→Option β}{r:β}(h:Option.bind x f=some r):∃a,x=some a∧f a=some r:=bind_some h
theorem F{α:Type}{x y:Option α}{r:α}(h:(bif false then x else y)=some r):y=some r:=h
theorem V{α:Type}{x y:Option α}{r:α}(h:(bif true then x else y)=some r):x=some r:=h
theorem O{α:Type}{a b:α}(h:some a=some b):a=b:=Option.some.inj h
def zW(l:List (Nat×Nat))(i:Nat):Nat:=((l.find? fun p=>Nat.beq p.1 i).map (·.2)).getD i
def rnA(l:List (Nat×Nat)):AV→AV
 |.row i=>.row (zW l i)
 |.nP i o n=>.nP (zW l i) o n
 |x=>x
def noR:AV→Bool
 |.je _ _=>false
 |.cmp _ _=>false
 |_=>true
theorem avi(l:List (Nat×Nat)){x:AV}(h:noR x=true):KR (zW l) (rnA l x) x:=by
 cases x with
 |sv s=>exact .sv (SV.aa _)
 |ptr i o=>exact .ptr
 |ER i o n c=>exact .ER
 |row i=>exact .row rfl
 |je i k=>cases h
 |nP i o n=>exact .nP rfl
 |ey g js=>exact .ey
 |cmp t js=>cases h
theorem YV(l:List (Nat×Nat)):∀{xs:List AV},(xs.all noR)=true→IF (zW l) (xs.map (rnA l)) xs
 |[],_=>trivial
 |x::xs,h=>by simp only[List.all_cons,Bool.and_eq_true]at h;exact⟨avi l h.1,YV l h.2⟩
theorem wR(l:List (Nat×Nat)){S:AS}{n:Nat}{ts:List (Nat×AV)}{bs:List (Nat×om)}{rs:List (Nat×Row)}{g:Nat}{go:Bool}
  (ht:ts.map (fun p=>S.t p.1)=ts.map (fun p=>rnA l p.2):=by exact rfl) (hb:bs.map (fun p=>S.b p.1)=bs.map (fun p=>some ⟨p.2.T,p.2.cells.map (rnA l)⟩):=by exact rfl) (hr:rs.map (fun p=>S.r (zW l p.1))=rs.map (fun p=>.live p.2):=by exact rfl)
  (hn:S.n=n:=by exact rfl) (hg:S.g=g:=by exact rfl) (Qs:S.go=go:=by exact rfl)
  (hwf:((ts.all fun p=>p.2.qh bs rs)&&(bs.all fun p=>p.2.cells.all fun x=>x.qh bs rs))=true:=by exact rfl) (hσ:((rs.all fun p=>rs.all fun q=>!(Nat.beq (zW l p.1) (zW l q.1))||Nat.beq p.1 q.1))=true:=by exact rfl)
  (hno:((ts.all fun p=>noR p.2)&&(bs.all fun p=>p.2.cells.all noR))=true:=by exact rfl) (hl:(l.all fun p=>Nat.ble (p.1+1) 1000)=true:=by exact rfl):tu S (AS.bG n ts bs rs g go):=by
 simp only[Bool.and_eq_true,List.all_eq_true]at hno
 refine cH (zW l) hn hg Qs hwf hσ ?_ ?_ ?_ ?_
 ·clear hwf hb hr
  obtain⟨h,-⟩:=hno
  induction ts with
  |nil=>trivial
  |cons p ts ih=>
   obtain⟨k,x⟩:=p
   simp only[List.map_cons,List.cons.injEq]at ht
   refine⟨?_,ih ht.2 (fun q hq=>h q (by simp[hq]))⟩
   show KR _ (S.t k) x
   rw[ht.1];exact avi l (h (k,x) (by simp))
 ·clear hwf ht hr
  obtain⟨-,h⟩:=hno
  induction bs with
  |nil=>trivial
  |cons p bs ih=>
   obtain⟨k,x⟩:=p
   simp only[List.map_cons,List.cons.injEq]at hb
   exact⟨⟨_,hb.1,YV l (List.all_eq_true.2 (h (k,x) (by simp)))⟩,ih hb.2 (fun q hq=>h q (by simp[hq]))⟩
 ·clear hwf ht hb hσ
  induction rs with
  |nil=>trivial
  |cons p rs ih=>
   obtain⟨k,x⟩:=p
   simp only[List.map_cons,List.cons.injEq]at hr
   exact⟨⟨_,hr.1,bQ.refl _⟩,ih hr.2⟩
 ·intro i hi
  unfold zW
  have:l.find? (fun p=>Nat.beq p.1 i)=none:=by
   rw[List.find?_eq_none]
   intro p hp e
   have h1:=Nat.le_of_ble_eq_true (List.all_eq_true.1 hl p hp)
   have h2:=Nat.eq_of_beq_eq_true e
   omega
  rw[this];rfl
section
variable {P:Program}{C:Ctx}{S:AS}{Q:Exit→AS→Prop}
theorem qq{x y:Code}(h:Ok P C x S (ae (fun S'=>Ok P C y S' Q) Q)):Ok P C (.seq x y) S Q:=aO h
theorem sr{id:Nat}{ops:Array Oper}{y:Code}(h:RunT P C ops true (fun _ S=>ae (fun S'=>Ok P C y S' Q) Q .normal S) ops.toList [] S):Ok P C (.seq (.region id ops false) y) S Q:=aO (af h)
theorem dn{ops:Array Oper}{acc:List Ac}{next:AS→Prop}(h:next S):RunT P C ops true (fun _ S=>ae next Q .normal S) [] acc S:=h
theorem cF{c:Operand}{x y:Code}(hf:Ok P C y S Q)(hc:S.ev c=.sv (.v (.bool false)):=by exact rfl):Ok P C (.cond c x y) S Q:=dM hc hf
theorem cT{c:Operand}{x y:Code}(ht:Ok P C x S Q)(hc:S.ev c=.sv (.v (.bool true)):=by exact rfl):Ok P C (.cond c x y) S Q:=cj hc ht
theorem fs{c:Operand}{x:Code}{next:AS→Prop}(h:next S)(hc:S.ev c=.sv (.v (.bool false)):=by exact rfl):Ok P C (.cond c x .skip) S (ae next Q):=dM hc (aE h)
theorem R1{A:Prop}{e:Exit}{t:Nat}{s:SV}(h:S.t t=.sv s):(A∨e=e)∧Mi P S [.tmp t] s:=⟨.inr rfl,gE (.tmp h .nil) (SV.aa _)⟩
theorem R2{A:Prop}{e:Exit}{t u:Nat}{s s':SV}(h:S.t t=.sv s)(h':S.t u=.sv s'):(A∨e=e)∧Mi P S [.tmp t,.tmp u] (.vW [s,s']):=⟨.inr rfl,gE (.tmp h (.tmp h' .nil)) (SV.aa _)⟩
theorem RZ{A:Prop}{e:Exit}{rs:List ResultVar}{ss:List SV}{r:SV}(h:L0 P S rs ss)(h':SV.imp (Mt ss) r:=by exact SV.aa _):(A∨e=e)∧Mi P S rs r:=⟨.inr rfl,gE h h'⟩
end
section
variable {P:Program}{C:Ctx}{ops:Array Oper}{S:AS}{nd:Bool}{K:List Ac→AS→Prop}{rest:List Oper}{acc:List Ac}
variable {gd:Option (Nat×Bool)}{rg:List Nat}{d:Nat}{ty:TypeId}{pos:String}{aft:Array Edge}{x y z:Operand}{T U:TypeId}{k:IntKind}{p q:Int}
theorem pF{s:SV}(hz:S.ev z=.sv s)(next:RunT P C ops nd K rest (⟨[]++(au x++au z),[],[],⟨some (d,.sv s),[],[]⟩⟩::acc) (S.set d (.sv s)))(hx:S.ev x=.sv (.v (.bool false)):=by exact rfl)(hd:d<S.n:=by exact tl rfl):RunT P C ops nd K (⟨some d,.pick x y z,ty,pos,aft,none⟩::rest) acc S:=
 RT.So .none hx hz hd next
theorem pT{s:SV}(hy:S.ev y=.sv s)(next:RunT P C ops nd K rest (⟨[]++(au x++au y),[],[],⟨some (d,.sv s),[],[]⟩⟩::acc) (S.set d (.sv s)))(hx:S.ev x=.sv (.v (.bool true)):=by exact rfl)(hd:d<S.n:=by exact tl rfl):RunT P C ops nd K (⟨some d,.pick x y z,ty,pos,aft,none⟩::rest) acc S:=
 RT.Sn .none hx hy hd next
theorem mo{s:AV}(hx:S.ev x=s)(next:RunT P C ops nd K rest (⟨[]++au x,[],[],⟨some (d,s),[],[]⟩⟩::acc) (S.set d s))(hd:d<S.n:=by exact tl rfl):RunT P C ops nd K (⟨some d,.move x,ty,pos,aft,none⟩::rest) acc S:=
 RT.move .none hx hd next
theorem ad(c:Int)(hx:S.ev x=.sv (.v (.int k p)))(hy:S.ev y=.sv (.v (.int k q)))(hc:k.wrap (p+q)=c)(next:RunT P C ops nd K rest (⟨[]++(au x++au y),[],[],⟨some (d,.sv (.v (.int k c))),[],[]⟩⟩::acc) (S.set d (.sv (.v (.int k c)))))(hd:d<S.n:=by exact tl rfl):RunT P C ops nd K (⟨some d,.binOp .add T x y U,ty,pos,aft,none⟩::rest) acc S:=
 RT.add .none c hx hy hd hc next
theorem cv{j:IntKind}[tT:iw P T j][tU:iw P U k](c:Int){k':IntKind}(hx:S.ev x=.sv (.v (.int k' p)))(hc:k.wrap p=c)(next:RunT P C ops nd K rest (⟨[]++au x,[],[],⟨some (d,.sv (.v (.int k c))),[],[]⟩⟩::acc) (S.set d (.sv (.v (.int k c)))))(hd:d<S.n:=by exact tl rfl):RunT P C ops nd K (⟨some d,.convert T U x,ty,pos,aft,none⟩::rest) acc S:=
 RT.conv .none c hx hd hc next
theorem ls(c:Bool)(hx:S.ev x=.sv (.v (.int k p)))(hy:S.ev y=.sv (.v (.int k q)))(hc:decide (p<q)=c)(next:RunT P C ops nd K rest (⟨[]++(au x++au y),[],[],⟨some (d,.sv (.v (.bool c))),[],[]⟩⟩::acc) (S.set d (.sv (.v (.bool c)))))(hd:d<S.n:=by exact tl rfl):RunT P C ops nd K (⟨some d,.binOp .lss T x y U,ty,pos,aft,none⟩::rest) acc S:=
 RT.lss .none c hx hy hd hc next
theorem sb(c:Int)(hx:S.ev x=.sv (.v (.int k p)))(hy:S.ev y=.sv (.v (.int k q)))(hc:k.wrap (p-q)=c)(next:RunT P C ops nd K rest (⟨[]++(au x++au y),[],[],⟨some (d,.sv (.v (.int k c))),[],[]⟩⟩::acc) (S.set d (.sv (.v (.int k c)))))(hd:d<S.n:=by exact tl rfl):RunT P C ops nd K (⟨some d,.binOp .sub T x y U,ty,pos,aft,none⟩::rest) acc S:=
 RT.sub .none c hx hy hd hc next
theorem an{s:AV}(hx:S.ev x=s)(next:RunT P C ops nd K rest (⟨[]++au x,[],[],⟨some (d,s),[],[]⟩⟩::acc) (S.set d s))(hd:d<S.n:=by exact tl rfl):RunT P C ops nd K (⟨some d,.assign x,ty,pos,aft,none⟩::rest) acc S:=
 RT.assign .none hx hd next
theorem gt(c:Bool)(hx:S.ev x=.sv (.v (.int k p)))(hy:S.ev y=.sv (.v (.int k q)))(hc:decide (q<p)=c)(next:RunT P C ops nd K rest (⟨[]++(au x++au y),[],[],⟨some (d,.sv (.v (.bool c))),[],[]⟩⟩::acc) (S.set d (.sv (.v (.bool c)))))(hd:d<S.n:=by exact tl rfl):RunT P C ops nd K (⟨some d,.binOp .gtr T x y U,ty,pos,aft,none⟩::rest) acc S:=
 RT.gtr .none c hx hy hd hc next
theorem eq(c:Bool)(hx:S.ev x=.sv (.v (.int k p)))(hy:S.ev y=.sv (.v (.int k q)))(hc:(p==q)=c)(next:RunT P C ops nd K rest (⟨[]++(au x++au y),[],[],⟨some (d,.sv (.v (.bool c))),[],[]⟩⟩::acc) (S.set d (.sv (.v (.bool c)))))(hd:d<S.n:=by exact tl rfl):RunT P C ops nd K (⟨some d,.binOp .eql T x y U,ty,pos,aft,none⟩::rest) acc S:=
 RT.eql .none c hx hy hd hc next
theorem ne(c:Bool)(hx:S.ev x=.sv (.v (.int k p)))(hy:S.ev y=.sv (.v (.int k q)))(hc:(p != q)=c)(next:RunT P C ops nd K rest (⟨[]++(au x++au y),[],[],⟨some (d,.sv (.v (.bool c))),[],[]⟩⟩::acc) (S.set d (.sv (.v (.bool c)))))(hd:d<S.n:=by exact tl rfl):RunT P C ops nd K (⟨some d,.binOp .neq T x y U,ty,pos,aft,none⟩::rest) acc S:=
 RT.neq .none c hx hy hd hc next
theorem ge(c:Bool)(hx:S.ev x=.sv (.v (.int k p)))(hy:S.ev y=.sv (.v (.int k q)))(hc:decide (q≤p)=c)(next:RunT P C ops nd K rest (⟨[]++(au x++au y),[],[],⟨some (d,.sv (.v (.bool c))),[],[]⟩⟩::acc) (S.set d (.sv (.v (.bool c)))))(hd:d<S.n:=by exact tl rfl):RunT P C ops nd K (⟨some d,.binOp .geq T x y U,ty,pos,aft,none⟩::rest) acc S:=
 RT.geq .none c hx hy hd hc next
theorem nt{b:Bool}(hx:S.ev x=.sv (.v (.bool b)))(c:Bool)(hc:(!b)=c)(next:RunT P C ops nd K rest (⟨[]++au x,[],[],⟨some (d,.sv (.v (.bool c))),[],[]⟩⟩::acc) (S.set d (.sv (.v (.bool c)))))(hd:d<S.n:=by exact tl rfl):RunT P C ops nd K (⟨some d,.unOp .not T x,ty,pos,aft,none⟩::rest) acc S:=
 RT.not .none hx hd c hc next
theorem gF{j_ g_:Nat}{fN:Bool}{s:SV}(hz:S.ev z=.sv s)(next:RunT P C ops nd K rest (⟨[g_]++(au x++au z),[],[],⟨some (d,.sv s),[],[]⟩⟩::acc) (S.set d (.sv s)))(Du:(ops[j_]?).bind (·.dst)=some g_:=by exact rfl)(Dv:S.t g_=.sv (.v (.bool fN)):=by exact rfl)(hx:S.ev x=.sv (.v (.bool false)):=by exact rfl)(hd:d<S.n:=by exact tl rfl):RunT P C ops nd K (⟨some d,.pick x y z,ty,pos,aft,some (j_,fN)⟩::rest) acc S:=
 RT.So (.some Du Dv) hx hz hd next
theorem gT{j_ g_:Nat}{fN:Bool}{s:SV}(hy:S.ev y=.sv s)(next:RunT P C ops nd K rest (⟨[g_]++(au x++au y),[],[],⟨some (d,.sv s),[],[]⟩⟩::acc) (S.set d (.sv s)))(Du:(ops[j_]?).bind (·.dst)=some g_:=by exact rfl)(Dv:S.t g_=.sv (.v (.bool fN)):=by exact rfl)(hx:S.ev x=.sv (.v (.bool true)):=by exact rfl)(hd:d<S.n:=by exact tl rfl):RunT P C ops nd K (⟨some d,.pick x y z,ty,pos,aft,some (j_,fN)⟩::rest) acc S:=
 RT.Sn (.some Du Dv) hx hy hd next
theorem gq{j_ g_:Nat}{fN:Bool}(c:Bool)(hx:S.ev x=.sv (.v (.int k p)))(hy:S.ev y=.sv (.v (.int k q)))(hc:(p != q)=c)(next:RunT P C ops nd K rest (⟨[g_]++(au x++au y),[],[],⟨some (d,.sv (.v (.bool c))),[],[]⟩⟩::acc) (S.set d (.sv (.v (.bool c)))))(Du:(ops[j_]?).bind (·.dst)=some g_:=by exact rfl)(Dv:S.t g_=.sv (.v (.bool fN)):=by exact rfl)(hd:d<S.n:=by exact tl rfl):RunT P C ops nd K (⟨some d,.binOp .neq T x y U,ty,pos,aft,some (j_,fN)⟩::rest) acc S:=
 RT.neq (.some Du Dv) c hx hy hd hc next
theorem gg{j_ g_:Nat}{fN:Bool}(c:Bool)(hx:S.ev x=.sv (.v (.int k p)))(hy:S.ev y=.sv (.v (.int k q)))(hc:decide (q<p)=c)(next:RunT P C ops nd K rest (⟨[g_]++(au x++au y),[],[],⟨some (d,.sv (.v (.bool c))),[],[]⟩⟩::acc) (S.set d (.sv (.v (.bool c)))))(Du:(ops[j_]?).bind (·.dst)=some g_:=by exact rfl)(Dv:S.t g_=.sv (.v (.bool fN)):=by exact rfl)(hd:d<S.n:=by exact tl rfl):RunT P C ops nd K (⟨some d,.binOp .gtr T x y U,ty,pos,aft,some (j_,fN)⟩::rest) acc S:=
 RT.gtr (.some Du Dv) c hx hy hd hc next
theorem YW{j_ g_:Nat}{fN:Bool}(c:Bool)(hx:S.ev x=.sv (.v (.int k p)))(hy:S.ev y=.sv (.v (.int k q)))(hc:(p==q)=c)(next:RunT P C ops nd K rest (⟨[g_]++(au x++au y),[],[],⟨some (d,.sv (.v (.bool c))),[],[]⟩⟩::acc) (S.set d (.sv (.v (.bool c)))))(Du:(ops[j_]?).bind (·.dst)=some g_:=by exact rfl)(Dv:S.t g_=.sv (.v (.bool fN)):=by exact rfl)(hd:d<S.n:=by exact tl rfl):RunT P C ops nd K (⟨some d,.binOp .eql T x y U,ty,pos,aft,some (j_,fN)⟩::rest) acc S:=
 RT.eql (.some Du Dv) c hx hy hd hc next
theorem QM{j_ g_:Nat}{fN:Bool}{b:Bool}(hx:S.ev x=.sv (.v (.bool b)))(c:Bool)(hc:(!b)=c)(next:RunT P C ops nd K rest (⟨[g_]++au x,[],[],⟨some (d,.sv (.v (.bool c))),[],[]⟩⟩::acc) (S.set d (.sv (.v (.bool c)))))(Du:(ops[j_]?).bind (·.dst)=some g_:=by exact rfl)(Dv:S.t g_=.sv (.v (.bool fN)):=by exact rfl)(hd:d<S.n:=by exact tl rfl):RunT P C ops nd K (⟨some d,.unOp .not T x,ty,pos,aft,some (j_,fN)⟩::rest) acc S:=
 RT.not (.some Du Dv) hx hd c hc next
end
section
variable {P:Program}{C:Ctx}{ops:Array Oper}{S:AS}{nd:Bool}{K:List Ac→AS→Prop}{rest:List Oper}{acc:List Ac}
variable {gd:Option (Nat×Bool)}{rg:List Nat}{d:Nat}{ty:TypeId}{pos:String}{aft:Array Edge}{x y z:Operand}{T U E0:TypeId}
theorem mv{s:SV}(hx:S.ev x=.sv s)(next:RunT P C ops nd K rest (⟨[]++au x,[],[],⟨some (d,.sv s),[],[]⟩⟩::acc) (S.set d (.sv s)))(hd:d<S.n:=by exact tl rfl):RunT P C ops nd K (⟨some d,.move x,ty,pos,aft,none⟩::rest) acc S:=
 RT.mv .none hx hd next
theorem ag{s:SV}(hx:S.ev x=.sv s)(next:RunT P C ops nd K rest (⟨[]++au x,[],[],⟨some (d,.sv s),[],[]⟩⟩::acc) (S.set d (.sv s)))(hd:d<S.n:=by exact tl rfl):RunT P C ops nd K (⟨some d,.assign x,ty,pos,aft,none⟩::rest) acc S:=
 RT.Br .none hx hd next
theorem cl{f:FuncId}[bB P f]{g:Operand}{xs:Array Operand}{at_:Array TypeId}{args:List SV}{r:SV}(hp:Pure P f args r)(hargs:gw S xs.toList args)(next:RunT P C ops nd K rest (⟨[]++(au g++xs.toList.flatMap au),[],[],⟨some (d,.sv r),[],[]⟩⟩::acc) (S.set d (.sv r)))(hf:S.ev g=.sv (.v (.func (.func f) #[] #[])):=by exact rfl)(hd:d<S.n:=by exact tl rfl):RunT P C ops nd K (⟨some d,.call ⟨.value g,xs,at_⟩,ty,pos,aft,none⟩::rest) acc S:=
 RT.call .none hp hf hargs hd next
theorem ld{n:Nat}[tA:iO P T n]{j off:Nat}{B:om}{cs:List SV}(hx:S.ev x=.ptr j off)(hB:S.b j=some B)(hcs:LY B.cells off cs)(next:RunT P C ops nd K rest (⟨[]++au x,[j],[],⟨some (d,.sv (.agg cs)),[],[]⟩⟩::acc) (S.set d (.sv (.agg cs))))(hn:cs.length=n:=by exact rfl)(hd:d<S.n:=by exact tl rfl):RunT P C ops nd K (⟨some d,.load T x,ty,pos,aft,none⟩::rest) acc S:=
 RT.load .none hx hB hcs hn hd next
theorem lV[tV:bP P T]{j off:Nat}{B:om}{s:SV}(hx:S.ev x=.ptr j off)(hB:S.b j=some B)(hn:B.cells[off]? =some (.sv s))(next:RunT P C ops nd K rest (⟨[]++au x,[j],[],⟨some (d,.sv s),[],[]⟩⟩::acc) (S.set d (.sv s)))(hd:d<S.n:=by exact tl rfl):RunT P C ops nd K (⟨some d,.load T x,ty,pos,aft,none⟩::rest) acc S:=
 RT.tH .none hx hB hn hd next
theorem fa{f off:Nat}[hf:fG P T f off U][sU:fC P U]{j o:Nat}(hx:S.ev x=.ptr j o){o':Nat}(ho':o+off=o')(next:RunT P C ops nd K rest (⟨[]++au x,[],[],⟨some (d,.ptr j o'),[],[]⟩⟩::acc) (S.set d (.ptr j o')))(hd:d<S.n:=by exact tl rfl):RunT P C ops nd K (⟨some d,.fieldAddr T x f,ty,pos,aft,none⟩::rest) acc S:=
 RT.fieldAddr .none hx hd ho' next
theorem so{n:Nat}[tA:iO P T n]{j:Nat}{B:om}{cs:List SV}[o1:qy cs](hx:S.ev x=.ptr j 0)(hB:S.b j=some B)(hy:S.ev y=.sv (.agg cs))(next:RunT P C ops nd K rest (⟨[]++(au x++au y),[j],[],⟨none,[(j,⟨B.T,cs.map AV.sv⟩)],[]⟩⟩::acc) (S.jV j ⟨B.T,cs.map AV.sv⟩))(vX:cs.length=n:=by exact rfl)(hn:B.cells.length=n:=by exact rfl):RunT P C ops nd K (⟨none,.store T x y,ty,pos,aft,none⟩::rest) acc S:=
 RT.store .none hx hB hy vX hn next
theorem ex{i:Nat}{ss:List SV}{s:SV}(hx:S.ev x=.sv (.vW ss))(hi:ss[i]? =some s)(next:RunT P C ops nd K rest (⟨[]++au x,[],[],⟨some (d,.sv s),[],[]⟩⟩::acc) (S.set d (.sv s)))(hd:d<S.n:=by exact tl rfl):RunT P C ops nd K (⟨some d,.extract x i,ty,pos,aft,none⟩::rest) acc S:=
 RT.extract .none hx hi hd next
theorem bx{cells:List SV}(hx:S.ev x=.sv (.agg cells))(next:RunT P C ops nd K rest (⟨[]++au x,[d],[],⟨some (d,.ptr d 0),[(d,⟨T,cells.map AV.sv⟩)],[]⟩⟩::acc) ((S.jV d ⟨T,cells.map AV.sv⟩).set d (.ptr d 0)))(hd:d<S.n:=by exact tl rfl)(hb:S.b d=none:=by exact rfl)(hp:C.gQ d=none:=by exact rfl):RunT P C ops nd K (⟨some d,.box T x,ty,pos,aft,none⟩::rest) acc S:=
 RT.box .none hx hd hb hp next
theorem lr[tV:bP P T]{cells:List SV}{s:SV}(hx:S.ev x=.sv (ref cells))(hn:cells[0]? =some s)(next:RunT P C ops nd K rest (⟨[]++au x,[],[],⟨some (d,.sv s),[],[]⟩⟩::acc) (S.set d (.sv s)))(hd:d<S.n:=by exact tl rfl):RunT P C ops nd K (⟨some d,.load T x,ty,pos,aft,none⟩::rest) acc S:=
 RT.cV .none hx hn hd next
theorem cB{f:FuncId}[bB P f]{g:Operand}{xs:Array Operand}{at_:Array TypeId}{args:List SV}{T:TypeId}{c0 c1:List SV}{res:SV}(hp:Mz P f args T c0 res c1)(j:Nat)(hB:S.b j=some ⟨T,c0.map AV.sv⟩)(hargs:gw S xs.toList args)(next:RunT P C ops nd K rest (⟨[]++(au g++xs.toList.flatMap au),[j],[],⟨some (d,.sv res),[(j,⟨T,c1.map AV.sv⟩)],[]⟩⟩::acc) ((AS.fg [(j,⟨T,c1.map AV.sv⟩)] S).set d (.sv res)))(hf:S.ev g=.ey f [.box j]:=by exact rfl)(hd:d<S.n:=by exact tl rfl):RunT P C ops nd K (⟨some d,.call ⟨.value g,xs,at_⟩,ty,pos,aft,none⟩::rest) acc S:=
 RT.YE .none hp j hB hf hargs hd next
theorem cN{f:FuncId}[bB P f]{g:Operand}{xs:Array Operand}{at_:Array TypeId}{args:List SV}{R:Row}(hp:Ah P f args R)(hargs:gw S xs.toList args)(next:RunT P C ops nd K rest (⟨[]++(au g++xs.toList.flatMap au),[],[d],⟨some (d,.row d),[],[(d,.live R)]⟩⟩::acc) ((AS.bA [(d,.live R)] S).set d (.row d)))(hf:S.ev g=.sv (.v (.func (.func f) #[] #[])):=by exact rfl)(hd:d<S.n:=by exact tl rfl)(yL:S.r d=.un:=by exact rfl)(xx:d<1000:=by exact tl rfl):RunT P C ops nd K (⟨some d,.call ⟨.value g,xs,at_⟩,ty,pos,aft,none⟩::rest) acc S:=
 RT.YD .none hp hf hargs hd yL xx next
theorem gm{j_ g_:Nat}{fN:Bool}{s:SV}(hx:S.ev x=.sv s)(next:RunT P C ops nd K rest (⟨[g_]++au x,[],[],⟨some (d,.sv s),[],[]⟩⟩::acc) (S.set d (.sv s)))(Du:(ops[j_]?).bind (·.dst)=some g_:=by exact rfl)(Dv:S.t g_=.sv (.v (.bool fN)):=by exact rfl)(hd:d<S.n:=by exact tl rfl):RunT P C ops nd K (⟨some d,.move x,ty,pos,aft,some (j_,fN)⟩::rest) acc S:=
 RT.mv (.some Du Dv) hx hd next
theorem gl{j_ g_:Nat}{fN:Bool}{n:Nat}[tA:iO P T n]{j off:Nat}{B:om}{cs:List SV}(hx:S.ev x=.ptr j off)(hB:S.b j=some B)(hcs:LY B.cells off cs)(next:RunT P C ops nd K rest (⟨[g_]++au x,[j],[],⟨some (d,.sv (.agg cs)),[],[]⟩⟩::acc) (S.set d (.sv (.agg cs))))(Du:(ops[j_]?).bind (·.dst)=some g_:=by exact rfl)(Dv:S.t g_=.sv (.v (.bool fN)):=by exact rfl)(hn:cs.length=n:=by exact rfl)(hd:d<S.n:=by exact tl rfl):RunT P C ops nd K (⟨some d,.load T x,ty,pos,aft,some (j_,fN)⟩::rest) acc S:=
 RT.load (.some Du Dv) hx hB hcs hn hd next
theorem gc{j_ g_:Nat}{fN:Bool}{f:FuncId}[bB P f]{g:Operand}{xs:Array Operand}{at_:Array TypeId}{args:List SV}{r:SV}(hp:Pure P f args r)(hargs:gw S xs.toList args)(next:RunT P C ops nd K rest (⟨[g_]++(au g++xs.toList.flatMap au),[],[],⟨some (d,.sv r),[],[]⟩⟩::acc) (S.set d (.sv r)))(Du:(ops[j_]?).bind (·.dst)=some g_:=by exact rfl)(Dv:S.t g_=.sv (.v (.bool fN)):=by exact rfl)(hf:S.ev g=.sv (.v (.func (.func f) #[] #[])):=by exact rfl)(hd:d<S.n:=by exact tl rfl):RunT P C ops nd K (⟨some d,.call ⟨.value g,xs,at_⟩,ty,pos,aft,some (j_,fN)⟩::rest) acc S:=
 RT.call (.some Du Dv) hp hf hargs hd next
theorem gr{j_ g_:Nat}{fN:Bool}[tV:bP P T]{cells:List SV}{s:SV}(hx:S.ev x=.sv (ref cells))(hn:cells[0]? =some s)(next:RunT P C ops nd K rest (⟨[g_]++au x,[],[],⟨some (d,.sv s),[],[]⟩⟩::acc) (S.set d (.sv s)))(Du:(ops[j_]?).bind (·.dst)=some g_:=by exact rfl)(Dv:S.t g_=.sv (.v (.bool fN)):=by exact rfl)(hd:d<S.n:=by exact tl rfl):RunT P C ops nd K (⟨some d,.load T x,ty,pos,aft,some (j_,fN)⟩::rest) acc S:=
 RT.cV (.some Du Dv) hx hn hd next
end
section
variable {P:Program}{C:Ctx}{ops:Array Oper}{S:AS}{nd:Bool}{K:List Ac→AS→Prop}{rest:List Oper}{acc:List Ac}
variable {gd:Option (Nat×Bool)}{rg:List Nat}{d:Nat}{ty:TypeId}{pos:String}{aft:Array Edge}{x y z:Operand}{T U E0:TypeId}
variable {l l' k:Qb}
theorem ww{op:Op}{j g:Nat}{b want:Bool}(next:RunT P C ops nd K rest (⟨[g],[],[],⟨some (d,.sv (.v undef)),[],[]⟩⟩::acc) (S.set d (.sv (.v undef))))(h1:(ops[j]?).bind (·.dst)=some g:=by exact rfl)(h2:S.t g=.sv (.v (.bool b)):=by exact rfl)(hb:b≠want:=by exact sk rfl)(hd:d<S.n:=by exact tl rfl):RunT P C ops nd K (⟨some d,op,ty,pos,aft,some (j,want)⟩::rest) acc S:=
 RT.skV h1 h2 hb hd next
theorem wu{op:Op}{j g:Nat}{want:Bool}(next:RunT P C ops nd K rest (⟨[g],[],[],⟨some (d,.sv (.v undef)),[],[]⟩⟩::acc) (S.set d (.sv (.v undef))))(h1:(ops[j]?).bind (·.dst)=some g:=by exact rfl)(h2:S.t g=.sv (.v undef):=by exact rfl)(hd:d<S.n:=by exact tl rfl):RunT P C ops nd K (⟨some d,op,ty,pos,aft,some (j,want)⟩::rest) acc S:=
 RT.YT h1 h2 hd next
end
section
variable {P:Program}{C:Ctx}{ops:Array Oper}{S:AS}{nd:Bool}{K:List Ac→AS→Prop}{rest:List Oper}{acc:List Ac}
variable {gd:Option (Nat×Bool)}{rg:List Nat}{d:Nat}{ty:TypeId}{pos:String}{aft:Array Edge}{x y z:Operand}{T U E0:TypeId}
variable {α:Type}{l l' k:List α}{e:α→List SV}{n by_:Nat}{zv:Value}
theorem ln{m:Nat}[tS:eA P T E0 m]{c:Int}(hx:S.ev x=.sv (slc n (l.map e)))(hc:(l.length:Int)=c)(next:RunT P C ops nd K rest (⟨[]++au x,[],[],⟨some (d,.sv (.v (.int .i64 c))),[],[]⟩⟩::acc) (S.set d (.sv (.v (.int .i64 c)))))(hd:d<S.n:=by exact tl rfl):RunT P C ops nd K (⟨some d,.call ⟨.builtin .len,#[x],#[T]⟩,ty,pos,aft,none⟩::rest) acc S:=
 RT.YQ .none hx hd hc next
theorem al[tz:ax P T zv]{cs:List SV}(hi:bQ (zv.cells.toList.map SV.v) cs){av:List AV}(hav:cs.map AV.sv=av)(next:RunT P C ops nd K rest (⟨[]++[],[d],[],⟨some (d,.ptr d 0),[(d,⟨T,av⟩)],[]⟩⟩::acc) ((S.jV d ⟨T,av⟩).set d (.ptr d 0)))(hd:d<S.n:=by exact tl rfl)(hb:S.b d=none:=by exact rfl)(hp:C.gQ d=none:=by exact rfl):RunT P C ops nd K (⟨some d,.alloc T,ty,pos,aft,none⟩::rest) acc S:=
 RT.rK .none hi hav hd hb hp next
theorem ix[tS:eA P T E0 n]{kk:IntKind}{i:Int}{a:α}(hx:S.ev x=.sv (slc n (l.map e)))(hy:S.ev y=.sv (.v (.int kk i)))(ha:cy l i=some a)(next:RunT P C ops nd K rest (⟨[]++(au x++au y),[],[],⟨some (d,.sv (ref (e a))),[],[]⟩⟩::acc) (S.set d (.sv (ref (e a)))))(hd:d<S.n:=by exact tl rfl):RunT P C ops nd K (⟨some d,.indexAddr T x y,ty,pos,aft,none⟩::rest) acc S:=
 RT.Uv .none hx hy hd ha next
theorem bl[tS:eA P T E0 n][tE:aK P E0 n by_ zv]{len:Nat}{parts:Array (Nat×Operand)}{qs:List (Nat×List SV)}(hp:nZ S parts.toList qs)(hc:qi 0 qs=true)(hl:qs.length=len)(hsz:(qs.all fun q=>Nat.beq q.2.length n)=true)(hlen:Nat.ble (len*n) 16777216=true)(KU:(zv.cells.toList.all fun v=>v.oneCell')=true)(jx:qs.map (·.2)=l.map e)(next:RunT P C ops nd K rest (⟨[]++lF parts.toList,[],[],⟨some (d,.sv (slc n (l.map e))),[],[]⟩⟩::acc) (S.set d (.sv (slc n (l.map e)))))(hd:d<S.n:=by exact tl rfl):RunT P C ops nd K (⟨some d,.buildSlice T len parts,ty,pos,aft,none⟩::rest) acc S:=
 RT.eO .none hp hd hc hl hsz hlen KU jx next
theorem iR[tS:eA P T E0 n]{i j:Nat}{E1:TypeId}{kk:IntKind}{v:Int}(hx:S.ev x=.row i)(hR:S.r i=.live (TR E1 n e l))(hy:S.ev y=.sv (.v (.int kk v)))(h:pI l v=some j)(next:RunT P C ops nd K rest (⟨[]++(au x++au y),[],[i],⟨some (d,.je i (j*n)),[],[]⟩⟩::acc) (S.set d (.je i (j*n))))(hd:d<S.n:=by exact tl rfl):RunT P C ops nd K (⟨some d,.indexAddr T x y,ty,pos,aft,none⟩::rest) acc S:=
 RT.acL .none hx hR hy hd h next
theorem aI{s X:SV}(hx:S.ev x=.sv s)(hi:SV.imp s X)(next:RunT P C ops nd K rest (⟨[]++au x,[],[],⟨some (d,.sv X),[],[]⟩⟩::acc) (S.set d (.sv X)))(hd:d<S.n:=by exact tl rfl):RunT P C ops nd K (⟨some d,.assign x,ty,pos,aft,none⟩::rest) acc S:=
 RT.acJ .none hx hi hd next
theorem bI{pl:List (Nat×Nat)}{zc:List Value}[tP:bK P T pl zc]{parts:Array (Nat×Operand)}{qs:List (Nat×List SV)}(hp:nZ S parts.toList qs){cs cs':List SV}(hi:bQ cs cs')(next:RunT P C ops nd K rest (⟨[]++lF parts.toList,[],[],⟨some (d,.sv (.agg cs')),[],[]⟩⟩::acc) (S.set d (.sv (.agg cs'))))(hf:vY (fun i=>pl[i]?) (zc.map SV.v) qs=some cs:=by exact rfl)(hd:d<S.n:=by exact tl rfl):RunT P C ops nd K (⟨some d,.build T parts,ty,pos,aft,none⟩::rest) acc S:=
 RT.Uu .none hp hf hi hd next
theorem lR[tV:bP P T][el:EL e 1]{i j:Nat}{E1:TypeId}{a:α}{s:SV}(hx:S.ev x=.je i (j*1))(hR:S.r i=.live (TR E1 1 e l))(ha:l[j]? =some a)(hs:e a=[s])(next:RunT P C ops nd K rest (⟨[]++au x,[],[i],⟨some (d,.sv s),[],[]⟩⟩::acc) (S.set d (.sv s)))(hd:d<S.n:=by exact tl rfl):RunT P C ops nd K (⟨some d,.load T x,ty,pos,aft,none⟩::rest) acc S:=
 RT.YR .none hx hR ha hs hd next
theorem aR[tS:eA P T E0 n][tE:aK P E0 n by_ zv]{i:Nat}(hx:S.ev x=.row i)(hR:S.r i=.live (TR E0 n e l))(hy:S.ev y=.sv (slc n (k.map e)))(h:xy by_ l k=some l')(next:RunT P C ops nd K rest (⟨[]++(au x++au y),[],[i,d],⟨some (d,.row d),[],[(i,.dead),(d,.live (TR E0 n e l'))]⟩⟩::acc) ((AS.bA [(i,.dead),(d,.live (TR E0 n e l'))] S).set d (.row d)))(hd:d<S.n:=by exact tl rfl)(yL:S.r d=.un:=by exact rfl)(xx:d<1000:=by exact tl rfl):RunT P C ops nd K (⟨some d,.call ⟨.builtin .append,#[x,y],#[T,T]⟩,ty,pos,aft,none⟩::rest) acc S:=
 RT.apR .none hx hR hy hd yL xx h next
theorem sR[tV:bP P T][el:EL e 1]{i j:Nat}{E1:TypeId}{s:SV}[o1:One s](a:α)(hs:e a=[s])(hx:S.ev x=.je i (j*1))(hR:S.r i=.live (TR E1 1 e l))(hy:S.ev y=.sv s)(h:stM l j a=some l')(next:RunT P C ops nd K rest (⟨[]++(au x++au y),[],[i],⟨none,[],[(i,.live (TR E1 1 e l'))]⟩⟩::acc) (AS.bA [(i,.live (TR E1 1 e l'))] S)):RunT P C ops nd K (⟨none,.store T x y,ty,pos,aft,none⟩::rest) acc S:=
 RT.acM .none a hs hx hR hy h next
theorem sA[tA:iO P T n][el:EL e n]{i j:Nat}{E1:TypeId}(a:α)(hx:S.ev x=.je i (j*n))(hR:S.r i=.live (TR E1 n e l))(hy:S.ev y=.sv (.agg (e a)))(h:stM l j a=some l')(next:RunT P C ops nd K rest (⟨[]++(au x++au y),[],[i],⟨none,[],[(i,.live (TR E1 n e l'))]⟩⟩::acc) (AS.bA [(i,.live (TR E1 n e l'))] S)):RunT P C ops nd K (⟨none,.store T x y,ty,pos,aft,none⟩::rest) acc S:=
 RT.YS .none a hx hR hy h next
theorem lL{m:Nat}[tS:eA P T E0 m]{i:Nat}{E1:TypeId}{c:Int}(hx:S.ev x=.row i)(hR:S.r i=.live (TR E1 n e l))(hc:(l.length:Int)=c)(next:RunT P C ops nd K rest (⟨[]++au x,[],[i],⟨some (d,.sv (.v (.int .i64 c))),[],[]⟩⟩::acc) (S.set d (.sv (.v (.int .i64 c)))))(hd:d<S.n:=by exact tl rfl):RunT P C ops nd K (⟨some d,.call ⟨.builtin .len,#[x],#[T]⟩,ty,pos,aft,none⟩::rest) acc S:=
 RT.SA .none hx hR hd hc next
theorem cR{f:FuncId}[bB P f]{g:Operand}{xs:Array Operand}{at_:Array TypeId}{args:List AV}{E1:TypeId}{res:AV}(hp:IM P f args (TR E1 n e l) res (l'.flatMap e))(hlen:l'.length=l.length)(i:Nat)(hR:S.r i=.live (TR E1 n e l))(hargs:wK S xs.toList (args.map (AV.zW i)))(next:RunT P C ops nd K rest (⟨[]++(au g++xs.toList.flatMap au),[],[i],⟨some (d,res.zW i),[],[(i,.live (TR E1 n e l'))]⟩⟩::acc) ((AS.bA [(i,.live (TR E1 n e l'))] S).set d (res.zW i)))(hrow:args.all AV.yN=true:=by exact rfl)(hres:res.yN=true:=by exact rfl)(hf:S.ev g=.sv (.v (.func (.func f) #[] #[])):=by exact rfl)(hd:d<S.n:=by exact tl rfl):RunT P C ops nd K (⟨some d,.call ⟨.value g,xs,at_⟩,ty,pos,aft,none⟩::rest) acc S:=
 RT.Uz .none hp hlen i hR hrow hres hf hargs hd next
theorem gn{j_ g_:Nat}{fN:Bool}{m:Nat}[tS:eA P T E0 m]{c:Int}(hx:S.ev x=.sv (slc n (l.map e)))(hc:(l.length:Int)=c)(next:RunT P C ops nd K rest (⟨[g_]++au x,[],[],⟨some (d,.sv (.v (.int .i64 c))),[],[]⟩⟩::acc) (S.set d (.sv (.v (.int .i64 c)))))(Du:(ops[j_]?).bind (·.dst)=some g_:=by exact rfl)(Dv:S.t g_=.sv (.v (.bool fN)):=by exact rfl)(hd:d<S.n:=by exact tl rfl):RunT P C ops nd K (⟨some d,.call ⟨.builtin .len,#[x],#[T]⟩,ty,pos,aft,some (j_,fN)⟩::rest) acc S:=
 RT.YQ (.some Du Dv) hx hd hc next
end
section
variable {P:Program}{C:Ctx}{ops:Array Oper}{S:AS}{nd:Bool}{K:List Ac→AS→Prop}{rest:List Oper}{acc:List Ac}
variable {gd:Option (Nat×Bool)}{rg:List Nat}{d:Nat}{ty:TypeId}{pos:String}{aft:Array Edge}{x y z:Operand}{T U E0 E1:TypeId}
theorem fl{f off:Nat}[hf:fG P T f off U][tV:bP P U]{cs:List SV}{s:SV}(hx:S.ev x=.sv (.agg cs))(hs:cs[off]? =some s)(next:RunT P C ops nd K rest (⟨[]++au x,[],[],⟨some (d,.sv s),[],[]⟩⟩::acc) (S.set d (.sv s)))(hd:d<S.n:=by exact tl rfl):RunT P C ops nd K (⟨some d,.field T x f,ty,pos,aft,none⟩::rest) acc S:=
 RT.field .none hx hs hd next
end
end Go.Fw.Z
namespace Go.Proofs.YtningmnklfpfjaaGreat
open Go.Fw
noncomputable def cY(x0:List Nat):Option (List Nat):=xy 4 [] x0
noncomputable def bn(x0:Nat)(c0:Nat):Option (Nat×Nat):=(some ((x0+c0)%18446744073709551616)).bind fun x6=>(some (x6/2^32)).bind fun x8=>(some (x6%4294967296)).bind fun dm=>some (dm,x8)
noncomputable def aD(x0:List Nat):Option (List Nat):=(bU (fun(Ak:(List Nat))=>(show Option (((List Nat))⊕((List Nat)))from cm (fun(BD:Bool)=>(bif BD then(some (Ak.length:Int)).bind fun eT=>(some (IntKind.i64.wrap (eT-1))).bind fun ek=>(xK Ak 0 ek).bind fun kW=>some (.inl kW)else some (.inr Ak))) fun L1=>(some (Ak.length:Int)).bind fun x4=>(some (decide ((0:Int)<x4))).bind fun x5=>(bif x5 then(some (Ak.length:Int)).bind fun x9=>(some (IntKind.i64.wrap (x9-1))).bind fun dm=>(cy Ak dm).bind fun gU=>(some (decide ((gU:Nat)=0))).bind fun fB=>some fB else some false).bind fun yU=>L1 yU)) x0).bind fun BE=>some BE
noncomputable def bJ(x0:Bool)(x1:List Nat):Option (Zr):=(aD x1).bind fun x6=>(some (x6.length:Int)).bind fun x8=>(some (decide ((x8:Int)=0))).bind fun x9=>(bif x9 then some ⟨false,[]⟩else some ⟨x0,x6⟩)
noncomputable def dw(x0:Bool)(x1:Nat):Option (Zr):=(some (decide ((x1:Nat)=0))).bind fun x7=>(bif x7 then some ⟨false,[]⟩else(some (x1/2^32)).bind fun gU=>(some (decide ((gU:Nat)=0))).bind fun dB=>(bif dB then(some (x1%4294967296)).bind fun dA=>some ⟨x0,[dA]⟩else(some (x1%4294967296)).bind fun gB=>(some (x1/2^32)).bind fun iP=>(some (iP%4294967296)).bind fun kA=>some ⟨x0,[gB,kA]⟩))
noncomputable def dj(x0:List Nat):Option (Nat):=(some (x0.length:Int)).bind fun x4=>(some (decide ((x4:Int)=0))).bind fun x6=>(bif x6 then some 0 else(some (decide ((x4:Int)=1))).bind fun x8=>(bif x8 then(cy x0 0).bind fun dm=>(some (dm%18446744073709551616)).bind fun dB=>some dB else(cy x0 0).bind fun eU=>(some (eU%18446744073709551616)).bind fun gu=>(cy x0 1).bind fun ek=>(some (ek%18446744073709551616)).bind fun gB=>(some (gB*2^32%18446744073709551616)).bind fun iv=>(some ((gu ||| iv)%18446744073709551616)).bind fun iP=>some iP))
noncomputable def cI(x0:List Nat)(x1:List Nat):Option (Int):=(some (x0.length:Int)).bind fun x7=>(some (x1.length:Int)).bind fun x9=>(some (decide ((x7:Int)≠x9))).bind fun dm=>(bif dm then(some (x0.length:Int)).bind fun dB=>(some (x1.length:Int)).bind fun eU=>(some (decide ((dB:Int)<eU))).bind fun dA=>(bif dA then some (-1)else some 1)else(some (x0.length:Int)).bind fun eT=>(some (IntKind.i64.wrap (eT-1))).bind fun ek=>(bU (fun(qF:Int)=>(show Option ((Int)⊕((Unit)⊕(Int)))from(some (decide ((0:Int)≤qF))).bind fun gB=>(bif gB then(cy x0 qF).bind fun yH=>(cy x1 qF).bind fun gH=>(some (decide ((yH:Nat)≠gH))).bind fun td=>(bif td then(cy x0 qF).bind fun pH=>(cy x1 qF).bind fun Al=>(some (decide ((pH:Nat)<Al))).bind fun lu=>(bif lu then some (.inr (.inr (-1)))else some (.inr (.inr 1)))else(some (IntKind.i64.wrap (qF-1))).bind fun iP=>some (.inl iP))else some (.inr (.inl ()))))) ek).bind fun e6=>match e6 with|.inr v6=>some v6|.inl _=>some 0)
noncomputable def c9(x0:List Nat)(x1:List Nat):Option (List Nat):=(some (x0.length:Int)).bind fun dm=>(some (x1.length:Int)).bind fun dB=>(some (max (dm:Int) dB)).bind fun fB=>(some (IntKind.i64.wrap (fB+1))).bind fun eU=>(ME (α:=Nat) 4 eU).bind fun dA=>(lH (fun(k:Nat) (s7:Nat×(List Nat))=>match s7 with|⟨rM,gx⟩=>(show Option (Nat×(List Nat))from(some (x0.getD k 0%18446744073709551616)).bind fun YX=>(some (x1.getD k 0%18446744073709551616)).bind fun YY=>(some ((YX+YY)%18446744073709551616)).bind fun lI=>(bn lI rM).bind fun⟨kq,k9⟩=>(xy 4 gx [kq]).bind fun gH=>some (k9,gH))) (max x0.length x1.length) (0,dA)).bind fun e7=>match e7 with|⟨rM,gx⟩=>(bn 0 rM).bind fun⟨iD,k11⟩=>(xy 4 gx [iD]).bind fun pH=>some pH
noncomputable def bZ(x0:List Nat)(x1:List Nat):Option (List Nat):=(some (x0.length:Int)).bind fun dm=>(ME (α:=Nat) 4 dm).bind fun gU=>(lH (fun(k:Nat) (s7:Nat×(List Nat))=>match s7 with|⟨vm,gx⟩=>(show Option (Nat×(List Nat))from(some (x0.getD k 0%18446744073709551616)).bind fun YZ=>(some (x1.getD k 0%18446744073709551616)).bind fun Y0=>(some (pJ 18446744073709551616 4294967295 Y0)).bind fun iP=>(some ((YZ+iP)%18446744073709551616)).bind fun kA=>(bn kA vm).bind fun⟨fR,k9⟩=>(xy 4 gx [fR]).bind fun lI=>some (k9,lI))) (max x0.length x1.length) (1,gU)).bind fun e7=>match e7 with|⟨vm,gx⟩=>some gx
noncomputable def dO(x0:List Nat)(x1:List Nat):Option (List Nat):=(some (x0.length:Int)).bind fun dB=>(some (x1.length:Int)).bind fun eU=>(some (IntKind.i64.wrap (dB+eU))).bind fun dA=>(AT 4 dA (0:Nat)).bind fun gu=>(some (x0.length:Int)).bind fun ek=>(bU (fun(MS:Int×(List Nat))=>match MS with|⟨ku,yV⟩=>(show Option ((Int×(List Nat))⊕((List Nat)))from(some (decide ((ku:Int)<ek))).bind fun gB=>(bif gB then(cy x0 ku).bind fun iP=>(some (x1.length:Int)).bind fun lI=>(bU (fun(Ea:Int×Nat×(List Nat))=>match Ea with|⟨wS,qG,rN⟩=>(show Option ((Int×Nat×(List Nat))⊕(Nat×(List Nat)))from(some (decide ((wS:Int)<lI))).bind fun mN=>(bif mN then(cy x1 wS).bind fun yW=>(some (IntKind.i64.wrap (ku+wS))).bind fun rO=>(some (IntKind.i64.wrap (ku+wS))).bind fun lu=>(pI rN lu).bind fun rP=>(rN[rP]?).bind fun rB=>(some (rB%18446744073709551616)).bind fun vn=>(some (iP%18446744073709551616)).bind fun Di=>(some (yW%18446744073709551616)).bind fun tQ=>(some ((Di*tQ)%18446744073709551616)).bind fun sO=>(some ((vn+sO)%18446744073709551616)).bind fun MT=>(bn MT qG).bind fun⟨vo,Y1⟩=>(pI rN rO).bind fun BF=>(stM rN BF vo).bind fun Qd=>(some (IntKind.i64.wrap (wS+1))).bind fun wj=>some (.inl (wj,Y1,Qd))else some (.inr (qG,rN))))) (0,0,yV)).bind fun UB=>match UB with|⟨BG,Fa⟩=>(some (x1.length:Int)).bind fun Fb=>(some (IntKind.i64.wrap (ku+Fb))).bind fun Qe=>(bn 0 BG).bind fun⟨IU,k45⟩=>(pI Fa Qe).bind fun JX=>(stM Fa JX IU).bind fun Y2=>(some (IntKind.i64.wrap (ku+1))).bind fun Fe=>some (.inl (Fe,Y2))else some (.inr yV)))) (0,gu)).bind fun mO=>some mO
noncomputable def ig(x0:List Nat)(x1:Nat):Option (Nat×List Nat):=(some (x0.length:Int)).bind fun x9=>(some (IntKind.i64.wrap (x9-1))).bind fun dm=>(bU (fun(s8:Nat×Int×(List Nat))=>match s8 with|⟨MU,MV,rQ⟩=>(show Option ((Nat×Int×(List Nat))⊕(Nat×(List Nat)))from(some (decide ((0:Int)≤MV))).bind fun dB=>(bif dB then(some (MU*2^32%18446744073709551616)).bind fun gu=>(pI rQ MV).bind fun kW=>(rQ[kW]?).bind fun gB=>(some (gB%18446744073709551616)).bind fun iv=>(some ((gu ||| iv)%18446744073709551616)).bind fun iP=>(E6 18446744073709551616 iP x1).bind fun kq=>(some (kq%4294967296)).bind fun mN=>(pI rQ MV).bind fun gH=>(stM rQ gH mN).bind fun qH=>(Dt iP x1).bind fun iD=>(some (IntKind.i64.wrap (MV-1))).bind fun eU=>some (.inl (iD,eU,qH))else some (.inr (MU,rQ))))) (0,dm,x0)).bind fun e8=>match e8 with|⟨Y3,AY⟩=>(we x0 AY).bind fun _=>some (Y3,AY)
noncomputable def fk(x0:List Nat)(x1:Nat):Option (List Nat):=(some (x0.length:Int)).bind fun gU=>(some (IntKind.i64.wrap (gU+1))).bind fun dB=>(ME (α:=Nat) 4 dB).bind fun fB=>(some (x0.length:Int)).bind fun dA=>(bU (fun(s8:Int×Nat×(List Nat))=>match s8 with|⟨xM,rR,gx⟩=>(show Option ((Int×Nat×(List Nat))⊕(Nat×(List Nat)))from(some (decide ((xM:Int)<dA))).bind fun eT=>(bif eT then(cy x0 xM).bind fun ek=>(some (ek%18446744073709551616)).bind fun kA=>(some (kA*2^(min x1 64)%18446744073709551616)).bind fun yH=>(bn yH rR).bind fun⟨lI,UC⟩=>(xy 4 gx [lI]).bind fun mN=>(some (IntKind.i64.wrap (xM+1))).bind fun gH=>some (.inl (gH,UC,mN))else some (.inr (rR,gx))))) (0,0,fB)).bind fun e8=>match e8 with|⟨BH,MW⟩=>(bn 0 BH).bind fun⟨iD,k12⟩=>(xy 4 MW [iD]).bind fun pH=>some pH
noncomputable def iE(x0:List Nat)(x1:Nat):Option (List Nat):=(some (x0.length:Int)).bind fun gU=>(some (IntKind.i64.wrap (gU+1))).bind fun dB=>(ME (α:=Nat) 4 dB).bind fun fB=>(some (x0.length:Int)).bind fun dA=>(bU (fun(s8:Int×Nat×(List Nat))=>match s8 with|⟨xM,rR,Ff⟩=>(show Option ((Int×Nat×(List Nat))⊕(Nat×(List Nat)))from(some (decide ((xM:Int)<dA))).bind fun eT=>(bif eT then(cy x0 xM).bind fun ek=>(some (ek%18446744073709551616)).bind fun kA=>(some (kA*2^(min x1 64)%18446744073709551616)).bind fun yH=>(bn yH rR).bind fun⟨lI,UC⟩=>(xy 4 Ff [lI]).bind fun mN=>(some (IntKind.i64.wrap (xM+1))).bind fun gH=>some (.inl (gH,UC,mN))else some (.inr (rR,Ff))))) (0,0,fB)).bind fun e8=>match e8 with|⟨BH,MX⟩=>(bn 0 BH).bind fun⟨iD,k12⟩=>(xy 4 MX [iD]).bind fun pH=>some pH
noncomputable def gI(x0:Nat):Option (Int):=(some (decide ((65536:Nat)≤x0))).bind fun x4=>cm (fun(j2:Nat×Int)=>match j2 with|⟨IV,QN⟩=>(some (decide ((256:Nat)≤IV))).bind fun x8=>cm (fun(j4:Nat×Int)=>match j4 with|⟨Y4,Y5⟩=>(some (Y4%256)).bind fun dA=>(wc [0,1,2,2,3,3,3,3,4,4,4,4,4,4,4,4,5,5,5,5,5,5,5,5,5,5,5,5,5,5,5,5,6,6,6,6,6,6,6,6,6,6,6,6,6,6,6,6,6,6,6,6,6,6,6,6,6,6,6,6,6,6,6,6,7,7,7,7,7,7,7,7,7,7,7,7,7,7,7,7,7,7,7,7,7,7,7,7,7,7,7,7,7,7,7,7,7,7,7,7,7,7,7,7,7,7,7,7,7,7,7,7,7,7,7,7,7,7,7,7,7,7,7,7,7,7,7,7,8,8,8,8,8,8,8,8,8,8,8,8,8,8,8,8,8,8,8,8,8,8,8,8,8,8,8,8,8,8,8,8,8,8,8,8,8,8,8,8,8,8,8,8,8,8,8,8,8,8,8,8,8,8,8,8,8,8,8,8,8,8,8,8,8,8,8,8,8,8,8,8,8,8,8,8,8,8,8,8,8,8,8,8,8,8,8,8,8,8,8,8,8,8,8,8,8,8,8,8,8,8,8,8,8,8,8,8,8,8,8,8,8,8,8,8,8,8,8,8,8,8,8,8,8,8,8,8] ((dA:Nat):Int)).bind fun gu=>(some (IntKind.i64.wrap (gu:Int))).bind fun eT=>(some (IntKind.i64.wrap (Y5+eT))).bind fun ek=>some ek) fun K4=>(bif x8 then(some (IV/2^8)).bind fun dm=>(some (IntKind.i64.wrap (QN+8))).bind fun dB=>K4 (dm,dB)else K4 (IV,QN))) fun K2=>(bif x4 then(some (x0/2^16)).bind fun x6=>K2 (x6,16)else K2 (x0,0))
noncomputable def cZ(x0:Nat):Option (Int):=(gI x0).bind fun x4=>(some (IntKind.i64.wrap (32-x4))).bind fun x5=>some x5
noncomputable def ij(x0:List Nat)(o0:Nat)(n0:Nat)(x1:List Nat):Option (Nat×List Nat):=(some (x1.length:Int)).bind fun dB=>(Qc o0 n0 dB).bind fun dA=>(x0[dA]?).bind fun gu=>(some (gu%18446744073709551616)).bind fun eT=>(some (eT*2^32%18446744073709551616)).bind fun ek=>(some (IntKind.i64.wrap (dB-1))).bind fun iv=>(Qc o0 n0 iv).bind fun iP=>(x0[iP]?).bind fun kA=>(some (kA%18446744073709551616)).bind fun fR=>(some ((ek ||| fR)%18446744073709551616)).bind fun yH=>(some (IntKind.i64.wrap (dB-1))).bind fun mN=>(cy x1 mN).bind fun gH=>(some (gH%18446744073709551616)).bind fun td=>(some (IntKind.i64.wrap (dB-2))).bind fun pH=>(cy x1 pH).bind fun rO=>(some (rO%18446744073709551616)).bind fun tf=>(E6 18446744073709551616 yH td).bind fun lu=>(Dt yH td).bind fun vn=>(bU (fun(zZ:Nat×Nat)=>match zZ with|⟨Dw,Eb⟩=>(show Option ((Nat×Nat)⊕(Nat))from cm (fun(IW:Bool)=>(bif IW then(some (pJ 18446744073709551616 Dw 1)).bind fun UD=>(some ((Eb+td)%18446744073709551616)).bind fun L2=>(some (L2/2^32)).bind fun L3=>(some (decide ((L3:Nat)≠0))).bind fun MY=>(bif MY then some (.inr UD)else some (.inl (UD,L2)))else some (.inr Dw))) fun L1=>(some (Dw/2^32)).bind fun Di=>(some (decide ((Di:Nat)≠0))).bind fun vp=>(bif vp then some true else(some ((Dw*tf)%18446744073709551616)).bind fun vo=>(some (Eb*2^32%18446744073709551616)).bind fun wj=>(some (IntKind.i64.wrap (dB-2))).bind fun xz=>(Qc o0 n0 xz).bind fun Fb=>(x0[Fb]?).bind fun Qe=>(some (Qe%18446744073709551616)).bind fun x58=>(some ((wj ||| x58)%18446744073709551616)).bind fun IU=>(some (decide ((IU:Nat)<vo))).bind fun JX=>some JX).bind fun MZ=>L1 MZ)) (lu,vn)).bind fun K1=>(we x0 x0).bind fun _=>some (K1,x0)
noncomputable def cS(x0:List Nat)(o0:Nat)(n0:Nat)(x1:List Nat)(x2:Nat):Option (Bool×List Nat):=(some (n0:Int)).bind fun eU=>(bU (fun(xN:Nat×Int×Nat×(List Nat))=>match xN with|⟨La,xO,Fg,vr⟩=>(show Option ((Nat×Int×Nat×(List Nat))⊕(Nat×(List Nat)))from(some (decide ((xO:Int)<eU))).bind fun gu=>(bif gu then(some (x1.length:Int)).bind fun gB=>(some (decide ((xO:Int)<gB))).bind fun iv=>cm (fun(M1:Nat)=>(Qc o0 n0 xO).bind fun td=>(vr[td]?).bind fun iD=>(some (iD%18446744073709551616)).bind fun rS=>(bn M1 Fg).bind fun⟨oC,k16⟩=>(some (oC%18446744073709551616)).bind fun tf=>(some (pJ 18446744073709551616 rS tf)).bind fun Al=>(some (pJ 18446744073709551616 Al La)).bind fun lu=>(some (lu%4294967296)).bind fun vJ=>(Qc o0 n0 xO).bind fun Di=>(stM vr Di vJ).bind fun l18=>(some (lu/2^63)).bind fun tQ=>(some (IntKind.i64.wrap (xO+1))).bind fun sO=>some (.inl (tQ,sO,k16,l18))) fun K14=>(bif iv then(cy x1 xO).bind fun fR=>(some (fR%18446744073709551616)).bind fun lI=>(some ((lI*x2)%18446744073709551616)).bind fun mN=>K14 mN else K14 0)else some (.inr (La,vr))))) (0,0,0,x0)).bind fun M3=>match M3 with|⟨M4,xP⟩=>(some (decide ((M4:Nat)≠0))).bind fun vo=>(we x0 xP).bind fun _=>some (vo,xP)
noncomputable def fz(x0:List Nat)(x1:List Nat):Option ((List Nat)×(List Nat)):=(some (x1.length:Int)).bind fun eT=>(some (IntKind.i64.wrap (eT-1))).bind fun gB=>(cy x1 gB).bind fun iv=>(cZ iv).bind fun kA=>(some ((kA%18446744073709551616).toNat)).bind fun fR=>(iE x0 fR).bind fun kq=>(fk x1 fR).bind fun yW=>(xK yW 0 eT).bind fun iD=>(some (x0.length:Int)).bind fun pH=>(some (IntKind.i64.wrap (pH-eT))).bind fun oC=>(some (IntKind.i64.wrap (oC+1))).bind fun tf=>(AT 4 tf (0:Nat)).bind fun Al=>(some (x0.length:Int)).bind fun lu=>(some (IntKind.i64.wrap (lu-eT))).bind fun rB=>(bU (fun(Lb:Int×(List Nat)×(List Nat))=>match Lb with|⟨fX,mP,qk⟩=>(show Option ((Int×(List Nat)×(List Nat))⊕((List Nat)×(List Nat)))from(some (decide ((0:Int)≤fX))).bind fun vJ=>(bif vJ then(some (IntKind.i64.wrap (fX+eT))).bind fun BF=>(some (IntKind.i64.wrap (BF+1))).bind fun wj=>(Ux qk fX wj).bind fun⟨o53,n53⟩=>(ij qk o53 n53 iD).bind fun⟨xz,IA⟩=>(we qk IA).bind fun _=>(some (IntKind.i64.wrap (fX+eT))).bind fun JX=>(some (IntKind.i64.wrap (JX+1))).bind fun Fe=>(Ux IA fX Fe).bind fun⟨o62,n62⟩=>(cS IA o62 n62 iD xz).bind fun⟨Y6,Lc⟩=>(we IA Lc).bind fun _=>cm (fun(Ld:Nat×(List Nat))=>match Ld with|⟨IX,BI⟩=>(some (IX%4294967296)).bind fun M5=>(pI mP fX).bind fun UE=>(stM mP UE M5).bind fun Y7=>(some (IntKind.i64.wrap (fX-1))).bind fun vp=>some (.inl (vp,Y7,BI))) fun K53=>(bif Y6 then(some (pJ 18446744073709551616 xz 1)).bind fun Gn=>(some (iD.length:Int)).bind fun M6=>(bU (fun(Le:Int×Nat×(List Nat))=>match Le with|⟨wU,qJ,rT⟩=>(show Option ((Int×Nat×(List Nat))⊕(Nat×(List Nat)))from(some (decide ((wU:Int)<M6))).bind fun L4=>(bif L4 then(cy iD wU).bind fun UF=>(some (IntKind.i64.wrap (fX+wU))).bind fun Lf=>(some (IntKind.i64.wrap (fX+wU))).bind fun x84=>(pI rT x84).bind fun X1=>(rT[X1]?).bind fun Qf=>(some (Qf%18446744073709551616)).bind fun QO=>(some (UF%18446744073709551616)).bind fun QS=>(some ((QO+QS)%18446744073709551616)).bind fun Qg=>(bn Qg qJ).bind fun⟨Y8,Y9⟩=>(pI rT Lf).bind fun x92=>(stM rT x92 Y8).bind fun Za=>(some (IntKind.i64.wrap (wU+1))).bind fun SE=>some (.inl (SE,Y9,Za))else some (.inr (qJ,rT))))) (0,0,Lc)).bind fun Zb=>match Zb with|⟨BJ,yX⟩=>(some (IntKind.i64.wrap (fX+eT))).bind fun X2=>(some (IntKind.i64.wrap (fX+eT))).bind fun UG=>(pI yX UG).bind fun IY=>(yX[IY]?).bind fun UH=>(some (UH%18446744073709551616)).bind fun UI=>(bn UI BJ).bind fun⟨M7,k72⟩=>(pI yX X2).bind fun UJ=>(stM yX UJ M7).bind fun Zc=>K53 (Gn,Zc)else K53 (xz,Lc))else some (.inr (mP,qk))))) (rB,Al,kq)).bind fun Zd=>match Zd with|⟨rU,tR⟩=>(AT 4 eT (0:Nat)).bind fun UL=>(bU (fun(M8:Int×(List Nat))=>match M8 with|⟨rV,rW⟩=>(show Option ((Int×(List Nat))⊕((List Nat)))from(some (decide ((rV:Int)<eT))).bind fun M9=>(bif M9 then(pI tR rV).bind fun UM=>(tR[UM]?).bind fun UN=>(some (UN%18446744073709551616)).bind fun Na=>(some (IntKind.i64.wrap (rV+1))).bind fun UO=>(pI tR UO).bind fun UP=>(tR[UP]?).bind fun UQ=>(some (UQ%18446744073709551616)).bind fun Nb=>(some (Nb*2^32%18446744073709551616)).bind fun Nc=>(some ((Na ||| Nc)%18446744073709551616)).bind fun Nd=>(some (Nd/2^(min fR 64))).bind fun UR=>(some (UR%4294967296)).bind fun Nf=>(pI rW rV).bind fun US=>(stM rW US Nf).bind fun Ze=>(some (IntKind.i64.wrap (rV+1))).bind fun Ng=>some (.inl (Ng,Ze))else some (.inr rW)))) (0,UL)).bind fun jW=>some (rU,jW)
noncomputable def dP(x0:List Nat)(x1:List Nat):Option ((List Nat)×(List Nat)):=(cI x0 x1).bind fun dB=>(some (decide ((dB:Int)<0))).bind fun fB=>(bif fB then(cY x0).bind fun dA=>some ([],dA)else(some (x0.length:Int)).bind fun ek=>(some (decide ((ek:Int)≤2))).bind fun kW=>(bif kW then(dj x0).bind fun iv=>(dj x1).bind fun kA=>(E6 18446744073709551616 iv kA).bind fun lI=>(dw false lI).bind fun⟨sP,qK⟩=>(Dt iv kA).bind fun td=>(dw false td).bind fun⟨kX,kC⟩=>some (qK,kC)else(some (x1.length:Int)).bind fun oC=>(some (decide ((oC:Int)=1))).bind fun tf=>(bif tf then(cY x0).bind fun tg=>(cy x1 0).bind fun rB=>(some (rB%18446744073709551616)).bind fun vJ=>(ig tg vJ).bind fun⟨Di,l5⟩=>(we tg l5).bind fun _=>(some (Di%4294967296)).bind fun sO=>some (l5,[sO])else(fz x0 x1).bind fun⟨UT,UU⟩=>some (UT,UU))))
noncomputable def bw(x0:Int):Option (Zr):=(some ((x0%18446744073709551616).toNat)).bind fun x5=>(some (decide ((x0:Int)<0))).bind fun x7=>cm (fun(UW:Nat)=>(some (decide ((x0:Int)<0))).bind fun gU=>(dw gU UW).bind fun⟨Ec,Ed⟩=>some ⟨Ec,Ed⟩) fun K2=>(bif x7 then(some (pJ 18446744073709551616 0 x5)).bind fun x9=>K2 x9 else K2 x5)
noncomputable def c7(x0:Zr):Option (Int×Bool):=match x0 with|⟨aB,aC⟩=>(aD aC).bind fun x8=>(some (x8.length:Int)).bind fun dm=>(some (decide ((2:Int)<dm))).bind fun gU=>(bif gU then some (0,false)else(dj x8).bind fun fB=>(bif aB then(some (decide ((9223372036854775808:Nat)<fB))).bind fun eT=>(bif eT then some (0,false)else(some (pJ 18446744073709551616 0 fB)).bind fun kW=>(some (IntKind.i64.wrap (kW:Int))).bind fun gB=>some (gB,true))else(some (decide ((9223372036854775808:Nat)≤fB))).bind fun iP=>(bif iP then some (0,false)else(some (IntKind.i64.wrap (fB:Int))).bind fun fR=>some (fR,true))))
noncomputable def cf(x0:Bool)(x1:List Nat)(x2:Bool)(x3:List Nat):Option (Zr):=(some (x0==x2)).bind fun gU=>(bif gU then(c9 x1 x3).bind fun dA=>(bJ x0 dA).bind fun⟨jz,jA⟩=>some ⟨jz,jA⟩else(cI x1 x3).bind fun kW=>(some (decide ((kW:Int)<0))).bind fun gB=>(bif gB then(bZ x3 x1).bind fun fR=>(bJ x2 fR).bind fun⟨ik,hG⟩=>some ⟨ik,hG⟩else(bZ x1 x3).bind fun gH=>(bJ x0 gH).bind fun⟨oK,oL⟩=>some ⟨oK,oL⟩))
noncomputable def jB(x0:Zr)(x1:Zr):Option (Zr):=match x0 with|⟨aB,aC⟩=>match x1 with|⟨bF,bC⟩=>(c7 ⟨aB,aC⟩).bind fun⟨xQ,BK⟩=>(c7 ⟨bF,bC⟩).bind fun⟨yY,BL⟩=>cm (fun(tW:Bool)=>cm (fun(j5:Unit)=>(aD aC).bind fun rP=>(aD bC).bind fun vp=>(cf aB rP bF vp).bind fun⟨Ee,Ef⟩=>some ⟨Ee,Ef⟩) fun K5=>(bif tW then(some (IntKind.i64.wrap (xQ+yY))).bind fun lI=>(some (IntKind.i64.wrap ((BitVec.ofInt 64 xQ ^^^ BitVec.ofInt 64 lI).toNat))).bind fun gH=>(some (IntKind.i64.wrap ((BitVec.ofInt 64 yY ^^^ BitVec.ofInt 64 lI).toNat))).bind fun iD=>(some (IntKind.i64.wrap ((BitVec.ofInt 64 gH &&& BitVec.ofInt 64 iD).toNat))).bind fun rS=>(some (decide ((0:Int)≤rS))).bind fun pH=>(bif pH then(bw lI).bind fun⟨tX,tY⟩=>some ⟨tX,tY⟩else K5 ())else K5 ())) fun K3=>(bif BK then some BL else some false).bind fun BM=>K3 BM
noncomputable def jC(x0:Zr)(x1:Zr):Option (Zr):=match x0 with|⟨aB,aC⟩=>match x1 with|⟨bF,bC⟩=>(c7 ⟨aB,aC⟩).bind fun⟨xQ,BK⟩=>(c7 ⟨bF,bC⟩).bind fun⟨yY,BL⟩=>cm (fun(tW:Bool)=>cm (fun(j5:Unit)=>(aD aC).bind fun rP=>(some (!bF)).bind fun vJ=>(aD bC).bind fun tQ=>(cf aB rP vJ tQ).bind fun⟨Nh,Ni⟩=>some ⟨Nh,Ni⟩) fun K5=>(bif tW then(some (IntKind.i64.wrap (xQ-yY))).bind fun lI=>(some (IntKind.i64.wrap ((BitVec.ofInt 64 xQ ^^^ BitVec.ofInt 64 yY).toNat))).bind fun gH=>(some (IntKind.i64.wrap ((BitVec.ofInt 64 xQ ^^^ BitVec.ofInt 64 lI).toNat))).bind fun iD=>(some (IntKind.i64.wrap ((BitVec.ofInt 64 gH &&& BitVec.ofInt 64 iD).toNat))).bind fun rS=>(some (decide ((0:Int)≤rS))).bind fun pH=>(bif pH then(bw lI).bind fun⟨tX,tY⟩=>some ⟨tX,tY⟩else K5 ())else K5 ())) fun K3=>(bif BK then some BL else some false).bind fun BM=>K3 BM
noncomputable def cu(x0:Zr)(x1:Zr):Option (Zr):=match x0 with|⟨aB,aC⟩=>match x1 with|⟨bF,bC⟩=>(aD aC).bind fun x9=>(aD bC).bind fun dB=>cm (fun(GP:Bool)=>(bif GP then(some (!(aB==bF))).bind fun yH=>(dj x9).bind fun kq=>(dj dB).bind fun gH=>(some ((kq*gH)%18446744073709551616)).bind fun yW=>(dw yH yW).bind fun⟨Nj,Nk⟩=>some ⟨Nj,Nk⟩else(some (!(aB==bF))).bind fun oC=>(dO x9 dB).bind fun tg=>(bJ oC tg).bind fun⟨tZ,ua⟩=>some ⟨tZ,ua⟩)) fun K3=>(some (x9.length:Int)).bind fun eU=>(some (decide ((eU:Int)≤1))).bind fun dA=>(bif dA then(some (dB.length:Int)).bind fun ek=>(some (decide ((ek:Int)≤1))).bind fun kW=>some kW else some false).bind fun Nl=>K3 Nl
noncomputable def eV(x0:Zr):Option (Zr):=match x0 with|⟨aB,aC⟩=>(some (!aB)).bind fun x5=>(aD aC).bind fun x8=>(cY x8).bind fun x9=>(bJ x5 x9).bind fun⟨BN,BO⟩=>some ⟨BN,BO⟩
noncomputable def cK(x0:Zr):Option (Int):=match x0 with|⟨aB,aC⟩=>(aD aC).bind fun x6=>(some (x6.length:Int)).bind fun x7=>(some (decide ((x7:Int)=0))).bind fun x8=>(bif x8 then some 0 else(bif aB then some (-1)else some 1))
noncomputable def nq(x0:Zr)(x1:Zr):Option (Int):=match x0 with|⟨aB,aC⟩=>match x1 with|⟨bF,bC⟩=>(cK ⟨aB,aC⟩).bind fun x8=>(cK ⟨bF,bC⟩).bind fun dm=>(some (decide ((x8:Int)<dm))).bind fun eU=>(bif eU then some (-1)else(some (decide ((dm:Int)<x8))).bind fun ek=>(bif ek then some 1 else(some (decide ((x8:Int)<0))).bind fun iv=>(bif iv then(aD bC).bind fun fR=>(aD aC).bind fun kq=>(cI fR kq).bind fun mN=>some mN else(aD aC).bind fun td=>(aD bC).bind fun pH=>(cI td pH).bind fun rO=>some rO)))
noncomputable def dx(x0:Zr)(x1:Zr):Option (Zr×Zr×Int):=match x0 with|⟨aB,aC⟩=>match x1 with|⟨bF,bC⟩=>(aD aC).bind fun fB=>(aD bC).bind fun gu=>(some (gu.length:Int)).bind fun ek=>(some (decide ((ek:Int)=0))).bind fun kW=>(bif kW then some (⟨false,[]⟩,⟨false,[]⟩,7)else(dP fB gu).bind fun⟨GQ,UX⟩=>(aD UX).bind fun gH=>cm (fun(j3:Bool×Bool)=>match j3 with|⟨GR,BP⟩=>cm (fun(j5:(List Nat)×(List Nat))=>match j5 with|⟨UY,Nm⟩=>(some (!(BP==bF))).bind fun tQ=>(bJ tQ UY).bind fun⟨Nn,No⟩=>(bJ false Nm).bind fun⟨BQ,BR⟩=>some (⟨Nn,No⟩,⟨BQ,BR⟩,0)) fun K5=>(bif GR then(c9 GQ [1]).bind fun tg=>(bZ gu gH).bind fun rB=>K5 (tg,rB)else K5 (GQ,gH))) fun K3=>(bif aB then(some (gH.length:Int)).bind fun pH=>(some (decide ((0:Int)<pH))).bind fun rO=>some rO else some false).bind fun Np=>K3 (Np,aB))
noncomputable def iz(x0:Zr)(x1:Zr):Option (Zr):=match x0 with|⟨aB,aC⟩=>match x1 with|⟨bF,bC⟩=>(aD aC).bind fun fB=>(aD bC).bind fun gu=>(bU (fun(xN:(List Nat)×(List Nat))=>match xN with|⟨vK,yZ⟩=>(show Option (((List Nat)×(List Nat))⊕((List Nat)×(List Nat)))from cm (fun(BS:Bool)=>(bif BS then(dP vK yZ).bind fun⟨Zf,UZ⟩=>(aD UZ).bind fun Al=>some (.inl (yZ,Al))else some (.inr (vK,yZ)))) fun K16=>(some (yZ.length:Int)).bind fun ek=>(some (decide ((0:Int)<ek))).bind fun kW=>(bif kW then(some (vK.length:Int)).bind fun iP=>(some (decide ((2:Int)<iP))).bind fun kA=>(bif kA then some true else(some (yZ.length:Int)).bind fun lI=>(some (decide ((2:Int)<lI))).bind fun kq=>some kq).bind fun IZ=>some IZ else some false).bind fun I0=>K16 I0)) (fB,gu)).bind fun M3=>match M3 with|⟨JY,JZ⟩=>(some (JZ.length:Int)).bind fun lu=>(some (decide ((lu:Int)=0))).bind fun rP=>(bif rP then(cY JY).bind fun vn=>(bJ false vn).bind fun⟨Eg,Eh⟩=>some ⟨Eg,Eh⟩else(dj JY).bind fun vp=>(dj JZ).bind fun sO=>(bU (fun(Nq:Nat×Nat)=>match Nq with|⟨Ei,rX⟩=>(show Option ((Nat×Nat)⊕(Nat))from(some (decide ((0:Nat)<rX))).bind fun vo=>(bif vo then(Dt Ei rX).bind fun Dx=>some (.inl (rX,Dx))else some (.inr Ei)))) (vp,sO)).bind fun uc=>(dw false uc).bind fun⟨Nr,Ns⟩=>some ⟨Nr,Ns⟩)
end Go.Proofs.YtningmnklfpfjaaGreat
namespace Go.Proofs.YtningmnklfpfjaaGreat
open Go.Fw Go.Fw.Z Go.RowKit
theorem cz(c:Nat):Uj Tryz.prog 186 [.v (.int .u64 (c:Nat))] 202 128 [.v (.int .u64 (c:Nat))]:=by
 refine IN Tryz.func186 rfl (Nat.le_of_ble_eq_true rfl) (fun cG M vs hvs=>?_)
 exact sr<|RT.vG .none (s:=.sv _) rfl T rfl rfl<|ag rfl<|dn<|sr<|RT.makeFunc .none (.box rfl (.nil)) T<|an (s:=.ey _ _) rfl<|dn<|aj<|⟨.inr rfl,_,.tmp rfl,rfl⟩
theorem lJ(a b:List Nat):Pure Tryz.prog 206 [(slc 1 (List.map ah a)),(slc 1 (List.map ah b))] (gS 214 [ref [(slc 1 (List.map ah a))],ref [(slc 1 (List.map ah b))]]):=by
 refine ay Tryz.func206 rfl (Nat.le_of_ble_eq_true rfl) (fun cG M vs hvs=>?_)
 refine sr<|RT.vG .none (s:=.sv _) rfl T rfl rfl<|RT.vG .none (s:=.sv _) rfl T rfl rfl<|ag rfl<|dn<|sr<|RT.makeFunc .none (.box rfl (.box rfl (.nil))) T<|an (s:=.ey _ _) rfl<|dn<|bh (gz (i:=2) rfl [(slc 1 (List.map ah a))] (.cons rfl .nil) .any 0 [(4,.ey 214 [.val (ref [(slc 1 (List.map ah a))]),.box 3])] (fun _ _ _=>trivial) (qy.h (l:=[(slc 1 (List.map ah a))])) ⟨@FT.ey _ _ _ _ _ 4 214 [.box 2,.box 3] rfl,trivial⟩) ?_
 exact bh (gz (i:=3) rfl [(slc 1 (List.map ah b))] (.cons rfl .nil) .any 0 [(4,.ey 214 [.val (ref [(slc 1 (List.map ah a))]),.val (ref [(slc 1 (List.map ah b))])])] (fun _ _ _=>trivial) (qy.h (l:=[(slc 1 (List.map ah b))])) ⟨@FT.ey _ _ _ _ _ 4 214 [.val (ref [(slc 1 (List.map ah a))]),.box 3] rfl,trivial⟩)<|bh (E4 4 (gS 214 [ref [(slc 1 (List.map ah a))],ref [(slc 1 (List.map ah b))]]) (fun _ _ h=>E5 h))<|aj<|⟨.inr rfl,EZ (.tmp rfl (.nil)) rfl⟩
theorem lK(a b:List Nat):Iter Tryz.prog 214 [ref [(slc 1 (List.map ah a))],ref [(slc 1 (List.map ah b))]] (max a.length b.length) (fun k=>[.v (.int .u64 ((a.getD k 0%18446744073709551616:Nat):Int)),.v (.int .u64 ((b.getD k 0%18446744073709551616:Nat):Int))]):=by
 refine rI Tryz.func214 rfl rfl (Nat.le_of_ble_eq_true rfl) (fun cG M O l J hJ yT hr=>?_)
 obtain⟨oI,yT⟩:=yT
 have hla:a.length≤9223372036854775807:=by cases oI with|nil=>exact yT.elim|cons _ oI=>exact AU yT.1
 have hlb:b.length≤9223372036854775807:=by cases oI with|nil=>exact yT.elim|cons _ oI=>cases oI with|nil=>exact yT.2.elim|cons _ _=>exact AU yT.2.1
 refine aO ?_
 refine af ?_
 refine RT.cV .none rfl rfl (tl rfl) ?_
 refine RT.len .none rfl (tl rfl) ?_
 refine RT.cV .none rfl rfl (tl rfl) ?_
 refine RT.len .none rfl (tl rfl) ?_
 refine RT.max .none (((max a.length b.length:Nat):Int)) rfl rfl (tl rfl) (by simp only[List.length_map];split<;>omega) ?_
 refine RT.mv .none rfl (tl rfl) ?_
 refine RT.done ?_
 refine ae.n ?_
 refine ak ?_
 refine xE (I:=fun x:{i:Nat//i≤max a.length b.length}=>AS.bG 39 [(0,.sv (.v (.func (.yield l) #[] #[]))),(1,.sv (ref [(slc 1 (List.map ah a))])),(2,.sv (ref [(slc 1 (List.map ah b))])),(11,.sv (.v (.int .i64 ((max a.length b.length:Nat):Int)))),(12,.sv (.v (.int .i64 ((x.1:Nat):Int))))] [] [] (x.1)) (μ:=fun x=>max a.length b.length-x.1) ⟨0,by omega⟩ (by(try dsimp only);exact cH id rfl rfl rfl rfl rfl ⟨.sv (by first|exact SV.aa _|exact SV.aq (by omega)|exact SV.aq (by push_cast;omega)|exact SV.aq (by dsimp only;omega)|exact SV.imp_eq (by simp)),.sv (by first|exact SV.aa _|exact SV.aq (by omega)|exact SV.aq (by push_cast;omega)|exact SV.aq (by dsimp only;omega)|exact SV.imp_eq (by simp)),.sv (by first|exact SV.aa _|exact SV.aq (by omega)|exact SV.aq (by push_cast;omega)|exact SV.aq (by dsimp only;omega)|exact SV.imp_eq (by simp)),.sv (by first|exact SV.aa _|exact SV.aq (by omega)|exact SV.aq (by push_cast;omega)|exact SV.aq (by dsimp only;omega)|exact SV.imp_eq (by simp)),.sv (by first|exact SV.aa _|exact SV.aq (by omega)|exact SV.aq (by push_cast;omega)|exact SV.aq (by dsimp only;omega)|exact SV.imp_eq (by simp)),trivial⟩ trivial trivial (fun _ _=>rfl)) ?_
 rintro⟨i,U0⟩
 try dsimp only
 rcases BB a b i U0 with⟨hi,yM,Dg⟩|⟨hi,yM,Dg⟩|⟨hi,yM,Dg⟩|hi
 ·
  refine aO ?_
  refine af ?_
  refine RT.lss .none (true) rfl rfl (tl rfl) (by simp;omega) ?_
  refine RT.done ?_
  refine ae.n ?_
  refine aO ?_
  refine cj rfl ?_
  refine aE ?_
  refine ae.n ?_
  refine aO ?_
  refine ak ?_
  refine aO ?_
  refine af ?_
  refine RT.mv .none rfl (tl rfl) ?_
  refine RT.Br .none rfl (tl rfl) ?_
  refine RT.done ?_
  refine ae.n ?_
  refine aO ?_
  refine af ?_
  refine RT.Br .none rfl (tl rfl) ?_
  refine RT.Br .none rfl (tl rfl) ?_
  refine RT.done ?_
  refine ae.n ?_
  refine aO ?_
  refine aO ?_
  refine af ?_
  refine RT.mv .none rfl (tl rfl) ?_
  refine RT.cV .none rfl rfl (tl rfl) ?_
  refine RT.len .none rfl (tl rfl) ?_
  refine RT.lss .none (true) rfl rfl (tl rfl) (by simp only[List.length_map];simp;omega) ?_
  refine RT.done ?_
  refine ae.n ?_
  refine cj rfl ?_
  refine af ?_
  refine RT.cV .none rfl rfl (tl rfl) ?_
  refine RT.mv .none rfl (tl rfl) ?_
  refine RT.Ms .none [.v (.int .u32 ((a.getD i 0:Nat):Int))] (Int.natCast_nonneg i) (by rw[Int.toNat_natCast,List.getElem?_map,tN yM];rfl) rfl rfl (tl rfl) ?_
  refine RT.cV .none rfl rfl (tl rfl) ?_
  refine RT.conv .none (((a.getD i 0%18446744073709551616:Nat):Int)) rfl (tl rfl) QD ?_
  refine RT.Br .none rfl (tl rfl) ?_
  refine RT.done ?_
  refine ae.n ?_
  refine aO ?_
  refine aO ?_
  refine af ?_
  refine RT.mv .none rfl (tl rfl) ?_
  refine RT.cV .none rfl rfl (tl rfl) ?_
  refine RT.len .none rfl (tl rfl) ?_
  refine RT.lss .none (true) rfl rfl (tl rfl) (by simp only[List.length_map];simp;omega) ?_
  refine RT.done ?_
  refine ae.n ?_
  refine cj rfl ?_
  refine af ?_
  refine RT.cV .none rfl rfl (tl rfl) ?_
  refine RT.mv .none rfl (tl rfl) ?_
  refine RT.Ms .none [.v (.int .u32 ((b.getD i 0:Nat):Int))] (Int.natCast_nonneg i) (by rw[Int.toNat_natCast,List.getElem?_map,tN Dg];rfl) rfl rfl (tl rfl) ?_
  refine RT.cV .none rfl rfl (tl rfl) ?_
  refine RT.conv .none (((b.getD i 0%18446744073709551616:Nat):Int)) rfl (tl rfl) QD ?_
  refine RT.Br .none rfl (tl rfl) ?_
  refine RT.done ?_
  refine ae.n ?_
  refine aO ?_
  refine af ?_
  refine RT.mv .none rfl (tl rfl) ?_
  refine RT.mv .none rfl (tl rfl) ?_
  refine RT.mv .none rfl (tl rfl) ?_
  refine RT.yield .none hr rfl (fun _ h=>h) rfl (i) rfl rfl hi (by exact⟨rfl,rfl,trivial⟩) (tl rfl) (fun yb=>?_)
  cases yb
  ·
   refine RT.not .none rfl (tl rfl) true rfl ?_
   refine RT.done ?_
   refine ae.n ?_
   refine cj rfl ?_
   refine aj ?_
   refine aG.r ?_
   refine ae.r ?_
   refine ae.r ?_
   refine aG.r ?_
   exact⟨.inr rfl,(fun h=>by cases h)⟩
  ·
   refine RT.not .none rfl (tl rfl) false rfl ?_
   refine RT.done ?_
   refine ae.n ?_
   refine dM rfl ?_
   refine aE ?_
   refine aG.n ?_
   refine ae.n ?_
   refine af ?_
   refine RT.add .none (((i:Nat):Int)+1) rfl rfl (tl rfl) (lG (by omega)) ?_
   refine RT.mv .none rfl (tl rfl) ?_
   refine RT.done ?_
   refine ae.n ?_
   refine⟨⟨i+1,by omega⟩,(by dsimp only;omega),?_⟩
   try dsimp only
   exact cH id rfl rfl rfl rfl rfl ⟨.sv (by first|exact SV.aa _|exact SV.aq (by omega)|exact SV.aq (by push_cast;omega)|exact SV.aq (by dsimp only;omega)|exact SV.imp_eq (by simp)),.sv (by first|exact SV.aa _|exact SV.aq (by omega)|exact SV.aq (by push_cast;omega)|exact SV.aq (by dsimp only;omega)|exact SV.imp_eq (by simp)),.sv (by first|exact SV.aa _|exact SV.aq (by omega)|exact SV.aq (by push_cast;omega)|exact SV.aq (by dsimp only;omega)|exact SV.imp_eq (by simp)),.sv (by first|exact SV.aa _|exact SV.aq (by omega)|exact SV.aq (by push_cast;omega)|exact SV.aq (by dsimp only;omega)|exact SV.imp_eq (by simp)),.sv (by first|exact SV.aa _|exact SV.aq (by omega)|exact SV.aq (by push_cast;omega)|exact SV.aq (by dsimp only;omega)|exact SV.imp_eq (by simp)),trivial⟩ trivial trivial (fun _ _=>rfl)
 ·
  refine aO ?_
  refine af ?_
  refine RT.lss .none (true) rfl rfl (tl rfl) (by simp;omega) ?_
  refine RT.done ?_
  refine ae.n ?_
  refine aO ?_
  refine cj rfl ?_
  refine aE ?_
  refine ae.n ?_
  refine aO ?_
  refine ak ?_
  refine aO ?_
  refine af ?_
  refine RT.mv .none rfl (tl rfl) ?_
  refine RT.Br .none rfl (tl rfl) ?_
  refine RT.done ?_
  refine ae.n ?_
  refine aO ?_
  refine af ?_
  refine RT.Br .none rfl (tl rfl) ?_
  refine RT.Br .none rfl (tl rfl) ?_
  refine RT.done ?_
  refine ae.n ?_
  refine aO ?_
  refine aO ?_
  refine af ?_
  refine RT.mv .none rfl (tl rfl) ?_
  refine RT.cV .none rfl rfl (tl rfl) ?_
  refine RT.len .none rfl (tl rfl) ?_
  refine RT.lss .none (true) rfl rfl (tl rfl) (by simp only[List.length_map];simp;omega) ?_
  refine RT.done ?_
  refine ae.n ?_
  refine cj rfl ?_
  refine af ?_
  refine RT.cV .none rfl rfl (tl rfl) ?_
  refine RT.mv .none rfl (tl rfl) ?_
  refine RT.Ms .none [.v (.int .u32 ((a.getD i 0:Nat):Int))] (Int.natCast_nonneg i) (by rw[Int.toNat_natCast,List.getElem?_map,tN yM];rfl) rfl rfl (tl rfl) ?_
  refine RT.cV .none rfl rfl (tl rfl) ?_
  refine RT.conv .none (((a.getD i 0%18446744073709551616:Nat):Int)) rfl (tl rfl) QD ?_
  refine RT.Br .none rfl (tl rfl) ?_
  refine RT.done ?_
  refine ae.n ?_
  refine aO ?_
  refine aO ?_
  refine af ?_
  refine RT.mv .none rfl (tl rfl) ?_
  refine RT.cV .none rfl rfl (tl rfl) ?_
  refine RT.len .none rfl (tl rfl) ?_
  refine RT.lss .none (false) rfl rfl (tl rfl) (by simp only[List.length_map];simp;omega) ?_
  refine RT.done ?_
  refine ae.n ?_
  refine dM rfl ?_
  refine aE ?_
  refine ae.n ?_
  refine aO ?_
  refine af ?_
  refine RT.mv .none rfl (tl rfl) ?_
  refine RT.mv .none rfl (tl rfl) ?_
  refine RT.mv .none rfl (tl rfl) ?_
  refine RT.yield .none hr rfl (fun _ h=>h) rfl (i) rfl rfl hi (by exact⟨rfl,(by show AV.sv _=AV.sv _;rw[wQ Dg];rfl),trivial⟩) (tl rfl) (fun yb=>?_)
  cases yb
  ·
   refine RT.not .none rfl (tl rfl) true rfl ?_
   refine RT.done ?_
   refine ae.n ?_
   refine cj rfl ?_
   refine aj ?_
   refine aG.r ?_
   refine ae.r ?_
   refine ae.r ?_
   refine aG.r ?_
   exact⟨.inr rfl,(fun h=>by cases h)⟩
  ·
   refine RT.not .none rfl (tl rfl) false rfl ?_
   refine RT.done ?_
   refine ae.n ?_
   refine dM rfl ?_
   refine aE ?_
   refine aG.n ?_
   refine ae.n ?_
   refine af ?_
   refine RT.add .none (((i:Nat):Int)+1) rfl rfl (tl rfl) (lG (by omega)) ?_
   refine RT.mv .none rfl (tl rfl) ?_
   refine RT.done ?_
   refine ae.n ?_
   refine⟨⟨i+1,by omega⟩,(by dsimp only;omega),?_⟩
   try dsimp only
   exact cH id rfl rfl rfl rfl rfl ⟨.sv (by first|exact SV.aa _|exact SV.aq (by omega)|exact SV.aq (by push_cast;omega)|exact SV.aq (by dsimp only;omega)|exact SV.imp_eq (by simp)),.sv (by first|exact SV.aa _|exact SV.aq (by omega)|exact SV.aq (by push_cast;omega)|exact SV.aq (by dsimp only;omega)|exact SV.imp_eq (by simp)),.sv (by first|exact SV.aa _|exact SV.aq (by omega)|exact SV.aq (by push_cast;omega)|exact SV.aq (by dsimp only;omega)|exact SV.imp_eq (by simp)),.sv (by first|exact SV.aa _|exact SV.aq (by omega)|exact SV.aq (by push_cast;omega)|exact SV.aq (by dsimp only;omega)|exact SV.imp_eq (by simp)),.sv (by first|exact SV.aa _|exact SV.aq (by omega)|exact SV.aq (by push_cast;omega)|exact SV.aq (by dsimp only;omega)|exact SV.imp_eq (by simp)),trivial⟩ trivial trivial (fun _ _=>rfl)
 ·
  refine aO ?_
  refine af ?_
  refine RT.lss .none (true) rfl rfl (tl rfl) (by simp;omega) ?_
  refine RT.done ?_
  refine ae.n ?_
  refine aO ?_
  refine cj rfl ?_
  refine aE ?_
  refine ae.n ?_
  refine aO ?_
  refine ak ?_
  refine aO ?_
  refine af ?_
  refine RT.mv .none rfl (tl rfl) ?_
  refine RT.Br .none rfl (tl rfl) ?_
  refine RT.done ?_
  refine ae.n ?_
  refine aO ?_
  refine af ?_
  refine RT.Br .none rfl (tl rfl) ?_
  refine RT.Br .none rfl (tl rfl) ?_
  refine RT.done ?_
  refine ae.n ?_
  refine aO ?_
  refine aO ?_
  refine af ?_
  refine RT.mv .none rfl (tl rfl) ?_
  refine RT.cV .none rfl rfl (tl rfl) ?_
  refine RT.len .none rfl (tl rfl) ?_
  refine RT.lss .none (false) rfl rfl (tl rfl) (by simp only[List.length_map];simp;omega) ?_
  refine RT.done ?_
  refine ae.n ?_
  refine dM rfl ?_
  refine aE ?_
  refine ae.n ?_
  refine aO ?_
  refine aO ?_
  refine af ?_
  refine RT.mv .none rfl (tl rfl) ?_
  refine RT.cV .none rfl rfl (tl rfl) ?_
  refine RT.len .none rfl (tl rfl) ?_
  refine RT.lss .none (true) rfl rfl (tl rfl) (by simp only[List.length_map];simp;omega) ?_
  refine RT.done ?_
  refine ae.n ?_
  refine cj rfl ?_
  refine af ?_
  refine RT.cV .none rfl rfl (tl rfl) ?_
  refine RT.mv .none rfl (tl rfl) ?_
  refine RT.Ms .none [.v (.int .u32 ((b.getD i 0:Nat):Int))] (Int.natCast_nonneg i) (by rw[Int.toNat_natCast,List.getElem?_map,tN Dg];rfl) rfl rfl (tl rfl) ?_
  refine RT.cV .none rfl rfl (tl rfl) ?_
  refine RT.conv .none (((b.getD i 0%18446744073709551616:Nat):Int)) rfl (tl rfl) QD ?_
  refine RT.Br .none rfl (tl rfl) ?_
  refine RT.done ?_
  refine ae.n ?_
  refine aO ?_
  refine af ?_
  refine RT.mv .none rfl (tl rfl) ?_
  refine RT.mv .none rfl (tl rfl) ?_
  refine RT.mv .none rfl (tl rfl) ?_
  refine RT.yield .none hr rfl (fun _ h=>h) rfl (i) rfl rfl hi (by exact⟨(by show AV.sv _=AV.sv _;rw[wQ yM];rfl),rfl,trivial⟩) (tl rfl) (fun yb=>?_)
  cases yb
  ·
   refine RT.not .none rfl (tl rfl) true rfl ?_
   refine RT.done ?_
   refine ae.n ?_
   refine cj rfl ?_
   refine aj ?_
   refine aG.r ?_
   refine ae.r ?_
   refine ae.r ?_
   refine aG.r ?_
   exact⟨.inr rfl,(fun h=>by cases h)⟩
  ·
   refine RT.not .none rfl (tl rfl) false rfl ?_
   refine RT.done ?_
   refine ae.n ?_
   refine dM rfl ?_
   refine aE ?_
   refine aG.n ?_
   refine ae.n ?_
   refine af ?_
   refine RT.add .none (((i:Nat):Int)+1) rfl rfl (tl rfl) (lG (by omega)) ?_
   refine RT.mv .none rfl (tl rfl) ?_
   refine RT.done ?_
   refine ae.n ?_
   refine⟨⟨i+1,by omega⟩,(by dsimp only;omega),?_⟩
   try dsimp only
   exact cH id rfl rfl rfl rfl rfl ⟨.sv (by first|exact SV.aa _|exact SV.aq (by omega)|exact SV.aq (by push_cast;omega)|exact SV.aq (by dsimp only;omega)|exact SV.imp_eq (by simp)),.sv (by first|exact SV.aa _|exact SV.aq (by omega)|exact SV.aq (by push_cast;omega)|exact SV.aq (by dsimp only;omega)|exact SV.imp_eq (by simp)),.sv (by first|exact SV.aa _|exact SV.aq (by omega)|exact SV.aq (by push_cast;omega)|exact SV.aq (by dsimp only;omega)|exact SV.imp_eq (by simp)),.sv (by first|exact SV.aa _|exact SV.aq (by omega)|exact SV.aq (by push_cast;omega)|exact SV.aq (by dsimp only;omega)|exact SV.imp_eq (by simp)),.sv (by first|exact SV.aa _|exact SV.aq (by omega)|exact SV.aq (by push_cast;omega)|exact SV.aq (by dsimp only;omega)|exact SV.imp_eq (by simp)),trivial⟩ trivial trivial (fun _ _=>rfl)
 ·
  subst hi
  refine aO ?_
  refine af ?_
  refine RT.lss .none (false) rfl rfl (tl rfl) (by simp) ?_
  refine RT.done ?_
  refine ae.n ?_
  refine aO ?_
  refine dM rfl ?_
  refine aZ ?_
  refine ae.x ?_
  refine ae.x ?_
  refine aG.x ?_
  exact⟨.inl rfl,(fun _=>rfl)⟩
theorem nR{x0 r:List Nat}(h:cY x0=some r):Pure Tryz.prog 175 [slc 1 (List.map ah x0)] (slc 1 (List.map ah r)):=by
 refine ay Tryz.func175 rfl (Nat.le_of_ble_eq_true rfl) (fun cG M vs hvs=>?_)
 unfold cY at h
 refine sr<|aI rfl (imp_nil (n:=1) (e:=ah))<|dn<|qq<|sr<|mv rfl ?_
 refine RT.Sy .none rfl T (fun nb hnb=>?_)
 cases nb
 exact dn<|fs<|sr<|RT.JR (l:=([]:List Nat)) (e:=ah) .none .nil T rfl T rfl rfl rfl rfl rfl rfl<|mv rfl<|RT.MJ (k:=x0) (e:=ah) .none rfl rfl rfl T rfl T h<|ag rfl<|dn<|aj<|RZ (.tmp rfl .nil)
 have hx:x0=[]:=by simpa using hnb rfl
 subst hx
 obtain⟨_,_,rfl⟩:=tK h
 exact dn<|cT<|sr<|aI rfl (imp_nil (n:=1) (e:=ah))<|dn<|aj<|ae.r<|RZ (.tmp rfl .nil)
theorem mQ{x0 r:List Nat}(h:cY x0=some r):Ah Tryz.prog 175 [slc 1 (List.map ah x0)] (TR 130 1 ah r):=by
 refine oH Tryz.func175 rfl (Nat.le_of_ble_eq_true rfl) (fun cG M vs hvs=>?_)
 unfold cY at h
 refine sr<|ag rfl<|dn<|qq<|sr<|mv rfl ?_
 refine RT.Sy .none rfl T (fun nb hnb=>?_)
 cases nb
 exact dn<|fs<|sr<|RT.JR (l:=([]:List Nat)) (e:=ah) .none .nil T rfl T rfl rfl rfl rfl rfl rfl<|mv rfl<|aR (k:=x0) (e:=ah) rfl rfl rfl h<|an (s:=.row _) rfl<|dn<|aj<|⟨.inr rfl,_,.tmp rfl,rfl⟩
 have hx:x0=[]:=by simpa using hnb rfl
 subst hx
 obtain⟨_,_,rfl⟩:=tK h
 exact dn<|cT<|sr<|ag rfl<|dn<|bh (fW 2 300 130 1 rfl rfl T)<|aj<|ae.r<|⟨.inr rfl,_,.tmp rfl,rfl⟩
theorem aY{x0:Nat}{c0:Nat}{r:Nat×Nat}(h:bn x0 c0=some r):Mz Tryz.prog 202 [.v (.int .u64 ((x0:Nat):Int))] 128 [.v (.int .u64 ((c0:Nat):Int))] (.v (.int .u32 ((r.1:Nat):Int))) [.v (.int .u64 ((r.2:Nat):Int))]:=by
 refine Bv Tryz.func202 rfl (Nat.le_of_ble_eq_true rfl) (fun cG M β=>?_)
 unfold bn at h
 refine sr<|ag rfl<|dn<|sr<|mv rfl<|lV rfl rfl rfl<|lE h fun x6 h6 h=>ad _ rfl rfl (UK.add (a:=x0) (b:=c0) h6)<|ag rfl<|dn<|sr<|mv rfl<|lE h fun x8 h8 h=>RT.shr .none _ rfl rfl T (by decide) (Aj (k:=.u64) (a:=x6) (q:=32) (s:=32) rfl h8)<|RT.oF (cells:=[_]) .none (s:=.sv _) rfl rfl rfl T rfl<|dn<|sr<|mv rfl<|lE h fun dm fD h=>cv _ rfl (UK.nat fD)<|ag rfl ?_
 refine dn<|aj ?_
 obtain rfl:=O h
 exact⟨.inr rfl,gE (.tmp rfl (.nil)) (SV.aa _),rfl⟩
theorem aS{x0:List Nat}{r:List Nat}(h:aD x0=some r):Pure Tryz.prog 144 [slc 1 (List.map ah x0)] (slc 1 (List.map ah r)):=by
 refine ay Tryz.func144 rfl (Nat.le_of_ble_eq_true rfl) (fun cG M vs hvs=>?_)
 unfold aD at h
 refine sr<|aI rfl (imp_nil (n:=1) (e:=ah))<|dn<|qq<|bE h fun Lg BT xR=>?_
 refine aV (fun(BE:(List Nat))=>AS.bG 21 [(0,.sv (slc 1 (List.map ah BE)))] [] []) (fun BE=>BE=Lg) ?_ (fun BE BU=>?_)
 refine ak ?_
 refine aW BT (fun zZ=>AS.bG 21 [(0,.sv (slc 1 (List.map ah zZ)))] [] []) (wR []) (fun Ak Zg Zh h BV y5=>?_)
 try dsimp only
 refine qq<|qq ?_
 refine aF h (fun Lh=>AS.bG 21 [(0,.sv (slc 1 (List.map ah Ak))),(14,.sv (.v (.bool Lh)))] [] []) (fun h=>?_) (fun BD h=>?_)
 refine af<|mv rfl<|lE h fun x4 h4 h=>ln rfl h4<|lE h fun x5 h5 h=>gt _ rfl rfl h5<|mv rfl<|bE h fun yU eC h=>?_
 cases x5
 obtain rfl:=O (F eC)
 exact ww<|ww<|ww<|ww<|ww<|ww<|ww<|pF rfl<|dn<|⟨false,h,wR []⟩
 refine gm rfl<|gm rfl<|lE (V eC) fun x9 h9 eC=>gn rfl h9<|lE eC fun dm fD eC=>RT.sub (.some rfl rfl) _ rfl rfl T fD<|bE eC fun gU mB eC=>RT.Uv (.some rfl rfl) rfl rfl T mB<|gr rfl rfl<|lE eC fun fB fT eC=>YW _ rfl rfl (XX (p:=gU) (q:=0) fT) ?_
 obtain rfl:=O eC
 exact pT rfl<|dn<|⟨fB,h,wR []⟩
 try dsimp only
 refine ae.n ?_
 cases BD
 refine cF<|aZ<|ae.x<|ae.x<|aG.x<|ae.n ?_
 obtain rfl:=O (F h)
 exact⟨Ak,y5 _ rfl,wR []⟩
 refine cT<|aE<|ae.n<|ak<|af<|mv rfl<|mv rfl<|lE (V h) fun eT jD h=>ln rfl jD<|lE h fun ek gV h=>sb _ rfl rfl gV<|bE h fun kW kx h=>RT.wP .none 0 ek rfl rfl ⟨_,rfl⟩ T kx<|ag rfl<|RT.done<|aG.n ?_
 obtain rfl:=O h
 exact ae.n ⟨kW,BV _ rfl,wR []⟩
 subst BU
 try dsimp only
 refine ae.n<|sr<|mv rfl<|ag rfl<|dn<|aj ?_
 obtain rfl:=O xR
 exact R1 rfl
theorem eW{x0:Bool}{x1:List Nat}{r:Zr}(h:bJ x0 x1=some r):Pure Tryz.prog 163 [.v (.bool x0),slc 1 (List.map ah x1)] (.agg (eZ r)):=by
 refine ay Tryz.func163 rfl (Nat.le_of_ble_eq_true rfl) (fun cG M vs hvs=>?_)
 unfold bJ at h
 refine sr<|al (cs:=[.v (.bool false),slc 1 (List.map ah [])]) (by exact⟨SV.aa _,imp_nil,trivial⟩) rfl<|dn<|sr<|mv rfl<|bE h fun x6 h6 h=>cl (aS h6) ⟨rfl,trivial⟩<|ag rfl<|dn<|qq<|sr<|mv rfl<|lE h fun x8 h8 h=>ln rfl h8<|lE h fun x9 h9 h=>eq _ rfl rfl (vh (p:=x8) (q:=0) h9)<|dn ?_
 cases x9
 refine fs<|sr<|mv rfl<|mv rfl<|bI (cs:=[_,_]) (cs':=[.v (.bool x0),slc 1 (List.map ah x6)]) (.one rfl (.one rfl (.nil))) ⟨SV.aa _,SV.aa _,trivial⟩<|so rfl rfl rfl<|dn<|aj ?_
 obtain rfl:=O (F h)
 exact RZ (.agg rfl rfl (.cons rfl (.cons rfl (.nil))) rfl (.nil))
 refine cT<|sr<|bI (cs:=[_,_]) (cs':=[.v (.bool false),slc 1 (List.map ah [])]) (.nil) ⟨SV.aa _,imp_nil,trivial⟩<|so rfl rfl rfl<|dn<|aj<|ae.r ?_
 obtain rfl:=O (V h)
 exact RZ (.agg rfl rfl (.cons rfl (.cons rfl (.nil))) rfl (.nil))
theorem jE{x0:Bool}{x1:Nat}{r:Zr}(h:dw x0 x1=some r):Pure Tryz.prog 137 [.v (.bool x0),.v (.int .u64 ((x1:Nat):Int))] (.agg (eZ r)):=by
 refine ay Tryz.func137 rfl (Nat.le_of_ble_eq_true rfl) (fun cG M vs hvs=>?_)
 unfold dw at h
 refine sr<|al (cs:=[.v (.bool false),slc 1 (List.map ah [])]) (by exact⟨SV.aa _,imp_nil,trivial⟩) rfl<|dn<|qq<|ak<|sr<|mv rfl<|lE h fun x7 h7 h=>eq _ rfl rfl (XX (p:=x1) (q:=0) h7)<|ag rfl<|dn ?_
 cases x7
 refine cF<|sr<|mv rfl<|lE (F h) fun gU mB h=>RT.shr .none _ rfl rfl T (by decide) (Aj (k:=.u64) (a:=x1) (q:=32) (s:=32) rfl mB)<|lE h fun dB eI h=>eq _ rfl rfl (XX (p:=gU) (q:=0) eI)<|ag rfl<|dn ?_
 cases dB
 refine cF<|aE<|aG.n<|ae.n<|sr<|mv rfl<|mv rfl<|lE (F h) fun gB lM h=>cv _ rfl (UK.nat lM)<|mv rfl<|lE h fun iP mD h=>RT.shr .none _ rfl rfl T (by decide) (Aj (k:=.u64) (a:=x1) (q:=32) (s:=32) rfl mD)<|lE h fun kA qL h=>cv _ rfl (UK.nat qL)<|bl (l:=[gB,kA]) (e:=ah) (.one rfl (.one rfl (.nil))) rfl rfl rfl rfl rfl rfl<|bI (cs:=[_,_]) (cs':=[.v (.bool x0),slc 1 (List.map ah [gB,kA])]) (.one rfl (.one rfl (.nil))) ⟨SV.aa _,SV.aa _,trivial⟩ ?_
 refine so rfl rfl rfl<|dn<|aj ?_
 obtain rfl:=O h
 exact RZ (.agg rfl rfl (.cons rfl (.cons rfl (.nil))) rfl (.nil))
 refine cT<|sr<|mv rfl<|mv rfl<|lE (V h) fun dA fE h=>cv _ rfl (UK.nat fE)<|bl (l:=[dA]) (e:=ah) (.one rfl (.nil)) rfl rfl rfl rfl rfl rfl<|bI (cs:=[_,_]) (cs':=[.v (.bool x0),slc 1 (List.map ah [dA])]) (.one rfl (.one rfl (.nil))) ⟨SV.aa _,SV.aa _,trivial⟩<|so rfl rfl rfl<|dn<|aj<|aG.r<|ae.r ?_
 obtain rfl:=O h
 exact RZ (.agg rfl rfl (.cons rfl (.cons rfl (.nil))) rfl (.nil))
 refine cT<|sr<|bI (cs:=[_,_]) (cs':=[.v (.bool false),slc 1 (List.map ah [])]) (.nil) ⟨SV.aa _,imp_nil,trivial⟩<|so rfl rfl rfl<|dn<|aj<|aG.r<|ae.r ?_
 obtain rfl:=O (V h)
 exact RZ (.agg rfl rfl (.cons rfl (.cons rfl (.nil))) rfl (.nil))
theorem dg{x0:List Nat}{r:Nat}(h:dj x0=some r):Pure Tryz.prog 162 [slc 1 (List.map ah x0)] (.v (.int .u64 ((r:Nat):Int))):=by
 refine ay Tryz.func162 rfl (Nat.le_of_ble_eq_true rfl) (fun cG M vs hvs=>?_)
 unfold dj at h
 refine sr<|ag rfl<|dn<|qq<|sr<|mv rfl<|lE h fun x4 h4 h=>ln rfl h4<|dn<|ak<|sr<|lE h fun x6 h6 h=>eq _ rfl rfl (vh (p:=x4) (q:=0) h6)<|ag rfl<|dn ?_
 cases x6
 refine cF<|sr<|lE (F h) fun x8 h8 h=>eq _ rfl rfl (vh (p:=x4) (q:=1) h8)<|ag rfl<|dn ?_
 cases x8
 refine cF<|aE<|aG.n<|ae.n<|qq<|ai mixed<|mv rfl<|bE (F h) fun eU jg h=>ix rfl rfl jg<|lr rfl rfl<|lE h fun gu iQ h=>cv _ rfl (UK.nat iQ)<|mv rfl<|bE h fun ek gV h=>ix rfl rfl gV<|lr rfl rfl<|lE h fun gB lM h=>cv _ rfl (UK.nat lM)<|lE h fun iv nS h=>RT.shl .none _ rfl rfl T (by decide) (UK.shl (a:=gB) (q:=32) (s:=32) rfl nS)<|lE h fun iP mD h=>RT.or .none _ rfl rfl T (UK.or (a:=gu) (b:=iv) mD) ?_
 refine ag rfl ?_
 refine RT.done ⟨by kernel_rfl,?_⟩
 refine ae.n<|aj ?_
 obtain rfl:=O h
 exact R1 rfl
 refine cT<|sr<|mv rfl<|bE (V h) fun dm fD h=>ix rfl rfl fD<|lr rfl rfl<|lE h fun dB eI h=>cv _ rfl (UK.nat eI)<|ag rfl<|dn<|aj<|aG.r<|ae.r ?_
 obtain rfl:=O h
 exact R1 rfl
 refine cT<|sr<|ag rfl<|dn<|aj<|aG.r<|ae.r ?_
 obtain rfl:=O (V h)
 exact R1 rfl
theorem dr{x0:List Nat}{x1:List Nat}{r:Int}(h:cI x0 x1=some r):Pure Tryz.prog 161 [slc 1 (List.map ah x0),slc 1 (List.map ah x1)] (.v (.int .i64 r)):=by
 refine ay Tryz.func161 rfl (Nat.le_of_ble_eq_true rfl) (fun cG M vs hvs=>?_)
 unfold cI at h
 refine sr<|ag rfl<|dn<|qq<|sr<|mv rfl<|lE h fun x7 h7 h=>ln rfl h7<|mv rfl<|lE h fun x9 h9 h=>ln rfl h9<|lE h fun dm fD h=>ne _ rfl rfl (Gk (p:=x7) (q:=x9) fD)<|dn ?_
 cases dm
 refine fs<|qq<|sr<|mv rfl<|lE (F h) fun eT jD h=>ln rfl jD<|lE h fun ek gV h=>sb _ rfl rfl gV<|ag rfl<|dn<|bE h fun e6 Dy iS=>?_
 refine aV (fun(Fh:Unit)=>AS.bG 41 [] [] []) (fun Fh=>.inl Fh=e6) ?_ (fun Fh Dz=>?_)
 refine ak ?_
 refine aW Dy (fun s6=>AS.bG 41 [(0,.sv (slc 1 (List.map ah x0))),(1,.sv (slc 1 (List.map ah x1))),(5,.sv (.v (.int .i64 s6)))] [] []) (wR []) (fun qF y6 G6 h DA y7=>?_)
 try dsimp only
 refine qq<|sr<|mv rfl<|lE h fun gB lM h=>ge _ rfl rfl lM<|dn ?_
 cases gB
 refine cF<|aZ<|ae.x<|ae.x<|aG.x<|ae.n ?_
 obtain rfl:=O (F h)
 exact⟨(),y7 _ rfl,wR []⟩
 refine cT<|aE<|ae.n<|qq<|ak<|qq<|ai mixed<|mv rfl<|mv rfl<|bE (V h) fun yH qM h=>ix rfl rfl qM<|lr rfl rfl<|mv rfl<|mv rfl<|bE h fun gH iT h=>ix rfl rfl iT<|lr rfl rfl<|lE h fun td xS h=>ne _ rfl rfl (neN (p:=yH) (q:=gH) xS) ?_
 refine RT.done ⟨by kernel_rfl,?_⟩
 refine ae.n ?_
 cases td
 refine cF<|aE<|aG.n<|ae.n<|af<|mv rfl<|lE (F h) fun iP mD h=>sb _ rfl rfl mD<|ag rfl<|RT.done ?_
 obtain rfl:=O h
 exact ae.n ⟨iP,DA _ rfl,wR []⟩
 refine cT<|qq<|qq<|ai mixed<|mv rfl<|mv rfl<|bE (V h) fun pH ql h=>ix rfl rfl ql<|lr rfl rfl<|mv rfl<|mv rfl<|bE h fun Al GS h=>ix rfl rfl GS<|lr rfl rfl<|lE h fun lu nO h=>ls _ rfl rfl (YN (p:=pH) (q:=Al) nO) ?_
 refine RT.done ⟨by kernel_rfl,?_⟩
 refine ae.n ?_
 cases lu
 refine fs<|sr<|ag rfl<|dn<|aj<|aG.r<|ae.r ?_
 obtain rfl:=O (F h)
 have Nt:=y7 _ rfl
 subst Nt
 refine ae.r<|aG.r<|ae.r<|ae.r ?_
 obtain rfl:=O iS
 exact R1 rfl
 refine cT<|sr<|ag rfl<|dn<|aj<|ae.r<|aG.r<|ae.r ?_
 obtain rfl:=O (V h)
 have Nt:=y7 _ rfl
 subst Nt
 refine ae.r<|aG.r<|ae.r<|ae.r ?_
 obtain rfl:=O iS
 exact R1 rfl
 subst Dz
 try dsimp only
 refine ae.n<|sr<|ag rfl<|dn<|aj ?_
 obtain rfl:=O iS
 exact R1 rfl
 refine cT<|qq<|sr<|mv rfl<|lE (V h) fun dB eI h=>ln rfl eI<|mv rfl<|lE h fun eU jg h=>ln rfl jg<|lE h fun dA fE h=>ls _ rfl rfl fE<|dn ?_
 cases dA
 refine fs<|sr<|ag rfl<|dn<|aj<|ae.r ?_
 obtain rfl:=O (F h)
 exact R1 rfl
 refine cT<|sr<|ag rfl<|dn<|aj<|ae.r<|ae.r ?_
 obtain rfl:=O (V h)
 exact R1 rfl
theorem pR{x0:List Nat}{x1:List Nat}{r:List Nat}(h:c9 x0 x1=some r):Pure Tryz.prog 194 [slc 1 (List.map ah x0),slc 1 (List.map ah x1)] (slc 1 (List.map ah r)):=by
 refine ay Tryz.func194 rfl (Nat.le_of_ble_eq_true rfl) (fun cG M vs hvs=>?_)
 unfold c9 at h
 refine sr<|aI rfl (imp_nil (n:=1) (e:=ah))<|dn<|sr<|mv rfl<|lE h fun dm fD h=>ln rfl fD<|mv rfl<|lE h fun dB eI h=>ln rfl eI<|lE h fun fB fT h=>RT.max .none _ rfl rfl T (GH (p:=dm) (q:=dB) fT)<|lE h fun eU jg h=>ad _ rfl rfl jg<|bE h fun dA fE h=>RT.v9 (e:=ah) .none rfl rfl T rfl T fE<|RT.alloc .none T rfl rfl<|RT.gR (cells:=[_]) .none rfl rfl rfl rfl T rfl<|dn<|sr<|RT.tJ .none (cz 0) rfl ⟨rfl,trivial⟩ T rfl rfl ?_
 refine RT.alloc .none T rfl rfl<|RT.oF (cells:=[_]) .none (s:=.ey _ _) rfl rfl rfl T rfl<|dn<|qq<|sr<|mv rfl<|mv rfl<|cl (lJ x0 x1) ⟨rfl,rfl,trivial⟩<|dn<|ak<|bE h fun e7 QT GU=>?_
 obtain⟨DB,QU,QV,QW⟩:=gA QT
 refine dX (lK x0 x1) (fun _ _ _ _ _=>trivial) rfl (fun k=>AS.bG 35 [(5,.ptr 5 0),(6,.ptr 6 0),(19,.sv (gS 214 [ref [slc 1 (List.map ah x0)],ref [slc 1 (List.map ah x1)]]))] [(6,⟨186,[.ey 202 [.box 16]]⟩),(16,⟨128,[.sv (.v (.int .u64 (((DB k).1:Nat):Int)))]⟩),(5,⟨39,[.row 302]⟩)] [(302,TR 130 1 ah (DB k).2)]) [6,16,5] rfl (fun _=>⟨rfl,rfl⟩) (mK rfl) (fun _=>rfl) (mL rfl) (by(try dsimp only);rw[QU];(try dsimp only);exact cH (fun i=>bif Nat.beq i 302 then 15 else i) rfl rfl rfl rfl rfl ⟨.ptr,.ptr,.sv (SV.aa _),trivial⟩ ⟨⟨_,rfl,⟨.ey,trivial⟩⟩,⟨_,rfl,⟨.sv (SV.aa _),trivial⟩⟩,⟨_,rfl,⟨.row rfl,trivial⟩⟩,trivial⟩ ⟨⟨_,rfl,bQ.refl _⟩,trivial⟩ (fun i hi=>by rw[bH (show i≠302 by omega)];rfl)) (fun k hk D hD=>?_) ?_
 have h:=QV k hk
 obtain⟨sk,DC⟩:∃q,DB k=q:=⟨_,rfl⟩
 rw[DC]at h⊢
 obtain⟨rM,gx⟩:=sk
 dsimp only[AS.IT,n8]
 try dsimp only at h
 refine lE h fun YX BW h=>?_
 rw[BW]
 refine lE h fun YY U1 h=>?_
 rw[U1]
 refine sr<|ag rfl<|dn<|af<|ag rfl<|RT.done ?_
 refine ae.n ⟨rfl,?_⟩
 dsimp only[AS.wL]
 refine ak<|ai mixed<|RT.dN .none (s:=.row _) rfl rfl rfl T<|RT.dN .none (s:=.ey _ _) rfl rfl rfl T<|mv rfl<|mv rfl<|lE h fun lI nT h=>ad _ rfl rfl (UK.add (a:=YX) (b:=YY) nT) ?_
 obtain⟨⟨kq,k9⟩,m7,h⟩:=bS h
 refine cB (aY m7) 16 rfl ⟨rfl,trivial⟩<|bl (l:=[kq]) (e:=ah) (.one rfl (.nil)) rfl rfl rfl rfl rfl rfl<|bE h fun gH iT h=>aR (k:=[kq]) (e:=ah) rfl rfl rfl iT<|RT.gR (cells:=[_]) .none rfl rfl rfl rfl T rfl ?_
 refine RT.done ⟨by kernel_rfl,?_⟩
 refine aG.n ?_
 replace h:=Option.some.inj h
 refine⟨trivial,rfl,rfl,?_⟩
 try dsimp only
 rw[←h]
 try dsimp only
 exact cH (fun i=>bif Nat.beq i 302 then 29 else i) rfl rfl rfl rfl rfl ⟨.ptr,.ptr,.sv (SV.aa _),trivial⟩ ⟨⟨_,rfl,⟨.ey,trivial⟩⟩,⟨_,rfl,⟨.sv (SV.aa _),trivial⟩⟩,⟨_,rfl,⟨.row rfl,trivial⟩⟩,trivial⟩ ⟨⟨_,rfl,bQ.refl _⟩,trivial⟩ (fun i hi=>by rw[bH (show i≠302 by omega)];rfl)
 rw[QW]
 obtain⟨rM,gx⟩:=e7
 try dsimp only
 refine aG.n<|ae.n<|qq<|ai mixed<|RT.dN .none (s:=.row _) rfl rfl rfl T<|RT.dN .none (s:=.ey _ _) rfl rfl rfl T ?_
 obtain⟨⟨iD,k11⟩,kz,GU⟩:=bS GU
 refine cB (aY kz) 16 rfl ⟨rfl,trivial⟩<|bl (l:=[iD]) (e:=ah) (.one rfl (.nil)) rfl rfl rfl rfl rfl rfl<|bE GU fun pH ql GU=>RT.MJ (k:=[iD]) (e:=ah) .none rfl rfl rfl T rfl T ql<|ag rfl ?_
 refine RT.done ⟨by kernel_rfl,?_⟩
 refine ae.n<|aj ?_
 obtain rfl:=O GU
 exact R1 rfl
theorem lN{x0:List Nat}{x1:List Nat}{r:List Nat}(h:bZ x0 x1=some r):Pure Tryz.prog 195 [slc 1 (List.map ah x0),slc 1 (List.map ah x1)] (slc 1 (List.map ah r)):=by
 refine ay Tryz.func195 rfl (Nat.le_of_ble_eq_true rfl) (fun cG M vs hvs=>?_)
 unfold bZ at h
 refine sr<|aI rfl (imp_nil (n:=1) (e:=ah))<|dn<|sr<|mv rfl<|lE h fun dm fD h=>ln rfl fD<|bE h fun gU mB h=>RT.v9 (e:=ah) .none rfl rfl T rfl T mB<|RT.alloc .none T rfl rfl<|RT.gR (cells:=[_]) .none rfl rfl rfl rfl T rfl<|dn<|sr<|RT.tJ .none (cz 1) rfl ⟨rfl,trivial⟩ T rfl rfl<|RT.alloc .none T rfl rfl<|RT.oF (cells:=[_]) .none (s:=.ey _ _) rfl rfl rfl T rfl<|dn<|qq<|sr<|mv rfl ?_
 refine mv rfl<|cl (lJ x0 x1) ⟨rfl,rfl,trivial⟩<|dn<|ak<|bE h fun e7 QT GU=>?_
 obtain⟨DB,QU,QV,QW⟩:=gA QT
 refine dX (lK x0 x1) (fun _ _ _ _ _=>trivial) rfl (fun k=>AS.bG 28 [(5,.ptr 5 0),(6,.ptr 6 0),(15,.sv (gS 214 [ref [slc 1 (List.map ah x0)],ref [slc 1 (List.map ah x1)]]))] [(6,⟨186,[.ey 202 [.box 12]]⟩),(12,⟨128,[.sv (.v (.int .u64 (((DB k).1:Nat):Int)))]⟩),(5,⟨39,[.row 302]⟩)] [(302,TR 130 1 ah (DB k).2)]) [6,12,5] rfl (fun _=>⟨rfl,rfl⟩) (mK rfl) (fun _=>rfl) (mL rfl) (by(try dsimp only);rw[QU];(try dsimp only);exact cH (fun i=>bif Nat.beq i 302 then 11 else i) rfl rfl rfl rfl rfl ⟨.ptr,.ptr,.sv (SV.aa _),trivial⟩ ⟨⟨_,rfl,⟨.ey,trivial⟩⟩,⟨_,rfl,⟨.sv (SV.aa _),trivial⟩⟩,⟨_,rfl,⟨.row rfl,trivial⟩⟩,trivial⟩ ⟨⟨_,rfl,bQ.refl _⟩,trivial⟩ (fun i hi=>by rw[bH (show i≠302 by omega)];rfl)) (fun k hk D hD=>?_) ?_
 have h:=QV k hk
 obtain⟨sk,DC⟩:∃q,DB k=q:=⟨_,rfl⟩
 rw[DC]at h⊢
 obtain⟨vm,gx⟩:=sk
 dsimp only[AS.IT,n8]
 try dsimp only at h
 refine lE h fun YZ U3 h=>?_
 rw[U3]
 refine lE h fun Y0 U4 h=>?_
 rw[U4]
 refine sr<|ag rfl<|dn<|af<|ag rfl<|RT.done ?_
 refine ae.n ⟨rfl,?_⟩
 dsimp only[AS.wL]
 refine ak<|ai mixed<|RT.dN .none (s:=.row _) rfl rfl rfl T<|RT.dN .none (s:=.ey _ _) rfl rfl rfl T<|mv rfl<|mv rfl<|lE h fun iP mD h=>sb _ rfl rfl (UK.sub (a:=4294967295) (b:=Y0) mD)<|lE h fun kA qL h=>ad _ rfl rfl (UK.add (a:=YZ) (b:=iP) qL) ?_
 obtain⟨⟨fR,k9⟩,kD,h⟩:=bS h
 refine cB (aY kD) 12 rfl ⟨rfl,trivial⟩<|bl (l:=[fR]) (e:=ah) (.one rfl (.nil)) rfl rfl rfl rfl rfl rfl<|bE h fun lI nT h=>aR (k:=[fR]) (e:=ah) rfl rfl rfl nT<|RT.gR (cells:=[_]) .none rfl rfl rfl rfl T rfl ?_
 refine RT.done ⟨by kernel_rfl,?_⟩
 refine aG.n ?_
 replace h:=Option.some.inj h
 refine⟨trivial,rfl,rfl,?_⟩
 try dsimp only
 rw[←h]
 try dsimp only
 exact cH (fun i=>bif Nat.beq i 302 then 26 else i) rfl rfl rfl rfl rfl ⟨.ptr,.ptr,.sv (SV.aa _),trivial⟩ ⟨⟨_,rfl,⟨.ey,trivial⟩⟩,⟨_,rfl,⟨.sv (SV.aa _),trivial⟩⟩,⟨_,rfl,⟨.row rfl,trivial⟩⟩,trivial⟩ ⟨⟨_,rfl,bQ.refl _⟩,trivial⟩ (fun i hi=>by rw[bH (show i≠302 by omega)];rfl)
 rw[QW]
 obtain⟨vm,gx⟩:=e7
 try dsimp only
 refine aG.n<|ae.n<|sr<|RT.dN .none (s:=.row _) rfl rfl rfl T<|an (s:=.row _) rfl<|dn<|bh (c8 (i:=302) (E1:=130) (n:=1) (e:=ah) (l:=gx) rfl)<|aj ?_
 obtain rfl:=O GU
 exact R1 rfl
theorem xT{x0:List Nat}{x1:List Nat}{r:List Nat}(h:dO x0 x1=some r):Pure Tryz.prog 164 [slc 1 (List.map ah x0),slc 1 (List.map ah x1)] (slc 1 (List.map ah r)):=by
 refine ay Tryz.func164 rfl (Nat.le_of_ble_eq_true rfl) (fun cG M vs hvs=>?_)
 unfold dO at h
 refine sr<|aI rfl (imp_nil (n:=1) (e:=ah))<|dn<|sr<|mv rfl<|lE h fun dB eI h=>ln rfl eI<|mv rfl<|lE h fun eU jg h=>ln rfl jg<|lE h fun dA fE h=>ad _ rfl rfl fE<|bE h fun gu iQ h=>RT.jy (n:=1) (e:=ah) .none rfl rfl T rfl T (by rfl) (by decide) (by exact⟨SV.aa _,trivial⟩) iQ<|an (s:=.row _) rfl<|dn<|qq<|sr<|mv rfl<|lE h fun ek gV h=>ln rfl gV ?_
 refine mv rfl<|dn<|bE h fun e28 U5 U6=>?_
 refine aV (fun(mO:(List Nat))=>AS.bG 63 [(5,.row 16)] [] [(16,TR 130 1 ah mO)]) (fun mO=>mO=e28) ?_ (fun mO U7=>?_)
 refine ak ?_
 refine aW U5 (fun MS=>AS.bG 63 [(1,.sv (slc 1 (List.map ah x1))),(5,.row 16),(17,.sv (slc 1 (List.map ah x0))),(18,.sv (.v (.int .i64 ek))),(19,.sv (.v (.int .i64 MS.1)))] [] [(16,TR 130 1 ah MS.2)]) (wR []) (fun MS y28 G28 h U8 U9=>?_)
 obtain⟨ku,yV⟩:=MS
 try dsimp only
 refine sr<|lE h fun gB lM h=>ls _ rfl rfl lM<|dn<|qq ?_
 cases gB
 refine cF<|aZ<|ae.x<|ae.x<|aG.x<|ae.n ?_
 obtain rfl:=O (F h)
 exact⟨yV,U9 _ rfl,wR []⟩
 refine cT<|aE<|ae.n<|qq<|ak<|sr<|mv rfl<|bE (V h) fun iP mD h=>ix rfl rfl mD<|lr rfl rfl<|ag rfl<|ag rfl<|dn<|sr<|RT.tJ .none (cz 0) rfl ⟨rfl,trivial⟩ T rfl rfl<|an (s:=.ey _ _) rfl<|dn<|qq<|sr<|mv rfl<|lE h fun lI nT h=>ln rfl nT<|mv rfl<|dn<|bE h fun UB Nu eD=>?_
 refine aV (fun(y9:Nat×(List Nat))=>AS.bG 63 [(1,.sv (slc 1 (List.map ah x1))),(5,.row 16),(6,.sv (.v (.int .i64 ku))),(8,.ey 202 [.box 24]),(17,.sv (slc 1 (List.map ah x0))),(18,.sv (.v (.int .i64 ek))),(19,.sv (.v (.int .i64 ku)))] [(24,⟨128,[.sv (.v (.int .u64 ((y9.1:Nat):Int)))]⟩)] [(16,TR 130 1 ah y9.2)]) (fun y9=>y9=UB) ?_ (fun y9 Nv=>?_)
 refine ak ?_
 refine aW Nu (fun Ea=>AS.bG 63 [(1,.sv (slc 1 (List.map ah x1))),(5,.row 16),(6,.sv (.v (.int .i64 ku))),(7,.sv (.v (.int .u32 ((iP:Nat):Int)))),(8,.ey 202 [.box 24]),(17,.sv (slc 1 (List.map ah x0))),(18,.sv (.v (.int .i64 ek))),(19,.sv (.v (.int .i64 ku))),(25,.sv (slc 1 (List.map ah x1))),(26,.sv (.v (.int .i64 lI))),(27,.sv (.v (.int .i64 Ea.1)))] [(24,⟨128,[.sv (.v (.int .u64 ((Ea.2.1:Nat):Int)))]⟩)] [(16,TR 130 1 ah Ea.2.2)]) (wR []) (fun Ea y38 G38 h Nw Nx=>?_)
 obtain⟨wS,qG,rN⟩:=Ea
 try dsimp only
 refine sr<|lE h fun mN rY h=>ls _ rfl rfl rY<|dn<|qq ?_
 cases mN
 refine cF<|aZ<|ae.x<|ae.x<|aG.x<|ae.n ?_
 obtain rfl:=O (F h)
 exact⟨(qG,rN),Nx _ rfl,wR []⟩
 refine cT<|aE<|ae.n<|qq<|ak<|sr<|mv rfl<|bE (V h) fun yW wV h=>ix rfl rfl wV<|lr rfl rfl<|ag rfl<|ag rfl<|dn<|af<|mo (s:=.row _) rfl<|mv rfl<|mv rfl<|lE h fun rO za h=>ad _ rfl rfl za<|mo (s:=.ey _ _) rfl<|mo (s:=.row _) rfl<|mv rfl<|mv rfl<|lE h fun lu nO h=>ad _ rfl rfl nO<|bE h fun rP zb h=>iR rfl rfl rfl zb ?_
 refine bE h fun rB ze h=>lR rfl rfl ze rfl<|lE h fun vn Dj h=>cv _ rfl (UK.nat Dj)<|mv rfl<|lE h fun Di I1 h=>cv _ rfl (UK.nat I1)<|mv rfl<|lE h fun tQ wW h=>cv _ rfl (UK.nat wW)<|lE h fun sO h48 h=>RT.mul .none _ rfl rfl T (UK.mul (a:=Di) (b:=tQ) h48)<|lE h fun MT Ny h=>ad _ rfl rfl (UK.add (a:=vn) (b:=sO) Ny) ?_
 obtain⟨⟨vo,Y1⟩,DD,h⟩:=bS h
 refine cB (aY DD) 24 rfl ⟨rfl,trivial⟩<|bE h fun BF DE h=>iR rfl rfl rfl DE<|bE h fun Qd GV h=>sR vo rfl rfl rfl rfl GV<|RT.done<|aG.n<|ae.n<|af<|lE h fun wj zg h=>ad _ rfl rfl zg<|mv rfl<|RT.done ?_
 obtain rfl:=O h
 exact ae.n ⟨(wj,Y1,Qd),Nw _ rfl,wR []⟩
 subst Nv
 obtain⟨BG,Fa⟩:=y9
 try dsimp only
 refine ae.n<|af<|mo (s:=.row _) rfl<|mv rfl<|mv rfl<|lE eD fun Fb I2 eD=>ln rfl I2<|lE eD fun Qe Vc eD=>ad _ rfl rfl Vc<|mo (s:=.ey _ _) rfl ?_
 obtain⟨⟨IU,k45⟩,QX,eD⟩:=bS eD
 refine cB (aY QX) 24 rfl ⟨rfl,trivial⟩<|bE eD fun JX I3 eD=>iR rfl rfl rfl I3<|bE eD fun Y2 Nz eD=>sR IU rfl rfl rfl rfl Nz<|RT.done<|aG.n<|ae.n<|af<|lE eD fun Fe NA eD=>ad _ rfl rfl NA<|mv rfl<|RT.done ?_
 obtain rfl:=O eD
 exact ae.n ⟨(Fe,Y2),U8 _ rfl,wR []⟩
 subst U7
 try dsimp only
 refine ae.n<|sr<|mo (s:=.row _) rfl<|an (s:=.row _) rfl<|dn<|bh (c8 (i:=16) (E1:=130) (n:=1) (e:=ah) (l:=mO) rfl)<|aj ?_
 obtain rfl:=O U6
 exact R1 rfl
end Go.Proofs.YtningmnklfpfjaaGreat
