/- A part of the proof: the framework, the plain functions, the followed functions, the plain laws. -/
import Derived.Test.YtningmnklfpfjaaPTX1
set_option linter.unusedVariables false
set_option linter.unusedSimpArgs false
namespace Go.Fw
open Go.RowKit
inductive Src (S:AS) (E0:TypeId) (n:Nat):Operand→List (Nat×jL)→List Nat→Nat→List SV→Prop
 |nil {x:Operand} (h:S.ev x=.sv (.v (.slice none 0 0))):Src S E0 n x [] [] 0 []
 |row {x:Operand} {i m:Nat} {cs:List SV} (h:S.ev x=.row i) (hR:S.r i=.live ⟨E0,n,m,cs⟩):Src S E0 n x [(i,.dead)] [i] m cs
theorem II{i:Nat}{X:SV}{x:AV}(h:¬x.mr i):x.lU i X=x:=by
 cases x with
 |row k=>simp only[AV.lU];rw[bU (fun e=>h e.symm)];rfl
 |ic k o=>simp only[AV.lU];rw[bU (fun e=>h e.symm)];rfl
 |lJ k o l=>simp only[AV.lU];rw[bU (fun e=>h e.symm)];rfl
 |cmp t js=>
  simp only[AV.lU]
  have:js.any (Fc.wz i)=false:=by
   cases e:js.any (Fc.wz i)with
   |false=>rfl
   |true=>
    obtain⟨c,hc,hi⟩:=List.any_eq_true.1 e
    cases c with
    |row j=>have hi:Nat.beq j i=true:=hi;obtain rfl:=Nat.eq_of_beq_eq_true hi;exact absurd hc h
    |_=>cases hi
  rw[this];rfl
 |_=>rfl
section steps
variable {P:Program}{C:Ctx}{ops:Array Oper}{S:AS}{nd:Bool}{K:List Ac→AS→Prop}{rest:List Oper}{acc:List Ac}
variable {gd:Option (Nat×Bool)}{rg:List Nat}{d:Nat}{ty:TypeId}{pos:String}{aft:Array Edge}{x y z:Operand}{T U E0:TypeId}
theorem Src.val{E:Env}{a:Act}{w:World}{S':AS}{n m:Nat}{old:List (Nat×jL)}{rr:List Nat}{cs:List SV}(h:ax C S' E a w)(hx:Src S E0 n x old rr m cs)(ht:∀s∈ak x,S'.t s=S.t s)(hr:∀i∈rr,S'.r i=S.r i):
  (∃vs,w.ownsRow 0 E0 n (a.eval x) m vs∧SV.dz E.M cs vs)∧((old=[]∧(a.eval x).ownBlock=none)∨∃i R,old=[(i,.dead)]∧S'.r i=.live R∧(a.eval x).ownBlock=(E.ν i).ownBlock):=by
 cases hx with
 |nil hx=>
  have h1:a.eval x=.slice none 0 0:=by have h1:=h.ev x;rw[aE (fun _ h=>h) ht,hx]at h1;exact h1
  rw[h1]
  exact⟨⟨[],World.ownsRow_nil _ _ _ _,trivial⟩,.inl ⟨rfl,rfl⟩⟩
 | @row i _ _ hx hR=>
  have h1:a.eval x=E.ν i:=by have h1:=h.ev x;rw[aE (fun _ h=>h) ht,hx]at h1;exact h1
  have mu:=(hr i (by simp)).trans hR
  rw[h1]
  obtain⟨⟨vs,h2,h3⟩,_⟩:=h.rx i _ mu
  exact⟨⟨vs,h2,h3⟩,.inr ⟨i,_,rfl,mu,rfl⟩⟩
theorem RT.F3(hg:Gd ops S gd rg){n by_:Nat}{zv:Value}[tS:dX P T E0 n][tE:aN P E0 n by_ zv]{old:List (Nat×jL)}{rr:List Nat}{m:Nat}{cs:List SV}{s:SV}{rows:List (List SV)}[hs:LX s n rows]
  (hx:Src S E0 n x old rr m cs) (hy:S.ev y=.sv s) (hd:d<S.n) (vw:S.r d=.un) (tR:d<1000) (hroom:(m+rows.length)*by_≤140737488355328) (qu:m+rows.length≤140737488355328)
  (X:SV) {rows':List (List SV)} (hX:∀M v,(slc n rows').h M v→(∀g,v.ownBlock=some g→(C.w0.heap.size≤g∨C.rN g)∧∃o,M g o=some (.agg #[]))→X.h M v) (iF:Rows n rows' (cs++rows.flatten)) (hlen:rows'.length=m+rows.length) (hone:∀M vs,SV.dz M (cs++rows.flatten) vs→∀v∈vs,v.oneCell'=true)
  (next:RunT P C ops nd K rest (⟨rg++(ak x++ak y),[],d::rr,⟨some (d,.sv X),[],old++[(d,.dead)]⟩⟩::acc) ((AS.bf (old++[(d,.dead)]) S).set d (.sv X))):RunT P C ops nd K (⟨some d,.call ⟨.builtin .append,#[x,y],#[T,T]⟩,ty,pos,aft,gd⟩::rest) acc S:=by
 refine .inl ⟨_,[],d::rr,_,?_,next⟩
 rintro S' hn ht _ hr i a w L Q ho ⟨E,h⟩ hL
 refine bD (C:=C) ho (hg.wanted h (fun s hs=>ht s (List.mem_append_left _ hs)) rfl) ?_
 obtain⟨⟨vs,hown,hvs⟩,hold⟩:=hx.val h (fun s hs=>ht s (List.mem_append_right _ (List.mem_append_left _ hs))) (fun i hi=>hr i (List.mem_cons_of_mem _ hi))
 have h2:=h.ev y
 rw[aE (fun _ h=>List.mem_append_right _ (List.mem_append_right _ h)) ht,hy]at h2
 obtain⟨info,hi,hsz,hby,hz⟩:=aN.info (P:=P) (E:=E0) (n:=n) (by_:=by_) (z:=zv)
 have GS:S'.r d=.un:=by rw[hr d (by simp)];exact vw
 have run:∃v' w' vs',(Builtin.append_ #[T,T] ty #[a.eval x,a.eval y]).run P w=.ok v' w'∧w'.ownsRow 0 E0 n v' (m+rows.length) vs'∧SV.dz E.M (cs++rows.flatten) vs'∧w.grownBy w' (a.eval x).ownBlock∧(v'.ownBlock=(a.eval x).ownBlock∨v'.ownBlock=some w.heap.size∨v'.ownBlock=none):=by
  rcases hs.h _ _ h2 with⟨a0,e,e2⟩|⟨b,o,c,e,hc,CZ,hrow⟩
  ·rw[e,e2]
   cases a0 with
   |none=>exact⟨_,_,vs,run_append_owned_none w 0 T ty E0 info n tS.u hi _ m vs hown,by simpa using hown,by simpa using hvs,⟨rfl,rfl,rfl,Nat.le_refl _,fun _ _ _=>rfl⟩,.inl rfl⟩
   |some a0=>
    rw[e2,List.length_nil]at hroom qu
    obtain⟨v',w',q1,q2,q3,_,q4⟩:=run_append_own_at (P:=P) w 0 T ty E0 info zv n by_ tS.u hi hz hsz hby tE.z tE.p _ m vs hown a0 0 0 [] (by simp) (by simp) (by simp) (by unfold maxLen;omega) hroom (Nat.zero_le _)
    exact⟨v',w',vs,q1,by simpa using q2,by simpa using hvs,q3,q4.imp id .inl⟩
  ·obtain⟨us,g1,g2,g3,g4⟩:=ye rows o hrow
   rw[e]
   obtain⟨v',w',q1,q2,q3,_,q4⟩:=run_append_own_at (P:=P) w 0 T ty E0 info zv n by_ tS.u hi hz hsz hby tE.z tE.p _ m vs hown ⟨b,o,none⟩ rows.length c us g2 (fun j u hj=>by rw[eU];exact(h.cm _ _ _ (g4 j u hj)).cell (g3 u (List.mem_of_getElem? hj))) g3 (by unfold maxLen;omega) hroom (Nat.zero_le _)
   exact⟨v',w',vs++us,q1,q2,SV.dz.append hvs g1,q3,q4.imp id .inl⟩
 obtain⟨v',w',vs',q1,q2,q3,q4,q5⟩:=run
 have hr':(execOp a.eval ⟨some d,.call ⟨.builtin .append,#[x,y],#[T,T]⟩,ty,pos,aft,gd⟩).run P w=.ok (.value v') w':=by
  simp[execOp,resolve,invoke,builtin,q1]
 have F4:∀(l:List (Nat×jL)) (R:jL) (j:Nat),cP (l++[(d,R)]) j=if j=d then some R else cP l j:=by
  intro l R j
  induction l with
  |nil=>rfl
  |cons p l ih=>
   obtain⟨i,R'⟩:=p
   rw[List.cons_append,cP,cP,ih]
   by_cases e:j=d
   ·simp[e]
   ·simp[e]
 have h3:=(h.newRow GS tR old (a.eval x).ownBlock hold (R':=⟨E0,n,m+rows.length,cs++rows.flatten⟩) q2 q3 q5 q4).put (d:=d) (x:=.row d) (v:=v') (by simp[AV.holds]) (by rw[(dS _ _).1];omega) ⟨fun _ e=>e.elim,fun j e=>by
  cases e
  rw[jx,F4];simp⟩
 have hRd:(AS.set (AS.bf (old++[(d,jL.live ⟨E0,n,m+rows.length,cs++rows.flatten⟩)]) S') d (.row d)).r d=.live ⟨E0,n,m+rows.length,cs++rows.flatten⟩:=by
  show(AS.bf _ S').r d=_
  rw[jx,F4];simp
 obtain⟨E',h4⟩:=h3.lU hRd iF hlen (Nat.le_trans qu (by decide)) hone hX
 have e:(AS.set (AS.bf (old++[(d,jL.live ⟨E0,n,m+rows.length,cs++rows.flatten⟩)]) S') d (.row d)).lU d X=S'.app ⟨some (d,.sv X),[],old++[(d,.dead)]⟩:=by
  have n1:=dS (old++[(d,jL.live ⟨E0,n,m+rows.length,cs++rows.flatten⟩)]) S'
  have n2:=dS (old++[(d,jL.dead)]) S'
  refine AS.ext' ?_ (fun t=>?_) (fun j=>?_) (fun j=>?_) ?_ ?_
  ·show(AS.bf _ S').n=(AS.bf _ S').n
   rw[n1.1,n2.1]
  ·rw[AS.H9]
   show((AS.set (AS.bf _ S') d (.row d)).t t).lU d X=_
   by_cases e:t=d
   ·subst e;rw[AS.iD];simp[AV.lU,wT]
   ·rw[AS.fV _ _ _ _ e,n1.2.1,II (fun hm=>h.wf.tr t d hm GS)];simp[wT,e]
  ·rw[AS.Ia]
   show((AS.bf _ S').b j).map _=_
   rw[n1.2.2.1]
   simp only[qk,Option.getD_none]
   cases hb:S'.b j with
   |none=>rfl
   |some B=>
    rw[Option.map_some]
    have:B.cells.map (AV.lU d X)=B.cells:=by
     conv=>rhs;rw[←List.map_id B.cells]
     exact List.map_congr_left fun c hc=>II (fun hm=>h.wf.br j B hb c hc d hm GS)
    rw[this]
  ·rw[AS.Ib]
   show(bif Nat.beq j d then jL.dead else(AS.bf _ S').r j)=_
   rw[jx,F4,F4]
   by_cases e:j=d
   ·subst e;simp
   ·simp[bU e,e]
  ·rw[(AS.FP _ _).1];exact n1.2.2.2.1
  ·rw[(AS.FP _ _).2];exact n1.2.2.2.2
 exact bB (C:=C) (by intro c h;cases h) hr' (hL _ _ ⟨E',e▸h4⟩)
end steps
end Go.Fw
namespace Go.Fw
open Go.RowKit
def cQ{J R:Type}(k:J→Option R)(f:(J→Option R)→Option R):Option R:=f k
theorem bind_some{α β:Type}{x:Option α}{f:α→Option β}{r:β}(h:Option.bind x f=some r):∃a,x=some a∧f a=some r:=by
 cases x with
 |none=>cases h
 |some a=>exact⟨a,rfl,h⟩
theorem sk{b w:Bool}(h:(b==w)=false):b≠w:=by cases b<;>cases w<;>simp_all
def dD{α:Type}(l:List α)(i:Int):Option α:=if 0≤i then l[i.toNat]? else none
def nX{α:Type}(l:List α)(i:Int):Option Nat:=if 0≤i∧i<l.length then some i.toNat else none
def BP{α:Type}(l:List α)(lo hi:Int):Option (List α):=if 0≤lo∧lo≤hi∧hi≤l.length then some (cut l lo.toNat hi.toNat)else none
def yu{α:Type}(by_:Nat)(l k:List α):Option (List α):=if(l.length+k.length)*by_≤140737488355328∧l.length+k.length≤140737488355328 then some (l++k)else none
def A0{α:Type}(by_:Nat)(c:Int)(z:α):Option (List α):=if 0≤c∧by_*c≤281474976710656∧c≤140737488355328 then some (List.replicate c.toNat z)else none
def IJ{α:Type}(by_:Nat)(c:Int):Option (List α):=if 0≤c∧by_*c≤281474976710656∧c≤140737488355328 then some []else none
def stM{α:Type}(l:List α)(n:Nat)(y:α):Option (List α):=if n<l.length then some (l.set n y)else none
def uj(a b:Int):Option Int:=if b=0 then none else some (IntKind.i64.wrap (a.tdiv b))
def GX(a b:Int):Option Int:=if b=0 then none else some (a.tmod b)
def BQ(M a b:Nat):Option Nat:=if b=0 then none else some (a/b%M)
def At(a b:Nat):Option Nat:=if b=0 then none else some (a%b)
def m7(M a b:Nat):Nat:=(((a:Int)-b)%M).toNat
theorem n9{α:Type}{l:List α}{i:Int}{a:α}(h:dD l i=some a):0≤i∧l[i.toNat]? =some a:=by
 unfold dD at h;split at h
 ·exact⟨by assumption,h⟩
 ·cases h
theorem IK{α:Type}{l:List α}{i:Int}{k:Nat}(h:nX l i=some k):0≤i∧i<l.length∧i.toNat=k:=by
 unfold nX at h;split at h
 ·rename_i hh;exact⟨hh.1,hh.2,Option.some.inj h⟩
 ·cases h
theorem A4{α:Type}{l l':List α}{a b:Int}(h:BP l a b=some l'):0≤a∧a≤b∧b≤l.length∧cut l a.toNat b.toNat=l':=by
 unfold BP at h;split at h
 ·rename_i hh;exact⟨hh.1,hh.2.1,hh.2.2,Option.some.inj h⟩
 ·cases h
theorem qA{α:Type}{by_:Nat}{l k l':List α}(h:yu by_ l k=some l'):(l.length+k.length)*by_≤140737488355328∧l.length+k.length≤140737488355328∧l++k=l':=by
 unfold yu at h;split at h
 ·rename_i hh;exact⟨hh.1,hh.2,Option.some.inj h⟩
 ·cases h
theorem IL{α:Type}{by_:Nat}{c:Int}{z:α}{l':List α}(h:A0 by_ c z=some l'):0≤c∧by_*c≤281474976710656∧c≤140737488355328∧List.replicate c.toNat z=l':=by
 unfold A0 at h;split at h
 ·rename_i hh;exact⟨hh.1,hh.2.1,hh.2.2,Option.some.inj h⟩
 ·cases h
theorem IM{α:Type}{by_:Nat}{c:Int}{l':List α}(h:IJ by_ c=some l'):0≤c∧by_*c≤281474976710656∧c≤140737488355328∧[]=l':=by
 unfold IJ at h;split at h
 ·rename_i hh;exact⟨hh.1,hh.2.1,hh.2.2,Option.some.inj h⟩
 ·cases h
theorem C8{α:Type}{l l':List α}{n:Nat}{y:α}(h:stM l n y=some l'):n<l.length∧l.set n y=l':=by
 unfold stM at h;split at h
 ·rename_i hh;exact⟨hh,Option.some.inj h⟩
 ·cases h
def lY{S E:Type}(body:S→Option (S⊕E)):Nat→S→Option E
 |0,_=>none
 |n+1,s=>match body s with
  |some (.inl s')=>lY body n s'
  |some (.inr e)=>some e
  |none=>none
theorem sW{S E:Type}{body:S→Option (S⊕E)}:∀{n m:Nat} {s:S} {e:E},n≤m→lY body n s=some e→lY body m s=some e
 |0,_,_,_,_,h=>by cases h
 |n+1,0,_,_,hm,_=>by omega
 |n+1,m+1,s,e,hm,h=>by
  unfold lY at h⊢
  cases hb:body s with
  |none=>rw[hb]at h;cases h
  |some y=>
   rw[hb]at h
   cases y with
   |inl s'=>exact sW (by omega) h
   |inr e'=>exact h
open Classical in
noncomputable def cq{S E:Type}(body:S→Option (S⊕E))(s:S):Option E:=if h:∃n e,lY body n s=some e then some (Classical.choose (Classical.choose_spec h))else none
theorem sX{S E:Type}{body:S→Option (S⊕E)}{s:S}{e:E}(h:cq body s=some e):∃n,lY body n s=some e:=by
 unfold cq at h
 split at h
 ·rename_i hh
  exact⟨_,by rw[←Option.some.inj h];exact Classical.choose_spec (Classical.choose_spec hh)⟩
 ·cases h
theorem yw{S E:Type}{body:S→Option (S⊕E)}{s:S}{e:E}{n:Nat}(h:lY body n s=some e):cq body s=some e:=by
 have hh:∃n e,lY body n s=some e:=⟨n,e,h⟩
 unfold cq
 rw[dif_pos hh]
 have h2:=Classical.choose_spec (Classical.choose_spec hh)
 have h3:=sW (Nat.le_max_left n (Classical.choose hh)) h
 have h4:=sW (Nat.le_max_right n (Classical.choose hh)) h2
 rw[h3]at h4
 exact h4.symm
theorem sY{S E:Type}{body:S→Option (S⊕E)}{s:S}{e:E}(h:body s=some (.inr e)):cq body s=some e:=yw (n:=1) (by simp[lY,h])
theorem yx{S E:Type}{body:S→Option (S⊕E)}{s s':S}(h:body s=some (.inl s')):cq body s=cq body s':=by
 cases hl:cq body s' with
 |some e=>obtain⟨n,hn⟩:=sX hl;exact yw (n:=n+1) (by simp[lY,h,hn])
 |none=>
  cases VN:cq body s with
  |none=>rfl
  |some e=>
   obtain⟨n,hn⟩:=sX VN
   cases n with
   |zero=>cases hn
   |succ n=>simp only[lY,h]at hn;rw[yw hn]at hl;cases hl
theorem vC{S E:Type}{body:S→Option (S⊕E)}(I:S→Prop)(Post:E→Prop)(μ:S→Nat)
  (step:∀s,I s→(∃s',body s=some (.inl s')∧I s'∧μ s'<μ s)∨(∃e,body s=some (.inr e)∧Post e)) {s:S} (h:I s):∃e,cq body s=some e∧Post e:=by
 have key:∀(n:Nat) (s:S),μ s≤n→I s→∃e,cq body s=some e∧Post e:=by
  intro n
  induction n with
  |zero=>
   intro s hn hs
   rcases step s hs with⟨s',_,_,h3⟩|⟨e,h1,h2⟩
   ·omega
   ·exact⟨e,sY h1,h2⟩
  |succ n ih=>
   intro s hn hs
   rcases step s hs with⟨s',h1,h2,h3⟩|⟨e,h1,h2⟩
   ·obtain⟨e,q1,q2⟩:=ih s' (by omega) h2
    exact⟨e,by rw[yx h1];exact q1,q2⟩
   ·exact⟨e,sY h1,h2⟩
 exact key _ s (Nat.le_refl _) h
theorem IN{S E:Type}{body:S→Option (S⊕E)}(st:Nat→S)(n:Nat){e:E}(hs:∀k,k<n→body (st k)=some (.inl (st (k+1))))(he:body (st n)=some (.inr e)):cq body (st 0)=some e:=by
 have key:∀k,k≤n→cq body (st (n-k))=some e:=by
  intro k
  induction k with
  |zero=>intro _;exact sY he
  |succ k ih=>
   intro hk
   rw[yx (hs (n-(k+1)) (by omega)),show n-(k+1)+1=n-k by omega]
   exact ih (by omega)
 have:=key n (Nat.le_refl _)
 rwa[Nat.sub_self]at this
theorem rR{p q:Int}{c:Bool}(h:decide (p=q)=c):(p==q)=c:=by rw[←h];exact Bool.beq_eq_decide_eq p q
theorem F5{p q:Int}{c:Bool}(h:decide (p≠q)=c):(p != q)=c:=by rw[←h,bne,Bool.beq_eq_decide_eq p q];simp
theorem SU{p q:Nat}{c:Bool}(h:decide (p=q)=c):((p:Int)==(q:Int))=c:=rR (by rw[←h];simp[Int.natCast_inj])
theorem VR{p q:Nat}{c:Bool}(h:decide (p≠q)=c):((p:Int) != (q:Int))=c:=F5 (by rw[←h];simp[Int.natCast_inj])
theorem TK{p q:Nat}{c:Bool}(h:decide (p<q)=c):decide ((p:Int)<(q:Int))=c:=by rw[←h];simp
theorem WQ{p q:Nat}{c:Bool}(h:decide (p≤q)=c):decide ((p:Int)≤(q:Int))=c:=by rw[←h];simp
theorem EU{p q c:Int}(h:max p q=c):(if q>p then q else p)=c:=by rw[←h];split<;>omega
theorem TL{p q c:Int}(h:min p q=c):(if q<p then q else p)=c:=by rw[←h];split<;>omega
class UK (k:IntKind) (b:outParam Nat) (M:outParam Nat):Prop where
 w:∀x:Int,k.wrap x=x%M
 hb:k.bits=b
 hm:2^b=M
instance:UK .u8 8 256:=⟨fun x=>by simp[IntKind.wrap,IntKind.signed,IntKind.bits],rfl,by decide⟩
instance:UK .u16 16 65536:=⟨fun x=>by simp[IntKind.wrap,IntKind.signed,IntKind.bits],rfl,by decide⟩
instance:UK .u32 32 4294967296:=⟨fun x=>by simp[IntKind.wrap,IntKind.signed,IntKind.bits],rfl,by decide⟩
instance:UK .u64 64 18446744073709551616:=⟨fun x=>by simp[IntKind.wrap,IntKind.signed,IntKind.bits],rfl,by decide⟩
section uk
variable {k:IntKind}{bi M a b c:Nat}[u:UK k bi M]
include u
theorem UK.pos:0<M:=by rw[←u.hm];exact Nat.two_pow_pos _
theorem UK.nat(h:a%M=c):k.wrap (a:Int)=(c:Int):=by rw[u.w,←h,Int.natCast_emod]
theorem UK.add(h:(a+b)%M=c):k.wrap ((a:Int)+(b:Int))=(c:Int):=by rw[←Int.natCast_add];exact UK.nat h
theorem UK.mul(h:(a*b)%M=c):k.wrap ((a:Int)*(b:Int))=(c:Int):=by rw[←Int.natCast_mul];exact UK.nat h
theorem UK.sub(h:m7 M a b=c):k.wrap ((a:Int)-(b:Int))=(c:Int):=by
 rw[u.w,←h,m7,Int.toNat_of_nonneg];exact Int.emod_nonneg _ (by have:=UK.pos (k:=k) (bi:=bi) (M:=M);omega)
theorem UK.neg(h:m7 M 0 a=c):k.wrap (0-(a:Int))=(c:Int):=UK.sub h
theorem UK.conv{p:Int}(h:(p%M).toNat=c):k.wrap p=(c:Int):=by
 rw[u.w,←h,Int.toNat_of_nonneg];exact Int.emod_nonneg _ (by have:=UK.pos (k:=k) (bi:=bi) (M:=M);omega)
theorem UK.quo(h:BQ M a b=some c):k.wrap ((a:Int).tdiv (b:Int))=(c:Int):=by
 unfold BQ at h;split at h
 ·cases h
 ·rw[Int.tdiv_eq_ediv_of_nonneg (by omega),←Int.natCast_ediv];exact UK.nat (Option.some.inj h)
theorem UK.shl{q:Int}{s:Nat}(hs:min q.toNat k.bits=s)(h:a*2^s%M=c):k.wrap ((a:Int)*2^(min q.toNat k.bits))=(c:Int):=by
 rw[hs,show(a:Int)*2^s=((a*2^s:Nat):Int) by rw[Int.natCast_mul,Int.natCast_pow];rfl];exact UK.nat h
theorem UK.ofInt(a:Nat):(BitVec.ofInt k.bits (a:Int)).toNat=a%M:=by
 rw[BitVec.ofInt_natCast,BitVec.toNat_ofNat,u.hb,u.hm]
theorem UK.and(h:(a &&& b)%M=c):k.wrap ((BitVec.ofInt k.bits (a:Int) &&& BitVec.ofInt k.bits (b:Int)).toNat)=(c:Int):=by
 rw[BitVec.toNat_and,UK.ofInt,UK.ofInt,←u.hm,←Nat.and_mod_two_pow,u.hm,h,UK.nat (a:=c) (c:=c)]
 rw[←h,Nat.mod_mod]
theorem UK.or(h:(a ||| b)%M=c):k.wrap ((BitVec.ofInt k.bits (a:Int) ||| BitVec.ofInt k.bits (b:Int)).toNat)=(c:Int):=by
 rw[BitVec.toNat_or,UK.ofInt,UK.ofInt,←u.hm,←Nat.or_mod_two_pow,u.hm,h,UK.nat (a:=c) (c:=c)]
 rw[←h,Nat.mod_mod]
theorem UK.xor(h:(a ^^^ b)%M=c):k.wrap ((BitVec.ofInt k.bits (a:Int) ^^^ BitVec.ofInt k.bits (b:Int)).toNat)=(c:Int):=by
 rw[BitVec.toNat_xor,UK.ofInt,UK.ofInt,←u.hm,←Nat.xor_mod_two_pow,u.hm,h,UK.nat (a:=c) (c:=c)]
 rw[←h,Nat.mod_mod]
end uk
theorem wZ{k:IntKind}{a c s:Nat}{q:Int}(hs:min q.toNat k.bits=s)(h:a/2^s=c):(a:Int).fdiv (2^(min q.toNat k.bits))=(c:Int):=by
 rw[hs,Int.fdiv_eq_ediv_of_nonneg _ (Int.le_of_lt (Int.pow_pos (by decide))),←h,Int.natCast_ediv,Int.natCast_pow];rfl
theorem GY{a b c:Nat}(h:At a b=some c):(a:Int).tmod (b:Int)=(c:Int):=by
 unfold At at h;split at h
 ·cases h
 ·rw[Int.tmod_eq_emod_of_nonneg (by omega),←Option.some.inj h];rfl
theorem VS{M a b c:Nat}(h:BQ M a b=some c):(b:Int)≠0:=by
 unfold BQ at h;split at h
 ·cases h
 ·omega
theorem SW{a b c:Nat}(h:At a b=some c):(b:Int)≠0:=by
 unfold At at h;split at h
 ·cases h
 ·omega
theorem SX{a b c:Int}(h:uj a b=some c):b≠0:=by unfold uj at h;split at h<;>simp_all
theorem TM{a b c:Int}(h:GX a b=some c):b≠0:=by unfold GX at h;split at h<;>simp_all
theorem GZ{a b c:Int}(h:uj a b=some c):IntKind.i64.wrap (a.tdiv b)=c:=by
 unfold uj at h;split at h
 ·cases h
 ·exact Option.some.inj h
theorem TN{a b c:Int}(h:GX a b=some c):a.tmod b=c:=by
 unfold GX at h;split at h
 ·cases h
 ·exact Option.some.inj h
abbrev af(x:Nat):List SV:=[.v (.int .u32 (x:Nat))]
abbrev bO(x:Int):List SV:=[.v (.int .i64 x)]
abbrev eB(x:Bool):List SV:=[.v (.bool x)]
abbrev eS{α:Type}(n:Nat)(e:α→List SV)(l:List α):List SV:=[slc n (l.map e)]
structure Zr where
 neg:Bool
 w:List Nat
structure Qr where
 num:Zr
 den:Zr
abbrev eZ(z:Zr):List SV:=[.v (.bool z.neg),slc 1 (z.w.map af)]
abbrev eQ(q:Qr):List SV:=[.v (.bool q.num.neg),slc 1 (q.num.w.map af),.v (.bool q.den.neg),slc 1 (q.den.w.map af)]
class EL {α:Type} (e:α→List SV) (n:outParam Nat):Prop where
 len:∀x,(e x).length=n
 one:∀x,oU (e x)
instance:EL af 1:=⟨fun _=>rfl,fun _=>inferInstance⟩
instance:EL bO 1:=⟨fun _=>rfl,fun _=>inferInstance⟩
instance:EL eB 1:=⟨fun _=>rfl,fun _=>inferInstance⟩
instance{α:Type}{n:Nat}{e:α→List SV}:EL (eS n e) 1:=⟨fun _=>rfl,fun _=>inferInstance⟩
instance:EL eZ 2:=⟨fun _=>rfl,fun _=>inferInstance⟩
instance:EL eQ 4:=⟨fun _=>rfl,fun _=>inferInstance⟩
structure Sd where
 WR:List Qr
 gen:List Qr
 take:List Qr
structure En where
 acc:Int
 kd:Nat
 hour:Int
 aaq:Zr
structure A3 where
 a:Int
 b:Int
 c:Int
structure X4 where
 acc:Int
 kd:Nat
 hour:Int
 e:Int
structure Mv where
 acc:Int
 kd:Nat
 hour:Int
 WS:Qr
structure Bk where
 n:Int
 l:List En
def CR{α:Type}(l k:List α):List α:=k.take l.length++l.drop k.length
structure Tb where
 made:Bool
 vars:Int
 vD:List (List Qr)
 basis:List Int
 rows:List (List Qr)
abbrev qB(x:Tb):List SV:=[.v (.bool x.made),.v (.int .i64 x.vars),slc 1 (x.vD.map (eS 4 eQ)),slc 1 (x.basis.map bO),slc 1 (x.rows.map (eS 4 eQ))]
instance:EL qB 5:=⟨fun _=>rfl,fun _=>inferInstance⟩
structure Lr where
 vars:Int
 vD:List (List Qr)
 rows:List (List Qr)
 bounds:List Qr
abbrev Py(x:Lr):List SV:=[.v (.int .i64 x.vars),slc 1 (x.vD.map (eS 4 eQ)),slc 1 (x.rows.map (eS 4 eQ)),slc 4 (x.bounds.map eQ)]
instance:EL Py 4:=⟨fun _=>rfl,fun _=>inferInstance⟩
structure Sz where
 vars:Int
 vD:Int
 rows:Int
 bounds:Int
abbrev WT(x:Sz):List SV:=[.v (.int .i64 x.vars),.v (.int .i64 x.vD),.v (.int .i64 x.rows),.v (.int .i64 x.bounds)]
instance:EL WT 4:=⟨fun _=>rfl,fun _=>inferInstance⟩
structure Cn where
 row:List Qr
 most:Qr
abbrev TR(E:TypeId)(sz:Nat){α:Type}(e:α→List SV)(l:List α):Row:=⟨E,sz,l.length,l.flatMap e⟩
theorem imp_nil{α:Type}{n:Nat}{e:α→List SV}:SV.imp (.v (.slice none 0 0)) (slc n (([]:List α).map e)):=fun _ _ h=>.inl ⟨none,h,rfl⟩
theorem qC{α:Type}(e:α→List SV)(l:List α):(l.map e).flatten=l.flatMap e:=by rw[List.flatMap_def]
theorem oa{α:Type}{e:α→List SV}{n:Nat}[h:EL e n](l:List α):Rows n (l.map e) (l.flatMap e):=⟨qC e l,fun r hr=>by obtain⟨x,_,rfl⟩:=List.mem_map.1 hr;exact h.len x⟩
theorem A5{M:Mem}:∀{l k:List SV} {vs:List Value},SV.dz M (l++k) vs→∃us ws,vs=us++ws∧SV.dz M l us∧SV.dz M k ws
 |[],_,vs,h=>⟨[],vs,rfl,trivial,h⟩
 |_::_,_,[],h=>h.elim
 |_::l,_,v::vs,h=>by
  obtain⟨us,ws,rfl,h1,h2⟩:=A5 (l:=l) h.2
  exact⟨v::us,ws,rfl,⟨h.1,h1⟩,h2⟩
theorem kH{α:Type}{e:α→List SV}{n:Nat}[h:EL e n](l:List α):∀M vs,SV.dz M (l.flatMap e) vs→∀v∈vs,v.oneCell'=true:=by
 intro M
 induction l with
 |nil=>intro vs hv;cases vs with|nil=>simp|cons _ _=>exact hv.elim
 |cons x l ih=>
  intro vs hv
  rw[List.flatMap_cons]at hv
  obtain⟨us,ws,rfl,h1,h2⟩:=A5 hv
  intro v hv
  rcases List.mem_append.1 hv with hv|hv
  ·exact(h.one x).h M us h1 v hv
  ·exact ih ws h2 v hv
theorem C9{α:Type}{e:α→List SV}{n:Nat}[h:EL e n]:∀{l:List α} {k:Nat} {a:α},l[k]? =some a→((l.flatMap e).drop (k*n)).take n=e a
 |[],_,_,hh=>by simp at hh
 |x::l,0,a,hh=>by
  simp only[List.getElem?_cons_zero,Option.some.injEq]at hh
  subst hh
  rw[List.flatMap_cons,Nat.zero_mul,List.drop_zero,←h.len x,List.take_left']
  rfl
 |x::l,k+1,a,hh=>by
  rw[List.getElem?_cons_succ]at hh
  rw[List.flatMap_cons,show(k+1)*n=(e x).length+k*n by rw[h.len,Nat.add_mul];omega,←List.drop_drop,List.drop_left']
  ·exact C9 hh
  ·rfl
theorem Da{α:Type}{e:α→List SV}{n:Nat}[h:EL e n]{y:α}:∀{l:List α} {k:Nat},k<l.length→jB (l.flatMap e) (k*n) (e y)=(l.set k y).flatMap e:=by
 have WU:∀(u:List SV) (a b:List SV) (j:Nat),j+u.length≤a.length→jB (a++b) j u=jB a j u++b:=by
  intro u
  induction u with
  |nil=>intro a b j _;rfl
  |cons s u ih=>
   intro a b j hj
   simp only[List.length_cons]at hj
   simp only[jB]
   rw[List.set_append_left _ _ (by omega),ih _ _ _ (by rw[List.length_set];omega)]
 have WV:∀(u:List SV) (a b:List SV) (j:Nat),jB (a++b) (a.length+j) u=a++jB b j u:=by
  intro u
  induction u with
  |nil=>intro a b j;rfl
  |cons s u ih=>
   intro a b j
   simp only[jB]
   rw[List.set_append_right _ _ (by omega),show a.length+j-a.length=j by omega,show a.length+j+1=a.length+(j+1) by omega,ih]
 have WW:∀(u a:List SV),u.length=a.length→jB a 0 u=u:=by
  have gen:∀(u a p:List SV),u.length=a.length→jB (p++a) p.length u=p++u:=by
   intro u
   induction u with
   |nil=>intro a p ha;have:a=[]:=List.eq_nil_of_length_eq_zero ha.symm;subst this;rfl
   |cons s u ih=>
    intro a p ha
    cases a with
    |nil=>cases ha
    |cons t a=>
     simp only[jB]
     rw[List.set_append_right _ _ (Nat.le_refl _),Nat.sub_self,List.set_cons_zero,show p++s::a=(p++[s])++a by simp,show p.length+1=(p++[s]).length by simp,ih a _ (by simpa using ha)]
     simp
  intro u a ha
  exact gen u a [] ha
 intro l
 induction l with
 |nil=>intro k hk;simp at hk
 |cons x l ih=>
  intro k hk
  cases k with
  |zero=>
   rw[List.set_cons_zero,List.flatMap_cons,List.flatMap_cons,Nat.zero_mul,WU _ _ _ _ (by rw[h.len,h.len];omega),WW _ _ (by rw[h.len,h.len])]
  |succ k=>
   simp only[List.length_cons]at hk
   rw[List.set_cons_succ,List.flatMap_cons,List.flatMap_cons,show(k+1)*n=(e x).length+k*n by rw[h.len,Nat.add_mul];omega,WV,ih (by omega)]
end Go.Fw
namespace Go.Fw
open Go.RowKit
section steps
variable {P:Program}{C:Ctx}{ops:Array Oper}{S:AS}{nd:Bool}{K:List Ac→AS→Prop}{rest:List Oper}{acc:List Ac}
variable {gd:Option (Nat×Bool)}{rg:List Nat}{d:Nat}{ty:TypeId}{pos:String}{aft:Array Edge}{x y z:Operand}{T U E0:TypeId}
variable {α:Type}{l l' k:List α}{e:α→List SV}{n by_:Nat}{zv:Value}
theorem RT.WX(hg:Gd ops S gd rg){s X:SV}(hx:S.ev x=.sv s)(hi:SV.imp s X)(hd:d<S.n)
  (next:RunT P C ops nd K rest (⟨rg++ak x,[],[],⟨some (d,.sv X),[],[]⟩⟩::acc) (S.set d (.sv X))):RunT P C ops nd K (⟨some d,.assign x,ty,pos,aft,gd⟩::rest) acc S:=
 RT.value hg (ak x) [] [] (.sv X) hd (by intro c h;cases h) (fun S' ht _ _ E a w h=>by
  have hx':S'.ev x=.sv s:=by rw[aE (fun _ h=>h) ht,hx]
  exact⟨a.eval x,rfl,by have:=h.ev x;rw[hx']at this;exact hi _ _ this,dY⟩) next
theorem G0{E:Env}:∀{l l':List SV} {vs:List Value},bT l l'→SV.dz E.M l vs→cu E (l'.map AV.sv) vs:=fun hi h=>cu.tY (hi.holds h)
theorem BR(M:Mem):∀l:List Value,SV.dz M (l.map SV.v) l
 |[]=>trivial
 |_::l=>⟨rfl,BR M l⟩
theorem RT.sZ(hg:Gd ops S gd rg)[tz:az P T zv]{cs:List SV}(hi:bT (zv.cells.toList.map SV.v) cs){av:List AV}(WY:cs.map AV.sv=av)(hd:d<S.n)(hb:S.b d=none)(hp:C.fM d=none)
  (next:RunT P C ops nd K rest (⟨rg++[],[d],[],⟨some (d,.ptr d 0),[(d,⟨T,av⟩)],[]⟩⟩::acc) ((S.ja d ⟨T,av⟩).set d (.ptr d 0))):RunT P C ops nd K (⟨some d,.alloc T,ty,pos,aft,gd⟩::rest) acc S:=by
 subst WY
 exact RT.FU hg (by intro c h;cases h) [] hd hb hp (fun S' _ E a w h=>⟨zv.cells.toList,by simp[execOp,Instr.alloc,newVar,newRow,tz.run],G0 hi (BR _ _),fun y hy=>by
  obtain⟨s,_,rfl⟩:=List.mem_map.1 hy
  exact dY⟩) next
theorem RT.Pz(hg:Gd ops S gd rg){pl:List (Nat×Nat)}{zc:List Value}[tP:bF P T pl zc]{parts:Array (Nat×Operand)}{qs:List (Nat×List SV)}(hp:lW S parts.toList qs){cs cs':List SV}(hf:sB (fun i=>pl[i]?) (zc.map SV.v) qs=some cs)(hi:bT cs cs')(hd:d<S.n)
  (next:RunT P C ops nd K rest (⟨rg++jR parts.toList,[],[],⟨some (d,.sv (.agg cs')),[],[]⟩⟩::acc) (S.set d (.sv (.agg cs')))):RunT P C ops nd K (⟨some d,.build T parts,ty,pos,aft,gd⟩::rest) acc S:=by
 refine RT.value hg (jR parts.toList) [] [] (.sv (.agg cs')) hd (by intro c h;cases h) (fun S' ht _ _ E a w h=>?_) next
 have hu:=tP.h
 cases hT:P.underlying T with
 |none=>rw[hT]at hu;cases hu
 |some u=>
  rw[hT]at hu
  cases u with
  |struct fs=>
   simp only at hu
   have hz:(zeroValue T).run P w=.ok (.agg ⟨zc⟩) w:=az.run (t:=⟨tP.hz⟩) w
   obtain⟨us,h1,h2,_⟩:=yh h (fun i=>pl[i]?) hp ht (cells:=zc.map SV.v) (vs:=zc) (BR _ zc) (List.all_eq_true.1 tP.o) hf
   refine⟨.agg ⟨us⟩,?_,⟨us,rfl,hi.holds h2⟩,dY⟩
   have hm:(fs.mapM (fun f=>do pure (f.offset,←sizeOf f.type):Field→Sem (Nat×Nat))).run P w=.ok pl.toArray w:=by
    have:=qx (P:=P) (w:=w) hu
    rw[←Array.toArray_toList (xs:=fs),List.mapM_toArray]
    rw[Sem.run_map,this];rfl
   have h1':Instr.fill (fun i=>pl.toArray[i]?) ⟨zc⟩ (parts.toList.map fun p=>(p.1,a.eval p.2))=some ⟨us⟩:=by simpa using h1
   simp only[execOp,Instr.build,underlying]
   simp only[Sem.run_bind,hz,Result.andThen_ok,run_program,hT,Sem.run_pure,Value.cells]
   have hm':(Array.mapM (fun f=>do
     let __do_lift←sizeOf f.type
     pure (f.offset,__do_lift)) fs:Sem _).run P w=.ok pl.toArray w:=hm
   simp only[hm',Result.andThen_ok]
   have e4:(Array.map (fun x=>match x with|(i,x)=>(i,a.eval x)) parts).toList=parts.toList.map fun p=>(p.1,a.eval p.2):=by simp
   simp only[e4,h1',Sem.run_pure,Result.andThen_ok]
  |_=>cases hu
theorem Pure.w{f:FuncId}{args args':List SV}{r:SV}(h:Pure P f args r)(hi:bT args' args):Pure P f args' r:=fun M w vs hM hv=>h M w vs hM (hi.holds hv)
theorem Pure.r{f:FuncId}{args:List SV}{r r':SV}(h:Pure P f args r)(hi:SV.imp r r'):Pure P f args r':=fun M w vs hM hv=>(h M w vs hM hv).mono fun _ _ ⟨v,M',h1,h2,h3,h4,h5,h6⟩=>⟨v,M',h1,h2,h3,h4,hi _ _ h5,h6⟩
theorem BO.w{f:FuncId}{args args':List SV}{R:Row}(h:BO P f args R)(hi:bT args' args):BO P f args' R:=fun M w vs hM hv=>h M w vs hM (hi.holds hv)
theorem RT.TO(hg:Gd ops S gd rg){m:Nat}[tS:dX P T E0 m]{c:Int}(hx:S.ev x=.sv (slc n (l.map e)))(hd:d<S.n)(hc:(l.length:Int)=c)
  (next:RunT P C ops nd K rest (⟨rg++ak x,[],[],⟨some (d,.sv (.v (.int .i64 c))),[],[]⟩⟩::acc) (S.set d (.sv (.v (.int .i64 c))))):RunT P C ops nd K (⟨some d,.call ⟨.builtin .len,#[x],#[T]⟩,ty,pos,aft,gd⟩::rest) acc S:=
 RT.len hg hx hd (by rw[List.length_map,hc];exact next)
theorem RT.NP(hg:Gd ops S gd rg){m:Nat}[tS:dX P T E0 m]{i:Nat}{E1:TypeId}{c:Int}(hx:S.ev x=.row i)(hR:S.r i=.live (TR E1 n e l))(hd:d<S.n)(hc:(l.length:Int)=c)
  (next:RunT P C ops nd K rest (⟨rg++ak x,[],[i],⟨some (d,.sv (.v (.int .i64 c))),[],[]⟩⟩::acc) (S.set d (.sv (.v (.int .i64 c))))):RunT P C ops nd K (⟨some d,.call ⟨.builtin .len,#[x],#[T]⟩,ty,pos,aft,gd⟩::rest) acc S:=
 RT.Wo hg hx hR hd (by show RunT _ _ _ _ _ _ (⟨_,_,_,⟨some (d,.sv (.v (.int .i64 (l.length:Int)))),_,_⟩⟩::_) (S.set d (.sv (.v (.int .i64 (l.length:Int)))));rw[hc];exact next)
theorem RT.ixM(hg:Gd ops S gd rg)[tS:dX P T E0 n]{kk:IntKind}{i:Int}{a:α}(hx:S.ev x=.sv (slc n (l.map e)))(hy:S.ev y=.sv (.v (.int kk i)))(hd:d<S.n)(ha:dD l i=some a)
  (next:RunT P C ops nd K rest (⟨rg++(ak x++ak y),[],[],⟨some (d,.sv (ref (e a))),[],[]⟩⟩::acc) (S.set d (.sv (ref (e a))))):RunT P C ops nd K (⟨some d,.indexAddr T x y,ty,pos,aft,gd⟩::rest) acc S:=
 RT.indexAddr hg (e a) hx hy hd (n9 ha).1 (by rw[List.getElem?_map,(n9 ha).2];rfl) next
theorem RT.EV(hg:Gd ops S gd rg)[tS:dX P T E0 n]{lo hi:Option Operand}(a b:Int)(hx:S.ev x=.sv (slc n (l.map e)))(hlo:yj S 0 lo a)(hhi:yj S l.length hi b)(hd:d<S.n)(h:BP l a b=some l')
  (next:RunT P C ops nd K rest (⟨rg++(ak x++(lX lo++lX hi)),[],[],⟨some (d,.sv (slc n (l'.map e))),[],[]⟩⟩::acc) (S.set d (.sv (slc n (l'.map e))))):RunT P C ops nd K (⟨some d,.slice T x lo hi none,ty,pos,aft,gd⟩::rest) acc S:=by
 obtain⟨h0,h1,h2,h3⟩:=A4 h
 exact RT.slice hg hx a b hlo (by rw[List.length_map];exact hhi) hd h0 h1 (by rw[List.length_map];exact h2) _ (by rw[FY,h3]) next
theorem RT.l9(hg:Gd ops S gd rg)[tS:dX P T E0 n][tE:aN P E0 n by_ zv]{len:Nat}{parts:Array (Nat×Operand)}{qs:List (Nat×List SV)}(hp:lW S parts.toList qs)(hd:d<S.n)
  (hc:nH 0 qs=true) (hl:qs.length=len) (hsz:(qs.all fun q=>Nat.beq q.2.length n)=true) (hlen:Nat.ble (len*n) 16777216=true) (GU:(zv.cells.toList.all fun v=>v.oneCell')=true) (iF:qs.map (·.2)=l.map e)
  (next:RunT P C ops nd K rest (⟨rg++jR parts.toList,[],[],⟨some (d,.sv (slc n (l.map e))),[],[]⟩⟩::acc) (S.set d (.sv (slc n (l.map e))))):RunT P C ops nd K (⟨some d,.buildSlice T len parts,ty,pos,aft,gd⟩::rest) acc S:=
 RT.buildSlice hg hp hd hc hl hsz (Nat.le_of_ble_eq_true hlen) (List.all_eq_true.1 GU) iF next
theorem RT.F6(hg:Gd ops S gd rg)[tS:dX P T E0 n][tE:aN P E0 n by_ zv]{len:Nat}{parts:Array (Nat×Operand)}{qs:List (Nat×List SV)}(hp:lW S parts.toList qs)(hd:d<S.n)(vw:S.r d=.un)(tR:d<1000)
  (hc:nH 0 qs=true) (hl:qs.length=len) (hsz:(qs.all fun q=>Nat.beq q.2.length n)=true) (hlen:Nat.ble (len*n) 16777216=true) (GU:(zv.cells.toList.all fun v=>v.oneCell')=true) (iF:qs.map (·.2)=l.map e)
  (next:RunT P C ops nd K rest (⟨rg++jR parts.toList,[],[d],⟨some (d,.row d),[],[(d,.live (TR E0 n e l))]⟩⟩::acc) ((AS.bf [(d,.live (TR E0 n e l))] S).set d (.row d))):RunT P C ops nd K (⟨some d,.buildSlice T len parts,ty,pos,aft,gd⟩::rest) acc S:=by
 refine RT.C5 hg hp hd vw tR hc hl hsz (Nat.le_of_ble_eq_true hlen) (List.all_eq_true.1 GU) (cells:=l.flatMap e) (by rw[iF,qC]) ?_
 have:len=l.length:=by have h0:=congrArg List.length iF;simpa[hl]using h0
 rw[this];exact next
theorem RT.apR(hg:Gd ops S gd rg)[tS:dX P T E0 n][tE:aN P E0 n by_ zv]{i:Nat}(hx:S.ev x=.row i)(hR:S.r i=.live (TR E0 n e l))(hy:S.ev y=.sv (slc n (k.map e)))(hd:d<S.n)(vw:S.r d=.un)(tR:d<1000)(h:yu by_ l k=some l')
  (next:RunT P C ops nd K rest (⟨rg++(ak x++ak y),[],[i,d],⟨some (d,.row d),[],[(i,.dead),(d,.live (TR E0 n e l'))]⟩⟩::acc) ((AS.bf [(i,.dead),(d,.live (TR E0 n e l'))] S).set d (.row d))):RunT P C ops nd K (⟨some d,.call ⟨.builtin .append,#[x,y],#[T,T]⟩,ty,pos,aft,gd⟩::rest) acc S:=by
 obtain⟨h1,h2,rfl⟩:=qA h
 exact RT.L0 hg hx hR hy hd vw tR (by simpa using h1) (by simpa using h2) _ (by simp[qC]) next
theorem RT.PA(hg:Gd ops S gd rg)[tS:dX P T E0 n][tE:aN P E0 n by_ zv][el:EL e n]{i:Nat}(hx:S.ev x=.row i)(hR:S.r i=.live (TR E0 n e l))(hy:S.ev y=.sv (slc n (k.map e)))(hd:d<S.n)(vw:S.r d=.un)(tR:d<1000)(h:yu by_ l k=some l')
  (next:RunT P C ops nd K rest (⟨rg++(ak x++ak y),[],[d,i],⟨some (d,.sv (slc n (l'.map e))),[],[(i,.dead),(d,.dead)]⟩⟩::acc) ((AS.bf [(i,.dead),(d,.dead)] S).set d (.sv (slc n (l'.map e))))):RunT P C ops nd K (⟨some d,.call ⟨.builtin .append,#[x,y],#[T,T]⟩,ty,pos,aft,gd⟩::rest) acc S:=by
 obtain⟨h1,h2,rfl⟩:=qA h
 have hf:l.flatMap e++(k.map e).flatten=(l++k).flatMap e:=by simp[qC]
 exact RT.F3 hg (.row hx hR) hy hd vw tR (by simpa using h1) (by simpa using h2) _ (rows':=(l++k).map e) (fun _ _ h _=>h) (by rw[hf];exact oa _) (by simp) (by rw[hf];exact kH _) next
theorem A6(zc:Array Value)(n:Nat)(hz:zc.size=n)(hn:0<n):∀m:Nat,(madeCells zc (m*n)).toList=(List.replicate m zc.toList).flatten
 |0=>by simp[madeCells]
 |m+1=>by
  have ih:=A6 zc n hz hn m
  rw[List.replicate_succ',List.flatten_append,←ih]
  simp only[madeCells,Array.toList_map,Array.toList_range,List.flatten_cons,List.flatten_nil,List.append_nil]
  rw[show(m+1)*n=m*n+n by rw[Nat.add_mul];omega,List.range_add,List.map_append,List.map_map]
  congr 1
  apply List.ext_getElem?
  intro i
  rw[List.getElem?_map]
  rcases Nat.lt_or_ge i n with hi|hi
  ·rw[List.getElem?_range hi]
   simp only[Option.map_some,Function.comp]
   rw[hz,Nat.mul_comm m n,Nat.mul_add_mod,Nat.mod_eq_of_lt hi]
   rw[getElem!_pos zc i (by omega),Array.getElem?_toList,Array.getElem?_eq_getElem (by omega)]
  ·rw[List.getElem?_eq_none (by simpa using hi),List.getElem?_eq_none (by simp;omega)];rfl
theorem Db:∀{a b c d:List SV},bT a c→bT b d→bT (a++b) (c++d)
 |[],_,[],_,_,h=>h
 |_::_,_,_::_,_,h,h'=>⟨h.1,Db h.2 h'⟩
 |[],_,_::_,_,h,_=>h.elim
 |_::_,_,[],_,h,_=>h.elim
theorem Dc{zl:List Value}{zz:α}(hi:bT (zl.map SV.v) (e zz)):∀m:Nat,bT ((List.replicate m zl).flatten.map SV.v) ((List.replicate m zz).flatMap e)
 |0=>trivial
 |m+1=>by
  rw[List.replicate_succ,List.replicate_succ,List.flatten_cons,List.map_append,List.flatMap_cons]
  exact Db hi (Dc hi m)
theorem RT.kx(hg:Gd ops S gd rg)[tS:dX P T E0 n][tE:aN P E0 n by_ zv]{kl kc:IntKind}{c:Int}{zz:α}(hx:S.ev x=.sv (.v (.int kl c)))(hy:S.ev y=.sv (.v (.int kc c)))(hd:d<S.n)(vw:S.r d=.un)(tR:d<1000)(hz:zv.cells.size=n)(hn:0<n)(hi:bT (zv.cells.toList.map SV.v) (e zz))(hm:A0 by_ c zz=some l')
  (next:RunT P C ops nd K rest (⟨rg++(ak x++ak y),[],[d],⟨some (d,.row d),[],[(d,.live (TR E0 n e l'))]⟩⟩::acc) ((AS.bf [(d,.live (TR E0 n e l'))] S).set d (.row d))):RunT P C ops nd K (⟨some d,.makeSlice T x y,ty,pos,aft,gd⟩::rest) acc S:=by
 obtain⟨h0,hroom,qu,rfl⟩:=IL hm
 refine .inl ⟨_,[],[d],_,?_,next⟩
 rintro S' hn' ht _ hr i a w L Q ho ⟨E,h⟩ hL
 refine bD (C:=C) ho (hg.wanted h (fun s hs=>ht s (List.mem_append_left _ hs)) rfl) ?_
 have h1:a.eval x=.int kl c:=by have h1:=h.ev x;rw[aE (fun _ h=>List.mem_append_right _ (List.mem_append_left _ h)) ht,hx]at h1;exact h1
 have h2:a.eval y=.int kc c:=by have h2:=h.ev y;rw[aE (fun _ h=>List.mem_append_right _ (List.mem_append_right _ h)) ht,hy]at h2;exact h2
 obtain⟨info,hii,hsz,hby,Wt⟩:=aN.info (P:=P) (E:=E0) (n:=n) (by_:=by_) (z:=zv)
 obtain⟨m,rfl⟩:=Int.eq_ofNat_of_zero_le h0
 have hb':info.bytes*m≤281474976710656:=by
  rw[hby]
  have:((by_*m:Nat):Int)≤281474976710656:=by rw[Int.natCast_mul];exact hroom
  omega
 obtain⟨w',q1,q2,q3⟩:=run_make_full (P:=P) w 0 T E0 info zv n tS.u hii Wt hsz kl kc m hb' (by unfold maxLen;omega) (Nat.zero_le _)
 have hr':(execOp a.eval ⟨some d,.makeSlice T x y,ty,pos,aft,gd⟩).run P w=.ok (.value (.slice (some ⟨w.heap.size,0,none⟩) m m)) w':=by
  simp only[execOp,h1,h2]
  simp[q1]
 have GS:S'.r d=.un:=by rw[hr d (by simp)];exact vw
 have e0:(m:Int).toNat=m:=by simp
 have hall:SV.dz E.M ((List.replicate m zz).flatMap e) (madeCells zv.cells (m*n)).toList:=by
  rw[A6 zv.cells n hz hn]
  exact bT.holds (l:=((List.replicate m zv.cells.toList).flatten.map SV.v)) (Dc hi m) (BR _ _)
 have hlen:(List.replicate (m:Int).toNat zz).length=m:=by simp
 refine bB (C:=C) (by intro c h;cases h) hr' (hL _ _ ⟨_,(h.newRow GS tR [] none (.inl ⟨rfl,rfl⟩) (R':=TR E0 n e (List.replicate (m:Int).toNat zz)) (by show w'.ownsRow 0 E0 n _ (List.replicate (m:Int).toNat zz).length _;rw[hlen];exact q2) (by rw[e0];exact hall) (.inr (.inl rfl)) q3).put (d:=d) (x:=.row d) (v:=.slice (some ⟨w.heap.size,0,none⟩) m m) (by simp[AV.holds]) (by show d<S'.n;omega) ⟨fun _ e=>e.elim,fun j e=>?_⟩⟩)
 cases e
 show(AS.nE S' d _).r d≠_
 rw[AS.fW];simp
theorem RT.sE(hg:Gd ops S gd rg)[tS:dX P T E0 n][tE:aN P E0 n by_ zv]{kl kc:IntKind}{c:Int}(hx:S.ev x=.sv (.v (.int kl 0)))(hy:S.ev y=.sv (.v (.int kc c)))(hd:d<S.n)(vw:S.r d=.un)(tR:d<1000)(h:IJ (α:=α) by_ c=some l')
  (next:RunT P C ops nd K rest (⟨rg++(ak x++ak y),[],[d],⟨some (d,.row d),[],[(d,.live (TR E0 n e l'))]⟩⟩::acc) ((AS.bf [(d,.live (TR E0 n e l'))] S).set d (.row d))):RunT P C ops nd K (⟨some d,.makeSlice T x y,ty,pos,aft,gd⟩::rest) acc S:=by
 obtain⟨h0,h1,h2,rfl⟩:=IM h
 exact RT.To hg hx hy hd vw tR h0 h1 h2 next
theorem RT.WZ(hg:Gd ops S gd rg)[tS:dX P T E0 n]{i j:Nat}{E1:TypeId}{kk:IntKind}{v:Int}(hx:S.ev x=.row i)(hR:S.r i=.live (TR E1 n e l))(hy:S.ev y=.sv (.v (.int kk v)))(hd:d<S.n)(h:nX l v=some j)
  (next:RunT P C ops nd K rest (⟨rg++(ak x++ak y),[],[i],⟨some (d,.ic i (j*n)),[],[]⟩⟩::acc) (S.set d (.ic i (j*n)))):RunT P C ops nd K (⟨some d,.indexAddr T x y,ty,pos,aft,gd⟩::rest) acc S:=by
 obtain⟨h0,h1,h2⟩:=IK h
 exact RT.ixR hg (.row hx hR) hy hd h0 h1 (j*n) (by rw[h2];omega) next
theorem RT.TP(hg:Gd ops S gd rg)[tV:cU P T][el:EL e 1]{i j:Nat}{E1:TypeId}{a:α}{s:SV}(hx:S.ev x=.ic i (j*1))(hR:S.r i=.live (TR E1 1 e l))(ha:l[j]? =some a)(hs:e a=[s])(hd:d<S.n)
  (next:RunT P C ops nd K rest (⟨rg++ak x,[],[i],⟨some (d,.sv s),[],[]⟩⟩::acc) (S.set d (.sv s))):RunT P C ops nd K (⟨some d,.load T x,ty,pos,aft,gd⟩::rest) acc S:=by
 refine RT.ldR hg hx hR (s:=s) ?_ hd next
 have:=C9 (e:=e) ha
 rw[hs]at this
 have h2:=congrArg (·[0]?) this
 simpa[List.getElem?_take]using h2
theorem Ma(a:List SV)(k:Nat)(s:SV):a.set k s=jB a k [s]:=rfl
theorem RT.W0(hg:Gd ops S gd rg)[tV:cU P T][el:EL e 1]{i j:Nat}{E1:TypeId}{s:SV}[o1:One s](a:α)(hs:e a=[s])(hx:S.ev x=.ic i (j*1))(hR:S.r i=.live (TR E1 1 e l))(hy:S.ev y=.sv s)(h:stM l j a=some l')
  (next:RunT P C ops nd K rest (⟨rg++(ak x++ak y),[],[i],⟨none,[],[(i,.live (TR E1 1 e l'))]⟩⟩::acc) (AS.bf [(i,.live (TR E1 1 e l'))] S)):RunT P C ops nd K (⟨none,.store T x y,ty,pos,aft,gd⟩::rest) acc S:=by
 obtain⟨h1,rfl⟩:=C8 h
 refine RT.stR hg hx hR hy (by show j*1+1≤l.length*1;omega) ((l.set j a).flatMap e) (by rw[Ma,←hs];exact Da h1) ?_
 have:(TR E1 1 e (l.set j a))=⟨E1,1,l.length,(l.set j a).flatMap e⟩:=by show Row.mk _ _ _ _=_;rw[List.length_set]
 rw[←this];exact next
theorem RT.TQ(hg:Gd ops S gd rg)[tA:iZ P T n][el:EL e n]{i j:Nat}{E1:TypeId}(a:α)(hx:S.ev x=.ic i (j*n))(hR:S.r i=.live (TR E1 n e l))(hy:S.ev y=.sv (.agg (e a)))(h:stM l j a=some l')
  (next:RunT P C ops nd K rest (⟨rg++(ak x++ak y),[],[i],⟨none,[],[(i,.live (TR E1 n e l'))]⟩⟩::acc) (AS.bf [(i,.live (TR E1 n e l'))] S)):RunT P C ops nd K (⟨none,.store T x y,ty,pos,aft,gd⟩::rest) acc S:=by
 obtain⟨h1,rfl⟩:=C8 h
 have o1:=el.one a
 refine RT.Ww hg hx hR hy (el.len a) (by show j*n+n≤l.length*n;have:=Nat.mul_le_mul_right n h1;rw[Nat.succ_mul]at this;exact this) ((l.set j a).flatMap e) (Da h1) ?_
 have:(TR E1 n e (l.set j a))=⟨E1,n,l.length,(l.set j a).flatMap e⟩:=by show Row.mk _ _ _ _=_;rw[List.length_set]
 rw[←this];exact next
end steps
theorem dH{S:AS}{i n:Nat}{E1:TypeId}{α:Type}{e:α→List SV}{l:List α}[el:EL e n](hR:S.r i=.live (TR E1 n e l)):qm S (S.lU i (slc n (l.map e))):=by
 rintro C a w ⟨E,h⟩
 have hlen:l.length≤9223372036854775807:=by
  obtain⟨⟨vs,ho,hv⟩,_⟩:=h.rx i _ hR
  rcases ho.2 with⟨_,q2⟩|⟨g',cap,cur,q1,_,q2,q3,q4,q5,q6⟩
  ·have q2:l.length=0:=q2
   omega
  ·have q3:l.length≤cap:=q3
   have:maxLen=9223372036854775807:=by decide
   omega
 exact h.lU hR (oa l) (by rw[List.length_map]) hlen (kH l) (fun _ _ h _=>h)
section control
variable {P:Program}{C:Ctx}{S:AS}{Q:Exit→AS→Prop}
theorem aF{A:Code}{J R:Type}{kB:J→Option R}{fA:(J→Option R)→Option R}{r:R}(h:cQ kB fA=some r)(I:J→AS)
  (hA:fA kB=some r→Ok P C A S (ae (fun S'=>∃j,kB j=some r∧qm S' (I j)) Q)) (hQ:∀j,kB j=some r→Q .normal (I j)):Ok P C A S Q:=fun a w hs=>by
 refine wpIn_mono (hA h a w hs) ?_
 rintro e a' w' ⟨S',q,hh⟩
 cases e with
 |normal=>obtain⟨j,h1,h2⟩:=q;exact⟨_,hQ j h1,h2 C a' w' hh⟩
 |_=>exact⟨S',q,hh⟩
theorem aW{A:Code}{X:Type}(I:X→AS)(p:X→Prop)(hA:Ok P C A S (ae (fun S'=>∃j,p j∧qm S' (I j)) Q))(hQ:∀j,p j→Q .normal (I j)):Ok P C A S Q:=fun a w hs=>by
 refine wpIn_mono (hA a w hs) ?_
 rintro e a' w' ⟨S',q,hh⟩
 cases e with
 |normal=>obtain⟨j,h1,h2⟩:=q;exact⟨_,hQ j h1,h2 C a' w' hh⟩
 |_=>exact⟨S',q,hh⟩
theorem aX{c:Code}{T E:Type}{body:T→Option (T⊕E)}{s0:T}{e:E}(h:cq body s0=some e)(I:T→AS)(h0:qm S (I s0))
  (round:∀(s:T) (y:T⊕E) (G:T→Prop),body s=some y→(∀s',y=.inl s'→G s')→(∀e',y=.inr e'→e'=e)→Ok P C c (I s) (ae (fun S'=>∃s',G s'∧qm S' (I s')) Q)):Ok P C (.loop c) S Q:=by
 obtain⟨n,hn⟩:=sX h
 refine xA (ι:={x:T×Nat//lY body x.2 x.1=some e}) (fun x=>I x.1.1) (fun x=>x.1.2) ⟨(s0,n),hn⟩ h0 ?_
 rintro⟨⟨s,m⟩,hm⟩
 cases m with
 |zero=>cases hm
 |succ m=>
  cases hb:body s with
  |none=>simp only[lY,hb]at hm;cases hm
  |some y=>
   refine BI (round s y (fun s'=>lY body m s'=some e) hb ?_ ?_) ?_
   ·rintro s' rfl;simpa only[lY,hb]using hm
   ·rintro e' rfl;simp only[lY,hb]at hm;exact Option.some.inj hm
   ·intro ex S' q
    cases ex with
    |normal=>obtain⟨s',h1,h2⟩:=q;exact⟨⟨(s',m),h1⟩,Nat.lt_succ_self m,h2⟩
    |_=>exact q
end control
end Go.Fw
namespace Go.Fw
open Go.RowKit
abbrev LH:=List UInt8
def bs(l:LH):ByteArray:=⟨⟨l⟩⟩
def sF(l:LH)(i:Int):Option Nat:=(dD l i).map UInt8.toNat
theorem Mb(l:LH):(bs l).size=l.length:=rfl
theorem PB(l:LH)(i:Nat):(bs l)[i]? =l[i]? :=by
 rcases Nat.lt_or_ge i l.length with h|h
 ·rw[getElem?_pos (bs l) i h,List.getElem?_eq_getElem h];rfl
 ·rw[getElem?_neg (bs l) i (by rw[Mb];omega),List.getElem?_eq_none h]
section steps
variable {P:Program}{C:Ctx}{ops:Array Oper}{S:AS}{nd:Bool}{K:List Ac→AS→Prop}{rest:List Oper}{acc:List Ac}
variable {gd:Option (Nat×Bool)}{rg:List Nat}{d:Nat}{ty:TypeId}{pos:String}{aft:Array Edge}{x y z:Operand}{T U E0:TypeId}
variable {l l' k:LH}
theorem RT.skV{op:Op}{j g:Nat}{b want:Bool}(h1:(ops[j]?).bind (·.dst)=some g)(h2:S.t g=.sv (.v (.bool b)))(hb:b≠want)(hd:d<S.n)
  (next:RunT P C ops nd K rest (⟨[g],[],[],⟨some (d,.sv (.v undef)),[],[]⟩⟩::acc) (S.set d (.sv (.v undef)))):RunT P C ops nd K (⟨some d,op,ty,pos,aft,some (j,want)⟩::rest) acc S:=by
 refine .inl ⟨[g],[],[],⟨some (d,.sv (.v undef)),[],[]⟩,?_,next⟩
 rintro S' hn ht _ _ i a w L Q ho ⟨E,h⟩ hL
 have hv:=h.tm g
 rw[ht g (by simp),h2]at hv
 have hv:a.tmps.getD g undef=.bool b:=hv
 have CQ:a.tmps[g]? =some (.bool b):=by
  rw[Array.getD_eq_getD_getElem?]at hv
  cases e:a.tmps[g]? with
  |none=>rw[e]at hv;simp[undef]at hv
  |some x=>rw[e]at hv;simp at hv;rw[hv]
 have hw:Region.wanted ⟨some d,op,ty,pos,aft,some (j,want)⟩ (yielded ops a.tmps)=false:=by
  simp[Region.wanted,yielded,h1,CQ,hb]
 simp only[wpOpIn,ho,hw]
 exact⟨fun _ _=>trivial,hL _ _ ⟨E,h.put (x:=.sv (.v undef)) (v:=undef) rfl (by omega) ⟨fun _ h=>h.elim,fun _ h=>h.elim⟩⟩⟩
theorem RT.TS{op:Op}{j g:Nat}{want:Bool}(h1:(ops[j]?).bind (·.dst)=some g)(h2:S.t g=.sv (.v undef))(hd:d<S.n)
  (next:RunT P C ops nd K rest (⟨[g],[],[],⟨some (d,.sv (.v undef)),[],[]⟩⟩::acc) (S.set d (.sv (.v undef)))):RunT P C ops nd K (⟨some d,op,ty,pos,aft,some (j,want)⟩::rest) acc S:=by
 refine .inl ⟨[g],[],[],⟨some (d,.sv (.v undef)),[],[]⟩,?_,next⟩
 rintro S' hn ht _ _ i a w L Q ho ⟨E,h⟩ hL
 have hv:=h.tm g
 rw[ht g (by simp),h2]at hv
 have hv:a.tmps.getD g undef=undef:=hv
 rw[Array.getD_eq_getD_getElem?]at hv
 have hw:Region.wanted ⟨some d,op,ty,pos,aft,some (j,want)⟩ (yielded ops a.tmps)=false:=by
  cases e:a.tmps[g]? with
  |none=>simp[Region.wanted,yielded,h1,e]
  |some x=>
   rw[e]at hv
   simp only[Option.getD_some]at hv
   subst hv
   simp[Region.wanted,yielded,h1,e,undef]
 simp only[wpOpIn,ho,hw]
 exact⟨fun _ _=>trivial,hL _ _ ⟨E,h.put (x:=.sv (.v undef)) (v:=undef) rfl (by omega) ⟨fun _ h=>h.elim,fun _ h=>h.elim⟩⟩⟩
theorem RT.six(hg:Gd ops S gd rg)[tS:CV P T]{kk:IntKind}{i:Int}{c:Nat}(hx:S.ev x=.sv (.v (.string (bs l))))(hy:S.ev y=.sv (.v (.int kk i)))(hd:d<S.n)(h:sF l i=some c)
  (next:RunT P C ops nd K rest (⟨rg++(ak x++ak y),[],[],⟨some (d,.sv (.v (.int .u8 (c:Nat)))),[],[]⟩⟩::acc) (S.set d (.sv (.v (.int .u8 (c:Nat)))))):RunT P C ops nd K (⟨some d,.index T x y,ty,pos,aft,gd⟩::rest) acc S:=
 RT.Ey hg (by intro c h;cases h) hx hy hd (fun ρ w h1 h2=>by
  unfold sF at h
  cases hh:dD l i with
  |none=>rw[hh]at h;cases h
  |some b=>
   rw[hh]at h
   obtain⟨q1,q2⟩:=n9 hh
   have q3:b.toNat=c:=Option.some.inj h
   have q4:(bs l)[i.toNat]? =some b:=by rw[PB];exact q2
   simp[execOp,h1,h2,Instr.index,asIntOf,underlying,tS.h,q1,q4,q3]) next
end steps
section rows
variable {P:Program}{C:Ctx}{ops:Array Oper}{S:AS}{nd:Bool}{K:List Ac→AS→Prop}{rest:List Oper}{acc:List Ac}
variable {gd:Option (Nat×Bool)}{rg:List Nat}{d:Nat}{ty:TypeId}{pos:String}{aft:Array Edge}{x y z:Operand}{T U E0:TypeId}
variable {α:Type}{l l' k:List α}{e:α→List SV}{n by_:Nat}{zv:Value}
end rows
end Go.Fw
namespace Go.Fw
open Go.RowKit
def sG{α:Type}(l l':List α):Option Unit:=if l'.length=l.length then some ()else none
theorem gB{α:Type}{l l':List α}{u:Unit}(h:sG l l'=some u):l'.length=l.length:=by
 unfold sG at h;split at h
 ·assumption
 ·cases h
def PC{α:Type}(l:List α)(lo hi:Int):Option (Nat×Nat):=if 0≤lo∧lo<l.length∧lo≤hi∧hi≤l.length then some (lo.toNat,(hi-lo).toNat)else none
theorem IP{α:Type}{l:List α}{lo hi:Int}{o n:Nat}(h:PC l lo hi=some (o,n)):0≤lo∧lo<l.length∧lo≤hi∧hi≤l.length∧lo.toNat=o∧(hi-lo).toNat=n:=by
 unfold PC at h;split at h
 ·rename_i hh
  obtain⟨q1,q2⟩:=Prod.mk.inj (Option.some.inj h)
  exact⟨hh.1,hh.2.1,hh.2.2.1,hh.2.2.2,q1,q2⟩
 ·cases h
def LI(o n:Nat)(i:Int):Option Nat:=if 0≤i∧i<n then some (o+i.toNat)else none
theorem IQ{o n j:Nat}{i:Int}(h:LI o n i=some j):0≤i∧i<n∧o+i.toNat=j:=by
 unfold LI at h;split at h
 ·rename_i hh;exact⟨hh.1,hh.2,Option.some.inj h⟩
 ·cases h
def oY:List (List SV)→List (List SV)→Prop
 |[],[]=>True
 |r::l,r'::l'=>bT r r'∧oY l l'
 |_,_=>False
theorem bT.get:∀{l l':List SV} {k:Nat} {s':SV},bT l l'→l'[k]? =some s'→∃s,l[k]? =some s∧SV.imp s s'
 |x::_,y::_,0,_,h,e=>⟨x,rfl,by simp at e;subst e;exact h.1⟩
 |_::l,_::l',k+1,_,h,e=>by simpa using bT.get (l:=l) (l':=l') h.2 (by simpa using e)
 |[],[],_,_,_,e=>by simp at e
 |[],_::_,_,_,h,_=>h.elim
 |_::_,[],_,_,h,_=>h.elim
theorem bT.len:∀{l l':List SV},bT l l'→l'.length=l.length
 |[],[],_=>rfl
 |_::_,_::_,h=>congrArg (· +1) (bT.len h.2)
 |[],_::_,h=>h.elim
 |_::_,[],h=>h.elim
theorem oY.len:∀{l l':List (List SV)},oY l l'→l'.length=l.length
 |[],[],_=>rfl
 |_::_,_::_,h=>congrArg (· +1) (oY.len h.2)
 |[],_::_,h=>h.elim
 |_::_,[],h=>h.elim
theorem oY.get:∀{l l':List (List SV)} {k:Nat} {s':List SV},oY l l'→l'[k]? =some s'→∃s,l[k]? =some s∧bT s s'
 |x::_,y::_,0,_,h,e=>⟨x,rfl,by simp at e;subst e;exact h.1⟩
 |_::l,_::l',k+1,_,h,e=>by simpa using oY.get (l:=l) (l':=l') h.2 (by simpa using e)
 |[],[],_,_,_,e=>by simp at e
 |[],_::_,_,_,h,_=>h.elim
 |_::_,[],_,_,h,_=>h.elim
class PV {α:Type} (e:α→List SV):Prop where
 h:∀x,∃v:Value,e x=[.v v]
instance:PV af:=⟨fun _=>⟨_,rfl⟩⟩
instance:PV bO:=⟨fun _=>⟨_,rfl⟩⟩
theorem Mc{α:Type}{e:α→List SV}{l:List α}{n:Nat}{M:Mem}{v:Value}(h:(slc n (l.map e)).h M v):l.length≤9223372036854775807:=by
 rcases h with⟨_,_,h⟩|⟨b,o,c,_,_,h,_⟩
 ·have:l=[]:=by simpa using h
  subst this;simp
 ·rwa[List.length_map]at h
theorem xG{α:Type}{e:α→List SV}{l:List α}{n:Nat}{M:Mem}{v:Value}(h:(ref [slc n (l.map e)]).h M v):l.length≤9223372036854775807:=by
 obtain⟨b,o,_,h⟩:=h
 obtain⟨y,_,_,h⟩:=h 0 _ rfl
 exact Mc h
theorem s9{l:List Nat}{i:Nat}(h:l.length≤i):l.getD i 0=0:=by simp[List.getD,List.getElem?_eq_none h]
theorem qD{l:List Nat}{i:Nat}(h:i<l.length):l[i]? =some (l.getD i 0):=by simp[List.getD,h]
theorem iG{α:Type}{l:List α}{d:α}{i:Nat}(h:l.length≤i):l.getD i d=d:=by simp[List.getD,List.getElem?_eq_none h]
theorem jb{α:Type}{l:List α}{d:α}{i:Nat}(h:i<l.length):l[i]? =some (l.getD i d):=by simp[List.getD,h]
theorem yy{α β:Type}(a:List α)(b:List β)(i:Nat)(h:i≤max a.length b.length):(i<max a.length b.length∧i<a.length∧i<b.length)∨(i<max a.length b.length∧i<a.length∧b.length≤i)∨(i<max a.length b.length∧a.length≤i∧i<b.length)∨i=max a.length b.length:=by omega
section steps
variable {P:Program}{C:Ctx}{ops:Array Oper}{S:AS}{nd:Bool}{K:List Ac→AS→Prop}{rest:List Oper}{acc:List Ac}
variable {gd:Option (Nat×Bool)}{rg:List Nat}{d:Nat}{ty:TypeId}{pos:String}{aft:Array Edge}{x y z:Operand}{T U E0:TypeId}
variable {α:Type}{l l' k:List α}{e:α→List SV}{n by_:Nat}{zv:Value}
theorem PD{E1:TypeId}(h:l'.length=l.length):(⟨E1,n,l.length,l'.flatMap e⟩:Row)=TR E1 n e l':=by show _=Row.mk _ _ _ _;rw[h]
theorem RT.PE(hg:Gd ops S gd rg){f:FuncId}[dj P f]{g:Operand}{xs:Array Operand}{at_:Array TypeId}{args:List AV}{E1:TypeId}{res:AV}(hp:EK P f args (TR E1 n e l) res (l'.flatMap e))(hlen:l'.length=l.length)(i:Nat)(hR:S.r i=.live (TR E1 n e l))(hrow:args.all AV.vz=true)(hres:res.vz=true)
  (hf:S.ev g=.sv (.v (.func (.func f) #[] #[]))) (hargs:sS S xs.toList (args.map (AV.wH i))) (hd:d<S.n)
  (next:RunT P C ops nd K rest (⟨rg++(ak g++xs.toList.flatMap ak),[],[i],⟨some (d,res.wH i),[],[(i,.live (TR E1 n e l'))]⟩⟩::acc) ((AS.bf [(i,.live (TR E1 n e l'))] S).set d (res.wH i))):RunT P C ops nd K (⟨some d,.call ⟨.value g,xs,at_⟩,ty,pos,aft,gd⟩::rest) acc S:=
 RT.Ty hg hp i hR hrow hres hf hargs hd (by rw[PD hlen];exact next)
theorem RT.Md(hg:Gd ops S gd rg)[tS:dX P T E0 n]{i o m:Nat}{E1:TypeId}{lo hi:Option Operand}(a b:Int)(hx:S.ev x=.row i)(hR:S.r i=.live (TR E1 n e l))(hlo:yj S 0 lo a)(hhi:yj S l.length hi b)(hd:d<S.n)(h:PC l a b=some (o,m))
  (next:RunT P C ops nd K rest (⟨rg++(ak x++(lX lo++lX hi)),[],[i],⟨some (d,.lJ i (o*n) m),[],[]⟩⟩::acc) (S.set d (.lJ i (o*n) m))):RunT P C ops nd K (⟨some d,.slice T x lo hi none,ty,pos,aft,gd⟩::rest) acc S:=by
 obtain⟨h0,h1,h2,h3,h4,h5⟩:=IP h
 exact RT.Pj hg (.row hx hR) a b hlo hhi hd h0 h1 h2 h3 (o*n) m (by rw[h4];omega) h5 next
theorem RT.PF(hg:Gd ops S gd rg){m:Nat}[tS:dX P T E0 m]{i o q:Nat}{c:Int}(hx:S.ev x=.lJ i o q)(hd:d<S.n)(hc:(q:Int)=c)
  (next:RunT P C ops nd K rest (⟨rg++ak x,[],[],⟨some (d,.sv (.v (.int .i64 c))),[],[]⟩⟩::acc) (S.set d (.sv (.v (.int .i64 c))))):RunT P C ops nd K (⟨some d,.call ⟨.builtin .len,#[x],#[T]⟩,ty,pos,aft,gd⟩::rest) acc S:=
 RT.Tx hg hx hd (by rw[hc];exact next)
theorem RT.Dd(hg:Gd ops S gd rg)[tS:dX P T E0 n]{i o q j:Nat}{kk:IntKind}{v:Int}(hx:S.ev x=.lJ i (o*n) q)(hy:S.ev y=.sv (.v (.int kk v)))(hd:d<S.n)(h:LI o q v=some j)
  (next:RunT P C ops nd K rest (⟨rg++(ak x++ak y),[],[],⟨some (d,.ic i (j*n)),[],[]⟩⟩::acc) (S.set d (.ic i (j*n)))):RunT P C ops nd K (⟨some d,.indexAddr T x y,ty,pos,aft,gd⟩::rest) acc S:=by
 obtain⟨h0,h1,h2⟩:=IQ h
 exact RT.ixR hg (.lJ hx) hy hd h0 h1 (j*n) (by rw[←h2,Nat.add_mul]) next
end steps
def nL{S:Type}(body:Nat→S→Option S):Nat→S→Option S
 |0,s=>some s
 |n+1,s=>(nL body n s).bind (body n)
theorem jc{S:Type}{body:Nat→S→Option S}:∀{n:Nat} {s e:S},nL body n s=some e→∃st:Nat→S,st 0=s∧(∀k,k<n→body k (st k)=some (st (k+1)))∧st n=e
 |0,s,e,h=>⟨fun _=>s,rfl,fun _ h=>by omega,Option.some.inj h⟩
 |n+1,s,e,h=>by
  obtain⟨e1,h1,h2⟩:=bind_some (x:=nL body n s) h
  obtain⟨st,q1,q2,q3⟩:=jc h1
  refine⟨fun k=>if k=n+1 then e else st k,by simpa using q1,fun k hk=>?_,by simp⟩
  rcases Nat.lt_or_ge k n with hkn|hkn
  ·simpa[show k≠n+1 by omega,show k≠n by omega]using q2 k hkn
  ·obtain rfl:k=n:=by omega
   simpa[q3]using h2
theorem A7{S:Type}{body:Nat→S→Option S}(st:Nat→S):∀(n:Nat),(∀k,k<n→body k (st k)=some (st (k+1)))→nL body n (st 0)=some (st n)
 |0,_=>rfl
 |n+1,h=>by
  rw[nL,A7 st n (fun k hk=>h k (by omega))]
  exact h n (by omega)
def mz{S E:Type}(body:Nat→S→Option (S⊕E)):Nat→S→Option (S⊕E)
 |0,s=>some (.inl s)
 |n+1,s=>(mz body n s).bind fun r=>match r with|.inl s'=>body n s'|.inr e=>some (.inr e)
theorem A8{S E:Type}{body:Nat→S→Option (S⊕E)}:∀{n:Nat} {s:S} {r:S⊕E},mz body n s=some r→∃(m:Nat) (st:Nat→S),st 0=s∧m≤n∧(∀k,k<m→body k (st k)=some (.inl (st (k+1))))∧((m=n∧r=.inl (st n))∨(m<n∧∃e,r=.inr e∧body m (st m)=some (.inr e)))
 |0,s,r,h=>⟨0,fun _=>s,rfl,Nat.le_refl _,fun _ h=>by omega,.inl ⟨rfl,(Option.some.inj h).symm⟩⟩
 |n+1,s,r,h=>by
  obtain⟨r1,h1,h2⟩:=bind_some (x:=mz body n s) h
  obtain⟨m,st,q1,q2,q3,q4⟩:=A8 h1
  rcases q4 with⟨rfl,rfl⟩|⟨q4,e,rfl,q5⟩
  ·simp only at h2
   cases r with
   |inr e=>exact⟨m,st,q1,by omega,q3,.inr ⟨by omega,e,rfl,h2⟩⟩
   |inl s'=>
    refine⟨m+1,fun k=>if k=m+1 then s' else st k,by simpa using q1,Nat.le_refl _,fun k hk=>?_,.inl ⟨rfl,by simp⟩⟩
    rcases Nat.lt_or_ge k m with hkn|hkn
    ·simpa[show k≠m+1 by omega,show k≠m by omega]using q3 k hkn
    ·obtain rfl:k=m:=by omega
     simpa using h2
  ·simp only at h2
   cases h2
   exact⟨m,st,q1,by omega,q3,.inr ⟨by omega,e,rfl,q5⟩⟩
theorem BS{S E:Type}{body:Nat→S→Option (S⊕E)}{n m:Nat}{st:Nat→S}{r:S⊕E}(h:∀k,k<m→body k (st k)=some (.inl (st (k+1))))(hr:(m=n∧r=.inl (st n))∨(m<n∧∃e,r=.inr e∧body m (st m)=some (.inr e))){k:Nat}(hk:k<n)(hkm:k≤m):
  ∃y,body k (st k)=some y∧(∀s',y=.inl s'→k+1≤m∧s'=st (k+1))∧∀e',y=.inr e'→r=.inr e':=by
 rcases Nat.lt_or_ge k m with q|q
 ·exact⟨_,h k q,(fun s' e=>⟨q,by cases e;rfl⟩),(fun e' e=>by cases e)⟩
 ·obtain rfl:k=m:=by omega
  rcases hr with⟨rfl,_⟩|⟨_,e,rfl,he⟩
  ·omega
  ·exact⟨_,he,(fun s' e=>by cases e),(fun e' q=>by cases q;rfl)⟩
theorem De{S E:Type}{body:Nat→S→Option (S⊕E)}{n m:Nat}{st:Nat→S}{r:S⊕E}(hr:(m=n∧r=.inl (st n))∨(m<n∧∃e,r=.inr e∧body m (st m)=some (.inr e)))(h:n≤m):r=.inl (st n):=by
 rcases hr with⟨_,q⟩|⟨q,_⟩
 ·exact q
 ·omega
theorem A9{S E:Type}{body:Nat→S→Option (S⊕E)}{n:Nat}{s:S}{r:S⊕E}(h:mz body n s=some r):∃(m:Nat) (st:Nat→S),st 0=s∧(∀k,k<n→k≤m→∃y,body k (st k)=some y∧(∀s',y=.inl s'→k+1≤m∧s'=st (k+1))∧∀e',y=.inr e'→r=.inr e')∧(n≤m→r=.inl (st n)):=by
 obtain⟨m,st,q1,q2,q3,q4⟩:=A8 h
 exact⟨m,st,q1,fun k hk hm=>BS q3 q4 hk hm,fun hn=>De q4 hn⟩
end Go.Fw
namespace Go.Fw
open Go.RowKit
def IS(es:List (Value×Value)):SV where
 h M v:=∃b,v=.map (some b)∧M b 0=some (.tuple ⟨es.map fun p=>.tuple #[p.1,p.2]⟩)
 mono hM h:=by obtain⟨b,e,h⟩:=h;exact⟨b,e,hM _ _ _ h⟩
class F7 (P:Program) (T:TypeId) (k:outParam TypeId) (e:outParam TypeId):Prop where
 u:P.underlying T=some (.map k e)
def Ba(k:IntKind)(n:Int):List (Value×Value)→Option Value
 |[]=>none
 |(.int k' m,v)::l=>if k=k' then(if n=m then some v else Ba k n l)else none
 |_::_=>none
theorem sH{k:IntKind}{n:Int}{v:Value}:∀(es:List MapEntry) (i:Nat),Ba k n (es.map fun e=>(e.key,e.val))=some v→∃j,Instr.findNow (.int k) (.int k n) es i=some (some (j,v))
 |[],_,h=>by simp[Ba]at h
 |⟨key,val,born⟩::es,i,h=>by
  cases key with
  |int k' m=>
   simp only[List.map_cons,Ba]at h
   by_cases hk:k=k'
   ·subst hk
    rw[if_pos rfl]at h
    by_cases hn:n=m
    ·subst hn
     rw[if_pos rfl]at h
     cases h
     exact⟨i,by simp[Instr.findNow,Instr.sameNow]⟩
    ·rw[if_neg hn]at h
     obtain⟨j,hj⟩:=sH es (i+1) h
     have hb:(n==m)=false:=by simp[hn]
     exact⟨j,by simp[Instr.findNow,Instr.sameNow,hb,hj]⟩
   ·rw[if_neg hk]at h;cases h
  |_=>simp[Ba]at h
theorem F8:∀(l:List (Value×Value)) (m:List MapEntry),l.map (fun p=>Value.tuple #[p.1,p.2])=m.map (fun e=>Value.tuple #[e.key,e.val])→m.map (fun e=>(e.key,e.val))=l
 |[],[],_=>rfl
 |[],_::_,h=>by simp at h
 |_::_,[],h=>by simp at h
 |(p,q)::l,e::m,h=>by
  simp only[List.map_cons,List.cons.injEq,Value.tuple.injEq]at h⊢
  refine⟨?_,F8 l m h.2⟩
  have:=h.1
  simp at this
  rw[this.1,this.2]
theorem IT{es:Array MapEntry}{l:List (Value×Value)}(h:(⟨l.map fun p=>.tuple #[p.1,p.2]⟩:Array Value)=LS es):es.toList.map (fun e=>(e.key,e.val))=l:=
 F8 l es.toList (congrArg Array.toList h)
theorem getM{P:Program}{w:World}{r:Nat}{es:Array MapEntry}{ck:Nat}(hb:w.heap[r]? =some (.map es ck)):(getObj r).run P w=.ok (.map es ck) w:=by simp[getObj,Sem.run,hb]
theorem W2{P:Program}{w:World}{r:Nat}{es:Array MapEntry}{ck:Nat}(o:Obj)(hb:w.heap[r]? =some (.map es ck)):(setObj r o).run P w=.ok () {w with heap:=w.heap.setIfInBounds r o}:=by simp[setObj,Sem.run,hb]
theorem ckM{P:Program}{w:World}{kt:TypeId}{k:IntKind}[tI:gw P kt k]{n:Int}(bb:Bool):(Instr.checkKey bb 10000 kt (.int k n)).run P w=.ok () w:=by
 rw[show(10000:Nat)=9999+1 from rfl,Instr.checkKey]
 simp[underlying,tI.h]
theorem IU{M:Mem}:∀l:List Value,SV.dz M (l.map SV.v) l
 |[]=>trivial
 |_::l=>⟨rfl,IU l⟩
section steps
variable {P:Program}{C:Ctx}{ops:Array Oper}{S:AS}{nd:Bool}{K:List Ac→AS→Prop}{rest:List Oper}{acc:List Ac}
variable {gd:Option (Nat×Bool)}{rg:List Nat}{d:Nat}{ty:TypeId}{pos:String}{aft:Array Edge}{x y z:Operand}{T U E0:TypeId}
theorem RT.look(hg:Gd ops S gd rg){kt et:TypeId}[tM:F7 P T kt et]{k:IntKind}[tI:gw P kt k]{es:List (Value×Value)}{n:Int}(cs:List Value)(hx:S.ev x=.sv (IS es))(hy:S.ev y=.sv (.v (.int k n)))(hl:Ba k n es=some (.agg ⟨cs⟩))(hd:d<S.n)
  (next:RunT P C ops nd K rest (⟨rg++(ak x++ak y),[],[],⟨some (d,.sv (.agg (cs.map SV.v))),[],[]⟩⟩::acc) (S.set d (.sv (.agg (cs.map SV.v))))):RunT P C ops nd K (⟨some d,.lookup T x y false,ty,pos,aft,gd⟩::rest) acc S:=
 RT.value hg (ak x++ak y) [] [] (.sv (.agg (cs.map SV.v))) hd (by intro c h;cases h) (fun S' ht _ _ E a w h=>by
  have h1:=h.ev x
  rw[aE (fun _ h=>List.mem_append_left _ h) ht,hx]at h1
  have h2:a.eval y=.int k n:=by have h2:=h.ev y;rw[aE (fun _ h=>List.mem_append_right _ h) ht,hy]at h2;exact h2
  obtain⟨b,e,hb⟩:=h1
  obtain⟨ms,ck,hm,he⟩:=h.cm _ _ _ hb
  have he:=IT he
  rw[←he]at hl
  obtain⟨j,hj⟩:=sH ms.toList 0 hl
  refine⟨.agg ⟨cs⟩,?_,⟨cs,rfl,?_⟩,dY⟩
  ·have W4:(Instr.findKey kt (.int k n) ms.toList).run P w=.ok (some (j,.agg ⟨cs⟩)) w:=by
    simp[Instr.findKey,underlying,tI.h,hj]
   simp[execOp,e,h2,Instr.lookup,underlying,tM.u,getM hm,ckM,W4]
  ·exact IU cs) next
def qE(w:World)(ms:Array MapEntry)(ck:Nat):World:=w.alloc (.map ms ck)
theorem vE(w:World)(ms:Array MapEntry)(ck:Nat):(qE w ms ck).heap[w.heap.size]? =some (.map ms ck):=by show(w.heap.push _)[w.heap.size]? =_;simp
theorem run_make{d:Option Nat}{ρ:Operand→Value}{w:World}:(execOp ρ ⟨d,.makeMap T none,ty,pos,aft,none⟩).run P w=.ok (.value (.map (some w.heap.size))) (qE w #[] 0):=by
 simp[execOp,Instr.makeMap,qE]
theorem xH{d:Option Nat}{kt et:TypeId}[tM:F7 P T kt et]{k:IntKind}[tI:gw P kt k]{ρ:Operand→Value}{w:World}{ms:Array MapEntry}{ck:Nat}{n:Int}{v:Value}(hx:ρ x=.map (some w.heap.size))(hy:ρ y=.int k n)(hz:ρ z=v)
  (hf:Instr.findNow (.int k) (.int k n) ms.toList 0=some none):(execOp ρ ⟨d,.insert T x y z,ty,pos,aft,none⟩).run P (qE w ms ck)=.ok .skip (qE w (ms.push ⟨.int k n,v,ck⟩) (ck+1)):=by
 have W4:(Instr.findKey kt (.int k n) ms.toList).run P (qE w ms ck)=.ok none (qE w ms ck):=by
  simp[Instr.findKey,underlying,tI.h,hf]
 have W5:∀o:Obj,{qE w ms ck with heap:=(qE w ms ck).heap.setIfInBounds w.heap.size o}=w.alloc o:=by
  intro o
  simp only[qE,World.alloc]
  congr 1
  apply Array.ext'
  simp
 simp[execOp,hx,hy,hz,Instr.mapUpdate,underlying,tM.u,getM (vE w ms ck),ckM,W4,W2 _ (vE w ms ck)]
 exact W5 _
theorem xI{d:Option Nat}{z0:Value}[tP:bF P U [(0,1)] [z0]]{ρ:Operand→Value}{w:World}{v:Value}(hx:ρ x=v)(hv:v.oneCell'=true):(execOp ρ ⟨d,.build U #[(0,x)],ty,pos,aft,none⟩).run P w=.ok (.value (.agg #[v])) w:=by
 have hu:=tP.h
 cases hT:P.underlying U with
 |none=>rw[hT]at hu;cases hu
 |some u=>
  rw[hT]at hu
  cases u with
  |struct fs=>
   simp only at hu
   have hz:(zeroValue U).run P w=.ok (.agg ⟨[z0]⟩) w:=az.run (t:=⟨tP.hz⟩) w
   have hm:(fs.mapM (fun f=>do pure (f.offset,←sizeOf f.type):Field→Sem (Nat×Nat))).run P w=.ok #[(0,1)] w:=by
    have:=qx (P:=P) (w:=w) hu
    rw[←Array.toArray_toList (xs:=fs),List.mapM_toArray]
    rw[Sem.run_map,this];rfl
   simp only[execOp,Instr.build,underlying]
   simp only[Sem.run_bind,hz,Result.andThen_ok,run_program,hT,Sem.run_pure,Value.cells]
   have hm':(Array.mapM (fun f=>do
     let __do_lift←sizeOf f.type
     pure (f.offset,__do_lift)) fs:Sem _).run P w=.ok #[(0,1)] w:=hm
   simp only[hm',Result.andThen_ok]
   have h1':Instr.fill (fun i=>(#[(0,1)]:Array (Nat×Nat))[i]?) ⟨[z0]⟩ [(0,v)]=some ⟨[v]⟩:=by
    simp[Instr.fill,gX hv]
    try rfl
   have e4:(Array.map (fun x=>match x with|(i,x)=>(i,ρ x)) #[(0,x)]).toList=[(0,v)]:=by simp[hx]
   simp only[e4,h1',Sem.run_pure,Result.andThen_ok]
  |_=>cases hu
theorem Me{Q:Exit→AS→Prop}{id:Nat}{T U kt et t0:TypeId}[tM:F7 P T kt et]{k:IntKind}[tI:gw P kt k]{z0:Value}[tP:bF P U [(0,1)] [z0]]{f1 f2 f3 f4:FuncId}{n1 n2 n3 n4:Int}
  {p0 p1 p2 p3 p4 p5 p6 p7 p8 p9 p10:String} {a0 a1 a2 a3 a4 a5 a6 a7 a8 a9 VT:Array Edge} {u1 u2 u3 u4 u5 u6 u7 u8 u9:TypeId} (hn:7≤S.n)
  (h2:Instr.findNow (.int k) (.int k n2) [⟨.int k n1,.agg #[.func (.func f1) #[] #[]],0⟩] 0=some none)
  (h3:Instr.findNow (.int k) (.int k n3) [⟨.int k n1,.agg #[.func (.func f1) #[] #[]],0⟩,⟨.int k n2,.agg #[.func (.func f2) #[] #[]],1⟩] 0=some none)
  (h4:Instr.findNow (.int k) (.int k n4) [⟨.int k n1,.agg #[.func (.func f1) #[] #[]],0⟩,⟨.int k n2,.agg #[.func (.func f2) #[] #[]],1⟩,⟨.int k n3,.agg #[.func (.func f3) #[] #[]],2⟩] 0=some none)
  (hQ:∀S',S'.t 0=.sv (IS [(.int k n1,.agg #[.func (.func f1) #[] #[]]),(.int k n2,.agg #[.func (.func f2) #[] #[]]),(.int k n3,.agg #[.func (.func f3) #[] #[]]),(.int k n4,.agg #[.func (.func f4) #[] #[]])])→Q .normal S'):
  Ok P C (.region id #[⟨some 1,.makeMap T none,t0,p0,a0,none⟩,⟨some 2,.build U #[(0,.func f1)],u1,p1,a1,none⟩,⟨none,.insert T (.tmp 1) (.const (.int k n1)) (.tmp 2),u2,p2,a2,none⟩,
   ⟨some 3,.build U #[(0,.func f2)],u3,p3,a3,none⟩,⟨none,.insert T (.tmp 1) (.const (.int k n2)) (.tmp 3),u4,p4,a4,none⟩,⟨some 4,.build U #[(0,.func f3)],u5,p5,a5,none⟩,⟨none,.insert T (.tmp 1) (.const (.int k n3)) (.tmp 4),u6,p6,a6,none⟩,
   ⟨some 5,.build U #[(0,.func f4)],u7,p7,a7,none⟩,⟨none,.insert T (.tmp 1) (.const (.int k n4)) (.tmp 5),u8,p8,a8,none⟩,⟨some 6,.move (.tmp 1),u9,p9,a9,none⟩,⟨some 0,.assign (.tmp 6),u9,p10,VT,none⟩] false) S Q:=by
 rintro a w ⟨E,h⟩
 refine wpIn_region ?_
 show wpOpsIn _ _ _ _ _ [0,1,2,3,4,5,6,7,8,9,10] a w
 have hS:∀(S:AS) (d:Nat) (x:AV),(S.set d x).n=S.n:=fun _ _ _=>rfl
 rw[wpOpsIn_cons]
 refine bD (C:=C) rfl rfl (bB (C:=C) (by intro c h;cases h) run_make ?_)
 have g1:=h.put (d:=1) (x:=.sv (.v (.map (some w.heap.size)))) (v:=.map (some w.heap.size)) rfl (by omega) dY
 show wpOpsIn _ _ _ _ _ _ (a.put (some 1) _) _
 generalize a.put (some 1) (.map (some w.heap.size))=b1 at g1⊢
 rw[wpOpsIn_cons]
 refine bD (C:=C) rfl rfl (bB (C:=C) (by intro c h;cases h) (xI rfl rfl) ?_)
 have g2:=g1.put (d:=2) (x:=.sv (.v (.agg #[.func (.func f1) #[] #[]]))) (v:=.agg #[.func (.func f1) #[] #[]]) rfl (by rw[hS];omega) dY
 show wpOpsIn _ _ _ _ _ _ (b1.put (some 2) (.agg #[.func (.func f1) #[] #[]])) _
 generalize b1.put (some 2) (.agg #[.func (.func f1) #[] #[]])=b2 at g2⊢
 rw[wpOpsIn_cons]
 refine bD (C:=C) rfl rfl (bB (C:=C) (by intro c h;cases h) (xH (k:=k) (n:=n1) (v:=.agg #[.func (.func f1) #[] #[]]) (g2.ev (.tmp 1)) rfl (g2.ev (.tmp 2)) rfl) ?_)
 show wpOpsIn _ _ _ _ _ _ (b2.put none undef) _
 rw[show b2.put none undef=b2 from rfl,wpOpsIn_cons]
 refine bD (C:=C) rfl rfl (bB (C:=C) (by intro c h;cases h) (xI rfl rfl) ?_)
 have g3:=g2.put (d:=3) (x:=.sv (.v (.agg #[.func (.func f2) #[] #[]]))) (v:=.agg #[.func (.func f2) #[] #[]]) rfl (by rw[hS,hS];omega) dY
 show wpOpsIn _ _ _ _ _ _ (b2.put (some 3) (.agg #[.func (.func f2) #[] #[]])) _
 generalize b2.put (some 3) (.agg #[.func (.func f2) #[] #[]])=b3 at g3⊢
 rw[wpOpsIn_cons]
 refine bD (C:=C) rfl rfl (bB (C:=C) (by intro c h;cases h) (xH (k:=k) (n:=n2) (v:=.agg #[.func (.func f2) #[] #[]]) (g3.ev (.tmp 1)) rfl (g3.ev (.tmp 3)) (by simpa using h2)) ?_)
 show wpOpsIn _ _ _ _ _ _ (b3.put none undef) _
 rw[show b3.put none undef=b3 from rfl,wpOpsIn_cons]
 refine bD (C:=C) rfl rfl (bB (C:=C) (by intro c h;cases h) (xI rfl rfl) ?_)
 have g4:=g3.put (d:=4) (x:=.sv (.v (.agg #[.func (.func f3) #[] #[]]))) (v:=.agg #[.func (.func f3) #[] #[]]) rfl (by rw[hS,hS,hS];omega) dY
 show wpOpsIn _ _ _ _ _ _ (b3.put (some 4) (.agg #[.func (.func f3) #[] #[]])) _
 generalize b3.put (some 4) (.agg #[.func (.func f3) #[] #[]])=b4 at g4⊢
 rw[wpOpsIn_cons]
 refine bD (C:=C) rfl rfl (bB (C:=C) (by intro c h;cases h) (xH (k:=k) (n:=n3) (v:=.agg #[.func (.func f3) #[] #[]]) (g4.ev (.tmp 1)) rfl (g4.ev (.tmp 4)) (by simpa using h3)) ?_)
 show wpOpsIn _ _ _ _ _ _ (b4.put none undef) _
 rw[show b4.put none undef=b4 from rfl,wpOpsIn_cons]
 refine bD (C:=C) rfl rfl (bB (C:=C) (by intro c h;cases h) (xI rfl rfl) ?_)
 have g5:=g4.put (d:=5) (x:=.sv (.v (.agg #[.func (.func f4) #[] #[]]))) (v:=.agg #[.func (.func f4) #[] #[]]) rfl (by rw[hS,hS,hS,hS];omega) dY
 show wpOpsIn _ _ _ _ _ _ (b4.put (some 5) (.agg #[.func (.func f4) #[] #[]])) _
 generalize b4.put (some 5) (.agg #[.func (.func f4) #[] #[]])=b5 at g5⊢
 rw[wpOpsIn_cons]
 refine bD (C:=C) rfl rfl (bB (C:=C) (by intro c h;cases h) (xH (k:=k) (n:=n4) (v:=.agg #[.func (.func f4) #[] #[]]) (g5.ev (.tmp 1)) rfl (g5.ev (.tmp 5)) (by simpa using h4)) ?_)
 show wpOpsIn _ _ _ _ _ _ (b5.put none undef) _
 have e1:b5.eval (.tmp 1)=.map (some w.heap.size):=g5.ev (.tmp 1)
 obtain⟨ms,hms⟩:∃ms:Array MapEntry,(((((#[]:Array MapEntry).push ⟨.int k n1,.agg #[.func (.func f1) #[] #[]],0⟩).push ⟨.int k n2,.agg #[.func (.func f2) #[] #[]],0+1⟩).push ⟨.int k n3,.agg #[.func (.func f3) #[] #[]],0+1+1⟩).push ⟨.int k n4,.agg #[.func (.func f4) #[] #[]],0+1+1+1⟩)=ms:=⟨_,rfl⟩
 rw[hms]
 have hno:∀o,E.M w.heap.size o=none:=fun o=>by
  cases e:E.M w.heap.size o with
  |none=>rfl
  |some v=>have:=lK h.cm e;omega
 have g6:=g5.grow (M':=fun b o=>if b=w.heap.size∧o=0 then some (.tuple (LS ms))else E.M b o) (w':=qE w ms (0+1+1+1+1)) (fun b o v e=>by
   have:b≠w.heap.size:=by rintro rfl;rw[hno o]at e;cases e
   simp[this,e]) (fun b o v e=>by
   by_cases hb:b=w.heap.size∧o=0
   ·exact .inr (by omega)
   ·simp only[if_neg hb]at e;exact .inl e) (fun b o v e=>by
   by_cases hb:b=w.heap.size∧o=0
   ·simp only[if_pos hb]at e
    obtain⟨rfl,rfl⟩:=hb
    cases e
    exact⟨ms,_,vE w ms _,rfl⟩
   ·simp only[if_neg hb]at e
    have hlt:=lK h.cm e
    refine(h.cm b o v e).same ?_
    show(w.heap.push _)[b]? =_
    rw[Array.getElem?_push,if_neg (by omega)]) ((Below.refl _ _).alloc (Nat.le_refl _) _)
 have hm:∀X:Env,X.M w.heap.size 0=some (.tuple (LS ms))→(IS [(.int k n1,.agg #[.func (.func f1) #[] #[]]),(.int k n2,.agg #[.func (.func f2) #[] #[]]),(.int k n3,.agg #[.func (.func f3) #[] #[]]),(.int k n4,.agg #[.func (.func f4) #[] #[]])]).h X.M (.map (some w.heap.size)):=fun X hX=>by
  refine⟨_,rfl,?_⟩
  rw[hX,←hms];rfl
 have g7:=g6.put (d:=6) (x:=.sv (.v (.map (some w.heap.size)))) (v:=.map (some w.heap.size)) rfl (by rw[hS,hS,hS,hS,hS];omega) dY
 rw[show b5.put none undef=b5 from rfl,wpOpsIn_cons]
 refine bD (C:=C) rfl rfl (bB (C:=C) (by intro c h;cases h) (r:=.ok (.value (.map (some w.heap.size))) _) (by show Result.ok (Next.value (b5.eval (.tmp 1))) _=_;rw[e1]) ?_)
 show wpOpsIn _ _ _ _ _ _ (b5.put (some 6) (.map (some w.heap.size))) _
 generalize b5.put (some 6) (.map (some w.heap.size))=b6 at g7⊢
 have e6:b6.eval (.tmp 6)=.map (some w.heap.size):=g7.ev (.tmp 6)
 have g8:=g7.put (d:=0) (x:=.sv (IS [(.int k n1,.agg #[.func (.func f1) #[] #[]]),(.int k n2,.agg #[.func (.func f2) #[] #[]]),(.int k n3,.agg #[.func (.func f3) #[] #[]]),(.int k n4,.agg #[.func (.func f4) #[] #[]])])) (v:=.map (some w.heap.size)) (hm _ (by simp)) (by rw[hS,hS,hS,hS,hS,hS];omega) dY
 rw[wpOpsIn_cons]
 refine bD (C:=C) rfl rfl (bB (C:=C) (by intro c h;cases h) (r:=.ok (.value (.map (some w.heap.size))) _) (by show Result.ok (Next.value (b6.eval (.tmp 6))) _=_;rw[e6]) ?_)
 show wpOpsIn _ _ _ _ _ _ (b6.put (some 0) (.map (some w.heap.size))) _
 rw[wpOpsIn]
 exact⟨_,hQ _ rfl,_,g8⟩
end steps
def SY(Q:Exit→AS→Prop):Exit→AS→Prop
 |.goto _,_=>False
 |e,S=>Q e S
section scope
variable {P:Program}{C:Ctx}{S:AS}{Q:Exit→AS→Prop}
theorem SY.n(h:Q .normal S):SY Q .normal S:=h
theorem SY.r(h:Q .ret S):SY Q .ret S:=h
theorem SY.x{id:Nat}(h:Q (.exit id) S):SY Q (.exit id) S:=h
end scope
end Go.Fw
namespace Go.Fw
open Go.RowKit
class NQ (P:Program) (T:TypeId) (n:outParam Nat) (E:outParam TypeId) (sz:outParam Nat) (z:outParam (List Value)):Prop where
 u:P.underlying T=some (.array n E)
 s:(P.info? E).map (·.size)=some sz
 hz:(P.info? T).bind (·.zero)=some (.agg ⟨z⟩)
 o:z.all (fun v=>v.oneCell')=true
theorem NQ.size{P:Program}{T E:TypeId}{n sz:Nat}{z:List Value}[t:NQ P T n E sz z](w:World):(sizeOf E).run P w=.ok sz w:=by
 have h:=t.s
 unfold Go.sizeOf typeInfo
 cases hi:P.info? E with
 |none=>rw[hi]at h;simp at h
 |some i=>rw[hi]at h;simp at h;simp[hi,h]
section
variable {P:Program}{C:Ctx}{ops:Array Oper}{S:AS}{nd:Bool}{K:List Ac→AS→Prop}{rest:List Oper}{acc:List Ac}
variable {gd:Option (Nat×Bool)}{rg:List Nat}{d:Nat}{ty:TypeId}{pos:String}{aft:Array Edge}{x y z:Operand}{T U E0:TypeId}
end
end Go.Fw
namespace Go.Proofs.Ytningmnklfpfjaa
open Go.Fw
open Go.Proofs
instance:cU Try.prog 1:=⟨by kernel_rfl,by kernel_rfl⟩
instance:az Try.prog 1 (.nilFunc):=⟨by kernel_rfl⟩
instance:aN Try.prog 1 1 8 (.nilFunc):=⟨by kernel_rfl,by rfl,by decide,by decide⟩
instance:gw Try.prog 2 .i64:=⟨by kernel_rfl⟩
instance:cU Try.prog 2:=⟨by kernel_rfl,by kernel_rfl⟩
instance:az Try.prog 2 (.int .i64 0):=⟨by kernel_rfl⟩
instance:aN Try.prog 2 1 8 (.int .i64 0):=⟨by kernel_rfl,by rfl,by decide,by decide⟩
instance:gw Try.prog 3 .i64:=⟨by kernel_rfl⟩
instance:cU Try.prog 3:=⟨by kernel_rfl,by kernel_rfl⟩
instance:az Try.prog 3 (.int .i64 0):=⟨by kernel_rfl⟩
instance:aN Try.prog 3 1 8 (.int .i64 0):=⟨by kernel_rfl,by rfl,by decide,by decide⟩
instance:xZ Try.prog 4:=⟨by kernel_rfl⟩
instance:cU Try.prog 4:=⟨by kernel_rfl,by kernel_rfl⟩
instance:az Try.prog 4 (.bool false):=⟨by kernel_rfl⟩
instance:aN Try.prog 4 1 1 (.bool false):=⟨by kernel_rfl,by rfl,by decide,by decide⟩
instance:gw Try.prog 5 .u8:=⟨by kernel_rfl⟩
instance:cU Try.prog 5:=⟨by kernel_rfl,by kernel_rfl⟩
instance:az Try.prog 5 (.int .u8 0):=⟨by kernel_rfl⟩
instance:aN Try.prog 5 1 1 (.int .u8 0):=⟨by kernel_rfl,by rfl,by decide,by decide⟩
instance:gw Try.prog 6 .u8:=⟨by kernel_rfl⟩
instance:cU Try.prog 6:=⟨by kernel_rfl,by kernel_rfl⟩
instance:az Try.prog 6 (.int .u8 0):=⟨by kernel_rfl⟩
instance:aN Try.prog 6 1 1 (.int .u8 0):=⟨by kernel_rfl,by rfl,by decide,by decide⟩
instance:iZ Try.prog 7 4:=⟨by kernel_rfl,by kernel_rfl⟩
instance:fy Try.prog 7:=⟨fun w=>⟨3,iZ.size (T:=7) (n:=4) w⟩⟩
instance:az Try.prog 7 (.agg #[.int .i64 0,.int .i64 0,.bool false,.int .u8 0]):=⟨by kernel_rfl⟩
instance:aN Try.prog 7 4 24 (.agg #[.int .i64 0,.int .i64 0,.bool false,.int .u8 0]):=⟨by kernel_rfl,by rfl,by decide,by decide⟩
instance:bF Try.prog 7 [(0,1),(1,1),(2,1),(3,1)] [.int .i64 0,.int .i64 0,.bool false,.int .u8 0]:=⟨by kernel_rfl,by kernel_rfl,by rfl⟩
instance:fm Try.prog 7 0 0 2:=⟨by kernel_rfl⟩
instance:fm Try.prog 7 1 1 3:=⟨by kernel_rfl⟩
instance:fm Try.prog 7 2 2 4:=⟨by kernel_rfl⟩
instance:fm Try.prog 7 3 3 6:=⟨by kernel_rfl⟩
instance:iZ Try.prog 8 4:=⟨by kernel_rfl,by kernel_rfl⟩
instance:fy Try.prog 8:=⟨fun w=>⟨3,iZ.size (T:=8) (n:=4) w⟩⟩
instance:az Try.prog 8 (.agg #[.int .i64 0,.int .i64 0,.bool false,.int .u8 0]):=⟨by kernel_rfl⟩
instance:aN Try.prog 8 4 24 (.agg #[.int .i64 0,.int .i64 0,.bool false,.int .u8 0]):=⟨by kernel_rfl,by rfl,by decide,by decide⟩
instance:bF Try.prog 8 [(0,1),(1,1),(2,1),(3,1)] [.int .i64 0,.int .i64 0,.bool false,.int .u8 0]:=⟨by kernel_rfl,by kernel_rfl,by rfl⟩
instance:fm Try.prog 8 0 0 2:=⟨by kernel_rfl⟩
instance:fm Try.prog 8 1 1 3:=⟨by kernel_rfl⟩
instance:fm Try.prog 8 2 2 4:=⟨by kernel_rfl⟩
instance:fm Try.prog 8 3 3 6:=⟨by kernel_rfl⟩
instance:CV Try.prog 9:=⟨by kernel_rfl⟩
instance:cU Try.prog 9:=⟨by kernel_rfl,by kernel_rfl⟩
instance:az Try.prog 9 (.string (ByteArray.mk #[])):=⟨by kernel_rfl⟩
instance:aN Try.prog 9 1 16 (.string (ByteArray.mk #[])):=⟨by kernel_rfl,by rfl,by decide,by decide⟩
instance:CV Try.prog 10:=⟨by kernel_rfl⟩
instance:cU Try.prog 10:=⟨by kernel_rfl,by kernel_rfl⟩
instance:az Try.prog 10 (.string (ByteArray.mk #[])):=⟨by kernel_rfl⟩
instance:aN Try.prog 10 1 16 (.string (ByteArray.mk #[])):=⟨by kernel_rfl,by rfl,by decide,by decide⟩
instance:CV Try.prog 11:=⟨by kernel_rfl⟩
instance:cU Try.prog 11:=⟨by kernel_rfl,by kernel_rfl⟩
instance:az Try.prog 11 (.string (ByteArray.mk #[])):=⟨by kernel_rfl⟩
instance:aN Try.prog 11 1 16 (.string (ByteArray.mk #[])):=⟨by kernel_rfl,by rfl,by decide,by decide⟩
instance:gw Try.prog 12 .u64:=⟨by kernel_rfl⟩
instance:cU Try.prog 12:=⟨by kernel_rfl,by kernel_rfl⟩
instance:az Try.prog 12 (.int .u64 0):=⟨by kernel_rfl⟩
instance:aN Try.prog 12 1 8 (.int .u64 0):=⟨by kernel_rfl,by rfl,by decide,by decide⟩
instance:iZ Try.prog 13 2:=⟨by kernel_rfl,by kernel_rfl⟩
instance:fy Try.prog 13:=⟨fun w=>⟨1,iZ.size (T:=13) (n:=2) w⟩⟩
instance:az Try.prog 13 (.agg #[.string (ByteArray.mk #[]),.int .u64 0]):=⟨by kernel_rfl⟩
instance:aN Try.prog 13 2 24 (.agg #[.string (ByteArray.mk #[]),.int .u64 0]):=⟨by kernel_rfl,by rfl,by decide,by decide⟩
instance:bF Try.prog 13 [(0,1),(1,1)] [.string (ByteArray.mk #[]),.int .u64 0]:=⟨by kernel_rfl,by kernel_rfl,by rfl⟩
instance:fm Try.prog 13 0 0 9:=⟨by kernel_rfl⟩
instance:fm Try.prog 13 1 1 12:=⟨by kernel_rfl⟩
instance:iZ Try.prog 14 2:=⟨by kernel_rfl,by kernel_rfl⟩
instance:fy Try.prog 14:=⟨fun w=>⟨1,iZ.size (T:=14) (n:=2) w⟩⟩
instance:az Try.prog 14 (.agg #[.string (ByteArray.mk #[]),.int .u64 0]):=⟨by kernel_rfl⟩
instance:aN Try.prog 14 2 24 (.agg #[.string (ByteArray.mk #[]),.int .u64 0]):=⟨by kernel_rfl,by rfl,by decide,by decide⟩
instance:bF Try.prog 14 [(0,1),(1,1)] [.string (ByteArray.mk #[]),.int .u64 0]:=⟨by kernel_rfl,by kernel_rfl,by rfl⟩
instance:fm Try.prog 14 0 0 9:=⟨by kernel_rfl⟩
instance:fm Try.prog 14 1 1 12:=⟨by kernel_rfl⟩
instance:cU Try.prog 15:=⟨by kernel_rfl,by kernel_rfl⟩
instance:az Try.prog 15 (.pointer none):=⟨by kernel_rfl⟩
instance:aN Try.prog 15 1 8 (.pointer none):=⟨by kernel_rfl,by rfl,by decide,by decide⟩
instance:cU Try.prog 16:=⟨by kernel_rfl,by kernel_rfl⟩
instance:az Try.prog 16 (.pointer none):=⟨by kernel_rfl⟩
instance:aN Try.prog 16 1 8 (.pointer none):=⟨by kernel_rfl,by rfl,by decide,by decide⟩
instance:cU Try.prog 17:=⟨by kernel_rfl,by kernel_rfl⟩
instance:az Try.prog 17 (.pointer none):=⟨by kernel_rfl⟩
instance:aN Try.prog 17 1 8 (.pointer none):=⟨by kernel_rfl,by rfl,by decide,by decide⟩
instance:iZ Try.prog 18 1:=⟨by kernel_rfl,by kernel_rfl⟩
instance:fy Try.prog 18:=⟨fun w=>⟨0,iZ.size (T:=18) (n:=1) w⟩⟩
instance:az Try.prog 18 (.agg #[.pointer none]):=⟨by kernel_rfl⟩
instance:aN Try.prog 18 1 8 (.agg #[.pointer none]):=⟨by kernel_rfl,by rfl,by decide,by decide⟩
instance:bF Try.prog 18 [(0,1)] [.pointer none]:=⟨by kernel_rfl,by kernel_rfl,by rfl⟩
instance:fm Try.prog 18 0 0 17:=⟨by kernel_rfl⟩
instance:iZ Try.prog 19 1:=⟨by kernel_rfl,by kernel_rfl⟩
instance:fy Try.prog 19:=⟨fun w=>⟨0,iZ.size (T:=19) (n:=1) w⟩⟩
instance:az Try.prog 19 (.agg #[.pointer none]):=⟨by kernel_rfl⟩
instance:aN Try.prog 19 1 8 (.agg #[.pointer none]):=⟨by kernel_rfl,by rfl,by decide,by decide⟩
instance:bF Try.prog 19 [(0,1)] [.pointer none]:=⟨by kernel_rfl,by kernel_rfl,by rfl⟩
instance:fm Try.prog 19 0 0 17:=⟨by kernel_rfl⟩
instance:cU Try.prog 20:=⟨by kernel_rfl,by kernel_rfl⟩
instance:az Try.prog 20 (.nilIface):=⟨by kernel_rfl⟩
instance:aN Try.prog 20 1 16 (.nilIface):=⟨by kernel_rfl,by rfl,by decide,by decide⟩
instance:gw Try.prog 21 .i32:=⟨by kernel_rfl⟩
instance:cU Try.prog 21:=⟨by kernel_rfl,by kernel_rfl⟩
instance:az Try.prog 21 (.int .i32 0):=⟨by kernel_rfl⟩
instance:aN Try.prog 21 1 4 (.int .i32 0):=⟨by kernel_rfl,by rfl,by decide,by decide⟩
instance:cU Try.prog 22:=⟨by kernel_rfl,by kernel_rfl⟩
instance:az Try.prog 22 (.nilFunc):=⟨by kernel_rfl⟩
instance:aN Try.prog 22 1 8 (.nilFunc):=⟨by kernel_rfl,by rfl,by decide,by decide⟩
instance:cU Try.prog 23:=⟨by kernel_rfl,by kernel_rfl⟩
instance:az Try.prog 23 (.pointer none):=⟨by kernel_rfl⟩
instance:aN Try.prog 23 1 8 (.pointer none):=⟨by kernel_rfl,by rfl,by decide,by decide⟩
instance:gw Try.prog 24 .i64:=⟨by kernel_rfl⟩
instance:cU Try.prog 24:=⟨by kernel_rfl,by kernel_rfl⟩
instance:az Try.prog 24 (.int .i64 0):=⟨by kernel_rfl⟩
instance:aN Try.prog 24 1 8 (.int .i64 0):=⟨by kernel_rfl,by rfl,by decide,by decide⟩
instance:cU Try.prog 26:=⟨by kernel_rfl,by kernel_rfl⟩
instance:az Try.prog 26 (.nilFunc):=⟨by kernel_rfl⟩
instance:aN Try.prog 26 1 8 (.nilFunc):=⟨by kernel_rfl,by rfl,by decide,by decide⟩
instance:cU Try.prog 27:=⟨by kernel_rfl,by kernel_rfl⟩
instance:az Try.prog 27 (.slice none 0 0):=⟨by kernel_rfl⟩
instance:aN Try.prog 27 1 24 (.slice none 0 0):=⟨by kernel_rfl,by rfl,by decide,by decide⟩
instance:dX Try.prog 27 28 1:=⟨by kernel_rfl,by kernel_rfl⟩
instance:cU Try.prog 28:=⟨by kernel_rfl,by kernel_rfl⟩
instance:az Try.prog 28 (.slice none 0 0):=⟨by kernel_rfl⟩
instance:aN Try.prog 28 1 24 (.slice none 0 0):=⟨by kernel_rfl,by rfl,by decide,by decide⟩
instance:dX Try.prog 28 52 4:=⟨by kernel_rfl,by kernel_rfl⟩
instance:iZ Try.prog 29 4:=⟨by kernel_rfl,by kernel_rfl⟩
instance:fy Try.prog 29:=⟨fun w=>⟨3,iZ.size (T:=29) (n:=4) w⟩⟩
instance:az Try.prog 29 (.agg #[.int .i64 0,.slice none 0 0,.slice none 0 0,.slice none 0 0]):=⟨by kernel_rfl⟩
instance:aN Try.prog 29 4 80 (.agg #[.int .i64 0,.slice none 0 0,.slice none 0 0,.slice none 0 0]):=⟨by kernel_rfl,by rfl,by decide,by decide⟩
instance:bF Try.prog 29 [(0,1),(1,1),(2,1),(3,1)] [.int .i64 0,.slice none 0 0,.slice none 0 0,.slice none 0 0]:=⟨by kernel_rfl,by kernel_rfl,by rfl⟩
instance:fm Try.prog 29 0 0 3:=⟨by kernel_rfl⟩
instance:fm Try.prog 29 1 1 27:=⟨by kernel_rfl⟩
instance:fm Try.prog 29 2 2 27:=⟨by kernel_rfl⟩
instance:fm Try.prog 29 3 3 28:=⟨by kernel_rfl⟩
instance:iZ Try.prog 30 4:=⟨by kernel_rfl,by kernel_rfl⟩
instance:fy Try.prog 30:=⟨fun w=>⟨3,iZ.size (T:=30) (n:=4) w⟩⟩
instance:az Try.prog 30 (.agg #[.int .i64 0,.slice none 0 0,.slice none 0 0,.slice none 0 0]):=⟨by kernel_rfl⟩
instance:aN Try.prog 30 4 80 (.agg #[.int .i64 0,.slice none 0 0,.slice none 0 0,.slice none 0 0]):=⟨by kernel_rfl,by rfl,by decide,by decide⟩
instance:bF Try.prog 30 [(0,1),(1,1),(2,1),(3,1)] [.int .i64 0,.slice none 0 0,.slice none 0 0,.slice none 0 0]:=⟨by kernel_rfl,by kernel_rfl,by rfl⟩
instance:fm Try.prog 30 0 0 3:=⟨by kernel_rfl⟩
instance:fm Try.prog 30 1 1 27:=⟨by kernel_rfl⟩
instance:fm Try.prog 30 2 2 27:=⟨by kernel_rfl⟩
instance:fm Try.prog 30 3 3 28:=⟨by kernel_rfl⟩
instance:cU Try.prog 31:=⟨by kernel_rfl,by kernel_rfl⟩
instance:az Try.prog 31 (.nilFunc):=⟨by kernel_rfl⟩
instance:aN Try.prog 31 1 8 (.nilFunc):=⟨by kernel_rfl,by rfl,by decide,by decide⟩
instance:cU Try.prog 32:=⟨by kernel_rfl,by kernel_rfl⟩
instance:az Try.prog 32 (.nilFunc):=⟨by kernel_rfl⟩
instance:aN Try.prog 32 1 8 (.nilFunc):=⟨by kernel_rfl,by rfl,by decide,by decide⟩
instance:cU Try.prog 33:=⟨by kernel_rfl,by kernel_rfl⟩
instance:az Try.prog 33 (.slice none 0 0):=⟨by kernel_rfl⟩
instance:aN Try.prog 33 1 24 (.slice none 0 0):=⟨by kernel_rfl,by rfl,by decide,by decide⟩
instance:dX Try.prog 33 3 1:=⟨by kernel_rfl,by kernel_rfl⟩
instance:cU Try.prog 34:=⟨by kernel_rfl,by kernel_rfl⟩
instance:az Try.prog 34 (.nilFunc):=⟨by kernel_rfl⟩
instance:aN Try.prog 34 1 8 (.nilFunc):=⟨by kernel_rfl,by rfl,by decide,by decide⟩
instance:cU Try.prog 35:=⟨by kernel_rfl,by kernel_rfl⟩
instance:az Try.prog 35 (.nilFunc):=⟨by kernel_rfl⟩
instance:aN Try.prog 35 1 8 (.nilFunc):=⟨by kernel_rfl,by rfl,by decide,by decide⟩
instance:cU Try.prog 36:=⟨by kernel_rfl,by kernel_rfl⟩
instance:az Try.prog 36 (.nilFunc):=⟨by kernel_rfl⟩
instance:aN Try.prog 36 1 8 (.nilFunc):=⟨by kernel_rfl,by rfl,by decide,by decide⟩
instance:cU Try.prog 37:=⟨by kernel_rfl,by kernel_rfl⟩
instance:az Try.prog 37 (.nilFunc):=⟨by kernel_rfl⟩
instance:aN Try.prog 37 1 8 (.nilFunc):=⟨by kernel_rfl,by rfl,by decide,by decide⟩
instance:cU Try.prog 38:=⟨by kernel_rfl,by kernel_rfl⟩
instance:az Try.prog 38 (.nilFunc):=⟨by kernel_rfl⟩
instance:aN Try.prog 38 1 8 (.nilFunc):=⟨by kernel_rfl,by rfl,by decide,by decide⟩
instance:cU Try.prog 39:=⟨by kernel_rfl,by kernel_rfl⟩
instance:az Try.prog 39 (.nilFunc):=⟨by kernel_rfl⟩
instance:aN Try.prog 39 1 8 (.nilFunc):=⟨by kernel_rfl,by rfl,by decide,by decide⟩
instance:cU Try.prog 40:=⟨by kernel_rfl,by kernel_rfl⟩
instance:az Try.prog 40 (.nilFunc):=⟨by kernel_rfl⟩
instance:aN Try.prog 40 1 8 (.nilFunc):=⟨by kernel_rfl,by rfl,by decide,by decide⟩
instance:cU Try.prog 41:=⟨by kernel_rfl,by kernel_rfl⟩
instance:az Try.prog 41 (.nilFunc):=⟨by kernel_rfl⟩
instance:aN Try.prog 41 1 8 (.nilFunc):=⟨by kernel_rfl,by rfl,by decide,by decide⟩
instance:cU Try.prog 42:=⟨by kernel_rfl,by kernel_rfl⟩
instance:az Try.prog 42 (.nilFunc):=⟨by kernel_rfl⟩
instance:aN Try.prog 42 1 8 (.nilFunc):=⟨by kernel_rfl,by rfl,by decide,by decide⟩
instance:cU Try.prog 43:=⟨by kernel_rfl,by kernel_rfl⟩
instance:az Try.prog 43 (.slice none 0 0):=⟨by kernel_rfl⟩
instance:aN Try.prog 43 1 24 (.slice none 0 0):=⟨by kernel_rfl,by rfl,by decide,by decide⟩
instance:dX Try.prog 43 2 1:=⟨by kernel_rfl,by kernel_rfl⟩
instance:iZ Try.prog 44 5:=⟨by kernel_rfl,by kernel_rfl⟩
instance:fy Try.prog 44:=⟨fun w=>⟨4,iZ.size (T:=44) (n:=5) w⟩⟩
instance:az Try.prog 44 (.agg #[.bool false,.int .i64 0,.slice none 0 0,.slice none 0 0,.slice none 0 0]):=⟨by kernel_rfl⟩
instance:aN Try.prog 44 5 88 (.agg #[.bool false,.int .i64 0,.slice none 0 0,.slice none 0 0,.slice none 0 0]):=⟨by kernel_rfl,by rfl,by decide,by decide⟩
instance:bF Try.prog 44 [(0,1),(1,1),(2,1),(3,1),(4,1)] [.bool false,.int .i64 0,.slice none 0 0,.slice none 0 0,.slice none 0 0]:=⟨by kernel_rfl,by kernel_rfl,by rfl⟩
instance:fm Try.prog 44 0 0 4:=⟨by kernel_rfl⟩
instance:fm Try.prog 44 1 1 3:=⟨by kernel_rfl⟩
instance:fm Try.prog 44 2 2 27:=⟨by kernel_rfl⟩
instance:fm Try.prog 44 3 3 33:=⟨by kernel_rfl⟩
instance:fm Try.prog 44 4 4 27:=⟨by kernel_rfl⟩
instance:iZ Try.prog 45 5:=⟨by kernel_rfl,by kernel_rfl⟩
instance:fy Try.prog 45:=⟨fun w=>⟨4,iZ.size (T:=45) (n:=5) w⟩⟩
instance:az Try.prog 45 (.agg #[.bool false,.int .i64 0,.slice none 0 0,.slice none 0 0,.slice none 0 0]):=⟨by kernel_rfl⟩
instance:aN Try.prog 45 5 88 (.agg #[.bool false,.int .i64 0,.slice none 0 0,.slice none 0 0,.slice none 0 0]):=⟨by kernel_rfl,by rfl,by decide,by decide⟩
instance:bF Try.prog 45 [(0,1),(1,1),(2,1),(3,1),(4,1)] [.bool false,.int .i64 0,.slice none 0 0,.slice none 0 0,.slice none 0 0]:=⟨by kernel_rfl,by kernel_rfl,by rfl⟩
instance:fm Try.prog 45 0 0 4:=⟨by kernel_rfl⟩
instance:fm Try.prog 45 1 1 3:=⟨by kernel_rfl⟩
instance:fm Try.prog 45 2 2 27:=⟨by kernel_rfl⟩
instance:fm Try.prog 45 3 3 33:=⟨by kernel_rfl⟩
instance:fm Try.prog 45 4 4 27:=⟨by kernel_rfl⟩
instance:cU Try.prog 46:=⟨by kernel_rfl,by kernel_rfl⟩
instance:az Try.prog 46 (.nilFunc):=⟨by kernel_rfl⟩
instance:aN Try.prog 46 1 8 (.nilFunc):=⟨by kernel_rfl,by rfl,by decide,by decide⟩
instance:cU Try.prog 47:=⟨by kernel_rfl,by kernel_rfl⟩
instance:az Try.prog 47 (.nilFunc):=⟨by kernel_rfl⟩
instance:aN Try.prog 47 1 8 (.nilFunc):=⟨by kernel_rfl,by rfl,by decide,by decide⟩
instance:cU Try.prog 48:=⟨by kernel_rfl,by kernel_rfl⟩
instance:az Try.prog 48 (.slice none 0 0):=⟨by kernel_rfl⟩
instance:aN Try.prog 48 1 24 (.slice none 0 0):=⟨by kernel_rfl,by rfl,by decide,by decide⟩
instance:dX Try.prog 48 110 1:=⟨by kernel_rfl,by kernel_rfl⟩
instance:iZ Try.prog 49 2:=⟨by kernel_rfl,by kernel_rfl⟩
instance:fy Try.prog 49:=⟨fun w=>⟨1,iZ.size (T:=49) (n:=2) w⟩⟩
instance:az Try.prog 49 (.agg #[.bool false,.slice none 0 0]):=⟨by kernel_rfl⟩
instance:aN Try.prog 49 2 32 (.agg #[.bool false,.slice none 0 0]):=⟨by kernel_rfl,by rfl,by decide,by decide⟩
instance:bF Try.prog 49 [(0,1),(1,1)] [.bool false,.slice none 0 0]:=⟨by kernel_rfl,by kernel_rfl,by rfl⟩
instance:fm Try.prog 49 0 0 4:=⟨by kernel_rfl⟩
instance:fm Try.prog 49 1 1 48:=⟨by kernel_rfl⟩
instance:iZ Try.prog 50 2:=⟨by kernel_rfl,by kernel_rfl⟩
instance:fy Try.prog 50:=⟨fun w=>⟨1,iZ.size (T:=50) (n:=2) w⟩⟩
instance:az Try.prog 50 (.agg #[.bool false,.slice none 0 0]):=⟨by kernel_rfl⟩
instance:aN Try.prog 50 2 32 (.agg #[.bool false,.slice none 0 0]):=⟨by kernel_rfl,by rfl,by decide,by decide⟩
instance:bF Try.prog 50 [(0,1),(1,1)] [.bool false,.slice none 0 0]:=⟨by kernel_rfl,by kernel_rfl,by rfl⟩
instance:fm Try.prog 50 0 0 4:=⟨by kernel_rfl⟩
instance:fm Try.prog 50 1 1 48:=⟨by kernel_rfl⟩
instance:iZ Try.prog 51 4:=⟨by kernel_rfl,by kernel_rfl⟩
instance:fy Try.prog 51:=⟨fun w=>⟨3,iZ.size (T:=51) (n:=4) w⟩⟩
instance:az Try.prog 51 (.agg #[.bool false,.slice none 0 0,.bool false,.slice none 0 0]):=⟨by kernel_rfl⟩
instance:aN Try.prog 51 4 64 (.agg #[.bool false,.slice none 0 0,.bool false,.slice none 0 0]):=⟨by kernel_rfl,by rfl,by decide,by decide⟩
instance:bF Try.prog 51 [(0,2),(2,2)] [.bool false,.slice none 0 0,.bool false,.slice none 0 0]:=⟨by kernel_rfl,by kernel_rfl,by rfl⟩
instance:fm Try.prog 51 0 0 50:=⟨by kernel_rfl⟩
instance:fm Try.prog 51 1 2 50:=⟨by kernel_rfl⟩
instance:iZ Try.prog 52 4:=⟨by kernel_rfl,by kernel_rfl⟩
instance:fy Try.prog 52:=⟨fun w=>⟨3,iZ.size (T:=52) (n:=4) w⟩⟩
instance:az Try.prog 52 (.agg #[.bool false,.slice none 0 0,.bool false,.slice none 0 0]):=⟨by kernel_rfl⟩
instance:aN Try.prog 52 4 64 (.agg #[.bool false,.slice none 0 0,.bool false,.slice none 0 0]):=⟨by kernel_rfl,by rfl,by decide,by decide⟩
instance:bF Try.prog 52 [(0,2),(2,2)] [.bool false,.slice none 0 0,.bool false,.slice none 0 0]:=⟨by kernel_rfl,by kernel_rfl,by rfl⟩
instance:fm Try.prog 52 0 0 50:=⟨by kernel_rfl⟩
instance:fm Try.prog 52 1 2 50:=⟨by kernel_rfl⟩
instance:cU Try.prog 53:=⟨by kernel_rfl,by kernel_rfl⟩
instance:az Try.prog 53 (.nilFunc):=⟨by kernel_rfl⟩
instance:aN Try.prog 53 1 8 (.nilFunc):=⟨by kernel_rfl,by rfl,by decide,by decide⟩
instance:cU Try.prog 54:=⟨by kernel_rfl,by kernel_rfl⟩
instance:az Try.prog 54 (.nilFunc):=⟨by kernel_rfl⟩
instance:aN Try.prog 54 1 8 (.nilFunc):=⟨by kernel_rfl,by rfl,by decide,by decide⟩
instance:cU Try.prog 55:=⟨by kernel_rfl,by kernel_rfl⟩
instance:az Try.prog 55 (.nilFunc):=⟨by kernel_rfl⟩
instance:aN Try.prog 55 1 8 (.nilFunc):=⟨by kernel_rfl,by rfl,by decide,by decide⟩
instance:cU Try.prog 56:=⟨by kernel_rfl,by kernel_rfl⟩
instance:az Try.prog 56 (.nilFunc):=⟨by kernel_rfl⟩
instance:aN Try.prog 56 1 8 (.nilFunc):=⟨by kernel_rfl,by rfl,by decide,by decide⟩
instance:cU Try.prog 57:=⟨by kernel_rfl,by kernel_rfl⟩
instance:az Try.prog 57 (.nilFunc):=⟨by kernel_rfl⟩
instance:aN Try.prog 57 1 8 (.nilFunc):=⟨by kernel_rfl,by rfl,by decide,by decide⟩
instance:cU Try.prog 58:=⟨by kernel_rfl,by kernel_rfl⟩
instance:az Try.prog 58 (.nilFunc):=⟨by kernel_rfl⟩
instance:aN Try.prog 58 1 8 (.nilFunc):=⟨by kernel_rfl,by rfl,by decide,by decide⟩
instance:cU Try.prog 59:=⟨by kernel_rfl,by kernel_rfl⟩
instance:az Try.prog 59 (.nilFunc):=⟨by kernel_rfl⟩
instance:aN Try.prog 59 1 8 (.nilFunc):=⟨by kernel_rfl,by rfl,by decide,by decide⟩
instance:cU Try.prog 60:=⟨by kernel_rfl,by kernel_rfl⟩
instance:az Try.prog 60 (.nilFunc):=⟨by kernel_rfl⟩
instance:aN Try.prog 60 1 8 (.nilFunc):=⟨by kernel_rfl,by rfl,by decide,by decide⟩
instance:cU Try.prog 61:=⟨by kernel_rfl,by kernel_rfl⟩
instance:az Try.prog 61 (.nilFunc):=⟨by kernel_rfl⟩
instance:aN Try.prog 61 1 8 (.nilFunc):=⟨by kernel_rfl,by rfl,by decide,by decide⟩
instance:iZ Try.prog 62 4:=⟨by kernel_rfl,by kernel_rfl⟩
instance:fy Try.prog 62:=⟨fun w=>⟨3,iZ.size (T:=62) (n:=4) w⟩⟩
instance:az Try.prog 62 (.agg #[.int .i64 0,.int .i64 0,.int .i64 0,.int .i64 0]):=⟨by kernel_rfl⟩
instance:aN Try.prog 62 4 32 (.agg #[.int .i64 0,.int .i64 0,.int .i64 0,.int .i64 0]):=⟨by kernel_rfl,by rfl,by decide,by decide⟩
instance:bF Try.prog 62 [(0,1),(1,1),(2,1),(3,1)] [.int .i64 0,.int .i64 0,.int .i64 0,.int .i64 0]:=⟨by kernel_rfl,by kernel_rfl,by rfl⟩
instance:fm Try.prog 62 0 0 3:=⟨by kernel_rfl⟩
instance:fm Try.prog 62 1 1 3:=⟨by kernel_rfl⟩
instance:fm Try.prog 62 2 2 3:=⟨by kernel_rfl⟩
instance:fm Try.prog 62 3 3 3:=⟨by kernel_rfl⟩
instance:iZ Try.prog 63 4:=⟨by kernel_rfl,by kernel_rfl⟩
instance:fy Try.prog 63:=⟨fun w=>⟨3,iZ.size (T:=63) (n:=4) w⟩⟩
instance:az Try.prog 63 (.agg #[.int .i64 0,.int .i64 0,.int .i64 0,.int .i64 0]):=⟨by kernel_rfl⟩
instance:aN Try.prog 63 4 32 (.agg #[.int .i64 0,.int .i64 0,.int .i64 0,.int .i64 0]):=⟨by kernel_rfl,by rfl,by decide,by decide⟩
instance:bF Try.prog 63 [(0,1),(1,1),(2,1),(3,1)] [.int .i64 0,.int .i64 0,.int .i64 0,.int .i64 0]:=⟨by kernel_rfl,by kernel_rfl,by rfl⟩
instance:fm Try.prog 63 0 0 3:=⟨by kernel_rfl⟩
instance:fm Try.prog 63 1 1 3:=⟨by kernel_rfl⟩
instance:fm Try.prog 63 2 2 3:=⟨by kernel_rfl⟩
instance:fm Try.prog 63 3 3 3:=⟨by kernel_rfl⟩
instance:cU Try.prog 64:=⟨by kernel_rfl,by kernel_rfl⟩
instance:az Try.prog 64 (.nilFunc):=⟨by kernel_rfl⟩
instance:aN Try.prog 64 1 8 (.nilFunc):=⟨by kernel_rfl,by rfl,by decide,by decide⟩
instance:cU Try.prog 65:=⟨by kernel_rfl,by kernel_rfl⟩
instance:az Try.prog 65 (.nilFunc):=⟨by kernel_rfl⟩
instance:aN Try.prog 65 1 8 (.nilFunc):=⟨by kernel_rfl,by rfl,by decide,by decide⟩
instance:cU Try.prog 66:=⟨by kernel_rfl,by kernel_rfl⟩
instance:az Try.prog 66 (.nilFunc):=⟨by kernel_rfl⟩
instance:aN Try.prog 66 1 8 (.nilFunc):=⟨by kernel_rfl,by rfl,by decide,by decide⟩
instance:cU Try.prog 67:=⟨by kernel_rfl,by kernel_rfl⟩
instance:az Try.prog 67 (.nilFunc):=⟨by kernel_rfl⟩
instance:aN Try.prog 67 1 8 (.nilFunc):=⟨by kernel_rfl,by rfl,by decide,by decide⟩
instance:cU Try.prog 68:=⟨by kernel_rfl,by kernel_rfl⟩
instance:az Try.prog 68 (.nilFunc):=⟨by kernel_rfl⟩
instance:aN Try.prog 68 1 8 (.nilFunc):=⟨by kernel_rfl,by rfl,by decide,by decide⟩
instance:cU Try.prog 69:=⟨by kernel_rfl,by kernel_rfl⟩
instance:az Try.prog 69 (.slice none 0 0):=⟨by kernel_rfl⟩
instance:aN Try.prog 69 1 24 (.slice none 0 0):=⟨by kernel_rfl,by rfl,by decide,by decide⟩
instance:dX Try.prog 69 43 1:=⟨by kernel_rfl,by kernel_rfl⟩
instance:cU Try.prog 70:=⟨by kernel_rfl,by kernel_rfl⟩
instance:az Try.prog 70 (.nilFunc):=⟨by kernel_rfl⟩
instance:aN Try.prog 70 1 8 (.nilFunc):=⟨by kernel_rfl,by rfl,by decide,by decide⟩
instance:cU Try.prog 71:=⟨by kernel_rfl,by kernel_rfl⟩
instance:az Try.prog 71 (.nilFunc):=⟨by kernel_rfl⟩
instance:aN Try.prog 71 1 8 (.nilFunc):=⟨by kernel_rfl,by rfl,by decide,by decide⟩
instance:cU Try.prog 72:=⟨by kernel_rfl,by kernel_rfl⟩
instance:az Try.prog 72 (.nilFunc):=⟨by kernel_rfl⟩
instance:aN Try.prog 72 1 8 (.nilFunc):=⟨by kernel_rfl,by rfl,by decide,by decide⟩
instance:cU Try.prog 73:=⟨by kernel_rfl,by kernel_rfl⟩
instance:az Try.prog 73 (.nilFunc):=⟨by kernel_rfl⟩
instance:aN Try.prog 73 1 8 (.nilFunc):=⟨by kernel_rfl,by rfl,by decide,by decide⟩
instance:cU Try.prog 74:=⟨by kernel_rfl,by kernel_rfl⟩
instance:az Try.prog 74 (.nilFunc):=⟨by kernel_rfl⟩
instance:aN Try.prog 74 1 8 (.nilFunc):=⟨by kernel_rfl,by rfl,by decide,by decide⟩
instance:cU Try.prog 75:=⟨by kernel_rfl,by kernel_rfl⟩
instance:az Try.prog 75 (.nilFunc):=⟨by kernel_rfl⟩
instance:aN Try.prog 75 1 8 (.nilFunc):=⟨by kernel_rfl,by rfl,by decide,by decide⟩
instance:cU Try.prog 76:=⟨by kernel_rfl,by kernel_rfl⟩
instance:az Try.prog 76 (.nilFunc):=⟨by kernel_rfl⟩
instance:aN Try.prog 76 1 8 (.nilFunc):=⟨by kernel_rfl,by rfl,by decide,by decide⟩
instance:cU Try.prog 77:=⟨by kernel_rfl,by kernel_rfl⟩
instance:az Try.prog 77 (.nilFunc):=⟨by kernel_rfl⟩
instance:aN Try.prog 77 1 8 (.nilFunc):=⟨by kernel_rfl,by rfl,by decide,by decide⟩
instance:cU Try.prog 78:=⟨by kernel_rfl,by kernel_rfl⟩
instance:az Try.prog 78 (.nilFunc):=⟨by kernel_rfl⟩
instance:aN Try.prog 78 1 8 (.nilFunc):=⟨by kernel_rfl,by rfl,by decide,by decide⟩
instance:cU Try.prog 80:=⟨by kernel_rfl,by kernel_rfl⟩
instance:az Try.prog 80 (.nilFunc):=⟨by kernel_rfl⟩
instance:aN Try.prog 80 1 8 (.nilFunc):=⟨by kernel_rfl,by rfl,by decide,by decide⟩
instance:cU Try.prog 81:=⟨by kernel_rfl,by kernel_rfl⟩
instance:az Try.prog 81 (.nilFunc):=⟨by kernel_rfl⟩
instance:aN Try.prog 81 1 8 (.nilFunc):=⟨by kernel_rfl,by rfl,by decide,by decide⟩
instance:iZ Try.prog 82 1:=⟨by kernel_rfl,by kernel_rfl⟩
instance:fy Try.prog 82:=⟨fun w=>⟨0,iZ.size (T:=82) (n:=1) w⟩⟩
instance:az Try.prog 82 (.agg #[.nilFunc]):=⟨by kernel_rfl⟩
instance:aN Try.prog 82 1 8 (.agg #[.nilFunc]):=⟨by kernel_rfl,by rfl,by decide,by decide⟩
instance:bF Try.prog 82 [(0,1)] [.nilFunc]:=⟨by kernel_rfl,by kernel_rfl,by rfl⟩
instance:fm Try.prog 82 0 0 55:=⟨by kernel_rfl⟩
instance:iZ Try.prog 83 1:=⟨by kernel_rfl,by kernel_rfl⟩
instance:fy Try.prog 83:=⟨fun w=>⟨0,iZ.size (T:=83) (n:=1) w⟩⟩
instance:az Try.prog 83 (.agg #[.nilFunc]):=⟨by kernel_rfl⟩
instance:aN Try.prog 83 1 8 (.agg #[.nilFunc]):=⟨by kernel_rfl,by rfl,by decide,by decide⟩
instance:bF Try.prog 83 [(0,1)] [.nilFunc]:=⟨by kernel_rfl,by kernel_rfl,by rfl⟩
instance:fm Try.prog 83 0 0 55:=⟨by kernel_rfl⟩
instance:cU Try.prog 84:=⟨by kernel_rfl,by kernel_rfl⟩
instance:az Try.prog 84 (.nilFunc):=⟨by kernel_rfl⟩
instance:aN Try.prog 84 1 8 (.nilFunc):=⟨by kernel_rfl,by rfl,by decide,by decide⟩
instance:cU Try.prog 85:=⟨by kernel_rfl,by kernel_rfl⟩
instance:az Try.prog 85 (.nilFunc):=⟨by kernel_rfl⟩
instance:aN Try.prog 85 1 8 (.nilFunc):=⟨by kernel_rfl,by rfl,by decide,by decide⟩
instance:cU Try.prog 87:=⟨by kernel_rfl,by kernel_rfl⟩
instance:az Try.prog 87 (.nilFunc):=⟨by kernel_rfl⟩
instance:aN Try.prog 87 1 8 (.nilFunc):=⟨by kernel_rfl,by rfl,by decide,by decide⟩
instance:cU Try.prog 88:=⟨by kernel_rfl,by kernel_rfl⟩
instance:az Try.prog 88 (.nilFunc):=⟨by kernel_rfl⟩
instance:aN Try.prog 88 1 8 (.nilFunc):=⟨by kernel_rfl,by rfl,by decide,by decide⟩
instance:cU Try.prog 89:=⟨by kernel_rfl,by kernel_rfl⟩
instance:az Try.prog 89 (.nilFunc):=⟨by kernel_rfl⟩
instance:aN Try.prog 89 1 8 (.nilFunc):=⟨by kernel_rfl,by rfl,by decide,by decide⟩
instance:cU Try.prog 91:=⟨by kernel_rfl,by kernel_rfl⟩
instance:az Try.prog 91 (.nilFunc):=⟨by kernel_rfl⟩
instance:aN Try.prog 91 1 8 (.nilFunc):=⟨by kernel_rfl,by rfl,by decide,by decide⟩
instance:cU Try.prog 92:=⟨by kernel_rfl,by kernel_rfl⟩
instance:az Try.prog 92 (.nilFunc):=⟨by kernel_rfl⟩
instance:aN Try.prog 92 1 8 (.nilFunc):=⟨by kernel_rfl,by rfl,by decide,by decide⟩
instance:cU Try.prog 93:=⟨by kernel_rfl,by kernel_rfl⟩
instance:az Try.prog 93 (.nilFunc):=⟨by kernel_rfl⟩
instance:aN Try.prog 93 1 8 (.nilFunc):=⟨by kernel_rfl,by rfl,by decide,by decide⟩
instance:cU Try.prog 94:=⟨by kernel_rfl,by kernel_rfl⟩
instance:az Try.prog 94 (.nilFunc):=⟨by kernel_rfl⟩
instance:aN Try.prog 94 1 8 (.nilFunc):=⟨by kernel_rfl,by rfl,by decide,by decide⟩
instance:cU Try.prog 95:=⟨by kernel_rfl,by kernel_rfl⟩
instance:az Try.prog 95 (.nilFunc):=⟨by kernel_rfl⟩
instance:aN Try.prog 95 1 8 (.nilFunc):=⟨by kernel_rfl,by rfl,by decide,by decide⟩
instance:gw Try.prog 96 .u64:=⟨by kernel_rfl⟩
instance:cU Try.prog 96:=⟨by kernel_rfl,by kernel_rfl⟩
instance:az Try.prog 96 (.int .u64 0):=⟨by kernel_rfl⟩
instance:aN Try.prog 96 1 8 (.int .u64 0):=⟨by kernel_rfl,by rfl,by decide,by decide⟩
instance:cU Try.prog 97:=⟨by kernel_rfl,by kernel_rfl⟩
instance:az Try.prog 97 (.nilFunc):=⟨by kernel_rfl⟩
instance:aN Try.prog 97 1 8 (.nilFunc):=⟨by kernel_rfl,by rfl,by decide,by decide⟩
instance:cU Try.prog 98:=⟨by kernel_rfl,by kernel_rfl⟩
instance:az Try.prog 98 (.nilFunc):=⟨by kernel_rfl⟩
instance:aN Try.prog 98 1 8 (.nilFunc):=⟨by kernel_rfl,by rfl,by decide,by decide⟩
instance:cU Try.prog 99:=⟨by kernel_rfl,by kernel_rfl⟩
instance:az Try.prog 99 (.nilFunc):=⟨by kernel_rfl⟩
instance:aN Try.prog 99 1 8 (.nilFunc):=⟨by kernel_rfl,by rfl,by decide,by decide⟩
instance:cU Try.prog 100:=⟨by kernel_rfl,by kernel_rfl⟩
instance:az Try.prog 100 (.nilFunc):=⟨by kernel_rfl⟩
instance:aN Try.prog 100 1 8 (.nilFunc):=⟨by kernel_rfl,by rfl,by decide,by decide⟩
instance:cU Try.prog 102:=⟨by kernel_rfl,by kernel_rfl⟩
instance:az Try.prog 102 (.nilFunc):=⟨by kernel_rfl⟩
instance:aN Try.prog 102 1 8 (.nilFunc):=⟨by kernel_rfl,by rfl,by decide,by decide⟩
instance:cU Try.prog 104:=⟨by kernel_rfl,by kernel_rfl⟩
instance:az Try.prog 104 (.nilFunc):=⟨by kernel_rfl⟩
instance:aN Try.prog 104 1 8 (.nilFunc):=⟨by kernel_rfl,by rfl,by decide,by decide⟩
instance:cU Try.prog 105:=⟨by kernel_rfl,by kernel_rfl⟩
instance:az Try.prog 105 (.nilFunc):=⟨by kernel_rfl⟩
instance:aN Try.prog 105 1 8 (.nilFunc):=⟨by kernel_rfl,by rfl,by decide,by decide⟩
instance:cU Try.prog 106:=⟨by kernel_rfl,by kernel_rfl⟩
instance:az Try.prog 106 (.nilFunc):=⟨by kernel_rfl⟩
instance:aN Try.prog 106 1 8 (.nilFunc):=⟨by kernel_rfl,by rfl,by decide,by decide⟩
instance:cU Try.prog 107:=⟨by kernel_rfl,by kernel_rfl⟩
instance:az Try.prog 107 (.nilFunc):=⟨by kernel_rfl⟩
instance:aN Try.prog 107 1 8 (.nilFunc):=⟨by kernel_rfl,by rfl,by decide,by decide⟩
instance:cU Try.prog 108:=⟨by kernel_rfl,by kernel_rfl⟩
instance:az Try.prog 108 (.nilFunc):=⟨by kernel_rfl⟩
instance:aN Try.prog 108 1 8 (.nilFunc):=⟨by kernel_rfl,by rfl,by decide,by decide⟩
instance:gw Try.prog 109 .u64:=⟨by kernel_rfl⟩
instance:cU Try.prog 109:=⟨by kernel_rfl,by kernel_rfl⟩
instance:az Try.prog 109 (.int .u64 0):=⟨by kernel_rfl⟩
instance:aN Try.prog 109 1 8 (.int .u64 0):=⟨by kernel_rfl,by rfl,by decide,by decide⟩
instance:gw Try.prog 110 .u32:=⟨by kernel_rfl⟩
instance:cU Try.prog 110:=⟨by kernel_rfl,by kernel_rfl⟩
instance:az Try.prog 110 (.int .u32 0):=⟨by kernel_rfl⟩
instance:aN Try.prog 110 1 4 (.int .u32 0):=⟨by kernel_rfl,by rfl,by decide,by decide⟩
instance:cU Try.prog 111:=⟨by kernel_rfl,by kernel_rfl⟩
instance:az Try.prog 111 (.nilFunc):=⟨by kernel_rfl⟩
instance:aN Try.prog 111 1 8 (.nilFunc):=⟨by kernel_rfl,by rfl,by decide,by decide⟩
instance:iZ Try.prog 112 1:=⟨by kernel_rfl,by kernel_rfl⟩
instance:fy Try.prog 112:=⟨fun w=>⟨0,iZ.size (T:=112) (n:=1) w⟩⟩
instance:az Try.prog 112 (.agg #[.nilFunc]):=⟨by kernel_rfl⟩
instance:aN Try.prog 112 1 8 (.agg #[.nilFunc]):=⟨by kernel_rfl,by rfl,by decide,by decide⟩
instance:bF Try.prog 112 [(0,1)] [.nilFunc]:=⟨by kernel_rfl,by kernel_rfl,by rfl⟩
instance:fm Try.prog 112 0 0 111:=⟨by kernel_rfl⟩
instance:iZ Try.prog 113 1:=⟨by kernel_rfl,by kernel_rfl⟩
instance:fy Try.prog 113:=⟨fun w=>⟨0,iZ.size (T:=113) (n:=1) w⟩⟩
instance:az Try.prog 113 (.agg #[.nilFunc]):=⟨by kernel_rfl⟩
instance:aN Try.prog 113 1 8 (.agg #[.nilFunc]):=⟨by kernel_rfl,by rfl,by decide,by decide⟩
instance:bF Try.prog 113 [(0,1)] [.nilFunc]:=⟨by kernel_rfl,by kernel_rfl,by rfl⟩
instance:fm Try.prog 113 0 0 111:=⟨by kernel_rfl⟩
instance:cU Try.prog 114:=⟨by kernel_rfl,by kernel_rfl⟩
instance:az Try.prog 114 (.map none):=⟨by kernel_rfl⟩
instance:aN Try.prog 114 1 8 (.map none):=⟨by kernel_rfl,by rfl,by decide,by decide⟩
instance:F7 Try.prog 114 5 113:=⟨by kernel_rfl⟩
instance:cU Try.prog 115:=⟨by kernel_rfl,by kernel_rfl⟩
instance:az Try.prog 115 (.nilFunc):=⟨by kernel_rfl⟩
instance:aN Try.prog 115 1 8 (.nilFunc):=⟨by kernel_rfl,by rfl,by decide,by decide⟩
instance:cU Try.prog 117:=⟨by kernel_rfl,by kernel_rfl⟩
instance:az Try.prog 117 (.nilFunc):=⟨by kernel_rfl⟩
instance:aN Try.prog 117 1 8 (.nilFunc):=⟨by kernel_rfl,by rfl,by decide,by decide⟩
instance:cU Try.prog 118:=⟨by kernel_rfl,by kernel_rfl⟩
instance:az Try.prog 118 (.nilFunc):=⟨by kernel_rfl⟩
instance:aN Try.prog 118 1 8 (.nilFunc):=⟨by kernel_rfl,by rfl,by decide,by decide⟩
instance:cU Try.prog 119:=⟨by kernel_rfl,by kernel_rfl⟩
instance:az Try.prog 119 (.nilFunc):=⟨by kernel_rfl⟩
instance:aN Try.prog 119 1 8 (.nilFunc):=⟨by kernel_rfl,by rfl,by decide,by decide⟩
instance:cU Try.prog 120:=⟨by kernel_rfl,by kernel_rfl⟩
instance:az Try.prog 120 (.nilFunc):=⟨by kernel_rfl⟩
instance:aN Try.prog 120 1 8 (.nilFunc):=⟨by kernel_rfl,by rfl,by decide,by decide⟩
instance:cU Try.prog 121:=⟨by kernel_rfl,by kernel_rfl⟩
instance:az Try.prog 121 (.nilFunc):=⟨by kernel_rfl⟩
instance:aN Try.prog 121 1 8 (.nilFunc):=⟨by kernel_rfl,by rfl,by decide,by decide⟩
instance:cU Try.prog 122:=⟨by kernel_rfl,by kernel_rfl⟩
instance:az Try.prog 122 (.nilFunc):=⟨by kernel_rfl⟩
instance:aN Try.prog 122 1 8 (.nilFunc):=⟨by kernel_rfl,by rfl,by decide,by decide⟩
instance:cU Try.prog 123:=⟨by kernel_rfl,by kernel_rfl⟩
instance:az Try.prog 123 (.nilFunc):=⟨by kernel_rfl⟩
instance:aN Try.prog 123 1 8 (.nilFunc):=⟨by kernel_rfl,by rfl,by decide,by decide⟩
instance:cU Try.prog 124:=⟨by kernel_rfl,by kernel_rfl⟩
instance:az Try.prog 124 (.nilFunc):=⟨by kernel_rfl⟩
instance:aN Try.prog 124 1 8 (.nilFunc):=⟨by kernel_rfl,by rfl,by decide,by decide⟩
instance:cU Try.prog 125:=⟨by kernel_rfl,by kernel_rfl⟩
instance:az Try.prog 125 (.nilFunc):=⟨by kernel_rfl⟩
instance:aN Try.prog 125 1 8 (.nilFunc):=⟨by kernel_rfl,by rfl,by decide,by decide⟩
instance:cU Try.prog 126:=⟨by kernel_rfl,by kernel_rfl⟩
instance:az Try.prog 126 (.nilFunc):=⟨by kernel_rfl⟩
instance:aN Try.prog 126 1 8 (.nilFunc):=⟨by kernel_rfl,by rfl,by decide,by decide⟩
instance:cU Try.prog 127:=⟨by kernel_rfl,by kernel_rfl⟩
instance:az Try.prog 127 (.nilFunc):=⟨by kernel_rfl⟩
instance:aN Try.prog 127 1 8 (.nilFunc):=⟨by kernel_rfl,by rfl,by decide,by decide⟩
instance:cU Try.prog 128:=⟨by kernel_rfl,by kernel_rfl⟩
instance:az Try.prog 128 (.nilFunc):=⟨by kernel_rfl⟩
instance:aN Try.prog 128 1 8 (.nilFunc):=⟨by kernel_rfl,by rfl,by decide,by decide⟩
instance:cU Try.prog 129:=⟨by kernel_rfl,by kernel_rfl⟩
instance:az Try.prog 129 (.nilFunc):=⟨by kernel_rfl⟩
instance:aN Try.prog 129 1 8 (.nilFunc):=⟨by kernel_rfl,by rfl,by decide,by decide⟩
instance:cU Try.prog 130:=⟨by kernel_rfl,by kernel_rfl⟩
instance:az Try.prog 130 (.nilFunc):=⟨by kernel_rfl⟩
instance:aN Try.prog 130 1 8 (.nilFunc):=⟨by kernel_rfl,by rfl,by decide,by decide⟩
instance:iZ Try.prog 131 4:=⟨by kernel_rfl,by kernel_rfl⟩
instance:fy Try.prog 131:=⟨fun w=>⟨3,iZ.size (T:=131) (n:=4) w⟩⟩
instance:az Try.prog 131 (.agg #[.pointer none,.pointer none,.pointer none,.string (ByteArray.mk #[])]):=⟨by kernel_rfl⟩
instance:aN Try.prog 131 4 40 (.agg #[.pointer none,.pointer none,.pointer none,.string (ByteArray.mk #[])]):=⟨by kernel_rfl,by rfl,by decide,by decide⟩
instance:bF Try.prog 131 [(0,1),(1,1),(2,1),(3,1)] [.pointer none,.pointer none,.pointer none,.string (ByteArray.mk #[])]:=⟨by kernel_rfl,by kernel_rfl,by rfl⟩
instance:fm Try.prog 131 0 0 17:=⟨by kernel_rfl⟩
instance:fm Try.prog 131 1 1 17:=⟨by kernel_rfl⟩
instance:fm Try.prog 131 2 2 17:=⟨by kernel_rfl⟩
instance:fm Try.prog 131 3 3 9:=⟨by kernel_rfl⟩
instance:iZ Try.prog 132 4:=⟨by kernel_rfl,by kernel_rfl⟩
instance:fy Try.prog 132:=⟨fun w=>⟨3,iZ.size (T:=132) (n:=4) w⟩⟩
instance:az Try.prog 132 (.agg #[.pointer none,.pointer none,.pointer none,.string (ByteArray.mk #[])]):=⟨by kernel_rfl⟩
instance:aN Try.prog 132 4 40 (.agg #[.pointer none,.pointer none,.pointer none,.string (ByteArray.mk #[])]):=⟨by kernel_rfl,by rfl,by decide,by decide⟩
instance:bF Try.prog 132 [(0,1),(1,1),(2,1),(3,1)] [.pointer none,.pointer none,.pointer none,.string (ByteArray.mk #[])]:=⟨by kernel_rfl,by kernel_rfl,by rfl⟩
instance:fm Try.prog 132 0 0 17:=⟨by kernel_rfl⟩
instance:fm Try.prog 132 1 1 17:=⟨by kernel_rfl⟩
instance:fm Try.prog 132 2 2 17:=⟨by kernel_rfl⟩
instance:fm Try.prog 132 3 3 9:=⟨by kernel_rfl⟩
instance:iZ Try.prog 133 0:=⟨by kernel_rfl,by kernel_rfl⟩
instance:az Try.prog 133 (.agg #[]):=⟨by kernel_rfl⟩
instance:iZ Try.prog 134 0:=⟨by kernel_rfl,by kernel_rfl⟩
instance:az Try.prog 134 (.agg #[]):=⟨by kernel_rfl⟩
instance:bF Try.prog 134 [(0,0)] []:=⟨by kernel_rfl,by kernel_rfl,by rfl⟩
instance:fm Try.prog 134 0 0 133:=⟨by kernel_rfl⟩
instance:iZ Try.prog 135 0:=⟨by kernel_rfl,by kernel_rfl⟩
instance:az Try.prog 135 (.agg #[]):=⟨by kernel_rfl⟩
instance:bF Try.prog 135 [(0,0)] []:=⟨by kernel_rfl,by kernel_rfl,by rfl⟩
instance:fm Try.prog 135 0 0 133:=⟨by kernel_rfl⟩
instance:gw Try.prog 136 .u8:=⟨by kernel_rfl⟩
instance:cU Try.prog 136:=⟨by kernel_rfl,by kernel_rfl⟩
instance:az Try.prog 136 (.int .u8 0):=⟨by kernel_rfl⟩
instance:aN Try.prog 136 1 1 (.int .u8 0):=⟨by kernel_rfl,by rfl,by decide,by decide⟩
instance:gw Try.prog 137 .u8:=⟨by kernel_rfl⟩
instance:cU Try.prog 137:=⟨by kernel_rfl,by kernel_rfl⟩
instance:az Try.prog 137 (.int .u8 0):=⟨by kernel_rfl⟩
instance:aN Try.prog 137 1 1 (.int .u8 0):=⟨by kernel_rfl,by rfl,by decide,by decide⟩
instance:cU Try.prog 138:=⟨by kernel_rfl,by kernel_rfl⟩
instance:az Try.prog 138 (.nilFunc):=⟨by kernel_rfl⟩
instance:aN Try.prog 138 1 8 (.nilFunc):=⟨by kernel_rfl,by rfl,by decide,by decide⟩
instance:cU Try.prog 139:=⟨by kernel_rfl,by kernel_rfl⟩
instance:az Try.prog 139 (.pointer none):=⟨by kernel_rfl⟩
instance:aN Try.prog 139 1 8 (.pointer none):=⟨by kernel_rfl,by rfl,by decide,by decide⟩
instance:gw Try.prog 140 .i32:=⟨by kernel_rfl⟩
instance:cU Try.prog 140:=⟨by kernel_rfl,by kernel_rfl⟩
instance:az Try.prog 140 (.int .i32 0):=⟨by kernel_rfl⟩
instance:aN Try.prog 140 1 4 (.int .i32 0):=⟨by kernel_rfl,by rfl,by decide,by decide⟩
instance:gw Try.prog 141 .i32:=⟨by kernel_rfl⟩
instance:cU Try.prog 141:=⟨by kernel_rfl,by kernel_rfl⟩
instance:az Try.prog 141 (.int .i32 0):=⟨by kernel_rfl⟩
instance:aN Try.prog 141 1 4 (.int .i32 0):=⟨by kernel_rfl,by rfl,by decide,by decide⟩
instance:iZ Try.prog 142 11:=⟨by kernel_rfl,by kernel_rfl⟩
instance:fy Try.prog 142:=⟨fun w=>⟨10,iZ.size (T:=142) (n:=11) w⟩⟩
instance:az Try.prog 142 (.agg #[.int .u64 0,.int .u64 0,.int .u32 0,.int .u8 0,.int .u8 0,.int .u8 0,.int .u8 0,.nilFunc,.pointer none,.int .i32 0,.int .i32 0]):=⟨by kernel_rfl⟩
instance:aN Try.prog 142 11 48 (.agg #[.int .u64 0,.int .u64 0,.int .u32 0,.int .u8 0,.int .u8 0,.int .u8 0,.int .u8 0,.nilFunc,.pointer none,.int .i32 0,.int .i32 0]):=⟨by kernel_rfl,by rfl,by decide,by decide⟩
instance:bF Try.prog 142 [(0,1),(1,1),(2,1),(3,1),(4,1),(5,1),(6,1),(7,1),(8,1),(9,1),(10,1)] [.int .u64 0,.int .u64 0,.int .u32 0,.int .u8 0,.int .u8 0,.int .u8 0,.int .u8 0,.nilFunc,.pointer none,.int .i32 0,.int .i32 0]:=⟨by kernel_rfl,by kernel_rfl,by rfl⟩
instance:fm Try.prog 142 0 0 12:=⟨by kernel_rfl⟩
instance:fm Try.prog 142 1 1 12:=⟨by kernel_rfl⟩
instance:fm Try.prog 142 2 2 110:=⟨by kernel_rfl⟩
instance:fm Try.prog 142 3 3 136:=⟨by kernel_rfl⟩
instance:fm Try.prog 142 4 4 5:=⟨by kernel_rfl⟩
instance:fm Try.prog 142 5 5 5:=⟨by kernel_rfl⟩
instance:fm Try.prog 142 6 6 137:=⟨by kernel_rfl⟩
instance:fm Try.prog 142 7 7 138:=⟨by kernel_rfl⟩
instance:fm Try.prog 142 8 8 139:=⟨by kernel_rfl⟩
instance:fm Try.prog 142 9 9 140:=⟨by kernel_rfl⟩
instance:fm Try.prog 142 10 10 141:=⟨by kernel_rfl⟩
instance:iZ Try.prog 143 11:=⟨by kernel_rfl,by kernel_rfl⟩
instance:fy Try.prog 143:=⟨fun w=>⟨10,iZ.size (T:=143) (n:=11) w⟩⟩
instance:az Try.prog 143 (.agg #[.int .u64 0,.int .u64 0,.int .u32 0,.int .u8 0,.int .u8 0,.int .u8 0,.int .u8 0,.nilFunc,.pointer none,.int .i32 0,.int .i32 0]):=⟨by kernel_rfl⟩
instance:aN Try.prog 143 11 48 (.agg #[.int .u64 0,.int .u64 0,.int .u32 0,.int .u8 0,.int .u8 0,.int .u8 0,.int .u8 0,.nilFunc,.pointer none,.int .i32 0,.int .i32 0]):=⟨by kernel_rfl,by rfl,by decide,by decide⟩
instance:bF Try.prog 143 [(0,1),(1,1),(2,1),(3,1),(4,1),(5,1),(6,1),(7,1),(8,1),(9,1),(10,1)] [.int .u64 0,.int .u64 0,.int .u32 0,.int .u8 0,.int .u8 0,.int .u8 0,.int .u8 0,.nilFunc,.pointer none,.int .i32 0,.int .i32 0]:=⟨by kernel_rfl,by kernel_rfl,by rfl⟩
instance:fm Try.prog 143 0 0 12:=⟨by kernel_rfl⟩
instance:fm Try.prog 143 1 1 12:=⟨by kernel_rfl⟩
instance:fm Try.prog 143 2 2 110:=⟨by kernel_rfl⟩
instance:fm Try.prog 143 3 3 136:=⟨by kernel_rfl⟩
instance:fm Try.prog 143 4 4 5:=⟨by kernel_rfl⟩
instance:fm Try.prog 143 5 5 5:=⟨by kernel_rfl⟩
instance:fm Try.prog 143 6 6 137:=⟨by kernel_rfl⟩
instance:fm Try.prog 143 7 7 138:=⟨by kernel_rfl⟩
instance:fm Try.prog 143 8 8 139:=⟨by kernel_rfl⟩
instance:fm Try.prog 143 9 9 140:=⟨by kernel_rfl⟩
instance:fm Try.prog 143 10 10 141:=⟨by kernel_rfl⟩
instance:cU Try.prog 144:=⟨by kernel_rfl,by kernel_rfl⟩
instance:az Try.prog 144 (.pointer none):=⟨by kernel_rfl⟩
instance:aN Try.prog 144 1 8 (.pointer none):=⟨by kernel_rfl,by rfl,by decide,by decide⟩
instance:dj Try.prog 3:=⟨by kernel_rfl⟩
instance:dj Try.prog 4:=⟨by kernel_rfl⟩
instance:dj Try.prog 5:=⟨by kernel_rfl⟩
instance:dj Try.prog 6:=⟨by kernel_rfl⟩
instance:dj Try.prog 7:=⟨by kernel_rfl⟩
instance:dj Try.prog 8:=⟨by kernel_rfl⟩
instance:dj Try.prog 9:=⟨by kernel_rfl⟩
instance:dj Try.prog 10:=⟨by kernel_rfl⟩
instance:dj Try.prog 11:=⟨by kernel_rfl⟩
instance:dj Try.prog 12:=⟨by kernel_rfl⟩
instance:dj Try.prog 13:=⟨by kernel_rfl⟩
instance:dj Try.prog 14:=⟨by kernel_rfl⟩
instance:dj Try.prog 15:=⟨by kernel_rfl⟩
instance:dj Try.prog 16:=⟨by kernel_rfl⟩
instance:dj Try.prog 17:=⟨by kernel_rfl⟩
instance:dj Try.prog 18:=⟨by kernel_rfl⟩
instance:dj Try.prog 19:=⟨by kernel_rfl⟩
instance:dj Try.prog 20:=⟨by kernel_rfl⟩
instance:dj Try.prog 21:=⟨by kernel_rfl⟩
instance:dj Try.prog 22:=⟨by kernel_rfl⟩
instance:dj Try.prog 23:=⟨by kernel_rfl⟩
instance:dj Try.prog 24:=⟨by kernel_rfl⟩
instance:dj Try.prog 25:=⟨by kernel_rfl⟩
instance:dj Try.prog 26:=⟨by kernel_rfl⟩
instance:dj Try.prog 27:=⟨by kernel_rfl⟩
instance:dj Try.prog 28:=⟨by kernel_rfl⟩
instance:dj Try.prog 29:=⟨by kernel_rfl⟩
instance:dj Try.prog 30:=⟨by kernel_rfl⟩
instance:dj Try.prog 31:=⟨by kernel_rfl⟩
instance:dj Try.prog 32:=⟨by kernel_rfl⟩
instance:dj Try.prog 33:=⟨by kernel_rfl⟩
instance:dj Try.prog 34:=⟨by kernel_rfl⟩
instance:dj Try.prog 35:=⟨by kernel_rfl⟩
instance:dj Try.prog 36:=⟨by kernel_rfl⟩
instance:dj Try.prog 37:=⟨by kernel_rfl⟩
instance:dj Try.prog 38:=⟨by kernel_rfl⟩
instance:dj Try.prog 39:=⟨by kernel_rfl⟩
instance:dj Try.prog 40:=⟨by kernel_rfl⟩
instance:dj Try.prog 41:=⟨by kernel_rfl⟩
instance:dj Try.prog 42:=⟨by kernel_rfl⟩
instance:dj Try.prog 43:=⟨by kernel_rfl⟩
instance:dj Try.prog 44:=⟨by kernel_rfl⟩
instance:dj Try.prog 45:=⟨by kernel_rfl⟩
instance:dj Try.prog 46:=⟨by kernel_rfl⟩
instance:dj Try.prog 47:=⟨by kernel_rfl⟩
instance:dj Try.prog 48:=⟨by kernel_rfl⟩
instance:dj Try.prog 49:=⟨by kernel_rfl⟩
instance:dj Try.prog 50:=⟨by kernel_rfl⟩
instance:dj Try.prog 51:=⟨by kernel_rfl⟩
instance:dj Try.prog 52:=⟨by kernel_rfl⟩
instance:dj Try.prog 53:=⟨by kernel_rfl⟩
instance:dj Try.prog 54:=⟨by kernel_rfl⟩
instance:dj Try.prog 55:=⟨by kernel_rfl⟩
instance:dj Try.prog 56:=⟨by kernel_rfl⟩
instance:dj Try.prog 57:=⟨by kernel_rfl⟩
instance:dj Try.prog 58:=⟨by kernel_rfl⟩
instance:dj Try.prog 59:=⟨by kernel_rfl⟩
instance:dj Try.prog 60:=⟨by kernel_rfl⟩
instance:dj Try.prog 61:=⟨by kernel_rfl⟩
instance:dj Try.prog 62:=⟨by kernel_rfl⟩
instance:dj Try.prog 63:=⟨by kernel_rfl⟩
instance:dj Try.prog 64:=⟨by kernel_rfl⟩
instance:dj Try.prog 65:=⟨by kernel_rfl⟩
instance:dj Try.prog 66:=⟨by kernel_rfl⟩
instance:dj Try.prog 67:=⟨by kernel_rfl⟩
instance:dj Try.prog 68:=⟨by kernel_rfl⟩
instance:dj Try.prog 69:=⟨by kernel_rfl⟩
instance:dj Try.prog 70:=⟨by kernel_rfl⟩
instance:dj Try.prog 71:=⟨by kernel_rfl⟩
instance:dj Try.prog 72:=⟨by kernel_rfl⟩
instance:dj Try.prog 73:=⟨by kernel_rfl⟩
instance:dj Try.prog 74:=⟨by kernel_rfl⟩
instance:dj Try.prog 75:=⟨by kernel_rfl⟩
instance:dj Try.prog 76:=⟨by kernel_rfl⟩
instance:dj Try.prog 77:=⟨by kernel_rfl⟩
instance:dj Try.prog 78:=⟨by kernel_rfl⟩
instance:dj Try.prog 79:=⟨by kernel_rfl⟩
instance:dj Try.prog 80:=⟨by kernel_rfl⟩
instance:dj Try.prog 81:=⟨by kernel_rfl⟩
instance:dj Try.prog 82:=⟨by kernel_rfl⟩
instance:dj Try.prog 83:=⟨by kernel_rfl⟩
instance:dj Try.prog 84:=⟨by kernel_rfl⟩
instance:dj Try.prog 85:=⟨by kernel_rfl⟩
instance:dj Try.prog 86:=⟨by kernel_rfl⟩
instance:dj Try.prog 87:=⟨by kernel_rfl⟩
instance:dj Try.prog 88:=⟨by kernel_rfl⟩
instance:dj Try.prog 89:=⟨by kernel_rfl⟩
instance:dj Try.prog 90:=⟨by kernel_rfl⟩
instance:dj Try.prog 91:=⟨by kernel_rfl⟩
instance:dj Try.prog 92:=⟨by kernel_rfl⟩
instance:dj Try.prog 93:=⟨by kernel_rfl⟩
instance:dj Try.prog 94:=⟨by kernel_rfl⟩
instance:dj Try.prog 95:=⟨by kernel_rfl⟩
instance:dj Try.prog 96:=⟨by kernel_rfl⟩
theorem mixed:Try.prog.follows .mixedOrders=true:=by kernel_rfl
end Go.Proofs.Ytningmnklfpfjaa
namespace Go.Proofs.Ytningmnklfpfjaa
open Go.Fw Go.RowKit
def snap(W:World):Mem:=fun b o=>(W.cell? ⟨b,o,none⟩).filter Value.oneCell'
theorem Mf(W:World):(snap W).cm W:=fun _ _ _ e=>by
 obtain⟨e1,e2⟩:=Option.filter_eq_some_iff.1 e
 exact .of e1 e2
theorem Mg{W:World}{b o:Nat}{v:Value}(h:W.cell? ⟨b,o,none⟩=some v)(h1:v.oneCell'=true):snap W b o=some v:=Option.filter_eq_some_iff.2 ⟨h,h1⟩
class vo (P:Program) (T:TypeId) {α:Type} (e:α→List SV) (ok:outParam (α→Prop)) (sz:outParam (α→Nat)):Prop where
 h:∀{H:Type} (enc:TypeId×Value→H) (W:World) (fuel:Nat) (cs:List Value) (d:DataW H) (p:List MemPlace),DataW.trod enc P W 0 (fun _=>true) true fuel T cs=some (d,p)→
  ∃x:α,ok x∧SV.dz (snap W) (e x) cs∧(∀v∈cs,v.oneCell'=true)∧sz x≤Rows.uptoBulk d
section opn
variable {P:Program}{T:TypeId}
theorem IV{k:IntKind}{n:Int}(h:(Lit.int k n).wf=true):k.min≤n∧n≤k.max:=by simpa[Lit.wf]using h
instance[t:gw P T .i64]:vo P T bO (fun x=>-9223372036854775808≤x∧x≤9223372036854775807) (fun _=>1):=⟨fun enc W fuel cs d p h=>by
 obtain⟨n,rfl,hx,hw⟩:=DataW.trod_int t.h h
 cases hx
 have:=IV hw
 exact⟨n,by simpa[IntKind.min,IntKind.max,IntKind.signed,IntKind.bits]using this,⟨rfl,trivial⟩,by simp[Value.oneCell'],by simp[Rows.uptoBulk]⟩⟩
theorem TT{k:IntKind}{M:Nat}{e:Nat→List SV}(t:gw P T k)(hk:k.min=0∧k.max=(M:Int)-1)(he:∀n:Nat,e n=[.v (.int k (n:Int))]):vo P T e (fun x=>x<M) (fun _=>1):=⟨fun enc W fuel cs d p h=>by
 obtain⟨n,rfl,hx,hw⟩:=DataW.trod_int t.h h
 cases hx
 have:=IV hw
 rw[hk.1,hk.2]at this
 obtain⟨m,rfl⟩:=Int.eq_ofNat_of_zero_le this.1
 exact⟨m,by omega,by rw[he];exact⟨rfl,trivial⟩,by simp[Value.oneCell'],by simp[Rows.uptoBulk]⟩⟩
instance[t:gw P T .u32]:vo P T af (fun x=>x<4294967296) (fun _=>1):=TT t (by decide) (fun _=>rfl)
instance[t:xZ P T]:vo P T eB (fun _=>True) (fun _=>1):=⟨fun enc W fuel cs d p h=>by
 obtain⟨b,rfl,hx⟩:=DataW.trod_bool t.h h
 cases hx
 exact⟨b,trivial,⟨rfl,trivial⟩,by simp[Value.oneCell'],by simp[Rows.uptoBulk]⟩⟩
theorem Df{H α:Type}(sz:α→Nat):∀(xs:List α) (ds:List (DataW H)),xs.length=ds.length→(∀(i:Nat) (x:α) (d:DataW H),xs[i]? =some x→ds[i]? =some d→sz x≤Rows.uptoBulk d)→(xs.map sz).sum≤Rows.uptoBulkAll ds
 |[],[],_,_=>by simp
 |x::xs,d::ds,hl,h=>by
  have h1:=h 0 x d rfl rfl
  have h2:=Df sz xs ds (by simpa using hl) (fun i x d e1 e2=>h (i+1) x d (by simpa using e1) (by simpa using e2))
  simp only[List.map_cons,List.sum_cons,Rows.uptoBulkAll];omega
 |[],_::_,hl,_=>by simp at hl
 |_::_,[],hl,_=>by simp at hl
instance{E:TypeId}{n:Nat}{α:Type}{e:α→List SV}{ok:α→Prop}{sz:α→Nat}{by_:Nat}{zv:Value}[t:dX P T E n][tE:aN P E n by_ zv][el:EL e n][o:vo P E e ok sz]:vo P T (eS n e) (fun l=>l.length≤9223372036854775807∧∀x∈l,ok x) (fun l=>(l.map sz).sum+1):=⟨fun{H} enc W fuel cs d p h=>by
 have hcell:P.cellsOf E=n:=by
  have h1:=t.size W
  simp only[sizeOf,typeInfo]at h1
  cases hi:P.info? E with
  |none=>simp[hi]at h1
  |some i=>simp[hi]at h1;simp[Program.cellsOf,hi,h1]
 have hml:maxLen=9223372036854775807:=by decide
 rcases Deep.open_slice t.u h with⟨rfl,hx⟩|⟨a,len,cap,m,n',D,Pl,rfl,_,hl,hm,hmm,hx,hel⟩
 ·cases hx
  exact⟨[],⟨by simp,by simp⟩,⟨.inl ⟨none,rfl,rfl⟩,trivial⟩,by simp[Value.oneCell'],by simp[Rows.uptoBulk]⟩
 ·cases hx
  rw[if_pos rfl]at hmm
  subst hmm
  have one:∀i,i<m→∃x,ok x∧sz x≤Rows.uptoBulk (D i)∧∃cs',W.cells? 0 (a.add (i*n)) n=some cs'∧SV.dz (snap W) (e x) cs'∧(∀v∈cs',v.oneCell'=true):=by
   intro i hi
   obtain⟨cs',h1,h2⟩:=hel i hi
   obtain⟨x,q1,q2,q3,q4⟩:=o.h enc W n' cs' (D i) (Pl i) h2
   rw[hcell]at h1
   exact⟨x,q1,q4,cs',h1,q2,q3⟩
  obtain⟨xs,VU,hxs⟩:∃xs:List α,xs.length=len∧∀(i:Nat) (x:α),xs[i]? =some x→ok x∧sz x≤Rows.uptoBulk (D i)∧∃cs',W.cells? 0 (a.add (i*n)) n=some cs'∧SV.dz (snap W) (e x) cs'∧(∀v∈cs',v.oneCell'=true):=by
   clear h hm hel
   have:∀k,k≤len→∃xs:List α,xs.length=k∧∀(i:Nat) (x:α),xs[i]? =some x→ok x∧sz x≤Rows.uptoBulk (D i)∧∃cs',W.cells? 0 (a.add (i*n)) n=some cs'∧SV.dz (snap W) (e x) cs'∧(∀v∈cs',v.oneCell'=true):=by
    intro k
    induction k with
    |zero=>intro _;exact⟨[],rfl,by simp⟩
    |succ k ih=>
     intro hk
     obtain⟨xs,h1,h2⟩:=ih (by omega)
     obtain⟨x,hx⟩:=one k (by omega)
     refine⟨xs++[x],by simp[h1],fun i y hy=>?_⟩
     rcases Nat.lt_or_ge i k with hi|hi
     ·exact h2 i y (by rwa[List.getElem?_append_left (by omega)]at hy)
     ·rw[List.getElem?_append_right (by omega)]at hy
      have Wv:i=k:=by
       rcases Nat.lt_or_ge (i-xs.length) 1 with q|q
       ·omega
       ·rw[List.getElem?_eq_none (by simpa using q)]at hy;cases hy
      subst Wv
      rw[h1,Nat.sub_self]at hy
      simp at hy;subst hy;exact hx
   exact this len (Nat.le_refl _)
  refine⟨xs,⟨by omega,fun x hx=>?_⟩,⟨?_,trivial⟩,by simp[Value.oneCell'],?_⟩
  ·obtain⟨i,hi,rfl⟩:=List.getElem_of_mem hx
   exact(hxs i _ (List.getElem?_eq_getElem hi)).1
  ·by_cases h0:xs=[]
   ·subst h0
    simp at VU
    subst VU
    by_cases hc0:m=0
    ·subst hc0;exact .inl ⟨_,rfl,rfl⟩
    ·
     obtain⟨x,_,_,cs',g1,g2,_⟩:=one 0 (by omega)
     obtain⟨_,g3,g4⟩:=World.cells?_some g1
     have hn:0<n:=tE.p
     have g5:=g4 0 hn
     obtain⟨b,o',spot⟩:=a
     have IW:spot=none:=by
      have:∃v,W.cell? (((⟨b,o',spot⟩:Addr).add (0*n)).add 0)=some v:=by
       rw[g5];exact⟨_,List.getElem?_eq_getElem (by omega)⟩
      obtain⟨v,hv⟩:=this
      simpa[Addr.add]using World.cell?_spot hv
     subst IW
     refine .inr ⟨b,o',m,rfl,by simp,by simp,fun i row hr=>by simp at hr⟩
   ·have wJ:0<len:=by
     rcases Nat.eq_zero_or_pos len with hz|hz
     ·exact absurd (List.eq_nil_of_length_eq_zero (by omega)) h0
     ·exact hz
    have hn:0<n:=tE.p
    obtain⟨x,_,_,cs',g1,g2,_⟩:=one 0 (by omega)
    obtain⟨_,g3,g4⟩:=World.cells?_some g1
    have g5:=g4 0 hn
    obtain⟨b,o',spot⟩:=a
    have IW:spot=none:=by
     have:∃v,W.cell? (((⟨b,o',spot⟩:Addr).add (0*n)).add 0)=some v:=by
      rw[g5];exact⟨_,List.getElem?_eq_getElem (by omega)⟩
     obtain⟨v,hv⟩:=this
     simpa[Addr.add]using World.cell?_spot hv
    subst IW
    refine .inr ⟨b,o',m,by rw[List.length_map,VU],by rw[List.length_map];omega,by rw[List.length_map];omega,fun i row hr=>?_⟩
    rw[List.getElem?_map]at hr
    cases hx:xs[i]? with
    |none=>rw[hx]at hr;cases hr
    |some y=>
     rw[hx]at hr
     have hr:e y=row:=Option.some.inj hr
     subst hr
     obtain⟨_,_,cs2,k1,k2,k3⟩:=hxs i y hx
     obtain⟨_,k4,k5⟩:=World.cells?_some k1
     refine⟨el.len y,fun k s hk=>?_⟩
     obtain⟨u,hu,hs⟩:=k2.get hk
     have hkn:k<n:=by have:=(List.getElem?_eq_some_iff.1 hu).1;omega
     have k6:=k5 k hkn
     rw[eU,eU,hu]at k6
     exact⟨u,Mg k6 (k3 u (List.mem_of_getElem? hu)),k3 u (List.mem_of_getElem? hu),hs⟩
  ·have hb:Rows.uptoBulk (DataW.slice ((List.range len).map D) ((List.range (m-len)).map fun j=>D (len+j)))=Rows.uptoBulkAll ((List.range len).map D)+Rows.uptoBulkAll ((List.range (m-len)).map fun j=>D (len+j))+1:=rfl
   rw[hb]
   have:=Df sz xs ((List.range len).map D) (by simp[VU]) (fun i x d e1 e2=>by
    have hi:i<len:=by have:=(List.getElem?_eq_some_iff.1 e1).1;omega
    simp[hi]at e2;subst e2
    exact(hxs i x e1).2.1)
   omega⟩
class SZ (P:Program) (T:TypeId) (k:outParam Nat):Prop where
 h:(match P.underlying T with|some (.struct fs)=>some fs.size|_=>none)=some k
theorem um{k:Nat}[s:SZ P T k]{H:Type}{enc:TypeId×Value→H}{W:World}{fuel:Nat}{cs:List Value}{d:DataW H}{p:List MemPlace}(h:DataW.trod enc P W 0 (fun _=>true) true fuel T cs=some (d,p)):
  ∃(xs:List (DataW H×List MemPlace)) (n:Nat),d=.agg (xs.map (·.1))∧cs.length=P.cellsOf T∧xs.length=k∧∀(i off:Nat) (U:TypeId),fm P T i off U→DataW.trod enc P W 0 (fun _=>true) true n U ((cs.drop off).take (P.cellsOf U))=xs[i]? :=by
 have hs:=s.h
 cases hT:P.underlying T with
 |none=>rw[hT]at hs;cases hs
 |some u=>
  rw[hT]at hs
  cases u with
  |struct fs=>
   have hk:fs.size=k:=Option.some.inj hs
   obtain⟨xs,n,_,hx,hl,hn,hf⟩:=DataW.trod_struct hT h
   refine⟨xs,n,(Prod.mk.inj hx).1,hl,by omega,fun i off U F=>?_⟩
   have hF:=F.h
   rw[hT]at hF
   simp only at hF
   cases hg:fs[i]? with
   |none=>rw[hg]at hF;cases hF
   |some f=>
    rw[hg]at hF
    simp only[Option.map_some,Option.some.injEq,Prod.mk.injEq]at hF
    have:=hf i f hg
    rw[hF.1,hF.2]at this
    exact this
  |_=>cases hs
class Mh (P:Program) (T:TypeId):Prop where
 h:∀(w:World) (r:Reach) (base:Nat) (v:Value),Value.okWide P w r base T v→v.cells.toList=[v]
instance{k:IntKind}[t:gw P T k]:Mh P T:=⟨fun w r base v h=>by
 simp only[Value.okWide,t.h,Cell.okWide,Cell.ok]at h
 cases v<;>first|rfl|cases h⟩
instance[t:xZ P T]:Mh P T:=⟨fun w r base v h=>by
 simp only[Value.okWide,t.h,Cell.okWide,Cell.ok]at h
 cases v<;>first|rfl|cases h⟩
instance[t:CV P T]:Mh P T:=⟨fun w r base v h=>by
 simp only[Value.okWide,t.h,Cell.okWide,Cell.ok]at h
 cases v<;>first|rfl|cases h⟩
instance{E:TypeId}{n:Nat}[t:dX P T E n]:Mh P T:=⟨fun w r base v h=>by
 obtain⟨a,l,c,rfl⟩:=WideShapes.okWide_slice t.u h
 rfl⟩
end opn
theorem Mi{f:FuncId}{vs:List Value}{svs:List SV}{W:World}(hp:Pure Try.prog f svs (.v (.bool true)))(h:SV.dz (snap W) svs vs):
  Calls Try.prog f ⟨vs⟩ W fun e w'=>e=.returned (.bool true)∧Below W.heap.size W w':=
 (hp (snap W) W vs (Mf W) h).mono fun _ _ ⟨v,_,h1,_,_,_,h2,h3⟩=>by
  have h2:v=.bool true:=h2
  exact⟨by rw[h1,h2],h3⟩
end Go.Proofs.Ytningmnklfpfjaa
namespace Go.Proofs.Ytningmnklfpfjaa
open Go.Fw Go.RowKit Go.ChangeShapes Go.WideShapes Go.ChangeAt
theorem W6:ownKnob Try.prog.godebug=none:=by kernel_rfl
instance:SZ Try.prog 50 2:=⟨by kernel_rfl⟩
set_option maxRecDepth 100000 in
instance:vo Try.prog 50 eZ (fun(z:Zr)=>(True∧(z.w.length≤9223372036854775807∧∀x1∈z.w,x1<4294967296))) (fun(z:Zr)=>(1+((z.w.map fun x1=>1).sum+1)+1)):=⟨fun enc W fuel cs d p h=>by
 obtain⟨xs,n,rfl,hl,hn,hf⟩:=um h
 have hl:cs.length=2:=hl.trans (by kernel_rfl)
 match xs,hn with
 |[⟨d0,p0⟩,⟨d1,p1⟩],_=>
 match cs,hl with
 |[c0,c1],_=>
 have t0:DataW.trod enc Try.prog W 0 (fun _=>true) true n 4 [c0]=some (d0,p0):=(by have q:=hf 0 _ _ inferInstance;rw[show Try.prog.cellsOf 4=1 by kernel_rfl]at q;exact q)
 obtain⟨x0,a0,b0,e0,s0⟩:=vo.h (P:=Try.prog) (T:=4) (e:=eB) enc W n _ d0 p0 t0
 have t1:DataW.trod enc Try.prog W 0 (fun _=>true) true n 48 [c1]=some (d1,p1):=(by have q:=hf 1 _ _ inferInstance;rw[show Try.prog.cellsOf 48=1 by kernel_rfl]at q;exact q)
 obtain⟨x1,a1,b1,e1,s1⟩:=vo.h (P:=Try.prog) (T:=48) (e:=(eS 1 af)) enc W n _ d1 p1 t1
 refine⟨⟨x0,x1⟩,⟨a0,a1⟩,⟨b0.1,b1.1,trivial⟩,?_,?_⟩
 ·intro v hv;simp only[List.mem_cons,List.not_mem_nil,or_false]at hv;rcases hv with rfl|rfl
  ·exact e0 _ (by simp)
  ·exact e1 _ (by simp)
 ·simp only[List.map_cons,List.map_nil,Rows.uptoBulk,Rows.uptoBulkAll];omega⟩
instance:SZ Try.prog 52 2:=⟨by kernel_rfl⟩
set_option maxRecDepth 100000 in
instance:vo Try.prog 52 eQ (fun(z:Qr)=>((True∧(z.num.w.length≤9223372036854775807∧∀x1∈z.num.w,x1<4294967296))∧(True∧(z.den.w.length≤9223372036854775807∧∀x1∈z.den.w,x1<4294967296)))) (fun(z:Qr)=>((1+((z.num.w.map fun x1=>1).sum+1)+1)+(1+((z.den.w.map fun x1=>1).sum+1)+1)+1)):=⟨fun enc W fuel cs d p h=>by
 obtain⟨xs,n,rfl,hl,hn,hf⟩:=um h
 have hl:cs.length=4:=hl.trans (by kernel_rfl)
 match xs,hn with
 |[⟨d0,p0⟩,⟨d1,p1⟩],_=>
 match cs,hl with
 |[c0,c1,c2,c3],_=>
 have t0:DataW.trod enc Try.prog W 0 (fun _=>true) true n 50 [c0,c1]=some (d0,p0):=(by have q:=hf 0 _ _ inferInstance;rw[show Try.prog.cellsOf 50=2 by kernel_rfl]at q;exact q)
 obtain⟨x0,a0,b0,e0,s0⟩:=vo.h (P:=Try.prog) (T:=50) (e:=eZ) enc W n _ d0 p0 t0
 have t1:DataW.trod enc Try.prog W 0 (fun _=>true) true n 50 [c2,c3]=some (d1,p1):=(by have q:=hf 1 _ _ inferInstance;rw[show Try.prog.cellsOf 50=2 by kernel_rfl]at q;exact q)
 obtain⟨x1,a1,b1,e1,s1⟩:=vo.h (P:=Try.prog) (T:=50) (e:=eZ) enc W n _ d1 p1 t1
 refine⟨⟨x0,x1⟩,⟨a0,a1⟩,⟨b0.1,b0.2.1,b1.1,b1.2.1,trivial⟩,?_,?_⟩
 ·intro v hv;simp only[List.mem_cons,List.not_mem_nil,or_false]at hv;rcases hv with rfl|rfl|rfl|rfl
  ·exact e0 _ (by simp)
  ·exact e0 _ (by simp)
  ·exact e1 _ (by simp)
  ·exact e1 _ (by simp)
 ·simp only[List.map_cons,List.map_nil,Rows.uptoBulk,Rows.uptoBulkAll];omega⟩
instance:SZ Try.prog 30 4:=⟨by kernel_rfl⟩
set_option maxRecDepth 100000 in
instance:vo Try.prog 30 Py (fun(z:Lr)=>((-9223372036854775808≤z.vars∧z.vars≤9223372036854775807)∧(z.vD.length≤9223372036854775807∧∀x1∈z.vD,(x1.length≤9223372036854775807∧∀x2∈x1,((True∧(x2.num.w.length≤9223372036854775807∧∀x3∈x2.num.w,x3<4294967296))∧(True∧(x2.den.w.length≤9223372036854775807∧∀x3∈x2.den.w,x3<4294967296)))))∧(z.rows.length≤9223372036854775807∧∀x1∈z.rows,(x1.length≤9223372036854775807∧∀x2∈x1,((True∧(x2.num.w.length≤9223372036854775807∧∀x3∈x2.num.w,x3<4294967296))∧(True∧(x2.den.w.length≤9223372036854775807∧∀x3∈x2.den.w,x3<4294967296)))))∧(z.bounds.length≤9223372036854775807∧∀x1∈z.bounds,((True∧(x1.num.w.length≤9223372036854775807∧∀x2∈x1.num.w,x2<4294967296))∧(True∧(x1.den.w.length≤9223372036854775807∧∀x2∈x1.den.w,x2<4294967296)))))) (fun(z:Lr)=>(1+((z.vD.map fun x1=>((x1.map fun x2=>((1+((x2.num.w.map fun x3=>1).sum+1)+1)+(1+((x2.den.w.map fun x3=>1).sum+1)+1)+1)).sum+1)).sum+1)+((z.rows.map fun x1=>((x1.map fun x2=>((1+((x2.num.w.map fun x3=>1).sum+1)+1)+(1+((x2.den.w.map fun x3=>1).sum+1)+1)+1)).sum+1)).sum+1)+((z.bounds.map fun x1=>((1+((x1.num.w.map fun x2=>1).sum+1)+1)+(1+((x1.den.w.map fun x2=>1).sum+1)+1)+1)).sum+1)+1)):=⟨fun enc W fuel cs d p h=>by
 obtain⟨xs,n,rfl,hl,hn,hf⟩:=um h
 have hl:cs.length=4:=hl.trans (by kernel_rfl)
 match xs,hn with
 |[⟨d0,p0⟩,⟨d1,p1⟩,⟨d2,p2⟩,⟨d3,p3⟩],_=>
 match cs,hl with
 |[c0,c1,c2,c3],_=>
 have t0:DataW.trod enc Try.prog W 0 (fun _=>true) true n 3 [c0]=some (d0,p0):=(by have q:=hf 0 _ _ inferInstance;rw[show Try.prog.cellsOf 3=1 by kernel_rfl]at q;exact q)
 obtain⟨x0,a0,b0,e0,s0⟩:=vo.h (P:=Try.prog) (T:=3) (e:=bO) enc W n _ d0 p0 t0
 have t1:DataW.trod enc Try.prog W 0 (fun _=>true) true n 27 [c1]=some (d1,p1):=(by have q:=hf 1 _ _ inferInstance;rw[show Try.prog.cellsOf 27=1 by kernel_rfl]at q;exact q)
 obtain⟨x1,a1,b1,e1,s1⟩:=vo.h (P:=Try.prog) (T:=27) (e:=(eS 1 (eS 4 eQ))) enc W n _ d1 p1 t1
 have t2:DataW.trod enc Try.prog W 0 (fun _=>true) true n 27 [c2]=some (d2,p2):=(by have q:=hf 2 _ _ inferInstance;rw[show Try.prog.cellsOf 27=1 by kernel_rfl]at q;exact q)
 obtain⟨x2,a2,b2,e2,s2⟩:=vo.h (P:=Try.prog) (T:=27) (e:=(eS 1 (eS 4 eQ))) enc W n _ d2 p2 t2
 have t3:DataW.trod enc Try.prog W 0 (fun _=>true) true n 28 [c3]=some (d3,p3):=(by have q:=hf 3 _ _ inferInstance;rw[show Try.prog.cellsOf 28=1 by kernel_rfl]at q;exact q)
 obtain⟨x3,a3,b3,e3,s3⟩:=vo.h (P:=Try.prog) (T:=28) (e:=(eS 4 eQ)) enc W n _ d3 p3 t3
 refine⟨⟨x0,x1,x2,x3⟩,⟨a0,a1,a2,a3⟩,⟨b0.1,b1.1,b2.1,b3.1,trivial⟩,?_,?_⟩
 ·intro v hv;simp only[List.mem_cons,List.not_mem_nil,or_false]at hv;rcases hv with rfl|rfl|rfl|rfl
  ·exact e0 _ (by simp)
  ·exact e1 _ (by simp)
  ·exact e2 _ (by simp)
  ·exact e3 _ (by simp)
 ·simp only[List.map_cons,List.map_nil,Rows.uptoBulk,Rows.uptoBulkAll];omega⟩
instance:SZ Try.prog 45 5:=⟨by kernel_rfl⟩
set_option maxRecDepth 100000 in
instance:vo Try.prog 45 qB (fun(z:Tb)=>(True∧(-9223372036854775808≤z.vars∧z.vars≤9223372036854775807)∧(z.vD.length≤9223372036854775807∧∀x1∈z.vD,(x1.length≤9223372036854775807∧∀x2∈x1,((True∧(x2.num.w.length≤9223372036854775807∧∀x3∈x2.num.w,x3<4294967296))∧(True∧(x2.den.w.length≤9223372036854775807∧∀x3∈x2.den.w,x3<4294967296)))))∧(z.basis.length≤9223372036854775807∧∀x1∈z.basis,(-9223372036854775808≤x1∧x1≤9223372036854775807))∧(z.rows.length≤9223372036854775807∧∀x1∈z.rows,(x1.length≤9223372036854775807∧∀x2∈x1,((True∧(x2.num.w.length≤9223372036854775807∧∀x3∈x2.num.w,x3<4294967296))∧(True∧(x2.den.w.length≤9223372036854775807∧∀x3∈x2.den.w,x3<4294967296))))))) (fun(z:Tb)=>(1+1+((z.vD.map fun x1=>((x1.map fun x2=>((1+((x2.num.w.map fun x3=>1).sum+1)+1)+(1+((x2.den.w.map fun x3=>1).sum+1)+1)+1)).sum+1)).sum+1)+((z.basis.map fun x1=>1).sum+1)+((z.rows.map fun x1=>((x1.map fun x2=>((1+((x2.num.w.map fun x3=>1).sum+1)+1)+(1+((x2.den.w.map fun x3=>1).sum+1)+1)+1)).sum+1)).sum+1)+1)):=⟨fun enc W fuel cs d p h=>by
 obtain⟨xs,n,rfl,hl,hn,hf⟩:=um h
 have hl:cs.length=5:=hl.trans (by kernel_rfl)
 match xs,hn with
 |[⟨d0,p0⟩,⟨d1,p1⟩,⟨d2,p2⟩,⟨d3,p3⟩,⟨d4,p4⟩],_=>
 match cs,hl with
 |[c0,c1,c2,c3,c4],_=>
 have t0:DataW.trod enc Try.prog W 0 (fun _=>true) true n 4 [c0]=some (d0,p0):=(by have q:=hf 0 _ _ inferInstance;rw[show Try.prog.cellsOf 4=1 by kernel_rfl]at q;exact q)
 obtain⟨x0,a0,b0,e0,s0⟩:=vo.h (P:=Try.prog) (T:=4) (e:=eB) enc W n _ d0 p0 t0
 have t1:DataW.trod enc Try.prog W 0 (fun _=>true) true n 3 [c1]=some (d1,p1):=(by have q:=hf 1 _ _ inferInstance;rw[show Try.prog.cellsOf 3=1 by kernel_rfl]at q;exact q)
 obtain⟨x1,a1,b1,e1,s1⟩:=vo.h (P:=Try.prog) (T:=3) (e:=bO) enc W n _ d1 p1 t1
 have t2:DataW.trod enc Try.prog W 0 (fun _=>true) true n 27 [c2]=some (d2,p2):=(by have q:=hf 2 _ _ inferInstance;rw[show Try.prog.cellsOf 27=1 by kernel_rfl]at q;exact q)
 obtain⟨x2,a2,b2,e2,s2⟩:=vo.h (P:=Try.prog) (T:=27) (e:=(eS 1 (eS 4 eQ))) enc W n _ d2 p2 t2
 have t3:DataW.trod enc Try.prog W 0 (fun _=>true) true n 33 [c3]=some (d3,p3):=(by have q:=hf 3 _ _ inferInstance;rw[show Try.prog.cellsOf 33=1 by kernel_rfl]at q;exact q)
 obtain⟨x3,a3,b3,e3,s3⟩:=vo.h (P:=Try.prog) (T:=33) (e:=(eS 1 bO)) enc W n _ d3 p3 t3
 have t4:DataW.trod enc Try.prog W 0 (fun _=>true) true n 27 [c4]=some (d4,p4):=(by have q:=hf 4 _ _ inferInstance;rw[show Try.prog.cellsOf 27=1 by kernel_rfl]at q;exact q)
 obtain⟨x4,a4,b4,e4,s4⟩:=vo.h (P:=Try.prog) (T:=27) (e:=(eS 1 (eS 4 eQ))) enc W n _ d4 p4 t4
 refine⟨⟨x0,x1,x2,x3,x4⟩,⟨a0,a1,a2,a3,a4⟩,⟨b0.1,b1.1,b2.1,b3.1,b4.1,trivial⟩,?_,?_⟩
 ·intro v hv;simp only[List.mem_cons,List.not_mem_nil,or_false]at hv;rcases hv with rfl|rfl|rfl|rfl|rfl
  ·exact e0 _ (by simp)
  ·exact e1 _ (by simp)
  ·exact e2 _ (by simp)
  ·exact e3 _ (by simp)
  ·exact e4 _ (by simp)
 ·simp only[List.map_cons,List.map_nil,Rows.uptoBulk,Rows.uptoBulkAll];omega⟩
instance:SZ Try.prog 63 4:=⟨by kernel_rfl⟩
set_option maxRecDepth 100000 in
instance:vo Try.prog 63 WT (fun(z:Sz)=>((-9223372036854775808≤z.vars∧z.vars≤9223372036854775807)∧(-9223372036854775808≤z.vD∧z.vD≤9223372036854775807)∧(-9223372036854775808≤z.rows∧z.rows≤9223372036854775807)∧(-9223372036854775808≤z.bounds∧z.bounds≤9223372036854775807))) (fun(z:Sz)=>(1+1+1+1+1)):=⟨fun enc W fuel cs d p h=>by
 obtain⟨xs,n,rfl,hl,hn,hf⟩:=um h
 have hl:cs.length=4:=hl.trans (by kernel_rfl)
 match xs,hn with
 |[⟨d0,p0⟩,⟨d1,p1⟩,⟨d2,p2⟩,⟨d3,p3⟩],_=>
 match cs,hl with
 |[c0,c1,c2,c3],_=>
 have t0:DataW.trod enc Try.prog W 0 (fun _=>true) true n 3 [c0]=some (d0,p0):=(by have q:=hf 0 _ _ inferInstance;rw[show Try.prog.cellsOf 3=1 by kernel_rfl]at q;exact q)
 obtain⟨x0,a0,b0,e0,s0⟩:=vo.h (P:=Try.prog) (T:=3) (e:=bO) enc W n _ d0 p0 t0
 have t1:DataW.trod enc Try.prog W 0 (fun _=>true) true n 3 [c1]=some (d1,p1):=(by have q:=hf 1 _ _ inferInstance;rw[show Try.prog.cellsOf 3=1 by kernel_rfl]at q;exact q)
 obtain⟨x1,a1,b1,e1,s1⟩:=vo.h (P:=Try.prog) (T:=3) (e:=bO) enc W n _ d1 p1 t1
 have t2:DataW.trod enc Try.prog W 0 (fun _=>true) true n 3 [c2]=some (d2,p2):=(by have q:=hf 2 _ _ inferInstance;rw[show Try.prog.cellsOf 3=1 by kernel_rfl]at q;exact q)
 obtain⟨x2,a2,b2,e2,s2⟩:=vo.h (P:=Try.prog) (T:=3) (e:=bO) enc W n _ d2 p2 t2
 have t3:DataW.trod enc Try.prog W 0 (fun _=>true) true n 3 [c3]=some (d3,p3):=(by have q:=hf 3 _ _ inferInstance;rw[show Try.prog.cellsOf 3=1 by kernel_rfl]at q;exact q)
 obtain⟨x3,a3,b3,e3,s3⟩:=vo.h (P:=Try.prog) (T:=3) (e:=bO) enc W n _ d3 p3 t3
 refine⟨⟨x0,x1,x2,x3⟩,⟨a0,a1,a2,a3⟩,⟨b0.1,b1.1,b2.1,b3.1,trivial⟩,?_,?_⟩
 ·intro v hv;simp only[List.mem_cons,List.not_mem_nil,or_false]at hv;rcases hv with rfl|rfl|rfl|rfl
  ·exact e0 _ (by simp)
  ·exact e1 _ (by simp)
  ·exact e2 _ (by simp)
  ·exact e3 _ (by simp)
 ·simp only[List.map_cons,List.map_nil,Rows.uptoBulk,Rows.uptoBulkAll];omega⟩
end Go.Proofs.Ytningmnklfpfjaa
namespace Go.Fw
open Go.RowKit
theorem vF{S:AS}(i o k:Nat)(E0:TypeId)(sz:Nat){T:TypeId}{cells:List AV}(hb:S.b i=some ⟨T,cells⟩)(hc:cells[o]? =some (.sv (.v (.slice none 0 0))))(hk:S.r k=.un)(TE:k<1000):
  qm S ((AS.bf [(k,.live ⟨E0,sz,0,[]⟩)] S).ja i ⟨T,cells.set o (.row k)⟩):=by
 rintro C a w ⟨E,h⟩
 have h1:=h.newRow hk TE [] none (.inl ⟨rfl,rfl⟩) (R':=⟨E0,sz,0,[]⟩) (World.ownsRow_nil w 0 E0 sz) (vs':=[]) trivial (.inl rfl) (oX w none)
 have wV:(AS.bf [(k,.live ⟨E0,sz,0,[]⟩)] S).b i=some ⟨T,cells⟩:=hb
 have hrk:(AS.bf [(k,.live ⟨E0,sz,0,[]⟩)] S).r k≠ .un:=by
  show(AS.nE S k _).r k≠_
  rw[AS.fW];simp
 refine⟨_,{h1 with wf:=?_,bx:=fun j B hB=>?_,inj:=fun j j' B B' hB ey e=>?_,rx:=fun j R hR=>?_}⟩
 ·refine⟨fun t j hj=>?_,h1.wf.tr,fun j B hB x hx m hm=>?_,fun j B hB x hx m hm=>?_⟩
  ·obtain⟨B,hB⟩:=h1.wf.tb t j hj
   by_cases e:j=i
   ·subst e;exact⟨_,AS.bW _ _ _⟩
   ·exact⟨B,by rw[AS.aS _ _ _ _ e];exact hB⟩
  ·have key:∃B',(AS.bf [(k,.live ⟨E0,sz,0,[]⟩)] S).b m=some B':=by
    by_cases e:j=i
    ·subst e;rw[AS.bW]at hB;cases hB
     rcases List.mem_or_eq_of_mem_set hx with hx|rfl
     ·exact h1.wf.bb j _ wV x hx m hm
     ·exact hm.elim
    ·rw[AS.aS _ _ _ _ e]at hB;exact h1.wf.bb j B hB x hx m hm
   obtain⟨B',ey⟩:=key
   by_cases e:m=i
   ·subst e;exact⟨_,AS.bW _ _ _⟩
   ·exact⟨B',by rw[AS.aS _ _ _ _ e];exact ey⟩
  ·by_cases e:j=i
   ·subst e;rw[AS.bW]at hB;cases hB
    rcases List.mem_or_eq_of_mem_set hx with hx|rfl
    ·exact h1.wf.br j _ wV x hx m hm
    ·cases hm;exact hrk
   ·rw[AS.aS _ _ _ _ e]at hB;exact h1.wf.br j B hB x hx m hm
 ·by_cases e:j=i
  ·subst e;rw[AS.bW]at hB;cases hB
   obtain⟨q1,q2,q3,vs,q4,q5⟩:=h1.bx j _ wV
   refine⟨q1,q2,q3,vs,q4,?_⟩
   obtain⟨x,hx,hv⟩:=q5.get hc
   have hv:x=.slice none 0 0:=hv
   have:=cu.set (i:=o) (s:=.row k) (x:=x) q5 (by
    show x=if k=k then _ else _
    rw[if_pos rfl];exact hv)
   have he:vs.set o x=vs:=by
    apply List.ext_getElem?
    intro n
    rw[List.getElem?_set]
    split
    ·rename_i hn;subst hn;rw[hx];split<;>rename_i hl
     ·rfl
     ·have:=(List.getElem?_eq_some_iff.1 hx).1;exact absurd this hl
    ·rfl
   rwa[he]at this
  ·rw[AS.aS _ _ _ _ e]at hB;exact h1.bx j B hB
 ·have old:∀n B,((AS.bf [(k,.live ⟨E0,sz,0,[]⟩)] S).ja i ⟨T,cells.set o (.row k)⟩).b n=some B→∃B',(AS.bf [(k,.live ⟨E0,sz,0,[]⟩)] S).b n=some B':=fun n B hn=>by
   by_cases e:n=i
   ·subst e;exact⟨_,wV⟩
   ·rw[AS.aS _ _ _ _ e]at hn;exact⟨B,hn⟩
  obtain⟨B1,p1⟩:=old j B hB
  obtain⟨B2,p2⟩:=old j' B' ey
  exact h1.inj j j' B1 B2 p1 p2 e
 ·obtain⟨p1,p2⟩:=h1.rx j R hR
  refine⟨p1,fun g hg=>?_⟩
  obtain⟨p3,p4,p5,p6⟩:=p2 g hg
  refine⟨p3,p4,p5,fun n B hn=>?_⟩
  by_cases e:n=i
  ·subst e;exact p6 n _ wV
  ·rw[AS.aS _ _ _ _ e]at hn;exact p6 n B hn
end Go.Fw
namespace Go.Fw
open Go.RowKit
section part
variable {P:Program}{C:Ctx}{ops:Array Oper}{acts:List Ac}{S:AS}
theorem ua(listed:Array Bool)(i:Nat)(hs:listed.size=ops.size)(hi:i<ops.size):listed.getD i true=listed.getD i false:=by
 rw[Array.getD_eq_getD_getElem?,Array.getD_eq_getD_getElem?]
 rw[Array.getElem?_eq_getElem (by omega)];rfl
end part
end Go.Fw
namespace Go.Fw
open Go.RowKit
instance{g:FuncId}{caps:List SV}:One (gP g caps):=⟨fun _ _ h=>by obtain⟨vs,rfl,_⟩:=h;rfl⟩
section steps
variable {P:Program}{C:Ctx}{ops:Array Oper}{S:AS}{nd:Bool}{K:List Ac→AS→Prop}{rest:List Oper}{acc:List Ac}
variable {gd:Option (Nat×Bool)}{rg:List Nat}{d:Nat}{ty:TypeId}{pos:String}{aft:Array Edge}{x y z:Operand}{T U E0:TypeId}
theorem RT.rS(hg:Gd ops S gd rg){g:FuncId}{xs:Array Operand}{caps:List SV}(hc:fj S xs.toList caps)(hd:d<S.n)
  (next:RunT P C ops nd K rest (⟨rg++xs.toList.flatMap ak,[],[],⟨some (d,.sv (gP g caps)),[],[]⟩⟩::acc) (S.set d (.sv (gP g caps)))):RunT P C ops nd K (⟨some d,.makeFunc (.func g) #[] xs,ty,pos,aft,gd⟩::rest) acc S:=
 RT.value hg (xs.toList.flatMap ak) [] [] (.sv (gP g caps)) hd (by intro c h;cases h) (fun S' ht _ _ E a w h=>by
  have h1:=fj.vals h hc ht
  refine⟨.func (.func g) #[] ⟨xs.toList.map a.eval⟩,?_,⟨_,rfl,h1⟩,dY⟩
  have e2:xs.map a.eval=⟨xs.toList.map a.eval⟩:=by apply Array.ext';simp
  simp[execOp,Instr.makeFunc,e2]) next
theorem RT.NR(hg:Gd ops S gd rg){f:FuncId}[dj P f]{g:Operand}{xs:Array Operand}{at_:Array TypeId}{args caps:List SV}{r:SV}(hp:Pure P f (args++caps) r)(hf:S.ev g=.sv (gP f caps))(hargs:fj S xs.toList args)(hd:d<S.n)
  (next:RunT P C ops nd K rest (⟨rg++(ak g++xs.toList.flatMap ak),[],[],⟨some (d,.sv r),[],[]⟩⟩::acc) (S.set d (.sv r))):RunT P C ops nd K (⟨some d,.call ⟨.value g,xs,at_⟩,ty,pos,aft,gd⟩::rest) acc S:=by
 refine .inl ⟨_,[],[],_,?_,next⟩
 rintro S' hn ht _ _ i a w L Q ho ⟨E,h⟩ hL
 refine bD (C:=C) ho (hg.wanted h (fun s hs=>ht s (List.mem_append_left _ hs)) rfl) ?_
 have qt:(gP f caps).h E.M (a.eval g):=by
  have h1:=h.ev g;rw[aE (fun _ h=>List.mem_append_right _ (List.mem_append_left _ h)) ht,hf]at h1;exact h1
 obtain⟨nf,qt,Ag⟩:=qt
 have hall:=SV.dz.append (fj.vals h hargs (fun s hs=>ht s (List.mem_append_right _ (List.mem_append_right _ hs)))) Ag
 have hr:(execOp a.eval ⟨some d,.call ⟨.value g,xs,at_⟩,ty,pos,aft,gd⟩).run P w=.ok (.enter f ⟨xs.toList.map a.eval++nf⟩) w:=by
  have e2:xs.map a.eval++⟨nf⟩=⟨xs.toList.map a.eval++nf⟩:=by apply Array.ext';simp
  have e1:=dj.run (P:=P) (f:=f) (xs.map a.eval++⟨nf⟩) w
  rw[←e2]
  simp[execOp,resolve,qt,Deferred.ofValue,invoke,e1]
 refine bB (C:=C) (by intro c h;cases h) hr ?_
 refine⟨fun h=>by simp at h,fu ((hp E.M w _ h.cm hall).mono ?_)⟩
 rintro e w' ⟨v,M',rfl,hM,hnew,hin,hv,hb⟩
 exact hL _ _ ⟨_,(h.grow hM hnew hin hb).put (x:=.sv r) hv (by show d<S'.n;omega) dY⟩
end steps
end Go.Fw
namespace Go.Fw.Z
open Go.Fw
theorem T{d n:Nat}(h:Nat.ble (d+1) n=true:=by exact rfl):d<n:=tl h
theorem bE{α β:Type}{x:Option α}{f:α→Option β}{r:β}{G:Prop}(h:Option.bind x f=some r)(k:∀a,x=some a→f a=some r→G):G:=by obtain⟨a,h1,h2⟩:=bind_some h;exact k a h1 h2
theorem lE{α β:Type}{v:α}{f:α→Option β}{r:β}{G:Prop}(h:Option.bind (some v) f=some r)(k:∀a,v=a→f a=some r→G):G:=k v rfl h
theorem bS{α β:Type}{x:Option α}{f:α→Option β}{r:β}(h:Option.bind x f=some r):∃a,x=some a∧f a=some r:=bind_some h
theorem F{α:Type}{x y:Option α}{r:α}(h:(bif false then x else y)=some r):y=some r:=h
theorem V{α:Type}{x y:Option α}{r:α}(h:(bif true then x else y)=some r):x=some r:=h
theorem O{α:Type}{a b:α}(h:some a=some b):a=b:=Option.some.inj h
def wH(l:List (Nat×Nat))(i:Nat):Nat:=((l.find? fun p=>Nat.beq p.1 i).map (·.2)).getD i
def VV(l:List (Nat×Nat)):AV→AV
 |.row i=>.row (wH l i)
 |.lJ i o n=>.lJ (wH l i) o n
 |x=>x
def VW:AV→Bool
 |.ic _ _=>false
 |.cmp _ _=>false
 |_=>true
theorem avi(l:List (Nat×Nat)){x:AV}(h:VW x=true):GQ (wH l) (VV l x) x:=by
 cases x with
 |sv s=>exact .sv (SV.aa _)
 |ptr i o=>exact .ptr
 |BF i o n c=>exact .BF
 |row i=>exact .row rfl
 |ic i k=>cases h
 |lJ i o n=>exact .lJ rfl
 |dV g js=>exact .dV
 |cmp t js=>cases h
theorem TU(l:List (Nat×Nat)):∀{xs:List AV},(xs.all VW)=true→ED (wH l) (xs.map (VV l)) xs
 |[],_=>trivial
 |x::xs,h=>by simp only[List.all_cons,Bool.and_eq_true]at h;exact⟨avi l h.1,TU l h.2⟩
theorem wR(l:List (Nat×Nat)){S:AS}{n:Nat}{ts:List (Nat×AV)}{bs:List (Nat×l7)}{rs:List (Nat×Row)}{g:Nat}{go:Bool}
  (ht:ts.map (fun p=>S.t p.1)=ts.map (fun p=>VV l p.2):=by exact rfl) (hb:bs.map (fun p=>S.b p.1)=bs.map (fun p=>some ⟨p.2.T,p.2.cells.map (VV l)⟩):=by exact rfl) (hr:rs.map (fun p=>S.r (wH l p.1))=rs.map (fun p=>.live p.2):=by exact rfl)
  (hn:S.n=n:=by exact rfl) (hg:S.g=g:=by exact rfl) (LY:S.go=go:=by exact rfl)
  (hwf:((ts.all fun p=>p.2.nG bs rs)&&(bs.all fun p=>p.2.cells.all fun x=>x.nG bs rs))=true:=by exact rfl) (hσ:((rs.all fun p=>rs.all fun q=>!(Nat.beq (wH l p.1) (wH l q.1))||Nat.beq p.1 q.1))=true:=by exact rfl)
  (hno:((ts.all fun p=>VW p.2)&&(bs.all fun p=>p.2.cells.all VW))=true:=by exact rfl) (hl:(l.all fun p=>Nat.ble (p.1+1) 1000)=true:=by exact rfl):qm S (AS.bR n ts bs rs g go):=by
 simp only[Bool.and_eq_true,List.all_eq_true]at hno
 refine dm (wH l) hn hg LY hwf hσ ?_ ?_ ?_ ?_
 ·clear hwf hb hr
  obtain⟨h,-⟩:=hno
  induction ts with
  |nil=>trivial
  |cons p ts ih=>
   obtain⟨k,x⟩:=p
   simp only[List.map_cons,List.cons.injEq]at ht
   refine⟨?_,ih ht.2 (fun q hq=>h q (by simp[hq]))⟩
   show GQ _ (S.t k) x
   rw[ht.1];exact avi l (h (k,x) (by simp))
 ·clear hwf ht hr
  obtain⟨-,h⟩:=hno
  induction bs with
  |nil=>trivial
  |cons p bs ih=>
   obtain⟨k,x⟩:=p
   simp only[List.map_cons,List.cons.injEq]at hb
   exact⟨⟨_,hb.1,TU l (List.all_eq_true.2 (h (k,x) (by simp)))⟩,ih hb.2 (fun q hq=>h q (by simp[hq]))⟩
 ·clear hwf ht hb hσ
  induction rs with
  |nil=>trivial
  |cons p rs ih=>
   obtain⟨k,x⟩:=p
   simp only[List.map_cons,List.cons.injEq]at hr
   exact⟨⟨_,hr.1,bT.refl _⟩,ih hr.2⟩
 ·intro i hi
  unfold wH
  have:l.find? (fun p=>Nat.beq p.1 i)=none:=by
   rw[List.find?_eq_none]
   intro p hp e
   have h1:=Nat.le_of_ble_eq_true (List.all_eq_true.1 hl p hp)
   have h2:=Nat.eq_of_beq_eq_true e
   omega
  rw[this];rfl
section
variable {P:Program}{C:Ctx}{S:AS}{Q:Exit→AS→Prop}
theorem qq{x y:Code}(h:Ok P C x S (ae (fun S'=>Ok P C y S' Q) Q)):Ok P C (.seq x y) S Q:=aP h
theorem sr{id:Nat}{ops:Array Oper}{y:Code}(h:RunT P C ops true (fun _ S=>ae (fun S'=>Ok P C y S' Q) Q .normal S) ops.toList [] S):Ok P C (.seq (.region id ops false) y) S Q:=aP (ah h)
theorem dn{ops:Array Oper}{acc:List Ac}{next:AS→Prop}(h:next S):RunT P C ops true (fun _ S=>ae next Q .normal S) [] acc S:=h
theorem cF{c:Operand}{x y:Code}(hf:Ok P C y S Q)(hc:S.ev c=.sv (.v (.bool false)):=by exact rfl):Ok P C (.cond c x y) S Q:=eE hc hf
theorem cT{c:Operand}{x y:Code}(ht:Ok P C x S Q)(hc:S.ev c=.sv (.v (.bool true)):=by exact rfl):Ok P C (.cond c x y) S Q:=cE hc ht
theorem fs{c:Operand}{x:Code}{next:AS→Prop}(h:next S)(hc:S.ev c=.sv (.v (.bool false)):=by exact rfl):Ok P C (.cond c x .skip) S (ae next Q):=eE hc (aG h)
theorem R1{A:Prop}{e:Exit}{t:Nat}{s:SV}(h:S.t t=.sv s):(A∨e=e)∧Io P S [.tmp t] s:=⟨.inr rfl,fT (.tmp h .nil) (SV.aa _)⟩
theorem R2{A:Prop}{e:Exit}{t u:Nat}{s s':SV}(h:S.t t=.sv s)(h':S.t u=.sv s'):(A∨e=e)∧Io P S [.tmp t,.tmp u] (.sN [s,s']):=⟨.inr rfl,fT (.tmp h (.tmp h' .nil)) (SV.aa _)⟩
theorem RZ{A:Prop}{e:Exit}{rs:List ResultVar}{ss:List SV}{r:SV}(h:HW P S rs ss)(h':SV.imp (IA ss) r:=by exact SV.aa _):(A∨e=e)∧Io P S rs r:=⟨.inr rfl,fT h h'⟩
end
section
variable {P:Program}{C:Ctx}{ops:Array Oper}{S:AS}{nd:Bool}{K:List Ac→AS→Prop}{rest:List Oper}{acc:List Ac}
variable {gd:Option (Nat×Bool)}{rg:List Nat}{d:Nat}{ty:TypeId}{pos:String}{aft:Array Edge}{x y z:Operand}{T U:TypeId}{k:IntKind}{p q:Int}
theorem pF{s:SV}(hz:S.ev z=.sv s)(next:RunT P C ops nd K rest (⟨[]++(ak x++ak z),[],[],⟨some (d,.sv s),[],[]⟩⟩::acc) (S.set d (.sv s)))(hx:S.ev x=.sv (.v (.bool false)):=by exact rfl)(hd:d<S.n:=by exact tl rfl):RunT P C ops nd K (⟨some d,.pick x y z,ty,pos,aft,none⟩::rest) acc S:=
 RT.NB .none hx hz hd next
theorem pT{s:SV}(hy:S.ev y=.sv s)(next:RunT P C ops nd K rest (⟨[]++(ak x++ak y),[],[],⟨some (d,.sv s),[],[]⟩⟩::acc) (S.set d (.sv s)))(hx:S.ev x=.sv (.v (.bool true)):=by exact rfl)(hd:d<S.n:=by exact tl rfl):RunT P C ops nd K (⟨some d,.pick x y z,ty,pos,aft,none⟩::rest) acc S:=
 RT.NA .none hx hy hd next
theorem mo{s:AV}(hx:S.ev x=s)(next:RunT P C ops nd K rest (⟨[]++ak x,[],[],⟨some (d,s),[],[]⟩⟩::acc) (S.set d s))(hd:d<S.n:=by exact tl rfl):RunT P C ops nd K (⟨some d,.move x,ty,pos,aft,none⟩::rest) acc S:=
 RT.move .none hx hd next
theorem ad(c:Int)(hx:S.ev x=.sv (.v (.int k p)))(hy:S.ev y=.sv (.v (.int k q)))(hc:k.wrap (p+q)=c)(next:RunT P C ops nd K rest (⟨[]++(ak x++ak y),[],[],⟨some (d,.sv (.v (.int k c))),[],[]⟩⟩::acc) (S.set d (.sv (.v (.int k c)))))(hd:d<S.n:=by exact tl rfl):RunT P C ops nd K (⟨some d,.binOp .add T x y U,ty,pos,aft,none⟩::rest) acc S:=
 RT.add .none c hx hy hd hc next
theorem cv{j:IntKind}[tT:gw P T j][tU:gw P U k](c:Int){k':IntKind}(hx:S.ev x=.sv (.v (.int k' p)))(hc:k.wrap p=c)(next:RunT P C ops nd K rest (⟨[]++ak x,[],[],⟨some (d,.sv (.v (.int k c))),[],[]⟩⟩::acc) (S.set d (.sv (.v (.int k c)))))(hd:d<S.n:=by exact tl rfl):RunT P C ops nd K (⟨some d,.convert T U x,ty,pos,aft,none⟩::rest) acc S:=
 RT.conv .none c hx hd hc next
theorem ls(c:Bool)(hx:S.ev x=.sv (.v (.int k p)))(hy:S.ev y=.sv (.v (.int k q)))(hc:decide (p<q)=c)(next:RunT P C ops nd K rest (⟨[]++(ak x++ak y),[],[],⟨some (d,.sv (.v (.bool c))),[],[]⟩⟩::acc) (S.set d (.sv (.v (.bool c)))))(hd:d<S.n:=by exact tl rfl):RunT P C ops nd K (⟨some d,.binOp .lss T x y U,ty,pos,aft,none⟩::rest) acc S:=
 RT.lss .none c hx hy hd hc next
theorem sb(c:Int)(hx:S.ev x=.sv (.v (.int k p)))(hy:S.ev y=.sv (.v (.int k q)))(hc:k.wrap (p-q)=c)(next:RunT P C ops nd K rest (⟨[]++(ak x++ak y),[],[],⟨some (d,.sv (.v (.int k c))),[],[]⟩⟩::acc) (S.set d (.sv (.v (.int k c)))))(hd:d<S.n:=by exact tl rfl):RunT P C ops nd K (⟨some d,.binOp .sub T x y U,ty,pos,aft,none⟩::rest) acc S:=
 RT.sub .none c hx hy hd hc next
theorem an{s:AV}(hx:S.ev x=s)(next:RunT P C ops nd K rest (⟨[]++ak x,[],[],⟨some (d,s),[],[]⟩⟩::acc) (S.set d s))(hd:d<S.n:=by exact tl rfl):RunT P C ops nd K (⟨some d,.assign x,ty,pos,aft,none⟩::rest) acc S:=
 RT.assign .none hx hd next
theorem gt(c:Bool)(hx:S.ev x=.sv (.v (.int k p)))(hy:S.ev y=.sv (.v (.int k q)))(hc:decide (q<p)=c)(next:RunT P C ops nd K rest (⟨[]++(ak x++ak y),[],[],⟨some (d,.sv (.v (.bool c))),[],[]⟩⟩::acc) (S.set d (.sv (.v (.bool c)))))(hd:d<S.n:=by exact tl rfl):RunT P C ops nd K (⟨some d,.binOp .gtr T x y U,ty,pos,aft,none⟩::rest) acc S:=
 RT.gtr .none c hx hy hd hc next
theorem eq(c:Bool)(hx:S.ev x=.sv (.v (.int k p)))(hy:S.ev y=.sv (.v (.int k q)))(hc:(p==q)=c)(next:RunT P C ops nd K rest (⟨[]++(ak x++ak y),[],[],⟨some (d,.sv (.v (.bool c))),[],[]⟩⟩::acc) (S.set d (.sv (.v (.bool c)))))(hd:d<S.n:=by exact tl rfl):RunT P C ops nd K (⟨some d,.binOp .eql T x y U,ty,pos,aft,none⟩::rest) acc S:=
 RT.eql .none c hx hy hd hc next
theorem ne(c:Bool)(hx:S.ev x=.sv (.v (.int k p)))(hy:S.ev y=.sv (.v (.int k q)))(hc:(p != q)=c)(next:RunT P C ops nd K rest (⟨[]++(ak x++ak y),[],[],⟨some (d,.sv (.v (.bool c))),[],[]⟩⟩::acc) (S.set d (.sv (.v (.bool c)))))(hd:d<S.n:=by exact tl rfl):RunT P C ops nd K (⟨some d,.binOp .neq T x y U,ty,pos,aft,none⟩::rest) acc S:=
 RT.neq .none c hx hy hd hc next
theorem ge(c:Bool)(hx:S.ev x=.sv (.v (.int k p)))(hy:S.ev y=.sv (.v (.int k q)))(hc:decide (q≤p)=c)(next:RunT P C ops nd K rest (⟨[]++(ak x++ak y),[],[],⟨some (d,.sv (.v (.bool c))),[],[]⟩⟩::acc) (S.set d (.sv (.v (.bool c)))))(hd:d<S.n:=by exact tl rfl):RunT P C ops nd K (⟨some d,.binOp .geq T x y U,ty,pos,aft,none⟩::rest) acc S:=
 RT.geq .none c hx hy hd hc next
theorem nt{b:Bool}(hx:S.ev x=.sv (.v (.bool b)))(c:Bool)(hc:(!b)=c)(next:RunT P C ops nd K rest (⟨[]++ak x,[],[],⟨some (d,.sv (.v (.bool c))),[],[]⟩⟩::acc) (S.set d (.sv (.v (.bool c)))))(hd:d<S.n:=by exact tl rfl):RunT P C ops nd K (⟨some d,.unOp .not T x,ty,pos,aft,none⟩::rest) acc S:=
 RT.not .none hx hd c hc next
theorem gF{j_ g_:Nat}{eK:Bool}{s:SV}(hz:S.ev z=.sv s)(next:RunT P C ops nd K rest (⟨[g_]++(ak x++ak z),[],[],⟨some (d,.sv s),[],[]⟩⟩::acc) (S.set d (.sv s)))(Au:(ops[j_]?).bind (·.dst)=some g_:=by exact rfl)(Av:S.t g_=.sv (.v (.bool eK)):=by exact rfl)(hx:S.ev x=.sv (.v (.bool false)):=by exact rfl)(hd:d<S.n:=by exact tl rfl):RunT P C ops nd K (⟨some d,.pick x y z,ty,pos,aft,some (j_,eK)⟩::rest) acc S:=
 RT.NB (.some Au Av) hx hz hd next
theorem gT{j_ g_:Nat}{eK:Bool}{s:SV}(hy:S.ev y=.sv s)(next:RunT P C ops nd K rest (⟨[g_]++(ak x++ak y),[],[],⟨some (d,.sv s),[],[]⟩⟩::acc) (S.set d (.sv s)))(Au:(ops[j_]?).bind (·.dst)=some g_:=by exact rfl)(Av:S.t g_=.sv (.v (.bool eK)):=by exact rfl)(hx:S.ev x=.sv (.v (.bool true)):=by exact rfl)(hd:d<S.n:=by exact tl rfl):RunT P C ops nd K (⟨some d,.pick x y z,ty,pos,aft,some (j_,eK)⟩::rest) acc S:=
 RT.NA (.some Au Av) hx hy hd next
theorem gq{j_ g_:Nat}{eK:Bool}(c:Bool)(hx:S.ev x=.sv (.v (.int k p)))(hy:S.ev y=.sv (.v (.int k q)))(hc:(p != q)=c)(next:RunT P C ops nd K rest (⟨[g_]++(ak x++ak y),[],[],⟨some (d,.sv (.v (.bool c))),[],[]⟩⟩::acc) (S.set d (.sv (.v (.bool c)))))(Au:(ops[j_]?).bind (·.dst)=some g_:=by exact rfl)(Av:S.t g_=.sv (.v (.bool eK)):=by exact rfl)(hd:d<S.n:=by exact tl rfl):RunT P C ops nd K (⟨some d,.binOp .neq T x y U,ty,pos,aft,some (j_,eK)⟩::rest) acc S:=
 RT.neq (.some Au Av) c hx hy hd hc next
theorem gg{j_ g_:Nat}{eK:Bool}(c:Bool)(hx:S.ev x=.sv (.v (.int k p)))(hy:S.ev y=.sv (.v (.int k q)))(hc:decide (q<p)=c)(next:RunT P C ops nd K rest (⟨[g_]++(ak x++ak y),[],[],⟨some (d,.sv (.v (.bool c))),[],[]⟩⟩::acc) (S.set d (.sv (.v (.bool c)))))(Au:(ops[j_]?).bind (·.dst)=some g_:=by exact rfl)(Av:S.t g_=.sv (.v (.bool eK)):=by exact rfl)(hd:d<S.n:=by exact tl rfl):RunT P C ops nd K (⟨some d,.binOp .gtr T x y U,ty,pos,aft,some (j_,eK)⟩::rest) acc S:=
 RT.gtr (.some Au Av) c hx hy hd hc next
theorem TV{j_ g_:Nat}{eK:Bool}(c:Bool)(hx:S.ev x=.sv (.v (.int k p)))(hy:S.ev y=.sv (.v (.int k q)))(hc:(p==q)=c)(next:RunT P C ops nd K rest (⟨[g_]++(ak x++ak y),[],[],⟨some (d,.sv (.v (.bool c))),[],[]⟩⟩::acc) (S.set d (.sv (.v (.bool c)))))(Au:(ops[j_]?).bind (·.dst)=some g_:=by exact rfl)(Av:S.t g_=.sv (.v (.bool eK)):=by exact rfl)(hd:d<S.n:=by exact tl rfl):RunT P C ops nd K (⟨some d,.binOp .eql T x y U,ty,pos,aft,some (j_,eK)⟩::rest) acc S:=
 RT.eql (.some Au Av) c hx hy hd hc next
theorem PG{j_ g_:Nat}{eK:Bool}{b:Bool}(hx:S.ev x=.sv (.v (.bool b)))(c:Bool)(hc:(!b)=c)(next:RunT P C ops nd K rest (⟨[g_]++ak x,[],[],⟨some (d,.sv (.v (.bool c))),[],[]⟩⟩::acc) (S.set d (.sv (.v (.bool c)))))(Au:(ops[j_]?).bind (·.dst)=some g_:=by exact rfl)(Av:S.t g_=.sv (.v (.bool eK)):=by exact rfl)(hd:d<S.n:=by exact tl rfl):RunT P C ops nd K (⟨some d,.unOp .not T x,ty,pos,aft,some (j_,eK)⟩::rest) acc S:=
 RT.not (.some Au Av) hx hd c hc next
end
section
variable {P:Program}{C:Ctx}{ops:Array Oper}{S:AS}{nd:Bool}{K:List Ac→AS→Prop}{rest:List Oper}{acc:List Ac}
variable {gd:Option (Nat×Bool)}{rg:List Nat}{d:Nat}{ty:TypeId}{pos:String}{aft:Array Edge}{x y z:Operand}{T U E0:TypeId}
theorem mv{s:SV}(hx:S.ev x=.sv s)(next:RunT P C ops nd K rest (⟨[]++ak x,[],[],⟨some (d,.sv s),[],[]⟩⟩::acc) (S.set d (.sv s)))(hd:d<S.n:=by exact tl rfl):RunT P C ops nd K (⟨some d,.move x,ty,pos,aft,none⟩::rest) acc S:=
 RT.mv .none hx hd next
theorem ag{s:SV}(hx:S.ev x=.sv s)(next:RunT P C ops nd K rest (⟨[]++ak x,[],[],⟨some (d,.sv s),[],[]⟩⟩::acc) (S.set d (.sv s)))(hd:d<S.n:=by exact tl rfl):RunT P C ops nd K (⟨some d,.assign x,ty,pos,aft,none⟩::rest) acc S:=
 RT.BN .none hx hd next
theorem cl{f:FuncId}[dj P f]{g:Operand}{xs:Array Operand}{at_:Array TypeId}{args:List SV}{r:SV}(hp:Pure P f args r)(hargs:fj S xs.toList args)(next:RunT P C ops nd K rest (⟨[]++(ak g++xs.toList.flatMap ak),[],[],⟨some (d,.sv r),[],[]⟩⟩::acc) (S.set d (.sv r)))(hf:S.ev g=.sv (.v (.func (.func f) #[] #[])):=by exact rfl)(hd:d<S.n:=by exact tl rfl):RunT P C ops nd K (⟨some d,.call ⟨.value g,xs,at_⟩,ty,pos,aft,none⟩::rest) acc S:=
 RT.call .none hp hf hargs hd next
theorem ld{n:Nat}[tA:iZ P T n]{j off:Nat}{B:l7}{cs:List SV}(hx:S.ev x=.ptr j off)(hB:S.b j=some B)(hcs:HV B.cells off cs)(next:RunT P C ops nd K rest (⟨[]++ak x,[j],[],⟨some (d,.sv (.agg cs)),[],[]⟩⟩::acc) (S.set d (.sv (.agg cs))))(hn:cs.length=n:=by exact rfl)(hd:d<S.n:=by exact tl rfl):RunT P C ops nd K (⟨some d,.load T x,ty,pos,aft,none⟩::rest) acc S:=
 RT.load .none hx hB hcs hn hd next
theorem lV[tV:cU P T]{j off:Nat}{B:l7}{s:SV}(hx:S.ev x=.ptr j off)(hB:S.b j=some B)(hn:B.cells[off]? =some (.sv s))(next:RunT P C ops nd K rest (⟨[]++ak x,[j],[],⟨some (d,.sv s),[],[]⟩⟩::acc) (S.set d (.sv s)))(hd:d<S.n:=by exact tl rfl):RunT P C ops nd K (⟨some d,.load T x,ty,pos,aft,none⟩::rest) acc S:=
 RT.NI .none hx hB hn hd next
theorem fa{f off:Nat}[hf:fm P T f off U][sU:fy P U]{j o:Nat}(hx:S.ev x=.ptr j o){o':Nat}(ho':o+off=o')(next:RunT P C ops nd K rest (⟨[]++ak x,[],[],⟨some (d,.ptr j o'),[],[]⟩⟩::acc) (S.set d (.ptr j o')))(hd:d<S.n:=by exact tl rfl):RunT P C ops nd K (⟨some d,.fieldAddr T x f,ty,pos,aft,none⟩::rest) acc S:=
 RT.fieldAddr .none hx hd ho' next
theorem so{n:Nat}[tA:iZ P T n]{j:Nat}{B:l7}{cs:List SV}[o1:oU cs](hx:S.ev x=.ptr j 0)(hB:S.b j=some B)(hy:S.ev y=.sv (.agg cs))(next:RunT P C ops nd K rest (⟨[]++(ak x++ak y),[j],[],⟨none,[(j,⟨B.T,cs.map AV.sv⟩)],[]⟩⟩::acc) (S.ja j ⟨B.T,cs.map AV.sv⟩))(sy:cs.length=n:=by exact rfl)(hn:B.cells.length=n:=by exact rfl):RunT P C ops nd K (⟨none,.store T x y,ty,pos,aft,none⟩::rest) acc S:=
 RT.store .none hx hB hy sy hn next
theorem ex{i:Nat}{ss:List SV}{s:SV}(hx:S.ev x=.sv (.sN ss))(hi:ss[i]? =some s)(next:RunT P C ops nd K rest (⟨[]++ak x,[],[],⟨some (d,.sv s),[],[]⟩⟩::acc) (S.set d (.sv s)))(hd:d<S.n:=by exact tl rfl):RunT P C ops nd K (⟨some d,.extract x i,ty,pos,aft,none⟩::rest) acc S:=
 RT.extract .none hx hi hd next
theorem bx{cells:List SV}(hx:S.ev x=.sv (.agg cells))(next:RunT P C ops nd K rest (⟨[]++ak x,[d],[],⟨some (d,.ptr d 0),[(d,⟨T,cells.map AV.sv⟩)],[]⟩⟩::acc) ((S.ja d ⟨T,cells.map AV.sv⟩).set d (.ptr d 0)))(hd:d<S.n:=by exact tl rfl)(hb:S.b d=none:=by exact rfl)(hp:C.fM d=none:=by exact rfl):RunT P C ops nd K (⟨some d,.box T x,ty,pos,aft,none⟩::rest) acc S:=
 RT.box .none hx hd hb hp next
theorem lr[tV:cU P T]{cells:List SV}{s:SV}(hx:S.ev x=.sv (ref cells))(hn:cells[0]? =some s)(next:RunT P C ops nd K rest (⟨[]++ak x,[],[],⟨some (d,.sv s),[],[]⟩⟩::acc) (S.set d (.sv s)))(hd:d<S.n:=by exact tl rfl):RunT P C ops nd K (⟨some d,.load T x,ty,pos,aft,none⟩::rest) acc S:=
 RT.c9 .none hx hn hd next
theorem cB{f:FuncId}[dj P f]{g:Operand}{xs:Array Operand}{at_:Array TypeId}{args:List SV}{T:TypeId}{c0 c1:List SV}{res:SV}(hp:L4 P f args T c0 res c1)(j:Nat)(hB:S.b j=some ⟨T,c0.map AV.sv⟩)(hargs:fj S xs.toList args)(next:RunT P C ops nd K rest (⟨[]++(ak g++xs.toList.flatMap ak),[j],[],⟨some (d,.sv res),[(j,⟨T,c1.map AV.sv⟩)],[]⟩⟩::acc) ((AS.ew [(j,⟨T,c1.map AV.sv⟩)] S).set d (.sv res)))(hf:S.ev g=.dV f [.box j]:=by exact rfl)(hd:d<S.n:=by exact tl rfl):RunT P C ops nd K (⟨some d,.call ⟨.value g,xs,at_⟩,ty,pos,aft,none⟩::rest) acc S:=
 RT.TB .none hp j hB hf hargs hd next
theorem cN{f:FuncId}[dj P f]{g:Operand}{xs:Array Operand}{at_:Array TypeId}{args:List SV}{R:Row}(hp:BO P f args R)(hargs:fj S xs.toList args)(next:RunT P C ops nd K rest (⟨[]++(ak g++xs.toList.flatMap ak),[],[d],⟨some (d,.row d),[],[(d,.live R)]⟩⟩::acc) ((AS.bf [(d,.live R)] S).set d (.row d)))(hf:S.ev g=.sv (.v (.func (.func f) #[] #[])):=by exact rfl)(hd:d<S.n:=by exact tl rfl)(vw:S.r d=.un:=by exact rfl)(tR:d<1000:=by exact tl rfl):RunT P C ops nd K (⟨some d,.call ⟨.value g,xs,at_⟩,ty,pos,aft,none⟩::rest) acc S:=
 RT.TA .none hp hf hargs hd vw tR next
theorem gm{j_ g_:Nat}{eK:Bool}{s:SV}(hx:S.ev x=.sv s)(next:RunT P C ops nd K rest (⟨[g_]++ak x,[],[],⟨some (d,.sv s),[],[]⟩⟩::acc) (S.set d (.sv s)))(Au:(ops[j_]?).bind (·.dst)=some g_:=by exact rfl)(Av:S.t g_=.sv (.v (.bool eK)):=by exact rfl)(hd:d<S.n:=by exact tl rfl):RunT P C ops nd K (⟨some d,.move x,ty,pos,aft,some (j_,eK)⟩::rest) acc S:=
 RT.mv (.some Au Av) hx hd next
theorem gl{j_ g_:Nat}{eK:Bool}{n:Nat}[tA:iZ P T n]{j off:Nat}{B:l7}{cs:List SV}(hx:S.ev x=.ptr j off)(hB:S.b j=some B)(hcs:HV B.cells off cs)(next:RunT P C ops nd K rest (⟨[g_]++ak x,[j],[],⟨some (d,.sv (.agg cs)),[],[]⟩⟩::acc) (S.set d (.sv (.agg cs))))(Au:(ops[j_]?).bind (·.dst)=some g_:=by exact rfl)(Av:S.t g_=.sv (.v (.bool eK)):=by exact rfl)(hn:cs.length=n:=by exact rfl)(hd:d<S.n:=by exact tl rfl):RunT P C ops nd K (⟨some d,.load T x,ty,pos,aft,some (j_,eK)⟩::rest) acc S:=
 RT.load (.some Au Av) hx hB hcs hn hd next
theorem gc{j_ g_:Nat}{eK:Bool}{f:FuncId}[dj P f]{g:Operand}{xs:Array Operand}{at_:Array TypeId}{args:List SV}{r:SV}(hp:Pure P f args r)(hargs:fj S xs.toList args)(next:RunT P C ops nd K rest (⟨[g_]++(ak g++xs.toList.flatMap ak),[],[],⟨some (d,.sv r),[],[]⟩⟩::acc) (S.set d (.sv r)))(Au:(ops[j_]?).bind (·.dst)=some g_:=by exact rfl)(Av:S.t g_=.sv (.v (.bool eK)):=by exact rfl)(hf:S.ev g=.sv (.v (.func (.func f) #[] #[])):=by exact rfl)(hd:d<S.n:=by exact tl rfl):RunT P C ops nd K (⟨some d,.call ⟨.value g,xs,at_⟩,ty,pos,aft,some (j_,eK)⟩::rest) acc S:=
 RT.call (.some Au Av) hp hf hargs hd next
theorem gr{j_ g_:Nat}{eK:Bool}[tV:cU P T]{cells:List SV}{s:SV}(hx:S.ev x=.sv (ref cells))(hn:cells[0]? =some s)(next:RunT P C ops nd K rest (⟨[g_]++ak x,[],[],⟨some (d,.sv s),[],[]⟩⟩::acc) (S.set d (.sv s)))(Au:(ops[j_]?).bind (·.dst)=some g_:=by exact rfl)(Av:S.t g_=.sv (.v (.bool eK)):=by exact rfl)(hd:d<S.n:=by exact tl rfl):RunT P C ops nd K (⟨some d,.load T x,ty,pos,aft,some (j_,eK)⟩::rest) acc S:=
 RT.c9 (.some Au Av) hx hn hd next
end
section
variable {P:Program}{C:Ctx}{ops:Array Oper}{S:AS}{nd:Bool}{K:List Ac→AS→Prop}{rest:List Oper}{acc:List Ac}
variable {gd:Option (Nat×Bool)}{rg:List Nat}{d:Nat}{ty:TypeId}{pos:String}{aft:Array Edge}{x y z:Operand}{T U E0:TypeId}
variable {l l' k:LH}
theorem ww{op:Op}{j g:Nat}{b want:Bool}(next:RunT P C ops nd K rest (⟨[g],[],[],⟨some (d,.sv (.v undef)),[],[]⟩⟩::acc) (S.set d (.sv (.v undef))))(h1:(ops[j]?).bind (·.dst)=some g:=by exact rfl)(h2:S.t g=.sv (.v (.bool b)):=by exact rfl)(hb:b≠want:=by exact sk rfl)(hd:d<S.n:=by exact tl rfl):RunT P C ops nd K (⟨some d,op,ty,pos,aft,some (j,want)⟩::rest) acc S:=
 RT.skV h1 h2 hb hd next
theorem wu{op:Op}{j g:Nat}{want:Bool}(next:RunT P C ops nd K rest (⟨[g],[],[],⟨some (d,.sv (.v undef)),[],[]⟩⟩::acc) (S.set d (.sv (.v undef))))(h1:(ops[j]?).bind (·.dst)=some g:=by exact rfl)(h2:S.t g=.sv (.v undef):=by exact rfl)(hd:d<S.n:=by exact tl rfl):RunT P C ops nd K (⟨some d,op,ty,pos,aft,some (j,want)⟩::rest) acc S:=
 RT.TS h1 h2 hd next
end
section
variable {P:Program}{C:Ctx}{ops:Array Oper}{S:AS}{nd:Bool}{K:List Ac→AS→Prop}{rest:List Oper}{acc:List Ac}
variable {gd:Option (Nat×Bool)}{rg:List Nat}{d:Nat}{ty:TypeId}{pos:String}{aft:Array Edge}{x y z:Operand}{T U E0:TypeId}
variable {α:Type}{l l' k:List α}{e:α→List SV}{n by_:Nat}{zv:Value}
theorem ln{m:Nat}[tS:dX P T E0 m]{c:Int}(hx:S.ev x=.sv (slc n (l.map e)))(hc:(l.length:Int)=c)(next:RunT P C ops nd K rest (⟨[]++ak x,[],[],⟨some (d,.sv (.v (.int .i64 c))),[],[]⟩⟩::acc) (S.set d (.sv (.v (.int .i64 c)))))(hd:d<S.n:=by exact tl rfl):RunT P C ops nd K (⟨some d,.call ⟨.builtin .len,#[x],#[T]⟩,ty,pos,aft,none⟩::rest) acc S:=
 RT.TO .none hx hd hc next
theorem al[tz:az P T zv]{cs:List SV}(hi:bT (zv.cells.toList.map SV.v) cs){av:List AV}(WY:cs.map AV.sv=av)(next:RunT P C ops nd K rest (⟨[]++[],[d],[],⟨some (d,.ptr d 0),[(d,⟨T,av⟩)],[]⟩⟩::acc) ((S.ja d ⟨T,av⟩).set d (.ptr d 0)))(hd:d<S.n:=by exact tl rfl)(hb:S.b d=none:=by exact rfl)(hp:C.fM d=none:=by exact rfl):RunT P C ops nd K (⟨some d,.alloc T,ty,pos,aft,none⟩::rest) acc S:=
 RT.sZ .none hi WY hd hb hp next
theorem ix[tS:dX P T E0 n]{kk:IntKind}{i:Int}{a:α}(hx:S.ev x=.sv (slc n (l.map e)))(hy:S.ev y=.sv (.v (.int kk i)))(ha:dD l i=some a)(next:RunT P C ops nd K rest (⟨[]++(ak x++ak y),[],[],⟨some (d,.sv (ref (e a))),[],[]⟩⟩::acc) (S.set d (.sv (ref (e a)))))(hd:d<S.n:=by exact tl rfl):RunT P C ops nd K (⟨some d,.indexAddr T x y,ty,pos,aft,none⟩::rest) acc S:=
 RT.ixM .none hx hy hd ha next
theorem bl[tS:dX P T E0 n][tE:aN P E0 n by_ zv]{len:Nat}{parts:Array (Nat×Operand)}{qs:List (Nat×List SV)}(hp:lW S parts.toList qs)(hc:nH 0 qs=true)(hl:qs.length=len)(hsz:(qs.all fun q=>Nat.beq q.2.length n)=true)(hlen:Nat.ble (len*n) 16777216=true)(GU:(zv.cells.toList.all fun v=>v.oneCell')=true)(iF:qs.map (·.2)=l.map e)(next:RunT P C ops nd K rest (⟨[]++jR parts.toList,[],[],⟨some (d,.sv (slc n (l.map e))),[],[]⟩⟩::acc) (S.set d (.sv (slc n (l.map e)))))(hd:d<S.n:=by exact tl rfl):RunT P C ops nd K (⟨some d,.buildSlice T len parts,ty,pos,aft,none⟩::rest) acc S:=
 RT.l9 .none hp hd hc hl hsz hlen GU iF next
theorem iR[tS:dX P T E0 n]{i j:Nat}{E1:TypeId}{kk:IntKind}{v:Int}(hx:S.ev x=.row i)(hR:S.r i=.live (TR E1 n e l))(hy:S.ev y=.sv (.v (.int kk v)))(h:nX l v=some j)(next:RunT P C ops nd K rest (⟨[]++(ak x++ak y),[],[i],⟨some (d,.ic i (j*n)),[],[]⟩⟩::acc) (S.set d (.ic i (j*n))))(hd:d<S.n:=by exact tl rfl):RunT P C ops nd K (⟨some d,.indexAddr T x y,ty,pos,aft,none⟩::rest) acc S:=
 RT.WZ .none hx hR hy hd h next
theorem aI{s X:SV}(hx:S.ev x=.sv s)(hi:SV.imp s X)(next:RunT P C ops nd K rest (⟨[]++ak x,[],[],⟨some (d,.sv X),[],[]⟩⟩::acc) (S.set d (.sv X)))(hd:d<S.n:=by exact tl rfl):RunT P C ops nd K (⟨some d,.assign x,ty,pos,aft,none⟩::rest) acc S:=
 RT.WX .none hx hi hd next
theorem bI{pl:List (Nat×Nat)}{zc:List Value}[tP:bF P T pl zc]{parts:Array (Nat×Operand)}{qs:List (Nat×List SV)}(hp:lW S parts.toList qs){cs cs':List SV}(hi:bT cs cs')(next:RunT P C ops nd K rest (⟨[]++jR parts.toList,[],[],⟨some (d,.sv (.agg cs')),[],[]⟩⟩::acc) (S.set d (.sv (.agg cs'))))(hf:sB (fun i=>pl[i]?) (zc.map SV.v) qs=some cs:=by exact rfl)(hd:d<S.n:=by exact tl rfl):RunT P C ops nd K (⟨some d,.build T parts,ty,pos,aft,none⟩::rest) acc S:=
 RT.Pz .none hp hf hi hd next
theorem lR[tV:cU P T][el:EL e 1]{i j:Nat}{E1:TypeId}{a:α}{s:SV}(hx:S.ev x=.ic i (j*1))(hR:S.r i=.live (TR E1 1 e l))(ha:l[j]? =some a)(hs:e a=[s])(next:RunT P C ops nd K rest (⟨[]++ak x,[],[i],⟨some (d,.sv s),[],[]⟩⟩::acc) (S.set d (.sv s)))(hd:d<S.n:=by exact tl rfl):RunT P C ops nd K (⟨some d,.load T x,ty,pos,aft,none⟩::rest) acc S:=
 RT.TP .none hx hR ha hs hd next
theorem aR[tS:dX P T E0 n][tE:aN P E0 n by_ zv]{i:Nat}(hx:S.ev x=.row i)(hR:S.r i=.live (TR E0 n e l))(hy:S.ev y=.sv (slc n (k.map e)))(h:yu by_ l k=some l')(next:RunT P C ops nd K rest (⟨[]++(ak x++ak y),[],[i,d],⟨some (d,.row d),[],[(i,.dead),(d,.live (TR E0 n e l'))]⟩⟩::acc) ((AS.bf [(i,.dead),(d,.live (TR E0 n e l'))] S).set d (.row d)))(hd:d<S.n:=by exact tl rfl)(vw:S.r d=.un:=by exact rfl)(tR:d<1000:=by exact tl rfl):RunT P C ops nd K (⟨some d,.call ⟨.builtin .append,#[x,y],#[T,T]⟩,ty,pos,aft,none⟩::rest) acc S:=
 RT.apR .none hx hR hy hd vw tR h next
theorem sR[tV:cU P T][el:EL e 1]{i j:Nat}{E1:TypeId}{s:SV}[o1:One s](a:α)(hs:e a=[s])(hx:S.ev x=.ic i (j*1))(hR:S.r i=.live (TR E1 1 e l))(hy:S.ev y=.sv s)(h:stM l j a=some l')(next:RunT P C ops nd K rest (⟨[]++(ak x++ak y),[],[i],⟨none,[],[(i,.live (TR E1 1 e l'))]⟩⟩::acc) (AS.bf [(i,.live (TR E1 1 e l'))] S)):RunT P C ops nd K (⟨none,.store T x y,ty,pos,aft,none⟩::rest) acc S:=
 RT.W0 .none a hs hx hR hy h next
theorem sA[tA:iZ P T n][el:EL e n]{i j:Nat}{E1:TypeId}(a:α)(hx:S.ev x=.ic i (j*n))(hR:S.r i=.live (TR E1 n e l))(hy:S.ev y=.sv (.agg (e a)))(h:stM l j a=some l')(next:RunT P C ops nd K rest (⟨[]++(ak x++ak y),[],[i],⟨none,[],[(i,.live (TR E1 n e l'))]⟩⟩::acc) (AS.bf [(i,.live (TR E1 n e l'))] S)):RunT P C ops nd K (⟨none,.store T x y,ty,pos,aft,none⟩::rest) acc S:=
 RT.TQ .none a hx hR hy h next
theorem lL{m:Nat}[tS:dX P T E0 m]{i:Nat}{E1:TypeId}{c:Int}(hx:S.ev x=.row i)(hR:S.r i=.live (TR E1 n e l))(hc:(l.length:Int)=c)(next:RunT P C ops nd K rest (⟨[]++ak x,[],[i],⟨some (d,.sv (.v (.int .i64 c))),[],[]⟩⟩::acc) (S.set d (.sv (.v (.int .i64 c)))))(hd:d<S.n:=by exact tl rfl):RunT P C ops nd K (⟨some d,.call ⟨.builtin .len,#[x],#[T]⟩,ty,pos,aft,none⟩::rest) acc S:=
 RT.NP .none hx hR hd hc next
theorem cR{f:FuncId}[dj P f]{g:Operand}{xs:Array Operand}{at_:Array TypeId}{args:List AV}{E1:TypeId}{res:AV}(hp:EK P f args (TR E1 n e l) res (l'.flatMap e))(hlen:l'.length=l.length)(i:Nat)(hR:S.r i=.live (TR E1 n e l))(hargs:sS S xs.toList (args.map (AV.wH i)))(next:RunT P C ops nd K rest (⟨[]++(ak g++xs.toList.flatMap ak),[],[i],⟨some (d,res.wH i),[],[(i,.live (TR E1 n e l'))]⟩⟩::acc) ((AS.bf [(i,.live (TR E1 n e l'))] S).set d (res.wH i)))(hrow:args.all AV.vz=true:=by exact rfl)(hres:res.vz=true:=by exact rfl)(hf:S.ev g=.sv (.v (.func (.func f) #[] #[])):=by exact rfl)(hd:d<S.n:=by exact tl rfl):RunT P C ops nd K (⟨some d,.call ⟨.value g,xs,at_⟩,ty,pos,aft,none⟩::rest) acc S:=
 RT.PE .none hp hlen i hR hrow hres hf hargs hd next
theorem gn{j_ g_:Nat}{eK:Bool}{m:Nat}[tS:dX P T E0 m]{c:Int}(hx:S.ev x=.sv (slc n (l.map e)))(hc:(l.length:Int)=c)(next:RunT P C ops nd K rest (⟨[g_]++ak x,[],[],⟨some (d,.sv (.v (.int .i64 c))),[],[]⟩⟩::acc) (S.set d (.sv (.v (.int .i64 c)))))(Au:(ops[j_]?).bind (·.dst)=some g_:=by exact rfl)(Av:S.t g_=.sv (.v (.bool eK)):=by exact rfl)(hd:d<S.n:=by exact tl rfl):RunT P C ops nd K (⟨some d,.call ⟨.builtin .len,#[x],#[T]⟩,ty,pos,aft,some (j_,eK)⟩::rest) acc S:=
 RT.TO (.some Au Av) hx hd hc next
end
section
variable {P:Program}{C:Ctx}{ops:Array Oper}{S:AS}{nd:Bool}{K:List Ac→AS→Prop}{rest:List Oper}{acc:List Ac}
variable {gd:Option (Nat×Bool)}{rg:List Nat}{d:Nat}{ty:TypeId}{pos:String}{aft:Array Edge}{x y z:Operand}{T U E0 E1:TypeId}
theorem fl{f off:Nat}[hf:fm P T f off U][tV:cU P U]{cs:List SV}{s:SV}(hx:S.ev x=.sv (.agg cs))(hs:cs[off]? =some s)(next:RunT P C ops nd K rest (⟨[]++ak x,[],[],⟨some (d,.sv s),[],[]⟩⟩::acc) (S.set d (.sv s)))(hd:d<S.n:=by exact tl rfl):RunT P C ops nd K (⟨some d,.field T x f,ty,pos,aft,none⟩::rest) acc S:=
 RT.field .none hx hs hd next
end
end Go.Fw.Z
namespace Go.Proofs.Ytningmnklfpfjaa
open Go.Fw
noncomputable def cG(x0:List Nat):Option (List Nat):=yu 4 [] x0
noncomputable def aT(x0:Nat)(c0:Nat):Option (Nat×Nat):=(some ((x0+c0)%18446744073709551616)).bind fun x6=>(some (x6/2^32)).bind fun x8=>(some (x6%4294967296)).bind fun dW=>some (dW,x8)
noncomputable def aB(x0:List Nat):Option (List Nat):=(cq (fun(w5:(List Nat))=>(show Option (((List Nat))⊕((List Nat)))from cQ (fun(yz:Bool)=>(bif yz then(some (w5.length:Int)).bind fun fR=>(some (IntKind.i64.wrap (fR-1))).bind fun fg=>(BP w5 0 fg).bind fun k8=>some (.inl k8)else some (.inr w5))) fun NS=>(some (w5.length:Int)).bind fun x4=>(some (decide ((0:Int)<x4))).bind fun x5=>(bif x5 then(some (w5.length:Int)).bind fun x9=>(some (IntKind.i64.wrap (x9-1))).bind fun dW=>(dD w5 dW).bind fun iz=>(some (decide ((iz:Nat)=0))).bind fun gC=>some gC else some false).bind fun EW=>NS EW)) x0).bind fun yA=>some yA
noncomputable def bu(x0:Bool)(x1:List Nat):Option (Zr):=(aB x1).bind fun x6=>(some (x6.length:Int)).bind fun x8=>(some (decide ((x8:Int)=0))).bind fun x9=>(bif x9 then some ⟨false,[]⟩else some ⟨x0,x6⟩)
noncomputable def cX(x0:Bool)(x1:Nat):Option (Zr):=(some (decide ((x1:Nat)=0))).bind fun x7=>(bif x7 then some ⟨false,[]⟩else(some (x1/2^32)).bind fun iz=>(some (decide ((iz:Nat)=0))).bind fun eG=>(bif eG then(some (x1%4294967296)).bind fun fC=>some ⟨x0,[fC]⟩else(some (x1%4294967296)).bind fun gx=>(some (x1/2^32)).bind fun jS=>(some (jS%4294967296)).bind fun lN=>some ⟨x0,[gx,lN]⟩))
noncomputable def cV(x0:List Nat):Option (Nat):=(some (x0.length:Int)).bind fun x4=>(some (decide ((x4:Int)=0))).bind fun x6=>(bif x6 then some 0 else(some (decide ((x4:Int)=1))).bind fun x8=>(bif x8 then(dD x0 0).bind fun dW=>(some (dW%18446744073709551616)).bind fun eG=>some eG else(dD x0 0).bind fun gY=>(some (gY%18446744073709551616)).bind fun jN=>(dD x0 1).bind fun fg=>(some (fg%18446744073709551616)).bind fun gx=>(some (gx*2^32%18446744073709551616)).bind fun mc=>(some ((jN ||| mc)%18446744073709551616)).bind fun jS=>some jS))
noncomputable def cc(x0:List Nat)(x1:List Nat):Option (Int):=(some (x0.length:Int)).bind fun x7=>(some (x1.length:Int)).bind fun x9=>(some (decide ((x7:Int)≠x9))).bind fun dW=>(bif dW then(some (x0.length:Int)).bind fun eG=>(some (x1.length:Int)).bind fun gY=>(some (decide ((eG:Int)<gY))).bind fun fC=>(bif fC then some (-1)else some 1)else(some (x0.length:Int)).bind fun fR=>(some (IntKind.i64.wrap (fR-1))).bind fun fg=>(cq (fun(oc:Int)=>(show Option ((Int)⊕((Unit)⊕(Int)))from(some (decide ((0:Int)≤oc))).bind fun gx=>(bif gx then(dD x0 oc).bind fun vp=>(dD x1 oc).bind fun gO=>(some (decide ((vp:Nat)≠gO))).bind fun qg=>(bif qg then(dD x0 oc).bind fun nY=>(dD x1 oc).bind fun w6=>(some (decide ((nY:Nat)<w6))).bind fun mw=>(bif mw then some (.inr (.inr (-1)))else some (.inr (.inr 1)))else(some (IntKind.i64.wrap (oc-1))).bind fun jS=>some (.inl jS))else some (.inr (.inl ()))))) fg).bind fun e6=>match e6 with|.inr v6=>some v6|.inl _=>some 0)
noncomputable def cK(x0:List Nat)(x1:List Nat):Option (List Nat):=(some (x0.length:Int)).bind fun dW=>(some (x1.length:Int)).bind fun eG=>(some (max (dW:Int) eG)).bind fun gC=>(some (IntKind.i64.wrap (gC+1))).bind fun gY=>(IJ (α:=Nat) 4 gY).bind fun fC=>(nL (fun(k:Nat) (s7:Nat×(List Nat))=>match s7 with|⟨oZ,fo⟩=>(show Option (Nat×(List Nat))from(some (x0.getD k 0%18446744073709551616)).bind fun TW=>(some (x1.getD k 0%18446744073709551616)).bind fun TX=>(some ((TW+TX)%18446744073709551616)).bind fun kz=>(aT kz oZ).bind fun⟨lf,k9⟩=>(yu 4 fo [lf]).bind fun gO=>some (k9,gO))) (max x0.length x1.length) (0,fC)).bind fun e7=>match e7 with|⟨oZ,fo⟩=>(aT 0 oZ).bind fun⟨ig,k11⟩=>(yu 4 fo [ig]).bind fun nY=>some nY
noncomputable def bL(x0:List Nat)(x1:List Nat):Option (List Nat):=(some (x0.length:Int)).bind fun dW=>(IJ (α:=Nat) 4 dW).bind fun iz=>(nL (fun(k:Nat) (s7:Nat×(List Nat))=>match s7 with|⟨rT,fo⟩=>(show Option (Nat×(List Nat))from(some (x0.getD k 0%18446744073709551616)).bind fun TY=>(some (x1.getD k 0%18446744073709551616)).bind fun TZ=>(some (m7 18446744073709551616 4294967295 TZ)).bind fun jS=>(some ((TY+jS)%18446744073709551616)).bind fun lN=>(aT lN rT).bind fun⟨gD,k9⟩=>(yu 4 fo [gD]).bind fun kz=>some (k9,kz))) (max x0.length x1.length) (1,iz)).bind fun e7=>match e7 with|⟨rT,fo⟩=>some fo
noncomputable def dr(x0:List Nat)(x1:List Nat):Option (List Nat):=(some (x0.length:Int)).bind fun eG=>(some (x1.length:Int)).bind fun gY=>(some (IntKind.i64.wrap (eG+gY))).bind fun fC=>(A0 4 fC (0:Nat)).bind fun jN=>(some (x0.length:Int)).bind fun fg=>(cq (fun(IX:Int×(List Nat))=>match IX with|⟨jm,vG⟩=>(show Option ((Int×(List Nat))⊕((List Nat)))from(some (decide ((jm:Int)<fg))).bind fun gx=>(bif gx then(dD x0 jm).bind fun jS=>(some (x1.length:Int)).bind fun kz=>(cq (fun(Bb:Int×Nat×(List Nat))=>match Bb with|⟨tc,oe,o5⟩=>(show Option ((Int×Nat×(List Nat))⊕(Nat×(List Nat)))from(some (decide ((tc:Int)<kz))).bind fun og=>(bif og then(dD x1 tc).bind fun yB=>(some (IntKind.i64.wrap (jm+tc))).bind fun uo=>(some (IntKind.i64.wrap (jm+tc))).bind fun mw=>(nX o5 mw).bind fun qF=>(o5[qF]?).bind fun qj=>(some (qj%18446744073709551616)).bind fun rU=>(some (jS%18446744073709551616)).bind fun Ah=>(some (yB%18446744073709551616)).bind fun yC=>(some ((Ah*yC)%18446744073709551616)).bind fun ur=>(some ((rU+ur)%18446744073709551616)).bind fun PI=>(aT PI oe).bind fun⟨sI,T1⟩=>(nX o5 uo).bind fun BT=>(stM o5 BT sI).bind fun LJ=>(some (IntKind.i64.wrap (tc+1))).bind fun Ai=>some (.inl (Ai,T1,LJ))else some (.inr (oe,o5))))) (0,0,vG)).bind fun PJ=>match PJ with|⟨yD,BU⟩=>(some (x1.length:Int)).bind fun BV=>(some (IntKind.i64.wrap (jm+BV))).bind fun LK=>(aT 0 yD).bind fun⟨EX,k45⟩=>(nX BU LK).bind fun F9=>(stM BU F9 EX).bind fun T2=>(some (IntKind.i64.wrap (jm+1))).bind fun BW=>some (.inl (BW,T2))else some (.inr vG)))) (0,jN)).bind fun kI=>some kI
noncomputable def fY(x0:List Nat)(x1:Nat):Option (Nat×List Nat):=(some (x0.length:Int)).bind fun x9=>(some (IntKind.i64.wrap (x9-1))).bind fun dW=>(cq (fun(s8:Nat×Int×(List Nat))=>match s8 with|⟨IY,IZ,o6⟩=>(show Option ((Nat×Int×(List Nat))⊕(Nat×(List Nat)))from(some (decide ((0:Int)≤IZ))).bind fun eG=>(bif eG then(some (IY*2^32%18446744073709551616)).bind fun jN=>(nX o6 IZ).bind fun k8=>(o6[k8]?).bind fun gx=>(some (gx%18446744073709551616)).bind fun mc=>(some ((jN ||| mc)%18446744073709551616)).bind fun jS=>(BQ 18446744073709551616 jS x1).bind fun lf=>(some (lf%4294967296)).bind fun og=>(nX o6 IZ).bind fun gO=>(stM o6 gO og).bind fun vH=>(At jS x1).bind fun ig=>(some (IntKind.i64.wrap (IZ-1))).bind fun gY=>some (.inl (ig,gY,vH))else some (.inr (IY,o6))))) (0,dW,x0)).bind fun e8=>match e8 with|⟨T3,xJ⟩=>(sG x0 xJ).bind fun _=>some (T3,xJ)
noncomputable def ez(x0:List Nat)(x1:Nat):Option (List Nat):=(some (x0.length:Int)).bind fun iz=>(some (IntKind.i64.wrap (iz+1))).bind fun eG=>(IJ (α:=Nat) 4 eG).bind fun gC=>(some (x0.length:Int)).bind fun fC=>(cq (fun(s8:Int×Nat×(List Nat))=>match s8 with|⟨uu,o7,fo⟩=>(show Option ((Int×Nat×(List Nat))⊕(Nat×(List Nat)))from(some (decide ((uu:Int)<fC))).bind fun fR=>(bif fR then(dD x0 uu).bind fun fg=>(some (fg%18446744073709551616)).bind fun lN=>(some (lN*2^(min x1 64)%18446744073709551616)).bind fun vp=>(aT vp o7).bind fun⟨kz,PK⟩=>(yu 4 fo [kz]).bind fun og=>(some (IntKind.i64.wrap (uu+1))).bind fun gO=>some (.inl (gO,PK,og))else some (.inr (o7,fo))))) (0,0,gC)).bind fun e8=>match e8 with|⟨yE,I0⟩=>(aT 0 yE).bind fun⟨ig,W7⟩=>(yu 4 I0 [ig]).bind fun nY=>some nY
noncomputable def gE(x0:List Nat)(x1:Nat):Option (List Nat):=(some (x0.length:Int)).bind fun iz=>(some (IntKind.i64.wrap (iz+1))).bind fun eG=>(IJ (α:=Nat) 4 eG).bind fun gC=>(some (x0.length:Int)).bind fun fC=>(cq (fun(s8:Int×Nat×(List Nat))=>match s8 with|⟨uu,o7,BX⟩=>(show Option ((Int×Nat×(List Nat))⊕(Nat×(List Nat)))from(some (decide ((uu:Int)<fC))).bind fun fR=>(bif fR then(dD x0 uu).bind fun fg=>(some (fg%18446744073709551616)).bind fun lN=>(some (lN*2^(min x1 64)%18446744073709551616)).bind fun vp=>(aT vp o7).bind fun⟨kz,PK⟩=>(yu 4 BX [kz]).bind fun og=>(some (IntKind.i64.wrap (uu+1))).bind fun gO=>some (.inl (gO,PK,og))else some (.inr (o7,BX))))) (0,0,gC)).bind fun e8=>match e8 with|⟨yE,I1⟩=>(aT 0 yE).bind fun⟨ig,W7⟩=>(yu 4 I1 [ig]).bind fun nY=>some nY
noncomputable def fD(x0:Nat):Option (Int):=(some (decide ((65536:Nat)≤x0))).bind fun x4=>cQ (fun(j2:Nat×Int)=>match j2 with|⟨EY,Mj⟩=>(some (decide ((256:Nat)≤EY))).bind fun x8=>cQ (fun(j4:Nat×Int)=>match j4 with|⟨T4,T5⟩=>(some (T4%256)).bind fun fC=>(sF [0,1,2,2,3,3,3,3,4,4,4,4,4,4,4,4,5,5,5,5,5,5,5,5,5,5,5,5,5,5,5,5,6,6,6,6,6,6,6,6,6,6,6,6,6,6,6,6,6,6,6,6,6,6,6,6,6,6,6,6,6,6,6,6,7,7,7,7,7,7,7,7,7,7,7,7,7,7,7,7,7,7,7,7,7,7,7,7,7,7,7,7,7,7,7,7,7,7,7,7,7,7,7,7,7,7,7,7,7,7,7,7,7,7,7,7,7,7,7,7,7,7,7,7,7,7,7,7,8,8,8,8,8,8,8,8,8,8,8,8,8,8,8,8,8,8,8,8,8,8,8,8,8,8,8,8,8,8,8,8,8,8,8,8,8,8,8,8,8,8,8,8,8,8,8,8,8,8,8,8,8,8,8,8,8,8,8,8,8,8,8,8,8,8,8,8,8,8,8,8,8,8,8,8,8,8,8,8,8,8,8,8,8,8,8,8,8,8,8,8,8,8,8,8,8,8,8,8,8,8,8,8,8,8,8,8,8,8,8,8,8,8,8,8,8,8,8,8,8,8,8,8,8,8,8,8] ((fC:Nat):Int)).bind fun jN=>(some (IntKind.i64.wrap (jN:Int))).bind fun fR=>(some (IntKind.i64.wrap (T5+fR))).bind fun fg=>some fg) fun K4=>(bif x8 then(some (EY/2^8)).bind fun dW=>(some (IntKind.i64.wrap (Mj+8))).bind fun eG=>K4 (dW,eG)else K4 (EY,Mj))) fun K2=>(bif x4 then(some (x0/2^16)).bind fun x6=>K2 (x6,16)else K2 (x0,0))
noncomputable def cH(x0:Nat):Option (Int):=(fD x0).bind fun x4=>(some (IntKind.i64.wrap (32-x4))).bind fun x5=>some x5
noncomputable def ga(x0:List Nat)(o0:Nat)(n0:Nat)(x1:List Nat):Option (Nat×List Nat):=(some (x1.length:Int)).bind fun eG=>(LI o0 n0 eG).bind fun fC=>(x0[fC]?).bind fun jN=>(some (jN%18446744073709551616)).bind fun fR=>(some (fR*2^32%18446744073709551616)).bind fun fg=>(some (IntKind.i64.wrap (eG-1))).bind fun mc=>(LI o0 n0 mc).bind fun jS=>(x0[jS]?).bind fun lN=>(some (lN%18446744073709551616)).bind fun gD=>(some ((fg ||| gD)%18446744073709551616)).bind fun vp=>(some (IntKind.i64.wrap (eG-1))).bind fun og=>(dD x1 og).bind fun gO=>(some (gO%18446744073709551616)).bind fun qg=>(some (IntKind.i64.wrap (eG-2))).bind fun nY=>(dD x1 nY).bind fun uo=>(some (uo%18446744073709551616)).bind fun si=>(BQ 18446744073709551616 vp qg).bind fun mw=>(At vp qg).bind fun rU=>(cq (fun(Dg:Nat×Nat)=>match Dg with|⟨Aw,Bc⟩=>(show Option ((Nat×Nat)⊕(Nat))from cQ (fun(EZ:Bool)=>(bif EZ then(some (m7 18446744073709551616 Aw 1)).bind fun T6=>(some ((Bc+qg)%18446744073709551616)).bind fun HY=>(some (HY/2^32)).bind fun HZ=>(some (decide ((HZ:Nat)≠0))).bind fun I2=>(bif I2 then some (.inr T6)else some (.inl (T6,HY)))else some (.inr Aw))) fun NS=>(some (Aw/2^32)).bind fun Ah=>(some (decide ((Ah:Nat)≠0))).bind fun rV=>(bif rV then some true else(some ((Aw*si)%18446744073709551616)).bind fun sI=>(some (Bc*2^32%18446744073709551616)).bind fun Ai=>(some (IntKind.i64.wrap (eG-2))).bind fun tW=>(LI o0 n0 tW).bind fun BV=>(x0[BV]?).bind fun LK=>(some (LK%18446744073709551616)).bind fun W8=>(some ((Ai ||| W8)%18446744073709551616)).bind fun EX=>(some (decide ((EX:Nat)<sI))).bind fun F9=>some F9).bind fun I3=>NS I3)) (mw,rU)).bind fun G1=>(sG x0 x0).bind fun _=>some (G1,x0)
noncomputable def cx(x0:List Nat)(o0:Nat)(n0:Nat)(x1:List Nat)(x2:Nat):Option (Bool×List Nat):=(some (n0:Int)).bind fun gY=>(cq (fun(uw:Nat×Int×Nat×(List Nat))=>match uw with|⟨G2,ux,BY,rW⟩=>(show Option ((Nat×Int×Nat×(List Nat))⊕(Nat×(List Nat)))from(some (decide ((ux:Int)<gY))).bind fun jN=>(bif jN then(some (x1.length:Int)).bind fun gx=>(some (decide ((ux:Int)<gx))).bind fun mc=>cQ (fun(I4:Nat)=>(LI o0 n0 ux).bind fun qg=>(rW[qg]?).bind fun ig=>(some (ig%18446744073709551616)).bind fun o8=>(aT I4 BY).bind fun⟨oQ,W9⟩=>(some (oQ%18446744073709551616)).bind fun si=>(some (m7 18446744073709551616 o8 si)).bind fun w6=>(some (m7 18446744073709551616 w6 G2)).bind fun mw=>(some (mw%4294967296)).bind fun vI=>(LI o0 n0 ux).bind fun Ah=>(stM rW Ah vI).bind fun Xa=>(some (mw/2^63)).bind fun yC=>(some (IntKind.i64.wrap (ux+1))).bind fun ur=>some (.inl (yC,ur,W9,Xa))) fun K14=>(bif mc then(dD x1 ux).bind fun gD=>(some (gD%18446744073709551616)).bind fun kz=>(some ((kz*x2)%18446744073709551616)).bind fun og=>K14 og else K14 0)else some (.inr (G2,rW))))) (0,0,0,x0)).bind fun I5=>match I5 with|⟨I6,uy⟩=>(some (decide ((I6:Nat)≠0))).bind fun sI=>(sG x0 uy).bind fun _=>some (sI,uy)
noncomputable def eC(x0:List Nat)(x1:List Nat):Option ((List Nat)×(List Nat)):=(some (x1.length:Int)).bind fun fR=>(some (IntKind.i64.wrap (fR-1))).bind fun gx=>(dD x1 gx).bind fun mc=>(cH mc).bind fun lN=>(some ((lN%18446744073709551616).toNat)).bind fun gD=>(gE x0 gD).bind fun lf=>(ez x1 gD).bind fun yB=>(BP yB 0 fR).bind fun ig=>(some (x0.length:Int)).bind fun nY=>(some (IntKind.i64.wrap (nY-fR))).bind fun oQ=>(some (IntKind.i64.wrap (oQ+1))).bind fun si=>(A0 4 si (0:Nat)).bind fun w6=>(some (x0.length:Int)).bind fun mw=>(some (IntKind.i64.wrap (mw-fR))).bind fun qj=>(cq (fun(G3:Int×(List Nat)×(List Nat))=>match G3 with|⟨eV,kJ,nM⟩=>(show Option ((Int×(List Nat)×(List Nat))⊕((List Nat)×(List Nat)))from(some (decide ((0:Int)≤eV))).bind fun vI=>(bif vI then(some (IntKind.i64.wrap (eV+fR))).bind fun BT=>(some (IntKind.i64.wrap (BT+1))).bind fun Ai=>(PC nM eV Ai).bind fun⟨Xb,Xc⟩=>(ga nM Xb Xc ig).bind fun⟨tW,LL⟩=>(sG nM LL).bind fun _=>(some (IntKind.i64.wrap (eV+fR))).bind fun F9=>(some (IntKind.i64.wrap (F9+1))).bind fun BW=>(PC LL eV BW).bind fun⟨Xd,Xe⟩=>(cx LL Xd Xe ig tW).bind fun⟨T7,G4⟩=>(sG LL G4).bind fun _=>cQ (fun(G5:Nat×(List Nat))=>match G5 with|⟨E4,yF⟩=>(some (E4%4294967296)).bind fun I7=>(nX kJ eV).bind fun PL=>(stM kJ PL I7).bind fun T8=>(some (IntKind.i64.wrap (eV-1))).bind fun rV=>some (.inl (rV,T8,yF))) fun VX=>(bif T7 then(some (m7 18446744073709551616 tW 1)).bind fun H6=>(some (ig.length:Int)).bind fun I8=>(cq (fun(G7:Int×Nat×(List Nat))=>match G7 with|⟨td,oh,o9⟩=>(show Option ((Int×Nat×(List Nat))⊕(Nat×(List Nat)))from(some (decide ((td:Int)<I8))).bind fun H7=>(bif H7 then(dD ig td).bind fun Xf=>(some (IntKind.i64.wrap (eV+td))).bind fun LM=>(some (IntKind.i64.wrap (eV+td))).bind fun Xg=>(nX o9 Xg).bind fun S0=>(o9[S0]?).bind fun PM=>(some (PM%18446744073709551616)).bind fun Mk=>(some (Xf%18446744073709551616)).bind fun T9=>(some ((Mk+T9)%18446744073709551616)).bind fun PN=>(aT PN oh).bind fun⟨Ua,Ub⟩=>(nX o9 LM).bind fun Xh=>(stM o9 Xh Ua).bind fun Uc=>(some (IntKind.i64.wrap (td+1))).bind fun Ud=>some (.inl (Ud,Ub,Uc))else some (.inr (oh,o9))))) (0,0,G4)).bind fun Ue=>match Ue with|⟨yG,vJ⟩=>(some (IntKind.i64.wrap (eV+fR))).bind fun Xi=>(some (IntKind.i64.wrap (eV+fR))).bind fun PO=>(nX vJ PO).bind fun E5=>(vJ[E5]?).bind fun PR=>(some (PR%18446744073709551616)).bind fun PS=>(aT PS yG).bind fun⟨I9,k72⟩=>(nX vJ Xi).bind fun PT=>(stM vJ PT I9).bind fun Uf=>VX (H6,Uf)else VX (tW,G4))else some (.inr (kJ,nM))))) (qj,w6,lf)).bind fun Ug=>match Ug with|⟨pg,qG⟩=>(A0 4 fR (0:Nat)).bind fun PU=>(cq (fun(Ja:Int×(List Nat))=>match Ja with|⟨pq,pz⟩=>(show Option ((Int×(List Nat))⊕((List Nat)))from(some (decide ((pq:Int)<fR))).bind fun Jb=>(bif Jb then(nX qG pq).bind fun PW=>(qG[PW]?).bind fun PX=>(some (PX%18446744073709551616)).bind fun Jc=>(some (IntKind.i64.wrap (pq+1))).bind fun PY=>(nX qG PY).bind fun PZ=>(qG[PZ]?).bind fun P0=>(some (P0%18446744073709551616)).bind fun Jd=>(some (Jd*2^32%18446744073709551616)).bind fun Je=>(some ((Jc ||| Je)%18446744073709551616)).bind fun Jf=>(some (Jf/2^(min gD 64))).bind fun P1=>(some (P1%4294967296)).bind fun Jg=>(nX pz pq).bind fun P2=>(stM pz P2 Jg).bind fun Uh=>(some (IntKind.i64.wrap (pq+1))).bind fun Jh=>some (.inl (Jh,Uh))else some (.inr pz)))) (0,PU)).bind fun jd=>some (pg,jd)
noncomputable def dw(x0:List Nat)(x1:List Nat):Option ((List Nat)×(List Nat)):=(cc x0 x1).bind fun eG=>(some (decide ((eG:Int)<0))).bind fun gC=>(bif gC then(cG x0).bind fun fC=>some ([],fC)else(some (x0.length:Int)).bind fun fg=>(some (decide ((fg:Int)≤2))).bind fun k8=>(bif k8 then(cV x0).bind fun mc=>(cV x1).bind fun lN=>(BQ 18446744073709551616 mc lN).bind fun kz=>(cX false kz).bind fun⟨NT,Ji⟩=>(At mc lN).bind fun qg=>(cX false qg).bind fun⟨lj,kA⟩=>some (Ji,kA)else(some (x1.length:Int)).bind fun oQ=>(some (decide ((oQ:Int)=1))).bind fun si=>(bif si then(cG x0).bind fun rX=>(dD x1 0).bind fun qj=>(some (qj%18446744073709551616)).bind fun vI=>(fY rX vI).bind fun⟨Ah,l5⟩=>(sG rX l5).bind fun _=>(some (Ah%4294967296)).bind fun ur=>some (l5,[ur])else(eC x0 x1).bind fun⟨P3,P4⟩=>some (P3,P4))))
noncomputable def aY(x0:Int):Option (Zr):=(some ((x0%18446744073709551616).toNat)).bind fun x5=>(some (decide ((x0:Int)<0))).bind fun x7=>cQ (fun(P5:Nat)=>(some (decide ((x0:Int)<0))).bind fun iz=>(cX iz P5).bind fun⟨Bd,Be⟩=>some ⟨Bd,Be⟩) fun K2=>(bif x7 then(some (m7 18446744073709551616 0 x5)).bind fun x9=>K2 x9 else K2 x5)
noncomputable def cJ(x0:Zr):Option (Int×Bool):=match x0 with|⟨aC,aD⟩=>(aB aD).bind fun x8=>(some (x8.length:Int)).bind fun dW=>(some (decide ((2:Int)<dW))).bind fun iz=>(bif iz then some (0,false)else(cV x8).bind fun gC=>(bif aC then(some (decide ((9223372036854775808:Nat)<gC))).bind fun fR=>(bif fR then some (0,false)else(some (m7 18446744073709551616 0 gC)).bind fun k8=>(some (IntKind.i64.wrap (k8:Int))).bind fun gx=>some (gx,true))else(some (decide ((9223372036854775808:Nat)≤gC))).bind fun jS=>(bif jS then some (0,false)else(some (IntKind.i64.wrap (gC:Int))).bind fun gD=>some (gD,true))))
noncomputable def bP(x0:Bool)(x1:List Nat)(x2:Bool)(x3:List Nat):Option (Zr):=(some (x0==x2)).bind fun iz=>(bif iz then(cK x1 x3).bind fun fC=>(bu x0 fC).bind fun⟨lp,lq⟩=>some ⟨lp,lq⟩else(cc x1 x3).bind fun k8=>(some (decide ((k8:Int)<0))).bind fun gx=>(bif gx then(bL x3 x1).bind fun gD=>(bu x2 gD).bind fun⟨gQ,gR⟩=>some ⟨gQ,gR⟩else(bL x1 x3).bind fun gO=>(bu x0 gO).bind fun⟨mA,mB⟩=>some ⟨mA,mB⟩))
noncomputable def iH(x0:Zr)(x1:Zr):Option (Zr):=match x0 with|⟨aC,aD⟩=>match x1 with|⟨bp,bn⟩=>(cJ ⟨aC,aD⟩).bind fun⟨uz,yH⟩=>(cJ ⟨bp,bn⟩).bind fun⟨vK,yI⟩=>cQ (fun(qH:Bool)=>cQ (fun(j5:Unit)=>(aB aD).bind fun qF=>(aB bn).bind fun rV=>(bP aC qF bp rV).bind fun⟨Bf,Bg⟩=>some ⟨Bf,Bg⟩) fun K5=>(bif qH then(some (IntKind.i64.wrap (uz+vK))).bind fun kz=>(some (IntKind.i64.wrap ((BitVec.ofInt 64 uz ^^^ BitVec.ofInt 64 kz).toNat))).bind fun gO=>(some (IntKind.i64.wrap ((BitVec.ofInt 64 vK ^^^ BitVec.ofInt 64 kz).toNat))).bind fun ig=>(some (IntKind.i64.wrap ((BitVec.ofInt 64 gO &&& BitVec.ofInt 64 ig).toNat))).bind fun o8=>(some (decide ((0:Int)≤o8))).bind fun nY=>(bif nY then(aY kz).bind fun⟨qJ,qK⟩=>some ⟨qJ,qK⟩else K5 ())else K5 ())) fun K3=>(bif yH then some yI else some false).bind fun yJ=>K3 yJ
noncomputable def iI(x0:Zr)(x1:Zr):Option (Zr):=match x0 with|⟨aC,aD⟩=>match x1 with|⟨bp,bn⟩=>(cJ ⟨aC,aD⟩).bind fun⟨uz,yH⟩=>(cJ ⟨bp,bn⟩).bind fun⟨vK,yI⟩=>cQ (fun(qH:Bool)=>cQ (fun(j5:Unit)=>(aB aD).bind fun qF=>(some (!bp)).bind fun vI=>(aB bn).bind fun yC=>(bP aC qF vI yC).bind fun⟨Jj,Jk⟩=>some ⟨Jj,Jk⟩) fun K5=>(bif qH then(some (IntKind.i64.wrap (uz-vK))).bind fun kz=>(some (IntKind.i64.wrap ((BitVec.ofInt 64 uz ^^^ BitVec.ofInt 64 vK).toNat))).bind fun gO=>(some (IntKind.i64.wrap ((BitVec.ofInt 64 uz ^^^ BitVec.ofInt 64 kz).toNat))).bind fun ig=>(some (IntKind.i64.wrap ((BitVec.ofInt 64 gO &&& BitVec.ofInt 64 ig).toNat))).bind fun o8=>(some (decide ((0:Int)≤o8))).bind fun nY=>(bif nY then(aY kz).bind fun⟨qJ,qK⟩=>some ⟨qJ,qK⟩else K5 ())else K5 ())) fun K3=>(bif yH then some yI else some false).bind fun yJ=>K3 yJ
noncomputable def bV(x0:Zr)(x1:Zr):Option (Zr):=match x0 with|⟨aC,aD⟩=>match x1 with|⟨bp,bn⟩=>(aB aD).bind fun x9=>(aB bn).bind fun eG=>cQ (fun(Dh:Bool)=>(bif Dh then(some (!(aC==bp))).bind fun vp=>(cV x9).bind fun lf=>(cV eG).bind fun gO=>(some ((lf*gO)%18446744073709551616)).bind fun yB=>(cX vp yB).bind fun⟨Jl,Jm⟩=>some ⟨Jl,Jm⟩else(some (!(aC==bp))).bind fun oQ=>(dr x9 eG).bind fun rX=>(bu oQ rX).bind fun⟨qL,qM⟩=>some ⟨qL,qM⟩)) fun K3=>(some (x9.length:Int)).bind fun gY=>(some (decide ((gY:Int)≤1))).bind fun fC=>(bif fC then(some (eG.length:Int)).bind fun fg=>(some (decide ((fg:Int)≤1))).bind fun k8=>some k8 else some false).bind fun Jn=>K3 Jn
noncomputable def dZ(x0:Zr):Option (Zr):=match x0 with|⟨aC,aD⟩=>(some (!aC)).bind fun x5=>(aB aD).bind fun x8=>(cG x8).bind fun x9=>(bu x5 x9).bind fun⟨yK,yL⟩=>some ⟨yK,yL⟩
noncomputable def cf(x0:Zr):Option (Int):=match x0 with|⟨aC,aD⟩=>(aB aD).bind fun x6=>(some (x6.length:Int)).bind fun x7=>(some (decide ((x7:Int)=0))).bind fun x8=>(bif x8 then some 0 else(bif aC then some (-1)else some 1))
noncomputable def lu(x0:Zr)(x1:Zr):Option (Int):=match x0 with|⟨aC,aD⟩=>match x1 with|⟨bp,bn⟩=>(cf ⟨aC,aD⟩).bind fun x8=>(cf ⟨bp,bn⟩).bind fun dW=>(some (decide ((x8:Int)<dW))).bind fun gY=>(bif gY then some (-1)else(some (decide ((dW:Int)<x8))).bind fun fg=>(bif fg then some 1 else(some (decide ((x8:Int)<0))).bind fun mc=>(bif mc then(aB bn).bind fun gD=>(aB aD).bind fun lf=>(cc gD lf).bind fun og=>some og else(aB aD).bind fun qg=>(aB bn).bind fun nY=>(cc qg nY).bind fun uo=>some uo)))
noncomputable def cY(x0:Zr)(x1:Zr):Option (Zr×Zr×Int):=match x0 with|⟨aC,aD⟩=>match x1 with|⟨bp,bn⟩=>(aB aD).bind fun gC=>(aB bn).bind fun jN=>(some (jN.length:Int)).bind fun fg=>(some (decide ((fg:Int)=0))).bind fun k8=>(bif k8 then some (⟨false,[]⟩,⟨false,[]⟩,7)else(dw gC jN).bind fun⟨Di,P6⟩=>(aB P6).bind fun gO=>cQ (fun(j3:Bool×Bool)=>match j3 with|⟨Dj,yM⟩=>cQ (fun(j5:(List Nat)×(List Nat))=>match j5 with|⟨P7,Jo⟩=>(some (!(yM==bp))).bind fun yC=>(bu yC P7).bind fun⟨Jp,Jq⟩=>(bu false Jo).bind fun⟨yN,yO⟩=>some (⟨Jp,Jq⟩,⟨yN,yO⟩,0)) fun K5=>(bif Dj then(cK Di [1]).bind fun rX=>(bL jN gO).bind fun qj=>K5 (rX,qj)else K5 (Di,gO))) fun K3=>(bif aC then(some (gO.length:Int)).bind fun nY=>(some (decide ((0:Int)<nY))).bind fun uo=>some uo else some false).bind fun Jr=>K3 (Jr,aC))
noncomputable def gy(x0:Zr)(x1:Zr):Option (Zr):=match x0 with|⟨aC,aD⟩=>match x1 with|⟨bp,bn⟩=>(aB aD).bind fun gC=>(aB bn).bind fun jN=>(cq (fun(uw:(List Nat)×(List Nat))=>match uw with|⟨BZ,vL⟩=>(show Option (((List Nat)×(List Nat))⊕((List Nat)×(List Nat)))from cQ (fun(yP:Bool)=>(bif yP then(dw BZ vL).bind fun⟨Ui,P8⟩=>(aB P8).bind fun w6=>some (.inl (vL,w6))else some (.inr (BZ,vL)))) fun Xj=>(some (vL.length:Int)).bind fun fg=>(some (decide ((0:Int)<fg))).bind fun k8=>(bif k8 then(some (BZ.length:Int)).bind fun jS=>(some (decide ((2:Int)<jS))).bind fun lN=>(bif lN then some true else(some (vL.length:Int)).bind fun kz=>(some (decide ((2:Int)<kz))).bind fun lf=>some lf).bind fun E6=>some E6 else some false).bind fun E7=>Xj E7)) (gC,jN)).bind fun I5=>match I5 with|⟨Ga,Gb⟩=>(some (Gb.length:Int)).bind fun mw=>(some (decide ((mw:Int)=0))).bind fun qF=>(bif qF then(cG Ga).bind fun rU=>(bu false rU).bind fun⟨Bh,Bi⟩=>some ⟨Bh,Bi⟩else(cV Ga).bind fun rV=>(cV Gb).bind fun ur=>(cq (fun(Js:Nat×Nat)=>match Js with|⟨Bj,pA⟩=>(show Option ((Nat×Nat)⊕(Nat))from(some (decide ((0:Nat)<pA))).bind fun sI=>(bif sI then(At Bj pA).bind fun Jt=>some (.inl (pA,Jt))else some (.inr Bj)))) (rV,ur)).bind fun qN=>(cX false qN).bind fun⟨Ju,Jv⟩=>some ⟨Ju,Jv⟩)
end Go.Proofs.Ytningmnklfpfjaa
namespace Go.Proofs.Ytningmnklfpfjaa
open Go.Fw Go.Fw.Z Go.RowKit
theorem bX(c:Nat):Po Try.prog 79 [.v (.int .u64 (c:Nat))] 89 96 [.v (.int .u64 (c:Nat))]:=by
 refine EN Try.func79 rfl (Nat.le_of_ble_eq_true rfl) (fun cS M vs hvs=>?_)
 exact sr<|RT.uc .none (s:=.sv _) rfl T rfl rfl<|ag rfl<|dn<|sr<|RT.makeFunc .none (.box rfl (.nil)) T<|an (s:=.dV _ _) rfl<|dn<|aj<|⟨.inr rfl,_,.tmp rfl,rfl⟩
theorem jT(a b:List Nat):Pure Try.prog 88 [(slc 1 (List.map af a)),(slc 1 (List.map af b))] (gP 95 [ref [(slc 1 (List.map af a))],ref [(slc 1 (List.map af b))]]):=by
 refine ay Try.func88 rfl (Nat.le_of_ble_eq_true rfl) (fun cS M vs hvs=>?_)
 refine sr<|RT.uc .none (s:=.sv _) rfl T rfl rfl<|RT.uc .none (s:=.sv _) rfl T rfl rfl<|ag rfl<|dn<|sr<|RT.makeFunc .none (.box rfl (.box rfl (.nil))) T<|an (s:=.dV _ _) rfl<|dn<|bt (fX (i:=2) rfl [(slc 1 (List.map af a))] (.cons rfl .nil) .any 0 [(4,.dV 95 [.val (ref [(slc 1 (List.map af a))]),.box 3])] (fun _ _ _=>trivial) (oU.h (l:=[(slc 1 (List.map af a))])) ⟨@FT.dV _ _ _ _ _ 4 95 [.box 2,.box 3] rfl,trivial⟩) ?_
 exact bt (fX (i:=3) rfl [(slc 1 (List.map af b))] (.cons rfl .nil) .any 0 [(4,.dV 95 [.val (ref [(slc 1 (List.map af a))]),.val (ref [(slc 1 (List.map af b))])])] (fun _ _ _=>trivial) (oU.h (l:=[(slc 1 (List.map af b))])) ⟨@FT.dV _ _ _ _ _ 4 95 [.val (ref [(slc 1 (List.map af a))]),.box 3] rfl,trivial⟩)<|bt (ES 4 (gP 95 [ref [(slc 1 (List.map af a))],ref [(slc 1 (List.map af b))]]) (fun _ _ h=>ET h))<|aj<|⟨.inr rfl,EH (.tmp rfl (.nil)) rfl⟩
theorem jU(a b:List Nat):Iter Try.prog 95 [ref [(slc 1 (List.map af a))],ref [(slc 1 (List.map af b))]] (max a.length b.length) (fun k=>[.v (.int .u64 ((a.getD k 0%18446744073709551616:Nat):Int)),.v (.int .u64 ((b.getD k 0%18446744073709551616:Nat):Int))]):=by
 refine sV Try.func95 rfl rfl (Nat.le_of_ble_eq_true rfl) (fun cS M O l J hJ Ag hr=>?_)
 obtain⟨nf,Ag⟩:=Ag
 have hla:a.length≤9223372036854775807:=by cases nf with|nil=>exact Ag.elim|cons _ nf=>exact xG Ag.1
 have hlb:b.length≤9223372036854775807:=by cases nf with|nil=>exact Ag.elim|cons _ nf=>cases nf with|nil=>exact Ag.2.elim|cons _ _=>exact xG Ag.2.1
 refine aP ?_
 refine ah ?_
 refine RT.c9 .none rfl rfl (tl rfl) ?_
 refine RT.len .none rfl (tl rfl) ?_
 refine RT.c9 .none rfl rfl (tl rfl) ?_
 refine RT.len .none rfl (tl rfl) ?_
 refine RT.max .none (((max a.length b.length:Nat):Int)) rfl rfl (tl rfl) (by simp only[List.length_map];split<;>omega) ?_
 refine RT.mv .none rfl (tl rfl) ?_
 refine RT.done ?_
 refine ae.n ?_
 refine aq ?_
 refine xA (I:=fun x:{i:Nat//i≤max a.length b.length}=>AS.bR 39 [(0,.sv (.v (.func (.yield l) #[] #[]))),(1,.sv (ref [(slc 1 (List.map af a))])),(2,.sv (ref [(slc 1 (List.map af b))])),(11,.sv (.v (.int .i64 ((max a.length b.length:Nat):Int)))),(12,.sv (.v (.int .i64 ((x.1:Nat):Int))))] [] [] (x.1)) (μ:=fun x=>max a.length b.length-x.1) ⟨0,by omega⟩ (by(try dsimp only);exact dm id rfl rfl rfl rfl rfl ⟨.sv (by first|exact SV.aa _|exact SV.au (by omega)|exact SV.au (by push_cast;omega)|exact SV.au (by dsimp only;omega)|exact SV.imp_eq (by simp)),.sv (by first|exact SV.aa _|exact SV.au (by omega)|exact SV.au (by push_cast;omega)|exact SV.au (by dsimp only;omega)|exact SV.imp_eq (by simp)),.sv (by first|exact SV.aa _|exact SV.au (by omega)|exact SV.au (by push_cast;omega)|exact SV.au (by dsimp only;omega)|exact SV.imp_eq (by simp)),.sv (by first|exact SV.aa _|exact SV.au (by omega)|exact SV.au (by push_cast;omega)|exact SV.au (by dsimp only;omega)|exact SV.imp_eq (by simp)),.sv (by first|exact SV.aa _|exact SV.au (by omega)|exact SV.au (by push_cast;omega)|exact SV.au (by dsimp only;omega)|exact SV.imp_eq (by simp)),trivial⟩ trivial trivial (fun _ _=>rfl)) ?_
 rintro⟨i,Uj⟩
 try dsimp only
 rcases yy a b i Uj with⟨hi,wV,Aq⟩|⟨hi,wV,Aq⟩|⟨hi,wV,Aq⟩|hi
 ·
  refine aP ?_
  refine ah ?_
  refine RT.lss .none (true) rfl rfl (tl rfl) (by simp;omega) ?_
  refine RT.done ?_
  refine ae.n ?_
  refine aP ?_
  refine cE rfl ?_
  refine aG ?_
  refine ae.n ?_
  refine aP ?_
  refine aq ?_
  refine aP ?_
  refine ah ?_
  refine RT.mv .none rfl (tl rfl) ?_
  refine RT.BN .none rfl (tl rfl) ?_
  refine RT.done ?_
  refine ae.n ?_
  refine aP ?_
  refine ah ?_
  refine RT.BN .none rfl (tl rfl) ?_
  refine RT.BN .none rfl (tl rfl) ?_
  refine RT.done ?_
  refine ae.n ?_
  refine aP ?_
  refine aP ?_
  refine ah ?_
  refine RT.mv .none rfl (tl rfl) ?_
  refine RT.c9 .none rfl rfl (tl rfl) ?_
  refine RT.len .none rfl (tl rfl) ?_
  refine RT.lss .none (true) rfl rfl (tl rfl) (by simp only[List.length_map];simp;omega) ?_
  refine RT.done ?_
  refine ae.n ?_
  refine cE rfl ?_
  refine ah ?_
  refine RT.c9 .none rfl rfl (tl rfl) ?_
  refine RT.mv .none rfl (tl rfl) ?_
  refine RT.NJ .none [.v (.int .u32 ((a.getD i 0:Nat):Int))] (Int.natCast_nonneg i) (by rw[Int.toNat_natCast,List.getElem?_map,qD wV];rfl) rfl rfl (tl rfl) ?_
  refine RT.c9 .none rfl rfl (tl rfl) ?_
  refine RT.conv .none (((a.getD i 0%18446744073709551616:Nat):Int)) rfl (tl rfl) L9 ?_
  refine RT.BN .none rfl (tl rfl) ?_
  refine RT.done ?_
  refine ae.n ?_
  refine aP ?_
  refine aP ?_
  refine ah ?_
  refine RT.mv .none rfl (tl rfl) ?_
  refine RT.c9 .none rfl rfl (tl rfl) ?_
  refine RT.len .none rfl (tl rfl) ?_
  refine RT.lss .none (true) rfl rfl (tl rfl) (by simp only[List.length_map];simp;omega) ?_
  refine RT.done ?_
  refine ae.n ?_
  refine cE rfl ?_
  refine ah ?_
  refine RT.c9 .none rfl rfl (tl rfl) ?_
  refine RT.mv .none rfl (tl rfl) ?_
  refine RT.NJ .none [.v (.int .u32 ((b.getD i 0:Nat):Int))] (Int.natCast_nonneg i) (by rw[Int.toNat_natCast,List.getElem?_map,qD Aq];rfl) rfl rfl (tl rfl) ?_
  refine RT.c9 .none rfl rfl (tl rfl) ?_
  refine RT.conv .none (((b.getD i 0%18446744073709551616:Nat):Int)) rfl (tl rfl) L9 ?_
  refine RT.BN .none rfl (tl rfl) ?_
  refine RT.done ?_
  refine ae.n ?_
  refine aP ?_
  refine ah ?_
  refine RT.mv .none rfl (tl rfl) ?_
  refine RT.mv .none rfl (tl rfl) ?_
  refine RT.mv .none rfl (tl rfl) ?_
  refine RT.yield .none hr rfl (fun _ h=>h) rfl (i) rfl rfl hi (by exact⟨rfl,rfl,trivial⟩) (tl rfl) (fun yb=>?_)
  cases yb
  ·
   refine RT.not .none rfl (tl rfl) true rfl ?_
   refine RT.done ?_
   refine ae.n ?_
   refine cE rfl ?_
   refine aj ?_
   refine aH.r ?_
   refine ae.r ?_
   refine ae.r ?_
   refine aH.r ?_
   exact⟨.inr rfl,(fun h=>by cases h)⟩
  ·
   refine RT.not .none rfl (tl rfl) false rfl ?_
   refine RT.done ?_
   refine ae.n ?_
   refine eE rfl ?_
   refine aG ?_
   refine aH.n ?_
   refine ae.n ?_
   refine ah ?_
   refine RT.add .none (((i:Nat):Int)+1) rfl rfl (tl rfl) (lM (by omega)) ?_
   refine RT.mv .none rfl (tl rfl) ?_
   refine RT.done ?_
   refine ae.n ?_
   refine⟨⟨i+1,by omega⟩,(by dsimp only;omega),?_⟩
   try dsimp only
   exact dm id rfl rfl rfl rfl rfl ⟨.sv (by first|exact SV.aa _|exact SV.au (by omega)|exact SV.au (by push_cast;omega)|exact SV.au (by dsimp only;omega)|exact SV.imp_eq (by simp)),.sv (by first|exact SV.aa _|exact SV.au (by omega)|exact SV.au (by push_cast;omega)|exact SV.au (by dsimp only;omega)|exact SV.imp_eq (by simp)),.sv (by first|exact SV.aa _|exact SV.au (by omega)|exact SV.au (by push_cast;omega)|exact SV.au (by dsimp only;omega)|exact SV.imp_eq (by simp)),.sv (by first|exact SV.aa _|exact SV.au (by omega)|exact SV.au (by push_cast;omega)|exact SV.au (by dsimp only;omega)|exact SV.imp_eq (by simp)),.sv (by first|exact SV.aa _|exact SV.au (by omega)|exact SV.au (by push_cast;omega)|exact SV.au (by dsimp only;omega)|exact SV.imp_eq (by simp)),trivial⟩ trivial trivial (fun _ _=>rfl)
 ·
  refine aP ?_
  refine ah ?_
  refine RT.lss .none (true) rfl rfl (tl rfl) (by simp;omega) ?_
  refine RT.done ?_
  refine ae.n ?_
  refine aP ?_
  refine cE rfl ?_
  refine aG ?_
  refine ae.n ?_
  refine aP ?_
  refine aq ?_
  refine aP ?_
  refine ah ?_
  refine RT.mv .none rfl (tl rfl) ?_
  refine RT.BN .none rfl (tl rfl) ?_
  refine RT.done ?_
  refine ae.n ?_
  refine aP ?_
  refine ah ?_
  refine RT.BN .none rfl (tl rfl) ?_
  refine RT.BN .none rfl (tl rfl) ?_
  refine RT.done ?_
  refine ae.n ?_
  refine aP ?_
  refine aP ?_
  refine ah ?_
  refine RT.mv .none rfl (tl rfl) ?_
  refine RT.c9 .none rfl rfl (tl rfl) ?_
  refine RT.len .none rfl (tl rfl) ?_
  refine RT.lss .none (true) rfl rfl (tl rfl) (by simp only[List.length_map];simp;omega) ?_
  refine RT.done ?_
  refine ae.n ?_
  refine cE rfl ?_
  refine ah ?_
  refine RT.c9 .none rfl rfl (tl rfl) ?_
  refine RT.mv .none rfl (tl rfl) ?_
  refine RT.NJ .none [.v (.int .u32 ((a.getD i 0:Nat):Int))] (Int.natCast_nonneg i) (by rw[Int.toNat_natCast,List.getElem?_map,qD wV];rfl) rfl rfl (tl rfl) ?_
  refine RT.c9 .none rfl rfl (tl rfl) ?_
  refine RT.conv .none (((a.getD i 0%18446744073709551616:Nat):Int)) rfl (tl rfl) L9 ?_
  refine RT.BN .none rfl (tl rfl) ?_
  refine RT.done ?_
  refine ae.n ?_
  refine aP ?_
  refine aP ?_
  refine ah ?_
  refine RT.mv .none rfl (tl rfl) ?_
  refine RT.c9 .none rfl rfl (tl rfl) ?_
  refine RT.len .none rfl (tl rfl) ?_
  refine RT.lss .none (false) rfl rfl (tl rfl) (by simp only[List.length_map];simp;omega) ?_
  refine RT.done ?_
  refine ae.n ?_
  refine eE rfl ?_
  refine aG ?_
  refine ae.n ?_
  refine aP ?_
  refine ah ?_
  refine RT.mv .none rfl (tl rfl) ?_
  refine RT.mv .none rfl (tl rfl) ?_
  refine RT.mv .none rfl (tl rfl) ?_
  refine RT.yield .none hr rfl (fun _ h=>h) rfl (i) rfl rfl hi (by exact⟨rfl,(by show AV.sv _=AV.sv _;rw[s9 Aq];rfl),trivial⟩) (tl rfl) (fun yb=>?_)
  cases yb
  ·
   refine RT.not .none rfl (tl rfl) true rfl ?_
   refine RT.done ?_
   refine ae.n ?_
   refine cE rfl ?_
   refine aj ?_
   refine aH.r ?_
   refine ae.r ?_
   refine ae.r ?_
   refine aH.r ?_
   exact⟨.inr rfl,(fun h=>by cases h)⟩
  ·
   refine RT.not .none rfl (tl rfl) false rfl ?_
   refine RT.done ?_
   refine ae.n ?_
   refine eE rfl ?_
   refine aG ?_
   refine aH.n ?_
   refine ae.n ?_
   refine ah ?_
   refine RT.add .none (((i:Nat):Int)+1) rfl rfl (tl rfl) (lM (by omega)) ?_
   refine RT.mv .none rfl (tl rfl) ?_
   refine RT.done ?_
   refine ae.n ?_
   refine⟨⟨i+1,by omega⟩,(by dsimp only;omega),?_⟩
   try dsimp only
   exact dm id rfl rfl rfl rfl rfl ⟨.sv (by first|exact SV.aa _|exact SV.au (by omega)|exact SV.au (by push_cast;omega)|exact SV.au (by dsimp only;omega)|exact SV.imp_eq (by simp)),.sv (by first|exact SV.aa _|exact SV.au (by omega)|exact SV.au (by push_cast;omega)|exact SV.au (by dsimp only;omega)|exact SV.imp_eq (by simp)),.sv (by first|exact SV.aa _|exact SV.au (by omega)|exact SV.au (by push_cast;omega)|exact SV.au (by dsimp only;omega)|exact SV.imp_eq (by simp)),.sv (by first|exact SV.aa _|exact SV.au (by omega)|exact SV.au (by push_cast;omega)|exact SV.au (by dsimp only;omega)|exact SV.imp_eq (by simp)),.sv (by first|exact SV.aa _|exact SV.au (by omega)|exact SV.au (by push_cast;omega)|exact SV.au (by dsimp only;omega)|exact SV.imp_eq (by simp)),trivial⟩ trivial trivial (fun _ _=>rfl)
 ·
  refine aP ?_
  refine ah ?_
  refine RT.lss .none (true) rfl rfl (tl rfl) (by simp;omega) ?_
  refine RT.done ?_
  refine ae.n ?_
  refine aP ?_
  refine cE rfl ?_
  refine aG ?_
  refine ae.n ?_
  refine aP ?_
  refine aq ?_
  refine aP ?_
  refine ah ?_
  refine RT.mv .none rfl (tl rfl) ?_
  refine RT.BN .none rfl (tl rfl) ?_
  refine RT.done ?_
  refine ae.n ?_
  refine aP ?_
  refine ah ?_
  refine RT.BN .none rfl (tl rfl) ?_
  refine RT.BN .none rfl (tl rfl) ?_
  refine RT.done ?_
  refine ae.n ?_
  refine aP ?_
  refine aP ?_
  refine ah ?_
  refine RT.mv .none rfl (tl rfl) ?_
  refine RT.c9 .none rfl rfl (tl rfl) ?_
  refine RT.len .none rfl (tl rfl) ?_
  refine RT.lss .none (false) rfl rfl (tl rfl) (by simp only[List.length_map];simp;omega) ?_
  refine RT.done ?_
  refine ae.n ?_
  refine eE rfl ?_
  refine aG ?_
  refine ae.n ?_
  refine aP ?_
  refine aP ?_
  refine ah ?_
  refine RT.mv .none rfl (tl rfl) ?_
  refine RT.c9 .none rfl rfl (tl rfl) ?_
  refine RT.len .none rfl (tl rfl) ?_
  refine RT.lss .none (true) rfl rfl (tl rfl) (by simp only[List.length_map];simp;omega) ?_
  refine RT.done ?_
  refine ae.n ?_
  refine cE rfl ?_
  refine ah ?_
  refine RT.c9 .none rfl rfl (tl rfl) ?_
  refine RT.mv .none rfl (tl rfl) ?_
  refine RT.NJ .none [.v (.int .u32 ((b.getD i 0:Nat):Int))] (Int.natCast_nonneg i) (by rw[Int.toNat_natCast,List.getElem?_map,qD Aq];rfl) rfl rfl (tl rfl) ?_
  refine RT.c9 .none rfl rfl (tl rfl) ?_
  refine RT.conv .none (((b.getD i 0%18446744073709551616:Nat):Int)) rfl (tl rfl) L9 ?_
  refine RT.BN .none rfl (tl rfl) ?_
  refine RT.done ?_
  refine ae.n ?_
  refine aP ?_
  refine ah ?_
  refine RT.mv .none rfl (tl rfl) ?_
  refine RT.mv .none rfl (tl rfl) ?_
  refine RT.mv .none rfl (tl rfl) ?_
  refine RT.yield .none hr rfl (fun _ h=>h) rfl (i) rfl rfl hi (by exact⟨(by show AV.sv _=AV.sv _;rw[s9 wV];rfl),rfl,trivial⟩) (tl rfl) (fun yb=>?_)
  cases yb
  ·
   refine RT.not .none rfl (tl rfl) true rfl ?_
   refine RT.done ?_
   refine ae.n ?_
   refine cE rfl ?_
   refine aj ?_
   refine aH.r ?_
   refine ae.r ?_
   refine ae.r ?_
   refine aH.r ?_
   exact⟨.inr rfl,(fun h=>by cases h)⟩
  ·
   refine RT.not .none rfl (tl rfl) false rfl ?_
   refine RT.done ?_
   refine ae.n ?_
   refine eE rfl ?_
   refine aG ?_
   refine aH.n ?_
   refine ae.n ?_
   refine ah ?_
   refine RT.add .none (((i:Nat):Int)+1) rfl rfl (tl rfl) (lM (by omega)) ?_
   refine RT.mv .none rfl (tl rfl) ?_
   refine RT.done ?_
   refine ae.n ?_
   refine⟨⟨i+1,by omega⟩,(by dsimp only;omega),?_⟩
   try dsimp only
   exact dm id rfl rfl rfl rfl rfl ⟨.sv (by first|exact SV.aa _|exact SV.au (by omega)|exact SV.au (by push_cast;omega)|exact SV.au (by dsimp only;omega)|exact SV.imp_eq (by simp)),.sv (by first|exact SV.aa _|exact SV.au (by omega)|exact SV.au (by push_cast;omega)|exact SV.au (by dsimp only;omega)|exact SV.imp_eq (by simp)),.sv (by first|exact SV.aa _|exact SV.au (by omega)|exact SV.au (by push_cast;omega)|exact SV.au (by dsimp only;omega)|exact SV.imp_eq (by simp)),.sv (by first|exact SV.aa _|exact SV.au (by omega)|exact SV.au (by push_cast;omega)|exact SV.au (by dsimp only;omega)|exact SV.imp_eq (by simp)),.sv (by first|exact SV.aa _|exact SV.au (by omega)|exact SV.au (by push_cast;omega)|exact SV.au (by dsimp only;omega)|exact SV.imp_eq (by simp)),trivial⟩ trivial trivial (fun _ _=>rfl)
 ·
  subst hi
  refine aP ?_
  refine ah ?_
  refine RT.lss .none (false) rfl rfl (tl rfl) (by simp) ?_
  refine RT.done ?_
  refine ae.n ?_
  refine aP ?_
  refine eE rfl ?_
  refine bj ?_
  refine ae.x ?_
  refine ae.x ?_
  refine aH.x ?_
  exact⟨.inl rfl,(fun _=>rfl)⟩
theorem lO{x0 r:List Nat}(h:cG x0=some r):Pure Try.prog 75 [slc 1 (List.map af x0)] (slc 1 (List.map af r)):=by
 refine ay Try.func75 rfl (Nat.le_of_ble_eq_true rfl) (fun cS M vs hvs=>?_)
 unfold cG at h
 refine sr<|aI rfl (imp_nil (n:=1) (e:=af))<|dn<|qq<|sr<|mv rfl ?_
 refine RT.NO .none rfl T (fun nb hnb=>?_)
 cases nb
 exact dn<|fs<|sr<|RT.F6 (l:=([]:List Nat)) (e:=af) .none .nil T rfl T rfl rfl rfl rfl rfl rfl<|mv rfl<|RT.PA (k:=x0) (e:=af) .none rfl rfl rfl T rfl T h<|ag rfl<|dn<|aj<|RZ (.tmp rfl .nil)
 have hx:x0=[]:=by simpa using hnb rfl
 subst hx
 obtain⟨_,_,rfl⟩:=qA h
 exact dn<|cT<|sr<|aI rfl (imp_nil (n:=1) (e:=af))<|dn<|aj<|ae.r<|RZ (.tmp rfl .nil)
theorem kK{x0 r:List Nat}(h:cG x0=some r):BO Try.prog 75 [slc 1 (List.map af x0)] (TR 110 1 af r):=by
 refine yo Try.func75 rfl (Nat.le_of_ble_eq_true rfl) (fun cS M vs hvs=>?_)
 unfold cG at h
 refine sr<|ag rfl<|dn<|qq<|sr<|mv rfl ?_
 refine RT.NO .none rfl T (fun nb hnb=>?_)
 cases nb
 exact dn<|fs<|sr<|RT.F6 (l:=([]:List Nat)) (e:=af) .none .nil T rfl T rfl rfl rfl rfl rfl rfl<|mv rfl<|aR (k:=x0) (e:=af) rfl rfl rfl h<|an (s:=.row _) rfl<|dn<|aj<|⟨.inr rfl,_,.tmp rfl,rfl⟩
 have hx:x0=[]:=by simpa using hnb rfl
 subst hx
 obtain⟨_,_,rfl⟩:=qA h
 exact dn<|cT<|sr<|ag rfl<|dn<|bt (jo 2 300 110 1 rfl rfl T)<|aj<|ae.r<|⟨.inr rfl,_,.tmp rfl,rfl⟩
theorem aO{x0:Nat}{c0:Nat}{r:Nat×Nat}(h:aT x0 c0=some r):L4 Try.prog 89 [.v (.int .u64 ((x0:Nat):Int))] 96 [.v (.int .u64 ((c0:Nat):Int))] (.v (.int .u32 ((r.1:Nat):Int))) [.v (.int .u64 ((r.2:Nat):Int))]:=by
 refine EM Try.func89 rfl (Nat.le_of_ble_eq_true rfl) (fun cS M β=>?_)
 unfold aT at h
 refine sr<|ag rfl<|dn<|sr<|mv rfl<|lV rfl rfl rfl<|lE h fun x6 h6 h=>ad _ rfl rfl (UK.add (a:=x0) (b:=c0) h6)<|ag rfl<|dn<|sr<|mv rfl<|lE h fun x8 h8 h=>RT.shr .none _ rfl rfl T (by decide) (wZ (k:=.u64) (a:=x6) (q:=32) (s:=32) rfl h8)<|RT.nF (cells:=[_]) .none (s:=.sv _) rfl rfl rfl T rfl<|dn<|sr<|mv rfl<|lE h fun dW fP h=>cv _ rfl (UK.nat fP)<|ag rfl ?_
 refine dn<|aj ?_
 obtain rfl:=O h
 exact⟨.inr rfl,fT (.tmp rfl (.nil)) (SV.aa _),rfl⟩
theorem aK{x0:List Nat}{r:List Nat}(h:aB x0=some r):Pure Try.prog 65 [slc 1 (List.map af x0)] (slc 1 (List.map af r)):=by
 refine ay Try.func65 rfl (Nat.le_of_ble_eq_true rfl) (fun cS M vs hvs=>?_)
 unfold aB at h
 refine sr<|aI rfl (imp_nil (n:=1) (e:=af))<|dn<|qq<|bE h fun P9 E8 B0=>?_
 refine aW (fun(yA:(List Nat))=>AS.bR 21 [(0,.sv (slc 1 (List.map af yA)))] [] []) (fun yA=>yA=P9) ?_ (fun yA E9=>?_)
 refine aq ?_
 refine aX E8 (fun Dg=>AS.bR 21 [(0,.sv (slc 1 (List.map af Dg)))] [] []) (wR []) (fun w5 Xk Xl h Fa Dk=>?_)
 try dsimp only
 refine qq<|qq ?_
 refine aF h (fun Ml=>AS.bR 21 [(0,.sv (slc 1 (List.map af w5))),(14,.sv (.v (.bool Ml)))] [] []) (fun h=>?_) (fun yz h=>?_)
 refine ah<|mv rfl<|lE h fun x4 h4 h=>ln rfl h4<|lE h fun x5 h5 h=>gt _ rfl rfl h5<|mv rfl<|bE h fun EW gu h=>?_
 cases x5
 obtain rfl:=O (F gu)
 exact ww<|ww<|ww<|ww<|ww<|ww<|ww<|pF rfl<|dn<|⟨false,h,wR []⟩
 refine gm rfl<|gm rfl<|lE (V gu) fun x9 h9 gu=>gn rfl h9<|lE gu fun dW fP gu=>RT.sub (.some rfl rfl) _ rfl rfl T fP<|bE gu fun iz me gu=>RT.ixM (.some rfl rfl) rfl rfl T me<|gr rfl rfl<|lE gu fun gC fS gu=>TV _ rfl rfl (SU (p:=iz) (q:=0) fS) ?_
 obtain rfl:=O gu
 exact pT rfl<|dn<|⟨gC,h,wR []⟩
 try dsimp only
 refine ae.n ?_
 cases yz
 refine cF<|bj<|ae.x<|ae.x<|aH.x<|ae.n ?_
 obtain rfl:=O (F h)
 exact⟨w5,Dk _ rfl,wR []⟩
 refine cT<|aG<|ae.n<|aq<|ah<|mv rfl<|mv rfl<|lE (V h) fun fR kL h=>ln rfl kL<|lE h fun fg ij h=>sb _ rfl rfl ij<|bE h fun k8 jM h=>RT.EV .none 0 fg rfl rfl ⟨_,rfl⟩ T jM<|ag rfl<|RT.done<|aH.n ?_
 obtain rfl:=O h
 exact ae.n ⟨k8,Fa _ rfl,wR []⟩
 subst E9
 try dsimp only
 refine ae.n<|sr<|mv rfl<|ag rfl<|dn<|aj ?_
 obtain rfl:=O B0
 exact R1 rfl
theorem ec{x0:Bool}{x1:List Nat}{r:Zr}(h:bu x0 x1=some r):Pure Try.prog 72 [.v (.bool x0),slc 1 (List.map af x1)] (.agg (eZ r)):=by
 refine ay Try.func72 rfl (Nat.le_of_ble_eq_true rfl) (fun cS M vs hvs=>?_)
 unfold bu at h
 refine sr<|al (cs:=[.v (.bool false),slc 1 (List.map af [])]) (by exact⟨SV.aa _,imp_nil,trivial⟩) rfl<|dn<|sr<|mv rfl<|bE h fun x6 h6 h=>cl (aK h6) ⟨rfl,trivial⟩<|ag rfl<|dn<|qq<|sr<|mv rfl<|lE h fun x8 h8 h=>ln rfl h8<|lE h fun x9 h9 h=>eq _ rfl rfl (rR (p:=x8) (q:=0) h9)<|dn ?_
 cases x9
 refine fs<|sr<|mv rfl<|mv rfl<|bI (cs:=[_,_]) (cs':=[.v (.bool x0),slc 1 (List.map af x6)]) (.one rfl (.one rfl (.nil))) ⟨SV.aa _,SV.aa _,trivial⟩<|so rfl rfl rfl<|dn<|aj ?_
 obtain rfl:=O (F h)
 exact RZ (.agg rfl rfl (.cons rfl (.cons rfl (.nil))) rfl (.nil))
 refine cT<|sr<|bI (cs:=[_,_]) (cs':=[.v (.bool false),slc 1 (List.map af [])]) (.nil) ⟨SV.aa _,imp_nil,trivial⟩<|so rfl rfl rfl<|dn<|aj<|ae.r ?_
 obtain rfl:=O (V h)
 exact RZ (.agg rfl rfl (.cons rfl (.cons rfl (.nil))) rfl (.nil))
theorem iJ{x0:Bool}{x1:Nat}{r:Zr}(h:cX x0 x1=some r):Pure Try.prog 60 [.v (.bool x0),.v (.int .u64 ((x1:Nat):Int))] (.agg (eZ r)):=by
 refine ay Try.func60 rfl (Nat.le_of_ble_eq_true rfl) (fun cS M vs hvs=>?_)
 unfold cX at h
 refine sr<|al (cs:=[.v (.bool false),slc 1 (List.map af [])]) (by exact⟨SV.aa _,imp_nil,trivial⟩) rfl<|dn<|qq<|aq<|sr<|mv rfl<|lE h fun x7 h7 h=>eq _ rfl rfl (SU (p:=x1) (q:=0) h7)<|ag rfl<|dn ?_
 cases x7
 refine cF<|sr<|mv rfl<|lE (F h) fun iz me h=>RT.shr .none _ rfl rfl T (by decide) (wZ (k:=.u64) (a:=x1) (q:=32) (s:=32) rfl me)<|lE h fun eG fE h=>eq _ rfl rfl (SU (p:=iz) (q:=0) fE)<|ag rfl<|dn ?_
 cases eG
 refine cF<|aG<|aH.n<|ae.n<|sr<|mv rfl<|mv rfl<|lE (F h) fun gx lz h=>cv _ rfl (UK.nat lz)<|mv rfl<|lE h fun jS nN h=>RT.shr .none _ rfl rfl T (by decide) (wZ (k:=.u64) (a:=x1) (q:=32) (s:=32) rfl nN)<|lE h fun lN sj h=>cv _ rfl (UK.nat sj)<|bl (l:=[gx,lN]) (e:=af) (.one rfl (.one rfl (.nil))) rfl rfl rfl rfl rfl rfl<|bI (cs:=[_,_]) (cs':=[.v (.bool x0),slc 1 (List.map af [gx,lN])]) (.one rfl (.one rfl (.nil))) ⟨SV.aa _,SV.aa _,trivial⟩ ?_
 refine so rfl rfl rfl<|dn<|aj ?_
 obtain rfl:=O h
 exact RZ (.agg rfl rfl (.cons rfl (.cons rfl (.nil))) rfl (.nil))
 refine cT<|sr<|mv rfl<|mv rfl<|lE (V h) fun fC gG h=>cv _ rfl (UK.nat gG)<|bl (l:=[fC]) (e:=af) (.one rfl (.nil)) rfl rfl rfl rfl rfl rfl<|bI (cs:=[_,_]) (cs':=[.v (.bool x0),slc 1 (List.map af [fC])]) (.one rfl (.one rfl (.nil))) ⟨SV.aa _,SV.aa _,trivial⟩<|so rfl rfl rfl<|dn<|aj<|aH.r<|ae.r ?_
 obtain rfl:=O h
 exact RZ (.agg rfl rfl (.cons rfl (.cons rfl (.nil))) rfl (.nil))
 refine cT<|sr<|bI (cs:=[_,_]) (cs':=[.v (.bool false),slc 1 (List.map af [])]) (.nil) ⟨SV.aa _,imp_nil,trivial⟩<|so rfl rfl rfl<|dn<|aj<|aH.r<|ae.r ?_
 obtain rfl:=O (V h)
 exact RZ (.agg rfl rfl (.cons rfl (.cons rfl (.nil))) rfl (.nil))
theorem cL{x0:List Nat}{r:Nat}(h:cV x0=some r):Pure Try.prog 71 [slc 1 (List.map af x0)] (.v (.int .u64 ((r:Nat):Int))):=by
 refine ay Try.func71 rfl (Nat.le_of_ble_eq_true rfl) (fun cS M vs hvs=>?_)
 unfold cV at h
 refine sr<|ag rfl<|dn<|qq<|sr<|mv rfl<|lE h fun x4 h4 h=>ln rfl h4<|dn<|aq<|sr<|lE h fun x6 h6 h=>eq _ rfl rfl (rR (p:=x4) (q:=0) h6)<|ag rfl<|dn ?_
 cases x6
 refine cF<|sr<|lE (F h) fun x8 h8 h=>eq _ rfl rfl (rR (p:=x4) (q:=1) h8)<|ag rfl<|dn ?_
 cases x8
 refine cF<|aG<|aH.n<|ae.n<|qq<|ai mixed<|mv rfl<|bE (F h) fun gY ku h=>ix rfl rfl ku<|lr rfl rfl<|lE h fun jN lA h=>cv _ rfl (UK.nat lA)<|mv rfl<|bE h fun fg ij h=>ix rfl rfl ij<|lr rfl rfl<|lE h fun gx lz h=>cv _ rfl (UK.nat lz)<|lE h fun mc qO h=>RT.shl .none _ rfl rfl T (by decide) (UK.shl (a:=gx) (q:=32) (s:=32) rfl qO)<|lE h fun jS nN h=>RT.or .none _ rfl rfl T (UK.or (a:=jN) (b:=mc) nN) ?_
 refine ag rfl ?_
 refine RT.done ⟨by kernel_rfl,?_⟩
 refine ae.n<|aj ?_
 obtain rfl:=O h
 exact R1 rfl
 refine cT<|sr<|mv rfl<|bE (V h) fun dW fP h=>ix rfl rfl fP<|lr rfl rfl<|lE h fun eG fE h=>cv _ rfl (UK.nat fE)<|ag rfl<|dn<|aj<|aH.r<|ae.r ?_
 obtain rfl:=O h
 exact R1 rfl
 refine cT<|sr<|ag rfl<|dn<|aj<|aH.r<|ae.r ?_
 obtain rfl:=O (V h)
 exact R1 rfl
theorem cW{x0:List Nat}{x1:List Nat}{r:Int}(h:cc x0 x1=some r):Pure Try.prog 70 [slc 1 (List.map af x0),slc 1 (List.map af x1)] (.v (.int .i64 r)):=by
 refine ay Try.func70 rfl (Nat.le_of_ble_eq_true rfl) (fun cS M vs hvs=>?_)
 unfold cc at h
 refine sr<|ag rfl<|dn<|qq<|sr<|mv rfl<|lE h fun x7 h7 h=>ln rfl h7<|mv rfl<|lE h fun x9 h9 h=>ln rfl h9<|lE h fun dW fP h=>ne _ rfl rfl (F5 (p:=x7) (q:=x9) fP)<|dn ?_
 cases dW
 refine fs<|qq<|sr<|mv rfl<|lE (F h) fun fR kL h=>ln rfl kL<|lE h fun fg ij h=>sb _ rfl rfl ij<|ag rfl<|dn<|bE h fun e6 G9 jn=>?_
 refine aW (fun(Jw:Unit)=>AS.bR 41 [] [] []) (fun Jw=>.inl Jw=e6) ?_ (fun Jw He=>?_)
 refine aq ?_
 refine aX G9 (fun s6=>AS.bR 41 [(0,.sv (slc 1 (List.map af x0))),(1,.sv (slc 1 (List.map af x1))),(5,.sv (.v (.int .i64 s6)))] [] []) (wR []) (fun oc y6 G6 h Hf Dl=>?_)
 try dsimp only
 refine qq<|sr<|mv rfl<|lE h fun gx lz h=>ge _ rfl rfl lz<|dn ?_
 cases gx
 refine cF<|bj<|ae.x<|ae.x<|aH.x<|ae.n ?_
 obtain rfl:=O (F h)
 exact⟨(),Dl _ rfl,wR []⟩
 refine cT<|aG<|ae.n<|qq<|aq<|qq<|ai mixed<|mv rfl<|mv rfl<|bE (V h) fun vp pB h=>ix rfl rfl pB<|lr rfl rfl<|mv rfl<|mv rfl<|bE h fun gO iK h=>ix rfl rfl iK<|lr rfl rfl<|lE h fun qg uA h=>ne _ rfl rfl (VR (p:=vp) (q:=gO) uA) ?_
 refine RT.done ⟨by kernel_rfl,?_⟩
 refine ae.n ?_
 cases qg
 refine cF<|aG<|aH.n<|ae.n<|ah<|mv rfl<|lE (F h) fun jS nN h=>sb _ rfl rfl nN<|ag rfl<|RT.done ?_
 obtain rfl:=O h
 exact ae.n ⟨jS,Hf _ rfl,wR []⟩
 refine cT<|qq<|qq<|ai mixed<|mv rfl<|mv rfl<|bE (V h) fun nY pC h=>ix rfl rfl pC<|lr rfl rfl<|mv rfl<|mv rfl<|bE h fun w6 Dm h=>ix rfl rfl Dm<|lr rfl rfl<|lE h fun mw nh h=>ls _ rfl rfl (TK (p:=nY) (q:=w6) nh) ?_
 refine RT.done ⟨by kernel_rfl,?_⟩
 refine ae.n ?_
 cases mw
 refine fs<|sr<|ag rfl<|dn<|aj<|aH.r<|ae.r ?_
 obtain rfl:=O (F h)
 have Qa:=Dl _ rfl
 subst Qa
 refine ae.r<|aH.r<|ae.r<|ae.r ?_
 obtain rfl:=O jn
 exact R1 rfl
 refine cT<|sr<|ag rfl<|dn<|aj<|ae.r<|aH.r<|ae.r ?_
 obtain rfl:=O (V h)
 have Qa:=Dl _ rfl
 subst Qa
 refine ae.r<|aH.r<|ae.r<|ae.r ?_
 obtain rfl:=O jn
 exact R1 rfl
 subst He
 try dsimp only
 refine ae.n<|sr<|ag rfl<|dn<|aj ?_
 obtain rfl:=O jn
 exact R1 rfl
 refine cT<|qq<|sr<|mv rfl<|lE (V h) fun eG fE h=>ln rfl fE<|mv rfl<|lE h fun gY ku h=>ln rfl ku<|lE h fun fC gG h=>ls _ rfl rfl gG<|dn ?_
 cases fC
 refine fs<|sr<|ag rfl<|dn<|aj<|ae.r ?_
 obtain rfl:=O (F h)
 exact R1 rfl
 refine cT<|sr<|ag rfl<|dn<|aj<|ae.r<|ae.r ?_
 obtain rfl:=O (V h)
 exact R1 rfl
theorem ni{x0:List Nat}{x1:List Nat}{r:List Nat}(h:cK x0 x1=some r):Pure Try.prog 77 [slc 1 (List.map af x0),slc 1 (List.map af x1)] (slc 1 (List.map af r)):=by
 refine ay Try.func77 rfl (Nat.le_of_ble_eq_true rfl) (fun cS M vs hvs=>?_)
 unfold cK at h
 refine sr<|aI rfl (imp_nil (n:=1) (e:=af))<|dn<|sr<|mv rfl<|lE h fun dW fP h=>ln rfl fP<|mv rfl<|lE h fun eG fE h=>ln rfl fE<|lE h fun gC fS h=>RT.max .none _ rfl rfl T (EU (p:=dW) (q:=eG) fS)<|lE h fun gY ku h=>ad _ rfl rfl ku<|bE h fun fC gG h=>RT.sE (e:=af) .none rfl rfl T rfl T gG<|RT.alloc .none T rfl rfl<|RT.gA (cells:=[_]) .none rfl rfl rfl rfl T rfl<|dn<|sr<|RT.qy .none (bX 0) rfl ⟨rfl,trivial⟩ T rfl rfl ?_
 refine RT.alloc .none T rfl rfl<|RT.nF (cells:=[_]) .none (s:=.dV _ _) rfl rfl rfl T rfl<|dn<|qq<|sr<|mv rfl<|mv rfl<|cl (jT x0 x1) ⟨rfl,rfl,trivial⟩<|dn<|aq<|bE h fun e7 Qb Fb=>?_
 obtain⟨Fe,Qc,Qd,Qe⟩:=jc Qb
 refine fB (jU x0 x1) (fun _ _ _ _ _=>trivial) rfl (fun k=>AS.bR 35 [(5,.ptr 5 0),(6,.ptr 6 0),(19,.sv (gP 95 [ref [slc 1 (List.map af x0)],ref [slc 1 (List.map af x1)]]))] [(6,⟨118,[.dV 89 [.box 16]]⟩),(16,⟨96,[.sv (.v (.int .u64 (((Fe k).1:Nat):Int)))]⟩),(5,⟨48,[.row 302]⟩)] [(302,TR 110 1 af (Fe k).2)]) [6,16,5] rfl (fun _=>⟨rfl,rfl⟩) (nJ rfl) (fun _=>rfl) (nK rfl) (by(try dsimp only);rw[Qc];(try dsimp only);exact dm (fun i=>bif Nat.beq i 302 then 15 else i) rfl rfl rfl rfl rfl ⟨.ptr,.ptr,.sv (SV.aa _),trivial⟩ ⟨⟨_,rfl,⟨.dV,trivial⟩⟩,⟨_,rfl,⟨.sv (SV.aa _),trivial⟩⟩,⟨_,rfl,⟨.row rfl,trivial⟩⟩,trivial⟩ ⟨⟨_,rfl,bT.refl _⟩,trivial⟩ (fun i hi=>by rw[bU (show i≠302 by omega)];rfl)) (fun k hk D hD=>?_) ?_
 have h:=Qd k hk
 obtain⟨sk,Ff⟩:∃q,Fe k=q:=⟨_,rfl⟩
 rw[Ff]at h⊢
 obtain⟨oZ,fo⟩:=sk
 dsimp only[AS.HX,n8]
 try dsimp only at h
 refine lE h fun TW yQ h=>?_
 rw[yQ]
 refine lE h fun TX Qf h=>?_
 rw[Qf]
 refine sr<|ag rfl<|dn<|ah<|ag rfl<|RT.done ?_
 refine ae.n ⟨rfl,?_⟩
 dsimp only[AS.wY]
 refine aq<|ai mixed<|RT.dR .none (s:=.row _) rfl rfl rfl T<|RT.dR .none (s:=.dV _ _) rfl rfl rfl T<|mv rfl<|mv rfl<|lE h fun kz nO h=>ad _ rfl rfl (UK.add (a:=TW) (b:=TX) nO) ?_
 obtain⟨⟨lf,k9⟩,oR,h⟩:=bS h
 refine cB (aO oR) 16 rfl ⟨rfl,trivial⟩<|bl (l:=[lf]) (e:=af) (.one rfl (.nil)) rfl rfl rfl rfl rfl rfl<|bE h fun gO iK h=>aR (k:=[lf]) (e:=af) rfl rfl rfl iK<|RT.gA (cells:=[_]) .none rfl rfl rfl rfl T rfl ?_
 refine RT.done ⟨by kernel_rfl,?_⟩
 refine aH.n ?_
 replace h:=Option.some.inj h
 refine⟨trivial,rfl,rfl,?_⟩
 try dsimp only
 rw[←h]
 try dsimp only
 exact dm (fun i=>bif Nat.beq i 302 then 29 else i) rfl rfl rfl rfl rfl ⟨.ptr,.ptr,.sv (SV.aa _),trivial⟩ ⟨⟨_,rfl,⟨.dV,trivial⟩⟩,⟨_,rfl,⟨.sv (SV.aa _),trivial⟩⟩,⟨_,rfl,⟨.row rfl,trivial⟩⟩,trivial⟩ ⟨⟨_,rfl,bT.refl _⟩,trivial⟩ (fun i hi=>by rw[bU (show i≠302 by omega)];rfl)
 rw[Qe]
 obtain⟨oZ,fo⟩:=e7
 try dsimp only
 refine aH.n<|ae.n<|qq<|ai mixed<|RT.dR .none (s:=.row _) rfl rfl rfl T<|RT.dR .none (s:=.dV _ _) rfl rfl rfl T ?_
 obtain⟨⟨ig,k11⟩,jK,Fb⟩:=bS Fb
 refine cB (aO jK) 16 rfl ⟨rfl,trivial⟩<|bl (l:=[ig]) (e:=af) (.one rfl (.nil)) rfl rfl rfl rfl rfl rfl<|bE Fb fun nY pC Fb=>RT.PA (k:=[ig]) (e:=af) .none rfl rfl rfl T rfl T pC<|ag rfl ?_
 refine RT.done ⟨by kernel_rfl,?_⟩
 refine ae.n<|aj ?_
 obtain rfl:=O Fb
 exact R1 rfl
theorem jV{x0:List Nat}{x1:List Nat}{r:List Nat}(h:bL x0 x1=some r):Pure Try.prog 78 [slc 1 (List.map af x0),slc 1 (List.map af x1)] (slc 1 (List.map af r)):=by
 refine ay Try.func78 rfl (Nat.le_of_ble_eq_true rfl) (fun cS M vs hvs=>?_)
 unfold bL at h
 refine sr<|aI rfl (imp_nil (n:=1) (e:=af))<|dn<|sr<|mv rfl<|lE h fun dW fP h=>ln rfl fP<|bE h fun iz me h=>RT.sE (e:=af) .none rfl rfl T rfl T me<|RT.alloc .none T rfl rfl<|RT.gA (cells:=[_]) .none rfl rfl rfl rfl T rfl<|dn<|sr<|RT.qy .none (bX 1) rfl ⟨rfl,trivial⟩ T rfl rfl<|RT.alloc .none T rfl rfl<|RT.nF (cells:=[_]) .none (s:=.dV _ _) rfl rfl rfl T rfl<|dn<|qq<|sr<|mv rfl ?_
 refine mv rfl<|cl (jT x0 x1) ⟨rfl,rfl,trivial⟩<|dn<|aq<|bE h fun e7 Qb Fb=>?_
 obtain⟨Fe,Qc,Qd,Qe⟩:=jc Qb
 refine fB (jU x0 x1) (fun _ _ _ _ _=>trivial) rfl (fun k=>AS.bR 28 [(5,.ptr 5 0),(6,.ptr 6 0),(15,.sv (gP 95 [ref [slc 1 (List.map af x0)],ref [slc 1 (List.map af x1)]]))] [(6,⟨118,[.dV 89 [.box 12]]⟩),(12,⟨96,[.sv (.v (.int .u64 (((Fe k).1:Nat):Int)))]⟩),(5,⟨48,[.row 302]⟩)] [(302,TR 110 1 af (Fe k).2)]) [6,12,5] rfl (fun _=>⟨rfl,rfl⟩) (nJ rfl) (fun _=>rfl) (nK rfl) (by(try dsimp only);rw[Qc];(try dsimp only);exact dm (fun i=>bif Nat.beq i 302 then 11 else i) rfl rfl rfl rfl rfl ⟨.ptr,.ptr,.sv (SV.aa _),trivial⟩ ⟨⟨_,rfl,⟨.dV,trivial⟩⟩,⟨_,rfl,⟨.sv (SV.aa _),trivial⟩⟩,⟨_,rfl,⟨.row rfl,trivial⟩⟩,trivial⟩ ⟨⟨_,rfl,bT.refl _⟩,trivial⟩ (fun i hi=>by rw[bU (show i≠302 by omega)];rfl)) (fun k hk D hD=>?_) ?_
 have h:=Qd k hk
 obtain⟨sk,Ff⟩:∃q,Fe k=q:=⟨_,rfl⟩
 rw[Ff]at h⊢
 obtain⟨rT,fo⟩:=sk
 dsimp only[AS.HX,n8]
 try dsimp only at h
 refine lE h fun TY Qg h=>?_
 rw[Qg]
 refine lE h fun TZ Qh h=>?_
 rw[Qh]
 refine sr<|ag rfl<|dn<|ah<|ag rfl<|RT.done ?_
 refine ae.n ⟨rfl,?_⟩
 dsimp only[AS.wY]
 refine aq<|ai mixed<|RT.dR .none (s:=.row _) rfl rfl rfl T<|RT.dR .none (s:=.dV _ _) rfl rfl rfl T<|mv rfl<|mv rfl<|lE h fun jS nN h=>sb _ rfl rfl (UK.sub (a:=4294967295) (b:=TZ) nN)<|lE h fun lN sj h=>ad _ rfl rfl (UK.add (a:=TY) (b:=jS) sj) ?_
 obtain⟨⟨gD,k9⟩,lP,h⟩:=bS h
 refine cB (aO lP) 12 rfl ⟨rfl,trivial⟩<|bl (l:=[gD]) (e:=af) (.one rfl (.nil)) rfl rfl rfl rfl rfl rfl<|bE h fun kz nO h=>aR (k:=[gD]) (e:=af) rfl rfl rfl nO<|RT.gA (cells:=[_]) .none rfl rfl rfl rfl T rfl ?_
 refine RT.done ⟨by kernel_rfl,?_⟩
 refine aH.n ?_
 replace h:=Option.some.inj h
 refine⟨trivial,rfl,rfl,?_⟩
 try dsimp only
 rw[←h]
 try dsimp only
 exact dm (fun i=>bif Nat.beq i 302 then 26 else i) rfl rfl rfl rfl rfl ⟨.ptr,.ptr,.sv (SV.aa _),trivial⟩ ⟨⟨_,rfl,⟨.dV,trivial⟩⟩,⟨_,rfl,⟨.sv (SV.aa _),trivial⟩⟩,⟨_,rfl,⟨.row rfl,trivial⟩⟩,trivial⟩ ⟨⟨_,rfl,bT.refl _⟩,trivial⟩ (fun i hi=>by rw[bU (show i≠302 by omega)];rfl)
 rw[Qe]
 obtain⟨rT,fo⟩:=e7
 try dsimp only
 refine aH.n<|ae.n<|sr<|RT.dR .none (s:=.row _) rfl rfl rfl T<|an (s:=.row _) rfl<|dn<|bt (dH (i:=302) (E1:=110) (n:=1) (e:=af) (l:=fo) rfl)<|aj ?_
 obtain rfl:=O Fb
 exact R1 rfl
theorem uB{x0:List Nat}{x1:List Nat}{r:List Nat}(h:dr x0 x1=some r):Pure Try.prog 73 [slc 1 (List.map af x0),slc 1 (List.map af x1)] (slc 1 (List.map af r)):=by
 refine ay Try.func73 rfl (Nat.le_of_ble_eq_true rfl) (fun cS M vs hvs=>?_)
 unfold dr at h
 refine sr<|aI rfl (imp_nil (n:=1) (e:=af))<|dn<|sr<|mv rfl<|lE h fun eG fE h=>ln rfl fE<|mv rfl<|lE h fun gY ku h=>ln rfl ku<|lE h fun fC gG h=>ad _ rfl rfl gG<|bE h fun jN lA h=>RT.kx (n:=1) (e:=af) .none rfl rfl T rfl T (by rfl) (by decide) (by exact⟨SV.aa _,trivial⟩) lA<|an (s:=.row _) rfl<|dn<|qq<|sr<|mv rfl<|lE h fun fg ij h=>ln rfl ij ?_
 refine mv rfl<|dn<|bE h fun Xm Qi Qj=>?_
 refine aW (fun(kI:(List Nat))=>AS.bR 63 [(5,.row 16)] [] [(16,TR 110 1 af kI)]) (fun kI=>kI=Xm) ?_ (fun kI Qk=>?_)
 refine aq ?_
 refine aX Qi (fun IX=>AS.bR 63 [(1,.sv (slc 1 (List.map af x1))),(5,.row 16),(17,.sv (slc 1 (List.map af x0))),(18,.sv (.v (.int .i64 fg))),(19,.sv (.v (.int .i64 IX.1)))] [] [(16,TR 110 1 af IX.2)]) (wR []) (fun IX y28 G28 h Ql Qm=>?_)
 obtain⟨jm,vG⟩:=IX
 try dsimp only
 refine sr<|lE h fun gx lz h=>ls _ rfl rfl lz<|dn<|qq ?_
 cases gx
 refine cF<|bj<|ae.x<|ae.x<|aH.x<|ae.n ?_
 obtain rfl:=O (F h)
 exact⟨vG,Qm _ rfl,wR []⟩
 refine cT<|aG<|ae.n<|qq<|aq<|sr<|mv rfl<|bE (V h) fun jS nN h=>ix rfl rfl nN<|lr rfl rfl<|ag rfl<|ag rfl<|dn<|sr<|RT.qy .none (bX 0) rfl ⟨rfl,trivial⟩ T rfl rfl<|an (s:=.dV _ _) rfl<|dn<|qq<|sr<|mv rfl<|lE h fun kz nO h=>ln rfl nO<|mv rfl<|dn<|bE h fun PJ Jx dP=>?_
 refine aW (fun(vM:Nat×(List Nat))=>AS.bR 63 [(1,.sv (slc 1 (List.map af x1))),(5,.row 16),(6,.sv (.v (.int .i64 jm))),(8,.dV 89 [.box 24]),(17,.sv (slc 1 (List.map af x0))),(18,.sv (.v (.int .i64 fg))),(19,.sv (.v (.int .i64 jm)))] [(24,⟨96,[.sv (.v (.int .u64 ((vM.1:Nat):Int)))]⟩)] [(16,TR 110 1 af vM.2)]) (fun vM=>vM=PJ) ?_ (fun vM Jy=>?_)
 refine aq ?_
 refine aX Jx (fun Bb=>AS.bR 63 [(1,.sv (slc 1 (List.map af x1))),(5,.row 16),(6,.sv (.v (.int .i64 jm))),(7,.sv (.v (.int .u32 ((jS:Nat):Int)))),(8,.dV 89 [.box 24]),(17,.sv (slc 1 (List.map af x0))),(18,.sv (.v (.int .i64 fg))),(19,.sv (.v (.int .i64 jm))),(25,.sv (slc 1 (List.map af x1))),(26,.sv (.v (.int .i64 kz))),(27,.sv (.v (.int .i64 Bb.1)))] [(24,⟨96,[.sv (.v (.int .u64 ((Bb.2.1:Nat):Int)))]⟩)] [(16,TR 110 1 af Bb.2.2)]) (wR []) (fun Bb y38 G38 h Jz JA=>?_)
 obtain⟨tc,oe,o5⟩:=Bb
 try dsimp only
 refine sr<|lE h fun og uC h=>ls _ rfl rfl uC<|dn<|qq ?_
 cases og
 refine cF<|bj<|ae.x<|ae.x<|aH.x<|ae.n ?_
 obtain rfl:=O (F h)
 exact⟨(oe,o5),JA _ rfl,wR []⟩
 refine cT<|aG<|ae.n<|qq<|aq<|sr<|mv rfl<|bE (V h) fun yB uD h=>ix rfl rfl uD<|lr rfl rfl<|ag rfl<|ag rfl<|dn<|ah<|mo (s:=.row _) rfl<|mv rfl<|mv rfl<|lE h fun uo B3 h=>ad _ rfl rfl B3<|mo (s:=.dV _ _) rfl<|mo (s:=.row _) rfl<|mv rfl<|mv rfl<|lE h fun mw nh h=>ad _ rfl rfl nh<|bE h fun qF w7 h=>iR rfl rfl rfl w7 ?_
 refine bE h fun qj w8 h=>lR rfl rfl w8 rfl<|lE h fun rU Aj h=>cv _ rfl (UK.nat Aj)<|mv rfl<|lE h fun Ah Fg h=>cv _ rfl (UK.nat Fg)<|mv rfl<|lE h fun yC yR h=>cv _ rfl (UK.nat yR)<|lE h fun ur h48 h=>RT.mul .none _ rfl rfl T (UK.mul (a:=Ah) (b:=yC) h48)<|lE h fun PI Mm h=>ad _ rfl rfl (UK.add (a:=rU) (b:=ur) Mm) ?_
 obtain⟨⟨sI,T1⟩,Ax,h⟩:=bS h
 refine cB (aO Ax) 24 rfl ⟨rfl,trivial⟩<|bE h fun BT B4 h=>iR rfl rfl rfl B4<|bE h fun LJ Dn h=>sR sI rfl rfl rfl rfl Dn<|RT.done<|aH.n<|ae.n<|ah<|lE h fun Ai B5 h=>ad _ rfl rfl B5<|mv rfl<|RT.done ?_
 obtain rfl:=O h
 exact ae.n ⟨(Ai,T1,LJ),Jz _ rfl,wR []⟩
 subst Jy
 obtain⟨yD,BU⟩:=vM
 try dsimp only
 refine ae.n<|ah<|mo (s:=.row _) rfl<|mv rfl<|mv rfl<|lE dP fun BV Fh dP=>ln rfl Fh<|lE dP fun LK Qn dP=>ad _ rfl rfl Qn<|mo (s:=.dV _ _) rfl ?_
 obtain⟨⟨EX,k45⟩,Mn,dP⟩:=bS dP
 refine cB (aO Mn) 24 rfl ⟨rfl,trivial⟩<|bE dP fun F9 Hg dP=>iR rfl rfl rfl Hg<|bE dP fun T2 JB dP=>sR EX rfl rfl rfl rfl JB<|RT.done<|aH.n<|ae.n<|ah<|lE dP fun BW JC dP=>ad _ rfl rfl JC<|mv rfl<|RT.done ?_
 obtain rfl:=O dP
 exact ae.n ⟨(BW,T2),Ql _ rfl,wR []⟩
 subst Qk
 try dsimp only
 refine ae.n<|sr<|mo (s:=.row _) rfl<|an (s:=.row _) rfl<|dn<|bt (dH (i:=16) (E1:=110) (n:=1) (e:=af) (l:=kI) rfl)<|aj ?_
 obtain rfl:=O Qj
 exact R1 rfl
end Go.Proofs.Ytningmnklfpfjaa
namespace Go.Proofs.Ytningmnklfpfjaa
open Go.Fw Go.Fw.Z Go.RowKit
theorem nj{x0:List Nat}{x1:Nat}{r:Nat×List Nat}(h:fY x0 x1=some r):EK Try.prog 86 [.row 1000,.sv (.v (.int .u64 ((x1:Nat):Int)))] (TR 110 1 af x0) (.sv (.v (.int .u64 ((r.1:Nat):Int)))) (List.flatMap af r.2):=by
 refine sQ Try.func86 rfl (Nat.le_of_ble_eq_true rfl) rfl rfl (fun cS M v0=>?_)
 unfold fY at h
 refine sr<|ag rfl<|dn<|sr<|ag rfl<|dn<|qq<|sr<|mo (s:=.row _) rfl<|lE h fun x9 h9 h=>lL rfl rfl h9<|lE h fun dW fP h=>sb _ rfl rfl fP<|ag rfl<|dn<|bE h fun e8 Dp vN=>?_
 refine aW (fun(Bl:Nat×(List Nat))=>AS.bR 34 [(5,.sv (.v (.int .u64 ((Bl.1:Nat):Int))))] [] [(1000,TR 110 1 af Bl.2)]) (fun Bl=>Bl=e8) ?_ (fun Bl Dq=>?_)
 refine aq ?_
 refine aX Dp (fun s8=>AS.bR 34 [(0,.row 1000),(1,.sv (.v (.int .u64 ((x1:Nat):Int)))),(5,.sv (.v (.int .u64 ((s8.1:Nat):Int)))),(6,.sv (.v (.int .i64 s8.2.1)))] [] [(1000,TR 110 1 af s8.2.2)]) (wR []) (fun s8 y8 G8 h Dr Ds=>?_)
 obtain⟨IY,IZ,o6⟩:=s8
 try dsimp only
 refine qq<|sr<|mv rfl<|lE h fun eG fE h=>ge _ rfl rfl fE<|dn ?_
 cases eG
 refine cF<|bj<|ae.x<|ae.x<|aH.x<|ae.n ?_
 obtain rfl:=O (F h)
 exact⟨(IY,o6),Ds _ rfl,wR []⟩
 refine cT<|aG<|ae.n<|qq<|aq<|sr<|mv rfl<|lE (V h) fun jN lA h=>RT.shl .none _ rfl rfl T (by decide) (UK.shl (a:=IY) (q:=32) (s:=32) rfl lA)<|mo (s:=.row _) rfl<|mv rfl<|bE h fun k8 jM h=>iR rfl rfl rfl jM<|bE h fun gx lz h=>lR rfl rfl lz rfl<|lE h fun mc qO h=>cv _ rfl (UK.nat qO)<|lE h fun jS nN h=>RT.or .none _ rfl rfl T (UK.or (a:=jN) (b:=mc) nN)<|ag rfl<|dn<|sr<|mo (s:=.row _) rfl ?_
 refine mv rfl<|mv rfl<|mv rfl<|bE h fun lf oR h=>RT.quo .none _ rfl rfl T (VS oR) (UK.quo oR)<|lE h fun og uC h=>cv _ rfl (UK.nat uC)<|bE h fun gO iK h=>iR rfl rfl rfl iK<|bE h fun vH om h=>sR og rfl rfl rfl rfl om<|dn<|ah<|mv rfl<|mv rfl<|bE h fun ig jK h=>RT.rem .none _ rfl rfl T (SW jK) (GY jK)<|ag rfl<|RT.done<|aH.n<|ae.n<|ah<|mv rfl<|lE h fun gY ku h=>sb _ rfl rfl ku ?_
 refine ag rfl<|RT.done ?_
 obtain rfl:=O h
 exact ae.n ⟨(ig,gY,vH),Dr _ rfl,wR []⟩
 subst Dq
 obtain⟨T3,xJ⟩:=Bl
 try dsimp only
 refine ae.n<|sr<|mv rfl<|ag rfl<|dn<|aj<|bE vN fun _ hle vN=>?_
 obtain rfl:=O vN
 exact⟨.inr rfl,.sv (fT (.tmp rfl (.nil)) (SV.aa _)),(by show _=jL.live ⟨110,1,x0.length,List.flatMap af xJ⟩;rw[←gB hle];rfl)⟩
theorem mD{x0:List Nat}{x1:Nat}{r:List Nat}(h:ez x0 x1=some r):Pure Try.prog 92 [slc 1 (List.map af x0),.v (.int .u64 ((x1:Nat):Int))] (slc 1 (List.map af r)):=by
 refine ay Try.func92 rfl (Nat.le_of_ble_eq_true rfl) (fun cS M vs hvs=>?_)
 unfold ez at h
 refine sr<|aI rfl (imp_nil (n:=1) (e:=af))<|dn<|sr<|RT.qy .none (bX 0) rfl ⟨rfl,trivial⟩ T rfl rfl<|an (s:=.dV _ _) rfl<|dn<|sr<|mv rfl<|lE h fun iz me h=>ln rfl me<|lE h fun eG fE h=>ad _ rfl rfl fE<|bE h fun gC fS h=>RT.sE (e:=af) .none rfl rfl T rfl T fS<|an (s:=.row _) rfl<|dn<|qq<|sr<|mv rfl<|lE h fun fC gG h=>ln rfl gG ?_
 refine mv rfl<|dn<|bE h fun e8 Dp vN=>?_
 refine aW (fun(Bl:Nat×(List Nat))=>AS.bR 35 [(5,.dV 89 [.box 9]),(6,.row 302)] [(9,⟨96,[.sv (.v (.int .u64 ((Bl.1:Nat):Int)))]⟩)] [(302,TR 110 1 af Bl.2)]) (fun Bl=>Bl=e8) ?_ (fun Bl Dq=>?_)
 refine aq ?_
 refine aX Dp (fun s8=>AS.bR 35 [(1,.sv (.v (.int .u64 ((x1:Nat):Int)))),(5,.dV 89 [.box 9]),(6,.row 302),(14,.sv (slc 1 (List.map af x0))),(15,.sv (.v (.int .i64 fC))),(16,.sv (.v (.int .i64 s8.1)))] [(9,⟨96,[.sv (.v (.int .u64 ((s8.2.1:Nat):Int)))]⟩)] [(302,TR 110 1 af s8.2.2)]) (dm (fun i=>bif Nat.beq i 302 then 13 else i) rfl rfl rfl rfl rfl ⟨.sv (SV.aa _),.dV,.row rfl,.sv (SV.aa _),.sv (SV.aa _),.sv (SV.aa _),trivial⟩ ⟨⟨_,rfl,⟨.sv (SV.aa _),trivial⟩⟩,trivial⟩ ⟨⟨_,rfl,bT.refl _⟩,trivial⟩ (fun i hi=>by rw[bU (show i≠302 by omega)];rfl)) (fun s8 y8 G8 h Dr Ds=>?_)
 obtain⟨uu,o7,fo⟩:=s8
 try dsimp only
 refine sr<|lE h fun fR kL h=>ls _ rfl rfl kL<|dn<|qq ?_
 cases fR
 refine cF<|bj<|ae.x<|ae.x<|aH.x<|ae.n ?_
 obtain rfl:=O (F h)
 exact⟨(o7,fo),Ds _ rfl,wR []⟩
 refine cT<|aG<|ae.n<|qq<|aq<|sr<|bE (V h) fun fg ij h=>ix rfl rfl ij<|lr rfl rfl<|ag rfl<|dn<|ah<|mo (s:=.row _) rfl<|mo (s:=.dV _ _) rfl<|mv rfl<|lE h fun lN sj h=>cv _ rfl (UK.nat sj)<|mv rfl<|lE h fun vp pB h=>RT.shl .none _ rfl rfl T (Int.natCast_nonneg _) (UK.shl (a:=lN) (q:=((x1:Nat):Int)) (s:=min x1 64) rfl pB) ?_
 obtain⟨⟨kz,PK⟩,nO,h⟩:=bS h
 refine cB (aO nO) 9 rfl ⟨rfl,trivial⟩<|bl (l:=[kz]) (e:=af) (.one rfl (.nil)) rfl rfl rfl rfl rfl rfl<|bE h fun og uC h=>aR (k:=[kz]) (e:=af) rfl rfl rfl uC<|an (s:=.row _) rfl<|RT.done<|aH.n<|ae.n<|ah<|lE h fun gO iK h=>ad _ rfl rfl iK<|mv rfl<|RT.done ?_
 obtain rfl:=O h
 exact ae.n ⟨(gO,PK,og),Dr _ rfl,dm (fun i=>bif Nat.beq i 302 then 28 else i) rfl rfl rfl rfl rfl ⟨.sv (SV.aa _),.dV,.row rfl,.sv (SV.aa _),.sv (SV.aa _),.sv (SV.aa _),trivial⟩ ⟨⟨_,rfl,⟨.sv (SV.aa _),trivial⟩⟩,trivial⟩ ⟨⟨_,rfl,bT.refl _⟩,trivial⟩ (fun i hi=>by rw[bU (show i≠302 by omega)];rfl)⟩
 subst Dq
 obtain⟨yE,I0⟩:=Bl
 try dsimp only
 refine ae.n<|sr<|mo (s:=.row _) rfl<|mo (s:=.dV _ _) rfl ?_
 obtain⟨⟨ig,W7⟩,jK,vN⟩:=bS vN
 refine cB (aO jK) 9 rfl ⟨rfl,trivial⟩<|bl (l:=[ig]) (e:=af) (.one rfl (.nil)) rfl rfl rfl rfl rfl rfl<|bE vN fun nY pC vN=>RT.PA (k:=[ig]) (e:=af) .none rfl rfl rfl T rfl T pC<|ag rfl<|dn<|aj ?_
 obtain rfl:=O vN
 exact R1 rfl
theorem lZ{x0:List Nat}{x1:Nat}{r:List Nat}(h:gE x0 x1=some r):BO Try.prog 92 [slc 1 (List.map af x0),.v (.int .u64 ((x1:Nat):Int))] (TR 110 1 af r):=by
 refine yo Try.func92 rfl (Nat.le_of_ble_eq_true rfl) (fun cS M vs hvs=>?_)
 unfold gE at h
 refine sr<|ag rfl<|dn<|bt (jo 4 304 110 1 rfl rfl T)<|sr<|RT.qy .none (bX 0) rfl ⟨rfl,trivial⟩ T rfl rfl<|an (s:=.dV _ _) rfl<|dn<|sr<|mv rfl<|lE h fun iz me h=>ln rfl me<|lE h fun eG fE h=>ad _ rfl rfl fE<|bE h fun gC fS h=>RT.sE (e:=af) .none rfl rfl T rfl T fS<|an (s:=.row _) rfl<|dn<|qq<|sr<|mv rfl<|lE h fun fC gG h=>ln rfl gG ?_
 refine mv rfl<|dn<|bE h fun e8 Dp vN=>?_
 refine aW (fun(Bl:Nat×(List Nat))=>AS.bR 35 [(5,.dV 89 [.box 9]),(6,.row 306)] [(9,⟨96,[.sv (.v (.int .u64 ((Bl.1:Nat):Int)))]⟩)] [(306,TR 110 1 af Bl.2)]) (fun Bl=>Bl=e8) ?_ (fun Bl Dq=>?_)
 refine aq ?_
 refine aX Dp (fun s8=>AS.bR 35 [(1,.sv (.v (.int .u64 ((x1:Nat):Int)))),(5,.dV 89 [.box 9]),(6,.row 306),(14,.sv (slc 1 (List.map af x0))),(15,.sv (.v (.int .i64 fC))),(16,.sv (.v (.int .i64 s8.1)))] [(9,⟨96,[.sv (.v (.int .u64 ((s8.2.1:Nat):Int)))]⟩)] [(306,TR 110 1 af s8.2.2)]) (dm (fun i=>bif Nat.beq i 306 then 13 else i) rfl rfl rfl rfl rfl ⟨.sv (SV.aa _),.dV,.row rfl,.sv (SV.aa _),.sv (SV.aa _),.sv (SV.aa _),trivial⟩ ⟨⟨_,rfl,⟨.sv (SV.aa _),trivial⟩⟩,trivial⟩ ⟨⟨_,rfl,bT.refl _⟩,trivial⟩ (fun i hi=>by rw[bU (show i≠306 by omega)];rfl)) (fun s8 y8 G8 h Dr Ds=>?_)
 obtain⟨uu,o7,BX⟩:=s8
 try dsimp only
 refine sr<|lE h fun fR kL h=>ls _ rfl rfl kL<|dn<|qq ?_
 cases fR
 refine cF<|bj<|ae.x<|ae.x<|aH.x<|ae.n ?_
 obtain rfl:=O (F h)
 exact⟨(o7,BX),Ds _ rfl,wR []⟩
 refine cT<|aG<|ae.n<|qq<|aq<|sr<|bE (V h) fun fg ij h=>ix rfl rfl ij<|lr rfl rfl<|ag rfl<|dn<|ah<|mo (s:=.row _) rfl<|mo (s:=.dV _ _) rfl<|mv rfl<|lE h fun lN sj h=>cv _ rfl (UK.nat sj)<|mv rfl<|lE h fun vp pB h=>RT.shl .none _ rfl rfl T (Int.natCast_nonneg _) (UK.shl (a:=lN) (q:=((x1:Nat):Int)) (s:=min x1 64) rfl pB) ?_
 obtain⟨⟨kz,PK⟩,nO,h⟩:=bS h
 refine cB (aO nO) 9 rfl ⟨rfl,trivial⟩<|bl (l:=[kz]) (e:=af) (.one rfl (.nil)) rfl rfl rfl rfl rfl rfl<|bE h fun og uC h=>aR (k:=[kz]) (e:=af) rfl rfl rfl uC<|an (s:=.row _) rfl<|RT.done<|aH.n<|ae.n<|ah<|lE h fun gO iK h=>ad _ rfl rfl iK<|mv rfl<|RT.done ?_
 obtain rfl:=O h
 exact ae.n ⟨(gO,PK,og),Dr _ rfl,dm (fun i=>bif Nat.beq i 306 then 28 else i) rfl rfl rfl rfl rfl ⟨.sv (SV.aa _),.dV,.row rfl,.sv (SV.aa _),.sv (SV.aa _),.sv (SV.aa _),trivial⟩ ⟨⟨_,rfl,⟨.sv (SV.aa _),trivial⟩⟩,trivial⟩ ⟨⟨_,rfl,bT.refl _⟩,trivial⟩ (fun i hi=>by rw[bU (show i≠306 by omega)];rfl)⟩
 subst Dq
 obtain⟨yE,I1⟩:=Bl
 try dsimp only
 refine ae.n<|sr<|mo (s:=.row _) rfl<|mo (s:=.dV _ _) rfl ?_
 obtain⟨⟨ig,W7⟩,jK,vN⟩:=bS vN
 refine cB (aO jK) 9 rfl ⟨rfl,trivial⟩<|bl (l:=[ig]) (e:=af) (.one rfl (.nil)) rfl rfl rfl rfl rfl rfl<|bE vN fun nY pC vN=>aR (k:=[ig]) (e:=af) rfl rfl rfl pC<|an (s:=.row _) rfl<|dn<|aj ?_
 obtain rfl:=O vN
 exact⟨.inr rfl,_,.tmp rfl,rfl⟩
theorem tf{x0:Nat}{r:Int}(h:fD x0=some r):Pure Try.prog 96 [.v (.int .u32 ((x0:Nat):Int))] (.v (.int .i64 r)):=by
 refine ay Try.func96 rfl (Nat.le_of_ble_eq_true rfl) (fun cS M vs hvs=>?_)
 unfold fD at h
 refine sr<|ag rfl<|dn<|qq<|sr<|mv rfl<|lE h fun x4 h4 h=>ge _ rfl rfl (WQ (p:=65536) (q:=x0) h4)<|dn ?_
 refine aF h (fun j2=>AS.bR 19 [(0,.sv (.v (.int .u32 ((j2.1:Nat):Int)))),(2,.sv (.v (.int .i64 j2.2)))] [] []) (fun h=>?_) (fun j2 h=>?_)
 cases x4
 exact fs<|⟨(x0,0),(F h),wR []⟩
 exact cT<|sr<|mv rfl<|lE (V h) fun x6 h6 h=>RT.shr .none _ rfl rfl T (by decide) (wZ (k:=.u32) (a:=x0) (q:=16) (s:=16) rfl h6)<|ag rfl<|dn<|ah<|ag rfl<|dn<|⟨(x6,16),h,wR []⟩
 obtain⟨EY,Mj⟩:=j2
 try dsimp only
 refine ae.n<|qq<|sr<|mv rfl<|lE h fun x8 h8 h=>ge _ rfl rfl (WQ (p:=256) (q:=EY) h8)<|dn ?_
 refine aF h (fun j4=>AS.bR 19 [(0,.sv (.v (.int .u32 ((j4.1:Nat):Int)))),(2,.sv (.v (.int .i64 j4.2)))] [] []) (fun h=>?_) (fun j4 h=>?_)
 cases x8
 exact fs<|⟨(EY,Mj),(F h),wR []⟩
 exact cT<|sr<|mv rfl<|lE (V h) fun dW fP h=>RT.shr .none _ rfl rfl T (by decide) (wZ (k:=.u32) (a:=EY) (q:=8) (s:=8) rfl fP)<|ag rfl<|dn<|ah<|mv rfl<|lE h fun eG fE h=>ad _ rfl rfl fE<|ag rfl<|dn<|⟨(dW,eG),h,wR []⟩
 obtain⟨T4,T5⟩:=j4
 try dsimp only
 refine ae.n<|sr<|mv rfl<|mv rfl<|lE h fun fC gG h=>cv _ rfl (UK.nat gG)<|bE h fun jN lA h=>?_
 refine RT.six (l:=[0,1,2,2,3,3,3,3,4,4,4,4,4,4,4,4,5,5,5,5,5,5,5,5,5,5,5,5,5,5,5,5,6,6,6,6,6,6,6,6,6,6,6,6,6,6,6,6,6,6,6,6,6,6,6,6,6,6,6,6,6,6,6,6,7,7,7,7,7,7,7,7,7,7,7,7,7,7,7,7,7,7,7,7,7,7,7,7,7,7,7,7,7,7,7,7,7,7,7,7,7,7,7,7,7,7,7,7,7,7,7,7,7,7,7,7,7,7,7,7,7,7,7,7,7,7,7,7,8,8,8,8,8,8,8,8,8,8,8,8,8,8,8,8,8,8,8,8,8,8,8,8,8,8,8,8,8,8,8,8,8,8,8,8,8,8,8,8,8,8,8,8,8,8,8,8,8,8,8,8,8,8,8,8,8,8,8,8,8,8,8,8,8,8,8,8,8,8,8,8,8,8,8,8,8,8,8,8,8,8,8,8,8,8,8,8,8,8,8,8,8,8,8,8,8,8,8,8,8,8,8,8,8,8,8,8,8,8,8,8,8,8,8,8,8,8,8,8,8,8,8,8,8,8,8,8]) .none rfl rfl T lA ?_
 refine lE h fun fR kL h=>cv _ rfl kL<|lE h fun fg ij h=>ad _ rfl rfl ij<|ag rfl<|dn<|aj ?_
 obtain rfl:=O h
 exact R1 rfl
theorem iA{x0:Nat}{r:Int}(h:cH x0=some r):Pure Try.prog 91 [.v (.int .u32 ((x0:Nat):Int))] (.v (.int .i64 r)):=by
 refine ay Try.func91 rfl (Nat.le_of_ble_eq_true rfl) (fun cS M vs hvs=>?_)
 unfold cH at h
 refine sr<|ag rfl<|dn<|sr<|mv rfl<|bE h fun x4 h4 h=>cl (tf h4) ⟨rfl,trivial⟩<|lE h fun x5 h5 h=>sb _ rfl rfl h5<|ag rfl<|dn<|aj ?_
 obtain rfl:=O h
 exact R1 rfl
theorem nk{x0:List Nat}{o0:Nat}{n0:Nat}{x1:List Nat}{r:Nat×List Nat}(h:ga x0 o0 n0 x1=some r):EK Try.prog 93 [.lJ 1000 (o0*1) n0,.sv (slc 1 (List.map af x1))] (TR 110 1 af x0) (.sv (.v (.int .u64 ((r.1:Nat):Int)))) (List.flatMap af r.2):=by
 refine sQ Try.func93 rfl (Nat.le_of_ble_eq_true rfl) rfl rfl (fun cS M v0=>?_)
 unfold ga at h
 refine sr<|ag rfl<|dn<|sr<|mv rfl<|lE h fun eG fE h=>ln rfl fE<|ag rfl<|dn<|qq<|ai mixed<|mo (s:=.lJ _ _ _) rfl<|mv rfl<|bE h fun fC gG h=>RT.Dd .none rfl rfl T gG<|bE h fun jN lA h=>lR rfl rfl lA rfl<|lE h fun fR kL h=>cv _ rfl (UK.nat kL)<|lE h fun fg ij h=>RT.shl .none _ rfl rfl T (by decide) (UK.shl (a:=fR) (q:=32) (s:=32) rfl ij)<|mo (s:=.lJ _ _ _) rfl ?_
 refine mv rfl<|lE h fun mc qO h=>sb _ rfl rfl qO<|bE h fun jS nN h=>RT.Dd .none rfl rfl T nN<|bE h fun lN sj h=>lR rfl rfl sj rfl<|lE h fun gD lP h=>cv _ rfl (UK.nat lP)<|lE h fun vp pB h=>RT.or .none _ rfl rfl T (UK.or (a:=fg) (b:=gD) pB)<|ag rfl ?_
 refine RT.done ⟨by kernel_rfl,?_⟩
 refine ae.n<|qq<|ai mixed<|mv rfl<|mv rfl<|lE h fun og uC h=>sb _ rfl rfl uC<|bE h fun gO iK h=>ix rfl rfl iK<|lr rfl rfl<|lE h fun qg uA h=>cv _ rfl (UK.nat uA)<|mv rfl<|mv rfl<|lE h fun nY pC h=>sb _ rfl rfl pC<|bE h fun uo B3 h=>ix rfl rfl B3<|lr rfl rfl<|lE h fun si vO h=>cv _ rfl (UK.nat vO)<|ag rfl<|ag rfl ?_
 refine RT.done ⟨by kernel_rfl,?_⟩
 refine ae.n<|qq<|ai mixed<|mv rfl<|mv rfl<|bE h fun mw nh h=>RT.quo .none _ rfl rfl T (VS nh) (UK.quo nh)<|mv rfl<|mv rfl<|bE h fun rU Aj h=>RT.rem .none _ rfl rfl T (SW Aj) (GY Aj)<|ag rfl<|ag rfl ?_
 refine RT.done ⟨by kernel_rfl,?_⟩
 refine ae.n<|qq<|bE h fun P9 E8 B0=>?_
 refine aW (fun(G1:Nat)=>AS.bR 71 [(9,.sv (.v (.int .u64 ((G1:Nat):Int))))] [] [(1000,TR 110 1 af x0)]) (fun G1=>G1=P9) ?_ (fun G1 E9=>?_)
 refine aq ?_
 refine aX E8 (fun Dg=>AS.bR 71 [(0,.lJ 1000 (o0*1) n0),(5,.sv (.v (.int .i64 eG))),(7,.sv (.v (.int .u64 ((qg:Nat):Int)))),(8,.sv (.v (.int .u64 ((si:Nat):Int)))),(9,.sv (.v (.int .u64 ((Dg.1:Nat):Int)))),(10,.sv (.v (.int .u64 ((Dg.2:Nat):Int))))] [] [(1000,TR 110 1 af x0)]) (wR []) (fun Dg Xk Xl h Fa Dk=>?_)
 obtain⟨Aw,Bc⟩:=Dg
 try dsimp only
 refine qq<|qq ?_
 refine aF h (fun Ml=>AS.bR 71 [(0,.lJ 1000 (o0*1) n0),(5,.sv (.v (.int .i64 eG))),(7,.sv (.v (.int .u64 ((qg:Nat):Int)))),(8,.sv (.v (.int .u64 ((si:Nat):Int)))),(9,.sv (.v (.int .u64 ((Aw:Nat):Int)))),(10,.sv (.v (.int .u64 ((Bc:Nat):Int)))),(61,.sv (.v (.bool Ml)))] [] [(1000,TR 110 1 af x0)]) (fun h=>?_) (fun EZ h=>?_)
 refine ah<|mv rfl<|lE h fun Ah Fg h=>RT.shr .none _ rfl rfl T (by decide) (wZ (k:=.u64) (a:=Aw) (q:=32) (s:=32) rfl Fg)<|lE h fun rV h46 h=>ne _ rfl rfl (VR (p:=Ah) (q:=0) h46)<|mv rfl<|bE h fun I3 gu h=>?_
 cases rV
 refine gm rfl<|gm rfl<|lE (F gu) fun sI Ax gu=>RT.mul (.some rfl rfl) _ rfl rfl T (UK.mul (a:=Aw) (b:=si) Ax)<|gm rfl<|lE gu fun Ai B5 gu=>RT.shl (.some rfl rfl) _ rfl rfl T (by decide) (UK.shl (a:=Bc) (q:=32) (s:=32) rfl B5)<|RT.move (.some rfl rfl) (s:=.lJ _ _ _) rfl T<|gm rfl<|lE gu fun tW Fi gu=>RT.sub (.some rfl rfl) _ rfl rfl T Fi<|bE gu fun BV Fh gu=>RT.Dd (.some rfl rfl) rfl rfl T Fh<|bE gu fun LK Qn gu=>RT.TP (.some rfl rfl) rfl rfl Qn rfl T ?_
 refine lE gu fun W8 h58 gu=>RT.conv (.some rfl rfl) _ rfl T (UK.nat h58)<|lE gu fun EX Mn gu=>RT.or (.some rfl rfl) _ rfl rfl T (UK.or (a:=Ai) (b:=W8) Mn)<|lE gu fun F9 Hg gu=>gg _ rfl rfl (TK (p:=EX) (q:=sI) Hg) ?_
 obtain rfl:=O gu
 exact pF rfl<|dn<|⟨F9,h,wR []⟩
 obtain rfl:=O (V gu)
 exact ww<|ww<|ww<|ww<|ww<|ww<|ww<|ww<|ww<|ww<|ww<|ww<|ww<|pT rfl<|dn<|⟨true,h,wR []⟩
 try dsimp only
 refine ae.n ?_
 cases EZ
 refine cF<|bj<|ae.x<|ae.x<|aH.x<|ae.n ?_
 obtain rfl:=O (F h)
 exact⟨Aw,Dk _ rfl,wR []⟩
 refine cT<|aG<|ae.n<|aq<|sr<|mv rfl<|lE (V h) fun T6 h63 h=>sb _ rfl rfl (UK.sub (a:=Aw) (b:=1) h63)<|ag rfl<|dn<|sr<|mv rfl<|mv rfl<|lE h fun HY Uk h=>ad _ rfl rfl (UK.add (a:=Bc) (b:=qg) Uk)<|ag rfl<|dn<|sr<|mv rfl<|lE h fun HZ Ul h=>RT.shr .none _ rfl rfl T (by decide) (wZ (k:=.u64) (a:=HY) (q:=32) (s:=32) rfl Ul)<|lE h fun I2 Um h=>ne _ rfl rfl (VR (p:=HZ) (q:=0) Um) ?_
 refine dn ?_
 cases I2
 refine cF<|aG<|aH.n ?_
 obtain rfl:=O (F h)
 exact ae.n ⟨(T6,HY),Fa _ rfl,wR []⟩
 refine cT<|bj<|aH.y (by decide)<|ae.x<|aH.x<|ae.n ?_
 obtain rfl:=O (V h)
 exact⟨T6,Dk _ rfl,wR []⟩
 subst E9
 try dsimp only
 refine ae.n<|sr<|mv rfl<|ag rfl<|dn<|aj<|bE B0 fun _ hle B0=>?_
 obtain rfl:=O B0
 exact⟨.inr rfl,.sv (fT (.tmp rfl (.nil)) (SV.aa _)),(by show _=jL.live ⟨110,1,x0.length,List.flatMap af x0⟩;rw[←gB hle];rfl)⟩
theorem jl{x0:List Nat}{o0:Nat}{n0:Nat}{x1:List Nat}{x2:Nat}{r:Bool×List Nat}(h:cx x0 o0 n0 x1 x2=some r):EK Try.prog 94 [.lJ 1000 (o0*1) n0,.sv (slc 1 (List.map af x1)),.sv (.v (.int .u64 ((x2:Nat):Int)))] (TR 110 1 af x0) (.sv (.v (.bool r.1))) (List.flatMap af r.2):=by
 refine sQ Try.func94 rfl (Nat.le_of_ble_eq_true rfl) rfl rfl (fun cS M v0=>?_)
 unfold cx at h
 refine sr<|ag rfl<|dn<|sr<|ag rfl<|dn<|sr<|RT.qy .none (bX 0) rfl ⟨rfl,trivial⟩ T rfl rfl<|an (s:=.dV _ _) rfl<|dn<|qq<|sr<|mo (s:=.lJ _ _ _) rfl<|lE h fun gY ku h=>RT.PF .none rfl T ku<|mv rfl<|dn<|bE h fun I5 Fj ik=>?_
 refine aW (fun(oq:Nat×(List Nat))=>AS.bR 51 [(7,.sv (.v (.int .u64 ((oq.1:Nat):Int))))] [] [(1000,TR 110 1 af oq.2)]) (fun oq=>oq=I5) ?_ (fun oq Fk=>?_)
 refine aq ?_
 refine aX Fj (fun uw=>AS.bR 51 [(0,.lJ 1000 (o0*1) n0),(1,.sv (slc 1 (List.map af x1))),(2,.sv (.v (.int .u64 ((x2:Nat):Int)))),(7,.sv (.v (.int .u64 ((uw.1:Nat):Int)))),(8,.dV 89 [.box 12]),(14,.sv (.v (.int .i64 gY))),(15,.sv (.v (.int .i64 uw.2.1)))] [(12,⟨96,[.sv (.v (.int .u64 ((uw.2.2.1:Nat):Int)))]⟩)] [(1000,TR 110 1 af uw.2.2.2)]) (wR []) (fun uw Xn Xo h Fl Fm=>?_)
 obtain⟨G2,ux,BY,rW⟩:=uw
 try dsimp only
 refine sr<|lE h fun jN lA h=>ls _ rfl rfl lA<|dn<|qq ?_
 cases jN
 refine cF<|bj<|ae.x<|ae.x<|aH.x<|ae.n ?_
 obtain rfl:=O (F h)
 exact⟨(G2,rW),Fm _ rfl,wR []⟩
 refine cT<|aG<|ae.n<|qq<|aq<|sr<|mv rfl<|ag rfl<|dn<|sr<|ag rfl<|dn<|qq<|sr<|mv rfl<|mv rfl<|lE (V h) fun gx lz h=>ln rfl lz<|lE h fun mc qO h=>ls _ rfl rfl qO<|dn ?_
 refine aF h (fun j14=>AS.bR 51 [(0,.lJ 1000 (o0*1) n0),(1,.sv (slc 1 (List.map af x1))),(2,.sv (.v (.int .u64 ((x2:Nat):Int)))),(7,.sv (.v (.int .u64 ((G2:Nat):Int)))),(8,.dV 89 [.box 12]),(9,.sv (.v (.int .i64 ux))),(10,.sv (.v (.int .u64 ((j14:Nat):Int)))),(14,.sv (.v (.int .i64 gY))),(15,.sv (.v (.int .i64 ux)))] [(12,⟨96,[.sv (.v (.int .u64 ((BY:Nat):Int)))]⟩)] [(1000,TR 110 1 af rW)]) (fun h=>?_) (fun I4 h=>?_)
 cases mc
 exact fs<|⟨0,(F h),wR []⟩
 exact cT<|ah<|mv rfl<|mv rfl<|bE (V h) fun gD lP h=>ix rfl rfl lP<|lr rfl rfl<|lE h fun kz nO h=>cv _ rfl (UK.nat nO)<|mv rfl<|lE h fun og uC h=>RT.mul .none _ rfl rfl T (UK.mul (a:=kz) (b:=x2) uC)<|ag rfl<|dn<|⟨og,h,wR []⟩
 try dsimp only
 refine ae.n<|qq<|ai mixed<|mo (s:=.lJ _ _ _) rfl<|mv rfl<|bE h fun qg uA h=>RT.Dd .none rfl rfl T uA<|bE h fun ig jK h=>lR rfl rfl jK rfl<|lE h fun o8 pD h=>cv _ rfl (UK.nat pD)<|mo (s:=.dV _ _) rfl<|mv rfl ?_
 obtain⟨⟨oQ,W9⟩,ot,h⟩:=bS h
 refine cB (aO ot) 12 rfl ⟨rfl,trivial⟩<|lE h fun si vO h=>cv _ rfl (UK.nat vO)<|lE h fun w6 Dm h=>sb _ rfl rfl (UK.sub (a:=o8) (b:=si) Dm)<|mv rfl<|lE h fun mw nh h=>sb _ rfl rfl (UK.sub (a:=w6) (b:=G2) nh)<|ag rfl ?_
 refine RT.done ⟨by kernel_rfl,?_⟩
 refine ae.n<|sr<|mo (s:=.lJ _ _ _) rfl<|mv rfl<|mv rfl<|lE h fun vI w9 h=>cv _ rfl (UK.nat w9)<|bE h fun Ah Fg h=>RT.Dd .none rfl rfl T Fg<|bE h fun Xa Uo h=>sR vI rfl rfl rfl rfl Uo<|dn<|ah<|mv rfl<|lE h fun yC yR h=>RT.shr .none _ rfl rfl T (by decide) (wZ (k:=.u64) (a:=mw) (q:=63) (s:=63) rfl yR)<|ag rfl<|RT.done<|aH.n<|ae.n<|ah<|lE h fun ur h48 h=>ad _ rfl rfl h48<|mv rfl<|RT.done ?_
 obtain rfl:=O h
 exact ae.n ⟨(yC,ur,W9,Xa),Fl _ rfl,wR []⟩
 subst Fk
 obtain⟨I6,uy⟩:=oq
 try dsimp only
 refine ae.n<|sr<|mv rfl<|lE ik fun sI Ax ik=>ne _ rfl rfl (VR (p:=I6) (q:=0) Ax)<|ag rfl<|dn<|aj<|bE ik fun _ hle ik=>?_
 obtain rfl:=O ik
 exact⟨.inr rfl,.sv (fT (.tmp rfl (.nil)) (SV.aa _)),(by show _=jL.live ⟨110,1,x0.length,List.flatMap af uy⟩;rw[←gB hle];rfl)⟩
set_option maxHeartbeats 4000000 in
theorem vP{x0:List Nat}{x1:List Nat}{r:(List Nat)×(List Nat)}(h:eC x0 x1=some r):Pure Try.prog 87 [slc 1 (List.map af x0),slc 1 (List.map af x1)] (.sN [slc 1 (List.map af r.1),slc 1 (List.map af r.2)]):=by
 refine ay Try.func87 rfl (Nat.le_of_ble_eq_true rfl) (fun cS M vs hvs=>?_)
 unfold eC at h
 refine sr<|ag rfl<|ag rfl<|dn<|bt (jo 4 306 110 1 rfl rfl T)<|bt (jo 5 308 110 1 rfl rfl T)<|sr<|mv rfl<|lE h fun fR kL h=>ln rfl kL<|ag rfl<|dn<|sr<|mv rfl<|mv rfl<|lE h fun gx lz h=>sb _ rfl rfl lz<|bE h fun mc qO h=>ix rfl rfl qO<|lr rfl rfl<|bE h fun lN sj h=>cl (iA sj) ⟨rfl,trivial⟩ ?_
 refine lE h fun gD lP h=>cv _ rfl (UK.conv lP)<|ag rfl<|dn<|qq<|ai mixed<|mv rfl<|mv rfl<|bE h fun lf oR h=>cN (lZ oR) ⟨rfl,rfl,trivial⟩<|mv rfl<|mv rfl<|bE h fun yB uD h=>cl (mD uD) ⟨rfl,rfl,trivial⟩<|mv rfl<|bE h fun ig jK h=>RT.EV .none 0 fR rfl rfl ⟨_,rfl⟩ T jK<|an (s:=.row _) rfl<|ag rfl ?_
 refine RT.done ⟨by kernel_rfl,?_⟩
 refine ae.n<|sr<|mv rfl<|lE h fun nY pC h=>ln rfl pC<|mv rfl<|lE h fun oQ ot h=>sb _ rfl rfl ot<|lE h fun si vO h=>ad _ rfl rfl vO<|bE h fun w6 Dm h=>RT.kx (n:=1) (e:=af) .none rfl rfl T rfl T (by rfl) (by decide) (by exact⟨SV.aa _,trivial⟩) Dm<|an (s:=.row _) rfl<|dn<|qq<|sr<|mv rfl<|lE h fun mw nh h=>ln rfl nh<|mv rfl<|lE h fun qj w8 h=>sb _ rfl rfl w8 ?_
 refine ag rfl<|dn<|bE h fun Ug Qo Fo=>?_
 refine aW (fun(vQ:(List Nat)×(List Nat))=>AS.bR 141 [(4,.row 38),(6,.sv (.v (.int .i64 fR))),(7,.sv (.v (.int .u64 ((gD:Nat):Int)))),(8,.row 27)] [] [(38,TR 110 1 af vQ.1),(27,TR 110 1 af vQ.2)]) (fun vQ=>vQ=Ug) ?_ (fun vQ Qp=>?_)
 refine aq ?_
 refine aX Qo (fun G3=>AS.bR 141 [(4,.row 38),(6,.sv (.v (.int .i64 fR))),(7,.sv (.v (.int .u64 ((gD:Nat):Int)))),(8,.row 27),(9,.sv (slc 1 (List.map af ig))),(10,.sv (.v (.int .i64 G3.1)))] [] [(38,TR 110 1 af G3.2.1),(27,TR 110 1 af G3.2.2)]) (wR []) (fun G3 y36 G36 h Qq Qs=>?_)
 obtain⟨eV,kJ,nM⟩:=G3
 try dsimp only
 refine qq<|sr<|mv rfl<|lE h fun vI w9 h=>ge _ rfl rfl w9<|dn ?_
 cases vI
 refine cF<|bj<|ae.x<|ae.x<|aH.x<|ae.n ?_
 obtain rfl:=O (F h)
 exact⟨(kJ,nM),Qs _ rfl,wR []⟩
 refine cT<|aG<|ae.n<|qq<|aq<|sr<|mo (s:=.row _) rfl<|mv rfl<|mv rfl<|mv rfl<|lE (V h) fun BT B4 h=>ad _ rfl rfl B4<|lE h fun Ai B5 h=>ad _ rfl rfl B5 ?_
 obtain⟨⟨Xb,Xc⟩,Mo,h⟩:=bS h
 refine RT.Md .none eV Ai rfl rfl ⟨_,rfl⟩ ⟨_,rfl⟩ T Mo<|mv rfl ?_
 obtain⟨⟨tW,LL⟩,Fi,h⟩:=bS h
 refine bE h fun _ Qt h=>cR (l:=nM) (l':=LL) (e:=af) (nk Fi) (gB Qt) 27 rfl (.cons rfl (.cons rfl (.nil)))<|ag rfl<|dn<|qq<|sr<|mo (s:=.row _) rfl<|mv rfl<|mv rfl<|mv rfl<|lE h fun F9 Hg h=>ad _ rfl rfl Hg<|lE h fun BW JC h=>ad _ rfl rfl JC ?_
 obtain⟨⟨Xd,Xe⟩,Xp,h⟩:=bS h
 refine RT.Md .none eV BW rfl rfl ⟨_,rfl⟩ ⟨_,rfl⟩ T Xp<|mv rfl<|mv rfl ?_
 obtain⟨⟨T7,G4⟩,Xq,h⟩:=bS h
 refine bE h fun _ Qu h=>cR (l:=LL) (l':=G4) (e:=af) (jl Xq) (gB Qu) 27 rfl (.cons rfl (.cons rfl (.cons rfl (.nil))))<|dn ?_
 refine aF h (fun G5=>AS.bR 141 [(4,.row 38),(6,.sv (.v (.int .i64 fR))),(7,.sv (.v (.int .u64 ((gD:Nat):Int)))),(8,.row 27),(9,.sv (slc 1 (List.map af ig))),(10,.sv (.v (.int .i64 eV))),(11,.sv (.v (.int .u64 ((G5.1:Nat):Int))))] [] [(38,TR 110 1 af kJ),(27,TR 110 1 af G5.2)]) (fun h=>?_) (fun G5 h=>?_)
 cases T7
 exact fs<|⟨(tW,G4),(F h),wR []⟩
 refine cT<|sr<|mv rfl<|lE (V h) fun H6 Qv h=>sb _ rfl rfl (UK.sub (a:=tW) (b:=1) Qv)<|ag rfl<|dn<|sr<|RT.qy .none (bX 0) rfl ⟨rfl,trivial⟩ T rfl rfl<|an (s:=.dV _ _) rfl<|dn<|qq<|sr<|mv rfl<|lE h fun I8 Up h=>ln rfl Up<|mv rfl<|dn<|bE h fun Ue Qw iL=>?_
 refine aW (fun(vR:Nat×(List Nat))=>AS.bR 141 [(4,.row 38),(6,.sv (.v (.int .i64 fR))),(7,.sv (.v (.int .u64 ((gD:Nat):Int)))),(8,.row 27),(9,.sv (slc 1 (List.map af ig))),(10,.sv (.v (.int .i64 eV))),(11,.sv (.v (.int .u64 ((H6:Nat):Int)))),(12,.dV 89 [.box 68])] [(68,⟨96,[.sv (.v (.int .u64 ((vR.1:Nat):Int)))]⟩)] [(38,TR 110 1 af kJ),(27,TR 110 1 af vR.2)]) (fun vR=>vR=Ue) ?_ (fun vR Qx=>?_)
 refine aq ?_
 refine aX Qw (fun G7=>AS.bR 141 [(4,.row 38),(6,.sv (.v (.int .i64 fR))),(7,.sv (.v (.int .u64 ((gD:Nat):Int)))),(8,.row 27),(9,.sv (slc 1 (List.map af ig))),(10,.sv (.v (.int .i64 eV))),(11,.sv (.v (.int .u64 ((H6:Nat):Int)))),(12,.dV 89 [.box 68]),(69,.sv (slc 1 (List.map af ig))),(70,.sv (.v (.int .i64 I8))),(71,.sv (.v (.int .i64 G7.1)))] [(68,⟨96,[.sv (.v (.int .u64 ((G7.2.1:Nat):Int)))]⟩)] [(38,TR 110 1 af kJ),(27,TR 110 1 af G7.2.2)]) (wR []) (fun G7 y65 G65 h Qy Qz=>?_)
 obtain⟨td,oh,o9⟩:=G7
 try dsimp only
 refine sr<|lE h fun H7 QA h=>ls _ rfl rfl QA<|dn<|qq ?_
 cases H7
 refine cF<|bj<|ae.x<|ae.x<|aH.x<|ae.n ?_
 obtain rfl:=O (F h)
 exact⟨(oh,o9),Qz _ rfl,wR []⟩
 refine cT<|aG<|ae.n<|qq<|aq<|sr<|mv rfl<|bE (V h) fun Xf Xr h=>ix rfl rfl Xr<|lr rfl rfl<|ag rfl<|ag rfl<|dn<|ah<|mo (s:=.row _) rfl<|mv rfl<|mv rfl<|lE h fun LM QB h=>ad _ rfl rfl QB<|mo (s:=.dV _ _) rfl<|mo (s:=.row _) rfl<|mv rfl<|mv rfl<|lE h fun Xg Xs h=>ad _ rfl rfl Xs<|bE h fun S0 Uq h=>iR rfl rfl rfl Uq ?_
 refine bE h fun PM Ur h=>lR rfl rfl Ur rfl<|lE h fun Mk Us h=>cv _ rfl (UK.nat Us)<|mv rfl<|lE h fun T9 Xt h=>cv _ rfl (UK.nat Xt)<|lE h fun PN Ut h=>ad _ rfl rfl (UK.add (a:=Mk) (b:=T9) Ut) ?_
 obtain⟨⟨Ua,Ub⟩,Xu,h⟩:=bS h
 refine cB (aO Xu) 68 rfl ⟨rfl,trivial⟩<|bE h fun Xh Xv h=>iR rfl rfl rfl Xv<|bE h fun Uc JD h=>sR Ua rfl rfl rfl rfl JD<|RT.done<|aH.n<|ae.n<|ah<|lE h fun Ud Xw h=>ad _ rfl rfl Xw<|mv rfl<|RT.done ?_
 obtain rfl:=O h
 exact ae.n ⟨(Ud,Ub,Uc),Qy _ rfl,wR []⟩
 subst Qx
 obtain⟨yG,vJ⟩:=vR
 try dsimp only
 refine ae.n<|ah<|mo (s:=.row _) rfl<|mv rfl<|mv rfl<|lE iL fun Xi Xx iL=>ad _ rfl rfl Xx<|mo (s:=.dV _ _) rfl<|mo (s:=.row _) rfl<|mv rfl<|mv rfl<|lE iL fun PO QC iL=>ad _ rfl rfl QC<|bE iL fun E5 JE iL=>iR rfl rfl rfl JE<|bE iL fun PR QD iL=>lR rfl rfl QD rfl<|lE iL fun PS QE iL=>cv _ rfl (UK.nat QE) ?_
 obtain⟨⟨I9,k72⟩,QF,iL⟩:=bS iL
 exact cB (aO QF) 68 rfl ⟨rfl,trivial⟩<|bE iL fun PT QG iL=>iR rfl rfl rfl QG<|bE iL fun Uf JF iL=>sR I9 rfl rfl rfl rfl JF<|dn<|⟨(H6,Uf),iL,wR []⟩
 obtain⟨E4,yF⟩:=G5
 try dsimp only
 refine ae.n<|ah<|mo (s:=.row _) rfl<|mv rfl<|mv rfl<|lE h fun I7 QH h=>cv _ rfl (UK.nat QH)<|bE h fun PL QI h=>iR rfl rfl rfl QI<|bE h fun T8 JG h=>sR I7 rfl rfl rfl rfl JG<|RT.done<|aH.n<|ae.n<|ah<|mv rfl<|lE h fun rV h46 h=>sb _ rfl rfl h46<|ag rfl<|RT.done ?_
 obtain rfl:=O h
 exact ae.n ⟨(rV,T8,yF),Qq _ rfl,wR []⟩
 subst Qp
 obtain⟨pg,qG⟩:=vQ
 try dsimp only
 refine ae.n<|sr<|mv rfl<|bE Fo fun PU QJ Fo=>RT.kx (n:=1) (e:=af) .none rfl rfl T rfl T (by rfl) (by decide) (by exact⟨SV.aa _,trivial⟩) QJ<|an (s:=.row _) rfl<|dn<|qq<|sr<|mv rfl<|mv rfl<|dn<|bE Fo fun Xy QK QL=>?_
 refine aW (fun(jd:(List Nat))=>AS.bR 141 [(4,.row 38),(5,.row 114)] [] [(38,TR 110 1 af pg),(114,TR 110 1 af jd)]) (fun jd=>jd=Xy) ?_ (fun jd QM=>?_)
 refine aq ?_
 refine aX QK (fun Ja=>AS.bR 141 [(4,.row 38),(5,.row 114),(7,.sv (.v (.int .u64 ((gD:Nat):Int)))),(8,.row 27),(115,.sv (.v (.int .i64 fR))),(116,.sv (.v (.int .i64 Ja.1)))] [] [(38,TR 110 1 af pg),(114,TR 110 1 af Ja.2),(27,TR 110 1 af qG)]) (wR []) (fun Ja y81 G81 h QN QO=>?_)
 obtain⟨pq,pz⟩:=Ja
 try dsimp only
 refine sr<|lE h fun Jb QS h=>ls _ rfl rfl QS<|dn<|qq ?_
 cases Jb
 refine cF<|bj<|ae.x<|ae.x<|aH.x<|ae.n ?_
 obtain rfl:=O (F h)
 exact⟨pz,QO _ rfl,wR []⟩
 refine cT<|aG<|ae.n<|qq<|aq<|sr<|mv rfl<|ag rfl<|dn<|ai mixed<|mo (s:=.row _) rfl<|mv rfl<|mo (s:=.row _) rfl<|mv rfl<|bE (V h) fun PW QT h=>iR rfl rfl rfl QT<|bE h fun PX QU h=>lR rfl rfl QU rfl<|lE h fun Jc QV h=>cv _ rfl (UK.nat QV)<|mo (s:=.row _) rfl<|mv rfl<|lE h fun PY h128 h=>ad _ rfl rfl h128<|bE h fun PZ QW h=>?_
 refine iR rfl rfl rfl QW<|bE h fun P0 QX h=>lR rfl rfl QX rfl<|lE h fun Jd QY h=>cv _ rfl (UK.nat QY)<|lE h fun Je QZ h=>RT.shl .none _ rfl rfl T (by decide) (UK.shl (a:=Jd) (q:=32) (s:=32) rfl QZ)<|lE h fun Jf Q0 h=>RT.or .none _ rfl rfl T (UK.or (a:=Jc) (b:=Je) Q0)<|mv rfl<|lE h fun P1 Q1 h=>RT.shr .none _ rfl rfl T (Int.natCast_nonneg _) (wZ (k:=.u64) (a:=Jf) (q:=((gD:Nat):Int)) (s:=min gD 64) rfl Q1)<|lE h fun Jg Q2 h=>cv _ rfl (UK.nat Q2) ?_
 refine bE h fun P2 Q3 h=>iR rfl rfl rfl Q3<|bE h fun Uh JH h=>sR Jg rfl rfl rfl rfl JH ?_
 refine RT.done ⟨by kernel_rfl,?_⟩
 refine aH.n<|ae.n<|ah<|lE h fun Jh Q4 h=>ad _ rfl rfl Q4<|mv rfl<|RT.done ?_
 obtain rfl:=O h
 exact ae.n ⟨(Jh,Uh),QN _ rfl,wR []⟩
 subst QM
 try dsimp only
 refine ae.n<|sr<|mo (s:=.row _) rfl<|mo (s:=.row _) rfl<|an (s:=.row _) rfl<|an (s:=.row _) rfl<|dn<|bt (dH (i:=38) (E1:=110) (n:=1) (e:=af) (l:=pg) rfl)<|bt (dH (i:=114) (E1:=110) (n:=1) (e:=af) (l:=jd) rfl)<|aj ?_
 obtain rfl:=O QL
 exact R2 rfl rfl
theorem nm{x0:List Nat}{x1:List Nat}{r:(List Nat)×(List Nat)}(h:dw x0 x1=some r):Pure Try.prog 76 [slc 1 (List.map af x0),slc 1 (List.map af x1)] (.sN [slc 1 (List.map af r.1),slc 1 (List.map af r.2)]):=by
 refine ay Try.func76 rfl (Nat.le_of_ble_eq_true rfl) (fun cS M vs hvs=>?_)
 unfold dw at h
 refine sr<|ag rfl<|aI rfl (imp_nil (n:=1) (e:=af))<|dn<|bt (jo 4 304 110 1 rfl rfl T)<|qq<|aq<|sr<|mv rfl<|mv rfl<|bE h fun eG fE h=>cl (cW fE) ⟨rfl,rfl,trivial⟩<|lE h fun gC fS h=>ls _ rfl rfl fS<|ag rfl<|dn ?_
 cases gC
 refine cF<|sr<|mv rfl<|lE (F h) fun fg ij h=>ln rfl ij<|lE h fun k8 jM h=>RT.leq .none _ rfl rfl T jM<|ag rfl<|dn ?_
 cases k8
 refine cF<|sr<|mv rfl<|lE (F h) fun oQ ot h=>ln rfl ot<|lE h fun si vO h=>eq _ rfl rfl (rR (p:=oQ) (q:=1) vO)<|ag rfl<|dn ?_
 cases si
 refine cF<|aG<|aH.n<|ae.n<|sr<|mv rfl<|mv rfl ?_
 obtain⟨⟨P3,P4⟩,B5,h⟩:=bS (F h)
 refine cl (vP B5) ⟨rfl,rfl,trivial⟩<|ex rfl rfl<|ex rfl rfl<|ag rfl<|ag rfl<|dn<|aj ?_
 obtain rfl:=O h
 exact R2 rfl rfl
 refine cT<|sr<|mv rfl<|bE (V h) fun rX Ay h=>cN (kK Ay) ⟨rfl,trivial⟩<|an (s:=.row _) rfl<|dn<|sr<|mo (s:=.row _) rfl<|mv rfl<|bE h fun qj w8 h=>ix rfl rfl w8<|lr rfl rfl<|lE h fun vI w9 h=>cv _ rfl (UK.nat w9) ?_
 obtain⟨⟨Ah,l5⟩,Fg,h⟩:=bS h
 refine bE h fun _ Xz h=>cR (l:=rX) (l':=l5) (e:=af) (nj Fg) (gB Xz) 39 rfl (.cons rfl (.cons rfl (.nil)))<|ag rfl<|dn<|sr<|mo (s:=.row _) rfl<|mv rfl<|lE h fun ur h48 h=>cv _ rfl (UK.nat h48)<|bl (l:=[ur]) (e:=af) (.one rfl (.nil)) rfl rfl rfl rfl rfl rfl<|an (s:=.row _) rfl<|ag rfl<|dn<|bt (dH (i:=39) (E1:=110) (n:=1) (e:=af) (l:=l5) rfl)<|aj ?_
 refine aH.r<|ae.r ?_
 obtain rfl:=O h
 exact R2 rfl rfl
 refine cT<|sr<|mv rfl<|bE (V h) fun mc qO h=>cl (cL qO) ⟨rfl,trivial⟩<|mv rfl<|bE h fun lN sj h=>cl (cL sj) ⟨rfl,trivial⟩<|ag rfl<|ag rfl<|dn<|qq<|ai mixed<|mv rfl<|mv rfl<|bE h fun kz nO h=>RT.quo .none _ rfl rfl T (VS nO) (UK.quo nO) ?_
 obtain⟨⟨NT,Ji⟩,oR,h⟩:=bS h
 refine cl (iJ oR) ⟨rfl,rfl,trivial⟩<|fl rfl rfl<|mv rfl<|mv rfl<|bE h fun qg uA h=>RT.rem .none _ rfl rfl T (SW uA) (GY uA) ?_
 obtain⟨⟨lj,kA⟩,jK,h⟩:=bS h
 refine cl (iJ jK) ⟨rfl,rfl,trivial⟩<|fl rfl rfl<|ag rfl<|ag rfl ?_
 refine RT.done ⟨by kernel_rfl,?_⟩
 refine ae.n<|aj<|aH.r<|ae.r ?_
 obtain rfl:=O h
 exact R2 rfl rfl
 refine cT<|sr<|mv rfl<|bE (V h) fun fC gG h=>cl (lO gG) ⟨rfl,trivial⟩<|ag rfl<|ag rfl<|dn<|bt (jo 4 310 110 1 rfl rfl T)<|bt (dH (i:=310) (E1:=110) (n:=1) (e:=af) (l:=[]) rfl)<|aj<|aH.r<|ae.r ?_
 obtain rfl:=O h
 exact R2 rfl rfl
end Go.Proofs.Ytningmnklfpfjaa
