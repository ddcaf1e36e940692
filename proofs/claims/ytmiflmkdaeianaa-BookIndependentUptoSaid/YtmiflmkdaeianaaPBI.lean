/- The law BookIndependent answers true for every input, up to the size that the statement names. -/
import Derived.Test.YtmiflmkdaeianaaPBI3
set_option linter.unusedVariables false
set_option linter.unusedSimpArgs false
namespace Go.Fw
open Go.RowKit
section
variable {P:Program}
def Ob(P:Program)(f:FuncId)(args:List SV)(c:List Oc):Prop:=
 ∀(M:Mem) (w:World) (vs:List Value),M.bu w→SV.cG M args vs→
  Calls P f ⟨vs⟩ w fun e w'=>∃us M',e=.returned (.agg ⟨us⟩)∧M.le M'∧(∀b o x,M' b o=some x→M b o=some x∨w.heap.size≤b)∧M'.bu w'∧mK M' w' c us∧
   (∀g,da c us g→w.heap.size≤g∧∀o,M' g o=none)∧AF (aK c us)∧Below w.heap.size w w'
theorem Ob.w{f:FuncId}{args args':List SV}{c:List Oc}(h:Ob P f args c)(hi:cc args' args):Ob P f args' c:=fun M w vs hM hv=>h M w vs hM (hi.holds hv)
end
section
variable {P:Program}{C:Ctx}{ops:Array Oper}{S:AS}{nd:Bool}{K:List Ac→AS→Prop}{rest:List Oper}{acc:List Ac}
variable {gd:Option (Nat×Bool)}{rg:List Nat}{d:Nat}{ty:TypeId}{pos:String}{aft:Array Edge}{x y z:Operand}{T U E0:TypeId}
def Hs(S:AS):List Fc→Prop
 |[]=>True
 |.val s::l=>(∀M v,s.h M v→v.oneCell'=true)∧Hs S l
 |.row i::l=>(∃R,S.r i=.live R)∧Hs S l
 |.box _::l=>Hs S l
def pP:List Fc→List Nat
 |[]=>[]
 |.row i::l=>i::pP l
 |.val _::l=>pP l
 |.box _::l=>pP l
inductive pQ (S:AS):List (Nat×Operand)→List (Nat×Fc)→Prop
 |nil:pQ S [] []
 |one {i:Nat} {x:Operand} {s:SV} {ps:List (Nat×Operand)} {qs:List (Nat×Fc)} [o:One s] (h:S.ev x=.sv s) (t:pQ S ps qs):pQ S ((i,x)::ps) ((i,.val s)::qs)
 |row {i j:Nat} {x:Operand} {R:Row} {ps:List (Nat×Operand)} {qs:List (Nat×Fc)} (h:S.ev x=.row j) (hR:S.r j=.live R) (t:pQ S ps qs):pQ S ((i,x)::ps) ((i,.row j)::qs)
def Xh(E:Env):Fc→SV
 |.val s=>s
 |.row j=>.v (E.ν j)
 |.box _=>.any
def AV.kY(E:Env):AV→AV
 |.row i=>.sv (.v (E.ν i))
 |x=>x
def AS.kY(S:AS)(E:Env):AS:={S with t:=fun s=>(S.t s).kY E}
theorem si{E:Env}(x:AV):(∀v,x.holds E v→(x.kY E).holds E v)∧(∀j,(x.kY E).mb j→x.mb j)∧∀j,(x.kY E).mr j→x.mr j:=by
 cases x with
 |row i=>exact⟨fun v hv=>hv,fun j hj=>False.elim hj,fun j hj=>False.elim hj⟩
 |_=>exact⟨fun v hv=>hv,fun j hj=>hj,fun j hj=>hj⟩
theorem ai.kY{E:Env}{a:Act}{w:World}(h:ai C S E a w):ai C (S.kY E) E a w:={h with
  wf:=⟨fun s j hj=>h.wf.tb s j ((si (S.t s)).2.1 j hj),fun s j hj=>h.wf.tr s j ((si (S.t s)).2.2 j hj),h.wf.bb,h.wf.br⟩
  tm:=fun s=>(si (S.t s)).1 _ (h.tm s)}
theorem Ht{E:Env}{s:SV}(h:S.ev x=.sv s):(S.kY E).ev x=.sv s:=by
 cases x with
 |tmp t=>
  have h:S.t t=.sv s:=h
  show(S.t t).kY E=_
  rw[h];rfl
 |_=>exact h
theorem EJ{E:Env}{j:Nat}(h:S.ev x=.row j):(S.kY E).ev x=.sv (.v (E.ν j)):=by
 cases x with
 |tmp t=>
  have h:S.t t=.row j:=h
  show(S.t t).kY E=_
  rw[h];rfl
 |_=>cases h
theorem zg{S':AS}{E:Env}{a:Act}{w:World}(h:ai C S' E a w){ps:List (Nat×Operand)}{qs:List (Nat×Fc)}(hp:pQ S ps qs)(ht:∀s∈ew ps,S'.t s=S.t s)(hr:∀q∈qs,∀j,q.2=.row j→S'.r j=S.r j):g9 (S'.kY E) ps (qs.map fun q=>(q.1,[Xh E q.2])):=by
 induction hp with
 |nil=>exact .nil
 | @one i x s ps qs o hx _ ih=>
  have hx':S'.ev x=.sv s:=by rw[az (rs:=ew ((i,x)::ps)) (fun s hs=>by simp only[ew,List.flatMap_cons];exact List.mem_append_left _ hs) ht];exact hx
  exact g9.one (s:=s) (Ht hx') (ih (fun s hs=>ht s (by simp only[ew,List.flatMap_cons];exact List.mem_append_right _ hs)) (fun q hq=>hr q (List.mem_cons_of_mem _ hq)))
 | @row i j x R ps qs hx hR _ ih=>
  have hx':S'.ev x=.row j:=by rw[az (rs:=ew ((i,x)::ps)) (fun s hs=>by simp only[ew,List.flatMap_cons];exact List.mem_append_left _ hs) ht];exact hx
  obtain⟨⟨ws,hw,_⟩,_⟩:=h.rx j R (by rw[hr (i,.row j) (by simp) j rfl];exact hR)
  have o:One (.v (E.ν j)):=⟨fun M v hv=>by
   have hv:v=E.ν j:=hv
   rw[hv]
   rcases hw.2 with⟨h3,_⟩|⟨g,cap,cur,h3,_⟩<;>rw[h3]<;>rfl⟩
  exact g9.one (s:=.v (E.ν j)) (EJ hx') (ih (fun s hs=>ht s (by simp only[ew,List.flatMap_cons];exact List.mem_append_right _ hs)) (fun q hq=>hr q (List.mem_cons_of_mem _ hq)))
theorem zh{E:Env}:∀{js:List Fc} {us:List Value},(∀j,Fc.box j∉js)→SV.cG E.M (js.map (Xh E)) us→oq E js us
 |[],[],_,_=>trivial
 |.val s::l,u::us,hb,h=>⟨h.1,zh (fun j hj=>hb j (List.mem_cons_of_mem _ hj)) h.2⟩
 |.row i::l,u::us,hb,h=>⟨h.1,zh (fun j hj=>hb j (List.mem_cons_of_mem _ hj)) h.2⟩
 |.box i::l,_,hb,_=>(hb i (by simp)).elim
 |[],_::_,_,h=>h.elim
 |.val _::_,[],_,h=>h.elim
 |.row _::_,[],_,h=>h.elim
def Dx:List Fc→Bool
 |[]=>true
 |.box _::_=>false
 |.val _::l=>Dx l
 |.row _::l=>Dx l
theorem uF:∀{js:List Fc},Dx js=true→∀j,Fc.box j∉js
 |[],_,j,h=>by cases h
 |.box _::_,h,_,_=>by cases h
 |.val _::l,h,j,hj=>by rcases List.mem_cons.1 hj with e|e;cases e;exact uF (js:=l) h j e
 |.row _::l,h,j,hj=>by rcases List.mem_cons.1 hj with e|e;cases e;exact uF (js:=l) h j e
theorem nI:∀{js:List Fc} {j:Nat},Fc.row j∈js→j∈pP js
 |.box _::l,j,h=>by rcases List.mem_cons.1 h with e|e;cases e;exact nI (js:=l) e
 |.val _::l,j,h=>by rcases List.mem_cons.1 h with e|e;cases e;exact nI (js:=l) e
 |.row i::l,j,h=>by
  rcases List.mem_cons.1 h with e|e
  ·cases e;simp[pP]
  ·exact List.mem_cons_of_mem _ (nI (js:=l) e)
theorem oa:∀{js:List Fc} {j:Nat},Hs S js→Fc.row j∈js→∃R,S.r j=.live R
 |.box _::l,j,ho,h=>by rcases List.mem_cons.1 h with e|e;cases e;exact oa (js:=l) ho e
 |.val _::l,j,ho,h=>by rcases List.mem_cons.1 h with e|e;cases e;exact oa (js:=l) ho.2 e
 |.row i::l,j,ho,h=>by
  rcases List.mem_cons.1 h with e|e
  ·cases e;exact ho.1
  ·exact oa (js:=l) ho.2 e
theorem RT.Od(hg:Gd ops S gd rg){pl:List (Nat×Nat)}{zc:List Value}[tP:bf P T pl zc]{parts:Array (Nat×Operand)}{qs:List (Nat×Fc)}(hp:pQ S parts.toList qs)(js:List Fc)(hf:∀E:Env,mY (fun i=>pl[i]?) (zc.map SV.v) (qs.map fun q=>(q.1,[Xh E q.2]))=some (js.map (Xh E)))(hnb:Dx js=true)(hok:Hs S js)(rr:List Nat)(Fi:pP js=rr)(UI:pP (qs.map (·.2))=rr)(hd:d<S.n)
  (next:RunT P C ops nd K rest (⟨rg++ew parts.toList,[],rr,⟨some (d,.cmp .agg js),[],[]⟩⟩::acc) (S.set d (.cmp .agg js))):RunT P C ops nd K (⟨some d,.build T parts,ty,pos,aft,gd⟩::rest) acc S:=
 RT.value hg (ew parts.toList) [] rr (.cmp .agg js) hd (by intro c h;cases h) (fun S' ht _ hr E a w h=>by
  have hu:=tP.h
  cases hT:P.underlying T with
  |none=>rw[hT]at hu;cases hu
  |some u=>
   rw[hT]at hu
   cases u with
   |struct fs=>
    simp only at hu
    have hz:(zeroValue T).run P w=.ok (.agg ⟨zc⟩) w:=au.run (t:=⟨tP.hz⟩) w
    have Oe:=zg h hp ht (fun q hq j e=>hr j (by rw[←UI];exact nI (List.mem_map.2 ⟨q,hq,e⟩)))
    obtain⟨us,h1,h2,_⟩:=qi h.kY (fun i=>pl[i]?) Oe (fun s _=>rfl) (cells:=zc.map SV.v) (vs:=zc) (by
     have:∀l:List Value,SV.cG E.M (l.map SV.v) l:=by
      intro l;induction l with
      |nil=>trivial
      |cons v l ih=>exact⟨rfl,ih⟩
     exact this zc) (List.all_eq_true.1 tP.o) (hf E)
    refine⟨.agg ⟨us⟩,?_,⟨us,rfl,zh (uF hnb) h2⟩,fun j e=>(uF hnb j e).elim,fun j e=>?_⟩
    ·have hm:(fs.mapM (fun f=>do pure (f.offset,←sizeOf f.type):Field→Sem (Nat×Nat))).run P w=.ok pl.toArray w:=by
      have:=kf (P:=P) (w:=w) hu
      rw[←Array.toArray_toList (xs:=fs),List.mapM_toArray]
      rw[Sem.run_map,this];rfl
     have h1':Instr.fill (fun i=>pl.toArray[i]?) ⟨zc⟩ (parts.toList.map fun p=>(p.1,a.eval p.2))=some ⟨us⟩:=by simpa using h1
     simp only[execOp,Instr.build,underlying]
     simp only[Sem.run_bind,hz,Result.andThen_ok,run_program,hT,Sem.run_pure,Value.cells]
     have hm':(Array.mapM (fun f=>do
       let __do_lift←sizeOf f.type
       pure (f.offset,__do_lift)) fs:Sem _).run P w=.ok pl.toArray w:=hm
     simp only[hm',Result.andThen_ok]
     have e4:(Array.map (fun x=>match x with|(i,x)=>(i,a.eval x)) parts).toList=parts.toList.map fun p=>(p.1,a.eval p.2):=by simp
     simp only[e4,h1',Sem.run_pure,Result.andThen_ok]
    ·obtain⟨R,hR⟩:=oa hok e
     rw[hr j (by rw[←Fi];exact nI e),hR];simp
   |_=>cases hu) next
end
end Go.Fw
namespace Go.Fw
open Go.RowKit
def wh(P:Program)(f:FuncId)(args:List AV)(T:TypeId)(c:List Oc)(Post:Nat→Mem→World→Value→Prop):Prop:=
 ∀(M:Mem) (w:World) (β:Nat) (vs us:List Value),M.bu w→ju M w β T c us→bz (me M β) args vs→
  Calls P f ⟨vs⟩ w fun e w'=>∃v M',e=.returned v∧M.le M'∧(∀b o x,M' b o=some x→M b o=some x∨w.heap.size≤b)∧M'.bu w'∧Post w.heap.size M' w' v∧
   ju M' w' β T c us∧w'.os=w.os∧w'.tape=w.tape∧w'.output=w.output∧w.heap.size≤w'.heap.size∧∀k,k<w.heap.size→k≠β→¬da c us k→w'.heap[k]? =w.heap[k]?
def Of(R:Row)(n:Nat)(M':Mem)(w':World)(v:Value):Prop:=∃us,w'.ownsRow 0 R.E R.sz v R.n us∧SV.cG M' R.cells us∧∀g,v.ownBlock=some g→n≤g∧∀o,M' g o=none
def Og(T:TypeId)(c:List Oc)(n:Nat)(M':Mem)(w':World)(v:Value):Prop:=∃β us,v=.pointer (some ⟨β,0,none⟩)∧ju M' w' β T c us∧n≤β∧∀g,da c us g→n≤g
theorem tv{P:Program}{f:FuncId}{fn:Func}{code:Code}{args:List AV}{T:TypeId}{c:List Oc}{Post:Nat→Mem→World→Value→Prop}(ids:List Nat)(hf:P.funcs[f]? =some fn)(hb:fn.body=some code)(hn:args.length≤fn.ntmps)(wK:args.all AV.oy=true)(rG:ids.Nodup)(E5:ids.length=(rowsOf c).length)(hge:(ids.all fun i=>Nat.ble 1000 i)=true)(Cw:r5 c)(Rq:AS→Prop)
  (h:∀(w:World) (M:Mem) (β:Nat) (us:List Value),Ok P (AK w M β c us ids hge) code (AS.tJ fn.ntmps args [(1000,⟨T,aM ids c⟩)] (ids.zip (rowsOf c))) (fun e S=>(e=.normal∨e=.ret)∧Rq S∧S.b 1000=some ⟨T,aM ids c⟩∧Lv S ids (rowsOf c)))
  (hr:∀(w:World) (M:Mem) (β:Nat) (us:List Value) (S':AS) (E:Env) (a:Act) (w':World),Rq S'→ai (AK w M β c us ids hge) S' E a w'→S'.b 1000=some ⟨T,aM ids c⟩→(∀g,da c us g→∃j∈ids,(E.ν j).ownBlock=some g)→(∀j∈ids,∃R,S'.r j=.live R)→∃v,(results fn a.tmps).run P w'=.ok v w'∧Post w.heap.size E.M w' v):wh P f args T c Post:=by
 intro M w β vs us hM ho hv
 have KG:(aK c us).length=(rowsOf c).length:=by rw[←cZ ho.al,List.length_map]
 have hnd:((ids.zip (aK c us)).map (·.1)).Nodup:=by rw[qP (by omega)];exact rG
 have BQ:ai (AK w M β c us ids hge) (AS.tJ fn.ntmps args [(1000,⟨T,aM ids c⟩)] (ids.zip (rowsOf c))) ⟨fun _=>β,gw (ids.zip (aK c us)) (fun _=>.nilIface),fun _=>False,M⟩ {tmps:=⟨vs⟩++Array.replicate (fn.ntmps-(⟨vs⟩:Array Value).size) undef,defers:=[]} w:=by
  have h0:=yW (n:=fn.ntmps) ids hM ho hv wK hn rG E5
  exact{wf:=h0.wf,marks:=h0.marks,size:=h0.size,os:=h0.os,tape:=h0.tape,output:=h0.output,grown:=h0.grown,frame:=h0.frame,m0:=h0.m0,cj:=h0.cj,bu:=h0.bu,tm:=h0.tm,bx:=h0.bx,inj:=h0.inj,rx:=h0.rx,cI:=h0.cI,dL:=h0.dL,bX:=fun i v e=>(by
   obtain⟨R,hm⟩:=uC e
   exact eI hnd hm),fO:=h0.fO,jj:=trivial}
 refine dA rfl hf hb BQ (h w M β us) ?_
 rintro S' E a w' ⟨hq,hB,hL⟩ hh
 have hβ:E.β 1000=β:=hh.dL 1000 β rfl
 obtain⟨us',ho',eF⟩:=gy hh hB hL rG
 rw[hβ]at ho'
 obtain⟨_,_,_,D2,q2,q3⟩:=hh.bx 1000 _ hB
 rw[hβ,ho'.hp]at q2
 obtain rfl:us'=D2:=by
  have:=Option.some.inj q2
  injection this with e
  injection e
 obtain⟨_,NR⟩:=kU hh hL q3
 have gZ:aK c us=aK c us':=by
  rw[NR]
  have key:∀(ids:List Nat) (l:List (Row×Value)) (Rs:List Row),ids.length=l.length→l.map (·.1)=Rs→(∀i R v,(i,R,v)∈ids.zip l→E.ν i=v)→l=Rs.zip (ids.map E.ν):=by
   intro ids
   induction ids with
   |nil=>intro l Rs hl hm _;cases l with|nil=>cases hm;rfl|cons _ _=>simp at hl
   |cons i ids ih=>
    intro l Rs hl hm hν
    cases l with
    |nil=>simp at hl
    |cons p l=>
     cases hm
     obtain⟨R,v⟩:=p
     rw[List.map_cons,List.map_cons,List.zip_cons_cons,hν i R v (by rw[List.zip_cons_cons];simp),←ih l _ (by simpa using hl) rfl (fun i R v hm=>hν i R v (by rw[List.zip_cons_cons];exact List.mem_cons_of_mem _ hm))]
  exact key ids _ _ (by omega) (cZ ho.al) (fun i R v hm=>hh.bX i v (Cv hnd hm))
 obtain rfl:us=us':=uD Cw ho.al ho'.al gZ
 obtain⟨v,hv,hx⟩:=hr w M β us S' E a w' hq hh hB (fun g hg=>(eF g).1 hg) (fun j hj=>hL.mem j hj)
 refine⟨v,hv,v,E.M,rfl,hh.m0,fun b o x e=>?_,hh.bu,hx,ho',hh.os,hh.tape,hh.output,hh.grown,fun k hk hne hno=>hh.frame k hk (fun e=>e.elim hne hno)⟩
 rcases hh.cj b o x e with q|q|q|q
 ·exact .inl q
 ·exact .inr q
 ·rw[show b=β from q,ho'.nb o]at e;cases e
 ·rw[(ho'.nr b q).2 o]at e;cases e
theorem A0{P:Program}{w:World}{M:Mem}{β:Nat}{c:List Oc}{us:List Value}{ids:List Nat}{hge:(ids.all fun i=>Nat.ble 1000 i)=true}{S':AS}{E:Env}{a:Act}{w':World}{B:iP}(hh:ai (AK w M β c us ids hge) S' E a w')(hB:S'.b 1000=some B)(eF:∀g,da c us g→∃j∈ids,(E.ν j).ownBlock=some g)(hlv:∀j∈ids,∃R,S'.r j=.live R)
  {k:Nat} {R:Row} (hR:S'.r k=.live R) (hk:k∉ids) (g:Nat) (hg:(E.ν k).ownBlock=some g):w.heap.size≤g:=by
 obtain⟨_,q3⟩:=hh.rx k R hR
 obtain⟨q4,q5,_,q7⟩:=q3 g hg
 rcases q4 with q4|q4|q4
 ·exact q4
 ·have h1:E.β 1000=β:=hh.dL 1000 β rfl
  exact absurd (h1.trans (show β=g from(show g=β from q4).symm)) (q7 1000 B hB)
 ·obtain⟨j,hj,oW⟩:=eF g q4
  obtain⟨R',iQ⟩:=hlv j hj
  have:=hh.cI k j R R' hR iQ g hg oW
  subst this;exact absurd hj hk
theorem A4{P:Program}{f:FuncId}{fn:Func}{code:Code}{args:List AV}{T:TypeId}{c:List Oc}{R:Row}(ids:List Nat)(hf:P.funcs[f]? =some fn)(hb:fn.body=some code)(hn:args.length≤fn.ntmps)(wK:args.all AV.oy=true)(rG:ids.Nodup)(E5:ids.length=(rowsOf c).length)(hge:(ids.all fun i=>Nat.ble 1000 i)=true)(Cw:r5 c)
  (h:∀(w:World) (M:Mem) (β:Nat) (us:List Value),Ok P (AK w M β c us ids hge) code (AS.tJ fn.ntmps args [(1000,⟨T,aM ids c⟩)] (ids.zip (rowsOf c))) (fun e S=>(e=.normal∨e=.ret)∧(∃k,qj P S fn.results.toList (.row k)∧S.r k=.live R∧k∉ids)∧S.b 1000=some ⟨T,aM ids c⟩∧Lv S ids (rowsOf c))):wh P f args T c (Of R):=
 tv ids hf hb hn wK rG E5 hge Cw _ h (fun w M β us S' E a w' ⟨k,hr,hR,hk⟩ hh hB eF hlv=>by
  obtain⟨v,hv,hx⟩:=hr.run hh
  obtain⟨⟨D2,q1,q2⟩,q3⟩:=hh.rx k R hR
  have hx:v=E.ν k:=hx
  subst hx
  exact⟨_,hv,D2,q1,q2,fun g hg=>⟨A0 (P:=P) hh hB eF hlv hR hk g hg,(q3 g hg).2.1⟩⟩)
theorem A5{P:Program}{f:FuncId}{fn:Func}{code:Code}{args:List AV}{T T2:TypeId}{c c2:List Oc}(ids:List Nat)(hf:P.funcs[f]? =some fn)(hb:fn.body=some code)(hn:args.length≤fn.ntmps)(wK:args.all AV.oy=true)(rG:ids.Nodup)(E5:ids.length=(rowsOf c).length)(hge:(ids.all fun i=>Nat.ble 1000 i)=true)(Cw:r5 c)
  (h:∀(w:World) (M:Mem) (β:Nat) (us:List Value),Ok P (AK w M β c us ids hge) code (AS.tJ fn.ntmps args [(1000,⟨T,aM ids c⟩)] (ids.zip (rowsOf c))) (fun e S=>(e=.normal∨e=.ret)∧(∃(k:Nat) (ks:List Nat),qj P S fn.results.toList (.ptr k 0)∧S.b k=some ⟨T2,aM ks c2⟩∧Lv S ks (rowsOf c2)∧ks.Nodup∧k≠1000∧∀j∈ks,j∉ids)∧S.b 1000=some ⟨T,aM ids c⟩∧Lv S ids (rowsOf c))):wh P f args T c (Og T2 c2):=
 tv ids hf hb hn wK rG E5 hge Cw _ h (fun w M β us S' E a w' ⟨k,ks,hr,Pj,hL2,hks,hk,hd⟩ hh hB eF hlv=>by
  obtain⟨v,hv,hx⟩:=hr.run hh
  obtain⟨D2,xy,UJ⟩:=gy hh Pj hL2 hks
  refine⟨v,hv,E.β k,D2,hx,xy,?_,fun g hg=>?_⟩
  ·obtain⟨p1,_,_,_⟩:=hh.bx k _ Pj
   rcases p1 with p|p|p
   ·exact p
   ·exact absurd (hh.inj k 1000 _ _ Pj hB ((show E.β k=β from p).trans (show E.β 1000=β from hh.dL 1000 β rfl).symm)) hk
   ·obtain⟨j,hj,oW⟩:=eF _ p
    obtain⟨R',iQ⟩:=hlv j hj
    exact absurd rfl (((hh.rx j R' iQ).2 _ oW).2.2.2 k _ Pj)
  ·obtain⟨j,hj,oW⟩:=(UJ g).1 hg
   obtain⟨R',iQ⟩:=hL2.mem j hj
   exact A0 (P:=P) hh hB eF hlv iQ (hd j hj) g oW)
section steps
variable {P:Program}{C:Ctx}{ops:Array Oper}{S:AS}{nd:Bool}{K:List Ac→AS→Prop}{rest:List Oper}{acc:List Ac}
variable {gd:Option (Nat×Bool)}{rg:List Nat}{d:Nat}{ty:TypeId}{pos:String}{aft:Array Edge}{x y z:Operand}{T U E0:TypeId}
theorem ai.Ju{E:Env}{a:Act}{w:World}(h0:ai C S E a w){i:Nat}(hi:S.b i=none)(hp:C.dL i=none){ks:List Nat}{c:List Oc}{us:List Value}{β:Nat}(hks:ks.Nodup)(oC:ks.length=(rowsOf c).length)(EC:Un S ks)
  (ho:ju E.M w β T c us) (hβ:yl C S E β) (hg:∀g,da c us g→yl C S E g):
  ∃E':Env,E'.M=E.M∧E'.β i=β∧ai C (AS.aH (kF [] ks c) (AS.cP [(i,⟨T,aM ks c⟩)] S)) E' a w:=by
 have KG:(aK c us).length=(rowsOf c).length:=by rw[←cZ ho.al,List.length_map]
 obtain⟨E1,q1,q2,q3,q4,q5,h1⟩:=ai.yX ks (aK c us) h0 (by omega) hks EC (gM ho.al) ho.ap (fun p hp g xh=>hg g ⟨p,hp,xh⟩)
 have hS1:AS.aH ((ks.zip (aK c us)).map (fun n=>(n.1,.live n.2.1))) S=AS.aH (kF [] ks c) S:=by rw[←vZ ho.al [] ks];rfl
 rw[hS1]at h1
 obtain⟨f1,f2,f3,f4,f5⟩:=hβ
 have Q8:(AS.aH (kF [] ks c) S).b i=none:=by rw[(cu _ _).2.2.1];exact hi
 have hfree:yl C (AS.aH (kF [] ks c) S) E1 β:=by
  refine⟨f1,by rw[q1];exact f2,by rw[q3];exact f3,fun j B hB=>?_,fun j R hR e=>?_⟩
  ·rw[(cu _ _).2.2.1]at hB;rw[q2];exact f4 j B hB
  ·by_cases hj:j∈ks
   ·obtain⟨p,hm⟩:=jb (l:=ks) (k:=aK c us) (by omega) hj
    rw[q4 j p hm]at e
    exact(ho.nr β ⟨p,(eA hm).2,e⟩).1 rfl
   ·rw[fE,l9 (fun R hm=>by
     obtain⟨x,hx,e⟩:=List.mem_map.1 (show(j,R)∈(ks.zip (rowsOf c)).map (fun p=>(p.1,gG.live p.2))from hm)
     obtain⟨k,R2⟩:=x
     have e:k=j:=congrArg Prod.fst e
     exact hj (e▸(eA hx).1))]at hR
    rw[q5 j hj]at e
    exact f5 j R hR e
 have h2:=h1.yp Q8 hp hfree ho.hp (iL (w:=w) oC (by rw[q1];exact ho.al) q4) (fun x hx=>by
  obtain⟨p1,p2⟩:=ja x hx
  refine⟨fun j e=>absurd e (p1 j),fun j e=>?_⟩
  obtain⟨R,hm⟩:=jb (l:=ks) (k:=rowsOf c) oC (p2 j e)
  obtain⟨R',iQ⟩:=qO (l:=kF [] ks c) (j:=j) (R:=.live R) (List.mem_map.2 ⟨(j,R),hm,rfl⟩)
  rw[fE,iQ]
  obtain⟨x,hx,e⟩:=List.mem_map.1 (show(j,R')∈(ks.zip (rowsOf c)).map (fun p=>(p.1,gG.live p.2))from mc iQ)
  rw[←show gG.live x.2=R' from congrArg Prod.snd e]
  simp)
 refine⟨{E1 with β:=fun j=>if j=i then β else E1.β j},q1,?_,?_⟩
 rotate_left 1
 ·rw[show AS.cP [(i,(⟨T,aM ks c⟩:iP))] S=S.fY i ⟨T,aM ks c⟩from rfl,pM]
  exact h2
 ·show(if i=i then β else E1.β i)=β
  rw[if_pos rfl]
theorem RT.Jv(hg:Gd ops S gd rg){f:FuncId}[bM P f]{g:Operand}{xs:Array Operand}{at_:Array TypeId}{args:List AV}{T:TypeId}{c:List Oc}{R:Row}(hp:wh P f args T c (Of R))(i:Nat)(js:List Nat)(hB:S.b i=some ⟨T,aM js c⟩)(hL:Lv S js (rowsOf c))(C7:js.Nodup)
  (wK:args.all AV.oy=true) (hf:S.ev g=.sv (.v (.func (.func f) #[] #[]))) (hargs:lM S xs.toList (args.map (AV.H9 i))) (hd:d<S.n) (qg:S.r d=.un) (oB:d<1000)
  (next:RunT P C ops nd K rest (⟨rg++(af g++xs.toList.flatMap af),[i],d::js,⟨some (d,.row d),[],[(d,.live R)]⟩⟩::acc) ((AS.aH [(d,.live R)] S).set d (.row d))):RunT P C ops nd K (⟨some d,.call ⟨.value g,xs,at_⟩,ty,pos,aft,gd⟩::rest) acc S:=by
 refine .inl ⟨_,[i],d::js,_,?_,next⟩
 rintro S' hn ht hb hr k a w L Q ho ⟨E,h⟩ Jb
 refine aX (C:=C) ho (hg.wanted h (fun s hs=>ht s (List.mem_append_left _ hs)) rfl) ?_
 have mU:a.eval g=.func (.func f) #[] ⟨[]⟩:=by
  have h1:=h.ev g;rw[az (fun _ h=>List.mem_append_right _ (List.mem_append_left _ h)) ht,hf]at h1;exact h1
 have hall:=n9 wK (lM.vals h hargs (fun s hs=>ht s (List.mem_append_right _ (List.mem_append_right _ hs))))
 have cX:S'.b i=some ⟨T,aM js c⟩:=by rw[hb i (by simp)];exact hB
 have C8:Lv S' js (rowsOf c):=hL.congr (fun k hk=>hr k (List.mem_cons_of_mem _ hk))
 have BI:S'.r d=.un:=by rw[hr d (by simp)];exact qg
 obtain⟨us,Cu,qR⟩:=gy h cX C8 C7
 refine aY (C:=C) (by intro c h;cases h) (gp mU) ?_
 rw[List.append_nil]
 refine⟨fun h=>by simp at h,dh ((hp E.M w (E.β i) _ us h.bu Cu hall).mono ?_)⟩
 rintro e w' ⟨v,M',rfl,hM,hnew,hin,⟨D2,hv,hc,hfr⟩,xy,hos,gx,hout,hsize,eF⟩
 have h1:=(h.uE cX C8 C7 Cu hM hnew hin xy hos gx hout hsize eF).um BI oB [] none (.inl ⟨rfl,rfl⟩) (R':=R) hv hc (fun g hg=>.inr (h.lN (hfr g hg).1 (hfr g hg).2)) (jJ w' none)
 refine Jb _ _ ⟨_,h1.put (x:=.row d) (v:=v) (by simp[AV.holds]) (by show d<S'.n;omega) ⟨fun _ e=>e.elim,fun j e=>?_⟩⟩
 cases e
 show(AS.kz S' d _).r d≠_
 rw[AS.dX];simp
theorem RT.Dy(hg:Gd ops S gd rg){f:FuncId}[bM P f]{g:Operand}{xs:Array Operand}{at_:Array TypeId}{args:List AV}{T T2:TypeId}{c c2:List Oc}(hp:wh P f args T c (Og T2 c2))(i:Nat)(js:List Nat)(hB:S.b i=some ⟨T,aM js c⟩)(hL:Lv S js (rowsOf c))(C7:js.Nodup)
  (wK:args.all AV.oy=true) (hf:S.ev g=.sv (.v (.func (.func f) #[] #[]))) (hargs:lM S xs.toList (args.map (AV.H9 i))) (hd:d<S.n) (ks:List Nat) (hks:ks.Nodup) (oC:ks.length=(rowsOf c2).length) (EC:Un S ks) (hdb:S.b d=none) (vg:C.dL d=none)
  (next:RunT P C ops nd K rest (⟨rg++(af g++xs.toList.flatMap af),[i,d],js++ks,⟨some (d,.ptr d 0),[(d,⟨T2,aM ks c2⟩)],kF [] ks c2⟩⟩::acc) ((AS.aH (kF [] ks c2) (AS.cP [(d,⟨T2,aM ks c2⟩)] S)).set d (.ptr d 0))):RunT P C ops nd K (⟨some d,.call ⟨.value g,xs,at_⟩,ty,pos,aft,gd⟩::rest) acc S:=by
 refine .inl ⟨_,[i,d],js++ks,_,?_,next⟩
 rintro S' hn ht hb hr k a w L Q ho ⟨E,h⟩ Jb
 refine aX (C:=C) ho (hg.wanted h (fun s hs=>ht s (List.mem_append_left _ hs)) rfl) ?_
 have mU:a.eval g=.func (.func f) #[] ⟨[]⟩:=by
  have h1:=h.ev g;rw[az (fun _ h=>List.mem_append_right _ (List.mem_append_left _ h)) ht,hf]at h1;exact h1
 have hall:=n9 wK (lM.vals h hargs (fun s hs=>ht s (List.mem_append_right _ (List.mem_append_right _ hs))))
 have cX:S'.b i=some ⟨T,aM js c⟩:=by rw[hb i (by simp)];exact hB
 have C8:Lv S' js (rowsOf c):=hL.congr (fun k hk=>hr k (List.mem_append_left _ hk))
 have hdn:S'.b d=none:=by rw[hb d (by simp)];exact hdb
 obtain⟨us,Cu,qR⟩:=gy h cX C8 C7
 refine aY (C:=C) (by intro c h;cases h) (gp mU) ?_
 rw[List.append_nil]
 refine⟨fun h=>by simp at h,dh ((hp E.M w (E.β i) _ us h.bu Cu hall).mono ?_)⟩
 rintro e w' ⟨v,M',rfl,hM,hnew,hin,⟨β,D2,rfl,ho3,hβ,hfr⟩,xy,hos,gx,hout,hsize,eF⟩
 have h0:=h.uE cX C8 C7 Cu hM hnew hin xy hos gx hout hsize eF
 obtain⟨E',e1,e2,h1⟩:=h0.Ju hdn vg hks oC (EC.congr fun k hk=>hr k (List.mem_append_right _ hk)) ho3 (h.lN hβ ho3.nb) (fun g hg=>h.lN (hfr g hg) (ho3.nr g hg).2)
 refine Jb _ _ ⟨_,h1.put (x:=.ptr d 0) (v:=.pointer (some ⟨β,0,none⟩)) (by show _=Value.pointer (some ⟨E'.β d,0,none⟩);rw[e2]) ?_ ⟨fun j e=>?_,fun j e=>e.elim⟩⟩
 ·rw[(cu _ _).1];show d<S'.n;omega
 ·have e:j=d:=e
  subst e
  rw[(cu _ _).2.2.1]
  exact⟨_,AS.bD _ _ _⟩
theorem zj{E:Env}:∀{js:List Fc} {us:List Value},oq E js us→bz E (js.map Fc.av) us
 |[],[],_=>trivial
 |.val _::_,_::_,h=>⟨h.1,zj h.2⟩
 |.row _::_,_::_,h=>⟨h.1,zj h.2⟩
 |.box _::_,_::_,h=>⟨h.1,zj h.2⟩
 |[],_::_,h=>h.elim
 |_::_,[],h=>h.elim
theorem RT.aaO(hg:Gd ops S gd rg){js:List Fc}(hx:S.ev x=.cmp .agg js)(cells:List AV)(hc:js.map Fc.av=cells)(hd:d<S.n)(hb:S.b d=none)(hp:C.dL d=none)
  (next:RunT P C ops nd K rest (⟨rg++af x,[d],[],⟨some (d,.ptr d 0),[(d,⟨T,cells⟩)],[]⟩⟩::acc) ((S.fY d ⟨T,cells⟩).set d (.ptr d 0))):RunT P C ops nd K (⟨some d,.box T x,ty,pos,aft,gd⟩::rest) acc S:=
 RT.zP hg (by intro c h;cases h) (af x) hd hb hp (fun S' ht E a w h=>by
  subst hc
  have hx':S'.ev x=.cmp .agg js:=by rw[az (fun _ h=>h) ht,hx]
  have h1:=h.ev x
  rw[hx']at h1
  obtain⟨us,hu,hall⟩:=h1
  have hu:a.eval x=.agg ⟨us⟩:=hu
  refine⟨us,by simp[execOp,Instr.box,newVar,newRow,hu,Value.cells],zj hall,fun z hz=>?_⟩
  obtain⟨l1,l2⟩:=fP h.wf hx'
  obtain⟨q,hq,rfl⟩:=List.mem_map.1 hz
  cases q with
  |val s=>exact cS
  |box k=>exact⟨fun i e=>l1 i (by have e:i=k:=e;subst e;exact hq),fun i e=>e.elim⟩
  |row k=>exact⟨fun i e=>e.elim,fun i e=>l2 i (by have e:i=k:=e;subst e;exact hq)⟩) next
end steps
end Go.Fw
namespace Go.Proofs.Ytmiflmkdaeianaa
open Go.Fw
noncomputable def gI(o0:Int)(o1:List En):Option (List En):=(bA o0 o1).bind fun x7=>(bif x7 then some []else(some (o1.length:Int)).bind fun fF=>(EY 56 fF (⟨0,0,0,⟨false,[]⟩⟩:En)).bind fun fW=>(some (o1.length:Int)).bind fun eT=>(bR (fun(s8:Int×(List En))=>match s8 with|⟨iD,ik⟩=>(show Option ((Int×(List En))⊕((List En)))from(some (decide ((iD:Int)<eT))).bind fun fX=>(bif fX then(pY o1 iD).bind fun iV=>(o1[iV]?).bind fun⟨oM,oN,oO,⟨sZ,AM⟩⟩=>(cg ⟨sZ,AM⟩ ⟨false,[]⟩).bind fun⟨iB,iC⟩=>(pY ik iD).bind fun iA=>(stM ik iA ⟨oM,oN,oO,⟨iB,iC⟩⟩).bind fun uy=>(some (IntKind.i64.wrap (iD+1))).bind fun kO=>some (.inl (kO,uy))else some (.inr ik)))) (0,fW)).bind fun ey=>some ey)
noncomputable def fU(o0:Int)(o1:List En):Option (Int×(List En)):=(gI o0 o1).bind fun eN=>some (o0,eN)
end Go.Proofs.Ytmiflmkdaeianaa
namespace Go.Proofs.Ytmiflmkdaeianaa
open Go.Fw Go.Fw.Z Go.RowKit
theorem sj{o0:Int}{o1:List En}{r:List En}(h:gI o0 o1=some r):wh Try.prog 17 [.ptr 1000 0] 66 [.s (.v (.int .i64 o0)),.r (TR 43 5 dj o1)] (Of (TR 43 5 dj r)):=by
 refine A4 [1001] Try.func17 rfl (Nat.le_of_ble_eq_true rfl) rfl (by decide) rfl rfl ⟨⟨_,rfl⟩,trivial,trivial⟩ (fun eV M β us=>?_)
 unfold gI at h
 refine sr<|ag rfl<|dn<|bH (fI 2 304 43 5 rfl rfl T)<|qq<|sr<|mo (s:=.ptr _ _) rfl<|bE h fun x7 h7 h=>RT.jl .none (dP h7) 1000 [1001] rfl ⟨rfl,trivial⟩ (by decide) rfl rfl (.cons rfl (.nil)) T<|dn ?_
 cases x7
 refine fs<|sr<|mo (s:=.ptr _ _) rfl<|RT.dK .none rfl T<|fa rfl rfl<|RT.fH .none (s:=.row _) rfl rfl rfl T<|lE (F h) fun fF iY h=>lL rfl rfl iY<|bE h fun fW jw h=>RT.sK (n:=5) (e:=dj) .none rfl rfl T rfl T (by rfl) (by decide) (by exact⟨SV.aa _,SV.aa _,SV.aa _,SV.aa _,imp_nil,trivial⟩) jw<|an (s:=.row _) rfl<|dn<|qq<|sr<|mo (s:=.ptr _ _) rfl<|RT.dK .none rfl T ?_
 refine fa rfl rfl<|RT.fH .none (s:=.row _) rfl rfl rfl T<|lE h fun eT jx h=>lL rfl rfl jx<|mv rfl<|dn<|bE h fun e8 As rU=>?_
 refine bg (fun(ey:(List En))=>AS.cm 35 [(3,.row 13)] [(1000,⟨66,[.sv (.v (.int .i64 o0)),.row 1001]⟩)] [(13,TR 43 5 dj ey),(1001,TR 43 5 dj o1)]) (fun ey=>ey=e8) ?_ (fun ey At=>?_)
 refine ax ?_
 refine bh As (fun s8=>AS.cm 35 [(3,.row 13),(17,.row 1001),(18,.sv (.v (.int .i64 eT))),(19,.sv (.v (.int .i64 s8.1)))] [(1000,⟨66,[.sv (.v (.int .i64 o0)),.row 1001]⟩)] [(13,TR 43 5 dj s8.2),(1001,TR 43 5 dj o1)]) (wR []) (fun s8 y8 G8 h Au Av=>?_)
 obtain⟨iD,ik⟩:=s8
 try dsimp only
 refine sr<|lE h fun fX kE h=>ls _ rfl rfl kE<|dn<|qq ?_
 cases fX
 refine cF<|bq<|ae.x<|ae.x<|aF.x<|ae.n ?_
 obtain rfl:=O (F h)
 exact⟨ik,Av _ rfl,wR []⟩
 refine cT<|aG<|ae.n<|qq<|ax<|sr<|mv rfl<|bE (V h) fun iV nj h=>iR rfl rfl rfl nj ?_
 obtain⟨⟨oM,oN,oO,⟨sZ,AM⟩⟩,mM,h⟩:=bS h
 refine lA rfl rfl mM<|al (cs:=[.v (.int .i64 0),.v (.int .u8 ((0:Nat):Int)),.v (.int .i64 0),.v (.bool false),slc 1 (List.map aj [])]) (by exact⟨SV.aa _,SV.aa _,SV.aa _,SV.aa _,imp_nil,trivial⟩) rfl<|ag rfl<|so rfl rfl rfl<|dn<|sr<|fa rfl rfl<|ld rfl rfl (.cons rfl (.cons rfl (.nil)))<|bI (cs:=[_,_]) (cs':=[.v (.bool false),slc 1 (List.map aj [])]) (.nil) ⟨SV.aa _,imp_nil,trivial⟩ ?_
 obtain⟨⟨iB,iC⟩,n8,h⟩:=bS h
 refine cl (eX n8) ⟨rfl,rfl,trivial⟩<|fa rfl rfl<|RT.uS (cells:=[_,_,_,_,_]) .none rfl rfl rfl rfl T rfl<|dn<|ah<|mo (s:=.row _) rfl<|mv rfl<|ld rfl rfl (.cons rfl (.cons rfl (.cons rfl (.cons rfl (.cons rfl (.nil))))))<|bE h fun iA lD h=>iR rfl rfl rfl lD<|bE h fun uy qG h=>sA ⟨oM,oN,oO,⟨iB,iC⟩⟩ rfl rfl rfl qG<|RT.done<|aF.n<|ae.n<|ah<|lE h fun kO oI h=>ad _ rfl rfl oI<|mv rfl ?_
 refine RT.done ?_
 obtain rfl:=O h
 exact ae.n ⟨(kO,uy),Au _ rfl,wR []⟩
 subst At
 try dsimp only
 refine ae.n<|sr<|mo (s:=.row _) rfl<|an (s:=.row _) rfl<|dn<|aq ?_
 obtain rfl:=O rU
 exact⟨.inr rfl,⟨_,.tmp rfl,rfl,by decide⟩,rfl,⟨rfl,trivial⟩⟩
 refine cT<|sr<|ag rfl<|dn<|bH (fI 2 310 43 5 rfl rfl T)<|aq<|ae.r ?_
 obtain rfl:=O (V h)
 exact⟨.inr rfl,⟨_,.tmp rfl,rfl,by decide⟩,rfl,⟨rfl,trivial⟩⟩
theorem oS{o0:Int}{o1:List En}{r:Int×(List En)}(h:fU o0 o1=some r):wh Try.prog 24 [.ptr 1000 0] 66 [.s (.v (.int .i64 o0)),.r (TR 43 5 dj o1)] (Og 66 [.s (.v (.int .i64 r.1)),.r (TR 43 5 dj r.2)]):=by
 refine A5 [1001] Try.func24 rfl (Nat.le_of_ble_eq_true rfl) rfl (by decide) rfl rfl ⟨⟨_,rfl⟩,trivial,trivial⟩ (fun eV M β us=>?_)
 unfold fU at h
 refine sr<|ag rfl<|dn<|qq<|sr<|mo (s:=.ptr _ _) rfl<|RT.GG .none rfl rfl T<|dn<|fs<|qq<|ak mixed<|mo (s:=.ptr _ _) rfl<|RT.dK .none rfl T<|fa rfl rfl<|lV rfl rfl rfl<|mo (s:=.ptr _ _) rfl<|bE h fun eN gL h=>RT.Jv .none (sj gL) 1000 [1001] rfl ⟨rfl,trivial⟩ (by decide) rfl rfl (.cons rfl (.nil)) T rfl T<|RT.Od .none (.one rfl (.row rfl rfl (.nil))) [.val (.v (.int .i64 o0)),.row 10] (fun _=>rfl) rfl ⟨(fun _ _ q_=>One.h _ _ q_),⟨_,rfl⟩,trivial⟩ [10] rfl rfl T ?_
 refine RT.aaO .none rfl [.sv (.v (.int .i64 o0)),.row 10] rfl T rfl rfl<|an (s:=.ptr _ _) rfl ?_
 refine RT.done ⟨by kernel_rfl,?_⟩
 refine ae.n<|aq ?_
 obtain rfl:=O h
 exact⟨.inr rfl,⟨12,[10],.tmp rfl,rfl,⟨rfl,trivial⟩,by decide,by decide,by decide⟩,rfl,⟨rfl,trivial⟩⟩
end Go.Proofs.Ytmiflmkdaeianaa
namespace Go.Proofs.Ytmiflmkdaeianaa
open Go.Fw
noncomputable def dc(x0:Nat)(x1:List Mv)(x2:List Mv):Option (Bool):=cz (fun(Hu:Bool)=>(bif Hu then(fB).bind fun iy=>some iy else(fT x0 x1).bind fun⟨gS,qY⟩=>(fT x0 x1).bind fun⟨tc,td⟩=>(bL tc td).bind fun nY=>(dw nY).bind fun mD=>(fU gS qY).bind fun⟨gz,oL⟩=>(bR (fun(Lo:Int×(List En))=>match Lo with|⟨iq,mg⟩=>(show Option ((Int×(List En))⊕((List En)))from(some (x2.length:Int)).bind fun tQ=>(some (decide ((iq:Int)<tQ))).bind fun sM=>(bif sM then(bJ x2 iq).bind fun⟨Dz,Lp,Lq,⟨⟨Ls,Lt⟩,⟨Lu,Lw⟩⟩⟩=>(bJ x2 iq).bind fun⟨Ak,vH,Lx,⟨⟨Ly,Lz⟩,⟨LA,LB⟩⟩⟩=>(bJ x2 iq).bind fun⟨LC,LD,DA,⟨⟨LF,LG⟩,⟨LH,LI⟩⟩⟩=>(bJ x2 iq).bind fun⟨LJ,LK,LL,⟨⟨DB,DC⟩,⟨DD,DE⟩⟩⟩=>(aT gz mg Dz vH DA ⟨⟨DB,DC⟩,⟨DD,DE⟩⟩).bind fun⟨H8,UL⟩=>(some (IntKind.i64.wrap (iq+1))).bind fun mE=>some (.inl (mE,UL))else some (.inr mg)))) (0,oL)).bind fun fg=>(bL gS qY).bind fun Kn=>(dw Kn).bind fun Pp=>(ff Pp mD).bind fun EZ=>(some (!EZ)).bind fun IV=>(bif IV then some false else(fU gz fg).bind fun⟨LM,LN⟩=>(bL LM LN).bind fun Pe=>(dw Pe).bind fun Oh=>(bR (fun(B6:Int×(List En))=>match B6 with|⟨pR,uG⟩=>(show Option ((Int×(List En))⊕((List En)))from(some (x2.length:Int)).bind fun Qm=>(some (decide ((pR:Int)<Qm))).bind fun x75=>(bif x75 then(bJ x2 pR).bind fun⟨LO,UM,UN,⟨⟨UO,UP⟩,⟨UQ,UR⟩⟩⟩=>(bJ x2 pR).bind fun⟨US,LP,UT,⟨⟨UU,UW⟩,⟨UX,UY⟩⟩⟩=>(bJ x2 pR).bind fun⟨Dl,Dm,LQ,⟨⟨UZ,U0⟩,⟨U1,U3⟩⟩⟩=>(bJ x2 pR).bind fun⟨U4,U5,U6,⟨⟨LR,LS⟩,⟨LU,LV⟩⟩⟩=>(aT gS uG LO LP LQ ⟨⟨LR,LS⟩,⟨LU,LV⟩⟩).bind fun⟨RJ,l26⟩=>(some (IntKind.i64.wrap (pR+1))).bind fun x77=>some (.inl (x77,l26))else some (.inr uG)))) (0,qY)).bind fun fj=>(cx ⟨gS,fj⟩).bind fun U7=>cz (fun(LW:Bool)=>some LW) fun K29=>(cx ⟨gz,fg⟩).bind fun yC=>(dw yC).bind fun F8=>(ff F8 Oh).bind fun Eh=>(bif Eh then(cx ⟨gS,fj⟩).bind fun EG=>(dw EG).bind fun Eg=>(ff Eg Oh).bind fun Oi=>some Oi else some false).bind fun DF=>K29 DF))) fun K6=>(fS x1).bind fun jh=>(bif jh then some true else(fS x2).bind fun gi=>some gi).bind fun Hv=>(bif Hv then some true else(fB).bind fun fX=>(some (!fX)).bind fun iz=>some iz).bind fun Oj=>K6 Oj
end Go.Proofs.Ytmiflmkdaeianaa
namespace Go.Proofs.Ytmiflmkdaeianaa
open Go.Fw Go.Fw.Z Go.RowKit
set_option maxHeartbeats 4000000 in
theorem kH{x0:Nat}{x1:List Mv}{x2:List Mv}{r:Bool}(h:dc x0 x1 x2=some r):Pure Try.prog 6 [.v (.int .u8 ((x0:Nat):Int)),slc 7 (List.map z9 x1),slc 7 (List.map z9 x2)] (.v (.bool r)):=by
 refine AW Try.func6 rfl (Nat.le_of_ble_eq_true rfl) (fun eV M vs hM hvs=>?_)
 unfold dc at h
 refine sr<|ag rfl<|dn<|qq<|qq ?_
 refine aN h (fun j6=>AS.cm 115 [(0,.sv (.v (.int .u8 ((x0:Nat):Int)))),(1,.sv (slc 7 (List.map z9 x1))),(2,.sv (slc 7 (List.map z9 x2))),(22,.sv (.v (.bool j6)))] [] []) (fun h=>?_) (fun Hu h=>?_)
 refine ah<|mv rfl<|bE h fun jh n7 h=>cl (oQ n7) ⟨rfl,trivial⟩<|mv rfl<|bE h fun Hv yU h=>?_
 cases jh
 refine gm rfl<|bE (F yU) fun gi kQ yU=>gc (oQ kQ) ⟨rfl,trivial⟩ ?_
 obtain rfl:=O yU
 refine pF rfl<|mv rfl<|bE h fun aaS AB h=>?_
 cases gi
 refine bE (F AB) fun fX kE AB=>gc (nG kE) trivial<|lE AB fun iz pB AB=>Yl rfl _ pB ?_
 obtain rfl:=O AB
 exact pF rfl<|dn<|⟨iz,h,wR []⟩
 obtain rfl:=O (V AB)
 exact ww<|ww<|pT rfl<|dn<|⟨true,h,wR []⟩
 obtain rfl:=O (V yU)
 refine ww<|ww<|pT rfl<|mv rfl<|bE h fun aaT NI h=>?_
 obtain rfl:=O (V NI)
 exact ww<|ww<|pT rfl<|dn<|⟨true,h,wR []⟩
 try dsimp only
 refine ae.n ?_
 cases Hu
 refine fs<|sr<|mv rfl<|mv rfl ?_
 obtain⟨⟨gS,qY⟩,mN,h⟩:=bS (F h)
 refine RT.GI .none (oR mN) [302] (by decide) rfl ⟨⟨rfl,T⟩,trivial⟩ rfl ⟨rfl,rfl,trivial⟩ T rfl rfl<|an (s:=.ptr _ _) rfl<|dn<|sr<|mv rfl<|mv rfl ?_
 obtain⟨⟨tc,td⟩,jZ,h⟩:=bS h
 refine RT.GI .none (oR jZ) [304] (by decide) rfl ⟨⟨rfl,T⟩,trivial⟩ rfl ⟨rfl,rfl,trivial⟩ T rfl rfl<|bE h fun nY vJ h=>RT.jl .none (ee vJ) 29 [304] rfl ⟨rfl,trivial⟩ (by decide) rfl rfl (.cons rfl (.nil)) T<|bE h fun mD wJ h=>cl (gB wJ) ⟨rfl,trivial⟩<|ag rfl<|dn<|sr<|mo (s:=.ptr _ _) rfl ?_
 obtain⟨⟨gz,oL⟩,oI,h⟩:=bS h
 refine RT.Dy .none (oS oI) 26 [302] rfl ⟨rfl,trivial⟩ (by decide) rfl rfl (.cons rfl (.nil)) T [306] (by decide) rfl ⟨⟨rfl,T⟩,trivial⟩ rfl rfl<|an (s:=.ptr _ _) rfl<|dn<|qq<|sr<|ag rfl<|dn<|bE h fun e14 aaU oz=>?_
 refine bg (fun(fg:(List En))=>AS.cm 115 [(2,.sv (slc 7 (List.map z9 x2))),(7,.ptr 26 0),(8,.sv (slc 5 (List.map dj mD))),(9,.ptr 33 0)] [(33,⟨66,[.sv (.v (.int .i64 gz)),.row 309]⟩),(26,⟨66,[.sv (.v (.int .i64 gS)),.row 302]⟩)] [(309,TR 43 5 dj fg),(302,TR 43 5 dj qY)]) (fun fg=>fg=e14) ?_ (fun fg aaV=>?_)
 refine ax ?_
 refine bh aaU (fun Lo=>AS.cm 115 [(2,.sv (slc 7 (List.map z9 x2))),(7,.ptr 26 0),(8,.sv (slc 5 (List.map dj mD))),(9,.ptr 33 0),(10,.sv (.v (.int .i64 Lo.1)))] [(33,⟨66,[.sv (.v (.int .i64 gz)),.row 309]⟩),(26,⟨66,[.sv (.v (.int .i64 gS)),.row 302]⟩)] [(309,TR 43 5 dj Lo.2),(302,TR 43 5 dj qY)]) (dz (fun i=>bif Nat.beq i 309 then 306 else i) rfl rfl rfl rfl rfl ⟨.sv (SV.aa _),.ptr,.sv (SV.aa _),.ptr,.sv (SV.aa _),trivial⟩ ⟨⟨_,rfl,⟨.sv (SV.aa _),.row rfl,trivial⟩⟩,⟨_,rfl,⟨.sv (SV.aa _),.row rfl,trivial⟩⟩,trivial⟩ ⟨⟨_,rfl,cc.refl _⟩,⟨_,rfl,cc.refl _⟩,trivial⟩ (fun i hi=>by rw[bB (show i≠309 by omega)];rfl)) (fun Lo y14 G14 h aaW aaX=>?_)
 obtain⟨iq,mg⟩:=Lo
 try dsimp only
 refine qq<|sr<|mv rfl<|mv rfl<|lE h fun tQ vK h=>ln rfl vK<|lE h fun sM yH h=>ls _ rfl rfl yH<|dn ?_
 cases sM
 refine cF<|bq<|ae.x<|ae.x<|aF.x<|ae.n ?_
 obtain rfl:=O (F h)
 exact⟨mg,aaX _ rfl,wR []⟩
 refine cT<|aG<|ae.n<|qq<|ax<|ak mixed<|mo (s:=.ptr _ _) rfl<|mv rfl<|mv rfl ?_
 obtain⟨⟨Dz,Lp,Lq,⟨⟨Ls,Lt⟩,⟨Lu,Lw⟩⟩⟩,E4,h⟩:=bS (V h)
 refine ix rfl rfl E4<|RT.aS .none rfl T rfl<|lr rfl rfl<|mv rfl<|mv rfl ?_
 obtain⟨⟨Ak,vH,Lx,⟨⟨Ly,Lz⟩,⟨LA,LB⟩⟩⟩,h48,h⟩:=bS h
 refine ix rfl rfl h48<|RT.aS .none rfl T rfl<|lr rfl rfl<|mv rfl<|mv rfl ?_
 obtain⟨⟨LC,LD,DA,⟨⟨LF,LG⟩,⟨LH,LI⟩⟩⟩,Y2,h⟩:=bS h
 refine ix rfl rfl Y2<|RT.aS .none rfl T rfl<|lr rfl rfl<|mv rfl<|mv rfl ?_
 obtain⟨⟨LJ,LK,LL,⟨⟨DB,DC⟩,⟨DD,DE⟩⟩⟩,YV,h⟩:=bS h
 refine ix rfl rfl YV<|RT.aS .none rfl T rfl<|RT.mz (cs:=[_,_,_,_]) .none rfl T rfl rfl ?_
 obtain⟨⟨H8,UL⟩,QM,h⟩:=bS h
 refine RT.qS .none (bP QM) 33 [309] [313] rfl ⟨rfl,trivial⟩ (by decide) (by decide) rfl ⟨⟨rfl,T⟩,trivial⟩ rfl rfl (.cons rfl (.cons rfl (.cons rfl (.cons rfl (.cons rfl (.nil)))))) T ?_
 refine RT.done ⟨by kernel_rfl,?_⟩
 refine aF.n<|ae.n<|ah<|mv rfl<|lE h fun mE Ce h=>ad _ rfl rfl Ce<|ag rfl<|RT.done ?_
 obtain rfl:=O h
 exact ae.n ⟨(mE,UL),aaW _ rfl,dz (fun i=>bif Nat.beq i 309 then 313 else i) rfl rfl rfl rfl rfl ⟨.sv (SV.aa _),.ptr,.sv (SV.aa _),.ptr,.sv (SV.aa _),trivial⟩ ⟨⟨_,rfl,⟨.sv (SV.aa _),.row rfl,trivial⟩⟩,⟨_,rfl,⟨.sv (SV.aa _),.row rfl,trivial⟩⟩,trivial⟩ ⟨⟨_,rfl,cc.refl _⟩,⟨_,rfl,cc.refl _⟩,trivial⟩ (fun i hi=>by rw[bB (show i≠309 by omega)];rfl)⟩
 subst aaV
 try dsimp only
 refine ae.n<|qq<|sr<|mo (s:=.ptr _ _) rfl<|bE oz fun Kn h63 oz=>RT.jl .none (ee h63) 26 [302] rfl ⟨rfl,trivial⟩ (by decide) rfl rfl (.cons rfl (.nil)) T<|bE oz fun Pp h64 oz=>cl (gB h64) ⟨rfl,trivial⟩<|mv rfl<|bE oz fun EZ QN oz=>cl (kG QN) ⟨rfl,rfl,trivial⟩<|lE oz fun IV Y7 oz=>nt rfl _ Y7<|dn ?_
 cases IV
 refine fs<|sr<|mo (s:=.ptr _ _) rfl ?_
 obtain⟨⟨LM,LN⟩,YX,oz⟩:=bS (F oz)
 refine RT.Dy .none (oS YX) 33 [309] rfl ⟨rfl,trivial⟩ (by decide) rfl rfl (.cons rfl (.nil)) T [315] (by decide) rfl ⟨⟨rfl,T⟩,trivial⟩ rfl rfl<|bE oz fun Pe Y8 oz=>RT.jl .none (ee Y8) 69 [315] rfl ⟨rfl,trivial⟩ (by decide) rfl rfl (.cons rfl (.nil)) T<|bE oz fun Oh h71 oz=>cl (gB h71) ⟨rfl,trivial⟩<|ag rfl<|dn<|qq<|sr<|ag rfl<|dn<|bE oz fun Nq Gq jO=>?_
 refine bg (fun(fj:(List En))=>AS.cm 115 [(7,.ptr 26 0),(9,.ptr 33 0),(11,.sv (slc 5 (List.map dj Oh)))] [(33,⟨66,[.sv (.v (.int .i64 gz)),.row 309]⟩),(26,⟨66,[.sv (.v (.int .i64 gS)),.row 318]⟩)] [(309,TR 43 5 dj fg),(318,TR 43 5 dj fj)]) (fun fj=>fj=Nq) ?_ (fun fj Gr=>?_)
 refine ax ?_
 refine bh Gq (fun B6=>AS.cm 115 [(2,.sv (slc 7 (List.map z9 x2))),(7,.ptr 26 0),(9,.ptr 33 0),(11,.sv (slc 5 (List.map dj Oh))),(12,.sv (.v (.int .i64 B6.1)))] [(33,⟨66,[.sv (.v (.int .i64 gz)),.row 309]⟩),(26,⟨66,[.sv (.v (.int .i64 gS)),.row 318]⟩)] [(309,TR 43 5 dj fg),(318,TR 43 5 dj B6.2)]) (dz (fun i=>bif Nat.beq i 318 then 302 else i) rfl rfl rfl rfl rfl ⟨.sv (SV.aa _),.ptr,.ptr,.sv (SV.aa _),.sv (SV.aa _),trivial⟩ ⟨⟨_,rfl,⟨.sv (SV.aa _),.row rfl,trivial⟩⟩,⟨_,rfl,⟨.sv (SV.aa _),.row rfl,trivial⟩⟩,trivial⟩ ⟨⟨_,rfl,cc.refl _⟩,⟨_,rfl,cc.refl _⟩,trivial⟩ (fun i hi=>by rw[bB (show i≠318 by omega)];rfl)) (fun B6 y24 G24 h Gs Es=>?_)
 obtain⟨pR,uG⟩:=B6
 try dsimp only
 refine qq<|sr<|mv rfl<|mv rfl<|lE h fun Qm Ze h=>ln rfl Ze<|lE h fun x75 h75 h=>ls _ rfl rfl h75<|dn ?_
 cases x75
 refine cF<|bq<|ae.x<|ae.x<|aF.x<|ae.n ?_
 obtain rfl:=O (F h)
 exact⟨uG,Es _ rfl,wR []⟩
 refine cT<|aG<|ae.n<|qq<|ax<|ak mixed<|mo (s:=.ptr _ _) rfl<|mv rfl<|mv rfl ?_
 obtain⟨⟨LO,UM,UN,⟨⟨UO,UP⟩,⟨UQ,UR⟩⟩⟩,h81,h⟩:=bS (V h)
 refine ix rfl rfl h81<|RT.aS .none rfl T rfl<|lr rfl rfl<|mv rfl<|mv rfl ?_
 obtain⟨⟨US,LP,UT,⟨⟨UU,UW⟩,⟨UX,UY⟩⟩⟩,Zg,h⟩:=bS h
 refine ix rfl rfl Zg<|RT.aS .none rfl T rfl<|lr rfl rfl<|mv rfl<|mv rfl ?_
 obtain⟨⟨Dl,Dm,LQ,⟨⟨UZ,U0⟩,⟨U1,U3⟩⟩⟩,QS,h⟩:=bS h
 refine ix rfl rfl QS<|RT.aS .none rfl T rfl<|lr rfl rfl<|mv rfl<|mv rfl ?_
 obtain⟨⟨U4,U5,U6,⟨⟨LR,LS⟩,⟨LU,LV⟩⟩⟩,h96,h⟩:=bS h
 refine ix rfl rfl h96<|RT.aS .none rfl T rfl<|RT.mz (cs:=[_,_,_,_]) .none rfl T rfl rfl ?_
 obtain⟨⟨RJ,l26⟩,h99,h⟩:=bS h
 refine RT.qS .none (bP h99) 26 [318] [322] rfl ⟨rfl,trivial⟩ (by decide) (by decide) rfl ⟨⟨rfl,T⟩,trivial⟩ rfl rfl (.cons rfl (.cons rfl (.cons rfl (.cons rfl (.cons rfl (.nil)))))) T ?_
 refine RT.done ⟨by kernel_rfl,?_⟩
 refine aF.n<|ae.n<|ah<|mv rfl<|lE h fun x77 h77 h=>ad _ rfl rfl h77<|ag rfl<|RT.done ?_
 obtain rfl:=O h
 exact ae.n ⟨(x77,l26),Gs _ rfl,dz (fun i=>bif Nat.beq i 318 then 322 else i) rfl rfl rfl rfl rfl ⟨.sv (SV.aa _),.ptr,.ptr,.sv (SV.aa _),.sv (SV.aa _),trivial⟩ ⟨⟨_,rfl,⟨.sv (SV.aa _),.row rfl,trivial⟩⟩,⟨_,rfl,⟨.sv (SV.aa _),.row rfl,trivial⟩⟩,trivial⟩ ⟨⟨_,rfl,cc.refl _⟩,⟨_,rfl,cc.refl _⟩,trivial⟩ (fun i hi=>by rw[bB (show i≠318 by omega)];rfl)⟩
 subst Gr
 try dsimp only
 refine ae.n<|qq<|bH (dH (i:=318) (E1:=43) (n:=5) (e:=dj) (l:=fj) rfl) ?_
 refine bH (nR (i:=26) rfl [.v (.int .i64 gS),slc 5 (List.map dj fj)] (.cons rfl (.cons rfl (.nil))) .any 0 [(7,.sv (ref [.v (.int .i64 gS),slc 5 (List.map dj fj)]))] (fun _ _ _=>trivial) (rH.h (l:=[.v (.int .i64 gS),slc 5 (List.map dj fj)])) ⟨@FT.ptr _ _ _ _ _ 7 0 rfl,trivial⟩)<|bH (dH (i:=309) (E1:=43) (n:=5) (e:=dj) (l:=fg) rfl) ?_
 refine bH (nR (i:=33) rfl [.v (.int .i64 gz),slc 5 (List.map dj fg)] (.cons rfl (.cons rfl (.nil))) .any 0 [(9,.sv (ref [.v (.int .i64 gz),slc 5 (List.map dj fg)]))] (fun _ _ _=>trivial) (rH.h (l:=[.v (.int .i64 gz),slc 5 (List.map dj fg)])) ⟨@FT.ptr _ _ _ _ _ 9 0 rfl,trivial⟩)<|ah<|mv rfl<|bE jO fun U7 aaY jO=>?_
 refine RT.N7 .none (fun N=>(sg N aaY)) rfl (fun _=>⟨rfl,trivial⟩) T (fun N2 hN2=>?_)
 refine RT.Js .none (we U7) rfl rfl (SV.aa _) (fun _ _ _ e=>ga hM e) (fun _ _ _ _ _=>trivial) (fun _=>rfl) hN2 (n:=115) (ts:=[(7,.sv (od N2 (ref [.v (.int .i64 gS),slc 5 (List.map dj fj)]))),(9,.sv (od N2 (ref [.v (.int .i64 gz),slc 5 (List.map dj fg)]))),(11,.sv (od N2 (slc 5 (List.map dj Oh)))),(100,.sv (od N2 (ref [.v (.int .i64 gS),slc 5 (List.map dj fj)])))]) (bs:=[]) (g':=0) (go:=true) rfl rfl (fun _=>⟨.sv (Du (fun _ _ q_=>q_)),.sv (Du (fun _ _ q_=>q_)),.sv (Du (fun _ _ q_=>q_)),.sv (Du (fun _ _ q_=>q_)),trivial⟩) (fun _=>trivial) rfl T ?_
 refine dn ?_
 refine bH (S':=AS.cm 115 [(7,.sv (od N2 (ref [.v (.int .i64 gS),slc 5 (List.map dj fj)]))),(9,.sv (od N2 (ref [.v (.int .i64 gz),slc 5 (List.map dj fg)]))),(11,.sv (od N2 (slc 5 (List.map dj Oh)))),(100,.sv (od N2 (ref [.v (.int .i64 gS),slc 5 (List.map dj fj)])))] [] []) (dz id rfl rfl rfl rfl rfl ⟨.sv (SV.aa _),.sv (SV.aa _),.sv (SV.aa _),.sv (SV.aa _),trivial⟩ trivial trivial (fun _ _=>rfl))<|qq ?_
 refine aN jO (fun j29=>AS.cm 115 [(6,.sv (.v (.bool j29)))] [] []) (fun jO=>?_) (fun LW jO=>?_)
 refine ah<|mv rfl<|bE jO fun yC Gp jO=>cl ((kX Gp).w (args':=[_]) ⟨(fun _ _ q_=>(zf _ _ q_)),trivial⟩) ⟨rfl,trivial⟩<|bE jO fun F8 Nn jO=>cl (gB Nn) ⟨rfl,trivial⟩<|mv rfl<|bE jO fun Eh No jO=>cl ((kG No).w (args':=[_,_]) ⟨(SV.aa _),(fun _ _ q_=>(zf _ _ q_)),trivial⟩) ⟨rfl,rfl,trivial⟩<|mv rfl<|bE jO fun DF rX jO=>?_
 cases Eh
 obtain rfl:=O (F rX)
 exact ww<|ww<|ww<|ww<|ww<|pF rfl<|ag rfl<|dn<|⟨false,jO,wR []⟩
 refine gm rfl<|bE (V rX) fun EG N5 rX=>gc ((kX N5).w (args':=[_]) ⟨(fun _ _ q_=>(zf _ _ q_)),trivial⟩) ⟨rfl,trivial⟩<|bE rX fun Eg Np rX=>gc (gB Np) ⟨rfl,trivial⟩<|gm rfl<|bE rX fun Oi aaZ rX=>gc ((kG aaZ).w (args':=[_,_]) ⟨(SV.aa _),(fun _ _ q_=>(zf _ _ q_)),trivial⟩) ⟨rfl,rfl,trivial⟩ ?_
 obtain rfl:=O rX
 exact pT rfl<|ag rfl<|dn<|⟨Oi,jO,wR []⟩
 try dsimp only
 refine ae.n<|aq ?_
 obtain rfl:=O jO
 exact R1 rfl
 refine cT<|sr<|ag rfl<|dn<|aq<|ae.r ?_
 obtain rfl:=O (V oz)
 exact R1 rfl
 refine cT<|sr<|bE (V h) fun iy mM h=>cl (nG mM) trivial<|ag rfl<|dn<|aq<|ae.r ?_
 obtain rfl:=O h
 exact R1 rfl
end Go.Proofs.Ytmiflmkdaeianaa
namespace Go.Fw
theorem mh{n:Nat}(h:n≤9223372036854775807):IntKind.i64.wrap (n:Int)=n:=kC (by omega)
theorem dg{x:Int}(h: -9223372036854775808≤x)(h':x≤9223372036854775807):IntKind.i64.wrap x=x:=kC ⟨h,h'⟩
theorem bV{n:Nat}(h:n<9223372036854775807):IntKind.i64.wrap ((n:Int)+1)=((n+1:Nat):Int):=by rw[kC (by omega)];simp
theorem oc{n m:Nat}(h:n+m≤9223372036854775807):IntKind.i64.wrap ((n:Int)+(m:Int))=((n+m:Nat):Int):=by rw[kC (by omega)];simp
theorem A6{n:Nat}(h:n≤9223372036854775807):IntKind.i64.wrap (((n+1:Nat):Int)-1)=(n:Int):=by rw[kC (by omega)];omega
theorem aE{α:Type}{l:List α}{i:Nat}{a:α}(h:l[i]? =some a):bJ l (i:Int)=some a:=by simp[bJ,h]
theorem oe{α:Type}{l:List α}{a:α}(h:l[0]? =some a):bJ l 0=some a:=by simp[bJ,h]
theorem A7{α:Type}{l:List α}{a:α}(h:l[1]? =some a):bJ l 1=some a:=by simp[bJ,h]
theorem dx{α:Type}{l:List α}{i:Nat}(h:i<l.length):pY l (i:Int)=some i:=by simp[pY,h]
theorem iO{α:Type}{l:List α}{i:Nat}{y:α}(h:i<l.length):stM l i y=some (l.set i y):=by simp[stM,h]
theorem Hw{α:Type}{b:Nat}{l k:List α}(h:(l.length+k.length)*b≤140737488355328)(h':l.length+k.length≤140737488355328):wH b l k=some (l++k):=by simp[wH,h,h']
theorem A8{α:Type}{b:Nat}{l:List α}{x:α}(hb:b≤100)(h:l.length≤1000000000000):wH b l [x]=some (l++[x]):=by
 apply Hw
 ·have:(l.length+[x].length)*b≤1000000000001*100:=Nat.mul_le_mul (by simp;omega) hb
  omega
 ·simp;omega
theorem aa0{α:Type}{b:Nat}{l k:List α}(hb:b≤100)(h:l.length+k.length≤1000000000000):wH b l k=some (l++k):=by
 apply Hw
 ·have:(l.length+k.length)*b≤1000000000000*100:=Nat.mul_le_mul h hb
  omega
 ·omega
theorem CC{α:Type}{b:Nat}{n:Nat}(hb:b≤100)(h:n≤1000000000000):ID (α:=α) b (n:Int)=some []:=by
 have:b*n≤100*1000000000000:=Nat.mul_le_mul hb h
 have h2:(b:Int)*(n:Int)=((b*n:Nat):Int):=by simp
 unfold ID
 rw[h2,if_pos ⟨by omega,by omega,by omega⟩]
theorem sn{α:Type}{b:Nat}{n:Nat}{z:α}(hb:b≤100)(h:n≤1000000000000):EY b (n:Int) z=some (List.replicate n z):=by
 have:b*n≤100*1000000000000:=Nat.mul_le_mul hb h
 have h2:(b:Int)*(n:Int)=((b*n:Nat):Int):=by simp
 unfold EY
 rw[h2,if_pos ⟨by omega,by omega,by omega⟩,Int.toNat_natCast]
theorem Hx{α:Type}{l:List α}{i j:Nat}(h:i≤j)(h':j≤l.length):yu l (i:Int) (j:Int)=some (cut l i j):=by
 unfold yu;rw[if_pos ⟨by omega,by omega,by omega⟩];simp
theorem xO{α:Type}{l:List α}{j:Nat}(h':j≤l.length):yu l 0 (j:Int)=some (l.take j):=by
 have:=Hx (l:=l) (i:=0) (j:=j) (by omega) h'
 simpa[cut]using this
theorem mm{M a b:Nat}(h:b≤a)(h':a<M):j0 M a b=a-b:=by
 unfold j0;rw[show(a:Int)-(b:Int)=((a-b:Nat):Int) by omega,←Int.natCast_emod,Int.toNat_natCast,Nat.mod_eq_of_lt (by omega)]
theorem uH{M a b:Nat}(h:a<b)(h':b≤M):j0 M a b=M+a-b:=by
 unfold j0
 have:((a:Int)-(b:Int))%(M:Int)=((M+a-b:Nat):Int):=by
  rw[←Int.add_emod_right (a:=(a:Int)-b),show(a:Int)-(b:Int)+(M:Int)=((M+a-b:Nat):Int) by omega,←Int.natCast_emod,Nat.mod_eq_of_lt (by omega)]
 rw[this,Int.toNat_natCast]
theorem uI{o n i:Nat}(h:i<n):H6 o n (i:Int)=some (o+i):=by simp[H6,h]
theorem kZ{α:Type}{l l':List α}(h:l'.length=l.length):oF l l'=some ():=by simp[oF,h]
theorem zk{M a b:Nat}(h:b≠0)(h':a<M):yw M a b=some (a/b):=by
 unfold yw;rw[if_neg h,Nat.mod_eq_of_lt (Nat.lt_of_le_of_lt (Nat.div_le_self _ _) h')]
theorem uJ{a b:Nat}(h:b≠0):wQ a b=some (a%b):=by unfold wQ;rw[if_neg h]
theorem bk{α β:Type}{a:α}{f:α→Option β}:Option.bind (some a) f=f a:=by
 have h:∀o,o=some a→Option.bind o f=f a:=by intro o ho;rw[ho];rfl
 exact h _ rfl
theorem gD{α:Type}{x y:α}:(bif true then x else y)=x:=by
 have h:∀b,b=true→(bif b then x else y)=x:=by intro b hb;rw[hb];rfl
 exact h _ rfl
theorem gU{α:Type}{x y:α}:(bif false then x else y)=y:=by
 have h:∀b,b=false→(bif b then x else y)=y:=by intro b hb;rw[hb];rfl
 exact h _ rfl
theorem k7{S E R:Type}{body:S→Option (S⊕E)}{s:S}{f:E→Option R}{r:R}(I:S→Prop)(Post:E→Prop)(μ:S→Nat)
  (step:∀s,I s→(∃s',body s=some (.inl s')∧I s'∧μ s'<μ s)∨(∃e,body s=some (.inr e)∧Post e)) (h:I s) (hf:∀e,Post e→f e=some r):(bR body s).bind f=some r:=by
 obtain⟨e,h1,h2⟩:=rM I Post μ step h
 rw[h1];exact hf e h2
theorem jA{S E R:Type}{body:S→Option (S⊕E)}{s:S}{f:E→Option R}{Q:R→Prop}(I:S→Prop)(Post:E→Prop)(μ:S→Nat)
  (step:∀s,I s→(∃s',body s=some (.inl s')∧I s'∧μ s'<μ s)∨(∃e,body s=some (.inr e)∧Post e)) (h:I s) (hf:∀e,Post e→∃r,f e=some r∧Q r):∃r,(bR body s).bind f=some r∧Q r:=by
 obtain⟨e,h1,h2⟩:=rM I Post μ step h
 rw[h1];exact hf e h2
theorem bw{S E R:Type}{body:S→Option (S⊕E)}{s:S}{f:E→Option R}{r:R}(st:Nat→S)(n:Nat)(e:E)(h0:s=st 0)(hs:∀k,k<n→body (st k)=some (.inl (st (k+1))))(he:body (st n)=some (.inr e))(hf:f e=some r):(bR body s).bind f=some r:=by
 rw[h0,FL st n hs he];exact hf
theorem wj{S R:Type}{body:Nat→S→Option S}{s:S}{f:S→Option R}{r:R}(st:Nat→S){n:Nat}(h0:s=st 0)(hs:∀k,k<n→body k (st k)=some (st (k+1)))(hf:f (st n)=some r):(m9 body n s).bind f=some r:=by
 rw[h0,xo st n hs];exact hf
theorem bind_eq{α β:Type}{x:Option α}{a:α}{f:α→Option β}{r:Option β}(h:x=some a)(hf:f a=r):x.bind f=r:=by rw[h];exact hf
theorem c7{α:Type}{b:Bool}{x y r:α}(hb:b=true)(h:x=r):(bif b then x else y)=r:=by rw[hb];exact h
theorem bF{α:Type}{b:Bool}{x y r:α}(hb:b=false)(h:y=r):(bif b then x else y)=r:=by rw[hb];exact h
end Go.Fw
namespace Go.Fw
def val(B:Nat):List Nat→Nat
 |[]=>0
 |x::l=>x+B*val B l
def dy(B:Nat):Nat→Nat→List Nat
 |0,_=>[]
 |n+1,v=>v%B::dy B n (v/B)
def ir(ws:List Nat):List Nat:=(ws.reverse.dropWhile (· ==0)).reverse
def can(B v:Nat):List Nat:=ir (dy B v v)
theorem aL(B:Nat):∀n v,(dy B n v).length=n
 |0,_=>rfl
 |n+1,v=>by simp[dy,aL B n]
theorem iu(B:Nat):∀n v,val B (dy B n v)=v%B^n
 |0,v=>by simp[dy,val,Nat.mod_one]
 |n+1,v=>by
  rw[dy,val,iu B n,Nat.pow_succ,Nat.mul_comm (B^n) B,Nat.mod_mul]
theorem jm{B:Nat}(hB:0<B):∀(n v x:Nat),x∈dy B n v→x<B
 |n+1,v,x,h=>by
  rcases List.mem_cons.1 h with rfl|h
  ·exact Nat.mod_lt _ hB
  ·exact jm hB n _ x h
theorem fD{B:Nat}:∀(l:List Nat),(∀x∈l,x<B)→val B l<B^l.length
 |[],_=>by simp[val]
 |x::l,h=>by
  have h1:=fD l (fun y hy=>h y (List.mem_cons_of_mem _ hy))
  have h2:=h x (by simp)
  rw[val,List.length_cons,Nat.pow_succ]
  calc x+B*val B l<B+B*val B l:=by omega
   _=B*(val B l+1):=by rw[Nat.mul_add];omega
   _≤B*B^l.length:=Nat.mul_le_mul_left _ h1
   _=B^l.length*B:=Nat.mul_comm _ _
theorem uK{B:Nat}:∀(l:List Nat),(∀x∈l,x<B)→dy B l.length (val B l)=l
 |[],_=>rfl
 |x::l,h=>by
  have h2:=h x (by simp)
  have hB:0<B:=by omega
  rw[List.length_cons,dy,val,Nat.add_mul_mod_self_left,Nat.mod_eq_of_lt h2,Nat.add_mul_div_left _ _ hB,Nat.div_eq_of_lt h2,Nat.zero_add,uK l (fun y hy=>h y (List.mem_cons_of_mem _ hy))]
theorem q9{B:Nat}:∀(n v j:Nat),j<n→(dy B n v)[j]? =some (v/B^j%B)
 |n+1,v,0,_=>by simp[dy]
 |n+1,v,j+1,h=>by
  rw[dy,List.getElem?_cons_succ,q9 n _ j (by omega),Nat.div_div_eq_div_mul,Nat.pow_succ,Nat.mul_comm B]
theorem zm{B:Nat}:∀(a b:List Nat),val B (a++b)=val B a+B^a.length*val B b
 |[],b=>by simp[val]
 |x::a,b=>by
  rw[List.cons_append,val,val,zm a b,List.length_cons,Nat.pow_succ,Nat.mul_add,Nat.add_assoc,Nat.mul_comm (B^a.length) B,Nat.mul_assoc]
theorem jU{B:Nat}:∀(n v:Nat),dy B (n+1) v=dy B n v++[v/B^n%B]
 |0,v=>by simp[dy]
 |n+1,v=>by
  rw[dy,jU n,dy,List.cons_append,Nat.div_div_eq_div_mul,Nat.pow_succ,Nat.mul_comm B]
theorem nJ(B:Nat):∀k,dy B k 0=List.replicate k 0
 |0=>rfl
 |k+1=>by rw[dy,Nat.zero_mod,Nat.zero_div,nJ B k];rfl
theorem wm{B:Nat}(hB:0<B):∀(n k v:Nat),v<B^n→dy B (n+k) v=dy B n v++List.replicate k 0
 |0,k,v,h=>by
  have:v=0:=by simpa using h
  subst this;rw[Nat.zero_add,nJ];rfl
 |n+1,k,v,h=>by
  rw[show n+1+k=n+k+1 by omega,dy,dy,List.cons_append,wm hB n k (v/B) (by rw[Nat.div_lt_iff_lt_mul hB];rwa[Nat.pow_succ]at h)]
theorem mq{B:Nat}(hB:2≤B):∀v,v<B^v
 |0=>by simp
 |v+1=>by
  have:=mq hB v
  rw[Nat.pow_succ]
  have h2:B^v*2≤B^v*B:=Nat.mul_le_mul_left _ hB
  omega
theorem mu(l:List Nat):ir (l++[0])=ir l:=by simp[ir]
theorem nK(l:List Nat):∀k,ir (l++List.replicate k 0)=ir l
 |0=>by simp
 |k+1=>by rw[List.replicate_succ',←List.append_assoc,mu,nK l k]
theorem pS(l:List Nat){x:Nat}(h:x≠0):ir (l++[x])=l++[x]:=by simp[ir,h]
theorem pU(xs:List Nat):xs=[]∨(∃ys,xs=ys++[0])∨(∃ys y,y≠0∧xs=ys++[y]):=by
 rcases List.eq_nil_or_concat xs with rfl|⟨ys,y,rfl⟩
 ·exact .inl rfl
 ·by_cases hy:y=0
  ·subst hy;exact .inr (.inl ⟨ys,by simp⟩)
  ·exact .inr (.inr ⟨ys,y,hy,by simp⟩)
theorem sq:∀(n:Nat) (l:List Nat),l.length=n→∃k,l=ir l++List.replicate k 0:=by
 intro n
 induction n with
 |zero=>intro l h;obtain rfl:=List.length_eq_zero_iff.1 h;exact⟨0,rfl⟩
 |succ n ih=>
  intro l h
  rcases pU l with rfl|⟨ys,rfl⟩|⟨ys,y,hy,rfl⟩
  ·simp at h
  ·obtain⟨k,hk⟩:=ih ys (by simpa using h)
   refine⟨k+1,?_⟩
   rw[mu,List.replicate_succ',←List.append_assoc,←hk]
  ·exact⟨0,by rw[pS _ hy];simp⟩
theorem EK{l:List Nat}{x:Nat}(h:x∈ir l):x∈l:=by
 obtain⟨k,hk⟩:=sq _ l rfl
 rw[hk];exact List.mem_append_left _ h
theorem xP(l:List Nat):(ir l).length≤l.length:=by
 obtain⟨k,hk⟩:=sq _ l rfl
 have:=congrArg List.length hk
 rw[List.length_append]at this;omega
theorem xQ(B:Nat):∀k,val B (List.replicate k 0)=0
 |0=>rfl
 |k+1=>by rw[List.replicate_succ,val,xQ B k];simp
theorem Hy(B:Nat)(l:List Nat):val B (ir l)=val B l:=by
 obtain⟨k,hk⟩:=sq _ l rfl
 conv=>rhs;rw[hk,zm,xQ]
 simp
theorem A9{B:Nat}(hB:2≤B){n v:Nat}(h:v<B^n):ir (dy B n v)=can B v:=by
 have hv:=mq hB v
 rcases Nat.le_total n v with hn|hn
 ·obtain⟨k,rfl⟩:=Nat.exists_eq_add_of_le hn
  rw[can,wm (by omega) n k _ h,nK]
 ·obtain⟨k,rfl⟩:=Nat.exists_eq_add_of_le hn
  rw[can,wm (by omega) v k _ hv,nK]
theorem k8{B:Nat}(hB:2≤B){l:List Nat}(h:∀x∈l,x<B):ir l=can B (val B l):=by
 conv=>lhs;rw[←uK l h]
 exact A9 hB (fD l h)
theorem mw{B:Nat}(hB:2≤B)(v:Nat):val B (can B v)=v:=by
 rw[can,Hy,iu,Nat.mod_eq_of_lt (mq hB v)]
theorem iv{B:Nat}(hB:2≤B){v x:Nat}(h:x∈can B v):x<B:=jm (by omega) v v x (EK h)
theorem nL(B:Nat):can B 0=[]:=rfl
theorem zo{B:Nat}(hB:2≤B){v:Nat}(h:can B v=[]):v=0:=by have:=mw hB v;rw[h]at this;exact this.symm
theorem Jw{B:Nat}(hB:2≤B){v n:Nat}(h:v<B^n):(can B v).length≤n:=by
 rw[←A9 hB h]
 have:=xP (dy B n v)
 rwa[aL]at this
theorem Jx{B:Nat}(hB:2≤B)(v:Nat):ir (can B v)=can B v:=by
 rw[k8 hB (fun x hx=>iv hB hx),mw hB]
theorem Jy{B:Nat}(hB:2≤B)(v:Nat):can B v=dy B (can B v).length v:=by
 have:=uK (can B v) (fun x hx=>iv hB hx)
 rw[mw hB]at this;exact this.symm
theorem cC{B:Nat}(hB:2≤B)(v:Nat):v<B^(can B v).length:=by
 have:=fD (can B v) (fun x hx=>iv hB hx)
 rwa[mw hB]at this
theorem zq{B:Nat}(hB:2≤B){v j:Nat}(h:j<(can B v).length):(can B v)[j]? =some (v/B^j%B):=by
 rw[Jy hB v]at h⊢
 rw[aL]at h
 exact q9 _ _ _ h
theorem wo{B:Nat}(hB:2≤B){v j:Nat}(h:(can B v).length≤j):v/B^j=0:=by
 refine Nat.div_eq_of_lt (Nat.lt_of_lt_of_le (cC hB v) ?_)
 exact Nat.pow_le_pow_right (by omega) h
theorem Ba{B:Nat}(hB:2≤B){v:Nat}(h:v≠0):∃l x,x≠0∧can B v=l++[x]:=by
 rcases pU (can B v)with e|⟨ys,e⟩|⟨ys,y,hy,e⟩
 ·exact absurd (zo hB e) h
 ·exfalso
  have h1:=Jx hB v
  rw[e,mu]at h1
  have h2:=xP ys
  rw[h1]at h2;simp at h2;omega
 ·exact⟨ys,y,hy,e⟩
theorem oT{B:Nat}(hB:2≤B){v n:Nat}(h:n<(can B v).length):B^n≤v:=by
 by_cases h0:v=0
 ·subst h0;simp[nL]at h
 obtain⟨l,x,hx,e⟩:=Ba hB h0
 have h1:=mw hB v
 rw[e,zm]at h1
 have hl:n≤l.length:=by rw[e]at h;simp at h;omega
 have h2:B^n≤B^l.length:=Nat.pow_le_pow_right (by omega) hl
 have h3:B^l.length≤B^l.length*val B [x]:=Nat.le_mul_of_pos_right _ (by simp[val];omega)
 omega
theorem cM{B:Nat}(hB:2≤B){v n:Nat}:(can B v).length≤n↔v<B^n:=by
 refine⟨fun h=>?_,Jw hB⟩
 exact Nat.lt_of_lt_of_le (cC hB v) (Nat.pow_le_pow_right (by omega) h)
theorem Hz{B:Nat}(hB:2≤B){l:List Nat}{x:Nat}(hx:x≠0)(h:∀y∈l++[x],y<B):l++[x]=can B (val B (l++[x])):=by
 rw[←k8 hB h,pS _ hx]
theorem lf{B:Nat}:∀(l:List Nat),(∀x∈l,x<B)→∀k,l.getD k 0=val B l/B^k%B
 |[],_,k=>by simp[val]
 |x::l,h,0=>by
  have h2:=h x (by simp)
  simp[val,Nat.add_mul_mod_self_left,Nat.mod_eq_of_lt h2]
 |x::l,h,k+1=>by
  have h2:=h x (by simp)
  have hB:0<B:=by omega
  rw[List.getD_cons_succ,lf l (fun y hy=>h y (List.mem_cons_of_mem _ hy)) k,val,Nat.pow_succ,Nat.mul_comm (B^k) B,←Nat.div_div_eq_div_mul,Nat.add_mul_div_left _ _ hB,Nat.div_eq_of_lt h2,Nat.zero_add]
theorem ei(B V k:Nat):V%B^(k+1)=V%B^k+B^k*(V/B^k%B):=by
 rw[Nat.pow_succ,Nat.mod_mul]
def zK(B V W k:Nat):Nat:=(V%B^k+W%B^k)/B^k
theorem CD{B:Nat}(hB:0<B)(V W k:Nat):zK B V W k≤1:=by
 have hP:0<B^k:=Nat.pow_pos hB
 have h1:=Nat.mod_lt V hP
 have h2:=Nat.mod_lt W hP
 have:zK B V W k<2:=by rw[zK,Nat.div_lt_iff_lt_mul hP];omega
 omega
theorem Bb{B:Nat}(hB:0<B)(V W k:Nat):(V/B^k%B+W/B^k%B+zK B V W k)/B=zK B V W (k+1):=by
 have hP:0<B^k:=Nat.pow_pos hB
 rw[zK,zK,ei,ei,Nat.pow_succ,←Nat.div_div_eq_div_mul]
 congr 1
 rw[show V%B^k+B^k*(V/B^k%B)+(W%B^k+B^k*(W/B^k%B))=(V%B^k+W%B^k)+B^k*(V/B^k%B+W/B^k%B) by rw[Nat.mul_add];omega,Nat.add_mul_div_left _ _ hP]
 omega
theorem zu{B:Nat}(hB:0<B)(V W k:Nat):(V/B^k%B+W/B^k%B+zK B V W k)%B=(V+W)/B^k%B:=by
 have hP:0<B^k:=Nat.pow_pos hB
 have h:(V+W)/B^k=V/B^k+W/B^k+zK B V W k:=by
  have e1:=Nat.div_add_mod V (B^k)
  have e2:=Nat.div_add_mod W (B^k)
  rw[zK]
  conv=>lhs;rw[←e1,←e2]
  rw[show B^k*(V/B^k)+V%B^k+(B^k*(W/B^k)+W%B^k)=(V%B^k+W%B^k)+B^k*(V/B^k+W/B^k) by rw[Nat.mul_add];omega,Nat.add_mul_div_left _ _ hP]
  omega
 rw[h]
 simp[Nat.add_mod]
theorem Jz{B:Nat}{V W k:Nat}(hV:V<B^k)(hW:W<B^k):zK B V W k=(V+W)/B^k:=by
 rw[zK,Nat.mod_eq_of_lt hV,Nat.mod_eq_of_lt hW]
theorem Bc(B V W:Nat):zK B V W 0=0:=by simp[zK,Nat.mod_one]
def ua(B V W k:Nat):Nat:=(V%B^k+B^k-W%B^k)/B^k
theorem Bd(B V W:Nat):ua B V W 0=1:=by simp[ua,Nat.mod_one]
theorem HA{B:Nat}(hB:0<B)(V W k:Nat):ua B V W k≤1:=by
 have hP:0<B^k:=Nat.pow_pos hB
 have h1:=Nat.mod_lt V hP
 have:ua B V W k<2:=by
  rw[ua,Nat.div_lt_iff_lt_mul hP]
  generalize W%B^k=y at*
  generalize V%B^k=x at*
  omega
 omega
theorem DG{B:Nat}(hB:0<B)(V W k:Nat):V%B^(k+1)+B^(k+1)-W%B^(k+1)=(V%B^k+B^k-W%B^k)+B^k*(V/B^k%B+(B-1-W/B^k%B)):=by
 have hP:0<B^k:=Nat.pow_pos hB
 have h1:=Nat.mod_lt V hP
 have h2:=Nat.mod_lt W hP
 have h3:=Nat.mod_lt (W/B^k) hB
 rw[ei,ei,Nat.pow_succ]
 generalize B^k=p at*
 generalize V/p%B=x at*
 generalize W/p%B=y at*
 obtain⟨z,rfl⟩:∃z,B=y+1+z:=⟨B-y-1,by omega⟩
 have e1:y+1+z-1-y=z:=by omega
 rw[e1,Nat.mul_add p x z,Nat.mul_add p (y+1) z,Nat.mul_add p y 1]
 omega
theorem Be{B:Nat}(hB:0<B)(V W k:Nat):(V/B^k%B+(B-1-W/B^k%B)+ua B V W k)/B=ua B V W (k+1):=by
 have hP:0<B^k:=Nat.pow_pos hB
 rw[ua,ua,DG hB,Nat.pow_succ,←Nat.div_div_eq_div_mul,Nat.add_mul_div_left _ _ hP]
 congr 1
 omega
theorem CE{Q V W:Nat}(hQ:0<Q)(h:W≤V):(V%Q+Q-W%Q)%Q=(V-W)%Q:=by
 have e1:=Nat.div_add_mod V Q
 have e2:=Nat.div_add_mod W Q
 have h1:=Nat.mod_lt V hQ
 have h2:=Nat.mod_lt W hQ
 have hq:W/Q≤V/Q:=Nat.div_le_div_right h
 generalize V%Q=r at*
 generalize W%Q=s at*
 generalize V/Q=a at*
 generalize W/Q=b at*
 obtain⟨c,rfl⟩:=Nat.exists_eq_add_of_le hq
 rw[Nat.mul_add]at e1
 rcases Nat.lt_or_ge r s with KI|KI
 ·cases c with
  |zero=>simp at e1;omega
  |succ c=>
   rw[Nat.mul_add,Nat.mul_one]at e1
   rw[show V-W=Q*c+(r+Q-s) by omega,Nat.mul_add_mod]
 ·rw[show V-W=Q*c+(r-s) by omega,Nat.mul_add_mod,show r+Q-s=r-s+Q by omega,Nat.add_mod_right]
theorem DH{B:Nat}(hB:0<B){V W:Nat}(h:W≤V)(k:Nat):(V/B^k%B+(B-1-W/B^k%B)+ua B V W k)%B=(V-W)/B^k%B:=by
 have hP:0<B^k:=Nat.pow_pos hB
 have hQ:0<B^(k+1):=Nat.pow_pos hB
 have e:=CE hQ h
 have e2:V/B^k%B+(B-1-W/B^k%B)+ua B V W k=(V%B^(k+1)+B^(k+1)-W%B^(k+1))/B^k:=by
  rw[DG hB,Nat.add_mul_div_left _ _ hP,ua];omega
 rw[e2,←Nat.mod_mul_right_div_self,←Nat.mod_mul_right_div_self,←Nat.pow_succ,e]
end Go.Fw
namespace Go.Fw
theorem DI{B:Nat}(hB:0<B):∀(j N lo p d hi:Nat),lo<B^j→p<B→d<B→j<N→(dy B N (lo+B^j*(p+B*hi))).set j d=dy B N (lo+B^j*(d+B*hi))
 |0,N+1,lo,p,d,hi,hlo,hp,hd,_=>by
  have:lo=0:=by simpa using hlo
  subst this
  simp only[Nat.pow_zero,Nat.zero_add,Nat.one_mul,dy,List.set_cons_zero,Nat.add_mul_mod_self_left,Nat.mod_eq_of_lt hd]
  rw[Nat.add_mul_div_left _ _ hB,Nat.add_mul_div_left _ _ hB,Nat.div_eq_of_lt hp,Nat.div_eq_of_lt hd]
 |j+1,N+1,lo,p,d,hi,hlo,hp,hd,hN=>by
  have e:∀q,(lo+B^(j+1)*(q+B*hi))%B=lo%B:=fun q=>by
   rw[Nat.pow_succ,Nat.mul_comm (B^j) B,Nat.mul_assoc,Nat.add_mul_mod_self_left]
  have e2:∀q,(lo+B^(j+1)*(q+B*hi))/B=lo/B+B^j*(q+B*hi):=fun q=>by
   rw[Nat.pow_succ,Nat.mul_comm (B^j) B,Nat.mul_assoc,Nat.add_mul_div_left _ _ hB]
  have aa1:lo/B<B^j:=by rw[Nat.div_lt_iff_lt_mul hB];rwa[Nat.pow_succ]at hlo
  rw[dy,dy,List.set_cons_succ,e,e,e2,e2,DI hB j N (lo/B) p d hi aa1 hp hd (by omega)]
theorem og{B:Nat}(hB:0<B){N j u u' d:Nat}(hj:j<N)(hd:d<B)(hlo:u'%B^j=u%B^j)(Ol:u'/B^j%B=d)(hhi:u'/B^(j+1)=u/B^(j+1)):(dy B N u).set j d=dy B N u':=by
 have hP:0<B^j:=Nat.pow_pos hB
 have f:∀u,u=u%B^j+B^j*(u/B^j%B+B*(u/B^(j+1))):=fun u=>by
  have e1:=Nat.mod_add_div u (B^j)
  have e2:=EM B u j
  rw[Nat.add_comm]at e2
  rw[←e2,e1]
 rw[f u,DI hB j N _ _ d _ (Nat.mod_lt _ hP) (Nat.mod_lt _ hB) hd hj]
 conv=>rhs;rw[f u',hlo,Ol,hhi]
where
 EM (B v m:Nat):v/B^m=B*(v/B^(m+1))+v/B^m%B:=by
  rw[Nat.pow_succ,←Nat.div_div_eq_div_mul,Nat.div_add_mod]
def mT(B V W i k:Nat):Nat:=((V%B^i)*W)%B^(i+k)+B^i*(V/B^i%B)*(W%B^k)
def mC(B V W i k:Nat):Nat:=mT B V W i k/B^(i+k)
def mV(B V W i k:Nat):Nat:=mT B V W i k%B^(i+k)+B^(i+k)*(((V%B^i)*W)/B^(i+k))
theorem LX{B:Nat}(hB:0<B)(V W i k:Nat):mT B V W i k<B^(i+k)*B:=by
 have h1:((V%B^i)*W)%B^(i+k)<B^(i+k):=Nat.mod_lt _ (Nat.pow_pos hB)
 have h2:V/B^i%B<B:=Nat.mod_lt _ hB
 have h3:W%B^k<B^k:=Nat.mod_lt _ (Nat.pow_pos hB)
 have h4:B^i*(V/B^i%B)*(W%B^k)≤B^i*(B-1)*B^k:=Nat.mul_le_mul (Nat.mul_le_mul_left _ (by omega)) (Nat.le_of_lt h3)
 have h5:B^i*(B-1)*B^k=B^(i+k)*(B-1):=by rw[Nat.pow_add,Nat.mul_assoc,Nat.mul_assoc,Nat.mul_comm (B-1)]
 have h6:B^(i+k)*B=B^(i+k)*(B-1)+B^(i+k):=by
  obtain⟨b,rfl⟩:∃b,B=b+1:=⟨B-1,by omega⟩
  rw[Nat.add_sub_cancel,Nat.mul_add,Nat.mul_one]
 unfold mT
 omega
theorem LY{B:Nat}(hB:0<B)(V W i k:Nat):mC B V W i k<B:=by
 rw[mC,Nat.div_lt_iff_lt_mul (Nat.pow_pos hB),Nat.mul_comm];exact LX hB V W i k
theorem zw{B:Nat}(V W i k:Nat):mT B V W i (k+1)=mT B V W i k+B^(i+k)*(((V%B^i)*W)/B^(i+k)%B+(V/B^i%B)*(W/B^k%B)):=by
 have e1:((V%B^i)*W)%B^(i+(k+1))=((V%B^i)*W)%B^(i+k)+B^(i+k)*(((V%B^i)*W)/B^(i+k)%B):=by rw[←Nat.add_assoc,ei]
 have e2:W%B^(k+1)=W%B^k+B^k*(W/B^k%B):=ei B W k
 unfold mT
 rw[e1,e2,Nat.mul_add,Nat.mul_add (B^(i+k))]
 have e3:B^i*(V/B^i%B)*(B^k*(W/B^k%B))=B^(i+k)*((V/B^i%B)*(W/B^k%B)):=by
  rw[Nat.pow_add,Nat.mul_assoc,Nat.mul_assoc,Nat.mul_left_comm (V/B^i%B)]
 omega
theorem JA{B:Nat}(hB:0<B)(V W i k:Nat):(((V%B^i)*W)/B^(i+k)%B+(V/B^i%B)*(W/B^k%B)+mC B V W i k)/B=mC B V W i (k+1):=by
 have hP:0<B^(i+k):=Nat.pow_pos hB
 rw[mC,mC,zw,←Nat.add_assoc,Nat.pow_succ,←Nat.div_div_eq_div_mul,Nat.add_mul_div_left _ _ hP]
 congr 1;omega
theorem LZ{B:Nat}(V W i k:Nat):mV B V W i k%B^(i+k)=mT B V W i k%B^(i+k):=by
 rw[mV,Nat.add_mul_mod_self_left,Nat.mod_mod]
theorem DJ{B:Nat}(hB:0<B)(V W i k:Nat):mV B V W i k/B^(i+k)=((V%B^i)*W)/B^(i+k):=by
 have hP:0<B^(i+k):=Nat.pow_pos hB
 rw[mV,Nat.add_mul_div_left _ _ hP,Nat.div_eq_of_lt (Nat.mod_lt _ hP),Nat.zero_add]
theorem Om{B:Nat}(hB:0<B){V W i k N:Nat}(h:i+k<N):(dy B N (mV B V W i k))[i+k]? =some (((V%B^i)*W)/B^(i+k)%B):=by
 rw[q9 _ _ _ h,DJ hB]
theorem JB{B:Nat}(hB:0<B){V W i k N:Nat}(h:i+k<N):
  (dy B N (mV B V W i k)).set (i+k) ((((V%B^i)*W)/B^(i+k)%B+(V/B^i%B)*(W/B^k%B)+mC B V W i k)%B)=dy B N (mV B V W i (k+1)):=by
 have hP:0<B^(i+k):=Nat.pow_pos hB
 have hPB:B^(i+(k+1))=B^(i+k)*B:=by rw[←Nat.add_assoc,Nat.pow_succ]
 have hs:mT B V W i (k+1)/B^(i+k)=((V%B^i)*W)/B^(i+k)%B+(V/B^i%B)*(W/B^k%B)+mC B V W i k:=by
  rw[zw,Nat.add_mul_div_left _ _ hP,mC];omega
 have ht:mT B V W i (k+1)%B^(i+k)=mT B V W i k%B^(i+k):=by rw[zw,Nat.add_mul_mod_self_left]
 refine og hB h (Nat.mod_lt _ hB) ?_ ?_ ?_
 ·rw[LZ,←ht,mV,hPB,Nat.mul_assoc,Nat.add_mul_mod_self_left,Nat.mod_mul_right_mod]
 ·rw[mV,hPB,Nat.mul_assoc,Nat.add_mul_div_left _ _ hP,Nat.add_mul_mod_self_left,Nat.mod_mul_right_div_self,Nat.mod_mod,hs]
 ·rw[show i+k+1=i+(k+1) by omega,DJ hB,show i+(k+1)=i+k+1 by omega,Nat.pow_succ,←Nat.div_div_eq_div_mul,←Nat.div_div_eq_div_mul,DJ hB]
theorem JC{B:Nat}(V W i:Nat):mV B V W i 0=(V%B^i)*W:=by
 rw[mV,mT,Nat.pow_zero,Nat.mod_one,Nat.mul_zero,Nat.add_zero,Nat.add_zero,Nat.mod_mod,Nat.mod_add_div]
theorem JD{B:Nat}(hB:0<B)(V W i:Nat):mC B V W i 0=0:=by
 rw[mC,mT,Nat.pow_zero,Nat.mod_one,Nat.mul_zero,Nat.add_zero,Nat.add_zero]
 exact Nat.div_eq_of_lt (Nat.mod_lt _ (Nat.pow_pos hB))
theorem On{B:Nat}(hB:0<B){V W i n N:Nat}(hW:W<B^n)(h:i+n<N):(dy B N (mV B V W i n)).set (i+n) ((0+mC B V W i n)%B)=dy B N ((V%B^(i+1))*W):=by
 have hP:0<B^(i+n):=Nat.pow_pos hB
 have hp:(V%B^i)*W<B^(i+n):=by
  have h1:V%B^i<B^i:=Nat.mod_lt _ (Nat.pow_pos hB)
  rw[Nat.pow_add]
  by_cases h0:W=0
  ·subst h0;rw[Nat.mul_zero];exact Nat.mul_pos (Nat.pow_pos hB) (Nat.pow_pos hB)
  ·calc (V%B^i)*W<B^i*W:=Nat.mul_lt_mul_of_pos_right h1 (by omega)
    _≤B^i*B^n:=Nat.mul_le_mul_left _ (Nat.le_of_lt hW)
 have hT:mT B V W i n=(V%B^(i+1))*W:=by
  rw[mT,Nat.mod_eq_of_lt hp,Nat.mod_eq_of_lt hW,ei,Nat.add_mul]
 have hlt:=LX hB V W i n
 rw[hT]at hlt
 refine og hB h (Nat.mod_lt _ hB) ?_ ?_ ?_
 ·rw[LZ,hT]
 ·rw[Nat.zero_add,mC,hT]
 ·rw[Nat.pow_succ B (i+n),Nat.div_eq_of_lt hlt,←Nat.div_div_eq_div_mul,DJ hB,Nat.div_eq_of_lt hp,Nat.zero_div]
def sT(B V f e i:Nat):Nat:=V%B^i*f+e
def sC(B V f e i:Nat):Nat:=sT B V f e i/B^i
theorem DK(B V f e:Nat):sC B V f e 0=e:=by simp[sC,sT,Nat.mod_one]
theorem DL(B V f e i:Nat):sT B V f e (i+1)=sT B V f e i+B^i*(V/B^i%B*f):=by
 unfold sT
 rw[ei,Nat.add_mul,Nat.mul_assoc];omega
theorem DM{B:Nat}(hB:0<B)(V f e i:Nat):(V/B^i%B*f+sC B V f e i)/B=sC B V f e (i+1):=by
 have hP:0<B^i:=Nat.pow_pos hB
 rw[sC,sC,DL,Nat.pow_succ,←Nat.div_div_eq_div_mul,Nat.add_mul_div_left _ _ hP]
 congr 1;omega
theorem HB{B:Nat}(hB:0<B)(V f e i:Nat):(V/B^i%B*f+sC B V f e i)%B=(V*f+e)/B^i%B:=by
 have hP:0<B^i:=Nat.pow_pos hB
 have h1:V*f+e=sT B V f e (i+1)+B^i*(B*(V/B^(i+1)*f)):=by
  have e1:=Nat.mod_add_div V (B^(i+1))
  unfold sT
  conv=>lhs;rw[←e1,Nat.add_mul]
  rw[Nat.pow_succ,Nat.mul_assoc,Nat.mul_assoc];omega
 rw[h1,Nat.add_mul_div_left _ _ hP,Nat.add_mul_mod_self_left,DL,Nat.add_mul_div_left _ _ hP,sC,Nat.add_comm]
theorem L0{B:Nat}(hB:0<B){V f e:Nat}(hf:f<B)(he:e<B)(i:Nat):sC B V f e i<B:=by
 have hP:0<B^i:=Nat.pow_pos hB
 rw[sC,Nat.div_lt_iff_lt_mul hP]
 have h1:V%B^i≤B^i-1:=by have:=Nat.mod_lt V hP;omega
 have h2:V%B^i*f≤(B^i-1)*(B-1):=Nat.mul_le_mul h1 (by omega)
 obtain⟨p,hp⟩:∃p,B^i=p+1:=⟨B^i-1,by omega⟩
 obtain⟨b,rfl⟩:∃b,B=b+1:=⟨B-1,by omega⟩
 unfold sT
 rw[hp]at h2⊢
 rw[Nat.add_sub_cancel,Nat.add_sub_cancel]at h2
 have h3:(b+1)*(p+1)=p*b+b+p+1:=by rw[Nat.add_mul,Nat.mul_add,Nat.mul_comm b p];omega
 omega
theorem Oo{B V f e i:Nat}(h:V<B^i):sC B V f e i=(V*f+e)/B^i:=by rw[sC,sT,Nat.mod_eq_of_lt h]
def sU(B V f e i:Nat):Nat:=sT B V f e i%B^i+B^i*(V/B^i)
def qU(B V d n:Nat):Nat:=V%B^n+B^n*(V/B^n/d)
theorem JE(B V d:Nat):qU B V d 0=V/d:=by simp[qU,Nat.mod_one]
theorem Oq{B V d n:Nat}(h:V<B^n):qU B V d n=V:=by simp[qU,Nat.mod_eq_of_lt h,Nat.div_eq_of_lt h]
theorem JF(B V m:Nat):V/B^m=B*(V/B^(m+1))+V/B^m%B:=by rw[Nat.pow_succ,←Nat.div_div_eq_div_mul,Nat.div_add_mod]
theorem L1{B d:Nat}(V m:Nat):V/B^m=(V/B^(m+1)%d*B+V/B^m%B)+d*(B*(V/B^(m+1)/d)):=by
 have h1:=JF B V m
 have h2:=Nat.mod_add_div (V/B^(m+1)) d
 generalize V/B^(m+1)=q at*
 generalize V/B^m%B=y at*
 rw[h1]
 conv=>lhs;rw[←h2]
 rw[Nat.mul_add,Nat.mul_left_comm B d,Nat.mul_comm B (q%d)];omega
theorem U8{B d:Nat}(hd:0<d)(V m:Nat):V/B^m/d=B*(V/B^(m+1)/d)+(V/B^(m+1)%d*B+V/B^m%B)/d:=by
 conv=>lhs;rw[L1 (B:=B) (d:=d) V m]
 rw[Nat.add_mul_div_left _ _ hd,Nat.add_comm]
theorem U9{B d:Nat}(V m:Nat):V/B^m%d=(V/B^(m+1)%d*B+V/B^m%B)%d:=by
 conv=>lhs;rw[L1 (B:=B) (d:=d) V m]
 rw[Nat.add_mul_mod_self_left]
theorem Vc{B d:Nat}(hB:0<B)(hd:0<d)(V m:Nat):V/B^(m+1)%d*B+V/B^m%B<d*B:=by
 have h1:=Nat.mod_lt (V/B^(m+1)) hd
 have h2:=Nat.mod_lt (V/B^m) hB
 have h3:(V/B^(m+1)%d+1)*B≤d*B:=Nat.mul_le_mul_right _ h1
 rw[Nat.add_mul]at h3;omega
theorem HC{B:Nat}(hB:0<B)(V d n:Nat):qU B V d n/B^n=V/B^n/d:=by
 have hP:0<B^n:=Nat.pow_pos hB
 rw[qU,Nat.add_mul_div_left _ _ hP,Nat.div_eq_of_lt (Nat.mod_lt _ hP),Nat.zero_add]
theorem Vd(B V d n:Nat):qU B V d n%B^n=V%B^n:=by rw[qU,Nat.add_mul_mod_self_left,Nat.mod_mod]
theorem JG{B:Nat}(V d m:Nat):qU B V d (m+1)%B^m=V%B^m:=by
 rw[qU,Nat.pow_succ,Nat.mul_assoc,Nat.add_mul_mod_self_left,Nat.mod_mul_right_mod]
theorem Ot{B:Nat}(hB:0<B){V d m N:Nat}(h:m<N):(dy B N (qU B V d (m+1)))[m]? =some (V/B^m%B):=by
 have hP:0<B^m:=Nat.pow_pos hB
 rw[q9 _ _ _ h,qU,Nat.pow_succ,Nat.mul_assoc,Nat.add_mul_div_left _ _ hP,Nat.add_mul_mod_self_left,Nat.mod_mul_right_div_self,Nat.mod_mod]
theorem JH{B:Nat}(hB:0<B){V d m N:Nat}(hd:0<d)(h:m<N):(dy B N (qU B V d (m+1))).set m ((V/B^(m+1)%d*B+V/B^m%B)/d)=dy B N (qU B V d m):=by
 have hx:(V/B^(m+1)%d*B+V/B^m%B)/d<B:=by rw[Nat.div_lt_iff_lt_mul hd,Nat.mul_comm B d];exact Vc hB hd V m
 have hq:=U8 (B:=B) hd V m
 refine og hB h hx ?_ ?_ ?_
 ·rw[Vd,JG]
 ·rw[HC hB,hq,Nat.mul_add_mod,Nat.mod_eq_of_lt hx]
 ·rw[HC hB,Nat.pow_succ,←Nat.div_div_eq_div_mul,HC hB,hq,Nat.mul_add_div hB,Nat.div_eq_of_lt hx,←Nat.pow_succ];rfl
end Go.Fw
namespace Go.Fw
theorem JI{B v:Nat}(hB:2≤B)(h0:v≠0)(h:v<B):can B v=[v]:=by
 have:=Hz hB (l:=[]) h0 (by simpa using h)
 simpa[val]using this.symm
theorem JJ{B v:Nat}(hB:2≤B)(h0:v/B≠0)(h:v<B*B):can B v=[v%B,v/B]:=by
 have h1:v/B<B:=by rw[Nat.div_lt_iff_lt_mul (by omega)];exact h
 have h2:v%B<B:=Nat.mod_lt _ (by omega)
 have:=Hz hB (l:=[v%B]) h0 (by simp;exact⟨h2,h1⟩)
 simp only[List.cons_append,List.nil_append,val,Nat.mul_zero,Nat.add_zero]at this
 rw[Nat.mod_add_div]at this
 exact this.symm
theorem ku{B:Nat}{l:List Nat}(h:∀x∈l,x<B){i:Nat}(hi:i<l.length):l[i]? =some (val B l/B^i%B):=by
 rw[←lf l h i];simp[List.getD,hi]
def xb(v w:Nat):Int:=if v<w then-1 else if v=w then 0 else 1
theorem rf{v w:Nat}(h:v<w):xb v w=-1:=by simp[xb,h]
theorem zx(v:Nat):xb v v=0:=by simp[xb]
theorem uL{v w:Nat}(h:w<v):xb v w=1:=by
 have h1:¬v<w:=by omega
 have h2:¬v=w:=by omega
 simp[xb,h1,h2]
theorem wv{B v w:Nat}(hB:2≤B)(h:(can B v).length<(can B w).length):v<w:=
 Nat.lt_of_lt_of_le (cC hB v) (oT hB h)
theorem Bf(B v m:Nat):v/B^m=B*(v/B^(m+1))+v/B^m%B:=by
 rw[Nat.pow_succ,←Nat.div_div_eq_div_mul,Nat.div_add_mod]
theorem xR{B v w m:Nat}(h:v/B^m<w/B^m):v<w:=by
 rcases Nat.lt_or_ge v w with h1|h1
 ·exact h1
 ·have:=Nat.div_le_div_right (c:=B^m) h1;omega
theorem EN{B v w m:Nat}(h:v/B^(m+1)=w/B^(m+1)):(v/B^m%B=w/B^m%B∧v/B^m=w/B^m)∨(v/B^m%B<w/B^m%B∧v<w)∨(w/B^m%B<v/B^m%B∧w<v):=by
 have h1:=Bf B v m
 have h2:=Bf B w m
 rw[←h]at h2
 rcases Nat.lt_trichotomy (v/B^m%B) (w/B^m%B)with h3|h3|h3
 ·exact .inr (.inl ⟨h3,xR (B:=B) (m:=m) (by omega)⟩)
 ·exact .inl ⟨h3,by omega⟩
 ·exact .inr (.inr ⟨h3,xR (B:=B) (m:=m) (by omega)⟩)
end Go.Fw
namespace Go.Proofs.Ytmiflmkdaeianaa
open Go.Fw
theorem uM(l:List Nat)(hl:l.length≤1000000000000):ay l=some (ir l):=by
 unfold ay
 refine k7 (fun y=>y.length≤1000000000000∧ir y=ir l) (fun e=>e=ir l) (fun y=>y.length) ?_ ⟨hl,rfl⟩ (fun e he=>by rw[he])
 rintro y ⟨hy,ht⟩
 rcases pU y with rfl|⟨ys,rfl⟩|⟨ys,x,hx,rfl⟩
 ·right;exact⟨[],by simp[cz],ht⟩
 ·left
  have h1:((ys++[0]).length:Int)=((ys.length+1:Nat):Int):=by simp
  have h2:ys.length≤9223372036854775807:=by simp at hy;omega
  refine⟨ys,?_,⟨by simp at hy⊢;omega,by rw[←ht,mu]⟩,by simp⟩
  simp only[cz,Option.bind_some,h1,A6 h2]
  rw[aE (a:=0) (by simp),xO (by simp)]
  simp
 ·right
  have h1:((ys++[x]).length:Int)=((ys.length+1:Nat):Int):=by simp
  have h2:ys.length≤9223372036854775807:=by simp at hy;omega
  refine⟨ys++[x],?_,by rw[←ht,pS _ hx]⟩
  simp only[cz,Option.bind_some,h1,A6 h2]
  rw[aE (a:=x) (by simp)]
  simp[hx]
def zc(n:Bool)(v:Nat):Zr:=⟨n&&v != 0,can 4294967296 v⟩
theorem DN(n:Bool):zc n 0=⟨false,[]⟩:=by simp[zc,nL]
theorem HD(n:Bool){v:Nat}(h:v≠0):zc n v=⟨n,can 4294967296 v⟩:=by simp[zc,h]
def zL(l:List Nat):Prop:=(∀x∈l,x<4294967296)∧l.length≤100000000000
abbrev vl(l:List Nat):Nat:=val 4294967296 l
theorem gE(n:Bool)(l:List Nat)(h:zL l):aV n l=some (zc n (vl l)):=by
 unfold aV
 rw[uM l (by have:=h.2;omega),k8 (by decide) h.1]
 show _=some (zc n (val 4294967296 l))
 by_cases hz:val 4294967296 l=0
 ·rw[hz,DN];simp[nL]
 ·have:can 4294967296 (val 4294967296 l)≠[]:=fun e=>hz (zo (by decide) e)
  rw[HD _ hz];simp[this]
theorem lj(n:Bool)(v:Nat)(h:v<18446744073709551616):cr n v=some (zc n v):=by
 unfold cr
 by_cases hz:v=0
 ·subst hz;simp[DN]
 ·rw[HD _ hz]
  by_cases h1:v/2^32=0
  ·rw[JI (by decide) hz (by omega)]
   simp only[Option.bind_some,hz,h1,decide_false,decide_true,cond_false,cond_true]
   rw[Nat.mod_eq_of_lt (by omega)]
  ·rw[JJ (by decide) (by omega) (by omega)]
   simp only[Option.bind_some,hz,h1,decide_false,cond_false]
   rw[Nat.mod_eq_of_lt (a:=v/2^32) (by omega)]
theorem HE{a b s:Nat}(h:a<2^s):a ||| b*2^s=a+b*2^s:=by
 rw[Nat.or_comm,Nat.mul_comm b,←Nat.two_pow_add_eq_or_of_lt h,Nat.add_comm]
theorem low_eq(l:List Nat)(h:∀x∈l,x<4294967296)(hl:l.length≤2):cf l=some (vl l):=by
 rcases l with _|⟨x,_|⟨y,_|⟨z,l⟩⟩⟩
 ·simp[cf,vl,val]
 ·have hx:=h x (by simp)
  simp only[cf,oe (l:=[x]) (a:=x) rfl]
  simp[vl,val];omega
 ·have hx:=h x (by simp)
  have hy:=h y (by simp)
  simp only[cf,oe (l:=[x,y]) (a:=x) rfl,A7 (l:=[x,y]) (a:=y) rfl,Option.bind_some]
  rw[Nat.mod_eq_of_lt (a:=x) (by omega),Nat.mod_eq_of_lt (a:=y) (by omega),Nat.mod_eq_of_lt (a:=y*2^32) (by omega),HE (by omega),Nat.mod_eq_of_lt (by omega)]
  simp[vl,val];omega
 ·simp at hl
theorem er(x c:Nat)(h:x+c<18446744073709551616):aJ x c=some ((x+c)%4294967296,(x+c)/4294967296):=by
 simp[aJ,Nat.mod_eq_of_lt h]
theorem gJ(v w:Nat)(hv:(can 4294967296 v).length≤100000000000)(hw:(can 4294967296 w).length≤100000000000):bC (can 4294967296 v) (can 4294967296 w)=some (xb v w):=by
 unfold bC
 rcases Nat.lt_trichotomy (can 4294967296 v).length (can 4294967296 w).length with hl|hl|hl
 ·rw[rf (wv (by decide) hl)]
  simp only[Option.bind_some]
  rw[show decide (((can 4294967296 v).length:Int)≠((can 4294967296 w).length:Int))=true by simp;omega,show decide (((can 4294967296 v).length:Int)<((can 4294967296 w).length:Int))=true by simp;omega];rfl
 ·simp only[Option.bind_some]
  rw[show decide (((can 4294967296 v).length:Int)≠((can 4294967296 w).length:Int))=false by simp;omega,cond_false]
  refine k7 (fun y=>∃n:Nat,y=(n:Int)-1∧n≤(can 4294967296 v).length∧v/4294967296^n=w/4294967296^n) (fun e=>e=(if v=w then .inl ()else .inr (xb v w))) (fun y=>(y+1).toNat) ?_ ⟨(can 4294967296 v).length,?_,Nat.le_refl _,?_⟩ ?_
  ·rintro y ⟨n,rfl,hn,he⟩
   cases n with
   |zero=>
    right
    have:v=w:=by simpa using he
    subst this
    exact⟨_,by simp,rfl⟩
   |succ m=>
    have xh:=zq (B:=4294967296) (by decide) (v:=v) (j:=m) (by omega)
    have hgw:=zq (B:=4294967296) (by decide) (v:=w) (j:=m) (by omega)
    have e0:((m+1:Nat):Int)-1=(m:Int):=by omega
    rw[e0]
    rcases EN he with⟨h1,h2⟩|⟨h1,h2⟩|⟨h1,h2⟩
    ·left
     refine⟨(m:Int)-1,?_,⟨m,rfl,by omega,h2⟩,by omega⟩
     simp only[Option.bind_some,aE xh,aE hgw,h1]
     rw[dg (by omega) (by omega)]
     simp
    ·right
     refine⟨.inr (-1),?_,by rw[if_neg (by omega),rf h2]⟩
     simp only[Option.bind_some,aE xh,aE hgw]
     simp[h1,Nat.ne_of_lt h1]
    ·right
     refine⟨.inr 1,?_,by rw[if_neg (by omega),uL h2]⟩
     simp only[Option.bind_some,aE xh,aE hgw]
     simp[Nat.not_lt_of_lt h1,Nat.ne_of_gt h1]
  ·rw[dg (by omega) (by omega)]
  ·rw[wo (by decide) (Nat.le_refl _),wo (by decide) (by omega)]
  ·rintro e rfl
   by_cases h:v=w
   ·subst h;simp[zx]
   ·simp[h]
 ·rw[uL (wv (by decide) hl)]
  simp only[Option.bind_some]
  rw[show decide (((can 4294967296 v).length:Int)≠((can 4294967296 w).length:Int))=true by simp;omega,show decide (((can 4294967296 v).length:Int)<((can 4294967296 w).length:Int))=false by simp;omega];rfl
theorem uN{l:List Nat}(h:∀x∈l,x<4294967296)(i:Nat):l.getD i 0<4294967296:=by
 rcases Nat.lt_or_ge i l.length with hi|hi
 ·exact h _ (List.mem_of_getElem? (m8 hi))
 ·rw[o7 hi];decide
theorem tw(a b:List Nat)(ha:zL a)(hb:zL b):bZ a b=some (dy 4294967296 (max a.length b.length+1) (vl a+vl b)):=by
 obtain⟨hA,hla⟩:=ha
 obtain⟨hB,hlb⟩:=hb
 have hV:val 4294967296 a<4294967296^(max a.length b.length):=Nat.lt_of_lt_of_le (fD a hA) (Nat.pow_le_pow_right (by decide) (by omega))
 have hW:val 4294967296 b<4294967296^(max a.length b.length):=Nat.lt_of_lt_of_le (fD b hB) (Nat.pow_le_pow_right (by decide) (by omega))
 unfold bZ
 simp only[Option.bind_some]
 rw[show max (a.length:Int) (b.length:Int)=((max a.length b.length:Nat):Int) by omega,bV (by omega),CC (by decide) (by omega),Option.bind_some]
 refine wj (fun k=>(zK 4294967296 (vl a) (vl b) k,dy 4294967296 k (vl a+vl b))) (by simp[Bc,dy]) (fun k hk=>?_) ?_
 ·have hx:=uN hA k
  have hy:=uN hB k
  have hc:=CD (B:=4294967296) (by decide) (vl a) (vl b) k
  have hxe:=lf a hA k
  have hye:=lf b hB k
  simp only[Option.bind_some]
  rw[Nat.mod_eq_of_lt (a:=a.getD k 0) (by omega),Nat.mod_eq_of_lt (a:=b.getD k 0) (by omega),Nat.mod_eq_of_lt (a:=a.getD k 0+b.getD k 0) (by omega),er _ _ (by omega)]
  simp only[Option.bind_some]
  rw[A8 (by decide) (by rw[aL];omega),Option.bind_some,hxe,hye,Bb (by decide),zu (by decide),←jU]
 ·have hc:=CD (B:=4294967296) (by decide) (vl a) (vl b) (max a.length b.length)
  simp only
  rw[er _ _ (by omega)]
  simp only[Option.bind_some]
  rw[A8 (by decide) (by rw[aL];omega),Option.bind_some,Nat.zero_add,Jz hV hW,←jU]
theorem tB(a b:List Nat)(ha:zL a)(hb:zL b)(hl:b.length≤a.length)(hle:vl b≤vl a):bp a b=some (dy 4294967296 a.length (vl a-vl b)):=by
 obtain⟨hA,hla⟩:=ha
 obtain⟨hB,hlb⟩:=hb
 have hmx:max a.length b.length=a.length:=by omega
 unfold bp
 simp only[Option.bind_some]
 rw[CC (by decide) (by omega),Option.bind_some,hmx]
 refine wj (fun k=>(ua 4294967296 (vl a) (vl b) k,dy 4294967296 k (vl a-vl b))) (by simp[Bd,dy]) (fun k hk=>?_) rfl
 have hx:=uN hA k
 have hy:=uN hB k
 have hc:=HA (B:=4294967296) (by decide) (vl a) (vl b) k
 have hxe:=lf a hA k
 have hye:=lf b hB k
 simp only[Option.bind_some]
 rw[Nat.mod_eq_of_lt (a:=a.getD k 0) (by omega),Nat.mod_eq_of_lt (a:=b.getD k 0) (by omega),mm (by omega) (by omega),Nat.mod_eq_of_lt (a:=a.getD k 0+(4294967295-b.getD k 0)) (by omega),er _ _ (by omega)]
 simp only[Option.bind_some]
 rw[A8 (by decide) (by rw[aL];omega),Option.bind_some,hxe,hye,Be (B:=4294967296) (by decide),DH (B:=4294967296) (by decide) hle,←jU]
theorem Bg(a b:List Nat)(ha:zL a)(hb:zL b):dI a b=some (dy 4294967296 (a.length+b.length) (vl a*vl b)):=by
 obtain⟨hA,hla⟩:=ha
 obtain⟨hB,hlb⟩:=hb
 unfold dI
 simp only[Option.bind_some]
 rw[oc (by omega),sn (by decide) (by omega),Option.bind_some]
 refine bw (fun i=>((i:Int),dy 4294967296 (a.length+b.length) (vl a%4294967296^i*vl b))) a.length (dy 4294967296 (a.length+b.length) (vl a%4294967296^a.length*vl b)) (by simp[Nat.mod_one,nJ]) (fun i hi=>?_) (by simp) (by rw[Nat.mod_eq_of_lt (fD a hA)])
 have Xi:=ku hA hi
 have hx:val 4294967296 a/4294967296^i%4294967296<4294967296:=Nat.mod_lt _ (by decide)
 simp only[Option.bind_some,show decide ((i:Int)<(a.length:Int))=true by simp;omega,cond_true]
 rw[aE Xi,Option.bind_some]
 refine bw (fun k=>((k:Int),mC 4294967296 (vl a) (vl b) i k,dy 4294967296 (a.length+b.length) (mV 4294967296 (vl a) (vl b) i k))) b.length (mC 4294967296 (vl a) (vl b) i b.length,dy 4294967296 (a.length+b.length) (mV 4294967296 (vl a) (vl b) i b.length)) (by simp[JD,JC]) (fun k hk=>?_) (by simp) ?_
 ·have hgy:=ku hB hk
  have Xj:=Om (B:=4294967296) (by decide) (V:=vl a) (W:=vl b) (i:=i) (k:=k) (N:=a.length+b.length) (by omega)
  have hy:val 4294967296 b/4294967296^k%4294967296<4294967296:=Nat.mod_lt _ (by decide)
  have hp:vl a%4294967296^i*vl b/4294967296^(i+k)%4294967296<4294967296:=Nat.mod_lt _ (by decide)
  have hc:=LY (B:=4294967296) (by decide) (vl a) (vl b) i k
  have hxy:val 4294967296 a/4294967296^i%4294967296*(val 4294967296 b/4294967296^k%4294967296)≤4294967295*4294967295:=Nat.mul_le_mul (by omega) (by omega)
  simp only[Option.bind_some,show decide ((k:Int)<(b.length:Int))=true by simp;omega,cond_true]
  rw[aE hgy,Option.bind_some,oc (by omega),dx (by rw[aL];omega),Option.bind_some,Xj,Option.bind_some]
  rw[Nat.mod_eq_of_lt (a:=vl a%4294967296^i*vl b/4294967296^(i+k)%4294967296) (by omega),Nat.mod_eq_of_lt (a:=val 4294967296 a/4294967296^i%4294967296) (b:=18446744073709551616) (by omega),Nat.mod_eq_of_lt (a:=val 4294967296 b/4294967296^k%4294967296) (b:=18446744073709551616) (by omega),Nat.mod_eq_of_lt (a:=val 4294967296 a/4294967296^i%4294967296*(val 4294967296 b/4294967296^k%4294967296)) (by omega),Nat.mod_eq_of_lt (a:=vl a%4294967296^i*vl b/4294967296^(i+k)%4294967296+_) (by omega),er _ _ (by omega)]
  simp only[Option.bind_some]
  rw[iO (by rw[aL];omega),Option.bind_some,JA (B:=4294967296) (by decide),JB (B:=4294967296) (by decide) (by omega),bV (by omega)]
 ·have hc:=LY (B:=4294967296) (by decide) (vl a) (vl b) i b.length
  simp only[Option.bind_some]
  rw[oc (by omega),er _ _ (by omega)]
  simp only[Option.bind_some]
  rw[dx (by rw[aL];omega),Option.bind_some,iO (by rw[aL];omega),Option.bind_some,On (B:=4294967296) (by decide) (fD b hB) (by omega),bV (by omega)]
end Go.Proofs.Ytmiflmkdaeianaa
namespace Go.Proofs.Ytmiflmkdaeianaa
open Go.Fw
theorem JK{a b s:Nat}(h:a<2^s):b*2^s ||| a=b*2^s+a:=by rw[Nat.or_comm,HE h,Nat.add_comm]
theorem DO{a b:Nat}(h:a<4294967296):b*4294967296 ||| a=b*4294967296+a:=JK (s:=32) h
theorem Bh(a:List Nat)(d:Nat)(ha:zL a)(hd:0<d)(hd2:d≤4294967296):eG a d=some (vl a%d,dy 4294967296 a.length (vl a/d)):=by
 obtain⟨hA,hla⟩:=ha
 unfold eG
 simp only[Option.bind_some]
 rw[dg (by omega) (by omega)]
 refine bw (fun i=>(vl a/4294967296^(a.length-i)%d,((a.length-i:Nat):Int)-1,dy 4294967296 a.length (qU 4294967296 (vl a) d (a.length-i)))) a.length (vl a%d,dy 4294967296 a.length (vl a/d)) ?_ (fun i hi=>?_) (by simp[JE]) ?_
 ·simp only[Nat.sub_zero]
  rw[Oq (fD a hA),uK a hA,Nat.div_eq_of_lt (fD a hA),Nat.zero_mod]
 ·obtain⟨m,hm⟩:∃m,a.length-i=m+1:=⟨a.length-i-1,by omega⟩
  have hm':a.length-(i+1)=m:=by omega
  have hml:m<a.length:=by omega
  rw[hm,hm']
  have hy:vl a/4294967296^m%4294967296<4294967296:=Nat.mod_lt _ (by decide)
  have hr:vl a/4294967296^(m+1)%d<d:=Nat.mod_lt _ hd
  have hq:=Vc (B:=4294967296) (by decide) hd (vl a) m
  have hqd:(vl a/4294967296^(m+1)%d*4294967296+vl a/4294967296^m%4294967296)/d<4294967296:=by rw[Nat.div_lt_iff_lt_mul hd,Nat.mul_comm 4294967296 d];exact hq
  have hg:=Ot (B:=4294967296) (by decide) (V:=vl a) (d:=d) (m:=m) (N:=a.length) hml
  have hlt:vl a/4294967296^(m+1)%d*4294967296+vl a/4294967296^m%4294967296<18446744073709551616:=by omega
  have O4:vl a/4294967296^(m+1)%d*4294967296<18446744073709551616:=Nat.lt_of_le_of_lt (Nat.le_add_right _ _) hlt
  have D1:vl a/4294967296^m%4294967296<18446744073709551616:=Nat.lt_of_le_of_lt (Nat.le_add_left _ _) hlt
  have Q8:((m+1:Nat):Int)-1=(m:Int):=by omega
  simp only[Q8,show decide ((0:Int)≤(m:Int))=true by simp,cond_true,Option.bind_some]
  rw[dx (by rw[aL];omega),Option.bind_some,hg]
  simp only[Option.bind_some]
  rw[show(2:Nat)^32=4294967296 from rfl]
  rw[Nat.mod_eq_of_lt (a:=vl a/4294967296^(m+1)%d*4294967296) O4,Nat.mod_eq_of_lt (a:=vl a/4294967296^m%4294967296) (b:=18446744073709551616) D1,DO hy,Nat.mod_eq_of_lt (a:=vl a/4294967296^(m+1)%d*4294967296+vl a/4294967296^m%4294967296) hlt,zk (by omega) hlt,uJ (by omega)]
  simp only[Option.bind_some]
  rw[Nat.mod_eq_of_lt (b:=4294967296) (a:=(vl a/4294967296^(m+1)%d*4294967296+vl a/4294967296^m%4294967296)/d) hqd,iO (by rw[aL];omega),Option.bind_some,dg (by omega) (by omega)]
  rw[JH (B:=4294967296) (by decide) hd hml,←U9 (B:=4294967296) (d:=d) (vl a) m]
 ·simp only
  rw[kZ (by rw[aL]),Option.bind_some]
theorem shiftLeft_eq(a:List Nat)(s:Nat)(ha:zL a)(hs:s<32):c9 a s=some (dy 4294967296 (a.length+1) (vl a*2^s)):=by
 obtain⟨hA,hla⟩:=ha
 have hf:2^s<4294967296:=by
  have:2^s<2^32:=Nat.pow_lt_pow_right (by decide) hs
  omega
 unfold c9
 simp only[Option.bind_some]
 rw[bV (by omega),CC (by decide) (by omega),Option.bind_some]
 refine bw (fun i=>((i:Int),sC 4294967296 (vl a) (2^s) 0 i,dy 4294967296 i (vl a*2^s+0))) a.length (sC 4294967296 (vl a) (2^s) 0 a.length,dy 4294967296 a.length (vl a*2^s+0)) (by simp[DK,dy]) (fun i hi=>?_) (by simp) ?_
 ·have hx:vl a/4294967296^i%4294967296<4294967296:=Nat.mod_lt _ (by decide)
  have hc:=L0 (B:=4294967296) (by decide) (V:=vl a) hf (show(0:Nat)<4294967296 by decide) i
  have hxf:vl a/4294967296^i%4294967296*2^s≤4294967295*4294967295:=Nat.mul_le_mul (by omega) (by omega)
  have hg:a[i]? =some (vl a/4294967296^i%4294967296):=ku hA hi
  simp only[show decide ((i:Int)<(a.length:Int))=true by simp;omega,cond_true]
  rw[aE hg]
  simp only[Option.bind_some]
  rw[show min s 64=s by omega,Nat.mod_eq_of_lt (a:=vl a/4294967296^i%4294967296) (b:=18446744073709551616) (by omega),Nat.mod_eq_of_lt (b:=18446744073709551616) (by omega),er _ _ (by omega)]
  simp only[Option.bind_some]
  rw[A8 (by decide) (by rw[aL];omega),Option.bind_some,DM (B:=4294967296) (by decide),HB (B:=4294967296) (by decide),bV (by omega),←jU]
 ·have hc:=L0 (B:=4294967296) (by decide) (V:=vl a) hf (show(0:Nat)<4294967296 by decide) a.length
  simp only
  rw[er _ _ (by omega)]
  simp only[Option.bind_some]
  rw[A8 (by decide) (by rw[aL];omega),Option.bind_some,Nat.zero_add,Oo (fD a hA),←jU]
  simp
theorem xd(a:List Nat)(s:Nat):eU a s=c9 a s:=rfl
def pV:IJ:=[0,1,2,2,3,3,3,3,4,4,4,4,4,4,4,4,5,5,5,5,5,5,5,5,5,5,5,5,5,5,5,5]++List.replicate 32 6++List.replicate 64 7++List.replicate 128 8
theorem Ou:∀y:Nat,y<256→oE pV (y:Int)=some ((oE pV (y:Int)).getD 0)∧(oE pV (y:Int)).getD 0≤8∧y<2^(oE pV (y:Int)).getD 0∧(y=0∨2^(oE pV (y:Int)).getD 0≤2*y):=by decide+kernel
set_option maxRecDepth 20000 in
theorem HF(x:Nat)(h:x<4294967296):∃n:Nat,dY x=some (n:Int)∧n≤32∧x<2^n∧(x=0∨2^n≤2*x):=by
 have key:∀(y k:Nat),y<256→y=x/2^k→k≤24→(x≠0→y≠0)→∃n:Nat,(((oE pV ((y%256:Nat):Int)).bind fun ji=>(some (IntKind.i64.wrap (ji:Int))).bind fun gi=>(some (IntKind.i64.wrap ((k:Int)+gi))).bind fun eT=>some eT)=some (n:Int))∧n≤32∧x<2^n∧(x=0∨2^n≤2*x):=by
  intro y k hy hyx hk hnz
  obtain⟨h1,h2,h3,h4⟩:=Ou y hy
  rw[Nat.mod_eq_of_lt hy,h1]
  generalize (oE pV (y:Int)).getD 0=t at*
  have hp:0<2^k:=Nat.two_pow_pos _
  have e1:2^(k+t)=2^k*2^t:=Nat.pow_add ..
  have e2:=Nat.div_add_mod x (2^k)
  have e3:=Nat.mod_lt x hp
  rw[←hyx]at e2
  refine⟨k+t,?_,by omega,?_,?_⟩
  ·simp only[Option.bind_some]
   rw[mh (by omega),oc (by omega)]
  ·rw[e1]
   have:2^k*(y+1)≤2^k*2^t:=Nat.mul_le_mul_left _ h3
   rw[Nat.mul_add]at this
   omega
  ·rcases h4 with h4|h4
   ·left
    cases Nat.eq_zero_or_pos x with
    |inl h=>exact h
    |inr h=>exact absurd h4 (hnz (by omega))
   ·right
    rw[e1]
    have:2^k*2^t≤2^k*(2*y):=Nat.mul_le_mul_left _ h4
    rw[show 2^k*(2*y)=2*(2^k*y) by rw[Nat.mul_left_comm]]at this
    omega
 unfold dY
 simp only[cz,Option.bind_some]
 by_cases c1:65536≤x
 ·rw[show decide (65536≤x)=true by simpa using c1]
  simp only[cond_true]
  by_cases c2:256≤x/2^16
  ·rw[show decide (256≤x/2^16)=true by simpa using c2]
   simp only[cond_true]
   rw[show IntKind.i64.wrap (16+8)=((24:Nat):Int) by decide]
   exact key (x/2^16/2^8) 24 (by omega) (by omega) (by omega) (by omega)
  ·rw[show decide (256≤x/2^16)=false by simpa using c2]
   simp only[cond_false]
   exact key (x/2^16) 16 (by omega) rfl (by omega) (by omega)
 ·rw[show decide (65536≤x)=false by simpa using c1]
  simp only[cond_false]
  by_cases c2:256≤x
  ·rw[show decide (256≤x)=true by simpa using c2]
   simp only[cond_true]
   rw[show IntKind.i64.wrap (0+8)=((8:Nat):Int) by decide]
   exact key (x/2^8) 8 (by omega) rfl (by omega) (by omega)
  ·rw[show decide (256≤x)=false by simpa using c2]
   simp only[cond_false]
   exact key x 0 (by omega) (by simp) (by omega) (fun h=>h)
theorem Ve(x:Nat)(h:x<4294967296)(h0:x≠0):∃s:Nat,bT x=some (s:Int)∧s<32∧2147483648≤x*2^s∧x*2^s<4294967296:=by
 obtain⟨n,h1,h2,h3,h4⟩:=HF x h
 have h4:2^n≤2*x:=h4.resolve_left h0
 have hn:n≠0:=by rintro rfl;simp at h3;omega
 refine⟨32-n,?_,by omega,?_,?_⟩
 ·unfold bT
  rw[h1]
  simp only[Option.bind_some]
  rw[dg (by omega) (by omega)]
  congr 1;omega
 ·have:2^n*2^(32-n)≤2*x*2^(32-n):=Nat.mul_le_mul_right _ h4
  rw[←Nat.pow_add,show n+(32-n)=32 by omega,Nat.mul_assoc]at this
  omega
 ·have:x*2^(32-n)<2^n*2^(32-n):=Nat.mul_lt_mul_of_pos_right h3 (Nat.two_pow_pos _)
  rw[←Nat.pow_add,show n+(32-n)=32 by omega]at this
  omega
end Go.Proofs.Ytmiflmkdaeianaa
namespace Go.Fw
section Vf
variable {B V U W:Nat}
theorem Ov{P F T:Nat}(hP:0<P)(hF:0<F)(hV:F*P≤V)(hU:U<(T+1)*P):U/V≤T/F:=by
 have Ox:0<V:=Nat.lt_of_lt_of_le (Nat.mul_pos hF hP) hV
 rw[Nat.le_div_iff_mul_le hF]
 rcases Nat.lt_or_ge T (U/V*F)with h|h
 ·exfalso
  have h1:U/V*V≤U:=Nat.div_mul_le_self U V
  have h2:U/V*(F*P)≤U/V*V:=Nat.mul_le_mul_left _ hV
  have h3:(T+1)*P≤U/V*F*P:=Nat.mul_le_mul_right _ h
  rw[Nat.mul_assoc]at h3
  omega
 ·exact h
theorem JM{P F S T u g r:Nat}(hV:(F*B+S)*P≤V)(hU:U<(T*B+u+1)*P)(PN:g*F+r=T)(h:r*B+u<g*S):U<g*V:=by
 have h1:g*((F*B+S)*P)≤g*V:=Nat.mul_le_mul_left _ hV
 have h2:(T*B+u+1)*P≤g*(F*B+S)*P:=by
  apply Nat.mul_le_mul_right
  rw[Nat.mul_add,←Nat.mul_assoc,←PN,Nat.add_mul]
  omega
 rw[Nat.mul_assoc]at h2
 omega
theorem Oy{P V2 U2 g:Nat}(hV:V<(V2+1)*P)(hU:U2*P≤U)(hq:U/V<B)(hB:B≤V2)(Ox:0<V)(h:g*V2≤U2):g≤U/V+1:=by
 rcases Nat.lt_or_ge (U/V+1) g with h'|h'
 ·exfalso
  have h1:U<(U/V+1)*V:=by have:=Nat.lt_div_mul_add (a:=U) Ox;rw[Nat.add_mul,Nat.one_mul];exact this
  have h2:(U/V+1)*V≤(U/V+1)*((V2+1)*P):=Nat.mul_le_mul_left _ (Nat.le_of_lt hV)
  have h3:g*V2*P≤U2*P:=Nat.mul_le_mul_right _ h
  have h4:(U/V+2)*V2≤g*V2:=Nat.mul_le_mul_right _ h'
  have h5:(U/V+2)*V2*P≤g*V2*P:=Nat.mul_le_mul_right _ h4
  have h6:(U/V+1)*((V2+1)*P)≤(U/V+2)*V2*P:=by
   rw[←Nat.mul_assoc]
   apply Nat.mul_le_mul_right
   rw[Nat.mul_add,Nat.add_mul (U/V) 2 V2,Nat.add_mul (U/V) 1 V2]
   omega
  omega
 ·exact h'
end Vf
def mix(B o i X U A:Nat):Nat:=A%B^o+B^o*(X%B^i+B^i*(U/B^i))
theorem DP(B o i X U A:Nat):mix B o i X U A%B^o=A%B^o:=by rw[mix,Nat.add_mul_mod_self_left,Nat.mod_mod]
section mix
variable {B:Nat}(hB:0<B)(o i X U A:Nat)
include hB
theorem ri:mix B o i X U A/B^o=X%B^i+B^i*(U/B^i):=by
 rw[mix,Nat.add_mul_div_left _ _ (Nat.pow_pos hB),Nat.div_eq_of_lt (Nat.mod_lt _ (Nat.pow_pos hB)),Nat.zero_add]
theorem rj:mix B o i X U A/B^(o+i)=U/B^i:=by
 rw[Nat.pow_add,←Nat.div_div_eq_div_mul,ri hB,Nat.add_mul_div_left _ _ (Nat.pow_pos hB),Nat.div_eq_of_lt (Nat.mod_lt _ (Nat.pow_pos hB)),Nat.zero_add]
theorem JN:mix B o i X U A%B^(o+i)=A%B^o+B^o*(X%B^i):=by
 rw[Nat.pow_add,Nat.mod_mul,DP,ri hB,Nat.add_mul_mod_self_left,Nat.mod_mod]
theorem zy{N:Nat}(h:o+i<N):(dy B N (mix B o i X U A)).set (o+i) (X/B^i%B)=dy B N (mix B o (i+1) X U A):=by
 apply og hB h (Nat.mod_lt _ hB)
 ·rw[JN hB,Nat.pow_add,Nat.mod_mul,DP,ri hB,Nat.pow_succ B i,Nat.mul_assoc,Nat.add_mul_mod_self_left,Nat.mod_mul,Nat.add_mul_mod_self_left,Nat.mod_mod]
 ·rw[Nat.pow_add,←Nat.div_div_eq_div_mul,ri hB,Nat.pow_succ B i,Nat.mod_mul,Nat.mul_assoc,Nat.add_assoc,←Nat.mul_add,Nat.add_mul_div_left _ _ (Nat.pow_pos hB),Nat.div_eq_of_lt (Nat.mod_lt _ (Nat.pow_pos hB)),Nat.zero_add,Nat.add_mul_mod_self_left,Nat.mod_mod]
 ·have h1:=rj hB o (i+1) X U A
  have h2:=rj hB o i X U A
  rw[show o+i+1=o+(i+1) by omega,h1,show o+(i+1)=(o+i)+1 by omega,Nat.pow_succ B (o+i),←Nat.div_div_eq_div_mul,h2,Nat.pow_succ,←Nat.div_div_eq_div_mul]
end mix
theorem Bi{B o m X U A:Nat}(hU:U<B^m):mix B o m X U A=A%B^o+B^o*(X%B^m):=by rw[mix,Nat.div_eq_of_lt hU];simp
theorem Bj{B:Nat}(o X A:Nat):mix B o 0 X (A/B^o) A=A:=by
 simp only[mix,Nat.pow_zero,Nat.mod_one,Nat.zero_add,Nat.one_mul,Nat.div_one]
 exact Nat.mod_add_div A (B^o)
theorem EO{B U U' T i:Nat}(h:U%B^i=U'%B^i):ua B U T i=ua B U' T i:=by rw[ua,ua,h]
theorem HG{B:Nat}(hB:0<B){U T m i:Nat}(hi:i<m)(hT:T≤U+B^m):(U/B^i%B+(B-1-T/B^i%B)+ua B U T i)%B=(U+B^m-T)/B^i%B:=by
 have e:B^m=B^i*(B*B^(m-i-1)):=by rw[←Nat.pow_succ',←Nat.pow_add];congr 1;omega
 have h1:(U+B^m)%B^i=U%B^i:=by rw[e,Nat.add_mul_mod_self_left]
 have h2:(U+B^m)/B^i%B=U/B^i%B:=by rw[e,Nat.add_mul_div_left _ _ (Nat.pow_pos hB),Nat.add_mul_mod_self_left]
 rw[←h2,EO (U':=U+B^m) h1.symm,DH hB hT]
theorem JO{B m U T:Nat}(hB:0<B)(hU:U<B^m)(hT:T<B^m):ua B U T m=if U<T then 0 else 1:=by
 rw[ua,Nat.mod_eq_of_lt hU,Nat.mod_eq_of_lt hT]
 have hp:0<B^m:=Nat.pow_pos hB
 split
 ·exact Nat.div_eq_of_lt (by omega)
 ·rw[show U+B^m-T=(U-T)+B^m by omega,Nat.add_div_right _ hp,Nat.div_eq_of_lt (by omega)]
end Go.Fw
namespace Go.Proofs.Ytmiflmkdaeianaa
open Go.Fw
theorem jc{N A j:Nat}(h:j<N):(dy 4294967296 N A)[j]? =some (A/4294967296^j%4294967296):=q9 N A j h
theorem two32:(2:Nat)^32=4294967296:=rfl
theorem Vg:(2:Nat)^63=9223372036854775808:=rfl
theorem zA(A o j:Nat):A/4294967296^(o+j)=A/4294967296^o/4294967296^j:=by rw[Nat.pow_add,Nat.div_div_eq_div_mul]
theorem Bl{N A o n:Nat}{v:List Nat}(hv:zL v)(hn:v.length=n+2)(hN:N≤100000000001)(ho:o+(n+2)<N)
  (hU:A/4294967296^o<4294967296*vl v) (HH:2147483648*4294967296^(n+1)≤vl v):
  ∃r,eH (dy 4294967296 N A) o (n+3) v=some r∧r.2=dy 4294967296 N A∧A/4294967296^o/vl v≤r.1∧r.1≤A/4294967296^o/vl v+1:=by
 obtain⟨hV,hlv⟩:=hv
 obtain⟨U,Ie⟩:∃U,A/4294967296^o=U:=⟨_,rfl⟩
 obtain⟨V,Ig⟩:∃V,vl v=V:=⟨_,rfl⟩
 have uc:V<4294967296^(n+2):=by rw[←Ig,←hn];exact fD v hV
 have L2:0<4294967296^(n+1):=Nat.pow_pos (by decide)
 have hP:0<4294967296^n:=Nat.pow_pos (by decide)
 have Oz:4294967296^(n+1)=4294967296^n*4294967296:=Nat.pow_succ ..
 have Bm:4294967296^(n+2)=4294967296^(n+1)*4294967296:=Nat.pow_succ ..
 rw[Ie,Ig]at hU⊢
 rw[Ig]at HH
 have Vh:U<4294967296^(n+1)*4294967296*4294967296:=by
  have:4294967296*V<4294967296*4294967296^(n+2):=Nat.mul_lt_mul_of_pos_left uc (by decide)
  rw[Bm]at this
  omega
 obtain⟨F,hF⟩:∃F,V/4294967296^(n+1)=F:=⟨_,rfl⟩
 obtain⟨S,hS⟩:∃S,V/4294967296^n%4294967296=S:=⟨_,rfl⟩
 obtain⟨T,hT⟩:∃T,U/4294967296^(n+1)=T:=⟨_,rfl⟩
 obtain⟨u,hu⟩:∃u,U/4294967296^n%4294967296=u:=⟨_,rfl⟩
 have aa5:F<4294967296:=by rw[←hF,Nat.div_lt_iff_lt_mul L2];rw[Bm,Nat.mul_comm]at uc;exact uc
 have aed:2147483648≤F:=by rw[←hF,Nat.le_div_iff_mul_le L2];exact HH
 have aee:S<4294967296:=by rw[←hS];exact Nat.mod_lt _ (by decide)
 have Vi:u<4294967296:=by rw[←hu];exact Nat.mod_lt _ (by decide)
 have aa6:T<4294967296*4294967296:=by rw[←hT,Nat.div_lt_iff_lt_mul L2];rw[Nat.mul_comm,←Nat.mul_assoc];exact Vh
 have hV2:V/4294967296^n=F*4294967296+S:=by rw[←hF,←hS,Oz,←Nat.div_div_eq_div_mul,Nat.mul_comm,Nat.div_add_mod]
 have hU2:U/4294967296^n=T*4294967296+u:=by rw[←hT,←hu,Oz,←Nat.div_div_eq_div_mul,Nat.mul_comm,Nat.div_add_mod]
 have hq:U/V<4294967296:=by rw[Nat.div_lt_iff_lt_mul (by omega)];exact hU
 have Vj:(F*4294967296+S)*4294967296^n≤V:=by rw[←hV2];exact Nat.div_mul_le_self _ _
 have Vk:V<(F*4294967296+S+1)*4294967296^n:=by rw[←hV2,Nat.add_mul,Nat.one_mul];exact Nat.lt_div_mul_add hP
 have Vl:(T*4294967296+u)*4294967296^n≤U:=by rw[←hU2];exact Nat.div_mul_le_self _ _
 have Vm:U<(T*4294967296+u+1)*4294967296^n:=by rw[←hU2,Nat.add_mul,Nat.one_mul];exact Nat.lt_div_mul_add hP
 have L3:F*4294967296^(n+1)≤V:=by rw[←hF];exact Nat.div_mul_le_self _ _
 have L4:U<(T+1)*4294967296^(n+1):=by rw[←hT,Nat.add_mul,Nat.one_mul];exact Nat.lt_div_mul_add L2
 have L5:V<(F+1)*4294967296^(n+1):=by rw[←hF,Nat.add_mul,Nat.one_mul];exact Nat.lt_div_mul_add L2
 have hTF:T<4294967296*(F+1):=by
  rw[←hT,Nat.div_lt_iff_lt_mul L2]
  have:4294967296*V<4294967296*((F+1)*4294967296^(n+1)):=Nat.mul_lt_mul_of_pos_left L5 (by decide)
  rw[Nat.mul_assoc]
  omega
 have g1:(dy 4294967296 N A)[o+(n+2)]? =some (U/4294967296^(n+2)%4294967296):=by rw[jc (by omega),zA,Ie]
 have g2:(dy 4294967296 N A)[o+(n+1)]? =some (U/4294967296^(n+1)%4294967296):=by rw[jc (by omega),zA,Ie]
 have g3:(dy 4294967296 N A)[o+n]? =some u:=by rw[jc (by omega),zA,Ie,hu]
 have g4:v[n+1]? =some F:=by rw[ku hV (by omega),show val 4294967296 v=V from Ig,hF,Nat.mod_eq_of_lt aa5]
 have g5:v[n]? =some S:=by rw[ku hV (by omega),show val 4294967296 v=V from Ig,hS]
 have hun:U/4294967296^(n+2)<4294967296:=by rw[Bm,←Nat.div_div_eq_div_mul,hT,Nat.div_lt_iff_lt_mul (by decide)];exact aa6
 have CF:U/4294967296^(n+2)%4294967296*4294967296+U/4294967296^(n+1)%4294967296=T:=by
  rw[Nat.mod_eq_of_lt hun,Bm,←Nat.div_div_eq_div_mul,hT,Nat.mul_comm,Nat.div_add_mod]
 obtain⟨t1,Vn⟩:∃t,U/4294967296^(n+2)%4294967296=t:=⟨_,rfl⟩
 obtain⟨t2,Vo⟩:∃t,U/4294967296^(n+1)%4294967296=t:=⟨_,rfl⟩
 have l1:t1<4294967296:=by rw[←Vn];exact Nat.mod_lt _ (by decide)
 have l2:t2<4294967296:=by rw[←Vo];exact Nat.mod_lt _ (by decide)
 rw[Vn]at g1 CF
 rw[Vo]at g2 CF
 clear Vn Vo hU2 hV2
 have c1:((n+2:Nat):Int)-1=((n+1:Nat):Int):=by omega
 have c2:((n+2:Nat):Int)-2=(n:Int):=by omega
 unfold eH
 simp only[Option.bind_some,hn,c1,c2]
 rw[mh (by omega),mh (by omega),uI (by omega),uI (by omega),uI (by omega)]
 simp only[Option.bind_some]
 rw[g1,g2,aE g4,aE g5]
 simp only[Option.bind_some,two32]
 rw[Nat.mod_eq_of_lt (a:=t1) (by omega),Nat.mod_eq_of_lt (a:=t2) (by omega),Nat.mod_eq_of_lt (a:=t1*4294967296) (by omega),DO l2,CF,Nat.mod_eq_of_lt (a:=T) (by omega),Nat.mod_eq_of_lt (a:=F) (by omega),Nat.mod_eq_of_lt (a:=S) (by omega),zk (by omega) (by omega),uJ (by omega)]
 simp only[Option.bind_some]
 have aa9:=Ov (V:=V) (U:=U) L2 (show 0<F by omega) L3 L4
 have hle:∀g,g*(F*4294967296+S)≤T*4294967296+u→g≤U/V+1:=fun g h=>Oy (B:=4294967296) Vk Vl hq (by omega) (by omega) h
 have aba:∀g r,g*F+r=T→r*4294967296+u<g*S→U/V<g:=fun g r i1 ht=>(Nat.div_lt_iff_lt_mul (by omega)).2 (JM Vj Vm i1 ht)
 have hg0:T/F≤4294967297:=by
  have:T/F<4294967298:=by
   rw[Nat.div_lt_iff_lt_mul (by omega)]
   omega
  omega
 generalize U/V=q at*
 clear Vj Vk Vl Vm L3 L4 L5 hTF Vh HH uc Oz Bm hP L2 hF hS hT hu Ie Ig hU
 have hdm:=Nat.div_add_mod T F
 have hml:=Nat.mod_lt T (show 0<F by omega)
 have abb:T/F*F+T%F=T:=by rw[Nat.mul_comm];exact hdm
 clear hdm
 refine jA (fun x=>x.1*F+x.2=T∧q≤x.1∧x.2<4294967296∧x.1≤4294967297) (fun e=>q≤e∧e≤q+1) (fun x=>x.1) ?_ ⟨abb,aa9,by show T%F<_;omega,hg0⟩ ?_
 ·rintro⟨g,r⟩ ⟨i1,i2,i3,i4⟩
  simp only at i1 i2 i3 i4
  have down:q<g→(∃s',(bif decide ((r+F)%18446744073709551616/4294967296≠0)then some (.inr (j0 18446744073709551616 g 1))else some (.inl (j0 18446744073709551616 g 1,(r+F)%18446744073709551616)):Option ((Nat×Nat)⊕Nat))=some (.inl s')∧(s'.1*F+s'.2=T∧q≤s'.1∧s'.2<4294967296∧s'.1≤4294967297)∧s'.1<g)∨
    (∃e,(bif decide ((r+F)%18446744073709551616/4294967296≠0)then some (.inr (j0 18446744073709551616 g 1))else some (.inl (j0 18446744073709551616 g 1,(r+F)%18446744073709551616)):Option ((Nat×Nat)⊕Nat))=some (.inr e)∧q≤e∧e≤q+1):=by
   intro hlt
   have e1:(g-1)*F+(r+F)=T:=by
    obtain⟨k,rfl⟩:∃k,g=k+1:=⟨g-1,by omega⟩
    rw[Nat.add_sub_cancel];rw[Nat.add_mul]at i1;omega
   rw[mm (by omega) (by omega),Nat.mod_eq_of_lt (a:=r+F) (by omega)]
   by_cases hb:r+F<4294967296
   ·left
    refine⟨(g-1,r+F),by simp[Nat.div_eq_of_lt hb],⟨e1,by simp only;omega,hb,by simp only;omega⟩,by simp only;omega⟩
   ·right
    have hne:(r+F)/4294967296≠0:=by omega
    refine⟨g-1,by simp[hne],by omega,?_⟩
    refine hle _ ?_
    have m1:(g-1)*S≤4294967296*4294967295:=Nat.mul_le_mul (by omega) (by omega)
    rw[Nat.mul_add,←Nat.mul_assoc]
    have m2:((g-1)*F+(r+F))*4294967296=T*4294967296:=by rw[e1]
    rw[Nat.add_mul]at m2
    omega
  simp only[cz,bk]
  by_cases hg:g<4294967296
  ·rw[show decide (g/4294967296≠0)=false by simp;omega]
   have hgS:g*S≤4294967295*4294967295:=Nat.mul_le_mul (by omega) (by omega)
   simp only[gU]
   rw[g3]
   simp only[bk]
   rw[Nat.mod_eq_of_lt (a:=g*S) (by omega),Nat.mod_eq_of_lt (a:=r*4294967296) (by omega),Nat.mod_eq_of_lt (a:=u) (by omega),DO Vi,Nat.mod_eq_of_lt (a:=r*4294967296+u) (by omega)]
   by_cases ht:r*4294967296+u<g*S
   ·rw[show decide (r*4294967296+u<g*S)=true by simpa using ht]
    simp only[bk,gD]
    exact down (aba _ _ i1 ht)
   ·rw[show decide (r*4294967296+u<g*S)=false by simpa using ht]
    right
    refine⟨g,by simp,i2,?_⟩
    refine hle _ ?_
    rw[Nat.mul_add,←Nat.mul_assoc,←i1,Nat.add_mul]
    omega
  ·rw[show decide (g/4294967296≠0)=true by simp;omega]
   simp only[bk,gD]
   exact down (by omega)
 ·rintro e ⟨h2,h3⟩
  exact⟨(e,dy 4294967296 N A),by rw[kZ rfl,Option.bind_some],rfl,h2,h3⟩
end Go.Proofs.Ytmiflmkdaeianaa
namespace Go.Proofs.Ytmiflmkdaeianaa
open Go.Fw
theorem oA{N A o n f:Nat}{v:List Nat}(hv:zL v)(hn:v.length=n)(hN:N≤100000000001)(ho:o+n<N)(hf:f≤4294967296)
  (hU:A/4294967296^o<4294967296^(n+1)):
  bK (dy 4294967296 N A) o (n+1) v f=some (decide (A/4294967296^o<vl v*f),dy 4294967296 N (A%4294967296^o+4294967296^o*((A/4294967296^o+4294967296^(n+1)-vl v*f)%4294967296^(n+1)))):=by
 obtain⟨hV,hlv⟩:=hv
 obtain⟨U,Ie⟩:∃U,A/4294967296^o=U:=⟨_,rfl⟩
 obtain⟨V,Ig⟩:∃V,vl v=V:=⟨_,rfl⟩
 have uc:V<4294967296^n:=by rw[←Ig,←hn];exact fD v hV
 have Fy:4294967296^(n+1)=4294967296^n*4294967296:=Nat.pow_succ ..
 have hT:V*f<4294967296^(n+1):=by
  rw[Fy]
  calc V*f≤V*4294967296:=Nat.mul_le_mul_left _ hf
   _<4294967296^n*4294967296:=Nat.mul_lt_mul_of_pos_right uc (by decide)
 rw[Ie]at hU⊢
 rw[Ig]
 obtain⟨X,hX⟩:∃X,U+4294967296^(n+1)-V*f=X:=⟨_,rfl⟩
 rw[hX]
 unfold bK
 simp only[bk]
 have OA:∀i,ua 4294967296 U (V*f) i≤1:=fun i=>HA (by decide) _ _ _
 refine bw (fun i=>(1-ua 4294967296 U (V*f) i,(i:Int),sC 4294967296 V f 0 i,dy 4294967296 N (mix 4294967296 o i X U A))) (n+1) (1-ua 4294967296 U (V*f) (n+1),dy 4294967296 N (mix 4294967296 o (n+1) X U A)) ?_ (fun i hi=>?_) ?_ ?_
 ·rw[Bd,DK,←Ie,Bj];rfl
 ·
  obtain⟨t,ht⟩:∃t,V*f/4294967296^i%4294967296=t:=⟨_,rfl⟩
  obtain⟨c,hc⟩:∃c,sC 4294967296 V f 0 i=c:=⟨_,rfl⟩
  obtain⟨p,hp⟩:∃p,V/4294967296^i%4294967296*f=p:=⟨_,rfl⟩
  have aeh:c<4294967296:=by
   rw[←hc,sC,sT,Nat.add_zero,Nat.div_lt_iff_lt_mul (Nat.pow_pos (by decide))]
   calc V%4294967296^i*f≤V%4294967296^i*4294967296:=Nat.mul_le_mul_left _ hf
    _<4294967296*4294967296^i:=by rw[Nat.mul_comm];exact Nat.mul_lt_mul_of_pos_left (Nat.mod_lt _ (Nat.pow_pos (by decide))) (by decide)
  have aei:p≤4294967295*4294967296:=by
   rw[←hp];exact Nat.mul_le_mul (by have:=Nat.mod_lt (V/4294967296^i) (show 0<4294967296 by decide);omega) hf
  have Ol:(p+c)%4294967296=t:=by rw[←hp,←hc,HB (B:=4294967296) (by decide),Nat.add_zero,ht]
  have hstep:(p+c)/4294967296=sC 4294967296 V f 0 (i+1):=by rw[←hp,←hc,DM (B:=4294967296) (by decide)]
  have aej:t<4294967296:=by rw[←ht];exact Nat.mod_lt _ (by decide)
  obtain⟨u,hu⟩:∃u,U/4294967296^i%4294967296=u:=⟨_,rfl⟩
  have Vi:u<4294967296:=by rw[←hu];exact Nat.mod_lt _ (by decide)
  have hg:(dy 4294967296 N (mix 4294967296 o i X U A))[o+i]? =some u:=by rw[jc (by omega),rj (by decide),hu]
  have hl:=OA i
  obtain⟨l,hle⟩:∃l,ua 4294967296 U (V*f) i=l:=⟨_,rfl⟩
  have hxd:(u+(4294967296-1-t)+l)%4294967296=X/4294967296^i%4294967296:=by rw[←hu,←ht,←hle,HG (B:=4294967296) (by decide) hi (by omega),hX]
  have hls:(u+(4294967296-1-t)+l)/4294967296=ua 4294967296 U (V*f) (i+1):=by rw[←hu,←ht,←hle,Be (B:=4294967296) (by decide)]
  rw[hle]at hl
  have hput:=zy (B:=4294967296) (by decide) o i X U A (N:=N) (by omega)
  rw[hle,hc,←hls]
  simp only[show decide ((i:Int)<((n+1:Nat):Int))=true by simp;omega,gD,bk,cz]
  rw[uI (by omega)]
  simp only[bk,hg]
  have way:∀k:Nat→Option ((Nat×Int×Nat×List Nat)⊕(Nat×List Nat)),(bif decide ((i:Int)<(v.length:Int))then(bJ v (i:Int)).bind fun eo=>k (eo%18446744073709551616*f%18446744073709551616)else k 0)=k p:=by
   intro k
   by_cases hin:i<v.length
   ·rw[show decide ((i:Int)<(v.length:Int))=true by simp;omega,gD]
    have xh:v[i]? =some (V/4294967296^i%4294967296):=by rw[←Ig];exact ku hV hin
    rw[aE xh,bk,Nat.mod_eq_of_lt (a:=V/4294967296^i%4294967296) (b:=18446744073709551616) (by have:=Nat.mod_lt (V/4294967296^i) (show 0<4294967296 by decide);omega),hp,Nat.mod_eq_of_lt (a:=p) (by omega)]
   ·rw[show decide ((i:Int)<(v.length:Int))=false by simp;omega,gU]
    have:V/4294967296^i=0:=Nat.div_eq_of_lt (Nat.lt_of_lt_of_le uc (Nat.pow_le_pow_right (by decide) (by omega)))
    rw[←hp,this];simp
  refine(way (fun y=>(aJ y c).bind _)).trans ?_
  rw[er _ _ (by omega)]
  simp only[bk]
  rw[Ol,hstep,Nat.mod_eq_of_lt (a:=u) (by omega),Nat.mod_eq_of_lt (a:=t) (by omega)]
  rw[iO (by rw[aL];omega),bk,bV (by omega),Vg]
  by_cases Ms:u<t+(1-l)
  ·have e1:j0 18446744073709551616 (j0 18446744073709551616 u t) (1-l)=18446744073709551616+u-t-(1-l):=by
    by_cases h1:u<t
    ·rw[uH h1 (by omega),mm (by omega) (by omega)]
    ·rw[mm (a:=u) (b:=t) (by omega) (by omega),uH (by omega) (by omega)];omega
   rw[e1]
   have e2:(18446744073709551616+u-t-(1-l))%4294967296=X/4294967296^i%4294967296:=by rw[←hxd];omega
   have e3:(18446744073709551616+u-t-(1-l))/9223372036854775808=1-(u+(4294967296-1-t)+l)/4294967296:=by omega
   rw[e2,e3,hput]
  ·have e1:j0 18446744073709551616 (j0 18446744073709551616 u t) (1-l)=u-t-(1-l):=by
    rw[mm (a:=u) (b:=t) (by omega) (by omega),mm (by omega) (by omega)]
   rw[e1]
   have e2:(u-t-(1-l))%4294967296=X/4294967296^i%4294967296:=by rw[←hxd];omega
   have e3:(u-t-(1-l))/9223372036854775808=1-(u+(4294967296-1-t)+l)/4294967296:=by omega
   rw[e2,e3,hput]
 ·simp
 ·simp only[bk]
  rw[kZ (by rw[aL,aL]),bk,Bi hU,JO (by decide) hU hT]
  congr 2
  by_cases h:U<V*f<;>simp[h]
end Go.Proofs.Ytmiflmkdaeianaa
namespace Go.Proofs.Ytmiflmkdaeianaa
open Go.Fw
theorem Vp{B V:Nat}(hB:0<B)(hV:0<V)(A k:Nat):A%(V*B^(k+1))/B^k<B*V:=by
 rw[Nat.div_lt_iff_lt_mul (Nat.pow_pos hB)]
 have:V*B^(k+1)=B*V*B^k:=by rw[Nat.pow_succ,Nat.mul_comm (B^k),←Nat.mul_assoc,Nat.mul_comm V]
 rw[←this]
 exact Nat.mod_lt _ (Nat.mul_pos hV (Nat.pow_pos hB))
theorem OB{B V:Nat}(A k:Nat):A%(V*B^(k+1))%B^k+B^k*(A%(V*B^(k+1))/B^k%V)=A%(V*B^k):=by
 rw[←Nat.mod_mul,Nat.mul_comm (B^k),Nat.mod_mod_of_dvd]
 rw[Nat.pow_succ,←Nat.mul_assoc];exact Nat.dvd_mul_right _ _
theorem OC{B V:Nat}(A k:Nat):A%(V*B^(k+1))/B^k/V=A/V/B^k%B:=by
 rw[Nat.div_div_eq_div_mul,Nat.mul_comm (B^k),Nat.pow_succ,←Nat.mul_assoc,Nat.mod_mul_right_div_self,Nat.div_div_eq_div_mul]
theorem HI{B:Nat}(hB:0<B){N k:Nat}(h:k<N)(Q:Nat):(dy B N (Q/B^(k+1)*B^(k+1))).set k (Q/B^k%B)=dy B N (Q/B^k*B^k):=by
 have hP:0<B^k:=Nat.pow_pos hB
 refine og hB h (Nat.mod_lt _ hB) ?_ ?_ ?_
 ·rw[Nat.mul_mod_left,Nat.pow_succ,Nat.mul_comm (B^k),←Nat.mul_assoc,Nat.mul_mod_left]
 ·rw[Nat.mul_div_cancel _ hP]
 ·rw[Nat.mul_div_cancel _ (Nat.pow_pos hB),Nat.pow_succ,←Nat.div_div_eq_div_mul,Nat.mul_div_cancel _ hP,Nat.div_div_eq_div_mul]
theorem DQ{α:Type}{l:List α}{o n:Nat}(h:o<l.length)(h':o+n≤l.length):MH l (o:Int) ((o+n:Nat):Int)=some (o,n):=by
 unfold MH
 rw[if_pos (by omega)]
 congr 2
 omega
theorem JP{U V g M:Nat}(hV:0<V)(h1:U/V≤g)(h2:g≤U/V+1)(hM:U<M)(hVM:V≤M):
  (V*g≤U∧g=U/V∧(U+M-V*g)%M=U%V)∨(U<V*g∧g=U/V+1∧U+M-V*g<M∧(U+M-V*g+V)%M=U%V):=by
 have hd:=Nat.div_add_mod U V
 have hm:=Nat.mod_lt U hV
 revert h1 h2 hd hm
 generalize U/V=q
 generalize U%V=r
 intro h1 h2 hd hm
 rcases Nat.lt_or_ge q g with h|h
 ·obtain rfl:g=q+1:=by omega
  have e:V*(q+1)=V*q+V:=Nat.mul_succ ..
  right
  refine⟨by omega,rfl,by omega,?_⟩
  rw[show U+M-V*(q+1)+V=r+M by omega,Nat.add_mod_right,Nat.mod_eq_of_lt (by omega)]
 ·obtain rfl:g=q:=by omega
  left
  refine⟨by omega,rfl,?_⟩
  rw[show U+M-V*g=r+M by omega,Nat.add_mod_right,Nat.mod_eq_of_lt (by omega)]
theorem JQ{R D e i:Nat}(hD:0<D)(he:4294967296=D*e):(R*D/4294967296^(i+1)%4294967296*4294967296+R*D/4294967296^i%4294967296)/D%4294967296=R/4294967296^i%4294967296:=by
 have h1:R*D/4294967296^(i+1)%4294967296*4294967296+R*D/4294967296^i%4294967296=R*D/4294967296^i%(4294967296*4294967296):=by
  rw[Nat.mod_mul,Nat.div_div_eq_div_mul,show 4294967296^i*4294967296=4294967296^(i+1)from(Nat.pow_succ ..).symm,Nat.add_comm,Nat.mul_comm 4294967296]
 have h2:(4294967296*4294967296:Nat)=D*(e*4294967296):=by
  rw[←Nat.mul_assoc,←he]
 rw[h1,h2,Nat.mod_mul_right_div_self,Nat.mod_mul_left_mod,Nat.div_div_eq_div_mul,Nat.mul_comm (4294967296^i) D,←Nat.div_div_eq_div_mul,Nat.mul_div_cancel _ hD]
theorem OD{B:Nat}(hB:0<B){N i R:Nat}(h:i<N):(dy B N (R%B^i)).set i (R/B^i%B)=dy B N (R%B^(i+1)):=by
 refine og hB h (Nat.mod_lt _ hB) ?_ ?_ ?_
 ·rw[Nat.mod_mod,Nat.mod_mod_of_dvd _ (Nat.pow_dvd_pow _ (Nat.le_succ i))]
 ·rw[Nat.pow_succ,Nat.mod_mul_right_div_self,Nat.mod_mod]
 ·rw[Nat.div_eq_of_lt (Nat.mod_lt _ (Nat.pow_pos hB)),Nat.div_eq_of_lt]
  exact Nat.lt_of_lt_of_le (Nat.mod_lt _ (Nat.pow_pos hB)) (Nat.pow_le_pow_right hB (Nat.le_succ i))
theorem CG(a b:List Nat)(ha:zL a)(hb:zL b){n:Nat}(hn:b.length=n+2)(hl:b.length≤a.length)(CF:b[n+1]? ≠some 0):
  fo a b=some (dy 4294967296 (a.length-b.length+1) (vl a/vl b),dy 4294967296 b.length (vl a%vl b)):=by
 obtain⟨hA,hla⟩:=ha
 obtain⟨hB,hlb⟩:=hb
 have hP:∀k,0<4294967296^k:=fun k=>Nat.pow_pos (by decide)
 obtain⟨Va,hVa⟩:∃V,vl a=V:=⟨_,rfl⟩
 obtain⟨Vb,hVb⟩:∃V,vl b=V:=⟨_,rfl⟩
 have OE:Vb<4294967296^(n+2):=by rw[←hVb,←hn];exact fD b hB
 have halt:Va<4294967296^a.length:=by rw[←hVa];exact fD a hA
 have Bm:4294967296^(n+2)=4294967296^(n+1)*4294967296:=Nat.pow_succ ..
 obtain⟨x,hx⟩:∃x,Vb/4294967296^(n+1)=x:=⟨_,rfl⟩
 have Vq:x<4294967296:=by rw[←hx,Nat.div_lt_iff_lt_mul (hP _)];rw[Bm,Nat.mul_comm]at OE;exact OE
 have Xi:b[n+1]? =some x:=by rw[ku hB (by omega),show val 4294967296 b=Vb from hVb,hx,Nat.mod_eq_of_lt Vq]
 have hx0:x≠0:=fun e=>CF (by rw[Xi,e])
 obtain⟨s,O4,D1,hs3,hs4⟩:=Ve x Vq hx0
 have Oe:0<2^s:=Nat.two_pow_pos s
 have Vr:2^s<4294967296:=by
  have:2^s<2^32:=Nat.pow_lt_pow_right (by decide) D1
  rw[two32]at this;exact this
 obtain⟨D,hD⟩:∃D,2^s=D:=⟨_,rfl⟩
 rw[hD]at hs3 hs4 Oe Vr
 obtain⟨V,hV⟩:∃V,Vb*D=V:=⟨_,rfl⟩
 obtain⟨A,Xk⟩:∃A,Va*D=A:=⟨_,rfl⟩
 have uc:V<4294967296^(n+2):=by
  have h1:Vb<(x+1)*4294967296^(n+1):=by rw[←hx,Nat.add_mul,Nat.one_mul];exact Nat.lt_div_mul_add (hP _)
  have h2:(x+1)*D≤4294967296:=by
   obtain⟨e,he⟩:∃e,4294967296=D*e:=⟨2^(32-s),by rw[←hD,←Nat.pow_add,show s+(32-s)=32 by omega,two32]⟩
   have h3:x<e:=by
    apply Nat.lt_of_mul_lt_mul_left (a:=D)
    rw[←he,Nat.mul_comm];exact hs4
   calc (x+1)*D≤e*D:=Nat.mul_le_mul_right _ h3
    _=4294967296:=by rw[Nat.mul_comm,←he]
  rw[←hV,Bm]
  calc Vb*D<(x+1)*4294967296^(n+1)*D:=Nat.mul_lt_mul_of_pos_right h1 Oe
   _=4294967296^(n+1)*((x+1)*D):=by rw[Nat.mul_comm (x+1),Nat.mul_assoc]
   _≤4294967296^(n+1)*4294967296:=Nat.mul_le_mul_left _ h2
 have HJ:2147483648*4294967296^(n+1)≤V:=by
  have h1:x*4294967296^(n+1)≤Vb:=by rw[←hx];exact Nat.div_mul_le_self _ _
  rw[←hV]
  calc 2147483648*4294967296^(n+1)≤x*D*4294967296^(n+1):=Nat.mul_le_mul_right _ hs3
   _=x*4294967296^(n+1)*D:=by rw[Nat.mul_assoc,Nat.mul_comm D,←Nat.mul_assoc]
   _≤Vb*D:=Nat.mul_le_mul_right _ h1
 have Ox:0<V:=Nat.lt_of_lt_of_le (Nat.mul_pos (by decide) (hP _)) HJ
 have hb0:0<Vb:=by
  rcases Nat.eq_zero_or_pos Vb with h|h
  ·rw[←hV,h,Nat.zero_mul]at Ox;omega
  ·exact h
 have hAV:A/V=Va/Vb:=by rw[←Xk,←hV,Nat.mul_div_mul_right _ _ Oe]
 have abd:A%V=Va%Vb*D:=by rw[←Xk,←hV,Nat.mul_mod_mul_right]
 obtain⟨K,hK⟩:∃K,a.length=K+(n+2):=⟨a.length-(n+2),by omega⟩
 have Vs:A<V*4294967296^(K+1):=by
  have h1:4294967296^(n+1)≤Vb:=by
   have:1*4294967296^(n+1)≤x*4294967296^(n+1):=Nat.mul_le_mul_right _ (by omega)
   have h2:x*4294967296^(n+1)≤Vb:=by rw[←hx];exact Nat.div_mul_le_self _ _
   omega
  rw[←Xk,←hV]
  calc Va*D<4294967296^a.length*D:=Nat.mul_lt_mul_of_pos_right halt Oe
   _=4294967296^(n+1)*4294967296^(K+1)*D:=by rw[hK,←Nat.pow_add];congr 2;omega
   _≤Vb*4294967296^(K+1)*D:=Nat.mul_le_mul_right _ (Nat.mul_le_mul_right _ h1)
   _=Vb*D*4294967296^(K+1):=by rw[Nat.mul_assoc,Nat.mul_comm _ D,←Nat.mul_assoc]
 obtain⟨v,Xl⟩:∃v,dy 4294967296 (n+2) V=v:=⟨_,rfl⟩
 have hvl:v.length=n+2:=by rw[←Xl,aL]
 have hvW:zL v:=⟨fun y hy=>by rw[←Xl]at hy;exact jm (by decide) _ _ _ hy,by omega⟩
 have Vt:vl v=V:=by rw[←Xl];show val _ _=_;rw[iu,Nat.mod_eq_of_lt uc]
 have Vu:List.take b.length (dy 4294967296 (b.length+1) (Vb*2^s))=v:=by
  rw[hD,hV,hn,jU,List.take_append_of_le_length (by rw[aL];omega),List.take_of_length_le (by rw[aL];omega),Xl]
 unfold fo
 simp only[bk]
 rw[show((b.length:Nat):Int)-1=((n+1:Nat):Int) by omega,mh (by omega),aE Xi,bk,O4,bk]
 rw[show((s:Int)%18446744073709551616).toNat=s by rw[Int.emod_eq_of_lt (by omega) (by omega)];simp]
 rw[xd,shiftLeft_eq a s ⟨hA,hla⟩ D1,bk,shiftLeft_eq b s ⟨hB,hlb⟩ D1,bk,xO (by rw[aL];omega),bk]
 obtain⟨Q,hQ⟩:∃Q,A/V=Q:=⟨_,rfl⟩
 have abf:Q<4294967296^(K+1):=by rw[←hQ,Nat.div_lt_iff_lt_mul Ox,Nat.mul_comm];exact Vs
 rw[hVa,hVb,←hAV,hQ,Vu,hD,Xk,hn]
 rw[show a.length-(n+2)+1=K+1 by omega]
 rw[dg (x:=(a.length:Int)-((n+2:Nat):Int)) (by omega) (by omega),dg (x:=(a.length:Int)-((n+2:Nat):Int)+1) (by omega) (by omega),show(a.length:Int)-((n+2:Nat):Int)+1=((K+1:Nat):Int) by omega,sn (by decide) (by omega),bk,show(a.length:Int)-((n+2:Nat):Int)=(K:Int) by omega]
 refine bw (fun j=>((K:Int)-(j:Int),dy 4294967296 (K+1) (Q/4294967296^(K+1-j)*4294967296^(K+1-j)),dy 4294967296 (a.length+1) (A%(V*4294967296^(K+1-j))))) (K+1) (dy 4294967296 (K+1) Q,dy 4294967296 (a.length+1) (A%V)) ?_ (fun j hj=>?_) ?_ ?_
 ·rw[show K+1-0=K+1 by omega,Nat.mod_eq_of_lt Vs,Nat.div_eq_of_lt abf,Nat.zero_mul,nJ];simp
 ·
  obtain⟨k,hk⟩:∃k,K=k+j:=⟨K-j,by omega⟩
  rw[show K+1-j=k+1 by omega,show K+1-(j+1)=k by omega,show(K:Int)-(j:Int)=(k:Int) by omega,show(K:Int)-((j+1:Nat):Int)=(k:Int)-1 by omega]
  have hU:=Vp (B:=4294967296) (by decide) Ox A k
  have JR:=OB (B:=4294967296) (V:=V) A k
  have OF:=OC (B:=4294967296) (V:=V) A k
  obtain⟨N,hN⟩:∃N,a.length+1=N:=⟨_,rfl⟩
  obtain⟨A1,hA1⟩:∃A1,A%(V*4294967296^(k+1))=A1:=⟨_,rfl⟩
  rw[hN]
  rw[hA1]at hU JR OF⊢
  rw[hQ]at OF
  obtain⟨⟨g,lg⟩,hge,hgl,Xm,Ia⟩:=Bl (N:=N) (A:=A1) (o:=k) (n:=n) (v:=v) hvW hvl (by omega) (by omega) (by rw[Vt];exact hU) (by rw[Vt];exact HJ)
  simp only at hgl Xm Ia
  rw[Vt]at Xm Ia
  subst hgl
  have hsub:=oA (N:=N) (A:=A1) (o:=k) (n:=n+2) (v:=v) (f:=g) hvW hvl (by omega) (by omega) ?_ ?_
  ·rw[Vt]at hsub
   obtain⟨U,Ie⟩:∃U,A1/4294967296^k=U:=⟨_,rfl⟩
   rw[Ie]at hU JR OF Xm Ia hsub
   have JS:4294967296^(n+2+1)=4294967296^(n+2)*4294967296:=Nat.pow_succ ..
   have hUM:U<4294967296^(n+2+1):=by
    have:4294967296*V<4294967296*4294967296^(n+2):=Nat.mul_lt_mul_of_pos_left uc (by decide)
    rw[JS];omega
   have AZ:=JP (M:=4294967296^(n+2+1)) Ox Xm Ia hUM (by rw[JS];omega)
   have Pt:U/V<4294967296:=by rw[OF];exact Nat.mod_lt _ (by decide)
   rw[show decide ((0:Int)≤(k:Int))=true by simp,gD]
   rw[oc (by omega),bV (by omega),show k+(n+2)+1=k+(n+3) by omega,DQ (by rw[aL];omega) (by rw[aL];omega),bk,hge,bk,kZ rfl,bk,DQ (by rw[aL];omega) (by rw[aL];omega),bk]
   show(Option.bind (bK _ k (n+2+1) v g) _)=_
   rw[hsub,bk,kZ (by rw[aL,aL]),bk]
   simp only[cz]
   rcases AZ with⟨hc1,BD,Vv⟩|⟨hc1,BD,Vv,hc4⟩
   ·rw[show decide (U<V*g)=false by simp;omega,gU,Vv,JR,BD,Nat.mod_eq_of_lt Pt,OF,dx (by rw[aL];omega),bk,iO (by rw[aL];omega),bk,HI (by decide) (by omega),dg (by omega) (by omega)]
   ·rw[show decide (U<V*g)=true by simp;omega,gD,mm (by omega) (by omega),show g-1=U/V by omega,Nat.mod_eq_of_lt Pt,OF]
    rw[Nat.mod_eq_of_lt Vv]
    obtain⟨Y,hY⟩:∃Y,U+4294967296^(n+2+1)-V*g=Y:=⟨_,rfl⟩
    rw[hY]at Vv hc4⊢
    obtain⟨A2,hA2⟩:∃A2,A1%4294967296^k+4294967296^k*Y=A2:=⟨_,rfl⟩
    rw[hA2]
    have hw2:A2/4294967296^k=Y:=by rw[←hA2,Nat.add_mul_div_left _ _ (hP k),Nat.div_eq_of_lt (Nat.mod_lt _ (hP k)),Nat.zero_add]
    have Ff:A2%4294967296^k=A1%4294967296^k:=by rw[←hA2,Nat.add_mul_mod_self_left,Nat.mod_mod]
    have hcr:∀i,zK 4294967296 Y V i≤1:=fun i=>CD (by decide) _ _ _
    refine bw (fun i=>((i:Int),zK 4294967296 Y V i,dy 4294967296 N (mix 4294967296 k i (Y+V) Y A2))) (n+2) (zK 4294967296 Y V (n+2),dy 4294967296 N (mix 4294967296 k (n+2) (Y+V) Y A2)) ?_ (fun i hi=>?_) ?_ ?_
    ·rw[Bc,←hw2,Bj];rfl
    ·have xh:v[i]? =some (V/4294967296^i%4294967296):=by rw[←Vt];exact ku hvW.1 (by omega)
     have hgu:(dy 4294967296 N (mix 4294967296 k i (Y+V) Y A2))[k+i]? =some (Y/4294967296^i%4294967296):=by rw[jc (by omega),rj (by decide)]
     have O4:=Bb (B:=4294967296) (by decide) Y V i
     have D1:=zu (B:=4294967296) (by decide) Y V i
     have hput:=zy (B:=4294967296) (by decide) k i (Y+V) Y A2 (N:=N) (by omega)
     have hci:=hcr i
     have hv1:=Nat.mod_lt (V/4294967296^i) (show 0<4294967296 by decide)
     have PB:=Nat.mod_lt (Y/4294967296^i) (show 0<4294967296 by decide)
     simp only[show decide ((i:Int)<(v.length:Int))=true by simp;omega,gD]
     rw[aE xh,bk,oc (by omega),dx (by rw[aL];omega),bk,hgu,bk,Nat.mod_eq_of_lt (a:=Y/4294967296^i%4294967296) (b:=18446744073709551616) (by omega),Nat.mod_eq_of_lt (a:=V/4294967296^i%4294967296) (b:=18446744073709551616) (by omega),Nat.mod_eq_of_lt (b:=18446744073709551616) (by omega),er _ _ (by omega),bk,bk,iO (by rw[aL];omega),bk,bV (by omega)]
     rw[O4,D1,hput]
    ·simp[hvl]
    ·have hgu:(dy 4294967296 N (mix 4294967296 k (n+2) (Y+V) Y A2))[k+(n+2)]? =some (Y/4294967296^(n+2)%4294967296):=by rw[jc (by omega),rj (by decide)]
     have D1:=zu (B:=4294967296) (by decide) Y V (n+2)
     have hput:=zy (B:=4294967296) (by decide) k (n+2) (Y+V) Y A2 (N:=N) (by omega)
     have hci:=hcr (n+2)
     have PB:=Nat.mod_lt (Y/4294967296^(n+2)) (show 0<4294967296 by decide)
     rw[Nat.div_eq_of_lt uc,Nat.zero_mod,Nat.add_zero]at D1
     simp only[]
     rw[dx (by rw[aL];omega),bk,hgu,bk,Nat.mod_eq_of_lt (a:=Y/4294967296^(n+2)%4294967296) (b:=18446744073709551616) (by omega),er _ _ (by omega),bk,bk,iO (by rw[aL];omega),bk,D1,hput,Bi Vv,Ff,hc4,JR,dx (by rw[aL];omega),bk,iO (by rw[aL];omega),bk,HI (by decide) (by omega),dg (by omega) (by omega)]
  ·
   have Pt:A1/4294967296^k/V<4294967296:=by rw[OF];exact Nat.mod_lt _ (by decide)
   omega
  ·have JS:4294967296^(n+2+1)=4294967296^(n+2)*4294967296:=Nat.pow_succ ..
   have:4294967296*V<4294967296*4294967296^(n+2):=Nat.mul_lt_mul_of_pos_left uc (by decide)
   rw[JS];omega
 ·rw[show K+1-(K+1)=0 by omega,Nat.pow_zero,Nat.mul_one,Nat.mul_one,Nat.div_one,show decide (0≤(K:Int)-((K+1:Nat):Int))=false by simp;omega,gU]
 ·
  obtain⟨R,hR⟩:∃R,Va%Vb=R:=⟨_,rfl⟩
  rw[abd,hR]
  have abi:R<4294967296^(n+2):=by rw[←hR];exact Nat.lt_trans (Nat.mod_lt _ hb0) OE
  rw[sn (by decide) (by omega),bk]
  refine bw (fun i=>((i:Int),dy 4294967296 (n+2) (R%4294967296^i))) (n+2) (dy 4294967296 (n+2) R) ?_ (fun i hi=>?_) ?_ rfl
  ·rw[Nat.pow_zero,Nat.mod_one,nJ];rfl
  ·obtain⟨e,he⟩:∃e,4294967296=D*e:=⟨2^(32-s),by rw[←hD,←Nat.pow_add,show s+(32-s)=32 by omega,two32]⟩
   have Vw:=JQ (R:=R) (i:=i) Oe he
   obtain⟨u,hu⟩:∃u,R*D/4294967296^i%4294967296=u:=⟨_,rfl⟩
   obtain⟨w,hw⟩:∃w,R*D/4294967296^(i+1)%4294967296=w:=⟨_,rfl⟩
   have Xz:u<4294967296:=by rw[←hu];exact Nat.mod_lt _ (by decide)
   have hw1:w<4294967296:=by rw[←hw];exact Nat.mod_lt _ (by decide)
   rw[hu,hw]at Vw
   simp only[show decide ((i:Int)<((n+2:Nat):Int))=true by simp;omega,gD]
   rw[dx (by rw[aL];omega),bk,jc (by omega),bk,hu,bV (by omega),dx (by rw[aL];omega),bk,jc (by omega),bk,hw,Nat.mod_eq_of_lt (a:=u) (by omega),Nat.mod_eq_of_lt (a:=w) (by omega),two32,Nat.mod_eq_of_lt (a:=w*4294967296) (by omega),Nat.or_comm,DO Xz,Nat.mod_eq_of_lt (a:=w*4294967296+u) (by omega),show min s 64=s by omega,hD,Vw,dx (by rw[aL];omega),bk,iO (by rw[aL];omega),bk]
   rw[OD (by decide) hi]
  ·rw[Nat.mod_eq_of_lt abi];simp
end Go.Proofs.Ytmiflmkdaeianaa
namespace Go.Proofs.Ytmiflmkdaeianaa
open Go.Fw
def sv(n:Bool)(v:Nat):Int:=bif n then-(v:Int)else v
def zi(z:Zr):Int:=sv z.neg (vl z.w)
def zn(i:Int):Zr:=⟨decide (i<0),can 4294967296 i.natAbs⟩
def Wl(z:Zr):Prop:=(∀x∈z.w,x<4294967296)∧z.w.length≤10000000000
def Fit(L:Nat)(i:Int):Prop:=i.natAbs<4294967296^L
theorem HK(n:Bool)(v:Nat):(sv n v).natAbs=v:=by cases n<;>simp[sv]
theorem zB(z:Zr):(zi z).natAbs=vl z.w:=HK _ _
theorem OG(n:Bool)(v:Nat):decide (sv n v<0)=(n&&v != 0):=by
 cases n
 ·have:¬((v:Int)<0):=by omega
  simp[sv,this]
 ·rcases v with _|v
  ·simp[sv]
  ·simp[sv]
theorem kx(n:Bool)(v:Nat):zc n v=zn (sv n v):=by rw[zc,zn,OG,HK]
theorem JU(i:Int):sv (decide (i<0)) i.natAbs=i:=by
 by_cases h:i<0
 ·rw[show decide (i<0)=true by simp[h]];simp[sv];omega
 ·rw[show decide (i<0)=false by simp[h]];simp[sv];omega
theorem bG(i:Int):zi (zn i)=i:=by
 show sv (decide (i<0)) (vl (can 4294967296 i.natAbs))=i
 rw[show vl (can 4294967296 i.natAbs)=i.natAbs from mw (by decide) _,JU]
theorem zC(n:Bool)(v:Nat):sv (!n) v=-sv n v:=by cases n<;>simp[sv]
theorem jV(v:Nat):sv false v=v:=rfl
theorem Fit.mono{L M:Nat}{i:Int}(h:Fit L i)(hl:L≤M):Fit M i:=Nat.lt_of_lt_of_le h (Nat.pow_le_pow_right (by decide) hl)
theorem Fit.neg{L:Nat}{i:Int}(h:Fit L i):Fit L (-i):=by unfold Fit at*;rw[Int.natAbs_neg];exact h
theorem Fit.add{L:Nat}{i j:Int}(h:Fit L i)(h':Fit L j):Fit (L+1) (i+j):=by
 unfold Fit at*
 have:=Int.natAbs_add_le i j
 rw[Nat.pow_succ];omega
theorem Fit.sub{L:Nat}{i j:Int}(h:Fit L i)(h':Fit L j):Fit (L+1) (i-j):=by
 rw[Int.sub_eq_add_neg];exact h.add h'.neg
theorem Fit.mul{L M:Nat}{i j:Int}(h:Fit L i)(h':Fit M j):Fit (L+M) (i*j):=by
 unfold Fit at*
 rw[Int.natAbs_mul,Nat.pow_add]
 exact Nat.mul_lt_mul'' h h'
theorem Fit.i64{i:Int}(h: -9223372036854775808≤i)(h':i≤9223372036854775807):Fit 2 i:=by
 unfold Fit;rw[show(4294967296:Nat)^2=18446744073709551616 by decide];omega
theorem Fit.le{L:Nat}{i j:Int}(h:Fit L i)(h':j.natAbs≤i.natAbs):Fit L j:=Nat.lt_of_le_of_lt h' h
theorem di{L:Nat}{i:Int}(h:Fit L i)(hL:L≤10000000000):Wl (zn i):=
 ⟨fun _ hx=>iv (by decide) hx,Nat.le_trans ((cM (by decide)).2 h) hL⟩
theorem Wl.fit{z:Zr}(h:Wl z):Fit z.w.length (zi z):=by
 unfold Fit;rw[zB];exact fD z.w h.1
theorem Wl.lt{z:Zr}(h:Wl z):vl z.w<4294967296^z.w.length:=fD z.w h.1
theorem Wl.cl{z:Zr}(h:Wl z):(can 4294967296 (vl z.w)).length≤10000000000:=
 Nat.le_trans ((cM (by decide)).2 (Wl.lt h)) h.2
theorem Wl.trim{z:Zr}(h:Wl z):ay z.w=some (can 4294967296 (vl z.w)):=by
 rw[uM _ (by have:=h.2;omega),k8 (by decide) h.1]
theorem ek{v:Nat}(h:(can 4294967296 v).length≤10000000001):zL (can 4294967296 v):=⟨fun _ hx=>iv (by decide) hx,by omega⟩
theorem cW(v:Nat):vl (can 4294967296 v)=v:=mw (by decide) v
theorem dQ{v:Nat}:((can 4294967296 v).length:Int)≤2↔v<18446744073709551616:=by
 have:=cM (B:=4294967296) (by decide) (v:=v) (n:=2)
 rw[show(4294967296:Nat)^2=18446744073709551616 by decide]at this
 omega
theorem iw{v:Nat}:((can 4294967296 v).length:Int)≤1↔v<4294967296:=by
 have:=cM (B:=4294967296) (by decide) (v:=v) (n:=1)
 rw[show(4294967296:Nat)^1=4294967296 by decide]at this
 omega
theorem lp{v:Nat}:(can 4294967296 v).length=0↔v=0:=by
 constructor
 ·intro h;exact zo (by decide) (List.length_eq_zero_iff.1 h)
 ·intro h;rw[h,nL];rfl
theorem rm(l:List Nat)(h:l.length≤1000000000000):cq l=some l:=by
 unfold cq;rw[aa0 (by decide) (by simp;omega)];simp
end Go.Proofs.Ytmiflmkdaeianaa
namespace Go.Proofs.Ytmiflmkdaeianaa
open Go.Fw
theorem Bn(a b:Nat):decide (xb a b<0)=decide (a<b):=by
 rcases Nat.lt_trichotomy a b with h|h|h
 ·rw[rf h];simp[h]
 ·rw[h,zx];simp
 ·rw[uL h];simp;omega
theorem tC(a b:Nat)(ha:(can 4294967296 a).length≤10000000000)(hb:(can 4294967296 b).length≤10000000000)(h0:b≠0):
  ∃q r,dJ (can 4294967296 a) (can 4294967296 b)=some (q,r)∧zL q∧vl q=a/b∧zL r∧vl r=a%b∧q.length≤10000000001∧r.length≤10000000001:=by
 unfold dJ
 rw[gJ a b (by omega) (by omega)]
 simp only[bk]
 by_cases hlt:a<b
 ·rw[rf hlt]
  simp only[show decide ((-1:Int)<0)=true by decide,gD]
  rw[rm _ (by omega)]
  refine⟨_,_,rfl,⟨by simp,by simp⟩,?_,ek (by omega),?_,by simp,by omega⟩
  ·rw[Nat.div_eq_of_lt hlt];rfl
  ·rw[cW,Nat.mod_eq_of_lt hlt]
 ·rw[Bn,show decide (a<b)=false by simp[hlt]]
  simp only[gU]
  by_cases h2:a<18446744073709551616
  ·rw[show decide (((can 4294967296 a).length:Int)≤2)=true by rw[decide_eq_true_eq];exact dQ.2 h2]
   have Fv:b<18446744073709551616:=by omega
   simp only[gD]
   have l1:=low_eq (can 4294967296 a) (fun _ hx=>iv (by decide) hx) (by have:=dQ.2 h2;omega)
   have l2:=low_eq (can 4294967296 b) (fun _ hx=>iv (by decide) hx) (by have:=dQ.2 Fv;omega)
   rw[cW]at l1 l2
   rw[l1,bk,l2,bk,zk h0 h2,bk,lj _ _ (Nat.lt_of_le_of_lt (Nat.div_le_self _ _) h2),bk,uJ h0,bk,lj _ _ (Nat.lt_of_le_of_lt (Nat.mod_le _ _) h2),bk]
   have hq:a/b<18446744073709551616:=Nat.lt_of_le_of_lt (Nat.div_le_self _ _) h2
   have hr:a%b<18446744073709551616:=Nat.lt_of_le_of_lt (Nat.mod_le _ _) h2
   have c1:=dQ.2 hq
   have c2:=dQ.2 hr
   exact⟨_,_,rfl,ek (by omega),cW _,ek (by omega),cW _,by show(can _ _).length≤_;omega,by show(can _ _).length≤_;omega⟩
  ·rw[show decide (((can 4294967296 a).length:Int)≤2)=false by rw[decide_eq_false_iff_not];exact fun h=>h2 (dQ.1 h)]
   simp only[gU]
   have sL:(can 4294967296 b).length≠0:=fun h=>h0 (lp.1 h)
   by_cases h1:b<4294967296
   ·have h1':=iw.2 h1
    rw[show decide (((can 4294967296 b).length:Int)=1)=true by simp;omega,gD]
    have hg:(can 4294967296 b)[0]? =some b:=by rw[zq (by decide) (by omega)];simp;exact h1
    rw[rm _ (by omega),bk,oe hg,bk,Nat.mod_eq_of_lt (b:=18446744073709551616) (by omega),Bh _ _ (ek (by omega)) (by omega) (by omega),bk,cW]
    simp only[]
    rw[kZ (by rw[aL]),bk]
    have hm:a%b<b:=Nat.mod_lt _ (by omega)
    rw[Nat.mod_eq_of_lt (a:=a%b) (by omega)]
    refine⟨_,_,rfl,⟨fun x hx=>jm (by decide) _ _ _ hx,by rw[aL];omega⟩,?_,⟨?_,by simp⟩,?_,by rw[aL];omega,by simp⟩
    ·show val _ _=_
     rw[iu,Nat.mod_eq_of_lt (Nat.lt_of_le_of_lt (Nat.div_le_self _ _) (cC (by decide) a))]
    ·intro x hx;simp at hx;omega
    ·simp[vl,val]
   ·have h1':¬(((can 4294967296 b).length:Int)≤1):=fun h=>h1 (iw.1 h)
    rw[show decide (((can 4294967296 b).length:Int)=1)=false by simp;omega,gU]
    obtain⟨n,hn⟩:∃n,(can 4294967296 b).length=n+2:=⟨(can 4294967296 b).length-2,by omega⟩
    have hl:(can 4294967296 b).length≤(can 4294967296 a).length:=(cM (by decide)).2 (Nat.lt_of_le_of_lt (by omega) (cC (by decide) a))
    obtain⟨l,x,hx,he⟩:=Ba (B:=4294967296) (by decide) h0
    have CF:(can 4294967296 b)[n+1]? ≠some 0:=by
     have:l.length=n+1:=by rw[he]at hn;simp at hn;omega
     rw[he,←this];simp;exact hx
    rw[CG _ _ (ek (by omega)) (ek (by omega)) hn hl CF,bk,cW,cW]
    have hbp:0<b:=by omega
    have e1:a<4294967296^(can 4294967296 a).length:=cC (by decide) a
    have e2:b<4294967296^(can 4294967296 b).length:=cC (by decide) b
    have e3:4294967296^(n+1)≤b:=oT (by decide) (by omega)
    refine⟨_,_,rfl,⟨fun x hx=>jm (by decide) _ _ _ hx,by rw[aL];omega⟩,?_,⟨fun x hx=>jm (by decide) _ _ _ hx,by rw[aL];omega⟩,?_,by rw[aL];omega,by rw[aL];omega⟩
    ·show val _ _=_
     rw[iu,Nat.mod_eq_of_lt]
     rw[Nat.div_lt_iff_lt_mul hbp]
     have:4294967296^((can 4294967296 a).length-(can 4294967296 b).length+1)*4294967296^(n+1)=4294967296^(can 4294967296 a).length:=by rw[←Nat.pow_add];congr 1;omega
     calc a<4294967296^((can 4294967296 a).length-(can 4294967296 b).length+1)*4294967296^(n+1):=by rw[this];exact e1
      _≤_:=Nat.mul_le_mul_left _ e3
    ·show val _ _=_
     rw[iu,Nat.mod_eq_of_lt (Nat.lt_trans (Nat.mod_lt _ hbp) e2)]
end Go.Proofs.Ytmiflmkdaeianaa
namespace Go.Proofs.Ytmiflmkdaeianaa
open Go.Fw
theorem eu{x:Int}(h1: -9223372036854775808≤x)(h2:x≤9223372036854775807):aC x=some (zn x):=by
 unfold aC
 simp only[bk,cz]
 by_cases hx:x<0
 ·have e:(x%18446744073709551616).toNat=18446744073709551616-x.natAbs:=by omega
  rw[show decide (x<0)=true by simp[hx],gD,e,uH (by omega) (by omega),show 18446744073709551616+0-(18446744073709551616-x.natAbs)=x.natAbs by omega,lj _ _ (by omega),bk,kx,show sv true x.natAbs=x by simp[sv];omega]
 ·have e:(x%18446744073709551616).toNat=x.natAbs:=by omega
  rw[show decide (x<0)=false by simp[hx],gU,e,lj _ _ (by omega),bk,kx,show sv false x.natAbs=x by simp[sv];omega]
def c8(i:Int):Prop:=-9223372036854775808≤i∧i≤9223372036854775807
instance(i:Int):Decidable (c8 i):=by unfold c8;infer_instance
def nM(i:Int):Int×Bool:=if c8 i then(i,true)else(0,false)
theorem jW{z:Zr}(h:Wl z):bW z=some (nM (zi z)):=by
 obtain⟨n,w⟩:=z
 unfold bW
 have ht:=h.trim
 have abj:vl w<18446744073709551616→cf (can 4294967296 (vl w))=some (vl w):=fun h2=>by
  rw[low_eq _ (fun _ hx=>iv (by decide) hx) (by have:=dQ.2 h2;omega),cW]
 show(ay w).bind _=some (nM (sv n (vl w)))
 rw[show ay w=some (can 4294967296 (vl w))from ht]
 simp only[bk]
 generalize vl w=v at*
 by_cases h2:v<18446744073709551616
 ·have:=dQ.2 h2
  rw[show decide ((2:Int)<((can 4294967296 v).length:Int))=false by simp;omega,gU,abj h2,bk]
  cases n
  ·rw[gU,jV]
   by_cases h3:v<9223372036854775808
   ·rw[show decide (9223372036854775808≤v)=false by simp;omega,gU,mh (by omega),nM,if_pos (by unfold c8;omega)]
   ·rw[show decide (9223372036854775808≤v)=true by simp;omega,gD,nM,if_neg (by unfold c8;omega)]
  ·rw[gD,show sv true v=-(v:Int)from rfl]
   by_cases h3:9223372036854775808<v
   ·rw[show decide (9223372036854775808<v)=true by simp;omega,gD,nM,if_neg (by unfold c8;omega)]
   ·rw[show decide (9223372036854775808<v)=false by simp;omega,gU,nM,if_pos (by unfold c8;omega)]
    by_cases h0:v=0
    ·subst h0;rfl
    ·rw[uH (by omega) (by omega)]
     rw[show IntKind.i64.wrap ((18446744073709551616+0-v:Nat):Int)=-(v:Int) by
      rw[IntKind.wrap];simp[IntKind.signed,IntKind.bits];omega]
 ·have:¬(((can 4294967296 v).length:Int)≤2):=fun h=>h2 (dQ.1 h)
  rw[show decide ((2:Int)<((can 4294967296 v).length:Int))=true by simp;omega,gD,nM,if_neg (by unfold c8;cases n<;>simp[sv]<;>omega)]
theorem sign_eq{z:Zr}(h:Wl z):b7 z=some (zi z).sign:=by
 obtain⟨n,w⟩:=z
 unfold b7
 show(ay w).bind _=some (sv n (vl w)).sign
 rw[show ay w=some (can 4294967296 (vl w))from h.trim]
 simp only[bk]
 generalize vl w=v
 by_cases h0:v=0
 ·subst h0;cases n<;>rfl
 ·have:(can 4294967296 v).length≠0:=fun h=>h0 (lp.1 h)
  rw[show decide (((can 4294967296 v).length:Int)=0)=false by simp;intro e;rw[e]at this;exact this rfl,gU]
  cases n
  ·rw[gU,jV,Int.sign_eq_one_of_pos (by omega)]
  ·rw[gD,show sv true v=-(v:Int)from rfl,Int.sign_eq_neg_one_of_neg (by omega)]
def my(i j:Int):Int:=if i<j then-1 else if i=j then 0 else 1
theorem jB{i j:Int}(h:i<j):my i j=-1:=by simp[my,h]
theorem jC{i j:Int}(h:j<i):my i j=1:=by
 have h1:¬i<j:=by omega
 have h2:¬i=j:=by omega
 simp[my,h1,h2]
theorem su(i:Int):my i i=0:=by simp[my]
theorem Bo(v w:Nat):xb v w=my (v:Int) (w:Int):=by
 rcases Nat.lt_trichotomy v w with h|h|h
 ·rw[rf h,jB (by omega)]
 ·rw[h,zx,su]
 ·rw[uL h,jC (by omega)]
theorem HL(i j:Int):my (-i) (-j)=my j i:=by
 rcases Int.lt_trichotomy i j with h|h|h
 ·rw[jC h,jC (by omega)]
 ·rw[h,su,su]
 ·rw[jB h,jB (by omega)]
theorem OH{x y:Zr}(hx:Wl x)(hy:Wl y):iX x y=some (my (zi x) (zi y)):=by
 obtain⟨n,w⟩:=x
 obtain⟨m,u⟩:=y
 unfold iX
 show(b7 ⟨n,w⟩).bind _=_
 rw[sign_eq hx,bk]
 show(b7 ⟨m,u⟩).bind _=_
 rw[sign_eq hy,bk,show ay w=some (can 4294967296 (vl w))from hx.trim,show ay u=some (can 4294967296 (vl u))from hy.trim]
 simp only[bk]
 rw[gJ _ _ (Nat.le_trans hx.cl (by decide)) (Nat.le_trans hy.cl (by decide)),gJ _ _ (Nat.le_trans hy.cl (by decide)) (Nat.le_trans hx.cl (by decide))]
 simp only[bk]
 rw[show zi ⟨n,w⟩=sv n (vl w)from rfl,show zi ⟨m,u⟩=sv m (vl u)from rfl]
 generalize vl w=a
 generalize vl u=b
 rw[Bo,Bo]
 obtain⟨i,hi⟩:∃i,sv n a=i:=⟨_,rfl⟩
 obtain⟨j,hj⟩:∃j,sv m b=j:=⟨_,rfl⟩
 have OW:(i<0→i=-(a:Int))∧(0≤i→i=a):=by rw[←hi];cases n<;>simp[sv]<;>omega
 have hjb:(j<0→j=-(b:Int))∧(0≤j→j=b):=by rw[←hj];cases m<;>simp[sv]<;>omega
 rw[hi,hj]
 rcases Int.lt_trichotomy i 0 with h1|h1|h1<;>rcases Int.lt_trichotomy j 0 with h2|h2|h2
 ·rw[Int.sign_eq_neg_one_of_neg h1,Int.sign_eq_neg_one_of_neg h2,OW.1 h1,hjb.1 h2,HL];rfl
 ·rw[Int.sign_eq_neg_one_of_neg h1,show Int.sign j=0 by rw[h2];rfl,show my i j=-1 from jB (by omega)];rfl
 ·rw[Int.sign_eq_neg_one_of_neg h1,Int.sign_eq_one_of_pos h2,show my i j=-1 from jB (by omega)];rfl
 ·rw[show Int.sign i=0 by rw[h1];rfl,Int.sign_eq_neg_one_of_neg h2,show my i j=1 from jC (by omega)];rfl
 ·rw[show Int.sign i=0 by rw[h1];rfl,show Int.sign j=0 by rw[h2];rfl,←OW.2 (by omega),←hjb.2 (by omega)];rfl
 ·rw[show Int.sign i=0 by rw[h1];rfl,Int.sign_eq_one_of_pos h2,show my i j=-1 from jB (by omega)];rfl
 ·rw[Int.sign_eq_one_of_pos h1,Int.sign_eq_neg_one_of_neg h2,show my i j=1 from jC (by omega)];rfl
 ·rw[Int.sign_eq_one_of_pos h1,show Int.sign j=0 by rw[h2];rfl,show my i j=1 from jC (by omega)];rfl
 ·rw[Int.sign_eq_one_of_pos h1,Int.sign_eq_one_of_pos h2,←OW.2 (by omega),←hjb.2 (by omega)];rfl
theorem neg_eq{x:Zr}(hx:Wl x):dZ x=some (zn (-zi x)):=by
 obtain⟨n,w⟩:=x
 unfold dZ
 have hc:(can 4294967296 (vl w)).length≤10000000000:=hx.cl
 simp only[bk]
 rw[show ay w=some (can 4294967296 (vl w))from hx.trim,bk,rm _ (by omega),bk,gE _ _ (ek (by omega)),bk,cW,kx,zC]
 rfl
end Go.Proofs.Ytmiflmkdaeianaa
namespace Go.Proofs.Ytmiflmkdaeianaa
open Go.Fw
theorem rq(n m:Bool)(a b:Nat)(ha:(can 4294967296 a).length≤10000000000)(hb:(can 4294967296 b).length≤10000000000):
  bt n (can 4294967296 a) m (can 4294967296 b)=some (zn (sv n a+sv m b)):=by
 have la:=cC (B:=4294967296) (by decide) a
 have lb:=cC (B:=4294967296) (by decide) b
 unfold bt
 simp only[bk]
 by_cases hnm:n=m
 ·subst hnm
  rw[show(n==n)=true by simp,gD,tw _ _ (ek (by omega)) (ek (by omega)),bk,cW,cW,gE _ _ ⟨fun x hx=>jm (by decide) _ _ _ hx,by rw[aL];omega⟩,bk]
  have hv:vl (dy 4294967296 (max (can 4294967296 a).length (can 4294967296 b).length+1) (a+b))=a+b:=by
   show val _ _=_
   rw[iu,Nat.mod_eq_of_lt]
   have h1:a<4294967296^(max (can 4294967296 a).length (can 4294967296 b).length):=Nat.lt_of_lt_of_le la (Nat.pow_le_pow_right (by decide) (by omega))
   have h2:b<4294967296^(max (can 4294967296 a).length (can 4294967296 b).length):=Nat.lt_of_lt_of_le lb (Nat.pow_le_pow_right (by decide) (by omega))
   rw[Nat.pow_succ];omega
  rw[hv,kx,show sv n (a+b)=sv n a+sv n b by cases n<;>simp[sv];omega]
 ·rw[show(n==m)=false by simp[hnm],gU,gJ _ _ (by omega) (by omega),bk,Bn]
  have hm:m= !n:=by cases n<;>cases m<;>simp_all
  subst hm
  have hv:∀c d,d≤c→(can 4294967296 c).length≤10000000000→bp (can 4294967296 c) (can 4294967296 d)=some (dy 4294967296 (can 4294967296 c).length (c-d))∧vl (dy 4294967296 (can 4294967296 c).length (c-d))=c-d:=by
   intro c d hdc tH
   have lc:=cC (B:=4294967296) (by decide) c
   have hdl:(can 4294967296 d).length≤(can 4294967296 c).length:=(cM (by decide)).2 (by omega)
   constructor
   ·rw[tB _ _ (ek (by omega)) (ek (by omega)) hdl (by rw[cW,cW];exact hdc),cW,cW]
   ·show val _ _=_
    rw[iu,Nat.mod_eq_of_lt (by omega)]
  by_cases hlt:a<b
  ·obtain⟨h1,h2⟩:=hv b a (by omega) hb
   rw[show decide (a<b)=true by simp[hlt],gD,h1,bk,gE _ _ ⟨fun x hx=>jm (by decide) _ _ _ hx,by rw[aL];omega⟩,bk,h2,kx,show sv (!n) (b-a)=sv n a+sv (!n) b by cases n<;>simp[sv]<;>omega]
  ·obtain⟨h1,h2⟩:=hv a b (by omega) ha
   rw[show decide (a<b)=false by simp[hlt],gU,h1,bk,gE _ _ ⟨fun x hx=>jm (by decide) _ _ _ hx,by rw[aL];omega⟩,bk,h2,kx,show sv n (a-b)=sv n a+sv (!n) b by cases n<;>simp[sv]<;>omega]
theorem DR(v:BitVec 64):IntKind.i64.wrap (v.toNat:Int)=v.toInt:=by
 rw[BitVec.toInt_eq_toNat_cond]
 have:=v.isLt
 rw[show(2:Nat)^64=18446744073709551616 by decide]at this⊢
 split
 ·rw[mh (by omega)]
 ·rw[IntKind.wrap];simp[IntKind.signed,IntKind.bits];omega
theorem DS(v:BitVec 64):BitVec.ofInt 64 (IntKind.i64.wrap (v.toNat:Int))=v:=by rw[DR,BitVec.ofInt_toInt]
theorem sw{x:Int}(h:c8 x):(BitVec.ofInt 64 x).msb=decide (x<0):=by
 rw[BitVec.msb_eq_toInt,BitVec.toInt_ofInt]
 unfold c8 at h
 have:x.bmod (2^64)=x:=by
  rw[Int.bmod_def]
  simp only[show((2^64:Nat):Int)=18446744073709551616 by decide]
  split<;>omega
 rw[this]
theorem xS(v:BitVec 64):decide ((0:Int)≤IntKind.i64.wrap (v.toNat:Int))= !v.msb:=by
 rw[DR,BitVec.msb_eq_toInt]
 by_cases h:v.toInt<0
 ·simp[h]
 ·simp[h];omega
theorem lq(x:Int):c8 (IntKind.i64.wrap x):=by
 unfold c8
 rw[IntKind.wrap];simp[IntKind.signed,IntKind.bits];split<;>omega
theorem wz{α:Type}(b:Bool)(x:α):(bif b then x else x)=x:=by cases b<;>rfl
theorem fy{i:Int}(h:c8 i):nM i=(i,true):=if_pos h
theorem jX{i:Int}(h:¬c8 i):nM i=(0,false):=if_neg h
theorem add_eq{x y:Zr}(hx:Wl x)(hy:Wl y):cg x y=some (zn (zi x+zi y)):=by
 obtain⟨n,w⟩:=x
 obtain⟨m,u⟩:=y
 unfold cg
 simp only[jW hx,jW hy,bk,cz]
 have hK:((ay w).bind fun wI=>(ay u).bind fun uA=>(bt n wI m uA).bind fun x=>some x)=some (zn (zi ⟨n,w⟩+zi ⟨m,u⟩)):=by
  rw[show ay w=some (can 4294967296 (vl w))from hx.trim,show ay u=some (can 4294967296 (vl u))from hy.trim,bk,bk,rq _ _ _ _ hx.cl hy.cl,bk];rfl
 have hK':((ay w).bind fun wI=>(ay u).bind fun uA=>(bt n wI m uA).bind fun x=>some ⟨x.neg,x.w⟩)=some (zn (zi ⟨n,w⟩+zi ⟨m,u⟩)):=hK
 rw[hK']
 generalize zi ⟨n,w⟩=i
 generalize zi ⟨m,u⟩=j
 by_cases h1:c8 i
 ·by_cases h2:c8 j
  ·rw[fy h1,fy h2,gD,bk,gD,DS,DS,xS,BitVec.msb_and,BitVec.msb_xor,BitVec.msb_xor,sw h1,sw h2,sw (lq _),eu (lq _).1 (lq _).2,bk]
   by_cases hr:c8 (i+j)
   ·rw[dg hr.1 hr.2]
    exact wz _ _
   ·have:(!((decide (i<0)^^decide (IntKind.i64.wrap (i+j)<0))&&(decide (j<0)^^decide (IntKind.i64.wrap (i+j)<0))))=false:=by
     unfold c8 at*
     by_cases hs:i<0
     ·have e:IntKind.i64.wrap (i+j)=i+j+18446744073709551616:=by rw[IntKind.wrap];simp[IntKind.signed,IntKind.bits];omega
      rw[e,show decide (i<0)=true by simp[hs],show decide (j<0)=true by simp;omega,show decide (i+j+18446744073709551616<0)=false by simp;omega];rfl
     ·have e:IntKind.i64.wrap (i+j)=i+j-18446744073709551616:=by rw[IntKind.wrap];simp[IntKind.signed,IntKind.bits];omega
      rw[e,show decide (i<0)=false by simp[hs],show decide (j<0)=false by simp;omega,show decide (i+j-18446744073709551616<0)=true by simp;omega];rfl
    rw[this,gU]
  ·rw[fy h1,jX h2,gD,bk,gU]
 ·rw[jX h1,gU,bk,gU]
theorem sub_eq{x y:Zr}(hx:Wl x)(hy:Wl y):gQ x y=some (zn (zi x-zi y)):=by
 obtain⟨n,w⟩:=x
 obtain⟨m,u⟩:=y
 unfold gQ
 simp only[jW hx,jW hy,bk,cz]
 have hK':((ay w).bind fun wI=>(ay u).bind fun uA=>(bt n wI (!m) uA).bind fun x=>some ⟨x.neg,x.w⟩)=some (zn (zi ⟨n,w⟩-zi ⟨m,u⟩)):=by
  rw[show ay w=some (can 4294967296 (vl w))from hx.trim,show ay u=some (can 4294967296 (vl u))from hy.trim,bk,bk,rq _ _ _ _ hx.cl hy.cl,bk,zC,←Int.sub_eq_add_neg];rfl
 rw[hK']
 generalize zi ⟨n,w⟩=i
 generalize zi ⟨m,u⟩=j
 by_cases h1:c8 i
 ·by_cases h2:c8 j
  ·rw[fy h1,fy h2,gD,bk,gD,DS,DS,xS,BitVec.msb_and,BitVec.msb_xor,BitVec.msb_xor,sw h1,sw h2,sw (lq _),eu (lq _).1 (lq _).2,bk]
   by_cases hr:c8 (i-j)
   ·rw[dg hr.1 hr.2]
    exact wz _ _
   ·have:(!((decide (i<0)^^decide (j<0))&&(decide (i<0)^^decide (IntKind.i64.wrap (i-j)<0))))=false:=by
     unfold c8 at*
     by_cases hs:i<0
     ·have e:IntKind.i64.wrap (i-j)=i-j+18446744073709551616:=by rw[IntKind.wrap];simp[IntKind.signed,IntKind.bits];omega
      rw[e,show decide (i<0)=true by simp[hs],show decide (j<0)=false by simp;omega,show decide (i-j+18446744073709551616<0)=false by simp;omega];rfl
     ·have e:IntKind.i64.wrap (i-j)=i-j-18446744073709551616:=by rw[IntKind.wrap];simp[IntKind.signed,IntKind.bits];omega
      rw[e,show decide (i<0)=false by simp[hs],show decide (j<0)=true by simp;omega,show decide (i-j-18446744073709551616<0)=true by simp;omega];rfl
    rw[this,gU]
  ·rw[fy h1,jX h2,gD,bk,gU]
 ·rw[jX h1,gU,bk,gU]
theorem HM(n m:Bool)(a b:Nat):sv (!(n==m)) (a*b)=sv n a*sv m b:=by
 cases n<;>cases m<;>simp[sv,Int.neg_mul,Int.mul_neg]
theorem mul_eq{x y:Zr}(hx:Wl x)(hy:Wl y):cL x y=some (zn (zi x*zi y)):=by
 obtain⟨n,w⟩:=x
 obtain⟨m,u⟩:=y
 unfold cL
 have Xn:(can 4294967296 (vl w)).length≤10000000000:=hx.cl
 have Vx:(can 4294967296 (vl u)).length≤10000000000:=hy.cl
 simp only[]
 rw[show ay w=some (can 4294967296 (vl w))from hx.trim,show ay u=some (can 4294967296 (vl u))from hy.trim,bk,bk,show zi ⟨n,w⟩=sv n (vl w)from rfl,show zi ⟨m,u⟩=sv m (vl u)from rfl]
 simp only[bk,cz]
 generalize vl w=a at*
 generalize vl u=b at*
 have la:=cC (B:=4294967296) (by decide) a
 have lb:=cC (B:=4294967296) (by decide) b
 have hK:((dI (can 4294967296 a) (can 4294967296 b)).bind fun mE=>(aV (!(n==m)) mE).bind fun x=>some ⟨x.neg,x.w⟩)=some (zn (sv n a*sv m b)):=by
  rw[Bg _ _ (ek (by omega)) (ek (by omega)),bk,cW,cW,gE _ _ ⟨fun x hx=>jm (by decide) _ _ _ hx,by rw[aL];omega⟩,bk,kx]
  have hv:vl (dy 4294967296 ((can 4294967296 a).length+(can 4294967296 b).length) (a*b))=a*b:=by
   show val _ _=_
   rw[iu,Nat.mod_eq_of_lt]
   rw[Nat.pow_add];exact Nat.mul_lt_mul'' la lb
  rw[hv,HM]
 rw[hK]
 by_cases h1:a<4294967296
 ·by_cases h2:b<4294967296
  ·have l1:=low_eq (can 4294967296 a) (fun _ hx=>iv (by decide) hx) (by have:=iw.2 h1;omega)
   have l2:=low_eq (can 4294967296 b) (fun _ hx=>iv (by decide) hx) (by have:=iw.2 h2;omega)
   rw[cW]at l1 l2
   have hlt:a*b<18446744073709551616:=Nat.mul_lt_mul'' h1 h2
   rw[show decide (((can 4294967296 a).length:Int)≤1)=true by rw[decide_eq_true_eq];exact iw.2 h1,gD,bk,show decide (((can 4294967296 b).length:Int)≤1)=true by rw[decide_eq_true_eq];exact iw.2 h2,gD,l1,l2,bk,bk,Nat.mod_eq_of_lt hlt,lj _ _ hlt,bk,kx,HM]
  ·rw[show decide (((can 4294967296 a).length:Int)≤1)=true by rw[decide_eq_true_eq];exact iw.2 h1,gD,bk,show decide (((can 4294967296 b).length:Int)≤1)=false by rw[decide_eq_false_iff_not];exact fun h=>h2 (iw.1 h),gU]
 ·rw[show decide (((can 4294967296 a).length:Int)≤1)=false by rw[decide_eq_false_iff_not];exact fun h=>h1 (iw.1 h),gU,bk,gU]
end Go.Proofs.Ytmiflmkdaeianaa
namespace Go.Proofs.Ytmiflmkdaeianaa
open Go.Fw
theorem OI(n m:Bool){a b:Nat}(hb:0<b):
  sv n a/sv m b=(if n=true∧0<a%b then sv (!(n==m)) (a/b+1)else sv (!(n==m)) (a/b))∧
  sv n a%sv m b=(if n=true∧0<a%b then((b-a%b:Nat):Int)else((a%b:Nat):Int)):=by
 have hd:=Nat.div_add_mod a b
 have hm:=Nat.mod_lt a hb
 revert hd hm
 generalize a/b=q
 generalize a%b=r
 intro hd hm
 have hd':(b:Int)*q+r=a:=by exact_mod_cast hd
 have pos:∀n,sv n a/(b:Int)=(if n=true∧0<r then sv n (q+1)else sv n q)∧sv n a%(b:Int)=(if n=true∧0<r then((b-r:Nat):Int)else(r:Int)):=by
  intro n
  apply(Int.ediv_emod_unique (by omega)).2
  cases n
  ·simp[sv];omega
  ·by_cases hr:0<r
   ·simp only[hr,and_self,if_true,sv,cond_true]
    have:(b:Int)* -((q+1:Nat):Int)=-((b:Int)*q)-b:=by
     rw[Int.mul_neg,Int.natCast_add,Int.mul_add];simp;omega
    rw[this];omega
   ·have:r=0:=by omega
    subst this
    simp[sv,Int.mul_neg];omega
 cases m
 ·have:=pos n
  rw[jV,show(!(n==false))=n by cases n<;>rfl]
  exact this
 ·have:=pos n
  rw[show sv true b=-(b:Int)from rfl,Int.ediv_neg,Int.emod_neg,this.1,this.2,show(!(n==true))= !n by cases n<;>rfl,zC,zC]
  refine⟨?_,rfl⟩
  split<;>rfl
theorem OJ{a b:Nat}(hba:b≤a)(tH:(can 4294967296 a).length≤10000000000):bp (can 4294967296 a) (can 4294967296 b)=some (dy 4294967296 (can 4294967296 a).length (a-b))∧vl (dy 4294967296 (can 4294967296 a).length (a-b))=a-b:=by
 have lc:=cC (B:=4294967296) (by decide) a
 have hdl:(can 4294967296 b).length≤(can 4294967296 a).length:=(cM (by decide)).2 (by omega)
 constructor
 ·rw[tB _ _ (ek (by omega)) (ek (by omega)) hdl (by rw[cW,cW];exact hba),cW,cW]
 ·show val _ _=_
  rw[iu,Nat.mod_eq_of_lt (by omega)]
def HN(i j:Int):Zr×Zr×Int:=if j=0 then(⟨false,[]⟩,⟨false,[]⟩,7)else(zn (i/j),zn (i%j),0)
theorem divMod_eq{x y:Zr}(hx:Wl x)(hy:Wl y):bU x y=some (HN (zi x) (zi y)):=by
 obtain⟨n,w⟩:=x
 obtain⟨m,u⟩:=y
 unfold bU
 have Xn:(can 4294967296 (vl w)).length≤10000000000:=hx.cl
 have Vx:(can 4294967296 (vl u)).length≤10000000000:=hy.cl
 simp only[]
 rw[show ay w=some (can 4294967296 (vl w))from hx.trim,show ay u=some (can 4294967296 (vl u))from hy.trim,bk,bk,show zi ⟨n,w⟩=sv n (vl w)from rfl,show zi ⟨m,u⟩=sv m (vl u)from rfl]
 simp only[bk,cz]
 generalize vl w=a at*
 generalize vl u=b at*
 by_cases h0:b=0
 ·subst h0
  rw[show sv m 0=0 by cases m<;>rfl];rfl
 ·have sL:(can 4294967296 b).length≠0:=fun h=>h0 (lp.1 h)
  rw[show decide (((can 4294967296 b).length:Int)=0)=false by simp;intro e;rw[e]at sL;exact sL rfl,gU]
  obtain⟨q,r,UI,Xo,Xp,GH,NP,hq3,hr3⟩:=tC a b Xn Vx h0
  have hm:a%b<b:=Nat.mod_lt _ (by omega)
  obtain⟨e1,e2⟩:=OI n m (a:=a) (show 0<b by omega)
  have hj:sv m b≠0:=by cases m<;>simp[sv]<;>omega
  rw[UI,bk]
  simp only[]
  rw[uM r (by have:=GH.2;omega),k8 (by decide) GH.1,show val 4294967296 r=a%b from NP,bk,HN,if_neg hj,e1,e2]
  have hrl:(can 4294967296 (a%b)).length≤(can 4294967296 b).length:=(cM (by decide)).2 (Nat.lt_trans hm (cC (by decide) b))
  have hK:∀c:Bool,(decide (n=true∧0<a%b)=c)→(bif c then(bZ q [1]).bind fun mE=>(bp (can 4294967296 b) (can 4294967296 (a%b))).bind fun rC=>(aV (!(n==m)) mE).bind fun x=>(aV false rC).bind fun x_1=>some ((⟨x.neg,x.w⟩:Zr),(⟨x_1.neg,x_1.w⟩:Zr),(0:Int))
    else(aV (!(n==m)) q).bind fun x=>(aV false (can 4294967296 (a%b))).bind fun x_1=>some ((⟨x.neg,x.w⟩:Zr),(⟨x_1.neg,x_1.w⟩:Zr),(0:Int)))=
    some (zn (if n=true∧0<a%b then sv (!(n==m)) (a/b+1)else sv (!(n==m)) (a/b)),zn (if n=true∧0<a%b then((b-a%b:Nat):Int)else((a%b:Nat):Int)),0):=by
   intro c hc
   cases c
   ·have Vy:=of_decide_eq_false hc
    rw[gU,if_neg Vy,if_neg Vy,gE _ _ Xo,bk,gE _ _ (ek (by omega)),bk,cW,Xp,kx,kx,jV]
   ·have Vy:=of_decide_eq_true hc
    obtain⟨s1,s2⟩:=OJ (a:=b) (b:=a%b) (by omega) Vx
    have w1:zL [1]:=⟨by simp,by simp⟩
    rw[gD,if_pos Vy,if_pos Vy,tw _ _ Xo w1,bk,s1,bk,gE _ _ ⟨fun x hx=>jm (by decide) _ _ _ hx,by rw[aL];simp;omega⟩,bk,gE _ _ ⟨fun x hx=>jm (by decide) _ _ _ hx,by rw[aL];omega⟩,bk,s2,kx,kx,jV]
    have:vl (dy 4294967296 (max q.length [1].length+1) (vl q+vl [1]))=a/b+1:=by
     show val _ _=_
     rw[iu,show vl [1]=1 by decide,Xp,Nat.mod_eq_of_lt]
     have h1:vl q<4294967296^q.length:=fD q Xo.1
     rw[Xp]at h1
     have h2:4294967296^q.length≤4294967296^(max q.length [1].length):=Nat.pow_le_pow_right (by decide) (by omega)
     have h3:0<4294967296^(max q.length [1].length):=Nat.pow_pos (by decide)
     rw[Nat.pow_succ];omega
    rw[this]
  have hz:(0<(can 4294967296 (a%b)).length)↔0<a%b:=by
   have:=lp (v:=a%b);omega
  cases n
  ·rw[gU,bk]
   exact hK false (by simp)
  ·rw[gD,bk]
   refine hK _ ?_
   simp only[true_and]
   by_cases h:0<a%b
   ·simp[h,hz.2 h]
   ·have h':¬0<(can 4294967296 (a%b)).length:=fun e=>h (hz.1 e)
    have h'':¬((0:Int)<((can 4294967296 (a%b)).length:Int)):=by omega
    simp only[h,h'',decide_false]
theorem OK{x y:Zr}(hx:Wl x)(hy:Wl y):gR x y=some (zn (Int.gcd (zi x) (zi y):Int)):=by
 obtain⟨n,w⟩:=x
 obtain⟨m,u⟩:=y
 unfold gR
 have Xn:(can 4294967296 (vl w)).length≤10000000000:=hx.cl
 have Vx:(can 4294967296 (vl u)).length≤10000000000:=hy.cl
 simp only[]
 rw[show ay w=some (can 4294967296 (vl w))from hx.trim,show ay u=some (can 4294967296 (vl u))from hy.trim,bk,bk,Int.gcd,zB,zB]
 show _=some (zn ((Nat.gcd (vl w) (vl u):Nat):Int))
 generalize vl w=a at*
 generalize vl u=b at*
 refine k7 (fun s=>∃c d,s=(can 4294967296 c,can 4294967296 d)∧Nat.gcd c d=Nat.gcd a b∧(can 4294967296 c).length≤10000000000∧(can 4294967296 d).length≤10000000000)
  (fun s=>∃c d,s=(can 4294967296 c,can 4294967296 d)∧Nat.gcd c d=Nat.gcd a b∧(can 4294967296 c).length≤10000000000∧(d=0∨(c<18446744073709551616∧d<18446744073709551616))) (fun s=>vl s.2) ?_ ⟨a,b,rfl,rfl,Xn,Vx⟩ ?_
 ·rintro _ ⟨c,d,rfl,hg,hc,hd⟩
  simp only[bk,cz]
  by_cases h0:d=0
  ·right
   subst h0
   exact⟨_,rfl,c,0,rfl,hg,hc,.inl rfl⟩
  ·have sL:(can 4294967296 d).length≠0:=fun h=>h0 (lp.1 h)
   rw[show decide ((0:Int)<((can 4294967296 d).length:Int))=true by simp;omega,gD]
   by_cases h2:c<18446744073709551616∧d<18446744073709551616
   ·right
    have c1:=dQ.2 h2.1
    have c2:=dQ.2 h2.2
    rw[show decide ((2:Int)<((can 4294967296 c).length:Int))=false by simp;omega,gU,show decide ((2:Int)<((can 4294967296 d).length:Int))=false by simp;omega]
    exact⟨_,rfl,c,d,rfl,hg,hc,.inr h2⟩
   ·left
    have hm:c%d<d:=Nat.mod_lt _ (by omega)
    obtain⟨q,r,UI,Xo,Xp,GH,NP,-,-⟩:=tC c d hc hd h0
    have Fx:((bif decide ((2:Int)<((can 4294967296 c).length:Int))then some true else some (decide ((2:Int)<((can 4294967296 d).length:Int)))):Option Bool)=some true:=by
     by_cases BD:c<18446744073709551616
     ·have hd2:¬d<18446744073709551616:=fun h=>h2 ⟨BD,h⟩
      have:¬(((can 4294967296 d).length:Int)≤2):=fun h=>hd2 (dQ.1 h)
      rw[show decide ((2:Int)<((can 4294967296 d).length:Int))=true by simp;omega]
      exact wz _ _
     ·have:¬(((can 4294967296 c).length:Int)≤2):=fun h=>BD (dQ.1 h)
      rw[show decide ((2:Int)<((can 4294967296 c).length:Int))=true by simp;omega,gD]
    rw[Fx,bk,bk,gD,UI,bk]
    simp only[]
    rw[uM r (by have:=GH.2;omega),k8 (by decide) GH.1,show val 4294967296 r=c%d from NP,bk]
    refine⟨_,rfl,⟨d,c%d,rfl,?_,hd,?_⟩,?_⟩
    ·rw[←hg,Nat.gcd_comm d,←Nat.gcd_rec,Nat.gcd_comm]
    ·exact Nat.le_trans ((cM (by decide)).2 (Nat.lt_trans hm (cC (by decide) d))) hd
    ·simp only[cW];exact hm
 ·rintro _ ⟨c,d,rfl,hg,hc,AZ⟩
  simp only[bk]
  by_cases h0:d=0
  ·subst h0
   rw[show decide (((can 4294967296 0).length:Int)=0)=true by simp[nL],gD,rm _ (by omega),bk,gE _ _ (ek (by omega)),bk,cW,kx,jV,←hg,Nat.gcd_zero_right]
  ·have h2:=AZ.resolve_left h0
   have sL:(can 4294967296 d).length≠0:=fun h=>h0 (lp.1 h)
   have c1:=dQ.2 h2.1
   have c2:=dQ.2 h2.2
   rw[show decide (((can 4294967296 d).length:Int)=0)=false by simp;intro e;rw[e]at sL;exact sL rfl,gU,low_eq _ (fun _ hx=>iv (by decide) hx) (by omega),bk,low_eq _ (fun _ hx=>iv (by decide) hx) (by omega),bk,cW,cW]
   refine k7 (fun s=>Nat.gcd s.1 s.2=Nat.gcd a b∧s.1<18446744073709551616∧s.2<18446744073709551616) (fun e=>e=Nat.gcd a b∧e<18446744073709551616) (fun s=>s.2) ?_ ⟨hg,h2.1,h2.2⟩ ?_
   ·rintro⟨s,t⟩ ⟨i1,i2,i3⟩
    simp only at i1 i2 i3⊢
    by_cases ht:0<t
    ·left
     rw[show decide (0<t)=true by simp[ht],gD,uJ (by omega),bk]
     refine⟨_,rfl,⟨?_,i3,?_⟩,Nat.mod_lt _ ht⟩
     ·rw[←i1,Nat.gcd_comm t,←Nat.gcd_rec,Nat.gcd_comm]
     ·exact Nat.lt_trans (Nat.mod_lt _ ht) i3
    ·right
     rw[show decide (0<t)=false by simp[ht],gU]
     refine⟨_,rfl,?_,i2⟩
     rw[←i1,show t=0 by omega,Nat.gcd_zero_right]
   ·rintro e ⟨rfl,he⟩
    rw[lj _ _ he,bk,kx,jV]
end Go.Proofs.Ytmiflmkdaeianaa
namespace Go.Proofs.Ytmiflmkdaeianaa
open Go.Fw
def zl(l:List Nat):List Int:=l.map (fun(n:Nat)=>(n:Int))
abbrev v16(l:List Nat):Nat:=val 65536 l
theorem JV{x y:Zr}(h:x.w.length≤100000000000):∃b,fe x y=some b∧(b=true↔x=y):=by
 obtain⟨n,w⟩:=x
 obtain⟨m,u⟩:=y
 unfold fe
 simp only[bk,cz]
 by_cases hnm:n=m
 ·subst hnm
  rw[show(!(n==n))=false by simp,gU,bk]
  by_cases hl:w.length=u.length
  ·rw[show decide ((w.length:Int)≠(u.length:Int))=false by simp[hl],gU]
   refine jA (fun y=>∃i:Nat,y=(i:Int)∧i≤w.length∧w.take i=u.take i) (fun e=>(∃c,e=.inl c∧w=u)∨(e=.inr false∧w≠u)) (fun y=>w.length-y.toNat) ?_ ⟨0,rfl,by omega,rfl⟩ ?_
   ·rintro _ ⟨i,rfl,hi,ht⟩
    by_cases hlt:i<w.length
    ·have g1:w[i]? =some w[i]:=by simp
     have g2:u[i]? =some (u[i]'(by omega)):=by simp
     rw[show decide ((i:Int)<(w.length:Int))=true by simp[hlt],gD,aE g1,bk,aE g2,bk]
     by_cases he:w[i]=u[i]'(by omega)
     ·left
      rw[show decide (w[i]≠u[i]'(by omega))=false by simp[he],gU,bV (by simp at h;omega)]
      refine⟨_,rfl,⟨i+1,rfl,hlt,?_⟩,by omega⟩
      rw[List.take_add_one,List.take_add_one,ht,g1,g2,he]
     ·right
      rw[show decide (w[i]≠u[i]'(by omega))=true by simp[he],gD]
      refine⟨_,rfl,.inr ⟨rfl,?_⟩⟩
      rintro rfl;exact he rfl
    ·right
     rw[show decide ((i:Int)<(w.length:Int))=false by simp;omega,gU]
     refine⟨_,rfl,.inl ⟨_,rfl,?_⟩⟩
     rw[List.take_of_length_le (by omega),List.take_of_length_le (by omega)]at ht
     exact ht
   ·rintro e (⟨c,rfl,he⟩|⟨rfl,he⟩)
    ·exact⟨true,rfl,by simp[he]⟩
    ·exact⟨false,rfl,by simp[he]⟩
  ·rw[show decide ((w.length:Int)≠(u.length:Int))=true by simp;omega,gD]
   refine⟨_,rfl,?_⟩
   simp only[Bool.false_eq_true,false_iff]
   intro e
   have:w=u:=congrArg Zr.w e
   exact hl (by rw[this])
 ·rw[show(!(n==m))=true by simp[hnm],gD,bk,gD]
  refine⟨_,rfl,?_⟩
  simp only[Bool.false_eq_true,false_iff]
  intro e
  exact hnm (congrArg Zr.neg e)
theorem xT{x:Zr}(h:x.w.length≤100000000000):fe x x=some true:=by
 obtain⟨b,h1,h2⟩:=JV (y:=x) h
 rw[h1,h2.2 rfl]
end Go.Proofs.Ytmiflmkdaeianaa
namespace Go.Proofs.Ytmiflmkdaeianaa
open Go.Fw
theorem p9(k:Nat):10^(9*(k+1))=10^(9*k)*1000000000:=by
 rw[show 9*(k+1)=9*k+9 by omega,Nat.pow_add]
end Go.Proofs.Ytmiflmkdaeianaa
namespace Go.Proofs.Ytmiflmkdaeianaa
open Go.Fw
def body(s:IJ):IJ:=if s.head?=some 45 then s.tail else s
def z0:Zr:=⟨false,[]⟩
end Go.Proofs.Ytmiflmkdaeianaa
namespace Go.Proofs.Ytmiflmkdaeianaa
open Go.Fw
theorem zeta'(z:Zr):(⟨z.neg,z.w⟩:Zr)=z:=by cases z;rfl
theorem sx{i:Int}(h:c8 i):Fit 2 i:=Fit.i64 h.1 h.2
theorem Bp{i:Int}(h:c8 i):Wl (zn i):=di (sx h) (by decide)
end Go.Proofs.Ytmiflmkdaeianaa
namespace Go.Proofs.Ytmiflmkdaeianaa
open Go.Fw
abbrev OkZ(z:Zr):Prop:=True∧(z.w.length≤9223372036854775807∧∀x∈z.w,x<4294967296)
end Go.Proofs.Ytmiflmkdaeianaa
namespace Go.Proofs.Ytmiflmkdaeianaa
open Go.Fw
theorem Fit.gcd{L:Nat}{i j:Int}(h:Fit L i)(h':Fit L j):Fit L (Int.gcd i j:Int):=by
 by_cases h0:i=0
 ·subst h0;rw[Int.gcd_zero_left];exact h'.le (by simp)
 ·have:Int.gcd i j∣i.natAbs:=Nat.gcd_dvd_left _ _
  exact h.le (by have:=Nat.le_of_dvd (by omega) this;simpa using this)
end Go.Proofs.Ytmiflmkdaeianaa
namespace Go.Proofs.Ytmiflmkdaeianaa
open Go.Fw
def qd(q:Qr):Int:=if zi q.den=0 then 1 else zi q.den
def qv(q:Qr):Rat:=Rat.divInt (zi q.num) (qd q)
def qn(r:Rat):Qr:=⟨zn r.num,if r.den=1 then⟨false,[]⟩else zn (r.den:Int)⟩
def FQ(L:Nat)(r:Rat):Prop:=Fit L r.num∧Fit L (r.den:Int)
structure je (L:Nat) (q:Qr) (r:Rat):Prop where
 n:∀x∈q.num.w,x<4294967296
 d:∀x∈q.den.w,x<4294967296
 ln:q.num.w.length≤L
 ld:q.den.w.length≤L
 l1:1≤L
 v:qv q=r
theorem Vz(q:Qr):qd q≠0:=by
 unfold qd
 by_cases h:zi q.den=0
 ·rw[if_pos h];decide
 ·rw[if_neg h];exact h
theorem VA(r:Rat):qv (qn r)=r:=by
 unfold qv qd qn
 by_cases h:r.den=1
 ·rw[if_pos h]
  show Rat.divInt (zi (zn r.num)) (if zi ⟨false,[]⟩=0 then 1 else zi ⟨false,[]⟩)=r
  rw[if_pos (show zi ⟨false,[]⟩=0 from rfl),bG]
  have:=Rat.num_divInt_den r
  rw[h]at this;exact this
 ·rw[if_neg h]
  show Rat.divInt (zi (zn r.num)) (if zi (zn (r.den:Int))=0 then 1 else zi (zn (r.den:Int)))=r
  have:=r.den_nz
  rw[bG,bG,if_neg (by omega),Rat.num_divInt_den]
theorem DT{w:List Nat}{n:Bool}{L:Nat}(h:∀x∈w,x<4294967296)(hl:w.length≤L):Fit L (zi ⟨n,w⟩):=by
 unfold Fit
 rw[zB]
 exact Nat.lt_of_lt_of_le (fD w h) (Nat.pow_le_pow_right (by decide) hl)
theorem uO{L:Nat}(h:1≤L):Fit L 1:=by
 unfold Fit
 exact Nat.lt_of_lt_of_le (show(1:Int).natAbs<4294967296^1 by decide) (Nat.pow_le_pow_right (by decide) h)
theorem FQ.rep{L:Nat}{r:Rat}(h:FQ L r)(h1:1≤L):je L (qn r) r:=by
 refine⟨fun x hx=>iv (by decide) hx,?_,(cM (by decide)).2 h.1,?_,h1,VA r⟩
 ·unfold qn
  by_cases e:r.den=1
  ·rw[if_pos e];simp
  ·rw[if_neg e];exact fun x hx=>iv (by decide) hx
 ·unfold qn
  by_cases e:r.den=1
  ·rw[if_pos e];simp
  ·rw[if_neg e];exact(cM (by decide)).2 h.2
theorem je.wn{L:Nat}{q:Qr}{r:Rat}(h:je L q r)(hL:L≤10000000000):Wl q.num:=⟨h.n,Nat.le_trans h.ln hL⟩
theorem je.wd{L:Nat}{q:Qr}{r:Rat}(h:je L q r)(hL:L≤10000000000):Wl q.den:=⟨h.d,Nat.le_trans h.ld hL⟩
theorem je.fn{L:Nat}{q:Qr}{r:Rat}(h:je L q r):Fit L (zi q.num):=DT (n:=q.num.neg) h.n h.ln
theorem je.fd{L:Nat}{q:Qr}{r:Rat}(h:je L q r):Fit L (zi q.den):=DT (n:=q.den.neg) h.d h.ld
theorem je.fqd{L:Nat}{q:Qr}{r:Rat}(h:je L q r):Fit L (qd q):=by
 unfold qd
 by_cases e:zi q.den=0
 ·rw[if_pos e];exact uO h.l1
 ·rw[if_neg e];exact h.fd
theorem je.mono{L M:Nat}{q:Qr}{r:Rat}(h:je L q r)(hl:L≤M):je M q r:=⟨h.n,h.d,Nat.le_trans h.ln hl,Nat.le_trans h.ld hl,Nat.le_trans h.l1 hl,h.v⟩
theorem FQ.mono{L M:Nat}{r:Rat}(h:FQ L r)(hl:L≤M):FQ M r:=⟨h.1.mono hl,h.2.mono hl⟩
theorem lu{L:Nat}{a d:Int}(h0:d≠0)(ha:Fit L a)(hd:Fit L d):FQ L (Rat.divInt a d):=by
 generalize hr:Rat.divInt a d=r
 obtain⟨n',d',z',c⟩:=r
 obtain⟨m,hm,h1,h2⟩:=Rat.divInt_num_den h0 hr
 have hm':0<m.natAbs:=Int.natAbs_pos.2 hm
 refine⟨ha.le ?_,hd.le ?_⟩
 ·rw[h1,Int.natAbs_mul];exact Nat.le_mul_of_pos_right _ hm'
 ·rw[h2,Int.natAbs_mul];exact Nat.le_mul_of_pos_right _ hm'
theorem je.fq{L:Nat}{q:Qr}{r:Rat}(h:je L q r):FQ L r:=by rw[←h.v];exact lu (Vz q) h.fn h.fqd
theorem oh(r:Rat):r=Rat.divInt r.num (r.den:Int):=(Rat.num_divInt_den r).symm
theorem kI(r:Rat):(r.den:Int)≠0:=by have:=r.den_nz;omega
theorem FQ.add{L M:Nat}{x y:Rat}(hx:FQ L x)(hy:FQ M y):FQ (L+M+1) (x+y):=by
 have e:x+y=Rat.divInt (x.num*y.den+y.num*x.den) (x.den*y.den):=by
  conv=>lhs;rw[oh x,oh y,Rat.divInt_add_divInt _ _ (kI x) (kI y)]
 rw[e]
 refine lu (Int.mul_ne_zero (kI x) (kI y)) ?_ ?_
 ·exact(hx.1.mul hy.2).add (by rw[Nat.add_comm L M];exact hy.1.mul hx.2)
 ·exact(hx.2.mul hy.2).mono (by omega)
theorem FQ.sub{L M:Nat}{x y:Rat}(hx:FQ L x)(hy:FQ M y):FQ (L+M+1) (x-y):=by
 have e:x-y=Rat.divInt (x.num*y.den-y.num*x.den) (x.den*y.den):=by
  conv=>lhs;rw[oh x,oh y,Rat.divInt_sub_divInt _ _ (kI x) (kI y)]
 rw[e]
 refine lu (Int.mul_ne_zero (kI x) (kI y)) ?_ ?_
 ·exact(hx.1.mul hy.2).sub (by rw[Nat.add_comm L M];exact hy.1.mul hx.2)
 ·exact(hx.2.mul hy.2).mono (by omega)
theorem FQ.mul{L M:Nat}{x y:Rat}(hx:FQ L x)(hy:FQ M y):FQ (L+M) (x*y):=by
 have e:x*y=Rat.divInt (x.num*y.num) (x.den*y.den):=by
  conv=>lhs;rw[oh x,oh y,Rat.divInt_mul_divInt]
 rw[e]
 exact lu (Int.mul_ne_zero (kI x) (kI y)) (hx.1.mul hy.1) (hx.2.mul hy.2)
theorem FQ.neg{L:Nat}{x:Rat}(hx:FQ L x):FQ L (-x):=⟨hx.1.neg,hx.2⟩
theorem FQ.int{L:Nat}{i:Int}(h:Fit L i)(h1:1≤L):FQ L (i:Rat):=⟨h,uO h1⟩
theorem FQ.floor{L:Nat}{x:Rat}(hx:FQ L x):Fit L x.floor:=by
 rw[Rat.floor_def]
 exact hx.1.le (Int.natAbs_ediv_le_natAbs _ _)
def Bq(x y:Rat):Int:=if x<y then-1 else if x=y then 0 else 1
theorem EP(x:Rat):Bq x x=0:=by unfold Bq;rw[if_neg Rat.lt_irrefl,if_pos rfl]
theorem JW{x y:Rat}(h:x<y):Bq x y=-1:=if_pos h
theorem JX{x y:Rat}(h:y<x):Bq x y=1:=by
 unfold Bq
 rw[if_neg (fun h'=>by grind),if_neg (fun h'=>by grind)]
theorem xU{a b c d:Int}(hb:0<b)(hd:0<d):Rat.divInt a b<Rat.divInt c d↔a*d<c*b:=by
 have hb':(0:Rat)<(b:Rat):=Rat.intCast_pos.2 hb
 have hd':(0:Rat)<(d:Rat):=Rat.intCast_pos.2 hd
 rw[Rat.divInt_eq_div,Rat.divInt_eq_div,Rat.div_lt_iff hb',Rat.div_def,Rat.mul_assoc,Rat.mul_comm (d:Rat)⁻¹,←Rat.mul_assoc,←Rat.div_def,Rat.lt_div_iff hd',←Rat.intCast_mul,←Rat.intCast_mul,Rat.intCast_lt_intCast]
theorem HO{a b c d:Int}(hb:0<b)(hd:0<d):Bq (Rat.divInt a b) (Rat.divInt c d)=my (a*d) (c*b):=by
 unfold Bq my
 have e1:=xU (a:=a) (c:=c) hb hd
 have e2:=Rat.divInt_eq_divInt_iff (n₁:=a) (d₁:=b) (n₂:=c) (d₂:=d) (by omega) (by omega)
 by_cases h1:a*d<c*b
 ·rw[if_pos (e1.2 h1),if_pos h1]
 ·rw[if_neg (fun h=>h1 (e1.1 h)),if_neg h1]
  by_cases h2:a*d=c*b
  ·rw[if_pos (e2.2 h2),if_pos h2]
  ·rw[if_neg (fun h=>h2 (e2.1 h)),if_neg h2]
theorem xV{a d:Int}(hd:0<d):qn (Rat.divInt a d)=⟨zn (a/(Int.gcd a d:Int)),if d/(Int.gcd a d:Int)=1 then⟨false,[]⟩else zn (d/(Int.gcd a d:Int))⟩:=by
 have h1:(Rat.divInt a d).num=a/(Int.gcd a d:Int):=by rw[Rat.num_divInt,Int.sign_eq_one_of_pos hd,Int.one_mul,Int.gcd_comm]
 have h2:((Rat.divInt a d).den:Int)=d/(Int.gcd a d:Int):=by
  rw[Rat.den_divInt,if_neg (by omega),Int.gcd_comm]
  have:(d.natAbs:Int)=d:=by omega
  rw[Int.natCast_ediv,this]
 unfold qn
 rw[h1,h2]
 by_cases e:(Rat.divInt a d).den=1
 ·rw[if_pos e,if_pos (by omega)]
 ·rw[if_neg e,if_neg (by omega)]
theorem JY(k:Int):((bif(nM k).2 then some (decide ((nM k).1=1))else some false):Option Bool)=some (decide (k=1)):=by
 by_cases h:c8 k
 ·rw[fy h];rfl
 ·rw[jX h]
  have:¬k=1:=by rintro rfl;exact h (by decide)
  rw[decide_eq_false this];rfl
theorem wA{n d:Zr}(hn:Wl n)(hd:Wl d)(h:0<zi d):((gR n d).bind fun g=>(bU n g).bind fun a=>(bU d g).bind fun b=>(bW b.1).bind fun c=>
  (bif c.2 then some (decide (c.1=1))else some false).bind fun e=>bif e then some (⟨a.1,⟨false,[]⟩⟩:Qr)else some ⟨a.1,b.1⟩)=some (qn (Rat.divInt (zi n) (zi d))):=by
 have g0:(Int.gcd (zi n) (zi d):Int)≠0:=by
  have:0<Int.gcd (zi n) (zi d):=Int.gcd_pos_of_ne_zero_right _ (by omega)
  omega
 have wg:Wl (zn (Int.gcd (zi n) (zi d):Int)):=di ((Wl.fit hd).le (by
  have:=Nat.le_of_dvd (Int.natAbs_pos.2 (show zi d≠0 by omega)) (Int.gcd_dvd_natAbs_right (zi n) (zi d))
  simpa using this)) hd.2
 have wq:Wl (zn (zi d/(Int.gcd (zi n) (zi d):Int))):=di ((Wl.fit hd).le (Int.natAbs_ediv_le_natAbs _ _)) hd.2
 rw[OK hn hd,bk,divMod_eq hn wg,bk,divMod_eq hd wg,bk,bG,HN,if_neg g0,HN,if_neg g0]
 simp only[]
 rw[jW wq,bk,bG,JY,bk,xV h]
 by_cases e:zi d/(Int.gcd (zi n) (zi d):Int)=1
 ·rw[decide_eq_true e,gD,if_pos e]
 ·rw[decide_eq_false e,gU,if_neg e]
theorem reduce_eq{x y:Zr}(hx:Wl x)(hy:Wl y)(h0:zi y≠0):dG x y=some (qn (Rat.divInt (zi x) (zi y))):=by
 unfold dG
 simp only[cz,bk,zeta',sign_eq hy]
 by_cases h:zi y<0
 ·rw[show decide ((zi y).sign<0)=true by rw[Int.sign_eq_neg_one_of_neg h];rfl,gD,neg_eq hx,bk,neg_eq hy,bk]
  have hp:=wA (di (Wl.fit hx).neg hx.2) (di (Wl.fit hy).neg hy.2) (by rw[bG];omega)
  rw[bG,bG,Rat.neg_divInt_neg]at hp
  exact hp
 ·rw[show decide ((zi y).sign<0)=false by rw[Int.sign_eq_one_of_pos (by omega)];rfl,gU]
  exact wA hx hy (by omega)
end Go.Proofs.Ytmiflmkdaeianaa
namespace Go.Proofs.Ytmiflmkdaeianaa
open Go.Fw
theorem ru(q:Qr):(⟨⟨q.num.neg,q.num.w⟩,⟨q.den.neg,q.den.w⟩⟩:Qr)=q:=by cases q;rfl
theorem ry(q:Qr):(⟨q.num,q.den⟩:Qr)=q:=by cases q;rfl
theorem parts_eq{L:Nat}{q:Qr}{r:Rat}(h:je L q r)(hL:L≤10000000000):∃n d:Zr,cw q=some (n,d)∧Wl n∧Wl d∧0<zi d∧Rat.divInt (zi n) (zi d)=r∧Fit L (zi n)∧Fit L (zi d):=by
 have wn:=h.wn hL
 have wd:=h.wd hL
 have hv:=h.v
 unfold cw
 simp only[zeta',bk,sign_eq wd,eu (x:=1) (by decide) (by decide),neg_eq wn,neg_eq wd]
 unfold qv qd at hv
 rcases Int.lt_trichotomy (zi q.den) 0 with h1|h1|h1
 ·refine⟨_,_,?_,di h.fn.neg hL,di h.fd.neg hL,by rw[bG];omega,?_,by rw[bG];exact h.fn.neg,by rw[bG];exact h.fd.neg⟩
  ·rw[Int.sign_eq_neg_one_of_neg h1];rfl
  ·rw[bG,bG,Rat.neg_divInt_neg,←hv,if_neg (by omega)]
 ·refine⟨_,_,?_,wn,di (uO h.l1) hL,by rw[bG];decide,?_,h.fn,by rw[bG];exact uO h.l1⟩
  ·rw[h1];rfl
  ·rw[bG,←hv,if_pos h1]
 ·refine⟨_,_,?_,wn,wd,h1,?_,h.fn,h.fd⟩
  ·rw[Int.sign_eq_one_of_pos h1];rfl
  ·rw[←hv,if_neg (by omega)]
def Sm(a:Int):Prop:=-2147483648<a∧a<2147483648
theorem Sm.ok{a:Int}(h:Sm a):c8 a:=by unfold Sm at h;unfold c8;omega
theorem nN{L:Nat}{q:Qr}{r:Rat}(h:je L q r)(hL:L≤10000000000):∃a b c,dm q=some (a,b,c)∧(c=true→Sm a∧0<b∧Sm b∧Rat.divInt a b=r):=by
 have wn:=h.wn hL
 have wd:=h.wd hL
 have hv:=h.v
 unfold dm
 simp only[zeta',bk,cz,jW wn,jW wd]
 unfold qv qd at hv
 generalize zi q.num=n at*
 generalize zi q.den=d at*
 by_cases hs:Sm n∧Sm d
 ·obtain⟨h1,h2⟩:=hs
  rw[fy h1.ok,fy h2.ok]
  unfold Sm at h1 h2
  simp only[]
  rw[decide_eq_false (show ¬n≤-2147483648 by omega),decide_eq_false (show ¬2147483648≤n by omega),decide_eq_false (show ¬d≤-2147483648 by omega),decide_eq_false (show ¬2147483648≤d by omega)]
  simp only[Bool.not_true,gU,bk]
  by_cases h0:d=0
  ·rw[decide_eq_true h0,gD]
   refine⟨_,_,_,rfl,fun _=>⟨h1,by decide,⟨by decide,by decide⟩,?_⟩⟩
   rw[←hv,if_pos h0]
  ·rw[decide_eq_false h0,gU]
   rw[if_neg h0]at hv
   by_cases hneg:d<0
   ·rw[decide_eq_true hneg,gD,dg (by omega) (by omega),dg (by omega) (by omega)]
    refine⟨_,_,_,rfl,fun _=>⟨⟨by omega,by omega⟩,by omega,⟨by omega,by omega⟩,?_⟩⟩
    rw[Int.zero_sub,Int.zero_sub,Rat.neg_divInt_neg,hv]
   ·rw[decide_eq_false hneg,gU]
    exact⟨_,_,_,rfl,fun _=>⟨h1,by omega,h2,hv⟩⟩
 ·refine⟨0,0,false,?_,fun e=>by cases e⟩
  by_cases o1:c8 n
  ·by_cases o2:c8 d
   ·rw[fy o1,fy o2]
    simp only[Bool.not_true,gU,bk]
    unfold Sm at hs
    by_cases c1:n≤-2147483648
    ·rw[decide_eq_true c1];simp only[bk,gD]
    ·rw[decide_eq_false c1];simp only[bk,gU]
     by_cases c2:2147483648≤n
     ·rw[decide_eq_true c2];simp only[bk,gD]
     ·rw[decide_eq_false c2];simp only[bk,gU]
      by_cases c3:d≤-2147483648
      ·rw[decide_eq_true c3];simp only[bk,gD]
      ·rw[decide_eq_false c3];simp only[bk,gU]
       rw[decide_eq_true (show 2147483648≤d by omega)];simp only[gD]
   ·rw[fy o1,jX o2];simp only[Bool.not_true,Bool.not_false,gU,bk,gD]
  ·rw[jX o1];simp only[Bool.not_false,bk,gD]
theorem Br{a g:Int}(hg:0<g)(h:g∣a):Int.tdiv a g=a/g:=by
 obtain⟨k,rfl⟩:=h
 rw[Int.mul_tdiv_cancel_left _ (by omega),Int.mul_ediv_cancel_left _ (by omega)]
theorem wB{n d:Int}(hd:0<d)(hd':d≤9223372036854775807)(hn: -9223372036854775807≤n)(hn':n≤9223372036854775807):eY n d=some (qn (Rat.divInt n d)):=by
 unfold eY
 simp only[bk,cz]
 refine k7 (fun s=>Int.gcd s.1 s.2=Int.gcd n d∧s.1.natAbs≤9223372036854775807∧s.2.natAbs≤9223372036854775807) (fun e=>e.natAbs=Int.gcd n d∧e.natAbs≤9223372036854775807) (fun s=>s.2.natAbs) ?_ ⟨rfl,by simp only[];omega,by simp only[];omega⟩ ?_
 ·rintro⟨a,b⟩ ⟨i1,i2,i3⟩
  simp only at i1 i2 i3⊢
  by_cases hb:b=0
  ·right
   subst hb
   refine⟨a,by simp,?_,i2⟩
   rw[←i1];simp[Int.gcd]
  ·left
   rw[decide_eq_true hb,gD,D8,if_neg hb,bk]
   have hm:(Int.tmod a b).natAbs=a.natAbs%b.natAbs:=Int.natAbs_tmod a b
   have hlt:=Nat.mod_lt a.natAbs (Int.natAbs_pos.2 hb)
   refine⟨_,rfl,⟨?_,i3,by simp only[];omega⟩,by simp only[];omega⟩
   simp only[]
   rw[←i1,Int.gcd,Int.gcd,hm,Nat.gcd_comm b.natAbs,←Nat.gcd_rec,Nat.gcd_comm]
 ·rintro e ⟨he,hle⟩
  obtain⟨g,hg⟩:∃g:Int,(Int.gcd n d:Int)=g:=⟨_,rfl⟩
  have Xj:0<g:=by have:=Int.gcd_pos_of_ne_zero_right n (show d≠0 by omega);omega
  have hgn:g∣n:=hg▸Int.gcd_dvd_left ..
  have hgd:g∣d:=hg▸Int.gcd_dvd_right ..
  have hK:∀m:Int,m=g→(bif decide (m=d)then(qp n m).bind fun eo=>(aC eo).bind fun x=>some (⟨⟨x.neg,x.w⟩,⟨false,[]⟩⟩:Qr)else(qp n m).bind fun fR=>(aC fR).bind fun x=>(qp d m).bind fun kO=>(aC kO).bind fun y=>some ⟨⟨x.neg,x.w⟩,⟨y.neg,y.w⟩⟩)=some (qn (Rat.divInt n d)):=by
   rintro m rfl
   have b1:(n/m).natAbs≤n.natAbs:=Int.natAbs_ediv_le_natAbs _ _
   have b2:(d/m).natAbs≤d.natAbs:=Int.natAbs_ediv_le_natAbs _ _
   have q1:qp n m=some (n/m):=by
    rw[qp,if_neg (by omega),Br Xj hgn,dg (by omega) (by omega)]
   have q2:qp d m=some (d/m):=by
    rw[qp,if_neg (by omega),Br Xj hgd,dg (by omega) (by omega)]
   rw[xV hd,hg,q1,q2]
   simp only[bk,eu (x:=n/m) (by omega) (by omega),eu (x:=d/m) (by omega) (by omega),zeta']
   by_cases e1:m=d
   ·rw[decide_eq_true e1,gD,if_pos (by rw[e1];exact Int.ediv_self (by omega))]
   ·rw[decide_eq_false e1,gU,if_neg]
    intro e2
    have:=Int.ediv_mul_cancel hgd
    rw[e2]at this;omega
  by_cases hneg:e<0
  ·rw[decide_eq_true hneg,gD,dg (by omega) (by omega)]
   exact hK _ (by omega)
  ·rw[decide_eq_false hneg,gU]
   exact hK _ (by omega)
theorem jG{a b:Int}(ha:Sm a)(hb:Sm b): -4611686018427387904<a*b∧a*b<4611686018427387904:=by
 unfold Sm at ha hb
 have h1:(a*b).natAbs=a.natAbs*b.natAbs:=Int.natAbs_mul a b
 have h2:a.natAbs*b.natAbs≤2147483647*2147483647:=Nat.mul_le_mul (by omega) (by omega)
 omega
theorem uP{a b:Int}(ha:0<a)(hb:0<b):0<a*b:=Int.mul_pos ha hb
section ops
variable {L M:Nat}{a b:Qr}{x y:Rat}
theorem je.add(ha:je L a x)(hb:je M b y)(h:L+M≤4000000000):vR a b=some (qn (x+y))∧je (L+M+1) (qn (x+y)) (x+y):=by
 refine⟨?_,(ha.fq.add hb.fq).rep (by omega)⟩
 obtain⟨n1,d1,c1,e1,k1⟩:=nN ha (by omega)
 obtain⟨n2,d2,c2,e2,k2⟩:=nN hb (by omega)
 obtain⟨p1,q1,f1,w1,w2,g1,v1,t1,t2⟩:=parts_eq ha (by omega)
 obtain⟨p2,q2,f2,w3,w4,g2,v2,t3,t4⟩:=parts_eq hb (by omega)
 have HP:jS a b=some (qn (x+y)):=by
  unfold jS jt
  have u1:=di (t1.mul t4) (by omega)
  have u2:=di (t3.mul t2) (by omega)
  have u3:=di (t2.mul t4) (by omega)
  have u4:=di ((t1.mul t4).add ((t3.mul t2).mono (by omega))) (by omega)
  simp only[zeta',ru,ry,f1,f2,bk,mul_eq w1 w4,mul_eq w3 w2,add_eq u1 u2,mul_eq w2 w4,bG]
  rw[reduce_eq u4 u3 (by rw[bG];have:=uP g1 g2;omega),bk,bG,bG,←v1,←v2,Rat.divInt_add_divInt _ _ (by omega) (by omega)]
 unfold vR
 simp only[zeta',ru,ry,e1,e2,bk,cz,HP]
 cases c1
 ·rw[gU,bk,gU]
 ·cases c2
  ·rw[gD,bk,gU]
  ·obtain⟨s1,s2,s3,s4⟩:=k1 rfl
   obtain⟨s5,s6,s7,s8⟩:=k2 rfl
   have m1:=jG s1 s7
   have m2:=jG s5 s3
   have m3:=jG s3 s7
   have m4:=uP s2 s6
   rw[gD,bk,gD,dg (x:=n1*d2) (by omega) (by omega),dg (x:=n2*d1) (by omega) (by omega),dg (x:=d1*d2) (by omega) (by omega),dg (by omega) (by omega),wB m4 (by omega) (by omega) (by omega),bk,←s4,←s8,Rat.divInt_add_divInt _ _ (by omega) (by omega)]
theorem je.sub(ha:je L a x)(hb:je M b y)(h:L+M≤4000000000):iK a b=some (qn (x-y))∧je (L+M+1) (qn (x-y)) (x-y):=by
 refine⟨?_,(ha.fq.sub hb.fq).rep (by omega)⟩
 obtain⟨n1,d1,c1,e1,k1⟩:=nN ha (by omega)
 obtain⟨n2,d2,c2,e2,k2⟩:=nN hb (by omega)
 obtain⟨p1,q1,f1,w1,w2,g1,v1,t1,t2⟩:=parts_eq ha (by omega)
 obtain⟨p2,q2,f2,w3,w4,g2,v2,t3,t4⟩:=parts_eq hb (by omega)
 have HP:fM a b=some (qn (x-y)):=by
  unfold fM ez
  have u1:=di (t1.mul t4) (by omega)
  have u2:=di (t3.mul t2) (by omega)
  have u3:=di (t2.mul t4) (by omega)
  have u4:=di ((t1.mul t4).sub ((t3.mul t2).mono (by omega))) (by omega)
  simp only[zeta',ru,ry,f1,f2,bk,mul_eq w1 w4,mul_eq w3 w2,sub_eq u1 u2,mul_eq w2 w4,bG]
  rw[reduce_eq u4 u3 (by rw[bG];have:=uP g1 g2;omega),bk,bG,bG,←v1,←v2,Rat.divInt_sub_divInt _ _ (by omega) (by omega)]
 unfold iK
 simp only[zeta',ru,ry,e1,e2,bk,cz,HP]
 cases c1
 ·rw[gU,bk,gU]
 ·cases c2
  ·rw[gD,bk,gU]
  ·obtain⟨s1,s2,s3,s4⟩:=k1 rfl
   obtain⟨s5,s6,s7,s8⟩:=k2 rfl
   have m1:=jG s1 s7
   have m2:=jG s5 s3
   have m3:=jG s3 s7
   have m4:=uP s2 s6
   rw[gD,bk,gD,dg (x:=n1*d2) (by omega) (by omega),dg (x:=n2*d1) (by omega) (by omega),dg (x:=d1*d2) (by omega) (by omega),dg (by omega) (by omega),wB m4 (by omega) (by omega) (by omega),bk,←s4,←s8,Rat.divInt_sub_divInt _ _ (by omega) (by omega)]
theorem je.canon(ha:je L a x)(h:L≤10000000000):iJ a=some (qn x)∧je L (qn x) x:=by
 refine⟨?_,ha.fq.rep ha.l1⟩
 obtain⟨n1,d1,c1,e1,k1⟩:=nN ha (by omega)
 obtain⟨p1,q1,f1,w1,w2,g1,v1,t1,t2⟩:=parts_eq ha (by omega)
 unfold iJ
 simp only[zeta',ru,ry,e1,bk,f1]
 cases c1
 ·rw[gU,reduce_eq w1 w2 (by omega),bk,v1]
 ·obtain⟨s1,s2,s3,s4⟩:=k1 rfl
  unfold Sm at s1 s3
  rw[gD,wB s2 (by omega) (by omega) (by omega),bk,s4]
end ops
end Go.Proofs.Ytmiflmkdaeianaa
namespace Go.Proofs.Ytmiflmkdaeianaa
open Go.Fw
theorem zD{p q:Int}(hq:0<q):(Rat.divInt p q).floor=p/q:=by
 have key:∀k:Int,k≤(Rat.divInt p q).floor↔k≤p/q:=by
  intro k
  rw[Rat.le_floor_iff,←Rat.not_lt,show(k:Rat)=Rat.divInt k 1 by rw[Rat.divInt_eq_div];show _=(k:Rat)/1;grind,xU hq (by decide),Int.mul_one,Int.not_lt,Int.le_ediv_iff_mul_le hq]
 exact Int.le_antisymm ((key _).1 (Int.le_refl _)) ((key _).2 (Int.le_refl _))
theorem xW{p q u v:Int}(hq:0<q)(hv:0<v)(h:p.sign≠u.sign∨p.sign=0):kq (IntKind.i64.wrap (p.sign-u.sign))=some (my (p*v) (u*q)):=by
 have pv:0<p→0<p*v:=fun h=>Int.mul_pos h hv
 have pv':p<0→p*v<0:=fun h=>Int.mul_neg_of_neg_of_pos h hv
 have uq:0<u→0<u*q:=fun h=>Int.mul_pos h hq
 have uq':u<0→u*q<0:=fun h=>Int.mul_neg_of_neg_of_pos h hq
 rcases Int.lt_trichotomy p 0 with e1|e1|e1<;>rcases Int.lt_trichotomy u 0 with e2|e2|e2
 ·rw[Int.sign_eq_neg_one_of_neg e1,Int.sign_eq_neg_one_of_neg e2]at h;simp at h
 ·have:=pv' e1
  rw[Int.sign_eq_neg_one_of_neg e1,e2,Int.zero_mul,jB this];rfl
 ·have:=pv' e1
  have:=uq e2
  rw[Int.sign_eq_neg_one_of_neg e1,Int.sign_eq_one_of_pos e2,jB (by omega)];rfl
 ·have:=uq' e2
  rw[Int.sign_eq_neg_one_of_neg e2,e1,Int.zero_mul,jC this];rfl
 ·rw[e1,e2,Int.zero_mul,Int.zero_mul];rfl
 ·have:=uq e2
  rw[Int.sign_eq_one_of_pos e2,e1,Int.zero_mul,jB this];rfl
 ·have:=pv e1
  have:=uq' e2
  rw[Int.sign_eq_one_of_pos e1,Int.sign_eq_neg_one_of_neg e2,jC (by omega)];rfl
 ·have:=pv e1
  rw[Int.sign_eq_one_of_pos e1,e2,Int.zero_mul,jC this];rfl
 ·rw[Int.sign_eq_one_of_pos e1,Int.sign_eq_one_of_pos e2]at h;simp at h
theorem OL(i:Int):qn (i:Rat)=⟨zn i,⟨false,[]⟩⟩:=by
 unfold qn
 rw[Rat.den_intCast,if_pos rfl,Rat.num_intCast]
section ops
variable {L M:Nat}{a b:Qr}{x y:Rat}
theorem je.neg(ha:je L a x)(h:L≤10000000000):vV a=some (qn (-x))∧je L (qn (-x)) (-x):=by
 refine⟨?_,ha.fq.neg.rep ha.l1⟩
 unfold vV
 have r:=(ha.canon h).2
 simp only[zeta',ru,ry,(ha.canon h).1,bk,neg_eq (r.wn h)]
 show some (⟨zn (-zi (zn x.num)),_⟩:Qr)=some (qn (-x))
 rw[bG];rfl
theorem je.cmp(ha:je L a x)(hb:je M b y)(h:L+M≤4000000000):jT a b=some (Bq x y):=by
 obtain⟨p1,q1,f1,w1,w2,g1,v1,t1,t2⟩:=parts_eq ha (by omega)
 obtain⟨p2,q2,f2,w3,w4,g2,v2,t3,t4⟩:=parts_eq hb (by omega)
 unfold jT
 have u1:=di (t1.mul t4) (by omega)
 have u2:=di (t3.mul t2) (by omega)
 simp only[zeta',ru,ry,f1,f2,bk,cz,sign_eq w1,sign_eq w3,mul_eq w1 w4,mul_eq w3 w2,OH u1 u2,bG]
 rw[←v1,←v2,HO g1 g2]
 by_cases e1:(zi p1).sign=(zi p2).sign
 ·rw[show decide ((zi p1).sign≠(zi p2).sign)=false by simp[e1],gU,bk]
  by_cases e2:(zi p1).sign=0
  ·rw[decide_eq_true e2,gD,xW g1 g2 (.inr e2),bk]
  ·rw[decide_eq_false e2,gU]
 ·rw[show decide ((zi p1).sign≠(zi p2).sign)=true by simp[e1],gD,bk,gD,xW g1 g2 (.inl e1),bk]
theorem je.floor(ha:je L a x)(h:L≤10000000000):ig a=some (zn x.floor):=by
 obtain⟨p1,q1,f1,w1,w2,g1,v1,t1,t2⟩:=parts_eq ha h
 unfold ig
 simp only[zeta',ru,ry,f1,bk,divMod_eq w1 w2]
 rw[HN,if_neg (by omega),←v1,zD g1]
theorem new_eq{n d:Int}(hn:c8 n)(hd:c8 d)(h0:d≠0):iI n d=some (qn (Rat.divInt n d),0)∧je 2 (qn (Rat.divInt n d)) (Rat.divInt n d):=by
 refine⟨?_,(lu h0 (sx hn) (sx hd)).rep (by decide)⟩
 unfold iI
 simp only[zeta',ru,ry,bk,eu hn.1 hn.2,eu hd.1 hd.2]
 rw[decide_eq_false h0,gU,reduce_eq (Bp hn) (Bp hd) (by rw[bG];exact h0),bk,bG,bG]
theorem zE:zi ⟨false,[]⟩=0:=rfl
theorem zF:Wl ⟨false,[]⟩:=⟨by simp,by simp⟩
theorem wC{z:Zr}(hz:Wl z):cU z=some (qn (zi z:Rat)):=by
 unfold cU iT
 simp only[zeta',bk,add_eq hz zF,zE,Int.add_zero]
 rw[OL]
end ops
end Go.Proofs.Ytmiflmkdaeianaa
namespace Go.Proofs.Ytmiflmkdaeianaa
open Go.Fw
theorem tm{a:Nat}:Int.tmod (a:Int) 65536=((a%65536:Nat):Int):=by
 rw[Int.tmod_eq_emod_of_nonneg (by omega)];omega
end Go.Proofs.Ytmiflmkdaeianaa
namespace Go.Proofs.Ytmiflmkdaeianaa
open Go.Fw
abbrev OkQ(q:Qr):Prop:=OkZ q.num∧OkZ q.den
theorem OM{q:Qr}{L:Nat}(h:OkQ q)(h1:q.num.w.length≤L)(h2:q.den.w.length≤L)(hL:1≤L):je L q (qv q):=⟨h.1.2.2,h.2.2.2,h1,h2,hL,rfl⟩
end Go.Proofs.Ytmiflmkdaeianaa
namespace Go.Proofs.Ytmiflmkdaeianaa
open Go.Fw
theorem abo(x y:Rat):x<y∨x=y∨y<x:=by grind
theorem ud{i:Int}{L:Nat}(h:Fit L i)(h1:1≤L)(hL:L≤10000000000):cU (zn i)=some (qn (i:Rat))∧je L (qn (i:Rat)) (i:Rat):=by
 refine⟨?_,(FQ.int h h1).rep h1⟩
 rw[wC (di h hL),bG]
end Go.Proofs.Ytmiflmkdaeianaa
namespace Go.Proofs.Ytmiflmkdaeianaa
open Go.Fw
theorem eC{J R:Type}{f:J→Option R}{g:(J→Option R)→Option R}{r:Option R}(h:g f=r):cz f g=r:=h
theorem dT{p:Prop}[Decidable p](h:p):(some (decide p):Option Bool)=some true:=congrArg some (decide_eq_true h)
theorem dF{p:Prop}[Decidable p](h:¬p):(some (decide p):Option Bool)=some false:=congrArg some (decide_eq_false h)
theorem pW{β:Type}{x:Option Bool}{f:Bool→Option β}{r:Option β}{y:Option Bool}(h:x=some true)(hf:f true=r):(bif true then x else y).bind f=r:=by rw[gD,h];exact hf
theorem orC{β:Type}{b c:Bool}{x:Option Bool}{f:Bool→Option β}{r:Option β}(h:b=false→x=some c)(hf:f (b||c)=r):(bif b then some true else x).bind f=r:=by
 cases b
 ·rw[gU,h rfl];exact hf
 ·rw[gD];exact hf
section ops
variable {K L M:Nat}{a b c:Qr}{x y z:Rat}
theorem je.sub'(ha:je L a x)(hb:je M b y)(h:L+M≤4000000000):∃q,iK a b=some q∧je (L+M+1) q (x-y):=⟨_,ha.sub hb h⟩
end ops
abbrev szZ(z:Zr):Nat:=1+((z.w.map fun _=>1).sum+1)+1
abbrev Pu(q:Qr):Nat:=szZ q.num+szZ q.den+1
theorem DU{α:Type}(f:α→Nat):∀{l:List α} {x:α},x∈l→f x≤(l.map f).sum
 |y::l,x,h=>by
  rw[List.map_cons,List.sum_cons]
  rcases List.mem_cons.1 h with rfl|h
  ·omega
  ·have:=DU f h;omega
theorem DV{α:Type}:∀l:List α,(l.map fun _=>1).sum=l.length
 |[]=>rfl
 |_::l=>by rw[List.map_cons,List.sum_cons,DV l,List.length_cons];omega
theorem JZ(q:Qr):q.num.w.length≤Pu q∧q.den.w.length≤Pu q:=by
 simp only[Pu,szZ,DV];omega
theorem abq{q:Qr}(h:OkQ q)(s:Pu q≤1048576):je 1048576 q (qv q):=by
 have:=JZ q
 exact OM h (by omega) (by omega) (by decide)
theorem ON(l:List (List Qr))(hl:l.length≤9223372036854775807):∃b,ef l=some b∧(b=false→∀v∈l,v.length≤40):=by
 unfold ef
 refine jA (fun s=>∃(i:Nat) (n:Int),s=(n,(i:Int))∧i≤l.length∧∀v∈l.take i,v.length≤40) (fun e=>(e=.inl ()∧∀v∈l,v.length≤40)∨e=.inr true) (fun s=>l.length-s.2.toNat) ?_ ⟨0,0,rfl,by omega,by simp⟩ ?_
 ·rintro _ ⟨i,n,rfl,hi,ht⟩
  by_cases hlt:i<l.length
  ·have g:=List.getElem?_eq_getElem hlt
   by_cases h1:40<l[i].length
   ·exact .inr ⟨.inr true,bind_eq rfl<|bind_eq (dT (by omega))<|c7 rfl<|bind_eq (aE g)<|bind_eq rfl<|bind_eq (dT (by omega))<|c7 rfl rfl,.inr rfl⟩
   ·obtain⟨e,he,-⟩:=rM (body:=fun(s:Int×Int)=>match s with|⟨y3,y5⟩=>(show Option ((Int×Int)⊕Int)from(bJ l (i:Int)).bind fun iz=>(some (iz.length:Int)).bind fun iy=>(some (decide ((y5:Int)<iy))).bind fun eo=>(bif eo then(some (IntKind.i64.wrap (y3+1))).bind fun lC=>(bJ l (i:Int)).bind fun mD=>(bJ mD y5).bind fun⟨⟨xz,sQ⟩,⟨KR,KS⟩⟩=>(some (sQ.length:Int)).bind fun uw=>(some (min (100:Int) uw)).bind fun mE=>(some (IntKind.i64.wrap (lC+mE))).bind fun nW=>(bJ l (i:Int)).bind fun zI=>(bJ zI y5).bind fun⟨⟨AQ,AR⟩,⟨KT,Dg⟩⟩=>(some (Dg.length:Int)).bind fun ux=>(some (min (100:Int) ux)).bind fun H7=>(some (IntKind.i64.wrap (nW+H7))).bind fun tO=>(some (IntKind.i64.wrap (y5+1))).bind fun iH=>some (.inl (tO,iH))else some (.inr y3))))
     (s:=(n,0)) (fun s=>∃(k:Nat) (m:Int),s=(m,(k:Int))∧k≤l[i].length) (fun _=>True) (fun s=>l[i].length-s.2.toNat) (by
      rintro _ ⟨k,m,rfl,hk⟩
      by_cases hk2:k<l[i].length
      ·have gk:=List.getElem?_eq_getElem hk2
       generalize l[i][k]=q at gk
       refine .inl ⟨(_,((k+1:Nat):Int)),bind_eq (aE g)<|bind_eq rfl<|bind_eq (dT (by omega))<|c7 rfl<|bind_eq rfl<|bind_eq (aE g)<|bind_eq (aE gk)<|bind_eq rfl<|bind_eq rfl<|bind_eq rfl<|bind_eq (aE g)<|bind_eq (aE gk)<|bind_eq rfl<|bind_eq rfl<|bind_eq rfl<|bind_eq (congrArg some (bV (by omega))) rfl,⟨k+1,_,rfl,hk2⟩,by simp only[Int.toNat_natCast];omega⟩
      ·exact .inr ⟨m,bind_eq (aE g)<|bind_eq rfl<|bind_eq (dF (by omega))<|bF rfl rfl,trivial⟩) ⟨0,n,rfl,by omega⟩
    by_cases h2:400<e
    ·exact .inr ⟨.inr true,bind_eq rfl<|bind_eq (dT (by omega))<|c7 rfl<|bind_eq (aE g)<|bind_eq rfl<|bind_eq (dF (by omega))<|bF rfl<|bind_eq he<|bind_eq (dT h2)<|c7 rfl rfl,.inr rfl⟩
    ·refine .inl ⟨(e,((i+1:Nat):Int)),bind_eq rfl<|bind_eq (dT (by omega))<|c7 rfl<|bind_eq (aE g)<|bind_eq rfl<|bind_eq (dF (by omega))<|bF rfl<|bind_eq he<|bind_eq (dF h2)<|bF rfl<|bind_eq (congrArg some (bV (by omega))) rfl,⟨i+1,e,rfl,hlt,?_⟩,by simp only[Int.toNat_natCast];omega⟩
     rw[List.take_add_one,g]
     intro u hu
     rcases List.mem_append.1 hu with h|h
     ·exact ht u h
     ·simp at h;rw[h];omega
  ·refine .inr ⟨.inl (),bind_eq rfl<|bind_eq (dF (by omega))<|bF rfl rfl,.inl ⟨rfl,?_⟩⟩
   rw[List.take_of_length_le (by omega)]at ht;exact ht
 ·rintro e (⟨rfl,he⟩|rfl)
  ·exact⟨false,rfl,fun _=>he⟩
  ·exact⟨true,rfl,fun h=>by cases h⟩
end Go.Proofs.Ytmiflmkdaeianaa
namespace Go.Proofs.Ytmiflmkdaeianaa
open Go.Fw
def tD(x:Rat):Int:=if x-(x.floor:Rat)<1/2 then x.floor else if 1/2<x-(x.floor:Rat)then x.floor+1 else if x.floor%2=0 then x.floor else x.floor+1
theorem abr:Fit 1 1:=by unfold Fit;decide
theorem abt:Fit 1 2:=by unfold Fit;decide
theorem VB:Rat.divInt 1 2=1/2:=by rw[Rat.divInt_eq_div];simp
theorem OO{L:Nat}{x:Rat}(h:FQ L x):Fit L 1:=Fit.le h.2 (by have:=Rat.den_pos x;omega)
theorem J0{L:Nat}{x:Rat}(h:FQ L x):Fit (L+1) (tD x):=by
 have h1:=(h.floor).mono (show L≤L+1 by omega)
 have h2:Fit (L+1) (x.floor+1):=h.floor.add (OO h)
 unfold tD
 split
 ·exact h1
 ·split
  ·exact h2
  ·split
   ·exact h1
   ·exact h2
theorem HQ(i:Int):Fit 1 (i%2):=by
 have h1:=Int.emod_nonneg i (show(2:Int)≠0 by decide)
 have h2:=Int.emod_lt_of_pos i (show(0:Int)<2 by decide)
 unfold Fit
 omega
theorem ER(i:Int):decide ((i%2).sign=0)=decide (i%2=0):=by
 congr 1
 exact propext Int.sign_eq_zero_iff_zero
theorem je.round{L:Nat}{a:Qr}{x:Rat}(ha:je L a x)(h:L≤1000000000):dr a=some (zn (tD x)):=by
 have hf:=ha.fq
 have f1:=ha.floor (show L≤10000000000 by omega)
 obtain⟨n1,r1⟩:=new_eq (n:=1) (d:=2) (by decide) (by decide) (by decide)
 have w1:=eu (x:=1) (by decide) (by decide)
 have a1:=add_eq (di hf.floor (by omega)) (di abr (by decide))
 rw[bG,bG]at a1
 obtain⟨i1,s1⟩:=ud hf.floor ha.l1 (by omega)
 obtain⟨q,e,r⟩:=ha.sub' s1 (by omega)
 rw[VB]at n1 r1
 have c1:=r.cmp r1 (by omega)
 have w2:=eu (x:=2) (by decide) (by decide)
 have d1:=divMod_eq (di hf.floor (show L≤10000000000 by omega)) (di abt (by decide))
 rw[bG,bG]at d1
 replace d1:bU (zn x.floor) (zn 2)=some (zn (x.floor/2),zn (x.floor%2),0):=d1
 have g1:=sign_eq (di (HQ x.floor) (by decide))
 rw[bG]at g1
 have hr:zn (tD x)=if x-(x.floor:Rat)<1/2 then zn x.floor else if 1/2<x-(x.floor:Rat)then zn (x.floor+1)else if x.floor%2=0 then zn x.floor else zn (x.floor+1):=by
  unfold tD
  repeat' split
  all_goals rfl
 rw[hr]
 clear hr s1 r r1
 generalize qn (1/2)=q1 at n1 c1
 generalize qn (x.floor:Rat)=q2 at i1 e
 generalize hz0:zn x.floor=z0 at*
 generalize zn (x.floor+1)=z1 at*
 generalize zn (x.floor/2)=z2 at*
 generalize zn (x.floor%2)=z3 at*
 generalize zn 1=z4 at*
 generalize zn 2=z5 at*
 unfold dr
 refine bind_eq n1<|bind_eq f1<|bind_eq w1<|bind_eq a1<|bind_eq i1<|bind_eq e<|bind_eq c1 ?_
 rcases abo (x-(x.floor:Rat)) (1/2)with k|k|k
 ·rw[JW k,if_pos k]
  exact bind_eq (dT rfl)<|c7 rfl rfl
 ·rw[k,EP,if_neg Rat.lt_irrefl,if_neg Rat.lt_irrefl]
  refine bind_eq (dF (by decide))<|bF rfl<|bind_eq (dF (by decide))<|bF rfl<|bind_eq w2<|bind_eq d1<|bind_eq g1<|bind_eq (congrArg some (ER _)) ?_
  by_cases h2:x.floor%2=0
  ·rw[if_pos h2];exact c7 (decide_eq_true h2) rfl
  ·rw[if_neg h2];exact bF (decide_eq_false h2) rfl
 ·rw[JX k,if_neg (by grind),if_pos k]
  exact bind_eq (dF (by decide))<|bF rfl<|bind_eq (dT rfl)<|c7 rfl rfl
def zM(n:Int)(len:Nat)(acc:Int)(kd:Nat)(hour:Int):Int:=if ¬(0<acc∧acc<n)then 1 else if kd<1∨4<kd then 12 else if hour< -1∨8≤hour then 1 else if 1024≤len then 5 else 0
theorem rz{n:Int}{es:List En}(h:n≠0):bA n es=some false:=by
 unfold bA
 exact eC<|bind_eq (a:=false) (bF rfl<|bind_eq (dF h) rfl) rfl
theorem uQ(n:Int)(es:List En)(a:Int):eJ n es a=some (decide (0<a∧a<n)):=by
 unfold eJ
 refine eC<|bind_eq rfl ?_
 by_cases h:0<a
 ·exact bind_eq (a:=decide (0<a∧a<n)) (c7 (decide_eq_true h)<|bind_eq rfl (by simp[h])) rfl
 ·exact bind_eq (a:=decide (0<a∧a<n)) (bF (decide_eq_false h) (by simp[h])) rfl
theorem check_eq(n:Int)(es:List En)(acc:Int)(kd:Nat)(hour:Int)(c:Zr)(len:Nat):∃e,ij ⟨acc,kd,hour,c⟩ n es=some e∧(e≠0→zM n len acc kd hour=e)∧(e=0→zM n len acc kd hour=if 1024≤len then 5 else 0):=by
 unfold ij zM
 by_cases h1:0<acc∧acc<n
 ·by_cases h2:kd<1∨4<kd
  ·refine⟨12,bind_eq (uQ _ _ _)<|bind_eq rfl<|bF (by simp[h1])<|eC<|bind_eq rfl<|bind_eq (a:=true) ?_<|c7 rfl rfl,fun _=>by rw[if_neg (by simpa using h1),if_pos h2],by simp⟩
   by_cases h3:kd<1
   ·exact c7 (decide_eq_true h3) rfl
   ·exact bF (decide_eq_false h3)<|bind_eq (dT (by omega)) rfl
  ·by_cases h3:hour< -1∨8≤hour
   ·refine⟨1,bind_eq (uQ _ _ _)<|bind_eq rfl<|bF (by simp[h1])<|eC<|bind_eq rfl<|bind_eq (a:=false) (bF (decide_eq_false (by omega))<|bind_eq (dF (by omega)) rfl)<|bF rfl<|eC<|bind_eq rfl<|bind_eq (a:=true) ?_<|c7 rfl rfl,fun _=>by rw[if_neg (by simpa using h1),if_neg h2,if_pos h3],by simp⟩
    by_cases h4:hour< -1
    ·exact c7 (decide_eq_true h4) rfl
    ·exact bF (decide_eq_false h4)<|bind_eq (dT (by omega)) rfl
   ·exact⟨0,bind_eq (uQ _ _ _)<|bind_eq rfl<|bF (by simp[h1])<|eC<|bind_eq rfl<|bind_eq (a:=false) (bF (decide_eq_false (by omega))<|bind_eq (dF (by omega)) rfl)<|bF rfl<|eC<|bind_eq rfl<|bind_eq (a:=false) (bF (decide_eq_false (by omega))<|bind_eq (dF (by omega)) rfl)<|bF rfl rfl,by simp,fun _=>by rw[if_neg (by simpa using h1),if_neg h2,if_neg h3]⟩
 ·exact⟨1,bind_eq (uQ _ _ _)<|bind_eq rfl<|c7 (by simp[h1]) rfl,fun _=>by simp[h1],by simp⟩
def OP(n:Int)(es:List En)(m:Mv)(c:Zr):List En:=if zM n es.length m.acc m.kd m.hour=0 then es++[⟨m.acc,m.kd,m.hour,c⟩]else es
theorem move_eq{n:Int}{es:List En}{acc:Int}{kd:Nat}{hour:Int}{a:Qr}{L:Nat}{x:Rat}(hn:n≠0)(ha:je L a x)(hL:L≤1000000000)(hl:es.length≤1000000):
  aT n es acc kd hour a=some (zM n es.length acc kd hour,OP n es ⟨acc,kd,hour,a⟩ (zn (tD x))):=by
 obtain⟨e,he,h1,h2⟩:=check_eq n es acc kd hour ⟨false,[]⟩ es.length
 have hr:=ha.round hL
 unfold OP aT
 show(bA n es).bind _=some (zM n es.length acc kd hour,if zM n es.length acc kd hour=0 then es++[⟨acc,kd,hour,zn (tD x)⟩]else es)
 generalize zn (tD x)=z at hr⊢
 refine bind_eq (rz hn)<|bF rfl<|bind_eq he<|?_
 by_cases h0:e=0
 ·subst h0
  rw[h2 rfl]
  refine bind_eq (dF (by simp))<|bF rfl<|bind_eq rfl ?_
  by_cases h3:1024≤es.length
  ·rw[if_pos h3,if_neg (by decide)]
   exact bind_eq (dT (by omega))<|c7 rfl rfl
  ·rw[if_neg h3,if_pos rfl]
   exact bind_eq (dF (by omega))<|bF rfl<|bind_eq hr<|bind_eq (A8 (by decide) (by omega)) rfl
 ·rw[h1 h0,if_neg h0]
  exact bind_eq (dT h0)<|c7 rfl rfl
structure ue (n:Int) (K:Nat) (e:En):Prop where
 a:1≤e.acc
 b:e.acc<n
 k:1≤e.kd∧e.kd≤4
 z:e.dB=zn (zi e.dB)
 f:Fit K (zi e.dB)
def fV(f:En→Int)(es:List En):Int:=(es.map f).sum
theorem Bs(f:En→Int)(l k:List En):fV f (l++k)=fV f l+fV f k:=by simp[fV]
theorem xX(f:En→Int){es:List En}{k:Nat}(h:k<es.length):fV f (es.take (k+1))=fV f (es.take k)+f es[k]:=by
 rw[List.take_add_one,List.getElem?_eq_getElem h,Bs];simp[fV]
theorem DW{K:Nat}:∀{l:List Int},(∀c∈l,Fit K c)→l.sum.natAbs≤l.length*(4294967296^K-1)
 |[],_=>by simp
 |c::l,h=>by
  have h1:=h c (by simp)
  have h2:=DW (l:=l) (fun c hc=>h c (by simp[hc]))
  rw[List.sum_cons,List.length_cons,Nat.succ_mul]
  have:=Int.natAbs_add_le c l.sum
  unfold Fit at h1
  omega
theorem J1{K:Nat}{l:List Int}(h:∀c∈l,Fit K c)(hl:l.length≤4294967296):Fit (K+1) l.sum:=by
 have h1:=DW h
 have h2:=Nat.mul_le_mul_right (4294967296^K-1) hl
 have h3:=Nat.pow_pos (n:=K) (show 0<4294967296 by decide)
 unfold Fit
 rw[Nat.pow_succ,Nat.mul_comm (4294967296^K)]
 generalize 4294967296^K=m at*
 omega
theorem VC{K:Nat}:Fit K 0:=by unfold Fit;exact Nat.pow_pos (by decide)
theorem HR{K:Nat}{f:En→Int}{es:List En}(h:∀e∈es,Fit K (f e))(hl:es.length≤1000000):Fit (K+1) (fV f es):=
 J1 (fun c hc=>by obtain⟨e,he,rfl⟩:=List.mem_map.1 hc;exact h e he) (by simp;omega)
theorem wD{K:Nat}{f:En→Int}{es:List En}(h:∀e∈es,Fit K (f e))(k:Nat)(hl:es.length≤1000000):Fit (K+1) (fV f (es.take k)):=
 HR (fun e he=>h e (List.mem_of_mem_take he)) (by rw[List.length_take];omega)
def jD(i:Int)(e:En):Int:=if i=0 then-zi e.dB else if e.acc=i then zi e.dB else 0
theorem Bt{n:Int}{K:Nat}{e:En}(h:ue n K e)(i:Int):Fit K (jD i e):=by
 unfold jD
 split
 ·exact h.f.neg
 ·split
  ·exact h.f
  ·exact VC
def uf(n:Nat)(es:List En):List Zr:=(List.range n).map fun(i:Nat)=>zn (fV (jD (i:Int)) es)
theorem lz(n:Nat)(es:List En):(uf n es).length=n:=by simp[uf]
theorem jd{n i:Nat}(es:List En)(h:i<n):(uf n es)[i]? =some (zn (fV (jD (i:Int)) es)):=by simp[uf,h]
theorem HS{n:Nat}{es:List En}{k a:Nat}(hk:k<es.length)(hn:0<n)(ha:es[k].acc=(a:Int))(h1:1≤a)(h2:a<n):
  ((uf n (es.take k)).set a (zn (fV (jD a) (es.take k)+zi es[k].dB))).set 0 (zn (fV (jD 0) (es.take k)-zi es[k].dB))=uf n (es.take (k+1)):=by
 apply List.ext_getElem?
 intro i
 by_cases hi:i<n
 ·rw[jd _ hi,List.getElem?_set,List.getElem?_set,List.length_set,lz,jd _ hi,xX _ hk]
  by_cases e0:0=i
  ·subst e0
   rw[if_pos rfl,if_pos hn]
   rw[show jD ((0:Nat):Int) es[k]=-zi es[k].dB from if_pos rfl];rfl
  ·rw[if_neg e0]
   by_cases ea:a=i
   ·subst ea
    rw[if_pos rfl,if_pos hi]
    unfold jD;rw[if_neg (show ¬((a:Int)=0) by omega),if_pos ha]
   ·rw[if_neg ea]
    have:jD i es[k]=0:=by unfold jD;rw[if_neg (by omega),ha,if_neg (by omega)]
    rw[this,Int.add_zero]
 ·rw[List.getElem?_eq_none (by simp[lz];omega),List.getElem?_eq_none (by simp[lz];omega)]
theorem all_eq{n:Nat}{es:List En}{K:Nat}(hn:0<n)(hn2:n≤64)(he:∀e∈es,ue n K e)(hl:es.length≤1000000)(hK:K≤1000000000):fu n es=some (uf n es):=by
 unfold fu
 refine bind_eq (rz (by omega))<|bF rfl<|bind_eq (sn (by decide) (by omega))<|bind_eq rfl ?_
 refine bw (fun k=>((k:Int),uf n (es.take k))) es.length (uf n es) ?_ (fun k hk=>?_) ?_ rfl
 ·simp only[List.take_zero]
  congr 1
  apply List.ext_getElem?
  intro i
  by_cases hi:i<n
  ·rw[jd _ hi,List.getElem?_replicate,if_pos hi];rfl
  ·rw[List.getElem?_eq_none (by simp;omega),List.getElem?_eq_none (by simp[lz];omega)]
 ·have g:=List.getElem?_eq_getElem hk
  have ho:=he _ (List.getElem_mem hk)
  obtain⟨a,ha⟩:∃a:Nat,es[k].acc=(a:Int):=⟨es[k].acc.toNat,by have:=ho.a;omega⟩
  have h1:1≤a:=by have:=ho.a;omega
  have h2:a<n:=by have:=ho.b;omega
  have s:=HS hk hn ha h1 h2
  have f1:Fit (K+1) (fV (jD a) (es.take k)):=wD (fun e h=>Bt (he e h) _) k hl
  have f2:Fit (K+1) (fV (jD 0) (es.take k)):=wD (fun e h=>Bt (he e h) _) k hl
  have a1:=add_eq (di f1 (by omega)) (di ho.f (by omega))
  have a2:=sub_eq (di f2 (by omega)) (di ho.f (by omega))
  rw[bG,bG,←ho.z]at a1 a2
  have g1:=jd (es.take k) h2
  have g2:((uf n (es.take k)).set a (zn (fV (jD a) (es.take k)+zi es[k].dB)))[0]? =some (zn (fV (jD 0) (es.take k))):=by
   rw[List.getElem?_set,if_neg (by omega)];exact jd (es.take k) hn
  rw[←s]
  generalize hq:uf n (es.take k)=q at*
  have Pt:q.length=n:=by rw[←hq];exact lz _ _
  generalize zn (fV (jD a) (es.take k)+zi es[k].dB)=z1 at*
  generalize zn (fV (jD 0) (es.take k)-zi es[k].dB)=z2 at*
  generalize zn (fV (jD a) (es.take k))=z3 at*
  generalize zn (fV (jD 0) (es.take k))=z4 at*
  clear s ho f1 f2
  generalize es[k]=e at*
  obtain⟨acc,kd,hour,c⟩:=e
  replace ha:acc=(a:Int):=ha
  subst ha
  refine bind_eq (dT (by omega))<|c7 rfl<|bind_eq (dx hk)<|bind_eq g<|bind_eq (dx (by omega))<|bind_eq g1<|bind_eq a1<|bind_eq (dx (by omega))<|bind_eq (iO (by omega))<|bind_eq (dx (i:=0) (by simp;omega))<|bind_eq g2<|bind_eq a2<|bind_eq (dx (i:=0) (by simp;omega))<|bind_eq (iO (by simp;omega))<|bind_eq (congrArg some (bV (by omega))) rfl
 ·rw[List.take_length]
  exact bind_eq (dF (by omega))<|bF rfl rfl
theorem entries_eq{n:Nat}{es:List En}{K:Nat}(hn:0<n)(he:∀e∈es,ue n K e)(hl:es.length≤1000000)(hK:K≤1000000000):bL n es=some es:=by
 unfold bL
 refine bind_eq (rz (by omega))<|bF rfl<|bind_eq rfl<|bind_eq (sn (by decide) (by omega))<|bind_eq rfl ?_
 refine bw (fun k=>((k:Int),es.take k++List.replicate (es.length-k) (⟨0,0,0,⟨false,[]⟩⟩:En))) es.length es (by simp) (fun k hk=>?_) ?_ rfl
 ·have g:=List.getElem?_eq_getElem hk
  have ho:=he _ (List.getElem_mem hk)
  have a1:=add_eq (di ho.f (show K≤10000000000 by omega)) (show Wl ⟨false,[]⟩from zF)
  rw[bG,zE,Int.add_zero,←ho.z]at a1
  have s:(es.take k++List.replicate (es.length-k) (⟨0,0,0,⟨false,[]⟩⟩:En)).set k es[k]=es.take (k+1)++List.replicate (es.length-(k+1)) ⟨0,0,0,⟨false,[]⟩⟩:=by
   rw[List.set_append_right _ _ (by simp;omega),show k-(es.take k).length=0 by simp;omega,show es.length-k=(es.length-(k+1))+1 by omega,List.replicate_succ,List.set_cons_zero,List.take_add_one,g]
   simp only[Option.toList_some,List.append_assoc,List.singleton_append]
  rw[←s]
  have Pt:(es.take k++List.replicate (es.length-k) (⟨0,0,0,⟨false,[]⟩⟩:En)).length=es.length:=by simp;omega
  generalize (es.take k++List.replicate (es.length-k) (⟨0,0,0,⟨false,[]⟩⟩:En))=q at*
  clear s ho
  generalize es[k]=e at*
  obtain⟨acc,kd,hour,c⟩:=e
  refine bind_eq (dT (by omega))<|c7 rfl<|bind_eq (dx hk)<|bind_eq g<|bind_eq a1<|bind_eq (dx (by omega))<|bind_eq (iO (by omega))<|bind_eq (congrArg some (bV (by omega))) rfl
 ·simp only[List.take_length,Nat.sub_self,List.replicate_zero,List.append_nil]
  exact bind_eq (dF (by omega))<|bF rfl rfl
def E6(k:Nat)(e:En):Int:=if e.kd=k then zi e.dB else 0
theorem J2{n:Int}{K:Nat}{e:En}(h:ue n K e)(k:Nat):Fit K (E6 k e):=by
 unfold E6
 split
 ·exact h.f
 ·exact VC
theorem VD{n:Nat}{es:List En}{K:Nat}(hn:0<n)(he:∀e∈es,ue n K e)(hl:es.length≤1000000)(hK:K≤1000000000)(kind:Nat):fN n es kind=some (zn (fV (E6 kind) es)):=by
 unfold fN
 refine bind_eq (rz (by omega))<|bF rfl<|bind_eq rfl ?_
 refine bw (fun k=>((k:Int),(zn (fV (E6 kind) (es.take k))).neg,(zn (fV (E6 kind) (es.take k))).w)) es.length ((zn (fV (E6 kind) es)).neg,(zn (fV (E6 kind) es)).w) rfl (fun k hk=>?_) ?_ rfl
 ·have g:=List.getElem?_eq_getElem hk
  have ho:=he _ (List.getElem_mem hk)
  have f1:Fit (K+1) (fV (E6 kind) (es.take k)):=wD (fun e h=>J2 (he e h) _) k hl
  have a1:=add_eq (di f1 (by omega)) (di ho.f (by omega))
  rw[bG,bG,←ho.z]at a1
  rw[xX _ hk]
  have hkd:E6 kind es[k]=if es[k].kd=kind then zi es[k].dB else 0:=rfl
  generalize fV (E6 kind) (es.take k)=s at*
  rw[hkd]
  clear f1 ho hkd
  generalize es[k]=e at*
  obtain⟨acc,kd,hour,c⟩:=e
  refine bind_eq (dT (by omega))<|c7 rfl<|bind_eq (dx hk)<|bind_eq g<|bind_eq rfl<|eC ?_
  by_cases h:kd=kind
  ·rw[if_pos h]
   refine c7 (decide_eq_true h) ?_
   generalize zn (s+zi c)=z1 at*
   generalize zn s=z0 at*
   exact bind_eq a1<|bind_eq (congrArg some (bV (by omega))) rfl
  ·rw[if_neg h,Int.add_zero]
   exact bF (decide_eq_false h)<|bind_eq (congrArg some (bV (by omega))) rfl
 ·rw[List.take_length]
  exact bind_eq (dF (by omega))<|bF rfl rfl
theorem HT{n:Int}(h1:1≤n)(h2:n≤64):iN n=some (n,[]):=by
 unfold iN
 exact eC<|bind_eq (dF (by omega))<|bind_eq (a:=false) (bF rfl<|bind_eq (dF (by omega)) rfl) rfl
theorem HU{n:Int}{K:Nat}{es:List En}(he:∀e∈es,ue n K e)(hl:es.length≤1000000)(hK:K≤1000000000):ff es es=some true:=by
 unfold ff
 refine bind_eq rfl<|bind_eq rfl<|bind_eq (dF (by simp))<|bF rfl ?_
 refine bw (fun k=>(k:Int)) es.length (.inl ()) rfl (fun k hk=>?_) ?_ rfl
 ·have g:=List.getElem?_eq_getElem hk
  have ho:=he _ (List.getElem_mem hk)
  have s:=xT (x:=es[k].dB) (by
   rw[ho.z]
   have:(can 4294967296 (zi es[k].dB).natAbs).length≤K:=(cM (by decide)).2 ho.f
   show(can 4294967296 (zi es[k].dB).natAbs).length≤_
   omega)
  clear ho
  generalize es[k]=e at*
  obtain⟨acc,kd,hour,c⟩:=e
  refine bind_eq rfl<|bind_eq (dT (by omega))<|c7 rfl<|eC<|bind_eq (aE g)<|bind_eq (aE g)<|bind_eq (dF (by simp)) ?_
  refine bind_eq (a:=false) (bF rfl<|bind_eq (aE g)<|bind_eq (aE g)<|bind_eq (dF (by simp)) rfl) ?_
  refine bind_eq (a:=false) (bF rfl<|bind_eq (aE g)<|bind_eq (aE g)<|bind_eq (dF (by simp)) rfl) ?_
  refine bind_eq (a:=false) (bF rfl<|bind_eq (aE g)<|bind_eq (aE g)<|bind_eq s<|bind_eq rfl rfl) ?_
  exact bF rfl<|bind_eq (congrArg some (bV (by omega))) rfl
 ·exact bind_eq rfl<|bind_eq (dF (by omega))<|bF rfl rfl
end Go.Proofs.Ytmiflmkdaeianaa
namespace Go.Proofs.Ytmiflmkdaeianaa
open Go.Fw
def DX(x:Rat)(r:Int):Prop:=(2*(x-(r:Rat))<1∧-1<2*(x-(r:Rat)))∨((2*(x-(r:Rat))=1∨2*(x-(r:Rat))=-1)∧r%2=0)
theorem Bu(l:Int):((l+1:Int):Rat)=(l:Rat)+1:=by rw[Rat.intCast_add];rfl
theorem Bv(x:Rat):DX x (tD x):=by
 have h1:=Rat.floor_le x
 have h2:=Rat.lt_floor_add_one x
 rw[Bu]at h2
 have hh:(1:Rat)/2+1/2=1:=by grind
 unfold tD
 generalize x.floor=l at*
 split
 ·exact .inl (by constructor<;>grind)
 ·split
  ·exact .inl (by rw[Bu];constructor<;>grind)
  ·have e:2*(x-(l:Rat))=1:=by grind
   split
   ·rename_i h;exact .inr ⟨.inl e,h⟩
   ·refine .inr ⟨.inr ?_,by omega⟩
    rw[Bu];grind
theorem DY{x y:Rat}{r s:Int}(h:DX x r)(k:DX y s)(e:x≤y):r≤s:=by
 by_cases KI:r≤s
 ·exact KI
 ·exfalso
  have h2:((s+1:Int):Rat)≤(r:Rat):=Rat.intCast_le_intCast.2 (by omega)
  rw[Bu]at h2
  have a1: -1≤2*(x-(r:Rat)):=by rcases h with h|⟨h|h,_⟩<;>grind
  have a2:2*(y-(s:Rat))≤1:=by rcases k with h|⟨h|h,_⟩<;>grind
  have e1:(r:Rat)=((s+1:Int):Rat):=by rw[Bu];grind
  have e2:r=s+1:=Rat.intCast_inj.1 e1
  have b1:r%2=0:=by
   rcases h with⟨h,h'⟩|⟨_,h⟩
   ·exfalso;grind
   ·exact h
  have b2:s%2=0:=by
   rcases k with⟨h,h'⟩|⟨_,h⟩
   ·exfalso;grind
   ·exact h
  omega
theorem nO{x:Rat}{r:Int}(h:DX x r):tD x=r:=Int.le_antisymm (DY (Bv x) h Rat.le_refl) (DY h (Bv x) Rat.le_refl)
theorem J3{i n:Int}{K:Nat}(hf:Fit K i)(hK:K≤10000000000)(hn:c8 n)(e:i=n):cV (zn i) n=some true:=by
 subst e
 have h1:=eu hn.1 hn.2
 have h2:=xT (x:=zn i) (Nat.le_trans (di hf hK).2 (by decide))
 unfold cV
 generalize zn i=z at*
 exact bind_eq h1<|bind_eq h2 rfl
theorem gN{n:Int}(hn:c8 n):cV (zn n) n=some true:=J3 (K:=2) (Fit.i64 hn.1 hn.2) (by decide) hn rfl
theorem jH{n d:Int}(hn:c8 n)(hd:c8 d)(h0:d≠0):∃q,bQ n d=some q∧je 2 q (Rat.divInt n d):=by
 obtain⟨h,r⟩:=new_eq hn hd h0
 refine⟨_,?_,r⟩
 unfold bQ
 generalize qn (Rat.divInt n d)=q at*
 exact bind_eq h rfl
theorem rA{n:Int}{es:List En}{acc:Int}{kd:Nat}{hour:Int}{a:Qr}{L:Nat}{x:Rat}(e:Int)(hn:n≠0)(ha:je L a x)(hL:L≤1000000000)(hl:es.length≤1000000)(he:zM n es.length acc kd hour=e)(h0:e≠0):aT n es acc kd hour a=some (e,es):=by
 rw[move_eq hn ha hL hl]
 unfold OP
 show some (zM n es.length acc kd hour,if zM n es.length acc kd hour=0 then es++[⟨acc,kd,hour,zn (tD x)⟩]else es)=_
 rw[he,if_neg h0]
theorem xY{n:Int}{es:List En}{acc:Int}{kd:Nat}{hour:Int}{a:Qr}{L:Nat}{x:Rat}(hn:n≠0)(ha:je L a x)(hL:L≤1000000000)(hl:es.length≤1000000)(he:zM n es.length acc kd hour=0)(r:Int)(hr:tD x=r):aT n es acc kd hour a=some (0,es++[⟨acc,kd,hour,zn r⟩]):=by
 rw[move_eq hn ha hL hl]
 unfold OP
 show some (zM n es.length acc kd hour,if zM n es.length acc kd hour=0 then es++[⟨acc,kd,hour,zn (tD x)⟩]else es)=_
 rw[he,if_pos rfl,hr]
theorem r52:tD (Rat.divInt 5 2)=2:=nO (.inr ⟨.inl (by rw[Rat.divInt_eq_div];show 2*((5:Rat)/2-2)=1;grind),rfl⟩)
theorem r72:tD (Rat.divInt 7 2)=4:=nO (.inr ⟨.inr (by rw[Rat.divInt_eq_div];show 2*((7:Rat)/2-4)=-1;grind),rfl⟩)
theorem abu:tD (Rat.divInt (-5) 2)=-2:=nO (.inr ⟨.inr (by rw[Rat.divInt_eq_div];show 2*((-5:Rat)/2-(-2))=-1;grind),rfl⟩)
theorem r83:tD (Rat.divInt 8 3)=3:=nO (.inl (by rw[Rat.divInt_eq_div];show 2*((8:Rat)/3-3)<1∧-1<2*((8:Rat)/3-3);constructor<;>grind))
theorem abv:tD (Rat.divInt (-7) 1)=-7:=nO (.inl (by rw[Rat.divInt_eq_div];show 2*((-7:Rat)/1-(-7))<1∧-1<2*((-7:Rat)/1-(-7));constructor<;>grind))
theorem pX:fB=some true:=by
 obtain⟨q1,e1,s1⟩:=jH (n:=5) (d:=2) (by decide) (by decide) (by decide)
 obtain⟨q2,e2,s2⟩:=jH (n:=-7) (d:=1) (by decide) (by decide) (by decide)
 obtain⟨q3,e3,s3⟩:=jH (n:=1) (d:=1) (by decide) (by decide) (by decide)
 obtain⟨q4,e4,s4⟩:=jH (n:=7) (d:=2) (by decide) (by decide) (by decide)
 obtain⟨q5,e5,s5⟩:=jH (n:=-5) (d:=2) (by decide) (by decide) (by decide)
 obtain⟨q6,e6,s6⟩:=jH (n:=8) (d:=3) (by decide) (by decide) (by decide)
 have m1:=xY (n:=3) (es:=[]) (acc:=1) (kd:=1) (hour:=0) (by decide) s1 (by decide) (by simp) (by decide) 2 r52
 have m2:=xY (n:=3) (es:=[]++[⟨1,1,0,zn 2⟩]) (acc:=2) (kd:=1) (hour:=0) (by decide) s2 (by decide) (by simp) (by decide) (-7) abv
 obtain⟨es,VE⟩:∃es,([]++[⟨1,1,0,zn 2⟩]++[⟨2,1,0,zn (-7)⟩]:List En)=es:=⟨_,rfl⟩
 have hlen:es.length=2:=by rw[←VE];rfl
 have L6:ue (3:Nat) 1 ⟨1,1,0,zn 2⟩:=⟨by decide,by decide,by decide,by rw[bG],by rw[bG];unfold Fit;decide⟩
 have Xq:ue (3:Nat) 1 ⟨2,1,0,zn (-7)⟩:=⟨by decide,by decide,by decide,by rw[bG],by rw[bG];unfold Fit;decide⟩
 have hok:∀e∈es,ue (3:Nat) 1 e:=by
  rw[←VE];intro e he
  simp only[List.nil_append,List.cons_append,List.mem_cons,List.not_mem_nil,or_false]at he
  rcases he with rfl|rfl
  ·exact L6
  ·exact Xq
 have VF:∀f:En→Int,fV f es=f ⟨1,1,0,zn 2⟩+f ⟨2,1,0,zn (-7)⟩:=fun f=>by rw[←VE];simp[fV]
 have a1:=all_eq (n:=3) (by decide) (by decide) hok (by omega) (by decide)
 have g0:=jd (n:=3) (i:=0) es (by decide)
 have g1:=jd (n:=3) (i:=1) es (by decide)
 have g2:=jd (n:=3) (i:=2) es (by decide)
 have gl:=lz 3 es
 have b0:fV (jD ((0:Nat):Int)) es=5:=by rw[VF];unfold jD;simp only[bG];decide
 have b1:fV (jD ((1:Nat):Int)) es=2:=by rw[VF];unfold jD;simp only[bG];decide
 have b2:fV (jD ((2:Nat):Int)) es=-7:=by rw[VF];unfold jD;simp only[bG];decide
 have b3:fV (E6 1) es=-5:=by rw[VF];unfold E6;simp only[bG];decide
 rw[b0]at g0
 rw[b1]at g1
 rw[b2]at g2
 have y1:=VD (n:=3) (by decide) hok (by omega) (by decide) 1
 rw[b3]at y1
 have n1:=entries_eq (n:=3) (by decide) hok (by omega) (by decide)
 rw[VE]at m2
 have m3:=rA (n:=3) (es:=es) (acc:=3) (kd:=1) (hour:=0) 1 (by decide) s3 (by decide) (by omega) (by rw[hlen];decide) (by decide)
 have m4:=rA (n:=3) (es:=es) (acc:=0) (kd:=1) (hour:=0) 1 (by decide) s3 (by decide) (by omega) (by rw[hlen];decide) (by decide)
 have m5:=rA (n:=3) (es:=es) (acc:=1) (kd:=5) (hour:=0) 12 (by decide) s3 (by decide) (by omega) (by rw[hlen];decide) (by decide)
 have m6:=rA (n:=3) (es:=es) (acc:=1) (kd:=4) (hour:=8) 1 (by decide) s3 (by decide) (by omega) (by rw[hlen];decide) (by decide)
 have o1:=s1.round (by decide)
 have o2:=s4.round (by decide)
 have o3:=s5.round (by decide)
 have o4:=s6.round (by decide)
 rw[r52]at o1
 rw[r72]at o2
 rw[abu]at o3
 rw[r83]at o4
 have i1:=gN (n:=2) (by decide)
 have i2:=gN (n:=4) (by decide)
 have i3:=gN (n:=-2) (by decide)
 have i4:=gN (n:=3) (by decide)
 have i5:=gN (n:=5) (by decide)
 have i6:=gN (n:=-7) (by decide)
 have i7:=gN (n:=-5) (by decide)
 generalize uf 3 es=al at*
 clear hok VF L6 Xq VE b0 b1 b2 b3
 generalize ([]++[⟨1,1,0,zn 2⟩]:List En)=es1 at*
 generalize zn 2=z2 at*
 generalize zn 4=z4 at*
 generalize zn (-2)=z2' at*
 generalize zn 3=z3 at*
 generalize zn 5=z5 at*
 generalize zn (-7)=z7 at*
 generalize zn (-5)=z5' at*
 unfold fB
 refine bind_eq (HT (by decide) (by decide))<|bind_eq e1<|bind_eq m1<|bind_eq e2<|bind_eq m2<|bind_eq e3<|bind_eq m3<|bind_eq e3<|bind_eq m4<|bind_eq e3<|bind_eq m5<|bind_eq e3<|bind_eq m6<|bind_eq a1<|eC ?_
 refine bind_eq e1<|bind_eq o1<|bind_eq i1<|pW (bind_eq e4<|bind_eq o2<|bind_eq i2 rfl)<|pW (bind_eq e5<|bind_eq o3<|bind_eq i3 rfl)<|pW (bind_eq e6<|bind_eq o4<|bind_eq i4 rfl) ?_
 refine pW (bind_eq (dT rfl) rfl)<|pW (bind_eq (dT rfl) rfl)<|pW (bind_eq (dT rfl) rfl)<|pW (bind_eq (dT rfl) rfl)<|pW (bind_eq (dT rfl) rfl)<|pW (bind_eq (dT rfl) rfl) ?_
 refine pW (bind_eq rfl<|bind_eq (dT (by omega)) rfl)<|pW (bind_eq (oe g0)<|bind_eq i5 rfl)<|pW (bind_eq (A7 g1)<|bind_eq i1 rfl)<|pW (bind_eq (aE (i:=2) g2)<|bind_eq i6 rfl) ?_
 exact pW (bind_eq y1<|bind_eq i7 rfl)<|pW (bind_eq n1<|bind_eq rfl<|bind_eq (dT (by omega)) rfl) rfl
end Go.Proofs.Ytmiflmkdaeianaa
namespace Go.Proofs.Ytmiflmkdaeianaa
open Go.Fw
abbrev OQ(m:Mv):Prop:=(-9223372036854775808≤m.acc∧m.acc≤9223372036854775807)∧m.kd<256∧(-9223372036854775808≤m.hour∧m.hour≤9223372036854775807)∧OkQ m.dS
abbrev J4(m:Mv):Nat:=1+1+1+Pu m.dS+1
abbrev Xr(l:List Mv):Nat:=(l.map fun m=>J4 m).sum+1
def HV(l:List Mv):Prop:=∀m∈l,je 1048576 m.dS (qv m.dS)
theorem VG{l:List Mv}(h:∀m∈l,OQ m)(hs:Xr l≤1048576):HV l:=fun m hm=>abq (h m hm).2.2.2 (by
 have:=DU (fun m=>J4 m) hm
 have e:Xr l=(l.map fun m=>J4 m).sum+1:=rfl
 have e2:J4 m=1+1+1+Pu m.dS+1:=rfl
 omega)
def Ih(n:Int)(es:List En)(m:Mv):List En:=OP n es m (zn (tD (qv m.dS)))
def mk(n:Int)(l:List Mv):List En:=l.foldl (Ih n) []
def Pv(n:Int)(m:Mv):Option En:=if zM n 0 m.acc m.kd m.hour=0 then some ⟨m.acc,m.kd,m.hour,zn (tD (qv m.dS))⟩else none
theorem J5{n:Int}{k:Nat}{a:Int}{kd:Nat}{h:Int}(hk:k<1024):zM n k a kd h=zM n 0 a kd h:=by
 unfold zM;rw[if_neg (show ¬1024≤k by omega),if_neg (show ¬1024≤0 by omega)]
theorem J6(n:Int)(es:List En)(m:Mv):(Ih n es m).length≤es.length+1:=by
 unfold Ih OP;split<;>simp
theorem fold_filter(n:Int):∀(l:List Mv) (es:List En),es.length+l.length≤1024→l.foldl (Ih n) es=es++l.filterMap (Pv n)
 |[],es,_=>by simp
 |m::l,es,h=>by
  rw[List.length_cons]at h
  have h1:=J6 n es m
  rw[List.foldl_cons,fold_filter n l _ (by omega)]
  have e:Ih n es m=es++(Pv n m).toList:=by
   unfold Ih OP Pv
   rw[J5 (by omega)]
   split<;>simp
  rw[e,List.filterMap_cons,List.append_assoc]
  congr 1
  cases Pv n m<;>rfl
theorem xZ{n:Int}{l:List Mv}(h:l.length≤1024):mk n l=l.filterMap (Pv n):=by
 unfold mk;rw[fold_filter n l [] (by simpa using h)];rfl
theorem zG{n:Int}{l:List Mv}(h:l.length≤1024):(mk n l).length≤l.length:=by
 rw[xZ h];exact List.length_filterMap_le _ _
theorem L7{n:Int}{l:List Mv}(h:l.length≤1024)(hr:HV l):∀e∈mk n l,ue n 1048577 e:=by
 rw[xZ h]
 intro e he
 obtain⟨m,hm,hme⟩:=List.mem_filterMap.1 he
 unfold Pv at hme
 split at hme
 ·rename_i hv
  cases hme
  have hf:=J0 (hr m hm).fq
  unfold zM at hv
  have h1:0<m.acc∧m.acc<n:=by
   by_cases q:0<m.acc∧m.acc<n
   ·exact q
   ·rw[if_pos q]at hv;exact absurd hv (by decide)
  rw[if_neg (by simpa using h1)]at hv
  have h2:¬(m.kd<1∨4<m.kd):=fun q=>by rw[if_pos q]at hv;exact absurd hv (by decide)
  refine⟨by show 1≤m.acc;omega,h1.2,by show 1≤m.kd∧m.kd≤4;omega,?_,?_⟩
  ·show zn (tD (qv m.dS))=zn (zi (zn (tD (qv m.dS))));rw[bG]
  ·show Fit _ (zi (zn (tD (qv m.dS))));rw[bG];exact hf
 ·cases hme
theorem made_eq{x0:Nat}{l:List Mv}(h0:x0<256)(hl:l.length≤1024)(hr:HV l):fT x0 l=some (((1+x0%64:Nat):Int),mk ((1+x0%64:Nat):Int) l):=by
 unfold fT
 have t:Int.tmod ((x0:Nat):Int) 64=((x0%64:Nat):Int):=rfl
 have t2:IntKind.i64.wrap (1+((x0%64:Nat):Int))=((1+x0%64:Nat):Int):=by rw[dg (by omega) (by omega)];simp
 refine bind_eq (congrArg some (mh (by omega)))<|bind_eq (congrArg some t)<|bind_eq (congrArg some t2)<|bind_eq (HT (by omega) (by omega)) ?_
 refine bw (fun k=>((k:Int),mk ((1+x0%64:Nat):Int) (l.take k))) l.length (mk ((1+x0%64:Nat):Int) l) rfl (fun k hk=>?_) ?_ rfl
 ·have g:=List.getElem?_eq_getElem hk
  have hm:=hr _ (List.getElem_mem hk)
  have hlen:(mk ((1+x0%64:Nat):Int) (l.take k)).length≤1024:=Nat.le_trans (zG (by rw[List.length_take];omega)) (by rw[List.length_take];omega)
  have s:mk ((1+x0%64:Nat):Int) (l.take (k+1))=Ih ((1+x0%64:Nat):Int) (mk ((1+x0%64:Nat):Int) (l.take k)) l[k]:=by
   unfold mk;rw[List.take_add_one,g,List.foldl_append];rfl
  rw[s]
  generalize mk ((1+x0%64:Nat):Int) (l.take k)=es at*
  clear s
  unfold Ih
  have mv:=move_eq (n:=((1+x0%64:Nat):Int)) (es:=es) (acc:=l[k].acc) (kd:=l[k].kd) (hour:=l[k].hour) (by omega) hm (by decide) (by omega)
  generalize zn (tD (qv l[k].dS))=z at*
  clear hm
  generalize l[k]=m at*
  obtain⟨acc,kd,hour,q⟩:=m
  exact bind_eq rfl<|bind_eq (dT (by omega))<|c7 rfl<|bind_eq (aE g)<|bind_eq (aE g)<|bind_eq (aE g)<|bind_eq (aE g)<|bind_eq mv<|bind_eq (congrArg some (bV (by omega))) rfl
 ·rw[List.take_length]
  exact bind_eq rfl<|bind_eq (dF (by omega))<|bF rfl rfl
theorem HW(i:Nat):Int.tmod (i:Int) 40=((i%40:Nat):Int):=rfl
theorem HX(l:List Mv)(hl:l.length≤9223372036854775807):∃b,fS l=some b∧(b=false→l.length≤60):=by
 unfold fS
 by_cases Kt:60<l.length
 ·exact⟨true,bind_eq rfl<|bind_eq (dT (by omega))<|c7 rfl rfl,by simp⟩
 ·have step:∃r,(bR (fun(uB:Int×(List Qr))=>match uB with|⟨pN,y7⟩=>(show Option ((Int×(List Qr))⊕((Unit)⊕(Bool)))from(some (l.length:Int)).bind fun eN=>(some (decide ((pN:Int)<eN))).bind fun jE=>(bif jE then(bJ l pN).bind fun⟨mG,mH,AT,⟨⟨qW,xG⟩,⟨xH,xI⟩⟩⟩=>(wH 64 y7 [⟨⟨qW,xG⟩,⟨xH,xI⟩⟩]).bind fun iz=>cz (fun(wc:Bool)=>cz (fun(qX:(List Qr))=>(some (IntKind.i64.wrap (pN+1))).bind fun fW=>some (.inl (fW,qX))) fun RG=>(bif wc then(ef [iz]).bind fun jF=>(bif jF then some (.inr (.inr true))else RG [])else RG iz)) fun K15=>(some (Int.tmod pN 40)).bind fun iy=>(some (decide ((iy:Int)=39))).bind fun eo=>(bif eo then some true else(some (l.length:Int)).bind fun lC=>(some (IntKind.i64.wrap (lC-1))).bind fun fR=>(some (decide ((pN:Int)=fR))).bind fun nY=>some nY).bind fun za=>K15 za else some (.inr (.inl ()))))) (0,[])).bind (fun Ef=>match Ef with|.inr v12=>some v12|.inl _=>some false)=some r∧True:=by
   refine jA (fun s=>∃(i:Nat) (r:List Qr),s=((i:Int),r)∧i≤l.length∧r.length≤i) (fun _=>True) (fun s=>l.length-s.1.toNat) ?_ ⟨0,[],rfl,by omega,by simp⟩ ?_
   ·rintro _ ⟨i,r,rfl,hi,hr⟩
    by_cases hlt:i<l.length
    ·have g:=List.getElem?_eq_getElem hlt
     generalize l[i]=m at g
     obtain⟨acc,kd,hour,q⟩:=m
     have ap:=A8 (b:=64) (l:=r) (x:=q) (by decide) (by omega)
     obtain⟨t,ht,-⟩:=ON [r++[q]] (by simp)
     have fin:∀(c:Bool),((bif c then(ef [r++[q]]).bind fun jF=>(bif jF then some (.inr (.inr true))else(some (IntKind.i64.wrap ((i:Int)+1))).bind fun fW=>some (.inl (fW,[])))else(some (IntKind.i64.wrap ((i:Int)+1))).bind fun fW=>some (.inl (fW,r++[q]))):Option ((Int×(List Qr))⊕((Unit)⊕(Bool))))=some (.inr (.inr true))∨∃r2:List Qr,r2.length≤i+1∧((bif c then(ef [r++[q]]).bind fun jF=>(bif jF then some (.inr (.inr true))else(some (IntKind.i64.wrap ((i:Int)+1))).bind fun fW=>some (.inl (fW,[])))else(some (IntKind.i64.wrap ((i:Int)+1))).bind fun fW=>some (.inl (fW,r++[q]))):Option ((Int×(List Qr))⊕((Unit)⊕(Bool))))=some (.inl (((i+1:Nat):Int),r2)):=by
      intro c
      cases c
      ·exact .inr ⟨r++[q],by simp;omega,bF rfl<|bind_eq (congrArg some (bV (by omega))) rfl⟩
      ·cases t
       ·exact .inr ⟨[],by simp,c7 rfl<|bind_eq ht<|bF rfl<|bind_eq (congrArg some (bV (by omega))) rfl⟩
       ·exact .inl (c7 rfl<|bind_eq ht<|c7 rfl rfl)
     have cond:∃c:Bool,((bif decide (((i%40:Nat):Int)=39)then some true else(some (l.length:Int)).bind fun lC=>(some (IntKind.i64.wrap (lC-1))).bind fun fR=>(some (decide ((i:Int)=fR))).bind fun nY=>some nY):Option Bool)=some c:=by
      cases decide (((i%40:Nat):Int)=39)
      ·exact⟨_,rfl⟩
      ·exact⟨_,rfl⟩
     obtain⟨c,hc⟩:=cond
     rcases fin c with h|⟨r2,h2,h⟩
     ·exact .inr ⟨.inr true,bind_eq rfl<|bind_eq (dT (by omega))<|c7 rfl<|bind_eq (aE g)<|bind_eq ap<|eC<|bind_eq (congrArg some (HW i))<|bind_eq rfl<|bind_eq hc h,trivial⟩
     ·exact .inl ⟨_,bind_eq rfl<|bind_eq (dT (by omega))<|c7 rfl<|bind_eq (aE g)<|bind_eq ap<|eC<|bind_eq (congrArg some (HW i))<|bind_eq rfl<|bind_eq hc h,⟨i+1,r2,rfl,hlt,h2⟩,by simp only[Int.toNat_natCast];omega⟩
    ·exact .inr ⟨.inl (),bind_eq rfl<|bind_eq (dF (by omega))<|bF rfl rfl,trivial⟩
   ·rintro e-
    cases e
    ·exact⟨false,rfl,trivial⟩
    ·exact⟨_,rfl,trivial⟩
  obtain⟨r,hr,-⟩:=step
  exact⟨r,bind_eq rfl<|bind_eq (dF (by omega))<|bF rfl hr,fun _=>by omega⟩
end Go.Proofs.Ytmiflmkdaeianaa
namespace Go.Proofs.Ytmiflmkdaeianaa
open Go.Fw
theorem told_eq(es:List En)(h:es.length≤1000000):dw es=some es:=by
 unfold dw
 refine bw (fun k=>((k:Int),es.take k)) es.length es rfl (fun k hk=>?_) ?_ rfl
 ·have g:=List.getElem?_eq_getElem hk
  rw[List.take_add_one,g]
  generalize es[k]=e at g
  have ap:=A8 (b:=56) (l:=es.take k) (x:=e) (by decide) (by rw[List.length_take];omega)
  obtain⟨acc,kd,hour,c⟩:=e
  exact bind_eq rfl<|bind_eq (dT (by omega))<|c7 rfl<|bind_eq (aE g)<|bind_eq ap<|bind_eq (congrArg some (bV (by omega))) rfl
 ·rw[List.take_length]
  exact bind_eq rfl<|bind_eq (dF (by omega))<|bF rfl rfl
end Go.Proofs.Ytmiflmkdaeianaa
namespace Go.Proofs.Ytmiflmkdaeianaa
open Go.Fw
theorem ES{n:Int}{es:List En}(h:n≠0):gC ⟨n,es⟩=some false:=by
 unfold gC
 exact eC<|bind_eq (a:=false) (bF rfl<|bind_eq (dF h) rfl) rfl
theorem Bw{n:Nat}{es:List En}{K:Nat}(hn:0<n)(he:∀e∈es,ue n K e)(hl:es.length≤1000000)(hK:K≤1000000000):cx ⟨n,es⟩=some es:=by
 unfold cx
 refine bind_eq (ES (by omega))<|bF rfl<|bind_eq rfl<|bind_eq (sn (by decide) (by omega))<|bind_eq rfl ?_
 refine bw (fun k=>((k:Int),es.take k++List.replicate (es.length-k) (⟨0,0,0,⟨false,[]⟩⟩:En))) es.length es (by simp) (fun k hk=>?_) ?_ rfl
 ·have g:=List.getElem?_eq_getElem hk
  have ho:=he _ (List.getElem_mem hk)
  have a1:=add_eq (di ho.f (show K≤10000000000 by omega)) (show Wl ⟨false,[]⟩from zF)
  rw[bG,zE,Int.add_zero,←ho.z]at a1
  have s:(es.take k++List.replicate (es.length-k) (⟨0,0,0,⟨false,[]⟩⟩:En)).set k es[k]=es.take (k+1)++List.replicate (es.length-(k+1)) ⟨0,0,0,⟨false,[]⟩⟩:=by
   rw[List.set_append_right _ _ (by simp;omega),show k-(es.take k).length=0 by simp;omega,show es.length-k=(es.length-(k+1))+1 by omega,List.replicate_succ,List.set_cons_zero,List.take_add_one,g]
   simp only[Option.toList_some,List.append_assoc,List.singleton_append]
  rw[←s]
  have Pt:(es.take k++List.replicate (es.length-k) (⟨0,0,0,⟨false,[]⟩⟩:En)).length=es.length:=by simp;omega
  generalize (es.take k++List.replicate (es.length-k) (⟨0,0,0,⟨false,[]⟩⟩:En))=q at*
  clear s ho
  generalize es[k]=e at*
  obtain⟨acc,kd,hour,c⟩:=e
  refine bind_eq (dT (by omega))<|c7 rfl<|bind_eq (aE g)<|bind_eq a1<|bind_eq (dx (by omega))<|bind_eq (iO (by omega))<|bind_eq (congrArg some (bV (by omega))) rfl
 ·simp only[List.take_length,Nat.sub_self,List.replicate_zero,List.append_nil]
  exact bind_eq (dF (by omega))<|bF rfl rfl
end Go.Proofs.Ytmiflmkdaeianaa
namespace Go.Proofs.Ytmiflmkdaeianaa
open Go.Fw
theorem Bx{n:Nat}{es:List En}{K:Nat}(hn:0<n)(he:∀e∈es,ue n K e)(hl:es.length≤1000000)(hK:K≤1000000000):fU n es=some ((n:Int),es):=by
 have e:gI n es=some es:=entries_eq hn he hl hK
 unfold fU
 exact bind_eq e rfl
theorem By{n:Nat}{l more:List Mv}(hn:0<n)(hl:(l++more).length≤1024)(hr:HV (l++more)){R:Type}{f:List En→Option R}{r:R}(hf:f (mk (n:Int) (l++more))=some r):
  ((bR (fun(Lo:Int×(List En))=>match Lo with|⟨iq,mg⟩=>(show Option ((Int×(List En))⊕((List En)))from(some (more.length:Int)).bind fun tQ=>(some (decide ((iq:Int)<tQ))).bind fun sM=>(bif sM then(bJ more iq).bind fun⟨Dz,Lp,Lq,⟨⟨Ls,Lt⟩,⟨Lu,Lw⟩⟩⟩=>(bJ more iq).bind fun⟨Ak,vH,Lx,⟨⟨Ly,Lz⟩,⟨LA,LB⟩⟩⟩=>(bJ more iq).bind fun⟨LC,LD,DA,⟨⟨LF,LG⟩,⟨LH,LI⟩⟩⟩=>(bJ more iq).bind fun⟨LJ,LK,LL,⟨⟨DB,DC⟩,⟨DD,DE⟩⟩⟩=>(aT n mg Dz vH DA ⟨⟨DB,DC⟩,⟨DD,DE⟩⟩).bind fun⟨H8,UL⟩=>(some (IntKind.i64.wrap (iq+1))).bind fun mE=>some (.inl (mE,UL))else some (.inr mg)))) (0,mk (n:Int) l)).bind f)=some r:=by
 refine bw (fun k=>((k:Int),mk (n:Int) (l++more.take k))) more.length (mk (n:Int) (l++more)) (by simp) (fun k hk=>?_) ?_ hf
 ·have g:=List.getElem?_eq_getElem hk
  have hm:=hr _ (List.mem_append_right l (List.getElem_mem hk))
  rw[List.length_append]at hl
  have hlen:(mk (n:Int) (l++more.take k)).length≤1024:=Nat.le_trans (zG (by rw[List.length_append,List.length_take];omega)) (by rw[List.length_append,List.length_take];omega)
  have s:mk (n:Int) (l++more.take (k+1))=Ih (n:Int) (mk (n:Int) (l++more.take k)) more[k]:=by
   unfold mk;rw[List.take_add_one,g,←List.append_assoc,List.foldl_append];rfl
  rw[s]
  generalize mk (n:Int) (l++more.take k)=es at*
  clear s
  unfold Ih
  have mv:=move_eq (n:=(n:Int)) (es:=es) (acc:=more[k].acc) (kd:=more[k].kd) (hour:=more[k].hour) (by omega) hm (by decide) (by omega)
  generalize zn (tD (qv more[k].dS))=z at*
  clear hm
  generalize more[k]=m at*
  obtain⟨acc,kd,hour,⟨⟨a1,a2⟩,⟨a3,a4⟩⟩⟩:=m
  exact bind_eq rfl<|bind_eq (dT (by omega))<|c7 rfl<|bind_eq (aE g)<|bind_eq (aE g)<|bind_eq (aE g)<|bind_eq (aE g)<|bind_eq mv<|bind_eq (congrArg some (bV (by omega))) rfl
 ·rw[List.take_length]
  exact bind_eq rfl<|bind_eq (dF (by omega))<|bF rfl rfl
theorem rB(x0:Nat)(l more:List Mv)(h0:x0<256)(ol:l.length≤9223372036854775807∧∀m∈l,OQ m)(om:more.length≤9223372036854775807∧∀m∈more,OQ m)(hs:1+Xr l+Xr more≤1048576):dc x0 l more=some true:=by
 obtain⟨t1,Vn,Mh⟩:=HX l ol.1
 obtain⟨t2,Vo,VJ⟩:=HX more om.1
 have GH:=VG ol.2 (by omega)
 have NP:=VG om.2 (by omega)
 unfold dc
 refine eC<|bind_eq Vn<|orC (fun _=>bind_eq Vo rfl)<|orC (c:=false) (fun _=>bind_eq pX rfl) ?_
 cases t1
 case true=>exact c7 rfl<|bind_eq pX rfl
 cases t2
 case true=>exact c7 rfl<|bind_eq pX rfl
 have b1:=Mh rfl
 have b2:=VJ rfl
 have OR:HV (l++more):=fun m hm=>by rcases List.mem_append.1 hm with h|h;exact GH m h;exact NP m h
 have c1:l.length≤1024:=by omega
 have Xs:(l++more).length≤1024:=by simp;omega
 have md1:=made_eq h0 c1 GH
 obtain⟨n,hn⟩:∃n,1+x0%64=n:=⟨_,rfl⟩
 rw[hn]at md1
 have n1:0<n:=by omega
 have n2:n≤64:=by omega
 have L6:=L7 (n:=(n:Int)) c1 GH
 have J7:=L7 (n:=(n:Int)) Xs OR
 have l1:=zG (n:=(n:Int)) c1
 have GU:=zG (n:=(n:Int)) Xs
 have en1:=entries_eq n1 L6 (by omega) (by decide)
 have abx:=entries_eq n1 J7 (by omega) (by decide)
 have OS:=Bw n1 J7 (by omega) (by decide)
 have to1:=told_eq _ (show(mk (n:Int) l).length≤1000000 by omega)
 have OT:=told_eq _ (show(mk (n:Int) (l++more)).length≤1000000 by omega)
 have cp1:=Bx n1 L6 (by omega) (by decide)
 have aby:=Bx n1 J7 (by omega) (by decide)
 have sm1:=HU L6 (by omega) (by decide)
 have VH:=HU J7 (by omega) (by decide)
 refine bF rfl<|bind_eq md1<|bind_eq md1<|bind_eq en1<|bind_eq to1<|bind_eq cp1<|By n1 Xs OR<|bind_eq en1<|bind_eq to1<|bind_eq sm1<|bind_eq rfl<|bF rfl<|bind_eq aby<|bind_eq abx<|bind_eq OT<|By n1 Xs OR ?_
 exact bind_eq OS<|eC<|bind_eq OS<|bind_eq OT<|bind_eq VH<|bind_eq (a:=true) (c7 rfl<|bind_eq OS<|bind_eq OT<|bind_eq VH rfl) rfl
end Go.Proofs.Ytmiflmkdaeianaa
namespace Go.Proofs.Ytmiflmkdaeianaa
open Go.Fw Go.RowKit Go.ChangeShapes Go.WideShapes Go.ChangeAt
set_option linter.unusedVariables false
set_option maxRecDepth 100000 in
theorem jn(H:Type)(enc:TypeId×Value→H)(W:World)(base:Nat)(args:Array Value)(ds gs:List (DataW H))(before:List MemPlace)
  (hval:∀(j:Nat) t v,Try.f6.params[j]? =some t→args[j]? =some v→Value.okWide Try.prog W .any base t v)
  (hW:DataW.Whole enc Try.prog Try.f6.params.toList Rows.bookIndependentSpec.vars false W args.toList ds gs before) (hk:Rows.uptoSmall H (ds++gs)=true):
  Calls Try.prog 6 args W fun e W'=>∃v,e=.returned v∧Rows.bookIndependentSpec.post enc Try.prog Try.f6 false true false false W args v W':=by
 have hW':=hW
 obtain⟨p,q,Vs,hV,rfl,hfz,hnd⟩:=hW
 have hA:DataW.TrodAll enc Try.prog W 0 (fun _=>true) true Try.f6.params.toList args.toList ds p:=Vs
 rw[Try.params6]at hA hval
 obtain⟨v0,EW,d0,ds0,p0,q0,hargs,rfl,rfl,h0,r0⟩:=trodAll_cons hA
 obtain⟨v1,vs1,d1,ds1,p1,q1,rfl,rfl,rfl,h1,r1⟩:=trodAll_cons r0
 obtain⟨v2,vs2,d2,ds2,p2,q2,rfl,rfl,rfl,h2,r2⟩:=trodAll_cons r1
 obtain⟨rfl,rfl,rfl⟩:=trodAll_nil r2
 obtain rfl:args=#[v0,v1,v2]:=by cases args;simp_all
 obtain⟨rfl,rfl⟩:=trodVars_none hV
 have lt0:∀x∈p0,x.block<W.heap.size:=by obtain⟨m,hm⟩:=h0;exact DataW.trod_lt m _ _ _ hm
 obtain⟨x0,ok0,sz0,al0⟩:=yy (P:=Try.prog) (T:=5) (e:=Kk) (hval 0 5 v0 rfl rfl) h0
 have lt1:∀x∈p1,x.block<W.heap.size:=by obtain⟨m,hm⟩:=h1;exact DataW.trod_lt m _ _ _ hm
 obtain⟨x1,L6,sz1,al1⟩:=yy (P:=Try.prog) (T:=33) (e:=(eS 7 z9)) (hval 1 33 v1 rfl rfl) h1
 have lt2:∀x∈p2,x.block<W.heap.size:=by obtain⟨m,hm⟩:=h2;exact DataW.trod_lt m _ _ _ hm
 obtain⟨x2,Xq,sz2,al2⟩:=yy (P:=Try.prog) (T:=33) (e:=(eS 7 z9)) (hval 2 33 v2 rfl rfl) h2
 have hsz:Rows.uptoBulk d0+Rows.uptoBulk d1+Rows.uptoBulk d2≤1048576:=by
  have:=of_decide_eq_true hk;simp only[List.cons_append,List.nil_append,List.append_nil,Rows.uptoBulkAll]at this;omega
 clear Vs
 refine(IQ (kH (rB x0 x1 x2 ok0 L6 Xq (Nat.le_trans (Nat.add_le_add (Nat.add_le_add sz0 sz1) sz2) hsz))) (W:=W) (vs:=[v0,v1,v2]) ⟨al0.1,al1.1,al2.1,trivial⟩).mono fun e W' ⟨he,Xt⟩=>?_
 subst he
 exact⟨_,rfl,_,_,_,[],_,[],hW',trodAll_mk1 (shut_bool Try.underlying4 _),(trodAll_cons_mk (Below.trod vu (by kernel_rfl) (of_decide_eq_true (by kernel_rfl)) h0 Xt lt0) (trodAll_cons_mk (Below.trod vu (by kernel_rfl) (of_decide_eq_true (by kernel_rfl)) h1 Xt lt1) (trodAll_cons_mk (Below.trod vu (by kernel_rfl) (of_decide_eq_true (by kernel_rfl)) h2 Xt lt2) trodAll_mk0))),rfl,Xt.frame _,fun h=>by cases h⟩
set_option maxRecDepth 100000 in
theorem jY(os:Os)(started:os.Started)(H:Type)(enc:TypeId×Value→H)(F:Stop.Interp):
  ReturnsInHanded {} Try.checked os 6 .any ((Rows.OpenSpec.upto Rows.bookIndependentSpec).pre6 enc Try.prog Try.f6 Rows.bookIndependentUptoRow.domain false) (((Rows.OpenSpec.upto Rows.bookIndependentSpec).at F).post enc Try.prog Try.f6 false true false false):=by
 refine returnsInHanded_of_cond (C:=Try.checked) (s:=Rows.OpenSpec.upto Rows.bookIndependentSpec) (k:=Rows.uptoSmall) rfl Yk started (by kernel_rfl) Try.func6
  (OpenSpec.witness (enc:=enc) (C:=Try.checked) (s:=Rows.OpenSpec.upto Rows.bookIndependentSpec) (k:=Rows.uptoSmall) rfl false ⟨#[],#[.int .u8 0,.slice none 0 0,.slice none 0 0],[]⟩ 8 (by kernel_rfl) (by kernel_rfl) (by kernel_rfl)
   (x:=([.lit (.int .u8 0),.nil,.nil],[],[])) (by kernel_rfl) rfl (by kernel_rfl)) ?_
 intro W base args ds gs before hval hW _ hk _
 exact jn H enc W base args ds gs before hval hW hk
theorem bookIndependentUpto_holds:Rows.BookIndependentUptoSaid:=
 OpenClaim.holds_of_cond 6 Try.f6 rfl rfl rfl rfl rfl rfl rfl ⟨rfl,rfl,rfl,rfl,rfl⟩ rfl rfl rfl rfl rfl (by kernel_rfl) Try.func6 (by kernel_rfl)
  (of_decide_eq_true (by kernel_rfl)) (by unfold Func.isWrapper;first|(rw[if_pos (by decide+kernel)];kernel_rfl)|(rw[if_neg (by decide+kernel)];exact⟨rfl,rfl⟩))
  (fun os started H enc _ F=>jY os started H enc F)
end Go.Proofs.Ytmiflmkdaeianaa
