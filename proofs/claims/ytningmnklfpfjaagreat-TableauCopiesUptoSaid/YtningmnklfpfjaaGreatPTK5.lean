/- A part of the proof: the framework, the plain functions, the followed functions, the plain laws. -/
import Derived.Test.YtningmnklfpfjaaGreatPTK4
set_option linter.unusedVariables false
set_option linter.unusedSimpArgs false
namespace Go.Fw
section
open Go.RowKit
theorem MQ{T:TypeId}{l:List Int}(M M':Mem)(us:List Value)(h:SV.eJ M (TR T 1 bO l).cells us):SV.eJ M' (TR T 1 bO l).cells us:=Cv (M:=M) (M':=M') (s:=λx:Int=>.v (.int .i64 x)) (s':=λx:Int=>.v (.int .i64 x)) (λ_ _ q=>q) h
abbrev woT(pts:List (Nat×Nat))(kt:List (Nat×SV)):List (Nat×AV):=pts.map (λp=>(p.1,AV.ptr p.2 0))++kt.map (λp=>(p.1,AV.sv p.2))
abbrev woB(kb:List (Nat×TypeId×List SV))(rest:List (Nat×ur)):List (Nat×ur):=kb.map (λp=>(p.1,⟨p.2.1,p.2.2.map AV.sv⟩))++rest
abbrev woF(ts:List (Nat×AV))(bs:List (Nat×ur))(rs:List (Nat×Row)):Bool:=(ts.all λp=>p.2.rF bs rs)&&(bs.all λp=>p.2.cells.all λx=>x.rF bs rs)
section
variable {P:Program}{w0:World}{M0:Mem}{ln:Nat->Option Nat}{N:Nat}{S:AS}{c:Code}{Q:Exit->AS->Prop}
theorem aiw{N1 N2:Nat}(hle:w0.heap.size<=N1)(hC:∀b o v,M0 b o=some v->b<w0.heap.size){n:Nat}(hn:S.n=n)(kt:List (Nat×SV))(hkt:∀p∈kt,∃s,S.t p.1=.sv s/\SV.imp s (od N1 p.2))(pts:List (Nat×Nat))(hpt:∀p∈pts,S.t p.1=.ptr p.2 0)
  (kb:List (Nat×TypeId×List SV)) (hkb:∀p∈kb,∃l0,S.b p.1=some ⟨p.2.1,l0.map AV.sv⟩/\cc l0 (p.2.2.map (od N1)))
  {i5 A B io k1 k2 k3:Nat} {T5 EA EB To E1 E3:TypeId} {x1 x4:AV} {lo lr l1 l3:List (List Qr)} {v1 v2:Value} {R2:Row} (h5:S.b i5=some ⟨T5,[x1,.row A,.row B,x4]⟩) (hA:S.r A=.live (TR EA 1 (gS N1 N2) lo)) (hB:S.r B=.live (TR EB 1 (gS N1 N2) lr))
  (ho:S.b io=some ⟨To,[.sv (.v v1),.sv (.v v2),.row k1,.row k2,.row k3]⟩) (r1:S.r k1=.live (TR E1 1 (fS N2 4 (fQ N2)) l1)) (r2:S.r k2=.live R2) (r3:S.r k3=.live (TR E3 1 (fS N2 4 (fQ N2)) l3)) (hR2:∀M M' us,SV.eJ M R2.cells us->SV.eJ M' R2.cells us)
  (hwf:∀Mf Mg:List Sg,woF (woT pts kt) (woB kb [(i5,⟨T5,[.sv .any,.row A,.row B,.sv .any]⟩),(io,⟨To,[.sv (.v v1),.sv (.v v2),.row k1,.row k2,.row k3]⟩)]) [(A,TR EA 1 eH Mf),(B,TR EB 1 eH Mg),(k1,TR E1 1 (eS 4 eQ) l1),(k2,R2),(k3,TR E3 1 (eS 4 eQ) l3)]=true)
  (k:∀ln Mf Mg,(∀h∈Mf,Ox ln h)->(∀h∈Mg,Ox ln h)->Ok P (xR w0 M0 ln N) c (AS.cz n (woT pts kt) (woB kb [(i5,⟨T5,[.sv .any,.row A,.row B,.sv .any]⟩),(io,⟨To,[.sv (.v v1),.sv (.v v2),.row k1,.row k2,.row k3]⟩)]) [(A,TR EA 1 eH Mf),(B,TR EB 1 eH Mg),(k1,TR E1 1 (eS 4 eQ) l1),(k2,R2),(k3,TR E3 1 (eS 4 eQ) l3)]) Q):
  Ok P (xR w0 M0 (λ_=>none) N) c S Q:=λa w ⟨E,h⟩=>by
 obtain⟨⟨uA,oA,aA⟩,_⟩:=h.rx A _ hA;obtain⟨⟨uB,oB,aB⟩,_⟩:=h.rx B _ hB;have aA:SV.eJ (E.M.to N2) (lo.map λl=>nw N1 (slc 4 (l.map (fQ N1)))) uA:=by
  rw[<-KQ];exact Cv (s:=λx:List Qr=>od N2 (nw N1 (slc 4 (x.map (fQ N1))))) (s':=λx:List Qr=>nw N1 (slc 4 (x.map (fQ N1)))) (λ_ _ q=>q) aA
 have aB:SV.eJ (E.M.to N2) (lr.map λl=>nw N1 (slc 4 (l.map (fQ N1)))) uB:=by
  rw[<-KQ];exact Cv (s:=λx:List Qr=>od N2 (nw N1 (slc 4 (x.map (fQ N1))))) (s':=λx:List Qr=>nw N1 (slc 4 (x.map (fQ N1)))) (λ_ _ q=>q) aB
 have hin:(E.M.to N2).dH w:=λb o v e=>h.dH b o v (Mem.YH _ _ _ _ _ e);obtain⟨hs,ln,e1,e2,e3⟩:=ZY hin (ls:=lo++lr) (us:=uA++uB) (by rw[List.map_append];exact IP aA aB);obtain⟨Mf,Mg,rfl,rfl,rfl⟩:=List.map_eq_append_iff.1 e1.symm;have zA:Mf.length=lo.length:=by have:=aA.length;simpa using this.symm
 have zB:Mg.length=lr.length:=by have:=aB.length;simpa using this.symm
 have lt2:∀b n,ln b=some n->b<N2:=λb n q=>by
  obtain⟨_,⟨o,y,q⟩,_⟩:=e3 b n q;unfold Mem.to at q;split at q
  ·assumption
  cases q
 have kM:=afr (M:=E.M) (λb n q=>(e3 b n q).1);have fM:=al8 (M:=E.M) lt2;have cv:∀{E1:TypeId} {ls:List (List Qr)} {us:List Value},SV.eJ E.M (TR E1 1 (fS N2 4 (fQ N2)) ls).cells us->SV.eJ (E.M.mi ln) (TR E1 1 (eS 4 eQ) ls).cells us:=λq=>
  Cv (s:=λx:List Qr=>nw N2 (slc 4 (x.map (fQ N2)))) (s':=λx:List Qr=>slc 4 (x.map eQ)) (λx v q=>PF _ _ ((nw N2 (slc 4 (x.map (fQ N2)))).mono fM (by
   refine⟨?_,λg hg=>?_⟩
   ·show(slc 4 (x.map (fQ N2))).h ((E.M.fr N2).fr N2) v;rw[Mem.Jr];exact q.1
   rw[Mem.Jr];exact q.2 g hg))) q
 have hst:=h.ZZ (ln':=ln) (N':=N) (M2:=E.M.mi ln) (ts:=woT pts kt) (bs:=woB kb [(i5,⟨T5,[.sv .any,.row A,.row B,.sv .any]⟩),(io,⟨To,[.sv (.v v1),.sv (.v v2),.row k1,.row k2,.row k3]⟩)]) (rs:=[(A,TR EA 1 eH Mf),(B,TR EB 1 eH Mg),(k1,TR E1 1 (eS 4 eQ) l1),(k2,R2),(k3,TR E3 1 (eS 4 eQ) l3)]) ZX
  (λb o v e=>kM _ _ _ (by have:=hC b o v e;unfold Mem.to;rw[if_pos ξ];exact h.m0 b o v e))
  (λb n q=>⟨afp q,.inr (by obtain⟨p1,⟨o,y,p2⟩,p3⟩:=e3 b n q;exact⟨⟨o,y,Mem.YH _ _ _ _ _ p2⟩,by omega,p3⟩)⟩) h.jj.2 hn (hwf Mf Mg)
  (λp hp=>by
   have hv:=h.tm p.1;rcases List.mem_append.1 hp with hp|hp
   ·obtain⟨q,hq,rfl⟩:=List.mem_map.1 hp;rw[show S.t ((q.1,AV.ptr q.2 0):Nat×AV).1=_ from hpt q hq]at hv;exact hv
   obtain⟨q,hq,rfl⟩:=List.mem_map.1 hp;obtain⟨s,z1,z2⟩:=hkt q hq;rw[show S.t ((q.1,AV.sv q.2):Nat×AV).1=_ from z1]at hv;exact q.2.mono kM (z2 _ _ hv))
  (λp hp=>by
   rcases List.mem_append.1 hp with hp|hp
   ·obtain⟨q,hq,rfl⟩:=List.mem_map.1 hp;obtain⟨l0,z1,z2⟩:=hkb q hq;exact⟨_,z1,Y,λvs hv=>GU kM z2 hv⟩
   simp only[List.mem_cons,List.not_mem_nil,or_false]at hp;rcases hp with rfl|rfl
   ·refine⟨_,h5,Y,λvs hv=>?_⟩
    match vs,hv with
    |[_,_,_,_],hv=>exact⟨ak,hv.2.1,hv.2.2.1,ak,ak⟩
   refine⟨_,ho,Y,λvs hv=>?_⟩
   match vs,hv with
   |[_,_,_,_,_],hv=>exact hv)
  (λp hp=>by
   simp only[List.mem_cons,List.not_mem_nil,or_false]at hp;rcases hp with rfl|rfl|rfl|rfl|rfl
   ·exact⟨⟨_,hA⟩,_,by show w.ownsRow 0 EA 1 (E.ν A) Mf.length _;rw[zA];exact oA,KP Mf⟩
   ·exact⟨⟨_,hB⟩,_,by show w.ownsRow 0 EB 1 (E.ν B) Mg.length _;rw[zB];exact oB,KP Mg⟩
   ·obtain⟨us,q1,q2⟩:=(h.rx k1 _ r1).1;exact⟨⟨_,r1⟩,us,q1,cv q2⟩
   ·obtain⟨us,q1,q2⟩:=(h.rx k2 _ r2).1;exact⟨⟨_,r2⟩,us,q1,hR2 _ _ _ q2⟩
   obtain⟨us,q1,q2⟩:=(h.rx k3 _ r3).1;exact⟨⟨_,r3⟩,us,q1,cv q2⟩)
 refine wpIn_mono (k ln Mf Mg (λh hm=>e2 h (List.mem_append_left _ hm)) (λh hm=>e2 h (List.mem_append_right _ hm)) a w ⟨_,hst⟩) ?_;rintro e a' w' ⟨S',q,E',h'⟩;exact⟨S',q,E',h'.ZV (λ_ _ q=>by cases q) h'.jj.2⟩
theorem Ro{E:Env}{N:Nat}(hM:E.M.le (E.M.to N)):∀{l0 l:List SV} {vs:List Value},cc l0 l->dQ E (l0.map AV.sv) vs->dQ {E with M:=E.M} ((l.map (od N)).map AV.sv) vs
 |[],[],[],_,_=>trivial
 |_::_,s::_,_::_,hi,h=>⟨s.mono hM (hi.1 _ _ h.1),Ro hM hi.2 h.2⟩
 |[],_::_,_,hi,_=>hi.elim
 |_::_,[],_,hi,_=>hi.elim
 |[],[],_::_,_,h=>h.elim
 |_::_,_::_,[],_,h=>h.elim
theorem Z0{n:Nat}(hn:S.n=n)(kt:List (Nat×SV))(hkt:∀p∈kt,∃s,S.t p.1=.sv s/\SV.imp s p.2)(pts:List (Nat×Nat))(hpt:∀p∈pts,S.t p.1=.ptr p.2 0)(kb:List (Nat×TypeId×List SV))(hkb:∀p∈kb,∃l0,S.b p.1=some ⟨p.2.1,l0.map AV.sv⟩/\cc l0 p.2.2)
  (hwf:∀N',woF (woT pts (kt.map λp=>(p.1,od N' p.2))) (woB (kb.map λp=>(p.1,p.2.1,p.2.2.map (od N'))) []) []=true)
  (k:∀N',N<=N'->w0.heap.size<=N'->Ok P (xR w0 M0 ln N') c (AS.cz n (woT pts (kt.map λp=>(p.1,od N' p.2))) (woB (kb.map λp=>(p.1,p.2.1,p.2.2.map (od N'))) []) []) Q):Ok P (xR w0 M0 ln N) c S Q:=λa w ⟨E,h⟩=>by
 have hle:E.M.le (E.M.to w.heap.size):=λb o v e=>by
  have:=nL h.dH e;unfold Mem.to;rw[if_pos ξ];exact e
 have hst:=h.ZZ (ln':=ln) (N':=w.heap.size) (M2:=E.M) (ts:=woT pts (kt.map λp=>(p.1,od w.heap.size p.2))) (bs:=woB (kb.map λp=>(p.1,p.2.1,p.2.2.map (od w.heap.size))) []) (rs:=[]) (Mem.le_refl _) h.m0
  (λb n q=>⟨(h.l8 b (h.jj.1 b n q).1).2.1,.inl q⟩) (Nat.le_refl _) hn (hwf _)
  (λp hp=>by
   have hv:=h.tm p.1;rcases List.mem_append.1 hp with hp|hp
   ·obtain⟨q,hq,rfl⟩:=List.mem_map.1 hp;rw[show S.t ((q.1,AV.ptr q.2 0):Nat×AV).1=_ from hpt q hq]at hv;exact hv
   obtain⟨q,hq,rfl⟩:=List.mem_map.1 hp;obtain⟨q,hq2,rfl⟩:=List.mem_map.1 hq;obtain⟨s,z1,z2⟩:=hkt q hq2;rw[show S.t ((q.1,AV.sv (od w.heap.size q.2)):Nat×AV).1=_ from z1]at hv;exact q.2.mono hle (z2 _ _ hv))
  (λp hp=>by
   rcases List.mem_append.1 hp with hp|hp
   ·obtain⟨q,hq,rfl⟩:=List.mem_map.1 hp;obtain⟨q,hq2,rfl⟩:=List.mem_map.1 hq;obtain⟨l0,z1,z2⟩:=hkb q hq2;exact⟨_,z1,Y,λvs hv=>Ro hle z2 hv⟩
   cases hp)
  (λp hp=>by cases hp)
 refine wpIn_mono (k w.heap.size h.jj.2 h.grown a w ⟨_,hst⟩) ?_;rintro e a' w' ⟨S',q,E',h'⟩;exact⟨S',q,E',h'.ZV (λ_ _ q=>q) (Nat.le_trans h.jj.2 h'.jj.2)⟩
theorem aix{N:Nat}(hle:w0.heap.size<=N)(hC:∀b o v,M0 b o=some v->b<w0.heap.size){n:Nat}(hn:S.n=n)(kt:List (Nat×SV))(hkt:∀p∈kt,∃s,S.t p.1=.sv s/\SV.imp s (od N p.2))(pts:List (Nat×Nat))(hpt:∀p∈pts,S.t p.1=.ptr p.2 0)
  (kb:List (Nat×TypeId×List SV)) (hkb:∀p∈kb,∃l0,S.b p.1=some ⟨p.2.1,l0.map AV.sv⟩/\cc l0 (p.2.2.map (od N)))
  {i1 i2 R1 R2 j1 j2:Nat} {E1 E2:TypeId} {l1 l2:List (List Qr)} {y1 y2:List Qr} {s1 s2:SV} (t1:S.t i1=.row R1) (t2:S.t i2=.row R2) (r1:S.r R1=.live (TR E1 1 (fS N 4 (fQ N)) l1)) (r2:S.r R2=.live (TR E2 1 (fS N 4 (fQ N)) l2)) (t3:S.t j1=.sv s1) (LC:SV.imp s1 (nw N (slc 4 (y1.map (fQ N))))) (t4:S.t j2=.sv s2) (A5:SV.imp s2 (nw N (slc 4 (y2.map (fQ N)))))
  (hwf:∀(LC A5:List Sg) (Ag By:Sg),woF (woT pts kt++[(i1,.row R1),(i2,.row R2),(j1,.sv (.v (Wk Ag))),(j2,.sv (.v (Wk By)))]) (woB kb []) [(R1,TR E1 1 eH LC),(R2,TR E2 1 eH A5)]=true)
  (k:∀ln' LC A5 Ag By,(∀h,Ox ln h->Ox ln' h)->(∀h∈LC,Ox ln' h)->(∀h∈A5,Ox ln' h)->Ox ln' Ag->Ox ln' By->Ok P (xR w0 M0 ln' N) c (AS.cz n (woT pts kt++[(i1,.row R1),(i2,.row R2),(j1,.sv (.v (Wk Ag))),(j2,.sv (.v (Wk By)))]) (woB kb []) [(R1,TR E1 1 eH LC),(R2,TR E2 1 eH A5)]) Q):
  Ok P (xR w0 M0 ln N) c S Q:=λa w ⟨E,h⟩=>by
 obtain⟨⟨u1,o1,a1⟩,_⟩:=h.rx R1 _ r1;obtain⟨⟨u2,o2,a2⟩,_⟩:=h.rx R2 _ r2;have v1:=h.tm j1;have v2:=h.tm j2;rw[t3]at v1;rw[t4]at v2;have a1:SV.eJ E.M (l1.map λl=>nw N (slc 4 (l.map (fQ N)))) u1:=by rw[<-KQ];exact a1
 have a2:SV.eJ E.M (l2.map λl=>nw N (slc 4 (l.map (fQ N)))) u2:=by rw[<-KQ];exact a2
 obtain⟨hs,l2',e1,e2,e3⟩:=ZY h.dH (ls:=l1++(l2++[y1,y2])) (us:=u1++(u2++[a.tmps.getD j1 undef,a.tmps.getD j2 undef])) (by rw[List.map_append,List.map_append];exact IP a1 (IP a2 ⟨LC _ _ v1,A5 _ _ v2,ak⟩));obtain⟨h1,h2,rfl,rfl,e4⟩:=List.map_eq_append_iff.1 e1.symm;obtain⟨h2,h3,rfl,rfl,e5⟩:=List.map_eq_append_iff.1 e4;clear e4;have e4:=e5;have hl3:h3.length=2:=by have:=congrArg List.length e4;simpa using this
 obtain⟨Ag,By,rfl⟩:∃a b,h3=[a,b]:=by
  match h3,hl3 with
  |[a,b],_=>exact⟨a,b,Y⟩
 simp only[List.map_cons,List.map_nil,List.cons.injEq,and_true]at e4;have zA:h1.length=l1.length:=by have:=a1.length;simpa using this.symm
 have zB:h2.length=l2.length:=by have:=a2.length;simpa using this.symm
 have kM:=afr (M:=E.M) (λb n q=>(e3 b n q).1);have dis:∀b n,l2' b=some n->ln b=none:=λb n q=>by
  cases e:ln b with
  |none=>rfl
  |some m=>
   obtain⟨_,⟨o,y,q1⟩,_⟩:=e3 b n q;rw[(h.l8 b (h.jj.1 b m e).1).2.1 o]at q1;cases q1
 have up:∀b n,ln b=some n->(match ln b with|some m=>some m|none=>l2' b)=some n:=λb n q=>by rw[q]
 have upW:∀{h:Sg},Ox ln h->Ox (λb=>match ln b with|some m=>some m|none=>l2' b) h:=λq=>⟨q.1,λk hk=>by
  obtain⟨b,o,n,q1,q2,q3⟩:=q.2 k hk;exact⟨b,o,n,q1,up b n q2,q3⟩⟩
 have upV:∀{h:Sg},Ox l2' h->Ox (λb=>match ln b with|some m=>some m|none=>l2' b) h:=λq=>⟨q.1,λk hk=>by
  obtain⟨b,o,n,q1,q2,q3⟩:=q.2 k hk;exact⟨b,o,n,q1,by dsimp only;rw[dis b n q2];exact q2,q3⟩⟩
 have hst:=h.ZZ (ln':=λb=>match ln b with|some m=>some m|none=>l2' b) (N':=N) (M2:=E.M.mi l2') (ts:=woT pts kt++[(i1,.row R1),(i2,.row R2),(j1,.sv (.v (Wk Ag))),(j2,.sv (.v (Wk By)))]) (bs:=woB kb []) (rs:=[(R1,TR E1 1 eH h1),(R2,TR E2 1 eH h2)]) ZX
  (λb o v e=>kM _ _ _ (by have:=hC b o v e;unfold Mem.to;rw[if_pos ξ];exact h.m0 b o v e))
  (λb n q=>by
   have q:(match ln b with|some m=>some m|none=>l2' b)=some n:=q;cases e:ln b with
   |some m=>
    rw[e]at q;cases q;refine⟨λo=>?_,.inl Y⟩;cases e5:E.M.mi l2' b o with
    |none=>rfl
    |some y=>have:=ZX _ _ _ e5;rw[(h.l8 b (h.jj.1 b _ e).1).2.1 o]at this;cases this
   |none=>
    rw[e]at q;obtain⟨p1,p2,p3⟩:=e3 b n q;exact⟨afp q,.inr ⟨p2,by omega,p3⟩⟩) h.jj.2 hn (hwf h1 h2 Ag By)
  (λp hp=>by
   have hv:=h.tm p.1;rcases List.mem_append.1 hp with hp|hp
   ·rcases List.mem_append.1 hp with hp|hp
    ·obtain⟨q,hq,rfl⟩:=List.mem_map.1 hp;rw[show S.t ((q.1,AV.ptr q.2 0):Nat×AV).1=_ from hpt q hq]at hv;exact hv
    obtain⟨q,hq,rfl⟩:=List.mem_map.1 hp;obtain⟨s,z1,z2⟩:=hkt q hq;rw[show S.t ((q.1,AV.sv q.2):Nat×AV).1=_ from z1]at hv;exact q.2.mono kM (z2 _ _ hv)
   simp only[List.mem_cons,List.not_mem_nil,or_false]at hp;rcases hp with rfl|rfl|rfl|rfl
   ·rw[show S.t ((i1,AV.row R1):Nat×AV).1=_ from t1]at hv;exact hv
   ·rw[show S.t ((i2,AV.row R2):Nat×AV).1=_ from t2]at hv;exact hv
   ·exact e4.1.symm
   exact e4.2.symm)
  (λp hp=>by
   rcases List.mem_append.1 hp with hp|hp
   ·obtain⟨q,hq,rfl⟩:=List.mem_map.1 hp;obtain⟨l0,z1,z2⟩:=hkb q hq;exact⟨_,z1,Y,λvs hv=>GU kM z2 hv⟩
   cases hp)
  (λp hp=>by
   simp only[List.mem_cons,List.not_mem_nil,or_false]at hp;rcases hp with rfl|rfl
   ·exact⟨⟨_,r1⟩,_,by show w.ownsRow 0 E1 1 (E.ν R1) h1.length _;rw[zA];exact o1,KP h1⟩
   exact⟨⟨_,r2⟩,_,by show w.ownsRow 0 E2 1 (E.ν R2) h2.length _;rw[zB];exact o2,KP h2⟩)
 refine wpIn_mono (k _ h1 h2 Ag By (λ_ q=>upW q) (λh hm=>upV (e2 h (List.mem_append_left _ hm))) (λh hm=>upV (e2 h (List.mem_append_right _ (List.mem_append_left _ hm)))) (upV (e2 Ag (List.mem_append_right _ (List.mem_append_right _ θ)))) (upV (e2 By (List.mem_append_right _ (List.mem_append_right _ θ)))) a w ⟨_,hst⟩) ?_;rintro e a' w' ⟨S',q,E',h'⟩;exact⟨S',q,E',h'.ZV (λb n q=>up b n q) h'.jj.2⟩
end
end
section
open Go.RowKit
theorem Z1{N1 N2:Nat}{l:List (List Qr)}:SV.imp (slc 1 (l.map (gS N1 N2))) (slc 1 (l.map (eS 4 eQ))):=λM v h=>IB (e':=gS N1 N2) (e:=eS 4 eQ) (λ_=>⟨λM v q=>PF M v (Ax M v q),ak⟩) l M v h
def MR(P:Program)(f:FuncId)(N:Nat)(args:List SV)(tp:Bool)(rest:List SV)(T:TypeId)(c:List Oc):Prop:=
 ∀(M:Mem) (w:World) (vs:List Value),N<=w.heap.size->M.dH w->SV.eJ M args vs->
  Calls P f ⟨vs⟩ w λe w'=>∃β rs M' us,e=.returned (alh tp (.pointer (some ⟨β,0,none⟩)) rs)/\M.le M'/\(∀b o x,M' b o=some x->M b o=some x\/w.heap.size<=b)/\M'.dH w'/\SV.eJ M' rest rs/\
   xB M' w' β T c us/\w.heap.size<=β/\(∀g,fY c us g->w.heap.size<=g)/\Below w.heap.size w w'
section
variable {P:Program}{T:TypeId}
theorem Oy{N:Nat}{f:FuncId}{fn:Func}{code:Code}{args:List SV}{c:List Oc}(hf:P.funcs[f]? =some fn)(hb:fn.body=some code)(hn:args.length<=fn.ntmps)
  (h:∀(w:World) (M:Mem) (vs:List Value),N<=w.heap.size->SV.eJ M args vs->Ok P (C0 w M) code (AS.init fn.ntmps args) (λe S=>(e=.normal\/e=.ret)/\∃(k:Nat) (ks:List Nat),Ew P S fn.results.toList (.ptr k 0)/\S.b k=some ⟨T,c9 ks c⟩/\Lv S ks (rowsOf c)/\ks.Nodup)):MR P f N args false [] T c:=by
 intro M w vs hN hM hvs;refine fW Y hf hb (iA hM hvs hn) (h w M vs hN hvs) ?_;rintro S' E a w' ⟨k,ks,hr,hB,hL,hk⟩ hh;obtain⟨v,hv,hx⟩:=hr.run hh;obtain rfl:v=.pointer (some ⟨E.β k,0,none⟩):=hx;obtain⟨us,q1,q2,q3,q4,q5,q6,q7⟩:=B8 hB hL hk hh;exact⟨_,hv,E.β k,[],E.M,us,Y,q1,q2,q3,ak,q4,q5,q6,q7⟩
theorem Oz{N:Nat}{f:FuncId}{fn:Func}{code:Code}{args:List SV}{s:SV}{c:List Oc}{t1 t2:Nat}(hf:P.funcs[f]? =some fn)(hb:fn.body=some code)(hn:args.length<=fn.ntmps)(hres:fn.results=#[.tmp t1,.tmp t2])
  (h:∀(w:World) (M:Mem) (vs:List Value),N<=w.heap.size->SV.eJ M args vs->Ok P (C0 w M) code (AS.init fn.ntmps args) (λe S=>(e=.normal\/e=.ret)/\∃(k:Nat) (ks:List Nat),S.t t1=.ptr k 0/\S.t t2=.sv s/\S.b k=some ⟨T,c9 ks c⟩/\Lv S ks (rowsOf c)/\ks.Nodup)):MR P f N args true [s] T c:=by
 intro M w vs hN hM hvs;refine fW Y hf hb (iA hM hvs hn) (h w M vs hN hvs) ?_;rintro S' E a w' ⟨k,ks,YA,hr2,hB,hL,hk⟩ hh;have h1:=hh.tm t1;rw[YA]at h1;have h1:a.tmps.getD t1 undef=.pointer (some ⟨E.β k,0,none⟩):=h1;have h2:=hh.tm t2;rw[hr2]at h2;obtain⟨us,q1,q2,q3,q4,q5,q6,q7⟩:=B8 hB hL hk hh;refine⟨.tuple #[.pointer (some ⟨E.β k,0,none⟩),a.tmps.getD t2 undef],?_,E.β k,[a.tmps.getD t2 undef],E.M,us,Y,q1,q2,q3,⟨h2,ak⟩,q4,q5,q6,q7⟩;rw[Array.getD_eq_getD_getElem?]at h1;simp[results,hres,h1]
end
section
variable {P:Program}{C:Ctx}{ops:Array Oper}{S:AS}{nd:Bool}{K:List Ac->AS->Prop}{rest:List Oper}{acc:List Ac}
variable {gd:Option (Nat×Bool)}{rg:List Nat}{d:Nat}{ty:TypeId}{pos:String}{aft:Array Edge}{x y z:Operand}{T U E0:TypeId}
theorem RT.UQ(hg:Gd ops S gd rg){N:Nat}{f:FuncId}[dm P f]{g:Operand}{xs:Array Operand}{at_:Array TypeId}{args:List SV}{r:SV}(hp:dB P f N args r)(hN:Low C N)(hf:S.ev g=.sv (.v (.func (.func f) #[] #[])))(hargs:gM S xs.toList args)(hd:d<S.n)
  (next:RunT P C ops nd K rest (⟨rg++(bn g++xs.toList.flatMap bn),[],[],⟨some (d,.sv r),[],[]⟩⟩::acc) (S.set d (.sv r))):RunT P C ops nd K (⟨some d,.call ⟨.value g,xs,at_⟩,ty,pos,aft,gd⟩::rest) acc S:=by
 refine .inl ⟨_,[],[],_,?_,next⟩;rintro S' hn ht _ _ i a w L Q ho ⟨E,h⟩ hL;refine dj (C:=C) ho (hg.wanted h (λs hs=>ht s (List.mem_append_left _ hs)) Y) ?_;have wY:a.eval g=.func (.func f) #[] #[]:=by
  have h1:=h.ev g;rw[bT (λ_ h=>List.mem_append_right _ (List.mem_append_left _ h)) ht,hf]at h1;exact h1
 have hall:=gM.vals h hargs (λs hs=>ht s (List.mem_append_right _ (List.mem_append_right _ hs)));have hr:(execOp a.eval ⟨some d,.call ⟨.value g,xs,at_⟩,ty,pos,aft,gd⟩).run P w=.ok (.enter f ⟨xs.toList.map a.eval⟩) w:=by
  have e2:xs.map a.eval=⟨xs.toList.map a.eval⟩:=by apply Array.ext';simp
  have e1:=dm.run (P:=P) (f:=f) (xs.map a.eval) w;rw[<-e2];simp[execOp,resolve,wY,Deferred.ofValue,invoke,e1]
 refine dh (C:=C) aE hr<|⟨λh=>by simp at h,gG ((hp E.M w _ (hN _ _ _ _ h) h.dH hall).mono ?_)⟩;rintro e w' ⟨v,M',rfl,hM,hnew,hin,hv,hb⟩;exact hL _ _ ⟨_,(h.grow hM hnew hin hb).put (x:=.sv r) hv (by show d<S'.n;omega) iu⟩
theorem RT.UR(hg:Gd ops S gd rg){f:FuncId}[dm P f]{g:Operand}{xs:Array Operand}{at_:Array TypeId}{N:Nat}{args:List SV}{R:Row}(hp:KN P f N args R)(hN:Low C N)(hf:S.ev g=.sv (.v (.func (.func f) #[] #[])))(hargs:gM S xs.toList args)(hd:d<S.n)(sP:S.r d=.un)(Bq:d<1000)
  (next:RunT P C ops nd K rest (⟨rg++(bn g++xs.toList.flatMap bn),[],[d],⟨some (d,.row d),[],[(d,.live R)]⟩⟩::acc) ((AS.cK [(d,.live R)] S).set d (.row d))):RunT P C ops nd K (⟨some d,.call ⟨.value g,xs,at_⟩,ty,pos,aft,gd⟩::rest) acc S:=by
 refine .inl ⟨_,[],[d],_,?_,next⟩;rintro S' hn ht _ hr i a w L Q ho ⟨E,h⟩ hL;refine dj (C:=C) ho (hg.wanted h (λs hs=>ht s (List.mem_append_left _ hs)) Y) ?_;have wY:a.eval g=.func (.func f) #[] ⟨[]⟩:=by
  have h1:=h.ev g;rw[bT (λ_ h=>List.mem_append_right _ (List.mem_append_left _ h)) ht,hf]at h1;exact h1
 have hall:=gM.vals h hargs (λs hs=>ht s (List.mem_append_right _ (List.mem_append_right _ hs)));have So:S'.r d=.un:=by rw[hr d θ];exact sP
 refine dh (C:=C) aE (mc wY) ?_;rw[List.append_nil];refine⟨λh=>by simp at h,gG ((hp E.M w _ (hN _ _ _ _ h) h.dH hall).mono ?_)⟩;rintro e w' ⟨v,M',us,rfl,hM,hnew,hin,hv,hc,hfr,hb⟩;have h1:=(h.grow hM hnew hin hb).Iu So Bq [] none (.inl ⟨Y,Y⟩) (R':=R) hv hc (λg hg=>.inr (h.CI (hfr g hg).1 (hfr g hg).2)) (w5 w' none);refine hL _ _ ⟨_,h1.put (x:=.row d) (v:=v) (by simp[AV.holds]) (by show d<S'.n;omega) ⟨λ_ e=>e.elim,λj e=>?_⟩⟩;cases e;show(AS.uI S' d _).r d≠_;rw[AS.jn];simp
theorem RT.Z2(hg:Gd ops S gd rg){f:FuncId}[dm P f]{g:Operand}{xs:Array Operand}{at_:Array TypeId}{N:Nat}{args:List SV}{c:List Oc}(hp:MP P f N args c)(hN:Low C N)(ks:List Nat)(hks:ks.Nodup)(C2:ks.length=(rowsOf c).length)(S5:Un S ks)(hf:S.ev g=.sv (.v (.func (.func f) #[] #[])))(hargs:gM S xs.toList args)(hd:d<S.n)
  (next:RunT P C ops nd K rest (⟨rg++(bn g++xs.toList.flatMap bn),[],ks,⟨some (d,.cmp .agg (Ic ks c)),[],yf [] ks c⟩⟩::acc) ((AS.cK (yf [] ks c) S).set d (.cmp .agg (Ic ks c)))):RunT P C ops nd K (⟨some d,.call ⟨.value g,xs,at_⟩,ty,pos,aft,gd⟩::rest) acc S:=by
 refine .inl ⟨_,[],ks,_,?_,next⟩;rintro S' hn ht hb hr i a w L Q ho ⟨E,h⟩ hL;refine dj (C:=C) ho (hg.wanted h (λs hs=>ht s (List.mem_append_left _ hs)) Y) ?_;have wY:a.eval g=.func (.func f) #[] ⟨[]⟩:=by
  have h1:=h.ev g;rw[bT (λ_ h=>List.mem_append_right _ (List.mem_append_left _ h)) ht,hf]at h1;exact h1
 have hall:=gM.vals h hargs (λs hs=>ht s (List.mem_append_right _ (List.mem_append_right _ hs)));refine dh (C:=C) aE (mc wY) ?_;rw[List.append_nil];refine⟨λh=>by simp at h,gG ((hp E.M w _ (hN _ _ _ _ h) h.dH hall).mono ?_)⟩;rintro e w' ⟨us,M',rfl,hM,hnew,hin,hal,hgb,hap,Jj⟩;have Yx:(cJ c us).length=(rowsOf c).length:=by rw[<-kV hal,List.length_map]
 obtain⟨E1,q1,q2,q3,q4,q5,h1⟩:=bz.NK ks (cJ c us) (h.grow hM hnew hin Jj) ξ hks (S5.congr hr) (ow hal) hap (λp hp g LB=>h.CI (hgb g ⟨p,hp,LB⟩).1 (hgb g ⟨p,hp,LB⟩).2);have hS1:AS.cK ((ks.zip (cJ c us)).map (λn=>(n.1,.live n.2.1))) S'=AS.cK (yf [] ks c) S':=by rw[<-JU hal [] ks];rfl
 rw[hS1]at h1;refine hL _ _ ⟨_,h1.put (x:=.cmp .agg (Ic ks c)) (v:=.agg ⟨us⟩) ⟨us,Y,JZ (w:=w') C2 (by rw[q1];exact hal) q4⟩ ?_ ⟨λj e=>(J0.1 j e).elim,λj e=>?_⟩⟩
 ·rw[(fV _ _).1];show d<S'.n;omega
 have hj:=J0.2 j e;obtain⟨R,hm⟩:=yz (l:=ks) (k:=rowsOf c) C2 hj;obtain⟨R',uM⟩:=E5 (l:=yf [] ks c) (j:=j) (R:=.live R) (List.mem_map.2 ⟨(j,R),hm,Y⟩);rw[oP,uM];obtain⟨x,hx,e⟩:=List.mem_map.1 (show(j,R')∈(ks.zip (rowsOf c)).map (λp=>(p.1,qa.live p.2))from Av uM);rw[<-show qa.live x.2=R' from congrArg Prod.snd e];simp
theorem RT.acM(hg:Gd ops S gd rg){N:Nat}{f:FuncId}[dm P f]{g:Operand}{xs:Array Operand}{at_:Array TypeId}{args:List SV}{T:TypeId}{c:List Oc}(hp:MR P f N args false [] T c)(hN:N<=C.w0.heap.size)(ks:List Nat)(hks:ks.Nodup)(C2:ks.length=(rowsOf c).length)(S5:Un S ks)(hf:S.ev g=.sv (.v (.func (.func f) #[] #[])))(hargs:gM S xs.toList args)(hd:d<S.n)(hdb:S.b d=none)(Ji:C.jl d=none)
  (next:RunT P C ops nd K rest (⟨rg++(bn g++xs.toList.flatMap bn),[d],ks,⟨some (d,.ptr d 0),[(d,⟨T,c9 ks c⟩)],yf [] ks c⟩⟩::acc) ((AS.cK (yf [] ks c) (AS.iM [(d,⟨T,c9 ks c⟩)] S)).set d (.ptr d 0))):RunT P C ops nd K (⟨some d,.call ⟨.value g,xs,at_⟩,ty,pos,aft,gd⟩::rest) acc S:=by
 refine .inl ⟨_,[d],ks,_,?_,next⟩;rintro S' hn ht hb hr i a w L Q ho ⟨E,h⟩ hL;refine dj (C:=C) ho (hg.wanted h (λs hs=>ht s (List.mem_append_left _ hs)) Y) ?_;have wY:a.eval g=.func (.func f) #[] ⟨[]⟩:=by
  have h1:=h.ev g;rw[bT (λ_ h=>List.mem_append_right _ (List.mem_append_left _ h)) ht,hf]at h1;exact h1
 have hall:=gM.vals h hargs (λs hs=>ht s (List.mem_append_right _ (List.mem_append_right _ hs)));have hdn:S'.b d=none:=by rw[hb d θ];exact hdb
 refine dh (C:=C) aE (mc wY) ?_;rw[List.append_nil];refine⟨λh=>by simp at h,gG ((hp E.M w _ (Nat.le_trans hN h.grown) h.dH hall).mono ?_)⟩;rintro e w' ⟨β,rs,M',us,rfl,hM,hnew,hin,S8,Js,hβ,Uw,Jj⟩;obtain⟨E',e1,e2,h1⟩:=h.newObj hdn Ji hks C2 (S5.congr hr) hM hnew hin Js hβ Uw Jj;refine hL _ _ ⟨_,h1.put (x:=.ptr d 0) (v:=.pointer (some ⟨β,0,none⟩)) (by show _=Value.pointer (some ⟨E'.β d,0,none⟩);rw[e2]) ?_ ⟨λj e=>?_,λj e=>e.elim⟩⟩
 ·rw[(fV _ _).1];show d<S'.n;omega
 have e:j=d:=e;subst e;rw[(fV _ _).2.2.1];exact⟨_,AS.dP _ _ _⟩
theorem RT.Z3(hg:Gd ops S gd rg){f:FuncId}[dm P f]{g:Operand}{x0:Operand}{xs:Array Operand}{at_:Array TypeId}{N N1:Nat}{T:TypeId}{E1 E3:TypeId}{v1 v2:Value}{l1 l3:List (List Qr)}{R2:Row}{s t1 t2 t3 t4 s1 s4:SV}{lo lr:List (List Qr)}{A B:Nat}{EA EB:TypeId}
  (hp:∀N,MR P f N [.agg [t1,t2,t3,t4]] true [s] T [.s (.v v1),.s (.v v2),.r (TR E1 1 (fS N 4 (fQ N)) l1),.r R2,.r (TR E3 1 (fS N 4 (fQ N)) l3)]) (hN:Low C N) (hR2:∀M M' us,SV.eJ M R2.cells us->SV.eJ M' R2.cells us) (hxs:xs.toList=[x0]) (hx:S.ev x0=.cmp .agg [.val s1,.row A,.row B,.val s4])
  (hA:S.r A=.live (TR EA 1 (gS N1 N) lo)) (hB:S.r B=.live (TR EB 1 (gS N1 N) lr)) (i1:SV.imp s1 t1) (i2:SV.imp (slc 1 (lo.map (gS N1 N))) t2) (i3:SV.imp (slc 1 (lr.map (gS N1 N))) t3) (i4:SV.imp s4 t4) (hres:∀M M' v,s.h M v->s.h M' v)
  (ks:List Nat) (hks:ks.Nodup) (C2:ks.length=3) (S5:Un S ks) (hf:S.ev g=.sv (.v (.func (.func f) #[] #[]))) (hd:d<S.n) (hdb:S.b d=none) (Ji:C.jl d=none)
  (next:RunT P C ops nd K rest (⟨rg++(bn g++bn x0),[d],A::B::ks,⟨some (d,.cmp .Bs [.box d,.val s]),[(d,⟨T,c9 ks [.s (.v v1),.s (.v v2),.r (TR E1 1 (fS N 4 (fQ N)) l1),.r R2,.r (TR E3 1 (fS N 4 (fQ N)) l3)]⟩)],yf [] ks [.s (.v v1),.s (.v v2),.r (TR E1 1 (fS N 4 (fQ N)) l1),.r R2,.r (TR E3 1 (fS N 4 (fQ N)) l3)]⟩⟩::acc) ((AS.cK (yf [] ks [.s (.v v1),.s (.v v2),.r (TR E1 1 (fS N 4 (fQ N)) l1),.r R2,.r (TR E3 1 (fS N 4 (fQ N)) l3)]) (AS.iM [(d,⟨T,c9 ks [.s (.v v1),.s (.v v2),.r (TR E1 1 (fS N 4 (fQ N)) l1),.r R2,.r (TR E3 1 (fS N 4 (fQ N)) l3)]⟩)] S)).set d (.cmp .Bs [.box d,.val s]))):RunT P C ops nd K (⟨some d,.call ⟨.value g,xs,at_⟩,ty,pos,aft,gd⟩::rest) acc S:=by
 generalize hcN:[Oc.s (.v v1),.s (.v v2),.r (TR E1 1 (fS N 4 (fQ N)) l1),.r R2,.r (TR E3 1 (fS N 4 (fQ N)) l3)]=c at next
 refine .inl ⟨_,[d],A::B::ks,_,?_,next⟩;rintro S' hn ht hb hr i a w L Q ho ⟨E,h⟩ hL;refine dj (C:=C) ho (hg.wanted h (λs hs=>ht s (List.mem_append_left _ hs)) Y) ?_;have wY:a.eval g=.func (.func f) #[] ⟨[]⟩:=by
  have h1:=h.ev g;rw[bT (λ_ h=>List.mem_append_right _ (List.mem_append_left _ h)) ht,hf]at h1;exact h1
 have hA':S'.r A=.live (TR EA 1 (gS N1 N) lo):=by rw[hr A θ];exact hA
 have iZ:S'.r B=.live (TR EB 1 (gS N1 N) lr):=by rw[hr B θ];exact hB
 have hxv:=h.ev x0;rw[bT (λ_ h=>List.mem_append_right _ (List.mem_append_right _ h)) ht,hx]at hxv;obtain⟨us,hxv,hxa⟩:=hxv
 match us,hxa with
 |[u1,uA,uB,u4],hxa=>
 obtain⟨p1,rfl,rfl,p4,_⟩:s1.h E.M u1/\uA=E.ν A/\uB=E.ν B/\s4.h E.M u4/\True:=hxa;obtain⟨⟨rA,oA,aA⟩,bA⟩:=h.rx A _ hA';obtain⟨⟨rB,oB,aB⟩,bB⟩:=h.rx B _ iZ;have hno:∀b,((E.ν A).ownBlock=some b\/(E.ν B).ownBlock=some b)->∀o,E.M b o=none:=λb q=>q.elim (λq=>(bA b q).2.1) (λq=>(bB b q).2.1);have hsz:∀b,((E.ν A).ownBlock=some b\/(E.ν B).ownBlock=some b)->b<w.heap.size:=λb q=>by
  rcases q with q|q
  ·rcases oA.2 with⟨e1,e2⟩|⟨g,cap,cur,e1,_,e2,_⟩
   ·rw[e1]at q;cases q
   rw[e1]at q;cases q;exact(Array.getElem?_eq_some_iff.1 e2).1
  rcases oB.2 with⟨e1,e2⟩|⟨g,cap,cur,e1,_,e2,_⟩
  ·rw[e1]at q;cases q
  rw[e1]at q;cases q;exact(Array.getElem?_eq_some_iff.1 e2).1
 have sA:=J1 (w:=w) (p:=λb=>(E.ν A).ownBlock=some b\/(E.ν B).ownBlock=some b) hno (λg q=>.inl q) ⟨rA,oA,aA⟩ (uP (n:=1) lo) (by simp[TR]) (oS (n:=1) lo);have sB:=J1 (w:=w) (p:=λb=>(E.ν A).ownBlock=some b\/(E.ν B).ownBlock=some b) hno (λg q=>.inr q) ⟨rB,oB,aB⟩ (uP (n:=1) lr) (by simp[TR]) (oS (n:=1) lr);have hle:=Ca (w:=w) hno;have hall:SV.eJ (A9 E.M w (λb=>(E.ν A).ownBlock=some b\/(E.ν B).ownBlock=some b)) [.agg [t1,t2,t3,t4]] [a.eval x0]:=⟨⟨[u1,E.ν A,E.ν B,u4],hxv,i1 _ _ (s1.mono hle p1),i2 _ _ sA.1,i3 _ _ sB.1,i4 _ _ (s4.mono hle p4),ak⟩,ak⟩;refine dh (C:=C) aE (mc wY) ?_;rw[List.append_nil,hxs,List.map_cons,List.map_nil];refine⟨λh=>by simp at h,gG ((hp w.heap.size _ w _ (Nat.le_refl _) (MG h.dH) hall).mono ?_)⟩;rintro e w' ⟨β,rs,M',us,rfl,hM,hnew,hin,S8,Js,hβ,Uw,Jj⟩;have hK:=hN _ _ _ _ h
 match us,Js.al with
 |[q1,q2,q3,q4,q5],al=>
 obtain⟨al1,al2,⟨x1,y1,z1⟩,⟨x2,y2,z2⟩,⟨x3,y3,z3⟩,_⟩:=al;have fM:(M'.fr w.heap.size).le (yA M' (λb=>(E.ν A).ownBlock=some b\/(E.ν B).ownBlock=some b)):=λb o v e=>by
  unfold Mem.fr at e;split at e
  ·exact Fa (λq=>by have:=hsz b q;omega) e
  cases e
 have cv:∀{ls:List (List Qr)} {vs:List Value},SV.eJ M' (ls.flatMap (fS w.heap.size 4 (fQ w.heap.size))) vs->SV.eJ (yA M' (λb=>(E.ν A).ownBlock=some b\/(E.ν B).ownBlock=some b)) (ls.flatMap (fS N 4 (fQ N))) vs:=λq=>
  Cv (s:=λx:List Qr=>nw w.heap.size (slc 4 (x.map (fQ w.heap.size)))) (s':=λx:List Qr=>nw N (slc 4 (x.map (fQ N)))) (λx v q=>aiv hK _ _ ((nw w.heap.size (slc 4 (x.map (fQ w.heap.size)))).mono fM (by
   refine⟨?_,λg hg=>?_⟩
   ·show(slc 4 (x.map (fQ w.heap.size))).h ((M'.fr w.heap.size).fr w.heap.size) v;rw[Mem.Jr];exact q.1
   rw[Mem.Jr];exact q.2 g hg))) q
 have Yx:∀g,fY c [q1,q2,q3,q4,q5] g↔fY [.s (.v v1),.s (.v v2),.r (TR E1 1 (fS w.heap.size 4 (fQ w.heap.size)) l1),.r R2,.r (TR E3 1 (fS w.heap.size 4 (fQ w.heap.size)) l3)] [q1,q2,q3,q4,q5] g:=λg=>by
  rw[<-hcN];simp[fY,cJ]
 obtain⟨E',e1,e2,h1⟩:=h.newObj (M':=yA M' (λb=>(E.ν A).ownBlock=some b\/(E.ν B).ownBlock=some b)) (c:=c) (us:=[q1,q2,q3,q4,q5]) (i:=d) (ks:=ks) (T:=T) (β:=β) (by rw[hb d θ];exact hdb) Ji hks (by rw[<-hcN];exact C2) (S5.congr (λk hk=>hr k (by simp[hk])))
  (λb o v e=>Fa (λq=>by rw[hno b q o]at e;cases e) (hM _ _ _ (hle _ _ _ e))) (λb o v e=>by
   by_cases q:(E.ν A).ownBlock=some b\/(E.ν B).ownBlock=some b
   ·rw[Fb q]at e;cases e
   rcases hnew b o v (zX _ _ _ e)with e|e
   ·unfold A9 at e;rw[if_neg q]at e;exact .inl e
   exact .inr e) (λb o v e=>hin b o v (zX _ _ _ e))
  ⟨Js.hp,by rw[<-hcN];exact⟨al1,al2,⟨x1,y1,cv z1⟩,⟨x2,y2,hR2 _ _ _ z2⟩,⟨x3,y3,cv z3⟩,ak⟩,λo=>(by
   cases e:yA M' (λb=>(E.ν A).ownBlock=some b\/(E.ν B).ownBlock=some b) β o with
   |none=>rfl
   |some v=>have:=zX _ _ _ e;rw[Js.nb o]at this;cases this),λg hg=>⟨(Js.nr g ((Yx g).1 hg)).1,λo=>(by
   cases e:yA M' (λb=>(E.ν A).ownBlock=some b\/(E.ν B).ownBlock=some b) g o with
   |none=>rfl
   |some v=>have:=zX _ _ _ e;rw[(Js.nr g ((Yx g).1 hg)).2 o]at this;cases this)⟩,by
   have:=Js.ap;rw[<-hcN];simpa[MF,cJ]using this⟩ hβ (λg hg=>Uw g ((Yx g).1 hg)) Jj
 match rs,S8 with
 |[r],S8=>
  refine hL _ _ ⟨_,h1.put (x:=.cmp .Bs [.box d,.val s]) (v:=.tuple #[.pointer (some ⟨β,0,none⟩),r]) ⟨[.pointer (some ⟨β,0,none⟩),r],Y,by show _=Value.pointer (some ⟨E'.β d,0,none⟩);rw[e2],by show s.h E'.M r;exact hres _ _ _ S8.1,ak⟩ ?_ ⟨λj e=>?_,λj e=>?_⟩⟩
  ·rw[(fV _ _).1];show d<S'.n;omega
  ·have e:j=d:=by simpa[AV.mb]using e
   subst e;rw[(fV _ _).2.2.1];exact⟨_,AS.dP _ _ _⟩
  simp[AV.mr]at e
end
end
end Go.Fw
namespace Go.Proofs.YtningmnklfpfjaaGreat
section
open Go.Fw Go.Fw.Z Go.RowKit
set_option maxHeartbeats 4000000 in
theorem Bp{x0:Lr}(N:Nat){r:Bool×Int×(List (List Qr))×(List Int)×(List (List Qr))}(h:ek x0=some r):MR af 56 N [.agg (Lo x0)] false [] 79 [.s (.v (.bool r.1)),.s (.v (.int .i64 r.2.1)),.r (TR 23 1 (fS N 4 (fQ N)) r.2.2.1),.r (TR 3 1 bO r.2.2.2.1),.r (TR 23 1 (fS N 4 (fQ N)) r.2.2.2.2)]:=by
 obtain⟨bt,bu,bD,bG⟩:=x0;refine Oy Tryz.func56 Y (ae Y) (λdA M vs hN hvs=>?_);unfold ek at h;refine sr<|bx Y<|ag Y<|dn<|sr<|fa Y Y<|lV Y Y Y<|bI (cs:=[_,_,_,_,_]) (cs':=[.v (.bool true),.v (.int .i64 bt),.v (.slice none 0 0),.v (.slice none 0 0),.v (.slice none 0 0)]) (.one Y (.one Y (.nil))) ⟨aq,aq,aq,aq,aq,ak⟩<|bx Y<|an (s:=.ptr _ _) Y<|dn<|bP (iD 12 2 304 23 1 Y Y Y T)<|bP (iD 12 3 305 3 1 Y Y Y T)<|bP (iD 12 4 306 23 1 Y Y Y T)<|qq<|sr<|fa Y Y<|lV Y Y Y<|lE h λdO gQ h=>ln Y gQ<|mv Y<|dn<|bE h λe6 rJ iI=>?_;refine bM (λ(mW:(List (List Qr)))=>AS.cz 105 [(1,.ptr 1 0),(3,.ptr 12 0)] [(12,⟨79,[.sv (.v (.bool true)),.sv (.v (.int .i64 bt)),.row 308,.row 305,.row 306]⟩),(1,⟨25,[.sv (.v (.int .i64 bt)),.sv (aM 1 (eS 4 eQ) bu),.sv (aM 1 (eS 4 eQ) bD),.sv (aM 4 eQ bG)]⟩)] [(308,TR 23 1 (fS N 4 (fQ N)) mW),(305,TR 3 1 bO []),(306,TR 23 1 (fS N 4 (fQ N)) [])]) (λmW=>mW=e6) ?_ (λmW rK=>?_);refine bf ?_
 refine bN rJ (λs6=>AS.cz 105 [(1,.ptr 1 0),(3,.ptr 12 0),(14,.sv (aM 1 (eS 4 eQ) bu)),(15,.sv (.v (.int .i64 dO))),(16,.sv (.v (.int .i64 s6.1)))] [(12,⟨79,[.sv (.v (.bool true)),.sv (.v (.int .i64 bt)),.row 308,.row 305,.row 306]⟩),(1,⟨25,[.sv (.v (.int .i64 bt)),.sv (aM 1 (eS 4 eQ) bu),.sv (aM 1 (eS 4 eQ) bD),.sv (aM 4 eQ bG)]⟩)] [(308,TR 23 1 (fS N 4 (fQ N)) s6.2),(305,TR 3 1 bO []),(306,TR 23 1 (fS N 4 (fQ N)) [])]) (aN 308 304 Y Y Y Y Y Y ⟨.ptr,.ptr,.sv aq,.sv aq,.sv aq,ak⟩ ⟨⟨_,Y,⟨.sv aq,.sv aq,.row Y,.row Y,.row Y,ak⟩⟩,⟨_,Y,⟨.sv aq,.sv aq,.sv aq,.sv aq,ak⟩⟩,ak⟩ ⟨⟨_,Y,cc.refl _⟩,⟨_,Y,cc.refl _⟩,⟨_,Y,cc.refl _⟩,ak⟩) (λs6 y6 G6 h rL nV=>?_);obtain⟨QG,GG⟩:=s6;refine sr<|lE h λdZ jE h=>ls _ Y Y jE<|dn<|qq ?_;cases dZ;refine aO ?_;cases O (F h);exact⟨GG,nV _ Y,wR []⟩;refine aP<|qq<|bf<|sr<|bE (V h) λfe jB h=>ix Y Y jB<|lr Y Y<|ag Y<|dn<|bh mixed<|mo (s:=.ptr _ _) Y<|mo (s:=.ptr _ _) Y<|RT.cY .none Y T<|fa Y Y<|RT.iy .none (s:=.row _) Y Y Y T<|mv Y<|fa Y Y<|lV Y Y Y<|bE h λlO wB h=>RT.cf .none (ux N wB) hN Y ⟨Y,Y,ak⟩ T<|bl (l:=[lO]) (e:=(fS N 4 (fQ N))) (.one Y (.nil)) Y Y Y Y Y Y<|bE h λvY Ar h=>aR (k:=[lO]) (e:=(fS N 4 (fQ N))) Y Y Y Ar<|RT.cY .none Y T<|fa Y Y<|RT.kH (cells:=[_,_,_,_,_]) .none Y Y Y Y T Y<|RT.done ⟨by kernel_rfl,?_⟩;refine bJ.n<|aY.n<|aZ<|lE h λpz yc h=>ad _ Y Y yc<|mv Y<|RT.done ?_;cases O h;exact aY.n ⟨(pz,vY),rL _ Y,aN 308 30 Y Y Y Y Y Y ⟨.ptr,.ptr,.sv aq,.sv aq,.sv aq,ak⟩ ⟨⟨_,Y,⟨.sv aq,.sv aq,.row Y,.row Y,.row Y,ak⟩⟩,⟨_,Y,⟨.sv aq,.sv aq,.sv aq,.sv aq,ak⟩⟩,ak⟩ ⟨⟨_,Y,cc.refl _⟩,⟨_,Y,cc.refl _⟩,⟨_,Y,cc.refl _⟩,ak⟩⟩;subst rK;refine aY.n<|qq<|sr<|fa Y Y<|lV Y Y Y<|lE iI λmF vJ iI=>ln Y vJ<|mv Y<|dn<|bE iI λe30 ahE ahF=>?_;refine bM (λ(GM:(List Int)×(List (List Qr)))=>AS.cz 105 [(3,.ptr 12 0)] [(12,⟨79,[.sv (.v (.bool true)),.sv (.v (.int .i64 bt)),.row 308,.row 312,.row 313]⟩)] [(308,TR 23 1 (fS N 4 (fQ N)) mW),(312,TR 3 1 bO GM.1),(313,TR 23 1 (fS N 4 (fQ N)) GM.2)]) (λGM=>GM=e30) ?_ (λGM ahG=>?_);refine bf<|bN ahE (λV3=>AS.cz 105 [(1,.ptr 1 0),(3,.ptr 12 0),(36,.sv (.v (.int .i64 mF))),(37,.sv (.v (.int .i64 V3.1)))] [(12,⟨79,[.sv (.v (.bool true)),.sv (.v (.int .i64 bt)),.row 308,.row 312,.row 313]⟩),(1,⟨25,[.sv (.v (.int .i64 bt)),.sv (aM 1 (eS 4 eQ) bu),.sv (aM 1 (eS 4 eQ) bD),.sv (aM 4 eQ bG)]⟩)] [(308,TR 23 1 (fS N 4 (fQ N)) mW),(312,TR 3 1 bO V3.2.1),(313,TR 23 1 (fS N 4 (fQ N)) V3.2.2)]) (cj (λi=>bif Nat.beq i 312 then 305 else bif Nat.beq i 313 then 306 else i) Y Y Y Y Y ⟨.ptr,.ptr,.sv aq,.sv aq,ak⟩ ⟨⟨_,Y,⟨.sv aq,.sv aq,.row Y,.row Y,.row Y,ak⟩⟩,⟨_,Y,⟨.sv aq,.sv aq,.sv aq,.sv aq,ak⟩⟩,ak⟩ ⟨⟨_,Y,cc.refl _⟩,⟨_,Y,cc.refl _⟩,⟨_,Y,cc.refl _⟩,ak⟩ (λi hi=>by rw[bZ (show i≠312 by omega)];rw[bZ (show i≠313 by omega)];rfl)) (λV3 y30 G30 h ahH ahI=>?_)
 obtain⟨pE,uz,uC⟩:=V3;refine sr<|lE h λwA BQ h=>ls _ Y Y BQ<|dn<|qq ?_;cases wA;refine aO ?_;cases O (F h);exact⟨(uz,uC),ahI _ Y,wR []⟩;refine aP<|qq<|bf<|sr<|mv Y<|ag Y<|dn<|sr<|fa Y Y<|lV Y Y Y<|fa Y Y<|lV Y Y Y<|lE (V h) λsK zH h=>ln Y zH<|lE h λvZ DL h=>ad _ Y Y DL<|lE h λzo h46 h=>ad _ Y Y h46<|bE h λw9 Bm h=>RT.vX (n:=4) (e:=(fQ N)) .none Y Y T Y T aK η (by exact⟨aq,bw,aq,bw,ak⟩) Bm<|an (s:=.row _) Y<|dn<|qq<|sr<|fa Y Y<|lV Y Y Y<|mv Y<|dn<|bE h λe38 X3 fo=>?_;refine bM (λ(vN:(List Qr))=>AS.cz 105 [(1,.ptr 1 0),(3,.ptr 12 0),(6,.sv (.v (.int .i64 pE))),(7,.row 47),(36,.sv (.v (.int .i64 mF))),(37,.sv (.v (.int .i64 pE)))] [(12,⟨79,[.sv (.v (.bool true)),.sv (.v (.int .i64 bt)),.row 308,.row 312,.row 313]⟩),(1,⟨25,[.sv (.v (.int .i64 bt)),.sv (aM 1 (eS 4 eQ) bu),.sv (aM 1 (eS 4 eQ) bD),.sv (aM 4 eQ bG)]⟩)] [(47,TR 43 4 (fQ N) vN),(308,TR 23 1 (fS N 4 (fQ N)) mW),(312,TR 3 1 bO uz),(313,TR 23 1 (fS N 4 (fQ N)) uC)]) (λvN=>vN=e38) ?_ (λvN X4=>?_);refine bf ?_
 refine bN X3 (λNq=>AS.cz 105 [(1,.ptr 1 0),(3,.ptr 12 0),(6,.sv (.v (.int .i64 pE))),(7,.row 47),(36,.sv (.v (.int .i64 mF))),(37,.sv (.v (.int .i64 pE))),(49,.sv (.v (.int .i64 bt))),(50,.sv (.v (.int .i64 Nq.1)))] [(12,⟨79,[.sv (.v (.bool true)),.sv (.v (.int .i64 bt)),.row 308,.row 312,.row 313]⟩),(1,⟨25,[.sv (.v (.int .i64 bt)),.sv (aM 1 (eS 4 eQ) bu),.sv (aM 1 (eS 4 eQ) bD),.sv (aM 4 eQ bG)]⟩)] [(47,TR 43 4 (fQ N) Nq.2),(308,TR 23 1 (fS N 4 (fQ N)) mW),(312,TR 3 1 bO uz),(313,TR 23 1 (fS N 4 (fQ N)) uC)]) (wR []) (λNq y38 G38 h X5 X6=>?_);obtain⟨GH,DX⟩:=Nq;refine sr<|lE h λBr HZ h=>ls _ Y Y HZ<|dn<|qq ?_;cases Br;refine aO ?_;cases O (F h);exact⟨DX,X6 _ Y,wR []⟩;refine aP<|qq<|bf<|sr<|mv Y<|ag Y<|dn<|aZ<|mo (s:=.row _) Y<|mv Y<|fa Y Y<|lV Y Y Y<|mv Y<|mv Y ?_;obtain⟨⟨⟨Dn,Cb⟩,⟨Hy,Hz⟩⟩,SL,h⟩:=bS (V h);refine RT.cf .none (ME N SL) hN Y ⟨Y,Y,Y,ak⟩ T<|bE h λPI Ut h=>iR Y Y Y Ut<|bE h λWM YZ h=>sA ⟨⟨Dn,Cb⟩,⟨Hy,Hz⟩⟩ Y Y Y YZ<|RT.done<|bJ.n<|aY.n<|aZ<|lE h λHl PX h=>ad _ Y Y PX<|mv Y<|RT.done ?_;cases O h;exact aY.n ⟨(Hl,WM),X5 _ Y,wR []⟩;subst X4;refine aY.n<|qq<|bh mixed<|mo (s:=.row _) Y<|fa Y Y<|lV Y Y Y<|mv Y<|lE fo λMw VQ fo=>ad _ Y Y VQ ?_;obtain⟨⟨⟨HA,HB⟩,⟨HC,HD⟩⟩,X8,fo⟩:=bS fo;refine RT.cf .none (yy N X8) hN Y ⟨Y,ak⟩ T<|bE fo λSd h68 fo=>iR Y Y Y h68<|bE fo λl42 PW fo=>sA ⟨⟨HA,HB⟩,⟨HC,HD⟩⟩ Y Y Y PW<|RT.done ⟨by kernel_rfl,?_⟩;refine aY.n<|sr<|mo (s:=.row _) Y<|mo (s:=.row _) Y<|lE fo λx71 h71 fo=>lL Y Y h71<|lE fo λO8 X9 fo=>sb _ Y Y X9<|fa Y Y<|lV Y Y Y<|mv Y ?_;obtain⟨⟨⟨YP,YQ⟩,⟨YR,YS⟩⟩,h76,fo⟩:=bS fo;refine ix Y Y h76<|RT.gV (cs:=[_,_,_,_]) .none Y T Y Y ?_;obtain⟨⟨⟨QH,QI⟩,⟨QJ,QK⟩⟩,h78,fo⟩:=bS fo;refine RT.cf .none (jt N h78) hN Y ⟨Y,ak⟩ T<|bE fo λO9 Ya fo=>iR Y Y Y Ya<|bE fo λV4 QN fo=>sA ⟨⟨QH,QI⟩,⟨QJ,QK⟩⟩ Y Y Y QN<|dn<|qq<|jD (i:=47) (E1:=43) (n:=4) (e:=(fQ N)) (l:=V4) hN (λ_ h=>h) Y<|aZ<|mo (s:=.ptr _ _) Y<|mo (s:=.ptr _ _) Y<|RT.cY .none Y T<|fa Y Y<|RT.iy .none (s:=.row _) Y Y Y T<|mv Y<|bl (l:=[V4]) (e:=(fS N 4 (fQ N))) (.one Y (.nil)) Y Y Y Y Y Y ?_
 refine bE fo λx87 h87 fo=>aR (k:=[V4]) (e:=(fS N 4 (fQ N))) Y Y Y h87<|RT.cY .none Y T<|fa Y Y<|RT.kH (cells:=[_,_,_,_,_]) .none Y Y Y Y T Y<|dn<|bh mixed<|mo (s:=.ptr _ _) Y<|mo (s:=.ptr _ _) Y<|RT.cY .none Y T<|fa Y Y<|RT.iy .none (s:=.row _) Y Y Y T<|fa Y Y<|lV Y Y Y<|mv Y<|lE fo λV5 h98 fo=>?_;refine ad _ Y Y h98<|bl (l:=[V5]) (e:=bO) (.one Y (.nil)) Y Y Y Y Y Y<|bE fo λYT ahK fo=>aR (k:=[V5]) (e:=bO) Y Y Y ahK<|RT.cY .none Y T<|fa Y Y<|RT.kH (cells:=[_,_,_,_,_]) .none Y Y Y Y T Y<|RT.done ⟨by kernel_rfl,?_⟩;refine bJ.n<|aY.n<|aZ<|lE fo λHU SM fo=>ad _ Y Y SM<|mv Y<|RT.done ?_;cases O fo;exact aY.n ⟨(HU,YT,x87),ahH _ Y,cj (λi=>bif Nat.beq i 312 then 100 else bif Nat.beq i 313 then 87 else i) Y Y Y Y Y ⟨.ptr,.ptr,.sv aq,.sv aq,ak⟩ ⟨⟨_,Y,⟨.sv aq,.sv aq,.row Y,.row Y,.row Y,ak⟩⟩,⟨_,Y,⟨.sv aq,.sv aq,.sv aq,.sv aq,ak⟩⟩,ak⟩ ⟨⟨_,Y,cc.refl _⟩,⟨_,Y,cc.refl _⟩,⟨_,Y,cc.refl _⟩,ak⟩ (λi hi=>by rw[bZ (show i≠312 by omega)];rw[bZ (show i≠313 by omega)];rfl)⟩;subst ahG;obtain⟨NT,NU⟩:=GM;refine aY.n<|sr<|mo (s:=.ptr _ _) Y<|an (s:=.ptr _ _) Y<|dn<|bj ?_;cases O ahF;exact⟨.inr Y,12,[308,312,313],.tmp Y,Y,⟨Y,Y,Y,ak⟩,by decide⟩
theorem KR{x0:Lr}(N:Nat){r:Bool×Int×(List (List Qr))×(List Int)×(List (List Qr))}(h:iX x0=some r):MR af 12 N [.agg (Lo x0)] true [.v (.int .i64 0)] 79 [.s (.v (.bool r.1)),.s (.v (.int .i64 r.2.1)),.r (TR 23 1 (fS N 4 (fQ N)) r.2.2.1),.r (TR 3 1 bO r.2.2.2.1),.r (TR 23 1 (fS N 4 (fQ N)) r.2.2.2.2)]:=by
 obtain⟨bt,bu,bD,bG⟩:=x0;refine Oz (t1:=2) (t2:=3) Tryz.func12 Y (ae Y) Y (λdA M vs hN hvs=>?_);unfold iX at h;refine sr<|bx Y<|ag Y<|ag Y<|dn<|qq<|sr<|ld Y Y (.cons Y (.cons Y (.cons Y (.cons Y (.nil)))))<|bE h λx5 h5 h=>cl (B9 h5) ⟨Y,ak⟩<|lE h λx6 h6 h=>nt Y _ h6<|dn ?_;cases x6;refine fs<|sr<|ld Y Y (.cons Y (.cons Y (.cons Y (.cons Y (.nil))))) ?_;obtain⟨⟨qw,qx,Bn,Bo,YU⟩,h8,h⟩:=bS (F h);refine RT.acM .none (Bp N h8) hN [304,305,306] η Y ⟨⟨Y,T⟩,⟨Y,T⟩,⟨Y,T⟩,ak⟩ Y ⟨Y,ak⟩ T Y Y<|an (s:=.ptr _ _) Y<|ag Y<|dn<|bj ?_;cases O h;exact⟨.inr Y,8,[304,305,306],Y,Y,Y,⟨Y,Y,Y,ak⟩,by decide⟩;refine cT<|sr<|ag Y<|ag Y<|dn<|bj<|aY.r ?_;replace h:=V h;cases h
end
end Go.Proofs.YtningmnklfpfjaaGreat
namespace Go.Fw
section
open Go.RowKit
instance{h:Sg}:One (.v (Wk h)):=⟨λ_ v q=>by rw[show v=Wk h from q];rfl⟩
def afu(w:World)(M:Mem)(ln:Nat->Option Nat):Ctx:={w0:=w,M0:=M,own:=λb=>∃n,ln b=some n,A4:=λ_=>False,jl:=λ_=>none,eK:=λ_=>none,ro:=none,J:=λ_ _ _ _ _=>True,HO:=λ_ h=>h.elim,Pc:=λ_ _ h=>(by cases h),jf:=λ_ _ _ _ _ _ _ _ _ _ _ _ _ _ _ _=>trivial}
def Wd(ln:Nat->Option Nat)(w w':World):Prop:=w'.os=w.os/\w'.tape=w.tape/\w'.output=w.output/\w.heap.size<=w'.heap.size/\(∀k,k<w.heap.size->(∀n,ln k≠some n)->w'.heap[k]? =w.heap[k]?)/\∀b n,ln b=some n->∃us T,w'.heap[b]? =some (.cells ⟨us⟩ T (0,0))/\n<=us.length
def SpX(P:Program)(f:FuncId):Prop:=
 ∀(M:Mem) (w:World) (vs:List Value) (ln:Nat->Option Nat) (hs:List Sg) (x:Qr),M.dH w->(∀b n,ln b=some n->(∀o,M b o=none)/\∃us T,w.heap[b]? =some (.cells ⟨us⟩ T (0,0))/\n<=us.length)->(∀h∈hs,Ox ln h)->hs.length<=9223372036854775807->
  SV.eJ M [slc 1 (hs.map eH),.agg (eQ x)] vs->Calls P f ⟨vs⟩ w λe w'=>∃u,e=.returned u/\Wd ln w w'
theorem Wo{P:Program}{f:FuncId}{fn:Func}{code:Code}(hf:P.funcs[f]? =some fn)(hb:fn.body=some code)(hn:2<=fn.ntmps)(hres:fn.results.toList=[])
  (h:∀(w:World) (M:Mem) (ln:Nat->Option Nat) (hs:List Sg) (x:Qr),(∀h∈hs,Ox ln h)->hs.length<=9223372036854775807->Ok P (TJ (afu w M ln) ln) code (AS.init fn.ntmps [slc 1 (hs.map eH),.agg (eQ x)]) (λex _=>ex=.normal\/ex=.ret)):SpX P f:=by
 intro M w vs ln hs x hM hln hwo hl hvs;have hi0:=iA hM hvs (n:=fn.ntmps) hn;have Xp:bz (TJ (afu w M ln) ln) (AS.init fn.ntmps [slc 1 (hs.map eH),.agg (eQ x)]) ⟨λ_=>0,λ_=>.nilIface,λb=>∃n,ln b=some n,M⟩ {tmps:=⟨vs⟩++Array.replicate (fn.ntmps-(⟨vs⟩:Array Value).size) undef,defers:=[]} w:=
  {wf:=hi0.wf
   marks:=⟨[],Y,List.nodup_nil,by simp⟩
   size:=hi0.size
   os:=rfl
   tape:=rfl
   output:=rfl
   grown:=Nat.le_refl _
   frame:=λ_ _ _=>rfl
   m0:=Mem.le_refl _
   fu:=λ_ _ _ q=>.inl q
   dH:=hM
   tm:=λs=>AV.dz (E:=⟨λ_=>0,λ_=>.nilIface,λ_=>False,M⟩) (E':=⟨λ_=>0,λ_=>.nilIface,λb=>∃n,ln b=some n,M⟩) (Mem.le_refl _) (λ_ _=>Y) (λ_ _=>Y) (hi0.tm s)
   bx:=λi B q=>by cases q
   inj:=λi j B B' q=>by cases q
   rx:=λi R q=>by cases q
   fP:=λi j R R' q=>by cases q
   jl:=λi b q=>by cases q
   eK:=λi v q=>by cases q
   l8:=λb ⟨n,q⟩=>by
    obtain⟨q1,us,T,q2,_⟩:=hln b n q;exact⟨(Array.getElem?_eq_some_iff.1 q2).1,q1,.inl ⟨n,q⟩⟩
   jj:=λb n q=>⟨⟨n,q⟩,(hln b n q).2⟩}
 refine fW (Q:=λ_=>True) Y hf hb Xp (Ir (h w M ln hs x hwo hl) λe S q=>⟨q,ak⟩) ?_;rintro S' E a w' _ hh;obtain⟨u,hu,-⟩:=Ep (ss:=[]) hh (by rw[hres];trivial);exact⟨u,hu,u,Y,hh.os,hh.tape,hh.output,hh.grown,λk hk ho=>hh.frame k hk (λ⟨n,q⟩=>ho n q),λb n q=>(hh.jj b n q).2⟩
section
variable {P:Program}{w0:World}{M0:Mem}{ln:Nat->Option Nat}{N:Nat}{ops:Array Oper}{S:AS}{nd:Bool}{K:List Ac->AS->Prop}{rest:List Oper}{acc:List Ac}
variable {gd:Option (Nat×Bool)}{rg:List Nat}{d:Nat}{ty:TypeId}{pos:String}{aft:Array Edge}{x y z:Operand}{T U E0:TypeId}
theorem bz.wdX{E:Env}{a:Act}{w w':World}(h:bz (xR w0 M0 ln N) S E a w)(hw:Wd ln w w'):bz (xR w0 M0 ln N) S E a w':=by
 obtain⟨h1,h2,h3,h4,h5,h6⟩:=hw;have hO:∀k,¬E.O k->∀n,ln k≠some n:=λk hk n q=>hk (h.jj.1 k n q).1;have hM:∀b o v,E.M b o=some v->∀n,ln b≠some n:=λb o v e n q=>by rw[(h.l8 b (h.jj.1 b n q).1).2.1 o]at e;cases e
 exact
 {wf:=h.wf
  marks:=by
   obtain⟨ds,d1,d2,d3⟩:=h.marks;refine⟨ds,d1,d2,λr hr=>?_⟩;obtain⟨p1,p2,p3⟩:=d3 r hr;exact⟨p1,p2,by rw[h5 r (Array.getElem?_eq_some_iff.1 p3).1 (hO r p2)];exact p3⟩
  size:=h.size
  os:=h1.trans h.os
  tape:=h2.trans h.tape
  output:=h3.trans h.output
  grown:=Nat.le_trans h.grown h4
  frame:=λk hk ho=>by
   rw[h5 k (Nat.lt_of_lt_of_le hk h.grown) (λn q=>?_)]
   ·exact h.frame k hk ho
   exact((h.l8 k (h.jj.1 k n q).1).2.2).elim (λq=>q.elim) (λq=>by have:w0.heap.size<=k:=q;have hk:k<w0.heap.size:=hk;omega)
  m0:=h.m0
  fu:=h.fu
  dH:=λb o v e=>(h.dH b o v e).same (h5 b (nL h.dH e) (hM b o v e))
  tm:=h.tm
  bx:=λi B hB=>by
   obtain⟨p1,p2,p3,vs,p4,p5⟩:=h.bx i B hB;exact⟨p1,p2,p3,vs,by rw[h5 _ (Array.getElem?_eq_some_iff.1 p4).1 (hO _ p3)];exact p4,p5⟩
  inj:=h.inj
  rx:=λi R hR=>by
   obtain⟨⟨vs,p1,p2⟩,p3⟩:=h.rx i R hR;refine⟨⟨vs,?_,p2⟩,p3⟩;rcases p1.2 with⟨e1,e2⟩|⟨g,cap,cur,e1,e0,e2,e3⟩
   ·exact⟨p1.1,.inl ⟨e1,e2⟩⟩
   exact⟨p1.1,.inr ⟨g,cap,cur,e1,e0,by rw[h5 g (Array.getElem?_eq_some_iff.1 e2).1 (hO g (p3 g (by rw[e1];rfl)).2.2.1)];exact e2,e3⟩⟩
  fP:=h.fP
  jl:=h.jl
  eK:=h.eK
  l8:=λb hb=>by
   obtain⟨p1,p2,p3⟩:=h.l8 b hb;exact⟨Nat.lt_of_lt_of_le p1 h4,p2,p3⟩
  jj:=⟨λb n q=>⟨(h.jj.1 b n q).1,h6 b n q⟩,Nat.le_trans h.jj.2 h4⟩}
theorem RT.FC(hg:Gd ops S gd rg){f:FuncId}[dm P f]{g:Operand}{xs:Array Operand}{at_:Array TypeId}(hp:SpX P f){hs:List Sg}{q:Qr}(hwo:∀h∈hs,Ox ln h)(hf:S.ev g=.sv (.v (.func (.func f) #[] #[])))(hargs:gM S xs.toList [slc 1 (hs.map eH),.agg (eQ q)])(hd:d<S.n)
  (next:RunT P (xR w0 M0 ln N) ops nd K rest (⟨rg++(bn g++xs.toList.flatMap bn),[],[],⟨some (d,.sv .any),[],[]⟩⟩::acc) (S.set d (.sv .any))):RunT P (xR w0 M0 ln N) ops nd K (⟨some d,.call ⟨.value g,xs,at_⟩,ty,pos,aft,gd⟩::rest) acc S:=by
 refine .inl ⟨_,[],[],_,?_,next⟩;rintro S' hn ht _ _ i a w L Q ho ⟨E,h⟩ hL;refine dj (C:=xR w0 M0 ln N) ho (hg.wanted h (λs hs=>ht s (List.mem_append_left _ hs)) Y) ?_;have wY:a.eval g=.func (.func f) #[] ⟨[]⟩:=by
  have h1:=h.ev g;rw[bT (λ_ h=>List.mem_append_right _ (List.mem_append_left _ h)) ht,hf]at h1;exact h1
 have hall:=gM.vals h hargs (λs hs=>ht s (List.mem_append_right _ (List.mem_append_right _ hs)));have hlen:hs.length<=9223372036854775807:=by
  generalize List.map a.eval xs.toList=us at hall
  match us,hall with
  |[_,_],hall=>
   rcases hall.1 with⟨a,_,h2⟩|⟨b,o,c,_,_,h3,_⟩
   ·have:=List.map_eq_nil_iff.1 h2;subst this;simp
   rw[List.length_map]at h3;exact h3
 refine dh (C:=xR w0 M0 ln N) aE (mc wY) ?_;rw[List.append_nil];refine⟨λh=>by simp at h,gG ((hp E.M w _ ln hs q h.dH (λb n e=>⟨(h.l8 b (h.jj.1 b n e).1).2.1,(h.jj.1 b n e).2⟩) hwo hlen hall).mono ?_)⟩;rintro e w' ⟨u,rfl,hw⟩;exact hL _ _ ⟨_,(h.wdX hw).put (x:=.sv .any) (v:=u) trivial (by show d<S'.n;omega) iu⟩
end
end
end Go.Fw
namespace Go.Proofs.YtningmnklfpfjaaGreat
section
open Go.Fw Go.Fw.Z Go.RowKit
theorem oF:SpX af 22:=by
 refine Wo Tryz.func22 Y (ae Y) Y (λw M ln hs x hwo hlen=>?_);refine b9<|aZ<|RT.box .none Y T Y Y<|RT.done<|aY.n<|b9<|aZ<|RT.BA .none Y T<|RT.done<|aY.n<|bf<|CE (ι:={i:Nat//i<=hs.length}) (λi=>AS.cz 28 [(0,.sv (slc 1 (hs.map eH))),(3,.ptr 3 0),(4,ah (i.1:Int))] [(3,⟨43,[ai x.num.neg,.sv (slc 1 (x.num.w.map bk)),ai x.den.neg,.sv (slc 1 (x.den.w.map bk))]⟩)] []) (λi=>hs.length-i.1) ⟨0,Nat.zero_le _⟩ (wR []) ?_;rintro⟨i,hi⟩;dsimp only;by_cases Yw:i<hs.length;obtain⟨⟨ha,hl,hc⟩,hhd⟩:∃hd,hs[i]? =some hd:=⟨_,List.getElem?_eq_getElem Yw⟩;have hw1:=hwo _ (List.mem_of_getElem? hhd);have Vy:hl<=9223372036854775807:=hw1.1;have hgi:cV hs (i:Int)=some (ha,hl,hc):=by unfold cV;rw[if_pos (Int.natCast_nonneg i)];simpa using hhd
 refine b9<|b9<|aZ<|RT.mv .none Y T<|RT.mv .none Y T<|RT.VI .none Y T Y<|RT.lss .none true Y Y T (decide_eq_true (show((i:Nat):Int)<((hs.length:Nat):Int) by omega))<|RT.done<|aY.n<|dR Y<|bC<|aY.n<|b9<|bf<|b9<|aZ<|RT.BA .none Y T<|RT.done<|aY.n<|bf<|CE (ι:={k:Nat//k<=hl}) (λk=>AS.cz 28 [(0,.sv (slc 1 (hs.map eH))),(3,.ptr 3 0),(4,ah (i:Int)),(5,ah (k.1:Int))] [(3,⟨43,[ai x.num.neg,.sv (slc 1 (x.num.w.map bk)),ai x.den.neg,.sv (slc 1 (x.den.w.map bk))]⟩)] []) (λk=>hl-k.1) ⟨0,Nat.zero_le _⟩ (wR []) ?_;rintro⟨k,hk⟩;dsimp only;by_cases C2:k<hl;obtain⟨b,o,nn,e1,e2,e3⟩:=hw1.2 k C2;have e1:ha=some ⟨b,o,none⟩:=e1;subst e1;refine b9<|b9<|aZ<|RT.mv .none Y T<|RT.mv .none Y T<|RT.mv .none Y T<|RT.Sb .none Y Y T hgi<|RT.eT .none Y Y T<|RT.alk .none Y T<|RT.lss .none true Y Y T (decide_eq_true (show((k:Nat):Int)<((hl:Nat):Int) by omega))<|RT.done<|aY.n<|dR Y<|bC<|aY.n<|b9<|bf<|bh mixed<|RT.mv .none Y T<|RT.mv .none Y T<|RT.Sb .none Y Y T hgi<|RT.eT .none Y Y T<|RT.mv .none Y T<|RT.load .none Y Y (.k4 Y Y Y Y) Y T<|RT.ixC .none Y Y T C2<|RT.asE (sz:=4) .none Y Y Y η (λw=>Em.size (T:=43) (n:=4) w) e2 ξ<|RT.done ⟨by kernel_rfl,bJ.n<|aY.n ?_⟩
 exact aZ<|RT.mv .none Y (tl Y)<|RT.add .none _ Y Y (tl Y) (rH ξ)<|RT.BA .none Y (tl Y)<|RT.done<|aY.n ⟨⟨k+1,C2⟩,by dsimp only;omega,wR []⟩;exact b9<|b9<|aZ<|RT.mv .none Y T<|RT.mv .none Y T<|RT.mv .none Y T<|RT.Sb .none Y Y T hgi<|RT.eT .none Y Y T<|RT.alk .none Y T<|RT.lss .none false Y Y T (decide_eq_false (show ¬(((k:Nat):Int)<((hl:Nat):Int)) by omega))<|RT.done<|aY.n<|fN Y<|bR<|aY.x<|aY.x<|bJ.x<|bJ.n<|aY.n<|aZ<|RT.mv .none Y (tl Y)<|RT.add .none _ Y Y (tl Y) (rH ξ)<|RT.BA .none Y (tl Y)<|RT.done<|aY.n ⟨⟨i+1,Yw⟩,by dsimp only;omega,wR []⟩;exact b9<|b9<|aZ<|RT.mv .none Y (tl Y)<|RT.mv .none Y (tl Y)<|RT.VI .none Y (tl Y) Y<|RT.lss .none false Y Y (tl Y) (decide_eq_false (show ¬(((i:Nat):Int)<((hs.length:Nat):Int)) by omega))<|RT.done<|aY.n<|fN Y<|bR<|aY.x<|aY.x<|bJ.x<|.inl Y
end
section
open Go.Fw
noncomputable def vz(x0:Lr)(x1:List Pv):Option (Bool):=match x0 with|⟨bt,bu,bD,bG⟩=>cX (λ(xb:Bool)=>(bif xb then(iY).bind λiv=>some iv else(sy ⟨bt,bu,bD,bG⟩).bind λ⟨xz,zP,zQ,xA⟩=>(iX ⟨xz,zP,zQ,xA⟩).bind λ⟨pN,pO,MM,MN,Z4⟩=>cX (λ(Z5:Bool)=>(bif Z5 then cX (λ(afv:Bool)=>some afv) λK11=>(bif false then none else some false).bind λZ6=>K11 Z6 else(pU ⟨bt,bu,bD,bG⟩).bind λ⟨pH,pI,sV,sW,afw⟩=>(cm (λ(s26:Int×(List Int)×(List (List Qr))×(List Int)×(List (List Qr)))=>match s26 with|⟨KS,FD,IQ,IS,IT⟩=>(show Option ((Int×(List Int)×(List (List Qr))×(List Int)×(List (List Qr)))⊕((List Int)×(List (List Qr))×(List Int)×(List (List Qr))))from(some (x1.length:Int)).bind λw9=>(some (decide ((KS:Int)<w9))).bind λtD=>(bif tD then(cV x1 KS).bind λ⟨afx,amg⟩=>(cV x1 KS).bind λ⟨Dn,Cb⟩=>(cg pN pO IQ IS IT afx Cb).bind λ⟨WV,UM,l31,l32⟩=>(cV x1 KS).bind λ⟨afy,amh⟩=>(cV x1 KS).bind λ⟨ami,afz⟩=>(gy pH pI sV sW FD afy afz).bind λ⟨XQ,l34⟩=>(some (IntKind.i64.wrap (KS+1))).bind λyU=>some (.inl (yU,l34,UM,l31,l32))else some (.inr (FD,IQ,IS,IT))))) (0,afw,MM,MN,Z4)).bind λe26=>match e26 with|⟨sD,m9,nc,nf⟩=>(ik 7).bind λ⟨⟨Bh,Bi⟩,⟨Bj,Bk⟩⟩=>(wV ⟨pN,pO,m9,nc,nf⟩).bind λx77=>(yI ⟨pN,pO,m9,nc,nf⟩).bind λO9=>(ju ⟨pN,pO,m9,nc,nf⟩).bind λY8=>(lW ⟨pN,pO,m9,nc,nf⟩).bind λx83=>(gY ⟨pN,pO,m9,nc,nf⟩).bind λWO=>(cm (λ(s42:Int×(List Int))=>match s42 with|⟨OA,OB⟩=>(show Option ((Int×(List Int))⊕(Unit))from(some (OB.length:Int)).bind λx88=>(some (decide ((OA:Int)<x88))).bind λx89=>(bif x89 then(qK OB OA).bind λx94=>(stM OB x94 0).bind λV4=>(some (IntKind.i64.wrap (OA+1))).bind λXR=>some (.inl (XR,V4))else some (.inr ())))) (0,x77)).bind λe42=>cX (λ(afA:Bool)=>some afA) λK47=>(uc ⟨pN,pO,m9,nc,nf⟩ ⟨⟨pH,pI,sV,sW⟩,sD⟩).bind λQT=>(bif QT then(iY).bind λV7=>some V7 else some false).bind λUS=>K47 US)) λK6=>(bif false then none else some false).bind λZ7=>K6 Z7)) λK3=>(pg ⟨bt,bu,bD,bG⟩).bind λfe=>(bif fe then some true else(some (x1.length:Int)).bind λfR=>(some (decide ((12:Int)<fR))).bind λiE=>some iE).bind λZ8=>K3 Z8
noncomputable def yJ(x0:Lr)(x1:List Pv):Option (Bool):=match x0 with|⟨bt,bu,bD,bG⟩=>cX (λ(xb:Bool)=>(bif xb then(iY).bind λiv=>some iv else(vu ⟨bt,bu,bD,bG⟩).bind λ⟨xz,zP,zQ,xA⟩=>(xN ⟨xz,zP,zQ,xA⟩).bind λ_=>(iY).bind λyj=>some yj)) λK3=>(pg ⟨bt,bu,bD,bG⟩).bind λfe=>(bif fe then some true else(some (x1.length:Int)).bind λfR=>(some (decide ((12:Int)<fR))).bind λiE=>some iE).bind λafB=>K3 afB
noncomputable def kA(x0:Lr)(x1:List Pv):Option (Bool):=if vz x0 x1=some true then some true else yJ x0 x1
end
section
open Go.Fw Go.Fw.Z Go.RowKit
set_option maxHeartbeats 4000000 in
theorem OC{x0:Lr}{x1:List Pv}{r:Bool}(h:vz x0 x1=some r):Pure af 3 [.agg (Lo x0),aM 2 WK x1] (ay r):=by
 obtain⟨bt,bu,bD,bG⟩:=x0;refine QA Tryz.func3 Y (ae Y) (λdA M vs hM hvs=>?_);unfold vz at h;refine b9 ?_;refine aZ ?_;refine RT.box .none Y (tl Y) Y Y ?_;refine RT.BA .none Y (tl Y) ?_;refine RT.done ?_;refine aY.n ?_;refine b9 ?_;refine b9 ?_;refine bU h (λj3=>AS.cz 120 [(1,.sv (aM 2 WK x1)),(2,.ptr 2 0),(23,ai j3)] [(2,⟨25,[ah bt,.sv (aM 1 (eS 4 eQ) bu),.sv (aM 1 (eS 4 eQ) bD),.sv (aM 4 eQ bG)]⟩)] []) (λh=>?_) (λxb h=>?_)
 ·refine aZ ?_;refine RT.load .none Y Y (.k4 Y Y Y Y) Y (tl Y) ?_;replace h:=bind_some h;obtain⟨fe,jB,h⟩:=h;refine RT.call .none (Du jB) Y ⟨Y,ak⟩ (tl Y) ?_;refine RT.mv .none Y (tl Y) ?_;replace h:=bind_some h;obtain⟨Z8,FE,h⟩:=h;cases fe
  ·replace FE:=Pt FE;refine RT.mv (.some Y Y) Y (tl Y) ?_;replace FE:=uO FE;obtain⟨fR,j0,FE⟩:=FE;refine RT.VI (.some Y Y) Y (tl Y) j0 ?_;replace FE:=uO FE;obtain⟨iE,oc,FE⟩:=FE;refine RT.gtr (.some Y Y) _ Y Y (tl Y) oc ?_;obtain rfl:=Option.some.inj FE;refine RT.Ml .none Y Y (tl Y) ?_;refine RT.done ?_;refine aY.n ?_;refine⟨iE,h,?_⟩
   exact cj id Y Y Y Y Y ⟨.sv aq,.ptr,.sv aq,ak⟩ ⟨⟨_,Y,⟨.sv aq,.sv aq,.sv aq,.sv aq,ak⟩⟩,ak⟩ trivial (λ_ _=>Y)
  replace FE:=VG FE;cases Option.some.inj FE;refine RT.skV Y Y (sk Y) (tl Y) ?_;refine RT.skV Y Y (sk Y) (tl Y) ?_;refine RT.skV Y Y (sk Y) (tl Y) ?_;refine RT.T8 .none Y Y (tl Y) ?_;refine RT.done ?_;refine aY.n ?_;refine⟨true,h,?_⟩;exact cj id Y Y Y Y Y ⟨.sv aq,.ptr,.sv aq,ak⟩ ⟨⟨_,Y,⟨.sv aq,.sv aq,.sv aq,.sv aq,ak⟩⟩,ak⟩ trivial (λ_ _=>Y)
 refine aY.n ?_;cases xb
 ·replace h:=Pt h;refine fN Y ?_;refine bC ?_;refine aY.n ?_;refine Wn (λN1 hN1=>?_);refine bP (S':=AS.cz 120 [(1,.sv (od N1 (aM 2 WK x1))),(2,.ptr 2 0)] [(2,⟨25,[ah bt,.sv (od N1 (aM 1 (eS 4 eQ) bu)),.sv (od N1 (aM 1 (eS 4 eQ) bD)),.sv (od N1 (aM 4 eQ bG))]⟩)] []) (cj id Y Y Y Y Y ⟨.sv aq,.ptr,ak⟩ ⟨⟨_,Y,⟨.sv (λ_ _ q_=>q_),.sv aq,.sv aq,.sv aq,ak⟩⟩,ak⟩ trivial (λ_ _=>Y)) ?_;refine b9 ?_;refine aZ ?_;refine RT.load .none Y Y (.k4 Y Y Y Y) Y (tl Y) ?_;replace h:=bind_some h;obtain⟨⟨xz,zP,zQ,xA⟩,pK,h⟩:=h;refine RT.Z2 .none ((Md N1 pK).w (args':=[_]) ⟨(SV.eA (show cc [ax bt,od N1 (aM 1 (eS 4 eQ) bu),od N1 (aM 1 (eS 4 eQ) bD),od N1 (aM 4 eQ bG)] _ from⟨aq,(λ_ _ q_=>(Ax _ _ q_)),(λ_ _ q_=>(Ax _ _ q_)),(λ_ _ q_=>(Ax _ _ q_)),ak⟩)),ak⟩) (Wm (Nat.le_refl _)) [303,304] η Y ⟨⟨Y,(tl Y)⟩,⟨Y,(tl Y)⟩,ak⟩ Y ⟨Y,ak⟩ (tl Y) ?_;refine RT.Al .none (cs:=[ax 0,aM 1 (eS 4 eQ) [],aM 1 (eS 4 eQ) [],aM 4 eQ []]) (by exact⟨aq,aD,aD,aD,ak⟩) Y (tl Y) Y Y ?_
  refine RT.YC .none Y Y Y ⟨(λ_ _ q_=>One.h _ _ q_),⟨_,Y⟩,⟨_,Y⟩,(λ_ _ q_=>One.h _ _ q_),ak⟩ Y Y [303,304] Y [ah xz,.row 303,.row 304,.sv (nw N1 (aM 4 (fQ N1) xA))] Y ?_;refine RT.done ?_;refine aY.n ?_;refine ZW (A:=303) (B:=304) (N1:=N1) Y Y Y (λN2 hN2=>?_);refine b9 ?_;refine aZ ?_;refine RT.aev .none [.val (ax xz),.row 303,.row 304,.val (nw N1 (aM 4 (fQ N1) xA))] Y Y Y Y Y ⟨(λ_ _ q_=>One.h _ _ q_),⟨_,Y⟩,⟨_,Y⟩,(λ_ _ q_=>One.h _ _ q_),ak⟩ [303,304] Y (tl Y) ?_;replace h:=bind_some h;obtain⟨⟨pN,pO,MM,MN,Z4⟩,nW,h⟩:=h;refine RT.Z3 (N:=N2) (A:=303) (B:=304) .none (λN=>KR N nW) (Wm (Nat.le_refl _)) MQ Y Y Y Y aq Z1 Z1 PF (λ_ _ _ q=>q) [308,309,310] η Y ⟨⟨Y,(tl Y)⟩,⟨Y,(tl Y)⟩,⟨Y,(tl Y)⟩,ak⟩ Y (tl Y) Y Y ?_;refine RT.move .none (s:=.cmp _ _) Y (tl Y) ?_;refine RT.E7 .none Y Y (tl Y) ?_;refine RT.E7 .none Y Y (tl Y) ?_;refine RT.assign .none (s:=.ptr _ _) Y (tl Y) ?_;refine RT.BA .none Y (tl Y) ?_;refine RT.done ?_;refine aY.n ?_;refine b9 ?_;refine b9 ?_
  refine bU h (λj6=>AS.cz 120 [(1,.sv (od N1 (aM 2 WK x1))),(2,.ptr 2 0),(5,.ptr 5 0),(6,.ptr 29 0),(7,ah 0),(37,ai j6)] [(29,⟨79,[ai pN,ah pO,.row 308,.row 309,.row 310]⟩),(5,⟨25,[ah xz,.row 303,.row 304,.sv (nw N1 (aM 4 (fQ N1) xA))]⟩),(2,⟨25,[ah bt,.sv (od N1 (aM 1 (eS 4 eQ) bu)),.sv (od N1 (aM 1 (eS 4 eQ) bD)),.sv (od N1 (aM 4 eQ bG))]⟩)] [(308,TR 23 1 (fS N2 4 (fQ N2)) MM),(309,TR 3 1 bO MN),(310,TR 23 1 (fS N2 4 (fQ N2)) Z4),(303,TR 23 1 (gS N1 N2) zP),(304,TR 23 1 (gS N1 N2) zQ)]) (λh=>?_) (λZ5 h=>?_)
  ·refine aZ ?_;refine RT.mv .none Y (tl Y) ?_;refine RT.neq .none false Y Y (tl Y) η ?_;refine RT.mv .none Y (tl Y) ?_;replace h:=bind_some h;obtain⟨Z7,aiy,h⟩:=h;replace aiy:=Pt aiy;refine RT.move (.some Y Y) (s:=.ptr _ _) Y (tl Y) ?_;refine RT.Yz (.some Y Y) Y Y (tl Y) ?_;cases Option.some.inj aiy;refine RT.Ml .none Y Y (tl Y) ?_;refine RT.done ?_;refine aY.n ?_;refine⟨false,h,?_⟩
   exact cj id Y Y Y Y Y ⟨.sv aq,.ptr,.ptr,.ptr,.sv aq,.sv aq,ak⟩ ⟨⟨_,Y,⟨.sv aq,.sv aq,.row Y,.row Y,.row Y,ak⟩⟩,⟨_,Y,⟨.sv aq,.row Y,.row Y,.sv aq,ak⟩⟩,⟨_,Y,⟨.sv aq,.sv aq,.sv aq,.sv aq,ak⟩⟩,ak⟩ ⟨⟨_,Y,cc.refl _⟩,⟨_,Y,cc.refl _⟩,⟨_,Y,cc.refl _⟩,⟨_,Y,cc.refl _⟩,⟨_,Y,cc.refl _⟩,ak⟩ (λ_ _=>Y)
  refine aY.n ?_;cases Z5
  ·replace h:=Pt h;refine fN Y ?_;refine bC ?_;refine aY.n ?_;refine aiw (N1:=N1) (N2:=N2) hN1 (λ_ _ _ e=>nL hM e) Y [(1,aM 2 WK x1)] (λp hp=>?_) [(2,2),(5,5),(6,29)] (λp hp=>?_) [(2,25,[ax bt,aM 1 (eS 4 eQ) bu,aM 1 (eS 4 eQ) bD,aM 4 eQ bG])] (λp hp=>?_) (i5:=5) (A:=303) (B:=304) (io:=29) (k1:=308) (k2:=309) (k3:=310) Y Y Y Y Y Y Y MQ (λ_ _=>Y) (λln Mf Mg hwA hwB=>?_)
   ·cases List.mem_singleton.1 hp;exact⟨_,Y,λ_ _ q=>q⟩
   ·simp only[List.mem_cons,List.not_mem_nil,or_false]at hp;rcases hp with rfl|rfl|rfl<;>exact rfl
   ·cases List.mem_singleton.1 hp;exact⟨[ax bt,od N1 (aM 1 (eS 4 eQ) bu),od N1 (aM 1 (eS 4 eQ) bD),od N1 (aM 4 eQ bG)],Y,cc.refl _⟩
   refine bP (cH (i:=303) (E1:=23) (n:=1) (e:=eH) (l:=Mf) Y) ?_;refine bP (cH (i:=304) (E1:=23) (n:=1) (e:=eH) (l:=Mg) Y) ?_;refine b9 ?_;refine aZ ?_;refine RT.load .none Y Y (.k4 Y Y Y Y) Y (tl Y) ?_;replace h:=bind_some h;obtain⟨⟨pH,pI,sV,sW,afw⟩,zH,h⟩:=h;refine RT.S7 .none (KM zH) [] η Y trivial Y ⟨Y,ak⟩ (tl Y) Y Y ?_;refine RT.assign .none (s:=.ptr _ _) Y (tl Y) ?_;refine RT.done ?_;refine aY.n ?_;refine b9 ?_;refine b9 ?_;refine aZ ?_;refine RT.BA .none Y (tl Y) ?_;refine RT.done ?_;refine aY.n ?_;replace h:=bind_some h;obtain⟨e26,asP,ue⟩:=h;refine bM (λ(Rp:(List Int)×(List (List Qr))×(List Int)×(List (List Qr)))=>AS.cz 120 [(5,.ptr 5 0),(6,.ptr 29 0),(8,.ptr 44 0)] [(44,⟨59,[ah pH,.sv (aM 1 (eS 4 eQ) pI),.sv (aM 1 (eS 4 eQ) sV),.sv (aM 4 eQ sW),.sv (aM 1 bO Rp.1)]⟩),(29,⟨79,[ai pN,ah pO,.row 317,.row 318,.row 319]⟩),(5,⟨25,[.sv (.any),.sv (aM 1 eH Mf),.sv (aM 1 eH Mg),.sv (.any)]⟩)] [(317,TR 23 1 (eS 4 eQ) Rp.2.1),(318,TR 3 1 bO Rp.2.2.1),(319,TR 23 1 (eS 4 eQ) Rp.2.2.2)]) (λRp=>Rp=e26) ?_ (λRp asQ=>?_)
   ·refine bf ?_;refine bN asP (λs26=>AS.cz 120 [(1,.sv (aM 2 WK x1)),(5,.ptr 5 0),(6,.ptr 29 0),(8,.ptr 44 0),(9,ah s26.1)] [(44,⟨59,[ah pH,.sv (aM 1 (eS 4 eQ) pI),.sv (aM 1 (eS 4 eQ) sV),.sv (aM 4 eQ sW),.sv (aM 1 bO s26.2.1)]⟩),(29,⟨79,[ai pN,ah pO,.row 317,.row 318,.row 319]⟩),(5,⟨25,[.sv (.any),.sv (aM 1 eH Mf),.sv (aM 1 eH Mg),.sv (.any)]⟩)] [(317,TR 23 1 (eS 4 eQ) s26.2.2.1),(318,TR 3 1 bO s26.2.2.2.1),(319,TR 23 1 (eS 4 eQ) s26.2.2.2.2)]) (by(try dsimp only);exact cj (λi=>bif Nat.beq i 317 then 308 else bif Nat.beq i 318 then 309 else bif Nat.beq i 319 then 310 else i) Y Y Y Y Y ⟨.sv aq,.ptr,.ptr,.ptr,.sv aq,ak⟩ ⟨⟨_,Y,⟨.sv aq,.sv aq,.sv aq,.sv aq,.sv aq,ak⟩⟩,⟨_,Y,⟨.sv aq,.sv aq,.row Y,.row Y,.row Y,ak⟩⟩,⟨_,Y,⟨.sv aq,.sv aq,.sv aq,.sv aq,ak⟩⟩,ak⟩ ⟨⟨_,Y,cc.refl _⟩,⟨_,Y,cc.refl _⟩,⟨_,Y,cc.refl _⟩,ak⟩ (λi hi=>by rw[bZ (show i≠317 by omega)];rw[bZ (show i≠318 by omega)];rw[bZ (show i≠319 by omega)];rfl)) (λs26 y26 G26 h asR asS=>?_);obtain⟨KS,FD,IQ,IS,IT⟩:=s26
    refine b9 ?_;refine b9 ?_;refine aZ ?_;refine RT.mv .none Y (tl Y) ?_;refine RT.mv .none Y (tl Y) ?_;replace h:=uO h;obtain⟨w9,Bm,h⟩:=h;refine RT.VI .none Y (tl Y) Bm ?_;replace h:=uO h;obtain⟨tD,h48,h⟩:=h;refine RT.lss .none _ Y Y (tl Y) h48 ?_;refine RT.done ?_;refine aY.n ?_;cases tD
    ·replace h:=Pt h;refine fN Y ?_;refine bR ?_;refine aY.x ?_;refine aY.x ?_;refine bJ.x ?_;refine aY.n ?_;cases Option.some.inj h;refine⟨(FD,IQ,IS,IT),asS _ Y,?_⟩
     exact cj id Y Y Y Y Y ⟨.ptr,.ptr,.ptr,ak⟩ ⟨⟨_,Y,⟨.sv aq,.sv aq,.sv aq,.sv aq,.sv aq,ak⟩⟩,⟨_,Y,⟨.sv aq,.sv aq,.row Y,.row Y,.row Y,ak⟩⟩,⟨_,Y,⟨.sv aq,.sv aq,.sv aq,.sv aq,ak⟩⟩,ak⟩ ⟨⟨_,Y,cc.refl _⟩,⟨_,Y,cc.refl _⟩,⟨_,Y,cc.refl _⟩,ak⟩ (λ_ _=>Y)
    replace h:=VG h;refine dR Y ?_;refine bC ?_;refine aY.n ?_;refine b9 ?_;refine bf ?_;refine b9 ?_;refine bh mixed ?_;refine RT.move .none (s:=.ptr _ _) Y (tl Y) ?_;refine RT.mv .none Y (tl Y) ?_;refine RT.mv .none Y (tl Y) ?_;replace h:=bind_some h;obtain⟨⟨afx,amg⟩,Pa,h⟩:=h;refine RT.Sb .none Y Y (tl Y) Pa ?_;refine RT.bW .none Y (tl Y) Y ?_;refine RT.eT .none Y Y (tl Y) ?_;refine RT.mv .none Y (tl Y) ?_;refine RT.mv .none Y (tl Y) ?_;replace h:=bind_some h;obtain⟨⟨Dn,Cb⟩,SL,h⟩:=h;refine RT.Sb .none Y Y (tl Y) SL ?_;refine RT.bW .none Y (tl Y) Y ?_;refine RT.eT .none Y Y (tl Y) ?_;replace h:=bind_some h;obtain⟨⟨WV,UM,l31,l32⟩,h62,h⟩:=h;refine RT.JW .none (lG h62) 29 [317,318,319] [329,330,331] Y ⟨Y,Y,Y,ak⟩ η η Y ⟨⟨Y,(tl Y)⟩,⟨Y,(tl Y)⟩,⟨Y,(tl Y)⟩,ak⟩ Y Y (.k3 Y Y Y) (tl Y) ?_;refine RT.done ⟨by kernel_rfl,?_⟩;refine aY.n ?_;refine bh mixed ?_;refine RT.move .none (s:=.ptr _ _) Y (tl Y) ?_;refine RT.mv .none Y (tl Y) ?_;refine RT.mv .none Y (tl Y) ?_;replace h:=bind_some h;obtain⟨⟨afy,amh⟩,VQ,h⟩:=h;refine RT.Sb .none Y Y (tl Y) VQ ?_;refine RT.bW .none Y (tl Y) Y ?_;refine RT.eT .none Y Y (tl Y) ?_;refine RT.mv .none Y (tl Y) ?_;refine RT.mv .none Y (tl Y) ?_
    replace h:=bind_some h;obtain⟨⟨ami,afz⟩,h71,h⟩:=h;refine RT.Sb .none Y Y (tl Y) h71 ?_;refine RT.bW .none Y (tl Y) Y ?_;refine RT.eT .none Y Y (tl Y) ?_;replace h:=bind_some h;obtain⟨⟨XQ,l34⟩,h74,h⟩:=h;refine RT.JW .none (Mc h74) 44 [] [] Y trivial η η Y trivial Y Y (.k3 Y Y Y) (tl Y) ?_;refine RT.done ⟨by kernel_rfl,?_⟩;refine bJ.n ?_;refine aY.n ?_;refine aZ ?_;refine RT.mv .none Y (tl Y) ?_;replace h:=uO h;obtain⟨yU,HY,h⟩:=h;refine RT.add .none _ Y Y (tl Y) HY ?_;refine RT.BA .none Y (tl Y) ?_;refine RT.done ?_;cases Option.some.inj h;refine aY.n ⟨(yU,l34,UM,l31,l32),asR _ Y,?_⟩;exact cj (λi=>bif Nat.beq i 317 then 329 else bif Nat.beq i 318 then 330 else bif Nat.beq i 319 then 331 else i) Y Y Y Y Y ⟨.sv aq,.ptr,.ptr,.ptr,.sv aq,ak⟩ ⟨⟨_,Y,⟨.sv aq,.sv aq,.sv aq,.sv aq,.sv aq,ak⟩⟩,⟨_,Y,⟨.sv aq,.sv aq,.row Y,.row Y,.row Y,ak⟩⟩,⟨_,Y,⟨.sv aq,.sv aq,.sv aq,.sv aq,ak⟩⟩,ak⟩ ⟨⟨_,Y,cc.refl _⟩,⟨_,Y,cc.refl _⟩,⟨_,Y,cc.refl _⟩,ak⟩ (λi hi=>by rw[bZ (show i≠317 by omega)];rw[bZ (show i≠318 by omega)];rw[bZ (show i≠319 by omega)];rfl)
   subst asQ;obtain⟨sD,m9,nc,nf⟩:=Rp;refine aY.n ?_;refine b9 ?_;refine aZ ?_;replace ue:=bind_some ue;obtain⟨⟨⟨Bh,Bi⟩,⟨Bj,Bk⟩⟩,h75,ue⟩:=ue;refine RT.call .none (k8 h75) Y ⟨Y,ak⟩ (tl Y) ?_;refine RT.Al .none (cs:=[ay false,au,ay false,au]) (by exact⟨aq,aD,aq,aD,ak⟩) Y (tl Y) Y Y ?_;refine RT.store .none Y Y Y Y Y ?_;refine RT.done ?_;refine aY.n ?_;refine bP (cH (i:=317) (E1:=23) (n:=1) (e:=(eS 4 eQ)) (l:=m9) Y) ?_;refine bP (cH (i:=318) (E1:=3) (n:=1) (e:=bO) (l:=nc) Y) ?_;refine bP (cH (i:=319) (E1:=23) (n:=1) (e:=(eS 4 eQ)) (l:=nf) Y) ?_;refine bP (kL (i:=29) Y [ay pN,ax pO,aM 1 (eS 4 eQ) m9,aM 1 bO nc,aM 1 (eS 4 eQ) nf] (.cons Y (.k4 Y Y Y Y)) .any 0 [(6,.sv (ref [ay pN,ax pO,aM 1 (eS 4 eQ) m9,aM 1 bO nc,aM 1 (eS 4 eQ) nf]))] (λ_ _ _=>trivial) (yO.h (l:=[ay pN,ax pO,aM 1 (eS 4 eQ) m9,aM 1 bO nc,aM 1 (eS 4 eQ) nf])) ⟨@FT.ptr _ _ _ _ _ 6 0 Y,ak⟩) ?_
   refine bP (kL (i:=44) Y [ax pH,aM 1 (eS 4 eQ) pI,aM 1 (eS 4 eQ) sV,aM 4 eQ sW,aM 1 bO sD] (.cons Y (.k4 Y Y Y Y)) .any 0 [(8,.sv (ref [ax pH,aM 1 (eS 4 eQ) pI,aM 1 (eS 4 eQ) sV,aM 4 eQ sW,aM 1 bO sD]))] (λ_ _ _=>trivial) (yO.h (l:=[ax pH,aM 1 (eS 4 eQ) pI,aM 1 (eS 4 eQ) sV,aM 4 eQ sW,aM 1 bO sD])) ⟨@FT.ptr _ _ _ _ _ 8 0 Y,ak⟩) ?_;refine Z0 Y [(6,ref [ay pN,ax pO,aM 1 (eS 4 eQ) m9,aM 1 bO nc,aM 1 (eS 4 eQ) nf]),(8,ref [ax pH,aM 1 (eS 4 eQ) pI,aM 1 (eS 4 eQ) sV,aM 4 eQ sW,aM 1 bO sD])] (λp hp=>?_) [(5,5),(10,10)] (λp hp=>?_) [(5,25,[.any,aM 1 eH Mf,aM 1 eH Mg,.any]),(10,43,[ay Bh,aM 1 bk Bi,ay Bj,aM 1 bk Bk])] (λp hp=>?_) (λ_=>Y) (λN3 hN3 hM3=>?_)
   ·simp only[List.mem_cons,List.not_mem_nil,or_false]at hp;rcases hp with rfl|rfl<;>exact⟨_,rfl,aq⟩
   ·simp only[List.mem_cons,List.not_mem_nil,or_false]at hp;rcases hp with rfl|rfl<;>exact rfl
   ·simp only[List.mem_cons,List.not_mem_nil,or_false]at hp;rcases hp with rfl|rfl;exact⟨[.any,aM 1 eH Mf,aM 1 eH Mg,.any],rfl,cc.refl _⟩;exact⟨[ay Bh,aM 1 bk Bi,ay Bj,aM 1 bk Bk],rfl,cc.refl _⟩
   refine b9 ?_;refine aZ ?_;refine RT.mv .none Y (tl Y) ?_;replace ue:=bind_some ue;obtain⟨x77,h77,ue⟩:=ue;refine RT.adU .none ((Me h77).w (args':=[_]) ⟨(λ_ _ q_=>(Ax _ _ q_)),ak⟩) Y ⟨Y,ak⟩ (tl Y) Y (tl Y) ?_;refine RT.mv .none Y (tl Y) ?_;replace ue:=bind_some ue;obtain⟨O9,Ya,ue⟩:=ue;refine RT.UR .none ((Ow N3 Ya).w (args':=[_]) ⟨(λ_ _ q_=>(Ax _ _ q_)),ak⟩) (Wm (Nat.le_refl _)) Y ⟨Y,ak⟩ (tl Y) Y (tl Y) ?_;refine RT.mv .none Y (tl Y) ?_;replace ue:=bind_some ue;obtain⟨Y8,h81,ue⟩:=ue;refine RT.UQ .none ((xH N3 h81).w (args':=[_]) ⟨(λ_ _ q_=>(Ax _ _ q_)),ak⟩) (Wm (Nat.le_refl _)) Y ⟨Y,ak⟩ (tl Y) ?_;refine RT.mv .none Y (tl Y) ?_;replace ue:=bind_some ue;obtain⟨x83,h83,ue⟩:=ue;refine RT.UR .none ((Cu N3 h83).w (args':=[_]) ⟨(λ_ _ q_=>(Ax _ _ q_)),ak⟩) (Wm (Nat.le_refl _)) Y ⟨Y,ak⟩ (tl Y) Y (tl Y) ?_;refine RT.mv .none Y (tl Y) ?_;replace ue:=bind_some ue;obtain⟨WO,h85,ue⟩:=ue;refine RT.UQ .none ((vP N3 h85).w (args':=[_]) ⟨(λ_ _ q_=>(Ax _ _ q_)),ak⟩) (Wm (Nat.le_refl _)) Y ⟨Y,ak⟩ (tl Y) ?_;refine RT.assign .none (s:=.row _) Y (tl Y) ?_;refine RT.assign .none (s:=.row _) Y (tl Y) ?_;refine RT.BA .none Y (tl Y) ?_;refine RT.assign .none (s:=.row _) Y (tl Y) ?_
   refine RT.BA .none Y (tl Y) ?_;refine RT.done ?_;refine aY.n ?_;refine b9 ?_;refine b9 ?_;refine aZ ?_;refine RT.BA .none Y (tl Y) ?_;refine RT.done ?_;refine aY.n ?_;replace ue:=bind_some ue;obtain⟨e42,asT,FF⟩:=ue;refine bM (λ(aiz:Unit)=>AS.cz 120 [(5,.ptr 5 0),(6,.sv (od N3 (ref [ay pN,ax pO,aM 1 (eS 4 eQ) m9,aM 1 bO nc,aM 1 (eS 4 eQ) nf]))),(8,.sv (od N3 (ref [ax pH,aM 1 (eS 4 eQ) pI,aM 1 (eS 4 eQ) sV,aM 4 eQ sW,aM 1 bO sD]))),(10,.ptr 10 0),(12,.row 79),(13,.sv (nw N3 (aM 4 (fQ N3) Y8))),(14,.row 83),(15,.sv (nw N3 (aM 4 (fQ N3) WO)))] [(10,⟨43,[.sv (od N3 (ay Bh)),.sv (od N3 (aM 1 bk Bi)),.sv (od N3 (ay Bj)),.sv (od N3 (aM 1 bk Bk))]⟩),(5,⟨25,[.sv (.any),.sv (od N3 (aM 1 eH Mf)),.sv (od N3 (aM 1 eH Mg)),.sv (.any)]⟩)] [(79,TR 23 1 (fS N3 4 (fQ N3)) O9),(83,TR 23 1 (fS N3 4 (fQ N3)) x83)]) (λaiz=>aiz=e42) ?_ (λaiz asU=>?_)
   ·refine bf ?_;refine bN asT (λs42=>AS.cz 120 [(5,.ptr 5 0),(6,.sv (od N3 (ref [ay pN,ax pO,aM 1 (eS 4 eQ) m9,aM 1 bO nc,aM 1 (eS 4 eQ) nf]))),(8,.sv (od N3 (ref [ax pH,aM 1 (eS 4 eQ) pI,aM 1 (eS 4 eQ) sV,aM 4 eQ sW,aM 1 bO sD]))),(10,.ptr 10 0),(11,.row 77),(12,.row 79),(13,.sv (nw N3 (aM 4 (fQ N3) Y8))),(14,.row 83),(15,.sv (nw N3 (aM 4 (fQ N3) WO))),(16,ah s42.1)] [(10,⟨43,[.sv (od N3 (ay Bh)),.sv (od N3 (aM 1 bk Bi)),.sv (od N3 (ay Bj)),.sv (od N3 (aM 1 bk Bk))]⟩),(5,⟨25,[.sv (.any),.sv (od N3 (aM 1 eH Mf)),.sv (od N3 (aM 1 eH Mg)),.sv (.any)]⟩)] [(77,TR 3 1 bO s42.2),(79,TR 23 1 (fS N3 4 (fQ N3)) O9),(83,TR 23 1 (fS N3 4 (fQ N3)) x83)]) (by(try dsimp only);exact cj id Y Y Y Y Y ⟨.ptr,.sv aq,.sv aq,.ptr,.row Y,.row Y,.sv aq,.row Y,.sv aq,.sv aq,ak⟩ ⟨⟨_,Y,⟨.sv aq,.sv aq,.sv aq,.sv aq,ak⟩⟩,⟨_,Y,⟨.sv aq,.sv aq,.sv aq,.sv aq,ak⟩⟩,ak⟩ ⟨⟨_,Y,cc.refl _⟩,⟨_,Y,cc.refl _⟩,⟨_,Y,cc.refl _⟩,ak⟩ (λ_ _=>Y)) (λs42 y42 G42 h asV asW=>?_);obtain⟨OA,OB⟩:=s42
    refine b9 ?_;refine b9 ?_;refine aZ ?_;refine RT.mv .none Y (tl Y) ?_;refine RT.move .none (s:=.row _) Y (tl Y) ?_;replace h:=uO h;obtain⟨x88,h88,h⟩:=h;refine RT.XB .none Y Y (tl Y) h88 ?_;replace h:=uO h;obtain⟨x89,h89,h⟩:=h;refine RT.lss .none _ Y Y (tl Y) h89 ?_;refine RT.done ?_;refine aY.n ?_;cases x89
    ·replace h:=Pt h;refine fN Y ?_;refine bR ?_;refine aY.x ?_;refine aY.x ?_;refine bJ.x ?_;refine aY.n ?_;obtain rfl:=Option.some.inj h;refine⟨(),asW _ Y,?_⟩
     exact cj id Y Y Y Y Y ⟨.ptr,.sv aq,.sv aq,.ptr,.row Y,.sv aq,.row Y,.sv aq,ak⟩ ⟨⟨_,Y,⟨.sv aq,.sv aq,.sv aq,.sv aq,ak⟩⟩,⟨_,Y,⟨.sv aq,.sv aq,.sv aq,.sv aq,ak⟩⟩,ak⟩ ⟨⟨_,Y,cc.refl _⟩,⟨_,Y,cc.refl _⟩,ak⟩ (λ_ _=>Y)
    replace h:=VG h;refine dR Y ?_;refine bC ?_;refine aY.n ?_;refine b9 ?_;refine bf ?_;refine aZ ?_;refine RT.move .none (s:=.row _) Y (tl Y) ?_;refine RT.mv .none Y (tl Y) ?_;replace h:=bind_some h;obtain⟨x94,h94,h⟩:=h;refine RT.agl .none Y Y Y (tl Y) h94 ?_;replace h:=bind_some h;obtain⟨V4,QN,h⟩:=h;refine RT.aks .none 0 Y Y Y Y QN ?_;refine RT.done ?_;refine bJ.n ?_;refine aY.n ?_;refine aZ ?_;refine RT.mv .none Y (tl Y) ?_;replace h:=uO h;obtain⟨XR,h91,h⟩:=h;refine RT.add .none _ Y Y (tl Y) h91 ?_;refine RT.BA .none Y (tl Y) ?_;refine RT.done ?_;obtain rfl:=Option.some.inj h;refine aY.n ⟨(XR,V4),asV _ Y,?_⟩;exact cj id Y Y Y Y Y ⟨.ptr,.sv aq,.sv aq,.ptr,.row Y,.row Y,.sv aq,.row Y,.sv aq,.sv aq,ak⟩ ⟨⟨_,Y,⟨.sv aq,.sv aq,.sv aq,.sv aq,ak⟩⟩,⟨_,Y,⟨.sv aq,.sv aq,.sv aq,.sv aq,ak⟩⟩,ak⟩ ⟨⟨_,Y,cc.refl _⟩,⟨_,Y,cc.refl _⟩,⟨_,Y,cc.refl _⟩,ak⟩ (λ_ _=>Y)
   subst asU;refine aY.n ?_;refine aix (N:=N3) hM3 (λ_ _ _ e=>nL hM e) Y [(6,ref [ay pN,ax pO,aM 1 (eS 4 eQ) m9,aM 1 bO nc,aM 1 (eS 4 eQ) nf]),(8,ref [ax pH,aM 1 (eS 4 eQ) pI,aM 1 (eS 4 eQ) sV,aM 4 eQ sW,aM 1 bO sD])] (λp hp=>?_) [(5,5),(10,10)] (λp hp=>?_) [(5,25,[.any,aM 1 eH Mf,aM 1 eH Mg,.any]),(10,43,[ay Bh,aM 1 bk Bi,ay Bj,aM 1 bk Bk])] (λp hp=>?_) (i1:=12) (i2:=14) (R1:=79) (R2:=83) (j1:=13) (j2:=15) Y Y Y Y Y aq Y aq (λ_ _ _ _=>Y) (λln2 LC A5 Ag By uW hw1 hw2 hw3 hw4=>?_)
   ·simp only[List.mem_cons,List.not_mem_nil,or_false]at hp;rcases hp with rfl|rfl<;>exact⟨_,rfl,λ_ _ q=>q⟩
   ·simp only[List.mem_cons,List.not_mem_nil,or_false]at hp;rcases hp with rfl|rfl<;>exact rfl
   ·simp only[List.mem_cons,List.not_mem_nil,or_false]at hp;rcases hp with rfl|rfl;exact⟨[.any,od N3 (aM 1 eH Mf),od N3 (aM 1 eH Mg),.any],rfl,cc.refl _⟩;exact⟨[od N3 (ay Bh),od N3 (aM 1 bk Bi),od N3 (ay Bj),od N3 (aM 1 bk Bk)],rfl,cc.refl _⟩
   replace hwA:=λh hm=>uW h (hwA h hm);replace hwB:=λh hm=>uW h (hwB h hm);have hwC:∀h∈[Ag,By],Ox ln2 h:=λh hm=>by
    rcases List.mem_cons.1 hm with rfl|hm
    ·exact hw3
    rw[List.mem_singleton.1 hm];exact hw4
   refine bP (cH (i:=79) (E1:=23) (n:=1) (e:=eH) (l:=LC) Y) ?_;refine bP (cH (i:=83) (E1:=23) (n:=1) (e:=eH) (l:=A5) Y) ?_;refine b9 ?_;refine aZ ?_;refine RT.mv .none Y (tl Y) ?_;refine RT.load .none Y Y (.k4 Y Y Y Y) Y (tl Y) ?_;refine RT.FC (q:=⟨⟨Bh,Bi⟩,⟨Bj,Bk⟩⟩) .none oF hw1 Y ⟨Y,Y,ak⟩ (tl Y) ?_;refine RT.done ?_;refine aY.n ?_;refine b9 ?_;refine aZ ?_;refine RT.mv .none Y (tl Y) ?_;refine RT.load .none Y Y (.k4 Y Y Y Y) Y (tl Y) ?_;refine RT.FC (q:=⟨⟨Bh,Bi⟩,⟨Bj,Bk⟩⟩) .none oF hw2 Y ⟨Y,Y,ak⟩ (tl Y) ?_;refine RT.done ?_;refine aY.n ?_;refine b9 ?_;refine aZ ?_;refine RT.mv .none Y (tl Y) ?_;refine RT.mv .none Y (tl Y) ?_;refine RT.jo (l:=[Ag,By]) (e:=eH) .none (.one Y (.one Y (.nil))) (tl Y) Y Y Y Y Y Y ?_;refine RT.load .none Y Y (.k4 Y Y Y Y) Y (tl Y) ?_;refine RT.FC (q:=⟨⟨Bh,Bi⟩,⟨Bj,Bk⟩⟩) .none oF hwC Y ⟨Y,Y,ak⟩ (tl Y) ?_;refine RT.done ?_;refine aY.n ?_;refine b9 ?_;refine aZ ?_;refine RT.fieldAddr .none Y (tl Y) Y ?_;refine RT.zh .none Y Y Y (tl Y) ?_;refine RT.load .none Y Y (.k4 Y Y Y Y) Y (tl Y) ?_;refine RT.FC (q:=⟨⟨Bh,Bi⟩,⟨Bj,Bk⟩⟩) .none oF hwB Y ⟨Y,Y,ak⟩ (tl Y) ?_;refine RT.done ?_;refine aY.n ?_;refine b9 ?_;refine aZ ?_;refine RT.fieldAddr .none Y (tl Y) Y ?_
   refine RT.zh .none Y Y Y (tl Y) ?_;refine RT.load .none Y Y (.k4 Y Y Y Y) Y (tl Y) ?_;refine RT.FC (q:=⟨⟨Bh,Bi⟩,⟨Bj,Bk⟩⟩) .none oF hwA Y ⟨Y,Y,ak⟩ (tl Y) ?_;refine RT.done ?_;refine aY.n ?_;refine b9 ?_;refine bU FF (λj47=>AS.cz 120 [(4,ai j47)] [] []) (λFF=>?_) (λafA FF=>?_)
   ·refine aZ ?_;refine RT.mv .none Y (tl Y) ?_;refine RT.mv .none Y (tl Y) ?_;replace FF:=bind_some FF;obtain⟨QT,ahT,FF⟩:=FF;refine RT.call .none (Rm ahT) Y ⟨Y,Y,ak⟩ (tl Y) ?_;refine RT.mv .none Y (tl Y) ?_;replace FF:=bind_some FF;obtain⟨US,Mh,FF⟩:=FF;cases QT
    ·replace Mh:=Pt Mh;obtain rfl:=Option.some.inj Mh;refine RT.skV Y Y (sk Y) (tl Y) ?_;refine RT.Ml .none Y Y (tl Y) ?_;refine RT.BA .none Y (tl Y) ?_;refine RT.done ?_;refine aY.n ?_;refine⟨false,FF,?_⟩
     exact cj id Y Y Y Y Y ⟨.sv aq,ak⟩ trivial trivial (λ_ _=>Y)
    replace Mh:=VG Mh;replace Mh:=bind_some Mh;obtain⟨V7,ahU,Mh⟩:=Mh;refine RT.call (.some Y Y) (r8 ahU) Y trivial (tl Y) ?_;obtain rfl:=Option.some.inj Mh;refine RT.T8 .none Y Y (tl Y) ?_;refine RT.BA .none Y (tl Y) ?_;refine RT.done ?_;refine aY.n ?_;refine⟨V7,FF,?_⟩;exact cj id Y Y Y Y Y ⟨.sv aq,ak⟩ trivial trivial (λ_ _=>Y)
   refine aY.n ?_;refine bj ?_;obtain rfl:=Option.some.inj FF;exact⟨.inr Y,gp (.tmp Y (.nil)) aq⟩
  replace h:=VG h;refine dR Y ?_;refine b9 ?_;refine bU h (λj11=>AS.cz 120 [(4,ai j11)] [] []) (λh=>?_) (λafv h=>?_)
  ·refine aZ ?_;refine RT.mv .none Y (tl Y) ?_;refine RT.eql .none false Y Y (tl Y) η ?_;refine RT.mv .none Y (tl Y) ?_;replace h:=bind_some h;obtain⟨Z6,aiA,h⟩:=h;replace aiA:=Pt aiA;obtain rfl:=Option.some.inj aiA;refine RT.skV Y Y (sk Y) (tl Y) ?_;refine RT.Ml .none Y Y (tl Y) ?_;refine RT.BA .none Y (tl Y) ?_;refine RT.done ?_;refine aY.n ?_;refine⟨false,h,?_⟩
   exact cj id Y Y Y Y Y ⟨.sv aq,ak⟩ trivial trivial (λ_ _=>Y)
  refine aY.n ?_;refine bj ?_;refine aY.r ?_;obtain rfl:=Option.some.inj h;exact⟨.inr Y,gp (.tmp Y (.nil)) aq⟩
 replace h:=VG h;refine dR Y ?_;refine b9 ?_;refine aZ ?_;replace h:=bind_some h;obtain⟨iv,oO,h⟩:=h;refine RT.call .none (r8 oO) Y trivial (tl Y) ?_;refine RT.BA .none Y (tl Y) ?_;refine RT.done ?_;refine aY.n ?_;refine bj ?_;refine aY.r ?_;obtain rfl:=Option.some.inj h;exact⟨.inr Y,gp (.tmp Y (.nil)) aq⟩
end
section
open Go.Fw Go.Fw.Z Go.RowKit
theorem OD{x0:Lr}{x1:List Pv}{r:Bool}(h:yJ x0 x1=some r):Pure af 3 [.agg (Lo x0),aM 2 WK x1] (ay r):=by
 obtain⟨bt,bu,bD,bG⟩:=x0;refine bp Tryz.func3 Y (ae Y) (λdA M vs hvs=>?_);unfold yJ at h;refine sr<|bx Y<|ag Y<|dn<|qq<|qq<|bU h (λj3=>AS.cz 120 [(1,.sv (aM 2 WK x1)),(2,.ptr 2 0),(23,ai j3)] [(2,⟨25,[ah bt,.sv (aM 1 (eS 4 eQ) bu),.sv (aM 1 (eS 4 eQ) bD),.sv (aM 4 eQ bG)]⟩)] []) (λh=>?_) (λxb h=>?_);refine aZ<|ld Y Y (.k4 Y Y Y Y)<|bE h λfe jB h=>cl (Du jB) ⟨Y,ak⟩<|mv Y<|bE h λafB hg9 h=>?_;cases fe;refine gm Y<|lE (F hg9) λfR j0 hg9=>gn Y j0<|lE hg9 λiE oc hg9=>gg _ Y Y oc ?_;obtain rfl:=O hg9;exact pF Y<|dn<|⟨iE,h,wR []⟩;cases O (V hg9);exact ww<|ww<|ww<|pT Y<|dn<|⟨true,h,wR []⟩;refine aY.n ?_;cases xb;refine fs<|sr<|ld Y Y (.k4 Y Y Y Y) ?_;obtain⟨⟨xz,zP,zQ,xA⟩,pK,h⟩:=bS (F h);refine cl (On pK) ⟨Y,ak⟩<|al (cs:=[ax 0,aM 1 (eS 4 eQ) [],aM 1 (eS 4 eQ) [],aM 4 eQ []]) (by exact⟨aq,aD,aD,aD,ak⟩) Y<|so Y Y Y<|dn<|sr<|ld Y Y (.k4 Y Y Y Y)<|bE h λ_ nW h=>cl (Rh nW) ⟨Y,ak⟩<|mv Y<|ex Y Y<|ex Y Y<|ag Y<|ag Y<|dn<|qq<|sr<|mv Y<|ne true Y Y η<|mv Y<|ww<|ww<|pT Y<|dn<|cT<|sr<|mv Y<|eq true Y Y η<|mv Y<|bE h λyj Gl h=>gc (r8 Gl) trivial<|pT Y<|ag Y<|dn<|bj<|aY.r ?_;cases O h;exact R1 Y;refine cT<|sr<|bE (V h) λiv oO h=>cl (r8 oO) trivial<|ag Y<|dn<|bj<|aY.r ?_;cases O h;exact R1 Y
end
section
open Go.Fw Go.Fw.Z Go.RowKit
theorem AQ{x0:Lr}{x1:List Pv}{r:Bool}(h:kA x0 x1=some r):Pure af 3 [.agg (Lo x0),aM 2 WK x1] (ay r):=by
 unfold kA at h;by_cases aiB:vz x0 x1=some true;rw[if_pos aiB]at h;rw[<-Option.some.inj h];exact OC aiB;rw[if_neg aiB]at h;exact OD h
end
end Go.Proofs.YtningmnklfpfjaaGreat
namespace Go.Fw
section
theorem kC{n:Nat}(h:n<=9223372036854775807):IntKind.i64.wrap (n:Int)=n:=rH ξ
theorem cQ{x:Int}(h: -9223372036854775808<=x)(h':x<=9223372036854775807):IntKind.i64.wrap x=x:=rH ⟨h,h'⟩
theorem bQ{n:Nat}(h:n<9223372036854775807):IntKind.i64.wrap ((n:Int)+1)=((n+1:Nat):Int):=by rw[rH ξ];simp
theorem sE{n m:Nat}(h:n+m<=9223372036854775807):IntKind.i64.wrap ((n:Int)+(m:Int))=((n+m:Nat):Int):=by rw[rH ξ];simp
theorem KT{n:Nat}(h:n<=9223372036854775807):IntKind.i64.wrap (((n+1:Nat):Int)-1)=(n:Int):=by rw[rH ξ];omega
theorem bH{α:Type}{l:List α}{i:Nat}{a:α}(h:l[i]? =some a):cV l (i:Int)=some a:=by simp[cV,h]
theorem CQ{α:Type}{l:List α}{a:α}(h:l[0]? =some a):cV l 0=some a:=by simp[cV,h]
theorem Z9{α:Type}{l:List α}{a:α}(h:l[1]? =some a):cV l 1=some a:=by simp[cV,h]
theorem cO{α:Type}{l:List α}{i:Nat}(h:i<l.length):qK l (i:Int)=some i:=by simp[qK,h]
theorem fK{α:Type}{l:List α}{i:Nat}{y:α}(h:i<l.length):stM l i y=some (l.set i y):=by simp[stM,h]
theorem aaa{α:Type}{b:Nat}{l k:List α}(h:(l.length+k.length)*b<=140737488355328)(h':l.length+k.length<=140737488355328):lM b l k=some (l++k):=by simp[lM,h,h']
theorem nh{α:Type}{b:Nat}{l:List α}{x:α}(hb:b<=100)(h:l.length<=1000000000000):lM b l [x]=some (l++[x]):=by
 apply aaa
 ·have:(l.length+[x].length)*b<=1000000000001*100:=Nat.mul_le_mul aH hb;omega
 simp;omega
theorem aab{α:Type}{b:Nat}{l k:List α}(hb:b<=100)(h:l.length+k.length<=1000000000000):lM b l k=some (l++k):=by
 apply aaa
 ·have:(l.length+k.length)*b<=1000000000000*100:=Nat.mul_le_mul h hb;omega
 omega
theorem KU{α:Type}{b:Nat}{n:Nat}(hb:b<=100)(h:n<=1000000000000):Xu (α:=α) b (n:Int)=some []:=by
 have:b*n<=100*1000000000000:=Nat.mul_le_mul hb h;have h2:(b:Int)*(n:Int)=((b*n:Nat):Int):=by simp
 unfold Xu;rw[h2,if_pos ⟨by omega,by omega,by omega⟩]
theorem za{α:Type}{b:Nat}{n:Nat}{z:α}(hb:b<=100)(h:n<=1000000000000):Ln b (n:Int) z=some (List.replicate n z):=by
 have:b*n<=100*1000000000000:=Nat.mul_le_mul hb h;have h2:(b:Int)*(n:Int)=((b*n:Nat):Int):=by simp
 unfold Ln;rw[h2,if_pos ⟨by omega,by omega,by omega⟩,Int.toNat_natCast]
theorem aac{α:Type}{l:List α}{i j:Nat}(h:i<=j)(h':j<=l.length):HR l (i:Int) (j:Int)=some (cut l i j):=by
 unfold HR;rw[if_pos ⟨by omega,by omega,by omega⟩];simp
theorem z5{α:Type}{l:List α}{j:Nat}(h':j<=l.length):HR l 0 (j:Int)=some (l.take j):=by
 have:=aac (l:=l) (i:=0) (j:=j) ξ h';simpa[cut]using this
theorem AR{M a b:Nat}(h:b<=a)(h':a<M):w6 M a b=a-b:=by
 unfold w6;rw[show(a:Int)-(b:Int)=((a-b:Nat):Int) by omega,<-Int.natCast_emod,Int.toNat_natCast,Nat.mod_eq_of_lt ξ]
theorem FG{M a b:Nat}(h:a<b)(h':b<=M):w6 M a b=M+a-b:=by
 unfold w6;have:((a:Int)-(b:Int))%(M:Int)=((M+a-b:Nat):Int):=by
  rw[<-Int.add_emod_right (a:=(a:Int)-b),show(a:Int)-(b:Int)+(M:Int)=((M+a-b:Nat):Int) by omega,<-Int.natCast_emod,Nat.mod_eq_of_lt ξ]
 rw[this,Int.toNat_natCast]
theorem IU{o n i:Nat}(h:i<n):ckR o n (i:Int)=some (o+i):=by simp[ckR,h]
theorem z6{α:Type}{l l':List α}(h:l'.length=l.length):Dg l l'=some ():=by simp[Dg,h]
theorem OE{M a b:Nat}(h:b≠0)(h':a<M):Ng M a b=some (a/b):=by
 unfold Ng;rw[if_neg h,Nat.mod_eq_of_lt (Nat.lt_of_le_of_lt (Nat.div_le_self _ _) h')]
theorem IV{a b:Nat}(h:b≠0):LH a b=some (a%b):=by unfold LH;rw[if_neg h]
theorem ct{α β:Type}{a:α}{f:α->Option β}:Option.bind (some a) f=f a:=by
 have h:∀o,o=some a->Option.bind o f=f a:=by intro o ho;rw[ho];rfl
 exact h _ Y
theorem iw{α:Type}{x y:α}:(bif true then x else y)=x:=by
 have h:∀b,b=true->(bif b then x else y)=x:=by intro b hb;rw[hb];rfl
 exact h _ Y
theorem ja{α:Type}{x y:α}:(bif false then x else y)=y:=by
 have h:∀b,b=false->(bif b then x else y)=y:=by intro b hb;rw[hb];rfl
 exact h _ Y
theorem iK{S E R:Type}{body:S->Option (S⊕E)}{s:S}{f:E->Option R}{r:R}(I:S->Prop)(Post:E->Prop)(μ:S->Nat)
  (step:∀s,I s->(∃s',body s=some (.inl s')/\I s'/\μ s'<μ s)\/(∃e,body s=some (.inr e)/\Post e)) (h:I s) (hf:∀e,Post e->f e=some r):(cm body s).bind f=some r:=by
 obtain⟨e,h1,h2⟩:=F9 I Post μ step h;rw[h1];exact hf e h2
theorem ni{S E R:Type}{body:S->Option (S⊕E)}{s:S}{f:E->Option R}{Q:R->Prop}(I:S->Prop)(Post:E->Prop)(μ:S->Nat)
  (step:∀s,I s->(∃s',body s=some (.inl s')/\I s'/\μ s'<μ s)\/(∃e,body s=some (.inr e)/\Post e)) (h:I s) (hf:∀e,Post e->∃r,f e=some r/\Q r):∃r,(cm body s).bind f=some r/\Q r:=by
 obtain⟨e,h1,h2⟩:=F9 I Post μ step h;rw[h1];exact hf e h2
theorem bK{S E R:Type}{body:S->Option (S⊕E)}{s:S}{f:E->Option R}{r:R}(st:Nat->S)(n:Nat)(e:E)(h0:s=st 0)(hs:∀k,k<n->body (st k)=some (.inl (st (k+1))))(he:body (st n)=some (.inr e))(hf:f e=some r):(cm body s).bind f=some r:=by
 rw[h0,Xy st n hs he];exact hf
theorem AT{S R:Type}{body:Nat->S->Option S}{s:S}{f:S->Option R}{r:R}(st:Nat->S){n:Nat}(h0:s=st 0)(hs:∀k,k<n->body k (st k)=some (st (k+1)))(hf:f (st n)=some r):(tq body n s).bind f=some r:=by
 rw[h0,Ga st n hs];exact hf
theorem aC{α β:Type}{x:Option α}{a:α}{f:α->Option β}{r:Option β}(h:x=some a)(hf:f a=r):x.bind f=r:=by rw[h];exact hf
theorem bY{α:Type}{b:Bool}{x y r:α}(hb:b=true)(h:x=r):(bif b then x else y)=r:=by rw[hb];exact h
theorem bL{α:Type}{b:Bool}{x y r:α}(hb:b=false)(h:y=r):(bif b then x else y)=r:=by rw[hb];exact h
end
section
def val(B:Nat):List Nat->Nat
 |[]=>0
 |x::l=>x+B*val B l
def g9(B:Nat):Nat->Nat->List Nat
 |0,_=>[]
 |n+1,v=>v%B::g9 B n (v/B)
def oG(ws:List Nat):List Nat:=(ws.reverse.dropWhile (· ==0)).reverse
def can(B v:Nat):List Nat:=oG (g9 B v v)
theorem cu(B:Nat):∀n v,(g9 B n v).length=n
 |0,_=>rfl
 |n+1,v=>by simp[g9,cu B n]
theorem sF(B:Nat):∀n v,val B (g9 B n v)=v%B^n
 |0,v=>by simp[g9,val,Nat.mod_one]
 |n+1,v=>by
  rw[g9,val,sF B n,Nat.pow_succ,Nat.mul_comm (B^n) B,Nat.mod_mul]
theorem vQ{B:Nat}(hB:0<B):∀(n v x:Nat),x∈g9 B n v->x<B
 |n+1,v,x,h=>by
  rcases List.mem_cons.1 h with rfl|h
  ·exact Nat.mod_lt _ hB
  exact vQ hB n _ x h
theorem jK{B:Nat}:∀(l:List Nat),(∀x∈l,x<B)->val B l<B^l.length
 |[],_=>by simp[val]
 |x::l,h=>by
  have h1:=jK l (λy hy=>h y (List.mem_cons_of_mem _ hy));have h2:=h x θ;rw[val,List.length_cons,Nat.pow_succ]
  calc x+B*val B l<B+B*val B l:=by omega
   _=B*(val B l+1):=by rw[Nat.mul_add];omega
   _<=B*B^l.length:=Nat.mul_le_mul_left _ h1
   _=B^l.length*B:=Nat.mul_comm _ _
theorem IW{B:Nat}:∀(l:List Nat),(∀x∈l,x<B)->g9 B l.length (val B l)=l
 |[],_=>rfl
 |x::l,h=>by
  have h2:=h x θ;have hB:0<B:=by omega
  rw[List.length_cons,g9,val,Nat.add_mul_mod_self_left,Nat.mod_eq_of_lt h2,Nat.add_mul_div_left _ _ hB,Nat.div_eq_of_lt h2,Nat.zero_add,IW l (λy hy=>h y (List.mem_cons_of_mem _ hy))]
theorem FH{B:Nat}:∀(n v j:Nat),j<n->(g9 B n v)[j]? =some (v/B^j%B)
 |n+1,v,0,_=>by simp[g9]
 |n+1,v,j+1,h=>by
  rw[g9,List.getElem?_cons_succ,FH n _ j ξ,Nat.div_div_eq_div_mul,Nat.pow_succ,Nat.mul_comm B]
theorem OF{B:Nat}:∀(a b:List Nat),val B (a++b)=val B a+B^a.length*val B b
 |[],b=>by simp[val]
 |x::a,b=>by
  rw[List.cons_append,val,val,OF a b,List.length_cons,Nat.pow_succ,Nat.mul_add,Nat.add_assoc,Nat.mul_comm (B^a.length) B,Nat.mul_assoc]
theorem mE{B:Nat}:∀(n v:Nat),g9 B (n+1) v=g9 B n v++[v/B^n%B]
 |0,v=>by simp[g9]
 |n+1,v=>by
  rw[g9,mE n,g9,List.cons_append,Nat.div_div_eq_div_mul,Nat.pow_succ,Nat.mul_comm B]
theorem z7(B:Nat):∀k,g9 B k 0=List.replicate k 0
 |0=>rfl
 |k+1=>by rw[g9,Nat.zero_mod,Nat.zero_div,z7 B k];rfl
theorem KV{B:Nat}(hB:0<B):∀(n k v:Nat),v<B^n->g9 B (n+k) v=g9 B n v++List.replicate k 0
 |0,k,v,h=>by
  have:v=0:=by simpa using h
  subst this;rw[Nat.zero_add,z7];rfl
 |n+1,k,v,h=>by
  rw[show n+1+k=n+k+1 by omega,g9,g9,List.cons_append,KV hB n k (v/B) (by rw[Nat.div_lt_iff_lt_mul hB];rwa[Nat.pow_succ]at h)]
theorem AU{B:Nat}(hB:2<=B):∀v,v<B^v
 |0=>by simp
 |v+1=>by
  have:=AU hB v;rw[Nat.pow_succ];have h2:B^v*2<=B^v*B:=Nat.mul_le_mul_left _ hB;omega
theorem xS(l:List Nat):oG (l++[0])=oG l:=by simp[oG]
theorem Cw(l:List Nat):∀k,oG (l++List.replicate k 0)=oG l
 |0=>by simp
 |k+1=>by rw[List.replicate_succ',<-List.append_assoc,xS,Cw l k]
theorem AW(l:List Nat){x:Nat}(h:x≠0):oG (l++[x])=l++[x]:=by simp[oG,h]
theorem D9(xs:List Nat):xs=[]\/(∃ys,xs=ys++[0])\/(∃ys y,y≠0/\xs=ys++[y]):=by
 rcases List.eq_nil_or_concat xs with rfl|⟨ys,y,rfl⟩
 ·exact .inl Y
 by_cases hy:y=0
 ·subst hy;exact .inr (.inl ⟨ys,by simp⟩)
 exact .inr (.inr ⟨ys,y,hy,by simp⟩)
theorem GV:∀(n:Nat) (l:List Nat),l.length=n->∃k,l=oG l++List.replicate k 0:=by
 intro n
 induction n with
 |zero=>intro l h;cases List.length_eq_zero_iff.1 h;exact⟨0,Y⟩
 |succ n ih=>
  intro l h;rcases D9 l with rfl|⟨ys,rfl⟩|⟨ys,y,hy,rfl⟩
  ·simp at h
  ·obtain⟨k,hk⟩:=ih ys (by simpa using h);refine⟨k+1,?_⟩;rw[xS,List.replicate_succ',<-List.append_assoc,<-hk]
  exact⟨0,by rw[AW _ hy];simp⟩
theorem Wp{l:List Nat}{x:Nat}(h:x∈oG l):x∈l:=by
 obtain⟨k,hk⟩:=GV _ l Y;rw[hk];exact List.mem_append_left _ h
theorem MS(l:List Nat):(oG l).length<=l.length:=by
 obtain⟨k,hk⟩:=GV _ l Y;have:=congrArg List.length hk;rw[List.length_append]at this;omega
theorem MT(B:Nat):∀k,val B (List.replicate k 0)=0
 |0=>rfl
 |k+1=>by rw[List.replicate_succ,val,MT B k];simp
theorem aad(B:Nat)(l:List Nat):val B (oG l)=val B l:=by
 obtain⟨k,hk⟩:=GV _ l Y
 conv=>rhs;rw[hk,OF,MT]
 simp
theorem vC{B:Nat}(hB:2<=B){n v:Nat}(h:v<B^n):oG (g9 B n v)=can B v:=by
 have hv:=AU hB v;rcases Nat.le_total n v with hn|hn
 ·obtain⟨k,rfl⟩:=Nat.exists_eq_add_of_le hn;rw[can,KV ξ n k _ h,Cw]
 obtain⟨k,rfl⟩:=Nat.exists_eq_add_of_le hn;rw[can,KV ξ v k _ hv,Cw]
theorem oH{B:Nat}(hB:2<=B){l:List Nat}(h:∀x∈l,x<B):oG l=can B (val B l):=by
 conv=>lhs;rw[<-IW l h]
 exact vC hB (jK l h)
theorem pq{B:Nat}(hB:2<=B)(v:Nat):val B (can B v)=v:=by
 rw[can,aad,sF,Nat.mod_eq_of_lt (AU hB v)]
theorem jz{B:Nat}(hB:2<=B){v x:Nat}(h:x∈can B v):x<B:=vQ ξ v v x (Wp h)
theorem xT(B:Nat):can B 0=[]:=rfl
theorem FI{B:Nat}(hB:2<=B){v:Nat}(h:can B v=[]):v=0:=by have:=pq hB v;rw[h]at this;exact this.symm
theorem acO{B:Nat}(hB:2<=B){v n:Nat}(h:v<B^n):(can B v).length<=n:=by
 rw[<-vC hB h];have:=MS (g9 B n v);rwa[cu]at this
theorem acP{B:Nat}(hB:2<=B)(v:Nat):oG (can B v)=can B v:=by
 rw[oH hB (λx hx=>jz hB hx),pq hB]
theorem UT{B:Nat}(hB:2<=B)(v:Nat):can B v=g9 B (can B v).length v:=by
 have:=IW (can B v) (λx hx=>jz hB hx);rw[pq hB]at this;exact this.symm
theorem dw{B:Nat}(hB:2<=B)(v:Nat):v<B^(can B v).length:=by
 have:=jK (can B v) (λx hx=>jz hB hx);rwa[pq hB]at this
theorem CR{B:Nat}(hB:2<=B){v j:Nat}(h:j<(can B v).length):(can B v)[j]? =some (v/B^j%B):=by
 rw[UT hB v]at h⊢;rw[cu]at h;exact FH _ _ _ h
theorem KW{B:Nat}(hB:2<=B){v j:Nat}(h:(can B v).length<=j):v/B^j=0:=by
 refine Nat.div_eq_of_lt (Nat.lt_of_lt_of_le (dw hB v) ?_);exact Nat.pow_le_pow_right ξ h
theorem Rr{B:Nat}(hB:2<=B){v:Nat}(h:v≠0):∃l x,x≠0/\can B v=l++[x]:=by
 rcases D9 (can B v)with e|⟨ys,e⟩|⟨ys,y,hy,e⟩
 ·exact absurd (FI hB e) h
 ·exfalso;have h1:=acP hB v;rw[e,xS]at h1;have h2:=MS ys;rw[h1]at h2;simp at h2;omega
 exact⟨ys,y,hy,e⟩
theorem zb{B:Nat}(hB:2<=B){v n:Nat}(h:n<(can B v).length):B^n<=v:=by
 by_cases h0:v=0
 ·subst h0;simp[xT]at h
 obtain⟨l,x,hx,e⟩:=Rr hB h0;have h1:=pq hB v;rw[e,OF]at h1;have hl:n<=l.length:=by rw[e]at h;simp at h;omega
 have h2:B^n<=B^l.length:=Nat.pow_le_pow_right ξ hl;have h3:B^l.length<=B^l.length*val B [x]:=Nat.le_mul_of_pos_right _ (by simp[val];omega);omega
theorem cL{B:Nat}(hB:2<=B){v n:Nat}:(can B v).length<=n↔v<B^n:=by
 refine⟨λh=>?_,acO hB⟩;exact Nat.lt_of_lt_of_le (dw hB v) (Nat.pow_le_pow_right ξ h)
theorem aae{B:Nat}(hB:2<=B){l:List Nat}{x:Nat}(hx:x≠0)(h:∀y∈l++[x],y<B):l++[x]=can B (val B (l++[x])):=by
 rw[<-oH hB h,AW _ hx]
theorem z8{B:Nat}:∀(l:List Nat),(∀x∈l,x<B)->∀k,l.getD k 0=val B l/B^k%B
 |[],_,k=>by simp[val]
 |x::l,h,0=>by
  have h2:=h x θ;simp[val,Nat.add_mul_mod_self_left,Nat.mod_eq_of_lt h2]
 |x::l,h,k+1=>by
  have h2:=h x θ;have hB:0<B:=by omega
  rw[List.getD_cons_succ,z8 l (λy hy=>h y (List.mem_cons_of_mem _ hy)) k,val,Nat.pow_succ,Nat.mul_comm (B^k) B,<-Nat.div_div_eq_div_mul,Nat.add_mul_div_left _ _ hB,Nat.div_eq_of_lt h2,Nat.zero_add]
theorem lu(B V k:Nat):V%B^(k+1)=V%B^k+B^k*(V/B^k%B):=by
 rw[Nat.pow_succ,Nat.mod_mul]
def IX(B V W k:Nat):Nat:=(V%B^k+W%B^k)/B^k
theorem KX{B:Nat}(hB:0<B)(V W k:Nat):IX B V W k<=1:=by
 have hP:0<B^k:=Nat.pow_pos hB;have h1:=Nat.mod_lt V hP;have h2:=Nat.mod_lt W hP;have:IX B V W k<2:=by rw[IX,Nat.div_lt_iff_lt_mul hP];omega
 omega
theorem KY{B:Nat}(hB:0<B)(V W k:Nat):(V/B^k%B+W/B^k%B+IX B V W k)/B=IX B V W (k+1):=by
 have hP:0<B^k:=Nat.pow_pos hB;rw[IX,IX,lu,lu,Nat.pow_succ,<-Nat.div_div_eq_div_mul];congr 1;rw[show V%B^k+B^k*(V/B^k%B)+(W%B^k+B^k*(W/B^k%B))=(V%B^k+W%B^k)+B^k*(V/B^k%B+W/B^k%B) by rw[Nat.mul_add];omega,Nat.add_mul_div_left _ _ hP];omega
theorem IY{B:Nat}(hB:0<B)(V W k:Nat):(V/B^k%B+W/B^k%B+IX B V W k)%B=(V+W)/B^k%B:=by
 have hP:0<B^k:=Nat.pow_pos hB;have h:(V+W)/B^k=V/B^k+W/B^k+IX B V W k:=by
  have e1:=Nat.div_add_mod V (B^k);have e2:=Nat.div_add_mod W (B^k);rw[IX]
  conv=>lhs;rw[<-e1,<-e2]
  rw[show B^k*(V/B^k)+V%B^k+(B^k*(W/B^k)+W%B^k)=(V%B^k+W%B^k)+B^k*(V/B^k+W/B^k) by rw[Nat.mul_add];omega,Nat.add_mul_div_left _ _ hP];omega
 rw[h];simp[Nat.add_mod]
theorem OG{B:Nat}{V W k:Nat}(hV:V<B^k)(hW:W<B^k):IX B V W k=(V+W)/B^k:=by
 rw[IX,Nat.mod_eq_of_lt hV,Nat.mod_eq_of_lt hW]
theorem KZ(B V W:Nat):IX B V W 0=0:=by simp[IX,Nat.mod_one]
def GW(B V W k:Nat):Nat:=(V%B^k+B^k-W%B^k)/B^k
theorem K0(B V W:Nat):GW B V W 0=1:=by simp[GW,Nat.mod_one]
theorem TK{B:Nat}(hB:0<B)(V W k:Nat):GW B V W k<=1:=by
 have hP:0<B^k:=Nat.pow_pos hB;have h1:=Nat.mod_lt V hP;have:GW B V W k<2:=by
  rw[GW,Nat.div_lt_iff_lt_mul hP];generalize W%B^k=y at*;generalize V%B^k=x at*;omega
 omega
theorem UU{B:Nat}(hB:0<B)(V W k:Nat):V%B^(k+1)+B^(k+1)-W%B^(k+1)=(V%B^k+B^k-W%B^k)+B^k*(V/B^k%B+(B-1-W/B^k%B)):=by
 have hP:0<B^k:=Nat.pow_pos hB;have h1:=Nat.mod_lt V hP;have h2:=Nat.mod_lt W hP;have h3:=Nat.mod_lt (W/B^k) hB;rw[lu,lu,Nat.pow_succ];generalize B^k=p at*;generalize V/p%B=x at*;generalize W/p%B=y at*;obtain⟨z,rfl⟩:∃z,B=y+1+z:=⟨B-y-1,by omega⟩;have e1:y+1+z-1-y=z:=by omega
 rw[e1,Nat.mul_add p x z,Nat.mul_add p (y+1) z,Nat.mul_add p y 1];omega
theorem K1{B:Nat}(hB:0<B)(V W k:Nat):(V/B^k%B+(B-1-W/B^k%B)+GW B V W k)/B=GW B V W (k+1):=by
 have hP:0<B^k:=Nat.pow_pos hB;rw[GW,GW,UU hB,Nat.pow_succ,<-Nat.div_div_eq_div_mul,Nat.add_mul_div_left _ _ hP];congr 1;omega
theorem TL{Q V W:Nat}(hQ:0<Q)(h:W<=V):(V%Q+Q-W%Q)%Q=(V-W)%Q:=by
 have e1:=Nat.div_add_mod V Q;have e2:=Nat.div_add_mod W Q;have h1:=Nat.mod_lt V hQ;have h2:=Nat.mod_lt W hQ;have hq:W/Q<=V/Q:=Nat.div_le_div_right h;generalize V%Q=r at*;generalize W%Q=s at*;generalize V/Q=a at*;generalize W/Q=b at*;obtain⟨c,rfl⟩:=Nat.exists_eq_add_of_le hq;rw[Nat.mul_add]at e1;rcases Nat.lt_or_ge r s with S8|S8
 ·cases c with
  |zero=>simp at e1;omega
  |succ c=>
   rw[Nat.mul_add,Nat.mul_one]at e1;rw[show V-W=Q*c+(r+Q-s) by omega,Nat.mul_add_mod]
 rw[show V-W=Q*c+(r-s) by omega,Nat.mul_add_mod,show r+Q-s=r-s+Q by omega,Nat.add_mod_right]
theorem OH{B:Nat}(hB:0<B){V W:Nat}(h:W<=V)(k:Nat):(V/B^k%B+(B-1-W/B^k%B)+GW B V W k)%B=(V-W)/B^k%B:=by
 have hP:0<B^k:=Nat.pow_pos hB;have hQ:0<B^(k+1):=Nat.pow_pos hB;have e:=TL hQ h;have e2:V/B^k%B+(B-1-W/B^k%B)+GW B V W k=(V%B^(k+1)+B^(k+1)-W%B^(k+1))/B^k:=by
  rw[UU hB,Nat.add_mul_div_left _ _ hP,GW];omega
 rw[e2,<-Nat.mod_mul_right_div_self,<-Nat.mod_mul_right_div_self,<-Nat.pow_succ,e]
end
section
theorem UW{B:Nat}(hB:0<B):∀(j N lo p d hi:Nat),lo<B^j->p<B->d<B->j<N->(g9 B N (lo+B^j*(p+B*hi))).set j d=g9 B N (lo+B^j*(d+B*hi))
 |0,N+1,lo,p,d,hi,hlo,hp,hd,_=>by
  have:lo=0:=by simpa using hlo
  subst this;simp only[Nat.pow_zero,Nat.zero_add,Nat.one_mul,g9,List.set_cons_zero,Nat.add_mul_mod_self_left,Nat.mod_eq_of_lt hd];rw[Nat.add_mul_div_left _ _ hB,Nat.add_mul_div_left _ _ hB,Nat.div_eq_of_lt hp,Nat.div_eq_of_lt hd]
 |j+1,N+1,lo,p,d,hi,hlo,hp,hd,hN=>by
  have e:∀q,(lo+B^(j+1)*(q+B*hi))%B=lo%B:=λq=>by
   rw[Nat.pow_succ,Nat.mul_comm (B^j) B,Nat.mul_assoc,Nat.add_mul_mod_self_left]
  have e2:∀q,(lo+B^(j+1)*(q+B*hi))/B=lo/B+B^j*(q+B*hi):=λq=>by
   rw[Nat.pow_succ,Nat.mul_comm (B^j) B,Nat.mul_assoc,Nat.add_mul_div_left _ _ hB]
  have asY:lo/B<B^j:=by rw[Nat.div_lt_iff_lt_mul hB];rwa[Nat.pow_succ]at hlo
  rw[g9,g9,List.set_cons_succ,e,e,e2,e2,UW hB j N (lo/B) p d hi asY hp hd ξ]
theorem CS{B:Nat}(hB:0<B){N j u u' d:Nat}(hj:j<N)(hd:d<B)(hlo:u'%B^j=u%B^j)(TM:u'/B^j%B=d)(hhi:u'/B^(j+1)=u/B^(j+1)):(g9 B N u).set j d=g9 B N u':=by
 have hP:0<B^j:=Nat.pow_pos hB;have f:∀u,u=u%B^j+B^j*(u/B^j%B+B*(u/B^(j+1))):=λu=>by
  have e1:=Nat.mod_add_div u (B^j);have e2:=Wq B u j;rw[Nat.add_comm]at e2;rw[<-e2,e1]
 rw[f u,UW hB j N _ _ d _ (Nat.mod_lt _ hP) (Nat.mod_lt _ hB) hd hj]
 conv=>rhs;rw[f u',hlo,TM,hhi]
where
 Wq (B v m:Nat):v/B^m=B*(v/B^(m+1))+v/B^m%B:=by
  rw[Nat.pow_succ,<-Nat.div_div_eq_div_mul,Nat.div_add_mod]
def mT(B V W i k:Nat):Nat:=((V%B^i)*W)%B^(i+k)+B^i*(V/B^i%B)*(W%B^k)
def mC(B V W i k:Nat):Nat:=mT B V W i k/B^(i+k)
def mV(B V W i k:Nat):Nat:=mT B V W i k%B^(i+k)+B^(i+k)*(((V%B^i)*W)/B^(i+k))
theorem afC{B:Nat}(hB:0<B)(V W i k:Nat):mT B V W i k<B^(i+k)*B:=by
 have h1:((V%B^i)*W)%B^(i+k)<B^(i+k):=Nat.mod_lt _ (Nat.pow_pos hB);have h2:V/B^i%B<B:=Nat.mod_lt _ hB;have h3:W%B^k<B^k:=Nat.mod_lt _ (Nat.pow_pos hB);have h4:B^i*(V/B^i%B)*(W%B^k)<=B^i*(B-1)*B^k:=Nat.mul_le_mul (Nat.mul_le_mul_left _ ξ) (Nat.le_of_lt h3);have h5:B^i*(B-1)*B^k=B^(i+k)*(B-1):=by rw[Nat.pow_add,Nat.mul_assoc,Nat.mul_assoc,Nat.mul_comm (B-1)]
 have h6:B^(i+k)*B=B^(i+k)*(B-1)+B^(i+k):=by
  obtain⟨b,rfl⟩:∃b,B=b+1:=⟨B-1,by omega⟩;rw[Nat.add_sub_cancel,Nat.mul_add,Nat.mul_one]
 unfold mT;omega
theorem afD{B:Nat}(hB:0<B)(V W i k:Nat):mC B V W i k<B:=by
 rw[mC,Nat.div_lt_iff_lt_mul (Nat.pow_pos hB),Nat.mul_comm];exact afC hB V W i k
theorem OI{B:Nat}(V W i k:Nat):mT B V W i (k+1)=mT B V W i k+B^(i+k)*(((V%B^i)*W)/B^(i+k)%B+(V/B^i%B)*(W/B^k%B)):=by
 have e1:((V%B^i)*W)%B^(i+(k+1))=((V%B^i)*W)%B^(i+k)+B^(i+k)*(((V%B^i)*W)/B^(i+k)%B):=by rw[<-Nat.add_assoc,lu]
 have e2:W%B^(k+1)=W%B^k+B^k*(W/B^k%B):=lu B W k;unfold mT;rw[e1,e2,Nat.mul_add,Nat.mul_add (B^(i+k))];have e3:B^i*(V/B^i%B)*(B^k*(W/B^k%B))=B^(i+k)*((V/B^i%B)*(W/B^k%B)):=by
  rw[Nat.pow_add,Nat.mul_assoc,Nat.mul_assoc,Nat.mul_left_comm (V/B^i%B)]
 omega
theorem acQ{B:Nat}(hB:0<B)(V W i k:Nat):(((V%B^i)*W)/B^(i+k)%B+(V/B^i%B)*(W/B^k%B)+mC B V W i k)/B=mC B V W i (k+1):=by
 have hP:0<B^(i+k):=Nat.pow_pos hB;rw[mC,mC,OI,<-Nat.add_assoc,Nat.pow_succ,<-Nat.div_div_eq_div_mul,Nat.add_mul_div_left _ _ hP];congr 1;omega
theorem afE{B:Nat}(V W i k:Nat):mV B V W i k%B^(i+k)=mT B V W i k%B^(i+k):=by
 rw[mV,Nat.add_mul_mod_self_left,Nat.mod_mod]
theorem UX{B:Nat}(hB:0<B)(V W i k:Nat):mV B V W i k/B^(i+k)=((V%B^i)*W)/B^(i+k):=by
 have hP:0<B^(i+k):=Nat.pow_pos hB;rw[mV,Nat.add_mul_div_left _ _ hP,Nat.div_eq_of_lt (Nat.mod_lt _ hP),Nat.zero_add]
theorem aiC{B:Nat}(hB:0<B){V W i k N:Nat}(h:i+k<N):(g9 B N (mV B V W i k))[i+k]? =some (((V%B^i)*W)/B^(i+k)%B):=by
 rw[FH _ _ _ h,UX hB]
theorem acR{B:Nat}(hB:0<B){V W i k N:Nat}(h:i+k<N):
  (g9 B N (mV B V W i k)).set (i+k) ((((V%B^i)*W)/B^(i+k)%B+(V/B^i%B)*(W/B^k%B)+mC B V W i k)%B)=g9 B N (mV B V W i (k+1)):=by
 have hP:0<B^(i+k):=Nat.pow_pos hB;have hPB:B^(i+(k+1))=B^(i+k)*B:=by rw[<-Nat.add_assoc,Nat.pow_succ]
 have hs:mT B V W i (k+1)/B^(i+k)=((V%B^i)*W)/B^(i+k)%B+(V/B^i%B)*(W/B^k%B)+mC B V W i k:=by
  rw[OI,Nat.add_mul_div_left _ _ hP,mC];omega
 have ht:mT B V W i (k+1)%B^(i+k)=mT B V W i k%B^(i+k):=by rw[OI,Nat.add_mul_mod_self_left]
 refine CS hB h (Nat.mod_lt _ hB) ?_ ?_ ?_
 ·rw[afE,<-ht,mV,hPB,Nat.mul_assoc,Nat.add_mul_mod_self_left,Nat.mod_mul_right_mod]
 ·rw[mV,hPB,Nat.mul_assoc,Nat.add_mul_div_left _ _ hP,Nat.add_mul_mod_self_left,Nat.mod_mul_right_div_self,Nat.mod_mod,hs]
 rw[show i+k+1=i+(k+1) by omega,UX hB,show i+(k+1)=i+k+1 by omega,Nat.pow_succ,<-Nat.div_div_eq_div_mul,<-Nat.div_div_eq_div_mul,UX hB]
theorem acS{B:Nat}(V W i:Nat):mV B V W i 0=(V%B^i)*W:=by
 rw[mV,mT,Nat.pow_zero,Nat.mod_one,Nat.mul_zero,Nat.add_zero,Nat.add_zero,Nat.mod_mod,Nat.mod_add_div]
theorem acT{B:Nat}(hB:0<B)(V W i:Nat):mC B V W i 0=0:=by
 rw[mC,mT,Nat.pow_zero,Nat.mod_one,Nat.mul_zero,Nat.add_zero,Nat.add_zero];exact Nat.div_eq_of_lt (Nat.mod_lt _ (Nat.pow_pos hB))
theorem aiD{B:Nat}(hB:0<B){V W i n N:Nat}(hW:W<B^n)(h:i+n<N):(g9 B N (mV B V W i n)).set (i+n) ((0+mC B V W i n)%B)=g9 B N ((V%B^(i+1))*W):=by
 have hP:0<B^(i+n):=Nat.pow_pos hB;have hp:(V%B^i)*W<B^(i+n):=by
  have h1:V%B^i<B^i:=Nat.mod_lt _ (Nat.pow_pos hB);rw[Nat.pow_add];by_cases h0:W=0
  ·subst h0;rw[Nat.mul_zero];exact Nat.mul_pos (Nat.pow_pos hB) (Nat.pow_pos hB)
  calc (V%B^i)*W<B^i*W:=Nat.mul_lt_mul_of_pos_right h1 ξ
   _<=B^i*B^n:=Nat.mul_le_mul_left _ (Nat.le_of_lt hW)
 have hT:mT B V W i n=(V%B^(i+1))*W:=by
  rw[mT,Nat.mod_eq_of_lt hp,Nat.mod_eq_of_lt hW,lu,Nat.add_mul]
 have hlt:=afC hB V W i n;rw[hT]at hlt;refine CS hB h (Nat.mod_lt _ hB) ?_ ?_ ?_
 ·rw[afE,hT]
 ·rw[Nat.zero_add,mC,hT]
 rw[Nat.pow_succ B (i+n),Nat.div_eq_of_lt hlt,<-Nat.div_div_eq_div_mul,UX hB,Nat.div_eq_of_lt hp,Nat.zero_div]
def sT(B V f e i:Nat):Nat:=V%B^i*f+e
def sC(B V f e i:Nat):Nat:=sT B V f e i/B^i
theorem OJ(B V f e:Nat):sC B V f e 0=e:=by simp[sC,sT,Nat.mod_one]
theorem UY(B V f e i:Nat):sT B V f e (i+1)=sT B V f e i+B^i*(V/B^i%B*f):=by
 unfold sT;rw[lu,Nat.add_mul,Nat.mul_assoc];omega
theorem OK{B:Nat}(hB:0<B)(V f e i:Nat):(V/B^i%B*f+sC B V f e i)/B=sC B V f e (i+1):=by
 have hP:0<B^i:=Nat.pow_pos hB;rw[sC,sC,UY,Nat.pow_succ,<-Nat.div_div_eq_div_mul,Nat.add_mul_div_left _ _ hP];congr 1;omega
theorem TN{B:Nat}(hB:0<B)(V f e i:Nat):(V/B^i%B*f+sC B V f e i)%B=(V*f+e)/B^i%B:=by
 have hP:0<B^i:=Nat.pow_pos hB;have h1:V*f+e=sT B V f e (i+1)+B^i*(B*(V/B^(i+1)*f)):=by
  have e1:=Nat.mod_add_div V (B^(i+1));unfold sT
  conv=>lhs;rw[<-e1,Nat.add_mul]
  rw[Nat.pow_succ,Nat.mul_assoc,Nat.mul_assoc];omega
 rw[h1,Nat.add_mul_div_left _ _ hP,Nat.add_mul_mod_self_left,UY,Nat.add_mul_div_left _ _ hP,sC,Nat.add_comm]
theorem aaf{B:Nat}(hB:0<B){V f e:Nat}(hf:f<B)(he:e<B)(i:Nat):sC B V f e i<B:=by
 have hP:0<B^i:=Nat.pow_pos hB;rw[sC,Nat.div_lt_iff_lt_mul hP];have h1:V%B^i<=B^i-1:=by have:=Nat.mod_lt V hP;omega
 have h2:V%B^i*f<=(B^i-1)*(B-1):=Nat.mul_le_mul h1 ξ;obtain⟨p,hp⟩:∃p,B^i=p+1:=⟨B^i-1,by omega⟩;obtain⟨b,rfl⟩:∃b,B=b+1:=⟨B-1,by omega⟩;unfold sT;rw[hp]at h2⊢;rw[Nat.add_sub_cancel,Nat.add_sub_cancel]at h2;have h3:(b+1)*(p+1)=p*b+b+p+1:=by rw[Nat.add_mul,Nat.mul_add,Nat.mul_comm b p];omega
 omega
theorem TO{B V f e i:Nat}(h:V<B^i):sC B V f e i=(V*f+e)/B^i:=by rw[sC,sT,Nat.mod_eq_of_lt h]
def sU(B V f e i:Nat):Nat:=sT B V f e i%B^i+B^i*(V/B^i)
def qU(B V d n:Nat):Nat:=V%B^n+B^n*(V/B^n/d)
theorem acU(B V d:Nat):qU B V d 0=V/d:=by simp[qU,Nat.mod_one]
theorem aiE{B V d n:Nat}(h:V<B^n):qU B V d n=V:=by simp[qU,Nat.mod_eq_of_lt h,Nat.div_eq_of_lt h]
theorem acV(B V m:Nat):V/B^m=B*(V/B^(m+1))+V/B^m%B:=by rw[Nat.pow_succ,<-Nat.div_div_eq_div_mul,Nat.div_add_mod]
theorem afF{B d:Nat}(V m:Nat):V/B^m=(V/B^(m+1)%d*B+V/B^m%B)+d*(B*(V/B^(m+1)/d)):=by
 have h1:=acV B V m;have h2:=Nat.mod_add_div (V/B^(m+1)) d;generalize V/B^(m+1)=q at*;generalize V/B^m%B=y at*;rw[h1]
 conv=>lhs;rw[<-h2]
 rw[Nat.mul_add,Nat.mul_left_comm B d,Nat.mul_comm B (q%d)];omega
theorem afG{B d:Nat}(hd:0<d)(V m:Nat):V/B^m/d=B*(V/B^(m+1)/d)+(V/B^(m+1)%d*B+V/B^m%B)/d:=by
 conv=>lhs;rw[afF (B:=B) (d:=d) V m]
 rw[Nat.add_mul_div_left _ _ hd,Nat.add_comm]
theorem aag{B d:Nat}(V m:Nat):V/B^m%d=(V/B^(m+1)%d*B+V/B^m%B)%d:=by
 conv=>lhs;rw[afF (B:=B) (d:=d) V m]
 rw[Nat.add_mul_mod_self_left]
theorem acW{B d:Nat}(hB:0<B)(hd:0<d)(V m:Nat):V/B^(m+1)%d*B+V/B^m%B<d*B:=by
 have h1:=Nat.mod_lt (V/B^(m+1)) hd;have h2:=Nat.mod_lt (V/B^m) hB;have h3:(V/B^(m+1)%d+1)*B<=d*B:=Nat.mul_le_mul_right _ h1;rw[Nat.add_mul]at h3;omega
theorem aah{B:Nat}(hB:0<B)(V d n:Nat):qU B V d n/B^n=V/B^n/d:=by
 have hP:0<B^n:=Nat.pow_pos hB;rw[qU,Nat.add_mul_div_left _ _ hP,Nat.div_eq_of_lt (Nat.mod_lt _ hP),Nat.zero_add]
theorem amj(B V d n:Nat):qU B V d n%B^n=V%B^n:=by rw[qU,Nat.add_mul_mod_self_left,Nat.mod_mod]
theorem acX{B:Nat}(V d m:Nat):qU B V d (m+1)%B^m=V%B^m:=by
 rw[qU,Nat.pow_succ,Nat.mul_assoc,Nat.add_mul_mod_self_left,Nat.mod_mul_right_mod]
theorem aiF{B:Nat}(hB:0<B){V d m N:Nat}(h:m<N):(g9 B N (qU B V d (m+1)))[m]? =some (V/B^m%B):=by
 have hP:0<B^m:=Nat.pow_pos hB;rw[FH _ _ _ h,qU,Nat.pow_succ,Nat.mul_assoc,Nat.add_mul_div_left _ _ hP,Nat.add_mul_mod_self_left,Nat.mod_mul_right_div_self,Nat.mod_mod]
theorem acY{B:Nat}(hB:0<B){V d m N:Nat}(hd:0<d)(h:m<N):(g9 B N (qU B V d (m+1))).set m ((V/B^(m+1)%d*B+V/B^m%B)/d)=g9 B N (qU B V d m):=by
 have hx:(V/B^(m+1)%d*B+V/B^m%B)/d<B:=by rw[Nat.div_lt_iff_lt_mul hd,Nat.mul_comm B d];exact acW hB hd V m
 have hq:=afG (B:=B) hd V m;refine CS hB h hx ?_ ?_ ?_
 ·rw[amj,acX]
 ·rw[aah hB,hq,Nat.mul_add_mod,Nat.mod_eq_of_lt hx]
 rw[aah hB,Nat.pow_succ,<-Nat.div_div_eq_div_mul,aah hB,hq,Nat.mul_add_div hB,Nat.div_eq_of_lt hx,<-Nat.pow_succ];rfl
end
section
theorem acZ{B v:Nat}(hB:2<=B)(h0:v≠0)(h:v<B):can B v=[v]:=by
 have:=aae hB (l:=[]) h0 (by simpa using h);simpa[val]using this.symm
theorem ac0{B v:Nat}(hB:2<=B)(h0:v/B≠0)(h:v<B*B):can B v=[v%B,v/B]:=by
 have h1:v/B<B:=by rw[Nat.div_lt_iff_lt_mul ξ];exact h
 have h2:v%B<B:=Nat.mod_lt _ ξ;have:=aae hB (l:=[v%B]) h0 (by simp;exact⟨h2,h1⟩);simp only[List.cons_append,List.nil_append,val,Nat.mul_zero,Nat.add_zero]at this;rw[Nat.mod_add_div]at this;exact this.symm
theorem qh{B:Nat}{l:List Nat}(h:∀x∈l,x<B){i:Nat}(hi:i<l.length):l[i]? =some (val B l/B^i%B):=by
 rw[<-z8 l h i];simp[List.getD,hi]
def Ea(v w:Nat):Int:=if v<w then-1 else if v=w then 0 else 1
theorem yK{v w:Nat}(h:v<w):Ea v w=-1:=by simp[Ea,h]
theorem CT(v:Nat):Ea v v=0:=by simp[Ea]
theorem AX{v w:Nat}(h:w<v):Ea v w=1:=by
 have h1:¬v<w:=by omega
 have h2:¬v=w:=by omega
 simp[Ea,h1,h2]
theorem Eb{B v w:Nat}(hB:2<=B)(h:(can B v).length<(can B w).length):v<w:=
 Nat.lt_of_lt_of_le (dw hB v) (zb hB h)
theorem FJ(B v m:Nat):v/B^m=B*(v/B^(m+1))+v/B^m%B:=by
 rw[Nat.pow_succ,<-Nat.div_div_eq_div_mul,Nat.div_add_mod]
theorem MU{B v w m:Nat}(h:v/B^m<w/B^m):v<w:=by
 rcases Nat.lt_or_ge v w with h1|h1
 ·exact h1
 have:=Nat.div_le_div_right (c:=B^m) h1;omega
theorem MV{B v w m:Nat}(h:v/B^(m+1)=w/B^(m+1)):(v/B^m%B=w/B^m%B/\v/B^m=w/B^m)\/(v/B^m%B<w/B^m%B/\v<w)\/(w/B^m%B<v/B^m%B/\w<v):=by
 have h1:=FJ B v m;have h2:=FJ B w m;rw[<-h]at h2;rcases Nat.lt_trichotomy (v/B^m%B) (w/B^m%B)with h3|h3|h3
 ·exact .inr (.inl ⟨h3,MU (B:=B) (m:=m) ξ⟩)
 ·exact .inl ⟨h3,by omega⟩
 exact .inr (.inr ⟨h3,MU (B:=B) (m:=m) ξ⟩)
end
end Go.Fw
namespace Go.Proofs.YtningmnklfpfjaaGreat
section
open Go.Fw
theorem IZ(l:List Nat)(hl:l.length<=1000000000000):bV l=some (oG l):=by
 unfold bV;refine iK (λy=>y.length<=1000000000000/\oG y=oG l) (λe=>e=oG l) (λy=>y.length) ?_ ⟨hl,Y⟩ (λe he=>by rw[he]);rintro y ⟨hy,ht⟩;rcases D9 y with rfl|⟨ys,rfl⟩|⟨ys,x,hx,rfl⟩
 ·right;exact⟨[],by simp[cX],ht⟩
 ·left;have h1:((ys++[0]).length:Int)=((ys.length+1:Nat):Int):=by simp
  have h2:ys.length<=9223372036854775807:=by simp at hy;omega
  refine⟨ys,?_,⟨by simp at hy⊢;omega,by rw[<-ht,xS]⟩,by simp⟩;simp only[cX,Option.bind_some,h1,KT h2];rw[bH (a:=0) θ,z5 θ];simp
 right;have h1:((ys++[x]).length:Int)=((ys.length+1:Nat):Int):=by simp
 have h2:ys.length<=9223372036854775807:=by simp at hy;omega
 refine⟨ys++[x],?_,by rw[<-ht,AW _ hx]⟩;simp only[cX,Option.bind_some,h1,KT h2];rw[bH (a:=x) θ];simp[hx]
def zc(n:Bool)(v:Nat):Zr:=⟨n&&v != 0,can 4294967296 v⟩
theorem UZ(n:Bool):zc n 0=⟨false,[]⟩:=by simp[zc,xT]
theorem aai(n:Bool){v:Nat}(h:v≠0):zc n v=⟨n,can 4294967296 v⟩:=by simp[zc,h]
def OL(l:List Nat):Prop:=(∀x∈l,x<4294967296)/\l.length<=100000000000
abbrev vl(l:List Nat):Nat:=val 4294967296 l
theorem pV(n:Bool)(l:List Nat)(h:OL l):dD n l=some (zc n (vl l)):=by
 unfold dD;rw[IZ l (by have:=h.2;omega),oH η h.1];show _=some (zc n (val 4294967296 l));by_cases hz:val 4294967296 l=0
 ·rw[hz,UZ];simp[xT]
 have:can 4294967296 (val 4294967296 l)≠[]:=λe=>hz (FI η e);rw[aai _ hz];simp[this]
theorem z9(n:Bool)(v:Nat)(h:v<18446744073709551616):iO n v=some (zc n v):=by
 unfold iO;by_cases hz:v=0
 ·subst hz;simp[UZ]
 rw[aai _ hz];by_cases h1:v/2^32=0
 ·rw[acZ η hz ξ];simp only[Option.bind_some,hz,h1,decide_false,decide_true,cond_false,cond_true];rw[Nat.mod_eq_of_lt ξ]
 rw[ac0 η ξ ξ];simp only[Option.bind_some,hz,h1,decide_false,cond_false];rw[Nat.mod_eq_of_lt (a:=v/2^32) ξ]
theorem aaj{a b s:Nat}(h:a<2^s):a ||| b*2^s=a+b*2^s:=by
 rw[Nat.or_comm,Nat.mul_comm b,<-Nat.two_pow_add_eq_or_of_lt h,Nat.add_comm]
theorem low_eq(l:List Nat)(h:∀x∈l,x<4294967296)(hl:l.length<=2):fX l=some (vl l):=by
 rcases l with _|⟨x,_|⟨y,_|⟨z,l⟩⟩⟩
 ·simp[fX,vl,val]
 ·have hx:=h x θ;simp only[fX,CQ (l:=[x]) (a:=x) rfl];simp[vl,val];omega
 ·have hx:=h x θ;have hy:=h y θ;simp only[fX,CQ (l:=[x,y]) (a:=x) Y,Z9 (l:=[x,y]) (a:=y) Y,Option.bind_some];rw[Nat.mod_eq_of_lt (a:=x) ξ,Nat.mod_eq_of_lt (a:=y) ξ,Nat.mod_eq_of_lt (a:=y*2^32) ξ,aaj ξ,Nat.mod_eq_of_lt ξ];simp[vl,val];omega
 simp at hl
theorem lK(x c:Nat)(h:x+c<18446744073709551616):cW x c=some ((x+c)%4294967296,(x+c)/4294967296):=by
 simp[cW,Nat.mod_eq_of_lt h]
theorem qi(v w:Nat)(hv:(can 4294967296 v).length<=100000000000)(hw:(can 4294967296 w).length<=100000000000):ef (can 4294967296 v) (can 4294967296 w)=some (Ea v w):=by
 unfold ef;rcases Nat.lt_trichotomy (can 4294967296 v).length (can 4294967296 w).length with hl|hl|hl
 ·rw[yK (Eb η hl)];simp only[Option.bind_some];rw[show decide (((can 4294967296 v).length:Int)≠((can 4294967296 w).length:Int))=true by simp;omega,show decide (((can 4294967296 v).length:Int)<((can 4294967296 w).length:Int))=true by simp;omega];rfl
 ·simp only[Option.bind_some];rw[show decide (((can 4294967296 v).length:Int)≠((can 4294967296 w).length:Int))=false by simp;omega,cond_false];refine iK (λy=>∃n:Nat,y=(n:Int)-1/\n<=(can 4294967296 v).length/\v/4294967296^n=w/4294967296^n) (λe=>e=(if v=w then .inl ()else .inr (Ea v w))) (λy=>(y+1).toNat) ?_ ⟨(can 4294967296 v).length,?_,Nat.le_refl _,?_⟩ ?_
  ·rintro y ⟨n,rfl,hn,he⟩;cases n with
   |zero=>
    right;have:v=w:=by simpa using he
    subst this;exact⟨_,by simp,Y⟩
   |succ m=>
    have LB:=CR (B:=4294967296) η (v:=v) (j:=m) ξ;have hgw:=CR (B:=4294967296) η (v:=w) (j:=m) ξ;have e0:((m+1:Nat):Int)-1=(m:Int):=by omega
    rw[e0];rcases MV he with⟨h1,h2⟩|⟨h1,h2⟩|⟨h1,h2⟩
    ·left;refine⟨(m:Int)-1,?_,⟨m,Y,by omega,h2⟩,by omega⟩;simp only[Option.bind_some,bH LB,bH hgw,h1];rw[cQ ξ ξ];simp
    ·right;refine⟨.inr (-1),?_,by rw[if_neg ξ,yK h2]⟩;simp only[Option.bind_some,bH LB,bH hgw];simp[h1,Nat.ne_of_lt h1]
    right;refine⟨.inr 1,?_,by rw[if_neg ξ,AX h2]⟩;simp only[Option.bind_some,bH LB,bH hgw];simp[Nat.not_lt_of_lt h1,Nat.ne_of_gt h1]
  ·rw[cQ ξ ξ]
  ·rw[KW η (Nat.le_refl _),KW η ξ]
  rintro e rfl;by_cases h:v=w
  ·subst h;simp[CT]
  simp[h]
 rw[AX (Eb η hl)];simp only[Option.bind_some];rw[show decide (((can 4294967296 v).length:Int)≠((can 4294967296 w).length:Int))=true by simp;omega,show decide (((can 4294967296 v).length:Int)<((can 4294967296 w).length:Int))=false by simp;omega];rfl
theorem I0{l:List Nat}(h:∀x∈l,x<4294967296)(i:Nat):l.getD i 0<4294967296:=by
 rcases Nat.lt_or_ge i l.length with hi|hi
 ·exact h _ (List.mem_of_getElem? (BF hi))
 rw[DF hi];decide
theorem HI(a b:List Nat)(ha:OL a)(hb:OL b):iF a b=some (g9 4294967296 (max a.length b.length+1) (vl a+vl b)):=by
 obtain⟨hA,hla⟩:=ha;obtain⟨hB,hlb⟩:=hb;have hV:val 4294967296 a<4294967296^(max a.length b.length):=Nat.lt_of_lt_of_le (jK a hA) (Nat.pow_le_pow_right η ξ);have hW:val 4294967296 b<4294967296^(max a.length b.length):=Nat.lt_of_lt_of_le (jK b hB) (Nat.pow_le_pow_right η ξ);unfold iF;simp only[Option.bind_some];rw[show max (a.length:Int) (b.length:Int)=((max a.length b.length:Nat):Int) by omega,bQ ξ,KU η ξ,Option.bind_some];refine AT (λk=>(IX 4294967296 (vl a) (vl b) k,g9 4294967296 k (vl a+vl b))) (by simp[KZ,g9]) (λk hk=>?_) ?_
 ·have hx:=I0 hA k;have hy:=I0 hB k;have hc:=KX (B:=4294967296) η (vl a) (vl b) k;have hxe:=z8 a hA k;have hye:=z8 b hB k;simp only[Option.bind_some];rw[Nat.mod_eq_of_lt (a:=a.getD k 0) ξ,Nat.mod_eq_of_lt (a:=b.getD k 0) ξ,Nat.mod_eq_of_lt (a:=a.getD k 0+b.getD k 0) ξ,lK _ _ ξ];simp only[Option.bind_some];rw[nh η (by rw[cu];omega),Option.bind_some,hxe,hye,KY η,IY η,<-mE]
 have hc:=KX (B:=4294967296) η (vl a) (vl b) (max a.length b.length);simp only;rw[lK _ _ ξ];simp only[Option.bind_some];rw[nh η (by rw[cu];omega),Option.bind_some,Nat.zero_add,OG hV hW,<-mE]
theorem HJ(a b:List Nat)(ha:OL a)(hb:OL b)(hl:b.length<=a.length)(hle:vl b<=vl a):ff a b=some (g9 4294967296 a.length (vl a-vl b)):=by
 obtain⟨hA,hla⟩:=ha;obtain⟨hB,hlb⟩:=hb;have hmx:max a.length b.length=a.length:=by omega
 unfold ff;simp only[Option.bind_some];rw[KU η ξ,Option.bind_some,hmx];refine AT (λk=>(GW 4294967296 (vl a) (vl b) k,g9 4294967296 k (vl a-vl b))) (by simp[K0,g9]) (λk hk=>?_) Y;have hx:=I0 hA k;have hy:=I0 hB k;have hc:=TK (B:=4294967296) η (vl a) (vl b) k;have hxe:=z8 a hA k;have hye:=z8 b hB k;simp only[Option.bind_some];rw[Nat.mod_eq_of_lt (a:=a.getD k 0) ξ,Nat.mod_eq_of_lt (a:=b.getD k 0) ξ,AR ξ ξ,Nat.mod_eq_of_lt (a:=a.getD k 0+(4294967295-b.getD k 0)) ξ,lK _ _ ξ];simp only[Option.bind_some];rw[nh η (by rw[cu];omega),Option.bind_some,hxe,hye,K1 (B:=4294967296) η,OH (B:=4294967296) η hle,<-mE]
theorem Ru(a b:List Nat)(ha:OL a)(hb:OL b):jW a b=some (g9 4294967296 (a.length+b.length) (vl a*vl b)):=by
 obtain⟨hA,hla⟩:=ha;obtain⟨hB,hlb⟩:=hb;unfold jW;simp only[Option.bind_some];rw[sE ξ,za η ξ,Option.bind_some];refine bK (λi=>((i:Int),g9 4294967296 (a.length+b.length) (vl a%4294967296^i*vl b))) a.length (g9 4294967296 (a.length+b.length) (vl a%4294967296^a.length*vl b)) (by simp[Nat.mod_one,z7]) (λi hi=>?_) θ (by rw[Nat.mod_eq_of_lt (jK a hA)]);have hgx:=qh hA hi;have hx:val 4294967296 a/4294967296^i%4294967296<4294967296:=Nat.mod_lt _ η;simp only[Option.bind_some,show decide ((i:Int)<(a.length:Int))=true by simp;omega,cond_true];rw[bH hgx,Option.bind_some];refine bK (λk=>((k:Int),mC 4294967296 (vl a) (vl b) i k,g9 4294967296 (a.length+b.length) (mV 4294967296 (vl a) (vl b) i k))) b.length (mC 4294967296 (vl a) (vl b) i b.length,g9 4294967296 (a.length+b.length) (mV 4294967296 (vl a) (vl b) i b.length)) (by simp[acT,acS]) (λk hk=>?_) θ ?_
 ·have hgy:=qh hB hk;have hgp:=aiC (B:=4294967296) η (V:=vl a) (W:=vl b) (i:=i) (k:=k) (N:=a.length+b.length) ξ;have hy:val 4294967296 b/4294967296^k%4294967296<4294967296:=Nat.mod_lt _ η;have hp:vl a%4294967296^i*vl b/4294967296^(i+k)%4294967296<4294967296:=Nat.mod_lt _ η;have hc:=afD (B:=4294967296) η (vl a) (vl b) i k;have hxy:val 4294967296 a/4294967296^i%4294967296*(val 4294967296 b/4294967296^k%4294967296)<=4294967295*4294967295:=Nat.mul_le_mul ξ ξ;simp only[Option.bind_some,show decide ((k:Int)<(b.length:Int))=true by simp;omega,cond_true];rw[bH hgy,Option.bind_some,sE ξ,cO (by rw[cu];omega),Option.bind_some,hgp,Option.bind_some]
  rw[Nat.mod_eq_of_lt (a:=vl a%4294967296^i*vl b/4294967296^(i+k)%4294967296) ξ,Nat.mod_eq_of_lt (a:=val 4294967296 a/4294967296^i%4294967296) (b:=18446744073709551616) ξ,Nat.mod_eq_of_lt (a:=val 4294967296 b/4294967296^k%4294967296) (b:=18446744073709551616) ξ,Nat.mod_eq_of_lt (a:=val 4294967296 a/4294967296^i%4294967296*(val 4294967296 b/4294967296^k%4294967296)) ξ,Nat.mod_eq_of_lt (a:=vl a%4294967296^i*vl b/4294967296^(i+k)%4294967296+_) ξ,lK _ _ ξ];simp only[Option.bind_some];rw[fK (by rw[cu];omega),Option.bind_some,acQ (B:=4294967296) η,acR (B:=4294967296) η ξ,bQ ξ]
 have hc:=afD (B:=4294967296) η (vl a) (vl b) i b.length;simp only[Option.bind_some];rw[sE ξ,lK _ _ ξ];simp only[Option.bind_some];rw[cO (by rw[cu];omega),Option.bind_some,fK (by rw[cu];omega),Option.bind_some,aiD (B:=4294967296) η (jK b hB) ξ,bQ ξ]
end
section
open Go.Fw
theorem ac1{a b s:Nat}(h:a<2^s):b*2^s ||| a=b*2^s+a:=by rw[Nat.or_comm,aaj h,Nat.add_comm]
theorem U0{a b:Nat}(h:a<4294967296):b*4294967296 ||| a=b*4294967296+a:=ac1 (s:=32) h
theorem Rv(a:List Nat)(d:Nat)(ha:OL a)(hd:0<d)(hd2:d<=4294967296):me a d=some (vl a%d,g9 4294967296 a.length (vl a/d)):=by
 obtain⟨hA,hla⟩:=ha;unfold me;simp only[Option.bind_some];rw[cQ ξ ξ];refine bK (λi=>(vl a/4294967296^(a.length-i)%d,((a.length-i:Nat):Int)-1,g9 4294967296 a.length (qU 4294967296 (vl a) d (a.length-i)))) a.length (vl a%d,g9 4294967296 a.length (vl a/d)) ?_ (λi hi=>?_) (by simp[acU]) ?_
 ·simp only[Nat.sub_zero];rw[aiE (jK a hA),IW a hA,Nat.div_eq_of_lt (jK a hA),Nat.zero_mod]
 ·obtain⟨m,hm⟩:∃m,a.length-i=m+1:=⟨a.length-i-1,by omega⟩;have hm':a.length-(i+1)=m:=by omega
  have hml:m<a.length:=by omega
  rw[hm,hm'];have hy:vl a/4294967296^m%4294967296<4294967296:=Nat.mod_lt _ η;have hr:vl a/4294967296^(m+1)%d<d:=Nat.mod_lt _ hd;have hq:=acW (B:=4294967296) η hd (vl a) m;have hqd:(vl a/4294967296^(m+1)%d*4294967296+vl a/4294967296^m%4294967296)/d<4294967296:=by rw[Nat.div_lt_iff_lt_mul hd,Nat.mul_comm 4294967296 d];exact hq
  have hg:=aiF (B:=4294967296) η (V:=vl a) (d:=d) (m:=m) (N:=a.length) hml;have hlt:vl a/4294967296^(m+1)%d*4294967296+vl a/4294967296^m%4294967296<18446744073709551616:=by omega
  have LC:vl a/4294967296^(m+1)%d*4294967296<18446744073709551616:=Nat.lt_of_le_of_lt (Nat.le_add_right _ _) hlt;have A5:vl a/4294967296^m%4294967296<18446744073709551616:=Nat.lt_of_le_of_lt (Nat.le_add_left _ _) hlt;have hi1:((m+1:Nat):Int)-1=(m:Int):=by omega
  simp only[hi1,show decide ((0:Int)<=(m:Int))=true by simp,cond_true,Option.bind_some];rw[cO (by rw[cu];omega),Option.bind_some,hg];simp only[Option.bind_some];rw[show(2:Nat)^32=4294967296 from rfl];rw[Nat.mod_eq_of_lt (a:=vl a/4294967296^(m+1)%d*4294967296) LC,Nat.mod_eq_of_lt (a:=vl a/4294967296^m%4294967296) (b:=18446744073709551616) A5,U0 hy,Nat.mod_eq_of_lt (a:=vl a/4294967296^(m+1)%d*4294967296+vl a/4294967296^m%4294967296) hlt,OE ξ hlt,IV ξ];simp only[Option.bind_some];rw[Nat.mod_eq_of_lt (b:=4294967296) (a:=(vl a/4294967296^(m+1)%d*4294967296+vl a/4294967296^m%4294967296)/d) hqd,fK (by rw[cu];omega),Option.bind_some,cQ ξ ξ];rw[acY (B:=4294967296) η hd hml,<-aag (B:=4294967296) (d:=d) (vl a) m]
 simp only;rw[z6 (by rw[cu]),Option.bind_some]
theorem shiftLeft_eq(a:List Nat)(s:Nat)(ha:OL a)(hs:s<32):jq a s=some (g9 4294967296 (a.length+1) (vl a*2^s)):=by
 obtain⟨hA,hla⟩:=ha;have hf:2^s<4294967296:=by
  have:2^s<2^32:=Nat.pow_lt_pow_right η hs;omega
 unfold jq;simp only[Option.bind_some];rw[bQ ξ,KU η ξ,Option.bind_some];refine bK (λi=>((i:Int),sC 4294967296 (vl a) (2^s) 0 i,g9 4294967296 i (vl a*2^s+0))) a.length (sC 4294967296 (vl a) (2^s) 0 a.length,g9 4294967296 a.length (vl a*2^s+0)) (by simp[OJ,g9]) (λi hi=>?_) θ ?_
 ·have hx:vl a/4294967296^i%4294967296<4294967296:=Nat.mod_lt _ η;have hc:=aaf (B:=4294967296) η (V:=vl a) hf (show(0:Nat)<4294967296 by decide) i;have hxf:vl a/4294967296^i%4294967296*2^s<=4294967295*4294967295:=Nat.mul_le_mul ξ ξ;have hg:a[i]? =some (vl a/4294967296^i%4294967296):=qh hA hi;simp only[show decide ((i:Int)<(a.length:Int))=true by simp;omega,cond_true];rw[bH hg];simp only[Option.bind_some];rw[show min s 64=s by omega,Nat.mod_eq_of_lt (a:=vl a/4294967296^i%4294967296) (b:=18446744073709551616) ξ,Nat.mod_eq_of_lt (b:=18446744073709551616) ξ,lK _ _ ξ];simp only[Option.bind_some];rw[nh η (by rw[cu];omega),Option.bind_some,OK (B:=4294967296) η,TN (B:=4294967296) η,bQ ξ,<-mE]
 have hc:=aaf (B:=4294967296) η (V:=vl a) hf (show(0:Nat)<4294967296 by decide) a.length;simp only;rw[lK _ _ ξ];simp only[Option.bind_some];rw[nh η (by rw[cu];omega),Option.bind_some,Nat.zero_add,TO (jK a hA),<-mE];simp
theorem Mi(a:List Nat)(s:Nat):mQ a s=jq a s:=rfl
def Ec:Str:=[0,1,2,2,3,3,3,3,4,4,4,4,4,4,4,4,5,5,5,5,5,5,5,5,5,5,5,5,5,5,5,5]++List.replicate 32 6++List.replicate 64 7++List.replicate 128 8
theorem aiG:∀y:Nat,y<256->Df Ec (y:Int)=some ((Df Ec (y:Int)).getD 0)/\(Df Ec (y:Int)).getD 0<=8/\y<2^(Df Ec (y:Int)).getD 0/\(y=0\/2^(Df Ec (y:Int)).getD 0<=2*y):=by decide+kernel
set_option maxRecDepth 20000 in
theorem aak(x:Nat)(h:x<4294967296):∃n:Nat,kQ x=some (n:Int)/\n<=32/\x<2^n/\(x=0\/2^n<=2*x):=by
 have key:∀(y k:Nat),y<256->y=x/2^k->k<=24->(x≠0->y≠0)->∃n:Nat,(((Df Ec ((y%256:Nat):Int)).bind λfD=>(some (IntKind.i64.wrap (fD:Int))).bind λdZ=>(some (IntKind.i64.wrap ((k:Int)+dZ))).bind λfe=>some fe)=some (n:Int))/\n<=32/\x<2^n/\(x=0\/2^n<=2*x):=by
  intro y k hy hyx hk hnz;obtain⟨h1,h2,h3,h4⟩:=aiG y hy;rw[Nat.mod_eq_of_lt hy,h1];generalize (Df Ec (y:Int)).getD 0=t at*;have hp:0<2^k:=Nat.two_pow_pos _;have e1:2^(k+t)=2^k*2^t:=Nat.pow_add ..;have e2:=Nat.div_add_mod x (2^k);have e3:=Nat.mod_lt x hp;rw[<-hyx]at e2;refine⟨k+t,?_,by omega,?_,?_⟩
  ·simp only[Option.bind_some];rw[kC ξ,sE ξ]
  ·rw[e1];have:2^k*(y+1)<=2^k*2^t:=Nat.mul_le_mul_left _ h3;rw[Nat.mul_add]at this;omega
  rcases h4 with h4|h4
  ·left;cases Nat.eq_zero_or_pos x with
   |inl h=>exact h
   |inr h=>exact absurd h4 (hnz ξ)
  right;rw[e1];have:2^k*2^t<=2^k*(2*y):=Nat.mul_le_mul_left _ h4;rw[show 2^k*(2*y)=2*(2^k*y) by rw[Nat.mul_left_comm]]at this;omega
 unfold kQ;simp only[cX,Option.bind_some];by_cases c1:65536<=x
 ·rw[show decide (65536<=x)=true by simpa using c1];simp only[cond_true];by_cases c2:256<=x/2^16
  ·rw[show decide (256<=x/2^16)=true by simpa using c2];simp only[cond_true];rw[show IntKind.i64.wrap (16+8)=((24:Nat):Int) by decide];exact key (x/2^16/2^8) 24 ξ ξ ξ ξ
  rw[show decide (256<=x/2^16)=false by simpa using c2];simp only[cond_false];exact key (x/2^16) 16 ξ Y ξ ξ
 rw[show decide (65536<=x)=false by simpa using c1];simp only[cond_false];by_cases c2:256<=x
 ·rw[show decide (256<=x)=true by simpa using c2];simp only[cond_true];rw[show IntKind.i64.wrap (0+8)=((8:Nat):Int) by decide];exact key (x/2^8) 8 ξ Y ξ ξ
 rw[show decide (256<=x)=false by simpa using c2];simp only[cond_false];exact key x 0 ξ θ ξ (λh=>h)
theorem aml(x:Nat)(h:x<4294967296)(h0:x≠0):∃s:Nat,fz x=some (s:Int)/\s<32/\2147483648<=x*2^s/\x*2^s<4294967296:=by
 obtain⟨n,h1,h2,h3,h4⟩:=aak x h;have h4:2^n<=2*x:=h4.resolve_left h0;have hn:n≠0:=by rintro rfl;simp at h3;omega
 refine⟨32-n,?_,by omega,?_,?_⟩
 ·unfold fz;rw[h1];simp only[Option.bind_some];rw[cQ ξ ξ];congr 1;omega
 ·have:2^n*2^(32-n)<=2*x*2^(32-n):=Nat.mul_le_mul_right _ h4;rw[<-Nat.pow_add,show n+(32-n)=32 by omega,Nat.mul_assoc]at this;omega
 have:x*2^(32-n)<2^n*2^(32-n):=Nat.mul_lt_mul_of_pos_right h3 (Nat.two_pow_pos _);rw[<-Nat.pow_add,show n+(32-n)=32 by omega]at this;omega
end
end Go.Proofs.YtningmnklfpfjaaGreat
namespace Go.Fw
section
section amm
variable {B V U W:Nat}
theorem aiH{P F T:Nat}(hP:0<P)(hF:0<F)(hV:F*P<=V)(hU:U<(T+1)*P):U/V<=T/F:=by
 have hV0:0<V:=Nat.lt_of_lt_of_le (Nat.mul_pos hF hP) hV;rw[Nat.le_div_iff_mul_le hF];rcases Nat.lt_or_ge T (U/V*F)with h|h
 ·exfalso;have h1:U/V*V<=U:=Nat.div_mul_le_self U V;have h2:U/V*(F*P)<=U/V*V:=Nat.mul_le_mul_left _ hV;have h3:(T+1)*P<=U/V*F*P:=Nat.mul_le_mul_right _ h;rw[Nat.mul_assoc]at h3;omega
 exact h
theorem ac2{P F S T u g r:Nat}(hV:(F*B+S)*P<=V)(hU:U<(T*B+u+1)*P)(hgr:g*F+r=T)(h:r*B+u<g*S):U<g*V:=by
 have h1:g*((F*B+S)*P)<=g*V:=Nat.mul_le_mul_left _ hV;have h2:(T*B+u+1)*P<=g*(F*B+S)*P:=by
  apply Nat.mul_le_mul_right;rw[Nat.mul_add,<-Nat.mul_assoc,<-hgr,Nat.add_mul];omega
 rw[Nat.mul_assoc]at h2;omega
theorem aiJ{P V2 U2 g:Nat}(hV:V<(V2+1)*P)(hU:U2*P<=U)(hq:U/V<B)(hB:B<=V2)(hV0:0<V)(h:g*V2<=U2):g<=U/V+1:=by
 rcases Nat.lt_or_ge (U/V+1) g with h'|h'
 ·exfalso;have h1:U<(U/V+1)*V:=by have:=Nat.lt_div_mul_add (a:=U) hV0;rw[Nat.add_mul,Nat.one_mul];exact this
  have h2:(U/V+1)*V<=(U/V+1)*((V2+1)*P):=Nat.mul_le_mul_left _ (Nat.le_of_lt hV);have h3:g*V2*P<=U2*P:=Nat.mul_le_mul_right _ h;have h4:(U/V+2)*V2<=g*V2:=Nat.mul_le_mul_right _ h';have h5:(U/V+2)*V2*P<=g*V2*P:=Nat.mul_le_mul_right _ h4;have h6:(U/V+1)*((V2+1)*P)<=(U/V+2)*V2*P:=by
   rw[<-Nat.mul_assoc];apply Nat.mul_le_mul_right;rw[Nat.mul_add,Nat.add_mul (U/V) 2 V2,Nat.add_mul (U/V) 1 V2];omega
  omega
 exact h'
end amm
def mix(B o i X U A:Nat):Nat:=A%B^o+B^o*(X%B^i+B^i*(U/B^i))
theorem U1(B o i X U A:Nat):mix B o i X U A%B^o=A%B^o:=by rw[mix,Nat.add_mul_mod_self_left,Nat.mod_mod]
section mix
variable {B:Nat}(hB:0<B)(o i X U A:Nat)
include hB
theorem FK:mix B o i X U A/B^o=X%B^i+B^i*(U/B^i):=by
 rw[mix,Nat.add_mul_div_left _ _ (Nat.pow_pos hB),Nat.div_eq_of_lt (Nat.mod_lt _ (Nat.pow_pos hB)),Nat.zero_add]
theorem FL:mix B o i X U A/B^(o+i)=U/B^i:=by
 rw[Nat.pow_add,<-Nat.div_div_eq_div_mul,FK hB,Nat.add_mul_div_left _ _ (Nat.pow_pos hB),Nat.div_eq_of_lt (Nat.mod_lt _ (Nat.pow_pos hB)),Nat.zero_add]
theorem ac3:mix B o i X U A%B^(o+i)=A%B^o+B^o*(X%B^i):=by
 rw[Nat.pow_add,Nat.mod_mul,U1,FK hB,Nat.add_mul_mod_self_left,Nat.mod_mod]
theorem OM{N:Nat}(h:o+i<N):(g9 B N (mix B o i X U A)).set (o+i) (X/B^i%B)=g9 B N (mix B o (i+1) X U A):=by
 apply CS hB h (Nat.mod_lt _ hB)
 ·rw[ac3 hB,Nat.pow_add,Nat.mod_mul,U1,FK hB,Nat.pow_succ B i,Nat.mul_assoc,Nat.add_mul_mod_self_left,Nat.mod_mul,Nat.add_mul_mod_self_left,Nat.mod_mod]
 ·rw[Nat.pow_add,<-Nat.div_div_eq_div_mul,FK hB,Nat.pow_succ B i,Nat.mod_mul,Nat.mul_assoc,Nat.add_assoc,<-Nat.mul_add,Nat.add_mul_div_left _ _ (Nat.pow_pos hB),Nat.div_eq_of_lt (Nat.mod_lt _ (Nat.pow_pos hB)),Nat.zero_add,Nat.add_mul_mod_self_left,Nat.mod_mod]
 have h1:=FL hB o (i+1) X U A;have h2:=FL hB o i X U A;rw[show o+i+1=o+(i+1) by omega,h1,show o+(i+1)=(o+i)+1 by omega,Nat.pow_succ B (o+i),<-Nat.div_div_eq_div_mul,h2,Nat.pow_succ,<-Nat.div_div_eq_div_mul]
end mix
theorem Rw{B o m X U A:Nat}(hU:U<B^m):mix B o m X U A=A%B^o+B^o*(X%B^m):=by rw[mix,Nat.div_eq_of_lt hU];simp
theorem Rx{B:Nat}(o X A:Nat):mix B o 0 X (A/B^o) A=A:=by
 simp only[mix,Nat.pow_zero,Nat.mod_one,Nat.zero_add,Nat.one_mul,Nat.div_one];exact Nat.mod_add_div A (B^o)
theorem Wr{B U U' T i:Nat}(h:U%B^i=U'%B^i):GW B U T i=GW B U' T i:=by rw[GW,GW,h]
theorem aal{B:Nat}(hB:0<B){U T m i:Nat}(hi:i<m)(hT:T<=U+B^m):(U/B^i%B+(B-1-T/B^i%B)+GW B U T i)%B=(U+B^m-T)/B^i%B:=by
 have e:B^m=B^i*(B*B^(m-i-1)):=by rw[<-Nat.pow_succ',<-Nat.pow_add];congr 1;omega
 have h1:(U+B^m)%B^i=U%B^i:=by rw[e,Nat.add_mul_mod_self_left]
 have h2:(U+B^m)/B^i%B=U/B^i%B:=by rw[e,Nat.add_mul_div_left _ _ (Nat.pow_pos hB),Nat.add_mul_mod_self_left]
 rw[<-h2,Wr (U':=U+B^m) h1.symm,OH hB hT]
theorem ac4{B m U T:Nat}(hB:0<B)(hU:U<B^m)(hT:T<B^m):GW B U T m=if U<T then 0 else 1:=by
 rw[GW,Nat.mod_eq_of_lt hU,Nat.mod_eq_of_lt hT];have hp:0<B^m:=Nat.pow_pos hB;split
 ·exact Nat.div_eq_of_lt ξ
 rw[show U+B^m-T=(U-T)+B^m by omega,Nat.add_div_right _ hp,Nat.div_eq_of_lt ξ]
end
end Go.Fw
namespace Go.Proofs.YtningmnklfpfjaaGreat
section
open Go.Fw
theorem vD{N A j:Nat}(h:j<N):(g9 4294967296 N A)[j]? =some (A/4294967296^j%4294967296):=FH N A j h
theorem two32:(2:Nat)^32=4294967296:=rfl
theorem amn:(2:Nat)^63=9223372036854775808:=rfl
theorem ON(A o j:Nat):A/4294967296^(o+j)=A/4294967296^o/4294967296^j:=by rw[Nat.pow_add,Nat.div_div_eq_div_mul]
theorem Ry{N A o n:Nat}{v:List Nat}(hv:OL v)(hn:v.length=n+2)(hN:N<=100000000001)(ho:o+(n+2)<N)
  (hU:A/4294967296^o<4294967296*vl v) (aam:2147483648*4294967296^(n+1)<=vl v):
  ∃r,mh (g9 4294967296 N A) o (n+3) v=some r/\r.2=g9 4294967296 N A/\A/4294967296^o/vl v<=r.1/\r.1<=A/4294967296^o/vl v+1:=by
 obtain⟨hV,hlv⟩:=hv;obtain⟨U,hUe⟩:∃U,A/4294967296^o=U:=⟨_,Y⟩;obtain⟨V,hVe⟩:∃V,vl v=V:=⟨_,Y⟩;have Ip:V<4294967296^(n+2):=by rw[<-hVe,<-hn];exact jK v hV
 have hP1:0<4294967296^(n+1):=Nat.pow_pos η;have hP:0<4294967296^n:=Nat.pow_pos η;have aiK:4294967296^(n+1)=4294967296^n*4294967296:=Nat.pow_succ ..;have Rz:4294967296^(n+2)=4294967296^(n+1)*4294967296:=Nat.pow_succ ..;rw[hUe,hVe]at hU⊢;rw[hVe]at aam;have amo:U<4294967296^(n+1)*4294967296*4294967296:=by
  have:4294967296*V<4294967296*4294967296^(n+2):=Nat.mul_lt_mul_of_pos_left Ip η;rw[Rz]at this;omega
 obtain⟨F,hF⟩:∃F,V/4294967296^(n+1)=F:=⟨_,Y⟩;obtain⟨S,hS⟩:∃S,V/4294967296^n%4294967296=S:=⟨_,Y⟩;obtain⟨T,hT⟩:∃T,U/4294967296^(n+1)=T:=⟨_,Y⟩;obtain⟨u,hu⟩:∃u,U/4294967296^n%4294967296=u:=⟨_,Y⟩;have as2:F<4294967296:=by rw[<-hF,Nat.div_lt_iff_lt_mul hP1];rw[Rz,Nat.mul_comm]at Ip;exact Ip
 have awQ:2147483648<=F:=by rw[<-hF,Nat.le_div_iff_mul_le hP1];exact aam
 have awR:S<4294967296:=by rw[<-hS];exact Nat.mod_lt _ η
 have amp:u<4294967296:=by rw[<-hu];exact Nat.mod_lt _ η
 have as3:T<4294967296*4294967296:=by rw[<-hT,Nat.div_lt_iff_lt_mul hP1];rw[Nat.mul_comm,<-Nat.mul_assoc];exact amo
 have hV2:V/4294967296^n=F*4294967296+S:=by rw[<-hF,<-hS,aiK,<-Nat.div_div_eq_div_mul,Nat.mul_comm,Nat.div_add_mod]
 have hU2:U/4294967296^n=T*4294967296+u:=by rw[<-hT,<-hu,aiK,<-Nat.div_div_eq_div_mul,Nat.mul_comm,Nat.div_add_mod]
 have hq:U/V<4294967296:=by rw[Nat.div_lt_iff_lt_mul ξ];exact hU
 have amq:(F*4294967296+S)*4294967296^n<=V:=by rw[<-hV2];exact Nat.div_mul_le_self _ _
 have amr:V<(F*4294967296+S+1)*4294967296^n:=by rw[<-hV2,Nat.add_mul,Nat.one_mul];exact Nat.lt_div_mul_add hP
 have ams:(T*4294967296+u)*4294967296^n<=U:=by rw[<-hU2];exact Nat.div_mul_le_self _ _
 have amt:U<(T*4294967296+u+1)*4294967296^n:=by rw[<-hU2,Nat.add_mul,Nat.one_mul];exact Nat.lt_div_mul_add hP
 have afI:F*4294967296^(n+1)<=V:=by rw[<-hF];exact Nat.div_mul_le_self _ _
 have afJ:U<(T+1)*4294967296^(n+1):=by rw[<-hT,Nat.add_mul,Nat.one_mul];exact Nat.lt_div_mul_add hP1
 have afK:V<(F+1)*4294967296^(n+1):=by rw[<-hF,Nat.add_mul,Nat.one_mul];exact Nat.lt_div_mul_add hP1
 have hTF:T<4294967296*(F+1):=by
  rw[<-hT,Nat.div_lt_iff_lt_mul hP1];have:4294967296*V<4294967296*((F+1)*4294967296^(n+1)):=Nat.mul_lt_mul_of_pos_left afK η;rw[Nat.mul_assoc];omega
 have g1:(g9 4294967296 N A)[o+(n+2)]? =some (U/4294967296^(n+2)%4294967296):=by rw[vD ξ,ON,hUe]
 have g2:(g9 4294967296 N A)[o+(n+1)]? =some (U/4294967296^(n+1)%4294967296):=by rw[vD ξ,ON,hUe]
 have g3:(g9 4294967296 N A)[o+n]? =some u:=by rw[vD ξ,ON,hUe,hu]
 have g4:v[n+1]? =some F:=by rw[qh hV ξ,show val 4294967296 v=V from hVe,hF,Nat.mod_eq_of_lt as2]
 have g5:v[n]? =some S:=by rw[qh hV ξ,show val 4294967296 v=V from hVe,hS]
 have hun:U/4294967296^(n+2)<4294967296:=by rw[Rz,<-Nat.div_div_eq_div_mul,hT,Nat.div_lt_iff_lt_mul η];exact as3
 have TP:U/4294967296^(n+2)%4294967296*4294967296+U/4294967296^(n+1)%4294967296=T:=by
  rw[Nat.mod_eq_of_lt hun,Rz,<-Nat.div_div_eq_div_mul,hT,Nat.mul_comm,Nat.div_add_mod]
 obtain⟨t1,ht1⟩:∃t,U/4294967296^(n+2)%4294967296=t:=⟨_,Y⟩;obtain⟨t2,ht2⟩:∃t,U/4294967296^(n+1)%4294967296=t:=⟨_,Y⟩;have l1:t1<4294967296:=by rw[<-ht1];exact Nat.mod_lt _ η
 have l2:t2<4294967296:=by rw[<-ht2];exact Nat.mod_lt _ η
 rw[ht1]at g1 TP;rw[ht2]at g2 TP;clear ht1 ht2 hU2 hV2;have c1:((n+2:Nat):Int)-1=((n+1:Nat):Int):=by omega
 have c2:((n+2:Nat):Int)-2=(n:Int):=by omega
 unfold mh;simp only[Option.bind_some,hn,c1,c2];rw[kC ξ,kC ξ,IU ξ,IU ξ,IU ξ];simp only[Option.bind_some];rw[g1,g2,bH g4,bH g5];simp only[Option.bind_some,two32];rw[Nat.mod_eq_of_lt (a:=t1) ξ,Nat.mod_eq_of_lt (a:=t2) ξ,Nat.mod_eq_of_lt (a:=t1*4294967296) ξ,U0 l2,TP,Nat.mod_eq_of_lt (a:=T) ξ,Nat.mod_eq_of_lt (a:=F) ξ,Nat.mod_eq_of_lt (a:=S) ξ,OE ξ ξ,IV ξ];simp only[Option.bind_some];have as8:=aiH (V:=V) (U:=U) hP1 (show 0<F by omega) afI afJ;have hle:∀g,g*(F*4294967296+S)<=T*4294967296+u->g<=U/V+1:=λg h=>aiJ (B:=4294967296) amr ams hq ξ ξ h;have as9:∀g r,g*F+r=T->r*4294967296+u<g*S->U/V<g:=λg r i1 ht=>(Nat.div_lt_iff_lt_mul ξ).2 (ac2 amq amt i1 ht);have hg0:T/F<=4294967297:=by
  have:T/F<4294967298:=by
   rw[Nat.div_lt_iff_lt_mul ξ];omega
  omega
 generalize U/V=q at*;clear amq amr ams amt afI afJ afK hTF amo aam Ip aiK Rz hP hP1 hF hS hT hu hUe hVe hU;have hdm:=Nat.div_add_mod T F;have hml:=Nat.mod_lt T (show 0<F by omega);have atb:T/F*F+T%F=T:=by rw[Nat.mul_comm];exact hdm
 clear hdm;refine ni (λx=>x.1*F+x.2=T/\q<=x.1/\x.2<4294967296/\x.1<=4294967297) (λe=>q<=e/\e<=q+1) (λx=>x.1) ?_ ⟨atb,as8,by show T%F<_;omega,hg0⟩ ?_
 ·rintro⟨g,r⟩ ⟨i1,i2,i3,i4⟩;simp only at i1 i2 i3 i4;have down:q<g->(∃s',(bif decide ((r+F)%18446744073709551616/4294967296≠0)then some (.inr (w6 18446744073709551616 g 1))else some (.inl (w6 18446744073709551616 g 1,(r+F)%18446744073709551616)):Option ((Nat×Nat)⊕Nat))=some (.inl s')/\(s'.1*F+s'.2=T/\q<=s'.1/\s'.2<4294967296/\s'.1<=4294967297)/\s'.1<g)\/
    (∃e,(bif decide ((r+F)%18446744073709551616/4294967296≠0)then some (.inr (w6 18446744073709551616 g 1))else some (.inl (w6 18446744073709551616 g 1,(r+F)%18446744073709551616)):Option ((Nat×Nat)⊕Nat))=some (.inr e)/\q<=e/\e<=q+1):=by
   intro hlt;have e1:(g-1)*F+(r+F)=T:=by
    obtain⟨k,rfl⟩:∃k,g=k+1:=⟨g-1,by omega⟩;rw[Nat.add_sub_cancel];rw[Nat.add_mul]at i1;omega
   rw[AR ξ ξ,Nat.mod_eq_of_lt (a:=r+F) ξ];by_cases hb:r+F<4294967296
   ·left;refine⟨(g-1,r+F),by simp[Nat.div_eq_of_lt hb],⟨e1,by simp only;omega,hb,by simp only;omega⟩,by simp only;omega⟩
   right;have hne:(r+F)/4294967296≠0:=by omega
   refine⟨g-1,by simp[hne],by omega,?_⟩;refine hle _ ?_;have m1:(g-1)*S<=4294967296*4294967295:=Nat.mul_le_mul ξ ξ;rw[Nat.mul_add,<-Nat.mul_assoc];have m2:((g-1)*F+(r+F))*4294967296=T*4294967296:=by rw[e1]
   rw[Nat.add_mul]at m2;omega
  simp only[cX,ct];by_cases hg:g<4294967296
  ·rw[show decide (g/4294967296≠0)=false by simp;omega];have hgS:g*S<=4294967295*4294967295:=Nat.mul_le_mul ξ ξ;simp only[ja];rw[g3];simp only[ct];rw[Nat.mod_eq_of_lt (a:=g*S) ξ,Nat.mod_eq_of_lt (a:=r*4294967296) ξ,Nat.mod_eq_of_lt (a:=u) ξ,U0 amp,Nat.mod_eq_of_lt (a:=r*4294967296+u) ξ];by_cases ht:r*4294967296+u<g*S
   ·rw[show decide (r*4294967296+u<g*S)=true by simpa using ht];simp only[ct,iw];exact down (as9 _ _ i1 ht)
   rw[show decide (r*4294967296+u<g*S)=false by simpa using ht];right;refine⟨g,by simp,i2,?_⟩;refine hle _ ?_;rw[Nat.mul_add,<-Nat.mul_assoc,<-i1,Nat.add_mul];omega
  rw[show decide (g/4294967296≠0)=true by simp;omega];simp only[ct,iw];exact down ξ
 rintro e ⟨h2,h3⟩;exact⟨(e,g9 4294967296 N A),by rw[z6 Y,Option.bind_some],Y,h2,h3⟩
end
section
open Go.Fw
theorem Db{N A o n f:Nat}{v:List Nat}(hv:OL v)(hn:v.length=n)(hN:N<=100000000001)(ho:o+n<N)(hf:f<=4294967296)
  (hU:A/4294967296^o<4294967296^(n+1)):
  fg (g9 4294967296 N A) o (n+1) v f=some (decide (A/4294967296^o<vl v*f),g9 4294967296 N (A%4294967296^o+4294967296^o*((A/4294967296^o+4294967296^(n+1)-vl v*f)%4294967296^(n+1)))):=by
 obtain⟨hV,hlv⟩:=hv;obtain⟨U,hUe⟩:∃U,A/4294967296^o=U:=⟨_,Y⟩;obtain⟨V,hVe⟩:∃V,vl v=V:=⟨_,Y⟩;have Ip:V<4294967296^n:=by rw[<-hVe,<-hn];exact jK v hV
 have Xj:4294967296^(n+1)=4294967296^n*4294967296:=Nat.pow_succ ..;have hT:V*f<4294967296^(n+1):=by
  rw[Xj]
  calc V*f<=V*4294967296:=Nat.mul_le_mul_left _ hf
   _<4294967296^n*4294967296:=Nat.mul_lt_mul_of_pos_right Ip η
 rw[hUe]at hU⊢;rw[hVe];obtain⟨X,hX⟩:∃X,U+4294967296^(n+1)-V*f=X:=⟨_,Y⟩;rw[hX];unfold fg;simp only[ct];have aiL:∀i,GW 4294967296 U (V*f) i<=1:=λi=>TK η _ _ _;refine bK (λi=>(1-GW 4294967296 U (V*f) i,(i:Int),sC 4294967296 V f 0 i,g9 4294967296 N (mix 4294967296 o i X U A))) (n+1) (1-GW 4294967296 U (V*f) (n+1),g9 4294967296 N (mix 4294967296 o (n+1) X U A)) ?_ (λi hi=>?_) ?_ ?_
 ·rw[K0,OJ,<-hUe,Rx];rfl
 ·
  obtain⟨t,ht⟩:∃t,V*f/4294967296^i%4294967296=t:=⟨_,Y⟩;obtain⟨c,hc⟩:∃c,sC 4294967296 V f 0 i=c:=⟨_,Y⟩;obtain⟨p,hp⟩:∃p,V/4294967296^i%4294967296*f=p:=⟨_,Y⟩;have awT:c<4294967296:=by
   rw[<-hc,sC,sT,Nat.add_zero,Nat.div_lt_iff_lt_mul (Nat.pow_pos η)]
   calc V%4294967296^i*f<=V%4294967296^i*4294967296:=Nat.mul_le_mul_left _ hf
    _<4294967296*4294967296^i:=by rw[Nat.mul_comm];exact Nat.mul_lt_mul_of_pos_left (Nat.mod_lt _ (Nat.pow_pos η)) η
  have awU:p<=4294967295*4294967296:=by
   rw[<-hp];exact Nat.mul_le_mul (by have:=Nat.mod_lt (V/4294967296^i) (show 0<4294967296 by decide);omega) hf
  have TM:(p+c)%4294967296=t:=by rw[<-hp,<-hc,TN (B:=4294967296) η,Nat.add_zero,ht]
  have hstep:(p+c)/4294967296=sC 4294967296 V f 0 (i+1):=by rw[<-hp,<-hc,OK (B:=4294967296) η]
  have awV:t<4294967296:=by rw[<-ht];exact Nat.mod_lt _ η
  obtain⟨u,hu⟩:∃u,U/4294967296^i%4294967296=u:=⟨_,Y⟩;have amp:u<4294967296:=by rw[<-hu];exact Nat.mod_lt _ η
  have hg:(g9 4294967296 N (mix 4294967296 o i X U A))[o+i]? =some u:=by rw[vD ξ,FL η,hu]
  have hl:=aiL i;obtain⟨l,hle⟩:∃l,GW 4294967296 U (V*f) i=l:=⟨_,Y⟩;have hxd:(u+(4294967296-1-t)+l)%4294967296=X/4294967296^i%4294967296:=by rw[<-hu,<-ht,<-hle,aal (B:=4294967296) η hi ξ,hX]
  have hls:(u+(4294967296-1-t)+l)/4294967296=GW 4294967296 U (V*f) (i+1):=by rw[<-hu,<-ht,<-hle,K1 (B:=4294967296) η]
  rw[hle]at hl;have hput:=OM (B:=4294967296) η o i X U A (N:=N) ξ;rw[hle,hc,<-hls];simp only[show decide ((i:Int)<((n+1:Nat):Int))=true by simp;omega,iw,ct,cX];rw[IU ξ];simp only[ct,hg];have way:∀k:Nat->Option ((Nat×Int×Nat×List Nat)⊕(Nat×List Nat)),(bif decide ((i:Int)<(v.length:Int))then(cV v (i:Int)).bind λiv=>k (iv%18446744073709551616*f%18446744073709551616)else k 0)=k p:=by
   intro k;by_cases hin:i<v.length
   ·rw[show decide ((i:Int)<(v.length:Int))=true by simp;omega,iw];have LB:v[i]? =some (V/4294967296^i%4294967296):=by rw[<-hVe];exact qh hV hin
    rw[bH LB,ct,Nat.mod_eq_of_lt (a:=V/4294967296^i%4294967296) (b:=18446744073709551616) (by have:=Nat.mod_lt (V/4294967296^i) (show 0<4294967296 by decide);omega),hp,Nat.mod_eq_of_lt (a:=p) ξ]
   rw[show decide ((i:Int)<(v.length:Int))=false by simp;omega,ja];have:V/4294967296^i=0:=Nat.div_eq_of_lt (Nat.lt_of_lt_of_le Ip (Nat.pow_le_pow_right η ξ));rw[<-hp,this];simp
  refine(way (λy=>(cW y c).bind _)).trans ?_;rw[lK _ _ ξ];simp only[ct];rw[TM,hstep,Nat.mod_eq_of_lt (a:=u) ξ,Nat.mod_eq_of_lt (a:=t) ξ];rw[fK (by rw[cu];omega),ct,bQ ξ,amn];by_cases agb:u<t+(1-l)
  ·have e1:w6 18446744073709551616 (w6 18446744073709551616 u t) (1-l)=18446744073709551616+u-t-(1-l):=by
    by_cases h1:u<t
    ·rw[FG h1 ξ,AR ξ ξ]
    rw[AR (a:=u) (b:=t) ξ ξ,FG ξ ξ];omega
   rw[e1];have e2:(18446744073709551616+u-t-(1-l))%4294967296=X/4294967296^i%4294967296:=by rw[<-hxd];omega
   have e3:(18446744073709551616+u-t-(1-l))/9223372036854775808=1-(u+(4294967296-1-t)+l)/4294967296:=by omega
   rw[e2,e3,hput]
  have e1:w6 18446744073709551616 (w6 18446744073709551616 u t) (1-l)=u-t-(1-l):=by
   rw[AR (a:=u) (b:=t) ξ ξ,AR ξ ξ]
  rw[e1];have e2:(u-t-(1-l))%4294967296=X/4294967296^i%4294967296:=by rw[<-hxd];omega
  have e3:(u-t-(1-l))/9223372036854775808=1-(u+(4294967296-1-t)+l)/4294967296:=by omega
  rw[e2,e3,hput]
 ·simp
 simp only[ct];rw[z6 (by rw[cu,cu]),ct,Rw hU,ac4 η hU hT];congr 2;by_cases h:U<V*f<;>simp[h]
end
section
open Go.Fw
theorem amu{B V:Nat}(hB:0<B)(hV:0<V)(A k:Nat):A%(V*B^(k+1))/B^k<B*V:=by
 rw[Nat.div_lt_iff_lt_mul (Nat.pow_pos hB)];have:V*B^(k+1)=B*V*B^k:=by rw[Nat.pow_succ,Nat.mul_comm (B^k),<-Nat.mul_assoc,Nat.mul_comm V]
 rw[<-this];exact Nat.mod_lt _ (Nat.mul_pos hV (Nat.pow_pos hB))
theorem aiM{B V:Nat}(A k:Nat):A%(V*B^(k+1))%B^k+B^k*(A%(V*B^(k+1))/B^k%V)=A%(V*B^k):=by
 rw[<-Nat.mod_mul,Nat.mul_comm (B^k),Nat.mod_mod_of_dvd];rw[Nat.pow_succ,<-Nat.mul_assoc];exact Nat.dvd_mul_right _ _
theorem aiN{B V:Nat}(A k:Nat):A%(V*B^(k+1))/B^k/V=A/V/B^k%B:=by
 rw[Nat.div_div_eq_div_mul,Nat.mul_comm (B^k),Nat.pow_succ,<-Nat.mul_assoc,Nat.mod_mul_right_div_self,Nat.div_div_eq_div_mul]
theorem OO{B:Nat}(hB:0<B){N k:Nat}(h:k<N)(Q:Nat):(g9 B N (Q/B^(k+1)*B^(k+1))).set k (Q/B^k%B)=g9 B N (Q/B^k*B^k):=by
 have hP:0<B^k:=Nat.pow_pos hB;refine CS hB h (Nat.mod_lt _ hB) ?_ ?_ ?_
 ·rw[Nat.mul_mod_left,Nat.pow_succ,Nat.mul_comm (B^k),<-Nat.mul_assoc,Nat.mul_mod_left]
 ·rw[Nat.mul_div_cancel _ hP]
 rw[Nat.mul_div_cancel _ (Nat.pow_pos hB),Nat.pow_succ,<-Nat.div_div_eq_div_mul,Nat.mul_div_cancel _ hP,Nat.div_div_eq_div_mul]
theorem U3{α:Type}{l:List α}{o n:Nat}(h:o<l.length)(h':o+n<=l.length):ckS l (o:Int) ((o+n:Nat):Int)=some (o,n):=by
 unfold ckS;rw[if_pos ξ];congr 2;omega
theorem ac5{U V g M:Nat}(hV:0<V)(h1:U/V<=g)(h2:g<=U/V+1)(hM:U<M)(hVM:V<=M):
  (V*g<=U/\g=U/V/\(U+M-V*g)%M=U%V)\/(U<V*g/\g=U/V+1/\U+M-V*g<M/\(U+M-V*g+V)%M=U%V):=by
 have hd:=Nat.div_add_mod U V;have hm:=Nat.mod_lt U hV
 revert h1 h2 hd hm
 generalize U/V=q;generalize U%V=r;intro h1 h2 hd hm;rcases Nat.lt_or_ge q g with h|h
 ·obtain rfl:g=q+1:=by omega
  have e:V*(q+1)=V*q+V:=Nat.mul_succ ..;right;refine⟨by omega,Y,by omega,?_⟩;rw[show U+M-V*(q+1)+V=r+M by omega,Nat.add_mod_right,Nat.mod_eq_of_lt ξ]
 obtain rfl:g=q:=by omega
 left;refine⟨by omega,Y,?_⟩;rw[show U+M-V*g=r+M by omega,Nat.add_mod_right,Nat.mod_eq_of_lt ξ]
theorem ac6{R D e i:Nat}(hD:0<D)(he:4294967296=D*e):(R*D/4294967296^(i+1)%4294967296*4294967296+R*D/4294967296^i%4294967296)/D%4294967296=R/4294967296^i%4294967296:=by
 have h1:R*D/4294967296^(i+1)%4294967296*4294967296+R*D/4294967296^i%4294967296=R*D/4294967296^i%(4294967296*4294967296):=by
  rw[Nat.mod_mul,Nat.div_div_eq_div_mul,show 4294967296^i*4294967296=4294967296^(i+1)from(Nat.pow_succ ..).symm,Nat.add_comm,Nat.mul_comm 4294967296]
 have h2:(4294967296*4294967296:Nat)=D*(e*4294967296):=by
  rw[<-Nat.mul_assoc,<-he]
 rw[h1,h2,Nat.mod_mul_right_div_self,Nat.mod_mul_left_mod,Nat.div_div_eq_div_mul,Nat.mul_comm (4294967296^i) D,<-Nat.div_div_eq_div_mul,Nat.mul_div_cancel _ hD]
theorem aiO{B:Nat}(hB:0<B){N i R:Nat}(h:i<N):(g9 B N (R%B^i)).set i (R/B^i%B)=g9 B N (R%B^(i+1)):=by
 refine CS hB h (Nat.mod_lt _ hB) ?_ ?_ ?_
 ·rw[Nat.mod_mod,Nat.mod_mod_of_dvd _ (Nat.pow_dvd_pow _ (Nat.le_succ i))]
 ·rw[Nat.pow_succ,Nat.mod_mul_right_div_self,Nat.mod_mod]
 rw[Nat.div_eq_of_lt (Nat.mod_lt _ (Nat.pow_pos hB)),Nat.div_eq_of_lt];exact Nat.lt_of_lt_of_le (Nat.mod_lt _ (Nat.pow_pos hB)) (Nat.pow_le_pow_right hB (Nat.le_succ i))
theorem TQ(a b:List Nat)(ha:OL a)(hb:OL b){n:Nat}(hn:b.length=n+2)(hl:b.length<=a.length)(TP:b[n+1]? ≠some 0):
  nk a b=some (g9 4294967296 (a.length-b.length+1) (vl a/vl b),g9 4294967296 b.length (vl a%vl b)):=by
 obtain⟨hA,hla⟩:=ha;obtain⟨hB,hlb⟩:=hb;have hP:∀k,0<4294967296^k:=λk=>Nat.pow_pos η;obtain⟨Va,hVa⟩:∃V,vl a=V:=⟨_,Y⟩;obtain⟨Vb,hVb⟩:∃V,vl b=V:=⟨_,Y⟩;have aiP:Vb<4294967296^(n+2):=by rw[<-hVb,<-hn];exact jK b hB
 have halt:Va<4294967296^a.length:=by rw[<-hVa];exact jK a hA
 have Rz:4294967296^(n+2)=4294967296^(n+1)*4294967296:=Nat.pow_succ ..;obtain⟨x,hx⟩:∃x,Vb/4294967296^(n+1)=x:=⟨_,Y⟩;have amv:x<4294967296:=by rw[<-hx,Nat.div_lt_iff_lt_mul (hP _)];rw[Rz,Nat.mul_comm]at aiP;exact aiP
 have hgx:b[n+1]? =some x:=by rw[qh hB ξ,show val 4294967296 b=Vb from hVb,hx,Nat.mod_eq_of_lt amv]
 have hx0:x≠0:=λe=>TP (by rw[hgx,e]);obtain⟨s,LC,A5,hs3,hs4⟩:=aml x amv hx0;have hp2:0<2^s:=Nat.two_pow_pos s;have amx:2^s<4294967296:=by
  have:2^s<2^32:=Nat.pow_lt_pow_right η A5;rw[two32]at this;exact this
 obtain⟨D,hD⟩:∃D,2^s=D:=⟨_,Y⟩;rw[hD]at hs3 hs4 hp2 amx;obtain⟨V,hV⟩:∃V,Vb*D=V:=⟨_,Y⟩;obtain⟨A,hAe⟩:∃A,Va*D=A:=⟨_,Y⟩;have Ip:V<4294967296^(n+2):=by
  have h1:Vb<(x+1)*4294967296^(n+1):=by rw[<-hx,Nat.add_mul,Nat.one_mul];exact Nat.lt_div_mul_add (hP _)
  have h2:(x+1)*D<=4294967296:=by
   obtain⟨e,he⟩:∃e,4294967296=D*e:=⟨2^(32-s),by rw[<-hD,<-Nat.pow_add,show s+(32-s)=32 by omega,two32]⟩;have h3:x<e:=by
    apply Nat.lt_of_mul_lt_mul_left (a:=D);rw[<-he,Nat.mul_comm];exact hs4
   calc (x+1)*D<=e*D:=Nat.mul_le_mul_right _ h3
    _=4294967296:=by rw[Nat.mul_comm,<-he]
  rw[<-hV,Rz]
  calc Vb*D<(x+1)*4294967296^(n+1)*D:=Nat.mul_lt_mul_of_pos_right h1 hp2
   _=4294967296^(n+1)*((x+1)*D):=by rw[Nat.mul_comm (x+1),Nat.mul_assoc]
   _<=4294967296^(n+1)*4294967296:=Nat.mul_le_mul_left _ h2
 have aan:2147483648*4294967296^(n+1)<=V:=by
  have h1:x*4294967296^(n+1)<=Vb:=by rw[<-hx];exact Nat.div_mul_le_self _ _
  rw[<-hV]
  calc 2147483648*4294967296^(n+1)<=x*D*4294967296^(n+1):=Nat.mul_le_mul_right _ hs3
   _=x*4294967296^(n+1)*D:=by rw[Nat.mul_assoc,Nat.mul_comm D,<-Nat.mul_assoc]
   _<=Vb*D:=Nat.mul_le_mul_right _ h1
 have hV0:0<V:=Nat.lt_of_lt_of_le (Nat.mul_pos η (hP _)) aan;have hb0:0<Vb:=by
  rcases Nat.eq_zero_or_pos Vb with h|h
  ·rw[<-hV,h,Nat.zero_mul]at hV0;omega
  exact h
 have hAV:A/V=Va/Vb:=by rw[<-hAe,<-hV,Nat.mul_div_mul_right _ _ hp2]
 have atd:A%V=Va%Vb*D:=by rw[<-hAe,<-hV,Nat.mul_mod_mul_right]
 obtain⟨K,hK⟩:∃K,a.length=K+(n+2):=⟨a.length-(n+2),by omega⟩;have hA0:A<V*4294967296^(K+1):=by
  have h1:4294967296^(n+1)<=Vb:=by
   have:1*4294967296^(n+1)<=x*4294967296^(n+1):=Nat.mul_le_mul_right _ ξ;have h2:x*4294967296^(n+1)<=Vb:=by rw[<-hx];exact Nat.div_mul_le_self _ _
   omega
  rw[<-hAe,<-hV]
  calc Va*D<4294967296^a.length*D:=Nat.mul_lt_mul_of_pos_right halt hp2
   _=4294967296^(n+1)*4294967296^(K+1)*D:=by rw[hK,<-Nat.pow_add];congr 2;omega
   _<=Vb*4294967296^(K+1)*D:=Nat.mul_le_mul_right _ (Nat.mul_le_mul_right _ h1)
   _=Vb*D*4294967296^(K+1):=by rw[Nat.mul_assoc,Nat.mul_comm _ D,<-Nat.mul_assoc]
 obtain⟨v,hve⟩:∃v,g9 4294967296 (n+2) V=v:=⟨_,Y⟩;have hvl:v.length=n+2:=by rw[<-hve,cu]
 have hvW:OL v:=⟨λy hy=>by rw[<-hve]at hy;exact vQ η _ _ _ hy,by omega⟩;have hvv:vl v=V:=by rw[<-hve];show val _ _=_;rw[sF,Nat.mod_eq_of_lt Ip]
 have amA:List.take b.length (g9 4294967296 (b.length+1) (Vb*2^s))=v:=by
  rw[hD,hV,hn,mE,List.take_append_of_le_length (by rw[cu];omega),List.take_of_length_le (by rw[cu];omega),hve]
 unfold nk;simp only[ct];rw[show((b.length:Nat):Int)-1=((n+1:Nat):Int) by omega,kC ξ,bH hgx,ct,LC,ct];rw[show((s:Int)%18446744073709551616).toNat=s by rw[Int.emod_eq_of_lt ξ ξ];simp];rw[Mi,shiftLeft_eq a s ⟨hA,hla⟩ A5,ct,shiftLeft_eq b s ⟨hB,hlb⟩ A5,ct,z5 (by rw[cu];omega),ct];obtain⟨Q,hQ⟩:∃Q,A/V=Q:=⟨_,Y⟩;have atf:Q<4294967296^(K+1):=by rw[<-hQ,Nat.div_lt_iff_lt_mul hV0,Nat.mul_comm];exact hA0
 rw[hVa,hVb,<-hAV,hQ,amA,hD,hAe,hn];rw[show a.length-(n+2)+1=K+1 by omega];rw[cQ (x:=(a.length:Int)-((n+2:Nat):Int)) ξ ξ,cQ (x:=(a.length:Int)-((n+2:Nat):Int)+1) ξ ξ,show(a.length:Int)-((n+2:Nat):Int)+1=((K+1:Nat):Int) by omega,za η ξ,ct,show(a.length:Int)-((n+2:Nat):Int)=(K:Int) by omega];refine bK (λj=>((K:Int)-(j:Int),g9 4294967296 (K+1) (Q/4294967296^(K+1-j)*4294967296^(K+1-j)),g9 4294967296 (a.length+1) (A%(V*4294967296^(K+1-j))))) (K+1) (g9 4294967296 (K+1) Q,g9 4294967296 (a.length+1) (A%V)) ?_ (λj hj=>?_) ?_ ?_
 ·rw[show K+1-0=K+1 by omega,Nat.mod_eq_of_lt hA0,Nat.div_eq_of_lt atf,Nat.zero_mul,z7];simp
 ·
  obtain⟨k,hk⟩:∃k,K=k+j:=⟨K-j,by omega⟩;rw[show K+1-j=k+1 by omega,show K+1-(j+1)=k by omega,show(K:Int)-(j:Int)=(k:Int) by omega,show(K:Int)-((j+1:Nat):Int)=(k:Int)-1 by omega];have hU:=amu (B:=4294967296) η hV0 A k;have RA:=aiM (B:=4294967296) (V:=V) A k;have hdg:=aiN (B:=4294967296) (V:=V) A k;obtain⟨N,hN⟩:∃N,a.length+1=N:=⟨_,Y⟩;obtain⟨A1,hA1⟩:∃A1,A%(V*4294967296^(k+1))=A1:=⟨_,Y⟩;rw[hN];rw[hA1]at hU RA hdg⊢;rw[hQ]at hdg;obtain⟨⟨g,lg⟩,hge,hgl,hg1,Uw⟩:=Ry (N:=N) (A:=A1) (o:=k) (n:=n) (v:=v) hvW hvl ξ ξ (by rw[hvv];exact hU) (by rw[hvv];exact aan);simp only at hgl hg1 Uw;rw[hvv]at hg1 Uw;subst hgl;have hsub:=Db (N:=N) (A:=A1) (o:=k) (n:=n+2) (v:=v) (f:=g) hvW hvl ξ ξ ?_ ?_
  ·rw[hvv]at hsub;obtain⟨U,hUe⟩:∃U,A1/4294967296^k=U:=⟨_,Y⟩;rw[hUe]at hU RA hdg hg1 Uw hsub;have ac7:4294967296^(n+2+1)=4294967296^(n+2)*4294967296:=Nat.pow_succ ..;have hUM:U<4294967296^(n+2+1):=by
    have:4294967296*V<4294967296*4294967296^(n+2):=Nat.mul_lt_mul_of_pos_left Ip η;rw[ac7];omega
   have aao:=ac5 (M:=4294967296^(n+2+1)) hV0 hg1 Uw hUM (by rw[ac7];omega);have hql:U/V<4294967296:=by rw[hdg];exact Nat.mod_lt _ η
   rw[show decide ((0:Int)<=(k:Int))=true by simp,iw];rw[sE ξ,bQ ξ,show k+(n+2)+1=k+(n+3) by omega,U3 (by rw[cu];omega) (by rw[cu];omega),ct,hge,ct,z6 Y,ct,U3 (by rw[cu];omega) (by rw[cu];omega),ct];show(Option.bind (fg _ k (n+2+1) v g) _)=_;rw[hsub,ct,z6 (by rw[cu,cu]),ct];simp only[cX];rcases aao with⟨hc1,Ph,hc3⟩|⟨hc1,Ph,hc3,hc4⟩
   ·rw[show decide (U<V*g)=false by simp;omega,ja,hc3,RA,Ph,Nat.mod_eq_of_lt hql,hdg,cO (by rw[cu];omega),ct,fK (by rw[cu];omega),ct,OO η ξ,cQ ξ ξ]
   rw[show decide (U<V*g)=true by simp;omega,iw,AR ξ ξ,show g-1=U/V by omega,Nat.mod_eq_of_lt hql,hdg];rw[Nat.mod_eq_of_lt hc3];obtain⟨aa,hY⟩:∃aa,U+4294967296^(n+2+1)-V*g=aa:=⟨_,Y⟩;rw[hY]at hc3 hc4⊢;obtain⟨A2,hA2⟩:∃A2,A1%4294967296^k+4294967296^k*aa=A2:=⟨_,Y⟩;rw[hA2];have hw2:A2/4294967296^k=aa:=by rw[<-hA2,Nat.add_mul_div_left _ _ (hP k),Nat.div_eq_of_lt (Nat.mod_lt _ (hP k)),Nat.zero_add]
   have W5:A2%4294967296^k=A1%4294967296^k:=by rw[<-hA2,Nat.add_mul_mod_self_left,Nat.mod_mod]
   have hcr:∀i,IX 4294967296 aa V i<=1:=λi=>KX η _ _ _;refine bK (λi=>((i:Int),IX 4294967296 aa V i,g9 4294967296 N (mix 4294967296 k i (aa+V) aa A2))) (n+2) (IX 4294967296 aa V (n+2),g9 4294967296 N (mix 4294967296 k (n+2) (aa+V) aa A2)) ?_ (λi hi=>?_) ?_ ?_
   ·rw[KZ,<-hw2,Rx];rfl
   ·have LB:v[i]? =some (V/4294967296^i%4294967296):=by rw[<-hvv];exact qh hvW.1 ξ
    have hgu:(g9 4294967296 N (mix 4294967296 k i (aa+V) aa A2))[k+i]? =some (aa/4294967296^i%4294967296):=by rw[vD ξ,FL η]
    have LC:=KY (B:=4294967296) η aa V i;have A5:=IY (B:=4294967296) η aa V i;have hput:=OM (B:=4294967296) η k i (aa+V) aa A2 (N:=N) ξ;have hci:=hcr i;have hv1:=Nat.mod_lt (V/4294967296^i) (show 0<4294967296 by decide);have hy1:=Nat.mod_lt (aa/4294967296^i) (show 0<4294967296 by decide);simp only[show decide ((i:Int)<(v.length:Int))=true by simp;omega,iw];rw[bH LB,ct,sE ξ,cO (by rw[cu];omega),ct,hgu,ct,Nat.mod_eq_of_lt (a:=aa/4294967296^i%4294967296) (b:=18446744073709551616) ξ,Nat.mod_eq_of_lt (a:=V/4294967296^i%4294967296) (b:=18446744073709551616) ξ,Nat.mod_eq_of_lt (b:=18446744073709551616) ξ,lK _ _ ξ,ct,ct,fK (by rw[cu];omega),ct,bQ ξ];rw[LC,A5,hput]
   ·simp[hvl]
   have hgu:(g9 4294967296 N (mix 4294967296 k (n+2) (aa+V) aa A2))[k+(n+2)]? =some (aa/4294967296^(n+2)%4294967296):=by rw[vD ξ,FL η]
   have A5:=IY (B:=4294967296) η aa V (n+2);have hput:=OM (B:=4294967296) η k (n+2) (aa+V) aa A2 (N:=N) ξ;have hci:=hcr (n+2);have hy1:=Nat.mod_lt (aa/4294967296^(n+2)) (show 0<4294967296 by decide);rw[Nat.div_eq_of_lt Ip,Nat.zero_mod,Nat.add_zero]at A5;simp only[];rw[cO (by rw[cu];omega),ct,hgu,ct,Nat.mod_eq_of_lt (a:=aa/4294967296^(n+2)%4294967296) (b:=18446744073709551616) ξ,lK _ _ ξ,ct,ct,fK (by rw[cu];omega),ct,A5,hput,Rw hc3,W5,hc4,RA,cO (by rw[cu];omega),ct,fK (by rw[cu];omega),ct,OO η ξ,cQ ξ ξ]
  ·
   have hql:A1/4294967296^k/V<4294967296:=by rw[hdg];exact Nat.mod_lt _ η
   omega
  have ac7:4294967296^(n+2+1)=4294967296^(n+2)*4294967296:=Nat.pow_succ ..;have:4294967296*V<4294967296*4294967296^(n+2):=Nat.mul_lt_mul_of_pos_left Ip η;rw[ac7];omega
 ·rw[show K+1-(K+1)=0 by omega,Nat.pow_zero,Nat.mul_one,Nat.mul_one,Nat.div_one,show decide (0<=(K:Int)-((K+1:Nat):Int))=false by simp;omega,ja]
 obtain⟨R,hR⟩:∃R,Va%Vb=R:=⟨_,Y⟩;rw[atd,hR];have atj:R<4294967296^(n+2):=by rw[<-hR];exact Nat.lt_trans (Nat.mod_lt _ hb0) aiP
 rw[za η ξ,ct];refine bK (λi=>((i:Int),g9 4294967296 (n+2) (R%4294967296^i))) (n+2) (g9 4294967296 (n+2) R) ?_ (λi hi=>?_) ?_ Y
 ·rw[Nat.pow_zero,Nat.mod_one,z7];rfl
 ·obtain⟨e,he⟩:∃e,4294967296=D*e:=⟨2^(32-s),by rw[<-hD,<-Nat.pow_add,show s+(32-s)=32 by omega,two32]⟩;have aap:=ac6 (R:=R) (i:=i) hp2 he;obtain⟨u,hu⟩:∃u,R*D/4294967296^i%4294967296=u:=⟨_,Y⟩;obtain⟨w,hw⟩:∃w,R*D/4294967296^(i+1)%4294967296=w:=⟨_,Y⟩;have hu1:u<4294967296:=by rw[<-hu];exact Nat.mod_lt _ η
  have hw1:w<4294967296:=by rw[<-hw];exact Nat.mod_lt _ η
  rw[hu,hw]at aap;simp only[show decide ((i:Int)<((n+2:Nat):Int))=true by simp;omega,iw];rw[cO (by rw[cu];omega),ct,vD ξ,ct,hu,bQ ξ,cO (by rw[cu];omega),ct,vD ξ,ct,hw,Nat.mod_eq_of_lt (a:=u) ξ,Nat.mod_eq_of_lt (a:=w) ξ,two32,Nat.mod_eq_of_lt (a:=w*4294967296) ξ,Nat.or_comm,U0 hu1,Nat.mod_eq_of_lt (a:=w*4294967296+u) ξ,show min s 64=s by omega,hD,aap,cO (by rw[cu];omega),ct,fK (by rw[cu];omega),ct];rw[aiO η hi]
 rw[Nat.mod_eq_of_lt atj];simp
end
section
open Go.Fw
def sv(n:Bool)(v:Nat):Int:=bif n then-(v:Int)else v
def zi(z:Zr):Int:=sv z.neg (vl z.w)
def zn(i:Int):Zr:=⟨decide (i<0),can 4294967296 i.natAbs⟩
def Wl(z:Zr):Prop:=(∀x∈z.w,x<4294967296)/\z.w.length<=10000000000
def Fit(L:Nat)(i:Int):Prop:=i.natAbs<4294967296^L
theorem aaq(n:Bool)(v:Nat):(sv n v).natAbs=v:=by cases n<;>simp[sv]
theorem Cx(z:Zr):(zi z).natAbs=vl z.w:=aaq _ _
theorem aiR(n:Bool)(v:Nat):decide (sv n v<0)=(n&&v != 0):=by
 cases n
 ·have:¬((v:Int)<0):=by omega
  simp[sv,this]
 rcases v with _|v
 ·simp[sv]
 simp[sv]
theorem xU(n:Bool)(v:Nat):zc n v=zn (sv n v):=by rw[zc,zn,aiR,aaq]
theorem ac8(i:Int):sv (decide (i<0)) i.natAbs=i:=by
 by_cases h:i<0
 ·rw[show decide (i<0)=true by simp[h]];simp[sv];omega
 rw[show decide (i<0)=false by simp[h]];simp[sv];omega
theorem gN(i:Int):zi (zn i)=i:=by
 show sv (decide (i<0)) (vl (can 4294967296 i.natAbs))=i;rw[show vl (can 4294967296 i.natAbs)=i.natAbs from pq η _,ac8]
theorem La(n:Bool)(v:Nat):sv (!n) v=-sv n v:=by cases n<;>simp[sv]
theorem oI(v:Nat):sv false v=v:=rfl
theorem Fit.mono{L M:Nat}{i:Int}(h:Fit L i)(hl:L<=M):Fit M i:=Nat.lt_of_lt_of_le h (Nat.pow_le_pow_right η hl)
theorem Fit.neg{L:Nat}{i:Int}(h:Fit L i):Fit L (-i):=by unfold Fit at*;rw[Int.natAbs_neg];exact h
theorem Fit.add{L:Nat}{i j:Int}(h:Fit L i)(h':Fit L j):Fit (L+1) (i+j):=by
 unfold Fit at*;have:=Int.natAbs_add_le i j;rw[Nat.pow_succ];omega
theorem Fit.sub{L:Nat}{i j:Int}(h:Fit L i)(h':Fit L j):Fit (L+1) (i-j):=by
 rw[Int.sub_eq_add_neg];exact h.add h'.neg
theorem Fit.mul{L M:Nat}{i j:Int}(h:Fit L i)(h':Fit M j):Fit (L+M) (i*j):=by
 unfold Fit at*;rw[Int.natAbs_mul,Nat.pow_add];exact Nat.mul_lt_mul'' h h'
theorem Fit.i64{i:Int}(h: -9223372036854775808<=i)(h':i<=9223372036854775807):Fit 2 i:=by
 unfold Fit;rw[show(4294967296:Nat)^2=18446744073709551616 by decide];omega
theorem Fit.le{L:Nat}{i j:Int}(h:Fit L i)(h':j.natAbs<=i.natAbs):Fit L j:=Nat.lt_of_le_of_lt h' h
theorem gO{L:Nat}{i:Int}(h:Fit L i)(hL:L<=10000000000):Wl (zn i):=
 ⟨λ_ hx=>jz η hx,Nat.le_trans ((cL η).2 h) hL⟩
theorem Wl.fit{z:Zr}(h:Wl z):Fit z.w.length (zi z):=by
 unfold Fit;rw[Cx];exact jK z.w h.1
theorem Wl.lt{z:Zr}(h:Wl z):vl z.w<4294967296^z.w.length:=jK z.w h.1
theorem Wl.cl{z:Zr}(h:Wl z):(can 4294967296 (vl z.w)).length<=10000000000:=
 Nat.le_trans ((cL η).2 (Wl.lt h)) h.2
theorem Wl.trim{z:Zr}(h:Wl z):bV z.w=some (can 4294967296 (vl z.w)):=by
 rw[IZ _ (by have:=h.2;omega),oH η h.1]
theorem lz{v:Nat}(h:(can 4294967296 v).length<=10000000001):OL (can 4294967296 v):=⟨λ_ hx=>jz η hx,by omega⟩
theorem iL(v:Nat):vl (can 4294967296 v)=v:=pq η v
theorem kq{v:Nat}:((can 4294967296 v).length:Int)<=2↔v<18446744073709551616:=by
 have:=cL (B:=4294967296) η (v:=v) (n:=2);rw[show(4294967296:Nat)^2=18446744073709551616 by decide]at this;omega
theorem sG{v:Nat}:((can 4294967296 v).length:Int)<=1↔v<4294967296:=by
 have:=cL (B:=4294967296) η (v:=v) (n:=1);rw[show(4294967296:Nat)^1=4294967296 by decide]at this;omega
theorem xV{v:Nat}:(can 4294967296 v).length=0↔v=0:=by
 constructor
 ·intro h;exact FI η (List.length_eq_zero_iff.1 h)
 intro h;rw[h,xT];rfl
theorem FM(l:List Nat)(h:l.length<=1000000000000):gW l=some l:=by
 unfold gW;rw[aab η aH];simp
end
section
open Go.Fw
theorem RB(a b:Nat):decide (Ea a b<0)=decide (a<b):=by
 rcases Nat.lt_trichotomy a b with h|h|h
 ·rw[yK h];simp[h]
 ·rw[h,CT];simp
 rw[AX h];simp;omega
theorem HK(a b:Nat)(ha:(can 4294967296 a).length<=10000000000)(hb:(can 4294967296 b).length<=10000000000)(h0:b≠0):
  ∃q r,jX (can 4294967296 a) (can 4294967296 b)=some (q,r)/\OL q/\vl q=a/b/\OL r/\vl r=a%b/\q.length<=10000000001/\r.length<=10000000001:=by
 unfold jX;rw[qi a b ξ ξ];simp only[ct];by_cases hlt:a<b
 ·rw[yK hlt];simp only[show decide ((-1:Int)<0)=true by decide,iw];rw[FM _ ξ];refine⟨_,_,Y,⟨by simp,by simp⟩,?_,lz ξ,?_,by simp,by omega⟩
  ·rw[Nat.div_eq_of_lt hlt];rfl
  rw[iL,Nat.mod_eq_of_lt hlt]
 rw[RB,show decide (a<b)=false by simp[hlt]];simp only[ja];by_cases h2:a<18446744073709551616
 ·rw[show decide (((can 4294967296 a).length:Int)<=2)=true by rw[decide_eq_true_eq];exact kq.2 h2];have By:b<18446744073709551616:=by omega
  simp only[iw];have l1:=low_eq (can 4294967296 a) (λ_ hx=>jz η hx) (by have:=kq.2 h2;omega);have l2:=low_eq (can 4294967296 b) (λ_ hx=>jz η hx) (by have:=kq.2 By;omega);rw[iL]at l1 l2;rw[l1,ct,l2,ct,OE h0 h2,ct,z9 _ _ (Nat.lt_of_le_of_lt (Nat.div_le_self _ _) h2),ct,IV h0,ct,z9 _ _ (Nat.lt_of_le_of_lt (Nat.mod_le _ _) h2),ct];have hq:a/b<18446744073709551616:=Nat.lt_of_le_of_lt (Nat.div_le_self _ _) h2;have hr:a%b<18446744073709551616:=Nat.lt_of_le_of_lt (Nat.mod_le _ _) h2;have c1:=kq.2 hq;have c2:=kq.2 hr;exact⟨_,_,Y,lz ξ,iL _,lz ξ,iL _,by show(can _ _).length<=_;omega,by show(can _ _).length<=_;omega⟩
 rw[show decide (((can 4294967296 a).length:Int)<=2)=false by rw[decide_eq_false_iff_not];exact λh=>h2 (kq.1 h)];simp only[ja];have Di:(can 4294967296 b).length≠0:=λh=>h0 (xV.1 h);by_cases h1:b<4294967296
 ·have h1':=sG.2 h1;rw[show decide (((can 4294967296 b).length:Int)=1)=true by simp;omega,iw];have hg:(can 4294967296 b)[0]? =some b:=by rw[CR η ξ];simp;exact h1
  rw[FM _ ξ,ct,CQ hg,ct,Nat.mod_eq_of_lt (b:=18446744073709551616) ξ,Rv _ _ (lz ξ) ξ ξ,ct,iL];simp only[];rw[z6 (by rw[cu]),ct];have hm:a%b<b:=Nat.mod_lt _ ξ;rw[Nat.mod_eq_of_lt (a:=a%b) ξ];refine⟨_,_,Y,⟨λx hx=>vQ η _ _ _ hx,by rw[cu];omega⟩,?_,⟨?_,by simp⟩,?_,by rw[cu];omega,by simp⟩
  ·show val _ _=_;rw[sF,Nat.mod_eq_of_lt (Nat.lt_of_le_of_lt (Nat.div_le_self _ _) (dw η a))]
  ·intro x hx;simp at hx;omega
  simp[vl,val]
 have h1':¬(((can 4294967296 b).length:Int)<=1):=λh=>h1 (sG.1 h);rw[show decide (((can 4294967296 b).length:Int)=1)=false by simp;omega,ja];obtain⟨n,hn⟩:∃n,(can 4294967296 b).length=n+2:=⟨(can 4294967296 b).length-2,by omega⟩;have hl:(can 4294967296 b).length<=(can 4294967296 a).length:=(cL η).2 (Nat.lt_of_le_of_lt ξ (dw η a));obtain⟨l,x,hx,he⟩:=Rr (B:=4294967296) η h0;have TP:(can 4294967296 b)[n+1]? ≠some 0:=by
  have:l.length=n+1:=by rw[he]at hn;simp at hn;omega
  rw[he,<-this];simp;exact hx
 rw[TQ _ _ (lz ξ) (lz ξ) hn hl TP,ct,iL,iL];have hbp:0<b:=by omega
 have e1:a<4294967296^(can 4294967296 a).length:=dw η a;have e2:b<4294967296^(can 4294967296 b).length:=dw η b;have e3:4294967296^(n+1)<=b:=zb η ξ;refine⟨_,_,Y,⟨λx hx=>vQ η _ _ _ hx,by rw[cu];omega⟩,?_,⟨λx hx=>vQ η _ _ _ hx,by rw[cu];omega⟩,?_,by rw[cu];omega,by rw[cu];omega⟩
 ·show val _ _=_;rw[sF,Nat.mod_eq_of_lt];rw[Nat.div_lt_iff_lt_mul hbp];have:4294967296^((can 4294967296 a).length-(can 4294967296 b).length+1)*4294967296^(n+1)=4294967296^(can 4294967296 a).length:=by rw[<-Nat.pow_add];congr 1;omega
  calc a<4294967296^((can 4294967296 a).length-(can 4294967296 b).length+1)*4294967296^(n+1):=by rw[this];exact e1
   _<=_:=Nat.mul_le_mul_left _ e3
 show val _ _=_;rw[sF,Nat.mod_eq_of_lt (Nat.lt_trans (Nat.mod_lt _ hbp) e2)]
end
section
open Go.Fw
theorem uf{x:Int}(h1: -9223372036854775808<=x)(h2:x<=9223372036854775807):c8 x=some (zn x):=by
 unfold c8;simp only[ct,cX];by_cases hx:x<0
 ·have e:(x%18446744073709551616).toNat=18446744073709551616-x.natAbs:=by omega
  rw[show decide (x<0)=true by simp[hx],iw,e,FG ξ ξ,show 18446744073709551616+0-(18446744073709551616-x.natAbs)=x.natAbs by omega,z9 _ _ ξ,ct,xU,show sv true x.natAbs=x by simp[sv];omega]
 have e:(x%18446744073709551616).toNat=x.natAbs:=by omega
 rw[show decide (x<0)=false by simp[hx],ja,e,z9 _ _ ξ,ct,xU,show sv false x.natAbs=x by simp[sv];omega]
def ia(i:Int):Prop:=-9223372036854775808<=i/\i<=9223372036854775807
instance(i:Int):Decidable (ia i):=by unfold ia;infer_instance
def Cy(i:Int):Int×Bool:=if ia i then(i,true)else(0,false)
theorem xW{z:Zr}(h:Wl z):fE z=some (Cy (zi z)):=by
 obtain⟨n,w⟩:=z;unfold fE;have ht:=h.trim;have atk:vl w<18446744073709551616->fX (can 4294967296 (vl w))=some (vl w):=λh2=>by
  rw[low_eq _ (λ_ hx=>jz η hx) (by have:=kq.2 h2;omega),iL]
 show(bV w).bind _=some (Cy (sv n (vl w)));rw[show bV w=some (can 4294967296 (vl w))from ht];simp only[ct];generalize vl w=v at*;by_cases h2:v<18446744073709551616
 ·have:=kq.2 h2;rw[show decide ((2:Int)<((can 4294967296 v).length:Int))=false by simp;omega,ja,atk h2,ct];cases n
  ·rw[ja,oI];by_cases h3:v<9223372036854775808
   ·rw[show decide (9223372036854775808<=v)=false by simp;omega,ja,kC ξ,Cy,if_pos (by unfold ia;omega)]
   rw[show decide (9223372036854775808<=v)=true by simp;omega,iw,Cy,if_neg (by unfold ia;omega)]
  rw[iw,show sv true v=-(v:Int)from rfl];by_cases h3:9223372036854775808<v
  ·rw[show decide (9223372036854775808<v)=true by simp;omega,iw,Cy,if_neg (by unfold ia;omega)]
  rw[show decide (9223372036854775808<v)=false by simp;omega,ja,Cy,if_pos (by unfold ia;omega)];by_cases h0:v=0
  ·subst h0;rfl
  rw[FG ξ ξ];rw[show IntKind.i64.wrap ((18446744073709551616+0-v:Nat):Int)=-(v:Int) by
   rw[IntKind.wrap];simp[IntKind.signed,IntKind.bits];omega]
 have:¬(((can 4294967296 v).length:Int)<=2):=λh=>h2 (kq.1 h);rw[show decide ((2:Int)<((can 4294967296 v).length:Int))=true by simp;omega,iw,Cy,if_neg (by unfold ia;cases n<;>simp[sv]<;>omega)]
theorem sign_eq{z:Zr}(h:Wl z):eD z=some (zi z).sign:=by
 obtain⟨n,w⟩:=z;unfold eD;show(bV w).bind _=some (sv n (vl w)).sign;rw[show bV w=some (can 4294967296 (vl w))from h.trim];simp only[ct];generalize vl w=v;by_cases h0:v=0
 ·subst h0;cases n<;>rfl
 have:(can 4294967296 v).length≠0:=λh=>h0 (xV.1 h);rw[show decide (((can 4294967296 v).length:Int)=0)=false by simp;intro e;rw[e]at this;exact this Y,ja];cases n
 ·rw[ja,oI,Int.sign_eq_one_of_pos ξ]
 rw[iw,show sv true v=-(v:Int)from Y,Int.sign_eq_neg_one_of_neg ξ]
def qF(i j:Int):Int:=if i<j then-1 else if i=j then 0 else 1
theorem lX{i j:Int}(h:i<j):qF i j=-1:=by simp[qF,h]
theorem lY{i j:Int}(h:j<i):qF i j=1:=by
 have h1:¬i<j:=by omega
 have h2:¬i=j:=by omega
 simp[qF,h1,h2]
theorem wX(i:Int):qF i i=0:=by simp[qF]
theorem Lb(v w:Nat):Ea v w=qF (v:Int) (w:Int):=by
 rcases Nat.lt_trichotomy v w with h|h|h
 ·rw[yK h,lX ξ]
 ·rw[h,CT,wX]
 rw[AX h,lY ξ]
theorem RC(i j:Int):qF (-i) (-j)=qF j i:=by
 rcases Int.lt_trichotomy i j with h|h|h
 ·rw[lY h,lY ξ]
 ·rw[h,wX,wX]
 rw[lX h,lX ξ]
theorem aiS{x y:Zr}(hx:Wl x)(hy:Wl y):uS x y=some (qF (zi x) (zi y)):=by
 obtain⟨n,w⟩:=x;obtain⟨m,u⟩:=y;unfold uS;show(eD ⟨n,w⟩).bind _=_;rw[sign_eq hx,ct];show(eD ⟨m,u⟩).bind _=_;rw[sign_eq hy,ct,show bV w=some (can 4294967296 (vl w))from hx.trim,show bV u=some (can 4294967296 (vl u))from hy.trim];simp only[ct];rw[qi _ _ (Nat.le_trans hx.cl η) (Nat.le_trans hy.cl η),qi _ _ (Nat.le_trans hy.cl η) (Nat.le_trans hx.cl η)];simp only[ct];rw[show zi ⟨n,w⟩=sv n (vl w)from Y,show zi ⟨m,u⟩=sv m (vl u)from rfl];generalize vl w=a;generalize vl u=b;rw[Lb,Lb];obtain⟨i,hi⟩:∃i,sv n a=i:=⟨_,Y⟩;obtain⟨j,hj⟩:∃j,sv m b=j:=⟨_,Y⟩;have hia:(i<0->i=-(a:Int))/\(0<=i->i=a):=by rw[<-hi];cases n<;>simp[sv]<;>omega
 have hjb:(j<0->j=-(b:Int))/\(0<=j->j=b):=by rw[<-hj];cases m<;>simp[sv]<;>omega
 rw[hi,hj];rcases Int.lt_trichotomy i 0 with h1|h1|h1<;>rcases Int.lt_trichotomy j 0 with h2|h2|h2
 ·rw[Int.sign_eq_neg_one_of_neg h1,Int.sign_eq_neg_one_of_neg h2,hia.1 h1,hjb.1 h2,RC];rfl
 ·rw[Int.sign_eq_neg_one_of_neg h1,show Int.sign j=0 by rw[h2];rfl,show qF i j=-1 from lX ξ];rfl
 ·rw[Int.sign_eq_neg_one_of_neg h1,Int.sign_eq_one_of_pos h2,show qF i j=-1 from lX ξ];rfl
 ·rw[show Int.sign i=0 by rw[h1];rfl,Int.sign_eq_neg_one_of_neg h2,show qF i j=1 from lY ξ];rfl
 ·rw[show Int.sign i=0 by rw[h1];rfl,show Int.sign j=0 by rw[h2];rfl,<-hia.2 ξ,<-hjb.2 ξ];rfl
 ·rw[show Int.sign i=0 by rw[h1];rfl,Int.sign_eq_one_of_pos h2,show qF i j=-1 from lX ξ];rfl
 ·rw[Int.sign_eq_one_of_pos h1,Int.sign_eq_neg_one_of_neg h2,show qF i j=1 from lY ξ];rfl
 ·rw[Int.sign_eq_one_of_pos h1,show Int.sign j=0 by rw[h2];rfl,show qF i j=1 from lY ξ];rfl
 rw[Int.sign_eq_one_of_pos h1,Int.sign_eq_one_of_pos h2,<-hia.2 ξ,<-hjb.2 ξ];rfl
theorem neg_eq{x:Zr}(hx:Wl x):jN x=some (zn (-zi x)):=by
 obtain⟨n,w⟩:=x;unfold jN;have hc:(can 4294967296 (vl w)).length<=10000000000:=hx.cl;simp only[ct];rw[show bV w=some (can 4294967296 (vl w))from hx.trim,ct,FM _ ξ,ct,pV _ _ (lz ξ),ct,iL,xU,La];rfl
end
section
open Go.Fw
theorem FN(n m:Bool)(a b:Nat)(ha:(can 4294967296 a).length<=10000000000)(hb:(can 4294967296 b).length<=10000000000):
  fm n (can 4294967296 a) m (can 4294967296 b)=some (zn (sv n a+sv m b)):=by
 have la:=dw (B:=4294967296) η a;have lb:=dw (B:=4294967296) η b;unfold fm;simp only[ct];by_cases hnm:n=m
 ·subst hnm;rw[show(n==n)=true by simp,iw,HI _ _ (lz ξ) (lz ξ),ct,iL,iL,pV _ _ ⟨λx hx=>vQ η _ _ _ hx,by rw[cu];omega⟩,ct];have hv:vl (g9 4294967296 (max (can 4294967296 a).length (can 4294967296 b).length+1) (a+b))=a+b:=by
   show val _ _=_;rw[sF,Nat.mod_eq_of_lt];have h1:a<4294967296^(max (can 4294967296 a).length (can 4294967296 b).length):=Nat.lt_of_lt_of_le la (Nat.pow_le_pow_right η ξ);have h2:b<4294967296^(max (can 4294967296 a).length (can 4294967296 b).length):=Nat.lt_of_lt_of_le lb (Nat.pow_le_pow_right η ξ);rw[Nat.pow_succ];omega
  rw[hv,xU,show sv n (a+b)=sv n a+sv n b by cases n<;>simp[sv];omega]
 rw[show(n==m)=false by simp[hnm],ja,qi _ _ ξ ξ,ct,RB];have hm:m= !n:=by cases n<;>cases m<;>simp_all
 subst hm;have hv:∀c d,d<=c->(can 4294967296 c).length<=10000000000->ff (can 4294967296 c) (can 4294967296 d)=some (g9 4294967296 (can 4294967296 c).length (c-d))/\vl (g9 4294967296 (can 4294967296 c).length (c-d))=c-d:=by
  intro c d hdc tg;have lc:=dw (B:=4294967296) η c;have hdl:(can 4294967296 d).length<=(can 4294967296 c).length:=(cL η).2 ξ;constructor
  ·rw[HJ _ _ (lz ξ) (lz ξ) hdl (by rw[iL,iL];exact hdc),iL,iL]
  show val _ _=_;rw[sF,Nat.mod_eq_of_lt ξ]
 by_cases hlt:a<b
 ·obtain⟨h1,h2⟩:=hv b a ξ hb;rw[show decide (a<b)=true by simp[hlt],iw,h1,ct,pV _ _ ⟨λx hx=>vQ η _ _ _ hx,by rw[cu];omega⟩,ct,h2,xU,show sv (!n) (b-a)=sv n a+sv (!n) b by cases n<;>simp[sv]<;>omega]
 obtain⟨h1,h2⟩:=hv a b ξ ha;rw[show decide (a<b)=false by simp[hlt],ja,h1,ct,pV _ _ ⟨λx hx=>vQ η _ _ _ hx,by rw[cu];omega⟩,ct,h2,xU,show sv n (a-b)=sv n a+sv (!n) b by cases n<;>simp[sv]<;>omega]
theorem U4(v:BitVec 64):IntKind.i64.wrap (v.toNat:Int)=v.toInt:=by
 rw[BitVec.toInt_eq_toNat_cond];have:=v.isLt;rw[show(2:Nat)^64=18446744073709551616 by decide]at this⊢;split
 ·rw[kC ξ]
 rw[IntKind.wrap];simp[IntKind.signed,IntKind.bits];omega
theorem U5(v:BitVec 64):BitVec.ofInt 64 (IntKind.i64.wrap (v.toNat:Int))=v:=by rw[U4,BitVec.ofInt_toInt]
theorem GX{x:Int}(h:ia x):(BitVec.ofInt 64 x).msb=decide (x<0):=by
 rw[BitVec.msb_eq_toInt,BitVec.toInt_ofInt];unfold ia at h;have:x.bmod (2^64)=x:=by
  rw[Int.bmod_def];simp only[show((2^64:Nat):Int)=18446744073709551616 by decide];split<;>omega
 rw[this]
theorem MW(v:BitVec 64):decide ((0:Int)<=IntKind.i64.wrap (v.toNat:Int))= !v.msb:=by
 rw[U4,BitVec.msb_eq_toInt];by_cases h:v.toInt<0
 ·simp[h]
 simp[h];omega
theorem Aa(x:Int):ia (IntKind.i64.wrap x):=by
 unfold ia;rw[IntKind.wrap];simp[IntKind.signed,IntKind.bits];split<;>omega
theorem FO{α:Type}(b:Bool)(x:α):(bif b then x else x)=x:=by cases b<;>rfl
theorem nA{i:Int}(h:ia i):Cy i=(i,true):=if_pos h
theorem xX{i:Int}(h:¬ia i):Cy i=(0,false):=if_neg h
theorem add_eq{x y:Zr}(hx:Wl x)(hy:Wl y):uQ x y=some (zn (zi x+zi y)):=by
 obtain⟨n,w⟩:=x;obtain⟨m,u⟩:=y;unfold uQ;simp only[xW hx,xW hy,ct,cX];have hK:((bV w).bind λyj=>(bV u).bind λzo=>(fm n yj m zo).bind λx=>some x)=some (zn (zi ⟨n,w⟩+zi ⟨m,u⟩)):=by
  rw[show bV w=some (can 4294967296 (vl w))from hx.trim,show bV u=some (can 4294967296 (vl u))from hy.trim,ct,ct,FN _ _ _ _ hx.cl hy.cl,ct];rfl
 have hK':((bV w).bind λyj=>(bV u).bind λzo=>(fm n yj m zo).bind λx=>some ⟨x.neg,x.w⟩)=some (zn (zi ⟨n,w⟩+zi ⟨m,u⟩)):=hK;rw[hK'];generalize zi ⟨n,w⟩=i;generalize zi ⟨m,u⟩=j;by_cases h1:ia i
 ·by_cases h2:ia j
  ·rw[nA h1,nA h2,iw,ct,iw,U5,U5,MW,BitVec.msb_and,BitVec.msb_xor,BitVec.msb_xor,GX h1,GX h2,GX (Aa _),uf (Aa _).1 (Aa _).2,ct];by_cases hr:ia (i+j)
   ·rw[cQ hr.1 hr.2];exact FO _ _
   have:(!((decide (i<0)^^decide (IntKind.i64.wrap (i+j)<0))&&(decide (j<0)^^decide (IntKind.i64.wrap (i+j)<0))))=false:=by
    unfold ia at*;by_cases hs:i<0
    ·have e:IntKind.i64.wrap (i+j)=i+j+18446744073709551616:=by rw[IntKind.wrap];simp[IntKind.signed,IntKind.bits];omega
     rw[e,show decide (i<0)=true by simp[hs],show decide (j<0)=true by simp;omega,show decide (i+j+18446744073709551616<0)=false by simp;omega];rfl
    have e:IntKind.i64.wrap (i+j)=i+j-18446744073709551616:=by rw[IntKind.wrap];simp[IntKind.signed,IntKind.bits];omega
    rw[e,show decide (i<0)=false by simp[hs],show decide (j<0)=false by simp;omega,show decide (i+j-18446744073709551616<0)=true by simp;omega];rfl
   rw[this,ja]
  rw[nA h1,xX h2,iw,ct,ja]
 rw[xX h1,ja,ct,ja]
theorem sub_eq{x y:Zr}(hx:Wl x)(hy:Wl y):uR x y=some (zn (zi x-zi y)):=by
 obtain⟨n,w⟩:=x;obtain⟨m,u⟩:=y;unfold uR;simp only[xW hx,xW hy,ct,cX];have hK':((bV w).bind λyj=>(bV u).bind λzo=>(fm n yj (!m) zo).bind λx=>some ⟨x.neg,x.w⟩)=some (zn (zi ⟨n,w⟩-zi ⟨m,u⟩)):=by
  rw[show bV w=some (can 4294967296 (vl w))from hx.trim,show bV u=some (can 4294967296 (vl u))from hy.trim,ct,ct,FN _ _ _ _ hx.cl hy.cl,ct,La,<-Int.sub_eq_add_neg];rfl
 rw[hK'];generalize zi ⟨n,w⟩=i;generalize zi ⟨m,u⟩=j;by_cases h1:ia i
 ·by_cases h2:ia j
  ·rw[nA h1,nA h2,iw,ct,iw,U5,U5,MW,BitVec.msb_and,BitVec.msb_xor,BitVec.msb_xor,GX h1,GX h2,GX (Aa _),uf (Aa _).1 (Aa _).2,ct];by_cases hr:ia (i-j)
   ·rw[cQ hr.1 hr.2];exact FO _ _
   have:(!((decide (i<0)^^decide (j<0))&&(decide (i<0)^^decide (IntKind.i64.wrap (i-j)<0))))=false:=by
    unfold ia at*;by_cases hs:i<0
    ·have e:IntKind.i64.wrap (i-j)=i-j+18446744073709551616:=by rw[IntKind.wrap];simp[IntKind.signed,IntKind.bits];omega
     rw[e,show decide (i<0)=true by simp[hs],show decide (j<0)=false by simp;omega,show decide (i-j+18446744073709551616<0)=false by simp;omega];rfl
    have e:IntKind.i64.wrap (i-j)=i-j-18446744073709551616:=by rw[IntKind.wrap];simp[IntKind.signed,IntKind.bits];omega
    rw[e,show decide (i<0)=false by simp[hs],show decide (j<0)=true by simp;omega,show decide (i-j-18446744073709551616<0)=true by simp;omega];rfl
   rw[this,ja]
  rw[nA h1,xX h2,iw,ct,ja]
 rw[xX h1,ja,ct,ja]
theorem TS(n m:Bool)(a b:Nat):sv (!(n==m)) (a*b)=sv n a*sv m b:=by
 cases n<;>cases m<;>simp[sv,Int.neg_mul,Int.mul_neg]
theorem mul_eq{x y:Zr}(hx:Wl x)(hy:Wl y):ei x y=some (zn (zi x*zi y)):=by
 obtain⟨n,w⟩:=x;obtain⟨m,u⟩:=y;unfold ei;have hcx:(can 4294967296 (vl w)).length<=10000000000:=hx.cl;have hcy:(can 4294967296 (vl u)).length<=10000000000:=hy.cl;simp only[];rw[show bV w=some (can 4294967296 (vl w))from hx.trim,show bV u=some (can 4294967296 (vl u))from hy.trim,ct,ct,show zi ⟨n,w⟩=sv n (vl w)from Y,show zi ⟨m,u⟩=sv m (vl u)from rfl];simp only[ct,cX];generalize vl w=a at*;generalize vl u=b at*;have la:=dw (B:=4294967296) η a;have lb:=dw (B:=4294967296) η b;have hK:((jW (can 4294967296 a) (can 4294967296 b)).bind λvI=>(dD (!(n==m)) vI).bind λx=>some ⟨x.neg,x.w⟩)=some (zn (sv n a*sv m b)):=by
  rw[Ru _ _ (lz ξ) (lz ξ),ct,iL,iL,pV _ _ ⟨λx hx=>vQ η _ _ _ hx,by rw[cu];omega⟩,ct,xU];have hv:vl (g9 4294967296 ((can 4294967296 a).length+(can 4294967296 b).length) (a*b))=a*b:=by
   show val _ _=_;rw[sF,Nat.mod_eq_of_lt];rw[Nat.pow_add];exact Nat.mul_lt_mul'' la lb
  rw[hv,TS]
 rw[hK];by_cases h1:a<4294967296
 ·by_cases h2:b<4294967296
  ·have l1:=low_eq (can 4294967296 a) (λ_ hx=>jz η hx) (by have:=sG.2 h1;omega);have l2:=low_eq (can 4294967296 b) (λ_ hx=>jz η hx) (by have:=sG.2 h2;omega);rw[iL]at l1 l2;have hlt:a*b<18446744073709551616:=Nat.mul_lt_mul'' h1 h2;rw[show decide (((can 4294967296 a).length:Int)<=1)=true by rw[decide_eq_true_eq];exact sG.2 h1,iw,ct,show decide (((can 4294967296 b).length:Int)<=1)=true by rw[decide_eq_true_eq];exact sG.2 h2,iw,l1,l2,ct,ct,Nat.mod_eq_of_lt hlt,z9 _ _ hlt,ct,xU,TS]
  rw[show decide (((can 4294967296 a).length:Int)<=1)=true by rw[decide_eq_true_eq];exact sG.2 h1,iw,ct,show decide (((can 4294967296 b).length:Int)<=1)=false by rw[decide_eq_false_iff_not];exact λh=>h2 (sG.1 h),ja]
 rw[show decide (((can 4294967296 a).length:Int)<=1)=false by rw[decide_eq_false_iff_not];exact λh=>h1 (sG.1 h),ja,ct,ja]
end
section
open Go.Fw
theorem aar(n m:Bool){a b:Nat}(hb:0<b):
  sv n a/sv m b=(if n=true/\0<a%b then sv (!(n==m)) (a/b+1)else sv (!(n==m)) (a/b))/\
  sv n a%sv m b=(if n=true/\0<a%b then((b-a%b:Nat):Int)else((a%b:Nat):Int)):=by
 have hd:=Nat.div_add_mod a b;have hm:=Nat.mod_lt a hb
 revert hd hm
 generalize a/b=q;generalize a%b=r;intro hd hm;have hd':(b:Int)*q+r=a:=by exact_mod_cast hd
 have pos:∀n,sv n a/(b:Int)=(if n=true/\0<r then sv n (q+1)else sv n q)/\sv n a%(b:Int)=(if n=true/\0<r then((b-r:Nat):Int)else(r:Int)):=by
  intro n;apply(Int.ediv_emod_unique ξ).2;cases n
  ·simp[sv];omega
  by_cases hr:0<r
  ·simp only[hr,and_self,if_true,sv,cond_true];have:(b:Int)* -((q+1:Nat):Int)=-((b:Int)*q)-b:=by
    rw[Int.mul_neg,Int.natCast_add,Int.mul_add];simp;omega
   rw[this];omega
  have:r=0:=by omega
  subst this;simp[sv,Int.mul_neg];omega
 cases m
 ·have:=pos n;rw[oI,show(!(n==false))=n by cases n<;>rfl];exact this
 have:=pos n;rw[show sv true b=-(b:Int)from rfl,Int.ediv_neg,Int.emod_neg,this.1,this.2,show(!(n==true))= !n by cases n<;>rfl,La,La];refine⟨?_,Y⟩;split<;>rfl
theorem aiT{a b:Nat}(hba:b<=a)(tg:(can 4294967296 a).length<=10000000000):ff (can 4294967296 a) (can 4294967296 b)=some (g9 4294967296 (can 4294967296 a).length (a-b))/\vl (g9 4294967296 (can 4294967296 a).length (a-b))=a-b:=by
 have lc:=dw (B:=4294967296) η a;have hdl:(can 4294967296 b).length<=(can 4294967296 a).length:=(cL η).2 ξ;constructor
 ·rw[HJ _ _ (lz ξ) (lz ξ) hdl (by rw[iL,iL];exact hba),iL,iL]
 show val _ _=_;rw[sF,Nat.mod_eq_of_lt ξ]
def RE(i j:Int):Zr×Zr×Int:=if j=0 then(⟨false,[]⟩,⟨false,[]⟩,7)else(zn (i/j),zn (i%j),0)
theorem divMod_eq{x y:Zr}(hx:Wl x)(hy:Wl y):je x y=some (RE (zi x) (zi y)):=by
 obtain⟨n,w⟩:=x;obtain⟨m,u⟩:=y;unfold je;have hcx:(can 4294967296 (vl w)).length<=10000000000:=hx.cl;have hcy:(can 4294967296 (vl u)).length<=10000000000:=hy.cl;simp only[];rw[show bV w=some (can 4294967296 (vl w))from hx.trim,show bV u=some (can 4294967296 (vl u))from hy.trim,ct,ct,show zi ⟨n,w⟩=sv n (vl w)from Y,show zi ⟨m,u⟩=sv m (vl u)from rfl];simp only[ct,cX];generalize vl w=a at*;generalize vl u=b at*;by_cases h0:b=0
 ·subst h0;rw[show sv m 0=0 by cases m<;>rfl];rfl
 have Di:(can 4294967296 b).length≠0:=λh=>h0 (xV.1 h);rw[show decide (((can 4294967296 b).length:Int)=0)=false by simp;intro e;rw[e]at Di;exact Di Y,ja];obtain⟨q,r,U6,hq1,hq2,YA,hr2,hq3,hr3⟩:=HK a b hcx hcy h0;have hm:a%b<b:=Nat.mod_lt _ ξ;obtain⟨e1,e2⟩:=aar n m (a:=a) (show 0<b by omega);have hj:sv m b≠0:=by cases m<;>simp[sv]<;>omega
 rw[U6,ct];simp only[];rw[IZ r (by have:=YA.2;omega),oH η YA.1,show val 4294967296 r=a%b from hr2,ct,RE,if_neg hj,e1,e2];have Sh:(can 4294967296 (a%b)).length<=(can 4294967296 b).length:=(cL η).2 (Nat.lt_trans hm (dw η b));have hK:∀c:Bool,(decide (n=true/\0<a%b)=c)->(bif c then(iF q [1]).bind λvI=>(ff (can 4294967296 b) (can 4294967296 (a%b))).bind λry=>(dD (!(n==m)) vI).bind λx=>(dD false ry).bind λx_1=>some ((⟨x.neg,x.w⟩:Zr),(⟨x_1.neg,x_1.w⟩:Zr),(0:Int))
   else(dD (!(n==m)) q).bind λx=>(dD false (can 4294967296 (a%b))).bind λx_1=>some ((⟨x.neg,x.w⟩:Zr),(⟨x_1.neg,x_1.w⟩:Zr),(0:Int)))=
   some (zn (if n=true/\0<a%b then sv (!(n==m)) (a/b+1)else sv (!(n==m)) (a/b)),zn (if n=true/\0<a%b then((b-a%b:Nat):Int)else((a%b:Nat):Int)),0):=by
  intro c hc;cases c
  ·have hc':=of_decide_eq_false hc;rw[ja,if_neg hc',if_neg hc',pV _ _ hq1,ct,pV _ _ (lz ξ),ct,iL,hq2,xU,xU,oI]
  have hc':=of_decide_eq_true hc;obtain⟨s1,s2⟩:=aiT (a:=b) (b:=a%b) ξ hcy;have w1:OL [1]:=⟨by simp,by simp⟩;rw[iw,if_pos hc',if_pos hc',HI _ _ hq1 w1,ct,s1,ct,pV _ _ ⟨λx hx=>vQ η _ _ _ hx,by rw[cu];simp;omega⟩,ct,pV _ _ ⟨λx hx=>vQ η _ _ _ hx,by rw[cu];omega⟩,ct,s2,xU,xU,oI];have:vl (g9 4294967296 (max q.length [1].length+1) (vl q+vl [1]))=a/b+1:=by
   show val _ _=_;rw[sF,show vl [1]=1 by decide,hq2,Nat.mod_eq_of_lt];have h1:vl q<4294967296^q.length:=jK q hq1.1;rw[hq2]at h1;have h2:4294967296^q.length<=4294967296^(max q.length [1].length):=Nat.pow_le_pow_right η ξ;have h3:0<4294967296^(max q.length [1].length):=Nat.pow_pos η;rw[Nat.pow_succ];omega
  rw[this]
 have hz:(0<(can 4294967296 (a%b)).length)↔0<a%b:=by
  have:=xV (v:=a%b);omega
 cases n
 ·rw[ja,ct];exact hK false θ
 rw[iw,ct];refine hK _ ?_;simp only[true_and];by_cases h:0<a%b
 ·simp[h,hz.2 h]
 have h':¬0<(can 4294967296 (a%b)).length:=λe=>h (hz.1 e);have h'':¬((0:Int)<((can 4294967296 (a%b)).length:Int)):=by omega
 simp only[h,h'',decide_false]
theorem aiV{x y:Zr}(hx:Wl x)(hy:Wl y):qN x y=some (zn (Int.gcd (zi x) (zi y):Int)):=by
 obtain⟨n,w⟩:=x;obtain⟨m,u⟩:=y;unfold qN;have hcx:(can 4294967296 (vl w)).length<=10000000000:=hx.cl;have hcy:(can 4294967296 (vl u)).length<=10000000000:=hy.cl;simp only[];rw[show bV w=some (can 4294967296 (vl w))from hx.trim,show bV u=some (can 4294967296 (vl u))from hy.trim,ct,ct,Int.gcd,Cx,Cx];show _=some (zn ((Nat.gcd (vl w) (vl u):Nat):Int));generalize vl w=a at*;generalize vl u=b at*;refine iK (λs=>∃c d,s=(can 4294967296 c,can 4294967296 d)/\Nat.gcd c d=Nat.gcd a b/\(can 4294967296 c).length<=10000000000/\(can 4294967296 d).length<=10000000000)
  (λs=>∃c d,s=(can 4294967296 c,can 4294967296 d)/\Nat.gcd c d=Nat.gcd a b/\(can 4294967296 c).length<=10000000000/\(d=0\/(c<18446744073709551616/\d<18446744073709551616))) (λs=>vl s.2) ?_ ⟨a,b,Y,Y,hcx,hcy⟩ ?_
 ·rintro _ ⟨c,d,rfl,hg,hc,hd⟩;simp only[ct,cX];by_cases h0:d=0
  ·right;subst h0;exact⟨_,Y,c,0,Y,hg,hc,.inl Y⟩
  have Di:(can 4294967296 d).length≠0:=λh=>h0 (xV.1 h);rw[show decide ((0:Int)<((can 4294967296 d).length:Int))=true by simp;omega,iw];by_cases h2:c<18446744073709551616/\d<18446744073709551616
  ·right;have c1:=kq.2 h2.1;have c2:=kq.2 h2.2;rw[show decide ((2:Int)<((can 4294967296 c).length:Int))=false by simp;omega,ja,show decide ((2:Int)<((can 4294967296 d).length:Int))=false by simp;omega];exact⟨_,Y,c,d,Y,hg,hc,.inr h2⟩
  left;have hm:c%d<d:=Nat.mod_lt _ ξ;obtain⟨q,r,U6,hq1,hq2,YA,hr2,-,-⟩:=HK c d hc hd h0;have Ev:((bif decide ((2:Int)<((can 4294967296 c).length:Int))then some true else some (decide ((2:Int)<((can 4294967296 d).length:Int)))):Option Bool)=some true:=by
   by_cases Ph:c<18446744073709551616
   ·have hd2:¬d<18446744073709551616:=λh=>h2 ⟨Ph,h⟩;have:¬(((can 4294967296 d).length:Int)<=2):=λh=>hd2 (kq.1 h);rw[show decide ((2:Int)<((can 4294967296 d).length:Int))=true by simp;omega];exact FO _ _
   have:¬(((can 4294967296 c).length:Int)<=2):=λh=>Ph (kq.1 h);rw[show decide ((2:Int)<((can 4294967296 c).length:Int))=true by simp;omega,iw]
  rw[Ev,ct,ct,iw,U6,ct];simp only[];rw[IZ r (by have:=YA.2;omega),oH η YA.1,show val 4294967296 r=c%d from hr2,ct];refine⟨_,Y,⟨d,c%d,Y,?_,hd,?_⟩,?_⟩
  ·rw[<-hg,Nat.gcd_comm d,<-Nat.gcd_rec,Nat.gcd_comm]
  ·exact Nat.le_trans ((cL η).2 (Nat.lt_trans hm (dw η d))) hd
  simp only[iL];exact hm
 rintro _ ⟨c,d,rfl,hg,hc,aao⟩;simp only[ct];by_cases h0:d=0
 ·subst h0;rw[show decide (((can 4294967296 0).length:Int)=0)=true by simp[xT],iw,FM _ ξ,ct,pV _ _ (lz ξ),ct,iL,xU,oI,<-hg,Nat.gcd_zero_right]
 have h2:=aao.resolve_left h0;have Di:(can 4294967296 d).length≠0:=λh=>h0 (xV.1 h);have c1:=kq.2 h2.1;have c2:=kq.2 h2.2;rw[show decide (((can 4294967296 d).length:Int)=0)=false by simp;intro e;rw[e]at Di;exact Di Y,ja,low_eq _ (λ_ hx=>jz η hx) ξ,ct,low_eq _ (λ_ hx=>jz η hx) ξ,ct,iL,iL];refine iK (λs=>Nat.gcd s.1 s.2=Nat.gcd a b/\s.1<18446744073709551616/\s.2<18446744073709551616) (λe=>e=Nat.gcd a b/\e<18446744073709551616) (λs=>s.2) ?_ ⟨hg,h2.1,h2.2⟩ ?_
 ·rintro⟨s,t⟩ ⟨i1,i2,i3⟩;simp only at i1 i2 i3⊢;by_cases ht:0<t
  ·left;rw[show decide (0<t)=true by simp[ht],iw,IV ξ,ct];refine⟨_,Y,⟨?_,i3,?_⟩,Nat.mod_lt _ ht⟩
   ·rw[<-i1,Nat.gcd_comm t,<-Nat.gcd_rec,Nat.gcd_comm]
   exact Nat.lt_trans (Nat.mod_lt _ ht) i3
  right;rw[show decide (0<t)=false by simp[ht],ja];refine⟨_,Y,?_,i2⟩;rw[<-i1,show t=0 by omega,Nat.gcd_zero_right]
 rintro e ⟨rfl,he⟩;rw[z9 _ _ he,ct,xU,oI]
end
section
open Go.Fw
def zl(l:List Nat):List Int:=l.map (λ(n:Nat)=>(n:Int))
theorem gE(l:List Nat):(zl l).length=l.length:=by simp[zl]
theorem Ed{l:List Nat}{i x:Nat}(h:l[i]? =some x):(zl l)[i]? =some (x:Int):=by simp[zl,h]
theorem OP(l k:List Nat):zl (l++k)=zl l++zl k:=by simp[zl]
theorem TT(x:Nat):zl [x]=[(x:Int)]:=rfl
theorem ac9(l:List Nat)(n:Nat):(zl l).take n=zl (l.take n):=by simp[zl,List.map_take]
theorem aat(l:List Nat)(i x:Nat):(zl l).set i (x:Int)=zl (l.set i x):=by simp[zl,List.map_set]
def OQ(l:List Nat):Prop:=(∀x∈l,x<65536)/\l.length<=100000000000
abbrev jY(l:List Nat):Nat:=val 65536 l
theorem oJ(l:List Nat)(hl:l.length<=1000000000000):eG (zl l)=some (zl (oG l)):=by
 unfold eG;simp only[ct];refine iK (λy=>∃n:Nat,y=(n:Int)/\n<=l.length/\oG (l.take n)=oG l) (λy=>∃n:Nat,y=(n:Int)/\n<=l.length/\l.take n=oG l) (λy=>y.toNat) ?_ ⟨l.length,by rw[gE],Nat.le_refl _,by rw[List.take_length]⟩ ?_
 ·rintro _ ⟨n,rfl,hn,ht⟩;simp only[cX];rcases n with _|n
  ·right;refine⟨_,Y,0,Y,by omega,?_⟩;rw[<-ht];rfl
  have hi:∃x,l[n]? =some x:=⟨l[n],by simp⟩;obtain⟨x,hx⟩:=hi;have htk:l.take (n+1)=l.take n++[x]:=by
   rw[List.take_add_one,hx];rfl
  rw[show decide ((0:Int)<((n+1:Nat):Int))=true by rw[decide_eq_true_eq];omega,iw,KT ξ,bH (Ed hx),ct];by_cases h0:x=0
  ·left;subst h0;rw[show decide (((0:Nat):Int)=0)=true by simp,ct,iw];refine⟨_,Y,⟨n,Y,by omega,?_⟩,by omega⟩;rw[<-ht,htk,xS]
  right;rw[show decide (((x:Nat):Int)=0)=false by simp;omega,ct,ja];refine⟨_,Y,n+1,Y,hn,?_⟩;rw[<-ht,htk,AW _ h0]
 rintro _ ⟨n,rfl,hn,ht⟩;rw[z5 (by rw[gE];exact hn),ct,ac9,ht]
theorem HL{l:List Nat}(h:∀x∈l,x<65536)(i:Nat):gC (zl l) (i:Int)=some ((jY l/65536^i%65536:Nat):Int):=by
 unfold gC;simp only[ct];rw[gE];by_cases hi:i<l.length
 ·rw[show decide ((i:Int)<(l.length:Int))=true by simp[hi],iw,bH (Ed (qh h hi)),ct]
 rw[show decide ((i:Int)<(l.length:Int))=false by simp;omega,ja];have:jY l/65536^i=0:=Nat.div_eq_of_lt (Nat.lt_of_lt_of_le (jK l h) (Nat.pow_le_pow_right η ξ));rw[this];rfl
theorem TU(V k:Nat):g9 65536 (2*k) V++[V/4294967296^k%4294967296%65536,V/4294967296^k%4294967296/65536]=g9 65536 (2*(k+1)) V:=by
 have e:65536^(2*k)=4294967296^k:=by rw[Nat.pow_mul]
 rw[show 2*(k+1)=2*k+1+1 by omega,mE,mE,Nat.pow_succ,e,<-Nat.div_div_eq_div_mul,List.append_assoc];generalize V/4294967296^k=x;rw[show x%4294967296%65536=x%65536 by omega,show x%4294967296/65536=x/65536%65536 by omega];rfl
theorem Ws(w:List Nat)(hw:OL w):cZ w=some (zl (can 65536 (vl w))):=by
 obtain⟨hl,hn⟩:=hw;unfold cZ;refine bK (λi=>((i:Int),zl (g9 65536 (2*i) (vl w)))) w.length (zl (g9 65536 (2*w.length) (vl w))) ?_ (λk hk=>?_) ?_ ?_
 ·rfl
 ·have hg:=qh hl hk;have hlt:=Nat.mod_lt (val 4294967296 w/4294967296^k) (show 0<4294967296 by decide);have hv:=TU (vl w) k;simp only[ct];rw[show decide ((k:Int)<(w.length:Int))=true by simp[hk],iw,bH hg,ct,ct,kC ξ,kC ξ,aab η (by rw[gE,cu];simp;omega),ct,bQ ξ];rw[<-hv,OP];rw[show val 4294967296 w/4294967296^k%4294967296/65536%4294967296=val 4294967296 w/4294967296^k%4294967296/65536 by omega];rfl
 ·simp
 rw[oJ _ (by rw[cu];omega),ct,vC η];rw[Nat.pow_mul];exact jK w hl
theorem RF(k:Nat):65536^(2*k)=4294967296^k:=by rw[Nat.pow_mul]
theorem TV(v:Nat):can 4294967296 v=g9 4294967296 (((can 65536 v).length+1)/2) v:=by
 have h1:=dw (B:=65536) η v;obtain⟨n,hn⟩:∃n,(can 65536 v).length=n:=⟨_,Y⟩;rw[hn]at h1⊢;have h2:v<4294967296^((n+1)/2):=by
  rw[<-RF];exact Nat.lt_of_lt_of_le h1 (Nat.pow_le_pow_right η ξ)
 rw[UT η v];congr 1;have h3:=(cL (B:=4294967296) η).2 h2;refine Nat.le_antisymm h3 ?_;rcases n with _|n
 ·simp
 have h4:65536^n<=v:=zb η ξ;obtain⟨m,hm⟩:∃m,(n+1+1)/2=m+1:=⟨n/2,by omega⟩;rw[hm];rcases Nat.lt_or_ge m (can 4294967296 v).length with h|h
 ·exact h
 have h5:=(cL (B:=4294967296) η).1 h;rw[<-RF]at h5;have:65536^(2*m)<=65536^n:=Nat.pow_le_pow_right η ξ;omega
theorem of_eq(n:Bool)(l:List Nat)(hl:OQ l):dY n (zl l)=some (zc n (jY l)):=by
 obtain⟨h,hn⟩:=hl;unfold dY;rw[oJ _ ξ,ct,oH η h];have hc:(can 65536 (val 65536 l)).length<=l.length:=(cL η).2 (jK l h);show _=some (zc n (val 65536 l));generalize val 65536 l=v at*;have tg:∀x∈can 65536 v,x<65536:=λ_ hx=>jz η hx;have hat:=λi=>HL tg i;refine bK (λi=>(((2*i:Nat):Int),g9 4294967296 i v)) (((can 65536 v).length+1)/2) (can 4294967296 v) ?_ (λk hk=>?_) ?_ ?_
 ·rfl
 ·have a1:=hat (2*k);have a2:=hat (2*k+1);rw[show jY (can 65536 v)=v from pq η v]at a1 a2;rw[RF]at a1;rw[Nat.pow_succ,RF,<-Nat.div_div_eq_div_mul]at a2;simp only[ct];rw[gE,show decide (((2*k:Nat):Int)<((can 65536 v).length:Int))=true by simp;omega,iw,a1,ct,bQ ξ,a2,ct];rw[mE];have e:((((v/4294967296^k%65536:Nat):Int)%4294967296).toNat+(((v/4294967296^k/65536%65536:Nat):Int)%4294967296).toNat*65536%4294967296)%4294967296=v/4294967296^k%4294967296:=by
   generalize v/4294967296^k=x;omega
  rw[e,nh η (by rw[cu];omega),ct,show((2*k:Nat):Int)+2=((2*(k+1):Nat):Int) by omega,kC ξ]
 ·simp only[ct];rw[gE,show decide (((2*(((can 65536 v).length+1)/2):Nat):Int)<((can 65536 v).length:Int))=false by simp;omega,ja,<-TV]
 simp only[cX];rw[zc];have hz:=xV (v:=v);cases n
 ·rw[ja,ct];rfl
 rw[iw,ct,ct,ct];congr 2;by_cases h0:v=0
 ·rw[h0];rfl
 have:¬(can 4294967296 v).length=0:=λe=>h0 (hz.1 e);rw[show decide ((0:Int)<((can 4294967296 v).length:Int))=true by rw[decide_eq_true_eq];omega,show(true&&v != 0)=true by simp[h0]]
theorem vR(n:Bool)(v:Nat)(hl:(can 65536 v).length<=100000000000):dY n (zl (can 65536 v))=some (zn (sv n v)):=by
 rw[of_eq n _ ⟨λ_ hx=>jz η hx,hl⟩,show jY (can 65536 v)=v from pq η v,xU]
theorem Wt{w:List Nat}(hw:∀x∈w,x<4294967296):(can 65536 (vl w)).length<=2*w.length:=by
 apply(cL η).2;rw[RF];exact jK w hw
theorem jv{x:Zr}(h:Wl x):cZ x.w=some (zl (can 65536 (zi x).natAbs)):=by
 rw[Cx];exact Ws _ ⟨h.1,by have:=h.2;omega⟩
theorem Wl.Wu{x:Zr}(h:Wl x):(can 65536 (zi x).natAbs).length<=20000000000:=by
 rw[Cx];have:=Wt h.1;have:=h.2;omega
theorem RG{x:Zr}(h:Wl x):lH x=some (zn (zi x)):=by
 obtain⟨n,w⟩:=x;have h1:=jv h;have h2:=h.Wu;unfold lH;simp only[];rw[show cZ w=_ from h1,ct,vR _ _ ξ,ct,Cx];rfl
theorem U7{x y:Zr}(h:x.w.length<=100000000000):∃b,oY x y=some b/\(b=true↔x=y):=by
 obtain⟨n,w⟩:=x;obtain⟨m,u⟩:=y;unfold oY;simp only[ct,cX];by_cases hnm:n=m
 ·subst hnm;rw[show(!(n==n))=false by simp,ja,ct];by_cases hl:w.length=u.length
  ·rw[show decide ((w.length:Int)≠(u.length:Int))=false by simp[hl],ja];refine ni (λy=>∃i:Nat,y=(i:Int)/\i<=w.length/\w.take i=u.take i) (λe=>(∃c,e=.inl c/\w=u)\/(e=.inr false/\w≠u)) (λy=>w.length-y.toNat) ?_ ⟨0,Y,by omega,Y⟩ ?_
   ·rintro _ ⟨i,rfl,hi,ht⟩;by_cases hlt:i<w.length
    ·have g1:w[i]? =some w[i]:=by simp
     have g2:u[i]? =some (u[i]' ξ):=by simp
     rw[show decide ((i:Int)<(w.length:Int))=true by simp[hlt],iw,bH g1,ct,bH g2,ct];by_cases he:w[i]=u[i]' ξ
     ·left;rw[show decide (w[i]≠u[i]' ξ)=false by simp[he],ja,bQ (by simp at h;omega)];refine⟨_,Y,⟨i+1,Y,hlt,?_⟩,by omega⟩;rw[List.take_add_one,List.take_add_one,ht,g1,g2,he]
     right;rw[show decide (w[i]≠u[i]' ξ)=true by simp[he],iw];refine⟨_,Y,.inr ⟨Y,?_⟩⟩;rintro rfl;exact he rfl
    right;rw[show decide ((i:Int)<(w.length:Int))=false by simp;omega,ja];refine⟨_,Y,.inl ⟨_,Y,?_⟩⟩;rw[List.take_of_length_le ξ,List.take_of_length_le ξ]at ht;exact ht
   rintro e (⟨c,rfl,he⟩|⟨rfl,he⟩)
   ·exact⟨true,Y,by simp[he]⟩
   exact⟨false,Y,by simp[he]⟩
  rw[show decide ((w.length:Int)≠(u.length:Int))=true by simp;omega,iw];refine⟨_,Y,?_⟩;simp only[Bool.false_eq_true,false_iff];intro e;have:w=u:=congrArg Zr.w e;exact hl (by rw[this])
 rw[show(!(n==m))=true by simp[hnm],iw,ct,iw];refine⟨_,Y,?_⟩;simp only[Bool.false_eq_true,false_iff];intro e;exact hnm (congrArg Zr.neg e)
theorem from_eq{x:Int}(h:ia x):oZ x=some (zn x):=by
 unfold ia at h;have key:∀(v:Nat) (n:Bool),v<18446744073709551616->((lH ⟨n,[v%4294967296%4294967296,v/4294967296%18446744073709551616%4294967296]⟩).bind λx=>some (⟨x.neg,x.w⟩:Zr))=some (zn (sv n v)):=by
  intro v n hv;rw[RG ⟨by simp;omega,by simp⟩,ct];show some (zn (sv n (vl _)))=_;congr 3;simp only[vl,val];omega
 unfold oZ;simp only[ct,cX];by_cases hx:x<0
 ·have e:(x%18446744073709551616).toNat=18446744073709551616-x.natAbs:=by omega
  rw[show decide (x<0)=true by simp[hx],iw,e,FG ξ ξ,show 18446744073709551616+0-(18446744073709551616-x.natAbs)=x.natAbs by omega,key _ _ ξ,show sv true x.natAbs=x by simp[sv];omega]
 have e:(x%18446744073709551616).toNat=x.natAbs:=by omega
 rw[show decide (x<0)=false by simp[hx],ja,e,key _ _ ξ,show sv false x.natAbs=x by simp[sv];omega]
end
section
open Go.Fw
theorem p9(k:Nat):10^(9*(k+1))=10^(9*k)*1000000000:=by
 rw[show 9*(k+1)=9*k+9 by omega,Nat.pow_add]
end
section
open Go.Fw
def body(s:Str):Str:=if s.head?=some 45 then s.tail else s
def dv(s:Str):Nat:=s.foldl (λa c=>a*10+(c.toNat-48)) 0
def z0:Zr:=⟨false,[]⟩
end
section
open Go.Fw
theorem zeta'(z:Zr):(⟨z.neg,z.w⟩:Zr)=z:=by cases z;rfl
theorem MX{i:Int}(h:ia i):Fit 2 i:=Fit.i64 h.1 h.2
theorem aau{i:Int}(h:ia i):Wl (zn i):=gO (MX h) η
end
section
open Go.Fw
theorem ada(l:List Zr)(hl:l.length<=100):∃b,rZ l=some b/\(b=false->∀z∈l,z.w.length<=12):=by
 unfold rZ;simp only[ct];refine ni (λy=>∃i:Nat,y=(i:Int)/\i<=l.length/\∀z∈l.take i,z.w.length<=12) (λe=>(∃c,e=.inl c/\∀z∈l,z.w.length<=12)\/e=.inr true) (λy=>l.length-y.toNat) ?_ ⟨0,Y,by omega,by simp⟩ ?_
 ·rintro _ ⟨i,rfl,hi,ht⟩;by_cases hlt:i<l.length
  ·have g:l[i]? =some l[i]:=by simp
   rw[show decide ((i:Int)<(l.length:Int))=true by simp[hlt],iw,bH g,ct];by_cases fO:l[i].w.length<=12
   ·left;rw[show decide ((12:Int)<(l[i].w.length:Int))=false by rw[decide_eq_false_iff_not];omega,ja,bQ ξ];refine⟨_,Y,⟨i+1,Y,hlt,?_⟩,by omega⟩;rw[List.take_add_one,g];intro z hz;rcases List.mem_append.1 hz with h|h
    ·exact ht z h
    simp at h;rw[h];exact fO
   right;rw[show decide ((12:Int)<(l[i].w.length:Int))=true by rw[decide_eq_true_eq];omega,iw];exact⟨_,Y,.inr Y⟩
  right;rw[show decide ((i:Int)<(l.length:Int))=false by simp;omega,ja];rw[List.take_of_length_le ξ]at ht;exact⟨_,Y,.inl ⟨_,Y,ht⟩⟩
 rintro e (⟨c,rfl,he⟩|rfl)
 ·exact⟨false,Y,λ_=>he⟩
 exact⟨true,rfl,λh=>by cases h⟩
theorem aav(i j:Int):(i-j).sign=qF i j:=by
 rcases Int.lt_trichotomy i j with h|h|h
 ·rw[lX h,Int.sign_eq_neg_one_of_neg ξ]
 ·rw[h,wX,Int.sub_self];rfl
 rw[lY h,Int.sign_eq_one_of_pos ξ]
theorem Wv(i j:Int):IntKind.i64.wrap (0-qF j i)=qF i j:=by
 rcases Int.lt_trichotomy i j with h|h|h
 ·rw[lX h,lY h];rfl
 ·rw[h,wX];rfl
 rw[lY h,lX h];rfl
abbrev OkZ(z:Zr):Prop:=True/\(z.w.length<=9223372036854775807/\∀x∈z.w,x<4294967296)
end
section
open Go.Fw
def qd(q:Qr):Int:=if zi q.den=0 then 1 else zi q.den
def qv(q:Qr):Rat:=Rat.divInt (zi q.num) (qd q)
def qn(r:Rat):Qr:=⟨zn r.num,if r.den=1 then⟨false,[]⟩else zn (r.den:Int)⟩
def FQ(L:Nat)(r:Rat):Prop:=Fit L r.num/\Fit L (r.den:Int)
structure kO (L:Nat) (q:Qr) (r:Rat):Prop where
 n:∀x∈q.num.w,x<4294967296
 d:∀x∈q.den.w,x<4294967296
 ln:q.num.w.length<=L
 ld:q.den.w.length<=L
 l1:1<=L
 v:qv q=r
theorem amD(q:Qr):qd q≠0:=by
 unfold qd;by_cases h:zi q.den=0
 ·rw[if_pos h];decide
 rw[if_neg h];exact h
theorem amE(r:Rat):qv (qn r)=r:=by
 unfold qv qd qn;by_cases h:r.den=1
 ·rw[if_pos h];show Rat.divInt (zi (zn r.num)) (if zi ⟨false,[]⟩=0 then 1 else zi ⟨false,[]⟩)=r;rw[if_pos (show zi ⟨false,[]⟩=0 from rfl),gN];have:=Rat.num_divInt_den r;rw[h]at this;exact this
 rw[if_neg h];show Rat.divInt (zi (zn r.num)) (if zi (zn (r.den:Int))=0 then 1 else zi (zn (r.den:Int)))=r;have:=r.den_nz;rw[gN,gN,if_neg ξ,Rat.num_divInt_den]
theorem U8{w:List Nat}{n:Bool}{L:Nat}(h:∀x∈w,x<4294967296)(hl:w.length<=L):Fit L (zi ⟨n,w⟩):=by
 unfold Fit;rw[Cx];exact Nat.lt_of_lt_of_le (jK w h) (Nat.pow_le_pow_right η hl)
theorem CU{L:Nat}(h:1<=L):Fit L 1:=by
 unfold Fit;exact Nat.lt_of_lt_of_le (show(1:Int).natAbs<4294967296^1 by decide) (Nat.pow_le_pow_right η h)
theorem FQ.rep{L:Nat}{r:Rat}(h:FQ L r)(h1:1<=L):kO L (qn r) r:=by
 refine⟨λx hx=>jz η hx,?_,(cL η).2 h.1,?_,h1,amE r⟩
 ·unfold qn;by_cases e:r.den=1
  ·rw[if_pos e];simp
  rw[if_neg e];exact λx hx=>jz η hx
 unfold qn;by_cases e:r.den=1
 ·rw[if_pos e];simp
 rw[if_neg e];exact(cL η).2 h.2
theorem kO.wn{L:Nat}{q:Qr}{r:Rat}(h:kO L q r)(hL:L<=10000000000):Wl q.num:=⟨h.n,Nat.le_trans h.ln hL⟩
theorem kO.wd{L:Nat}{q:Qr}{r:Rat}(h:kO L q r)(hL:L<=10000000000):Wl q.den:=⟨h.d,Nat.le_trans h.ld hL⟩
theorem kO.fn{L:Nat}{q:Qr}{r:Rat}(h:kO L q r):Fit L (zi q.num):=U8 (n:=q.num.neg) h.n h.ln
theorem kO.fd{L:Nat}{q:Qr}{r:Rat}(h:kO L q r):Fit L (zi q.den):=U8 (n:=q.den.neg) h.d h.ld
theorem kO.fqd{L:Nat}{q:Qr}{r:Rat}(h:kO L q r):Fit L (qd q):=by
 unfold qd;by_cases e:zi q.den=0
 ·rw[if_pos e];exact CU h.l1
 rw[if_neg e];exact h.fd
theorem kO.mono{L M:Nat}{q:Qr}{r:Rat}(h:kO L q r)(hl:L<=M):kO M q r:=⟨h.n,h.d,Nat.le_trans h.ln hl,Nat.le_trans h.ld hl,Nat.le_trans h.l1 hl,h.v⟩
theorem FQ.mono{L M:Nat}{r:Rat}(h:FQ L r)(hl:L<=M):FQ M r:=⟨h.1.mono hl,h.2.mono hl⟩
theorem Ab{L:Nat}{a d:Int}(h0:d≠0)(ha:Fit L a)(hd:Fit L d):FQ L (Rat.divInt a d):=by
 generalize hr:Rat.divInt a d=r;obtain⟨n',d',z',c⟩:=r;obtain⟨m,hm,h1,h2⟩:=Rat.divInt_num_den h0 hr;have hm':0<m.natAbs:=Int.natAbs_pos.2 hm;refine⟨ha.le ?_,hd.le ?_⟩
 ·rw[h1,Int.natAbs_mul];exact Nat.le_mul_of_pos_right _ hm'
 rw[h2,Int.natAbs_mul];exact Nat.le_mul_of_pos_right _ hm'
theorem kO.fq{L:Nat}{q:Qr}{r:Rat}(h:kO L q r):FQ L r:=by rw[<-h.v];exact Ab (amD q) h.fn h.fqd
theorem CV(r:Rat):r=Rat.divInt r.num (r.den:Int):=(Rat.num_divInt_den r).symm
theorem ze(r:Rat):(r.den:Int)≠0:=by have:=r.den_nz;omega
theorem FQ.add{L M:Nat}{x y:Rat}(hx:FQ L x)(hy:FQ M y):FQ (L+M+1) (x+y):=by
 have e:x+y=Rat.divInt (x.num*y.den+y.num*x.den) (x.den*y.den):=by
  conv=>lhs;rw[CV x,CV y,Rat.divInt_add_divInt _ _ (ze x) (ze y)]
 rw[e];refine Ab (Int.mul_ne_zero (ze x) (ze y)) ?_ ?_
 ·exact(hx.1.mul hy.2).add (by rw[Nat.add_comm L M];exact hy.1.mul hx.2)
 exact(hx.2.mul hy.2).mono ξ
theorem FQ.sub{L M:Nat}{x y:Rat}(hx:FQ L x)(hy:FQ M y):FQ (L+M+1) (x-y):=by
 have e:x-y=Rat.divInt (x.num*y.den-y.num*x.den) (x.den*y.den):=by
  conv=>lhs;rw[CV x,CV y,Rat.divInt_sub_divInt _ _ (ze x) (ze y)]
 rw[e];refine Ab (Int.mul_ne_zero (ze x) (ze y)) ?_ ?_
 ·exact(hx.1.mul hy.2).sub (by rw[Nat.add_comm L M];exact hy.1.mul hx.2)
 exact(hx.2.mul hy.2).mono ξ
theorem FQ.mul{L M:Nat}{x y:Rat}(hx:FQ L x)(hy:FQ M y):FQ (L+M) (x*y):=by
 have e:x*y=Rat.divInt (x.num*y.num) (x.den*y.den):=by
  conv=>lhs;rw[CV x,CV y,Rat.divInt_mul_divInt]
 rw[e];exact Ab (Int.mul_ne_zero (ze x) (ze y)) (hx.1.mul hy.1) (hx.2.mul hy.2)
theorem FQ.neg{L:Nat}{x:Rat}(hx:FQ L x):FQ L (-x):=⟨hx.1.neg,hx.2⟩
theorem FQ.inv{L:Nat}{x:Rat}(hx:FQ L x)(h:x≠0):FQ L x⁻¹:=by
 have hn:x.num≠0:=λe=>h (Rat.num_eq_zero.1 e);rw[Rat.inv_def];exact Ab hn hx.2 hx.1
theorem FQ.div{L M:Nat}{x y:Rat}(hx:FQ L x)(hy:FQ M y)(h:y≠0):FQ (L+M) (x/y):=by rw[Rat.div_def];exact hx.mul (hy.inv h)
theorem FQ.int{L:Nat}{i:Int}(h:Fit L i)(h1:1<=L):FQ L (i:Rat):=⟨h,CU h1⟩
def pW(x y:Rat):Int:=if x<y then-1 else if x=y then 0 else 1
theorem Ww(x:Rat):pW x x=0:=by unfold pW;rw[if_neg Rat.lt_irrefl,if_pos rfl]
theorem Wx{a b c d:Int}(hb:0<b)(hd:0<d):Rat.divInt a b<Rat.divInt c d↔a*d<c*b:=by
 have hb':(0:Rat)<(b:Rat):=Rat.intCast_pos.2 hb;have hd':(0:Rat)<(d:Rat):=Rat.intCast_pos.2 hd;rw[Rat.divInt_eq_div,Rat.divInt_eq_div,Rat.div_lt_iff hb',Rat.div_def,Rat.mul_assoc,Rat.mul_comm (d:Rat)⁻¹,<-Rat.mul_assoc,<-Rat.div_def,Rat.lt_div_iff hd',<-Rat.intCast_mul,<-Rat.intCast_mul,Rat.intCast_lt_intCast]
theorem RH{a b c d:Int}(hb:0<b)(hd:0<d):pW (Rat.divInt a b) (Rat.divInt c d)=qF (a*d) (c*b):=by
 unfold pW qF;have e1:=Wx (a:=a) (c:=c) hb hd;have e2:=Rat.divInt_eq_divInt_iff (n₁:=a) (d₁:=b) (n₂:=c) (d₂:=d) ξ ξ;by_cases h1:a*d<c*b
 ·rw[if_pos (e1.2 h1),if_pos h1]
 rw[if_neg (λh=>h1 (e1.1 h)),if_neg h1];by_cases h2:a*d=c*b
 ·rw[if_pos (e2.2 h2),if_pos h2]
 rw[if_neg (λh=>h2 (e2.1 h)),if_neg h2]
theorem yL{a b:Int}(hb:0<b):a.sign=pW (Rat.divInt a b) 0:=by
 have:(0:Rat)=Rat.divInt 0 1:=rfl;rw[this,RH hb η,Int.mul_one,Int.zero_mul,<-aav,Int.sub_zero]
theorem GY{a d:Int}(hd:0<d):qn (Rat.divInt a d)=⟨zn (a/(Int.gcd a d:Int)),if d/(Int.gcd a d:Int)=1 then⟨false,[]⟩else zn (d/(Int.gcd a d:Int))⟩:=by
 have h1:(Rat.divInt a d).num=a/(Int.gcd a d:Int):=by rw[Rat.num_divInt,Int.sign_eq_one_of_pos hd,Int.one_mul,Int.gcd_comm]
 have h2:((Rat.divInt a d).den:Int)=d/(Int.gcd a d:Int):=by
  rw[Rat.den_divInt,if_neg ξ,Int.gcd_comm];have:(d.natAbs:Int)=d:=by omega
  rw[Int.natCast_ediv,this]
 unfold qn;rw[h1,h2];by_cases e:(Rat.divInt a d).den=1
 ·rw[if_pos e,if_pos ξ]
 rw[if_neg e,if_neg ξ]
theorem adb(k:Int):((bif(Cy k).2 then some (decide ((Cy k).1=1))else some false):Option Bool)=some (decide (k=1)):=by
 by_cases h:ia k
 ·rw[nA h];rfl
 rw[xX h];have:¬k=1:=by rintro rfl;exact h η
 rw[decide_eq_false this];rfl
theorem Lc{n d:Zr}(hn:Wl n)(hd:Wl d)(h:0<zi d):((qN n d).bind λg=>(je n g).bind λa=>(je d g).bind λb=>(fE b.1).bind λc=>
  (bif c.2 then some (decide (c.1=1))else some false).bind λe=>bif e then some (⟨a.1,⟨false,[]⟩⟩:Qr)else some ⟨a.1,b.1⟩)=some (qn (Rat.divInt (zi n) (zi d))):=by
 have g0:(Int.gcd (zi n) (zi d):Int)≠0:=by
  have:0<Int.gcd (zi n) (zi d):=Int.gcd_pos_of_ne_zero_right _ ξ;omega
 have wg:Wl (zn (Int.gcd (zi n) (zi d):Int)):=gO ((Wl.fit hd).le (by
  have:=Nat.le_of_dvd (Int.natAbs_pos.2 (show zi d≠0 by omega)) (Int.gcd_dvd_natAbs_right (zi n) (zi d));simpa using this)) hd.2
 have wq:Wl (zn (zi d/(Int.gcd (zi n) (zi d):Int))):=gO ((Wl.fit hd).le (Int.natAbs_ediv_le_natAbs _ _)) hd.2;rw[aiV hn hd,ct,divMod_eq hn wg,ct,divMod_eq hd wg,ct,gN,RE,if_neg g0,RE,if_neg g0];simp only[];rw[xW wq,ct,gN,adb,ct,GY h];by_cases e:zi d/(Int.gcd (zi n) (zi d):Int)=1
 ·rw[decide_eq_true e,iw,if_pos e]
 rw[decide_eq_false e,ja,if_neg e]
theorem reduce_eq{x y:Zr}(hx:Wl x)(hy:Wl y)(h0:zi y≠0):iQ x y=some (qn (Rat.divInt (zi x) (zi y))):=by
 unfold iQ;simp only[cX,ct,zeta',sign_eq hy];by_cases h:zi y<0
 ·rw[show decide ((zi y).sign<0)=true by rw[Int.sign_eq_neg_one_of_neg h];rfl,iw,neg_eq hx,ct,neg_eq hy,ct];have hp:=Lc (gO (Wl.fit hx).neg hx.2) (gO (Wl.fit hy).neg hy.2) (by rw[gN];omega);rw[gN,gN,Rat.neg_divInt_neg]at hp;exact hp
 rw[show decide ((zi y).sign<0)=false by rw[Int.sign_eq_one_of_pos ξ];rfl,ja];exact Lc hx hy ξ
end
section
open Go.Fw
theorem sH(q:Qr):(⟨⟨q.num.neg,q.num.w⟩,⟨q.den.neg,q.den.w⟩⟩:Qr)=q:=by cases q;rfl
theorem pX(q:Qr):(⟨q.num,q.den⟩:Qr)=q:=by cases q;rfl
theorem parts_eq{L:Nat}{q:Qr}{r:Rat}(h:kO L q r)(hL:L<=10000000000):∃n d:Zr,eE q=some (n,d)/\Wl n/\Wl d/\0<zi d/\Rat.divInt (zi n) (zi d)=r/\Fit L (zi n)/\Fit L (zi d):=by
 have wn:=h.wn hL;have wd:=h.wd hL;have hv:=h.v;unfold eE;simp only[zeta',ct,sign_eq wd,uf (x:=1) η η,neg_eq wn,neg_eq wd];unfold qv qd at hv;rcases Int.lt_trichotomy (zi q.den) 0 with h1|h1|h1
 ·refine⟨_,_,?_,gO h.fn.neg hL,gO h.fd.neg hL,by rw[gN];omega,?_,by rw[gN];exact h.fn.neg,by rw[gN];exact h.fd.neg⟩
  ·rw[Int.sign_eq_neg_one_of_neg h1];rfl
  rw[gN,gN,Rat.neg_divInt_neg,<-hv,if_neg ξ]
 ·refine⟨_,_,?_,wn,gO (CU h.l1) hL,by rw[gN];decide,?_,h.fn,by rw[gN];exact CU h.l1⟩
  ·rw[h1];rfl
  rw[gN,<-hv,if_pos h1]
 refine⟨_,_,?_,wn,wd,h1,?_,h.fn,h.fd⟩
 ·rw[Int.sign_eq_one_of_pos h1];rfl
 rw[<-hv,if_neg ξ]
def Sm(a:Int):Prop:=-2147483648<a/\a<2147483648
theorem Sm.ok{a:Int}(h:Sm a):ia a:=by unfold Sm at h;unfold ia;omega
theorem sI{L:Nat}{q:Qr}{r:Rat}(h:kO L q r)(hL:L<=10000000000):∃a b c,fH q=some (a,b,c)/\(c=true->Sm a/\0<b/\Sm b/\Rat.divInt a b=r):=by
 have wn:=h.wn hL;have wd:=h.wd hL;have hv:=h.v;unfold fH;simp only[zeta',ct,cX,xW wn,xW wd];unfold qv qd at hv;generalize zi q.num=n at*;generalize zi q.den=d at*;by_cases hs:Sm n/\Sm d
 ·obtain⟨h1,h2⟩:=hs;rw[nA h1.ok,nA h2.ok];unfold Sm at h1 h2;simp only[];rw[decide_eq_false (show ¬n<=-2147483648 by omega),decide_eq_false (show ¬2147483648<=n by omega),decide_eq_false (show ¬d<=-2147483648 by omega),decide_eq_false (show ¬2147483648<=d by omega)];simp only[Bool.not_true,ja,ct];by_cases h0:d=0
  ·rw[decide_eq_true h0,iw];refine⟨_,_,_,Y,λ_=>⟨h1,by decide,⟨by decide,by decide⟩,?_⟩⟩;rw[<-hv,if_pos h0]
  rw[decide_eq_false h0,ja];rw[if_neg h0]at hv;by_cases hneg:d<0
  ·rw[decide_eq_true hneg,iw,cQ ξ ξ,cQ ξ ξ];refine⟨_,_,_,Y,λ_=>⟨⟨by omega,by omega⟩,by omega,⟨by omega,by omega⟩,?_⟩⟩;rw[Int.zero_sub,Int.zero_sub,Rat.neg_divInt_neg,hv]
  rw[decide_eq_false hneg,ja];exact⟨_,_,_,Y,λ_=>⟨h1,by omega,h2,hv⟩⟩
 refine⟨0,0,false,?_,λe=>by cases e⟩;by_cases o1:ia n
 ·by_cases o2:ia d
  ·rw[nA o1,nA o2];simp only[Bool.not_true,ja,ct];unfold Sm at hs;by_cases c1:n<=-2147483648
   ·rw[decide_eq_true c1];simp only[ct,iw]
   rw[decide_eq_false c1];simp only[ct,ja];by_cases c2:2147483648<=n
   ·rw[decide_eq_true c2];simp only[ct,iw]
   rw[decide_eq_false c2];simp only[ct,ja];by_cases c3:d<=-2147483648
   ·rw[decide_eq_true c3];simp only[ct,iw]
   rw[decide_eq_false c3];simp only[ct,ja];rw[decide_eq_true (show 2147483648<=d by omega)];simp only[iw]
  rw[nA o1,xX o2];simp only[Bool.not_true,Bool.not_false,ja,ct,iw]
 rw[xX o1];simp only[Bool.not_false,ct,iw]
theorem RI{a g:Int}(hg:0<g)(h:g∣a):Int.tdiv a g=a/g:=by
 obtain⟨k,rfl⟩:=h;rw[Int.mul_tdiv_cancel_left _ ξ,Int.mul_ediv_cancel_left _ ξ]
theorem Ad{n d:Int}(hd:0<d)(hd':d<=9223372036854775807)(hn: -9223372036854775807<=n)(hn':n<=9223372036854775807):iT n d=some (qn (Rat.divInt n d)):=by
 unfold iT;simp only[ct,cX];refine iK (λs=>Int.gcd s.1 s.2=Int.gcd n d/\s.1.natAbs<=9223372036854775807/\s.2.natAbs<=9223372036854775807) (λe=>e.natAbs=Int.gcd n d/\e.natAbs<=9223372036854775807) (λs=>s.2.natAbs) ?_ ⟨Y,by simp only[];omega,by simp only[];omega⟩ ?_
 ·rintro⟨a,b⟩ ⟨i1,i2,i3⟩;simp only at i1 i2 i3⊢;by_cases hb:b=0
  ·right;subst hb;refine⟨a,by simp,?_,i2⟩;rw[<-i1];simp[Int.gcd]
  left;rw[decide_eq_true hb,iw,LG,if_neg hb,ct];have hm:(Int.tmod a b).natAbs=a.natAbs%b.natAbs:=Int.natAbs_tmod a b;have hlt:=Nat.mod_lt a.natAbs (Int.natAbs_pos.2 hb);refine⟨_,Y,⟨?_,i3,by simp only[];omega⟩,by simp only[];omega⟩;simp only[];rw[<-i1,Int.gcd,Int.gcd,hm,Nat.gcd_comm b.natAbs,<-Nat.gcd_rec,Nat.gcd_comm]
 rintro e ⟨he,hle⟩;obtain⟨g,hg⟩:∃g:Int,(Int.gcd n d:Int)=g:=⟨_,Y⟩;have hgp:0<g:=by have:=Int.gcd_pos_of_ne_zero_right n (show d≠0 by omega);omega
 have hgn:g∣n:=hg▸Int.gcd_dvd_left ..;have hgd:g∣d:=hg▸Int.gcd_dvd_right ..;have hK:∀m:Int,m=g->(bif decide (m=d)then(Bl n m).bind λiv=>(c8 iv).bind λx=>some (⟨⟨x.neg,x.w⟩,⟨false,[]⟩⟩:Qr)else(Bl n m).bind λjd=>(c8 jd).bind λx=>(Bl d m).bind λpz=>(c8 pz).bind λy=>some ⟨⟨x.neg,x.w⟩,⟨y.neg,y.w⟩⟩)=some (qn (Rat.divInt n d)):=by
  rintro m rfl;have b1:(n/m).natAbs<=n.natAbs:=Int.natAbs_ediv_le_natAbs _ _;have b2:(d/m).natAbs<=d.natAbs:=Int.natAbs_ediv_le_natAbs _ _;have q1:Bl n m=some (n/m):=by
   rw[Bl,if_neg ξ,RI hgp hgn,cQ ξ ξ]
  have q2:Bl d m=some (d/m):=by
   rw[Bl,if_neg ξ,RI hgp hgd,cQ ξ ξ]
  rw[GY hd,hg,q1,q2];simp only[ct,uf (x:=n/m) ξ ξ,uf (x:=d/m) ξ ξ,zeta'];by_cases e1:m=d
  ·rw[decide_eq_true e1,iw,if_pos (by rw[e1];exact Int.ediv_self ξ)]
  rw[decide_eq_false e1,ja,if_neg];intro e2;have:=Int.ediv_mul_cancel hgd;rw[e2]at this;omega
 by_cases hneg:e<0
 ·rw[decide_eq_true hneg,iw,cQ ξ ξ];exact hK _ ξ
 rw[decide_eq_false hneg,ja];exact hK _ ξ
theorem nI{a b:Int}(ha:Sm a)(hb:Sm b): -4611686018427387904<a*b/\a*b<4611686018427387904:=by
 unfold Sm at ha hb;have h1:(a*b).natAbs=a.natAbs*b.natAbs:=Int.natAbs_mul a b;have h2:a.natAbs*b.natAbs<=2147483647*2147483647:=Nat.mul_le_mul ξ ξ;omega
theorem yM{a b:Int}(ha:0<a)(hb:0<b):0<a*b:=Int.mul_pos ha hb
section ops
variable {L M:Nat}{a b:Qr}{x y:Rat}
theorem kO.add(ha:kO L a x)(hb:kO M b y)(h:L+M<=4000000000):xm a b=some (qn (x+y))/\kO (L+M+1) (qn (x+y)) (x+y):=by
 refine⟨?_,(ha.fq.add hb.fq).rep ξ⟩;obtain⟨n1,d1,c1,e1,k1⟩:=sI ha ξ;obtain⟨n2,d2,c2,e2,k2⟩:=sI hb ξ;obtain⟨p1,q1,f1,w1,w2,g1,v1,t1,t2⟩:=parts_eq ha ξ;obtain⟨p2,q2,f2,w3,w4,g2,v2,t3,t4⟩:=parts_eq hb ξ;have Ld:og a b=some (qn (x+y)):=by
  unfold og lP;have u1:=gO (t1.mul t4) ξ;have u2:=gO (t3.mul t2) ξ;have u3:=gO (t2.mul t4) ξ;have u4:=gO ((t1.mul t4).add ((t3.mul t2).mono ξ)) ξ;simp only[zeta',sH,pX,f1,f2,ct,mul_eq w1 w4,mul_eq w3 w2,add_eq u1 u2,mul_eq w2 w4,gN];rw[reduce_eq u4 u3 (by rw[gN];have:=yM g1 g2;omega),ct,gN,gN,<-v1,<-v2,Rat.divInt_add_divInt _ _ ξ ξ]
 unfold xm;simp only[zeta',sH,pX,e1,e2,ct,cX,Ld];cases c1
 ·rw[ja,ct,ja]
 cases c2
 ·rw[iw,ct,ja]
 obtain⟨s1,s2,s3,s4⟩:=k1 Y;obtain⟨s5,s6,s7,s8⟩:=k2 Y;have m1:=nI s1 s7;have m2:=nI s5 s3;have m3:=nI s3 s7;have m4:=yM s2 s6;rw[iw,ct,iw,cQ (x:=n1*d2) ξ ξ,cQ (x:=n2*d1) ξ ξ,cQ (x:=d1*d2) ξ ξ,cQ ξ ξ,Ad m4 ξ ξ ξ,ct,<-s4,<-s8,Rat.divInt_add_divInt _ _ ξ ξ]
theorem kO.sub(ha:kO L a x)(hb:kO M b y)(h:L+M<=4000000000):xn a b=some (qn (x-y))/\kO (L+M+1) (qn (x-y)) (x-y):=by
 refine⟨?_,(ha.fq.sub hb.fq).rep ξ⟩;obtain⟨n1,d1,c1,e1,k1⟩:=sI ha ξ;obtain⟨n2,d2,c2,e2,k2⟩:=sI hb ξ;obtain⟨p1,q1,f1,w1,w2,g1,v1,t1,t2⟩:=parts_eq ha ξ;obtain⟨p2,q2,f2,w3,w4,g2,v2,t3,t4⟩:=parts_eq hb ξ;have Ld:oq a b=some (qn (x-y)):=by
  unfold oq lQ;have u1:=gO (t1.mul t4) ξ;have u2:=gO (t3.mul t2) ξ;have u3:=gO (t2.mul t4) ξ;have u4:=gO ((t1.mul t4).sub ((t3.mul t2).mono ξ)) ξ;simp only[zeta',sH,pX,f1,f2,ct,mul_eq w1 w4,mul_eq w3 w2,sub_eq u1 u2,mul_eq w2 w4,gN];rw[reduce_eq u4 u3 (by rw[gN];have:=yM g1 g2;omega),ct,gN,gN,<-v1,<-v2,Rat.divInt_sub_divInt _ _ ξ ξ]
 unfold xn;simp only[zeta',sH,pX,e1,e2,ct,cX,Ld];cases c1
 ·rw[ja,ct,ja]
 cases c2
 ·rw[iw,ct,ja]
 obtain⟨s1,s2,s3,s4⟩:=k1 Y;obtain⟨s5,s6,s7,s8⟩:=k2 Y;have m1:=nI s1 s7;have m2:=nI s5 s3;have m3:=nI s3 s7;have m4:=yM s2 s6;rw[iw,ct,iw,cQ (x:=n1*d2) ξ ξ,cQ (x:=n2*d1) ξ ξ,cQ (x:=d1*d2) ξ ξ,cQ ξ ξ,Ad m4 ξ ξ ξ,ct,<-s4,<-s8,Rat.divInt_sub_divInt _ _ ξ ξ]
theorem kO.mul(ha:kO L a x)(hb:kO M b y)(h:L+M<=4000000000):tK a b=some (qn (x*y))/\kO (L+M) (qn (x*y)) (x*y):=by
 have l1:=ha.l1;refine⟨?_,(ha.fq.mul hb.fq).rep ξ⟩;obtain⟨n1,d1,c1,e1,k1⟩:=sI ha ξ;obtain⟨n2,d2,c2,e2,k2⟩:=sI hb ξ;obtain⟨p1,q1,f1,w1,w2,g1,v1,t1,t2⟩:=parts_eq ha ξ;obtain⟨p2,q2,f2,w3,w4,g2,v2,t3,t4⟩:=parts_eq hb ξ;have Ld:ot a b=some (qn (x*y)):=by
  unfold ot lS;have u1:=gO (t1.mul t3) ξ;have u3:=gO (t2.mul t4) ξ;simp only[zeta',sH,pX,f1,f2,ct,mul_eq w1 w3,mul_eq w2 w4];rw[reduce_eq u1 u3 (by rw[gN];have:=yM g1 g2;omega),ct,gN,gN,<-v1,<-v2,Rat.divInt_mul_divInt]
 unfold tK;simp only[zeta',sH,pX,e1,e2,ct,cX,Ld];cases c1
 ·rw[ja,ct,ja]
 cases c2
 ·rw[iw,ct,ja]
 obtain⟨s1,s2,s3,s4⟩:=k1 Y;obtain⟨s5,s6,s7,s8⟩:=k2 Y;have m1:=nI s1 s5;have m3:=nI s3 s7;have m4:=yM s2 s6;rw[iw,ct,iw,cQ ξ ξ,cQ (x:=d1*d2) ξ ξ,Ad m4 ξ ξ ξ,ct,<-s4,<-s8,Rat.divInt_mul_divInt]
theorem kO.sign(ha:kO L a x)(h:L<=10000000000):kT a=some (pW x 0):=by
 unfold kT;have wn:=ha.wn h;have wd:=ha.wd h;have hv:=ha.v;simp only[zeta',ct,sign_eq wn,sign_eq wd];unfold qv qd at hv;rcases Int.lt_trichotomy (zi a.den) 0 with h1|h1|h1
 ·rw[Int.sign_eq_neg_one_of_neg h1];rw[if_neg ξ,<-Rat.neg_divInt_neg]at hv;rw[<-hv,<-yL ξ,Int.sign_neg];show some (IntKind.i64.wrap (0-(zi a.num).sign))=_;have:(zi a.num).sign=-1\/(zi a.num).sign=0\/(zi a.num).sign=1:=by
   rcases Int.lt_trichotomy (zi a.num) 0 with e|e|e
   ·left;exact Int.sign_eq_neg_one_of_neg e
   ·right;left;rw[e];rfl
   right;right;exact Int.sign_eq_one_of_pos e
  rw[cQ ξ ξ,Int.zero_sub]
 ·rw[if_pos h1]at hv;rw[<-hv,<-yL ξ,h1];rfl
 rw[if_neg ξ]at hv;rw[Int.sign_eq_one_of_pos h1,<-hv,<-yL h1];rfl
theorem nJ{x:Rat}:pW x 0=0↔x=0:=by
 unfold pW;by_cases h:x<0
 ·rw[if_pos h];refine⟨λe=>absurd e η,λe=>?_⟩;rw[e]at h;exact absurd h Rat.lt_irrefl
 rw[if_neg h];by_cases h2:x=0
 ·rw[if_pos h2];simp[h2]
 rw[if_neg h2];simp[h2]
theorem kO.div(ha:kO L a x)(hb:kO M b y)(h:L+M<=4000000000)(h0:y≠0):xo a b=some (qn (x/y),0)/\kO (L+M) (qn (x/y)) (x/y):=by
 have l1:=ha.l1;refine⟨?_,(ha.fq.div hb.fq h0).rep ξ⟩;obtain⟨n1,d1,c1,e1,k1⟩:=sI ha ξ;obtain⟨n2,d2,c2,e2,k2⟩:=sI hb ξ;obtain⟨p1,q1,f1,w1,w2,g1,v1,t1,t2⟩:=parts_eq ha ξ;obtain⟨p2,q2,f2,w3,w4,g2,v2,t3,t4⟩:=parts_eq hb ξ;have hdiv:∀a b c d:Int,Rat.divInt a b/Rat.divInt c d=Rat.divInt (a*d) (b*c):=λa b c d=>by rw[Rat.div_def,Rat.inv_divInt,Rat.divInt_mul_divInt]
 have hnz:∀a b:Int,Rat.divInt a b=y->a≠0:=λa b e e'=>h0 (by rw[<-e,e',Rat.zero_divInt]);have Ld:mm a b=some (qn (x/y)):=by
  unfold mm lT;have u1:=gO (t1.mul t4) ξ;have u3:=gO (t2.mul t3) ξ;simp only[zeta',sH,pX,f1,f2,ct,mul_eq w1 w4,mul_eq w2 w3];rw[reduce_eq u1 u3 (by rw[gN];exact Int.mul_ne_zero ξ (hnz _ _ v2)),ct,gN,gN,<-v1,<-v2,hdiv]
 unfold xo;simp only[zeta',sH,pX,hb.sign ξ,e1,e2,ct,cX,Ld];rw[decide_eq_false (λe=>h0 (nJ.1 e)),ja];cases c1
 ·rw[ja,ct,ja]
 cases c2
 ·rw[iw,ct,ja]
 obtain⟨s1,s2,s3,s4⟩:=k1 Y;obtain⟨s5,s6,s7,s8⟩:=k2 Y;have hn2:=hnz _ _ s8;have m1:=nI s1 s7;have m3:=nI s3 s5;rw[iw,ct,iw];unfold Sm at s1 s3 s5 s7;by_cases hneg:n2<0
 ·have m4:=yM s2 (show 0< -n2 by omega);have m5:(-n1)*d2=-(n1*d2):=Int.neg_mul _ _;have m6:d1*(-n2)=-(d1*n2):=Int.mul_neg _ _;rw[decide_eq_true hneg,iw,cQ (x:=0-n1) ξ ξ,cQ (x:=0-n2) ξ ξ,Int.zero_sub,Int.zero_sub,cQ ξ ξ,cQ ξ ξ,Ad m4 ξ ξ ξ,ct,m5,m6,Rat.neg_divInt_neg,<-s4,<-s8,hdiv]
 have m4:=yM s2 (show 0<n2 by omega);rw[decide_eq_false hneg,ja,cQ ξ ξ,cQ ξ ξ,Ad m4 ξ ξ ξ,ct,<-s4,<-s8,hdiv]
theorem kO.canon(ha:kO L a x)(h:L<=10000000000):dV a=some (qn x)/\kO L (qn x) x:=by
 refine⟨?_,ha.fq.rep ha.l1⟩;obtain⟨n1,d1,c1,e1,k1⟩:=sI ha ξ;obtain⟨p1,q1,f1,w1,w2,g1,v1,t1,t2⟩:=parts_eq ha ξ;unfold dV;simp only[zeta',sH,pX,e1,ct,f1];cases c1
 ·rw[ja,reduce_eq w1 w2 ξ,ct,v1]
 obtain⟨s1,s2,s3,s4⟩:=k1 Y;unfold Sm at s1 s3;rw[iw,Ad s2 ξ ξ ξ,ct,s4]
end ops
end
section
open Go.Fw
theorem MY{p q u v:Int}(hq:0<q)(hv:0<v)(h:p.sign≠u.sign\/p.sign=0):yu (IntKind.i64.wrap (p.sign-u.sign))=some (qF (p*v) (u*q)):=by
 have pv:0<p->0<p*v:=λh=>Int.mul_pos h hv;have pv':p<0->p*v<0:=λh=>Int.mul_neg_of_neg_of_pos h hv;have uq:0<u->0<u*q:=λh=>Int.mul_pos h hq;have uq':u<0->u*q<0:=λh=>Int.mul_neg_of_neg_of_pos h hq;rcases Int.lt_trichotomy p 0 with e1|e1|e1<;>rcases Int.lt_trichotomy u 0 with e2|e2|e2
 ·rw[Int.sign_eq_neg_one_of_neg e1,Int.sign_eq_neg_one_of_neg e2]at h;simp at h
 ·have:=pv' e1;rw[Int.sign_eq_neg_one_of_neg e1,e2,Int.zero_mul,lX this];rfl
 ·have:=pv' e1;have:=uq e2;rw[Int.sign_eq_neg_one_of_neg e1,Int.sign_eq_one_of_pos e2,lX ξ];rfl
 ·have:=uq' e2;rw[Int.sign_eq_neg_one_of_neg e2,e1,Int.zero_mul,lY this];rfl
 ·rw[e1,e2,Int.zero_mul,Int.zero_mul];rfl
 ·have:=uq e2;rw[Int.sign_eq_one_of_pos e2,e1,Int.zero_mul,lX this];rfl
 ·have:=pv e1;have:=uq' e2;rw[Int.sign_eq_one_of_pos e1,Int.sign_eq_neg_one_of_neg e2,lY ξ];rfl
 ·have:=pv e1;rw[Int.sign_eq_one_of_pos e1,e2,Int.zero_mul,lY this];rfl
 rw[Int.sign_eq_one_of_pos e1,Int.sign_eq_one_of_pos e2]at h;simp at h
theorem aaw{x y:Rat}:pW x y=0↔x=y:=by
 unfold pW;by_cases h:x<y
 ·rw[if_pos h];refine⟨λe=>absurd e η,λe=>?_⟩;rw[e]at h;exact absurd h Rat.lt_irrefl
 rw[if_neg h];by_cases h2:x=y
 ·rw[if_pos h2];simp[h2]
 rw[if_neg h2];simp[h2]
theorem FP{x y:Rat}:pW x y<0↔x<y:=by
 unfold pW;by_cases h:x<y
 ·rw[if_pos h];simp[h]
 rw[if_neg h];by_cases h2:x=y
 ·rw[if_pos h2];simp[h2,Rat.lt_irrefl]
 rw[if_neg h2];simp[h]
theorem aax(i:Int):qn (i:Rat)=⟨zn i,⟨false,[]⟩⟩:=by
 unfold qn;rw[Rat.den_intCast,if_pos Y,Rat.num_intCast]
section ops
variable {L M:Nat}{a b:Qr}{x y:Rat}
theorem kO.neg(ha:kO L a x)(h:L<=10000000000):tL a=some (qn (-x))/\kO L (qn (-x)) (-x):=by
 refine⟨?_,ha.fq.neg.rep ha.l1⟩;unfold tL;have r:=(ha.canon h).2;simp only[zeta',sH,pX,(ha.canon h).1,ct,neg_eq (r.wn h)];show some (⟨zn (-zi (zn x.num)),_⟩:Qr)=some (qn (-x));rw[gN];rfl
theorem kO.cmp(ha:kO L a x)(hb:kO M b y)(h:L+M<=4000000000):xp a b=some (pW x y):=by
 obtain⟨p1,q1,f1,w1,w2,g1,v1,t1,t2⟩:=parts_eq ha ξ;obtain⟨p2,q2,f2,w3,w4,g2,v2,t3,t4⟩:=parts_eq hb ξ;unfold xp;have u1:=gO (t1.mul t4) ξ;have u2:=gO (t3.mul t2) ξ;simp only[zeta',sH,pX,f1,f2,ct,cX,sign_eq w1,sign_eq w3,mul_eq w1 w4,mul_eq w3 w2,aiS u1 u2,gN];rw[<-v1,<-v2,RH g1 g2];by_cases e1:(zi p1).sign=(zi p2).sign
 ·rw[show decide ((zi p1).sign≠(zi p2).sign)=false by simp[e1],ja,ct];by_cases e2:(zi p1).sign=0
  ·rw[decide_eq_true e2,iw,MY g1 g2 (.inr e2),ct]
  rw[decide_eq_false e2,ja]
 rw[show decide ((zi p1).sign≠(zi p2).sign)=true by simp[e1],iw,ct,iw,MY g1 g2 (.inl e1),ct]
theorem lB{n:Int}(hn:ia n):dU n=some (qn (n:Rat))/\kO 2 (qn (n:Rat)) (n:Rat):=by
 refine⟨?_,(FQ.int (MX hn) η).rep η⟩;unfold dU;simp only[zeta',ct,uf hn.1 hn.2];rw[aax]
theorem aay{n d:Int}(h0:d≠0)(hn:Fit L n)(hd:Fit L d)(h:1<=L):kO L ⟨zn n,zn d⟩ (Rat.divInt n d):=by
 refine⟨λx hx=>jz η hx,λx hx=>jz η hx,(cL η).2 hn,(cL η).2 hd,h,?_⟩;unfold qv qd;simp only[gN];rw[if_neg h0]
end ops
end
section
open Go.Fw
def vq(n:Nat)(h:Nat->Rat):List Qr:=(List.range n).map λi=>qn (h i)
structure eM (L:Nat) (v:List Qr) (f:Nat->Rat):Prop where
 e:∀i (h:i<v.length),kO L v[i] (f i)
 z:∀i,v.length<=i->f i=0
 l1:1<=L
theorem cq(n:Nat)(h:Nat->Rat):(vq n h).length=n:=by simp[vq]
theorem jL{n i:Nat}{h:Nat->Rat}(hi:i<n):(vq n h)[i]? =some (qn (h i)):=by simp[vq,hi]
theorem ade{n i:Nat}{h:Nat->Rat}(hi:i<(vq n h).length):(vq n h)[i]=qn (h i):=by simp[vq]
theorem lZ(n:Nat)(h:Nat->Rat):vq (n+1) h=vq n h++[qn (h n)]:=by simp[vq,List.range_succ]
theorem dM{n:Nat}{h k:Nat->Rat}(e:∀i,i<n->h i=k i):vq n h=vq n k:=by
 unfold vq;apply List.map_congr_left;intro i hi;rw[e i (List.mem_range.1 hi)]
theorem pG{L n:Nat}{h:Nat->Rat}(hf:∀i,i<n->FQ L (h i))(hz:∀i,n<=i->h i=0)(h1:1<=L):eM L (vq n h) h:=by
 refine⟨λi hi=>?_,λi hi=>hz i (by rwa[cq]at hi),h1⟩;rw[ade hi];exact(hf i (by rwa[cq]at hi)).rep h1
def qz:Qr:=⟨⟨false,[]⟩,⟨false,[]⟩⟩
theorem U9:qn 0=qz:=rfl
theorem RJ{L:Nat}(h:1<=L):kO L qz 0:=⟨by simp[qz],by simp[qz],by simp[qz],by simp[qz],h,by decide⟩
theorem nj{L:Nat}(h:1<=L):FQ L 0:=(RJ h).fq
def qat(v:List Qr)(i:Nat):Qr:=v.getD i qz
theorem eM.at{L:Nat}{v:List Qr}{f:Nat->Rat}(h:eM L v f)(i:Nat):kO L (qat v i) (f i):=by
 unfold qat;by_cases hi:i<v.length
 ·rw[List.getD_eq_getElem?_getD,List.getElem?_eq_getElem hi];exact h.e i hi
 rw[List.getD_eq_getElem?_getD,List.getElem?_eq_none ξ,h.z i ξ];exact RJ h.l1
theorem eM.fq{L:Nat}{v:List Qr}{f:Nat->Rat}(h:eM L v f)(i:Nat):FQ L (f i):=(h.at i).fq
theorem eM.mono{L M:Nat}{v:List Qr}{f:Nat->Rat}(h:eM L v f)(hl:L<=M):eM M v f:=⟨λi hi=>(h.e i hi).mono hl,h.z,Nat.le_trans h.l1 hl⟩
theorem eM.nil{L:Nat}(h:1<=L):eM L [] (λ_=>0):=⟨λi hi=>by simp at hi,λ_ _=>Y,h⟩
theorem eM.get{L:Nat}{v:List Qr}{f:Nat->Rat}(h:eM L v f){i:Nat}(hi:i<v.length):∃q,v[i]? =some q/\kO L q (f i):=⟨v[i],by simp,h.e i hi⟩
theorem eM.congr{L:Nat}{v:List Qr}{f g:Nat->Rat}(h:eM L v f)(e:∀i,f i=g i):eM L v g:=by
 have:f=g:=funext e;rw[<-this];exact h
def Le(v:List Qr)(i:Nat):Rat:=qv (qat v i)
theorem OR{L:Nat}{v:List Qr}(h:∀q∈v,kO L q (qv q))(h1:1<=L):eM L v (Le v):=by
 refine⟨λi hi=>?_,λi hi=>?_,h1⟩
 ·have e:qat v i=v[i]:=by unfold qat;rw[List.getD_eq_getElem?_getD,List.getElem?_eq_getElem hi];rfl
  unfold Le;rw[e];exact h _ (List.getElem_mem hi)
 unfold Le qat;rw[List.getD_eq_getElem?_getD,List.getElem?_eq_none hi];decide
def cI(h:Nat->Rat):Nat->Rat
 |0=>0
 |n+1=>cI h n+h n
theorem dx{h k:Nat->Rat}:∀{n:Nat},(∀i,i<n->h i=k i)->cI h n=cI k n
 |0,_=>rfl
 |n+1,e=>by rw[cI,cI,dx (λi hi=>e i ξ),e n ξ]
theorem FR(h k:Nat->Rat):∀n,cI (λi=>h i+k i) n=cI h n+cI k n
 |0=>by simp only[cI];grind
 |n+1=>by rw[cI,cI,cI,FR h k n];grind
theorem Cz(h k:Nat->Rat):∀n,cI (λi=>h i-k i) n=cI h n-cI k n
 |0=>by simp only[cI];grind
 |n+1=>by rw[cI,cI,cI,Cz h k n];grind
theorem pY(c:Rat)(h:Nat->Rat):∀n,cI (λi=>c*h i) n=c*cI h n
 |0=>by simp[cI]
 |n+1=>by rw[cI,cI,pY c h n];grind
theorem rf:∀n,cI (λ_=>0) n=0
 |0=>rfl
 |n+1=>by rw[cI,rf n];grind
theorem aaz{h:Nat->Rat}{n m:Nat}(hnm:n<=m)(hz:∀i,n<=i->i<m->h i=0):cI h m=cI h n:=by
 induction m with
 |zero=>rw[show n=0 by omega]
 |succ m ih=>
  rcases Nat.lt_or_ge m n with q|q
  ·rw[show n=m+1 by omega]
  rw[cI,ih q (λi h1 h2=>hz i h1 ξ),hz m q ξ];grind
theorem OS{L:Nat}{h:Nat->Rat}:∀{n:Nat},(∀i,i<n->FQ L (h i))->FQ (n*(L+1)+1) (cI h n)
 |0,_=>nj ξ
 |n+1,e=>by
  rw[cI];exact((OS (λi hi=>e i ξ)).add (e n ξ)).mono (by rw[Nat.add_mul];omega)
theorem ir{h:Nat->Rat}{n k:Nat}(hk:k<n)(hz:∀i,i<n->i≠k->h i=0):cI h n=h k:=by
 induction n with
 |zero=>omega
 |succ n ih=>
  rw[cI];rcases Nat.lt_or_ge k n with q|q
  ·rw[ih q (λi h1 h2=>hz i ξ h2),hz n ξ ξ];grind
  obtain rfl:k=n:=by omega
  rw[dx (k:=λ_=>0) (λi hi=>hz i ξ ξ),rf];grind
end
section
open Go.Fw
theorem Vc{α β:Type}(a:List α)(b:List β):max (a.length:Int) (b.length:Int)=((max a.length b.length:Nat):Int):=by omega
theorem adf{α β:Type}(a:List α)(b:List β):min (a.length:Int) (b.length:Int)=((min a.length b.length:Nat):Int):=by omega
theorem eM.gd{L:Nat}{v:List Qr}{f:Nat->Rat}(h:eM L v f)(k:Nat):kO L (v.getD k (⟨⟨false,[]⟩,⟨false,[]⟩⟩:Qr)) (f k):=h.at k
theorem OT{n k:Nat}{h:Nat->Rat}(hk:k<n):(vq k h++List.replicate (n-k) qz).set k (qn (h k))=vq (k+1) h++List.replicate (n-(k+1)) qz:=by
 rw[show n-k=(n-(k+1))+1 by omega,List.replicate_succ,List.set_append_right _ _ (by rw[cq];exact Nat.le_refl _),cq,Nat.sub_self,lZ,List.append_assoc];rfl
theorem aiW{n c:Nat}{h:Nat->Rat}(hc:c<=n)(hz:∀i,c<=i->i<n->h i=0):vq c h++List.replicate (n-c) qz=vq n h:=by
 induction n with
 |zero=>rw[show c=0 by omega];rfl
 |succ n ih=>
  rcases Nat.lt_or_ge n c with q|q
  ·rw[show c=n+1 by omega,Nat.sub_self];simp
  rw[show n+1-c=(n-c)+1 by omega,List.replicate_succ',<-List.append_assoc,ih q (λi h1 h2=>hz i h1 ξ),lZ,hz n q ξ,U9]
theorem AY{n k:Nat}{h:Nat->Rat}(hk:k<=n):(vq k h++List.replicate (n-k) qz).length=n:=by rw[List.length_append,cq,List.length_replicate];omega
section ops
variable {K L M:Nat}{c:Qr}{a b:List Qr}{k:Rat}{f g:Nat->Rat}
theorem atn(ha:eM L a f)(hb:eM M b g)(h:L+M<=4000000000)(la:a.length<=1000000)(lb:b.length<=1000000):zM a b=some (vq (max a.length b.length) λi=>f i-g i)/\eM (L+M+1) (vq (max a.length b.length) λi=>f i-g i) (λi=>f i-g i):=by
 refine⟨?_,pG (λi _=>(ha.fq i).sub (hb.fq i)) (λi hi=>?_) ξ⟩
 ·unfold zM uw;refine aC (a:=vq (max a.length b.length) (λi=>f i-g i)) ?_ Y;refine aC Y<|aC Y<|aC (congrArg some (Vc a b))<|aC (KU ξ ξ)<|AT (λk=>vq k (λi=>f i-g i)) Y (λk hk=>?_) Y;have e3:=((ha.gd k).sub (hb.gd k) h).1;generalize a.getD k (⟨⟨false,[]⟩,⟨false,[]⟩⟩:Qr)=q1 at e3⊢;generalize b.getD k (⟨⟨false,[]⟩,⟨false,[]⟩⟩:Qr)=q2 at e3⊢;obtain⟨⟨_,_⟩,⟨_,_⟩⟩:=q1;obtain⟨⟨_,_⟩,⟨_,_⟩⟩:=q2;obtain⟨q3,h3⟩:∃q,qn (f k-g k)=q:=⟨_,Y⟩;rw[lZ,h3];rw[h3]at e3;obtain⟨⟨_,_⟩,⟨_,_⟩⟩:=q3;refine aC Y<|aC Y<|aC e3<|aC (nh ξ (by rw[cq];omega)) Y
 rw[ha.z i ξ,hb.z i ξ];grind
theorem afM(hc:kO K c k)(ha:eM L a f)(hb:eM M b g)(h:K+L+M<=4000000000)(la:a.length<=1000000)(lb:b.length<=1000000):jx c a b=some (vq (max a.length b.length) λi=>k*f i+g i)/\eM (K+L+M+1) (vq (max a.length b.length) λi=>k*f i+g i) (λi=>k*f i+g i):=by
 refine⟨?_,pG (λi _=>(hc.fq.mul (ha.fq i)).add (hb.fq i)) (λi hi=>?_) ξ⟩
 ·unfold jx oU;obtain⟨⟨_,_⟩,⟨_,_⟩⟩:=c;refine aC (a:=vq (max a.length b.length) (λi=>k*f i+g i)) ?_ Y;refine aC Y<|aC Y<|aC (congrArg some (Vc a b))<|aC (KU ξ ξ)<|AT (λj=>vq j (λi=>k*f i+g i)) Y (λj hj=>?_) Y;have e1:=hc.mul (ha.gd j) ξ;have e3:=(e1.2.add (hb.gd j) ξ).1;replace e1:=e1.1;generalize a.getD j (⟨⟨false,[]⟩,⟨false,[]⟩⟩:Qr)=q1 at e1⊢;generalize b.getD j (⟨⟨false,[]⟩,⟨false,[]⟩⟩:Qr)=q2 at e3⊢;obtain⟨⟨_,_⟩,⟨_,_⟩⟩:=q1;obtain⟨⟨_,_⟩,⟨_,_⟩⟩:=q2;generalize qn (k*f j)=q4 at e1 e3;obtain⟨⟨_,_⟩,⟨_,_⟩⟩:=q4;obtain⟨q3,h3⟩:∃q,qn (k*f j+g j)=q:=⟨_,Y⟩;rw[lZ,h3];rw[h3]at e3;obtain⟨⟨_,_⟩,⟨_,_⟩⟩:=q3;refine aC Y<|aC Y<|aC (aC e1<|aC e3 Y)<|aC (nh ξ (by rw[cq];omega)) Y
 rw[ha.z i ξ,hb.z i ξ];grind
theorem aiX(hc:kO K c k)(ha:eM L a f)(h:K+L<=4000000000)(la:a.length<=1000000):qQ c a=some (vq a.length λi=>k*f i)/\eM (K+L) (vq a.length λi=>k*f i) (λi=>k*f i):=by
 have hl1:=ha.l1;refine⟨?_,pG (λi _=>hc.fq.mul (ha.fq i)) (λi hi=>?_) ξ⟩
 ·unfold qQ;obtain⟨⟨_,_⟩,⟨_,_⟩⟩:=c;refine aC Y<|aC (za ξ ξ)<|aC Y<|bK (λj=>((j:Int),vq j (λi=>k*f i)++List.replicate (a.length-j) qz)) a.length (vq a.length λi=>k*f i) Y (λj hj=>?_) ?_ Y
  ·obtain⟨q,hq,rq⟩:=ha.get hj;have e3:=(hc.mul rq h).1;obtain⟨q3,h3⟩:∃q,qn (k*f j)=q:=⟨_,Y⟩;have h4:=OT (h:=λi=>k*f i) hj;rw[h3]at e3 h4;obtain⟨⟨_,_⟩,⟨_,_⟩⟩:=q;obtain⟨⟨_,_⟩,⟨_,_⟩⟩:=q3;refine aC Y<|bY (decide_eq_true ξ)<|aC (bH hq)<|aC e3<|aC (cO (by rw[AY ξ];exact hj))<|aC (fK (by rw[AY ξ];exact hj))<|aC Y ?_;rw[bQ ξ,h4]
  refine aC Y<|bL (decide_eq_false ξ) ?_;simp
 rw[ha.z i hi];grind
end ops
end
section
open Go.Fw
def oK(f g:Nat->Rat):Nat->Int
 |0=>0
 |n+1=>if oK f g n≠0 then oK f g n else pW (f n) (g n)
theorem Wy{f g:Nat->Rat}{i n:Nat}(h0:oK f g i=0)(hi:i<n)(hc:pW (f i) (g i)≠0):oK f g n=pW (f i) (g i):=by
 induction n with
 |zero=>omega
 |succ n ih=>
  rw[oK];rcases Nat.lt_or_ge i n with q|q
  ·rw[ih q,if_pos hc]
  obtain rfl:i=n:=by omega
  rw[h0];simp
theorem Lf{f g:Nat->Rat}:∀{n:Nat},oK f g n=0↔∀i,i<n->f i=g i
 |0=>by simp[oK]
 |n+1=>by
  rw[oK];by_cases h:oK f g n=0
  ·rw[if_neg (by simpa using h),aaw];have:=Lf.1 h;refine⟨λe i hi=>?_,λe=>e n ξ⟩;rcases Nat.lt_or_ge i n with q|q
   ·exact this i q
   obtain rfl:i=n:=by omega
   exact e
  rw[if_pos h];refine⟨λe=>absurd e h,λe=>absurd (Lf.2 (λi hi=>e i ξ)) h⟩
section ops
variable {K L M:Nat}{c:Qr}{a b:List Qr}{k:Rat}{f g:Nat->Rat}
theorem Bs(q:Qr):(⟨⟨(q.num.neg,q.num.w,q.den.neg,q.den.w).1,(q.num.neg,q.num.w,q.den.neg,q.den.w).2.1⟩,⟨(q.num.neg,q.num.w,q.den.neg,q.den.w).2.2.1,(q.num.neg,q.num.w,q.den.neg,q.den.w).2.2.2⟩⟩:Qr)=q:=by cases q;rfl
theorem amF(ha:eM L a f)(hb:eM M b g)(h:L+M<=4000000000):nC a b=some (oK f g (max a.length b.length)):=by
 unfold nC;generalize max a.length b.length=n;refine aC (a:=if oK f g n≠0 then .inr (oK f g n)else .inl ()) ?_ ?_
 ·induction n with
  |zero=>rfl
  |succ n ih=>
   rw[w7];refine aC ih ?_;by_cases h0:oK f g n=0
   ·have hl:oK f g (n+1)=pW (f n) (g n):=by rw[oK,if_neg (by simpa using h0)]
    rw[hl,if_neg (show ¬oK f g n≠0 by simpa using h0)];have e1:=(ha.gd n).cmp (hb.gd n) h;generalize a.getD n (⟨⟨false,[]⟩,⟨false,[]⟩⟩:Qr)=q1 at e1⊢;generalize b.getD n (⟨⟨false,[]⟩,⟨false,[]⟩⟩:Qr)=q2 at e1⊢;obtain⟨⟨_,_⟩,⟨_,_⟩⟩:=q1;obtain⟨⟨_,_⟩,⟨_,_⟩⟩:=q2;refine aC Y<|aC Y<|aC e1<|aC Y ?_;by_cases h1:pW (f n) (g n)=0
    ·rw[if_neg (by simpa using h1)];exact bL (decide_eq_false (by simpa using h1)) Y
    rw[if_pos h1];exact bY (decide_eq_true h1) Y
   have hl:oK f g (n+1)=oK f g n:=by rw[oK,if_pos h0]
   rw[hl,if_pos h0]
 by_cases h0:oK f g n=0
 ·rw[if_neg (by simpa using h0),h0]
 rw[if_pos h0]
theorem amG(ha:eM L a f)(h:L+1<=4000000000):xy a=some (oK f (λ_=>0) a.length):=by
 unfold xy;refine aC (amF ha (eM.nil (L:=1) ξ) h) ?_;simp
theorem veq(ha:eM L a f)(hb:eM M b g)(h:L+M<=4000000000):ig a b=some (decide (∀i,i<max a.length b.length->f i=g i)):=by
 unfold ig;refine aC (amF ha hb h)<|aC Y ?_;congr 1;rw[decide_eq_decide];exact Lf
end ops
end
section
open Go.Fw
theorem AZ{l:List Nat}(h:OQ l):jY l<65536^l.length:=jK l h.1
theorem tm{a:Nat}:Int.tmod (a:Int) 65536=((a%65536:Nat):Int):=by
 rw[Int.tmod_eq_emod_of_nonneg ξ];omega
theorem td{a:Nat}:Int.tdiv (a:Int) 65536=((a/65536:Nat):Int):=by
 rw[Int.tdiv_eq_ediv_of_nonneg ξ];omega
theorem OU(l k:List Nat)(hl:OQ l)(hk:OQ k):mJ (zl l) (zl k)=some (Ea (jY l) (jY k)):=by
 unfold mJ;simp only[ct];rw[gE,gE,show max (l.length:Int) (k.length:Int)=((max l.length k.length:Nat):Int) by omega,cQ (by have:=hl.2;have:=hk.2;omega) (by have:=hl.2;have:=hk.2;omega)];have h1:jY l<65536^(max l.length k.length):=Nat.lt_of_lt_of_le (AZ hl) (Nat.pow_le_pow_right η ξ);have h2:jY k<65536^(max l.length k.length):=Nat.lt_of_lt_of_le (AZ hk) (Nat.pow_le_pow_right η ξ);have hm:max l.length k.length<=100000000000:=by have:=hl.2;have:=hk.2;omega
 have a1:=HL hl.1;have a2:=HL hk.1;generalize jY l=V at*;generalize jY k=W at*;generalize max l.length k.length=n at*;refine iK (λy=>∃m:Nat,y=(m:Int)-1/\m<=n/\V/65536^m=W/65536^m) (λe=>(∃c,e=.inl c/\V=W)\/e=.inr (Ea V W)) (λy=>(y+1).toNat) ?_ ⟨n,Y,Nat.le_refl _,by rw[Nat.div_eq_of_lt h1,Nat.div_eq_of_lt h2]⟩ ?_
 ·rintro _ ⟨m,rfl,hmn,he⟩;rcases m with _|m
  ·right;refine⟨_,Y,.inl ⟨_,Y,?_⟩⟩;simpa using he
  rw[show((m+1:Nat):Int)-1=(m:Int) by omega,show decide ((0:Int)<=(m:Int))=true by simp,iw,a1,ct,a2,ct];rcases MV he with⟨hd,hq⟩|⟨hd,hlt⟩|⟨hd,hlt⟩
  ·left;rw[hd,show decide (((W/65536^m%65536:Nat):Int)<((W/65536^m%65536:Nat):Int))=false by simp,ja,ct,ct,show decide (((W/65536^m%65536:Nat):Int)<((W/65536^m%65536:Nat):Int))=false by simp,ja,cQ ξ ξ];exact⟨_,Y,⟨m,Y,by omega,hq⟩,by omega⟩
  ·right;rw[show decide (((V/65536^m%65536:Nat):Int)<((W/65536^m%65536:Nat):Int))=true by rw[decide_eq_true_eq];omega,iw];exact⟨_,Y,.inr (by rw[yK hlt])⟩
  right;rw[show decide (((V/65536^m%65536:Nat):Int)<((W/65536^m%65536:Nat):Int))=false by rw[decide_eq_false_iff_not];omega,ja,ct,ct,show decide (((W/65536^m%65536:Nat):Int)<((V/65536^m%65536:Nat):Int))=true by rw[decide_eq_true_eq];omega,iw];exact⟨_,Y,.inr (by rw[AX hlt])⟩
 rintro e (⟨c,rfl,rfl⟩|rfl)
 ·rw[CT]
 rfl
theorem OV(l k:List Nat)(hl:OQ l)(hk:OQ k):kX (zl l) (zl k)=some (zl (can 65536 (jY l+jY k))):=by
 unfold kX;have h1:jY l<65536^(max l.length k.length):=Nat.lt_of_lt_of_le (AZ hl) (Nat.pow_le_pow_right η ξ);have h2:jY k<65536^(max l.length k.length):=Nat.lt_of_lt_of_le (AZ hk) (Nat.pow_le_pow_right η ξ);have hm:max l.length k.length<=100000000000:=by have:=hl.2;have:=hk.2;omega
 have a1:=HL hl.1;have a2:=HL hk.1;rw[gE,gE];generalize jY l=V at*;generalize jY k=W at*;refine iK (λs=>∃i:Nat,s=(((IX 65536 V W i:Nat):Int),(i:Int),zl (g9 65536 i (V+W)))/\i<=max l.length k.length+1) (λe=>∃i,e=zl (g9 65536 i (V+W))/\V+W<65536^i/\i<=max l.length k.length+1) (λs=>max l.length k.length+1-s.2.1.toNat) ?_ ⟨0,by rw[KZ];rfl,by omega⟩ ?_
 ·rintro _ ⟨i,rfl,hi⟩;have hc:=KX (B:=65536) η V W i;have LC:=KY (B:=65536) η V W i;have A5:=IY (B:=65536) η V W i;have d1:=Nat.mod_lt (V/65536^i) (show 0<65536 by decide);have d2:=Nat.mod_lt (W/65536^i) (show 0<65536 by decide);simp only[ct,cX];have Ev:∀(K:Bool->Option ((Int×Int×List Int)⊕List Int)),(((bif decide ((i:Int)<(l.length:Int))then some true else some (decide ((i:Int)<(k.length:Int)))):Option Bool).bind λc=>((bif c then some true else some (decide ((0:Int)<((IX 65536 V W i:Nat):Int)))):Option Bool).bind K)=K (decide (i<max l.length k.length\/0<IX 65536 V W i)):=by
   intro K;by_cases q1:i<l.length
   ·have:i<max l.length k.length:=by omega
    simp[q1,this]
   by_cases q2:i<k.length
   ·have:i<max l.length k.length:=by omega
    simp[q1,q2,this]
   have:¬i<max l.length k.length:=by omega
   simp[q1,q2,this]
  rw[Ev];by_cases Sa:i<max l.length k.length\/0<IX 65536 V W i
  ·left;have hi':i<max l.length k.length+1:=by
    rcases Nat.lt_or_ge i (max l.length k.length+1)with h|h
    ·exact h
    have hie:i=max l.length k.length+1:=by omega
    have hp:65536^i=65536^(max l.length k.length)*65536:=by rw[hie,Nat.pow_succ]
    have g3:=OG (B:=65536) (V:=V) (W:=W) (k:=i) ξ ξ;rw[Nat.div_eq_of_lt ξ]at g3;omega
   rw[show decide (i<max l.length k.length\/0<IX 65536 V W i)=true by rw[decide_eq_true_eq];exact Sa,iw,a1,ct,a2,ct,sE ξ,sE ξ,tm,td,LC,A5,nh η (by rw[gE,cu];omega),ct,kC (by have:=KX (B:=65536) η V W (i+1);omega),bQ ξ];refine⟨_,Y,⟨i+1,?_,by omega⟩,by simp only[];omega⟩;rw[mE,OP,TT]
  right;rw[show decide (i<max l.length k.length\/0<IX 65536 V W i)=false by rw[decide_eq_false_iff_not];exact Sa,ja];refine⟨_,Y,i,Y,?_,hi⟩;have g1:V<65536^i:=Nat.lt_of_lt_of_le h1 (Nat.pow_le_pow_right η ξ);have g2:W<65536^i:=Nat.lt_of_lt_of_le h2 (Nat.pow_le_pow_right η ξ);have g3:=OG (B:=65536) g1 g2;rcases Nat.lt_or_ge (V+W) (65536^i)with h|h
  ·exact h
  have:=Nat.div_pos h (Nat.pow_pos η);omega
 rintro _ ⟨i,rfl,hlt,hi⟩;rw[oJ _ (by rw[cu];omega),ct,vC η hlt]
theorem I1(l k:List Nat)(hl:OQ l)(hk:OQ k)(hle:jY k<=jY l):jQ (zl l) (zl k)=some (zl (can 65536 (jY l-jY k))):=by
 unfold jQ;have h1:=AZ hl;have hm:=hl.2;have a1:=HL hl.1;have a2:=HL hk.1;rw[gE];generalize jY l=V at*;generalize jY k=W at*;refine bK (λi=>(((1-GW 65536 V W i:Nat):Int),(i:Int),zl (g9 65536 i (V-W)))) l.length (zl (g9 65536 l.length (V-W))) ?_ (λi hi=>?_) ?_ ?_
 ·rw[K0];rfl
 ·have hc:=TK (B:=65536) η V W i;have LC:=K1 (B:=65536) η V W i;have A5:=OH (B:=65536) η hle i;have d1:=Nat.mod_lt (V/65536^i) (show 0<65536 by decide);have d2:=Nat.mod_lt (W/65536^i) (show 0<65536 by decide);simp only[ct,cX];rw[show decide ((i:Int)<(l.length:Int))=true by simp[hi],iw,a1,ct,a2,ct];rw[<-LC,mE,OP,TT,<-A5];generalize V/65536^i%65536=a at*;generalize W/65536^i%65536=b at*;generalize GW 65536 V W i=c at*;rw[cQ (x:=(a:Int)-(b:Int)) ξ ξ,cQ (x:=(a:Int)-(b:Int)-((1-c:Nat):Int)) ξ ξ];by_cases hn:(a:Int)-(b:Int)-((1-c:Nat):Int)<0
  ·rw[show decide ((a:Int)-(b:Int)-((1-c:Nat):Int)<0)=true by rw[decide_eq_true_eq];exact hn,iw,cQ ξ ξ,nh η (by rw[gE,cu];omega),ct,bQ ξ];rw[show(a:Int)-(b:Int)-((1-c:Nat):Int)+65536=(((a+(65536-1-b)+c)%65536:Nat):Int) by omega,show(1-(a+(65536-1-b)+c)/65536)=1 by omega];rfl
  rw[show decide ((a:Int)-(b:Int)-((1-c:Nat):Int)<0)=false by rw[decide_eq_false_iff_not];exact hn,ja,nh η (by rw[gE,cu];omega),ct,bQ ξ];rw[show(a:Int)-(b:Int)-((1-c:Nat):Int)=(((a+(65536-1-b)+c)%65536:Nat):Int) by omega,show(1-(a+(65536-1-b)+c)/65536)=0 by omega];rfl
 ·simp
 rw[oJ _ (by rw[cu];omega),ct,vC η ξ]
theorem CW(l:List Nat)(hl:∀x∈l,x<65536)(hn:l.length<=3):gR (zl l)=some ((jY l:Nat):Int):=by
 unfold gR;simp only[ct];have hV:jY l<65536^l.length:=jK l hl;have hp:65536^l.length<=65536^3:=Nat.pow_le_pow_right η hn;rw[show(65536:Nat)^3=281474976710656 by decide]at hp;rw[gE,cQ ξ ξ];refine bK (λj=>(((jY l/65536^(l.length-j):Nat):Int),(l.length:Int)-1-(j:Int))) l.length ((jY l:Nat):Int) ?_ (λj hj=>?_) ?_ Y
 ·rw[show l.length-0=l.length by omega,Nat.div_eq_of_lt hV];simp
 ·obtain⟨m,hm⟩:∃m,l.length=m+j+1:=⟨l.length-j-1,by omega⟩;have hg:=qh hl (i:=m) ξ;have hst:=FJ 65536 (jY l) m;have hdl:jY l/65536^m<=jY l:=Nat.div_le_self _ _;rw[show l.length-j=m+1 by omega,show l.length-(j+1)=m by omega,show(l.length:Int)-1-(j:Int)=(m:Int) by omega,show(l.length:Int)-1-((j+1:Nat):Int)=(m:Int)-1 by omega];have hd:=Nat.mod_lt (jY l/65536^m) (show 0<65536 by decide);simp only[];rw[show decide ((0:Int)<=(m:Int))=true by simp,iw,bH (Ed hg),ct];generalize jY l/65536^(m+1)=c at*;generalize jY l/65536^m=d at*;rw[cQ (x:=(c:Int)*65536) ξ ξ,cQ (x:=(c:Int)*65536+((d%65536:Nat):Int)) ξ ξ,cQ (x:=(m:Int)-1) ξ ξ,show(c:Int)*65536+((d%65536:Nat):Int)=(d:Int) by omega]
 simp only[];rw[show decide ((0:Int)<=(l.length:Int)-1-(l.length:Int))=false by rw[decide_eq_false_iff_not];omega,ja,Nat.sub_self,Nat.pow_zero,Nat.div_one]
theorem Lg(x:Nat)(hx:x<281474976710656):mY (x:Int)=some (zl (can 65536 x)):=by
 unfold mY;simp only[ct];rw[tm,td,kC ξ,tm,td,kC ξ];have:[((x%65536:Nat):Int),((x/65536%65536:Nat):Int),((x/65536/65536:Nat):Int)]=zl [x%65536,x/65536%65536,x/65536/65536]:=rfl;rw[this,oJ _ θ,ct,oH (B:=65536) η (by intro y hy;simp at hy;omega)];congr 3;simp[val];omega
theorem GZ(l:List Nat)(f:Nat)(hl:OQ l)(hf:f<65536):gU (zl l) (f:Int)=some (zl (can 65536 (jY l*f))):=by
 unfold gU;have h1:=AZ hl;have hm:=hl.2;have a1:=HL hl.1;rw[gE];generalize jY l=V at*;have tg:=λi=>aaf (B:=65536) (V:=V) (f:=f) (e:=0) η hf η i;refine iK (λs=>∃i:Nat,s=(((sC 65536 V f 0 i:Nat):Int),(i:Int),zl (g9 65536 i (V*f)))/\i<=l.length+1) (λe=>∃i,e=zl (g9 65536 i (V*f))/\V*f<65536^i/\i<=l.length+1) (λs=>l.length+1-s.2.1.toNat) ?_ ⟨0,by rw[OJ];rfl,by omega⟩ ?_
 ·rintro _ ⟨i,rfl,hi⟩;have hc:=tg i;have hc1:=tg (i+1);have LC:=OK (B:=65536) η V f 0 i;have A5:=TN (B:=65536) η V f 0 i;have d1:=Nat.mod_lt (V/65536^i) (show 0<65536 by decide);have hp:V/65536^i%65536*f<=65535*65535:=Nat.mul_le_mul ξ ξ;rw[Nat.add_zero]at A5;simp only[ct,cX];have Ev:∀(K:Bool->Option ((Int×Int×List Int)⊕List Int)),(((bif decide ((i:Int)<(l.length:Int))then some true else some (decide ((0:Int)<((sC 65536 V f 0 i:Nat):Int)))):Option Bool).bind K)=K (decide (i<l.length\/0<sC 65536 V f 0 i)):=by
   intro K;by_cases q1:i<l.length
   ·simp[q1]
   simp[q1]
  rw[Ev];by_cases Sa:i<l.length\/0<sC 65536 V f 0 i
  ·left;have hi':i<l.length+1:=by
    rcases Nat.lt_or_ge i (l.length+1)with h|h
    ·exact h
    have hie:i=l.length+1:=by omega
    have g3:=TO (B:=65536) (V:=V) (f:=f) (e:=0) (i:=i) (Nat.lt_of_lt_of_le h1 (Nat.pow_le_pow_right η ξ));rw[Nat.add_zero,Nat.div_eq_of_lt]at g3
    ·omega
    rw[hie,Nat.pow_succ];exact Nat.mul_lt_mul'' h1 hf
   rw[show decide (i<l.length\/0<sC 65536 V f 0 i)=true by rw[decide_eq_true_eq];exact Sa,iw,a1,ct,<-Int.natCast_mul,kC ξ,sE ξ,tm,td,LC,A5,nh η (by rw[gE,cu];omega),ct,kC ξ,bQ ξ];refine⟨_,Y,⟨i+1,?_,by omega⟩,by simp only[];omega⟩;rw[mE,OP,TT]
  right;rw[show decide (i<l.length\/0<sC 65536 V f 0 i)=false by rw[decide_eq_false_iff_not];exact Sa,ja];refine⟨_,Y,i,Y,?_,hi⟩;have g3:=TO (B:=65536) (V:=V) (f:=f) (e:=0) (i:=i) (Nat.lt_of_lt_of_le h1 (Nat.pow_le_pow_right η ξ));rw[Nat.add_zero]at g3;rcases Nat.lt_or_ge (V*f) (65536^i)with h|h
  ·exact h
  have:=Nat.div_pos h (Nat.pow_pos η);omega
 rintro _ ⟨i,rfl,hlt,hi⟩;rw[oJ _ (by rw[cu];omega),ct,vC η hlt]
end
section
open Go.Fw
theorem dS(v:Nat):jY (can 65536 v)=v:=pq η v
theorem OW{v n:Nat}(h:v<65536^n)(hn:n<=100000000000):OQ (can 65536 v):=⟨λ_ hx=>jz η hx,Nat.le_trans ((cL η).2 h) hn⟩
theorem adg(l k:List Nat)(hl:OQ l)(hk:OQ k)(hs:l.length+k.length<=90000000000):vg (zl l) (zl k)=some (zl (can 65536 (jY l*jY k))):=by
 unfold vg;have hV:=AZ hl;have hW:=AZ hk;simp only[ct];rw[gE,gE,sE ξ];by_cases h3:l.length+k.length<=3
 ·rw[show decide (((l.length+k.length:Nat):Int)<=3)=true by rw[decide_eq_true_eq];omega,iw,CW l hl.1 ξ,ct,CW k hk.1 ξ,ct,<-Int.natCast_mul];have hlt:jY l*jY k<281474976710656:=by
   have h1:jY l*jY k<65536^l.length*65536^k.length:=Nat.mul_lt_mul'' hV hW;rw[<-Nat.pow_add]at h1;have h2:65536^(l.length+k.length)<=65536^3:=Nat.pow_le_pow_right η h3;rw[show(65536:Nat)^3=281474976710656 by decide]at h2;omega
  rw[kC ξ,Lg _ hlt,ct]
 rw[show decide (((l.length+k.length:Nat):Int)<=3)=false by rw[decide_eq_false_iff_not];omega,ja,cQ ξ ξ];refine iK (λs=>∃(u:List Nat) (m:Nat),s=(zl u,(m:Int)-1)/\m<=l.length/\(∀x∈u,x<65536)/\jY u=jY l/65536^m*jY k/\u.length+m<=l.length+k.length) (λe=>∃u:List Nat,e=zl u/\(∀x∈u,x<65536)/\jY u=jY l*jY k/\u.length<=l.length+k.length) (λs=>(s.2+1).toNat) ?_ ⟨[],l.length,Y,Nat.le_refl _,by simp,by rw[Nat.div_eq_of_lt hV];simp[jY,val],by simp⟩ ?_
 ·rintro _ ⟨u,m,rfl,hm,hu,huv,hul⟩;simp only[];rcases m with _|m
  ·right;refine⟨_,Y,u,Y,hu,?_,by omega⟩;rw[huv,Nat.pow_zero,Nat.div_one]
  left;have hg:=qh hl.1 (i:=m) ξ;obtain⟨d,hd⟩:∃d,jY l/65536^m%65536=d:=⟨_,Y⟩;have hdl:d<65536:=by rw[<-hd];exact Nat.mod_lt _ η
  rw[show val 65536 l/65536^m%65536=d from hd]at hg;have hst:=FJ 65536 (jY l) m;rw[hd]at hst;have hgi:=bH (Ed hg);have hA:jY l/65536^m<65536^(l.length-m):=by
   rw[Nat.div_lt_iff_lt_mul (Nat.pow_pos η),<-Nat.pow_add,show l.length-m+m=l.length by omega];exact hV
  have hAW:jY l/65536^m*jY k<65536^(l.length-m+k.length):=by rw[Nat.pow_add];exact Nat.mul_lt_mul'' hA hW
  rw[show((m+1:Nat):Int)-1=(m:Int) by omega,show decide ((0:Int)<=(m:Int))=true by simp,iw,aab η (by rw[gE];simp;omega),ct];have h0:[(0:Int)]++zl u=zl (0::u):=rfl;have hv0:jY (0::u)=65536*(jY l/65536^(m+1))*jY k:=by
   show 0+65536*jY u=_;rw[huv,Nat.zero_add,Nat.mul_assoc]
  rw[h0];refine(show ∀(X:Option ((List Int×Int)⊕List Int)),(∃w:List Nat,X=some (.inl (zl w,IntKind.i64.wrap ((m:Int)-1)))/\(∀x∈w,x<65536)/\jY w=jY l/65536^m*jY k/\w.length+m<=l.length+k.length)->∃s',X=some (.inl s')/\(∃(u:List Nat) (m:Nat),s'=(zl u,(m:Int)-1)/\m<=l.length/\(∀x∈u,x<65536)/\jY u=jY l/65536^m*jY k/\u.length+m<=l.length+k.length)/\(s'.2+1).toNat<((m:Int)+1).toNat from ?_) _ ?_
  ·rintro X ⟨w,rfl,hw,hwv,hwl⟩;rw[cQ ξ ξ];exact⟨_,Y,⟨w,m,Y,by omega,hw,hwv,hwl⟩,by simp only[];omega⟩
  have amI:=ni (body:=λ(yZ:(List Int)×Int)=>
      match yZ with
      |⟨Kg,oz⟩=>
       (show Option (((List Int)×Int)⊕((List Int)))from
        (cV (zl l) (m:Int)).bind λpz=>
        (bif decide ((oz:Int)<pz)then
          (cV (zl l) (m:Int)).bind λry=>
          (gU (zl k) (min (1024:Int) (IntKind.i64.wrap (ry-oz)))).bind λw9=>
          (kX Kg w9).bind λtD=>
          some (.inl (tD,IntKind.i64.wrap (oz+1024)))
         else
          some (.inr Kg)))) (s:=(zl (0::u),(0:Int))) (f:=λFl=>(some (.inl (Fl,IntKind.i64.wrap ((m:Int)-1))):Option ((List Int×Int)⊕List Int)))
   (Q:=λr=>∃w:List Nat,r=.inl (zl w,IntKind.i64.wrap ((m:Int)-1))/\(∀x∈w,x<65536)/\jY w=jY l/65536^m*jY k/\w.length+m<=l.length+k.length)
   (λs=>∃(w:List Nat) (j:Nat),s=(zl w,(j:Int))/\(∀x∈w,x<65536)/\j<=70000/\jY w=(65536*(jY l/65536^(m+1))+min j d)*jY k/\w.length+m<=l.length+k.length)
   (λe=>∃w:List Nat,e=zl w/\(∀x∈w,x<65536)/\jY w=jY l/65536^m*jY k/\w.length+m<=l.length+k.length) (λs=>(70000-s.2).toNat) ?_ ⟨0::u,0,Y,by simp;exact hu,by omega,by rw[hv0];simp,by simp;omega⟩ ?_
  ·obtain⟨r,h1,w,rfl,h2,h3,h4⟩:=amI;exact⟨w,h1,h2,h3,h4⟩
  ·rintro _ ⟨w,j,rfl,hw,hj,hwv,hwl⟩;simp only[];rw[hgi,ct];by_cases VC:j<d
   ·left;rw[show decide ((j:Int)<(d:Int))=true by simp[VC],iw,ct,cQ ξ ξ];obtain⟨f,hf⟩:∃f,min 1024 (d-j)=f:=⟨_,Y⟩;obtain⟨j',hj',hj2⟩:∃j':Nat,(j:Int)+1024=(j':Int)/\j'=j+1024:=⟨j+1024,by omega,Y⟩;have hmu:(70000-(j':Int)).toNat<(70000-(j:Int)).toNat:=by omega
    have hwH:OQ w:=⟨hw,by omega⟩;have atq:65536*(jY l/65536^(m+1))+min j d+f<=jY l/65536^m:=by omega
    have atr:jY w+jY k*f<=jY l/65536^m*jY k:=by
     rw[hwv,Nat.mul_comm (jY k),<-Nat.add_mul];exact Nat.mul_le_mul_right _ atq
    have htl:jY k*f<65536^(k.length+1):=by rw[Nat.pow_succ];exact Nat.mul_lt_mul'' hW ξ
    rw[show min (1024:Int) ((d:Int)-(j:Int))=(f:Int) by omega,GZ _ _ hk ξ,ct,OV _ _ hwH (OW htl ξ),ct,dS,hj',kC ξ];refine⟨_,Y,⟨_,j',Y,λ_ hx=>jz η hx,by omega,?_,?_⟩,hmu⟩
    ·rw[dS,hwv,Nat.mul_comm (jY k),<-Nat.add_mul];congr 1;omega
    have:=(cL (B:=65536) η).2 (Nat.lt_of_le_of_lt atr hAW);omega
   right;rw[show decide ((j:Int)<(d:Int))=false by rw[decide_eq_false_iff_not];omega,ja];refine⟨_,Y,w,Y,hw,?_,hwl⟩;rw[hwv,show min j d=d by omega,<-hst]
  rintro _ ⟨w,rfl,h1,h2,h3⟩;exact⟨_,Y,w,Y,h1,h2,h3⟩
 rintro _ ⟨u,rfl,hu,huv,hul⟩;rw[oJ _ ξ,ct,oH η hu,show val 65536 u=jY l*jY k from huv]
end
section
open Go.Fw
theorem td2{a:Nat}:Int.tdiv (a:Int) 2=((a/2:Nat):Int):=by
 rw[Int.tdiv_eq_ediv_of_nonneg ξ];omega
theorem adh(a b:Nat):decide (Ea a b<=0)=decide (a<=b):=by
 rcases Nat.lt_trichotomy a b with h|h|h
 ·rw[yK h];simp;omega
 ·rw[h,CT];simp
 rw[AX h];simp;omega
theorem aaA{B:Nat}(hB:0<B){d:Nat}(hd:0<d)(V m:Nat):(V/B^(m+1)%d*B+V/B^m%B)/d=V/d/B^m%B:=by
 have h1:=afG (B:=B) hd V m;have h2:=acW (B:=B) hB hd V m;rw[Nat.div_div_eq_div_mul V d,Nat.mul_comm d,<-Nat.div_div_eq_div_mul,h1,Nat.mul_add_mod];symm;apply Nat.mod_eq_of_lt;rw[Nat.div_lt_iff_lt_mul hd,Nat.mul_comm B d];exact h2
theorem RK{a b:Nat}(h:b≠0)(ha:a<=9223372036854775807):Bl (a:Int) (b:Int)=some ((a/b:Nat):Int):=by
 unfold Bl;rw[if_neg ξ,Int.tdiv_eq_ediv_of_nonneg ξ,<-Int.natCast_ediv,kC (Nat.le_trans (Nat.div_le_self _ _) ha)]
theorem RL{a b:Nat}(h:b≠0):LG (a:Int) (b:Int)=some ((a%b:Nat):Int):=by
 unfold LG;rw[if_neg ξ,Int.tmod_eq_emod_of_nonneg ξ,<-Int.natCast_emod]
theorem aaB(n:Nat):List.replicate n (0:Int)=zl (g9 65536 n 0):=by rw[z7,zl,List.map_replicate];rfl
theorem RM{W X:Nat}(hW:0<W){k:List Nat}(hk:OQ k)(hkv:jY k=W){xs:List Nat}(hx:OQ xs)(hxv:jY xs=X)(H:Nat)(hH:0<H)(hH2:H<=65536)(hXH:X<H*W){R:Type}(f:Int->Option R)(r:R)(hf:f ((X/W:Nat):Int)=some r)(C2:k.length<=90000000000):
  (cm (λ(s54:Int×Int)=>
               match s54 with
               |⟨rV,xK⟩=>
                (show Option ((Int×Int)⊕(Int))from
                 (bif(decide ((1:Int)<(IntKind.i64.wrap (xK-rV))))then
                   (gU (zl k) (IntKind.i64.wrap (Int.tdiv (IntKind.i64.wrap (rV+xK)) 2))).bind λLM=>
                   (mJ LM (zl xs)).bind λLN=>
                   (bif(decide ((LN:Int)<=0))then
                     some (.inl (IntKind.i64.wrap (Int.tdiv (IntKind.i64.wrap (rV+xK)) 2),xK))
                    else
                     some (.inl (rV,IntKind.i64.wrap (Int.tdiv (IntKind.i64.wrap (rV+xK)) 2))))
                  else
                   some (.inr rV)))) ((0:Int),(H:Int))).bind f=some r:=by
 refine iK (λs=>∃lo hi:Nat,s=((lo:Int),(hi:Int))/\lo<hi/\hi<=65536/\lo*W<=X/\X<hi*W) (λe=>e=((X/W:Nat):Int)) (λs=>(s.2-s.1).toNat) ?_ ⟨0,H,Y,hH,hH2,by simp,hXH⟩ (λe he=>by rw[he];exact hf);rintro _ ⟨lo,hi,rfl,h1,h2,h3,h4⟩;simp only[];rw[cQ (x:=(hi:Int)-(lo:Int)) ξ ξ];by_cases Sa:1<hi-lo
 ·left;obtain⟨mid,att⟩:∃mid,(lo+hi)/2=mid:=⟨_,Y⟩;have hml:jY k*mid<65536^(k.length+1):=by rw[Nat.pow_succ];exact Nat.mul_lt_mul'' (AZ hk) ξ
  rw[show decide ((1:Int)<(hi:Int)-(lo:Int))=true by rw[decide_eq_true_eq];omega,iw,sE ξ,td2,att,kC ξ,GZ _ _ hk ξ,ct,OU _ _ (OW hml ξ) hx,ct,adh,dS,hkv,hxv];by_cases hle:W*mid<=X
  ·rw[show decide (W*mid<=X)=true by simp[hle],iw];exact⟨_,Y,⟨mid,hi,Y,by omega,h2,by rw[Nat.mul_comm];exact hle,h4⟩,by simp only[];omega⟩
  rw[show decide (W*mid<=X)=false by simp;omega,ja];exact⟨_,Y,⟨lo,mid,Y,by omega,by omega,h3,by rw[Nat.mul_comm];omega⟩,by simp only[];omega⟩
 right;rw[show decide ((1:Int)<(hi:Int)-(lo:Int))=false by rw[decide_eq_false_iff_not];omega,ja];refine⟨_,Y,?_⟩;have:hi=lo+1:=by omega
 subst this;have:X/W=lo:=by
  rw[Nat.div_eq_iff hW];rw[Nat.add_mul,Nat.one_mul]at h4;omega
 rw[this]
theorem Vd(V W:Nat)(hW:W≠0)(hV:(can 65536 V).length<=80000000000)(hWl:(can 65536 W).length<=80000000000):qR (zl (can 65536 V)) (zl (can 65536 W))=some (zl (can 65536 (V/W)),zl (can 65536 (V%W))):=by
 have tX:OQ (can 65536 V):=⟨λ_ hx=>jz η hx,by omega⟩;have adi:OQ (can 65536 W):=⟨λ_ hx=>jz η hx,by omega⟩;have hVl:=dw (B:=65536) η V;have adj:=dw (B:=65536) η W;have hW0:0<W:=by omega
 unfold qR;simp only[ct,cX,gE];obtain⟨n,hn⟩:∃n,(can 65536 V).length=n:=⟨_,Y⟩;by_cases h3:n<=3/\(can 65536 W).length<=3
 ·rw[hn,show decide ((n:Int)<=3)=true by rw[decide_eq_true_eq];omega,iw,ct,show decide (((can 65536 W).length:Int)<=3)=true by rw[decide_eq_true_eq];omega,iw,CW _ tX.1 ξ,ct,CW _ adi.1 ξ,ct,dS,dS];have hp:V<281474976710656:=by
   rw[hn]at hVl;have h2:65536^n<=65536^3:=Nat.pow_le_pow_right η h3.1;rw[show(65536:Nat)^3=281474976710656 by decide]at h2;omega
  have hq:V/W<=V:=Nat.div_le_self _ _;have hr:V%W<=V:=Nat.mod_le _ _;rw[RK hW ξ,ct,Lg _ ξ,ct,ct,ct,RL hW,ct,Lg _ ξ,ct]
 have Ev:(((bif decide ((n:Int)<=3)then some (decide (((can 65536 W).length:Int)<=3))else some false):Option Bool))=some false:=by
  by_cases q1:n<=3
  ·have q2:¬(can 65536 W).length<=3:=λh=>h3 ⟨q1,h⟩;rw[show decide (((can 65536 W).length:Int)<=3)=false by rw[decide_eq_false_iff_not];omega];exact FO _ _
  rw[show decide ((n:Int)<=3)=false by rw[decide_eq_false_iff_not];omega,ja]
 rw[hn]at hVl hV;have hQ:V/W<65536^n:=Nat.lt_of_le_of_lt (Nat.div_le_self _ _) hVl;rw[hn,Ev,ct,ja,za η ξ,ct,aaB];have hlen:(can 65536 W).length≠0:=λe=>hW (FI η (List.length_eq_zero_iff.1 e));by_cases h1:(can 65536 W).length=1
 ·have hWs:W<65536:=by rw[h1]at adj;simpa using adj
  have hg0:(can 65536 W)[0]? =some W:=by rw[CR η ξ];simp;exact hWs
  have hgw:=CQ (Ed hg0);rw[h1,show decide (((1:Nat):Int)=1)=true by simp,iw,cQ ξ ξ];refine bK (λj=>(((V/65536^(n-j)%W:Nat):Int),(n:Int)-1-(j:Int),zl (g9 65536 n (V/W/65536^(n-j)*65536^(n-j))))) n (((V%W:Nat):Int),zl (g9 65536 n (V/W))) ?_ (λj hj=>?_) ?_ ?_
  ·rw[Nat.sub_zero,Nat.div_eq_of_lt hVl,Nat.div_eq_of_lt hQ];simp
  ·obtain⟨m,hm⟩:∃m,n=m+j+1:=⟨n-j-1,by omega⟩;have hg:(can 65536 V)[m]? =some (V/65536^m%65536):=CR η ξ;have TM:=aaA (B:=65536) η hW0 V m;have RA:=aag (B:=65536) (d:=W) V m;have Sh:=Nat.mod_lt (V/65536^(m+1)) hW0;have hdl:=Nat.mod_lt (V/65536^m) (show 0<65536 by decide);have hput:=OO (B:=65536) η (N:=n) (k:=m) ξ (V/W);rw[show n-j=m+1 by omega,show n-(j+1)=m by omega,show(n:Int)-1-(j:Int)=(m:Int) by omega,show(n:Int)-1-((j+1:Nat):Int)=(m:Int)-1 by omega];simp only[];rw[show decide ((0:Int)<=(m:Int))=true by simp,iw,bH (Ed hg),ct,hgw,ct];rw[<-TM]at hput;rw[RA,<-hput];generalize V/65536^(m+1)%W=r at*;generalize V/65536^m%65536=d at*;rw[cQ (x:=(r:Int)*65536) ξ ξ,cQ (x:=(r:Int)*65536+(d:Int)) ξ ξ,show(r:Int)*65536+(d:Int)=((r*65536+d:Nat):Int) by omega,RK hW ξ,ct,ct,RL hW,ct,cO (by rw[gE,cu];omega),ct,fK (by rw[gE,cu];omega),ct,cQ (x:=(m:Int)-1) ξ ξ,aat]
  ·simp only[];rw[show decide ((0:Int)<=(n:Int)-1-(n:Int))=false by rw[decide_eq_false_iff_not];omega,ja,Nat.sub_self,Nat.pow_zero,Nat.mul_one,Nat.div_one,Nat.div_one]
  simp only[];rw[oJ _ (by rw[cu];omega),ct,vC η hQ,show[((V%W:Nat):Int)]=zl [V%W]from Y,oJ _ θ,ct];have hr:=Nat.mod_lt V hW0;rw[oH (B:=65536) (l:=[V%W]) η (by intro y hy;simp at hy;omega)];simp[val]
 rw[show decide (((can 65536 W).length:Int)=1)=false by rw[decide_eq_false_iff_not];omega,ja,cQ ξ ξ];refine bK (λj=>(zl (can 65536 (V/65536^(n-j)%W)),(n:Int)-1-(j:Int),zl (g9 65536 n (V/W/65536^(n-j)*65536^(n-j))))) n (zl (can 65536 (V%W)),zl (g9 65536 n (V/W))) ?_ (λj hj=>?_) ?_ ?_
 ·rw[Nat.sub_zero,Nat.div_eq_of_lt hVl,Nat.div_eq_of_lt hQ];simp[xT,zl]
 ·obtain⟨m,hm⟩:∃m,n=m+j+1:=⟨n-j-1,by omega⟩;have hg:(can 65536 V)[m]? =some (V/65536^m%65536):=CR η ξ;have TM:=aaA (B:=65536) η hW0 V m;have RA:=aag (B:=65536) (d:=W) V m;have Sh:=Nat.mod_lt (V/65536^(m+1)) hW0;have hdl:=Nat.mod_lt (V/65536^m) (show 0<65536 by decide);have hXW:=acW (B:=65536) η hW0 V m;have hput:=OO (B:=65536) η (N:=n) (k:=m) ξ (V/W);rw[show n-j=m+1 by omega,show n-(j+1)=m by omega,show(n:Int)-1-(j:Int)=(m:Int) by omega,show(n:Int)-1-((j+1:Nat):Int)=(m:Int)-1 by omega];simp only[];rw[<-TM]at hput;rw[RA,<-hput,show decide ((0:Int)<=(m:Int))=true by simp,iw,bH (Ed hg),ct];generalize V/65536^(m+1)%W=r at*;generalize V/65536^m%65536=d at*;obtain⟨X,hX⟩:∃X,r*65536+d=X:=⟨_,Y⟩;rw[hX]at hXW⊢;have hrc:(can 65536 r).length<=(can 65536 W).length:=(cL η).2 (Nat.lt_trans Sh adj);have hxl:(can 65536 X).length<=(can 65536 W).length+1:=(cL η).2 (by rw[Nat.pow_succ];exact Nat.lt_trans hXW (Nat.mul_lt_mul_of_pos_right adj η));have hval:val 65536 (d::can 65536 r)=X:=by
   show d+65536*val 65536 (can 65536 r)=X;rw[pq η];omega
  have rS:OQ (can 65536 X):=⟨λ_ hx=>jz η hx,by omega⟩;rw[aab η (by rw[gE];simp;omega),ct,show[(d:Int)]++zl (can 65536 r)=zl (d::can 65536 r)from rfl,oJ _ aH,ct,oH (B:=65536) η (by intro y hy;simp at hy;rcases hy with rfl|hy;exact hdl;exact jz η hy),hval];have hqW:W*(X/W)<=X:=Nat.mul_div_le X W;have atu:X/W<65536:=by rw[Nat.div_lt_iff_lt_mul hW0,Nat.mul_comm];exact hXW
  have aap:((gU (zl (can 65536 W)) ((X/W:Nat):Int)).bind λSH=>(jQ (zl (can 65536 X)) SH).bind λZa=>(qK (zl (g9 65536 n (V/W/65536^(m+1)*65536^(m+1)))) (m:Int)).bind λQT=>(stM (zl (g9 65536 n (V/W/65536^(m+1)*65536^(m+1)))) QT ((X/W:Nat):Int)).bind λl58=>(some (.inl (Za,IntKind.i64.wrap ((m:Int)-1),l58)):Option ((List Int×Int×List Int)⊕(List Int×List Int))))=some (.inl (zl (can 65536 (X%W)),(m:Int)-1,zl ((g9 65536 n (V/W/65536^(m+1)*65536^(m+1))).set m (X/W)))):=by
   rw[GZ _ _ adi atu,ct,dS,I1 _ _ rS (OW (Nat.lt_of_le_of_lt hqW (dw η X)) ξ) (by rw[dS,dS];exact hqW),ct,dS,dS,cO (by rw[gE,cu];omega),ct,fK (by rw[gE,cu];omega),ct,cQ (x:=(m:Int)-1) ξ ξ,aat,<-Nat.mod_eq_sub_mul_div]
  rw[gE];by_cases hsh:(can 65536 X).length<(can 65536 W).length
  ·rw[show decide (((can 65536 X).length:Int)<((can 65536 W).length:Int))=true by rw[decide_eq_true_eq];omega,iw];exact RM hW0 adi (dS W) rS (dS X) 1 η η (by rw[Nat.one_mul];exact Eb η hsh) _ _ aap ξ
  rw[show decide (((can 65536 X).length:Int)<((can 65536 W).length:Int))=false by rw[decide_eq_false_iff_not];omega,ja];exact RM hW0 adi (dS W) rS (dS X) 65536 η η (by rw[Nat.mul_comm];exact hXW) _ _ aap ξ
 ·simp only[];rw[show decide ((0:Int)<=(n:Int)-1-(n:Int))=false by rw[decide_eq_false_iff_not];omega,ja,Nat.sub_self,Nat.pow_zero,Nat.mul_one,Nat.div_one,Nat.div_one]
 simp only[];rw[oJ _ (by rw[cu];omega),ct,vC η hQ]
end
section
open Go.Fw
theorem FU{v:Nat}:(can 65536 v).length=0↔v=0:=by
 constructor
 ·intro h;exact FI η (List.length_eq_zero_iff.1 h)
 intro h;rw[h,xT];rfl
theorem Ee{v:Nat}(h:(can 65536 v).length<=100000000000):OQ (can 65536 v):=⟨λ_ hx=>jz η hx,h⟩
theorem FV{x:Zr}(h:Wl x):gw x=some (zi x).sign:=by
 unfold gw;simp only[jv h,ct,gE];have hz:=FU (v:=(zi x).natAbs);have hneg:x.neg=true->zi x<=0:=λe=>by unfold zi;rw[e];simp[sv]
 have hpos:x.neg=false->0<=zi x:=λe=>by unfold zi;rw[e];simp[sv]
 by_cases h0:zi x=0
 ·rw[h0];rfl
 rw[show decide (((can 65536 (zi x).natAbs).length:Int)=0)=false by rw[decide_eq_false_iff_not];omega,ja];cases hn:x.neg
 ·have:=hpos hn;rw[ja,Int.sign_eq_one_of_pos ξ]
 have:=hneg hn;rw[iw,Int.sign_eq_neg_one_of_neg ξ]
theorem adl{x y:Zr}(hx:Wl x)(hy:Wl y):vh x y=some (qF (zi x) (zi y)):=by
 have cx:=hx.Wu;have cy:=hy.Wu;unfold vh;simp only[zeta',FV hx,FV hy,ct,jv hx,jv hy];rw[OU _ _ (Ee ξ) (Ee ξ),dS,dS];simp only[ct];generalize zi x=i;generalize zi y=j;rw[Lb];rcases Int.lt_trichotomy i 0 with h1|h1|h1<;>rcases Int.lt_trichotomy j 0 with h2|h2|h2
 ·rw[Int.sign_eq_neg_one_of_neg h1,Int.sign_eq_neg_one_of_neg h2,show(i.natAbs:Int)=-i by omega,show(j.natAbs:Int)=-j by omega,RC];show some (IntKind.i64.wrap (0-qF j i))=_;rw[Wv]
 ·rw[Int.sign_eq_neg_one_of_neg h1,show Int.sign j=0 by rw[h2];rfl,show qF i j=-1 from lX ξ];rfl
 ·rw[Int.sign_eq_neg_one_of_neg h1,Int.sign_eq_one_of_pos h2,show qF i j=-1 from lX ξ];rfl
 ·rw[show Int.sign i=0 by rw[h1];rfl,Int.sign_eq_neg_one_of_neg h2,show qF i j=1 from lY ξ];rfl
 ·rw[h1,h2];rfl
 ·rw[show Int.sign i=0 by rw[h1];rfl,Int.sign_eq_one_of_pos h2,show qF i j=-1 from lX ξ];rfl
 ·rw[Int.sign_eq_one_of_pos h1,Int.sign_eq_neg_one_of_neg h2,show qF i j=1 from lY ξ];rfl
 ·rw[Int.sign_eq_one_of_pos h1,show Int.sign j=0 by rw[h2];rfl,show qF i j=1 from lY ξ];rfl
 rw[Int.sign_eq_one_of_pos h1,Int.sign_eq_one_of_pos h2,show(i.natAbs:Int)=i by omega,show(j.natAbs:Int)=j by omega];rfl
theorem svz(x:Zr):sv x.neg (zi x).natAbs=zi x:=by rw[Cx];rfl
theorem Ve{x:Zr}(hx:Wl x):qS x=some (zn (-zi x)):=by
 have cx:=hx.Wu;unfold qS;simp only[ct,jv hx];rw[vR _ _ ξ,ct,La,svz]
theorem adm{x:Zr}(hx:Wl x):vi x=some (zn ((zi x).natAbs:Int)):=by
 have cx:=hx.Wu;unfold vi;simp only[ct,jv hx];rw[vR _ _ ξ,ct,oI]
theorem adn{x y:Zr}(hx:Wl x)(hy:Wl y):vm x y=some (zn (zi x+zi y)):=by
 have cx:=hx.Wu;have cy:=hy.Wu;unfold vm;simp only[ct,jv hx,jv hy];have ex:=svz x;have ey:=svz y;generalize (zi x).natAbs=a at*;generalize (zi y).natAbs=b at*;have la:=dw (B:=65536) η a;have lb:=dw (B:=65536) η b;rw[<-ex,<-ey];generalize x.neg=n;generalize y.neg=m;by_cases hnm:n=m
 ·subst hnm;have hl:(can 65536 (a+b)).length<=max (can 65536 a).length (can 65536 b).length+1:=by
   apply(cL η).2;have h1:a<65536^max (can 65536 a).length (can 65536 b).length:=Nat.lt_of_lt_of_le la (Nat.pow_le_pow_right η ξ);have h2:b<65536^max (can 65536 a).length (can 65536 b).length:=Nat.lt_of_lt_of_le lb (Nat.pow_le_pow_right η ξ);rw[Nat.pow_succ];omega
  rw[show(n==n)=true by simp,iw,OV _ _ (Ee ξ) (Ee ξ),ct,dS,dS,vR _ _ ξ,ct,show sv n (a+b)=sv n a+sv n b by cases n<;>simp[sv];omega]
 have hm:m= !n:=by cases n<;>cases m<;>simp_all
 subst hm;rw[show(n== !n)=false by cases n<;>rfl,ja,OU _ _ (Ee ξ) (Ee ξ),ct,dS,dS];by_cases hlt:b<=a
 ·have hc:decide ((0:Int)<=Ea a b)=true:=by
   rw[decide_eq_true_eq];rcases Nat.lt_or_ge b a with h|h
   ·rw[AX h];decide
   rw[show a=b by omega,CT];decide
  have hl:(can 65536 (a-b)).length<=(can 65536 a).length:=(cL η).2 ξ;rw[hc,iw,I1 _ _ (Ee ξ) (Ee ξ) (by rw[dS,dS];exact hlt),ct,dS,dS,vR _ _ ξ,ct,show sv n (a-b)=sv n a+sv (!n) b by cases n<;>simp[sv]<;>omega]
 have hc:decide ((0:Int)<=Ea a b)=false:=by rw[yK ξ];decide
 have hl:(can 65536 (b-a)).length<=(can 65536 b).length:=(cL η).2 ξ;rw[hc,ja,I1 _ _ (Ee ξ) (Ee ξ) (by rw[dS,dS];omega),ct,dS,dS,vR _ _ ξ,ct,show sv (!n) (b-a)=sv n a+sv (!n) b by cases n<;>simp[sv]<;>omega]
theorem FW{x y:Zr}(hx:Wl x)(hy:Wl y):kY x y=some (zn (zi x*zi y)):=by
 have cx:=hx.Wu;have cy:=hy.Wu;unfold kY;simp only[ct,jv hx,jv hy];have ex:=svz x;have ey:=svz y;generalize (zi x).natAbs=a at*;generalize (zi y).natAbs=b at*;have la:=dw (B:=65536) η a;have lb:=dw (B:=65536) η b;have hl:(can 65536 (a*b)).length<=(can 65536 a).length+(can 65536 b).length:=by
  apply(cL η).2;rw[Nat.pow_add];exact Nat.mul_lt_mul'' la lb
 rw[adg _ _ (Ee ξ) (Ee ξ) ξ,ct,dS,dS,vR _ _ ξ,ct,TS,ex,ey]
theorem Vf{x y:Zr}(hx:Wl x)(hy:Wl y):qT x y=some (RE (zi x) (zi y)):=by
 have cx:=hx.Wu;have cy:=hy.Wu;unfold qT;simp only[ct,cX,jv hx,jv hy,gE];have ex:=svz x;have ey:=svz y;generalize (zi x).natAbs=a at*;generalize (zi y).natAbs=b at*;rw[<-ex,<-ey];generalize x.neg=n;generalize y.neg=m;by_cases h0:b=0
 ·subst h0;rw[show sv m 0=0 by cases m<;>rfl];rfl
 have Di:(can 65536 b).length≠0:=λh=>h0 (FU.1 h);have hm:a%b<b:=Nat.mod_lt _ ξ;have la:=dw (B:=65536) η a;have lb:=dw (B:=65536) η b;obtain⟨e1,e2⟩:=aar n m (a:=a) (show 0<b by omega);have hj:sv m b≠0:=by cases m<;>simp[sv]<;>omega
 have hq:(can 65536 (a/b)).length<=(can 65536 a).length:=(cL η).2 (Nat.lt_of_le_of_lt (Nat.div_le_self _ _) la);have hr:(can 65536 (a%b)).length<=(can 65536 b).length:=(cL η).2 (Nat.lt_trans hm lb);rw[show decide (((can 65536 b).length:Int)=0)=false by rw[decide_eq_false_iff_not];omega,ja,Vd a b h0 ξ ξ,ct,RE,if_neg hj,e1,e2];simp only[gE];have hz:=FU (v:=a%b);have hK:∀c:Bool,(decide (n=true/\0<a%b)=c)->(bif c then(kX (zl (can 65536 (a/b))) [1]).bind λqk=>(jQ (zl (can 65536 b)) (zl (can 65536 (a%b)))).bind λmI=>(dY (!(n==m)) qk).bind λx=>(dY false mI).bind λx_1=>some ((⟨x.neg,x.w⟩:Zr),(⟨x_1.neg,x_1.w⟩:Zr),(0:Int))
   else(dY (!(n==m)) (zl (can 65536 (a/b)))).bind λx=>(dY false (zl (can 65536 (a%b)))).bind λx_1=>some ((⟨x.neg,x.w⟩:Zr),(⟨x_1.neg,x_1.w⟩:Zr),(0:Int)))=
   some (zn (if n=true/\0<a%b then sv (!(n==m)) (a/b+1)else sv (!(n==m)) (a/b)),zn (if n=true/\0<a%b then((b-a%b:Nat):Int)else((a%b:Nat):Int)),0):=by
  intro c hc;cases c
  ·have hc':=of_decide_eq_false hc;rw[ja,if_neg hc',if_neg hc',vR _ _ ξ,ct,vR _ _ ξ,ct,oI]
  have hc':=of_decide_eq_true hc;have hq1:(can 65536 (a/b+1)).length<=(can 65536 a).length+1:=by
   apply(cL η).2;have:a/b<=a:=Nat.div_le_self _ _;rw[Nat.pow_succ];omega
  have hbr:(can 65536 (b-a%b)).length<=(can 65536 b).length:=(cL η).2 ξ;rw[iw,if_pos hc',if_pos hc',show[(1:Int)]=zl [1]from Y,OV _ _ (Ee ξ) ⟨by simp,by simp⟩,ct,dS,show jY [1]=1 by decide,I1 _ _ (Ee ξ) (Ee ξ) (by rw[dS,dS];omega),ct,dS,dS,vR _ _ ξ,ct,vR _ _ ξ,ct,oI]
 cases n
 ·rw[ja,ct];exact hK false θ
 rw[iw,ct];refine hK _ ?_;simp only[true_and];by_cases h:0<a%b
 ·rw[show decide (0<a%b)=true by simp[h],show decide ((0:Int)<((can 65536 (a%b)).length:Int))=true by rw[decide_eq_true_eq];omega]
 rw[show decide (0<a%b)=false by simp[h],show decide ((0:Int)<((can 65536 (a%b)).length:Int))=false by rw[decide_eq_false_iff_not];omega]
end
section
open Go.Fw
theorem ado{x y:Zr}(hx:Wl x)(hy:Wl y):vn x y=some (zn (Int.gcd (zi x) (zi y):Int)):=by
 have cx:=hx.Wu;have cy:=hy.Wu;unfold vn;simp only[ct,jv hx,jv hy];rw[Int.gcd];generalize (zi x).natAbs=a at*;generalize (zi y).natAbs=b at*;refine iK (λs=>∃c d,s=(zl (can 65536 c),zl (can 65536 d))/\Nat.gcd c d=Nat.gcd a b/\(can 65536 c).length<=20000000000/\(can 65536 d).length<=20000000000)
  (λe=>e=zl (can 65536 (Nat.gcd a b))/\(can 65536 (Nat.gcd a b)).length<=20000000000) (λs=>val 65536 (s.2.map Int.toNat)) ?_ ⟨a,b,Y,Y,cx,cy⟩ ?_
 ·rintro _ ⟨c,d,rfl,hg,hc,hd⟩;simp only[gE];have hzl:∀l:List Nat,(zl l).map Int.toNat=l:=λl=>by
   rw[zl,List.map_map];have:(Int.toNat∘λ(n:Nat)=>(n:Int))=id:=by funext n;simp
   rw[this,List.map_id]
  by_cases h0:d=0
  ·right;subst h0;rw[Nat.gcd_zero_right]at hg;subst hg;exact⟨_,Y,Y,hc⟩
  left;have Di:(can 65536 d).length≠0:=λh=>h0 (FU.1 h);have hm:c%d<d:=Nat.mod_lt _ ξ;rw[show decide ((0:Int)<((can 65536 d).length:Int))=true by rw[decide_eq_true_eq];omega,iw,Vd c d h0 ξ ξ,ct];refine⟨_,Y,⟨d,c%d,Y,?_,hd,?_⟩,?_⟩
  ·rw[<-hg,Nat.gcd_comm d,<-Nat.gcd_rec,Nat.gcd_comm]
  ·exact Nat.le_trans ((cL η).2 (Nat.lt_trans hm (dw η d))) hd
  simp only[];rw[hzl,hzl,pq η,pq η];exact hm
 rintro _ ⟨rfl,hl⟩;rw[vR _ _ ξ,ct,oI]
end
section
open Go.Fw
theorem Vg:qV=some (zn 1):=by
 unfold qV;simp only[zeta',ct,from_eq (x:=1) η]
section ops
variable {L M:Nat}{a b:Qr}{x y:Rat}
theorem rj(h:kO L a x)(hL:L<=10000000000):∃n d:Int,ij a=some (zn n)/\gJ a=some (zn d)/\0<d/\Rat.divInt n d=x/\Fit L n/\Fit L d:=by
 have wn:=h.wn hL;have wd:=h.wd hL;have hv:=h.v;unfold ij gJ;simp only[zeta',ct,FV wd,Vg,Ve wn,adm wd,RG wn];unfold qv qd at hv;rcases Int.lt_trichotomy (zi a.den) 0 with h1|h1|h1
 ·refine⟨-zi a.num,-zi a.den,?_,?_,by omega,?_,h.fn.neg,h.fd.neg⟩
  ·rw[Int.sign_eq_neg_one_of_neg h1];rfl
  ·rw[Int.sign_eq_neg_one_of_neg h1,show((zi a.den).natAbs:Int)=-zi a.den by omega];rfl
  rw[Rat.neg_divInt_neg,<-hv,if_neg ξ]
 ·refine⟨zi a.num,1,?_,?_,by decide,?_,h.fn,CU h.l1⟩
  ·rw[h1];rfl
  ·rw[h1];rfl
  rw[<-hv,if_pos h1]
 refine⟨zi a.num,zi a.den,?_,?_,h1,?_,h.fn,h.fd⟩
 ·rw[Int.sign_eq_one_of_pos h1];rfl
 ·rw[Int.sign_eq_one_of_pos h1,show((zi a.den).natAbs:Int)=zi a.den by omega];rfl
 rw[<-hv,if_neg ξ]
theorem I2{n d:Int}(hn:Fit L n)(hd:Fit L d)(hL:L<=10000000000)(h:0<d):jF (zn n) (zn d)=some (qn (Rat.divInt n d)):=by
 have wn:=gO hn hL;have wd:=gO hd hL;have g0:(Int.gcd n d:Int)≠0:=by
  have:0<Int.gcd n d:=Int.gcd_pos_of_ne_zero_right _ ξ;omega
 have wg:Wl (zn (Int.gcd n d:Int)):=gO (hd.le (by
  have:=Nat.le_of_dvd (Int.natAbs_pos.2 (show d≠0 by omega)) (Int.gcd_dvd_natAbs_right n d);simpa using this)) hL
 have wq:Wl (zn (d/(Int.gcd n d:Int))):=gO (hd.le (Int.natAbs_ediv_le_natAbs _ _)) hL;have one:ia 1:=by decide
 unfold jF;simp only[zeta',ct,ado wn wd,Vf wn wg,Vf wd wg,Vg,gN];rw[RE,if_neg g0,RE,if_neg g0];simp only[];rw[adl wq (aau one),ct,gN,gN,GY h];by_cases e:d/(Int.gcd n d:Int)=1
 ·rw[e,wX,if_pos rfl];rfl
 have:qF (d/(Int.gcd n d:Int)) 1≠0:=by
  rcases Int.lt_trichotomy (d/(Int.gcd n d:Int)) 1 with q|q|q
  ·rw[lX q];decide
  ·exact absurd q e
  rw[lY q];decide
 rw[decide_eq_false this,ja,if_neg e]
theorem kO.TW(ha:kO L a x)(h:L<=10000000000):jS a=some (qn x):=by
 obtain⟨n,d,e1,e2,h1,h2,f1,f2⟩:=rj ha h;unfold jS;simp only[zeta',sH,pX,e1,e2,ct,I2 f1 f2 h h1,h2]
theorem aiZ(h1:a.num.w.length<=100000000000)(h2:a.den.w.length<=100000000000):∃c,xM a b=some c/\(c=true↔a=b):=by
 obtain⟨c1,e1,k1⟩:=U7 (x:=a.num) (y:=b.num) h1;obtain⟨c2,e2,k2⟩:=U7 (x:=a.den) (y:=b.den) h2;unfold xM;simp only[zeta',ct,cX,e1,e2];have hab:a=b↔a.num=b.num/\a.den=b.den:=by
  constructor
  ·rintro rfl;exact⟨rfl,rfl⟩
  rintro⟨e1,e2⟩;rw[<-pX a,<-pX b,e1,e2]
 rw[hab,<-k1,<-k2];cases c1
 ·exact⟨false,Y,by simp⟩
 exact⟨c2,Y,by simp⟩
theorem CX{n:Int}(hn:ia n):ik n=some (qn (n:Rat)):=by
 unfold ik;simp only[zeta',ct,from_eq hn];rw[aax]
theorem kO.ai0(ha:kO L a x)(h:L<=10000000000):oC a=some (qn (-x)):=by
 obtain⟨n,d,e1,e2,h1,h2,f1,f2⟩:=rj ha h;unfold oC;simp only[zeta',sH,pX,e1,e2,ct,Ve (gO f1 h),gN,I2 f1.neg f2 h h1];rw[<-Rat.neg_divInt,h2]
theorem kO.adp(ha:kO L a x)(hb:kO M b y)(h:L+M<=4000000000):mL a b=some (qn (x+y)):=by
 obtain⟨n,d,e1,e2,h1,h2,f1,f2⟩:=rj ha ξ;obtain⟨m,c,e3,e4,h3,h4,f3,f4⟩:=rj hb ξ;unfold mL;have u1:=(f1.mul f4);have u2:=(f3.mul f2).mono (show M+L<=L+M by omega);simp only[zeta',sH,pX,e1,e2,e3,e4,ct,FW (gO f1 ξ) (gO f4 ξ),FW (gO f3 ξ) (gO f2 ξ),gN,adn (gO u1 ξ) (gO u2 ξ),FW (gO f2 ξ) (gO f4 ξ),I2 (u1.add u2) ((f2.mul f4).mono ξ) (show L+M+1<=10000000000 by omega) (Int.mul_pos h1 h3)];rw[<-h2,<-h4,Rat.divInt_add_divInt _ _ ξ ξ]
theorem kO.atv(ha:kO L a x)(hb:kO M b y)(h:L+M<=4000000000):vo a b=some (qn (x-y)):=by
 unfold vo;have r:kO M (qn (-y)) (-y):=hb.fq.neg.rep hb.l1;simp only[zeta',sH,pX,hb.ai0 ξ,ct,ha.adp r h];rw[<-Rat.sub_eq_add_neg]
theorem kO.aaC(ha:kO L a x)(hb:kO M b y)(h:L+M<=4000000000):kZ a b=some (qn (x*y)):=by
 obtain⟨n,d,e1,e2,h1,h2,f1,f2⟩:=rj ha ξ;obtain⟨m,c,e3,e4,h3,h4,f3,f4⟩:=rj hb ξ;unfold kZ;simp only[zeta',sH,pX,e1,e2,e3,e4,ct,FW (gO f1 ξ) (gO f3 ξ),gN,FW (gO f2 ξ) (gO f4 ξ),I2 (f1.mul f3) (f2.mul f4) (show L+M<=10000000000 by omega) (Int.mul_pos h1 h3)];rw[<-h2,<-h4,Rat.divInt_mul_divInt]
theorem kO.RN(ha:kO L a x)(h:L<=10000000000):jG a=some (pW x 0):=by
 obtain⟨n,d,e1,e2,h1,h2,f1,f2⟩:=rj ha h;unfold jG;simp only[zeta',sH,pX,e1,ct,FV (gO f1 h),gN];rw[<-h2,<-yL h1]
theorem aaD(x y:Rat):pW (x-y) 0=pW x y:=by
 unfold pW;by_cases h:x<y
 ·rw[if_pos h,if_pos (by grind)]
 rw[if_neg h,if_neg (by grind)];by_cases h2:x=y
 ·rw[if_pos h2,if_pos (by grind)]
 rw[if_neg h2,if_neg (by grind)]
theorem kO.atw(ha:kO L a x)(hb:kO M b y)(h:L+M<=4000000000):vr a b=some (pW x y):=by
 unfold vr;have r:kO (L+M+1) (qn (x-y)) (x-y):=(ha.fq.sub hb.fq).rep ξ;simp only[zeta',sH,pX,ha.atv hb h,ct,r.RN ξ,aaD]
theorem kO.atx(ha:kO L a x)(hb:kO M b y)(h:L+M<=4000000000)(h0:y≠0):vp a b=some (qn (x/y),0):=by
 obtain⟨m,c,e3,e4,h3,h4,f3,f4⟩:=rj hb ξ;have hm:m≠0:=λe=>h0 (by rw[<-h4,e,Rat.zero_divInt]);have rp:=aay hm f4 f3 hb.l1;have r:=rp.fq.rep hb.l1;unfold vp;simp only[zeta',sH,pX,hb.RN (show M<=10000000000 by omega),e3,e4,ct,rp.TW (show M<=10000000000 by omega),ha.aaC r h];rw[decide_eq_false (λe=>h0 (nJ.1 e)),ja,Rat.div_def,<-h4,Rat.inv_divInt]
end ops
end
section
open Go.Fw
theorem cw{J R:Type}{f:J->Option R}{g:(J->Option R)->Option R}{r:Option R}(h:g f=r):cX f g=r:=h
theorem uG{J R:Type}(f:J->Option R)(g:(J->Option R)->Option R):cX f g=g f:=rfl
section ops
variable {K L M:Nat}{c:Qr}{a b:List Qr}{k:Rat}{f g:Nat->Rat}
theorem RO(ha:eM L a f)(h:L<=10000000000)(m:Nat)(hm:m<=65536){body:Int×List Qr->Option ((Int×List Qr)⊕List Qr)}
  (hb:∀s,body s=(some (decide (s.1<((min a.length m:Nat):Int)))).bind λfe=>(bif fe then(cV a s.1).bind λq=>(dV q).bind λw=>(qK s.2 s.1).bind λjm=>(stM s.2 jm w).bind λEE=>(some (IntKind.i64.wrap (s.1+1))).bind λlO=>some (.inl (lO,EE))else some (.inr s.2))):
  (cm body (0,List.replicate m qz)).bind (λr=>some r)=some (vq m f):=by
 refine bK (λj=>((j:Int),vq j f++List.replicate (m-j) qz)) (min a.length m) (vq m f) Y (λj hj=>?_) ?_ Y
 ·obtain⟨q,hq,rq⟩:=ha.get (show j<a.length by omega);rw[hb];refine aC Y<|bY (decide_eq_true (by show(j:Int)<_;omega))<|aC (bH hq)<|aC (rq.canon h).1<|aC (cO (by rw[AY ξ];omega))<|aC (fK (by rw[AY ξ];omega))<|aC Y ?_;rw[OT ξ,bQ ξ]
 rw[hb];refine aC Y<|bL (decide_eq_false (by show ¬((min a.length m:Nat):Int)<_;omega)) ?_;rw[aiW ξ (λi h1 h2=>ha.z i ξ)]
theorem Vh(ha:eM L a f)(h:L<=10000000000)(la:a.length<=1000000)(n:Int):kU a n=some (vq (min n 65536).toNat f):=by
 unfold kU;refine aC Y ?_;by_cases hn:n<1
 ·refine bY (decide_eq_true hn) ?_;rw[show(min n 65536).toNat=0 by omega];rfl
 refine bL (decide_eq_false hn) ?_;obtain⟨m,hm⟩:∃m:Nat,min n 65536=(m:Int):=⟨(min n 65536).toNat,by omega⟩;rw[hm];refine aC Y<|aC (za ξ ξ)<|aC Y<|aC Y<|aC (congrArg some (adf a _)) ?_;rw[List.length_replicate];refine RO ha h m ξ (λs=>?_);obtain⟨i,l⟩:=s;rfl
theorem FX{l:List Int}(hl:∀x∈l,ia x)(h:l.length<=1000000):dW l=some (vq l.length λi=>((l.getD i 0:Int):Rat))/\eM 2 (vq l.length λi=>((l.getD i 0:Int):Rat)) (λi=>((l.getD i 0:Int):Rat)):=by
 have hx:∀i,ia (l.getD i 0):=λi=>by
  by_cases hi:i<l.length
  ·rw[List.getD_eq_getElem?_getD,List.getElem?_eq_getElem hi];exact hl _ (List.getElem_mem hi)
  rw[List.getD_eq_getElem?_getD,List.getElem?_eq_none ξ];decide
 refine⟨?_,pG (λi _=>(lB (hx i)).2.fq) (λi hi=>?_) η⟩
 ·unfold dW;refine aC Y<|aC (za ξ ξ)<|aC Y<|bK (λj=>((j:Int),vq j (λi=>((l.getD i 0:Int):Rat))++List.replicate (l.length-j) qz)) l.length (vq l.length λi=>((l.getD i 0:Int):Rat)) Y (λj hj=>?_) ?_ Y
  ·have e3:=(lB (hx j)).1;have h4:=OT (h:=λi=>((l.getD i 0:Int):Rat)) hj;obtain⟨q3,h3⟩:∃q,qn ((l.getD j 0:Int):Rat)=q:=⟨_,Y⟩;rw[h3]at e3 h4;obtain⟨⟨_,_⟩,⟨_,_⟩⟩:=q3;refine aC Y<|bY (decide_eq_true ξ)<|aC (bH (ic hj))<|aC e3<|aC (cO (by rw[AY ξ];exact hj))<|aC (fK (by rw[AY ξ];exact hj))<|aC Y ?_;rw[bQ ξ,h4]
  refine aC Y<|bL (decide_eq_false ξ) ?_;simp
 show((l.getD i 0:Int):Rat)=0;rw[mH hi];rfl
theorem aaE(m:Nat)(k:Int)(hk:0<=k->k<m):eM 1 (vq m λi=>if(i:Int)=k then 1 else 0) (λi=>if(i:Int)=k then 1 else 0):=by
 refine pG (λi _=>?_) (λi hi=>?_) ξ
 ·show FQ 1 (if(i:Int)=k then 1 else 0);split
  ·exact FQ.int (i:=1) (CU ξ) ξ
  exact nj ξ
 show(if(i:Int)=k then(1:Rat)else 0)=0;rw[if_neg ξ]
theorem A0(a:List Qr)(i:Nat):gZ a (i:Int)=some (a.getD i (⟨⟨false,[]⟩,⟨false,[]⟩⟩:Qr)):=by
 unfold gZ;rw[uG];refine aC Y<|aC (a:=decide ((i:Int)<(a.length:Int))) ?_ ?_
 ·exact bY (decide_eq_true (show(0:Int)<=(i:Int) by omega)) Y
 by_cases h:i<a.length
 ·refine bY (decide_eq_true ξ) ?_;have:=ic (l:=a) (d:=(⟨⟨false,[]⟩,⟨false,[]⟩⟩:Qr)) h;generalize a.getD i (⟨⟨false,[]⟩,⟨false,[]⟩⟩:Qr)=q at this⊢;obtain⟨⟨_,_⟩,⟨_,_⟩⟩:=q;exact aC (bH this) Y
 refine bL (decide_eq_false ξ) ?_;rw[mH ξ]
theorem adq{a:List Qr}(h:∀q∈a,q.num.w.length<=100000000000/\q.den.w.length<=100000000000)(hl:a.length<=100000000000):lI a a=some true:=by
 unfold lI;refine aC Y<|aC Y<|aC Y<|bL (decide_eq_false θ)<|bK (λj=>(j:Int)) a.length (.inl ()) Y (λj hj=>?_) ?_ Y
 ·have hq:=List.getElem?_eq_getElem hj;have hm:=h _ (List.getElem_mem hj);generalize a[j]=q at hq hm;obtain⟨c,e,k⟩:=aiZ (a:=q) (b:=q) hm.1 hm.2;rw[k.2 rfl]at e;obtain⟨⟨_,_⟩,⟨_,_⟩⟩:=q;refine aC Y<|aC Y<|bY (decide_eq_true ξ)<|aC (bH hq)<|aC (bH hq)<|aC e<|aC Y<|bL Y<|aC Y ?_;rw[bQ ξ]
 exact aC Y<|aC Y<|bL (decide_eq_false ξ) Y
theorem eM.ris(ha:eM L a f)(h:L<=100000000000)(hl:a.length<=100000000000):lI a a=some true:=by
 refine adq (λq hq=>?_) hl;obtain⟨i,hi,rfl⟩:=List.mem_iff_getElem.1 hq;have:=ha.e i hi;exact⟨Nat.le_trans this.ln h,Nat.le_trans this.ld h⟩
theorem Lh{α β:Type}(a:List α)(b:List β)(j:Nat):((bif decide ((j:Int)<(a.length:Int))then some true else(some (b.length:Int)).bind λfD=>(some (decide ((j:Int)<fD))).bind λdZ=>some dZ):Option Bool)=some (decide (j<max a.length b.length)):=by
 rw[ct,ct];by_cases h:j<a.length
 ·rw[decide_eq_true (show(j:Int)<a.length by omega),iw,decide_eq_true ξ]
 rw[decide_eq_false (show ¬(j:Int)<a.length by omega),ja];by_cases h':j<b.length
 ·rw[decide_eq_true (show(j:Int)<b.length by omega),decide_eq_true ξ]
 rw[decide_eq_false (show ¬(j:Int)<b.length by omega),decide_eq_false ξ]
theorem Vi(hc:kO K c k)(ha:eM L a f)(hb:eM M b g)(h:K+L+M<=4000000000)(la:a.length<=1000000)(lb:b.length<=1000000):iq c a b=some (vq (max a.length b.length) λi=>k*f i+g i):=by
 unfold iq;obtain⟨⟨_,_⟩,⟨_,_⟩⟩:=c;refine bK (λj=>((j:Int),vq j (λi=>k*f i+g i))) (max a.length b.length) (vq (max a.length b.length) λi=>k*f i+g i) Y (λj hj=>?_) ?_ Y
 ·refine aC (Lh a b j)<|bY (decide_eq_true hj) ?_;have a1:=A0 a j;have a2:=A0 b j;have e1:=hc.aaC (ha.gd j) ξ;have e3:=((hc.mul (ha.gd j) ξ).2.adp (hb.gd j) ξ);generalize a.getD j (⟨⟨false,[]⟩,⟨false,[]⟩⟩:Qr)=q1 at e1 a1;generalize b.getD j (⟨⟨false,[]⟩,⟨false,[]⟩⟩:Qr)=q2 at e3 a2;obtain⟨⟨_,_⟩,⟨_,_⟩⟩:=q1;obtain⟨⟨_,_⟩,⟨_,_⟩⟩:=q2;generalize qn (k*f j)=q4 at e1 e3;obtain⟨⟨_,_⟩,⟨_,_⟩⟩:=q4;obtain⟨q3,h3⟩:∃q,qn (k*f j+g j)=q:=⟨_,Y⟩;rw[lZ,h3];rw[h3]at e3;obtain⟨⟨_,_⟩,⟨_,_⟩⟩:=q3;refine aC a1<|aC e1<|aC a2<|aC e3<|aC (nh ξ (by rw[cq];omega))<|aC Y ?_;rw[bQ ξ]
 refine aC (Lh a b _) ?_;exact bL (decide_eq_false ξ) Y
theorem aaF(ha:eM L a f)(hb:eM M b g)(h:L+M+2<=4000000000)(la:a.length<=1000000)(lb:b.length<=1000000):qW a b=some (vq (max a.length b.length) λi=>f i-g i):=by
 unfold qW;have e:=CX (n:=-1) η;have r:=(lB (n:=-1) η).2;have e2:=Vi r hb ha ξ lb la;generalize qn ((-1:Int):Rat)=q at e r e2;obtain⟨⟨_,_⟩,⟨_,_⟩⟩:=q;refine aC e<|aC e2 ?_;rw[Nat.max_comm,dM (k:=λi=>f i-g i) (λi _=>by show((-1:Int):Rat)*g i+f i=_;grind)]
theorem TX(hc:kO K c k)(ha:eM L a f)(h:K+L+1<=4000000000)(la:a.length<=1000000):pP c a=some (vq a.length λi=>k*f i):=by
 unfold pP;have e2:=Vi hc ha (eM.nil (L:=1) ξ) ξ la θ;obtain⟨⟨_,_⟩,⟨_,_⟩⟩:=c;refine aC e2 ?_;rw[show max a.length ([]:List Qr).length=a.length by simp,dM (k:=λi=>k*f i) (λi _=>by grind)]
end ops
end
section
open Go.Fw
theorem aaG(l:List Qr)(hl:l.length<=1000000):∃b,r5 l=some b/\(b=false->∀q∈l,q.num.w.length<=6/\q.den.w.length<=6):=by
 unfold r5;simp only[ct];refine ni (λy=>∃i:Nat,y=(i:Int)/\i<=l.length/\∀z∈l.take i,z.num.w.length<=6/\z.den.w.length<=6) (λe=>(∃c,e=.inl c/\∀z∈l,z.num.w.length<=6/\z.den.w.length<=6)\/e=.inr true) (λy=>l.length-y.toNat) ?_ ⟨0,Y,by omega,by simp⟩ ?_
 ·rintro _ ⟨i,rfl,hi,ht⟩;by_cases hlt:i<l.length
  ·have g:l[i]? =some l[i]:=by simp
   obtain⟨q,hq⟩:∃q,l[i]=q:=⟨_,Y⟩;rw[hq]at g;obtain⟨z,w⟩:=q;obtain⟨b,hb,-⟩:=ada [z,w] θ;rw[show decide ((i:Int)<(l.length:Int))=true by simp[hlt],iw];simp only[bH g,ct,zeta',cX,hb];cases b
   ·rw[ja,ct];by_cases h1:6<z.w.length
    ·right;rw[decide_eq_true ξ,iw,ct,iw];exact⟨_,Y,.inr Y⟩
    rw[decide_eq_false ξ,ja,ct];by_cases h2:6<w.w.length
    ·right;rw[decide_eq_true ξ,iw];exact⟨_,Y,.inr Y⟩
    left;rw[decide_eq_false ξ,ja,bQ ξ];refine⟨_,Y,⟨i+1,Y,hlt,?_⟩,by omega⟩;rw[List.take_add_one,g];intro u hu;rcases List.mem_append.1 hu with h|h
    ·exact ht u h
    simp at h;rw[h];exact⟨by simp only[];omega,by simp only[];omega⟩
   right;exact⟨_,Y,.inr Y⟩
  right;rw[show decide ((i:Int)<(l.length:Int))=false by simp;omega,ja];rw[List.take_of_length_le ξ]at ht;exact⟨_,Y,.inl ⟨_,Y,ht⟩⟩
 rintro e (⟨c,rfl,he⟩|rfl)
 ·exact⟨false,Y,λ_=>he⟩
 exact⟨true,rfl,λh=>by cases h⟩
abbrev OkQ(q:Qr):Prop:=OkZ q.num/\OkZ q.den
theorem TY{q:Qr}{L:Nat}(h:OkQ q)(h1:q.num.w.length<=L)(h2:q.den.w.length<=L)(hL:1<=L):kO L q (qv q):=⟨h.1.2.2,h.2.2.2,h1,h2,hL,Y⟩
end
end Go.Proofs.YtningmnklfpfjaaGreat
