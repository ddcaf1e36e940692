/- The law BookRounding answers true for every input. -/
import Derived.Test.YtmiflmkdaeianaaPSG3
set_option linter.unusedVariables false
set_option linter.unusedSimpArgs false
set_option linter.unusedSectionVars false
namespace Go.Proofs.Ytmiflmkdaeianaa
section
open Go.Fw
theorem F3{x:Rat}{r:Int}(h:kC x r):kC (-x) (-r):=by
 unfold kC at*;rw[Rat.intCast_neg];rcases h with⟨h1,h2⟩|⟨h1|h1,h2⟩
 ·exact .inl (by constructor<;>grind)
 ·exact .inr ⟨.inr (by grind),by omega⟩
 exact .inr ⟨.inl (by grind),by omega⟩
theorem F4{x:Rat}{r m:Int}(h:kC x r):kC (x+((2*m:Int):Rat)) (r+2*m):=by
 unfold kC at*;rw[Rat.intCast_add];generalize ((2*m:Int):Rat)=u;rcases h with⟨h1,h2⟩|⟨h1|h1,h2⟩
 ·exact .inl (by constructor<;>grind)
 ·exact .inr ⟨.inl (by grind),by omega⟩
 exact .inr ⟨.inr (by grind),by omega⟩
theorem wZ{i j:Int}{K:Nat}(hf:Fit K i)(hK:K<=35184372088788)(e:i=j):cY (zn i) (zn j)=some true:=by
 subst e;exact wU (x:=zn i) (Nat.le_trans (cP hf hK).2 (by decide))
theorem F5{n:Int}(h: -2147483648<=n/\n<=2147483647):IntKind.i64.wrap n=n:=dI (by omega) (by omega)
theorem Di{x:Rat}{r:Int}(hn:kC x r)(h:0<mh (rG (x-(r:Rat))) (1/2)):False:=by
 have hh:(1:Rat)/2+1/2=1:=by grind
 have h:=Ao.1 h;unfold rG at h;unfold kC at hn;generalize (1:Rat)/2=u at*;generalize x-(r:Rat)=d at*;split at h
 ·rcases hn with⟨h1,h2⟩|⟨h1|h1,h2⟩<;>grind
 rcases hn with⟨h1,h2⟩|⟨h1|h1,h2⟩<;>grind
theorem Dj{x:Rat}{r:Int}(hn:kC x r)(h:mh (rG (x-(r:Rat))) (1/2)=0):r%2=0:=by
 have hh:(1:Rat)/2+1/2=1:=by grind
 have h:=F0.1 h;unfold rG at h;unfold kC at hn;generalize (1:Rat)/2=u at*;generalize x-(r:Rat)=d at*;rcases hn with⟨h1,h2⟩|⟨h1,h2⟩
 ·exfalso;split at h<;>grind
 exact h2
theorem vo(a b:Qr)(n:Int)(oa:T5 a)(ob:T5 b)(on: -2147483648<=n/\n<=2147483647):eF a b n=some true:=by
 obtain⟨t,ht,-⟩:=MC [[a,b]] (by simp);have ra:=Se oa;have rb:=Se ob;generalize qv a=x at ra;generalize qv b=y at rb;have fr:=tH ra.fq;have fs:=tH rb.fq;have hn:=qx x;have r1:=ra.round (by decide);obtain⟨i1,s1⟩:=je fr (by decide) (by decide);have fi:=Sf (kN x);obtain⟨e1,k1⟩:=ra.Sb fr (by decide) (by rw[fi];rcases hn with h|⟨h|h,_⟩<;>grind) (by rw[fi];rcases hn with h|⟨h|h,_⟩<;>grind);rw[fi]at e1 k1;rw[<-BA]at e1;generalize qn (x-(kN x:Rat))=q1 at e1 k1;obtain⟨e2,k2⟩:=k1.abs (by decide);obtain⟨q3,e3,k3⟩:=iJ (n:=1) (d:=2) (by decide) (by decide) (by decide);rw[Ko]at k3;have c1:=k2.cmp k3 (by decide);have w2:=dy (x:=2) (by decide) (by decide);have d1:=divMod_eq (cP fr (by decide)) (cP Sg (by decide));rw[bU,bU]at d1;replace d1:bT (zn (kN x)) (zn 2)=some (zn (kN x/2),zn (kN x%2),0):=d1;have g1:=sign_eq (cP (Ap (kN x)) (by decide));rw[bU]at g1;have n32:=F5 on;have n64:IntKind.i64.wrap (2*n)=2*n:=dI (by omega) (by omega);have f2:Fit 2 (2*n):=Fit.i64 (by omega) (by omega);have w3:=dy (x:=2*n) (by omega) (by omega);obtain⟨q4,e4,k4⟩:=ra.neg' (by decide);have r4:=k4.round (by decide);have n4:=neg_eq (cP fr (by decide));rw[bU]at n4
 have t4:cY (zn (kN (-x))) (zn (-kN x))=some true:=wZ (tH k4.fq) (by decide) (jY (F3 hn));obtain⟨i5,s5⟩:=je f2 (by decide) (by decide);obtain⟨q6,e6,k6⟩:=ra.add' s5 (by decide);have r6:=k6.round (by decide);have a6:=add_eq (cP fr (by decide)) (cP f2 (by decide));rw[bU,bU]at a6;have t6:cY (zn (kN (x+((2*n:Int):Rat)))) (zn (kN x+2*n))=some true:=wZ (tH k6.fq) (by decide) (jY (F4 hn));have c7:=ra.Sc rb (by decide) (by decide);have r8:=rb.round (by decide);have c8:=Mx (cP fr (by decide)) (cP fs (by decide));rw[bU,bU]at c8;have mono:¬0<mh x y->j9 (kN x) (kN y)<=0:=λh=>by
  have h1:x<=y:=by
   rcases Sd x y with k|k|k
   ·exact Rat.le_of_lt k
   ·rw[k];exact Rat.le_refl
   exact absurd (Ao.2 k) h
  have:=yj hn (qx y) h1;unfold j9
  repeat' split
  all_goals omega
 have hb:=Di hn;have hev:=Dj hn;clear s1 k1 k2 k3 k4 s5 k6 rb ra fr fs f2 hn on;unfold eF;refine fI<|aA ht<|orC (c:=false) (λ_=>aA vn Y) ?_;cases t
 case true=>exact fH Y<|aA vn Y
 generalize zn (kN x)=z1 at*;generalize zn (kN y)=z2 at*;generalize qn (kN x:Rat)=p1 at*;generalize qn (rG (x-(kN x:Rat)))=p2 at*;generalize zn 2=z3 at*;generalize zn (kN x/2)=z4 at*;generalize zn (kN x%2)=z5 at*;generalize zn (2*n)=z6 at*;generalize qn ((2*n:Int):Rat)=p3 at*;generalize zn (kN (-x))=z7 at*;generalize zn (-kN x)=z8 at*;generalize zn (kN (x+((2*n:Int):Rat)))=z9 at*;generalize zn (kN x+2*n)=z10 at*;refine cV Y<|aA r1<|aA i1<|aA e1<|aA e2<|aA e3<|aA c1<|aA w2<|aA d1<|fI<|aA (dF hb)<|aA (a:=false) (cV Y<|aA Y ?_)<|cV Y ?_
 ·by_cases h:mh (rG (x-(kN x:Rat))) (1/2)=0
  ·exact aA (a:=false) (fH (decide_eq_true h)<|aA g1<|aA (dF (by rw[hev h];decide)) Y) Y
  exact aA (a:=false) (cV (decide_eq_false h) Y) Y
 refine aA (congrArg some n32)<|aA (congrArg some n64)<|aA w3<|fI<|aA e4<|aA r4<|aA n4<|aA t4<|aA Y<|aA (a:=false) (cV Y<|aA i5<|aA e6<|aA r6<|aA a6<|aA t6 Y)<|cV Y<|fI<|aA c7<|aA Y ?_;by_cases h:0<mh x y
 ·exact aA (a:=true) (fH (decide_eq_true h) Y) Y
 exact aA (a:=true) (cV (decide_eq_false h)<|aA r8<|aA c8<|aA (dT (mono h)) Y) Y
def mst(n:Int)(es:List En)(m:Mv):List En:=Sh n es m (zn (kN (qv m.KS)))
def mk(n:Int)(l:List Mv):List En:=l.foldl (mst n) []
end
section
open Go.Fw Go.RowKit Go.ChangeShapes Go.WideShapes Go.ChangeAt
set_option linter.unusedVariables false
set_option maxRecDepth 100000 in
theorem mm(H:Type)(enc:TypeId×Value->H)(W:World)(base:Nat)(args:Array Value)(ds gs:List (DataW H))(before:List MemPlace)
  (hval:∀(j:Nat) t v,Try.f8.params[j]? =some t->args[j]? =some v->Value.okWide ah W .any base t v)
  (hW:DataW.Whole enc ah Try.f8.params.toList Rows.bookRoundingSpec.vars false W args.toList ds gs before) (hz:(DataW.weightsEach ah (Try.f8.params.toList++Rows.bookRoundingSpec.plain.varTypes ah) (ds++gs)).all (· <=reachBytes)=true):
  Calls ah 8 args W λe W'=>∃v,e=.returned v/\Rows.bookRoundingSpec.post enc ah Try.f8 false true false false W args v W':=by
 have hW':=hW;obtain⟨p,q,RX,hV,rfl,hfz,hnd⟩:=hW;have hA:DataW.TrodAll enc ah W 0 (λ_=>true) true Try.f8.params.toList args.toList ds p:=RX;rw[Try.params8]at hA hval hz;obtain⟨v0,F7,d0,ds0,p0,q0,hargs,rfl,rfl,h0,r0⟩:=trodAll_cons hA;obtain⟨v1,vs1,d1,ds1,p1,q1,rfl,rfl,rfl,h1,r1⟩:=trodAll_cons r0;obtain⟨v2,vs2,d2,ds2,p2,q2,rfl,rfl,rfl,h2,r2⟩:=trodAll_cons r1;obtain⟨rfl,rfl,rfl⟩:=trodAll_nil r2;obtain rfl:args=#[v0,v1,v2]:=by cases args;simp_all
 obtain⟨rfl,rfl⟩:=trodVars_none hV;have lt0:∀x∈p0,x.block<W.heap.size:=by obtain⟨m,hm⟩:=h0;exact DataW.trod_lt m _ _ _ hm
 obtain⟨x0,ok0,sz0,al0⟩:=BV (P:=ah) (T:=26) (e:=eQ) (hval 0 26 v0 Y Y) h0 (ko (t:=26) (d:=d0) 0 hz Y Y);have lt1:∀x∈p1,x.block<W.heap.size:=by obtain⟨m,hm⟩:=h1;exact DataW.trod_lt m _ _ _ hm
 obtain⟨x1,T6,sz1,al1⟩:=BV (P:=ah) (T:=26) (e:=eQ) (hval 1 26 v1 Y Y) h1 (ko (t:=26) (d:=d1) 1 hz Y Y);have lt2:∀x∈p2,x.block<W.heap.size:=by obtain⟨m,hm⟩:=h2;exact DataW.trod_lt m _ _ _ hm
 obtain⟨x2,T7,sz2,al2⟩:=GR (P:=ah) (T:=21) (e:=NK) (hval 2 21 v2 Y Y) h2 (ko (t:=21) (d:=d2) 2 hz Y Y);clear RX;refine(GS (mg (vo x0 x1 x2 ok0 T6 T7)) (W:=W) (vs:=[v0,v1,v2]) ⟨al0,al1,al2.1,aq⟩).mono λe W' ⟨he,T8⟩=>?_;subst he;exact⟨_,rfl,_,_,_,[],_,[],hW',trodAll_mk1 (shut_bool Try.underlying4 _),(trodAll_cons_mk (Below.trod uy (by kernel_rfl) (of_decide_eq_true (by kernel_rfl)) h0 T8 lt0) (trodAll_cons_mk (Below.trod uy (by kernel_rfl) (of_decide_eq_true (by kernel_rfl)) h1 T8 lt1) (trodAll_cons_mk (Below.trod uy (by kernel_rfl) (of_decide_eq_true (by kernel_rfl)) h2 T8 lt2) trodAll_mk0))),rfl,T8.frame _,λh=>by cases h⟩
set_option maxRecDepth 100000 in
theorem oc(os:Os)(started:os.Started)(H:Type)(enc:TypeId×Value->H):
  ReturnsInHanded {} Try.checked os 8 .any (Rows.bookRoundingSpec.pre6 enc ah Try.f8 Rows.bookRoundingRow.domain false) (Rows.bookRoundingSpec.post enc ah Try.f8 false true false false):=by
 refine returnsInHanded_of_change_sized (C:=Try.checked) U5 started (by kernel_rfl) Try.func8
  (ChangeSpec.witness6 (enc:=enc) (C:=Try.checked) false ⟨#[],#[.agg #[.bool false,.slice none 0 0,.bool false,.slice none 0 0],.agg #[.bool false,.slice none 0 0,.bool false,.slice none 0 0],.int .i32 0],[]⟩ 8 (by kernel_rfl) (by kernel_rfl) (by kernel_rfl) (by kernel_rfl)) ?_
 intro W base args ds gs before hval hW _ hz _;exact mm H enc W base args ds gs before hval hW hz
theorem bookRounding_holds:Rows.BookRoundingSaid:=
 OpenClaim.holds_of_wide 8 Try.f8 Y Y Y Y Y Y Y ⟨Y,Y,Y,Y,Y⟩ Y Y Y Y Y (by kernel_rfl) Try.func8 (by kernel_rfl)
  (of_decide_eq_true (by kernel_rfl)) (by unfold Func.isWrapper;first|(rw[if_pos (by decide+kernel)];kernel_rfl)|(rw[if_neg (by decide+kernel)];exact⟨Y,Y⟩))
  (λos started H enc _=>oc os started H enc)
end
end Go.Proofs.Ytmiflmkdaeianaa
