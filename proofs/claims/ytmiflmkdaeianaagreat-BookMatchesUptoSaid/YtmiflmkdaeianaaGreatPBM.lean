/- The law BookMatches answers true for every input, up to the size that the statement names. -/
import Derived.Test.YtmiflmkdaeianaaGreatPBM4
set_option linter.unusedVariables false
set_option linter.unusedSimpArgs false
namespace Go.Proofs.YtmiflmkdaeianaaGreat
open Go.Fw
theorem bU(v:Nat):eO (can 65536 v)=v:=iS (by decide) v
theorem Dl{v n:Nat}(h:v<65536^n)(hn:n≤100000000000):Dg (can 65536 v):=⟨fun _ hx=>ec (by decide) hx,Nat.le_trans ((aT (by decide)).2 h) hn⟩
theorem Ou(l k:List Nat)(hl:Dg l)(hk:Dg k)(hs:l.length+k.length≤90000000000):lu (zl l) (zl k)=some (zl (can 65536 (eO l*eO k))):=by
 unfold lu
 have hV:=qi hl
 have hW:=qi hk
 simp only[aL]
 rw[cZ,cZ,ku (by omega)]
 by_cases h3:l.length+k.length≤3
 ·rw[show decide (((l.length+k.length:Nat):Int)≤3)=true by rw[decide_eq_true_eq];omega,eR,sF l hl.1 (by omega),aL,sF k hk.1 (by omega),aL,←Int.natCast_mul]
  have hlt:eO l*eO k<281474976710656:=by
   have h1:eO l*eO k<65536^l.length*65536^k.length:=Nat.mul_lt_mul'' hV hW
   rw[←Nat.pow_add]at h1
   have h2:65536^(l.length+k.length)≤65536^3:=Nat.pow_le_pow_right (by decide) h3
   rw[show(65536:Nat)^3=281474976710656 by decide]at h2
   omega
  rw[eN (by omega),An _ hlt,aL]
 ·rw[show decide (((l.length+k.length:Nat):Int)≤3)=false by rw[decide_eq_false_iff_not];omega,fM,b7 (by omega) (by omega)]
  refine eX (fun s=>∃(u:List Nat) (m:Nat),s=(zl u,(m:Int)-1)∧m≤l.length∧(∀x∈u,x<65536)∧eO u=eO l/65536^m*eO k∧u.length+m≤l.length+k.length) (fun e=>∃u:List Nat,e=zl u∧(∀x∈u,x<65536)∧eO u=eO l*eO k∧u.length≤l.length+k.length) (fun s=>(s.2+1).toNat) ?_ ⟨[],l.length,rfl,Nat.le_refl _,by simp,by rw[Nat.div_eq_of_lt hV];simp[eO,val],by simp⟩ ?_
  ·rintro _ ⟨u,m,rfl,hm,hu,huv,hul⟩
   simp only[]
   rcases m with _|m
   ·right
    refine⟨_,rfl,u,rfl,hu,?_,by omega⟩
    rw[huv,Nat.pow_zero,Nat.div_one]
   ·left
    have hg:=ju hl.1 (i:=m) (by omega)
    obtain⟨d,hd⟩:∃d,eO l/65536^m%65536=d:=⟨_,rfl⟩
    have QH:d<65536:=by rw[←hd];exact Nat.mod_lt _ (by decide)
    rw[show val 65536 l/65536^m%65536=d from hd]at hg
    have hst:=vI 65536 (eO l) m
    rw[hd]at hst
    have hgi:=aF (ux hg)
    have hA:eO l/65536^m<65536^(l.length-m):=by
     rw[Nat.div_lt_iff_lt_mul (Nat.pow_pos (by decide)),←Nat.pow_add,show l.length-m+m=l.length by omega];exact hV
    have hAW:eO l/65536^m*eO k<65536^(l.length-m+k.length):=by rw[Nat.pow_add];exact Nat.mul_lt_mul'' hA hW
    rw[show((m+1:Nat):Int)-1=(m:Int) by omega,show decide ((0:Int)≤(m:Int))=true by simp,eR,NY (by decide) (by rw[cZ];simp;omega),aL]
    have h0:[(0:Int)]++zl u=zl (0::u):=rfl
    have hv0:eO (0::u)=65536*(eO l/65536^(m+1))*eO k:=by
     show 0+65536*eO u=_
     rw[huv,Nat.zero_add,Nat.mul_assoc]
    rw[h0]
    refine(show ∀(X:Option ((List Int×Int)⊕List Int)),(∃w:List Nat,X=some (.inl (zl w,IntKind.i64.wrap ((m:Int)-1)))∧(∀x∈w,x<65536)∧eO w=eO l/65536^m*eO k∧w.length+m≤l.length+k.length)→∃s',X=some (.inl s')∧(∃(u:List Nat) (m:Nat),s'=(zl u,(m:Int)-1)∧m≤l.length∧(∀x∈u,x<65536)∧eO u=eO l/65536^m*eO k∧u.length+m≤l.length+k.length)∧(s'.2+1).toNat<((m:Int)+1).toNat from ?_) _ ?_
    ·rintro X ⟨w,rfl,hw,hwv,hwl⟩
     rw[b7 (by omega) (by omega)]
     exact⟨_,rfl,⟨w,m,rfl,by omega,hw,hwv,hwl⟩,by simp only[];omega⟩
    ·have aal:=kx (body:=fun(F7:(List Int)×Int)=>
         match F7 with
         |⟨oW,xw⟩=>
          (show Option (((List Int)×Int)⊕((List Int)))from
           (bQ (zl l) (m:Int)).bind fun iZ=>
           (bif decide ((xw:Int)<iZ)then
             (bQ (zl l) (m:Int)).bind fun oc=>
             (dg (zl k) (min (1024:Int) (IntKind.i64.wrap (oc-xw)))).bind fun As=>
             (fk oW As).bind fun wo=>
             some (.inl (wo,IntKind.i64.wrap (xw+1024)))
            else
             some (.inr oW)))) (s:=(zl (0::u),(0:Int))) (f:=fun vq=>(some (.inl (vq,IntKind.i64.wrap ((m:Int)-1))):Option ((List Int×Int)⊕List Int)))
      (Q:=fun r=>∃w:List Nat,r=.inl (zl w,IntKind.i64.wrap ((m:Int)-1))∧(∀x∈w,x<65536)∧eO w=eO l/65536^m*eO k∧w.length+m≤l.length+k.length)
      (fun s=>∃(w:List Nat) (j:Nat),s=(zl w,(j:Int))∧(∀x∈w,x<65536)∧j≤70000∧eO w=(65536*(eO l/65536^(m+1))+min j d)*eO k∧w.length+m≤l.length+k.length)
      (fun e=>∃w:List Nat,e=zl w∧(∀x∈w,x<65536)∧eO w=eO l/65536^m*eO k∧w.length+m≤l.length+k.length) (fun s=>(70000-s.2).toNat) ?_ ⟨0::u,0,rfl,by simp;exact hu,by omega,by rw[hv0];simp,by simp;omega⟩ ?_
     ·obtain⟨r,h1,w,rfl,h2,h3,h4⟩:=aal
      exact⟨w,h1,h2,h3,h4⟩
     ·rintro _ ⟨w,j,rfl,hw,hj,hwv,hwl⟩
      simp only[]
      rw[hgi,aL]
      by_cases Ik:j<d
      ·left
       rw[show decide ((j:Int)<(d:Int))=true by simp[Ik],eR,aL,b7 (by omega) (by omega)]
       obtain⟨f,hf⟩:∃f,min 1024 (d-j)=f:=⟨_,rfl⟩
       obtain⟨j',hj',hj2⟩:∃j':Nat,(j:Int)+1024=(j':Int)∧j'=j+1024:=⟨j+1024,by omega,rfl⟩
       have hmu:(70000-(j':Int)).toNat<(70000-(j:Int)).toNat:=by omega
       have hwH:Dg w:=⟨hw,by omega⟩
       have agk:65536*(eO l/65536^(m+1))+min j d+f≤eO l/65536^m:=by omega
       have agl:eO w+eO k*f≤eO l/65536^m*eO k:=by
        rw[hwv,Nat.mul_comm (eO k),←Nat.add_mul];exact Nat.mul_le_mul_right _ agk
       have htl:eO k*f<65536^(k.length+1):=by rw[Nat.pow_succ];exact Nat.mul_lt_mul'' hW (by omega)
       rw[show min (1024:Int) ((d:Int)-(j:Int))=(f:Int) by omega,w5 _ _ hk (by omega),aL,Dk _ _ hwH (Dl htl (by omega)),aL,bU,hj',eN (by omega)]
       refine⟨_,rfl,⟨_,j',rfl,fun _ hx=>ec (by decide) hx,by omega,?_,?_⟩,hmu⟩
       ·rw[bU,hwv,Nat.mul_comm (eO k),←Nat.add_mul];congr 1;omega
       ·have:=(aT (B:=65536) (by decide)).2 (Nat.lt_of_le_of_lt agl hAW)
        omega
      ·right
       rw[show decide ((j:Int)<(d:Int))=false by rw[decide_eq_false_iff_not];omega,fM]
       refine⟨_,rfl,w,rfl,hw,?_,hwl⟩
       rw[hwv,show min j d=d by omega,←hst]
     ·rintro _ ⟨w,rfl,h1,h2,h3⟩
      exact⟨_,rfl,w,rfl,h1,h2,h3⟩
  ·rintro _ ⟨u,rfl,hu,huv,hul⟩
   rw[iL _ (by omega),aL,iJ (by decide) hu,show val 65536 u=eO l*eO k from huv]
end Go.Proofs.YtmiflmkdaeianaaGreat
namespace Go.Proofs.YtmiflmkdaeianaaGreat
open Go.Fw
theorem td2{a:Nat}:Int.tdiv (a:Int) 2=((a/2:Nat):Int):=by
 rw[Int.tdiv_eq_ediv_of_nonneg (by omega)];omega
theorem Ov(a b:Nat):decide (ur a b≤0)=decide (a≤b):=by
 rcases Nat.lt_trichotomy a b with h|h|h
 ·rw[n6 h];simp;omega
 ·rw[h,sD];simp
 ·rw[qh h];simp;omega
theorem Mk{B:Nat}(hB:0<B){d:Nat}(hd:0<d)(V m:Nat):(V/B^(m+1)%d*B+V/B^m%B)/d=V/d/B^m%B:=by
 have h1:=QC (B:=B) hd V m
 have h2:=N9 (B:=B) hB hd V m
 rw[Nat.div_div_eq_div_mul V d,Nat.mul_comm d,←Nat.div_div_eq_div_mul,h1,Nat.mul_add_mod]
 symm
 apply Nat.mod_eq_of_lt
 rw[Nat.div_lt_iff_lt_mul hd,Nat.mul_comm B d];exact h2
theorem ET{a b:Nat}(h:b≠0)(ha:a≤9223372036854775807):qF (a:Int) (b:Int)=some ((a/b:Nat):Int):=by
 unfold qF
 rw[if_neg (by omega),Int.tdiv_eq_ediv_of_nonneg (by omega),←Int.natCast_ediv,eN (Nat.le_trans (Nat.div_le_self _ _) ha)]
theorem EU{a b:Nat}(h:b≠0):AA (a:Int) (b:Int)=some ((a%b:Nat):Int):=by
 unfold AA
 rw[if_neg (by omega),Int.tmod_eq_emod_of_nonneg (by omega),←Int.natCast_emod]
theorem Ml(n:Nat):List.replicate n (0:Int)=zl (dr 65536 n 0):=by rw[o8,zl,List.map_replicate];rfl
theorem EV{W X:Nat}(hW:0<W){k:List Nat}(hk:Dg k)(hkv:eO k=W){xs:List Nat}(hx:Dg xs)(hxv:eO xs=X)(H:Nat)(hH:0<H)(hH2:H≤65536)(hXH:X<H*W){R:Type}(f:Int→Option R)(r:R)(hf:f ((X/W:Nat):Int)=some r)(xh:k.length≤90000000000):
  (bC (fun(PF:Int×Int)=>
               match PF with
               |⟨j1,nv⟩=>
                (show Option ((Int×Int)⊕(Int))from
                 (bif(decide ((1:Int)<(IntKind.i64.wrap (nv-j1))))then
                   (dg (zl k) (IntKind.i64.wrap (Int.tdiv (IntKind.i64.wrap (j1+nv)) 2))).bind fun FC=>
                   (gB FC (zl xs)).bind fun zh=>
                   (bif(decide ((zh:Int)≤0))then
                     some (.inl (IntKind.i64.wrap (Int.tdiv (IntKind.i64.wrap (j1+nv)) 2),nv))
                    else
                     some (.inl (j1,IntKind.i64.wrap (Int.tdiv (IntKind.i64.wrap (j1+nv)) 2))))
                  else
                   some (.inr j1)))) ((0:Int),(H:Int))).bind f=some r:=by
 refine eX (fun s=>∃lo hi:Nat,s=((lo:Int),(hi:Int))∧lo<hi∧hi≤65536∧lo*W≤X∧X<hi*W) (fun e=>e=((X/W:Nat):Int)) (fun s=>(s.2-s.1).toNat) ?_ ⟨0,H,rfl,hH,hH2,by simp,hXH⟩ (fun e he=>by rw[he];exact hf)
 rintro _ ⟨lo,hi,rfl,h1,h2,h3,h4⟩
 simp only[]
 rw[b7 (x:=(hi:Int)-(lo:Int)) (by omega) (by omega)]
 by_cases E5:1<hi-lo
 ·left
  obtain⟨mid,agm⟩:∃mid,(lo+hi)/2=mid:=⟨_,rfl⟩
  have hml:eO k*mid<65536^(k.length+1):=by rw[Nat.pow_succ];exact Nat.mul_lt_mul'' (qi hk) (by omega)
  rw[show decide ((1:Int)<(hi:Int)-(lo:Int))=true by rw[decide_eq_true_eq];omega,eR,ku (by omega),td2,agm,eN (by omega),w5 _ _ hk (by omega),aL,Dj _ _ (Dl hml (by omega)) hx,aL,Ov,bU,hkv,hxv]
  by_cases hle:W*mid≤X
  ·rw[show decide (W*mid≤X)=true by simp[hle],eR]
   exact⟨_,rfl,⟨mid,hi,rfl,by omega,h2,by rw[Nat.mul_comm];exact hle,h4⟩,by simp only[];omega⟩
  ·rw[show decide (W*mid≤X)=false by simp;omega,fM]
   exact⟨_,rfl,⟨lo,mid,rfl,by omega,by omega,h3,by rw[Nat.mul_comm];omega⟩,by simp only[];omega⟩
 ·right
  rw[show decide ((1:Int)<(hi:Int)-(lo:Int))=false by rw[decide_eq_false_iff_not];omega,fM]
  refine⟨_,rfl,?_⟩
  have:hi=lo+1:=by omega
  subst this
  have:X/W=lo:=by
   rw[Nat.div_eq_iff hW]
   rw[Nat.add_mul,Nat.one_mul]at h4
   omega
  rw[this]
theorem H6(V W:Nat)(hW:W≠0)(hV:(can 65536 V).length≤80000000000)(hWl:(can 65536 W).length≤80000000000):jG (zl (can 65536 V)) (zl (can 65536 W))=some (zl (can 65536 (V/W)),zl (can 65536 (V%W))):=by
 have CI:Dg (can 65536 V):=⟨fun _ hx=>ec (by decide) hx,by omega⟩
 have Ox:Dg (can 65536 W):=⟨fun _ hx=>ec (by decide) hx,by omega⟩
 have hVl:=bp (B:=65536) (by decide) V
 have Oy:=bp (B:=65536) (by decide) W
 have Oz:0<W:=by omega
 unfold jG
 simp only[aL,bM,cZ]
 obtain⟨n,hn⟩:∃n,(can 65536 V).length=n:=⟨_,rfl⟩
 by_cases h3:n≤3∧(can 65536 W).length≤3
 ·rw[hn,show decide ((n:Int)≤3)=true by rw[decide_eq_true_eq];omega,eR,aL,show decide (((can 65536 W).length:Int)≤3)=true by rw[decide_eq_true_eq];omega,eR,sF _ CI.1 (by omega),aL,sF _ Ox.1 (by omega),aL,bU,bU]
  have hp:V<281474976710656:=by
   rw[hn]at hVl
   have h2:65536^n≤65536^3:=Nat.pow_le_pow_right (by decide) h3.1
   rw[show(65536:Nat)^3=281474976710656 by decide]at h2
   omega
  have hq:V/W≤V:=Nat.div_le_self _ _
  have hr:V%W≤V:=Nat.mod_le _ _
  rw[ET hW (by omega),aL,An _ (by omega),aL,aL,aL,EU hW,aL,An _ (by omega),aL]
 ·have uO:(((bif decide ((n:Int)≤3)then some (decide (((can 65536 W).length:Int)≤3))else some false):Option Bool))=some false:=by
   by_cases q1:n≤3
   ·have q2:¬(can 65536 W).length≤3:=fun h=>h3 ⟨q1,h⟩
    rw[show decide (((can 65536 W).length:Int)≤3)=false by rw[decide_eq_false_iff_not];omega]
    exact vN _ _
   ·rw[show decide ((n:Int)≤3)=false by rw[decide_eq_false_iff_not];omega,fM]
  rw[hn]at hVl hV
  have hQ:V/W<65536^n:=Nat.lt_of_le_of_lt (Nat.div_le_self _ _) hVl
  rw[hn,uO,aL,fM,rW (by decide) (by omega),aL,Ml]
  have hlen:(can 65536 W).length≠0:=fun e=>hW (vH (by decide) (List.length_eq_zero_iff.1 e))
  by_cases h1:(can 65536 W).length=1
  ·have hWs:W<65536:=by rw[h1]at Oy;simpa using Oy
   have hg0:(can 65536 W)[0]? =some W:=by rw[sy (by decide) (by omega)];simp;exact hWs
   have ZX:=o6 (ux hg0)
   rw[h1,show decide (((1:Nat):Int)=1)=true by simp,eR,b7 (by omega) (by omega)]
   refine aU (fun j=>(((V/65536^(n-j)%W:Nat):Int),(n:Int)-1-(j:Int),zl (dr 65536 n (V/W/65536^(n-j)*65536^(n-j))))) n (((V%W:Nat):Int),zl (dr 65536 n (V/W))) ?_ (fun j hj=>?_) ?_ ?_
   ·rw[Nat.sub_zero,Nat.div_eq_of_lt hVl,Nat.div_eq_of_lt hQ];simp
   ·obtain⟨m,hm⟩:∃m,n=m+j+1:=⟨n-j-1,by omega⟩
    have hg:(can 65536 V)[m]? =some (V/65536^m%65536):=sy (by decide) (by omega)
    have Gr:=Mk (B:=65536) (by decide) Oz V m
    have EI:=L3 (B:=65536) (d:=W) V m
    have hrl:=Nat.mod_lt (V/65536^(m+1)) Oz
    have QH:=Nat.mod_lt (V/65536^m) (show 0<65536 by decide)
    have hput:=De (B:=65536) (by decide) (N:=n) (k:=m) (by omega) (V/W)
    rw[show n-j=m+1 by omega,show n-(j+1)=m by omega,show(n:Int)-1-(j:Int)=(m:Int) by omega,show(n:Int)-1-((j+1:Nat):Int)=(m:Int)-1 by omega]
    simp only[]
    rw[show decide ((0:Int)≤(m:Int))=true by simp,eR,aF (ux hg),aL,ZX,aL]
    rw[←Gr]at hput
    rw[EI,←hput]
    generalize V/65536^(m+1)%W=r at*
    generalize V/65536^m%65536=d at*
    rw[b7 (x:=(r:Int)*65536) (by omega) (by omega),b7 (x:=(r:Int)*65536+(d:Int)) (by omega) (by omega),show(r:Int)*65536+(d:Int)=((r*65536+d:Nat):Int) by omega,ET hW (by omega),aL,aL,EU hW,aL,cU (by rw[cZ,aJ];omega),aL,iH (by rw[cZ,aJ];omega),aL,b7 (x:=(m:Int)-1) (by omega) (by omega),Mf]
   ·simp only[]
    rw[show decide ((0:Int)≤(n:Int)-1-(n:Int))=false by rw[decide_eq_false_iff_not];omega,fM,Nat.sub_self,Nat.pow_zero,Nat.mul_one,Nat.div_one,Nat.div_one]
   ·simp only[]
    rw[iL _ (by rw[aJ];omega),aL,lM (by decide) hQ,show[((V%W:Nat):Int)]=zl [V%W]from rfl,iL _ (by simp),aL]
    have hr:=Nat.mod_lt V Oz
    rw[iJ (B:=65536) (l:=[V%W]) (by decide) (by intro y hy;simp at hy;omega)]
    simp[val]
  ·rw[show decide (((can 65536 W).length:Int)=1)=false by rw[decide_eq_false_iff_not];omega,fM,b7 (by omega) (by omega)]
   refine aU (fun j=>(zl (can 65536 (V/65536^(n-j)%W)),(n:Int)-1-(j:Int),zl (dr 65536 n (V/W/65536^(n-j)*65536^(n-j))))) n (zl (can 65536 (V%W)),zl (dr 65536 n (V/W))) ?_ (fun j hj=>?_) ?_ ?_
   ·rw[Nat.sub_zero,Nat.div_eq_of_lt hVl,Nat.div_eq_of_lt hQ];simp[nC,zl]
   ·obtain⟨m,hm⟩:∃m,n=m+j+1:=⟨n-j-1,by omega⟩
    have hg:(can 65536 V)[m]? =some (V/65536^m%65536):=sy (by decide) (by omega)
    have Gr:=Mk (B:=65536) (by decide) Oz V m
    have EI:=L3 (B:=65536) (d:=W) V m
    have hrl:=Nat.mod_lt (V/65536^(m+1)) Oz
    have QH:=Nat.mod_lt (V/65536^m) (show 0<65536 by decide)
    have hXW:=N9 (B:=65536) (by decide) Oz V m
    have hput:=De (B:=65536) (by decide) (N:=n) (k:=m) (by omega) (V/W)
    rw[show n-j=m+1 by omega,show n-(j+1)=m by omega,show(n:Int)-1-(j:Int)=(m:Int) by omega,show(n:Int)-1-((j+1:Nat):Int)=(m:Int)-1 by omega]
    simp only[]
    rw[←Gr]at hput
    rw[EI,←hput,show decide ((0:Int)≤(m:Int))=true by simp,eR,aF (ux hg),aL]
    generalize V/65536^(m+1)%W=r at*
    generalize V/65536^m%65536=d at*
    obtain⟨X,hX⟩:∃X,r*65536+d=X:=⟨_,rfl⟩
    rw[hX]at hXW⊢
    have hrc:(can 65536 r).length≤(can 65536 W).length:=(aT (by decide)).2 (Nat.lt_trans hrl Oy)
    have Vh:(can 65536 X).length≤(can 65536 W).length+1:=(aT (by decide)).2 (by rw[Nat.pow_succ];exact Nat.lt_trans hXW (Nat.mul_lt_mul_of_pos_right Oy (by decide)))
    have hval:val 65536 (d::can 65536 r)=X:=by
     show d+65536*val 65536 (can 65536 r)=X
     rw[iS (by decide)];omega
    have zS:Dg (can 65536 X):=⟨fun _ hx=>ec (by decide) hx,by omega⟩
    rw[NY (by decide) (by rw[cZ];simp;omega),aL,show[(d:Int)]++zl (can 65536 r)=zl (d::can 65536 r)from rfl,iL _ (by simp;omega),aL,iJ (B:=65536) (by decide) (by intro y hy;simp at hy;rcases hy with rfl|hy;exact QH;exact ec (by decide) hy),hval]
    have hqW:W*(X/W)≤X:=Nat.mul_div_le X W
    have agn:X/W<65536:=by rw[Nat.div_lt_iff_lt_mul Oz,Nat.mul_comm];exact hXW
    have Mb:((dg (zl (can 65536 W)) ((X/W:Nat):Int)).bind fun wA=>(eA (zl (can 65536 X)) wA).bind fun Lg=>(qX (zl (dr 65536 n (V/W/65536^(m+1)*65536^(m+1)))) (m:Int)).bind fun NC=>(stM (zl (dr 65536 n (V/W/65536^(m+1)*65536^(m+1)))) NC ((X/W:Nat):Int)).bind fun Wn=>(some (.inl (Lg,IntKind.i64.wrap ((m:Int)-1),Wn)):Option ((List Int×Int×List Int)⊕(List Int×List Int))))=some (.inl (zl (can 65536 (X%W)),(m:Int)-1,zl ((dr 65536 n (V/W/65536^(m+1)*65536^(m+1))).set m (X/W)))):=by
     rw[w5 _ _ Ox agn,aL,bU,yz _ _ zS (Dl (Nat.lt_of_le_of_lt hqW (bp (by decide) X)) (by omega)) (by rw[bU,bU];exact hqW),aL,bU,bU,cU (by rw[cZ,aJ];omega),aL,iH (by rw[cZ,aJ];omega),aL,b7 (x:=(m:Int)-1) (by omega) (by omega),Mf,←Nat.mod_eq_sub_mul_div]
    rw[cZ]
    by_cases hsh:(can 65536 X).length<(can 65536 W).length
    ·rw[show decide (((can 65536 X).length:Int)<((can 65536 W).length:Int))=true by rw[decide_eq_true_eq];omega,eR]
     exact EV Oz Ox (bU W) zS (bU X) 1 (by decide) (by decide) (by rw[Nat.one_mul];exact uu (by decide) hsh) _ _ Mb (by omega)
    ·rw[show decide (((can 65536 X).length:Int)<((can 65536 W).length:Int))=false by rw[decide_eq_false_iff_not];omega,fM]
     exact EV Oz Ox (bU W) zS (bU X) 65536 (by decide) (by decide) (by rw[Nat.mul_comm];exact hXW) _ _ Mb (by omega)
   ·simp only[]
    rw[show decide ((0:Int)≤(n:Int)-1-(n:Int))=false by rw[decide_eq_false_iff_not];omega,fM,Nat.sub_self,Nat.pow_zero,Nat.mul_one,Nat.div_one,Nat.div_one]
   ·simp only[]
    rw[iL _ (by rw[aJ];omega),aL,lM (by decide) hQ]
end Go.Proofs.YtmiflmkdaeianaaGreat
namespace Go.Proofs.YtmiflmkdaeianaaGreat
open Go.Fw
theorem vR{v:Nat}:(can 65536 v).length=0↔v=0:=by
 constructor
 ·intro h;exact vH (by decide) (List.length_eq_zero_iff.1 h)
 ·intro h;rw[h,nC];rfl
theorem uy{v:Nat}(h:(can 65536 v).length≤100000000000):Dg (can 65536 v):=⟨fun _ hx=>ec (by decide) hx,h⟩
theorem r5{x:Zr}(h:Wl x):cG x=some (zi x).sign:=by
 unfold cG
 simp only[dZ h,aL,cZ]
 have hz:=vR (v:=(zi x).natAbs)
 have hneg:x.neg=true→zi x≤0:=fun e=>by unfold zi;rw[e];simp[sv]
 have hpos:x.neg=false→0≤zi x:=fun e=>by unfold zi;rw[e];simp[sv]
 by_cases h0:zi x=0
 ·rw[h0];rfl
 ·rw[show decide (((can 65536 (zi x).natAbs).length:Int)=0)=false by rw[decide_eq_false_iff_not];omega,fM]
  cases hn:x.neg
  ·have:=hpos hn
   rw[fM,Int.sign_eq_one_of_pos (by omega)]
  ·have:=hneg hn
   rw[eR,Int.sign_eq_neg_one_of_neg (by omega)]
theorem OA{x y:Zr}(hx:Wl x)(hy:Wl y):lz x y=some (jB (zi x) (zi y)):=by
 have cx:=hx.I9
 have cy:=hy.I9
 unfold lz
 simp only[zeta',r5 hx,r5 hy,aL,dZ hx,dZ hy]
 rw[Dj _ _ (uy (by omega)) (uy (by omega)),bU,bU]
 simp only[aL]
 generalize zi x=i
 generalize zi y=j
 rw[Aj]
 rcases Int.lt_trichotomy i 0 with h1|h1|h1<;>rcases Int.lt_trichotomy j 0 with h2|h2|h2
 ·rw[Int.sign_eq_neg_one_of_neg h1,Int.sign_eq_neg_one_of_neg h2,show(i.natAbs:Int)=-i by omega,show(j.natAbs:Int)=-j by omega,EK]
  show some (IntKind.i64.wrap (0-jB j i))=_
  rw[Ja]
 ·rw[Int.sign_eq_neg_one_of_neg h1,show Int.sign j=0 by rw[h2];rfl,show jB i j=-1 from fP (by omega)];rfl
 ·rw[Int.sign_eq_neg_one_of_neg h1,Int.sign_eq_one_of_pos h2,show jB i j=-1 from fP (by omega)];rfl
 ·rw[show Int.sign i=0 by rw[h1];rfl,Int.sign_eq_neg_one_of_neg h2,show jB i j=1 from fQ (by omega)];rfl
 ·rw[h1,h2];rfl
 ·rw[show Int.sign i=0 by rw[h1];rfl,Int.sign_eq_one_of_pos h2,show jB i j=-1 from fP (by omega)];rfl
 ·rw[Int.sign_eq_one_of_pos h1,Int.sign_eq_neg_one_of_neg h2,show jB i j=1 from fQ (by omega)];rfl
 ·rw[Int.sign_eq_one_of_pos h1,show Int.sign j=0 by rw[h2];rfl,show jB i j=1 from fQ (by omega)];rfl
 ·rw[Int.sign_eq_one_of_pos h1,Int.sign_eq_one_of_pos h2,show(i.natAbs:Int)=i by omega,show(j.natAbs:Int)=j by omega];rfl
theorem TN(x:Zr):sv x.neg (zi x).natAbs=zi x:=by rw[rY];rfl
theorem Dm{x:Zr}(hx:Wl x):iE x=some (zn (-zi x)):=by
 have cx:=hx.I9
 unfold iE
 simp only[aL,dZ hx]
 rw[l7 _ _ (by omega),aL,Ai,TN]
theorem OB{x:Zr}(hx:Wl x):lB x=some (zn ((zi x).natAbs:Int)):=by
 have cx:=hx.I9
 unfold lB
 simp only[aL,dZ hx]
 rw[l7 _ _ (by omega),aL,iK]
theorem vS{x y:Zr}(hx:Wl x)(hy:Wl y):fm x y=some (zn (zi x+zi y)):=by
 have cx:=hx.I9
 have cy:=hy.I9
 unfold fm
 simp only[aL,dZ hx,dZ hy]
 have ex:=TN x
 have ey:=TN y
 generalize (zi x).natAbs=a at*
 generalize (zi y).natAbs=b at*
 have la:=bp (B:=65536) (by decide) a
 have lb:=bp (B:=65536) (by decide) b
 rw[←ex,←ey]
 generalize x.neg=n
 generalize y.neg=m
 by_cases hnm:n=m
 ·subst hnm
  have hl:(can 65536 (a+b)).length≤max (can 65536 a).length (can 65536 b).length+1:=by
   apply(aT (by decide)).2
   have h1:a<65536^max (can 65536 a).length (can 65536 b).length:=Nat.lt_of_lt_of_le la (Nat.pow_le_pow_right (by decide) (by omega))
   have h2:b<65536^max (can 65536 a).length (can 65536 b).length:=Nat.lt_of_lt_of_le lb (Nat.pow_le_pow_right (by decide) (by omega))
   rw[Nat.pow_succ];omega
  rw[show(n==n)=true by simp,eR,Dk _ _ (uy (by omega)) (uy (by omega)),aL,bU,bU,l7 _ _ (by omega),aL,show sv n (a+b)=sv n a+sv n b by cases n<;>simp[sv];omega]
 ·have hm:m= !n:=by cases n<;>cases m<;>simp_all
  subst hm
  rw[show(n== !n)=false by cases n<;>rfl,fM,Dj _ _ (uy (by omega)) (uy (by omega)),aL,bU,bU]
  by_cases hlt:b≤a
  ·have hc:decide ((0:Int)≤ur a b)=true:=by
    rw[decide_eq_true_eq]
    rcases Nat.lt_or_ge b a with h|h
    ·rw[qh h];decide
    ·rw[show a=b by omega,sD];decide
   have hl:(can 65536 (a-b)).length≤(can 65536 a).length:=(aT (by decide)).2 (by omega)
   rw[hc,eR,yz _ _ (uy (by omega)) (uy (by omega)) (by rw[bU,bU];exact hlt),aL,bU,bU,l7 _ _ (by omega),aL,show sv n (a-b)=sv n a+sv (!n) b by cases n<;>simp[sv]<;>omega]
  ·have hc:decide ((0:Int)≤ur a b)=false:=by rw[n6 (by omega)];decide
   have hl:(can 65536 (b-a)).length≤(can 65536 b).length:=(aT (by decide)).2 (by omega)
   rw[hc,fM,yz _ _ (uy (by omega)) (uy (by omega)) (by rw[bU,bU];omega),aL,bU,bU,l7 _ _ (by omega),aL,show sv (!n) (b-a)=sv n a+sv (!n) b by cases n<;>simp[sv]<;>omega]
theorem OC{x y:Zr}(hx:Wl x)(hy:Wl y):lC x y=some (zn (zi x-zi y)):=by
 unfold lC
 have hn:Wl (zn (-zi y)):=bK (Wl.fit hy).neg hy.2
 simp only[zeta',Dm hy,aL,vS hx hn,bz]
 rw[←Int.sub_eq_add_neg]
theorem Dn{x y:Zr}(hx:Wl x)(hy:Wl y):iF x y=some (zn (zi x*zi y)):=by
 have cx:=hx.I9
 have cy:=hy.I9
 unfold iF
 simp only[aL,dZ hx,dZ hy]
 have ex:=TN x
 have ey:=TN y
 generalize (zi x).natAbs=a at*
 generalize (zi y).natAbs=b at*
 have la:=bp (B:=65536) (by decide) a
 have lb:=bp (B:=65536) (by decide) b
 have hl:(can 65536 (a*b)).length≤(can 65536 a).length+(can 65536 b).length:=by
  apply(aT (by decide)).2
  rw[Nat.pow_add];exact Nat.mul_lt_mul'' la lb
 rw[Ou _ _ (uy (by omega)) (uy (by omega)) (by omega),aL,bU,bU,l7 _ _ (by omega),aL,Gw,ex,ey]
theorem yA{x y:Zr}(hx:Wl x)(hy:Wl y):fo x y=some (A4 (zi x) (zi y)):=by
 have cx:=hx.I9
 have cy:=hy.I9
 unfold fo
 simp only[aL,bM,dZ hx,dZ hy,cZ]
 have ex:=TN x
 have ey:=TN y
 generalize (zi x).natAbs=a at*
 generalize (zi y).natAbs=b at*
 rw[←ex,←ey]
 generalize x.neg=n
 generalize y.neg=m
 by_cases h0:b=0
 ·subst h0
  rw[show sv m 0=0 by cases m<;>rfl];rfl
 ·have sS:(can 65536 b).length≠0:=fun h=>h0 (vR.1 h)
  have hm:a%b<b:=Nat.mod_lt _ (by omega)
  have la:=bp (B:=65536) (by decide) a
  have lb:=bp (B:=65536) (by decide) b
  obtain⟨e1,e2⟩:=Md n m (a:=a) (show 0<b by omega)
  have hj:sv m b≠0:=by cases m<;>simp[sv]<;>omega
  have hq:(can 65536 (a/b)).length≤(can 65536 a).length:=(aT (by decide)).2 (Nat.lt_of_le_of_lt (Nat.div_le_self _ _) la)
  have hr:(can 65536 (a%b)).length≤(can 65536 b).length:=(aT (by decide)).2 (Nat.lt_trans hm lb)
  rw[show decide (((can 65536 b).length:Int)=0)=false by rw[decide_eq_false_iff_not];omega,fM,H6 a b h0 (by omega) (by omega),aL,A4,if_neg hj,e1,e2]
  simp only[cZ]
  have hz:=vR (v:=a%b)
  have hK:∀c:Bool,(decide (n=true∧0<a%b)=c)→(bif c then(fk (zl (can 65536 (a/b))) [1]).bind fun qG=>(eA (zl (can 65536 b)) (zl (can 65536 (a%b)))).bind fun mO=>(bZ (!(n==m)) qG).bind fun x=>(bZ false mO).bind fun x_1=>some ((⟨x.neg,x.w⟩:Zr),(⟨x_1.neg,x_1.w⟩:Zr),(0:Int))
    else(bZ (!(n==m)) (zl (can 65536 (a/b)))).bind fun x=>(bZ false (zl (can 65536 (a%b)))).bind fun x_1=>some ((⟨x.neg,x.w⟩:Zr),(⟨x_1.neg,x_1.w⟩:Zr),(0:Int)))=
    some (zn (if n=true∧0<a%b then sv (!(n==m)) (a/b+1)else sv (!(n==m)) (a/b)),zn (if n=true∧0<a%b then((b-a%b:Nat):Int)else((a%b:Nat):Int)),0):=by
   intro c hc
   cases c
   ·have Me:=of_decide_eq_false hc
    rw[fM,if_neg Me,if_neg Me,l7 _ _ (by omega),aL,l7 _ _ (by omega),aL,iK]
   ·have Me:=of_decide_eq_true hc
    have hq1:(can 65536 (a/b+1)).length≤(can 65536 a).length+1:=by
     apply(aT (by decide)).2
     have:a/b≤a:=Nat.div_le_self _ _
     rw[Nat.pow_succ];omega
    have hbr:(can 65536 (b-a%b)).length≤(can 65536 b).length:=(aT (by decide)).2 (by omega)
    rw[eR,if_pos Me,if_pos Me,show[(1:Int)]=zl [1]from rfl,Dk _ _ (uy (by omega)) ⟨by simp,by simp⟩,aL,bU,show eO [1]=1 by decide,yz _ _ (uy (by omega)) (uy (by omega)) (by rw[bU,bU];omega),aL,bU,bU,l7 _ _ (by omega),aL,l7 _ _ (by omega),aL,iK]
  cases n
  ·rw[fM,aL]
   exact hK false (by simp)
  ·rw[eR,aL]
   refine hK _ ?_
   simp only[true_and]
   by_cases h:0<a%b
   ·rw[show decide (0<a%b)=true by simp[h],show decide ((0:Int)<((can 65536 (a%b)).length:Int))=true by rw[decide_eq_true_eq];omega]
   ·rw[show decide (0<a%b)=false by simp[h],show decide ((0:Int)<((can 65536 (a%b)).length:Int))=false by rw[decide_eq_false_iff_not];omega]
end Go.Proofs.YtmiflmkdaeianaaGreat
namespace Go.Proofs.YtmiflmkdaeianaaGreat
open Go.Fw
theorem OD{x y:Zr}(hx:Wl x)(hy:Wl y):lD x y=some (zn (Int.gcd (zi x) (zi y):Int)):=by
 have cx:=hx.I9
 have cy:=hy.I9
 unfold lD
 simp only[aL,dZ hx,dZ hy]
 rw[Int.gcd]
 generalize (zi x).natAbs=a at*
 generalize (zi y).natAbs=b at*
 refine eX (fun s=>∃c d,s=(zl (can 65536 c),zl (can 65536 d))∧Nat.gcd c d=Nat.gcd a b∧(can 65536 c).length≤20000000000∧(can 65536 d).length≤20000000000)
  (fun e=>e=zl (can 65536 (Nat.gcd a b))∧(can 65536 (Nat.gcd a b)).length≤20000000000) (fun s=>val 65536 (s.2.map Int.toNat)) ?_ ⟨a,b,rfl,rfl,cx,cy⟩ ?_
 ·rintro _ ⟨c,d,rfl,hg,hc,hd⟩
  simp only[cZ]
  have hzl:∀l:List Nat,(zl l).map Int.toNat=l:=fun l=>by
   rw[zl,List.map_map]
   have:(Int.toNat∘fun(n:Nat)=>(n:Int))=id:=by funext n;simp
   rw[this,List.map_id]
  by_cases h0:d=0
  ·right
   subst h0
   rw[Nat.gcd_zero_right]at hg
   subst hg
   exact⟨_,rfl,rfl,hc⟩
  ·left
   have sS:(can 65536 d).length≠0:=fun h=>h0 (vR.1 h)
   have hm:c%d<d:=Nat.mod_lt _ (by omega)
   rw[show decide ((0:Int)<((can 65536 d).length:Int))=true by rw[decide_eq_true_eq];omega,eR,H6 c d h0 (by omega) (by omega),aL]
   refine⟨_,rfl,⟨d,c%d,rfl,?_,hd,?_⟩,?_⟩
   ·rw[←hg,Nat.gcd_comm d,←Nat.gcd_rec,Nat.gcd_comm]
   ·exact Nat.le_trans ((aT (by decide)).2 (Nat.lt_trans hm (bp (by decide) d))) hd
   ·simp only[]
    rw[hzl,hzl,iS (by decide),iS (by decide)];exact hm
 ·rintro _ ⟨rfl,hl⟩
  rw[l7 _ _ (by omega),aL,iK]
end Go.Proofs.YtmiflmkdaeianaaGreat
namespace Go.Proofs.YtmiflmkdaeianaaGreat
open Go.Fw
theorem H7:jH=some (zn 1):=by
 unfold jH
 simp only[zeta',aL,from_eq (x:=1) (by decide)]
section ops
variable {L M:Nat}{a b:Qr}{x y:Rat}
theorem mJ(h:iX L a x)(hL:L≤10000000000):∃n d:Int,eD a=some (zn n)∧dV a=some (zn d)∧0<d∧Rat.divInt n d=x∧Fit L n∧Fit L d:=by
 have wn:=h.wn hL
 have wd:=h.wd hL
 have hv:=h.v
 unfold eD dV
 simp only[zeta',aL,r5 wd,H7,Dm wn,OB wd,EN wn]
 unfold qv qd at hv
 rcases Int.lt_trichotomy (zi a.den) 0 with h1|h1|h1
 ·refine⟨-zi a.num,-zi a.den,?_,?_,by omega,?_,h.fn.neg,h.fd.neg⟩
  ·rw[Int.sign_eq_neg_one_of_neg h1];rfl
  ·rw[Int.sign_eq_neg_one_of_neg h1,show((zi a.den).natAbs:Int)=-zi a.den by omega];rfl
  ·rw[Rat.neg_divInt_neg,←hv,if_neg (by omega)]
 ·refine⟨zi a.num,1,?_,?_,by decide,?_,h.fn,vO h.l1⟩
  ·rw[h1];rfl
  ·rw[h1];rfl
  ·rw[←hv,if_pos h1]
 ·refine⟨zi a.num,zi a.den,?_,?_,h1,?_,h.fn,h.fd⟩
  ·rw[Int.sign_eq_one_of_pos h1];rfl
  ·rw[Int.sign_eq_one_of_pos h1,show((zi a.den).natAbs:Int)=zi a.den by omega];rfl
  ·rw[←hv,if_neg (by omega)]
theorem Dp{n d:Int}(hn:Fit L n)(hd:Fit L d)(hL:L≤10000000000)(h:0<d):gL (zn n) (zn d)=some (qn (Rat.divInt n d)):=by
 have wn:=bK hn hL
 have wd:=bK hd hL
 have g0:(Int.gcd n d:Int)≠0:=by
  have:0<Int.gcd n d:=Int.gcd_pos_of_ne_zero_right _ (by omega)
  omega
 have wg:Wl (zn (Int.gcd n d:Int)):=bK (hd.le (by
  have:=Nat.le_of_dvd (Int.natAbs_pos.2 (show d≠0 by omega)) (Int.gcd_dvd_natAbs_right n d)
  simpa using this)) hL
 have wq:Wl (zn (d/(Int.gcd n d:Int))):=bK (hd.le (Int.natAbs_ediv_le_natAbs _ _)) hL
 have one:da 1:=by decide
 unfold gL
 simp only[zeta',aL,OD wn wd,yA wn wg,yA wd wg,H7,bz]
 rw[A4,if_neg g0,A4,if_neg g0]
 simp only[]
 rw[OA wq (Ak one),aL,bz,bz,wY h]
 by_cases e:d/(Int.gcd n d:Int)=1
 ·rw[e,mI,if_pos rfl];rfl
 ·have:jB (d/(Int.gcd n d:Int)) 1≠0:=by
   rcases Int.lt_trichotomy (d/(Int.gcd n d:Int)) 1 with q|q|q
   ·rw[fP q];decide
   ·exact absurd q e
   ·rw[fQ q];decide
  rw[decide_eq_false this,fM,if_neg e]
theorem iX.TO(ha:iX L a x)(h:L≤10000000000):ji a=some (qn x):=by
 obtain⟨n,d,e1,e2,h1,h2,f1,f2⟩:=mJ ha h
 unfold ji
 simp only[zeta',pB,pC,e1,e2,aL,Dp f1 f2 h h1,h2]
theorem TP{n d:Int}(hn:da n)(hd:da d)(h0:d≠0):ny n d=some (qn (Rat.divInt n d)):=by
 unfold ny
 simp only[zeta',pB,pC,aL,from_eq hn,from_eq hd,(Mj h0 (pz hn) (pz hd) (by decide)).TO (by decide)]
theorem iX.ago(ha:iX L a x)(h:L≤10000000000):lG a=some (qn (-x)):=by
 obtain⟨n,d,e1,e2,h1,h2,f1,f2⟩:=mJ ha h
 unfold lG
 simp only[zeta',pB,pC,e1,e2,aL,Dm (bK f1 h),bz,Dp f1.neg f2 h h1]
 rw[←Rat.neg_divInt,h2]
theorem iX.TQ(ha:iX L a x)(h:L≤10000000000):jk a=some (zn x.floor):=by
 obtain⟨n,d,e1,e2,h1,h2,f1,f2⟩:=mJ ha h
 unfold jk
 simp only[zeta',pB,pC,e1,e2,aL,yA (bK f1 h) (bK f2 h),bz]
 rw[A4,if_neg (by omega),←h2,vQ h1]
theorem iX.agp(ha:iX L a x)(hb:iX M b y)(h:L+M≤4000000000):lF a b=some (qn (x+y)):=by
 obtain⟨n,d,e1,e2,h1,h2,f1,f2⟩:=mJ ha (by omega)
 obtain⟨m,c,e3,e4,h3,h4,f3,f4⟩:=mJ hb (by omega)
 unfold lF
 have u1:=(f1.mul f4)
 have u2:=(f3.mul f2).mono (show M+L≤L+M by omega)
 simp only[zeta',pB,pC,e1,e2,e3,e4,aL,Dn (bK f1 (by omega)) (bK f4 (by omega)),Dn (bK f3 (by omega)) (bK f2 (by omega)),bz,vS (bK u1 (by omega)) (bK u2 (by omega)),Dn (bK f2 (by omega)) (bK f4 (by omega)),Dp (u1.add u2) ((f2.mul f4).mono (by omega)) (show L+M+1≤10000000000 by omega) (Int.mul_pos h1 h3)]
 rw[←h2,←h4,Rat.divInt_add_divInt _ _ (by omega) (by omega)]
theorem iX.aan(ha:iX L a x)(hb:iX M b y)(h:L+M≤4000000000):jI a b=some (qn (x-y)):=by
 unfold jI
 have r:iX M (qn (-y)) (-y):=hb.fq.neg.rep hb.l1
 simp only[zeta',pB,pC,hb.ago (by omega),aL,ha.agp r h]
 rw[←Rat.sub_eq_add_neg]
theorem iX.aao(ha:iX L a x)(h:L≤10000000000):kf a=some (vP x 0):=by
 obtain⟨n,d,e1,e2,h1,h2,f1,f2⟩:=mJ ha h
 unfold kf
 simp only[zeta',pB,pC,e1,aL,r5 (bK f1 h),bz]
 rw[←h2,←EP h1]
theorem Mm(x y:Rat):vP (x-y) 0=vP x y:=by
 unfold vP
 by_cases h:x<y
 ·rw[if_pos h,if_pos (by grind)]
 ·rw[if_neg h,if_neg (by grind)]
  by_cases h2:x=y
  ·rw[if_pos h2,if_pos (by grind)]
  ·rw[if_neg h2,if_neg (by grind)]
theorem iX.agq(ha:iX L a x)(hb:iX M b y)(h:L+M≤4000000000):lH a b=some (vP x y):=by
 unfold lH
 have r:iX (L+M+1) (qn (x-y)) (x-y):=(ha.fq.sub hb.fq).rep (by omega)
 simp only[zeta',pB,pC,ha.aan hb h,aL,r.aao (by omega),Mm]
end ops
end Go.Proofs.YtmiflmkdaeianaaGreat
namespace Go.Proofs.YtmiflmkdaeianaaGreat
open Go.Fw
abbrev OkQ(q:Qr):Prop:=OkZ q.num∧OkZ q.den
theorem TS{q:Qr}{L:Nat}(h:OkQ q)(h1:q.num.w.length≤L)(h2:q.den.w.length≤L)(hL:1≤L):iX L q (qv q):=⟨h.1.2.2,h.2.2.2,h1,h2,hL,rfl⟩
end Go.Proofs.YtmiflmkdaeianaaGreat
namespace Go.Proofs.YtmiflmkdaeianaaGreat
open Go.Fw
theorem aap(x y:Rat):x<y∨x=y∨y<x:=by grind
theorem xX{i:Int}{L:Nat}(h:Fit L i)(h1:1≤L)(hL:L≤10000000000):dJ (zn i)=some (qn (i:Rat))∧iX L (qn (i:Rat)) (i:Rat):=by
 refine⟨?_,(FQ.int h h1).rep h1⟩
 rw[Am (bK h hL),bz]
end Go.Proofs.YtmiflmkdaeianaaGreat
namespace Go.Proofs.YtmiflmkdaeianaaGreat
open Go.Fw
theorem bu{J R:Type}{f:J→Option R}{g:(J→Option R)→Option R}{r:Option R}(h:g f=r):bM f g=r:=h
theorem dT{p:Prop}[Decidable p](h:p):(some (decide p):Option Bool)=some true:=congrArg some (decide_eq_true h)
theorem dF{p:Prop}[Decidable p](h:¬p):(some (decide p):Option Bool)=some false:=congrArg some (decide_eq_false h)
theorem uz{β:Type}{x:Option Bool}{f:Bool→Option β}{r:Option β}{y:Option Bool}(h:x=some true)(hf:f true=r):(bif true then x else y).bind f=r:=by rw[eR,h];exact hf
section ops
variable {K L M:Nat}{a b c:Qr}{x y z:Rat}
theorem iX.sub'(ha:iX L a x)(hb:iX M b y)(h:L+M≤4000000000):∃q,kO a b=some q∧iX (L+M+1) q (x-y):=⟨_,ha.sub hb h⟩
end ops
abbrev szZ(z:Zr):Nat:=1+((z.w.map fun _=>1).sum+1)+1
abbrev Ux(q:Qr):Nat:=szZ q.num+szZ q.den+1
theorem H8{α:Type}(f:α→Nat):∀{l:List α} {x:α},x∈l→f x≤(l.map f).sum
 |y::l,x,h=>by
  rw[List.map_cons,List.sum_cons]
  rcases List.mem_cons.1 h with rfl|h
  ·omega
  ·have:=H8 f h;omega
theorem H9{α:Type}:∀l:List α,(l.map fun _=>1).sum=l.length
 |[]=>rfl
 |_::l=>by rw[List.map_cons,List.sum_cons,H9 l,List.length_cons];omega
theorem OE(q:Qr):q.num.w.length≤Ux q∧q.den.w.length≤Ux q:=by
 simp only[Ux,szZ,H9];omega
theorem agt{q:Qr}(h:OkQ q)(s:Ux q≤1048576):iX 1048576 q (qv q):=by
 have:=OE q
 exact TS h (by omega) (by omega) (by decide)
theorem TT(l:List (List Qr))(hl:l.length≤9223372036854775807):∃b,fu l=some b∧(b=false→∀v∈l,v.length≤40):=by
 unfold fu
 refine kx (fun s=>∃(i:Nat) (n:Int),s=(n,(i:Int))∧i≤l.length∧∀v∈l.take i,v.length≤40) (fun e=>(e=.inl ()∧∀v∈l,v.length≤40)∨e=.inr true) (fun s=>l.length-s.2.toNat) ?_ ⟨0,0,rfl,by omega,by simp⟩ ?_
 ·rintro _ ⟨i,n,rfl,hi,ht⟩
  by_cases hlt:i<l.length
  ·have g:=List.getElem?_eq_getElem hlt
   by_cases h1:40<l[i].length
   ·exact .inr ⟨.inr true,bind_eq rfl<|bind_eq (dT (by omega))<|bw rfl<|bind_eq (aF g)<|bind_eq rfl<|bind_eq (dT (by omega))<|bw rfl rfl,.inr rfl⟩
   ·obtain⟨e,he,-⟩:=wh (body:=fun(s:Int×Int)=>match s with|⟨y3,y5⟩=>(show Option ((Int×Int)⊕Int)from(bQ l (i:Int)).bind fun ij=>(some (ij.length:Int)).bind fun ig=>(some (decide ((y5:Int)<ig))).bind fun dR=>(bif dR then(some (IntKind.i64.wrap (y3+1))).bind fun jR=>(bQ l (i:Int)).bind fun lU=>(bQ lU y5).bind fun⟨⟨Bp,xl⟩,⟨PY,PZ⟩⟩=>(some (xl.length:Int)).bind fun oa=>(some (min (100:Int) oa)).bind fun qN=>(some (IntKind.i64.wrap (jR+qN))).bind fun mO=>(bQ l (i:Int)).bind fun xN=>(bQ xN y5).bind fun⟨⟨Ei,Ej⟩,⟨P0,Ho⟩⟩=>(some (Ho.length:Int)).bind fun tB=>(some (min (100:Int) tB)).bind fun E6=>(some (IntKind.i64.wrap (mO+E6))).bind fun xO=>(some (IntKind.i64.wrap (y5+1))).bind fun gu=>some (.inl (xO,gu))else some (.inr y3))))
     (s:=(n,0)) (fun s=>∃(k:Nat) (m:Int),s=(m,(k:Int))∧k≤l[i].length) (fun _=>True) (fun s=>l[i].length-s.2.toNat) (by
      rintro _ ⟨k,m,rfl,hk⟩
      by_cases hk2:k<l[i].length
      ·have gk:=List.getElem?_eq_getElem hk2
       generalize l[i][k]=q at gk
       refine .inl ⟨(_,((k+1:Nat):Int)),bind_eq (aF g)<|bind_eq rfl<|bind_eq (dT (by omega))<|bw rfl<|bind_eq rfl<|bind_eq (aF g)<|bind_eq (aF gk)<|bind_eq rfl<|bind_eq rfl<|bind_eq rfl<|bind_eq (aF g)<|bind_eq (aF gk)<|bind_eq rfl<|bind_eq rfl<|bind_eq rfl<|bind_eq (congrArg some (bh (by omega))) rfl,⟨k+1,_,rfl,hk2⟩,by simp only[Int.toNat_natCast];omega⟩
      ·exact .inr ⟨m,bind_eq (aF g)<|bind_eq rfl<|bind_eq (dF (by omega))<|aO rfl rfl,trivial⟩) ⟨0,n,rfl,by omega⟩
    by_cases h2:400<e
    ·exact .inr ⟨.inr true,bind_eq rfl<|bind_eq (dT (by omega))<|bw rfl<|bind_eq (aF g)<|bind_eq rfl<|bind_eq (dF (by omega))<|aO rfl<|bind_eq he<|bind_eq (dT h2)<|bw rfl rfl,.inr rfl⟩
    ·refine .inl ⟨(e,((i+1:Nat):Int)),bind_eq rfl<|bind_eq (dT (by omega))<|bw rfl<|bind_eq (aF g)<|bind_eq rfl<|bind_eq (dF (by omega))<|aO rfl<|bind_eq he<|bind_eq (dF h2)<|aO rfl<|bind_eq (congrArg some (bh (by omega))) rfl,⟨i+1,e,rfl,hlt,?_⟩,by simp only[Int.toNat_natCast];omega⟩
     rw[List.take_add_one,g]
     intro u hu
     rcases List.mem_append.1 hu with h|h
     ·exact ht u h
     ·simp at h;rw[h];omega
  ·refine .inr ⟨.inl (),bind_eq rfl<|bind_eq (dF (by omega))<|aO rfl rfl,.inl ⟨rfl,?_⟩⟩
   rw[List.take_of_length_le (by omega)]at ht;exact ht
 ·rintro e (⟨rfl,he⟩|rfl)
  ·exact⟨false,rfl,fun _=>he⟩
  ·exact⟨true,rfl,fun h=>by cases h⟩
end Go.Proofs.YtmiflmkdaeianaaGreat
namespace Go.Proofs.YtmiflmkdaeianaaGreat
open Go.Fw
def uD(x:Rat):Int:=if x-(x.floor:Rat)<1/2 then x.floor else if 1/2<x-(x.floor:Rat)then x.floor+1 else if x.floor%2=0 then x.floor else x.floor+1
theorem aaq:Fit 1 1:=by unfold Fit;decide
theorem aar:Fit 1 2:=by unfold Fit;decide
theorem QI:Rat.divInt 1 2=1/2:=by rw[Rat.divInt_eq_div];simp
theorem TU{L:Nat}{x:Rat}(h:FQ L x):Fit L 1:=Fit.le h.2 (by have:=Rat.den_pos x;omega)
theorem OF{L:Nat}{x:Rat}(h:FQ L x):Fit (L+1) (uD x):=by
 have h1:=(h.floor).mono (show L≤L+1 by omega)
 have h2:Fit (L+1) (x.floor+1):=h.floor.add (TU h)
 unfold uD
 split
 ·exact h1
 ·split
  ·exact h2
  ·split
   ·exact h1
   ·exact h2
theorem EW(i:Int):Fit 1 (i%2):=by
 have h1:=Int.emod_nonneg i (show(2:Int)≠0 by decide)
 have h2:=Int.emod_lt_of_pos i (show(0:Int)<2 by decide)
 unfold Fit
 omega
theorem BN(i:Int):decide ((i%2).sign=0)=decide (i%2=0):=by
 congr 1
 exact propext Int.sign_eq_zero_iff_zero
theorem iX.round{L:Nat}{a:Qr}{x:Rat}(ha:iX L a x)(h:L≤1000000000):er a=some (zn (uD x)):=by
 have hf:=ha.fq
 have f1:=ha.floor (show L≤10000000000 by omega)
 obtain⟨n1,r1⟩:=new_eq (n:=1) (d:=2) (by decide) (by decide) (by decide)
 have w1:=fJ (x:=1) (by decide) (by decide)
 have a1:=add_eq (bK hf.floor (by omega)) (bK aaq (by decide))
 rw[bz,bz]at a1
 obtain⟨i1,s1⟩:=xX hf.floor ha.l1 (by omega)
 obtain⟨q,e,r⟩:=ha.sub' s1 (by omega)
 rw[QI]at n1 r1
 have c1:=r.cmp r1 (by omega)
 have w2:=fJ (x:=2) (by decide) (by decide)
 have d1:=divMod_eq (bK hf.floor (show L≤10000000000 by omega)) (bK aar (by decide))
 rw[bz,bz]at d1
 replace d1:cu (zn x.floor) (zn 2)=some (zn (x.floor/2),zn (x.floor%2),0):=d1
 have g1:=sign_eq (bK (EW x.floor) (by decide))
 rw[bz]at g1
 have hr:zn (uD x)=if x-(x.floor:Rat)<1/2 then zn x.floor else if 1/2<x-(x.floor:Rat)then zn (x.floor+1)else if x.floor%2=0 then zn x.floor else zn (x.floor+1):=by
  unfold uD
  repeat' split
  all_goals rfl
 rw[hr]
 clear hr s1 r r1
 generalize qn (1/2)=q1 at n1 c1
 generalize qn (x.floor:Rat)=q2 at i1 e
 generalize hz0:zn x.floor=z0 at*
 generalize zn (x.floor+1)=z1 at*
 generalize zn (x.floor/2)=z2 at*
 generalize zn (x.floor%2)=z3 at*
 generalize zn 1=z4 at*
 generalize zn 2=z5 at*
 unfold er
 refine bind_eq n1<|bind_eq f1<|bind_eq w1<|bind_eq a1<|bind_eq i1<|bind_eq e<|bind_eq c1 ?_
 rcases aap (x-(x.floor:Rat)) (1/2)with k|k|k
 ·rw[HX k,if_pos k]
  exact bind_eq (dT rfl)<|bw rfl rfl
 ·rw[k,BK,if_neg Rat.lt_irrefl,if_neg Rat.lt_irrefl]
  refine bind_eq (dF (by decide))<|aO rfl<|bind_eq (dF (by decide))<|aO rfl<|bind_eq w2<|bind_eq d1<|bind_eq g1<|bind_eq (congrArg some (BN _)) ?_
  by_cases h2:x.floor%2=0
  ·rw[if_pos h2];exact bw (decide_eq_true h2) rfl
  ·rw[if_neg h2];exact aO (decide_eq_false h2) rfl
 ·rw[HY k,if_neg (by grind),if_pos k]
  exact bind_eq (dF (by decide))<|aO rfl<|bind_eq (dT rfl)<|bw rfl rfl
theorem iX.TV{L:Nat}{a:Qr}{x:Rat}(ha:iX L a x)(h:L≤1000000000):jl a=some (zn (uD x)):=by
 have hf:=ha.fq
 have f1:=ha.TQ (show L≤10000000000 by omega)
 have n1:=TP (n:=1) (d:=2) (by decide) (by decide) (by decide)
 have r1:=(new_eq (n:=1) (d:=2) (by decide) (by decide) (by decide)).2
 have w1:=from_eq (x:=1) (by decide)
 have a1:=vS (bK hf.floor (show L≤10000000000 by omega)) (bK aaq (by decide))
 rw[bz,bz]at a1
 have s1:iX L ⟨zn x.floor,⟨false,[]⟩⟩ (x.floor:Rat):=by rw[←Mi];exact(FQ.int hf.floor ha.l1).rep ha.l1
 have e:=ha.aan s1 (by omega)
 have r:=(ha.sub s1 (by omega)).2
 rw[QI]at n1 r1
 have c1:=r.agq r1 (by omega)
 have w2:=from_eq (x:=2) (by decide)
 have d1:=yA (bK hf.floor (show L≤10000000000 by omega)) (bK aar (by decide))
 rw[bz,bz]at d1
 replace d1:fo (zn x.floor) (zn 2)=some (zn (x.floor/2),zn (x.floor%2),0):=d1
 have g1:=r5 (bK (EW x.floor) (by decide))
 rw[bz]at g1
 have hr:zn (uD x)=if x-(x.floor:Rat)<1/2 then zn x.floor else if 1/2<x-(x.floor:Rat)then zn (x.floor+1)else if x.floor%2=0 then zn x.floor else zn (x.floor+1):=by
  unfold uD
  repeat' split
  all_goals rfl
 rw[hr]
 clear hr s1 r r1
 generalize qn (1/2)=q1 at n1 c1
 generalize qn (x-(x.floor:Rat))=q2 at e c1
 generalize hz0:zn x.floor=z0 at*
 generalize zn (x.floor+1)=z1 at*
 generalize zn (x.floor/2)=z2 at*
 generalize zn (x.floor%2)=z3 at*
 generalize zn 1=z4 at*
 generalize zn 2=z5 at*
 unfold jl
 refine bind_eq f1<|bind_eq w1<|bind_eq a1<|bind_eq e<|bind_eq n1<|bind_eq c1 ?_
 rcases aap (x-(x.floor:Rat)) (1/2)with k|k|k
 ·rw[HX k,if_pos k]
  exact bind_eq (dT (by decide))<|bw rfl rfl
 ·rw[k,BK,if_neg Rat.lt_irrefl,if_neg Rat.lt_irrefl]
  refine bind_eq (dF (by decide))<|aO rfl<|bind_eq (dF (by decide))<|aO rfl<|bind_eq w2<|bind_eq d1<|bind_eq g1<|bind_eq (congrArg some (BN _)) ?_
  by_cases h2:x.floor%2=0
  ·rw[if_pos h2];exact bw (decide_eq_true h2) rfl
  ·rw[if_neg h2];exact aO (decide_eq_false h2) rfl
 ·rw[HY k,if_neg (by grind),if_pos k]
  exact bind_eq (dF (by decide))<|aO rfl<|bind_eq (dT (by decide))<|bw rfl rfl
def BO(n:Int)(len:Nat)(acc:Int)(kd:Nat)(hour:Int):Int:=if ¬(0<acc∧acc<n)then 1 else if kd<1∨4<kd then 12 else if hour< -1∨8≤hour then 1 else if 1024≤len then 5 else 0
theorem vT{n:Int}{es:List En}(h:n≠0):cj n es=some false:=by
 unfold cj
 exact bu<|bind_eq (a:=false) (aO rfl<|bind_eq (dF h) rfl) rfl
theorem yB(n:Int)(es:List En)(a:Int):fY n es a=some (decide (0<a∧a<n)):=by
 unfold fY
 refine bu<|bind_eq rfl ?_
 by_cases h:0<a
 ·exact bind_eq (a:=decide (0<a∧a<n)) (bw (decide_eq_true h)<|bind_eq rfl (by simp[h])) rfl
 ·exact bind_eq (a:=decide (0<a∧a<n)) (aO (decide_eq_false h) (by simp[h])) rfl
theorem check_eq(n:Int)(es:List En)(acc:Int)(kd:Nat)(hour:Int)(c:Zr)(len:Nat):∃e,jZ ⟨acc,kd,hour,c⟩ n es=some e∧(e≠0→BO n len acc kd hour=e)∧(e=0→BO n len acc kd hour=if 1024≤len then 5 else 0):=by
 unfold jZ BO
 by_cases h1:0<acc∧acc<n
 ·by_cases h2:kd<1∨4<kd
  ·refine⟨12,bind_eq (yB _ _ _)<|bind_eq rfl<|aO (by simp[h1])<|bu<|bind_eq rfl<|bind_eq (a:=true) ?_<|bw rfl rfl,fun _=>by rw[if_neg (by simpa using h1),if_pos h2],by simp⟩
   by_cases h3:kd<1
   ·exact bw (decide_eq_true h3) rfl
   ·exact aO (decide_eq_false h3)<|bind_eq (dT (by omega)) rfl
  ·by_cases h3:hour< -1∨8≤hour
   ·refine⟨1,bind_eq (yB _ _ _)<|bind_eq rfl<|aO (by simp[h1])<|bu<|bind_eq rfl<|bind_eq (a:=false) (aO (decide_eq_false (by omega))<|bind_eq (dF (by omega)) rfl)<|aO rfl<|bu<|bind_eq rfl<|bind_eq (a:=true) ?_<|bw rfl rfl,fun _=>by rw[if_neg (by simpa using h1),if_neg h2,if_pos h3],by simp⟩
    by_cases h4:hour< -1
    ·exact bw (decide_eq_true h4) rfl
    ·exact aO (decide_eq_false h4)<|bind_eq (dT (by omega)) rfl
   ·exact⟨0,bind_eq (yB _ _ _)<|bind_eq rfl<|aO (by simp[h1])<|bu<|bind_eq rfl<|bind_eq (a:=false) (aO (decide_eq_false (by omega))<|bind_eq (dF (by omega)) rfl)<|aO rfl<|bu<|bind_eq rfl<|bind_eq (a:=false) (aO (decide_eq_false (by omega))<|bind_eq (dF (by omega)) rfl)<|aO rfl rfl,by simp,fun _=>by rw[if_neg (by simpa using h1),if_neg h2,if_neg h3]⟩
 ·exact⟨1,bind_eq (yB _ _ _)<|bind_eq rfl<|bw (by simp[h1]) rfl,fun _=>by simp[h1],by simp⟩
def OG(n:Int)(es:List En)(m:Mv)(c:Zr):List En:=if BO n es.length m.acc m.kd m.hour=0 then es++[⟨m.acc,m.kd,m.hour,c⟩]else es
theorem move_eq{n:Int}{es:List En}{acc:Int}{kd:Nat}{hour:Int}{a:Qr}{L:Nat}{x:Rat}(hn:n≠0)(ha:iX L a x)(hL:L≤1000000000)(hl:es.length≤1000000):
  bF n es acc kd hour a=some (BO n es.length acc kd hour,OG n es ⟨acc,kd,hour,a⟩ (zn (uD x))):=by
 obtain⟨e,he,h1,h2⟩:=check_eq n es acc kd hour ⟨false,[]⟩ es.length
 have hr:=ha.round hL
 unfold OG bF
 show(cj n es).bind _=some (BO n es.length acc kd hour,if BO n es.length acc kd hour=0 then es++[⟨acc,kd,hour,zn (uD x)⟩]else es)
 generalize zn (uD x)=z at hr⊢
 refine bind_eq (vT hn)<|aO rfl<|bind_eq he<|?_
 by_cases h0:e=0
 ·subst h0
  rw[h2 rfl]
  refine bind_eq (dF (by simp))<|aO rfl<|bind_eq rfl ?_
  by_cases h3:1024≤es.length
  ·rw[if_pos h3,if_neg (by decide)]
   exact bind_eq (dT (by omega))<|bw rfl rfl
  ·rw[if_neg h3,if_pos rfl]
   exact bind_eq (dF (by omega))<|aO rfl<|bind_eq hr<|bind_eq (vE (by decide) (by omega)) rfl
 ·rw[h1 h0,if_neg h0]
  exact bind_eq (dT h0)<|bw rfl rfl
structure r6 (n:Int) (K:Nat) (e:En):Prop where
 a:1≤e.acc
 b:e.acc<n
 k:1≤e.kd∧e.kd≤4
 z:e.cW=zn (zi e.cW)
 f:Fit K (zi e.cW)
def cA(f:En→Int)(es:List En):Int:=(es.map f).sum
theorem EX(f:En→Int)(l k:List En):cA f (l++k)=cA f l+cA f k:=by simp[cA]
theorem pD(f:En→Int){es:List En}{k:Nat}(h:k<es.length):cA f (es.take (k+1))=cA f (es.take k)+f es[k]:=by
 rw[List.take_add_one,List.getElem?_eq_getElem h,EX];simp[cA]
theorem Ia{K:Nat}:∀{l:List Int},(∀c∈l,Fit K c)→l.sum.natAbs≤l.length*(4294967296^K-1)
 |[],_=>by simp
 |c::l,h=>by
  have h1:=h c (by simp)
  have h2:=Ia (l:=l) (fun c hc=>h c (by simp[hc]))
  rw[List.sum_cons,List.length_cons,Nat.succ_mul]
  have:=Int.natAbs_add_le c l.sum
  unfold Fit at h1
  omega
theorem OH{K:Nat}{l:List Int}(h:∀c∈l,Fit K c)(hl:l.length≤4294967296):Fit (K+1) l.sum:=by
 have h1:=Ia h
 have h2:=Nat.mul_le_mul_right (4294967296^K-1) hl
 have h3:=Nat.pow_pos (n:=K) (show 0<4294967296 by decide)
 unfold Fit
 rw[Nat.pow_succ,Nat.mul_comm (4294967296^K)]
 generalize 4294967296^K=m at*
 omega
theorem aas{K:Nat}:Fit K 0:=by unfold Fit;exact Nat.pow_pos (by decide)
theorem Ao{K:Nat}{f:En→Int}{es:List En}(h:∀e∈es,Fit K (f e))(hl:es.length≤1000000):Fit (K+1) (cA f es):=
 OH (fun c hc=>by obtain⟨e,he,rfl⟩:=List.mem_map.1 hc;exact h e he) (by simp;omega)
theorem lO{K:Nat}{f:En→Int}{es:List En}(h:∀e∈es,Fit K (f e))(k:Nat)(hl:es.length≤1000000):Fit (K+1) (cA f (es.take k)):=
 Ao (fun e he=>h e (List.mem_of_mem_take he)) (by rw[List.length_take];omega)
def eU(i:Int)(e:En):Int:=if i=0 then-zi e.cW else if e.acc=i then zi e.cW else 0
theorem pE{n:Int}{K:Nat}{e:En}(h:r6 n K e)(i:Int):Fit K (eU i e):=by
 unfold eU
 split
 ·exact h.f.neg
 ·split
  ·exact h.f
  ·exact aas
def qM(n:Nat)(es:List En):List Zr:=(List.range n).map fun(i:Nat)=>zn (cA (eU (i:Int)) es)
theorem kC(n:Nat)(es:List En):(qM n es).length=n:=by simp[qM]
theorem gj{n i:Nat}(es:List En)(h:i<n):(qM n es)[i]? =some (zn (cA (eU (i:Int)) es)):=by simp[qM,h]
theorem EY{n:Nat}{es:List En}{k a:Nat}(hk:k<es.length)(hn:0<n)(ha:es[k].acc=(a:Int))(h1:1≤a)(h2:a<n):
  ((qM n (es.take k)).set a (zn (cA (eU a) (es.take k)+zi es[k].cW))).set 0 (zn (cA (eU 0) (es.take k)-zi es[k].cW))=qM n (es.take (k+1)):=by
 apply List.ext_getElem?
 intro i
 by_cases hi:i<n
 ·rw[gj _ hi,List.getElem?_set,List.getElem?_set,List.length_set,kC,gj _ hi,pD _ hk]
  by_cases e0:0=i
  ·subst e0
   rw[if_pos rfl,if_pos hn]
   rw[show eU ((0:Nat):Int) es[k]=-zi es[k].cW from if_pos rfl];rfl
  ·rw[if_neg e0]
   by_cases ea:a=i
   ·subst ea
    rw[if_pos rfl,if_pos hi]
    unfold eU;rw[if_neg (show ¬((a:Int)=0) by omega),if_pos ha]
   ·rw[if_neg ea]
    have:eU i es[k]=0:=by unfold eU;rw[if_neg (by omega),ha,if_neg (by omega)]
    rw[this,Int.add_zero]
 ·rw[List.getElem?_eq_none (by simp[kC];omega),List.getElem?_eq_none (by simp[kC];omega)]
theorem all_eq{n:Nat}{es:List En}{K:Nat}(hn:0<n)(Uy:n≤64)(he:∀e∈es,r6 n K e)(hl:es.length≤1000000)(hK:K≤1000000000):gZ n es=some (qM n es):=by
 unfold gZ
 refine bind_eq (vT (by omega))<|aO rfl<|bind_eq (rW (by decide) (by omega))<|bind_eq rfl ?_
 refine aU (fun k=>((k:Int),qM n (es.take k))) es.length (qM n es) ?_ (fun k hk=>?_) ?_ rfl
 ·simp only[List.take_zero]
  congr 1
  apply List.ext_getElem?
  intro i
  by_cases hi:i<n
  ·rw[gj _ hi,List.getElem?_replicate,if_pos hi];rfl
  ·rw[List.getElem?_eq_none (by simp;omega),List.getElem?_eq_none (by simp[kC];omega)]
 ·have g:=List.getElem?_eq_getElem hk
  have ho:=he _ (List.getElem_mem hk)
  obtain⟨a,ha⟩:∃a:Nat,es[k].acc=(a:Int):=⟨es[k].acc.toNat,by have:=ho.a;omega⟩
  have h1:1≤a:=by have:=ho.a;omega
  have h2:a<n:=by have:=ho.b;omega
  have s:=EY hk hn ha h1 h2
  have f1:Fit (K+1) (cA (eU a) (es.take k)):=lO (fun e h=>pE (he e h) _) k hl
  have f2:Fit (K+1) (cA (eU 0) (es.take k)):=lO (fun e h=>pE (he e h) _) k hl
  have a1:=add_eq (bK f1 (by omega)) (bK ho.f (by omega))
  have a2:=sub_eq (bK f2 (by omega)) (bK ho.f (by omega))
  rw[bz,bz,←ho.z]at a1 a2
  have g1:=gj (es.take k) h2
  have g2:((qM n (es.take k)).set a (zn (cA (eU a) (es.take k)+zi es[k].cW)))[0]? =some (zn (cA (eU 0) (es.take k))):=by
   rw[List.getElem?_set,if_neg (by omega)];exact gj (es.take k) hn
  rw[←s]
  generalize hq:qM n (es.take k)=q at*
  have TI:q.length=n:=by rw[←hq];exact kC _ _
  generalize zn (cA (eU a) (es.take k)+zi es[k].cW)=z1 at*
  generalize zn (cA (eU 0) (es.take k)-zi es[k].cW)=z2 at*
  generalize zn (cA (eU a) (es.take k))=z3 at*
  generalize zn (cA (eU 0) (es.take k))=z4 at*
  clear s ho f1 f2
  generalize es[k]=e at*
  obtain⟨acc,kd,hour,c⟩:=e
  replace ha:acc=(a:Int):=ha
  subst ha
  refine bind_eq (dT (by omega))<|bw rfl<|bind_eq (cU hk)<|bind_eq g<|bind_eq (cU (by omega))<|bind_eq g1<|bind_eq a1<|bind_eq (cU (by omega))<|bind_eq (iH (by omega))<|bind_eq (cU (i:=0) (by simp;omega))<|bind_eq g2<|bind_eq a2<|bind_eq (cU (i:=0) (by simp;omega))<|bind_eq (iH (by simp;omega))<|bind_eq (congrArg some (bh (by omega))) rfl
 ·rw[List.take_length]
  exact bind_eq (dF (by omega))<|aO rfl rfl
theorem entries_eq{n:Nat}{es:List En}{K:Nat}(hn:0<n)(he:∀e∈es,r6 n K e)(hl:es.length≤1000000)(hK:K≤1000000000):ef n es=some es:=by
 unfold ef
 refine bind_eq (vT (by omega))<|aO rfl<|bind_eq rfl<|bind_eq (rW (by decide) (by omega))<|bind_eq rfl ?_
 refine aU (fun k=>((k:Int),es.take k++List.replicate (es.length-k) (⟨0,0,0,⟨false,[]⟩⟩:En))) es.length es (by simp) (fun k hk=>?_) ?_ rfl
 ·have g:=List.getElem?_eq_getElem hk
  have ho:=he _ (List.getElem_mem hk)
  have a1:=add_eq (bK ho.f (show K≤10000000000 by omega)) (show Wl ⟨false,[]⟩from Di)
  rw[bz,Dh,Int.add_zero,←ho.z]at a1
  have s:(es.take k++List.replicate (es.length-k) (⟨0,0,0,⟨false,[]⟩⟩:En)).set k es[k]=es.take (k+1)++List.replicate (es.length-(k+1)) ⟨0,0,0,⟨false,[]⟩⟩:=by
   rw[List.set_append_right _ _ (by simp;omega),show k-(es.take k).length=0 by simp;omega,show es.length-k=(es.length-(k+1))+1 by omega,List.replicate_succ,List.set_cons_zero,List.take_add_one,g]
   simp only[Option.toList_some,List.append_assoc,List.singleton_append]
  rw[←s]
  have TI:(es.take k++List.replicate (es.length-k) (⟨0,0,0,⟨false,[]⟩⟩:En)).length=es.length:=by simp;omega
  generalize (es.take k++List.replicate (es.length-k) (⟨0,0,0,⟨false,[]⟩⟩:En))=q at*
  clear s ho
  generalize es[k]=e at*
  obtain⟨acc,kd,hour,c⟩:=e
  refine bind_eq (dT (by omega))<|bw rfl<|bind_eq (cU hk)<|bind_eq g<|bind_eq a1<|bind_eq (cU (by omega))<|bind_eq (iH (by omega))<|bind_eq (congrArg some (bh (by omega))) rfl
 ·simp only[List.take_length,Nat.sub_self,List.replicate_zero,List.append_nil]
  exact bind_eq (dF (by omega))<|aO rfl rfl
def uE(k:Nat)(e:En):Int:=if e.kd=k then zi e.cW else 0
theorem yC{n:Int}{K:Nat}{e:En}(h:r6 n K e)(k:Nat):Fit K (uE k e):=by
 unfold uE
 split
 ·exact h.f
 ·exact aas
theorem aat{n:Nat}{es:List En}{K:Nat}(hn:0<n)(he:∀e∈es,r6 n K e)(hl:es.length≤1000000)(hK:K≤1000000000)(kind:Nat):iD n es kind=some (zn (cA (uE kind) es)):=by
 unfold iD
 refine bind_eq (vT (by omega))<|aO rfl<|bind_eq rfl ?_
 refine aU (fun k=>((k:Int),(zn (cA (uE kind) (es.take k))).neg,(zn (cA (uE kind) (es.take k))).w)) es.length ((zn (cA (uE kind) es)).neg,(zn (cA (uE kind) es)).w) rfl (fun k hk=>?_) ?_ rfl
 ·have g:=List.getElem?_eq_getElem hk
  have ho:=he _ (List.getElem_mem hk)
  have f1:Fit (K+1) (cA (uE kind) (es.take k)):=lO (fun e h=>yC (he e h) _) k hl
  have a1:=add_eq (bK f1 (by omega)) (bK ho.f (by omega))
  rw[bz,bz,←ho.z]at a1
  rw[pD _ hk]
  have QJ:uE kind es[k]=if es[k].kd=kind then zi es[k].cW else 0:=rfl
  generalize cA (uE kind) (es.take k)=s at*
  rw[QJ]
  clear f1 ho QJ
  generalize es[k]=e at*
  obtain⟨acc,kd,hour,c⟩:=e
  refine bind_eq (dT (by omega))<|bw rfl<|bind_eq (cU hk)<|bind_eq g<|bind_eq rfl<|bu ?_
  by_cases h:kd=kind
  ·rw[if_pos h]
   refine bw (decide_eq_true h) ?_
   generalize zn (s+zi c)=z1 at*
   generalize zn s=z0 at*
   exact bind_eq a1<|bind_eq (congrArg some (bh (by omega))) rfl
  ·rw[if_neg h,Int.add_zero]
   exact aO (decide_eq_false h)<|bind_eq (congrArg some (bh (by omega))) rfl
 ·rw[List.take_length]
  exact bind_eq (dF (by omega))<|aO rfl rfl
theorem Mn{n:Int}(h1:1≤n)(h2:n≤64):kR n=some (n,[]):=by
 unfold kR
 exact bu<|bind_eq (dF (by omega))<|bind_eq (a:=false) (aO rfl<|bind_eq (dF (by omega)) rfl) rfl
theorem TW{n:Int}{K:Nat}{es:List En}(he:∀e∈es,r6 n K e)(hl:es.length≤1000000)(hK:K≤1000000000):kg es es=some true:=by
 unfold kg
 refine bind_eq rfl<|bind_eq rfl<|bind_eq (dF (by simp))<|aO rfl ?_
 refine aU (fun k=>(k:Int)) es.length (.inl ()) rfl (fun k hk=>?_) ?_ rfl
 ·have g:=List.getElem?_eq_getElem hk
  have ho:=he _ (List.getElem_mem hk)
  have s:=wX (x:=es[k].cW) (by
   rw[ho.z]
   have:(can 4294967296 (zi es[k].cW).natAbs).length≤K:=(aT (by decide)).2 ho.f
   show(can 4294967296 (zi es[k].cW).natAbs).length≤_
   omega)
  clear ho
  generalize es[k]=e at*
  obtain⟨acc,kd,hour,c⟩:=e
  refine bind_eq rfl<|bind_eq (dT (by omega))<|bw rfl<|bu<|bind_eq (aF g)<|bind_eq (aF g)<|bind_eq (dF (by simp)) ?_
  refine bind_eq (a:=false) (aO rfl<|bind_eq (aF g)<|bind_eq (aF g)<|bind_eq (dF (by simp)) rfl) ?_
  refine bind_eq (a:=false) (aO rfl<|bind_eq (aF g)<|bind_eq (aF g)<|bind_eq (dF (by simp)) rfl) ?_
  refine bind_eq (a:=false) (aO rfl<|bind_eq (aF g)<|bind_eq (aF g)<|bind_eq s<|bind_eq rfl rfl) ?_
  exact aO rfl<|bind_eq (congrArg some (bh (by omega))) rfl
 ·exact bind_eq rfl<|bind_eq (dF (by omega))<|aO rfl rfl
end Go.Proofs.YtmiflmkdaeianaaGreat
namespace Go.Proofs.YtmiflmkdaeianaaGreat
open Go.Fw
def Ib(x:Rat)(r:Int):Prop:=(2*(x-(r:Rat))<1∧-1<2*(x-(r:Rat)))∨((2*(x-(r:Rat))=1∨2*(x-(r:Rat))=-1)∧r%2=0)
theorem EZ(l:Int):((l+1:Int):Rat)=(l:Rat)+1:=by rw[Rat.intCast_add];rfl
theorem E4(x:Rat):Ib x (uD x):=by
 have h1:=Rat.floor_le x
 have h2:=Rat.lt_floor_add_one x
 rw[EZ]at h2
 have hh:(1:Rat)/2+1/2=1:=by grind
 unfold uD
 generalize x.floor=l at*
 split
 ·exact .inl (by constructor<;>grind)
 ·split
  ·exact .inl (by rw[EZ];constructor<;>grind)
  ·have e:2*(x-(l:Rat))=1:=by grind
   split
   ·rename_i h;exact .inr ⟨.inl e,h⟩
   ·refine .inr ⟨.inr ?_,by omega⟩
    rw[EZ];grind
theorem Ic{x y:Rat}{r s:Int}(h:Ib x r)(k:Ib y s)(e:x≤y):r≤s:=by
 by_cases SL:r≤s
 ·exact SL
 ·exfalso
  have h2:((s+1:Int):Rat)≤(r:Rat):=Rat.intCast_le_intCast.2 (by omega)
  rw[EZ]at h2
  have a1: -1≤2*(x-(r:Rat)):=by rcases h with h|⟨h|h,_⟩<;>grind
  have a2:2*(y-(s:Rat))≤1:=by rcases k with h|⟨h|h,_⟩<;>grind
  have e1:(r:Rat)=((s+1:Int):Rat):=by rw[EZ];grind
  have e2:r=s+1:=Rat.intCast_inj.1 e1
  have b1:r%2=0:=by
   rcases h with⟨h,h'⟩|⟨_,h⟩
   ·exfalso;grind
   ·exact h
  have b2:s%2=0:=by
   rcases k with⟨h,h'⟩|⟨_,h⟩
   ·exfalso;grind
   ·exact h
  omega
theorem r7{x:Rat}{r:Int}(h:Ib x r):uD x=r:=Int.le_antisymm (Ic (E4 x) h Rat.le_refl) (Ic h (E4 x) Rat.le_refl)
theorem OI{i n:Int}{K:Nat}(hf:Fit K i)(hK:K≤10000000000)(hn:da n)(e:i=n):dL (zn i) n=some true:=by
 subst e
 have h1:=fJ hn.1 hn.2
 have h2:=wX (x:=zn i) (Nat.le_trans (bK hf hK).2 (by decide))
 unfold dL
 generalize zn i=z at*
 exact bind_eq h1<|bind_eq h2 rfl
theorem jC{n:Int}(hn:da n):dL (zn n) n=some true:=OI (K:=2) (Fit.i64 hn.1 hn.2) (by decide) hn rfl
theorem mK{n d:Int}(hn:da n)(hd:da d)(h0:d≠0):∃q,cm n d=some q∧iX 2 q (Rat.divInt n d):=by
 obtain⟨h,r⟩:=new_eq hn hd h0
 refine⟨_,?_,r⟩
 unfold cm
 generalize qn (Rat.divInt n d)=q at*
 exact bind_eq h rfl
theorem vU{n:Int}{es:List En}{acc:Int}{kd:Nat}{hour:Int}{a:Qr}{L:Nat}{x:Rat}(e:Int)(hn:n≠0)(ha:iX L a x)(hL:L≤1000000000)(hl:es.length≤1000000)(he:BO n es.length acc kd hour=e)(h0:e≠0):bF n es acc kd hour a=some (e,es):=by
 rw[move_eq hn ha hL hl]
 unfold OG
 show some (BO n es.length acc kd hour,if BO n es.length acc kd hour=0 then es++[⟨acc,kd,hour,zn (uD x)⟩]else es)=_
 rw[he,if_neg h0]
theorem BP{n:Int}{es:List En}{acc:Int}{kd:Nat}{hour:Int}{a:Qr}{L:Nat}{x:Rat}(hn:n≠0)(ha:iX L a x)(hL:L≤1000000000)(hl:es.length≤1000000)(he:BO n es.length acc kd hour=0)(r:Int)(hr:uD x=r):bF n es acc kd hour a=some (0,es++[⟨acc,kd,hour,zn r⟩]):=by
 rw[move_eq hn ha hL hl]
 unfold OG
 show some (BO n es.length acc kd hour,if BO n es.length acc kd hour=0 then es++[⟨acc,kd,hour,zn (uD x)⟩]else es)=_
 rw[he,if_pos rfl,hr]
theorem r52:uD (Rat.divInt 5 2)=2:=r7 (.inr ⟨.inl (by rw[Rat.divInt_eq_div];show 2*((5:Rat)/2-2)=1;grind),rfl⟩)
theorem r72:uD (Rat.divInt 7 2)=4:=r7 (.inr ⟨.inr (by rw[Rat.divInt_eq_div];show 2*((7:Rat)/2-4)=-1;grind),rfl⟩)
theorem agu:uD (Rat.divInt (-5) 2)=-2:=r7 (.inr ⟨.inr (by rw[Rat.divInt_eq_div];show 2*((-5:Rat)/2-(-2))=-1;grind),rfl⟩)
theorem r83:uD (Rat.divInt 8 3)=3:=r7 (.inl (by rw[Rat.divInt_eq_div];show 2*((8:Rat)/3-3)<1∧-1<2*((8:Rat)/3-3);constructor<;>grind))
theorem agv:uD (Rat.divInt (-7) 1)=-7:=r7 (.inl (by rw[Rat.divInt_eq_div];show 2*((-7:Rat)/1-(-7))<1∧-1<2*((-7:Rat)/1-(-7));constructor<;>grind))
theorem kS:eE=some true:=by
 obtain⟨q1,e1,s1⟩:=mK (n:=5) (d:=2) (by decide) (by decide) (by decide)
 obtain⟨q2,e2,s2⟩:=mK (n:=-7) (d:=1) (by decide) (by decide) (by decide)
 obtain⟨q3,e3,s3⟩:=mK (n:=1) (d:=1) (by decide) (by decide) (by decide)
 obtain⟨q4,e4,s4⟩:=mK (n:=7) (d:=2) (by decide) (by decide) (by decide)
 obtain⟨q5,e5,s5⟩:=mK (n:=-5) (d:=2) (by decide) (by decide) (by decide)
 obtain⟨q6,e6,s6⟩:=mK (n:=8) (d:=3) (by decide) (by decide) (by decide)
 have m1:=BP (n:=3) (es:=[]) (acc:=1) (kd:=1) (hour:=0) (by decide) s1 (by decide) (by simp) (by decide) 2 r52
 have m2:=BP (n:=3) (es:=[]++[⟨1,1,0,zn 2⟩]) (acc:=2) (kd:=1) (hour:=0) (by decide) s2 (by decide) (by simp) (by decide) (-7) agv
 obtain⟨es,hes⟩:∃es,([]++[⟨1,1,0,zn 2⟩]++[⟨2,1,0,zn (-7)⟩]:List En)=es:=⟨_,rfl⟩
 have hlen:es.length=2:=by rw[←hes];rfl
 have QK:r6 (3:Nat) 1 ⟨1,1,0,zn 2⟩:=⟨by decide,by decide,by decide,by rw[bz],by rw[bz];unfold Fit;decide⟩
 have ok2:r6 (3:Nat) 1 ⟨2,1,0,zn (-7)⟩:=⟨by decide,by decide,by decide,by rw[bz],by rw[bz];unfold Fit;decide⟩
 have hok:∀e∈es,r6 (3:Nat) 1 e:=by
  rw[←hes];intro e he
  simp only[List.nil_append,List.cons_append,List.mem_cons,List.not_mem_nil,or_false]at he
  rcases he with rfl|rfl
  ·exact QK
  ·exact ok2
 have bal:∀f:En→Int,cA f es=f ⟨1,1,0,zn 2⟩+f ⟨2,1,0,zn (-7)⟩:=fun f=>by rw[←hes];simp[cA]
 have a1:=all_eq (n:=3) (by decide) (by decide) hok (by omega) (by decide)
 have g0:=gj (n:=3) (i:=0) es (by decide)
 have g1:=gj (n:=3) (i:=1) es (by decide)
 have g2:=gj (n:=3) (i:=2) es (by decide)
 have gl:=kC 3 es
 have b0:cA (eU ((0:Nat):Int)) es=5:=by rw[bal];unfold eU;simp only[bz];decide
 have b1:cA (eU ((1:Nat):Int)) es=2:=by rw[bal];unfold eU;simp only[bz];decide
 have b2:cA (eU ((2:Nat):Int)) es=-7:=by rw[bal];unfold eU;simp only[bz];decide
 have b3:cA (uE 1) es=-5:=by rw[bal];unfold uE;simp only[bz];decide
 rw[b0]at g0
 rw[b1]at g1
 rw[b2]at g2
 have y1:=aat (n:=3) (by decide) hok (by omega) (by decide) 1
 rw[b3]at y1
 have n1:=entries_eq (n:=3) (by decide) hok (by omega) (by decide)
 rw[hes]at m2
 have m3:=vU (n:=3) (es:=es) (acc:=3) (kd:=1) (hour:=0) 1 (by decide) s3 (by decide) (by omega) (by rw[hlen];decide) (by decide)
 have m4:=vU (n:=3) (es:=es) (acc:=0) (kd:=1) (hour:=0) 1 (by decide) s3 (by decide) (by omega) (by rw[hlen];decide) (by decide)
 have m5:=vU (n:=3) (es:=es) (acc:=1) (kd:=5) (hour:=0) 12 (by decide) s3 (by decide) (by omega) (by rw[hlen];decide) (by decide)
 have m6:=vU (n:=3) (es:=es) (acc:=1) (kd:=4) (hour:=8) 1 (by decide) s3 (by decide) (by omega) (by rw[hlen];decide) (by decide)
 have o1:=s1.round (by decide)
 have o2:=s4.round (by decide)
 have o3:=s5.round (by decide)
 have o4:=s6.round (by decide)
 rw[r52]at o1
 rw[r72]at o2
 rw[agu]at o3
 rw[r83]at o4
 have i1:=jC (n:=2) (by decide)
 have i2:=jC (n:=4) (by decide)
 have i3:=jC (n:=-2) (by decide)
 have i4:=jC (n:=3) (by decide)
 have i5:=jC (n:=5) (by decide)
 have i6:=jC (n:=-7) (by decide)
 have i7:=jC (n:=-5) (by decide)
 generalize qM 3 es=al at*
 clear hok bal QK ok2 hes b0 b1 b2 b3
 generalize ([]++[⟨1,1,0,zn 2⟩]:List En)=es1 at*
 generalize zn 2=z2 at*
 generalize zn 4=z4 at*
 generalize zn (-2)=z2' at*
 generalize zn 3=z3 at*
 generalize zn 5=z5 at*
 generalize zn (-7)=z7 at*
 generalize zn (-5)=z5' at*
 unfold eE
 refine bind_eq (Mn (by decide) (by decide))<|bind_eq e1<|bind_eq m1<|bind_eq e2<|bind_eq m2<|bind_eq e3<|bind_eq m3<|bind_eq e3<|bind_eq m4<|bind_eq e3<|bind_eq m5<|bind_eq e3<|bind_eq m6<|bind_eq a1<|bu ?_
 refine bind_eq e1<|bind_eq o1<|bind_eq i1<|uz (bind_eq e4<|bind_eq o2<|bind_eq i2 rfl)<|uz (bind_eq e5<|bind_eq o3<|bind_eq i3 rfl)<|uz (bind_eq e6<|bind_eq o4<|bind_eq i4 rfl) ?_
 refine uz (bind_eq (dT rfl) rfl)<|uz (bind_eq (dT rfl) rfl)<|uz (bind_eq (dT rfl) rfl)<|uz (bind_eq (dT rfl) rfl)<|uz (bind_eq (dT rfl) rfl)<|uz (bind_eq (dT rfl) rfl) ?_
 refine uz (bind_eq rfl<|bind_eq (dT (by omega)) rfl)<|uz (bind_eq (o6 g0)<|bind_eq i5 rfl)<|uz (bind_eq (EA g1)<|bind_eq i1 rfl)<|uz (bind_eq (aF (i:=2) g2)<|bind_eq i6 rfl) ?_
 exact uz (bind_eq y1<|bind_eq i7 rfl)<|uz (bind_eq n1<|bind_eq rfl<|bind_eq (dT (by omega)) rfl) rfl
end Go.Proofs.YtmiflmkdaeianaaGreat
namespace Go.Proofs.YtmiflmkdaeianaaGreat
open Go.Fw
theorem BQ{i j:Int}{K:Nat}(hf:Fit K i)(hK:K≤10000000000)(e:i=j):dm (zn i) (zn j)=some true:=by
 subst e
 exact wX (x:=zn i) (Nat.le_trans (bK hf hK).2 (by decide))
abbrev aaw(m:Mv):Prop:=(-9223372036854775808≤m.acc∧m.acc≤9223372036854775807)∧m.kd<256∧(-9223372036854775808≤m.hour∧m.hour≤9223372036854775807)∧OkQ m.fF
abbrev OJ(m:Mv):Nat:=1+1+1+Ux m.fF+1
abbrev szL(l:List Mv):Nat:=(l.map fun m=>OJ m).sum+1
def aax(l:List Mv):Prop:=∀m∈l,iX 1048576 m.fF (qv m.fF)
theorem agx{l:List Mv}(h:∀m∈l,aaw m)(hs:szL l≤1048576):aax l:=fun m hm=>agt (h m hm).2.2.2 (by
 have:=H8 (fun m=>OJ m) hm
 have e:szL l=(l.map fun m=>OJ m).sum+1:=rfl
 have e2:OJ m=1+1+1+Ux m.fF+1:=rfl
 omega)
def QL(n:Int)(es:List En)(m:Mv):List En:=OG n es m (zn (uD (qv m.fF)))
def mk(n:Int)(l:List Mv):List En:=l.foldl (QL n) []
def Uz(n:Int)(m:Mv):Option En:=if BO n 0 m.acc m.kd m.hour=0 then some ⟨m.acc,m.kd,m.hour,zn (uD (qv m.fF))⟩else none
theorem OK{n:Int}{k:Nat}{a:Int}{kd:Nat}{h:Int}(hk:k<1024):BO n k a kd h=BO n 0 a kd h:=by
 unfold BO;rw[if_neg (show ¬1024≤k by omega),if_neg (show ¬1024≤0 by omega)]
theorem OL(n:Int)(es:List En)(m:Mv):(QL n es m).length≤es.length+1:=by
 unfold QL OG;split<;>simp
theorem fold_filter(n:Int):∀(l:List Mv) (es:List En),es.length+l.length≤1024→l.foldl (QL n) es=es++l.filterMap (Uz n)
 |[],es,_=>by simp
 |m::l,es,h=>by
  rw[List.length_cons]at h
  have h1:=OL n es m
  rw[List.foldl_cons,fold_filter n l _ (by omega)]
  have e:QL n es m=es++(Uz n m).toList:=by
   unfold QL OG Uz
   rw[OK (by omega)]
   split<;>simp
  rw[e,List.filterMap_cons,List.append_assoc]
  congr 1
  cases Uz n m<;>rfl
theorem BR{n:Int}{l:List Mv}(h:l.length≤1024):mk n l=l.filterMap (Uz n):=by
 unfold mk;rw[fold_filter n l [] (by simpa using h)];rfl
theorem Mo{n:Int}{l:List Mv}(h:l.length≤1024):(mk n l).length≤l.length:=by
 rw[BR h];exact List.length_filterMap_le _ _
theorem aay{n:Int}{l:List Mv}(h:l.length≤1024)(hr:aax l):∀e∈mk n l,r6 n 1048577 e:=by
 rw[BR h]
 intro e he
 obtain⟨m,hm,hme⟩:=List.mem_filterMap.1 he
 unfold Uz at hme
 split at hme
 ·rename_i hv
  cases hme
  have hf:=OF (hr m hm).fq
  unfold BO at hv
  have h1:0<m.acc∧m.acc<n:=by
   by_cases q:0<m.acc∧m.acc<n
   ·exact q
   ·rw[if_pos q]at hv;exact absurd hv (by decide)
  rw[if_neg (by simpa using h1)]at hv
  have h2:¬(m.kd<1∨4<m.kd):=fun q=>by rw[if_pos q]at hv;exact absurd hv (by decide)
  refine⟨by show 1≤m.acc;omega,h1.2,by show 1≤m.kd∧m.kd≤4;omega,?_,?_⟩
  ·show zn (uD (qv m.fF))=zn (zi (zn (uD (qv m.fF))));rw[bz]
  ·show Fit _ (zi (zn (uD (qv m.fF))));rw[bz];exact hf
 ·cases hme
theorem Mp(i:Nat):Int.tmod (i:Int) 40=((i%40:Nat):Int):=rfl
theorem TX(l:List Mv)(hl:l.length≤9223372036854775807):∃b,iQ l=some b∧(b=false→l.length≤60):=by
 unfold iQ
 by_cases IG:60<l.length
 ·exact⟨true,bind_eq rfl<|bind_eq (dT (by omega))<|bw rfl rfl,by simp⟩
 ·have step:∃r,(bC (fun(yj:Int×(List Qr))=>match yj with|⟨uj,CU⟩=>(show Option ((Int×(List Qr))⊕((Unit)⊕(Bool)))from(some (l.length:Int)).bind fun eG=>(some (decide ((uj:Int)<eG))).bind fun fV=>(bif fV then(bQ l uj).bind fun⟨nc,nf,Ek,⟨⟨vz,Bx⟩,⟨By,Bz⟩⟩⟩=>(uC 64 CU [⟨⟨vz,Bx⟩,⟨By,Bz⟩⟩]).bind fun ij=>bM (fun(zX:Bool)=>bM (fun(vA:(List Qr))=>(some (IntKind.i64.wrap (uj+1))).bind fun fE=>some (.inl (fE,vA))) fun WK=>(bif zX then(fu [ij]).bind fun lW=>(bif lW then some (.inr (.inr true))else WK [])else WK ij)) fun K15=>(some (Int.tmod uj 40)).bind fun ig=>(some (decide ((ig:Int)=39))).bind fun dR=>(bif dR then some true else(some (l.length:Int)).bind fun jR=>(some (IntKind.i64.wrap (jR-1))).bind fun gx=>(some (decide ((uj:Int)=gx))).bind fun qm=>some qm).bind fun CV=>K15 CV else some (.inr (.inl ()))))) (0,[])).bind (fun IB=>match IB with|.inr v12=>some v12|.inl _=>some false)=some r∧True:=by
   refine kx (fun s=>∃(i:Nat) (r:List Qr),s=((i:Int),r)∧i≤l.length∧r.length≤i) (fun _=>True) (fun s=>l.length-s.1.toNat) ?_ ⟨0,[],rfl,by omega,by simp⟩ ?_
   ·rintro _ ⟨i,r,rfl,hi,hr⟩
    by_cases hlt:i<l.length
    ·have g:=List.getElem?_eq_getElem hlt
     generalize l[i]=m at g
     obtain⟨acc,kd,hour,q⟩:=m
     have ap:=vE (b:=64) (l:=r) (x:=q) (by decide) (by omega)
     obtain⟨t,ht,-⟩:=TT [r++[q]] (by simp)
     have fin:∀(c:Bool),((bif c then(fu [r++[q]]).bind fun lW=>(bif lW then some (.inr (.inr true))else(some (IntKind.i64.wrap ((i:Int)+1))).bind fun fE=>some (.inl (fE,[])))else(some (IntKind.i64.wrap ((i:Int)+1))).bind fun fE=>some (.inl (fE,r++[q]))):Option ((Int×(List Qr))⊕((Unit)⊕(Bool))))=some (.inr (.inr true))∨∃r2:List Qr,r2.length≤i+1∧((bif c then(fu [r++[q]]).bind fun lW=>(bif lW then some (.inr (.inr true))else(some (IntKind.i64.wrap ((i:Int)+1))).bind fun fE=>some (.inl (fE,[])))else(some (IntKind.i64.wrap ((i:Int)+1))).bind fun fE=>some (.inl (fE,r++[q]))):Option ((Int×(List Qr))⊕((Unit)⊕(Bool))))=some (.inl (((i+1:Nat):Int),r2)):=by
      intro c
      cases c
      ·exact .inr ⟨r++[q],by simp;omega,aO rfl<|bind_eq (congrArg some (bh (by omega))) rfl⟩
      ·cases t
       ·exact .inr ⟨[],by simp,bw rfl<|bind_eq ht<|aO rfl<|bind_eq (congrArg some (bh (by omega))) rfl⟩
       ·exact .inl (bw rfl<|bind_eq ht<|bw rfl rfl)
     have cond:∃c:Bool,((bif decide (((i%40:Nat):Int)=39)then some true else(some (l.length:Int)).bind fun jR=>(some (IntKind.i64.wrap (jR-1))).bind fun gx=>(some (decide ((i:Int)=gx))).bind fun qm=>some qm):Option Bool)=some c:=by
      cases decide (((i%40:Nat):Int)=39)
      ·exact⟨_,rfl⟩
      ·exact⟨_,rfl⟩
     obtain⟨c,hc⟩:=cond
     rcases fin c with h|⟨r2,h2,h⟩
     ·exact .inr ⟨.inr true,bind_eq rfl<|bind_eq (dT (by omega))<|bw rfl<|bind_eq (aF g)<|bind_eq ap<|bu<|bind_eq (congrArg some (Mp i))<|bind_eq rfl<|bind_eq hc h,trivial⟩
     ·exact .inl ⟨_,bind_eq rfl<|bind_eq (dT (by omega))<|bw rfl<|bind_eq (aF g)<|bind_eq ap<|bu<|bind_eq (congrArg some (Mp i))<|bind_eq rfl<|bind_eq hc h,⟨i+1,r2,rfl,hlt,h2⟩,by simp only[Int.toNat_natCast];omega⟩
    ·exact .inr ⟨.inl (),bind_eq rfl<|bind_eq (dF (by omega))<|aO rfl rfl,trivial⟩
   ·rintro e-
    cases e
    ·exact⟨false,rfl,trivial⟩
    ·exact⟨_,rfl,trivial⟩
  obtain⟨r,hr,-⟩:=step
  exact⟨r,bind_eq rfl<|bind_eq (dF (by omega))<|aO rfl hr,fun _=>by omega⟩
end Go.Proofs.YtmiflmkdaeianaaGreat
namespace Go.Proofs.YtmiflmkdaeianaaGreat
open Go.Fw
theorem told_eq(es:List En)(h:es.length≤1000000):kj es=some es:=by
 unfold kj
 refine aU (fun k=>((k:Int),es.take k)) es.length es rfl (fun k hk=>?_) ?_ rfl
 ·have g:=List.getElem?_eq_getElem hk
  rw[List.take_add_one,g]
  generalize es[k]=e at g
  have ap:=vE (b:=56) (l:=es.take k) (x:=e) (by decide) (by rw[List.length_take];omega)
  obtain⟨acc,kd,hour,c⟩:=e
  exact bind_eq rfl<|bind_eq (dT (by omega))<|bw rfl<|bind_eq (aF g)<|bind_eq ap<|bind_eq (congrArg some (bh (by omega))) rfl
 ·rw[List.take_length]
  exact bind_eq rfl<|bind_eq (dF (by omega))<|aO rfl rfl
end Go.Proofs.YtmiflmkdaeianaaGreat
namespace Go.Proofs.YtmiflmkdaeianaaGreat
open Go.Fw
theorem pG{n:Int}{es:List En}(h:n≠0):eF ⟨n,es⟩=some false:=by
 unfold eF
 exact bu<|bind_eq (a:=false) (aO rfl<|bind_eq (dF h) rfl) rfl
theorem xH{n:Nat}{es:List En}{K:Nat}(hn:0<n)(he:∀e∈es,r6 n K e)(hl:es.length≤1000000)(hK:K≤1000000000):dy ⟨n,es⟩=some es:=by
 unfold dy
 refine bind_eq (pG (by omega))<|aO rfl<|bind_eq rfl<|bind_eq (rW (by decide) (by omega))<|bind_eq rfl ?_
 refine aU (fun k=>((k:Int),es.take k++List.replicate (es.length-k) (⟨0,0,0,⟨false,[]⟩⟩:En))) es.length es (by simp) (fun k hk=>?_) ?_ rfl
 ·have g:=List.getElem?_eq_getElem hk
  have ho:=he _ (List.getElem_mem hk)
  have a1:=add_eq (bK ho.f (show K≤10000000000 by omega)) (show Wl ⟨false,[]⟩from Di)
  rw[bz,Dh,Int.add_zero,←ho.z]at a1
  have s:(es.take k++List.replicate (es.length-k) (⟨0,0,0,⟨false,[]⟩⟩:En)).set k es[k]=es.take (k+1)++List.replicate (es.length-(k+1)) ⟨0,0,0,⟨false,[]⟩⟩:=by
   rw[List.set_append_right _ _ (by simp;omega),show k-(es.take k).length=0 by simp;omega,show es.length-k=(es.length-(k+1))+1 by omega,List.replicate_succ,List.set_cons_zero,List.take_add_one,g]
   simp only[Option.toList_some,List.append_assoc,List.singleton_append]
  rw[←s]
  have TI:(es.take k++List.replicate (es.length-k) (⟨0,0,0,⟨false,[]⟩⟩:En)).length=es.length:=by simp;omega
  generalize (es.take k++List.replicate (es.length-k) (⟨0,0,0,⟨false,[]⟩⟩:En))=q at*
  clear s ho
  generalize es[k]=e at*
  obtain⟨acc,kd,hour,c⟩:=e
  refine bind_eq (dT (by omega))<|bw rfl<|bind_eq (aF g)<|bind_eq a1<|bind_eq (cU (by omega))<|bind_eq (iH (by omega))<|bind_eq (congrArg some (bh (by omega))) rfl
 ·simp only[List.take_length,Nat.sub_self,List.replicate_zero,List.append_nil]
  exact bind_eq (dF (by omega))<|aO rfl rfl
theorem Ie{n:Nat}{es:List En}{K:Nat}(hn:0<n)(Uy:n≤64)(he:∀e∈es,r6 n K e)(hl:es.length≤1000000)(hK:K≤1000000000):jJ ⟨n,es⟩=some (qM n es):=by
 unfold jJ
 refine bind_eq (pG (by omega))<|aO rfl<|bind_eq (rW (by decide) (by omega))<|bind_eq rfl ?_
 refine aU (fun k=>((k:Int),qM n (es.take k))) es.length (qM n es) ?_ (fun k hk=>?_) ?_ rfl
 ·simp only[List.take_zero]
  congr 1
  apply List.ext_getElem?
  intro i
  by_cases hi:i<n
  ·rw[gj _ hi,List.getElem?_replicate,if_pos hi];rfl
  ·rw[List.getElem?_eq_none (by simp;omega),List.getElem?_eq_none (by simp[kC];omega)]
 ·have g:=List.getElem?_eq_getElem hk
  have ho:=he _ (List.getElem_mem hk)
  obtain⟨a,ha⟩:∃a:Nat,es[k].acc=(a:Int):=⟨es[k].acc.toNat,by have:=ho.a;omega⟩
  have h1:1≤a:=by have:=ho.a;omega
  have h2:a<n:=by have:=ho.b;omega
  have s:=EY hk hn ha h1 h2
  have f1:Fit (K+1) (cA (eU a) (es.take k)):=lO (fun e h=>pE (he e h) _) k hl
  have f2:Fit (K+1) (cA (eU 0) (es.take k)):=lO (fun e h=>pE (he e h) _) k hl
  have a1:=add_eq (bK f1 (by omega)) (bK ho.f (by omega))
  have a2:=sub_eq (bK f2 (by omega)) (bK ho.f (by omega))
  rw[bz,bz,←ho.z]at a1 a2
  have g1:=gj (es.take k) h2
  have g2:((qM n (es.take k)).set a (zn (cA (eU a) (es.take k)+zi es[k].cW)))[0]? =some (zn (cA (eU 0) (es.take k))):=by
   rw[List.getElem?_set,if_neg (by omega)];exact gj (es.take k) hn
  rw[←s]
  generalize hq:qM n (es.take k)=q at*
  have TI:q.length=n:=by rw[←hq];exact kC _ _
  generalize zn (cA (eU a) (es.take k)+zi es[k].cW)=z1 at*
  generalize zn (cA (eU 0) (es.take k)-zi es[k].cW)=z2 at*
  generalize zn (cA (eU a) (es.take k))=z3 at*
  generalize zn (cA (eU 0) (es.take k))=z4 at*
  clear s ho f1 f2
  generalize es[k]=e at*
  obtain⟨acc,kd,hour,c⟩:=e
  replace ha:acc=(a:Int):=ha
  subst ha
  refine bind_eq (dT (by omega))<|bw rfl<|bind_eq (aF g)<|bind_eq (cU (by omega))<|bind_eq g1<|bind_eq a1<|bind_eq (cU (by omega))<|bind_eq (iH (by omega))<|bind_eq (cU (i:=0) (by simp;omega))<|bind_eq g2<|bind_eq a2<|bind_eq (cU (i:=0) (by simp;omega))<|bind_eq (iH (by simp;omega))<|bind_eq (congrArg some (bh (by omega))) rfl
 ·rw[List.take_length]
  exact bind_eq (dF (by omega))<|aO rfl rfl
theorem Ig{n:Nat}{es:List En}{K:Nat}(hn:0<n)(Uy:n≤64)(he:∀e∈es,r6 n K e)(hl:es.length≤1000000)(hK:K≤1000000000){i:Nat}(hi:i<n):gD ⟨n,es⟩ i=some (zn (cA (eU (i:Int)) es),0):=by
 unfold gD
 have a:=Ie hn Uy he hl hK
 have g:=gj es hi
 generalize zn (cA (eU (i:Int)) es)=z at*
 exact bind_eq (pG (by omega))<|aO rfl<|bu<|bind_eq (dF (by omega))<|bind_eq (a:=false) (aO rfl<|bind_eq (dF (by omega)) rfl)<|aO rfl<|bind_eq a<|bind_eq (aF g) rfl
theorem Mq{n:Nat}{es:List En}(hn:0<n){i:Int}(hi:¬(0≤i∧i<n)):gD ⟨n,es⟩ i=some (⟨false,[]⟩,1):=by
 unfold gD
 refine bind_eq (pG (by omega))<|aO rfl<|bu ?_
 by_cases h:i<0
 ·exact bind_eq (dT h)<|bind_eq (a:=true) (bw rfl rfl)<|bw rfl rfl
 ·exact bind_eq (dF h)<|bind_eq (a:=true) (aO rfl<|bind_eq (dT (by omega)) rfl)<|bw rfl rfl
theorem TY{n:Nat}{es:List En}{K:Nat}(hn:0<n)(he:∀e∈es,r6 n K e)(hl:es.length≤1000000)(hK:K≤1000000000)(kind:Nat):nA ⟨n,es⟩ kind=some (zn (cA (uE kind) es)):=by
 unfold nA
 refine bind_eq (pG (by omega))<|aO rfl<|bind_eq rfl ?_
 refine aU (fun k=>((k:Int),(zn (cA (uE kind) (es.take k))).neg,(zn (cA (uE kind) (es.take k))).w)) es.length ((zn (cA (uE kind) es)).neg,(zn (cA (uE kind) es)).w) rfl (fun k hk=>?_) ?_ rfl
 ·have g:=List.getElem?_eq_getElem hk
  have ho:=he _ (List.getElem_mem hk)
  have f1:Fit (K+1) (cA (uE kind) (es.take k)):=lO (fun e h=>yC (he e h) _) k hl
  have a1:=add_eq (bK f1 (by omega)) (bK ho.f (by omega))
  rw[bz,bz,←ho.z]at a1
  rw[pD _ hk]
  have QJ:uE kind es[k]=if es[k].kd=kind then zi es[k].cW else 0:=rfl
  generalize cA (uE kind) (es.take k)=s at*
  rw[QJ]
  clear f1 ho QJ
  generalize es[k]=e at*
  obtain⟨acc,kd,hour,c⟩:=e
  refine bind_eq (dT (by omega))<|bw rfl<|bind_eq (aF g)<|bind_eq rfl<|bu ?_
  by_cases h:kd=kind
  ·rw[if_pos h]
   refine bw (decide_eq_true h) ?_
   generalize zn (s+zi c)=z1 at*
   generalize zn s=z0 at*
   exact bind_eq a1<|bind_eq (congrArg some (bh (by omega))) rfl
  ·rw[if_neg h,Int.add_zero]
   exact aO (decide_eq_false h)<|bind_eq (congrArg some (bh (by omega))) rfl
 ·rw[List.take_length]
  exact bind_eq (dF (by omega))<|aO rfl rfl
theorem TZ{n:Nat}{es:List En}{K:Nat}(he:∀e∈es,r6 n K e)(hl:es.length≤1000000)(hK:K≤1000000000)(kind:Nat):lK ⟨n,es⟩ kind=some (zn (cA (uE kind) es)):=by
 unfold lK
 refine aU (fun k=>((k:Int),(zn (cA (uE kind) (es.take k))).neg,(zn (cA (uE kind) (es.take k))).w)) es.length ((zn (cA (uE kind) es)).neg,(zn (cA (uE kind) es)).w) rfl (fun k hk=>?_) ?_ rfl
 ·have g:=List.getElem?_eq_getElem hk
  have ho:=he _ (List.getElem_mem hk)
  have f1:Fit (K+1) (cA (uE kind) (es.take k)):=lO (fun e h=>yC (he e h) _) k hl
  have a1:=vS (bK f1 (by omega)) (bK ho.f (by omega))
  rw[bz,bz,←ho.z]at a1
  rw[pD _ hk]
  have QJ:uE kind es[k]=if es[k].kd=kind then zi es[k].cW else 0:=rfl
  generalize cA (uE kind) (es.take k)=s at*
  rw[QJ]
  clear f1 ho QJ
  generalize es[k]=e at*
  obtain⟨acc,kd,hour,c⟩:=e
  refine bind_eq rfl<|bind_eq (dT (by omega))<|bw rfl<|bind_eq (aF g)<|bind_eq rfl<|bu ?_
  by_cases h:kd=kind
  ·rw[if_pos h]
   refine bw (decide_eq_true h) ?_
   generalize zn (s+zi c)=z1 at*
   generalize zn s=z0 at*
   exact bind_eq (aF g)<|bind_eq a1<|bind_eq (congrArg some (bh (by omega))) rfl
  ·rw[if_neg h,Int.add_zero]
   exact aO (decide_eq_false h)<|bind_eq (congrArg some (bh (by omega))) rfl
 ·rw[List.take_length]
  exact bind_eq rfl<|bind_eq (dF (by omega))<|aO rfl rfl
theorem OM{n:Nat}{es:List En}{K:Nat}(he:∀e∈es,r6 n K e)(hl:es.length≤1000000)(hK:K≤1000000000)(i:Nat):kp ⟨n,es⟩ i=some (zn (cA (eU (i:Int)) es)):=by
 unfold kp
 refine aU (fun k=>((k:Int),(zn (cA (eU (i:Int)) (es.take k))).neg,(zn (cA (eU (i:Int)) (es.take k))).w)) es.length ((zn (cA (eU (i:Int)) es)).neg,(zn (cA (eU (i:Int)) es)).w) rfl (fun k hk=>?_) ?_ rfl
 ·have g:=List.getElem?_eq_getElem hk
  have ho:=he _ (List.getElem_mem hk)
  have f1:Fit (K+1) (cA (eU (i:Int)) (es.take k)):=lO (fun e h=>pE (he e h) _) k hl
  have a1:=vS (bK f1 (by omega)) (bK ho.f (by omega))
  have a2:=OC (bK f1 (by omega)) (bK ho.f (by omega))
  rw[bz,bz,←ho.z]at a1 a2
  rw[pD _ hk]
  have hbf:eU (i:Int) es[k]=if(i:Int)=0 then-zi es[k].cW else if es[k].acc=(i:Int)then zi es[k].cW else 0:=rfl
  have h1:=ho.a
  generalize cA (eU (i:Int)) (es.take k)=s at*
  rw[hbf]
  clear f1 ho hbf
  generalize es[k]=e at*
  obtain⟨acc,kd,hour,c⟩:=e
  replace h1:1≤acc:=h1
  refine bind_eq rfl<|bind_eq (dT (by omega))<|bw rfl<|bind_eq (aF g)<|bind_eq rfl<|bu ?_
  by_cases h:acc=(i:Int)
  ·rw[if_neg (by omega),if_pos h]
   refine bw (decide_eq_true h) ?_
   generalize zn (s+zi c)=z1 at*
   generalize zn s=z0 at*
   exact bind_eq (aF g)<|bind_eq a1<|bind_eq (dF (by omega))<|bu<|aO rfl<|bind_eq (congrArg some (bh (by omega))) rfl
  ·refine aO (decide_eq_false h) ?_
   by_cases h0:(i:Int)=0
   ·rw[if_pos h0,←Int.sub_eq_add_neg]
    generalize zn (s-zi c)=z1 at*
    generalize zn s=z0 at*
    exact bind_eq (dT h0)<|bu<|bw rfl<|bind_eq (aF g)<|bind_eq a2<|bind_eq (congrArg some (bh (by omega))) rfl
   ·rw[if_neg h0,if_neg h,Int.add_zero]
    exact bind_eq (dF h0)<|bu<|aO rfl<|bind_eq (congrArg some (bh (by omega))) rfl
 ·rw[List.take_length]
  exact bind_eq rfl<|bind_eq (dF (by omega))<|aO rfl rfl
theorem ON{n:Nat}{es:List En}{K:Nat}(hn:0<n)(Uy:n≤64)(he:∀e∈es,r6 n K e)(hl:es.length≤1000000)(hK:K≤1000000000):gN ⟨n,es⟩ ⟨n,es⟩=some true:=by
 unfold gN
 have ql:=kC n es
 have g:=fun i (h:i<n)=>gj es h
 have f1:∀i:Nat,Fit (K+1) (cA (eU (i:Int)) es):=fun i=>Ao (fun e h=>pE (he e h) _) hl
 have f2:∀i:Nat,Fit (K+1) (cA (uE i) es):=fun i=>Ao (fun e h=>yC (he e h) _) hl
 have h1:=fun i (h:i<n)=>Ig hn Uy he hl hK h
 have h2:=OM (n:=n) he hl hK
 have b1:=TY hn he hl hK
 have b2:=TZ (n:=n) he hl hK
 refine bind_eq (xH hn he hl hK)<|bind_eq (told_eq es hl)<|bind_eq (TW he hl hK)<|bind_eq rfl<|aO rfl<|bind_eq (Ie hn Uy he hl hK)<|bind_eq rfl<|bind_eq (dF (by omega))<|aO rfl ?_
 generalize qM n es=w at*
 refine aU (fun k=>(k:Int)) n (.inl ()) rfl (fun k hk=>?_) ?_ ?_
 ·have s:=BQ (f1 k) (by omega) rfl
  have e1:=h1 k hk
  have e2:=h2 k
  have e3:=g k hk
  generalize zn (cA (eU (k:Int)) es)=z at*
  exact bind_eq (dT (by omega))<|bw rfl<|bind_eq e1<|bu<|bind_eq (dF (by decide))<|bind_eq (a:=false) (aO rfl<|bind_eq e2<|bind_eq s<|bind_eq rfl rfl)<|bind_eq (a:=false) (aO rfl<|bind_eq (aF e3)<|bind_eq s<|bind_eq rfl rfl)<|aO rfl<|bind_eq (congrArg some (bh (by omega))) rfl
 ·exact bind_eq (dF (by omega))<|aO rfl rfl
 ·refine aU (fun k=>(k:Int)) 7 (.inl ()) rfl (fun k hk=>?_) ?_ rfl
  ·have t:((k:Int)%256).toNat=k:=by omega
   have s:=BQ (f2 k) (by omega) rfl
   have e1:=b1 k
   have e2:=b2 k
   generalize zn (cA (uE k) es)=z at*
   exact bind_eq (dT (by omega))<|bw rfl<|bind_eq (congrArg some t)<|bind_eq e1<|bind_eq (congrArg some t)<|bind_eq e2<|bind_eq s<|bind_eq rfl<|aO rfl<|bind_eq (congrArg some (bh (by omega))) rfl
  ·exact bind_eq (dF (by decide))<|aO rfl rfl
theorem Mr{n:Int}{es:List En}{acc:Int}{kd:Nat}{hour:Int}{a:Qr}{L:Nat}{x:Rat}(ha:iX L a x)(hL:L≤1000000000)(hl:es.length≤1000000):
  fy n es acc kd hour a=some (BO n es.length acc kd hour,OG n es ⟨acc,kd,hour,a⟩ (zn (uD x))):=by
 have hr:=ha.TV hL
 unfold OG fy BO
 obtain⟨⟨a1,a2⟩,⟨a3,a4⟩⟩:=a
 generalize zn (uD x)=z at hr⊢
 refine bu ?_
 by_cases h1:0<acc∧acc<n
 ·rw[if_neg (by simpa using h1)]
  refine bind_eq (dF (by omega))<|bind_eq (a:=false) (aO rfl<|bind_eq (dF (by omega)) rfl)<|aO rfl<|bu ?_
  by_cases h2:kd<1∨4<kd
  ·rw[if_pos h2]
   refine bind_eq rfl<|bind_eq (a:=true) ?_<|bw rfl rfl
   by_cases h3:kd<1
   ·exact bw (decide_eq_true h3) rfl
   ·exact aO (decide_eq_false h3)<|bind_eq (dT (by omega)) rfl
  ·rw[if_neg h2]
   refine bind_eq (dF (by omega))<|bind_eq (a:=false) (aO rfl<|bind_eq (dF (by omega)) rfl)<|aO rfl<|bu ?_
   by_cases h3:hour< -1∨8≤hour
   ·rw[if_pos h3]
    refine bind_eq rfl<|bind_eq (a:=true) ?_<|bw rfl rfl
    by_cases h4:hour< -1
    ·exact bw (decide_eq_true h4) rfl
    ·exact aO (decide_eq_false h4)<|bind_eq (dT (by omega)) rfl
   ·rw[if_neg h3]
    refine bind_eq (dF (by omega))<|bind_eq (a:=false) (aO rfl<|bind_eq (dF (by omega)) rfl)<|aO rfl<|bind_eq rfl ?_
    by_cases h4:1024≤es.length
    ·rw[if_pos h4,if_neg (by decide)]
     exact bind_eq (dT (by omega))<|bw rfl rfl
    ·rw[if_neg h4,if_pos rfl]
     exact bind_eq (dF (by omega))<|aO rfl<|bind_eq hr<|bind_eq (vE (by decide) (by omega)) rfl
 ·rw[if_pos h1,if_neg (by decide)]
  refine bind_eq rfl<|bind_eq (a:=true) ?_<|bw rfl rfl
  by_cases h3:acc<1
  ·exact bw (decide_eq_true h3) rfl
  ·exact aO (decide_eq_false h3)<|bind_eq (dT (by omega)) rfl
theorem OO{n:Int}(h1:1≤n)(h2:n≤64):lJ n=some (n,[]):=by
 unfold lJ
 exact bu<|bind_eq (dF (by omega))<|bind_eq (a:=false) (aO rfl<|bind_eq (dF (by omega)) rfl) rfl
theorem agy{n:Int}(h:¬(1≤n∧n≤64)):lI n=some ()∧ko n=some ():=by
 unfold lI ko
 by_cases h1:n<1
 ·exact⟨bu<|bind_eq (dT h1)<|bind_eq (a:=true) (bw rfl rfl) rfl,bu<|bind_eq (dT h1)<|bind_eq (a:=true) (bw rfl rfl) rfl⟩
 ·exact⟨bu<|bind_eq (dF h1)<|bind_eq (a:=true) (aO rfl<|bind_eq (dT (by omega)) rfl) rfl,bu<|bind_eq (dF h1)<|bind_eq (a:=true) (aO rfl<|bind_eq (dT (by omega)) rfl) rfl⟩
theorem A5(x0:Int)(l:List Mv)(x2:Int)(o0: -9223372036854775808≤x0∧x0≤9223372036854775807)(ol:l.length≤9223372036854775807∧∀m∈l,aaw m)(o2: -9223372036854775808≤x2∧x2≤9223372036854775807)(hs:1+szL l+1≤1048576):fO x0 l x2=some true:=by
 obtain⟨t1,Uw,QZ⟩:=TX l ol.1
 have hr:=agx ol.2 (by omega)
 unfold fO
 by_cases hin:1≤x0∧x0≤64
 ·rw[if_pos hin]
  unfold fz
  refine bind_eq Uw ?_
  cases t1
  case true=>exact bw rfl<|bind_eq kS rfl
  have hlen:=QZ rfl
  have c1:l.length≤1024:=by omega
  obtain⟨n,rfl⟩:∃n:Nat,x0=(n:Int):=⟨x0.toNat,by omega⟩
  have n1:0<n:=by omega
  have n2:n≤64:=by omega
  have QK:=aay (n:=(n:Int)) c1 hr
  have l1:=Mo (n:=(n:Int)) c1
  refine aO rfl<|bind_eq (Mn (by omega) (by omega))<|bind_eq (OO (by omega) (by omega))<|bu<|bind_eq (a:=false) (aO rfl rfl)<|aO rfl ?_
  refine aU (fun k=>((k:Int),mk (n:Int) (l.take k),mk (n:Int) (l.take k))) l.length (.inl (mk (n:Int) l,mk (n:Int) l)) rfl (fun k hk=>?_) ?_ ?_
  ·have g:=List.getElem?_eq_getElem hk
   have hm:=hr _ (List.getElem_mem hk)
   have hlen:(mk (n:Int) (l.take k)).length≤1024:=Nat.le_trans (Mo (by rw[List.length_take];omega)) (by rw[List.length_take];omega)
   have s:mk (n:Int) (l.take (k+1))=QL (n:Int) (mk (n:Int) (l.take k)) l[k]:=by
    unfold mk;rw[List.take_add_one,g,List.foldl_append];rfl
   rw[s]
   generalize mk (n:Int) (l.take k)=es at*
   clear s
   unfold QL
   have mv:=move_eq (n:=(n:Int)) (es:=es) (acc:=l[k].acc) (kd:=l[k].kd) (hour:=l[k].hour) (by omega) hm (by decide) (by omega)
   have xv:=Mr (n:=(n:Int)) (es:=es) (acc:=l[k].acc) (kd:=l[k].kd) (hour:=l[k].hour) hm (by decide) (by omega)
   generalize zn (uD (qv l[k].fF))=z at*
   clear hm
   generalize l[k]=m at*
   obtain⟨acc,kd,hour,⟨⟨a1,a2⟩,⟨a3,a4⟩⟩⟩:=m
   exact bind_eq rfl<|bind_eq (dT (by omega))<|bw rfl<|bind_eq (aF g)<|bind_eq (aF g)<|bind_eq (aF g)<|bind_eq (aF g)<|bind_eq mv<|bind_eq (aF g)<|bind_eq (aF g)<|bind_eq (aF g)<|bind_eq (aF g)<|bind_eq xv<|bind_eq (dF (by simp))<|aO rfl<|bind_eq (congrArg some (bh (by omega))) rfl
  ·rw[List.take_length]
   exact bind_eq rfl<|bind_eq (dF (by omega))<|aO rfl rfl
  ·generalize mk (n:Int) l=es at*
   have lk:=ON n1 n2 QK (by omega) (by decide)
   have en:=xH n1 QK (by omega) (by decide)
   refine bind_eq lk<|bind_eq rfl<|aO rfl<|bind_eq en ?_
   have fin:((gN ⟨n,es⟩ ⟨n,es⟩).bind fun wA=>(bif wA then(some (decide ((1:Int)=1))).bind fun Ee=>some Ee else some false))=some true:=bind_eq lk<|bw rfl rfl
   by_cases hi:0≤x2∧x2<n
   ·obtain⟨i,rfl⟩:∃i:Nat,x2=(i:Int):=⟨x2.toNat,by omega⟩
    have hh:=Ig n1 n2 QK (by omega) (by decide) (show i<n by omega)
    generalize zn (cA (eU (i:Int)) es)=z at*
    exact bind_eq hh<|bu<|bind_eq (dF (by omega))<|bind_eq (a:=false) (aO rfl<|bind_eq (dF (by omega)) rfl)<|bu<|aO rfl<|bu<|bind_eq lk<|bind_eq (a:=true) (bw rfl<|bind_eq (dT rfl) rfl)<|bind_eq (a:=true) (bw rfl<|bind_eq kS rfl) rfl
   ·have hh:=Mq (es:=es) n1 hi
    refine bind_eq hh<|bu ?_
    by_cases h0:x2<0
    ·exact bind_eq (dT h0)<|bind_eq (a:=true) (bw rfl rfl)<|bu<|bw rfl<|bu<|bind_eq lk<|bind_eq (a:=true) (bw rfl<|bind_eq (dT rfl) rfl)<|bind_eq (a:=true) (bw rfl<|bind_eq kS rfl) rfl
    ·exact bind_eq (dF h0)<|bind_eq (a:=true) (aO rfl<|bind_eq (dT (by omega)) rfl)<|bu<|bw rfl<|bu<|bind_eq lk<|bind_eq (a:=true) (bw rfl<|bind_eq (dT rfl) rfl)<|bind_eq (a:=true) (bw rfl<|bind_eq kS rfl) rfl
 ·rw[if_neg hin]
  unfold fB
  refine bind_eq Uw ?_
  cases t1
  case true=>exact bw rfl<|bind_eq kS rfl
  obtain⟨z1,z2⟩:=agy hin
  exact aO rfl<|bind_eq z1<|bind_eq z2<|bu<|bind_eq (a:=false) (aO rfl rfl)<|aO rfl<|bind_eq kS rfl
end Go.Proofs.YtmiflmkdaeianaaGreat
namespace Go.Proofs.YtmiflmkdaeianaaGreat
open Go.Fw Go.RowKit Go.ChangeShapes Go.WideShapes Go.ChangeAt
set_option linter.unusedVariables false
set_option maxRecDepth 100000 in
theorem oF(H:Type)(enc:TypeId×Value→H)(W:World)(base:Nat)(args:Array Value)(ds gs:List (DataW H))(before:List MemPlace)
  (hval:∀(j:Nat) t v,Tryz.f3.params[j]? =some t→args[j]? =some v→Value.okWide Tryz.prog W .any base t v)
  (hW:DataW.Whole enc Tryz.prog Tryz.f3.params.toList Rows.bookMatchesSpec.vars false W args.toList ds gs before) (hk:Rows.uptoSmall H (ds++gs)=true):
  Calls Tryz.prog 3 args W fun e W'=>∃v,e=.returned v∧Rows.bookMatchesSpec.post enc Tryz.prog Tryz.f3 false true false false W args v W':=by
 have hW':=hW
 obtain⟨p,q,hA0,hV,rfl,hfz,hnd⟩:=hW
 have hA:DataW.TrodAll enc Tryz.prog W 0 (fun _=>true) true Tryz.f3.params.toList args.toList ds p:=hA0
 rw[Tryz.params3]at hA hval
 obtain⟨v0,Jf,d0,ds0,p0,q0,hargs,rfl,rfl,h0,r0⟩:=trodAll_cons hA
 obtain⟨v1,vs1,d1,ds1,p1,q1,rfl,rfl,rfl,h1,r1⟩:=trodAll_cons r0
 obtain⟨v2,vs2,d2,ds2,p2,q2,rfl,rfl,rfl,h2,r2⟩:=trodAll_cons r1
 obtain⟨rfl,rfl,rfl⟩:=trodAll_nil r2
 obtain rfl:args=#[v0,v1,v2]:=by cases args;simp_all
 obtain⟨rfl,rfl⟩:=trodVars_none hV
 have lt0:∀x∈p0,x.block<W.heap.size:=by obtain⟨m,hm⟩:=h0;exact DataW.trod_lt m _ _ _ hm
 obtain⟨x0,ok0,sz0,al0⟩:=Cc (P:=Tryz.prog) (T:=3) (e:=aS) (hval 0 3 v0 rfl rfl) h0
 have lt1:∀x∈p1,x.block<W.heap.size:=by obtain⟨m,hm⟩:=h1;exact DataW.trod_lt m _ _ _ hm
 obtain⟨x1,QK,sz1,al1⟩:=Cc (P:=Tryz.prog) (T:=22) (e:=(eS 7 Iu)) (hval 1 22 v1 rfl rfl) h1
 have lt2:∀x∈p2,x.block<W.heap.size:=by obtain⟨m,hm⟩:=h2;exact DataW.trod_lt m _ _ _ hm
 obtain⟨x2,ok2,sz2,al2⟩:=Cc (P:=Tryz.prog) (T:=3) (e:=aS) (hval 2 3 v2 rfl rfl) h2
 have hsz:Rows.uptoBulk d0+Rows.uptoBulk d1+Rows.uptoBulk d2≤1048576:=by
  have:=of_decide_eq_true hk;simp only[List.cons_append,List.nil_append,List.append_nil,Rows.uptoBulkAll]at this;omega
 clear hA0
 refine(M8 (rV (A5 x0 x1 x2 ok0 QK ok2 (Nat.le_trans (Nat.add_le_add (Nat.add_le_add sz0 sz1) sz2) hsz))) (W:=W) (vs:=[v0,v1,v2]) ⟨al0.1,al1.1,al2.1,trivial⟩).mono fun e W' ⟨he,bel⟩=>?_
 subst he
 exact⟨_,rfl,_,_,_,[],_,[],hW',trodAll_mk1 (shut_bool Tryz.underlying4 _),(trodAll_cons_mk (Below.trod za (by kernel_rfl) (of_decide_eq_true (by kernel_rfl)) h0 bel lt0) (trodAll_cons_mk (Below.trod za (by kernel_rfl) (of_decide_eq_true (by kernel_rfl)) h1 bel lt1) (trodAll_cons_mk (Below.trod za (by kernel_rfl) (of_decide_eq_true (by kernel_rfl)) h2 bel lt2) trodAll_mk0))),rfl,bel.frame _,fun h=>by cases h⟩
set_option maxRecDepth 100000 in
theorem qj(os:Os)(started:os.Started)(H:Type)(enc:TypeId×Value→H)(F:Stop.Interp):
  ReturnsInHanded {} Tryz.checked os 3 .any ((Rows.OpenSpec.upto Rows.bookMatchesSpec).pre6 enc Tryz.prog Tryz.f3 Rows.bookMatchesUptoRow.domain false) (((Rows.OpenSpec.upto Rows.bookMatchesSpec).at F).post enc Tryz.prog Tryz.f3 false true false false):=by
 refine returnsInHanded_of_cond (C:=Tryz.checked) (s:=Rows.OpenSpec.upto Rows.bookMatchesSpec) (k:=Rows.uptoSmall) rfl ac6 started (by kernel_rfl) Tryz.func3
  (OpenSpec.witness (enc:=enc) (C:=Tryz.checked) (s:=Rows.OpenSpec.upto Rows.bookMatchesSpec) (k:=Rows.uptoSmall) rfl false ⟨#[],#[.int .i64 0,.slice none 0 0,.int .i64 0],[]⟩ 8 (by kernel_rfl) (by kernel_rfl) (by kernel_rfl)
   (x:=([.lit (.int .i64 0),.nil,.lit (.int .i64 0)],[],[])) (by kernel_rfl) rfl (by kernel_rfl)) ?_
 intro W base args ds gs before hval hW _ hk _
 exact oF H enc W base args ds gs before hval hW hk
theorem bookMatchesUpto_holds:Rows.BookMatchesUptoSaid:=
 OpenClaim.holds_of_cond 3 Tryz.f3 rfl rfl rfl rfl rfl rfl rfl ⟨rfl,rfl,rfl,rfl,rfl⟩ rfl rfl rfl rfl rfl (by kernel_rfl) Tryz.func3 (by kernel_rfl)
  (of_decide_eq_true (by kernel_rfl)) (by unfold Func.isWrapper;first|(rw[if_pos (by decide+kernel)];kernel_rfl)|(rw[if_neg (by decide+kernel)];exact⟨rfl,rfl⟩))
  (fun os started H enc _ F=>qj os started H enc F)
end Go.Proofs.YtmiflmkdaeianaaGreat
