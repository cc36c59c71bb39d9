/- VerifySound walked in D, function by function, and its plain law (Ha Hb Hc). -/
import Derived.Test.YtaoiejcaopgjcaaGreat5
set_option linter.unusedVariables false
set_option linter.unusedSimpArgs false
open Nat renaming reduceEqDiff → zA, reduceMul → zB, reduceAdd → zC, reduceBEq → zD
open Int renaming reduceEq → zE, reduceBEq → zF
namespace Go.Dust
open Go.Proofs
set_option maxRecDepth 100000
set_option maxHeartbeats 4000000
section
variable {kc:Kc} {q:Bool} {s:St} {Φ:Value→St→Prop} {g:Nat} {G:lM} {P:PH}
theorem gR:type_of% (An @RX<|An @eK<|An @jA<|An @oO<|An @jX<|An @lS<|An @bF<|@eG):=An @RX<|An @eK<|An @jA<|An @oO<|An @jX<|An @lS<|An @bF<|@eG
theorem XB (hs:Ok s) (H:cN s g G) (S:kM P G.L) (I:P.Inv) {b:Nat} (hΦ:∀ (l:List Int) va vc s',(∀ y∈l,y/64=b∧∃ o∈G.L,o.a=y)→l.length≤2048→kL s' 3 1 (.slice va l.length vc) (l.map int)→(∀ y∈nameOf (.slice va l.length vc),s.next≤y)→aC [] s s'→Φ (.slice va l.length vc) s'):okF q X (KO kc) 257 [ptr g,int b] s Φ:=by
 have hlen:=H.len
 refine aG rfl fn_257 rfl (rs:=[.tmp 4]) rfl (N:=43) rfl rfl ?_
 refine aA fun Ψ0 hΨ0 hΨ0'=>?_
 simp only[gR,↓reduceIte,zA,reduceCtorEq,zE,zB,zC,zD,zF]
 refine hΨ0 _ _ ?_
 refine aA fun Ψ1 hΨ1 hΨ1'=>?_
 simp only[gR,↓reduceIte,zA,reduceCtorEq,zE,zB,zC,zD,zF]
 refine hΨ1 _ _ ?_
 refine aA fun Ψ2 hΨ2 hΨ2'=>?_
 refine aA fun Ψ3 hΨ3 hΨ3'=>?_
 simp only[gR,↓reduceIte,zA,reduceCtorEq,zE,zB,zC,zD,zF]
 refine hΨ3 _ _ ?_
 refine aL fun Ψ4 hΨ4 hΨ4e hΨ4'=>?_
 let J:Nat→bD→St→Prop:=fun j a' s'=>∃ (l:List Int) (va:Option Addr) (vc:Nat),a'.aD 0=ptr g∧a'.aD 1=int b∧a'.aD 5=.slice va l.length vc∧a'.aD 6=int j∧(∀ y∈l,y/64=b∧∃ o∈G.L,o.a=y)∧kL s' 3 1 (.slice va l.length vc) (l.map int)∧(∀ y∈nameOf (.slice va l.length vc),s.next≤y)∧aC [] s s'
 refine fY (n:=G.L.length) (fun j a' s'=>∃ (l:List Int) (va:Option Addr) (vc:Nat),l.length≤j∧a'.aD 0=ptr g∧a'.aD 1=int b∧a'.aD 5=.slice va l.length vc∧a'.aD 6=int j∧(∀ y∈l,y/64=b∧∃ o∈G.L,o.a=y)∧kL s' 3 1 (.slice va l.length vc) (l.map int)∧(∀ y∈nameOf (.slice va l.length vc),s.next≤y)∧aC [] s s')
  (fun j a' s'=>∃ (l:List Int) (va:Option Addr) (vc:Nat),l.length≤j+1∧a'.aD 0=ptr g∧a'.aD 1=int b∧a'.aD 5=.slice va l.length vc∧a'.aD 6=int j∧(∀ y∈l,y/64=b∧∃ o∈G.L,o.a=y)∧kL s' 3 1 (.slice va l.length vc) (l.map int)∧(∀ y∈nameOf (.slice va l.length vc),s.next≤y)∧aC [] s s') ?_ ?_ ?_ ?_ (Nat.zero_le _) ?_
 ·rintro j a' s' hj ⟨l,va,vc,hl,r0,r1,r5,r6,hm,hB,hnm,hk⟩ Ψ' hΨ'
  have H':=H.aN hk
  refine aH [(2,9)] (by kernel_rfl) fun O hO ΨR hR=>?_
  have y2:∀ a,aE O a 2=aM (a.aD 9):=hO (2,9) (by simp)
  simp only[gR,↓reduceIte,zA,reduceCtorEq,zE,zB,zC,zD,zF,r0]
  refine aB ?_ (nJ H' ?_)
  ·simp only[gR,↓reduceIte,zA,reduceCtorEq,zE,zB,zC,zD,zF]
  try simp only[gR,↓reduceIte,zA,reduceCtorEq,zE,zB,zC,zD,zF,y2,r0,r6,H'.l1]
  refine hR _ _ (hΨ' _ _ (decide ((j:Int)<G.L.length)) ?_ (by simp) ⟨l,va,vc,hl,?_,?_,?_,?_,hm,hB,hnm,hk⟩)
  all_goals simp only[gR,↓reduceIte,zA,reduceCtorEq,zE,zB,zC,zD,zF,r0,r1,r5,r6]
 ·rintro j a' s' hj ⟨l,va,vc,hl,r0,r1,r5,r6,hm,hB,hnm,hk⟩ Ψ' w1 w2 w3
  have H':=H.aN hk
  obtain⟨vb,voff,hv⟩:=H'.addr (show 0<G.L.length by omega)
  have p1:(0:Int)≤(j:Int):=Int.natCast_nonneg _
  have p2:(j:Int)<((G.L.length:Nat):Int):=by omega
  have l1:=H'.l1
  rw[hv] at l1
  have lj:aI s'.look ⟨vb,voff+j*8,none⟩=some (int G.L[j].a):=H'.lo hv hj (j:=0) rfl
  have hh:=PH.size_pos I.cZ (S.has (List.getElem_mem hj))
  have n64':=I.iJ
  have td:IntKind.i64.wrap (G.L[j].a.tdiv 64)=G.L[j].a/64:=by rw[Int.tdiv_eq_ediv_of_nonneg (by omega),aR (by omega) (by omega)]
  refine aA fun Ψ5 hΨ5 hΨ5'=>?_
  simp only[gR,↓reduceIte,zA,reduceCtorEq,zE,zB,zC,zD,zF,r0,r1,r6,l1,p1,p2,and_self,aJ,Int.toNat_natCast,lj,td]
  refine hΨ5 _ _ ?_
  by_cases he:G.L[j].a/64=b
  ·have he':(G.L[j].a/64==(b:Int))=true:=by simpa using he
   obtain⟨s3,e3,k3,c3,n3⟩:=aT hk.ok (L:=[int G.L[j].a]) (n:=1) (e:=3) rfl
   obtain⟨v,s4,h4,b4,k4,m4,a4,c4,rfl⟩:=eI (X:=X) (t:=62) (e:=3) (N:=1) (B:=8) (z:=.int .i64 0) (x:=.slice (some ⟨s'.next,0,none⟩) 1 1) (k:=1) (new:=[int G.L[j].a]) (by kernel_rfl) (by kernel_rfl) rfl k3.ok (by omega) (hB.aF k3 (by simp)) rfl (gW (by omega) (c3.aS (i:=0) (k:=1) (Nat.le_refl _))) rfl rfl (by omega) (by omega)
   simp only[gR,↓reduceIte,zA,reduceCtorEq,zE,zB,zC,zD,zF,he',r0,r5,r6,l1,p1,p2,and_self,aJ,Int.toNat_natCast,lj]
   rw[e3]
   refine jZ ?_ h4 ?_
   ·simp only[gR,↓reduceIte,zA,reduceCtorEq,zE,zB,zC,zD,zF]
   simp only[gR,↓reduceIte,zA,reduceCtorEq,zE,zB,zC,zD,zF]
   have hkk:aC [] s s4:=(hk.trans k3).step k4 fun y hy=>.inr (hs.fresh _ (hnm y hy))
   refine w1 _ _ ⟨l++[G.L[j].a],a4,c4,by rw[List.length_append,List.length_singleton];omega,?_,?_,?_,?_,?_,?_,?_,hkk⟩
   ·simp only[gR,↓reduceIte,zA,reduceCtorEq,zE,zB,zC,zD,zF,r0]
   ·simp only[gR,↓reduceIte,zA,reduceCtorEq,zE,zB,zC,zD,zF,r1]
   ·simp only[gR,↓reduceIte,zA,reduceCtorEq,zE,zB,zC,zD,zF,List.length_append,List.length_singleton]
   ·simp only[gR,↓reduceIte,zA,reduceCtorEq,zE,zB,zC,zD,zF,r6]
   ·intro y hy
    rcases List.mem_append.1 hy with h | h
    ·exact hm y h
    ·rw[List.mem_singleton.1 h];exact⟨he,_,List.getElem_mem hj,rfl⟩
   ·rw[List.map_append,List.length_append,List.length_singleton];exact b4
   ·intro y hy
    rw[List.length_append,List.length_singleton] at hy
    rcases m4 y hy with h | h
    ·exact hnm y h
    ·have:=(hk.trans k3).next;omega
  ·have he':(G.L[j].a/64==(b:Int))=false:=by simpa using he
   simp only[gR,↓reduceIte,zA,reduceCtorEq,zE,zB,zC,zD,zF,he']
   refine w1 _ _ ⟨l,va,vc,by omega,?_,?_,?_,?_,hm,hB,hnm,hk⟩
   ·simp only[gR,↓reduceIte,zA,reduceCtorEq,zE,zB,zC,zD,zF,r0]
   ·simp only[gR,↓reduceIte,zA,reduceCtorEq,zE,zB,zC,zD,zF,r1]
   ·simp only[gR,↓reduceIte,zA,reduceCtorEq,zE,zB,zC,zD,zF,r5]
   ·simp only[gR,↓reduceIte,zA,reduceCtorEq,zE,zB,zC,zD,zF,r6]
 ·rintro j a' s' hj ⟨l,va,vc,hl,r0,r1,r5,r6,hm,hB,hnm,hk⟩ Ψ' w1
  have w:IntKind.i64.wrap ((j:Int)+1)=((j+1:Nat):Int):=by rw[aR (by omega) (by omega)];rfl
  simp only[gR,↓reduceIte,zA,reduceCtorEq,zE,zB,zC,zD,zF,r6,w]
  refine w1 _ _ ⟨l,va,vc,hl,?_,?_,?_,?_,hm,hB,hnm,hk⟩
  all_goals try simp only[gR,↓reduceIte,zA,reduceCtorEq,zE,zB,zC,zD,zF,r0,r1,r5]
 ·rintro a' s' ⟨l,va,vc,hl,r0,r1,r5,r6,hm,hB,hnm,hk⟩
  refine hΨ4e _ _ (hΨ2 _ _ ?_)
  simp only[gR,↓reduceIte,zA,reduceCtorEq,zE,zB,zC,zD,zF,r5]
  exact hΦ l va vc s' hm (by omega) hB hnm hk
 ·refine⟨[],none,0,Nat.le_refl _,?_,?_,?_,?_,fun y hy=>(by cases hy),.nil,fun y hy=>(by simp[nameOf] at hy),.refl hs⟩
  all_goals try simp only[gR,↓reduceIte,zA,reduceCtorEq,zE,zB,zC,zD,zF]
  all_goals rfl
def BT (bs:Nat→Int) (b n:Nat):Nat:=eM (fun i=>if bs i=0 then 3 else 0) b n
theorem JK {bs:Nat→Int} {b n j:Nat} (h:j<BT bs b n):bs (b+j)=0:=by
 have:=qQ (bs:=fun i=>if bs i=0 then 3 else 0) h
 split at this
 ·assumption
 ·cases this
theorem VK {bs:Nat→Int} {b n:Nat} (h:BT bs b n<n):bs (b+BT bs b n)≠0:=by
 have:=oS (bs:=fun i=>if bs i=0 then 3 else 0) h
 intro e
 apply this
 show (if bs (b+BT bs b n)=0 then(3:Int) else 0)=3
 rw[if_pos e]
theorem dW:type_of% (An @RC<|An @RO<|An @RD<|An @RV<|An @RB<|@RG):=An @RC<|An @RO<|An @RD<|An @RV<|An @RB<|@RG
theorem XA (H:cN s g G) {n:Nat} (hn:1≤n) (hn2:n≤64) (h1:∀ b:Nat,1≤b→b+n≤G.N→(∀ j,b≤j→j<b+n→G.bs j=0)→Φ (int b) s) (h2:Φ (int 0) s):okF q X (KO kc) 210 [ptr g,int n] s Φ:=by
 have iJ:=H.iJ
 refine aG rfl fn_210 rfl (rs:=[.tmp 4]) rfl (N:=32) rfl rfl ?_
 refine aA fun Ψ0 hΨ0 hΨ0'=>?_
 simp only[dW,↓reduceIte,zA,reduceCtorEq,zE,zB,zC,zD,zF]
 refine hΨ0 _ _ ?_
 refine aA fun Ψ1 hΨ1 hΨ1'=>?_
 refine aA fun Ψ2 hΨ2 hΨ2'=>?_
 simp only[dW,↓reduceIte,zA,reduceCtorEq,zE,zB,zC,zD,zF]
 refine hΨ2 _ _ ?_
 refine aL fun Ψ3 hΨ3 hΨ3e hΨ3'=>?_
 refine fY (n:=G.N-n) (fun j a' s'=>a'.aD 0=ptr g∧a'.aD 1=int n∧a'.aD 5=int ((j+1:Nat))∧s'=s) (fun j a' s'=>a'.aD 0=ptr g∧a'.aD 1=int n∧a'.aD 5=int ((j+1:Nat))∧s'=s) ?_ ?_ ?_ ?_ (Nat.zero_le _) ?_
 ·rintro j a' s' hj ⟨r0,r1,r5,rfl⟩ Ψ' hΨ'
  have w:IntKind.i64.wrap (((j+1:Nat):Int)+(n:Int))=((j+1+n:Nat):Int):=by rw[aR (by omega) (by omega)];rfl
  simp only[dW,↓reduceIte,zA,reduceCtorEq,zE,zB,zC,zD,zF,r0,r1,r5,w]
  refine aB ?_ (KY H ?_)
  ·simp only[dW,↓reduceIte,zA,reduceCtorEq,zE,zB,zC,zD,zF]
  try simp only[dW,↓reduceIte,zA,reduceCtorEq,zE,zB,zC,zD,zF]
  refine hΨ' _ _ (decide (((j+1+n:Nat):Int)≤G.N)) ?_ (by rw[decide_eq_true_eq];omega) ⟨?_,?_,?_,rfl⟩
  all_goals simp only[dW,↓reduceIte,zA,reduceCtorEq,zE,zB,zC,zD,zF,r0,r1,r5]
 ·rintro j a' s' hj ⟨r0,r1,r5,rfl⟩ Ψ' w1 w2 w3
  refine aA fun Ψ4 hΨ4 hΨ4'=>?_
  simp only[dW,↓reduceIte,zA,reduceCtorEq,zE,zB,zC,zD,zF]
  refine hΨ4 _ _ ?_
  refine aA fun Ψ5 hΨ5 hΨ5'=>?_
  refine aL fun Ψ6 hΨ6 hΨ6e hΨ6'=>?_
  obtain⟨T,hT⟩:∃ T,T=BT G.bs (j+1) n:=⟨_,rfl⟩
  have hTn:T≤n:=by rw[hT];exact nQ
  refine yI (n:=T) (fun k a' s2=>a'.aD 0=ptr g∧a'.aD 1=int n∧a'.aD 5=int ((j+1:Nat))∧a'.aD 6=int k∧s2=s') ?_ ?_ ?_ (Nat.zero_le _) ?_
  ·rintro k a' s' hk ⟨r0,r1,r5,r6,rfl⟩ Ψ'' hΨ''
   have w:IntKind.i64.wrap (((j+1:Nat):Int)+(k:Int))=((j+1+k:Nat):Int):=by rw[aR (by omega) (by omega)];rfl
   refine aH [(3,18)] (by kernel_rfl) fun O hO ΨR hR=>?_
   have y3:∀ a,aE O a 3=aM (a.aD 18):=hO (3,18) (by simp)
   by_cases hkn:k<n
   ·have p2:(k:Int)<(n:Int):=by omega
    simp only[dW,↓reduceIte,zA,reduceCtorEq,zE,zB,zC,zD,zF,y3,r0,r1,r5,r6,p2,decide_true,w]
    refine aB ?_ (EG H ((j+1+k:Nat):Int) ?_)
    ·simp only[dW,↓reduceIte,zA,reduceCtorEq,zE,zB,zC,zD,zF]
    rw[if_pos ⟨by omega,by omega⟩,Int.toNat_natCast]
    try simp only[dW,↓reduceIte,zA,reduceCtorEq,zE,zB,zC,zD,zF,y3]
    refine hR _ _ (hΨ'' _ _ (G.bs (j+1+k)==0) ?_ ?_ ⟨?_,?_,?_,?_,rfl⟩)
    ·simp only[dW,↓reduceIte,zA,reduceCtorEq,zE,zB,zC,zD,zF]
    ·rw[beq_iff_eq]
     constructor
     ·intro h
      rcases Nat.lt_or_ge k T with h' | h'
      ·exact h'
      ·obtain rfl:k=T:=by omega
       have:=VK (bs:=G.bs) (b:=j+1) (n:=n) (by rw[← hT];exact hkn)
       rw[← hT] at this
       exact absurd h this
     ·intro h
      exact JK (by rw[← hT];exact h)
    ·simp only[dW,↓reduceIte,zA,reduceCtorEq,zE,zB,zC,zD,zF,r0]
    ·simp only[dW,↓reduceIte,zA,reduceCtorEq,zE,zB,zC,zD,zF,r1]
    ·simp only[dW,↓reduceIte,zA,reduceCtorEq,zE,zB,zC,zD,zF,r5]
    ·simp only[dW,↓reduceIte,zA,reduceCtorEq,zE,zB,zC,zD,zF,r6]
   ·have p2:¬ (k:Int)<(n:Int):=by omega
    simp only[dW,↓reduceIte,zA,reduceCtorEq,zE,zB,zC,zD,zF,y3,r0,r1,r5,r6,p2,decide_false]
    refine hR _ _ (hΨ'' _ _ false ?_ ?_ ⟨?_,?_,?_,?_,rfl⟩)
    ·simp only[dW,↓reduceIte,zA,reduceCtorEq,zE,zB,zC,zD,zF]
    ·constructor
     ·intro h;cases h
     ·intro h;omega
    ·simp only[dW,↓reduceIte,zA,reduceCtorEq,zE,zB,zC,zD,zF,r0]
    ·simp only[dW,↓reduceIte,zA,reduceCtorEq,zE,zB,zC,zD,zF,r1]
    ·simp only[dW,↓reduceIte,zA,reduceCtorEq,zE,zB,zC,zD,zF,r5]
    ·simp only[dW,↓reduceIte,zA,reduceCtorEq,zE,zB,zC,zD,zF,r6]
  ·rintro k a' s' hk ⟨r0,r1,r5,r6,rfl⟩ Ψ'' v1 v2 v3
   have w:IntKind.i64.wrap ((k:Int)+1)=((k+1:Nat):Int):=by rw[aR (by omega) (by omega)];rfl
   simp only[dW,↓reduceIte,zA,reduceCtorEq,zE,zB,zC,zD,zF,r6,w]
   refine v1 _ _ ⟨?_,?_,?_,?_,rfl⟩
   all_goals try simp only[dW,↓reduceIte,zA,reduceCtorEq,zE,zB,zC,zD,zF,r0,r1,r5]
  ·rintro a' s' ⟨r0,r1,r5,r6,rfl⟩
   refine hΨ6e _ _ (hΨ5 _ _ ?_)
   refine aA fun Ψ7 hΨ7 hΨ7'=>?_
   by_cases hTe:T=n
   ·have e:((T:Int)==(n:Int))=true:=by rw[hTe,beq_self_eq_true]
    simp only[dW,↓reduceIte,zA,reduceCtorEq,zE,zB,zC,zD,zF,r1,r6,e]
    refine hΨ7 _ _ ?_
    simp only[dW,↓reduceIte,zA,reduceCtorEq,zE,zB,zC,zD,zF,r5]
    refine w3 _ _ _ (by simp) (by simp) (hΨ3' _ _ _ (by simp) (by simp) (hΨ1' _ _ _ (by simp) ?_))
    simp only[dW,↓reduceIte,zA,reduceCtorEq,zE,zB,zC,zD,zF]
    refine h1 (j+1) (by omega) (by omega) fun i hi1 hi2=>?_
    have:=JK (bs:=G.bs) (b:=j+1) (n:=n) (j:=i-(j+1)) (by rw[← hT];omega)
    rw[show j+1+(i-(j+1))=i by omega] at this
    exact this
   ·have e:((T:Int)==(n:Int))=false:=by rw[beq_eq_false_iff_ne];omega
    simp only[dW,↓reduceIte,zA,reduceCtorEq,zE,zB,zC,zD,zF,r1,r6,e]
    refine hΨ7 _ _ ?_
    simp only[dW,↓reduceIte,zA,reduceCtorEq,zE,zB,zC,zD,zF]
    refine w1 _ _ ⟨?_,?_,?_,rfl⟩
    all_goals simp only[dW,↓reduceIte,zA,reduceCtorEq,zE,zB,zC,zD,zF,r0,r1,r5]
  ·refine⟨?_,?_,?_,?_,rfl⟩
   all_goals try simp only[dW,↓reduceIte,zA,reduceCtorEq,zE,zB,zC,zD,zF,r0,r1,r5]
   rfl
 ·rintro j a' s' hj ⟨r0,r1,r5,rfl⟩ Ψ' w1
  have w:IntKind.i64.wrap (((j+1:Nat):Int)+1)=((j+1+1:Nat):Int):=by rw[aR (by omega) (by omega)];rfl
  simp only[dW,↓reduceIte,zA,reduceCtorEq,zE,zB,zC,zD,zF,r5,w]
  refine w1 _ _ ⟨?_,?_,?_,rfl⟩
  all_goals try simp only[dW,↓reduceIte,zA,reduceCtorEq,zE,zB,zC,zD,zF,r0,r1]
 ·rintro a' s' ⟨r0,r1,r5,rfl⟩
  refine hΨ3e _ _ (hΨ1 _ _ ?_)
  simp only[dW,↓reduceIte,zA,reduceCtorEq,zE,zB,zC,zD,zF]
  exact h2
 ·refine⟨?_,?_,?_,rfl⟩
  all_goals try simp only[dW,↓reduceIte,zA,reduceCtorEq,zE,zB,zC,zD,zF]
  rfl
end
open Go.Proofs
set_option maxRecDepth 100000
set_option maxHeartbeats 4000000
def bu (r:Int×Int):List Value:=[int r.1,int r.2]
theorem XM (r:Int×Int):(bu r).length=2:=rfl
section
variable {kc:Kc} {q:Bool} {s:St} {Φ:Value→St→Prop} {g:Nat} {G:lM} {P:PH}
theorem jh {s:St} (hs:Ok s) {va:Option Addr} {vc:Nat} {l:List (Int×Int)} (hB:kL s 241 2 (.slice va l.length vc) (l.flatMap bu)) (r:Int×Int) (hl:l.length<100000) :
  ∃ s3,(s.new fun v=>.cells (PT.ofList [int r.1,int r.2]) [] 2 241 false false v)=s3∧∃ a4 c4 s4,iC X s3 #[238,238] [.slice va l.length vc,.slice (some ⟨s.next,0,none⟩) 1 1]=some (.slice a4 (l++[r]).length c4,s4)∧kL s4 241 2 (.slice a4 (l++[r]).length c4) ((l++[r]).flatMap bu) ∧
   (∀ N,N≤s.next→(∀ y∈nameOf (.slice va l.length vc),N≤y)→∀ y∈nameOf (.slice a4 (l++[r]).length c4),N≤y)∧(∀ a:St,Ok a→aC [] a s→(∀ y∈nameOf (.slice va l.length vc),a.next≤y)→aC [] a s4):=by
 obtain⟨s3,e3,k3,c3,n3⟩:=aT hs (L:=[int r.1,int r.2]) (n:=2) (e:=241) rfl
 obtain⟨v,s4,h4,b4,k4,m4,a4,c4,rfl⟩:=eI (X:=X) (t:=238) (e:=241) (N:=2) (B:=16) (z:=.agg #[int 0,int 0]) (x:=.slice (some ⟨s.next,0,none⟩) 1 1) (k:=1) (new:=[int r.1,int r.2]) (by kernel_rfl) (by kernel_rfl) rfl k3.ok (by omega) (hB.aF k3 (by simp)) rfl (gW (by omega) (c3.aS (i:=0) (k:=2) (Nat.le_refl _))) rfl rfl (by omega) (by omega)
 refine⟨s3,e3,a4,c4,s4,?_,?_,fun N hN hn y hy=>?_,fun a ha k hn=>(k.trans k3).step k4 fun y hy=>.inr (ha.fresh _ (hn y hy))⟩
 ·rw[List.length_append,List.length_singleton];exact h4
 ·rw[List.flatMap_append,List.flatMap_singleton,List.length_append,List.length_singleton];exact b4
 ·rw[List.length_append,List.length_singleton] at hy
  rcases m4 y hy with h | h
  ·exact hn y h
  ·have:=k3.next;omega
theorem cD:type_of% (An @RX<|An @cO<|An @dO<|An @bF<|An @ID<|An @IL<|An @eK<|An @jA<|An @jX<|An @tF<|@gV):=An @RX<|An @cO<|An @dO<|An @bF<|An @ID<|An @IL<|An @eK<|An @jA<|An @jX<|An @tF<|@gV
theorem yz (hs:Ok s) (H:cN s g G) (S:kM P G.L) (I:P.Inv) {b:Nat} (hb:b<G.N) (hu:G.bs b=1) (hΦ:∀ (l:List (Int×Int)) va vc s',(∀ r∈l,64*(b:Int)≤r.1∧r.1<64*(b:Int)+64)→l.length≤3000→kL s' 241 2 (.slice va l.length vc) (l.flatMap bu)→(∀ y∈nameOf (.slice va l.length vc),s.next≤y)→aC [] s s'→Φ (.slice va l.length vc) s'):okF q X (KO kc) 242 [ptr g,int b] s Φ:=by
 have hlen:=H.len
 have iJ:=H.iJ
 have n64':=I.iJ
 refine aG rfl fn_242 rfl (rs:=[.tmp 4]) rfl (N:=77) rfl rfl ?_
 refine aA fun Ψ0 hΨ0 hΨ0'=>?_
 simp only[cD,↓reduceIte,zA,reduceCtorEq,zE,zB,zC,zD,zF]
 refine hΨ0 _ _ ?_
 refine aA fun Ψ1 hΨ1 hΨ1'=>?_
 simp only[cD,↓reduceIte,zA,reduceCtorEq,zE,zB,zC,zD,zF]
 refine hΨ1 _ _ ?_
 refine aA fun Ψ2 hΨ2 hΨ2'=>?_
 refine aA fun Ψ3 hΨ3 hΨ3'=>?_
 simp only[cD,↓reduceIte,zA,reduceCtorEq,zE,zB,zC,zD,zF]
 refine aB ?_ (EG H (b:Int) ?_)
 ·simp only[cD,↓reduceIte,zA,reduceCtorEq,zE,zB,zC,zD,zF]
 rw[if_pos ⟨by omega,by omega⟩,Int.toNat_natCast,hu]
 try simp only[cD,↓reduceIte,zA,reduceCtorEq,zE,zB,zC,zD,zF]
 refine hΨ3 _ _ ?_
 simp only[cD,↓reduceIte,zA,reduceCtorEq,zE,zB,zC,zD,zF]
 refine hΨ2 _ _ ?_
 have wb:IntKind.i64.wrap ((b:Int)*64)=64*(b:Int):=by rw[aR (by omega) (by omega)];omega
 refine aA fun Ψ4 hΨ4 hΨ4'=>?_
 simp only[cD,↓reduceIte,zA,reduceCtorEq,zE,zB,zC,zD,zF,wb]
 refine hΨ4 _ _ ?_
 refine aA fun Ψ5 hΨ5 hΨ5'=>?_
 simp only[cD,↓reduceIte,zA,reduceCtorEq,zE,zB,zC,zD,zF]
 refine aB ?_ (XB (b:=b) hs H S I ?_)
 ·simp only[cD,↓reduceIte,zA,reduceCtorEq,zE,zB,zC,zD,zF]
 intro l0 oa oc s1 hl0 hll0 B0 hnm0 k1
 simp only[cD,↓reduceIte,zA,reduceCtorEq,zE,zB,zC,zD,zF]
 refine hΨ5 _ _ ?_
 have H1:=H.aN k1
 refine aA fun Ψ6 hΨ6 hΨ6'=>?_
 refine aA fun Ψ7 hΨ7 hΨ7'=>?_
 simp only[cD,↓reduceIte,zA,reduceCtorEq,zE,zB,zC,zD,zF]
 refine hΨ7 _ _ ?_
 refine aL fun Ψ8 hΨ8 hΨ8e hΨ8'=>?_
 refine fY (n:=l0.length) (fun j a' s'=>∃ (l:List (Int×Int)) (va:Option Addr) (vc:Nat) (t:Int),l.length≤j∧a'.aD 0=ptr g∧a'.aD 1=int b∧a'.aD 5=.slice va l.length vc∧a'.aD 6=int t∧a'.aD 7=.slice oa l0.length oc∧a'.aD 8=int j∧(64*(b:Int)≤t∧t≤8192)∧(∀ r∈l,64*(b:Int)≤r.1∧r.1<64*(b:Int)+64)∧kL s' 241 2 (.slice va l.length vc) (l.flatMap bu)∧(∀ y∈nameOf (.slice va l.length vc),s1.next≤y)∧aC [] s1 s')
  (fun j a' s'=>∃ (l:List (Int×Int)) (va:Option Addr) (vc:Nat) (t:Int),l.length≤j+1∧a'.aD 0=ptr g∧a'.aD 1=int b∧a'.aD 5=.slice va l.length vc∧a'.aD 6=int t∧a'.aD 7=.slice oa l0.length oc∧a'.aD 8=int j∧(64*(b:Int)≤t∧t≤8192)∧(∀ r∈l,64*(b:Int)≤r.1∧r.1<64*(b:Int)+64)∧kL s' 241 2 (.slice va l.length vc) (l.flatMap bu)∧(∀ y∈nameOf (.slice va l.length vc),s1.next≤y)∧aC [] s1 s') ?_ ?_ ?_ ?_ (Nat.zero_le _) ?_
 ·rintro j a' s' hj ⟨l,va,vc,t,hl,r0,r1,r5,r6,r7,r8,ht,hm,hB,hnm,hk⟩ Ψ' hΨ'
  simp only[cD,↓reduceIte,zA,reduceCtorEq,zE,zB,zC,zD,zF,r7,r8]
  refine hΨ' _ _ (decide ((j:Int)<l0.length)) ?_ (by simp) ⟨l,va,vc,t,hl,?_,?_,?_,?_,?_,?_,ht,hm,hB,hnm,hk⟩
  all_goals simp only[cD,↓reduceIte,zA,reduceCtorEq,zE,zB,zC,zD,zF,r0,r1,r5,r6,r7,r8]
 ·rintro j a' s' hj ⟨l,va,vc,t,hl,r0,r1,r5,r6,r7,r8,ht,hm,hB,hnm,hk⟩ Ψ' w1 w2 w3
  obtain⟨ob,ooff,rfl⟩:=B0.sl.addr (show 0<l0.length by omega)
  have p1:(0:Int)≤(j:Int):=Int.natCast_nonneg _
  have p2:(j:Int)<((l0.length:Nat):Int):=by omega
  obtain⟨y,hy⟩:∃ y,y=l0[j]:=⟨_,rfl⟩
  have hym:y∈l0:=by rw[hy];exact List.getElem_mem hj
  obtain⟨hy1,o,ho,hoy⟩:=hl0 y hym
  have lyk:∀ t:St,aC [] s1 t→aI t.look ⟨ob,ooff+j,none⟩=some (int y):=fun t k=>by
   refine(B0.aF k (by simp)).sl.load ?_
   rw[List.getElem?_map,List.getElem?_eq_getElem hj,hy];rfl
  have ly:=lyk s' hk
  have hsz:=PH.size_pos I.cZ (S.has ho)
  have hok:=S.ok o ho
  have hszw:P.size o.a=o.sh.words:=by unfold PH.size;rw[hok.sh]
  have hww:=o.sh.nU
  refine aA fun Ψ9 hΨ9 hΨ9'=>?_
  have step:∀ (a':bD) (s':St) (l:List (Int×Int)) (va:Option Addr) (vc:Nat),l.length≤j+1→a'.aD 0=ptr g→a'.aD 1=int b→a'.aD 5=.slice va l.length vc→a'.aD 7=.slice (some ⟨ob,ooff,none⟩) l0.length oc→a'.aD 8=int j→(∀ r∈l,64*(b:Int)≤r.1∧r.1<64*(b:Int)+64) →
    kL s' 241 2 (.slice va l.length vc) (l.flatMap bu)→(∀ y∈nameOf (.slice va l.length vc),s1.next≤y)→aC [] s1 s'→Ψ9 .normal a' s':=by
   intro a' s' l va vc hl r0 r1 r5 r7 r8 hm hB hnm hk
   have H':=H1.aN hk
   have ly:=lyk s' hk
   have ks:aC [] s' (s'.skip 40):=aC.skip hk.ok _
   refine hΨ9 _ _ ?_
   refine aQ [(3,13),(7,13),(3,17)] [ob,g] [] (by kernel_rfl) (by kernel_rfl) (by rfl) fun O hO ΨR hR=>?_
   simp only[cD,↓reduceIte,zA,reduceCtorEq,zE,zB,zC,zD,zF,r0,r7,r8,p1,p2,and_self,aJ,Int.toNat_natCast,Nat.mul_one,ly,H'.l1]
   refine aW ?_ (oG (H'.aN ks) y (fun i hi he=>?_) (fun hn=>?_))
   ·simp only[cD,↓reduceIte,zA,reduceCtorEq,zE,zB,zC,zD,zF]
   ·obtain⟨vb,voff,hv⟩:=H'.addr (show 0<G.L.length by omega)
    have q1:(0:Int)≤(i:Int):=Int.natCast_nonneg _
    have q2:(i:Int)<((G.L.length:Nat):Int):=by omega
    have hoi:G.L[i].a=o.a:=by rw[he,hoy]
    have hok':=S.ok _ (List.getElem_mem hi)
    have hshe:G.L[i].sh=o.sh:=by rw[hok'.sh,hok.sh,hoi]
    have l2:aS s'.look ⟨vb,voff+i*8+2,none⟩ 3=some [int o.sh.r,int o.sh.d,int o.sh.k]:=by
     rw[← hshe]
     have h:=H'.cl.sl
     rw[hv] at h
     have:=h.aS (i:=i*8+2) (k:=3) (by omega) (by rw[kO cV.oT];omega)
     rw[← Nat.add_assoc] at this
     rw[this]
     congr 1
     apply List.ext_getElem?
     intro k
     by_cases hk3:k<3
     ·rw[List.getElem?_take,if_pos hk3,List.getElem?_drop,Nat.add_assoc,nB cV.oT _ hi (by omega)]
      rcases k with _ | _ | _ | k
      ·rfl
      ·rfl
      ·rfl
      ·omega
     ·rw[List.getElem?_eq_none (by rw[List.length_take];omega),List.getElem?_eq_none (by simp;omega)]
    have s1o:∀ t:St,aC [] (s'.skip 40) t→bP (s'.skip 40) t ob=true:=fun t k=>nL (lyk _ (hk.trans ks)) ks.ok k (by simp)
    have s1g:∀ t:St,aC [] (s'.skip 40) t→bP (s'.skip 40) t g=true:=fun t k=>(H'.aN ks).c.same ks.ok k (by simp)
    simp only[cD,↓reduceIte,zA,reduceCtorEq,zE,zB,zC,zD,zF,hv,q1,q2,and_self,aJ,Int.toNat_natCast,l2]
    refine⟨aV (s1o _ (.refl ks.ok)) (aV (s1g _ (.refl ks.ok)) bR),?_⟩
    refine aW ?_ (oH ks.ok o.sh fun s2 k2=>?_)
    ·simp only[cD,↓reduceIte,zA,reduceCtorEq,zE,zB,zC,zD,zF]
    have wy:IntKind.i64.wrap (y+o.sh.words)=y+o.sh.words:=aR (by omega) (by omega)
    simp only[cD,↓reduceIte,zA,reduceCtorEq,zE,zB,zC,zD,zF,wy]
    refine⟨aV (s1o _ k2) (aV (s1g _ k2) bR),hR _ _ (w1 _ _ ⟨l,va,vc,y+o.sh.words,hl,?_,?_,?_,?_,?_,?_,⟨by omega,by omega⟩,hm,?_,hnm,hk.trans (ks.trans k2)⟩)⟩
    ·simp only[cD,↓reduceIte,zA,reduceCtorEq,zE,zB,zC,zD,zF,r0]
    ·simp only[cD,↓reduceIte,zA,reduceCtorEq,zE,zB,zC,zD,zF,r1]
    ·simp only[cD,↓reduceIte,zA,reduceCtorEq,zE,zB,zC,zD,zF,r5]
    ·simp only[cD,↓reduceIte,zA,reduceCtorEq,zE,zB,zC,zD,zF]
    ·simp only[cD,↓reduceIte,zA,reduceCtorEq,zE,zB,zC,zD,zF,r7]
    ·simp only[cD,↓reduceIte,zA,reduceCtorEq,zE,zB,zC,zD,zF,r8]
    ·exact hB.aF (ks.trans k2) (by simp)
   ·exact absurd hoy (hn o ho)
  refine aA fun Ψ10 hΨ10 hΨ10'=>?_
  simp only[cD,↓reduceIte,zA,reduceCtorEq,zE,zB,zC,zD,zF,r6,r7,r8,p1,p2,and_self,aJ,Int.toNat_natCast,Nat.mul_one,ly]
  refine hΨ10 _ _ ?_
  by_cases hc:y>t
  ·have wd:IntKind.i64.wrap (y-t)=y-t:=aR (by omega) (by omega)
   obtain⟨s3,e3,a4,c4,s4,h4,b4,m4,k4⟩:=jh hk.ok hB (t,y-t) (by omega)
   simp only[cD,↓reduceIte,zA,reduceCtorEq,zE,zB,zC,zD,zF,hc,decide_true,r5,r6,r7,r8,p1,p2,and_self,aJ,Int.toNat_natCast,Nat.mul_one,ly,wd]
   rw[e3]
   refine jZ ?_ h4 ?_
   ·simp only[cD,↓reduceIte,zA,reduceCtorEq,zE,zB,zC,zD,zF]
   simp only[cD,↓reduceIte,zA,reduceCtorEq,zE,zB,zC,zD,zF]
   refine step _ s4 (l++[(t,y-t)]) a4 c4 (by rw[List.length_append,List.length_singleton];omega) ?_ ?_ ?_ ?_ ?_ (fun r hr=>?_) b4 (m4 _ hk.next hnm) (k4 _ k1.ok hk hnm)
   ·simp only[cD,↓reduceIte,zA,reduceCtorEq,zE,zB,zC,zD,zF,r0]
   ·simp only[cD,↓reduceIte,zA,reduceCtorEq,zE,zB,zC,zD,zF,r1]
   ·simp only[cD,↓reduceIte,zA,reduceCtorEq,zE,zB,zC,zD,zF]
   ·simp only[cD,↓reduceIte,zA,reduceCtorEq,zE,zB,zC,zD,zF,r7]
   ·simp only[cD,↓reduceIte,zA,reduceCtorEq,zE,zB,zC,zD,zF,r8]
   ·rcases List.mem_append.1 hr with h | h
    ·exact hm r h
    ·rw[List.mem_singleton.1 h];exact⟨ht.1,by show t<_;omega⟩
  ·simp only[cD,↓reduceIte,zA,reduceCtorEq,zE,zB,zC,zD,zF,hc,decide_false]
   refine step _ s' l va vc (by omega) ?_ ?_ ?_ ?_ ?_ hm hB hnm hk
   ·simp only[cD,↓reduceIte,zA,reduceCtorEq,zE,zB,zC,zD,zF,r0]
   ·simp only[cD,↓reduceIte,zA,reduceCtorEq,zE,zB,zC,zD,zF,r1]
   ·simp only[cD,↓reduceIte,zA,reduceCtorEq,zE,zB,zC,zD,zF,r5]
   ·simp only[cD,↓reduceIte,zA,reduceCtorEq,zE,zB,zC,zD,zF,r7]
   ·simp only[cD,↓reduceIte,zA,reduceCtorEq,zE,zB,zC,zD,zF,r8]
 ·rintro j a' s' hj ⟨l,va,vc,t,hl,r0,r1,r5,r6,r7,r8,ht,hm,hB,hnm,hk⟩ Ψ' w1
  have w:IntKind.i64.wrap ((j:Int)+1)=((j+1:Nat):Int):=by rw[aR (by omega) (by omega)];rfl
  simp only[cD,↓reduceIte,zA,reduceCtorEq,zE,zB,zC,zD,zF,r8,w]
  refine w1 _ _ ⟨l,va,vc,t,hl,?_,?_,?_,?_,?_,?_,ht,hm,hB,hnm,hk⟩
  all_goals try simp only[cD,↓reduceIte,zA,reduceCtorEq,zE,zB,zC,zD,zF,r0,r1,r5,r6,r7]
 ·rintro a' s' ⟨l,va,vc,t,hl,r0,r1,r5,r6,r7,r8,ht,hm,hB,hnm,hk⟩
  refine hΨ8e _ _ (hΨ6 _ _ ?_)
  have wb1:IntKind.i64.wrap ((b:Int)+1)=(b:Int)+1:=aR (by omega) (by omega)
  have wb2:IntKind.i64.wrap (((b:Int)+1)*64)=64*(b:Int)+64:=by rw[aR (by omega) (by omega)];omega
  refine aA fun Ψ11 hΨ11 hΨ11'=>?_
  refine aA fun Ψ12 hΨ12 hΨ12'=>?_
  simp only[cD,↓reduceIte,zA,reduceCtorEq,zE,zB,zC,zD,zF,r1,wb1,wb2]
  refine hΨ12 _ _ ?_
  refine aA fun Ψ13 hΨ13 hΨ13'=>?_
  simp only[cD,↓reduceIte,zA,reduceCtorEq,zE,zB,zC,zD,zF,r6]
  refine hΨ13 _ _ ?_
  by_cases hc:t<64*(b:Int)+64
  ·have wd:IntKind.i64.wrap (64*(b:Int)+64-t)=64*(b:Int)+64-t:=aR (by omega) (by omega)
   obtain⟨s3,e3,a4,c4,s4,h4,b4,m4,k4⟩:=jh hk.ok hB (t,64*(b:Int)+64-t) (by omega)
   simp only[cD,↓reduceIte,zA,reduceCtorEq,zE,zB,zC,zD,zF,hc,decide_true,r5,r6,wd]
   rw[e3]
   refine jZ ?_ h4 ?_
   ·simp only[cD,↓reduceIte,zA,reduceCtorEq,zE,zB,zC,zD,zF]
   simp only[cD,↓reduceIte,zA,reduceCtorEq,zE,zB,zC,zD,zF]
   refine hΨ11 _ _ ?_
   simp only[cD,↓reduceIte,zA,reduceCtorEq,zE,zB,zC,zD,zF]
   refine hΦ (l++[(t,64*(b:Int)+64-t)]) a4 c4 s4 (fun r hr=>?_) (by rw[List.length_append,List.length_singleton];omega) b4 (fun y hy=>by have:=m4 _ hk.next hnm y hy;have:=k1.next;omega) (k1.trans (k4 _ k1.ok hk hnm))
   rcases List.mem_append.1 hr with h | h
   ·exact hm r h
   ·rw[List.mem_singleton.1 h];exact⟨ht.1,hc⟩
  ·simp only[cD,↓reduceIte,zA,reduceCtorEq,zE,zB,zC,zD,zF,hc,decide_false]
   refine hΨ11 _ _ ?_
   simp only[cD,↓reduceIte,zA,reduceCtorEq,zE,zB,zC,zD,zF,r5]
   exact hΦ l va vc s' hm (by omega) hB (fun y hy=>by have:=hnm y hy;have:=k1.next;omega) (k1.trans hk)
 ·refine⟨[],none,0,64*(b:Int),Nat.le_refl _,?_,?_,?_,?_,?_,?_,⟨Int.le_refl _,by omega⟩,fun r hr=>(by cases hr),.nil,fun y hy=>(by simp[nameOf] at hy),.refl k1.ok⟩
  all_goals try simp only[cD,↓reduceIte,zA,reduceCtorEq,zE,zB,zC,zD,zF]
  all_goals rfl
end
open Go.Proofs
set_option maxRecDepth 100000
set_option maxHeartbeats 4000000
section
variable {kc:Kc} {q:Bool} {s:St} {Φ:Value→St→Prop} {g:Nat} {G:lM} {P:PH}
theorem dC:type_of% (An @RX<|An @gx<|An @vm<|An @VG<|An @bF<|An @gV<|@VF):=An @RX<|An @gx<|An @vm<|An @VG<|An @bF<|An @gV<|@VF
theorem ref_Gap (hs:Ok s) (H:cN s g G) (S:kM P G.L) (I:P.Inv) (x:iV) (sp:Int) (h1:∀ (a:Int) (b:Nat) s',1≤b→b<G.N→G.bs b=1→64*(b:Int)≤a→a<64*(b:Int)+64→aC [] s s'→Φ (.tuple #[int a,.bool true]) s') (h2:∀ s',aC [] s s'→Φ (.tuple #[int 0,.bool false]) s') :
  okF q X (KO kc) 212 [ptr g,jL x,int sp] s Φ:=by
 have iJ:=H.iJ
 have n2:=H.n2
 refine aG rfl fn_212 rfl (rs:=[.tmp 6,.tmp 7]) rfl (N:=50) rfl rfl ?_
 refine aA fun Ψ0 hΨ0 hΨ0'=>?_
 simp only[dC,↓reduceIte,zA,reduceCtorEq,zE,zB,zC,zD,zF]
 obtain⟨s1,e1,k1,c1,n1⟩:=aT hs (L:=[int x.r,int x.d,int x.k]) (n:=3) (e:=44) rfl
 rw[e1]
 refine hΨ0 _ _ ?_
 have H1:=H.aN k1
 refine aA fun Ψ1 hΨ1 hΨ1'=>?_
 refine aA fun Ψ2 hΨ2 hΨ2'=>?_
 simp only[dC,↓reduceIte,zA,reduceCtorEq,zE,zB,zC,zD,zF]
 refine hΨ2 _ _ ?_
 refine aL fun Ψ3 hΨ3 hΨ3e hΨ3'=>?_
 refine fY (n:=G.N-1) (fun j a' s'=>a'.aD 0=ptr g∧a'.aD 2=int sp∧a'.aD 4=ptr s.next∧a'.aD 8=int ((j+1:Nat))∧aC [] s1 s') (fun j a' s'=>a'.aD 0=ptr g∧a'.aD 2=int sp∧a'.aD 4=ptr s.next∧a'.aD 8=int ((j+1:Nat))∧aC [] s1 s') ?_ ?_ ?_ ?_ (Nat.zero_le _) ?_
 ·rintro j a' s' hj ⟨r0,r2,r4,r8,hk⟩ Ψ' hΨ'
  simp only[dC,↓reduceIte,zA,reduceCtorEq,zE,zB,zC,zD,zF,r0,r8]
  refine aB ?_ (KY (H1.aN hk) ?_)
  ·simp only[dC,↓reduceIte,zA,reduceCtorEq,zE,zB,zC,zD,zF]
  try simp only[dC,↓reduceIte,zA,reduceCtorEq,zE,zB,zC,zD,zF]
  refine hΨ' _ _ (decide (((j+1:Nat):Int)<G.N)) ?_ (by rw[decide_eq_true_eq];omega) ⟨?_,?_,?_,?_,hk⟩
  all_goals simp only[dC,↓reduceIte,zA,reduceCtorEq,zE,zB,zC,zD,zF,r0,r2,r4,r8]
 ·rintro j a' s' hj ⟨r0,r2,r4,r8,hk⟩ Ψ' w1 w2 w3
  have H':=H1.aN hk
  refine aA fun Ψ4 hΨ4 hΨ4'=>?_
  have HL:∀ a':bD,a'.aD 0=ptr g→a'.aD 2=int sp→a'.aD 4=ptr s.next→a'.aD 8=int ((j+1:Nat))→G.bs (j+1)=1→Ψ4 .normal a' s':=by
   intro a' r0 r2 r4 r8 hbs
   refine hΨ4 _ _ ?_
   refine aA fun Ψ5 hΨ5 hΨ5'=>?_
   simp only[dC,↓reduceIte,zA,reduceCtorEq,zE,zB,zC,zD,zF,r0,r8]
   refine aB ?_ (yz (b:=j+1) hk.ok H' S I (by omega) hbs ?_)
   ·simp only[dC,↓reduceIte,zA,reduceCtorEq,zE,zB,zC,zD,zF]
   intro l va vc s2 hl hll B2 hnm2 k2
   simp only[dC,↓reduceIte,zA,reduceCtorEq,zE,zB,zC,zD,zF]
   refine hΨ5 _ _ ?_
   refine aA fun Ψ6 hΨ6 hΨ6'=>?_
   simp only[dC,↓reduceIte,zA,reduceCtorEq,zE,zB,zC,zD,zF]
   refine hΨ6 _ _ ?_
   refine aL fun Ψ7 hΨ7 hΨ7e hΨ7'=>?_
   refine fY (n:=l.length) (fun i a' s'=>a'.aD 0=ptr g∧a'.aD 2=int sp∧a'.aD 4=ptr s.next∧a'.aD 8=int ((j+1:Nat))∧a'.aD 9=.slice va l.length vc∧a'.aD 10=int i∧aC [] s2 s') (fun i a' s'=>a'.aD 0=ptr g∧a'.aD 2=int sp∧a'.aD 4=ptr s.next∧a'.aD 8=int ((j+1:Nat))∧a'.aD 9=.slice va l.length vc∧a'.aD 10=int i∧aC [] s2 s') ?_ ?_ ?_ ?_ (Nat.zero_le _) ?_
   ·rintro i a' s3 hi ⟨r0,r2,r4,r8,r9,r10,hk3⟩ Ψ'' hΨ''
    simp only[dC,↓reduceIte,zA,reduceCtorEq,zE,zB,zC,zD,zF,r9,r10]
    refine hΨ'' _ _ (decide ((i:Int)<l.length)) ?_ (by simp) ⟨?_,?_,?_,?_,?_,?_,hk3⟩
    all_goals simp only[dC,↓reduceIte,zA,reduceCtorEq,zE,zB,zC,zD,zF,r0,r2,r4,r8,r9,r10]
   ·rintro i a' s3 hi ⟨r0,r2,r4,r8,r9,r10,hk3⟩ Ψ'' v1 v2 v3
    obtain⟨rb,roff,rfl⟩:=B2.sl.addr (show 0<l.length by omega)
    have p1:(0:Int)≤(i:Int):=Int.natCast_nonneg _
    have p2:(i:Int)<((l.length:Nat):Int):=by omega
    have lk:∀ t:St,aC [] s2 t→aI t.look ⟨rb,roff+i*2,none⟩=some (int l[i].1)∧aI t.look ⟨rb,roff+i*2+1,none⟩=some (int l[i].2):=fun t k=>by
     have hsl:=(B2.aF k (by simp)).sl
     refine⟨hsl.load (i:=i*2) ?_,?_⟩
     ·have:=nB XM l hi (show 0<2 by omega)
      exact this
     ·have:=hsl.load (i:=i*2+1) (v:=int l[i].2) (by rw[nB XM l hi (by omega)];rfl)
      rw[← Nat.add_assoc] at this
      exact this
    obtain⟨lj0,lj1⟩:=lk s3 hk3
    have k13:aC [] s1 s3:=(hk.trans k2).trans hk3
    have lsh:=(c1.aF k13 (by simp)).aS (i:=0) (k:=3) (Nat.le_refl _)
    have ks:aC [] s3 (s3.skip 16):=aC.skip hk3.ok _
    refine aA fun Ψ8 hΨ8 hΨ8'=>?_
    refine aQ [(4,6)] [rb] [] (by kernel_rfl) (by kernel_rfl) (by rfl) fun O hO ΨR hR=>?_
    simp only[dC,↓reduceIte,zA,reduceCtorEq,zE,zB,zC,zD,zF,r4,r9,r10,p1,p2,and_self,aJ,Int.toNat_natCast,lj1,lsh,List.drop_zero,List.take]
    refine aW ?_ (oH ks.ok x fun s4 k4=>?_)
    ·simp only[dC,↓reduceIte,zA,reduceCtorEq,zE,zB,zC,zD,zF]
    have s1o:bP (s3.skip 16) s4 rb=true:=nL (lk _ (hk3.trans ks)).1 ks.ok k4 (by simp)
    have hk4:=(hk3.trans ks).trans k4
    have lj0':=(lk s4 hk4).1
    by_cases hc:l[i].2≥x.words
    ·simp only[dC,↓reduceIte,zA,reduceCtorEq,zE,zB,zC,zD,zF,hc,decide_true]
     refine⟨aV s1o bR,hR _ _ (hΨ8 _ _ ?_)⟩
     simp only[dC,↓reduceIte,zA,reduceCtorEq,zE,zB,zC,zD,zF,r9,r10,p1,p2,and_self,aJ,Int.toNat_natCast,lj0']
     refine v3 _ _ _ (by simp) (by simp) (hΨ7' _ _ _ (by simp) (by simp) (w3 _ _ _ (by simp) (by simp) (hΨ3' _ _ _ (by simp) (by simp) (hΨ1' _ _ _ (by simp) ?_))))
     simp only[dC,↓reduceIte,zA,reduceCtorEq,zE,zB,zC,zD,zF]
     have hr:=hl l[i] (List.getElem_mem hi)
     exact h1 l[i].1 (j+1) s4 (by omega) (by omega) hbs hr.1 hr.2 (((k1.trans hk).trans k2).trans hk4)
    ·simp only[dC,↓reduceIte,zA,reduceCtorEq,zE,zB,zC,zD,zF,hc,decide_false]
     refine⟨aV s1o bR,hR _ _ (hΨ8 _ _ ?_)⟩
     simp only[dC,↓reduceIte,zA,reduceCtorEq,zE,zB,zC,zD,zF]
     refine v1 _ _ ⟨?_,?_,?_,?_,?_,?_,hk4⟩
     all_goals simp only[dC,↓reduceIte,zA,reduceCtorEq,zE,zB,zC,zD,zF,r0,r2,r4,r8,r9,r10]
   ·rintro i a' s3 hi ⟨r0,r2,r4,r8,r9,r10,hk3⟩ Ψ'' v1
    have w:IntKind.i64.wrap ((i:Int)+1)=((i+1:Nat):Int):=by rw[aR (by omega) (by omega)];rfl
    simp only[dC,↓reduceIte,zA,reduceCtorEq,zE,zB,zC,zD,zF,r10,w]
    refine v1 _ _ ⟨?_,?_,?_,?_,?_,?_,hk3⟩
    all_goals try simp only[dC,↓reduceIte,zA,reduceCtorEq,zE,zB,zC,zD,zF,r0,r2,r4,r8,r9]
   ·rintro a' s3 ⟨r0,r2,r4,r8,r9,r10,hk3⟩
    exact hΨ7e _ _ (w1 _ _ ⟨r0,r2,r4,r8,(hk.trans k2).trans hk3⟩)
   ·refine⟨?_,?_,?_,?_,?_,?_,.refl k2.ok⟩
    all_goals try simp only[dC,↓reduceIte,zA,reduceCtorEq,zE,zB,zC,zD,zF,r0,r2,r4,r8]
    rfl
  refine aA fun Ψ9 hΨ9 hΨ9'=>?_
  refine aH [(4,21)] (by kernel_rfl) fun O hO ΨR hR=>?_
  have y4:∀ a,aE O a 4=aM (a.aD 21):=hO (4,21) (by simp)
  simp only[dC,↓reduceIte,zA,reduceCtorEq,zE,zB,zC,zD,zF,r0,r8]
  refine aB ?_ (EG H' ((j+1:Nat):Int) ?_)
  ·simp only[dC,↓reduceIte,zA,reduceCtorEq,zE,zB,zC,zD,zF]
  rw[if_pos ⟨by omega,by omega⟩,Int.toNat_natCast]
  by_cases hbs:G.bs (j+1)=1
  ·simp only[dC,↓reduceIte,zA,reduceCtorEq,zE,zB,zC,zD,zF,y4,hbs,beq_self_eq_true,r0,r8]
   refine aB ?_ (pz H' ((j+1:Nat):Int) ?_)
   ·simp only[dC,↓reduceIte,zA,reduceCtorEq,zE,zB,zC,zD,zF]
   rw[if_pos ⟨by omega,by omega⟩,Int.toNat_natCast]
   cases hsp:(G.bp (j+1)==sp) with
   | true =>
    simp only[dC,↓reduceIte,zA,reduceCtorEq,zE,zB,zC,zD,zF,y4,r2,hsp]
    refine hR _ _ (hΨ9 _ _ ?_)
    simp only[dC,↓reduceIte,zA,reduceCtorEq,zE,zB,zC,zD,zF]
    refine HL _ ?_ ?_ ?_ ?_ hbs
    all_goals simp only[dC,↓reduceIte,zA,reduceCtorEq,zE,zB,zC,zD,zF,r0,r2,r4,r8]
   | false =>
    simp only[dC,↓reduceIte,zA,reduceCtorEq,zE,zB,zC,zD,zF,y4,r2,hsp]
    refine hR _ _ (hΨ9 _ _ ?_)
    simp only[dC,↓reduceIte,zA,reduceCtorEq,zE,zB,zC,zD,zF]
    refine hΨ4' _ _ _ (by simp) (w2 _ _ ⟨?_,?_,?_,?_,hk⟩)
    all_goals simp only[dC,↓reduceIte,zA,reduceCtorEq,zE,zB,zC,zD,zF,r0,r2,r4,r8]
  ·have hbs':(G.bs (j+1)==1)=false:=by simpa using hbs
   simp only[dC,↓reduceIte,zA,reduceCtorEq,zE,zB,zC,zD,zF,y4,hbs']
   refine hR _ _ (hΨ9 _ _ ?_)
   simp only[dC,↓reduceIte,zA,reduceCtorEq,zE,zB,zC,zD,zF]
   refine hΨ4' _ _ _ (by simp) (w2 _ _ ⟨?_,?_,?_,?_,hk⟩)
   all_goals simp only[dC,↓reduceIte,zA,reduceCtorEq,zE,zB,zC,zD,zF,r0,r2,r4,r8]
 ·rintro j a' s' hj ⟨r0,r2,r4,r8,hk⟩ Ψ' w1
  have w:IntKind.i64.wrap (((j+1:Nat):Int)+1)=((j+1+1:Nat):Int):=by rw[aR (by omega) (by omega)];rfl
  simp only[dC,↓reduceIte,zA,reduceCtorEq,zE,zB,zC,zD,zF,r8,w]
  refine w1 _ _ ⟨?_,?_,?_,?_,hk⟩
  all_goals try simp only[dC,↓reduceIte,zA,reduceCtorEq,zE,zB,zC,zD,zF,r0,r2,r4]
 ·rintro a' s' ⟨r0,r2,r4,r8,hk⟩
  refine hΨ3e _ _ (hΨ1 _ _ ?_)
  simp only[dC,↓reduceIte,zA,reduceCtorEq,zE,zB,zC,zD,zF]
  exact h2 s' (k1.trans hk)
 ·refine⟨?_,?_,?_,?_,.refl k1.ok⟩
  all_goals try simp only[dC,↓reduceIte,zA,reduceCtorEq,zE,zB,zC,zD,zF]
  rfl
def PH.jJ (P:PH) (b:Nat) (x:iV) (sp:Int):PH:=if x.words>32 then P.qY b ((x.words+63)/64).toNat 2 sp 3 sp else P.qY b 1 1 sp 0 0
theorem cT:type_of% (An @RX<|@gV):=An @RX<|@gV
theorem pv (hs:Ok s) (H:cN s g G) (S:lO P G) (I:P.Inv) (x:iV) (hx:x.valid=true) {sp:Int} (hsp:0≤sp∧sp<8)
  (h0:∀ s',aC [] s s'→Φ (.tuple #[int 0,.bool false]) s')
  (h1:∀ (a:Int) (b:Nat) s',1≤b→b<P.N→P.bs b=1→64*(b:Int)≤a→a<64*(b:Int)+64→aC [] s s'→Φ (.tuple #[int a,.bool true]) s')
  (h2:∀ (b:Nat) G' s',1≤b→b+(if x.words>32 then((x.words+63)/64).toNat else 1)≤P.N→(∀ j,b≤j→j<b+(if x.words>32 then((x.words+63)/64).toNat else 1)→P.bs j=0)→cN s' g G'→lO (P.jJ b x sp) G'→G'.L=G.L→G'.aU g=G.aU g→aC [G.bn] s s'→Φ (.tuple #[int (64*(b:Int)),.bool true]) s') :
  okF q X (KO kc) 141 [ptr g,jL x,int sp] s Φ:=by
 have iJ:=H.iJ
 have hN:=S.N
 have hbs:=S.bs
 have hw:=iV.eD hx
 have hw2:=x.nU
 unfold PH.jJ at h2
 refine aG rfl fn_141 rfl (rs:=[.tmp 6,.tmp 7]) rfl (N:=50) rfl rfl ?_
 refine aA fun Ψ0 hΨ0 hΨ0'=>?_
 simp only[cT,↓reduceIte,zA,reduceCtorEq,zE,zB,zC,zD,zF]
 obtain⟨s1,e1,k1,c1,n1⟩:=aT hs (L:=[int x.r,int x.d,int x.k]) (n:=3) (e:=44) rfl
 rw[e1]
 refine hΨ0 _ _ ?_
 have lsh:=c1.aS (i:=0) (k:=3) (Nat.le_refl _)
 refine aA fun Ψ1 hΨ1 hΨ1'=>?_
 refine aA fun Ψ2 hΨ2 hΨ2'=>?_
 simp only[cT,↓reduceIte,zA,reduceCtorEq,zE,zB,zC,zD,zF,lsh,List.drop_zero,List.take]
 refine aB ?_ (EF k1.ok x fun s2 k2=>?_)
 ·simp only[cT,↓reduceIte,zA,reduceCtorEq,zE,zB,zC,zD,zF]
 simp only[cT,↓reduceIte,zA,reduceCtorEq,zE,zB,zC,zD,zF]
 refine hΨ2 _ _ ?_
 have k02:=k1.trans k2
 have c2:=c1.aF k2 (by simp)
 have lsh2:=c2.aS (i:=0) (k:=3) (Nat.le_refl _)
 by_cases hl:x.words>32
 ·simp only[if_pos hl] at h2
  obtain⟨m,hm⟩:∃ m,m=((x.words+63)/64).toNat:=⟨_,rfl⟩
  have hm':(x.words+63)/64=(m:Int):=by omega
  rw[← hm] at h2
  simp only[bE,RV,RG,↓reduceIte,zA,reduceCtorEq,zE,zB,zC,zD,zF,hl,decide_true]
  refine aA fun Ψ3 hΨ3 hΨ3'=>?_
  simp only[cT,↓reduceIte,zA,reduceCtorEq,zE,zB,zC,zD,zF,lsh2,List.drop_zero,List.take]
  refine aB ?_ (LB k2.ok x fun s3 k3=>?_)
  ·simp only[cT,↓reduceIte,zA,reduceCtorEq,zE,zB,zC,zD,zF]
  rw[hm']
  simp only[cT,↓reduceIte,zA,reduceCtorEq,zE,zB,zC,zD,zF]
  refine hΨ3 _ _ ?_
  have k03:=k02.trans k3
  have H3:=H.aN k03
  refine aA fun Ψ4 hΨ4 hΨ4'=>?_
  simp only[cT,↓reduceIte,zA,reduceCtorEq,zE,zB,zC,zD,zF]
  refine aB ?_ (XA H3 (n:=m) (by omega) (by omega) (fun b hb1 hb2 hf=>?_) ?_)
  ·simp only[cT,↓reduceIte,zA,reduceCtorEq,zE,zB,zC,zD,zF]
  ·simp only[cT,↓reduceIte,zA,reduceCtorEq,zE,zB,zC,zD,zF]
   refine hΨ4 _ _ ?_
   have e0:((b:Int)==0)=false:=by rw[beq_eq_false_iff_ne];omega
   refine aA fun Ψ5 hΨ5 hΨ5'=>?_
   refine aA fun Ψ6 hΨ6 hΨ6'=>?_
   simp only[cT,↓reduceIte,zA,reduceCtorEq,zE,zB,zC,zD,zF,e0]
   refine hΨ6 _ _ ?_
   simp only[cT,↓reduceIte,zA,reduceCtorEq,zE,zB,zC,zD,zF]
   refine hΨ5 _ _ ?_
   have wb:IntKind.i64.wrap ((b:Int)*64)=64*(b:Int):=by rw[aR (by omega) (by omega)];omega
   simp only[cT,↓reduceIte,zA,reduceCtorEq,zE,zB,zC,zD,zF,wb]
   refine aB ?_ (KZ (p:=b) (m:=m) k03.ok H3 hb1 (by omega) hb2 hsp hf fun s4 H4 k4=>?_)
   ·simp only[cT,↓reduceIte,zA,reduceCtorEq,zE,zB,zC,zD,zF]
   simp only[cT,↓reduceIte,zA,reduceCtorEq,zE,zB,zC,zD,zF]
   refine hΨ1' _ _ _ (by simp) ?_
   simp only[cT,↓reduceIte,zA,reduceCtorEq,zE,zB,zC,zD,zF]
   refine h2 b _ s4 hb1 (by omega) (fun j a b'=>by rw[← hbs];exact hf j a b') H4 ⟨S.N,?_,?_,S.born,⟨S.L.all,fun o ho=>?_⟩⟩ rfl rfl (k03.any.trans k4)
   ·show eP _ b 2=eP _ b 2
    unfold lM.fill
    rw[hbs]
   ·show (fun j=>if b≤j∧j<b+m then sp else G.bp j)=eP (fun j=>if b≤j∧j<b+m then sp else P.bp j) b sp
    rw[S.bp]
    funext j
    unfold eP
    by_cases e:j=b
    ·rw[if_pos e,if_pos (by omega)]
    ·rw[if_neg e]
   ·have:=S.L.ok o ho
    exact⟨this.id,this.sh,this.rs,this.ds,this.vI⟩
  ·simp only[cT,↓reduceIte,zA,reduceCtorEq,zE,zB,zC,zD,zF]
   refine hΨ4 _ _ ?_
   refine aA fun Ψ5 hΨ5 hΨ5'=>?_
   refine aA fun Ψ6 hΨ6 hΨ6'=>?_
   simp only[cT,↓reduceIte,zA,reduceCtorEq,zE,zB,zC,zD,zF]
   refine hΨ6 _ _ ?_
   simp only[cT,↓reduceIte,zA,reduceCtorEq,zE,zB,zC,zD,zF]
   refine hΨ5' _ _ _ (by simp) (hΨ1' _ _ _ (by simp) ?_)
   simp only[cT,↓reduceIte,zA,reduceCtorEq,zE,zB,zC,zD,zF]
   exact h0 s3 k03
 ·simp only[if_neg hl] at h2
  simp only[bE,RV,RG,↓reduceIte,zA,reduceCtorEq,zE,zB,zC,zD,zF,hl,decide_false]
  simp only[cT,↓reduceIte,zA,reduceCtorEq,zE,zB,zC,zD,zF]
  refine hΨ1 _ _ ?_
  have H2:=H.aN k02
  refine aA fun Ψ7 hΨ7 hΨ7'=>?_
  refine aA fun Ψ8 hΨ8 hΨ8'=>?_
  simp only[cT,↓reduceIte,zA,reduceCtorEq,zE,zB,zC,zD,zF,lsh2,List.drop_zero,List.take]
  refine aB ?_ (ref_Gap k2.ok H2 S.L I x sp (fun a b s3 hb1 hb2 hbs1 ha1 ha2 k3=>?_) (fun s3 k3=>?_))
  ·simp only[cT,↓reduceIte,zA,reduceCtorEq,zE,zB,zC,zD,zF]
  ·simp only[cT,↓reduceIte,zA,reduceCtorEq,zE,zB,zC,zD,zF]
   refine hΨ8 _ _ ?_
   refine aA fun Ψ9 hΨ9 hΨ9'=>?_
   simp only[cT,↓reduceIte,zA,reduceCtorEq,zE,zB,zC,zD,zF]
   refine hΨ9 _ _ ?_
   simp only[cT,↓reduceIte,zA,reduceCtorEq,zE,zB,zC,zD,zF]
   refine hΨ7' _ _ _ (by simp) ?_
   simp only[cT,↓reduceIte,zA,reduceCtorEq,zE,zB,zC,zD,zF]
   exact h1 a b s3 hb1 (by omega) (by rw[← hbs];exact hbs1) ha1 ha2 (k02.trans k3)
  ·simp only[cT,↓reduceIte,zA,reduceCtorEq,zE,zB,zC,zD,zF]
   refine hΨ8 _ _ ?_
   refine aA fun Ψ9 hΨ9 hΨ9'=>?_
   simp only[cT,↓reduceIte,zA,reduceCtorEq,zE,zB,zC,zD,zF]
   refine hΨ9 _ _ ?_
   simp only[cT,↓reduceIte,zA,reduceCtorEq,zE,zB,zC,zD,zF]
   refine hΨ7 _ _ ?_
   have k03:=k02.trans k3
   have H3:=H.aN k03
   refine aA fun Ψ10 hΨ10 hΨ10'=>?_
   simp only[cT,↓reduceIte,zA,reduceCtorEq,zE,zB,zC,zD,zF]
   refine aB ?_ (XA H3 (n:=1) (by omega) (by omega) (fun b hb1 hb2 hf=>?_) ?_)
   ·simp only[cT,↓reduceIte,zA,reduceCtorEq,zE,zB,zC,zD,zF]
    rfl
   ·simp only[cT,↓reduceIte,zA,reduceCtorEq,zE,zB,zC,zD,zF]
    refine hΨ10 _ _ ?_
    have e0:((b:Int)==0)=false:=by rw[beq_eq_false_iff_ne];omega
    refine aA fun Ψ11 hΨ11 hΨ11'=>?_
    refine aA fun Ψ12 hΨ12 hΨ12'=>?_
    simp only[cT,↓reduceIte,zA,reduceCtorEq,zE,zB,zC,zD,zF,e0]
    refine hΨ12 _ _ ?_
    simp only[cT,↓reduceIte,zA,reduceCtorEq,zE,zB,zC,zD,zF]
    refine hΨ11 _ _ ?_
    have wb:IntKind.i64.wrap ((b:Int)*64)=64*(b:Int):=by rw[aR (by omega) (by omega)];omega
    simp only[cT,↓reduceIte,zA,reduceCtorEq,zE,zB,zC,zD,zF,wb]
    refine aB ?_ (pr (b:=b) k03.ok H3 hb1 (by omega) hsp (hf b (Nat.le_refl _) (by omega)) fun s4 H4 k4=>?_)
    ·simp only[cT,↓reduceIte,zA,reduceCtorEq,zE,zB,zC,zD,zF]
    simp only[cT,↓reduceIte,zA,reduceCtorEq,zE,zB,zC,zD,zF]
    refine h2 b _ s4 hb1 (by omega) (fun j a b'=>by rw[← hbs];exact hf j a b') H4 ⟨S.N,?_,?_,S.born,⟨S.L.all,fun o ho=>?_⟩⟩ rfl rfl (k03.any.trans k4)
    ·show eP G.bs b 1=eP (fun j=>if b≤j∧j<b+1 then 0 else P.bs j) b 1
     rw[hbs]
     funext j
     unfold eP
     by_cases e:j=b
     ·rw[if_pos e,if_pos e]
     ·rw[if_neg e,if_neg e]
      simp only
      rw[if_neg (by omega)]
    ·show eP G.bp b sp=eP (fun j=>if b≤j∧j<b+1 then 0 else P.bp j) b sp
     rw[S.bp]
     funext j
     unfold eP
     by_cases e:j=b
     ·rw[if_pos e,if_pos e]
     ·rw[if_neg e,if_neg e]
      simp only
      rw[if_neg (by omega)]
    ·have:=S.L.ok o ho
     exact⟨this.id,this.sh,this.rs,this.ds,this.vI⟩
   ·simp only[cT,↓reduceIte,zA,reduceCtorEq,zE,zB,zC,zD,zF]
    refine hΨ10 _ _ ?_
    refine aA fun Ψ11 hΨ11 hΨ11'=>?_
    refine aA fun Ψ12 hΨ12 hΨ12'=>?_
    simp only[cT,↓reduceIte,zA,reduceCtorEq,zE,zB,zC,zD,zF]
    refine hΨ12 _ _ ?_
    simp only[cT,↓reduceIte,zA,reduceCtorEq,zE,zB,zC,zD,zF]
    refine hΨ11' _ _ _ (by simp) ?_
    simp only[cT,↓reduceIte,zA,reduceCtorEq,zE,zB,zC,zD,zF]
    exact h0 s3 k03
end
end Go.Dust
