/- VerifySound walked in D, function by function, and its plain law (C4 C5). -/
import Derived.Test.YtaoiejcaopgjcaaGreatR
set_option linter.unusedVariables false
set_option linter.unusedSimpArgs false
open Nat renaming reduceEqDiff → zA, reduceMul → zB, reduceAdd → zC, reduceBEq → zD
open Int renaming reduceEq → zE, reduceBEq → zF
namespace Go.Dust
open Go.Proofs
set_option maxRecDepth 100000
set_option maxHeartbeats 4000000
def row (n:Nat) (f:Nat→Value):List Value:=(List.range n).map f
theorem bI (n:Nat) (f:Nat→Value):(row n f).length=n:=by simp[row]
theorem fB {n i:Nat} (f:Nat→Value) (h:i<n):(row n f)[i]?=some (f i):=by
 unfold row
 rw[List.getElem?_map,List.getElem?_range h];rfl
theorem zj {n i:Nat} (f:Nat→Value) (h:n≤i):(row n f)[i]?=none:=List.getElem?_eq_none (by rw[bI];exact h)
theorem yP {n:Nat} {f:Nat→Value} {L:List Value} (hl:L.length=n) (h:∀ i,i<n→L[i]?=some (f i)):L=row n f:=by
 apply List.ext_getElem?
 intro i
 by_cases hi:i<n
 ·rw[h i hi,fB f hi]
 ·rw[zj f (by omega),List.getElem?_eq_none (by omega)]
theorem yQ {n i:Nat} {f:Nat→Value} {v:Value} (h:i<n):(row n f).set i v=row n fun j=>if j=i then v else f j:=by
 refine yP (by rw[List.length_set,bI]) fun j hj=>?_
 rw[List.getElem?_set,bI]
 by_cases e:i=j
 ·subst e;rw[if_pos rfl,if_pos h,if_pos rfl]
 ·rw[if_neg e,if_neg (fun h=>e h.symm),fB f hj]
def fW (s:St) (b:Nat) (M:List (Int×Value)):Prop:=∃ es cM dF,s.heap.get b=some (.map es cM dF)∧(es.map (fun e=>(e.key,e.val))=M.map (fun p=>(int p.1,p.2))∧∀ e∈es,e.born<cM)
theorem TY {es:List MapEntry} {c:Nat} {x y:Value} (h:∀ e∈es,e.born<c):∀ e∈es++[⟨x,y,c⟩],e.born<c+1:=by
 intro e he
 rcases List.mem_append.1 he with h1 | h1
 ·have:=h e h1;omega
 ·cases List.mem_singleton.1 h1;exact Nat.lt_succ_self _
theorem fW.aF {F:List Nat} {s s':St} {b:Nat} {M:List (Int×Value)} (h:fW s b M) (k:aC F s s') (hb:b∉F):fW s' b M:=by
 obtain⟨es,cM,dF,h1,h2⟩:=h
 exact⟨es,cM,dF,k.mC _ _ h1 hb,h2⟩
theorem fW.same {F:List Nat} {s s':St} {b:Nat} {M:List (Int×Value)} (h:fW s b M) (hs:Ok s) (k:aC F s s') (hb:b∉F):bP s s' b=true:=by
 obtain⟨es,cM,dF,h1,h2⟩:=h
 exact wS h1 rfl hs k hb
theorem fW.lt {s:St} {b:Nat} {M:List (Int×Value)} (h:fW s b M) (hs:Ok s):b<s.next:=by
 obtain⟨es,cM,dF,h1,h2⟩:=h
 exact hs.lt h1
structure aP (s:St) (h:Nat) (P:PH):Prop where
 c:Obj s h [.slice (some ⟨P.nb,0,none⟩) P.N P.N,.slice (some ⟨P.nw,0,none⟩) (64*P.N) (64*P.N),ptr P.st,ptr P.pt,.map (some P.mp),.map (some P.mf),int P.born]
 cb:Obj s P.nb (row (2*P.N) fun i=>int (if i%2=0 then P.bs (i/2) else P.bp (i/2)))
 cw:Obj s P.nw (row (64*P.N) fun i=>int (P.w i))
 ts:gS s P.st P.su (32*P.N) 1 P.S
 tp:gS s P.pt P.pu (32*P.N) 1 P.Q
 mp:fW s P.mp (P.M.map fun p=>(p.1,int p.2))
 mf:fW s P.mf []
 nd:[h,P.nb,P.nw,P.st,P.su,P.pt,P.pu,P.mp,P.mf].Nodup
 n2:2≤P.N
 iJ:P.N≤64
 wr:∀ i,-9223372036854775808≤P.w i∧P.w i≤9223372036854775807
def PH.aU (h:Nat) (P:PH):List Nat:=[h,P.nb,P.nw,P.st,P.su,P.pt,P.pu,P.mp,P.mf]
namespace aP
variable {F:List Nat} {s s':St} {h:Nat} {P:PH}
theorem aF (H:aP s h P) (k:aC F s s') (hF:∀ x∈P.aU h,x∉F):aP s' h P:=by
 obtain⟨c,cb,cw,ts,tp,mp,mf,nd,n2,iJ,wr⟩:=H
 have f:=fun x hx=>hF x hx
 simp only[PH.aU,List.mem_cons,List.not_mem_nil,or_false] at f
 exact⟨c.aF k (f _ (by simp)),cb.aF k (f _ (by simp)),cw.aF k (f _ (by simp)),ts.aF k (f _ (by simp)) (f _ (by simp)),tp.aF k (f _ (by simp)) (f _ (by simp)),mp.aF k (f _ (by simp)),mf.aF k (f _ (by simp)),nd,n2,iJ,wr⟩
theorem aN (H:aP s h P) (k:aC [] s s'):aP s' h P:=H.aF k fun _ _=>by simp
theorem l0 (H:aP s h P):aI s.look ⟨h,0,none⟩=some (.slice (some ⟨P.nb,0,none⟩) P.N P.N):=H.c.load rfl
theorem l1 (H:aP s h P):aI s.look ⟨h,1,none⟩=some (.slice (some ⟨P.nw,0,none⟩) (64*P.N) (64*P.N)):=H.c.load rfl
theorem l2 (H:aP s h P):aI s.look ⟨h,2,none⟩=some (ptr P.st):=H.c.load rfl
theorem l3 (H:aP s h P):aI s.look ⟨h,3,none⟩=some (ptr P.pt):=H.c.load rfl
theorem l4 (H:aP s h P):aI s.look ⟨h,4,none⟩=some (.map (some P.mp)):=H.c.load rfl
theorem l6 (H:aP s h P):aI s.look ⟨h,6,none⟩=some (int P.born):=H.c.load rfl
theorem lw (H:aP s h P) {i:Nat} (hi:i<64*P.N):aI s.look ⟨P.nw,i,none⟩=some (int (P.w i)):=H.cw.load (fB _ hi)
theorem lb (H:aP s h P) {i:Nat} (hi:i<P.N):aI s.look ⟨P.nb,i*2,none⟩=some (int (P.bs i)):=by
 have:=H.cb.load (fB (n:=2*P.N) (i:=i*2) _ (by omega))
 simpa using this
theorem lp (H:aP s h P) {i:Nat} (hi:i<P.N):aI s.look ⟨P.nb,i*2+1,none⟩=some (int (P.bp i)):=by
 have:=H.cb.load (fB (n:=2*P.N) (i:=i*2+1) _ (by omega))
 rw[this,if_neg (by omega),show (i*2+1)/2=i by omega]
end aP
section
variable {kc:Kc} {q:Bool} {s:St} {Φ:Value→St→Prop} {h:Nat} {P:PH}
theorem aAe:type_of% (An @RX<|An @xy<|An @xr<|An @iO<|An @nD<|@mB):=An @RX<|An @xy<|An @xr<|An @iO<|An @nD<|@mB
theorem jT (H:aP s h P) (hΦ:Φ (.bool true) s):okF q X (KO kc) 77 [ptr h] s Φ:=by
 have n2:=H.n2
 have hp:((P.N:Nat):Int)>0:=by omega
 refine aG rfl fn_77 rfl (rs:=[.tmp 2]) rfl (N:=13) rfl rfl ?_
 refine aA fun Ψ0 hΨ0 hΨ0'=>?_
 simp only[aAe,↓reduceIte,zA,reduceCtorEq,zE,zB,zC,zD,zF]
 refine hΨ0 _ _ ?_
 refine aA fun Ψ1 hΨ1 hΨ1'=>?_
 refine aH [(2,5)] (by kernel_rfl) fun O hO ΨR hR=>?_
 have y2:∀ a,aE O a 2=aM (a.aD 5):=hO (2,5) (by simp)
 simp only[aAe,↓reduceIte,zA,reduceCtorEq,zE,zB,zC,zD,zF,y2,H.l0,hp,decide_true]
 refine hR _ _ (hΨ1 _ _ ?_)
 simp only[aAe,↓reduceIte,zA,reduceCtorEq,zE,zB,zC,zD,zF]
 exact hΦ
theorem tN:type_of% (An @RX<|An @jQ<|@qC):=An @RX<|An @jQ<|@qC
theorem oZ (hs:Ok s) (H:aP s h P) (a:Int) (ha:-9223372036854775808≤a∧a≤9223372036854775807) (hΦ:∀ s',aC [] s s'→Φ (.bool (P.has a)) s'):okF q X (KO kc) 14 [ptr h,int a] s Φ:=by
 refine aG rfl fn_14 rfl (rs:=[.tmp 4]) rfl (N:=26) rfl rfl ?_
 refine aA fun Ψ0 hΨ0 hΨ0'=>?_
 simp only[tN,↓reduceIte,zA,reduceCtorEq,zE,zB,zC,zD,zF]
 refine hΨ0 _ _ ?_
 refine aA fun Ψ1 hΨ1 hΨ1'=>?_
 refine aH [(2,7),(6,11),(11,16)] (by kernel_rfl) fun O hO ΨR hR=>?_
 have y2:∀ a,aE O a 2=aM (a.aD 7):=hO (2,7) (by simp)
 have y6:∀ a,aE O a 6=aM (a.aD 11):=hO (6,11) (by simp)
 have y11:∀ a,aE O a 11=aM (a.aD 16):=hO (11,16) (by simp)
 simp only[tN,↓reduceIte,zA,reduceCtorEq,zE,zB,zC,zD,zF]
 refine aB ?_ (jT H ?_)
 ·simp only[tN,↓reduceIte,zA,reduceCtorEq,zE,zB,zC,zD,zF]
 by_cases h0:a≥0
 ·have e1:a.tmod 2=a%2:=Int.tmod_eq_emod_of_nonneg h0
  have e2:IntKind.i64.wrap (a.tdiv 2)=a/2:=by rw[Int.tdiv_eq_ediv_of_nonneg h0,aR (by omega) (by omega)]
  by_cases h1:a%2=0
  ·simp only[tN,↓reduceIte,zA,reduceCtorEq,zE,zB,zC,zD,zF,y2,y6,y11,H.l2,h0,decide_true,e1,h1,beq_self_eq_true,e2]
   refine aB ?_ (zu hs H.ts (a/2) fun s' k=>?_)
   ·simp only[tN,↓reduceIte,zA,reduceCtorEq,zE,zB,zC,zD,zF]
   by_cases h2:a/2<((32*P.N:Nat):Int)
   ·have c1:(0≤a/2∧a/2<((32*P.N:Nat):Int)):=⟨by omega,h2⟩
    rw[if_pos c1]
    try simp only[tN,↓reduceIte,zA,reduceCtorEq,zE,zB,zC,zD,zF,y11]
    refine hR _ _ (hΨ1 _ _ ?_)
    simp only[tN,↓reduceIte,zA,reduceCtorEq,zE,zB,zC,zD,zF]
    have e3:((P.S (a/2).toNat:Int)==1)=P.has a:=by
     rw[Bool.eq_iff_iff,PH.dT,beq_iff_eq]
     constructor
     ·intro h;exact⟨h0,h1,by omega,by omega⟩
     ·rintro⟨_,_,_,h⟩;omega
    rw[e3]
    exact hΦ _ k
   ·rw[if_neg (fun h=>h2 h.2)]
    try simp only[tN,↓reduceIte,zA,reduceCtorEq,zE,zB,zC,zD,zF,y11]
    refine hR _ _ (hΨ1 _ _ ?_)
    simp only[tN,↓reduceIte,zA,reduceCtorEq,zE,zB,zC,zD,zF]
    have e3:P.has a=false:=by
     cases hh:P.has a with
     | false=>rfl
     | true=>have:=PH.dT.1 hh;omega
    have:=hΦ _ k
    rw[e3] at this
    exact this
  ·have e3:P.has a=false:=by
    cases hh:P.has a with
    | false=>rfl
    | true=>have:=PH.dT.1 hh;omega
   have e4:(a%2==0)=false:=by simpa using h1
   simp only[tN,↓reduceIte,zA,reduceCtorEq,zE,zB,zC,zD,zF,y2,y6,y11,h0,decide_true,e1,e4]
   refine hR _ _ (hΨ1 _ _ ?_)
   simp only[tN,↓reduceIte,zA,reduceCtorEq,zE,zB,zC,zD,zF]
   have:=hΦ _ (.refl hs)
   rw[e3] at this
   exact this
 ·have e3:P.has a=false:=by
   cases hh:P.has a with
   | false=>rfl
   | true=>have:=PH.dT.1 hh;omega
  simp only[tN,↓reduceIte,zA,reduceCtorEq,zE,zB,zC,zD,zF,y2,y6,y11,h0,decide_false]
  refine hR _ _ (hΨ1 _ _ ?_)
  simp only[tN,↓reduceIte,zA,reduceCtorEq,zE,zB,zC,zD,zF]
  have:=hΦ _ (.refl hs)
  rw[e3] at this
  exact this
theorem vO:type_of% (An @RC<|An @RO<|An @RD<|An @RV<|An @RB<|@RG):=An @RC<|An @RO<|An @RD<|An @RV<|An @RB<|@RG
theorem pA (hs:Ok s) (H:aP s h P) (a:Int) (ha:-9223372036854775808≤a∧a≤9223372036854775807) (hΦ:∀ s',aC [] s s'→Φ (int (if P.has a=true then 0 else 4)) s'):okF q X (KO kc) 75 [ptr h,int a] s Φ:=by
 refine aG rfl fn_75 rfl (rs:=[.tmp 4]) rfl (N:=14) rfl rfl ?_
 refine aA fun Ψ0 hΨ0 hΨ0'=>?_
 simp only[vO,↓reduceIte,zA,reduceCtorEq,zE,zB,zC,zD,zF]
 refine hΨ0 _ _ ?_
 refine aA fun Ψ1 hΨ1 hΨ1'=>?_
 refine aL fun Ψ2 hΨ2 hΨ2e hΨ2'=>?_
 refine aA fun Ψ3 hΨ3 hΨ3'=>?_
 simp only[vO,↓reduceIte,zA,reduceCtorEq,zE,zB,zC,zD,zF]
 refine aB ?_ (jT H ?_)
 ·simp only[vO,↓reduceIte,zA,reduceCtorEq,zE,zB,zC,zD,zF]
 simp only[vO,↓reduceIte,zA,reduceCtorEq,zE,zB,zC,zD,zF]
 refine hΨ3 _ _ ?_
 simp only[bE,RV,RG,↓reduceIte,zA,reduceCtorEq,zE,zB,zC,zD,zF]
 refine aA fun Ψ4 hΨ4 hΨ4'=>?_
 simp only[vO,↓reduceIte,zA,reduceCtorEq,zE,zB,zC,zD,zF]
 refine aB ?_ (oZ hs H a ha fun s' k=>?_)
 ·simp only[vO,↓reduceIte,zA,reduceCtorEq,zE,zB,zC,zD,zF]
 have:=hΦ _ k
 cases hh:P.has a with
 | true =>
  rw[hh] at this
  try simp only[vO,↓reduceIte,zA,reduceCtorEq,zE,zB,zC,zD,zF]
  refine hΨ4 _ _ ?_
  simp only[vO,↓reduceIte,zA,reduceCtorEq,zE,zB,zC,zD,zF]
  refine hΨ2 _ _ (hΨ1 _ _ ?_)
  simp only[vO,↓reduceIte,zA,reduceCtorEq,zE,zB,zC,zD,zF]
  exact this
 | false =>
  rw[hh] at this
  try simp only[vO,↓reduceIte,zA,reduceCtorEq,zE,zB,zC,zD,zF]
  refine hΨ4 _ _ ?_
  simp only[vO,↓reduceIte,zA,reduceCtorEq,zE,zB,zC,zD,zF]
  refine hΨ2' _ _ _ (by simp) (by simp) (hΨ1' _ _ _ (by simp) ?_)
  simp only[vO,↓reduceIte,zA,reduceCtorEq,zE,zB,zC,zD,zF]
  exact this
theorem aT {s:St} (hs:Ok s) {L:List Value} {n e:Nat} (hn:L.length=n):∃ s1,(s.new fun v=>.cells (PT.ofList L) [] n e false false v)=s1∧aC [] s s1∧Obj s1 s.next L∧s1.next=s.next+2:=by
 subst hn
 exact⟨_,rfl,(aC.refl hs).new (.inr (Nat.le_refl _)),⟨_,Cells.uP⟩,rfl⟩
abbrev jL (x:iV):Value:=.agg #[int x.r,int x.d,int x.k]
theorem Obj.aS {s:St} {b i k:Nat} {L:List Value} (h:Obj s b L) (hi:i+k≤L.length):aS s.look ⟨b,i,none⟩ k=some ((L.drop i).take k):=let ⟨_,h⟩:=h;h.aS hi
theorem Obj.storeAll {s:St} {b:Nat} {L vs:List Value} (h:Obj s b L) (hs:Ok s) (hi:vs.length=L.length) (h1:vs.all kZ=true):∃ s',bJ s ⟨b,0,none⟩ vs=some s'∧Obj s' b vs∧aC [b] s s':=by
 obtain⟨e,h⟩:=h
 obtain⟨s',h1,h2,h3⟩:=h.store hs (i:=0) (vs:=vs) (by omega) h1
 have:oI L 0 vs=vs:=by
  unfold oI
  rw[List.take_zero,List.nil_append,Nat.zero_add,hi,List.drop_length,List.append_nil]
 rw[this] at h2
 exact⟨s',h1,⟨e,h2⟩,h3⟩
theorem PO {x:Int} (h:-9223372036854775808≤x∧x≤9223372036854775807) (k:Int) (hk:0<k):IntKind.i64.wrap (x.tdiv k)=x.tdiv k:=by
 rcases Int.lt_or_le x 0 with h0 | h0
 ·have h1:=Int.neg_tdiv (a:=-x) (b:=k)
  rw[Int.neg_neg] at h1
  have h2:0≤(-x).tdiv k:=Int.tdiv_nonneg (by omega) (by omega)
  have h3:(-x).tdiv k≤-x:=Int.tdiv_le_self _ (by omega)
  exact aR (by omega) (by omega)
 ·have h2:0≤x.tdiv k:=Int.tdiv_nonneg h0 (by omega)
  have h3:x.tdiv k≤x:=Int.tdiv_le_self _ h0
  exact aR (by omega) (by omega)
theorem aAd:type_of% (An @RX<|An @kA<|An @EY<|An @kI<|@gV):=An @RX<|An @kA<|An @EY<|An @kI<|@gV
theorem uF (hs:Ok s) (x:Int) (hx:-9223372036854775808≤x∧x≤9223372036854775807) (hΦ:∀ s',aC [] s s'→Φ (jL (qD x)) s'):okF q X (KO kc) 76 [int x] s Φ:=by
 have hm:-9223372036854775808≤x.tmod 4096∧x.tmod 4096≤9223372036854775807:=by
  have:=Int.natAbs_tmod x 4096
  have:=Nat.mod_lt x.natAbs (show 0<(4096:Int).natAbs by decide)
  omega
 refine aG rfl fn_76 rfl (rs:=[.cell 2 44]) rfl (N:=11) rfl rfl ?_
 refine aA fun Ψ0 hΨ0 hΨ0'=>?_
 simp only[aAd,↓reduceIte,zA,reduceCtorEq,zE,zB,zC,zD,zF]
 obtain⟨s1,e1,k1,c1,_⟩:=aT hs (L:=[int 0,int 0,int 0]) (n:=3) (e:=44) rfl
 rw[e1]
 refine hΨ0 _ _ ?_
 refine aA fun Ψ1 hΨ1 hΨ1'=>?_
 obtain⟨s2,h2,c2,k2⟩:=c1.storeAll k1.ok (vs:=[int (qD x).r,int (qD x).d,int (qD x).k]) rfl rfl
 have a1:=PO hx 4096 (by omega)
 have a2:=PO hm 16 (by omega)
 simp only[qD] at h2 c2
 simp only[aAd,↓reduceIte,zA,reduceCtorEq,zE,zB,zC,zD,zF,a1,a2,h2]
 refine hΨ1 _ _ ?_
 have k3:aC [] s s2:=k1.step k2 fun g hg=>.inr (by rw[List.mem_singleton.1 hg];exact hs.fresh _ (Nat.le_refl _))
 have h3:=c2.aS (i:=0) (k:=3) (Nat.le_refl _)
 simp only[aAd,↓reduceIte,zA,reduceCtorEq,zE,zB,zC,zD,zF,h3,List.drop_zero,List.take]
 exact hΦ _ k3
theorem aAa:type_of% (An @RX<|An @eC<|An @bF<|An @fX<|@kG):=An @RX<|An @eC<|An @bF<|An @fX<|@kG
theorem VN (hs:Ok s) (x:iV) (hx:x.valid=true) (hΦ:∀ s',aC [] s s'→Φ (int x.num) s'):okF q X (KO kc) 171 [jL x] s Φ:=by
 have hv:=iV.dX.1 hx
 refine aG rfl fn_171 rfl (rs:=[.tmp 2]) rfl (N:=13) rfl rfl ?_
 refine aA fun Ψ0 hΨ0 hΨ0'=>?_
 simp only[aAa,↓reduceIte,zA,reduceCtorEq,zE,zB,zC,zD,zF]
 obtain⟨s1,e1,k1,c1,_⟩:=aT hs (L:=[int x.r,int x.d,int x.k]) (n:=3) (e:=44) rfl
 rw[e1]
 refine hΨ0 _ _ ?_
 have l0:aI s1.look ⟨s.next,0,none⟩=some (int x.r):=c1.load rfl
 have l1:aI s1.look ⟨s.next,1,none⟩=some (int x.d):=c1.load rfl
 have l2:aI s1.look ⟨s.next,2,none⟩=some (int x.k):=c1.load rfl
 simp only[aAa,↓reduceIte,zA,reduceCtorEq,zE,zB,zC,zD,zF,l0,l1,l2,Nat.zero_add]
 rw[aR (n:=16*x.d) (by omega) (by omega),aR (n:=x.r+16*x.d) (by omega) (by omega),aR (n:=4096*x.k) (by omega) (by omega),aR (by omega) (by omega)]
 exact hΦ _ k1
theorem iA:type_of% (An @RX<|An @eC<|An @bF<|An @fX<|@kG):=An @RX<|An @eC<|An @bF<|An @fX<|@kG
theorem JM (hs:Ok s) (x:iV) (hΦ:∀ s',aC [] s s'→Φ (.bool x.valid) s'):okF q X (KO kc) 168 [jL x] s Φ:=by
 refine aG rfl fn_168 rfl (rs:=[.tmp 2]) rfl (N:=51) rfl rfl ?_
 refine aA fun Ψ0 hΨ0 hΨ0'=>?_
 simp only[iA,↓reduceIte,zA,reduceCtorEq,zE,zB,zC,zD,zF]
 obtain⟨s1,e1,k1,c1,_⟩:=aT hs (L:=[int x.r,int x.d,int x.k]) (n:=3) (e:=44) rfl
 rw[e1]
 refine hΨ0 _ _ ?_
 have l0:aI s1.look ⟨s.next,0,none⟩=some (int x.r):=c1.load rfl
 have l1:aI s1.look ⟨s.next,1,none⟩=some (int x.d):=c1.load rfl
 have l2:aI s1.look ⟨s.next,2,none⟩=some (int x.k):=c1.load rfl
 have hΦ':=hΦ _ k1
 unfold iV.valid at hΦ'
 refine aA fun Ψ1 hΨ1 hΨ1'=>?_
 refine aH [(3,6),(8,11),(13,16),(18,21),(23,26),(28,31),(32,35),(38,41),(42,45)] (by kernel_rfl) fun O hO ΨR hR=>?_
 have y3:∀ a,aE O a 3=aM (a.aD 6):=hO (3,6) (by simp)
 have y8:∀ a,aE O a 8=aM (a.aD 11):=hO (8,11) (by simp)
 have y13:∀ a,aE O a 13=aM (a.aD 16):=hO (13,16) (by simp)
 have y18:∀ a,aE O a 18=aM (a.aD 21):=hO (18,21) (by simp)
 have y23:∀ a,aE O a 23=aM (a.aD 26):=hO (23,26) (by simp)
 have y28:∀ a,aE O a 28=aM (a.aD 31):=hO (28,31) (by simp)
 have y32:∀ a,aE O a 32=aM (a.aD 35):=hO (32,35) (by simp)
 have y38:∀ a,aE O a 38=aM (a.aD 41):=hO (38,41) (by simp)
 have y42:∀ a,aE O a 42=aM (a.aD 45):=hO (42,45) (by simp)
 by_cases g1:x.r≥0
 ·by_cases g2:x.r≤15
  ·by_cases g3:x.d≥0
   ·by_cases g4:x.d≤200
    ·by_cases g5:x.k≥0
     ·by_cases g6:x.k≤3
      ·by_cases g7:x.k=1
       ·have e7:(x.k==1)=true:=by rw[g7];rfl
        have e9:(x.k==2)=false:=by rw[g7];rfl
        by_cases g8:x.r≥1
        ·simp only[iA,↓reduceIte,zA,reduceCtorEq,zE,zB,zC,zD,zF,l0,l1,l2,Nat.zero_add,y3,y8,y13,y18,y23,y28,y32,y38,y42,g1,g2,g3,g4,g5,g6,e7,e9,g8,decide_true,beq_self_eq_true]
         refine hR _ _ (hΨ1 _ _ ?_)
         simp only[iA,↓reduceIte,zA,reduceCtorEq,zE,zB,zC,zD,zF]
         simpa [g1,g2,g3,g4,g5,g6,g7,g8] using hΦ'
        ·simp only[iA,↓reduceIte,zA,reduceCtorEq,zE,zB,zC,zD,zF,l0,l1,l2,Nat.zero_add,y3,y8,y13,y18,y23,y28,y32,y38,y42,g1,g2,g3,g4,g5,g6,e7,e9,g8,decide_true,decide_false,beq_self_eq_true]
         refine hR _ _ (hΨ1 _ _ ?_)
         simp only[iA,↓reduceIte,zA,reduceCtorEq,zE,zB,zC,zD,zF]
         simpa [g1,g2,g3,g4,g5,g6,g7,g8] using hΦ'
       ·have e7:(x.k==1)=false:=by simpa using g7
        by_cases g9:x.k=2
        ·have e9:(x.k==2)=true:=by rw[g9];rfl
         by_cases g10:x.r≥2
         ·simp only[iA,↓reduceIte,zA,reduceCtorEq,zE,zB,zC,zD,zF,l0,l1,l2,Nat.zero_add,y3,y8,y13,y18,y23,y28,y32,y38,y42,g1,g2,g3,g4,g5,g6,e7,e9,g10,decide_true,beq_self_eq_true]
          refine hR _ _ (hΨ1 _ _ ?_)
          simp only[iA,↓reduceIte,zA,reduceCtorEq,zE,zB,zC,zD,zF]
          simpa [g1,g2,g3,g4,g5,g6,g7,g9,g10] using hΦ'
         ·simp only[iA,↓reduceIte,zA,reduceCtorEq,zE,zB,zC,zD,zF,l0,l1,l2,Nat.zero_add,y3,y8,y13,y18,y23,y28,y32,y38,y42,g1,g2,g3,g4,g5,g6,e7,e9,g10,decide_true,decide_false,beq_self_eq_true]
          refine hR _ _ (hΨ1 _ _ ?_)
          simp only[iA,↓reduceIte,zA,reduceCtorEq,zE,zB,zC,zD,zF]
          simpa [g1,g2,g3,g4,g5,g6,g7,g9,g10] using hΦ'
        ·have e9:(x.k==2)=false:=by simpa using g9
         simp only[iA,↓reduceIte,zA,reduceCtorEq,zE,zB,zC,zD,zF,l0,l1,l2,Nat.zero_add,y3,y8,y13,y18,y23,y28,y32,y38,y42,g1,g2,g3,g4,g5,g6,e7,e9,decide_true]
         refine hR _ _ (hΨ1 _ _ ?_)
         simp only[iA,↓reduceIte,zA,reduceCtorEq,zE,zB,zC,zD,zF]
         simpa [g1,g2,g3,g4,g5,g6,g7,g9] using hΦ'
      ·simp only[iA,↓reduceIte,zA,reduceCtorEq,zE,zB,zC,zD,zF,l0,l1,l2,Nat.zero_add,y3,y8,y13,y18,y23,y28,y32,y38,y42,g1,g2,g3,g4,g5,g6,decide_true,decide_false]
       refine hR _ _ (hΨ1 _ _ ?_)
       simp only[iA,↓reduceIte,zA,reduceCtorEq,zE,zB,zC,zD,zF]
       simpa [g1,g2,g3,g4,g5,g6] using hΦ'
     ·simp only[iA,↓reduceIte,zA,reduceCtorEq,zE,zB,zC,zD,zF,l0,l1,l2,Nat.zero_add,y3,y8,y13,y18,y23,y28,y32,y38,y42,g1,g2,g3,g4,g5,decide_true,decide_false]
      refine hR _ _ (hΨ1 _ _ ?_)
      simp only[iA,↓reduceIte,zA,reduceCtorEq,zE,zB,zC,zD,zF]
      simpa [g1,g2,g3,g4,g5] using hΦ'
    ·simp only[iA,↓reduceIte,zA,reduceCtorEq,zE,zB,zC,zD,zF,l0,l1,l2,Nat.zero_add,y3,y8,y13,y18,y23,y28,y32,y38,y42,g1,g2,g3,g4,decide_true,decide_false]
     refine hR _ _ (hΨ1 _ _ ?_)
     simp only[iA,↓reduceIte,zA,reduceCtorEq,zE,zB,zC,zD,zF]
     simpa [g1,g2,g3,g4] using hΦ'
   ·simp only[iA,↓reduceIte,zA,reduceCtorEq,zE,zB,zC,zD,zF,l0,l1,l2,Nat.zero_add,y3,y8,y13,y18,y23,y28,y32,y38,y42,g1,g2,g3,decide_true,decide_false]
    refine hR _ _ (hΨ1 _ _ ?_)
    simp only[iA,↓reduceIte,zA,reduceCtorEq,zE,zB,zC,zD,zF]
    simpa [g1,g2,g3] using hΦ'
  ·simp only[iA,↓reduceIte,zA,reduceCtorEq,zE,zB,zC,zD,zF,l0,l1,l2,Nat.zero_add,y3,y8,y13,y18,y23,y28,y32,y38,y42,g1,g2,decide_true,decide_false]
   refine hR _ _ (hΨ1 _ _ ?_)
   simp only[iA,↓reduceIte,zA,reduceCtorEq,zE,zB,zC,zD,zF]
   simpa [g1,g2] using hΦ'
 ·simp only[iA,↓reduceIte,zA,reduceCtorEq,zE,zB,zC,zD,zF,l0,l1,l2,Nat.zero_add,y3,y8,y13,y18,y23,y28,y32,y38,y42,g1,decide_false]
  refine hR _ _ (hΨ1 _ _ ?_)
  simp only[iA,↓reduceIte,zA,reduceCtorEq,zE,zB,zC,zD,zF]
  simpa [g1] using hΦ'
theorem wX:type_of% (An @RX<|An @gV<|An @eC<|An @bF<|@fX):=An @RX<|An @gV<|An @eC<|An @bF<|@fX
theorem JN (hs:Ok s) (x:iV) (hΦ:∀ s',aC [] s s'→Φ (int x.words) s'):okF q X (KO kc) 170 [jL x] s Φ:=by
 refine aG rfl fn_170 rfl (rs:=[.tmp 2]) rfl (N:=15) rfl rfl ?_
 refine aA fun Ψ0 hΨ0 hΨ0'=>?_
 simp only[wX,↓reduceIte,zA,reduceCtorEq,zE,zB,zC,zD,zF]
 obtain⟨s1,e1,k1,c1,_⟩:=aT hs (L:=[int x.r,int x.d,int x.k]) (n:=3) (e:=44) rfl
 rw[e1]
 refine hΨ0 _ _ ?_
 have h3:=c1.aS (i:=0) (k:=3) (Nat.le_refl _)
 refine aA fun Ψ1 hΨ1 hΨ1'=>?_
 refine aA fun Ψ2 hΨ2 hΨ2'=>?_
 simp only[wX,↓reduceIte,zA,reduceCtorEq,zE,zB,zC,zD,zF,h3,List.drop_zero,List.take]
 refine aB ?_ (JM k1.ok x fun s2 k2=>?_)
 ·simp only[wX,↓reduceIte,zA,reduceCtorEq,zE,zB,zC,zD,zF]
 try simp only[wX,↓reduceIte,zA,reduceCtorEq,zE,zB,zC,zD,zF]
 refine hΨ2 _ _ ?_
 have c2:=c1.aF k2 (by simp)
 cases hv:x.valid with
 | false =>
  simp only[wX,↓reduceIte,zA,reduceCtorEq,zE,zB,zC,zD,zF]
  refine hΨ1' _ _ _ (by simp) ?_
  simp only[wX,↓reduceIte,zA,reduceCtorEq,zE,zB,zC,zD,zF]
  have:=hΦ _ (k1.trans k2)
  unfold iV.words at this
  rw[hv] at this
  exact this
 | true =>
  have hv':=iV.dX.1 hv
  simp only[wX,↓reduceIte,zA,reduceCtorEq,zE,zB,zC,zD,zF]
  refine hΨ1 _ _ ?_
  have l0:aI s2.look ⟨s.next,0,none⟩=some (int x.r):=c2.load rfl
  have l1:aI s2.look ⟨s.next,1,none⟩=some (int x.d):=c2.load rfl
  simp only[wX,↓reduceIte,zA,reduceCtorEq,zE,zB,zC,zD,zF,l0,l1,Nat.zero_add]
  rw[aR (n:=2+x.r) (by omega) (by omega),aR (n:=2+x.r+x.d) (by omega) (by omega),aR (n:=2+x.r+x.d+1) (by omega) (by omega),Int.tdiv_eq_ediv_of_nonneg (by omega),aR (n:=(2+x.r+x.d+1)/2) (by omega) (by omega),aR (by omega) (by omega)]
  have:=hΦ _ (k1.trans k2)
  unfold iV.words at this
  rw[hv,if_pos rfl,show x.r+x.d+3=2+x.r+x.d+1 by omega] at this
  exact this
theorem MH:type_of% (An @RX<|An @cE<|An @cY<|An @dO<|@bF):=An @RX<|An @cE<|An @cY<|An @dO<|@bF
theorem OE (hs:Ok s) (H:aP s h P) {a:Int} (h0:0≤a) (h1:a+1<64*P.N) (hΦ:∀ s',aC [] s s'→Φ (int (P.size a)) s'):okF q X (KO kc) 83 [ptr h,int a] s Φ:=by
 have iJ:=H.iJ
 have e1:IntKind.i64.wrap (a+1)=a+1:=aR (by omega) (by omega)
 have g1:0≤a+1:=by omega
 have g2:a+1<((64*P.N:Nat):Int):=by omega
 have l1:=H.lw (i:=(a+1).toNat) (by omega)
 refine aG rfl fn_83 rfl (rs:=[.tmp 4]) rfl (N:=15) rfl rfl ?_
 refine aA fun Ψ0 hΨ0 hΨ0'=>?_
 simp only[MH,↓reduceIte,zA,reduceCtorEq,zE,zB,zC,zD,zF]
 refine hΨ0 _ _ ?_
 refine aA fun Ψ1 hΨ1 hΨ1'=>?_
 simp only[MH,↓reduceIte,zA,reduceCtorEq,zE,zB,zC,zD,zF,H.l1,e1,g1,g2,and_self,aJ,Nat.zero_add,Nat.mul_one,l1]
 refine aB ?_ (uF hs (P.w (a+1).toNat) (H.wr _) fun s2 k2=>?_)
 ·simp only[MH,↓reduceIte,zA,reduceCtorEq,zE,zB,zC,zD,zF]
 try simp only[MH,↓reduceIte,zA,reduceCtorEq,zE,zB,zC,zD,zF]
 refine aB ?_ (JN k2.ok (qD (P.w (a+1).toNat)) fun s3 k3=>?_)
 ·simp only[MH,↓reduceIte,zA,reduceCtorEq,zE,zB,zC,zD,zF]
 try simp only[MH,↓reduceIte,zA,reduceCtorEq,zE,zB,zC,zD,zF]
 refine hΨ1 _ _ ?_
 simp only[MH,↓reduceIte,zA,reduceCtorEq,zE,zB,zC,zD,zF]
 exact hΦ _ (k2.trans k3)
end
open Go.Proofs
set_option maxRecDepth 100000
set_option maxHeartbeats 1000000
abbrev i64 (a:Int):Prop:=-9223372036854775808≤a∧a≤9223372036854775807
def PH.find (P:PH) (a:Int):Option Int:=if 0≤a∧a<64*P.N then
  (match pC P.S 1 (a/2+1).toNat with
  | some i=>if a≥2*i+P.size (2*i) then none else some (2*i)
  | none=>none) else none
theorem CB {L:Nat→Nat} {v:Int}:∀ {k i:Nat},pC L v k=some i→i<k∧(L i:Int)=v
 | k+1,i,h=>by
  rw[pC] at h
  split at h
  ·cases h;exact⟨by omega,by assumption⟩
  ·have:=CB h;exact⟨by omega,this.2⟩
section
variable {kc:Kc} {q:Bool} {s:St} {Φ:Value→St→Prop} {h:Nat} {P:PH}
theorem PI:type_of% (An @RX<|An @iO<|An @nD<|@mB):=An @RX<|An @iO<|An @nD<|@mB
theorem mR (H:aP s h P) (hΦ:Φ (int P.N) s):okF q X (KO kc) 17 [ptr h] s Φ:=by
 refine aG rfl fn_17 rfl (rs:=[.tmp 2]) rfl (N:=11) rfl rfl ?_
 refine aA fun Ψ0 hΨ0 hΨ0'=>?_
 simp only[PI,↓reduceIte,zA,reduceCtorEq,zE,zB,zC,zD,zF]
 refine hΨ0 _ _ ?_
 refine aA fun Ψ1 hΨ1 hΨ1'=>?_
 refine aA fun Ψ2 hΨ2 hΨ2'=>?_
 simp only[PI,↓reduceIte,zA,reduceCtorEq,zE,zB,zC,zD,zF]
 refine aB ?_ (jT H ?_)
 ·simp only[PI,↓reduceIte,zA,reduceCtorEq,zE,zB,zC,zD,zF]
 try simp only[PI,↓reduceIte,zA,reduceCtorEq,zE,zB,zC,zD,zF]
 refine hΨ2 _ _ ?_
 simp only[PI,↓reduceIte,zA,reduceCtorEq,zE,zB,zC,zD,zF]
 refine hΨ1 _ _ ?_
 simp only[PI,↓reduceIte,zA,reduceCtorEq,zE,zB,zC,zD,zF,H.l0]
 exact hΦ
theorem pW:type_of% (An @RX<|An @iO<|An @nD<|An @sU<|An @tI<|@bF):=An @RX<|An @iO<|An @nD<|An @sU<|An @tI<|@bF
theorem ZO (H:aP s h P) (b:Int) (hΦ:Φ (int (if 0≤b∧b<P.N then P.bs b.toNat else -1)) s):okF q X (KO kc) 116 [ptr h,int b] s Φ:=by
 refine aG rfl fn_116 rfl (rs:=[.tmp 4]) rfl (N:=21) rfl rfl ?_
 refine aA fun Ψ0 hΨ0 hΨ0'=>?_
 simp only[pW,↓reduceIte,zA,reduceCtorEq,zE,zB,zC,zD,zF]
 refine hΨ0 _ _ ?_
 refine aA fun Ψ1 hΨ1 hΨ1'=>?_
 refine aA fun Ψ2 hΨ2 hΨ2'=>?_
 refine aH [(2,7)] (by kernel_rfl) fun O hO ΨR hR=>?_
 have y2:∀ a,aE O a 2=aM (a.aD 7):=hO (2,7) (by simp)
 by_cases h0:b<0
 ·simp only[pW,↓reduceIte,zA,reduceCtorEq,zE,zB,zC,zD,zF,y2,h0,decide_true]
  refine hR _ _ (hΨ2 _ _ ?_)
  simp only[pW,↓reduceIte,zA,reduceCtorEq,zE,zB,zC,zD,zF]
  refine hΨ1' _ _ _ (by simp) ?_
  simp only[pW,↓reduceIte,zA,reduceCtorEq,zE,zB,zC,zD,zF]
  rw[if_neg (by omega)] at hΦ
  exact hΦ
 ·simp only[pW,↓reduceIte,zA,reduceCtorEq,zE,zB,zC,zD,zF,y2,h0,decide_false]
  refine aB ?_ (mR H ?_)
  ·simp only[pW,↓reduceIte,zA,reduceCtorEq,zE,zB,zC,zD,zF]
  by_cases h1:b≥P.N
  ·simp only[pW,↓reduceIte,zA,reduceCtorEq,zE,zB,zC,zD,zF,y2,h1,decide_true]
   refine hR _ _ (hΨ2 _ _ ?_)
   simp only[pW,↓reduceIte,zA,reduceCtorEq,zE,zB,zC,zD,zF]
   refine hΨ1' _ _ _ (by simp) ?_
   simp only[pW,↓reduceIte,zA,reduceCtorEq,zE,zB,zC,zD,zF]
   rw[if_neg (by omega)] at hΦ
   exact hΦ
  ·simp only[pW,↓reduceIte,zA,reduceCtorEq,zE,zB,zC,zD,zF,y2,h1,decide_false]
   refine hR _ _ (hΨ2 _ _ ?_)
   simp only[pW,↓reduceIte,zA,reduceCtorEq,zE,zB,zC,zD,zF]
   refine hΨ1 _ _ ?_
   have g1:0≤b:=by omega
   have g2:b<(P.N:Int):=by omega
   have l:=H.lb (i:=b.toNat) (by omega)
   simp only[pW,↓reduceIte,zA,reduceCtorEq,zE,zB,zC,zD,zF,H.l0,g1,g2,and_self,aJ,Nat.zero_add,l]
   rw[if_pos ⟨g1,g2⟩] at hΦ
   exact hΦ
theorem MA:type_of% (An @RC<|An @RO<|An @RD<|An @RV<|An @RB<|@RG):=An @RC<|An @RO<|An @RD<|An @RV<|An @RB<|@RG
theorem ZP (b:Int) (hΦ:Φ (.bool (decide (0≤b∧b<8))) s):okF q X (KO kc) 225 [int b] s Φ:=by
 refine aG rfl fn_225 rfl (rs:=[.tmp 2]) rfl (N:=9) rfl rfl ?_
 refine aA fun Ψ0 hΨ0 hΨ0'=>?_
 simp only[MA,↓reduceIte,zA,reduceCtorEq,zE,zB,zC,zD,zF]
 refine hΨ0 _ _ ?_
 refine aA fun Ψ1 hΨ1 hΨ1'=>?_
 refine aH [(2,5)] (by kernel_rfl) fun O hO ΨR hR=>?_
 have y2:∀ a,aE O a 2=aM (a.aD 5):=hO (2,5) (by simp)
 by_cases h0:b≥0
 ·simp only[MA,↓reduceIte,zA,reduceCtorEq,zE,zB,zC,zD,zF,y2,h0,decide_true]
  refine hR _ _ (hΨ1 _ _ ?_)
  simp only[MA,↓reduceIte,zA,reduceCtorEq,zE,zB,zC,zD,zF]
  rw[show decide (0≤b∧b<8)=decide (b<8) from by simp[h0]] at hΦ
  exact hΦ
 ·simp only[MA,↓reduceIte,zA,reduceCtorEq,zE,zB,zC,zD,zF,y2,h0,decide_false]
  refine hR _ _ (hΨ1 _ _ ?_)
  simp only[MA,↓reduceIte,zA,reduceCtorEq,zE,zB,zC,zD,zF]
  rw[decide_eq_false (by omega)] at hΦ
  exact hΦ
theorem AU:type_of% (An @RX<|An @iO<|An @nD<|@mB):=An @RX<|An @iO<|An @nD<|@mB
theorem ZQ (H:aP s h P) (b:Int) (hΦ:Φ (.bool (decide (1≤b∧b<P.N))) s):okF q X (KO kc) 224 [ptr h,int b] s Φ:=by
 refine aG rfl fn_224 rfl (rs:=[.tmp 4]) rfl (N:=20) rfl rfl ?_
 refine aA fun Ψ0 hΨ0 hΨ0'=>?_
 simp only[AU,↓reduceIte,zA,reduceCtorEq,zE,zB,zC,zD,zF]
 refine hΨ0 _ _ ?_
 refine aA fun Ψ1 hΨ1 hΨ1'=>?_
 refine aH [(2,7),(6,11)] (by kernel_rfl) fun O hO ΨR hR=>?_
 have y2:∀ a,aE O a 2=aM (a.aD 7):=hO (2,7) (by simp)
 have y6:∀ a,aE O a 6=aM (a.aD 11):=hO (6,11) (by simp)
 simp only[AU,↓reduceIte,zA,reduceCtorEq,zE,zB,zC,zD,zF]
 refine aB ?_ (jT H ?_)
 ·simp only[AU,↓reduceIte,zA,reduceCtorEq,zE,zB,zC,zD,zF]
 by_cases h0:b≥1
 ·simp only[AU,↓reduceIte,zA,reduceCtorEq,zE,zB,zC,zD,zF,y2,y6,h0,decide_true,H.l0]
  refine hR _ _ (hΨ1 _ _ ?_)
  simp only[AU,↓reduceIte,zA,reduceCtorEq,zE,zB,zC,zD,zF]
  rw[show decide (1≤b∧b<(P.N:Int))=decide (b<(P.N:Int)) from by simp[h0]] at hΦ
  exact hΦ
 ·simp only[AU,↓reduceIte,zA,reduceCtorEq,zE,zB,zC,zD,zF,y2,y6,h0,decide_false]
  refine hR _ _ (hΨ1 _ _ ?_)
  simp only[AU,↓reduceIte,zA,reduceCtorEq,zE,zB,zC,zD,zF]
  rw[decide_eq_false (by omega)] at hΦ
  exact hΦ
def MX (o:Option Int):Value:=match o with
 | some a=>.tuple #[int a,int 0]
 | none=>.tuple #[int 0,int 4]
theorem iW:type_of% (An @RX<|An @cE<|An @cY<|An @cO<|An @jQ<|@qC):=An @RX<|An @cE<|An @cY<|An @cO<|An @jQ<|@qC
theorem xX (hs:Ok s) (H:aP s h P) (a:Int) (hΦ:∀ s',aC [] s s'→Φ (MX (P.find a)) s'):okF q X (KO kc) 18 [ptr h,int a] s Φ:=by
 have iJ:=H.iJ
 unfold PH.find at hΦ
 refine aG rfl fn_18 rfl (rs:=[.tmp 4,.tmp 5]) rfl (N:=48) rfl rfl ?_
 refine aA fun Ψ0 hΨ0 hΨ0'=>?_
 simp only[iW,↓reduceIte,zA,reduceCtorEq,zE,zB,zC,zD,zF]
 refine hΨ0 _ _ ?_
 refine aA fun Ψ1 hΨ1 hΨ1'=>?_
 refine aA fun Ψ2 hΨ2 hΨ2'=>?_
 simp only[iW,↓reduceIte,zA,reduceCtorEq,zE,zB,zC,zD,zF]
 refine aB ?_ (jT H ?_)
 ·simp only[iW,↓reduceIte,zA,reduceCtorEq,zE,zB,zC,zD,zF]
 try simp only[iW,↓reduceIte,zA,reduceCtorEq,zE,zB,zC,zD,zF]
 refine hΨ2 _ _ ?_
 simp only[iW,↓reduceIte,zA,reduceCtorEq,zE,zB,zC,zD,zF]
 refine hΨ1 _ _ ?_
 refine aA fun Ψ3 hΨ3 hΨ3'=>?_
 refine aA fun Ψ4 hΨ4 hΨ4'=>?_
 refine aH [(2,13)] (by kernel_rfl) fun O hO ΨR hR=>?_
 have y2:∀ a,aE O a 2=aM (a.aD 13):=hO (2,13) (by simp)
 by_cases h0:a<0
 ·simp only[iW,↓reduceIte,zA,reduceCtorEq,zE,zB,zC,zD,zF,y2,h0,decide_true]
  refine hR _ _ (hΨ4 _ _ ?_)
  simp only[iW,↓reduceIte,zA,reduceCtorEq,zE,zB,zC,zD,zF]
  refine hΨ3' _ _ _ (by simp) ?_
  simp only[iW,↓reduceIte,zA,reduceCtorEq,zE,zB,zC,zD,zF]
  rw[if_neg (by omega)] at hΦ
  exact hΦ _ (.refl hs)
 by_cases h1:a≥((64*P.N:Nat):Int)
 ·simp only[iW,↓reduceIte,zA,reduceCtorEq,zE,zB,zC,zD,zF,y2,h0,decide_false,H.l1,h1,decide_true]
  refine hR _ _ (hΨ4 _ _ ?_)
  simp only[iW,↓reduceIte,zA,reduceCtorEq,zE,zB,zC,zD,zF]
  refine hΨ3' _ _ _ (by simp) ?_
  simp only[iW,↓reduceIte,zA,reduceCtorEq,zE,zB,zC,zD,zF]
  rw[if_neg (by omega)] at hΦ
  exact hΦ _ (.refl hs)
 simp only[iW,↓reduceIte,zA,reduceCtorEq,zE,zB,zC,zD,zF,y2,h0,decide_false,H.l1,h1]
 refine hR _ _ (hΨ4 _ _ ?_)
 simp only[iW,↓reduceIte,zA,reduceCtorEq,zE,zB,zC,zD,zF]
 refine hΨ3 _ _ ?_
 have e1:IntKind.i64.wrap (a.tdiv 2)=a/2:=by rw[Int.tdiv_eq_ediv_of_nonneg (by omega),aR (by omega) (by omega)]
 have e2:IntKind.i64.wrap (a/2+1)=a/2+1:=aR (by omega) (by omega)
 rw[if_pos ⟨by omega,by omega⟩] at hΦ
 refine aA fun Ψ5 hΨ5 hΨ5'=>?_
 simp only[iW,↓reduceIte,zA,reduceCtorEq,zE,zB,zC,zD,zF,H.l2,e1,e2]
 refine aB ?_ (qk hs H.ts (a/2+1) 1 fun s2 k2=>?_)
 ·simp only[iW,↓reduceIte,zA,reduceCtorEq,zE,zB,zC,zD,zF]
 rw[show (min (max (a/2+1) 0) ((32*P.N:Nat):Int)).toNat=(a/2+1).toNat by omega]
 have H2:=H.aN k2
 cases hl:pC P.S 1 (a/2+1).toNat with
 | none =>
  rw[hl] at hΦ
  simp only[iW,↓reduceIte,zA,reduceCtorEq,zE,zB,zC,zD,zF]
  refine hΨ5 _ _ ?_
  refine aA fun Ψ6 hΨ6 hΨ6'=>?_
  refine aA fun Ψ7 hΨ7 hΨ7'=>?_
  refine aH [(2,35)] (by kernel_rfl) fun O hO ΨR hR=>?_
  have y2:∀ a,aE O a 2=aM (a.aD 35):=hO (2,35) (by simp)
  simp only[iW,↓reduceIte,zA,reduceCtorEq,zE,zB,zC,zD,zF,y2]
  refine hR _ _ (hΨ7 _ _ ?_)
  simp only[iW,↓reduceIte,zA,reduceCtorEq,zE,zB,zC,zD,zF]
  refine hΨ6' _ _ _ (by simp) ?_
  simp only[iW,↓reduceIte,zA,reduceCtorEq,zE,zB,zC,zD,zF]
  exact hΦ _ k2
 | some i =>
  have hi:=(CB hl).1
  rw[hl] at hΦ
  simp only at hΦ
  have hw:=iV.nU (P.shape (2*i))
  unfold PH.size at hΦ
  have e3:IntKind.i64.wrap (2*(i:Int))=2*i:=aR (by omega) (by omega)
  simp only[iW,↓reduceIte,zA,reduceCtorEq,zE,zB,zC,zD,zF]
  refine hΨ5 _ _ ?_
  refine aA fun Ψ6 hΨ6 hΨ6'=>?_
  refine aA fun Ψ7 hΨ7 hΨ7'=>?_
  refine aH [(2,35)] (by kernel_rfl) fun O hO ΨR hR=>?_
  have y2:∀ a,aE O a 2=aM (a.aD 35):=hO (2,35) (by simp)
  simp only[iW,↓reduceIte,zA,reduceCtorEq,zE,zB,zC,zD,zF,y2,e3]
  refine aB ?_ (OE k2.ok H2 (a:=2*i) (by omega) (by omega) fun s3 k3=>?_)
  ·simp only[iW,↓reduceIte,zA,reduceCtorEq,zE,zB,zC,zD,zF]
  have e4:IntKind.i64.wrap (2*(i:Int)+P.size (2*i))=2*i+P.size (2*i):=by unfold PH.size;exact aR (by omega) (by omega)
  by_cases h2:a≥2*(i:Int)+P.size (2*i)
  ·simp only[iW,↓reduceIte,zA,reduceCtorEq,zE,zB,zC,zD,zF,y2,e4,h2,decide_true]
   refine hR _ _ (hΨ7 _ _ ?_)
   simp only[iW,↓reduceIte,zA,reduceCtorEq,zE,zB,zC,zD,zF]
   refine hΨ6' _ _ _ (by simp) ?_
   simp only[iW,↓reduceIte,zA,reduceCtorEq,zE,zB,zC,zD,zF]
   unfold PH.size at h2
   rw[if_pos h2] at hΦ
   exact hΦ _ (k2.trans k3)
  ·simp only[iW,↓reduceIte,zA,reduceCtorEq,zE,zB,zC,zD,zF,y2,e4,h2,decide_false]
   refine hR _ _ (hΨ7 _ _ ?_)
   simp only[iW,↓reduceIte,zA,reduceCtorEq,zE,zB,zC,zD,zF]
   refine hΨ6 _ _ ?_
   simp only[iW,↓reduceIte,zA,reduceCtorEq,zE,zB,zC,zD,zF,e3]
   unfold PH.size at h2
   rw[if_neg h2] at hΦ
   exact hΦ _ (k2.trans k3)
theorem rD:∀ {es:List MapEntry} {M:List (Int×Value)} {k:Int} {i:Nat},es.map (fun e=>(e.key,e.val))=M.map (fun p=>(int p.1,p.2))→M.lookup k=none→kH (int k) es i=some none
 | [],M,k,i,h,hl=>rfl
 | e::es,[],k,i,h,hl=>by simp at h
 | e::es,(x,v)::M,k,i,h,hl=>by
  simp only[List.map_cons,List.cons.injEq,Prod.mk.injEq] at h
  obtain⟨⟨h1,h2⟩,h3⟩:=h
  have hne:(k==x)=false:=by
   cases hb:(k==x) with
   | false=>rfl
   | true=>rw[List.lookup_cons,hb] at hl;cases hl
  rw[List.lookup_cons,hne] at hl
  rw[kH,h1]
  simp only[vH,if_true,hne]
  exact rD h3 hl
theorem AD:∀ {es:List MapEntry} {M:List (Int×Value)} {k:Int} {i:Nat} {v:Value},es.map (fun e=>(e.key,e.val))=M.map (fun p=>(int p.1,p.2))→M.lookup k=some v→∃ j,kH (int k) es i=some (some (i+j,v))∧M[j]?=some (k,v)∧∀ j' y,j'<j→M[j']?=some y→y.1≠k
 | [],M,k,i,v,h,hl=>by
  have:M=[]:=by simpa using h.symm
  subst this;cases hl
 | e::es,[],k,i,v,h,hl=>by simp at h
 | e::es,(x,u)::M,k,i,v,h,hl=>by
  simp only[List.map_cons,List.cons.injEq,Prod.mk.injEq] at h
  obtain⟨⟨h1,h2⟩,h3⟩:=h
  rw[kH,h1]
  simp only[vH,if_true]
  cases hb:(k==x) with
  | true =>
   rw[List.lookup_cons,hb] at hl
   cases hl
   have hk:k=x:=by simpa using hb
   subst hk
   exact⟨0,by simp[h2],rfl,fun j' y hj=>absurd hj (Nat.not_lt_zero _)⟩
  | false =>
   rw[List.lookup_cons,hb] at hl
   obtain⟨j,hj,hM,hn⟩:=AD (i:=i+1) h3 hl
   refine⟨j+1,by simp only[hj];congr 3;omega,hM,fun j' y hj' hy=>?_⟩
   cases j' with
   | zero=>cases hy;simpa using fun e=>by simp[e] at hb
   | succ j'=>exact hn j' y (by omega) hy
theorem JY {M:List (Int×Int)} {k:Int}:(M.map fun p=>(p.1,int p.2)).lookup k=(M.lookup k).map int:=by
 induction M with
 | nil=>rfl
 | cons p M ih =>
  rcases p with ⟨x,y⟩
  rw[List.map_cons,List.lookup_cons,List.lookup_cons,ih]
  cases (k==x) <;> rfl
theorem fW.find {s:St} {b:Nat} {M:List (Int×Value)} (h:fW s b M) (k:Int):∃ es cM,mapOf s.look b=some (es,cM)∧((M.lookup k=none∧kH (int k) es 0=some none)∨∃ v i,M.lookup k=some v∧kH (int k) es 0=some (some (i,v))):=by
 obtain⟨es,cM,dF,h1,h2,_⟩:=h
 refine⟨es,cM,by simp only[mapOf,St.look,h1],?_⟩
 cases hl:M.lookup k with
 | none=>exact .inl ⟨rfl,rD h2 hl⟩
 | some v =>
  obtain⟨j,hj,_⟩:=AD (i:=0) h2 hl
  exact .inr ⟨v,_,rfl,hj⟩
theorem vA:type_of% (An @RX<|An @rC<|An @AL<|@xb):=An @RX<|An @rC<|An @AL<|@xb
theorem heap_At (H:aP s h P) (id:Int) (hΦ:Φ (MX (P.M.lookup id)) s):okF q X (KO kc) 164 [ptr h,int id] s Φ:=by
 refine aG rfl fn_164 rfl (rs:=[.tmp 4,.tmp 5]) rfl (N:=23) rfl rfl ?_
 refine aA fun Ψ0 hΨ0 hΨ0'=>?_
 simp only[vA,↓reduceIte,zA,reduceCtorEq,zE,zB,zC,zD,zF]
 refine hΨ0 _ _ ?_
 refine aA fun Ψ1 hΨ1 hΨ1'=>?_
 refine aA fun Ψ2 hΨ2 hΨ2'=>?_
 simp only[vA,↓reduceIte,zA,reduceCtorEq,zE,zB,zC,zD,zF]
 refine aB ?_ (jT H ?_)
 ·simp only[vA,↓reduceIte,zA,reduceCtorEq,zE,zB,zC,zD,zF]
 try simp only[vA,↓reduceIte,zA,reduceCtorEq,zE,zB,zC,zD,zF]
 refine hΨ2 _ _ ?_
 simp only[vA,↓reduceIte,zA,reduceCtorEq,zE,zB,zC,zD,zF]
 refine hΨ1 _ _ ?_
 refine aA fun Ψ3 hΨ3 hΨ3'=>?_
 obtain⟨es,cM,hm,hf⟩:=H.mp.find id
 rw[JY] at hf
 rcases hf with ⟨h1,h2⟩ | ⟨v,i,h1,h2⟩
 ·have h1':P.M.lookup id=none:=by
   cases hl:P.M.lookup id with
   | none=>rfl
   | some v=>rw[hl] at h1;cases h1
  rw[h1'] at hΦ
  simp only[vA,↓reduceIte,zA,reduceCtorEq,zE,zB,zC,zD,zF,H.l4,hm,h2]
  refine hΨ3 _ _ ?_
  simp only[vA,↓reduceIte,zA,reduceCtorEq,zE,zB,zC,zD,zF]
  exact hΦ
 ·obtain⟨y,hy,rfl⟩:∃ y,P.M.lookup id=some y∧v=int y:=by
   cases hl:P.M.lookup id with
   | none=>rw[hl] at h1;cases h1
   | some y=>rw[hl] at h1;cases h1;exact⟨y,rfl,rfl⟩
  rw[hy] at hΦ
  simp only[vA,↓reduceIte,zA,reduceCtorEq,zE,zB,zC,zD,zF,H.l4,hm,h2]
  refine hΨ3 _ _ ?_
  simp only[vA,↓reduceIte,zA,reduceCtorEq,zE,zB,zC,zD,zF]
  exact hΦ
theorem DE:type_of% (An @RX<|An @cE<|An @cY<|An @dO<|@bF):=An @RX<|An @cE<|An @cY<|An @dO<|@bF
theorem ZL (hs:Ok s) (H:aP s h P) (a:Int) (ha:i64 a) (hΦ:∀ s',aC [] s s'→Φ (if P.has a=true then .tuple #[int (P.w a.toNat),int 0] else .tuple #[int 0,int 4]) s'):okF q X (KO kc) 38 [ptr h,int a] s Φ:=by
 refine aG rfl fn_38 rfl (rs:=[.tmp 4,.tmp 5]) rfl (N:=20) rfl rfl ?_
 refine aA fun Ψ0 hΨ0 hΨ0'=>?_
 simp only[DE,↓reduceIte,zA,reduceCtorEq,zE,zB,zC,zD,zF]
 refine hΨ0 _ _ ?_
 refine aA fun Ψ1 hΨ1 hΨ1'=>?_
 refine aA fun Ψ2 hΨ2 hΨ2'=>?_
 simp only[DE,↓reduceIte,zA,reduceCtorEq,zE,zB,zC,zD,zF]
 refine aB ?_ (pA hs H a ha fun s2 k2=>?_)
 ·simp only[DE,↓reduceIte,zA,reduceCtorEq,zE,zB,zC,zD,zF]
 have H2:=H.aN k2
 cases hh:P.has a with
 | false =>
  rw[hh] at hΦ
  simp only[DE,↓reduceIte,zA,reduceCtorEq,zE,zB,zC,zD,zF]
  refine hΨ2 _ _ ?_
  simp only[DE,↓reduceIte,zA,reduceCtorEq,zE,zB,zC,zD,zF]
  refine hΨ1' _ _ _ (by simp) ?_
  simp only[DE,↓reduceIte,zA,reduceCtorEq,zE,zB,zC,zD,zF]
  exact hΦ _ k2
 | true =>
  have hb:=PH.dT.1 hh
  rw[hh] at hΦ
  have g1:0≤a:=hb.1
  have g2:a<((64*P.N:Nat):Int):=by omega
  have l:=H2.lw (i:=a.toNat) (by omega)
  simp only[DE,↓reduceIte,zA,reduceCtorEq,zE,zB,zC,zD,zF]
  refine hΨ2 _ _ ?_
  simp only[DE,↓reduceIte,zA,reduceCtorEq,zE,zB,zC,zD,zF]
  refine hΨ1 _ _ ?_
  simp only[DE,↓reduceIte,zA,reduceCtorEq,zE,zB,zC,zD,zF,H2.l1,g1,g2,and_self,aJ,Nat.zero_add,Nat.mul_one,l]
  exact hΦ _ k2
theorem vN:type_of% (An @RX<|An @kA<|An @QE<|An @kI<|An @cE<|An @cY<|An @dO<|An @bF<|@gV):=An @RX<|An @kA<|An @QE<|An @kI<|An @cE<|An @cY<|An @dO<|An @bF<|@gV
theorem ZN (hs:Ok s) (H:aP s h P) (a:Int) (ha:i64 a) (hΦ:∀ s',aC [] s s'→Φ (if P.has a=true then .tuple #[jL (P.shape a),int 0] else .tuple #[jL ⟨0,0,0⟩,int 4]) s'):okF q X (KO kc) 13 [ptr h,int a] s Φ:=by
 refine aG rfl fn_13 rfl (rs:=[.cell 4 44,.tmp 5]) rfl (N:=23) rfl rfl ?_
 refine aA fun Ψ0 hΨ0 hΨ0'=>?_
 simp only[vN,↓reduceIte,zA,reduceCtorEq,zE,zB,zC,zD,zF]
 obtain⟨s1,e1,k1,c1,_⟩:=aT hs (L:=[int 0,int 0,int 0]) (n:=3) (e:=44) rfl
 rw[e1]
 refine hΨ0 _ _ ?_
 refine aA fun Ψ1 hΨ1 hΨ1'=>?_
 refine aA fun Ψ2 hΨ2 hΨ2'=>?_
 simp only[vN,↓reduceIte,zA,reduceCtorEq,zE,zB,zC,zD,zF]
 refine aB ?_ (pA k1.ok (H.aN k1) a ha fun s2 k2=>?_)
 ·simp only[vN,↓reduceIte,zA,reduceCtorEq,zE,zB,zC,zD,zF]
 have k12:=k1.trans k2
 have H2:=H.aN k12
 have c2:=c1.aF k2 (by simp)
 cases hh:P.has a with
 | false =>
  rw[hh] at hΦ
  obtain⟨s3,h3,c3,k3⟩:=c2.storeAll k2.ok (vs:=[int 0,int 0,int 0]) rfl rfl
  have k4:aC [] s s3:=k12.step k3 fun g hg=>.inr (by rw[List.mem_singleton.1 hg];exact hs.fresh _ (Nat.le_refl _))
  have l3:=c3.aS (i:=0) (k:=3) (Nat.le_refl _)
  simp only[vN,↓reduceIte,zA,reduceCtorEq,zE,zB,zC,zD,zF]
  refine hΨ2 _ _ ?_
  simp only[vN,↓reduceIte,zA,reduceCtorEq,zE,zB,zC,zD,zF,h3]
  refine hΨ1' _ _ _ (by simp) ?_
  simp only[vN,↓reduceIte,zA,reduceCtorEq,zE,zB,zC,zD,zF,l3,List.drop_zero,List.take]
  exact hΦ _ k4
 | true =>
  have hb:=PH.dT.1 hh
  rw[hh] at hΦ
  have iJ:=H.iJ
  have e1:IntKind.i64.wrap (a+1)=a+1:=aR (by omega) (by omega)
  have g1:0≤a+1:=by omega
  have g2:a+1<((64*P.N:Nat):Int):=by omega
  have l:=H2.lw (i:=(a+1).toNat) (by omega)
  simp only[vN,↓reduceIte,zA,reduceCtorEq,zE,zB,zC,zD,zF]
  refine hΨ2 _ _ ?_
  simp only[vN,↓reduceIte,zA,reduceCtorEq,zE,zB,zC,zD,zF]
  refine hΨ1 _ _ ?_
  refine aA fun Ψ3 hΨ3 hΨ3'=>?_
  simp only[vN,↓reduceIte,zA,reduceCtorEq,zE,zB,zC,zD,zF,H2.l1,e1,g1,g2,and_self,aJ,Nat.zero_add,Nat.mul_one,l]
  refine aB ?_ (uF k2.ok (P.w (a+1).toNat) (H.wr _) fun s3 k3=>?_)
  ·simp only[vN,↓reduceIte,zA,reduceCtorEq,zE,zB,zC,zD,zF]
  have c3:=c2.aF k3 (by simp)
  obtain⟨s4,h4,c4,k4⟩:=c3.storeAll k3.ok (vs:=[int (P.shape a).r,int (P.shape a).d,int (P.shape a).k]) rfl rfl
  have k5:aC [] s s4:=(k12.trans k3).step k4 fun g hg=>.inr (by rw[List.mem_singleton.1 hg];exact hs.fresh _ (Nat.le_refl _))
  have l4:=c4.aS (i:=0) (k:=3) (Nat.le_refl _)
  unfold PH.shape at h4
  simp only[vN,↓reduceIte,zA,reduceCtorEq,zE,zB,zC,zD,zF,h4]
  refine hΨ3 _ _ ?_
  simp only[vN,↓reduceIte,zA,reduceCtorEq,zE,zB,zC,zD,zF,l4,List.drop_zero,List.take]
  exact hΦ _ k5
end
end Go.Dust
