/- VerifyMarks walked in D, function by function, and its plain law (C4 C5 C6). -/
import Derived.Test.YtaoiejcaopgjcaaGreatL
set_option linter.unusedVariables false
set_option linter.unusedSimpArgs false
namespace Go.Dust
open Go.Proofs
set_option maxRecDepth 100000
set_option maxHeartbeats 4000000
def row (n:Nat) (f:Nat→Value):List Value:=(List.range n).map f
theorem iZ (n:Nat) (f:Nat→Value):(row n f).length=n:=by simp[row]
theorem lM {n i:Nat} (f:Nat→Value) (h:i<n):(row n f)[i]?=some (f i):=by
 unfold row;rw[List.getElem?_map,List.getElem?_range h];rfl
theorem aGe {n i:Nat} (f:Nat→Value) (h:n≤i):(row n f)[i]?=none:=List.getElem?_eq_none (by rw[iZ];exact h)
theorem KZ {n:Nat} {f:Nat→Value} {L:List Value} (hl:L.length=n) (h:∀ i,i<n→L[i]?=some (f i)):L=row n f:=by
 apply List.ext_getElem?;intro i;by_cases hi:i<n
 ·rw[h i hi,lM f hi]
 ·rw[aGe f (by omega),List.getElem?_eq_none (by omega)]
theorem LB {n i:Nat} {f:Nat→Value} {v:Value} (h:i<n):(row n f).set i v=row n fun j=>if j=i then v else f j:=by
 refine KZ (by rw[List.length_set,iZ]) fun j hj=>?_;rw[List.getElem?_set,iZ];by_cases e:i=j
 ·subst e;rw[if_pos rfl,if_pos h,if_pos rfl]
 ·rw[if_neg e,if_neg (fun h=>e h.symm),lM f hj]
def ZF (es:List MapEntry) (aO:Nat):Prop:=(∀ e∈es,e.born<aO)∧(es.map fun e=>e.born).Nodup
def iL (s:St) (b:Nat) (M:List (Int×Value)):Prop:=∃ es aO aT,s.heap.get b=some (.map es aO aT)∧(es.map (fun e=>(e.key,e.val))=M.map (fun p=>(int p.1,p.2))∧ZF es aO)
theorem wj {es:List MapEntry} {c:Nat} {x y:Value} (h:ZF es c):ZF (es++[⟨x,y,c⟩]) (c+1):=by
 obtain⟨h,hn⟩:=h;refine⟨?_,by
  rw[List.map_append,List.nodup_append];refine⟨hn,by simp,fun a ha b hb=>?_⟩;obtain⟨e,he,rfl⟩:=List.mem_map.1 ha;simp only[List.map_cons,List.map_nil,List.mem_singleton] at hb;subst hb;exact Nat.ne_of_lt (h e he)⟩
 intro e he;rcases List.mem_append.1 he with h1 | h1
 ·have:=h e h1;omega
 ·cases List.mem_singleton.1 h1;exact Nat.lt_succ_self _
theorem iL.aD {F:List Nat} {s s':St} {b:Nat} {M:List (Int×Value)} (h:iL s b M) (k:aC F s s') (hb:b∉F):iL s' b M:=by
 obtain⟨es,aO,aT,h1,h2⟩:=h;exact⟨es,aO,aT,k.cW _ _ h1 hb,h2⟩
theorem iL.same {F:List Nat} {s s':St} {b:Nat} {M:List (Int×Value)} (h:iL s b M) (hs:Ok s) (k:aC F s s') (hb:b∉F):eT s s' b=true:=by
 obtain⟨es,aO,aT,h1,h2⟩:=h;exact YD h1 rfl hs k hb
theorem iL.lt {s:St} {b:Nat} {M:List (Int×Value)} (h:iL s b M) (hs:Ok s):b<s.next:=by
 obtain⟨es,aO,aT,h1,h2⟩:=h;exact hs.lt h1
structure bS (s:St) (h:Nat) (P:PH):Prop where
 c:Obj s h [.slice (some ⟨P.nb,0,none⟩) P.N P.N,.slice (some ⟨P.nw,0,none⟩) (64*P.N) (64*P.N),ptr P.st,ptr P.pt,.map (some P.mp),.map (some P.mf),int P.born]
 cb:Obj s P.nb (row (2*P.N) fun i=>int (if i%2=0 then P.bs (i/2) else P.bp (i/2)))
 cw:Obj s P.nw (row (64*P.N) fun i=>int (P.w i))
 ts:eZ s P.st P.su (32*P.N) 1 P.S
 tp:eZ s P.pt P.pu (32*P.N) 1 P.Q
 mp:iL s P.mp (P.M.map fun p=>(p.1,int p.2))
 mf:iL s P.mf []
 nd:[h,P.nb,P.nw,P.st,P.su,P.pt,P.pu,P.mp,P.mf].Nodup
 n2:2≤P.N
 bW:P.N≤64
 wr:∀ i,-9223372036854775808≤P.w i∧P.w i≤9223372036854775807
def PH.bF (h:Nat) (P:PH):List Nat:=[h,P.nb,P.nw,P.st,P.su,P.pt,P.pu,P.mp,P.mf]
namespace bS
variable {F:List Nat} {s s':St} {h:Nat} {P:PH}
theorem aD (H:bS s h P) (k:aC F s s') (hF:∀ x∈P.bF h,x∉F):bS s' h P:=by
 obtain⟨c,cb,cw,ts,tp,mp,mf,nd,n2,bW,wr⟩:=H;have f:=fun x hx=>hF x hx;simp only[PH.bF,List.mem_cons,List.not_mem_nil,or_false] at f;exact⟨c.aD k (f _ (by simp)),cb.aD k (f _ (by simp)),cw.aD k (f _ (by simp)),ts.aD k (f _ (by simp)) (f _ (by simp)),tp.aD k (f _ (by simp)) (f _ (by simp)),mp.aD k (f _ (by simp)),mf.aD k (f _ (by simp)),nd,n2,bW,wr⟩
theorem aL (H:bS s h P) (k:aC [] s s'):bS s' h P:=H.aD k fun _ _=>by simp
theorem l0 (H:bS s h P):aI s.look ⟨h,0,none⟩=some (.slice (some ⟨P.nb,0,none⟩) P.N P.N):=H.c.load rfl
theorem l1 (H:bS s h P):aI s.look ⟨h,1,none⟩=some (.slice (some ⟨P.nw,0,none⟩) (64*P.N) (64*P.N)):=H.c.load rfl
theorem l2 (H:bS s h P):aI s.look ⟨h,2,none⟩=some (ptr P.st):=H.c.load rfl
theorem l3 (H:bS s h P):aI s.look ⟨h,3,none⟩=some (ptr P.pt):=H.c.load rfl
theorem l4 (H:bS s h P):aI s.look ⟨h,4,none⟩=some (.map (some P.mp)):=H.c.load rfl
theorem l6 (H:bS s h P):aI s.look ⟨h,6,none⟩=some (int P.born):=H.c.load rfl
theorem lw (H:bS s h P) {i:Nat} (hi:i<64*P.N):aI s.look ⟨P.nw,i,none⟩=some (int (P.w i)):=H.cw.load (lM _ hi)
theorem lb (H:bS s h P) {i:Nat} (hi:i<P.N):aI s.look ⟨P.nb,i*2,none⟩=some (int (P.bs i)):=by
 have:=H.cb.load (lM (n:=2*P.N) (i:=i*2) _ (by omega));simpa using this
theorem lp (H:bS s h P) {i:Nat} (hi:i<P.N):aI s.look ⟨P.nb,i*2+1,none⟩=some (int (P.bp i)):=by
 have:=H.cb.load (lM (n:=2*P.N) (i:=i*2+1) _ (by omega));rw[this,if_neg (by omega),show (i*2+1)/2=i by omega]
end bS
section
variable {kc:Kc} {q:Bool} {s:St} {Φ:Value→St→Prop} {h:Nat} {P:PH}
theorem qo:type_of% (An @RX<|An @Ig<|An @Hz<|An @qH<|An @qL<|@vH):=An @RX<|An @Ig<|An @Hz<|An @qH<|An @qL<|@vH
theorem AN (H:bS s h P) (hΦ:Φ (.bool true) s):okF q X (KO kc) 77 [ptr h] s Φ:=by
 have n2:=H.n2;have hp:((P.N:Nat):Int)>0:=by omega
 refine aV rfl J9 rfl (rs:=[.tmp 2]) rfl (N:=13) rfl rfl ?_;refine aA fun bB aF aZ=>?_;simp only[qo,seval];refine aF _ _ ?_;refine aA fun Ψ1 aE aK=>?_;refine cK [(2,5)] (by kernel_rfl) fun O hO bK hR=>?_;have y2:∀ a,aN O a 2=bC (a.aB 5):=hO (2,5) (by simp);simp only[qo,seval,y2,H.l0,hp,decide_true];refine hR _ _ (aE _ _ ?_);simp only[qo,seval];exact hΦ
theorem tY:type_of% (An @RX<|An @uX<|@jX):=An @RX<|An @uX<|@jX
theorem FY (hs:Ok s) (H:bS s h P) (a:Int) (ha:-9223372036854775808≤a∧a≤9223372036854775807) (hΦ:∀ s',aC [] s s'→Φ (.bool (P.has a)) s'):okF q X (KO kc) 14 [ptr h,int a] s Φ:=by
 refine aV rfl Zm rfl (rs:=[.tmp 4]) rfl (N:=26) rfl rfl ?_;refine aA fun bB aF aZ=>?_;simp only[tY,seval];refine aF _ _ ?_;refine aA fun Ψ1 aE aK=>?_;refine cK [(2,7),(6,11),(11,16)] (by kernel_rfl) fun O hO bK hR=>?_;have y2:∀ a,aN O a 2=bC (a.aB 7):=hO (2,7) (by simp);have y6:∀ a,aN O a 6=bC (a.aB 11):=hO (6,11) (by simp);have nM:∀ a,aN O a 11=bC (a.aB 16):=hO (11,16) (by simp);simp only[tY,seval];refine aJ ?_ (AN H ?_)
 ·simp only[tY,seval]
 by_cases h0:a≥0
 ·have e1:a.tmod 2=a%2:=Int.tmod_eq_emod_of_nonneg h0;have e2:IntKind.i64.wrap (a.tdiv 2)=a/2:=by rw[Int.tdiv_eq_ediv_of_nonneg h0,aU (by omega) (by omega)]
  by_cases h1:a%2=0
  ·simp only[tY,seval,y2,y6,nM,H.l2,h0,decide_true,e1,h1,beq_self_eq_true,e2];refine aJ ?_ (QA hs H.ts (a/2) fun s' k=>?_)
   ·simp only[tY,seval]
   by_cases h2:a/2<((32*P.N:Nat):Int)
   ·have c1:(0≤a/2∧a/2<((32*P.N:Nat):Int)):=⟨by omega,h2⟩;rw[if_pos c1]
    try simp only[tY,seval,nM]
    refine hR _ _ (aE _ _ ?_);simp only[tY,seval];have e3:((P.S (a/2).toNat:Int)==1)=P.has a:=by
     rw[Bool.eq_iff_iff,PH.iN,beq_iff_eq];constructor
     ·intro h;exact⟨h0,h1,by omega,by omega⟩
     ·rintro⟨_,_,_,h⟩;omega
    rw[e3];exact hΦ _ k
   ·rw[if_neg (fun h=>h2 h.2)]
    try simp only[tY,seval,nM]
    refine hR _ _ (aE _ _ ?_);simp only[tY,seval];have e3:P.has a=false:=by
     cases hh:P.has a with
     | false=>rfl
     | true=>have:=PH.iN.1 hh;omega
    have:=hΦ _ k;rw[e3] at this;exact this
  ·have e3:P.has a=false:=by
    cases hh:P.has a with
    | false=>rfl
    | true=>have:=PH.iN.1 hh;omega
   have e4:(a%2==0)=false:=by simpa using h1
   simp only[tY,seval,y2,y6,nM,h0,decide_true,e1,e4];refine hR _ _ (aE _ _ ?_);simp only[tY,seval];have:=hΦ _ (.refl hs);rw[e3] at this;exact this
 ·have e3:P.has a=false:=by
   cases hh:P.has a with
   | false=>rfl
   | true=>have:=PH.iN.1 hh;omega
  simp only[tY,seval,y2,y6,nM,h0,decide_false];refine hR _ _ (aE _ _ ?_);simp only[tY,seval];have:=hΦ _ (.refl hs);rw[e3] at this;exact this
theorem vY:type_of% (An @RC<|An @RO<|An @RD<|An @RV<|An @RB<|@RG):=An @RC<|An @RO<|An @RD<|An @RV<|An @RB<|@RG
theorem NO (hs:Ok s) (H:bS s h P) (a:Int) (ha:-9223372036854775808≤a∧a≤9223372036854775807) (hΦ:∀ s',aC [] s s'→Φ (int (if P.has a=true then 0 else 4)) s'):okF q X (KO kc) 75 [ptr h,int a] s Φ:=by
 refine aV rfl J7 rfl (rs:=[.tmp 4]) rfl (N:=14) rfl rfl ?_;refine aA fun bB aF aZ=>?_;simp only[vY,seval];refine aF _ _ ?_;refine aA fun Ψ1 aE aK=>?_;refine cB fun Ψ2 aH vD bM=>?_;refine aA fun Ψ3 aM bN=>?_;simp only[vY,seval];refine aJ ?_ (AN H ?_)
 ·simp only[vY,seval]
 simp only[vY,seval];refine aM _ _ ?_;simp only[eG,RV,RG,seval];refine aA fun Ψ4 aQ bZ=>?_;simp only[vY,seval];refine aJ ?_ (FY hs H a ha fun s' k=>?_)
 ·simp only[vY,seval]
 have:=hΦ _ k;cases hh:P.has a with
 | true =>
  rw[hh] at this
  try simp only[vY,seval]
  refine aQ _ _ ?_;simp only[vY,seval];refine aH _ _ (aE _ _ ?_);simp only[vY,seval];exact this
 | false =>
  rw[hh] at this
  try simp only[vY,seval]
  refine aQ _ _ ?_;simp only[vY,seval];refine bM _ _ _ (by simp) (by simp) (aK _ _ _ (by simp) ?_);simp only[vY,seval];exact this
theorem cA {s:St} (hs:Ok s) {L:List Value} {n e:Nat} (hn:L.length=n):∃ s1,(s.new fun v=>.cells (PT.ofList L) [] n e false false v)=s1∧aC [] s s1∧Obj s1 s.next L∧s1.next=s.next+2:=by
 subst hn;exact⟨_,rfl,(aC.refl hs).new (.inr (Nat.le_refl _)),⟨_,Cells.vL⟩,rfl⟩
abbrev oW (x:cI):Value:=.agg #[int x.r,int x.d,int x.k]
theorem Obj.bD {s:St} {b i k:Nat} {L:List Value} (h:Obj s b L) (hi:i+k≤L.length):bD s.look ⟨b,i,none⟩ k=some ((L.drop i).take k):=let ⟨_,h⟩:=h;h.bD hi
theorem Obj.storeAll {s:St} {b:Nat} {L vs:List Value} (h:Obj s b L) (hs:Ok s) (hi:vs.length=L.length) (h1:vs.all iB=true):∃ s',dB s ⟨b,0,none⟩ vs=some s'∧Obj s' b vs∧aC [b] s s':=by
 obtain⟨e,h⟩:=h;obtain⟨s',h1,h2,h3⟩:=h.store hs (i:=0) (vs:=vs) (by omega) h1;have:tV L 0 vs=vs:=by
  unfold tV;rw[List.take_zero,List.nil_append,Nat.zero_add,hi,List.drop_length,List.append_nil]
 rw[this] at h2;exact⟨s',h1,⟨e,h2⟩,h3⟩
theorem Qg {x:Int} (h:-9223372036854775808≤x∧x≤9223372036854775807) (k:Int) (hk:0<k):IntKind.i64.wrap (x.tdiv k)=x.tdiv k:=by
 rcases Int.lt_or_le x 0 with h0 | h0
 ·have h1:=Int.neg_tdiv (a:=-x) (b:=k);rw[Int.neg_neg] at h1;have h2:0≤(-x).tdiv k:=Int.tdiv_nonneg (by omega) (by omega);have h3:(-x).tdiv k≤-x:=Int.tdiv_le_self _ (by omega);exact aU (by omega) (by omega)
 ·have h2:0≤x.tdiv k:=Int.tdiv_nonneg h0 (by omega);have h3:x.tdiv k≤x:=Int.tdiv_le_self _ h0;exact aU (by omega) (by omega)
theorem qn:type_of% (An @RX<|An @nD<|An @uv<|An @mI<|@hZ):=An @RX<|An @nD<|An @uv<|An @mI<|@hZ
theorem fg (hs:Ok s) (x:Int) (hx:-9223372036854775808≤x∧x≤9223372036854775807) (hΦ:∀ s',aC [] s s'→Φ (oW (tU x)) s'):okF q X (KO kc) 76 [int x] s Φ:=by
 have hm:-9223372036854775808≤x.tmod 4096∧x.tmod 4096≤9223372036854775807:=by
  have:=Int.natAbs_tmod x 4096;have:=Nat.mod_lt x.natAbs (show 0<(4096:Int).natAbs by decide);omega
 refine aV rfl J8 rfl (rs:=[.cell 2 44]) rfl (N:=11) rfl rfl ?_;refine aA fun bB aF aZ=>?_;simp only[qn,seval];obtain⟨s1,e1,k1,c1,_⟩:=cA hs (L:=[int 0,int 0,int 0]) (n:=3) (e:=44) rfl;rw[e1];refine aF _ _ ?_;refine aA fun Ψ1 aE aK=>?_;obtain⟨s2,h2,c2,k2⟩:=c1.storeAll k1.ok (vs:=[int (tU x).r,int (tU x).d,int (tU x).k]) rfl rfl;have a1:=Qg hx 4096 (by omega);have a2:=Qg hm 16 (by omega);simp only[tU] at h2 c2;simp only[qn,seval,a1,a2,h2];refine aE _ _ ?_;have k3:aC [] s s2:=k1.step k2 fun g hg=>.inr (by rw[List.mem_singleton.1 hg];exact hs.fresh _ (Nat.le_refl _));have h3:=c2.bD (i:=0) (k:=3) (Nat.le_refl _);simp only[qn,seval,h3,List.drop_zero,List.take];exact hΦ _ k3
theorem Qe:type_of% (An @RX<|An @lZ<|An @aW<|An @oZ<|@oE):=An @RX<|An @lZ<|An @aW<|An @oZ<|@oE
theorem X8 (hs:Ok s) (x:cI) (hx:x.valid=true) (hΦ:∀ s',aC [] s s'→Φ (int x.num) s'):okF q X (KO kc) 171 [oW x] s Φ:=by
 have hv:=cI.pZ.1 hx;refine aV rfl n9 rfl (rs:=[.tmp 2]) rfl (N:=13) rfl rfl ?_;refine aA fun bB aF aZ=>?_;simp only[Qe,seval];obtain⟨s1,e1,k1,c1,_⟩:=cA hs (L:=[int x.r,int x.d,int x.k]) (n:=3) (e:=44) rfl;rw[e1];refine aF _ _ ?_;have l0:aI s1.look ⟨s.next,0,none⟩=some (int x.r):=c1.load rfl;have l1:aI s1.look ⟨s.next,1,none⟩=some (int x.d):=c1.load rfl;have l2:aI s1.look ⟨s.next,2,none⟩=some (int x.k):=c1.load rfl;simp only[Qe,seval,l0,l1,l2,Nat.zero_add];rw[aU (n:=16*x.d) (by omega) (by omega),aU (n:=x.r+16*x.d) (by omega) (by omega),aU (n:=4096*x.k) (by omega) (by omega),aU (by omega) (by omega)];exact hΦ _ k1
theorem mV:type_of% (An @RX<|An @lZ<|An @aW<|An @oZ<|@oE):=An @RX<|An @lZ<|An @aW<|An @oZ<|@oE
theorem Cs (hs:Ok s) (x:cI) (hΦ:∀ s',aC [] s s'→Φ (.bool x.valid) s'):okF q X (KO kc) 168 [oW x] s Φ:=by
 refine aV rfl j_ rfl (rs:=[.tmp 2]) rfl (N:=51) rfl rfl ?_;refine aA fun bB aF aZ=>?_;simp only[mV,seval];obtain⟨s1,e1,k1,c1,_⟩:=cA hs (L:=[int x.r,int x.d,int x.k]) (n:=3) (e:=44) rfl;rw[e1];refine aF _ _ ?_;have l0:aI s1.look ⟨s.next,0,none⟩=some (int x.r):=c1.load rfl;have l1:aI s1.look ⟨s.next,1,none⟩=some (int x.d):=c1.load rfl;have l2:aI s1.look ⟨s.next,2,none⟩=some (int x.k):=c1.load rfl;have dS:=hΦ _ k1;unfold cI.valid at dS;refine aA fun Ψ1 aE aK=>?_;refine cK [(3,6),(8,11),(13,16),(18,21),(23,26),(28,31),(32,35),(38,41),(42,45)] (by kernel_rfl) fun O hO bK hR=>?_;have y3:∀ a,aN O a 3=bC (a.aB 6):=hO (3,6) (by simp);have y8:∀ a,aN O a 8=bC (a.aB 11):=hO (8,11) (by simp);have jK:∀ a,aN O a 13=bC (a.aB 16):=hO (13,16) (by simp);have mY:∀ a,aN O a 18=bC (a.aB 21):=hO (18,21) (by simp);have xO:∀ a,aN O a 23=bC (a.aB 26):=hO (23,26) (by simp);have xQ:∀ a,aN O a 28=bC (a.aB 31):=hO (28,31) (by simp);have xS:∀ a,aN O a 32=bC (a.aB 35):=hO (32,35) (by simp);have xU:∀ a,aN O a 38=bC (a.aB 41):=hO (38,41) (by simp);have xV:∀ a,aN O a 42=bC (a.aB 45):=hO (42,45) (by simp);by_cases g1:x.r≥0
 ·by_cases g2:x.r≤15
  ·by_cases g3:x.d≥0
   ·by_cases g4:x.d≤200
    ·by_cases g5:x.k≥0
     ·by_cases g6:x.k≤3
      ·by_cases g7:x.k=1
       ·have e7:(x.k==1)=true:=by rw[g7];rfl
        have e9:(x.k==2)=false:=by rw[g7];rfl
        by_cases g8:x.r≥1
        ·simp only[mV,seval,l0,l1,l2,Nat.zero_add,y3,y8,jK,mY,xO,xQ,xS,xU,xV,g1,g2,g3,g4,g5,g6,e7,e9,g8,decide_true,beq_self_eq_true];refine hR _ _ (aE _ _ ?_);simp only[mV,seval];simpa [g1,g2,g3,g4,g5,g6,g7,g8] using dS
        ·simp only[mV,seval,l0,l1,l2,Nat.zero_add,y3,y8,jK,mY,xO,xQ,xS,xU,xV,g1,g2,g3,g4,g5,g6,e7,e9,g8,decide_true,decide_false,beq_self_eq_true];refine hR _ _ (aE _ _ ?_);simp only[mV,seval];simpa [g1,g2,g3,g4,g5,g6,g7,g8] using dS
       ·have e7:(x.k==1)=false:=by simpa using g7
        by_cases g9:x.k=2
        ·have e9:(x.k==2)=true:=by rw[g9];rfl
         by_cases TZ:x.r≥2
         ·simp only[mV,seval,l0,l1,l2,Nat.zero_add,y3,y8,jK,mY,xO,xQ,xS,xU,xV,g1,g2,g3,g4,g5,g6,e7,e9,TZ,decide_true,beq_self_eq_true];refine hR _ _ (aE _ _ ?_);simp only[mV,seval];simpa [g1,g2,g3,g4,g5,g6,g7,g9,TZ] using dS
         ·simp only[mV,seval,l0,l1,l2,Nat.zero_add,y3,y8,jK,mY,xO,xQ,xS,xU,xV,g1,g2,g3,g4,g5,g6,e7,e9,TZ,decide_true,decide_false,beq_self_eq_true];refine hR _ _ (aE _ _ ?_);simp only[mV,seval];simpa [g1,g2,g3,g4,g5,g6,g7,g9,TZ] using dS
        ·have e9:(x.k==2)=false:=by simpa using g9
         simp only[mV,seval,l0,l1,l2,Nat.zero_add,y3,y8,jK,mY,xO,xQ,xS,xU,xV,g1,g2,g3,g4,g5,g6,e7,e9,decide_true];refine hR _ _ (aE _ _ ?_);simp only[mV,seval];simpa [g1,g2,g3,g4,g5,g6,g7,g9] using dS
      ·simp only[mV,seval,l0,l1,l2,Nat.zero_add,y3,y8,jK,mY,xO,xQ,xS,xU,xV,g1,g2,g3,g4,g5,g6,decide_true,decide_false];refine hR _ _ (aE _ _ ?_);simp only[mV,seval];simpa [g1,g2,g3,g4,g5,g6] using dS
     ·simp only[mV,seval,l0,l1,l2,Nat.zero_add,y3,y8,jK,mY,xO,xQ,xS,xU,xV,g1,g2,g3,g4,g5,decide_true,decide_false];refine hR _ _ (aE _ _ ?_);simp only[mV,seval];simpa [g1,g2,g3,g4,g5] using dS
    ·simp only[mV,seval,l0,l1,l2,Nat.zero_add,y3,y8,jK,mY,xO,xQ,xS,xU,xV,g1,g2,g3,g4,decide_true,decide_false];refine hR _ _ (aE _ _ ?_);simp only[mV,seval];simpa [g1,g2,g3,g4] using dS
   ·simp only[mV,seval,l0,l1,l2,Nat.zero_add,y3,y8,jK,mY,xO,xQ,xS,xU,xV,g1,g2,g3,decide_true,decide_false];refine hR _ _ (aE _ _ ?_);simp only[mV,seval];simpa [g1,g2,g3] using dS
  ·simp only[mV,seval,l0,l1,l2,Nat.zero_add,y3,y8,jK,mY,xO,xQ,xS,xU,xV,g1,g2,decide_true,decide_false];refine hR _ _ (aE _ _ ?_);simp only[mV,seval];simpa [g1,g2] using dS
 ·simp only[mV,seval,l0,l1,l2,Nat.zero_add,y3,y8,jK,mY,xO,xQ,xS,xU,xV,g1,decide_false];refine hR _ _ (aE _ _ ?_);simp only[mV,seval];simpa [g1] using dS
theorem EJ:type_of% (An @RX<|An @hZ<|An @lZ<|An @aW<|@oZ):=An @RX<|An @hZ<|An @lZ<|An @aW<|@oZ
theorem Ct (hs:Ok s) (x:cI) (hΦ:∀ s',aC [] s s'→Φ (int x.words) s'):okF q X (KO kc) 170 [oW x] s Φ:=by
 refine aV rfl m_ rfl (rs:=[.tmp 2]) rfl (N:=15) rfl rfl ?_;refine aA fun bB aF aZ=>?_;simp only[EJ,seval];obtain⟨s1,e1,k1,c1,_⟩:=cA hs (L:=[int x.r,int x.d,int x.k]) (n:=3) (e:=44) rfl;rw[e1];refine aF _ _ ?_;have h3:=c1.bD (i:=0) (k:=3) (Nat.le_refl _);refine aA fun Ψ1 aE aK=>?_;refine aA fun Ψ2 aH bM=>?_;simp only[EJ,seval,h3,List.drop_zero,List.take];refine aJ ?_ (Cs k1.ok x fun s2 k2=>?_)
 ·simp only[EJ,seval]
 try simp only[EJ,seval]
 refine aH _ _ ?_;have c2:=c1.aD k2 (by simp);cases hv:x.valid with
 | false =>
  simp only[EJ,seval];refine aK _ _ _ (by simp) ?_;simp only[EJ,seval];have:=hΦ _ (k1.trans k2);unfold cI.words at this;rw[hv] at this;exact this
 | true =>
  have hv':=cI.pZ.1 hv;simp only[EJ,seval];refine aE _ _ ?_;have l0:aI s2.look ⟨s.next,0,none⟩=some (int x.r):=c2.load rfl;have l1:aI s2.look ⟨s.next,1,none⟩=some (int x.d):=c2.load rfl;simp only[EJ,seval,l0,l1,Nat.zero_add];rw[aU (n:=2+x.r) (by omega) (by omega),aU (n:=2+x.r+x.d) (by omega) (by omega),aU (n:=2+x.r+x.d+1) (by omega) (by omega),Int.tdiv_eq_ediv_of_nonneg (by omega),aU (n:=(2+x.r+x.d+1)/2) (by omega) (by omega),aU (by omega) (by omega)];have:=hΦ _ (k1.trans k2);unfold cI.words at this;rw[hv,if_pos rfl,show x.r+x.d+3=2+x.r+x.d+1 by omega] at this;exact this
theorem IB:type_of% (An @RX<|An @jW<|An @dF<|An @dE<|@aW):=An @RX<|An @jW<|An @dF<|An @dE<|@aW
theorem Cw (hs:Ok s) (H:bS s h P) {a:Int} (h0:0≤a) (h1:a+1<64*P.N) (hΦ:∀ s',aC [] s s'→Φ (int (P.size a)) s'):okF q X (KO kc) 83 [ptr h,int a] s Φ:=by
 have bW:=H.bW;have e1:IntKind.i64.wrap (a+1)=a+1:=aU (by omega) (by omega);have g1:0≤a+1:=by omega
 have g2:a+1<((64*P.N:Nat):Int):=by omega
 have l1:=H.lw (i:=(a+1).toNat) (by omega);refine aV rfl L2 rfl (rs:=[.tmp 4]) rfl (N:=15) rfl rfl ?_;refine aA fun bB aF aZ=>?_;simp only[IB,seval];refine aF _ _ ?_;refine aA fun Ψ1 aE aK=>?_;simp only[IB,seval,H.l1,e1,g1,g2,and_self,bJ,Nat.zero_add,Nat.mul_one,l1];refine aJ ?_ (fg hs (P.w (a+1).toNat) (H.wr _) fun s2 k2=>?_)
 ·simp only[IB,seval]
 try simp only[IB,seval]
 refine aJ ?_ (Ct k2.ok (tU (P.w (a+1).toNat)) fun s3 k3=>?_)
 ·simp only[IB,seval]
 try simp only[IB,seval]
 refine aE _ _ ?_;simp only[IB,seval];exact hΦ _ (k2.trans k3)
end
open Go.Proofs
set_option maxRecDepth 100000
set_option maxHeartbeats 1000000
abbrev i64 (a:Int):Prop:=-9223372036854775808≤a∧a≤9223372036854775807
def PH.find (P:PH) (a:Int):Option Int:=if 0≤a∧a<64*P.N then
  (match pS P.S 1 (a/2+1).toNat with
  | some i=>if a≥2*i+P.size (2*i) then none else some (2*i)
  | none=>none) else none
theorem VL {L:Nat→Nat} {v:Int}:∀ {k i:Nat},pS L v k=some i→i<k∧(L i:Int)=v
 | k+1,i,h=>by
  rw[pS] at h;split at h
  ·cases h;exact⟨by omega,by assumption⟩
  ·have:=VL h;exact⟨by omega,this.2⟩
section
variable {kc:Kc} {q:Bool} {s:St} {Φ:Value→St→Prop} {h:Nat} {P:PH}
theorem LQ:type_of% (An @RX<|An @qH<|An @qL<|@vH):=An @RX<|An @qH<|An @qL<|@vH
theorem FX (H:bS s h P) (hΦ:Φ (int P.N) s):okF q X (KO kc) 17 [ptr h] s Φ:=by
 refine aV rfl l_ rfl (rs:=[.tmp 2]) rfl (N:=11) rfl rfl ?_;refine aA fun bB aF aZ=>?_;simp only[LQ,seval];refine aF _ _ ?_;refine aA fun Ψ1 aE aK=>?_;refine aA fun Ψ2 aH bM=>?_;simp only[LQ,seval];refine aJ ?_ (AN H ?_)
 ·simp only[LQ,seval]
 try simp only[LQ,seval]
 refine aH _ _ ?_;simp only[LQ,seval];refine aE _ _ ?_;simp only[LQ,seval,H.l0];exact hΦ
theorem vR:type_of% (An @RX<|An @qH<|An @qL<|An @vF<|An @JA<|@aW):=An @RX<|An @qH<|An @qL<|An @vF<|An @JA<|@aW
theorem Cr (H:bS s h P) (b:Int) (hΦ:Φ (int (if 0≤b∧b<P.N then P.bs b.toNat else -1)) s):okF q X (KO kc) 116 [ptr h,int b] s Φ:=by
 refine aV rfl Yv rfl (rs:=[.tmp 4]) rfl (N:=21) rfl rfl ?_;refine aA fun bB aF aZ=>?_;simp only[vR,seval];refine aF _ _ ?_;refine aA fun Ψ1 aE aK=>?_;refine aA fun Ψ2 aH bM=>?_;refine cK [(2,7)] (by kernel_rfl) fun O hO bK hR=>?_;have y2:∀ a,aN O a 2=bC (a.aB 7):=hO (2,7) (by simp);by_cases h0:b<0
 ·simp only[vR,seval,y2,h0,decide_true];refine hR _ _ (aH _ _ ?_);simp only[vR,seval];refine aK _ _ _ (by simp) ?_;simp only[vR,seval];rw[if_neg (by omega)] at hΦ;exact hΦ
 ·simp only[vR,seval,y2,h0,decide_false];refine aJ ?_ (FX H ?_)
  ·simp only[vR,seval]
  by_cases h1:b≥P.N
  ·simp only[vR,seval,y2,h1,decide_true];refine hR _ _ (aH _ _ ?_);simp only[vR,seval];refine aK _ _ _ (by simp) ?_;simp only[vR,seval];rw[if_neg (by omega)] at hΦ;exact hΦ
  ·simp only[vR,seval,y2,h1,decide_false];refine hR _ _ (aH _ _ ?_);simp only[vR,seval];refine aE _ _ ?_;have g1:0≤b:=by omega
   have g2:b<(P.N:Int):=by omega
   have l:=H.lb (i:=b.toNat) (by omega);simp only[vR,seval,H.l0,g1,g2,and_self,bJ,Nat.zero_add,l];rw[if_pos ⟨g1,g2⟩] at hΦ;exact hΦ
theorem vS:type_of% (An @RX<|An @qH<|An @qL<|An @vF<|An @TS<|@aW):=An @RX<|An @qH<|An @qL<|An @vF<|An @TS<|@aW
theorem X4 (H:bS s h P) (b:Int) (hΦ:Φ (int (if 0≤b∧b<P.N then P.bp b.toNat else -1)) s):okF q X (KO kc) 117 [ptr h,int b] s Φ:=by
 refine aV rfl Yw rfl (rs:=[.tmp 4]) rfl (N:=21) rfl rfl ?_;refine aA fun bB aF aZ=>?_;simp only[vS,seval];refine aF _ _ ?_;refine aA fun Ψ1 aE aK=>?_;refine aA fun Ψ2 aH bM=>?_;refine cK [(2,7)] (by kernel_rfl) fun O hO bK hR=>?_;have y2:∀ a,aN O a 2=bC (a.aB 7):=hO (2,7) (by simp);by_cases h0:b<0
 ·simp only[vS,seval,y2,h0,decide_true];refine hR _ _ (aH _ _ ?_);simp only[vS,seval];refine aK _ _ _ (by simp) ?_;simp only[vS,seval];rw[if_neg (by omega)] at hΦ;exact hΦ
 ·simp only[vS,seval,y2,h0,decide_false];refine aJ ?_ (FX H ?_)
  ·simp only[vS,seval]
  by_cases h1:b≥P.N
  ·simp only[vS,seval,y2,h1,decide_true];refine hR _ _ (aH _ _ ?_);simp only[vS,seval];refine aK _ _ _ (by simp) ?_;simp only[vS,seval];rw[if_neg (by omega)] at hΦ;exact hΦ
  ·simp only[vS,seval,y2,h1,decide_false];refine hR _ _ (aH _ _ ?_);simp only[vS,seval];refine aE _ _ ?_;have g1:0≤b:=by omega
   have g2:b<(P.N:Int):=by omega
   have l:=H.lp (i:=b.toNat) (by omega);simp only[vS,seval,H.l0,g1,g2,and_self,bJ,Nat.zero_add,l];rw[if_pos ⟨g1,g2⟩] at hΦ;exact hΦ
theorem QN:type_of% (An @RC<|An @RO<|An @RD<|An @RV<|An @RB<|@RG):=An @RC<|An @RO<|An @RD<|An @RV<|An @RB<|@RG
theorem X_ (b:Int) (hΦ:Φ (.bool (decide (0≤b∧b<8))) s):okF q X (KO kc) 225 [int b] s Φ:=by
 refine aV rfl B_ rfl (rs:=[.tmp 2]) rfl (N:=9) rfl rfl ?_;refine aA fun bB aF aZ=>?_;simp only[QN,seval];refine aF _ _ ?_;refine aA fun Ψ1 aE aK=>?_;refine cK [(2,5)] (by kernel_rfl) fun O hO bK hR=>?_;have y2:∀ a,aN O a 2=bC (a.aB 5):=hO (2,5) (by simp);by_cases h0:b≥0
 ·simp only[QN,seval,y2,h0,decide_true];refine hR _ _ (aE _ _ ?_);simp only[QN,seval];rw[show decide (0≤b∧b<8)=decide (b<8) from by simp[h0]] at hΦ;exact hΦ
 ·simp only[QN,seval,y2,h0,decide_false];refine hR _ _ (aE _ _ ?_);simp only[QN,seval];rw[decide_eq_false (by omega)] at hΦ;exact hΦ
theorem HY:type_of% (An @RX<|An @qH<|An @qL<|@vH):=An @RX<|An @qH<|An @qL<|@vH
theorem Y1 (H:bS s h P) (b:Int) (hΦ:Φ (.bool (decide (1≤b∧b<P.N))) s):okF q X (KO kc) 224 [ptr h,int b] s Φ:=by
 refine aV rfl B9 rfl (rs:=[.tmp 4]) rfl (N:=20) rfl rfl ?_;refine aA fun bB aF aZ=>?_;simp only[HY,seval];refine aF _ _ ?_;refine aA fun Ψ1 aE aK=>?_;refine cK [(2,7),(6,11)] (by kernel_rfl) fun O hO bK hR=>?_;have y2:∀ a,aN O a 2=bC (a.aB 7):=hO (2,7) (by simp);have y6:∀ a,aN O a 6=bC (a.aB 11):=hO (6,11) (by simp);simp only[HY,seval];refine aJ ?_ (AN H ?_)
 ·simp only[HY,seval]
 by_cases h0:b≥1
 ·simp only[HY,seval,y2,y6,h0,decide_true,H.l0];refine hR _ _ (aE _ _ ?_);simp only[HY,seval];rw[show decide (1≤b∧b<(P.N:Int))=decide (b<(P.N:Int)) from by simp[h0]] at hΦ;exact hΦ
 ·simp only[HY,seval,y2,y6,h0,decide_false];refine hR _ _ (aE _ _ ?_);simp only[HY,seval];rw[decide_eq_false (by omega)] at hΦ;exact hΦ
def mr (o:Option Int):Value:=match o with
 | some a=>.tuple #[int a,int 0]
 | none=>.tuple #[int 0,int 4]
theorem kG:type_of% (An @RX<|An @jW<|An @dF<|An @dG<|An @uX<|@jX):=An @RX<|An @jW<|An @dF<|An @dG<|An @uX<|@jX
theorem V0 (hs:Ok s) (H:bS s h P) (a:Int) (hΦ:∀ s',aC [] s s'→Φ (mr (P.find a)) s'):okF q X (KO kc) 18 [ptr h,int a] s Φ:=by
 have bW:=H.bW;unfold PH.find at hΦ;refine aV rfl p_ rfl (rs:=[.tmp 4,.tmp 5]) rfl (N:=48) rfl rfl ?_;refine aA fun bB aF aZ=>?_;simp only[kG,seval];refine aF _ _ ?_;refine aA fun Ψ1 aE aK=>?_;refine aA fun Ψ2 aH bM=>?_;simp only[kG,seval];refine aJ ?_ (AN H ?_)
 ·simp only[kG,seval]
 try simp only[kG,seval]
 refine aH _ _ ?_;simp only[kG,seval];refine aE _ _ ?_;refine aA fun Ψ3 aM bN=>?_;refine aA fun Ψ4 aQ bZ=>?_;refine cK [(2,13)] (by kernel_rfl) fun O hO bK hR=>?_;have y2:∀ a,aN O a 2=bC (a.aB 13):=hO (2,13) (by simp);by_cases h0:a<0
 ·simp only[kG,seval,y2,h0,decide_true];refine hR _ _ (aQ _ _ ?_);simp only[kG,seval];refine bN _ _ _ (by simp) ?_;simp only[kG,seval];rw[if_neg (by omega)] at hΦ;exact hΦ _ (.refl hs)
 by_cases h1:a≥((64*P.N:Nat):Int)
 ·simp only[kG,seval,y2,h0,decide_false,H.l1,h1,decide_true];refine hR _ _ (aQ _ _ ?_);simp only[kG,seval];refine bN _ _ _ (by simp) ?_;simp only[kG,seval];rw[if_neg (by omega)] at hΦ;exact hΦ _ (.refl hs)
 simp only[kG,seval,y2,h0,decide_false,H.l1,h1];refine hR _ _ (aQ _ _ ?_);simp only[kG,seval];refine aM _ _ ?_;have e1:IntKind.i64.wrap (a.tdiv 2)=a/2:=by rw[Int.tdiv_eq_ediv_of_nonneg (by omega),aU (by omega) (by omega)]
 have e2:IntKind.i64.wrap (a/2+1)=a/2+1:=aU (by omega) (by omega);rw[if_pos ⟨by omega,by omega⟩] at hΦ;refine aA fun cP bI cF=>?_;simp only[kG,seval,H.l2,e1,e2];refine aJ ?_ (aH7 hs H.ts (a/2+1) 1 fun s2 k2=>?_)
 ·simp only[kG,seval]
 rw[show (min (max (a/2+1) 0) ((32*P.N:Nat):Int)).toNat=(a/2+1).toNat by omega];have H2:=H.aL k2;cases hl:pS P.S 1 (a/2+1).toNat with
 | none =>
  rw[hl] at hΦ;simp only[kG,seval];refine bI _ _ ?_;refine aA fun dK bO cV=>?_;refine aA fun fJ cC eF=>?_;refine cK [(2,35)] (by kernel_rfl) fun O hO bK hR=>?_;have y2:∀ a,aN O a 2=bC (a.aB 35):=hO (2,35) (by simp);simp only[kG,seval,y2];refine hR _ _ (cC _ _ ?_);simp only[kG,seval];refine cV _ _ _ (by simp) ?_;simp only[kG,seval];exact hΦ _ k2
 | some i =>
  have hi:=(VL hl).1;rw[hl] at hΦ;simp only at hΦ;have hw:=cI.CA (P.shape (2*i));unfold PH.size at hΦ;have e3:IntKind.i64.wrap (2*(i:Int))=2*i:=aU (by omega) (by omega);simp only[kG,seval];refine bI _ _ ?_;refine aA fun dK bO cV=>?_;refine aA fun fJ cC eF=>?_;refine cK [(2,35)] (by kernel_rfl) fun O hO bK hR=>?_;have y2:∀ a,aN O a 2=bC (a.aB 35):=hO (2,35) (by simp);simp only[kG,seval,y2,e3];refine aJ ?_ (Cw k2.ok H2 (a:=2*i) (by omega) (by omega) fun s3 k3=>?_)
  ·simp only[kG,seval]
  have e4:IntKind.i64.wrap (2*(i:Int)+P.size (2*i))=2*i+P.size (2*i):=by unfold PH.size;exact aU (by omega) (by omega)
  by_cases h2:a≥2*(i:Int)+P.size (2*i)
  ·simp only[kG,seval,y2,e4,h2,decide_true];refine hR _ _ (cC _ _ ?_);simp only[kG,seval];refine cV _ _ _ (by simp) ?_;simp only[kG,seval];unfold PH.size at h2;rw[if_pos h2] at hΦ;exact hΦ _ (k2.trans k3)
  ·simp only[kG,seval,y2,e4,h2,decide_false];refine hR _ _ (cC _ _ ?_);simp only[kG,seval];refine bO _ _ ?_;simp only[kG,seval,e3];unfold PH.size at h2;rw[if_neg h2] at hΦ;exact hΦ _ (k2.trans k3)
theorem NC:∀ {es:List MapEntry} {M:List (Int×Value)} {k:Int} {i:Nat},es.map (fun e=>(e.key,e.val))=M.map (fun p=>(int p.1,p.2))→M.lookup k=none→mO (int k) es i=some none
 | [],M,k,i,h,hl=>rfl
 | e::es,[],k,i,h,hl=>by simp at h
 | e::es,(x,v)::M,k,i,h,hl=>by
  simp only[List.map_cons,List.cons.injEq,Prod.mk.injEq] at h;obtain⟨⟨h1,h2⟩,h3⟩:=h;have hne:(k==x)=false:=by
   cases hb:(k==x) with
   | false=>rfl
   | true=>rw[List.lookup_cons,hb] at hl;cases hl
  rw[List.lookup_cons,hne] at hl;rw[mO,h1];simp only[vG,if_true,hne];exact NC h3 hl
theorem cy:∀ {es:List MapEntry} {M:List (Int×Value)} {k:Int} {i:Nat} {v:Value},es.map (fun e=>(e.key,e.val))=M.map (fun p=>(int p.1,p.2))→M.lookup k=some v→∃ j,mO (int k) es i=some (some (i+j,v))∧M[j]?=some (k,v)∧∀ j' y,j'<j→M[j']?=some y→y.1≠k
 | [],M,k,i,v,h,hl=>by
  have:M=[]:=by simpa using h.symm
  subst this;cases hl
 | e::es,[],k,i,v,h,hl=>by simp at h
 | e::es,(x,u)::M,k,i,v,h,hl=>by
  simp only[List.map_cons,List.cons.injEq,Prod.mk.injEq] at h;obtain⟨⟨h1,h2⟩,h3⟩:=h;rw[mO,h1];simp only[vG,if_true];cases hb:(k==x) with
  | true =>
   rw[List.lookup_cons,hb] at hl;cases hl;have hk:k=x:=by simpa using hb
   subst hk;exact⟨0,by simp[h2],rfl,fun j' y hj=>absurd hj (Nat.not_lt_zero _)⟩
  | false =>
   rw[List.lookup_cons,hb] at hl;obtain⟨j,hj,hM,hn⟩:=cy (i:=i+1) h3 hl;refine⟨j+1,by simp only[hj];congr 3;omega,hM,fun j' y fp hy=>?_⟩;cases j' with
   | zero=>cases hy;simpa using fun e=>by simp[e] at hb
   | succ j'=>exact hn j' y (by omega) hy
theorem aCj {M:List (Int×Int)} {k:Int}:(M.map fun p=>(p.1,int p.2)).lookup k=(M.lookup k).map int:=by
 induction M with
 | nil=>rfl
 | cons p M ih =>
  rcases p with ⟨x,y⟩;rw[List.map_cons,List.lookup_cons,List.lookup_cons,ih];cases (k==x) <;> rfl
theorem iL.find {s:St} {b:Nat} {M:List (Int×Value)} (h:iL s b M) (k:Int):∃ es aO,mapOf s.look b=some (es,aO)∧((M.lookup k=none∧mO (int k) es 0=some none)∨∃ v i,M.lookup k=some v∧mO (int k) es 0=some (some (i,v))):=by
 obtain⟨es,aO,aT,h1,h2,_⟩:=h;refine⟨es,aO,by simp only[mapOf,St.look,h1],?_⟩;cases hl:M.lookup k with
 | none=>exact .inl ⟨rfl,NC h2 hl⟩
 | some v =>
  obtain⟨j,hj,_⟩:=cy (i:=0) h2 hl;exact .inr ⟨v,_,rfl,hj⟩
theorem BW:type_of% (An @RX<|An @jW<|An @dF<|An @dE<|@aW):=An @RX<|An @jW<|An @dF<|An @dE<|@aW
theorem V_ (hs:Ok s) (H:bS s h P) (a:Int) (ha:i64 a) (hΦ:∀ s',aC [] s s'→Φ (if P.has a=true then .tuple #[int (P.w a.toNat),int 0] else .tuple #[int 0,int 4]) s'):okF q X (KO kc) 38 [ptr h,int a] s Φ:=by
 refine aV rfl E9 rfl (rs:=[.tmp 4,.tmp 5]) rfl (N:=20) rfl rfl ?_;refine aA fun bB aF aZ=>?_;simp only[BW,seval];refine aF _ _ ?_;refine aA fun Ψ1 aE aK=>?_;refine aA fun Ψ2 aH bM=>?_;simp only[BW,seval];refine aJ ?_ (NO hs H a ha fun s2 k2=>?_)
 ·simp only[BW,seval]
 have H2:=H.aL k2;cases hh:P.has a with
 | false =>
  rw[hh] at hΦ;simp only[BW,seval];refine aH _ _ ?_;simp only[BW,seval];refine aK _ _ _ (by simp) ?_;simp only[BW,seval];exact hΦ _ k2
 | true =>
  have hb:=PH.iN.1 hh;rw[hh] at hΦ;have g1:0≤a:=hb.1;have g2:a<((64*P.N:Nat):Int):=by omega
  have l:=H2.lw (i:=a.toNat) (by omega);simp only[BW,seval];refine aH _ _ ?_;simp only[BW,seval];refine aE _ _ ?_;simp only[BW,seval,H2.l1,g1,g2,and_self,bJ,Nat.zero_add,Nat.mul_one,l];exact hΦ _ k2
theorem vT:type_of% (An @RX<|An @nD<|An @SE<|An @mI<|An @jW<|An @dF<|An @dE<|An @aW<|@hZ):=An @RX<|An @nD<|An @SE<|An @mI<|An @jW<|An @dF<|An @dE<|An @aW<|@hZ
theorem X3 (hs:Ok s) (H:bS s h P) (a:Int) (ha:i64 a) (hΦ:∀ s',aC [] s s'→Φ (if P.has a=true then .tuple #[oW (P.shape a),int 0] else .tuple #[oW ⟨0,0,0⟩,int 4]) s'):okF q X (KO kc) 13 [ptr h,int a] s Φ:=by
 refine aV rfl Zd rfl (rs:=[.cell 4 44,.tmp 5]) rfl (N:=23) rfl rfl ?_;refine aA fun bB aF aZ=>?_;simp only[vT,seval];obtain⟨s1,e1,k1,c1,_⟩:=cA hs (L:=[int 0,int 0,int 0]) (n:=3) (e:=44) rfl;rw[e1];refine aF _ _ ?_;refine aA fun Ψ1 aE aK=>?_;refine aA fun Ψ2 aH bM=>?_;simp only[vT,seval];refine aJ ?_ (NO k1.ok (H.aL k1) a ha fun s2 k2=>?_)
 ·simp only[vT,seval]
 have k12:=k1.trans k2;have H2:=H.aL k12;have c2:=c1.aD k2 (by simp);cases hh:P.has a with
 | false =>
  rw[hh] at hΦ;obtain⟨s3,h3,c3,k3⟩:=c2.storeAll k2.ok (vs:=[int 0,int 0,int 0]) rfl rfl;have k4:aC [] s s3:=k12.step k3 fun g hg=>.inr (by rw[List.mem_singleton.1 hg];exact hs.fresh _ (Nat.le_refl _));have l3:=c3.bD (i:=0) (k:=3) (Nat.le_refl _);simp only[vT,seval];refine aH _ _ ?_;simp only[vT,seval,h3];refine aK _ _ _ (by simp) ?_;simp only[vT,seval,l3,List.drop_zero,List.take];exact hΦ _ k4
 | true =>
  have hb:=PH.iN.1 hh;rw[hh] at hΦ;have bW:=H.bW;have e1:IntKind.i64.wrap (a+1)=a+1:=aU (by omega) (by omega);have g1:0≤a+1:=by omega
  have g2:a+1<((64*P.N:Nat):Int):=by omega
  have l:=H2.lw (i:=(a+1).toNat) (by omega);simp only[vT,seval];refine aH _ _ ?_;simp only[vT,seval];refine aE _ _ ?_;refine aA fun Ψ3 aM bN=>?_;simp only[vT,seval,H2.l1,e1,g1,g2,and_self,bJ,Nat.zero_add,Nat.mul_one,l];refine aJ ?_ (fg k2.ok (P.w (a+1).toNat) (H.wr _) fun s3 k3=>?_)
  ·simp only[vT,seval]
  have c3:=c2.aD k3 (by simp);obtain⟨s4,h4,c4,k4⟩:=c3.storeAll k3.ok (vs:=[int (P.shape a).r,int (P.shape a).d,int (P.shape a).k]) rfl rfl;have k5:aC [] s s4:=(k12.trans k3).step k4 fun g hg=>.inr (by rw[List.mem_singleton.1 hg];exact hs.fresh _ (Nat.le_refl _));have l4:=c4.bD (i:=0) (k:=3) (Nat.le_refl _);unfold PH.shape at h4;simp only[vT,seval,h4];refine aM _ _ ?_;simp only[vT,seval,l4,List.drop_zero,List.take];exact hΦ _ k5
end
open Go.Proofs
set_option maxRecDepth 100000
set_option maxHeartbeats 1000000
namespace PH
variable (P:PH)
def many (a:Int) (data:Bool):Int:=if data=true then(P.shape a).d else(P.shape a).r
def first (a:Int) (data:Bool):Int:=if data=true then a+2+(P.shape a).r else a+2
def gA (a i:Int) (data:Bool):Int:=if P.has a=true then(if i<0∨i≥P.many a data then 1 else 0) else 4
def kI (a i:Int) (data:Bool):Int:=if P.gA a i data=0 then P.first a data+i else 0
def mH (i:Int) (v:Int):PH:={P with w:=fun j=>if j=i.toNat then v else P.w j}
theorem NF {P:PH} {a i:Int} {data:Bool} (h:P.gA a i data=0):P.has a=true∧0≤i∧i<P.many a data:=by
 unfold gA at h;split at h
 ·rename_i hh;split at h
  ·cases h
  ·rename_i hn;exact⟨hh,by omega,by omega⟩
 ·cases h
theorem CW {P:PH} (G:P.cM) {a i:Int} {data:Bool} (h:P.gA a i data=0):P.kI a i data=P.first a data+i∧a+2≤P.kI a i data∧P.kI a i data<a+P.size a∧P.kI a i data<64*P.N∧0≤P.kI a i data:=by
 obtain⟨h1,h2,h3⟩:=NF h;obtain⟨v1,v2⟩:=G.val a h1;have hv:=cI.pZ.1 v1;have hw:=cI.sX v1;have hb:=PH.iN.1 h1;have e:P.kI a i data=P.first a data+i:=by unfold kI;rw[if_pos h]
 unfold PH.size at v2 ⊢;refine⟨e,?_⟩;rw[e];cases data with
 | false =>
  have h3':i<(P.shape a).r:=h3;rw[show P.first a false=a+2 from rfl];omega
 | true =>
  have h3':i<(P.shape a).d:=h3;rw[show P.first a true=a+2+(P.shape a).r from rfl];omega
end PH
section
variable {kc:Kc} {q:Bool} {s:St} {Φ:Value→St→Prop} {h:Nat} {P:PH}
theorem aI3 (x:Int):-16<x.tmod 16∧x.tmod 16<16:=by
 have h1:=Int.natAbs_tmod x 16;have h2:=Nat.mod_lt x.natAbs (show 0<(16:Int).natAbs by decide);omega
theorem aHy (x:Int):-256<(x.tmod 4096).tdiv 16∧(x.tmod 4096).tdiv 16<256:=by
 have h1:=Int.natAbs_tmod x 4096;have h2:=Nat.mod_lt x.natAbs (show 0<(4096:Int).natAbs by decide);have h3:((x.tmod 4096).tdiv 16).natAbs=(x.tmod 4096).natAbs/16:=Int.natAbs_tdiv (x.tmod 4096) 16;have h4:(x.tmod 4096).natAbs<4096:=by omega
 omega
theorem iD:type_of% (An @RX<|An @jW<|An @dF<|An @dE<|An @aW<|An @nD<|An @mI<|An @lZ<|@oZ):=An @RX<|An @jW<|An @dF<|An @dE<|An @aW<|An @nD<|An @mI<|An @lZ<|@oZ
theorem ff (hs:Ok s) (H:bS s h P) (a i:Int) (ha:i64 a) (data:Bool) (hΦ:∀ s',aC [] s s'→Φ (.tuple #[int (P.kI a i data),int (P.gA a i data)]) s'):okF q X (KO kc) 130 [ptr h,int a,int i,.bool data] s Φ:=by
 unfold PH.kI PH.gA at hΦ;refine aV rfl Ze rfl (rs:=[.tmp 8,.tmp 9]) rfl (N:=50) rfl rfl ?_;refine aA fun bB aF aZ=>?_;simp only[iD,seval];refine aF _ _ ?_;refine aA fun Ψ1 aE aK=>?_;refine aA fun Ψ2 aH bM=>?_;simp only[iD,seval];refine aJ ?_ (NO hs H a ha fun s2 k2=>?_)
 ·simp only[iD,seval]
 have H2:=H.aL k2;cases hh:P.has a with
 | false =>
  rw[hh] at hΦ;simp only[iD,seval];refine aH _ _ ?_;simp only[iD,seval];refine aK _ _ _ (by simp) ?_;simp only[iD,seval];exact hΦ _ k2
 | true =>
  have hb:=PH.iN.1 hh;rw[hh] at hΦ;simp only[if_true] at hΦ;have bW:=H.bW;have e1:IntKind.i64.wrap (a+1)=a+1:=aU (by omega) (by omega);have g1:0≤a+1:=by omega
  have g2:a+1<((64*P.N:Nat):Int):=by omega
  have l:=H2.lw (i:=(a+1).toNat) (by omega);simp only[iD,seval];refine aH _ _ ?_;simp only[iD,seval];refine aE _ _ ?_;refine aA fun Ψ3 aM bN=>?_;simp only[iD,seval,H2.l1,e1,g1,g2,and_self,bJ,Nat.zero_add,Nat.mul_one,l];refine aJ ?_ (fg k2.ok (P.w (a+1).toNat) (H.wr _) fun s3 k3=>?_)
  ·simp only[iD,seval]
  simp only[iD,seval];obtain⟨s4,e4,k4,c4,_⟩:=cA k3.ok (L:=[int 0,int 0,int 0]) (n:=3) (e:=44) rfl;rw[e4];obtain⟨s5,h5,c5,k5⟩:=c4.storeAll k4.ok (vs:=[int (tU (P.w (a+1).toNat)).r,int (tU (P.w (a+1).toNat)).d,int (tU (P.w (a+1).toNat)).k]) rfl rfl;have k6:aC [] s s5:=(k2.trans (k3.trans k4)).step k5 fun g hg=>.inr (by rw[List.mem_singleton.1 hg];exact hs.fresh _ (k2.trans k3).next);simp only[iD,seval,h5];refine aM _ _ ?_;have r1:=aI3 (P.w (a+1).toNat);have d1:=aHy (P.w (a+1).toNat);have hr:(P.shape a).r=(P.w (a+1).toNat).tmod 16:=rfl;have hd:(P.shape a).d=((P.w (a+1).toNat).tmod 4096).tdiv 16:=rfl;have lr:aI s5.look ⟨s3.next,0,none⟩=some (int (P.shape a).r):=c5.load rfl;have ld:aI s5.look ⟨s3.next,1,none⟩=some (int (P.shape a).d):=c5.load rfl;have w1:IntKind.i64.wrap (a+2)=a+2:=aU (by omega) (by omega);have w2:IntKind.i64.wrap (a+2+(P.shape a).r)=a+2+(P.shape a).r:=aU (by omega) (by omega);have key:∀ (m f:Int),P.many a data=m→P.first a data=f→-300<m→m<300→0≤f+300→f≤6000→∀ s',aC [] s s'→(i<0∨i≥m→Φ (.tuple #[int 0,int 1]) s')∧(¬ (i<0∨i≥m)→Φ (.tuple #[int (f+i),int 0]) s'):=by
   intro m f hm hf _ _ _ _ s' hk';have:=hΦ s' hk';rw[hm,hf] at this;refine⟨fun hc=>?_,fun hc=>?_⟩
   ·rw[if_pos hc] at this;exact this
   ·rw[if_neg hc] at this;exact this
  refine aA fun Ψ4 aQ bZ=>?_;refine dH [] [] [] (by kernel_rfl) (by kernel_rfl) (by rfl) fun O hO bK hR=>?_;simp only[iD,seval,w1,lr];refine hR _ _ (aQ _ _ ?_);refine aA fun cP bI cF=>?_;refine aA fun dK bO cV=>?_;simp only[iD,seval];refine bO _ _ ?_;cases data with
  | false =>
   have hk:=key (P.shape a).r (a+2) rfl rfl (by omega) (by omega) (by omega) (by omega);simp only[iD,seval];refine bI _ _ ?_;refine aA fun fJ cC eF=>?_;refine aA fun jC dA iI=>?_;refine cK [(2,42)] (by kernel_rfl) fun O hO bK hR=>?_;have y2:∀ a,aN O a 2=bC (a.aB 42):=hO (2,42) (by simp);by_cases i0:i<0
   ·simp only[iD,seval,y2,i0,decide_true];refine hR _ _ (dA _ _ ?_);simp only[iD,seval];refine eF _ _ _ (by simp) ?_;simp only[iD,seval];exact(hk _ (k6.trans (.skip k6.ok _))).1 (.inl i0)
   ·by_cases i1:i≥(P.shape a).r
    ·simp only[iD,seval,y2,i0,i1,decide_true,decide_false];refine hR _ _ (dA _ _ ?_);simp only[iD,seval];refine eF _ _ _ (by simp) ?_;simp only[iD,seval];exact(hk _ (k6.trans (.skip k6.ok _))).1 (.inr i1)
    ·simp only[iD,seval,y2,i0,i1,decide_false];refine hR _ _ (dA _ _ ?_);simp only[iD,seval];refine cC _ _ ?_;simp only[iD,seval];rw[aU (by omega) (by omega)];exact(hk _ (k6.trans (.skip k6.ok _))).2 (by omega)
  | true =>
   have hk:=key (P.shape a).d (a+2+(P.shape a).r) rfl rfl (by omega) (by omega) (by omega) (by omega);simp only[eG,RV,RG,seval];refine dH [] [] [] (by kernel_rfl) (by kernel_rfl) (by rfl) fun O hO bK hR=>?_;simp only[iD,seval,lr,ld,w2];refine hR _ _ ?_;refine bI _ _ ?_;refine aA fun fJ cC eF=>?_;refine aA fun jC dA iI=>?_;refine cK [(2,42)] (by kernel_rfl) fun O hO bK hR=>?_;have y2:∀ a,aN O a 2=bC (a.aB 42):=hO (2,42) (by simp);by_cases i0:i<0
   ·simp only[iD,seval,y2,i0,decide_true];refine hR _ _ (dA _ _ ?_);simp only[iD,seval];refine eF _ _ _ (by simp) ?_;simp only[iD,seval];exact(hk _ ((k6.trans (.skip k6.ok _)).jJ _)).1 (.inl i0)
   ·by_cases i1:i≥(P.shape a).d
    ·simp only[iD,seval,y2,i0,i1,decide_true,decide_false];refine hR _ _ (dA _ _ ?_);simp only[iD,seval];refine eF _ _ _ (by simp) ?_;simp only[iD,seval];exact(hk _ ((k6.trans (.skip k6.ok _)).jJ _)).1 (.inr i1)
    ·simp only[iD,seval,y2,i0,i1,decide_false];refine hR _ _ (dA _ _ ?_);simp only[iD,seval];refine cC _ _ ?_;simp only[iD,seval];rw[aU (by omega) (by omega)];exact(hk _ ((k6.trans (.skip k6.ok _)).jJ _)).2 (by omega)
theorem xH:type_of% (An @RX<|An @jW<|An @dF<|An @dE<|@aW):=An @RX<|An @jW<|An @dF<|An @dE<|@aW
theorem X1 (hs:Ok s) (H:bS s h P) (G:P.cM) (a i:Int) (ha:i64 a) (hΦ:∀ s',aC [] s s'→Φ (.tuple #[int (if P.gA a i false=0 then P.w (P.kI a i false).toNat else 0),int (P.gA a i false)]) s'):okF q X (KO kc) 41 [ptr h,int a,int i] s Φ:=by
 refine aV rfl F0 rfl (rs:=[.tmp 6,.tmp 7]) rfl (N:=27) rfl rfl ?_;refine aA fun bB aF aZ=>?_;simp only[xH,seval];refine aF _ _ ?_;refine aA fun Ψ1 aE aK=>?_;simp only[xH,seval];refine aJ ?_ (ff hs H a i ha false fun s2 k2=>?_)
 ·simp only[xH,seval]
 have H2:=H.aL k2;have dS:=hΦ _ k2;clear hΦ;by_cases he:P.gA a i false=0
 ·obtain⟨_,_,_,f4,f5⟩:=PH.CW G he;have l:=H2.lw (i:=(P.kI a i false).toNat) (by omega);have g2:P.kI a i false<((64*P.N:Nat):Int):=by omega
  rw[if_pos he,he] at dS;rw[he];simp only[xH,seval];refine aE _ _ ?_;refine aA fun Ψ2 aH bM=>?_;refine aA fun Ψ3 aM bN=>?_;simp only[xH,seval];refine aM _ _ ?_;simp only[xH,seval];refine aH _ _ ?_;simp only[xH,seval,H2.l1,f5,g2,and_self,bJ,Nat.zero_add,Nat.mul_one,l];exact dS
 ·have hb:(P.gA a i false==0)=false:=by simpa using he
  rw[if_neg he] at dS;simp only[xH,seval];refine aE _ _ ?_;refine aA fun Ψ2 aH bM=>?_;refine aA fun Ψ3 aM bN=>?_;simp only[xH,seval,hb];refine aM _ _ ?_;simp only[xH,seval];refine bM _ _ _ (by simp) ?_;simp only[xH,seval];exact dS
theorem xE:type_of% (An @RX<|An @jW<|An @dF<|An @dE<|@aW):=An @RX<|An @jW<|An @dF<|An @dE<|@aW
theorem U9 (hs:Ok s) (H:bS s h P) (G:P.cM) (a i:Int) (ha:i64 a) (hΦ:∀ s',aC [] s s'→Φ (.tuple #[int (if P.gA a i true=0 then P.w (P.kI a i true).toNat else 0),int (P.gA a i true)]) s'):okF q X (KO kc) 39 [ptr h,int a,int i] s Φ:=by
 refine aV rfl E_ rfl (rs:=[.tmp 6,.tmp 7]) rfl (N:=27) rfl rfl ?_;refine aA fun bB aF aZ=>?_;simp only[xE,seval];refine aF _ _ ?_;refine aA fun Ψ1 aE aK=>?_;simp only[xE,seval];refine aJ ?_ (ff hs H a i ha true fun s2 k2=>?_)
 ·simp only[xE,seval]
 have H2:=H.aL k2;have dS:=hΦ _ k2;clear hΦ;by_cases he:P.gA a i true=0
 ·obtain⟨_,_,_,f4,f5⟩:=PH.CW G he;have l:=H2.lw (i:=(P.kI a i true).toNat) (by omega);have g2:P.kI a i true<((64*P.N:Nat):Int):=by omega
  rw[if_pos he,he] at dS;rw[he];simp only[xE,seval];refine aE _ _ ?_;refine aA fun Ψ2 aH bM=>?_;refine aA fun Ψ3 aM bN=>?_;simp only[xE,seval];refine aM _ _ ?_;simp only[xE,seval];refine aH _ _ ?_;simp only[xE,seval,H2.l1,f5,g2,and_self,bJ,Nat.zero_add,Nat.mul_one,l];exact dS
 ·have hb:(P.gA a i true==0)=false:=by simpa using he
  rw[if_neg he] at dS;simp only[xE,seval];refine aE _ _ ?_;refine aA fun Ψ2 aH bM=>?_;refine aA fun Ψ3 aM bN=>?_;simp only[xE,seval,hb];refine aM _ _ ?_;simp only[xE,seval];refine bM _ _ _ (by simp) ?_;simp only[xE,seval];exact dS
theorem bS.mH {s s':St} (H:bS s h P) {i v:Int} (h0:0≤i) (h1:i<64*P.N) (hv:i64 v) (k:aC [P.nw] s s') (hc:Obj s' P.nw ((row (64*P.N) fun j=>int (P.w j)).set i.toNat (int v))):bS s' h (P.mH i v):=by
 obtain⟨c,cb,cw,ts,tp,mp,mf,nd,n2,bW,wr⟩:=H;have pC:=nd;simp only[List.nodup_cons,List.mem_cons,List.not_mem_nil,or_false,not_or,List.nodup_nil,not_false_eq_true,and_true] at pC;obtain⟨⟨a1,a2,a3,a4,a5,a6,a7,a8⟩,⟨b1,b2,b3,b4,b5,b6,b7⟩,⟨c1,c2,c3,c4,c5,c6⟩,_⟩:=pC;refine⟨c.aD k (by simp[a2]),cb.aD k (by simp[b1]),?_,ts.aD k (by simp[Ne.symm c1]) (by simp[Ne.symm c2]),tp.aD k (by simp[Ne.symm c3]) (by simp[Ne.symm c4]),mp.aD k (by simp[Ne.symm c5]),mf.aD k (by simp[Ne.symm c6]),nd,n2,bW,fun j=>?_⟩
 ·rw[LB (by omega)] at hc;show Obj s' P.nw (row (64*P.N) fun j=>int (if j=i.toNat then v else P.w j));rw[show (fun j=>int (if j=i.toNat then v else P.w j))=(fun j=>if j=i.toNat then int v else int (P.w j)) from funext fun j=>by split <;> rfl]
  exact hc
 ·show i64 (if j=i.toNat then v else P.w j);split
  ·exact hv
  ·exact wr j
theorem bS.qd {s:St} (hs:Ok s) (H:bS s h P) {i v:Int} (h0:0≤i) (h1:i<64*P.N) (hv:i64 v):∃ s',dB s ⟨P.nw,i.toNat,none⟩ [int v]=some s'∧bS s' h (P.mH i v)∧aC [P.nw] s s':=by
 obtain⟨s',h2,h3,h4⟩:=H.cw.gJ hs (i:=i.toNat) (v:=int v) (by rw[iZ];omega) rfl;exact⟨s',h2,H.mH h0 h1 hv h4 h3,h4⟩
def PH.iQ (P:PH) (a i to:Int):Int:=if P.gA a i false=0 then(if to≠0∧P.has to=false then 1 else 0) else P.gA a i false
def PH.setRef (P:PH) (a i to:Int):PH:=if P.iQ a i to=0 then P.mH (P.kI a i false) to else P
theorem nZ:type_of% (An @RX<|An @jW<|An @dF<|An @dE<|@jG):=An @RX<|An @jW<|An @dF<|An @dE<|@jG
theorem X2 (hs:Ok s) (H:bS s h P) (G:P.cM) (a i to:Int) (ha:i64 a) (ht:i64 to) (hΦ:∀ s',bS s' h (P.setRef a i to)→aC [P.nw] s s'→Φ (int (P.iQ a i to)) s'):okF q X (KO kc) 43 [ptr h,int a,int i,int to] s Φ:=by
 unfold PH.setRef at hΦ;refine aV rfl F2 rfl (rs:=[.tmp 8]) rfl (N:=36) rfl rfl ?_;refine aA fun bB aF aZ=>?_;simp only[nZ,seval];refine aF _ _ ?_;refine aA fun Ψ1 aE aK=>?_;simp only[nZ,seval];refine aJ ?_ (ff hs H a i ha false fun s2 k2=>?_)
 ·simp only[nZ,seval]
 have H2:=H.aL k2;by_cases he:P.gA a i false=0
 ·obtain⟨_,_,_,f4,f5⟩:=PH.CW G he;have g2:P.kI a i false<((64*P.N:Nat):Int):=by omega
  have Dc:∀ s3,aC [] s s3→P.iQ a i to=0→∃ s4,dB s3 ⟨P.nw,(P.kI a i false).toNat,none⟩ [int to]=some s4∧Φ (int 0) s4:=by
   intro s3 k3 hz;obtain⟨s4,h4,H4,k4⟩:=(H.aL k3).qd k3.ok f5 (by omega) ht;refine⟨s4,h4,?_⟩;have:=hΦ s4 (by rw[if_pos hz];exact H4) (k3.any.trans k4);rw[hz] at this;exact this
  rw[he];simp only[nZ,seval];refine aE _ _ ?_;refine aA fun Ψ2 aH bM=>?_;refine aA fun Ψ3 aM bN=>?_;simp only[nZ,seval];refine aM _ _ ?_;simp only[nZ,seval];refine aH _ _ ?_;refine aA fun Ψ4 aQ bZ=>?_;refine aA fun cP bI cF=>?_;refine cK [(2,23)] (by kernel_rfl) fun O hO bK hR=>?_;have y2:∀ a,aN O a 2=bC (a.aB 23):=hO (2,23) (by simp);by_cases h0:to=0
  ·have hz:P.iQ a i to=0:=by unfold PH.iQ;rw[if_pos he,if_neg (by simp[h0])]
   have e0:(to==0)=true:=by simpa using h0
   obtain⟨s4,h4,hf⟩:=Dc s2 k2 hz;simp only[nZ,seval,y2,e0];refine hR _ _ (bI _ _ ?_);simp only[nZ,seval];refine aQ _ _ ?_;simp only[nZ,seval,H2.l1,f5,g2,and_self,bJ,Nat.zero_add,Nat.mul_one,h4];exact hf
  ·have e0:(to==0)=false:=by simpa using h0
   simp only[nZ,seval,y2,e0];refine aJ ?_ (FY k2.ok H2 to ht fun s3 k3=>?_)
   ·simp only[nZ,seval]
   have nJ:=k2.trans k3;have H3:=H.aL nJ;cases hh:P.has to with
   | false =>
    have hz:P.iQ a i to=1:=by unfold PH.iQ;rw[if_pos he,if_pos ⟨h0,hh⟩]
    simp only[nZ,seval,y2];refine hR _ _ (bI _ _ ?_);simp only[nZ,seval];refine bZ _ _ _ (by simp) ?_;simp only[nZ,seval];have:=hΦ s3 (by rw[if_neg (by omega)];exact H3) nJ.any;rw[hz] at this;exact this
   | true =>
    have hz:P.iQ a i to=0:=by unfold PH.iQ;rw[if_pos he,if_neg (by simp[hh])]
    obtain⟨s4,h4,hf⟩:=Dc s3 nJ hz;simp only[nZ,seval,y2];refine hR _ _ (bI _ _ ?_);simp only[nZ,seval];refine aQ _ _ ?_;simp only[nZ,seval,H3.l1,f5,g2,and_self,bJ,Nat.zero_add,Nat.mul_one,h4];exact hf
 ·have hb:(P.gA a i false==0)=false:=by simpa using he
  have hz:P.iQ a i to=P.gA a i false:=by unfold PH.iQ;rw[if_neg he]
  have:=hΦ s2 (by rw[if_neg (by rw[hz];exact he)];exact H2) k2.any;rw[hz] at this;simp only[nZ,seval];refine aE _ _ ?_;refine aA fun Ψ2 aH bM=>?_;refine aA fun Ψ3 aM bN=>?_;simp only[nZ,seval,hb];refine aM _ _ ?_;simp only[nZ,seval];refine bM _ _ _ (by simp) ?_;simp only[nZ,seval];exact this
theorem bS.Nl {s s':St} {Q':Nat→Nat} (H:bS s h P) (k:aC [P.pu] s s') (ht:eZ s' P.pt P.pu (32*P.N) 1 Q'):bS s' h {P with Q:=Q'}:=by
 obtain⟨c,cb,cw,ts,tp,mp,mf,nd,n2,bW,wr⟩:=H;have pC:=nd;simp only[List.nodup_cons,List.mem_cons,List.not_mem_nil,or_false,not_or,List.nodup_nil,not_false_eq_true,and_true] at pC;obtain⟨⟨a1,a2,a3,a4,a5,a6,a7,a8⟩,⟨b1,b2,b3,b4,b5,b6,b7⟩,⟨c1,c2,c3,c4,c5,c6⟩,⟨d1,d2,d3,d4,d5⟩,⟨e1,e2,e3,e4⟩,⟨f1,f2,f3⟩,⟨g1,g2⟩,_⟩:=pC;exact⟨c.aD k (by simp[a6]),cb.aD k (by simp[b5]),cw.aD k (by simp[c4]),ts.aD k (by simp[d3]) (by simp[e2]),ht,mp.aD k (by simp[Ne.symm g1]),mf.aD k (by simp[Ne.symm g2]),nd,n2,bW,wr⟩
def PH.gH (P:PH) (a:Int) (v:Nat):PH:=if P.has a=true then {P with Q:=jB P.Q (a/2).toNat v} else P
theorem vU:type_of% (An @RX<|An @CN<|@jX):=An @RX<|An @CN<|@jX
theorem X9 (hs:Ok s) (H:bS s h P) (a:Int) (ha:i64 a) {v:Nat} (hv:v<2) (hΦ:∀ s',bS s' h (P.gH a v)→aC [P.pu] s s'→Φ (int (if P.has a=true then 0 else 4)) s'):okF q X (KO kc) 153 [ptr h,int a,int v] s Φ:=by
 unfold PH.gH at hΦ;refine aV rfl a9 rfl (rs:=[.tmp 6]) rfl (N:=22) rfl rfl ?_;refine aA fun bB aF aZ=>?_;simp only[vU,seval];refine aF _ _ ?_;refine aA fun Ψ1 aE aK=>?_;refine aA fun Ψ2 aH bM=>?_;simp only[vU,seval];refine aJ ?_ (NO hs H a ha fun s2 k2=>?_)
 ·simp only[vU,seval]
 have H2:=H.aL k2;cases hh:P.has a with
 | false =>
  rw[hh] at hΦ;simp only[vU,seval];refine aH _ _ ?_;simp only[vU,seval];refine aK _ _ _ (by simp) ?_;simp only[vU,seval];exact hΦ _ H2 k2.any
 | true =>
  have hb:=PH.iN.1 hh;have bW:=H.bW;rw[hh] at hΦ;have e2:IntKind.i64.wrap (a.tdiv 2)=a/2:=by rw[Int.tdiv_eq_ediv_of_nonneg (by omega),aU (by omega) (by omega)]
  simp only[vU,seval];refine aH _ _ ?_;simp only[vU,seval];refine aE _ _ ?_;refine aA fun Ψ3 aM bN=>?_;simp only[vU,seval,H2.l3,e2];refine aJ ?_ (QB (i:=a/2) k2.ok H2.tp (i':=(a/2).toNat) (v':=v) (by omega) rfl (by omega) (by omega) fun s3 h3 k3=>?_)
  ·simp only[vU,seval]
  try simp only[vU,seval]
  refine aM _ _ ?_;simp only[vU,seval];exact hΦ _ (H2.Nl k3 h3) (k2.any.trans k3)
theorem QV:type_of% (An @RC<|An @RO<|An @RD<|An @RV<|An @RB<|@RG):=An @RC<|An @RO<|An @RD<|An @RV<|An @RB<|@RG
theorem W9 (hs:Ok s) (H:bS s h P) (a:Int) (ha:i64 a) (hΦ:∀ s',bS s' h (P.gH a 1)→aC [P.pu] s s'→Φ (int (if P.has a=true then 0 else 4)) s'):okF q X (KO kc) 61 [ptr h,int a] s Φ:=by
 refine aV rfl I2 rfl (rs:=[.tmp 4]) rfl (N:=8) rfl rfl ?_;refine aA fun bB aF aZ=>?_;simp only[QV,seval];refine aF _ _ ?_;refine aA fun Ψ1 aE aK=>?_;simp only[QV,seval];refine aJ ?_ (X9 hs H a ha (v:=1) (by omega) fun s2 h2 k2=>?_)
 ·simp only[QV,seval,(show ((1:Nat):Int)=1 from rfl)]
 try simp only[QV,seval]
 refine aE _ _ ?_;simp only[QV,seval];exact hΦ _ h2 k2
end
end Go.Dust
