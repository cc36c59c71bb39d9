/- VerifySound walked in D, function by function, and its plain law (H7 F8). -/
import Derived.Test.YtaoiejcaopgjcaaGreat3
import Derived.Test.YtaoiejcaopgjcaaGreat1
set_option linter.unusedVariables false
set_option linter.unusedSimpArgs false
open Nat renaming reduceEqDiff → zA, reduceMul → zB, reduceAdd → zC, reduceBEq → zD
open Int renaming reduceEq → zE, reduceBEq → zF
namespace Go.Dust
open Go.Proofs
set_option maxRecDepth 100000
set_option maxHeartbeats 4000000
section
variable {kc:Kc} {q:Bool} {s:St} {Φ:Value→St→Prop} {g:Nat} {G:lM} {P:PH}
theorem JG {a n b:Int} (h:a<0∨a≥64*P.N∨a%2≠0):P.nA a n b=1:=by unfold PH.nA;rw[if_pos h]
theorem rE {a n b:Int} (h0:¬ (a<0∨a≥64*P.N∨a%2≠0)) (h:if n≤32 then P.bs (a/64).toNat≠1∨(a+n-1)/64≠a/64 else P.bs (a/64).toNat≠2∨a%64≠0∨(P.span (a/64).toNat:Int)≠(n+63)/64):P.nA a n b=5:=by
 unfold PH.nA;rw[if_neg h0,if_pos h]
theorem mn {a n b:Int} (h0:¬ (a<0∨a≥64*P.N∨a%2≠0)) (h:¬ if n≤32 then P.bs (a/64).toNat≠1∨(a+n-1)/64≠a/64 else P.bs (a/64).toNat≠2∨a%64≠0∨(P.span (a/64).toNat:Int)≠(n+63)/64):P.nA a n b=if P.HL a b ((n+1)/2).toNat=true then 8 else 0:=by
 unfold PH.nA;rw[if_neg h0,if_neg h]
theorem bA:type_of% (An @RX<|An @fC<|An @jY<|An @iY<|An @gV<|An @pP<|An @lW<|An @bF<|An @eK<|An @jA<|An @oO<|An @jX<|An @RF<|An @rr<|An @aA2<|An @UZ<|An @lS<|@tF):=An @RX<|An @fC<|An @jY<|An @iY<|An @gV<|An @pP<|An @lW<|An @bF<|An @eK<|An @jA<|An @oO<|An @jX<|An @RF<|An @rr<|An @aA2<|An @UZ<|An @lS<|@tF
theorem zf (hs:Ok s) (H:cN s g G) (S:lO P G) (I:P.Inv) (a:Int) (ha:i64 a) (x:iV) (hx:x.valid=true) (hΦ:∀ s',aC [] s s'→Φ (int (P.nA a x.words (-1))) s'):okF q X (KO kc) 216 [ptr g,int a,jL x,int 0] s Φ:=by
 have iJ:=H.iJ
 have hN:=S.N
 have hw:=iV.eD hx
 have hw2:=x.nU
 have hlen:=H.len
 have GG:=I.cZ
 have wN:IntKind.i64.wrap ((G.N:Int)*64)=(G.N:Int)*64:=aR (by omega) (by omega)
 refine aG rfl fn_216 rfl (rs:=[.tmp 8]) rfl (N:=113) rfl rfl ?_
 refine aA fun Ψ0 hΨ0 hΨ0'=>?_
 simp only[bA,↓reduceIte,zA,reduceCtorEq,zE,zB,zC,zD,zF]
 obtain⟨s1,e1,k1,c1,n1⟩:=aT hs (L:=[int x.r,int x.d,int x.k]) (n:=3) (e:=44) rfl
 rw[e1]
 refine hΨ0 _ _ ?_
 have H1:=H.aN k1
 have lsh:=c1.aS (i:=0) (k:=3) (Nat.le_refl _)
 refine aA fun Ψ1 hΨ1 hΨ1'=>?_
 refine aA fun Ψ2 hΨ2 hΨ2'=>?_
 refine aH [(2,14),(7,19)] (by kernel_rfl) fun O hO ΨR hR=>?_
 have y2:∀ a,aE O a 2=aM (a.aD 14):=hO (2,14) (by simp)
 have y7:∀ a,aE O a 7=aM (a.aD 19):=hO (7,19) (by simp)
 by_cases g1:a<0
 ·rw[JG (.inl g1)] at hΦ
  simp only[bA,↓reduceIte,zA,reduceCtorEq,zE,zB,zC,zD,zF,y2,y7,g1,decide_true]
  refine hR _ _ (hΨ2 _ _ ?_)
  simp only[bA,↓reduceIte,zA,reduceCtorEq,zE,zB,zC,zD,zF]
  refine hΨ1' _ _ _ (by simp) ?_
  simp only[bA,↓reduceIte,zA,reduceCtorEq,zE,zB,zC,zD,zF]
  exact hΦ _ k1
 have tm:a.tmod 2=a%2:=Int.tmod_eq_emod_of_nonneg (by omega)
 by_cases g2:a%2=0
 ·by_cases g3:a≥(G.N:Int)*64
  ·rw[JG (.inr (.inl (by omega)))] at hΦ
   simp only[bA,↓reduceIte,zA,reduceCtorEq,zE,zB,zC,zD,zF,y2,y7,g1,tm,g2,H1.l0,wN,g3,decide_true,decide_false]
   refine hR _ _ (hΨ2 _ _ ?_)
   simp only[bA,↓reduceIte,zA,reduceCtorEq,zE,zB,zC,zD,zF]
   refine hΨ1' _ _ _ (by simp) ?_
   simp only[bA,↓reduceIte,zA,reduceCtorEq,zE,zB,zC,zD,zF]
   exact hΦ _ k1
  have h0:¬ (a<0∨a≥64*P.N∨a%2≠0):=by omega
  simp only[bA,↓reduceIte,zA,reduceCtorEq,zE,zB,zC,zD,zF,y2,y7,g1,tm,g2,H1.l0,wN,g3,decide_false]
  refine hR _ _ (hΨ2 _ _ ?_)
  simp only[bA,↓reduceIte,zA,reduceCtorEq,zE,zB,zC,zD,zF]
  refine hΨ1 _ _ ?_
  have td:IntKind.i64.wrap (a.tdiv 64)=((a/64).toNat:Int):=by rw[Int.tdiv_eq_ediv_of_nonneg (by omega),aR (by omega) (by omega)];omega
  obtain⟨b,hb⟩:∃ b,b=(a/64).toNat:=⟨_,rfl⟩
  rw[← hb] at td
  have hbN:b<G.N:=by omega
  have q1:(0:Int)≤(b:Int):=Int.natCast_nonneg _
  have q2:(b:Int)<(G.N:Int):=by omega
  refine aA fun Ψ3 hΨ3 hΨ3'=>?_
  simp only[bA,↓reduceIte,zA,reduceCtorEq,zE,zB,zC,zD,zF,td]
  refine hΨ3 _ _ ?_
  refine aA fun Ψ4 hΨ4 hΨ4'=>?_
  refine aA fun Ψ5 hΨ5 hΨ5'=>?_
  simp only[bA,↓reduceIte,zA,reduceCtorEq,zE,zB,zC,zD,zF,lsh,List.drop_zero,List.take]
  refine aB ?_ (EF k1.ok x fun s2 k2=>?_)
  ·simp only[bA,↓reduceIte,zA,reduceCtorEq,zE,zB,zC,zD,zF]
  simp only[bA,↓reduceIte,zA,reduceCtorEq,zE,zB,zC,zD,zF]
  refine hΨ5 _ _ ?_
  have k02:=k1.trans k2
  have H2:=H1.aN k2
  have c2:=c1.aF k2 (by simp)
  have lsh2:=c2.aS (i:=0) (k:=3) (Nat.le_refl _)
  have l2:=H2.lb (i:=b) hbN
  have rest:∀ (a':bD) (s':St),(¬ if x.words≤32 then P.bs (a/64).toNat≠1∨(a+x.words-1)/64≠a/64 else P.bs (a/64).toNat≠2∨a%64≠0∨(P.span (a/64).toNat:Int)≠(x.words+63)/64) →
    a'.aD 0=ptr g→a'.aD 1=int a→a'.aD 3=int 0→a'.aD 6=ptr s.next→aC [] s2 s'→Ψ4 .normal a' s':=by
   intro a' s' hst r0 r1 r3 r6 hk
   rw[mn h0 hst] at hΦ
   have HL:=PH.gi GG (a:=a) (n:=x.words) g2 (by omega) hw2.2.2 (by omega)
   refine hΨ4 _ _ ?_
   have k0':=k02.trans hk
   have lsh':=(c2.aF hk (by simp)).aS (i:=0) (k:=3) (Nat.le_refl _)
   have H3:=H2.aN hk
   refine aA fun Ψ6 hΨ6 hΨ6'=>?_
   refine aA fun Ψ7 hΨ7 hΨ7'=>?_
   simp only[bA,↓reduceIte,zA,reduceCtorEq,zE,zB,zC,zD,zF]
   refine hΨ7 _ _ ?_
   refine aL fun Ψ8 hΨ8 hΨ8e hΨ8'=>?_
   refine fY (n:=G.L.length) (fun j a' s3=>a'.aD 0=ptr g∧a'.aD 1=int a∧a'.aD 3=int 0∧a'.aD 6=ptr s.next∧a'.aD 10=int j∧aC [] s' s3∧∀ k (hk:k<G.L.length),k<j→¬ (G.L[k].a<a+x.words∧a<G.L[k].a+P.size G.L[k].a))
    (fun j a' s3=>a'.aD 0=ptr g∧a'.aD 1=int a∧a'.aD 3=int 0∧a'.aD 6=ptr s.next∧a'.aD 10=int j∧aC [] s' s3∧∀ k (hk:k<G.L.length),k<j+1→¬ (G.L[k].a<a+x.words∧a<G.L[k].a+P.size G.L[k].a)) ?_ ?_ ?_ ?_ (Nat.zero_le _) ?_
   ·rintro j a' s3 hj ⟨r0,r1,r3,r6,r10,hk3,hn⟩ Ψ' hΨ'
    simp only[bA,↓reduceIte,zA,reduceCtorEq,zE,zB,zC,zD,zF,r0,r10,(H3.aN hk3).l1]
    refine hΨ' _ _ (decide ((j:Int)<G.L.length)) ?_ (by simp) ⟨?_,?_,?_,?_,?_,hk3,hn⟩
    all_goals simp only[bA,↓reduceIte,zA,reduceCtorEq,zE,zB,zC,zD,zF,r0,r1,r3,r6,r10]
   ·rintro j a' s3 hj ⟨r0,r1,r3,r6,r10,hk3,hn⟩ Ψ' w1 w2 w3
    have H4:=H3.aN hk3
    obtain⟨vb,voff,hv⟩:=H4.addr (show 0<G.L.length by omega)
    have p1:(0:Int)≤(j:Int):=Int.natCast_nonneg _
    have p2:(j:Int)<((G.L.length:Nat):Int):=by omega
    have l1:=H4.l1
    rw[hv] at l1
    have lN:=H4.lN hv hj
    obtain⟨o,ho⟩:∃ o,o=G.L[j]:=⟨_,rfl⟩
    rw[← ho] at lN
    have hom:o∈G.L:=by rw[ho];exact List.getElem_mem _
    have hoh:=S.L.has hom
    have hok:=S.L.ok o hom
    have hsz:P.size o.a=o.sh.words:=by unfold PH.size;rw[hok.sh]
    have hv1:=(GG.val _ hoh).1
    rw[← hok.sh] at hv1
    have hrange:=PH.size_pos GG hoh
    have hid:=I.id _ hoh
    rw[← hok.id] at hid
    have n64':=I.iJ
    refine aA fun Ψ9 hΨ9 hΨ9'=>?_
    obtain⟨t1,e1',u1,d1,v1⟩:=aT hk3.ok (L:=[int 0,int 0,int 0,int 0,int 0,.slice none 0 0,.slice none 0 0,.bool false]) (n:=8) (e:=133) rfl
    obtain⟨t2,e2',d2,u2⟩:=d1.storeAll u1.ok (vs:=o.C) rfl rfl
    have u12:aC [] s3 t2:=u1.step u2 fun y hy=>.inr (by rw[List.mem_singleton.1 hy];exact hk3.ok.fresh _ (Nat.le_refl _))
    unfold cV.C at e2' lN
    simp only[bA,↓reduceIte,zA,reduceCtorEq,zE,zB,zC,zD,zF,r0,r10,l1,p1,p2,and_self,aJ,Int.toNat_natCast,lN]
    rw[e1',e2']
    simp only[bA,↓reduceIte,zA,reduceCtorEq,zE,zB,zC,zD,zF]
    refine hΨ9 _ _ ?_
    have la:aI t2.look ⟨s3.next,0,none⟩=some (int o.a):=d2.load rfl
    have li:aI t2.look ⟨s3.next,1,none⟩=some (int o.id):=d2.load rfl
    have ls:aS t2.look ⟨s3.next,2,none⟩ 3=some [int o.sh.r,int o.sh.d,int o.sh.k]:=d2.aS (i:=2) (k:=3) (by simp[cV.C])
    have hk4:=hk3.trans u12
    have lsh4:aS t2.look ⟨s.next,0,none⟩ 3=some [int x.r,int x.d,int x.k]:=((c2.aF hk (by simp)).aF hk4 (by simp)).aS (i:=0) (k:=3) (Nat.le_refl _)
    have hne0:(o.id==0)=false:=by rw[beq_eq_false_iff_ne];omega
    have wx:IntKind.i64.wrap (a+x.words)=a+x.words:=aR (by omega) (by omega)
    have wo:IntKind.i64.wrap (o.a+o.sh.words)=o.a+o.sh.words:=aR (by omega) (by omega)
    refine aA fun Ψ10 hΨ10 hΨ10'=>?_
    refine aQ [(6,9),(16,19)] [s3.next] [(4,94),(13,103)] (by kernel_rfl) (by kernel_rfl) (by rfl) fun O hO ΨR hR=>?_
    have y4:∀ a,aE O a 4=aM (a.aD 94):=hO (4,94) (by simp)
    have y13:∀ a,aE O a 13=aM (a.aD 103):=hO (13,103) (by simp)
    simp only[bA,↓reduceIte,zA,reduceCtorEq,zE,zB,zC,zD,zF,y4,y13,li,r3,hne0,la,r1,r6,lsh4]
    refine aW ?_ (oH (u12.ok.skip _) x fun s5 k5=>?_)
    ·simp only[bA,↓reduceIte,zA,reduceCtorEq,zE,zB,zC,zD,zF]
    have u5:aC [] t2 s5:=(aC.skip u12.ok _).trans k5
    have d5:=d2.aF u5 (by simp)
    have la5:aI s5.look ⟨s3.next,0,none⟩=some (int o.a):=d5.load rfl
    have ls5:aS s5.look ⟨s3.next,2,none⟩ 3=some [int o.sh.r,int o.sh.d,int o.sh.k]:=d5.aS (i:=2) (k:=3) (by simp[cV.C])
    have hsm:bP (t2.skip 46) s5 s3.next=true:=(d2.aF (aC.skip (F:=[]) u12.ok _) (by simp)).same (u12.ok.skip _) k5 (by simp)
    by_cases hc1:o.a<a+x.words
    ·simp only[bA,↓reduceIte,zA,reduceCtorEq,zE,zB,zC,zD,zF,y4,y13,wx,hc1,decide_true,la5,ls5,r1]
     refine⟨aV hsm bR,?_⟩
     refine aW ?_ (oH u5.ok o.sh fun s6 k6=>?_)
     ·simp only[bA,↓reduceIte,zA,reduceCtorEq,zE,zB,zC,zD,zF]
     have hsm2:bP s5 s6 s3.next=true:=d5.same u5.ok k6 (by simp)
     have hk6:=(hk4.trans u5).trans k6
     by_cases hc2:a<o.a+o.sh.words
     ·simp only[bA,↓reduceIte,zA,reduceCtorEq,zE,zB,zC,zD,zF,y4,y13,wo,hc2,decide_true,r1]
      refine⟨aV hsm2 bR,hR _ _ (hΨ10 _ _ ?_)⟩
      simp only[bA,↓reduceIte,zA,reduceCtorEq,zE,zB,zC,zD,zF]
      refine w3 _ _ _ (by simp) (by simp) (hΨ8' _ _ _ (by simp) (by simp) (hΨ6' _ _ _ (by simp) ?_))
      simp only[bA,↓reduceIte,zA,reduceCtorEq,zE,zB,zC,zD,zF]
      have hh:P.HL a (-1) ((x.words+1)/2).toNat=true:=HL.2 ⟨o.a,hoh,hc1,by rw[hsz];exact hc2⟩
      rw[if_pos hh] at hΦ
      exact hΦ _ (k0'.trans hk6)
     ·simp only[bA,↓reduceIte,zA,reduceCtorEq,zE,zB,zC,zD,zF,y4,y13,wo,hc2,decide_false,r1]
      refine⟨aV hsm2 bR,hR _ _ (hΨ10 _ _ ?_)⟩
      simp only[bA,↓reduceIte,zA,reduceCtorEq,zE,zB,zC,zD,zF]
      refine w1 _ _ ⟨?_,?_,?_,?_,?_,hk6,fun k hkl hkj=>?_⟩
      ·simp only[bA,↓reduceIte,zA,reduceCtorEq,zE,zB,zC,zD,zF,r0]
      ·simp only[bA,↓reduceIte,zA,reduceCtorEq,zE,zB,zC,zD,zF,r1]
      ·simp only[bA,↓reduceIte,zA,reduceCtorEq,zE,zB,zC,zD,zF,r3]
      ·simp only[bA,↓reduceIte,zA,reduceCtorEq,zE,zB,zC,zD,zF,r6]
      ·simp only[bA,↓reduceIte,zA,reduceCtorEq,zE,zB,zC,zD,zF,r10]
      ·by_cases e:k=j
       ·subst e
        rw[← ho,hsz]
        exact fun h=>hc2 h.2
       ·exact hn k hkl (by omega)
    ·simp only[bA,↓reduceIte,zA,reduceCtorEq,zE,zB,zC,zD,zF,y4,y13,wx,hc1,decide_false]
     refine⟨aV hsm bR,hR _ _ (hΨ10 _ _ ?_)⟩
     simp only[bA,↓reduceIte,zA,reduceCtorEq,zE,zB,zC,zD,zF]
     refine w1 _ _ ⟨?_,?_,?_,?_,?_,hk4.trans u5,fun k hkl hkj=>?_⟩
     ·simp only[bA,↓reduceIte,zA,reduceCtorEq,zE,zB,zC,zD,zF,r0]
     ·simp only[bA,↓reduceIte,zA,reduceCtorEq,zE,zB,zC,zD,zF,r1]
     ·simp only[bA,↓reduceIte,zA,reduceCtorEq,zE,zB,zC,zD,zF,r3]
     ·simp only[bA,↓reduceIte,zA,reduceCtorEq,zE,zB,zC,zD,zF,r6]
     ·simp only[bA,↓reduceIte,zA,reduceCtorEq,zE,zB,zC,zD,zF,r10]
     ·by_cases e:k=j
      ·subst e
       rw[← ho]
       exact fun h=>hc1 h.1
      ·exact hn k hkl (by omega)
   ·rintro j a' s3 hj ⟨r0,r1,r3,r6,r10,hk3,hn⟩ Ψ' w1
    have w:IntKind.i64.wrap ((j:Int)+1)=((j+1:Nat):Int):=by rw[aR (by omega) (by omega)];rfl
    simp only[bA,↓reduceIte,zA,reduceCtorEq,zE,zB,zC,zD,zF,r10,w]
    refine w1 _ _ ⟨?_,?_,?_,?_,?_,hk3,hn⟩
    all_goals try simp only[bA,↓reduceIte,zA,reduceCtorEq,zE,zB,zC,zD,zF,r0,r1,r3,r6]
   ·rintro a' s3 ⟨r0,r1,r3,r6,r10,hk3,hn⟩
    refine hΨ8e _ _ (hΨ6 _ _ ?_)
    have hh:¬ P.HL a (-1) ((x.words+1)/2).toNat=true:=fun h=>by
     obtain⟨o,ho,h1,h2⟩:=HL.1 h
     obtain⟨u,hu,rfl⟩:=S.L.mem.2 ho
     obtain⟨i,hi,rfl⟩:=List.mem_iff_getElem.1 hu
     exact hn i hi hi ⟨h1,h2⟩
    rw[if_neg hh] at hΦ
    simp only[bA,↓reduceIte,zA,reduceCtorEq,zE,zB,zC,zD,zF]
    exact hΦ _ (k0'.trans hk3)
   ·refine⟨?_,?_,?_,?_,?_,.refl hk.ok,fun k hk h=>absurd h (Nat.not_lt_zero _)⟩
    all_goals try simp only[bA,↓reduceIte,zA,reduceCtorEq,zE,zB,zC,zD,zF,r0,r1,r3,r6]
    rfl
  by_cases hl:x.words>32
  ·have hl':¬ x.words≤32:=by omega
   have tm6:a.tmod 64=a%64:=Int.tmod_eq_emod_of_nonneg (by omega)
   simp only[if_neg hl'] at rest
   simp only[bE,RV,RG,↓reduceIte,zA,reduceCtorEq,zE,zB,zC,zD,zF,hl,decide_true]
   refine aA fun Ψ20 hΨ20 hΨ20'=>?_
   refine aQ [(18,17)] [s.next] [(3,36),(14,47)] (by kernel_rfl) (by kernel_rfl) (by rfl) fun O hO ΨR hR=>?_
   have y3:∀ a,aE O a 3=aM (a.aD 36):=hO (3,36) (by simp)
   have y14:∀ a,aE O a 14=aM (a.aD 47):=hO (14,47) (by simp)
   by_cases e1:a%64=0
   ·have e1':(a%64==0)=true:=by simpa using e1
    by_cases e2:G.bs b=2
    ·simp only[bA,↓reduceIte,zA,reduceCtorEq,zE,zB,zC,zD,zF,y3,y14,tm6,e1',H2.l0,q1,q2,and_self,aJ,Int.toNat_natCast,Nat.zero_add,l2,e2,beq_self_eq_true]
     have e2n:¬ G.bs b=1:=by omega
     have hsp:P.span b=eM G.bs (b+1) (G.N-(b+1))+1:=by
      unfold PH.span
      rw[← S.bs,if_pos e2,S.N]
     have ks:aC [] s2 (s2.skip 44):=aC.skip k2.ok _
     have hsm:bP (s2.skip 44) (s2.skip 44) s.next=true:=(c2.aF ks (by simp)).same ks.ok (.refl ks.ok) (F:=[]) (by simp)
     refine aW ?_ (qd (H2.aN ks) hbN ?_)
     ·simp only[bA,↓reduceIte,zA,reduceCtorEq,zE,zB,zC,zD,zF]
     rw[if_neg e2n,if_pos e2,← hsp]
     simp only[bA,↓reduceIte,zA,reduceCtorEq,zE,zB,zC,zD,zF,y3,y14,lsh2,List.drop_zero,List.take]
     refine⟨aV hsm bR,?_⟩
     refine aW ?_ (LB ks.ok x fun s3 k3=>?_)
     ·simp only[bA,↓reduceIte,zA,reduceCtorEq,zE,zB,zC,zD,zF]
     have k23:=ks.trans k3
     by_cases e3:(P.span b:Int)=(x.words+63)/64
     ·simp only[bA,↓reduceIte,zA,reduceCtorEq,zE,zB,zC,zD,zF,y3,y14,e3,beq_self_eq_true]
      refine hR _ _ (hΨ20 _ _ ?_)
      simp only[bA,↓reduceIte,zA,reduceCtorEq,zE,zB,zC,zD,zF]
      refine rest _ _ (by rw[← hb,← S.bs];omega) ?_ ?_ ?_ ?_ k23
      all_goals simp only[bA,↓reduceIte,zA,reduceCtorEq,zE,zB,zC,zD,zF]
     ·have e3':((P.span b:Int)==(x.words+63)/64)=false:=by simpa using e3
      rw[rE h0 (by rw[if_neg hl',← hb];exact .inr (.inr e3))] at hΦ
      simp only[bA,↓reduceIte,zA,reduceCtorEq,zE,zB,zC,zD,zF,y3,y14,e3']
      refine hR _ _ (hΨ20 _ _ ?_)
      simp only[bA,↓reduceIte,zA,reduceCtorEq,zE,zB,zC,zD,zF]
      refine hΨ4' _ _ _ (by simp) ?_
      simp only[bA,↓reduceIte,zA,reduceCtorEq,zE,zB,zC,zD,zF]
      exact hΦ _ (k02.trans k23)
    ·have e2':(G.bs b==2)=false:=by simpa using e2
     rw[rE h0 (by rw[if_neg hl',← hb,← S.bs];exact .inl e2)] at hΦ
     simp only[bA,↓reduceIte,zA,reduceCtorEq,zE,zB,zC,zD,zF,y3,y14,tm6,e1',H2.l0,q1,q2,and_self,aJ,Int.toNat_natCast,Nat.zero_add,l2,e2']
     refine hR _ _ (hΨ20 _ _ ?_)
     simp only[bA,↓reduceIte,zA,reduceCtorEq,zE,zB,zC,zD,zF]
     refine hΨ4' _ _ _ (by simp) ?_
     simp only[bA,↓reduceIte,zA,reduceCtorEq,zE,zB,zC,zD,zF]
     exact hΦ _ (k02.cB _)
   ·have e1':(a%64==0)=false:=by simpa using e1
    rw[rE h0 (by rw[if_neg hl'];exact .inr (.inl e1))] at hΦ
    simp only[bA,↓reduceIte,zA,reduceCtorEq,zE,zB,zC,zD,zF,y3,y14,tm6,e1']
    refine hR _ _ (hΨ20 _ _ ?_)
    simp only[bA,↓reduceIte,zA,reduceCtorEq,zE,zB,zC,zD,zF]
    refine hΨ4' _ _ _ (by simp) ?_
    simp only[bA,↓reduceIte,zA,reduceCtorEq,zE,zB,zC,zD,zF]
    exact hΦ _ (k02.cB _)
  ·have hl':x.words≤32:=by omega
   simp only[if_pos hl'] at rest
   simp only[bE,RV,RG,↓reduceIte,zA,reduceCtorEq,zE,zB,zC,zD,zF,hl,decide_false]
   refine aA fun Ψ20 hΨ20 hΨ20'=>?_
   refine aH [(9,64)] (by kernel_rfl) fun O hO ΨR hR=>?_
   have y9:∀ a,aE O a 9=aM (a.aD 64):=hO (9,64) (by simp)
   by_cases e2:G.bs b=1
   ·have wx:IntKind.i64.wrap (a+x.words)=a+x.words:=aR (by omega) (by omega)
    have wx1:IntKind.i64.wrap (a+x.words-1)=a+x.words-1:=aR (by omega) (by omega)
    have td1:IntKind.i64.wrap ((a+x.words-1).tdiv 64)=(a+x.words-1)/64:=by rw[Int.tdiv_eq_ediv_of_nonneg (by omega),aR (by omega) (by omega)]
    simp only[bA,↓reduceIte,zA,reduceCtorEq,zE,zB,zC,zD,zF,y9,H2.l0,q1,q2,and_self,aJ,Int.toNat_natCast,Nat.zero_add,l2,e2,beq_self_eq_true,lsh2,List.drop_zero,List.take]
    refine aB ?_ (oH k2.ok x fun s3 k3=>?_)
    ·simp only[bA,↓reduceIte,zA,reduceCtorEq,zE,zB,zC,zD,zF]
    by_cases e3:(a+x.words-1)/64=a/64
    ·have e3':((a+x.words-1)/64==(b:Int))=true:=by rw[beq_iff_eq,e3];omega
     simp only[bA,↓reduceIte,zA,reduceCtorEq,zE,zB,zC,zD,zF,y9,wx,wx1,td1,e3']
     refine hR _ _ (hΨ20 _ _ ?_)
     simp only[bA,↓reduceIte,zA,reduceCtorEq,zE,zB,zC,zD,zF]
     refine rest _ _ (by rw[← hb,← S.bs];omega) ?_ ?_ ?_ ?_ k3
     all_goals simp only[bA,↓reduceIte,zA,reduceCtorEq,zE,zB,zC,zD,zF]
    ·have e3':((a+x.words-1)/64==(b:Int))=false:=by rw[beq_eq_false_iff_ne];omega
     rw[rE h0 (by rw[if_pos hl'];exact .inr e3)] at hΦ
     simp only[bA,↓reduceIte,zA,reduceCtorEq,zE,zB,zC,zD,zF,y9,wx,wx1,td1,e3']
     refine hR _ _ (hΨ20 _ _ ?_)
     simp only[bA,↓reduceIte,zA,reduceCtorEq,zE,zB,zC,zD,zF]
     refine hΨ4' _ _ _ (by simp) ?_
     simp only[bA,↓reduceIte,zA,reduceCtorEq,zE,zB,zC,zD,zF]
     exact hΦ _ (k02.trans k3)
   ·have e2':(G.bs b==1)=false:=by simpa using e2
    rw[rE h0 (by rw[if_pos hl',← hb,← S.bs];exact .inl e2)] at hΦ
    simp only[bA,↓reduceIte,zA,reduceCtorEq,zE,zB,zC,zD,zF,y9,H2.l0,q1,q2,and_self,aJ,Int.toNat_natCast,Nat.zero_add,l2,e2']
    refine hR _ _ (hΨ20 _ _ ?_)
    simp only[bA,↓reduceIte,zA,reduceCtorEq,zE,zB,zC,zD,zF]
    refine hΨ4' _ _ _ (by simp) ?_
    simp only[bA,↓reduceIte,zA,reduceCtorEq,zE,zB,zC,zD,zF]
    exact hΦ _ k02
 ·rw[JG (.inr (.inr g2))] at hΦ
  have g2':(a%2==0)=false:=by simpa using g2
  simp only[bA,↓reduceIte,zA,reduceCtorEq,zE,zB,zC,zD,zF,y2,y7,g1,tm,g2',decide_false]
  refine hR _ _ (hΨ2 _ _ ?_)
  simp only[bA,↓reduceIte,zA,reduceCtorEq,zE,zB,zC,zD,zF]
  refine hΨ1' _ _ _ (by simp) ?_
  simp only[bA,↓reduceIte,zA,reduceCtorEq,zE,zB,zC,zD,zF]
  exact hΦ _ k1
end
open Go.Proofs
set_option maxRecDepth 100000
set_option maxHeartbeats 1000000
namespace PH
variable {P:PH}
def lH (P:PH) (L:List PW):PH:=L.foldl (fun P f=>P.setRef f.2.1 f.2.2 0) P
theorem mq (G:P.cZ) {a i:Int} (h:P.mH a i false=0):P.Body a (P.sT a i false):=by
 obtain⟨h1,h2,h3⟩:=HK h
 obtain⟨g1,g2,g3,g4,g5⟩:=uD G h
 exact⟨h1,g2,g3⟩
theorem Inv.setRef (I:P.Inv) (a i to:Int):(P.setRef a i to).Inv:=by
 unfold PH.setRef
 split
 ·rename_i h
  unfold yV at h
  split at h
  ·rename_i h1;exact I.gG (mq I.cZ h1)
  ·rename_i h1;exact absurd h h1
 ·exact I
theorem pH (P:PH) (a i to:Int):(P.setRef a i to).N=P.N∧(∀ b,(P.setRef a i to).has b=P.has b)∧∀ h,(P.setRef a i to).aU h=P.aU h∧(P.setRef a i to).nw=P.nw:=by
 unfold PH.setRef
 split
 ·exact⟨rfl,fun _=>rfl,fun _=>⟨rfl,rfl⟩⟩
 ·exact⟨rfl,fun _=>rfl,fun _=>⟨rfl,rfl⟩⟩
theorem aj (P:PH) (L:List PW) (f:PW):P.lH (L++[f])=(P.lH L).setRef f.2.1 f.2.2 0:=by
 unfold lH
 rw[List.foldl_append];rfl
theorem DY (L:List PW):∀ {P:PH},P.Inv→(P.lH L).Inv∧(P.lH L).N=P.N∧(∀ b,(P.lH L).has b=P.has b)∧∀ h,(P.lH L).aU h=P.aU h∧(P.lH L).nw=P.nw:=by
 induction L with
 | nil=>intro P I;exact⟨I,rfl,fun _=>rfl,fun _=>⟨rfl,rfl⟩⟩
 | cons f L ih =>
  intro P I
  obtain⟨h1,h2,h3,h4⟩:=ih (I.setRef f.2.1 f.2.2 0)
  obtain⟨g1,g2,g3⟩:=P.pH f.2.1 f.2.2 0
  exact⟨h1,h2.trans g1,fun b=>(h3 b).trans (g2 b),fun h=>⟨(h4 h).1.trans (g3 h).1,(h4 h).2.trans (g3 h).2⟩⟩
theorem ZD (hN:P.N≤64):∀ f∈P.bK,i64 f.2.1:=by
 intro f hf
 unfold bK vF vG at hf
 obtain⟨a,ha,hf⟩:=List.mem_flatMap.1 hf
 obtain⟨i,hi,hf⟩:=List.mem_flatMap.1 hf
 unfold BR at hf
 split at hf
 ·rw[List.mem_singleton.1 hf];exact HD P hN ha
 ·cases hf
theorem XG {R:PR}:∀ (L:List tS),(∀ p∈L,P.has (R.get p)=true)→P.MY R L=[]:=by
 intro L h
 unfold MY
 rw[List.flatMap_eq_nil_iff]
 rintro⟨p,i⟩ hp
 have hm:p∈L:=by
  have:=List.mem_zipIdx' hp
  rw[this.2];exact List.getElem_mem _
 rw[if_pos (h p hm)]
end PH
theorem uv (L:List PW) {j:Nat} (hj:j<L.length):((L.flatMap zG).drop (j*3)).take 3=zG L[j]:=by
 induction L generalizing j with
 | nil=>cases hj
 | cons p L ih =>
  cases j with
  | zero=>simp[zG]
  | succ j =>
   rw[List.flatMap_cons,List.drop_append,List.drop_of_length_le (by simp[zG];omega),List.nil_append,show (j+1)*3-(zG p).length=j*3 by simp[zG];omega]
   exact ih (by simpa using hj)
theorem uw (L:List PW):(L.flatMap zG).length=L.length*3:=by
 induction L with
 | nil=>rfl
 | cons p L ih=>rw[List.flatMap_cons,List.length_append,ih,List.length_cons];simp[zG];omega
section
variable {kc:Kc} {q:Bool} {s:St} {Φ:Value→St→Prop} {h r:Nat} {P:PH} {R:PR}
theorem bW:type_of% (An @RX<|An @DW<|An @FK<|An @zN<|An @dm<|An @PC<|An @gf<|An @bF<|An @gg<|An @yB<|An @DT<|An @iH<|An @mY<|An @nO<|An @iN<|@cO):=An @RX<|An @DW<|An @FK<|An @zN<|An @dm<|An @PC<|An @gf<|An @bF<|An @gg<|An @yB<|An @DT<|An @iH<|An @mY<|An @nO<|An @iN<|@cO
theorem zW (hs:Ok s) (H:aP s h P) (A:bB s r R) (I:P.Inv) (hd:∀ x∈R.aU r,x∉P.aU h) (h1:P.bK.length≤1) (hr:∀ p∈R.all,P.has (R.get p)=true) (hq:∀ x∈R.q,P.has x=true)
  (hΦ:∀ va vn vc s',aP s' h (P.lH P.bK)→bB s' r {R with va:=va,vn:=vn,vc:=vc}→(∀ b∈nameOf (.slice va vn vc),b∈R.aU r∨s.next≤b)→aC (P.nw::R.aU r) s s'→Φ (.tuple #[int P.bK.length,int 0]) s'):okF q X (KO kc) 20 [ptr h,ptr r] s Φ:=by
 have G:=I.cZ
 have hrf:P.qN R=[]:=PH.XG R.all hr
 refine aG rfl fn_20 rfl (rs:=[.tmp 4,.tmp 5]) rfl (N:=96) rfl rfl ?_
 refine aA fun Ψ0 hΨ0 hΨ0'=>?_
 simp only[bW,↓reduceIte,zA,reduceCtorEq,zE,zB,zC,zD,zF]
 refine hΨ0 _ _ ?_
 refine aA fun Ψ1 hΨ1 hΨ1'=>?_
 simp only[bW,↓reduceIte,zA,reduceCtorEq,zE,zB,zC,zD,zF]
 refine aB ?_ (sM hs H G h1 ?_)
 ·simp only[bW,↓reduceIte,zA,reduceCtorEq,zE,zB,zC,zD,zF]
 rintro va vc s1 b1 hnm1 k1
 try simp only[bW,↓reduceIte,zA,reduceCtorEq,zE,zB,zC,zD,zF]
 refine hΨ1 _ _ ?_
 refine aA fun Ψ2 hΨ2 hΨ2'=>?_
 simp only[bW,↓reduceIte,zA,reduceCtorEq,zE,zB,zC,zD,zF]
 refine aB ?_ (DI k1.ok (H.aN k1) (A.aN k1) (by rw[hrf];simp) ?_)
 ·simp only[bW,↓reduceIte,zA,reduceCtorEq,zE,zB,zC,zD,zF]
 rintro ra rc s2 b2 hnm2 k2
 rw[hrf]
 try simp only[bW,↓reduceIte,zA,reduceCtorEq,zE,zB,zC,zD,zF]
 refine hΨ2 _ _ ?_
 have k02:=k1.trans k2
 refine aA fun Ψ3 hΨ3 hΨ3'=>?_
 refine aA fun Ψ4 hΨ4 hΨ4'=>?_
 refine aH [(2,31)] (by kernel_rfl) fun O hO ΨR hR=>?_
 have y2:∀ a,aE O a 2=aM (a.aD 31):=hO (2,31) (by simp)
 simp only[bW,↓reduceIte,zA,reduceCtorEq,zE,zB,zC,zD,zF,y2]
 refine hR _ _ (hΨ4 _ _ ?_)
 simp only[bW,↓reduceIte,zA,reduceCtorEq,zE,zB,zC,zD,zF]
 refine hΨ3 _ _ ?_
 refine aA fun Ψ5 hΨ5 hΨ5'=>?_
 refine aA fun Ψ6 hΨ6 hΨ6'=>?_
 simp only[bW,↓reduceIte,zA,reduceCtorEq,zE,zB,zC,zD,zF]
 refine hΨ6 _ _ ?_
 have b1':=b1.aF k2 (by simp)
 have nP:∀ y∈P.aU h,y<s.next:=H.cH hs
 have nR:∀ y∈R.aU r,y<s.next:=A.cH hs
 have hnw:P.nw∈P.aU h:=by simp[PH.aU]
 have gU:=b1.lt k1.ok
 refine aL fun Ψ7 hΨ7 hΨ7e hΨ7'=>?_
 refine dP (n:=P.bK.length) (fun j a' s'=>a'.aD 0=ptr h∧a'.aD 1=ptr r∧a'.aD 6=.slice va P.bK.length vc∧a'.aD 8=.slice ra 0 rc∧a'.aD 35=.slice va P.bK.length vc∧a'.aD 36=int P.bK.length∧a'.aD 37=int j∧aP s' h (P.lH (P.bK.take j))∧aC [P.nw] s2 s')
  (fun j a' s'=>a'.aD 0=ptr h∧a'.aD 1=ptr r∧a'.aD 6=.slice va P.bK.length vc∧a'.aD 8=.slice ra 0 rc∧a'.aD 35=.slice va P.bK.length vc∧a'.aD 36=int P.bK.length∧a'.aD 37=int j∧aP s' h (P.lH (P.bK.take (j+1)))∧aC [P.nw] s2 s') ?_ ?_ ?_ ?_ (Nat.zero_le _) ?_
 ·rintro j a' s' hj ⟨r0,r1,r6,r8,r35,r36,r37,hH,hk⟩ Ψ' hΨ'
  simp only[bW,↓reduceIte,zA,reduceCtorEq,zE,zB,zC,zD,zF,r36,r37]
  refine hΨ' _ _ (decide ((j:Int)<P.bK.length)) ?_ (by simp) ⟨?_,?_,?_,?_,?_,?_,?_,hH,hk⟩
  all_goals simp only[bW,↓reduceIte,zA,reduceCtorEq,zE,zB,zC,zD,zF,r0,r1,r6,r8,r35,r36,r37]
 ·rintro j a' s' hj ⟨r0,r1,r6,r8,r35,r36,r37,hH,hk⟩ Ψ' w1 w2 w3
  obtain⟨vb,voff,rfl⟩:=b1.sl.addr (show 0<P.bK.length by omega)
  have g1:(0:Int)≤(j:Int):=Int.natCast_nonneg _
  have g2:(j:Int)<((P.bK.length:Nat):Int):=by omega
  have hvb:=hnm1 vb (by simp[nameOf])
  obtain⟨f,hf⟩:∃ f,f=P.bK[j]:=⟨_,rfl⟩
  have hfm:f∈P.bK:=by rw[hf];exact List.getElem_mem _
  have lj:aS s'.look ⟨vb,voff+j*3,none⟩ 3=some [int f.1,int f.2.1,int f.2.2]:=by
   have:=(b1'.sl.aF hk (fun b hb hb'=>by simp[nameOf] at hb hb';have:=nP _ hnw;omega)).aS (i:=j*3) (k:=3) (by omega) (by rw[uw];omega)
   rw[uv _ hj,← hf] at this
   exact this
  have htk:P.bK.take (j+1)=P.bK.take j++[f]:=by rw[List.take_add_one,List.getElem?_eq_getElem hj,hf];rfl
  obtain⟨Ij,Nj,hasj,footj⟩:=PH.DY (P.bK.take j) I
  refine aA fun Ψ8 hΨ8 hΨ8'=>?_
  obtain⟨t1,e1,u1,d1,v1⟩:=aT hk.ok (L:=[int 0,int 0,int 0]) (n:=3) (e:=51) rfl
  obtain⟨t2,e2,d2,u2⟩:=d1.storeAll u1.ok (vs:=[int f.1,int f.2.1,int f.2.2]) rfl rfl
  have u12:aC [] s' t2:=u1.step u2 fun g hg=>.inr (by rw[List.mem_singleton.1 hg];exact hk.ok.fresh _ (Nat.le_refl _))
  simp only[bW,↓reduceIte,zA,reduceCtorEq,zE,zB,zC,zD,zF,r35,r37,g1,g2,and_self,aJ,Int.toNat_natCast,lj]
  rw[e1,e2]
  simp only[bW,↓reduceIte,zA,reduceCtorEq,zE,zB,zC,zD,zF]
  refine hΨ8 _ _ ?_
  have lp1:aI t2.look ⟨s'.next,1,none⟩=some (int f.2.1):=d2.load rfl
  have lp2:aI t2.look ⟨s'.next,2,none⟩=some (int f.2.2):=d2.load rfl
  have hk2:=hk.trans u12.any
  simp only[bW,↓reduceIte,zA,reduceCtorEq,zE,zB,zC,zD,zF,r0,lp1,lp2]
  refine aB ?_ (FI u12.ok (hH.aN u12) Ij.cZ f.2.1 f.2.2 0 (PH.ZD H.iJ f hfm) ⟨by omega,by omega⟩ fun s4 H4 k4=>?_)
  ·simp only[bW,↓reduceIte,zA,reduceCtorEq,zE,zB,zC,zD,zF]
  simp only[bW,↓reduceIte,zA,reduceCtorEq,zE,zB,zC,zD,zF]
  rw[(footj h).2] at k4
  refine w1 _ _ ⟨?_,?_,?_,?_,?_,?_,?_,by rw[htk,PH.aj];exact H4,hk2.trans k4⟩
  all_goals try simp only[bW,↓reduceIte,zA,reduceCtorEq,zE,zB,zC,zD,zF,r0,r1,r6,r8,r35,r36,r37]
 ·rintro j a' s' hj ⟨r0,r1,r6,r8,r35,r36,r37,hH,hk⟩ Ψ' w1
  have w:IntKind.i64.wrap ((j:Int)+1)=((j+1:Nat):Int):=by rw[aR (by omega) (by omega)];rfl
  simp only[bW,↓reduceIte,zA,reduceCtorEq,zE,zB,zC,zD,zF,r37,w]
  refine w1 _ _ ⟨?_,?_,?_,?_,?_,?_,?_,hH,hk⟩
  all_goals try simp only[bW,↓reduceIte,zA,reduceCtorEq,zE,zB,zC,zD,zF,r0,r1,r6,r8,r35,r36]
 ·rintro a' s' ⟨r0,r1,r6,r8,r35,r36,r37,hH,hk⟩
  rw[List.take_of_length_le (Nat.le_refl _)] at hH
  obtain⟨Ij,Nj,hasj,footj⟩:=PH.DY P.bK I
  refine hΨ7e _ _ (hΨ5 _ _ ?_)
  have hk0:aC [P.nw] s s':=(k02.any).trans hk
  have A3:bB s' r R:=(A.aN k02).aF hk fun x hx hx'=>hd x hx (by rw[List.mem_singleton.1 hx'];exact hnw)
  refine aA fun Ψ9 hΨ9 hΨ9'=>?_
  refine aA fun Ψ10 hΨ10 hΨ10'=>?_
  simp only[bW,↓reduceIte,zA,reduceCtorEq,zE,zB,zC,zD,zF,r1]
  refine aB ?_ (uV hk.ok A3 ?_)
  ·simp only[bW,↓reduceIte,zA,reduceCtorEq,zE,zB,zC,zD,zF]
  rintro v s4 b4 ⟨pa,pc,rfl⟩ k4 hnm4
  try simp only[bW,↓reduceIte,zA,reduceCtorEq,zE,zB,zC,zD,zF]
  refine hΨ10 _ _ ?_
  have hk4:=hk0.trans k4.any
  have A4:=A3.aN k4
  have H4:=hH.aN k4
  have hal:=R.xI A.m4 A.ql
  refine aL fun Ψ11 hΨ11 hΨ11e hΨ11'=>?_
  refine dP (n:=R.all.length) (fun j a' s'=>a'.aD 0=ptr h∧a'.aD 1=ptr r∧a'.aD 6=.slice va P.bK.length vc∧a'.aD 8=.slice ra 0 rc∧a'.aD 49=.slice pa R.all.length pc∧a'.aD 50=int R.all.length∧a'.aD 51=int j∧aC [] s4 s')
   (fun j a' s'=>a'.aD 0=ptr h∧a'.aD 1=ptr r∧a'.aD 6=.slice va P.bK.length vc∧a'.aD 8=.slice ra 0 rc∧a'.aD 49=.slice pa R.all.length pc∧a'.aD 50=int R.all.length∧a'.aD 51=int j∧aC [] s4 s') ?_ ?_ ?_ ?_ (Nat.zero_le _) ?_
  ·rintro j a' s' hj ⟨r0,r1,r6,r8,r49,r50,r51,hk⟩ Ψ' hΨ'
   simp only[bW,↓reduceIte,zA,reduceCtorEq,zE,zB,zC,zD,zF,r50,r51]
   refine hΨ' _ _ (decide ((j:Int)<R.all.length)) ?_ (by simp) ⟨?_,?_,?_,?_,?_,?_,?_,hk⟩
   all_goals simp only[bW,↓reduceIte,zA,reduceCtorEq,zE,zB,zC,zD,zF,r0,r1,r6,r8,r49,r50,r51]
  ·rintro j a' s' hj ⟨r0,r1,r6,r8,r49,r50,r51,hk⟩ Ψ' w1 w2 w3
   obtain⟨vb,voff,rfl⟩:=b4.sl.addr (show 0<R.all.length by omega)
   have g1:(0:Int)≤(j:Int):=Int.natCast_nonneg _
   have g2:(j:Int)<((R.all.length:Nat):Int):=by omega
   obtain⟨p,hp⟩:∃ p,p=R.all[j]:=⟨_,rfl⟩
   have lj:aS s'.look ⟨vb,voff+j*3,none⟩ 3=some [int p.k,int p.m,int p.i]:=by
    have:=(b4.sl.aF hk (fun b hb=>by simp)).aS (i:=j*3) (k:=3) (by omega) (by rw[uq];omega)
    rw[DM _ hj,← hp] at this
    exact this
   have hpm:p∈R.all:=by rw[hp];exact List.getElem_mem _
   have hph:=R.HC hpm
   refine aA fun Ψ13 hΨ13 hΨ13'=>?_
   obtain⟨t1,e1,u1,d1,v1⟩:=aT hk.ok (L:=[int 0,int 0,int 0]) (n:=3) (e:=118) rfl
   obtain⟨t2,e2,d2,u2⟩:=d1.storeAll u1.ok (vs:=[int p.k,int p.m,int p.i]) rfl rfl
   have u12:aC [] s' t2:=u1.step u2 fun g hg=>.inr (by rw[List.mem_singleton.1 hg];exact hk.ok.fresh _ (Nat.le_refl _))
   simp only[bW,↓reduceIte,zA,reduceCtorEq,zE,zB,zC,zD,zF,r49,r51,g1,g2,and_self,aJ,Int.toNat_natCast,lj]
   rw[e1,e2]
   simp only[bW,↓reduceIte,zA,reduceCtorEq,zE,zB,zC,zD,zF]
   refine hΨ13 _ _ ?_
   have lp:=d2.aS (i:=0) (k:=3) (Nat.le_refl _)
   have hk2:=hk.trans u12
   refine aA fun Ψ14 hΨ14 hΨ14'=>?_
   simp only[bW,↓reduceIte,zA,reduceCtorEq,zE,zB,zC,zD,zF,r1,lp,List.drop_zero,List.take]
   refine aB ?_ (yN u12.ok (A4.aN hk2) p fun s8 k8=>?_)
   ·simp only[bW,↓reduceIte,zA,reduceCtorEq,zE,zB,zC,zD,zF]
   rw[if_pos hph,if_pos hph]
   try simp only[bW,↓reduceIte,zA,reduceCtorEq,zE,zB,zC,zD,zF]
   refine hΨ14 _ _ ?_
   have lk:aI s8.look ⟨s'.next,0,none⟩=some (int p.k):=(d2.aF k8 (by simp)).load rfl
   have hk8:=hk2.trans k8
   refine aA fun Ψ15 hΨ15 hΨ15'=>?_
   refine aH [(3,64)] (by kernel_rfl) fun O hO ΨR hR=>?_
   have y3:∀ a,aE O a 3=aM (a.aD 64):=hO (3,64) (by simp)
   cases hkk:(p.k==2) with
   | true =>
    simp only[bW,↓reduceIte,zA,reduceCtorEq,zE,zB,zC,zD,zF,y3,lk,hkk]
    refine hR _ _ (hΨ15 _ _ ?_)
    simp only[bW,↓reduceIte,zA,reduceCtorEq,zE,zB,zC,zD,zF]
    refine w1 _ _ ⟨?_,?_,?_,?_,?_,?_,?_,hk8⟩
    all_goals try simp only[bW,↓reduceIte,zA,reduceCtorEq,zE,zB,zC,zD,zF,r0,r1,r6,r8,r49,r50,r51]
   | false =>
    simp only[bW,↓reduceIte,zA,reduceCtorEq,zE,zB,zC,zD,zF,y3,lk,hkk,r0]
    refine aB ?_ (oZ k8.ok (H4.aN hk8) (R.get p) (PR.BV A p) fun s9 k9=>?_)
    ·simp only[bW,↓reduceIte,zA,reduceCtorEq,zE,zB,zC,zD,zF]
    rw[hasj,hr p hpm]
    try simp only[bW,↓reduceIte,zA,reduceCtorEq,zE,zB,zC,zD,zF,y3]
    refine hR _ _ (hΨ15 _ _ ?_)
    simp only[bW,↓reduceIte,zA,reduceCtorEq,zE,zB,zC,zD,zF]
    refine w1 _ _ ⟨?_,?_,?_,?_,?_,?_,?_,hk8.trans k9⟩
    all_goals try simp only[bW,↓reduceIte,zA,reduceCtorEq,zE,zB,zC,zD,zF,r0,r1,r6,r8,r49,r50,r51]
  ·rintro j a' s' hj ⟨r0,r1,r6,r8,r49,r50,r51,hk⟩ Ψ' w1
   have w:IntKind.i64.wrap ((j:Int)+1)=((j+1:Nat):Int):=by rw[aR (by omega) (by omega)];rfl
   simp only[bW,↓reduceIte,zA,reduceCtorEq,zE,zB,zC,zD,zF,r51,w]
   refine w1 _ _ ⟨?_,?_,?_,?_,?_,?_,?_,hk⟩
   all_goals try simp only[bW,↓reduceIte,zA,reduceCtorEq,zE,zB,zC,zD,zF,r0,r1,r6,r8,r49,r50]
  ·rintro a' s5 ⟨r0,r1,r6,r8,r49,r50,r51,hk5⟩
   refine hΨ11e _ _ (hΨ9 _ _ ?_)
   have hk05:=hk4.trans hk5.any
   have A5:=A4.aN hk5
   have H5:=H4.aN hk5
   refine aA fun Ψ12 hΨ12 hΨ12'=>?_
   refine aA fun Ψ16 hΨ16 hΨ16'=>?_
   simp only[bW,↓reduceIte,zA,reduceCtorEq,zE,zB,zC,zD,zF,r1]
   refine aB ?_ (XI hk5.ok A5 ?_)
   ·simp only[bW,↓reduceIte,zA,reduceCtorEq,zE,zB,zC,zD,zF]
   rintro qa qc s6 hqa b6 k6 hnm6
   have hlq:=A.lq
   have hqlen:=A.ql
   try simp only[bW,↓reduceIte,zA,reduceCtorEq,zE,zB,zC,zD,zF]
   refine hΨ16 _ _ ?_
   have hk06:=hk05.trans k6.any
   have A6:=A5.aN k6
   have H6:=H5.aN k6
   refine aL fun Ψ17 hΨ17 hΨ17e hΨ17'=>?_
   refine dP (n:=R.q.length) (fun j a' s'=>a'.aD 0=ptr h∧a'.aD 1=ptr r∧a'.aD 6=.slice va P.bK.length vc∧a'.aD 8=.slice ra 0 rc∧a'.aD 76=int R.q.length∧a'.aD 77=int j∧∃ xa xn xc,aP s' h (P.lH P.bK)∧bB s' r {R with va:=xa,vn:=xn,vc:=xc,q:=R.q.drop j++R.q.take j}∧(∀ b∈nameOf (.slice xa xn xc),b∈R.aU r∨s.next≤b)∧aC (P.nw::R.aU r) s s')
    (fun j a' s'=>a'.aD 0=ptr h∧a'.aD 1=ptr r∧a'.aD 6=.slice va P.bK.length vc∧a'.aD 8=.slice ra 0 rc∧a'.aD 76=int R.q.length∧a'.aD 77=int j∧∃ xa xn xc,aP s' h (P.lH P.bK)∧bB s' r {R with va:=xa,vn:=xn,vc:=xc,q:=R.q.drop (j+1)++R.q.take (j+1)}∧(∀ b∈nameOf (.slice xa xn xc),b∈R.aU r∨s.next≤b)∧aC (P.nw::R.aU r) s s') ?_ ?_ ?_ ?_ (Nat.zero_le _) ?_
   ·rintro j a' s' hj ⟨r0,r1,r6,r8,r76,r77,hx⟩ Ψ' hΨ'
    simp only[bW,↓reduceIte,zA,reduceCtorEq,zE,zB,zC,zD,zF,r76,r77]
    refine hΨ' _ _ (decide ((j:Int)<R.q.length)) ?_ (by simp) ⟨?_,?_,?_,?_,?_,?_,hx⟩
    all_goals simp only[bW,↓reduceIte,zA,reduceCtorEq,zE,zB,zC,zD,zF,r0,r1,r6,r8,r76,r77]
   ·rintro j a' s' hj ⟨r0,r1,r6,r8,r76,r77,xa,xn,xc,hH,hA,hfo,hk⟩ Ψ' w1 w2 w3
    obtain⟨x,hx⟩:∃ x,x=R.q[j]:=⟨_,rfl⟩
    have hxm:x∈R.q:=by rw[hx];exact List.getElem_mem _
    have hdrop:R.q.drop j=x::R.q.drop (j+1):=by rw[hx];exact List.drop_eq_getElem_cons hj
    have htake:R.q.take (j+1)=R.q.take j++[x]:=by rw[List.take_add_one,List.getElem?_eq_getElem hj,hx];rfl
    have hxz:=I.z x (hq x hxm)
    have foot_of:∀ (ya:Option Addr) (yn yc:Nat) (Q:List Int) (t:St),s.next≤t.next→(∀ b∈nameOf (.slice ya yn yc),b∈R.aU r∨s.next≤b)→∀ b∈PR.aU r {R with va:=ya,vn:=yn,vc:=yc,q:=Q},b∈R.aU r∨s.next≤b:=by
     intro ya yn yc Q t _ hn b hb
     unfold PR.aU at hb
     rcases List.mem_append.1 hb with hb | hb
     ·exact .inl (List.mem_append_left _ hb)
     ·exact hn b hb
    have nh:∀ b,(b∈R.aU r∨s.next≤b)→b∉P.aU h:=fun b hb hm=>by
     rcases hb with hb | hb
     ·exact hd b hb hm
     ·have:=nP b hm;omega
    have keepsTo:∀ {F:List Nat} {t t':St},aC (P.nw::R.aU r) s t→aC F t t'→(∀ b∈F,b∈R.aU r∨s.next≤b)→aC (P.nw::R.aU r) s t':=fun k1 k2 hF=>k1.step k2 fun g hg=>by
     rcases hF g hg with h | h
     ·exact .inl (List.mem_cons_of_mem _ h)
     ·exact .inr (hs.fresh _ h)
    refine aA fun Ψ18 hΨ18 hΨ18'=>?_
    simp only[bW,↓reduceIte,zA,reduceCtorEq,zE,zB,zC,zD,zF,r1]
    refine aB ?_ (qg hk.ok hA ?_)
    ·simp only[bW,↓reduceIte,zA,reduceCtorEq,zE,zB,zC,zD,zF]
    rintro ya yn yc s7 A7 k7 hfo7
    have e1:(R.q.drop j++R.q.take j).headD 0=x:=by rw[hdrop];rfl
    have e2:(if R.q.drop j++R.q.take j=[] then(4:Int) else 0)=0:=by rw[if_neg];rw[hdrop];simp
    have e3:(R.q.drop j++R.q.take j).tail=R.q.drop (j+1)++R.q.take j:=by rw[hdrop];rfl
    rw[e3] at A7
    simp only[bW,↓reduceIte,zA,reduceCtorEq,zE,zB,zC,zD,zF,e1,e2]
    refine hΨ18 _ _ ?_
    have f7:=foot_of xa xn xc (R.q.drop j++R.q.take j) s' hk.next hfo
    have hk7:=keepsTo hk k7 f7
    have hfo7':∀ b∈nameOf (.slice ya yn yc),b∈R.aU r∨s.next≤b:=fun b hb=>by
     rcases hfo7 b hb with h | h
     ·exact hfo b h
     ·exact .inr (Nat.le_trans hk.next h)
    have H7:aP s7 h (P.lH P.bK):=hH.aF k7 fun y hy hy'=>by
     rw[(footj h).1] at hy
     exact nh y (f7 y hy') hy
    refine aA fun Ψ19 hΨ19 hΨ19'=>?_
    simp only[bW,↓reduceIte,zA,reduceCtorEq,zE,zB,zC,zD,zF,r0]
    refine aB ?_ (oZ k7.ok H7 x ⟨by omega,by have:=(PH.dT.1 (hq x hxm));have:=H.iJ;omega⟩ fun s8 k8=>?_)
    ·simp only[bW,↓reduceIte,zA,reduceCtorEq,zE,zB,zC,zD,zF]
    rw[hasj,hq x hxm]
    simp only[bW,↓reduceIte,zA,reduceCtorEq,zE,zB,zC,zD,zF]
    refine hΨ19 _ _ ?_
    have hk8:=keepsTo hk7 k8 (fun _ h=>by cases h)
    simp only[bW,↓reduceIte,zA,reduceCtorEq,zE,zB,zC,zD,zF,r1]
    refine aB ?_ (LF k8.ok (A7.aN k8) x ⟨by omega,by have:=(PH.dT.1 (hq x hxm));have:=H.iJ;omega⟩ ?_)
    ·simp only[bW,↓reduceIte,zA,reduceCtorEq,zE,zB,zC,zD,zF]
    rintro za zn zc s9 A9 k9 hfo9
    have f8:=foot_of ya yn yc (R.q.drop (j+1)++R.q.take j) s7 hk7.next hfo7'
    have hk9:=keepsTo hk8 k9 f8
    simp only[bW,↓reduceIte,zA,reduceCtorEq,zE,zB,zC,zD,zF]
    refine w1 _ _ ⟨?_,?_,?_,?_,?_,?_,za,zn,zc,?_,?_,?_,hk9⟩
    ·try simp only[bW,↓reduceIte,zA,reduceCtorEq,zE,zB,zC,zD,zF,r0]
    ·try simp only[bW,↓reduceIte,zA,reduceCtorEq,zE,zB,zC,zD,zF,r1]
    ·try simp only[bW,↓reduceIte,zA,reduceCtorEq,zE,zB,zC,zD,zF,r6]
    ·try simp only[bW,↓reduceIte,zA,reduceCtorEq,zE,zB,zC,zD,zF,r8]
    ·try simp only[bW,↓reduceIte,zA,reduceCtorEq,zE,zB,zC,zD,zF,r76]
    ·try simp only[bW,↓reduceIte,zA,reduceCtorEq,zE,zB,zC,zD,zF,r77]
    ·exact(H7.aN k8).aF k9 fun y hy hy'=>by
      rw[(footj h).1] at hy
      exact nh y (f8 y hy') hy
    ·have e:PR.vJ {R with va:=ya,vn:=yn,vc:=yc,q:=R.q.drop (j+1)++R.q.take j} x=R.q.drop (j+1)++R.q.take (j+1):=by
      have e0:PR.FZ {R with va:=ya,vn:=yn,vc:=yc,q:=R.q.drop (j+1)++R.q.take j} x=0:=by
       unfold PR.FZ
       rw[if_neg (by omega),if_neg (by simp only[List.length_append,List.length_drop,List.length_take];omega)]
      unfold PR.vJ
      rw[if_pos e0,htake]
      exact List.append_assoc _ _ _
     rw[← e]
     exact A9
    ·intro b hb
     rcases hfo9 b hb with h | h
     ·exact hfo7' b h
     ·exact .inr (Nat.le_trans hk8.next h)
   ·rintro j a' s' hj ⟨r0,r1,r6,r8,r76,r77,hx⟩ Ψ' w1
    have w:IntKind.i64.wrap ((j:Int)+1)=((j+1:Nat):Int):=by rw[aR (by omega) (by omega)];rfl
    simp only[bW,↓reduceIte,zA,reduceCtorEq,zE,zB,zC,zD,zF,r77,w]
    refine w1 _ _ ⟨?_,?_,?_,?_,?_,?_,hx⟩
    all_goals try simp only[bW,↓reduceIte,zA,reduceCtorEq,zE,zB,zC,zD,zF,r0,r1,r6,r8,r76]
   ·rintro a' s' ⟨r0,r1,r6,r8,r76,r77,xa,xn,xc,hH,hA,hfo,hk⟩
    refine hΨ17e _ _ (hΨ12 _ _ ?_)
    rw[List.drop_length,List.nil_append,List.take_length] at hA
    have hfl:P.bK.length<1000000:=by omega
    have w:IntKind.i64.wrap ((P.bK.length:Int)+((0:Nat):Int))=(P.bK.length:Int):=by rw[aR (by omega) (by omega)];omega
    simp only[bW,↓reduceIte,zA,reduceCtorEq,zE,zB,zC,zD,zF,r6,r8,w]
    exact hΦ _ _ _ s' hH hA hfo hk
   ·refine⟨?_,?_,?_,?_,?_,?_,R.va,R.vn,R.vc,H6,?_,?_,?_⟩
    ·try simp only[bW,↓reduceIte,zA,reduceCtorEq,zE,zB,zC,zD,zF,r0]
    ·try simp only[bW,↓reduceIte,zA,reduceCtorEq,zE,zB,zC,zD,zF,r1]
    ·try simp only[bW,↓reduceIte,zA,reduceCtorEq,zE,zB,zC,zD,zF,r6]
    ·try simp only[bW,↓reduceIte,zA,reduceCtorEq,zE,zB,zC,zD,zF,r8]
    ·try simp only[bW,↓reduceIte,zA,reduceCtorEq,zE,zB,zC,zD,zF,hlq]
    ·try simp only[bW,↓reduceIte,zA,reduceCtorEq,zE,zB,zC,zD,zF]
     rfl
    ·rw[List.drop_zero,List.take_zero,List.append_nil];exact A6
    ·intro b hb
     exact .inl (List.mem_append_right _ hb)
    ·exact hk06.mono fun x hx=>by rw[List.mem_singleton.1 hx];exact List.mem_cons_self ..
  ·refine⟨?_,?_,?_,?_,?_,?_,?_,.refl k4.ok⟩
   all_goals try simp only[bW,↓reduceIte,zA,reduceCtorEq,zE,zB,zC,zD,zF,r0,r1,r6,r8]
   rfl
 ·refine⟨?_,?_,?_,?_,?_,?_,?_,by exact H.aN k02,.refl k02.ok⟩
  all_goals try simp only[bW,↓reduceIte,zA,reduceCtorEq,zE,zB,zC,zD,zF]
  rfl
end
end Go.Dust
