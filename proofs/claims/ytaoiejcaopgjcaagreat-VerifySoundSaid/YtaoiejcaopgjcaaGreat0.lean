/- VerifySound walked in D, function by function, and its plain law (F2 F3 F4 F5). -/
import Derived.Test.YtaoiejcaopgjcaaGreatZ
set_option linter.unusedVariables false
set_option linter.unusedSimpArgs false
open Nat renaming reduceEqDiff → zA, reduceMul → zB, reduceAdd → zC, reduceBEq → zD
open Int renaming reduceEq → zE, reduceBEq → zF
namespace Go.Dust
open Go.Proofs
set_option maxRecDepth 100000
set_option maxHeartbeats 1000000
section
variable {kc:Kc} {q:Bool} {s:St} {Φ:Value→St→Prop} {h:Nat} {P:PH}
theorem bT:type_of% (An @RX<|An @UW<|An @sE<|An @UX<|An @BN<|An @kA<|An @kI<|An @gV<|An @YZ<|An @yf<|An @cO<|An @dO<|An @bF<|An @kG<|An @BM<|An @wH<|An @DX<|An @fX<|@eC):=An @RX<|An @UW<|An @sE<|An @UX<|An @BN<|An @kA<|An @kI<|An @gV<|An @YZ<|An @yf<|An @cO<|An @dO<|An @bF<|An @kG<|An @BM<|An @wH<|An @DX<|An @fX<|@eC
theorem ND (hs:Ok s) (H:aP s h P) (G:P.cZ) {pb mb:Nat} {fv:Value} {K:List Int} (Ob:Obj s pb [ptr h,ptr h,.map (some mb),fv]) (M:fW s mb (keys K)) {a:Int} (ha:i64 a) (hh:P.has a=true) (hl:P.M.lookup (P.w a.toNat)=some a)
  (hΦ:∀ s',aC [] s s'→Φ (.tuple #[]) s'):okF q X (KO kc) 72 [ptr pb,int a] s Φ:=by
 have p0:aI s.look ⟨pb,0,none⟩=some (ptr h):=Ob.load rfl
 have p1:aI s.look ⟨pb,1,none⟩=some (ptr h):=Ob.load rfl
 refine aG rfl fn_72 rfl (rs:=[]) rfl (N:=191) rfl rfl ?_
 refine aA fun Ψ1 hΨ1 hΨ1'=>?_
 simp only[bT,↓reduceIte,zA,reduceCtorEq,zE,zB,zC,zD,zF,p0]
 refine aB ?_ (lE hs H a ha fun s2 k2=>?_)
 ·simp only[bT,↓reduceIte,zA,reduceCtorEq,zE,zB,zC,zD,zF]
 rw[if_pos hh]
 try simp only[bT,↓reduceIte,zA,reduceCtorEq,zE,zB,zC,zD,zF]
 refine hΨ1 _ _ ?_
 have p12:=cW k2 (by simp) p1
 have p02:=cW k2 (by simp) p0
 have H2:=H.aN k2
 refine aA fun Ψ2 hΨ2 hΨ2'=>?_
 simp only[bT,↓reduceIte,zA,reduceCtorEq,zE,zB,zC,zD,zF,p12]
 refine aB ?_ (heap_At H2 (P.w a.toNat) ?_)
 ·simp only[bT,↓reduceIte,zA,reduceCtorEq,zE,zB,zC,zD,zF]
 rw[hl,show MX (some a)=.tuple #[int a,int 0] from rfl]
 try simp only[bT,↓reduceIte,zA,reduceCtorEq,zE,zB,zC,zD,zF]
 refine hΨ2 _ _ ?_
 refine aA fun Ψ3 hΨ3 hΨ3'=>?_
 refine aA fun Ψ4 hΨ4 hΨ4'=>?_
 simp only[bT,↓reduceIte,zA,reduceCtorEq,zE,zB,zC,zD,zF]
 refine hΨ4 _ _ ?_
 simp only[bT,↓reduceIte,zA,reduceCtorEq,zE,zB,zC,zD,zF]
 refine hΨ3 _ _ ?_
 refine aA fun Ψ5 hΨ5 hΨ5'=>?_
 simp only[bT,↓reduceIte,zA,reduceCtorEq,zE,zB,zC,zD,zF,p02]
 refine aB ?_ (mS k2.ok H2 a ha fun s3 k3=>?_)
 ·simp only[bT,↓reduceIte,zA,reduceCtorEq,zE,zB,zC,zD,zF]
 have k03:=k2.trans k3
 obtain⟨t1,e1,u1,c1,n1⟩:=aT k3.ok (L:=[int 0,int 0,int 0]) (n:=3) (e:=44) rfl
 obtain⟨t2,e2,c2,u2⟩:=c1.storeAll u1.ok (vs:=[int (P.lD a).r,int (P.lD a).d,int (P.lD a).k]) rfl rfl
 have u12:aC [] s3 t2:=u1.step u2 fun g hg=>.inr (by rw[List.mem_singleton.1 hg];exact k3.ok.fresh _ (Nat.le_refl _))
 simp only[bT,↓reduceIte,zA,reduceCtorEq,zE,zB,zC,zD,zF]
 rw[e1,e2]
 simp only[bT,↓reduceIte,zA,reduceCtorEq,zE,zB,zC,zD,zF]
 refine hΨ5 _ _ ?_
 have k0t:=k03.trans u12
 have p1t:=cW k0t (by simp) p1
 refine aA fun Ψ6 hΨ6 hΨ6'=>?_
 refine aA fun Ψ7 hΨ7 hΨ7'=>?_
 simp only[bT,↓reduceIte,zA,reduceCtorEq,zE,zB,zC,zD,zF,p1t]
 refine aB ?_ (mS k0t.ok (H.aN k0t) a ha fun s4 k4=>?_)
 ·simp only[bT,↓reduceIte,zA,reduceCtorEq,zE,zB,zC,zD,zF]
 have k04:=k0t.trans k4
 obtain⟨t3,e3,u3,c3,n3⟩:=aT k4.ok (L:=[int 0,int 0,int 0]) (n:=3) (e:=44) rfl
 obtain⟨t4,e4,c4,u4⟩:=c3.storeAll u3.ok (vs:=[int (P.lD a).r,int (P.lD a).d,int (P.lD a).k]) rfl rfl
 have u34:aC [] s4 t4:=u3.step u4 fun g hg=>.inr (by rw[List.mem_singleton.1 hg];exact k4.ok.fresh _ (Nat.le_refl _))
 simp only[bT,↓reduceIte,zA,reduceCtorEq,zE,zB,zC,zD,zF]
 rw[e3,e4]
 simp only[bT,↓reduceIte,zA,reduceCtorEq,zE,zB,zC,zD,zF]
 refine hΨ7 _ _ ?_
 have k05:=k04.trans u34
 have c25:=c2.aF (k4.trans u34) (by simp)
 have q1:=c25.aS (i:=0) (k:=3) (Nat.le_refl _)
 have q2:=c4.aS (i:=0) (k:=3) (Nat.le_refl _)
 refine aA fun Ψ8 hΨ8 hΨ8'=>?_
 simp only[bT,↓reduceIte,zA,reduceCtorEq,zE,zB,zC,zD,zF,q1,q2,List.drop_zero,List.take,beq_self_eq_true,Bool.and_self,Bool.not_true]
 refine hΨ8 _ _ ?_
 simp only[bT,↓reduceIte,zA,reduceCtorEq,zE,zB,zC,zD,zF]
 refine hΨ6 _ _ ?_
 have p15:=cW k05 (by simp) p1
 refine aA fun Ψ9 hΨ9 hΨ9'=>?_
 simp only[bT,↓reduceIte,zA,reduceCtorEq,zE,zB,zC,zD,zF,p15]
 refine aB ?_ (uS k05.ok (H.aN k05) G a ha ?_)
 ·simp only[bT,↓reduceIte,zA,reduceCtorEq,zE,zB,zC,zD,zF]
 rintro v1 s5 b1 ⟨va1,vc1,rfl⟩ hnm1 k5
 try simp only[bT,↓reduceIte,zA,reduceCtorEq,zE,zB,zC,zD,zF]
 refine hΨ9 _ _ ?_
 have k06:=k05.trans k5
 have p06:=cW k06 (by simp) p0
 refine aA fun Ψ10 hΨ10 hΨ10'=>?_
 refine aA fun Ψ11 hΨ11 hΨ11'=>?_
 simp only[bT,↓reduceIte,zA,reduceCtorEq,zE,zB,zC,zD,zF,p06]
 refine aB ?_ (uS k06.ok (H.aN k06) G a ha ?_)
 ·simp only[bT,↓reduceIte,zA,reduceCtorEq,zE,zB,zC,zD,zF]
 rintro v2 s6 b2 ⟨va2,vc2,rfl⟩ hnm2 k6
 try simp only[bT,↓reduceIte,zA,reduceCtorEq,zE,zB,zC,zD,zF]
 refine hΨ11 _ _ ?_
 have k07:=k06.trans k6
 have b1':=b1.aF k6 (by simp)
 have c26:=(c25.aF k5 (by simp)).aF k6 (by simp)
 obtain⟨g0,g15⟩:=PH.OZ G a
 have hn:((P.cA a:Nat):Int)=(P.lD a).r:=by unfold PH.cA;omega
 have href:∀ i:Nat,i64 (P.ref a i):=fun i=>PH.HN H a i
 refine aL fun Ψ12 hΨ12 hΨ12e hΨ12'=>?_
 refine dP (n:=P.cA a) (fun j a' s'=>a'.aD 0=ptr pb∧a'.aD 1=int a∧a'.aD 4=int (P.w a.toNat)∧a'.aD 5=int a∧a'.aD 7=ptr s3.next∧a'.aD 11=.slice va1 (P.cA a) vc1∧a'.aD 81=.slice va2 (P.cA a) vc2∧a'.aD 82=int (P.cA a)∧a'.aD 83=int j∧aC [] s6 s')
  (fun j a' s'=>a'.aD 0=ptr pb∧a'.aD 1=int a∧a'.aD 4=int (P.w a.toNat)∧a'.aD 5=int a∧a'.aD 7=ptr s3.next∧a'.aD 11=.slice va1 (P.cA a) vc1∧a'.aD 81=.slice va2 (P.cA a) vc2∧a'.aD 82=int (P.cA a)∧a'.aD 83=int j∧aC [] s6 s') ?_ ?_ ?_ ?_ (Nat.zero_le _) ?_
 ·rintro j a' s' hj ⟨r0,r1,r4,r5,r7,r11,r81,r82,r83,hk⟩ Ψ' hΨ'
  simp only[bT,↓reduceIte,zA,reduceCtorEq,zE,zB,zC,zD,zF,r82,r83]
  refine hΨ' _ _ (decide ((j:Int)<P.cA a)) ?_ (by simp) ⟨?_,?_,?_,?_,?_,?_,?_,?_,?_,hk⟩
  all_goals simp only[bT,↓reduceIte,zA,reduceCtorEq,zE,zB,zC,zD,zF,r0,r1,r4,r5,r7,r11,r81,r82,r83]
 ·rintro j a' s' hj ⟨r0,r1,r4,r5,r7,r11,r81,r82,r83,hk⟩ Ψ' h1 h2 h3
  obtain⟨vb1,vo1,rfl⟩:=b1.sl.addr (show 0<P.cA a by omega)
  obtain⟨vb2,vo2,rfl⟩:=b2.sl.addr (show 0<P.cA a by omega)
  have g1:(0:Int)≤(j:Int):=Int.natCast_nonneg _
  have g2:(j:Int)<((P.cA a:Nat):Int):=by omega
  have hat:∀ i:Nat,i<P.cA a→((P.refs a).map int)[i]?=some (int (P.ref a i)):=fun i hi=>by
   rw[List.getElem?_map];unfold PH.refs;rw[List.getElem?_map,List.getElem?_range hi];rfl
  have lj2:aI s'.look ⟨vb2,vo2+j,none⟩=some (int (P.ref a j)):=(b2.sl.aF hk (by simp)).load (i:=j) (hat j hj)
  have kk:=k07.trans hk
  have p07:=cW kk (by simp) p0
  have p17:=cW kk (by simp) p1
  refine aA fun Ψ13 hΨ13 hΨ13'=>?_
  simp only[bT,↓reduceIte,zA,reduceCtorEq,zE,zB,zC,zD,zF,r81,r83,g1,g2,and_self,aJ,Int.toNat_natCast,Nat.mul_one,lj2]
  refine hΨ13 _ _ ?_
  refine aA fun Ψ14 hΨ14 hΨ14'=>?_
  refine aQ [(9,5),(13,5)] [pb,vb1] [] (by kernel_rfl) (by kernel_rfl) (by rfl) fun O hO ΨR hR=>?_
  simp only[bT,↓reduceIte,zA,reduceCtorEq,zE,zB,zC,zD,zF,r0,p07]
  refine aW ?_ (lE (kk.ok.skip _) (H.aN (kk.cB _)) (P.ref a j) (href j) fun s7 k7=>?_)
  ·simp only[bT,↓reduceIte,zA,reduceCtorEq,zE,zB,zC,zD,zF]
  have ks7:aC [] s' s7:=(aC.skip kk.ok _).trans k7
  have lj1:aI s7.look ⟨vb1,vo1+j,none⟩=some (int (P.ref a j)):=((b1'.sl.aF hk (by simp)).aF ks7 (by simp)).load (i:=j) (hat j hj)
  have p18:=cW ks7 (by simp) p17
  try simp only[bT,↓reduceIte,zA,reduceCtorEq,zE,zB,zC,zD,zF,r0,p18,r11,g1,g2,and_self,aJ,Int.toNat_natCast,Nat.mul_one,lj1]
  have ksk:=kk.ok.skip 34
  have lj0:aI (s'.skip 34).look ⟨vb1,vo1+j,none⟩=some (int (P.ref a j)):=((b1'.sl.aF hk (by simp)).aF (aC.skip (F:=[]) kk.ok 34) (by simp)).load (i:=j) (hat j hj)
  refine⟨aV ((Ob.aF (kk.cB 34) (by simp)).same ksk k7 (by simp)) (aV (nL lj0 ksk k7 (by simp)) bR),?_⟩
  have k07':=kk.trans ks7
  refine aW ?_ (lE k07'.ok (H.aN k07') (P.ref a j) (href j) fun s8 k8=>?_)
  ·simp only[bT,↓reduceIte,zA,reduceCtorEq,zE,zB,zC,zD,zF]
  try simp only[bT,↓reduceIte,zA,reduceCtorEq,zE,zB,zC,zD,zF]
  have ks8:=ks7.trans k8
  have kk8:=kk.trans ks8
  refine hR _ _ (hΨ14 _ _ ?_)
  refine aA fun Ψ15 hΨ15 hΨ15'=>?_
  simp only[bT,↓reduceIte,zA,reduceCtorEq,zE,zB,zC,zD,zF]
  refine hΨ15 _ _ ?_
  obtain⟨w,hw⟩:∃ w,w=(if P.has (P.ref a j)=true then P.w (P.ref a j).toNat else 0):=⟨_,rfl⟩
  rw[← hw]
  refine aA fun Ψ16 hΨ16 hΨ16'=>?_
  have rest:∀ a4 s4,(a4.aD 0=ptr pb∧a4.aD 1=int a∧a4.aD 4=int (P.w a.toNat)∧a4.aD 5=int a∧a4.aD 7=ptr s3.next∧a4.aD 11=.slice (some ⟨vb1,vo1,none⟩) (P.cA a) vc1∧a4.aD 81=.slice (some ⟨vb2,vo2,none⟩) (P.cA a) vc2∧a4.aD 82=int (P.cA a)∧a4.aD 83=int j∧a4.aD 14=int w∧a4.aD 15=int w)→aC [] s6 s4→Ψ16 .normal a4 s4:=by
   rintro a4 s4 ⟨r0,r1,r4,r5,r7,r11,r81,r82,r83,r14,r15⟩ k4
   refine hΨ16 _ _ ?_
   refine aA fun Ψ20 hΨ20 hΨ20'=>?_
   refine aH [(3,140)] (by kernel_rfl) fun O hO ΨR hR=>?_
   have y3:∀ a,aE O a 3=aM (a.aD 140):=hO (3,140) (by simp)
   simp only[bT,↓reduceIte,zA,reduceCtorEq,zE,zB,zC,zD,zF,r14,r15,y3,bne,beq_self_eq_true,Bool.not_true]
   refine hR _ _ (hΨ20 _ _ ?_)
   simp only[bT,↓reduceIte,zA,reduceCtorEq,zE,zB,zC,zD,zF]
   refine h1 _ _ ⟨?_,?_,?_,?_,?_,?_,?_,?_,?_,k4⟩
   all_goals simp only[bT,↓reduceIte,zA,reduceCtorEq,zE,zB,zC,zD,zF,r0,r1,r4,r5,r7,r11,r81,r82,r83]
  have l27:aI s8.look ⟨s3.next,2,none⟩=some (int (P.lD a).k):=((c26.aF hk (by simp)).aF ks8 (by simp)).load rfl
  refine aA fun Ψ17 hΨ17 hΨ17'=>?_
  refine aH [(4,107)] (by kernel_rfl) fun O hO ΨR hR=>?_
  have y4:∀ a,aE O a 4=aM (a.aD 107):=hO (4,107) (by simp)
  simp only[bT,↓reduceIte,zA,reduceCtorEq,zE,zB,zC,zD,zF,r7,l27]
  refine aB ?_ (KT (P.lD a).k (j:Int) ?_)
  ·simp only[bT,↓reduceIte,zA,reduceCtorEq,zE,zB,zC,zD,zF]
  cases hso:PH.soft (P.lD a).k j with
  | false =>
   simp only[bT,↓reduceIte,zA,reduceCtorEq,zE,zB,zC,zD,zF,y4]
   refine hR _ _ (hΨ17 _ _ ?_)
   simp only[bT,↓reduceIte,zA,reduceCtorEq,zE,zB,zC,zD,zF]
   refine rest _ _ ⟨?_,?_,?_,?_,?_,?_,?_,?_,?_,?_,?_⟩ (hk.trans ks8)
   all_goals try simp only[bT,↓reduceIte,zA,reduceCtorEq,zE,zB,zC,zD,zF,r0,r1,r4,r5,r7,r11,r81,r82,r83]
  | true =>
   cases hw0:(w==0) with
   | false =>
    simp only[bT,↓reduceIte,zA,reduceCtorEq,zE,zB,zC,zD,zF,y4,hw0]
    refine hR _ _ (hΨ17 _ _ ?_)
    simp only[bT,↓reduceIte,zA,reduceCtorEq,zE,zB,zC,zD,zF]
    refine rest _ _ ⟨?_,?_,?_,?_,?_,?_,?_,?_,?_,?_,?_⟩ (hk.trans ks8)
    all_goals try simp only[bT,↓reduceIte,zA,reduceCtorEq,zE,zB,zC,zD,zF,r0,r1,r4,r5,r7,r11,r81,r82,r83]
   | true =>
    simp only[bT,↓reduceIte,zA,reduceCtorEq,zE,zB,zC,zD,zF,y4,hw0]
    refine hR _ _ (hΨ17 _ _ ?_)
    simp only[bE,RV,RG,↓reduceIte,zA,reduceCtorEq,zE,zB,zC,zD,zF]
    have kS:=kk8.cB 54
    have p2:aI s8.look ⟨pb,2,none⟩=some (.map (some mb)):=(Ob.aF kk8 (by simp)).load rfl
    have p1S:aI s8.look ⟨pb,1,none⟩=some (ptr h):=(Ob.aF kk8 (by simp)).load rfl
    obtain⟨es,cM,m1,m2⟩:=yA (M.aF kk8 (by simp)) (P.ref a j)
    have fin:∀ a5 s5,(a5.aD 0=ptr pb∧a5.aD 1=int a∧a5.aD 4=int (P.w a.toNat)∧a5.aD 5=int a∧a5.aD 7=ptr s3.next∧a5.aD 11=.slice (some ⟨vb1,vo1,none⟩) (P.cA a) vc1∧a5.aD 81=.slice (some ⟨vb2,vo2,none⟩) (P.cA a) vc2∧a5.aD 82=int (P.cA a)∧a5.aD 83=int j∧a5.aD 14=int w∧a5.aD 15=int w)→aC [] s8 s5→Ψ16 .normal a5 s5:=fun a5 s5 hf k=>rest a5 s5 hf ((hk.trans ks8).trans k)
    refine aQ [] [] [(2,113),(11,122),(14,125)] (by kernel_rfl) (by kernel_rfl) (by rfl) fun O hO ΨR hR=>?_
    have y2:∀ a,aE O a 2=aM (a.aD 113):=hO (2,113) (by simp)
    have y11:∀ a,aE O a 11=aM (a.aD 122):=hO (11,122) (by simp)
    have y14:∀ a,aE O a 14=aM (a.aD 125):=hO (14,125) (by simp)
    by_cases hj0:j=0
    ·have ej0:((j:Int)==0)=true:=by rw[beq_iff_eq];omega
     have ej1:((j:Int)==1)=false:=by rw[beq_eq_false_iff_ne];omega
     rcases m2 with ⟨hc,m2⟩ | ⟨hc,i,m2⟩
     ·simp only[bT,↓reduceIte,zA,reduceCtorEq,zE,zB,zC,zD,zF,y2,y11,y14,ej0,ej1,r0,p2,m1,m2]
      refine hR _ _ (fin _ _ ⟨?_,?_,?_,?_,?_,?_,?_,?_,?_,?_,?_⟩ (.skip kk8.ok 54))
      all_goals try simp only[bT,↓reduceIte,zA,reduceCtorEq,zE,zB,zC,zD,zF,r0,r1,r4,r5,r7,r11,r81,r82,r83]
     ·simp only[bT,↓reduceIte,zA,reduceCtorEq,zE,zB,zC,zD,zF,y2,y11,y14,ej0,ej1,r0,p2,m1,m2]
      refine hR _ _ (fin _ _ ⟨?_,?_,?_,?_,?_,?_,?_,?_,?_,?_,?_⟩ (.skip kk8.ok 54))
      all_goals try simp only[bT,↓reduceIte,zA,reduceCtorEq,zE,zB,zC,zD,zF,r0,r1,r4,r5,r7,r11,r81,r82,r83]
    ·have ej0:((j:Int)==0)=false:=by rw[beq_eq_false_iff_ne];omega
     have ej1:((j:Int)==1)=true:=by
      unfold PH.soft at hso
      rw[ej0] at hso
      cases hb:((j:Int)==1) with
      | true=>rfl
      | false=>rw[hb] at hso;simp at hso
     have hj1:(j:Int)=1:=by simpa using ej1
     have g3:(0:Int)<((P.cA a:Nat):Int):=by omega
     have l00:aI s8.look ⟨vb1,vo1,none⟩=some (int (P.ref a (0:Nat))):=((b1'.sl.aF hk (by simp)).aF ks8 (by simp)).load (i:=0) (hat 0 (by omega))
     simp only[bT,↓reduceIte,zA,reduceCtorEq,zE,zB,zC,zD,zF,y2,y11,y14,ej0,ej1,r0,p1S,r11,g3,Int.le_refl,show (0:Int).toNat=0 from rfl,Nat.zero_mul,aJ,Nat.add_zero,l00]
     refine aW ?_ (lE kS.ok (H.aN kS) (P.ref a (0:Nat)) (href 0) fun s9 k9=>?_)
     ·simp only[bT,↓reduceIte,zA,reduceCtorEq,zE,zB,zC,zD,zF]
     try simp only[bT,↓reduceIte,zA,reduceCtorEq,zE,zB,zC,zD,zF,y2,y11,y14]
     refine hR _ _ (fin _ _ ⟨?_,?_,?_,?_,?_,?_,?_,?_,?_,?_,?_⟩ ((aC.skip kk8.ok 54).trans k9))
     all_goals try simp only[bT,↓reduceIte,zA,reduceCtorEq,zE,zB,zC,zD,zF,r0,r1,r4,r5,r7,r11,r81,r82,r83]
 ·rintro j a' s' hj ⟨r0,r1,r4,r5,r7,r11,r81,r82,r83,hk⟩ Ψ' h1
  have w:IntKind.i64.wrap ((j:Int)+1)=((j+1:Nat):Int):=by rw[aR (by omega) (by omega)];rfl
  simp only[bT,↓reduceIte,zA,reduceCtorEq,zE,zB,zC,zD,zF,r83,w]
  refine h1 _ _ ⟨?_,?_,?_,?_,?_,?_,?_,?_,?_,hk⟩
  all_goals try simp only[bT,↓reduceIte,zA,reduceCtorEq,zE,zB,zC,zD,zF,r0,r1,r4,r5,r7,r11,r81,r82]
 ·rintro a' s' ⟨r0,r1,r4,r5,r7,r11,r81,r82,r83,hk⟩
  refine hΨ12e _ _ (hΨ10 _ _ ?_)
  obtain⟨d0,d200⟩:0≤(P.lD a).d∧(P.lD a).d≤200:=by
   unfold PH.lD;rw[if_pos hh]
   have:=iV.dX.1 (G.val a hh).1
   omega
  obtain⟨nd,hnd⟩:∃ nd:Nat,(P.lD a).d=nd:=⟨(P.lD a).d.toNat,by omega⟩
  have kk:=k07.trans hk
  have l1d:aI s'.look ⟨s3.next,1,none⟩=some (int (P.lD a).d):=(c26.aF hk (by simp)).load rfl
  rw[hnd] at l1d
  refine aA fun Ψ19 hΨ19 hΨ19'=>?_
  simp only[bT,↓reduceIte,zA,reduceCtorEq,zE,zB,zC,zD,zF,r7,l1d]
  refine hΨ19 _ _ ?_
  refine aL fun Ψ20 hΨ20 hΨ20e hΨ20'=>?_
  refine dP (n:=nd) (fun j a' s'=>a'.aD 0=ptr pb∧a'.aD 1=int a∧a'.aD 5=int a∧a'.aD 153=int nd∧a'.aD 154=int j∧aC [] s s')
   (fun j a' s'=>a'.aD 0=ptr pb∧a'.aD 1=int a∧a'.aD 5=int a∧a'.aD 153=int nd∧a'.aD 154=int j∧aC [] s s') ?_ ?_ ?_ ?_ (Nat.zero_le _) ?_
  ·rintro j a' s' hj ⟨r0,r1,r5,r153,r154,hk⟩ Ψ' hΨ'
   simp only[bT,↓reduceIte,zA,reduceCtorEq,zE,zB,zC,zD,zF,r153,r154]
   refine hΨ' _ _ (decide ((j:Int)<nd)) ?_ (by simp) ⟨?_,?_,?_,?_,?_,hk⟩
   all_goals simp only[bT,↓reduceIte,zA,reduceCtorEq,zE,zB,zC,zD,zF,r0,r1,r5,r153,r154]
  ·rintro j a' s' hj ⟨r0,r1,r5,r153,r154,hk⟩ Ψ' h1 h2 h3
   have p0':=cW hk (by simp) p0
   refine aA fun Ψ21 hΨ21 hΨ21'=>?_
   simp only[bT,↓reduceIte,zA,reduceCtorEq,zE,zB,zC,zD,zF,r154]
   refine hΨ21 _ _ ?_
   refine aA fun Ψ22 hΨ22 hΨ22'=>?_
   simp only[bT,↓reduceIte,zA,reduceCtorEq,zE,zB,zC,zD,zF,r0,p0',r1]
   refine aB ?_ (OC hk.ok (H.aN hk) G a (j:Int) ha fun s7 k7=>?_)
   ·simp only[bT,↓reduceIte,zA,reduceCtorEq,zE,zB,zC,zD,zF]
   try simp only[bT,↓reduceIte,zA,reduceCtorEq,zE,zB,zC,zD,zF]
   refine hΨ22 _ _ ?_
   have hk7:=hk.trans k7
   have p1':=cW hk7 (by simp) p1
   refine aA fun Ψ23 hΨ23 hΨ23'=>?_
   simp only[bT,↓reduceIte,zA,reduceCtorEq,zE,zB,zC,zD,zF,r0,p1',r5]
   refine aB ?_ (OC hk7.ok (H.aN hk7) G a (j:Int) ha fun s8 k8=>?_)
   ·simp only[bT,↓reduceIte,zA,reduceCtorEq,zE,zB,zC,zD,zF]
   try simp only[bT,↓reduceIte,zA,reduceCtorEq,zE,zB,zC,zD,zF]
   refine hΨ23 _ _ ?_
   refine aA fun Ψ24 hΨ24 hΨ24'=>?_
   simp only[bT,↓reduceIte,zA,reduceCtorEq,zE,zB,zC,zD,zF,bne,beq_self_eq_true,Bool.not_true]
   refine hΨ24 _ _ ?_
   simp only[bT,↓reduceIte,zA,reduceCtorEq,zE,zB,zC,zD,zF]
   refine h1 _ _ ⟨?_,?_,?_,?_,?_,hk7.trans k8⟩
   all_goals simp only[bT,↓reduceIte,zA,reduceCtorEq,zE,zB,zC,zD,zF,r0,r1,r5,r153,r154]
  ·rintro j a' s' hj ⟨r0,r1,r5,r153,r154,hk⟩ Ψ' h1
   have w:IntKind.i64.wrap ((j:Int)+1)=((j+1:Nat):Int):=by rw[aR (by omega) (by omega)];rfl
   simp only[bT,↓reduceIte,zA,reduceCtorEq,zE,zB,zC,zD,zF,r154,w]
   refine h1 _ _ ⟨?_,?_,?_,?_,?_,hk⟩
   all_goals try simp only[bT,↓reduceIte,zA,reduceCtorEq,zE,zB,zC,zD,zF,r0,r1,r5,r153]
  ·rintro a' s' ⟨r0,r1,r5,r153,r154,hk⟩
   refine hΨ20e _ _ ?_
   simp only[bT,↓reduceIte,zA,reduceCtorEq,zE,zB,zC,zD,zF]
   exact hΦ _ hk
  ·refine⟨?_,?_,?_,?_,?_,kk⟩
   all_goals try simp only[bT,↓reduceIte,zA,reduceCtorEq,zE,zB,zC,zD,zF,r0,r1,r5]
   rfl
 ·refine⟨?_,?_,?_,?_,?_,?_,?_,?_,?_,.refl k07.ok⟩
  all_goals try simp only[bT,↓reduceIte,zA,reduceCtorEq,zE,zB,zC,zD,zF]
  rfl
end
open Go.Proofs
set_option maxRecDepth 100000
set_option maxHeartbeats 1000000
section
variable {kc:Kc} {q:Bool} {s:St} {Φ:Value→St→Prop}
theorem ME:type_of% (An @RX<|An @FK<|An @zN<|@PC):=An @RX<|An @FK<|An @zN<|@PC
theorem MU {v f:Value} {n:Nat} (hn:n≤1) (hΦ:Φ (.tuple #[]) s):okF q X (KO kc) 244 [v,int 0,int n,f] s Φ:=by
 refine aG rfl fn_244 rfl (rs:=[]) rfl (N:=53) rfl rfl ?_
 refine aA fun Ψ0 hΨ0 hΨ0'=>?_
 have w:IntKind.i64.wrap ((0:Int)+1)=1:=rfl
 simp only[ME,↓reduceIte,zA,reduceCtorEq,zE,zB,zC,zD,zF,w]
 refine hΨ0 _ _ ?_
 refine aL fun Ψ1 hΨ1 hΨ1e hΨ1'=>?_
 refine jU.loop (fun k a' s'=>a'.aD 8=int 1∧a'.aD 2=int n∧s'=s) ?_ 0 ?_
 ·rintro k a' s' ⟨r8,r2,rfl⟩
  have g:¬ (1:Int)<(n:Int):=by omega
  refine aA fun Ψ2 hΨ2 hΨ2'=>?_
  refine aA fun Ψ3 hΨ3 hΨ3'=>?_
  simp only[ME,↓reduceIte,zA,reduceCtorEq,zE,zB,zC,zD,zF,r8,r2,g,decide_false]
  refine hΨ3 _ _ ?_
  simp only[ME,↓reduceIte,zA,reduceCtorEq,zE,zB,zC,zD,zF]
  refine hΨ2' _ _ _ (by simp) ?_
  refine hΨ1e _ _ ?_
  simp only[ME,↓reduceIte,zA,reduceCtorEq,zE,zB,zC,zD,zF]
  exact hΦ
 ·refine⟨?_,?_,rfl⟩
  all_goals simp only[ME,↓reduceIte,zA,reduceCtorEq,zE,zB,zC,zD,zF]
theorem vE:type_of% (An @RX<|An @FK<|@zN):=An @RX<|An @FK<|@zN
theorem pdq_one {v f:Value} {n:Nat} {l:Int} (hn:n≤1) (hΦ:Φ (.tuple #[]) s):okF q X (KO kc) 219 [v,int 0,int n,int l,f] s Φ:=by
 refine aG rfl fn_219 rfl (rs:=[]) rfl (N:=148) rfl rfl ?_
 refine aA fun Ψ0 hΨ0 hΨ0'=>?_
 simp only[vE,↓reduceIte,zA,reduceCtorEq,zE,zB,zC,zD,zF]
 refine hΨ0 _ _ ?_
 refine aA fun Ψ1 hΨ1 hΨ1'=>?_
 simp only[vE,↓reduceIte,zA,reduceCtorEq,zE,zB,zC,zD,zF]
 refine hΨ1 _ _ ?_
 refine aL fun Ψ2 hΨ2 hΨ2e hΨ2'=>?_
 refine jU.loop (fun k a' s'=>a'.aD 0=v∧a'.aD 1=int 0∧a'.aD 2=int n∧a'.aD 4=f∧s'=s) ?_ 0 ?_
 ·rintro k a' s' ⟨r0,r1,r2,r4,rfl⟩
  have w:IntKind.i64.wrap ((n:Int)-0)=n:=by rw[Int.sub_zero];exact aR (by omega) (by omega)
  have g:(n:Int)≤12:=by omega
  refine aL fun Ψ3 hΨ3 hΨ3e hΨ3'=>?_
  refine aA fun Ψ4 hΨ4 hΨ4'=>?_
  simp only[vE,↓reduceIte,zA,reduceCtorEq,zE,zB,zC,zD,zF,r1,r2,w]
  refine hΨ4 _ _ ?_
  refine aA fun Ψ5 hΨ5 hΨ5'=>?_
  refine aA fun Ψ6 hΨ6 hΨ6'=>?_
  simp only[vE,↓reduceIte,zA,reduceCtorEq,zE,zB,zC,zD,zF,g,decide_true]
  refine hΨ6 _ _ ?_
  simp only[vE,↓reduceIte,zA,reduceCtorEq,zE,zB,zC,zD,zF,r0,r1,r2,r4]
  refine aB ?_ (MU (v:=v) (f:=f) (n:=n) hn ?_)
  ·simp only[vE,↓reduceIte,zA,reduceCtorEq,zE,zB,zC,zD,zF]
  try simp only[vE,↓reduceIte,zA,reduceCtorEq,zE,zB,zC,zD,zF]
  refine hΨ5' _ _ _ (by simp) (hΨ3' _ _ _ (by simp) (by simp) (hΨ2' _ _ _ (by simp) (by simp) ?_))
  simp only[vE,↓reduceIte,zA,reduceCtorEq,zE,zB,zC,zD,zF]
  exact hΦ
 ·refine⟨?_,?_,?_,?_,rfl⟩
  all_goals simp only[vE,↓reduceIte,zA,reduceCtorEq,zE,zB,zC,zD,zF]
theorem sY:type_of% (An @RX<|An @UI<|@vZ):=An @RX<|An @UI<|@vZ
theorem YL {x:Nat} (hx:x≤1) (hΦ:∀ y,Φ (int y) s):okF q X (KO kc) 253 [.int .u64 x] s Φ:=by
 refine aG rfl fn_253 rfl (rs:=[.tmp 2]) rfl (N:=25) rfl rfl ?_
 refine aA fun Ψ0 hΨ0 hΨ0'=>?_
 simp only[sY,↓reduceIte,zA,reduceCtorEq,zE,zB,zC,zD,zF]
 refine hΨ0 _ _ ?_
 refine aA fun Ψ1 hΨ1 hΨ1'=>?_
 refine aA fun Ψ2 hΨ2 hΨ2'=>?_
 rcases(show x=0∨x=1 by omega) with rfl | rfl
 all_goals
  have b1:∀ x:Int,binop X s.look .geq 221 (.int .u64 x) (.int .u64 4294967296)=some (.bool (decide (x≥4294967296))):=fun _=>by kernel_rfl
  have b2:∀ x:Int,binop X s.look .geq 221 (.int .u64 x) (.int .u64 65536)=some (.bool (decide (x≥65536))):=fun _=>by kernel_rfl
  have b3:∀ x:Int,binop X s.look .geq 221 (.int .u64 x) (.int .u64 256)=some (.bool (decide (x≥256))):=fun _=>by kernel_rfl
  simp only[sY,↓reduceIte,zA,reduceCtorEq,zE,zB,zC,zD,zF,b1,show ¬ ((0:Nat):Int)≥4294967296 by decide,show ¬ ((1:Nat):Int)≥4294967296 by decide,decide_false]
  refine hΨ2 _ _ ?_
  simp only[sY,↓reduceIte,zA,reduceCtorEq,zE,zB,zC,zD,zF]
  refine hΨ1 _ _ ?_
  refine aA fun Ψ3 hΨ3 hΨ3'=>?_
  refine aA fun Ψ4 hΨ4 hΨ4'=>?_
  simp only[sY,↓reduceIte,zA,reduceCtorEq,zE,zB,zC,zD,zF,b2,show ¬ ((0:Nat):Int)≥65536 by decide,show ¬ ((1:Nat):Int)≥65536 by decide,decide_false]
  refine hΨ4 _ _ ?_
  simp only[sY,↓reduceIte,zA,reduceCtorEq,zE,zB,zC,zD,zF]
  refine hΨ3 _ _ ?_
  refine aA fun Ψ5 hΨ5 hΨ5'=>?_
  refine aA fun Ψ6 hΨ6 hΨ6'=>?_
  simp only[sY,↓reduceIte,zA,reduceCtorEq,zE,zB,zC,zD,zF,b3,show ¬ ((0:Nat):Int)≥256 by decide,show ¬ ((1:Nat):Int)≥256 by decide,decide_false]
  refine hΨ6 _ _ ?_
  simp only[sY,↓reduceIte,zA,reduceCtorEq,zE,zB,zC,zD,zF]
  refine hΨ5 _ _ ?_
  simp only[sY,↓reduceIte,zA,reduceCtorEq,zE,zB,zC,zD,zF]
  generalize hz:uH X 9 _ _=z
 ·have hz':z=some (.int .u8 0):=by rw[← hz];kernel_rfl
  clear hz
  subst hz'
  simp only[sY,↓reduceIte,zA,reduceCtorEq,zE,zB,zC,zD,zF]
  exact hΦ _
 ·have hz':z=some (.int .u8 1):=by rw[← hz];kernel_rfl
  clear hz
  subst hz'
  simp only[sY,↓reduceIte,zA,reduceCtorEq,zE,zB,zC,zD,zF]
  exact hΦ _
theorem TD:type_of% (An @RX<|@IT):=An @RX<|@IT
theorem sk {x:Nat} (hx:x≤1) (hΦ:∀ y,Φ (int y) s):okF q X (KO kc) 220 [.int .u64 x] s Φ:=by
 refine aG rfl fn_220 rfl (rs:=[.tmp 2]) rfl (N:=8) rfl rfl ?_
 refine aA fun Ψ0 hΨ0 hΨ0'=>?_
 simp only[TD,↓reduceIte,zA,reduceCtorEq,zE,zB,zC,zD,zF]
 refine hΨ0 _ _ ?_
 simp only[TD,↓reduceIte,zA,reduceCtorEq,zE,zB,zC,zD,zF]
 refine aB ?_ (YL hx ?_)
 ·simp only[TD,↓reduceIte,zA,reduceCtorEq,zE,zB,zC,zD,zF]
 intro y
 simp only[TD,↓reduceIte,zA,reduceCtorEq,zE,zB,zC,zD,zF]
 exact hΦ y
theorem EP:type_of% (An @RX<|An @gv<|@UK):=An @RX<|An @gv<|@UK
theorem SU {va:Option Addr} {n c:Nat} {f:Value} (hn:n≤1) (hΦ:Φ (.tuple #[]) s):okF q X (KO kc) 155 [.slice va n c,f] s Φ:=by
 refine aG rfl fn_155 rfl (rs:=[]) rfl (N:=14) rfl rfl ?_
 refine aA fun Ψ0 hΨ0 hΨ0'=>?_
 simp only[EP,↓reduceIte,zA,reduceCtorEq,zE,zB,zC,zD,zF]
 refine hΨ0 _ _ ?_
 have w:IntKind.u64.wrap (n:Int)=(n:Int):=by
  rcases(show n=0∨n=1 by omega) with rfl | rfl <;> rfl
 simp only[EP,↓reduceIte,zA,reduceCtorEq,zE,zB,zC,zD,zF,w]
 refine aB ?_ (sk hn ?_)
 ·simp only[EP,↓reduceIte,zA,reduceCtorEq,zE,zB,zC,zD,zF]
 intro y
 simp only[EP,↓reduceIte,zA,reduceCtorEq,zE,zB,zC,zD,zF]
 refine aB ?_ (pdq_one (v:=.slice va n c) (f:=f) (n:=n) (l:=y) hn ?_)
 ·simp only[EP,↓reduceIte,zA,reduceCtorEq,zE,zB,zC,zD,zF]
 simp only[EP,↓reduceIte,zA,reduceCtorEq,zE,zB,zC,zD,zF]
 exact hΦ
theorem PK:type_of% (An @RC<|An @RO<|An @RD<|An @RV<|An @RB<|@RG):=An @RC<|An @RO<|An @RD<|An @RV<|An @RB<|@RG
theorem sS {va:Option Addr} {n c:Nat} (hn:n≤1) (hΦ:Φ (.slice va n c) s):okF q X (KO kc) 66 [.slice va n c] s Φ:=by
 refine aG rfl fn_66 rfl (rs:=[.tmp 2]) rfl (N:=6) rfl rfl ?_
 refine aA fun Ψ0 hΨ0 hΨ0'=>?_
 simp only[PK,↓reduceIte,zA,reduceCtorEq,zE,zB,zC,zD,zF]
 refine hΨ0 _ _ ?_
 refine aA fun Ψ1 hΨ1 hΨ1'=>?_
 simp only[PK,↓reduceIte,zA,reduceCtorEq,zE,zB,zC,zD,zF]
 refine aB ?_ (SU (va:=va) (n:=n) (c:=c) (f:=.func (.func 156) #[] #[]) hn ?_)
 ·simp only[PK,↓reduceIte,zA,reduceCtorEq,zE,zB,zC,zD,zF]
 try simp only[PK,↓reduceIte,zA,reduceCtorEq,zE,zB,zC,zD,zF]
 refine hΨ1 _ _ ?_
 refine aA fun Ψ2 hΨ2 hΨ2'=>?_
 simp only[PK,↓reduceIte,zA,reduceCtorEq,zE,zB,zC,zD,zF]
 refine hΨ2 _ _ ?_
 simp only[PK,↓reduceIte,zA,reduceCtorEq,zE,zB,zC,zD,zF]
 exact hΦ
end
open Go.Proofs
set_option maxRecDepth 100000
set_option maxHeartbeats 1000000
abbrev PW:=Int×Int×Int
def zG (f:PW):List Value:=[int f.1,int f.2.1,int f.2.2]
namespace PH
variable (P:PH)
def BR (a:Int) (i:Nat):List PW:=if P.mU (P.ref a i)≥0 then [(P.mU (P.ref a i),a,(i:Int))] else []
def vG (a:Int) (n:Nat):List PW:=(List.range n).flatMap (P.BR a)
def vF (a:Int):List PW:=P.vG a (P.cA a)
def bK:List PW:=P.all.flatMap P.vF
theorem JH (a:Int) (n:Nat):P.vG a (n+1)=P.vG a n++P.BR a n:=by
 unfold vG;rw[List.range_succ,List.flatMap_append];simp
theorem NX (a:Int) (n:Nat):(P.vG a n).length≤n:=by
 induction n with
 | zero=>exact Nat.le_refl _
 | succ n ih=>rw[JH,List.length_append];unfold BR;split <;> simp <;> omega
theorem ZE {P:PH} (G:P.cZ) (l:List Int):(l.flatMap P.vF).length≤15*l.length:=by
 induction l with
 | nil=>exact Nat.le_refl _
 | cons a l ih =>
  rw[List.flatMap_cons,List.length_append,List.length_cons]
  have h1:=P.NX a (P.cA a)
  have h2:=(OZ G a).2
  have h3:P.cA a≤15:=by unfold cA;omega
  unfold vF at *
  omega
end PH
def lF (s:St) (cb:Nat) (lo:Nat) (av:List Nat) (C:List PW):Prop:=∃ va vc,Obj s cb [.slice va C.length vc]∧kL s 51 3 (.slice va C.length vc) (C.flatMap zG)∧(∀ b∈nameOf (.slice va C.length vc),lo≤b∧b∉av)∧cb<lo
theorem lF.aF {s s':St} {cb lo:Nat} {av:List Nat} {C:List PW} (h:lF s cb lo av C) (k:aC [] s s'):lF s' cb lo av C:=by
 obtain⟨va,vc,h1,h2,h3,h4⟩:=h
 exact⟨va,vc,h1.aF k (by simp),h2.aF k (by simp),h3,h4⟩
theorem lF.off {s s':St} {cb lo:Nat} {av av':List Nat} {C:List PW} (hs:Ok s) (h:lF s cb lo av C) (k:aC [] s s') (ha:∀ b∈av',s.next≤b):lF s' cb lo av' C:=by
 obtain⟨va,vc,h1,h2,h3,h4⟩:=h
 refine⟨va,vc,h1.aF k (by simp),h2.aF k (by simp),fun b hb=>⟨(h3 b hb).1,fun hh=>?_⟩,h4⟩
 have:=h2.lt hs b hb
 have:=ha b hh
 omega
section
variable {kc:Kc} {q:Bool} {s:St} {Φ:Value→St→Prop} {h:Nat} {P:PH}
theorem lF.add (hs:Ok s) {cb lo:Nat} {av:List Nat} {C:List PW} (h:lF s cb lo av C) (hlo:lo≤s.next) (hav:∀ x∈av,x<s.next) (hm:C.length<1000000) (f:PW)
  (hΦ:∀ s',lF s' cb lo av (C++[f])→(∀ b m n c v L,(∀ b∈nameOf v,b∈av∧b≠cb)→v=.slice b n c→Sl s m v L→Sl s' m v L)→(∀ s0,Ok s0→aC [cb] s0 s→s0.next≤lo→aC [cb] s0 s')→s.next≤s'.next→Φ (.tuple #[]) s') :
  okF q X (KO kc) 65 [ptr cb,int f.1,int f.2.1,int f.2.2] s Φ:=by
 obtain⟨va,vc,h1,h2,h3,h4⟩:=h
 refine cz hs h1 (o:=0) rfl h2 (fun hb=>by have:=(h3 _ hb).1;omega) hm _ _ _ fun va' vc' s' o1 o2 o3 o4=>?_
 refine hΦ s' ⟨va',vc',?_,?_,fun b hb=>?_,h4⟩ (fun b m n c v L hb hv hc=>hc.aF o4 fun x hx hh=>?_) (fun s0 ok0 k0 hs0=>?_) o4.next
 ·rw[List.length_append];exact o1
 ·rw[List.length_append,List.flatMap_append,List.flatMap_singleton];exact o2
 ·rw[List.length_append] at hb
  rcases o3 b hb with h | h
  ·exact h3 b h
  ·exact⟨by omega,fun hh=>by have:=hav b hh;omega⟩
 ·rcases List.mem_cons.1 hh with h | h
  ·exact(hb x hx).2 h
  ·exact(h3 x h).2 (hb x hx).1
 ·refine k0.step o4 fun g hg=>?_
  rcases List.mem_cons.1 hg with h | h
  ·subst h;exact .inl (by simp)
  ·exact .inr (ok0.fresh g (by have:=(h3 g h).1;omega))
end
open Go.Proofs
set_option maxRecDepth 100000
set_option maxHeartbeats 1000000
section
variable {kc:Kc} {q:Bool} {s:St} {Φ:Value→St→Prop} {h:Nat} {P:PH}
theorem kL.cells {s:St} {e m b off n c:Nat} {L:List Value} (h:kL s e m (.slice (some ⟨b,off,none⟩) n c) L):∃ L0,Cells s b e L0:=by
 cases h with
 | own h _ _ _ _=>exact⟨_,h⟩
theorem iE:type_of% (An @RX<|An @PZ<|An @cO<|An @dO<|An @bF<|@wG):=An @RX<|An @PZ<|An @cO<|An @dO<|An @bF<|@wG
theorem sM (hs:Ok s) (H:aP s h P) (G:P.cZ) (h1:P.bK.length≤1) (hΦ:∀ va vc s',kL s' 51 3 (.slice va P.bK.length vc) (P.bK.flatMap zG)→(∀ b∈nameOf (.slice va P.bK.length vc),s.next≤b)→aC [] s s'→Φ (.tuple #[.slice va P.bK.length vc,int 0]) s'):okF q X (KO kc) 9 [ptr h] s Φ:=by
 have iJ:=H.iJ
 have n2:=H.n2
 have hN:¬ (P.N:Int)≤0:=by omega
 refine aG rfl fn_9 rfl (rs:=[.tmp 2,.tmp 3]) rfl (N:=42) rfl rfl ?_
 refine aA fun Ψ0 hΨ0 hΨ0'=>?_
 simp only[iE,↓reduceIte,zA,reduceCtorEq,zE,zB,zC,zD,zF]
 refine hΨ0 _ _ ?_
 refine aA fun Ψ1 hΨ1 hΨ1'=>?_
 refine aA fun Ψ2 hΨ2 hΨ2'=>?_
 simp only[iE,↓reduceIte,zA,reduceCtorEq,zE,zB,zC,zD,zF]
 refine aB ?_ (mR H ?_)
 ·simp only[iE,↓reduceIte,zA,reduceCtorEq,zE,zB,zC,zD,zF]
 simp only[iE,↓reduceIte,zA,reduceCtorEq,zE,zB,zC,zD,zF,hN,decide_false]
 refine hΨ2 _ _ ?_
 simp only[iE,↓reduceIte,zA,reduceCtorEq,zE,zB,zC,zD,zF]
 refine hΨ1 _ _ ?_
 refine aA fun Ψ3 hΨ3 hΨ3'=>?_
 simp only[iE,↓reduceIte,zA,reduceCtorEq,zE,zB,zC,zD,zF]
 obtain⟨s1,e1,k1,c1,n1⟩:=aT hs (L:=[.slice none 0 0]) (n:=1) (e:=110) rfl
 rw[e1]
 refine hΨ3 _ _ ?_
 refine aA fun Ψ4 hΨ4 hΨ4'=>?_
 refine aA fun Ψ5 hΨ5 hΨ5'=>?_
 simp only[iE,↓reduceIte,zA,reduceCtorEq,zE,zB,zC,zD,zF]
 refine aB ?_ (VL k1.ok (H.aN k1) fun s2 va n vc b2 hn hnm2 k2=>?_)
 ·simp only[iE,↓reduceIte,zA,reduceCtorEq,zE,zB,zC,zD,zF]
 subst hn
 try simp only[iE,↓reduceIte,zA,reduceCtorEq,zE,zB,zC,zD,zF]
 refine hΨ5 _ _ ?_
 have k02:=k1.trans k2
 have c2:=c1.aF k2 (by simp)
 have n12:=k2.next
 have F0:lF s2 s.next s2.next [] []:=⟨none,0,c2,.nil,by simp[nameOf],by omega⟩
 have hal:=P.xI
 refine aL fun Ψ6 hΨ6 hΨ6e hΨ6'=>?_
 refine dP (n:=P.all.length) (fun j a' s'=>a'.aD 0=ptr h∧a'.aD 4=ptr s.next∧a'.aD 14=.slice va P.all.length vc∧a'.aD 15=int P.all.length∧a'.aD 16=int j∧lF s' s.next s2.next [] ((P.all.take j).flatMap P.vF)∧aC [s.next] s2 s')
  (fun j a' s'=>a'.aD 0=ptr h∧a'.aD 4=ptr s.next∧a'.aD 14=.slice va P.all.length vc∧a'.aD 15=int P.all.length∧a'.aD 16=int j∧lF s' s.next s2.next [] ((P.all.take (j+1)).flatMap P.vF)∧aC [s.next] s2 s') ?_ ?_ ?_ ?_ (Nat.zero_le _) ?_
 ·rintro j a' s' hj ⟨r0,r4,r14,r15,r16,hF,hk⟩ Ψ' hΨ'
  simp only[iE,↓reduceIte,zA,reduceCtorEq,zE,zB,zC,zD,zF,r15,r16]
  refine hΨ' _ _ (decide ((j:Int)<P.all.length)) ?_ (by simp) ⟨?_,?_,?_,?_,?_,hF,hk⟩
  all_goals simp only[iE,↓reduceIte,zA,reduceCtorEq,zE,zB,zC,zD,zF,r0,r4,r14,r15,r16]
 ·rintro j a' s' hj ⟨r0,r4,r14,r15,r16,hF,hk⟩ Ψ' g1' g2' g3'
  obtain⟨vb,voff,rfl⟩:=b2.sl.addr (show 0<P.all.length by omega)
  have g1:(0:Int)≤(j:Int):=Int.natCast_nonneg _
  have g2:(j:Int)<((P.all.length:Nat):Int):=by omega
  obtain⟨x,hx⟩:∃ x,x=P.all[j]:=⟨_,rfl⟩
  have hvb:=hnm2 vb (by simp[nameOf])
  have lj:aI s'.look ⟨vb,voff+j,none⟩=some (int x):=by
   refine(b2.sl.aF hk (fun b hb hb'=>?_)).load (i:=j) ?_
   ·simp[nameOf] at hb hb';omega
   ·rw[List.getElem?_map,List.getElem?_eq_getElem hj,hx];rfl
  have hxi:i64 x:=P.HD iJ (by rw[hx];exact List.getElem_mem _)
  have htk:P.all.take (j+1)=P.all.take j++[x]:=by rw[List.take_add_one,List.getElem?_eq_getElem hj,hx];rfl
  have Hk:∀ t,aC [s.next] s2 t→aP t h P:=fun t k=>(H.aN k02).aF k fun y hy hy'=>by have:=H.cH hs y hy;simp at hy';omega
  refine aA fun Ψ7 hΨ7 hΨ7'=>?_
  simp only[iE,↓reduceIte,zA,reduceCtorEq,zE,zB,zC,zD,zF,r14,r16,g1,g2,and_self,aJ,Int.toNat_natCast,Nat.mul_one,lj]
  refine hΨ7 _ _ ?_
  refine aA fun Ψ8 hΨ8 hΨ8'=>?_
  simp only[iE,↓reduceIte,zA,reduceCtorEq,zE,zB,zC,zD,zF,r0]
  refine aB ?_ (uS hk.ok (Hk _ hk) G x hxi ?_)
  ·simp only[iE,↓reduceIte,zA,reduceCtorEq,zE,zB,zC,zD,zF]
  rintro v s3 b3 ⟨ra,rc,rfl⟩ hnm3 k3
  try simp only[iE,↓reduceIte,zA,reduceCtorEq,zE,zB,zC,zD,zF]
  refine hΨ8 _ _ ?_
  have k23:=hk.trans k3.any
  have F3:lF s3 s.next s2.next (nameOf (.slice ra (P.cA x) rc)) ((P.all.take j).flatMap P.vF):=hF.off hk.ok k3 hnm3
  have hkn:=hk.next
  have hln:=PH.ZE G (P.all.take j)
  rw[List.length_take] at hln
  have hr15:P.cA x≤15:=by have:=(PH.OZ G x).2;unfold PH.cA;omega
  have hlt3:=b3.lt k3.ok
  refine aL fun Ψ9 hΨ9 hΨ9e hΨ9'=>?_
  refine dP (n:=P.cA x) (fun i a' s'=>a'.aD 0=ptr h∧a'.aD 4=ptr s.next∧a'.aD 14=.slice (some ⟨vb,voff,none⟩) P.all.length vc∧a'.aD 15=int P.all.length∧a'.aD 16=int j∧a'.aD 6=int x∧a'.aD 22=.slice ra (P.cA x) rc∧a'.aD 23=int (P.cA x)∧a'.aD 24=int i∧lF s' s.next s2.next (nameOf (.slice ra (P.cA x) rc)) ((P.all.take j).flatMap P.vF++P.vG x i)∧tR s' (.slice ra (P.cA x) rc) (P.refs x)∧s3.next≤s'.next∧aC [s.next] s2 s')
   (fun i a' s'=>a'.aD 0=ptr h∧a'.aD 4=ptr s.next∧a'.aD 14=.slice (some ⟨vb,voff,none⟩) P.all.length vc∧a'.aD 15=int P.all.length∧a'.aD 16=int j∧a'.aD 6=int x∧a'.aD 22=.slice ra (P.cA x) rc∧a'.aD 23=int (P.cA x)∧a'.aD 24=int i∧lF s' s.next s2.next (nameOf (.slice ra (P.cA x) rc)) ((P.all.take j).flatMap P.vF++P.vG x (i+1))∧tR s' (.slice ra (P.cA x) rc) (P.refs x)∧s3.next≤s'.next∧aC [s.next] s2 s') ?_ ?_ ?_ ?_ (Nat.zero_le _) ?_
  ·rintro i a' s' hi ⟨r0,r4,r14,r15,r16,r6,r22,r23,r24,hF,hI,hn3,hk⟩ Ψ' hΨ'
   simp only[iE,↓reduceIte,zA,reduceCtorEq,zE,zB,zC,zD,zF,r23,r24]
   refine hΨ' _ _ (decide ((i:Int)<P.cA x)) ?_ (by simp) ⟨?_,?_,?_,?_,?_,?_,?_,?_,?_,hF,hI,hn3,hk⟩
   all_goals simp only[iE,↓reduceIte,zA,reduceCtorEq,zE,zB,zC,zD,zF,r0,r4,r14,r15,r16,r6,r22,r23,r24]
  ·rintro i a' s' hi ⟨r0,r4,r14,r15,r16,r6,r22,r23,r24,hF,hI,hn3,hk⟩ Ψ' w1 w2 w3
   obtain⟨rb,ro,rfl⟩:=Sl.addr hI (show 0<P.cA x by omega)
   have i1:(0:Int)≤(i:Int):=Int.natCast_nonneg _
   have i2:(i:Int)<((P.cA x:Nat):Int):=by omega
   have li:aI s'.look ⟨rb,ro+i,none⟩=some (int (P.ref x i)):=by
    refine hI.get ?_
    unfold PH.refs
    rw[List.getElem?_map,List.getElem?_range hi];rfl
   refine aA fun Ψ10 hΨ10 hΨ10'=>?_
   simp only[iE,↓reduceIte,zA,reduceCtorEq,zE,zB,zC,zD,zF,r22,r24,i1,i2,and_self,aJ,Int.toNat_natCast,Nat.mul_one,li]
   refine hΨ10 _ _ ?_
   refine aA fun Ψ11 hΨ11 hΨ11'=>?_
   simp only[iE,↓reduceIte,zA,reduceCtorEq,zE,zB,zC,zD,zF,r0]
   refine aB ?_ (TE hk.ok (Hk _ hk) (P.ref x i) (PH.HN H x i) fun s4 k4=>?_)
   ·simp only[iE,↓reduceIte,zA,reduceCtorEq,zE,zB,zC,zD,zF]
   try simp only[iE,↓reduceIte,zA,reduceCtorEq,zE,zB,zC,zD,zF]
   refine hΨ11 _ _ ?_
   have hk4:=hk.trans k4.any
   have hF4:=hF.aF k4
   have hI4:tR s4 (.slice (some ⟨rb,ro,none⟩) (P.cA x) rc) (P.refs x):=Sl.aF hI k4 (by simp)
   have n4:=k4.next
   have hsucc:=P.JH x i
   unfold PH.BR at hsucc
   refine aA fun Ψ12 hΨ12 hΨ12'=>?_
   by_cases hw:P.mU (P.ref x i)≥0
   ·rw[if_pos hw] at hsucc
    simp only[iE,↓reduceIte,zA,reduceCtorEq,zE,zB,zC,zD,zF,hw,decide_true]
    refine hΨ12 _ _ ?_
    simp only[iE,↓reduceIte,zA,reduceCtorEq,zE,zB,zC,zD,zF,r4,r6]
    have hrb:s3.next>rb:=hlt3 rb (by simp[nameOf])
    have hrb2:=hnm3 rb (by simp[nameOf])
    refine aB ?_ (lF.add (s:=s4) (cb:=s.next) (lo:=s2.next) hk4.ok hF4 (by have:=hk4.next;omega) (fun y hy=>by have:=hlt3 y hy;omega) (by rw[List.length_append];have:=P.NX x i;omega) (P.mU (P.ref x i),x,(i:Int)) fun s5 f1 f2 f3 f4=>?_)
    ·simp only[iE,↓reduceIte,zA,reduceCtorEq,zE,zB,zC,zD,zF,r4]
    simp only[iE,↓reduceIte,zA,reduceCtorEq,zE,zB,zC,zD,zF]
    have hk5:=f3 s2 k02.ok hk4 (Nat.le_refl _)
    refine w1 _ _ ⟨?_,?_,?_,?_,?_,?_,?_,?_,?_,?_,?_,?_,hk5⟩
    ·simp only[iE,↓reduceIte,zA,reduceCtorEq,zE,zB,zC,zD,zF,r0]
    ·simp only[iE,↓reduceIte,zA,reduceCtorEq,zE,zB,zC,zD,zF,r4]
    ·simp only[iE,↓reduceIte,zA,reduceCtorEq,zE,zB,zC,zD,zF,r14]
    ·simp only[iE,↓reduceIte,zA,reduceCtorEq,zE,zB,zC,zD,zF,r15]
    ·simp only[iE,↓reduceIte,zA,reduceCtorEq,zE,zB,zC,zD,zF,r16]
    ·simp only[iE,↓reduceIte,zA,reduceCtorEq,zE,zB,zC,zD,zF,r6]
    ·simp only[iE,↓reduceIte,zA,reduceCtorEq,zE,zB,zC,zD,zF,r22]
    ·simp only[iE,↓reduceIte,zA,reduceCtorEq,zE,zB,zC,zD,zF,r23]
    ·simp only[iE,↓reduceIte,zA,reduceCtorEq,zE,zB,zC,zD,zF,r24]
    ·rw[hsucc,← List.append_assoc];exact f1
    ·exact f2 _ _ _ _ _ _ (fun b hb=>⟨hb,by simp[nameOf] at hb;omega⟩) rfl hI4
    ·omega
   ·rw[if_neg hw,List.append_nil] at hsucc
    simp only[iE,↓reduceIte,zA,reduceCtorEq,zE,zB,zC,zD,zF,hw,decide_false]
    refine hΨ12 _ _ ?_
    simp only[iE,↓reduceIte,zA,reduceCtorEq,zE,zB,zC,zD,zF]
    refine w1 _ _ ⟨?_,?_,?_,?_,?_,?_,?_,?_,?_,by rw[hsucc];exact hF4,hI4,by omega,hk4⟩
    all_goals try simp only[iE,↓reduceIte,zA,reduceCtorEq,zE,zB,zC,zD,zF,r0,r4,r14,r15,r16,r6,r22,r23,r24]
  ·rintro i a' s' hi ⟨r0,r4,r14,r15,r16,r6,r22,r23,r24,hF,hI,hn3,hk⟩ Ψ' w1
   have w:IntKind.i64.wrap ((i:Int)+1)=((i+1:Nat):Int):=by rw[aR (by omega) (by omega)];rfl
   simp only[iE,↓reduceIte,zA,reduceCtorEq,zE,zB,zC,zD,zF,r24,w]
   refine w1 _ _ ⟨?_,?_,?_,?_,?_,?_,?_,?_,?_,hF,hI,hn3,hk⟩
   all_goals try simp only[iE,↓reduceIte,zA,reduceCtorEq,zE,zB,zC,zD,zF,r0,r4,r14,r15,r16,r6,r22,r23]
  ·rintro a' s' ⟨r0,r4,r14,r15,r16,r6,r22,r23,r24,hF,hI,hn3,hk⟩
   refine hΨ9e _ _ (g1' _ _ ⟨r0,r4,r14,r15,r16,?_,hk⟩)
   rw[htk,List.flatMap_append,List.flatMap_singleton]
   obtain⟨fa,fc,f1,f2,f3,f4⟩:=hF
   exact⟨fa,fc,f1,f2,fun b hb=>⟨(f3 b hb).1,by simp⟩,f4⟩
  ·refine⟨?_,?_,?_,?_,?_,?_,?_,?_,?_,by rw[show P.vG x 0=[] from rfl,List.append_nil];exact F3,b3.sl,Nat.le_refl _,k23⟩
   all_goals try simp only[iE,↓reduceIte,zA,reduceCtorEq,zE,zB,zC,zD,zF,r0,r4,r14,r15,r16]
   rfl
 ·rintro j a' s' hj ⟨r0,r4,r14,r15,r16,hF,hk⟩ Ψ' g1'
  have w:IntKind.i64.wrap ((j:Int)+1)=((j+1:Nat):Int):=by rw[aR (by omega) (by omega)];rfl
  simp only[iE,↓reduceIte,zA,reduceCtorEq,zE,zB,zC,zD,zF,r16,w]
  refine g1' _ _ ⟨?_,?_,?_,?_,?_,hF,hk⟩
  all_goals try simp only[iE,↓reduceIte,zA,reduceCtorEq,zE,zB,zC,zD,zF,r0,r4,r14,r15]
 ·rintro a' s' ⟨r0,r4,r14,r15,r16,hF,hk⟩
  refine hΨ6e _ _ (hΨ4 _ _ ?_)
  rw[List.take_of_length_le (Nat.le_refl _)] at hF
  have hF:lF s' s.next s2.next [] P.bK:=hF
  obtain⟨fa,fc,f1,f2,f3,f4⟩:=hF
  have lf:=f1.load (i:=0) rfl
  simp only[iE,↓reduceIte,zA,reduceCtorEq,zE,zB,zC,zD,zF,r4,lf]
  refine aB ?_ (sS (va:=fa) (n:=P.bK.length) (c:=fc) h1 ?_)
  ·simp only[iE,↓reduceIte,zA,reduceCtorEq,zE,zB,zC,zD,zF]
  simp only[iE,↓reduceIte,zA,reduceCtorEq,zE,zB,zC,zD,zF]
  exact hΦ fa fc s' f2 (fun b hb=>by have:=(f3 b hb).1;omega) (k02.step hk fun g hg=>.inr (hs.fresh g (by simp at hg;omega)))
 ·refine⟨?_,?_,?_,?_,?_,F0,.refl k02.ok⟩
  all_goals try simp only[iE,↓reduceIte,zA,reduceCtorEq,zE,zB,zC,zD,zF]
  rfl
end
end Go.Dust
