/- VerifySound walked in D, function by function, and its plain law (K8 Tw Tx K9). -/
import Derived.Test.YtaoiejcaopgjcaaGreatb
import Derived.Test.YtaoiejcaopgjcaaGreatO
import Derived.Test.YtaoiejcaopgjcaaGreatK
import Derived.ChangeSlices
import Derived.OpenShut
set_option linter.unusedVariables false
set_option linter.unusedSimpArgs false
open Nat renaming reduceEqDiff → zA, reduceMul → zB, reduceAdd → zC, reduceBEq → zD
open Int renaming reduceEq → zE, reduceBEq → zF
namespace Go.Dust
open Go.Proofs
set_option maxRecDepth 100000
set_option maxHeartbeats 8000000
section
variable {kc:Kc} {q:Bool} {s:St} {Φ:Value→St→Prop}
theorem tO:type_of% (An @RX<|An @DW<|An @FK<|An @zN<|An @ZA<|@yg):=An @RX<|An @DW<|An @FK<|An @zN<|An @ZA<|@yg
theorem ZU (hs:Ok s) {va vb:Option Addr} {vc wc:Nat} (f:PW) (B1:Sl s 3 (.slice va 1 vc) (zG f)) (B2:Sl s 3 (.slice vb 1 wc) (zG f)) (hΦ:∀ s',aC [] s s'→Φ (.bool true) s'):okF q X (KO kc) 19 [.slice va 1 vc,.slice vb 1 wc] s Φ:=by
 refine aG rfl fn_19 rfl (rs:=[.tmp 4]) rfl (N:=26) rfl rfl ?_
 refine aA fun Ψ0 hΨ0 hΨ0'=>?_
 simp only[tO,↓reduceIte,zA,reduceCtorEq,zE,zB,zC,zD,zF]
 refine hΨ0 _ _ ?_
 refine aA fun Ψ1 hΨ1 hΨ1'=>?_
 refine aA fun Ψ2 hΨ2 hΨ2'=>?_
 simp only[tO,↓reduceIte,zA,reduceCtorEq,zE,zB,zC,zD,zF,beq_self_eq_true]
 refine hΨ2 _ _ ?_
 simp only[tO,↓reduceIte,zA,reduceCtorEq,zE,zB,zC,zD,zF]
 refine hΨ1 _ _ ?_
 refine aA fun Ψ3 hΨ3 hΨ3'=>?_
 refine aA fun Ψ4 hΨ4 hΨ4'=>?_
 simp only[tO,↓reduceIte,zA,reduceCtorEq,zE,zB,zC,zD,zF]
 refine hΨ4 _ _ ?_
 refine aL fun Ψ5 hΨ5 hΨ5e hΨ5'=>?_
 refine fY (n:=1) (fun j a' s'=>a'.aD 0=.slice va 1 vc∧a'.aD 1=.slice vb 1 wc∧a'.aD 5=int j∧aC [] s s') (fun j a' s'=>a'.aD 0=.slice va 1 vc∧a'.aD 1=.slice vb 1 wc∧a'.aD 5=int j∧aC [] s s') ?_ ?_ ?_ ?_ (Nat.zero_le _) ?_
 ·rintro j a' s' hj ⟨r0,r1,r5,hk⟩ Ψ' hΨ'
  have e1:((1:Nat):Int)=1:=rfl
  simp only[tO,↓reduceIte,zA,reduceCtorEq,zE,zB,zC,zD,zF,r0,r5,e1]
  refine hΨ' _ _ (decide ((j:Int)<1)) ?_ (by rw[decide_eq_true_eq];omega) ⟨?_,?_,?_,hk⟩
  all_goals simp only[tO,↓reduceIte,zA,reduceCtorEq,zE,zB,zC,zD,zF,r0,r1,r5]
 ·rintro j a' s' hj ⟨r0,r1,r5,hk⟩ Ψ' w1 w2 w3
  obtain rfl:j=0:=by omega
  obtain⟨b1,o1,rfl⟩:=B1.addr (by omega)
  obtain⟨b2,o2,rfl⟩:=B2.addr (by omega)
  have p1:(0:Int)≤((0:Nat):Int):=Int.natCast_nonneg _
  have p2:((0:Nat):Int)<((1:Nat):Int):=by omega
  have g1:aS s'.look ⟨b1,o1+0*3,none⟩ 3=some [int f.1,int f.2.1,int f.2.2]:=(B1.aF hk (by simp)).aS (i:=0*3) (k:=3) (by omega) (by simp[zG])
  have g2:aS s'.look ⟨b2,o2+0*3,none⟩ 3=some [int f.1,int f.2.1,int f.2.2]:=(B2.aF hk (by simp)).aS (i:=0*3) (k:=3) (by omega) (by simp[zG])
  refine aA fun Ψ6 hΨ6 hΨ6'=>?_
  refine aQ [] [] [] (by kernel_rfl) (by kernel_rfl) (by rfl) fun O hO ΨR hR=>?_
  simp only[tO,↓reduceIte,zA,reduceCtorEq,zE,zB,zC,zD,zF,r0,r1,r5,p1,p2,and_self,aJ,Int.toNat_natCast,g1,g2,beq_self_eq_true,Bool.and_self]
  refine hR _ _ (hΨ6 _ _ ?_)
  simp only[tO,↓reduceIte,zA,reduceCtorEq,zE,zB,zC,zD,zF]
  refine w1 _ _ ⟨?_,?_,?_,hk.cB _⟩
  all_goals simp only[tO,↓reduceIte,zA,reduceCtorEq,zE,zB,zC,zD,zF,r0,r1,r5]
 ·rintro j a' s' hj ⟨r0,r1,r5,hk⟩ Ψ' w1
  have w:IntKind.i64.wrap ((j:Int)+1)=((j+1:Nat):Int):=by rw[aR (by omega) (by omega)];rfl
  simp only[tO,↓reduceIte,zA,reduceCtorEq,zE,zB,zC,zD,zF,r5,w]
  refine w1 _ _ ⟨?_,?_,?_,hk⟩
  all_goals try simp only[tO,↓reduceIte,zA,reduceCtorEq,zE,zB,zC,zD,zF,r0,r1]
 ·rintro a' s' ⟨r0,r1,r5,hk⟩
  refine hΨ5e _ _ (hΨ3 _ _ ?_)
  simp only[tO,↓reduceIte,zA,reduceCtorEq,zE,zB,zC,zD,zF]
  exact hΦ s' hk
 ·refine⟨?_,?_,?_,.refl hs⟩
  all_goals try simp only[tO,↓reduceIte,zA,reduceCtorEq,zE,zB,zC,zD,zF]
  rfl
end
section
variable {q:Bool} {s:St} {Φ:Value→St→Prop}
theorem cF:type_of% (An @RX<|An @ld_27<|An @tx<|An @tu<|An @sB<|An @sE<|An @HJ<|An @OI<|An @DW<|An @vZ<|An @kA<|An @kI<|An @eC<|An @bF<|An @rY<|An @dm<|An @PC<|An @ga<|An @rV<|An @zN<|@NL):=An @RX<|An @ld_27<|An @tx<|An @tu<|An @sB<|An @sE<|An @HJ<|An @OI<|An @DW<|An @vZ<|An @kA<|An @kI<|An @eC<|An @bF<|An @rY<|An @dm<|An @PC<|An @ga<|An @rV<|An @zN<|@NL
theorem GY (hs:Ok s) {x0 x1 o0 i0:Nat} (hx0:x0<256) (hx1:x1<256) (ho:o0<256) (hi:i0<256) {v:Int} (hv:i64 v) {v2 v3 v4 v5 v6:Value} {l2 l3 l4 l5 l6:Nat} (U2:lI s.next s 4 v2 l2) (U3:lI s.next s 1 v3 l3) (U4:lI s.next s 3 v4 l4) (U5:lI s.next s 2 v5 l5) (U6:lI s.next s 1 v6 l6)
  (hΦ:∀ s',aC [] s s'→Φ (.bool true) s'):okF q X (KO wF) 3 [.agg #[u8 x0,u8 x1,v2,v3,v4,v5,v6],u8 o0,u8 i0,int v] s Φ:=by
 obtain⟨a2,c2',rfl,W2⟩:=U2
 obtain⟨a3,c3',rfl,W3⟩:=U3
 obtain⟨a4,c4',rfl,W4⟩:=U4
 obtain⟨a5,c5',rfl,W5⟩:=U5
 obtain⟨a6,c6',rfl,W6⟩:=U6
 have U2:lI s.next s 4 (.slice a2 l2 c2') l2:=⟨a2,c2',rfl,W2⟩
 have U3:lI s.next s 1 (.slice a3 l3 c3') l3:=⟨a3,c3',rfl,W3⟩
 have U4:lI s.next s 3 (.slice a4 l4 c4') l4:=⟨a4,c4',rfl,W4⟩
 have U5:lI s.next s 2 (.slice a5 l5 c5') l5:=⟨a5,c5',rfl,W5⟩
 have U6:lI s.next s 1 (.slice a6 l6 c6') l6:=⟨a6,c6',rfl,W6⟩
 clear W2 W3 W4 W5 W6
 refine aG rfl fn_3 rfl (rs:=[.tmp 8]) rfl (N:=239) rfl rfl ?_
 refine aA fun Ψ0 hΨ0 hΨ0'=>?_
 simp only[cF,↓reduceIte,zA,reduceCtorEq,zE,zB,zC,zD,zF]
 obtain⟨s1,e1,k1,c1,n1⟩:=aT hs (L:=[u8 x0,u8 x1,.slice a2 l2 c2',.slice a3 l3 c3',.slice a4 l4 c4',.slice a5 l5 c5',.slice a6 l6 c6']) (n:=7) (e:=27) rfl
 rw[e1]
 refine hΨ0 _ _ ?_
 have hN1:s.next≤s1.next:=k1.next
 have lb:=c1.aS (i:=0) (k:=7) (Nat.le_refl _)
 refine aA fun Ψ1 hΨ1 hΨ1'=>?_
 simp only[cF,↓reduceIte,zA,reduceCtorEq,zE,zB,zC,zD,zF,lb,List.drop_zero,List.take]
 refine aB ?_ (vt k1.ok hx0 hx1 ((U2.aF (.tA k1)).mono hN1) ((U3.aF (.tA k1)).mono hN1) ((U4.aF (.tA k1)).mono hN1) ((U5.aF (.tA k1)).mono hN1) ((U6.aF (.tA k1)).mono hN1) fun x h r g t P R G Q s2 M S I Z hL hN hb k2=>?_)
 ·simp only[cF,↓reduceIte,zA,reduceCtorEq,zE,zB,zC,zD,zF]
 clear U2 U3 U4 U5 U6
 simp only[cF,↓reduceIte,zA,reduceCtorEq,zE,zB,zC,zD,zF]
 refine hΨ1 _ _ ?_
 have k02:=k1.trans k2
 have hF0:=Z.bK
 have hD:=hL.led
 refine aA fun Ψ2 hΨ2 hΨ2'=>?_
 refine aA fun Ψ3 hΨ3 hΨ3'=>?_
 simp only[cF,↓reduceIte,zA,reduceCtorEq,zE,zB,zC,zD,zF]
 refine hΨ3 _ _ ?_
 simp only[cF,↓reduceIte,zA,reduceCtorEq,zE,zB,zC,zD,zF]
 refine hΨ2 _ _ ?_
 refine aA fun Ψ4 hΨ4 hΨ4'=>?_
 simp only[cF,↓reduceIte,zA,reduceCtorEq,zE,zB,zC,zD,zF,M.l0]
 refine aB ?_ (sM k2.ok M.H I.cZ (by rw[hF0];simp) ?_)
 ·simp only[cF,↓reduceIte,zA,reduceCtorEq,zE,zB,zC,zD,zF]
 intro va vc s3 b3 hnm3 k3
 rw[hF0]
 simp only[cF,↓reduceIte,zA,reduceCtorEq,zE,zB,zC,zD,zF]
 refine hΨ4 _ _ ?_
 have M3:=M.aN k3
 have ks3:aC [] s3 (s3.skip 28):=aC.skip k3.ok _
 have hrf:P.qN R=[]:=PH.XG R.all hD.1
 refine aA fun Ψ5 hΨ5 hΨ5'=>?_
 refine aQ [] [] [] (by kernel_rfl) (by kernel_rfl) (by rfl) fun O hO ΨR hR=>?_
 simp only[cF,↓reduceIte,zA,reduceCtorEq,zE,zB,zC,zD,zF,M3.l0,M3.l1]
 refine aW ?_ (DI ks3.ok (M3.aN ks3).H (M3.aN ks3).A (by rw[hrf];simp) ?_)
 ·simp only[cF,↓reduceIte,zA,reduceCtorEq,zE,zB,zC,zD,zF]
 intro ra rc s4 b4 hnm4 k4
 rw[hrf]
 simp only[cF,↓reduceIte,zA,reduceCtorEq,zE,zB,zC,zD,zF]
 refine hR _ _ (hΨ5 _ _ ?_)
 have M4:=(M3.aN ks3).aN k4
 have ks4:aC [] s4 (s4.skip 44):=aC.skip k4.ok _
 refine aA fun Ψ6 hΨ6 hΨ6'=>?_
 refine aQ [] [] [] (by kernel_rfl) (by kernel_rfl) (by rfl) fun O hO ΨR hR=>?_
 simp only[cF,↓reduceIte,zA,reduceCtorEq,zE,zB,zC,zD,zF,M4.l0,M4.l1]
 refine aW ?_ (kept_ok ks4.ok (M4.aN ks4).H (M4.aN ks4).A I.cZ I.M ?_)
 ·simp only[cF,↓reduceIte,zA,reduceCtorEq,zE,zB,zC,zD,zF]
 simp only[cF,↓reduceIte,zA,reduceCtorEq,zE,zB,zC,zD,zF]
 refine hR _ _ (hΨ6 _ _ ?_)
 have M5:=M4.aN ks4
 have k25:aC [] s2 (s4.skip 44):=((k3.trans ks3).trans k4).trans ks4
 obtain⟨s5,hs5⟩:∃ s5,s5=s4.skip 44:=⟨_,rfl⟩
 rw[← hs5] at M5 k25 ⊢
 have k05:=k02.trans k25
 refine aA fun Ψ7 hΨ7 hΨ7'=>?_
 refine aA fun Ψ8 hΨ8 hΨ8'=>?_
 refine aH [(2,71),(6,75),(10,79)] (by kernel_rfl) fun O hO ΨR hR=>?_
 have y2:∀ a,aE O a 2=aM (a.aD 71):=hO (2,71) (by simp)
 have y6:∀ a,aE O a 6=aM (a.aD 75):=hO (6,75) (by simp)
 have y10:∀ a,aE O a 10=aM (a.aD 79):=hO (10,79) (by simp)
 have wz:IntKind.i64.wrap (((0:Nat):Int)+((0:Nat):Int))=0:=by decide
 have wz2:IntKind.i64.wrap (0+((0:Nat):Int))=0:=by decide
 simp only[cF,↓reduceIte,zA,reduceCtorEq,zE,zB,zC,zD,zF,y2,y6,y10,wz,wz2,beq_self_eq_true]
 refine hR _ _ (hΨ8 _ _ ?_)
 simp only[cF,↓reduceIte,zA,reduceCtorEq,zE,zB,zC,zD,zF]
 refine hΨ7 _ _ ?_
 have tmo:(o0:Int).tmod 100=((o0%100:Nat):Int):=rfl
 have w:∀ n:Nat,n<256→IntKind.wrap .i64 (n:Int)=(n:Int):=fun n h=>aR (by omega) (by omega)
 refine aA fun Ψ9 hΨ9 hΨ9'=>?_
 simp only[cF,↓reduceIte,zA,reduceCtorEq,zE,zB,zC,zD,zF,w o0 ho,tmo]
 refine aB ?_ (DU k25.ok M5 S I (n:=o0%100) (by omega) fun a s6 ha hai k6=>?_)
 ·simp only[cF,↓reduceIte,zA,reduceCtorEq,zE,zB,zC,zD,zF]
 simp only[cF,↓reduceIte,zA,reduceCtorEq,zE,zB,zC,zD,zF]
 refine hΨ9 _ _ ?_
 have M6:=M5.aN k6
 refine aA fun Ψ10 hΨ10 hΨ10'=>?_
 simp only[cF,↓reduceIte,zA,reduceCtorEq,zE,zB,zC,zD,zF,M6.l0]
 refine aB ?_ (mS k6.ok M6.H a hai fun s7 k7=>?_)
 ·simp only[cF,↓reduceIte,zA,reduceCtorEq,zE,zB,zC,zD,zF]
 obtain⟨s8,e8,k8,c8,n8⟩:=aT k7.ok (L:=[int 0,int 0,int 0]) (n:=3) (e:=44) rfl
 obtain⟨s9,e9,c9,k9⟩:=c8.storeAll k8.ok (vs:=[int (P.lD a).r,int (P.lD a).d,int (P.lD a).k]) rfl rfl
 have k79:aC [] s7 s9:=k8.step k9 fun y hy=>.inr (by rw[List.mem_singleton.1 hy];exact k7.ok.fresh _ (Nat.le_refl _))
 simp only[cF,↓reduceIte,zA,reduceCtorEq,zE,zB,zC,zD,zF]
 rw[e8]
 simp only[cF,↓reduceIte,zA,reduceCtorEq,zE,zB,zC,zD,zF,e9]
 refine hΨ10 _ _ ?_
 have M9:=(M6.aN k7).aN k79
 have lr:aI s9.look ⟨s7.next,0,none⟩=some (int (P.lD a).r):=c9.load rfl
 have k09:aC [] s s9:=((k05.trans k6).trans k7).trans k79
 have awake:∀ a':bD,jU q X (KO wF) none (.seq (Code.region 12 #[] false) .ret) a' s9 (fun _ _ _=>True)∨True:=fun _=>.inr trivial
 refine aA fun Ψ11 hΨ11 hΨ11'=>?_
 refine aA fun Ψ12 hΨ12 hΨ12'=>?_
 refine aH [(3,107),(7,111)] (by kernel_rfl) fun O hO ΨR hR=>?_
 have y3:∀ a,aE O a 3=aM (a.aD 107):=hO (3,107) (by simp)
 have y7:∀ a,aE O a 7=aM (a.aD 111):=hO (7,111) (by simp)
 by_cases hr0:(P.lD a).r=0
 ·simp only[cF,↓reduceIte,zA,reduceCtorEq,zE,zB,zC,zD,zF,y3,y7,lr,hr0,beq_self_eq_true]
  refine hR _ _ (hΨ12 _ _ ?_)
  simp only[bE,RV,RG,↓reduceIte,zA,reduceCtorEq,zE,zB,zC,zD,zF]
  refine aA fun Ψ13 hΨ13 hΨ13'=>?_
  simp only[cF,↓reduceIte,zA,reduceCtorEq,zE,zB,zC,zD,zF]
  refine aB ?_ (BA ?_)
  ·simp only[cF,↓reduceIte,zA,reduceCtorEq,zE,zB,zC,zD,zF]
  simp only[cF,↓reduceIte,zA,reduceCtorEq,zE,zB,zC,zD,zF]
  refine hΨ13 _ _ ?_
  simp only[cF,↓reduceIte,zA,reduceCtorEq,zE,zB,zC,zD,zF]
  refine hΨ11' _ _ _ (by simp) ?_
  simp only[cF,↓reduceIte,zA,reduceCtorEq,zE,zB,zC,zD,zF]
  exact hΦ s9 k09
 have hr0':((P.lD a).r==0)=false:=by simpa using hr0
 by_cases hv0:v=0
 ·simp only[cF,↓reduceIte,zA,reduceCtorEq,zE,zB,zC,zD,zF,y3,y7,lr,hr0',hv0,beq_self_eq_true]
  refine hR _ _ (hΨ12 _ _ ?_)
  simp only[bE,RV,RG,↓reduceIte,zA,reduceCtorEq,zE,zB,zC,zD,zF]
  refine aA fun Ψ13 hΨ13 hΨ13'=>?_
  simp only[cF,↓reduceIte,zA,reduceCtorEq,zE,zB,zC,zD,zF]
  refine aB ?_ (BA ?_)
  ·simp only[cF,↓reduceIte,zA,reduceCtorEq,zE,zB,zC,zD,zF]
  simp only[cF,↓reduceIte,zA,reduceCtorEq,zE,zB,zC,zD,zF]
  refine hΨ13 _ _ ?_
  simp only[cF,↓reduceIte,zA,reduceCtorEq,zE,zB,zC,zD,zF]
  refine hΨ11' _ _ _ (by simp) ?_
  simp only[cF,↓reduceIte,zA,reduceCtorEq,zE,zB,zC,zD,zF]
  exact hΦ s9 k09
 have hv0':(v==0)=false:=by simpa using hv0
 simp only[cF,↓reduceIte,zA,reduceCtorEq,zE,zB,zC,zD,zF,y3,y7,lr,hr0',hv0',M9.l0]
 refine aB ?_ (oZ k79.ok M9.H v hv fun s10 k10=>?_)
 ·simp only[cF,↓reduceIte,zA,reduceCtorEq,zE,zB,zC,zD,zF]
 have M10:=M9.aN k10
 have k010:=k09.trans k10
 cases hhv:P.has v with
 | true =>
  try simp only[cF,↓reduceIte,zA,reduceCtorEq,zE,zB,zC,zD,zF,y3,y7]
  refine hR _ _ (hΨ12 _ _ ?_)
  simp only[bE,RV,RG,↓reduceIte,zA,reduceCtorEq,zE,zB,zC,zD,zF]
  refine aA fun Ψ13 hΨ13 hΨ13'=>?_
  simp only[cF,↓reduceIte,zA,reduceCtorEq,zE,zB,zC,zD,zF]
  refine aB ?_ (BA ?_)
  ·simp only[cF,↓reduceIte,zA,reduceCtorEq,zE,zB,zC,zD,zF]
  simp only[cF,↓reduceIte,zA,reduceCtorEq,zE,zB,zC,zD,zF]
  refine hΨ13 _ _ ?_
  simp only[cF,↓reduceIte,zA,reduceCtorEq,zE,zB,zC,zD,zF]
  refine hΨ11' _ _ _ (by simp) ?_
  simp only[cF,↓reduceIte,zA,reduceCtorEq,zE,zB,zC,zD,zF]
  exact hΦ s10 k010
 | false =>
  try simp only[cF,↓reduceIte,zA,reduceCtorEq,zE,zB,zC,zD,zF,y3,y7]
  refine hR _ _ (hΨ12 _ _ ?_)
  simp only[cF,↓reduceIte,zA,reduceCtorEq,zE,zB,zC,zD,zF]
  refine hΨ11 _ _ ?_
  have hha:P.has a=true:=by
   cases hc:P.has a with
   | true=>rfl
   | false=>exact absurd (by unfold PH.lD;rw[hc];rfl) hr0
  have hsh:(P.lD a).r=(P.shape a).r:=by unfold PH.lD;rw[if_pos hha]
  have hvs:=iV.dX.1 (I.cZ.val a hha).1
  have hsz:=PH.size_pos I.cZ hha
  obtain⟨K,hK⟩:∃ K,K=(i0:Int).tmod (P.lD a).r:=⟨_,rfl⟩
  have hKm:K=(i0:Int)%(P.lD a).r:=by rw[hK,Int.tmod_eq_emod_of_nonneg (by omega)]
  have hK0:0≤K:=by rw[hKm];exact Int.emod_nonneg _ hr0
  have hK1:K<(P.lD a).r:=by rw[hKm];exact Int.emod_lt_of_pos _ (by omega)
  have hc:P.has a=true∧0≤K∧K<(P.shape a).r:=⟨hha,hK0,by omega⟩
  have lr10:aI s10.look ⟨s7.next,0,none⟩=some (int (P.lD a).r):=cW k10 (by simp) lr
  have wa:IntKind.i64.wrap (a+2)=a+2:=aR (by omega) (by omega)
  have wak:IntKind.i64.wrap (a+2+K)=a+2+K:=aR (by omega) (by omega)
  obtain⟨pe,pp⟩:=PH.yy I hc (v:=v)
  obtain⟨P1,hP1⟩:∃ P1,P1=P.gG (a+2+K) v:=⟨_,rfl⟩
  have B1:P.Body a (a+2+K):=⟨hha,by omega,by have:=PH.wR I.cZ hc;omega⟩
  have I1:P1.Inv:=by rw[hP1];exact I.gG B1
  have hF1:=PH.JF Z I hc hv0 hhv
  have hS2:=PH.ow Z I hc hv0 hhv
  rw[← hP1] at hF1 hS2
  have hD1:P1.Led R:=by rw[hP1];exact hD
  have hnw:P.nw∈P.aU h:=by simp[PH.aU]
  refine aA fun Ψ14 hΨ14 hΨ14'=>?_
  simp only[cF,↓reduceIte,zA,reduceCtorEq,zE,zB,zC,zD,zF,w i0 hi,lr10,hr0,← hK]
  refine hΨ14 _ _ ?_
  refine aA fun Ψ15 hΨ15 hΨ15'=>?_
  refine aA fun Ψ16 hΨ16 hΨ16'=>?_
  simp only[cF,↓reduceIte,zA,reduceCtorEq,zE,zB,zC,zD,zF,M10.l0,wa,wak]
  refine aB ?_ (mz k10.ok M10.H I.cZ (a+2+K) v hv fun s11 H11 k11=>?_)
  ·simp only[cF,↓reduceIte,zA,reduceCtorEq,zE,zB,zC,zD,zF]
  rw[pp,← hP1] at H11
  rw[pe]
  simp only[cF,↓reduceIte,zA,reduceCtorEq,zE,zB,zC,zD,zF,beq_self_eq_true]
  refine hΨ16 _ _ ?_
  simp only[cF,↓reduceIte,zA,reduceCtorEq,zE,zB,zC,zD,zF]
  refine hΨ15 _ _ ?_
  have M11:Mem s1.next s11 x h r g t P1 R G Q R:=M10.NC k10.ok k11 (fun y hy=>by rw[List.mem_singleton.1 hy];exact hnw) H11 (by rw[hP1];rfl)
  have xs:∀ y∈[P.nw],s.next≤y:=fun y hy=>by rw[List.mem_singleton.1 hy];have:=M.lP _ hnw;omega
  have k011:cG s.next s s11:=(cG.tA k010).trans (.of k11 xs)
  obtain⟨s12,e12,k12,c12,n12⟩:=aT k11.ok (L:=[int 0,int 0,int 0]) (n:=3) (e:=51) rfl
  obtain⟨s13,e13,c13,k13⟩:=c12.storeAll k12.ok (vs:=[int 2,int a,int K]) rfl rfl
  have k113:aC [] s11 s13:=k12.step k13 fun y hy=>.inr (by rw[List.mem_singleton.1 hy];exact k11.ok.fresh _ (Nat.le_refl _))
  refine aA fun Ψ17 hΨ17 hΨ17'=>?_
  simp only[cF,↓reduceIte,zA,reduceCtorEq,zE,zB,zC,zD,zF]
  rw[e12]
  simp only[cF,↓reduceIte,zA,reduceCtorEq,zE,zB,zC,zD,zF,e13]
  refine hΨ17 _ _ ?_
  refine aA fun Ψ18 hΨ18 hΨ18'=>?_
  have rest:∀ (a':bD) (s':St),a'.aD 9=ptr x→a'.aD 20=ptr s11.next→Mem s1.next s' x h r g t P1 R G Q R→Obj s' s11.next [int (P1.mU v),int a,int K]→cG s.next s s'→Ψ18 .normal a' s':=by
   intro a' s' r9 r20 M14 c14 K14
   refine hΨ18 _ _ ?_
   have h11:P1.bK.length=1:=by rw[hF1];rfl
   refine aA fun Ψ30 hΨ30 hΨ30'=>?_
   refine aA fun Ψ31 hΨ31 hΨ31'=>?_
   simp only[cF,↓reduceIte,zA,reduceCtorEq,zE,zB,zC,zD,zF,r9,M14.l0]
   refine aB ?_ (sM K14.ok M14.H I1.cZ (by omega) ?_)
   ·simp only[cF,↓reduceIte,zA,reduceCtorEq,zE,zB,zC,zD,zF]
   intro va1 vc1 s15 b15 hnm15 k15
   rw[hF1] at b15 ⊢
   simp only[cF,↓reduceIte,zA,reduceCtorEq,zE,zB,zC,zD,zF]
   refine hΨ31 _ _ ?_
   have M15:=M14.aN k15
   have c15:=c14.aF k15 (by simp)
   have l15:=c15.aS (i:=0) (k:=3) (Nat.le_refl _)
   obtain⟨s16,e16,k16,c16,n16⟩:=aT k15.ok (L:=[int (P1.mU v),int a,int K]) (n:=3) (e:=51) rfl
   obtain⟨ec,c16⟩:=c16
   have B16:kL s16 51 3 (.slice (some ⟨s15.next,0,none⟩) 1 1) (zG (P1.mU v,a,K)):=.own (L0:=[int (P1.mU v),int a,int K]) (by rw[← e16];exact Cells.uP) (by simp) (Nat.le_refl _) rfl (fun i hi=>by rw[Nat.zero_add];rfl)
   refine aA fun Ψ32 hΨ32 hΨ32'=>?_
   refine aH [(2,174)] (by kernel_rfl) fun O hO ΨR hR=>?_
   have y2:∀ a,aE O a 2=aM (a.aD 174):=hO (2,174) (by simp)
   simp only[cF,↓reduceIte,zA,reduceCtorEq,zE,zB,zC,zD,zF,y2,beq_self_eq_true,r20,l15,List.drop_zero,List.take]
   rw[e16]
   try simp only[cF,↓reduceIte,zA,reduceCtorEq,zE,zB,zC,zD,zF]
   refine aB ?_ (ZU k16.ok (P1.mU v,a,K) (b15.aF k16 (by simp)).sl B16.sl fun s17 k17=>?_)
   ·simp only[cF,↓reduceIte,zA,reduceCtorEq,zE,zB,zC,zD,zF]
   try simp only[cF,↓reduceIte,zA,reduceCtorEq,zE,zB,zC,zD,zF,y2]
   refine hR _ _ (hΨ32 _ _ ?_)
   simp only[cF,↓reduceIte,zA,reduceCtorEq,zE,zB,zC,zD,zF]
   refine hΨ30 _ _ ?_
   have M17:=(M15.aN k16).aN k17
   have K17:cG s.next s s17:=K14.trans (.tA ((k15.trans k16).trans k17))
   have ks17:aC [] s17 (s17.skip 28):=aC.skip k17.ok _
   have Mk:=M17.aN ks17
   have hd1:∀ y∈R.aU r,y∉P1.aU h:=fun y hy hy'=>M17.pR y hy' hy
   have xF:x∉P1.nw::R.aU r:=fun hm=>by
    rcases List.mem_cons.1 hm with e | e
    ·exact M17.xP x (List.mem_singleton.2 rfl) (by rw[e];simp[PH.aU])
    ·exact M17.xR x (List.mem_singleton.2 rfl) e
   refine aA fun Ψ33 hΨ33 hΨ33'=>?_
   refine aQ [] [] [] (by kernel_rfl) (by kernel_rfl) (by rfl) fun O hO ΨR hR=>?_
   simp only[cF,↓reduceIte,zA,reduceCtorEq,zE,zB,zC,zD,zF,r9,M17.l0,M17.l1]
   refine aW ?_ (zW ks17.ok Mk.H Mk.A I1 hd1 (by omega) hD1.1 hD1.2 ?_)
   ·simp only[cF,↓reduceIte,zA,reduceCtorEq,zE,zB,zC,zD,zF]
   intro qa qn qc s18 H18 A18 f18 k18
   rw[h11]
   simp only[cF,↓reduceIte,zA,reduceCtorEq,zE,zB,zC,zD,zF]
   refine hR _ _ (hΨ33 _ _ ?_)
   have cx18:=Mk.c.aF k18 xF
   have lx0:aI s18.look ⟨x,0,none⟩=some (ptr h):=cx18.load rfl
   have lx1:aI s18.look ⟨x,1,none⟩=some (ptr r):=cx18.load rfl
   obtain⟨I2,N2,has2,foot2⟩:=PH.DY P1.bK I1
   have hF2:=hS2.bK
   have h21:(P1.lH P1.bK).bK.length=0:=by rw[hF2];rfl
   have pN:∀ y∈P1.aU h,y<(s17.skip 28).next:=fun y hy=>Mk.H.cH ks17.ok y hy
   obtain⟨R1,hR1⟩:∃ R1:PR,R1={R with va:=qa,vn:=qn,vc:=qc}:=⟨_,rfl⟩
   rw[← hR1] at A18
   have hd2:∀ y∈R1.aU r,y∉(P1.lH P1.bK).aU h:=fun y hy hy'=>by
    rw[(foot2 h).1] at hy'
    rw[hR1] at hy
    unfold PR.aU at hy
    rcases List.mem_append.1 hy with e | e
    ·exact hd1 y (List.mem_append_left _ e) hy'
    ·rcases f18 y e with e | e
     ·exact hd1 y e hy'
     ·have:=pN y hy';omega
   have hD2:(∀ p∈R1.all,(P1.lH P1.bK).has (R1.get p)=true)∧∀ y∈R1.q,(P1.lH P1.bK).has y=true:=by
    rw[hR1]
    exact⟨fun p hp=>by rw[has2];exact hD1.1 p hp,fun y hy=>by rw[has2];exact hD1.2 y hy⟩
   have ks18:aC [] s18 (s18.skip 28):=aC.skip k18.ok _
   have fo1:∀ y∈P1.nw::R.aU r,s.next≤y:=fun y hy=>by
    rcases List.mem_cons.1 hy with e | e
    ·have:=M17.lP y (by rw[e];simp[PH.aU]);omega
    ·have:=M17.lR y e;omega
   have K18:cG s.next s (s18.skip 28):=((K17.trans (.tA ks17)).trans (.of k18 fo1)).trans (.tA ks18)
   have fo2:∀ y∈(P1.lH P1.bK).nw::R1.aU r,y≠x∧s.next≤y:=fun y hy=>by
    have key:y∈P1.nw::R.aU r∨(s17.skip 28).next≤y:=by
     rcases List.mem_cons.1 hy with e | e
     ·left;rw[e,(foot2 h).2];exact List.mem_cons_self ..
     ·rw[hR1] at e
      unfold PR.aU at e
      rcases List.mem_append.1 e with e | e
      ·left;exact List.mem_cons_of_mem _ (List.mem_append_left _ e)
      ·rcases f18 y e with e | e
       ·left;exact List.mem_cons_of_mem _ e
       ·exact .inr e
    rcases key with e | e
    ·exact⟨fun e'=>xF (by rw[← e'];exact e),fo1 y e⟩
    ·have h1:=Mk.c.lt ks17.ok
     have h2:=K17.next
     have h3:=ks17.next
     exact⟨by omega,by omega⟩
   refine aA fun Ψ34 hΨ34 hΨ34'=>?_
   refine aQ [] [] [] (by kernel_rfl) (by kernel_rfl) (by rfl) fun O hO ΨR hR=>?_
   simp only[cF,↓reduceIte,zA,reduceCtorEq,zE,zB,zC,zD,zF,r9,lx0,lx1]
   refine aW ?_ (zW ks18.ok (H18.aN ks18) (A18.aN ks18) I2 hd2 (by omega) hD2.1 hD2.2 ?_)
   ·simp only[cF,↓reduceIte,zA,reduceCtorEq,zE,zB,zC,zD,zF]
   intro ua un uc s19 H19 A19 f19 k19
   rw[hF2] at H19
   rw[h21]
   simp only[cF,↓reduceIte,zA,reduceCtorEq,zE,zB,zC,zD,zF]
   refine hR _ _ (hΨ34 _ _ ?_)
   have cx19:=(cx18.aF ks18 (by simp)).aF k19 (fun hm=>(fo2 x hm).1 rfl)
   have ly0:aI s19.look ⟨x,0,none⟩=some (ptr h):=cx19.load rfl
   have K19:cG s.next s s19:=K18.trans (.of k19 fun y hy=>(fo2 y hy).2)
   have H19:aP s19 h (P1.lH P1.bK):=H19
   refine aA fun Ψ35 hΨ35 hΨ35'=>?_
   simp only[cF,↓reduceIte,zA,reduceCtorEq,zE,zB,zC,zD,zF,r9,ly0]
   refine aB ?_ (sM K19.ok H19 I2.cZ (by omega) ?_)
   ·simp only[cF,↓reduceIte,zA,reduceCtorEq,zE,zB,zC,zD,zF]
   intro wa2 wc2 s20 b20 hnm20 k20
   rw[hF2]
   simp only[cF,↓reduceIte,zA,reduceCtorEq,zE,zB,zC,zD,zF]
   refine hΨ35 _ _ ?_
   have K20:=K19.trans (.tA k20)
   have one:((1:Nat):Int)=1:=rfl
   have zero:((0:Nat):Int)=0:=rfl
   refine aA fun Ψ36 hΨ36 hΨ36'=>?_
   refine aH [(2,215),(6,219),(10,223),(14,227),(18,231),(23,236)] (by kernel_rfl) fun O hO ΨR hR=>?_
   have y2:∀ a,aE O a 2=aM (a.aD 215):=hO (2,215) (by simp)
   have y6:∀ a,aE O a 6=aM (a.aD 219):=hO (6,219) (by simp)
   have y10:∀ a,aE O a 10=aM (a.aD 223):=hO (10,223) (by simp)
   have y14:∀ a,aE O a 14=aM (a.aD 227):=hO (14,227) (by simp)
   have y18:∀ a,aE O a 18=aM (a.aD 231):=hO (18,231) (by simp)
   have y23:∀ a,aE O a 23=aM (a.aD 236):=hO (23,236) (by simp)
   simp only[cF,↓reduceIte,zA,reduceCtorEq,zE,zB,zC,zD,zF,y2,y6,y10,y14,y18,y23,one,zero,beq_self_eq_true]
   refine aB ?_ (BA ?_)
   ·simp only[cF,↓reduceIte,zA,reduceCtorEq,zE,zB,zC,zD,zF]
   try simp only[cF,↓reduceIte,zA,reduceCtorEq,zE,zB,zC,zD,zF,y2,y6,y10,y14,y18,y23]
   refine hR _ _ (hΨ36 _ _ ?_)
   simp only[cF,↓reduceIte,zA,reduceCtorEq,zE,zB,zC,zD,zF]
   exact hΦ s20 (K20.back hs (Nat.le_refl _) (.refl hs))
  have wN:IntKind.i64.wrap ((P1.N:Int)*64)=(P1.N:Int)*64:=aR (by have:=I1.iJ;omega) (by have:=I1.iJ;omega)
  have M13:=M11.aN k113
  have K13:=k011.trans (.tA k113)
  have hhv1:P1.has v=false:=by rw[hP1];exact hhv
  have hwr:P1.mU v=if (P1.find v).isSome=true then 0 else if 0≤v∧v<64*P1.N then 1 else 2:=by
   unfold PH.mU
   rw[if_neg]
   rintro(e | e)
   ·exact hv0 e
   ·rw[hhv1] at e;cases e
  refine aA fun Ψ19 hΨ19 hΨ19'=>?_
  refine aH [(2,141)] (by kernel_rfl) fun O hO ΨR hR=>?_
  have y2:∀ a,aE O a 2=aM (a.aD 141):=hO (2,141) (by simp)
  by_cases g1:v>0
  ·simp only[cF,↓reduceIte,zA,reduceCtorEq,zE,zB,zC,zD,zF,y2,g1,decide_true,M13.l0]
   refine aB ?_ (mR M13.H ?_)
   ·simp only[cF,↓reduceIte,zA,reduceCtorEq,zE,zB,zC,zD,zF]
   by_cases g2:v<(P1.N:Int)*64
   ·simp only[cF,↓reduceIte,zA,reduceCtorEq,zE,zB,zC,zD,zF,y2,wN,g2,decide_true]
    refine hR _ _ (hΨ19 _ _ ?_)
    simp only[bE,RV,RG,↓reduceIte,zA,reduceCtorEq,zE,zB,zC,zD,zF]
    obtain⟨s14,e14,c14,k14⟩:=c13.dU k113.ok (i:=0) (v:=int 1) (by simp) rfl
    have k1114:aC [] s11 s14:=k113.step k14 fun y hy=>.inr (by rw[List.mem_singleton.1 hy];exact k11.ok.fresh _ (Nat.le_refl _))
    refine aA fun Ψ20 hΨ20 hΨ20'=>?_
    simp only[cF,↓reduceIte,zA,reduceCtorEq,zE,zB,zC,zD,zF,e14]
    refine hΨ20 _ _ ?_
    have M14:=M11.aN k1114
    refine aA fun Ψ21 hΨ21 hΨ21'=>?_
    simp only[cF,↓reduceIte,zA,reduceCtorEq,zE,zB,zC,zD,zF,M14.l0]
    refine aB ?_ (xX k14.ok M14.H v fun s15 k15=>?_)
    ·simp only[cF,↓reduceIte,zA,reduceCtorEq,zE,zB,zC,zD,zF]
    have M15:=M14.aN k15
    have c15:=c14.aF k15 (by simp)
    cases hf:P1.find v with
    | none =>
     rw[hf,if_neg (by simp),if_pos ⟨by omega,by omega⟩] at hwr
     simp only[cF,↓reduceIte,zA,reduceCtorEq,zE,zB,zC,zD,zF,show MX none=.tuple #[int 0,int 4] from rfl]
     refine hΨ21 _ _ ?_
     refine aA fun Ψ22 hΨ22 hΨ22'=>?_
     simp only[cF,↓reduceIte,zA,reduceCtorEq,zE,zB,zC,zD,zF]
     refine hΨ22 _ _ ?_
     simp only[cF,↓reduceIte,zA,reduceCtorEq,zE,zB,zC,zD,zF]
     refine rest _ s15 ?_ ?_ M15 (by rw[hwr];exact c15) (k011.trans (.tA (k1114.trans k15)))
     ·simp only[cF,↓reduceIte,zA,reduceCtorEq,zE,zB,zC,zD,zF]
     ·simp only[cF,↓reduceIte,zA,reduceCtorEq,zE,zB,zC,zD,zF]
    | some o =>
     rw[hf,if_pos (by simp)] at hwr
     simp only[cF,↓reduceIte,zA,reduceCtorEq,zE,zB,zC,zD,zF,show MX (some o)=.tuple #[int o,int 0] from rfl]
     refine hΨ21 _ _ ?_
     obtain⟨s16,e16,c16,k16⟩:=c15.dU k15.ok (i:=0) (v:=int 0) (by simp) rfl
     have k1116:aC [] s11 s16:=(k1114.trans k15).step k16 fun y hy=>.inr (by rw[List.mem_singleton.1 hy];exact k11.ok.fresh _ (Nat.le_refl _))
     refine aA fun Ψ22 hΨ22 hΨ22'=>?_
     simp only[cF,↓reduceIte,zA,reduceCtorEq,zE,zB,zC,zD,zF,beq_self_eq_true]
     refine hΨ22 _ _ ?_
     simp only[cF,↓reduceIte,zA,reduceCtorEq,zE,zB,zC,zD,zF,e16]
     refine rest _ s16 ?_ ?_ (M11.aN k1116) (by rw[hwr];exact c16) (k011.trans (.tA k1116))
     ·simp only[cF,↓reduceIte,zA,reduceCtorEq,zE,zB,zC,zD,zF]
     ·simp only[cF,↓reduceIte,zA,reduceCtorEq,zE,zB,zC,zD,zF]
   ·have hf:P1.find v=none:=by unfold PH.find;rw[if_neg (by omega)]
    rw[hf,if_neg (by simp),if_neg (by omega)] at hwr
    simp only[cF,↓reduceIte,zA,reduceCtorEq,zE,zB,zC,zD,zF,y2,wN,g2,decide_false]
    refine hR _ _ (hΨ19 _ _ ?_)
    simp only[cF,↓reduceIte,zA,reduceCtorEq,zE,zB,zC,zD,zF]
    refine rest _ s13 ?_ ?_ M13 (by rw[hwr];exact c13) K13
    ·simp only[cF,↓reduceIte,zA,reduceCtorEq,zE,zB,zC,zD,zF]
    ·simp only[cF,↓reduceIte,zA,reduceCtorEq,zE,zB,zC,zD,zF]
  ·have hf:P1.find v=none:=by unfold PH.find;rw[if_neg (by omega)]
   rw[hf,if_neg (by simp),if_neg (by omega)] at hwr
   simp only[cF,↓reduceIte,zA,reduceCtorEq,zE,zB,zC,zD,zF,y2,g1,decide_false]
   refine hR _ _ (hΨ19 _ _ ?_)
   simp only[cF,↓reduceIte,zA,reduceCtorEq,zE,zB,zC,zD,zF]
   refine rest _ s13 ?_ ?_ M13 (by rw[hwr];exact c13) K13
   ·simp only[cF,↓reduceIte,zA,reduceCtorEq,zE,zB,zC,zD,zF]
   ·simp only[cF,↓reduceIte,zA,reduceCtorEq,zE,zB,zC,zD,zF]
end
end Go.Dust
noncomputable section
namespace Go.Dust
open Go.ChangeShapes Go.RowKit Go.WideShapes
abbrev MO:=Nat×Nat×List Nat
def bytes (L:List Nat):List Value:=L.map fun(n:Nat)=>.int .u8 (n:Int)
def xE (L:List Nat):bX:=.cells (PT.ofList (bytes L)) [] L.length 5 false true 0
def iZ:Nat→List MO→PT bX
 | _,[]=>.nil
 | j,w::ws=>if w.2.2=[] then iZ (j+1) ws else(iZ (j+1) ws).set (2*j+1) (xE w.2.2)
theorem pJ:∀ (ws:List MO) (j b:Nat) (o:bX),(iZ j ws).get b=some o→∃ i w,ws[i]?=some w∧b=2*(j+i)+1∧o=xE w.2.2
 | [],j,b,o,h=>by rw[iZ,PT.get_nil] at h;cases h
 | w::ws,j,b,o,h=>by
  rw[iZ] at h
  have rec':∀ o,(iZ (j+1) ws).get b=some o→∃ i w',(w::ws)[i]?=some w'∧b=2*(j+i)+1∧o=xE w'.2.2:=fun o h=>by
   obtain⟨i,w',h1,h2,h3⟩:=pJ ws (j+1) b o h
   exact⟨i+1,w',by simpa using h1,by omega,h3⟩
  split at h
  ·exact rec' o h
  ·rw[PT.bU] at h
   split at h
   ·rename_i hb
    cases h
    exact⟨0,w,rfl,by omega,rfl⟩
   ·exact rec' o h
theorem MM:∀ (ws:List MO) (j i:Nat) (w:MO),ws[i]?=some w→w.2.2≠[]→(iZ j ws).get (2*(j+i)+1)=some (xE w.2.2)
 | [],j,i,w,h,_=>by cases h
 | w0::ws,j,0,w,h,hn=>by
  cases h
  rw[iZ,if_neg hn,PT.bU,if_pos (by omega)]
 | w0::ws,j,i+1,w,h,hn=>by
  have:=MM ws (j+1) i w (by simpa using h) hn
  rw[show 2*(j+1+i)+1=2*(j+(i+1))+1 by omega] at this
  rw[iZ]
  split
  ·exact this
  ·rw[PT.bU,if_neg (by omega)]
   exact this
def qy (ws:List MO):cR:=fun b=>if b%2=0 then some ⟨b/2,0,0,true⟩ else match ws[b/2]? with
 | some w=>some ⟨w.1,w.2.1,0,true⟩
 | none=>none
def stw (ws:List MO):St:={heap:=iZ 0 ws,next:=2*ws.length+1,cM:=1}
theorem dh {ws:List MO} {b:Nat} {l:Loc} (h:qy ws b=some l):l.ro=true:=by
 unfold qy at h
 split at h
 ·cases h;rfl
 ·split at h
  ·cases h;rfl
  ·cases h
theorem aAk {ws:List MO} {i:Nat} {w:MO} (h:ws[i]?=some w):qy ws (2*i+1)=some ⟨w.1,w.2.1,0,true⟩:=by
 unfold qy
 rw[if_neg (by omega),show (2*i+1)/2=i by omega,h]
theorem NM (L:List Nat) {i:Nat} (h:i<L.length):(bytes L)[i]?=some (.int .u8 (L[i]:Int)):=by
 unfold bytes
 rw[List.getElem?_map,List.getElem?_eq_getElem h];rfl
def Lies (W:World) (w:MO):Prop:=w.2.2=[]∨∃ arr e' fz,W.heap[w.1]?=some (.cells arr e' fz)∧∀ i (hi:i<w.2.2.length),arr[w.2.1+i]?=some (.int .u8 (w.2.2[i]:Int))
theorem tiew (P:Program) {W:World} {ws:List MO} (h:∀ w∈ws,Lies W w):RS P (qy ws) (stw ws) W:=by
 refine⟨fun b=>?_,by show (2*ws.length+1)%2=1;omega,fun b hb hb2=>?_,fun b l hl hro=>?_,fun b o ho hd=>?_,fun b b' o o' l l' _ _ _ _ hl _ hro _=>?_⟩
 ·unfold qy
  rw[if_pos (by omega)]
  simp
 ·have hb':2*ws.length+1≤b:=hb
  unfold qy
  rw[if_neg (by omega),List.getElem?_eq_none (by omega)]
 ·rw[dh hl] at hro;cases hro
 ·obtain⟨i,w,hw,hb,rfl⟩:=pJ ws 0 b o ho
  rw[Nat.zero_add] at hb
  subst hb
  refine⟨_,aAk hw,?_⟩
  have hne:w.2.2≠[]:=fun e=>by
   have:(iZ 0 ws).get (2*i+1)=some (xE w.2.2):=ho
   have key:∀ (ws:List MO) (j i:Nat) (w:MO),ws[i]?=some w→w.2.2=[]→(iZ j ws).get (2*(j+i)+1)=none:=by
    intro ws
    induction ws with
    | nil=>intro j i w h;cases h
    | cons w0 ws ih =>
     intro j i w h he
     cases i with
     | zero =>
      cases h
      rw[iZ,if_pos he]
      cases hg:(iZ (j+1) ws).get (2*(j+0)+1) with
      | none=>rfl
      | some o =>
       obtain⟨i',w',_,h2,_⟩:=pJ ws (j+1) _ o hg
       omega
     | succ i =>
      have:=ih (j+1) i w (by simpa using h) he
      rw[show 2*(j+1+i)+1=2*(j+(i+1))+1 by omega] at this
      rw[iZ]
      split
      ·exact this
      ·rw[PT.bU,if_neg (by omega)];exact this
   have:=key ws 0 i w hw e
   rw[Nat.zero_add] at this
   have ho':(iZ 0 ws).get (2*i+1)=some (xE w.2.2):=ho
   rw[this] at ho'
   cases ho'
  rcases h w (List.mem_of_getElem? hw) with e | ⟨arr,e',fz,h1,h2⟩
  ·exact absurd e hne
  ·have hlen:0<w.2.2.length:=List.length_pos_iff.2 hne
   have hlast:w.2.1+w.2.2.length≤arr.size:=by
    have:=h2 (w.2.2.length-1) (by omega)
    have:=(Array.getElem?_eq_some_iff.1 this).1
    omega
   refine⟨arr,e',fz,h1,(fun h=>by cases h),rfl,(fun _=>rfl),(fun ei _=>?_),hlast,fun i hi=>?_⟩
   ·show w.2.1+w.2.2.length+0*ei.size≤arr.size
    omega
   ·refine⟨_,_,?_,h2 i hi,.int _ _⟩
    unfold cellAt
    rw[if_pos hi]
    rw[PT.fE,NM _ hi]
 ·rw[dh hl] at hro;cases hro
theorem ownw {ws:List MO} {c:Nat}:¬ Own (qy ws) (stw ws).look c:=by
 rintro⟨b,o,l,_,_,hl,hro,_⟩
 rw[dh hl] at hro;cases hro
theorem okw (ws:List MO):Ok (stw ws):=by
 refine⟨fun b o hb hd=>?_,fun b hb=>?_⟩
 ·obtain⟨i,w,_,_,rfl⟩:=pJ ws 0 b o hb
  exact Nat.zero_lt_one
 ·have hb':2*ws.length+1≤b:=hb
  cases hg:(stw ws).heap.get b with
  | none=>rfl
  | some o =>
   obtain⟨i,w,hw,h2,_⟩:=pJ ws 0 b o hg
   have:=(List.getElem?_eq_some_iff.1 hw).1
   omega
theorem winLoad {ws:List MO} {i j:Nat} {w:MO} (hw:ws[i]?=some w) (hj:j<w.2.2.length):aI (stw ws).look ⟨2*i+1,j,none⟩=some (.int .u8 (w.2.2[j]:Int)):=by
 have hne:w.2.2≠[]:=fun e=>by rw[e] at hj;cases hj
 have:=MM ws 0 i w hw hne
 rw[Nat.zero_add] at this
 have h':(stw ws).look (2*i+1)=some (xE w.2.2):=this
 unfold aI
 rw[h']
 simp only[xE]
 unfold cellAt
 rw[PT.fE,NM _ hj]
 simp[hj]
def YE (nil:Bool) (i len cap:Nat):Value:=if nil=true then .slice none 0 0 else .slice (some ⟨2*i+1,0,none⟩) len cap
end Go.Dust
end
namespace Go.Dust
open Go.ChangeShapes Go.RowKit Go.WideShapes
section
variable {H:Type} {enc:TypeId×Value→H} {P:Program} {W:World} {base:Nat} {sp:Nat→Bool} {held:Bool} {r:Reach} {b:Nat}
theorem u8_wf {n:Int} (h:(Lit.int IntKind.u8 n).wf=true):∃ m:Nat,m<256∧n=(m:Int):=by
 unfold Lit.wf at h
 rw[Bool.and_eq_true,decide_eq_true_eq,decide_eq_true_eq] at h
 have h1:IntKind.u8.min=0:=rfl
 have h2:IntKind.u8.max=255:=rfl
 rw[h1,h2] at h
 exact⟨n.toNat,by omega,by omega⟩
theorem HR {e:TypeId} (he:P.underlying e=some (.int .u8)) {n:Nat} {cs:List Value} {y:DataW H×List MemPlace} (h:DataW.trod enc P W base sp held n e cs=some y):∃ m:Nat,m<256∧cs=[.int .u8 (m:Int)]:=by
 obtain⟨k,rfl,_,hw⟩:=DataW.trod_int he h
 obtain⟨m,hm,rfl⟩:=u8_wf hw
 exact⟨m,hm,rfl⟩
theorem MJ {a e:TypeId} {k:Nat} (ha:P.underlying a=some (.array k e)) (he:P.underlying e=some (.int .u8)) (hc:P.cellsOf e=1) {n:Nat} {cs:List Value} {y:DataW H×List MemPlace} (h:DataW.trod enc P W base sp held n a cs=some y) :
  ∀ i,i<k→∃ m:Nat,m<256∧cs[i]?=some (.int .u8 (m:Int)):=by
 obtain⟨xs,m,_,_,_,hl,hx⟩:=DataW.trod_array ha h
 intro i hi
 have:=hx i hi
 rw[List.getElem?_eq_getElem (by omega)] at this
 obtain⟨m',hm,hcs⟩:=HR he this
 rw[hc,Nat.mul_one] at hcs
 refine⟨m',hm,?_⟩
 have h0:((cs.drop i).take 1)[0]?=some (.int .u8 (m':Int)):=by rw[hcs];rfl
 rw[List.getElem?_take,if_pos (by omega),List.getElem?_drop,Nat.add_zero] at h0
 exact h0
theorem PQ {e:TypeId} (he:P.underlying e=some (.int .u8)) {n:Nat} {cs:List Value} {y:DataW H×List MemPlace} (h:DataW.trod enc P W base sp held n e cs=some y):∀ i,i<1→∃ m:Nat,m<256∧cs[i]?=some (.int .u8 (m:Int)):=by
 obtain⟨m,hm,rfl⟩:=HR he h
 intro i hi
 obtain rfl:i=0:=by omega
 exact⟨m,hm,rfl⟩
theorem cell_u8 {W:World} {dR off:Nat} {v:Value} (h:W.cell? ⟨dR,off,none⟩=some v):∃ arr e' fz,W.heap[dR]?=some (.cells arr e' fz)∧arr[off]?=some v:=by
 unfold World.cell? at h
 split at h
 ·rename_i c e' fz hh
  exact⟨c,e',fz,hh,by simpa using h⟩
 ·cases h
structure zZ (W:World) (k:Nat) (x:Value) (nil:Bool) (w:MO) (len cap:Nat):Prop where
 wq:Lies W w
 hlen:w.2.2.length=len*k
 gU:∀ m∈w.2.2,m<256
 uG:nil=true→x=.slice none 0 0∧len=0∧cap=0
 hsome:nil=false→x=.slice (some ⟨w.1,w.2.1,none⟩) len cap
theorem wW {t e:TypeId} {k fuel:Nat} {x:Value} {y:DataW H×List MemPlace} (ht:P.underlying t=some (.slice e)) (hc:P.cellsOf e=k) (hk:0<k)
  (hel:∀ n cs y,DataW.trod enc P W base sp held n e cs=some y→∀ i,i<k→∃ m:Nat,m<256∧cs[i]?=some (.int .u8 (m:Int)))
  (hT:DataW.trod enc P W base sp held fuel t [x]=some y) (hv:Cell.okWide P W r b t x):∃ nil w len cap,zZ W k x nil w len cap:=by
 rcases DataW.trod_slice ht hT with ⟨hx,_⟩ | ⟨a,len,cap,elems,rest,n,_,hx,_,_,hl,_,hlen,hel2,_⟩
 ·refine⟨true,(0,0,[]),0,0,⟨.inl rfl,by simp,fun m hm=>(by cases hm),fun _=>⟨by simpa using hx,rfl,rfl⟩,fun h=>(by cases h)⟩⟩
 ·have hx:x=.slice (some a) len cap:=by simpa using hx
  subst hx
  obtain⟨dR,off,spot⟩:=a
  have hs:spot=none:=by
   simp only[Cell.okWide,ht,Cell.ok,World.has] at hv
   obtain⟨_,_,_,hs,_⟩:=hv
   exact hs
  subst hs
  have each:∀ i,i<len*k→∃ m:Nat,m<256∧∃ arr e' fz,W.heap[dR]?=some (.cells arr e' fz)∧arr[off+i]?=some (.int .u8 (m:Int)):=by
   intro i hi
   have hq:i/k<len:=(Nat.div_lt_iff_lt_mul hk).2 hi
   have hr:i%k<k:=Nat.mod_lt _ hk
   have:=hel2 (i/k) hq
   rw[List.getElem?_eq_getElem (by omega),Option.bind_eq_some_iff] at this
   obtain⟨cs,h1,h2⟩:=this
   obtain⟨m,hm,h3⟩:=hel _ _ _ h2 (i%k) hr
   obtain⟨_,_,h4⟩:=World.cells?_some h1
   rw[hc] at h4
   have h5:=h4 (i%k) hr
   rw[h3] at h5
   have e:((⟨dR,off,none⟩:Addr).add (i/k*k)).add (i%k)=⟨dR,off+i,none⟩:=by
    have h':=Nat.div_add_mod' i k
    rw[aJ,aJ,Nat.add_assoc,h']
   rw[e] at h5
   obtain⟨arr,e',fz,h6,h7⟩:=cell_u8 h5
   exact⟨m,hm,arr,e',fz,h6,h7⟩
  have pick:∀ i,∃ m:Nat,i<len*k→m<256∧∃ arr e' fz,W.heap[dR]?=some (.cells arr e' fz)∧arr[off+i]?=some (.int .u8 (m:Int)):=fun i=>by
   by_cases hi:i<len*k
   ·obtain⟨m,h⟩:=each i hi
    exact⟨m,fun _=>h⟩
   ·exact⟨0,fun h=>absurd h hi⟩
  obtain⟨f,hf⟩:=Classical.axiomOfChoice pick
  have hgl:((List.range (len*k)).map f).length=len*k:=by simp
  refine⟨false,(dR,off,(List.range (len*k)).map f),len,cap,⟨?_,hgl,fun m hm=>?_,fun h=>(by cases h),fun _=>rfl⟩⟩
  ·by_cases h0:len*k=0
   ·left
    show (List.range (len*k)).map f=[]
    rw[h0];rfl
   ·right
    obtain⟨_,arr,e',fz,h6,_⟩:=hf 0 (by omega)
    refine⟨arr,e',fz,h6,fun i hi=>?_⟩
    have hi:i<len*k:=by simpa using hi
    obtain⟨_,arr',e2,fz2,h8,h9⟩:=hf i hi
    rw[h6] at h8
    cases h8
    simpa using h9
  ·obtain⟨i,hi,rfl⟩:=List.mem_map.1 hm
   exact(hf i (List.mem_range.1 hi)).1
end
theorem zZ.vr {W:World} {k:Nat} {x:Value} {nil:Bool} {w:MO} {len cap:Nat} (h:zZ W k x nil w len cap) {ws:List MO} {i:Nat} (hw:ws[i]?=some w):VR (qy ws) (YE nil i len cap) x:=by
 cases nil with
 | true =>
  rw[(h.uG rfl).1]
  exact .nF 0 0
 | false =>
  rw[h.hsome rfl]
  have:=VR.slice (ι:=qy ws) (b:=2*i+1) (o:=0) len cap (aAk hw)
  simpa [YE] using this
end Go.Dust
namespace Go.Dust
open Go.Proofs Go.ChangeShapes Go.RowKit Go.WideShapes
set_option maxRecDepth 100000
set_option maxHeartbeats 4000000
theorem cells27:Tryz.prog.cellTypes Tryz.prog.depth 27=some [5,5,22,23,24,25,23]:=by kernel_rfl
theorem kz:Tryz.prog.cellsOf 27=7:=by kernel_rfl
theorem qX:Tryz.prog.cellsOf 5=1:=by kernel_rfl
theorem YR:Tryz.prog.cellsOf 105=4:=by kernel_rfl
theorem YS:Tryz.prog.cellsOf 106=3:=by kernel_rfl
theorem YT:Tryz.prog.cellsOf 109=2:=by kernel_rfl
theorem kr:Tryz.prog.cellsOf 22=1:=by kernel_rfl
theorem NO:Tryz.prog.cellsOf 23=1:=by kernel_rfl
theorem ku:Tryz.prog.cellsOf 24=1:=by kernel_rfl
theorem ky:Tryz.prog.cellsOf 25=1:=by kernel_rfl
section
variable {H:Type} {enc:TypeId×Value→H} {W:World} {r:Reach} {b:Nat}
theorem kg {v:Value} {d:DataW H} {p:List MemPlace} (hT:DataW.Trod enc Tryz.prog W 0 (fun _=>true) true 27 v d p) (hv:Value.okWide Tryz.prog W r b 27 v) :
  ∃ (x0 x1:Nat) (y2 y3 y4 y5 y6:Value),x0<256∧x1<256∧v=.agg #[u8 x0,u8 x1,y2,y3,y4,y5,y6]∧(∃ n w l c,zZ W 4 y2 n w l c)∧(∃ n w l c,zZ W 1 y3 n w l c)∧(∃ n w l c,zZ W 3 y4 n w l c)∧(∃ n w l c,zZ W 2 y5 n w l c)∧(∃ n w l c,zZ W 1 y6 n w l c):=by
 simp only[Value.okWide,Tryz.underlying27] at hv
 obtain⟨cs,rfl,hn,ts,h1,_,h2⟩:=hv
 rw[cells27] at h1
 cases h1
 rw[kz] at hn
 rcases cs with ⟨l⟩
 have hl:l.length=7:=hn
 match l,hl with
 | [y0,y1,y2,y3,y4,y5,y6],_ =>
 obtain⟨fuel,hT⟩:=hT
 have hcs:(Value.agg ⟨[y0,y1,y2,y3,y4,y5,y6]⟩).cells.toList=[y0,y1,y2,y3,y4,y5,y6]:=rfl
 rw[hcs] at hT
 obtain⟨xs,n,_,_,_,hxl,hx⟩:=DataW.trod_struct Tryz.underlying27 hT
 have hxl:xs.length=7:=hxl
 have ok:∀ (i:Nat) y,[y0,y1,y2,y3,y4,y5,y6][i]?=some y→∃ u,[5,5,22,23,24,25,23][i%7]?=some u∧Cell.okWide Tryz.prog W r b u y:=fun i y hy=>h2 i y (by simpa using hy)
 have t0:DataW.trod enc Tryz.prog W 0 (fun _=>true) true n 5 (([y0,y1,y2,y3,y4,y5,y6].drop 0).take (Tryz.prog.cellsOf 5))=xs[0]?:=hx 0 _ rfl
 rw[qX,List.getElem?_eq_getElem (by omega)] at t0
 have t1:DataW.trod enc Tryz.prog W 0 (fun _=>true) true n 5 (([y0,y1,y2,y3,y4,y5,y6].drop 1).take (Tryz.prog.cellsOf 5))=xs[1]?:=hx 1 _ rfl
 rw[qX,List.getElem?_eq_getElem (by omega)] at t1
 have t2:DataW.trod enc Tryz.prog W 0 (fun _=>true) true n 22 (([y0,y1,y2,y3,y4,y5,y6].drop 2).take (Tryz.prog.cellsOf 22))=xs[2]?:=hx 2 _ rfl
 rw[kr,List.getElem?_eq_getElem (by omega)] at t2
 have t3:DataW.trod enc Tryz.prog W 0 (fun _=>true) true n 23 (([y0,y1,y2,y3,y4,y5,y6].drop 3).take (Tryz.prog.cellsOf 23))=xs[3]?:=hx 3 _ rfl
 rw[NO,List.getElem?_eq_getElem (by omega)] at t3
 have t4:DataW.trod enc Tryz.prog W 0 (fun _=>true) true n 24 (([y0,y1,y2,y3,y4,y5,y6].drop 4).take (Tryz.prog.cellsOf 24))=xs[4]?:=hx 4 _ rfl
 rw[ku,List.getElem?_eq_getElem (by omega)] at t4
 have t5:DataW.trod enc Tryz.prog W 0 (fun _=>true) true n 25 (([y0,y1,y2,y3,y4,y5,y6].drop 5).take (Tryz.prog.cellsOf 25))=xs[5]?:=hx 5 _ rfl
 rw[ky,List.getElem?_eq_getElem (by omega)] at t5
 have t6:DataW.trod enc Tryz.prog W 0 (fun _=>true) true n 23 (([y0,y1,y2,y3,y4,y5,y6].drop 6).take (Tryz.prog.cellsOf 23))=xs[6]?:=hx 6 _ rfl
 rw[NO,List.getElem?_eq_getElem (by omega)] at t6
 obtain⟨x0,hx0,e0⟩:=HR Tryz.underlying5 t0
 obtain⟨x1,hx1,e1⟩:=HR Tryz.underlying5 t1
 have e0:y0=u8 x0:=by simpa using e0
 have e1:y1=u8 x1:=by simpa using e1
 obtain⟨_,u2,o2⟩:=ok 2 y2 rfl
 obtain⟨_,u3,o3⟩:=ok 3 y3 rfl
 obtain⟨_,u4,o4⟩:=ok 4 y4 rfl
 obtain⟨_,u5,o5⟩:=ok 5 y5 rfl
 obtain⟨_,u6,o6⟩:=ok 6 y6 rfl
 cases u2;cases u3;cases u4;cases u5;cases u6
 refine⟨x0,x1,y2,y3,y4,y5,y6,hx0,hx1,by rw[e0,e1],?_,?_,?_,?_,?_⟩
 ·exact wW Tryz.underlying22 YR (by omega) (fun _ _ _ h=>MJ Tryz.underlying105 Tryz.underlying5 qX h) t2 o2
 ·exact wW Tryz.underlying23 qX (by omega) (fun _ _ _ h=>PQ Tryz.underlying5 h) t3 o3
 ·exact wW Tryz.underlying24 YS (by omega) (fun _ _ _ h=>MJ Tryz.underlying106 Tryz.underlying5 qX h) t4 o4
 ·exact wW Tryz.underlying25 YT (by omega) (fun _ _ _ h=>MJ Tryz.underlying109 Tryz.underlying5 qX h) t5 o5
 ·exact wW Tryz.underlying23 qX (by omega) (fun _ _ _ h=>PQ Tryz.underlying5 h) t6 o6
end
theorem zZ.sl {W:World} {k:Nat} {x:Value} {nil:Bool} {w:MO} {len cap:Nat} (h:zZ W k x nil w len cap) {ws:List MO} {i:Nat} (hw:ws[i]?=some w):lI (stw ws).next (stw ws) k (YE nil i len cap) len:=by
 have hi:=(List.getElem?_eq_some_iff.1 hw).1
 cases nil with
 | true =>
  obtain⟨_,rfl,rfl⟩:=h.uG rfl
  exact⟨none,0,rfl,fun h=>absurd h (Nat.lt_irrefl _)⟩
 | false =>
  refine⟨some ⟨2*i+1,0,none⟩,cap,rfl,fun _=>⟨2*i+1,0,rfl,?_,fun j hj=>?_⟩⟩
  ·show 2*i+1<2*ws.length+1
   omega
  ·have hj':j<w.2.2.length:=by rw[h.hlen];exact hj
   refine⟨w.2.2[j],h.gU _ (List.getElem_mem hj'),?_⟩
   rw[Nat.zero_add]
   exact winLoad hw hj'
theorem vr_agg {ι:cR} {l l':List Value} (h:eF ι l l'):VR ι (.agg ⟨l⟩) (.agg ⟨l'⟩):=by
 have key:∀ {l l':List Value},eF ι l l'→l.length=l'.length∧∀ (i:Nat) v u,l[i]?=some v→l'[i]?=some u→VR ι v u:=by
  intro l l' h
  induction h with
  | nil=>exact⟨rfl,fun i v u h=>by simp at h⟩
  | cons h _ ih =>
   refine⟨by simp[ih.1],fun i v u hv hu=>?_⟩
   cases i with
   | zero=>cases hv;cases hu;exact h
   | succ i=>exact ih.2 i v u (by simpa using hv) (by simpa using hu)
 exact .agg (key h).1 fun i v u hv hu=>(key h).2 i v u (by simpa using hv) (by simpa using hu)
theorem XU {W:World} {x0 x1 o0 i0:Nat} (hx0:x0<256) (hx1:x1<256) (ho:o0<256) (hi:i0<256) {v:Int} (hv:i64 v) {y2 y3 y4 y5 y6:Value} (S2:∃ n w l c,zZ W 4 y2 n w l c) (S3:∃ n w l c,zZ W 1 y3 n w l c) (S4:∃ n w l c,zZ W 3 y4 n w l c) (S5:∃ n w l c,zZ W 2 y5 n w l c) (S6:∃ n w l c,zZ W 1 y6 n w l c) :
  Calls Tryz.prog 3 #[.agg #[u8 x0,u8 x1,y2,y3,y4,y5,y6],u8 o0,u8 i0,int v] W fun e W'=>e=.returned (.bool true)∧Below W.heap.size W W':=by
 obtain⟨n2,w2,l2,c2,S2⟩:=S2
 obtain⟨n3,w3,l3,c3,S3⟩:=S3
 obtain⟨n4,w4,l4,c4,S4⟩:=S4
 obtain⟨n5,w5,l5,c5,S5⟩:=S5
 obtain⟨n6,w6,l6,c6,S6⟩:=S6
 obtain⟨ws,hws⟩:∃ ws,ws=[w2,w3,w4,w5,w6]:=⟨_,rfl⟩
 have g2:ws[0]?=some w2:=by rw[hws];rfl
 have g3:ws[1]?=some w3:=by rw[hws];rfl
 have g4:ws[2]?=some w4:=by rw[hws];rfl
 have g5:ws[3]?=some w5:=by rw[hws];rfl
 have g6:ws[4]?=some w6:=by rw[hws];rfl
 have hR:RS Tryz.prog (qy ws) (stw ws) W:=tiew _ fun w hw=>by
  rw[hws] at hw
  simp only[List.mem_cons,List.not_mem_nil,or_false] at hw
  rcases hw with rfl | rfl | rfl | rfl | rfl
  ·exact S2.wq
  ·exact S3.wq
  ·exact S4.wq
  ·exact S5.wq
  ·exact S6.wq
 have hok:=GY (q:=true) (Φ:=fun v _=>v=.bool true) (okw ws) hx0 hx1 ho hi hv (S2.sl g2) (S3.sl g3) (S4.sl g4) (S5.sl g5) (S6.sl g6) fun _ _=>rfl
 rw[← envX] at hok
 have hargs:eF (qy ws) [.agg #[u8 x0,u8 x1,YE n2 0 l2 c2,YE n3 1 l3 c3,YE n4 2 l4 c4,YE n5 3 l5 c5,YE n6 4 l6 c6],u8 o0,u8 i0,int v] (#[.agg #[u8 x0,u8 x1,y2,y3,y4,y5,y6],u8 o0,u8 i0,int v]:Array Value).toList :=
  .cons (vr_agg (.cons (.int _ _) (.cons (.int _ _) (.cons (S2.vr g2) (.cons (S3.vr g3) (.cons (S4.vr g4) (.cons (S5.vr g5) (.cons (S6.vr g6) .nil)))))))) (.cons (.int _ _) (.cons (.int _ _) (.cons (.int _ _) .nil)))
 obtain⟨fn,hfn,hb⟩:∃ fn,Tryz.prog.funcs[3]?=some fn∧fn.body.isSome=true:=⟨_,rfl,by kernel_rfl⟩
 refine(NN mixed bh hfn hb hR hargs hok).mono ?_
 rintro e W' ⟨v,s',ι',v',rfl,hv',_,hE,rfl⟩
 exact⟨by rw[hv'.kT],hE.os,hE.tape,hE.output,hE.size,fun k hk=>hE.aF k hk ownw⟩
end Go.Dust
