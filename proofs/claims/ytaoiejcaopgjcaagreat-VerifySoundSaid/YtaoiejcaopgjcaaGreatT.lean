/- VerifySound walked in D, function by function, and its plain law (C6 C7). -/
import Derived.Test.YtaoiejcaopgjcaaGreatS
set_option linter.unusedVariables false
set_option linter.unusedSimpArgs false
open Nat renaming reduceEqDiff → zA, reduceMul → zB, reduceAdd → zC, reduceBEq → zD
open Int renaming reduceEq → zE, reduceBEq → zF
namespace Go.Dust
open Go.Proofs
set_option maxRecDepth 100000
set_option maxHeartbeats 1000000
namespace PH
variable (P:PH)
def many (a:Int) (data:Bool):Int:=if data=true then(P.shape a).d else(P.shape a).r
def first (a:Int) (data:Bool):Int:=if data=true then a+2+(P.shape a).r else a+2
def mH (a i:Int) (data:Bool):Int:=if P.has a=true then(if i<0∨i≥P.many a data then 1 else 0) else 4
def sT (a i:Int) (data:Bool):Int:=if P.mH a i data=0 then P.first a data+i else 0
def gG (i:Int) (v:Int):PH:={P with w:=fun j=>if j=i.toNat then v else P.w j}
theorem HK {P:PH} {a i:Int} {data:Bool} (h:P.mH a i data=0):P.has a=true∧0≤i∧i<P.many a data:=by
 unfold mH at h
 split at h
 ·rename_i hh
  split at h
  ·cases h
  ·rename_i hn;exact⟨hh,by omega,by omega⟩
 ·cases h
theorem uD {P:PH} (G:P.cZ) {a i:Int} {data:Bool} (h:P.mH a i data=0):P.sT a i data=P.first a data+i∧a+2≤P.sT a i data∧P.sT a i data<a+P.size a∧P.sT a i data<64*P.N∧0≤P.sT a i data:=by
 obtain⟨h1,h2,h3⟩:=HK h
 obtain⟨v1,v2⟩:=G.val a h1
 have hv:=iV.dX.1 v1
 have hw:=iV.eD v1
 have hb:=PH.dT.1 h1
 have e:P.sT a i data=P.first a data+i:=by unfold sT;rw[if_pos h]
 unfold PH.size at v2 ⊢
 refine⟨e,?_⟩
 rw[e]
 cases data with
 | false =>
  have h3':i<(P.shape a).r:=h3
  rw[show P.first a false=a+2 from rfl]
  omega
 | true =>
  have h3':i<(P.shape a).d:=h3
  rw[show P.first a true=a+2+(P.shape a).r from rfl]
  omega
end PH
section
variable {kc:Kc} {q:Bool} {s:St} {Φ:Value→St→Prop} {h:Nat} {P:PH}
theorem tm16 (x:Int):-16<x.tmod 16∧x.tmod 16<16:=by
 have h1:=Int.natAbs_tmod x 16
 have h2:=Nat.mod_lt x.natAbs (show 0<(16:Int).natAbs by decide)
 omega
theorem td256 (x:Int):-256<(x.tmod 4096).tdiv 16∧(x.tmod 4096).tdiv 16<256:=by
 have h1:=Int.natAbs_tmod x 4096
 have h2:=Nat.mod_lt x.natAbs (show 0<(4096:Int).natAbs by decide)
 have h3:((x.tmod 4096).tdiv 16).natAbs=(x.tmod 4096).natAbs/16:=Int.natAbs_tdiv (x.tmod 4096) 16
 have h4:(x.tmod 4096).natAbs<4096:=by omega
 omega
theorem dV:type_of% (An @RX<|An @cE<|An @cY<|An @dO<|An @bF<|An @kA<|An @kI<|An @eC<|@fX):=An @RX<|An @cE<|An @cY<|An @dO<|An @bF<|An @kA<|An @kI<|An @eC<|@fX
theorem AG (hs:Ok s) (H:aP s h P) (a i:Int) (ha:i64 a) (data:Bool) (hΦ:∀ s',aC [] s s'→Φ (.tuple #[int (P.sT a i data),int (P.mH a i data)]) s'):okF q X (KO kc) 130 [ptr h,int a,int i,.bool data] s Φ:=by
 unfold PH.sT PH.mH at hΦ
 refine aG rfl fn_130 rfl (rs:=[.tmp 8,.tmp 9]) rfl (N:=50) rfl rfl ?_
 refine aA fun Ψ0 hΨ0 hΨ0'=>?_
 simp only[dV,↓reduceIte,zA,reduceCtorEq,zE,zB,zC,zD,zF]
 refine hΨ0 _ _ ?_
 refine aA fun Ψ1 hΨ1 hΨ1'=>?_
 refine aA fun Ψ2 hΨ2 hΨ2'=>?_
 simp only[dV,↓reduceIte,zA,reduceCtorEq,zE,zB,zC,zD,zF]
 refine aB ?_ (pA hs H a ha fun s2 k2=>?_)
 ·simp only[dV,↓reduceIte,zA,reduceCtorEq,zE,zB,zC,zD,zF]
 have H2:=H.aN k2
 cases hh:P.has a with
 | false =>
  rw[hh] at hΦ
  simp only[dV,↓reduceIte,zA,reduceCtorEq,zE,zB,zC,zD,zF]
  refine hΨ2 _ _ ?_
  simp only[dV,↓reduceIte,zA,reduceCtorEq,zE,zB,zC,zD,zF]
  refine hΨ1' _ _ _ (by simp) ?_
  simp only[dV,↓reduceIte,zA,reduceCtorEq,zE,zB,zC,zD,zF]
  exact hΦ _ k2
 | true =>
  have hb:=PH.dT.1 hh
  rw[hh] at hΦ
  simp only[if_true] at hΦ
  have iJ:=H.iJ
  have e1:IntKind.i64.wrap (a+1)=a+1:=aR (by omega) (by omega)
  have g1:0≤a+1:=by omega
  have g2:a+1<((64*P.N:Nat):Int):=by omega
  have l:=H2.lw (i:=(a+1).toNat) (by omega)
  simp only[dV,↓reduceIte,zA,reduceCtorEq,zE,zB,zC,zD,zF]
  refine hΨ2 _ _ ?_
  simp only[dV,↓reduceIte,zA,reduceCtorEq,zE,zB,zC,zD,zF]
  refine hΨ1 _ _ ?_
  refine aA fun Ψ3 hΨ3 hΨ3'=>?_
  simp only[dV,↓reduceIte,zA,reduceCtorEq,zE,zB,zC,zD,zF,H2.l1,e1,g1,g2,and_self,aJ,Nat.zero_add,Nat.mul_one,l]
  refine aB ?_ (uF k2.ok (P.w (a+1).toNat) (H.wr _) fun s3 k3=>?_)
  ·simp only[dV,↓reduceIte,zA,reduceCtorEq,zE,zB,zC,zD,zF]
  simp only[dV,↓reduceIte,zA,reduceCtorEq,zE,zB,zC,zD,zF]
  obtain⟨s4,e4,k4,c4,_⟩:=aT k3.ok (L:=[int 0,int 0,int 0]) (n:=3) (e:=44) rfl
  rw[e4]
  obtain⟨s5,h5,c5,k5⟩:=c4.storeAll k4.ok (vs:=[int (qD (P.w (a+1).toNat)).r,int (qD (P.w (a+1).toNat)).d,int (qD (P.w (a+1).toNat)).k]) rfl rfl
  have k6:aC [] s s5:=(k2.trans (k3.trans k4)).step k5 fun g hg=>.inr (by rw[List.mem_singleton.1 hg];exact hs.fresh _ (k2.trans k3).next)
  simp only[dV,↓reduceIte,zA,reduceCtorEq,zE,zB,zC,zD,zF,h5]
  refine hΨ3 _ _ ?_
  have r1:=tm16 (P.w (a+1).toNat)
  have d1:=td256 (P.w (a+1).toNat)
  have hr:(P.shape a).r=(P.w (a+1).toNat).tmod 16:=rfl
  have hd:(P.shape a).d=((P.w (a+1).toNat).tmod 4096).tdiv 16:=rfl
  have lr:aI s5.look ⟨s3.next,0,none⟩=some (int (P.shape a).r):=c5.load rfl
  have ld:aI s5.look ⟨s3.next,1,none⟩=some (int (P.shape a).d):=c5.load rfl
  have w1:IntKind.i64.wrap (a+2)=a+2:=aR (by omega) (by omega)
  have w2:IntKind.i64.wrap (a+2+(P.shape a).r)=a+2+(P.shape a).r:=aR (by omega) (by omega)
  have key:∀ (m f:Int),P.many a data=m→P.first a data=f→-300<m→m<300→0≤f+300→f≤6000→∀ s',aC [] s s'→(i<0∨i≥m→Φ (.tuple #[int 0,int 1]) s')∧(¬ (i<0∨i≥m)→Φ (.tuple #[int (f+i),int 0]) s'):=by
   intro m f hm hf _ _ _ _ s' hk'
   have:=hΦ s' hk'
   rw[hm,hf] at this
   refine⟨fun hc=>?_,fun hc=>?_⟩
   ·rw[if_pos hc] at this;exact this
   ·rw[if_neg hc] at this;exact this
  refine aA fun Ψ4 hΨ4 hΨ4'=>?_
  refine aQ [] [] [] (by kernel_rfl) (by kernel_rfl) (by rfl) fun O hO ΨR hR=>?_
  simp only[dV,↓reduceIte,zA,reduceCtorEq,zE,zB,zC,zD,zF,w1,lr]
  refine hR _ _ (hΨ4 _ _ ?_)
  refine aA fun Ψ5 hΨ5 hΨ5'=>?_
  refine aA fun Ψ6 hΨ6 hΨ6'=>?_
  simp only[dV,↓reduceIte,zA,reduceCtorEq,zE,zB,zC,zD,zF]
  refine hΨ6 _ _ ?_
  cases data with
  | false =>
   have hk:=key (P.shape a).r (a+2) rfl rfl (by omega) (by omega) (by omega) (by omega)
   simp only[dV,↓reduceIte,zA,reduceCtorEq,zE,zB,zC,zD,zF]
   refine hΨ5 _ _ ?_
   refine aA fun Ψ7 hΨ7 hΨ7'=>?_
   refine aA fun Ψ8 hΨ8 hΨ8'=>?_
   refine aH [(2,42)] (by kernel_rfl) fun O hO ΨR hR=>?_
   have y2:∀ a,aE O a 2=aM (a.aD 42):=hO (2,42) (by simp)
   by_cases i0:i<0
   ·simp only[dV,↓reduceIte,zA,reduceCtorEq,zE,zB,zC,zD,zF,y2,i0,decide_true]
    refine hR _ _ (hΨ8 _ _ ?_)
    simp only[dV,↓reduceIte,zA,reduceCtorEq,zE,zB,zC,zD,zF]
    refine hΨ7' _ _ _ (by simp) ?_
    simp only[dV,↓reduceIte,zA,reduceCtorEq,zE,zB,zC,zD,zF]
    exact(hk _ (k6.trans (.skip k6.ok _))).1 (.inl i0)
   ·by_cases i1:i≥(P.shape a).r
    ·simp only[dV,↓reduceIte,zA,reduceCtorEq,zE,zB,zC,zD,zF,y2,i0,i1,decide_true,decide_false]
     refine hR _ _ (hΨ8 _ _ ?_)
     simp only[dV,↓reduceIte,zA,reduceCtorEq,zE,zB,zC,zD,zF]
     refine hΨ7' _ _ _ (by simp) ?_
     simp only[dV,↓reduceIte,zA,reduceCtorEq,zE,zB,zC,zD,zF]
     exact(hk _ (k6.trans (.skip k6.ok _))).1 (.inr i1)
    ·simp only[dV,↓reduceIte,zA,reduceCtorEq,zE,zB,zC,zD,zF,y2,i0,i1,decide_false]
     refine hR _ _ (hΨ8 _ _ ?_)
     simp only[dV,↓reduceIte,zA,reduceCtorEq,zE,zB,zC,zD,zF]
     refine hΨ7 _ _ ?_
     simp only[dV,↓reduceIte,zA,reduceCtorEq,zE,zB,zC,zD,zF]
     rw[aR (by omega) (by omega)]
     exact(hk _ (k6.trans (.skip k6.ok _))).2 (by omega)
  | true =>
   have hk:=key (P.shape a).d (a+2+(P.shape a).r) rfl rfl (by omega) (by omega) (by omega) (by omega)
   simp only[bE,RV,RG,↓reduceIte,zA,reduceCtorEq,zE,zB,zC,zD,zF]
   refine aQ [] [] [] (by kernel_rfl) (by kernel_rfl) (by rfl) fun O hO ΨR hR=>?_
   simp only[dV,↓reduceIte,zA,reduceCtorEq,zE,zB,zC,zD,zF,lr,ld,w2]
   refine hR _ _ ?_
   refine hΨ5 _ _ ?_
   refine aA fun Ψ7 hΨ7 hΨ7'=>?_
   refine aA fun Ψ8 hΨ8 hΨ8'=>?_
   refine aH [(2,42)] (by kernel_rfl) fun O hO ΨR hR=>?_
   have y2:∀ a,aE O a 2=aM (a.aD 42):=hO (2,42) (by simp)
   by_cases i0:i<0
   ·simp only[dV,↓reduceIte,zA,reduceCtorEq,zE,zB,zC,zD,zF,y2,i0,decide_true]
    refine hR _ _ (hΨ8 _ _ ?_)
    simp only[dV,↓reduceIte,zA,reduceCtorEq,zE,zB,zC,zD,zF]
    refine hΨ7' _ _ _ (by simp) ?_
    simp only[dV,↓reduceIte,zA,reduceCtorEq,zE,zB,zC,zD,zF]
    exact(hk _ ((k6.trans (.skip k6.ok _)).cB _)).1 (.inl i0)
   ·by_cases i1:i≥(P.shape a).d
    ·simp only[dV,↓reduceIte,zA,reduceCtorEq,zE,zB,zC,zD,zF,y2,i0,i1,decide_true,decide_false]
     refine hR _ _ (hΨ8 _ _ ?_)
     simp only[dV,↓reduceIte,zA,reduceCtorEq,zE,zB,zC,zD,zF]
     refine hΨ7' _ _ _ (by simp) ?_
     simp only[dV,↓reduceIte,zA,reduceCtorEq,zE,zB,zC,zD,zF]
     exact(hk _ ((k6.trans (.skip k6.ok _)).cB _)).1 (.inr i1)
    ·simp only[dV,↓reduceIte,zA,reduceCtorEq,zE,zB,zC,zD,zF,y2,i0,i1,decide_false]
     refine hR _ _ (hΨ8 _ _ ?_)
     simp only[dV,↓reduceIte,zA,reduceCtorEq,zE,zB,zC,zD,zF]
     refine hΨ7 _ _ ?_
     simp only[dV,↓reduceIte,zA,reduceCtorEq,zE,zB,zC,zD,zF]
     rw[aR (by omega) (by omega)]
     exact(hk _ ((k6.trans (.skip k6.ok _)).cB _)).2 (by omega)
theorem wZ:type_of% (An @RX<|An @cE<|An @cY<|An @dO<|@bF):=An @RX<|An @cE<|An @cY<|An @dO<|@bF
theorem vg (hs:Ok s) (H:aP s h P) (G:P.cZ) (a i:Int) (ha:i64 a) (hΦ:∀ s',aC [] s s'→Φ (.tuple #[int (if P.mH a i false=0 then P.w (P.sT a i false).toNat else 0),int (P.mH a i false)]) s'):okF q X (KO kc) 41 [ptr h,int a,int i] s Φ:=by
 refine aG rfl fn_41 rfl (rs:=[.tmp 6,.tmp 7]) rfl (N:=27) rfl rfl ?_
 refine aA fun Ψ0 hΨ0 hΨ0'=>?_
 simp only[wZ,↓reduceIte,zA,reduceCtorEq,zE,zB,zC,zD,zF]
 refine hΨ0 _ _ ?_
 refine aA fun Ψ1 hΨ1 hΨ1'=>?_
 simp only[wZ,↓reduceIte,zA,reduceCtorEq,zE,zB,zC,zD,zF]
 refine aB ?_ (AG hs H a i ha false fun s2 k2=>?_)
 ·simp only[wZ,↓reduceIte,zA,reduceCtorEq,zE,zB,zC,zD,zF]
 have H2:=H.aN k2
 have hΦ':=hΦ _ k2
 clear hΦ
 by_cases he:P.mH a i false=0
 ·obtain⟨_,_,_,f4,f5⟩:=PH.uD G he
  have l:=H2.lw (i:=(P.sT a i false).toNat) (by omega)
  have g2:P.sT a i false<((64*P.N:Nat):Int):=by omega
  rw[if_pos he,he] at hΦ'
  rw[he]
  simp only[wZ,↓reduceIte,zA,reduceCtorEq,zE,zB,zC,zD,zF]
  refine hΨ1 _ _ ?_
  refine aA fun Ψ2 hΨ2 hΨ2'=>?_
  refine aA fun Ψ3 hΨ3 hΨ3'=>?_
  simp only[wZ,↓reduceIte,zA,reduceCtorEq,zE,zB,zC,zD,zF]
  refine hΨ3 _ _ ?_
  simp only[wZ,↓reduceIte,zA,reduceCtorEq,zE,zB,zC,zD,zF]
  refine hΨ2 _ _ ?_
  simp only[wZ,↓reduceIte,zA,reduceCtorEq,zE,zB,zC,zD,zF,H2.l1,f5,g2,and_self,aJ,Nat.zero_add,Nat.mul_one,l]
  exact hΦ'
 ·have hb:(P.mH a i false==0)=false:=by simpa using he
  rw[if_neg he] at hΦ'
  simp only[wZ,↓reduceIte,zA,reduceCtorEq,zE,zB,zC,zD,zF]
  refine hΨ1 _ _ ?_
  refine aA fun Ψ2 hΨ2 hΨ2'=>?_
  refine aA fun Ψ3 hΨ3 hΨ3'=>?_
  simp only[wZ,↓reduceIte,zA,reduceCtorEq,zE,zB,zC,zD,zF,hb]
  refine hΨ3 _ _ ?_
  simp only[wZ,↓reduceIte,zA,reduceCtorEq,zE,zB,zC,zD,zF]
  refine hΨ2' _ _ _ (by simp) ?_
  simp only[wZ,↓reduceIte,zA,reduceCtorEq,zE,zB,zC,zD,zF]
  exact hΦ'
theorem wY:type_of% (An @RX<|An @cE<|An @cY<|An @dO<|@bF):=An @RX<|An @cE<|An @cY<|An @dO<|@bF
theorem OC (hs:Ok s) (H:aP s h P) (G:P.cZ) (a i:Int) (ha:i64 a) (hΦ:∀ s',aC [] s s'→Φ (.tuple #[int (if P.mH a i true=0 then P.w (P.sT a i true).toNat else 0),int (P.mH a i true)]) s'):okF q X (KO kc) 39 [ptr h,int a,int i] s Φ:=by
 refine aG rfl fn_39 rfl (rs:=[.tmp 6,.tmp 7]) rfl (N:=27) rfl rfl ?_
 refine aA fun Ψ0 hΨ0 hΨ0'=>?_
 simp only[wY,↓reduceIte,zA,reduceCtorEq,zE,zB,zC,zD,zF]
 refine hΨ0 _ _ ?_
 refine aA fun Ψ1 hΨ1 hΨ1'=>?_
 simp only[wY,↓reduceIte,zA,reduceCtorEq,zE,zB,zC,zD,zF]
 refine aB ?_ (AG hs H a i ha true fun s2 k2=>?_)
 ·simp only[wY,↓reduceIte,zA,reduceCtorEq,zE,zB,zC,zD,zF]
 have H2:=H.aN k2
 have hΦ':=hΦ _ k2
 clear hΦ
 by_cases he:P.mH a i true=0
 ·obtain⟨_,_,_,f4,f5⟩:=PH.uD G he
  have l:=H2.lw (i:=(P.sT a i true).toNat) (by omega)
  have g2:P.sT a i true<((64*P.N:Nat):Int):=by omega
  rw[if_pos he,he] at hΦ'
  rw[he]
  simp only[wY,↓reduceIte,zA,reduceCtorEq,zE,zB,zC,zD,zF]
  refine hΨ1 _ _ ?_
  refine aA fun Ψ2 hΨ2 hΨ2'=>?_
  refine aA fun Ψ3 hΨ3 hΨ3'=>?_
  simp only[wY,↓reduceIte,zA,reduceCtorEq,zE,zB,zC,zD,zF]
  refine hΨ3 _ _ ?_
  simp only[wY,↓reduceIte,zA,reduceCtorEq,zE,zB,zC,zD,zF]
  refine hΨ2 _ _ ?_
  simp only[wY,↓reduceIte,zA,reduceCtorEq,zE,zB,zC,zD,zF,H2.l1,f5,g2,and_self,aJ,Nat.zero_add,Nat.mul_one,l]
  exact hΦ'
 ·have hb:(P.mH a i true==0)=false:=by simpa using he
  rw[if_neg he] at hΦ'
  simp only[wY,↓reduceIte,zA,reduceCtorEq,zE,zB,zC,zD,zF]
  refine hΨ1 _ _ ?_
  refine aA fun Ψ2 hΨ2 hΨ2'=>?_
  refine aA fun Ψ3 hΨ3 hΨ3'=>?_
  simp only[wY,↓reduceIte,zA,reduceCtorEq,zE,zB,zC,zD,zF,hb]
  refine hΨ3 _ _ ?_
  simp only[wY,↓reduceIte,zA,reduceCtorEq,zE,zB,zC,zD,zF]
  refine hΨ2' _ _ _ (by simp) ?_
  simp only[wY,↓reduceIte,zA,reduceCtorEq,zE,zB,zC,zD,zF]
  exact hΦ'
theorem aP.gG {s s':St} (H:aP s h P) {i v:Int} (h0:0≤i) (h1:i<64*P.N) (hv:i64 v) (k:aC [P.nw] s s') (hc:Obj s' P.nw ((row (64*P.N) fun j=>int (P.w j)).set i.toNat (int v))):aP s' h (P.gG i v):=by
 obtain⟨c,cb,cw,ts,tp,mp,mf,nd,n2,iJ,wr⟩:=H
 have nd':=nd
 simp only[List.nodup_cons,List.mem_cons,List.not_mem_nil,or_false,not_or,List.nodup_nil,not_false_eq_true,and_true] at nd'
 obtain⟨⟨a1,a2,a3,a4,a5,a6,a7,a8⟩,⟨b1,b2,b3,b4,b5,b6,b7⟩,⟨c1,c2,c3,c4,c5,c6⟩,_⟩:=nd'
 refine⟨c.aF k (by simp[a2]),cb.aF k (by simp[b1]),?_,ts.aF k (by simp[Ne.symm c1]) (by simp[Ne.symm c2]),tp.aF k (by simp[Ne.symm c3]) (by simp[Ne.symm c4]),mp.aF k (by simp[Ne.symm c5]),mf.aF k (by simp[Ne.symm c6]),nd,n2,iJ,fun j=>?_⟩
 ·rw[yQ (by omega)] at hc
  show Obj s' P.nw (row (64*P.N) fun j=>int (if j=i.toNat then v else P.w j))
  rw[show (fun j=>int (if j=i.toNat then v else P.w j))=(fun j=>if j=i.toNat then int v else int (P.w j)) from funext fun j=>by split <;> rfl]
  exact hc
 ·show i64 (if j=i.toNat then v else P.w j)
  split
  ·exact hv
  ·exact wr j
theorem aP.SZ {s:St} (hs:Ok s) (H:aP s h P) {i v:Int} (h0:0≤i) (h1:i<64*P.N) (hv:i64 v):∃ s',bJ s ⟨P.nw,i.toNat,none⟩ [int v]=some s'∧aP s' h (P.gG i v)∧aC [P.nw] s s':=by
 obtain⟨s',h2,h3,h4⟩:=H.cw.dU hs (i:=i.toNat) (v:=int v) (by rw[bI];omega) rfl
 exact⟨s',h2,H.gG h0 h1 hv h4 h3,h4⟩
def PH.yV (P:PH) (a i to:Int):Int:=if P.mH a i false=0 then(if to≠0∧P.has to=false then 1 else 0) else P.mH a i false
def PH.setRef (P:PH) (a i to:Int):PH:=if P.yV a i to=0 then P.gG (P.sT a i false) to else P
theorem lY:type_of% (An @RX<|An @cE<|An @cY<|An @dO<|@rV):=An @RX<|An @cE<|An @cY<|An @dO<|@rV
theorem FI (hs:Ok s) (H:aP s h P) (G:P.cZ) (a i to:Int) (ha:i64 a) (ht:i64 to) (hΦ:∀ s',aP s' h (P.setRef a i to)→aC [P.nw] s s'→Φ (int (P.yV a i to)) s'):okF q X (KO kc) 43 [ptr h,int a,int i,int to] s Φ:=by
 unfold PH.setRef at hΦ
 refine aG rfl fn_43 rfl (rs:=[.tmp 8]) rfl (N:=36) rfl rfl ?_
 refine aA fun Ψ0 hΨ0 hΨ0'=>?_
 simp only[lY,↓reduceIte,zA,reduceCtorEq,zE,zB,zC,zD,zF]
 refine hΨ0 _ _ ?_
 refine aA fun Ψ1 hΨ1 hΨ1'=>?_
 simp only[lY,↓reduceIte,zA,reduceCtorEq,zE,zB,zC,zD,zF]
 refine aB ?_ (AG hs H a i ha false fun s2 k2=>?_)
 ·simp only[lY,↓reduceIte,zA,reduceCtorEq,zE,zB,zC,zD,zF]
 have H2:=H.aN k2
 by_cases he:P.mH a i false=0
 ·obtain⟨_,_,_,f4,f5⟩:=PH.uD G he
  have g2:P.sT a i false<((64*P.N:Nat):Int):=by omega
  have hgood:∀ s3,aC [] s s3→P.yV a i to=0→∃ s4,bJ s3 ⟨P.nw,(P.sT a i false).toNat,none⟩ [int to]=some s4∧Φ (int 0) s4:=by
   intro s3 k3 hz
   obtain⟨s4,h4,H4,k4⟩:=(H.aN k3).SZ k3.ok f5 (by omega) ht
   refine⟨s4,h4,?_⟩
   have:=hΦ s4 (by rw[if_pos hz];exact H4) (k3.any.trans k4)
   rw[hz] at this
   exact this
  rw[he]
  simp only[lY,↓reduceIte,zA,reduceCtorEq,zE,zB,zC,zD,zF]
  refine hΨ1 _ _ ?_
  refine aA fun Ψ2 hΨ2 hΨ2'=>?_
  refine aA fun Ψ3 hΨ3 hΨ3'=>?_
  simp only[lY,↓reduceIte,zA,reduceCtorEq,zE,zB,zC,zD,zF]
  refine hΨ3 _ _ ?_
  simp only[lY,↓reduceIte,zA,reduceCtorEq,zE,zB,zC,zD,zF]
  refine hΨ2 _ _ ?_
  refine aA fun Ψ4 hΨ4 hΨ4'=>?_
  refine aA fun Ψ5 hΨ5 hΨ5'=>?_
  refine aH [(2,23)] (by kernel_rfl) fun O hO ΨR hR=>?_
  have y2:∀ a,aE O a 2=aM (a.aD 23):=hO (2,23) (by simp)
  by_cases h0:to=0
  ·have hz:P.yV a i to=0:=by unfold PH.yV;rw[if_pos he,if_neg (by simp[h0])]
   have e0:(to==0)=true:=by simpa using h0
   obtain⟨s4,h4,hf⟩:=hgood s2 k2 hz
   simp only[lY,↓reduceIte,zA,reduceCtorEq,zE,zB,zC,zD,zF,y2,e0]
   refine hR _ _ (hΨ5 _ _ ?_)
   simp only[lY,↓reduceIte,zA,reduceCtorEq,zE,zB,zC,zD,zF]
   refine hΨ4 _ _ ?_
   simp only[lY,↓reduceIte,zA,reduceCtorEq,zE,zB,zC,zD,zF,H2.l1,f5,g2,and_self,aJ,Nat.zero_add,Nat.mul_one,h4]
   exact hf
  ·have e0:(to==0)=false:=by simpa using h0
   simp only[lY,↓reduceIte,zA,reduceCtorEq,zE,zB,zC,zD,zF,y2,e0]
   refine aB ?_ (oZ k2.ok H2 to ht fun s3 k3=>?_)
   ·simp only[lY,↓reduceIte,zA,reduceCtorEq,zE,zB,zC,zD,zF]
   have k23:=k2.trans k3
   have H3:=H.aN k23
   cases hh:P.has to with
   | false =>
    have hz:P.yV a i to=1:=by unfold PH.yV;rw[if_pos he,if_pos ⟨h0,hh⟩]
    simp only[lY,↓reduceIte,zA,reduceCtorEq,zE,zB,zC,zD,zF,y2]
    refine hR _ _ (hΨ5 _ _ ?_)
    simp only[lY,↓reduceIte,zA,reduceCtorEq,zE,zB,zC,zD,zF]
    refine hΨ4' _ _ _ (by simp) ?_
    simp only[lY,↓reduceIte,zA,reduceCtorEq,zE,zB,zC,zD,zF]
    have:=hΦ s3 (by rw[if_neg (by omega)];exact H3) k23.any
    rw[hz] at this
    exact this
   | true =>
    have hz:P.yV a i to=0:=by unfold PH.yV;rw[if_pos he,if_neg (by simp[hh])]
    obtain⟨s4,h4,hf⟩:=hgood s3 k23 hz
    simp only[lY,↓reduceIte,zA,reduceCtorEq,zE,zB,zC,zD,zF,y2]
    refine hR _ _ (hΨ5 _ _ ?_)
    simp only[lY,↓reduceIte,zA,reduceCtorEq,zE,zB,zC,zD,zF]
    refine hΨ4 _ _ ?_
    simp only[lY,↓reduceIte,zA,reduceCtorEq,zE,zB,zC,zD,zF,H3.l1,f5,g2,and_self,aJ,Nat.zero_add,Nat.mul_one,h4]
    exact hf
 ·have hb:(P.mH a i false==0)=false:=by simpa using he
  have hz:P.yV a i to=P.mH a i false:=by unfold PH.yV;rw[if_neg he]
  have:=hΦ s2 (by rw[if_neg (by rw[hz];exact he)];exact H2) k2.any
  rw[hz] at this
  simp only[lY,↓reduceIte,zA,reduceCtorEq,zE,zB,zC,zD,zF]
  refine hΨ1 _ _ ?_
  refine aA fun Ψ2 hΨ2 hΨ2'=>?_
  refine aA fun Ψ3 hΨ3 hΨ3'=>?_
  simp only[lY,↓reduceIte,zA,reduceCtorEq,zE,zB,zC,zD,zF,hb]
  refine hΨ3 _ _ ?_
  simp only[lY,↓reduceIte,zA,reduceCtorEq,zE,zB,zC,zD,zF]
  refine hΨ2' _ _ _ (by simp) ?_
  simp only[lY,↓reduceIte,zA,reduceCtorEq,zE,zB,zC,zD,zF]
  exact this
theorem tQ:type_of% (An @RX<|An @cE<|An @cY<|An @cO<|An @dO<|@bF):=An @RX<|An @cE<|An @cY<|An @cO<|An @dO<|@bF
theorem OD (hs:Ok s) (H:aP s h P) (a:Int) (hΦ:Φ (if 0≤a∧a<64*P.N then .tuple #[int (P.w a.toNat),int 0] else .tuple #[int 0,int 1]) s):okF q X (KO kc) 81 [ptr h,int a] s Φ:=by
 refine aG rfl fn_81 rfl (rs:=[.tmp 4,.tmp 5]) rfl (N:=29) rfl rfl ?_
 refine aA fun Ψ0 hΨ0 hΨ0'=>?_
 simp only[tQ,↓reduceIte,zA,reduceCtorEq,zE,zB,zC,zD,zF]
 refine hΨ0 _ _ ?_
 refine aA fun Ψ1 hΨ1 hΨ1'=>?_
 refine aL fun Ψ2 hΨ2 hΨ2e hΨ2'=>?_
 refine aA fun Ψ3 hΨ3 hΨ3'=>?_
 simp only[tQ,↓reduceIte,zA,reduceCtorEq,zE,zB,zC,zD,zF]
 refine aB ?_ (jT H ?_)
 ·simp only[tQ,↓reduceIte,zA,reduceCtorEq,zE,zB,zC,zD,zF]
 try simp only[tQ,↓reduceIte,zA,reduceCtorEq,zE,zB,zC,zD,zF]
 refine hΨ3 _ _ ?_
 simp only[bE,RV,RG,↓reduceIte,zA,reduceCtorEq,zE,zB,zC,zD,zF]
 refine aA fun Ψ4 hΨ4 hΨ4'=>?_
 refine aH [(2,13)] (by kernel_rfl) fun O hO ΨR hR=>?_
 have y2:∀ a,aE O a 2=aM (a.aD 13):=hO (2,13) (by simp)
 by_cases h0:a<0
 ·simp only[tQ,↓reduceIte,zA,reduceCtorEq,zE,zB,zC,zD,zF,y2,h0,decide_true]
  refine hR _ _ (hΨ4 _ _ ?_)
  simp only[tQ,↓reduceIte,zA,reduceCtorEq,zE,zB,zC,zD,zF]
  refine hΨ2' _ _ _ (by simp) (by simp) (hΨ1' _ _ _ (by simp) ?_)
  simp only[tQ,↓reduceIte,zA,reduceCtorEq,zE,zB,zC,zD,zF]
  rw[if_neg (by omega)] at hΦ
  exact hΦ
 ·by_cases h1:a≥((64*P.N:Nat):Int)
  ·simp only[tQ,↓reduceIte,zA,reduceCtorEq,zE,zB,zC,zD,zF,y2,h0,h1,decide_true,decide_false,H.l1]
   refine hR _ _ (hΨ4 _ _ ?_)
   simp only[tQ,↓reduceIte,zA,reduceCtorEq,zE,zB,zC,zD,zF]
   refine hΨ2' _ _ _ (by simp) (by simp) (hΨ1' _ _ _ (by simp) ?_)
   simp only[tQ,↓reduceIte,zA,reduceCtorEq,zE,zB,zC,zD,zF]
   rw[if_neg (by omega)] at hΦ
   exact hΦ
  ·have g1:0≤a:=by omega
   have g2:a<((64*P.N:Nat):Int):=by omega
   have l:=H.lw (i:=a.toNat) (by omega)
   simp only[tQ,↓reduceIte,zA,reduceCtorEq,zE,zB,zC,zD,zF,y2,h0,h1,decide_false,H.l1]
   refine hR _ _ (hΨ4 _ _ ?_)
   simp only[tQ,↓reduceIte,zA,reduceCtorEq,zE,zB,zC,zD,zF]
   refine hΨ2 _ _ (hΨ1 _ _ ?_)
   simp only[tQ,↓reduceIte,zA,reduceCtorEq,zE,zB,zC,zD,zF,H.l1,g1,g2,and_self,aJ,Nat.zero_add,Nat.mul_one,l]
   rw[if_pos ⟨g1,by omega⟩] at hΦ
   exact hΦ
theorem aP.setQ {s s':St} {Q':Nat→Nat} (H:aP s h P) (k:aC [P.pu] s s') (ht:gS s' P.pt P.pu (32*P.N) 1 Q'):aP s' h {P with Q:=Q'}:=by
 obtain⟨c,cb,cw,ts,tp,mp,mf,nd,n2,iJ,wr⟩:=H
 have nd':=nd
 simp only[List.nodup_cons,List.mem_cons,List.not_mem_nil,or_false,not_or,List.nodup_nil,not_false_eq_true,and_true] at nd'
 obtain⟨⟨a1,a2,a3,a4,a5,a6,a7,a8⟩,⟨b1,b2,b3,b4,b5,b6,b7⟩,⟨c1,c2,c3,c4,c5,c6⟩,⟨d1,d2,d3,d4,d5⟩,⟨e1,e2,e3,e4⟩,⟨f1,f2,f3⟩,⟨g1,g2⟩,_⟩:=nd'
 exact⟨c.aF k (by simp[a6]),cb.aF k (by simp[b5]),cw.aF k (by simp[c4]),ts.aF k (by simp[d3]) (by simp[e2]),ht,mp.aF k (by simp[Ne.symm g1]),mf.aF k (by simp[Ne.symm g2]),nd,n2,iJ,wr⟩
def PH.vI (P:PH) (a:Int) (v:Nat):PH:=if P.has a=true then {P with Q:=qS P.Q (a/2).toNat v} else P
theorem pX:type_of% (An @RX<|An @tG<|@qC):=An @RX<|An @tG<|@qC
theorem vh (hs:Ok s) (H:aP s h P) (a:Int) (ha:i64 a) {v:Nat} (hv:v<2) (hΦ:∀ s',aP s' h (P.vI a v)→aC [P.pu] s s'→Φ (int (if P.has a=true then 0 else 4)) s'):okF q X (KO kc) 153 [ptr h,int a,int v] s Φ:=by
 unfold PH.vI at hΦ
 refine aG rfl fn_153 rfl (rs:=[.tmp 6]) rfl (N:=22) rfl rfl ?_
 refine aA fun Ψ0 hΨ0 hΨ0'=>?_
 simp only[pX,↓reduceIte,zA,reduceCtorEq,zE,zB,zC,zD,zF]
 refine hΨ0 _ _ ?_
 refine aA fun Ψ1 hΨ1 hΨ1'=>?_
 refine aA fun Ψ2 hΨ2 hΨ2'=>?_
 simp only[pX,↓reduceIte,zA,reduceCtorEq,zE,zB,zC,zD,zF]
 refine aB ?_ (pA hs H a ha fun s2 k2=>?_)
 ·simp only[pX,↓reduceIte,zA,reduceCtorEq,zE,zB,zC,zD,zF]
 have H2:=H.aN k2
 cases hh:P.has a with
 | false =>
  rw[hh] at hΦ
  simp only[pX,↓reduceIte,zA,reduceCtorEq,zE,zB,zC,zD,zF]
  refine hΨ2 _ _ ?_
  simp only[pX,↓reduceIte,zA,reduceCtorEq,zE,zB,zC,zD,zF]
  refine hΨ1' _ _ _ (by simp) ?_
  simp only[pX,↓reduceIte,zA,reduceCtorEq,zE,zB,zC,zD,zF]
  exact hΦ _ H2 k2.any
 | true =>
  have hb:=PH.dT.1 hh
  have iJ:=H.iJ
  rw[hh] at hΦ
  have e2:IntKind.i64.wrap (a.tdiv 2)=a/2:=by rw[Int.tdiv_eq_ediv_of_nonneg (by omega),aR (by omega) (by omega)]
  simp only[pX,↓reduceIte,zA,reduceCtorEq,zE,zB,zC,zD,zF]
  refine hΨ2 _ _ ?_
  simp only[pX,↓reduceIte,zA,reduceCtorEq,zE,zB,zC,zD,zF]
  refine hΨ1 _ _ ?_
  refine aA fun Ψ3 hΨ3 hΨ3'=>?_
  simp only[pX,↓reduceIte,zA,reduceCtorEq,zE,zB,zC,zD,zF,H2.l3,e2]
  refine aB ?_ (DA (i:=a/2) k2.ok H2.tp (i':=(a/2).toNat) (v':=v) (by omega) rfl (by omega) (by omega) fun s3 h3 k3=>?_)
  ·simp only[pX,↓reduceIte,zA,reduceCtorEq,zE,zB,zC,zD,zF]
  try simp only[pX,↓reduceIte,zA,reduceCtorEq,zE,zB,zC,zD,zF]
  refine hΨ3 _ _ ?_
  simp only[pX,↓reduceIte,zA,reduceCtorEq,zE,zB,zC,zD,zF]
  exact hΦ _ (H2.setQ k3 h3) (k2.any.trans k3)
theorem XY:type_of% (An @RC<|An @RO<|An @RD<|An @RV<|An @RB<|@RG):=An @RC<|An @RO<|An @RD<|An @RV<|An @RB<|@RG
theorem vf (hs:Ok s) (H:aP s h P) (a:Int) (ha:i64 a) (hΦ:∀ s',aP s' h (P.vI a 1)→aC [P.pu] s s'→Φ (int (if P.has a=true then 0 else 4)) s'):okF q X (KO kc) 61 [ptr h,int a] s Φ:=by
 refine aG rfl fn_61 rfl (rs:=[.tmp 4]) rfl (N:=8) rfl rfl ?_
 refine aA fun Ψ0 hΨ0 hΨ0'=>?_
 simp only[XY,↓reduceIte,zA,reduceCtorEq,zE,zB,zC,zD,zF]
 refine hΨ0 _ _ ?_
 refine aA fun Ψ1 hΨ1 hΨ1'=>?_
 simp only[XY,↓reduceIte,zA,reduceCtorEq,zE,zB,zC,zD,zF]
 refine aB ?_ (vh hs H a ha (v:=1) (by omega) fun s2 h2 k2=>?_)
 ·simp only[XY,↓reduceIte,zA,reduceCtorEq,zE,zB,zC,zD,zF,(show ((1:Nat):Int)=1 from rfl)]
 try simp only[XY,↓reduceIte,zA,reduceCtorEq,zE,zB,zC,zD,zF]
 refine hΨ1 _ _ ?_
 simp only[XY,↓reduceIte,zA,reduceCtorEq,zE,zB,zC,zD,zF]
 exact hΦ _ h2 k2
end
open Go.Proofs
set_option maxRecDepth 100000
set_option maxHeartbeats 1000000
theorem rep_int (n:Nat):rep (Value.int .i64 0).cells.toList n=List.replicate n (int 0):=by
 induction n with
 | zero=>rfl
 | succ n ih=>rw[rep,ih];rfl
theorem Obj.store {s:St} {b i:Nat} {L vs:List Value} (h:Obj s b L) (hs:Ok s) (hi:i+vs.length≤L.length) (h1:vs.all kZ=true) :
  ∃ s',bJ s ⟨b,i,none⟩ vs=some s'∧Obj s' b (oI L i vs)∧aC [b] s s':=by
 obtain⟨e,h⟩:=h
 obtain⟨s',h1,h2,h3⟩:=h.store hs hi h1
 exact⟨s',h1,⟨e,h2⟩,h3⟩
theorem Obj.isCells {s:St} {b:Nat} {L:List Value} (h:Obj s b L):∃ c z n e room ro dF,s.look b=some (.cells c z n e room ro dF):=by
 obtain⟨e,c,z,room,dF,h1,_⟩:=h
 exact⟨_,_,_,_,_,_,_,h1⟩
namespace PH
variable (P:PH)
def wipe (a n:Int):PH:={P with w:=fun j=>if a≤j∧(j:Int)<a+n then 0 else P.w j}
def kill (a:Int):PH:={P.wipe a (P.size a) with M:=P.M.eraseP (fun p=>p.1==P.w a.toNat),S:=qS P.S (a/2).toNat 0,Q:=qS P.Q (a/2).toNat 0}
def zO (a:Int):Bool:=match P.find a with
 | some o=>decide (o+2≤a∧a<o+2+(P.shape o).r+(P.shape o).d)
 | none=>false
def ix (a:Int):Int:=if 0≤a∧a<64*P.N then(if P.zO a=true then 0 else 4) else 1
def poke (a v:Int):PH:=if P.zO a=true then P.gG a v else P
theorem xV {P:PH} {a o:Int} (h:P.find a=some o):0≤a∧a<64*P.N∧0≤o∧o≤a∧o%2=0∧a<o+P.size o∧P.has o=true:=by
 unfold find at h
 split at h
 ·rename_i hr
  cases hl:pC P.S 1 (a/2+1).toNat with
  | none=>rw[hl] at h;cases h
  | some i =>
   rw[hl] at h
   simp only at h
   split at h
   ·cases h
   ·cases h
    obtain⟨h1,h2⟩:=CB hl
    refine⟨hr.1,hr.2,by omega,by omega,by omega,by omega,dT.2 ⟨by omega,by omega,by omega,?_⟩⟩
    rw[show (2*(i:Int)/2).toNat=i by omega];omega
 ·cases h
end PH
section
variable {kc:Kc} {q:Bool} {s:St} {Φ:Value→St→Prop} {h:Nat} {P:PH}
theorem aP.nds {s:St} (H:aP s h P):(h≠P.nb∧h≠P.nw∧h≠P.st∧h≠P.su∧h≠P.pt∧h≠P.pu∧h≠P.mp∧h≠P.mf)∧(P.nb≠P.nw∧P.nb≠P.st∧P.nb≠P.su∧P.nb≠P.pt∧P.nb≠P.pu∧P.nb≠P.mp∧P.nb≠P.mf) ∧
  (P.nw≠P.st∧P.nw≠P.su∧P.nw≠P.pt∧P.nw≠P.pu∧P.nw≠P.mp∧P.nw≠P.mf)∧(P.st≠P.su∧P.st≠P.pt∧P.st≠P.pu∧P.st≠P.mp∧P.st≠P.mf)∧(P.su≠P.pt∧P.su≠P.pu∧P.su≠P.mp∧P.su≠P.mf)∧(P.pt≠P.pu∧P.pt≠P.mp∧P.pt≠P.mf)∧(P.pu≠P.mp∧P.pu≠P.mf)∧P.mp≠P.mf:=by
 have nd':=H.nd
 simp only[List.nodup_cons,List.mem_cons,List.not_mem_nil,or_false,not_or,List.nodup_nil,not_false_eq_true,and_true] at nd'
 exact nd'
theorem aP.setS {s s':St} {S':Nat→Nat} (H:aP s h P) (k:aC [P.su] s s') (ht:gS s' P.st P.su (32*P.N) 1 S'):aP s' h {P with S:=S'}:=by
 obtain⟨⟨a1,a2,a3,a4,a5,a6,a7,a8⟩,⟨b1,b2,b3,b4,b5,b6,b7⟩,⟨c1,c2,c3,c4,c5,c6⟩,⟨d1,d2,d3,d4,d5⟩,⟨e1,e2,e3,e4⟩,⟨f1,f2,f3⟩,⟨g1,g2⟩,g3⟩:=H.nds
 obtain⟨c,cb,cw,ts,tp,mp,mf,nd,n2,iJ,wr⟩:=H
 exact⟨c.aF k (by simp[a4]),cb.aF k (by simp[b3]),cw.aF k (by simp[c2]),ht,tp.aF k (by simp[Ne.symm e1]) (by simp[Ne.symm e2]),mp.aF k (by simp[Ne.symm e3]),mf.aF k (by simp[Ne.symm e4]),nd,n2,iJ,wr⟩
theorem aP.setM {s s':St} {M':List (Int×Int)} (H:aP s h P) (k:aC [P.mp] s s') (hm:fW s' P.mp (M'.map fun p=>(p.1,int p.2))):aP s' h {P with M:=M'}:=by
 obtain⟨⟨a1,a2,a3,a4,a5,a6,a7,a8⟩,⟨b1,b2,b3,b4,b5,b6,b7⟩,⟨c1,c2,c3,c4,c5,c6⟩,⟨d1,d2,d3,d4,d5⟩,⟨e1,e2,e3,e4⟩,⟨f1,f2,f3⟩,⟨g1,g2⟩,g3⟩:=H.nds
 obtain⟨c,cb,cw,ts,tp,mp,mf,nd,n2,iJ,wr⟩:=H
 exact⟨c.aF k (by simp[a7]),cb.aF k (by simp[b6]),cw.aF k (by simp[c5]),ts.aF k (by simp[d4]) (by simp[e3]),tp.aF k (by simp[f2]) (by simp[g1]),hm,mf.aF k (by simp[Ne.symm g3]),nd,n2,iJ,wr⟩
theorem aP.setWs {s s':St} {w':Nat→Int} (H:aP s h P) (k:aC [P.nw] s s') (hc:Obj s' P.nw (row (64*P.N) fun j=>int (w' j))) (hw:∀ i,i64 (w' i)):aP s' h {P with w:=w'}:=by
 obtain⟨⟨a1,a2,a3,a4,a5,a6,a7,a8⟩,⟨b1,b2,b3,b4,b5,b6,b7⟩,⟨c1,c2,c3,c4,c5,c6⟩,_⟩:=H.nds
 obtain⟨c,cb,cw,ts,tp,mp,mf,nd,n2,iJ,wr⟩:=H
 exact⟨c.aF k (by simp[a2]),cb.aF k (by simp[b1]),hc,ts.aF k (by simp[Ne.symm c1]) (by simp[Ne.symm c2]),tp.aF k (by simp[Ne.symm c3]) (by simp[Ne.symm c4]),mp.aF k (by simp[Ne.symm c5]),mf.aF k (by simp[Ne.symm c6]),nd,n2,iJ,hw⟩
theorem ct:type_of% (An @RX<|An @cE<|@cY):=An @RX<|An @cE<|@cY
theorem ni (hs:Ok s) (H:aP s h P) {a n:Int} (h0:0≤a) (hn:0<n) (h1:a+n≤64*P.N) (hΦ:∀ s',aP s' h (P.wipe a n)→aC [P.nw] s s'→Φ (.tuple #[]) s'):okF q X (KO kc) 131 [ptr h,int a,int n] s Φ:=by
 have iJ:=H.iJ
 obtain⟨a',rfl⟩:∃ a':Nat,a=a':=⟨a.toNat,by omega⟩
 obtain⟨n',rfl⟩:∃ n':Nat,n=n':=⟨n.toNat,by omega⟩
 have e1:IntKind.i64.wrap ((a':Int)+n')=((a'+n':Nat):Int):=by rw[aR (by omega) (by omega)];rfl
 have e2:=LP (X:=X) (H:=s.look) (t:=62) (e:=3) (N:=1) (b:=P.nw) (off:=0) (n:=64*P.N) (c:=64*P.N) (l:=a') (h:=a'+n') (by kernel_rfl) (by kernel_rfl) H.cw.isCells (by omega) (by omega) (by omega)
 obtain⟨s',h2,h3,h4⟩:=H.cw.store hs (i:=a') (vs:=List.replicate n' (int 0)) (by rw[bI,List.length_replicate];omega) (by rw[List.all_replicate];simp;right;rfl)
 have h5:qZ X s #[62] [.slice (some ⟨P.nw,a',none⟩) n' (64*P.N-a')]=some (.tuple #[],s'):=sv (z:=.int .i64 0) (e:=3) (by kernel_rfl) (by kernel_rfl) (by omega) (by rw[rep_int];exact h2)
 refine aG rfl fn_131 rfl (rs:=[]) rfl (N:=15) rfl rfl ?_
 simp only[ct,↓reduceIte,zA,reduceCtorEq,zE,zB,zC,zD,zF,H.l1,e1,e2,Nat.mul_one,Nat.zero_add]
 refine yj ?_ h5 ?_
 ·simp only[ct,↓reduceIte,zA,reduceCtorEq,zE,zB,zC,zD,zF,Nat.add_sub_cancel_left]
 simp only[ct,↓reduceIte,zA,reduceCtorEq,zE,zB,zC,zD,zF]
 refine hΦ _ (H.setWs h4 ?_ fun j=>?_) h4
 ·have hrow:oI (row (64*P.N) fun i=>int (P.w i)) a' (List.replicate n' (int 0))=row (64*P.N) fun j=>int (if (a':Int)≤j∧(j:Int)<a'+n' then 0 else P.w j):=by
   refine yP (by rw[jW (by rw[bI,List.length_replicate];omega),bI]) fun j hj=>?_
   rw[oJ (by rw[bI,List.length_replicate];omega),List.length_replicate]
   by_cases hc:a'≤j∧j<a'+n'
   ·rw[if_pos hc,List.getElem?_replicate,if_pos (by omega),if_pos (by omega)]
   ·rw[if_neg hc,fB _ hj,if_neg (by omega)]
  rw[hrow] at h3
  exact h3
 ·show i64 (if (a':Int)≤j∧(j:Int)<a'+n' then 0 else P.w j)
  split
  ·exact⟨by omega,by omega⟩
  ·exact H.wr j
theorem del_map (s:St) (r:Nat) (k:Int):mZ X s #[136,3] [.map (some r),int k]=(match s.heap.get r with
  | some (.map es c _)=>(match kH (int k) es 0 with
   | some (some (i,_))=>some (.tuple #[],s.put r fun v=>.map (es.eraseIdx i) c v)
   | some none=>some (.tuple #[],s)
   | none=>none)
  | _=>none):=by kernel_rfl
theorem NV:∀ {es:List MapEntry} {M:List (Int×Value)} {k:Int} {i i0:Nat} {v:Value},es.map (fun e=>(e.key,e.val))=M.map (fun p=>(int p.1,p.2))→kH (int k) es i0=some (some (i,v)) →
  i0≤i∧(es.eraseIdx (i-i0)).map (fun e=>(e.key,e.val))=(M.eraseP fun p=>p.1==k).map (fun p=>(int p.1,p.2))
 | [],M,k,i,i0,v,h,hf=>by simp[kH] at hf
 | e::es,[],k,i,i0,v,h,hf=>by simp at h
 | e::es,(x,u)::M,k,i,i0,v,h,hf=>by
  simp only[List.map_cons,List.cons.injEq,Prod.mk.injEq] at h
  obtain⟨⟨h1,h2⟩,h3⟩:=h
  rw[kH,h1] at hf
  simp only[vH,if_true] at hf
  cases hb:(k==x) with
  | true =>
   rw[hb] at hf
   simp only[Option.some.injEq,Prod.mk.injEq] at hf
   obtain⟨rfl,_⟩:=hf
   have hk:k=x:=by simpa using hb
   subst hk
   refine⟨Nat.le_refl _,?_⟩
   rw[Nat.sub_self,List.eraseIdx_zero,List.eraseP_cons_of_pos (by simp)]
   exact h3
  | false =>
   rw[hb] at hf
   obtain⟨k1,k2⟩:=NV h3 hf
   refine⟨by omega,?_⟩
   have hne:¬ (x==k)=true:=by
    intro e
    have:x=k:=by simpa using e
    subst this;simp at hb
   rw[show i-i0=(i-(i0+1))+1 by omega,List.eraseIdx_cons_succ,List.eraseP_cons_of_neg (p:=fun p=>p.1==k) (a:=(x,u)) hne,List.map_cons,List.map_cons,k2,h1,h2]
theorem UR {M:List (Int×Value)} {k:Int} (h:M.lookup k=none):M.eraseP (fun p=>p.1==k)=M:=by
 induction M with
 | nil=>rfl
 | cons p M ih =>
  rcases p with ⟨x,v⟩
  rw[List.lookup_cons] at h
  cases hb:(k==x) with
  | true=>rw[hb] at h;cases h
  | false =>
   rw[hb] at h
   have hne:¬ (x==k)=true:=by
    intro e
    have:x=k:=by simpa using e
    subst this;simp at hb
   rw[List.eraseP_cons_of_neg (p:=fun p=>p.1==k) (a:=(x,v)) hne,ih h]
theorem eraseP_map {M:List (Int×Int)} {k:Int}:(M.map fun p=>(p.1,int p.2)).eraseP (fun p=>p.1==k)=(M.eraseP fun p=>p.1==k).map fun p=>(p.1,int p.2):=by
 induction M with
 | nil=>rfl
 | cons p M ih =>
  rw[List.map_cons]
  by_cases hb:(p.1==k)=true
  ·rw[List.eraseP_cons_of_pos (by exact hb),List.eraseP_cons_of_pos (by exact hb)]
  ·rw[List.eraseP_cons_of_neg (by exact hb),List.eraseP_cons_of_neg (by exact hb),List.map_cons,ih]
theorem aP.del (hs:Ok s) (H:aP s h P) (k:Int):∃ s',mZ X s #[136,3] [.map (some P.mp),int k]=some (.tuple #[],s')∧aP s' h {P with M:=P.M.eraseP fun p=>p.1==k}∧aC [P.mp] s s':=by
 obtain⟨es,cM,dF,h1,h2,h2b⟩:=H.mp
 rw[del_map,h1]
 simp only
 cases hl:(P.M.map fun p=>(p.1,int p.2)).lookup k with
 | none =>
  rw[rD h2 hl]
  refine⟨s,rfl,?_,.refl hs⟩
  have:=UR hl
  rw[eraseP_map] at this
  exact H.setM (.refl hs) ⟨es,cM,dF,h1,by rw[this];exact h2,h2b⟩
 | some v =>
  obtain⟨j,hj,_⟩:=AD (i:=0) h2 hl
  rw[hj]
  obtain⟨_,k2⟩:=NV h2 hj
  have kk:aC [P.mp] s (s.put P.mp fun v=>.map (es.eraseIdx (0+j)) cM v):=.uU hs h1 (.inr (Nat.le_refl _)) (List.mem_singleton.2 rfl)
  refine⟨_,rfl,H.setM kk ⟨es.eraseIdx (0+j),cM,s.cM,by simp only[St.put,PT.bU,if_true],?_,fun e he=>h2b e (List.mem_of_mem_eraseIdx he)⟩,kk⟩
  rw[Nat.sub_zero] at k2
  rw[k2,eraseP_map]
theorem kJ:type_of% (An @RX<|An @rC<|An @AL<|An @cE<|An @cY<|An @dO<|An @bF<|An @jQ<|An @qC<|@tG):=An @RX<|An @rC<|An @AL<|An @cE<|An @cY<|An @dO<|An @bF<|An @jQ<|An @qC<|@tG
theorem mw (hs:Ok s) (H:aP s h P) (G:P.cZ) (a:Int) (ha:i64 a) (hΦ:∀ s',aP s' h (if P.has a=true then P.kill a else P)→aC [P.nw,P.su,P.pu,P.mp] s s'→Φ (int (if P.has a=true then 0 else 4)) s'):okF q X (KO kc) 44 [ptr h,int a] s Φ:=by
 refine aG rfl fn_44 rfl (rs:=[.tmp 4]) rfl (N:=43) rfl rfl ?_
 refine aA fun Ψ0 hΨ0 hΨ0'=>?_
 simp only[kJ,↓reduceIte,zA,reduceCtorEq,zE,zB,zC,zD,zF]
 refine hΨ0 _ _ ?_
 refine aA fun Ψ1 hΨ1 hΨ1'=>?_
 refine aA fun Ψ2 hΨ2 hΨ2'=>?_
 simp only[kJ,↓reduceIte,zA,reduceCtorEq,zE,zB,zC,zD,zF]
 refine aB ?_ (pA hs H a ha fun s2 k2=>?_)
 ·simp only[kJ,↓reduceIte,zA,reduceCtorEq,zE,zB,zC,zD,zF]
 have H2:=H.aN k2
 cases hh:P.has a with
 | false =>
  rw[hh] at hΦ
  simp only[kJ,↓reduceIte,zA,reduceCtorEq,zE,zB,zC,zD,zF]
  refine hΨ2 _ _ ?_
  simp only[kJ,↓reduceIte,zA,reduceCtorEq,zE,zB,zC,zD,zF]
  refine hΨ1' _ _ _ (by simp) ?_
  simp only[kJ,↓reduceIte,zA,reduceCtorEq,zE,zB,zC,zD,zF]
  exact hΦ _ H2 k2.any
 | true =>
  have hb:=PH.dT.1 hh
  obtain⟨v1,v2⟩:=G.val a hh
  have hw:=iV.eD v1
  have iJ:=H.iJ
  rw[hh] at hΦ
  have g1:0≤a:=hb.1
  have g2:a<((64*P.N:Nat):Int):=by omega
  have e2:IntKind.i64.wrap (a.tdiv 2)=a/2:=by rw[Int.tdiv_eq_ediv_of_nonneg (by omega),aR (by omega) (by omega)]
  have k2s:aC [] s (s2.skip 24):=k2.cB _
  have H2s:=H.aN k2s
  have l:=H2s.lw (i:=a.toNat) (by omega)
  obtain⟨s3,h3,H3,k3⟩:=H2s.del k2s.ok (P.w a.toNat)
  simp only[kJ,↓reduceIte,zA,reduceCtorEq,zE,zB,zC,zD,zF]
  refine hΨ2 _ _ ?_
  simp only[kJ,↓reduceIte,zA,reduceCtorEq,zE,zB,zC,zD,zF]
  refine hΨ1 _ _ ?_
  refine aA fun Ψ3 hΨ3 hΨ3'=>?_
  refine aQ [] [] [] (by kernel_rfl) (by kernel_rfl) (by rfl) fun O hO ΨR hR=>?_
  rw[qU] at l
  simp only[kJ,↓reduceIte,zA,reduceCtorEq,zE,zB,zC,zD,zF,H2.l4,H2.l1,g1,g2,and_self,aJ,Nat.zero_add,Nat.mul_one,l]
  refine d_delx ?_ h3 ?_ ?_
  ·simp only[kJ,↓reduceIte,zA,reduceCtorEq,zE,zB,zC,zD,zF]
  ·simp only[kJ,↓reduceIte,zA,reduceCtorEq,zE,zB,zC,zD,zF]
  simp only[kJ,↓reduceIte,zA,reduceCtorEq,zE,zB,zC,zD,zF]
  refine hR _ _ (hΨ3 _ _ ?_)
  refine aA fun Ψ4 hΨ4 hΨ4'=>?_
  simp only[kJ,↓reduceIte,zA,reduceCtorEq,zE,zB,zC,zD,zF,H3.l2,e2]
  refine aB ?_ (DA (i:=a/2) (v:=0) k3.ok H3.ts (i':=(a/2).toNat) (v':=0) (by omega) rfl (show (a/2).toNat<32*P.N by omega) (by omega) fun s4 h4 k4=>?_)
  ·simp only[kJ,↓reduceIte,zA,reduceCtorEq,zE,zB,zC,zD,zF]
  have H4:=H3.setS k4 h4
  try simp only[kJ,↓reduceIte,zA,reduceCtorEq,zE,zB,zC,zD,zF]
  refine hΨ4 _ _ ?_
  refine aA fun Ψ5 hΨ5 hΨ5'=>?_
  simp only[kJ,↓reduceIte,zA,reduceCtorEq,zE,zB,zC,zD,zF,H4.l3,e2]
  refine aB ?_ (DA (i:=a/2) (v:=0) k4.ok H4.tp (i':=(a/2).toNat) (v':=0) (by omega) rfl (show (a/2).toNat<32*P.N by omega) (by omega) fun s5 h5 k5=>?_)
  ·simp only[kJ,↓reduceIte,zA,reduceCtorEq,zE,zB,zC,zD,zF]
  have H5:=H4.setQ k5 h5
  try simp only[kJ,↓reduceIte,zA,reduceCtorEq,zE,zB,zC,zD,zF]
  refine hΨ5 _ _ ?_
  refine aA fun Ψ6 hΨ6 hΨ6'=>?_
  simp only[kJ,↓reduceIte,zA,reduceCtorEq,zE,zB,zC,zD,zF]
  have hv2:a+(P.shape a).words≤64*P.N:=v2
  refine aB ?_ (OE k5.ok H5 (a:=a) g1 (show a+1<64*(P.N:Int) by omega) fun s6 k6=>?_)
  ·simp only[kJ,↓reduceIte,zA,reduceCtorEq,zE,zB,zC,zD,zF]
  have H6:=H5.aN k6
  try simp only[kJ,↓reduceIte,zA,reduceCtorEq,zE,zB,zC,zD,zF]
  refine aB ?_ (ni k6.ok H6 (a:=a) (n:=P.size a) g1 (show 0<(P.shape a).words by omega) hv2 fun s7 H7 k7=>?_)
  ·simp only[kJ,↓reduceIte,zA,reduceCtorEq,zE,zB,zC,zD,zF,PH.size,PH.shape]
  try simp only[kJ,↓reduceIte,zA,reduceCtorEq,zE,zB,zC,zD,zF]
  refine hΨ6 _ _ ?_
  simp only[kJ,↓reduceIte,zA,reduceCtorEq,zE,zB,zC,zD,zF]
  refine hΦ s7 ?_ ?_
  ·rw[if_pos rfl];exact H7
  ·have q1:aC [P.nw,P.su,P.pu,P.mp] s s3:=k2s.any.trans (k3.mono (by simp))
   have q2:aC [P.nw,P.su,P.pu,P.mp] s3 s5:=(k4.mono (by simp)).trans (k5.mono (by simp))
   have q3:aC [P.nw,P.su,P.pu,P.mp] s5 s7:=k6.any.trans (k7.mono (by simp))
   exact(q1.trans q2).trans q3
theorem iF:type_of% (An @RX<|An @cE<|An @cY<|An @dO<|An @bF<|An @kA<|An @kI<|An @eC<|An @fX<|@rV):=An @RX<|An @cE<|An @cY<|An @dO<|An @bF<|An @kA<|An @kI<|An @eC<|An @fX<|@rV
theorem mz (hs:Ok s) (H:aP s h P) (G:P.cZ) (a v:Int) (hv:i64 v) (hΦ:∀ s',aP s' h (P.poke a v)→aC [P.nw] s s'→Φ (int (P.ix a)) s'):okF q X (KO kc) 16 [ptr h,int a,int v] s Φ:=by
 have iJ:=H.iJ
 unfold PH.poke PH.ix at hΦ
 refine aG rfl fn_16 rfl (rs:=[.tmp 6]) rfl (N:=62) rfl rfl ?_
 refine aA fun Ψ0 hΨ0 hΨ0'=>?_
 simp only[iF,↓reduceIte,zA,reduceCtorEq,zE,zB,zC,zD,zF]
 refine hΨ0 _ _ ?_
 refine aA fun Ψ1 hΨ1 hΨ1'=>?_
 refine aA fun Ψ2 hΨ2 hΨ2'=>?_
 simp only[iF,↓reduceIte,zA,reduceCtorEq,zE,zB,zC,zD,zF]
 refine aB ?_ (OD hs H a ?_)
 ·simp only[iF,↓reduceIte,zA,reduceCtorEq,zE,zB,zC,zD,zF]
 by_cases ha:0≤a∧a<64*(P.N:Int)
 rotate_left
 ·have hp:P.zO a=false:=by
   unfold PH.zO
   cases hf:P.find a with
   | none=>rfl
   | some o=>exact absurd ⟨(PH.xV hf).1,(PH.xV hf).2.1⟩ ha
  rw[hp] at hΦ
  rw[if_neg ha] at hΦ ⊢
  simp only[iF,↓reduceIte,zA,reduceCtorEq,zE,zB,zC,zD,zF]
  refine hΨ2 _ _ ?_
  simp only[iF,↓reduceIte,zA,reduceCtorEq,zE,zB,zC,zD,zF]
  refine hΨ1' _ _ _ (by simp) ?_
  simp only[iF,↓reduceIte,zA,reduceCtorEq,zE,zB,zC,zD,zF]
  exact hΦ _ H (.refl hs)
 rw[if_pos ha] at hΦ ⊢
 simp only[iF,↓reduceIte,zA,reduceCtorEq,zE,zB,zC,zD,zF]
 refine hΨ2 _ _ ?_
 simp only[iF,↓reduceIte,zA,reduceCtorEq,zE,zB,zC,zD,zF]
 refine hΨ1 _ _ ?_
 refine aA fun Ψ3 hΨ3 hΨ3'=>?_
 simp only[iF,↓reduceIte,zA,reduceCtorEq,zE,zB,zC,zD,zF]
 refine aB ?_ (xX hs H a fun s2 k2=>?_)
 ·simp only[iF,↓reduceIte,zA,reduceCtorEq,zE,zB,zC,zD,zF]
 have H2:=H.aN k2
 cases hf:P.find a with
 | none =>
  have hp:P.zO a=false:=by unfold PH.zO;rw[hf]
  rw[hp] at hΦ
  unfold MX
  simp only[iF,↓reduceIte,zA,reduceCtorEq,zE,zB,zC,zD,zF]
  refine hΨ3 _ _ ?_
  refine aA fun Ψ4 hΨ4 hΨ4'=>?_
  refine aA fun Ψ5 hΨ5 hΨ5'=>?_
  simp only[iF,↓reduceIte,zA,reduceCtorEq,zE,zB,zC,zD,zF]
  refine hΨ5 _ _ ?_
  simp only[iF,↓reduceIte,zA,reduceCtorEq,zE,zB,zC,zD,zF]
  refine hΨ4' _ _ _ (by simp) ?_
  simp only[iF,↓reduceIte,zA,reduceCtorEq,zE,zB,zC,zD,zF]
  exact hΦ _ H2 k2.any
 | some o =>
  obtain⟨f1,f2,f3,f4,f5,f6,f7⟩:=PH.xV hf
  obtain⟨v1,v2⟩:=G.val o f7
  have hv1:=iV.dX.1 v1
  have hp:P.zO a=decide (o+2≤a∧a<o+2+(P.shape o).r+(P.shape o).d):=by unfold PH.zO;rw[hf]
  have e1:IntKind.i64.wrap (o+1)=o+1:=aR (by omega) (by omega)
  have g1:0≤o+1:=by omega
  have g2:o+1<((64*P.N:Nat):Int):=by omega
  have l:=H2.lw (i:=(o+1).toNat) (by omega)
  unfold MX
  simp only[iF,↓reduceIte,zA,reduceCtorEq,zE,zB,zC,zD,zF]
  refine hΨ3 _ _ ?_
  refine aA fun Ψ4 hΨ4 hΨ4'=>?_
  refine aA fun Ψ5 hΨ5 hΨ5'=>?_
  simp only[iF,↓reduceIte,zA,reduceCtorEq,zE,zB,zC,zD,zF]
  refine hΨ5 _ _ ?_
  simp only[iF,↓reduceIte,zA,reduceCtorEq,zE,zB,zC,zD,zF]
  refine hΨ4 _ _ ?_
  refine aA fun Ψ6 hΨ6 hΨ6'=>?_
  simp only[iF,↓reduceIte,zA,reduceCtorEq,zE,zB,zC,zD,zF,H2.l1,e1,g1,g2,and_self,aJ,Nat.zero_add,Nat.mul_one,l]
  refine aB ?_ (uF k2.ok (P.w (o+1).toNat) (H.wr _) fun s3 k3=>?_)
  ·simp only[iF,↓reduceIte,zA,reduceCtorEq,zE,zB,zC,zD,zF]
  simp only[iF,↓reduceIte,zA,reduceCtorEq,zE,zB,zC,zD,zF]
  obtain⟨s4,e4,k4,c4,_⟩:=aT k3.ok (L:=[int 0,int 0,int 0]) (n:=3) (e:=44) rfl
  rw[e4]
  obtain⟨s5,h5,c5,k5⟩:=c4.storeAll k4.ok (vs:=[int (qD (P.w (o+1).toNat)).r,int (qD (P.w (o+1).toNat)).d,int (qD (P.w (o+1).toNat)).k]) rfl rfl
  have k6:aC [] s s5:=(k2.trans (k3.trans k4)).step k5 fun g hg=>.inr (by rw[List.mem_singleton.1 hg];exact hs.fresh _ (k2.trans k3).next)
  simp only[iF,↓reduceIte,zA,reduceCtorEq,zE,zB,zC,zD,zF,h5]
  refine hΨ6 _ _ ?_
  have H5:=H.aN k6
  have lr:aI s5.look ⟨s3.next,0,none⟩=some (int (P.shape o).r):=c5.load rfl
  have ld:aI s5.look ⟨s3.next,1,none⟩=some (int (P.shape o).d):=c5.load rfl
  have w1:IntKind.i64.wrap (o+2)=o+2:=aR (by omega) (by omega)
  have w2:IntKind.i64.wrap (o+2+(P.shape o).r)=o+2+(P.shape o).r:=aR (by omega) (by omega)
  have w3:IntKind.i64.wrap (o+2+(P.shape o).r+(P.shape o).d)=o+2+(P.shape o).r+(P.shape o).d:=aR (by omega) (by omega)
  refine aA fun Ψ7 hΨ7 hΨ7'=>?_
  refine aA fun Ψ8 hΨ8 hΨ8'=>?_
  refine aH [(4,43)] (by kernel_rfl) fun O hO ΨR hR=>?_
  have y4:∀ a,aE O a 4=aM (a.aD 43):=hO (4,43) (by simp)
  by_cases i0:a<o+2
  ·rw[hp,decide_eq_false (by omega)] at hΦ
   simp only[iF,↓reduceIte,zA,reduceCtorEq,zE,zB,zC,zD,zF,y4,w1,i0,decide_true]
   refine hR _ _ (hΨ8 _ _ ?_)
   simp only[iF,↓reduceIte,zA,reduceCtorEq,zE,zB,zC,zD,zF]
   refine hΨ7' _ _ _ (by simp) ?_
   simp only[iF,↓reduceIte,zA,reduceCtorEq,zE,zB,zC,zD,zF]
   exact hΦ _ H5 k6.any
  ·by_cases i1:a≥o+2+(P.shape o).r+(P.shape o).d
   ·rw[hp,decide_eq_false (by omega)] at hΦ
    simp only[iF,↓reduceIte,zA,reduceCtorEq,zE,zB,zC,zD,zF,y4,w1,w2,w3,lr,ld,i0,i1,decide_true,decide_false,Nat.zero_add]
    refine hR _ _ (hΨ8 _ _ ?_)
    simp only[iF,↓reduceIte,zA,reduceCtorEq,zE,zB,zC,zD,zF]
    refine hΨ7' _ _ _ (by simp) ?_
    simp only[iF,↓reduceIte,zA,reduceCtorEq,zE,zB,zC,zD,zF]
    exact hΦ _ H5 k6.any
   ·rw[hp,decide_eq_true (by omega)] at hΦ
    obtain⟨s7,h7,H7,k7⟩:=H5.SZ k6.ok (i:=a) (v:=v) (by omega) (by omega) hv
    have q1:0≤a:=by omega
    have q2:a<((64*P.N:Nat):Int):=by omega
    simp only[iF,↓reduceIte,zA,reduceCtorEq,zE,zB,zC,zD,zF,y4,w1,w2,w3,lr,ld,i0,i1,decide_false,Nat.zero_add]
    refine hR _ _ (hΨ8 _ _ ?_)
    simp only[iF,↓reduceIte,zA,reduceCtorEq,zE,zB,zC,zD,zF]
    refine hΨ7 _ _ ?_
    simp only[iF,↓reduceIte,zA,reduceCtorEq,zE,zB,zC,zD,zF,H5.l1,q1,q2,and_self,aJ,Nat.zero_add,Nat.mul_one,h7]
    exact hΦ _ H7 (k6.any.trans k7)
end
end Go.Dust
