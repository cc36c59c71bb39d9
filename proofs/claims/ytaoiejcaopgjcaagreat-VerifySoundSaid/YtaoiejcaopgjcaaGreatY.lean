/- VerifySound walked in D, function by function, and its plain law (L1 L2 L3). -/
import Derived.Test.YtaoiejcaopgjcaaGreatX
set_option linter.unusedVariables false
set_option linter.unusedSimpArgs false
open Nat renaming reduceEqDiff → zA, reduceMul → zB, reduceAdd → zC, reduceBEq → zD
open Int renaming reduceEq → zE, reduceBEq → zF
namespace Go.Dust
open Go.Proofs
set_option maxRecDepth 100000
set_option maxHeartbeats 1000000
namespace PH
variable (P:PH)
def lD (a:Int):iV:=if P.has a=true then P.shape a else⟨0,0,0⟩
def cA (a:Int):Nat:=(P.lD a).r.toNat
def ref (a i:Int):Int:=if P.mH a i false=0 then P.w (P.sT a i false).toNat else 0
def refs (a:Int):List Int:=(List.range (P.cA a)).map fun(i:Nat)=>P.ref a i
def soft (k i:Int):Bool:=((i==0)&&((k==1)||(k==2)))||((i==1)&&(k==2))
theorem OZ {P:PH} (G:P.cZ) (a:Int):0≤(P.lD a).r∧(P.lD a).r≤15:=by
 unfold lD
 split
 ·rename_i h
  have:=iV.dX.1 (G.val a h).1
  omega
 ·simp
end PH
section
variable {kc:Kc} {q:Bool} {s:St} {Φ:Value→St→Prop} {h:Nat} {P:PH}
theorem mS (hs:Ok s) (H:aP s h P) (a:Int) (ha:i64 a) (hΦ:∀ s',aC [] s s'→Φ (.tuple #[jL (P.lD a),int (if P.has a=true then 0 else 4)]) s'):okF q X (KO kc) 13 [ptr h,int a] s Φ:=by
 refine ZN hs H a ha fun s' k=>?_
 have:=hΦ s' k
 unfold PH.lD at this
 split
 ·rename_i hh;rw[if_pos hh,if_pos hh] at this;exact this
 ·rename_i hh;rw[if_neg hh,if_neg hh] at this;exact this
theorem DQ (hs:Ok s) (H:aP s h P) (G:P.cZ) (a i:Int) (ha:i64 a) (hΦ:∀ s',aC [] s s'→Φ (.tuple #[int (P.ref a i),int (P.mH a i false)]) s'):okF q X (KO kc) 41 [ptr h,int a,int i] s Φ:=vg hs H G a i ha hΦ
theorem AQ:type_of% (An @RX<|An @kA<|An @kI<|An @kG<|@bF):=An @RX<|An @kA<|An @kI<|An @kG<|@bF
theorem bl (hs:Ok s) (H:aP s h P) (a:Int) (ha:i64 a) (hΦ:∀ s',aC [] s s'→Φ (int (P.lD a).k) s'):okF q X (KO kc) 109 [ptr h,int a] s Φ:=by
 refine aG rfl fn_109 rfl (rs:=[.tmp 4]) rfl (N:=15) rfl rfl ?_
 refine aA fun Ψ0 hΨ0 hΨ0'=>?_
 simp only[AQ,↓reduceIte,zA,reduceCtorEq,zE,zB,zC,zD,zF]
 refine hΨ0 _ _ ?_
 refine aA fun Ψ1 hΨ1 hΨ1'=>?_
 simp only[AQ,↓reduceIte,zA,reduceCtorEq,zE,zB,zC,zD,zF]
 refine aB ?_ (mS hs H a ha fun s2 k2=>?_)
 ·simp only[AQ,↓reduceIte,zA,reduceCtorEq,zE,zB,zC,zD,zF]
 obtain⟨s3,e3,k3,c3,n3⟩:=aT k2.ok (L:=[int 0,int 0,int 0]) (n:=3) (e:=44) rfl
 obtain⟨s4,e4,c4,k4⟩:=c3.storeAll k3.ok (vs:=[int (P.lD a).r,int (P.lD a).d,int (P.lD a).k]) rfl rfl
 have k34:aC [] s2 s4:=k3.step k4 fun g hg=>.inr (by rw[List.mem_singleton.1 hg];exact k2.ok.fresh _ (Nat.le_refl _))
 simp only[AQ,↓reduceIte,zA,reduceCtorEq,zE,zB,zC,zD,zF]
 rw[e3,e4]
 simp only[AQ,↓reduceIte,zA,reduceCtorEq,zE,zB,zC,zD,zF]
 refine hΨ1 _ _ ?_
 refine aA fun Ψ2 hΨ2 hΨ2'=>?_
 have l2:aI s4.look ⟨s2.next,2,none⟩=some (int (P.lD a).k):=c4.load rfl
 simp only[AQ,↓reduceIte,zA,reduceCtorEq,zE,zB,zC,zD,zF,l2]
 refine hΨ2 _ _ ?_
 simp only[AQ,↓reduceIte,zA,reduceCtorEq,zE,zB,zC,zD,zF]
 exact hΦ _ (k2.trans k34)
theorem cp:type_of% (An @RC<|An @RO<|An @RD<|An @RV<|An @RB<|@RG):=An @RC<|An @RO<|An @RD<|An @RV<|An @RB<|@RG
theorem KT (k i:Int) (hΦ:Φ (.bool (PH.soft k i)) s):okF q X (KO kc) 110 [int k,int i] s Φ:=by
 refine aG rfl fn_110 rfl (rs:=[.tmp 4]) rfl (N:=23) rfl rfl ?_
 refine aA fun Ψ0 hΨ0 hΨ0'=>?_
 simp only[cp,↓reduceIte,zA,reduceCtorEq,zE,zB,zC,zD,zF]
 refine hΨ0 _ _ ?_
 refine aA fun Ψ1 hΨ1 hΨ1'=>?_
 refine aH [(2,7),(5,10),(10,15),(13,18)] (by kernel_rfl) fun O hO ΨR hR=>?_
 have y2:∀ a,aE O a 2=aM (a.aD 7):=hO (2,7) (by simp)
 have y5:∀ a,aE O a 5=aM (a.aD 10):=hO (5,10) (by simp)
 have y10:∀ a,aE O a 10=aM (a.aD 15):=hO (10,15) (by simp)
 have y13:∀ a,aE O a 13=aM (a.aD 18):=hO (13,18) (by simp)
 unfold PH.soft at hΦ
 cases b0:(i==0) <;> cases b1:(i==1) <;> cases b2:(k==1) <;> cases b3:(k==2)
 all_goals
  rw[b0,b1,b2,b3] at hΦ
  simp only[cp,↓reduceIte,zA,reduceCtorEq,zE,zB,zC,zD,zF,y2,y5,y10,y13,b0,b1,b2,b3]
  refine hR _ _ (hΨ1 _ _ ?_)
  simp only[cp,↓reduceIte,zA,reduceCtorEq,zE,zB,zC,zD,zF]
  exact hΦ
theorem iP:type_of% (An @RX<|An @kA<|An @kI<|An @eC<|An @bF<|@eG):=An @RX<|An @kA<|An @kI<|An @eC<|An @bF<|@eG
theorem uS (hs:Ok s) (H:aP s h P) (G:P.cZ) (a:Int) (ha:i64 a) (hΦ:∀ v s',kL s' 3 1 v ((P.refs a).map int)→(∃ aa c,v=.slice aa (P.cA a) c)→(∀ b∈nameOf v,s.next≤b)→aC [] s s'→Φ v s'):okF q X (KO kc) 63 [ptr h,int a] s Φ:=by
 obtain⟨g0,g15⟩:=PH.OZ G a
 have hn:((P.cA a:Nat):Int)=(P.lD a).r:=by unfold PH.cA;omega
 refine aG rfl fn_63 rfl (rs:=[.tmp 4]) rfl (N:=38) rfl rfl ?_
 refine aA fun Ψ0 hΨ0 hΨ0'=>?_
 simp only[iP,↓reduceIte,zA,reduceCtorEq,zE,zB,zC,zD,zF]
 refine hΨ0 _ _ ?_
 refine aA fun Ψ1 hΨ1 hΨ1'=>?_
 simp only[iP,↓reduceIte,zA,reduceCtorEq,zE,zB,zC,zD,zF]
 refine aB ?_ (mS hs H a ha fun s2 k2=>?_)
 ·simp only[iP,↓reduceIte,zA,reduceCtorEq,zE,zB,zC,zD,zF]
 obtain⟨s3,e3,k3,c3,n3⟩:=aT k2.ok (L:=[int 0,int 0,int 0]) (n:=3) (e:=44) rfl
 obtain⟨s4,e4,c4,k4⟩:=c3.storeAll k3.ok (vs:=[int (P.lD a).r,int (P.lD a).d,int (P.lD a).k]) rfl rfl
 have k34:aC [] s2 s4:=k3.step k4 fun g hg=>.inr (by rw[List.mem_singleton.1 hg];exact k2.ok.fresh _ (Nat.le_refl _))
 have k04:=k2.trans k34
 simp only[iP,↓reduceIte,zA,reduceCtorEq,zE,zB,zC,zD,zF]
 rw[e3,e4]
 simp only[iP,↓reduceIte,zA,reduceCtorEq,zE,zB,zC,zD,zF]
 refine hΨ1 _ _ ?_
 refine aA fun Ψ2 hΨ2 hΨ2'=>?_
 have l0:aI s4.look ⟨s2.next,0,none⟩=some (int (P.lD a).r):=c4.load rfl
 simp only[iP,↓reduceIte,zA,reduceCtorEq,zE,zB,zC,zD,zF,l0,← hn,FR (nm:=s4.next) (n:=(0:Int)) (m:=((P.cA a:Nat):Int)) (by omega) (by omega) (by omega) (by omega),Int.toNat_natCast]
 refine hΨ2 _ _ ?_
 obtain⟨s5,e5,k5,b5,n5⟩:∃ S,(s4.new fun v=>bX.cells PT.nil [Value.int IntKind.i64 0] (P.cA a*1) 3 false false v)=S∧aC [] s4 S∧kL S 3 1 (.slice (some ⟨s4.next,0,none⟩) 0 (P.cA a)) []∧S.next=s4.next+2 :=
  ⟨_,rfl,(aC.refl k04.ok).new (.inr (Nat.le_refl _)),.own (Cells.kY (s:=s4) (x:=s4.next) (z:=[int 0]) (n:=P.cA a)) (by simp) (Nat.zero_le _) rfl (by simp),rfl⟩
 rw[e5]
 have k05:=k04.trans k5
 have l5:aI s5.look ⟨s2.next,0,none⟩=some (int (P.lD a).r):=(c4.aF k5 (by simp)).load rfl
 refine aA fun Ψ3 hΨ3 hΨ3'=>?_
 refine aA fun Ψ4 hΨ4 hΨ4'=>?_
 simp only[iP,↓reduceIte,zA,reduceCtorEq,zE,zB,zC,zD,zF,l5,← hn]
 refine hΨ4 _ _ ?_
 have n04:=k04.next
 refine aL fun Ψ6 hΨ6 hΨ6e hΨ6'=>?_
 refine dP (n:=P.cA a) (fun j a' s'=>∃ aa n c,a'.aD 0=ptr h∧a'.aD 1=int a∧a'.aD 7=.slice aa n c∧n=j∧kL s' 3 1 (.slice aa n c) (((P.refs a).take j).map int)∧(∀ b∈nameOf (.slice aa n c),s.next≤b)∧a'.aD 21=int (P.cA a)∧a'.aD 22=int j∧aC [] s s')
  (fun j a' s'=>∃ aa n c,a'.aD 0=ptr h∧a'.aD 1=int a∧a'.aD 7=.slice aa n c∧n=j+1∧kL s' 3 1 (.slice aa n c) (((P.refs a).take (j+1)).map int)∧(∀ b∈nameOf (.slice aa n c),s.next≤b)∧a'.aD 21=int (P.cA a)∧a'.aD 22=int j∧aC [] s s') ?_ ?_ ?_ ?_ (Nat.zero_le _) ?_
 ·rintro j a' s' hj ⟨aa,n,c,r0,r1,r7,hnj,hb,hnm,r21,r22,hk⟩ Ψ' hΨ'
  simp only[iP,↓reduceIte,zA,reduceCtorEq,zE,zB,zC,zD,zF,r21,r22]
  refine hΨ' _ _ (decide ((j:Int)<P.cA a)) ?_ (by simp) ⟨aa,n,c,?_,?_,?_,hnj,hb,hnm,?_,?_,hk⟩
  all_goals simp only[iP,↓reduceIte,zA,reduceCtorEq,zE,zB,zC,zD,zF,r0,r1,r7,r21,r22]
 ·rintro j a' s' hj ⟨aa,n,c,r0,r1,r7,hnj,hb,hnm,r21,r22,hk⟩ Ψ' h1 h2 h3
  refine aA fun Ψ7 hΨ7 hΨ7'=>?_
  simp only[iP,↓reduceIte,zA,reduceCtorEq,zE,zB,zC,zD,zF,r22]
  refine hΨ7 _ _ ?_
  refine aA fun Ψ8 hΨ8 hΨ8'=>?_
  simp only[iP,↓reduceIte,zA,reduceCtorEq,zE,zB,zC,zD,zF,r0,r1]
  refine aB ?_ (DQ hk.ok (H.aN hk) G a (j:Int) ha fun s6 k6=>?_)
  ·simp only[iP,↓reduceIte,zA,reduceCtorEq,zE,zB,zC,zD,zF]
  simp only[iP,↓reduceIte,zA,reduceCtorEq,zE,zB,zC,zD,zF]
  refine hΨ8 _ _ ?_
  have hk6:=hk.trans k6
  obtain⟨s7,e7,k7,c7,n7⟩:=aT hk6.ok (L:=[int (P.ref a j)]) (n:=1) (e:=3) rfl
  have hk7:=hk6.trans k7
  obtain⟨w,s8,e8,b8,k8,m8,a8,c8,rfl⟩:=eI (X:=X) (t:=62) (e:=3) (N:=1) (B:=8) (z:=.int .i64 0) (x:=.slice (some ⟨s6.next,0,none⟩) 1 1) (k:=1) (new:=[int (P.ref a j)]) (by kernel_rfl) (by kernel_rfl) rfl k7.ok (by omega) ((hb.aF k6 (by simp)).aF k7 (by simp)) rfl (gW (by omega) (c7.aS (i:=0) (k:=1) (Nat.le_refl _))) rfl rfl (by omega) (by omega)
  simp only[iP,↓reduceIte,zA,reduceCtorEq,zE,zB,zC,zD,zF,r7]
  rw[e7]
  refine jZ ?_ e8 ?_
  ·simp only[iP,↓reduceIte,zA,reduceCtorEq,zE,zB,zC,zD,zF]
  simp only[iP,↓reduceIte,zA,reduceCtorEq,zE,zB,zC,zD,zF]
  have hn7:=hk7.next
  have htk:(P.refs a).take (j+1)=(P.refs a).take j++[P.ref a j]:=by
   unfold PH.refs
   rw[← List.map_take,← List.map_take,List.take_range,List.take_range,Nat.min_eq_left (by omega),Nat.min_eq_left (by omega),List.range_succ,List.map_append]
   rfl
  refine h1 _ _ ⟨a8,n+1,c8,?_,?_,?_,by omega,?_,?_,?_,?_,hk7.step k8 fun g hg=>.inr (hs.fresh _ (hnm g hg))⟩
  ·simp only[iP,↓reduceIte,zA,reduceCtorEq,zE,zB,zC,zD,zF,r0]
  ·simp only[iP,↓reduceIte,zA,reduceCtorEq,zE,zB,zC,zD,zF,r1]
  ·simp only[iP,↓reduceIte,zA,reduceCtorEq,zE,zB,zC,zD,zF]
  ·rw[htk,List.map_append];exact b8
  ·intro b hb'
   rcases m8 b hb' with h | h
   ·exact hnm b h
   ·omega
  ·simp only[iP,↓reduceIte,zA,reduceCtorEq,zE,zB,zC,zD,zF,r21]
  ·simp only[iP,↓reduceIte,zA,reduceCtorEq,zE,zB,zC,zD,zF,r22]
 ·rintro j a' s' hj ⟨aa,n,c,r0,r1,r7,hnj,hb,hnm,r21,r22,hk⟩ Ψ' h1
  have w:IntKind.i64.wrap ((j:Int)+1)=((j+1:Nat):Int):=by rw[aR (by omega) (by omega)];rfl
  simp only[iP,↓reduceIte,zA,reduceCtorEq,zE,zB,zC,zD,zF,r22,w]
  refine h1 _ _ ⟨aa,n,c,?_,?_,?_,hnj,hb,hnm,?_,?_,hk⟩
  all_goals simp only[iP,↓reduceIte,zA,reduceCtorEq,zE,zB,zC,zD,zF,r0,r1,r7,r21]
 ·rintro a' s' ⟨aa,n,c,r0,r1,r7,hnj,hb,hnm,r21,r22,hk⟩
  refine hΨ6e _ _ (hΨ3 _ _ ?_)
  simp only[iP,↓reduceIte,zA,reduceCtorEq,zE,zB,zC,zD,zF,r7]
  subst hnj
  refine hΦ _ _ ?_ ⟨_,_,rfl⟩ hnm hk
  rw[List.take_of_length_le (by unfold PH.refs;rw[List.length_map,List.length_range];omega)] at hb
  exact hb
 ·refine⟨_,_,_,?_,?_,?_,rfl,b5,?_,?_,?_,k05⟩
  ·simp only[iP,↓reduceIte,zA,reduceCtorEq,zE,zB,zC,zD,zF]
  ·simp only[iP,↓reduceIte,zA,reduceCtorEq,zE,zB,zC,zD,zF]
  ·simp only[iP,↓reduceIte,zA,reduceCtorEq,zE,zB,zC,zD,zF]
   rfl
  ·intro b hb;simp[nameOf] at hb;omega
  ·simp only[iP,↓reduceIte,zA,reduceCtorEq,zE,zB,zC,zD,zF]
  ·simp only[iP,↓reduceIte,zA,reduceCtorEq,zE,zB,zC,zD,zF]
   rfl
end
open Go.Proofs
set_option maxRecDepth 100000
set_option maxHeartbeats 1000000
namespace PH
variable (P:PH)
def QU (a:Int) (i:Nat):Bool:=!(P.ref a i==0)&&!(PH.soft (P.lD a).k i)
def gH (a:Int) (n:Nat):List Int:=((List.range n).filter (P.QU a)).map fun(i:Nat)=>P.ref a i
def gP (a:Int):List Int:=P.gH a (P.cA a)
theorem sX (a:Int) (n:Nat):P.gH a (n+1)=P.gH a n++if P.QU a n=true then [P.ref a n] else []:=by
 unfold gH
 rw[List.range_succ,List.filter_append,List.map_append,List.filter_cons,List.filter_nil]
 split <;> rfl
theorem DC (a:Int) (n:Nat):(P.gH a n).length≤n:=by
 unfold gH
 rw[List.length_map]
 have:=List.length_filter_le (P.QU a) (List.range n)
 rwa [List.length_range] at this
end PH
section
variable {kc:Kc} {q:Bool} {s:St} {Φ:Value→St→Prop} {h:Nat} {P:PH}
theorem dQ:type_of% (An @RX<|An @kA<|An @kI<|An @cO<|An @dO<|An @bF<|An @kG<|@eG):=An @RX<|An @kA<|An @kI<|An @cO<|An @dO<|An @bF<|An @kG<|@eG
theorem SL (hs:Ok s) (H:aP s h P) (G:P.cZ) (a:Int) (ha:i64 a) (hΦ:∀ v s',kL s' 3 1 v ((P.gP a).map int)→(∃ aa c,v=.slice aa (P.gP a).length c)→(∀ b∈nameOf v,s.next≤b)→aC [] s s'→Φ v s'):okF q X (KO kc) 163 [ptr h,int a] s Φ:=by
 obtain⟨g0,g15⟩:=PH.OZ G a
 have hn:((P.cA a:Nat):Int)=(P.lD a).r:=by unfold PH.cA;omega
 refine aG rfl fn_163 rfl (rs:=[.tmp 4]) rfl (N:=40) rfl rfl ?_
 refine aA fun Ψ0 hΨ0 hΨ0'=>?_
 simp only[dQ,↓reduceIte,zA,reduceCtorEq,zE,zB,zC,zD,zF]
 refine hΨ0 _ _ ?_
 refine aA fun Ψ1 hΨ1 hΨ1'=>?_
 simp only[dQ,↓reduceIte,zA,reduceCtorEq,zE,zB,zC,zD,zF]
 refine aB ?_ (mS hs H a ha fun s2 k2=>?_)
 ·simp only[dQ,↓reduceIte,zA,reduceCtorEq,zE,zB,zC,zD,zF]
 obtain⟨s3,e3,k3,c3,n3⟩:=aT k2.ok (L:=[int 0,int 0,int 0]) (n:=3) (e:=44) rfl
 obtain⟨s4,e4,c4,k4⟩:=c3.storeAll k3.ok (vs:=[int (P.lD a).r,int (P.lD a).d,int (P.lD a).k]) rfl rfl
 have k34:aC [] s2 s4:=k3.step k4 fun g hg=>.inr (by rw[List.mem_singleton.1 hg];exact k2.ok.fresh _ (Nat.le_refl _))
 have k04:=k2.trans k34
 simp only[dQ,↓reduceIte,zA,reduceCtorEq,zE,zB,zC,zD,zF]
 rw[e3,e4]
 simp only[dQ,↓reduceIte,zA,reduceCtorEq,zE,zB,zC,zD,zF]
 refine hΨ1 _ _ ?_
 refine aA fun Ψ2 hΨ2 hΨ2'=>?_
 simp only[dQ,↓reduceIte,zA,reduceCtorEq,zE,zB,zC,zD,zF]
 refine hΨ2 _ _ ?_
 refine aA fun Ψ3 hΨ3 hΨ3'=>?_
 refine aA fun Ψ4 hΨ4 hΨ4'=>?_
 simp only[dQ,↓reduceIte,zA,reduceCtorEq,zE,zB,zC,zD,zF]
 refine aB ?_ (uS k04.ok (H.aN k04) G a ha ?_)
 ·simp only[dQ,↓reduceIte,zA,reduceCtorEq,zE,zB,zC,zD,zF]
 rintro v s5 b5 ⟨va,vc,rfl⟩ hnm5 k5
 try simp only[dQ,↓reduceIte,zA,reduceCtorEq,zE,zB,zC,zD,zF]
 refine hΨ4 _ _ ?_
 have k05:=k04.trans k5
 have c5:=c4.aF k5 (by simp)
 have n04:=k04.next
 refine aL fun Ψ6 hΨ6 hΨ6e hΨ6'=>?_
 refine dP (n:=P.cA a) (fun j a' s'=>∃ aa n c,a'.aD 0=ptr h∧a'.aD 1=int a∧a'.aD 5=ptr s2.next∧a'.aD 7=.slice aa n c∧n=(P.gH a j).length∧kL s' 3 1 (.slice aa n c) ((P.gH a j).map int)∧(∀ b∈nameOf (.slice aa n c),s5.next≤b)∧a'.aD 18=.slice va (P.cA a) vc∧a'.aD 19=int (P.cA a)∧a'.aD 20=int j∧aC [] s5 s')
  (fun j a' s'=>∃ aa n c,a'.aD 0=ptr h∧a'.aD 1=int a∧a'.aD 5=ptr s2.next∧a'.aD 7=.slice aa n c∧n=(P.gH a (j+1)).length∧kL s' 3 1 (.slice aa n c) ((P.gH a (j+1)).map int)∧(∀ b∈nameOf (.slice aa n c),s5.next≤b)∧a'.aD 18=.slice va (P.cA a) vc∧a'.aD 19=int (P.cA a)∧a'.aD 20=int j∧aC [] s5 s') ?_ ?_ ?_ ?_ (Nat.zero_le _) ?_
 ·rintro j a' s' hj ⟨aa,n,c,r0,r1,r5,r7,hnj,hb,hnm,r18,r19,r20,hk⟩ Ψ' hΨ'
  simp only[dQ,↓reduceIte,zA,reduceCtorEq,zE,zB,zC,zD,zF,r19,r20]
  refine hΨ' _ _ (decide ((j:Int)<P.cA a)) ?_ (by simp) ⟨aa,n,c,?_,?_,?_,?_,hnj,hb,hnm,?_,?_,?_,hk⟩
  all_goals simp only[dQ,↓reduceIte,zA,reduceCtorEq,zE,zB,zC,zD,zF,r0,r1,r5,r7,r18,r19,r20]
 ·rintro j a' s' hj ⟨aa,n,c,r0,r1,r5,r7,hnj,hb,hnm,r18,r19,r20,hk⟩ Ψ' h1 h2 h3
  obtain⟨vb,voff,rfl⟩:=b5.sl.addr (show 0<P.cA a by omega)
  have hle:=P.DC a j
  have g1:(0:Int)≤(j:Int):=Int.natCast_nonneg _
  have g2:(j:Int)<((P.cA a:Nat):Int):=by omega
  have lj:aI s'.look ⟨vb,voff+j,none⟩=some (int (P.ref a j)):=by
   refine(b5.sl.aF hk (by simp)).load (i:=j) ?_
   rw[List.getElem?_map]
   unfold PH.refs
   rw[List.getElem?_map,List.getElem?_range hj]
   rfl
  have l2:aI s'.look ⟨s2.next,2,none⟩=some (int (P.lD a).k):=(c5.aF hk (by simp)).load rfl
  refine aA fun Ψ7 hΨ7 hΨ7'=>?_
  simp only[dQ,↓reduceIte,zA,reduceCtorEq,zE,zB,zC,zD,zF,r18,r20,g1,g2,and_self,aJ,Int.toNat_natCast,Nat.mul_one,lj]
  refine hΨ7 _ _ ?_
  refine aA fun Ψ8 hΨ8 hΨ8'=>?_
  refine aH [(2,27)] (by kernel_rfl) fun O hO ΨR hR=>?_
  have y2:∀ a,aE O a 2=aM (a.aD 27):=hO (2,27) (by simp)
  cases b0:(P.ref a j==0) with
  | true =>
   have hf:P.QU a j=false:=by unfold PH.QU;rw[b0];rfl
   have hst:P.gH a (j+1)=P.gH a j:=by rw[P.sX,if_neg (by rw[hf];simp),List.append_nil]
   simp only[dQ,↓reduceIte,zA,reduceCtorEq,zE,zB,zC,zD,zF,y2,bne,b0]
   refine hR _ _ (hΨ8 _ _ ?_)
   simp only[dQ,↓reduceIte,zA,reduceCtorEq,zE,zB,zC,zD,zF]
   refine h1 _ _ ⟨aa,n,c,?_,?_,?_,?_,by rw[hst];exact hnj,by rw[hst];exact hb,hnm,?_,?_,?_,hk⟩
   all_goals simp only[dQ,↓reduceIte,zA,reduceCtorEq,zE,zB,zC,zD,zF,r0,r1,r5,r7,r18,r19,r20]
  | false =>
   simp only[dQ,↓reduceIte,zA,reduceCtorEq,zE,zB,zC,zD,zF,y2,bne,b0,r5,l2]
   refine aB ?_ (KT (P.lD a).k (j:Int) ?_)
   ·simp only[dQ,↓reduceIte,zA,reduceCtorEq,zE,zB,zC,zD,zF]
   cases b1:PH.soft (P.lD a).k j with
   | true =>
    have hf:P.QU a j=false:=by unfold PH.QU;rw[b0,b1];rfl
    have hst:P.gH a (j+1)=P.gH a j:=by rw[P.sX,if_neg (by rw[hf];simp),List.append_nil]
    simp only[dQ,↓reduceIte,zA,reduceCtorEq,zE,zB,zC,zD,zF,y2]
    refine hR _ _ (hΨ8 _ _ ?_)
    simp only[dQ,↓reduceIte,zA,reduceCtorEq,zE,zB,zC,zD,zF]
    refine h1 _ _ ⟨aa,n,c,?_,?_,?_,?_,by rw[hst];exact hnj,by rw[hst];exact hb,hnm,?_,?_,?_,hk⟩
    all_goals simp only[dQ,↓reduceIte,zA,reduceCtorEq,zE,zB,zC,zD,zF,r0,r1,r5,r7,r18,r19,r20]
   | false =>
    have hf:P.QU a j=true:=by unfold PH.QU;rw[b0,b1];rfl
    have hst:P.gH a (j+1)=P.gH a j++[P.ref a j]:=by rw[P.sX,if_pos hf]
    simp only[dQ,↓reduceIte,zA,reduceCtorEq,zE,zB,zC,zD,zF,y2]
    refine hR _ _ (hΨ8 _ _ ?_)
    obtain⟨s7,e7,k7,c7,n7⟩:=aT hk.ok (L:=[int (P.ref a j)]) (n:=1) (e:=3) rfl
    obtain⟨w,s8,e8,b8,k8,m8,a8,c8,rfl⟩:=eI (X:=X) (t:=62) (e:=3) (N:=1) (B:=8) (z:=.int .i64 0) (x:=.slice (some ⟨s'.next,0,none⟩) 1 1) (k:=1) (new:=[int (P.ref a j)]) (by kernel_rfl) (by kernel_rfl) rfl k7.ok (by omega) (hb.aF k7 (by simp)) rfl (gW (by omega) (c7.aS (i:=0) (k:=1) (Nat.le_refl _))) rfl rfl (by omega) (by omega)
    simp only[dQ,↓reduceIte,zA,reduceCtorEq,zE,zB,zC,zD,zF,r7]
    rw[e7]
    refine jZ ?_ e8 ?_
    ·simp only[dQ,↓reduceIte,zA,reduceCtorEq,zE,zB,zC,zD,zF]
    simp only[dQ,↓reduceIte,zA,reduceCtorEq,zE,zB,zC,zD,zF]
    have hn7:=(hk.trans k7).next
    refine h1 _ _ ⟨a8,n+1,c8,?_,?_,?_,?_,by rw[hst,List.length_append,hnj];rfl,by rw[hst,List.map_append];exact b8,?_,?_,?_,?_,(hk.trans k7).step k8 fun g hg=>.inr (k5.ok.fresh _ (hnm g hg))⟩
    ·simp only[dQ,↓reduceIte,zA,reduceCtorEq,zE,zB,zC,zD,zF,r0]
    ·simp only[dQ,↓reduceIte,zA,reduceCtorEq,zE,zB,zC,zD,zF,r1]
    ·simp only[dQ,↓reduceIte,zA,reduceCtorEq,zE,zB,zC,zD,zF,r5]
    ·simp only[dQ,↓reduceIte,zA,reduceCtorEq,zE,zB,zC,zD,zF]
    ·intro b hb'
     rcases m8 b hb' with h | h
     ·exact hnm b h
     ·omega
    ·simp only[dQ,↓reduceIte,zA,reduceCtorEq,zE,zB,zC,zD,zF,r18]
    ·simp only[dQ,↓reduceIte,zA,reduceCtorEq,zE,zB,zC,zD,zF,r19]
    ·simp only[dQ,↓reduceIte,zA,reduceCtorEq,zE,zB,zC,zD,zF,r20]
 ·rintro j a' s' hj ⟨aa,n,c,r0,r1,r5,r7,hnj,hb,hnm,r18,r19,r20,hk⟩ Ψ' h1
  have w:IntKind.i64.wrap ((j:Int)+1)=((j+1:Nat):Int):=by rw[aR (by omega) (by omega)];rfl
  simp only[dQ,↓reduceIte,zA,reduceCtorEq,zE,zB,zC,zD,zF,r20,w]
  refine h1 _ _ ⟨aa,n,c,?_,?_,?_,?_,hnj,hb,hnm,?_,?_,?_,hk⟩
  all_goals try simp only[dQ,↓reduceIte,zA,reduceCtorEq,zE,zB,zC,zD,zF,r0,r1,r5,r7,r18,r19]
 ·rintro a' s' ⟨aa,n,c,r0,r1,r5,r7,hnj,hb,hnm,r18,r19,r20,hk⟩
  refine hΨ6e _ _ (hΨ3 _ _ ?_)
  simp only[dQ,↓reduceIte,zA,reduceCtorEq,zE,zB,zC,zD,zF,r7]
  subst hnj
  exact hΦ _ _ hb ⟨_,_,rfl⟩ (fun b hb=>by have:=hnm b hb;have:=k5.next;omega) (k05.trans hk)
 ·refine⟨none,0,0,?_,?_,?_,?_,rfl,.nil,by simp[nameOf],?_,?_,?_,.refl k05.ok⟩
  all_goals try simp only[dQ,↓reduceIte,zA,reduceCtorEq,zE,zB,zC,zD,zF]
  all_goals rfl
end
open Go.Proofs
set_option maxRecDepth 100000
set_option maxHeartbeats 1000000
theorem filter_le {l:List Nat} {p q:Nat→Bool} (h:∀ x∈l,q x=true→p x=true):(l.filter q).length≤(l.filter p).length:=by
 induction l with
 | nil=>exact Nat.le_refl _
 | cons x l ih =>
  have:=ih fun y hy=>h y (List.mem_cons_of_mem _ hy)
  have hx:=h x (List.mem_cons_self ..)
  rw[List.filter_cons,List.filter_cons]
  cases hq:q x with
  | true =>
   rw[hx hq,if_pos rfl,if_pos rfl,List.length_cons,List.length_cons];omega
  | false =>
   rw[if_neg (by simp)]
   split
   ·rw[List.length_cons];omega
   ·exact this
theorem filter_lt {l:List Nat} {p q:Nat→Bool} (h:∀ x∈l,q x=true→p x=true) {y:Nat} (hy:y∈l) (hp:p y=true) (hq:q y=false):(l.filter q).length<(l.filter p).length:=by
 induction l with
 | nil=>cases hy
 | cons x l ih =>
  have hle:=filter_le (l:=l) fun y hy=>h y (List.mem_cons_of_mem _ hy)
  rw[List.filter_cons,List.filter_cons]
  rcases List.mem_cons.1 hy with rfl | hy'
  ·rw[hp,hq,if_pos rfl,if_neg (by simp),List.length_cons];omega
  ·have:=ih (fun y hy=>h y (List.mem_cons_of_mem _ hy)) hy'
   have hx:=h x (List.mem_cons_self ..)
   cases hq':q x with
   | true =>
    rw[hx hq',if_pos rfl,if_pos rfl,List.length_cons,List.length_cons];omega
   | false =>
    rw[if_neg (by simp)]
    split
    ·rw[List.length_cons];omega
    ·exact this
namespace PH
variable (P:PH)
def visit:Nat→List Int→Int→List Int
 | 0,K,_=>K
 | n+1,K,a=>if P.has a=true∧K.contains a=false then(P.gP a).foldl (visit n) (K++[a]) else K
def free (K:List Int):Nat:=((List.range (32*P.N)).filter fun(i:Nat)=>!K.contains (2*(i:Int))).length
theorem mu {P:PH} {K K':List Int} (h:∀ x∈K,x∈K'):P.free K'≤P.free K:=by
 refine filter_le fun x _ hx=>?_
 rw[Bool.not_eq_true'] at hx ⊢
 rw[← Bool.not_eq_true] at hx ⊢
 intro hc
 exact hx (List.contains_iff_mem.2 (h _ (List.contains_iff_mem.1 hc)))
theorem QW {P:PH} {K:List Int} {a:Int} (ha:P.has a=true) (hK:K.contains a=false):P.free (K++[a])<P.free K:=by
 obtain⟨h1,h2,h3,_⟩:=dT.1 ha
 have e:2*((a/2).toNat:Int)=a:=by omega
 refine filter_lt (y:=(a/2).toNat) (fun x _ hx=>?_) (List.mem_range.2 (by omega)) ?_ ?_
 ·rw[Bool.not_eq_true'] at hx ⊢
  rw[← Bool.not_eq_true] at hx ⊢
  intro hc
  exact hx (List.contains_iff_mem.2 (List.mem_append_left _ (List.contains_iff_mem.1 hc)))
 ·simp only[e,hK];rfl
 ·simp only[e]
  rw[List.contains_iff_mem.2 (List.mem_append_right _ (List.mem_singleton.2 rfl))];rfl
theorem NZ {g:List Int→Int→List Int} (hg:∀ K a x,x∈K→x∈g K a):∀ (l K:List Int),∀ x∈K,x∈l.foldl g K:=by
 intro l
 induction l with
 | nil=>intro K x hx;exact hx
 | cons y l ih=>intro K x hx;exact ih _ _ (hg _ _ _ hx)
theorem PU:∀ n K a x,x∈K→x∈P.visit n K a:=by
 intro n
 induction n with
 | zero=>intro K a x hx;exact hx
 | succ n ih =>
  intro K a x hx
  unfold visit
  split
  ·exact NZ ih _ _ _ (List.mem_append_left _ hx)
  ·exact hx
theorem NY {g:List Int→Int→List Int} (hg:∀ K a,(∀ x∈K,P.has x=true)→∀ x∈g K a,P.has x=true):∀ (l K:List Int),(∀ x∈K,P.has x=true)→∀ x∈l.foldl g K,P.has x=true:=by
 intro l
 induction l with
 | nil=>intro K h;exact h
 | cons y l ih=>intro K h;exact ih _ (hg _ _ h)
theorem qu:∀ n K a,(∀ x∈K,P.has x=true)→∀ x∈P.visit n K a,P.has x=true:=by
 intro n
 induction n with
 | zero=>intro K a h;exact h
 | succ n ih =>
  intro K a h
  unfold visit
  split
  ·rename_i hh
   refine P.NY ih _ _ fun x hx=>?_
   rcases List.mem_append.1 hx with hx | hx
   ·exact h x hx
   ·rw[List.mem_singleton.1 hx];exact hh.1
  ·exact h
end PH
abbrev keys (K:List Int):List (Int×Value):=K.map fun a=>(a,.bool true)
theorem FM {K:List Int} {a:Int}:(keys K).lookup a=if K.contains a=true then some (.bool true) else none:=by
 induction K with
 | nil=>rfl
 | cons x K ih =>
  rw[keys,List.map_cons,List.lookup_cons,List.contains_cons]
  cases hx:a==x with
  | true=>rfl
  | false=>exact ih
theorem yA {s:St} {b:Nat} {K:List Int} (h:fW s b (keys K)) (a:Int):∃ es cM,mapOf s.look b=some (es,cM)∧((K.contains a=false∧kH (int a) es 0=some none)∨(K.contains a=true∧∃ i,kH (int a) es 0=some (some (i,.bool true)))):=by
 obtain⟨es,cM,h1,h2⟩:=h.find a
 rw[FM] at h2
 refine⟨es,cM,h1,?_⟩
 rcases h2 with ⟨h2,h3⟩ | ⟨v,i,h2,h3⟩
 ·left
  refine⟨?_,h3⟩
  cases hc:K.contains a with
  | false=>rfl
  | true=>rw[hc] at h2;cases h2
 ·right
  cases hc:K.contains a with
  | false=>rw[hc] at h2;cases h2
  | true=>rw[hc] at h2;cases h2;exact⟨rfl,i,h3⟩
theorem vp {s:St} {b:Nat} {K:List Int} (hs:Ok s) (h:fW s b (keys K)) {a:Int} (ha:K.contains a=false):∃ s',gM X s 121 (.map (some b)) (int a) (.bool true)=some s'∧fW s' b (keys (K++[a]))∧aC [b] s s':=by
 obtain⟨es,cM,dF,h1,h2,h2b⟩:=h
 rw[aq,h1]
 simp only
 rw[rD h2 (by rw[FM,ha];rfl)]
 have kk:aC [b] s (s.put b fun v=>.map (es++[⟨int a,.bool true,cM⟩]) (cM+1) v):=.uU hs h1 (.inr (Nat.le_refl _)) (List.mem_singleton.2 rfl)
 refine⟨_,rfl,⟨es++[⟨int a,.bool true,cM⟩],cM+1,s.cM,by simp only[St.put,PT.bU,if_true],?_,TY h2b⟩,kk⟩
 rw[List.map_append,h2,keys,keys,List.map_append,List.map_append]
 rfl
theorem PH.HN {s:St} {h:Nat} {P:PH} (H:aP s h P) (a i:Int):i64 (P.ref a i):=by
 unfold PH.ref
 split
 ·exact H.wr _
 ·exact⟨by omega,by omega⟩
section
variable {kc:Kc} {q:Bool} {s:St} {Φ:Value→St→Prop} {h:Nat} {P:PH}
structure qB (s:St) (h:Nat) (P:PH) (xh xm xf mb:Nat) (K:List Int):Prop where
 H:aP s h P
 G:P.cZ
 oh:Obj s xh [ptr h]
 om:Obj s xm [.map (some mb)]
 of:Obj s xf [.func (.func 162) #[] #[ptr xh,ptr xm,ptr xf]]
 mp:fW s mb (keys K)
 nd:mb∉P.aU h∧mb≠xh∧mb≠xm∧mb≠xf
theorem qB.aF {s s':St} {xh xm xf mb:Nat} {K:List Int} (V:qB s h P xh xm xf mb K) (k:aC [] s s'):qB s' h P xh xm xf mb K:=by
 obtain⟨H,G,oh,om,of,mp,nd⟩:=V
 exact⟨H.aN k,G,oh.aF k (by simp),om.aF k (by simp),of.aF k (by simp),mp.aF k (by simp),nd⟩
theorem fN:type_of% (An @RX<|An @sE<|An @wH<|An @DX<|An @aq<|An @cO<|An @dO<|An @bF<|@RE):=An @RX<|An @sE<|An @wH<|An @DX<|An @aq<|An @cO<|An @dO<|An @bF<|@RE
theorem MK {xh xm xf mb:Nat} {g:List Int→Int→List Int} (hg:∀ K a x,x∈K→x∈g K a) {K:List Int} {a:Int} (hs:Ok s) (V:qB s h P xh xm xf mb K) (ha:i64 a)
  (hrec:∀ K' a' s' Φ',Ok s'→qB s' h P xh xm xf mb K'→P.free K'<P.free K→i64 a'→(∀ s'',qB s'' h P xh xm xf mb (g K' a')→aC [mb] s' s''→Φ' (.tuple #[]) s'')→okF q X (KO kc) 162 [int a',ptr xh,ptr xm,ptr xf] s' Φ')
  (hΦ:∀ s',qB s' h P xh xm xf mb (if P.has a=true∧K.contains a=false then(P.gP a).foldl g (K++[a]) else K)→aC [mb] s s'→Φ (.tuple #[]) s'):okF q X (KO kc) 162 [int a,ptr xh,ptr xm,ptr xf] s Φ:=by
 have l1:aI s.look ⟨xh,0,none⟩=some (ptr h):=V.oh.load rfl
 have l2:aI s.look ⟨xm,0,none⟩=some (.map (some mb)):=V.om.load rfl
 refine aG rfl fn_162 rfl (rs:=[]) rfl (N:=30) rfl rfl ?_
 refine aA fun Ψ1 hΨ1 hΨ1'=>?_
 refine aA fun Ψ2 hΨ2 hΨ2'=>?_
 refine aH [(4,11)] (by kernel_rfl) fun O hO ΨR hR=>?_
 have y4:∀ a,aE O a 4=aM (a.aD 11):=hO (4,11) (by simp)
 simp only[fN,↓reduceIte,zA,reduceCtorEq,zE,zB,zC,zD,zF,l1]
 refine aB ?_ (oZ hs V.H a ha fun s2 k2=>?_)
 ·simp only[fN,↓reduceIte,zA,reduceCtorEq,zE,zB,zC,zD,zF]
 have l2':=cW k2 (by simp) l2
 have V2:=V.aF k2
 cases hh:P.has a with
 | false =>
  rw[if_neg (by rw[hh];simp)] at hΦ
  simp only[fN,↓reduceIte,zA,reduceCtorEq,zE,zB,zC,zD,zF,y4]
  refine hR _ _ (hΨ2 _ _ ?_)
  simp only[fN,↓reduceIte,zA,reduceCtorEq,zE,zB,zC,zD,zF]
  refine hΨ1' _ _ _ (by simp) ?_
  simp only[fN,↓reduceIte,zA,reduceCtorEq,zE,zB,zC,zD,zF]
  exact hΦ _ V2 k2.any
 | true =>
  obtain⟨es,cM,m1,m2⟩:=yA V2.mp a
  rcases m2 with ⟨hc,m2⟩ | ⟨hc,i,m2⟩
  ·rw[if_pos ⟨hh,hc⟩] at hΦ
   simp only[fN,↓reduceIte,zA,reduceCtorEq,zE,zB,zC,zD,zF,y4,l2',m1,m2]
   refine hR _ _ (hΨ2 _ _ ?_)
   simp only[fN,↓reduceIte,zA,reduceCtorEq,zE,zB,zC,zD,zF]
   refine hΨ1 _ _ ?_
   refine aA fun Ψ3 hΨ3 hΨ3'=>?_
   obtain⟨s3,e3,d3,k3⟩:=vp k2.ok V2.mp hc
   simp only[fN,↓reduceIte,zA,reduceCtorEq,zE,zB,zC,zD,zF,l2',e3]
   refine hΨ3 _ _ ?_
   have hmb:=V2.mp.lt k2.ok
   have n3:=k3.next
   have V3:qB s3 h P xh xm xf mb (K++[a]):=by
    obtain⟨H,G,oh,om,of,mp,n1,n2,n3,n4⟩:=V2
    exact⟨H.aF k3 fun x hx hx'=>n1 (by simp at hx';subst hx';exact hx),G,oh.aF k3 (by simpa using Ne.symm n2),om.aF k3 (by simpa using Ne.symm n3),of.aF k3 (by simpa using Ne.symm n4),d3,n1,n2,n3,n4⟩
   have l13:aI s3.look ⟨xh,0,none⟩=some (ptr h):=V3.oh.load rfl
   have hfree:=PH.QW hh hc
   refine aA fun Ψ4 hΨ4 hΨ4'=>?_
   simp only[fN,↓reduceIte,zA,reduceCtorEq,zE,zB,zC,zD,zF,l13]
   refine aB ?_ (SL k3.ok V3.H V3.G a ha ?_)
   ·simp only[fN,↓reduceIte,zA,reduceCtorEq,zE,zB,zC,zD,zF]
   rintro v s4 b4 ⟨va,vc,rfl⟩ hnm4 k4
   have hlen:(P.gP a).length≤15:=by
    have h1:=P.DC a (P.cA a)
    have h2:=(PH.OZ V3.G a).2
    have h3:P.cA a≤15:=by unfold PH.cA;omega
    unfold PH.gP;omega
   try simp only[fN,↓reduceIte,zA,reduceCtorEq,zE,zB,zC,zD,zF]
   refine hΨ4 _ _ ?_
   have V4:=V3.aF k4
   refine aL fun Ψ5 hΨ5 hΨ5e hΨ5'=>?_
   refine dP (n:=(P.gP a).length) (fun j a' s'=>a'.aD 1=ptr xh∧a'.aD 2=ptr xm∧a'.aD 3=ptr xf∧a'.aD 20=.slice va (P.gP a).length vc∧a'.aD 21=int (P.gP a).length∧a'.aD 22=int j∧qB s' h P xh xm xf mb (((P.gP a).take j).foldl g (K++[a]))∧aC [mb] s4 s')
    (fun j a' s'=>a'.aD 1=ptr xh∧a'.aD 2=ptr xm∧a'.aD 3=ptr xf∧a'.aD 20=.slice va (P.gP a).length vc∧a'.aD 21=int (P.gP a).length∧a'.aD 22=int j∧qB s' h P xh xm xf mb (((P.gP a).take (j+1)).foldl g (K++[a]))∧aC [mb] s4 s') ?_ ?_ ?_ ?_ (Nat.zero_le _) ?_
   ·rintro j a' s' hj ⟨r1,r2,r3,r20,r21,r22,hV,hk⟩ Ψ' hΨ'
    simp only[fN,↓reduceIte,zA,reduceCtorEq,zE,zB,zC,zD,zF,r21,r22]
    refine hΨ' _ _ (decide ((j:Int)<(P.gP a).length)) ?_ (by simp) ⟨?_,?_,?_,?_,?_,?_,hV,hk⟩
    all_goals simp only[fN,↓reduceIte,zA,reduceCtorEq,zE,zB,zC,zD,zF,r1,r2,r3,r20,r21,r22]
   ·rintro j a' s' hj ⟨r1,r2,r3,r20,r21,r22,hV,hk⟩ Ψ' h1 h2 h3
    obtain⟨vb,voff,rfl⟩:=b4.sl.addr (show 0<(P.gP a).length by omega)
    have g1:(0:Int)≤(j:Int):=Int.natCast_nonneg _
    have g2:(j:Int)<(((P.gP a).length:Nat):Int):=by omega
    have lj:aI s'.look ⟨vb,voff+j,none⟩=some (int ((P.gP a)[j])):=by
     refine(b4.sl.aF hk fun b hb hb'=>?_).load (i:=j) ?_
     ·have:=hnm4 b hb;simp at hb';omega
     ·rw[List.getElem?_map,List.getElem?_eq_getElem hj];rfl
    have lf:aI s'.look ⟨xf,0,none⟩=some (.func (.func 162) #[] #[ptr xh,ptr xm,ptr xf]):=hV.of.load rfl
    have hi:i64 (P.gP a)[j]:=by
     obtain⟨i,hi,he⟩:=List.mem_map.1 (show (P.gP a)[j]∈P.gP a from List.getElem_mem _)
     rw[← he];exact PH.HN V.H a i
    have hsub:∀ x∈K++[a],x∈((P.gP a).take j).foldl g (K++[a]):=PH.NZ hg _ _
    refine aA fun Ψ6 hΨ6 hΨ6'=>?_
    simp only[fN,↓reduceIte,zA,reduceCtorEq,zE,zB,zC,zD,zF,r20,r22,g1,g2,and_self,aJ,Int.toNat_natCast,Nat.mul_one,lj]
    refine hΨ6 _ _ ?_
    simp only[fN,↓reduceIte,zA,reduceCtorEq,zE,zB,zC,zD,zF,r3,lf]
    refine oD (fi:=#[]) (ca:=#[ptr xh,ptr xm,ptr xf]) ?_ ?_ (hrec (((P.gP a).take j).foldl g (K++[a])) (P.gP a)[j] s' _ hk.ok hV (Nat.lt_of_le_of_lt (PH.mu hsub) hfree) hi fun s5 V5 k5=>?_)
    ·simp only[fN,↓reduceIte,zA,reduceCtorEq,zE,zB,zC,zD,zF]
    ·simp only[fN,↓reduceIte,zA,reduceCtorEq,zE,zB,zC,zD,zF]
    simp only[fN,↓reduceIte,zA,reduceCtorEq,zE,zB,zC,zD,zF]
    refine h1 _ _ ⟨?_,?_,?_,?_,?_,?_,?_,hk.trans k5⟩
    all_goals try simp only[fN,↓reduceIte,zA,reduceCtorEq,zE,zB,zC,zD,zF,r1,r2,r3,r20,r21,r22]
    rw[List.take_add_one,List.getElem?_eq_getElem hj,List.foldl_append]
    exact V5
   ·rintro j a' s' hj ⟨r1,r2,r3,r20,r21,r22,hV,hk⟩ Ψ' h1
    have w:IntKind.i64.wrap ((j:Int)+1)=((j+1:Nat):Int):=by rw[aR (by omega) (by omega)];rfl
    simp only[fN,↓reduceIte,zA,reduceCtorEq,zE,zB,zC,zD,zF,r22,w]
    refine h1 _ _ ⟨?_,?_,?_,?_,?_,?_,hV,hk⟩
    all_goals try simp only[fN,↓reduceIte,zA,reduceCtorEq,zE,zB,zC,zD,zF,r1,r2,r3,r20,r21]
   ·rintro a' s' ⟨r1,r2,r3,r20,r21,r22,hV,hk⟩
    refine hΨ5e _ _ ?_
    simp only[fN,↓reduceIte,zA,reduceCtorEq,zE,zB,zC,zD,zF]
    rw[List.take_of_length_le (Nat.le_refl _)] at hV
    exact hΦ _ hV ((k2.any.trans k3).trans (k4.any.trans hk))
   ·refine⟨?_,?_,?_,?_,?_,?_,V4,.refl k4.ok⟩
    all_goals try simp only[fN,↓reduceIte,zA,reduceCtorEq,zE,zB,zC,zD,zF]
    all_goals rfl
  ·rw[if_neg (by rw[hc];simp)] at hΦ
   simp only[fN,↓reduceIte,zA,reduceCtorEq,zE,zB,zC,zD,zF,y4,l2',m1,m2]
   refine hR _ _ (hΨ2 _ _ ?_)
   simp only[fN,↓reduceIte,zA,reduceCtorEq,zE,zB,zC,zD,zF]
   refine hΨ1' _ _ _ (by simp) ?_
   simp only[fN,↓reduceIte,zA,reduceCtorEq,zE,zB,zC,zD,zF]
   exact hΦ _ V2 k2.any
theorem WT {xh xm xf mb:Nat}:∀ (n:Nat) {K:List Int} {a:Int} {s:St} {Φ:Value→St→Prop} (hs:Ok s) (V:qB s h P xh xm xf mb K) (ha:i64 a) (hn:P.free K≤n) (hΦ:∀ s',qB s' h P xh xm xf mb (P.visit n K a)→aC [mb] s s'→Φ (.tuple #[]) s'),okF q X (KO kc) 162 [int a,ptr xh,ptr xm,ptr xf] s Φ:=by
 intro n
 induction n with
 | zero =>
  intro K a s Φ hs V ha hn hΦ
  refine MK (g:=P.visit 0) (P.PU 0) hs V ha (fun K' a' s' Φ' _ _ h _ _=>by omega) fun s' V' k'=>?_
  refine hΦ s' ?_ k'
  rw[if_neg] at V'
  ·exact V'
  ·rintro⟨h1,h2⟩
   have:=PH.QW h1 h2
   omega
 | succ n ih =>
  intro K a s Φ hs V ha hn hΦ
  exact MK (g:=P.visit n) (P.PU n) hs V ha (fun K' a' s' Φ' hs' V' h hi hh=>ih hs' V' hi (by omega) hh) hΦ
end
end Go.Dust
