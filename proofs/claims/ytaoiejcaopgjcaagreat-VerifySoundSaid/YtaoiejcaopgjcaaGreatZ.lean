/- VerifySound walked in D, function by function, and its plain law (L4 F1). -/
import Derived.Test.YtaoiejcaopgjcaaGreatY
set_option linter.unusedVariables false
set_option linter.unusedSimpArgs false
open Nat renaming reduceEqDiff → zA, reduceMul → zB, reduceAdd → zC, reduceBEq → zD
open Int renaming reduceEq → zE, reduceBEq → zF
namespace Go.Dust
open Go.Proofs
set_option maxRecDepth 100000
set_option maxHeartbeats 1000000
theorem aP.cH {s:St} {h:Nat} {P:PH} (H:aP s h P) (hs:Ok s):∀ x∈P.aU h,x<s.next:=by
 intro x hx
 obtain⟨U,hU,_⟩:=H.ts.ws
 obtain⟨W,hW,_⟩:=H.tp.ws
 simp only[PH.aU,List.mem_cons,List.not_mem_nil,or_false] at hx
 rcases hx with rfl | rfl | rfl | rfl | rfl | rfl | rfl | rfl | rfl
 ·exact H.c.lt hs
 ·exact H.cb.lt hs
 ·exact H.cw.lt hs
 ·exact H.ts.c.lt hs
 ·exact hU.lt hs
 ·exact H.tp.c.lt hs
 ·exact hW.lt hs
 ·exact H.mp.lt hs
 ·exact H.mf.lt hs
theorem VS {s:St} {b:Nat} {K:List Int} (h:fW s b (keys K)):∃ es cM,mapOf s.look b=some (es,cM)∧es.length=K.length:=by
 obtain⟨es,cM,dF,h1,h2,_⟩:=h
 have:=congrArg List.length h2
 rw[List.length_map,List.length_map,keys,List.length_map] at this
 exact⟨es,cM,by simp only[mapOf,St.look,h1],this⟩
namespace PH
variable (P:PH)
def jC (K L:List Int):List Int:=L.foldl (P.visit (32*P.N)) K
def due (K:List Int) (a:Int):Bool:=K.contains a&&((P.lD a).k==2)&&K.contains (P.ref a 0)
def lJ (K l:List Int):List Int:=(l.filter (P.due K)).map fun a=>P.ref a 1
def yO:Nat→List Int→List Int→Nat→List Int×Nat
 | 0,K,_,n=>(K,n)
 | f+1,K,L,n=>if (P.jC K L).length=K.length then(P.jC K L,n) else yO f (P.jC K L) (P.lJ (P.jC K L) P.all) (n+1)
def rounds (L:List Int):List Int×Nat:=P.yO (32*P.N+1) [] L 0
theorem JI {g:List Int→Int→List Int} (hg:∀ K a,g K a=K∨P.free (g K a)<P.free K):∀ (l K:List Int),l.foldl g K=K∨P.free (l.foldl g K)<P.free K:=by
 intro l
 induction l with
 | nil=>intro K;exact .inl rfl
 | cons y l ih =>
  intro K
  rw[List.foldl_cons]
  rcases hg K y with h | h
  ·rw[h];exact ih K
  ·rcases ih (g K y) with h' | h'
   ·rw[h'];exact .inr h
   ·exact .inr (by omega)
theorem da:∀ n K a,P.visit n K a=K∨P.free (P.visit n K a)<P.free K:=by
 intro n
 induction n with
 | zero=>intro K a;exact .inl rfl
 | succ n ih =>
  intro K a
  unfold visit
  split
  ·rename_i h
   have:=QW h.1 h.2
   rcases P.JI ih (P.gP a) (K++[a]) with h' | h'
   ·rw[h'];exact .inr this
   ·exact .inr (by omega)
  ·exact .inl rfl
theorem cn (K L:List Int) (h:(P.jC K L).length≠K.length):P.free (P.jC K L)<P.free K:=by
 rcases P.JI (P.da (32*P.N)) L K with h' | h'
 ·exact absurd (congrArg List.length h') h
 ·exact h'
theorem QV (K:List Int):P.free K≤32*P.N:=by
 unfold free
 have:=List.length_filter_le (fun(i:Nat)=>!K.contains (2*(i:Int))) (List.range (32*P.N))
 rwa [List.length_range] at this
theorem XK:∀ f K L n,(∀ x∈K,P.has x=true)→∀ x∈(P.yO f K L n).1,P.has x=true:=by
 intro f
 induction f with
 | zero=>intro K L n h;exact h
 | succ f ih =>
  intro K L n h
  unfold yO
  have hs:=P.NY (P.qu (32*P.N)) L K h
  split
  ·exact hs
  ·exact ih _ _ _ hs
theorem bt (L:List Int):∀ x∈(P.rounds L).1,P.has x=true:=P.XK _ _ _ _ fun x hx=>by cases hx
theorem WE (K l:List Int) (a:Int):P.lJ K (l++[a])=P.lJ K l++if P.due K a=true then [P.ref a 1] else []:=by
 unfold lJ
 rw[List.filter_append,List.map_append,List.filter_cons,List.filter_nil]
 split <;> rfl
theorem KB (K l:List Int):(P.lJ K l).length≤l.length:=by
 unfold lJ
 rw[List.length_map]
 exact List.length_filter_le _ _
theorem HD (hN:P.N≤64) {a:Int} (h:a∈P.all):i64 a:=by
 unfold all at h
 obtain⟨i,hi,rfl⟩:=List.mem_map.1 h
 unfold rI at hi
 have:=List.mem_range.1 (List.mem_filter.1 hi).1
 exact⟨by omega,by omega⟩
theorem xI:P.all.length≤32*P.N:=by
 unfold all rI
 rw[List.length_map]
 have:=List.length_filter_le P.mX (List.range (32*P.N))
 rwa [List.length_range] at this
end PH
section
variable {kc:Kc} {q:Bool} {s:St} {Φ:Value→St→Prop} {h:Nat} {P:PH}
theorem cC:type_of% (An @RX<|An @xp<|An @rm<|An @SV<|An @rq<|An @aA1<|An @wH<|An @gw<|An @cO<|An @dO<|An @bF<|An @RE<|An @sE<|An @DX<|@eG):=An @RX<|An @xp<|An @rm<|An @SV<|An @rq<|An @aA1<|An @wH<|An @gw<|An @cO<|An @dO<|An @bF<|An @RE<|An @sE<|An @DX<|@eG
theorem SK (hs:Ok s) (H:aP s h P) (G:P.cZ) {va:Option Addr} {vn vc:Nat} {L:List Int} (hL:tR s (.slice va vn vc) L) (hmax:vn<100000) (hvn:∀ b∈nameOf (.slice va vn vc),b<s.next) (hLi:∀ x∈L,i64 x)
  (hΦ:∀ mb s',fW s' mb (keys (P.rounds L).1)→aC [] s s'→s.next≤mb→Φ (.tuple #[.map (some mb),int (P.rounds L).2]) s'):okF q X (KO kc) 70 [ptr h,.slice va vn vc] s Φ:=by
 have iJ:=H.iJ
 refine aG rfl fn_70 rfl (rs:=[.tmp 4,.tmp 5]) rfl (N:=79) rfl rfl ?_
 refine aA fun Ψ0 hΨ0 hΨ0'=>?_
 simp only[cC,↓reduceIte,zA,reduceCtorEq,zE,zB,zC,zD,zF]
 obtain⟨s1,e1,k1,c1,n1⟩:=aT hs (L:=[ptr h]) (n:=1) (e:=34) rfl
 rw[e1]
 refine hΨ0 _ _ ?_
 refine aA fun Ψ1 hΨ1 hΨ1'=>?_
 simp only[cC,↓reduceIte,zA,reduceCtorEq,zE,zB,zC,zD,zF]
 obtain⟨s2,e2,k2,c2,n2⟩:∃ S,(s1.new fun v=>bX.map [] 0 v)=S∧aC [] s1 S∧fW S s1.next []∧S.next=s1.next+2 :=
  ⟨_,rfl,(aC.refl k1.ok).new (.inr (Nat.le_refl _)),fW.pQ (s:=s1) (x:=s1.next),rfl⟩
 rw[e2]
 obtain⟨s3,e3,k3,c3,n3⟩:=aT k2.ok (L:=[.map none]) (n:=1) (e:=121) rfl
 rw[e3]
 obtain⟨s4,e4,c4,k4⟩:=c3.storeAll k3.ok (vs:=[.map (some s1.next)]) rfl rfl
 rw[e4]
 have k24:aC [] s2 s4:=k3.step k4 fun g hg=>.inr (by rw[List.mem_singleton.1 hg];exact k2.ok.fresh _ (Nat.le_refl _))
 simp only[cC,↓reduceIte,zA,reduceCtorEq,zE,zB,zC,zD,zF]
 refine hΨ1 _ _ ?_
 refine aA fun Ψ2 hΨ2 hΨ2'=>?_
 simp only[cC,↓reduceIte,zA,reduceCtorEq,zE,zB,zC,zD,zF]
 obtain⟨s5,e5,k5,c5,n5⟩:=aT k24.ok (L:=[.nilFunc]) (n:=1) (e:=126) rfl
 rw[e5]
 refine hΨ2 _ _ ?_
 refine aA fun Ψ3 hΨ3 hΨ3'=>?_
 simp only[cC,↓reduceIte,zA,reduceCtorEq,zE,zB,zC,zD,zF]
 obtain⟨s6,e6,c6,k6⟩:=c5.storeAll k5.ok (vs:=[.func (.func 162) #[] #[ptr s.next,ptr s2.next,ptr s4.next]]) rfl rfl
 have k46:aC [] s4 s6:=k5.step k6 fun g hg=>.inr (by rw[List.mem_singleton.1 hg];exact k24.ok.fresh _ (Nat.le_refl _))
 have k06:aC [] s s6:=(k1.trans k2).trans (k24.trans k46)
 rw[e6]
 simp only[cC,↓reduceIte,zA,reduceCtorEq,zE,zB,zC,zD,zF]
 refine hΨ3 _ _ ?_
 have n24:=k24.next
 have n46:=k46.next
 have V6:qB s6 h P s.next s2.next s4.next s1.next []:=by
  refine⟨H.aN k06,G,c1.aF (k2.trans (k24.trans k46)) (by simp),c4.aF k46 (by simp),c6,c2.aF (k24.trans k46) (by simp),fun hh=>?_,by omega,by omega,by omega⟩
  have:=H.cH hs _ hh
  omega
 have hL6:tR s6 (.slice va vn vc) L:=hL.aF k06 (by simp)
 refine aA fun Ψ4 hΨ4 hΨ4'=>?_
 simp only[cC,↓reduceIte,zA,reduceCtorEq,zE,zB,zC,zD,zF]
 refine hΨ4 _ _ ?_
 refine aA fun Ψ5 hΨ5 hΨ5'=>?_
 simp only[cC,↓reduceIte,zA,reduceCtorEq,zE,zB,zC,zD,zF]
 refine hΨ5 _ _ ?_
 refine aL fun Ψ6 hΨ6 hΨ6e hΨ6'=>?_
 refine jU.loop (fun k a' s'=>∃ K Lc n f va vn vc,k=P.free K∧P.free K<f∧P.yO f K Lc n=P.rounds L∧n+P.free K≤32*P.N∧a'.aD 2=ptr s.next∧a'.aD 6=ptr s2.next∧a'.aD 7=ptr s4.next∧a'.aD 8=int n∧a'.aD 9=.slice va vn vc∧tR s' (.slice va vn vc) Lc∧vn<100000∧(∀ x∈Lc,i64 x)∧(∀ b∈nameOf (.slice va vn vc),b≠s1.next)∧qB s' h P s.next s2.next s4.next s1.next K∧aC [s1.next] s6 s') ?_ (P.free []) ?_
 ·rintro k a' s' ⟨K,Lc,n,f,va,vn,vc,rfl,hf,hR,hn,r2,r6,r7,r8,r9,hLc,hmx,hLi,hnm,V,hk⟩
  have lm:=V.om.load (i:=0) rfl
  refine aA fun Ψ7 hΨ7 hΨ7'=>?_
  refine aL fun Ψ8 hΨ8 hΨ8e hΨ8'=>?_
  refine aA fun Ψ9 hΨ9 hΨ9'=>?_
  obtain⟨es,cM,m1,m2⟩:=VS V.mp
  simp only[cC,↓reduceIte,zA,reduceCtorEq,zE,zB,zC,zD,zF,r6,lm,m1,m2]
  refine hΨ9 _ _ ?_
  refine aA fun Ψ10 hΨ10 hΨ10'=>?_
  refine aA fun Ψ11 hΨ11 hΨ11'=>?_
  simp only[cC,↓reduceIte,zA,reduceCtorEq,zE,zB,zC,zD,zF,r9]
  refine hΨ11 _ _ ?_
  refine aL fun Ψ12 hΨ12 hΨ12e hΨ12'=>?_
  refine dP (n:=vn) (fun j a' s'=>a'.aD 2=ptr s.next∧a'.aD 6=ptr s2.next∧a'.aD 7=ptr s4.next∧a'.aD 8=int n∧a'.aD 10=int K.length∧a'.aD 26=.slice va vn vc∧a'.aD 27=int vn∧a'.aD 28=int j∧qB s' h P s.next s2.next s4.next s1.next ((Lc.take j).foldl (P.visit (32*P.N)) K)∧aC [s1.next] s6 s'∧tR s' (.slice va vn vc) Lc)
   (fun j a' s'=>a'.aD 2=ptr s.next∧a'.aD 6=ptr s2.next∧a'.aD 7=ptr s4.next∧a'.aD 8=int n∧a'.aD 10=int K.length∧a'.aD 26=.slice va vn vc∧a'.aD 27=int vn∧a'.aD 28=int j∧qB s' h P s.next s2.next s4.next s1.next ((Lc.take (j+1)).foldl (P.visit (32*P.N)) K)∧aC [s1.next] s6 s'∧tR s' (.slice va vn vc) Lc) ?_ ?_ ?_ ?_ (Nat.zero_le _) ?_
  ·rintro j a' s' hj ⟨r2,r6,r7,r8,r10,r26,r27,r28,hV,hk,hLc⟩ Ψ' hΨ'
   simp only[cC,↓reduceIte,zA,reduceCtorEq,zE,zB,zC,zD,zF,r27,r28]
   refine hΨ' _ _ (decide ((j:Int)<vn)) ?_ (by simp) ⟨?_,?_,?_,?_,?_,?_,?_,?_,hV,hk,hLc⟩
   all_goals simp only[cC,↓reduceIte,zA,reduceCtorEq,zE,zB,zC,zD,zF,r2,r6,r7,r8,r10,r26,r27,r28]
  ·rintro j a' s' hj ⟨r2,r6,r7,r8,r10,r26,r27,r28,hV,hk,hLc⟩ Ψ' h1 h2 h3
   obtain⟨vb,voff,rfl⟩:=Sl.addr hLc (show 0<vn by omega)
   have hlen:Lc.length=vn:=hLc.len
   have g1:(0:Int)≤(j:Int):=Int.natCast_nonneg _
   have g2:(j:Int)<((vn:Nat):Int):=by omega
   have lj:aI s'.look ⟨vb,voff+j,none⟩=some (int (Lc[j]'(by omega))):=hLc.get (List.getElem?_eq_getElem _)
   have lf:=hV.of.load (i:=0) rfl
   have hi:i64 (Lc[j]'(by omega)):=hLi _ (List.getElem_mem _)
   refine aA fun Ψ13 hΨ13 hΨ13'=>?_
   simp only[cC,↓reduceIte,zA,reduceCtorEq,zE,zB,zC,zD,zF,r26,r28,g1,g2,and_self,aJ,Int.toNat_natCast,Nat.mul_one,lj]
   refine hΨ13 _ _ ?_
   simp only[cC,↓reduceIte,zA,reduceCtorEq,zE,zB,zC,zD,zF,r7,lf]
   refine oD (fi:=#[]) (ca:=#[ptr s.next,ptr s2.next,ptr s4.next]) ?_ ?_ (WT (32*P.N) hk.ok hV hi (P.QV _) fun s5 V5 k5=>?_)
   ·simp only[cC,↓reduceIte,zA,reduceCtorEq,zE,zB,zC,zD,zF]
   ·simp only[cC,↓reduceIte,zA,reduceCtorEq,zE,zB,zC,zD,zF]
   simp only[cC,↓reduceIte,zA,reduceCtorEq,zE,zB,zC,zD,zF]
   refine h1 _ _ ⟨?_,?_,?_,?_,?_,?_,?_,?_,?_,hk.trans k5,Sl.aF hLc k5 fun b hb hb'=>?_⟩
   all_goals try simp only[cC,↓reduceIte,zA,reduceCtorEq,zE,zB,zC,zD,zF,r2,r6,r7,r8,r10,r26,r27,r28]
   ·rw[List.take_add_one,List.getElem?_eq_getElem (show j<Lc.length by omega),List.foldl_append]
    exact V5
   ·exact hnm b hb (by simpa using hb')
  ·rintro j a' s' hj ⟨r2,r6,r7,r8,r10,r26,r27,r28,hV,hk,hLc⟩ Ψ' h1
   have w:IntKind.i64.wrap ((j:Int)+1)=((j+1:Nat):Int):=by rw[aR (by omega) (by omega)];rfl
   simp only[cC,↓reduceIte,zA,reduceCtorEq,zE,zB,zC,zD,zF,r28,w]
   refine h1 _ _ ⟨?_,?_,?_,?_,?_,?_,?_,?_,hV,hk,hLc⟩
   all_goals try simp only[cC,↓reduceIte,zA,reduceCtorEq,zE,zB,zC,zD,zF,r2,r6,r7,r8,r10,r26,r27]
  ·rintro a' s' ⟨r2,r6,r7,r8,r10,r26,r27,r28,hV,hk,hLc⟩
   refine hΨ12e _ _ (hΨ10 _ _ ?_)
   have hk0:=hk
   have hlen:Lc.length=vn:=hLc.len
   rw[List.take_of_length_le (by omega)] at hV
   have lm:=hV.om.load (i:=0) rfl
   obtain⟨es,cM,m1,m2⟩:=VS hV.mp
   refine aA fun Ψ14 hΨ14 hΨ14'=>?_
   refine aA fun Ψ15 hΨ15 hΨ15'=>?_
   simp only[cC,↓reduceIte,zA,reduceCtorEq,zE,zB,zC,zD,zF,r6,lm,m1,m2,r10]
   refine hΨ15 _ _ ?_
   have hsw:List.foldl (P.visit (32*P.N)) K Lc=P.jC K Lc:=rfl
   rw[hsw] at hV m2 ⊢
   obtain⟨f,rfl⟩:∃ f',f=f'+1:=⟨f-1,by omega⟩
   unfold PH.yO at hR
   by_cases he:(P.jC K Lc).length=K.length
   ·have eb:(((P.jC K Lc).length:Int)==(K.length:Int))=true:=by rw[beq_iff_eq];omega
    rw[if_pos he] at hR
    rw[← hR] at hΦ
    simp only[cC,↓reduceIte,zA,reduceCtorEq,zE,zB,zC,zD,zF,eb,r6,lm,r8]
    refine hΨ14' _ _ _ (by simp) (hΨ8' _ _ _ (by simp) (by simp) (hΨ7' _ _ _ (by simp) (hΨ6' _ _ _ (by simp) (by simp) ?_)))
    simp only[cC,↓reduceIte,zA,reduceCtorEq,zE,zB,zC,zD,zF]
    exact hΦ s1.next s' hV.mp (k06.step hk fun g hg=>.inr (hs.fresh _ (by simp at hg;omega))) (by omega)
   ·have eb:(((P.jC K Lc).length:Int)==(K.length:Int))=false:=by rw[beq_eq_false_iff_ne];omega
    have hfr:=P.cn K Lc he
    rw[if_neg he] at hR
    simp only[cC,↓reduceIte,zA,reduceCtorEq,zE,zB,zC,zD,zF,eb]
    refine hΨ14 _ _ ?_
    refine aA fun Ψ16 hΨ16 hΨ16'=>?_
    simp only[cC,↓reduceIte,zA,reduceCtorEq,zE,zB,zC,zD,zF]
    refine hΨ16 _ _ ?_
    refine aA fun Ψ17 hΨ17 hΨ17'=>?_
    have lh:=hV.oh.load (i:=0) rfl
    simp only[cC,↓reduceIte,zA,reduceCtorEq,zE,zB,zC,zD,zF,r2,lh]
    refine aB ?_ (VL hk.ok hV.H fun s7 aa an ac b7 hn7 hnm7 k7=>?_)
    ·simp only[cC,↓reduceIte,zA,reduceCtorEq,zE,zB,zC,zD,zF]
    try simp only[cC,↓reduceIte,zA,reduceCtorEq,zE,zB,zC,zD,zF]
    refine hΨ17 _ _ ?_
    have V7:=hV.aF k7
    have hal:=P.xI
    refine aL fun Ψ18 hΨ18 hΨ18e hΨ18'=>?_
    subst hn7
    refine dP (n:=P.all.length) (fun j a' s'=>∃ va vn vc,a'.aD 2=ptr s.next∧a'.aD 6=ptr s2.next∧a'.aD 7=ptr s4.next∧a'.aD 8=int n∧a'.aD 9=.slice va vn vc∧vn=(P.lJ (P.jC K Lc) (P.all.take j)).length∧kL s' 3 1 (.slice va vn vc) ((P.lJ (P.jC K Lc) (P.all.take j)).map int)∧(∀ b∈nameOf (.slice va vn vc),s7.next≤b)∧a'.aD 43=.slice aa P.all.length ac∧a'.aD 44=int P.all.length∧a'.aD 45=int j∧aC [] s7 s')
     (fun j a' s'=>∃ va vn vc,a'.aD 2=ptr s.next∧a'.aD 6=ptr s2.next∧a'.aD 7=ptr s4.next∧a'.aD 8=int n∧a'.aD 9=.slice va vn vc∧vn=(P.lJ (P.jC K Lc) (P.all.take (j+1))).length∧kL s' 3 1 (.slice va vn vc) ((P.lJ (P.jC K Lc) (P.all.take (j+1))).map int)∧(∀ b∈nameOf (.slice va vn vc),s7.next≤b)∧a'.aD 43=.slice aa P.all.length ac∧a'.aD 44=int P.all.length∧a'.aD 45=int j∧aC [] s7 s') ?_ ?_ ?_ ?_ (Nat.zero_le _) ?_
    ·rintro j a' s' hj ⟨va,vn,vc,r2,r6,r7,r8,r9,hvn,hb,hnm,r43,r44,r45,hk⟩ Ψ' hΨ'
     simp only[cC,↓reduceIte,zA,reduceCtorEq,zE,zB,zC,zD,zF,r44,r45]
     refine hΨ' _ _ (decide ((j:Int)<P.all.length)) ?_ (by simp) ⟨va,vn,vc,?_,?_,?_,?_,?_,hvn,hb,hnm,?_,?_,?_,hk⟩
     all_goals simp only[cC,↓reduceIte,zA,reduceCtorEq,zE,zB,zC,zD,zF,r2,r6,r7,r8,r9,r43,r44,r45]
    ·rintro j a' s' hj ⟨va,vn,vc,r2,r6,r7,r8,r9,hvn,hb,hnm,r43,r44,r45,hk⟩ Ψ' h1 h2 h3
     obtain⟨vb,voff,rfl⟩:=b7.sl.addr (show 0<P.all.length by omega)
     have g1:(0:Int)≤(j:Int):=Int.natCast_nonneg _
     have g2:(j:Int)<((P.all.length:Nat):Int):=by omega
     obtain⟨x,hx⟩:∃ x,x=P.all[j]:=⟨_,rfl⟩
     have lj:aI s'.look ⟨vb,voff+j,none⟩=some (int x):=by
      refine(b7.sl.aF hk (by simp)).load (i:=j) ?_
      rw[List.getElem?_map,List.getElem?_eq_getElem hj,hx];rfl
     have hxi:i64 x:=P.HD iJ (by rw[hx];exact List.getElem_mem _)
     have V8:=V7.aF hk
     have lm:=V8.om.load (i:=0) rfl
     have lh:=V8.oh.load (i:=0) rfl
     obtain⟨es,cM,m1,m2⟩:=yA V8.mp x
     have htk:P.all.take (j+1)=P.all.take j++[x]:=by rw[List.take_add_one,List.getElem?_eq_getElem hj,hx];rfl
     have hsn:=P.WE (P.jC K Lc) (P.all.take j) x
     rw[← htk] at hsn
     have hno:P.due (P.jC K Lc) x=false→P.lJ (P.jC K Lc) (P.all.take (j+1))=P.lJ (P.jC K Lc) (P.all.take j):=fun h=>by rw[hsn,h,if_neg (by simp),List.append_nil]
     have hlen:(P.lJ (P.jC K Lc) (P.all.take j)).length≤P.all.length:=by
      have h1:=P.KB (P.jC K Lc) (P.all.take j)
      have h2:=List.length_take_le j P.all
      rw[List.length_take] at h1;omega
     refine aA fun Ψ19 hΨ19 hΨ19'=>?_
     simp only[cC,↓reduceIte,zA,reduceCtorEq,zE,zB,zC,zD,zF,r43,r45,g1,g2,and_self,aJ,Int.toNat_natCast,Nat.mul_one,lj]
     refine hΨ19 _ _ ?_
     refine aA fun Ψ20 hΨ20 hΨ20'=>?_
     refine aA fun Ψ21 hΨ21 hΨ21'=>?_
     refine aH [(4,53)] (by kernel_rfl) fun O hO ΨR hR=>?_
     have y4:∀ a,aE O a 4=aM (a.aD 53):=hO (4,53) (by simp)
     rcases m2 with ⟨hc,m2⟩ | ⟨hc,i,m2⟩
     ·have hd:=hno (by unfold PH.due;rw[hc];rfl)
      simp only[cC,↓reduceIte,zA,reduceCtorEq,zE,zB,zC,zD,zF,y4,r6,lm,m1,m2]
      refine hR _ _ (hΨ21 _ _ ?_)
      simp only[cC,↓reduceIte,zA,reduceCtorEq,zE,zB,zC,zD,zF]
      refine hΨ20' _ _ _ (by simp) (h2 _ _ ⟨va,vn,vc,?_,?_,?_,?_,?_,by rw[hd];exact hvn,by rw[hd];exact hb,hnm,?_,?_,?_,hk⟩)
      all_goals simp only[cC,↓reduceIte,zA,reduceCtorEq,zE,zB,zC,zD,zF,r2,r6,r7,r8,r9,r43,r44,r45]
     ·simp only[cC,↓reduceIte,zA,reduceCtorEq,zE,zB,zC,zD,zF,y4,r6,lm,m1,m2,r2,lh]
      refine aB ?_ (bl hk.ok V8.H x hxi fun s8 k8=>?_)
      ·simp only[cC,↓reduceIte,zA,reduceCtorEq,zE,zB,zC,zD,zF]
      have hk8:=hk.trans k8
      have V9:=V8.aF k8
      have lm9:=V9.om.load (i:=0) rfl
      have lh9:=V9.oh.load (i:=0) rfl
      cases hkd:((P.lD x).k==2) with
      | false =>
       have hd:=hno (by unfold PH.due;rw[hkd];simp)
       simp only[cC,↓reduceIte,zA,reduceCtorEq,zE,zB,zC,zD,zF,y4,bne,hkd]
       refine hR _ _ (hΨ21 _ _ ?_)
       simp only[cC,↓reduceIte,zA,reduceCtorEq,zE,zB,zC,zD,zF]
       refine hΨ20' _ _ _ (by simp) (h2 _ _ ⟨va,vn,vc,?_,?_,?_,?_,?_,by rw[hd];exact hvn,by rw[hd];exact hb.aF k8 (by simp),hnm,?_,?_,?_,hk8⟩)
       all_goals simp only[cC,↓reduceIte,zA,reduceCtorEq,zE,zB,zC,zD,zF,r2,r6,r7,r8,r9,r43,r44,r45]
      | true =>
       simp only[cC,↓reduceIte,zA,reduceCtorEq,zE,zB,zC,zD,zF,y4,bne,hkd]
       refine hR _ _ (hΨ21 _ _ ?_)
       simp only[cC,↓reduceIte,zA,reduceCtorEq,zE,zB,zC,zD,zF]
       refine hΨ20 _ _ ?_
       refine aA fun Ψ22 hΨ22 hΨ22'=>?_
       simp only[cC,↓reduceIte,zA,reduceCtorEq,zE,zB,zC,zD,zF,r2,lh9]
       refine aB ?_ (DQ hk8.ok V9.H G x 0 hxi fun s9 k9=>?_)
       ·simp only[cC,↓reduceIte,zA,reduceCtorEq,zE,zB,zC,zD,zF]
       simp only[cC,↓reduceIte,zA,reduceCtorEq,zE,zB,zC,zD,zF]
       refine hΨ22 _ _ ?_
       have hk9:=hk8.trans k9
       have Va:=V9.aF k9
       have lma:=Va.om.load (i:=0) rfl
       have lha:=Va.oh.load (i:=0) rfl
       obtain⟨es',clk',p1,p2⟩:=yA Va.mp (P.ref x 0)
       refine aA fun Ψ23 hΨ23 hΨ23'=>?_
       rcases p2 with ⟨hc0,p2⟩ | ⟨hc0,i',p2⟩
       ·have hd:=hno (by unfold PH.due;rw[hc0];simp)
        simp only[cC,↓reduceIte,zA,reduceCtorEq,zE,zB,zC,zD,zF,r6,lma,p1,p2]
        refine hΨ23 _ _ ?_
        simp only[cC,↓reduceIte,zA,reduceCtorEq,zE,zB,zC,zD,zF]
        refine h1 _ _ ⟨va,vn,vc,?_,?_,?_,?_,?_,by rw[hd];exact hvn,by rw[hd];exact(hb.aF k8 (by simp)).aF k9 (by simp),hnm,?_,?_,?_,hk9⟩
        all_goals simp only[cC,↓reduceIte,zA,reduceCtorEq,zE,zB,zC,zD,zF,r2,r6,r7,r8,r9,r43,r44,r45]
       ·have hd:P.lJ (P.jC K Lc) (P.all.take (j+1))=P.lJ (P.jC K Lc) (P.all.take j)++[P.ref x 1]:=by
         rw[hsn,if_pos (by unfold PH.due;rw[hc,hkd,hc0];rfl)]
        simp only[cC,↓reduceIte,zA,reduceCtorEq,zE,zB,zC,zD,zF,r6,lma,p1,p2]
        refine hΨ23 _ _ ?_
        simp only[bE,RV,RG,↓reduceIte,zA,reduceCtorEq,zE,zB,zC,zD,zF]
        refine aA fun Ψ24 hΨ24 hΨ24'=>?_
        simp only[cC,↓reduceIte,zA,reduceCtorEq,zE,zB,zC,zD,zF,r2,lha]
        refine aB ?_ (DQ hk9.ok Va.H G x 1 hxi fun t1 q1=>?_)
        ·simp only[cC,↓reduceIte,zA,reduceCtorEq,zE,zB,zC,zD,zF]
        simp only[cC,↓reduceIte,zA,reduceCtorEq,zE,zB,zC,zD,zF]
        refine hΨ24 _ _ ?_
        have hq1:=hk9.trans q1
        obtain⟨t2,f2,q2,d2,u2⟩:=aT hq1.ok (L:=[int (P.ref x 1)]) (n:=1) (e:=3) rfl
        obtain⟨w,t3,f3,b3,q3,m3,a3,c3',rfl⟩:=eI (X:=X) (t:=62) (e:=3) (N:=1) (B:=8) (z:=.int .i64 0) (x:=.slice (some ⟨t1.next,0,none⟩) 1 1) (k:=1) (new:=[int (P.ref x 1)]) (by kernel_rfl) (by kernel_rfl) rfl q2.ok (by omega) ((((hb.aF k8 (by simp)).aF k9 (by simp)).aF q1 (by simp)).aF q2 (by simp)) rfl (gW (by omega) (d2.aS (i:=0) (k:=1) (Nat.le_refl _))) rfl rfl (by omega) (by omega)
        simp only[cC,↓reduceIte,zA,reduceCtorEq,zE,zB,zC,zD,zF,r9]
        rw[f2]
        refine jZ ?_ f3 ?_
        ·simp only[cC,↓reduceIte,zA,reduceCtorEq,zE,zB,zC,zD,zF]
        simp only[cC,↓reduceIte,zA,reduceCtorEq,zE,zB,zC,zD,zF]
        have hn7:=(hq1.trans q2).next
        refine h1 _ _ ⟨a3,vn+1,c3',?_,?_,?_,?_,?_,by rw[hd,List.length_append,← hvn];rfl,by rw[hd,List.map_append];exact b3,?_,?_,?_,?_,(hq1.trans q2).step q3 fun g hg=>.inr (k7.ok.fresh _ (hnm g hg))⟩
        ·simp only[cC,↓reduceIte,zA,reduceCtorEq,zE,zB,zC,zD,zF,r2]
        ·simp only[cC,↓reduceIte,zA,reduceCtorEq,zE,zB,zC,zD,zF,r6]
        ·simp only[cC,↓reduceIte,zA,reduceCtorEq,zE,zB,zC,zD,zF,r7]
        ·simp only[cC,↓reduceIte,zA,reduceCtorEq,zE,zB,zC,zD,zF,r8]
        ·simp only[cC,↓reduceIte,zA,reduceCtorEq,zE,zB,zC,zD,zF]
        ·intro b hb'
         rcases m3 b hb' with h | h
         ·exact hnm b h
         ·omega
        ·simp only[cC,↓reduceIte,zA,reduceCtorEq,zE,zB,zC,zD,zF,r43]
        ·simp only[cC,↓reduceIte,zA,reduceCtorEq,zE,zB,zC,zD,zF,r44]
        ·simp only[cC,↓reduceIte,zA,reduceCtorEq,zE,zB,zC,zD,zF,r45]
    ·rintro j a' s' hj ⟨va,vn,vc,r2,r6,r7,r8,r9,hvn,hb,hnm,r43,r44,r45,hk⟩ Ψ' h1
     have w:IntKind.i64.wrap ((j:Int)+1)=((j+1:Nat):Int):=by rw[aR (by omega) (by omega)];rfl
     simp only[cC,↓reduceIte,zA,reduceCtorEq,zE,zB,zC,zD,zF,r45,w]
     refine h1 _ _ ⟨va,vn,vc,?_,?_,?_,?_,?_,hvn,hb,hnm,?_,?_,?_,hk⟩
     all_goals try simp only[cC,↓reduceIte,zA,reduceCtorEq,zE,zB,zC,zD,zF,r2,r6,r7,r8,r9,r43,r44]
    ·rintro a' s' ⟨va,vn,vc,r2,r6,r7,r8,r9,hvn,hb,hnm,r43,r44,r45,hk⟩
     rw[List.take_of_length_le (Nat.le_refl _)] at hvn hb
     refine hΨ18e _ _ (hΨ8 _ _ (hΨ7 _ _ ?_))
     have w:IntKind.i64.wrap ((n:Int)+1)=((n+1:Nat):Int):=by rw[aR (by omega) (by omega)];rfl
     have n7:=k7.next
     have nk:=hk0.next
     have hnl:=P.KB (P.jC K Lc) P.all
     simp only[cC,↓reduceIte,zA,reduceCtorEq,zE,zB,zC,zD,zF,r8,w]
     refine⟨P.free (P.jC K Lc),hfr,P.jC K Lc,rfl,P.lJ (P.jC K Lc) P.all,n+1,f,by omega,hR,by omega,r2,r6,r7,rfl,va,vn,vc,r9,hb.sl,by omega,?_,?_,V7.aF hk,?_⟩
     ·intro x hx
      obtain⟨y,hy,rfl⟩:=List.mem_map.1 hx
      exact PH.HN H y 1
     ·intro b hb
      have h1:=hnm b hb
      have h2:=hV.mp.lt hk0.ok
      omega
     ·exact hk0.trans (k7.any.trans hk.any)
    ·refine⟨none,0,0,?_,?_,?_,?_,?_,rfl,.nil,by simp[nameOf],?_,?_,?_,.refl k7.ok⟩
     all_goals try simp only[cC,↓reduceIte,zA,reduceCtorEq,zE,zB,zC,zD,zF,r2,r6,r7,r8]
     rfl
  ·refine⟨?_,?_,?_,?_,?_,?_,?_,?_,V,hk,hLc⟩
   all_goals try simp only[cC,↓reduceIte,zA,reduceCtorEq,zE,zB,zC,zD,zF,r2,r6,r7,r8,r9]
   rfl
 ·refine⟨[],L,0,32*P.N+1,va,vn,vc,rfl,by have:=P.QV [];omega,rfl,by have:=P.QV [];omega,?_,?_,?_,?_,?_,hL6,hmax,hLi,?_,V6,.refl k06.ok⟩
  all_goals try simp only[cC,↓reduceIte,zA,reduceCtorEq,zE,zB,zC,zD,zF]
  ·rfl
  ·intro b hb
   have:=hvn b hb
   omega
end
open Go.Proofs
set_option maxRecDepth 100000
set_option maxHeartbeats 1000000
def PH.mU (P:PH) (a:Int):Int:=if a=0∨P.has a=true then -1 else if (P.find a).isSome=true then 0 else if 0≤a∧a<64*P.N then 1 else 2
section
variable {kc:Kc} {q:Bool} {s:St} {Φ:Value→St→Prop} {h:Nat} {P:PH}
theorem DH:type_of% (An @RC<|An @RO<|An @RD<|An @RV<|An @RB<|@RG):=An @RC<|An @RO<|An @RD<|An @RV<|An @RB<|@RG
theorem lE (hs:Ok s) (H:aP s h P) (a:Int) (ha:i64 a) (hΦ:∀ s',aC [] s s'→Φ (int (if P.has a=true then P.w a.toNat else 0)) s'):okF q X (KO kc) 73 [ptr h,int a] s Φ:=by
 refine aG rfl fn_73 rfl (rs:=[.tmp 4]) rfl (N:=14) rfl rfl ?_
 refine aA fun Ψ0 hΨ0 hΨ0'=>?_
 simp only[DH,↓reduceIte,zA,reduceCtorEq,zE,zB,zC,zD,zF]
 refine hΨ0 _ _ ?_
 refine aA fun Ψ1 hΨ1 hΨ1'=>?_
 simp only[DH,↓reduceIte,zA,reduceCtorEq,zE,zB,zC,zD,zF]
 refine aB ?_ (ZL hs H a ha fun s2 k2=>?_)
 ·simp only[DH,↓reduceIte,zA,reduceCtorEq,zE,zB,zC,zD,zF]
 have:=hΦ _ k2
 by_cases hh:P.has a=true
 ·rw[if_pos hh] at this
  simp only[DH,↓reduceIte,zA,reduceCtorEq,zE,zB,zC,zD,zF,hh]
  refine hΨ1 _ _ ?_
  refine aA fun Ψ2 hΨ2 hΨ2'=>?_
  simp only[DH,↓reduceIte,zA,reduceCtorEq,zE,zB,zC,zD,zF]
  refine hΨ2 _ _ ?_
  simp only[DH,↓reduceIte,zA,reduceCtorEq,zE,zB,zC,zD,zF]
  exact this
 ·rw[if_neg hh] at this
  have hh:P.has a=false:=by simpa using hh
  simp only[DH,↓reduceIte,zA,reduceCtorEq,zE,zB,zC,zD,zF,hh,Bool.false_eq_true]
  refine hΨ1 _ _ ?_
  refine aA fun Ψ2 hΨ2 hΨ2'=>?_
  simp only[DH,↓reduceIte,zA,reduceCtorEq,zE,zB,zC,zD,zF]
  refine hΨ2 _ _ ?_
  simp only[DH,↓reduceIte,zA,reduceCtorEq,zE,zB,zC,zD,zF]
  exact this
theorem jD:type_of% (An @RC<|An @RO<|An @RD<|An @RV<|An @RB<|@RG):=An @RC<|An @RO<|An @RD<|An @RV<|An @RB<|@RG
theorem TE (hs:Ok s) (H:aP s h P) (a:Int) (ha:i64 a) (hΦ:∀ s',aC [] s s'→Φ (int (P.mU a)) s'):okF q X (KO kc) 64 [ptr h,int a] s Φ:=by
 unfold PH.mU at hΦ
 refine aG rfl fn_64 rfl (rs:=[.tmp 4]) rfl (N:=35) rfl rfl ?_
 refine aA fun Ψ0 hΨ0 hΨ0'=>?_
 simp only[jD,↓reduceIte,zA,reduceCtorEq,zE,zB,zC,zD,zF]
 refine hΨ0 _ _ ?_
 refine aA fun Ψ1 hΨ1 hΨ1'=>?_
 simp only[jD,↓reduceIte,zA,reduceCtorEq,zE,zB,zC,zD,zF]
 refine aB ?_ (xX hs H a fun s2 k2=>?_)
 ·simp only[jD,↓reduceIte,zA,reduceCtorEq,zE,zB,zC,zD,zF]
 have H2:=H.aN k2
 obtain⟨x,e,he,hf⟩:∃ x e,MX (P.find a)=.tuple #[int x,int e]∧(e==0)=(P.find a).isSome:=by
  cases P.find a with
  | none=>exact⟨_,_,rfl,rfl⟩
  | some y=>exact⟨_,_,rfl,rfl⟩
 rw[he]
 try simp only[jD,↓reduceIte,zA,reduceCtorEq,zE,zB,zC,zD,zF]
 refine hΨ1 _ _ ?_
 refine aA fun Ψ2 hΨ2 hΨ2'=>?_
 simp only[jD,↓reduceIte,zA,reduceCtorEq,zE,zB,zC,zD,zF]
 refine aB ?_ (OD k2.ok H2 a ?_)
 ·simp only[jD,↓reduceIte,zA,reduceCtorEq,zE,zB,zC,zD,zF]
 obtain⟨y,e2,he2,hf2⟩:∃ y e,(if 0≤a∧a<64*P.N then Value.tuple #[int (P.w a.toNat),int 0] else Value.tuple #[int 0,int 1])=.tuple #[int y,int e]∧(e==0)=decide (0≤a∧a<64*P.N):=by
  by_cases hc:0≤a∧a<64*P.N
  ·rw[if_pos hc];exact⟨_,_,rfl,by rw[decide_eq_true hc];rfl⟩
  ·rw[if_neg hc];exact⟨_,_,rfl,by rw[decide_eq_false hc];rfl⟩
 rw[he2]
 try simp only[jD,↓reduceIte,zA,reduceCtorEq,zE,zB,zC,zD,zF]
 refine hΨ2 _ _ ?_
 refine aA fun Ψ3 hΨ3 hΨ3'=>?_
 refine aL fun Ψ4 hΨ4 hΨ4e hΨ4'=>?_
 refine aA fun Ψ5 hΨ5 hΨ5'=>?_
 refine aH [(2,24)] (by kernel_rfl) fun O hO ΨR hR=>?_
 have y2:∀ a,aE O a 2=aM (a.aD 24):=hO (2,24) (by simp)
 have htail:∀ s3,aC [] s s3→¬ (a=0∨P.has a=true)→True:=fun _ _ _=>trivial
 cases h0:(a==0) with
 | true =>
  rw[if_pos (.inl (by simpa using h0))] at hΦ
  simp only[jD,↓reduceIte,zA,reduceCtorEq,zE,zB,zC,zD,zF,y2,h0]
  refine hR _ _ (hΨ5 _ _ ?_)
  simp only[jD,↓reduceIte,zA,reduceCtorEq,zE,zB,zC,zD,zF]
  refine hΨ4' _ _ _ (by simp) (by simp) (hΨ3' _ _ _ (by simp) ?_)
  simp only[jD,↓reduceIte,zA,reduceCtorEq,zE,zB,zC,zD,zF]
  exact hΦ _ k2
 | false =>
  simp only[jD,↓reduceIte,zA,reduceCtorEq,zE,zB,zC,zD,zF,y2,h0]
  refine aB ?_ (oZ k2.ok H2 a ha fun s3 k3=>?_)
  ·simp only[jD,↓reduceIte,zA,reduceCtorEq,zE,zB,zC,zD,zF]
  have k03:=k2.trans k3
  cases hh:P.has a with
  | true =>
   rw[if_pos (.inr hh)] at hΦ
   simp only[jD,↓reduceIte,zA,reduceCtorEq,zE,zB,zC,zD,zF,y2]
   refine hR _ _ (hΨ5 _ _ ?_)
   simp only[jD,↓reduceIte,zA,reduceCtorEq,zE,zB,zC,zD,zF]
   refine hΨ4' _ _ _ (by simp) (by simp) (hΨ3' _ _ _ (by simp) ?_)
   simp only[jD,↓reduceIte,zA,reduceCtorEq,zE,zB,zC,zD,zF]
   exact hΦ _ k03
  | false =>
   rw[if_neg (by rw[hh];simp only[Bool.false_eq_true,or_false];simpa using h0)] at hΦ
   simp only[jD,↓reduceIte,zA,reduceCtorEq,zE,zB,zC,zD,zF,y2]
   refine hR _ _ (hΨ5 _ _ ?_)
   simp only[bE,RV,RG,↓reduceIte,zA,reduceCtorEq,zE,zB,zC,zD,zF]
   refine aA fun Ψ6 hΨ6 hΨ6'=>?_
   cases hs1:(P.find a).isSome with
   | true =>
    rw[hs1,if_pos rfl] at hΦ
    rw[hs1] at hf
    simp only[jD,↓reduceIte,zA,reduceCtorEq,zE,zB,zC,zD,zF,hf]
    refine hΨ6 _ _ ?_
    simp only[jD,↓reduceIte,zA,reduceCtorEq,zE,zB,zC,zD,zF]
    refine hΨ4' _ _ _ (by simp) (by simp) (hΨ3' _ _ _ (by simp) ?_)
    simp only[jD,↓reduceIte,zA,reduceCtorEq,zE,zB,zC,zD,zF]
    exact hΦ _ k03
   | false =>
    rw[hs1,if_neg (by simp)] at hΦ
    rw[hs1] at hf
    simp only[jD,↓reduceIte,zA,reduceCtorEq,zE,zB,zC,zD,zF,hf]
    refine hΨ6 _ _ ?_
    simp only[bE,RV,RG,↓reduceIte,zA,reduceCtorEq,zE,zB,zC,zD,zF]
    refine aA fun Ψ7 hΨ7 hΨ7'=>?_
    by_cases hc:0≤a∧a<64*P.N
    ·rw[if_pos hc] at hΦ
     rw[decide_eq_true hc] at hf2
     simp only[jD,↓reduceIte,zA,reduceCtorEq,zE,zB,zC,zD,zF,hf2]
     refine hΨ7 _ _ ?_
     simp only[jD,↓reduceIte,zA,reduceCtorEq,zE,zB,zC,zD,zF]
     refine hΨ4' _ _ _ (by simp) (by simp) (hΨ3' _ _ _ (by simp) ?_)
     simp only[jD,↓reduceIte,zA,reduceCtorEq,zE,zB,zC,zD,zF]
     exact hΦ _ k03
    ·rw[if_neg hc] at hΦ
     rw[decide_eq_false hc] at hf2
     simp only[jD,↓reduceIte,zA,reduceCtorEq,zE,zB,zC,zD,zF,hf2]
     refine hΨ7 _ _ ?_
     simp only[jD,↓reduceIte,zA,reduceCtorEq,zE,zB,zC,zD,zF]
     refine hΨ4 _ _ ?_
     refine hΨ3 _ _ ?_
     simp only[jD,↓reduceIte,zA,reduceCtorEq,zE,zB,zC,zD,zF]
     exact hΦ _ k03
theorem aAc:type_of% (An @RX<|An @wG<|An @rY<|An @IH<|@zy):=An @RX<|An @wG<|An @rY<|An @IH<|@zy
theorem cz (hs:Ok s) {b o vn vc:Nat} {va:Option Addr} {Lb C:List Value} (O:Obj s b Lb) (ho:Lb[o]?=some (.slice va vn vc)) (B:kL s 51 3 (.slice va vn vc) C) (hne:b∉nameOf (.slice va vn vc)) (hm:vn<1000000) (k at_ i:Int)
  (hΦ:∀ va' vc' s',Obj s' b (Lb.set o (.slice va' (vn+1) vc'))→kL s' 51 3 (.slice va' (vn+1) vc') (C++[int k,int at_,int i])→(∀ x∈nameOf (.slice va' (vn+1) vc'),x∈nameOf (.slice va vn vc)∨s.next≤x)→aC (b::nameOf (.slice va vn vc)) s s'→Φ (.tuple #[]) s'):okF q X (KO kc) 65 [.pointer (some ⟨b,o,none⟩),int k,int at_,int i] s Φ:=by
 have l:=O.load ho
 refine aG rfl fn_65 rfl (rs:=[]) rfl (N:=19) rfl rfl ?_
 simp only[aAc,↓reduceIte,zA,reduceCtorEq,zE,zB,zC,zD,zF,l]
 obtain⟨s1,e1,k1,c1,n1⟩:=aT hs (L:=[int k,int at_,int i]) (n:=3) (e:=51) rfl
 rw[e1]
 obtain⟨w,s2,e2,b2,k2,m2,a2,c2,rfl⟩:=eI (X:=X) (t:=110) (e:=51) (N:=3) (B:=24) (z:=.agg #[int 0,int 0,int 0]) (x:=.slice (some ⟨s.next,0,none⟩) 1 1) (k:=1) (new:=[int k,int at_,int i]) (by kernel_rfl) (by kernel_rfl) rfl k1.ok (by omega) (B.aF k1 (by simp)) rfl (gW (by omega) (c1.aS (i:=0) (k:=3) (Nat.le_refl _))) rfl rfl (by omega) (by omega)
 refine jZ ?_ e2 ?_
 ·simp only[aAc,↓reduceIte,zA,reduceCtorEq,zE,zB,zC,zD,zF]
 obtain⟨s3,e3,c3,k3⟩:=((O.aF k1 (by simp)).aF k2 hne).store k2.ok (i:=o) (vs:=[.slice a2 (vn+1) c2]) (by have:=(List.getElem?_eq_some_iff.1 ho).1;simp;omega) rfl
 simp only[aAc,↓reduceIte,zA,reduceCtorEq,zE,zB,zC,zD,zF,e3]
 have gU:=O.lt hs
 have n1':=k1.next
 refine hΦ a2 c2 s3 ?_ (b2.aF k3 fun x hx hx'=>?_) (fun x hx=>(m2 x hx).imp id fun h=>by omega) ((k1.any.trans (k2.mono fun x hx=>List.mem_cons_of_mem _ hx)).trans (k3.mono fun x hx=>by simp at hx;simp[hx]))
 ·rw[LQ (List.getElem?_eq_some_iff.1 ho).1] at c3;exact c3
 ·simp at hx';subst hx'
  rcases m2 _ hx with h | h
  ·exact hne h
  ·omega
end
end Go.Dust
