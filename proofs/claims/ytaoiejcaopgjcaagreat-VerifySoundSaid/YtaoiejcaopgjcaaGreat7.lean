/- VerifySound walked in D, function by function, and its plain law (J1 J2 J3). -/
import Derived.Test.YtaoiejcaopgjcaaGreat6
set_option linter.unusedVariables false
set_option linter.unusedSimpArgs false
open Nat renaming reduceEqDiff → zA, reduceMul → zB, reduceAdd → zC, reduceBEq → zD
open Int renaming reduceEq → zE, reduceBEq → zF
namespace Go.Dust
open Go.Proofs
set_option maxRecDepth 100000
set_option maxHeartbeats 4000000
structure RQ where
 sa:Option Addr
 sc:Nat
 rows:List Nat
 gn:Nat
 va:Option Addr
 vc:Nat
abbrev qi (n:Nat):Value:=.slice (some ⟨n,0,none⟩) 16 16
def RQ.own (r:Nat) (Q:RQ):List Nat:=r::Q.gn::Q.rows
structure mV (s:St) (r:Nat) (Q:RQ) (R:PR):Prop where
 c:Obj s r [.slice Q.sa R.m Q.sc,.slice (some ⟨Q.gn,0,none⟩) 16 16,.slice Q.va R.q.length Q.vc]
 cs:kL s 62 1 (.slice Q.sa R.m Q.sc) (Q.rows.map qi)
 rl:Q.rows.length=R.m
 cr:∀ k (hk:k<Q.rows.length),Obj s Q.rows[k] (row 16 fun i=>int (R.sl (k*16+i)))
 cg:Obj s Q.gn (row 16 fun i=>int (R.gl i))
 cq:kL s 3 1 (.slice Q.va R.q.length Q.vc) (R.q.map int)
 nd:(Q.own r).Nodup
 ns:∀ b∈nameOf (.slice Q.sa R.m Q.sc),b∉Q.own r∧b∉nameOf (.slice Q.va R.q.length Q.vc)
 nq:∀ b∈nameOf (.slice Q.va R.q.length Q.vc),b∉Q.own r
 m1:1≤R.m
 m4:R.m≤4
 ql:R.q.length≤64
def RQ.aU (r:Nat) (Q:RQ) (R:PR):List Nat:=Q.own r++nameOf (.slice Q.sa R.m Q.sc)++nameOf (.slice Q.va R.q.length Q.vc)
namespace mV
variable {F:List Nat} {s s':St} {r:Nat} {Q:RQ} {R:PR}
theorem congr {R':PR} (H:mV s r Q R) (h1:R'.m=R.m) (h2:R'.sl=R.sl) (h3:R'.gl=R.gl) (h4:R'.q=R.q):mV s r Q R':=by
 rcases R with ⟨a1,a2,a3,a4,a5,m,sl,gl,q⟩
 rcases R' with ⟨b1,b2,b3,b4,b5,m',sl',gl',q'⟩
 simp only at h1 h2 h3 h4
 subst h1 h2 h3 h4
 obtain⟨c,cs,rl,cr,cg,cq,nd,ns,nq,m1,m4,ql⟩:=H
 exact⟨c,cs,rl,cr,cg,cq,nd,ns,nq,m1,m4,ql⟩
theorem aF (H:mV s r Q R) (k:aC F s s') (hF:∀ x∈Q.aU r R,x∉F):mV s' r Q R:=by
 obtain⟨c,cs,rl,cr,cg,cq,nd,ns,nq,m1,m4,ql⟩:=H
 have o:∀ x∈Q.own r,x∉F:=fun x hx=>hF x (List.mem_append_left _ (List.mem_append_left _ hx))
 exact⟨c.aF k (o _ (List.mem_cons_self ..)),cs.aF k (fun b hb=>hF b (List.mem_append_left _ (List.mem_append_right _ hb))),rl,
  fun i hi=>(cr i hi).aF k (o _ (List.mem_cons_of_mem _ (List.mem_cons_of_mem _ (List.getElem_mem hi)))),cg.aF k (o _ (List.mem_cons_of_mem _ (List.mem_cons_self ..))),
  cq.aF k (fun b hb=>hF b (List.mem_append_right _ hb)),nd,ns,nq,m1,m4,ql⟩
theorem aN (H:mV s r Q R) (k:aC [] s s'):mV s' r Q R:=H.aF k fun _ _=>by simp
theorem l0 (H:mV s r Q R):aI s.look ⟨r,0,none⟩=some (.slice Q.sa R.m Q.sc):=H.c.load rfl
theorem l1 (H:mV s r Q R):aI s.look ⟨r,1,none⟩=some (.slice (some ⟨Q.gn,0,none⟩) 16 16):=H.c.load rfl
theorem l2 (H:mV s r Q R):aI s.look ⟨r,2,none⟩=some (.slice Q.va R.q.length Q.vc):=H.c.load rfl
theorem cH (H:mV s r Q R) (hs:Ok s):∀ x∈Q.aU r R,x<s.next:=by
 intro x hx
 rcases List.mem_append.1 hx with hx | hx
 ·rcases List.mem_append.1 hx with hx | hx
  ·rcases List.mem_cons.1 hx with rfl | hx
   ·exact H.c.lt hs
   ·rcases List.mem_cons.1 hx with rfl | hx
    ·exact H.cg.lt hs
    ·obtain⟨i,hi,rfl⟩:=List.mem_iff_getElem.1 hx
     exact(H.cr i hi).lt hs
  ·exact H.cs.lt hs x hx
 ·exact H.cq.lt hs x hx
end mV
section
variable {kc:Kc} {q:Bool} {s:St} {Φ:Value→St→Prop} {r:Nat} {Q:RQ} {R:PR}
theorem aAg:type_of% (An @RX<|An @yd<|An @xw<|An @lU<|An @sV<|@sF):=An @RX<|An @yd<|An @xw<|An @lU<|An @sV<|@sF
theorem HO (H:mV s r Q R) (hΦ:Φ (.bool true) s):okF q X (KO kc) 93 [ptr r] s Φ:=by
 have n2:=H.m1
 have hp:((R.m:Nat):Int)>0:=by omega
 refine aG rfl fn_93 rfl (rs:=[.tmp 2]) rfl (N:=13) rfl rfl ?_
 refine aA fun Ψ0 hΨ0 hΨ0'=>?_
 simp only[aAg,↓reduceIte,zA,reduceCtorEq,zE,zB,zC,zD,zF]
 refine hΨ0 _ _ ?_
 refine aA fun Ψ1 hΨ1 hΨ1'=>?_
 refine aH [(2,5)] (by kernel_rfl) fun O hO ΨR hR=>?_
 have y2:∀ a,aE O a 2=aM (a.aD 5):=hO (2,5) (by simp)
 simp only[aAg,↓reduceIte,zA,reduceCtorEq,zE,zB,zC,zD,zF,y2,H.l0,hp,decide_true]
 refine hR _ _ (hΨ1 _ _ ?_)
 simp only[aAg,↓reduceIte,zA,reduceCtorEq,zE,zB,zC,zD,zF]
 exact hΦ
theorem EU:type_of% (An @RX<|An @lU<|An @sV<|@sF):=An @RX<|An @lU<|An @sV<|@sF
theorem XL (H:mV s r Q R) (hΦ:Φ (int R.m) s):okF q X (KO kc) 192 [ptr r] s Φ:=by
 refine aG rfl fn_192 rfl (rs:=[.tmp 2]) rfl (N:=11) rfl rfl ?_
 refine aA fun Ψ0 hΨ0 hΨ0'=>?_
 simp only[EU,↓reduceIte,zA,reduceCtorEq,zE,zB,zC,zD,zF]
 refine hΨ0 _ _ ?_
 refine aA fun Ψ1 hΨ1 hΨ1'=>?_
 refine aA fun Ψ2 hΨ2 hΨ2'=>?_
 simp only[EU,↓reduceIte,zA,reduceCtorEq,zE,zB,zC,zD,zF]
 refine aB ?_ (HO H ?_)
 ·simp only[EU,↓reduceIte,zA,reduceCtorEq,zE,zB,zC,zD,zF]
 try simp only[EU,↓reduceIte,zA,reduceCtorEq,zE,zB,zC,zD,zF]
 refine hΨ2 _ _ ?_
 simp only[EU,↓reduceIte,zA,reduceCtorEq,zE,zB,zC,zD,zF]
 refine hΨ1 _ _ ?_
 simp only[EU,↓reduceIte,zA,reduceCtorEq,zE,zB,zC,zD,zF,H.l0]
 exact hΦ
theorem uZ:type_of% (An @RX<|An @BG<|An @oX<|@cY):=An @RX<|An @BG<|An @oX<|@cY
theorem zk (hs:Ok s) (H:mV s r Q R) (hΦ:∀ va vc s',aC [] s s'→Φ (.slice va R.q.length vc) s'):okF q X (KO kc) 150 [ptr r] s Φ:=by
 have hql:=H.ql
 refine aG rfl fn_150 rfl (rs:=[.tmp 2]) rfl (N:=12) rfl rfl ?_
 refine aA fun Ψ0 hΨ0 hΨ0'=>?_
 simp only[uZ,↓reduceIte,zA,reduceCtorEq,zE,zB,zC,zD,zF]
 refine hΨ0 _ _ ?_
 refine aA fun Ψ1 hΨ1 hΨ1'=>?_
 refine aA fun Ψ2 hΨ2 hΨ2'=>?_
 simp only[uZ,↓reduceIte,zA,reduceCtorEq,zE,zB,zC,zD,zF]
 refine aB ?_ (HO H ?_)
 ·simp only[uZ,↓reduceIte,zA,reduceCtorEq,zE,zB,zC,zD,zF]
 try simp only[uZ,↓reduceIte,zA,reduceCtorEq,zE,zB,zC,zD,zF]
 refine hΨ2 _ _ ?_
 simp only[uZ,↓reduceIte,zA,reduceCtorEq,zE,zB,zC,zD,zF]
 refine hΨ1 _ _ ?_
 obtain⟨s1,e1,k1,c1,n1⟩:=aT hs (L:=[]) (n:=0) (e:=3) rfl
 obtain⟨e,c1⟩:=c1
 have B1:kL s1 3 1 (.slice (some ⟨s.next,0,none⟩) 0 0) []:=by
  rw[← e1]
  exact .own (L0:=[]) Cells.uP (by simp) (Nat.le_refl _) rfl (fun i hi=>absurd hi (Nat.not_lt_zero _))
 obtain⟨v,s4,h4,b4,k4,m4,a4,c4,rfl⟩:=eI (X:=X) (t:=62) (e:=3) (N:=1) (B:=8) (z:=.int .i64 0) (x:=.slice Q.va R.q.length Q.vc) (k:=R.q.length) (new:=R.q.map int) (by kernel_rfl) (by kernel_rfl) rfl k1.ok (by omega) B1 rfl (H.cq.aF k1 (by simp)).sl.first (by rw[List.length_map,Nat.mul_one]) (QA _) (by omega) (by omega)
 have hk:aC [] s s4:=k1.step k4 fun y hy=>.inr (by rw[List.mem_singleton.1 (show y∈[s.next] from hy)];exact hs.fresh _ (Nat.le_refl _))
 simp only[uZ,↓reduceIte,zA,reduceCtorEq,zE,zB,zC,zD,zF]
 rw[e1]
 simp only[uZ,↓reduceIte,zA,reduceCtorEq,zE,zB,zC,zD,zF,(H.aN k1).l2]
 refine jZ ?_ h4 ?_
 ·simp only[uZ,↓reduceIte,zA,reduceCtorEq,zE,zB,zC,zD,zF]
 simp only[uZ,↓reduceIte,zA,reduceCtorEq,zE,zB,zC,zD,zF]
 rw[Nat.zero_add]
 exact hΦ a4 c4 s4 hk
theorem mV.newQ {s':St} (H:mV s r Q R) {F:List Nat} (k:aC F s s') (hF:∀ x∈Q.own r++nameOf (.slice Q.sa R.m Q.sc),x≠r→x∉F) {va:Option Addr} {vc:Nat} {L:List Int} (hc:Obj s' r [.slice Q.sa R.m Q.sc,.slice (some ⟨Q.gn,0,none⟩) 16 16,.slice va L.length vc])
  (hq:kL s' 3 1 (.slice va L.length vc) (L.map int)) (hn:∀ b∈nameOf (.slice va L.length vc),b∉Q.own r∧b∉nameOf (.slice Q.sa R.m Q.sc)) (hl:L.length≤64):mV s' r {Q with va:=va,vc:=vc} {R with q:=L}:=by
 obtain⟨c,cs,rl,cr,cg,cq,nd,ns,nq,m1,m4,ql⟩:=H
 have hne:∀ x∈Q.gn::Q.rows,x≠r:=fun x hx e=>by
  unfold RQ.own at nd
  rw[List.nodup_cons] at nd
  exact nd.1 (by rw[← e];exact hx)
 refine⟨hc,cs.aF k (fun b hb=>hF b (List.mem_append_right _ hb) fun e=>(ns b hb).1 (by rw[e];exact List.mem_cons_self ..)),rl,
  fun i hi=>(cr i hi).aF k (hF _ (List.mem_append_left _ (List.mem_cons_of_mem _ (List.mem_cons_of_mem _ (List.getElem_mem hi)))) (hne _ (List.mem_cons_of_mem _ (List.getElem_mem hi)))),
  cg.aF k (hF _ (List.mem_append_left _ (List.mem_cons_of_mem _ (List.mem_cons_self ..))) (hne _ (List.mem_cons_self ..))),hq,nd,fun b hb=>⟨(ns b hb).1,fun h=>(hn b h).2 hb⟩,fun b hb=>(hn b hb).1,m1,m4,hl⟩
theorem jN:type_of% (An @RX<|An @oX<|An @cY<|An @cO<|An @eG<|@GL):=An @RX<|An @oX<|An @cY<|An @cO<|An @eG<|@GL
theorem rr_Push (hs:Ok s) (H:mV s r Q R) (v:Int) (hΦ:∀ Q' s',mV s' r Q' {R with q:=R.vJ v}→aC (Q.aU r R) s s'→(∀ b∈Q'.aU r {R with q:=R.vJ v},b∈Q.aU r R∨s.next≤b)→Φ (int (R.FZ v)) s'):okF q X (KO kc) 151 [ptr r,int v] s Φ:=by
 unfold PR.vJ PR.FZ at hΦ
 have hql:=H.ql
 have hfl:=H.cH hs
 refine aG rfl fn_151 rfl (rs:=[.tmp 4]) rfl (N:=26) rfl rfl ?_
 refine aA fun Ψ0 hΨ0 hΨ0'=>?_
 simp only[jN,↓reduceIte,zA,reduceCtorEq,zE,zB,zC,zD,zF]
 refine hΨ0 _ _ ?_
 refine aA fun Ψ1 hΨ1 hΨ1'=>?_
 refine aA fun Ψ2 hΨ2 hΨ2'=>?_
 simp only[jN,↓reduceIte,zA,reduceCtorEq,zE,zB,zC,zD,zF]
 refine aB ?_ (HO H ?_)
 ·simp only[jN,↓reduceIte,zA,reduceCtorEq,zE,zB,zC,zD,zF]
 try simp only[jN,↓reduceIte,zA,reduceCtorEq,zE,zB,zC,zD,zF]
 refine hΨ2 _ _ ?_
 simp only[jN,↓reduceIte,zA,reduceCtorEq,zE,zB,zC,zD,zF]
 refine hΨ1 _ _ ?_
 refine aA fun Ψ3 hΨ3 hΨ3'=>?_
 refine aA fun Ψ4 hΨ4 hΨ4'=>?_
 by_cases h0:v≤0
 ·rw[if_pos h0] at hΦ
  simp only[jN,↓reduceIte,zA,reduceCtorEq,zE,zB,zC,zD,zF,h0,decide_true]
  refine hΨ4 _ _ ?_
  simp only[jN,↓reduceIte,zA,reduceCtorEq,zE,zB,zC,zD,zF]
  refine hΨ3' _ _ _ (by simp) ?_
  simp only[jN,↓reduceIte,zA,reduceCtorEq,zE,zB,zC,zD,zF]
  exact hΦ Q s H (.refl hs) (fun b hb=>.inl hb)
 ·rw[if_neg h0] at hΦ
  simp only[jN,↓reduceIte,zA,reduceCtorEq,zE,zB,zC,zD,zF,h0,decide_false]
  refine hΨ4 _ _ ?_
  simp only[jN,↓reduceIte,zA,reduceCtorEq,zE,zB,zC,zD,zF]
  refine hΨ3 _ _ ?_
  refine aA fun Ψ5 hΨ5 hΨ5'=>?_
  refine aA fun Ψ6 hΨ6 hΨ6'=>?_
  by_cases h1:R.q.length=64
  ·have e1:((R.q.length:Nat):Int)≥64:=by omega
   rw[if_pos h1] at hΦ
   simp only[jN,↓reduceIte,zA,reduceCtorEq,zE,zB,zC,zD,zF,H.l2,e1,decide_true]
   refine hΨ6 _ _ ?_
   simp only[jN,↓reduceIte,zA,reduceCtorEq,zE,zB,zC,zD,zF]
   refine hΨ5' _ _ _ (by simp) ?_
   simp only[jN,↓reduceIte,zA,reduceCtorEq,zE,zB,zC,zD,zF]
   exact hΦ Q s H (.refl hs) (fun b hb=>.inl hb)
  ·have e1:¬ ((R.q.length:Nat):Int)≥64:=by omega
   rw[if_neg h1] at hΦ
   simp only[if_true] at hΦ
   simp only[jN,↓reduceIte,zA,reduceCtorEq,zE,zB,zC,zD,zF,H.l2,e1,decide_false]
   refine hΨ6 _ _ ?_
   simp only[jN,↓reduceIte,zA,reduceCtorEq,zE,zB,zC,zD,zF]
   refine hΨ5 _ _ ?_
   obtain⟨s1,f1,k1,c1,n1⟩:=aT hs (L:=[int v]) (n:=1) (e:=3) rfl
   obtain⟨w,s2,h2,b2,k2,m2,a2,c2,rfl⟩:=eI (X:=X) (t:=62) (e:=3) (N:=1) (B:=8) (z:=.int .i64 0) (x:=.slice (some ⟨s.next,0,none⟩) 1 1) (k:=1) (new:=[int v]) (by kernel_rfl) (by kernel_rfl) rfl k1.ok (by omega) (H.cq.aF k1 (by simp)) rfl (gW (by omega) (c1.aS (i:=0) (k:=1) (Nat.le_refl _))) rfl rfl (by omega) (by omega)
   have rnq:r∉nameOf (.slice Q.va R.q.length Q.vc):=fun h=>H.nq r h (List.mem_cons_self ..)
   obtain⟨s3,h3,c3,k3⟩:=((H.c.aF k1 (by simp)).aF k2 rnq).dU k2.ok (i:=2) (v:=.slice a2 (R.q.length+1) c2) (by simp) rfl
   refine aA fun Ψ7 hΨ7 hΨ7'=>?_
   simp only[jN,↓reduceIte,zA,reduceCtorEq,zE,zB,zC,zD,zF,H.l2]
   rw[f1]
   refine jZ ?_ h2 ?_
   ·simp only[jN,↓reduceIte,zA,reduceCtorEq,zE,zB,zC,zD,zF]
   simp only[jN,↓reduceIte,zA,reduceCtorEq,zE,zB,zC,zD,zF,h3]
   refine hΨ7 _ _ ?_
   simp only[jN,↓reduceIte,zA,reduceCtorEq,zE,zB,zC,zD,zF]
   have k03:aC (r::nameOf (.slice Q.va R.q.length Q.vc)) s s3:=((k1.any (G:=r::nameOf (.slice Q.va R.q.length Q.vc))).step k2 fun y hy=>.inl (List.mem_cons_of_mem _ hy)).step k3 fun y hy=>.inl (by rw[List.mem_singleton.1 hy];exact List.mem_cons_self ..)
   have eL:(R.q++[v]).length=R.q.length+1:=by rw[List.length_append,List.length_singleton]
   have hnm:∀ b∈nameOf (.slice a2 (R.q++[v]).length c2),b∈nameOf (.slice Q.va R.q.length Q.vc)∨s.next≤b:=fun b hb=>by
    rw[eL] at hb
    rcases m2 b hb with h | h
    ·exact .inl h
    ·have:=k1.next;right;omega
   have ho:∀ x∈Q.own r++nameOf (.slice Q.sa R.m Q.sc),x<s.next:=fun x hx=>hfl x (List.mem_append_left _ hx)
   refine hΦ {Q with va:=a2,vc:=c2} s3 (H.newQ k03 (fun x hx hne hm=>?_) (by rw[eL];exact c3) ?_ (fun b hb=>?_) (by rw[eL];omega)) (k03.mono fun x hx=>?_) (fun b hb=>?_)
   ·rcases List.mem_cons.1 hm with h | h
    ·exact hne h
    ·rcases List.mem_append.1 hx with hx | hx
     ·exact H.nq x h hx
     ·exact(H.ns x hx).2 h
   ·rw[List.map_append,eL]
    refine b2.aF k3 fun b hb hbr=>?_
    rw[← eL] at hb
    rcases hnm b hb with h | h
    ·rw[List.mem_singleton.1 hbr] at h;exact rnq h
    ·have:=H.c.lt hs;rw[List.mem_singleton.1 hbr] at h;omega
   ·rcases hnm b hb with h | h
    ·exact⟨H.nq b h,fun h'=>(H.ns b h').2 h⟩
    ·exact⟨fun h'=>by have:=ho b (List.mem_append_left _ h');omega,fun h'=>by have:=ho b (List.mem_append_right _ h');omega⟩
   ·rcases List.mem_cons.1 hx with h | h
    ·rw[h];exact List.mem_append_left _ (List.mem_append_left _ (List.mem_cons_self ..))
    ·exact List.mem_append_right _ h
   ·rcases List.mem_append.1 hb with h | h
    ·exact .inl (List.mem_append_left _ h)
    ·rcases hnm b h with h | h
     ·exact .inl (List.mem_append_right _ h)
     ·exact .inr h
end
open Go.Proofs
set_option maxRecDepth 100000
set_option maxHeartbeats 4000000
section
variable {kc:Kc} {q:Bool} {s:St} {Φ:Value→St→Prop} {r:Nat} {Q:RQ} {R:PR}
theorem dB:type_of% (An @RX<|An @iN<|An @bF<|An @oW<|An @lU<|An @sV<|An @sF<|An @lQ<|An @oX<|An @cY<|@cO):=An @RX<|An @iN<|An @bF<|An @oW<|An @lU<|An @sV<|An @sF<|An @lQ<|An @oX<|An @cY<|@cO
theorem rr_has (hs:Ok s) (H:mV s r Q R) (p:tS) (hΦ:∀ s',aC [] s s'→Φ (.bool (R.has p)) s'):okF q X (KO kc) 179 [ptr r,rM p] s Φ:=by
 refine aG rfl fn_179 rfl (rs:=[.tmp 4]) rfl (N:=67) rfl rfl ?_
 refine aA fun Ψ0 hΨ0 hΨ0'=>?_
 simp only[dB,↓reduceIte,zA,reduceCtorEq,zE,zB,zC,zD,zF]
 obtain⟨s1,e1,k1,c1,n1⟩:=aT hs (L:=[int p.k,int p.m,int p.i]) (n:=3) (e:=118) rfl
 rw[e1]
 refine hΨ0 _ _ ?_
 have H1:=H.aN k1
 have lk:aI s1.look ⟨s.next,0,none⟩=some (int p.k):=c1.load rfl
 have lm:aI s1.look ⟨s.next,1,none⟩=some (int p.m):=c1.load rfl
 have li:aI s1.look ⟨s.next,2,none⟩=some (int p.i):=c1.load rfl
 unfold PR.has at hΦ
 refine aA fun Ψ1 hΨ1 hΨ1'=>?_
 refine aA fun Ψ2 hΨ2 hΨ2'=>?_
 simp only[dB,↓reduceIte,zA,reduceCtorEq,zE,zB,zC,zD,zF,lk]
 refine hΨ2 _ _ ?_
 refine aL fun Ψ3 hΨ3 hΨ3e hΨ3'=>?_
 refine aA fun Ψ4 hΨ4 hΨ4'=>?_
 by_cases k0:p.k=0
 ·simp only[dB,↓reduceIte,zA,reduceCtorEq,zE,zB,zC,zD,zF,k0,beq_self_eq_true]
  refine hΨ4 _ _ ?_
  simp only[bE,RV,RG,↓reduceIte,zA,reduceCtorEq,zE,zB,zC,zD,zF]
  refine aA fun Ψ5 hΨ5 hΨ5'=>?_
  refine aQ [] [] [(3,12),(13,22),(18,27)] (by kernel_rfl) (by kernel_rfl) (by rfl) fun O hO ΨR hR=>?_
  have y3:∀ a,aE O a 3=aM (a.aD 12):=hO (3,12) (by simp)
  have y13:∀ a,aE O a 13=aM (a.aD 22):=hO (13,22) (by simp)
  have y18:∀ a,aE O a 18=aM (a.aD 27):=hO (18,27) (by simp)
  by_cases m0:p.m≥0
  ·by_cases m1:p.m<(R.m:Int)
   ·rw[if_pos ⟨k0,by omega,m1⟩] at hΦ
    by_cases i0:p.i≥0
    ·rw[show decide (0≤p.i∧p.i<16)=decide (p.i<16) from decide_eq_decide.2 ⟨fun h=>h.2,fun h=>⟨i0,h⟩⟩] at hΦ
     simp only[dB,↓reduceIte,zA,reduceCtorEq,zE,zB,zC,zD,zF,y3,y13,y18,lm,li,H1.l0,m0,m1,i0,decide_true]
     refine hR _ _ (hΨ5 _ _ ?_)
     simp only[dB,↓reduceIte,zA,reduceCtorEq,zE,zB,zC,zD,zF]
     refine hΨ3' _ _ _ (by simp) (by simp) (hΨ1' _ _ _ (by simp) ?_)
     simp only[dB,↓reduceIte,zA,reduceCtorEq,zE,zB,zC,zD,zF]
     exact hΦ _ (k1.cB _)
    ·rw[decide_eq_false (show ¬ (0≤p.i∧p.i<16) from fun h=>i0 h.1)] at hΦ
     simp only[dB,↓reduceIte,zA,reduceCtorEq,zE,zB,zC,zD,zF,y3,y13,y18,lm,li,H1.l0,m0,m1,i0,decide_true,decide_false]
     refine hR _ _ (hΨ5 _ _ ?_)
     simp only[dB,↓reduceIte,zA,reduceCtorEq,zE,zB,zC,zD,zF]
     refine hΨ3' _ _ _ (by simp) (by simp) (hΨ1' _ _ _ (by simp) ?_)
     simp only[dB,↓reduceIte,zA,reduceCtorEq,zE,zB,zC,zD,zF]
     exact hΦ _ (k1.cB _)
   ·rw[if_neg (fun h=>m1 h.2.2),if_neg (by omega),if_neg (by omega)] at hΦ
    simp only[dB,↓reduceIte,zA,reduceCtorEq,zE,zB,zC,zD,zF,y3,y13,y18,lm,li,H1.l0,m0,m1,decide_true,decide_false]
    refine hR _ _ (hΨ5 _ _ ?_)
    simp only[dB,↓reduceIte,zA,reduceCtorEq,zE,zB,zC,zD,zF]
    refine hΨ3' _ _ _ (by simp) (by simp) (hΨ1' _ _ _ (by simp) ?_)
    simp only[dB,↓reduceIte,zA,reduceCtorEq,zE,zB,zC,zD,zF]
    exact hΦ _ (k1.cB _)
  ·rw[if_neg (fun h=>m0 h.2.1),if_neg (by omega),if_neg (by omega)] at hΦ
   simp only[dB,↓reduceIte,zA,reduceCtorEq,zE,zB,zC,zD,zF,y3,y13,y18,lm,li,H1.l0,m0,decide_false]
   refine hR _ _ (hΨ5 _ _ ?_)
   simp only[dB,↓reduceIte,zA,reduceCtorEq,zE,zB,zC,zD,zF]
   refine hΨ3' _ _ _ (by simp) (by simp) (hΨ1' _ _ _ (by simp) ?_)
   simp only[dB,↓reduceIte,zA,reduceCtorEq,zE,zB,zC,zD,zF]
   exact hΦ _ (k1.cB _)
 have e0:(p.k==0)=false:=by simpa using k0
 rw[if_neg (fun h=>k0 h.1)] at hΦ
 simp only[dB,↓reduceIte,zA,reduceCtorEq,zE,zB,zC,zD,zF,e0]
 refine hΨ4 _ _ ?_
 simp only[bE,RV,RG,↓reduceIte,zA,reduceCtorEq,zE,zB,zC,zD,zF]
 refine aA fun Ψ5 hΨ5 hΨ5'=>?_
 by_cases k1':p.k=1
 ·simp only[dB,↓reduceIte,zA,reduceCtorEq,zE,zB,zC,zD,zF,k1',beq_self_eq_true]
  refine hΨ5 _ _ ?_
  simp only[bE,RV,RG,↓reduceIte,zA,reduceCtorEq,zE,zB,zC,zD,zF]
  refine aA fun Ψ6 hΨ6 hΨ6'=>?_
  refine aH [(3,37),(8,42)] (by kernel_rfl) fun O hO ΨR hR=>?_
  have y3:∀ a,aE O a 3=aM (a.aD 37):=hO (3,37) (by simp)
  have y8:∀ a,aE O a 8=aM (a.aD 42):=hO (8,42) (by simp)
  by_cases m0:p.m=0
  ·rw[if_pos ⟨k1',m0⟩] at hΦ
   by_cases i0:p.i≥0
   ·rw[show decide (0≤p.i∧p.i<16)=decide (p.i<16) from decide_eq_decide.2 ⟨fun h=>h.2,fun h=>⟨i0,h⟩⟩] at hΦ
    simp only[dB,↓reduceIte,zA,reduceCtorEq,zE,zB,zC,zD,zF,y3,y8,lm,li,m0,i0,decide_true,beq_self_eq_true]
    refine hR _ _ (hΨ6 _ _ ?_)
    simp only[dB,↓reduceIte,zA,reduceCtorEq,zE,zB,zC,zD,zF]
    refine hΨ3' _ _ _ (by simp) (by simp) (hΨ1' _ _ _ (by simp) ?_)
    simp only[dB,↓reduceIte,zA,reduceCtorEq,zE,zB,zC,zD,zF]
    exact hΦ _ k1
   ·rw[decide_eq_false (show ¬ (0≤p.i∧p.i<16) from fun h=>i0 h.1)] at hΦ
    simp only[dB,↓reduceIte,zA,reduceCtorEq,zE,zB,zC,zD,zF,y3,y8,lm,li,m0,i0,decide_false,beq_self_eq_true]
    refine hR _ _ (hΨ6 _ _ ?_)
    simp only[dB,↓reduceIte,zA,reduceCtorEq,zE,zB,zC,zD,zF]
    refine hΨ3' _ _ _ (by simp) (by simp) (hΨ1' _ _ _ (by simp) ?_)
    simp only[dB,↓reduceIte,zA,reduceCtorEq,zE,zB,zC,zD,zF]
    exact hΦ _ k1
  ·have em:(p.m==0)=false:=by simpa using m0
   rw[if_neg (fun h=>m0 h.2),if_neg (fun h=>m0 h.2)] at hΦ
   simp only[dB,↓reduceIte,zA,reduceCtorEq,zE,zB,zC,zD,zF,y3,y8,lm,li,em]
   refine hR _ _ (hΨ6 _ _ ?_)
   simp only[dB,↓reduceIte,zA,reduceCtorEq,zE,zB,zC,zD,zF]
   refine hΨ3' _ _ _ (by simp) (by simp) (hΨ1' _ _ _ (by simp) ?_)
   simp only[dB,↓reduceIte,zA,reduceCtorEq,zE,zB,zC,zD,zF]
   exact hΦ _ k1
 have e1':(p.k==1)=false:=by simpa using k1'
 rw[if_neg (fun h=>k1' h.1)] at hΦ
 simp only[dB,↓reduceIte,zA,reduceCtorEq,zE,zB,zC,zD,zF,e1']
 refine hΨ5 _ _ ?_
 simp only[bE,RV,RG,↓reduceIte,zA,reduceCtorEq,zE,zB,zC,zD,zF]
 refine aA fun Ψ6 hΨ6 hΨ6'=>?_
 by_cases k2:p.k=2
 ·simp only[dB,↓reduceIte,zA,reduceCtorEq,zE,zB,zC,zD,zF,k2,beq_self_eq_true]
  refine hΨ6 _ _ ?_
  simp only[bE,RV,RG,↓reduceIte,zA,reduceCtorEq,zE,zB,zC,zD,zF]
  refine aA fun Ψ7 hΨ7 hΨ7'=>?_
  refine aQ [] [] [(3,52),(8,57)] (by kernel_rfl) (by kernel_rfl) (by rfl) fun O hO ΨR hR=>?_
  have y3:∀ a,aE O a 3=aM (a.aD 52):=hO (3,52) (by simp)
  have y8:∀ a,aE O a 8=aM (a.aD 57):=hO (8,57) (by simp)
  by_cases m0:p.m=0
  ·rw[if_pos ⟨k2,m0⟩] at hΦ
   by_cases i0:p.i≥0
   ·rw[show decide (0≤p.i∧p.i<(R.q.length:Int))=decide (p.i<(R.q.length:Int)) from decide_eq_decide.2 ⟨fun h=>h.2,fun h=>⟨i0,h⟩⟩] at hΦ
    simp only[dB,↓reduceIte,zA,reduceCtorEq,zE,zB,zC,zD,zF,y3,y8,lm,li,H1.l2,m0,i0,decide_true,beq_self_eq_true]
    refine hR _ _ (hΨ7 _ _ ?_)
    simp only[dB,↓reduceIte,zA,reduceCtorEq,zE,zB,zC,zD,zF]
    refine hΨ3' _ _ _ (by simp) (by simp) (hΨ1' _ _ _ (by simp) ?_)
    simp only[dB,↓reduceIte,zA,reduceCtorEq,zE,zB,zC,zD,zF]
    exact hΦ _ (k1.cB _)
   ·rw[decide_eq_false (show ¬ (0≤p.i∧p.i<(R.q.length:Int)) from fun h=>i0 h.1)] at hΦ
    simp only[dB,↓reduceIte,zA,reduceCtorEq,zE,zB,zC,zD,zF,y3,y8,lm,li,m0,i0,decide_false,beq_self_eq_true]
    refine hR _ _ (hΨ7 _ _ ?_)
    simp only[dB,↓reduceIte,zA,reduceCtorEq,zE,zB,zC,zD,zF]
    refine hΨ3' _ _ _ (by simp) (by simp) (hΨ1' _ _ _ (by simp) ?_)
    simp only[dB,↓reduceIte,zA,reduceCtorEq,zE,zB,zC,zD,zF]
    exact hΦ _ (k1.cB _)
  ·have em:(p.m==0)=false:=by simpa using m0
   rw[if_neg (fun h=>m0 h.2)] at hΦ
   simp only[dB,↓reduceIte,zA,reduceCtorEq,zE,zB,zC,zD,zF,y3,y8,lm,li,em]
   refine hR _ _ (hΨ7 _ _ ?_)
   simp only[dB,↓reduceIte,zA,reduceCtorEq,zE,zB,zC,zD,zF]
   refine hΨ3' _ _ _ (by simp) (by simp) (hΨ1' _ _ _ (by simp) ?_)
   simp only[dB,↓reduceIte,zA,reduceCtorEq,zE,zB,zC,zD,zF]
   exact hΦ _ (k1.cB _)
 ·have e2:(p.k==2)=false:=by simpa using k2
  rw[if_neg (fun h=>k2 h.1)] at hΦ
  simp only[dB,↓reduceIte,zA,reduceCtorEq,zE,zB,zC,zD,zF,e2]
  refine hΨ6 _ _ ?_
  simp only[dB,↓reduceIte,zA,reduceCtorEq,zE,zB,zC,zD,zF]
  refine hΨ3 _ _ (hΨ1 _ _ ?_)
  simp only[dB,↓reduceIte,zA,reduceCtorEq,zE,zB,zC,zD,zF]
  exact hΦ _ k1
theorem qA:type_of% (An @RX<|An @iN<|An @bF<|An @lU<|An @sV<|An @oW<|An @QZ<|An @cY<|An @lQ<|An @dO<|An @rV<|An @VC<|@oX):=An @RX<|An @iN<|An @bF<|An @lU<|An @sV<|An @oW<|An @QZ<|An @cY<|An @lQ<|An @dO<|An @rV<|An @VC<|@oX
theorem rr_set (hs:Ok s) (H:mV s r Q R) (p:tS) (v:Int) (hp:R.has p=true) (hΦ:∀ s',mV s' r Q (R.set p v)→aC (Q.aU r R) s s'→Φ (.tuple #[]) s'):okF q X (KO kc) 193 [ptr r,rM p,int v] s Φ:=by
 unfold PR.has at hp
 unfold PR.set at hΦ
 have nd:=H.nd
 have hfl:=H.cH hs
 unfold RQ.own at nd
 rw[List.nodup_cons,List.nodup_cons] at nd
 obtain⟨n1,n2,n3⟩:=nd
 refine aG rfl fn_193 rfl (rs:=[]) rfl (N:=40) rfl rfl ?_
 refine aA fun Ψ0 hΨ0 hΨ0'=>?_
 simp only[qA,↓reduceIte,zA,reduceCtorEq,zE,zB,zC,zD,zF]
 obtain⟨s1,e1,k1,c1,_⟩:=aT hs (L:=[int p.k,int p.m,int p.i]) (n:=3) (e:=118) rfl
 rw[e1]
 refine hΨ0 _ _ ?_
 have H1:=H.aN k1
 have lk:aI s1.look ⟨s.next,0,none⟩=some (int p.k):=c1.load rfl
 have lm:aI s1.look ⟨s.next,1,none⟩=some (int p.m):=c1.load rfl
 have li:aI s1.look ⟨s.next,2,none⟩=some (int p.i):=c1.load rfl
 have hinF:∀ n∈Q.own r,n∈Q.aU r R:=fun n h=>List.mem_append_left _ (List.mem_append_left _ h)
 refine aA fun Ψ1 hΨ1 hΨ1'=>?_
 simp only[qA,↓reduceIte,zA,reduceCtorEq,zE,zB,zC,zD,zF,lk]
 refine hΨ1 _ _ ?_
 refine aL fun Ψ2 hΨ2 hΨ2e hΨ2'=>?_
 refine aA fun Ψ3 hΨ3 hΨ3'=>?_
 by_cases k0:p.k=0
 ·rw[if_pos k0] at hΦ
  have hmi:0≤p.m∧p.m<R.m∧0≤p.i∧p.i<16:=by
   by_cases h:0≤p.m∧p.m<R.m
   ·rw[if_pos ⟨k0,h⟩] at hp
    have:=of_decide_eq_true hp
    exact⟨h.1,h.2,this⟩
   ·rw[if_neg (fun h'=>h h'.2),if_neg (by omega),if_neg (by omega)] at hp
    cases hp
  obtain⟨m0,m1,i0,i1⟩:=hmi
  have hrl:=H.rl
  have hm:p.m.toNat<Q.rows.length:=by omega
  obtain⟨sb,soff,hsa⟩:=H1.cs.sl.addr (show 0<R.m by have:=H.m1;omega)
  have lrow:aI s1.look ⟨sb,soff+p.m.toNat,none⟩=some (qi Q.rows[p.m.toNat]):=by
   have h:=H1.cs.sl
   rw[hsa] at h
   exact h.load (by rw[List.getElem?_map,List.getElem?_eq_getElem hm];rfl)
  have ks:aC [] s1 (s1.skip 26):=aC.skip k1.ok _
  have Hk:=H1.aN ks
  obtain⟨s2,h2,c2,k2⟩:=(Hk.cr _ hm).dU ks.ok (i:=p.i.toNat) (v:=int v) (by rw[bI];omega) rfl
  rw[yQ (by omega)] at c2
  have l0:=H1.l0
  rw[hsa] at l0
  simp only[qA,↓reduceIte,zA,reduceCtorEq,zE,zB,zC,zD,zF,k0,beq_self_eq_true]
  refine hΨ3 _ _ ?_
  simp only[bE,RV,RG,↓reduceIte,zA,reduceCtorEq,zE,zB,zC,zD,zF]
  refine aQ [] [] [] (by kernel_rfl) (by kernel_rfl) (by rfl) fun O hO ΨR hR=>?_
  have i1':p.i<((16:Nat):Int):=i1
  simp only[qA,↓reduceIte,zA,reduceCtorEq,zE,zB,zC,zD,zF,l0,lm,m0,m1,and_self,aJ,Nat.mul_one,lrow,li,i0,i1',Nat.zero_add,h2]
  refine hR _ _ (hΨ2 _ _ ?_)
  simp only[qA,↓reduceIte,zA,reduceCtorEq,zE,zB,zC,zD,zF]
  have hin:Q.rows[p.m.toNat]∈Q.own r:=List.mem_cons_of_mem _ (List.mem_cons_of_mem _ (List.getElem_mem hm))
  refine hΦ s2 ?_ ((k1.trans ks).any.trans (k2.mono fun x hx=>by rw[List.mem_singleton.1 hx];exact hinF _ hin))
  obtain⟨c,cs,rl,cr,cg,cq,nd',ns,nq,mm1,m4,ql⟩:=Hk
  have hsi:(p.m*16+p.i).toNat=p.m.toNat*16+p.i.toNat:=by omega
  refine⟨c.aF k2 ?_,cs.aF k2 (fun b hb hb'=>?_),rl,fun k hk=>?_,cg.aF k2 ?_,cq.aF k2 (fun b hb hb'=>?_),nd',ns,nq,mm1,m4,ql⟩
  ·intro h;rw[List.mem_singleton] at h;exact n1 (by rw[h];exact List.mem_cons_of_mem _ (List.getElem_mem hm))
  ·rw[List.mem_singleton.1 hb'] at hb;exact(ns _ hb).1 hin
  ·show Obj s2 Q.rows[k] (row 16 fun i=>int (eP R.sl (p.m*16+p.i).toNat v (k*16+i)))
   by_cases e:k=p.m.toNat
   ·subst e
    have:(fun j=>if j=p.i.toNat then int v else int (R.sl (p.m.toNat*16+j)))=fun i=>int (eP R.sl (p.m*16+p.i).toNat v (p.m.toNat*16+i)):=by
     funext j
     unfold eP
     rw[hsi]
     by_cases e:j=p.i.toNat
     ·rw[if_pos e,if_pos (by omega)]
     ·rw[if_neg e,if_neg (by omega)]
    rw[← this]
    exact c2
   ·have hne:Q.rows[k]≠Q.rows[p.m.toNat]:=fun h=>by
     unfold List.Nodup at n3
     rw[List.pairwise_iff_getElem] at n3
     rcases Nat.lt_or_gt_of_ne e with g | g
     ·exact n3 k _ hk hm g h
     ·exact n3 _ k hm hk g h.symm
    have hrow:(row 16 fun i=>int (eP R.sl (p.m*16+p.i).toNat v (k*16+i)))=row 16 fun i=>int (R.sl (k*16+i)):=by
     refine(yP (by rw[bI]) fun i hi=>?_).symm
     rw[fB _ hi]
     unfold eP
     rw[if_neg (by rw[hsi];omega)]
    rw[hrow]
    exact(cr k hk).aF k2 (by simpa using hne)
  ·intro h;rw[List.mem_singleton] at h;exact n2 (by rw[h];exact List.getElem_mem hm)
  ·rw[List.mem_singleton.1 hb'] at hb;exact nq _ hb hin
 have e0:(p.k==0)=false:=by simpa using k0
 rw[if_neg k0] at hΦ
 rw[if_neg (fun h=>k0 h.1)] at hp
 simp only[qA,↓reduceIte,zA,reduceCtorEq,zE,zB,zC,zD,zF,e0]
 refine hΨ3 _ _ ?_
 simp only[bE,RV,RG,↓reduceIte,zA,reduceCtorEq,zE,zB,zC,zD,zF]
 refine aA fun Ψ4 hΨ4 hΨ4'=>?_
 by_cases k1':p.k=1
 ·rw[if_pos k1'] at hΦ
  have hmi:p.m=0∧0≤p.i∧p.i<16:=by
   by_cases h:p.m=0
   ·rw[if_pos ⟨k1',h⟩] at hp
    exact⟨h,of_decide_eq_true hp⟩
   ·rw[if_neg (fun h'=>h h'.2),if_neg (by omega)] at hp
    cases hp
  obtain⟨m0,i0,i1⟩:=hmi
  have ks:aC [] s1 (s1.skip 18):=aC.skip k1.ok _
  have Hk:=H1.aN ks
  obtain⟨s2,h2,c2,k2⟩:=Hk.cg.dU ks.ok (i:=p.i.toNat) (v:=int v) (by rw[bI];omega) rfl
  rw[yQ (by omega)] at c2
  simp only[qA,↓reduceIte,zA,reduceCtorEq,zE,zB,zC,zD,zF,k1',beq_self_eq_true]
  refine hΨ4 _ _ ?_
  simp only[bE,RV,RG,↓reduceIte,zA,reduceCtorEq,zE,zB,zC,zD,zF]
  refine aQ [] [] [] (by kernel_rfl) (by kernel_rfl) (by rfl) fun O hO ΨR hR=>?_
  have i1':p.i<((16:Nat):Int):=i1
  simp only[qA,↓reduceIte,zA,reduceCtorEq,zE,zB,zC,zD,zF,H1.l1,li,i0,i1',and_self,aJ,Nat.mul_one,Nat.zero_add,h2]
  refine hR _ _ (hΨ2 _ _ ?_)
  simp only[qA,↓reduceIte,zA,reduceCtorEq,zE,zB,zC,zD,zF]
  have hin:Q.gn∈Q.own r:=List.mem_cons_of_mem _ (List.mem_cons_self ..)
  refine hΦ s2 ?_ ((k1.trans ks).any.trans (k2.mono fun x hx=>by rw[List.mem_singleton.1 hx];exact hinF _ hin))
  obtain⟨c,cs,rl,cr,cg,cq,nd',ns,nq,mm1,m4,ql⟩:=Hk
  have c2':Obj s2 Q.gn (row 16 fun i=>int (eP R.gl p.i.toNat v i)):=by
   have e:(fun j=>if j=p.i.toNat then int v else int (R.gl j))=fun i=>int (eP R.gl p.i.toNat v i):=by
    funext j
    unfold eP
    by_cases e:j=p.i.toNat
    ·rw[if_pos e,if_pos e]
    ·rw[if_neg e,if_neg e]
   rw[← e]
   exact c2
  refine⟨c.aF k2 ?_,cs.aF k2 (fun b hb hb'=>?_),rl,fun k hk=>(cr k hk).aF k2 ?_,c2',cq.aF k2 (fun b hb hb'=>?_),nd',ns,nq,mm1,m4,ql⟩
  ·intro h;rw[List.mem_singleton] at h;exact n1 (by rw[h];exact List.mem_cons_self ..)
  ·rw[List.mem_singleton.1 hb'] at hb;exact(ns _ hb).1 hin
  ·intro h;rw[List.mem_singleton] at h;exact n2 (by rw[← h];exact List.getElem_mem hk)
  ·rw[List.mem_singleton.1 hb'] at hb;exact nq _ hb hin
 have e1':(p.k==1)=false:=by simpa using k1'
 rw[if_neg k1'] at hΦ
 rw[if_neg (fun h=>k1' h.1)] at hp
 have hmi:p.k=2∧p.m=0∧0≤p.i∧p.i<(R.q.length:Int):=by
  by_cases h:p.k=2∧p.m=0
  ·rw[if_pos h] at hp
   have:=of_decide_eq_true hp
   exact⟨h.1,h.2,this.1,this.2⟩
  ·rw[if_neg h] at hp
   cases hp
 obtain⟨_,m0,i0,i1⟩:=hmi
 have ks:aC [] s1 (s1.skip 18):=aC.skip k1.ok _
 have Hk:=H1.aN ks
 obtain⟨qb,qoff,hva⟩:=Hk.cq.sl.addr (show 0<R.q.length by omega)
 have hcq:=Hk.cq
 rw[hva] at hcq
 obtain⟨s2,h2,b2,k2⟩:=hcq.dU ks.ok (i:=p.i.toNat) (v:=int v) (by rw[List.length_map];omega) rfl
 have l2:=H1.l2
 rw[hva] at l2
 have hin:qb∈nameOf (.slice Q.va R.q.length Q.vc):=by rw[hva];simp[nameOf]
 simp only[qA,↓reduceIte,zA,reduceCtorEq,zE,zB,zC,zD,zF,e1']
 refine hΨ4 _ _ ?_
 simp only[bE,RV,RG,↓reduceIte,zA,reduceCtorEq,zE,zB,zC,zD,zF]
 refine aQ [] [] [] (by kernel_rfl) (by kernel_rfl) (by rfl) fun O hO ΨR hR=>?_
 simp only[qA,↓reduceIte,zA,reduceCtorEq,zE,zB,zC,zD,zF,l2,li,i0,i1,and_self,aJ,Nat.mul_one,h2]
 refine hR _ _ (hΨ2 _ _ ?_)
 simp only[qA,↓reduceIte,zA,reduceCtorEq,zE,zB,zC,zD,zF]
 have hno:=H.nq qb hin
 have ol:∀ x∈Q.own r,x∉[qb]:=fun x hx h=>by
  rw[List.mem_singleton.1 h] at hx
  exact hno hx
 refine hΦ s2 ?_ ((k1.trans ks).any.trans (k2.mono fun x hx=>by rw[List.mem_singleton.1 hx];exact List.mem_append_right _ hin))
 obtain⟨c,cs,rl,cr,cg,cq,nd',ns,nq,mm1,m4,ql⟩:=Hk
 refine⟨?_,cs.aF k2 (fun b hb hb'=>?_),rl,fun k hk=>(cr k hk).aF k2 (ol _ (List.mem_cons_of_mem _ (List.mem_cons_of_mem _ (List.getElem_mem hk)))),cg.aF k2 (ol _ (List.mem_cons_of_mem _ (List.mem_cons_self ..))),?_,nd',?_,?_,mm1,m4,by simpa using ql⟩
 ·have:=c.aF k2 (ol _ (List.mem_cons_self ..))
  simpa using this
 ·rw[List.mem_singleton.1 hb'] at hb;exact(ns _ hb).2 hin
 ·simp only[List.length_set]
  rw[hva,List.map_set]
  exact b2
 ·simpa using ns
 ·simpa using nq
theorem fM:type_of% (An @RX<|An @iH<|An @iN<|@bF):=An @RX<|An @iH<|An @iN<|@bF
theorem rr_Set (hs:Ok s) (H:mV s r Q R) (p:tS) (v:Int) (hΦ:∀ s',mV s' r Q (if R.has p=true∧¬ (v<0∨(v=0∧p.k=2)) then R.set p v else R)→aC (Q.aU r R) s s'→Φ (int (if R.has p=true∧¬ (v<0∨(v=0∧p.k=2)) then 0 else 1)) s'):okF q X (KO kc) 125 [ptr r,rM p,int v] s Φ:=by
 refine aG rfl fn_125 rfl (rs:=[.tmp 6]) rfl (N:=31) rfl rfl ?_
 refine aA fun Ψ0 hΨ0 hΨ0'=>?_
 simp only[fM,↓reduceIte,zA,reduceCtorEq,zE,zB,zC,zD,zF]
 obtain⟨s1,e1,k1,c1,n1⟩:=aT hs (L:=[int p.k,int p.m,int p.i]) (n:=3) (e:=118) rfl
 rw[e1]
 refine hΨ0 _ _ ?_
 have H1:=H.aN k1
 have lp:=c1.aS (i:=0) (k:=3) (Nat.le_refl _)
 refine aA fun Ψ1 hΨ1 hΨ1'=>?_
 refine aA fun Ψ2 hΨ2 hΨ2'=>?_
 simp only[fM,↓reduceIte,zA,reduceCtorEq,zE,zB,zC,zD,zF]
 refine aB ?_ (HO H1 ?_)
 ·simp only[fM,↓reduceIte,zA,reduceCtorEq,zE,zB,zC,zD,zF]
 try simp only[fM,↓reduceIte,zA,reduceCtorEq,zE,zB,zC,zD,zF]
 refine hΨ2 _ _ ?_
 simp only[fM,↓reduceIte,zA,reduceCtorEq,zE,zB,zC,zD,zF]
 refine hΨ1 _ _ ?_
 refine aA fun Ψ3 hΨ3 hΨ3'=>?_
 refine aA fun Ψ4 hΨ4 hΨ4'=>?_
 refine aH [(4,14),(8,18),(11,21)] (by kernel_rfl) fun O hO ΨR hR=>?_
 have y4:∀ a,aE O a 4=aM (a.aD 14):=hO (4,14) (by simp)
 have y8:∀ a,aE O a 8=aM (a.aD 18):=hO (8,18) (by simp)
 have y11:∀ a,aE O a 11=aM (a.aD 21):=hO (11,21) (by simp)
 simp only[fM,↓reduceIte,zA,reduceCtorEq,zE,zB,zC,zD,zF,lp,List.drop_zero,List.take]
 refine aB ?_ (rr_has k1.ok H1 p fun s2 k2=>?_)
 ·simp only[fM,↓reduceIte,zA,reduceCtorEq,zE,zB,zC,zD,zF]
 have k02:=k1.trans k2
 have lk:aI s2.look ⟨s.next,0,none⟩=some (int p.k):=(c1.aF k2 (by simp)).load rfl
 have lp2:=(c1.aF k2 (by simp)).aS (i:=0) (k:=3) (Nat.le_refl _)
 have H2:=H1.aN k2
 cases hh:R.has p with
 | false =>
  rw[hh] at hΦ
  simp only[Bool.false_eq_true,false_and,if_false] at hΦ
  simp only[fM,↓reduceIte,zA,reduceCtorEq,zE,zB,zC,zD,zF,y4,y8,y11]
  refine hR _ _ (hΨ4 _ _ ?_)
  simp only[fM,↓reduceIte,zA,reduceCtorEq,zE,zB,zC,zD,zF]
  refine hΨ3' _ _ _ (by simp) ?_
  simp only[fM,↓reduceIte,zA,reduceCtorEq,zE,zB,zC,zD,zF]
  exact hΦ s2 H2 k02.any
 | true =>
  rw[hh] at hΦ
  simp only[true_and] at hΦ
  by_cases h0:v<0
  ·rw[if_neg (fun h=>h (.inl h0)),if_neg (fun h=>h (.inl h0))] at hΦ
   simp only[fM,↓reduceIte,zA,reduceCtorEq,zE,zB,zC,zD,zF,y4,y8,y11,h0,decide_true]
   refine hR _ _ (hΨ4 _ _ ?_)
   simp only[fM,↓reduceIte,zA,reduceCtorEq,zE,zB,zC,zD,zF]
   refine hΨ3' _ _ _ (by simp) ?_
   simp only[fM,↓reduceIte,zA,reduceCtorEq,zE,zB,zC,zD,zF]
   exact hΦ s2 H2 k02.any
  have fin:∀ a':bD,¬ (v<0∨(v=0∧p.k=2))→a'.aD 0=ptr r→a'.aD 4=ptr s.next→a'.aD 2=int v→Ψ3 .normal a' s2:=by
   intro a' hg r0 r4 r2
   rw[if_pos hg,if_pos hg] at hΦ
   refine hΨ3 _ _ ?_
   refine aA fun Ψ5 hΨ5 hΨ5'=>?_
   simp only[fM,↓reduceIte,zA,reduceCtorEq,zE,zB,zC,zD,zF,r0,r4,r2,lp2,List.drop_zero,List.take]
   refine aB ?_ (rr_set k2.ok H2 p v hh fun s3 H3 k3=>?_)
   ·simp only[fM,↓reduceIte,zA,reduceCtorEq,zE,zB,zC,zD,zF]
   simp only[fM,↓reduceIte,zA,reduceCtorEq,zE,zB,zC,zD,zF]
   refine hΨ5 _ _ ?_
   simp only[fM,↓reduceIte,zA,reduceCtorEq,zE,zB,zC,zD,zF]
   exact hΦ s3 H3 (k02.any.trans k3)
  by_cases hv:v=0
  ·subst hv
   cases hk:(p.k==2) with
   | true =>
    have hk':p.k=2:=by simpa using hk
    rw[if_neg (fun h=>h (.inr ⟨rfl,hk'⟩)),if_neg (fun h=>h (.inr ⟨rfl,hk'⟩))] at hΦ
    simp only[fM,↓reduceIte,zA,reduceCtorEq,zE,zB,zC,zD,zF,y4,y8,y11,h0,decide_false,beq_self_eq_true,lk,hk]
    refine hR _ _ (hΨ4 _ _ ?_)
    simp only[fM,↓reduceIte,zA,reduceCtorEq,zE,zB,zC,zD,zF]
    refine hΨ3' _ _ _ (by simp) ?_
    simp only[fM,↓reduceIte,zA,reduceCtorEq,zE,zB,zC,zD,zF]
    exact hΦ s2 H2 k02.any
   | false =>
    have hk':p.k≠2:=by simpa using hk
    simp only[fM,↓reduceIte,zA,reduceCtorEq,zE,zB,zC,zD,zF,y4,y8,y11,h0,decide_false,beq_self_eq_true,lk,hk]
    refine hR _ _ (hΨ4 _ _ ?_)
    simp only[fM,↓reduceIte,zA,reduceCtorEq,zE,zB,zC,zD,zF]
    refine fin _ (by omega) ?_ ?_ ?_
    all_goals simp only[fM,↓reduceIte,zA,reduceCtorEq,zE,zB,zC,zD,zF]
  ·have hv':(v==0)=false:=by simpa using hv
   simp only[fM,↓reduceIte,zA,reduceCtorEq,zE,zB,zC,zD,zF,y4,y8,y11,h0,decide_false,hv']
   refine hR _ _ (hΨ4 _ _ ?_)
   simp only[fM,↓reduceIte,zA,reduceCtorEq,zE,zB,zC,zD,zF]
   refine fin _ (by omega) ?_ ?_ ?_
   all_goals simp only[fM,↓reduceIte,zA,reduceCtorEq,zE,zB,zC,zD,zF]
end
open Go.Proofs
set_option maxRecDepth 100000
set_option maxHeartbeats 4000000
section
variable {kc:Kc} {q:Bool} {s:St} {Φ:Value→St→Prop}
structure Part (s:St) (N r gn:Nat) (sa:Option Addr) (sc:Nat) (rows:List Nat):Prop where
 c:Obj s r [.slice sa rows.length sc,.slice (some ⟨gn,0,none⟩) 16 16,.slice none 0 0]
 cs:kL s 62 1 (.slice sa rows.length sc) (rows.map qi)
 cr:∀ n∈rows,Obj s n (row 16 fun _=>int 0)
 cg:Obj s gn (row 16 fun _=>int 0)
 nd:(r::gn::rows).Nodup
 ge:∀ n∈r::gn::rows,N≤n
 ns:∀ b∈nameOf (.slice sa rows.length sc),N≤b∧b∉r::gn::rows
theorem Part.lt {N r gn:Nat} {sa:Option Addr} {sc:Nat} {rows:List Nat} (h:Part s N r gn sa sc rows) (hs:Ok s):∀ n∈r::gn::rows,n<s.next:=by
 intro n hn
 rcases List.mem_cons.1 hn with rfl | hn
 ·exact h.c.lt hs
 ·rcases List.mem_cons.1 hn with rfl | hn
  ·exact h.cg.lt hs
  ·exact(h.cr n hn).lt hs
theorem lZ:type_of% (An @RX<|An @TP<|An @lU<|An @sV<|An @IK<|@aA3):=An @RX<|An @TP<|An @lU<|An @sV<|An @IK<|@aA3
theorem rr_New (hs:Ok s) {m:Nat} (h1:1≤m) (h4:m≤4) (hΦ:∀ r Q R s',R.m=m→(∀ i,R.sl i=0)→(∀ i,R.gl i=0)→R.q=[]→mV s' r Q R→(∀ x∈Q.aU r R,s.next≤x)→aC [] s s'→Φ (.tuple #[ptr r,int 0]) s'):okF q X (KO kc) 53 [int m] s Φ:=by
 refine aG rfl fn_53 rfl (rs:=[.tmp 2,.tmp 3]) rfl (N:=31) rfl rfl ?_
 refine aA fun Ψ0 hΨ0 hΨ0'=>?_
 simp only[lZ,↓reduceIte,zA,reduceCtorEq,zE,zB,zC,zD,zF]
 refine hΨ0 _ _ ?_
 refine aA fun Ψ1 hΨ1 hΨ1'=>?_
 refine aA fun Ψ2 hΨ2 hΨ2'=>?_
 refine aH [(2,8)] (by kernel_rfl) fun O hO ΨR hR=>?_
 have y2:∀ a,aE O a 2=aM (a.aD 8):=hO (2,8) (by simp)
 have g1:¬ (m:Int)<1:=by omega
 have g2:¬ (m:Int)>4:=by omega
 simp only[lZ,↓reduceIte,zA,reduceCtorEq,zE,zB,zC,zD,zF,y2,g1,g2,decide_false]
 refine hR _ _ (hΨ2 _ _ ?_)
 simp only[lZ,↓reduceIte,zA,reduceCtorEq,zE,zB,zC,zD,zF]
 refine hΨ1 _ _ ?_
 refine aA fun Ψ3 hΨ3 hΨ3'=>?_
 simp only[lZ,↓reduceIte,zA,reduceCtorEq,zE,zB,zC,zD,zF,FR (nm:=s.next) (n:=(16:Int)) (m:=(16:Int)) (by omega) (by omega) (by omega) (by omega),show Int.toNat 16=16 from rfl]
 obtain⟨S1,f1,k1,c1,n1⟩:∃ S1,(s.new fun v=>bX.cells PT.nil [Value.int IntKind.i64 0] 16 3 false false v)=S1∧aC [] s S1∧Obj S1 s.next (row 16 fun _=>int 0)∧S1.next=s.next+2 :=
  ⟨_,rfl,(aC.refl hs).new (.inr (Nat.le_refl _)),Obj.kY (s:=s) (x:=s.next) (n:=16) (m:=1) rfl (by rw[bI]) (fun i hi=>by rw[fB _ (by omega),Nat.mod_one];rfl),rfl⟩
 rw[f1]
 obtain⟨s2,e2,k2,c2,n2⟩:=aT k1.ok (L:=[.slice none 0 0,.slice (some ⟨s.next,0,none⟩) 16 16,.slice none 0 0]) (n:=3) (e:=161) rfl
 try simp only[lZ,↓reduceIte,zA,reduceCtorEq,zE,zB,zC,zD,zF]
 rw[e2]
 refine hΨ3 _ _ ?_
 have k02:=k1.trans k2
 have P0:Part s2 s.next S1.next s.next none 0 []:=⟨c2,.nil,fun n hn=>(by cases hn),c1.aF k2 (by simp),by simp;omega,fun n hn=>by simp at hn;omega,fun b hb=>(by simp[nameOf] at hb)⟩
 refine aA fun Ψ4 hΨ4 hΨ4'=>?_
 refine aA fun Ψ5 hΨ5 hΨ5'=>?_
 simp only[lZ,↓reduceIte,zA,reduceCtorEq,zE,zB,zC,zD,zF]
 refine hΨ5 _ _ ?_
 refine aL fun Ψ6 hΨ6 hΨ6e hΨ6'=>?_
 refine fY (n:=m) (fun j a' s'=>∃ sa sc rows,a'.aD 0=int m∧a'.aD 4=ptr S1.next∧a'.aD 5=int j∧rows.length=j∧Part s' s.next S1.next s.next sa sc rows∧aC [] s s')
  (fun j a' s'=>∃ sa sc rows,a'.aD 0=int m∧a'.aD 4=ptr S1.next∧a'.aD 5=int j∧rows.length=j+1∧Part s' s.next S1.next s.next sa sc rows∧aC [] s s') ?_ ?_ ?_ ?_ (Nat.zero_le _) ?_
 ·rintro j a' s' hj ⟨sa,sc,rows,r0,r4,r5,hl,hp,hk⟩ Ψ' hΨ'
  simp only[lZ,↓reduceIte,zA,reduceCtorEq,zE,zB,zC,zD,zF,r0,r5]
  refine hΨ' _ _ (decide ((j:Int)<m)) ?_ (by simp) ⟨sa,sc,rows,?_,?_,?_,hl,hp,hk⟩
  all_goals simp only[lZ,↓reduceIte,zA,reduceCtorEq,zE,zB,zC,zD,zF,r0,r4,r5]
 ·rintro j a' s' hj ⟨sa,sc,rows,r0,r4,r5,hl,hp,hk⟩ Ψ' w1 w2 w3
  have l0:aI s'.look ⟨S1.next,0,none⟩=some (.slice sa rows.length sc):=hp.c.load rfl
  have fr:∀ y,s'.next≤y→(s'.skip 22).heap.get y=none:=hk.ok.fresh
  have gU:=hp.lt hk.ok
  obtain⟨T1,E1,K1,C1,N1,F1⟩:∃ T1,(s'.skip 22).put (s'.next+10) (fun v=>bX.cells PT.nil [Value.int IntKind.i64 0] 16 3 false false v)=T1∧aC [] s' T1∧Obj T1 (s'.next+10) (row 16 fun _=>int 0)∧T1.next=s'.next+22∧(∀ y,s'.next≤y→y≠s'.next+10→T1.heap.get y=none) :=
   ⟨_,rfl,(aC.skip hk.ok 22).eX (fr _ (by omega)) (by show s'.next+10<s'.next+22;omega) (by omega) (Nat.le_refl _),Obj.kY (n:=16) (m:=1) rfl (by rw[bI]) (fun i hi=>by rw[fB _ (by omega),Nat.mod_one];rfl),rfl,fun y hy hne=>by rw[gZ hne];exact fr y hy⟩
  obtain⟨T2,E2,K2,C2,C21,N2⟩:∃ T2,T1.put (s'.next+12) (fun v=>bX.cells (PT.ofList [qi (s'.next+10)]) [] 1 62 false false v)=T2∧aC [] s' T2∧Obj T2 (s'.next+12) [qi (s'.next+10)]∧Obj T2 (s'.next+10) (row 16 fun _=>int 0)∧T2.next=s'.next+22 :=
   ⟨_,rfl,K1.eX (F1 _ (by omega) (by omega)) (by omega) (by omega) (Nat.le_refl _),Obj.pQ rfl,C1.lK (by omega),N1⟩
  obtain⟨w,T3,h3,b3,k3,m3,a3,c3,rfl⟩:=eI (X:=X) (t:=159) (e:=62) (N:=1) (B:=24) (z:=.slice none 0 0) (x:=.slice (some ⟨s'.next+12,0,none⟩) 1 1) (k:=1) (new:=[qi (s'.next+10)]) (by kernel_rfl) (by kernel_rfl) rfl K2.ok (by omega) (hp.cs.aF K2 (by simp)) rfl (gW (by omega) (C2.aS (i:=0) (k:=1) (Nat.le_refl _))) rfl rfl (by omega) (by omega)
  have hrn:∀ x∈S1.next::s.next::rows,x∉nameOf (.slice sa rows.length sc):=fun x hx h=>(hp.ns x h).2 hx
  have c1':=(hp.c.aF K2 (by simp)).aF k3 (hrn _ (List.mem_cons_self ..))
  obtain⟨T4,h4',c4,k4⟩:=c1'.dU k3.ok (i:=0) (v:=.slice a3 (rows.length+1) c3) (by simp) rfl
  refine aQ [] [] [] (by kernel_rfl) (by kernel_rfl) (by rfl) fun O hO ΨR hR=>?_
  simp only[lZ,↓reduceIte,zA,reduceCtorEq,zE,zB,zC,zD,zF,r4,l0,FR (nm:=s'.next+10) (n:=(16:Int)) (m:=(16:Int)) (by omega) (by omega) (by omega) (by omega),show Int.toNat 16=16 from rfl]
  rw[E1]
  try simp only[lZ,↓reduceIte,zA,reduceCtorEq,zE,zB,zC,zD,zF]
  rw[E2]
  try simp only[lZ,↓reduceIte,zA,reduceCtorEq,zE,zB,zC,zD,zF]
  refine tc ?_ h3 ?_ ?_
  ·simp only[lZ,↓reduceIte,zA,reduceCtorEq,zE,zB,zC,zD,zF]
  ·simp only[lZ,↓reduceIte,zA,reduceCtorEq,zE,zB,zC,zD,zF]
  simp only[lZ,↓reduceIte,zA,reduceCtorEq,zE,zB,zC,zD,zF,h4']
  refine hR _ _ (w1 _ _ ⟨a3,c3,rows++[s'.next+10],?_,?_,?_,by rw[List.length_append,List.length_singleton,hl],?_,?_⟩)
  ·simp only[lZ,↓reduceIte,zA,reduceCtorEq,zE,zB,zC,zD,zF,r0]
  ·simp only[lZ,↓reduceIte,zA,reduceCtorEq,zE,zB,zC,zD,zF,r4]
  ·simp only[lZ,↓reduceIte,zA,reduceCtorEq,zE,zB,zC,zD,zF,r5]
  ·have eN:(rows++[s'.next+10]).length=rows.length+1:=by rw[List.length_append,List.length_singleton]
   have hge:=hk.next
   have hn4:S1.next∉nameOf (.slice a3 (rows.length+1) c3):=fun h=>by
    rcases m3 _ h with h | h
    ·exact hrn _ (List.mem_cons_self ..) h
    ·have:=gU _ (List.mem_cons_self ..);omega
   have kn:∀ x∈S1.next::s.next::rows,x≠S1.next→∀ L,Obj s' x L→Obj T4 x L:=fun x hx hne L ho=>((ho.aF K2 (by simp)).aF k3 (hrn x hx)).aF k4 (by simpa using hne)
   have nd:=hp.nd
   have nd':=nd
   rw[List.nodup_cons,List.nodup_cons] at nd'
   refine⟨by rw[eN];exact c4,?_,fun n hn=>?_,?_,?_,fun n hn=>?_,fun b hb=>?_⟩
   ·rw[eN,List.map_append]
    exact b3.aF k4 fun b hb hb'=>hn4 (by rw[← List.mem_singleton.1 hb'];exact hb)
   ·rcases List.mem_append.1 hn with h | h
    ·exact kn n (List.mem_cons_of_mem _ (List.mem_cons_of_mem _ h)) (fun e=>nd'.1 (by rw[← e];exact List.mem_cons_of_mem _ h)) _ (hp.cr n h)
    ·rw[List.mem_singleton.1 h]
     refine(C21.aF k3 fun h=>?_).aF k4 ?_
     ·have:=(hp.cs.lt hk.ok) _ h;omega
     ·have:=gU _ (List.mem_cons_self ..)
      simp;omega
   ·exact kn _ (List.mem_cons_of_mem _ (List.mem_cons_self ..)) (fun e=>nd'.1 (by rw[← e];exact List.mem_cons_self ..)) _ hp.cg
   ·have e:S1.next::s.next::(rows++[s'.next+10])=(S1.next::s.next::rows)++[s'.next+10]:=rfl
    rw[e,List.nodup_append]
    refine⟨nd,by simp,fun x hx y hy=>?_⟩
    have:=gU x hx
    rw[List.mem_singleton.1 hy]
    omega
   ·have e:S1.next::s.next::(rows++[s'.next+10])=(S1.next::s.next::rows)++[s'.next+10]:=rfl
    rw[e] at hn
    rcases List.mem_append.1 hn with h | h
    ·exact hp.ge n h
    ·rw[List.mem_singleton.1 h];omega
   ·rw[eN] at hb
    have e:S1.next::s.next::(rows++[s'.next+10])=(S1.next::s.next::rows)++[s'.next+10]:=rfl
    rw[e]
    rcases m3 b hb with h | h
    ·have h2:=hp.ns b h
     refine⟨h2.1,fun hm=>?_⟩
     rcases List.mem_append.1 hm with h' | h'
     ·exact h2.2 h'
     ·have:=(hp.cs.lt hk.ok) b h
      rw[List.mem_singleton.1 h'] at this
      omega
    ·refine⟨by omega,fun hm=>?_⟩
     rcases List.mem_append.1 hm with h' | h'
     ·have:=gU b h';omega
     ·rw[List.mem_singleton.1 h'] at h
      omega
  ·exact((hk.trans K2).step k3 fun y hy=>.inr (hs.fresh y (hp.ns y hy).1)).step k4 fun y hy=>.inr (by rw[List.mem_singleton.1 hy];exact hs.fresh _ (by omega))
 ·rintro j a' s' hj ⟨sa,sc,rows,r0,r4,r5,hl,hp,hk⟩ Ψ' w1
  have w:IntKind.i64.wrap ((j:Int)+1)=((j+1:Nat):Int):=by rw[aR (by omega) (by omega)];rfl
  simp only[lZ,↓reduceIte,zA,reduceCtorEq,zE,zB,zC,zD,zF,r5,w]
  refine w1 _ _ ⟨sa,sc,rows,?_,?_,?_,hl,hp,hk⟩
  all_goals try simp only[lZ,↓reduceIte,zA,reduceCtorEq,zE,zB,zC,zD,zF,r0,r4]
 ·rintro a' s' ⟨sa,sc,rows,r0,r4,r5,hl,hp,hk⟩
  refine hΨ6e _ _ (hΨ4 _ _ ?_)
  simp only[lZ,↓reduceIte,zA,reduceCtorEq,zE,zB,zC,zD,zF,r4]
  refine hΦ S1.next ⟨sa,sc,rows,s.next,none,0⟩ ⟨0,0,none,0,0,m,fun _=>0,fun _=>0,[]⟩ s' rfl (fun _=>rfl) (fun _=>rfl) rfl ?_ ?_ hk
  ·obtain⟨c,cs,cr,cg,nd,ge,ns⟩:=hp
   rw[hl] at c cs ns
   exact⟨c,cs,hl,fun k hk=>cr _ (List.getElem_mem hk),cg,.nil,nd,fun b hb=>⟨(ns b hb).2,fun h=>(by simp[nameOf] at h)⟩,fun b hb=>(by simp[nameOf] at hb),h1,h4,Nat.zero_le _⟩
  ·intro x hx
   rcases List.mem_append.1 hx with hx | hx
   ·rcases List.mem_append.1 hx with hx | hx
    ·exact hp.ge x hx
    ·rw[← hl] at hx;exact(hp.ns x hx).1
   ·simp[nameOf] at hx
 ·refine⟨none,0,[],?_,?_,?_,rfl,P0,k02⟩
  all_goals try simp only[lZ,↓reduceIte,zA,reduceCtorEq,zE,zB,zC,zD,zF]
  all_goals rfl
end
end Go.Dust
