/- VerifySound walked in D, function by function, and its plain law (H8 H9). -/
import Derived.Test.YtaoiejcaopgjcaaGreat4
set_option linter.unusedVariables false
set_option linter.unusedSimpArgs false
open Nat renaming reduceEqDiff → zA, reduceMul → zB, reduceAdd → zC, reduceBEq → zD
open Int renaming reduceEq → zE, reduceBEq → zF
namespace Go.Dust
open Go.Proofs
set_option maxRecDepth 100000
set_option maxHeartbeats 4000000
theorem kL.storeAt {s:St} {e:TypeId} {m b off n c i:Nat} {L:List Value} {v:Value} (h:kL s e m (.slice (some ⟨b,off,none⟩) n c) L) (hs:Ok s) (hi:i<L.length) (h1:kZ v=true) :
  ∃ s',bJ s ⟨b,off+i,none⟩ [v]=some s'∧kL s' e m (.slice (some ⟨b,off,none⟩) n c) (L.set i v)∧aC [b] s s':=by
 cases h with
 | @own b off n c L0 L h hc hn hL hl =>
  have hnc:n*m≤c*m:=Nat.mul_le_mul_right _ hn
  obtain⟨s',h2,h3,h4⟩:=h.dU hs (i:=off+i) (v:=v) (by omega) h1
  refine⟨s',h2,.own h3 (by rw[List.length_set];exact hc) hn (by rw[List.length_set];exact hL) (fun j hj=>?_),h4⟩
  rw[List.length_set] at hj
  rw[List.getElem?_set,List.getElem?_set,hl j hj]
  by_cases hij:i=j
  ·subst hij
   rw[if_pos rfl,if_pos rfl,if_pos (show off+i<L0.length by omega),if_pos hj]
  ·rw[if_neg hij,if_neg (by omega)]
theorem ur {α:Type} {f:α→List Value} {m:Nat} (hf:∀ x,(f x).length=m) (L:List α) {i j:Nat} (hi:i<L.length) (hj:j<m) {y:α} {v:Value} (hy:f y=(f L[i]).set j v):(L.flatMap f).set (i*m+j) v=(L.set i y).flatMap f:=by
 have hlen:i*m+j<L.length*m:=by
  have:(i+1)*m≤L.length*m:=Nat.mul_le_mul_right _ hi
  rw[Nat.succ_mul] at this
  omega
 apply List.ext_getElem?
 intro k
 by_cases hk:k<L.length*m
 ·have hm:0<m:=by omega
  have hq:k/m<L.length:=(Nat.div_lt_iff_lt_mul hm).2 hk
  have hr:k%m<m:=Nat.mod_lt _ hm
  have e:k=k/m*m+k%m:=by have:=Nat.div_add_mod k m;rw[Nat.mul_comm] at this;omega
  rw[List.getElem?_set,kO hf,if_pos hlen]
  rw[e,nB hf L hq hr,nB hf (L.set i y) (by rw[List.length_set];exact hq) hr,List.getElem_set]
  by_cases hik:i=k/m
  ·subst hik
   rw[if_pos rfl,hy,List.getElem?_set]
   by_cases hjk:j=k%m
   ·subst hjk
    rw[if_pos rfl,if_pos rfl,if_pos (by rw[hf];exact hr)]
   ·rw[if_neg (by omega),if_neg hjk]
  ·rw[if_neg hik,if_neg]
   intro h
   apply hik
   have h1:(i*m+j)/m=i:=by rw[Nat.mul_comm,Nat.mul_add_div hm,Nat.div_eq_of_lt hj];rfl
   have h2:(k/m*m+k%m)/m=k/m:=by rw[Nat.mul_comm,Nat.mul_add_div hm,Nat.div_eq_of_lt hr];rfl
   rw[← h1,h,h2]
 ·rw[List.getElem?_eq_none (by rw[List.length_set,kO hf];omega),List.getElem?_eq_none (by rw[kO hf,List.length_set];omega)]
theorem DN {α β:Type} {f:α→List β} {L:List α} {i:Nat} (hi:i<L.length) {y:α} (h:f y=f L[i]):(L.set i y).flatMap f=L.flatMap f:=by
 rw[List.flatMap_def,List.flatMap_def,List.map_set,h]
 congr 1
 apply List.ext_getElem?
 intro j
 rw[List.getElem?_set]
 split
 ·rename_i e
  subst e
  rw[List.length_map,if_pos hi,List.getElem?_map,List.getElem?_eq_getElem hi];rfl
 ·rfl
section
variable {kc:Kc} {q:Bool} {s:St} {Φ:Value→St→Prop} {g:Nat} {G:lM} {P:PH}
theorem cN.parts (H:cN s g G):(∀ o∈G.L,o.rn≠o.dn)∧G.L.Pairwise fun x y=>x.rn≠y.rn∧x.rn≠y.dn∧x.dn≠y.rn∧x.dn≠y.dn:=by
 have nd:=H.nd
 unfold lM.own at nd
 rw[List.nodup_cons,List.nodup_cons] at nd
 have h:=nd.2.2
 unfold List.Nodup at h
 rw[List.pairwise_flatMap] at h
 refine⟨fun o ho=>?_,h.2.imp fun{x y} h=>⟨h _ (by simp) _ (by simp),h _ (by simp) _ (by simp),h _ (by simp) _ (by simp),h _ (by simp) _ (by simp)⟩⟩
 have:=h.1 o ho
 simpa using this
theorem cN.setRs {s':St} (H:cN s g G) {i:Nat} (hi:i<G.L.length) {rs:List Int} (hl:rs.length=G.L[i].rs.length) (k:aC [G.L[i].rn] s s') (hc:Obj s' G.L[i].rn (rs.map int)):cN s' g {G with L:=G.L.set i {G.L[i] with rs:=rs}}:=by
 obtain⟨p1,p2⟩:=H.parts
 obtain⟨n1,n2,n3,n4⟩:=H.sn
 have hm:=List.getElem_mem hi
 have hfl:(G.L.set i {G.L[i] with rs:=rs}).flatMap cV.C=G.L.flatMap cV.C:=DN hi (by
  show ([_,_,_,_,_,Value.slice (some ⟨_,0,none⟩) rs.length rs.length,_,_]:List Value)=_
  rw[hl];rfl)
 have hown:({G with L:=G.L.set i {G.L[i] with rs:=rs}}:lM).own g=G.own g:=by
  unfold lM.own
  congr 2
  exact DN (f:=fun o:cV=>[o.rn,o.dn]) hi rfl
 obtain⟨c,cb,cl,cr,nd,nl,m2,m64,len⟩:=H
 obtain⟨o1,o2,o3,o4⟩:=n2 _ hm
 have hrn:G.L[i].rn∈G.own g:=List.mem_cons_of_mem _ (List.mem_cons_of_mem _ (List.mem_flatMap.2 ⟨_,hm,by simp⟩))
 refine⟨?_,cb.aF k (by simp;omega),?_,fun o ho=>?_,by rw[hown];exact nd,?_,m2,m64,by rw[List.length_set];exact len⟩
 ·have:=c.aF k (by simp;omega)
  simpa using this
 ·have:=cl.aF k (fun b hb hb'=>nl b hb (by rw[List.mem_singleton.1 hb'];exact hrn))
  simp only[List.length_set]
  rw[hfl]
  exact this
 ·obtain⟨j,hj,rfl⟩:=List.mem_iff_getElem.1 ho
  rw[List.length_set] at hj
  rw[List.getElem_set]
  split
  ·rename_i e
   refine⟨hc,(cr _ hm).2.aF k ?_⟩
   have:=p1 _ hm
   simp;exact fun e=>this e.symm
  ·rename_i e
   have hd:G.L[j].rn≠G.L[i].rn∧G.L[j].dn≠G.L[i].rn:=by
    rw[List.pairwise_iff_getElem] at p2
    rcases Nat.lt_or_gt_of_ne e with h | h
    ·have:=p2 i j hi hj h
     exact⟨fun e=>this.1 e.symm,fun e=>this.2.1 e.symm⟩
    ·have:=p2 j i hj hi h
     exact⟨this.1,this.2.2.1⟩
   have:=cr _ (List.getElem_mem hj)
   exact⟨this.1.aF k (by simp[hd.1]),this.2.aF k (by simp[hd.2])⟩
 ·simp only[List.length_set]
  rw[hown]
  exact nl
theorem cN.setPin {s':St} (H:cN s g G) {i:Nat} (hi:i<G.L.length) {v:Bool} {b off:Nat} (hv:G.va=some ⟨b,off,none⟩) (k:aC [b] s s') (hc:kL s' 133 8 (.slice G.va G.L.length G.vc) ((G.L.flatMap cV.C).set (i*8+7) (.bool v))):cN s' g {G with L:=G.L.set i {G.L[i] with vI:=v}}:=by
 have hb:=H.nl b (by rw[hv];simp[nameOf])
 have hfl:(G.L.flatMap cV.C).set (i*8+7) (.bool v)=(G.L.set i {G.L[i] with vI:=v}).flatMap cV.C:=ur cV.oT G.L hi (by omega) rfl
 have hown:({G with L:=G.L.set i {G.L[i] with vI:=v}}:lM).own g=G.own g:=by
  unfold lM.own
  congr 2
  exact DN (f:=fun o:cV=>[o.rn,o.dn]) hi rfl
 obtain⟨c,cb,cl,cr,nd,nl,m2,m64,len⟩:=H
 have ho:∀ x∈G.own g,x∉[b]:=fun x hx h=>hb (by rw[← List.mem_singleton.1 h];exact hx)
 refine⟨?_,cb.aF k (ho _ (List.mem_cons_of_mem _ (List.mem_cons_self ..))),?_,fun o hom=>?_,by rw[hown];exact nd,?_,m2,m64,by rw[List.length_set];exact len⟩
 ·have:=c.aF k (ho _ (List.mem_cons_self ..))
  simpa using this
 ·rw[← hfl]
  simpa using hc
 ·have key:∀ x∈G.L,Obj s' x.rn (x.rs.map int)∧Obj s' x.dn (x.ds.map int):=fun x hx =>
   ⟨(cr x hx).1.aF k (ho _ (List.mem_cons_of_mem _ (List.mem_cons_of_mem _ (List.mem_flatMap.2 ⟨x,hx,by simp⟩)))),(cr x hx).2.aF k (ho _ (List.mem_cons_of_mem _ (List.mem_cons_of_mem _ (List.mem_flatMap.2 ⟨x,hx,by simp⟩))))⟩
  obtain⟨j,hj,rfl⟩:=List.mem_iff_getElem.1 hom
  rw[List.length_set] at hj
  rw[List.getElem_set]
  split
  ·exact key G.L[i] (List.getElem_mem hi)
  ·exact key _ (List.getElem_mem hj)
 ·simp only[List.length_set]
  rw[hown]
  exact nl
theorem cN.name_va (H:cN s g G) {b off:Nat} (hv:G.va=some ⟨b,off,none⟩):b∈nameOf (.slice G.va G.L.length G.vc):=by rw[hv];simp[nameOf]
theorem tP:type_of% (An @RX<|An @kA<|An @QE<|An @kI<|An @eK<|An @jA<|An @jX<|An @tF<|@gV):=An @RX<|An @kA<|An @QE<|An @kI<|An @eK<|An @jA<|An @jX<|An @tF<|@gV
theorem py (hs:Ok s) (H:cN s g G) (S:kM P G.L) (a:Int) (hΦ:∀ s',aC [] s s'→Φ (.tuple #[jL (P.lD a),int (if P.has a=true then 0 else 4)]) s'):okF q X (KO kc) 57 [ptr g,int a] s Φ:=by
 have hlen:=H.len
 refine aG rfl fn_57 rfl (rs:=[.cell 4 44,.tmp 5]) rfl (N:=24) rfl rfl ?_
 refine aA fun Ψ0 hΨ0 hΨ0'=>?_
 simp only[tP,↓reduceIte,zA,reduceCtorEq,zE,zB,zC,zD,zF]
 obtain⟨s1,e1,k1,c1,n1⟩:=aT hs (L:=[int 0,int 0,int 0]) (n:=3) (e:=44) rfl
 rw[e1]
 refine hΨ0 _ _ ?_
 have H1:=H.aN k1
 refine aA fun Ψ1 hΨ1 hΨ1'=>?_
 refine aA fun Ψ2 hΨ2 hΨ2'=>?_
 simp only[tP,↓reduceIte,zA,reduceCtorEq,zE,zB,zC,zD,zF]
 refine aB ?_ (yM H1 S a ?_)
 ·simp only[tP,↓reduceIte,zA,reduceCtorEq,zE,zB,zC,zD,zF]
 try simp only[tP,↓reduceIte,zA,reduceCtorEq,zE,zB,zC,zD,zF]
 refine hΨ2 _ _ ?_
 refine aA fun Ψ3 hΨ3 hΨ3'=>?_
 cases hh:P.has a with
 | false =>
  have hΦ':=fun s' k=>hΦ s' k
  unfold PH.lD at hΦ'
  simp only[hh,Bool.false_eq_true,if_false] at hΦ'
  obtain⟨s2,e2,c2,k2⟩:=c1.storeAll k1.ok (vs:=[int 0,int 0,int 0]) rfl rfl
  have k02:aC [] s s2:=k1.step k2 fun y hy=>.inr (by rw[List.mem_singleton.1 hy];exact hs.fresh _ (Nat.le_refl _))
  have l2:=c2.aS (i:=0) (k:=3) (Nat.le_refl _)
  simp only[tP,↓reduceIte,zA,reduceCtorEq,zE,zB,zC,zD,zF,hh]
  refine hΨ3 _ _ ?_
  simp only[tP,↓reduceIte,zA,reduceCtorEq,zE,zB,zC,zD,zF,e2]
  refine hΨ1' _ _ _ (by simp) ?_
  simp only[tP,↓reduceIte,zA,reduceCtorEq,zE,zB,zC,zD,zF,l2,List.drop_zero,List.take]
  exact hΦ' _ k02
 | true =>
  have hΦ':=fun s' k=>hΦ s' k
  unfold PH.lD at hΦ'
  simp only[hh,if_true] at hΦ'
  simp only[tP,↓reduceIte,zA,reduceCtorEq,zE,zB,zC,zD,zF,hh]
  refine hΨ3 _ _ ?_
  simp only[tP,↓reduceIte,zA,reduceCtorEq,zE,zB,zC,zD,zF]
  refine hΨ1 _ _ ?_
  have ks:aC [] s1 (s1.skip 24):=aC.skip k1.ok _
  refine aA fun Ψ4 hΨ4 hΨ4'=>?_
  refine aQ [(3,6)] [g] [] (by kernel_rfl) (by kernel_rfl) (by rfl) fun O hO ΨR hR=>?_
  simp only[tP,↓reduceIte,zA,reduceCtorEq,zE,zB,zC,zD,zF,H1.l1]
  refine aW ?_ (oG (H1.aN ks) a (fun i hi he=>?_) (fun hn=>?_))
  ·simp only[tP,↓reduceIte,zA,reduceCtorEq,zE,zB,zC,zD,zF]
  ·obtain⟨vb,voff,hv⟩:=H1.addr (show 0<G.L.length by omega)
   have p1:(0:Int)≤(i:Int):=Int.natCast_nonneg _
   have p2:(i:Int)<((G.L.length:Nat):Int):=by omega
   have hok:=S.ok _ (List.getElem_mem hi)
   have l2:aS s1.look ⟨vb,voff+i*8+2,none⟩ 3=some [int (P.shape a).r,int (P.shape a).d,int (P.shape a).k]:=by
    have h:=H1.cl.sl
    rw[hv] at h
    have:=h.aS (i:=i*8+2) (k:=3) (by omega) (by rw[kO cV.oT];omega)
    rw[← Nat.add_assoc] at this
    rw[this,← he,← hok.sh]
    congr 1
    apply List.ext_getElem?
    intro j
    by_cases hj:j<3
    ·rw[List.getElem?_take,if_pos hj,List.getElem?_drop,Nat.add_assoc,nB cV.oT _ hi (by omega)]
     rcases j with _ | _ | _ | j
     ·rfl
     ·rfl
     ·rfl
     ·omega
    ·rw[List.getElem?_eq_none (by rw[List.length_take];omega),List.getElem?_eq_none (by simp;omega)]
   obtain⟨s2,e2,c2,k2⟩:=(c1.aF ks (by simp)).storeAll ks.ok (vs:=[int (P.shape a).r,int (P.shape a).d,int (P.shape a).k]) rfl rfl
   have k02:aC [] s s2:=(k1.trans ks).step k2 fun y hy=>.inr (by rw[List.mem_singleton.1 hy];exact hs.fresh _ (Nat.le_refl _))
   have hsm:bP (s1.skip 24) (s1.skip 24) g=true:=(H1.aN ks).c.same ks.ok (.refl ks.ok) (F:=[]) (by simp)
   have l3:=c2.aS (i:=0) (k:=3) (Nat.le_refl _)
   simp only[tP,↓reduceIte,zA,reduceCtorEq,zE,zB,zC,zD,zF,hv,p1,p2,and_self,aJ,Int.toNat_natCast,l2,e2]
   refine⟨aV hsm bR,hR _ _ (hΨ4 _ _ ?_)⟩
   simp only[tP,↓reduceIte,zA,reduceCtorEq,zE,zB,zC,zD,zF,l3,List.drop_zero,List.take]
   exact hΦ' _ k02
  ·obtain⟨o,ho,e⟩:=S.mem.2 hh
   exact absurd e (hn o ho)
theorem sJ:type_of% (An @RC<|An @RO<|An @RD<|An @RV<|An @RB<|@RG):=An @RC<|An @RO<|An @RD<|An @RV<|An @RB<|@RG
theorem zb (hs:Ok s) (H:cN s g G) (S:kM P G.L) (I:P.Inv) (a:Int) (h1:P.has a=true→∀ va vc L s',cN s' g {G with va:=va,vc:=vc,L:=L}→kM (P.kill a) L→aC [g] s s'→(∀ b∈nameOf (.slice va L.length vc),s.next≤b)→(∀ o∈L,o∈G.L)→Φ (int 0) s') (h2:P.has a=false→Φ (int 4) s):okF q X (KO kc) 56 [ptr g,int a] s Φ:=by
 refine aG rfl fn_56 rfl (rs:=[.tmp 4]) rfl (N:=17) rfl rfl ?_
 refine aA fun Ψ0 hΨ0 hΨ0'=>?_
 simp only[sJ,↓reduceIte,zA,reduceCtorEq,zE,zB,zC,zD,zF]
 refine hΨ0 _ _ ?_
 refine aA fun Ψ1 hΨ1 hΨ1'=>?_
 refine aA fun Ψ2 hΨ2 hΨ2'=>?_
 simp only[sJ,↓reduceIte,zA,reduceCtorEq,zE,zB,zC,zD,zF]
 refine aB ?_ (yM H S a ?_)
 ·simp only[sJ,↓reduceIte,zA,reduceCtorEq,zE,zB,zC,zD,zF]
 try simp only[sJ,↓reduceIte,zA,reduceCtorEq,zE,zB,zC,zD,zF]
 refine hΨ2 _ _ ?_
 refine aA fun Ψ3 hΨ3 hΨ3'=>?_
 cases hh:P.has a with
 | false =>
  simp only[sJ,↓reduceIte,zA,reduceCtorEq,zE,zB,zC,zD,zF,hh]
  refine hΨ3 _ _ ?_
  simp only[sJ,↓reduceIte,zA,reduceCtorEq,zE,zB,zC,zD,zF]
  refine hΨ1' _ _ _ (by simp) ?_
  simp only[sJ,↓reduceIte,zA,reduceCtorEq,zE,zB,zC,zD,zF]
  exact h2 hh
 | true =>
  simp only[sJ,↓reduceIte,zA,reduceCtorEq,zE,zB,zC,zD,zF,hh]
  refine hΨ3 _ _ ?_
  simp only[sJ,↓reduceIte,zA,reduceCtorEq,zE,zB,zC,zD,zF]
  refine hΨ1 _ _ ?_
  refine aA fun Ψ4 hΨ4 hΨ4'=>?_
  simp only[sJ,↓reduceIte,zA,reduceCtorEq,zE,zB,zC,zD,zF]
  refine aB ?_ (oG H a (fun i hi he=>?_) (fun hn=>?_))
  ·simp only[sJ,↓reduceIte,zA,reduceCtorEq,zE,zB,zC,zD,zF]
  ·refine aB ?_ (ref_cut hs H hi fun va vc s' H' k' hv=>?_)
   ·simp only[sJ,↓reduceIte,zA,reduceCtorEq,zE,zB,zC,zD,zF]
   simp only[sJ,↓reduceIte,zA,reduceCtorEq,zE,zB,zC,zD,zF]
   refine hΨ4 _ _ ?_
   simp only[sJ,↓reduceIte,zA,reduceCtorEq,zE,zB,zC,zD,zF]
   refine h1 hh va vc _ s' H' ?_ k' hv (fun o ho=>List.mem_of_mem_eraseIdx ho)
   have:=S.kill I hi
   rw[he] at this
   exact this
  ·obtain⟨o,ho,e⟩:=S.mem.2 hh
   exact absurd e (hn o ho)
theorem oL:type_of% (An @RX<|An @eK<|An @jA<|An @jX<|An @VB<|@st_4):=An @RX<|An @eK<|An @jA<|An @jX<|An @VB<|@st_4
theorem ref_pin (hs:Ok s) (H:cN s g G) (S:kM P G.L) (I:P.Inv) (a:Int) (v:Bool) (h1:P.has a=true→∀ L s',cN s' g {G with L:=L}→kM (P.vI a (if v=true then 1 else 0)) L→L.length=G.L.length→(∀ o∈L,∃ o'∈G.L,o.rn=o'.rn∧o.dn=o'.dn)→aC (nameOf (.slice G.va G.L.length G.vc)) s s'→Φ (int 0) s') (h2:P.has a=false→Φ (int 4) s):okF q X (KO kc) 152 [ptr g,int a,.bool v] s Φ:=by
 refine aG rfl fn_152 rfl (rs:=[.tmp 6]) rfl (N:=24) rfl rfl ?_
 refine aA fun Ψ0 hΨ0 hΨ0'=>?_
 simp only[oL,↓reduceIte,zA,reduceCtorEq,zE,zB,zC,zD,zF]
 refine hΨ0 _ _ ?_
 refine aA fun Ψ1 hΨ1 hΨ1'=>?_
 refine aA fun Ψ2 hΨ2 hΨ2'=>?_
 simp only[oL,↓reduceIte,zA,reduceCtorEq,zE,zB,zC,zD,zF]
 refine aB ?_ (yM H S a ?_)
 ·simp only[oL,↓reduceIte,zA,reduceCtorEq,zE,zB,zC,zD,zF]
 try simp only[oL,↓reduceIte,zA,reduceCtorEq,zE,zB,zC,zD,zF]
 refine hΨ2 _ _ ?_
 refine aA fun Ψ3 hΨ3 hΨ3'=>?_
 cases hh:P.has a with
 | false =>
  simp only[oL,↓reduceIte,zA,reduceCtorEq,zE,zB,zC,zD,zF,hh]
  refine hΨ3 _ _ ?_
  simp only[oL,↓reduceIte,zA,reduceCtorEq,zE,zB,zC,zD,zF]
  refine hΨ1' _ _ _ (by simp) ?_
  simp only[oL,↓reduceIte,zA,reduceCtorEq,zE,zB,zC,zD,zF]
  exact h2 hh
 | true =>
  simp only[oL,↓reduceIte,zA,reduceCtorEq,zE,zB,zC,zD,zF,hh]
  refine hΨ3 _ _ ?_
  simp only[oL,↓reduceIte,zA,reduceCtorEq,zE,zB,zC,zD,zF]
  refine hΨ1 _ _ ?_
  have ks:aC [] s (s.skip 22):=aC.skip hs _
  refine aA fun Ψ4 hΨ4 hΨ4'=>?_
  refine aQ [(3,6)] [g] [] (by kernel_rfl) (by kernel_rfl) (by rfl) fun O hO ΨR hR=>?_
  simp only[oL,↓reduceIte,zA,reduceCtorEq,zE,zB,zC,zD,zF,H.l1]
  refine aW ?_ (oG (H.aN ks) a (fun i hi he=>?_) (fun hn=>?_))
  ·simp only[oL,↓reduceIte,zA,reduceCtorEq,zE,zB,zC,zD,zF]
  ·obtain⟨vb,voff,hv⟩:=H.addr (show 0<G.L.length by omega)
   have p1:(0:Int)≤(i:Int):=Int.natCast_nonneg _
   have p2:(i:Int)<((G.L.length:Nat):Int):=by omega
   have cl:=(H.aN ks).cl
   rw[hv] at cl
   obtain⟨s2,e2,b2,k2⟩:=cl.storeAt ks.ok (i:=i*8+7) (v:=.bool v) (by rw[kO cV.oT];omega) rfl
   rw[← Nat.add_assoc] at e2
   have hsm:bP (s.skip 22) (s.skip 22) g=true:=(H.aN ks).c.same ks.ok (.refl ks.ok) (F:=[]) (by simp)
   simp only[oL,↓reduceIte,zA,reduceCtorEq,zE,zB,zC,zD,zF,hv,p1,p2,and_self,aJ,Int.toNat_natCast,e2]
   have H2:=(H.aN ks).setPin hi hv k2 (by rw[hv];exact b2)
   have hS:=S.vI I.cZ hi (v:=if v=true then 1 else 0)
   rw[he,show decide ((if v=true then 1 else 0)=1)=v by cases v <;> rfl] at hS
   refine⟨aV hsm bR,hR _ _ (hΨ4 _ _ ?_)⟩
   simp only[oL,↓reduceIte,zA,reduceCtorEq,zE,zB,zC,zD,zF]
   refine h1 hh _ s2 H2 hS (List.length_set ..) (fun o ho=>?_) ((ks.any.trans k2).mono fun x hx=>by rw[List.mem_singleton.1 hx];exact H.name_va hv)
   rcases List.mem_or_eq_of_mem_set ho with h | h
   ·exact⟨o,h,rfl,rfl⟩
   ·exact⟨_,List.getElem_mem hi,by rw[h],by rw[h]⟩
  ·obtain⟨o,ho,e⟩:=S.mem.2 hh
   exact absurd e (hn o ho)
theorem MG:type_of% (An @RC<|An @RO<|An @RD<|An @RV<|An @RB<|@RG):=An @RC<|An @RO<|An @RD<|An @RV<|An @RB<|@RG
theorem ref_Pin (hs:Ok s) (H:cN s g G) (S:kM P G.L) (I:P.Inv) (a:Int) (h1:P.has a=true→∀ L s',cN s' g {G with L:=L}→kM (P.vI a 1) L→L.length=G.L.length→(∀ o∈L,∃ o'∈G.L,o.rn=o'.rn∧o.dn=o'.dn)→aC (nameOf (.slice G.va G.L.length G.vc)) s s'→Φ (int 0) s') (h2:P.has a=false→Φ (int 4) s):okF q X (KO kc) 60 [ptr g,int a] s Φ:=by
 refine aG rfl fn_60 rfl (rs:=[.tmp 4]) rfl (N:=8) rfl rfl ?_
 refine aA fun Ψ0 hΨ0 hΨ0'=>?_
 simp only[MG,↓reduceIte,zA,reduceCtorEq,zE,zB,zC,zD,zF]
 refine hΨ0 _ _ ?_
 refine aA fun Ψ1 hΨ1 hΨ1'=>?_
 simp only[MG,↓reduceIte,zA,reduceCtorEq,zE,zB,zC,zD,zF]
 refine aB ?_ (ref_pin hs H S I a true (fun hh L s' H' S' hl hn k'=>?_) (fun hh=>?_))
 ·simp only[MG,↓reduceIte,zA,reduceCtorEq,zE,zB,zC,zD,zF]
 ·simp only[MG,↓reduceIte,zA,reduceCtorEq,zE,zB,zC,zD,zF]
  refine hΨ1 _ _ ?_
  simp only[MG,↓reduceIte,zA,reduceCtorEq,zE,zB,zC,zD,zF]
  exact h1 hh L s' H' S' hl hn k'
 ·simp only[MG,↓reduceIte,zA,reduceCtorEq,zE,zB,zC,zD,zF]
  refine hΨ1 _ _ ?_
  simp only[MG,↓reduceIte,zA,reduceCtorEq,zE,zB,zC,zD,zF]
  exact h2 hh
theorem eJ:type_of% (An @RX<|An @eK<|An @jA<|An @jX<|An @VA<|An @cY<|An @cO<|An @dO<|@rV):=An @RX<|An @eK<|An @jA<|An @jX<|An @VA<|An @cY<|An @cO<|An @dO<|@rV
theorem bo (hs:Ok s) (H:cN s g G) (S:kM P G.L) (I:P.Inv) (a i to:Int) (h1:P.yV a i to=0→∀ L n s',cN s' g {G with L:=L}→kM (P.setRef a i to) L→L.length=G.L.length→(∀ o∈L,∃ o'∈G.L,o.rn=o'.rn∧o.dn=o'.dn)→n∈G.own g→aC [n] s s'→Φ (int 0) s') (h2:P.yV a i to≠0→Φ (int (P.yV a i to)) s):okF q X (KO kc) 148 [ptr g,int a,int i,int to] s Φ:=by
 unfold PH.setRef at h1
 refine aG rfl fn_148 rfl (rs:=[.tmp 8]) rfl (N:=56) rfl rfl ?_
 refine aA fun Ψ0 hΨ0 hΨ0'=>?_
 simp only[eJ,↓reduceIte,zA,reduceCtorEq,zE,zB,zC,zD,zF]
 refine hΨ0 _ _ ?_
 refine aA fun Ψ1 hΨ1 hΨ1'=>?_
 refine aA fun Ψ2 hΨ2 hΨ2'=>?_
 simp only[eJ,↓reduceIte,zA,reduceCtorEq,zE,zB,zC,zD,zF]
 refine aB ?_ (yM H S a ?_)
 ·simp only[eJ,↓reduceIte,zA,reduceCtorEq,zE,zB,zC,zD,zF]
 try simp only[eJ,↓reduceIte,zA,reduceCtorEq,zE,zB,zC,zD,zF]
 refine hΨ2 _ _ ?_
 refine aA fun Ψ3 hΨ3 hΨ3'=>?_
 cases hh:P.has a with
 | false =>
  have e:P.yV a i to=4:=by unfold PH.yV PH.mH;rw[hh];rfl
  rw[e] at h2
  simp only[eJ,↓reduceIte,zA,reduceCtorEq,zE,zB,zC,zD,zF,hh]
  refine hΨ3 _ _ ?_
  simp only[eJ,↓reduceIte,zA,reduceCtorEq,zE,zB,zC,zD,zF]
  refine hΨ1' _ _ _ (by simp) ?_
  simp only[eJ,↓reduceIte,zA,reduceCtorEq,zE,zB,zC,zD,zF]
  exact h2 (by omega)
 | true =>
  simp only[eJ,↓reduceIte,zA,reduceCtorEq,zE,zB,zC,zD,zF,hh]
  refine hΨ3 _ _ ?_
  simp only[eJ,↓reduceIte,zA,reduceCtorEq,zE,zB,zC,zD,zF]
  refine hΨ1 _ _ ?_
  refine aA fun Ψ4 hΨ4 hΨ4'=>?_
  simp only[eJ,↓reduceIte,zA,reduceCtorEq,zE,zB,zC,zD,zF]
  refine aB ?_ (oG H a (fun k hk he=>?_) (fun hn=>?_))
  ·simp only[eJ,↓reduceIte,zA,reduceCtorEq,zE,zB,zC,zD,zF]
  ·simp only[eJ,↓reduceIte,zA,reduceCtorEq,zE,zB,zC,zD,zF]
   refine hΨ4 _ _ ?_
   obtain⟨vb,voff,hv⟩:=H.addr (show 0<G.L.length by omega)
   have p1:(0:Int)≤(k:Int):=Int.natCast_nonneg _
   have p2:(k:Int)<((G.L.length:Nat):Int):=by omega
   have hm:=List.getElem_mem hk
   have hok:=S.ok _ hm
   have hr:=S.LL I.cZ hm
   have hrl:G.L[k].rs.length=G.L[k].sh.r.toNat:=by rw[hok.rs,qW]
   have hmany:P.many a false=(G.L[k].rs.length:Int):=by
    unfold PH.many
    rw[if_neg (by simp),← he,← hok.sh,hrl];omega
   have l1:=H.l1
   rw[hv] at l1
   have l5:aI s.look ⟨vb,voff+k*8+5,none⟩=some (.slice (some ⟨G.L[k].rn,0,none⟩) G.L[k].rs.length G.L[k].rs.length):=H.lo hv hk rfl
   refine aA fun Ψ5 hΨ5 hΨ5'=>?_
   refine aA fun Ψ6 hΨ6 hΨ6'=>?_
   refine aH [(2,22),(15,35),(18,38)] (by kernel_rfl) fun O hO ΨR hR=>?_
   have y2:∀ a,aE O a 2=aM (a.aD 22):=hO (2,22) (by simp)
   have y15:∀ a,aE O a 15=aM (a.aD 35):=hO (15,35) (by simp)
   have y18:∀ a,aE O a 18=aM (a.aD 38):=hO (18,38) (by simp)
   by_cases g1:i<0
   ·have e:P.yV a i to=1:=by unfold PH.yV PH.mH;rw[hh,if_pos rfl,if_pos (Or.inl g1)];rfl
    rw[e] at h2
    simp only[eJ,↓reduceIte,zA,reduceCtorEq,zE,zB,zC,zD,zF,y2,y15,y18,g1,decide_true]
    refine hR _ _ (hΨ6 _ _ ?_)
    simp only[eJ,↓reduceIte,zA,reduceCtorEq,zE,zB,zC,zD,zF]
    refine hΨ5' _ _ _ (by simp) ?_
    simp only[eJ,↓reduceIte,zA,reduceCtorEq,zE,zB,zC,zD,zF]
    exact h2 (by omega)
   by_cases g2:i≥(G.L[k].rs.length:Int)
   ·have e:P.yV a i to=1:=by unfold PH.yV PH.mH;rw[hh,if_pos rfl,hmany,if_pos (Or.inr g2)];rfl
    rw[e] at h2
    simp only[eJ,↓reduceIte,zA,reduceCtorEq,zE,zB,zC,zD,zF,y2,y15,y18,g1,l1,p1,p2,and_self,aJ,Int.toNat_natCast,l5,g2,decide_true,decide_false]
    refine hR _ _ (hΨ6 _ _ ?_)
    simp only[eJ,↓reduceIte,zA,reduceCtorEq,zE,zB,zC,zD,zF]
    refine hΨ5' _ _ _ (by simp) ?_
    simp only[eJ,↓reduceIte,zA,reduceCtorEq,zE,zB,zC,zD,zF]
    exact h2 (by omega)
   have hfe:P.mH a i false=0:=by unfold PH.mH;rw[hh,if_pos rfl,hmany,if_neg (by omega)]
   have fin:∀ a':bD,a'.aD 0=ptr g→a'.aD 2=int i→a'.aD 3=int to→a'.aD 10=int k→P.yV a i to=0→Ψ5 .normal a' s:=by
    intro a' r0 r2 r3 r10 e
    have n1:0≤i:=by omega
    have n2:i<((G.L[k].rs.length:Nat):Int):=by omega
    obtain⟨s2,e2,c2,k2⟩:=(H.cr _ hm).1.dU hs (i:=i.toNat) (v:=int to) (by rw[List.length_map];omega) rfl
    have c2':Obj s2 G.L[k].rn ((G.L[k].rs.set i.toNat to).map int):=by rw[List.map_set];exact c2
    have H2:=H.setRs hk (rs:=G.L[k].rs.set i.toNat to) (List.length_set ..) k2 c2'
    have hS:=S.setRef I hk (k:=i.toNat) (by omega) to
    have hfa:P.sT a i false=G.L[k].a+2+(i.toNat:Int):=by
     rw[(PH.uD I.cZ hfe).1,he]
     show a+2+i=_
     omega
    rw[← hfa] at hS
    refine hΨ5 _ _ ?_
    refine aA fun Ψ7 hΨ7 hΨ7'=>?_
    simp only[eJ,↓reduceIte,zA,reduceCtorEq,zE,zB,zC,zD,zF,r0,r2,r3,r10,l1,p1,p2,and_self,aJ,Int.toNat_natCast,l5,n1,n2,Nat.mul_one,Nat.zero_add,e2]
    refine hΨ7 _ _ ?_
    simp only[eJ,↓reduceIte,zA,reduceCtorEq,zE,zB,zC,zD,zF]
    refine h1 e _ _ s2 H2 (by rw[if_pos e];exact hS) (List.length_set ..) (fun o ho=>?_) (List.mem_cons_of_mem _ (List.mem_cons_of_mem _ (List.mem_flatMap.2 ⟨_,hm,by simp⟩))) k2
    rcases List.mem_or_eq_of_mem_set ho with h | h
    ·exact⟨o,h,rfl,rfl⟩
    ·exact⟨_,hm,by rw[h],by rw[h]⟩
   by_cases g3:to=0
   ·have e:P.yV a i to=0:=by unfold PH.yV;rw[if_pos hfe,if_neg (by omega)]
    have g3':(to==0)=true:=by simpa using g3
    simp only[eJ,↓reduceIte,zA,reduceCtorEq,zE,zB,zC,zD,zF,y2,y15,y18,g1,l1,p1,p2,and_self,aJ,Int.toNat_natCast,l5,g2,g3',decide_false]
    refine hR _ _ (hΨ6 _ _ ?_)
    simp only[eJ,↓reduceIte,zA,reduceCtorEq,zE,zB,zC,zD,zF]
    refine fin _ ?_ ?_ ?_ ?_ e
    all_goals simp only[eJ,↓reduceIte,zA,reduceCtorEq,zE,zB,zC,zD,zF]
   ·have g3':(to==0)=false:=by simpa using g3
    simp only[eJ,↓reduceIte,zA,reduceCtorEq,zE,zB,zC,zD,zF,y2,y15,y18,g1,l1,p1,p2,and_self,aJ,Int.toNat_natCast,l5,g2,g3',decide_false]
    refine aB ?_ (ref_Has H S to ?_)
    ·simp only[eJ,↓reduceIte,zA,reduceCtorEq,zE,zB,zC,zD,zF]
    cases ht:P.has to with
    | true =>
     have e:P.yV a i to=0:=by unfold PH.yV;rw[if_pos hfe,if_neg (by rw[ht];simp)]
     simp only[eJ,↓reduceIte,zA,reduceCtorEq,zE,zB,zC,zD,zF,y2,y15,y18]
     refine hR _ _ (hΨ6 _ _ ?_)
     simp only[eJ,↓reduceIte,zA,reduceCtorEq,zE,zB,zC,zD,zF]
     refine fin _ ?_ ?_ ?_ ?_ e
     all_goals simp only[eJ,↓reduceIte,zA,reduceCtorEq,zE,zB,zC,zD,zF]
    | false =>
     have e:P.yV a i to=1:=by unfold PH.yV;rw[if_pos hfe,if_pos ⟨g3,ht⟩]
     rw[e] at h2
     simp only[eJ,↓reduceIte,zA,reduceCtorEq,zE,zB,zC,zD,zF,y2,y15,y18]
     refine hR _ _ (hΨ6 _ _ ?_)
     simp only[eJ,↓reduceIte,zA,reduceCtorEq,zE,zB,zC,zD,zF]
     refine hΨ5' _ _ _ (by simp) ?_
     simp only[eJ,↓reduceIte,zA,reduceCtorEq,zE,zB,zC,zD,zF]
     exact h2 (by omega)
  ·obtain⟨o,ho,e⟩:=S.mem.2 hh
   exact absurd e (hn o ho)
end
open Go.Proofs
set_option maxRecDepth 100000
set_option maxHeartbeats 4000000
section
variable {kc:Kc} {q:Bool} {s:St} {Φ:Value→St→Prop} {g:Nat} {G:lM} {P:PH}
theorem cN.SQ {s':St} {n:Nat} (H:cN s g G) (k:aC [g] s s') (hc:Obj s' g [.slice (some ⟨G.bn,0,none⟩) G.N G.N,.slice G.va G.L.length G.vc,.slice none 0 0,int n]):cN s' g {G with born:=n}:=by
 obtain⟨h1,h2,h3,h4⟩:=H.sn
 obtain⟨c,cb,cl,cr,nd,nl,n2,iJ,len⟩:=H
 refine⟨hc,cb.aF k (by simp[h1]),cl.aF k (fun b hb=>by simp;intro e;exact h4 (by rw[← e];exact hb)),fun o ho=>?_,nd,nl,n2,iJ,len⟩
 obtain⟨g1,g2,g3,g4⟩:=h2 o ho
 exact⟨(cr o ho).1.aF k (by simp[g3]),(cr o ho).2.aF k (by simp[g4])⟩
theorem Obj.zr {s:St} {b y:Nat} {L:List Value} {f:Nat→bX} (h:Obj s b L) (hs:Ok s) (hy:b≠y):bP s (s.put y f) b=true:=by
 have:=h.same hs (.refl hs) (F:=[]) (by simp)
 unfold bP at this ⊢
 rw[gZ hy]
 exact this
theorem gQ:type_of% (An @RX<|An @gV<|An @UY<|An @bF<|An @rV<|An @eC<|An @fX<|@tC):=An @RX<|An @gV<|An @UY<|An @bF<|An @rV<|An @eC<|An @fX<|@tC
theorem px (hs:Ok s) (H:cN s g G) (S:lO P G) (I:P.Inv) (a:Int) (ha:i64 a) (x:iV) (hx:x.valid=true) (hb:P.born<1000000) (hlen:G.L.length<2048)
  (h1:P.mJ a x=0→∀ G' s',cN s' g G'→lO (P.place a x) G'→G'.L.length=G.L.length+1→aC [g] s s'→(∀ b∈G'.aU g,b∈G.aU g∨s.next≤b)→Φ (.tuple #[int ((P.born:Int)+1),int 0]) s') (h2:P.mJ a x≠0→∀ s',aC [] s s'→Φ (.tuple #[int 0,int (P.mJ a x)]) s') :
  okF q X (KO kc) 145 [ptr g,int a,jL x] s Φ:=by
 have hv:=iV.dX.1 hx
 have hpE:P.mJ a x=P.nA a x.words (-1):=by unfold PH.mJ;rw[if_pos hx]
 rw[hpE] at h1 h2
 refine aG rfl fn_145 rfl (rs:=[.tmp 6,.tmp 7]) rfl (N:=48) rfl rfl ?_
 refine aA fun Ψ0 hΨ0 hΨ0'=>?_
 simp only[gQ,↓reduceIte,zA,reduceCtorEq,zE,zB,zC,zD,zF]
 obtain⟨s1,e1,k1,c1,n1⟩:=aT hs (L:=[int x.r,int x.d,int x.k]) (n:=3) (e:=44) rfl
 rw[e1]
 refine hΨ0 _ _ ?_
 have H1:=H.aN k1
 have lsh:=c1.aS (i:=0) (k:=3) (Nat.le_refl _)
 refine aA fun Ψ1 hΨ1 hΨ1'=>?_
 refine aA fun Ψ2 hΨ2 hΨ2'=>?_
 simp only[gQ,↓reduceIte,zA,reduceCtorEq,zE,zB,zC,zD,zF]
 refine aB ?_ (nJ H1 ?_)
 ·simp only[gQ,↓reduceIte,zA,reduceCtorEq,zE,zB,zC,zD,zF]
 try simp only[gQ,↓reduceIte,zA,reduceCtorEq,zE,zB,zC,zD,zF]
 refine hΨ2 _ _ ?_
 simp only[gQ,↓reduceIte,zA,reduceCtorEq,zE,zB,zC,zD,zF]
 refine hΨ1 _ _ ?_
 refine aA fun Ψ3 hΨ3 hΨ3'=>?_
 refine aA fun Ψ4 hΨ4 hΨ4'=>?_
 simp only[gQ,↓reduceIte,zA,reduceCtorEq,zE,zB,zC,zD,zF,lsh,List.drop_zero,List.take]
 refine aB ?_ (OS k1.ok x fun s2 k2=>?_)
 ·simp only[gQ,↓reduceIte,zA,reduceCtorEq,zE,zB,zC,zD,zF]
 rw[hx]
 try simp only[gQ,↓reduceIte,zA,reduceCtorEq,zE,zB,zC,zD,zF]
 refine hΨ4 _ _ ?_
 simp only[gQ,↓reduceIte,zA,reduceCtorEq,zE,zB,zC,zD,zF]
 refine hΨ3 _ _ ?_
 have k02:=k1.trans k2
 have c2:=c1.aF k2 (by simp)
 have lsh2:=c2.aS (i:=0) (k:=3) (Nat.le_refl _)
 refine aA fun Ψ5 hΨ5 hΨ5'=>?_
 refine aA fun Ψ6 hΨ6 hΨ6'=>?_
 simp only[gQ,↓reduceIte,zA,reduceCtorEq,zE,zB,zC,zD,zF,lsh2,List.drop_zero,List.take]
 refine aB ?_ (zf k2.ok (H1.aN k2) S I a ha x hx fun s3 k3=>?_)
 ·simp only[gQ,↓reduceIte,zA,reduceCtorEq,zE,zB,zC,zD,zF]
 try simp only[gQ,↓reduceIte,zA,reduceCtorEq,zE,zB,zC,zD,zF]
 refine hΨ6 _ _ ?_
 have k03:=k02.trans k3
 have c3:=c2.aF k3 (by simp)
 have H3:=(H1.aN k2).aN k3
 refine aA fun Ψ7 hΨ7 hΨ7'=>?_
 by_cases he:P.nA a x.words (-1)=0
 ·have hE:P.mJ a x=0:=hpE.trans he
  have R:=PH.jg I.cZ I.b0 hE
  simp only[gQ,↓reduceIte,zA,reduceCtorEq,zE,zB,zC,zD,zF,he]
  refine hΨ7 _ _ ?_
  simp only[gQ,↓reduceIte,zA,reduceCtorEq,zE,zB,zC,zD,zF]
  refine hΨ5 _ _ ?_
  have hbn:=S.born
  have w:IntKind.i64.wrap ((G.born:Int)+1)=((G.born+1:Nat):Int):=by rw[aR (by omega) (by omega)];rfl
  obtain⟨s4,e4,c4,k4⟩:=H3.c.dU k3.ok (i:=3) (v:=int ((G.born+1:Nat))) (by simp) rfl
  refine aA fun Ψ8 hΨ8 hΨ8'=>?_
  simp only[gQ,↓reduceIte,zA,reduceCtorEq,zE,zB,zC,zD,zF,H3.l3,w,e4]
  refine hΨ8 _ _ ?_
  have H4:=H3.SQ (n:=G.born+1) k4 c4
  have hgl:g<s.next:=H.c.lt hs
  have l3:aI s4.look ⟨g,3,none⟩=some (int ((G.born+1:Nat))):=H4.l3
  have c4s:=c3.aF k4 (by simp;omega)
  have lsh4:=c4s.aS (i:=0) (k:=3) (Nat.le_refl _)
  have lr:aI s4.look ⟨s.next,0,none⟩=some (int x.r):=c4s.load rfl
  have ld:aI s4.look ⟨s.next,1,none⟩=some (int x.d):=c4s.load rfl
  have k04:aC [g] s s4:=k03.any.trans k4
  refine aA fun Ψ9 hΨ9 hΨ9'=>?_
  refine aQ [(11,9)] [s.next] [] (by kernel_rfl) (by kernel_rfl) (by rfl) fun O hO ΨR hR=>?_
  have ks:aC [] s4 (s4.skip 30):=aC.skip k4.ok 30
  have fr:∀ y,s4.next≤y→(s4.skip 30).heap.get y=none:=k4.ok.fresh
  obtain⟨S1,E1,K1,C1,N1,F1⟩:∃ S1,(s4.skip 30).put (s4.next+18) (fun v=>bX.cells PT.nil [int 0] (x.r.toNat*1) 3 false false v)=S1∧aC [] s4 S1∧Obj S1 (s4.next+18) (row x.r.toNat fun _=>int 0)∧S1.next=s4.next+30∧(∀ y,s4.next≤y→y≠s4.next+18→S1.heap.get y=none) :=
   ⟨_,rfl,(aC.skip k4.ok 30).eX (fr _ (by omega)) (by show s4.next+18<s4.next+30;omega) (by omega) (Nat.le_refl _),Obj.kY rfl (by rw[bI];omega) (fun i hi=>by
    rw[fB _ (by omega),Nat.mod_one];rfl),rfl,fun y hy hne=>by rw[gZ hne];exact fr y hy⟩
  have hsn:s.next<s4.next:=by have:=c4s.lt k4.ok;exact this
  have hsm:bP (s4.skip 30) S1 s.next=true:=by rw[← E1];exact(c4s.aF ks (by simp)).zr ks.ok (by omega)
  obtain⟨S2,E2,K2,C2,C21,N2⟩:∃ S2,S1.put (s4.next+24) (fun v=>bX.cells PT.nil [int 0] (x.d.toNat*1) 3 false false v)=S2∧aC [] s4 S2∧Obj S2 (s4.next+24) (row x.d.toNat fun _=>int 0)∧Obj S2 (s4.next+18) (row x.r.toNat fun _=>int 0)∧S2.next=s4.next+30 :=
   ⟨_,rfl,K1.eX (F1 _ (by omega) (by omega)) (by omega) (by omega) (Nat.le_refl _),Obj.kY rfl (by rw[bI];omega) (fun i hi=>by
    rw[fB _ (by omega),Nat.mod_one];rfl),C1.lK (by omega),N1⟩
  have lr1:aI S1.look ⟨s.next,0,none⟩=some (int x.r):=cW K1 (by simp) lr
  have ld1:aI S1.look ⟨s.next,1,none⟩=some (int x.d):=cW K1 (by simp) ld
  simp only[gQ,↓reduceIte,zA,reduceCtorEq,zE,zB,zC,zD,zF,l3,lsh4,List.drop_zero,List.take,lr,FR (nm:=s4.next+18) (n:=x.r) (m:=x.r) (by omega) (by omega) (by omega) (by omega)]
  rw[E1]
  simp only[gQ,↓reduceIte,zA,reduceCtorEq,zE,zB,zC,zD,zF,ld1,FR (nm:=s4.next+24) (n:=x.d) (m:=x.d) (by omega) (by omega) (by omega) (by omega)]
  rw[E2]
  refine⟨aV hsm bR,?_⟩
  have hfoot:∀ y∈G.aU g,y<s4.next:=fun y hy=>by have:=H.cH hs y hy;have:=k04.next;omega
  have H5:cN S2 g {G with born:=G.born+1}:=H4.aN K2
  have rz:∀ n:Nat,(List.replicate n (0:Int)).map int=row n fun _=>int 0:=fun n=>by
   refine yP (by simp) fun i hi=>?_
   rw[List.getElem?_map,List.getElem?_replicate,if_pos hi];rfl
  refine aW ?_ (ref_put K2.ok H5 ⟨a,(P.born:Int)+1,x,s4.next+18,s4.next+24,List.replicate x.r.toNat 0,List.replicate x.d.toNat 0,false⟩ (by rw[rz];exact C21) (by rw[rz];exact C2) (fun h=>by have:=hfoot _ h;simp only at this;omega) (fun h=>by have:=hfoot _ h;simp only at this;omega) (by simp only;omega) hlen ?_)
  ·simp only[gQ,↓reduceIte,zA,reduceCtorEq,zE,zB,zC,zD,zF,List.length_replicate,hbn]
   rfl
  intro va vc s5 H6 k5 hv5
  have k25:aC [g] s s5:=(k04.trans K2.any).trans k5
  simp only[gQ,↓reduceIte,zA,reduceCtorEq,zE,zB,zC,zD,zF]
  refine hR _ _ (hΨ9 _ _ ?_)
  refine aA fun Ψ10 hΨ10 hΨ10'=>?_
  have l5:aI s5.look ⟨g,3,none⟩=some (int ((G.born+1:Nat))):=H6.l3
  simp only[gQ,↓reduceIte,zA,reduceCtorEq,zE,zB,zC,zD,zF,l5]
  refine hΨ10 _ _ ?_
  simp only[gQ,↓reduceIte,zA,reduceCtorEq,zE,zB,zC,zD,zF]
  have hb':((G.born+1:Nat):Int)=(P.born:Int)+1:=by rw[hbn];rfl
  rw[hb']
  refine h1 he _ s5 H6 ⟨S.N,S.bs,S.bp,by show G.born+1=P.born+1;rw[hbn],?_⟩ (KV _ _) k25 ?_
  ·exact S.L.place I R _ _
  ·intro y hy
   rcases List.mem_append.1 hy with hy | hy
   ·unfold lM.own at hy
    rcases List.mem_cons.1 hy with h | h
    ·exact .inl (List.mem_append_left _ (by rw[h];exact List.mem_cons_self ..))
    ·rcases List.mem_cons.1 h with h | h
     ·exact .inl (List.mem_append_left _ (by rw[h];exact List.mem_cons_of_mem _ (List.mem_cons_self ..)))
     ·obtain⟨o,ho,hy⟩:=List.mem_flatMap.1 h
      have:=k04.next
      rcases kM.rN.1 ho with h | h
      ·exact .inl (List.mem_append_left _ (List.mem_cons_of_mem _ (List.mem_cons_of_mem _ (List.mem_flatMap.2 ⟨o,h,hy⟩))))
      ·subst h
       simp only[List.mem_cons,List.not_mem_nil,or_false] at hy
       right;omega
   ·have:=hv5 y hy
    have:=k04.next
    have:=K2.next
    right;omega
 ·have he':(P.nA a x.words (-1)==0)=false:=by simpa using he
  simp only[gQ,↓reduceIte,zA,reduceCtorEq,zE,zB,zC,zD,zF,he']
  refine hΨ7 _ _ ?_
  simp only[gQ,↓reduceIte,zA,reduceCtorEq,zE,zB,zC,zD,zF]
  refine hΨ5' _ _ _ (by simp) ?_
  simp only[gQ,↓reduceIte,zA,reduceCtorEq,zE,zB,zC,zD,zF]
  exact h2 he s3 k03
end
end Go.Dust
