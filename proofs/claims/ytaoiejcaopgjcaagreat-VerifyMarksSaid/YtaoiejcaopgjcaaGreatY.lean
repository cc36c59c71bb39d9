/- VerifyMarks walked in D, function by function, and its plain law (N9 O1 O2 I1 O3). -/
import Derived.Test.YtaoiejcaopgjcaaGreatX
import Derived.Test.YtaoiejcaopgjcaaGreatQ
set_option linter.unusedVariables false
set_option linter.unusedSimpArgs false
namespace Go.Dust
open Go.Proofs
set_option maxRecDepth 100000
set_option maxHeartbeats 8000000
theorem PR.aCo {R:PR} {p:eW} (h:p∈R.every):∃ k i,k<3∧i<R.len k∧p=PR.cQ k i:=by
 unfold every ev at h;simp only[List.mem_append,List.mem_map,List.mem_range] at h;rcases h with (⟨i,hi,rfl⟩ | ⟨i,hi,rfl⟩) | ⟨i,hi,rfl⟩
 ·exact⟨0,i,by omega,by unfold len;simpa using hi,rfl⟩
 ·exact⟨1,i,by omega,by unfold len;simpa using hi,rfl⟩
 ·exact⟨2,i,by omega,by unfold len;simpa using hi,rfl⟩
theorem PR.qN {R:PR} {p:eW}:p∈R.all↔p∈R.every∧R.get p≠0:=by
 rw[tn,List.mem_filter];simp
theorem PR.aEr {k k' i i':Nat} (h:PR.cQ k i=PR.cQ k' i'):k=k'∧i=i':=by
 unfold cQ at h;simp only[eW.mk.injEq] at h;obtain⟨h1,h2,h3⟩:=h;have hk:k=k':=by omega
 subst hk;refine⟨rfl,?_⟩;by_cases h0:k=0
 ·simp only[h0,if_true] at h2 h3;omega
 ·simp only[h0,if_false] at h3;omega
structure PR.Part (R:PR) (L:List eW) (R':PR):Prop where
 m:R'.m=R.m
 q:R'.q=R.q
 sl:∀ i,i<16*R.m→R'.sl i=if PR.cQ 0 i∈L then R.sl i else 0
 gl:∀ i,i<16→R'.gl i=if PR.cQ 1 i∈L then R.gl i else 0
theorem PR.Part.has {R R':PR} {L:List eW} (h:R.Part L R') (p:eW):R'.has p=R.has p:=by
 unfold PR.has;rw[h.m,h.q]
theorem PR.Part.set {R R':PR} {L:List eW} (h:R.Part L R') {p:eW} (hp:p∈R.every):R.Part (L++[p]) (R'.set p (R.get p)):=by
 obtain⟨k,i,hk,hi,rfl⟩:=PR.aCo hp;have hm:∀ k' i',(PR.cQ k' i'∈L++[PR.cQ k i])↔(PR.cQ k' i'∈L∨(k'=k∧i'=i)):=fun k' i'=>by
  rw[List.mem_append,List.mem_singleton];constructor
  ·rintro(g | g)
   ·exact .inl g
   ·exact .inr (PR.aEr g)
  ·rintro(g | ⟨rfl,rfl⟩)
   ·exact .inl g
   ·exact .inr rfl
 unfold PR.len at hi;rcases(show k=0∨k=1∨k=2 by omega) with rfl | rfl | rfl
 ·have e:((PR.cQ 0 i).m*16+(PR.cQ 0 i).i).toNat=i:=by unfold PR.cQ;simp only[if_true];omega
  have es:R'.set (PR.cQ 0 i) (R.get (PR.cQ 0 i))={R' with sl:=dC R'.sl i (R.sl i)}:=by
   unfold PR.set;rw[if_pos (show (PR.cQ 0 i).k=0 from rfl),e,R.UA]
  rw[es];refine⟨h.m,h.q,fun j hj=>?_,fun j hj=>?_⟩
  ·show dC R'.sl i (R.sl i) j=_;unfold dC;by_cases rE:j=i
   ·rw[if_pos rE,if_pos ((hm 0 j).2 (.inr ⟨rfl,rE⟩)),rE]
   ·rw[if_neg rE,h.sl j hj];by_cases hL:PR.cQ 0 j∈L
    ·rw[if_pos hL,if_pos ((hm 0 j).2 (.inl hL))]
    ·rw[if_neg hL,if_neg fun g=>((hm 0 j).1 g).elim hL fun g=>rE g.2]
  ·rw[h.gl j hj];by_cases hL:PR.cQ 1 j∈L
   ·rw[if_pos hL,if_pos ((hm 1 j).2 (.inl hL))]
   ·rw[if_neg hL,if_neg fun g=>((hm 1 j).1 g).elim hL fun g=>by omega]
 ·have e:(PR.cQ 1 i).i.toNat=i:=by unfold PR.cQ;simp
  have es:R'.set (PR.cQ 1 i) (R.get (PR.cQ 1 i))={R' with gl:=dC R'.gl i (R.gl i)}:=by
   unfold PR.set;rw[if_neg (show ¬ (PR.cQ 1 i).k=0 by unfold PR.cQ;simp),if_pos (show (PR.cQ 1 i).k=1 from rfl),e,R.UB]
  rw[es];refine⟨h.m,h.q,fun j hj=>?_,fun j hj=>?_⟩
  ·rw[h.sl j hj];by_cases hL:PR.cQ 0 j∈L
   ·rw[if_pos hL,if_pos ((hm 0 j).2 (.inl hL))]
   ·rw[if_neg hL,if_neg fun g=>((hm 0 j).1 g).elim hL fun g=>by omega]
  ·show dC R'.gl i (R.gl i) j=_;unfold dC;by_cases rE:j=i
   ·rw[if_pos rE,if_pos ((hm 1 j).2 (.inr ⟨rfl,rE⟩)),rE]
   ·rw[if_neg rE,h.gl j hj];by_cases hL:PR.cQ 1 j∈L
    ·rw[if_pos hL,if_pos ((hm 1 j).2 (.inl hL))]
    ·rw[if_neg hL,if_neg fun g=>((hm 1 j).1 g).elim hL fun g=>rE g.2]
 ·have e:(PR.cQ 2 i).i.toNat=i:=by unfold PR.cQ;simp
  have hi:i<R.q.length:=by simpa using hi
  have es:R'.set (PR.cQ 2 i) (R.get (PR.cQ 2 i))={R' with q:=R.q}:=by
   unfold PR.set;rw[if_neg (show ¬ (PR.cQ 2 i).k=0 by unfold PR.cQ;simp),if_neg (show ¬ (PR.cQ 2 i).k=1 by unfold PR.cQ;simp),e,R.dq,h.q];congr 1;apply List.ext_getElem?;intro j;rw[List.getElem?_set];split
   ·rename_i hj;subst hj;rw[List.getD_eq_getElem?_getD,List.getElem?_eq_getElem hi];rfl
   ·try rfl
  rw[es];refine⟨h.m,rfl,fun j hj=>?_,fun j hj=>?_⟩
  ·show R'.sl j=_;rw[h.sl j hj];by_cases hL:PR.cQ 0 j∈L
   ·rw[if_pos hL,if_pos ((hm 0 j).2 (.inl hL))]
   ·rw[if_neg hL,if_neg fun g=>((hm 0 j).1 g).elim hL fun g=>by omega]
  ·show R'.gl j=_;rw[h.gl j hj];by_cases hL:PR.cQ 1 j∈L
   ·rw[if_pos hL,if_pos ((hm 1 j).2 (.inl hL))]
   ·rw[if_neg hL,if_neg fun g=>((hm 1 j).1 g).elim hL fun g=>by omega]
structure PR.RM (R R':PR):Prop where
 m:R'.m=R.m
 q:R'.q=R.q
 sl:∀ i,i<16*R.m→R'.sl i=R.sl i
 gl:∀ i,i<16→R'.gl i=R.gl i
theorem PR.Part.same {R R':PR} (h:R.Part R.all R'):R.RM R':=by
 refine⟨h.m,h.q,fun i hi=>?_,fun i hi=>?_⟩
 ·rw[h.sl i hi];split
  ·try rfl
  ·rename_i hn;refine(Decidable.byContradiction fun h0=>hn (PR.qN.2 ⟨?_,by rw[R.UA];exact fun e=>h0 e.symm⟩));unfold PR.every PR.ev;rw[List.mem_append,List.mem_append];exact .inl (.inl (List.mem_map.2 ⟨i,List.mem_range.2 hi,rfl⟩))
 ·rw[h.gl i hi];split
  ·try rfl
  ·rename_i hn;refine(Decidable.byContradiction fun h0=>hn (PR.qN.2 ⟨?_,by rw[R.UB];exact fun e=>h0 e.symm⟩));unfold PR.every PR.ev;rw[List.mem_append,List.mem_append];exact .inl (.inr (List.mem_map.2 ⟨i,List.mem_range.2 hi,rfl⟩))
theorem PR.RM.lead {R R':PR} (h:R.RM R') (x:Int):R'.xY x↔R.xY x:=by
 unfold PR.xY;rw[h.m,h.q];have e1:(∃ i,i<16*R.m∧R'.sl i=x)↔∃ i,i<16*R.m∧R.sl i=x:=⟨fun⟨i,a,b⟩=>⟨i,a,by rw[← h.sl i a];exact b⟩,fun⟨i,a,b⟩=>⟨i,a,by rw[h.sl i a];exact b⟩⟩;have e2:(∃ i,i<16∧R'.gl i=x)↔∃ i,i<16∧R.gl i=x:=⟨fun⟨i,a,b⟩=>⟨i,a,by rw[← h.gl i a];exact b⟩,fun⟨i,a,b⟩=>⟨i,a,by rw[h.gl i a];exact b⟩⟩;rw[e1,e2]
theorem RQ.Bp {Q:RQ} {t:Nat} {R R':PR} (hm:R'.m=R.m) (hq:R'.q.length=R.q.length):Q.bF t R'=Q.bF t R:=by
 unfold RQ.bF;rw[hm,hq]
section
variable {kc:Kc} {q:Bool} {s:St} {Φ:Value→St→Prop} {r:Nat} {R:PR}
theorem iJ:type_of% (An @RX<|An @ui<|An @sE<|An @sR<|An @DN<|An @DC<|@mC):=An @RX<|An @ui<|An @sE<|An @sR<|An @DN<|An @DC<|@mC
theorem aBl (hs:Ok s) (A:dV s r R) (hv:∀ p∈R.all,0≤R.get p) (hΦ:∀ t Q R' s',gG s' t Q R'→R.RM R'→(∀ y∈Q.bF t R',s.next≤y)→aC [] s s'→Φ (ptr t) s'):okF q X (KO kc) 124 [ptr r] s Φ:=by
 have m1:=A.m1;have m4:=A.m4;have ql:=A.ql;have hal:=R.tB m4 ql;refine aV rfl Zb rfl (rs:=[.tmp 2]) rfl (N:=50) rfl rfl ?_;refine aA fun bB aF aZ=>?_;simp only[iJ,seval];refine aF _ _ ?_;refine aA fun Ψ1 aE aK=>?_;simp only[iJ,seval];refine aJ ?_ (oy A ?_)
 ·simp only[iJ,seval]
 try simp only[iJ,seval]
 refine aJ ?_ (Lu hs m1 m4 fun t Q R0 s1 hm0 aAc Y4 hq0 T1 hf1 k1=>?_)
 ·simp only[iJ,seval]
 simp only[iJ,seval];refine aE _ _ ?_;refine aA fun Ψ2 aH bM=>?_;refine aA fun Ψ3 aM bN=>?_;simp only[iJ,seval,bne,beq_self_eq_true,Bool.not_true];refine aM _ _ ?_;simp only[iJ,seval];refine aH _ _ ?_;refine aA fun Ψ4 aQ bZ=>?_;simp only[iJ,seval];refine aJ ?_ (aG5 k1.ok (A.aL k1) fun va vc s2 aJr b2 k2 hn2=>?_)
 ·simp only[iJ,seval]
 have kK:=A.lq;rw[kK] at b2 hn2 ⊢
 try simp only[iJ,seval]
 refine aJ ?_ (Kp k2.ok b2.sl (by omega) fun wa wc s3 b3 k3 GF=>?_)
 ·simp only[iJ,seval]
 have mB:aC [] s1 s3:=k2.trans k3;have T3:=T1.aL mB;have ow:t∉nameOf (.slice Q.va R0.q.length Q.vc):=fun h=>T3.nq t h (List.mem_cons_self ..);obtain⟨s4,h4,c4,u4⟩:=T3.c.gJ k3.ok (i:=2) (v:=.slice wa R.q.length wc) (by simp) rfl;have ht:=hf1 t (List.mem_append_left _ (List.mem_append_left _ (List.mem_cons_self ..)));have aJg:=T3.gO k3.ok;have fx:=T1.gO k1.ok;have n13:=mB.next;have mh:=k2.next;have T4:gG s4 t {Q with va:=wa,vc:=wc} {R0 with q:=R.q}:=by
  refine T3.WQ u4 (fun x hx hne hm=>hne (List.mem_singleton.1 hm)) c4 (b3.aD u4 fun y hy hy'=>?_) (fun b hb=>⟨fun h=>?_,fun h=>?_⟩) ql
  ·rw[List.mem_singleton.1 hy'] at hy;have:=GF _ hy;have:=fx t (List.mem_append_left _ (List.mem_append_left _ (List.mem_cons_self ..)));omega
  ·have:=GF b hb;have:=fx b (List.mem_append_left _ (List.mem_append_left _ h));omega
  ·have:=GF b hb;have:=fx b (List.mem_append_left _ (List.mem_append_right _ h));omega
 have K4:aC [] s s4:=(k1.trans mB).step u4 fun y hy=>.inr (by rw[List.mem_singleton.1 hy];exact hs.fresh _ ht)
 try simp only[iJ,seval,h4]
 refine aQ _ _ ?_;obtain⟨Q4,Cf⟩:∃ Q4,Q4={Q with va:=wa,vc:=wc}:=⟨_,rfl⟩;rw[← Cf] at T4;obtain⟨R4,er⟩:∃ R4:PR,R4={R0 with q:=R.q}:=⟨_,rfl⟩;rw[← er] at T4;have Da:∀ y∈Q4.bF t R4,s.next≤y∧y<s4.next:=fun y hy=>by
  refine⟨?_,T4.gO u4.ok y hy⟩;rw[Cf,er] at hy;unfold RQ.bF at hy;rcases List.mem_append.1 hy with h | h
  ·exact hf1 y (by unfold RQ.bF;exact List.mem_append_left _ h)
  ·have:=GF y h;have:=k1.next;omega
 have P4:R.Part [] R4:=by
  rw[er];exact⟨hm0,rfl,fun i _=>by rw[if_neg (by simp)];exact aAc i,fun i _=>by rw[if_neg (by simp)];exact Y4 i⟩
 refine aA fun cP bI cF=>?_;simp only[iJ,seval];refine aJ ?_ (Ll u4.ok (A.aL K4) ?_)
 ·simp only[iJ,seval]
 rintro v s6 b6 ⟨pa,pc,rfl⟩ k6 hn6
 try simp only[iJ,seval]
 refine bI _ _ ?_;refine aA fun dK bO cV=>?_;refine aA fun fJ cC eF=>?_;simp only[iJ,seval];refine cC _ _ ?_;refine cB fun jC dA sJ iI=>?_;refine gD (n:=R.all.length) (fun j a' s'=>∃ R',R.Part (R.all.take j) R'∧a'.aB 0=ptr r∧a'.aB 3=ptr t∧a'.aB 5=.slice pa R.all.length pc∧a'.aB 6=int j∧gG s' t Q4 R'∧∃ F,aC F s6 s'∧∀ y∈F,s.next≤y∧y<s4.next)
  (fun j a' s'=>∃ R',R.Part (R.all.take (j+1)) R'∧a'.aB 0=ptr r∧a'.aB 3=ptr t∧a'.aB 5=.slice pa R.all.length pc∧a'.aB 6=int j∧gG s' t Q4 R'∧∃ F,aC F s6 s'∧∀ y∈F,s.next≤y∧y<s4.next) ?_ ?_ ?_ ?_ (Nat.zero_le _) ?_
 ·rintro j a' s' hj ⟨R',hP,r0,r3,r5,r6,hT,hF⟩ aR bH;simp only[iJ,seval,r5,r6];refine bH _ _ (decide ((j:Int)<R.all.length)) ?_ (by simp) ⟨R',hP,?_,?_,?_,?_,hT,hF⟩
  all_goals simp only[iJ,seval,r0,r3,r5,r6]
 ·rintro j a' s' hj ⟨R',hP,r0,r3,r5,r6,hT,F,hk,hF⟩ aR w1 w2 w3;obtain⟨vb,dM,rfl⟩:=b6.sl.addr (show 0<R.all.length by omega);have g1:(0:Int)≤(j:Int):=Int.natCast_nonneg _;have g2:(j:Int)<((R.all.length:Nat):Int):=by omega
  obtain⟨p,hp⟩:∃ p,p=R.all[j]:=⟨_,rfl⟩;have hpa:p∈R.all:=by rw[hp];exact List.getElem_mem _
  have yW:=R.RY hpa;have AV:=k6.next;have b7:=b6.aD hk fun y hy hy'=>by have:=hn6 y hy;have:=(hF y hy').2;omega
  have lj:∀ S,aC [] s' S→bD S.look ⟨vb,dM+j*3,none⟩ 3=some [int p.k,int p.m,int p.i]:=fun S k=>by
   have:=(b7.sl.aD k (by simp)).bD (i:=j*3) (k:=3) (by omega) (by rw[TV];omega);rw[TW _ hj,← hp] at this;exact this
  have kA:aC [] s s':=(K4.trans k6).step hk fun y hy=>.inr (hs.fresh y (hF y hy).1);refine aA fun lJ dW jP=>?_;simp only[iJ,seval,r0,r5,r6,g1,g2,and_self,bJ,Int.toNat_natCast,lj s' (.refl hk.ok)];refine aJ ?_ (Lk hk.ok (A.aL kA) p fun s7 k7=>?_)
  ·simp only[iJ,seval]
  rw[if_pos yW,if_pos yW]
  try simp only[iJ,seval]
  refine dW _ _ ?_;simp only[iJ,seval,r3,r5,r6,g1,g2,and_self,bJ,Int.toNat_natCast,lj s7 k7];refine aJ ?_ (Lw k7.ok (hT.aL k7) p (R.get p) fun s8 T8 k8=>?_)
  ·simp only[iJ,seval]
  have hc:R'.has p=true∧¬ (R.get p<0∨(R.get p=0∧p.k=2)):=by
   refine⟨by rw[hP.has];exact yW,?_⟩;have h1:=hv p hpa;have h2:=(PR.qN.1 hpa).2;omega
  rw[if_pos hc] at T8;have Ce:=hP.set (PR.qN.1 hpa).1;have e1:R.all.take j++[p]=R.all.take (j+1):=by rw[List.take_add_one,List.getElem?_eq_getElem hj,← hp];rfl
  rw[e1] at Ce;simp only[iJ,seval];have NQ:Q4.bF t R'=Q4.bF t R4:=RQ.Bp (hP.m.trans P4.m.symm) (by rw[hP.q,P4.q]);refine w1 _ _ ⟨_,Ce,?_,?_,?_,?_,T8,F++Q4.bF t R4,((hk.trans k7.any).mono fun y hy=>List.mem_append_left _ hy).trans (by rw[NQ] at k8;exact k8.mono fun y hy=>List.mem_append_right _ hy),fun y hy=>?_⟩
  ·simp only[iJ,seval,r0]
  ·simp only[iJ,seval,r3]
  ·simp only[iJ,seval,r5]
  ·simp only[iJ,seval,r6]
  ·rcases List.mem_append.1 hy with h | h
   ·exact hF y h
   ·exact Da y h
 ·rintro j a' s' hj ⟨R',hP,r0,r3,r5,r6,hT,hF⟩ aR w1;have w:IntKind.i64.wrap ((j:Int)+1)=((j+1:Nat):Int):=by rw[aU (by omega) (by omega)];rfl
  simp only[iJ,seval,r6,w];refine w1 _ _ ⟨R',hP,?_,?_,?_,?_,hT,hF⟩
  all_goals try simp only[iJ,seval,r0,r3,r5]
 ·rintro a' s' ⟨R',hP,r0,r3,r5,r6,hT,F,hk,hF⟩;refine sJ _ _ (bO _ _ ?_);simp only[iJ,seval,r3];rw[List.take_length] at hP;have NQ:Q4.bF t R'=Q4.bF t R4:=RQ.Bp (hP.m.trans P4.m.symm) (by rw[hP.q,P4.q]);refine hΦ t Q4 R' s' hT hP.same (fun y hy=>by rw[NQ] at hy;exact(Da y hy).1) ((K4.trans k6).step hk fun y hy=>.inr (hs.fresh y (hF y hy).1))
 ·refine⟨R4,P4,?_,?_,?_,?_,T4.aL k6,[],.refl k6.ok,fun y hy=>by cases hy⟩
  all_goals try simp only[iJ,seval]
  all_goals rfl
end
open Go.Proofs
set_option maxRecDepth 100000
set_option maxHeartbeats 8000000
theorem aG0 {P:PH} {l:List Int} (hp:l.Pairwise (·<·)) (hh:∀ x∈l,P.has x=true):l=P.all.filter fun x=>decide (x∈l):=by
 refine QE hp (P.RZ.filter _) fun x=>?_;rw[List.mem_filter,PH.qN,decide_eq_true_eq];exact⟨fun h=>⟨hh x h,h⟩,fun h=>h.2⟩
theorem Lh {P:PH} {l:List Int} (hp:l.Pairwise (·<·)) (hh:∀ x∈l,P.has x=true):l.length≤P.all.length:=by
 rw[aG0 hp hh];exact List.length_filter_le _ _
theorem aG1 {l m:List Int} (hl:l.Pairwise (·<·)) (hm:m.Pairwise (·<·)) (h:∀ x∈l,x∈m):l.length≤m.length∧(l.length=m.length→l=m):=by
 have e:l=m.filter fun x=>decide (x∈l):=by
  refine QE hl (hm.filter _) fun x=>?_;rw[List.mem_filter,decide_eq_true_eq];exact⟨fun g=>⟨h x g,g⟩,fun g=>g.2⟩
 refine⟨by rw[e];exact List.length_filter_le _ _,fun hlen=>?_⟩;have h2:(m.filter fun x=>decide (x∈l)).length=m.length:=by rw[← e];exact hlen
 rw[List.length_filter_eq_length_iff] at h2;rw[e,List.filter_eq_self];exact h2
structure RN (P:PH) (l:List Int):Prop where
 dJ:∀ x∈l,∀ y∈P.dJ x,P.has y=true→y∈l
 uT:∀ x∈l,(P.aY x).k=2→P.ref x 0∈l→P.has (P.ref x 1)=true→P.ref x 1∈l
theorem RN.pB {P:PH} {l st:List Int} (h:RN P l) (hs:∀ x∈st,P.has x=true→x∈l) {x:Int} (k:eU P st x):x∈l:=by
 induction k with
 | root a b=>exact hs _ a b
 | dJ _ b c ih=>exact h.dJ _ ih _ b c
 | uT _ b _ d ih1 ih2=>exact h.uT _ ih1 b ih2 d
structure Rz (P:PH) (st l:List Int):Prop where
 up:l.Pairwise (·<·)
 pB:∀ x∈l,eU P st x
theorem Rz.len {P:PH} {st l:List Int} (h:Rz P st l):l.length≤P.all.length:=Lh h.up fun x hx=>(h.pB x hx).has
theorem Rz.add {P:PH} {st l l':List Int} (h:Rz P st l) {y:Int} (hm:∀ x,x∈l'↔x∈l∨(x=y∧P.has y=true)) (hp:l'.Pairwise (·<·)) (hy:P.has y=true→eU P st y):Rz P st l' :=
 ⟨hp,fun x hx=>((hm x).1 hx).elim (h.pB x) fun g=>by rw[g.1];exact hy g.2⟩
section
variable {kc:Kc} {q:Bool} {s:St} {Φ:Value→St→Prop} {g:Nat} {P:PH} {L:List tA}
theorem cG:type_of% (An @RX<|An @yF<|An @dG<|An @dE<|An @aW<|An @lY<|An @mD<|An @oI<|An @DH<|An @II<|An @LH<|An @IY<|An @dF<|An @yO<|An @hZ<|@oE):=An @RX<|An @yF<|An @dG<|An @dE<|An @aW<|An @lY<|An @mD<|An @oI<|An @DH<|An @II<|An @LH<|An @IY<|An @dF<|An @yO<|An @hZ<|@oE
theorem aFm (hs:Ok s) (H:uK s g P L) (G:P.cM) {a:Option Addr} {n c:Nat} {st:List Int} (hS:gL s (.slice a n c) st) (hn:n≤1000)
  (hΦ:∀ a' n' c' (l:List Int) s',bE s' 3 1 (.slice a' n' c') (l.map int)→l.Pairwise (·<·)→(∀ x,x∈l↔eU P st x)→aC [] s s'→Φ (.slice a' n' c') s'):okF q X (KO kc) 104 [ptr g,.slice a n c,.bool true] s Φ:=by
 have hsl:=hS.len;have hal:=P.tB;have bW:=H.bW;have Q1:=H.len;refine aV rfl Yo rfl (rs:=[.tmp 6]) rfl (N:=96) rfl rfl ?_;refine aA fun bB aF aZ=>?_;simp only[cG,seval];refine aF _ _ ?_;refine aA fun Ψ1 aE aK=>?_;obtain⟨s1,e1,k1,c1,n1⟩:=cA hs (L:=[]) (n:=0) (e:=3) rfl;simp only[cG,seval];rw[e1];refine aE _ _ ?_;have B1:bE s1 3 1 (.slice (some ⟨s.next,0,none⟩) 0 0) (([]:List Int).map int):=by
  rw[← e1];exact .own (L0:=[]) Cells.vL (by simp) (Nat.le_refl _) rfl (fun i hi=>absurd hi (Nat.not_lt_zero _))
 refine aA fun Ψ2 aH bM=>?_;refine aA fun Ψ3 aM bN=>?_;simp only[cG,seval];refine aM _ _ ?_;refine cB fun Ψ4 aQ yY bZ=>?_;refine gD (n:=n) (fun j a' s'=>∃ oa on oc l,a'.aB 0=ptr g∧a'.aB 1=.slice a n c∧a'.aB 2=.bool true∧a'.aB 7=.slice oa on oc∧a'.aB 8=int j∧bE s' 3 1 (.slice oa on oc) (l.map int)∧Rz P st l∧(∀ x∈st.take j,P.has x=true→x∈l)∧aC [] s s')
  (fun j a' s'=>∃ oa on oc l,a'.aB 0=ptr g∧a'.aB 1=.slice a n c∧a'.aB 2=.bool true∧a'.aB 7=.slice oa on oc∧a'.aB 8=int j∧bE s' 3 1 (.slice oa on oc) (l.map int)∧Rz P st l∧(∀ x∈st.take (j+1),P.has x=true→x∈l)∧aC [] s s') ?_ ?_ ?_ ?_ (Nat.zero_le _) ?_
 ·rintro j a' s' hj ⟨oa,on,oc,l,r0,r1,r2,r7,r8,hb,hz,hm,hk⟩ aR bH;simp only[cG,seval,r1,r8];refine bH _ _ (decide ((j:Int)<n)) ?_ (by simp) ⟨oa,on,oc,l,?_,?_,?_,?_,?_,hb,hz,hm,hk⟩
  all_goals simp only[cG,seval,r0,r1,r2,r7,r8]
 ·rintro j a' s' hj ⟨oa,on,oc,l,r0,r1,r2,r7,r8,hb,hz,hm,hk⟩ aR w1 w2 w3;obtain⟨vb,dM,rfl⟩:=hS.addr (show 0<n by omega);have jO:j<st.length:=by omega
  have lj:aI s'.look ⟨vb,dM+j,none⟩=some (int st[j]):=gL.get (Sl.aD hS hk (by simp)) (List.getElem?_eq_getElem jO);have g1:(0:Int)≤(j:Int):=Int.natCast_nonneg _;have g2:(j:Int)<(n:Int):=by omega
  have GK:l.length=on:=gL.len hb.sl;have hlen:=hz.len;simp only[cG,seval,r0,r1,r7,r8,g1,g2,and_self,bJ,Int.toNat_natCast,Nat.mul_one,lj];refine aJ ?_ (nv hk.ok (H.aL hk) hb (by omega) st[j] hz.up fun a2 n2 c2 l2 s2 b2 m2 p2 k2=>?_)
  ·simp only[cG,seval]
  simp only[cG,seval];refine w1 _ _ ⟨a2,n2,c2,l2,?_,?_,?_,?_,?_,b2,hz.add m2 p2 fun h=>.root (List.getElem_mem _) h,fun x hx hp=>?_,hk.trans k2⟩
  ·simp only[cG,seval,r0]
  ·simp only[cG,seval,r1]
  ·simp only[cG,seval,r2]
  ·simp only[cG,seval]
  ·simp only[cG,seval,r8]
  ·rw[List.take_add_one,List.getElem?_eq_getElem jO] at hx;rcases List.mem_append.1 hx with h | h
   ·exact(m2 x).2 (.inl (hm x h hp))
   ·have e:x=st[j]:=by simpa using h
    exact(m2 x).2 (.inr ⟨e,by rw[← e];exact hp⟩)
 ·rintro j a' s' hj ⟨oa,on,oc,l,r0,r1,r2,r7,r8,hb,hz,hm,hk⟩ aR w1;have w:IntKind.i64.wrap ((j:Int)+1)=((j+1:Nat):Int):=by rw[aU (by omega) (by omega)];rfl
  simp only[cG,seval,r8,w];refine w1 _ _ ⟨oa,on,oc,l,?_,?_,?_,?_,?_,hb,hz,hm,hk⟩
  all_goals try simp only[cG,seval,r0,r1,r2,r7]
 ·rintro a' s' ⟨oa,on,oc,l,r0,r1,r2,r7,r8,hb,hz,hm,hk⟩;refine yY _ _ (aH _ _ ?_);rw[← hsl,List.take_length] at hm;refine aA fun cP bI cF=>?_;refine aA fun dK bO cV=>?_;simp only[cG,seval];refine bO _ _ ?_;refine cB fun fJ cC AS eF=>?_;refine PG (fun k a' s'=>∃ (nn:Int) (oa:Option Addr) (oc:Nat) (l:List Int),k=2*(2048-l.length)+(if nn=(l.length:Int) then 0 else 1)∧(nn=(l.length:Int)→RN P l)∧a'.aB 0=ptr g∧a'.aB 2=.bool true∧a'.aB 7=.slice oa l.length oc∧a'.aB 9=int nn∧bE s' 3 1 (.slice oa l.length oc) (l.map int)∧Rz P st l∧(∀ x∈st,P.has x=true→x∈l)∧aC [] s s')
   (fun k a' s'=>∃ (oa:Option Addr) (oc:Nat) (l:List Int),k=2*(2048-l.length)+1∧a'.aB 0=ptr g∧a'.aB 2=.bool true∧a'.aB 7=.slice oa l.length oc∧bE s' 3 1 (.slice oa l.length oc) (l.map int)∧Rz P st l∧(∀ x∈st,P.has x=true→x∈l)∧aC [] s s')
   (fun a' s'=>∃ (oa:Option Addr) (oc:Nat) (l:List Int),RN P l∧a'.aB 7=.slice oa l.length oc∧bE s' 3 1 (.slice oa l.length oc) (l.map int)∧Rz P st l∧(∀ x∈st,P.has x=true→x∈l)∧aC [] s s') ?_ ?_ ?_ (k0:=2*(2048-l.length)+1) ?_
  ·rintro k a' s' ⟨nn,oa,oc,l,rfl,gj,r0,r2,r7,r9,hb,hz,hm,hk⟩ aR bH;by_cases UR:nn=(l.length:Int)
   ·have e:(nn==(l.length:Int))=true:=by simpa using UR
    simp only[cG,seval,r7,r9,bne,e,Bool.not_true];refine bH _ _ false ?_ (fun h=>by cases h) (fun _=>⟨oa,oc,l,gj UR,?_,hb,hz,hm,hk⟩)
    ·simp only[cG,seval]
    ·simp only[cG,seval,r7]
   ·have e:(nn==(l.length:Int))=false:=by simpa using UR
    simp only[cG,seval,r7,r9,bne,e,Bool.not_false];refine bH _ _ true ?_ (fun _=>⟨oa,oc,l,by rw[if_neg UR],?_,?_,?_,hb,hz,hm,hk⟩) (fun h=>by cases h)
    ·simp only[cG,seval]
    ·simp only[cG,seval,r0]
    ·simp only[cG,seval,r2]
    ·simp only[cG,seval,r7]
  ·rintro k a' s' ⟨oa,oc,l,rfl,r0,r2,r7,hb,hz,hm,hk⟩ aR w1 w2 w3;have hlen:=hz.len;refine aA fun jC dA iI=>?_;simp only[cG,seval,r7];refine dA _ _ ?_;refine aA fun lJ dW jP=>?_;simp only[cG,seval,r7];refine aJ ?_ (Kp hk.ok hb.sl (by omega) fun wa wc s2 b2 k2 hn2=>?_)
   ·simp only[cG,seval]
   try simp only[cG,seval]
   refine dW _ _ ?_;have hk2:=hk.trans k2;refine aA fun mZ eB nH=>?_;simp only[cG,seval];refine eB _ _ ?_;refine cB fun rS kL GN qK=>?_;refine gD (n:=l.length) (fun i a' s'=>∃ oa on oc o,a'.aB 0=ptr g∧a'.aB 2=.bool true∧a'.aB 7=.slice oa on oc∧a'.aB 9=int l.length∧a'.aB 10=.slice wa l.length wc∧a'.aB 11=int i∧bE s' 3 1 (.slice oa on oc) (o.map int)∧Rz P st o∧(∀ x∈l,x∈o)∧(∀ x∈l.take i,∀ y∈P.dJ x,P.has y=true→y∈o)∧(∀ x∈l.take i,(P.aY x).k=2→P.ref x 0∈l→P.has (P.ref x 1)=true→P.ref x 1∈o)∧aC [] s2 s')
    (fun i a' s'=>∃ oa on oc o,a'.aB 0=ptr g∧a'.aB 2=.bool true∧a'.aB 7=.slice oa on oc∧a'.aB 9=int l.length∧a'.aB 10=.slice wa l.length wc∧a'.aB 11=int i∧bE s' 3 1 (.slice oa on oc) (o.map int)∧Rz P st o∧(∀ x∈l,x∈o)∧(∀ x∈l.take (i+1),∀ y∈P.dJ x,P.has y=true→y∈o)∧(∀ x∈l.take (i+1),(P.aY x).k=2→P.ref x 0∈l→P.has (P.ref x 1)=true→P.ref x 1∈o)∧aC [] s2 s') ?_ ?_ ?_ ?_ (Nat.zero_le _) ?_
   ·rintro i a' s' hi ⟨oa,on,oc,o,r0,r2,r7,r9,cL,dZ,hb,hz,hlo,sG,CY,hk3⟩ aR bH;simp only[cG,seval,cL,dZ];refine bH _ _ (decide ((i:Int)<l.length)) ?_ (by simp) ⟨oa,on,oc,o,?_,?_,?_,?_,?_,?_,hb,hz,hlo,sG,CY,hk3⟩
    all_goals simp only[cG,seval,r0,r2,r7,r9,cL,dZ]
   ·rintro i a' s' hi ⟨oa,on,oc,o,r0,r2,r7,r9,cL,dZ,hb,hz,hlo,sG,CY,hk3⟩ aR v1 v2 v3;obtain⟨vb,dM,rfl⟩:=b2.sl.addr (show 0<l.length by omega);obtain⟨x,hx⟩:∃ x,x=l[i]:=⟨_,rfl⟩;have VC:x∈l:=by rw[hx];exact List.getElem_mem _
    have gy:=hz.pB x (hlo x VC);have VB:=gy.has;have lj:aI s'.look ⟨vb,dM+i,none⟩=some (int x):=by rw[hx];exact gL.get (Sl.aD b2.sl hk3 (by simp)) (List.getElem?_eq_getElem hi)
    have g1:(0:Int)≤(i:Int):=Int.natCast_nonneg _;have g2:(i:Int)<((l.length:Nat):Int):=by omega
    have hks:=hk2.trans hk3;have ks:aC [] s' (s'.skip 28):=aC.skip hk3.ok _;have Hk:=H.aL (hks.trans ks);have DB:l.take (i+1)=l.take i++[x]:=by rw[List.take_add_one,List.getElem?_eq_getElem hi,← hx];rfl
    obtain⟨ba,bc,va,vc,c1,c2,c3⟩:=Hk.c;have l1:aI s'.look ⟨g,1,none⟩=some (.slice va L.length vc):=by
     obtain⟨ba',bc',pJ,pK,yG,_⟩:=(H.aL hks).c;have e:=(yG.aD ks (by simp)).uniq c1;simp only[List.cons.injEq,Value.slice.injEq] at e;obtain⟨_,⟨rfl,_,rfl⟩,_⟩:=e;exact yG.load rfl
    refine aA fun uH kV tJ=>?_;refine dH [(3,9)] [g] [] (by kernel_rfl) (by kernel_rfl) (by rfl) fun O hO bK hR=>?_;simp only[cG,seval,r0,cL,dZ,l1,g1,g2,and_self,bJ,Int.toNat_natCast,Nat.mul_one,lj];refine eQ ?_ (Kk Hk x (fun ii sH he=>?_) (fun hno=>?_))
    ·simp only[cG,seval]
    rotate_left
    ·obtain⟨o',ho',e⟩:=Hk.mem.2 VB;exact absurd e (hno o' ho')
    simp only[cG,seval];refine⟨gQ (c1.same ks.ok (.refl ks.ok) (F:=[]) (by simp)) jR,?_⟩;obtain⟨ob,XG,wO⟩:=c3.addr (show 0<L.length by omega);subst wO;have g3:(0:Int)≤(ii:Int):=Int.natCast_nonneg _;have g4:(ii:Int)<((L.length:Nat):Int):=by omega
    obtain⟨x0,hx0⟩:∃ x0,x0=L[ii]:=⟨_,rfl⟩;have Ei:x0∈L:=by rw[hx0];exact List.getElem_mem _
    have gx:x0.1=x:=by rw[hx0];exact he
    obtain⟨⟨ra,rc,UY⟩,hr2,⟨da,dc,hd1⟩,_⟩:=Hk.cr x0 Ei;rw[gx] at UY hd1 hr2;rw[UY] at hr2;have hrd:P.KW x0=[int x,int (P.w x.toNat),int (P.aY x).r,int (P.aY x).d,int (P.aY x).k,.slice ra (P.cX x) rc,.slice da (P.pN x) dc,.bool (P.pinned x)]:=by
     unfold PH.KW;rw[UY,hd1,gx]
    have lo:bD s'.look ⟨ob,XG+ii*8,none⟩ 8=some [int x,int (P.w x.toNat),int (P.aY x).r,int (P.aY x).d,int (P.aY x).k,.slice ra (P.cX x) rc,.slice da (P.pN x) dc,.bool (P.pinned x)]:=by
     have:=c3.bD (i:=ii*8) (k:=8) (by omega) (by rw[uY P.nr];omega);rw[Bf P.nr _ sH,← hx0,hrd] at this;exact this
    have hxr:=PH.Ns G x;have Dy:((P.cX x:Nat):Int)=(P.aY x).r:=by unfold PH.cX;omega
    obtain⟨px,gh⟩:∃ px,px=s'.next+24:=⟨_,rfl⟩;have NK:(s'.skip 28).heap.get px=none:=by rw[gh];exact hk3.ok.fresh _ (by omega)
    obtain⟨T1,E1,K1,C1,N1⟩:∃ T1,(s'.skip 28).put px (fun v=>bU.cells (PT.ofList [int 0,int 0,int 0,int 0,int 0,.slice none 0 0,.slice none 0 0,.bool false]) [] 8 133 false false v)=T1∧aC [] s' T1∧Obj T1 px [int 0,int 0,int 0,int 0,int 0,.slice none 0 0,.slice none 0 0,.bool false]∧T1.next=s'.next+28 :=
     ⟨_,rfl,ks.pD NK (by rw[gh];show s'.next+24<s'.next+28;omega) (by omega) (Nat.le_refl _),Obj.pV rfl,rfl⟩
    obtain⟨T2,h2,C2,U2⟩:=C1.storeAll K1.ok (vs:=[int x,int (P.w x.toNat),int (P.aY x).r,int (P.aY x).d,int (P.aY x).k,.slice ra (P.cX x) rc,.slice da (P.pN x) dc,.bool (P.pinned x)]) rfl rfl;have K2:aC [] s' T2:=K1.step U2 fun y hy=>.inr (hk3.ok.fresh y (by rw[List.mem_singleton.1 hy];omega));simp only[cG,seval,g3,g4,and_self,bJ,Int.toNat_natCast,lo,← gh,E1,h2];refine hR _ _ (kV _ _ ?_);have lx:∀ {S:St},aC [] T2 S→aI S.look ⟨px,5,none⟩=some (.slice ra (P.cX x) rc)∧aI S.look ⟨px,4,none⟩=some (int (P.aY x).k)∧bD S.look ⟨px,2,none⟩ 3=some [int (P.aY x).r,int (P.aY x).d,int (P.aY x).k]:=fun k=>by
     have C:=C2.aD k (by simp);exact⟨C.load rfl,C.load rfl,C.bD (i:=2) (k:=3) (by simp)⟩
    have zG:aC [] s T2:=hks.trans K2;have Kv:Sl T2 1 (.slice ra (P.cX x) rc) ((P.refs x).map int):=by
     have h:=((H.aL hks).cr x0 Ei).r2;rw[gx,UY] at h;exact h.aD K2 (by simp)
    have ke:∀ {S:St},aC [] T2 S→∀ k,k<P.cX x→∃ rb ro,ra=some ⟨rb,ro,none⟩∧aI S.look ⟨rb,ro+k,none⟩=some (int (P.ref x k)):=fun hS k hk=>by
     obtain⟨rb,ro,rfl⟩:=Kv.addr (show 0<P.cX x by omega);refine⟨rb,ro,rfl,gL.get (Sl.aD Kv hS (by simp)) ?_⟩;unfold PH.refs;rw[List.getElem?_map,List.getElem?_range hk];rfl
    have aJo:∀ k:Nat,i64 (P.ref x k)→True:=fun _ _=>trivial;refine aA fun AA oF yX=>?_;refine aA fun ME wP GO=>?_;simp only[cG,seval];refine wP _ _ ?_;refine cB fun ri JV aAl ij=>?_;refine gD (n:=P.cX x) (fun k a' s'=>∃ oa on oc o',a'.aB 0=ptr g∧a'.aB 2=.bool true∧a'.aB 7=.slice oa on oc∧a'.aB 9=int l.length∧a'.aB 10=.slice (some ⟨vb,dM,none⟩) l.length wc∧a'.aB 11=int i∧a'.aB 12=ptr px∧a'.aB 13=int k∧bE s' 3 1 (.slice oa on oc) (o'.map int)∧Rz P st o'∧(∀ x∈o,x∈o')∧(∀ j,j<k→PH.soft (P.aY x).k j=false→P.has (P.ref x j)=true→P.ref x j∈o')∧aC [] T2 s')
     (fun k a' s'=>∃ oa on oc o',a'.aB 0=ptr g∧a'.aB 2=.bool true∧a'.aB 7=.slice oa on oc∧a'.aB 9=int l.length∧a'.aB 10=.slice (some ⟨vb,dM,none⟩) l.length wc∧a'.aB 11=int i∧a'.aB 12=ptr px∧a'.aB 13=int k∧bE s' 3 1 (.slice oa on oc) (o'.map int)∧Rz P st o'∧(∀ x∈o,x∈o')∧(∀ j,j<k+1→PH.soft (P.aY x).k j=false→P.has (P.ref x j)=true→P.ref x j∈o')∧aC [] T2 s') ?_ ?_ ?_ ?_ (Nat.zero_le _) ?_
    ·rintro k a' s'' hk ⟨oa,on,oc,o',r0,r2,r7,r9,cL,dZ,rM,iP,hb,hz,hoo,hj,oS⟩ aR bH;simp only[cG,seval,rM,iP,(lx oS).1];refine bH _ _ (decide ((k:Int)<P.cX x)) ?_ (by simp) ⟨oa,on,oc,o',?_,?_,?_,?_,?_,?_,?_,?_,hb,hz,hoo,hj,oS⟩
     all_goals simp only[cG,seval,r0,r2,r7,r9,cL,dZ,rM,iP]
    ·rintro k a' s'' hk ⟨oa,on,oc,o',r0,r2,r7,r9,cL,dZ,rM,iP,hb,hz,hoo,hj,oS⟩ aR u1 u2 u3;have GK:o'.length=on:=gL.len hb.sl;have fv:=hz.len;refine aA fun Rx OB Eo=>?_;simp only[cG,seval,rM,iP,(lx oS).2.2];refine aJ ?_ (aFr oS.ok (P.aY x).r (P.aY x).d (P.aY x).k k fun s3 k3=>?_)
     ·simp only[cG,seval]
     try simp only[cG,seval]
     refine OB _ _ ?_;have lL:=oS.trans k3;cases UZ:PH.soft (P.aY x).k k with
     | true =>
      simp only[cG,seval,UZ,Bool.not_true];refine u1 _ _ ⟨oa,on,oc,o',?_,?_,?_,?_,?_,?_,?_,?_,hb.aD k3 (by simp),hz,hoo,fun j UN h1 h2=>?_,lL⟩
      ·simp only[cG,seval,r0]
      ·simp only[cG,seval,r2]
      ·simp only[cG,seval,r7]
      ·simp only[cG,seval,r9]
      ·simp only[cG,seval,cL]
      ·simp only[cG,seval,dZ]
      ·simp only[cG,seval,rM]
      ·simp only[cG,seval,iP]
      ·by_cases e:j=k
       ·subst e;rw[UZ] at h1;cases h1
       ·exact hj j (by omega) h1 h2
     | false =>
      obtain⟨rb,ro,hra,lv⟩:=ke lL k hk;have g5:(0:Int)≤(k:Int):=Int.natCast_nonneg _;have g6:(k:Int)<((P.cX x:Nat):Int):=by omega
      have l5:=(lx lL).1;rw[hra] at l5;simp only[cG,seval,UZ,Bool.not_false,r0,r7,rM,iP,l5,g5,g6,and_self,bJ,Int.toNat_natCast,Nat.mul_one,lv];refine aJ ?_ (nv lL.ok (H.aL (zG.trans lL)) (hb.aD k3 (by simp)) (by omega) (P.ref x k) hz.up fun a2 n2 c2 o2 s4 b4 m4 p4 k4=>?_)
      ·simp only[cG,seval]
      simp only[cG,seval];have ft:P.has (P.ref x k)=true→eU P st (P.ref x k):=fun h=>.dJ gy (P.WE.2 ⟨k,hk,UZ,rfl⟩) h;refine u1 _ _ ⟨a2,n2,c2,o2,?_,?_,?_,?_,?_,?_,?_,?_,b4,hz.add m4 p4 ft,fun y hy=>(m4 y).2 (.inl (hoo y hy)),fun j UN h1 h2=>?_,lL.trans k4⟩
      ·simp only[cG,seval,r0]
      ·simp only[cG,seval,r2]
      ·simp only[cG,seval]
      ·simp only[cG,seval,r9]
      ·simp only[cG,seval,cL]
      ·simp only[cG,seval,dZ]
      ·simp only[cG,seval,rM]
      ·simp only[cG,seval,iP]
      ·by_cases e:j=k
       ·subst e;exact(m4 _).2 (.inr ⟨rfl,h2⟩)
       ·exact(m4 _).2 (.inl (hj j (by omega) h1 h2))
    ·rintro k a' s'' hk ⟨oa,on,oc,o',r0,r2,r7,r9,cL,dZ,rM,iP,hb,hz,hoo,hj,oS⟩ aR u1;have w:IntKind.i64.wrap ((k:Int)+1)=((k+1:Nat):Int):=by rw[aU (by omega) (by omega)];rfl
     simp only[cG,seval,iP,w];refine u1 _ _ ⟨oa,on,oc,o',?_,?_,?_,?_,?_,?_,?_,?_,hb,hz,hoo,hj,oS⟩
     all_goals try simp only[cG,seval,r0,r2,r7,r9,cL,dZ,rM]
    ·rintro a' s'' ⟨oa,on,oc,o',r0,r2,r7,r9,cL,dZ,rM,iP,hb,hz,hoo,hj,oS⟩;refine aAl _ _ (oF _ _ ?_);have GK:o'.length=on:=gL.len hb.sl;have fv:=hz.len;have fk:∀ x'∈l.take (i+1),∀ y∈P.dJ x',P.has y=true→y∈o':=fun x' hx' y hy hp=>by
      rw[DB] at hx';rcases List.mem_append.1 hx' with h | h
      ·exact hoo y (sG x' h y hy hp)
      ·rw[List.mem_singleton.1 h] at hy;obtain⟨j,Z6,Z7,rfl⟩:=P.WE.1 hy;exact hj j Z6 Z7 hp
     have key:∀ o2:List Int,(∀ y∈o',y∈o2)→((P.aY x).k=2→P.ref x 0∈l→P.has (P.ref x 1)=true→P.ref x 1∈o2)→∀ x'∈l.take (i+1),(P.aY x').k=2→P.ref x' 0∈l→P.has (P.ref x' 1)=true→P.ref x' 1∈o2:=fun o2 h1 h2 x' hx'=>by
      rw[DB] at hx';rcases List.mem_append.1 hx' with h | h
      ·exact fun q1 q2 q3=>h1 _ (hoo _ (CY x' h q1 q2 q3))
      ·rw[List.mem_singleton.1 h];exact h2
     refine aA fun Ry GP Er=>?_;refine cK [(1,74),(7,80)] (by kernel_rfl) fun O hO bK hR=>?_;have y1:∀ a,aN O a 1=bC (a.aB 74):=hO (1,74) (by simp);have y7:∀ a,aN O a 7=bC (a.aB 80):=hO (7,80) (by simp);by_cases GB:(P.aY x).k=2
     ·have aJm:2≤P.cX x:=by
       have h1:(P.shape x).k=2:=by unfold PH.aY at GB;rw[if_pos VB] at GB;exact GB
       have h2:=(cI.pZ.1 (G.val x VB).1).2.2.2.2.2.2.2 h1;have h3:(P.aY x).r=(P.shape x).r:=by unfold PH.aY;rw[if_pos VB]
       omega
      obtain⟨rb,ro,hra,kh⟩:=ke oS 0 (by omega);have l5:=(lx oS).1;rw[hra] at l5;replace kh:aI s''.look ⟨rb,ro+0,none⟩=some (int (P.ref x 0)):=kh;have z0:(0:Int)≤0:=by omega
      have z1:(0:Int)<((P.cX x:Nat):Int):=by omega
      have ek:((P.aY x).k==2)=true:=by simpa using GB
      simp only[cG,seval,y1,y7,r2,r7,rM,(lx oS).2.1,ek,l5,z0,z1,and_self,bJ,show Int.toNat 0=0 from rfl,Nat.zero_mul,kh];refine aJ ?_ (aFf hb.sl (by omega) (P.ref x 0) ?_)
      ·simp only[cG,seval]
      by_cases h0:P.ref x 0∈o'
      ·rw[decide_eq_true h0];simp only[cG,seval,y1,y7];refine hR _ _ (GP _ _ ?_);obtain⟨rb',ro',Dz,ki⟩:=ke oS 1 (by omega);rw[hra] at Dz;cases Dz;replace ki:aI s''.look ⟨rb,ro+1,none⟩=some (int (P.ref x 1)):=ki;have z2:(0:Int)≤1:=by omega
       have z3:(1:Int)<((P.cX x:Nat):Int):=by omega
       simp only[cG,seval,r0,r7,rM,l5,z2,z3,and_self,bJ,show Int.toNat 1=1 from rfl,Nat.one_mul,ki];refine aJ ?_ (nv oS.ok (H.aL (zG.trans oS)) hb (by omega) (P.ref x 1) hz.up fun a2 n2 c2 o2 s4 b4 m4 p4 k4=>?_)
       ·simp only[cG,seval]
       simp only[cG,seval];have ft:P.has (P.ref x 1)=true→eU P st (P.ref x 1):=fun h=>.uT gy GB (hz.pB _ h0) h;refine v1 _ _ ⟨a2,n2,c2,o2,?_,?_,?_,?_,?_,?_,b4,hz.add m4 p4 ft,fun y hy=>(m4 y).2 (.inl (hoo y (hlo y hy))),fun x' hx' y hy hp=>(m4 y).2 (.inl (fk x' hx' y hy hp)),key o2 (fun y hy=>(m4 y).2 (.inl hy)) fun _ _ h=>(m4 _).2 (.inr ⟨rfl,h⟩),hk3.trans ((K2.trans oS).trans k4)⟩
       ·simp only[cG,seval,r0]
       ·simp only[cG,seval,r2]
       ·simp only[cG,seval]
       ·simp only[cG,seval,r9]
       ·simp only[cG,seval,cL]
       ·simp only[cG,seval,dZ]
      ·rw[decide_eq_false h0];simp only[cG,seval,y1,y7];refine hR _ _ (GP _ _ ?_);simp only[cG,seval];refine v1 _ _ ⟨oa,on,oc,o',?_,?_,?_,?_,?_,?_,hb,hz,fun y hy=>hoo y (hlo y hy),fk,key o' (fun _ h=>h) fun _ h _=>absurd (hoo _ (hlo _ h)) h0,hk3.trans (K2.trans oS)⟩
       all_goals simp only[cG,seval,r0,r2,r7,r9,cL,dZ]
     ·have ek:((P.aY x).k==2)=false:=by simpa using GB
      simp only[cG,seval,y1,y7,r2,rM,(lx oS).2.1,ek];refine hR _ _ (GP _ _ ?_);simp only[cG,seval];refine v1 _ _ ⟨oa,on,oc,o',?_,?_,?_,?_,?_,?_,hb,hz,fun y hy=>hoo y (hlo y hy),fk,key o' (fun _ h=>h) fun h=>absurd h GB,hk3.trans (K2.trans oS)⟩
      all_goals simp only[cG,seval,r0,r2,r7,r9,cL,dZ]
    ·refine⟨oa,on,oc,o,?_,?_,?_,?_,?_,?_,?_,?_,hb.aD K2 (by simp),hz,fun _ h=>h,fun j h=>absurd h (Nat.not_lt_zero _),.refl K2.ok⟩
     all_goals try simp only[cG,seval,r0,r2,r7,r9,cL,dZ]
     all_goals rfl
   ·rintro i a' s' hi ⟨oa,on,oc,o,r0,r2,r7,r9,cL,dZ,hb,hz,hlo,sG,CY,hk3⟩ aR v1;have w:IntKind.i64.wrap ((i:Int)+1)=((i+1:Nat):Int):=by rw[aU (by omega) (by omega)];rfl
    simp only[cG,seval,dZ,w];refine v1 _ _ ⟨oa,on,oc,o,?_,?_,?_,?_,?_,?_,hb,hz,hlo,sG,CY,hk3⟩
    all_goals try simp only[cG,seval,r0,r2,r7,r9,cL]
   ·rintro a' s' ⟨oa,on,oc,o,r0,r2,r7,r9,cL,dZ,hb,hz',hlo,sG,CY,hk3⟩;refine GN _ _ ?_;rw[List.take_length] at sG CY;have GK:o.length=on:=gL.len hb.sl;subst GK;obtain⟨q1,q2⟩:=aG1 hz.up hz'.up hlo;have fv:=hz'.len;refine w1 _ _ (2*(2048-o.length)+(if (l.length:Int)=(o.length:Int) then 0 else 1)) ?_ ⟨l.length,oa,oc,o,rfl,fun e=>?_,r0,r2,r7,r9,hb,hz',fun x hx hp=>hlo x (hm x hx hp),hk2.trans hk3⟩
    ·split <;> omega
    ·have e:=q2 (by omega);subst e;exact⟨sG,CY⟩
   ·refine⟨oa,l.length,oc,l,?_,?_,?_,?_,?_,?_,hb.aD k2 (by simp),hz,fun _ h=>h,fun x hx=>by simp at hx,fun x hx=>by simp at hx,.refl k2.ok⟩
    all_goals try simp only[cG,seval,r0,r2,r7]
    all_goals rfl
  ·rintro a' s' ⟨oa,oc,l,gj,r7,hb,hz,hm,hk⟩;refine AS _ _ (bI _ _ ?_);simp only[cG,seval,r7];exact hΦ _ _ _ l s' hb hz.up (fun x=>⟨hz.pB x,gj.pB hm⟩) hk
  ·have GK:l.length=on:=gL.len hb.sl;have hl2:=hz.len;refine⟨-1,oa,oc,l,?_,fun h=>by omega,?_,?_,?_,?_,by rw[GK];exact hb,hz,hm,hk⟩
   ·rw[if_neg (by omega)]
   all_goals try simp only[cG,seval,r0,r2,r7,GK]
   all_goals rfl
 ·refine⟨some ⟨s.next,0,none⟩,0,0,[],?_,?_,?_,?_,?_,B1,⟨.nil,fun x hx=>by cases hx⟩,fun x hx=>by simp at hx,k1⟩
  all_goals try simp only[cG,seval]
  all_goals rfl
end
open Go.Proofs
set_option maxRecDepth 100000
set_option maxHeartbeats 8000000
theorem aBd {P:PH} {R R':PR} (h:∀ x,R'.xY x↔R.xY x) {x:Int}:eU P (R'.all.map R'.get) x↔eU P (R.all.map R.get) x :=
 ⟨.mono fun y hy _=>PR.KI.2 ((h y).1 (PR.KI.1 hy)),.mono fun y hy _=>PR.KI.2 ((h y).2 (PR.KI.1 hy))⟩
theorem aBe {P:PH} {R:PR} {x:Int}:eU P R.leads x↔eU P (R.all.map R.get) x:=⟨.mono fun y hy _=>OQ.1 hy,.mono fun y hy _=>OQ.2 hy⟩
section
variable {kc:Kc} {q:Bool} {s:St} {Φ:Value→St→Prop} {x h r:Nat} {g t:Value} {P:PH} {R:PR}
theorem xD:type_of% (An @RX<|An @yS<|An @kW<|An @JB<|@DI):=An @RX<|An @yS<|An @kW<|An @JB<|@DI
theorem aBg (hs:Ok s) (C:Obj s x [ptr h,ptr r,g,t]) (H:bS s h P) (G:P.cM) (A:dV s r R) (hv:∀ p∈R.all,0≤R.get p)
  (hΦ:∀ a c (l:List Int) s',bE s' 3 1 (.slice a l.length c) (l.map int)→l.Pairwise (·<·)→(∀ x,x∈l↔eU P (R.all.map R.get) x)→aC [] s s'→Φ (.slice a l.length c) s'):okF q X (KO kc) 37 [ptr x] s Φ:=by
 refine aV rfl E8 rfl (rs:=[.tmp 2]) rfl (N:=15) rfl rfl ?_;refine aA fun bB aF aZ=>?_;simp only[xD,seval];refine aF _ _ ?_;have ks:aC [] s (s.skip 26):=aC.skip hs _;have l0:aI s.look ⟨x,0,none⟩=some (ptr h):=C.load rfl;refine aA fun Ψ1 aE aK=>?_;refine dH [(8,4)] [x] [] (by kernel_rfl) (by kernel_rfl) (by rfl) fun O hO bK hR=>?_;simp only[xD,seval,l0];refine eQ ?_ (aBk ks.ok (H.aL ks) G fun g' L s1 H1 k1 _=>?_)
 ·simp only[xD,seval]
 have l1:aI s1.look ⟨x,1,none⟩=some (ptr r):=((C.aD ks (by simp)).aD k1 (by simp)).load rfl;simp only[xD,seval,l1];refine⟨gQ ((C.aD ks (by simp)).same ks.ok k1 (by simp)) jR,?_⟩;refine eQ ?_ (aBl k1.ok (A.aL (ks.trans k1)) hv fun t' Q R' s2 T2 hS _ k2=>?_)
 ·simp only[xD,seval]
 try simp only[xD,seval]
 refine eQ ?_ (aGh k2.ok T2 fun a3 c3 s3 b3 k3 _=>?_)
 ·simp only[xD,seval]
 try simp only[xD,seval]
 have hl:R'.leads.length≤192:=Nat.le_trans (R'.VU R'.all) (R'.tB T2.m4 T2.ql);refine eQ ?_ (aFm k3.ok (H1.aL (k2.trans k3)) G b3.sl (by omega) fun a4 n4 c4 l s4 b4 p4 m4 k4=>?_)
 ·simp only[xD,seval]
 obtain rfl:l.length=n4:=gL.len b4.sl
 try simp only[xD,seval]
 refine hR _ _ (aE _ _ ?_);simp only[xD,seval];exact hΦ a4 c4 l s4 b4 p4 (fun x=>(m4 x).trans (aBe.trans (aBd hS.lead))) ((((ks.trans k1).trans k2).trans k3).trans k4)
end
open Go.Proofs
set_option maxRecDepth 100000
set_option maxHeartbeats 1000000
section
variable {q:Bool} {Y:Env} {K:eE} {ops:Array Oper} {d:Option Tmp} {op:Op} {ty:TypeId} {pos:String} {af:Array Edge} {l:List Oper} {a:aG} {s:St} {Φ:aG→St→Prop}
theorem Jr (hk:dP op=.effect) {r:aS (Value×St)} (he:∀ c k,eX Y c k s a.eval op=r) (h:r.gE q fun p=>bP q Y K ops l (a.put d p.1) p.2 Φ):bP q Y K ops (⟨d,op,ty,pos,af,none⟩::l) a s Φ:=by
 obtain⟨m,hm⟩:=aS.EY (Q:=fun m (p:Value×St)=>(gP Y (eJ Y K m) (gI Y K m) ops l (a.put d p.1) p.2).gE q fun(p:aG×St)=>Φ p.1 p.2)
  (fun m p hq=>PQ (Φ:=fun p=>Φ p.1 p.2) (Nat.le_succ m) hq) h
 refine⟨m,?_⟩;rw[gP,if_pos (show Region.wanted ⟨d,op,ty,pos,af,none⟩ (aN ops a)=true from rfl),lX,hk];simp only[he];rw[aS.oO];exact hm
theorem aE6 {t k v:TypeId} {x:Operand} {mb aO:Nat} {es:List MapEntry} (hx:a.eval x=.map (some mb)) (ht:(Y.ty t).map (fun i=>i.desc)=some (.map k v)) (hM:mapOf s.look mb=some (es,aO))
  (h:bP q Y K ops l (a.put d (ptr s.next)) (s.new fun v=>.gC (some mb) aO [] aO v) Φ):bP q Y K ops (⟨d,.range t x,ty,pos,af,none⟩::l) a s Φ:=by
 obtain⟨i,hi,hd⟩:∃ i,Y.ty t=some i∧i.desc=.map k v:=by
  cases hy:Y.ty t with
  | none=>rw[hy] at ht;cases ht
  | some i=>rw[hy] at ht;exact⟨i,rfl,by simpa using ht⟩
 refine Jr (r:=.ret (ptr s.next,s.new fun v=>.gC (some mb) aO [] aO v)) rfl (fun c k=>?_) h;simp only[eX,hi,hd,hx,hM]
theorem Uo {es:List MapEntry} {since:Nat} {seen:List Nat} {e:MapEntry} (h:some e∈nO es since seen):e∈es∧e.born∉seen:=by
 unfold nO at h;simp only[List.mem_append,List.mem_map,Option.some.injEq,exists_eq_right] at h;rcases h with h | h
 ·split at h
  ·rw[List.mem_singleton] at h;cases h
  ·cases h
 ·have:e∈es.filter fun e=>!seen.contains e.born:=by
   rcases h with h | h <;> exact(List.mem_filter.1 h).1
  obtain⟨h1,h2⟩:=List.mem_filter.1 this;refine⟨h1,fun hc=>?_⟩;rw[List.contains_iff_mem.2 hc] at h2;cases h2
theorem Uq {es:List MapEntry} {since:Nat} {seen:List Nat} (h:none∈nO es since seen):∀ e∈es,e.born<since→e.born∈seen:=by
 unfold nO at h;simp only[List.mem_append,List.mem_map,reduceCtorEq,and_false,exists_false,or_false] at h;intro e he hb;split at h
 ·rename_i hn;rw[List.isEmpty_iff,List.filter_eq_nil_iff] at hn;by_cases hc:e.born∈seen
  ·exact hc
  ·exact absurd (decide_eq_true hb) (hn e (List.mem_filter.2 ⟨he,by rw[Bool.not_eq_true',← Bool.not_eq_true];exact fun h=>hc (List.contains_iff_mem.1 h)⟩))
 ·cases h
theorem Up {es:List MapEntry} {since:Nat} {seen:List Nat}:nO es since seen≠[]:=by
 unfold nO;simp only;intro h;rw[List.append_eq_nil_iff] at h;obtain⟨h1,h2⟩:=h;rw[List.map_eq_nil_iff,List.append_eq_nil_iff] at h2;rw[h2.1] at h1;cases h1
theorem aE5 {x:Operand} {it mb aO since aT:Nat} {es:List MapEntry} {seen:List Nat} (hq:q=true) (hx:a.eval x=ptr it) (hI:s.heap.get it=some (.gC (some mb) since seen aO aT)) (hM:mapOf s.look mb=some (es,aO)) (hb:∀ e∈es,e.born<aO)
  (h1:∀ e∈es,e.born∉seen→bP q Y K ops l (a.put d (.tuple #[.bool true,e.key,e.val])) (s.put it fun v=>.gC (some mb) since (e.born::seen) aO v) Φ)
  (h2:(∀ e∈es,e.born<since→e.born∈seen)→bP q Y K ops l (a.put d (.tuple #[.bool false])) s Φ):bP q Y K ops (⟨d,.next x false,ty,pos,af,none⟩::l) a s Φ:=by
 refine Jr (r:=DT s (a.eval x) false) rfl (fun c k=>rfl) ?_;rw[hx];have hall:(!seen.isEmpty&&!es.isEmpty&&es.all fun e=>decide (e.born≥aO))=false:=by
  cases es with
  | nil=>simp
  | cons e es =>
   have:=hb e (List.mem_cons_self ..);rw[List.all_cons,decide_eq_false (by omega)];simp
 have hp:∀ i,i<(nO es since seen).length→(DZ s it mb since seen aO (nO es since seen) i).gE q fun p=>bP q Y K ops l (a.put d p.1) p.2 Φ:=by
  intro i hi;unfold DZ;rw[List.getElem?_eq_getElem hi];cases hc:(nO es since seen)[i] with
  | none =>
   have:(none:Option MapEntry)∈nO es since seen:=by rw[← hc];exact List.getElem_mem _
   exact h2 (Uq this)
  | some e =>
   have:some e∈nO es since seen:=by rw[← hc];exact List.getElem_mem _
   obtain⟨g1,g2⟩:=Uo this;exact h1 e g1 g2
 have hlen:0<(nO es since seen).length:=List.length_pos_iff.2 Up;simp only[DT,ptr,and_self,if_true,hI,Bool.false_eq_true,if_false,hM,hall];split
 ·exact hp 0 hlen
 ·exact⟨hq,fun i hi=>hp i hi⟩
end
def OI (es:List MapEntry) (seen:List Nat):Nat:=(es.filter fun e=>!seen.contains e.born).length
theorem aBs {es:List MapEntry} {seen:List Nat} {e:MapEntry} (he:e∈es) (hs:e.born∉seen):OI es (e.born::seen)<OI es seen:=by
 unfold OI
 induction es with
 | nil=>cases he
 | cons x es ih =>
  have hle:∀ l:List MapEntry,(l.filter fun x=>!(e.born::seen).contains x.born).length≤(l.filter fun x=>!seen.contains x.born).length:=by
   intro l
   induction l with
   | nil=>exact Nat.le_refl _
   | cons y l ih =>
    rw[List.filter_cons,List.filter_cons];cases h1:seen.contains y.born with
    | true=>rw[show (e.born::seen).contains y.born=true from List.contains_iff_mem.2 (List.mem_cons_of_mem _ (List.contains_iff_mem.1 h1))];simpa using ih
    | false =>
     simp only[Bool.not_false,if_true];split
     ·simpa using ih
     ·rw[List.length_cons];omega
  rw[List.filter_cons,List.filter_cons];rcases List.mem_cons.1 he with rfl | he'
  ·rw[show (e.born::seen).contains e.born=true from List.contains_iff_mem.2 (List.mem_cons_self ..),show seen.contains e.born=false from by rw[← Bool.not_eq_true];exact fun h=>hs (List.contains_iff_mem.1 h)];have:=hle es;simp only[Bool.not_true,Bool.not_false,if_true,Bool.false_eq_true,if_false,List.length_cons];omega
  ·have:=ih he';cases h1:seen.contains x.born with
   | true=>rw[show (e.born::seen).contains x.born=true from List.contains_iff_mem.2 (List.mem_cons_of_mem _ (List.contains_iff_mem.1 h1))];simpa using this
   | false =>
    simp only[Bool.not_false,if_true,List.length_cons];split
    ·rw[List.length_cons];omega
    ·omega
theorem aBa {es:List MapEntry} {K:List Int} (h:es.map (fun e=>(e.key,e.val))=(keys K).map (fun p=>(int p.1,p.2))) {e:MapEntry} (he:e∈es):∃ a∈K,e.key=int a:=by
 have h1:(e.key,e.val)∈es.map (fun e=>(e.key,e.val)):=List.mem_map_of_mem he;rw[h] at h1;simp only[keys,List.map_map,List.mem_map,Function.comp] at h1;obtain⟨a,ha,hb⟩:=h1;refine⟨a,ha,?_⟩;simp only[Prod.mk.injEq] at hb;exact hb.1.symm
open Go.Proofs
set_option maxRecDepth 100000
set_option maxHeartbeats 8000000
theorem born_inj {es:List MapEntry} (hn:(es.map fun e=>e.born).Nodup) {e e':MapEntry} (he:e∈es) (he':e'∈es) (hb:e'.born=e.born):e'=e:=by
 induction es with
 | nil=>cases he
 | cons x es ih =>
  rw[List.map_cons,List.nodup_cons] at hn;rcases List.mem_cons.1 he with rfl | h1
  ·rcases List.mem_cons.1 he' with rfl | h2
   ·try rfl
   ·exact absurd (List.mem_map.2 ⟨e',h2,hb⟩) hn.1
  ·rcases List.mem_cons.1 he' with rfl | h2
   ·exact absurd (List.mem_map.2 ⟨e,h1,hb.symm⟩) hn.1
   ·exact ih hn.2 h1 h2
def qV (B:Option Int):List AF:=B.toList.map fun a=>(4,a,0)
structure RJ (P:PH) (R:PR) (M:Nat→Nat) (B:Option Int):Prop where
 k:∀ x,eU P (R.all.map R.get) x→(M (x/2).toNat=0↔B=some x)
 b:∀ b,B=some b→eU P (R.all.map R.get) b
 m:∀ i:Nat,i<32*P.N→M i=1→P.has (2*(i:Int))=true
def ry (es:List MapEntry) (B:Option Int) (seen:List Nat) (C:List AF):Prop:=(C=[]∧∀ b,B=some b→∀ e∈es,e.key=int b→e.born∉seen)∨(∃ b,B=some b∧C=[(4,b,0)]∧∃ e∈es,e.key=int b∧e.born∈seen)
section
variable {s:St} {Φ:Value→St→Prop} {h r t u:Nat} {P:PH} {R:PR} {M:Nat→Nat} {B:Option Int}
theorem dO:type_of% (An @RX<|An @xd<|An @sw<|@VM):=An @RX<|An @xd<|An @sw<|@VM
theorem aIm (hs:Ok s) (H:bS s h P) (G:P.cM) (h0:P.has 0=false) (A:dV s r R) (T:eZ s t u (32*P.N) 1 M) (hB:RJ P R M B)
  (hΦ:∀ va c s',bE s' 51 3 (.slice va (qV B).length c) ((qV B).flatMap wJ)→(B=none→va=none∧c=0)→(∀ y∈nameOf (.slice va (qV B).length c),s.next≤y)→aC [] s s'→Φ (.tuple #[.slice va (qV B).length c,int 0]) s'):okF true X (KO Iu) 25 [ptr h,ptr r,ptr t] s Φ:=by
 have n2:=H.n2;have bW:=H.bW;have hm1:=A.m1;have Q2:((R.m:Int)==0)=false:=by rw[beq_eq_false_iff_ne];omega
 refine aV rfl D9 rfl (rs:=[.tmp 6,.tmp 7]) rfl (N:=65) rfl rfl ?_;refine aA fun bB aF aZ=>?_;simp only[dO,seval];refine aF _ _ ?_;refine aA fun Ψ1 aE aK=>?_;refine aA fun Ψ2 aH bM=>?_;refine cK [(3,16)] (by kernel_rfl) fun O hO bK hR=>?_;have y3:∀ a,aN O a 3=bC (a.aB 16):=hO (3,16) (by simp);simp only[dO,seval];refine aJ ?_ (oy A ?_)
 ·simp only[dO,seval]
 obtain⟨s1,e1,k1,c1,n1⟩:=cA hs (L:=[int 1]) (n:=1) (e:=3) rfl;simp only[dO,seval,y3,Q2];rw[e1]
 try simp only[dO,seval]
 refine aJ ?_ (aIn k1.ok (H.aL k1) (T.aD k1 (by simp) (by simp)) (c:=1) (l:=[1]) (Obj.sl c1 rfl) (by omega) rfl fun s2 k2=>?_)
 ·simp only[dO,seval]
 simp only[dO,seval,y3];refine hR _ _ (aH _ _ ?_);simp only[dO,seval];refine aE _ _ ?_;have eC:=k1.trans k2;obtain⟨cb,hcb⟩:∃ cb,cb=s2.next:=⟨_,rfl⟩;obtain⟨s3,e3,k3,c3,n3⟩:=cA eC.ok (L:=[.slice none 0 0]) (n:=1) (e:=110) rfl;refine aA fun Ψ3 aM bN=>?_;simp only[dO,seval];rw[e3];refine aM _ _ ?_;rw[← hcb] at c3;simp only[← hcb];have fF:=eC.trans k3;refine aA fun Ψ4 aQ bZ=>?_;simp only[dO,seval];refine aJ ?_ (aG2 fF.ok (A.aL fF) ?_)
 ·simp only[dO,seval]
 rintro v s4 b4 ⟨va,vc,rfl⟩ k4 NU
 try simp only[dO,seval]
 have iW:=fF.trans k4;have hal:=R.tB A.m4 A.ql;have hll:=R.VU R.all;refine aJ ?_ (aEk iW.ok (H.aL iW) G b4.sl (by show (R.nU R.all).length<100000;omega) (b4.lt iW.ok) (fun x hx=>by obtain⟨p,_,rfl⟩:=List.mem_map.1 (OQ.1 hx);exact PR.Bw A p) ?_)
 ·simp only[dO,seval]
 rintro mb s5 M5 k5 hmb;simp only[dO,seval];refine aQ _ _ ?_;have mR:=iW.trans k5;have c5:=(c3.aD k4 (by simp)).aD k5 (by simp);obtain⟨es,aO,aT,m1,m2,m3⟩:=M5;have hmo:mapOf s5.look mb=some (es,aO):=by simp only[mapOf,St.look,m1]
 refine aA fun cP bI cF=>?_;refine aA fun dK bO cV=>?_;simp only[dO,seval];refine aE6 (mb:=mb) (es:=es) (aO:=aO) (k:=3) (v:=4) ?_ (by kernel_rfl) hmo ?_
 ·simp only[dO,seval]
 simp only[dO,seval];obtain⟨it,kJ⟩:∃ it,it=s5.next:=⟨_,rfl⟩;obtain⟨s6,e6,k6,v6,i6⟩:∃ s6,(s5.new fun v=>.gC (some mb) aO [] aO v)=s6∧aC [] s5 s6∧∃ v,s6.heap.get s5.next=some (.gC (some mb) aO [] aO v) :=
  ⟨_,rfl,(aC.refl mR.ok).new (.inr (Nat.le_refl _)),s5.aO,by simp only[St.new,PT.fC,if_true]⟩
 rw[e6];refine bO _ _ ?_;rw[← kJ] at i6;simp only[← kJ];have rI:=mR.trans k6;have c6:=c5.aD k6 (by simp);have m6:=k6.cW _ _ m1 (by simp);have aJi:mb<s5.next:=Ok.lt mR.ok m1;have aJa:cb<s5.next:=c5.lt mR.ok;have n56:=k6.next;have aJd:it<s6.next:=Ok.lt rI.ok i6;have aJ9:s.next≤cb:=by have:=eC.next;omega
 have aJh:s.next≤mb:=by have:=iW.next;omega
 have aJj:mb≠cb:=by
  have:=c3.lt fF.ok;have:=k4.next;omega
 have H6:=H.aL rI;have T6:=T.aD rI (by simp) (by simp);have tb:t<s.next∧u<s.next:=by
  obtain⟨U,hU,_⟩:=T.ws;exact⟨T.c.lt hs,hU.lt hs⟩
 have HK:∀ F S,aC F s6 S→(∀ y∈F,s.next≤y)→bS S h P∧eZ S t u (32*P.N) 1 M:=fun F S k hF =>
  ⟨H6.aD k fun y hy hy'=>by have:=H.gO hs y hy;have:=hF y hy';omega,T6.aD k (fun h'=>by have:=hF _ h';omega) (fun h'=>by have:=hF _ h';omega)⟩
 refine cB fun fJ cC AS eF=>?_;refine cN.loop (fun k a' s'=>∃ seen v' C va vc,k=OI es seen∧a'.aB 0=ptr h∧a'.aB 1=ptr r∧a'.aB 2=ptr t∧a'.aB 8=ptr cb∧a'.aB 31=ptr it∧s'.heap.get it=some (.gC (some mb) aO seen aO v')∧Obj s' cb [.slice va C.length vc]∧bE s' 51 3 (.slice va C.length vc) (C.flatMap wJ)∧(∀ y∈nameOf (.slice va C.length vc),s6.next≤y)∧ry es B seen C∧(C=[]→va=none∧vc=0)∧aC [cb,it] s6 s') ?_ (OI es []) ?_
 ·rintro k a' s' ⟨seen,v',C,va,vc,rfl,r0,r1,r2,r8,XN,hI,hc,hb,hn,hf,mQ,hk⟩;have hF:∀ y∈[cb,it],s.next≤y:=fun y hy=>by
   rcases List.mem_cons.1 hy with h | h
   ·omega
   ·rw[List.mem_singleton.1 h];have:=mR.next;omega
  have ms:=hk.cW _ _ m6 (by simp;omega);have hms:mapOf s'.look mb=some (es,aO):=by simp only[mapOf,St.look,ms]
  refine aA fun jC dA iI=>?_;simp only[dO,seval];refine aE5 (it:=it) (mb:=mb) (es:=es) (aO:=aO) (since:=aO) (seen:=seen) rfl ?_ hI hms m3.1 (fun e he hbn=>?_) fun hall=>?_
  ·simp only[dO,seval,XN]
  ·simp only[dO,seval];refine dA _ _ ?_;refine aA fun lJ dW jP=>?_;simp only[dO,seval];refine dW _ _ ?_;refine cB fun mZ eB En nH=>?_;refine aA fun rS kL qK=>?_;have kp:aC [it] s' (s'.put it fun v=>.gC (some mb) aO (e.born::seen) aO v):=.BH hk.ok hI (.inr (Nat.le_refl _)) (List.mem_singleton.2 rfl);obtain⟨s7,e7,k7,v7,i7⟩:∃ s7,(s'.put it fun v=>.gC (some mb) aO (e.born::seen) aO v)=s7∧aC [it] s' s7∧∃ v,s7.heap.get it=some (.gC (some mb) aO (e.born::seen) aO v) :=
    ⟨_,rfl,kp,s'.aO,by simp only[St.put,PT.fC,if_true]⟩
   rw[e7];have k7':aC [cb,it] s' s7:=k7.mono fun y hy=>List.mem_cons_of_mem _ hy;have JS:=hk.trans k7';have ms7:=JS.cW _ _ m6 (by simp;omega);have aA5:mapOf s7.look mb=some (es,aO):=by simp only[mapOf,St.look,ms7]
   have Cx:=Ww (H:=s7.look) (it:=it) i7 aA5 m3.2 he;obtain⟨a,Ck,UG⟩:=aBa m2 he;have sG:=P.aGb _ a Ck;have Dp:eU P (R.all.map R.get) a:=(Lt h0).1 Ck;obtain⟨j,rfl,hj⟩:=FR sG;have vA:i64 (2*(j:Int)):=PH.ML P bW (PH.qN.2 sG);rw[UG] at Cx;have T0:=hc.aD k7 (by simp;omega);have R7:=hb.aD k7 fun y hy hy'=>by have:=hn y hy;rw[List.mem_singleton.1 hy'] at this;omega
   simp only[dO,seval,XN,Cx];refine kL _ _ ?_;obtain⟨H7,T7⟩:=HK _ _ JS hF;have ed:(2*(j:Int)).tdiv 2=(j:Int):=Int.mul_tdiv_cancel_left _ (by omega);have w2:IntKind.i64.wrap ((2*(j:Int)).tdiv 2)=(j:Int):=by rw[ed,aU (by omega) (by omega)]
   refine aA fun uH kV tJ=>?_;simp only[dO,seval,r2,w2];refine aJ ?_ (QA k7.ok T7 (j:Int) fun s8 k8=>?_)
   ·simp only[dO,seval]
   rw[if_pos ⟨by omega,by omega⟩,Int.toNat_natCast];have fO:=JS.trans k8.any;have i8:=k8.cW _ _ i7 (by simp);have Cp:=T0.aD k8 (by simp);have fc:=R7.aD k8 (by simp);have Cd:M j=0↔B=some (2*(j:Int)):=by
    have:=hB.k _ Dp
    rwa [show (2*(j:Int)/2).toNat=j by omega] at this
   have bY:=aBs he hbn;by_cases hM:M j=0
   ·have eM:((M j:Int)==0)=true:=by rw[hM];rfl
    have Ca:=Cd.1 hM
    try simp only[dO,seval,eM]
    refine kV _ _ ?_;have O8:C=[]:=by
     rcases hf with ⟨h,_⟩ | ⟨b,hb1,_,e',he',hk1,hs1⟩
     ·exact h
     ·rw[Ca] at hb1;cases hb1;have:=aB9 m2 aGd he' he (hk1.trans UG.symm);rw[this] at hs1;exact absurd hs1 hbn
    subst O8;obtain⟨rfl,rfl⟩:=mQ rfl;simp only[dO,seval,r8];refine aJ ?_ (Qr k8.ok Cp (o:=0) rfl fc (by simp[nameOf]) (by simp) 4 (2*(j:Int)) 0 fun pJ pK s9 o1 o2 o3 o4=>?_)
    ·simp only[dO,seval,r8]
    simp only[dO,seval];have o1:Obj s9 cb [.slice pJ 1 pK]:=o1;have n68:s6.next≤s8.next:=fO.next;have o3':∀ y∈nameOf (.slice pJ 1 pK),s6.next≤y:=fun y hy=>by
     rcases o3 y hy with h | h
     ·simp[nameOf] at h
     ·omega
    have k9:aC [cb] s8 s9:=o4.mono fun y hy=>by simpa [nameOf] using hy
    refine eB _ _ ⟨_,bY,e.born::seen,v7,[(4,2*(j:Int),0)],pJ,pK,rfl,?_,?_,?_,?_,?_,k9.cW _ _ i8 (by simp;omega),o1,o2,o3',.inr ⟨_,Ca,rfl,e,he,UG,List.mem_cons_self⟩,(fun h=>by cases h),fO.trans (k9.mono fun y hy=>by simp at hy;simp[hy])⟩
    all_goals try simp only[dO,seval,r0,r1,r2,r8,XN]
   ·have eM:((M j:Int)==0)=false:=by rw[beq_eq_false_iff_ne];omega
    have O7:B≠some (2*(j:Int)):=fun h=>hM (Cd.2 h)
    try simp only[dO,seval,eM]
    refine kV _ _ ?_;simp only[dO,seval];have NP:ry es B (e.born::seen) C:=by
     rcases hf with ⟨h1,h2⟩ | ⟨b,hb1,hb2,e',he',hk1,hs1⟩
     ·refine .inl ⟨h1,fun b hb' e' he' hk' hm=>?_⟩;rcases List.mem_cons.1 hm with h | h
      ·have:=born_inj m3.2 he he' h;rw[this,UG] at hk';simp only[int,Value.int.injEq,true_and] at hk';exact O7 (by rw[hb',hk'])
      ·exact h2 b hb' e' he' hk' h
     ·exact .inr ⟨b,hb1,hb2,e',he',hk1,List.mem_cons_of_mem _ hs1⟩
    refine eB _ _ ⟨_,bY,e.born::seen,v7,C,va,vc,rfl,?_,?_,?_,?_,?_,i8,Cp,fc,hn,NP,mQ,fO⟩
    all_goals try simp only[dO,seval,r0,r1,r2,r8,XN]
  ·simp only[dO,seval];refine dA _ _ ?_;refine aA fun lJ dW jP=>?_;simp only[dO,seval];refine jP _ _ _ (by simp) (AS _ _ (bI _ _ ?_));have hC:C=qV B:=by
    rcases hf with ⟨h1,h2⟩ | ⟨b,hb1,hb2,_⟩
    ·cases dz:B with
     | none=>rw[h1];rfl
     | some b =>
      have R8:=(Lt h0).2 (hB.b b dz);obtain⟨e,he,hke⟩:=aBb m2 R8;exact absurd (hall e he (m3.1 e he)) (h2 b dz e he hke)
    ·rw[hb1,hb2];rfl
   subst hC;obtain⟨H7,T7⟩:=HK _ _ hk hF;refine aA fun mZ eB nH=>?_;refine aA fun uH kV tJ=>?_;simp only[dO,seval,r2];refine aJ ?_ (Nt T7 ?_)
   ·simp only[dO,seval]
   simp only[dO,seval];refine kV _ _ ?_;refine cB fun AA oF aAj yX=>?_;refine qP (n:=32*P.N) (fun i a' s''=>a'.aB 0=ptr h∧a'.aB 2=ptr t∧a'.aB 8=ptr cb∧a'.aB 44=int ((32*P.N:Nat))∧a'.aB 45=int i∧aC [] s' s'')
    (fun i a' s''=>a'.aB 0=ptr h∧a'.aB 2=ptr t∧a'.aB 8=ptr cb∧a'.aB 44=int ((32*P.N:Nat))∧a'.aB 45=int i∧aC [] s' s'') ?_ ?_ ?_ ?_ (Nat.zero_le _) ?_
   ·rintro i a' s'' hi ⟨r0,r2,r8,oV,jQ,rF⟩ aR bH;simp only[dO,seval,oV,jQ];refine bH _ _ (decide ((i:Int)<((32*P.N:Nat):Int))) ?_ (by rw[decide_eq_true_eq];omega) ⟨?_,?_,?_,?_,?_,rF⟩
    all_goals simp only[dO,seval,r0,r2,r8,oV,jQ]
   ·rintro i a' s'' hi ⟨r0,r2,r8,oV,jQ,rF⟩ aR w1 w2 w3;refine aA fun ME wP GO=>?_;simp only[dO,seval,jQ];refine wP _ _ ?_;refine aA fun ZD AQ VE=>?_;refine cK [(4,52)] (by kernel_rfl) fun O hO bK hR=>?_;have y4:∀ a,aN O a 4=bC (a.aB 52):=hO (4,52) (by simp);simp only[dO,seval,r2];refine aJ ?_ (QA rF.ok (T7.aD rF (by simp) (by simp)) (i:Int) fun s8 k8=>?_)
    ·simp only[dO,seval]
    rw[if_pos ⟨by omega,by omega⟩,Int.toNat_natCast];have fO:=rF.trans k8;have bY:=T.lt hi;by_cases hM:M i=1
    ·have eM:((M i:Int)==1)=true:=by rw[hM];rfl
     have hh:=hB.m i hi hM;have w2:IntKind.i64.wrap (2*(i:Int))=2*(i:Int):=aU (by omega) (by omega);have sH:i64 (2*(i:Int)):=⟨by omega,by omega⟩;simp only[dO,seval,y4,eM,r0,w2];refine aJ ?_ (FY fO.ok (H7.aL fO) (2*(i:Int)) sH fun s9 k9=>?_)
     ·simp only[dO,seval]
     rw[hh];simp only[dO,seval,y4,Bool.not_true];refine hR _ _ (AQ _ _ ?_);simp only[dO,seval];refine w1 _ _ ⟨?_,?_,?_,?_,?_,fO.trans k9⟩
     all_goals try simp only[dO,seval,r0,r2,r8,oV,jQ]
    ·have eM:((M i:Int)==1)=false:=by rw[beq_eq_false_iff_ne];omega
     simp only[dO,seval,y4,eM];refine hR _ _ (AQ _ _ ?_);simp only[dO,seval];refine w1 _ _ ⟨?_,?_,?_,?_,?_,fO⟩
     all_goals try simp only[dO,seval,r0,r2,r8,oV,jQ]
   ·rintro i a' s'' hi ⟨r0,r2,r8,oV,jQ,rF⟩ aR w1;have w:IntKind.i64.wrap ((i:Int)+1)=((i+1:Nat):Int):=by rw[aU (by omega) (by omega)];rfl
    simp only[dO,seval,jQ,w];refine w1 _ _ ⟨?_,?_,?_,?_,?_,rF⟩
    all_goals try simp only[dO,seval,r0,r2,r8,oV]
   ·rintro a' s'' ⟨r0,r2,r8,oV,jQ,rF⟩;refine aAj _ _ (eB _ _ ?_);have lf:aI s''.look ⟨cb,0,none⟩=some (.slice va (qV B).length vc):=(hc.aD rF (by simp)).load rfl;have hlen:(qV B).length≤1:=by unfold qV;cases B <;> simp
    simp only[dO,seval,r8,lf];refine aJ ?_ (Xu (va:=va) (n:=(qV B).length) (c:=vc) hlen ?_)
    ·simp only[dO,seval]
    simp only[dO,seval];have kS:aC [] s s':=rI.step hk fun y hy=>.inr (hs.fresh y (hF y hy));exact hΦ va vc s'' (hb.aD rF (by simp)) (fun hB=>mQ (by rw[hB];rfl)) (fun y hy=>by have:=hn y hy;have:=rI.next;omega) (kS.trans rF)
   ·refine⟨?_,?_,?_,?_,?_,.refl hk.ok⟩
    all_goals try simp only[dO,seval,r0,r2,r8]
    all_goals rfl
 ·refine⟨[],v6,[],none,0,rfl,?_,?_,?_,?_,?_,i6,c6,.nil,(by simp[nameOf]),.inl ⟨rfl,fun _ _ _ _ _ h=>by cases h⟩,fun _=>⟨rfl,rfl⟩,.refl k6.ok⟩
  all_goals try simp only[dO,seval]
end
end Go.Dust
