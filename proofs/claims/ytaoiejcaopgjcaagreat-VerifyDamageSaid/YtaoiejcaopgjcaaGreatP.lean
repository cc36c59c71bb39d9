/- VerifyDamage walked in D, function by function, and its plain law (N9 O1 O2 O3 Qg Qh Qd Qe Ep Qi K1 Q1 Q2 Q3 Q4). -/
import Derived.Test.YtaoiejcaopgjcaaGreatO
import Derived.Test.YtaoiejcaopgjcaaGreatM
import Derived.Test.YtaoiejcaopgjcaaGreatL
import Derived.Test.YtaoiejcaopgjcaaGreatJ
import Derived.Shelf.SlSortCmp.Xorshift
import Derived.Shelf.SlSortCmp.KitK
import Derived.Sort.AssemblyPlain
import Derived.Shelf.SlSortCmp.PdqK
import Derived.Test.YtaoiejcaopgjcaaGreatI
set_option linter.unusedVariables false
set_option linter.unusedSimpArgs false
namespace Go.Dust
open Go.Proofs
set_option maxRecDepth 100000
set_option maxHeartbeats 8000000
theorem PR.aBm {R:PR} {p:eJ} (h:p∈R.every):∃ k i,k<3∧i<R.len k∧p=PR.cW k i:=by
 unfold every ev at h;simp only[List.mem_append,List.mem_map,List.mem_range] at h;rcases h with (⟨i,hi,rfl⟩ | ⟨i,hi,rfl⟩) | ⟨i,hi,rfl⟩
 ·exact⟨0,i,by omega,by unfold len;simpa using hi,rfl⟩
 ·exact⟨1,i,by omega,by unfold len;simpa using hi,rfl⟩
 ·exact⟨2,i,by omega,by unfold len;simpa using hi,rfl⟩
theorem PR.pH {R:PR} {p:eJ}:p∈R.all↔p∈R.every∧R.get p≠0:=by
 rw[wv,List.mem_filter];simp
theorem PR.aDs {k k' i i':Nat} (h:PR.cW k i=PR.cW k' i'):k=k'∧i=i':=by
 unfold cW at h;simp only[eJ.mk.injEq] at h;obtain⟨h1,h2,h3⟩:=h;have hk:k=k':=by omega
 subst hk;refine⟨rfl,?_⟩;by_cases h0:k=0
 ·simp only[h0,if_true] at h2 h3;omega
 ·simp only[h0,if_false] at h3;omega
structure PR.Part (R:PR) (L:List eJ) (R':PR):Prop where
 m:R'.m=R.m
 q:R'.q=R.q
 sl:∀ i,i<16*R.m→R'.sl i=if PR.cW 0 i∈L then R.sl i else 0
 gl:∀ i,i<16→R'.gl i=if PR.cW 1 i∈L then R.gl i else 0
theorem PR.Part.has {R R':PR} {L:List eJ} (h:R.Part L R') (p:eJ):R'.has p=R.has p:=by
 unfold PR.has;rw[h.m,h.q]
theorem PR.Part.set {R R':PR} {L:List eJ} (h:R.Part L R') {p:eJ} (hp:p∈R.every):R.Part (L++[p]) (R'.set p (R.get p)):=by
 obtain⟨k,i,hk,hi,rfl⟩:=PR.aBm hp;have hm:∀ k' i',(PR.cW k' i'∈L++[PR.cW k i])↔(PR.cW k' i'∈L∨(k'=k∧i'=i)):=fun k' i'=>by
  rw[List.mem_append,List.mem_singleton];constructor
  ·rintro(g | g)
   ·exact .inl g
   ·exact .inr (PR.aDs g)
  ·rintro(g | ⟨rfl,rfl⟩)
   ·exact .inl g
   ·exact .inr rfl
 unfold PR.len at hi;rcases(show k=0∨k=1∨k=2 by omega) with rfl | rfl | rfl
 ·have e:((PR.cW 0 i).m*16+(PR.cW 0 i).i).toNat=i:=by unfold PR.cW;simp only[if_true];omega
  have es:R'.set (PR.cW 0 i) (R.get (PR.cW 0 i))={R' with sl:=dM R'.sl i (R.sl i)}:=by
   unfold PR.set;rw[if_pos (show (PR.cW 0 i).k=0 from rfl),e,R.KV]
  rw[es];refine⟨h.m,h.q,fun j hj=>?_,fun j hj=>?_⟩
  ·show dM R'.sl i (R.sl i) j=_;unfold dM;by_cases sQ:j=i
   ·rw[if_pos sQ,if_pos ((hm 0 j).2 (.inr ⟨rfl,sQ⟩)),sQ]
   ·rw[if_neg sQ,h.sl j hj];by_cases hL:PR.cW 0 j∈L
    ·rw[if_pos hL,if_pos ((hm 0 j).2 (.inl hL))]
    ·rw[if_neg hL,if_neg fun g=>((hm 0 j).1 g).elim hL fun g=>sQ g.2]
  ·rw[h.gl j hj];by_cases hL:PR.cW 1 j∈L
   ·rw[if_pos hL,if_pos ((hm 1 j).2 (.inl hL))]
   ·rw[if_neg hL,if_neg fun g=>((hm 1 j).1 g).elim hL fun g=>by omega]
 ·have e:(PR.cW 1 i).i.toNat=i:=by unfold PR.cW;simp
  have es:R'.set (PR.cW 1 i) (R.get (PR.cW 1 i))={R' with gl:=dM R'.gl i (R.gl i)}:=by
   unfold PR.set;rw[if_neg (show ¬ (PR.cW 1 i).k=0 by unfold PR.cW;simp),if_pos (show (PR.cW 1 i).k=1 from rfl),e,R.KW]
  rw[es];refine⟨h.m,h.q,fun j hj=>?_,fun j hj=>?_⟩
  ·rw[h.sl j hj];by_cases hL:PR.cW 0 j∈L
   ·rw[if_pos hL,if_pos ((hm 0 j).2 (.inl hL))]
   ·rw[if_neg hL,if_neg fun g=>((hm 0 j).1 g).elim hL fun g=>by omega]
  ·show dM R'.gl i (R.gl i) j=_;unfold dM;by_cases sQ:j=i
   ·rw[if_pos sQ,if_pos ((hm 1 j).2 (.inr ⟨rfl,sQ⟩)),sQ]
   ·rw[if_neg sQ,h.gl j hj];by_cases hL:PR.cW 1 j∈L
    ·rw[if_pos hL,if_pos ((hm 1 j).2 (.inl hL))]
    ·rw[if_neg hL,if_neg fun g=>((hm 1 j).1 g).elim hL fun g=>sQ g.2]
 ·have e:(PR.cW 2 i).i.toNat=i:=by unfold PR.cW;simp
  have hi:i<R.q.length:=by simpa using hi
  have es:R'.set (PR.cW 2 i) (R.get (PR.cW 2 i))={R' with q:=R.q}:=by
   unfold PR.set;rw[if_neg (show ¬ (PR.cW 2 i).k=0 by unfold PR.cW;simp),if_neg (show ¬ (PR.cW 2 i).k=1 by unfold PR.cW;simp),e,R.OW,h.q];congr 1;apply List.ext_getElem?;intro j;rw[List.getElem?_set];split
   ·rename_i hj;subst hj;rw[List.getD_eq_getElem?_getD,List.getElem?_eq_getElem hi];rfl
   ·try rfl
  rw[es];refine⟨h.m,rfl,fun j hj=>?_,fun j hj=>?_⟩
  ·show R'.sl j=_;rw[h.sl j hj];by_cases hL:PR.cW 0 j∈L
   ·rw[if_pos hL,if_pos ((hm 0 j).2 (.inl hL))]
   ·rw[if_neg hL,if_neg fun g=>((hm 0 j).1 g).elim hL fun g=>by omega]
  ·show R'.gl j=_;rw[h.gl j hj];by_cases hL:PR.cW 1 j∈L
   ·rw[if_pos hL,if_pos ((hm 1 j).2 (.inl hL))]
   ·rw[if_neg hL,if_neg fun g=>((hm 1 j).1 g).elim hL fun g=>by omega]
structure PR.TF (R R':PR):Prop where
 m:R'.m=R.m
 q:R'.q=R.q
 sl:∀ i,i<16*R.m→R'.sl i=R.sl i
 gl:∀ i,i<16→R'.gl i=R.gl i
theorem PR.Part.same {R R':PR} (h:R.Part R.all R'):R.TF R':=by
 refine⟨h.m,h.q,fun i hi=>?_,fun i hi=>?_⟩
 ·rw[h.sl i hi];split
  ·try rfl
  ·rename_i hn;refine(Decidable.byContradiction fun h0=>hn (PR.pH.2 ⟨?_,by rw[R.KV];exact fun e=>h0 e.symm⟩));unfold PR.every PR.ev;rw[List.mem_append,List.mem_append];exact .inl (.inl (List.mem_map.2 ⟨i,List.mem_range.2 hi,rfl⟩))
 ·rw[h.gl i hi];split
  ·try rfl
  ·rename_i hn;refine(Decidable.byContradiction fun h0=>hn (PR.pH.2 ⟨?_,by rw[R.KW];exact fun e=>h0 e.symm⟩));unfold PR.every PR.ev;rw[List.mem_append,List.mem_append];exact .inl (.inr (List.mem_map.2 ⟨i,List.mem_range.2 hi,rfl⟩))
theorem PR.TF.lead {R R':PR} (h:R.TF R') (x:Int):R'.yS x↔R.yS x:=by
 unfold PR.yS;rw[h.m,h.q];have e1:(∃ i,i<16*R.m∧R'.sl i=x)↔∃ i,i<16*R.m∧R.sl i=x:=⟨fun⟨i,a,b⟩=>⟨i,a,by rw[← h.sl i a];exact b⟩,fun⟨i,a,b⟩=>⟨i,a,by rw[h.sl i a];exact b⟩⟩;have e2:(∃ i,i<16∧R'.gl i=x)↔∃ i,i<16∧R.gl i=x:=⟨fun⟨i,a,b⟩=>⟨i,a,by rw[← h.gl i a];exact b⟩,fun⟨i,a,b⟩=>⟨i,a,by rw[h.gl i a];exact b⟩⟩;rw[e1,e2]
theorem RQ.Cu {Q:RQ} {t:Nat} {R R':PR} (hm:R'.m=R.m) (hq:R'.q.length=R.q.length):Q.aS t R'=Q.aS t R:=by
 unfold RQ.aS;rw[hm,hq]
section
variable {kc:Kc} {q:Bool} {s:St} {Φ:Value→St→Prop} {r:Nat} {R:PR}
theorem iT:type_of% (B7 @RX @xu @rL @wK @wB @vW @kL):=B7 @RX @xu @rL @wK @wB @vW @kL
theorem aAm (hs:Ok s) (A:cV s r R) (hv:∀ p∈R.all,0≤R.get p) (hΦ:∀ t Q R' s',gH s' t Q R'→R.TF R'→(∀ y∈Q.aS t R',s.next≤y)→aC [] s s'→Φ (ptr t) s'):okF q X (KO kc) 124 [ptr r] s Φ:=by
 have m1:=A.m1;have m4:=A.m4;have ql:=A.ql;have hal:=R.uI m4 ql;refine aW Tryz.func124 (by kernel_rfl) rfl rfl (rs:=[.tmp 2]) rfl (N:=50) rfl rfl ?_;refine aA fun bF aF bD=>?_;simp only[iT,seval];refine aF _ _ ?_;refine aA fun Ψ1 aE aL=>?_;simp only[iT,seval];refine aH ?_ (ah A ?_)
 ·simp only[iT,seval]
 try simp only[iT,seval]
 refine aH ?_ (Nz hs m1 m4 fun t Q R0 s1 P9 U7 L7 hq0 T1 hf1 k1=>?_)
 ·simp only[iT,seval]
 simp only[iT,seval];refine aE _ _ ?_;refine aA fun Ψ2 aI bH=>?_;refine aA fun Ψ3 aN bM=>?_;simp only[iT,seval,beq_self_eq_true];refine aN _ _ ?_;simp only[iT,seval];refine aI _ _ ?_;refine aA fun Ψ4 aP cC=>?_;simp only[iT,seval];refine aH ?_ (Nq k1.ok (A.aJ k1) fun va vc s2 aIf b2 k2 hn2=>?_)
 ·simp only[iT,seval]
 have nO:=A.lq;rw[nO] at b2 hn2 ⊢
 try simp only[iT,seval]
 refine aH ?_ (Mv k2.ok b2.sl (by omega) fun wa wc s3 b3 k3 EB=>?_)
 ·simp only[iT,seval]
 have kZ:aC [] s1 s3:=k2.trans k3;have T3:=T1.aJ kZ;have sk:t∉nameOf (.slice Q.va R0.q.length Q.vc):=fun h=>T3.nq t h (List.mem_cons_self ..);obtain⟨s4,h4,c4,u4⟩:=T3.c.fK k3.ok (i:=2) (v:=.slice wa R.q.length wc) (by simp) rfl;have ht:=hf1 t (List.mem_append_left _ (List.mem_append_left _ (List.mem_cons_self ..)));have ku:=T3.eM k3.ok;have kr:=T1.eM k1.ok;have n13:=kZ.next;have n12:=k2.next;have T4:gH s4 t {Q with va:=wa,vc:=wc} {R0 with q:=R.q}:=by
  refine T3.YU u4 (fun x hx hne hm=>hne (List.mem_singleton.1 hm)) c4 (b3.aD u4 fun y hy hy'=>?_) (fun b hb=>⟨fun h=>?_,fun h=>?_⟩) ql
  ·rw[List.mem_singleton.1 hy'] at hy;have:=EB _ hy;have:=kr t (List.mem_append_left _ (List.mem_append_left _ (List.mem_cons_self ..)));omega
  ·have:=EB b hb;have:=kr b (List.mem_append_left _ (List.mem_append_left _ h));omega
  ·have:=EB b hb;have:=kr b (List.mem_append_left _ (List.mem_append_right _ h));omega
 have K4:aC [] s s4:=(k1.trans kZ).step u4 fun y hy=>.inr (by rw[List.mem_singleton.1 hy];exact hs.fresh _ ht)
 try simp only[iT,seval,h4]
 refine aP _ _ ?_;obtain⟨Q4,Dk⟩:∃ Q4,Q4={Q with va:=wa,vc:=wc}:=⟨_,rfl⟩;rw[← Dk] at T4;obtain⟨R4,jh⟩:∃ R4:PR,R4={R0 with q:=R.q}:=⟨_,rfl⟩;rw[← jh] at T4;have Em:∀ y∈Q4.aS t R4,s.next≤y∧y<s4.next:=fun y hy=>by
  refine⟨?_,T4.eM u4.ok y hy⟩;rw[Dk,jh] at hy;unfold RQ.aS at hy;rcases List.mem_append.1 hy with h | h
  ·exact hf1 y (by unfold RQ.aS;exact List.mem_append_left _ h)
  ·have:=EB y h;have:=k1.next;omega
 have P4:R.Part [] R4:=by
  rw[jh];exact⟨P9,rfl,fun i _=>by rw[if_neg (by simp)];exact U7 i,fun i _=>by rw[if_neg (by simp)];exact L7 i⟩
 refine aA fun cU aZ cK=>?_;simp only[iT,seval];refine aH ?_ (ai u4.ok (A.aJ K4) ?_)
 ·simp only[iT,seval]
 rintro v s6 b6 ⟨pa,pc,rfl⟩ k6 Q7
 try simp only[iT,seval]
 refine aZ _ _ ?_;refine aA fun dN bO cZ=>?_;refine aA fun fE cG dX=>?_;simp only[iT,seval];refine cG _ _ ?_;refine cJ fun gV cT tQ gA=>?_;refine gB (n:=R.all.length) (fun j a' s'=>∃ R',R.Part (R.all.take j) R'∧a'.aB 0=ptr r∧a'.aB 3=ptr t∧a'.aB 5=.slice pa R.all.length pc∧a'.aB 6=int j∧gH s' t Q4 R'∧∃ F,aC F s6 s'∧∀ y∈F,s.next≤y∧y<s4.next)
  (fun j a' s'=>∃ R',R.Part (R.all.take (j+1)) R'∧a'.aB 0=ptr r∧a'.aB 3=ptr t∧a'.aB 5=.slice pa R.all.length pc∧a'.aB 6=int j∧gH s' t Q4 R'∧∃ F,aC F s6 s'∧∀ y∈F,s.next≤y∧y<s4.next) ?_ ?_ ?_ ?_ (Nat.zero_le _) ?_
 ·rintro j a' s' hj ⟨R',hP,r0,r3,r5,r6,hT,hF⟩ aV bP;simp only[iT,seval,r5,r6];refine bP _ _ (decide ((j:Int)<R.all.length)) ?_ (by simp) ⟨R',hP,?_,?_,?_,?_,hT,hF⟩
  all_goals simp only[iT,seval,r0,r3,r5,r6]
 ·rintro j a' s' hj ⟨R',hP,r0,r3,r5,r6,hT,F,hk,hF⟩ aV w1 w2 w3;obtain⟨vb,dW,rfl⟩:=b6.sl.addr (show 0<R.all.length by omega);have g1:(0:Int)≤(j:Int):=Int.natCast_nonneg _;have g2:(j:Int)<((R.all.length:Nat):Int):=by omega
  obtain⟨p,hp⟩:∃ p,p=R.all[j]:=⟨_,rfl⟩;have hpa:p∈R.all:=by rw[hp];exact List.getElem_mem _
  have uM:=R.FY hpa;have BS:=k6.next;have b7:=b6.aD hk fun y hy hy'=>by have:=Q7 y hy;have:=(hF y hy').2;omega
  have lj:∀ S,aC [] s' S→bI S.look ⟨vb,dW+j*3,none⟩ 3=some [int p.k,int p.m,int p.i]:=fun S k=>by
   have:=(b7.sl.aD k (by simp)).bI (i:=j*3) (k:=3) (by omega) (by rw[OO];omega);rw[OP _ hj,← hp] at this;exact this
  have kA:aC [] s s':=(K4.trans k6).step hk fun y hy=>.inr (hs.fresh y (hF y hy).1);refine aA fun jC dK iK=>?_;simp only[iT,seval,r0,r5,r6,g1,g2,and_self,bQ,Int.toNat_natCast,lj s' (.refl hk.ok)];refine aH ?_ (ZZ hk.ok (A.aJ kA) p fun s7 k7=>?_)
  ·simp only[iT,seval]
  rw[if_pos uM,if_pos uM]
  try simp only[iT,seval]
  refine dK _ _ ?_;simp only[iT,seval,r3,r5,r6,g1,g2,and_self,bQ,Int.toNat_natCast,lj s7 k7];refine aH ?_ (Oa k7.ok (hT.aJ k7) p (R.get p) fun s8 T8 k8=>?_)
  ·simp only[iT,seval]
  have hc:R'.has p=true∧¬ (R.get p<0∨(R.get p=0∧p.k=2)):=by
   refine⟨by rw[hP.has];exact uM,?_⟩;have h1:=hv p hpa;have h2:=(PR.pH.1 hpa).2;omega
  rw[if_pos hc] at T8;have Dj:=hP.set (PR.pH.1 hpa).1;have e1:R.all.take j++[p]=R.all.take (j+1):=by rw[List.take_add_one,List.getElem?_eq_getElem hj,← hp];rfl
  rw[e1] at Dj;simp only[iT,seval];have jx:Q4.aS t R'=Q4.aS t R4:=RQ.Cu (hP.m.trans P4.m.symm) (by rw[hP.q,P4.q]);refine w1 _ _ ⟨_,Dj,?_,?_,?_,?_,T8,F++Q4.aS t R4,((hk.trans k7.any).mono fun y hy=>List.mem_append_left _ hy).trans (by rw[jx] at k8;exact k8.mono fun y hy=>List.mem_append_right _ hy),fun y hy=>?_⟩
  ·simp only[iT,seval,r0]
  ·simp only[iT,seval,r3]
  ·simp only[iT,seval,r5]
  ·simp only[iT,seval,r6]
  ·rcases List.mem_append.1 hy with h | h
   ·exact hF y h
   ·exact Em y h
 ·rintro j a' s' hj ⟨R',hP,r0,r3,r5,r6,hT,hF⟩ aV w1;have w:IntKind.i64.wrap ((j:Int)+1)=((j+1:Nat):Int):=by rw[aU (by omega) (by omega)];rfl
  simp only[iT,seval,r6,w];refine w1 _ _ ⟨R',hP,?_,?_,?_,?_,hT,hF⟩
  all_goals try simp only[iT,seval,r0,r3,r5]
 ·rintro a' s' ⟨R',hP,r0,r3,r5,r6,hT,F,hk,hF⟩;refine tQ _ _ (bO _ _ ?_);simp only[iT,seval,r3];rw[List.take_length] at hP;have jx:Q4.aS t R'=Q4.aS t R4:=RQ.Cu (hP.m.trans P4.m.symm) (by rw[hP.q,P4.q]);refine hΦ t Q4 R' s' hT hP.same (fun y hy=>by rw[jx] at hy;exact(Em y hy).1) ((K4.trans k6).step hk fun y hy=>.inr (hs.fresh y (hF y hy).1))
 ·refine⟨R4,P4,?_,?_,?_,?_,T4.aJ k6,[],.refl k6.ok,fun y hy=>by cases hy⟩
  all_goals try simp only[iT,seval]
  all_goals rfl
end
open Go.Proofs
set_option maxRecDepth 100000
set_option maxHeartbeats 8000000
theorem aF1 {P:PH} {l:List Int} (hp:l.Pairwise (·<·)) (hh:∀ x∈l,P.has x=true):l=P.all.filter fun x=>decide (x∈l):=by
 refine SG hp (P.TM.filter _) fun x=>?_;rw[List.mem_filter,PH.pH,decide_eq_true_eq];exact⟨fun h=>⟨hh x h,h⟩,fun h=>h.2⟩
theorem aF2 {P:PH} {l:List Int} (hp:l.Pairwise (·<·)) (hh:∀ x∈l,P.has x=true):l.length≤P.all.length:=by
 rw[aF1 hp hh];exact List.length_filter_le _ _
theorem aF3 {l m:List Int} (hl:l.Pairwise (·<·)) (hm:m.Pairwise (·<·)) (h:∀ x∈l,x∈m):l.length≤m.length∧(l.length=m.length→l=m):=by
 have e:l=m.filter fun x=>decide (x∈l):=by
  refine SG hl (hm.filter _) fun x=>?_;rw[List.mem_filter,decide_eq_true_eq];exact⟨fun g=>⟨h x g,g⟩,fun g=>g.2⟩
 refine⟨by rw[e];exact List.length_filter_le _ _,fun hlen=>?_⟩;have h2:(m.filter fun x=>decide (x∈l)).length=m.length:=by rw[← e];exact hlen
 rw[List.length_filter_eq_length_iff] at h2;rw[e,List.filter_eq_self];exact h2
structure TG (P:PH) (l:List Int):Prop where
 lS:∀ x∈l,∀ y∈P.lS x,P.has y=true→y∈l
 zM:∀ x∈l,(P.aM x).k=2→P.ref x 0∈l→P.has (P.ref x 1)=true→P.ref x 1∈l
theorem TG.xW {P:PH} {l st:List Int} (h:TG P l) (hs:∀ x∈st,P.has x=true→x∈l) {x:Int} (k:iI P st x):x∈l:=by
 induction k with
 | root a b=>exact hs _ a b
 | lS _ b c ih=>exact h.lS _ ih _ b c
 | zM _ b _ d ih1 ih2=>exact h.zM _ ih1 b ih2 d
structure Rz (P:PH) (st l:List Int):Prop where
 up:l.Pairwise (·<·)
 xW:∀ x∈l,iI P st x
theorem Rz.len {P:PH} {st l:List Int} (h:Rz P st l):l.length≤P.all.length:=aF2 h.up fun x hx=>(h.xW x hx).has
theorem Rz.add {P:PH} {st l l':List Int} (h:Rz P st l) {y:Int} (hm:∀ x,x∈l'↔x∈l∨(x=y∧P.has y=true)) (hp:l'.Pairwise (·<·)) (hy:P.has y=true→iI P st y):Rz P st l' :=
 ⟨hp,fun x hx=>((hm x).1 hx).elim (h.xW x) fun g=>by rw[g.1];exact hy g.2⟩
section
variable {kc:Kc} {q:Bool} {s:St} {Φ:Value→St→Prop} {g:Nat} {P:PH} {L:List uG}
theorem cP:type_of% (B9 @RX @tI @dV @dQ @bG @kX @lA @nS (B8 @AJ @DE @FE @DN @dF @zO @gL @pP)):=B9 @RX @tI @dV @dQ @bG @kX @lA @nS (B8 @AJ @DE @FE @DN @dF @zO @gL @pP)
theorem aEm (hs:Ok s) (H:vF s g P L) (G:P.bX) {a:Option Addr} {n c:Nat} {st:List Int} (hS:Ints s (.slice a n c) st) (hn:n≤1000)
  (hΦ:∀ a' n' c' (l:List Int) s',bJ s' 3 1 (.slice a' n' c') (l.map int)→l.Pairwise (·<·)→(∀ x,x∈l↔iI P st x)→aC [] s s'→Φ (.slice a' n' c') s'):okF q X (KO kc) 104 [ptr g,.slice a n c,.bool true] s Φ:=by
 have hsl:=hS.len;have hal:=P.uI;have bY:=H.bY;have KY:=H.len;refine aW Tryz.func104 (by kernel_rfl) rfl rfl (rs:=[.tmp 6]) rfl (N:=96) rfl rfl ?_;refine aA fun bF aF bD=>?_;simp only[cP,seval];refine aF _ _ ?_;refine aA fun Ψ1 aE aL=>?_;obtain⟨s1,e1,k1,c1,n1⟩:=cI hs (L:=[]) (n:=0) (e:=3) rfl;simp only[cP,seval];rw[e1];refine aE _ _ ?_;have B1:bJ s1 3 1 (.slice (some ⟨s.next,0,none⟩) 0 0) (([]:List Int).map int):=by
  rw[← e1];exact .own (L0:=[]) Cells.tU (by simp) (Nat.le_refl _) rfl (fun i hi=>absurd hi (Nat.not_lt_zero _))
 refine aA fun Ψ2 aI bH=>?_;refine aA fun Ψ3 aN bM=>?_;simp only[cP,seval];refine aN _ _ ?_;refine cJ fun Ψ4 aP xS cC=>?_;refine gB (n:=n) (fun j a' s'=>∃ oa on oc l,a'.aB 0=ptr g∧a'.aB 1=.slice a n c∧a'.aB 2=.bool true∧a'.aB 7=.slice oa on oc∧a'.aB 8=int j∧bJ s' 3 1 (.slice oa on oc) (l.map int)∧Rz P st l∧(∀ x∈st.take j,P.has x=true→x∈l)∧aC [] s s')
  (fun j a' s'=>∃ oa on oc l,a'.aB 0=ptr g∧a'.aB 1=.slice a n c∧a'.aB 2=.bool true∧a'.aB 7=.slice oa on oc∧a'.aB 8=int j∧bJ s' 3 1 (.slice oa on oc) (l.map int)∧Rz P st l∧(∀ x∈st.take (j+1),P.has x=true→x∈l)∧aC [] s s') ?_ ?_ ?_ ?_ (Nat.zero_le _) ?_
 ·rintro j a' s' hj ⟨oa,on,oc,l,r0,r1,r2,r7,r8,hb,hz,hm,hk⟩ aV bP;simp only[cP,seval,r1,r8];refine bP _ _ (decide ((j:Int)<n)) ?_ (by simp) ⟨oa,on,oc,l,?_,?_,?_,?_,?_,hb,hz,hm,hk⟩
  all_goals simp only[cP,seval,r0,r1,r2,r7,r8]
 ·rintro j a' s' hj ⟨oa,on,oc,l,r0,r1,r2,r7,r8,hb,hz,hm,hk⟩ aV w1 w2 w3;obtain⟨vb,dW,rfl⟩:=hS.addr (show 0<n by omega);have iX:j<st.length:=by omega
  have lj:aG s'.look ⟨vb,dW+j,none⟩=some (int st[j]):=Ints.get (Sl.aD hS hk (by simp)) (List.getElem?_eq_getElem iX);have g1:(0:Int)≤(j:Int):=Int.natCast_nonneg _;have g2:(j:Int)<(n:Int):=by omega
  have HI:l.length=on:=Ints.len hb.sl;have hlen:=hz.len;simp only[cP,seval,r0,r1,r7,r8,g1,g2,and_self,bQ,Int.toNat_natCast,Nat.mul_one,lj];refine aH ?_ (se hk.ok (H.aJ hk) hb (by omega) st[j] hz.up fun a2 n2 c2 l2 s2 b2 m2 p2 k2=>?_)
  ·simp only[cP,seval]
  simp only[cP,seval];refine w1 _ _ ⟨a2,n2,c2,l2,?_,?_,?_,?_,?_,b2,hz.add m2 p2 fun h=>.root (List.getElem_mem _) h,fun x hx hp=>?_,hk.trans k2⟩
  ·simp only[cP,seval,r0]
  ·simp only[cP,seval,r1]
  ·simp only[cP,seval,r2]
  ·simp only[cP,seval]
  ·simp only[cP,seval,r8]
  ·rw[List.take_add_one,List.getElem?_eq_getElem iX] at hx;rcases List.mem_append.1 hx with h | h
   ·exact(m2 x).2 (.inl (hm x h hp))
   ·have e:x=st[j]:=by simpa using h
    exact(m2 x).2 (.inr ⟨e,by rw[← e];exact hp⟩)
 ·rintro j a' s' hj ⟨oa,on,oc,l,r0,r1,r2,r7,r8,hb,hz,hm,hk⟩ aV w1;have w:IntKind.i64.wrap ((j:Int)+1)=((j+1:Nat):Int):=by rw[aU (by omega) (by omega)];rfl
  simp only[cP,seval,r8,w];refine w1 _ _ ⟨oa,on,oc,l,?_,?_,?_,?_,?_,hb,hz,hm,hk⟩
  all_goals try simp only[cP,seval,r0,r1,r2,r7]
 ·rintro a' s' ⟨oa,on,oc,l,r0,r1,r2,r7,r8,hb,hz,hm,hk⟩;refine xS _ _ (aI _ _ ?_);rw[← hsl,List.take_length] at hm;refine aA fun cU aZ cK=>?_;refine aA fun dN bO cZ=>?_;simp only[cP,seval];refine bO _ _ ?_;refine cJ fun fE cG xU dX=>?_;refine Lk (fun k a' s'=>∃ (nn:Int) (oa:Option Addr) (oc:Nat) (l:List Int),k=2*(2048-l.length)+(if nn=(l.length:Int) then 0 else 1)∧(nn=(l.length:Int)→TG P l)∧a'.aB 0=ptr g∧a'.aB 2=.bool true∧a'.aB 7=.slice oa l.length oc∧a'.aB 9=int nn∧bJ s' 3 1 (.slice oa l.length oc) (l.map int)∧Rz P st l∧(∀ x∈st,P.has x=true→x∈l)∧aC [] s s')
   (fun k a' s'=>∃ (oa:Option Addr) (oc:Nat) (l:List Int),k=2*(2048-l.length)+1∧a'.aB 0=ptr g∧a'.aB 2=.bool true∧a'.aB 7=.slice oa l.length oc∧bJ s' 3 1 (.slice oa l.length oc) (l.map int)∧Rz P st l∧(∀ x∈st,P.has x=true→x∈l)∧aC [] s s')
   (fun a' s'=>∃ (oa:Option Addr) (oc:Nat) (l:List Int),TG P l∧a'.aB 7=.slice oa l.length oc∧bJ s' 3 1 (.slice oa l.length oc) (l.map int)∧Rz P st l∧(∀ x∈st,P.has x=true→x∈l)∧aC [] s s') ?_ ?_ ?_ (k0:=2*(2048-l.length)+1) ?_
  ·rintro k a' s' ⟨nn,oa,oc,l,rfl,rP,r0,r2,r7,r9,hb,hz,hm,hk⟩ aV bP;by_cases WQ:nn=(l.length:Int)
   ·have e:(nn==(l.length:Int))=true:=by simpa using WQ
    simp only[cP,seval,r7,r9,e];refine bP _ _ false ?_ (fun h=>by cases h) (fun _=>⟨oa,oc,l,rP WQ,?_,hb,hz,hm,hk⟩)
    ·simp only[cP,seval]
    ·simp only[cP,seval,r7]
   ·have e:(nn==(l.length:Int))=false:=by simpa using WQ
    simp only[cP,seval,r7,r9,e];refine bP _ _ true ?_ (fun _=>⟨oa,oc,l,by rw[if_neg WQ],?_,?_,?_,hb,hz,hm,hk⟩) (fun h=>by cases h)
    ·simp only[cP,seval]
    ·simp only[cP,seval,r0]
    ·simp only[cP,seval,r2]
    ·simp only[cP,seval,r7]
  ·rintro k a' s' ⟨oa,oc,l,rfl,r0,r2,r7,hb,hz,hm,hk⟩ aV w1 w2 w3;have hlen:=hz.len;refine aA fun gV cT gA=>?_;simp only[cP,seval,r7];refine cT _ _ ?_;refine aA fun jC dK iK=>?_;simp only[cP,seval,r7];refine aH ?_ (Mv hk.ok hb.sl (by omega) fun wa wc s2 b2 k2 hn2=>?_)
   ·simp only[cP,seval]
   try simp only[cP,seval]
   refine dK _ _ ?_;have hk2:=hk.trans k2;refine aA fun lO eG kY=>?_;simp only[cP,seval];refine eG _ _ ?_;refine cJ fun rE jI BO pS=>?_;refine gB (n:=l.length) (fun i a' s'=>∃ oa on oc o,a'.aB 0=ptr g∧a'.aB 2=.bool true∧a'.aB 7=.slice oa on oc∧a'.aB 9=int l.length∧a'.aB 10=.slice wa l.length wc∧a'.aB 11=int i∧bJ s' 3 1 (.slice oa on oc) (o.map int)∧Rz P st o∧(∀ x∈l,x∈o)∧(∀ x∈l.take i,∀ y∈P.lS x,P.has y=true→y∈o)∧(∀ x∈l.take i,(P.aM x).k=2→P.ref x 0∈l→P.has (P.ref x 1)=true→P.ref x 1∈o)∧aC [] s2 s')
    (fun i a' s'=>∃ oa on oc o,a'.aB 0=ptr g∧a'.aB 2=.bool true∧a'.aB 7=.slice oa on oc∧a'.aB 9=int l.length∧a'.aB 10=.slice wa l.length wc∧a'.aB 11=int i∧bJ s' 3 1 (.slice oa on oc) (o.map int)∧Rz P st o∧(∀ x∈l,x∈o)∧(∀ x∈l.take (i+1),∀ y∈P.lS x,P.has y=true→y∈o)∧(∀ x∈l.take (i+1),(P.aM x).k=2→P.ref x 0∈l→P.has (P.ref x 1)=true→P.ref x 1∈o)∧aC [] s2 s') ?_ ?_ ?_ ?_ (Nat.zero_le _) ?_
   ·rintro i a' s' hi ⟨oa,on,oc,o,r0,r2,r7,r9,cH,eZ,hb,hz,hlo,jH,DX,hk3⟩ aV bP;simp only[cP,seval,cH,eZ];refine bP _ _ (decide ((i:Int)<l.length)) ?_ (by simp) ⟨oa,on,oc,o,?_,?_,?_,?_,?_,?_,hb,hz,hlo,jH,DX,hk3⟩
    all_goals simp only[cP,seval,r0,r2,r7,r9,cH,eZ]
   ·rintro i a' s' hi ⟨oa,on,oc,o,r0,r2,r7,r9,cH,eZ,hb,hz,hlo,jH,DX,hk3⟩ aV v1 v2 v3;obtain⟨vb,dW,rfl⟩:=b2.sl.addr (show 0<l.length by omega);obtain⟨x,hx⟩:∃ x,x=l[i]:=⟨_,rfl⟩;have XB:x∈l:=by rw[hx];exact List.getElem_mem _
    have mu:=hz.xW x (hlo x XB);have XA:=mu.has;have lj:aG s'.look ⟨vb,dW+i,none⟩=some (int x):=by rw[hx];exact Ints.get (Sl.aD b2.sl hk3 (by simp)) (List.getElem?_eq_getElem hi)
    have g1:(0:Int)≤(i:Int):=Int.natCast_nonneg _;have g2:(i:Int)<((l.length:Nat):Int):=by omega
    have hks:=hk2.trans hk3;have ks:aC [] s' (s'.skip 28):=aC.skip hk3.ok _;have Hk:=H.aJ (hks.trans ks);have qJ:l.take (i+1)=l.take i++[x]:=by rw[List.take_add_one,List.getElem?_eq_getElem hi,← hx];rfl
    obtain⟨ba,bc,va,vc,c1,c2,c3⟩:=Hk.c;have l1:aG s'.look ⟨g,1,none⟩=some (.slice va L.length vc):=by
     obtain⟨ba',bc',FL,FM,tJ,_⟩:=(H.aJ hks).c;have e:=(tJ.aD ks (by simp)).uniq c1;simp only[List.cons.injEq,Value.slice.injEq] at e;obtain⟨_,⟨rfl,_,rfl⟩,_⟩:=e;exact tJ.load rfl
    refine aA fun sF iY rQ=>?_;refine dG [(3,9)] [g] [] (by kernel_rfl) (by kernel_rfl) (by rfl) fun O hO bC hR=>?_;simp only[cP,seval,r0,cH,eZ,l1,g1,g2,and_self,bQ,Int.toNat_natCast,Nat.mul_one,lj];refine dL ?_ (Mq Hk x (fun ii N4 he=>?_) (fun hno=>?_))
    ·simp only[cP,seval]
    rotate_left
    ·obtain⟨o',ho',e⟩:=Hk.mem.2 XA;exact absurd e (hno o' ho')
    simp only[cP,seval];refine⟨eP (c1.same ks.ok (.refl ks.ok) (F:=[]) (by simp)) fO,?_⟩;obtain⟨ob,ZL,pQ⟩:=c3.addr (show 0<L.length by omega);subst pQ;have g3:(0:Int)≤(ii:Int):=Int.natCast_nonneg _;have g4:(ii:Int)<((L.length:Nat):Int):=by omega
    obtain⟨x0,hx0⟩:∃ x0,x0=L[ii]:=⟨_,rfl⟩;have Gb:x0∈L:=by rw[hx0];exact List.getElem_mem _
    have mr:x0.1=x:=by rw[hx0];exact he
    obtain⟨⟨ra,rc,WV⟩,hr2,⟨da,dc,hd1⟩,_⟩:=Hk.cr x0 Gb;rw[mr] at WV hd1 hr2;rw[WV] at hr2;have hrd:P.MR x0=[int x,int (P.w x.toNat),int (P.aM x).r,int (P.aM x).d,int (P.aM x).k,.slice ra (P.bZ x) rc,.slice da (P.jO x) dc,.bool (P.pinned x)]:=by
     unfold PH.MR;rw[WV,hd1,mr]
    have lo:bI s'.look ⟨ob,ZL+ii*8,none⟩ 8=some [int x,int (P.w x.toNat),int (P.aM x).r,int (P.aM x).d,int (P.aM x).k,.slice ra (P.bZ x) rc,.slice da (P.jO x) dc,.bool (P.pinned x)]:=by
     have:=c3.bI (i:=ii*8) (k:=8) (by omega) (by rw[vO P.ry];omega);rw[Cc P.ry _ N4,← hx0,hrd] at this;exact this
    have hxr:=PH.Px G x;have PU:((P.bZ x:Nat):Int)=(P.aM x).r:=by unfold PH.bZ;omega
    obtain⟨px,mF⟩:∃ px,px=s'.next+24:=⟨_,rfl⟩;have GK:(s'.skip 28).heap.get px=none:=by rw[mF];exact hk3.ok.fresh _ (by omega)
    obtain⟨T1,E1,K1,C1,N1⟩:∃ T1,(s'.skip 28).put px (fun v=>bW.cells (PT.ofList [int 0,int 0,int 0,int 0,int 0,.slice none 0 0,.slice none 0 0,.bool false]) [] 8 133 false false v)=T1∧aC [] s' T1∧Obj T1 px [int 0,int 0,int 0,int 0,int 0,.slice none 0 0,.slice none 0 0,.bool false]∧T1.next=s'.next+28 :=
     ⟨_,rfl,ks.jT GK (by rw[mF];show s'.next+24<s'.next+28;omega) (by omega) (Nat.le_refl _),Obj.kC rfl,rfl⟩
    obtain⟨T2,h2,C2,U2⟩:=C1.storeAll K1.ok (vs:=[int x,int (P.w x.toNat),int (P.aM x).r,int (P.aM x).d,int (P.aM x).k,.slice ra (P.bZ x) rc,.slice da (P.jO x) dc,.bool (P.pinned x)]) rfl rfl;have K2:aC [] s' T2:=K1.step U2 fun y hy=>.inr (hk3.ok.fresh y (by rw[List.mem_singleton.1 hy];omega));simp only[cP,seval,g3,g4,and_self,bQ,Int.toNat_natCast,lo,← mF,E1,h2];refine hR _ _ (iY _ _ ?_);have lx:∀ {S:St},aC [] T2 S→aG S.look ⟨px,5,none⟩=some (.slice ra (P.bZ x) rc)∧aG S.look ⟨px,4,none⟩=some (int (P.aM x).k)∧bI S.look ⟨px,2,none⟩ 3=some [int (P.aM x).r,int (P.aM x).d,int (P.aM x).k]:=fun k=>by
     have C:=C2.aD k (by simp);exact⟨C.load rfl,C.load rfl,C.bI (i:=2) (k:=3) (by simp)⟩
    have Hi:aC [] s T2:=hks.trans K2;have Nb:Sl T2 1 (.slice ra (P.bZ x) rc) ((P.refs x).map int):=by
     have h:=((H.aJ hks).cr x0 Gb).r2;rw[mr,WV] at h;exact h.aD K2 (by simp)
    have qe:∀ {S:St},aC [] T2 S→∀ k,k<P.bZ x→∃ rb ro,ra=some ⟨rb,ro,none⟩∧aG S.look ⟨rb,ro+k,none⟩=some (int (P.ref x k)):=fun hS k hk=>by
     obtain⟨rb,ro,rfl⟩:=Nb.addr (show 0<P.bZ x by omega);refine⟨rb,ro,rfl,Ints.get (Sl.aD Nb hS (by simp)) ?_⟩;unfold PH.refs;rw[List.getElem?_map,List.getElem?_range hk];rfl
    have aIb:∀ k:Nat,i64 (P.ref x k)→True:=fun _ _=>trivial;refine aA fun wV lU vU=>?_;refine aA fun DB tN tO=>?_;simp only[cP,seval];refine tN _ _ ?_;refine cJ fun DC pE X2 ED=>?_;refine gB (n:=P.bZ x) (fun k a' s'=>∃ oa on oc o',a'.aB 0=ptr g∧a'.aB 2=.bool true∧a'.aB 7=.slice oa on oc∧a'.aB 9=int l.length∧a'.aB 10=.slice (some ⟨vb,dW,none⟩) l.length wc∧a'.aB 11=int i∧a'.aB 12=ptr px∧a'.aB 13=int k∧bJ s' 3 1 (.slice oa on oc) (o'.map int)∧Rz P st o'∧(∀ x∈o,x∈o')∧(∀ j,j<k→PH.soft (P.aM x).k j=false→P.has (P.ref x j)=true→P.ref x j∈o')∧aC [] T2 s')
     (fun k a' s'=>∃ oa on oc o',a'.aB 0=ptr g∧a'.aB 2=.bool true∧a'.aB 7=.slice oa on oc∧a'.aB 9=int l.length∧a'.aB 10=.slice (some ⟨vb,dW,none⟩) l.length wc∧a'.aB 11=int i∧a'.aB 12=ptr px∧a'.aB 13=int k∧bJ s' 3 1 (.slice oa on oc) (o'.map int)∧Rz P st o'∧(∀ x∈o,x∈o')∧(∀ j,j<k+1→PH.soft (P.aM x).k j=false→P.has (P.ref x j)=true→P.ref x j∈o')∧aC [] T2 s') ?_ ?_ ?_ ?_ (Nat.zero_le _) ?_
    ·rintro k a' s'' hk ⟨oa,on,oc,o',r0,r2,r7,r9,cH,eZ,qQ,fX,hb,hz,hoo,hj,pD⟩ aV bP;simp only[cP,seval,qQ,fX,(lx pD).1];refine bP _ _ (decide ((k:Int)<P.bZ x)) ?_ (by simp) ⟨oa,on,oc,o',?_,?_,?_,?_,?_,?_,?_,?_,hb,hz,hoo,hj,pD⟩
     all_goals simp only[cP,seval,r0,r2,r7,r9,cH,eZ,qQ,fX]
    ·rintro k a' s'' hk ⟨oa,on,oc,o',r0,r2,r7,r9,cH,eZ,qQ,fX,hb,hz,hoo,hj,pD⟩ aV u1 u2 u3;have HI:o'.length=on:=Ints.len hb.sl;have ko:=hz.len;refine aA fun NU tP LN=>?_;simp only[cP,seval,qQ,fX,(lx pD).2.2];refine aH ?_ (Mx pD.ok (P.aM x).r (P.aM x).d (P.aM x).k k fun s3 k3=>?_)
     ·simp only[cP,seval]
     try simp only[cP,seval]
     refine tP _ _ ?_;have kB:=pD.trans k3;cases WW:PH.soft (P.aM x).k k with
     | true =>
      simp only[cP,seval];refine u1 _ _ ⟨oa,on,oc,o',?_,?_,?_,?_,?_,?_,?_,?_,hb.aD k3 (by simp),hz,hoo,fun j WI h1 h2=>?_,kB⟩
      ·simp only[cP,seval,r0]
      ·simp only[cP,seval,r2]
      ·simp only[cP,seval,r7]
      ·simp only[cP,seval,r9]
      ·simp only[cP,seval,cH]
      ·simp only[cP,seval,eZ]
      ·simp only[cP,seval,qQ]
      ·simp only[cP,seval,fX]
      ·by_cases e:j=k
       ·subst e;rw[WW] at h1;cases h1
       ·exact hj j (by omega) h1 h2
     | false =>
      obtain⟨rb,ro,hra,lv⟩:=qe kB k hk;have g5:(0:Int)≤(k:Int):=Int.natCast_nonneg _;have g6:(k:Int)<((P.bZ x:Nat):Int):=by omega
      have l5:=(lx kB).1;rw[hra] at l5;simp only[cP,seval,r0,r7,qQ,fX,l5,g5,g6,and_self,bQ,Int.toNat_natCast,Nat.mul_one,lv];refine aH ?_ (se kB.ok (H.aJ (Hi.trans kB)) (hb.aD k3 (by simp)) (by omega) (P.ref x k) hz.up fun a2 n2 c2 o2 s4 b4 m4 p4 k4=>?_)
      ·simp only[cP,seval]
      simp only[cP,seval];have kl:P.has (P.ref x k)=true→iI P st (P.ref x k):=fun h=>.lS mu (P.qk.2 ⟨k,hk,WW,rfl⟩) h;refine u1 _ _ ⟨a2,n2,c2,o2,?_,?_,?_,?_,?_,?_,?_,?_,b4,hz.add m4 p4 kl,fun y hy=>(m4 y).2 (.inl (hoo y hy)),fun j WI h1 h2=>?_,kB.trans k4⟩
      ·simp only[cP,seval,r0]
      ·simp only[cP,seval,r2]
      ·simp only[cP,seval]
      ·simp only[cP,seval,r9]
      ·simp only[cP,seval,cH]
      ·simp only[cP,seval,eZ]
      ·simp only[cP,seval,qQ]
      ·simp only[cP,seval,fX]
      ·by_cases e:j=k
       ·subst e;exact(m4 _).2 (.inr ⟨rfl,h2⟩)
       ·exact(m4 _).2 (.inl (hj j (by omega) h1 h2))
    ·rintro k a' s'' hk ⟨oa,on,oc,o',r0,r2,r7,r9,cH,eZ,qQ,fX,hb,hz,hoo,hj,pD⟩ aV u1;have w:IntKind.i64.wrap ((k:Int)+1)=((k+1:Nat):Int):=by rw[aU (by omega) (by omega)];rfl
     simp only[cP,seval,fX,w];refine u1 _ _ ⟨oa,on,oc,o',?_,?_,?_,?_,?_,?_,?_,?_,hb,hz,hoo,hj,pD⟩
     all_goals try simp only[cP,seval,r0,r2,r7,r9,cH,eZ,qQ]
    ·rintro a' s'' ⟨oa,on,oc,o',r0,r2,r7,r9,cH,eZ,qQ,fX,hb,hz,hoo,hj,pD⟩;refine X2 _ _ (lU _ _ ?_);have HI:o'.length=on:=Ints.len hb.sl;have ko:=hz.len;have jz:∀ x'∈l.take (i+1),∀ y∈P.lS x',P.has y=true→y∈o':=fun x' hx' y hy hp=>by
      rw[qJ] at hx';rcases List.mem_append.1 hx' with h | h
      ·exact hoo y (jH x' h y hy hp)
      ·rw[List.mem_singleton.1 h] at hy;obtain⟨j,WJ,O5,rfl⟩:=P.qk.1 hy;exact hj j WJ O5 hp
     have key:∀ o2:List Int,(∀ y∈o',y∈o2)→((P.aM x).k=2→P.ref x 0∈l→P.has (P.ref x 1)=true→P.ref x 1∈o2)→∀ x'∈l.take (i+1),(P.aM x').k=2→P.ref x' 0∈l→P.has (P.ref x' 1)=true→P.ref x' 1∈o2:=fun o2 h1 h2 x' hx'=>by
      rw[qJ] at hx';rcases List.mem_append.1 hx' with h | h
      ·exact fun q1 q2 q3=>h1 _ (hoo _ (DX x' h q1 q2 q3))
      ·rw[List.mem_singleton.1 h];exact h2
     refine aA fun TB sR QB=>?_;refine cL [(1,74),(7,80)] (by kernel_rfl) fun O hO bC hR=>?_;have y1:∀ a,aO O a 1=aY (a.aB 74):=hO (1,74) (by simp);have y7:∀ a,aO O a 7=aY (a.aB 80):=hO (7,80) (by simp);by_cases HA:(P.aM x).k=2
     ·have aI8:2≤P.bZ x:=by
       have h1:(P.shape x).k=2:=by unfold PH.aM at HA;rw[if_pos XA] at HA;exact HA
       have h2:=(cO.nX.1 (G.val x XA).1).2.2.2.2.2.2.2 h1;have h3:(P.aM x).r=(P.shape x).r:=by unfold PH.aM;rw[if_pos XA]
       omega
      obtain⟨rb,ro,hra,qh⟩:=qe pD 0 (by omega);have l5:=(lx pD).1;rw[hra] at l5;replace qh:aG s''.look ⟨rb,ro+0,none⟩=some (int (P.ref x 0)):=qh;have z0:(0:Int)≤0:=by omega
      have z1:(0:Int)<((P.bZ x:Nat):Int):=by omega
      have ek:((P.aM x).k==2)=true:=by simpa using HA
      simp only[cP,seval,y1,y7,r2,r7,qQ,(lx pD).2.1,ek,l5,z0,z1,and_self,bQ,show Int.toNat 0=0 from rfl,Nat.zero_mul,qh];refine aH ?_ (aEf hb.sl (by omega) (P.ref x 0) ?_)
      ·simp only[cP,seval]
      by_cases h0:P.ref x 0∈o'
      ·rw[decide_eq_true h0];simp only[cP,seval];refine hR _ _ (sR _ _ ?_);obtain⟨rb',ro',Fq,IA⟩:=qe pD 1 (by omega);rw[hra] at Fq;cases Fq;replace IA:aG s''.look ⟨rb,ro+1,none⟩=some (int (P.ref x 1)):=IA;have z2:(0:Int)≤1:=by omega
       have z3:(1:Int)<((P.bZ x:Nat):Int):=by omega
       simp only[cP,seval,r0,r7,qQ,l5,z2,z3,and_self,bQ,show Int.toNat 1=1 from rfl,Nat.one_mul,IA];refine aH ?_ (se pD.ok (H.aJ (Hi.trans pD)) hb (by omega) (P.ref x 1) hz.up fun a2 n2 c2 o2 s4 b4 m4 p4 k4=>?_)
       ·simp only[cP,seval]
       simp only[cP,seval];have kl:P.has (P.ref x 1)=true→iI P st (P.ref x 1):=fun h=>.zM mu HA (hz.xW _ h0) h;refine v1 _ _ ⟨a2,n2,c2,o2,?_,?_,?_,?_,?_,?_,b4,hz.add m4 p4 kl,fun y hy=>(m4 y).2 (.inl (hoo y (hlo y hy))),fun x' hx' y hy hp=>(m4 y).2 (.inl (jz x' hx' y hy hp)),key o2 (fun y hy=>(m4 y).2 (.inl hy)) fun _ _ h=>(m4 _).2 (.inr ⟨rfl,h⟩),hk3.trans ((K2.trans pD).trans k4)⟩
       ·simp only[cP,seval,r0]
       ·simp only[cP,seval,r2]
       ·simp only[cP,seval]
       ·simp only[cP,seval,r9]
       ·simp only[cP,seval,cH]
       ·simp only[cP,seval,eZ]
      ·rw[decide_eq_false h0];simp only[cP,seval];refine hR _ _ (sR _ _ ?_);simp only[cP,seval];refine v1 _ _ ⟨oa,on,oc,o',?_,?_,?_,?_,?_,?_,hb,hz,fun y hy=>hoo y (hlo y hy),jz,key o' (fun _ h=>h) fun _ h _=>absurd (hoo _ (hlo _ h)) h0,hk3.trans (K2.trans pD)⟩
       all_goals simp only[cP,seval,r0,r2,r7,r9,cH,eZ]
     ·have ek:((P.aM x).k==2)=false:=by simpa using HA
      simp only[cP,seval,y1,y7,r2,qQ,(lx pD).2.1,ek];refine hR _ _ (sR _ _ ?_);simp only[cP,seval];refine v1 _ _ ⟨oa,on,oc,o',?_,?_,?_,?_,?_,?_,hb,hz,fun y hy=>hoo y (hlo y hy),jz,key o' (fun _ h=>h) fun h=>absurd h HA,hk3.trans (K2.trans pD)⟩
      all_goals simp only[cP,seval,r0,r2,r7,r9,cH,eZ]
    ·refine⟨oa,on,oc,o,?_,?_,?_,?_,?_,?_,?_,?_,hb.aD K2 (by simp),hz,fun _ h=>h,fun j h=>absurd h (Nat.not_lt_zero _),.refl K2.ok⟩
     all_goals try simp only[cP,seval,r0,r2,r7,r9,cH,eZ]
     all_goals rfl
   ·rintro i a' s' hi ⟨oa,on,oc,o,r0,r2,r7,r9,cH,eZ,hb,hz,hlo,jH,DX,hk3⟩ aV v1;have w:IntKind.i64.wrap ((i:Int)+1)=((i+1:Nat):Int):=by rw[aU (by omega) (by omega)];rfl
    simp only[cP,seval,eZ,w];refine v1 _ _ ⟨oa,on,oc,o,?_,?_,?_,?_,?_,?_,hb,hz,hlo,jH,DX,hk3⟩
    all_goals try simp only[cP,seval,r0,r2,r7,r9,cH]
   ·rintro a' s' ⟨oa,on,oc,o,r0,r2,r7,r9,cH,eZ,hb,hz',hlo,jH,DX,hk3⟩;refine BO _ _ ?_;rw[List.take_length] at jH DX;have HI:o.length=on:=Ints.len hb.sl;subst HI;obtain⟨q1,q2⟩:=aF3 hz.up hz'.up hlo;have ko:=hz'.len;refine w1 _ _ (2*(2048-o.length)+(if (l.length:Int)=(o.length:Int) then 0 else 1)) ?_ ⟨l.length,oa,oc,o,rfl,fun e=>?_,r0,r2,r7,r9,hb,hz',fun x hx hp=>hlo x (hm x hx hp),hk2.trans hk3⟩
    ·split <;> omega
    ·have e:=q2 (by omega);subst e;exact⟨jH,DX⟩
   ·refine⟨oa,l.length,oc,l,?_,?_,?_,?_,?_,?_,hb.aD k2 (by simp),hz,fun _ h=>h,fun x hx=>by simp at hx,fun x hx=>by simp at hx,.refl k2.ok⟩
    all_goals try simp only[cP,seval,r0,r2,r7]
    all_goals rfl
  ·rintro a' s' ⟨oa,oc,l,rP,r7,hb,hz,hm,hk⟩;refine xU _ _ (aZ _ _ ?_);simp only[cP,seval,r7];exact hΦ _ _ _ l s' hb hz.up (fun x=>⟨hz.xW x,rP.xW hm⟩) hk
  ·have HI:l.length=on:=Ints.len hb.sl;have hl2:=hz.len;refine⟨-1,oa,oc,l,?_,fun h=>by omega,?_,?_,?_,?_,by rw[HI];exact hb,hz,hm,hk⟩
   ·rw[if_neg (by omega)]
   all_goals try simp only[cP,seval,r0,r2,r7,HI]
   all_goals rfl
 ·refine⟨some ⟨s.next,0,none⟩,0,0,[],?_,?_,?_,?_,?_,B1,⟨.nil,fun x hx=>by cases hx⟩,fun x hx=>by simp at hx,k1⟩
  all_goals try simp only[cP,seval]
  all_goals rfl
end
open Go.Proofs
set_option maxRecDepth 100000
set_option maxHeartbeats 8000000
theorem aAb {P:PH} {R R':PR} (h:∀ x,R'.yS x↔R.yS x) {x:Int}:iI P (R'.all.map R'.get) x↔iI P (R.all.map R.get) x :=
 ⟨.mono fun y hy _=>PR.YI.2 ((h y).1 (PR.YI.1 hy)),.mono fun y hy _=>PR.YI.2 ((h y).2 (PR.YI.1 hy))⟩
theorem aAc {P:PH} {R:PR} {x:Int}:iI P R.leads x↔iI P (R.all.map R.get) x:=⟨.mono fun y hy _=>YJ.1 hy,.mono fun y hy _=>YJ.2 hy⟩
section
variable {kc:Kc} {q:Bool} {s:St} {Φ:Value→St→Prop} {x h r:Nat} {g t:Value} {P:PH} {R:PR}
theorem yE:type_of% (B5 @RX @vN @pX @DQ @AK):=B5 @RX @vN @pX @DQ @AK
theorem aAh (hs:Ok s) (C:Obj s x [ptr h,ptr r,g,t]) (H:bK s h P) (G:P.bX) (A:cV s r R) (hv:∀ p∈R.all,0≤R.get p)
  (hΦ:∀ a c (l:List Int) s',bJ s' 3 1 (.slice a l.length c) (l.map int)→l.Pairwise (·<·)→(∀ x,x∈l↔iI P (R.all.map R.get) x)→aC [] s s'→Φ (.slice a l.length c) s'):okF q X (KO kc) 37 [ptr x] s Φ:=by
 refine aW Tryz.func37 (by kernel_rfl) rfl rfl (rs:=[.tmp 2]) rfl (N:=15) rfl rfl ?_;refine aA fun bF aF bD=>?_;simp only[yE,seval];refine aF _ _ ?_;have ks:aC [] s (s.skip 26):=aC.skip hs _;have l0:aG s.look ⟨x,0,none⟩=some (ptr h):=C.load rfl;refine aA fun Ψ1 aE aL=>?_;refine dG [(8,4)] [x] [] (by kernel_rfl) (by kernel_rfl) (by rfl) fun O hO bC hR=>?_;simp only[yE,seval,l0];refine dL ?_ (aAl ks.ok (H.aJ ks) G fun g' L s1 H1 k1 _=>?_)
 ·simp only[yE,seval]
 have l1:aG s1.look ⟨x,1,none⟩=some (ptr r):=((C.aD ks (by simp)).aD k1 (by simp)).load rfl;simp only[yE,seval,l1];refine⟨eP ((C.aD ks (by simp)).same ks.ok k1 (by simp)) fO,?_⟩;refine dL ?_ (aAm k1.ok (A.aJ (ks.trans k1)) hv fun t' Q R' s2 T2 hS _ k2=>?_)
 ·simp only[yE,seval]
 try simp only[yE,seval]
 refine dL ?_ (aFi k2.ok T2 fun a3 c3 s3 b3 k3 _=>?_)
 ·simp only[yE,seval]
 try simp only[yE,seval]
 have hl:R'.leads.length≤192:=Nat.le_trans (R'.XY R'.all) (R'.uI T2.m4 T2.ql);refine dL ?_ (aEm k3.ok (H1.aJ (k2.trans k3)) G b3.sl (by omega) fun a4 n4 c4 l s4 b4 p4 m4 k4=>?_)
 ·simp only[yE,seval]
 obtain rfl:l.length=n4:=Ints.len b4.sl
 try simp only[yE,seval]
 refine hR _ _ (aE _ _ ?_);simp only[yE,seval];exact hΦ a4 c4 l s4 b4 p4 (fun x=>(m4 x).trans (aAc.trans (aAb hS.lead))) ((((ks.trans k1).trans k2).trans k3).trans k4)
end
open Go.Proofs
set_option maxRecDepth 100000
set_option maxHeartbeats 8000000
theorem born_inj {es:List MapEntry} (hn:(es.map fun e=>e.born).Nodup) {e e':MapEntry} (he:e∈es) (he':e'∈es) (hb:e'.born=e.born):e'=e:=by
 induction es with
 | nil=>cases he
 | cons x es ih =>
  rw[List.map_cons,List.nodup_cons] at hn;rcases List.mem_cons.1 he with rfl | h1
  ·rcases List.mem_cons.1 he' with rfl | h2
   ·try rfl
   ·exact absurd (List.mem_map.2 ⟨e',h2,hb⟩) hn.1
  ·rcases List.mem_cons.1 he' with rfl | h2
   ·exact absurd (List.mem_map.2 ⟨e,h1,hb.symm⟩) hn.1
   ·exact ih hn.2 h1 h2
def PR.gt (R:PR) (p:eJ):Int:=if R.has p=true then R.get p else 0
def wI (P P':PH) (R R':PR) (i:Nat):List dC:=match R.all[i]? with
 | none=>[]
 | some p=>if P.fW (R.get p)≠0∧P'.fW (R'.gt p)≠P.fW (R.get p) then [(3,P.fW (R.get p),(i:Int))] else []
def qU (P P':PH) (R R':PR) (n:Nat):List dC:=(List.range n).flatMap (wI P P' R R')
theorem No (P P':PH) (R R':PR) (n:Nat):qU P P' R R' (n+1)=qU P P' R R' n++wI P P' R R' n:=by
 unfold qU;rw[List.range_succ,List.flatMap_append,List.flatMap_singleton]
theorem sn (P P':PH) (R R':PR) (n:Nat):(qU P P' R R' n).length≤n:=by
 induction n with
 | zero=>exact Nat.le_refl _
 | succ n ih =>
  have h1:(wI P P' R R' n).length≤1:=by
   unfold wI;split
   ·exact Nat.zero_le _
   ·split <;> simp
  rw[No,List.length_append];omega
def qL (P P':PH) (R R':PR):List dC:=(P.rounds R.leads).1.flatMap (PH.jS P P' (P.rounds R.leads).1)++qU P P' R R' R.all.length
theorem aCc {P P':PH} (G:P.bX) (K:List Int) {a:Int} (hh:P.has a=true):(PH.jS P P' K a).length≤215:=by
 obtain⟨g0,g15⟩:=PH.FA G a;have hd:(P.aM a).d≤200:=by
  unfold PH.aM;rw[if_pos hh];have:=cO.nX.1 (G.val a hh).1;omega
 unfold PH.jS;split
 ·simp
 ·rename_i b _;split
  ·rw[List.length_append];have h1:=PH.Mt P P' K a b (P.bZ a);have h2:=PH.Ah P P' a b (P.jO a);have h3:P.bZ a≤15:=by unfold PH.bZ;omega
   have h4:P.jO a≤200:=by unfold PH.jO;omega
   omega
  ·simp
theorem qt {P P':PH} (G:P.bX) (K:List Int):∀ l:List Int,(∀ a∈l,P.has a=true)→(l.flatMap (PH.jS P P' K)).length≤215*l.length
 | [],_=>Nat.le_refl _
 | a::l,h=>by
  rw[List.flatMap_cons,List.length_append,List.length_cons];have h1:=aCc (P':=P') G K (h a List.mem_cons_self);have h2:=qt (P':=P') G K l fun x hx=>h x (List.mem_cons_of_mem _ hx);omega
theorem jn {P:PH} (VO:P.N≤64) {l:List Int} (hn:l.Nodup) (hl:∀ a∈l,P.has a=true):l.length≤2048:=by
 have h:=hn.length_le_of_subset (l₂:=(List.range 2048).map fun i:Nat=>2*(i:Int)) fun a ha=>by
  obtain⟨j,rfl,hj⟩:=Dr (hl a ha);exact List.mem_map.2 ⟨j,List.mem_range.2 (by omega),rfl⟩
 simpa using h
def Ord (es:List MapEntry) (seen:List Nat) (l:List Int):Prop:=l.Nodup∧∀ a,a∈l↔∃ e∈es,e.key=int a∧e.born∈seen
section
variable {kc:Kc} {s:St} {Φ:Value→St→Prop} {h r h' r':Nat} {P P':PH} {R R':PR}
theorem dJ:type_of% (B9 @RX @xj @UX @bh @EK @wB @vW @kL (B4 @tG @tY @UY @EJ)):=B9 @RX @xj @UX @bh @EK @wB @vW @kL (B4 @tG @tY @UY @EJ)
theorem aH5 (hs:Ok s) (H:bK s h P) (A:cV s r R) (H':bK s h' P') (A':cV s r' R') (G:P.bX) (G':P'.bX) (hM:∀ i b,P'.M.lookup i=some b→i64 b)
  (hΦ:∀ L va c s',L=jP (qL P P' R R')→bJ s' 51 3 (.slice va L.length c) (L.flatMap cE)→(L=[]→va=none∧c=0)→(∀ y∈nameOf (.slice va L.length c),s.next≤y)→aC [] s s'→Φ (.tuple #[.slice va L.length c,int 0]) s'):okF true X (KO Kt) 11 [ptr h,ptr r,ptr h',ptr r'] s Φ:=by
 have n2:=H.n2;have Jx:=H'.n2;have bY:=H.bY;have hm1:=A.m1;have aI0:=A'.m1;have hN:¬ (P.N:Int)≤0:=by omega
 have jd:¬ (P'.N:Int)≤0:=by omega
 have D4:((R.m:Int)==0)=false:=by rw[beq_eq_false_iff_ne];omega
 have D5:((R'.m:Int)==0)=false:=by rw[beq_eq_false_iff_ne];omega
 refine aW Tryz.func11 (by kernel_rfl) rfl rfl (rs:=[.tmp 8,.tmp 9]) rfl (N:=107) rfl rfl ?_;refine aA fun bF aF bD=>?_;simp only[dJ,seval];refine aF _ _ ?_;refine aA fun Ψ1 aE aL=>?_;refine aA fun Ψ2 aI bH=>?_;refine cL [(3,22),(8,27),(13,32)] (by kernel_rfl) fun O hO bC hR=>?_;have y3:∀ a,aO O a 3=aY (a.aB 22):=hO (3,22) (by simp);have y8:∀ a,aO O a 8=aY (a.aB 27):=hO (8,27) (by simp);have iV:∀ a,aO O a 13=aY (a.aB 32):=hO (13,32) (by simp);simp only[dJ,seval];refine aH ?_ (GX H ?_)
 ·simp only[dJ,seval]
 simp only[dJ,seval,y3,hN,decide_false];refine aH ?_ (GX H' ?_)
 ·simp only[dJ,seval]
 simp only[dJ,seval,y3,y8,jd,decide_false];refine aH ?_ (ah A ?_)
 ·simp only[dJ,seval]
 simp only[dJ,seval,y8,iV,D4];refine aH ?_ (ah A' ?_)
 ·simp only[dJ,seval]
 try simp only[dJ,seval,iV,D5]
 refine hR _ _ (aI _ _ ?_);simp only[dJ,seval];refine aE _ _ ?_;refine aA fun Ψ3 aN bM=>?_;simp only[dJ,seval];obtain⟨s1,e1,k1,c1,n1⟩:=cI hs (L:=[ptr h,ptr h',.map none,.slice none 0 0]) (n:=4) (e:=123) rfl;rw[e1];refine aN _ _ ?_;have H1:=H.aJ k1;have A1:=A.aJ k1;refine aA fun Ψ4 aP cC=>?_;simp only[dJ,seval];refine aH ?_ (aF5 k1.ok A1 ?_)
 ·simp only[dJ,seval]
 rintro v s2 b2 ⟨va,vc,rfl⟩ k2 zY
 try simp only[dJ,seval]
 have dD:=k1.trans k2;have hal:=R.uI A.m4 A.ql;have hll:=R.XY R.all;refine aH ?_ (aDm k2.ok (H.aJ dD) G b2.sl (by show (R.nV R.all).length<100000;omega) (b2.lt k2.ok) (PR.aAs A) ?_)
 ·simp only[dJ,seval]
 rintro mb s3 M3 k3 P_;have c3:=(c1.aD k2 (by simp)).aD k3 (by simp);obtain⟨s4,h4,c4,k4⟩:=c3.fK k3.ok (i:=2) (v:=.map (some mb)) (by simp) rfl;have n12:=k2.next;simp only[dJ,seval,h4];refine aP _ _ ?_;have kK:aC [] s s4:=(dD.trans k3).step k4 fun g hg=>.inr (by rw[List.mem_singleton.1 hg];exact hs.fresh _ (Nat.le_refl _));have M4:=M3.aD k4 (by simp;omega);obtain⟨es,aR,bB,m1,m2,m3⟩:=M4;have c4:Obj s4 s.next [ptr h,ptr h',.map (some mb),.slice none 0 0]:=c4;have l2:aG s4.look ⟨s.next,2,none⟩=some (.map (some mb)):=c4.load rfl;have Q1:mapOf s4.look mb=some (es,aR):=by simp only[mapOf,St.look,m1]
 have Jw:=kK.next;have n24:s2.next≤s4.next:=Nat.le_trans k3.next k4.next;refine aA fun cU aZ cK=>?_;refine aA fun dN bO cZ=>?_;simp only[dJ,seval,l2];refine aD2 (mb:=mb) (es:=es) (aR:=aR) (k:=3) (v:=4) ?_ (by kernel_rfl) Q1 ?_
 ·simp only[dJ,seval]
 simp only[dJ,seval];obtain⟨it,kQ⟩:∃ it,it=s4.next:=⟨_,rfl⟩;obtain⟨pb,Fo⟩:∃ pb,pb=s.next:=⟨_,rfl⟩;obtain⟨s5,e5,k5,i5⟩:∃ s5,(s4.new fun v=>.hY (some mb) aR [] aR v)=s5∧aC [] s4 s5∧∃ v,s5.heap.get s4.next=some (.hY (some mb) aR [] aR v) :=
  ⟨_,rfl,(aC.refl kK.ok).new (.inr (Nat.le_refl _)),s4.aR,by simp only[St.new,PT.fH,if_true]⟩
 rw[e5];rw[← kQ] at i5;rw[← Fo] at c4;simp only[← kQ,← Fo];refine bO _ _ ?_;have jR:=kK.trans k5;have c5:=c4.aD k5 (by simp);have m5:=k5.dE _ _ m1 (by simp);have aI1:mb<s4.next:=Ok.lt kK.ok m1;have aI6:pb<s4.next:=c4.lt kK.ok;have n45:=k5.next;have aHy:it<s5.next:=Ok.lt jR.ok i5.choose_spec;have Q3:mb≠pb:=by omega
 have H5:=H.aJ jR;have Ut:=H'.aJ jR;have A5:=A.aJ jR;have Ur:=A'.aJ jR;obtain⟨K,hK⟩:∃ K,K=(P.rounds R.leads).1:=⟨_,rfl⟩;rw[← hK] at m2;have OY:K.Nodup:=by rw[hK];exact MU
 have VP:∀ a∈K,P.has a=true:=by rw[hK];exact P.CJ _
 have hKl:=jn bY OY VP;refine cJ fun fE cG xU dX=>?_;obtain⟨v5,i5⟩:=i5;have HK:∀ F S,aC F s5 S→(∀ y∈F,s.next≤y)→bK S h P∧bK S h' P'∧cV S r R∧cV S r' R':=fun F S k hF =>
  ⟨H5.aD k fun y hy hy'=>by have:=H.eM hs y hy;have:=hF y hy';omega,Ut.aD k fun y hy hy'=>by have:=H'.eM hs y hy;have:=hF y hy';omega,
   A5.aD k fun y hy hy'=>by have:=A.eM hs y hy;have:=hF y hy';omega,Ur.aD k fun y hy hy'=>by have:=A'.eM hs y hy;have:=hF y hy';omega⟩
 have hF2:∀ y∈[pb,it],s.next≤y:=fun y hy=>by
  rcases List.mem_cons.1 hy with h | h
  ·omega
  ·rw[List.mem_singleton.1 h];omega
 refine cR.loop (fun k a' s'=>∃ seen v' l va vc,k=QL es seen∧a'.aB 0=ptr h∧a'.aB 1=ptr r∧a'.aB 2=ptr h'∧a'.aB 3=ptr r'∧a'.aB 10=ptr pb∧a'.aB 55=ptr it∧s'.heap.get it=some (.hY (some mb) aR seen aR v')∧Ord es seen l∧(∀ a∈l,a∈K)∧Obj s' pb [ptr h,ptr h',.map (some mb),.slice va (l.flatMap (PH.jS P P' K)).length vc]∧bJ s' 51 3 (.slice va (l.flatMap (PH.jS P P' K)).length vc) ((l.flatMap (PH.jS P P' K)).flatMap cE)∧(∀ y∈nameOf (.slice va (l.flatMap (PH.jS P P' K)).length vc),s5.next≤y)∧(l.flatMap (PH.jS P P' K)=[]→va=none∧vc=0)∧aC [pb,it] s5 s') ?_ (QL es []) ?_
 ·rintro k a' s' ⟨seen,v',l,va,vc,rfl,r0,r1,r2,r3,cH,ru,hI,hO,WN,hc,hb,hn,mY,hk⟩;have z6:=qt (P':=P') G K l fun a ha=>VP a (WN a ha);have hll:=jn bY hO.1 fun a ha=>VP a (WN a ha);obtain⟨C,hC⟩:∃ C,C=l.flatMap (PH.jS P P' K):=⟨_,rfl⟩;rw[← hC] at hc hb hn z6 mY;have ms:=hk.dE _ _ m5 (by simp;omega);have Q5:mapOf s'.look mb=some (es,aR):=by simp only[mapOf,St.look,ms]
  refine aA fun gV cT gA=>?_;simp only[dJ,seval];refine aD1 (it:=it) (mb:=mb) (es:=es) (aR:=aR) (since:=aR) (seen:=seen) rfl ?_ hI Q5 m3.1 (fun e he hbn=>?_) fun hall=>?_
  ·simp only[dJ,seval,ru]
  ·simp only[dJ,seval];refine cT _ _ ?_;refine aA fun jC dK iK=>?_;simp only[dJ,seval];refine dK _ _ ?_;refine cJ fun lO eG Gg kY=>?_;refine aA fun rE jI pS=>?_;have kp:aC [it] s' (s'.put it fun v=>.hY (some mb) aR (e.born::seen) aR v):=.CE hk.ok hI (.inr (Nat.le_refl _)) (List.mem_singleton.2 rfl);obtain⟨s7,e7,k7,v7,i7⟩:∃ s7,(s'.put it fun v=>.hY (some mb) aR (e.born::seen) aR v)=s7∧aC [it] s' s7∧∃ v,s7.heap.get it=some (.hY (some mb) aR (e.born::seen) aR v) :=
    ⟨_,rfl,kp,s'.aR,by simp only[St.put,PT.fH,if_true]⟩
   rw[e7];have k7':aC [pb,it] s' s7:=k7.mono fun y hy=>List.mem_cons_of_mem _ hy;have xL:=hk.trans k7';have Jv:=xL.dE _ _ m5 (by simp;omega);have Q6:mapOf s7.look mb=some (es,aR):=by simp only[mapOf,St.look,Jv]
   have Ei:=Zi (H:=s7.look) (it:=it) i7 Q6 m3.2 he;obtain⟨a,KZ,VV⟩:=aA8 m2 he;have jH:=VP a KZ;have nN:i64 a:=PH.DF P bY (PH.pH.2 jH);rw[VV] at Ei;simp only[dJ,seval,ru,Ei];refine jI _ _ ?_;simp only[dJ,seval,cH];have Dv:=hc.aD k7 (by simp;omega);have Ds:=hb.aD k7 fun y hy hy'=>by have:=hn y hy;rw[List.mem_singleton.1 hy'] at this;omega
   have M7:fV s7 mb (keys K):=⟨es,aR,bB,Jv,m2,m3⟩;obtain⟨H7,Uu,A7,A7'⟩:=HK _ _ xL hF2;have R9:pb<s7.next:=Dv.lt xL.ok;have fF:∀ x,x<s.next→x∉pb::nameOf (.slice va C.length vc):=fun x hx hm=>by
    rcases List.mem_cons.1 hm with h1 | h1
    ·omega
    ·have:=hn x h1;omega
   have Vd:mW s7 (nameOf (.slice va C.length vc)) pb h h' mb C s7:=⟨⟨va,vc,Dv,Ds,fun y hy=>.inl hy,mY⟩,.refl xL.ok,R9,fun hm=>by have:=hn _ hm;omega⟩;refine aH ?_ (aH9 xL.ok H7 Uu G G' Vd M7 (fun x hx=>fF x (H.eM hs x hx)) (fun x hx=>fF x (H'.eM hs x hx)) (fun hm=>?_) (Ds.lt xL.ok) nN jH (fun b hb=>hM _ b hb) (by omega) fun s8 p8=>?_)
   ·simp only[dJ,seval]
   ·rcases List.mem_cons.1 hm with h1 | h1
    ·exact Q3 h1
    ·have:=hn _ h1;omega
   simp only[dJ,seval];obtain⟨Sz,Tb,o8,b8,n8,Kp⟩:=p8.o;have F5:a∉l:=fun hm=>by
    obtain⟨e',he',hk',hs'⟩:=(hO.2 a).1 hm;have:=aA7 m2 OY he' he (hk'.trans VV.symm);rw[this] at hs';exact hbn hs'
   have D7:Ord es (e.born::seen) (l++[a]):=by
    refine⟨?_,fun x=>⟨fun hx=>?_,fun⟨e',he',hk',hs'⟩=>?_⟩⟩
    ·rw[List.nodup_append];refine⟨hO.1,by simp,fun x hx y hy=>?_⟩;rw[List.mem_singleton.1 hy];rintro rfl;exact F5 hx
    ·rcases List.mem_append.1 hx with h1 | h1
     ·obtain⟨e',he',hk',hs'⟩:=(hO.2 x).1 h1;exact⟨e',he',hk',List.mem_cons_of_mem _ hs'⟩
     ·rw[List.mem_singleton.1 h1];exact⟨e,he,VV,List.mem_cons_self⟩
    ·rcases List.mem_cons.1 hs' with h1 | h1
     ·have:=born_inj m3.2 he he' h1;rw[this,VV] at hk';simp only[int,Value.int.injEq,true_and] at hk';rw[hk'];simp
     ·exact List.mem_append_left _ ((hO.2 x).2 ⟨e',he',hk',h1⟩)
   have y_:C++PH.jS P P' K a=(l++[a]).flatMap (PH.jS P P' K):=by rw[List.flatMap_append,List.flatMap_singleton,hC]
   rw[y_] at o8 b8 n8 Kp;have n57:=xL.next;have n8':∀ y∈nameOf (.slice Sz ((l++[a]).flatMap (PH.jS P P' K)).length Tb),s5.next≤y:=fun y hy=>by
    rcases n8 y hy with h1 | h1
    ·exact hn y h1
    ·omega
   have i8:=p8.k.dE _ _ i7 fun hm=>by
    rcases List.mem_cons.1 hm with h1 | h1
    ·omega
    ·have:=hn _ h1;omega
   have O_:∀ x∈l++[a],x∈K:=fun x hx=>by
    rcases List.mem_append.1 hx with h1 | h1
    ·exact WN x h1
    ·rw[List.mem_singleton.1 h1];exact KZ
   have gZ:aC [pb,it] s5 s8:=xL.step p8.k fun g hg=>by
    rcases List.mem_cons.1 hg with h1 | h1
    ·exact .inl (by rw[h1];simp)
    ·exact .inr (jR.ok.fresh g (hn g h1))
   refine eG _ _ ⟨_,aAu he hbn,e.born::seen,v7,l++[a],Sz,Tb,rfl,?_,?_,?_,?_,?_,?_,i8,D7,O_,o8,b8,n8',Kp,gZ⟩
   all_goals try simp only[dJ,seval,r0,r1,r2,r3,cH,ru]
  ·simp only[dJ,seval];refine cT _ _ ?_;refine aA fun jC dK iK=>?_;simp only[dJ,seval];refine iK _ _ _ (by simp) (xU _ _ (aZ _ _ ?_));have S0:l.Perm K:=by
    refine(List.perm_ext_iff_of_nodup hO.1 OY).2 fun a=>⟨WN a,fun ha=>?_⟩;obtain⟨e,he,hke⟩:=aA9 m2 ha;exact(hO.2 a).2 ⟨e,he,hke,hall e he (m3.1 e he)⟩
   obtain⟨H6,JR,A6,cv⟩:=HK _ _ hk hF2;refine aA fun sF iY rQ=>?_;refine aA fun wV lU vU=>?_;simp only[dJ,seval,r1];refine aH ?_ (ai hk.ok A6 ?_)
   ·simp only[dJ,seval]
   rintro v s6 b6 ⟨JM,FN,rfl⟩ k6 Fh
   try simp only[dJ,seval]
   refine lU _ _ ?_;have n5s:=hk.next;have hbl:=hb.lt hk.ok;have R_:pb<s'.next:=hc.lt hk.ok;have H6:=H6.aJ k6;have JR:=JR.aJ k6;have A6:=A6.aJ k6;have cv:=cv.aJ k6;have dw:mW s6 (nameOf (.slice va C.length vc)) pb h h' mb C s6:=⟨⟨va,vc,hc.aD k6 (by simp),hb.aD k6 (by simp),fun y hy=>.inl hy,mY⟩,.refl k6.ok,Nat.lt_of_lt_of_le R_ k6.next,fun hm=>by have:=hn _ hm;omega⟩;have fF:∀ x,x<s.next∨s'.next≤x→x∉pb::nameOf (.slice va C.length vc):=fun x hx hm=>by
    rcases List.mem_cons.1 hm with h1 | h1
    ·omega
    ·have:=hn x h1;have:=hbl x h1;omega
   have Vy:∀ y∈nameOf (.slice JM R.all.length FN),y∉pb::nameOf (.slice va C.length vc):=fun y hy=>fF y (.inr (Fh y hy));refine cJ fun DB tN QA tO=>?_;refine rW (n:=R.all.length) (fun j a' s'=>a'.aB 0=ptr h∧a'.aB 1=ptr r∧a'.aB 2=ptr h'∧a'.aB 3=ptr r'∧a'.aB 10=ptr pb∧a'.aB 64=.slice JM R.all.length FN∧a'.aB 65=int R.all.length∧a'.aB 66=int j∧mW s6 (nameOf (.slice va C.length vc)) pb h h' mb (C++qU P P' R R' j) s')
    (fun j a' s'=>a'.aB 0=ptr h∧a'.aB 1=ptr r∧a'.aB 2=ptr h'∧a'.aB 3=ptr r'∧a'.aB 10=ptr pb∧a'.aB 64=.slice JM R.all.length FN∧a'.aB 65=int R.all.length∧a'.aB 66=int j∧mW s6 (nameOf (.slice va C.length vc)) pb h h' mb (C++qU P P' R R' (j+1)) s') ?_ ?_ ?_ ?_ (Nat.zero_le _) ?_
   ·rintro j a' s' hj ⟨r0,r1,r2,r3,cH,CH,CI,AV,hp⟩ aV bP;simp only[dJ,seval,CI,AV];refine bP _ _ (decide ((j:Int)<R.all.length)) ?_ (by simp) ⟨?_,?_,?_,?_,?_,?_,?_,?_,hp⟩
    all_goals simp only[dJ,seval,r0,r1,r2,r3,cH,CH,CI,AV]
   ·rintro j a' s' hj ⟨r0,r1,r2,r3,cH,CH,CI,AV,hp⟩ aV w1 w2 w3;obtain⟨vb,dW,rfl⟩:=b6.sl.addr (show 0<R.all.length by omega);have hk:=hp.k;have g1:(0:Int)≤(j:Int):=Int.natCast_nonneg _;have g2:(j:Int)<((R.all.length:Nat):Int):=by omega
    obtain⟨p,lz⟩:∃ p,p=R.all[j]:=⟨_,rfl⟩;have lj:bI s'.look ⟨vb,dW+j*3,none⟩ 3=some [int p.k,int p.m,int p.i]:=by
     have:=(b6.sl.aD hk Vy).bI (i:=j*3) (k:=3) (by omega) (by rw[OO];omega);rw[OP _ hj,← lz] at this;exact this
    have PO:p∈R.all:=by rw[lz];exact List.getElem_mem _
    have uM:=R.FY PO;have HB:=H6.aD hk fun x hx=>fF x (.inl (H.eM hs x hx));have HN:=JR.aD hk fun x hx=>fF x (.inl (H'.eM hs x hx));have AB:=A6.aD hk fun x hx=>fF x (.inl (A.eM hs x hx));have AN:=cv.aD hk fun x hx=>fF x (.inl (A'.eM hs x hx));have eR:wI P P' R R' j=if P.fW (R.get p)≠0∧P'.fW (R'.gt p)≠P.fW (R.get p) then [(3,P.fW (R.get p),(j:Int))] else []:=by unfold wI;rw[List.getElem?_eq_getElem hj,← lz]
    have eS:C++qU P P' R R' (j+1)=(C++qU P P' R R' j)++wI P P' R R' j:=by rw[No,List.append_assoc]
    rw[eS] at w1;have hi2:i64 (R'.gt p):=by
     unfold PR.gt;split
     ·exact PR.VN A' p
     ·exact⟨by omega,by omega⟩
    refine aA fun NS uO xN=>?_;obtain⟨t1,e1,u1,d1,v1⟩:=cI hk.ok (L:=[int 0,int 0,int 0]) (n:=3) (e:=118) rfl;obtain⟨t2,e2,d2,u2⟩:=d1.storeAll u1.ok (vs:=[int p.k,int p.m,int p.i]) rfl rfl;have pM:aC [] s' t2:=u1.step u2 fun g hg=>.inr (by rw[List.mem_singleton.1 hg];exact hk.ok.fresh _ (Nat.le_refl _));simp only[dJ,seval,CH,AV,g1,g2,and_self,bQ,Int.toNat_natCast,lj];rw[e1,e2];simp only[dJ,seval];refine uO _ _ ?_;have lp:=d2.bI (i:=0) (k:=3) (Nat.le_refl _);refine aA fun DC pE ED=>?_;simp only[dJ,seval,r1,lp,List.drop_zero,List.take];refine aH ?_ (ZZ pM.ok (AB.aJ pM) p fun s8 k8=>?_)
    ·simp only[dJ,seval]
    rw[if_pos uM,if_pos uM]
    try simp only[dJ,seval]
    refine pE _ _ ?_;have lp8:=(d2.aD k8 (by simp)).bI (i:=0) (k:=3) (Nat.le_refl _);have gZ:=pM.trans k8;refine aA fun NU tP LN=>?_;simp only[dJ,seval,r3,lp8,List.drop_zero,List.take];refine aH ?_ (ZZ k8.ok (AN.aJ gZ) p fun s9 k9=>?_)
    ·simp only[dJ,seval]
    rw[show (if R'.has p=true then R'.get p else 0)=R'.gt p from rfl]
    try simp only[dJ,seval]
    refine tP _ _ ?_;have LJ:=gZ.trans k9;refine aA fun uv LO mz=>?_;simp only[dJ,seval,r0];refine aH ?_ (NO k9.ok (HB.aJ LJ) (R.get p) (PR.VN A p) fun jU k10=>?_)
    ·simp only[dJ,seval]
    try simp only[dJ,seval]
    refine LO _ _ ?_;have kh:=LJ.trans k10;obtain⟨id,xK⟩:∃ id,id=P.fW (R.get p):=⟨_,rfl⟩;obtain⟨QC,kd⟩:∃ QC,QC=P'.fW (R'.gt p):=⟨_,rfl⟩;rw[show (if P.has (R.get p)=true then P.w (R.get p).toNat else 0)=id from xK.symm];refine aA fun TB sR QB=>?_;refine cL [(2,88)] (by kernel_rfl) fun O hO bC hR=>?_;have y2:∀ a,aO O a 2=aY (a.aB 88):=hO (2,88) (by simp);by_cases h0:id=0
    ·subst h0;have eF:wI P P' R R' j=[]:=by rw[eR,if_neg fun hc=>hc.1 xK.symm]
     rw[eF,List.append_nil] at w1;simp only[dJ,seval,y2];refine hR _ _ (sR _ _ ?_);simp only[dJ,seval];refine w1 _ _ ⟨?_,?_,?_,?_,?_,?_,?_,?_,hp.aD kh⟩
     all_goals try simp only[dJ,seval,r0,r1,r2,r3,cH,CH,CI,AV]
    ·have GO:(id==0)=false:=by rw[beq_eq_false_iff_ne];exact h0
     simp only[dJ,seval,y2,GO,r2];refine aH ?_ (NO k10.ok (HN.aJ kh) (R'.gt p) hi2 fun BA k11=>?_)
     ·simp only[dJ,seval]
     rw[show (if P'.has (R'.gt p)=true then P'.w (R'.gt p).toNat else 0)=QC from kd.symm];have Fl:=hp.aD (kh.trans k11);cases uN:(QC==id) with
     | true =>
      have eF:wI P P' R R' j=[]:=by rw[eR,if_neg fun hc=>hc.2 (by rw[← xK,← kd];exact beq_iff_eq.1 uN)]
      rw[eF,List.append_nil] at w1
      try simp only[dJ,seval,y2,uN]
      refine hR _ _ (sR _ _ ?_);simp only[dJ,seval];refine w1 _ _ ⟨?_,?_,?_,?_,?_,?_,?_,?_,Fl⟩
      all_goals try simp only[dJ,seval,r0,r1,r2,r3,cH,CH,CI,AV]
     | false =>
      have hne:QC≠id:=fun hc=>by rw[hc,beq_self_eq_true] at uN;cases uN
      have eF:wI P P' R R' j=[(3,id,(j:Int))]:=by rw[eR,← xK,← kd,if_pos ⟨h0,hne⟩]
      rw[eF] at w1;have hlen:(C++qU P P' R R' j).length<1000000:=by
       have:=sn P P' R R' j;rw[List.length_append];omega
      try simp only[dJ,seval,y2,uN]
      refine hR _ _ (sR _ _ ?_);simp only[dA,RV,RG,seval];simp only[dJ,seval,cH];refine aH ?_ (Fl.add k6.ok hlen (3,id,(j:Int)) fun IV R7=>?_)
      ·simp only[dJ,seval]
      try simp only[dJ,seval]
      refine w1 _ _ ⟨?_,?_,?_,?_,?_,?_,?_,?_,R7⟩
      all_goals try simp only[dJ,seval,r0,r1,r2,r3,cH,CH,CI,AV]
   ·rintro j a' s' hj ⟨r0,r1,r2,r3,cH,CH,CI,AV,hk⟩ aV w1;have w:IntKind.i64.wrap ((j:Int)+1)=((j+1:Nat):Int):=by rw[aU (by omega) (by omega)];rfl
    simp only[dJ,seval,AV,w];refine w1 _ _ ⟨?_,?_,?_,?_,?_,?_,?_,?_,hk⟩
    all_goals try simp only[dJ,seval,r0,r1,r2,r3,cH,CH,CI]
   ·rintro a' s'' ⟨r0,r1,r2,r3,cH,CH,CI,AV,hp⟩;refine QA _ _ (iY _ _ ?_);obtain⟨L0,GU⟩:∃ L0,L0=C++qU P P' R R' R.all.length:=⟨_,rfl⟩;rw[← GU] at hp;obtain⟨uj,uk,o9,b9,n9,aC0⟩:=hp.o;have C_:jP L0=jP (qL P P' R R'):=Ci (by rw[GU,hC];unfold qL;rw[← hK];exact(S0.flatMap_right _).append_right _);have hLlen:L0.length<1000000:=by
     have:=sn P P' R R' R.all.length;rw[GU,List.length_append];omega
    have lf:aG s''.look ⟨pb,3,none⟩=some (.slice uj L0.length uk):=o9.load rfl;simp only[dJ,seval,cH,lf];refine aH ?_ (gw hp.k.ok b9 rfl hLlen fun au Vv kZ=>?_)
    ·simp only[dJ,seval]
    simp only[dJ,seval];have hns:∀ y∈nameOf (.slice uj L0.length uk),s5.next≤y:=fun y hy=>by
     rcases n9 y hy with h1 | h1
     ·exact hn y h1
     ·have:=k6.next;omega
    have kk:aC [] s au:=by
     refine((jR.step hk fun g hg=>.inr (hs.fresh _ (hF2 g hg))).trans k6).step (hp.k.step kZ (fun g hg=>?_)) fun g hg=>?_
     ·exact(n9 g hg).elim (fun h=>.inl (List.mem_cons_of_mem _ h)) fun h=>.inr (k6.ok.fresh g h)
     ·refine .inr (hs.fresh g ?_);rcases List.mem_cons.1 hg with h1 | h1
      ·omega
      ·have:=hn g h1;omega
    have pC:(jP L0).length=L0.length:=OR L0;have Ek:=hΦ (jP L0) uj uk au C_ (by rw[pC];exact Vv) (fun h0=>aC0 (List.length_eq_zero_iff.1 (by rw[← pC,h0];rfl))) (by rw[pC];exact fun y hy=>by have:=hns y hy;omega) kk;rw[pC] at Ek;exact Ek
   ·refine⟨?_,?_,?_,?_,?_,?_,?_,?_,?_⟩
    case refine_9=>rw[show qU P P' R R' 0=[] from rfl,List.append_nil];exact dw
    all_goals try simp only[dJ,seval,r0,r1,r2,r3,cH]
    try rfl
 ·refine⟨[],v5,[],none,0,rfl,?_,?_,?_,?_,?_,?_,i5,⟨List.nodup_nil,fun a=>⟨fun h=>(by cases h),fun⟨e,_,_,h⟩=>(by cases h)⟩⟩,fun _ h=>(by cases h),c5,.nil,by simp[nameOf],fun _=>⟨rfl,rfl⟩,.refl jR.ok⟩
  all_goals try simp only[dJ,seval]
end
end Go.Dust
namespace Go.Dust
open Go.Proofs
set_option maxRecDepth 100000
set_option maxHeartbeats 2000000
theorem fV.uniq {s:St} {b:Nat} {M M':List (Int×Value)} (h:fV s b M) (h':fV s b M'):M'=M:=by
 obtain⟨es,aR,bB,h1,h2,_⟩:=h;obtain⟨es',Xp,ver',g1,g2,_⟩:=h';rw[h1] at g1;cases g1;rw[h2] at g2;exact((List.map_inj_right fun x y hxy=>by
  obtain⟨a,b⟩:=x;obtain⟨c,d⟩:=y;simp only[int,Prod.mk.injEq,Value.int.injEq,true_and] at hxy;rw[hxy.1,hxy.2]).1 g2).symm
theorem bK.Vh {s:St} {h:Nat} {P P':PH} (H:bK s h P) (H':bK s h P'):P'.M=P.M:=by
 have hc:=H.c.uniq H'.c;simp only[List.cons.injEq,int,ptr,Value.int.injEq,Value.pointer.injEq,Value.map.injEq,true_and,Value.slice.injEq,Option.some.injEq,Addr.mk.injEq,Int.natCast_inj,and_true] at hc;obtain⟨_,_,_,_,Fc,_⟩:=hc;have h2:=H'.mp;rw[← Fc] at h2;exact(List.map_inj_right fun x y hxy=>by
  obtain⟨a,b⟩:=x;obtain⟨c,d⟩:=y;simp only[int,Prod.mk.injEq,Value.int.injEq,true_and] at hxy;rw[hxy.1,hxy.2]).1 (H.mp.uniq h2)
theorem cV.IX {s:St} {r:Nat} {R R':PR} (A:cV s r R) (A':cV s r R'):R'.m=R.m∧R'.q=R.q∧(∀ i,i<16*R.m→R'.sl i=R.sl i)∧∀ i,i<16→R'.gl i=R.gl i:=by
 have hc:=A.c.uniq A'.c;simp only[List.cons.injEq,int,Value.int.injEq,true_and,Value.slice.injEq,Option.some.injEq,Addr.mk.injEq,Int.natCast_inj,and_true] at hc;obtain⟨hm,⟨hns,_⟩,ky,pQ,nO,hvc⟩:=hc;have hs:=A'.cs;rw[← hns,← hm] at hs;have hg:=A'.cg;rw[← ky] at hg;have hq:=A'.cq;rw[← pQ,← nO,← hvc] at hq;refine⟨hm.symm,?_,fun i hi=>?_,fun i hi=>?_⟩
 ·have:=A.cq.sl.uniq hq.sl;exact((List.map_inj_right fun x y hxy=>by simpa [int] using hxy).1 this).symm
 ·have:=RU (A.cs.uniq hs) hi;simp only[int,Value.int.injEq,true_and] at this;exact this.symm
 ·have:=RU (A.cg.uniq hg) hi;simp only[int,Value.int.injEq,true_and] at this;exact this.symm
namespace PH
variable {P P' Q Q':PH}
theorem jL.wa (A:P.jL P') {a:Int} (h:P.has a=true):P'.w a.toNat=P.w a.toNat:=by
 obtain⟨h1,h2,h3,_⟩:=jG.1 h;exact A.w _ (by omega)
theorem jL.fW (A:P.jL P') (a:Int):P'.fW a=P.fW a:=by
 unfold PH.fW;rw[A.has];split
 ·rename_i h;exact A.wa h
 ·try rfl
theorem jL.jN (A:P.jL P') (G:P.bX) (a i:Int):P'.jN a i=P.jN a i:=by
 unfold PH.jN
 rw[A.dR];split
 ·rename_i h;exact A.Ce G a i true h
 ·try rfl
theorem jL.jS (A:P.jL P') (B:Q.jL Q') (hM:Q'.M=Q.M) (G:P.bX) (G':Q.bX) {K K':List Int} (hK:∀ x,x∈K'↔x∈K) {a:Int} (h:P.has a=true):PH.jS P' Q' K' a=PH.jS P Q K a:=by
 have hc:∀ x,K'.contains x=K.contains x:=fun x=>by
  rw[Bool.eq_iff_iff,List.contains_iff_mem,List.contains_iff_mem];exact hK x
 unfold PH.jS;rw[A.wa h,hM];split
 ·try rfl
 ·rename_i b _;have e1:PH.BB P' Q' a b=PH.BB P Q a b:=by unfold PH.BB;rw[A.aM,B.aM]
  have e2:P'.bZ a=P.bZ a:=by unfold PH.bZ;rw[A.aM]
  have e3:P'.jO a=P.jO a:=by unfold PH.jO;rw[A.aM]
  have e4:PH.oE P' Q' K' a b=PH.oE P Q K a b:=by
   funext i;unfold PH.oE PH.tK;rw[A.fW,B.fW,B.fW,A.aM,A.ref G,B.ref G',B.ref G',A.wa h,hc]
  have e5:PH.oZ P' Q' a b=PH.oZ P Q a b:=by
   funext i;unfold PH.oZ;rw[A.jN G,B.jN G',A.wa h,A.aM]
  rw[e1,e2,e3,e4,e5]
end PH
namespace PR
variable {R R':PR}
theorem Cz (h1:R'.m=R.m) (h2:R'.q=R.q) (h3:∀ i,i<16*R.m→R'.sl i=R.sl i) (h4:∀ i,i<16→R'.gl i=R.gl i) {p:eJ} (hp:R.has p=true):R'.get p=R.get p:=by
 unfold PR.has at hp;unfold PR.get;split at hp
 ·rename_i hc;have:=of_decide_eq_true hp;rw[if_pos hc.1,if_pos hc.1];exact h3 _ (by omega)
 ·split at hp
  ·rename_i hc;have:=of_decide_eq_true hp;have k0:¬ p.k=0:=by omega
   simp only[if_neg k0,if_pos hc.1];exact h4 _ (by omega)
  ·split at hp
   ·rename_i hc;have k0:¬ p.k=0:=by omega
    have k1:¬ p.k=1:=by omega
    simp only[if_neg k0,if_neg k1,h2]
   ·cases hp
theorem F7 (h1:R'.m=R.m) (h2:R'.q=R.q) (p:eJ):R'.has p=R.has p:=by unfold PR.has;rw[h1,h2]
theorem Vj (h1:R'.m=R.m) (h2:R'.q=R.q) (h3:∀ i,i<16*R.m→R'.sl i=R.sl i) (h4:∀ i,i<16→R'.gl i=R.gl i):R'.all=R.all:=by
 have hl:∀ k,R'.len k=R.len k:=fun k=>by unfold PR.len;rw[h1,h2]
 have hg:∀ k i,k<3→i<R.len k→R'.one k i=R.one k i:=fun k i hk hi=>by
  unfold PR.one;have:R'.get (PR.cW k i)=R.get (PR.cW k i):=by
   rcases(show k=0∨k=1∨k=2 by omega) with rfl | rfl | rfl
   ·rw[KV,KV];exact h3 i (by simpa [PR.len] using hi)
   ·rw[KW,KW];exact h4 i (by simpa [PR.len] using hi)
   ·rw[OW,OW,h2]
  rw[this]
 have WD:∀ {α β:Type} {l:List α} {f g:α→List β},(∀ x∈l,f x=g x)→l.flatMap f=l.flatMap g:=fun{α β l f g} h=>by
  rw[List.flatMap_def,List.flatMap_def,List.map_congr_left h]
 unfold PR.all PR.upto PR.part;refine WD fun k hk=>?_;rw[hl];exact WD fun i hi=>hg k i (List.mem_range.1 hk) (List.mem_range.1 hi)
end PR
theorem aA3 {s:St} {h r h' r':Nat} {P P' Q Q':PH} {R R' T T':PR} (H1:bK s h P) (H2:bK s h P') (H3:bK s h' Q) (H4:bK s h' Q') (A1:cV s r R) (A2:cV s r R') (A3:cV s r' T) (A4:cV s r' T') (G:P.bX) (G':P'.bX) (GQ:Q.bX) (z:P.has 0=false) :
  jP (qL P' Q' R' T')=jP (qL P Q R T):=by
 have A:=H1.agree H2;have B:=H3.agree H4;obtain⟨a1,a2,a3,a4⟩:=A1.IX A2;obtain⟨b1,b2,b3,b4⟩:=A3.IX A4;have fx:=PR.Vj a1 a2 a3 a4;have hget:∀ p∈R.all,R'.get p=R.get p:=fun p hp=>PR.Cz a1 a2 a3 a4 (R.FY hp);have z':P'.has 0=false:=by rw[A.has];exact z
 have eL:R'.all.map R'.get=R.all.map R.get:=by rw[fx];exact List.map_congr_left hget
 have hK:∀ x,x∈(P'.rounds R'.leads).1↔x∈(P.rounds R.leads).1:=fun x=>by
  rw[sr z,sr z',eL];exact⟨fun h=>A.symm.xW G' (fun x hx=>hx) h,fun h=>A.xW G (fun x hx=>hx) h⟩
 have hp:(P'.rounds R'.leads).1.Perm (P.rounds R.leads).1:=(List.perm_ext_iff_of_nodup MU MU).2 hK;have e1:(P.rounds R.leads).1.flatMap (PH.jS P' Q' (P'.rounds R'.leads).1)=(P.rounds R.leads).1.flatMap (PH.jS P Q (P.rounds R.leads).1):=by
  rw[List.flatMap_def,List.flatMap_def,List.map_congr_left fun a ha=>PH.jL.jS A B (H3.Vh H4) G GQ hK (P.CJ _ a ha)]
 have e2:qU P' Q' R' T' R'.all.length=qU P Q R T R.all.length:=by
  unfold qU;rw[fx];congr 1;funext i;unfold wI;rw[fx];cases hi:R.all[i]? with
  | none=>rfl
  | some p =>
   have PO:p∈R.all:=List.mem_of_getElem? hi;have hg:T'.gt p=T.gt p:=by
    unfold PR.gt;rw[PR.F7 b1 b2];split
    ·rename_i hh;exact PR.Cz b1 b2 b3 b4 hh
    ·try rfl
   simp only;rw[hget p PO,A.fW,hg,B.fW]
 unfold qL;rw[e2];exact Ci (((hp.flatMap_right _).trans (by rw[e1])).append_right _)
end Go.Dust
namespace Go.Dust
open Go.Proofs Go.ChangeShapes Go.RowKit Go.WideShapes Go.Sort
set_option maxRecDepth 100000
set_option maxHeartbeats 2000000
def du:Prop:=∀ (cap:Nat) (aT off:Nat) (d0:Array dC) (w0:World),CmpLays Tryz.prog 156 #[] cE 3 sO aT off d0.size w0→RowK cE 3 w0 aT off d0 →
  ∀ (N a b pr:Nat) (d:Array dC) (w:World),b-a<N→d0.size=d.size→SWK cE 3 w0 aT off d w→a≤b→b≤d.size→d.size<4611686018427387904→pr<4611686018427387904→Go.Sort.Below (ltOf sO) a b d →
  Calls Tryz.prog 219 #[.slice (some ⟨aT,off,none⟩) d.size cap,.int .i64 a,.int .i64 b,.int .i64 pr,.func (.func 156) #[] #[]] w fun e w'=>e=.returned (.tuple #[])∧SWK cE 3 w0 aT off (pdq (ltOf sO) d a b pr true true) w'
theorem Xs (aT off size:Nat) (w:World):CmpLays Tryz.prog 156 #[] cE 3 sO aT off size w:=fun _ _ _ _ x y=>Xu x y _
theorem aDi (hall:du) {W:World} {aT off cap lim:Nat} {C:List dC} (hH:HoldsK cE 3 W aT off C.toArray) (hb:aT<W.heap.size) (hn:C.length<1000000) (hl:lim<1000) :
  Calls Tryz.prog 219 #[.slice (some ⟨aT,off,none⟩) C.length cap,int 0,int C.length,int lim,.func (.func 156) #[] #[]] W fun e w'=>e=.returned (.tuple #[])∧∃ m os,w'=sortWorldK cE 3 W aT off m (jP C).toArray os:=by
 have hp:=hall cap aT off C.toArray W (Xs _ _ _ _) ⟨vP,fun x v hv=>by
  simp only[cE,List.mem_cons,List.not_mem_nil,or_false] at hv;rcases hv with rfl | rfl | rfl <;> rfl,hH,hb⟩ (C.length+1) 0 C.length lim C.toArray W (by omega) rfl (SWK.start hH) (Nat.zero_le _) (by simp) (by simp;omega) (by omega) (.inl rfl)
 simp only[List.size_toArray] at hp;refine hp.mono ?_;rintro e w' ⟨rfl,m,os,rfl⟩;refine⟨rfl,m,os,?_⟩;have h:=pdq_sorts (ltOf sO) tu C.toArray 0 C.toArray.size lim true true (Nat.zero_le _) (Nat.le_refl _) (.inl rfl);have h2:=sorted_unique_holds tu aGx C.toArray _ h.1 h.2;simp only[List.size_toArray] at h2;have h3:pdq (ltOf sO) C.toArray 0 C.length lim true true=(jP C).toArray:=by
  apply Array.toList_inj.1;rw[h2];unfold jP;simp only[QT]
 rw[h3]
theorem aD8 (hall:du) {kc:Kc} (h1:∀ i args s r,kc i args s=some r→r.Lv fun p=>eC s p.2)
  (h2:∀ i args (args':Array Value) s r w ι Φ,kc i args s=some r→r.jD Φ→bT ι args args'.toList→RS Tryz.prog ι s w→Calls Tryz.prog (if i=0 then 11 else 25) args' w (JO Tryz.prog ι s w Φ)):BI Tryz.prog (KO kc):=by
 refine⟨fun f args s r h=>?_,fun f args s r h=>?_,fun f args args' s r w ι Φ h ha hv hR=>?_⟩
 ·unfold KO at h;split at h
  ·exact h1 _ _ _ _ h
  ·split at h
   ·exact h1 _ _ _ _ h
   ·split at h
    ·unfold NB at h;split at h
     ·rename_i hh;cases h;obtain⟨b,o,n,c,lim,C,_,_,_,_,_,h4⟩:=Classical.choose_spec hh;exact eC.dS h4
     ·cases h
    ·split at h
     ·unfold QM at h;split at h
      ·cases h;exact .refl _
      ·cases h
     ·cases h
 ·rw[OL];unfold KO at h;split at h
  ·rename_i hf;rw[hf];exact⟨_,rfl,by kernel_rfl⟩
  ·split at h
   ·rename_i hf;rw[hf];exact⟨_,rfl,by kernel_rfl⟩
   ·split at h
    ·rename_i hf;rw[hf.1];exact⟨_,rfl,by kernel_rfl⟩
    ·split at h
     ·rename_i hf;rw[hf];exact⟨_,rfl,by kernel_rfl⟩
     ·cases h
 ·unfold KO at h;split at h
  ·rename_i hf;subst hf;exact h2 0 _ _ _ _ _ _ _ h ha hv hR
  ·split at h
   ·rename_i hf;subst hf;exact h2 1 _ _ _ _ _ _ _ h ha hv hR
   ·split at h
    ·rename_i hf;obtain⟨rfl,_⟩:=hf;unfold NB at h;split at h
     ·rename_i hk;have hP:=Classical.choose_spec hk;generalize Classical.choose _=s' at h hP;cases h;obtain⟨b,o,n,c,lim,C,rfl,B,rfl,h2,h3,h4⟩:=hP;show Calls Tryz.prog 219 args' w _;generalize hal:args'.toList=al at hv;have hargs:args'=al.toArray:=by rw[← hal]
      subst hargs;cases hv with
      | cons v1 hv =>
      cases hv with
      | cons v2 hv =>
      cases hv with
      | cons v3 hv =>
      cases hv with
      | cons v4 hv =>
      cases hv with
      | cons v5 hv =>
      cases hv;obtain⟨l,hl,rfl⟩:=tj v1;obtain rfl:=VR.int_eq v2;obtain rfl:=VR.int_eq v3;obtain rfl:=VR.int_eq v4;obtain⟨a',c',rfl,va,vc⟩:=VR.VL v5;obtain rfl:a'=#[]:=by cases hh:a'.toList with
       | nil=>exact Array.toList_eq_nil_iff.1 hh
       | cons x y=>rw[hh] at va;cases va
      obtain rfl:c'=#[]:=by cases hh:c'.toList with
       | nil=>exact Array.toList_eq_nil_iff.1 hh
       | cons x y=>rw[hh] at vc;cases vc
      obtain⟨hH,hb⟩:=aFc hR B hl;refine(aDi hall (cap:=c+l.extra) hH hb h2 h3).mono ?_;rintro e w' ⟨rfl,m,os,rfl⟩;obtain⟨z1,z2⟩:=aFe hR B hl (OR C) h4 m os;exact⟨.tuple #[],.tuple #[],s',ι,rfl,ha,.tuple' .nil,z1,z2⟩
     ·cases h
    ·split at h
     ·rename_i hf;subst hf;unfold QM at h;split at h
      ·rename_i hk;have hP:=Classical.choose_spec hk;generalize Classical.choose _=x at h hP;cases h;obtain⟨rfl,hx⟩:=hP;show Calls Tryz.prog 220 args' w _;generalize hal:args'.toList=al at hv;have hargs:args'=al.toArray:=by rw[← hal]
       subst hargs;cases hv with
       | cons v1 hv =>
       cases hv;obtain rfl:=VR.int_eq v1;have hb:=Any.bits_Len (SlLaysF0.n15.bits (P:=Tryz.prog) (ρ:=Tryz.Me) {Tryz.Md with}) (x:Int) w (by omega) (by omega);rw[Int.toNat_natCast] at hb;refine Calls.mono hb ?_;rintro e w' ⟨rfl,rfl⟩;exact⟨int (Lib.bitLen x:Nat),_,s,ι,rfl,ha,.int _ _,hR,Ext.refl⟩
      ·cases h
     ·cases h
set_option maxHeartbeats 1000000
theorem aDh:du:=fun cap aT off d0 w0 hC hR =>
 AnyQ.pdqsortCmpFunc_all Tryz.Md 3 Tryz.isAgg51 Tryz.sizeOf51 cE sO 156 #[] tu aT off cap d0 w0 (enters_of Tryz.func156 (by kernel_rfl) rfl) hC hR
theorem Ma {kc:Kc} (h1:∀ i args s r,kc i args s=some r→r.Lv fun p=>eC s p.2)
  (h2:∀ i args (args':Array Value) s r w ι Φ,kc i args s=some r→r.jD Φ→bT ι args args'.toList→RS Tryz.prog ι s w→Calls Tryz.prog (if i=0 then 11 else 25) args' w (JO Tryz.prog ι s w Φ)):BI Tryz.prog (KO kc):=aD8 aDh h1 h2
theorem aDa:BI Tryz.prog (KO Kt):=Ma (fun _ _ _ _ h=>by cases h) (fun _ _ _ _ _ _ _ _ h=>by cases h)
end Go.Dust
namespace Go.Dust
theorem R.Vz {X:Env} {ι ι':aQ} {H H':bL} {n n':Nat} {w w':World} (h:R X ι H n w) (k:R X ι' H' n' w') (e:Ext ι H n w ι' H' n' w') (hk:∀ b o,H b=some o→o.cX=false→H' b=some o)
  (cD:∀ b o,H b=some o→b<n) {b':Nat} {o' o'':bW} {l l':Loc} (hb:H' b'=some o') (hd:o'.cX=false) (hn:n≤b') (hl:ι' b'=some l) (hro:l.ro=false) (hblk:l'.aT=l.aT) (hro':l'.ro=false)
  (ho:jM X (ι.add n l') w' l' o'') :
  R X (ι.add n l') (fU H n o'') (n+2) w'∧Ext ι H n w (ι.add n l') (fU H n o'') (n+2) w':=by
 have hfree:ι n=none:=h.fresh n (Nat.le_refl _) h.kT;have hle:ι.le (ι.add n l'):=aQ.uQ hfree;have hne:∀ b lb,ι b=some lb→b≠n:=fun b lb hb hbn=>by rw[hbn,hfree] at hb;cases hb
 refine⟨⟨fun b=>?_,by have:=h.kT;omega,fun b hb1 hb2=>?_,fun b lb hb1 hr=>?_,fun b ob hb1 hd1=>?_,fun b1 b2 o1 o2 l1 l2 h1 d1 h2 d2 g1 g2 hr heq=>?_⟩,⟨hle,fun b hb1 hb2=>?_,Nat.le_add_right _ _,e.os,e.tape,e.output,e.size,e.aD,fun c hc=>?_,e.drawn⟩⟩
 ·unfold aQ.add;rw[if_neg (by have:=h.kT;omega)];exact h.even b
 ·unfold aQ.add;rw[if_neg (by omega)];exact h.fresh b (by omega) hb2
 ·unfold aQ.add at hb1;split at hb1
  ·cases hb1;rw[hblk];exact k.tR b' l hl hro
  ·exact Nat.lt_of_lt_of_le (h.tR b lb hb1 hr) e.size
 ·unfold fU at hb1;split at hb1
  ·rename_i hbn;cases hb1;subst hbn;exact⟨l',aQ.add_same _ _ _,ho⟩
  ·obtain⟨lb,g1,g2⟩:=h.obj b ob hb1 hd1;obtain⟨lb',k1,k2⟩:=k.obj b ob (hk b ob hb1 hd1) hd1;have:=e.le _ _ g1;rw[k1] at this;cases this;exact⟨lb,hle _ _ g1,(g2.back e.le k2).mono hle rfl⟩
 ·unfold fU at h1 h2;unfold aQ.add at g1 g2;have key:∀ b o lb,H b=some o→o.cX=false→ι b=some lb→lb.aT=l.aT→False:=fun b o lb hb1 hd1 hl1 hbl=>by
   have hbn:=cD b o hb1;have:=k.inj b' b o' o l lb hb hd (hk b o hb1 hd1) hd1 hl (e.le _ _ hl1) hro hbl.symm;omega
  by_cases e1:b1=n
  ·by_cases e2:b2=n
   ·rw[e1,e2]
   ·rw[if_neg e2] at h2 g2;rw[if_pos e1] at g1;cases g1;exact(key b2 o2 l2 h2 d2 g2 (by rw[← heq,hblk])).elim
  ·rw[if_neg e1] at h1 g1;by_cases e2:b2=n
   ·rw[if_pos e2] at g2;cases g2;exact(key b1 o1 l1 h1 d1 g1 (by rw[heq,hblk])).elim
   ·rw[if_neg e2] at h2 g2;exact h.inj b1 b2 o1 o2 l1 l2 h1 d1 h2 d2 g1 g2 hr heq
 ·unfold aQ.add;rw[if_neg (by omega)];exact hb1
 ·obtain⟨b,o,lb,h1,h2,h3,h4,h5⟩:=hc;unfold fU at h1;split at h1
  ·rename_i hbn;cases h1;rw[hbn,aQ.add_same] at h3;cases h3;exact e.own c ⟨b',o',l,hb,hd,hl,hro,by rw[← hblk,h5]⟩
  ·rename_i hbn;unfold aQ.add at h3;rw[if_neg hbn] at h3;exact .inl ⟨b,o,lb,h1,h2,h3,h4,h5⟩
theorem Wa {P:Program} {ι ι':aQ} {s s':St} {W W':World} (hs:Ok s) (hR:RS P ι s W) (hR':RS P ι' s' W') (hE:ES ι s W ι' s' W') (hk:aC [] s s') {e:TypeId} {m b off n cap:Nat} {L:List Value}
  (B:bJ s' e m (.slice (some ⟨b,off,none⟩) n cap) L) (hm:(env P).ty e=none∨∃ ei,(env P).ty e=some ei∧ei.size=m) (hn:s.next≤b) (hL:∀ v∈L,∃ k x,v=.int k x) {u:Value} (hu:VR ι' (.slice (some ⟨b,off,none⟩) n cap) u) :
  ∃ ι'',VR ι'' (.slice (some ⟨s.next,0,none⟩) n n) u∧RS P ι'' (s.new fun v=>.cells (PT.ofList L) [] (n*m) e true false v) W'∧ES ι s W ι'' (s.new fun v=>.cells (PT.ofList L) [] (n*m) e true false v) W':=by
 cases B with
 | @own _ _ _ _ L0 _ hC hc hnc hlen hl =>
  obtain⟨c,z,room,bB,hg,hcell⟩:=hC;cases hu with
  | @slice _ _ l _ _ hbl =>
   obtain⟨l2,h1,h2⟩:=hR'.obj b _ hg rfl;rw[hbl] at h1;cases h1;obtain⟨arr,e',fz,g1,g2,g3,g4,g5,g6,g7⟩:=h2;obtain⟨l',hl'⟩:∃ l':Loc,l'=⟨l.aT,l.off+off,cap-n+l.extra,false⟩:=⟨_,rfl⟩;have hnm:n*m≤cap*m:=Nat.mul_le_mul_right m hnc;have hobj:∀ ver',jM (env P) (ι.add s.next l') W' l' (.cells (PT.ofList L) [] (n*m) e true false ver'):=fun ver'=>by
    subst hl';refine⟨arr,e',fz,g1,fun _=>g2 rfl,rfl,fun h=>(by cases h),fun ei hei=>?_,?_,fun i hi=>?_⟩
    ·rcases hm with hm | ⟨ei',hei',hsz⟩
     ·rw[hei] at hm;cases hm
     ·rw[hei] at hei';cases hei';have:=g5 ei hei;rw[hsz] at this ⊢;have e1:(cap-n+l.extra)*m=cap*m-n*m+l.extra*m:=by rw[Nat.add_mul,Nat.sub_mul]
      show l.off+off+n*m+(cap-n+l.extra)*m≤arr.size;rw[e1];omega
    ·show l.off+off+n*m≤arr.size;omega
    ·obtain⟨v,u,a1,a2,a3⟩:=g7 (off+i) (by omega);rw[hcell (off+i) (by omega),hl i (by omega)] at a1;have hvL:v∈L:=List.mem_of_getElem? a1;obtain⟨kk,x,rfl⟩:=hL v hvL;refine⟨.int kk x,u,?_,by show arr[l.off+off+i]?=_;rw[Nat.add_assoc];exact a2,?_⟩
     ·unfold cellAt;rw[if_pos hi,PT.sP,a1]
     ·rw[VR.int_eq a3];exact .int _ _
   obtain⟨k1,k2⟩:=R.Vz (o'':=.cells (PT.ofList L) [] (n*m) e true false s.aR) hR hR' hE (fun b o hb _=>hk.dE b o hb (by simp)) (fun b o hb=>hs.lt hb) hg rfl hn hbl (by rw[g3]) (by rw[hl']) (by rw[hl']) (hobj _);refine⟨ι.add s.next l',?_,?_,?_⟩
   ·have hv:=VR.slice (ι:=ι.add s.next l') (b:=s.next) (o:=0) n n (aQ.add_same ι s.next l');rw[hl'] at hv ⊢;simp only[Nat.add_zero] at hv;rw[show n+(cap-n+l.extra)=cap+l.extra by omega] at hv;exact hv
   ·show R _ _ _ _ _;rw[YD];exact k1
   ·show Ext _ _ _ _ _ _ _ _;rw[YD];exact k2
end Go.Dust
namespace Go.Dust
open Go.Proofs Go.ChangeShapes Go.RowKit Go.WideShapes
set_option maxRecDepth 100000
set_option maxHeartbeats 2000000
def DD (args:List Value) (s:St) (L:List dC):Prop:=∃ h r h' r' P R P' R',args=[ptr h,ptr r,ptr h',ptr r']∧Ok s∧bK s h P∧cV s r R∧bK s h' P'∧cV s r' R'∧P.bX∧P'.bX∧P.has 0=false∧(∀ i b,P'.M.lookup i=some b→i64 b)∧L=jP (qL P P' R R')
theorem DD.uniq {args:List Value} {s:St} {L L':List dC} (h:DD args s L) (k:DD args s L'):L'=L:=by
 obtain⟨h1,r1,h2,r2,P,R,Q,T,rfl,hs,H,A,H',A',G,G',z,hM,rfl⟩:=h;obtain⟨h3,r3,h4,r4,P2,R2,Q2,T2,e,_,K,B,K',B',F,F',y,hN,rfl⟩:=k;simp only[List.cons.injEq,ptr,Value.pointer.injEq,Option.some.injEq,Addr.mk.injEq,and_true] at e;obtain⟨rfl,rfl,rfl,rfl⟩:=e;exact aA3 H K H' K' A B A' B' G F G' z
noncomputable def sS (s:St) (L:List dC):St:=if L=[] then s else s.new fun v=>.cells (PT.ofList (L.flatMap cE)) [] (L.length*3) 51 true false v
def AH (s:St) (L:List dC):Value:=.tuple #[if L=[] then .slice none 0 0 else .slice (some ⟨s.next,0,none⟩) L.length L.length,int 0]
open Classical in
noncomputable def HY:Kc:=fun i args s=>if h:i=0∧∃ L,DD args s L then some (.ret (AH s (Classical.choose h.2),sS s (Classical.choose h.2))) else none
theorem aGz:(env Tryz.prog).ty 51=none∨∃ ei,(env Tryz.prog).ty 51=some ei∧ei.size=3:=by
 rw[OL];cases h:X.ty 51 with
 | none=>exact .inl rfl
 | some ei =>
  refine .inr ⟨ei,rfl,?_⟩;have:((X.ty 51).map fun i=>i.size)=some 3:=by kernel_rfl
  rw[h] at this;simpa using this
theorem aD9:BI Tryz.prog (KO HY):=by
 refine Ma (fun i args s r h=>?_) (fun i args args' s r w ι Φ h ha hv hR=>?_)
 ·unfold HY at h;split at h
  ·rename_i hh;cases h;generalize Classical.choose hh.2=L;unfold sS;by_cases h0:L=[]
   ·simp only[if_pos h0];exact .refl _
   ·simp only[if_neg h0];exact eC.new (f:=fun v=>.cells (PT.ofList (L.flatMap cE)) [] (L.length*3) 51 true false v) fun v=>.inr ⟨rfl,rfl⟩
  ·cases h
 ·unfold HY at h;split at h
  ·rename_i hk;have hB:=Classical.choose_spec hk.2;obtain⟨rfl,_⟩:=hk;generalize Classical.choose _=L at h hB;cases h;obtain⟨hp,rp,hp',rp',P,R,P',R',rfl,hs,H,A,H',A',G,G',z,hM,hL⟩:=hB;show Calls Tryz.prog 11 args' w _;obtain⟨fn,hfn,hb⟩:∃ fn,Tryz.prog.funcs[11]?=some fn∧fn.body.isSome=true:=⟨_,rfl,by kernel_rfl⟩;have hok:=aH5 (Φ:=fun v s'=>∃ va c,v=.tuple #[.slice va L.length c,int 0]∧bJ s' 51 3 (.slice va L.length c) (L.flatMap cE)∧(L=[]→va=none∧c=0)∧(∀ y∈nameOf (.slice va L.length c),s.next≤y)∧aC [] s s') hs H A H' A' G G' hM fun L' va c s' e h1 h2 h3 h4=>by
    rw[← hL] at e;subst e;exact⟨va,c,rfl,h1,h2,h3,h4⟩
   rw[← OL] at hok;refine(fj mixed aDa hfn hb hR hv hok).mono ?_;rintro e W' ⟨v,s',ι',v',rfl,hvv,hR',hE,va,c,rfl,h1,h2,h3,hk⟩;cases hvv with
   | @tuple _ a' hsz hav =>
    have hs2:a'.size=2:=by rw[← hsz];rfl
    have mj:=hav 0 _ a'[0] rfl (Array.getElem?_eq_getElem (by omega));have WY:=hav 1 _ a'[1] rfl (Array.getElem?_eq_getElem (by omega));by_cases h0:L=[]
    ·obtain⟨rfl,rfl⟩:=h2 h0;refine⟨.tuple #[.slice none 0 0,int 0],.tuple a',s,ι,rfl,?_,.tuple (by rw[← hsz];rfl) fun i v u g1 g2=>?_,Go.Dust.R.back hR hR' hE fun b o hb _=>hk.dE b o hb (by simp),hE.back⟩
     ·have ha':Φ (AH s L,sS s L):=ha;unfold AH sS at ha';rw[if_pos h0,if_pos h0] at ha';exact ha'
     ·rcases i with _ | _ | i
      ·obtain rfl:Value.slice none 0 0=v:=by simpa using g1
       rw[Array.getElem?_eq_getElem (by omega)] at g2;rw[Option.some.inj g2] at mj;subst h0;cases mj with
       | AO=>exact .AO _ _
      ·obtain rfl:int 0=v:=by simpa using g1
       rw[Array.getElem?_eq_getElem (by omega)] at g2;rw[Option.some.inj g2] at WY;rw[VR.int_eq WY];exact .int _ _
      ·simp at g1
    ·have hpos:0<L.length:=List.length_pos_iff.2 h0;obtain⟨nb,off,rfl⟩:=h1.sl.addr hpos;obtain⟨ι'',k1,k2,k3⟩:=Wa hs hR hR' hE hk h1 aGz (h3 nb (by simp[nameOf])) (fun v hv=>by
      obtain⟨f,_,hf⟩:=List.mem_flatMap.1 hv;simp only[cE,List.mem_cons,List.not_mem_nil,or_false] at hf;rcases hf with rfl | rfl | rfl <;> exact⟨_,_,rfl⟩) mj
     refine⟨.tuple #[.slice (some ⟨s.next,0,none⟩) L.length L.length,int 0],.tuple a',sS s L,ι'',rfl,?_,.tuple (by rw[← hsz];rfl) fun i v u g1 g2=>?_,?_,?_⟩
     ·have ha':Φ (AH s L,sS s L):=ha;unfold AH at ha';rw[if_neg h0] at ha';exact ha'
     ·rcases i with _ | _ | i
      ·obtain rfl:Value.slice (some ⟨s.next,0,none⟩) L.length L.length=v:=by simpa using g1
       rw[Array.getElem?_eq_getElem (by omega)] at g2;rw[← Option.some.inj g2];exact k1
      ·obtain rfl:int 0=v:=by simpa using g1
       rw[Array.getElem?_eq_getElem (by omega)] at g2;rw[Option.some.inj g2] at WY;rw[VR.int_eq WY];exact .int _ _
      ·simp at g1
     ·unfold sS;rw[if_neg h0];exact k2
     ·unfold sS;rw[if_neg h0];exact k3
  ·cases h
theorem Hl {q:Bool} {s:St} {Φ:Value→St→Prop} {args:List Value} {L:List dC} (h:DD args s L) (hΦ:Φ (AH s L) (sS s L)):okF q X (KO HY) 11 args s Φ:=by
 refine okF.re (r:=.ret (AH s L,sS s L)) ?_ hΦ;show HY _ _ s=_;unfold HY;have hh:(0:Nat)=0∧∃ L,DD args s L:=⟨rfl,L,h⟩;rw[dif_pos hh,h.uniq (Classical.choose_spec hh.2)]
theorem Hj {s:St} (hs:Ok s) {L:List dC} (h0:L≠[]):aC [] s (sS s L)∧bJ (sS s L) 51 3 (.slice (some ⟨s.next,0,none⟩) L.length L.length) (L.flatMap cE):=by
 have hl:(L.flatMap cE).length=L.length*3:=by rw[GI cE 3 vP]
 unfold sS;rw[if_neg h0,← hl];exact⟨(aC.refl hs).new (.inr (Nat.le_refl _)),.own Cells.tU (by omega) (Nat.le_refl _) hl fun i hi=>by rw[Nat.zero_add]⟩
end Go.Dust
namespace Go.Dust
open Go.Proofs
set_option maxRecDepth 100000
set_option maxHeartbeats 4000000
def qD (a b:List Nat):Prop:=∀ y∈a,y∉b
theorem qD.symm {a b:List Nat} (h:qD a b):qD b a:=fun y hb ha=>h y ha hb
theorem qD.grow {a a' b:List Nat} {N:Nat} (h:qD a b) (ha:∀ y∈a',y∈a∨N≤y) (hb:∀ y∈b,y<N):qD a' b:=fun y hy Gf=>by
 rcases ha y hy with g | g
 ·exact h y g Gf
 ·have:=hb y Gf;omega
structure Mem (N:Nat) (s:St) (x h r g t:Nat) (P:PH) (R:PR) (G:dI) (Q:RQ) (R2:PR):Prop where
 c:Obj s x [ptr h,ptr r,ptr g,ptr t]
 H:bK s h P
 A:cV s r R
 K:cM s g G
 T:gH s t Q R2
 xP:qD [x] (P.aS h)
 xR:qD [x] (R.aS r)
 xG:qD [x] (G.aS g)
 xT:qD [x] (Q.aS t R2)
 pR:qD (P.aS h) (R.aS r)
 pG:qD (P.aS h) (G.aS g)
 pT:qD (P.aS h) (Q.aS t R2)
 rG:qD (R.aS r) (G.aS g)
 rT:qD (R.aS r) (Q.aS t R2)
 gT:qD (G.aS g) (Q.aS t R2)
 lx:N≤x
 lP:∀ y∈P.aS h,N≤y
 lR:∀ y∈R.aS r,N≤y
 lG:∀ y∈G.aS g,N≤y
 lT:∀ y∈Q.aS t R2,N≤y
namespace Mem
variable {N:Nat} {F:List Nat} {s s':St} {x h r g t:Nat} {P P':PH} {R R':PR} {G G':dI} {Q Q':RQ} {R2 dx:PR}
theorem aJ (M:Mem N s x h r g t P R G Q R2) (k:aC [] s s'):Mem N s' x h r g t P R G Q R2 :=
 ⟨M.c.aD k (by simp),M.H.aJ k,M.A.aJ k,M.K.aJ k,M.T.aJ k,M.xP,M.xR,M.xG,M.xT,M.pR,M.pG,M.pT,M.rG,M.rT,M.gT,M.lx,M.lP,M.lR,M.lG,M.lT⟩
theorem ur (M:Mem N s x h r g t P R G Q R2) (hs:Ok s):∀ y∈[x],y<s.next:=fun y hy=>by rw[List.mem_singleton.1 hy];exact M.c.lt hs
theorem MZ (M:Mem N s x h r g t P R G Q R2) (hs:Ok s) (k:aC F s s') (hF:∀ y∈F,y∈P.aS h) (H':bK s' h P') (f:P'.aS h=P.aS h):Mem N s' x h r g t P' R G Q R2 :=
 ⟨M.c.aD k (fun hm=>M.xP x (List.mem_singleton.2 rfl) (hF _ hm)),H',M.A.aD k (fun y hy hm=>M.pR y (hF _ hm) hy),M.K.aD k (fun y hy hm=>M.pG y (hF _ hm) hy),M.T.aD k (fun y hy hm=>M.pT y (hF _ hm) hy),
  by rw[f];exact M.xP,M.xR,M.xG,M.xT,by rw[f];exact M.pR,by rw[f];exact M.pG,by rw[f];exact M.pT,M.rG,M.rT,M.gT,M.lx,by rw[f];exact M.lP,M.lR,M.lG,M.lT⟩
theorem Po (M:Mem N s x h r g t P R G Q R2) (hs:Ok s) (k:aC F s s') (hF:∀ y∈F,y∈R.aS r) (A':cV s' r R') (f:∀ y∈R'.aS r,y∈R.aS r∨s.next≤y):Mem N s' x h r g t P R' G Q R2 :=
 ⟨M.c.aD k (fun hm=>M.xR x (List.mem_singleton.2 rfl) (hF _ hm)),M.H.aD k (fun y hy hm=>M.pR y hy (hF _ hm)),A',M.K.aD k (fun y hy hm=>M.rG y (hF _ hm) hy),M.T.aD k (fun y hy hm=>M.rT y (hF _ hm) hy),
  M.xP,(M.xR.symm.grow f (M.ur hs)).symm,M.xG,M.xT,(M.pR.symm.grow f (M.H.eM hs)).symm,M.pG,M.pT,M.rG.grow f (M.K.eM hs),M.rT.grow f (M.T.eM hs),M.gT,M.lx,M.lP,(fun y hy=>(f y hy).elim (M.lR y) fun g=>Nat.le_trans (Nat.le_trans M.lx (Nat.le_of_lt (M.c.lt hs))) g),M.lG,M.lT⟩
theorem SC (M:Mem N s x h r g t P R G Q R2) (hs:Ok s) (k:aC F s s') (hF:∀ y∈F,y∈G.aS g) (G1:cM s' g G') (f:∀ y∈G'.aS g,y∈G.aS g∨s.next≤y):Mem N s' x h r g t P R G' Q R2 :=
 ⟨M.c.aD k (fun hm=>M.xG x (List.mem_singleton.2 rfl) (hF _ hm)),M.H.aD k (fun y hy hm=>M.pG y hy (hF _ hm)),M.A.aD k (fun y hy hm=>M.rG y hy (hF _ hm)),G1,M.T.aD k (fun y hy hm=>M.gT y (hF _ hm) hy),
  M.xP,M.xR,(M.xG.symm.grow f (M.ur hs)).symm,M.xT,M.pR,(M.pG.symm.grow f (M.H.eM hs)).symm,M.pT,(M.rG.symm.grow f (M.A.eM hs)).symm,M.rT,M.gT.grow f (M.T.eM hs),M.lx,M.lP,M.lR,(fun y hy=>(f y hy).elim (M.lG y) fun g=>Nat.le_trans (Nat.le_trans M.lx (Nat.le_of_lt (M.c.lt hs))) g),M.lT⟩
theorem Pq (M:Mem N s x h r g t P R G Q R2) (hs:Ok s) (k:aC F s s') (hF:∀ y∈F,y∈Q.aS t R2) (T':gH s' t Q' dx) (f:∀ y∈Q'.aS t dx,y∈Q.aS t R2∨s.next≤y):Mem N s' x h r g t P R G Q' dx :=
 ⟨M.c.aD k (fun hm=>M.xT x (List.mem_singleton.2 rfl) (hF _ hm)),M.H.aD k (fun y hy hm=>M.pT y hy (hF _ hm)),M.A.aD k (fun y hy hm=>M.rT y hy (hF _ hm)),M.K.aD k (fun y hy hm=>M.gT y hy (hF _ hm)),T',
  M.xP,M.xR,M.xG,(M.xT.symm.grow f (M.ur hs)).symm,M.pR,M.pG,(M.pT.symm.grow f (M.H.eM hs)).symm,M.rG,(M.rT.symm.grow f (M.A.eM hs)).symm,(M.gT.symm.grow f (M.K.eM hs)).symm,M.lx,M.lP,M.lR,M.lG,(fun y hy=>(f y hy).elim (M.lT y) fun g=>Nat.le_trans (Nat.le_trans M.lx (Nat.le_of_lt (M.c.lt hs))) g)⟩
theorem l0 (M:Mem N s x h r g t P R G Q R2):aG s.look ⟨x,0,none⟩=some (ptr h):=M.c.load rfl
theorem l1 (M:Mem N s x h r g t P R G Q R2):aG s.look ⟨x,1,none⟩=some (ptr r):=M.c.load rfl
theorem l2 (M:Mem N s x h r g t P R G Q R2):aG s.look ⟨x,2,none⟩=some (ptr g):=M.c.load rfl
theorem l3 (M:Mem N s x h r g t P R G Q R2):aG s.look ⟨x,3,none⟩=some (ptr t):=M.c.load rfl
end Mem
def fN (N:Nat) (s s':St):Prop:=∃ F,aC F s s'∧∀ y∈F,N≤y
theorem fN.of {N:Nat} {F:List Nat} {s s':St} (k:aC F s s') (h:∀ y∈F,N≤y):fN N s s':=⟨F,k,h⟩
theorem fN.iL {N:Nat} {s s':St} (k:aC [] s s'):fN N s s':=⟨[],k,fun _ h=>by cases h⟩
theorem fN.trans {N:Nat} {a b c:St} (h:fN N a b) (k:fN N b c):fN N a c:=by
 obtain⟨F,h1,h2⟩:=h;obtain⟨F',k1,k2⟩:=k;refine⟨F++F',(h1.mono fun x hx=>List.mem_append_left _ hx).trans (k1.mono fun x hx=>List.mem_append_right _ hx),fun y hy=>?_⟩;rcases List.mem_append.1 hy with g | g
 ·exact h2 y g
 ·exact k2 y g
theorem fN.ok {N:Nat} {a b:St} (h:fN N a b):Ok b:=let ⟨_,h,_⟩:=h;h.ok
theorem fN.next {N:Nat} {a b:St} (h:fN N a b):a.next≤b.next:=let ⟨_,h,_⟩:=h;h.next
theorem fN.back {N:Nat} {a b c:St} (ha:Ok a) (hN:a.next≤N) (h:aC [] a b) (k:fN N b c):aC [] a c:=by
 obtain⟨F,k1,k2⟩:=k;exact h.step k1 fun y hy=>.inr (ha.fresh y (Nat.le_trans hN (k2 y hy)))
namespace PH
variable {P:PH}
def Z (P:PH):Prop:=∀ a i,P.ref a i=0
def Sound (P:PH):Prop:=∀ a i,P.ref a i=0∨P.has (P.ref a i)=true
theorem Z.sound (h:P.Z):P.Sound:=fun a i=>.inl (h a i)
def Vb (P:PH) (R:PR):Prop:=(∀ p∈R.all,P.has (R.get p)=true)∧∀ x∈R.q,P.has x=true
theorem MT (G:P.bX) {a i:Int}:P.ref a i=if P.has a=true∧0≤i∧i<(P.shape a).r then P.w (a+2+i).toNat else 0:=by
 unfold ref;by_cases h:P.dR a i false=0
 ·obtain⟨h1,h2,h3⟩:=sN h;rw[if_pos h,(qH G h).1,if_pos ⟨h1,h2,h3⟩];rfl
 ·rw[if_neg h,if_neg];rintro⟨h1,h2,h3⟩;apply h;unfold dR;rw[if_pos h1,if_neg];show ¬ (i<0∨i≥(P.shape a).r);omega
theorem ZW (G:P.bX) {a i:Int} (h:P.has a=true∧0≤i∧i<(P.shape a).r):a≤(a+2+i)∧a+2+i<a+P.size a∧0≤a:=by
 have:=size_pos G h.1;have h2:=(G.val a h.1).1;have h3:=cO.uC h2;have h4:=cO.nX.1 h2;unfold size;omega
theorem Empty.Z {n:Nat} (E:P.Empty n):P.Z:=by
 intro a i;unfold ref;split
 ·rw[E.w]
 ·try rfl
theorem Z.oA (h:P.Z) (p k:Nat) (x y u v:Int):(P.oA p k x y u v).Z:=h
theorem Z.place (h:P.Z) (I:P.Inv) {a:Int} {x:cO} (R:P.Room a x):(P.place a x).Z:=by
 have G:=I.bX;have I':=I.place R;intro b i;rw[MT I'.bX];split
 ·rename_i hc;obtain⟨h1,h2,h3⟩:=ZW I'.bX hc;rcases(wH R b).1 hc.1 with hb | rfl
  ·obtain⟨e1,e2,e3⟩:=CC G R hb;rw[e2] at h2;rw[e3 _ (by omega) (by omega)];have:=h b i;rw[MT G,if_pos ⟨hb,hc.2.1,by rw[← e1];exact hc.2.2⟩] at this;exact this
  ·rw[ZP R.v] at h2;have hc2:=hc.2;rw[RP (by omega) (by omega)];refine I.zero _ fun o ho=>?_;have:=R.apart o ho;omega
 ·try rfl
theorem Z.kill (h:P.Z) (I:P.Inv) {a:Int} (ha:P.has a=true):(P.kill a).Z:=by
 have G:=I.bX;have I':=I.kill ha;intro b i;rw[MT I'.bX];split
 ·rename_i hc;obtain⟨h1,h2,h3⟩:=ZW I'.bX hc;obtain⟨hb,hne⟩:=(xV ha b).1 hc.1;obtain⟨e1,e2,e3⟩:=EH G ha hb hne;rw[e2] at h2;rw[e3 _ (by omega) (by omega)];have:=h b i;rw[MT G,if_pos ⟨hb,hc.2.1,by rw[← e1];exact hc.2.2⟩] at this;exact this
 ·try rfl
theorem aG4 (I:P.Inv) {a k v:Int} (h:P.has a=true∧0≤k∧k<(P.shape a).r) (b i:Int):(P.eH (a+2+k) v).ref b i=if b=a∧i=k then v else P.ref b i:=by
 have G:=I.bX;obtain⟨h1,h2,h3⟩:=ZW G h;have B:P.Body a (a+2+k):=⟨h.1,by omega,by omega⟩;have I':=I.eH B (v:=v);rw[MT I'.bX,MT G];by_cases hb:P.has b=true
 ·have hb':(P.eH (a+2+k) v).has b=true:=hb;rw[EY G B hb];by_cases hc:P.has b=true∧0≤i∧i<(P.shape b).r
  ·rw[if_pos ⟨hb',hc.2⟩,if_pos hc];obtain⟨g1,g2,g3⟩:=ZW G hc;by_cases e:b=a∧i=k
   ·obtain⟨rfl,rfl⟩:=e;rw[if_pos ⟨rfl,rfl⟩];exact Pr
   ·rw[if_neg e];refine IY ?_;rcases Int.lt_trichotomy b a with h' | h' | h'
    ·have:=G.oJ b a hb h.1 h';omega
    ·omega
    ·have:=G.oJ a b h.1 hb h';omega
  ·rw[if_neg (fun h'=>hc ⟨hb,h'.2⟩),if_neg hc,if_neg];rintro⟨rfl,rfl⟩;exact hc h
 ·have e1:¬ ((P.eH (a+2+k) v).has b=true∧0≤i∧i<((P.eH (a+2+k) v).shape b).r):=fun h'=>hb h'.1;have e2:¬ (P.has b=true∧0≤i∧i<(P.shape b).r):=fun h'=>hb h'.1;have e3:¬ (b=a∧i=k):=fun h'=>hb (by rw[h'.1];exact h.1);rw[if_neg e1,if_neg e2,if_neg e3]
theorem aG2 (I:P.Inv) {a k v:Int} (h:P.iN a k v=0) (b i:Int):(P.setRef a k v).ref b i=if b=a∧i=k then v else P.ref b i:=by
 unfold setRef;rw[if_pos h];unfold iN at h;split at h
 ·rename_i hf;obtain⟨h1,h2,h3⟩:=sN hf;rw[(qH I.bX hf).1];exact aG4 I ⟨h1,h2,h3⟩ b i
 ·rename_i hf;exact absurd h hf
theorem Sound.setRef (h:P.Sound) (I:P.Inv) (a k v:Int) (hv:v=0∨P.has v=true):(P.setRef a k v).Sound:=by
 intro b i;have hh:=(P.ax a k v).2.1;by_cases he:P.iN a k v=0
 ·rw[aG2 I he,hh];split
  ·exact hv
  ·exact h b i
 ·unfold PH.setRef;rw[if_neg he];exact h b i
end PH
open Go.Proofs
set_option maxRecDepth 100000
set_option maxHeartbeats 4000000
theorem TN {X:Env} {s:St} {t e N B k b:Nat} {z x:Value} {new:List Value} (hd:((X.ty t).map fun i=>i.desc)=some (.slice e)) (he:((X.ty e).map fun i=>(i.bytes,i.size,i.zero))=some (B,N,some z)) (hz:z.cells.size=N)
  (hs:Ok s) (hb:∃ c zz bB,s.heap.get b=some (.cells c zz 0 e false false bB)) (hx:wA x=some k) (hf:kP s.look N k x=some new) (hl:new.length=k*N) (hk:0<k) (h1:new.all hZ=true) (hm:k<1000000000) (hB:B≤1000) :
  ∃ s',oY X s #[t,t] [.slice (some ⟨b,0,none⟩) 0 0,x]=some (.slice (some ⟨s.next,0,none⟩) k k,s')∧Obj s' s.next new∧aC [] s s'∧s'.next=s.next+2:=by
 obtain⟨c,zz,bB,hb⟩:=hb;have F6:sI s e N (some ⟨b,0,none⟩) 0 0 k new=some (.slice (some ⟨s.next,0,none⟩) k k,s.new fun v=>.cells (PT.ofList new) [] (k*N) e true false v):=by
  unfold sI;rw[if_neg (by omega)];simp only[hb];rw[if_pos (by simp[inBlock])];simp only[KX,Nat.zero_mul,if_true,Nat.zero_add,Bool.false_eq_true,if_false]
 refine⟨s.new fun v=>.cells (PT.ofList new) [] (k*N) e true false v,?_,?_,(aC.refl hs).new (.inr (Nat.le_refl _)),rfl⟩
 ·cases hi:X.ty t with
  | none=>rw[hi] at hd;cases hd
  | some i =>
   cases hj:X.ty e with
   | none=>rw[hj] at he;cases he
   | some j =>
    rw[hi] at hd;rw[hj] at he;obtain⟨d,sz,bs,zz,ag,ms,cm⟩:=i;obtain⟨d',sz',bs',zz',ag',ms',cm'⟩:=j;simp only[Option.map_some,Option.some.injEq,Prod.mk.injEq] at hd he;subst hd;obtain⟨rfl,rfl,rfl⟩:=he;simp only[oY,hi,hj,hx,hf];have hmul:(2*(0+k)+1000)*bs'≤2 ^ 47:=by
     have:(2*(0+k)+1000)*bs'≤(2*(0+k)+1000)*1000:=Nat.mul_le_mul_left _ hB;omega
    rw[if_pos ⟨hl,rfl,hz,by omega,hmul,h1⟩];exact F6
 ·have:=Cells.tU (s:=s) (e:=e) (L:=new) (room:=true);rw[hl] at this;exact⟨e,this⟩
section
variable {kc:Kc} {q:Bool} {s:St} {Φ:Value→St→Prop}
theorem fo {e:Nat} (hs:Ok s):∃ s1,(s.new fun v=>.cells (PT.ofList []) [] 0 e false false v)=s1∧aC [] s s1∧(∃ c zz bB,s1.heap.get s.next=some (.cells c zz 0 e false false bB))∧s1.next=s.next+2 :=
 ⟨_,rfl,(aC.refl hs).new (.inr (Nat.le_refl _)),⟨_,_,_,by simp only[St.new,PT.fH,if_true];rfl⟩,rfl⟩
theorem fm (hs:Ok s) {b n c:Nat} {L:List Value} (H:Sl s 1 (.slice (some ⟨b,0,none⟩) n c) L) (hn:0<n) (hm:n<1000000) (h1:L.all hZ=true) (hΦ:∀ b' s',Obj s' b' L→aC [] s s'→s.next≤b'→Φ (.slice (some ⟨b',0,none⟩) n n) s'):okF q X (KO kc) 173 [.slice (some ⟨b,0,none⟩) n c] s Φ:=by
 have hl:=H.len;refine aW Tryz.func173 (by kernel_rfl) rfl rfl (rs:=[.tmp 2]) rfl (N:=8) rfl rfl ?_;refine aA fun bF aF bD=>?_;simp only[sC,seval];refine aF _ _ ?_;refine aA fun Ψ1 aE aL=>?_;refine aA fun Ψ2 aI bH=>?_;have e1:binop X s.look .eql 62 (.slice (some ⟨b,0,none⟩) n c) (.slice none 0 0)=some (.bool false):=TZ (e:=3) (by kernel_rfl);simp only[sC,seval,e1];refine aI _ _ ?_;simp only[sC,seval];refine aE _ _ ?_;obtain⟨s1,f1,k1,c1,n1⟩:=fo (e:=3) hs;obtain⟨s2,h2,o2,k2,n2⟩:=TN (X:=X) (t:=62) (e:=3) (N:=1) (B:=8) (z:=.int .i64 0) (x:=.slice (some ⟨b,0,none⟩) n c) (k:=n) (new:=L) (by kernel_rfl) (by kernel_rfl) rfl k1.ok c1 rfl (H.aD k1 (by simp)).first (by omega) hn h1 (by omega) (by omega);simp only[sC,seval];rw[f1]
 try simp only[sC,seval]
 refine iS ?_ h2 ?_
 ·simp only[sC,seval]
 simp only[sC,seval];exact hΦ _ s2 o2 (k1.trans k2) k1.next
theorem JE:type_of% (B2 @RX @zd):=B2 @RX @zd
theorem Xq (hs:Ok s) {b n c:Nat} {L:List Value} (H:Sl s 2 (.slice (some ⟨b,0,none⟩) n c) L) (hn:0<n) (hm:n<1000000) (h1:L.all hZ=true) (hΦ:∀ b' s',Obj s' b' L→aC [] s s'→s.next≤b'→Φ (.slice (some ⟨b',0,none⟩) n n) s'):okF q X (KO kc) 194 [.slice (some ⟨b,0,none⟩) n c] s Φ:=by
 have hl:=H.len;refine aW Tryz.func194 (by kernel_rfl) rfl rfl (rs:=[.tmp 2]) rfl (N:=8) rfl rfl ?_;refine aA fun bF aF bD=>?_;simp only[JE,seval];refine aF _ _ ?_;refine aA fun Ψ1 aE aL=>?_;refine aA fun Ψ2 aI bH=>?_;have e1:binop X s.look .eql 135 (.slice (some ⟨b,0,none⟩) n c) (.slice none 0 0)=some (.bool false):=TZ (e:=198) (by kernel_rfl);simp only[JE,seval,e1];refine aI _ _ ?_;simp only[JE,seval];refine aE _ _ ?_;obtain⟨s1,f1,k1,c1,n1⟩:=fo (e:=198) hs;obtain⟨s2,h2,o2,k2,n2⟩:=TN (X:=X) (t:=135) (e:=198) (N:=2) (B:=16) (z:=.agg #[int 0,int 0]) (x:=.slice (some ⟨b,0,none⟩) n c) (k:=n) (new:=L) (by kernel_rfl) (by kernel_rfl) rfl k1.ok c1 rfl (H.aD k1 (by simp)).first (by omega) hn h1 (by omega) (by omega);simp only[JE,seval];rw[f1]
 try simp only[JE,seval]
 refine iS ?_ h2 ?_
 ·simp only[JE,seval]
 simp only[JE,seval];exact hΦ _ s2 o2 (k1.trans k2) k1.next
theorem JG:type_of% (B2 @RX @zg):=B2 @RX @zg
theorem Xr (hs:Ok s) {b n c:Nat} {L:List Value} (H:Sl s 1 (.slice (some ⟨b,0,none⟩) n c) L) (hn:0<n) (hm:n<1000000) (h1:L.all hZ=true) (hΦ:∀ b' s',Obj s' b' L→aC [] s s'→s.next≤b'→Φ (.slice (some ⟨b',0,none⟩) n n) s'):okF q X (KO kc) 230 [.slice (some ⟨b,0,none⟩) n c] s Φ:=by
 have hl:=H.len;refine aW Tryz.func230 (by kernel_rfl) rfl rfl (rs:=[.tmp 2]) rfl (N:=8) rfl rfl ?_;refine aA fun bF aF bD=>?_;simp only[JG,seval];refine aF _ _ ?_;refine aA fun Ψ1 aE aL=>?_;refine aA fun Ψ2 aI bH=>?_;have e1:binop X s.look .eql 199 (.slice (some ⟨b,0,none⟩) n c) (.slice none 0 0)=some (.bool false):=TZ (e:=221) (by kernel_rfl);simp only[JG,seval,e1];refine aI _ _ ?_;simp only[JG,seval];refine aE _ _ ?_;obtain⟨s1,f1,k1,c1,n1⟩:=fo (e:=221) hs;obtain⟨s2,h2,o2,k2,n2⟩:=TN (X:=X) (t:=199) (e:=221) (N:=1) (B:=8) (z:=.int .u64 0) (x:=.slice (some ⟨b,0,none⟩) n c) (k:=n) (new:=L) (by kernel_rfl) (by kernel_rfl) rfl k1.ok c1 rfl (H.aD k1 (by simp)).first (by omega) hn h1 (by omega) (by omega);simp only[JG,seval];rw[f1]
 try simp only[JG,seval]
 refine iS ?_ h2 ?_
 ·simp only[JG,seval]
 simp only[JG,seval];exact hΦ _ s2 o2 (k1.trans k2) k1.next
theorem BE:type_of% (B7 @RX @zR @bG @DP @KN @LY @TV):=B7 @RX @zR @bG @DP @KN @LY @TV
theorem Py (hs:Ok s) {t u n w:Nat} {L:Nat→Nat} (T:fM s t u n w L) (hΦ:∀ t' u' s',fM s' t' u' n w L→aC [] s s'→s.next≤t'→s.next≤u'→Φ (ptr t') s'):okF q X (KO kc) 195 [ptr t] s Φ:=by
 have ks:aC [] s (s.skip 32):=aC.skip hs _;have T1:=T.aD ks (by simp) (by simp);obtain⟨c,⟨U,w1,w2,w3,w4⟩,h3,h4,h5,h6⟩:=T1;have W9:0<(n*w+63)/64:=by
  rcases h6 with rfl | rfl | rfl | rfl <;> omega
 have W7:(n*w+63)/64<1000000:=by
  rcases h6 with rfl | rfl | rfl | rfl <;> omega
 refine aW Tryz.func195 (by kernel_rfl) rfl rfl (rs:=[.tmp 2]) rfl (N:=21) rfl rfl ?_;refine aA fun bF aF bD=>?_;simp only[BE,seval];refine aF _ _ ?_;refine aA fun Ψ1 aE aL=>?_;refine aA fun Ψ2 aI bH=>?_;simp only[BE,seval];refine aH ?_ (SE T ?_)
 ·simp only[BE,seval]
 try simp only[BE,seval]
 refine aI _ _ ?_;simp only[BE,seval];refine aE _ _ ?_;refine aA fun Ψ3 aN bM=>?_;refine dG [(3,12),(7,12)] [t] [] (by kernel_rfl) (by kernel_rfl) (by rfl) fun O hO bC hR=>?_;simp only[BE,seval,T.l0,T.l1,T.l2];refine dL ?_ (Xr ks.ok (c:=(n*w+63)/64) (w1.sl (by rw[List.length_map,w2,Nat.mul_one])) W9 W7 (List.all_eq_true.2 fun v hv=>by obtain⟨y,_,rfl⟩:=List.mem_map.1 hv;rfl) fun u' s2 o2 k2 hu'=>?_)
 ·simp only[BE,seval]
 have fZ:fJ (s.skip 32) s2 t=true:=c.same ks.ok k2 (by simp);obtain⟨px,mF⟩:∃ px,px=s.next+28:=⟨_,rfl⟩;have fr:s2.heap.get px=none:=by
  refine k2.none ?_ (by rw[mF];show s.next+28<s.next+32;omega);rw[mF];exact hs.fresh _ (by omega)
 have n2:=k2.next;have YZ:(s.skip 32).next=s.next+32:=rfl;obtain⟨T2,E2,K2,C2,N2⟩:∃ T2,s2.put px (fun v=>bW.cells (PT.ofList [int n,int w,.slice (some ⟨u',0,none⟩) ((n*w+63)/64) ((n*w+63)/64)]) [] 3 201 false false v)=T2∧aC [] s T2∧Obj T2 px [int n,int w,.slice (some ⟨u',0,none⟩) ((n*w+63)/64) ((n*w+63)/64)]∧T2.next=s2.next :=
  ⟨_,rfl,(ks.trans k2).jT fr (by omega) (by omega) (Nat.le_refl _),Obj.kC rfl,rfl⟩
 have O2:Obj T2 u' (U.map fun(x:Nat)=>Value.int .u64 (x:Int)):=by
  rw[← E2];exact o2.fI (by omega)
 simp only[BE,seval,← mF];refine⟨eP fZ fO,?_⟩
 try simp only[seval,E2]
 refine hR _ _ (aN _ _ ?_);simp only[BE,seval];exact hΦ px u' T2 ⟨C2,⟨U,O2,w2,w3,w4⟩,by omega,h4,h5,h6⟩ K2 (by omega) (by omega)
end
open Go.Proofs
set_option maxRecDepth 100000
set_option maxHeartbeats 4000000
theorem aCo {q:Bool} {X:Env} {K:eI} {f:FuncId} {args:List Value} {s:St} {fn:Func} {v:Value} {s':St} {Φ:Value→St→Prop} (hk:K f args s=none) (hf:X.fn f=some fn) (hb:fn.body=none) (hr:xI s fn args=.ret (v,s')) (h:Φ v s'):okF q X K f args s Φ:=by
 refine⟨1,?_⟩;rw[eW,hk];simp only[hf,hb,hr];exact h
section
variable {kc:Kc} {q:Bool} {s:St} {Φ:Value→St→Prop}
theorem Jl (hs:Ok s) {b:Nat} {M:List (Int×Value)} (H:fV s b M) (hΦ:∀ b' s',fV s' b' M→aC [] s s'→s.next≤b'→Φ (.map (some b')) s'):okF q X (KO kc) 196 [.map (some b)] s Φ:=by
 obtain⟨es,aR,bB,h1,h2,h3⟩:=H;refine aW Tryz.func196 (by kernel_rfl) rfl rfl (rs:=[.tmp 2]) rfl (N:=9) rfl rfl ?_;refine aA fun bF aF bD=>?_;simp only[RX,seval];refine aF _ _ ?_;refine aA fun Ψ1 aE aL=>?_;refine aA fun Ψ2 aI bH=>?_;have e1:binop X s.look .eql 136 (.map (some b)) (.map none)=some (.bool false):=by kernel_rfl
 simp only[RX,seval,e1];refine aI _ _ ?_;simp only[RX,seval];refine aE _ _ ?_;have e2:∀ (H:bL) (ρ:Operand→Value),iO X H ρ (.makeInterface 136 (.tmp 5))=some (.iface 136 (ρ (.tmp 5))):=fun H ρ=>by
  show (match X.ty 136 with
   | some i=>(match i.desc with
    | .interface _=>none
    | _=>some (Value.iface 136 (ρ (.tmp 5))))
   | none=>none)=_
  cases hy:X.ty 136 with
  | none=>exact absurd (congrArg Option.isSome hy) (by rw[show (X.ty 136).isSome=true by kernel_rfl];simp)
  | some i =>
   have hd:(X.ty 136).map (fun i=>i.desc)=some (.map 3 3):=by kernel_rfl
   rw[hy] at hd;have hd:i.desc=.map 3 3:=by simpa using hd
   simp only[hd]
 have e3:∀ v:Value,FK X (.iface 136 v) 136 false=some v:=fun v=>by kernel_rfl
 obtain⟨s1,f1,k1,m1,n1⟩:∃ s1,(s.new fun v=>bW.map es aR v)=s1∧aC [] s s1∧(∃ v,s1.heap.get s.next=some (.map es aR v))∧s1.next=s.next+2 :=
  ⟨_,rfl,(aC.refl hs).new (.inr (Nat.le_refl _)),⟨s.aR,by simp only[St.new,PT.fH,if_true]⟩,rfl⟩
 obtain⟨v1,m1⟩:=m1;obtain⟨fn,hfn,hnm,hbd⟩:∃ fn,X.fn 231=some fn∧(fn.name= "maps.clone"∧fn.origin= "")∧fn.body=none:=⟨Tryz.f231,by kernel_rfl,⟨by kernel_rfl,by kernel_rfl⟩,by kernel_rfl⟩;have hex:xI s fn [.iface 136 (.map (some b))]=.ret (.iface 136 (.map (some s.next)),s1):=by
  unfold xI;rw[if_pos hnm];simp only[h1];rw[← f1]
 simp only[RX,seval,e2];refine aH ?_ (aCo rfl hfn hbd hex ?_)
 ·simp only[RX,seval]
 simp only[RX,seval,e3];exact hΦ s.next s1 ⟨es,aR,v1,m1,h2,h3⟩ k1 (Nat.le_refl _)
end
open Go.Proofs
set_option maxRecDepth 100000
set_option maxHeartbeats 8000000
def PH.by (P:PH) (nb nw st su pt pu mp mf:Nat):PH:={P with nb:=nb,nw:=nw,st:=st,su:=su,pt:=pt,pu:=pu,mp:=mp,mf:=mf}
theorem row_one (n:Nat) (f:Nat→Int):(row n fun i=>int (f i)).all hZ=true:=List.all_eq_true.2 fun v hv=>by
 unfold row at hv;obtain⟨y,_,rfl⟩:=List.mem_map.1 hv
 try rfl
section
variable {kc:Kc} {q:Bool} {s:St} {Φ:Value→St→Prop} {h r:Nat} {P:PH} {R:PR}
theorem oR:type_of% (B9 @RX @pO @pW @gY @dF @tL @oM @zP (B6 @BM @BU @Bh @GF @bG @xq)):=B9 @RX @pO @pW @gY @dF @tL @oM @zP (B6 @BM @BU @Bh @GF @bG @xq)
theorem I7 (hs:Ok s) (H:bK s h P) (hΦ:∀ h' nb nw st su pt pu mp mf s',bK s' h' (P.by nb nw st su pt pu mp mf)→(∀ y∈(P.by nb nw st su pt pu mp mf).aS h',s.next≤y)→aC [] s s'→Φ (ptr h') s'):okF q X (KO kc) 126 [ptr h] s Φ:=by
 have n2:=H.n2;have bY:=H.bY;have ks:aC [] s (s.skip 74):=aC.skip hs _;have H0:=H.aJ ks;refine aW Tryz.func126 (by kernel_rfl) rfl rfl (rs:=[.tmp 2]) rfl (N:=42) rfl rfl ?_;refine aA fun bF aF bD=>?_;simp only[oR,seval];refine aF _ _ ?_;refine aA fun Ψ1 aE aL=>?_;refine aA fun Ψ2 aI bH=>?_;simp only[oR,seval];refine aH ?_ (vR H ?_)
 ·simp only[oR,seval]
 try simp only[oR,seval]
 refine aI _ _ ?_;simp only[oR,seval];refine aE _ _ ?_;have YZ:(s.skip 74).next=s.next+74:=rfl;refine aA fun Ψ3 aN bM=>?_;refine dG [(8,4),(13,4),(13,9),(18,4),(18,9),(18,14),(23,4),(23,9),(23,14),(23,19),(28,4),(28,9),(28,14),(28,19),(28,24),(33,4),(33,9),(33,14),(33,19),(33,24),(33,29)] [h] [] (by kernel_rfl) (by kernel_rfl) (by rfl) fun O hO bC hR=>?_;simp only[oR,seval,H.l0];refine dL ?_ (Xq ks.ok (n:=P.N) (c:=P.N) (H0.cb.sl (by rw[fY];omega)) (by omega) (by omega) (row_one _ fun i=>if i%2=0 then P.bs (i/2) else P.bp (i/2)) fun nb s1 o1 k1 g1=>?_)
 ·simp only[oR,seval]
 have H1:=H0.aJ k1;simp only[oR,seval,H1.l1];refine⟨eP (H0.c.same ks.ok k1 (by simp)) fO,?_⟩;refine dL ?_ (fm k1.ok (n:=64*P.N) (c:=64*P.N) (H1.cw.sl (by rw[fY,Nat.mul_one])) (by omega) (by omega) (row_one _ P.w) fun nw s2 o2 k2 g2=>?_)
 ·simp only[oR,seval]
 have H2:=H1.aJ k2;simp only[oR,seval,H2.l2];refine⟨eP (H1.c.same k1.ok k2 (by simp)) fO,?_⟩;refine dL ?_ (Py k2.ok H2.ts fun st su s3 T3 k3 g3 GL=>?_)
 ·simp only[oR,seval]
 have H3:=H2.aJ k3;simp only[oR,seval,H3.l3];refine⟨eP (H2.c.same k2.ok k3 (by simp)) fO,?_⟩;refine dL ?_ (Py k3.ok H3.tp fun pt pu s4 T4 k4 g4 iv=>?_)
 ·simp only[oR,seval]
 have H4:=H3.aJ k4;simp only[oR,seval,H4.l4];refine⟨eP (H3.c.same k3.ok k4 (by simp)) fO,?_⟩;refine dL ?_ (Jl k4.ok H4.mp fun mp s5 M5 k5 g5=>?_)
 ·simp only[oR,seval]
 have H5:=H4.aJ k5;have l5:aG s5.look ⟨h,5,none⟩=some (.map (some P.mf)):=H5.c.load rfl;simp only[oR,seval,l5];refine⟨eP (H4.c.same k4.ok k5 (by simp)) fO,?_⟩;refine dL ?_ (Jl k5.ok H5.mf fun mf s6 M6 k6 g6=>?_)
 ·simp only[oR,seval]
 have H6:=H5.aJ k6;have n1:=k1.next;have Jx:=k2.next;have n3:=k3.next;have n4:=k4.next;have n5:=k5.next;have n6:=k6.next;have tS:aC [] s s6:=(((((ks.trans k1).trans k2).trans k3).trans k4).trans k5).trans k6;obtain⟨px,mF⟩:∃ px,px=s.next+70:=⟨_,rfl⟩;have LU:aC [] (s.skip 74) s6:=((((k1.trans k2).trans k3).trans k4).trans k5).trans k6;have fr:s6.heap.get px=none:=by
  refine LU.none ?_ (by omega);rw[mF];exact hs.fresh _ (by omega)
 obtain⟨T7,E7,K7,C7,N7⟩:∃ T7,s6.put px (fun v=>bW.cells (PT.ofList [.slice (some ⟨nb,0,none⟩) P.N P.N,.slice (some ⟨nw,0,none⟩) (64*P.N) (64*P.N),ptr st,ptr pt,.map (some mp),.map (some mf),int P.born]) [] 7 138 false false v)=T7∧aC [] s T7∧Obj T7 px [.slice (some ⟨nb,0,none⟩) P.N P.N,.slice (some ⟨nw,0,none⟩) (64*P.N) (64*P.N),ptr st,ptr pt,.map (some mp),.map (some mf),int P.born]∧T7.next=s6.next :=
  ⟨_,rfl,tS.jT fr (by omega) (by omega) (Nat.le_refl _),Obj.kC rfl,rfl⟩
 simp only[oR,seval,H6.l6,← mF];refine⟨eP (H5.c.same k5.ok k6 (by simp)) fO,?_⟩
 try simp only[seval,E7]
 refine hR _ _ (aN _ _ ?_);simp only[oR,seval];have qg:=o1.lt k1.ok;have Jg:=o2.lt k2.ok;obtain⟨U3,E9,_⟩:=T3.ws;have lt3:=T3.c.lt k3.ok;have aIs:=E9.lt k3.ok;obtain⟨U4,E_,_⟩:=T4.ws;have lt4:=T4.c.lt k4.ok;have aIt:=E_.lt k4.ok;have lt5:=M5.lt k5.ok;have t3:=T3.ne;have t4:=T4.ne;have BS:=k5.trans k6;have Hd:=k4.trans BS;have AF:=k3.trans Hd;have Kw:=((o1.aD k2 (by simp)).aD AF (by simp)).fI (x:=px) (f:=fun v=>bW.cells (PT.ofList [.slice (some ⟨nb,0,none⟩) P.N P.N,.slice (some ⟨nw,0,none⟩) (64*P.N) (64*P.N),ptr st,ptr pt,.map (some mp),.map (some mf),int P.born]) [] 7 138 false false v) (by omega);have Kx:=(o2.aD AF (by simp)).fI (x:=px) (f:=fun v=>bW.cells (PT.ofList [.slice (some ⟨nb,0,none⟩) P.N P.N,.slice (some ⟨nw,0,none⟩) (64*P.N) (64*P.N),ptr st,ptr pt,.map (some mp),.map (some mf),int P.born]) [] 7 138 false false v) (by omega);have Sm:∀ {t u n w:Nat} {L:Nat→Nat},fM s6 t u n w L→t≠px→u≠px→fM T7 t u n w L:=fun T ht hu=>by
  obtain⟨c,⟨U,w1,w2,w3,w4⟩,h3,h4,h5,h6⟩:=T;rw[← E7];exact⟨c.fI ht,⟨U,w1.fI hu,w2,w3,w4⟩,h3,h4,h5,h6⟩
 have Ju:∀ {b:Nat} {M:List (Int×Value)},fV s6 b M→b≠px→fV T7 b M:=fun M hb=>by
  rw[← E7];exact M.fI hb
 rw[E7] at Kw Kx;have lt6:=M6.lt k6.ok;have q1:st≠px:=by omega
 have q2:su≠px:=by omega
 have q3:pt≠px:=by omega
 have q4:pu≠px:=by omega
 have q5:mp≠px:=by omega
 have q6:mf≠px:=by omega
 refine hΦ px nb nw st su pt pu mp mf T7 ⟨C7,Kw,Kx,Sm (T3.aD Hd (by simp) (by simp)) q1 q2,Sm (T4.aD BS (by simp) (by simp)) q3 q4,Ju (M5.aD k6 (by simp)) q5,Ju M6 q6,?_,n2,bY,H.wr⟩ (fun y hy=>?_) K7
 ·simp only[List.nodup_cons,List.mem_cons,List.not_mem_nil,or_false,not_or,List.nodup_nil,and_true,not_false_eq_true,PH.by];omega
 ·simp only[PH.aS,PH.by,List.mem_cons,List.not_mem_nil,or_false] at hy;rcases hy with rfl | rfl | rfl | rfl | rfl | rfl | rfl | rfl | rfl <;> omega
end
open Go.Proofs
set_option maxRecDepth 100000
set_option maxHeartbeats 8000000
def PR.by (R:PR) (ns ng:Nat) (va:Option Addr) (vc:Nat):PR:={R with ns:=ns,ng:=ng,va:=va,vc:=vc}
section
variable {kc:Kc} {q:Bool} {s:St} {Φ:Value→St→Prop} {h r:Nat} {P:PH} {R:PR}
theorem uA:type_of% (B8 @RX @DO @bG @KK @dF @KL @zQ @TS):=B8 @RX @DO @bG @KK @dF @KL @zQ @TS
theorem aF4 (hs:Ok s) (A:cV s r R) (hΦ:∀ r' ns ng va vc s',cV s' r' (R.by ns ng va vc)→(∀ y∈(R.by ns ng va vc).aS r',s.next≤y)→aC [] s s'→Φ (ptr r') s'):okF q X (KO kc) 127 [ptr r] s Φ:=by
 have m1:=A.m1;have m4:=A.m4;have ql:=A.ql;have nO:=A.lq;have ks:aC [] s (s.skip 44):=aC.skip hs _;have A0:=A.aJ ks;refine aW Tryz.func127 (by kernel_rfl) rfl rfl (rs:=[.tmp 2]) rfl (N:=27) rfl rfl ?_;refine aA fun bF aF bD=>?_;simp only[uA,seval];refine aF _ _ ?_;refine aA fun Ψ1 aE aL=>?_;refine aA fun Ψ2 aI bH=>?_;simp only[uA,seval];refine aH ?_ (IT A ?_)
 ·simp only[uA,seval]
 try simp only[uA,seval]
 refine aI _ _ ?_;simp only[uA,seval];refine aE _ _ ?_;have YZ:(s.skip 44).next=s.next+44:=rfl;refine aA fun Ψ3 aN bM=>?_;refine dG [(3,8),(12,8),(3,13),(17,8),(17,13),(3,18)] [r] [] (by kernel_rfl) (by kernel_rfl) (by rfl) fun O hO bC hR=>?_;simp only[uA,seval,A.l0,A.l1];refine dL ?_ (fm ks.ok (n:=16*R.m) (c:=16*R.m) (A0.cs.sl (by rw[fY,Nat.mul_one])) (by omega) (by omega) (row_one _ R.sl) fun ns s1 o1 k1 g1=>?_)
 ·simp only[uA,seval]
 have A1:=A0.aJ k1;simp only[uA,seval,A1.l2];refine⟨eP (A0.c.same ks.ok k1 (by simp)) fO,?_⟩;refine dL ?_ (fm k1.ok (n:=16) (c:=16) (A1.cg.sl (by rw[fY])) (by omega) (by omega) (row_one _ R.gl) fun ng s2 o2 k2 g2=>?_)
 ·simp only[uA,seval]
 have A2:=A1.aJ k2;simp only[uA,seval,A2.l3];refine⟨eP (A1.c.same k1.ok k2 (by simp)) fO,?_⟩;refine dL ?_ (zs k2.ok A2.cq.sl (by omega) (DG _) fun va vc s3 pQ b3 k3 g3=>?_)
 ·simp only[uA,seval]
 have A3:=A2.aJ k3;have n1:=k1.next;have n2:=k2.next;have n3:=k3.next;have fC:aC [] s s3:=((ks.trans k1).trans k2).trans k3;obtain⟨px,mF⟩:∃ px,px=s.next+40:=⟨_,rfl⟩;have fr:s3.heap.get px=none:=by
  refine((k1.trans k2).trans k3).none ?_ (by omega);rw[mF];exact hs.fresh _ (by omega)
 obtain⟨T7,E7,K7,C7,N7⟩:∃ T7,s3.put px (fun v=>bW.cells (PT.ofList [int R.m,.slice (some ⟨ns,0,none⟩) (16*R.m) (16*R.m),.slice (some ⟨ng,0,none⟩) 16 16,.slice va R.vn vc]) [] 4 177 false false v)=T7∧aC [] s T7∧Obj T7 px [int R.m,.slice (some ⟨ns,0,none⟩) (16*R.m) (16*R.m),.slice (some ⟨ng,0,none⟩) 16 16,.slice va R.vn vc]∧T7.next=s3.next :=
  ⟨_,rfl,fC.jT fr (by omega) (by omega) (Nat.le_refl _),Obj.kC rfl,rfl⟩
 simp only[uA,seval,← mF];refine⟨eP (A2.c.same k2.ok k3 (by simp)) fO,?_⟩
 try simp only[seval,E7]
 refine hR _ _ (aN _ _ ?_);simp only[uA,seval];have qg:=o1.lt k1.ok;have Jg:=o2.lt k2.ok;have lt3:=b3.lt k3.ok;have q1:ns≠px:=by omega
 have q2:ng≠px:=by omega
 have q3:px∉nameOf (.slice va R.vn vc):=fun hh=>by have:=g3 _ hh;omega
 have O1:=((o1.aD k2 (by simp)).aD k3 (by simp)).fI (x:=px) (f:=fun v=>bW.cells (PT.ofList [int R.m,.slice (some ⟨ns,0,none⟩) (16*R.m) (16*R.m),.slice (some ⟨ng,0,none⟩) 16 16,.slice va R.vn vc]) [] 4 177 false false v) q1;have O2:=(o2.aD k3 (by simp)).fI (x:=px) (f:=fun v=>bW.cells (PT.ofList [int R.m,.slice (some ⟨ns,0,none⟩) (16*R.m) (16*R.m),.slice (some ⟨ng,0,none⟩) 16 16,.slice va R.vn vc]) [] 4 177 false false v) q2;have O3:=b3.fI (x:=px) (f:=fun v=>bW.cells (PT.ofList [int R.m,.slice (some ⟨ns,0,none⟩) (16*R.m) (16*R.m),.slice (some ⟨ng,0,none⟩) 16 16,.slice va R.vn vc]) [] 4 177 false false v) q3;rw[E7] at O1 O2 O3;have q4:px≠ns∧px≠ng∧ns≠ng:=⟨by omega,by omega,by omega⟩;have q5:∀ b∈nameOf (.slice va R.vn vc),b≠px∧b≠ns∧b≠ng:=fun b hb=>by
  have:=g3 b hb;exact⟨by omega,by omega,by omega⟩
 refine hΦ px ns ng va vc T7 ⟨C7,O1,O2,O3,q4,q5,m1,m4,ql,A.bs,A.bg,A.bq⟩ (fun y hy=>?_) K7;have hy:y∈[px,ns,ng]++nameOf (.slice va R.vn vc):=hy;rcases List.mem_append.1 hy with h | h
 ·simp only[List.mem_cons,List.not_mem_nil,or_false] at h;rcases h with rfl | rfl | rfl <;> omega
 ·have:=g3 y h;omega
end
end Go.Dust
