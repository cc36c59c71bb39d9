/- VerifySound walked in D, function by function, and its plain law (H4 H5 H6). -/
import Derived.Test.YtaoiejcaopgjcaaGreat2
set_option linter.unusedVariables false
set_option linter.unusedSimpArgs false
open Nat renaming reduceEqDiff → zA, reduceMul → zB, reduceAdd → zC, reduceBEq → zD
open Int renaming reduceEq → zE, reduceBEq → zF
namespace Go.Dust
open Go.Proofs
set_option maxRecDepth 100000
set_option maxHeartbeats 2000000
theorem IF:∀ (L:List cV) (a:Int),below L a≤L.length
 | [],_=>Nat.le_refl _
 | x::L,a=>by
  unfold below
  rw[List.takeWhile_cons]
  split
  ·rw[List.length_cons,List.length_cons]
   have:=IF L a
   unfold below at this
   omega
  ·exact Nat.zero_le _
theorem TS {L:List cV} {a:Int} {j:Nat} (h:j<below L a) (hj:j<L.length):L[j].a<a:=by
 refine kM.IG (L:=L) (a:=a) _ ?_
 rw[List.mem_take_iff_getElem]
 exact⟨j,by omega,rfl⟩
theorem TQ:∀ {L:List cV} {a:Int} (h:below L a<L.length),¬ L[below L a].a<a
 | [],_,h=>absurd h (Nat.not_lt_zero _)
 | x::L,a,h=>by
  have e:below (x::L) a=if decide (x.a<a)=true then below L a+1 else 0:=by
   unfold below
   rw[List.takeWhile_cons]
   split <;> rfl
  by_cases hx:x.a<a
  ·rw[if_pos (decide_eq_true hx)] at e
   simp only[e] at h ⊢
   exact TQ (L:=L) (by simpa using h)
  ·rw[if_neg (by simpa using hx)] at e
   simp only[e]
   exact hx
theorem KV (L:List cV) (o:cV):(CV L o).length=L.length+1:=by
 unfold CV
 rw[List.length_append,List.length_append,List.length_take,List.length_drop]
 have:=IF L o.a
 simp only[List.length_cons,List.length_nil]
 omega
section
variable {kc:Kc} {q:Bool} {s:St} {Φ:Value→St→Prop} {g:Nat} {G:lM} {P:PH}
theorem gD:type_of% (An @RX<|An @eK<|An @jA<|An @oO<|An @jX<|An @lS<|An @bF<|An @RF<|An @IJ<|@SW):=An @RX<|An @eK<|An @jA<|An @oO<|An @jX<|An @lS<|An @bF<|An @RF<|An @IJ<|@SW
theorem ref_put (hs:Ok s) (H:cN s g G) (o:cV) (hr:Obj s o.rn (o.rs.map int)) (hd:Obj s o.dn (o.ds.map int)) (hn1:o.rn∉G.aU g) (hn2:o.dn∉G.aU g) (hn3:o.rn≠o.dn) (hlen:G.L.length<2048)
  (hΦ:∀ va vc s',cN s' g {G with va:=va,vc:=vc,L:=CV G.L o}→aC [g] s s'→(∀ b∈nameOf (.slice va (CV G.L o).length vc),s.next≤b)→Φ (.tuple #[]) s') :
  okF q X (KO kc) 217 [ptr g,.agg #[int o.a,int o.id,int o.sh.r,int o.sh.d,int o.sh.k,.slice (some ⟨o.rn,0,none⟩) o.rs.length o.rs.length,.slice (some ⟨o.dn,0,none⟩) o.ds.length o.ds.length,.bool o.vI]] s Φ:=by
 have hg:g<s.next:=H.c.lt hs
 have hbl:=IF G.L o.a
 have hrl:=hr.lt hs
 have hdl:=hd.lt hs
 refine aG rfl fn_217 rfl (rs:=[]) rfl (N:=51) rfl rfl ?_
 refine aA fun Ψ0 hΨ0 hΨ0'=>?_
 simp only[gD,↓reduceIte,zA,reduceCtorEq,zE,zB,zC,zD,zF]
 obtain⟨s1,e1,k1,c1,n1⟩:=aT hs (L:=o.C) (n:=8) (e:=133) rfl
 unfold cV.C at e1
 rw[e1]
 refine hΨ0 _ _ ?_
 have H1:=H.aN k1
 have la:aI s1.look ⟨s.next,0,none⟩=some (int o.a):=c1.load rfl
 refine aA fun Ψ1 hΨ1 hΨ1'=>?_
 simp only[gD,↓reduceIte,zA,reduceCtorEq,zE,zB,zC,zD,zF]
 refine hΨ1 _ _ ?_
 refine aA fun Ψ2 hΨ2 hΨ2'=>?_
 refine aL fun Ψ3 hΨ3 hΨ3e hΨ3'=>?_
 refine yI (n:=below G.L o.a) (fun j a' s'=>a'.aD 0=ptr g∧a'.aD 3=ptr s.next∧a'.aD 4=int j∧aC [] s1 s') ?_ ?_ ?_ (Nat.zero_le _) ?_
 ·rintro j a' s' hj ⟨r0,r3,r4,hk⟩ Ψ' hΨ'
  have H':=H1.aN hk
  have la':=cW hk (by simp) la
  refine aQ [] [] [(7,13)] (by kernel_rfl) (by kernel_rfl) (by rfl) fun O hO ΨR hR=>?_
  have y7:∀ a,aE O a 7=aM (a.aD 13):=hO (7,13) (by simp)
  by_cases hjl:j<G.L.length
  ·obtain⟨vb,voff,hv⟩:=H'.addr (show 0<G.L.length by omega)
   have g1:(0:Int)≤(j:Int):=Int.natCast_nonneg _
   have g2:(j:Int)<((G.L.length:Nat):Int):=by omega
   have l1:=H'.l1
   rw[hv] at l1
   have lj:aI s'.look ⟨vb,voff+j*8,none⟩=some (int G.L[j].a):=H'.lo hv hjl (j:=0) rfl
   simp only[gD,↓reduceIte,zA,reduceCtorEq,zE,zB,zC,zD,zF,y7,r0,r3,r4,l1,g1,g2,and_self,aJ,Int.toNat_natCast,lj,la',decide_true]
   refine hR _ _ (hΨ' _ _ (decide (G.L[j].a<o.a)) ?_ ?_ ⟨?_,?_,?_,hk.cB _⟩)
   ·simp only[gD,↓reduceIte,zA,reduceCtorEq,zE,zB,zC,zD,zF]
   ·rw[decide_eq_true_eq]
    constructor
    ·intro h
     rcases Nat.lt_or_ge j (below G.L o.a) with h' | h'
     ·exact h'
     ·obtain rfl:j=below G.L o.a:=by omega
      exact absurd h (TQ hjl)
    ·intro h;exact TS h hjl
   ·simp only[gD,↓reduceIte,zA,reduceCtorEq,zE,zB,zC,zD,zF,r0]
   ·simp only[gD,↓reduceIte,zA,reduceCtorEq,zE,zB,zC,zD,zF,r3]
   ·simp only[gD,↓reduceIte,zA,reduceCtorEq,zE,zB,zC,zD,zF,r4]
  ·have g2:¬ (j:Int)<((G.L.length:Nat):Int):=by omega
   have l1:=H'.l1
   simp only[gD,↓reduceIte,zA,reduceCtorEq,zE,zB,zC,zD,zF,y7,r0,r3,r4,l1,g2,decide_false]
   refine hR _ _ (hΨ' _ _ false ?_ ?_ ⟨?_,?_,?_,hk.cB _⟩)
   ·simp only[gD,↓reduceIte,zA,reduceCtorEq,zE,zB,zC,zD,zF]
   ·constructor
    ·intro h;cases h
    ·intro h;omega
   ·simp only[gD,↓reduceIte,zA,reduceCtorEq,zE,zB,zC,zD,zF,r0]
   ·simp only[gD,↓reduceIte,zA,reduceCtorEq,zE,zB,zC,zD,zF,r3]
   ·simp only[gD,↓reduceIte,zA,reduceCtorEq,zE,zB,zC,zD,zF,r4]
 ·rintro j a' s' hj ⟨r0,r3,r4,hk⟩ Ψ' w1 w2 w3
  have w:IntKind.i64.wrap ((j:Int)+1)=((j+1:Nat):Int):=by rw[aR (by omega) (by omega)];rfl
  simp only[gD,↓reduceIte,zA,reduceCtorEq,zE,zB,zC,zD,zF,r4,w]
  refine w1 _ _ ⟨?_,?_,?_,hk⟩
  all_goals try simp only[gD,↓reduceIte,zA,reduceCtorEq,zE,zB,zC,zD,zF,r0,r3]
 ·rintro a' s2 ⟨r0,r3,r4,hk⟩
  refine hΨ3e _ _ (hΨ2 _ _ ?_)
  have H2:=H1.aN hk
  have k02:=k1.trans hk
  have c2:=c1.aF hk (by simp)
  refine aA fun Ψ4 hΨ4 hΨ4'=>?_
  simp only[gD,↓reduceIte,zA,reduceCtorEq,zE,zB,zC,zD,zF]
  refine hΨ4 _ _ ?_
  refine aA fun Ψ5 hΨ5 hΨ5'=>?_
  obtain⟨w1,wc1,x1,f1⟩:=yT (Y:=X) (t:=128) (lo:=none) (hi:=some (int (below G.L o.a))) (l:=0) (h:=below G.L o.a) IV TA (by omega) H2.cl (by omega) (by omega) (.inl ⟨rfl,rfl⟩) (.inr rfl)
  rw[Nat.zero_mul,List.drop_zero,DO cV.oT] at f1
  rw[Nat.sub_zero] at x1 f1
  obtain⟨a3,c3,s3,e3,b3,k3,m3⟩:=vU (n:=0) (c:=0) (a:=none) hk.ok .nil (x:=.slice w1 (below G.L o.a) wc1) rfl f1 (by rw[List.length_take];omega) (by omega)
  rw[Nat.zero_add,List.nil_append] at *
  have k3:aC [] s2 s3:=k3
  have m3:∀ b∈nameOf (.slice a3 (below G.L o.a) c3),s.next≤b:=fun b hb=>(m3 b hb).elim (fun h=>by cases h) (fun h=>by have:=k02.next;omega)
  simp only[gD,↓reduceIte,zA,reduceCtorEq,zE,zB,zC,zD,zF,r0,r4,H2.l1,x1]
  refine jZ ?_ e3 ?_
  ·simp only[gD,↓reduceIte,zA,reduceCtorEq,zE,zB,zC,zD,zF]
  simp only[gD,↓reduceIte,zA,reduceCtorEq,zE,zB,zC,zD,zF]
  refine hΨ5 _ _ ?_
  have H3:=H2.aN k3
  have k03:=k02.trans k3
  have c3':=c2.aF k3 (by simp)
  refine aA fun Ψ6 hΨ6 hΨ6'=>?_
  have lC:aS s3.look ⟨s.next,0,none⟩ 8=some o.C:=c3'.aS (i:=0) (k:=8) (Nat.le_refl _)
  unfold cV.C at lC
  obtain⟨s4,e4,k4,c4,n4⟩:=aT k03.ok (L:=o.C) (n:=8) (e:=133) rfl
  have b4:=b3.aF k4 (by simp)
  have f4:iS s4.look 8 1 (.slice (some ⟨s3.next,0,none⟩) 1 1)=some ([o].flatMap cV.C):=gW (by omega) (c4.aS (i:=0) (k:=8) (Nat.le_refl _))
  obtain⟨a5,c5,s5,e5,b5,k5,m5⟩:=vU k4.ok b4 (x:=.slice (some ⟨s3.next,0,none⟩) 1 1) rfl f4 rfl (by omega)
  unfold cV.C at e4
  simp only[gD,↓reduceIte,zA,reduceCtorEq,zE,zB,zC,zD,zF,r3,lC]
  rw[e4]
  refine jZ ?_ e5 ?_
  ·simp only[gD,↓reduceIte,zA,reduceCtorEq,zE,zB,zC,zD,zF]
  simp only[gD,↓reduceIte,zA,reduceCtorEq,zE,zB,zC,zD,zF]
  refine hΨ6 _ _ ?_
  have k04:=k03.trans k4
  have k05:aC [] s s5:=k04.step k5 fun y hy=>.inr (hs.fresh y (m3 y hy))
  have m5:∀ b∈nameOf (.slice a5 (below G.L o.a+1) c5),s.next≤b:=fun b hb=>by
   rcases m5 b hb with h | h
   ·exact m3 b h
   ·have:=k04.next;omega
  have H5:=H.aN k05
  obtain⟨w6,wc6,x6,f6⟩:=yT (Y:=X) (t:=128) (lo:=some (int (below G.L o.a))) (hi:=none) (l:=below G.L o.a) (h:=G.L.length) IV TA (by omega) H5.cl hbl (by omega) (.inr rfl) (.inl ⟨rfl,rfl⟩)
  rw[AE cV.oT,List.take_of_length_le (by rw[kO cV.oT,List.length_drop];omega)] at f6
  obtain⟨a6,c6,s6,e6,b6,k6,m6⟩:=vU k05.ok b5 (x:=.slice w6 (G.L.length-below G.L o.a) wc6) rfl f6 (by rw[List.length_drop]) (by omega)
  simp only[gD,↓reduceIte,zA,reduceCtorEq,zE,zB,zC,zD,zF,r0,r4,H5.l1,x6]
  refine jZ ?_ e6 ?_
  ·simp only[gD,↓reduceIte,zA,reduceCtorEq,zE,zB,zC,zD,zF]
  have hgn:g∉nameOf (.slice a5 (below G.L o.a+1) c5):=fun h=>by have:=m5 _ h;omega
  obtain⟨s7,e7,o7,k7⟩:=((H5.c).aF k6 hgn).dU k6.ok (i:=1) (v:=.slice a6 (below G.L o.a+1+(G.L.length-below G.L o.a)) c6) (by simp) rfl
  simp only[gD,↓reduceIte,zA,reduceCtorEq,zE,zB,zC,zD,zF,e7]
  have m6:∀ b∈nameOf (.slice a6 (below G.L o.a+1+(G.L.length-below G.L o.a)) c6),s.next≤b:=fun b hb=>by
   rcases m6 b hb with h | h
   ·exact m5 b h
   ·have:=k05.next;omega
  have eN:(CV G.L o).length=below G.L o.a+1+(G.L.length-below G.L o.a):=by rw[KV];omega
  have k06:aC [] s s6:=k05.step k6 fun y hy=>.inr (hs.fresh y (m5 y hy))
  have k07:aC [g] s s7:=k06.any.trans k7
  have hndg:=H.nd
  have hfl:=H.cH hs
  have og:g∈G.aU g:=List.mem_append_left _ (List.mem_cons_self ..)
  refine hΦ a6 c6 s7 (H.newL k07 (fun x _ hne hm=>hne (List.mem_singleton.1 hm)) ?_ ?_ (fun x hx=>?_) ?_ ?_ (by rw[KV];omega)) k07 (by rw[eN];exact m6)
  ·rw[eN];exact o7
  ·rw[eN]
   have e:(CV G.L o).flatMap cV.C=(G.L.take (below G.L o.a)).flatMap cV.C++[o].flatMap cV.C++(G.L.drop (below G.L o.a)).flatMap cV.C:=by unfold CV;rw[List.flatMap_append,List.flatMap_append]
   rw[e]
   refine b6.aF k7 fun b hb hbg=>?_
   have:=m6 b hb
   rw[List.mem_singleton.1 hbg] at this
   omega
  ·rcases kM.rN.1 hx with h | h
   ·have hne:x.rn≠g∧x.dn≠g:=by
     unfold lM.own at hndg
     rw[List.nodup_cons] at hndg
     exact⟨fun e=>hndg.1 (by rw[← e];exact List.mem_cons_of_mem _ (List.mem_flatMap.2 ⟨x,h,by simp⟩)),fun e=>hndg.1 (by rw[← e];exact List.mem_cons_of_mem _ (List.mem_flatMap.2 ⟨x,h,by simp⟩))⟩
    exact⟨(H.cr x h).1.aF k07 (by simpa using hne.1),(H.cr x h).2.aF k07 (by simpa using hne.2)⟩
   ·rw[h]
    exact⟨hr.aF k07 (by simp;intro e;exact hn1 (by rw[e];exact og)),hd.aF k07 (by simp;intro e;exact hn2 (by rw[e];exact og))⟩
  ·have h1:o.rn∉G.own g:=fun h=>hn1 (List.mem_append_left _ h)
   have h2:o.dn∉G.own g:=fun h=>hn2 (List.mem_append_left _ h)
   have hp:(({G with L:=CV G.L o}:lM).own g).Perm (o.rn::o.dn::G.own g):=by
    unfold lM.own CV
    simp only[List.flatMap_append,List.flatMap_cons,List.flatMap_nil,List.append_nil]
    have e0:(G.L.flatMap fun o=>[o.rn,o.dn])=((G.L.take (below G.L o.a)).flatMap fun o=>[o.rn,o.dn])++((G.L.drop (below G.L o.a)).flatMap fun o=>[o.rn,o.dn]):=by rw[← List.flatMap_append,List.take_append_drop]
    rw[e0]
    generalize ((G.L.take (below G.L o.a)).flatMap fun o=>[o.rn,o.dn])=A
    generalize ((G.L.drop (below G.L o.a)).flatMap fun o=>[o.rn,o.dn])=B
    have p1:(g::G.bn::(A++[o.rn,o.dn]++B))=(g::G.bn::A)++([o.rn,o.dn]++B):=by simp
    have p2:o.rn::o.dn::g::G.bn::(A++B)=[o.rn,o.dn]++((g::G.bn::A)++B):=by simp
    rw[p1,p2,← List.append_assoc,← List.append_assoc]
    exact List.Perm.append_right B List.perm_append_comm
   rw[hp.nodup_iff,List.nodup_cons,List.nodup_cons]
   exact⟨by simp only[List.mem_cons,not_or];exact⟨hn3,h1⟩,h2,hndg⟩
  ·rw[eN]
   intro b hb hm
   have h1:=m6 b hb
   have h2:b<s.next:=by
    unfold lM.own at hm
    rcases List.mem_cons.1 hm with h | h
    ·omega
    ·rcases List.mem_cons.1 h with h | h
     ·rw[h];exact hfl _ (List.mem_append_left _ (List.mem_cons_of_mem _ (List.mem_cons_self ..)))
     ·obtain⟨x,hx,hbx⟩:=List.mem_flatMap.1 h
      rcases kM.rN.1 hx with h' | h'
      ·exact hfl _ (List.mem_append_left _ (List.mem_cons_of_mem _ (List.mem_cons_of_mem _ (List.mem_flatMap.2 ⟨x,h',hbx⟩))))
      ·subst h'
       simp only[List.mem_cons,List.not_mem_nil,or_false] at hbx
       rcases hbx with rfl | rfl <;> assumption
   omega
 ·refine⟨?_,?_,?_,.refl k1.ok⟩
  all_goals try simp only[gD,↓reduceIte,zA,reduceCtorEq,zE,zB,zC,zD,zF]
  rfl
end
open Go.Proofs
set_option maxRecDepth 100000
set_option maxHeartbeats 2000000
section
variable {kc:Kc} {q:Bool} {s:St} {Φ:Value→St→Prop} {g:Nat} {G:lM} {P:PH}
theorem cN.sn (H:cN s g G):G.bn≠g∧(∀ o∈G.L,o.rn≠G.bn∧o.dn≠G.bn∧o.rn≠g∧o.dn≠g)∧G.bn∉nameOf (.slice G.va G.L.length G.vc)∧g∉nameOf (.slice G.va G.L.length G.vc):=by
 have nd:=H.nd
 unfold lM.own at nd
 rw[List.nodup_cons,List.nodup_cons] at nd
 obtain⟨n1,n2,_⟩:=nd
 have og:g∈G.own g:=List.mem_cons_self ..
 have ob:G.bn∈G.own g:=List.mem_cons_of_mem _ (List.mem_cons_self ..)
 refine⟨fun e=>n1 (by rw[← e];exact List.mem_cons_self ..),fun o ho=>⟨fun e=>n2 ?_,fun e=>n2 ?_,fun e=>n1 (List.mem_cons_of_mem _ ?_),fun e=>n1 (List.mem_cons_of_mem _ ?_)⟩,fun h=>H.nl _ h ob,fun h=>H.nl _ h og⟩
 all_goals exact List.mem_flatMap.2 ⟨o,ho,by rw[← e];simp⟩
theorem cN.jr {s':St} {f f':Nat→Int} (H:cN s g G) (k:aC [G.bn] s s') (hc:Obj s' G.bn (row (2*G.N) fun i=>int (if i%2=0 then f (i/2) else f' (i/2)))):cN s' g {G with bs:=f,bp:=f'}:=by
 obtain⟨h1,h2,h3,h4⟩:=H.sn
 obtain⟨c,cb,cl,cr,nd,nl,n2,iJ,len⟩:=H
 refine⟨c.aF k (by simp[Ne.symm h1]),hc,cl.aF k (fun b hb=>by simp;intro e;exact h3 (by rw[← e];exact hb)),fun o ho=>?_,nd,nl,n2,iJ,len⟩
 obtain⟨g1,g2,g3,g4⟩:=h2 o ho
 exact⟨(cr o ho).1.aF k (by simp[g1]),(cr o ho).2.aF k (by simp[g2])⟩
theorem cN.setBlock (hs:Ok s) (H:cN s g G) {j:Nat} (hj:j<G.N) (x y:Int):∃ s',bJ s ⟨G.bn,j*2,none⟩ [int x,int y]=some s'∧cN s' g {G with bs:=eP G.bs j x,bp:=eP G.bp j y}∧aC [G.bn] s s':=by
 obtain⟨s',h1,h2,h3⟩:=H.cb.store hs (i:=j*2) (vs:=[int x,int y]) (by rw[bI];show j*2+2≤_;omega) rfl
 have hrow:oI (row (2*G.N) fun i=>int (if i%2=0 then G.bs (i/2) else G.bp (i/2))) (j*2) [int x,int y]=row (2*G.N) fun i=>int (if i%2=0 then eP G.bs j x (i/2) else eP G.bp j y (i/2)):=by
  refine yP (by rw[jW (by rw[bI];show j*2+2≤_;omega),bI]) fun i hi=>?_
  rw[oJ (by rw[bI];show j*2+2≤_;omega),show [int x,int y].length=2 from rfl]
  unfold eP
  by_cases hc:j*2≤i∧i<j*2+2
  ·rw[if_pos hc,if_pos (show i/2=j by omega),if_pos (show i/2=j by omega)]
   rcases Nat.lt_or_ge i (j*2+1) with h | h
   ·rw[show i-j*2=0 by omega,if_pos (by omega)];rfl
   ·rw[show i-j*2=1 by omega,if_neg (by omega)];rfl
  ·rw[if_neg hc,fB _ hi,if_neg (show ¬ i/2=j by omega),if_neg (show ¬ i/2=j by omega)]
 rw[hrow] at h2
 exact⟨s',h1,H.jr h3 h2,h3⟩
theorem cN.setState (hs:Ok s) (H:cN s g G) {j:Nat} (hj:j<G.N) (x:Int):∃ s',bJ s ⟨G.bn,j*2,none⟩ [int x]=some s'∧cN s' g {G with bs:=eP G.bs j x}∧aC [G.bn] s s':=by
 obtain⟨s',h1,h2,h3⟩:=H.cb.dU hs (i:=j*2) (v:=int x) (by rw[bI];omega) rfl
 rw[yQ (by omega)] at h2
 have e:(fun i=>if i=j*2 then int x else int (if i%2=0 then G.bs (i/2) else G.bp (i/2)))=fun i=>int (if i%2=0 then eP G.bs j x (i/2) else G.bp (i/2)):=by
  funext i
  unfold eP
  by_cases hi:i=j*2
  ·rw[if_pos hi,if_pos (by omega),if_pos (by omega)]
  ·rw[if_neg hi]
   by_cases h2:i%2=0
   ·rw[if_pos h2,if_pos h2,if_neg (by omega)]
   ·rw[if_neg h2,if_neg h2]
 rw[e] at h2
 exact⟨s',h1,H.jr (f':=G.bp) h3 h2,h3⟩
theorem PJ:type_of% (An @RX<|@BC):=An @RX<|@BC
theorem ref_New (hs:Ok s) {n:Nat} (h2:2≤n) (h64:n≤64) (hΦ:∀ g b s',cN s' g ⟨b,none,0,n,fun _=>0,fun _=>0,[],0⟩→(∀ x∈lM.aU g ⟨b,none,0,n,fun _=>0,fun _=>0,[],0⟩,s.next≤x)→aC [] s s'→Φ (.tuple #[ptr g,int 0]) s'):okF q X (KO kc) 52 [int n] s Φ:=by
 refine aG rfl fn_52 rfl (rs:=[.tmp 2,.tmp 3]) rfl (N:=14) rfl rfl ?_
 refine aA fun Ψ0 hΨ0 hΨ0'=>?_
 simp only[PJ,↓reduceIte,zA,reduceCtorEq,zE,zB,zC,zD,zF]
 refine hΨ0 _ _ ?_
 refine aA fun Ψ1 hΨ1 hΨ1'=>?_
 refine aA fun Ψ2 hΨ2 hΨ2'=>?_
 refine aH [(2,6)] (by kernel_rfl) fun O hO ΨR hR=>?_
 have y2:∀ a,aE O a 2=aM (a.aD 6):=hO (2,6) (by simp)
 have g1:¬ (n:Int)<2:=by omega
 have g2:¬ (n:Int)>64:=by omega
 simp only[PJ,↓reduceIte,zA,reduceCtorEq,zE,zB,zC,zD,zF,y2,g1,g2,decide_false]
 refine hR _ _ (hΨ2 _ _ ?_)
 simp only[PJ,↓reduceIte,zA,reduceCtorEq,zE,zB,zC,zD,zF]
 refine hΨ1 _ _ ?_
 simp only[PJ,↓reduceIte,zA,reduceCtorEq,zE,zB,zC,zD,zF,mk_127 (nm:=s.next) (n:=(n:Int)) (m:=(n:Int)) (by omega) (by omega) (by omega) (by omega),Int.toNat_natCast,BC]
 obtain⟨S1,h1',k1,c1,n1⟩:∃ S1,(s.new fun v=>bX.cells PT.nil [int 0,int 0] (n*2) 210 false false v)=S1∧aC [] s S1∧Obj S1 s.next (row (2*n) fun i=>int 0)∧S1.next=s.next+2 :=
  ⟨_,rfl,(aC.refl hs).new (.inr (Nat.le_refl _)),Obj.kY (s:=s) (x:=s.next) rfl (by rw[bI];show 2*n=n*2;omega) (fun i hi=>by
   rw[fB _ (by omega)]
   rcases Nat.mod_two_eq_zero_or_one i with h | h <;> rw[h] <;> rfl),rfl⟩
 rw[h1']
 obtain⟨s2,e2,k2,c2,n2⟩:=aT k1.ok (L:=[.slice (some ⟨s.next,0,none⟩) n n,.slice none 0 0,.slice none 0 0,int 0]) (n:=4) (e:=131) rfl
 try simp only[PJ,↓reduceIte,zA,reduceCtorEq,zE,zB,zC,zD,zF,BC]
 rw[e2]
 try simp only[PJ,↓reduceIte,zA,reduceCtorEq,zE,zB,zC,zD,zF]
 refine hΦ S1.next s.next s2 ⟨c2,?_,.nil,fun o ho=>(by cases ho),?_,fun b hb=>(by simp[nameOf] at hb),h2,h64,Nat.zero_le _⟩ ?_ (k1.trans k2)
 ·have:=c1.aF k2 (by simp)
  simpa using this
 ·show [S1.next,s.next].Nodup
  simp;omega
 ·intro x hx
  simp[lM.aU,lM.own,nameOf] at hx
  omega
theorem mN:type_of% (An @RX<|An @fC<|An @jY<|An @pP<|An @lW<|An @bF<|An @tX<|@SX):=An @RX<|An @fC<|An @jY<|An @pP<|An @lW<|An @bF<|An @tX<|@SX
theorem pr (hs:Ok s) (H:cN s g G) {b:Nat} {y:Int} (h1:1≤b) (h2:b<G.N) (h3:0≤y∧y<8) (h4:G.bs b=0) (hΦ:∀ s',cN s' g {G with bs:=eP G.bs b 1,bp:=eP G.bp b y}→aC [G.bn] s s'→Φ (int 0) s'):okF q X (KO kc) 213 [ptr g,int b,int y] s Φ:=by
 have q0:(1:Int)≤(b:Int)∧(b:Int)<(G.N:Int):=by omega
 have q1:(0:Int)≤(b:Int):=by omega
 have q2:(b:Int)<(G.N:Int):=by omega
 refine aG rfl fn_213 rfl (rs:=[.tmp 6]) rfl (N:=36) rfl rfl ?_
 refine aA fun Ψ0 hΨ0 hΨ0'=>?_
 simp only[mN,↓reduceIte,zA,reduceCtorEq,zE,zB,zC,zD,zF]
 refine hΨ0 _ _ ?_
 refine aA fun Ψ1 hΨ1 hΨ1'=>?_
 refine aA fun Ψ2 hΨ2 hΨ2'=>?_
 simp only[mN,↓reduceIte,zA,reduceCtorEq,zE,zB,zC,zD,zF]
 refine aB ?_ (nJ H ?_)
 ·simp only[mN,↓reduceIte,zA,reduceCtorEq,zE,zB,zC,zD,zF]
 try simp only[mN,↓reduceIte,zA,reduceCtorEq,zE,zB,zC,zD,zF]
 refine hΨ2 _ _ ?_
 simp only[mN,↓reduceIte,zA,reduceCtorEq,zE,zB,zC,zD,zF]
 refine hΨ1 _ _ ?_
 refine aA fun Ψ3 hΨ3 hΨ3'=>?_
 refine aA fun Ψ4 hΨ4 hΨ4'=>?_
 refine aH [(4,14)] (by kernel_rfl) fun O hO ΨR hR=>?_
 have y4:∀ a,aE O a 4=aM (a.aD 14):=hO (4,14) (by simp)
 simp only[mN,↓reduceIte,zA,reduceCtorEq,zE,zB,zC,zD,zF]
 refine aB ?_ (OT H b ?_)
 ·simp only[mN,↓reduceIte,zA,reduceCtorEq,zE,zB,zC,zD,zF]
 simp only[mN,↓reduceIte,zA,reduceCtorEq,zE,zB,zC,zD,zF,y4,q0,and_self,decide_true]
 refine aB ?_ (OU y ?_)
 ·simp only[mN,↓reduceIte,zA,reduceCtorEq,zE,zB,zC,zD,zF]
 try simp only[mN,↓reduceIte,zA,reduceCtorEq,zE,zB,zC,zD,zF,y4,h3,and_self,decide_true]
 refine hR _ _ (hΨ4 _ _ ?_)
 simp only[mN,↓reduceIte,zA,reduceCtorEq,zE,zB,zC,zD,zF]
 refine hΨ3 _ _ ?_
 have l:=H.lb (i:=b) h2
 refine aA fun Ψ5 hΨ5 hΨ5'=>?_
 refine aA fun Ψ6 hΨ6 hΨ6'=>?_
 simp only[mN,↓reduceIte,zA,reduceCtorEq,zE,zB,zC,zD,zF,H.l0,q1,q2,and_self,aJ,Int.toNat_natCast,Nat.zero_add,l,h4]
 refine hΨ6 _ _ ?_
 simp only[mN,↓reduceIte,zA,reduceCtorEq,zE,zB,zC,zD,zF]
 refine hΨ5 _ _ ?_
 refine aA fun Ψ7 hΨ7 hΨ7'=>?_
 obtain⟨s',e1,H',k'⟩:=H.setBlock hs h2 1 y
 simp only[mN,↓reduceIte,zA,reduceCtorEq,zE,zB,zC,zD,zF,H.l0,q1,q2,and_self,aJ,Int.toNat_natCast,Nat.zero_add,e1]
 refine hΨ7 _ _ ?_
 simp only[mN,↓reduceIte,zA,reduceCtorEq,zE,zB,zC,zD,zF]
 exact hΦ s' H' k'
theorem fS:type_of% (An @RX<|An @fC<|An @jY<|An @pP<|An @lW<|An @bF<|@iY):=An @RX<|An @fC<|An @jY<|An @pP<|An @lW<|An @bF<|@iY
theorem qd (H:cN s g G) {b:Nat} (h2:b<G.N) (hΦ:Φ (int (if G.bs b=1 then 1 else if G.bs b=2 then((eM G.bs (b+1) (G.N-(b+1))+1:Nat):Int) else 0)) s):okF q X (KO kc) 243 [ptr g,int b] s Φ:=by
 have q1:(0:Int)≤(b:Int):=by omega
 have q2:(b:Int)<(G.N:Int):=by omega
 have iJ:=H.iJ
 have l:=H.lb (i:=b) h2
 refine aG rfl fn_243 rfl (rs:=[.tmp 4]) rfl (N:=49) rfl rfl ?_
 refine aA fun Ψ0 hΨ0 hΨ0'=>?_
 simp only[fS,↓reduceIte,zA,reduceCtorEq,zE,zB,zC,zD,zF]
 refine hΨ0 _ _ ?_
 refine aA fun Ψ1 hΨ1 hΨ1'=>?_
 refine aA fun Ψ2 hΨ2 hΨ2'=>?_
 by_cases e1:G.bs b=1
 ·rw[if_pos e1] at hΦ
  simp only[fS,↓reduceIte,zA,reduceCtorEq,zE,zB,zC,zD,zF,H.l0,q1,q2,and_self,aJ,Int.toNat_natCast,Nat.zero_add,l,e1]
  refine hΨ2 _ _ ?_
  simp only[fS,↓reduceIte,zA,reduceCtorEq,zE,zB,zC,zD,zF]
  refine hΨ1' _ _ _ (by simp) ?_
  simp only[fS,↓reduceIte,zA,reduceCtorEq,zE,zB,zC,zD,zF]
  exact hΦ
 have e1':(G.bs b==1)=false:=by simpa using e1
 rw[if_neg e1] at hΦ
 simp only[fS,↓reduceIte,zA,reduceCtorEq,zE,zB,zC,zD,zF,H.l0,q1,q2,and_self,aJ,Int.toNat_natCast,Nat.zero_add,l,e1']
 refine hΨ2 _ _ ?_
 simp only[fS,↓reduceIte,zA,reduceCtorEq,zE,zB,zC,zD,zF]
 refine hΨ1 _ _ ?_
 refine aA fun Ψ3 hΨ3 hΨ3'=>?_
 refine aA fun Ψ4 hΨ4 hΨ4'=>?_
 by_cases e2:G.bs b=2
 ·rw[if_pos e2] at hΦ
  simp only[fS,↓reduceIte,zA,reduceCtorEq,zE,zB,zC,zD,zF,H.l0,q1,q2,and_self,aJ,Int.toNat_natCast,Nat.zero_add,l,e2]
  refine hΨ4 _ _ ?_
  simp only[fS,↓reduceIte,zA,reduceCtorEq,zE,zB,zC,zD,zF]
  refine hΨ3 _ _ ?_
  refine aA fun Ψ5 hΨ5 hΨ5'=>?_
  simp only[fS,↓reduceIte,zA,reduceCtorEq,zE,zB,zC,zD,zF]
  refine hΨ5 _ _ ?_
  refine aA fun Ψ6 hΨ6 hΨ6'=>?_
  refine aL fun Ψ7 hΨ7 hΨ7e hΨ7'=>?_
  obtain⟨T,hT⟩:∃ T,T=eM G.bs (b+1) (G.N-(b+1)):=⟨_,rfl⟩
  rw[← hT] at hΦ
  have hTle:=nQ (bs:=G.bs) (p:=b+1) (d:=G.N-(b+1))
  rw[← hT] at hTle
  refine yI (n:=T) (fun j a' s'=>a'.aD 0=ptr g∧a'.aD 1=int b∧a'.aD 5=int ((j+1:Nat))∧s'=s) ?_ ?_ ?_ (Nat.zero_le _) ?_
  ·rintro j a' s' hj ⟨r0,r1,r5,rfl⟩ Ψ' hΨ'
   have w:IntKind.i64.wrap ((b:Int)+((j+1:Nat):Int))=((b+1+j:Nat):Int):=by rw[aR (by omega) (by omega)];omega
   have p1:(0:Int)≤((b+1+j:Nat):Int):=Int.natCast_nonneg _
   refine aH [(9,33)] (by kernel_rfl) fun O hO ΨR hR=>?_
   have y9:∀ a,aE O a 9=aM (a.aD 33):=hO (9,33) (by simp)
   by_cases hb:b+1+j<G.N
   ·have p2:((b+1+j:Nat):Int)<(G.N:Int):=by omega
    have lj:=H.lb (i:=b+1+j) hb
    simp only[fS,↓reduceIte,zA,reduceCtorEq,zE,zB,zC,zD,zF,y9,r0,r1,r5,w,H.l0,p1,p2,and_self,aJ,Int.toNat_natCast,Nat.zero_add,lj,decide_true]
    refine hR _ _ (hΨ' _ _ (G.bs (b+1+j)==3) ?_ ?_ ⟨?_,?_,?_,rfl⟩)
    ·simp only[fS,↓reduceIte,zA,reduceCtorEq,zE,zB,zC,zD,zF]
    ·rw[beq_iff_eq]
     constructor
     ·intro h
      rcases Nat.lt_or_ge j T with h' | h'
      ·exact h'
      ·obtain rfl:j=T:=by omega
       have:=oS (bs:=G.bs) (p:=b+1) (d:=G.N-(b+1)) (by rw[← hT];omega)
       rw[← hT] at this
       exact absurd h this
     ·intro h
      exact qQ (bs:=G.bs) (p:=b+1) (d:=G.N-(b+1)) (by rw[← hT];exact h)
    ·simp only[fS,↓reduceIte,zA,reduceCtorEq,zE,zB,zC,zD,zF,r0]
    ·simp only[fS,↓reduceIte,zA,reduceCtorEq,zE,zB,zC,zD,zF,r1]
    ·simp only[fS,↓reduceIte,zA,reduceCtorEq,zE,zB,zC,zD,zF,r5]
   ·have p2:¬ ((b+1+j:Nat):Int)<(G.N:Int):=by omega
    simp only[fS,↓reduceIte,zA,reduceCtorEq,zE,zB,zC,zD,zF,y9,r0,r1,r5,w,H.l0,p2,decide_false]
    refine hR _ _ (hΨ' _ _ false ?_ ?_ ⟨?_,?_,?_,rfl⟩)
    ·simp only[fS,↓reduceIte,zA,reduceCtorEq,zE,zB,zC,zD,zF]
    ·constructor
     ·intro h;cases h
     ·intro h;omega
    ·simp only[fS,↓reduceIte,zA,reduceCtorEq,zE,zB,zC,zD,zF,r0]
    ·simp only[fS,↓reduceIte,zA,reduceCtorEq,zE,zB,zC,zD,zF,r1]
    ·simp only[fS,↓reduceIte,zA,reduceCtorEq,zE,zB,zC,zD,zF,r5]
  ·rintro j a' s' hj ⟨r0,r1,r5,rfl⟩ Ψ' w1 w2 w3
   have w:IntKind.i64.wrap (((j+1:Nat):Int)+1)=((j+1+1:Nat):Int):=by rw[aR (by omega) (by omega)];rfl
   simp only[fS,↓reduceIte,zA,reduceCtorEq,zE,zB,zC,zD,zF,r5,w]
   refine w1 _ _ ⟨?_,?_,?_,rfl⟩
   all_goals try simp only[fS,↓reduceIte,zA,reduceCtorEq,zE,zB,zC,zD,zF,r0,r1]
  ·rintro a' s' ⟨r0,r1,r5,rfl⟩
   refine hΨ7e _ _ (hΨ6 _ _ ?_)
   simp only[fS,↓reduceIte,zA,reduceCtorEq,zE,zB,zC,zD,zF,r5]
   exact hΦ
  ·refine⟨?_,?_,?_,rfl⟩
   all_goals try simp only[fS,↓reduceIte,zA,reduceCtorEq,zE,zB,zC,zD,zF]
   rfl
 ·have e2':(G.bs b==2)=false:=by simpa using e2
  rw[if_neg e2] at hΦ
  simp only[fS,↓reduceIte,zA,reduceCtorEq,zE,zB,zC,zD,zF,H.l0,q1,q2,and_self,aJ,Int.toNat_natCast,Nat.zero_add,l,e2']
  refine hΨ4 _ _ ?_
  simp only[fS,↓reduceIte,zA,reduceCtorEq,zE,zB,zC,zD,zF]
  refine hΨ3' _ _ _ (by simp) ?_
  simp only[fS,↓reduceIte,zA,reduceCtorEq,zE,zB,zC,zD,zF]
  exact hΦ
end
open Go.Proofs
set_option maxRecDepth 100000
set_option maxHeartbeats 2000000
section
variable {kc:Kc} {q:Bool} {s:St} {Φ:Value→St→Prop} {g:Nat} {G:lM} {P:PH}
def lM.fill (G:lM) (p k:Nat) (x y:Int):lM:={G with bs:=fun j=>if p≤j∧j<p+k then x else G.bs j,bp:=fun j=>if p≤j∧j<p+k then y else G.bp j}
theorem lM.mi (G:lM) (p j:Nat) (u v:Int):G.fill p (j+1) u v={G.fill p j u v with bs:=eP (G.fill p j u v).bs (p+j) u,bp:=eP (G.fill p j u v).bp (p+j) v}:=by
 unfold lM.fill eP
 congr 1
 ·funext i
  by_cases h1:i=p+j
  ·subst h1;simp
  ·simp only[h1,if_false]
   by_cases h2:p≤i∧i<p+j
   ·rw[if_pos h2,if_pos (by omega)]
   ·rw[if_neg h2,if_neg (by omega)]
 ·funext i
  by_cases h1:i=p+j
  ·subst h1;simp
  ·simp only[h1,if_false]
   by_cases h2:p≤i∧i<p+j
   ·rw[if_pos h2,if_pos (by omega)]
   ·rw[if_neg h2,if_neg (by omega)]
theorem lM.mj (G:lM) (p:Nat) (u v:Int):G.fill p 0 u v=G:=by
 unfold lM.fill
 have:∀ j:Nat,¬ (p≤j∧j<p+0):=fun j=>by omega
 simp only[this,if_false]
theorem eO:type_of% (An @RX<|An @fC<|An @jY<|An @iY<|An @pP<|An @lW<|An @bF<|An @tX<|An @SX<|@rV):=An @RX<|An @fC<|An @jY<|An @iY<|An @pP<|An @lW<|An @bF<|An @tX<|An @SX<|@rV
theorem KZ (hs:Ok s) (H:cN s g G) {p m:Nat} {y:Int} (h1:1≤p) (hm:1≤m) (h2:p+m≤G.N) (h3:0≤y∧y<8) (h4:∀ j,p≤j→j<p+m→G.bs j=0) (hΦ:∀ s',cN s' g {G.fill p m 3 y with bs:=eP (G.fill p m 3 y).bs p 2}→aC [G.bn] s s'→Φ (int 0) s'):okF q X (KO kc) 211 [ptr g,int p,int m,int y] s Φ:=by
 have iJ:=H.iJ
 have q0:(1:Int)≤(p:Int)∧(p:Int)<(G.N:Int):=by omega
 have q3:¬ ((m:Int)<1):=by omega
 have w0:IntKind.i64.wrap ((G.N:Int)-(p:Int))=(G.N:Int)-(p:Int):=by rw[aR (by omega) (by omega)]
 have q4:¬ ((m:Int)>(G.N:Int)-(p:Int)):=by omega
 have wpm:IntKind.i64.wrap ((p:Int)+(m:Int))=((p+m:Nat):Int):=by rw[aR (by omega) (by omega)];rfl
 refine aG rfl fn_211 rfl (rs:=[.tmp 8]) rfl (N:=78) rfl rfl ?_
 refine aA fun Ψ0 hΨ0 hΨ0'=>?_
 simp only[eO,↓reduceIte,zA,reduceCtorEq,zE,zB,zC,zD,zF]
 refine hΨ0 _ _ ?_
 refine aA fun Ψ1 hΨ1 hΨ1'=>?_
 refine aA fun Ψ2 hΨ2 hΨ2'=>?_
 simp only[eO,↓reduceIte,zA,reduceCtorEq,zE,zB,zC,zD,zF]
 refine aB ?_ (nJ H ?_)
 ·simp only[eO,↓reduceIte,zA,reduceCtorEq,zE,zB,zC,zD,zF]
 try simp only[eO,↓reduceIte,zA,reduceCtorEq,zE,zB,zC,zD,zF]
 refine hΨ2 _ _ ?_
 simp only[eO,↓reduceIte,zA,reduceCtorEq,zE,zB,zC,zD,zF]
 refine hΨ1 _ _ ?_
 refine aA fun Ψ3 hΨ3 hΨ3'=>?_
 refine aA fun Ψ4 hΨ4 hΨ4'=>?_
 refine aH [(4,18),(8,22),(19,33)] (by kernel_rfl) fun O hO ΨR hR=>?_
 have y4:∀ a,aE O a 4=aM (a.aD 18):=hO (4,18) (by simp)
 have y8:∀ a,aE O a 8=aM (a.aD 22):=hO (8,22) (by simp)
 have y19:∀ a,aE O a 19=aM (a.aD 33):=hO (19,33) (by simp)
 simp only[eO,↓reduceIte,zA,reduceCtorEq,zE,zB,zC,zD,zF]
 refine aB ?_ (OT H p ?_)
 ·simp only[eO,↓reduceIte,zA,reduceCtorEq,zE,zB,zC,zD,zF]
 simp only[eO,↓reduceIte,zA,reduceCtorEq,zE,zB,zC,zD,zF,y4,y8,y19,q0,and_self,decide_true,q3,decide_false,H.l0,w0,q4]
 refine aB ?_ (OU y ?_)
 ·simp only[eO,↓reduceIte,zA,reduceCtorEq,zE,zB,zC,zD,zF]
 try simp only[eO,↓reduceIte,zA,reduceCtorEq,zE,zB,zC,zD,zF,y4,y8,y19,h3,and_self,decide_true]
 refine hR _ _ (hΨ4 _ _ ?_)
 simp only[eO,↓reduceIte,zA,reduceCtorEq,zE,zB,zC,zD,zF]
 refine hΨ3 _ _ ?_
 refine aA fun Ψ5 hΨ5 hΨ5'=>?_
 refine aA fun Ψ6 hΨ6 hΨ6'=>?_
 simp only[eO,↓reduceIte,zA,reduceCtorEq,zE,zB,zC,zD,zF]
 refine hΨ6 _ _ ?_
 refine aL fun Ψ7 hΨ7 hΨ7e hΨ7'=>?_
 refine fY (n:=m) (fun j a' s'=>a'.aD 0=ptr g∧a'.aD 1=int p∧a'.aD 2=int m∧a'.aD 3=int y∧a'.aD 9=int ((p+j:Nat))∧s'=s)
  (fun j a' s'=>a'.aD 0=ptr g∧a'.aD 1=int p∧a'.aD 2=int m∧a'.aD 3=int y∧a'.aD 9=int ((p+j:Nat))∧s'=s) ?_ ?_ ?_ ?_ (Nat.zero_le _) ?_
 ·rintro j a' s' hj ⟨r0,r1,r2,r3,r9,rfl⟩ Ψ' hΨ'
  simp only[eO,↓reduceIte,zA,reduceCtorEq,zE,zB,zC,zD,zF,r9,r1,r2,wpm]
  refine hΨ' _ _ (decide (((p+j:Nat):Int)<((p+m:Nat):Int))) ?_ (by rw[decide_eq_true_eq];omega) ⟨?_,?_,?_,?_,?_,rfl⟩
  all_goals simp only[eO,↓reduceIte,zA,reduceCtorEq,zE,zB,zC,zD,zF,r0,r1,r2,r3,r9]
 ·rintro j a' s' hj ⟨r0,r1,r2,r3,r9,rfl⟩ Ψ' w1 w2 w3
  have p1:(0:Int)≤((p+j:Nat):Int):=Int.natCast_nonneg _
  have p2:((p+j:Nat):Int)<(G.N:Int):=by omega
  have lj:=H.lb (i:=p+j) (by omega)
  rw[h4 (p+j) (by omega) (by omega)] at lj
  refine aA fun Ψ8 hΨ8 hΨ8'=>?_
  simp only[eO,↓reduceIte,zA,reduceCtorEq,zE,zB,zC,zD,zF,r0,r9,H.l0,p1,p2,and_self,aJ,Int.toNat_natCast,Nat.zero_add,lj]
  refine hΨ8 _ _ ?_
  simp only[eO,↓reduceIte,zA,reduceCtorEq,zE,zB,zC,zD,zF]
  refine w1 _ _ ⟨?_,?_,?_,?_,?_,rfl⟩
  all_goals simp only[eO,↓reduceIte,zA,reduceCtorEq,zE,zB,zC,zD,zF,r0,r1,r2,r3,r9]
 ·rintro j a' s' hj ⟨r0,r1,r2,r3,r9,rfl⟩ Ψ' w1
  have w:IntKind.i64.wrap (((p+j:Nat):Int)+1)=((p+(j+1):Nat):Int):=by rw[aR (by omega) (by omega)];rfl
  simp only[eO,↓reduceIte,zA,reduceCtorEq,zE,zB,zC,zD,zF,r9,w]
  refine w1 _ _ ⟨?_,?_,?_,?_,?_,rfl⟩
  all_goals try simp only[eO,↓reduceIte,zA,reduceCtorEq,zE,zB,zC,zD,zF,r0,r1,r2,r3]
 ·rintro a' s' ⟨r0,r1,r2,r3,r9,rfl⟩
  refine hΨ7e _ _ (hΨ5 _ _ ?_)
  refine aA fun Ψ9 hΨ9 hΨ9'=>?_
  refine aA fun Ψ10 hΨ10 hΨ10'=>?_
  simp only[eO,↓reduceIte,zA,reduceCtorEq,zE,zB,zC,zD,zF,r1]
  refine hΨ10 _ _ ?_
  refine aL fun Ψ11 hΨ11 hΨ11e hΨ11'=>?_
  refine fY (n:=m) (fun j a' s1=>a'.aD 0=ptr g∧a'.aD 1=int p∧a'.aD 2=int m∧a'.aD 3=int y∧a'.aD 10=int ((p+j:Nat))∧cN s1 g (G.fill p j 3 y)∧aC [G.bn] s' s1)
   (fun j a' s1=>a'.aD 0=ptr g∧a'.aD 1=int p∧a'.aD 2=int m∧a'.aD 3=int y∧a'.aD 10=int ((p+j:Nat))∧cN s1 g (G.fill p (j+1) 3 y)∧aC [G.bn] s' s1) ?_ ?_ ?_ ?_ (Nat.zero_le _) ?_
  ·rintro j a' s1 hj ⟨r0,r1,r2,r3,r10,H1,hk⟩ Ψ' hΨ'
   simp only[eO,↓reduceIte,zA,reduceCtorEq,zE,zB,zC,zD,zF,r10,r1,r2,wpm]
   refine hΨ' _ _ (decide (((p+j:Nat):Int)<((p+m:Nat):Int))) ?_ (by rw[decide_eq_true_eq];omega) ⟨?_,?_,?_,?_,?_,H1,hk⟩
   all_goals simp only[eO,↓reduceIte,zA,reduceCtorEq,zE,zB,zC,zD,zF,r0,r1,r2,r3,r10]
  ·rintro j a' s1 hj ⟨r0,r1,r2,r3,r10,H1,hk⟩ Ψ' w1 w2 w3
   have p1:(0:Int)≤((p+j:Nat):Int):=Int.natCast_nonneg _
   have p2:((p+j:Nat):Int)<(G.N:Int):=by omega
   have l0:aI s1.look ⟨g,0,none⟩=some (.slice (some ⟨G.bn,0,none⟩) G.N G.N):=H1.l0
   obtain⟨s2,e2,H2,k2⟩:=H1.setBlock hk.ok (j:=p+j) (show p+j<G.N by omega) 3 y
   have e2:bJ s1 ⟨G.bn,(p+j)*2,none⟩ [int 3,int y]=some s2:=e2
   rw[← lM.mi] at H2
   simp only[eO,↓reduceIte,zA,reduceCtorEq,zE,zB,zC,zD,zF,r0,r3,r10,l0,p1,p2,and_self,aJ,Int.toNat_natCast,Nat.zero_add,e2]
   refine w1 _ _ ⟨?_,?_,?_,?_,?_,H2,hk.trans k2⟩
   all_goals simp only[eO,↓reduceIte,zA,reduceCtorEq,zE,zB,zC,zD,zF,r0,r1,r2,r3,r10]
  ·rintro j a' s1 hj ⟨r0,r1,r2,r3,r10,H1,hk⟩ Ψ' w1
   have w:IntKind.i64.wrap (((p+j:Nat):Int)+1)=((p+(j+1):Nat):Int):=by rw[aR (by omega) (by omega)];rfl
   simp only[eO,↓reduceIte,zA,reduceCtorEq,zE,zB,zC,zD,zF,r10,w]
   refine w1 _ _ ⟨?_,?_,?_,?_,?_,H1,hk⟩
   all_goals try simp only[eO,↓reduceIte,zA,reduceCtorEq,zE,zB,zC,zD,zF,r0,r1,r2,r3]
  ·rintro a' s1 ⟨r0,r1,r2,r3,r10,H1,hk⟩
   refine hΨ11e _ _ (hΨ9 _ _ ?_)
   have p1:(0:Int)≤(p:Int):=Int.natCast_nonneg _
   have p2:(p:Int)<(G.N:Int):=by omega
   have l0:aI s1.look ⟨g,0,none⟩=some (.slice (some ⟨G.bn,0,none⟩) G.N G.N):=H1.l0
   obtain⟨s2,e2,H2,k2⟩:=H1.setState hk.ok (j:=p) (show p<G.N by omega) 2
   have e2:bJ s1 ⟨G.bn,p*2,none⟩ [int 2]=some s2:=e2
   refine aA fun Ψ12 hΨ12 hΨ12'=>?_
   simp only[eO,↓reduceIte,zA,reduceCtorEq,zE,zB,zC,zD,zF,r0,r1,l0,p1,p2,and_self,aJ,Int.toNat_natCast,Nat.zero_add,e2]
   refine hΨ12 _ _ ?_
   simp only[eO,↓reduceIte,zA,reduceCtorEq,zE,zB,zC,zD,zF]
   exact hΦ s2 H2 (hk.trans k2)
  ·refine⟨?_,?_,?_,?_,?_,by rw[lM.mj];exact H,.refl hs⟩
   all_goals try simp only[eO,↓reduceIte,zA,reduceCtorEq,zE,zB,zC,zD,zF,r0,r1,r2,r3]
   rfl
 ·refine⟨?_,?_,?_,?_,?_,rfl⟩
  all_goals try simp only[eO,↓reduceIte,zA,reduceCtorEq,zE,zB,zC,zD,zF]
  rfl
end
end Go.Dust
