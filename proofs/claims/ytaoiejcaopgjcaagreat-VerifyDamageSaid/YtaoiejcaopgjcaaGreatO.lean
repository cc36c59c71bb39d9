/- VerifyDamage walked in D, function by function, and its plain law (J2 J3 N7 N8). -/
import Derived.Test.YtaoiejcaopgjcaaGreatN
import Derived.Test.YtaoiejcaopgjcaaGreatM
import Derived.Test.YtaoiejcaopgjcaaGreatJ
import Derived.Test.YtaoiejcaopgjcaaGreatI
set_option linter.unusedVariables false
set_option linter.unusedSimpArgs false
namespace Go.Dust
open Go.Proofs
set_option maxRecDepth 100000
set_option maxHeartbeats 4000000
section
variable {kc:Kc} {q:Bool} {s:St} {Φ:Value→St→Prop} {r:Nat} {Q:RQ} {R:PR}
theorem gE:type_of% (B9 @RX @rJ @bG @zN @rK @rU @wE @vL (B3 @rL @dF @dV)):=B9 @RX @rJ @bG @zN @rK @rU @wE @vL (B3 @rL @dF @dV)
theorem aFn (hs:Ok s) (H:gH s r Q R) (p:eJ) (hΦ:∀ s',aC [] s s'→Φ (.bool (R.has p)) s'):okF q X (KO kc) 179 [ptr r,wG p] s Φ:=by
 refine aW Tryz.func179 (by kernel_rfl) rfl rfl (rs:=[.tmp 4]) rfl (N:=67) rfl rfl ?_;refine aA fun bF aF bD=>?_;simp only[gE,seval];obtain⟨s1,e1,k1,c1,n1⟩:=cI hs (L:=[int p.k,int p.m,int p.i]) (n:=3) (e:=118) rfl;rw[e1];refine aF _ _ ?_;have H1:=H.aJ k1;have lk:aG s1.look ⟨s.next,0,none⟩=some (int p.k):=c1.load rfl;have lm:aG s1.look ⟨s.next,1,none⟩=some (int p.m):=c1.load rfl;have li:aG s1.look ⟨s.next,2,none⟩=some (int p.i):=c1.load rfl;unfold PR.has at hΦ;refine aA fun Ψ1 aE aL=>?_;refine aA fun Ψ2 aI bH=>?_;simp only[gE,seval,lk];refine aI _ _ ?_;refine cJ fun Ψ3 aN pF bM=>?_;refine aA fun Ψ4 aP cC=>?_;by_cases k0:p.k=0
 ·simp only[gE,seval,k0,beq_self_eq_true];refine aP _ _ ?_;simp only[dA,RV,RG,seval];refine aA fun cU aZ cK=>?_;refine dG [] [] [(3,12),(13,22),(18,27)] (by kernel_rfl) (by kernel_rfl) (by rfl) fun O hO bC hR=>?_;have y3:∀ a,aO O a 3=aY (a.aB 12):=hO (3,12) (by simp);have iV:∀ a,aO O a 13=aY (a.aB 22):=hO (13,22) (by simp);have nE:∀ a,aO O a 18=aY (a.aB 27):=hO (18,27) (by simp);by_cases m0:p.m≥0
  ·by_cases m1:p.m<(R.m:Int)
   ·rw[if_pos ⟨k0,by omega,m1⟩] at hΦ;by_cases i0:p.i≥0
    ·rw[show decide (0≤p.i∧p.i<16)=decide (p.i<16) from decide_eq_decide.2 ⟨fun h=>h.2,fun h=>⟨i0,h⟩⟩] at hΦ;simp only[gE,seval,y3,iV,nE,lm,li,H1.l0,m0,m1,i0,decide_true];refine hR _ _ (aZ _ _ ?_);simp only[gE,seval];refine bM _ _ _ (by simp) (by simp) (aL _ _ _ (by simp) ?_);simp only[gE,seval];exact hΦ _ (k1.kI _)
    ·rw[decide_eq_false (show ¬ (0≤p.i∧p.i<16) from fun h=>i0 h.1)] at hΦ;simp only[gE,seval,y3,iV,nE,lm,li,H1.l0,m0,m1,i0,decide_true,decide_false];refine hR _ _ (aZ _ _ ?_);simp only[gE,seval];refine bM _ _ _ (by simp) (by simp) (aL _ _ _ (by simp) ?_);simp only[gE,seval];exact hΦ _ (k1.kI _)
   ·rw[if_neg (fun h=>m1 h.2.2),if_neg (by omega),if_neg (by omega)] at hΦ;simp only[gE,seval,y3,iV,nE,lm,H1.l0,m0,m1,decide_true,decide_false];refine hR _ _ (aZ _ _ ?_);simp only[gE,seval];refine bM _ _ _ (by simp) (by simp) (aL _ _ _ (by simp) ?_);simp only[gE,seval];exact hΦ _ (k1.kI _)
  ·rw[if_neg (fun h=>m0 h.2.1),if_neg (by omega),if_neg (by omega)] at hΦ;simp only[gE,seval,y3,iV,nE,lm,m0,decide_false];refine hR _ _ (aZ _ _ ?_);simp only[gE,seval];refine bM _ _ _ (by simp) (by simp) (aL _ _ _ (by simp) ?_);simp only[gE,seval];exact hΦ _ (k1.kI _)
 have e0:(p.k==0)=false:=by simpa using k0
 rw[if_neg (fun h=>k0 h.1)] at hΦ;simp only[gE,seval,e0];refine aP _ _ ?_;simp only[dA,RV,RG,seval];refine aA fun cU aZ cK=>?_;by_cases qK:p.k=1
 ·simp only[gE,seval,qK,beq_self_eq_true];refine aZ _ _ ?_;simp only[dA,RV,RG,seval];refine aA fun dN bO cZ=>?_;refine cL [(3,37),(8,42)] (by kernel_rfl) fun O hO bC hR=>?_;have y3:∀ a,aO O a 3=aY (a.aB 37):=hO (3,37) (by simp);have y8:∀ a,aO O a 8=aY (a.aB 42):=hO (8,42) (by simp);by_cases m0:p.m=0
  ·rw[if_pos ⟨qK,m0⟩] at hΦ;by_cases i0:p.i≥0
   ·rw[show decide (0≤p.i∧p.i<16)=decide (p.i<16) from decide_eq_decide.2 ⟨fun h=>h.2,fun h=>⟨i0,h⟩⟩] at hΦ;simp only[gE,seval,y3,y8,lm,li,m0,i0,decide_true,beq_self_eq_true];refine hR _ _ (bO _ _ ?_);simp only[gE,seval];refine bM _ _ _ (by simp) (by simp) (aL _ _ _ (by simp) ?_);simp only[gE,seval];exact hΦ _ k1
   ·rw[decide_eq_false (show ¬ (0≤p.i∧p.i<16) from fun h=>i0 h.1)] at hΦ;simp only[gE,seval,y3,y8,lm,li,m0,i0,decide_false,beq_self_eq_true];refine hR _ _ (bO _ _ ?_);simp only[gE,seval];refine bM _ _ _ (by simp) (by simp) (aL _ _ _ (by simp) ?_);simp only[gE,seval];exact hΦ _ k1
  ·have em:(p.m==0)=false:=by simpa using m0
   rw[if_neg (fun h=>m0 h.2),if_neg (fun h=>m0 h.2)] at hΦ;simp only[gE,seval,y3,y8,lm,em];refine hR _ _ (bO _ _ ?_);simp only[gE,seval];refine bM _ _ _ (by simp) (by simp) (aL _ _ _ (by simp) ?_);simp only[gE,seval];exact hΦ _ k1
 have e1':(p.k==1)=false:=by simpa using qK
 rw[if_neg (fun h=>qK h.1)] at hΦ;simp only[gE,seval,e1'];refine aZ _ _ ?_;simp only[dA,RV,RG,seval];refine aA fun dN bO cZ=>?_;by_cases k2:p.k=2
 ·simp only[gE,seval,k2,beq_self_eq_true];refine bO _ _ ?_;simp only[dA,RV,RG,seval];refine aA fun fE cG dX=>?_;refine dG [] [] [(3,52),(8,57)] (by kernel_rfl) (by kernel_rfl) (by rfl) fun O hO bC hR=>?_;have y3:∀ a,aO O a 3=aY (a.aB 52):=hO (3,52) (by simp);have y8:∀ a,aO O a 8=aY (a.aB 57):=hO (8,57) (by simp);by_cases m0:p.m=0
  ·rw[if_pos ⟨k2,m0⟩] at hΦ;by_cases i0:p.i≥0
   ·rw[show decide (0≤p.i∧p.i<(R.q.length:Int))=decide (p.i<(R.q.length:Int)) from decide_eq_decide.2 ⟨fun h=>h.2,fun h=>⟨i0,h⟩⟩] at hΦ;simp only[gE,seval,y3,y8,lm,li,H1.l2,m0,i0,decide_true,beq_self_eq_true];refine hR _ _ (cG _ _ ?_);simp only[gE,seval];refine bM _ _ _ (by simp) (by simp) (aL _ _ _ (by simp) ?_);simp only[gE,seval];exact hΦ _ (k1.kI _)
   ·rw[decide_eq_false (show ¬ (0≤p.i∧p.i<(R.q.length:Int)) from fun h=>i0 h.1)] at hΦ;simp only[gE,seval,y3,y8,lm,li,m0,i0,decide_false,beq_self_eq_true];refine hR _ _ (cG _ _ ?_);simp only[gE,seval];refine bM _ _ _ (by simp) (by simp) (aL _ _ _ (by simp) ?_);simp only[gE,seval];exact hΦ _ (k1.kI _)
  ·have em:(p.m==0)=false:=by simpa using m0
   rw[if_neg (fun h=>m0 h.2)] at hΦ;simp only[gE,seval,y3,y8,lm,em];refine hR _ _ (cG _ _ ?_);simp only[gE,seval];refine bM _ _ _ (by simp) (by simp) (aL _ _ _ (by simp) ?_);simp only[gE,seval];exact hΦ _ (k1.kI _)
 ·have e2:(p.k==2)=false:=by simpa using k2
  rw[if_neg (fun h=>k2 h.1)] at hΦ;simp only[gE,seval,e2];refine bO _ _ ?_;simp only[gE,seval];refine aN _ _ (aE _ _ ?_);simp only[gE,seval];exact hΦ _ k1
theorem wT:type_of% (B9 @RX @rJ @bG @rK @rU @zN @EE @dF (B5 @vL @dQ @lD @KJ @rL)):=B9 @RX @rJ @bG @rK @rU @zN @EE @dF (B5 @vL @dQ @lD @KJ @rL)
theorem aFo (hs:Ok s) (H:gH s r Q R) (p:eJ) (v:Int) (hp:R.has p=true) (hΦ:∀ s',gH s' r Q (R.set p v)→aC (Q.aS r R) s s'→Φ (.tuple #[]) s'):okF q X (KO kc) 193 [ptr r,wG p,int v] s Φ:=by
 unfold PR.has at hp;unfold PR.set at hΦ;have nd:=H.nd;have pC:=H.eM hs;unfold RQ.own at nd;rw[List.nodup_cons,List.nodup_cons] at nd;obtain⟨n1,n2,n3⟩:=nd;refine aW Tryz.func193 (by kernel_rfl) rfl rfl (rs:=[]) rfl (N:=40) rfl rfl ?_;refine aA fun bF aF bD=>?_;simp only[wT,seval];obtain⟨s1,e1,k1,c1,_⟩:=cI hs (L:=[int p.k,int p.m,int p.i]) (n:=3) (e:=118) rfl;rw[e1];refine aF _ _ ?_;have H1:=H.aJ k1;have lk:aG s1.look ⟨s.next,0,none⟩=some (int p.k):=c1.load rfl;have lm:aG s1.look ⟨s.next,1,none⟩=some (int p.m):=c1.load rfl;have li:aG s1.look ⟨s.next,2,none⟩=some (int p.i):=c1.load rfl;have Ep:∀ n∈Q.own r,n∈Q.aS r R:=fun n h=>List.mem_append_left _ (List.mem_append_left _ h);refine aA fun Ψ1 aE aL=>?_;simp only[wT,seval,lk];refine aE _ _ ?_;refine cJ fun Ψ2 aI xQ bH=>?_;refine aA fun Ψ3 aN bM=>?_;by_cases k0:p.k=0
 ·rw[if_pos k0] at hΦ;have HE:0≤p.m∧p.m<R.m∧0≤p.i∧p.i<16:=by
   by_cases h:0≤p.m∧p.m<R.m
   ·rw[if_pos ⟨k0,h⟩] at hp;have:=of_decide_eq_true hp;exact⟨h.1,h.2,this⟩
   ·rw[if_neg (fun h'=>h h'.2),if_neg (by omega),if_neg (by omega)] at hp;cases hp
  obtain⟨m0,m1,i0,i1⟩:=HE;have LL:=H.rl;have hm:p.m.toNat<Q.rows.length:=by omega
  obtain⟨sb,IZ,HM⟩:=H1.cs.sl.addr (show 0<R.m by have:=H.m1;omega);have QQ:aG s1.look ⟨sb,IZ+p.m.toNat,none⟩=some (AY Q.rows[p.m.toNat]):=by
   have h:=H1.cs.sl;rw[HM] at h;exact h.load (by rw[List.getElem?_map,List.getElem?_eq_getElem hm];rfl)
  have ks:aC [] s1 (s1.skip 26):=aC.skip k1.ok _;have Hk:=H1.aJ ks;obtain⟨s2,h2,c2,k2⟩:=(Hk.cr _ hm).fK ks.ok (i:=p.i.toNat) (v:=int v) (by rw[fY];omega) rfl;rw[MW (by omega)] at c2;have l0:=H1.l0;rw[HM] at l0;simp only[wT,seval,k0,beq_self_eq_true];refine aN _ _ ?_;simp only[dA,RV,RG,seval];refine dG [] [] [] (by kernel_rfl) (by kernel_rfl) (by rfl) fun O hO bC hR=>?_;have HR:p.i<((16:Nat):Int):=i1;simp only[wT,seval,l0,lm,m0,m1,and_self,bQ,Nat.mul_one,QQ,li,i0,i1,Nat.zero_add,h2];refine hR _ _ (aI _ _ ?_);simp only[wT,seval];have hin:Q.rows[p.m.toNat]∈Q.own r:=List.mem_cons_of_mem _ (List.mem_cons_of_mem _ (List.getElem_mem hm));refine hΦ s2 ?_ ((k1.trans ks).any.trans (k2.mono fun x hx=>by rw[List.mem_singleton.1 hx];exact Ep _ hin));obtain⟨c,cs,rl,cr,cg,cq,pY,ns,nq,QV,m4,ql⟩:=Hk;have hsi:(p.m*16+p.i).toNat=p.m.toNat*16+p.i.toNat:=by omega
  refine⟨c.aD k2 ?_,cs.aD k2 (fun b hb hb'=>?_),rl,fun k hk=>?_,cg.aD k2 ?_,cq.aD k2 (fun b hb hb'=>?_),pY,ns,nq,QV,m4,ql⟩
  ·intro h;rw[List.mem_singleton] at h;exact n1 (by rw[h];exact List.mem_cons_of_mem _ (List.getElem_mem hm))
  ·rw[List.mem_singleton.1 hb'] at hb;exact(ns _ hb).1 hin
  ·show Obj s2 Q.rows[k] (row 16 fun i=>int (dM R.sl (p.m*16+p.i).toNat v (k*16+i)));by_cases e:k=p.m.toNat
   ·subst e;have:(fun j=>if j=p.i.toNat then int v else int (R.sl (p.m.toNat*16+j)))=fun i=>int (dM R.sl (p.m*16+p.i).toNat v (p.m.toNat*16+i)):=by
     funext j;unfold dM;rw[hsi];by_cases e:j=p.i.toNat
     ·rw[if_pos e,if_pos (by omega)]
     ·rw[if_neg e,if_neg (by omega)]
    rw[← this];exact c2
   ·have hne:Q.rows[k]≠Q.rows[p.m.toNat]:=fun h=>by
     unfold List.Nodup at n3;rw[List.pairwise_iff_getElem] at n3;rcases Nat.lt_or_gt_of_ne e with g | g
     ·exact n3 k _ hk hm g h
     ·exact n3 _ k hm hk g h.symm
    have HL:(row 16 fun i=>int (dM R.sl (p.m*16+p.i).toNat v (k*16+i)))=row 16 fun i=>int (R.sl (k*16+i)):=by
     refine(MV (by rw[fY]) fun i hi=>?_).symm;rw[lW _ hi];unfold dM;rw[if_neg (by rw[hsi];omega)]
    rw[HL];exact(cr k hk).aD k2 (by simpa using hne)
  ·intro h;rw[List.mem_singleton] at h;exact n2 (by rw[h];exact List.getElem_mem hm)
  ·rw[List.mem_singleton.1 hb'] at hb;exact nq _ hb hin
 have e0:(p.k==0)=false:=by simpa using k0
 rw[if_neg k0] at hΦ;rw[if_neg (fun h=>k0 h.1)] at hp;simp only[wT,seval,e0];refine aN _ _ ?_;simp only[dA,RV,RG,seval];refine aA fun Ψ4 aP cC=>?_;by_cases qK:p.k=1
 ·rw[if_pos qK] at hΦ;have HE:p.m=0∧0≤p.i∧p.i<16:=by
   by_cases h:p.m=0
   ·rw[if_pos ⟨qK,h⟩] at hp;exact⟨h,of_decide_eq_true hp⟩
   ·rw[if_neg (fun h'=>h h'.2),if_neg (by omega)] at hp;cases hp
  obtain⟨m0,i0,i1⟩:=HE;have ks:aC [] s1 (s1.skip 18):=aC.skip k1.ok _;have Hk:=H1.aJ ks;obtain⟨s2,h2,c2,k2⟩:=Hk.cg.fK ks.ok (i:=p.i.toNat) (v:=int v) (by rw[fY];omega) rfl;rw[MW (by omega)] at c2;simp only[wT,seval,qK,beq_self_eq_true];refine aP _ _ ?_;simp only[dA,RV,RG,seval];refine dG [] [] [] (by kernel_rfl) (by kernel_rfl) (by rfl) fun O hO bC hR=>?_;have HR:p.i<((16:Nat):Int):=i1;simp only[wT,seval,H1.l1,li,i0,i1,and_self,bQ,Nat.mul_one,Nat.zero_add,h2];refine hR _ _ (aI _ _ ?_);simp only[wT,seval];have hin:Q.gn∈Q.own r:=List.mem_cons_of_mem _ (List.mem_cons_self ..);refine hΦ s2 ?_ ((k1.trans ks).any.trans (k2.mono fun x hx=>by rw[List.mem_singleton.1 hx];exact Ep _ hin));obtain⟨c,cs,rl,cr,cg,cq,pY,ns,nq,QV,m4,ql⟩:=Hk;have sJ:Obj s2 Q.gn (row 16 fun i=>int (dM R.gl p.i.toNat v i)):=by
   have e:(fun j=>if j=p.i.toNat then int v else int (R.gl j))=fun i=>int (dM R.gl p.i.toNat v i):=by
    funext j;unfold dM;by_cases e:j=p.i.toNat
    ·rw[if_pos e,if_pos e]
    ·rw[if_neg e,if_neg e]
   rw[← e];exact c2
  refine⟨c.aD k2 ?_,cs.aD k2 (fun b hb hb'=>?_),rl,fun k hk=>(cr k hk).aD k2 ?_,sJ,cq.aD k2 (fun b hb hb'=>?_),pY,ns,nq,QV,m4,ql⟩
  ·intro h;rw[List.mem_singleton] at h;exact n1 (by rw[h];exact List.mem_cons_self ..)
  ·rw[List.mem_singleton.1 hb'] at hb;exact(ns _ hb).1 hin
  ·intro h;rw[List.mem_singleton] at h;exact n2 (by rw[← h];exact List.getElem_mem hk)
  ·rw[List.mem_singleton.1 hb'] at hb;exact nq _ hb hin
 have e1':(p.k==1)=false:=by simpa using qK
 rw[if_neg qK] at hΦ;rw[if_neg (fun h=>qK h.1)] at hp;have HE:p.k=2∧p.m=0∧0≤p.i∧p.i<(R.q.length:Int):=by
  by_cases h:p.k=2∧p.m=0
  ·rw[if_pos h] at hp;have:=of_decide_eq_true hp;exact⟨h.1,h.2,this.1,this.2⟩
  ·rw[if_neg h] at hp;cases hp
 obtain⟨_,m0,i0,i1⟩:=HE;have ks:aC [] s1 (s1.skip 18):=aC.skip k1.ok _;have Hk:=H1.aJ ks;obtain⟨qb,aIw,pQ⟩:=Hk.cq.sl.addr (show 0<R.q.length by omega);have Dw:=Hk.cq;rw[pQ] at Dw;obtain⟨s2,h2,b2,k2⟩:=Dw.fK ks.ok (i:=p.i.toNat) (v:=int v) (by rw[List.length_map];omega) rfl;have l2:=H1.l2;rw[pQ] at l2;have hin:qb∈nameOf (.slice Q.va R.q.length Q.vc):=by rw[pQ];simp[nameOf]
 simp only[wT,seval,e1'];refine aP _ _ ?_;simp only[dA,RV,RG,seval];refine dG [] [] [] (by kernel_rfl) (by kernel_rfl) (by rfl) fun O hO bC hR=>?_;simp only[wT,seval,l2,li,i0,i1,and_self,bQ,Nat.mul_one,h2];refine hR _ _ (aI _ _ ?_);simp only[wT,seval];have hno:=H.nq qb hin;have ol:∀ x∈Q.own r,x∉[qb]:=fun x hx h=>by
  rw[List.mem_singleton.1 h] at hx;exact hno hx
 refine hΦ s2 ?_ ((k1.trans ks).any.trans (k2.mono fun x hx=>by rw[List.mem_singleton.1 hx];exact List.mem_append_right _ hin));obtain⟨c,cs,rl,cr,cg,cq,pY,ns,nq,QV,m4,ql⟩:=Hk;refine⟨?_,cs.aD k2 (fun b hb hb'=>?_),rl,fun k hk=>(cr k hk).aD k2 (ol _ (List.mem_cons_of_mem _ (List.mem_cons_of_mem _ (List.getElem_mem hk)))),cg.aD k2 (ol _ (List.mem_cons_of_mem _ (List.mem_cons_self ..))),?_,pY,?_,?_,QV,m4,by simpa using ql⟩
 ·have:=c.aD k2 (ol _ (List.mem_cons_self ..));simpa using this
 ·rw[List.mem_singleton.1 hb'] at hb;exact(ns _ hb).2 hin
 ·simp only[List.length_set];rw[pQ,List.map_set];exact b2
 ·simpa using ns
 ·simpa using nq
theorem lH:type_of% (B4 @RX @kL @rJ @bG):=B4 @RX @kL @rJ @bG
theorem Oa (hs:Ok s) (H:gH s r Q R) (p:eJ) (v:Int) (hΦ:∀ s',gH s' r Q (if R.has p=true∧¬ (v<0∨(v=0∧p.k=2)) then R.set p v else R)→aC (Q.aS r R) s s'→Φ (int (if R.has p=true∧¬ (v<0∨(v=0∧p.k=2)) then 0 else 1)) s'):okF q X (KO kc) 125 [ptr r,wG p,int v] s Φ:=by
 refine aW Tryz.func125 (by kernel_rfl) rfl rfl (rs:=[.tmp 6]) rfl (N:=31) rfl rfl ?_;refine aA fun bF aF bD=>?_;simp only[lH,seval];obtain⟨s1,e1,k1,c1,n1⟩:=cI hs (L:=[int p.k,int p.m,int p.i]) (n:=3) (e:=118) rfl;rw[e1];refine aF _ _ ?_;have H1:=H.aJ k1;have lp:=c1.bI (i:=0) (k:=3) (Nat.le_refl _);refine aA fun Ψ1 aE aL=>?_;refine aA fun Ψ2 aI bH=>?_;simp only[lH,seval];refine aH ?_ (MX H1 ?_)
 ·simp only[lH,seval]
 try simp only[lH,seval]
 refine aI _ _ ?_;simp only[lH,seval];refine aE _ _ ?_;refine aA fun Ψ3 aN bM=>?_;refine aA fun Ψ4 aP cC=>?_;refine cL [(4,14),(8,18),(11,21)] (by kernel_rfl) fun O hO bC hR=>?_;have y4:∀ a,aO O a 4=aY (a.aB 14):=hO (4,14) (by simp);have y8:∀ a,aO O a 8=aY (a.aB 18):=hO (8,18) (by simp);have kV:∀ a,aO O a 11=aY (a.aB 21):=hO (11,21) (by simp);simp only[lH,seval,lp,List.drop_zero,List.take];refine aH ?_ (aFn k1.ok H1 p fun s2 k2=>?_)
 ·simp only[lH,seval]
 have dD:=k1.trans k2;have lk:aG s2.look ⟨s.next,0,none⟩=some (int p.k):=(c1.aD k2 (by simp)).load rfl;have YE:=(c1.aD k2 (by simp)).bI (i:=0) (k:=3) (Nat.le_refl _);have H2:=H1.aJ k2;cases hh:R.has p with
 | false =>
  rw[hh] at hΦ;simp only[Bool.false_eq_true,false_and,if_false] at hΦ;simp only[lH,seval,y4,y8,kV];refine hR _ _ (aP _ _ ?_);simp only[lH,seval];refine bM _ _ _ (by simp) ?_;simp only[lH,seval];exact hΦ s2 H2 dD.any
 | true =>
  rw[hh] at hΦ;simp only[true_and] at hΦ;by_cases h0:v<0
  ·rw[if_neg (fun h=>h (.inl h0)),if_neg (fun h=>h (.inl h0))] at hΦ;simp only[lH,seval,y4,y8,kV,h0,decide_true];refine hR _ _ (aP _ _ ?_);simp only[lH,seval];refine bM _ _ _ (by simp) ?_;simp only[lH,seval];exact hΦ s2 H2 dD.any
  have fin:∀ a':aK,¬ (v<0∨(v=0∧p.k=2))→a'.aB 0=ptr r→a'.aB 4=ptr s.next→a'.aB 2=int v→Ψ3 .normal a' s2:=by
   intro a' hg r0 r4 r2;rw[if_pos hg,if_pos hg] at hΦ;refine aN _ _ ?_;refine aA fun cU aZ cK=>?_;simp only[lH,seval,r0,r4,r2,YE,List.drop_zero,List.take];refine aH ?_ (aFo k2.ok H2 p v hh fun s3 H3 k3=>?_)
   ·simp only[lH,seval]
   simp only[lH,seval];refine aZ _ _ ?_;simp only[lH,seval];exact hΦ s3 H3 (dD.any.trans k3)
  by_cases hv:v=0
  ·subst hv;cases hk:(p.k==2) with
   | true =>
    have hk':p.k=2:=by simpa using hk
    rw[if_neg (fun h=>h (.inr ⟨rfl,hk'⟩)),if_neg (fun h=>h (.inr ⟨rfl,hk'⟩))] at hΦ;simp only[lH,seval,y4,y8,kV,h0,decide_false,beq_self_eq_true,lk,hk];refine hR _ _ (aP _ _ ?_);simp only[lH,seval];refine bM _ _ _ (by simp) ?_;simp only[lH,seval];exact hΦ s2 H2 dD.any
   | false =>
    have hk':p.k≠2:=by simpa using hk
    simp only[lH,seval,y4,y8,kV,h0,decide_false,beq_self_eq_true,lk,hk];refine hR _ _ (aP _ _ ?_);simp only[lH,seval];refine fin _ (by omega) ?_ ?_ ?_
    all_goals simp only[lH,seval]
  ·have hv':(v==0)=false:=by simpa using hv
   simp only[lH,seval,y4,y8,kV,h0,decide_false,hv'];refine hR _ _ (aP _ _ ?_);simp only[lH,seval];refine fin _ (by omega) ?_ ?_ ?_
   all_goals simp only[lH,seval]
end
open Go.Proofs
set_option maxRecDepth 100000
set_option maxHeartbeats 4000000
section
variable {kc:Kc} {q:Bool} {s:St} {Φ:Value→St→Prop}
structure Part (s:St) (N r gn:Nat) (sa:Option Addr) (sc:Nat) (rows:List Nat):Prop where
 c:Obj s r [.slice sa rows.length sc,.slice (some ⟨gn,0,none⟩) 16 16,.slice none 0 0]
 cs:bJ s 62 1 (.slice sa rows.length sc) (rows.map AY)
 cr:∀ n∈rows,Obj s n (row 16 fun _=>int 0)
 cg:Obj s gn (row 16 fun _=>int 0)
 nd:(r::gn::rows).Nodup
 ge:∀ n∈r::gn::rows,N≤n
 ns:∀ b∈nameOf (.slice sa rows.length sc),N≤b∧b∉r::gn::rows
theorem Part.lt {N r gn:Nat} {sa:Option Addr} {sc:Nat} {rows:List Nat} (h:Part s N r gn sa sc rows) (hs:Ok s):∀ n∈r::gn::rows,n<s.next:=by
 intro n hn;rcases List.mem_cons.1 hn with rfl | hn
 ·exact h.c.lt hs
 ·rcases List.mem_cons.1 hn with rfl | hn
  ·exact h.cg.lt hs
  ·exact(h.cr n hn).lt hs
theorem oG:type_of% (B6 @RX @xv @rK @rU @UH @bj):=B6 @RX @xv @rK @rU @UH @bj
theorem Nz (hs:Ok s) {m:Nat} (h1:1≤m) (h4:m≤4) (hΦ:∀ r Q R s',R.m=m→(∀ i,R.sl i=0)→(∀ i,R.gl i=0)→R.q=[]→gH s' r Q R→(∀ x∈Q.aS r R,s.next≤x)→aC [] s s'→Φ (.tuple #[ptr r,int 0]) s'):okF q X (KO kc) 53 [int m] s Φ:=by
 refine aW Tryz.func53 (by kernel_rfl) rfl rfl (rs:=[.tmp 2,.tmp 3]) rfl (N:=31) rfl rfl ?_;refine aA fun bF aF bD=>?_;simp only[oG,seval];refine aF _ _ ?_;refine aA fun Ψ1 aE aL=>?_;refine aA fun Ψ2 aI bH=>?_;refine cL [(2,8)] (by kernel_rfl) fun O hO bC hR=>?_;have y2:∀ a,aO O a 2=aY (a.aB 8):=hO (2,8) (by simp);have g1:¬ (m:Int)<1:=by omega
 have g2:¬ (m:Int)>4:=by omega
 simp only[oG,seval,y2,g1,g2,decide_false];refine hR _ _ (aI _ _ ?_);simp only[oG,seval];refine aE _ _ ?_;refine aA fun Ψ3 aN bM=>?_;simp only[oG,seval,EM (nm:=s.next) (n:=(16:Int)) (m:=(16:Int)) (by omega) (by omega) (by omega) (by omega),show Int.toNat 16=16 from rfl];obtain⟨S1,f1,k1,c1,n1⟩:∃ S1,(s.new fun v=>bW.cells PT.nil [Value.int IntKind.i64 0] 16 3 false false v)=S1∧aC [] s S1∧Obj S1 s.next (row 16 fun _=>int 0)∧S1.next=s.next+2 :=
  ⟨_,rfl,(aC.refl hs).new (.inr (Nat.le_refl _)),Obj.uR (s:=s) (x:=s.next) (n:=16) (m:=1) rfl (by rw[fY]) (fun i hi=>by rw[lW _ (by omega),Nat.mod_one];rfl),rfl⟩
 rw[f1];obtain⟨s2,e2,k2,c2,n2⟩:=cI k1.ok (L:=[.slice none 0 0,.slice (some ⟨s.next,0,none⟩) 16 16,.slice none 0 0]) (n:=3) (e:=161) rfl
 try simp only[oG,seval]
 rw[e2];refine aN _ _ ?_;have dD:=k1.trans k2;have P0:Part s2 s.next S1.next s.next none 0 []:=⟨c2,.nil,fun n hn=>(by cases hn),c1.aD k2 (by simp),by simp;omega,fun n hn=>by simp at hn;omega,fun b hb=>(by simp[nameOf] at hb)⟩;refine aA fun Ψ4 aP cC=>?_;refine aA fun cU aZ cK=>?_;simp only[oG,seval];refine aZ _ _ ?_;refine cJ fun dN bO oL cZ=>?_;refine gB (n:=m) (fun j a' s'=>∃ sa sc rows,a'.aB 0=int m∧a'.aB 4=ptr S1.next∧a'.aB 5=int j∧rows.length=j∧Part s' s.next S1.next s.next sa sc rows∧aC [] s s')
  (fun j a' s'=>∃ sa sc rows,a'.aB 0=int m∧a'.aB 4=ptr S1.next∧a'.aB 5=int j∧rows.length=j+1∧Part s' s.next S1.next s.next sa sc rows∧aC [] s s') ?_ ?_ ?_ ?_ (Nat.zero_le _) ?_
 ·rintro j a' s' hj ⟨sa,sc,rows,r0,r4,r5,hl,hp,hk⟩ aV bP;simp only[oG,seval,r0,r5];refine bP _ _ (decide ((j:Int)<m)) ?_ (by simp) ⟨sa,sc,rows,?_,?_,?_,hl,hp,hk⟩
  all_goals simp only[oG,seval,r0,r4,r5]
 ·rintro j a' s' hj ⟨sa,sc,rows,r0,r4,r5,hl,hp,hk⟩ aV w1 w2 w3;have l0:aG s'.look ⟨S1.next,0,none⟩=some (.slice sa rows.length sc):=hp.c.load rfl;have fr:∀ y,s'.next≤y→(s'.skip 22).heap.get y=none:=hk.ok.fresh;have cD:=hp.lt hk.ok;obtain⟨T1,E1,K1,C1,N1,F1⟩:∃ T1,(s'.skip 22).put (s'.next+10) (fun v=>bW.cells PT.nil [Value.int IntKind.i64 0] 16 3 false false v)=T1∧aC [] s' T1∧Obj T1 (s'.next+10) (row 16 fun _=>int 0)∧T1.next=s'.next+22∧(∀ y,s'.next≤y→y≠s'.next+10→T1.heap.get y=none) :=
   ⟨_,rfl,(aC.skip hk.ok 22).jT (fr _ (by omega)) (by show s'.next+10<s'.next+22;omega) (by omega) (Nat.le_refl _),Obj.uR (n:=16) (m:=1) rfl (by rw[fY]) (fun i hi=>by rw[lW _ (by omega),Nat.mod_one];rfl),rfl,fun y hy hne=>by rw[oK hne];exact fr y hy⟩
  obtain⟨T2,E2,K2,C2,cz,N2⟩:∃ T2,T1.put (s'.next+12) (fun v=>bW.cells (PT.ofList [AY (s'.next+10)]) [] 1 62 false false v)=T2∧aC [] s' T2∧Obj T2 (s'.next+12) [AY (s'.next+10)]∧Obj T2 (s'.next+10) (row 16 fun _=>int 0)∧T2.next=s'.next+22 :=
   ⟨_,rfl,K1.jT (F1 _ (by omega) (by omega)) (by omega) (by omega) (Nat.le_refl _),Obj.kC rfl,C1.fI (by omega),N1⟩
  obtain⟨w,T3,h3,b3,k3,m3,a3,c3,rfl⟩:=iE (X:=X) (t:=159) (e:=62) (N:=1) (B:=24) (z:=.slice none 0 0) (x:=.slice (some ⟨s'.next+12,0,none⟩) 1 1) (k:=1) (new:=[AY (s'.next+10)]) (by kernel_rfl) (by kernel_rfl) rfl K2.ok (by omega) (hp.cs.aD K2 (by simp)) rfl (lQ (by omega) (C2.bI (i:=0) (k:=1) (Nat.le_refl _))) rfl rfl (by omega) (by omega);have PV:∀ x∈S1.next::s.next::rows,x∉nameOf (.slice sa rows.length sc):=fun x hx h=>(hp.ns x h).2 hx;have tJ:=(hp.c.aD K2 (by simp)).aD k3 (PV _ (List.mem_cons_self ..));obtain⟨T4,h4',c4,k4⟩:=tJ.fK k3.ok (i:=0) (v:=.slice a3 (rows.length+1) c3) (by simp) rfl;refine dG [] [] [] (by kernel_rfl) (by kernel_rfl) (by rfl) fun O hO bC hR=>?_;simp only[oG,seval,r4,l0,EM (nm:=s'.next+10) (n:=(16:Int)) (m:=(16:Int)) (by omega) (by omega) (by omega) (by omega),show Int.toNat 16=16 from rfl];rw[E1]
  try simp only[oG,seval]
  rw[E2]
  try simp only[oG,seval]
  refine vJ ?_ h3 ?_ ?_
  ·simp only[oG,seval]
  ·simp only[oG,seval]
  simp only[oG,seval,h4'];refine hR _ _ (w1 _ _ ⟨a3,c3,rows++[s'.next+10],?_,?_,?_,by rw[List.length_append,List.length_singleton,hl],?_,?_⟩)
  ·simp only[oG,seval,r0]
  ·simp only[oG,seval,r4]
  ·simp only[oG,seval,r5]
  ·have eN:(rows++[s'.next+10]).length=rows.length+1:=by rw[List.length_append,List.length_singleton]
   have hge:=hk.next;have kv:S1.next∉nameOf (.slice a3 (rows.length+1) c3):=fun h=>by
    rcases m3 _ h with h | h
    ·exact PV _ (List.mem_cons_self ..) h
    ·have:=cD _ (List.mem_cons_self ..);omega
   have kn:∀ x∈S1.next::s.next::rows,x≠S1.next→∀ L,Obj s' x L→Obj T4 x L:=fun x hx hne L ho=>((ho.aD K2 (by simp)).aD k3 (PV x hx)).aD k4 (by simpa using hne);have nd:=hp.nd;have pY:=nd;rw[List.nodup_cons,List.nodup_cons] at pY;refine⟨by rw[eN];exact c4,?_,fun n hn=>?_,?_,?_,fun n hn=>?_,fun b hb=>?_⟩
   ·rw[eN,List.map_append];exact b3.aD k4 fun b hb hb'=>kv (by rw[← List.mem_singleton.1 hb'];exact hb)
   ·rcases List.mem_append.1 hn with h | h
    ·exact kn n (List.mem_cons_of_mem _ (List.mem_cons_of_mem _ h)) (fun e=>pY.1 (by rw[← e];exact List.mem_cons_of_mem _ h)) _ (hp.cr n h)
    ·rw[List.mem_singleton.1 h];refine(cz.aD k3 fun h=>?_).aD k4 ?_
     ·have:=(hp.cs.lt hk.ok) _ h;omega
     ·have:=cD _ (List.mem_cons_self ..);simp;omega
   ·exact kn _ (List.mem_cons_of_mem _ (List.mem_cons_self ..)) (fun e=>pY.1 (by rw[← e];exact List.mem_cons_self ..)) _ hp.cg
   ·have e:S1.next::s.next::(rows++[s'.next+10])=(S1.next::s.next::rows)++[s'.next+10]:=rfl;rw[e,List.nodup_append];refine⟨nd,by simp,fun x hx y hy=>?_⟩;have:=cD x hx;rw[List.mem_singleton.1 hy];omega
   ·have e:S1.next::s.next::(rows++[s'.next+10])=(S1.next::s.next::rows)++[s'.next+10]:=rfl;rw[e] at hn;rcases List.mem_append.1 hn with h | h
    ·exact hp.ge n h
    ·rw[List.mem_singleton.1 h];omega
   ·rw[eN] at hb;have e:S1.next::s.next::(rows++[s'.next+10])=(S1.next::s.next::rows)++[s'.next+10]:=rfl;rw[e];rcases m3 b hb with h | h
    ·have h2:=hp.ns b h;refine⟨h2.1,fun hm=>?_⟩;rcases List.mem_append.1 hm with h' | h'
     ·exact h2.2 h'
     ·have:=(hp.cs.lt hk.ok) b h;rw[List.mem_singleton.1 h'] at this;omega
    ·refine⟨by omega,fun hm=>?_⟩;rcases List.mem_append.1 hm with h' | h'
     ·have:=cD b h';omega
     ·rw[List.mem_singleton.1 h'] at h;omega
  ·exact((hk.trans K2).step k3 fun y hy=>.inr (hs.fresh y (hp.ns y hy).1)).step k4 fun y hy=>.inr (by rw[List.mem_singleton.1 hy];exact hs.fresh _ (by omega))
 ·rintro j a' s' hj ⟨sa,sc,rows,r0,r4,r5,hl,hp,hk⟩ aV w1;have w:IntKind.i64.wrap ((j:Int)+1)=((j+1:Nat):Int):=by rw[aU (by omega) (by omega)];rfl
  simp only[oG,seval,r5,w];refine w1 _ _ ⟨sa,sc,rows,?_,?_,?_,hl,hp,hk⟩
  all_goals try simp only[oG,seval,r0,r4]
 ·rintro a' s' ⟨sa,sc,rows,r0,r4,r5,hl,hp,hk⟩;refine oL _ _ (aP _ _ ?_);simp only[oG,seval,r4];refine hΦ S1.next ⟨sa,sc,rows,s.next,none,0⟩ ⟨0,0,none,0,0,m,fun _=>0,fun _=>0,[]⟩ s' rfl (fun _=>rfl) (fun _=>rfl) rfl ?_ ?_ hk
  ·obtain⟨c,cs,cr,cg,nd,ge,ns⟩:=hp;rw[hl] at c cs ns;exact⟨c,cs,hl,fun k hk=>cr _ (List.getElem_mem hk),cg,.nil,nd,fun b hb=>⟨(ns b hb).2,fun h=>(by simp[nameOf] at h)⟩,fun b hb=>(by simp[nameOf] at hb),h1,h4,Nat.zero_le _⟩
  ·intro x hx;rcases List.mem_append.1 hx with hx | hx
   ·rcases List.mem_append.1 hx with hx | hx
    ·exact hp.ge x hx
    ·rw[← hl] at hx;exact(hp.ns x hx).1
   ·simp[nameOf] at hx
 ·refine⟨none,0,[],?_,?_,?_,rfl,P0,dD⟩
  all_goals try simp only[oG,seval]
  all_goals rfl
end
open Go.Proofs
set_option maxRecDepth 100000
set_option maxHeartbeats 8000000
namespace PR
variable (R:PR)
def ev (k n:Nat):List eJ:=(List.range n).map (cW k)
def every:List eJ:=ev 0 (16*R.m)++ev 1 16++ev 2 R.q.length
theorem UT (k n:Nat):ev k (n+1)=ev k n++[cW k n]:=by unfold ev;rw[List.range_succ,List.map_append];rfl
theorem gj (k n:Nat):(ev k n).length=n:=by unfold ev;rw[List.length_map,List.length_range]
theorem ri (k n:Nat):R.part k n=(ev k n).filter fun p=>R.get p != 0:=by
 induction n with
 | zero=>rfl
 | succ n ih =>
  rw[ZM,UT,List.filter_append,ih];congr 1;unfold one;by_cases h:R.get (cW k n)=0
  ·rw[if_pos h];simp[h]
  ·rw[if_neg h];simp[h]
theorem wv:R.all=R.every.filter fun p=>R.get p != 0:=by
 unfold all every;rw[show (3:Nat)=2+1 from rfl,SR,show (2:Nat)=1+1 from rfl,SR,show (1:Nat)=0+1 from rfl,SR];rw[List.filter_append,List.filter_append,ri,ri,ri]
 try rfl
theorem Zq {p:eJ} (h:p∈R.every):R.has p=true:=by
 unfold every ev at h;simp only[List.mem_append,List.mem_map,List.mem_range] at h;rcases h with (⟨i,hi,rfl⟩ | ⟨i,hi,rfl⟩) | ⟨i,hi,rfl⟩
 ·exact R.PC (by omega) (by unfold len;simpa using hi)
 ·exact R.PC (by omega) (by unfold len;simpa using hi)
 ·exact R.PC (by omega) (by unfold len;simpa using hi)
theorem Aw:R.every.length=16*R.m+16+R.q.length:=by unfold every;rw[List.length_append,List.length_append,gj,gj,gj]
theorem aDp (m i:Nat) (h:i<16):cW 0 (m*16+i)=⟨0,m,i⟩:=by
 unfold cW;simp only[if_true];rw[show (m*16+i)/16=m by omega,show (m*16+i)%16=i by omega]
 try rfl
theorem aDq (i:Nat):cW 1 i=⟨1,0,i⟩:=by unfold cW;simp
theorem aDr (i:Nat):cW 2 i=⟨2,0,i⟩:=by unfold cW;simp
end PR
section
variable {kc:Kc} {q:Bool} {s:St} {Φ:Value→St→Prop} {r:Nat} {Q:RQ} {R:PR}
theorem sY:type_of% (B9 @RX @rJ @bG @rK @rU @zN @EE @dF (B4 @vL @dQ @KJ @rL)):=B9 @RX @rJ @bG @rK @rU @zN @EE @dF (B4 @vL @dQ @KJ @rL)
theorem Ob (hs:Ok s) (H:gH s r Q R) (p:eJ) (hp:R.has p=true) (hΦ:∀ s',aC [] s s'→Φ (int (R.get p)) s'):okF q X (KO kc) 178 [ptr r,wG p] s Φ:=by
 unfold PR.has at hp;unfold PR.get at hΦ;refine aW Tryz.func178 (by kernel_rfl) rfl rfl (rs:=[.tmp 4]) rfl (N:=39) rfl rfl ?_;refine aA fun bF aF bD=>?_;simp only[sY,seval];obtain⟨s1,e1,k1,c1,_⟩:=cI hs (L:=[int p.k,int p.m,int p.i]) (n:=3) (e:=118) rfl;rw[e1];refine aF _ _ ?_;have H1:=H.aJ k1;have lk:aG s1.look ⟨s.next,0,none⟩=some (int p.k):=c1.load rfl;have lm:aG s1.look ⟨s.next,1,none⟩=some (int p.m):=c1.load rfl;have li:aG s1.look ⟨s.next,2,none⟩=some (int p.i):=c1.load rfl;refine aA fun jC dK iK=>?_;refine aA fun Ψ1 aE aL=>?_;simp only[sY,seval,lk];refine aE _ _ ?_;refine cJ fun Ψ2 aI xQ bH=>?_;refine aA fun Ψ3 aN bM=>?_;by_cases k0:p.k=0
 ·rw[if_pos k0] at hΦ;have HE:0≤p.m∧p.m<R.m∧0≤p.i∧p.i<16:=by
   by_cases h:0≤p.m∧p.m<R.m
   ·rw[if_pos ⟨k0,h⟩] at hp;have:=of_decide_eq_true hp;exact⟨h.1,h.2,this⟩
   ·rw[if_neg (fun h'=>h h'.2),if_neg (by omega),if_neg (by omega)] at hp;cases hp
  obtain⟨m0,m1,i0,i1⟩:=HE;have LL:=H.rl;have hm:p.m.toNat<Q.rows.length:=by omega
  obtain⟨sb,IZ,HM⟩:=H1.cs.sl.addr (show 0<R.m by have:=H.m1;omega);have QQ:aG s1.look ⟨sb,IZ+p.m.toNat,none⟩=some (AY Q.rows[p.m.toNat]):=by
   have h:=H1.cs.sl;rw[HM] at h;exact h.load (by rw[List.getElem?_map,List.getElem?_eq_getElem hm];rfl)
  have lv:aG s1.look ⟨Q.rows[p.m.toNat],p.i.toNat,none⟩=some (int (R.sl (p.m*16+p.i).toNat)):=by
   have:=(H1.cr _ hm).load (lW (n:=16) (i:=p.i.toNat) _ (by omega));rw[this,show (p.m*16+p.i).toNat=p.m.toNat*16+p.i.toNat by omega]
  have l0:=H1.l0;rw[HM] at l0;simp only[sY,seval,k0,beq_self_eq_true];refine aN _ _ ?_;simp only[dA,RV,RG,seval];refine aA fun Ψ4 aP cC=>?_;refine dG [] [] [] (by kernel_rfl) (by kernel_rfl) (by rfl) fun O hO bC hR=>?_;have HR:p.i<((16:Nat):Int):=i1;simp only[sY,seval,l0,lm,m0,m1,and_self,bQ,Nat.mul_one,QQ,li,i0,i1,Nat.zero_add,lv];refine hR _ _ (aP _ _ ?_);simp only[sY,seval];refine bH _ _ _ (by simp) (by simp) (iK _ _ _ (by simp) ?_);simp only[sY,seval];exact hΦ _ (k1.kI _)
 ·rw[if_neg k0] at hΦ;have XI:(p.k==0)=false:=beq_eq_false_iff_ne.2 k0;simp only[sY,seval,XI];refine aN _ _ ?_;simp only[dA,RV,RG,seval];refine aA fun Ψ4 aP cC=>?_;by_cases qK:p.k=1
  ·rw[if_pos qK] at hΦ;have hi:0≤p.i∧p.i<16:=by
    by_cases h:p.m=0
    ·rw[if_neg (by omega),if_pos ⟨qK,h⟩] at hp;exact of_decide_eq_true hp
    ·rw[if_neg (by omega),if_neg (by omega),if_neg (by omega)] at hp;cases hp
   obtain⟨i0,i1⟩:=hi;have HR:p.i<((16:Nat):Int):=i1;have lv:aG s1.look ⟨Q.gn,p.i.toNat,none⟩=some (int (R.gl p.i.toNat)):=H1.cg.load (lW (n:=16) (i:=p.i.toNat) _ (by omega));simp only[sY,seval,qK,beq_self_eq_true];refine aP _ _ ?_;simp only[dA,RV,RG,seval];refine aA fun cU aZ cK=>?_;refine dG [] [] [] (by kernel_rfl) (by kernel_rfl) (by rfl) fun O hO bC hR=>?_;simp only[sY,seval,H1.l1,li,i0,i1,and_self,bQ,Nat.mul_one,Nat.zero_add,lv];refine hR _ _ (aZ _ _ ?_);simp only[sY,seval];refine bH _ _ _ (by simp) (by simp) (iK _ _ _ (by simp) ?_);simp only[sY,seval];exact hΦ _ (k1.kI _)
  ·rw[if_neg qK] at hΦ;have aA0:(p.k==1)=false:=beq_eq_false_iff_ne.2 qK;have hi:0≤p.i∧p.i<R.q.length:=by
    by_cases h:p.k=2∧p.m=0
    ·rw[if_neg (by omega),if_neg (by omega),if_pos h] at hp;exact of_decide_eq_true hp
    ·rw[if_neg (by omega),if_neg (by omega),if_neg h] at hp;cases hp
   obtain⟨i0,i1⟩:=hi;obtain⟨vb,dW,pQ⟩:=H1.cq.sl.addr (show 0<R.q.length by omega);have Er:p.i.toNat<R.q.length:=by omega
   have lv:aG s1.look ⟨vb,dW+p.i.toNat,none⟩=some (int (R.q.getD p.i.toNat 0)):=by
    have h:=H1.cq.sl;rw[pQ] at h;refine h.load ?_;rw[List.getElem?_map,List.getElem?_eq_getElem Er,List.getD_eq_getElem?_getD,List.getElem?_eq_getElem Er];rfl
   have l2:=H1.l2;rw[pQ] at l2;simp only[sY,seval,aA0];refine aP _ _ ?_;simp only[dA,RV,RG,seval];simp only[sY,seval];refine aI _ _ (dK _ _ ?_);refine aA fun cU aZ cK=>?_;refine dG [] [] [] (by kernel_rfl) (by kernel_rfl) (by rfl) fun O hO bC hR=>?_;simp only[sY,seval,l2,li,i0,i1,and_self,bQ,Nat.mul_one,lv];refine hR _ _ (aZ _ _ ?_);simp only[sY,seval];exact hΦ _ (k1.kI _)
theorem dZ:type_of% (B9 @RX @rK @rU @wE @TQ @JZ @JW @rL (B2 @dF @dV)):=B9 @RX @rK @rU @wE @TQ @JZ @JW @rL (B2 @dF @dV)
theorem aFh (hs:Ok s) (H:gH s r Q R) (hΦ:∀ a c s',bJ s' 118 3 (.slice a R.every.length c) (R.every.flatMap kM)→aC [] s s'→(∀ b∈nameOf (.slice a R.every.length c),s.next≤b)→Φ (.slice a R.every.length c) s'):okF q X (KO kc) 177 [ptr r] s Φ:=by
 have m1:=H.m1;have m4:=H.m4;have ql:=H.ql;refine aW Tryz.func177 (by kernel_rfl) rfl rfl (rs:=[.tmp 2]) rfl (N:=55) rfl rfl ?_;refine aA fun bF aF bD=>?_;simp only[dZ,seval];refine aF _ _ ?_;refine aA fun Ψ1 aE aL=>?_;simp only[dZ,seval];refine aE _ _ ?_;refine aA fun Ψ2 aI bH=>?_;refine aA fun Ψ3 aN bM=>?_;simp only[dZ,seval];refine aH ?_ (MX H ?_)
 ·simp only[dZ,seval]
 try simp only[dZ,seval]
 refine aN _ _ ?_;simp only[dZ,seval];refine aI _ _ ?_;refine aA fun Ψ4 aP cC=>?_;refine aA fun cU aZ cK=>?_;simp only[dZ,seval];refine aZ _ _ ?_;refine cJ fun dN bO oL cZ=>?_;refine gB (n:=R.m) (fun j a' s'=>∃ va vc,a'.aB 0=ptr r∧a'.aB 4=int j∧a'.aB 3=.slice va (j*16) vc∧bJ s' 118 3 (.slice va (j*16) vc) ((PR.ev 0 (j*16)).flatMap kM)∧(∀ y∈nameOf (.slice va (j*16) vc),s.next≤y)∧aC [] s s')
  (fun j a' s'=>∃ va vc,a'.aB 0=ptr r∧a'.aB 4=int j∧a'.aB 3=.slice va ((j+1)*16) vc∧bJ s' 118 3 (.slice va ((j+1)*16) vc) ((PR.ev 0 ((j+1)*16)).flatMap kM)∧(∀ y∈nameOf (.slice va ((j+1)*16) vc),s.next≤y)∧aC [] s s') ?_ ?_ ?_ ?_ (Nat.zero_le _) ?_
 ·rintro j a' s' hj ⟨va,vc,r0,r4,r3,hb,hn,hk⟩ aV bP;simp only[dZ,seval,r0,r4,(H.aJ hk).l0];refine bP _ _ (decide ((j:Int)<R.m)) ?_ (by simp) ⟨va,vc,?_,?_,?_,hb,hn,hk⟩
  all_goals simp only[dZ,seval,r0,r4,r3]
 ·rintro j a' s' hj ⟨va,vc,r0,r4,r3,hb,hn,hk⟩ aV w1 w2 w3;refine aA fun fE cG dX=>?_;simp only[dZ,seval];refine cG _ _ ?_;refine cJ fun gV cT tQ gA=>?_;refine gB (n:=16) (fun i a' s'=>∃ va vc,a'.aB 0=ptr r∧a'.aB 4=int j∧a'.aB 5=int i∧a'.aB 3=.slice va (j*16+i) vc∧bJ s' 118 3 (.slice va (j*16+i) vc) ((PR.ev 0 (j*16+i)).flatMap kM)∧(∀ y∈nameOf (.slice va (j*16+i) vc),s.next≤y)∧aC [] s s')
   (fun i a' s'=>∃ va vc,a'.aB 0=ptr r∧a'.aB 4=int j∧a'.aB 5=int i∧a'.aB 3=.slice va (j*16+i+1) vc∧bJ s' 118 3 (.slice va (j*16+i+1) vc) ((PR.ev 0 (j*16+i+1)).flatMap kM)∧(∀ y∈nameOf (.slice va (j*16+i+1) vc),s.next≤y)∧aC [] s s') ?_ ?_ ?_ ?_ (Nat.zero_le _) ?_
  ·rintro i a' s' hi ⟨va,vc,r0,r4,r5,r3,hb,hn,hk⟩ aV bP;simp only[dZ,seval,r5];refine bP _ _ (decide ((i:Int)<16)) ?_ (by rw[decide_eq_true_eq];omega) ⟨va,vc,?_,?_,?_,?_,hb,hn,hk⟩
   all_goals simp only[dZ,seval,r0,r4,r5,r3]
  ·rintro i a' s' hi ⟨va,vc,r0,r4,r5,r3,hb,hn,hk⟩ aV w1 w2 w3;obtain⟨t1,f1,u1,d1,v1⟩:=cI hk.ok (L:=[int 0,int j,int i]) (n:=3) (e:=118) rfl;obtain⟨w,t2,q2,b2,u2,m2,a2,c2,rfl⟩:=iE (X:=X) (t:=115) (e:=118) (N:=3) (B:=24) (z:=.agg #[int 0,int 0,int 0]) (x:=.slice (some ⟨s'.next,0,none⟩) 1 1) (k:=1) (new:=[int 0,int j,int i]) (by kernel_rfl) (by kernel_rfl) rfl u1.ok (by omega) (hb.aD u1 (by simp)) rfl (lQ (by omega) (d1.bI (i:=0) (k:=3) (Nat.le_refl _))) rfl rfl (by omega) (by omega);have n1:=hk.next;have n2:=u1.next;have hn2:∀ y∈nameOf (.slice a2 (j*16+i+1) c2),s.next≤y:=fun y hy=>by
    rcases m2 y hy with e | e
    ·exact hn y e
    ·omega
   have K2:aC [] s t2:=(hk.trans u1).step u2 fun y hy=>.inr (hs.fresh y (hn y hy));simp only[dZ,seval,r3,r4,r5];rw[f1];refine iS ?_ q2 ?_
   ·simp only[dZ,seval]
   simp only[dZ,seval];refine w1 _ _ ⟨a2,c2,?_,?_,?_,?_,?_,hn2,K2⟩
   ·simp only[dZ,seval,r0]
   ·simp only[dZ,seval,r4]
   ·simp only[dZ,seval,r5]
   ·simp only[dZ,seval]
   ·rw[PR.UT,List.flatMap_append,PR.aDp j i hi];simpa [kM] using b2
  ·rintro i a' s' hi ⟨va,vc,r0,r4,r5,r3,hb,hn,hk⟩ aV w1;have w:IntKind.i64.wrap ((i:Int)+1)=((i+1:Nat):Int):=by rw[aU (by omega) (by omega)];rfl
   simp only[dZ,seval,r5,w];refine w1 _ _ ⟨va,vc,?_,?_,?_,?_,hb,hn,hk⟩
   all_goals try simp only[dZ,seval,r0,r4,r3]
   all_goals rfl
  ·rintro a' s' ⟨va,vc,r0,r4,r5,r3,hb,hn,hk⟩;refine tQ _ _ ?_;have e:j*16+16=(j+1)*16:=by omega
   rw[e] at r3 hb hn;exact w1 _ _ ⟨va,vc,r0,r4,r3,hb,hn,hk⟩
  ·refine⟨va,vc,?_,?_,?_,?_,hb,hn,hk⟩
   all_goals try simp only[dZ,seval,r0,r4,r3]
   all_goals rfl
 ·rintro j a' s' hj ⟨va,vc,r0,r4,r3,hb,hn,hk⟩ aV w1;have w:IntKind.i64.wrap ((j:Int)+1)=((j+1:Nat):Int):=by rw[aU (by omega) (by omega)];rfl
  simp only[dZ,seval,r4,w];refine w1 _ _ ⟨va,vc,?_,?_,?_,hb,hn,hk⟩
  all_goals try simp only[dZ,seval,r0,r3]
 ·rintro a' s' ⟨va,vc,r0,r4,r3,hb,hn,hk⟩;refine oL _ _ (aP _ _ ?_);rw[Nat.mul_comm R.m 16] at r3 hb hn;refine aA fun jC dK iK=>?_;refine aA fun lO eG kY=>?_;simp only[dZ,seval];refine eG _ _ ?_;refine cJ fun rE jI BO pS=>?_;refine gB (n:=16) (fun i a' s'=>∃ va vc,a'.aB 0=ptr r∧a'.aB 6=int i∧a'.aB 3=.slice va (16*R.m+i) vc∧bJ s' 118 3 (.slice va (16*R.m+i) vc) ((PR.ev 0 (16*R.m)++PR.ev 1 i).flatMap kM)∧(∀ y∈nameOf (.slice va (16*R.m+i) vc),s.next≤y)∧aC [] s s')
   (fun i a' s'=>∃ va vc,a'.aB 0=ptr r∧a'.aB 6=int i∧a'.aB 3=.slice va (16*R.m+i+1) vc∧bJ s' 118 3 (.slice va (16*R.m+i+1) vc) ((PR.ev 0 (16*R.m)++PR.ev 1 (i+1)).flatMap kM)∧(∀ y∈nameOf (.slice va (16*R.m+i+1) vc),s.next≤y)∧aC [] s s') ?_ ?_ ?_ ?_ (Nat.zero_le _) ?_
  ·rintro i a' s' hi ⟨va,vc,r0,r6,r3,hb,hn,hk⟩ aV bP;simp only[dZ,seval,r6];refine bP _ _ (decide ((i:Int)<16)) ?_ (by rw[decide_eq_true_eq];omega) ⟨va,vc,?_,?_,?_,hb,hn,hk⟩
   all_goals simp only[dZ,seval,r0,r6,r3]
  ·rintro i a' s' hi ⟨va,vc,r0,r6,r3,hb,hn,hk⟩ aV w1 w2 w3;obtain⟨t1,f1,u1,d1,v1⟩:=cI hk.ok (L:=[int 1,int 0,int i]) (n:=3) (e:=118) rfl;obtain⟨w,t2,q2,b2,u2,m2,a2,c2,rfl⟩:=iE (X:=X) (t:=115) (e:=118) (N:=3) (B:=24) (z:=.agg #[int 0,int 0,int 0]) (x:=.slice (some ⟨s'.next,0,none⟩) 1 1) (k:=1) (new:=[int 1,int 0,int i]) (by kernel_rfl) (by kernel_rfl) rfl u1.ok (by omega) (hb.aD u1 (by simp)) rfl (lQ (by omega) (d1.bI (i:=0) (k:=3) (Nat.le_refl _))) rfl rfl (by omega) (by omega);have n1:=hk.next;have n2:=u1.next;have hn2:∀ y∈nameOf (.slice a2 (16*R.m+i+1) c2),s.next≤y:=fun y hy=>by
    rcases m2 y hy with e | e
    ·exact hn y e
    ·omega
   have K2:aC [] s t2:=(hk.trans u1).step u2 fun y hy=>.inr (hs.fresh y (hn y hy));simp only[dZ,seval,r3,r6];rw[f1];refine iS ?_ q2 ?_
   ·simp only[dZ,seval]
   simp only[dZ,seval];refine w1 _ _ ⟨a2,c2,?_,?_,?_,?_,hn2,K2⟩
   ·simp only[dZ,seval,r0]
   ·simp only[dZ,seval,r6]
   ·simp only[dZ,seval]
   ·rw[PR.UT,← List.append_assoc,List.flatMap_append,PR.aDq];simpa [kM] using b2
  ·rintro i a' s' hi ⟨va,vc,r0,r6,r3,hb,hn,hk⟩ aV w1;have w:IntKind.i64.wrap ((i:Int)+1)=((i+1:Nat):Int):=by rw[aU (by omega) (by omega)];rfl
   simp only[dZ,seval,r6,w];refine w1 _ _ ⟨va,vc,?_,?_,?_,hb,hn,hk⟩
   all_goals try simp only[dZ,seval,r0,r3]
   all_goals rfl
  ·rintro a' s' ⟨va,vc,r0,r6,r3,hb,hn,hk⟩;refine BO _ _ (dK _ _ ?_);refine aA fun sF iY rQ=>?_;refine aA fun wV lU vU=>?_;simp only[dZ,seval];refine lU _ _ ?_;refine cJ fun DB tN QA tO=>?_;refine gB (n:=R.q.length) (fun i a' s'=>∃ va vc,a'.aB 0=ptr r∧a'.aB 7=int i∧a'.aB 3=.slice va (16*R.m+16+i) vc∧bJ s' 118 3 (.slice va (16*R.m+16+i) vc) ((PR.ev 0 (16*R.m)++PR.ev 1 16++PR.ev 2 i).flatMap kM)∧(∀ y∈nameOf (.slice va (16*R.m+16+i) vc),s.next≤y)∧aC [] s s')
    (fun i a' s'=>∃ va vc,a'.aB 0=ptr r∧a'.aB 7=int i∧a'.aB 3=.slice va (16*R.m+16+i+1) vc∧bJ s' 118 3 (.slice va (16*R.m+16+i+1) vc) ((PR.ev 0 (16*R.m)++PR.ev 1 16++PR.ev 2 (i+1)).flatMap kM)∧(∀ y∈nameOf (.slice va (16*R.m+16+i+1) vc),s.next≤y)∧aC [] s s') ?_ ?_ ?_ ?_ (Nat.zero_le _) ?_
   ·rintro i a' s' hi ⟨va,vc,r0,r7,r3,hb,hn,hk⟩ aV bP;simp only[dZ,seval,r0,r7,(H.aJ hk).l2];refine bP _ _ (decide ((i:Int)<R.q.length)) ?_ (by simp) ⟨va,vc,?_,?_,?_,hb,hn,hk⟩
    all_goals simp only[dZ,seval,r0,r7,r3]
   ·rintro i a' s' hi ⟨va,vc,r0,r7,r3,hb,hn,hk⟩ aV w1 w2 w3;obtain⟨t1,f1,u1,d1,v1⟩:=cI hk.ok (L:=[int 2,int 0,int i]) (n:=3) (e:=118) rfl;obtain⟨w,t2,q2,b2,u2,m2,a2,c2,rfl⟩:=iE (X:=X) (t:=115) (e:=118) (N:=3) (B:=24) (z:=.agg #[int 0,int 0,int 0]) (x:=.slice (some ⟨s'.next,0,none⟩) 1 1) (k:=1) (new:=[int 2,int 0,int i]) (by kernel_rfl) (by kernel_rfl) rfl u1.ok (by omega) (hb.aD u1 (by simp)) rfl (lQ (by omega) (d1.bI (i:=0) (k:=3) (Nat.le_refl _))) rfl rfl (by omega) (by omega);have n1:=hk.next;have n2:=u1.next;have hn2:∀ y∈nameOf (.slice a2 (16*R.m+16+i+1) c2),s.next≤y:=fun y hy=>by
     rcases m2 y hy with e | e
     ·exact hn y e
     ·omega
    have K2:aC [] s t2:=(hk.trans u1).step u2 fun y hy=>.inr (hs.fresh y (hn y hy));simp only[dZ,seval,r3,r7];rw[f1];refine iS ?_ q2 ?_
    ·simp only[dZ,seval]
    simp only[dZ,seval];refine w1 _ _ ⟨a2,c2,?_,?_,?_,?_,hn2,K2⟩
    ·simp only[dZ,seval,r0]
    ·simp only[dZ,seval,r7]
    ·simp only[dZ,seval]
    ·rw[PR.UT 2 i,← List.append_assoc,List.flatMap_append,PR.aDr];simpa [kM] using b2
   ·rintro i a' s' hi ⟨va,vc,r0,r7,r3,hb,hn,hk⟩ aV w1;have w:IntKind.i64.wrap ((i:Int)+1)=((i+1:Nat):Int):=by rw[aU (by omega) (by omega)];rfl
    simp only[dZ,seval,r7,w];refine w1 _ _ ⟨va,vc,?_,?_,?_,hb,hn,hk⟩
    all_goals try simp only[dZ,seval,r0,r3]
    all_goals rfl
   ·rintro a' s' ⟨va,vc,r0,r7,r3,hb,hn,hk⟩;refine QA _ _ (iY _ _ ?_);rw[← R.Aw] at r3 hb hn;simp only[dZ,seval,r3];exact hΦ va vc s' hb hk hn
   ·refine⟨va,vc,?_,?_,?_,?_,hn,hk⟩
    ·try simp only[dZ,seval,r0]
    ·try simp only[dZ,seval]
     try rfl
    ·try simp only[dZ,seval,r3]
     try rfl
    ·rw[Nat.add_zero];simpa [PR.ev] using hb
  ·refine⟨va,vc,?_,?_,?_,?_,hn,hk⟩
   ·try simp only[dZ,seval,r0]
   ·try simp only[dZ,seval]
    try rfl
   ·try simp only[dZ,seval,r3]
    try rfl
   ·rw[Nat.add_zero];simpa [PR.ev] using hb
 ·refine⟨none,0,?_,?_,?_,?_,(by simp[nameOf]),.refl hs⟩
  ·try simp only[dZ,seval]
  ·try simp only[dZ,seval]
   try rfl
  ·try simp only[dZ,seval]
   try rfl
  ·exact .nil
theorem mA:type_of% (B5 @RX @wB @vW @kL @JZ):=B5 @RX @wB @vW @kL @JZ
theorem aFk (hs:Ok s) (H:gH s r Q R) (hΦ:∀ a c s',bJ s' 118 3 (.slice a R.all.length c) (R.all.flatMap kM)→aC [] s s'→(∀ b∈nameOf (.slice a R.all.length c),s.next≤b)→Φ (.slice a R.all.length c) s'):okF q X (KO kc) 94 [ptr r] s Φ:=by
 have m1:=H.m1;have m4:=H.m4;have ql:=H.ql;have hel:=R.Aw;rw[PR.wv] at hΦ;refine aW Tryz.func94 (by kernel_rfl) rfl rfl (rs:=[.tmp 2]) rfl (N:=29) rfl rfl ?_;refine aA fun bF aF bD=>?_;simp only[mA,seval];refine aF _ _ ?_;refine aA fun Ψ1 aE aL=>?_;simp only[mA,seval];refine aE _ _ ?_;refine aA fun Ψ2 aI bH=>?_;simp only[mA,seval];refine aH ?_ (aFh hs H fun ea ec s1 b1 k1 hn1=>?_)
 ·simp only[mA,seval]
 try simp only[mA,seval]
 refine aI _ _ ?_;have H1:=H.aJ k1;have n01:=k1.next;refine aA fun Ψ3 aN bM=>?_;refine aA fun Ψ4 aP cC=>?_;simp only[mA,seval];refine aP _ _ ?_;refine cJ fun cU aZ pU cK=>?_;refine gB (n:=R.every.length) (fun j a' s'=>∃ L va vc,L=(R.every.take j).filter (fun p=>R.get p != 0)∧a'.aB 0=ptr r∧a'.aB 4=.slice ea R.every.length ec∧a'.aB 5=int j∧a'.aB 3=.slice va L.length vc∧bJ s' 118 3 (.slice va L.length vc) (L.flatMap kM)∧(∀ y∈nameOf (.slice va L.length vc),s1.next≤y)∧aC [] s1 s')
  (fun j a' s'=>∃ L va vc,L=(R.every.take (j+1)).filter (fun p=>R.get p != 0)∧a'.aB 0=ptr r∧a'.aB 4=.slice ea R.every.length ec∧a'.aB 5=int j∧a'.aB 3=.slice va L.length vc∧bJ s' 118 3 (.slice va L.length vc) (L.flatMap kM)∧(∀ y∈nameOf (.slice va L.length vc),s1.next≤y)∧aC [] s1 s') ?_ ?_ ?_ ?_ (Nat.zero_le _) ?_
 ·rintro j a' s' hj ⟨L,va,vc,hL,r0,r4,r5,r3,hb,hn,hk⟩ aV bP;simp only[mA,seval,r4,r5];refine bP _ _ (decide ((j:Int)<R.every.length)) ?_ (by simp) ⟨L,va,vc,hL,?_,?_,?_,?_,hb,hn,hk⟩
  all_goals simp only[mA,seval,r0,r4,r5,r3]
 ·rintro j a' s' hj ⟨L,va,vc,hL,r0,r4,r5,r3,hb,hn,hk⟩ aV w1 w2 w3;obtain⟨vb,dW,rfl⟩:=b1.sl.addr (show 0<R.every.length by omega);have g1:(0:Int)≤(j:Int):=Int.natCast_nonneg _;have g2:(j:Int)<((R.every.length:Nat):Int):=by omega
  obtain⟨p,hp⟩:∃ p,p=R.every[j]:=⟨_,rfl⟩;have hll:L.length≤200:=by
   rw[hL];have:=List.length_filter_le (fun p=>R.get p != 0) (R.every.take j);rw[List.length_take] at this;omega
  have lj:∀ S,aC [] s1 S→bI S.look ⟨vb,dW+j*3,none⟩ 3=some [int p.k,int p.m,int p.i]:=fun S k=>by
   have:=(b1.sl.aD k (by simp)).bI (i:=j*3) (k:=3) (by omega) (by rw[OO];omega);rw[OP _ hj,← hp] at this;exact this
  have uM:=R.Zq (p:=p) (by rw[hp];exact List.getElem_mem _);have xM:(R.every.take (j+1)).filter (fun p=>R.get p != 0)=L++if R.get p != 0 then [p] else []:=by
   rw[List.take_add_one,List.getElem?_eq_getElem hj,← hp,List.filter_append,← hL];congr 1;by_cases h:R.get p=0
   ·simp[h]
   ·simp[h]
  refine aA fun dN bO cZ=>?_;simp only[mA,seval,r0,r4,r5,g1,g2,and_self,bQ,Int.toNat_natCast,lj s' hk];refine aH ?_ (Ob hk.ok (H1.aJ hk) p uM fun s2 k2=>?_)
  ·simp only[mA,seval]
  have hk2:=hk.trans k2;by_cases h0:R.get p=0
  ·have e0:(R.get p==0)=true:=by simpa using h0
   try simp only[mA,seval,e0]
   refine bO _ _ ?_;simp only[mA,seval];rw[h0] at xM;refine w1 _ _ ⟨L,va,vc,by rw[xM];simp,?_,?_,?_,?_,hb.aD k2 (by simp),hn,hk2⟩
   all_goals simp only[mA,seval,r0,r4,r5,r3]
  ·have e0:(R.get p==0)=false:=beq_eq_false_iff_ne.2 h0
   try simp only[mA,seval,e0]
   refine bO _ _ ?_;obtain⟨t1,f1,u1,d1,v1⟩:=cI k2.ok (L:=[int p.k,int p.m,int p.i]) (n:=3) (e:=118) rfl;obtain⟨w,t2,q2,b2,u2,m2,a2,c2,rfl⟩:=iE (X:=X) (t:=115) (e:=118) (N:=3) (B:=24) (z:=.agg #[int 0,int 0,int 0]) (x:=.slice (some ⟨s2.next,0,none⟩) 1 1) (k:=1) (new:=[int p.k,int p.m,int p.i]) (by kernel_rfl) (by kernel_rfl) rfl u1.ok (by omega) ((hb.aD k2 (by simp)).aD u1 (by simp)) rfl (lQ (by omega) (d1.bI (i:=0) (k:=3) (Nat.le_refl _))) rfl rfl (by omega) (by omega);have n1:=hk2.next;have n2:=u1.next;have hn2:∀ y∈nameOf (.slice a2 (L.length+1) c2),s1.next≤y:=fun y hy=>by
    rcases m2 y hy with e | e
    ·exact hn y e
    ·omega
   have K2:aC [] s1 t2:=(hk2.trans u1).step u2 fun y hy=>.inr (k1.ok.fresh y (hn y hy));have hne:(R.get p != 0)=true:=by simp[h0]
   rw[hne,if_pos rfl] at xM;have eN:(L++[p]).length=L.length+1:=by rw[List.length_append];rfl
   simp only[mA,seval,r3,r4,r5,g1,g2,and_self,bQ,Int.toNat_natCast,lj s2 hk2];rw[f1];refine iS ?_ q2 ?_
   ·simp only[mA,seval]
   simp only[mA,seval];refine w1 _ _ ⟨L++[p],a2,c2,xM.symm,?_,?_,?_,?_,?_,by rw[eN];exact hn2,K2⟩
   ·simp only[mA,seval,r0]
   ·simp only[mA,seval,r4]
   ·simp only[mA,seval,r5]
   ·simp only[mA,seval,eN]
   ·rw[eN,List.flatMap_append];simpa [kM] using b2
 ·rintro j a' s' hj ⟨L,va,vc,hL,r0,r4,r5,r3,hb,hn,hk⟩ aV w1;have w:IntKind.i64.wrap ((j:Int)+1)=((j+1:Nat):Int):=by rw[aU (by omega) (by omega)];rfl
  simp only[mA,seval,r5,w];refine w1 _ _ ⟨L,va,vc,hL,?_,?_,?_,?_,hb,hn,hk⟩
  all_goals try simp only[mA,seval,r0,r4,r3]
 ·rintro a' s' ⟨L,va,vc,hL,r0,r4,r5,r3,hb,hn,hk⟩;refine pU _ _ (aN _ _ ?_);rw[List.take_length] at hL;subst hL;simp only[mA,seval,r3];exact hΦ va vc s' hb (k1.trans hk) fun y hy=>by have:=hn y hy;omega
 ·refine⟨[],none,0,rfl,?_,?_,?_,?_,.nil,(by simp[nameOf]),.refl k1.ok⟩
  all_goals try simp only[mA,seval]
  all_goals rfl
end
open Go.Proofs
set_option maxRecDepth 100000
set_option maxHeartbeats 8000000
theorem Vk {l:List Int} {a:Int} {k:Nat} (hk:k<l.length):(l.take (k+1)).contains a=((l.take k).contains a||(l[k]==a)):=by
 rw[List.take_add_one,List.getElem?_eq_getElem hk,List.contains_eq_any_beq,List.contains_eq_any_beq,List.any_append];simp[Bool.beq_comm]
section
variable {kc:Kc} {q:Bool} {s:St} {Φ:Value→St→Prop} {r:Nat} {Q:RQ} {R:PR}
theorem iB:type_of% (B8 @RX @wB @vW @kL @dV @dQ @bG @mC):=B8 @RX @wB @vW @kL @dV @dQ @bG @mC
theorem aFi (hs:Ok s) (H:gH s r Q R) (hΦ:∀ a c s',bJ s' 3 1 (.slice a R.leads.length c) (R.leads.map int)→aC [] s s'→(∀ b∈nameOf (.slice a R.leads.length c),s.next≤b)→Φ (.slice a R.leads.length c) s'):okF q X (KO kc) 105 [ptr r] s Φ:=by
 have m1:=H.m1;have m4:=H.m4;have ql:=H.ql;have hel:=R.uI m4 ql;refine aW Tryz.func105 (by kernel_rfl) rfl rfl (rs:=[.tmp 2]) rfl (N:=45) rfl rfl ?_;refine aA fun bF aF bD=>?_;simp only[iB,seval];refine aF _ _ ?_;refine aA fun Ψ1 aE aL=>?_;simp only[iB,seval];refine aE _ _ ?_;refine aA fun Ψ2 aI bH=>?_;simp only[iB,seval];refine aH ?_ (aFk hs H fun ea ec s1 b1 k1 hn1=>?_)
 ·simp only[iB,seval]
 try simp only[iB,seval]
 refine aI _ _ ?_;have H1:=H.aJ k1;have n01:=k1.next;refine aA fun Ψ3 aN bM=>?_;refine aA fun Ψ4 aP cC=>?_;simp only[iB,seval];refine aP _ _ ?_;refine cJ fun cU aZ pU cK=>?_;refine gB (n:=R.all.length) (fun j a' s'=>∃ L va vc,L=R.nV (R.all.take j)∧a'.aB 0=ptr r∧a'.aB 4=.slice ea R.all.length ec∧a'.aB 5=int j∧a'.aB 3=.slice va L.length vc∧bJ s' 3 1 (.slice va L.length vc) (L.map int)∧(∀ y∈nameOf (.slice va L.length vc),s1.next≤y)∧aC [] s1 s')
  (fun j a' s'=>∃ L va vc,L=R.nV (R.all.take (j+1))∧a'.aB 0=ptr r∧a'.aB 4=.slice ea R.all.length ec∧a'.aB 5=int j∧a'.aB 3=.slice va L.length vc∧bJ s' 3 1 (.slice va L.length vc) (L.map int)∧(∀ y∈nameOf (.slice va L.length vc),s1.next≤y)∧aC [] s1 s') ?_ ?_ ?_ ?_ (Nat.zero_le _) ?_
 ·rintro j a' s' hj ⟨L,va,vc,hL,r0,r4,r5,r3,hb,hn,hk⟩ aV bP;simp only[iB,seval,r4,r5];refine bP _ _ (decide ((j:Int)<R.all.length)) ?_ (by simp) ⟨L,va,vc,hL,?_,?_,?_,?_,hb,hn,hk⟩
  all_goals simp only[iB,seval,r0,r4,r5,r3]
 ·rintro j a' s' hj ⟨L,va,vc,hL,r0,r4,r5,r3,hb,hn,hk⟩ aV w1 w2 w3;obtain⟨vb,dW,rfl⟩:=b1.sl.addr (show 0<R.all.length by omega);have g1:(0:Int)≤(j:Int):=Int.natCast_nonneg _;have g2:(j:Int)<((R.all.length:Nat):Int):=by omega
  obtain⟨p,hp⟩:∃ p,p=R.all[j]:=⟨_,rfl⟩;have hll:L.length≤200:=by
   rw[hL];have:=R.XY (R.all.take j);rw[List.length_take] at this;omega
  have lj:bI s'.look ⟨vb,dW+j*3,none⟩ 3=some [int p.k,int p.m,int p.i]:=by
   have:=(b1.sl.aD hk (by simp)).bI (i:=j*3) (k:=3) (by omega) (by rw[OO];omega);rw[OP _ hj,← hp] at this;exact this
  have uM:=R.FY (p:=p) (by rw[hp];exact List.getElem_mem _);have xM:R.nV (R.all.take (j+1))=once L (R.get p):=by
   rw[List.take_add_one,List.getElem?_eq_getElem hj,← hp,hL];exact R.XZ _ _
  refine aA fun dN bO cZ=>?_;simp only[iB,seval,r0,r4,r5,g1,g2,and_self,bQ,Int.toNat_natCast,lj];refine aH ?_ (Ob hk.ok (H1.aJ hk) p uM fun s2 k2=>?_)
  ·simp only[iB,seval]
  have hk2:=hk.trans k2;have hb2:=hb.aD k2 (by simp)
  try simp only[iB,seval]
  refine bO _ _ ?_;refine aA fun fE cG dX=>?_;simp only[iB,seval];refine cG _ _ ?_;refine aA fun gV cT gA=>?_;refine aA fun jC dK iK=>?_;simp only[iB,seval];refine dK _ _ ?_;refine cJ fun lO eG Gg kY=>?_;refine gB (n:=L.length) (fun k a' s'=>a'.aB 0=ptr r∧a'.aB 4=.slice (some ⟨vb,dW,none⟩) R.all.length ec∧a'.aB 5=int j∧a'.aB 3=.slice va L.length vc∧a'.aB 6=int (R.get p)∧a'.aB 7=.bool ((L.take k).contains (R.get p))∧a'.aB 8=int k∧s'=s2)
   (fun k a' s'=>a'.aB 0=ptr r∧a'.aB 4=.slice (some ⟨vb,dW,none⟩) R.all.length ec∧a'.aB 5=int j∧a'.aB 3=.slice va L.length vc∧a'.aB 6=int (R.get p)∧a'.aB 7=.bool ((L.take (k+1)).contains (R.get p))∧a'.aB 8=int k∧s'=s2) ?_ ?_ ?_ ?_ (Nat.zero_le _) ?_
  ·rintro k a' s' EA ⟨r0,r4,r5,r3,r6,r7,r8,e⟩ aV bP;simp only[iB,seval,r3,r8];refine bP _ _ (decide ((k:Int)<L.length)) ?_ (by simp) ⟨?_,?_,?_,?_,?_,?_,?_,e⟩
   all_goals simp only[iB,seval,r0,r4,r5,r3,r6,r7,r8]
  ·rintro k a' s' EA ⟨r0,r4,r5,r3,r6,r7,r8,e⟩ aV v1 v2 v3;subst e;refine cL [(1,30)] (by kernel_rfl) fun O hO bC hR=>?_;have y1:∀ a,aO O a 1=aY (a.aB 30):=hO (1,30) (by simp);have ht:=Vk (a:=R.get p) EA;cases hc:(L.take k).contains (R.get p) with
   | true =>
    rw[hc] at r7 ht;simp only[iB,seval,y1,r7];refine hR _ _ (v1 _ _ ⟨?_,?_,?_,?_,?_,?_,?_,rfl⟩)
    all_goals try simp only[iB,seval,r0,r4,r5,r3,r6,r8,ht]
   | false =>
    obtain⟨wb,aIy,rfl⟩:=hb2.sl.addr (show 0<L.length by omega);have lk:=Ints.get hb2.sl (List.getElem?_eq_getElem EA);have g3:(0:Int)≤(k:Int):=Int.natCast_nonneg _;have g4:(k:Int)<((L.length:Nat):Int):=by omega
    rw[hc] at r7 ht;simp only[iB,seval,y1,r7,r3,r6,r8,g3,g4,and_self,bQ,Int.toNat_natCast,Nat.mul_one,lk];refine hR _ _ (v1 _ _ ⟨?_,?_,?_,?_,?_,?_,?_,rfl⟩)
    all_goals try simp only[iB,seval,r0,r4,r5,r3,r6,r8,ht]
  ·rintro k a' s' EA ⟨r0,r4,r5,r3,r6,r7,r8,e⟩ aV v1;have w:IntKind.i64.wrap ((k:Int)+1)=((k+1:Nat):Int):=by rw[aU (by omega) (by omega)];rfl
   simp only[iB,seval,r8,w];refine v1 _ _ ⟨?_,?_,?_,?_,?_,?_,?_,e⟩
   all_goals try simp only[iB,seval,r0,r4,r5,r3,r6,r7]
  ·rintro a' s' ⟨r0,r4,r5,r3,r6,r7,r8,e⟩;subst e;rw[List.take_length] at r7;refine Gg _ _ (cT _ _ ?_);refine aA fun rE jI pS=>?_;simp only[iB,seval,r7];refine jI _ _ ?_;cases hc:L.contains (R.get p) with
   | true =>
    simp only[iB,seval];unfold once at xM;rw[hc,if_pos rfl] at xM;refine w1 _ _ ⟨L,va,vc,xM.symm,?_,?_,?_,?_,hb2,hn,hk2⟩
    all_goals simp only[iB,seval,r0,r4,r5,r3]
   | false =>
    unfold once at xM;rw[hc,if_neg (by simp)] at xM;obtain⟨t1,f1,u1,d1,v1⟩:=cI k2.ok (L:=[int (R.get p)]) (n:=1) (e:=3) rfl;obtain⟨w,t2,q2,b2,u2,m2,a2,c2,rfl⟩:=iE (X:=X) (t:=62) (e:=3) (N:=1) (B:=8) (z:=.int .i64 0) (x:=.slice (some ⟨s'.next,0,none⟩) 1 1) (k:=1) (new:=[int (R.get p)]) (by kernel_rfl) (by kernel_rfl) rfl u1.ok (by omega) (hb2.aD u1 (by simp)) rfl (lQ (by omega) (d1.bI (i:=0) (k:=1) (Nat.le_refl _))) rfl rfl (by omega) (by omega);have n1:=hk2.next;have n2:=u1.next;have hn2:∀ y∈nameOf (.slice a2 (L.length+1) c2),s1.next≤y:=fun y hy=>by
     rcases m2 y hy with e | e
     ·exact hn y e
     ·omega
    have K2:aC [] s1 t2:=(hk2.trans u1).step u2 fun y hy=>.inr (k1.ok.fresh y (hn y hy));have eN:(L++[R.get p]).length=L.length+1:=by rw[List.length_append];rfl
    simp only[iB,seval,r3,r6];rw[f1];refine iS ?_ q2 ?_
    ·simp only[iB,seval]
    simp only[iB,seval];refine w1 _ _ ⟨L++[R.get p],a2,c2,xM.symm,?_,?_,?_,?_,?_,by rw[eN];exact hn2,K2⟩
    ·simp only[iB,seval,r0]
    ·simp only[iB,seval,r4]
    ·simp only[iB,seval,r5]
    ·simp only[iB,seval,eN]
    ·rw[eN,List.map_append];exact b2
  ·refine⟨?_,?_,?_,?_,?_,?_,?_,rfl⟩
   all_goals try simp only[iB,seval,r0,r4,r5,r3]
   all_goals rfl
 ·rintro j a' s' hj ⟨L,va,vc,hL,r0,r4,r5,r3,hb,hn,hk⟩ aV w1;have w:IntKind.i64.wrap ((j:Int)+1)=((j+1:Nat):Int):=by rw[aU (by omega) (by omega)];rfl
  simp only[iB,seval,r5,w];refine w1 _ _ ⟨L,va,vc,hL,?_,?_,?_,?_,hb,hn,hk⟩
  all_goals try simp only[iB,seval,r0,r4,r3]
 ·rintro a' s' ⟨L,va,vc,hL,r0,r4,r5,r3,hb,hn,hk⟩;refine pU _ _ (aN _ _ ?_);rw[List.take_length] at hL;have hL:L=R.leads:=hL;subst hL;simp only[iB,seval,r3];exact hΦ va vc s' hb (k1.trans hk) fun y hy=>by have:=hn y hy;omega
 ·refine⟨[],none,0,rfl,?_,?_,?_,?_,.nil,(by simp[nameOf]),.refl k1.ok⟩
  all_goals try simp only[iB,seval]
  all_goals rfl
end
end Go.Dust
