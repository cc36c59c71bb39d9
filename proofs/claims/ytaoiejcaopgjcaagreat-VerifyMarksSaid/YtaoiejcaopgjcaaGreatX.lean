/- VerifyMarks walked in D, function by function, and its plain law (J2 J3 N7 N8). -/
import Derived.Test.YtaoiejcaopgjcaaGreatW
import Derived.Test.YtaoiejcaopgjcaaGreatU
import Derived.Test.YtaoiejcaopgjcaaGreatR
import Derived.Test.YtaoiejcaopgjcaaGreatP
set_option linter.unusedVariables false
set_option linter.unusedSimpArgs false
namespace Go.Dust
open Go.Proofs
set_option maxRecDepth 100000
set_option maxHeartbeats 4000000
section
variable {kc:Kc} {q:Bool} {s:St} {Φ:Value→St→Prop} {r:Nat} {Q:RQ} {R:PR}
theorem fW:type_of% (An @RX<|An @sC<|An @aW<|An @yN<|An @sD<|An @sL<|An @zI<|An @uV<|An @sE<|An @dF<|@dG):=An @RX<|An @sC<|An @aW<|An @yN<|An @sD<|An @sL<|An @zI<|An @uV<|An @sE<|An @dF<|@dG
theorem aGm (hs:Ok s) (H:gG s r Q R) (p:eW) (hΦ:∀ s',aC [] s s'→Φ (.bool (R.has p)) s'):okF q X (KO kc) 179 [ptr r,vM p] s Φ:=by
 refine aV rfl p9 rfl (rs:=[.tmp 4]) rfl (N:=67) rfl rfl ?_;refine aA fun bB aF aZ=>?_;simp only[fW,seval];obtain⟨s1,e1,k1,c1,n1⟩:=cA hs (L:=[int p.k,int p.m,int p.i]) (n:=3) (e:=118) rfl;rw[e1];refine aF _ _ ?_;have H1:=H.aL k1;have lk:aI s1.look ⟨s.next,0,none⟩=some (int p.k):=c1.load rfl;have lm:aI s1.look ⟨s.next,1,none⟩=some (int p.m):=c1.load rfl;have li:aI s1.look ⟨s.next,2,none⟩=some (int p.i):=c1.load rfl;unfold PR.has at hΦ;refine aA fun Ψ1 aE aK=>?_;refine aA fun Ψ2 aH bM=>?_;simp only[fW,seval,lk];refine aH _ _ ?_;refine cB fun Ψ3 aM oG bN=>?_;refine aA fun Ψ4 aQ bZ=>?_;by_cases k0:p.k=0
 ·simp only[fW,seval,k0,beq_self_eq_true];refine aQ _ _ ?_;simp only[eG,RV,RG,seval];refine aA fun cP bI cF=>?_;refine dH [] [] [(3,12),(13,22),(18,27)] (by kernel_rfl) (by kernel_rfl) (by rfl) fun O hO bK hR=>?_;have y3:∀ a,aN O a 3=bC (a.aB 12):=hO (3,12) (by simp);have jK:∀ a,aN O a 13=bC (a.aB 22):=hO (13,22) (by simp);have mY:∀ a,aN O a 18=bC (a.aB 27):=hO (18,27) (by simp);by_cases m0:p.m≥0
  ·by_cases m1:p.m<(R.m:Int)
   ·rw[if_pos ⟨k0,by omega,m1⟩] at hΦ;by_cases i0:p.i≥0
    ·rw[show decide (0≤p.i∧p.i<16)=decide (p.i<16) from decide_eq_decide.2 ⟨fun h=>h.2,fun h=>⟨i0,h⟩⟩] at hΦ;simp only[fW,seval,y3,jK,mY,lm,li,H1.l0,m0,m1,i0,decide_true];refine hR _ _ (bI _ _ ?_);simp only[fW,seval];refine bN _ _ _ (by simp) (by simp) (aK _ _ _ (by simp) ?_);simp only[fW,seval];exact hΦ _ (k1.jJ _)
    ·rw[decide_eq_false (show ¬ (0≤p.i∧p.i<16) from fun h=>i0 h.1)] at hΦ;simp only[fW,seval,y3,jK,mY,lm,li,H1.l0,m0,m1,i0,decide_true,decide_false];refine hR _ _ (bI _ _ ?_);simp only[fW,seval];refine bN _ _ _ (by simp) (by simp) (aK _ _ _ (by simp) ?_);simp only[fW,seval];exact hΦ _ (k1.jJ _)
   ·rw[if_neg (fun h=>m1 h.2.2),if_neg (by omega),if_neg (by omega)] at hΦ;simp only[fW,seval,y3,jK,mY,lm,li,H1.l0,m0,m1,decide_true,decide_false];refine hR _ _ (bI _ _ ?_);simp only[fW,seval];refine bN _ _ _ (by simp) (by simp) (aK _ _ _ (by simp) ?_);simp only[fW,seval];exact hΦ _ (k1.jJ _)
  ·rw[if_neg (fun h=>m0 h.2.1),if_neg (by omega),if_neg (by omega)] at hΦ;simp only[fW,seval,y3,jK,mY,lm,li,H1.l0,m0,decide_false];refine hR _ _ (bI _ _ ?_);simp only[fW,seval];refine bN _ _ _ (by simp) (by simp) (aK _ _ _ (by simp) ?_);simp only[fW,seval];exact hΦ _ (k1.jJ _)
 have e0:(p.k==0)=false:=by simpa using k0
 rw[if_neg (fun h=>k0 h.1)] at hΦ;simp only[fW,seval,e0];refine aQ _ _ ?_;simp only[eG,RV,RG,seval];refine aA fun cP bI cF=>?_;by_cases pQ:p.k=1
 ·simp only[fW,seval,pQ,beq_self_eq_true];refine bI _ _ ?_;simp only[eG,RV,RG,seval];refine aA fun dK bO cV=>?_;refine cK [(3,37),(8,42)] (by kernel_rfl) fun O hO bK hR=>?_;have y3:∀ a,aN O a 3=bC (a.aB 37):=hO (3,37) (by simp);have y8:∀ a,aN O a 8=bC (a.aB 42):=hO (8,42) (by simp);by_cases m0:p.m=0
  ·rw[if_pos ⟨pQ,m0⟩] at hΦ;by_cases i0:p.i≥0
   ·rw[show decide (0≤p.i∧p.i<16)=decide (p.i<16) from decide_eq_decide.2 ⟨fun h=>h.2,fun h=>⟨i0,h⟩⟩] at hΦ;simp only[fW,seval,y3,y8,lm,li,m0,i0,decide_true,beq_self_eq_true];refine hR _ _ (bO _ _ ?_);simp only[fW,seval];refine bN _ _ _ (by simp) (by simp) (aK _ _ _ (by simp) ?_);simp only[fW,seval];exact hΦ _ k1
   ·rw[decide_eq_false (show ¬ (0≤p.i∧p.i<16) from fun h=>i0 h.1)] at hΦ;simp only[fW,seval,y3,y8,lm,li,m0,i0,decide_false,beq_self_eq_true];refine hR _ _ (bO _ _ ?_);simp only[fW,seval];refine bN _ _ _ (by simp) (by simp) (aK _ _ _ (by simp) ?_);simp only[fW,seval];exact hΦ _ k1
  ·have em:(p.m==0)=false:=by simpa using m0
   rw[if_neg (fun h=>m0 h.2),if_neg (fun h=>m0 h.2)] at hΦ;simp only[fW,seval,y3,y8,lm,li,em];refine hR _ _ (bO _ _ ?_);simp only[fW,seval];refine bN _ _ _ (by simp) (by simp) (aK _ _ _ (by simp) ?_);simp only[fW,seval];exact hΦ _ k1
 have e1':(p.k==1)=false:=by simpa using pQ
 rw[if_neg (fun h=>pQ h.1)] at hΦ;simp only[fW,seval,e1'];refine bI _ _ ?_;simp only[eG,RV,RG,seval];refine aA fun dK bO cV=>?_;by_cases k2:p.k=2
 ·simp only[fW,seval,k2,beq_self_eq_true];refine bO _ _ ?_;simp only[eG,RV,RG,seval];refine aA fun fJ cC eF=>?_;refine dH [] [] [(3,52),(8,57)] (by kernel_rfl) (by kernel_rfl) (by rfl) fun O hO bK hR=>?_;have y3:∀ a,aN O a 3=bC (a.aB 52):=hO (3,52) (by simp);have y8:∀ a,aN O a 8=bC (a.aB 57):=hO (8,57) (by simp);by_cases m0:p.m=0
  ·rw[if_pos ⟨k2,m0⟩] at hΦ;by_cases i0:p.i≥0
   ·rw[show decide (0≤p.i∧p.i<(R.q.length:Int))=decide (p.i<(R.q.length:Int)) from decide_eq_decide.2 ⟨fun h=>h.2,fun h=>⟨i0,h⟩⟩] at hΦ;simp only[fW,seval,y3,y8,lm,li,H1.l2,m0,i0,decide_true,beq_self_eq_true];refine hR _ _ (cC _ _ ?_);simp only[fW,seval];refine bN _ _ _ (by simp) (by simp) (aK _ _ _ (by simp) ?_);simp only[fW,seval];exact hΦ _ (k1.jJ _)
   ·rw[decide_eq_false (show ¬ (0≤p.i∧p.i<(R.q.length:Int)) from fun h=>i0 h.1)] at hΦ;simp only[fW,seval,y3,y8,lm,li,m0,i0,decide_false,beq_self_eq_true];refine hR _ _ (cC _ _ ?_);simp only[fW,seval];refine bN _ _ _ (by simp) (by simp) (aK _ _ _ (by simp) ?_);simp only[fW,seval];exact hΦ _ (k1.jJ _)
  ·have em:(p.m==0)=false:=by simpa using m0
   rw[if_neg (fun h=>m0 h.2)] at hΦ;simp only[fW,seval,y3,y8,lm,li,em];refine hR _ _ (cC _ _ ?_);simp only[fW,seval];refine bN _ _ _ (by simp) (by simp) (aK _ _ _ (by simp) ?_);simp only[fW,seval];exact hΦ _ (k1.jJ _)
 ·have e2:(p.k==2)=false:=by simpa using k2
  rw[if_neg (fun h=>k2 h.1)] at hΦ;simp only[fW,seval,e2];refine bO _ _ ?_;simp only[fW,seval];refine aM _ _ (aE _ _ ?_);simp only[fW,seval];exact hΦ _ k1
theorem vX:type_of% (An @RX<|An @sC<|An @aW<|An @sD<|An @sL<|An @yN<|An @JZ<|An @dF<|An @uV<|An @dE<|An @jG<|An @TN<|@sE):=An @RX<|An @sC<|An @aW<|An @sD<|An @sL<|An @yN<|An @JZ<|An @dF<|An @uV<|An @dE<|An @jG<|An @TN<|@sE
theorem aGn (hs:Ok s) (H:gG s r Q R) (p:eW) (v:Int) (hp:R.has p=true) (hΦ:∀ s',gG s' r Q (R.set p v)→aC (Q.bF r R) s s'→Φ (.tuple #[]) s'):okF q X (KO kc) 193 [ptr r,vM p,int v] s Φ:=by
 unfold PR.has at hp;unfold PR.set at hΦ;have nd:=H.nd;have wK:=H.gO hs;unfold RQ.own at nd;rw[List.nodup_cons,List.nodup_cons] at nd;obtain⟨n1,n2,n3⟩:=nd;refine aV rfl v8 rfl (rs:=[]) rfl (N:=40) rfl rfl ?_;refine aA fun bB aF aZ=>?_;simp only[vX,seval];obtain⟨s1,e1,k1,c1,_⟩:=cA hs (L:=[int p.k,int p.m,int p.i]) (n:=3) (e:=118) rfl;rw[e1];refine aF _ _ ?_;have H1:=H.aL k1;have lk:aI s1.look ⟨s.next,0,none⟩=some (int p.k):=c1.load rfl;have lm:aI s1.look ⟨s.next,1,none⟩=some (int p.m):=c1.load rfl;have li:aI s1.look ⟨s.next,2,none⟩=some (int p.i):=c1.load rfl;have Dd:∀ n∈Q.own r,n∈Q.bF r R:=fun n h=>List.mem_append_left _ (List.mem_append_left _ h);refine aA fun Ψ1 aE aK=>?_;simp only[vX,seval,lk];refine aE _ _ ?_;refine cB fun Ψ2 aH vD bM=>?_;refine aA fun Ψ3 aM bN=>?_;by_cases k0:p.k=0
 ·rw[if_pos k0] at hΦ;have GD:0≤p.m∧p.m<R.m∧0≤p.i∧p.i<16:=by
   by_cases h:0≤p.m∧p.m<R.m
   ·rw[if_pos ⟨k0,h⟩] at hp;have:=of_decide_eq_true hp;exact⟨h.1,h.2,this⟩
   ·rw[if_neg (fun h'=>h h'.2),if_neg (by omega),if_neg (by omega)] at hp;cases hp
  obtain⟨m0,m1,i0,i1⟩:=GD;have NX:=H.rl;have hm:p.m.toNat<Q.rows.length:=by omega
  obtain⟨sb,qa,NZ⟩:=H1.cs.sl.addr (show 0<R.m by have:=H.m1;omega);have kf:aI s1.look ⟨sb,qa+p.m.toNat,none⟩=some (HP Q.rows[p.m.toNat]):=by
   have h:=H1.cs.sl;rw[NZ] at h;exact h.load (by rw[List.getElem?_map,List.getElem?_eq_getElem hm];rfl)
  have ks:aC [] s1 (s1.skip 26):=aC.skip k1.ok _;have Hk:=H1.aL ks;obtain⟨s2,h2,c2,k2⟩:=(Hk.cr _ hm).gJ ks.ok (i:=p.i.toNat) (v:=int v) (by rw[iZ];omega) rfl;rw[LB (by omega)] at c2;have l0:=H1.l0;rw[NZ] at l0;simp only[vX,seval,k0,beq_self_eq_true];refine aM _ _ ?_;simp only[eG,RV,RG,seval];refine dH [] [] [] (by kernel_rfl) (by kernel_rfl) (by rfl) fun O hO bK hR=>?_;have GS:p.i<((16:Nat):Int):=i1;simp only[vX,seval,l0,lm,m0,m1,and_self,bJ,Nat.mul_one,kf,li,i0,GS,i1,Nat.zero_add,h2];refine hR _ _ (aH _ _ ?_);simp only[vX,seval];have hin:Q.rows[p.m.toNat]∈Q.own r:=List.mem_cons_of_mem _ (List.mem_cons_of_mem _ (List.getElem_mem hm));refine hΦ s2 ?_ ((k1.trans ks).any.trans (k2.mono fun x hx=>by rw[List.mem_singleton.1 hx];exact Dd _ hin));obtain⟨c,cs,rl,cr,cg,cq,pC,ns,nq,OS,m4,ql⟩:=Hk;have hsi:(p.m*16+p.i).toNat=p.m.toNat*16+p.i.toNat:=by omega
  refine⟨c.aD k2 ?_,cs.aD k2 (fun b hb hb'=>?_),rl,fun k hk=>?_,cg.aD k2 ?_,cq.aD k2 (fun b hb hb'=>?_),pC,ns,nq,OS,m4,ql⟩
  ·intro h;rw[List.mem_singleton] at h;exact n1 (by rw[h];exact List.mem_cons_of_mem _ (List.getElem_mem hm))
  ·rw[List.mem_singleton.1 hb'] at hb;exact(ns _ hb).1 hin
  ·show Obj s2 Q.rows[k] (row 16 fun i=>int (dC R.sl (p.m*16+p.i).toNat v (k*16+i)));by_cases e:k=p.m.toNat
   ·subst e;have:(fun j=>if j=p.i.toNat then int v else int (R.sl (p.m.toNat*16+j)))=fun i=>int (dC R.sl (p.m*16+p.i).toNat v (p.m.toNat*16+i)):=by
     funext j;unfold dC;rw[hsi];by_cases e:j=p.i.toNat
     ·rw[if_pos e,if_pos (by omega)]
     ·rw[if_neg e,if_neg (by omega)]
    rw[← this];exact c2
   ·have hne:Q.rows[k]≠Q.rows[p.m.toNat]:=fun h=>by
     unfold List.Nodup at n3;rw[List.pairwise_iff_getElem] at n3;rcases Nat.lt_or_gt_of_ne e with g | g
     ·exact n3 k _ hk hm g h
     ·exact n3 _ k hm hk g h.symm
    have GM:(row 16 fun i=>int (dC R.sl (p.m*16+p.i).toNat v (k*16+i)))=row 16 fun i=>int (R.sl (k*16+i)):=by
     refine(KZ (by rw[iZ]) fun i hi=>?_).symm;rw[lM _ hi];unfold dC;rw[if_neg (by rw[hsi];omega)]
    rw[GM];exact(cr k hk).aD k2 (by simpa using hne)
  ·intro h;rw[List.mem_singleton] at h;exact n2 (by rw[h];exact List.getElem_mem hm)
  ·rw[List.mem_singleton.1 hb'] at hb;exact nq _ hb hin
 have e0:(p.k==0)=false:=by simpa using k0
 rw[if_neg k0] at hΦ;rw[if_neg (fun h=>k0 h.1)] at hp;simp only[vX,seval,e0];refine aM _ _ ?_;simp only[eG,RV,RG,seval];refine aA fun Ψ4 aQ bZ=>?_;by_cases pQ:p.k=1
 ·rw[if_pos pQ] at hΦ;have GD:p.m=0∧0≤p.i∧p.i<16:=by
   by_cases h:p.m=0
   ·rw[if_pos ⟨pQ,h⟩] at hp;exact⟨h,of_decide_eq_true hp⟩
   ·rw[if_neg (fun h'=>h h'.2),if_neg (by omega)] at hp;cases hp
  obtain⟨m0,i0,i1⟩:=GD;have ks:aC [] s1 (s1.skip 18):=aC.skip k1.ok _;have Hk:=H1.aL ks;obtain⟨s2,h2,c2,k2⟩:=Hk.cg.gJ ks.ok (i:=p.i.toNat) (v:=int v) (by rw[iZ];omega) rfl;rw[LB (by omega)] at c2;simp only[vX,seval,pQ,beq_self_eq_true];refine aQ _ _ ?_;simp only[eG,RV,RG,seval];refine dH [] [] [] (by kernel_rfl) (by kernel_rfl) (by rfl) fun O hO bK hR=>?_;have GS:p.i<((16:Nat):Int):=i1;simp only[vX,seval,H1.l1,li,i0,GS,i1,and_self,bJ,Nat.mul_one,Nat.zero_add,h2];refine hR _ _ (aH _ _ ?_);simp only[vX,seval];have hin:Q.gn∈Q.own r:=List.mem_cons_of_mem _ (List.mem_cons_self ..);refine hΦ s2 ?_ ((k1.trans ks).any.trans (k2.mono fun x hx=>by rw[List.mem_singleton.1 hx];exact Dd _ hin));obtain⟨c,cs,rl,cr,cg,cq,pC,ns,nq,OS,m4,ql⟩:=Hk;have rA:Obj s2 Q.gn (row 16 fun i=>int (dC R.gl p.i.toNat v i)):=by
   have e:(fun j=>if j=p.i.toNat then int v else int (R.gl j))=fun i=>int (dC R.gl p.i.toNat v i):=by
    funext j;unfold dC;by_cases e:j=p.i.toNat
    ·rw[if_pos e,if_pos e]
    ·rw[if_neg e,if_neg e]
   rw[← e];exact c2
  refine⟨c.aD k2 ?_,cs.aD k2 (fun b hb hb'=>?_),rl,fun k hk=>(cr k hk).aD k2 ?_,rA,cq.aD k2 (fun b hb hb'=>?_),pC,ns,nq,OS,m4,ql⟩
  ·intro h;rw[List.mem_singleton] at h;exact n1 (by rw[h];exact List.mem_cons_self ..)
  ·rw[List.mem_singleton.1 hb'] at hb;exact(ns _ hb).1 hin
  ·intro h;rw[List.mem_singleton] at h;exact n2 (by rw[← h];exact List.getElem_mem hk)
  ·rw[List.mem_singleton.1 hb'] at hb;exact nq _ hb hin
 have e1':(p.k==1)=false:=by simpa using pQ
 rw[if_neg pQ] at hΦ;rw[if_neg (fun h=>pQ h.1)] at hp;have GD:p.k=2∧p.m=0∧0≤p.i∧p.i<(R.q.length:Int):=by
  by_cases h:p.k=2∧p.m=0
  ·rw[if_pos h] at hp;have:=of_decide_eq_true hp;exact⟨h.1,h.2,this.1,this.2⟩
  ·rw[if_neg h] at hp;cases hp
 obtain⟨_,m0,i0,i1⟩:=GD;have ks:aC [] s1 (s1.skip 18):=aC.skip k1.ok _;have Hk:=H1.aL ks;obtain⟨qb,aK5,wO⟩:=Hk.cq.sl.addr (show 0<R.q.length by omega);have Cq:=Hk.cq;rw[wO] at Cq;obtain⟨s2,h2,b2,k2⟩:=Cq.gJ ks.ok (i:=p.i.toNat) (v:=int v) (by rw[List.length_map];omega) rfl;have l2:=H1.l2;rw[wO] at l2;have hin:qb∈nameOf (.slice Q.va R.q.length Q.vc):=by rw[wO];simp[nameOf]
 simp only[vX,seval,e1'];refine aQ _ _ ?_;simp only[eG,RV,RG,seval];refine dH [] [] [] (by kernel_rfl) (by kernel_rfl) (by rfl) fun O hO bK hR=>?_;simp only[vX,seval,l2,li,i0,i1,and_self,bJ,Nat.mul_one,h2];refine hR _ _ (aH _ _ ?_);simp only[vX,seval];have hno:=H.nq qb hin;have ol:∀ x∈Q.own r,x∉[qb]:=fun x hx h=>by
  rw[List.mem_singleton.1 h] at hx;exact hno hx
 refine hΦ s2 ?_ ((k1.trans ks).any.trans (k2.mono fun x hx=>by rw[List.mem_singleton.1 hx];exact List.mem_append_right _ hin));obtain⟨c,cs,rl,cr,cg,cq,pC,ns,nq,OS,m4,ql⟩:=Hk;refine⟨?_,cs.aD k2 (fun b hb hb'=>?_),rl,fun k hk=>(cr k hk).aD k2 (ol _ (List.mem_cons_of_mem _ (List.mem_cons_of_mem _ (List.getElem_mem hk)))),cg.aD k2 (ol _ (List.mem_cons_of_mem _ (List.mem_cons_self ..))),?_,pC,?_,?_,OS,m4,by simpa using ql⟩
 ·have:=c.aD k2 (ol _ (List.mem_cons_self ..));simpa using this
 ·rw[List.mem_singleton.1 hb'] at hb;exact(ns _ hb).2 hin
 ·simp only[List.length_set];rw[wO,List.map_set];exact b2
 ·simpa using ns
 ·simpa using nq
theorem lA:type_of% (An @RX<|An @mC<|An @sC<|@aW):=An @RX<|An @mC<|An @sC<|@aW
theorem Lw (hs:Ok s) (H:gG s r Q R) (p:eW) (v:Int) (hΦ:∀ s',gG s' r Q (if R.has p=true∧¬ (v<0∨(v=0∧p.k=2)) then R.set p v else R)→aC (Q.bF r R) s s'→Φ (int (if R.has p=true∧¬ (v<0∨(v=0∧p.k=2)) then 0 else 1)) s'):okF q X (KO kc) 125 [ptr r,vM p,int v] s Φ:=by
 refine aV rfl Zc rfl (rs:=[.tmp 6]) rfl (N:=31) rfl rfl ?_;refine aA fun bB aF aZ=>?_;simp only[lA,seval];obtain⟨s1,e1,k1,c1,n1⟩:=cA hs (L:=[int p.k,int p.m,int p.i]) (n:=3) (e:=118) rfl;rw[e1];refine aF _ _ ?_;have H1:=H.aL k1;have lp:=c1.bD (i:=0) (k:=3) (Nat.le_refl _);refine aA fun Ψ1 aE aK=>?_;refine aA fun Ψ2 aH bM=>?_;simp only[lA,seval];refine aJ ?_ (PO H1 ?_)
 ·simp only[lA,seval]
 try simp only[lA,seval]
 refine aH _ _ ?_;simp only[lA,seval];refine aE _ _ ?_;refine aA fun Ψ3 aM bN=>?_;refine aA fun Ψ4 aQ bZ=>?_;refine cK [(4,14),(8,18),(11,21)] (by kernel_rfl) fun O hO bK hR=>?_;have y4:∀ a,aN O a 4=bC (a.aB 14):=hO (4,14) (by simp);have y8:∀ a,aN O a 8=bC (a.aB 18):=hO (8,18) (by simp);have nM:∀ a,aN O a 11=bC (a.aB 21):=hO (11,21) (by simp);simp only[lA,seval,lp,List.drop_zero,List.take];refine aJ ?_ (aGm k1.ok H1 p fun s2 k2=>?_)
 ·simp only[lA,seval]
 have eC:=k1.trans k2;have lk:aI s2.look ⟨s.next,0,none⟩=some (int p.k):=(c1.aD k2 (by simp)).load rfl;have lp2:=(c1.aD k2 (by simp)).bD (i:=0) (k:=3) (Nat.le_refl _);have H2:=H1.aL k2;cases hh:R.has p with
 | false =>
  rw[hh] at hΦ;simp only[Bool.false_eq_true,false_and,if_false] at hΦ;simp only[lA,seval,y4,y8,nM];refine hR _ _ (aQ _ _ ?_);simp only[lA,seval];refine bN _ _ _ (by simp) ?_;simp only[lA,seval];exact hΦ s2 H2 eC.any
 | true =>
  rw[hh] at hΦ;simp only[true_and] at hΦ;by_cases h0:v<0
  ·rw[if_neg (fun h=>h (.inl h0)),if_neg (fun h=>h (.inl h0))] at hΦ;simp only[lA,seval,y4,y8,nM,h0,decide_true];refine hR _ _ (aQ _ _ ?_);simp only[lA,seval];refine bN _ _ _ (by simp) ?_;simp only[lA,seval];exact hΦ s2 H2 eC.any
  have fin:∀ a':aG,¬ (v<0∨(v=0∧p.k=2))→a'.aB 0=ptr r→a'.aB 4=ptr s.next→a'.aB 2=int v→Ψ3 .normal a' s2:=by
   intro a' hg r0 r4 r2;rw[if_pos hg,if_pos hg] at hΦ;refine aM _ _ ?_;refine aA fun cP bI cF=>?_;simp only[lA,seval,r0,r4,r2,lp2,List.drop_zero,List.take];refine aJ ?_ (aGn k2.ok H2 p v hh fun s3 H3 k3=>?_)
   ·simp only[lA,seval]
   simp only[lA,seval];refine bI _ _ ?_;simp only[lA,seval];exact hΦ s3 H3 (eC.any.trans k3)
  by_cases hv:v=0
  ·subst hv;cases hk:(p.k==2) with
   | true =>
    have hk':p.k=2:=by simpa using hk
    rw[if_neg (fun h=>h (.inr ⟨rfl,hk'⟩)),if_neg (fun h=>h (.inr ⟨rfl,hk'⟩))] at hΦ;simp only[lA,seval,y4,y8,nM,h0,decide_false,beq_self_eq_true,lk,hk];refine hR _ _ (aQ _ _ ?_);simp only[lA,seval];refine bN _ _ _ (by simp) ?_;simp only[lA,seval];exact hΦ s2 H2 eC.any
   | false =>
    have hk':p.k≠2:=by simpa using hk
    simp only[lA,seval,y4,y8,nM,h0,decide_false,beq_self_eq_true,lk,hk];refine hR _ _ (aQ _ _ ?_);simp only[lA,seval];refine fin _ (by omega) ?_ ?_ ?_
    all_goals simp only[lA,seval]
  ·have hv':(v==0)=false:=by simpa using hv
   simp only[lA,seval,y4,y8,nM,h0,decide_false,hv'];refine hR _ _ (aQ _ _ ?_);simp only[lA,seval];refine fin _ (by omega) ?_ ?_ ?_
   all_goals simp only[lA,seval]
end
open Go.Proofs
set_option maxRecDepth 100000
set_option maxHeartbeats 4000000
section
variable {kc:Kc} {q:Bool} {s:St} {Φ:Value→St→Prop}
structure Part (s:St) (N r gn:Nat) (sa:Option Addr) (sc:Nat) (rows:List Nat):Prop where
 c:Obj s r [.slice sa rows.length sc,.slice (some ⟨gn,0,none⟩) 16 16,.slice none 0 0]
 cs:bE s 62 1 (.slice sa rows.length sc) (rows.map HP)
 cr:∀ n∈rows,Obj s n (row 16 fun _=>int 0)
 cg:Obj s gn (row 16 fun _=>int 0)
 nd:(r::gn::rows).Nodup
 ge:∀ n∈r::gn::rows,N≤n
 ns:∀ b∈nameOf (.slice sa rows.length sc),N≤b∧b∉r::gn::rows
theorem Part.lt {N r gn:Nat} {sa:Option Addr} {sc:Nat} {rows:List Nat} (h:Part s N r gn sa sc rows) (hs:Ok s):∀ n∈r::gn::rows,n<s.next:=by
 intro n hn;rcases List.mem_cons.1 hn with rfl | hn
 ·exact h.c.lt hs
 ·rcases List.mem_cons.1 hn with rfl | hn
  ·exact h.cg.lt hs
  ·exact(h.cr n hn).lt hs
theorem oA:type_of% (An @RX<|An @uj<|An @sD<|An @sL<|An @wz<|@Oi):=An @RX<|An @uj<|An @sD<|An @sL<|An @wz<|@Oi
theorem Lu (hs:Ok s) {m:Nat} (h1:1≤m) (h4:m≤4) (hΦ:∀ r Q R s',R.m=m→(∀ i,R.sl i=0)→(∀ i,R.gl i=0)→R.q=[]→gG s' r Q R→(∀ x∈Q.bF r R,s.next≤x)→aC [] s s'→Φ (.tuple #[ptr r,int 0]) s'):okF q X (KO kc) 53 [int m] s Φ:=by
 refine aV rfl G3 rfl (rs:=[.tmp 2,.tmp 3]) rfl (N:=31) rfl rfl ?_;refine aA fun bB aF aZ=>?_;simp only[oA,seval];refine aF _ _ ?_;refine aA fun Ψ1 aE aK=>?_;refine aA fun Ψ2 aH bM=>?_;refine cK [(2,8)] (by kernel_rfl) fun O hO bK hR=>?_;have y2:∀ a,aN O a 2=bC (a.aB 8):=hO (2,8) (by simp);have g1:¬ (m:Int)<1:=by omega
 have g2:¬ (m:Int)>4:=by omega
 simp only[oA,seval,y2,g1,g2,decide_false];refine hR _ _ (aH _ _ ?_);simp only[oA,seval];refine aE _ _ ?_;refine aA fun Ψ3 aM bN=>?_;simp only[oA,seval,DQ (nm:=s.next) (n:=(16:Int)) (m:=(16:Int)) (by omega) (by omega) (by omega) (by omega),show Int.toNat 16=16 from rfl];obtain⟨S1,f1,k1,c1,n1⟩:∃ S1,(s.new fun v=>bU.cells PT.nil [Value.int IntKind.i64 0] 16 3 false false v)=S1∧aC [] s S1∧Obj S1 s.next (row 16 fun _=>int 0)∧S1.next=s.next+2 :=
  ⟨_,rfl,(aC.refl hs).new (.inr (Nat.le_refl _)),Obj.tO (s:=s) (x:=s.next) (n:=16) (m:=1) rfl (by rw[iZ]) (fun i hi=>by rw[lM _ (by omega),Nat.mod_one];rfl),rfl⟩
 rw[f1];obtain⟨s2,e2,k2,c2,n2⟩:=cA k1.ok (L:=[.slice none 0 0,.slice (some ⟨s.next,0,none⟩) 16 16,.slice none 0 0]) (n:=3) (e:=161) rfl
 try simp only[oA,seval]
 rw[e2];refine aM _ _ ?_;have eC:=k1.trans k2;have P0:Part s2 s.next S1.next s.next none 0 []:=⟨c2,.nil,fun n hn=>(by cases hn),c1.aD k2 (by simp),by simp;omega,fun n hn=>by simp at hn;omega,fun b hb=>(by simp[nameOf] at hb)⟩;refine aA fun Ψ4 aQ bZ=>?_;refine aA fun cP bI cF=>?_;simp only[oA,seval];refine bI _ _ ?_;refine cB fun dK bO pA cV=>?_;refine gD (n:=m) (fun j a' s'=>∃ sa sc rows,a'.aB 0=int m∧a'.aB 4=ptr S1.next∧a'.aB 5=int j∧rows.length=j∧Part s' s.next S1.next s.next sa sc rows∧aC [] s s')
  (fun j a' s'=>∃ sa sc rows,a'.aB 0=int m∧a'.aB 4=ptr S1.next∧a'.aB 5=int j∧rows.length=j+1∧Part s' s.next S1.next s.next sa sc rows∧aC [] s s') ?_ ?_ ?_ ?_ (Nat.zero_le _) ?_
 ·rintro j a' s' hj ⟨sa,sc,rows,r0,r4,r5,hl,hp,hk⟩ aR bH;simp only[oA,seval,r0,r5];refine bH _ _ (decide ((j:Int)<m)) ?_ (by simp) ⟨sa,sc,rows,?_,?_,?_,hl,hp,hk⟩
  all_goals simp only[oA,seval,r0,r4,r5]
 ·rintro j a' s' hj ⟨sa,sc,rows,r0,r4,r5,hl,hp,hk⟩ aR w1 w2 w3;have l0:aI s'.look ⟨S1.next,0,none⟩=some (.slice sa rows.length sc):=hp.c.load rfl;have fr:∀ y,s'.next≤y→(s'.skip 22).heap.get y=none:=hk.ok.fresh;have bY:=hp.lt hk.ok;obtain⟨T1,E1,K1,C1,N1,F1⟩:∃ T1,(s'.skip 22).put (s'.next+10) (fun v=>bU.cells PT.nil [Value.int IntKind.i64 0] 16 3 false false v)=T1∧aC [] s' T1∧Obj T1 (s'.next+10) (row 16 fun _=>int 0)∧T1.next=s'.next+22∧(∀ y,s'.next≤y→y≠s'.next+10→T1.heap.get y=none) :=
   ⟨_,rfl,(aC.skip hk.ok 22).pD (fr _ (by omega)) (by show s'.next+10<s'.next+22;omega) (by omega) (Nat.le_refl _),Obj.tO (n:=16) (m:=1) rfl (by rw[iZ]) (fun i hi=>by rw[lM _ (by omega),Nat.mod_one];rfl),rfl,fun y hy hne=>by rw[tF hne];exact fr y hy⟩
  obtain⟨T2,E2,K2,C2,ZG,N2⟩:∃ T2,T1.put (s'.next+12) (fun v=>bU.cells (PT.ofList [HP (s'.next+10)]) [] 1 62 false false v)=T2∧aC [] s' T2∧Obj T2 (s'.next+12) [HP (s'.next+10)]∧Obj T2 (s'.next+10) (row 16 fun _=>int 0)∧T2.next=s'.next+22 :=
   ⟨_,rfl,K1.pD (F1 _ (by omega) (by omega)) (by omega) (by omega) (Nat.le_refl _),Obj.pV rfl,C1.oK (by omega),N1⟩
  obtain⟨w,T3,h3,b3,k3,m3,a3,c3,rfl⟩:=iT (X:=X) (t:=159) (e:=62) (N:=1) (B:=24) (z:=.slice none 0 0) (x:=.slice (some ⟨s'.next+12,0,none⟩) 1 1) (k:=1) (new:=[HP (s'.next+10)]) (by kernel_rfl) (by kernel_rfl) rfl K2.ok (by omega) (hp.cs.aD K2 (by simp)) rfl (kT (by omega) (C2.bD (i:=0) (k:=1) (Nat.le_refl _))) rfl rfl (by omega) (by omega);have NY:∀ x∈S1.next::s.next::rows,x∉nameOf (.slice sa rows.length sc):=fun x hx h=>(hp.ns x h).2 hx;have yG:=(hp.c.aD K2 (by simp)).aD k3 (NY _ (List.mem_cons_self ..));obtain⟨T4,h4',c4,k4⟩:=yG.gJ k3.ok (i:=0) (v:=.slice a3 (rows.length+1) c3) (by simp) rfl;refine dH [] [] [] (by kernel_rfl) (by kernel_rfl) (by rfl) fun O hO bK hR=>?_;simp only[oA,seval,r4,l0,DQ (nm:=s'.next+10) (n:=(16:Int)) (m:=(16:Int)) (by omega) (by omega) (by omega) (by omega),show Int.toNat 16=16 from rfl];rw[E1]
  try simp only[oA,seval]
  rw[E2]
  try simp only[oA,seval]
  refine MY ?_ h3 ?_ ?_
  ·simp only[oA,seval]
  ·simp only[oA,seval]
  simp only[oA,seval,h4'];refine hR _ _ (w1 _ _ ⟨a3,c3,rows++[s'.next+10],?_,?_,?_,by rw[List.length_append,List.length_singleton,hl],?_,?_⟩)
  ·simp only[oA,seval,r0]
  ·simp only[oA,seval,r4]
  ·simp only[oA,seval,r5]
  ·have eN:(rows++[s'.next+10]).length=rows.length+1:=by rw[List.length_append,List.length_singleton]
   have hge:=hk.next;have fy:S1.next∉nameOf (.slice a3 (rows.length+1) c3):=fun h=>by
    rcases m3 _ h with h | h
    ·exact NY _ (List.mem_cons_self ..) h
    ·have:=bY _ (List.mem_cons_self ..);omega
   have kn:∀ x∈S1.next::s.next::rows,x≠S1.next→∀ L,Obj s' x L→Obj T4 x L:=fun x hx hne L ho=>((ho.aD K2 (by simp)).aD k3 (NY x hx)).aD k4 (by simpa using hne);have nd:=hp.nd;have pC:=nd;rw[List.nodup_cons,List.nodup_cons] at pC;refine⟨by rw[eN];exact c4,?_,fun n hn=>?_,?_,?_,fun n hn=>?_,fun b hb=>?_⟩
   ·rw[eN,List.map_append];exact b3.aD k4 fun b hb hb'=>fy (by rw[← List.mem_singleton.1 hb'];exact hb)
   ·rcases List.mem_append.1 hn with h | h
    ·exact kn n (List.mem_cons_of_mem _ (List.mem_cons_of_mem _ h)) (fun e=>pC.1 (by rw[← e];exact List.mem_cons_of_mem _ h)) _ (hp.cr n h)
    ·rw[List.mem_singleton.1 h];refine(ZG.aD k3 fun h=>?_).aD k4 ?_
     ·have:=(hp.cs.lt hk.ok) _ h;omega
     ·have:=bY _ (List.mem_cons_self ..);simp;omega
   ·exact kn _ (List.mem_cons_of_mem _ (List.mem_cons_self ..)) (fun e=>pC.1 (by rw[← e];exact List.mem_cons_self ..)) _ hp.cg
   ·have e:S1.next::s.next::(rows++[s'.next+10])=(S1.next::s.next::rows)++[s'.next+10]:=rfl;rw[e,List.nodup_append];refine⟨nd,by simp,fun x hx y hy=>?_⟩;have:=bY x hx;rw[List.mem_singleton.1 hy];omega
   ·have e:S1.next::s.next::(rows++[s'.next+10])=(S1.next::s.next::rows)++[s'.next+10]:=rfl;rw[e] at hn;rcases List.mem_append.1 hn with h | h
    ·exact hp.ge n h
    ·rw[List.mem_singleton.1 h];omega
   ·rw[eN] at hb;have e:S1.next::s.next::(rows++[s'.next+10])=(S1.next::s.next::rows)++[s'.next+10]:=rfl;rw[e];rcases m3 b hb with h | h
    ·have h2:=hp.ns b h;refine⟨h2.1,fun hm=>?_⟩;rcases List.mem_append.1 hm with h' | h'
     ·exact h2.2 h'
     ·have:=(hp.cs.lt hk.ok) b h;rw[List.mem_singleton.1 h'] at this;omega
    ·refine⟨by omega,fun hm=>?_⟩;rcases List.mem_append.1 hm with h' | h'
     ·have:=bY b h';omega
     ·rw[List.mem_singleton.1 h'] at h;omega
  ·exact((hk.trans K2).step k3 fun y hy=>.inr (hs.fresh y (hp.ns y hy).1)).step k4 fun y hy=>.inr (by rw[List.mem_singleton.1 hy];exact hs.fresh _ (by omega))
 ·rintro j a' s' hj ⟨sa,sc,rows,r0,r4,r5,hl,hp,hk⟩ aR w1;have w:IntKind.i64.wrap ((j:Int)+1)=((j+1:Nat):Int):=by rw[aU (by omega) (by omega)];rfl
  simp only[oA,seval,r5,w];refine w1 _ _ ⟨sa,sc,rows,?_,?_,?_,hl,hp,hk⟩
  all_goals try simp only[oA,seval,r0,r4]
 ·rintro a' s' ⟨sa,sc,rows,r0,r4,r5,hl,hp,hk⟩;refine pA _ _ (aQ _ _ ?_);simp only[oA,seval,r4];refine hΦ S1.next ⟨sa,sc,rows,s.next,none,0⟩ ⟨0,0,none,0,0,m,fun _=>0,fun _=>0,[]⟩ s' rfl (fun _=>rfl) (fun _=>rfl) rfl ?_ ?_ hk
  ·obtain⟨c,cs,cr,cg,nd,ge,ns⟩:=hp;rw[hl] at c cs ns;exact⟨c,cs,hl,fun k hk=>cr _ (List.getElem_mem hk),cg,.nil,nd,fun b hb=>⟨(ns b hb).2,fun h=>(by simp[nameOf] at h)⟩,fun b hb=>(by simp[nameOf] at hb),h1,h4,Nat.zero_le _⟩
  ·intro x hx;rcases List.mem_append.1 hx with hx | hx
   ·rcases List.mem_append.1 hx with hx | hx
    ·exact hp.ge x hx
    ·rw[← hl] at hx;exact(hp.ns x hx).1
   ·simp[nameOf] at hx
 ·refine⟨none,0,[],?_,?_,?_,rfl,P0,eC⟩
  all_goals try simp only[oA,seval]
  all_goals rfl
end
open Go.Proofs
set_option maxRecDepth 100000
set_option maxHeartbeats 8000000
namespace PR
variable (R:PR)
def ev (k n:Nat):List eW:=(List.range n).map (cQ k)
def every:List eW:=ev 0 (16*R.m)++ev 1 16++ev 2 R.q.length
theorem TD (k n:Nat):ev k (n+1)=ev k n++[cQ k n]:=by unfold ev;rw[List.range_succ,List.map_append];rfl
theorem ch (k n:Nat):(ev k n).length=n:=by unfold ev;rw[List.length_map,List.length_range]
theorem mw (k n:Nat):R.part k n=(ev k n).filter fun p=>R.get p != 0:=by
 induction n with
 | zero=>rfl
 | succ n ih =>
  rw[XI,TD,List.filter_append,ih];congr 1;unfold one;by_cases h:R.get (cQ k n)=0
  ·rw[if_pos h];simp[h]
  ·rw[if_neg h];simp[h]
theorem tn:R.all=R.every.filter fun p=>R.get p != 0:=by
 unfold all every;rw[show (3:Nat)=2+1 from rfl,QX,show (2:Nat)=1+1 from rfl,QX,show (1:Nat)=0+1 from rfl,QX];rw[List.filter_append,List.filter_append,mw,mw,mw]
 try rfl
theorem Xf {p:eW} (h:p∈R.every):R.has p=true:=by
 unfold every ev at h;simp only[List.mem_append,List.mem_map,List.mem_range] at h;rcases h with (⟨i,hi,rfl⟩ | ⟨i,hi,rfl⟩) | ⟨i,hi,rfl⟩
 ·exact R.NM (by omega) (by unfold len;simpa using hi)
 ·exact R.NM (by omega) (by unfold len;simpa using hi)
 ·exact R.NM (by omega) (by unfold len;simpa using hi)
theorem zl:R.every.length=16*R.m+16+R.q.length:=by unfold every;rw[List.length_append,List.length_append,ch,ch,ch]
theorem aEo (m i:Nat) (h:i<16):cQ 0 (m*16+i)=⟨0,m,i⟩:=by
 unfold cQ;simp only[if_true];rw[show (m*16+i)/16=m by omega,show (m*16+i)%16=i by omega]
 try rfl
theorem aEp (i:Nat):cQ 1 i=⟨1,0,i⟩:=by unfold cQ;simp
theorem aEq (i:Nat):cQ 2 i=⟨2,0,i⟩:=by unfold cQ;simp
end PR
section
variable {kc:Kc} {q:Bool} {s:St} {Φ:Value→St→Prop} {r:Nat} {Q:RQ} {R:PR}
theorem rP:type_of% (An @RX<|An @sC<|An @aW<|An @sD<|An @sL<|An @yN<|An @JZ<|An @dF<|An @uV<|An @dE<|An @TN<|@sE):=An @RX<|An @sC<|An @aW<|An @sD<|An @sL<|An @yN<|An @JZ<|An @dF<|An @uV<|An @dE<|An @TN<|@sE
theorem Lx (hs:Ok s) (H:gG s r Q R) (p:eW) (hp:R.has p=true) (hΦ:∀ s',aC [] s s'→Φ (int (R.get p)) s'):okF q X (KO kc) 178 [ptr r,vM p] s Φ:=by
 unfold PR.has at hp;unfold PR.get at hΦ;refine aV rfl o_ rfl (rs:=[.tmp 4]) rfl (N:=39) rfl rfl ?_;refine aA fun bB aF aZ=>?_;simp only[rP,seval];obtain⟨s1,e1,k1,c1,_⟩:=cA hs (L:=[int p.k,int p.m,int p.i]) (n:=3) (e:=118) rfl;rw[e1];refine aF _ _ ?_;have H1:=H.aL k1;have lk:aI s1.look ⟨s.next,0,none⟩=some (int p.k):=c1.load rfl;have lm:aI s1.look ⟨s.next,1,none⟩=some (int p.m):=c1.load rfl;have li:aI s1.look ⟨s.next,2,none⟩=some (int p.i):=c1.load rfl;refine aA fun lJ dW jP=>?_;refine aA fun Ψ1 aE aK=>?_;simp only[rP,seval,lk];refine aE _ _ ?_;refine cB fun Ψ2 aH vD bM=>?_;refine aA fun Ψ3 aM bN=>?_;by_cases k0:p.k=0
 ·rw[if_pos k0] at hΦ;have GD:0≤p.m∧p.m<R.m∧0≤p.i∧p.i<16:=by
   by_cases h:0≤p.m∧p.m<R.m
   ·rw[if_pos ⟨k0,h⟩] at hp;have:=of_decide_eq_true hp;exact⟨h.1,h.2,this⟩
   ·rw[if_neg (fun h'=>h h'.2),if_neg (by omega),if_neg (by omega)] at hp;cases hp
  obtain⟨m0,m1,i0,i1⟩:=GD;have NX:=H.rl;have hm:p.m.toNat<Q.rows.length:=by omega
  obtain⟨sb,qa,NZ⟩:=H1.cs.sl.addr (show 0<R.m by have:=H.m1;omega);have kf:aI s1.look ⟨sb,qa+p.m.toNat,none⟩=some (HP Q.rows[p.m.toNat]):=by
   have h:=H1.cs.sl;rw[NZ] at h;exact h.load (by rw[List.getElem?_map,List.getElem?_eq_getElem hm];rfl)
  have lv:aI s1.look ⟨Q.rows[p.m.toNat],p.i.toNat,none⟩=some (int (R.sl (p.m*16+p.i).toNat)):=by
   have:=(H1.cr _ hm).load (lM (n:=16) (i:=p.i.toNat) _ (by omega));rw[this,show (p.m*16+p.i).toNat=p.m.toNat*16+p.i.toNat by omega]
  have l0:=H1.l0;rw[NZ] at l0;simp only[rP,seval,k0,beq_self_eq_true];refine aM _ _ ?_;simp only[eG,RV,RG,seval];refine aA fun Ψ4 aQ bZ=>?_;refine dH [] [] [] (by kernel_rfl) (by kernel_rfl) (by rfl) fun O hO bK hR=>?_;have GS:p.i<((16:Nat):Int):=i1;simp only[rP,seval,l0,lm,m0,m1,and_self,bJ,Nat.mul_one,kf,li,i0,GS,i1,Nat.zero_add,lv];refine hR _ _ (aQ _ _ ?_);simp only[rP,seval];refine bM _ _ _ (by simp) (by simp) (jP _ _ _ (by simp) ?_);simp only[rP,seval];exact hΦ _ (k1.jJ _)
 ·rw[if_neg k0] at hΦ;have VH:(p.k==0)=false:=beq_eq_false_iff_ne.2 k0;simp only[rP,seval,VH];refine aM _ _ ?_;simp only[eG,RV,RG,seval];refine aA fun Ψ4 aQ bZ=>?_;by_cases pQ:p.k=1
  ·rw[if_pos pQ] at hΦ;have hi:0≤p.i∧p.i<16:=by
    by_cases h:p.m=0
    ·rw[if_neg (by omega),if_pos ⟨pQ,h⟩] at hp;exact of_decide_eq_true hp
    ·rw[if_neg (by omega),if_neg (by omega),if_neg (by omega)] at hp;cases hp
   obtain⟨i0,i1⟩:=hi;have GS:p.i<((16:Nat):Int):=i1;have lv:aI s1.look ⟨Q.gn,p.i.toNat,none⟩=some (int (R.gl p.i.toNat)):=H1.cg.load (lM (n:=16) (i:=p.i.toNat) _ (by omega));simp only[rP,seval,pQ,beq_self_eq_true];refine aQ _ _ ?_;simp only[eG,RV,RG,seval];refine aA fun cP bI cF=>?_;refine dH [] [] [] (by kernel_rfl) (by kernel_rfl) (by rfl) fun O hO bK hR=>?_;simp only[rP,seval,H1.l1,li,i0,GS,i1,and_self,bJ,Nat.mul_one,Nat.zero_add,lv];refine hR _ _ (bI _ _ ?_);simp only[rP,seval];refine bM _ _ _ (by simp) (by simp) (jP _ _ _ (by simp) ?_);simp only[rP,seval];exact hΦ _ (k1.jJ _)
  ·rw[if_neg pQ] at hΦ;have aB7:(p.k==1)=false:=beq_eq_false_iff_ne.2 pQ;have hi:0≤p.i∧p.i<R.q.length:=by
    by_cases h:p.k=2∧p.m=0
    ·rw[if_neg (by omega),if_neg (by omega),if_pos h] at hp;exact of_decide_eq_true hp
    ·rw[if_neg (by omega),if_neg (by omega),if_neg h] at hp;cases hp
   obtain⟨i0,i1⟩:=hi;obtain⟨vb,dM,wO⟩:=H1.cq.sl.addr (show 0<R.q.length by omega);have De:p.i.toNat<R.q.length:=by omega
   have lv:aI s1.look ⟨vb,dM+p.i.toNat,none⟩=some (int (R.q.getD p.i.toNat 0)):=by
    have h:=H1.cq.sl;rw[wO] at h;refine h.load ?_;rw[List.getElem?_map,List.getElem?_eq_getElem De,List.getD_eq_getElem?_getD,List.getElem?_eq_getElem De];rfl
   have l2:=H1.l2;rw[wO] at l2;simp only[rP,seval,aB7];refine aQ _ _ ?_;simp only[eG,RV,RG,seval];simp only[rP,seval];refine aH _ _ (dW _ _ ?_);refine aA fun cP bI cF=>?_;refine dH [] [] [] (by kernel_rfl) (by kernel_rfl) (by rfl) fun O hO bK hR=>?_;simp only[rP,seval,l2,li,i0,i1,and_self,bJ,Nat.mul_one,lv];refine hR _ _ (bI _ _ ?_);simp only[rP,seval];exact hΦ _ (k1.jJ _)
theorem dR:type_of% (An @RX<|An @sD<|An @sL<|An @zI<|An @SA<|An @IQ<|An @IJ<|An @sE<|An @dF<|@dG):=An @RX<|An @sD<|An @sL<|An @zI<|An @SA<|An @IQ<|An @IJ<|An @sE<|An @dF<|@dG
theorem aGg (hs:Ok s) (H:gG s r Q R) (hΦ:∀ a c s',bE s' 118 3 (.slice a R.every.length c) (R.every.flatMap kD)→aC [] s s'→(∀ b∈nameOf (.slice a R.every.length c),s.next≤b)→Φ (.slice a R.every.length c) s'):okF q X (KO kc) 177 [ptr r] s Φ:=by
 have m1:=H.m1;have m4:=H.m4;have ql:=H.ql;refine aV rfl o9 rfl (rs:=[.tmp 2]) rfl (N:=55) rfl rfl ?_;refine aA fun bB aF aZ=>?_;simp only[dR,seval];refine aF _ _ ?_;refine aA fun Ψ1 aE aK=>?_;simp only[dR,seval];refine aE _ _ ?_;refine aA fun Ψ2 aH bM=>?_;refine aA fun Ψ3 aM bN=>?_;simp only[dR,seval];refine aJ ?_ (PO H ?_)
 ·simp only[dR,seval]
 try simp only[dR,seval]
 refine aM _ _ ?_;simp only[dR,seval];refine aH _ _ ?_;refine aA fun Ψ4 aQ bZ=>?_;refine aA fun cP bI cF=>?_;simp only[dR,seval];refine bI _ _ ?_;refine cB fun dK bO pA cV=>?_;refine gD (n:=R.m) (fun j a' s'=>∃ va vc,a'.aB 0=ptr r∧a'.aB 4=int j∧a'.aB 3=.slice va (j*16) vc∧bE s' 118 3 (.slice va (j*16) vc) ((PR.ev 0 (j*16)).flatMap kD)∧(∀ y∈nameOf (.slice va (j*16) vc),s.next≤y)∧aC [] s s')
  (fun j a' s'=>∃ va vc,a'.aB 0=ptr r∧a'.aB 4=int j∧a'.aB 3=.slice va ((j+1)*16) vc∧bE s' 118 3 (.slice va ((j+1)*16) vc) ((PR.ev 0 ((j+1)*16)).flatMap kD)∧(∀ y∈nameOf (.slice va ((j+1)*16) vc),s.next≤y)∧aC [] s s') ?_ ?_ ?_ ?_ (Nat.zero_le _) ?_
 ·rintro j a' s' hj ⟨va,vc,r0,r4,r3,hb,hn,hk⟩ aR bH;simp only[dR,seval,r0,r4,(H.aL hk).l0];refine bH _ _ (decide ((j:Int)<R.m)) ?_ (by simp) ⟨va,vc,?_,?_,?_,hb,hn,hk⟩
  all_goals simp only[dR,seval,r0,r4,r3]
 ·rintro j a' s' hj ⟨va,vc,r0,r4,r3,hb,hn,hk⟩ aR w1 w2 w3;refine aA fun fJ cC eF=>?_;simp only[dR,seval];refine cC _ _ ?_;refine cB fun jC dA sJ iI=>?_;refine gD (n:=16) (fun i a' s'=>∃ va vc,a'.aB 0=ptr r∧a'.aB 4=int j∧a'.aB 5=int i∧a'.aB 3=.slice va (j*16+i) vc∧bE s' 118 3 (.slice va (j*16+i) vc) ((PR.ev 0 (j*16+i)).flatMap kD)∧(∀ y∈nameOf (.slice va (j*16+i) vc),s.next≤y)∧aC [] s s')
   (fun i a' s'=>∃ va vc,a'.aB 0=ptr r∧a'.aB 4=int j∧a'.aB 5=int i∧a'.aB 3=.slice va (j*16+i+1) vc∧bE s' 118 3 (.slice va (j*16+i+1) vc) ((PR.ev 0 (j*16+i+1)).flatMap kD)∧(∀ y∈nameOf (.slice va (j*16+i+1) vc),s.next≤y)∧aC [] s s') ?_ ?_ ?_ ?_ (Nat.zero_le _) ?_
  ·rintro i a' s' hi ⟨va,vc,r0,r4,r5,r3,hb,hn,hk⟩ aR bH;simp only[dR,seval,r5];refine bH _ _ (decide ((i:Int)<16)) ?_ (by rw[decide_eq_true_eq];omega) ⟨va,vc,?_,?_,?_,?_,hb,hn,hk⟩
   all_goals simp only[dR,seval,r0,r4,r5,r3]
  ·rintro i a' s' hi ⟨va,vc,r0,r4,r5,r3,hb,hn,hk⟩ aR w1 w2 w3;obtain⟨t1,f1,u1,d1,v1⟩:=cA hk.ok (L:=[int 0,int j,int i]) (n:=3) (e:=118) rfl;obtain⟨w,t2,q2,b2,u2,m2,a2,c2,rfl⟩:=iT (X:=X) (t:=115) (e:=118) (N:=3) (B:=24) (z:=.agg #[int 0,int 0,int 0]) (x:=.slice (some ⟨s'.next,0,none⟩) 1 1) (k:=1) (new:=[int 0,int j,int i]) (by kernel_rfl) (by kernel_rfl) rfl u1.ok (by omega) (hb.aD u1 (by simp)) rfl (kT (by omega) (d1.bD (i:=0) (k:=3) (Nat.le_refl _))) rfl rfl (by omega) (by omega);have n1:=hk.next;have n2:=u1.next;have hn2:∀ y∈nameOf (.slice a2 (j*16+i+1) c2),s.next≤y:=fun y hy=>by
    rcases m2 y hy with e | e
    ·exact hn y e
    ·omega
   have K2:aC [] s t2:=(hk.trans u1).step u2 fun y hy=>.inr (hs.fresh y (hn y hy));simp only[dR,seval,r3,r4,r5];rw[f1];refine iX ?_ q2 ?_
   ·simp only[dR,seval]
   simp only[dR,seval];refine w1 _ _ ⟨a2,c2,?_,?_,?_,?_,?_,hn2,K2⟩
   ·simp only[dR,seval,r0]
   ·simp only[dR,seval,r4]
   ·simp only[dR,seval,r5]
   ·simp only[dR,seval]
   ·rw[PR.TD,List.flatMap_append,PR.aEo j i hi];simpa [kD] using b2
  ·rintro i a' s' hi ⟨va,vc,r0,r4,r5,r3,hb,hn,hk⟩ aR w1;have w:IntKind.i64.wrap ((i:Int)+1)=((i+1:Nat):Int):=by rw[aU (by omega) (by omega)];rfl
   simp only[dR,seval,r5,w];refine w1 _ _ ⟨va,vc,?_,?_,?_,?_,hb,hn,hk⟩
   all_goals try simp only[dR,seval,r0,r4,r3]
   all_goals rfl
  ·rintro a' s' ⟨va,vc,r0,r4,r5,r3,hb,hn,hk⟩;refine sJ _ _ ?_;have e:j*16+16=(j+1)*16:=by omega
   rw[e] at r3 hb hn;exact w1 _ _ ⟨va,vc,r0,r4,r3,hb,hn,hk⟩
  ·refine⟨va,vc,?_,?_,?_,?_,hb,hn,hk⟩
   all_goals try simp only[dR,seval,r0,r4,r3]
   all_goals rfl
 ·rintro j a' s' hj ⟨va,vc,r0,r4,r3,hb,hn,hk⟩ aR w1;have w:IntKind.i64.wrap ((j:Int)+1)=((j+1:Nat):Int):=by rw[aU (by omega) (by omega)];rfl
  simp only[dR,seval,r4,w];refine w1 _ _ ⟨va,vc,?_,?_,?_,hb,hn,hk⟩
  all_goals try simp only[dR,seval,r0,r3]
 ·rintro a' s' ⟨va,vc,r0,r4,r3,hb,hn,hk⟩;refine pA _ _ (aQ _ _ ?_);rw[Nat.mul_comm R.m 16] at r3 hb hn;refine aA fun lJ dW jP=>?_;refine aA fun mZ eB nH=>?_;simp only[dR,seval];refine eB _ _ ?_;refine cB fun rS kL GN qK=>?_;refine gD (n:=16) (fun i a' s'=>∃ va vc,a'.aB 0=ptr r∧a'.aB 6=int i∧a'.aB 3=.slice va (16*R.m+i) vc∧bE s' 118 3 (.slice va (16*R.m+i) vc) ((PR.ev 0 (16*R.m)++PR.ev 1 i).flatMap kD)∧(∀ y∈nameOf (.slice va (16*R.m+i) vc),s.next≤y)∧aC [] s s')
   (fun i a' s'=>∃ va vc,a'.aB 0=ptr r∧a'.aB 6=int i∧a'.aB 3=.slice va (16*R.m+i+1) vc∧bE s' 118 3 (.slice va (16*R.m+i+1) vc) ((PR.ev 0 (16*R.m)++PR.ev 1 (i+1)).flatMap kD)∧(∀ y∈nameOf (.slice va (16*R.m+i+1) vc),s.next≤y)∧aC [] s s') ?_ ?_ ?_ ?_ (Nat.zero_le _) ?_
  ·rintro i a' s' hi ⟨va,vc,r0,r6,r3,hb,hn,hk⟩ aR bH;simp only[dR,seval,r6];refine bH _ _ (decide ((i:Int)<16)) ?_ (by rw[decide_eq_true_eq];omega) ⟨va,vc,?_,?_,?_,hb,hn,hk⟩
   all_goals simp only[dR,seval,r0,r6,r3]
  ·rintro i a' s' hi ⟨va,vc,r0,r6,r3,hb,hn,hk⟩ aR w1 w2 w3;obtain⟨t1,f1,u1,d1,v1⟩:=cA hk.ok (L:=[int 1,int 0,int i]) (n:=3) (e:=118) rfl;obtain⟨w,t2,q2,b2,u2,m2,a2,c2,rfl⟩:=iT (X:=X) (t:=115) (e:=118) (N:=3) (B:=24) (z:=.agg #[int 0,int 0,int 0]) (x:=.slice (some ⟨s'.next,0,none⟩) 1 1) (k:=1) (new:=[int 1,int 0,int i]) (by kernel_rfl) (by kernel_rfl) rfl u1.ok (by omega) (hb.aD u1 (by simp)) rfl (kT (by omega) (d1.bD (i:=0) (k:=3) (Nat.le_refl _))) rfl rfl (by omega) (by omega);have n1:=hk.next;have n2:=u1.next;have hn2:∀ y∈nameOf (.slice a2 (16*R.m+i+1) c2),s.next≤y:=fun y hy=>by
    rcases m2 y hy with e | e
    ·exact hn y e
    ·omega
   have K2:aC [] s t2:=(hk.trans u1).step u2 fun y hy=>.inr (hs.fresh y (hn y hy));simp only[dR,seval,r3,r6];rw[f1];refine iX ?_ q2 ?_
   ·simp only[dR,seval]
   simp only[dR,seval];refine w1 _ _ ⟨a2,c2,?_,?_,?_,?_,hn2,K2⟩
   ·simp only[dR,seval,r0]
   ·simp only[dR,seval,r6]
   ·simp only[dR,seval]
   ·rw[PR.TD,← List.append_assoc,List.flatMap_append,PR.aEp];simpa [kD] using b2
  ·rintro i a' s' hi ⟨va,vc,r0,r6,r3,hb,hn,hk⟩ aR w1;have w:IntKind.i64.wrap ((i:Int)+1)=((i+1:Nat):Int):=by rw[aU (by omega) (by omega)];rfl
   simp only[dR,seval,r6,w];refine w1 _ _ ⟨va,vc,?_,?_,?_,hb,hn,hk⟩
   all_goals try simp only[dR,seval,r0,r3]
   all_goals rfl
  ·rintro a' s' ⟨va,vc,r0,r6,r3,hb,hn,hk⟩;refine GN _ _ (dW _ _ ?_);refine aA fun uH kV tJ=>?_;refine aA fun AA oF yX=>?_;simp only[dR,seval];refine oF _ _ ?_;refine cB fun ME wP ig GO=>?_;refine gD (n:=R.q.length) (fun i a' s'=>∃ va vc,a'.aB 0=ptr r∧a'.aB 7=int i∧a'.aB 3=.slice va (16*R.m+16+i) vc∧bE s' 118 3 (.slice va (16*R.m+16+i) vc) ((PR.ev 0 (16*R.m)++PR.ev 1 16++PR.ev 2 i).flatMap kD)∧(∀ y∈nameOf (.slice va (16*R.m+16+i) vc),s.next≤y)∧aC [] s s')
    (fun i a' s'=>∃ va vc,a'.aB 0=ptr r∧a'.aB 7=int i∧a'.aB 3=.slice va (16*R.m+16+i+1) vc∧bE s' 118 3 (.slice va (16*R.m+16+i+1) vc) ((PR.ev 0 (16*R.m)++PR.ev 1 16++PR.ev 2 (i+1)).flatMap kD)∧(∀ y∈nameOf (.slice va (16*R.m+16+i+1) vc),s.next≤y)∧aC [] s s') ?_ ?_ ?_ ?_ (Nat.zero_le _) ?_
   ·rintro i a' s' hi ⟨va,vc,r0,r7,r3,hb,hn,hk⟩ aR bH;simp only[dR,seval,r0,r7,(H.aL hk).l2];refine bH _ _ (decide ((i:Int)<R.q.length)) ?_ (by simp) ⟨va,vc,?_,?_,?_,hb,hn,hk⟩
    all_goals simp only[dR,seval,r0,r7,r3]
   ·rintro i a' s' hi ⟨va,vc,r0,r7,r3,hb,hn,hk⟩ aR w1 w2 w3;obtain⟨t1,f1,u1,d1,v1⟩:=cA hk.ok (L:=[int 2,int 0,int i]) (n:=3) (e:=118) rfl;obtain⟨w,t2,q2,b2,u2,m2,a2,c2,rfl⟩:=iT (X:=X) (t:=115) (e:=118) (N:=3) (B:=24) (z:=.agg #[int 0,int 0,int 0]) (x:=.slice (some ⟨s'.next,0,none⟩) 1 1) (k:=1) (new:=[int 2,int 0,int i]) (by kernel_rfl) (by kernel_rfl) rfl u1.ok (by omega) (hb.aD u1 (by simp)) rfl (kT (by omega) (d1.bD (i:=0) (k:=3) (Nat.le_refl _))) rfl rfl (by omega) (by omega);have n1:=hk.next;have n2:=u1.next;have hn2:∀ y∈nameOf (.slice a2 (16*R.m+16+i+1) c2),s.next≤y:=fun y hy=>by
     rcases m2 y hy with e | e
     ·exact hn y e
     ·omega
    have K2:aC [] s t2:=(hk.trans u1).step u2 fun y hy=>.inr (hs.fresh y (hn y hy));simp only[dR,seval,r3,r7];rw[f1];refine iX ?_ q2 ?_
    ·simp only[dR,seval]
    simp only[dR,seval];refine w1 _ _ ⟨a2,c2,?_,?_,?_,?_,hn2,K2⟩
    ·simp only[dR,seval,r0]
    ·simp only[dR,seval,r7]
    ·simp only[dR,seval]
    ·rw[PR.TD 2 i,← List.append_assoc,List.flatMap_append,PR.aEq];simpa [kD] using b2
   ·rintro i a' s' hi ⟨va,vc,r0,r7,r3,hb,hn,hk⟩ aR w1;have w:IntKind.i64.wrap ((i:Int)+1)=((i+1:Nat):Int):=by rw[aU (by omega) (by omega)];rfl
    simp only[dR,seval,r7,w];refine w1 _ _ ⟨va,vc,?_,?_,?_,hb,hn,hk⟩
    all_goals try simp only[dR,seval,r0,r3]
    all_goals rfl
   ·rintro a' s' ⟨va,vc,r0,r7,r3,hb,hn,hk⟩;refine ig _ _ (kV _ _ ?_);rw[← R.zl] at r3 hb hn;simp only[dR,seval,r3];exact hΦ va vc s' hb hk hn
   ·refine⟨va,vc,?_,?_,?_,?_,hn,hk⟩
    ·try simp only[dR,seval,r0]
    ·try simp only[dR,seval]
     try rfl
    ·try simp only[dR,seval,r3]
     try rfl
    ·rw[Nat.add_zero];simpa [PR.ev] using hb
  ·refine⟨va,vc,?_,?_,?_,?_,hn,hk⟩
   ·try simp only[dR,seval,r0]
   ·try simp only[dR,seval]
    try rfl
   ·try simp only[dR,seval,r3]
    try rfl
   ·rw[Nat.add_zero];simpa [PR.ev] using hb
 ·refine⟨none,0,?_,?_,?_,?_,(by simp[nameOf]),.refl hs⟩
  ·try simp only[dR,seval]
  ·try simp only[dR,seval]
   try rfl
  ·try simp only[dR,seval]
   try rfl
  ·exact .nil
theorem lS:type_of% (An @RX<|An @DN<|An @DC<|An @mC<|@IQ):=An @RX<|An @DN<|An @DC<|An @mC<|@IQ
theorem aGj (hs:Ok s) (H:gG s r Q R) (hΦ:∀ a c s',bE s' 118 3 (.slice a R.all.length c) (R.all.flatMap kD)→aC [] s s'→(∀ b∈nameOf (.slice a R.all.length c),s.next≤b)→Φ (.slice a R.all.length c) s'):okF q X (KO kc) 94 [ptr r] s Φ:=by
 have m1:=H.m1;have m4:=H.m4;have ql:=H.ql;have hel:=R.zl;rw[PR.tn] at hΦ;refine aV rfl L7 rfl (rs:=[.tmp 2]) rfl (N:=29) rfl rfl ?_;refine aA fun bB aF aZ=>?_;simp only[lS,seval];refine aF _ _ ?_;refine aA fun Ψ1 aE aK=>?_;simp only[lS,seval];refine aE _ _ ?_;refine aA fun Ψ2 aH bM=>?_;simp only[lS,seval];refine aJ ?_ (aGg hs H fun ea ec s1 b1 k1 hn1=>?_)
 ·simp only[lS,seval]
 try simp only[lS,seval]
 refine aH _ _ ?_;have H1:=H.aL k1;have OT:=k1.next;refine aA fun Ψ3 aM bN=>?_;refine aA fun Ψ4 aQ bZ=>?_;simp only[lS,seval];refine aQ _ _ ?_;refine cB fun cP bI oH cF=>?_;refine gD (n:=R.every.length) (fun j a' s'=>∃ L va vc,L=(R.every.take j).filter (fun p=>R.get p != 0)∧a'.aB 0=ptr r∧a'.aB 4=.slice ea R.every.length ec∧a'.aB 5=int j∧a'.aB 3=.slice va L.length vc∧bE s' 118 3 (.slice va L.length vc) (L.flatMap kD)∧(∀ y∈nameOf (.slice va L.length vc),s1.next≤y)∧aC [] s1 s')
  (fun j a' s'=>∃ L va vc,L=(R.every.take (j+1)).filter (fun p=>R.get p != 0)∧a'.aB 0=ptr r∧a'.aB 4=.slice ea R.every.length ec∧a'.aB 5=int j∧a'.aB 3=.slice va L.length vc∧bE s' 118 3 (.slice va L.length vc) (L.flatMap kD)∧(∀ y∈nameOf (.slice va L.length vc),s1.next≤y)∧aC [] s1 s') ?_ ?_ ?_ ?_ (Nat.zero_le _) ?_
 ·rintro j a' s' hj ⟨L,va,vc,hL,r0,r4,r5,r3,hb,hn,hk⟩ aR bH;simp only[lS,seval,r4,r5];refine bH _ _ (decide ((j:Int)<R.every.length)) ?_ (by simp) ⟨L,va,vc,hL,?_,?_,?_,?_,hb,hn,hk⟩
  all_goals simp only[lS,seval,r0,r4,r5,r3]
 ·rintro j a' s' hj ⟨L,va,vc,hL,r0,r4,r5,r3,hb,hn,hk⟩ aR w1 w2 w3;obtain⟨vb,dM,rfl⟩:=b1.sl.addr (show 0<R.every.length by omega);have g1:(0:Int)≤(j:Int):=Int.natCast_nonneg _;have g2:(j:Int)<((R.every.length:Nat):Int):=by omega
  obtain⟨p,hp⟩:∃ p,p=R.every[j]:=⟨_,rfl⟩;have hll:L.length≤200:=by
   rw[hL];have:=List.length_filter_le (fun p=>R.get p != 0) (R.every.take j);rw[List.length_take] at this;omega
  have lj:∀ S,aC [] s1 S→bD S.look ⟨vb,dM+j*3,none⟩ 3=some [int p.k,int p.m,int p.i]:=fun S k=>by
   have:=(b1.sl.aD k (by simp)).bD (i:=j*3) (k:=3) (by omega) (by rw[TV];omega);rw[TW _ hj,← hp] at this;exact this
  have yW:=R.Xf (p:=p) (by rw[hp];exact List.getElem_mem _);have wM:(R.every.take (j+1)).filter (fun p=>R.get p != 0)=L++if R.get p != 0 then [p] else []:=by
   rw[List.take_add_one,List.getElem?_eq_getElem hj,← hp,List.filter_append,← hL];congr 1;by_cases h:R.get p=0
   ·simp[h]
   ·simp[h]
  refine aA fun dK bO cV=>?_;simp only[lS,seval,r0,r4,r5,g1,g2,and_self,bJ,Int.toNat_natCast,lj s' hk];refine aJ ?_ (Lx hk.ok (H1.aL hk) p yW fun s2 k2=>?_)
  ·simp only[lS,seval]
  have hk2:=hk.trans k2;by_cases h0:R.get p=0
  ·have e0:(R.get p==0)=true:=by simpa using h0
   try simp only[lS,seval,bne,e0]
   refine bO _ _ ?_;simp only[lS,seval];rw[h0] at wM;refine w1 _ _ ⟨L,va,vc,by rw[wM];simp,?_,?_,?_,?_,hb.aD k2 (by simp),hn,hk2⟩
   all_goals simp only[lS,seval,r0,r4,r5,r3]
  ·have e0:(R.get p==0)=false:=beq_eq_false_iff_ne.2 h0
   try simp only[lS,seval,bne,e0]
   refine bO _ _ ?_;obtain⟨t1,f1,u1,d1,v1⟩:=cA k2.ok (L:=[int p.k,int p.m,int p.i]) (n:=3) (e:=118) rfl;obtain⟨w,t2,q2,b2,u2,m2,a2,c2,rfl⟩:=iT (X:=X) (t:=115) (e:=118) (N:=3) (B:=24) (z:=.agg #[int 0,int 0,int 0]) (x:=.slice (some ⟨s2.next,0,none⟩) 1 1) (k:=1) (new:=[int p.k,int p.m,int p.i]) (by kernel_rfl) (by kernel_rfl) rfl u1.ok (by omega) ((hb.aD k2 (by simp)).aD u1 (by simp)) rfl (kT (by omega) (d1.bD (i:=0) (k:=3) (Nat.le_refl _))) rfl rfl (by omega) (by omega);have n1:=hk2.next;have n2:=u1.next;have hn2:∀ y∈nameOf (.slice a2 (L.length+1) c2),s1.next≤y:=fun y hy=>by
    rcases m2 y hy with e | e
    ·exact hn y e
    ·omega
   have K2:aC [] s1 t2:=(hk2.trans u1).step u2 fun y hy=>.inr (k1.ok.fresh y (hn y hy));have hne:(R.get p != 0)=true:=by simp[h0]
   rw[hne,if_pos rfl] at wM;have eN:(L++[p]).length=L.length+1:=by rw[List.length_append];rfl
   simp only[lS,seval,r3,r4,r5,g1,g2,and_self,bJ,Int.toNat_natCast,lj s2 hk2];rw[f1];refine iX ?_ q2 ?_
   ·simp only[lS,seval]
   simp only[lS,seval];refine w1 _ _ ⟨L++[p],a2,c2,wM.symm,?_,?_,?_,?_,?_,by rw[eN];exact hn2,K2⟩
   ·simp only[lS,seval,r0]
   ·simp only[lS,seval,r4]
   ·simp only[lS,seval,r5]
   ·simp only[lS,seval,eN]
   ·rw[eN,List.flatMap_append];simpa [kD] using b2
 ·rintro j a' s' hj ⟨L,va,vc,hL,r0,r4,r5,r3,hb,hn,hk⟩ aR w1;have w:IntKind.i64.wrap ((j:Int)+1)=((j+1:Nat):Int):=by rw[aU (by omega) (by omega)];rfl
  simp only[lS,seval,r5,w];refine w1 _ _ ⟨L,va,vc,hL,?_,?_,?_,?_,hb,hn,hk⟩
  all_goals try simp only[lS,seval,r0,r4,r3]
 ·rintro a' s' ⟨L,va,vc,hL,r0,r4,r5,r3,hb,hn,hk⟩;refine oH _ _ (aM _ _ ?_);rw[List.take_length] at hL;subst hL;simp only[lS,seval,r3];exact hΦ va vc s' hb (k1.trans hk) fun y hy=>by have:=hn y hy;omega
 ·refine⟨[],none,0,rfl,?_,?_,?_,?_,.nil,(by simp[nameOf]),.refl k1.ok⟩
  all_goals try simp only[lS,seval]
  all_goals rfl
end
open Go.Proofs
set_option maxRecDepth 100000
set_option maxHeartbeats 8000000
theorem Su {l:List Int} {a:Int} {k:Nat} (hk:k<l.length):(l.take (k+1)).contains a=((l.take k).contains a||(l[k]==a)):=by
 rw[List.take_add_one,List.getElem?_eq_getElem hk,List.contains_eq_any_beq,List.contains_eq_any_beq,List.any_append];simp[Bool.beq_comm]
section
variable {kc:Kc} {q:Bool} {s:St} {Φ:Value→St→Prop} {r:Nat} {Q:RQ} {R:PR}
theorem gS:type_of% (An @RX<|An @DN<|An @DC<|An @mC<|An @dG<|An @dE<|An @aW<|@jE):=An @RX<|An @DN<|An @DC<|An @mC<|An @dG<|An @dE<|An @aW<|@jE
theorem aGh (hs:Ok s) (H:gG s r Q R) (hΦ:∀ a c s',bE s' 3 1 (.slice a R.leads.length c) (R.leads.map int)→aC [] s s'→(∀ b∈nameOf (.slice a R.leads.length c),s.next≤b)→Φ (.slice a R.leads.length c) s'):okF q X (KO kc) 105 [ptr r] s Φ:=by
 have m1:=H.m1;have m4:=H.m4;have ql:=H.ql;have hel:=R.tB m4 ql;refine aV rfl Yp rfl (rs:=[.tmp 2]) rfl (N:=45) rfl rfl ?_;refine aA fun bB aF aZ=>?_;simp only[gS,seval];refine aF _ _ ?_;refine aA fun Ψ1 aE aK=>?_;simp only[gS,seval];refine aE _ _ ?_;refine aA fun Ψ2 aH bM=>?_;simp only[gS,seval];refine aJ ?_ (aGj hs H fun ea ec s1 b1 k1 hn1=>?_)
 ·simp only[gS,seval]
 try simp only[gS,seval]
 refine aH _ _ ?_;have H1:=H.aL k1;have OT:=k1.next;refine aA fun Ψ3 aM bN=>?_;refine aA fun Ψ4 aQ bZ=>?_;simp only[gS,seval];refine aQ _ _ ?_;refine cB fun cP bI oH cF=>?_;refine gD (n:=R.all.length) (fun j a' s'=>∃ L va vc,L=R.nU (R.all.take j)∧a'.aB 0=ptr r∧a'.aB 4=.slice ea R.all.length ec∧a'.aB 5=int j∧a'.aB 3=.slice va L.length vc∧bE s' 3 1 (.slice va L.length vc) (L.map int)∧(∀ y∈nameOf (.slice va L.length vc),s1.next≤y)∧aC [] s1 s')
  (fun j a' s'=>∃ L va vc,L=R.nU (R.all.take (j+1))∧a'.aB 0=ptr r∧a'.aB 4=.slice ea R.all.length ec∧a'.aB 5=int j∧a'.aB 3=.slice va L.length vc∧bE s' 3 1 (.slice va L.length vc) (L.map int)∧(∀ y∈nameOf (.slice va L.length vc),s1.next≤y)∧aC [] s1 s') ?_ ?_ ?_ ?_ (Nat.zero_le _) ?_
 ·rintro j a' s' hj ⟨L,va,vc,hL,r0,r4,r5,r3,hb,hn,hk⟩ aR bH;simp only[gS,seval,r4,r5];refine bH _ _ (decide ((j:Int)<R.all.length)) ?_ (by simp) ⟨L,va,vc,hL,?_,?_,?_,?_,hb,hn,hk⟩
  all_goals simp only[gS,seval,r0,r4,r5,r3]
 ·rintro j a' s' hj ⟨L,va,vc,hL,r0,r4,r5,r3,hb,hn,hk⟩ aR w1 w2 w3;obtain⟨vb,dM,rfl⟩:=b1.sl.addr (show 0<R.all.length by omega);have g1:(0:Int)≤(j:Int):=Int.natCast_nonneg _;have g2:(j:Int)<((R.all.length:Nat):Int):=by omega
  obtain⟨p,hp⟩:∃ p,p=R.all[j]:=⟨_,rfl⟩;have hll:L.length≤200:=by
   rw[hL];have:=R.VU (R.all.take j);rw[List.length_take] at this;omega
  have lj:bD s'.look ⟨vb,dM+j*3,none⟩ 3=some [int p.k,int p.m,int p.i]:=by
   have:=(b1.sl.aD hk (by simp)).bD (i:=j*3) (k:=3) (by omega) (by rw[TV];omega);rw[TW _ hj,← hp] at this;exact this
  have yW:=R.RY (p:=p) (by rw[hp];exact List.getElem_mem _);have wM:R.nU (R.all.take (j+1))=once L (R.get p):=by
   rw[List.take_add_one,List.getElem?_eq_getElem hj,← hp,hL];exact R.VV _ _
  refine aA fun dK bO cV=>?_;simp only[gS,seval,r0,r4,r5,g1,g2,and_self,bJ,Int.toNat_natCast,lj];refine aJ ?_ (Lx hk.ok (H1.aL hk) p yW fun s2 k2=>?_)
  ·simp only[gS,seval]
  have hk2:=hk.trans k2;have hb2:=hb.aD k2 (by simp)
  try simp only[gS,seval]
  refine bO _ _ ?_;refine aA fun fJ cC eF=>?_;simp only[gS,seval];refine cC _ _ ?_;refine aA fun jC dA iI=>?_;refine aA fun lJ dW jP=>?_;simp only[gS,seval];refine dW _ _ ?_;refine cB fun mZ eB En nH=>?_;refine gD (n:=L.length) (fun k a' s'=>a'.aB 0=ptr r∧a'.aB 4=.slice (some ⟨vb,dM,none⟩) R.all.length ec∧a'.aB 5=int j∧a'.aB 3=.slice va L.length vc∧a'.aB 6=int (R.get p)∧a'.aB 7=.bool ((L.take k).contains (R.get p))∧a'.aB 8=int k∧s'=s2)
   (fun k a' s'=>a'.aB 0=ptr r∧a'.aB 4=.slice (some ⟨vb,dM,none⟩) R.all.length ec∧a'.aB 5=int j∧a'.aB 3=.slice va L.length vc∧a'.aB 6=int (R.get p)∧a'.aB 7=.bool ((L.take (k+1)).contains (R.get p))∧a'.aB 8=int k∧s'=s2) ?_ ?_ ?_ ?_ (Nat.zero_le _) ?_
  ·rintro k a' s' CZ ⟨r0,r4,r5,r3,r6,r7,r8,e⟩ aR bH;simp only[gS,seval,r3,r8];refine bH _ _ (decide ((k:Int)<L.length)) ?_ (by simp) ⟨?_,?_,?_,?_,?_,?_,?_,e⟩
   all_goals simp only[gS,seval,r0,r4,r5,r3,r6,r7,r8]
  ·rintro k a' s' CZ ⟨r0,r4,r5,r3,r6,r7,r8,e⟩ aR v1 v2 v3;subst e;refine cK [(1,30)] (by kernel_rfl) fun O hO bK hR=>?_;have y1:∀ a,aN O a 1=bC (a.aB 30):=hO (1,30) (by simp);have ht:=Su (a:=R.get p) CZ;cases hc:(L.take k).contains (R.get p) with
   | true =>
    rw[hc] at r7 ht;simp only[gS,seval,y1,r7];refine hR _ _ (v1 _ _ ⟨?_,?_,?_,?_,?_,?_,?_,rfl⟩)
    all_goals try simp only[gS,seval,r0,r4,r5,r3,r6,r8,ht,Bool.true_or]
   | false =>
    obtain⟨wb,aK7,rfl⟩:=hb2.sl.addr (show 0<L.length by omega);have lk:=gL.get hb2.sl (List.getElem?_eq_getElem CZ);have g3:(0:Int)≤(k:Int):=Int.natCast_nonneg _;have g4:(k:Int)<((L.length:Nat):Int):=by omega
    rw[hc] at r7 ht;simp only[gS,seval,y1,r7,r3,r6,r8,g3,g4,and_self,bJ,Int.toNat_natCast,Nat.mul_one,lk];refine hR _ _ (v1 _ _ ⟨?_,?_,?_,?_,?_,?_,?_,rfl⟩)
    all_goals try simp only[gS,seval,r0,r4,r5,r3,r6,r8,ht,Bool.false_or]
  ·rintro k a' s' CZ ⟨r0,r4,r5,r3,r6,r7,r8,e⟩ aR v1;have w:IntKind.i64.wrap ((k:Int)+1)=((k+1:Nat):Int):=by rw[aU (by omega) (by omega)];rfl
   simp only[gS,seval,r8,w];refine v1 _ _ ⟨?_,?_,?_,?_,?_,?_,?_,e⟩
   all_goals try simp only[gS,seval,r0,r4,r5,r3,r6,r7]
  ·rintro a' s' ⟨r0,r4,r5,r3,r6,r7,r8,e⟩;subst e;rw[List.take_length] at r7;refine En _ _ (dA _ _ ?_);refine aA fun rS kL qK=>?_;simp only[gS,seval,r7];refine kL _ _ ?_;cases hc:L.contains (R.get p) with
   | true =>
    simp only[gS,seval,hc];unfold once at wM;rw[hc,if_pos rfl] at wM;refine w1 _ _ ⟨L,va,vc,wM.symm,?_,?_,?_,?_,hb2,hn,hk2⟩
    all_goals simp only[gS,seval,r0,r4,r5,r3]
   | false =>
    unfold once at wM;rw[hc,if_neg (by simp)] at wM;obtain⟨t1,f1,u1,d1,v1⟩:=cA k2.ok (L:=[int (R.get p)]) (n:=1) (e:=3) rfl;obtain⟨w,t2,q2,b2,u2,m2,a2,c2,rfl⟩:=iT (X:=X) (t:=62) (e:=3) (N:=1) (B:=8) (z:=.int .i64 0) (x:=.slice (some ⟨s'.next,0,none⟩) 1 1) (k:=1) (new:=[int (R.get p)]) (by kernel_rfl) (by kernel_rfl) rfl u1.ok (by omega) (hb2.aD u1 (by simp)) rfl (kT (by omega) (d1.bD (i:=0) (k:=1) (Nat.le_refl _))) rfl rfl (by omega) (by omega);have n1:=hk2.next;have n2:=u1.next;have hn2:∀ y∈nameOf (.slice a2 (L.length+1) c2),s1.next≤y:=fun y hy=>by
     rcases m2 y hy with e | e
     ·exact hn y e
     ·omega
    have K2:aC [] s1 t2:=(hk2.trans u1).step u2 fun y hy=>.inr (k1.ok.fresh y (hn y hy));have eN:(L++[R.get p]).length=L.length+1:=by rw[List.length_append];rfl
    simp only[gS,seval,hc,r3,r6];rw[f1];refine iX ?_ q2 ?_
    ·simp only[gS,seval]
    simp only[gS,seval];refine w1 _ _ ⟨L++[R.get p],a2,c2,wM.symm,?_,?_,?_,?_,?_,by rw[eN];exact hn2,K2⟩
    ·simp only[gS,seval,r0]
    ·simp only[gS,seval,r4]
    ·simp only[gS,seval,r5]
    ·simp only[gS,seval,eN]
    ·rw[eN,List.map_append];exact b2
  ·refine⟨?_,?_,?_,?_,?_,?_,?_,rfl⟩
   all_goals try simp only[gS,seval,r0,r4,r5,r3]
   all_goals rfl
 ·rintro j a' s' hj ⟨L,va,vc,hL,r0,r4,r5,r3,hb,hn,hk⟩ aR w1;have w:IntKind.i64.wrap ((j:Int)+1)=((j+1:Nat):Int):=by rw[aU (by omega) (by omega)];rfl
  simp only[gS,seval,r5,w];refine w1 _ _ ⟨L,va,vc,hL,?_,?_,?_,?_,hb,hn,hk⟩
  all_goals try simp only[gS,seval,r0,r4,r3]
 ·rintro a' s' ⟨L,va,vc,hL,r0,r4,r5,r3,hb,hn,hk⟩;refine oH _ _ (aM _ _ ?_);rw[List.take_length] at hL;have hL:L=R.leads:=hL;subst hL;simp only[gS,seval,r3];exact hΦ va vc s' hb (k1.trans hk) fun y hy=>by have:=hn y hy;omega
 ·refine⟨[],none,0,rfl,?_,?_,?_,?_,.nil,(by simp[nameOf]),.refl k1.ok⟩
  all_goals try simp only[gS,seval]
  all_goals rfl
end
end Go.Dust
