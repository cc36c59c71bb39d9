/- VerifyDamage walked in D, function by function, and its plain law (Qj Q5 Q6 Q7 U1 Qk K2 K4 K3 K5). -/
import Derived.Test.YtaoiejcaopgjcaaGreatP
import Derived.Test.YtaoiejcaopgjcaaGreatN
import Derived.Test.YtaoiejcaopgjcaaGreatJ
set_option linter.unusedVariables false
set_option linter.unusedSimpArgs false
namespace Go.Dust
open Go.Proofs
set_option maxRecDepth 100000
set_option maxHeartbeats 2000000
theorem KQ {α β:Type} {l:List α} {f:α→List β} (h:∀ x∈l,f x=[]):l.flatMap f=[]:=by
 induction l with
 | nil=>rfl
 | cons x l ih=>rw[List.flatMap_cons,h x List.mem_cons_self,ih fun y hy=>h y (List.mem_cons_of_mem _ hy)];rfl
theorem VH {α β:Type} {l:List α} {f:α→List β} (hn:l.Nodup) {a:α} {y:β} (ha:a∈l) (h1:f a=[y]) (h2:∀ x∈l,x≠a→f x=[]):l.flatMap f=[y]:=by
 induction l with
 | nil=>cases ha
 | cons x l ih =>
  rw[List.nodup_cons] at hn;rw[List.flatMap_cons];rcases List.mem_cons.1 ha with rfl | h
  ·rw[h1,KQ fun z hz=>h2 z (List.mem_cons_of_mem _ hz) fun e=>hn.1 (e ▸ hz)];rfl
  ·rw[h2 x List.mem_cons_self fun e=>hn.1 (e ▸ h),ih hn.2 h fun z hz=>h2 z (List.mem_cons_of_mem _ hz)];rfl
namespace PH
variable {P:PH}
def fv (P:PH) (b i:Int) (d:Bool):Int:=if P.dR b i d=0 then P.w (P.dP b i d).toNat else 0
theorem ay (I:P.Inv) {a k v:Int} {d:Bool} (h:P.dR a k d=0) (b i:Int) (d':Bool):(P.eH (P.dP a k d) v).fv b i d'=if b=a∧i=k∧d'=d then v else P.fv b i d':=by
 have G:=I.bX;obtain⟨a1,a2,a3,a4,a5⟩:=qH G h;have B:P.Body a (P.dP a k d):=⟨(sN h).1,a2,a3⟩;have eE:(P.eH (P.dP a k d) v).dR b i d'=P.dR b i d':=by
  unfold dR many;rw[sy];by_cases hb:P.has b=true
  ·rw[if_pos hb,if_pos hb,EY G B hb]
  ·rw[if_neg hb,if_neg hb]
 unfold fv;rw[eE];by_cases hf:P.dR b i d'=0
 ·have hb:=(sN hf).1;obtain⟨b1,b2,b3,b4,b5⟩:=qH G hf;have eA:(P.eH (P.dP a k d) v).dP b i d'=P.dP b i d':=by
   generalize P.dP a k d=j at eE B;unfold dP first;rw[eE,if_pos hf,if_pos hf,EY G B hb]
  rw[if_pos hf,if_pos hf,eA];by_cases e:b=a∧i=k∧d'=d
  ·obtain⟨rfl,rfl,rfl⟩:=e;rw[if_pos ⟨rfl,rfl,rfl⟩];exact Pr
  ·rw[if_neg e];refine IY fun hc=>?_;have F9:b=a:=by
    rcases Int.lt_trichotomy b a with h' | h' | h'
    ·have:=G.oJ b a hb B.1 h';omega
    ·exact h'
    ·have:=G.oJ a b B.1 hb h';omega
   subst F9;obtain⟨_,i0,i1⟩:=sN hf;obtain⟨_,k0,k1⟩:=sN h;have hc:P.first b d'+i=P.first b d+k:=by omega
   refine e ⟨rfl,?_⟩;unfold first at hc;unfold many at i1 k1;cases d' <;> cases d <;> simp at hc i1 k1 ⊢ <;> omega
 ·rw[if_neg hf,if_neg hf,if_neg];rintro⟨rfl,rfl,rfl⟩;exact hf h
theorem NA (G:P.bX) {o j v:Int} (B:P.Body o j) (b:Int):(P.eH j v).fW b=P.fW b:=by
 unfold fW;rw[sy];split
 ·rename_i hb;exact SD G B hb
 ·try rfl
theorem Ps (G:P.bX) {o j v:Int} (B:P.Body o j) (b:Int):(P.eH j v).aM b=P.aM b:=by
 unfold aM;rw[sy];split
 ·rename_i hb;exact EY G B hb
 ·try rfl
theorem Lg {Q:PH} (I:P.Inv) (hM:Q.M=P.M) (hs:∀ b,Q.aM b=P.aM b) (K:List Int) {x:Int} (hx:P.has x=true):jS P Q K x=(List.range (P.bZ x)).flatMap (oE P Q K x x)++(List.range (P.jO x)).flatMap (oZ P Q x x):=by
 unfold jS;rw[hM,I.M x hx];simp only;have:BB P Q x x=true:=by unfold BB;rw[hs];simp
 rw[if_pos this]
theorem Le (I:P.Inv) {a:Int} {k:Nat} {v:Int} (h:P.dR a k true=0) (hv:P.jN a k≠v) (K:List Int) {x:Int} (hx:P.has x=true) :
  jS P (P.eH (P.dP a k true) v) K x=if x=a then [(11,P.w a.toNat,1+(P.aM a).r+(k:Int))] else []:=by
 have G:=I.bX;obtain⟨a1,a2,a3,a4,a5⟩:=qH G h;have B:P.Body a (P.dP a k true):=⟨(sN h).1,a2,a3⟩;rw[Lg I (Q:=P.eH (P.dP a k true) v) rfl (Ps G B) K hx];have hr:∀ b i,(P.eH (P.dP a k true) v).ref b i=P.ref b i:=fun b i=>by
  have:=ay I h (v:=v) b i false;rw[if_neg (by rintro⟨_,_,e⟩;cases e)] at this;exact this
 have hd:∀ b i,(P.eH (P.dP a k true) v).jN b i=if b=a∧i=k then v else P.jN b i:=fun b i=>by
  have:=ay I h (v:=v) b i true;simp only[and_true] at this;exact this
 rw[KQ fun i _=>by unfold oE;rw[hr,NA G B,if_neg (by rintro⟨h1,_⟩;exact h1 rfl)],List.nil_append];by_cases e:x=a
 ·subst e;rw[if_pos rfl];have hk:k<P.jO x:=by
   obtain⟨_,k0,k1⟩:=sN h;unfold jO aM;rw[if_pos hx];unfold many at k1;simp at k1;omega
  refine VH List.nodup_range (a:=k) (List.mem_range.2 hk) ?_ fun i _ hi=>?_
  ·have PE:(P.eH (P.dP x k true) v).jN x k=v:=by rw[hd,if_pos ⟨rfl,rfl⟩]
   unfold oZ;rw[PE,if_pos hv]
  ·have PE:(P.eH (P.dP x k true) v).jN x i=P.jN x i:=by rw[hd,if_neg (by rintro⟨_,h1⟩;exact hi (by omega))]
   unfold oZ;rw[PE,if_neg (fun h=>h rfl)]
 ·rw[if_neg e];exact KQ fun i _=>by
   have PE:(P.eH (P.dP a k true) v).jN x i=P.jN x i:=by rw[hd,if_neg (fun h=>e h.1)]
   unfold oZ;rw[PE,if_neg (fun h=>h rfl)]
theorem Lf (I:P.Inv) {a:Int} {k:Nat} {v:Int} (h:P.dR a k false=0) (hv:P.fW (P.ref a k)≠P.fW v) (hs:PH.soft (P.aM a).k k=false) (K:List Int) {x:Int} (hx:P.has x=true) :
  jS P (P.eH (P.dP a k false) v) K x=if x=a then [(11,P.w a.toNat,1+(k:Int))] else []:=by
 have G:=I.bX;obtain⟨a1,a2,a3,a4,a5⟩:=qH G h;have B:P.Body a (P.dP a k false):=⟨(sN h).1,a2,a3⟩;rw[Lg I (Q:=P.eH (P.dP a k false) v) rfl (Ps G B) K hx];have hd:∀ b i,(P.eH (P.dP a k false) v).jN b i=P.jN b i:=fun b i=>by
  have:=ay I h (v:=v) b i true;rw[if_neg (by rintro⟨_,_,e⟩;cases e)] at this;exact this
 have hr:∀ b i,(P.eH (P.dP a k false) v).ref b i=if b=a∧i=k then v else P.ref b i:=fun b i=>by
  have:=ay I h (v:=v) b i false;simp only[and_true] at this;exact this
 rw[KQ (l:=List.range (P.jO x)) fun i _=>by unfold oZ;rw[hd,if_neg (fun h=>h rfl)],List.append_nil];by_cases e:x=a
 ·subst e;rw[if_pos rfl];have hk:k<P.bZ x:=by
   obtain⟨_,k0,k1⟩:=sN h;unfold bZ aM;rw[if_pos hx];unfold many at k1;simp at k1;omega
  refine VH List.nodup_range (a:=k) (List.mem_range.2 hk) ?_ fun i _ hi=>?_
  ·have hex:tK P (P.eH (P.dP x k false) v) K x x k=false:=by unfold tK;rw[hs,Bool.false_and]
   have hra:(P.eH (P.dP x k false) v).ref x k=v:=by rw[hr,if_pos ⟨rfl,rfl⟩]
   unfold oE;rw[hex,hra,NA G B,if_pos ⟨hv,rfl⟩]
  ·have hra:(P.eH (P.dP x k false) v).ref x i=P.ref x i:=by rw[hr,if_neg (by rintro⟨_,h1⟩;exact hi (by omega))]
   unfold oE;rw[hra,NA G B,if_neg (by rintro⟨h1,_⟩;exact h1 rfl)]
 ·rw[if_neg e];exact KQ fun i _=>by
   have hra:(P.eH (P.dP a k false) v).ref x i=P.ref x i:=by rw[hr,if_neg (fun h=>e h.1)]
   unfold oE;rw[hra,NA G B,if_neg (by rintro⟨h1,_⟩;exact h1 rfl)]
end PH
theorem Nn {P Q:PH} {R:PR} (h:∀ b,Q.fW b=P.fW b) (n:Nat):qU P Q R R n=[]:=by
 unfold qU;refine KQ fun i _=>?_;unfold wI;split
 ·try rfl
 ·rename_i p hp;have hh:=R.FY (List.mem_of_getElem? hp);rw[if_neg];rintro⟨_,h2⟩;refine h2 ?_;rw[h];unfold PR.gt;rw[if_pos hh]
theorem aA4 {P:PH} {R:PR} (I:P.Inv) {a:Int} {k:Nat} {v:Int} (ha:a∈(P.rounds R.leads).1) (h:P.dR a k true=0) (hv:P.jN a k≠v):qL P (P.eH (P.dP a k true) v) R R=[(11,P.w a.toNat,1+(P.aM a).r+(k:Int))]:=by
 obtain⟨a1,a2,a3,a4,a5⟩:=PH.qH I.bX h;unfold qL;rw[Nn (PH.NA I.bX ⟨(PH.sN h).1,a2,a3⟩),List.append_nil];refine VH MU ha ?_ fun x hx hne=>?_
 ·rw[PH.Le I h hv _ (P.CJ _ a ha),if_pos rfl]
 ·rw[PH.Le I h hv _ (P.CJ _ x hx),if_neg hne]
theorem aA6 {P:PH} {R:PR} (I:P.Inv) {a:Int} {k:Nat} {v:Int} (ha:a∈(P.rounds R.leads).1) (h:P.dR a k false=0) (hv:P.fW (P.ref a k)≠P.fW v) (hs:PH.soft (P.aM a).k k=false):qL P (P.eH (P.dP a k false) v) R R=[(11,P.w a.toNat,1+(k:Int))]:=by
 obtain⟨a1,a2,a3,a4,a5⟩:=PH.qH I.bX h;unfold qL;rw[Nn (PH.NA I.bX ⟨(PH.sN h).1,a2,a3⟩),List.append_nil];refine VH MU ha ?_ fun x hx hne=>?_
 ·rw[PH.Lf I h hv hs _ (P.CJ _ a ha),if_pos rfl]
 ·rw[PH.Lf I h hv hs _ (P.CJ _ x hx),if_neg hne]
theorem aA5 {P:PH} {R R':PR} (I:P.Inv) {a:Int} (ha:a∈(P.rounds R.leads).1):(10,P.w a.toNat,0)∈qL P (P.kill a) R R':=by
 have hh:=P.CJ _ a ha;unfold qL;refine List.mem_append_left _ (List.mem_flatMap.2 ⟨a,ha,?_⟩);have hl:(P.kill a).M.lookup (P.w a.toNat)=none:=by
  refine PH.Jd fun p hp=>?_;have hp:p∈P.M.eraseP (fun p=>p.1==P.w a.toNat):=hp;intro he;obtain⟨p0,l1,l2,q1,q2,q3,q4⟩:=List.exists_of_eraseP (p:=fun p:Int×Int=>p.1==P.w a.toNat) (List.mem_of_mem_eraseP hp) (by rw[he];exact beq_self_eq_true _);rw[q4] at hp;have hn:=I.Mn;rw[q3,List.map_append,List.map_cons,List.nodup_append,List.nodup_cons] at hn;rcases List.mem_append.1 hp with h1 | h1
  ·exact q1 p h1 (by rw[he];exact beq_self_eq_true _)
  ·refine hn.2.1.1 ?_;rw[beq_iff_eq.1 q2,← he];exact List.mem_map_of_mem h1
 unfold PH.jS;rw[hl];exact List.mem_singleton.2 rfl
open Go.Proofs
set_option maxRecDepth 100000
set_option maxHeartbeats 8000000
section
variable {kc:Kc} {q:Bool} {s:St} {Φ:Value→St→Prop} {g t:Nat} {G:dI} {Q:RQ} {R:PR}
theorem gP:type_of% (B9 @RX @za @nM @nU @zc @Bf @Hw @UZ (B9 @bG @xk @kX @lA @wC @nS @AJ @DE (B8 @FE @tI @DN @dF @wK @VB @KA @FD))):=B9 @RX @za @nM @nU @zc @Bf @Hw @UZ (B9 @bG @xk @kX @lA @wC @nS @AJ @DE (B8 @FE @tI @DN @dF @wK @VB @KA @FD))
theorem aE6 (hs:Ok s) (H:cM s g G) (hbd:∀ o∈G.L,o.rs.length<1000000∧o.ds.length<1000000) (hΦ:∀ g' s',aC [] s s'→Φ (ptr g') s'):okF q X (KO kc) 128 [ptr g] s Φ:=by
 have n2:=H.n2;have bY:=H.bY;have hlen:=H.len;have ks:aC [] s (s.skip 38):=aC.skip hs _;have YZ:(s.skip 38).next=s.next+38:=rfl;refine aW Tryz.func128 (by kernel_rfl) rfl rfl (rs:=[.tmp 2]) rfl (N:=64) rfl rfl ?_;refine aA fun bF aF bD=>?_;simp only[gP,seval];refine aF _ _ ?_;refine aA fun Ψ1 aE aL=>?_;refine aA fun Ψ2 aI bH=>?_;simp only[gP,seval];refine aH ?_ (AW H ?_)
 ·simp only[gP,seval]
 try simp only[gP,seval]
 refine aI _ _ ?_;simp only[gP,seval];refine aE _ _ ?_;have H0:=H.aJ ks;obtain⟨T1,E1,K1,C1,N1⟩:∃ T1,(s.skip 38).put (s.next+0) (fun v=>bW.cells (PT.ofList []) [] 0 210 false false v)=T1∧aC [] s T1∧(∃ c zz bB,T1.heap.get (s.next+0)=some (.cells c zz 0 210 false false bB))∧T1.next=s.next+38 :=
  ⟨_,rfl,ks.jT (hs.fresh _ (by omega)) (by show s.next+0<s.next+38;omega) (by omega) (Nat.le_refl _),⟨_,_,_,by simp only[St.put,PT.fH,if_true];rfl⟩,rfl⟩
 have H1:=H.aJ K1;obtain⟨T2,h2,o2,u2,m2⟩:=TN (X:=X) (t:=127) (e:=210) (N:=2) (B:=16) (z:=.agg #[int 0,int 0]) (x:=.slice (some ⟨G.bn,0,none⟩) G.N G.N) (k:=G.N) (new:=row (2*G.N) fun i=>int (if i%2=0 then G.bs (i/2) else G.bp (i/2))) (by kernel_rfl) (by kernel_rfl) rfl K1.ok C1 rfl (Sl.first (H1.cb.sl (by rw[fY];omega))) (by rw[fY];omega) (by omega) (row_one _ fun i=>if i%2=0 then G.bs (i/2) else G.bp (i/2)) (by omega) (by omega);have K2:=K1.trans u2;have H2:=H.aJ K2;have GJ:T2.heap.get (s.next+12)=none:=by
  refine u2.none ?_ (by omega);rw[← E1,oK (by omega)];exact hs.fresh _ (by omega)
 obtain⟨T3,E3,K3,C3,N3⟩:∃ T3,T2.put (s.next+12) (fun v=>bW.cells (PT.ofList []) [] 0 278 false false v)=T3∧aC [] s T3∧Cells T3 (s.next+12) 278 []∧T3.next=T2.next :=
  ⟨_,rfl,K2.jT GJ (by omega) (by omega) (Nat.le_refl _),Cells.kC (L:=[]),rfl⟩
 have H3:=H.aJ K3;have B3:bJ T3 278 2 (.slice (some ⟨s.next+12,0,none⟩) 0 0) []:=.own (L0:=[]) C3 (by simp) (Nat.le_refl _) rfl (fun i hi=>absurd hi (Nat.not_lt_zero _));obtain⟨w,T4,h4,b4,u4,m4,a4,c4,rfl⟩:=iE (X:=X) (t:=129) (e:=278) (N:=2) (B:=16) (z:=.agg #[int 0,int 0]) (x:=.slice none 0 0) (k:=0) (new:=[]) (by kernel_rfl) (by kernel_rfl) rfl K3.ok (by omega) B3 rfl rfl rfl rfl (by omega) (by omega);have K4:aC [] s T4:=K3.step u4 fun y hy=>.inr (by rw[List.mem_singleton.1 (show y∈[s.next+12] from hy)];exact hs.fresh _ (by omega));have H4:=H.aJ K4;have l2:aG T3.look ⟨g,2,none⟩=some (.slice none 0 0):=H3.c.load rfl;have fZ:∀ {F F':List Nat} {A B:St},aC [] s A→aC [] s B→uH [g] A B:=fun{F F' A B} ka kb=>by
  obtain⟨e,c,z,room,bB,hg,_⟩:=H.c;refine eP ?_ fO;have:=MY (ka.dE _ _ hg (by simp)) rfl ka.ok (.refl ka.ok) (F:=[]) (by simp);unfold fJ at this ⊢;rw[ka.dE _ _ hg (by simp)] at this ⊢;rw[kb.dE _ _ hg (by simp)];exact this
 obtain⟨px,mF⟩:∃ px,px=s.next+34:=⟨_,rfl⟩;have n4:=u4.next;have iq:T4.heap.get px=none:=by
  refine u4.none ?_ (by omega);rw[← E3,oK (by omega)];refine u2.none ?_ (by omega);rw[← E1,oK (by omega),mF];exact hs.fresh _ (by omega)
 obtain⟨T5,E5,K5,C5,N5⟩:∃ T5,T4.put px (fun v=>bW.cells (PT.ofList [.slice (some ⟨T1.next,0,none⟩) G.N G.N,.slice none 0 0,.slice a4 (0+0) c4,int G.born]) [] 4 131 false false v)=T5∧aC [] s T5∧Obj T5 px [.slice (some ⟨T1.next,0,none⟩) G.N G.N,.slice none 0 0,.slice a4 (0+0) c4,int G.born]∧T5.next=T4.next :=
  ⟨_,rfl,K4.jT iq (by omega) (by omega) (Nat.le_refl _),Obj.kC rfl,rfl⟩
 refine aA fun Ψ3 aN bM=>?_;refine dG [(4,0),(10,0),(10,5),(10,6),(15,0),(15,5),(15,6),(15,11)] [g] [] (by kernel_rfl) (by kernel_rfl) (by rfl) fun O hO bC hR=>?_;simp only[gP,seval];rw[E1];refine⟨fZ (F:=[]) (F':=[]) ks K1,?_⟩;simp only[gP,seval,H1.l0];refine vJ ?_ h2 ?_ ?_
 ·simp only[gP,seval,Nat.add_zero]
 ·simp only[gP,seval];exact fZ (F:=[]) (F':=[]) K1 K2
 simp only[gP,seval];rw[E3];refine⟨fZ (F:=[]) (F':=[]) K2 K3,?_⟩;simp only[gP,seval,l2];refine vJ ?_ h4 ?_ ?_
 ·simp only[gP,seval]
 ·simp only[gP,seval];exact fZ (F:=[]) (F':=[]) K3 K4
 simp only[gP,seval,H4.l3,← mF];rw[E5];refine hR _ _ (aN _ _ ?_);refine aA fun Ψ4 aP cC=>?_;refine aA fun cU aZ cK=>?_;simp only[gP,seval];refine aZ _ _ ?_;refine cJ fun dN bO oL cZ=>?_;refine gB (n:=G.L.length) (fun j a' s'=>∃ va vc b0 f0 Lc,a'.aB 0=ptr g∧a'.aB 3=ptr px∧a'.aB 4=int j∧Obj s' px [b0,.slice va j vc,f0,int G.born]∧bJ s' 133 8 (.slice va j vc) Lc∧(∀ y∈nameOf (.slice va j vc),y≠px∧s.next≤y)∧aC [] s s')
  (fun j a' s'=>∃ va vc b0 f0 Lc,a'.aB 0=ptr g∧a'.aB 3=ptr px∧a'.aB 4=int j∧Obj s' px [b0,.slice va (j+1) vc,f0,int G.born]∧bJ s' 133 8 (.slice va (j+1) vc) Lc∧(∀ y∈nameOf (.slice va (j+1) vc),y≠px∧s.next≤y)∧aC [] s s') ?_ ?_ ?_ ?_ (Nat.zero_le _) ?_
 ·rintro j a' s' hj ⟨va,vc,b0,f0,Lc,r0,r3,r4,hc,hb,hn,hk⟩ aV bP;simp only[gP,seval,r0,r4,(H.aJ hk).l1];refine bP _ _ (decide ((j:Int)<G.L.length)) ?_ (by simp) ⟨va,vc,b0,f0,Lc,?_,?_,?_,hc,hb,hn,hk⟩
  all_goals simp only[gP,seval,r0,r3,r4]
 ·rintro j a' s' hj ⟨va,vc,b0,f0,Lc,r0,r3,r4,hc,hb,hn,hk⟩ aV w1 w2 w3;have H':=H.aJ hk;obtain⟨vb,dW,hv⟩:=H'.addr (show 0<G.L.length by omega);have l1:=H'.l1;rw[hv] at l1;have g1:(0:Int)≤(j:Int):=Int.natCast_nonneg _;have g2:(j:Int)<((G.L.length:Nat):Int):=by omega
  obtain⟨o,ho⟩:∃ o,o=G.L[j]:=⟨_,rfl⟩;have Fj:o∈G.L:=by rw[ho];exact List.getElem_mem _
  have lN:=H'.lN hv hj;rw[← ho] at lN;obtain⟨Ya,Yb⟩:=H'.cr o Fj;obtain⟨U0,jq⟩:=hbd o Fj;obtain⟨s1,f1,k1,c1,n1⟩:=cI hk.ok (L:=[int 0,int 0,int 0,int 0,int 0,.slice none 0 0,.slice none 0 0,.bool false]) (n:=8) (e:=133) rfl;obtain⟨s2,q2,c2,k2⟩:=c1.storeAll k1.ok (vs:=[int o.a,int o.id,int o.sh.r,int o.sh.d,int o.sh.k,.slice (some ⟨o.rn,0,none⟩) o.rs.length o.rs.length,.slice (some ⟨o.dn,0,none⟩) o.ds.length o.ds.length,.bool o.fD]) rfl rfl;have lN:bI s'.look ⟨vb,dW+j*8,none⟩ 8=some [int o.a,int o.id,int o.sh.r,int o.sh.d,int o.sh.k,.slice (some ⟨o.rn,0,none⟩) o.rs.length o.rs.length,.slice (some ⟨o.dn,0,none⟩) o.ds.length o.ds.length,.bool o.fD]:=lN;refine aA fun fE cG dX=>?_;simp only[gP,seval,r0,r4,l1,g1,g2,and_self,bQ,Int.toNat_natCast,lN];rw[f1];simp only[gP,seval,q2];refine cG _ _ ?_;have k12:aC [] s' s2:=k1.step k2 fun y hy=>.inr (by rw[List.mem_singleton.1 hy];exact hk.ok.fresh _ (Nat.le_refl _));obtain⟨x,hx⟩:∃ x,x=s'.next:=⟨_,rfl⟩;rw[← hx] at c2;simp only[← hx];have GK:∀ y,s'.next≤y→s'.heap.get y=none:=hk.ok.fresh;have cp:∀ (S:St) (nm:Nat) (L:List Int),aC [] s' S→Obj S nm (L.map int)→L.length<1000000→∃ S1 S2 a5 c5,(S.new fun v=>.cells (PT.ofList []) [] 0 3 false false v)=S1∧oY X S1 #[62,62] [.slice (some ⟨S.next,0,none⟩) 0 0,.slice (some ⟨nm,0,none⟩) L.length L.length]=some (.slice a5 L.length c5,S2)∧aC [] S S2:=fun S nm L kS hO hL=>by
   obtain⟨S1,e1,k1,c1,_⟩:=cI kS.ok (L:=[]) (n:=0) (e:=3) rfl;obtain⟨e,c1⟩:=c1;have B1:bJ S1 3 1 (.slice (some ⟨S.next,0,none⟩) 0 0) []:=by
    rw[← e1];exact .own (L0:=[]) Cells.tU (by simp) (Nat.le_refl _) rfl (fun i hi=>absurd hi (Nat.not_lt_zero _))
   obtain⟨v,s4,h4,b4,k4,m4,a4,c4,rfl⟩:=iE (X:=X) (t:=62) (e:=3) (N:=1) (B:=8) (z:=.int .i64 0) (x:=.slice (some ⟨nm,0,none⟩) L.length L.length) (k:=L.length) (new:=L.map int) (by kernel_rfl) (by kernel_rfl) rfl k1.ok (by omega) B1 rfl (Sl.first ((hO.aD k1 (by simp)).sl (by rw[List.length_map,Nat.mul_one]))) (by rw[List.length_map,Nat.mul_one]) (DG _) (by omega) (by omega);rw[Nat.zero_add] at h4;exact⟨S1,s4,a4,c4,e1,h4,k1.step k4 fun y hy=>.inr (by rw[List.mem_singleton.1 (show y∈[S.next] from hy)];exact kS.ok.fresh _ (Nat.le_refl _))⟩
  have stx:∀ {S S':St},aC [] s' S→aC [x] S S'→aC [] s' S':=fun h k=>h.step k fun y hy=>.inr (GK y (by rw[List.mem_singleton.1 hy];omega));obtain⟨S1,S2,a5,c5,vj,h5,dj⟩:=cp s2 o.rn o.rs k12 (Ya.aD k12 (by simp)) U0;have k22:=k12.trans dj;obtain⟨s3,q3,c3,k3⟩:=(c2.aD dj (by simp)).fK dj.ok (i:=5) (v:=.slice a5 o.rs.length c5) (by simp) rfl;have c3:Obj s3 x [int o.a,int o.id,int o.sh.r,int o.sh.d,int o.sh.k,.slice a5 o.rs.length c5,.slice (some ⟨o.dn,0,none⟩) o.ds.length o.ds.length,.bool o.fD]:=c3;have lV:=stx k22 k3;have lx5:aG s2.look ⟨x,5,none⟩=some (.slice (some ⟨o.rn,0,none⟩) o.rs.length o.rs.length):=c2.load rfl;refine aA fun gV cT gA=>?_;have aBk:aG S1.look ⟨x,5,none⟩=some (.slice (some ⟨o.rn,0,none⟩) o.rs.length o.rs.length):=by
   rw[← vj];exact(c2.aD ((aC.refl (F:=[]) k12.ok).new (.inr (Nat.le_refl _))) (by simp)).load rfl
  simp only[gP,seval];rw[vj];simp only[gP,seval,aBk];refine iS ?_ h5 ?_
  ·simp only[gP,seval]
  simp only[gP,seval,q3];refine cT _ _ ?_;obtain⟨S3,S4,a6,c6,vk,h6,dk⟩:=cp s3 o.dn o.ds lV (Yb.aD lV (by simp)) jq;have EF:=lV.trans dk;obtain⟨s4,q4,sL,k4'⟩:=(c3.aD dk (by simp)).fK dk.ok (i:=6) (v:=.slice a6 o.ds.length c6) (by simp) rfl;have sL:Obj s4 x [int o.a,int o.id,int o.sh.r,int o.sh.d,int o.sh.k,.slice a5 o.rs.length c5,.slice a6 o.ds.length c6,.bool o.fD]:=sL;have LV:=stx EF k4';have aBl:aG S3.look ⟨x,6,none⟩=some (.slice (some ⟨o.dn,0,none⟩) o.ds.length o.ds.length):=by
   rw[← vk];exact(c3.aD ((aC.refl (F:=[]) lV.ok).new (.inr (Nat.le_refl _))) (by simp)).load rfl
  refine aA fun jC dK iK=>?_;simp only[gP,seval];rw[vk];simp only[gP,seval,aBl];refine iS ?_ h6 ?_
  ·simp only[gP,seval]
  simp only[gP,seval,q4];refine dK _ _ ?_;have rS:aC [] s4 (s4.skip 22):=aC.skip LV.ok _;have uJ:=sL.aD rS (by simp);have l8:bI s4.look ⟨x,0,none⟩ 8=some [int o.a,int o.id,int o.sh.r,int o.sh.d,int o.sh.k,.slice a5 o.rs.length c5,.slice a6 o.ds.length c6,.bool o.fD]:=sL.bI (i:=0) (k:=8) (Nat.le_refl _);have G7:=hc.aD LV (by simp);have YF:aG s4.look ⟨px,1,none⟩=some (.slice va j vc):=G7.load rfl;obtain⟨T6,E6,K6,C6,N6⟩:∃ T6,(s4.skip 22).put (s4.next+12) (fun v=>bW.cells (PT.ofList [int o.a,int o.id,int o.sh.r,int o.sh.d,int o.sh.k,.slice a5 o.rs.length c5,.slice a6 o.ds.length c6,.bool o.fD]) [] 8 133 false false v)=T6∧aC [] s4 T6∧Obj T6 (s4.next+12) [int o.a,int o.id,int o.sh.r,int o.sh.d,int o.sh.k,.slice a5 o.rs.length c5,.slice a6 o.ds.length c6,.bool o.fD]∧T6.next=s4.next+22 :=
   ⟨_,rfl,rS.jT (LV.ok.fresh _ (by omega)) (by show s4.next+12<s4.next+22;omega) (by omega) (Nat.le_refl _),Obj.kC rfl,rfl⟩
  have AF:=LV.trans K6;obtain⟨w,T7,h7,b7,u7,m7,a7,c7,rfl⟩:=iE (X:=X) (t:=128) (x:=.slice (some ⟨s4.next+12,0,none⟩) 1 1) (k:=1) (new:=[int o.a,int o.id,int o.sh.r,int o.sh.d,int o.sh.k,.slice a5 o.rs.length c5,.slice a6 o.ds.length c6,.bool o.fD]) GC eu rfl K6.ok (by omega) (hb.aD AF (by simp)) rfl (lQ (by omega) (C6.bI (i:=0) (k:=8) (Nat.le_refl _))) rfl rfl (by omega) (by omega);have pn:px∉nameOf (.slice va j vc):=fun hh=>(hn px hh).1 rfl;obtain⟨T8,h8,c8,Su⟩:=((hc.aD AF (by simp)).aD u7 pn).fK u7.ok (i:=1) (v:=.slice a7 (j+1) c7) (by simp) rfl;have nn:s.next≤T6.next:=Nat.le_trans hk.next AF.next;have hpl:px<s'.next:=hc.lt hk.ok;have npp:=AF.next;have zX:∀ y∈nameOf (.slice a7 (j+1) c7),y≠px∧s.next≤y:=fun y hy=>by
   rcases m7 y hy with e | e
   ·exact hn y e
   ·exact⟨by omega,by omega⟩
  have K8:aC [] s T8:=((hk.trans AF).step u7 fun y hy=>.inr (hs.fresh y (hn y hy).2)).step Su fun y hy=>.inr (by rw[List.mem_singleton.1 hy,mF];exact hs.fresh _ (by omega));refine dG [] [] [] (by kernel_rfl) (by kernel_rfl) (by rfl) fun O hO bC hR=>?_;simp only[gP,seval,r3,YF,l8,E6];refine vJ ?_ h7 ?_ ?_
  ·simp only[gP,seval]
  ·simp only[gP,seval]
  simp only[gP,seval,h8];refine hR _ _ (w1 _ _ ⟨a7,c7,b0,f0,_,?_,?_,?_,c8,b7.aD Su fun y hy hy'=>(zX y hy).1 (List.mem_singleton.1 hy'),zX,K8⟩)
  ·simp only[gP,seval,r0]
  ·simp only[gP,seval,r3]
  ·simp only[gP,seval,r4]
 ·rintro j a' s' hj ⟨va,vc,b0,f0,Lc,r0,r3,r4,hc,hb,hn,hk⟩ aV w1;have w:IntKind.i64.wrap ((j:Int)+1)=((j+1:Nat):Int):=by rw[aU (by omega) (by omega)];rfl
  simp only[gP,seval,r4,w];refine w1 _ _ ⟨va,vc,b0,f0,Lc,?_,?_,?_,hc,hb,hn,hk⟩
  all_goals try simp only[gP,seval,r0,r3]
 ·rintro a' s' ⟨va,vc,b0,f0,Lc,r0,r3,r4,hc,hb,hn,hk⟩;refine oL _ _ (aP _ _ ?_);simp only[gP,seval,r3];exact hΦ px s' hk
 ·refine⟨none,0,.slice (some ⟨T1.next,0,none⟩) G.N G.N,.slice a4 (0+0) c4,[],?_,?_,?_,C5,.nil,(by simp[nameOf]),K5⟩
  all_goals try simp only[gP,seval]
  all_goals rfl
end
open Go.Proofs
set_option maxRecDepth 100000
set_option maxHeartbeats 8000000
theorem EX {F:List Nat} {s A B:St} (h:∀ b∈F,∃ o,s.heap.get b=some o∧o.cX=false) (ka:aC [] s A) (kb:aC [] s B):uH F A B:=fun b hb=>by
 obtain⟨o,hg,hd⟩:=h b hb;have:=MY (ka.dE _ _ hg (by simp)) hd ka.ok (.refl ka.ok) (F:=[]) (by simp);unfold fJ at this ⊢;rw[ka.dE _ _ hg (by simp)] at this ⊢;rw[kb.dE _ _ hg (by simp)];exact this
theorem Obj.live {s:St} {b:Nat} {L:List Value} (h:Obj s b L):∃ o,s.heap.get b=some o∧o.cX=false:=by
 obtain⟨e,c,z,room,bB,hg,_⟩:=h;exact⟨_,hg,rfl⟩
theorem Sl.live {s:St} {b off n c m:Nat} {L:List Value} (h:Sl s m (.slice (some ⟨b,off,none⟩) n c) L) (hn:0<L.length):∃ o,s.heap.get b=some o∧o.cX=false:=by
 have:=h.load (i:=0) (List.getElem?_eq_getElem hn);exact Iw this
section
variable {kc:Kc} {q:Bool} {s:St} {Φ:Value→St→Prop} {t:Nat} {Q:RQ} {R:PR}
theorem jA:type_of% (B9 @RX @tI @KJ @dF @rL @xw @rK @rU (B4 @wE @EE @UH @bj)):=B9 @RX @tI @KJ @dF @rL @xw @rK @rU (B4 @wE @EE @UH @bj)
theorem aFg (hs:Ok s) (H:gH s t Q R) (hΦ:∀ t' s',aC [] s s'→Φ (ptr t') s'):okF q X (KO kc) 129 [ptr t] s Φ:=by
 have m1:=H.m1;have m4:=H.m4;have ql:=H.ql;have LL:=H.rl;have ks:aC [] s (s.skip 30):=aC.skip hs _;have IA:∀ b∈[t],∃ o,s.heap.get b=some o∧o.cX=false:=fun b hb=>by rw[List.mem_singleton.1 hb];exact H.c.live
 refine aW Tryz.func129 (by kernel_rfl) rfl rfl (rs:=[.tmp 2]) rfl (N:=50) rfl rfl ?_;refine aA fun bF aF bD=>?_;simp only[jA,seval];refine aF _ _ ?_;refine aA fun Ψ1 aE aL=>?_;refine aA fun Ψ2 aI bH=>?_;simp only[jA,seval];refine aH ?_ (MX H ?_)
 ·simp only[jA,seval]
 try simp only[jA,seval]
 refine aI _ _ ?_;simp only[jA,seval];refine aE _ _ ?_;obtain⟨T1,E1,K1,C1,N1⟩:∃ T1,(s.skip 30).put (s.next+0) (fun v=>bW.cells (PT.ofList []) [] 0 3 false false v)=T1∧aC [] s T1∧Cells T1 s.next 3 []∧T1.next=s.next+30 :=
  ⟨_,rfl,ks.jT (hs.fresh _ (by omega)) (by show s.next+0<s.next+30;omega) (by omega) (Nat.le_refl _),Cells.kC (L:=[]),rfl⟩
 have H1:=H.aJ K1;have B1:bJ T1 3 1 (.slice (some ⟨s.next,0,none⟩) 0 0) []:=.own (L0:=[]) C1 (by simp) (Nat.le_refl _) rfl (fun i hi=>absurd hi (Nat.not_lt_zero _));obtain⟨w,T2,h2,b2,u2,m2,a2,c2,rfl⟩:=iE (X:=X) (t:=62) (e:=3) (N:=1) (B:=8) (z:=.int .i64 0) (x:=.slice (some ⟨Q.gn,0,none⟩) 16 16) (k:=16) (new:=row 16 fun i=>int (R.gl i)) (by kernel_rfl) (by kernel_rfl) rfl K1.ok (by omega) B1 rfl (Sl.first (H1.cg.sl (by rw[fY]))) (by rw[fY]) (row_one _ R.gl) (by omega) (by omega);have K2:aC [] s T2:=K1.step u2 fun y hy=>.inr (by rw[List.mem_singleton.1 (show y∈[s.next] from hy)];exact hs.fresh _ (Nat.le_refl _));have n2:=u2.next;have GJ:T2.heap.get (s.next+12)=none:=by
  refine u2.none ?_ (by omega);rw[← E1,oK (by omega)];exact hs.fresh _ (by omega)
 obtain⟨T3,E3,K3,C3,N3⟩:∃ T3,T2.put (s.next+12) (fun v=>bW.cells (PT.ofList []) [] 0 3 false false v)=T3∧aC [] s T3∧Cells T3 (s.next+12) 3 []∧T3.next=T2.next :=
  ⟨_,rfl,K2.jT GJ (by omega) (by omega) (Nat.le_refl _),Cells.kC (L:=[]),rfl⟩
 have H3:=H.aJ K3;have B3:bJ T3 3 1 (.slice (some ⟨s.next+12,0,none⟩) 0 0) []:=.own (L0:=[]) C3 (by simp) (Nat.le_refl _) rfl (fun i hi=>absurd hi (Nat.not_lt_zero _));obtain⟨w,T4,h4,b4,u4,m4',a4,c4,rfl⟩:=iE (X:=X) (t:=62) (e:=3) (N:=1) (B:=8) (z:=.int .i64 0) (x:=.slice Q.va R.q.length Q.vc) (k:=R.q.length) (new:=R.q.map int) (by kernel_rfl) (by kernel_rfl) rfl K3.ok (by omega) B3 rfl H3.cq.sl.first (by rw[List.length_map,Nat.mul_one]) (DG _) (by omega) (by omega);have K4:aC [] s T4:=K3.step u4 fun y hy=>.inr (by rw[List.mem_singleton.1 (show y∈[s.next+12] from hy)];exact hs.fresh _ (by omega));have n4:=u4.next;obtain⟨px,mF⟩:∃ px,px=s.next+26:=⟨_,rfl⟩;have iq:T4.heap.get px=none:=by
  refine u4.none ?_ (by omega);rw[← E3,oK (by omega)];refine u2.none ?_ (by omega);rw[← E1,oK (by omega),mF];exact hs.fresh _ (by omega)
 obtain⟨T5,E5,K5,C5,N5⟩:∃ T5,T4.put px (fun v=>bW.cells (PT.ofList [.slice none 0 0,.slice a2 (0+16) c2,.slice a4 (0+R.q.length) c4]) [] 3 161 false false v)=T5∧aC [] s T5∧Obj T5 px [.slice none 0 0,.slice a2 (0+16) c2,.slice a4 (0+R.q.length) c4]∧T5.next=T4.next :=
  ⟨_,rfl,K4.jT iq (by omega) (by omega) (Nat.le_refl _),Obj.kC rfl,rfl⟩
 refine aA fun Ψ3 aN bM=>?_;refine dG [(4,0),(10,0),(10,5),(10,6)] [t] [] (by kernel_rfl) (by kernel_rfl) (by rfl) fun O hO bC hR=>?_;simp only[jA,seval];rw[E1];refine⟨EX IA ks K1,?_⟩;simp only[jA,seval,H1.l1];refine vJ ?_ h2 ?_ ?_
 ·simp only[jA,seval,Nat.add_zero]
 ·simp only[jA,seval];exact EX IA K1 K2
 simp only[jA,seval];rw[E3];refine⟨EX IA K2 K3,?_⟩;simp only[jA,seval,H3.l2];refine vJ ?_ h4 ?_ ?_
 ·simp only[jA,seval]
 ·simp only[jA,seval]
 simp only[jA,seval,← mF];rw[E5];refine hR _ _ (aN _ _ ?_);refine aA fun Ψ4 aP cC=>?_;refine aA fun cU aZ cK=>?_;simp only[jA,seval];refine aZ _ _ ?_;refine cJ fun dN bO oL cZ=>?_;refine gB (n:=R.m) (fun j a' s'=>∃ va vc v1 v2 Lc,a'.aB 0=ptr t∧a'.aB 3=ptr px∧a'.aB 4=int j∧Obj s' px [.slice va j vc,v1,v2]∧bJ s' 62 1 (.slice va j vc) Lc∧(∀ y∈nameOf (.slice va j vc),y≠px∧s.next≤y)∧aC [] s s')
  (fun j a' s'=>∃ va vc v1 v2 Lc,a'.aB 0=ptr t∧a'.aB 3=ptr px∧a'.aB 4=int j∧Obj s' px [.slice va (j+1) vc,v1,v2]∧bJ s' 62 1 (.slice va (j+1) vc) Lc∧(∀ y∈nameOf (.slice va (j+1) vc),y≠px∧s.next≤y)∧aC [] s s') ?_ ?_ ?_ ?_ (Nat.zero_le _) ?_
 ·rintro j a' s' hj ⟨va,vc,v1,v2,Lc,r0,r3,r4,hc,hb,hn,hk⟩ aV bP;simp only[jA,seval,r0,r4,(H.aJ hk).l0];refine bP _ _ (decide ((j:Int)<R.m)) ?_ (by simp) ⟨va,vc,v1,v2,Lc,?_,?_,?_,hc,hb,hn,hk⟩
  all_goals simp only[jA,seval,r0,r3,r4]
 ·rintro j a' s' hj ⟨va,vc,v1,v2,Lc,r0,r3,r4,hc,hb,hn,hk⟩ aV w1 w2 w3;have H':=H.aJ hk;obtain⟨sb,IZ,HM⟩:=H'.cs.sl.addr (show 0<R.m by omega);have WJ:j<Q.rows.length:=by omega
  have l0:=H'.l0;have hS:=H'.cs.sl;rw[HM] at l0 hS;have g1:(0:Int)≤(j:Int):=Int.natCast_nonneg _;have g2:(j:Int)<((R.m:Nat):Int):=by omega
  have QQ:aG s'.look ⟨sb,IZ+j,none⟩=some (AY Q.rows[j]):=hS.load (by rw[List.getElem?_map,List.getElem?_eq_getElem WJ];rfl);have Jh:∀ b∈[px,t,sb],∃ o,s'.heap.get b=some o∧o.cX=false:=fun b hb=>by
   simp only[List.mem_cons,List.not_mem_nil,or_false] at hb;rcases hb with rfl | rfl | rfl
   ·exact hc.live
   ·exact H'.c.live
   ·exact hS.live (by rw[List.length_map];omega)
  have Hh:aC [] s' (s'.skip 38):=aC.skip hk.ok _;have iu:∀ y,s'.next≤y→s'.heap.get y=none:=hk.ok.fresh;obtain⟨S1,F1,L1,D1,M1⟩:∃ S1,(s'.skip 38).put (s'.next+10) (fun v=>bW.cells (PT.ofList []) [] 0 3 false false v)=S1∧aC [] s' S1∧Cells S1 (s'.next+10) 3 []∧S1.next=s'.next+38 :=
   ⟨_,rfl,Hh.jT (iu _ (by omega)) (by show s'.next+10<s'.next+38;omega) (by omega) (Nat.le_refl _),Cells.kC (L:=[]),rfl⟩
  have A1:bJ S1 3 1 (.slice (some ⟨s'.next+10,0,none⟩) 0 0) []:=.own (L0:=[]) D1 (by simp) (Nat.le_refl _) rfl (fun i hi=>absurd hi (Nat.not_lt_zero _));obtain⟨w,S2,p2,d2,y2,z2,e2,f2,rfl⟩:=iE (X:=X) (t:=62) (e:=3) (N:=1) (B:=8) (z:=.int .i64 0) (x:=AY Q.rows[j]) (k:=16) (new:=row 16 fun i=>int (R.sl (j*16+i))) (by kernel_rfl) (by kernel_rfl) rfl L1.ok (by omega) A1 rfl (Sl.first (((H'.cr j WJ).aD L1 (by simp)).sl (by rw[fY]))) (by rw[fY]) (row_one _ fun i=>R.sl (j*16+i)) (by omega) (by omega);have L2:aC [] s' S2:=L1.step y2 fun y hy=>.inr (by rw[List.mem_singleton.1 (show y∈[s'.next+10] from hy)];exact iu _ (by omega));have y2n:=y2.next;have r_:S2.heap.get (s'.next+28)=none:=by
   refine y2.none ?_ (by omega);rw[← F1,oK (by omega)];exact iu _ (by omega)
  obtain⟨S3,F3,L3,D3,M3⟩:∃ S3,S2.put (s'.next+28) (fun v=>bW.cells (PT.ofList [.slice e2 (0+16) f2]) [] 1 62 false false v)=S3∧aC [] s' S3∧Obj S3 (s'.next+28) [.slice e2 (0+16) f2]∧S3.next=S2.next :=
   ⟨_,rfl,L2.jT r_ (by omega) (by omega) (Nat.le_refl _),Obj.kC rfl,rfl⟩
  obtain⟨w,S4,p4,d4,y4,z4,e4,f4,rfl⟩:=iE (X:=X) (t:=159) (e:=62) (N:=1) (B:=24) (z:=.slice none 0 0) (x:=.slice (some ⟨s'.next+28,0,none⟩) 1 1) (k:=1) (new:=[.slice e2 (0+16) f2]) (by kernel_rfl) (by kernel_rfl) rfl L3.ok (by omega) (hb.aD L3 (by simp)) rfl (lQ (by omega) (D3.bI (i:=0) (k:=1) (Nat.le_refl _))) rfl rfl (by omega) (by omega);have pn:px∉nameOf (.slice va j vc):=fun hh=>(hn px hh).1 rfl;obtain⟨S5,p5,d5,y5⟩:=((hc.aD L3 (by simp)).aD y4 pn).fK y4.ok (i:=0) (v:=.slice e4 (j+1) f4) (by simp) rfl;have nn:s.next≤S3.next:=Nat.le_trans hk.next L3.next;have hpl:px<s'.next:=hc.lt hk.ok;have npp:=L3.next;have zX:∀ y∈nameOf (.slice e4 (j+1) f4),y≠px∧s.next≤y:=fun y hy=>by
   rcases z4 y hy with e | e
   ·exact hn y e
   ·exact⟨by omega,by omega⟩
  have K8:aC [] s S5:=((hk.trans L3).step y4 fun y hy=>.inr (hs.fresh y (hn y hy).2)).step y5 fun y hy=>.inr (by rw[List.mem_singleton.1 hy,mF];exact hs.fresh _ (by omega));have YF:aG s'.look ⟨px,0,none⟩=some (.slice va j vc):=hc.load rfl;have AI:aG S1.look ⟨t,0,none⟩=some (.slice (some ⟨sb,IZ,none⟩) R.m Q.sc):=mI L1 (by simp) l0;have aBg:aG S1.look ⟨sb,IZ+j,none⟩=some (AY Q.rows[j]):=mI L1 (by simp) QQ;refine dG [(9,5),(12,5),(4,13)] [px,t,sb] [] (by kernel_rfl) (by kernel_rfl) (by rfl) fun O hO bC hR=>?_;simp only[jA,seval,r3,YF];rw[F1];refine⟨EX Jh Hh L1,?_⟩;simp only[jA,seval,r0,r4,AI,g1,g2,and_self,bQ,Int.toNat_natCast,Nat.mul_one,aBg];refine vJ ?_ p2 ?_ ?_
  ·simp only[jA,seval]
  ·simp only[jA,seval];exact EX Jh L1 L2
  simp only[jA,seval];rw[F3];refine vJ ?_ p4 ?_ ?_
  ·simp only[jA,seval]
  ·simp only[jA,seval]
  simp only[jA,seval,p5];refine hR _ _ (w1 _ _ ⟨e4,f4,v1,v2,_,?_,?_,?_,d5,d4.aD y5 fun y hy hy'=>(zX y hy).1 (List.mem_singleton.1 hy'),zX,K8⟩)
  ·simp only[jA,seval,r0]
  ·simp only[jA,seval,r3]
  ·simp only[jA,seval,r4]
 ·rintro j a' s' hj ⟨va,vc,v1,v2,Lc,r0,r3,r4,hc,hb,hn,hk⟩ aV w1;have w:IntKind.i64.wrap ((j:Int)+1)=((j+1:Nat):Int):=by rw[aU (by omega) (by omega)];rfl
  simp only[jA,seval,r4,w];refine w1 _ _ ⟨va,vc,v1,v2,Lc,?_,?_,?_,hc,hb,hn,hk⟩
  all_goals try simp only[jA,seval,r0,r3]
 ·rintro a' s' ⟨va,vc,v1,v2,Lc,r0,r3,r4,hc,hb,hn,hk⟩;refine oL _ _ (aP _ _ ?_);simp only[jA,seval,r3];exact hΦ px s' hk
 ·refine⟨none,0,.slice a2 (0+16) c2,.slice a4 (0+R.q.length) c4,[],?_,?_,?_,C5,.nil,(by simp[nameOf]),K5⟩
  all_goals try simp only[jA,seval]
  all_goals rfl
end
open Go.Proofs
set_option maxRecDepth 100000
set_option maxHeartbeats 8000000
theorem fM.fI {s:St} {t u n w b:Nat} {L:Nat→Nat} {f:Nat→bW} (T:fM s t u n w L) (h1:t≠b) (h2:u≠b):fM (s.put b f) t u n w L:=by
 obtain⟨c,⟨U,w1,w2,w3,w4⟩,h3,h4,h5,h6⟩:=T;exact⟨c.fI h1,⟨U,w1.fI h2,w2,w3,w4⟩,h3,h4,h5,h6⟩
theorem bK.fI {s:St} {h b:Nat} {P:PH} {f:Nat→bW} (H:bK s h P) (hF:∀ y∈P.aS h,y≠b):bK (s.put b f) h P:=by
 obtain⟨c,cb,cw,ts,tp,mp,mf,nd,n2,bY,wr⟩:=H;have g:=fun x hx=>hF x hx;simp only[PH.aS,List.mem_cons,List.not_mem_nil,or_false] at g;exact⟨c.fI (g _ (by simp)),cb.fI (g _ (by simp)),cw.fI (g _ (by simp)),ts.fI (g _ (by simp)) (g _ (by simp)),tp.fI (g _ (by simp)) (g _ (by simp)),mp.fI (g _ (by simp)),mf.fI (g _ (by simp)),nd,n2,bY,wr⟩
theorem cV.fI {s:St} {r b:Nat} {R:PR} {f:Nat→bW} (A:cV s r R) (hF:∀ y∈R.aS r,y≠b):cV (s.put b f) r R:=by
 obtain⟨c,cs,cg,cq,nd,nq,m1,m4,ql,bs,bg,bq⟩:=A;unfold PR.aS at hF;exact⟨c.fI (hF _ (by simp)),cs.fI (hF _ (by simp)),cg.fI (hF _ (by simp)),cq.fI (fun hb=>hF b (List.mem_append_right _ hb) rfl),nd,nq,m1,m4,ql,bs,bg,bq⟩
section
variable {kc:Kc} {q:Bool} {s:St} {Φ:Value→St→Prop} {N x h r g t:Nat} {P:PH} {R:PR} {G:dI} {Q:RQ} {R2:PR}
theorem vC:type_of% (B9 @RX @vN @pX @DQ @AK @zT @AL @DS (B6 @LZ @xz @KG @KE @KH @KF)):=B9 @RX @vN @pX @DQ @AK @zT @AL @DS (B6 @LZ @xz @KG @KE @KH @KF)
theorem aAg (hs:Ok s) (M:Mem N s x h r g t P R G Q R2) (hbd:∀ o∈G.L,o.rs.length<1000000∧o.ds.length<1000000)
  (hΦ:∀ y h' nb nw st su pt pu mp mf r' ns ng va vc g' t' s',Obj s' y [ptr h',ptr r',ptr g',ptr t']→bK s' h' (P.by nb nw st su pt pu mp mf)→cV s' r' (R.by ns ng va vc)→(∀ z∈(P.by nb nw st su pt pu mp mf).aS h',s.next≤z∧z∉(R.by ns ng va vc).aS r'∧z≠y)→(∀ z∈(R.by ns ng va vc).aS r',s.next≤z∧z≠y)→s.next≤y→aC [] s s'→Φ (ptr y) s'):okF q X (KO kc) 36 [ptr x] s Φ:=by
 have ks:aC [] s (s.skip 46):=aC.skip hs _;have M0:=M.aJ ks;have lv:∀ b∈[x],∃ o,s.heap.get b=some o∧o.cX=false:=fun b hb=>by rw[List.mem_singleton.1 hb];exact M.c.live
 refine aW Tryz.func36 (by kernel_rfl) rfl rfl (rs:=[.tmp 2]) rfl (N:=39) rfl rfl ?_;refine aA fun bF aF bD=>?_;simp only[vC,seval];refine aF _ _ ?_;refine aA fun Ψ1 aE aL=>?_;refine dG [(8,4),(13,4),(13,9),(18,4),(18,9),(18,14)] [x] [] (by kernel_rfl) (by kernel_rfl) (by rfl) fun O hO bC hR=>?_;simp only[vC,seval,M.l0];refine dL ?_ (I7 ks.ok M0.H fun h' nb nw st su pt pu mp mf s1 H1 f1 k1=>?_)
 ·simp only[vC,seval]
 have oq:=ks.trans k1;have M1:=M0.aJ k1;simp only[vC,seval,M1.l1];refine⟨EX lv ks oq,?_⟩;refine dL ?_ (aF4 k1.ok M1.A fun r' ns ng va vc s2 A2 f2 k2=>?_)
 ·simp only[vC,seval]
 have dD:=oq.trans k2;have M2:=M1.aJ k2;simp only[vC,seval,M2.l2];refine⟨EX lv oq dD,?_⟩;refine dL ?_ (aE6 k2.ok M2.K hbd fun g' s3 k3=>?_)
 ·simp only[vC,seval]
 have fC:=dD.trans k3;have M3:=M2.aJ k3;simp only[vC,seval,M3.l3];refine⟨EX lv dD fC,?_⟩;refine dL ?_ (aFg k3.ok M3.T fun t' s4 k4=>?_)
 ·simp only[vC,seval]
 have kK:=fC.trans k4;have n1:=k1.next;have n2:=k2.next;have n3:=k3.next;have n4:=k4.next;have YZ:(s.skip 46).next=s.next+46:=rfl;obtain⟨px,mF⟩:∃ px,px=s.next+42:=⟨_,rfl⟩;have fr:s4.heap.get px=none:=by
  refine(((k1.trans k2).trans k3).trans k4).none ?_ (by omega);rw[mF];exact hs.fresh _ (by omega)
 obtain⟨T7,E7,K7,C7,N7⟩:∃ T7,s4.put px (fun v=>bW.cells (PT.ofList [ptr h',ptr r',ptr g',ptr t']) [] 4 39 false false v)=T7∧aC [] s T7∧Obj T7 px [ptr h',ptr r',ptr g',ptr t']∧T7.next=s4.next :=
  ⟨_,rfl,kK.jT fr (by omega) (by omega) (Nat.le_refl _),Obj.kC rfl,rfl⟩
 simp only[vC,seval,← mF,E7];refine hR _ _ (aE _ _ ?_);have qg:=H1.eM k1.ok;have Jg:=A2.eM k2.ok;have H7:bK T7 h' (P.by nb nw st su pt pu mp mf):=by
  rw[← E7];exact(((H1.aJ k2).aJ k3).aJ k4).fI fun y hy=>by have:=f1 y hy;omega
 have A7:cV T7 r' (R.by ns ng va vc):=by
  rw[← E7];exact((A2.aJ k3).aJ k4).fI fun y hy=>by have:=f2 y hy;omega
 have l0:aG T7.look ⟨px,0,none⟩=some (ptr h'):=C7.load rfl;have l1:aG T7.look ⟨px,1,none⟩=some (ptr r'):=C7.load rfl;have e0:binop X T7.look .eql 34 (ptr h') (.pointer none)=some (.bool false):=by kernel_rfl
 refine aA fun Ψ2 aI bH=>?_;refine aA fun Ψ3 aN bM=>?_;refine cL [(5,31)] (by kernel_rfl) fun O hO bC hR=>?_;have y5:∀ a,aO O a 5=aY (a.aB 31):=hO (5,31) (by simp);simp only[vC,seval,y5,l0,l1];refine hR _ _ (aN _ _ ?_);simp only[vC,seval];refine aI _ _ ?_;simp only[vC,seval];refine hΦ px h' nb nw st su pt pu mp mf r' ns ng va vc g' t' T7 C7 H7 A7 (fun z hz=>⟨by have:=f1 z hz;omega,fun hz'=>?_,?_⟩) (fun z hz=>?_) (by omega) K7
 ·have:=qg z hz;have:=f2 z hz';omega
 ·have:=f1 z hz;omega
 ·have:=f2 z hz;exact⟨by omega,by omega⟩
end
open Go.Proofs
set_option maxRecDepth 100000
set_option maxHeartbeats 2000000
section
variable {kc:Kc} {q:Bool} {s:St} {Φ:Value→St→Prop}
theorem BD:type_of% (B6 @RX @MA @AD @AM @KI @Km):=B6 @RX @MA @AD @AM @KI @Km
theorem Hr (hs:Ok s) {va vb:Option Addr} {vc wc:Nat} {l:List dC} (hl:l.length<1000000) (B1:Sl s 3 (.slice va l.length vc) (l.flatMap cE)) (B2:Sl s 3 (.slice vb l.length wc) (l.flatMap cE)) (hΦ:∀ s',aC [] s s'→Φ (.bool true) s'):okF q X (KO kc) 19 [.slice va l.length vc,.slice vb l.length wc] s Φ:=by
 refine aW Tryz.func19 (by kernel_rfl) rfl rfl (rs:=[.tmp 4]) rfl (N:=26) rfl rfl ?_;refine aA fun bF aF bD=>?_;simp only[BD,seval];refine aF _ _ ?_;refine aA fun Ψ1 aE aL=>?_;refine aA fun Ψ2 aI bH=>?_;simp only[BD,seval,beq_self_eq_true];refine aI _ _ ?_;simp only[BD,seval];refine aE _ _ ?_;refine aA fun Ψ3 aN bM=>?_;refine aA fun Ψ4 aP cC=>?_;simp only[BD,seval];refine aP _ _ ?_;refine cJ fun cU aZ pU cK=>?_;refine aCh (n:=l.length) 11 [4,5] [] (fun _ _ s'=>aC [] s s') rfl (by omega) (by simp only[EW,↓reduceIte]) (.refl hs) ?_ ?_ ?_
 ·intro j a' s' hj hA h5 hk Ψ w;simp only[BD,seval,Nat.reduceLT,List.contains_cons,List.contains_nil,hA.get,h5];refine w _ _ ?_ ?_ ?_ hk
  all_goals simp only[BD,seval,Nat.reduceLeDiff,List.contains_cons,List.contains_nil,tE,hA,h5,Int.ofNat_lt]
 ·intro j a' s' hj hA h5 hk Ψ w w3;obtain⟨b1,o1,rfl⟩:=B1.addr (by omega);obtain⟨b2,o2,rfl⟩:=B2.addr (by omega);have p1:(0:Int)≤(j:Int):=Int.natCast_nonneg _;have p2:(j:Int)<(l.length:Int):=by omega
  have h3:j*3+3≤(l.flatMap cE).length:=by rw[GI cE 3 vP];omega
  have g1:=(B1.aD hk (by simp)).bI (i:=j*3) (k:=3) (by omega) h3;have g2:=(B2.aD hk (by simp)).bI (i:=j*3) (k:=3) (by omega) h3;rw[Ch l hj] at g1 g2;unfold cE at g1 g2;refine aA fun dN bO cZ=>?_;refine dG [] [] [] (by kernel_rfl) (by kernel_rfl) (by rfl) fun O hO bC hR=>?_;simp only[BD,seval,Nat.reduceLT,List.contains_cons,List.contains_nil,hA.get,h5,p1,p2,and_self,bQ,Int.toNat_natCast,g1,g2,beq_self_eq_true,Bool.and_self];refine hR _ _ (bO _ _ ?_);simp only[BD,seval];refine(w _ _ ?_ ?_ (hk.kI _)).1
  all_goals simp only[BD,seval,Nat.reduceLeDiff,List.contains_cons,List.contains_nil,tE,hA,h5]
 ·intro a' s' hA hk;refine pU _ _ (aN _ _ ?_);simp only[BD,seval];exact hΦ s' hk
theorem aAr (hs:Ok s) {va vb:Option Addr} {vc wc:Nat} (f:dC) (B1:Sl s 3 (.slice va 1 vc) (cE f)) (B2:Sl s 3 (.slice vb 1 wc) (cE f)) (hΦ:∀ s',aC [] s s'→Φ (.bool true) s'):okF q X (KO kc) 19 [.slice va 1 vc,.slice vb 1 wc] s Φ :=
 Hr (l:=[f]) hs (by simp) (by simpa using B1) (by simpa using B2) hΦ
end
open Go.Proofs
set_option maxRecDepth 100000
set_option maxHeartbeats 8000000
section
variable {kc:Kc} {q:Bool} {s:St} {Φ:Value→St→Prop}
theorem JH:type_of% (B2 @RX @gL):=B2 @RX @gL
theorem aE7 (hs:Ok s) (r d k:Int) (i:Nat) (hΦ:∀ s',aC [] s s'→Φ (.bool (PH.soft k i)) s'):okF q X (KO kc) 42 [.agg #[int r,int d,int k],int i] s Φ:=by
 refine aW Tryz.func42 (by kernel_rfl) rfl rfl (rs:=[.tmp 4]) rfl (N:=9) rfl rfl ?_;obtain⟨s1,e1,k1,c1,n1⟩:=cI hs (L:=[int r,int d,int k]) (n:=3) (e:=44) rfl;have lk:=c1.bI (i:=0) (k:=3) (Nat.le_refl _);refine aA fun bF aF bD=>?_;simp only[JH,seval];rw[e1];refine aF _ _ ?_;refine aA fun Ψ1 aE aL=>?_;simp only[JH,seval,lk,List.drop_zero,List.take];refine aH ?_ (Mx k1.ok r d k i fun s2 k2=>?_)
 ·simp only[JH,seval]
 have:=hΦ _ (k1.trans k2);cases hh:PH.soft k i with
 | false =>
  rw[hh] at this
  try simp only[JH,seval]
  refine aE _ _ ?_;simp only[JH,seval];exact this
 | true =>
  rw[hh] at this
  try simp only[JH,seval]
  refine aE _ _ ?_;simp only[JH,seval];exact this
end
open Go.Proofs
set_option maxRecDepth 100000
set_option maxHeartbeats 4000000
theorem Wh (Y:Env) (H:bL) (t:TypeId) (x y:Int):binop Y H .rem t (.int .u8 x) (.int .u8 y)=if y=0 then none else some (.int .u8 (x.tmod y)):=rfl
theorem DH (Y:Env) (H:bL) (t:TypeId) (x y:Int):binop Y H .eql t (.int .u8 x) (.int .u8 y)=some (.bool (x==y)):=rfl
theorem fk:((4:Nat):Int)=4:=rfl
theorem SS {r d k:Int} (h:0≤r∧r≤15∧0≤d∧d≤200∧0≤k∧k≤3∧(k=1→1≤r)∧(k=2→2≤r)):cO.valid ⟨r,d,k⟩=true:=cO.nX.2 h
abbrev u8 (n:Nat):Value:=.int .u8 n
section
variable {kc:Kc} {q:Bool} {s:St} {Φ:Value→St→Prop}
theorem jY:type_of% (B9 @RX @mB @XG @XX @KC @TW @lE @kJ (B5 @bG @pP @lD @mD @gL)):=B9 @RX @mB @XG @XX @KC @TW @lE @kJ (B5 @bG @pP @lD @mD @gL)
theorem aAo (hs:Ok s) {x0 x1 x2 x3:Nat} (h0:x0<256) (h1:x1<256) (h2:x2<256) (hΦ:∀ (x:cO) s',x.valid=true→aC [] s s'→Φ (pK x) s'):okF q X (KO kc) 55 [.agg #[u8 x0,u8 x1,u8 x2,u8 x3]] s Φ:=by
 refine aW Tryz.func55 (by kernel_rfl) rfl rfl (rs:=[.cell 2 44]) rfl (N:=44) rfl rfl ?_;refine aA fun bF aF bD=>?_;simp only[jY,seval];obtain⟨s1,e1,k1,c1,n1⟩:=cI hs (L:=[u8 x0,u8 x1,u8 x2,u8 x3]) (n:=4) (e:=105) rfl;rw[e1];obtain⟨s2,e2,k2,c2,n2⟩:=cI k1.ok (L:=[int 0,int 0,int 0]) (n:=3) (e:=44) rfl
 try simp only[jY,seval]
 rw[e2];refine aF _ _ ?_;have b1:=c1.aD k2 (by simp);have l0:aG s2.look ⟨s.next,0,none⟩=some (u8 x0):=b1.load rfl;have l1:aG s2.look ⟨s.next,1,none⟩=some (u8 x1):=b1.load rfl;have l2:aG s2.look ⟨s.next,2,none⟩=some (u8 x2):=b1.load rfl;have w:∀ n:Nat,n<256→IntKind.wrap .i64 (n:Int)=(n:Int):=fun n h=>aU (by omega) (by omega);have tm:∀ (n:Nat) (k:Nat),((n:Int)).tmod (k:Int)=((n%k:Nat):Int):=fun n k=>rfl;have t5:(x1:Int).tmod 5=((x1%5:Nat):Int):=rfl;have t6:(x2:Int).tmod 6=((x2%6:Nat):Int):=rfl;have t8:(x0:Int).tmod 8=((x0%8:Nat):Int):=rfl;obtain⟨s3,e3,k3,c3,n3⟩:=cI k2.ok (L:=[int 0,int 0,int 0]) (n:=3) (e:=44) rfl;obtain⟨s4,e4,c4,k4⟩:=c3.storeAll k3.ok (vs:=[int ((x1%5:Nat)),int ((x2%6:Nat)),int 0]) rfl rfl;have lV:aC [] s2 s4:=k3.step k4 fun y hy=>.inr (by rw[List.mem_singleton.1 hy];exact k2.ok.fresh _ (Nat.le_refl _));have b4:=b1.aD lV (by simp);have d4:=c2.aD lV (by simp);have m0:aG s4.look ⟨s.next,0,none⟩=some (u8 x0):=b4.load rfl;have m2:aG s4.look ⟨s.next,2,none⟩=some (u8 x2):=b4.load rfl;refine aA fun Ψ1 aE aL=>?_;simp only[jY,seval,l1,l2,fk,Int.reduceLE,Int.reduceLT,Int.reduceToNat,and_self,bQ,Nat.zero_add,w x1 h1,w x2 h2,t5,t6];rw[e3];simp only[jY,seval,e4];refine aE _ _ ?_;refine aA fun Ψ2 aI bH=>?_;refine aA fun Ψ3 aN bM=>?_;simp only[jY,seval,m0,fk,Int.reduceLE,Int.reduceLT,Int.reduceToNat,and_self,bQ,Nat.zero_add,Wh,t8];have kK:aC [] s s4:=(k1.trans k2).trans lV;have fin:∀ (a':aK) (s':St) (y:cO),y.valid=true→a'.aB 2=ptr s1.next→a'.aB 3=ptr s2.next→Obj s' s2.next [int y.r,int y.d,int y.k]→aC [s2.next] s4 s'→Ψ2 .normal a' s':=by
  intro a' s' y hy r2 r3 ho hk;refine aI _ _ ?_;have lo:=ho.bI (i:=0) (k:=3) (Nat.le_refl _);have hn:s1.next∉[s2.next]:=by simp;omega
  obtain⟨s6,e6,c6,k6⟩:=(d4.aD hk hn).storeAll hk.ok (vs:=[int y.r,int y.d,int y.k]) rfl rfl;have l6:=c6.bI (i:=0) (k:=3) (Nat.le_refl _);refine aA fun FR nQ zZ=>?_;simp only[jY,seval,r2,r3,lo,List.drop_zero,List.take,e6];refine nQ _ _ ?_;simp only[jY,seval,r2,l6,List.drop_zero,List.take];refine hΦ y s6 hy ((kK.step hk fun z hz=>.inr ?_).step k6 fun z hz=>.inr ?_)
  ·rw[List.mem_singleton.1 hz];exact hs.fresh _ (by omega)
  ·rw[List.mem_singleton.1 hz];exact hs.fresh _ (by omega)
 have m3:aG s4.look ⟨s2.next,0,none⟩=some (int ((x1%5:Nat))):=c4.load rfl;have u3:(((x1%5:Nat)):Int).tmod 3=((x1%5%3:Nat):Int):=rfl;refine aN _ _ ?_;refine cJ fun Ψ4 aP xS cC=>?_;refine aA fun cU aZ cK=>?_;by_cases h4:x0%8=4
 ·have e:((((x0%8:Nat)):Int)==4)=true:=by rw[beq_iff_eq];omega
  obtain⟨s5,e5,c5,k5⟩:=c4.fK k4.ok (i:=2) (v:=int 1) (by simp) rfl;obtain⟨s6,e6,c6,k6⟩:=c5.fK k5.ok (i:=0) (v:=int ((1+x1%5%3:Nat))) (by simp) rfl;have m5:aG s5.look ⟨s2.next,0,none⟩=some (int ((x1%5:Nat))):=c5.load rfl;have ww:IntKind.wrap .i64 (1+((x1%5%3:Nat):Int))=((1+x1%5%3:Nat):Int):=by rw[aU (by omega) (by omega)];rfl
  simp only[jY,seval,DH,e];refine aZ _ _ ?_;simp only[jY,seval,m3,u3,ww,e5,e6];refine aP _ _ (fin _ s6 ⟨((1+x1%5%3:Nat)),((x2%6:Nat)),1⟩ (SS (by omega)) ?_ ?_ c6 (k5.trans k6))
  ·simp only[jY,seval]
  ·simp only[jY,seval]
 have Yz:((((x0%8:Nat)):Int)==4)=false:=by rw[beq_eq_false_iff_ne];omega
 simp only[jY,seval,DH,Yz];refine aZ _ _ ?_;simp only[dA,RV,RG,seval];refine aA fun dN bO cZ=>?_;by_cases h5:x0%8=5
 ·have e:((((x0%8:Nat)):Int)==5)=true:=by rw[beq_iff_eq];omega
  obtain⟨s5,e5,c5,k5⟩:=c4.fK k4.ok (i:=2) (v:=int 2) (by simp) rfl;obtain⟨s6,e6,c6,k6⟩:=c5.fK k5.ok (i:=0) (v:=int ((2+x1%5%3:Nat))) (by simp) rfl;have ww:IntKind.wrap .i64 (2+((x1%5%3:Nat):Int))=((2+x1%5%3:Nat):Int):=by rw[aU (by omega) (by omega)];rfl
  simp only[jY,seval,DH,e];refine bO _ _ ?_;simp only[jY,seval,m3,u3,ww,e5,e6];refine aP _ _ (fin _ s6 ⟨((2+x1%5%3:Nat)),((x2%6:Nat)),2⟩ (SS (by omega)) ?_ ?_ c6 (k5.trans k6))
  ·simp only[jY,seval]
  ·simp only[jY,seval]
 have Za:((((x0%8:Nat)):Int)==5)=false:=by rw[beq_eq_false_iff_ne];omega
 simp only[jY,seval,DH,Za];refine bO _ _ ?_;simp only[dA,RV,RG,seval];refine aA fun fE cG dX=>?_;by_cases h6:x0%8=6
 ·have e:((((x0%8:Nat)):Int)==6)=true:=by rw[beq_iff_eq];omega
  obtain⟨s5,e5,c5,k5⟩:=c4.fK k4.ok (i:=2) (v:=int 3) (by simp) rfl;simp only[jY,seval,DH,e];refine cG _ _ ?_;simp only[jY,seval,e5];refine aP _ _ (fin _ s5 ⟨((x1%5:Nat)),((x2%6:Nat)),3⟩ (SS (by omega)) ?_ ?_ c5 k5)
  ·simp only[jY,seval]
  ·simp only[jY,seval]
 have Zb:((((x0%8:Nat)):Int)==6)=false:=by rw[beq_eq_false_iff_ne];omega
 simp only[jY,seval,DH,Zb];refine cG _ _ ?_;simp only[dA,RV,RG,seval];refine aA fun gV cT gA=>?_;by_cases h7:x0%8=7
 ·have e:((((x0%8:Nat)):Int)==7)=true:=by rw[beq_iff_eq];omega
  have v3:(x2:Int).tmod 100=((x2%100:Nat):Int):=rfl;have ww:IntKind.wrap .i64 (32+((x2%100:Nat):Int))=((32+x2%100:Nat):Int):=by rw[aU (by omega) (by omega)];rfl
  obtain⟨s5,e5,c5,k5⟩:=c4.fK k4.ok (i:=1) (v:=int ((32+x2%100:Nat))) (by simp) rfl;simp only[jY,seval,DH,e];refine cT _ _ ?_;simp only[jY,seval,m2,fk,Int.reduceLE,Int.reduceLT,Int.reduceToNat,and_self,bQ,Nat.zero_add,w x2 h2,v3,ww,e5];refine aP _ _ (fin _ s5 ⟨((x1%5:Nat)),((32+x2%100:Nat)),0⟩ (SS (by omega)) ?_ ?_ c5 k5)
  ·simp only[jY,seval]
  ·simp only[jY,seval]
 have Zc:((((x0%8:Nat)):Int)==7)=false:=by rw[beq_eq_false_iff_ne];omega
 simp only[jY,seval,DH,Zc];refine cT _ _ ?_;simp only[jY,seval];refine aP _ _ (fin _ s4 ⟨((x1%5:Nat)),((x2%6:Nat)),0⟩ (SS (by omega)) ?_ ?_ c4 (.refl k4.ok))
 ·simp only[jY,seval]
 ·simp only[jY,seval]
end
open Go.Proofs
set_option maxRecDepth 100000
set_option maxHeartbeats 4000000
section
variable {kc:Kc} {q:Bool} {s:St} {Φ:Value→St→Prop} {g:Nat} {P:PH} {G:dI}
theorem Cv {L:List cS} (hl:L.length=G.L.length) (h:∀ o∈L,∃ o'∈G.L,o.rn=o'.rn∧o.dn=o'.dn):∀ y∈({G with L:=L}:dI).aS g,y∈G.aS g:=by
 intro y hy;rcases List.mem_append.1 hy with hy | hy
 ·refine List.mem_append_left _ ?_;unfold dI.own at hy ⊢;simp only[List.mem_cons] at hy ⊢;rcases hy with g | g | g
  ·exact .inl g
  ·exact .inr (.inl g)
  ·obtain⟨o,ho,hm⟩:=List.mem_flatMap.1 g;obtain⟨o',ho',e1,e2⟩:=h o ho;refine .inr (.inr (List.mem_flatMap.2 ⟨o',ho',?_⟩));rw[← e1,← e2];exact hm
 ·refine List.mem_append_right _ ?_;simp only[hl] at hy;exact hy
theorem aEo (hs:Ok s) (H:cM s g G) (S:iW P G) (I:P.Inv) (a i to:Int) (hΦ:∀ G' F s',cM s' g G'→iW (P.setRef a i to) G'→(∀ y∈F,y∈G.aS g)→(∀ y∈G'.aS g,y∈G.aS g∨s.next≤y)→aC F s s'→Φ (int (P.iN a i to)) s'):okF q X (KO kc) 148 [ptr g,int a,int i,int to] s Φ:=by
 refine aEn hs H S.L I a i to (fun he L n s' H' S' hl hn hm k=>?_) (fun he=>?_)
 ·have hP:(P.setRef a i to).N=P.N∧(P.setRef a i to).bs=P.bs∧(P.setRef a i to).bp=P.bp∧(P.setRef a i to).born=P.born:=by
   unfold PH.setRef;rw[if_pos he];exact⟨rfl,rfl,rfl,rfl⟩
  have:=hΦ _ [n] s' H' ⟨S.N.trans hP.1.symm,S.bs.trans hP.2.1.symm,S.bp.trans hP.2.2.1.symm,S.born.trans hP.2.2.2.symm,S'⟩ (fun y hy=>by rw[List.mem_singleton.1 hy];exact List.mem_append_left _ hm) (fun y hy=>.inl (Cv hl hn y hy)) k;rw[he] at this;exact this
 ·have e:P.setRef a i to=P:=by unfold PH.setRef;rw[if_neg he]
  exact hΦ G [] s H (by rw[e];exact S) (fun y hy=>by cases hy) (fun y hy=>.inl hy) (.refl hs)
theorem aEd (hs:Ok s) (H:cM s g G) (S:iW P G) (I:P.Inv) (a:Int) (hΦ:∀ G' F s',cM s' g G'→iW (if P.has a=true then P.kill a else P) G'→(∀ y∈F,y∈G.aS g)→(∀ y∈G'.aS g,y∈G.aS g∨s.next≤y)→aC F s s'→Φ (int (if P.has a=true then 0 else 4)) s'):okF q X (KO kc) 56 [ptr g,int a] s Φ:=by
 refine aEc hs H S.L I a (fun hh va vc L s' H' S' k hv hL=>?_) (fun hh=>?_)
 ·have:=hΦ _ [g] s' H' (by rw[if_pos hh];exact⟨S.N,S.bs,S.bp,S.born,S'⟩) (fun y hy=>by rw[List.mem_singleton.1 hy];exact List.mem_append_left _ (List.mem_cons_self ..)) (fun y hy=>?_) k
  ·rw[if_pos hh] at this;exact this
  ·rcases List.mem_append.1 hy with hy | hy
   ·left;refine List.mem_append_left _ ?_;unfold dI.own at hy ⊢;simp only[List.mem_cons] at hy ⊢;rcases hy with g | g | g
    ·exact .inl g
    ·exact .inr (.inl g)
    ·obtain⟨o,ho,hm⟩:=List.mem_flatMap.1 g;exact .inr (.inr (List.mem_flatMap.2 ⟨o,hL o ho,hm⟩))
   ·exact .inr (hv y hy)
 ·have:=hΦ G [] s H (by rw[if_neg (by rw[hh];simp)];exact S) (fun y hy=>by cases hy) (fun y hy=>.inl hy) (.refl hs);rw[if_neg (by rw[hh];simp)] at this;exact this
theorem aEj (hs:Ok s) (H:cM s g G) (S:iW P G) (I:P.Inv) (a:Int) (hΦ:∀ G' F s',cM s' g G'→iW (P.fD a 1) G'→(∀ y∈F,y∈G.aS g)→(∀ y∈G'.aS g,y∈G.aS g∨s.next≤y)→aC F s s'→Φ (int (if P.has a=true then 0 else 4)) s'):okF q X (KO kc) 60 [ptr g,int a] s Φ:=by
 refine aEi hs H S.L I a (fun hh L s' H' S' hl hn k=>?_) (fun hh=>?_)
 ·have hP:(P.fD a 1).N=P.N∧(P.fD a 1).bs=P.bs∧(P.fD a 1).bp=P.bp∧(P.fD a 1).born=P.born:=by
   unfold PH.fD;rw[if_pos hh];exact⟨rfl,rfl,rfl,rfl⟩
  have:=hΦ _ _ s' H' ⟨S.N.trans hP.1.symm,S.bs.trans hP.2.1.symm,S.bp.trans hP.2.2.1.symm,S.born.trans hP.2.2.2.symm,S'⟩ (fun y hy=>List.mem_append_right _ hy) (fun y hy=>.inl (Cv hl hn y hy)) k;rw[if_pos hh] at this;exact this
 ·have e:P.fD a 1=P:=by unfold PH.fD;rw[if_neg (by rw[hh];simp)]
  have:=hΦ G [] s H (by rw[e];exact S) (fun y hy=>by cases hy) (fun y hy=>.inl hy) (.refl hs);rw[if_neg (by rw[hh];simp)] at this;exact this
end
end Go.Dust
namespace Go.Dust
open Go.Proofs
set_option maxRecDepth 100000
set_option maxHeartbeats 4000000
structure PR.nY (P:PH) (R:PR):Prop where
 sl:∀ i,R.sl i=0∨P.has (R.sl i)=true
 gl:∀ i,R.gl i=0∨P.has (R.gl i)=true
 q:∀ x∈R.q,P.has x=true
theorem PR.nY.led {P:PH} {R:PR} (h:PR.nY P R):P.Vb R:=by
 refine⟨fun p hp=>?_,h.q⟩;have hh:=R.FY hp;have hne:R.get p≠0:=by
  unfold PR.all PR.upto PR.part at hp;obtain⟨k,_,hp⟩:=List.mem_flatMap.1 hp;obtain⟨i,_,hp⟩:=List.mem_flatMap.1 hp;unfold PR.one at hp;split at hp
  ·cases hp
  ·rename_i hn;rw[List.mem_singleton.1 hp];exact hn
 unfold PR.get at hne ⊢;split
 ·rename_i h0;rw[if_pos h0] at hne;exact(h.sl _).resolve_left hne
 ·rename_i h0;rw[if_neg h0] at hne;split
  ·rename_i h1;rw[if_pos h1] at hne;exact(h.gl _).resolve_left hne
  ·rename_i h1;rw[if_neg h1] at hne;unfold PR.has at hh;rw[if_neg (fun h=>h0 h.1),if_neg (fun h=>h1 h.1)] at hh;split at hh
   ·have:=of_decide_eq_true hh;rw[List.getD_eq_getElem?_getD,List.getElem?_eq_getElem (show p.i.toNat<R.q.length by omega)];exact h.q _ (List.getElem_mem _)
   ·cases hh
theorem PR.nY.set {P:PH} {R:PR} (h:PR.nY P R) {p:eJ} {v:Int} (hv:v=0∨P.has v=true) (h2:¬ (v=0∧p.k=2)) (hp:R.has p=true):PR.nY P (R.set p v):=by
 unfold PR.set;split
 ·refine⟨fun i=>?_,h.gl,h.q⟩;show dM R.sl _ v i=0∨P.has (dM R.sl _ v i)=true;unfold dM;split
  ·exact hv
  ·exact h.sl i
 ·rename_i h0;split
  ·refine⟨h.sl,fun i=>?_,h.q⟩;show dM R.gl _ v i=0∨P.has (dM R.gl _ v i)=true;unfold dM;split
   ·exact hv
   ·exact h.gl i
  ·rename_i h1;have hk:p.k=2:=by
    unfold PR.has at hp;rw[if_neg (fun h=>h0 h.1),if_neg (fun h=>h1 h.1)] at hp;split at hp
    ·rename_i h;exact h.1
    ·cases hp
   refine⟨h.sl,h.gl,fun x hx=>?_⟩;rcases List.mem_or_eq_of_mem_set hx with g | g
   ·exact h.q x g
   ·rw[g];exact hv.resolve_left fun e=>h2 ⟨e,hk⟩
theorem PR.nY.push {P:PH} {R:PR} (h:PR.nY P R) {v:Int} (hv:v=0∨P.has v=true):PR.nY P {R with q:=R.AQ v}:=by
 refine⟨h.sl,h.gl,fun x hx=>?_⟩;have hx:x∈R.AQ v:=hx;unfold PR.AQ at hx;split at hx
 ·rename_i he;rcases List.mem_append.1 hx with g | g
  ·exact h.q x g
  ·rw[List.mem_singleton.1 g];refine hv.resolve_left fun e=>?_;unfold PR.MQ at he;rw[if_pos (by omega)] at he;cases he
 ·exact h.q x hx
theorem PR.nY.congr {P:PH} {R R':PR} (h:PR.nY P R) (h1:R'.sl=R.sl) (h2:R'.gl=R.gl) (h3:R'.q=R.q):PR.nY P R':=⟨by rw[h1];exact h.sl,by rw[h2];exact h.gl,by rw[h3];exact h.q⟩
section
variable {kc:Kc} {q:Bool} {s:St} {Φ:Value→St→Prop} {N x h r g t:Nat} {P:PH} {R:PR} {G:dI} {Q:RQ} {R2:PR}
theorem BC:type_of% (B9 @RX @zT @AL @kX @lA @wC @nS @vM @bG):=B9 @RX @zT @AL @kX @lA @wC @nS @vM @bG
theorem QK (hs:Ok s) (M:Mem N s x h r g t P R G Q R2) (S:iW P G) (I:P.Inv) {n:Nat} (hn:n<100) (hΦ:∀ a s',(a=0∨P.has a=true)→i64 a→aC [] s s'→Φ (int a) s'):okF q X (KO kc) 12 [ptr x,int n] s Φ:=by
 have hlen:=M.K.len;have e1:((n:Int)==-77)=false:=by rw[beq_eq_false_iff_ne];omega
 have e2:¬ ((n:Int)≥1000):=by omega
 have e3:¬ ((n:Int)<0):=by omega
 have e4:¬ ((n:Int)≥100):=by omega
 refine aW Tryz.func12 (by kernel_rfl) rfl rfl (rs:=[.tmp 4]) rfl (N:=53) rfl rfl ?_;refine aA fun bF aF bD=>?_;simp only[BC,seval];refine aF _ _ ?_;refine aA fun Ψ1 aE aL=>?_;refine cJ fun Ψ2 aI xQ bH=>?_;refine aA fun Ψ3 aN bM=>?_;simp only[BC,seval,e1];refine aN _ _ ?_;simp only[dA,RV,RG,seval];refine aA fun Ψ4 aP cC=>?_;simp only[BC,seval,e2,decide_false];refine aP _ _ ?_;simp only[dA,RV,RG,seval];refine aA fun cU aZ cK=>?_;refine cL [(2,18)] (by kernel_rfl) fun O hO bC hR=>?_;have y2:∀ a,aO O a 2=aY (a.aB 18):=hO (2,18) (by simp);simp only[BC,seval,y2,e3,e4,decide_false];refine hR _ _ (aZ _ _ ?_);simp only[dA,RV,RG,seval];refine aA fun dN bO cZ=>?_;simp only[BC,seval,M.l2,M.K.l1];refine bO _ _ ?_;by_cases h0:G.L.length=0
 ·have e5:(((G.L.length:Nat):Int)==0)=true:=by rw[h0];rfl
  simp only[BC,seval,e5];refine bH _ _ _ (by simp) (by simp) (aL _ _ _ (by simp) ?_);simp only[BC,seval];exact hΦ 0 s (.inl rfl) ⟨by omega,by omega⟩ (.refl hs)
 ·have e5:(((G.L.length:Nat):Int)==0)=false:=by rw[beq_eq_false_iff_ne];omega
  simp only[BC,seval,e5];refine aI _ _ (aE _ _ ?_);refine aA fun fE cG dX=>?_;refine dG [] [] [] (by kernel_rfl) (by kernel_rfl) (by rfl) fun O hO bC hR=>?_;obtain⟨vb,dW,hv⟩:=M.K.addr (show 0<G.L.length by omega);have l1:=M.K.l1;rw[hv] at l1;have hi:n%G.L.length<G.L.length:=Nat.mod_lt _ (by omega);have tm:((n:Nat):Int).tmod ((G.L.length:Nat):Int)=((n%G.L.length:Nat):Int):=rfl;have p1:(0:Int)≤((n%G.L.length:Nat):Int):=Int.natCast_nonneg _;have p2:((n%G.L.length:Nat):Int)<((G.L.length:Nat):Int):=by omega
  have hz:¬ (((G.L.length:Nat):Int)=0):=by omega
  have lj:aG s.look ⟨vb,dW+n%G.L.length*8,none⟩=some (int G.L[n%G.L.length].a):=M.K.lo hv hi (j:=0) rfl;simp only[BC,seval,M.l2,l1,tm,hz,p1,p2,and_self,bQ,Int.toNat_natCast,lj];refine hR _ _ (cG _ _ ?_);simp only[BC,seval];have hh:=S.L.has (List.getElem_mem hi);have hsz:=PH.size_pos I.bX hh;have bY:=I.bY;exact hΦ _ _ (.inr hh) ⟨by omega,by omega⟩ (.skip hs _)
theorem sX:type_of% (B8 @RX @tG @DS @LZ @TQ @tY @JW @kL):=B8 @RX @tG @DS @LZ @TQ @tY @JW @kL
theorem aAq (hs:Ok s) (M:Mem N s x h r g t P R G Q R2) {n:Nat} (hn:n<256) (hΦ:∀ p s',aC [] s s'→Φ (wG p) s'):okF q X (KO kc) 149 [ptr x,int n] s Φ:=by
 have m1:=M.T.m1;have m4:=M.T.m4;refine aW Tryz.func149 (by kernel_rfl) rfl rfl (rs:=[.cell 4 118]) rfl (N:=31) rfl rfl ?_;refine aA fun bF aF bD=>?_;simp only[sX,seval];obtain⟨s1,e1,k1,c1,n1⟩:=cI hs (L:=[int 0,int 0,int 0]) (n:=3) (e:=118) rfl;rw[e1];refine aF _ _ ?_;have M1:=M.aJ k1;have vS:max (n:Int) 0=(n:Int):=by omega
 have tm:(n:Int).tmod 40=((n%40:Nat):Int):=rfl;have fin:∀ (s':St) (p:eJ),aC [] s1 s'→∃ s2,dS s' ⟨s.next,0,none⟩ [int p.k,int p.m,int p.i]=some s2∧bI s2.look ⟨s.next,0,none⟩ 3=some [int p.k,int p.m,int p.i]∧aC [] s s2:=fun s' p k=>by
  obtain⟨s2,e2,c2,k2⟩:=(c1.aD k (by simp)).storeAll k.ok (vs:=[int p.k,int p.m,int p.i]) rfl rfl;exact⟨s2,e2,c2.bI (i:=0) (k:=3) (Nat.le_refl _),(k1.trans k).step k2 fun y hy=>.inr (by rw[List.mem_singleton.1 hy];exact hs.fresh _ (Nat.le_refl _))⟩
 refine aA fun Ψ1 aE aL=>?_;simp only[sX,seval,vS,tm];refine aE _ _ ?_;refine aA fun Ψ2 aI bH=>?_;refine cJ fun Ψ3 aN pF bM=>?_;refine aA fun Ψ4 aP cC=>?_;by_cases g1:n%40<24
 ·have g1':((n%40:Nat):Int)<24:=by omega
  simp only[sX,seval,g1',decide_true];refine aP _ _ ?_;simp only[dA,RV,RG,seval];refine aA fun cU aZ cK=>?_;simp only[sX,seval,M1.l3];refine aH ?_ (aFj M1.T ?_)
  ·simp only[sX,seval]
  have ud:((n%40:Nat):Int).tmod ((R2.m:Nat):Int)=((n%40%R2.m:Nat):Int):=rfl;have tq:IntKind.i64.wrap (((n%40:Nat):Int).tdiv 4)=((n%40/4:Nat):Int):=by
   rw[show ((n%40:Nat):Int).tdiv 4=((n%40/4:Nat):Int) from rfl,aU (by omega) (by omega)]
  have hz:¬ (((R2.m:Nat):Int)=0):=by omega
  obtain⟨s2,e2,l2,k2⟩:=fin s1 ⟨0,((n%40%R2.m:Nat)),((n%40/4:Nat))⟩ (.refl k1.ok);simp only[sX,seval,ud,tq,hz,e2];refine aZ _ _ ?_;simp only[sX,seval];refine bM _ _ _ (by simp) (by simp) (bH _ _ _ (by simp) ?_);simp only[sX,seval,l2];exact hΦ ⟨0,_,_⟩ s2 k2
 have g1':¬ ((n%40:Nat):Int)<24:=by omega
 simp only[sX,seval,g1',decide_false];refine aP _ _ ?_;simp only[dA,RV,RG,seval];refine aA fun cU aZ cK=>?_;by_cases g2:n%40<36
 ·have qI:((n%40:Nat):Int)<36:=by omega
  have ww:IntKind.i64.wrap (((n%40:Nat):Int)-24)=((n%40:Nat):Int)-24:=aU (by omega) (by omega);obtain⟨s2,e2,l2,k2⟩:=fin s1 ⟨1,0,((n%40:Nat):Int)-24⟩ (.refl k1.ok);simp only[sX,seval,qI,decide_true];refine aZ _ _ ?_;simp only[sX,seval,ww,e2];refine bM _ _ _ (by simp) (by simp) (bH _ _ _ (by simp) ?_);simp only[sX,seval,l2];exact hΦ ⟨1,_,_⟩ s2 k2
 have qI:¬ ((n%40:Nat):Int)<36:=by omega
 simp only[sX,seval,qI,decide_false];refine aZ _ _ ?_;simp only[sX,seval];refine aN _ _ (aI _ _ ?_);have ww:IntKind.i64.wrap (((n%40:Nat):Int)-36)=((n%40:Nat):Int)-36:=aU (by omega) (by omega);obtain⟨s2,e2,l2,k2⟩:=fin s1 ⟨2,0,((n%40:Nat):Int)-36⟩ (.refl k1.ok);simp only[sX,seval,ww,e2,l2];exact hΦ ⟨2,_,_⟩ s2 k2
theorem JI:type_of% (B5 @RX @zT @AL @vN @pX):=B5 @RX @zT @AL @vN @pX
theorem aAi (hs:Ok s) (M:Mem N s x h r g t P R G Q R2) (S:iW P G) (I:P.Inv) {a i to:Int} (ha:i64 a) (ht:i64 to) (hΦ:∀ G' s',Mem N s' x h r g t (P.setRef a i to) R G' Q R2→iW (P.setRef a i to) G'→fN N s s'→Φ (.bool true) s'):okF q X (KO kc) 58 [ptr x,int a,int i,int to] s Φ:=by
 have ks:aC [] s (s.skip 36):=aC.skip hs _;have M':=M.aJ ks;refine aW Tryz.func58 (by kernel_rfl) rfl rfl (rs:=[.tmp 8]) rfl (N:=26) rfl rfl ?_;refine aA fun bF aF bD=>?_;simp only[JI,seval];refine aF _ _ ?_;refine aA fun Ψ1 aE aL=>?_;refine dG [(11,7)] [x] [] (by kernel_rfl) (by kernel_rfl) (by rfl) fun O hO bC hR=>?_;simp only[JI,seval,M.l2];refine dL ?_ (aEo ks.ok M'.K S I a i to fun G1 F s1 H1 S1 hF hf k1=>?_)
 ·simp only[JI,seval]
 have M1:=M'.SC ks.ok k1 hF H1 hf;have Gc:x∉F:=fun h=>M.xG x (List.mem_singleton.2 rfl) (hF x h);have fZ:fJ (s.skip 36) s1 x=true:=M'.c.same ks.ok k1 Gc;simp only[JI,seval,M1.l0];refine⟨eP fZ fO,?_⟩;refine dL ?_ (jv k1.ok M1.H I.bX a i to ha ht fun s2 H2 k2=>?_)
 ·simp only[JI,seval]
 simp only[JI,seval,beq_self_eq_true];have hfo:=(P.ax a i to).2.2 h;have uL:P.nw∈P.aS h:=by simp[PH.aS]
 refine hR _ _ (aE _ _ ?_);simp only[JI,seval];exact hΦ G1 s2 (M1.MZ k1.ok k2 (fun y hy=>by rw[List.mem_singleton.1 hy];exact uL) H2 hfo.1) S1 (((fN.iL ks).trans (.of k1 fun y hy=>M.lG y (hF y hy))).trans (.of k2 fun y hy=>M.lP y (by rw[List.mem_singleton.1 hy];exact uL)))
theorem kU:type_of% (B9 @RX @tG @tY @rJ @bG @vL @DS @LZ (B4 @dV @DQ @AK @kL)):=B9 @RX @tG @tY @rJ @bG @vL @DS @LZ (B4 @dV @DQ @AK @kL)
theorem aAn (hs:Ok s) (M:Mem N s x h r g t P R G Q R) {n:Nat} (hn:n<256) {a:Int} (ha:i64 a) (hp:a=0∨P.has a=true) (hΦ:∀ R' Q' s',Mem N s' x h r g t P R' G Q' R'→(PR.nY P R→PR.nY P R')→R'.m=R.m→fN N s s'→Φ (.bool true) s'):okF q X (KO kc) 59 [ptr x,int n,int a] s Φ:=by
 refine aW Tryz.func59 (by kernel_rfl) rfl rfl (rs:=[.tmp 6]) rfl (N:=53) rfl rfl ?_;refine aA fun bF aF bD=>?_;simp only[kU,seval];refine aF _ _ ?_;refine aA fun Ψ1 aE aL=>?_;simp only[kU,seval];refine aH ?_ (aAq hs M hn fun p s1 k1=>?_)
 ·simp only[kU,seval]
 obtain⟨s2,e2,k2,c2,n2⟩:=cI k1.ok (L:=[int 0,int 0,int 0]) (n:=3) (e:=118) rfl;obtain⟨s3,e3,c3,k3⟩:=c2.storeAll k2.ok (vs:=[int p.k,int p.m,int p.i]) rfl rfl;simp only[kU,seval];rw[e2];simp only[kU,seval,e3];refine aE _ _ ?_;have lV:aC [] s1 s3:=k2.step k3 fun y hy=>.inr (by rw[List.mem_singleton.1 hy];exact k1.ok.fresh _ (Nat.le_refl _));have fC:=k1.trans lV;have M3:=M.aJ fC;have hp1:s1.next<s3.next:=c3.lt k3.ok;have YF:=c3.bI (i:=0) (k:=3) (Nat.le_refl _);obtain⟨Rn,jj⟩:∃ Rn,Rn=(if R.has p=true∧¬ (a<0∨(a=0∧p.k=2)) then R.set p a else R):=⟨_,rfl⟩;have VQ:Rn.aS r=R.aS r∧(∀ Q:RQ,Q.aS t Rn=Q.aS t R)∧Rn.m=R.m∧(PR.nY P R→PR.nY P Rn):=by
  rw[jj];split
  ·rename_i hc;refine⟨?_,fun Q=>?_,?_,fun hl=>hl.set hp (fun h=>hc.2 (.inr h)) hc.1⟩
   ·unfold PR.set;split <;> (try split) <;> rfl
   ·unfold PR.set RQ.aS;split
    ·try rfl
    ·split
     ·try rfl
     ·simp only[List.length_set]
   ·unfold PR.set;split <;> (try split) <;> rfl
  ·exact⟨rfl,fun _=>rfl,rfl,id⟩
 refine aA fun Ψ2 aI bH=>?_;have two:∀ (a':aK) (s':St),aC [] s3 s'→a'.aB 0=ptr x→a'.aB 7=ptr s1.next→a'.aB 2=int a→Ψ2 .normal a' s':=by
  intro a' s' hk r0 r7 r2;have M4:=M3.aJ hk;have c4:=c3.aD hk (by simp);have lp4:=c4.bI (i:=0) (k:=3) (Nat.le_refl _);have ks:aC [] s' (s'.skip 32):=aC.skip hk.ok _;refine aI _ _ ?_;refine aA fun FR nQ zZ=>?_;refine dG [(10,6),(11,6)] [x,s1.next] [] (by kernel_rfl) (by kernel_rfl) (by rfl) fun O hO bC hR=>?_;simp only[kU,seval,r0,r7,r2,M4.l3,lp4,List.drop_zero,List.take];refine dL ?_ (Oa ks.ok (M4.aJ ks).T p a fun s5 T5 k5=>?_)
  ·simp only[kU,seval]
  rw[← jj] at T5;have M5:=(M4.aJ ks).Pq ks.ok k5 (fun y hy=>hy) T5 (fun y hy=>.inl (by rw[VQ.2.1] at hy;exact hy));have nx:x∉Q.aS t R:=fun h=>M.xT x (List.mem_singleton.2 rfl) h;have np:s1.next∉Q.aS t R:=fun h=>by
   have:=M.T.eM hs _ h;have:=k1.next;omega
  have mc:fJ (s'.skip 32) s5 x=true:=(M4.aJ ks).c.same ks.ok k5 nx;have hsp:fJ (s'.skip 32) s5 s1.next=true:=(c4.aD ks (by simp)).same ks.ok k5 np;have lp5:=((c4.aD ks (by simp)).aD k5 np).bI (i:=0) (k:=3) (Nat.le_refl _);simp only[kU,seval,r0,r7,r2,M5.l1,lp5,List.drop_zero,List.take];refine⟨eP mc (eP hsp fO),?_⟩;refine dL ?_ (aF7 k5.ok M5.A p a ha fun s6 A6 k6=>?_)
  ·simp only[kU,seval]
  rw[← jj] at A6;simp only[kU,seval,beq_self_eq_true];refine hR _ _ (nQ _ _ ?_);simp only[kU,seval];exact hΦ Rn Q s6 (M5.Po k5.ok k6 (fun y hy=>hy) A6 (fun y hy=>.inl (by rw[VQ.1] at hy;exact hy))) VQ.2.2.2 VQ.2.2.1
   (((fN.iL ((fC.trans hk).trans ks)).trans (.of k5 M.lT)).trans (.of k6 M.lR))
 have lk:aG s3.look ⟨s1.next,0,none⟩=some (int p.k):=c3.load rfl;have li:aG s3.look ⟨s1.next,2,none⟩=some (int p.i):=c3.load rfl;have nA:aC [] s3 (s3.skip 28):=aC.skip k3.ok _;refine aA fun Ψ3 aN bM=>?_;refine dG [(5,10)] [s1.next] [(3,14)] (by kernel_rfl) (by kernel_rfl) (by rfl) fun O hO bC hR=>?_;have y3:∀ a,aO O a 3=aY (a.aB 14):=hO (3,14) (by simp);cases hk2:(p.k==2) with
 | false =>
  simp only[kU,seval,y3,lk,hk2];refine hR _ _ (aN _ _ ?_);simp only[kU,seval];refine two _ _ nA ?_ ?_ ?_
  all_goals simp only[kU,seval]
 | true =>
  simp only[kU,seval,y3,lk,hk2,li,M3.l3];refine dL ?_ (aFm nA.ok (M3.aJ nA).T fun va vc s4 k4=>?_)
  ·simp only[kU,seval]
  have kB:=nA.trans k4;have fZ:fJ (s3.skip 28) s4 s1.next=true:=(c3.aD nA (by simp)).same nA.ok k4 (by simp);by_cases hc:p.i≥(R.q.length:Int)
  ·simp only[kU,seval,y3,hc,decide_true];refine⟨eP fZ fO,hR _ _ (aN _ _ ?_)⟩;simp only[dA,RV,RG,seval];have M4:=M3.aJ kB;have rS:aC [] s4 (s4.skip 28):=aC.skip k4.ok _;refine aA fun NV rR LP=>?_;refine dG [(9,5)] [x] [] (by kernel_rfl) (by kernel_rfl) (by rfl) fun O hO bC hR=>?_;simp only[kU,seval,M4.l3];refine dL ?_ (aFl rS.ok (M4.aJ rS).T a fun Q' s5 T5 k5 f5=>?_)
   ·simp only[kU,seval]
   have M5:=(M4.aJ rS).Pq rS.ok k5 (fun y hy=>hy) T5 f5;have nx:x∉Q.aS t R:=fun h=>M.xT x (List.mem_singleton.2 rfl) h;have mc:fJ (s4.skip 28) s5 x=true:=(M4.aJ rS).c.same rS.ok k5 nx;simp only[kU,seval,M5.l1];refine⟨eP mc fO,?_⟩;refine dL ?_ (aF6 k5.ok M5.A a ha fun va vn vc s6 A6 k6 f6=>?_)
   ·simp only[kU,seval]
   simp only[kU,seval,beq_self_eq_true];refine hR _ _ (rR _ _ ?_);simp only[kU,seval];refine bH _ _ _ (by simp) ?_;simp only[kU,seval];have M6:=M5.Po k5.ok k6 (fun y hy=>hy) A6 (fun y hy=>?_)
   ·have T6:gH s6 t Q' {R with va:=va,vn:=vn,vc:=vc,q:=R.AQ a}:=M6.T.congr rfl rfl rfl rfl;refine hΦ {R with va:=va,vn:=vn,vc:=vc,q:=R.AQ a} Q' s6 ?_ (fun hl=>(hl.push hp).congr rfl rfl rfl) rfl
     (((fN.iL ((fC.trans kB).trans rS)).trans (.of k5 M.lT)).trans (.of k6 M.lR))
    obtain⟨c,H,A,K,T,m1,m2,m3,m4,m5,m6,m7,m8,m9,m10,m11,m12,m13,m14,m15⟩:=M6;exact⟨c,H,A,K,T6,m1,m2,m3,m4,m5,m6,m7,m8,m9,m10,m11,m12,m13,m14,m15⟩
   ·unfold PR.aS at hy;rcases List.mem_append.1 hy with h | h
    ·exact .inl (List.mem_append_left _ h)
    ·rcases f6 y h with h | h
     ·exact .inl (List.mem_append_right _ h)
     ·exact .inr h
  ·simp only[kU,seval,y3,hc,decide_false];refine⟨eP fZ fO,hR _ _ (aN _ _ ?_)⟩;simp only[kU,seval];refine two _ _ kB ?_ ?_ ?_
   all_goals simp only[kU,seval]
end
open Go.Proofs
set_option maxRecDepth 100000
set_option maxHeartbeats 4000000
theorem PH.zr {P:PH} (I:P.Inv) {b m:Nat} {y:Int} (h1:1≤b) (hm:1≤m) (h2:b+m≤P.N) (hy:0≤y∧y<8) (hf:∀ j,b≤j→j<b+m→P.bs j=0):P.nJ b m y=0:=by
 unfold PH.nJ;rw[if_pos ⟨by omega,by omega,by omega,by omega,hy.1,hy.2⟩,if_neg];unfold PH.busy;rw[List.any_eq_true];rintro⟨j,hj,hc⟩;have hj:=List.mem_range.1 hj;have h0:=hf ((b:Int).toNat+j) (by omega) (by omega);rw[h0,I.aT _ h0] at hc;cases hc
section
variable {kc:Kc} {q:Bool} {s:St} {Φ:Value→St→Prop} {N x h r g t:Nat} {P:PH} {R:PR} {G:dI} {Q:RQ} {R2:PR}
theorem dT:type_of% (B6 @RX @zT @AL @gL @vN @pX):=B6 @RX @zT @AL @gL @vN @pX
theorem aAk (hs:Ok s) (M:Mem N s x h r g t P R G Q R2) (S:iW P G) (I:P.Inv) {y:cO} (hy:y.valid=true) {sp:Int} (hsp:0≤sp∧sp<3) (hb:P.born<1000) (hl:G.L.length<1000)
  (hΦ:∀ P' G' s',Mem N s' x h r g t P' R G' Q R2→iW P' G'→P'.Inv→(P.Z→P'.Z)→P'.N=P.N→P'.born≤P.born+1→G'.L.length≤G.L.length+1→fN N s s'→Φ (.bool true) s') :
  okF q X (KO kc) 54 [ptr x,pK y,int sp] s Φ:=by
 have bY:=I.bY;have hw:=cO.uC hy;have mo:=y.CZ;refine aW Tryz.func54 (by kernel_rfl) rfl rfl (rs:=[.tmp 6]) rfl (N:=84) rfl rfl ?_;refine aA fun bF aF bD=>?_;simp only[dT,seval];obtain⟨s1,e1,k1,c1,n1⟩:=cI hs (L:=[int y.r,int y.d,int y.k]) (n:=3) (e:=44) rfl;rw[e1];refine aF _ _ ?_;have M1:=M.aJ k1;have BY:=c1.bI (i:=0) (k:=3) (Nat.le_refl _);have ks:aC [] s1 (s1.skip 24):=aC.skip k1.ok _;have Mk:=M1.aJ ks;have LC:∀ z∈P.aS h,z≠s.next:=fun z hz e=>by have:=M.H.eM hs z hz;omega
 have GW:∀ z∈G.aS g,z≠s.next:=fun z hz e=>by have:=M.K.eM hs z hz;omega
 have Iz:∀ b:Nat,1≤b→b+(if y.words>32 then((y.words+63)/64).toNat else 1)≤P.N→(P.sM b y sp).Inv∧(P.Z→(P.sM b y sp).Z)∧(P.sM b y sp).N=P.N∧(P.sM b y sp).born=P.born∧(P.sM b y sp).aS h=P.aS h:=by
  intro b hb1 _;unfold PH.sM;split
  ·exact⟨I.oA hb1 (by omega) (fun h=>by omega),fun z=>z.oA _ _ _ _ _ _,rfl,rfl,rfl⟩
  ·exact⟨I.oA hb1 (by omega) (fun _=>rfl),fun z=>z.oA _ _ _ _ _ _,rfl,rfl,rfl⟩
 refine aA fun Ψ1 aE aL=>?_;have fin:∀ (a':aK) (s2:St) (a:Int) (b:Nat) (G2:dI),a'.aB 0=ptr x→a'.aB 2=int sp→a'.aB 4=ptr s.next→a'.aB 7=int a→a'.aB 8=.bool true→1≤b→b<P.N→64*(b:Int)≤a→a<64*(b:Int)+64→Mem N s2 x h r g t P R G2 Q R2→G2.L.length=G.L.length→Obj s2 s.next [int y.r,int y.d,int y.k]→s.next<s2.next→(∀ z∈G2.aS g,z≠s.next)→fN N s s2 →
   ((P.bs b=1∧iW P G2)∨(b+(if y.words>32 then((y.words+63)/64).toNat else 1)≤P.N∧(∀ j,b≤j→j<b+(if y.words>32 then((y.words+63)/64).toNat else 1)→P.bs j=0)∧iW (P.sM b y sp) G2))→Ψ1 .normal a' s2:=by
  intro a' s2 a b G2 r0 r2 r4 r7 r8 hb1 hb2 VT VU M2 hl2 c2 hn2 F_ hk G8;have BZ:=c2.bI (i:=0) (k:=3) (Nat.le_refl _);have td:IntKind.i64.wrap (a.tdiv 64)=((b:Nat):Int):=by rw[Int.tdiv_eq_ediv_of_nonneg (by omega),aU (by omega) (by omega)];omega
  refine aE _ _ ?_;refine aA fun Ψ2 aI bH=>?_;refine aA fun Ψ3 aN bM=>?_;simp only[dT,seval,r8];refine aN _ _ ?_;simp only[dT,seval];refine aI _ _ ?_;refine aA fun Ψ4 aP cC=>?_;have gy:∀ (a':aK) (s3:St) (P1:PH),a'.aB 0=ptr x→a'.aB 4=ptr s.next→a'.aB 7=int a→Mem N s3 x h r g t P1 R G2 Q R2→iW P1 G2→P1.Inv→(P.Z→P1.Z)→P1.N=P.N→P1.born=P.born→P1.aS h=P.aS h→Obj s3 s.next [int y.r,int y.d,int y.k]→fN N s s3→Ψ4 .normal a' s3:=by
   intro a' s3 P1 r0 r4 r7 M3 S3 I3 Z3 N3 B3 F3 c3 hk3;have nA:aC [] s3 (s3.skip 24):=aC.skip hk3.ok _;have qf:=c3.bI (i:=0) (k:=3) (Nat.le_refl _);refine aP _ _ ?_;refine aA fun lO eG kY=>?_;refine dG [] [] [] (by kernel_rfl) (by kernel_rfl) (by rfl) fun O hO bC hR=>?_;simp only[dT,seval,r0,r4,r7,M3.l2,qf,List.drop_zero,List.take];have Bu:∀ (a':aK) (s4:St) (P2:PH) (G4:dI),P2=(if P1.qP a y=0 then P1.place a y else P1)→a'.aB 0=ptr x→a'.aB 4=ptr s.next→a'.aB 7=int a→a'.aB 11=int (if P1.qP a y=0 then(P1.born:Int)+1 else 0)→a'.aB 12=int (P1.qP a y)→Mem N s4 x h r g t P1 R G4 Q R2→iW P2 G4→G4.L.length≤G.L.length+1→Obj s4 s.next [int y.r,int y.d,int y.k]→fN N s s4→lO .normal a' s4:=by
    intro a' s4 P2 G4 jf r0 r4 r7 eZ qQ M4 S4 WM c4 kB;have rS:aC [] s4 (s4.skip 24):=aC.skip kB.ok _;have QS:=c4.bI (i:=0) (k:=3) (Nat.le_refl _);refine eG _ _ ?_;refine aA fun rE jI pS=>?_;refine dG [] [] [] (by kernel_rfl) (by kernel_rfl) (by rfl) fun O hO bC hR=>?_;simp only[dT,seval,r0,r4,r7,M4.l0,QS,List.drop_zero,List.take];refine dL ?_ (ju rS.ok (M4.aJ rS).H a ⟨by omega,by omega⟩ y (by omega) I3.next fun s5 H5 k5=>?_)
    ·simp only[dT,seval]
    rw[← jf] at H5;simp only[dT,seval];refine hR _ _ (jI _ _ ?_);refine aA fun sF iY rQ=>?_;refine cL [(3,79)] (by kernel_rfl) fun O hO bC hR=>?_;have y3:∀ a,aO O a 3=aY (a.aB 79):=hO (3,79) (by simp);simp only[dT,seval,eZ,qQ,y3,beq_self_eq_true];refine hR _ _ (iY _ _ ?_);simp only[dT,seval];have hF:∀ z∈[h,P1.nw,P1.su,P1.mp],z∈P1.aS h:=fun z hz=>by
     simp only[List.mem_cons,List.not_mem_nil,or_false] at hz;unfold PH.aS;rcases hz with rfl | rfl | rfl | rfl <;> simp
    have hfo:P2.aS h=P1.aS h:=by rw[jf];split <;> rfl
    have M5:=(M4.aJ rS).MZ rS.ok k5 hF H5 hfo;have hp:P2.Inv∧(P.Z→P2.Z)∧P2.N=P.N∧P2.born≤P.born+1:=by
     rw[jf];split
     ·rename_i he;have Rm:=PH.ZY I3.bX I3.b0 he;refine⟨I3.place Rm,fun z=>(Z3 z).place I3 Rm,N3,?_⟩;show P1.born+1≤_;omega
     ·exact⟨I3,Z3,N3,by omega⟩
    exact hΦ P2 G4 s5 M5 S4 hp.1 hp.2.1 hp.2.2.1 hp.2.2.2 WM ((kB.trans (.iL rS)).trans (.of k5 fun z hz=>M4.lP z (hF z hz)))
   have dr:=M3.aJ nA;refine dL ?_ (aEk nA.ok dr.K S3 I3 a ⟨by omega,by omega⟩ y hy (by omega) (by omega) (fun he G4 s4 H4 S4 WM k4 f4=>?_) (fun he s4 k4=>?_))
   ·simp only[dT,seval]
   ·have hg:∀ z∈[g],z∈G2.aS g:=fun z hz=>by rw[List.mem_singleton.1 hz];exact List.mem_append_left _ (List.mem_cons_self ..)
    have M4:=dr.SC nA.ok k4 hg H4 f4;simp only[dT,seval];refine hR _ _ (Bu _ s4 (P1.place a y) G4 (by rw[if_pos he]) ?_ ?_ ?_ ?_ ?_ M4 S4 (by omega) ((c3.aD nA (by simp)).aD k4 ?_) ((hk3.trans (.iL nA)).trans (.of k4 fun z hz=>M3.lG z (hg z hz))))
    ·simp only[dT,seval,r0]
    ·simp only[dT,seval,r4]
    ·simp only[dT,seval,r7]
    ·rw[if_pos he];simp only[dT,seval]
    ·rw[he];simp only[dT,seval]
    ·intro hm;rw[List.mem_singleton] at hm;exact F_ g (hg g (List.mem_singleton.2 rfl)) hm.symm
   ·simp only[dT,seval];refine hR _ _ (Bu _ s4 P1 G2 (by rw[if_neg he]) ?_ ?_ ?_ ?_ ?_ (dr.aJ k4) S3 (by omega) ((c3.aD nA (by simp)).aD k4 (by simp)) ((hk3.trans (.iL nA)).trans (.iL k4)))
    ·simp only[dT,seval,r0]
    ·simp only[dT,seval,r4]
    ·simp only[dT,seval,r7]
    ·rw[if_neg he];simp only[dT,seval]
    ·simp only[dT,seval]
  refine aA fun cU aZ cK=>?_;simp only[dT,seval,r7,td];refine aZ _ _ ?_;refine aA fun dN bO cZ=>?_;simp only[dT,seval,r0,M2.l0];refine aH ?_ (Eb M2.H ((b:Nat):Int) ?_)
  ·simp only[dT,seval]
  rw[if_pos ⟨by omega,by omega⟩,Int.toNat_natCast];rcases G8 with ⟨rN,S2⟩ | ⟨LB,hf,S2⟩
  ·rw[rN];simp only[dT,seval];refine bO _ _ ?_;simp only[dT,seval];refine gy _ s2 P ?_ ?_ ?_ M2 S2 I id rfl rfl rfl c2 hk
   ·simp only[dT,seval,r0]
   ·simp only[dT,seval,r4]
   ·simp only[dT,seval,r7]
  ·obtain⟨I3,Z3,N3,B3,F3⟩:=Iz b hb1 LB;have h0:P.bs b=0:=by
    refine hf b (Nat.le_refl _) ?_;split
    ·omega
    ·omega
   rw[h0];simp only[dT,seval];refine bO _ _ ?_;simp only[dA,RV,RG,seval];refine aA fun fE cG dX=>?_;simp only[dT,seval];refine cG _ _ ?_;refine aA fun gV cT gA=>?_;refine aA fun jC dK iK=>?_;simp only[dT,seval,r4,BZ,List.drop_zero,List.take];refine aH ?_ (sf hk.ok y fun s3 k3=>?_)
   ·simp only[dT,seval]
   simp only[dT,seval];refine dK _ _ ?_;have M3:=M2.aJ k3;have c3:=c2.aD k3 (by simp);have qf:=c3.bI (i:=0) (k:=3) (Nat.le_refl _);have HF:P.nb∈P.aS h:=by simp[PH.aS]
   by_cases LK:y.words>32
   ·rw[if_pos LK] at LB hf;obtain⟨m,hm⟩:∃ m,m=((y.words+63)/64).toNat:=⟨_,rfl⟩;rw[← hm] at LB hf;have hm':(y.words+63)/64=(m:Int):=by omega
    have hE:P.nJ b m sp=0:=PH.zr I hb1 (by omega) LB ⟨hsp.1,by omega⟩ hf;have jg:P.sM b y sp=P.oA b m 2 sp 3 sp:=by unfold PH.sM;rw[if_pos LK,← hm]
    have nA:aC [] s3 (s3.skip 20):=aC.skip k3.ok _;simp only[dA,RV,RG,seval,LK,decide_true];refine dG [(3,6)] [x] [] (by kernel_rfl) (by kernel_rfl) (by rfl) fun O hO bC hR=>?_;simp only[dT,seval,r0,r4,M3.l0,qf,List.drop_zero,List.take];refine dL ?_ (sg nA.ok y fun s4 k4=>?_)
    ·simp only[dT,seval]
    rw[hm'];have fZ:fJ (s3.skip 20) s4 x=true:=(M3.aJ nA).c.same nA.ok k4 (by simp);have M4:=(M3.aJ nA).aJ k4;simp only[dT,seval,r2];refine⟨eP fZ fO,?_⟩;refine dL ?_ (I6 k4.ok M4.H (b:Int) (m:Int) sp ⟨by omega,by omega⟩ ⟨by omega,by omega⟩ fun s5 H5 k5=>?_)
    ·simp only[dT,seval]
    rw[hE,if_pos rfl,Int.toNat_natCast,Int.toNat_natCast,← jg] at H5;rw[hE];simp only[dT,seval];refine hR _ _ (cT _ _ ?_);refine aA fun wV lU vU=>?_;simp only[dT,seval];refine lU _ _ ?_;simp only[dT,seval];have HH:s.next∉[P.nb]:=fun h=>LC _ HF (List.mem_singleton.1 h).symm;refine gy _ s5 (P.sM b y sp) ?_ ?_ ?_ (M4.MZ k4.ok k5 (fun z hz=>by rw[List.mem_singleton.1 hz];exact HF) H5 F3) S2 I3 Z3 N3 B3 F3 (((c3.aD nA (by simp)).aD k4 (by simp)).aD k5 HH) (((hk.trans (.iL (k3.trans nA))).trans (.iL k4)).trans (.of k5 fun z hz=>M.lP z (by rw[List.mem_singleton.1 hz];exact HF)))
    ·simp only[dT,seval,r0]
    ·simp only[dT,seval,r4]
    ·simp only[dT,seval,r7]
   ·rw[if_neg LK] at LB hf;have hE:P.nJ b (1:Nat) sp=0:=PH.zr I hb1 (by omega) LB ⟨hsp.1,by omega⟩ hf;have hE:P.nJ b 1 sp=0:=hE;have jg:P.sM b y sp=P.oA b 1 1 sp 0 0:=by unfold PH.sM;rw[if_neg LK]
    simp only[dA,RV,RG,seval,LK,decide_false];simp only[dT,seval,r0,r2,M3.l0];refine aH ?_ (Dx k3.ok M3.H (b:Int) sp ⟨by omega,by omega⟩ fun s5 H5 k5=>?_)
    ·simp only[dT,seval]
    rw[hE,if_pos rfl,Int.toNat_natCast,← jg] at H5;rw[hE];simp only[dT,seval];refine cT _ _ ?_;refine aA fun wV lU vU=>?_;simp only[dT,seval];refine lU _ _ ?_;simp only[dT,seval];have HH:s.next∉[P.nb]:=fun h=>LC _ HF (List.mem_singleton.1 h).symm;refine gy _ s5 (P.sM b y sp) ?_ ?_ ?_ (M3.MZ k3.ok k5 (fun z hz=>by rw[List.mem_singleton.1 hz];exact HF) H5 F3) S2 I3 Z3 N3 B3 F3 (c3.aD k5 HH) ((hk.trans (.iL k3)).trans (.of k5 fun z hz=>M.lP z (by rw[List.mem_singleton.1 hz];exact HF)))
    ·simp only[dT,seval,r0]
    ·simp only[dT,seval,r4]
    ·simp only[dT,seval,r7]
 refine dG [] [] [] (by kernel_rfl) (by kernel_rfl) (by rfl) fun O hO bC hR=>?_;simp only[dT,seval,M1.l2,BY,List.drop_zero,List.take];refine dL ?_ (aE8 ks.ok Mk.K S I y hy (sp:=sp) ⟨hsp.1,by omega⟩ (fun s2 k2=>?_) (fun a b s2 hb1 hb2 rN VT VU k2=>?_) (fun b G2 s2 hb1 hb2 hf H2 S2 hL hfo k2=>?_))
 ·simp only[dT,seval]
 ·simp only[dT,seval];refine hR _ _ (aE _ _ ?_);refine aA fun Ψ2 aI bH=>?_;refine aA fun Ψ3 aN bM=>?_;simp only[dT,seval];refine aN _ _ ?_;simp only[dT,seval];refine bH _ _ _ (by simp) ?_;simp only[dT,seval];exact hΦ P G s2 (Mk.aJ k2) S I id rfl (Nat.le_succ _) (Nat.le_succ _) (.iL ((k1.trans ks).trans k2))
 ·simp only[dT,seval];refine hR _ _ (fin _ s2 a b G ?_ ?_ ?_ ?_ ?_ hb1 hb2 VT VU (Mk.aJ k2) rfl ((c1.aD ks (by simp)).aD k2 (by simp)) (by have:=(k1.trans ks).trans k2;have:=k2.next;have:=ks.next;omega) GW (.iL ((k1.trans ks).trans k2)) (.inl ⟨rN,S⟩))
  all_goals simp only[dT,seval]
 ·have hbn:G.bn∈G.aS g:=List.mem_append_left _ (List.mem_cons_of_mem _ (List.mem_cons_self ..));have HH:s.next∉[G.bn]:=fun h=>GW _ hbn (List.mem_singleton.1 h).symm;simp only[dT,seval];refine hR _ _ (fin _ s2 (64*(b:Int)) b G2 ?_ ?_ ?_ ?_ ?_ hb1 (by split at hb2 <;> omega) (by omega) (by omega) (Mk.SC ks.ok k2 (fun z hz=>by rw[List.mem_singleton.1 hz];exact hbn) H2 (fun z hz=>.inl (by rw[hfo] at hz;exact hz))) (by rw[hL]) ((c1.aD ks (by simp)).aD k2 HH) (by have:=k2.next;have:=ks.next;omega) (by rw[hfo];exact GW) ((fN.iL (k1.trans ks)).trans (.of k2 fun z hz=>M.lG z (by rw[List.mem_singleton.1 hz];exact hbn))) (.inr ⟨hb2,hf,S2⟩))
  all_goals simp only[dT,seval]
end
end Go.Dust
