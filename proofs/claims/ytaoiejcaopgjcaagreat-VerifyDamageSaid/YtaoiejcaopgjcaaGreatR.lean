/- VerifyDamage walked in D, function by function, and its plain law (K6 F9 Ql Tw Tx K9 Qm Fd). -/
import Derived.Test.YtaoiejcaopgjcaaGreatQ
import Derived.Test.YtaoiejcaopgjcaaGreatN
import Derived.Test.YtaoiejcaopgjcaaGreatK
import Derived.Test.YtaoiejcaopgjcaaGreatP
import Derived.Test.YtaoiejcaopgjcaaGreatE
import Derived.Test.YtaoiejcaopgjcaaGreatD
import Derived.ChangeSlices
import Derived.OpenShut
import Derived.Test.YtaoiejcaopgjcaaGreatRows
import Derived.WalkKit
import Derived.ProofKit
set_option linter.unusedVariables false
set_option linter.unusedSimpArgs false
namespace Go.Dust
open Go.Proofs
set_option maxRecDepth 100000
set_option maxHeartbeats 8000000
def iQ (N:Nat) (s:St) (k:Nat) (v:Value) (n:Nat):Prop:=∃ a c,v=.slice a n c∧(0<n→∃ b off,a=some ⟨b,off,none⟩∧b<N∧∀ i,i<n*k→∃ m,m<256∧aG s.look ⟨b,off+i,none⟩=some (u8 m))
theorem iQ.aD {N:Nat} {s s':St} {k:Nat} {v:Value} {n:Nat} (h:iQ N s k v n) (hk:fN N s s'):iQ N s' k v n:=by
 obtain⟨F,hk,hF⟩:=hk;obtain⟨a,c,rfl,h⟩:=h;refine⟨a,c,rfl,fun hn=>?_⟩;obtain⟨b,off,ha,hb,hl⟩:=h hn;refine⟨b,off,ha,hb,fun i hi=>?_⟩;obtain⟨m,hm,hl⟩:=hl i hi;exact⟨m,hm,mI hk (fun hm=>by have:=hF _ hm;simp only at this;omega) hl⟩
theorem iQ.mono {N N':Nat} {s:St} {k:Nat} {v:Value} {n:Nat} (h:iQ N s k v n) (hN:N≤N'):iQ N' s k v n:=by
 obtain⟨a,c,e,h⟩:=h;exact⟨a,c,e,fun hn=>let ⟨b,off,h1,h2,h3⟩:=h hn;⟨b,off,h1,by omega,h3⟩⟩
theorem Mem.mono {N N':Nat} {s:St} {x h r g t:Nat} {P:PH} {R:PR} {G:dI} {Q:RQ} {R2:PR} (M:Mem N s x h r g t P R G Q R2) (hN:N'≤N):Mem N' s x h r g t P R G Q R2:=by
 obtain⟨c,H,A,K,T,m1,m2,m3,m4,m5,m6,m7,m8,m9,m10,m11,m12,m13,m14,m15⟩:=M;exact⟨c,H,A,K,T,m1,m2,m3,m4,m5,m6,m7,m8,m9,m10,by omega,fun y hy=>Nat.le_trans hN (m12 y hy),fun y hy=>Nat.le_trans hN (m13 y hy),fun y hy=>Nat.le_trans hN (m14 y hy),fun y hy=>Nat.le_trans hN (m15 y hy)⟩
theorem yX {a b:List Nat} {M:Nat} (h1:∀ y∈a,y<M) (h2:∀ y∈b,M≤y):qD a b:=fun y hy hb=>by
 have:=h1 y hy;have:=h2 y hb;omega
theorem Obj.aA2 {N:Nat} {s s':St} {b:Nat} {L:List Value} (h:Obj s b L) (hk:fN N s s') (hb:b<N):Obj s' b L:=by
 obtain⟨F,hk,hF⟩:=hk;exact h.aD hk fun hm=>by have:=hF _ hm;omega
theorem PH.Empty.sim {P:PH} {n b:Nat} (E:P.Empty n):iW P ⟨b,none,0,n,fun _=>0,fun _=>0,[],0⟩:=by
 refine⟨E.N.symm,E.bs.symm,E.bp.symm,E.born.symm,?_,fun o ho=>(by cases ho)⟩;have:P.all=[]:=by
  rw[List.eq_nil_iff_forall_not_mem];intro a ha;have:=(PH.jG.1 (PH.pH.1 ha)).2.2.2;rw[E.S] at this;cases this
 rw[this];rfl
theorem iQ.xB {N:Nat} {s:St} {k n c i j:Nat} {a:Option Addr} (h:iQ N s k (.slice a n c) n) (hi:i<n) (hj:j<k):∃ b off m,a=some ⟨b,off,none⟩∧b<N∧m<256∧aG s.look ⟨b,off+i*k+j,none⟩=some (u8 m):=by
 obtain⟨a',c',e,h⟩:=h;cases e;obtain⟨b,off,rfl,hb,hl⟩:=h (by omega);obtain⟨m,hm,hl⟩:=hl (i*k+j) (by
  have:(i+1)*k≤n*k:=Nat.mul_le_mul_right _ hi;rw[Nat.succ_mul] at this;omega)
 rw[← Nat.add_assoc] at hl;exact⟨b,off,m,rfl,hb,hm,hl⟩
theorem iQ.u_ {N:Nat} {s:St} {n c i:Nat} {a:Option Addr} (h:iQ N s 4 (.slice a n c) n) (hi:i<n):∃ b off m0 m1 m2 m3,a=some ⟨b,off,none⟩∧b<N∧m0<256∧m1<256∧m2<256∧m3<256∧bI s.look ⟨b,off+i*4,none⟩ 4=some [u8 m0,u8 m1,u8 m2,u8 m3]∧aG s.look ⟨b,off+i*4+3,none⟩=some (u8 m3):=by
 obtain⟨b,off,m0,rfl,hb,h0,g0⟩:=h.xB hi (show 0<4 by omega);obtain⟨b1,aCf,m1,e1,_,h1,g1⟩:=h.xB hi (show 1<4 by omega);obtain⟨b2,aCg,m2,e2,_,h2,g2⟩:=h.xB hi (show 2<4 by omega);obtain⟨b3,aIu,m3,e3,_,h3,g3⟩:=h.xB hi (show 3<4 by omega);cases e1;cases e2;cases e3;refine⟨b,off,m0,m1,m2,m3,rfl,hb,h0,h1,h2,h3,pw (by omega) rfl fun j hj=>?_,g3⟩;rcases j with _ | _ | _ | _ | j
 ·exact g0
 ·exact g1
 ·exact g2
 ·exact g3
 ·omega
theorem iQ.t_ {N:Nat} {s:St} {n c i:Nat} {a:Option Addr} (h:iQ N s 3 (.slice a n c) n) (hi:i<n):∃ b off m0 m1 m2,a=some ⟨b,off,none⟩∧b<N∧m0<256∧m1<256∧m2<256∧bI s.look ⟨b,off+i*3,none⟩ 3=some [u8 m0,u8 m1,u8 m2]:=by
 obtain⟨b,off,m0,rfl,hb,h0,g0⟩:=h.xB hi (show 0<3 by omega);obtain⟨b1,aCf,m1,e1,_,h1,g1⟩:=h.xB hi (show 1<3 by omega);obtain⟨b2,aCg,m2,e2,_,h2,g2⟩:=h.xB hi (show 2<3 by omega);cases e1;cases e2;refine⟨b,off,m0,m1,m2,rfl,hb,h0,h1,h2,pw (by omega) rfl fun j hj=>?_⟩;rcases j with _ | _ | _ | j
 ·exact g0
 ·exact g1
 ·exact g2
 ·omega
section
variable {kc:Kc} {q:Bool} {s:St} {Φ:Value→St→Prop}
theorem cA:type_of% (B9 @RX @Bl @XX @KC @Bm @KG @KE @KH (B9 @KF @xy @zT @Qo @DS @Qp @Bo @Hx (B9 @Ik @Gw @Ht @XG @Bp @Hy @Il @Gx (B9 @AL @vN @pX @Bq @Hz @Io @Gz @Hu (B9 @vy @Qh @Gu @mB @lE @kJ @bG @Br (B5 @Ia @Ip @Ha @Gv @Bs)))))):=B9 @RX @Bl @XX @KC @Bm @KG @KE @KH (B9 @KF @xy @zT @Qo @DS @Qp @Bo @Hx (B9 @Ik @Gw @Ht @XG @Bp @Hy @Il @Gx (B9 @AL @vN @pX @Bq @Hz @Io @Gz @Hu (B9 @vy @Qh @Gu @mB @lE @kJ @bG @Br (B5 @Ia @Ip @Ha @Gv @Bs)))))
theorem aAj (hs:Ok s) {x0 x1:Nat} (hx0:x0<256) (hx1:x1<256) {v2 v3 v4 v5 v6:Value} {l2 l3 l4 l5 l6:Nat} (U2:iQ s.next s 4 v2 l2) (U3:iQ s.next s 1 v3 l3) (U4:iQ s.next s 3 v4 l4) (U5:iQ s.next s 2 v5 l5) (U6:iQ s.next s 1 v6 l6)
  (hΦ:∀ x h r g t P R G Q s',Mem s.next s' x h r g t P R G Q R→iW P G→P.Inv→P.Sound→PR.nY P R→P.N≤24→P.born≤40→aC [] s s'→Φ (ptr x) s'):okF q X (KO kc) 8 [.agg #[u8 x0,u8 x1,v2,v3,v4,v5,v6]] s Φ:=by
 obtain⟨a2,sJ,rfl,W2⟩:=U2;obtain⟨a3,sK,rfl,W3⟩:=U3;obtain⟨a4,sL,rfl,W4⟩:=U4;obtain⟨a5,uJ,rfl,W5⟩:=U5;obtain⟨a6,yZ,rfl,W6⟩:=U6;have U2:iQ s.next s 4 (.slice a2 l2 sJ) l2:=⟨a2,sJ,rfl,W2⟩;have U3:iQ s.next s 1 (.slice a3 l3 sK) l3:=⟨a3,sK,rfl,W3⟩;have U4:iQ s.next s 3 (.slice a4 l4 sL) l4:=⟨a4,sL,rfl,W4⟩;have U5:iQ s.next s 2 (.slice a5 l5 uJ) l5:=⟨a5,uJ,rfl,W5⟩;have U6:iQ s.next s 1 (.slice a6 l6 yZ) l6:=⟨a6,yZ,rfl,W6⟩;clear W2 W3 W4 W5 W6;refine aW Tryz.func8 (by kernel_rfl) rfl rfl (rs:=[.tmp 2]) rfl (N:=257) rfl rfl ?_;refine aA fun bF aF bD=>?_;simp only[cA,seval];obtain⟨s1,e1,k1,c1,n1⟩:=cI hs (L:=[u8 x0,u8 x1,.slice a2 l2 sJ,.slice a3 l3 sK,.slice a4 l4 sL,.slice a5 l5 uJ,.slice a6 l6 yZ]) (n:=7) (e:=27) rfl;rw[e1];refine aF _ _ ?_;have w:∀ n:Nat,n<256→IntKind.wrap .i64 (n:Int)=(n:Int):=fun n h=>aU (by omega) (by omega);have aGw:(x0:Int).tmod 23=((x0%23:Nat):Int):=rfl;have tm4:(x1:Int).tmod 4=((x1%4:Nat):Int):=rfl;have wb:IntKind.wrap .i64 (2+((x0%23:Nat):Int))=((2+x0%23:Nat):Int):=by rw[aU (by omega) (by omega)];rfl
 have wm:IntKind.wrap .i64 (1+((x1%4:Nat):Int))=((1+x1%4:Nat):Int):=by rw[aU (by omega) (by omega)];rfl
 have f0:aG s1.look ⟨s.next,0,none⟩=some (u8 x0):=c1.load rfl;have f1:aG s1.look ⟨s.next,1,none⟩=some (u8 x1):=c1.load rfl;refine aA fun Ψ1 aE aL=>?_;refine dG [] [] [] (by kernel_rfl) (by kernel_rfl) (by rfl) fun O hO bC hR=>?_;simp only[cA,seval,f0,f1,w x0 hx0,w x1 hx1,aGw,tm4,wb,wm];refine hR _ _ (aE _ _ ?_);have XO:aC [] s1 (s1.skip 24):=aC.skip k1.ok _;refine aA fun Ψ2 aI bH=>?_;simp only[cA,seval];refine aH ?_ (Dz XO.ok (n':=2+x0%23) rfl (by omega) (by omega) ?_)
 ·simp only[cA,seval]
 intro s2 h P0 H0 E0 fP k2
 try simp only[cA,seval]
 refine aI _ _ ?_;refine aA fun Ψ3 aN bM=>?_;simp only[cA,seval];refine aH ?_ (Np k2.ok (m':=1+x1%4) rfl (by omega) (by omega) ?_)
 ·simp only[cA,seval]
 intro r R0 s3 A0 Dl jk ji VS aHu fR k3
 try simp only[cA,seval]
 refine aN _ _ ?_;refine aA fun Ψ4 aP cC=>?_;refine aA fun cU aZ cK=>?_;refine cL [(2,43),(6,47),(10,51)] (by kernel_rfl) fun O hO bC hR=>?_;have y2:∀ a,aO O a 2=aY (a.aB 43):=hO (2,43) (by simp);have y6:∀ a,aO O a 6=aY (a.aB 47):=hO (6,47) (by simp);have NR:∀ a,aO O a 10=aY (a.aB 51):=hO (10,51) (by simp);simp only[cA,seval,y2,y6,NR];refine hR _ _ (aZ _ _ ?_);simp only[cA,seval];refine aP _ _ ?_;have fC:aC [] s1 s3:=(XO.trans k2).trans k3;obtain⟨s4,e4,k4,c4,n4⟩:=cI k3.ok (L:=[ptr h,ptr r,.pointer none,.pointer none]) (n:=4) (e:=39) rfl;refine aA fun dN bO cZ=>?_;simp only[cA,seval];rw[e4];refine bO _ _ ?_;obtain⟨x,hx⟩:∃ x,x=s3.next:=⟨_,rfl⟩;rw[← hx] at c4;refine aA fun fE cG dX=>?_;simp only[cA,seval];refine aH ?_ (aEg k4.ok (n:=2+x0%23) (by omega) (by omega) fun g gb s5 G5 fG k5=>?_)
 ·simp only[cA,seval]
 obtain⟨s6,e6,c6,k6⟩:=(c4.aD k5 (by simp)).fK k5.ok (i:=2) (v:=ptr g) (by simp) rfl;have e6:dS s5 ⟨s3.next,2,none⟩ [ptr g]=some s6:=by rw[← hx];exact e6
 simp only[cA,seval,e6];refine cG _ _ ?_;refine aA fun gV cT gA=>?_;simp only[cA,seval];refine aH ?_ (Nz k6.ok (m:=1+x1%4) (by omega) (by omega) fun t Q0 RR s7 Dm D9 D8 Dn T7 fT k7=>?_)
 ·simp only[cA,seval]
 obtain⟨s8,e8,c8,k8⟩:=(c6.aD k7 (by simp)).fK k7.ok (i:=3) (v:=ptr t) (by simp) rfl;have e8:dS s7 ⟨s3.next,3,none⟩ [ptr t]=some s8:=by rw[← hx];exact e8
 simp only[cA,seval,e8];refine cT _ _ ?_;have nP:∀ y∈P0.aS h,s1.next≤y∧y<s2.next:=fun y hy=>⟨by have:=fP y hy;have:=XO.next;omega,H0.eM k2.ok y hy⟩;have nR:∀ y∈R0.aS r,s2.next≤y∧y<s3.next:=fun y hy=>⟨fR y hy,A0.eM k3.ok y hy⟩;have nG:∀ y∈dI.aS g ⟨gb,none,0,2+x0%23,fun _=>0,fun _=>0,[],0⟩,s4.next≤y∧y<s5.next:=fun y hy=>⟨fG y hy,G5.eM k5.ok y hy⟩;have nT:∀ y∈Q0.aS t RR,s6.next≤y∧y<s7.next:=fun y hy=>⟨fT y hy,T7.eM k7.ok y hy⟩;have q12:=XO.next;have q23:=k2.next;have q34:=k3.next;have q45:=k4.next;have q56:=k5.next;have q67:=k6.next;have q78:=k7.next;have q89:=k8.next;have xF:∀ y,y≠x→y∉[x]:=fun y hy hm=>hy (List.mem_singleton.1 hm);have vu:gH s7 t Q0 R0:=T7.congr (Dl.trans Dm.symm) (by funext i;rw[jk,D9]) (by funext i;rw[ji,D8]) (VS.trans Dn.symm);have fQ:Q0.aS t R0=Q0.aS t RR:=by unfold RQ.aS;rw[Dl,← Dm,VS,Dn]
 have oy:aC [x] s4 s8:=((k5.any.trans k6).trans k7.any).trans k8;have k18:aC [] s1 s8:=(fC.trans k4).step oy fun y hy=>.inr (by rw[List.mem_singleton.1 hy];exact k1.ok.fresh _ (by omega));have M8:Mem s1.next s8 x h r g t P0 R0 ⟨gb,none,0,2+x0%23,fun _=>0,fun _=>0,[],0⟩ Q0 R0:=by
  refine⟨c8,(((H0.aJ k3).aJ k4).aD oy fun y hy=>xF y (by have:=nP y hy;omega)),((A0.aJ k4).aD oy fun y hy=>xF y (by have:=nR y hy;omega)),((G5.aD k6 fun y hy=>xF y (by have:=nG y hy;omega)).aJ k7).aD k8 (fun y hy=>xF y (by have:=nG y hy;omega)),
   vu.aD k8 (fun y hy=>xF y (by rw[fQ] at hy;have:=nT y hy;omega)),?_,?_,?_,?_,?_,?_,?_,?_,?_,?_,by omega,fun y hy=>(nP y hy).1,fun y hy=>by have:=nR y hy;omega,fun y hy=>by have:=nG y hy;omega,fun y hy=>by rw[fQ] at hy;have:=nT y hy;omega⟩
  ·exact(yX (M:=s2.next) (fun y hy=>(nP y hy).2) (fun y hy=>by rw[List.mem_singleton.1 hy];omega)).symm
  ·exact(yX (M:=s3.next) (fun y hy=>(nR y hy).2) (fun y hy=>by rw[List.mem_singleton.1 hy];omega)).symm
  ·exact yX (M:=s4.next) (fun y hy=>by rw[List.mem_singleton.1 hy];omega) (fun y hy=>(nG y hy).1)
  ·rw[fQ];exact yX (M:=s4.next) (fun y hy=>by rw[List.mem_singleton.1 hy];omega) (fun y hy=>by have:=nT y hy;omega)
  ·exact yX (M:=s2.next) (fun y hy=>(nP y hy).2) (fun y hy=>(nR y hy).1)
  ·exact yX (M:=s2.next) (fun y hy=>(nP y hy).2) (fun y hy=>by have:=nG y hy;omega)
  ·rw[fQ];exact yX (M:=s2.next) (fun y hy=>(nP y hy).2) (fun y hy=>by have:=nT y hy;omega)
  ·exact yX (M:=s3.next) (fun y hy=>(nR y hy).2) (fun y hy=>by have:=nG y hy;omega)
  ·rw[fQ];exact yX (M:=s3.next) (fun y hy=>(nR y hy).2) (fun y hy=>by have:=nT y hy;omega)
  ·rw[fQ];exact yX (M:=s5.next) (fun y hy=>(nG y hy).2) (fun y hy=>by have:=nT y hy;omega)
 have S8:=E0.sim (b:=gb);have I8:=E0.inv (by omega);have Z8:=E0.Z;have hb8:=E0.born;have D6:=E0.N;have L8:PR.nY P0 R0:=⟨fun i=>.inl (jk i),fun i=>.inl (ji i),fun y hy=>by rw[VS] at hy;cases hy⟩;clear nT nG nR nP T7 vu fQ fT fG fR fP E0 H0 A0 G5;have Ux:fN s1.next s1 s8:=.iL k18;have uK:s.next≤s1.next:=k1.next;have V2:=(U2.aD (.iL k1)).mono uK;have V3:=(U3.aD (.iL k1)).mono uK;have V4:=(U4.aD (.iL k1)).mono uK;have V5:=(U5.aD (.iL k1)).mono uK;have V6:=(U6.aD (.iL k1)).mono uK;clear U2 U3 U4 U5 U6;refine aA fun jC dK iK=>?_;refine aA fun lO eG kY=>?_;simp only[cA,seval];refine eG _ _ ?_;refine cJ fun rE jI BO pS=>?_;have box:∀ s',fN s1.next s1 s'→Obj s' s.next [u8 x0,u8 x1,.slice a2 l2 sJ,.slice a3 l3 sK,.slice a4 l4 sL,.slice a5 l5 uJ,.slice a6 l6 yZ]:=fun s' k=>c1.aA2 k (by omega);refine gB (n:=min l2 40) (fun j a' s'=>a'.aB 1=ptr s.next∧a'.aB 9=ptr x∧a'.aB 10=int j∧∃ P G,Mem s1.next s' x h r g t P R0 G Q0 R0∧iW P G∧P.Inv∧P.Z∧P.N=2+x0%23∧P.born≤j∧G.L.length≤j∧fN s1.next s1 s')
  (fun j a' s'=>a'.aB 1=ptr s.next∧a'.aB 9=ptr x∧a'.aB 10=int j∧∃ P G,Mem s1.next s' x h r g t P R0 G Q0 R0∧iW P G∧P.Inv∧P.Z∧P.N=2+x0%23∧P.born≤j+1∧G.L.length≤j+1∧fN s1.next s1 s') ?_ ?_ ?_ ?_ (Nat.zero_le _) ?_
 ·rintro j a' s' hj ⟨r1,r9,cH,hW⟩ aV bP;obtain⟨P,G,M,S,I,Z,hN,hb,hl,K⟩:=hW;have lf:aG s'.look ⟨s.next,2,none⟩=some (.slice a2 l2 sJ):=(box s' K).load rfl;refine cL [(5,80)] (by kernel_rfl) fun O hO bC hR=>?_;have y5:∀ a,aO O a 5=aY (a.aB 80):=hO (5,80) (by simp);by_cases hc:(j:Int)<(l2:Int)
  ·simp only[cA,seval,y5,r1,cH,lf,hc,decide_true];refine hR _ _ (bP _ _ (decide ((j:Int)<40)) ?_ (by rw[decide_eq_true_eq];omega) ⟨?_,?_,?_,P,G,M,S,I,Z,hN,hb,hl,K⟩)
   all_goals simp only[cA,seval,r1,r9,cH]
  ·simp only[cA,seval,y5,r1,cH,lf,hc,decide_false];refine hR _ _ (bP _ _ false ?_ (by simp;omega) ⟨?_,?_,?_,P,G,M,S,I,Z,hN,hb,hl,K⟩)
   all_goals simp only[cA,seval,r1,r9,cH]
 ·rintro j a' s' hj ⟨r1,r9,cH,hW⟩ aV w1 w2 w3;obtain⟨P,G,M,S,I,Z,hN,hb,hl,K⟩:=hW;have iX:j<l2:=by omega
  have lf:aG s'.look ⟨s.next,2,none⟩=some (.slice a2 l2 sJ):=(box s' K).load rfl;obtain⟨b,off,m0,m1,m2,m3,rfl,GV,g0,g1,g2,g3,ln,l3⟩:=(V2.aD K).u_ iX;have p1:(0:Int)≤(j:Int):=Int.natCast_nonneg _;have p2:(j:Int)<((l2:Nat):Int):=by omega
  have tm3:(m3:Int).tmod 3=((m3%3:Nat):Int):=rfl;have ks:aC [] s' (s'.skip 34):=aC.skip K.ok _;refine aA fun sF iY rQ=>?_;refine dG [(8,6),(12,6)] [s.next,b] [] (by kernel_rfl) (by kernel_rfl) (by rfl) fun O hO bC hR=>?_;simp only[cA,seval,r1,r9,cH,lf,p1,p2,and_self,bQ,Int.toNat_natCast,ln];refine dL ?_ (aAo ks.ok (x3:=m3) g0 g1 g2 fun y s9 hy k9=>?_)
  ·simp only[cA,seval]
  have pf:=ks.trans k9;have K9:=K.trans (.iL pf);have lf9:aG s9.look ⟨s.next,2,none⟩=some (.slice (some ⟨b,off,none⟩) l2 sJ):=(box s9 K9).load rfl;have l39:aG s9.look ⟨b,off+j*4+3,none⟩=some (u8 m3):=mI pf (by simp) l3;have bk:Obj (s'.skip 34) s.next _:=box _ (K.trans (.iL ks));have h1:fJ (s'.skip 34) s9 s.next=true:=bk.same ks.ok k9 (by simp);have h2:fJ (s'.skip 34) s9 b=true:=CK (mI ks (by simp) l3) ks.ok k9 (by simp);have z1:(0:Int)≤3:=by omega
  have z2:(3:Int)<((4:Nat):Int):=by omega
  simp only[cA,seval,r1,cH,lf9,p1,p2,z1,and_self,bQ,Int.toNat_natCast,show Int.toNat 3=3 from rfl,Nat.mul_one,l39,w m3 g3,tm3];refine⟨eP h1 (eP h2 fO),?_⟩;refine dL ?_ (aAk k9.ok (M.aJ pf) S I hy (sp:=((m3%3:Nat):Int)) ⟨by omega,by omega⟩ (by omega) (by omega) fun P' G' jU M' S' I' Z' jd hb' hl' df=>?_)
  ·simp only[cA,seval]
  simp only[cA,seval];refine hR _ _ (iY _ _ ?_);simp only[cA,seval];refine w1 _ _ ⟨?_,?_,?_,P',G',M',S',I',Z' Z,jd.trans hN,by omega,by omega,K9.trans df⟩
  all_goals simp only[cA,seval,r1,r9,cH]
 ·rintro j a' s' hj ⟨r1,r9,cH,hW⟩ aV w1;have ww:IntKind.i64.wrap ((j:Int)+1)=((j+1:Nat):Int):=by rw[aU (by omega) (by omega)];rfl
  simp only[cA,seval,cH,ww];refine w1 _ _ ⟨?_,?_,?_,hW⟩
  all_goals try simp only[cA,seval,r1,r9]
 ·rintro a' s' ⟨r1,r9,cH,hW⟩;refine BO _ _ (dK _ _ ?_);refine aA fun wV lU vU=>?_;refine aA fun DB tN tO=>?_;simp only[cA,seval];refine tN _ _ ?_;refine cJ fun NS uO Gh xN=>?_;refine gB (n:=min l3 20) (fun j a' s'=>a'.aB 1=ptr s.next∧a'.aB 9=ptr x∧a'.aB 11=int j∧∃ P G,Mem s1.next s' x h r g t P R0 G Q0 R0∧iW P G∧P.Inv∧P.Z∧P.N=2+x0%23∧P.born≤40∧fN s1.next s1 s')
   (fun j a' s'=>a'.aB 1=ptr s.next∧a'.aB 9=ptr x∧a'.aB 11=int j∧∃ P G,Mem s1.next s' x h r g t P R0 G Q0 R0∧iW P G∧P.Inv∧P.Z∧P.N=2+x0%23∧P.born≤40∧fN s1.next s1 s') ?_ ?_ ?_ ?_ (Nat.zero_le _) ?_
  ·rintro j a' s' hj ⟨r1,r9,eZ,hW⟩ aV bP;have K:fN s1.next s1 s':=by obtain⟨P,G,M,S,I,Z,hN,hb,K⟩:=hW;exact K
   have lf:aG s'.look ⟨s.next,3,none⟩=some (.slice a3 l3 sK):=(box s' K).load rfl;refine cL [(5,108)] (by kernel_rfl) fun O hO bC hR=>?_;have y5:∀ a,aO O a 5=aY (a.aB 108):=hO (5,108) (by simp);by_cases hc:(j:Int)<(l3:Int)
   ·simp only[cA,seval,y5,r1,eZ,lf,hc,decide_true];refine hR _ _ (bP _ _ (decide ((j:Int)<20)) ?_ (by rw[decide_eq_true_eq];omega) ⟨?_,?_,?_,hW⟩)
    all_goals simp only[cA,seval,r1,r9,eZ]
   ·simp only[cA,seval,y5,r1,eZ,lf,hc,decide_false];refine hR _ _ (bP _ _ false ?_ (by simp;omega) ⟨?_,?_,?_,hW⟩)
    all_goals simp only[cA,seval,r1,r9,eZ]
  ·rintro j a' s' hj ⟨r1,r9,eZ,hW⟩ aV w1 w2 w3;obtain⟨P,G,M,S,I,Z,hN,hb,K⟩:=hW;have iX:j<l3:=by omega
   have lf:aG s'.look ⟨s.next,3,none⟩=some (.slice a3 l3 sK):=(box s' K).load rfl;obtain⟨b,off,m,rfl,GV,g0,lm⟩:=(V3.aD K).xB iX (show 0<1 by omega);have lm:aG s'.look ⟨b,off+j,none⟩=some (u8 m):=by rw[Nat.mul_one] at lm;exact lm
   have p1:(0:Int)≤(j:Int):=Int.natCast_nonneg _;have p2:(j:Int)<((l3:Nat):Int):=by omega
   have uf:(m:Int).tmod 100=((m%100:Nat):Int):=rfl;refine aA fun DC pE ED=>?_;simp only[cA,seval,r1,r9,eZ,lf,p1,p2,and_self,bQ,Int.toNat_natCast,Nat.mul_one,lm,w m g0,uf];refine aH ?_ (QK K.ok M S I (n:=m%100) (by omega) fun a s9 ha nN k9=>?_)
   ·simp only[cA,seval]
   simp only[cA,seval];refine pE _ _ ?_;have M9:=M.aJ k9;have ks:aC [] s9 (s9.skip 26):=aC.skip k9.ok _;have Mk:=M9.aJ ks;refine aA fun NU tP LN=>?_;refine dG [(9,5)] [x] [] (by kernel_rfl) (by kernel_rfl) (by rfl) fun O hO bC hR=>?_;simp only[cA,seval,r9,M9.l2];refine dL ?_ (aEd ks.ok Mk.K S I a fun G1 F jU H1 S1 hF hf k10=>?_)
   ·simp only[cA,seval]
   have xA:=Mk.SC ks.ok k10 hF H1 hf;have fZ:fJ (s9.skip 26) jU x=true:=Mk.c.same ks.ok k10 (fun hm=>M.xG x (List.mem_singleton.2 rfl) (hF x hm));simp only[cA,seval,r9,xA.l0];refine⟨eP fZ fO,?_⟩;refine dL ?_ (Dy k10.ok xA.H I.bX a nN fun BA NX k11=>?_)
   ·simp only[cA,seval]
   simp only[cA,seval,beq_self_eq_true];refine hR _ _ (tP _ _ ?_);simp only[cA,seval];have OX:∀ z∈[P.nw,P.su,P.pu,P.mp],z∈P.aS h:=fun z hz=>by
    simp only[List.mem_cons,List.not_mem_nil,or_false] at hz;unfold PH.aS;rcases hz with rfl | rfl | rfl | rfl <;> simp
   have hfo:(if P.has a=true then P.kill a else P).aS h=P.aS h:=by split <;> rfl
   have JS:=xA.MZ k10.ok k11 OX NX hfo;have hp:(if P.has a=true then P.kill a else P).Inv∧(if P.has a=true then P.kill a else P).Z∧(if P.has a=true then P.kill a else P).N=P.N∧(if P.has a=true then P.kill a else P).born=P.born:=by
    split
    ·rename_i hh;exact⟨I.kill hh,Z.kill I hh,rfl,rfl⟩
    ·exact⟨I,Z,rfl,rfl⟩
   refine w1 _ _ ⟨?_,?_,?_,_,G1,JS,S1,hp.1,hp.2.1,hp.2.2.1.trans hN,by omega,((K.trans (.iL (k9.trans ks))).trans (.of k10 fun z hz=>M.lG z (hF z hz))).trans (.of k11 fun z hz=>M.lP z (OX z hz))⟩
   all_goals simp only[cA,seval,r1,r9,eZ]
  ·rintro j a' s' hj ⟨r1,r9,eZ,hW⟩ aV w1;have ww:IntKind.i64.wrap ((j:Int)+1)=((j+1:Nat):Int):=by rw[aU (by omega) (by omega)];rfl
   simp only[cA,seval,eZ,ww];refine w1 _ _ ⟨?_,?_,?_,hW⟩
   all_goals try simp only[cA,seval,r1,r9]
  ·rintro a' s' ⟨r1,r9,eZ,hW⟩;refine Gh _ _ (lU _ _ ?_);refine aA fun uv LO mz=>?_;refine aA fun TB sR QB=>?_;simp only[cA,seval];refine sR _ _ ?_;refine cJ fun FR nQ nc zZ=>?_;refine gB (n:=min l4 120) (fun j a' s'=>a'.aB 1=ptr s.next∧a'.aB 9=ptr x∧a'.aB 13=int j∧∃ P G,Mem s1.next s' x h r g t P R0 G Q0 R0∧iW P G∧P.Inv∧P.Sound∧P.N=2+x0%23∧P.born≤40∧fN s1.next s1 s')
    (fun j a' s'=>a'.aB 1=ptr s.next∧a'.aB 9=ptr x∧a'.aB 13=int j∧∃ P G,Mem s1.next s' x h r g t P R0 G Q0 R0∧iW P G∧P.Inv∧P.Sound∧P.N=2+x0%23∧P.born≤40∧fN s1.next s1 s') ?_ ?_ ?_ ?_ (Nat.zero_le _) ?_
   ·rintro j a' s' hj ⟨r1,r9,fX,hW⟩ aV bP;have K:fN s1.next s1 s':=by obtain⟨P,G,M,S,I,Z,hN,hb,K⟩:=hW;exact K
    have lf:aG s'.look ⟨s.next,4,none⟩=some (.slice a4 l4 sL):=(box s' K).load rfl;refine cL [(5,141)] (by kernel_rfl) fun O hO bC hR=>?_;have y5:∀ a,aO O a 5=aY (a.aB 141):=hO (5,141) (by simp);by_cases hc:(j:Int)<(l4:Int)
    ·simp only[cA,seval,y5,r1,fX,lf,hc,decide_true];refine hR _ _ (bP _ _ (decide ((j:Int)<120)) ?_ (by rw[decide_eq_true_eq];omega) ⟨?_,?_,?_,hW⟩)
     all_goals simp only[cA,seval,r1,r9,fX]
    ·simp only[cA,seval,y5,r1,fX,lf,hc,decide_false];refine hR _ _ (bP _ _ false ?_ (by simp;omega) ⟨?_,?_,?_,hW⟩)
     all_goals simp only[cA,seval,r1,r9,fX]
   ·rintro j a' s' hj ⟨r1,r9,fX,hW⟩ aV w1 w2 w3;obtain⟨P,G,M,S,I,Z,hN,hb,K⟩:=hW;have iX:j<l4:=by omega
    have lf:aG s'.look ⟨s.next,4,none⟩=some (.slice a4 l4 sL):=(box s' K).load rfl;obtain⟨b,off,m0,m1,m2,rfl,GV,g0,g1,g2,ln⟩:=(V4.aD K).t_ iX;have p1:(0:Int)≤(j:Int):=Int.natCast_nonneg _;have p2:(j:Int)<((l4:Nat):Int):=by omega
    obtain⟨t1,f1,k9,d1,v1⟩:=cI K.ok (L:=[.int .u8 0,.int .u8 0,.int .u8 0]) (n:=3) (e:=106) rfl;obtain⟨t2,f2,d2,k10⟩:=d1.storeAll k9.ok (vs:=[u8 m0,u8 m1,u8 m2]) rfl rfl;have k11:aC [] s' t2:=k9.step k10 fun y hy=>.inr (by rw[List.mem_singleton.1 hy];exact K.ok.fresh _ (Nat.le_refl _));refine aA fun NV rR LP=>?_;simp only[cA,seval,r1,fX,lf,p1,p2,and_self,bQ,Int.toNat_natCast,ln];rw[f1];simp only[cA,seval,f2];refine rR _ _ ?_;have z0:(0:Int)≤0:=by omega
    have z1:(0:Int)≤1:=by omega
    have z2:(0:Int)≤2:=by omega
    have z03:(0:Int)<((3:Nat):Int):=by omega
    have z13:(1:Int)<((3:Nat):Int):=by omega
    have z23:(2:Int)<((3:Nat):Int):=by omega
    have e0:aG t2.look ⟨s'.next,0,none⟩=some (u8 m0):=d2.load rfl;have tm0:(m0:Int).tmod 100=((m0%100:Nat):Int):=rfl;have ud:(m2:Int).tmod 100=((m2%100:Nat):Int):=rfl;refine aA fun ck BP XD=>?_;simp only[cA,seval,r9,z0,and_self,bQ,show Int.toNat 0=0 from rfl,Nat.zero_mul,Nat.zero_add,e0,w m0 g0,tm0];have JS:=M.aJ k11;refine aH ?_ (QK k11.ok JS S I (n:=m0%100) (by omega) fun a s9 ha nN k12=>?_)
    ·simp only[cA,seval]
    simp only[cA,seval];refine BP _ _ ?_;have dp:=JS.aJ k12;refine aA fun cn AA LQ=>?_;simp only[cA,seval,r9,dp.l2];refine aH ?_ (aEp k12.ok dp.K S.L a fun jU kZ=>?_)
    ·simp only[cA,seval]
    obtain⟨t3,f3,LS,d3,v3⟩:=cI kZ.ok (L:=[int 0,int 0,int 0]) (n:=3) (e:=44) rfl;obtain⟨t4,f4,d4,k15⟩:=d3.storeAll LS.ok (vs:=[int (P.aM a).r,int (P.aM a).d,int (P.aM a).k]) rfl rfl;have LU:aC [] jU t4:=LS.step k15 fun y hy=>.inr (by rw[List.mem_singleton.1 hy];exact kZ.ok.fresh _ (Nat.le_refl _));simp only[cA,seval];rw[f3];simp only[cA,seval,f4];refine AA _ _ ?_;have dq:=(dp.aJ kZ).aJ LU;have d16:=((d2.aD k12 (by simp)).aD kZ (by simp)).aD LU (by simp);have lr:aG t4.look ⟨jU.next,0,none⟩=some (int (P.aM a).r):=d4.load rfl;have dh:=K.trans (.iL (((k11.trans k12).trans kZ).trans LU));have ks:aC [] t4 (t4.skip 50):=aC.skip LU.ok _;refine aA fun ct xO XE=>?_;refine dG [(11,21),(14,21)] [s'.next,jU.next] [(2,169),(7,174)] (by kernel_rfl) (by kernel_rfl) (by rfl) fun O hO bC hR=>?_;have y2:∀ a,aO O a 2=aY (a.aB 169):=hO (2,169) (by simp);have y7:∀ a,aO O a 7=aY (a.aB 174):=hO (7,174) (by simp);cases hh:P.has a with
    | false =>
     simp only[cA,seval,y2,y7];refine hR _ _ (xO _ _ ?_);simp only[cA,seval];refine w1 _ _ ⟨?_,?_,?_,P,G,dq.aJ ks,S,I,Z,hN,hb,dh.trans (.iL ks)⟩
     all_goals simp only[cA,seval,r1,r9,fX]
    | true =>
     by_cases Fp:(P.aM a).r>0
     ·have hz:¬ ((P.aM a).r=0):=by omega
      have e1:aG t4.look ⟨s'.next,1,none⟩=some (u8 m1):=d16.load rfl;have e2:aG t4.look ⟨s'.next,2,none⟩=some (u8 m2):=d16.load rfl;simp only[cA,seval,y2,y7,lr,Fp,decide_true,r9,z1,z2,and_self,bQ,show Int.toNat 1=1 from rfl,show Int.toNat 2=2 from rfl,Nat.mul_one,Nat.zero_add,e1,e2,w m1 g1,w m2 g2,hz,ud];have Mk:=dq.aJ ks;refine dL ?_ (QK ks.ok Mk S I (n:=m2%100) (by omega) fun to BA mh mi QD=>?_)
      ·simp only[cA,seval]
      have h1:fJ (t4.skip 50) BA s'.next=true:=(d16.aD ks (by simp)).same ks.ok QD (by simp);have h2:fJ (t4.skip 50) BA jU.next=true:=(d4.aD ks (by simp)).same ks.ok QD (by simp);simp only[cA,seval,y7];refine⟨eP h1 (eP h2 fO),?_⟩;refine dL ?_ (aAi QD.ok (Mk.aJ QD) S I nN mi (i:=(m1:Int).tmod (P.aM a).r) fun G' IV M' S' Uw=>?_)
      ·simp only[cA,seval]
      simp only[cA,seval,y7];refine hR _ _ (xO _ _ ?_);simp only[cA,seval];have WX:=P.ax a ((m1:Int).tmod (P.aM a).r) to;have hbn:(P.setRef a ((m1:Int).tmod (P.aM a).r) to).born=P.born:=by unfold PH.setRef;split <;> rfl
      refine w1 _ _ ⟨?_,?_,?_,_,G',M',S',I.setRef _ _ _,Z.setRef I _ _ _ mh,WX.1.trans hN,by omega,(dh.trans (.iL (ks.trans QD))).trans Uw⟩
      all_goals simp only[cA,seval,r1,r9,fX]
     ·simp only[cA,seval,y2,y7,lr,Fp,decide_false];refine hR _ _ (xO _ _ ?_);simp only[cA,seval];refine w1 _ _ ⟨?_,?_,?_,P,G,dq.aJ ks,S,I,Z,hN,hb,dh.trans (.iL ks)⟩
      all_goals simp only[cA,seval,r1,r9,fX]
   ·rintro j a' s' hj ⟨r1,r9,fX,hW⟩ aV w1;have ww:IntKind.i64.wrap ((j:Int)+1)=((j+1:Nat):Int):=by rw[aU (by omega) (by omega)];rfl
    simp only[cA,seval,fX,ww];refine w1 _ _ ⟨?_,?_,?_,hW⟩
    all_goals try simp only[cA,seval,r1,r9]
   ·rintro a' s' ⟨r1,r9,fX,hW⟩;refine nc _ _ (LO _ _ ?_);refine aA fun Uk HO Gi=>?_;refine aA fun cu BQ XF=>?_;simp only[cA,seval];refine BQ _ _ ?_;refine cJ fun aHm Gj X8 X7=>?_;refine gB (n:=min l5 20) (fun j a' s'=>a'.aB 1=ptr s.next∧a'.aB 9=ptr x∧a'.aB 18=int j∧∃ P G R Q,Mem s1.next s' x h r g t P R G Q R∧iW P G∧P.Inv∧P.Sound∧P.N=2+x0%23∧P.born≤40∧fN s1.next s1 s'∧PR.nY P R)
     (fun j a' s'=>a'.aB 1=ptr s.next∧a'.aB 9=ptr x∧a'.aB 18=int j∧∃ P G R Q,Mem s1.next s' x h r g t P R G Q R∧iW P G∧P.Inv∧P.Sound∧P.N=2+x0%23∧P.born≤40∧fN s1.next s1 s'∧PR.nY P R) ?_ ?_ ?_ ?_ (Nat.zero_le _) ?_
    ·rintro j a' s' hj ⟨r1,r9,oN,hW⟩ aV bP;have K:fN s1.next s1 s':=by obtain⟨P,G,R,Q,M,S,I,Z,hN,hb,K,hL⟩:=hW;exact K
     have lf:aG s'.look ⟨s.next,5,none⟩=some (.slice a5 l5 uJ):=(box s' K).load rfl;refine cL [(5,197)] (by kernel_rfl) fun O hO bC hR=>?_;have y5:∀ a,aO O a 5=aY (a.aB 197):=hO (5,197) (by simp);by_cases hc:(j:Int)<(l5:Int)
     ·simp only[cA,seval,y5,r1,oN,lf,hc,decide_true];refine hR _ _ (bP _ _ (decide ((j:Int)<20)) ?_ (by rw[decide_eq_true_eq];omega) ⟨?_,?_,?_,hW⟩)
      all_goals simp only[cA,seval,r1,r9,oN]
     ·simp only[cA,seval,y5,r1,oN,lf,hc,decide_false];refine hR _ _ (bP _ _ false ?_ (by simp;omega) ⟨?_,?_,?_,hW⟩)
      all_goals simp only[cA,seval,r1,r9,oN]
    ·rintro j a' s' hj ⟨r1,r9,oN,hW⟩ aV w1 w2 w3;obtain⟨P,G,R,Q,M,S,I,Z,hN,hb,K,hL⟩:=hW;have iX:j<l5:=by omega
     have lf:aG s'.look ⟨s.next,5,none⟩=some (.slice a5 l5 uJ):=(box s' K).load rfl;obtain⟨b,off,m0,rfl,GV,g0,YA⟩:=(V5.aD K).xB iX (show 0<2 by omega);obtain⟨b',off',m1,eb,_,g1,lm1⟩:=(V5.aD K).xB iX (show 1<2 by omega);cases eb;have YA:aG s'.look ⟨b,off+j*2,none⟩=some (u8 m0):=YA;have p1:(0:Int)≤(j:Int):=Int.natCast_nonneg _;have p2:(j:Int)<((l5:Nat):Int):=by omega
     have tm1:(m1:Int).tmod 100=((m1%100:Nat):Int):=rfl;have z0:(0:Int)≤0:=by omega
     have z1:(0:Int)≤1:=by omega
     have z02:(0:Int)<((2:Nat):Int):=by omega
     have z12:(1:Int)<((2:Nat):Int):=by omega
     have ks:aC [] s' (s'.skip 40):=aC.skip K.ok _;refine aA fun aHn nf X9=>?_;refine dG [(2,17),(6,17)] [s.next,b] [] (by kernel_rfl) (by kernel_rfl) (by rfl) fun O hO bC hR=>?_;simp only[cA,seval,r1,r9,oN,lf,p1,p2,z0,z1,and_self,bQ,Int.toNat_natCast,show Int.toNat 0=0 from rfl,show Int.toNat 1=1 from rfl,Nat.add_zero,Nat.mul_one,YA,lm1,w m0 g0,w m1 g1,tm1];have Mk:=M.aJ ks;refine dL ?_ (QK ks.ok Mk S I (n:=m1%100) (by omega) fun to s9 mh mi k9=>?_)
     ·simp only[cA,seval]
     have bk:Obj (s'.skip 40) s.next _:=box _ (K.trans (.iL ks));have h1:fJ (s'.skip 40) s9 s.next=true:=bk.same ks.ok k9 (by simp);have h2:fJ (s'.skip 40) s9 b=true:=CK (mI ks (by simp) YA) ks.ok k9 (by simp);simp only[cA,seval];refine⟨eP h1 (eP h2 fO),?_⟩;refine dL ?_ (aAn k9.ok (Mk.aJ k9) (n:=m0) g0 mi mh fun R' Q' jU M' GR hm' df=>?_)
     ·simp only[cA,seval]
     simp only[cA,seval];refine hR _ _ (nf _ _ ?_);simp only[cA,seval];refine w1 _ _ ⟨?_,?_,?_,P,G,R',Q',M',S,I,Z,hN,hb,(K.trans (.iL (ks.trans k9))).trans df,GR hL⟩
     all_goals simp only[cA,seval,r1,r9,oN]
    ·rintro j a' s' hj ⟨r1,r9,oN,hW⟩ aV w1;have ww:IntKind.i64.wrap ((j:Int)+1)=((j+1:Nat):Int):=by rw[aU (by omega) (by omega)];rfl
     simp only[cA,seval,oN,ww];refine w1 _ _ ⟨?_,?_,?_,hW⟩
     all_goals try simp only[cA,seval,r1,r9]
    ·rintro a' s' ⟨r1,r9,oN,hW⟩;refine X8 _ _ (HO _ _ ?_);refine aA fun uw HP ni=>?_;refine aA fun ux HQ nu=>?_;simp only[cA,seval];refine HQ _ _ ?_;refine cJ fun aHo Gk Y0 X_=>?_;refine gB (n:=min l6 8) (fun j a' s'=>a'.aB 1=ptr s.next∧a'.aB 9=ptr x∧a'.aB 19=int j∧∃ P G R Q,Mem s1.next s' x h r g t P R G Q R∧iW P G∧P.Inv∧P.Sound∧P.N=2+x0%23∧P.born≤40∧fN s1.next s1 s'∧PR.nY P R)
      (fun j a' s'=>a'.aB 1=ptr s.next∧a'.aB 9=ptr x∧a'.aB 19=int j∧∃ P G R Q,Mem s1.next s' x h r g t P R G Q R∧iW P G∧P.Inv∧P.Sound∧P.N=2+x0%23∧P.born≤40∧fN s1.next s1 s'∧PR.nY P R) ?_ ?_ ?_ ?_ (Nat.zero_le _) ?_
     ·rintro j a' s' hj ⟨r1,r9,gC,hW⟩ aV bP;have K:fN s1.next s1 s':=by obtain⟨P,G,R,Q,M,S,I,Z,hN,hb,K,hL⟩:=hW;exact K
      have lf:aG s'.look ⟨s.next,6,none⟩=some (.slice a6 l6 yZ):=(box s' K).load rfl;refine cL [(5,228)] (by kernel_rfl) fun O hO bC hR=>?_;have y5:∀ a,aO O a 5=aY (a.aB 228):=hO (5,228) (by simp);by_cases hc:(j:Int)<(l6:Int)
      ·simp only[cA,seval,y5,r1,gC,lf,hc,decide_true];refine hR _ _ (bP _ _ (decide ((j:Int)<8)) ?_ (by rw[decide_eq_true_eq];omega) ⟨?_,?_,?_,hW⟩)
       all_goals simp only[cA,seval,r1,r9,gC]
      ·simp only[cA,seval,y5,r1,gC,lf,hc,decide_false];refine hR _ _ (bP _ _ false ?_ (by simp;omega) ⟨?_,?_,?_,hW⟩)
       all_goals simp only[cA,seval,r1,r9,gC]
     ·rintro j a' s' hj ⟨r1,r9,gC,hW⟩ aV w1 w2 w3;obtain⟨P,G,R,Q,M,S,I,Z,hN,hb,K,hL⟩:=hW;have iX:j<l6:=by omega
      have lf:aG s'.look ⟨s.next,6,none⟩=some (.slice a6 l6 yZ):=(box s' K).load rfl;obtain⟨b,off,m,rfl,GV,g0,lm⟩:=(V6.aD K).xB iX (show 0<1 by omega);have lm:aG s'.look ⟨b,off+j,none⟩=some (u8 m):=by rw[Nat.mul_one] at lm;exact lm
      have p1:(0:Int)≤(j:Int):=Int.natCast_nonneg _;have p2:(j:Int)<((l6:Nat):Int):=by omega
      have uf:(m:Int).tmod 100=((m%100:Nat):Int):=rfl;refine aA fun aHp nv Y1=>?_;simp only[cA,seval,r1,r9,gC,lf,p1,p2,and_self,bQ,Int.toNat_natCast,Nat.mul_one,lm,w m g0,uf];refine aH ?_ (QK K.ok M S I (n:=m%100) (by omega) fun a s9 ha nN k9=>?_)
      ·simp only[cA,seval]
      simp only[cA,seval];refine nv _ _ ?_;have M9:=M.aJ k9;have ks:aC [] s9 (s9.skip 26):=aC.skip k9.ok _;have Mk:=M9.aJ ks;refine aA fun aHq ny Y2=>?_;refine dG [(9,5)] [x] [] (by kernel_rfl) (by kernel_rfl) (by rfl) fun O hO bC hR=>?_;simp only[cA,seval,r9,M9.l2];refine dL ?_ (aEj ks.ok Mk.K S I a fun G1 F jU H1 S1 hF hf k10=>?_)
      ·simp only[cA,seval]
      have xA:=Mk.SC ks.ok k10 hF H1 hf;have fZ:fJ (s9.skip 26) jU x=true:=Mk.c.same ks.ok k10 (fun hm=>M.xG x (List.mem_singleton.2 rfl) (hF x hm));simp only[cA,seval,r9,xA.l0];refine⟨eP fZ fO,?_⟩;refine dL ?_ (I_ k10.ok xA.H a nN fun BA NX k11=>?_)
      ·simp only[cA,seval]
      simp only[cA,seval,beq_self_eq_true];refine hR _ _ (ny _ _ ?_);simp only[cA,seval];have OX:∀ z∈[P.pu],z∈P.aS h:=fun z hz=>by
       simp only[List.mem_cons,List.not_mem_nil,or_false] at hz;unfold PH.aS;subst hz;simp
      have hfo:(P.fD a 1).aS h=P.aS h∧(P.fD a 1).N=P.N∧(P.fD a 1).born=P.born∧(∀ b,(P.fD a 1).has b=P.has b)∧(∀ b i,(P.fD a 1).ref b i=P.ref b i):=by unfold PH.fD;split <;> exact⟨rfl,rfl,rfl,fun _=>rfl,fun _ _=>rfl⟩
      have JS:=xA.MZ k10.ok k11 OX NX hfo.1;refine w1 _ _ ⟨?_,?_,?_,_,G1,R,Q,JS,S1,I.fD a 1,fun b i=>by rw[hfo.2.2.2.2,hfo.2.2.2.1];exact Z b i,hfo.2.1.trans hN,by rw[hfo.2.2.1];exact hb,((K.trans (.iL (k9.trans ks))).trans (.of k10 fun z hz=>M.lG z (hF z hz))).trans (.of k11 fun z hz=>M.lP z (OX z hz)),⟨fun i=>by rw[hfo.2.2.2.1];exact hL.sl i,fun i=>by rw[hfo.2.2.2.1];exact hL.gl i,fun y hy=>by rw[hfo.2.2.2.1];exact hL.q y hy⟩⟩
      all_goals simp only[cA,seval,r1,r9,gC]
     ·rintro j a' s' hj ⟨r1,r9,gC,hW⟩ aV w1;have ww:IntKind.i64.wrap ((j:Int)+1)=((j+1:Nat):Int):=by rw[aU (by omega) (by omega)];rfl
      simp only[cA,seval,gC,ww];refine w1 _ _ ⟨?_,?_,?_,hW⟩
      all_goals try simp only[cA,seval,r1,r9]
     ·rintro a' s' ⟨r1,r9,gC,hW⟩;refine Y0 _ _ (HP _ _ ?_);obtain⟨P,G,R,Q,M,S,I,Z,hN,hb,K,hL⟩:=hW;simp only[cA,seval,r9];exact hΦ x h r g t P R G Q s' (M.mono uK) S I Z hL (by omega) hb (K.back hs uK k1)
     ·refine⟨?_,?_,?_,hW⟩
      all_goals try simp only[cA,seval,r1,r9]
      try rfl
    ·obtain⟨P,G,M,S,I,Z,hN,hb,K⟩:=hW;refine⟨?_,?_,?_,P,G,R0,Q0,M,S,I,Z,hN,hb,K,⟨fun i=>.inl (jk i),fun i=>.inl (ji i),fun y hy=>by rw[VS] at hy;cases hy⟩⟩
     all_goals try simp only[cA,seval,r1,r9]
     try rfl
   ·obtain⟨P,G,M,S,I,Z,hN,hb,K⟩:=hW;refine⟨?_,?_,?_,P,G,M,S,I,Z.sound,hN,hb,K⟩
    all_goals try simp only[cA,seval,r1,r9]
    try rfl
  ·obtain⟨P,G,M,S,I,Z,hN,hb,hl,K⟩:=hW;refine⟨?_,?_,?_,P,G,M,S,I,Z,hN,by omega,K⟩
   all_goals try simp only[cA,seval,r1,r9]
   try rfl
 ·refine⟨?_,?_,?_,P0,_,M8,S8,I8,Z8,D6,by omega,Nat.zero_le _,Ux⟩
  all_goals try simp only[cA,seval,hx]
  try rfl
end
open Go.Proofs
set_option maxRecDepth 100000
set_option maxHeartbeats 2000000
namespace PH
theorem Inv.uU {P:PH} (I:P.Inv) (a v:Int):(P.uU a v).Inv:=by
 unfold PH.uU;split
 ·rename_i hp;unfold CD at hp;split at hp
  ·rename_i o ho;obtain⟨h1,h2,h3⟩:=(Bx I.bX).1 ho;exact I.eH (o:=o) ⟨h1,(of_decide_eq_true hp).1,h3⟩
  ·cases hp
 ·exact I
theorem rk (P:PH) (a v:Int):(P.uU a v).nw=P.nw:=by unfold PH.uU;split <;> rfl
theorem aDt (P:PH) (a v:Int) (h:Nat):(P.uU a v).aS h=P.aS h:=by unfold PH.uU;split <;> rfl
end PH
section
variable (nb nw st su pt pu mp mf:Nat)
abbrev OD:PH:=⟨nb,nw,st,su,pt,pu,mp,mf,4,fun _=>0,fun _=>0,fun _=>0,fun _=>0,fun _=>0,[],0⟩
abbrev TO:PH:=(OD nb nw st su pt pu mp mf).oA 1 1 1 0 0 0
abbrev TP:PH:=(TO nb nw st su pt pu mp mf).place 64 ⟨2,1,0⟩
abbrev dz:PH:=(TP nb nw st su pt pu mp mf).place 70 ⟨0,0,0⟩
abbrev ee:PH:=(dz nb nw st su pt pu mp mf).uU 66 71
abbrev xc:PH:=(ee nb nw st su pt pu mp mf).uU 67 4097
theorem Vp:(OD nb nw st su pt pu mp mf).nJ 1 1 0=0:=by kernel_rfl
theorem xd:(TO nb nw st su pt pu mp mf).qP 64 ⟨2,1,0⟩=0:=by kernel_rfl
theorem xe:(TP nb nw st su pt pu mp mf).qP 70 ⟨0,0,0⟩=0:=by kernel_rfl
theorem Vq:(dz nb nw st su pt pu mp mf).ZQ 66=0:=by kernel_rfl
theorem Vr:(ee nb nw st su pt pu mp mf).ZQ 67=0:=by kernel_rfl
theorem Vs:(xc nb nw st su pt pu mp mf).qG=[(0,64,0),(2,64,1)]:=by kernel_rfl
theorem Vt:(TP nb nw st su pt pu mp mf).M.lookup 2=none:=by kernel_rfl
theorem Vu:jP [(0,64,0),(2,64,1)]=[(0,64,0),(2,64,1)]:=Cj (by simp[oB]) (.refl _)
end
section
variable {kc:Kc} {q:Bool} {s:St} {Φ:Value→St→Prop}
theorem gR:type_of% (B9 @RX @KG @KE @KH @KF @TW @JY @TX (B2 @TY @zj)):=B9 @RX @KG @KE @KH @KF @TW @JY @TX (B2 @TY @zj)
theorem HZ (hs:Ok s) (hΦ:∀ s',aC [] s s'→Φ (.bool true) s'):okF q X (KO kc) 15 [] s Φ:=by
 have i4:∀ x:Int,0≤x→x<5000→i64 x:=fun x h1 h2=>⟨by omega,by omega⟩;refine aW Tryz.func15 (by kernel_rfl) rfl rfl (rs:=[.tmp 0]) rfl (N:=91) rfl rfl ?_;refine aA fun bF aF bD=>?_;simp only[gR,seval];refine aF _ _ ?_;refine aA fun Ψ1 aE aL=>?_;simp only[gR,seval];refine aH ?_ (Dz hs (n:=4) (n':=4) rfl (by omega) (by omega) fun s1 h P H E fP k1=>?_)
 ·simp only[gR,seval]
 try simp only[gR,seval]
 refine aE _ _ ?_;refine aA fun Ψ2 aI bH=>?_;simp only[gR,seval];refine aH ?_ (Np k1.ok (m:=1) (m':=1) rfl (by omega) (by omega) fun r R s2 A Rm Rs Rg Rq Rv fR k2=>?_)
 ·simp only[gR,seval]
 try simp only[gR,seval]
 refine aI _ _ ?_;have I:=E.inv (by omega);obtain⟨nb,nw,st,su,pt,pu,mp,mf,N,bs,bp,w,S,Q,M,born⟩:=P;obtain⟨e1,e2,e3,e4,e5,e6,e7,e8⟩:=E;simp only at e1 e2 e3 e4 e5 e6 e7 e8;subst e1 e2 e3 e4 e5 e6 e7 e8;have I1:(TO nb nw st su pt pu mp mf).Inv:=I.oA (by omega) (by omega) (fun h=>by omega);have I2:(TP nb nw st su pt pu mp mf).Inv:=I1.place (PH.ZY I1.bX rfl (xd ..));have I3:(dz nb nw st su pt pu mp mf).Inv:=I2.place (PH.ZY I2.bX rfl (xe ..));have I4:(ee nb nw st su pt pu mp mf).Inv:=I3.uU _ _;have I5:(xc nb nw st su pt pu mp mf).Inv:=I4.uU _ _;have q1:=Vp nb nw st su pt pu mp mf;have q2:=xd nb nw st su pt pu mp mf;have q3:=xe nb nw st su pt pu mp mf;have q4:=Vq nb nw st su pt pu mp mf;have q5:=Vr nb nw st su pt pu mp mf;have q6:=Vs nb nw st su pt pu mp mf;have q7:=Vt nb nw st su pt pu mp mf;have fr:∀ y∈PH.aS h (OD nb nw st su pt pu mp mf),s.next≤y:=fP;have H2:=H.aJ k2;refine aA fun Ψ3 aN bM=>?_;refine aA fun Ψ4 aP cC=>?_;refine cL [(2,21),(6,25),(10,29),(14,33)] (by kernel_rfl) fun O hO bC hR=>?_;have y2:∀ a,aO O a 2=aY (a.aB 21):=hO (2,21) (by simp);have y6:∀ a,aO O a 6=aY (a.aB 25):=hO (6,25) (by simp);have NR:∀ a,aO O a 10=aY (a.aB 29):=hO (10,29) (by simp);have oV:∀ a,aO O a 14=aY (a.aB 33):=hO (14,33) (by simp);simp only[gR,seval,y2,y6,NR,oV];refine aH ?_ (Dx k2.ok H2 1 0 (by omega) fun s3 H3 k3=>?_)
 ·simp only[gR,seval]
 rw[q1,if_pos rfl] at H3;have H3:bK s3 h (TO nb nw st su pt pu mp mf):=H3;rw[q1]
 try simp only[gR,seval,oV]
 refine hR _ _ (aP _ _ ?_);simp only[gR,seval];refine aN _ _ ?_;have i7:=i4 64 (by omega) (by omega);refine aA fun cU aZ cK=>?_;refine aA fun dN bO cZ=>?_;simp only[gR,seval];refine aH ?_ (ju k3.ok H3 64 i7 ⟨2,1,0⟩ (by show (0:Nat)<_;omega) rfl fun s4 H4 k4=>?_)
 ·simp only[gR,seval]
 rw[q2,if_pos rfl] at H4;rw[q2,if_pos rfl]
 try simp only[gR,seval]
 refine bO _ _ ?_;refine aA fun fE cG dX=>?_;simp only[gR,seval];refine cG _ _ ?_;simp only[gR,seval];refine aZ _ _ ?_;refine aA fun gV cT gA=>?_;refine aA fun jC dK iK=>?_;simp only[gR,seval];refine aH ?_ (ju k4.ok H4 70 (i4 70 (by omega) (by omega)) ⟨0,0,0⟩ (by show (1:Nat)<_;omega) q7 fun s5 H5 k5=>?_)
 ·simp only[gR,seval]
 rw[q3,if_pos rfl] at H5;rw[q3,if_pos rfl]
 try simp only[gR,seval]
 refine dK _ _ ?_;refine aA fun lO eG kY=>?_;refine cL [(2,54),(7,59)] (by kernel_rfl) fun O hO bC hR=>?_;have y2:∀ a,aO O a 2=aY (a.aB 54):=hO (2,54) (by simp);have y7:∀ a,aO O a 7=aY (a.aB 59):=hO (7,59) (by simp);simp only[gR,seval,y2];refine aH ?_ (Ea k5.ok H5 I3.bX 66 71 (i4 71 (by omega) (by omega)) fun s6 H6 k6=>?_)
 ·simp only[gR,seval]
 rw[q4]
 try simp only[gR,seval,y2,y7]
 refine aH ?_ (Ea k6.ok H6 I4.bX 67 4097 (i4 4097 (by omega) (by omega)) fun s7 H7 k7=>?_)
 ·simp only[gR,seval]
 rw[q5]
 try simp only[gR,seval,y7]
 refine hR _ _ (eG _ _ ?_);simp only[gR,seval];refine cT _ _ ?_;have K7:aC [] s s7:=by
  have q_:∀ y∈PH.aS h (OD nb nw st su pt pu mp mf),s.heap.get y=none:=fun y hy=>hs.fresh y (fr y hy);refine(((((k1.trans k2).step k3 fun g hg=>?_).step k4 fun g hg=>?_).step k5 fun g hg=>?_).step k6 fun g hg=>?_).step k7 fun g hg=>?_
  all_goals
   refine .inr (q_ g ?_);simp only[PH.aS,PH.oA,PH.place,PH.rk,List.mem_cons,List.not_mem_nil,or_false] at hg ⊢;omega
 have A7:cV s7 r R:=by
  have nR:∀ y∈R.aS r,s1.next≤y:=fR;have hf:∀ y,y∈PH.aS h (OD nb nw st su pt pu mp mf)→y∉R.aS r:=fun y hy hm=>by have:=nR y hm;have:=H.eM k1.ok y hy;omega
  refine((((A.aD k3 fun y hy hg=>hf y ?_ hy).aD k4 fun y hy hg=>hf y ?_ hy).aD k5 fun y hy hg=>hf y ?_ hy).aD k6 fun y hy hg=>hf y ?_ hy).aD k7 fun y hy hg=>hf y ?_ hy
  all_goals
   simp only[PH.aS,PH.oA,PH.place,PH.rk,List.mem_cons,List.not_mem_nil,or_false] at hg ⊢;omega
 refine aA fun sF iY rQ=>?_;simp only[gR,seval];refine aH ?_ (Tc k7.ok H7 I5.bX fun va vc s8 b8 n8 k8=>?_)
 ·simp only[gR,seval]
 rw[q6,Vu] at b8;rw[q6] at n8 ⊢
 try simp only[gR,seval]
 refine iY _ _ ?_;obtain⟨t1,e9,u1,c1,m1⟩:=cI k8.ok (L:=[int 0,int 64,int 0,int 2,int 64,int 1]) (n:=6) (e:=51) rfl;have B9:Sl t1 3 (.slice (some ⟨s8.next,0,none⟩) 2 2) [int 0,int 64,int 0,int 2,int 64,int 1]:=by
  obtain⟨e,hc⟩:=c1;exact Sl.Li (off:=0) (n:=2) hc (Nat.le_refl _)
 refine aA fun wV lU vU=>?_;refine aA fun DB tN tO=>?_;refine cL [(2,71)] (by kernel_rfl) fun O hO bC hR=>?_;have y2:∀ a,aO O a 2=aY (a.aB 71):=hO (2,71) (by simp);simp only[gR,seval,y2];rw[e9]
 try simp only[gR,seval,y2]
 refine aH ?_ (Hr (l:=[(0,64,0),(2,64,1)]) u1.ok (by simp) ((b8.aD u1 (by simp)).sl) B9 fun s9 k9=>?_)
 ·simp only[gR,seval]
 try simp only[gR,seval,y2]
 refine hR _ _ (tN _ _ ?_);simp only[gR,seval];refine lU _ _ ?_;have HW:=(k8.trans u1).trans k9;refine aA fun NS uO xN=>?_;simp only[gR,seval];refine aH ?_ (aH6 k9.ok (H7.aJ HW) (A7.aJ HW) I5 (fun y hy hm=>?_) ?_ Rq fun jU k10=>?_)
 ·simp only[gR,seval]
 ·have:=fR y hy;have:=H.eM k1.ok y (by simp only[PH.aS,PH.oA,PH.place] at hm ⊢;exact hm);omega
 ·have h1:∀ p,R.get p=0:=fun p=>by
   unfold PR.get;rw[Rq];split
   ·exact Rs _
   ·split
    ·exact Rg _
    ·try rfl
  unfold PR.all PR.upto PR.part PR.one;simp[h1]
 rw[q6]
 try simp only[gR,seval]
 refine uO _ _ ?_;refine aA fun DC pE ED=>?_;refine cL [(2,87)] (by kernel_rfl) fun O hO bC hR=>?_;have y2:∀ a,aO O a 2=aY (a.aB 87):=hO (2,87) (by simp);simp only[gR,seval,y2];refine hR _ _ (pE _ _ ?_);simp only[gR,seval];refine hΦ jU ((K7.trans HW).step k10 fun g hg=>.inr (hs.fresh g (fr g ?_)));simp only[PH.aS,PH.oA,PH.place,PH.rk,List.mem_cons,List.not_mem_nil,or_false] at hg ⊢;omega
end
end Go.Dust
namespace Go.Dust
open Go.Proofs
set_option maxRecDepth 100000
set_option maxHeartbeats 8000000
theorem Jc {M:List (Int×Int)} {k x:Int} (h:M.lookup k=some x):(k,x)∈M:=by
 induction M with
 | nil=>cases h
 | cons p M ih =>
  rcases p with ⟨u,v⟩;rw[List.lookup_cons] at h;by_cases e:k=u
  ·subst e;rw[beq_self_eq_true] at h;cases h;exact List.mem_cons_self
  ·rw[show (k==u)=false from beq_eq_false_iff_ne.2 e] at h;exact List.mem_cons_of_mem _ (ih h)
section
variable {s:St} {Φ:Value→St→Prop} {q:Bool}
theorem bU:type_of% (B9 @RX @Ib @As @Aq @dV @KC @dQ @bG (B9 @vN @pX @mB @lE @TX @TK @NC @mD (B9 @kJ @KP @lD @gL @DQ @AK @MA @AD (B4 @AM @KI @Au @zi)))):=B9 @RX @Ib @As @Aq @dV @KC @dQ @bG (B9 @vN @pX @mB @lE @TX @TK @NC @mD (B9 @kJ @KP @lD @gL @DQ @AK @MA @AD (B4 @AM @KI @Au @zi)))
theorem aAp (hs:Ok s) {x0 x1 o0 i0 w0:Nat} (hx0:x0<256) (hx1:x1<256) (ho:o0<256) (hi:i0<256) (hw:w0<256) {v2 v3 v4 v5 v6:Value} {l2 l3 l4 l5 l6:Nat} (U2:iQ s.next s 4 v2 l2) (U3:iQ s.next s 1 v3 l3) (U4:iQ s.next s 3 v4 l4) (U5:iQ s.next s 2 v5 l5) (U6:iQ s.next s 1 v6 l6)
  (hΦ:∀ s',aC [] s s'→Φ (.bool true) s'):okF q X (KO HY) 5 [.agg #[u8 x0,u8 x1,v2,v3,v4,v5,v6],u8 o0,u8 i0,u8 w0] s Φ:=by
 obtain⟨a2,sJ,rfl,W2⟩:=U2;obtain⟨a3,sK,rfl,W3⟩:=U3;obtain⟨a4,sL,rfl,W4⟩:=U4;obtain⟨a5,uJ,rfl,W5⟩:=U5;obtain⟨a6,yZ,rfl,W6⟩:=U6;have U2:iQ s.next s 4 (.slice a2 l2 sJ) l2:=⟨a2,sJ,rfl,W2⟩;have U3:iQ s.next s 1 (.slice a3 l3 sK) l3:=⟨a3,sK,rfl,W3⟩;have U4:iQ s.next s 3 (.slice a4 l4 sL) l4:=⟨a4,sL,rfl,W4⟩;have U5:iQ s.next s 2 (.slice a5 l5 uJ) l5:=⟨a5,uJ,rfl,W5⟩;have U6:iQ s.next s 1 (.slice a6 l6 yZ) l6:=⟨a6,yZ,rfl,W6⟩;clear W2 W3 W4 W5 W6;refine aW Tryz.func5 (by kernel_rfl) rfl rfl (rs:=[.tmp 8]) rfl (N:=244) rfl rfl ?_;refine aA fun bF aF bD=>?_;simp only[bU,seval];obtain⟨s1,e1,k1,c1,n1⟩:=cI hs (L:=[u8 x0,u8 x1,.slice a2 l2 sJ,.slice a3 l3 sK,.slice a4 l4 sL,.slice a5 l5 uJ,.slice a6 l6 yZ]) (n:=7) (e:=27) rfl;rw[e1];refine aF _ _ ?_;have uK:s.next≤s1.next:=k1.next;have lb:=c1.bI (i:=0) (k:=7) (Nat.le_refl _);refine aA fun Ψ1 aE aL=>?_;simp only[bU,seval,lb,List.drop_zero,List.take];refine aH ?_ (aAj k1.ok hx0 hx1 ((U2.aD (.iL k1)).mono uK) ((U3.aD (.iL k1)).mono uK) ((U4.aD (.iL k1)).mono uK) ((U5.aD (.iL k1)).mono uK) ((U6.aD (.iL k1)).mono uK) fun x h r g t P R G Q s2 M S I Z hL hN hb k2=>?_)
 ·simp only[bU,seval]
 clear U2 U3 U4 U5 U6;simp only[bU,seval];refine aE _ _ ?_;have dD:=k1.trans k2;have hD:=hL.led;have z0:P.has 0=false:=by
  cases hc:P.has 0 with
  | false=>rfl
  | true=>have:=I.z 0 hc;omega
 have hv:∀ p∈R.all,0≤R.get p:=fun p hp=>(PH.jG.1 (hD.1 p hp)).1;refine aA fun Ψ2 aI bH=>?_;refine aA fun Ψ3 aN bM=>?_;simp only[bU,seval];refine aN _ _ ?_;simp only[bU,seval];refine aI _ _ ?_;have hbd:∀ o∈G.L,o.rs.length<1000000∧o.ds.length<1000000:=fun o ho=>by
  have ok:=S.L.ok o ho;have hm:o.a∈P.all:=by rw[← S.L.all];exact List.mem_map_of_mem ho
  have hv:=cO.nX.1 (I.bX.val o.a (PH.pH.1 hm)).1;rw[ok.rs,ok.ds,ok.sh];unfold PH.words;simp only[List.length_map,List.length_range];omega
 refine aA fun Ψ4 aP cC=>?_;simp only[bU,seval];refine aH ?_ (aAg k2.ok M hbd fun y h' nb nw st su pt pu mp mf r' ns ng va vc g' t' s3 C3 H3 A3 f3 b_ hy k3=>?_)
 ·simp only[bU,seval]
 try simp only[bU,seval]
 refine aP _ _ ?_;have M3:=M.aJ k3;refine aA fun cU aZ cK=>?_;simp only[bU,seval];refine aH ?_ (aAh k3.ok M3.c M3.H I.bX M3.A hv fun ka kc' l s5 b5 p5 m5 k5=>?_)
 ·simp only[bU,seval]
 try simp only[bU,seval]
 refine aZ _ _ ?_;have M5:=M3.aJ k5;have C5:=C3.aD k5 (by simp);have H5:=H3.aJ k5;have A5:=A3.aJ k5;have jR:aC [] s s5:=(dD.trans k3).trans k5;refine aA fun dN bO cZ=>?_;refine aA fun fE cG dX=>?_;have eY:binop X s5.look .eql 28 (ptr y) (.pointer none)=some (.bool false):=by kernel_rfl
 simp only[bU,seval];refine cG _ _ ?_;simp only[bU,seval];refine bO _ _ ?_;refine aA fun gV cT gA=>?_;refine aA fun jC dK iK=>?_;by_cases km:l.length=0
 ·have e0:((l.length:Int)==0)=true:=by rw[km];rfl
  simp only[bU,seval,e0];refine dK _ _ ?_;simp only[dA,RV,RG,seval];refine aA fun lO eG kY=>?_;simp only[bU,seval];refine aH ?_ (HZ jR.ok fun sA kA=>?_)
  ·simp only[bU,seval]
  simp only[bU,seval];refine eG _ _ ?_;simp only[bU,seval];refine gA _ _ _ (by simp) ?_;simp only[bU,seval];exact hΦ sA (jR.trans kA)
 ·have e0:((l.length:Int)==0)=false:=by rw[beq_eq_false_iff_ne];omega
  simp only[bU,seval,e0];refine dK _ _ ?_;simp only[bU,seval];refine cT _ _ ?_;obtain⟨kb,aIo,rfl⟩:=b5.sl.addr (show 0<l.length by omega);have tmo:(o0:Int).tmod (l.length:Int)=((o0%l.length:Nat):Int):=rfl;have wo:IntKind.i64.wrap (o0:Int)=(o0:Int):=aU (by omega) (by omega);have hil:o0%l.length<l.length:=Nat.mod_lt _ (by omega);have P7:¬ ((l.length:Int)=0):=by omega
  have g1:(0:Int)≤((o0%l.length:Nat):Int):=Int.natCast_nonneg _;have g2:((o0%l.length:Nat):Int)<((l.length:Nat):Int):=by omega
  have la:=Ints.get b5.sl (List.getElem?_eq_getElem hil);obtain⟨a,ha⟩:∃ a,a=l[o0%l.length]:=⟨_,rfl⟩;rw[← ha] at la;have hka:iI P (R.all.map R.get) a:=(m5 a).1 (by rw[ha];exact List.getElem_mem _);clear ha;have KZ:a∈(P.rounds R.leads).1:=(sr z0).2 hka;have jH:=hka.has;have bY:=M.H.bY;have nN:i64 a:=PH.DF P bY (PH.pH.2 jH);refine aA fun lO eG kY=>?_;simp only[bU,seval,wo,tmo,P7,g1,g2,and_self,bQ,Int.toNat_natCast,Nat.mul_one,la];refine eG _ _ ?_;refine aA fun rE jI pS=>?_;simp only[bU,seval,M5.l0];refine aH ?_ (jt k5.ok M5.H a nN fun s6 k6=>?_)
  ·simp only[bU,seval]
  rw[if_pos jH]
  try simp only[bU,seval]
  refine jI _ _ ?_;have M6:=M5.aJ k6;refine aA fun sF iY rQ=>?_;simp only[bU,seval,M6.l0];refine aH ?_ (GY k6.ok M6.H a nN fun s7 k7=>?_)
  ·simp only[bU,seval]
  rw[if_pos jH];obtain⟨t1,e8,u1,d1,m1⟩:=cI k7.ok (L:=[int 0,int 0,int 0]) (n:=3) (e:=44) rfl;obtain⟨s8,e9,d2,u2⟩:=d1.storeAll u1.ok (vs:=[int (P.aM a).r,int (P.aM a).d,int (P.aM a).k]) rfl rfl;have k78:aC [] s7 s8:=u1.step u2 fun g hg=>.inr (by rw[List.mem_singleton.1 hg];exact k7.ok.fresh _ (Nat.le_refl _));simp only[bU,seval];rw[e8,e9]
  try simp only[bU,seval]
  refine iY _ _ ?_;have XL:aC [] s5 s8:=(k6.trans k7).trans k78;have ot:=jR.trans XL;obtain⟨id,xK⟩:∃ id,id=P.w a.toNat:=⟨_,rfl⟩;simp only[← xK];obtain⟨sb,hsb⟩:∃ sb,sb=s7.next:=⟨_,rfl⟩;rw[← hsb] at d2;simp only[← hsb];obtain⟨t9,Yu,u9,d9,m9⟩:=cI ot.ok (L:=[int 0,int 0,int 0]) (n:=3) (e:=51) rfl;obtain⟨s9,Yv,d10,u10⟩:=d9.storeAll u9.ok (vs:=[int 11,int id,int 0]) rfl rfl;have pe:aC [] s8 s9:=u9.step u10 fun g hg=>.inr (by rw[List.mem_singleton.1 hg];exact ot.ok.fresh _ (Nat.le_refl _));refine aA fun wV lU vU=>?_;simp only[bU,seval];rw[Yu];simp only[bU,seval,Yv];refine lU _ _ ?_;obtain⟨wb,WZ⟩:∃ wb,wb=s8.next:=⟨_,rfl⟩;rw[← WZ] at d10;simp only[← WZ];have AE:=ot.trans pe;have uP:=XL.trans pe;have M9:=M5.aJ uP;have C9:=C5.aD uP (by simp);have H9:=H5.aJ uP;have A9:=A5.aJ uP;have S9:=d2.aD pe (by simp);obtain⟨r0',ZS⟩:=PH.FA I.bX a;have rP:P.aM a=P.shape a:=by unfold PH.aM;rw[if_pos jH]
  have hvs:=cO.nX.1 (I.bX.val a jH).1;obtain⟨PB,pB⟩:∃ PB,PB=P.by nb nw st su pt pu mp mf:=⟨_,rfl⟩;obtain⟨yU,OZ⟩:∃ yU,yU=R.by ns ng va vc:=⟨_,rfl⟩;rw[← pB] at H9 f3;rw[← OZ] at A9 f3 b_;refine aA fun DB tN tO=>?_;have fin:∀ (a':aK) (S:St) (Q':PH) (f:dC),a'.aB 9=ptr x→a'.aB 10=ptr y→a'.aB 17=ptr wb→aC [] s S→Mem s1.next S x h r g t P R G Q R→Obj S y [ptr h',ptr r',ptr g',ptr t']→bK S h' Q'→cV S r' yU→Q'.bX→(∀ i b,Q'.M.lookup i=some b→i64 b)→qL P Q' R yU=[f]→Obj S wb (cE f)→DB .normal a' S:=by
   intro a' S' Q' f r9 cH r17 kS MS CS HS AS GS D2 O6 Wb;refine tN _ _ ?_;have ks:aC [] S' (S'.skip 44):=aC.skip kS.ok _;have Mk:=MS.aJ ks;have lm:aG S'.look ⟨y,0,none⟩=some (ptr h'):=CS.load rfl;have lr:aG S'.look ⟨y,1,none⟩=some (ptr r'):=CS.load rfl;have dm:DD [ptr h,ptr r,ptr h',ptr r'] (S'.skip 44) [f]:=⟨h,r,h',r',P,R,Q',yU,rfl,ks.ok,Mk.H,Mk.A,HS.aJ ks,AS.aJ ks,I.bX,GS,z0,D2,by rw[O6,Ck (by simp)]⟩;refine aA fun aJ4 Y7 aIm=>?_;refine dG [] [] [] (by kernel_rfl) (by kernel_rfl) (by rfl) fun O hO bC hR=>?_;simp only[bU,seval,r9,cH,MS.l0,MS.l1,lm,lr];refine dL ?_ (Hl dm ?_)
   ·simp only[bU,seval]
   obtain⟨kk,bk⟩:=Hj ks.ok (L:=[f]) (by simp);obtain⟨S2,jl⟩:∃ S2,S2=sS (S'.skip 44) [f]:=⟨_,rfl⟩;rw[← jl] at kk bk ⊢;have ev:AH (S'.skip 44) [f]=.tuple #[.slice (some ⟨(S'.skip 44).next,0,none⟩) 1 1,int 0]:=rfl;rw[ev]
   try simp only[bU,seval]
   refine hR _ _ (Y7 _ _ ?_);have QE:aC [] s S2:=(kS.trans ks).trans kk;have Vf:=(Wb.aD ks (by simp)).aD kk (by simp);have lw:=Vf.bI (i:=0) (k:=3) (Nat.le_refl _);obtain⟨S3,e3,ow,sK,n3'⟩:=cI QE.ok (L:=cE f) (n:=3) (e:=51) rfl;have B3:bJ S3 51 3 (.slice (some ⟨S2.next,0,none⟩) 1 1) (cE f):=.own (L0:=cE f) (by rw[← e3];exact Cells.tU) (by simp[cE]) (Nat.le_refl _) rfl (fun i hi=>by rw[Nat.zero_add]);refine aA fun aJ5 Y8 aIn=>?_;refine cL [(2,235),(8,241)] (by kernel_rfl) fun O hO bC hR=>?_;have y2:∀ a,aO O a 2=aY (a.aB 235):=hO (2,235) (by simp);have y8:∀ a,aO O a 8=aY (a.aB 241):=hO (8,241) (by simp);unfold cE at lw e3;simp only[bU,seval,y2,beq_self_eq_true,r17,lw,List.drop_zero,List.take];rw[e3]
   try simp only[bU,seval,y2,y8]
   refine aH ?_ (aAr ow.ok f (by have:=(bk.aD ow (by simp)).sl;simpa using this) B3.sl fun S4 k4=>?_)
   ·simp only[bU,seval]
   try simp only[bU,seval,y8]
   refine aH ?_ (HZ k4.ok fun sA kA=>?_)
   ·simp only[bU,seval]
   try simp only[bU,seval]
   refine hR _ _ (Y8 _ _ ?_);simp only[bU,seval];exact hΦ sA (((QE.trans ow).trans k4).trans kA)
  have n3s:s3.next≤s9.next:=Nat.le_trans k5.next uP.next;have GB:PB.bX:=by rw[pB];exact⟨I.bX.val,I.bX.oJ⟩
  have MP:∀ i b,P.M.lookup i=some b→i64 b:=fun i b hb=>PH.DF P bY (PH.pH.2 (I.Mh _ (Jc hb)).1);have wm:(w0:Int).tmod 3=((w0%3:Nat):Int):=rfl;have YG:aG s9.look ⟨sb,1,none⟩=some (int (P.aM a).d):=S9.load rfl;have QR:aG s9.look ⟨sb,0,none⟩=some (int (P.aM a).r):=S9.load rfl;have lsn:=S9.bI (i:=0) (k:=3) (Nat.le_refl _);have eB:binop X s9.look .rem 5 (u8 w0) (.int .u8 3)=some (.int .u8 ((w0%3:Nat):Int)):=by
   have bR:∀ x:Int,binop X s9.look .rem 5 (.int .u8 x) (.int .u8 3)=some (.int .u8 (x.tmod 3)):=fun x=>by kernel_rfl
   rw[← wm];exact bR _
  have bE:∀ (x c:Int),binop X s9.look .eql 5 (.int .u8 x) (.int .u8 c)=some (.bool (x==c)):=fun x c=>by kernel_rfl
  have wu:∀ n:Nat,n<256→IntKind.i64.wrap (n:Int)=(n:Int):=fun n hn=>aU (by omega) (by omega);have lY:aG s9.look ⟨y,0,none⟩=some (ptr h'):=C9.load rfl;obtain⟨m,hm,hm3⟩:∃ m,m=w0%3∧m<3:=⟨_,rfl,Nat.mod_lt _ (by omega)⟩;rw[← hm] at eB;refine cJ fun NS uO Gh xN=>?_;refine aA fun DC pE ED=>?_;refine cL [(3,77)] (by kernel_rfl) fun O hO bC hR=>?_;have y3:∀ a,aO O a 3=aY (a.aB 77):=hO (3,77) (by simp);rcases(show m=0∨m=1∨m=2 by omega) with h0 | h0 | h0
  ·rw[h0] at eB;have q0:(((0:Nat):Int)==0)=true:=rfl;have q1:(((0:Nat):Int)==1)=false:=rfl;have q2:(((0:Nat):Int)==2)=false:=rfl;by_cases hd:(P.aM a).d>0
   ·simp only[bU,seval,eB,bE,y3,YG,hd,decide_true];refine hR _ _ (pE _ _ ?_);simp only[dA,RV,RG,seval];obtain⟨nd,hnd⟩:∃ nd:Nat,(P.aM a).d=nd:=⟨(P.aM a).d.toNat,by omega⟩;rw[hnd] at YG hd;have aI2:nd≤200:=by
     rw[rP] at hnd;omega
    have hne:¬ ((nd:Int)=0):=by omega
    have tm:(i0:Int).tmod (nd:Int)=((i0%nd:Nat):Int):=rfl;obtain⟨K,hK⟩:∃ K,K=i0%nd:=⟨_,rfl⟩;have OY:K<nd:=by rw[hK];exact Nat.mod_lt _ (by omega)
    rw[← hK] at tm;have DY:P.dR a K true=0:=by
     unfold PH.dR PH.many;rw[if_pos jH,if_pos rfl,if_neg (by rw[← rP,hnd];omega)]
    have LF:PB.dR a K true=0:=by rw[pB];exact DY
    obtain⟨v,BN⟩:∃ v,v=P.jN a K:=⟨_,rfl⟩;have ml:(if PB.dR a K true=0 then PB.w (PB.dP a K true).toNat else 0)=v:=by rw[BN,pB];rfl
    have hvi:i64 v:=by rw[BN];unfold PH.jN;rw[if_pos DY];exact M.H.wr _
    refine aA fun NU tP LN=>?_;simp only[bU,seval,YG,wu i0 hi,hne,tm];refine tP _ _ ?_;refine aA fun uv LO mz=>?_;simp only[bU,seval,lY];refine aH ?_ (VY AE.ok H9 GB a (K:Int) nN fun jU k10=>?_)
    ·simp only[bU,seval]
    rw[ml,LF]
    try simp only[bU,seval]
    refine LO _ _ ?_;have aBh:=mI k10 (by simp) QR;have w1:IntKind.i64.wrap (1+(P.aM a).r)=1+(P.aM a).r:=aU (by omega) (by omega);have w2:IntKind.i64.wrap (1+(P.aM a).r+(K:Int))=1+(P.aM a).r+(K:Int):=aU (by omega) (by omega);obtain⟨BA,Yw,d11,k11⟩:=(d10.aD k10 (by simp)).fK k10.ok (i:=2) (v:=int (1+(P.aM a).r+(K:Int))) (by simp) rfl;refine aA fun TB sR QB=>?_;simp only[bU,seval,aBh,w1,w2];rw[Yw]
    try simp only[bU,seval]
    refine sR _ _ ?_;have mq:s3.next≤wb:=by rw[WZ];have:=k5.next;have:=XL.next;omega
    have aIg:s.next≤wb:=by have:=dD.next;have:=k3.next;omega
    have XM:aC [wb] s9 BA:=k10.any.trans k11;have QF:aC [] s3 BA:=(k5.trans uP).step XM fun g hg=>.inr (by rw[List.mem_singleton.1 hg];exact k3.ok.fresh _ mq);have NX:=by have:=H3.aJ QF;rw[← pB] at this;exact this
    have Up:=by have:=A3.aJ QF;rw[← OZ] at this;exact this
    have vf:=C3.aD QF (by simp);have aAe:aG BA.look ⟨y,0,none⟩=some (ptr h'):=vf.load rfl;obtain⟨v',hv'⟩:∃ v',v'=IntKind.i64.wrap (v+1):=⟨_,rfl⟩;have Fz:i64 v'∧v≠v':=by
     unfold i64 at hvi ⊢;by_cases hmx:v+1<9223372036854775808
     ·rw[hv',aU (by omega) (by omega)];omega
     ·have:v=9223372036854775807:=by omega
      rw[hv',this];decide
    refine aA fun FR nQ zZ=>?_;simp only[bU,seval,aAe,← hv'];refine aH ?_ (J2 QF.ok NX GB a (K:Int) v' nN Fz.1 fun IV de k12=>?_)
    ·simp only[bU,seval]
    rw[LF]
    try simp only[bU,seval,beq_self_eq_true]
    refine nQ _ _ ?_;simp only[bU,seval];refine uO _ _ ?_;have HG:nw∈PB.aS h':=by rw[pB];simp[PH.aS,PH.by]
    have uL:=f3 nw HG;have R5:nw<s3.next:=by rw[pB] at HG;exact H3.eM k3.ok nw HG
    have fw:PB.nw=nw:=by rw[pB];rfl
    rw[fw] at k12;have Hb:aC [] s2 IV:=(k3.trans QF).step k12 fun g hg=>.inr (by rw[List.mem_singleton.1 hg];exact k2.ok.fresh _ uL.1);have eQ:PB.SB a K v'=(P.eH (P.dP a K true) v').by nb nw st su pt pu mp mf:=by
     unfold PH.SB;rw[if_pos LF,pB];rfl
    obtain⟨a1,a2,a3,a4,a5⟩:=PH.qH I.bX DY;have IW:=I.eH (v:=v') (o:=a) (j:=P.dP a K true) ⟨jH,a2,a3⟩;refine fin _ _ (PB.SB a K v') (11,id,1+(P.aM a).r+(K:Int)) ?_ ?_ ?_ (dD.trans Hb) (M.aJ Hb) (vf.aD k12 (by simp;exact fun e=>uL.2.2 e.symm)) de (Up.aD k12 fun z hz hm=>by rw[List.mem_singleton.1 hm] at hz;exact uL.2.1 hz) ?_ ?_ ?_ (d11.aD k12 (by simp;omega))
    ·simp only[bU,seval]
    ·simp only[bU,seval]
    ·simp only[bU,seval]
    ·rw[eQ];exact⟨IW.bX.val,IW.bX.oJ⟩
    ·rw[eQ];exact MP
    ·rw[eQ,OZ];have:=aA4 (R:=R) I KZ DY (v:=v') (by rw[← BN];exact Fz.2);rw[← xK] at this;exact this
   ·simp only[bU,seval,eB,bE,y3,YG,hd,decide_false];refine hR _ _ (pE _ _ ?_);simp only[dA,RV,RG,seval];refine aA fun NV rR LP=>?_;refine cL [(3,117)] (by kernel_rfl) fun O hO bC hR=>?_;have y3:∀ a,aO O a 3=aY (a.aB 117):=hO (3,117) (by simp);simp only[bU,seval,eB,bE,y3];refine hR _ _ (rR _ _ ?_);simp only[dA,RV,RG,seval];refine aA fun uw HP ni=>?_;simp only[bU,seval,eB,bE];refine HP _ _ ?_;simp only[dA,RV,RG,seval];refine aA fun ux HQ nu=>?_;simp only[bU,seval];refine aH ?_ (HZ AE.ok fun sA kA=>?_)
    ·simp only[bU,seval]
    simp only[bU,seval];refine HQ _ _ ?_;simp only[bU,seval];refine xN _ _ _ (by simp) (by simp) (tO _ _ _ (by simp) ?_);simp only[bU,seval];exact hΦ sA (AE.trans kA)
  ·rw[h0] at eB;have q0:(((1:Nat):Int)==0)=false:=rfl;have q1:(((1:Nat):Int)==1)=true:=rfl;have q2:(((1:Nat):Int)==2)=false:=rfl;simp only[bU,seval,eB,bE,y3];refine hR _ _ (pE _ _ ?_);simp only[dA,RV,RG,seval];refine aA fun NV rR LP=>?_;refine cL [(3,117)] (by kernel_rfl) fun O hO bC hR=>?_;have y3:∀ a,aO O a 3=aY (a.aB 117):=hO (3,117) (by simp);by_cases hr:(P.aM a).r>0
   ·simp only[bU,seval,eB,bE,y3,QR,hr,decide_true];refine hR _ _ (rR _ _ ?_);simp only[dA,RV,RG,seval];obtain⟨nr,Fi⟩:∃ nr:Nat,(P.aM a).r=nr:=⟨(P.aM a).r.toNat,by omega⟩;rw[Fi] at QR hr;have hne:¬ ((nr:Int)=0):=by omega
    have tm:(i0:Int).tmod (nr:Int)=((i0%nr:Nat):Int):=rfl;obtain⟨K,hK⟩:∃ K,K=i0%nr:=⟨_,rfl⟩;have OY:K<nr:=by rw[hK];exact Nat.mod_lt _ (by omega)
    rw[← hK] at tm;have DY:P.dR a K false=0:=by
     unfold PH.dR PH.many;rw[if_pos jH,if_neg (by simp only[Bool.false_eq_true,if_false];rw[← rP,Fi];omega)]
    have LF:PB.dR a K false=0:=by rw[pB];exact DY
    obtain⟨v,BN⟩:∃ v,v=P.ref a K:=⟨_,rfl⟩;have ml:PB.ref a K=v:=by rw[BN,pB];rfl
    refine aA fun ck BP XD=>?_;simp only[bU,seval,QR,wu i0 hi,hne,tm];refine BP _ _ ?_;refine aA fun cn AA LQ=>?_;refine aA fun ct xO XE=>?_;simp only[bU,seval,lY];refine aH ?_ (PF AE.ok H9 GB a (K:Int) nN fun jU k10=>?_)
    ·simp only[bU,seval]
    rw[ml,LF]
    try simp only[bU,seval]
    refine xO _ _ ?_;have XJ:=AE.trans k10;have aBi:=(S9.aD k10 (by simp)).bI (i:=0) (k:=3) (Nat.le_refl _);refine aA fun Uk HO Gi=>?_;refine cL [(3,140)] (by kernel_rfl) fun O hO bC hR=>?_;have y3:∀ a,aO O a 3=aY (a.aB 140):=hO (3,140) (by simp);cases pQ:(v==a) with
    | true =>
     simp only[bU,seval,y3,pQ];refine hR _ _ (HO _ _ ?_);simp only[dA,RV,RG,seval];refine aA fun cu BQ XF=>?_;simp only[bU,seval];refine aH ?_ (HZ XJ.ok fun sA kA=>?_)
     ·simp only[bU,seval]
     simp only[bU,seval];refine BQ _ _ ?_;simp only[bU,seval];refine LQ _ _ _ (by simp) (xN _ _ _ (by simp) (by simp) (tO _ _ _ (by simp) ?_));simp only[bU,seval];exact hΦ sA (XJ.trans kA)
    | false =>
     simp only[bU,seval,y3,pQ,aBi,List.drop_zero,List.take];refine aH ?_ (aE7 XJ.ok (P.aM a).r (P.aM a).d (P.aM a).k K fun BA k11=>?_)
     ·simp only[bU,seval]
     have XM:=k10.trans k11;cases EC:PH.soft (P.aM a).k K with
     | true =>
      try simp only[bU,seval]
      refine hR _ _ (HO _ _ ?_);simp only[dA,RV,RG,seval];refine aA fun cu BQ XF=>?_;simp only[bU,seval];refine aH ?_ (HZ k11.ok fun sA kA=>?_)
      ·simp only[bU,seval]
      simp only[bU,seval];refine BQ _ _ ?_;simp only[bU,seval];refine LQ _ _ _ (by simp) (xN _ _ _ (by simp) (by simp) (tO _ _ _ (by simp) ?_));simp only[bU,seval];exact hΦ sA ((XJ.trans k11).trans kA)
     | false =>
      try simp only[bU,seval]
      refine hR _ _ (HO _ _ ?_);simp only[bU,seval];refine AA _ _ ?_;have w1:IntKind.i64.wrap (1+(K:Int))=1+(K:Int):=aU (by omega) (by omega);obtain⟨IV,Yx,d12,k12⟩:=(d10.aD XM (by simp)).fK k11.ok (i:=2) (v:=int (1+(K:Int))) (by simp) rfl;refine aA fun cu BQ XF=>?_;simp only[bU,seval,w1];rw[Yx]
      try simp only[bU,seval]
      refine BQ _ _ ?_;have mq:s3.next≤wb:=by rw[WZ];have:=k5.next;have:=XL.next;omega
      have aA1:aC [wb] s9 IV:=XM.any.trans k12;have QG:aC [] s3 IV:=(k5.trans uP).step aA1 fun g hg=>.inr (by rw[List.mem_singleton.1 hg];exact k3.ok.fresh _ mq);have de:=by have:=H3.aJ QG;rw[← pB] at this;exact this
      have Uq:=by have:=A3.aJ QG;rw[← OZ] at this;exact this
      have vg:=C3.aD QG (by simp);have aAf:aG IV.look ⟨y,0,none⟩=some (ptr h'):=vg.load rfl;have WX:PB.iN a K a=0:=by
       unfold PH.iN;rw[if_pos LF];have:PB.has a=true:=by rw[pB];exact jH
       simp[this]
      have N0:P.fW (P.ref a K)≠P.fW a:=by
       rw[← BN];have PL:v≠a:=beq_eq_false_iff_ne.1 pQ;have i1:=I.id a jH;unfold PH.fW;rw[if_pos jH];by_cases mn:P.has v=true
       ·rw[if_pos mn];intro e;have m1:=I.M v mn;rw[e,I.M a jH] at m1;exact PL (Option.some.inj m1).symm
       ·rw[if_neg mn];omega
      refine aA fun aHm Gj X7=>?_;simp only[bU,seval,aAf];refine aH ?_ (jv QG.ok de GB a (K:Int) a nN nN fun au Us kZ=>?_)
      ·simp only[bU,seval]
      rw[WX]
      try simp only[bU,seval,beq_self_eq_true]
      refine Gj _ _ ?_;simp only[bU,seval];refine uO _ _ ?_;have HG:nw∈PB.aS h':=by rw[pB];simp[PH.aS,PH.by]
      have uL:=f3 nw HG;have R5:nw<s3.next:=by rw[pB] at HG;exact H3.eM k3.ok nw HG
      have fw:PB.nw=nw:=by rw[pB];rfl
      rw[fw] at kZ;have Hc:aC [] s2 au:=(k3.trans QG).step kZ fun g hg=>.inr (by rw[List.mem_singleton.1 hg];exact k2.ok.fresh _ uL.1);have eQ:PB.setRef a K a=(P.eH (P.dP a K false) a).by nb nw st su pt pu mp mf:=by
       unfold PH.setRef;rw[if_pos WX,pB];rfl
      obtain⟨a1,a2,a3,a4,a5⟩:=PH.qH I.bX DY;have IW:=I.eH (v:=a) (o:=a) (j:=P.dP a K false) ⟨jH,a2,a3⟩;refine fin _ _ (PB.setRef a K a) (11,id,1+(K:Int)) ?_ ?_ ?_ (dD.trans Hc) (M.aJ Hc) (vg.aD kZ (by simp;exact fun e=>uL.2.2 e.symm)) Us (Uq.aD kZ fun z hz hm=>by rw[List.mem_singleton.1 hm] at hz;exact uL.2.1 hz) ?_ ?_ ?_ (d12.aD kZ (by simp;omega))
      ·simp only[bU,seval]
      ·simp only[bU,seval]
      ·simp only[bU,seval]
      ·rw[eQ];exact⟨IW.bX.val,IW.bX.oJ⟩
      ·rw[eQ];exact MP
      ·rw[eQ,OZ];have:=aA6 (R:=R) I KZ DY (v:=a) N0 EC;rw[← xK] at this;exact this
   ·simp only[bU,seval,eB,bE,y3,QR,hr,decide_false];refine hR _ _ (rR _ _ ?_);simp only[dA,RV,RG,seval];refine aA fun uw HP ni=>?_;simp only[bU,seval,eB,bE];refine HP _ _ ?_;simp only[dA,RV,RG,seval];refine aA fun ux HQ nu=>?_;simp only[bU,seval];refine aH ?_ (HZ AE.ok fun sA kA=>?_)
    ·simp only[bU,seval]
    simp only[bU,seval];refine HQ _ _ ?_;simp only[bU,seval];refine xN _ _ _ (by simp) (by simp) (tO _ _ _ (by simp) ?_);simp only[bU,seval];exact hΦ sA (AE.trans kA)
  ·rw[h0] at eB;have q0:(((2:Nat):Int)==0)=false:=rfl;have q1:(((2:Nat):Int)==1)=false:=rfl;have q2:(((2:Nat):Int)==2)=true:=rfl;simp only[bU,seval,eB,bE,y3];refine hR _ _ (pE _ _ ?_);simp only[dA,RV,RG,seval];refine aA fun NV rR LP=>?_;refine cL [(3,117)] (by kernel_rfl) fun O hO bC hR=>?_;have y3:∀ a,aO O a 3=aY (a.aB 117):=hO (3,117) (by simp);simp only[bU,seval,eB,bE,y3];refine hR _ _ (rR _ _ ?_);simp only[dA,RV,RG,seval];refine aA fun uw HP ni=>?_;simp only[bU,seval,eB,bE];refine HP _ _ ?_;simp only[dA,RV,RG,seval];refine aA fun ux HQ nu=>?_;refine aA fun aHo Gk X_=>?_;simp only[bU,seval,lY];have Eo:PB.has a=true:=by rw[pB];exact jH
   refine aH ?_ (Dy AE.ok H9 GB a nN fun jU NW k10=>?_)
   ·simp only[bU,seval]
   rw[if_pos Eo] at NW;rw[if_pos Eo]
   try simp only[bU,seval,beq_self_eq_true]
   refine Gk _ _ ?_;simp only[bU,seval];refine HQ _ _ ?_;have je:∀ z∈[PB.nw,PB.su,PB.pu,PB.mp],z∈PB.aS h':=fun z hz=>by
    simp only[List.mem_cons,List.not_mem_nil,or_false] at hz;rcases hz with rfl | rfl | rfl | rfl <;> simp[PH.aS]
   have ou:aC [] s2 jU:=((k3.trans k5).trans uP).step k10 fun g hg=>.inr (k2.ok.fresh _ (f3 g (je g hg)).1);have xA:=M.aJ ou;have ve:=C9.aD k10 (fun hm=>(f3 y (je y hm)).2.2 rfl);have Uo:=A9.aD k10 fun z hz hm=>(f3 z (je z hm)).2.1 hz;have eQ:PB.kill a=(P.kill a).by nb nw st su pt pu mp mf:=by rw[pB];rfl
   have IK:=I.kill jH;have lm:aG jU.look ⟨y,0,none⟩=some (ptr h'):=ve.load rfl;have lr:aG jU.look ⟨y,1,none⟩=some (ptr r'):=ve.load rfl;have ks:aC [] jU (jU.skip 44):=aC.skip ou.ok _;have Mk:=xA.aJ ks;obtain⟨L,GU⟩:∃ L,L=jP (qL P (PB.kill a) R yU):=⟨_,rfl⟩;have dm:DD [ptr h,ptr r,ptr h',ptr r'] (jU.skip 44) L:=⟨h,r,h',r',P,R,PB.kill a,yU,rfl,ks.ok,Mk.H,Mk.A,NW.aJ ks,Uo.aJ ks,I.bX,by rw[eQ];exact⟨IK.bX.val,IK.bX.oJ⟩,z0,fun i b hb=>by
    rw[eQ] at hb;exact PH.DF P bY (PH.pH.2 (((PH.xV jH b).1 (IK.Mh _ (Jc hb)).1).1)),GU⟩
   have hin:(10,id,0)∈L:=by
    rw[GU];refine(KS _).mem_iff.2 ?_;rw[eQ,xK];exact aA5 (R':=yU) I KZ
   have Di:L≠[]:=fun e=>by rw[e] at hin;cases hin
   refine aA fun aHp nv Y1=>?_;refine dG [] [] [] (by kernel_rfl) (by kernel_rfl) (by rfl) fun O hO bC hR=>?_;simp only[bU,seval,xA.l0,xA.l1,lm,lr];refine dL ?_ (Hl dm ?_)
   ·simp only[bU,seval]
   obtain⟨kk,bk⟩:=Hj ks.ok Di;obtain⟨S2,jl⟩:∃ S2,S2=sS (jU.skip 44) L:=⟨_,rfl⟩;obtain⟨lb',Ez⟩:∃ lb',lb'=(jU.skip 44).next:=⟨_,rfl⟩;rw[← jl] at kk bk ⊢;rw[← Ez] at bk;have ev:AH (jU.skip 44) L=.tuple #[.slice (some ⟨lb',0,none⟩) L.length L.length,int 0]:=by unfold AH;rw[if_neg Di,Ez]
   rw[ev]
   try simp only[bU,seval]
   refine hR _ _ (nv _ _ ?_);refine aA fun aHq ny Y2=>?_;simp only[bU,seval];refine ny _ _ ?_;refine aA fun aJ0 Y3 aIh=>?_;refine aA fun aJ1 Y4 aIi=>?_;simp only[bU,seval];refine Y4 _ _ ?_;have KY:L.length<1000000:=by
    have e1:L.length=(qL P (PB.kill a) R yU).length:=by rw[GU,OR]
    have e2:=qt (P':=PB.kill a) I.bX (P.rounds R.leads).1 (P.rounds R.leads).1 (P.CJ _);have e3:=jn bY (l:=(P.rounds R.leads).1) MU (P.CJ _);have e4:=sn P (PB.kill a) R yU R.all.length;have e5:=R.uI M.A.m4 M.A.ql;unfold qL at e1;rw[List.length_append] at e1;omega
   have QE:aC [] s S2:=((dD.trans ou).trans ks).trans kk;refine cJ fun aJ2 aIj Y5 aIk=>?_;refine gB (n:=L.length) (fun j a' s'=>a'.aB 13=int id∧a'.aB 24=.slice (some ⟨lb',0,none⟩) L.length L.length∧a'.aB 25=int 0∧a'.aB 27=int j∧a'.aB 26=.bool (decide ((10,id,0)∈L.take j))∧s'=S2)
    (fun j a' s'=>a'.aB 13=int id∧a'.aB 24=.slice (some ⟨lb',0,none⟩) L.length L.length∧a'.aB 25=int 0∧a'.aB 27=int j∧a'.aB 26=.bool (decide ((10,id,0)∈L.take (j+1)))∧s'=S2) ?_ ?_ ?_ ?_ (Nat.zero_le _) ?_
   ·rintro j a' s' hj ⟨fX,CG,EU,kD,pJ,rfl⟩ aV bP;simp only[bU,seval,CG,kD];refine bP _ _ (decide ((j:Int)<L.length)) ?_ (by rw[decide_eq_true_eq];omega) ⟨?_,?_,?_,?_,?_,rfl⟩
    all_goals simp only[bU,seval,fX,CG,EU,pJ,kD]
   ·rintro j a' s' hj ⟨fX,CG,EU,kD,pJ,rfl⟩ aV w1 w2 w3;have p1:(0:Int)≤((j:Nat):Int):=Int.natCast_nonneg _;have p2:(j:Int)<((L.length:Nat):Int):=by omega
    obtain⟨f,hf⟩:∃ f,f=L[j]:=⟨_,rfl⟩;have lj:bI s'.look ⟨lb',0+j*3,none⟩ 3=some [int f.1,int f.2.1,int f.2.2]:=by
     have:=bk.sl.bI (i:=j*3) (k:=3) (by omega) (by rw[GI cE 3 vP];omega);rw[this];congr 1;apply List.ext_getElem?;intro t;rw[List.getElem?_take];by_cases ht:t<3
     ·rw[if_pos ht,List.getElem?_drop,VG cE 3 (by omega) vP,show (j*3+t)/3=j by omega,show (j*3+t)%3=t by omega,List.getElem?_eq_getElem hj,← hf]
      try rfl
     ·rw[if_neg ht,List.getElem?_eq_none (by simp;omega)]
    have qJ:decide ((10,id,0)∈L.take (j+1))=(decide ((10,id,0)∈L.take j)||decide ((10,id,0)=f)):=by
     rw[List.take_add_one,List.getElem?_eq_getElem hj,← hf];simp[List.mem_append]
    refine cL [(1,196)] (by kernel_rfl) fun O hO bC hR=>?_;have y1:∀ a,aO O a 1=aY (a.aB 196):=hO (1,196) (by simp);cases VW:decide ((10,id,0)∈L.take j) with
    | true =>
     rw[VW,Bool.true_or] at qJ;rw[VW] at pJ;simp only[bU,seval,pJ,y1];refine hR _ _ (w1 _ _ ⟨?_,?_,?_,?_,?_,rfl⟩)
     all_goals try simp only[bU,seval,fX,CG,EU,kD,qJ]
    | false =>
     rw[VW,Bool.false_or] at qJ;rw[VW] at pJ;obtain⟨fa,fb,fc⟩:=f;cases e1:fa==10 <;> cases e2:fb==id <;> cases e3:fc==0
     all_goals
      simp only[bU,seval,pJ,y1,CG,kD,fX,p1,p2,and_self,bQ,Int.toNat_natCast,lj,e1,e2,e3];refine hR _ _ (w1 _ _ ⟨?_,?_,?_,?_,?_,rfl⟩)
      all_goals try simp only[bU,seval,fX,CG,EU,kD]
      rw[qJ];simp only[beq_iff_eq,beq_eq_false_iff_ne] at e1 e2 e3;simp[Prod.mk.injEq,eq_comm,e1,e2,e3] <;> exact fun h=>e2 h.symm
   ·rintro j a' s' hj ⟨fX,CG,EU,kD,pJ,rfl⟩ aV w1;have w:IntKind.i64.wrap ((j:Int)+1)=((j+1:Nat):Int):=by rw[aU (by omega) (by omega)];rfl
    simp only[bU,seval,kD,w];refine w1 _ _ ⟨?_,?_,?_,?_,?_,rfl⟩
    all_goals try simp only[bU,seval,fX,CG,EU,pJ]
   ·rintro a' s' ⟨fX,CG,EU,kD,pJ,rfl⟩;refine Y5 _ _ (Y3 _ _ ?_);have hall:decide ((10,id,0)∈L.take L.length)=true:=by rw[List.take_length];exact decide_eq_true hin
    rw[hall] at pJ;refine aA fun aJ3 Y6 aIl=>?_;refine cL [(2,207),(5,210)] (by kernel_rfl) fun O hO bC hR=>?_;have y2:∀ a,aO O a 2=aY (a.aB 207):=hO (2,207) (by simp);have y5:∀ a,aO O a 5=aY (a.aB 210):=hO (5,210) (by simp);simp only[bU,seval,EU,pJ,beq_self_eq_true,y2,y5];refine aH ?_ (HZ QE.ok fun sA kA=>?_)
    ·simp only[bU,seval]
    try simp only[bU,seval]
    refine hR _ _ (Y6 _ _ ?_);simp only[bU,seval];refine xN _ _ _ (by simp) (by simp) (tO _ _ _ (by simp) ?_);simp only[bU,seval];exact hΦ sA (QE.trans kA)
   ·refine⟨?_,?_,?_,?_,?_,rfl⟩
    all_goals try simp only[bU,seval]
    all_goals rfl
end
end Go.Dust
noncomputable section
namespace Go.Dust
open Go.ChangeShapes Go.RowKit Go.WideShapes
abbrev nH:=Nat×Nat×List Nat
def bytes (L:List Nat):List Value:=L.map fun(n:Nat)=>.int .u8 (n:Int)
def FO (L:List Nat):bW:=.cells (PT.ofList (bytes L)) [] L.length 5 false true 0
def sE:Nat→List nH→PT bW
 | _,[]=>.nil
 | j,w::ws=>if w.2.2=[] then sE (j+1) ws else(sE (j+1) ws).set (2*j+1) (FO w.2.2)
theorem SV:∀ (ws:List nH) (j b:Nat) (o:bW),(sE j ws).get b=some o→∃ i w,ws[i]?=some w∧b=2*(j+i)+1∧o=FO w.2.2
 | [],j,b,o,h=>by rw[sE,PT.get_nil] at h;cases h
 | w::ws,j,b,o,h=>by
  rw[sE] at h;have Ms:∀ o,(sE (j+1) ws).get b=some o→∃ i w',(w::ws)[i]?=some w'∧b=2*(j+i)+1∧o=FO w'.2.2:=fun o h=>by
   obtain⟨i,w',h1,h2,h3⟩:=SV ws (j+1) b o h;exact⟨i+1,w',by simpa using h1,by omega,h3⟩
  split at h
  ·exact Ms o h
  ·rw[PT.fH] at h;split at h
   ·rename_i hb;cases h;exact⟨0,w,rfl,by omega,rfl⟩
   ·exact Ms o h
theorem Tm:∀ (ws:List nH) (j i:Nat) (w:nH),ws[i]?=some w→w.2.2≠[]→(sE j ws).get (2*(j+i)+1)=some (FO w.2.2)
 | [],j,i,w,h,_=>by cases h
 | w0::ws,j,0,w,h,hn=>by
  cases h;rw[sE,if_neg hn,PT.fH,if_pos (by omega)]
 | w0::ws,j,i+1,w,h,hn=>by
  have:=Tm ws (j+1) i w (by simpa using h) hn;rw[show 2*(j+1+i)+1=2*(j+(i+1))+1 by omega] at this;rw[sE];split
  ·exact this
  ·rw[PT.fH,if_neg (by omega)];exact this
def wW (ws:List nH):aQ:=fun b=>if b%2=0 then some ⟨b/2,0,0,true⟩ else match ws[b/2]? with
 | some w=>some ⟨w.1,w.2.1,0,true⟩
 | none=>none
def CN (ws:List nH):St:={heap:=sE 0 ws,next:=2*ws.length+1,aR:=1}
theorem uy {ws:List nH} {b:Nat} {l:Loc} (h:wW ws b=some l):l.ro=true:=by
 unfold wW at h;split at h
 ·cases h;rfl
 ·split at h
  ·cases h;rfl
  ·cases h
theorem Ul {ws:List nH} {i:Nat} {w:nH} (h:ws[i]?=some w):wW ws (2*i+1)=some ⟨w.1,w.2.1,0,true⟩:=by
 unfold wW;rw[if_neg (by omega),show (2*i+1)/2=i by omega,h]
theorem zm (L:List Nat) {i:Nat} (h:i<L.length):(bytes L)[i]?=some (.int .u8 (L[i]:Int)):=by
 unfold bytes;rw[List.getElem?_map,List.getElem?_eq_getElem h];rfl
def vq (W:World) (w:nH):Prop:=w.2.2=[]∨∃ arr e' fz,W.heap[w.1]?=some (.cells arr e' fz)∧∀ i (hi:i<w.2.2.length),arr[w.2.1+i]?=some (.int .u8 (w.2.2[i]:Int))
theorem aGt (P:Program) {W:World} {ws:List nH} (h:∀ w∈ws,vq W w):RS P (wW ws) (CN ws) W:=by
 refine⟨fun b=>?_,by show (2*ws.length+1)%2=1;omega,fun b hb hb2=>?_,fun b l hl hro=>?_,fun b o ho hd=>?_,fun b b' o o' l l' _ _ _ _ hl _ hro _=>?_⟩
 ·unfold wW;rw[if_pos (by omega)];simp
 ·have hb':2*ws.length+1≤b:=hb;unfold wW;rw[if_neg (by omega),List.getElem?_eq_none (by omega)]
 ·rw[uy hl] at hro;cases hro
 ·obtain⟨i,w,hw,hb,rfl⟩:=SV ws 0 b o ho;rw[Nat.zero_add] at hb;subst hb;refine⟨_,Ul hw,?_⟩;have hne:w.2.2≠[]:=fun e=>by
   have:(sE 0 ws).get (2*i+1)=some (FO w.2.2):=ho;have key:∀ (ws:List nH) (j i:Nat) (w:nH),ws[i]?=some w→w.2.2=[]→(sE j ws).get (2*(j+i)+1)=none:=by
    intro ws
    induction ws with
    | nil=>intro j i w h;cases h
    | cons w0 ws ih =>
     intro j i w h he;cases i with
     | zero =>
      cases h;rw[sE,if_pos he];cases hg:(sE (j+1) ws).get (2*(j+0)+1) with
      | none=>rfl
      | some o =>
       obtain⟨i',w',_,h2,_⟩:=SV ws (j+1) _ o hg;omega
     | succ i =>
      have:=ih (j+1) i w (by simpa using h) he;rw[show 2*(j+1+i)+1=2*(j+(i+1))+1 by omega] at this;rw[sE];split
      ·exact this
      ·rw[PT.fH,if_neg (by omega)];exact this
   have:=key ws 0 i w hw e;rw[Nat.zero_add] at this;have ho':(sE 0 ws).get (2*i+1)=some (FO w.2.2):=ho;rw[this] at ho';cases ho'
  rcases h w (List.mem_of_getElem? hw) with e | ⟨arr,e',fz,h1,h2⟩
  ·exact absurd e hne
  ·have hlen:0<w.2.2.length:=List.length_pos_iff.2 hne;have P3:w.2.1+w.2.2.length≤arr.size:=by
    have:=h2 (w.2.2.length-1) (by omega);have:=(Array.getElem?_eq_some_iff.1 this).1;omega
   refine⟨arr,e',fz,h1,(fun h=>by cases h),rfl,(fun _=>rfl),(fun ei _=>?_),P3,fun i hi=>?_⟩
   ·show w.2.1+w.2.2.length+0*ei.size≤arr.size;omega
   ·refine⟨_,_,?_,h2 i hi,.int _ _⟩;unfold cellAt;rw[if_pos hi];rw[PT.sP,zm _ hi]
 ·rw[uy hl] at hro;cases hro
theorem aDe {ws:List nH} {c:Nat}:¬ Own (wW ws) (CN ws).look c:=by
 rintro⟨b,o,l,_,_,hl,hro,_⟩;rw[uy hl] at hro;cases hro
theorem okw (ws:List nH):Ok (CN ws):=by
 refine⟨fun b o hb hd=>?_,fun b hb=>?_⟩
 ·obtain⟨i,w,_,_,rfl⟩:=SV ws 0 b o hb;exact Nat.zero_lt_one
 ·have hb':2*ws.length+1≤b:=hb;cases hg:(CN ws).heap.get b with
  | none=>rfl
  | some o =>
   obtain⟨i,w,hw,h2,_⟩:=SV ws 0 b o hg;have:=(List.getElem?_eq_some_iff.1 hw).1;omega
theorem aHe {ws:List nH} {i j:Nat} {w:nH} (hw:ws[i]?=some w) (hj:j<w.2.2.length):aG (CN ws).look ⟨2*i+1,j,none⟩=some (.int .u8 (w.2.2[j]:Int)):=by
 have hne:w.2.2≠[]:=fun e=>by rw[e] at hj;cases hj
 have:=Tm ws 0 i w hw hne;rw[Nat.zero_add] at this;have h':(CN ws).look (2*i+1)=some (FO w.2.2):=this;unfold aG;rw[h'];simp only[FO];unfold cellAt;rw[PT.sP,zm _ hj];simp[hj]
def FP (nil:Bool) (i len cap:Nat):Value:=if nil=true then .slice none 0 0 else .slice (some ⟨2*i+1,0,none⟩) len cap
end Go.Dust
end
namespace Go.Dust
open Go.ChangeShapes Go.RowKit Go.WideShapes
section
variable {H:Type} {enc:TypeId×Value→H} {P:Program} {W:World} {base:Nat} {sp:Nat→Bool} {held:Bool} {r:Reach} {b:Nat}
theorem aH1 {n:Int} (h:(Lit.int IntKind.u8 n).wf=true):∃ m:Nat,m<256∧n=(m:Int):=by
 unfold Lit.wf at h;rw[Bool.and_eq_true,decide_eq_true_eq,decide_eq_true_eq] at h;have h1:IntKind.u8.min=0:=rfl;have h2:IntKind.u8.max=255:=rfl;rw[h1,h2] at h;exact⟨n.toNat,by omega,by omega⟩
theorem bx {e:TypeId} (he:P.underlying e=some (.int .u8)) {n:Nat} {cs:List Value} {y:DataW H×List MemPlace} (h:DataW.trod enc P W base sp held n e cs=some y):∃ m:Nat,m<256∧cs=[.int .u8 (m:Int)]:=by
 obtain⟨k,rfl,_,hw⟩:=DataW.trod_int he h;obtain⟨m,hm,rfl⟩:=aH1 hw;exact⟨m,hm,rfl⟩
theorem ug {a e:TypeId} {k:Nat} (ha:P.underlying a=some (.array k e)) (he:P.underlying e=some (.int .u8)) (hc:P.cellsOf e=1) {n:Nat} {cs:List Value} {y:DataW H×List MemPlace} (h:DataW.trod enc P W base sp held n a cs=some y) :
  ∀ i,i<k→∃ m:Nat,m<256∧cs[i]?=some (.int .u8 (m:Int)):=by
 obtain⟨xs,m,_,_,_,hl,hx⟩:=DataW.trod_array ha h;intro i hi;have:=hx i hi;rw[List.getElem?_eq_getElem (by omega)] at this;obtain⟨m',hm,hcs⟩:=bx he this;rw[hc,Nat.mul_one] at hcs;refine⟨m',hm,?_⟩;have h0:((cs.drop i).take 1)[0]?=some (.int .u8 (m':Int)):=by rw[hcs];rfl
 rw[List.getElem?_take,if_pos (by omega),List.getElem?_drop,Nat.add_zero] at h0;exact h0
theorem Sq {e:TypeId} (he:P.underlying e=some (.int .u8)) {n:Nat} {cs:List Value} {y:DataW H×List MemPlace} (h:DataW.trod enc P W base sp held n e cs=some y):∀ i,i<1→∃ m:Nat,m<256∧cs[i]?=some (.int .u8 (m:Int)):=by
 obtain⟨m,hm,rfl⟩:=bx he h;intro i hi;obtain rfl:i=0:=by omega
 exact⟨m,hm,rfl⟩
theorem Xe {W:World} {aT off:Nat} {v:Value} (h:W.cell? ⟨aT,off,none⟩=some v):∃ arr e' fz,W.heap[aT]?=some (.cells arr e' fz)∧arr[off]?=some v:=by
 unfold World.cell? at h;split at h
 ·rename_i c e' fz hh;exact⟨c,e',fz,hh,by simpa using h⟩
 ·cases h
structure sH (W:World) (k:Nat) (x:Value) (nil:Bool) (w:nH) (len cap:Nat):Prop where
 QN:vq W w
 hlen:w.2.2.length=len*k
 cD:∀ m∈w.2.2,m<256
 mY:nil=true→x=.slice none 0 0∧len=0∧cap=0
 U9:nil=false→x=.slice (some ⟨w.1,w.2.1,none⟩) len cap
theorem SF {t e:TypeId} {k fuel:Nat} {x:Value} {y:DataW H×List MemPlace} (ht:P.underlying t=some (.slice e)) (hc:P.cellsOf e=k) (hk:0<k)
  (hel:∀ n cs y,DataW.trod enc P W base sp held n e cs=some y→∀ i,i<k→∃ m:Nat,m<256∧cs[i]?=some (.int .u8 (m:Int)))
  (hT:DataW.trod enc P W base sp held fuel t [x]=some y) (hv:Cell.okWide P W r b t x):∃ nil w len cap,sH W k x nil w len cap:=by
 rcases DataW.trod_slice ht hT with ⟨hx,_⟩ | ⟨a,len,cap,elems,rest,n,_,hx,_,_,hl,_,hlen,L5,_⟩
 ·refine⟨true,(0,0,[]),0,0,⟨.inl rfl,by simp,fun m hm=>(by cases hm),fun _=>⟨by simpa using hx,rfl,rfl⟩,fun h=>(by cases h)⟩⟩
 ·have hx:x=.slice (some a) len cap:=by simpa using hx
  subst hx;obtain⟨aT,off,spot⟩:=a;have hs:spot=none:=by
   simp only[Cell.okWide,ht,Cell.ok,World.has] at hv;obtain⟨_,_,_,hs,_⟩:=hv;exact hs
  subst hs;have each:∀ i,i<len*k→∃ m:Nat,m<256∧∃ arr e' fz,W.heap[aT]?=some (.cells arr e' fz)∧arr[off+i]?=some (.int .u8 (m:Int)):=by
   intro i hi;have hq:i/k<len:=(Nat.div_lt_iff_lt_mul hk).2 hi;have hr:i%k<k:=Nat.mod_lt _ hk;have:=L5 (i/k) hq;rw[List.getElem?_eq_getElem (by omega),Option.bind_eq_some_iff] at this;obtain⟨cs,h1,h2⟩:=this;obtain⟨m,hm,h3⟩:=hel _ _ _ h2 (i%k) hr;obtain⟨_,_,h4⟩:=World.cells?_some h1;rw[hc] at h4;have h5:=h4 (i%k) hr;rw[h3] at h5;have e:((⟨aT,off,none⟩:Addr).add (i/k*k)).add (i%k)=⟨aT,off+i,none⟩:=by
    have h':=Nat.div_add_mod' i k;rw[bQ,bQ,Nat.add_assoc,h']
   rw[e] at h5;obtain⟨arr,e',fz,h6,h7⟩:=Xe h5;exact⟨m,hm,arr,e',fz,h6,h7⟩
  have pick:∀ i,∃ m:Nat,i<len*k→m<256∧∃ arr e' fz,W.heap[aT]?=some (.cells arr e' fz)∧arr[off+i]?=some (.int .u8 (m:Int)):=fun i=>by
   by_cases hi:i<len*k
   ·obtain⟨m,h⟩:=each i hi;exact⟨m,fun _=>h⟩
   ·exact⟨0,fun h=>absurd h hi⟩
  obtain⟨f,hf⟩:=Classical.axiomOfChoice pick;have WE:((List.range (len*k)).map f).length=len*k:=by simp
  refine⟨false,(aT,off,(List.range (len*k)).map f),len,cap,⟨?_,WE,fun m hm=>?_,fun h=>(by cases h),fun _=>rfl⟩⟩
  ·by_cases h0:len*k=0
   ·left;show (List.range (len*k)).map f=[];rw[h0];rfl
   ·right;obtain⟨_,arr,e',fz,h6,_⟩:=hf 0 (by omega);refine⟨arr,e',fz,h6,fun i hi=>?_⟩;have hi:i<len*k:=by simpa using hi
    obtain⟨_,arr',e2,fz2,h8,h9⟩:=hf i hi;rw[h6] at h8;cases h8;simpa using h9
  ·obtain⟨i,hi,rfl⟩:=List.mem_map.1 hm;exact(hf i (List.mem_range.1 hi)).1
end
theorem sH.vr {W:World} {k:Nat} {x:Value} {nil:Bool} {w:nH} {len cap:Nat} (h:sH W k x nil w len cap) {ws:List nH} {i:Nat} (hw:ws[i]?=some w):VR (wW ws) (FP nil i len cap) x:=by
 cases nil with
 | true =>
  rw[(h.mY rfl).1];exact .AO 0 0
 | false =>
  rw[h.U9 rfl];have:=VR.slice (ι:=wW ws) (b:=2*i+1) (o:=0) len cap (Ul hw);simpa [FP] using this
end Go.Dust
namespace Go.Dust
open Go.Proofs Go.ChangeShapes Go.RowKit Go.WideShapes
set_option maxRecDepth 100000
set_option maxHeartbeats 4000000
theorem Xf:Tryz.prog.cellTypes Tryz.prog.depth 27=some [5,5,22,23,24,25,23]:=by kernel_rfl
theorem Xm:Tryz.prog.cellsOf 27=7:=by kernel_rfl
theorem FZ:Tryz.prog.cellsOf 5=1:=by kernel_rfl
theorem Xg:Tryz.prog.cellsOf 105=4:=by kernel_rfl
theorem Xh:Tryz.prog.cellsOf 106=3:=by kernel_rfl
theorem Xi:Tryz.prog.cellsOf 109=2:=by kernel_rfl
theorem Xj:Tryz.prog.cellsOf 22=1:=by kernel_rfl
theorem zq:Tryz.prog.cellsOf 23=1:=by kernel_rfl
theorem Xk:Tryz.prog.cellsOf 24=1:=by kernel_rfl
theorem Xl:Tryz.prog.cellsOf 25=1:=by kernel_rfl
section
variable {H:Type} {enc:TypeId×Value→H} {W:World} {r:Reach} {b:Nat}
theorem Wc {v:Value} {d:DataW H} {p:List MemPlace} (hT:DataW.Trod enc Tryz.prog W 0 (fun _=>true) true 27 v d p) (hv:Value.okWide Tryz.prog W r b 27 v) :
  ∃ (x0 x1:Nat) (y2 y3 y4 y5 y6:Value),x0<256∧x1<256∧v=.agg #[u8 x0,u8 x1,y2,y3,y4,y5,y6]∧(∃ n w l c,sH W 4 y2 n w l c)∧(∃ n w l c,sH W 1 y3 n w l c)∧(∃ n w l c,sH W 3 y4 n w l c)∧(∃ n w l c,sH W 2 y5 n w l c)∧(∃ n w l c,sH W 1 y6 n w l c):=by
 simp only[Value.okWide,Tryz.underlying27] at hv;obtain⟨cs,rfl,hn,ts,h1,_,h2⟩:=hv;rw[Xf] at h1;cases h1;rw[Xm] at hn;rcases cs with ⟨l⟩;have hl:l.length=7:=hn
 match l,hl with
 | [y0,y1,y2,y3,y4,y5,y6],_ =>
 obtain⟨fuel,hT⟩:=hT;have hcs:(Value.agg ⟨[y0,y1,y2,y3,y4,y5,y6]⟩).cells.toList=[y0,y1,y2,y3,y4,y5,y6]:=rfl;rw[hcs] at hT;obtain⟨xs,n,_,_,_,XB,hx⟩:=DataW.trod_struct Tryz.underlying27 hT;have XB:xs.length=7:=XB;have ok:∀ (i:Nat) y,[y0,y1,y2,y3,y4,y5,y6][i]?=some y→∃ u,[5,5,22,23,24,25,23][i%7]?=some u∧Cell.okWide Tryz.prog W r b u y:=fun i y hy=>h2 i y (by simpa using hy);have t0:DataW.trod enc Tryz.prog W 0 (fun _=>true) true n 5 (([y0,y1,y2,y3,y4,y5,y6].drop 0).take (Tryz.prog.cellsOf 5))=xs[0]?:=hx 0 _ rfl;rw[FZ,List.getElem?_eq_getElem (by omega)] at t0;have t1:DataW.trod enc Tryz.prog W 0 (fun _=>true) true n 5 (([y0,y1,y2,y3,y4,y5,y6].drop 1).take (Tryz.prog.cellsOf 5))=xs[1]?:=hx 1 _ rfl;rw[FZ,List.getElem?_eq_getElem (by omega)] at t1;have t2:DataW.trod enc Tryz.prog W 0 (fun _=>true) true n 22 (([y0,y1,y2,y3,y4,y5,y6].drop 2).take (Tryz.prog.cellsOf 22))=xs[2]?:=hx 2 _ rfl;rw[Xj,List.getElem?_eq_getElem (by omega)] at t2;have t3:DataW.trod enc Tryz.prog W 0 (fun _=>true) true n 23 (([y0,y1,y2,y3,y4,y5,y6].drop 3).take (Tryz.prog.cellsOf 23))=xs[3]?:=hx 3 _ rfl;rw[zq,List.getElem?_eq_getElem (by omega)] at t3;have t4:DataW.trod enc Tryz.prog W 0 (fun _=>true) true n 24 (([y0,y1,y2,y3,y4,y5,y6].drop 4).take (Tryz.prog.cellsOf 24))=xs[4]?:=hx 4 _ rfl;rw[Xk,List.getElem?_eq_getElem (by omega)] at t4;have t5:DataW.trod enc Tryz.prog W 0 (fun _=>true) true n 25 (([y0,y1,y2,y3,y4,y5,y6].drop 5).take (Tryz.prog.cellsOf 25))=xs[5]?:=hx 5 _ rfl;rw[Xl,List.getElem?_eq_getElem (by omega)] at t5;have t6:DataW.trod enc Tryz.prog W 0 (fun _=>true) true n 23 (([y0,y1,y2,y3,y4,y5,y6].drop 6).take (Tryz.prog.cellsOf 23))=xs[6]?:=hx 6 _ rfl;rw[zq,List.getElem?_eq_getElem (by omega)] at t6;obtain⟨x0,hx0,e0⟩:=bx Tryz.underlying5 t0;obtain⟨x1,hx1,e1⟩:=bx Tryz.underlying5 t1;have e0:y0=u8 x0:=by simpa using e0
 have e1:y1=u8 x1:=by simpa using e1
 obtain⟨_,u2,o2⟩:=ok 2 y2 rfl;obtain⟨_,u3,o3⟩:=ok 3 y3 rfl;obtain⟨_,u4,o4⟩:=ok 4 y4 rfl;obtain⟨_,u5,o5⟩:=ok 5 y5 rfl;obtain⟨_,u6,o6⟩:=ok 6 y6 rfl;cases u2;cases u3;cases u4;cases u5;cases u6;refine⟨x0,x1,y2,y3,y4,y5,y6,hx0,hx1,by rw[e0,e1],?_,?_,?_,?_,?_⟩
 ·exact SF Tryz.underlying22 Xg (by omega) (fun _ _ _ h=>ug Tryz.underlying105 Tryz.underlying5 FZ h) t2 o2
 ·exact SF Tryz.underlying23 FZ (by omega) (fun _ _ _ h=>Sq Tryz.underlying5 h) t3 o3
 ·exact SF Tryz.underlying24 Xh (by omega) (fun _ _ _ h=>ug Tryz.underlying106 Tryz.underlying5 FZ h) t4 o4
 ·exact SF Tryz.underlying25 Xi (by omega) (fun _ _ _ h=>ug Tryz.underlying109 Tryz.underlying5 FZ h) t5 o5
 ·exact SF Tryz.underlying23 FZ (by omega) (fun _ _ _ h=>Sq Tryz.underlying5 h) t6 o6
end
theorem sH.sl {W:World} {k:Nat} {x:Value} {nil:Bool} {w:nH} {len cap:Nat} (h:sH W k x nil w len cap) {ws:List nH} {i:Nat} (hw:ws[i]?=some w):iQ (CN ws).next (CN ws) k (FP nil i len cap) len:=by
 have hi:=(List.getElem?_eq_some_iff.1 hw).1;cases nil with
 | true =>
  obtain⟨_,rfl,rfl⟩:=h.mY rfl;exact⟨none,0,rfl,fun h=>absurd h (Nat.lt_irrefl _)⟩
 | false =>
  refine⟨some ⟨2*i+1,0,none⟩,cap,rfl,fun _=>⟨2*i+1,0,rfl,?_,fun j hj=>?_⟩⟩
  ·show 2*i+1<2*ws.length+1;omega
  ·have DZ:j<w.2.2.length:=by rw[h.hlen];exact hj
   refine⟨w.2.2[j],h.cD _ (List.getElem_mem DZ),?_⟩;rw[Nat.zero_add];exact aHe hw DZ
theorem aHd {ι:aQ} {l l':List Value} (h:bT ι l l'):VR ι (.agg ⟨l⟩) (.agg ⟨l'⟩):=by
 have key:∀ {l l':List Value},bT ι l l'→l.length=l'.length∧∀ (i:Nat) v u,l[i]?=some v→l'[i]?=some u→VR ι v u:=by
  intro l l' h
  induction h with
  | nil=>exact⟨rfl,fun i v u h=>by simp at h⟩
  | cons h _ ih =>
   refine⟨by simp[ih.1],fun i v u hv hu=>?_⟩;cases i with
   | zero=>cases hv;cases hu;exact h
   | succ i=>exact ih.2 i v u (by simpa using hv) (by simpa using hu)
 exact .agg (key h).1 fun i v u hv hu=>(key h).2 i v u (by simpa using hv) (by simpa using hu)
open Go.Proofs Go.ChangeShapes Go.RowKit Go.WideShapes
set_option maxRecDepth 100000
set_option maxHeartbeats 4000000
theorem Ym {W:World} {x0 x1 o0 i0 w0:Nat} (hx0:x0<256) (hx1:x1<256) (ho:o0<256) (hi:i0<256) (hw:w0<256) {y2 y3 y4 y5 y6:Value} (S2:∃ n w l c,sH W 4 y2 n w l c) (S3:∃ n w l c,sH W 1 y3 n w l c) (S4:∃ n w l c,sH W 3 y4 n w l c) (S5:∃ n w l c,sH W 2 y5 n w l c) (S6:∃ n w l c,sH W 1 y6 n w l c) :
  Calls Tryz.prog 5 #[.agg #[u8 x0,u8 x1,y2,y3,y4,y5,y6],u8 o0,u8 i0,u8 w0] W fun e W'=>e=.returned (.bool true)∧Below W.heap.size W W':=by
 obtain⟨n2,w2,l2,c2,S2⟩:=S2;obtain⟨n3,w3,l3,c3,S3⟩:=S3;obtain⟨n4,w4,l4,c4,S4⟩:=S4;obtain⟨n5,w5,l5,c5,S5⟩:=S5;obtain⟨n6,w6,l6,c6,S6⟩:=S6;obtain⟨ws,LM⟩:∃ ws,ws=[w2,w3,w4,w5,w6]:=⟨_,rfl⟩;have g2:ws[0]?=some w2:=by rw[LM];rfl
 have g3:ws[1]?=some w3:=by rw[LM];rfl
 have g4:ws[2]?=some w4:=by rw[LM];rfl
 have g5:ws[3]?=some w5:=by rw[LM];rfl
 have g6:ws[4]?=some w6:=by rw[LM];rfl
 have hR:RS Tryz.prog (wW ws) (CN ws) W:=aGt _ fun w hw=>by
  rw[LM] at hw;simp only[List.mem_cons,List.not_mem_nil,or_false] at hw;rcases hw with rfl | rfl | rfl | rfl | rfl
  ·exact S2.QN
  ·exact S3.QN
  ·exact S4.QN
  ·exact S5.QN
  ·exact S6.QN
 have hok:=aAp (q:=true) (Φ:=fun v _=>v=.bool true) (okw ws) hx0 hx1 ho hi hw (S2.sl g2) (S3.sl g3) (S4.sl g4) (S5.sl g5) (S6.sl g6) fun _ _=>rfl;rw[← OL] at hok;have hargs:bT (wW ws) [.agg #[u8 x0,u8 x1,FP n2 0 l2 c2,FP n3 1 l3 c3,FP n4 2 l4 c4,FP n5 3 l5 c5,FP n6 4 l6 c6],u8 o0,u8 i0,u8 w0] (#[.agg #[u8 x0,u8 x1,y2,y3,y4,y5,y6],u8 o0,u8 i0,u8 w0]:Array Value).toList :=
  .cons (aHd (.cons (.int _ _) (.cons (.int _ _) (.cons (S2.vr g2) (.cons (S3.vr g3) (.cons (S4.vr g4) (.cons (S5.vr g5) (.cons (S6.vr g6) .nil)))))))) (.cons (.int _ _) (.cons (.int _ _) (.cons (.int _ _) .nil)))
 obtain⟨fn,hfn,hb⟩:∃ fn,Tryz.prog.funcs[5]?=some fn∧fn.body.isSome=true:=⟨_,rfl,by kernel_rfl⟩;refine(fj mixed aD9 hfn hb hR hargs hok).mono ?_;rintro e W' ⟨v,s',ι',v',rfl,hv',_,hE,rfl⟩;exact⟨by rw[hv'.yY],hE.os,hE.tape,hE.output,hE.size,fun k hk=>hE.aD k hk aDe⟩
end Go.Dust
namespace Go.Proofs.YtaoiejcaopgjcaaGreat.verifyDamage
open Go.ChangeShapes Go.WideShapes Go.ChangeAt Go.RowKit
noncomputable abbrev P:Program:=Tryz.prog
noncomputable abbrev c:OpenClaim:=Rows.verifyDamageRow
noncomputable abbrev s:ChangeSpec:=Rows.verifyDamageSpec
noncomputable abbrev fn:Func:=Tryz.f5
abbrev f:FuncId:=5
theorem jE {a b:Bool} (ha:a=true) (hb:b=true):(a&&b)=true:=by rw[ha,hb];rfl
theorem j1:(c.wf (OpenSpec.ofChange s))=true:=by kernel_rfl
theorem j2:(laidOutB P)=true:=by kernel_rfl
theorem j3:(mapsRowed P)=true:=by kernel_rfl
theorem j4:(fn.params.all (P.readableRec ·))=true:=by kernel_rfl
theorem j5:(namedTie P c.named s.vars)=true:=by kernel_rfl
theorem j6:((c.stops==[]))=true:=by kernel_rfl
theorem j7:((P.stops==[]))=true:=by kernel_rfl
theorem j8:((c.knobs==[]))=true:=by kernel_rfl
theorem j9:((P.stopKnobs==[]))=true:=by kernel_rfl
theorem Z2:((c.inPlace==P.inPlace f))=true:=by kernel_rfl
theorem Z4:((c.unfollowed==P.unfollowed f))=true:=by kernel_rfl
theorem Z5:((c.recurses==P.recurses f))=true:=by kernel_rfl
theorem Z6:((c.named==P.varsNamed f))=true:=by kernel_rfl
theorem Z7:((c.maps==(fn.params.toList++s.plain.varTypes P).any (P.mapsRec ·)))=true:=by kernel_rfl
theorem Z9:((c.ifaces==(fn.params.toList++s.plain.varTypes P).any (P.ifacesRec ·)))=true:=by kernel_rfl
theorem Z_:((c.mapsOut==P.mapsAmong fn.resultTypes.toList))=true:=by kernel_rfl
theorem j17:((c.loops==(fn.params.toList++s.plain.varTypes P).any (P.loopsFrom ·)))=true:=by kernel_rfl
theorem j18:((c.wideKeys==(fn.params.toList++s.plain.varTypes P++fn.resultTypes.toList).any (P.wideKeysFrom ·)))=true:=by kernel_rfl
theorem j19:(s.vars.all (P.varReadable ·))=true:=by kernel_rfl
theorem j20:(fn.resultTypes.all (fun t=>P.readableRec t&&decide (t<P.types.size)))=true:=by kernel_rfl
theorem j21:((c.ifacesOut==fn.resultTypes.toList.any (P.ifacesRec ·)))=true:=by kernel_rfl
theorem j22:((c.loopsOut==fn.resultTypes.toList.any (P.loopsFrom ·)))=true:=by kernel_rfl
theorem j23:((c.plainKeys==P.plainKeys))=true:=by kernel_rfl
theorem j24:(c.shortTexts.isNone)=true:=by kernel_rfl
theorem j25:(P.stopsHeard)=true:=by kernel_rfl
theorem j26:(P.mayEnter)=true:=by kernel_rfl
theorem j27:((c.lifted==P.liftsFinal))=true:=by kernel_rfl
theorem j28:((P.make==some c.make))=true:=by kernel_rfl
theorem j29:((c.kinds==(if c.domain.isEmpty then [] else fn.params.toList.map fun t=>match P.underlying t with | some (.int k)=>some k | _=>none)))=true:=by kernel_rfl
theorem j30:((c.pinned==c.pinnedBy))=true:=by kernel_rfl
theorem j31:((c.veiled==(fn.params.toList++s.plain.varTypes P++fn.resultTypes.toList).any (P.veiledRec ·)))=true:=by kernel_rfl
theorem j32:(c.veiledFits P fn.params.toList (fn.params.toList++s.plain.varTypes P++fn.resultTypes.toList))=true:=by kernel_rfl
set_option maxRecDepth 100000 in
theorem closed:joinedFacts Tryz.prog 5 Tryz.f5 Rows.verifyDamageSpec Rows.verifyDamageRow=true:=jE (jE (jE (jE (jE (jE (jE (jE (jE (jE (jE (jE (jE (jE (jE (jE (jE (jE (jE (jE (jE (jE (jE (jE (jE (jE (jE (jE (jE (jE (jE j1 j2) j3) j4) j5) j6) j7) j8) j9) Z2) Z4) Z5) Z6) Z7) Z9) Z_) j17) j18) j19) j20) j21) j22) j23) j24) j25) j26) j27) j28) j29) j30) j31) j32
theorem named:Tryz.prog.funcNamed Rows.verifyDamageRow.func=some 5:=by kernel_rfl
end Go.Proofs.YtaoiejcaopgjcaaGreat.verifyDamage
