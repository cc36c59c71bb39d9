/- VerifySound walked in D, function by function, and its plain law (K6). -/
import Derived.Test.YtaoiejcaopgjcaaGreat9
set_option linter.unusedVariables false
set_option linter.unusedSimpArgs false
open Nat renaming reduceEqDiff → zA, reduceMul → zB, reduceAdd → zC, reduceBEq → zD
open Int renaming reduceEq → zE, reduceBEq → zF
namespace Go.Dust
open Go.Proofs
set_option maxRecDepth 100000
set_option maxHeartbeats 8000000
def lI (N:Nat) (s:St) (k:Nat) (v:Value) (n:Nat):Prop:=∃ a c,v=.slice a n c∧(0<n→∃ b off,a=some ⟨b,off,none⟩∧b<N∧∀ i,i<n*k→∃ m,m<256∧aI s.look ⟨b,off+i,none⟩=some (u8 m))
theorem lI.aF {N:Nat} {s s':St} {k:Nat} {v:Value} {n:Nat} (h:lI N s k v n) (hk:cG N s s'):lI N s' k v n:=by
 obtain⟨F,hk,hF⟩:=hk
 obtain⟨a,c,rfl,h⟩:=h
 refine⟨a,c,rfl,fun hn=>?_⟩
 obtain⟨b,off,ha,hb,hl⟩:=h hn
 refine⟨b,off,ha,hb,fun i hi=>?_⟩
 obtain⟨m,hm,hl⟩:=hl i hi
 exact⟨m,hm,cW hk (fun hm=>by have:=hF _ hm;simp only at this;omega) hl⟩
theorem lI.mono {N N':Nat} {s:St} {k:Nat} {v:Value} {n:Nat} (h:lI N s k v n) (hN:N≤N'):lI N' s k v n:=by
 obtain⟨a,c,e,h⟩:=h
 exact⟨a,c,e,fun hn=>let ⟨b,off,h1,h2,h3⟩:=h hn;⟨b,off,h1,by omega,h3⟩⟩
theorem Mem.mono {N N':Nat} {s:St} {x h r g t:Nat} {P:PH} {R:PR} {G:lM} {Q:RQ} {R2:PR} (M:Mem N s x h r g t P R G Q R2) (hN:N'≤N):Mem N' s x h r g t P R G Q R2:=by
 obtain⟨c,H,A,K,T,m1,m2,m3,m4,m5,m6,m7,m8,m9,m10,m11,m12,m13,m14,m15⟩:=M
 exact⟨c,H,A,K,T,m1,m2,m3,m4,m5,m6,m7,m8,m9,m10,by omega,fun y hy=>Nat.le_trans hN (m12 y hy),fun y hy=>Nat.le_trans hN (m13 y hy),fun y hy=>Nat.le_trans hN (m14 y hy),fun y hy=>Nat.le_trans hN (m15 y hy)⟩
theorem jR {a b:List Nat} {M:Nat} (h1:∀ y∈a,y<M) (h2:∀ y∈b,M≤y):kN a b:=fun y hy hb=>by
 have:=h1 y hy
 have:=h2 y hb
 omega
theorem Obj.keepN {N:Nat} {s s':St} {b:Nat} {L:List Value} (h:Obj s b L) (hk:cG N s s') (hb:b<N):Obj s' b L:=by
 obtain⟨F,hk,hF⟩:=hk
 exact h.aF hk fun hm=>by have:=hF _ hm;omega
theorem PH.Empty.sim {P:PH} {n b:Nat} (E:P.Empty n):lO P ⟨b,none,0,n,fun _=>0,fun _=>0,[],0⟩:=by
 refine⟨E.N.symm,E.bs.symm,E.bp.symm,E.born.symm,?_,fun o ho=>(by cases ho)⟩
 have:P.all=[]:=by
  rw[List.eq_nil_iff_forall_not_mem]
  intro a ha
  have:=(PH.dT.1 (PH.yD.1 ha)).2.2.2
  rw[E.S] at this
  cases this
 rw[this];rfl
theorem lI.ry {N:Nat} {s:St} {k n c i j:Nat} {a:Option Addr} (h:lI N s k (.slice a n c) n) (hi:i<n) (hj:j<k):∃ b off m,a=some ⟨b,off,none⟩∧b<N∧m<256∧aI s.look ⟨b,off+i*k+j,none⟩=some (u8 m):=by
 obtain⟨a',c',e,h⟩:=h
 cases e
 obtain⟨b,off,rfl,hb,hl⟩:=h (by omega)
 obtain⟨m,hm,hl⟩:=hl (i*k+j) (by
  have:(i+1)*k≤n*k:=Nat.mul_le_mul_right _ hi
  rw[Nat.succ_mul] at this
  omega)
 rw[← Nat.add_assoc] at hl
 exact⟨b,off,m,rfl,hb,hm,hl⟩
theorem lI.get4 {N:Nat} {s:St} {n c i:Nat} {a:Option Addr} (h:lI N s 4 (.slice a n c) n) (hi:i<n):∃ b off m0 m1 m2 m3,a=some ⟨b,off,none⟩∧b<N∧m0<256∧m1<256∧m2<256∧m3<256∧aS s.look ⟨b,off+i*4,none⟩ 4=some [u8 m0,u8 m1,u8 m2,u8 m3]∧aI s.look ⟨b,off+i*4+3,none⟩=some (u8 m3):=by
 obtain⟨b,off,m0,rfl,hb,h0,g0⟩:=h.ry hi (show 0<4 by omega)
 obtain⟨b1,off1,m1,e1,_,h1,g1⟩:=h.ry hi (show 1<4 by omega)
 obtain⟨b2,off2,m2,e2,_,h2,g2⟩:=h.ry hi (show 2<4 by omega)
 obtain⟨b3,off3,m3,e3,_,h3,g3⟩:=h.ry hi (show 3<4 by omega)
 cases e1;cases e2;cases e3
 refine⟨b,off,m0,m1,m2,m3,rfl,hb,h0,h1,h2,h3,JT (by omega) rfl fun j hj=>?_,g3⟩
 rcases j with _ | _ | _ | _ | j
 ·exact g0
 ·exact g1
 ·exact g2
 ·exact g3
 ·omega
theorem lI.get3 {N:Nat} {s:St} {n c i:Nat} {a:Option Addr} (h:lI N s 3 (.slice a n c) n) (hi:i<n):∃ b off m0 m1 m2,a=some ⟨b,off,none⟩∧b<N∧m0<256∧m1<256∧m2<256∧aS s.look ⟨b,off+i*3,none⟩ 3=some [u8 m0,u8 m1,u8 m2]:=by
 obtain⟨b,off,m0,rfl,hb,h0,g0⟩:=h.ry hi (show 0<3 by omega)
 obtain⟨b1,off1,m1,e1,_,h1,g1⟩:=h.ry hi (show 1<3 by omega)
 obtain⟨b2,off2,m2,e2,_,h2,g2⟩:=h.ry hi (show 2<3 by omega)
 cases e1;cases e2
 refine⟨b,off,m0,m1,m2,rfl,hb,h0,h1,h2,JT (by omega) rfl fun j hj=>?_⟩
 rcases j with _ | _ | _ | j
 ·exact g0
 ·exact g1
 ·exact g2
 ·omega
section
variable {kc:Kc} {q:Bool} {s:St} {Φ:Value→St→Prop}
theorem bM:type_of% (An @RX<|An @fp<|An @ld_5<|An @vZ<|An @fq<|An @tz<|An @tv<|An @ub<|An @tw<|An @NJ<|An @sC<|An @st_36<|An @xU<|An @st_37<|An @ft<|An @ld_22<|An @wh<|An @ix_22<|An @vu<|An @QY<|An @fu<|An @ld_23<|An @wi<|An @ix_23<|An @FN<|An @sB<|An @sE<|An @fw<|An @ld_24<|An @wj<|An @ix_24<|An @vv<|An @ri<|An @zx<|An @vk<|An @kA<|An @kI<|An @eC<|An @bF<|An @fx<|An @ld_25<|An @wk<|An @ix_25<|An @vl<|@fy):=An @RX<|An @fp<|An @ld_5<|An @vZ<|An @fq<|An @tz<|An @tv<|An @ub<|An @tw<|An @NJ<|An @sC<|An @st_36<|An @xU<|An @st_37<|An @ft<|An @ld_22<|An @wh<|An @ix_22<|An @vu<|An @QY<|An @fu<|An @ld_23<|An @wi<|An @ix_23<|An @FN<|An @sB<|An @sE<|An @fw<|An @ld_24<|An @wj<|An @ix_24<|An @vv<|An @ri<|An @zx<|An @vk<|An @kA<|An @kI<|An @eC<|An @bF<|An @fx<|An @ld_25<|An @wk<|An @ix_25<|An @vl<|@fy
theorem vt (hs:Ok s) {x0 x1:Nat} (hx0:x0<256) (hx1:x1<256) {v2 v3 v4 v5 v6:Value} {l2 l3 l4 l5 l6:Nat} (U2:lI s.next s 4 v2 l2) (U3:lI s.next s 1 v3 l3) (U4:lI s.next s 3 v4 l4) (U5:lI s.next s 2 v5 l5) (U6:lI s.next s 1 v6 l6)
  (hΦ:∀ x h r g t P R G Q s',Mem s.next s' x h r g t P R G Q R→lO P G→P.Inv→P.Sound→PR.sP P R→P.N≤24→P.born≤40→aC [] s s'→Φ (ptr x) s'):okF q X (KO kc) 8 [.agg #[u8 x0,u8 x1,v2,v3,v4,v5,v6]] s Φ:=by
 obtain⟨a2,c2',rfl,W2⟩:=U2
 obtain⟨a3,c3',rfl,W3⟩:=U3
 obtain⟨a4,c4',rfl,W4⟩:=U4
 obtain⟨a5,c5',rfl,W5⟩:=U5
 obtain⟨a6,c6',rfl,W6⟩:=U6
 have U2:lI s.next s 4 (.slice a2 l2 c2') l2:=⟨a2,c2',rfl,W2⟩
 have U3:lI s.next s 1 (.slice a3 l3 c3') l3:=⟨a3,c3',rfl,W3⟩
 have U4:lI s.next s 3 (.slice a4 l4 c4') l4:=⟨a4,c4',rfl,W4⟩
 have U5:lI s.next s 2 (.slice a5 l5 c5') l5:=⟨a5,c5',rfl,W5⟩
 have U6:lI s.next s 1 (.slice a6 l6 c6') l6:=⟨a6,c6',rfl,W6⟩
 clear W2 W3 W4 W5 W6
 refine aG rfl fn_8 rfl (rs:=[.tmp 2]) rfl (N:=257) rfl rfl ?_
 refine aA fun Ψ0 hΨ0 hΨ0'=>?_
 simp only[bM,↓reduceIte,zA,reduceCtorEq,zE,zB,zC,zD,zF]
 obtain⟨s1,e1,k1,c1,n1⟩:=aT hs (L:=[u8 x0,u8 x1,.slice a2 l2 c2',.slice a3 l3 c3',.slice a4 l4 c4',.slice a5 l5 c5',.slice a6 l6 c6']) (n:=7) (e:=27) rfl
 rw[e1]
 refine hΨ0 _ _ ?_
 have w:∀ n:Nat,n<256→IntKind.wrap .i64 (n:Int)=(n:Int):=fun n h=>aR (by omega) (by omega)
 have tm23:(x0:Int).tmod 23=((x0%23:Nat):Int):=rfl
 have tm4:(x1:Int).tmod 4=((x1%4:Nat):Int):=rfl
 have wb:IntKind.wrap .i64 (2+((x0%23:Nat):Int))=((2+x0%23:Nat):Int):=by rw[aR (by omega) (by omega)];rfl
 have wm:IntKind.wrap .i64 (1+((x1%4:Nat):Int))=((1+x1%4:Nat):Int):=by rw[aR (by omega) (by omega)];rfl
 have f0:aI s1.look ⟨s.next,0,none⟩=some (u8 x0):=c1.load rfl
 have f1:aI s1.look ⟨s.next,1,none⟩=some (u8 x1):=c1.load rfl
 refine aA fun Ψ1 hΨ1 hΨ1'=>?_
 refine aQ [] [] [] (by kernel_rfl) (by kernel_rfl) (by rfl) fun O hO ΨR hR=>?_
 simp only[bM,↓reduceIte,zA,reduceCtorEq,zE,zB,zC,zD,zF,f0,f1,w x0 hx0,w x1 hx1,tm23,tm4,wb,wm]
 refine hR _ _ (hΨ1 _ _ ?_)
 have ks1:aC [] s1 (s1.skip 24):=aC.skip k1.ok _
 refine aA fun Ψ2 hΨ2 hΨ2'=>?_
 simp only[bM,↓reduceIte,zA,reduceCtorEq,zE,zB,zC,zD,zF]
 refine aB ?_ (ve ks1.ok (n':=2+x0%23) rfl (by omega) (by omega) ?_)
 ·simp only[bM,↓reduceIte,zA,reduceCtorEq,zE,zB,zC,zD,zF]
 intro s2 h P0 H0 E0 fP k2
 try simp only[bM,↓reduceIte,zA,reduceCtorEq,zE,zB,zC,zD,zF]
 refine hΨ2 _ _ ?_
 refine aA fun Ψ3 hΨ3 hΨ3'=>?_
 simp only[bM,↓reduceIte,zA,reduceCtorEq,zE,zB,zC,zD,zF]
 refine aB ?_ (qf k2.ok (m':=1+x1%4) rfl (by omega) (by omega) ?_)
 ·simp only[bM,↓reduceIte,zA,reduceCtorEq,zE,zB,zC,zD,zF]
 intro r R0 s3 A0 hRm hRsl hRgl hRq hRva fR k3
 try simp only[bM,↓reduceIte,zA,reduceCtorEq,zE,zB,zC,zD,zF]
 refine hΨ3 _ _ ?_
 refine aA fun Ψ4 hΨ4 hΨ4'=>?_
 refine aA fun Ψ5 hΨ5 hΨ5'=>?_
 refine aH [(2,43),(6,47),(10,51)] (by kernel_rfl) fun O hO ΨR hR=>?_
 have y2:∀ a,aE O a 2=aM (a.aD 43):=hO (2,43) (by simp)
 have y6:∀ a,aE O a 6=aM (a.aD 47):=hO (6,47) (by simp)
 have y10:∀ a,aE O a 10=aM (a.aD 51):=hO (10,51) (by simp)
 simp only[bM,↓reduceIte,zA,reduceCtorEq,zE,zB,zC,zD,zF,y2,y6,y10]
 refine hR _ _ (hΨ5 _ _ ?_)
 simp only[bM,↓reduceIte,zA,reduceCtorEq,zE,zB,zC,zD,zF]
 refine hΨ4 _ _ ?_
 have k03:aC [] s1 s3:=(ks1.trans k2).trans k3
 obtain⟨s4,e4,k4,c4,n4⟩:=aT k3.ok (L:=[ptr h,ptr r,.pointer none,.pointer none]) (n:=4) (e:=39) rfl
 refine aA fun Ψ6 hΨ6 hΨ6'=>?_
 simp only[bM,↓reduceIte,zA,reduceCtorEq,zE,zB,zC,zD,zF]
 rw[e4]
 refine hΨ6 _ _ ?_
 obtain⟨x,hx⟩:∃ x,x=s3.next:=⟨_,rfl⟩
 rw[← hx] at c4
 refine aA fun Ψ7 hΨ7 hΨ7'=>?_
 simp only[bM,↓reduceIte,zA,reduceCtorEq,zE,zB,zC,zD,zF]
 refine aB ?_ (ref_New k4.ok (n:=2+x0%23) (by omega) (by omega) fun g gb s5 G5 fG k5=>?_)
 ·simp only[bM,↓reduceIte,zA,reduceCtorEq,zE,zB,zC,zD,zF]
 obtain⟨s6,e6,c6,k6⟩:=(c4.aF k5 (by simp)).dU k5.ok (i:=2) (v:=ptr g) (by simp) rfl
 have e6:bJ s5 ⟨s3.next,2,none⟩ [ptr g]=some s6:=by rw[← hx];exact e6
 simp only[bM,↓reduceIte,zA,reduceCtorEq,zE,zB,zC,zD,zF,e6]
 refine hΨ7 _ _ ?_
 refine aA fun Ψ8 hΨ8 hΨ8'=>?_
 simp only[bM,↓reduceIte,zA,reduceCtorEq,zE,zB,zC,zD,zF]
 refine aB ?_ (rr_New k6.ok (m:=1+x1%4) (by omega) (by omega) fun t Q0 RR s7 hRm' hRsl' hRgl' hRq' T7 fT k7=>?_)
 ·simp only[bM,↓reduceIte,zA,reduceCtorEq,zE,zB,zC,zD,zF]
 obtain⟨s8,e8,c8,k8⟩:=(c6.aF k7 (by simp)).dU k7.ok (i:=3) (v:=ptr t) (by simp) rfl
 have e8:bJ s7 ⟨s3.next,3,none⟩ [ptr t]=some s8:=by rw[← hx];exact e8
 simp only[bM,↓reduceIte,zA,reduceCtorEq,zE,zB,zC,zD,zF,e8]
 refine hΨ8 _ _ ?_
 have nP:∀ y∈P0.aU h,s1.next≤y∧y<s2.next:=fun y hy=>⟨by have:=fP y hy;have:=ks1.next;omega,H0.cH k2.ok y hy⟩
 have nR:∀ y∈R0.aU r,s2.next≤y∧y<s3.next:=fun y hy=>⟨fR y hy,A0.cH k3.ok y hy⟩
 have nG:∀ y∈lM.aU g ⟨gb,none,0,2+x0%23,fun _=>0,fun _=>0,[],0⟩,s4.next≤y∧y<s5.next:=fun y hy=>⟨fG y hy,G5.cH k5.ok y hy⟩
 have nT:∀ y∈Q0.aU t RR,s6.next≤y∧y<s7.next:=fun y hy=>⟨fT y hy,T7.cH k7.ok y hy⟩
 have q12:=ks1.next
 have q23:=k2.next
 have q34:=k3.next
 have q45:=k4.next
 have q56:=k5.next
 have q67:=k6.next
 have q78:=k7.next
 have q89:=k8.next
 have xF:∀ y,y≠x→y∉[x]:=fun y hy hm=>hy (List.mem_singleton.1 hm)
 have T7':mV s7 t Q0 R0:=T7.congr (hRm.trans hRm'.symm) (by funext i;rw[hRsl,hRsl']) (by funext i;rw[hRgl,hRgl']) (hRq.trans hRq'.symm)
 have fQ:Q0.aU t R0=Q0.aU t RR:=by unfold RQ.aU;rw[hRm,← hRm',hRq,hRq']
 have k48:aC [x] s4 s8:=((k5.any.trans k6).trans k7.any).trans k8
 have k18:aC [] s1 s8:=(k03.trans k4).step k48 fun y hy=>.inr (by rw[List.mem_singleton.1 hy];exact k1.ok.fresh _ (by omega))
 have M8:Mem s1.next s8 x h r g t P0 R0 ⟨gb,none,0,2+x0%23,fun _=>0,fun _=>0,[],0⟩ Q0 R0:=by
  refine⟨c8,(((H0.aN k3).aN k4).aF k48 fun y hy=>xF y (by have:=nP y hy;omega)),((A0.aN k4).aF k48 fun y hy=>xF y (by have:=nR y hy;omega)),((G5.aF k6 fun y hy=>xF y (by have:=nG y hy;omega)).aN k7).aF k8 (fun y hy=>xF y (by have:=nG y hy;omega)),
   T7'.aF k8 (fun y hy=>xF y (by rw[fQ] at hy;have:=nT y hy;omega)),?_,?_,?_,?_,?_,?_,?_,?_,?_,?_,by omega,fun y hy=>(nP y hy).1,fun y hy=>by have:=nR y hy;omega,fun y hy=>by have:=nG y hy;omega,fun y hy=>by rw[fQ] at hy;have:=nT y hy;omega⟩
  ·exact(jR (M:=s2.next) (fun y hy=>(nP y hy).2) (fun y hy=>by rw[List.mem_singleton.1 hy];omega)).symm
  ·exact(jR (M:=s3.next) (fun y hy=>(nR y hy).2) (fun y hy=>by rw[List.mem_singleton.1 hy];omega)).symm
  ·exact jR (M:=s4.next) (fun y hy=>by rw[List.mem_singleton.1 hy];omega) (fun y hy=>(nG y hy).1)
  ·rw[fQ];exact jR (M:=s4.next) (fun y hy=>by rw[List.mem_singleton.1 hy];omega) (fun y hy=>by have:=nT y hy;omega)
  ·exact jR (M:=s2.next) (fun y hy=>(nP y hy).2) (fun y hy=>(nR y hy).1)
  ·exact jR (M:=s2.next) (fun y hy=>(nP y hy).2) (fun y hy=>by have:=nG y hy;omega)
  ·rw[fQ];exact jR (M:=s2.next) (fun y hy=>(nP y hy).2) (fun y hy=>by have:=nT y hy;omega)
  ·exact jR (M:=s3.next) (fun y hy=>(nR y hy).2) (fun y hy=>by have:=nG y hy;omega)
  ·rw[fQ];exact jR (M:=s3.next) (fun y hy=>(nR y hy).2) (fun y hy=>by have:=nT y hy;omega)
  ·rw[fQ];exact jR (M:=s5.next) (fun y hy=>(nG y hy).2) (fun y hy=>by have:=nT y hy;omega)
 have S8:=E0.sim (b:=gb)
 have I8:=E0.inv (by omega)
 have Z8:=E0.Z
 have hb8:=E0.born
 have hN8:=E0.N
 have L8:PR.sP P0 R0:=⟨fun i=>.inl (hRsl i),fun i=>.inl (hRgl i),fun y hy=>by rw[hRq] at hy;cases hy⟩
 clear nT nG nR nP T7 T7' fQ fT fG fR fP E0 H0 A0 G5
 have K18:cG s1.next s1 s8:=.tA k18
 have hN1:s.next≤s1.next:=k1.next
 have V2:=(U2.aF (.tA k1)).mono hN1
 have V3:=(U3.aF (.tA k1)).mono hN1
 have V4:=(U4.aF (.tA k1)).mono hN1
 have V5:=(U5.aF (.tA k1)).mono hN1
 have V6:=(U6.aF (.tA k1)).mono hN1
 clear U2 U3 U4 U5 U6
 refine aA fun Ψ9 hΨ9 hΨ9'=>?_
 refine aA fun Ψ10 hΨ10 hΨ10'=>?_
 simp only[bM,↓reduceIte,zA,reduceCtorEq,zE,zB,zC,zD,zF]
 refine hΨ10 _ _ ?_
 refine aL fun Ψ11 hΨ11 hΨ11e hΨ11'=>?_
 have box:∀ s',cG s1.next s1 s'→Obj s' s.next [u8 x0,u8 x1,.slice a2 l2 c2',.slice a3 l3 c3',.slice a4 l4 c4',.slice a5 l5 c5',.slice a6 l6 c6']:=fun s' k=>c1.keepN k (by omega)
 refine fY (n:=min l2 40) (fun j a' s'=>a'.aD 1=ptr s.next∧a'.aD 9=ptr x∧a'.aD 10=int j∧∃ P G,Mem s1.next s' x h r g t P R0 G Q0 R0∧lO P G∧P.Inv∧P.Z∧P.N=2+x0%23∧P.born≤j∧G.L.length≤j∧cG s1.next s1 s')
  (fun j a' s'=>a'.aD 1=ptr s.next∧a'.aD 9=ptr x∧a'.aD 10=int j∧∃ P G,Mem s1.next s' x h r g t P R0 G Q0 R0∧lO P G∧P.Inv∧P.Z∧P.N=2+x0%23∧P.born≤j+1∧G.L.length≤j+1∧cG s1.next s1 s') ?_ ?_ ?_ ?_ (Nat.zero_le _) ?_
 ·rintro j a' s' hj ⟨r1,r9,r10,hW⟩ Ψ' hΨ'
  obtain⟨P,G,M,S,I,Z,hN,hb,hl,K⟩:=hW
  have lf:aI s'.look ⟨s.next,2,none⟩=some (.slice a2 l2 c2'):=(box s' K).load rfl
  refine aH [(5,80)] (by kernel_rfl) fun O hO ΨR hR=>?_
  have y5:∀ a,aE O a 5=aM (a.aD 80):=hO (5,80) (by simp)
  by_cases hc:(j:Int)<(l2:Int)
  ·simp only[bM,↓reduceIte,zA,reduceCtorEq,zE,zB,zC,zD,zF,y5,r1,r10,lf,hc,decide_true]
   refine hR _ _ (hΨ' _ _ (decide ((j:Int)<40)) ?_ (by rw[decide_eq_true_eq];omega) ⟨?_,?_,?_,P,G,M,S,I,Z,hN,hb,hl,K⟩)
   all_goals simp only[bM,↓reduceIte,zA,reduceCtorEq,zE,zB,zC,zD,zF,r1,r9,r10]
  ·simp only[bM,↓reduceIte,zA,reduceCtorEq,zE,zB,zC,zD,zF,y5,r1,r10,lf,hc,decide_false]
   refine hR _ _ (hΨ' _ _ false ?_ (by simp;omega) ⟨?_,?_,?_,P,G,M,S,I,Z,hN,hb,hl,K⟩)
   all_goals simp only[bM,↓reduceIte,zA,reduceCtorEq,zE,zB,zC,zD,zF,r1,r9,r10]
 ·rintro j a' s' hj ⟨r1,r9,r10,hW⟩ Ψ' w1 w2 w3
  obtain⟨P,G,M,S,I,Z,hN,hb,hl,K⟩:=hW
  have hjl:j<l2:=by omega
  have lf:aI s'.look ⟨s.next,2,none⟩=some (.slice a2 l2 c2'):=(box s' K).load rfl
  obtain⟨b,off,m0,m1,m2,m3,rfl,hbN,g0,g1,g2,g3,ln,l3⟩:=(V2.aF K).get4 hjl
  have p1:(0:Int)≤(j:Int):=Int.natCast_nonneg _
  have p2:(j:Int)<((l2:Nat):Int):=by omega
  have tm3:(m3:Int).tmod 3=((m3%3:Nat):Int):=rfl
  have ks:aC [] s' (s'.skip 34):=aC.skip K.ok _
  refine aA fun Ψ12 hΨ12 hΨ12'=>?_
  refine aQ [(8,6),(12,6)] [s.next,b] [] (by kernel_rfl) (by kernel_rfl) (by rfl) fun O hO ΨR hR=>?_
  simp only[bM,↓reduceIte,zA,reduceCtorEq,zE,zB,zC,zD,zF,r1,r9,r10,lf,p1,p2,and_self,aJ,Int.toNat_natCast,ln]
  refine aW ?_ (nz ks.ok (x3:=m3) g0 g1 g2 fun y s9 hy k9=>?_)
  ·simp only[bM,↓reduceIte,zA,reduceCtorEq,zE,zB,zC,zD,zF]
  have k9':=ks.trans k9
  have K9:=K.trans (.tA k9')
  have lf9:aI s9.look ⟨s.next,2,none⟩=some (.slice (some ⟨b,off,none⟩) l2 c2'):=(box s9 K9).load rfl
  have l39:aI s9.look ⟨b,off+j*4+3,none⟩=some (u8 m3):=cW k9' (by simp) l3
  have bk:Obj (s'.skip 34) s.next _:=box _ (K.trans (.tA ks))
  have h1:bP (s'.skip 34) s9 s.next=true:=bk.same ks.ok k9 (by simp)
  have h2:bP (s'.skip 34) s9 b=true:=nL (cW ks (by simp) l3) ks.ok k9 (by simp)
  have z1:(0:Int)≤3:=by omega
  have z2:(3:Int)<((4:Nat):Int):=by omega
  simp only[bM,↓reduceIte,zA,reduceCtorEq,zE,zB,zC,zD,zF,r1,r9,r10,lf9,p1,p2,z1,z2,and_self,aJ,Int.toNat_natCast,show Int.toNat 3=3 from rfl,Nat.mul_one,l39,w m3 g3,tm3]
  refine⟨aV h1 (aV h2 bR),?_⟩
  refine aW ?_ (ny k9.ok (M.aN k9') S I hy (sp:=((m3%3:Nat):Int)) ⟨by omega,by omega⟩ (by omega) (by omega) fun P' G' s10 M' S' I' Z' hN' hb' hl' K10=>?_)
  ·simp only[bM,↓reduceIte,zA,reduceCtorEq,zE,zB,zC,zD,zF]
  simp only[bM,↓reduceIte,zA,reduceCtorEq,zE,zB,zC,zD,zF]
  refine hR _ _ (hΨ12 _ _ ?_)
  simp only[bM,↓reduceIte,zA,reduceCtorEq,zE,zB,zC,zD,zF]
  refine w1 _ _ ⟨?_,?_,?_,P',G',M',S',I',Z' Z,hN'.trans hN,by omega,by omega,K9.trans K10⟩
  all_goals simp only[bM,↓reduceIte,zA,reduceCtorEq,zE,zB,zC,zD,zF,r1,r9,r10]
 ·rintro j a' s' hj ⟨r1,r9,r10,hW⟩ Ψ' w1
  have ww:IntKind.i64.wrap ((j:Int)+1)=((j+1:Nat):Int):=by rw[aR (by omega) (by omega)];rfl
  simp only[bM,↓reduceIte,zA,reduceCtorEq,zE,zB,zC,zD,zF,r10,ww]
  refine w1 _ _ ⟨?_,?_,?_,hW⟩
  all_goals try simp only[bM,↓reduceIte,zA,reduceCtorEq,zE,zB,zC,zD,zF,r1,r9]
 ·rintro a' s' ⟨r1,r9,r10,hW⟩
  refine hΨ11e _ _ (hΨ9 _ _ ?_)
  refine aA fun Ψ13 hΨ13 hΨ13'=>?_
  refine aA fun Ψ14 hΨ14 hΨ14'=>?_
  simp only[bM,↓reduceIte,zA,reduceCtorEq,zE,zB,zC,zD,zF]
  refine hΨ14 _ _ ?_
  refine aL fun Ψ15 hΨ15 hΨ15e hΨ15'=>?_
  refine fY (n:=min l3 20) (fun j a' s'=>a'.aD 1=ptr s.next∧a'.aD 9=ptr x∧a'.aD 11=int j∧∃ P G,Mem s1.next s' x h r g t P R0 G Q0 R0∧lO P G∧P.Inv∧P.Z∧P.N=2+x0%23∧P.born≤40∧cG s1.next s1 s')
   (fun j a' s'=>a'.aD 1=ptr s.next∧a'.aD 9=ptr x∧a'.aD 11=int j∧∃ P G,Mem s1.next s' x h r g t P R0 G Q0 R0∧lO P G∧P.Inv∧P.Z∧P.N=2+x0%23∧P.born≤40∧cG s1.next s1 s') ?_ ?_ ?_ ?_ (Nat.zero_le _) ?_
  ·rintro j a' s' hj ⟨r1,r9,r11,hW⟩ Ψ' hΨ'
   have K:cG s1.next s1 s':=by obtain⟨P,G,M,S,I,Z,hN,hb,K⟩:=hW;exact K
   have lf:aI s'.look ⟨s.next,3,none⟩=some (.slice a3 l3 c3'):=(box s' K).load rfl
   refine aH [(5,108)] (by kernel_rfl) fun O hO ΨR hR=>?_
   have y5:∀ a,aE O a 5=aM (a.aD 108):=hO (5,108) (by simp)
   by_cases hc:(j:Int)<(l3:Int)
   ·simp only[bM,↓reduceIte,zA,reduceCtorEq,zE,zB,zC,zD,zF,y5,r1,r11,lf,hc,decide_true]
    refine hR _ _ (hΨ' _ _ (decide ((j:Int)<20)) ?_ (by rw[decide_eq_true_eq];omega) ⟨?_,?_,?_,hW⟩)
    all_goals simp only[bM,↓reduceIte,zA,reduceCtorEq,zE,zB,zC,zD,zF,r1,r9,r11]
   ·simp only[bM,↓reduceIte,zA,reduceCtorEq,zE,zB,zC,zD,zF,y5,r1,r11,lf,hc,decide_false]
    refine hR _ _ (hΨ' _ _ false ?_ (by simp;omega) ⟨?_,?_,?_,hW⟩)
    all_goals simp only[bM,↓reduceIte,zA,reduceCtorEq,zE,zB,zC,zD,zF,r1,r9,r11]
  ·rintro j a' s' hj ⟨r1,r9,r11,hW⟩ Ψ' w1 w2 w3
   obtain⟨P,G,M,S,I,Z,hN,hb,K⟩:=hW
   have hjl:j<l3:=by omega
   have lf:aI s'.look ⟨s.next,3,none⟩=some (.slice a3 l3 c3'):=(box s' K).load rfl
   obtain⟨b,off,m,rfl,hbN,g0,lm⟩:=(V3.aF K).ry hjl (show 0<1 by omega)
   have lm:aI s'.look ⟨b,off+j,none⟩=some (u8 m):=by rw[Nat.mul_one] at lm;exact lm
   have p1:(0:Int)≤(j:Int):=Int.natCast_nonneg _
   have p2:(j:Int)<((l3:Nat):Int):=by omega
   have tmm:(m:Int).tmod 100=((m%100:Nat):Int):=rfl
   refine aA fun Ψ16 hΨ16 hΨ16'=>?_
   simp only[bM,↓reduceIte,zA,reduceCtorEq,zE,zB,zC,zD,zF,r1,r9,r11,lf,p1,p2,and_self,aJ,Int.toNat_natCast,Nat.mul_one,lm,w m g0,tmm]
   refine aB ?_ (DU K.ok M S I (n:=m%100) (by omega) fun a s9 ha hai k9=>?_)
   ·simp only[bM,↓reduceIte,zA,reduceCtorEq,zE,zB,zC,zD,zF]
   simp only[bM,↓reduceIte,zA,reduceCtorEq,zE,zB,zC,zD,zF]
   refine hΨ16 _ _ ?_
   have M9:=M.aN k9
   have ks:aC [] s9 (s9.skip 26):=aC.skip k9.ok _
   have Mk:=M9.aN ks
   refine aA fun Ψ17 hΨ17 hΨ17'=>?_
   refine aQ [(9,5)] [x] [] (by kernel_rfl) (by kernel_rfl) (by rfl) fun O hO ΨR hR=>?_
   simp only[bM,↓reduceIte,zA,reduceCtorEq,zE,zB,zC,zD,zF,r9,M9.l2]
   refine aW ?_ (pw ks.ok Mk.K S I a fun G1 F s10 H1 S1 hF hf k10=>?_)
   ·simp only[bM,↓reduceIte,zA,reduceCtorEq,zE,zB,zC,zD,zF]
   have M10:=Mk.zt ks.ok k10 hF H1 hf
   have hsm:bP (s9.skip 26) s10 x=true:=Mk.c.same ks.ok k10 (fun hm=>M.xG x (List.mem_singleton.2 rfl) (hF x hm))
   simp only[bM,↓reduceIte,zA,reduceCtorEq,zE,zB,zC,zD,zF,r9,M10.l0]
   refine⟨aV hsm bR,?_⟩
   refine aW ?_ (mw k10.ok M10.H I.cZ a hai fun s11 H11 k11=>?_)
   ·simp only[bM,↓reduceIte,zA,reduceCtorEq,zE,zB,zC,zD,zF]
   simp only[bM,↓reduceIte,zA,reduceCtorEq,zE,zB,zC,zD,zF,beq_self_eq_true]
   refine hR _ _ (hΨ17 _ _ ?_)
   simp only[bM,↓reduceIte,zA,reduceCtorEq,zE,zB,zC,zD,zF]
   have hF':∀ z∈[P.nw,P.su,P.pu,P.mp],z∈P.aU h:=fun z hz=>by
    simp only[List.mem_cons,List.not_mem_nil,or_false] at hz
    unfold PH.aU
    rcases hz with rfl | rfl | rfl | rfl <;> simp
   have hfo:(if P.has a=true then P.kill a else P).aU h=P.aU h:=by split <;> rfl
   have M11:=M10.NC k10.ok k11 hF' H11 hfo
   have hp:(if P.has a=true then P.kill a else P).Inv∧(if P.has a=true then P.kill a else P).Z∧(if P.has a=true then P.kill a else P).N=P.N∧(if P.has a=true then P.kill a else P).born=P.born:=by
    split
    ·rename_i hh;exact⟨I.kill hh,Z.kill I hh,rfl,rfl⟩
    ·exact⟨I,Z,rfl,rfl⟩
   refine w1 _ _ ⟨?_,?_,?_,_,G1,M11,S1,hp.1,hp.2.1,hp.2.2.1.trans hN,by omega,((K.trans (.tA (k9.trans ks))).trans (.of k10 fun z hz=>M.lG z (hF z hz))).trans (.of k11 fun z hz=>M.lP z (hF' z hz))⟩
   all_goals simp only[bM,↓reduceIte,zA,reduceCtorEq,zE,zB,zC,zD,zF,r1,r9,r11]
  ·rintro j a' s' hj ⟨r1,r9,r11,hW⟩ Ψ' w1
   have ww:IntKind.i64.wrap ((j:Int)+1)=((j+1:Nat):Int):=by rw[aR (by omega) (by omega)];rfl
   simp only[bM,↓reduceIte,zA,reduceCtorEq,zE,zB,zC,zD,zF,r11,ww]
   refine w1 _ _ ⟨?_,?_,?_,hW⟩
   all_goals try simp only[bM,↓reduceIte,zA,reduceCtorEq,zE,zB,zC,zD,zF,r1,r9]
  ·rintro a' s' ⟨r1,r9,r11,hW⟩
   refine hΨ15e _ _ (hΨ13 _ _ ?_)
   refine aA fun Ψ18 hΨ18 hΨ18'=>?_
   refine aA fun Ψ19 hΨ19 hΨ19'=>?_
   simp only[bM,↓reduceIte,zA,reduceCtorEq,zE,zB,zC,zD,zF]
   refine hΨ19 _ _ ?_
   refine aL fun Ψ20 hΨ20 hΨ20e hΨ20'=>?_
   refine fY (n:=min l4 120) (fun j a' s'=>a'.aD 1=ptr s.next∧a'.aD 9=ptr x∧a'.aD 13=int j∧∃ P G,Mem s1.next s' x h r g t P R0 G Q0 R0∧lO P G∧P.Inv∧P.Sound∧P.N=2+x0%23∧P.born≤40∧cG s1.next s1 s')
    (fun j a' s'=>a'.aD 1=ptr s.next∧a'.aD 9=ptr x∧a'.aD 13=int j∧∃ P G,Mem s1.next s' x h r g t P R0 G Q0 R0∧lO P G∧P.Inv∧P.Sound∧P.N=2+x0%23∧P.born≤40∧cG s1.next s1 s') ?_ ?_ ?_ ?_ (Nat.zero_le _) ?_
   ·rintro j a' s' hj ⟨r1,r9,r13,hW⟩ Ψ' hΨ'
    have K:cG s1.next s1 s':=by obtain⟨P,G,M,S,I,Z,hN,hb,K⟩:=hW;exact K
    have lf:aI s'.look ⟨s.next,4,none⟩=some (.slice a4 l4 c4'):=(box s' K).load rfl
    refine aH [(5,141)] (by kernel_rfl) fun O hO ΨR hR=>?_
    have y5:∀ a,aE O a 5=aM (a.aD 141):=hO (5,141) (by simp)
    by_cases hc:(j:Int)<(l4:Int)
    ·simp only[bM,↓reduceIte,zA,reduceCtorEq,zE,zB,zC,zD,zF,y5,r1,r13,lf,hc,decide_true]
     refine hR _ _ (hΨ' _ _ (decide ((j:Int)<120)) ?_ (by rw[decide_eq_true_eq];omega) ⟨?_,?_,?_,hW⟩)
     all_goals simp only[bM,↓reduceIte,zA,reduceCtorEq,zE,zB,zC,zD,zF,r1,r9,r13]
    ·simp only[bM,↓reduceIte,zA,reduceCtorEq,zE,zB,zC,zD,zF,y5,r1,r13,lf,hc,decide_false]
     refine hR _ _ (hΨ' _ _ false ?_ (by simp;omega) ⟨?_,?_,?_,hW⟩)
     all_goals simp only[bM,↓reduceIte,zA,reduceCtorEq,zE,zB,zC,zD,zF,r1,r9,r13]
   ·rintro j a' s' hj ⟨r1,r9,r13,hW⟩ Ψ' w1 w2 w3
    obtain⟨P,G,M,S,I,Z,hN,hb,K⟩:=hW
    have hjl:j<l4:=by omega
    have lf:aI s'.look ⟨s.next,4,none⟩=some (.slice a4 l4 c4'):=(box s' K).load rfl
    obtain⟨b,off,m0,m1,m2,rfl,hbN,g0,g1,g2,ln⟩:=(V4.aF K).get3 hjl
    have p1:(0:Int)≤(j:Int):=Int.natCast_nonneg _
    have p2:(j:Int)<((l4:Nat):Int):=by omega
    obtain⟨t1,f1,k9,d1,v1⟩:=aT K.ok (L:=[.int .u8 0,.int .u8 0,.int .u8 0]) (n:=3) (e:=106) rfl
    obtain⟨t2,f2,d2,k10⟩:=d1.storeAll k9.ok (vs:=[u8 m0,u8 m1,u8 m2]) rfl rfl
    have k11:aC [] s' t2:=k9.step k10 fun y hy=>.inr (by rw[List.mem_singleton.1 hy];exact K.ok.fresh _ (Nat.le_refl _))
    refine aA fun Ψ21 hΨ21 hΨ21'=>?_
    simp only[bM,↓reduceIte,zA,reduceCtorEq,zE,zB,zC,zD,zF,r1,r9,r13,lf,p1,p2,and_self,aJ,Int.toNat_natCast,ln]
    rw[f1]
    simp only[bM,↓reduceIte,zA,reduceCtorEq,zE,zB,zC,zD,zF,f2]
    refine hΨ21 _ _ ?_
    have z0:(0:Int)≤0:=by omega
    have z1:(0:Int)≤1:=by omega
    have z2:(0:Int)≤2:=by omega
    have z03:(0:Int)<((3:Nat):Int):=by omega
    have z13:(1:Int)<((3:Nat):Int):=by omega
    have z23:(2:Int)<((3:Nat):Int):=by omega
    have e0:aI t2.look ⟨s'.next,0,none⟩=some (u8 m0):=d2.load rfl
    have tm0:(m0:Int).tmod 100=((m0%100:Nat):Int):=rfl
    have tm2:(m2:Int).tmod 100=((m2%100:Nat):Int):=rfl
    refine aA fun Ψ22 hΨ22 hΨ22'=>?_
    simp only[bM,↓reduceIte,zA,reduceCtorEq,zE,zB,zC,zD,zF,r9,z0,z03,and_self,aJ,show Int.toNat 0=0 from rfl,Nat.zero_mul,Nat.zero_add,e0,w m0 g0,tm0]
    have M11:=M.aN k11
    refine aB ?_ (DU k11.ok M11 S I (n:=m0%100) (by omega) fun a s9 ha hai k12=>?_)
    ·simp only[bM,↓reduceIte,zA,reduceCtorEq,zE,zB,zC,zD,zF]
    simp only[bM,↓reduceIte,zA,reduceCtorEq,zE,zB,zC,zD,zF]
    refine hΨ22 _ _ ?_
    have M12:=M11.aN k12
    refine aA fun Ψ23 hΨ23 hΨ23'=>?_
    simp only[bM,↓reduceIte,zA,reduceCtorEq,zE,zB,zC,zD,zF,r9,M12.l2]
    refine aB ?_ (py k12.ok M12.K S.L a fun s10 k13=>?_)
    ·simp only[bM,↓reduceIte,zA,reduceCtorEq,zE,zB,zC,zD,zF]
    obtain⟨t3,f3,k14,d3,v3⟩:=aT k13.ok (L:=[int 0,int 0,int 0]) (n:=3) (e:=44) rfl
    obtain⟨t4,f4,d4,k15⟩:=d3.storeAll k14.ok (vs:=[int (P.lD a).r,int (P.lD a).d,int (P.lD a).k]) rfl rfl
    have k16:aC [] s10 t4:=k14.step k15 fun y hy=>.inr (by rw[List.mem_singleton.1 hy];exact k13.ok.fresh _ (Nat.le_refl _))
    simp only[bM,↓reduceIte,zA,reduceCtorEq,zE,zB,zC,zD,zF]
    rw[f3]
    simp only[bM,↓reduceIte,zA,reduceCtorEq,zE,zB,zC,zD,zF,f4]
    refine hΨ23 _ _ ?_
    have M16:=(M12.aN k13).aN k16
    have d16:=((d2.aF k12 (by simp)).aF k13 (by simp)).aF k16 (by simp)
    have lr:aI t4.look ⟨s10.next,0,none⟩=some (int (P.lD a).r):=d4.load rfl
    have K16:=K.trans (.tA (((k11.trans k12).trans k13).trans k16))
    have ks:aC [] t4 (t4.skip 50):=aC.skip k16.ok _
    refine aA fun Ψ24 hΨ24 hΨ24'=>?_
    refine aQ [(11,21),(14,21)] [s'.next,s10.next] [(2,169),(7,174)] (by kernel_rfl) (by kernel_rfl) (by rfl) fun O hO ΨR hR=>?_
    have y2:∀ a,aE O a 2=aM (a.aD 169):=hO (2,169) (by simp)
    have y7:∀ a,aE O a 7=aM (a.aD 174):=hO (7,174) (by simp)
    cases hh:P.has a with
    | false =>
     simp only[bM,↓reduceIte,zA,reduceCtorEq,zE,zB,zC,zD,zF,y2,y7]
     refine hR _ _ (hΨ24 _ _ ?_)
     simp only[bM,↓reduceIte,zA,reduceCtorEq,zE,zB,zC,zD,zF]
     refine w1 _ _ ⟨?_,?_,?_,P,G,M16.aN ks,S,I,Z,hN,hb,K16.trans (.tA ks)⟩
     all_goals simp only[bM,↓reduceIte,zA,reduceCtorEq,zE,zB,zC,zD,zF,r1,r9,r13]
    | true =>
     by_cases hr0:(P.lD a).r>0
     ·have hz:¬ ((P.lD a).r=0):=by omega
      have e1:aI t4.look ⟨s'.next,1,none⟩=some (u8 m1):=d16.load rfl
      have e2:aI t4.look ⟨s'.next,2,none⟩=some (u8 m2):=d16.load rfl
      simp only[bM,↓reduceIte,zA,reduceCtorEq,zE,zB,zC,zD,zF,y2,y7,lr,hr0,decide_true,r9,z1,z13,z2,z23,and_self,aJ,show Int.toNat 1=1 from rfl,show Int.toNat 2=2 from rfl,Nat.mul_one,Nat.zero_add,e1,e2,w m1 g1,w m2 g2,hz,tm2]
      have Mk:=M16.aN ks
      refine aW ?_ (DU ks.ok Mk S I (n:=m2%100) (by omega) fun to s11 hto htoi k17=>?_)
      ·simp only[bM,↓reduceIte,zA,reduceCtorEq,zE,zB,zC,zD,zF]
      have h1:bP (t4.skip 50) s11 s'.next=true:=(d16.aF ks (by simp)).same ks.ok k17 (by simp)
      have h2:bP (t4.skip 50) s11 s10.next=true:=(d4.aF ks (by simp)).same ks.ok k17 (by simp)
      simp only[bM,↓reduceIte,zA,reduceCtorEq,zE,zB,zC,zD,zF,y2,y7]
      refine⟨aV h1 (aV h2 bR),?_⟩
      refine aW ?_ (vq k17.ok (Mk.aN k17) S I hai htoi (i:=(m1:Int).tmod (P.lD a).r) fun G' s12 M' S' K17=>?_)
      ·simp only[bM,↓reduceIte,zA,reduceCtorEq,zE,zB,zC,zD,zF]
      simp only[bM,↓reduceIte,zA,reduceCtorEq,zE,zB,zC,zD,zF,y2,y7]
      refine hR _ _ (hΨ24 _ _ ?_)
      simp only[bM,↓reduceIte,zA,reduceCtorEq,zE,zB,zC,zD,zF]
      have hsr:=P.pH a ((m1:Int).tmod (P.lD a).r) to
      have hbn:(P.setRef a ((m1:Int).tmod (P.lD a).r) to).born=P.born:=by unfold PH.setRef;split <;> rfl
      refine w1 _ _ ⟨?_,?_,?_,_,G',M',S',I.setRef _ _ _,Z.setRef I _ _ _ hto,hsr.1.trans hN,by omega,(K16.trans (.tA (ks.trans k17))).trans K17⟩
      all_goals simp only[bM,↓reduceIte,zA,reduceCtorEq,zE,zB,zC,zD,zF,r1,r9,r13]
     ·simp only[bM,↓reduceIte,zA,reduceCtorEq,zE,zB,zC,zD,zF,y2,y7,lr,hr0,decide_false]
      refine hR _ _ (hΨ24 _ _ ?_)
      simp only[bM,↓reduceIte,zA,reduceCtorEq,zE,zB,zC,zD,zF]
      refine w1 _ _ ⟨?_,?_,?_,P,G,M16.aN ks,S,I,Z,hN,hb,K16.trans (.tA ks)⟩
      all_goals simp only[bM,↓reduceIte,zA,reduceCtorEq,zE,zB,zC,zD,zF,r1,r9,r13]
   ·rintro j a' s' hj ⟨r1,r9,r13,hW⟩ Ψ' w1
    have ww:IntKind.i64.wrap ((j:Int)+1)=((j+1:Nat):Int):=by rw[aR (by omega) (by omega)];rfl
    simp only[bM,↓reduceIte,zA,reduceCtorEq,zE,zB,zC,zD,zF,r13,ww]
    refine w1 _ _ ⟨?_,?_,?_,hW⟩
    all_goals try simp only[bM,↓reduceIte,zA,reduceCtorEq,zE,zB,zC,zD,zF,r1,r9]
   ·rintro a' s' ⟨r1,r9,r13,hW⟩
    refine hΨ20e _ _ (hΨ18 _ _ ?_)
    refine aA fun Ψ25 hΨ25 hΨ25'=>?_
    refine aA fun Ψ26 hΨ26 hΨ26'=>?_
    simp only[bM,↓reduceIte,zA,reduceCtorEq,zE,zB,zC,zD,zF]
    refine hΨ26 _ _ ?_
    refine aL fun Ψ27 hΨ27 hΨ27e hΨ27'=>?_
    refine fY (n:=min l5 20) (fun j a' s'=>a'.aD 1=ptr s.next∧a'.aD 9=ptr x∧a'.aD 18=int j∧∃ P G R Q,Mem s1.next s' x h r g t P R G Q R∧lO P G∧P.Inv∧P.Sound∧P.N=2+x0%23∧P.born≤40∧cG s1.next s1 s'∧PR.sP P R)
     (fun j a' s'=>a'.aD 1=ptr s.next∧a'.aD 9=ptr x∧a'.aD 18=int j∧∃ P G R Q,Mem s1.next s' x h r g t P R G Q R∧lO P G∧P.Inv∧P.Sound∧P.N=2+x0%23∧P.born≤40∧cG s1.next s1 s'∧PR.sP P R) ?_ ?_ ?_ ?_ (Nat.zero_le _) ?_
    ·rintro j a' s' hj ⟨r1,r9,r18,hW⟩ Ψ' hΨ'
     have K:cG s1.next s1 s':=by obtain⟨P,G,R,Q,M,S,I,Z,hN,hb,K,hL⟩:=hW;exact K
     have lf:aI s'.look ⟨s.next,5,none⟩=some (.slice a5 l5 c5'):=(box s' K).load rfl
     refine aH [(5,197)] (by kernel_rfl) fun O hO ΨR hR=>?_
     have y5:∀ a,aE O a 5=aM (a.aD 197):=hO (5,197) (by simp)
     by_cases hc:(j:Int)<(l5:Int)
     ·simp only[bM,↓reduceIte,zA,reduceCtorEq,zE,zB,zC,zD,zF,y5,r1,r18,lf,hc,decide_true]
      refine hR _ _ (hΨ' _ _ (decide ((j:Int)<20)) ?_ (by rw[decide_eq_true_eq];omega) ⟨?_,?_,?_,hW⟩)
      all_goals simp only[bM,↓reduceIte,zA,reduceCtorEq,zE,zB,zC,zD,zF,r1,r9,r18]
     ·simp only[bM,↓reduceIte,zA,reduceCtorEq,zE,zB,zC,zD,zF,y5,r1,r18,lf,hc,decide_false]
      refine hR _ _ (hΨ' _ _ false ?_ (by simp;omega) ⟨?_,?_,?_,hW⟩)
      all_goals simp only[bM,↓reduceIte,zA,reduceCtorEq,zE,zB,zC,zD,zF,r1,r9,r18]
    ·rintro j a' s' hj ⟨r1,r9,r18,hW⟩ Ψ' w1 w2 w3
     obtain⟨P,G,R,Q,M,S,I,Z,hN,hb,K,hL⟩:=hW
     have hjl:j<l5:=by omega
     have lf:aI s'.look ⟨s.next,5,none⟩=some (.slice a5 l5 c5'):=(box s' K).load rfl
     obtain⟨b,off,m0,rfl,hbN,g0,lm0⟩:=(V5.aF K).ry hjl (show 0<2 by omega)
     obtain⟨b',off',m1,eb,_,g1,lm1⟩:=(V5.aF K).ry hjl (show 1<2 by omega)
     cases eb
     have lm0:aI s'.look ⟨b,off+j*2,none⟩=some (u8 m0):=lm0
     have p1:(0:Int)≤(j:Int):=Int.natCast_nonneg _
     have p2:(j:Int)<((l5:Nat):Int):=by omega
     have tm1:(m1:Int).tmod 100=((m1%100:Nat):Int):=rfl
     have z0:(0:Int)≤0:=by omega
     have z1:(0:Int)≤1:=by omega
     have z02:(0:Int)<((2:Nat):Int):=by omega
     have z12:(1:Int)<((2:Nat):Int):=by omega
     have ks:aC [] s' (s'.skip 40):=aC.skip K.ok _
     refine aA fun Ψ28 hΨ28 hΨ28'=>?_
     refine aQ [(2,17),(6,17)] [s.next,b] [] (by kernel_rfl) (by kernel_rfl) (by rfl) fun O hO ΨR hR=>?_
     simp only[bM,↓reduceIte,zA,reduceCtorEq,zE,zB,zC,zD,zF,r1,r9,r18,lf,p1,p2,z0,z02,z1,z12,and_self,aJ,Int.toNat_natCast,show Int.toNat 0=0 from rfl,show Int.toNat 1=1 from rfl,Nat.zero_mul,Nat.add_zero,Nat.mul_one,lm0,lm1,w m0 g0,w m1 g1,tm1]
     have Mk:=M.aN ks
     refine aW ?_ (DU ks.ok Mk S I (n:=m1%100) (by omega) fun to s9 hto htoi k9=>?_)
     ·simp only[bM,↓reduceIte,zA,reduceCtorEq,zE,zB,zC,zD,zF]
     have bk:Obj (s'.skip 40) s.next _:=box _ (K.trans (.tA ks))
     have h1:bP (s'.skip 40) s9 s.next=true:=bk.same ks.ok k9 (by simp)
     have h2:bP (s'.skip 40) s9 b=true:=nL (cW ks (by simp) lm0) ks.ok k9 (by simp)
     simp only[bM,↓reduceIte,zA,reduceCtorEq,zE,zB,zC,zD,zF]
     refine⟨aV h1 (aV h2 bR),?_⟩
     refine aW ?_ (law_Set k9.ok (Mk.aN k9) (n:=m0) g0 htoi hto fun R' Q' s10 M' hL' hm' K10=>?_)
     ·simp only[bM,↓reduceIte,zA,reduceCtorEq,zE,zB,zC,zD,zF]
     simp only[bM,↓reduceIte,zA,reduceCtorEq,zE,zB,zC,zD,zF]
     refine hR _ _ (hΨ28 _ _ ?_)
     simp only[bM,↓reduceIte,zA,reduceCtorEq,zE,zB,zC,zD,zF]
     refine w1 _ _ ⟨?_,?_,?_,P,G,R',Q',M',S,I,Z,hN,hb,(K.trans (.tA (ks.trans k9))).trans K10,hL' hL⟩
     all_goals simp only[bM,↓reduceIte,zA,reduceCtorEq,zE,zB,zC,zD,zF,r1,r9,r18]
    ·rintro j a' s' hj ⟨r1,r9,r18,hW⟩ Ψ' w1
     have ww:IntKind.i64.wrap ((j:Int)+1)=((j+1:Nat):Int):=by rw[aR (by omega) (by omega)];rfl
     simp only[bM,↓reduceIte,zA,reduceCtorEq,zE,zB,zC,zD,zF,r18,ww]
     refine w1 _ _ ⟨?_,?_,?_,hW⟩
     all_goals try simp only[bM,↓reduceIte,zA,reduceCtorEq,zE,zB,zC,zD,zF,r1,r9]
    ·rintro a' s' ⟨r1,r9,r18,hW⟩
     refine hΨ27e _ _ (hΨ25 _ _ ?_)
     refine aA fun Ψ29 hΨ29 hΨ29'=>?_
     refine aA fun Ψ30 hΨ30 hΨ30'=>?_
     simp only[bM,↓reduceIte,zA,reduceCtorEq,zE,zB,zC,zD,zF]
     refine hΨ30 _ _ ?_
     refine aL fun Ψ31 hΨ31 hΨ31e hΨ31'=>?_
     refine fY (n:=min l6 8) (fun j a' s'=>a'.aD 1=ptr s.next∧a'.aD 9=ptr x∧a'.aD 19=int j∧∃ P G R Q,Mem s1.next s' x h r g t P R G Q R∧lO P G∧P.Inv∧P.Sound∧P.N=2+x0%23∧P.born≤40∧cG s1.next s1 s'∧PR.sP P R)
      (fun j a' s'=>a'.aD 1=ptr s.next∧a'.aD 9=ptr x∧a'.aD 19=int j∧∃ P G R Q,Mem s1.next s' x h r g t P R G Q R∧lO P G∧P.Inv∧P.Sound∧P.N=2+x0%23∧P.born≤40∧cG s1.next s1 s'∧PR.sP P R) ?_ ?_ ?_ ?_ (Nat.zero_le _) ?_
     ·rintro j a' s' hj ⟨r1,r9,r19,hW⟩ Ψ' hΨ'
      have K:cG s1.next s1 s':=by obtain⟨P,G,R,Q,M,S,I,Z,hN,hb,K,hL⟩:=hW;exact K
      have lf:aI s'.look ⟨s.next,6,none⟩=some (.slice a6 l6 c6'):=(box s' K).load rfl
      refine aH [(5,228)] (by kernel_rfl) fun O hO ΨR hR=>?_
      have y5:∀ a,aE O a 5=aM (a.aD 228):=hO (5,228) (by simp)
      by_cases hc:(j:Int)<(l6:Int)
      ·simp only[bM,↓reduceIte,zA,reduceCtorEq,zE,zB,zC,zD,zF,y5,r1,r19,lf,hc,decide_true]
       refine hR _ _ (hΨ' _ _ (decide ((j:Int)<8)) ?_ (by rw[decide_eq_true_eq];omega) ⟨?_,?_,?_,hW⟩)
       all_goals simp only[bM,↓reduceIte,zA,reduceCtorEq,zE,zB,zC,zD,zF,r1,r9,r19]
      ·simp only[bM,↓reduceIte,zA,reduceCtorEq,zE,zB,zC,zD,zF,y5,r1,r19,lf,hc,decide_false]
       refine hR _ _ (hΨ' _ _ false ?_ (by simp;omega) ⟨?_,?_,?_,hW⟩)
       all_goals simp only[bM,↓reduceIte,zA,reduceCtorEq,zE,zB,zC,zD,zF,r1,r9,r19]
     ·rintro j a' s' hj ⟨r1,r9,r19,hW⟩ Ψ' w1 w2 w3
      obtain⟨P,G,R,Q,M,S,I,Z,hN,hb,K,hL⟩:=hW
      have hjl:j<l6:=by omega
      have lf:aI s'.look ⟨s.next,6,none⟩=some (.slice a6 l6 c6'):=(box s' K).load rfl
      obtain⟨b,off,m,rfl,hbN,g0,lm⟩:=(V6.aF K).ry hjl (show 0<1 by omega)
      have lm:aI s'.look ⟨b,off+j,none⟩=some (u8 m):=by rw[Nat.mul_one] at lm;exact lm
      have p1:(0:Int)≤(j:Int):=Int.natCast_nonneg _
      have p2:(j:Int)<((l6:Nat):Int):=by omega
      have tmm:(m:Int).tmod 100=((m%100:Nat):Int):=rfl
      refine aA fun Ψ32 hΨ32 hΨ32'=>?_
      simp only[bM,↓reduceIte,zA,reduceCtorEq,zE,zB,zC,zD,zF,r1,r9,r19,lf,p1,p2,and_self,aJ,Int.toNat_natCast,Nat.mul_one,lm,w m g0,tmm]
      refine aB ?_ (DU K.ok M S I (n:=m%100) (by omega) fun a s9 ha hai k9=>?_)
      ·simp only[bM,↓reduceIte,zA,reduceCtorEq,zE,zB,zC,zD,zF]
      simp only[bM,↓reduceIte,zA,reduceCtorEq,zE,zB,zC,zD,zF]
      refine hΨ32 _ _ ?_
      have M9:=M.aN k9
      have ks:aC [] s9 (s9.skip 26):=aC.skip k9.ok _
      have Mk:=M9.aN ks
      refine aA fun Ψ33 hΨ33 hΨ33'=>?_
      refine aQ [(9,5)] [x] [] (by kernel_rfl) (by kernel_rfl) (by rfl) fun O hO ΨR hR=>?_
      simp only[bM,↓reduceIte,zA,reduceCtorEq,zE,zB,zC,zD,zF,r9,M9.l2]
      refine aW ?_ (zd ks.ok Mk.K S I a fun G1 F s10 H1 S1 hF hf k10=>?_)
      ·simp only[bM,↓reduceIte,zA,reduceCtorEq,zE,zB,zC,zD,zF]
      have M10:=Mk.zt ks.ok k10 hF H1 hf
      have hsm:bP (s9.skip 26) s10 x=true:=Mk.c.same ks.ok k10 (fun hm=>M.xG x (List.mem_singleton.2 rfl) (hF x hm))
      simp only[bM,↓reduceIte,zA,reduceCtorEq,zE,zB,zC,zD,zF,r9,M10.l0]
      refine⟨aV hsm bR,?_⟩
      refine aW ?_ (vf k10.ok M10.H a hai fun s11 H11 k11=>?_)
      ·simp only[bM,↓reduceIte,zA,reduceCtorEq,zE,zB,zC,zD,zF]
      simp only[bM,↓reduceIte,zA,reduceCtorEq,zE,zB,zC,zD,zF,beq_self_eq_true]
      refine hR _ _ (hΨ33 _ _ ?_)
      simp only[bM,↓reduceIte,zA,reduceCtorEq,zE,zB,zC,zD,zF]
      have hF':∀ z∈[P.pu],z∈P.aU h:=fun z hz=>by
       simp only[List.mem_cons,List.not_mem_nil,or_false] at hz
       unfold PH.aU
       subst hz
       simp
      have hfo:(P.vI a 1).aU h=P.aU h∧(P.vI a 1).N=P.N∧(P.vI a 1).born=P.born∧(∀ b,(P.vI a 1).has b=P.has b)∧(∀ b i,(P.vI a 1).ref b i=P.ref b i):=by unfold PH.vI;split <;> exact⟨rfl,rfl,rfl,fun _=>rfl,fun _ _=>rfl⟩
      have M11:=M10.NC k10.ok k11 hF' H11 hfo.1
      refine w1 _ _ ⟨?_,?_,?_,_,G1,R,Q,M11,S1,I.vI a 1,fun b i=>by rw[hfo.2.2.2.2,hfo.2.2.2.1];exact Z b i,hfo.2.1.trans hN,by rw[hfo.2.2.1];exact hb,((K.trans (.tA (k9.trans ks))).trans (.of k10 fun z hz=>M.lG z (hF z hz))).trans (.of k11 fun z hz=>M.lP z (hF' z hz)),⟨fun i=>by rw[hfo.2.2.2.1];exact hL.sl i,fun i=>by rw[hfo.2.2.2.1];exact hL.gl i,fun y hy=>by rw[hfo.2.2.2.1];exact hL.q y hy⟩⟩
      all_goals simp only[bM,↓reduceIte,zA,reduceCtorEq,zE,zB,zC,zD,zF,r1,r9,r19]
     ·rintro j a' s' hj ⟨r1,r9,r19,hW⟩ Ψ' w1
      have ww:IntKind.i64.wrap ((j:Int)+1)=((j+1:Nat):Int):=by rw[aR (by omega) (by omega)];rfl
      simp only[bM,↓reduceIte,zA,reduceCtorEq,zE,zB,zC,zD,zF,r19,ww]
      refine w1 _ _ ⟨?_,?_,?_,hW⟩
      all_goals try simp only[bM,↓reduceIte,zA,reduceCtorEq,zE,zB,zC,zD,zF,r1,r9]
     ·rintro a' s' ⟨r1,r9,r19,hW⟩
      refine hΨ31e _ _ (hΨ29 _ _ ?_)
      obtain⟨P,G,R,Q,M,S,I,Z,hN,hb,K,hL⟩:=hW
      simp only[bM,↓reduceIte,zA,reduceCtorEq,zE,zB,zC,zD,zF,r9]
      exact hΦ x h r g t P R G Q s' (M.mono hN1) S I Z hL (by omega) hb (K.back hs hN1 k1)
     ·refine⟨?_,?_,?_,hW⟩
      all_goals try simp only[bM,↓reduceIte,zA,reduceCtorEq,zE,zB,zC,zD,zF,r1,r9]
      rfl
    ·obtain⟨P,G,M,S,I,Z,hN,hb,K⟩:=hW
     refine⟨?_,?_,?_,P,G,R0,Q0,M,S,I,Z,hN,hb,K,⟨fun i=>.inl (hRsl i),fun i=>.inl (hRgl i),fun y hy=>by rw[hRq] at hy;cases hy⟩⟩
     all_goals try simp only[bM,↓reduceIte,zA,reduceCtorEq,zE,zB,zC,zD,zF,r1,r9]
     rfl
   ·obtain⟨P,G,M,S,I,Z,hN,hb,K⟩:=hW
    refine⟨?_,?_,?_,P,G,M,S,I,Z.sound,hN,hb,K⟩
    all_goals try simp only[bM,↓reduceIte,zA,reduceCtorEq,zE,zB,zC,zD,zF,r1,r9]
    rfl
  ·obtain⟨P,G,M,S,I,Z,hN,hb,hl,K⟩:=hW
   refine⟨?_,?_,?_,P,G,M,S,I,Z,hN,by omega,K⟩
   all_goals try simp only[bM,↓reduceIte,zA,reduceCtorEq,zE,zB,zC,zD,zF,r1,r9]
   rfl
 ·refine⟨?_,?_,?_,P0,_,M8,S8,I8,Z8,hN8,by omega,Nat.zero_le _,K18⟩
  all_goals try simp only[bM,↓reduceIte,zA,reduceCtorEq,zE,zB,zC,zD,zF,hx]
  rfl
end
end Go.Dust
