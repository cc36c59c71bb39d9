/- VerifySound walked in D, function by function, and its plain law (K5). -/
import Derived.Test.YtaoiejcaopgjcaaGreat8
set_option linter.unusedVariables false
set_option linter.unusedSimpArgs false
open Nat renaming reduceEqDiff → zA, reduceMul → zB, reduceAdd → zC, reduceBEq → zD
open Int renaming reduceEq → zE, reduceBEq → zF
namespace Go.Dust
open Go.Proofs
set_option maxRecDepth 100000
set_option maxHeartbeats 4000000
theorem PH.NP {P:PH} (I:P.Inv) {b m:Nat} {y:Int} (h1:1≤b) (hm:1≤m) (h2:b+m≤P.N) (hy:0≤y∧y<8) (hf:∀ j,b≤j→j<b+m→P.bs j=0):P.iR b m y=0:=by
 unfold PH.iR
 rw[if_pos ⟨by omega,by omega,by omega,by omega,hy.1,hy.2⟩,if_neg]
 unfold PH.busy
 rw[List.any_eq_true]
 rintro⟨j,hj,hc⟩
 have hj:=List.mem_range.1 hj
 have h0:=hf ((b:Int).toNat+j) (by omega) (by omega)
 rw[h0,I.dR _ h0] at hc
 cases hc
section
variable {kc:Kc} {q:Bool} {s:St} {Φ:Value→St→Prop} {N x h r g t:Nat} {P:PH} {R:PR} {G:lM} {Q:RQ} {R2:PR}
theorem cJ:type_of% (An @RX<|An @sC<|An @FN<|An @gV<|An @sB<|@sE):=An @RX<|An @sC<|An @FN<|An @gV<|An @sB<|@sE
theorem ny (hs:Ok s) (M:Mem N s x h r g t P R G Q R2) (S:lO P G) (I:P.Inv) {y:iV} (hy:y.valid=true) {sp:Int} (hsp:0≤sp∧sp<3) (hb:P.born<1000) (hl:G.L.length<1000)
  (hΦ:∀ P' G' s',Mem N s' x h r g t P' R G' Q R2→lO P' G'→P'.Inv→(P.Z→P'.Z)→P'.N=P.N→P'.born≤P.born+1→G'.L.length≤G.L.length+1→cG N s s'→Φ (.bool true) s') :
  okF q X (KO kc) 54 [ptr x,jL y,int sp] s Φ:=by
 have iJ:=I.iJ
 have hw:=iV.eD hy
 have hw2:=y.nU
 refine aG rfl fn_54 rfl (rs:=[.tmp 6]) rfl (N:=84) rfl rfl ?_
 refine aA fun Ψ0 hΨ0 hΨ0'=>?_
 simp only[cJ,↓reduceIte,zA,reduceCtorEq,zE,zB,zC,zD,zF]
 obtain⟨s1,e1,k1,c1,n1⟩:=aT hs (L:=[int y.r,int y.d,int y.k]) (n:=3) (e:=44) rfl
 rw[e1]
 refine hΨ0 _ _ ?_
 have M1:=M.aN k1
 have lsh:=c1.aS (i:=0) (k:=3) (Nat.le_refl _)
 have ks:aC [] s1 (s1.skip 24):=aC.skip k1.ok _
 have Mk:=M1.aN ks
 have hbx:∀ z∈P.aU h,z≠s.next:=fun z hz e=>by have:=M.H.cH hs z hz;omega
 have hbg:∀ z∈G.aU g,z≠s.next:=fun z hz e=>by have:=M.K.cH hs z hz;omega
 have Iz:∀ b:Nat,1≤b→b+(if y.words>32 then((y.words+63)/64).toNat else 1)≤P.N→(P.jJ b y sp).Inv∧(P.Z→(P.jJ b y sp).Z)∧(P.jJ b y sp).N=P.N∧(P.jJ b y sp).born=P.born∧(P.jJ b y sp).aU h=P.aU h:=by
  intro b hb1 _
  unfold PH.jJ
  split
  ·exact⟨I.qY hb1 (by omega) (fun h=>by omega),fun z=>z.qY _ _ _ _ _ _,rfl,rfl,rfl⟩
  ·exact⟨I.qY hb1 (by omega) (fun _=>rfl),fun z=>z.qY _ _ _ _ _ _,rfl,rfl,rfl⟩
 refine aA fun Ψ1 hΨ1 hΨ1'=>?_
 have fin:∀ (a':bD) (s2:St) (a:Int) (b:Nat) (G2:lM),a'.aD 0=ptr x→a'.aD 2=int sp→a'.aD 4=ptr s.next→a'.aD 7=int a→a'.aD 8=.bool true→1≤b→b<P.N→64*(b:Int)≤a→a<64*(b:Int)+64→Mem N s2 x h r g t P R G2 Q R2→G2.L.length=G.L.length→Obj s2 s.next [int y.r,int y.d,int y.k]→s.next<s2.next→(∀ z∈G2.aU g,z≠s.next)→cG N s s2 →
   ((P.bs b=1∧lO P G2)∨(b+(if y.words>32 then((y.words+63)/64).toNat else 1)≤P.N∧(∀ j,b≤j→j<b+(if y.words>32 then((y.words+63)/64).toNat else 1)→P.bs j=0)∧lO (P.jJ b y sp) G2))→Ψ1 .normal a' s2:=by
  intro a' s2 a b G2 r0 r2 r4 r7 r8 hb1 hb2 ha1 ha2 M2 hl2 c2 hn2 hbg2 hk hcase
  have lsh2:=c2.aS (i:=0) (k:=3) (Nat.le_refl _)
  have td:IntKind.i64.wrap (a.tdiv 64)=((b:Nat):Int):=by rw[Int.tdiv_eq_ediv_of_nonneg (by omega),aR (by omega) (by omega)];omega
  refine hΨ1 _ _ ?_
  refine aA fun Ψ2 hΨ2 hΨ2'=>?_
  refine aA fun Ψ3 hΨ3 hΨ3'=>?_
  simp only[cJ,↓reduceIte,zA,reduceCtorEq,zE,zB,zC,zD,zF,r8]
  refine hΨ3 _ _ ?_
  simp only[cJ,↓reduceIte,zA,reduceCtorEq,zE,zB,zC,zD,zF]
  refine hΨ2 _ _ ?_
  refine aA fun Ψ4 hΨ4 hΨ4'=>?_
  have fin2:∀ (a':bD) (s3:St) (P1:PH),a'.aD 0=ptr x→a'.aD 4=ptr s.next→a'.aD 7=int a→Mem N s3 x h r g t P1 R G2 Q R2→lO P1 G2→P1.Inv→(P.Z→P1.Z)→P1.N=P.N→P1.born=P.born→P1.aU h=P.aU h→Obj s3 s.next [int y.r,int y.d,int y.k]→cG N s s3→Ψ4 .normal a' s3:=by
   intro a' s3 P1 r0 r4 r7 M3 S3 I3 Z3 N3 B3 F3 c3 hk3
   have ks3:aC [] s3 (s3.skip 24):=aC.skip hk3.ok _
   have lsh3:=c3.aS (i:=0) (k:=3) (Nat.le_refl _)
   refine hΨ4 _ _ ?_
   refine aA fun Ψ10 hΨ10 hΨ10'=>?_
   refine aQ [] [] [] (by kernel_rfl) (by kernel_rfl) (by rfl) fun O hO ΨR hR=>?_
   simp only[cJ,↓reduceIte,zA,reduceCtorEq,zE,zB,zC,zD,zF,r0,r4,r7,M3.l2,lsh3,List.drop_zero,List.take]
   have fin3:∀ (a':bD) (s4:St) (P2:PH) (G4:lM),P2=(if P1.mJ a y=0 then P1.place a y else P1)→a'.aD 0=ptr x→a'.aD 4=ptr s.next→a'.aD 7=int a→a'.aD 11=int (if P1.mJ a y=0 then(P1.born:Int)+1 else 0)→a'.aD 12=int (P1.mJ a y)→Mem N s4 x h r g t P1 R G4 Q R2→lO P2 G4→G4.L.length≤G.L.length+1→Obj s4 s.next [int y.r,int y.d,int y.k]→cG N s s4→Ψ10 .normal a' s4:=by
    intro a' s4 P2 G4 hP2 r0 r4 r7 r11 r12 M4 S4 hl4 c4 hk4
    have ks4:aC [] s4 (s4.skip 24):=aC.skip hk4.ok _
    have lsh4:=c4.aS (i:=0) (k:=3) (Nat.le_refl _)
    refine hΨ10 _ _ ?_
    refine aA fun Ψ11 hΨ11 hΨ11'=>?_
    refine aQ [] [] [] (by kernel_rfl) (by kernel_rfl) (by rfl) fun O hO ΨR hR=>?_
    simp only[cJ,↓reduceIte,zA,reduceCtorEq,zE,zB,zC,zD,zF,r0,r4,r7,M4.l0,lsh4,List.drop_zero,List.take]
    refine aW ?_ (ZM ks4.ok (M4.aN ks4).H a ⟨by omega,by omega⟩ y (by omega) I3.next fun s5 H5 k5=>?_)
    ·simp only[cJ,↓reduceIte,zA,reduceCtorEq,zE,zB,zC,zD,zF]
    rw[← hP2] at H5
    simp only[cJ,↓reduceIte,zA,reduceCtorEq,zE,zB,zC,zD,zF]
    refine hR _ _ (hΨ11 _ _ ?_)
    refine aA fun Ψ12 hΨ12 hΨ12'=>?_
    refine aH [(3,79)] (by kernel_rfl) fun O hO ΨR hR=>?_
    have y3:∀ a,aE O a 3=aM (a.aD 79):=hO (3,79) (by simp)
    simp only[cJ,↓reduceIte,zA,reduceCtorEq,zE,zB,zC,zD,zF,r11,r12,y3,beq_self_eq_true]
    refine hR _ _ (hΨ12 _ _ ?_)
    simp only[cJ,↓reduceIte,zA,reduceCtorEq,zE,zB,zC,zD,zF]
    have hF:∀ z∈[h,P1.nw,P1.su,P1.mp],z∈P1.aU h:=fun z hz=>by
     simp only[List.mem_cons,List.not_mem_nil,or_false] at hz
     unfold PH.aU
     rcases hz with rfl | rfl | rfl | rfl <;> simp
    have hfo:P2.aU h=P1.aU h:=by rw[hP2];split <;> rfl
    have M5:=(M4.aN ks4).NC ks4.ok k5 hF H5 hfo
    have hp:P2.Inv∧(P.Z→P2.Z)∧P2.N=P.N∧P2.born≤P.born+1:=by
     rw[hP2]
     split
     ·rename_i he
      have Rm:=PH.jg I3.cZ I3.b0 he
      refine⟨I3.place Rm,fun z=>(Z3 z).place I3 Rm,N3,?_⟩
      show P1.born+1≤_
      omega
     ·exact⟨I3,Z3,N3,by omega⟩
    exact hΦ P2 G4 s5 M5 S4 hp.1 hp.2.1 hp.2.2.1 hp.2.2.2 hl4 ((hk4.trans (.tA ks4)).trans (.of k5 fun z hz=>M4.lP z (hF z hz)))
   have Mk3:=M3.aN ks3
   refine aW ?_ (px ks3.ok Mk3.K S3 I3 a ⟨by omega,by omega⟩ y hy (by omega) (by omega) (fun he G4 s4 H4 S4 hl4 k4 f4=>?_) (fun he s4 k4=>?_))
   ·simp only[cJ,↓reduceIte,zA,reduceCtorEq,zE,zB,zC,zD,zF]
   ·have hg:∀ z∈[g],z∈G2.aU g:=fun z hz=>by rw[List.mem_singleton.1 hz];exact List.mem_append_left _ (List.mem_cons_self ..)
    have M4:=Mk3.zt ks3.ok k4 hg H4 f4
    simp only[cJ,↓reduceIte,zA,reduceCtorEq,zE,zB,zC,zD,zF]
    refine hR _ _ (fin3 _ s4 (P1.place a y) G4 (by rw[if_pos he]) ?_ ?_ ?_ ?_ ?_ M4 S4 (by omega) ((c3.aF ks3 (by simp)).aF k4 ?_) ((hk3.trans (.tA ks3)).trans (.of k4 fun z hz=>M3.lG z (hg z hz))))
    ·simp only[cJ,↓reduceIte,zA,reduceCtorEq,zE,zB,zC,zD,zF,r0]
    ·simp only[cJ,↓reduceIte,zA,reduceCtorEq,zE,zB,zC,zD,zF,r4]
    ·simp only[cJ,↓reduceIte,zA,reduceCtorEq,zE,zB,zC,zD,zF,r7]
    ·rw[if_pos he]
     simp only[cJ,↓reduceIte,zA,reduceCtorEq,zE,zB,zC,zD,zF]
    ·rw[he]
     simp only[cJ,↓reduceIte,zA,reduceCtorEq,zE,zB,zC,zD,zF]
    ·intro hm
     rw[List.mem_singleton] at hm
     exact hbg2 g (hg g (List.mem_singleton.2 rfl)) hm.symm
   ·simp only[cJ,↓reduceIte,zA,reduceCtorEq,zE,zB,zC,zD,zF]
    refine hR _ _ (fin3 _ s4 P1 G2 (by rw[if_neg he]) ?_ ?_ ?_ ?_ ?_ (Mk3.aN k4) S3 (by omega) ((c3.aF ks3 (by simp)).aF k4 (by simp)) ((hk3.trans (.tA ks3)).trans (.tA k4)))
    ·simp only[cJ,↓reduceIte,zA,reduceCtorEq,zE,zB,zC,zD,zF,r0]
    ·simp only[cJ,↓reduceIte,zA,reduceCtorEq,zE,zB,zC,zD,zF,r4]
    ·simp only[cJ,↓reduceIte,zA,reduceCtorEq,zE,zB,zC,zD,zF,r7]
    ·rw[if_neg he]
     simp only[cJ,↓reduceIte,zA,reduceCtorEq,zE,zB,zC,zD,zF]
    ·simp only[cJ,↓reduceIte,zA,reduceCtorEq,zE,zB,zC,zD,zF]
  refine aA fun Ψ5 hΨ5 hΨ5'=>?_
  simp only[cJ,↓reduceIte,zA,reduceCtorEq,zE,zB,zC,zD,zF,r7,td]
  refine hΨ5 _ _ ?_
  refine aA fun Ψ6 hΨ6 hΨ6'=>?_
  simp only[cJ,↓reduceIte,zA,reduceCtorEq,zE,zB,zC,zD,zF,r0,M2.l0]
  refine aB ?_ (ZO M2.H ((b:Nat):Int) ?_)
  ·simp only[cJ,↓reduceIte,zA,reduceCtorEq,zE,zB,zC,zD,zF]
  rw[if_pos ⟨by omega,by omega⟩,Int.toNat_natCast]
  rcases hcase with ⟨hbs,S2⟩ | ⟨hbm,hf,S2⟩
  ·rw[hbs]
   simp only[cJ,↓reduceIte,zA,reduceCtorEq,zE,zB,zC,zD,zF]
   refine hΨ6 _ _ ?_
   simp only[cJ,↓reduceIte,zA,reduceCtorEq,zE,zB,zC,zD,zF]
   refine fin2 _ s2 P ?_ ?_ ?_ M2 S2 I id rfl rfl rfl c2 hk
   ·simp only[cJ,↓reduceIte,zA,reduceCtorEq,zE,zB,zC,zD,zF,r0]
   ·simp only[cJ,↓reduceIte,zA,reduceCtorEq,zE,zB,zC,zD,zF,r4]
   ·simp only[cJ,↓reduceIte,zA,reduceCtorEq,zE,zB,zC,zD,zF,r7]
  ·obtain⟨I3,Z3,N3,B3,F3⟩:=Iz b hb1 hbm
   have h0:P.bs b=0:=by
    refine hf b (Nat.le_refl _) ?_
    split
    ·omega
    ·omega
   rw[h0]
   simp only[cJ,↓reduceIte,zA,reduceCtorEq,zE,zB,zC,zD,zF]
   refine hΨ6 _ _ ?_
   simp only[bE,RV,RG,↓reduceIte,zA,reduceCtorEq,zE,zB,zC,zD,zF]
   refine aA fun Ψ7 hΨ7 hΨ7'=>?_
   simp only[cJ,↓reduceIte,zA,reduceCtorEq,zE,zB,zC,zD,zF]
   refine hΨ7 _ _ ?_
   refine aA fun Ψ8 hΨ8 hΨ8'=>?_
   refine aA fun Ψ9 hΨ9 hΨ9'=>?_
   simp only[cJ,↓reduceIte,zA,reduceCtorEq,zE,zB,zC,zD,zF,r4,lsh2,List.drop_zero,List.take]
   refine aB ?_ (EF hk.ok y fun s3 k3=>?_)
   ·simp only[cJ,↓reduceIte,zA,reduceCtorEq,zE,zB,zC,zD,zF]
   simp only[cJ,↓reduceIte,zA,reduceCtorEq,zE,zB,zC,zD,zF]
   refine hΨ9 _ _ ?_
   have M3:=M2.aN k3
   have c3:=c2.aF k3 (by simp)
   have lsh3:=c3.aS (i:=0) (k:=3) (Nat.le_refl _)
   have hnb:P.nb∈P.aU h:=by simp[PH.aU]
   by_cases hlg:y.words>32
   ·rw[if_pos hlg] at hbm hf
    obtain⟨m,hm⟩:∃ m,m=((y.words+63)/64).toNat:=⟨_,rfl⟩
    rw[← hm] at hbm hf
    have hm':(y.words+63)/64=(m:Int):=by omega
    have hE:P.iR b m sp=0:=PH.NP I hb1 (by omega) hbm ⟨hsp.1,by omega⟩ hf
    have hPc:P.jJ b y sp=P.qY b m 2 sp 3 sp:=by unfold PH.jJ;rw[if_pos hlg,← hm]
    have ks3:aC [] s3 (s3.skip 20):=aC.skip k3.ok _
    simp only[bE,RV,RG,↓reduceIte,zA,reduceCtorEq,zE,zB,zC,zD,zF,hlg,decide_true]
    refine aQ [(3,6)] [x] [] (by kernel_rfl) (by kernel_rfl) (by rfl) fun O hO ΨR hR=>?_
    simp only[cJ,↓reduceIte,zA,reduceCtorEq,zE,zB,zC,zD,zF,r0,r2,r4,M3.l0,lsh3,List.drop_zero,List.take]
    refine aW ?_ (LB ks3.ok y fun s4 k4=>?_)
    ·simp only[cJ,↓reduceIte,zA,reduceCtorEq,zE,zB,zC,zD,zF]
    rw[hm']
    have hsm:bP (s3.skip 20) s4 x=true:=(M3.aN ks3).c.same ks3.ok k4 (by simp)
    have M4:=(M3.aN ks3).aN k4
    simp only[cJ,↓reduceIte,zA,reduceCtorEq,zE,zB,zC,zD,zF,r2]
    refine⟨aV hsm bR,?_⟩
    refine aW ?_ (GW k4.ok M4.H (b:Int) (m:Int) sp ⟨by omega,by omega⟩ ⟨by omega,by omega⟩ fun s5 H5 k5=>?_)
    ·simp only[cJ,↓reduceIte,zA,reduceCtorEq,zE,zB,zC,zD,zF]
    rw[hE,if_pos rfl,Int.toNat_natCast,Int.toNat_natCast,← hPc] at H5
    rw[hE]
    simp only[cJ,↓reduceIte,zA,reduceCtorEq,zE,zB,zC,zD,zF]
    refine hR _ _ (hΨ8 _ _ ?_)
    refine aA fun Ψ13 hΨ13 hΨ13'=>?_
    simp only[cJ,↓reduceIte,zA,reduceCtorEq,zE,zB,zC,zD,zF]
    refine hΨ13 _ _ ?_
    simp only[cJ,↓reduceIte,zA,reduceCtorEq,zE,zB,zC,zD,zF]
    have hnx:s.next∉[P.nb]:=fun h=>hbx _ hnb (List.mem_singleton.1 h).symm
    refine fin2 _ s5 (P.jJ b y sp) ?_ ?_ ?_ (M4.NC k4.ok k5 (fun z hz=>by rw[List.mem_singleton.1 hz];exact hnb) H5 F3) S2 I3 Z3 N3 B3 F3 (((c3.aF ks3 (by simp)).aF k4 (by simp)).aF k5 hnx) (((hk.trans (.tA (k3.trans ks3))).trans (.tA k4)).trans (.of k5 fun z hz=>M.lP z (by rw[List.mem_singleton.1 hz];exact hnb)))
    ·simp only[cJ,↓reduceIte,zA,reduceCtorEq,zE,zB,zC,zD,zF,r0]
    ·simp only[cJ,↓reduceIte,zA,reduceCtorEq,zE,zB,zC,zD,zF,r4]
    ·simp only[cJ,↓reduceIte,zA,reduceCtorEq,zE,zB,zC,zD,zF,r7]
   ·rw[if_neg hlg] at hbm hf
    have hE:P.iR b (1:Nat) sp=0:=PH.NP I hb1 (by omega) hbm ⟨hsp.1,by omega⟩ hf
    have hE:P.iR b 1 sp=0:=hE
    have hPc:P.jJ b y sp=P.qY b 1 1 sp 0 0:=by unfold PH.jJ;rw[if_neg hlg]
    simp only[bE,RV,RG,↓reduceIte,zA,reduceCtorEq,zE,zB,zC,zD,zF,hlg,decide_false]
    simp only[cJ,↓reduceIte,zA,reduceCtorEq,zE,zB,zC,zD,zF,r0,r2,M3.l0]
    refine aB ?_ (ZK k3.ok M3.H (b:Int) sp ⟨by omega,by omega⟩ fun s5 H5 k5=>?_)
    ·simp only[cJ,↓reduceIte,zA,reduceCtorEq,zE,zB,zC,zD,zF]
    rw[hE,if_pos rfl,Int.toNat_natCast,← hPc] at H5
    rw[hE]
    simp only[cJ,↓reduceIte,zA,reduceCtorEq,zE,zB,zC,zD,zF]
    refine hΨ8 _ _ ?_
    refine aA fun Ψ13 hΨ13 hΨ13'=>?_
    simp only[cJ,↓reduceIte,zA,reduceCtorEq,zE,zB,zC,zD,zF]
    refine hΨ13 _ _ ?_
    simp only[cJ,↓reduceIte,zA,reduceCtorEq,zE,zB,zC,zD,zF]
    have hnx:s.next∉[P.nb]:=fun h=>hbx _ hnb (List.mem_singleton.1 h).symm
    refine fin2 _ s5 (P.jJ b y sp) ?_ ?_ ?_ (M3.NC k3.ok k5 (fun z hz=>by rw[List.mem_singleton.1 hz];exact hnb) H5 F3) S2 I3 Z3 N3 B3 F3 (c3.aF k5 hnx) ((hk.trans (.tA k3)).trans (.of k5 fun z hz=>M.lP z (by rw[List.mem_singleton.1 hz];exact hnb)))
    ·simp only[cJ,↓reduceIte,zA,reduceCtorEq,zE,zB,zC,zD,zF,r0]
    ·simp only[cJ,↓reduceIte,zA,reduceCtorEq,zE,zB,zC,zD,zF,r4]
    ·simp only[cJ,↓reduceIte,zA,reduceCtorEq,zE,zB,zC,zD,zF,r7]
 refine aQ [] [] [] (by kernel_rfl) (by kernel_rfl) (by rfl) fun O hO ΨR hR=>?_
 simp only[cJ,↓reduceIte,zA,reduceCtorEq,zE,zB,zC,zD,zF,M1.l2,lsh,List.drop_zero,List.take]
 refine aW ?_ (pv ks.ok Mk.K S I y hy (sp:=sp) ⟨hsp.1,by omega⟩ (fun s2 k2=>?_) (fun a b s2 hb1 hb2 hbs ha1 ha2 k2=>?_) (fun b G2 s2 hb1 hb2 hf H2 S2 hL hfo k2=>?_))
 ·simp only[cJ,↓reduceIte,zA,reduceCtorEq,zE,zB,zC,zD,zF]
 ·simp only[cJ,↓reduceIte,zA,reduceCtorEq,zE,zB,zC,zD,zF]
  refine hR _ _ (hΨ1 _ _ ?_)
  refine aA fun Ψ2 hΨ2 hΨ2'=>?_
  refine aA fun Ψ3 hΨ3 hΨ3'=>?_
  simp only[cJ,↓reduceIte,zA,reduceCtorEq,zE,zB,zC,zD,zF]
  refine hΨ3 _ _ ?_
  simp only[cJ,↓reduceIte,zA,reduceCtorEq,zE,zB,zC,zD,zF]
  refine hΨ2' _ _ _ (by simp) ?_
  simp only[cJ,↓reduceIte,zA,reduceCtorEq,zE,zB,zC,zD,zF]
  exact hΦ P G s2 (Mk.aN k2) S I id rfl (Nat.le_succ _) (Nat.le_succ _) (.tA ((k1.trans ks).trans k2))
 ·simp only[cJ,↓reduceIte,zA,reduceCtorEq,zE,zB,zC,zD,zF]
  refine hR _ _ (fin _ s2 a b G ?_ ?_ ?_ ?_ ?_ hb1 hb2 ha1 ha2 (Mk.aN k2) rfl ((c1.aF ks (by simp)).aF k2 (by simp)) (by have:=(k1.trans ks).trans k2;have:=k2.next;have:=ks.next;omega) hbg (.tA ((k1.trans ks).trans k2)) (.inl ⟨hbs,S⟩))
  all_goals simp only[cJ,↓reduceIte,zA,reduceCtorEq,zE,zB,zC,zD,zF]
 ·have hbn:G.bn∈G.aU g:=List.mem_append_left _ (List.mem_cons_of_mem _ (List.mem_cons_self ..))
  have hnx:s.next∉[G.bn]:=fun h=>hbg _ hbn (List.mem_singleton.1 h).symm
  simp only[cJ,↓reduceIte,zA,reduceCtorEq,zE,zB,zC,zD,zF]
  refine hR _ _ (fin _ s2 (64*(b:Int)) b G2 ?_ ?_ ?_ ?_ ?_ hb1 (by split at hb2 <;> omega) (by omega) (by omega) (Mk.zt ks.ok k2 (fun z hz=>by rw[List.mem_singleton.1 hz];exact hbn) H2 (fun z hz=>.inl (by rw[hfo] at hz;exact hz))) (by rw[hL]) ((c1.aF ks (by simp)).aF k2 hnx) (by have:=k2.next;have:=ks.next;omega) (by rw[hfo];exact hbg) ((cG.tA (k1.trans ks)).trans (.of k2 fun z hz=>M.lG z (by rw[List.mem_singleton.1 hz];exact hbn))) (.inr ⟨hb2,hf,S2⟩))
  all_goals simp only[cJ,↓reduceIte,zA,reduceCtorEq,zE,zB,zC,zD,zF]
end
end Go.Dust
