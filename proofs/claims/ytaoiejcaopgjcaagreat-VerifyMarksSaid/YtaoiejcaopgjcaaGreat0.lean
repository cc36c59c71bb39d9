/- VerifyMarks walked in D, function by function, and its plain law (K5 K6 F7 G1 K7 K8 O5). -/
import Derived.Test.YtaoiejcaopgjcaaGreatZ
import Derived.Test.YtaoiejcaopgjcaaGreatR
import Derived.Test.YtaoiejcaopgjcaaGreatY
import Derived.Test.YtaoiejcaopgjcaaGreatT
import Derived.Test.YtaoiejcaopgjcaaGreatV
set_option linter.unusedVariables false
set_option linter.unusedSimpArgs false
namespace Go.Dust
open Go.Proofs
set_option maxRecDepth 100000
set_option maxHeartbeats 4000000
theorem PH.xw {P:PH} (I:P.Inv) {b m:Nat} {y:Int} (h1:1≤b) (hm:1≤m) (h2:b+m≤P.N) (hy:0≤y∧y<8) (hf:∀ j,b≤j→j<b+m→P.bs j=0):P.nQ b m y=0:=by
 unfold PH.nQ;rw[if_pos ⟨by omega,by omega,by omega,by omega,hy.1,hy.2⟩,if_neg];unfold PH.busy;rw[List.any_eq_true];rintro⟨j,hj,hc⟩;have hj:=List.mem_range.1 hj;have h0:=hf ((b:Int).toNat+j) (by omega) (by omega);rw[h0,I.bL _ h0] at hc;cases hc
section
variable {kc:Kc} {q:Bool} {s:St} {Φ:Value→St→Prop} {N x h r g t:Nat} {P:PH} {R:PR} {G:dD} {Q:RQ} {R2:PR}
theorem dI:type_of% (An @RX<|An @CT<|An @DJ<|An @hZ<|An @yS<|@kW):=An @RX<|An @CT<|An @DJ<|An @hZ<|An @yS<|@kW
theorem aBj (hs:Ok s) (M:Mem N s x h r g t P R G Q R2) (S:iM P G) (I:P.Inv) {y:cI} (hy:y.valid=true) {sp:Int} (hsp:0≤sp∧sp<3) (hb:P.born<1000) (hl:G.L.length<1000)
  (hΦ:∀ P' G' s',Mem N s' x h r g t P' R G' Q R2→iM P' G'→P'.Inv→(P.Z→P'.Z)→P'.N=P.N→P'.born≤P.born+1→G'.L.length≤G.L.length+1→fD N s s'→Φ (.bool true) s') :
  okF q X (KO kc) 54 [ptr x,oW y,int sp] s Φ:=by
 have bW:=I.bW;have hw:=cI.sX hy;have gw:=y.CA;refine aV rfl G6 rfl (rs:=[.tmp 6]) rfl (N:=84) rfl rfl ?_;refine aA fun bB aF aZ=>?_;simp only[dI,seval];obtain⟨s1,e1,k1,c1,n1⟩:=cA hs (L:=[int y.r,int y.d,int y.k]) (n:=3) (e:=44) rfl;rw[e1];refine aF _ _ ?_;have M1:=M.aL k1;have BB:=c1.bD (i:=0) (k:=3) (Nat.le_refl _);have ks:aC [] s1 (s1.skip 24):=aC.skip k1.ok _;have Mk:=M1.aL ks;have JM:∀ z∈P.bF h,z≠s.next:=fun z hz e=>by have:=M.H.gO hs z hz;omega
 have FV:∀ z∈G.bF g,z≠s.next:=fun z hz e=>by have:=M.K.gO hs z hz;omega
 have Iz:∀ b:Nat,1≤b→b+(if y.words>32 then((y.words+63)/64).toNat else 1)≤P.N→(P.rC b y sp).Inv∧(P.Z→(P.rC b y sp).Z)∧(P.rC b y sp).N=P.N∧(P.rC b y sp).born=P.born∧(P.rC b y sp).bF h=P.bF h:=by
  intro b hb1 _;unfold PH.rC;split
  ·exact⟨I.rB hb1 (by omega) (fun h=>by omega),fun z=>z.rB _ _ _ _ _ _,rfl,rfl,rfl⟩
  ·exact⟨I.rB hb1 (by omega) (fun _=>rfl),fun z=>z.rB _ _ _ _ _ _,rfl,rfl,rfl⟩
 refine aA fun Ψ1 aE aK=>?_;have fin:∀ (a':aG) (s2:St) (a:Int) (b:Nat) (G2:dD),a'.aB 0=ptr x→a'.aB 2=int sp→a'.aB 4=ptr s.next→a'.aB 7=int a→a'.aB 8=.bool true→1≤b→b<P.N→64*(b:Int)≤a→a<64*(b:Int)+64→Mem N s2 x h r g t P R G2 Q R2→G2.L.length=G.L.length→Obj s2 s.next [int y.r,int y.d,int y.k]→s.next<s2.next→(∀ z∈G2.bF g,z≠s.next)→fD N s s2 →
   ((P.bs b=1∧iM P G2)∨(b+(if y.words>32 then((y.words+63)/64).toNat else 1)≤P.N∧(∀ j,b≤j→j<b+(if y.words>32 then((y.words+63)/64).toNat else 1)→P.bs j=0)∧iM (P.rC b y sp) G2))→Ψ1 .normal a' s2:=by
  intro a' s2 a b G2 r0 r2 r4 r7 r8 hb1 hb2 UE UF M2 hl2 c2 hn2 R9 hk T9;have BC:=c2.bD (i:=0) (k:=3) (Nat.le_refl _);have td:IntKind.i64.wrap (a.tdiv 64)=((b:Nat):Int):=by rw[Int.tdiv_eq_ediv_of_nonneg (by omega),aU (by omega) (by omega)];omega
  refine aE _ _ ?_;refine aA fun Ψ2 aH bM=>?_;refine aA fun Ψ3 aM bN=>?_;simp only[dI,seval,r8];refine aM _ _ ?_;simp only[dI,seval];refine aH _ _ ?_;refine aA fun Ψ4 aQ bZ=>?_;have cx:∀ (a':aG) (s3:St) (P1:PH),a'.aB 0=ptr x→a'.aB 4=ptr s.next→a'.aB 7=int a→Mem N s3 x h r g t P1 R G2 Q R2→iM P1 G2→P1.Inv→(P.Z→P1.Z)→P1.N=P.N→P1.born=P.born→P1.bF h=P.bF h→Obj s3 s.next [int y.r,int y.d,int y.k]→fD N s s3→Ψ4 .normal a' s3:=by
   intro a' s3 P1 r0 r4 r7 M3 S3 I3 Z3 N3 B3 F3 c3 hk3;have kN:aC [] s3 (s3.skip 24):=aC.skip hk3.ok _;have kg:=c3.bD (i:=0) (k:=3) (Nat.le_refl _);refine aQ _ _ ?_;refine aA fun mZ eB nH=>?_;refine dH [] [] [] (by kernel_rfl) (by kernel_rfl) (by rfl) fun O hO bK hR=>?_;simp only[dI,seval,r0,r4,r7,M3.l2,kg,List.drop_zero,List.take];have Az:∀ (a':aG) (s4:St) (P2:PH) (G4:dD),P2=(if P1.rL a y=0 then P1.place a y else P1)→a'.aB 0=ptr x→a'.aB 4=ptr s.next→a'.aB 7=int a→a'.aB 11=int (if P1.rL a y=0 then(P1.born:Int)+1 else 0)→a'.aB 12=int (P1.rL a y)→Mem N s4 x h r g t P1 R G4 Q R2→iM P2 G4→G4.L.length≤G.L.length+1→Obj s4 s.next [int y.r,int y.d,int y.k]→fD N s s4→mZ .normal a' s4:=by
    intro a' s4 P2 G4 en r0 r4 r7 dZ rM M4 S4 UP c4 lL;have tK:aC [] s4 (s4.skip 24):=aC.skip lL.ok _;have ON:=c4.bD (i:=0) (k:=3) (Nat.le_refl _);refine eB _ _ ?_;refine aA fun rS kL qK=>?_;refine dH [] [] [] (by kernel_rfl) (by kernel_rfl) (by rfl) fun O hO bK hR=>?_;simp only[dI,seval,r0,r4,r7,M4.l0,ON,List.drop_zero,List.take];refine eQ ?_ (X0 tK.ok (M4.aL tK).H a ⟨by omega,by omega⟩ y (by omega) I3.next fun s5 H5 k5=>?_)
    ·simp only[dI,seval]
    rw[← en] at H5;simp only[dI,seval];refine hR _ _ (kL _ _ ?_);refine aA fun uH kV tJ=>?_;refine cK [(3,79)] (by kernel_rfl) fun O hO bK hR=>?_;have y3:∀ a,aN O a 3=bC (a.aB 79):=hO (3,79) (by simp);simp only[dI,seval,dZ,rM,y3,beq_self_eq_true];refine hR _ _ (kV _ _ ?_);simp only[dI,seval];have hF:∀ z∈[h,P1.nw,P1.su,P1.mp],z∈P1.bF h:=fun z hz=>by
     simp only[List.mem_cons,List.not_mem_nil,or_false] at hz;unfold PH.bF;rcases hz with rfl | rfl | rfl | rfl <;> simp
    have hfo:P2.bF h=P1.bF h:=by rw[en];split <;> rfl
    have M5:=(M4.aL tK).BN tK.ok k5 hF H5 hfo;have hp:P2.Inv∧(P.Z→P2.Z)∧P2.N=P.N∧P2.born≤P.born+1:=by
     rw[en];split
     ·rename_i he;have Rm:=PH.Lj I3.cM I3.b0 he;refine⟨I3.place Rm,fun z=>(Z3 z).place I3 Rm,N3,?_⟩;show P1.born+1≤_;omega
     ·exact⟨I3,Z3,N3,by omega⟩
    exact hΦ P2 G4 s5 M5 S4 hp.1 hp.2.1 hp.2.2.1 hp.2.2.2 UP ((lL.trans (.iA tK)).trans (.of k5 fun z hz=>M4.lP z (hF z hz)))
   have ZN:=M3.aL kN;refine eQ ?_ (aFk kN.ok ZN.K S3 I3 a ⟨by omega,by omega⟩ y hy (by omega) (by omega) (fun he G4 s4 H4 S4 UP k4 f4=>?_) (fun he s4 k4=>?_))
   ·simp only[dI,seval]
   ·have hg:∀ z∈[g],z∈G2.bF g:=fun z hz=>by rw[List.mem_singleton.1 hz];exact List.mem_append_left _ (List.mem_cons_self ..)
    have M4:=ZN.PX kN.ok k4 hg H4 f4;simp only[dI,seval];refine hR _ _ (Az _ s4 (P1.place a y) G4 (by rw[if_pos he]) ?_ ?_ ?_ ?_ ?_ M4 S4 (by omega) ((c3.aD kN (by simp)).aD k4 ?_) ((hk3.trans (.iA kN)).trans (.of k4 fun z hz=>M3.lG z (hg z hz))))
    ·simp only[dI,seval,r0]
    ·simp only[dI,seval,r4]
    ·simp only[dI,seval,r7]
    ·rw[if_pos he];simp only[dI,seval]
    ·rw[he];simp only[dI,seval]
    ·intro hm;rw[List.mem_singleton] at hm;exact R9 g (hg g (List.mem_singleton.2 rfl)) hm.symm
   ·simp only[dI,seval];refine hR _ _ (Az _ s4 P1 G2 (by rw[if_neg he]) ?_ ?_ ?_ ?_ ?_ (ZN.aL k4) S3 (by omega) ((c3.aD kN (by simp)).aD k4 (by simp)) ((hk3.trans (.iA kN)).trans (.iA k4)))
    ·simp only[dI,seval,r0]
    ·simp only[dI,seval,r4]
    ·simp only[dI,seval,r7]
    ·rw[if_neg he];simp only[dI,seval]
    ·simp only[dI,seval]
  refine aA fun cP bI cF=>?_;simp only[dI,seval,r7,td];refine bI _ _ ?_;refine aA fun dK bO cV=>?_;simp only[dI,seval,r0,M2.l0];refine aJ ?_ (Cr M2.H ((b:Nat):Int) ?_)
  ·simp only[dI,seval]
  rw[if_pos ⟨by omega,by omega⟩,Int.toNat_natCast];rcases T9 with ⟨qJ,S2⟩ | ⟨JL,hf,S2⟩
  ·rw[qJ];simp only[dI,seval];refine bO _ _ ?_;simp only[dI,seval];refine cx _ s2 P ?_ ?_ ?_ M2 S2 I id rfl rfl rfl c2 hk
   ·simp only[dI,seval,r0]
   ·simp only[dI,seval,r4]
   ·simp only[dI,seval,r7]
  ·obtain⟨I3,Z3,N3,B3,F3⟩:=Iz b hb1 JL;have h0:P.bs b=0:=by
    refine hf b (Nat.le_refl _) ?_;split
    ·omega
    ·omega
   rw[h0];simp only[dI,seval];refine bO _ _ ?_;simp only[eG,RV,RG,seval];refine aA fun fJ cC eF=>?_;simp only[dI,seval];refine cC _ _ ?_;refine aA fun jC dA iI=>?_;refine aA fun lJ dW jP=>?_;simp only[dI,seval,r4,BC,List.drop_zero,List.take];refine aJ ?_ (ny hk.ok y fun s3 k3=>?_)
   ·simp only[dI,seval]
   simp only[dI,seval];refine dW _ _ ?_;have M3:=M2.aL k3;have c3:=c2.aD k3 (by simp);have kg:=c3.bD (i:=0) (k:=3) (Nat.le_refl _);have GH:P.nb∈P.bF h:=by simp[PH.bF]
   by_cases JT:y.words>32
   ·rw[if_pos JT] at JL hf;obtain⟨m,hm⟩:∃ m,m=((y.words+63)/64).toNat:=⟨_,rfl⟩;rw[← hm] at JL hf;have hm':(y.words+63)/64=(m:Int):=by omega
    have hE:P.nQ b m sp=0:=PH.xw I hb1 (by omega) JL ⟨hsp.1,by omega⟩ hf;have ep:P.rC b y sp=P.rB b m 2 sp 3 sp:=by unfold PH.rC;rw[if_pos JT,← hm]
    have kN:aC [] s3 (s3.skip 20):=aC.skip k3.ok _;simp only[eG,RV,RG,seval,JT,decide_true];refine dH [(3,6)] [x] [] (by kernel_rfl) (by kernel_rfl) (by rfl) fun O hO bK hR=>?_;simp only[dI,seval,r0,r2,r4,M3.l0,kg,List.drop_zero,List.take];refine eQ ?_ (nz kN.ok y fun s4 k4=>?_)
    ·simp only[dI,seval]
    rw[hm'];have iH:eT (s3.skip 20) s4 x=true:=(M3.aL kN).c.same kN.ok k4 (by simp);have M4:=(M3.aL kN).aL k4;simp only[dI,seval,r2];refine⟨gQ iH jR,?_⟩;refine eQ ?_ (U8 k4.ok M4.H (b:Int) (m:Int) sp ⟨by omega,by omega⟩ ⟨by omega,by omega⟩ fun s5 H5 k5=>?_)
    ·simp only[dI,seval]
    rw[hE,if_pos rfl,Int.toNat_natCast,Int.toNat_natCast,← ep] at H5;rw[hE];simp only[dI,seval];refine hR _ _ (dA _ _ ?_);refine aA fun AA oF yX=>?_;simp only[dI,seval];refine oF _ _ ?_;simp only[dI,seval];have GJ:s.next∉[P.nb]:=fun h=>JM _ GH (List.mem_singleton.1 h).symm;refine cx _ s5 (P.rC b y sp) ?_ ?_ ?_ (M4.BN k4.ok k5 (fun z hz=>by rw[List.mem_singleton.1 hz];exact GH) H5 F3) S2 I3 Z3 N3 B3 F3 (((c3.aD kN (by simp)).aD k4 (by simp)).aD k5 GJ) (((hk.trans (.iA (k3.trans kN))).trans (.iA k4)).trans (.of k5 fun z hz=>M.lP z (by rw[List.mem_singleton.1 hz];exact GH)))
    ·simp only[dI,seval,r0]
    ·simp only[dI,seval,r4]
    ·simp only[dI,seval,r7]
   ·rw[if_neg JT] at JL hf;have hE:P.nQ b (1:Nat) sp=0:=PH.xw I hb1 (by omega) JL ⟨hsp.1,by omega⟩ hf;have hE:P.nQ b 1 sp=0:=hE;have ep:P.rC b y sp=P.rB b 1 1 sp 0 0:=by unfold PH.rC;rw[if_neg JT]
    simp only[eG,RV,RG,seval,JT,decide_false];simp only[dI,seval,r0,r2,M3.l0];refine aJ ?_ (U7 k3.ok M3.H (b:Int) sp ⟨by omega,by omega⟩ fun s5 H5 k5=>?_)
    ·simp only[dI,seval]
    rw[hE,if_pos rfl,Int.toNat_natCast,← ep] at H5;rw[hE];simp only[dI,seval];refine dA _ _ ?_;refine aA fun AA oF yX=>?_;simp only[dI,seval];refine oF _ _ ?_;simp only[dI,seval];have GJ:s.next∉[P.nb]:=fun h=>JM _ GH (List.mem_singleton.1 h).symm;refine cx _ s5 (P.rC b y sp) ?_ ?_ ?_ (M3.BN k3.ok k5 (fun z hz=>by rw[List.mem_singleton.1 hz];exact GH) H5 F3) S2 I3 Z3 N3 B3 F3 (c3.aD k5 GJ) ((hk.trans (.iA k3)).trans (.of k5 fun z hz=>M.lP z (by rw[List.mem_singleton.1 hz];exact GH)))
    ·simp only[dI,seval,r0]
    ·simp only[dI,seval,r4]
    ·simp only[dI,seval,r7]
 refine dH [] [] [] (by kernel_rfl) (by kernel_rfl) (by rfl) fun O hO bK hR=>?_;simp only[dI,seval,M1.l2,BB,List.drop_zero,List.take];refine eQ ?_ (aF8 ks.ok Mk.K S I y hy (sp:=sp) ⟨hsp.1,by omega⟩ (fun s2 k2=>?_) (fun a b s2 hb1 hb2 qJ UE UF k2=>?_) (fun b G2 s2 hb1 hb2 hf H2 S2 hL hfo k2=>?_))
 ·simp only[dI,seval]
 ·simp only[dI,seval];refine hR _ _ (aE _ _ ?_);refine aA fun Ψ2 aH bM=>?_;refine aA fun Ψ3 aM bN=>?_;simp only[dI,seval];refine aM _ _ ?_;simp only[dI,seval];refine bM _ _ _ (by simp) ?_;simp only[dI,seval];exact hΦ P G s2 (Mk.aL k2) S I id rfl (Nat.le_succ _) (Nat.le_succ _) (.iA ((k1.trans ks).trans k2))
 ·simp only[dI,seval];refine hR _ _ (fin _ s2 a b G ?_ ?_ ?_ ?_ ?_ hb1 hb2 UE UF (Mk.aL k2) rfl ((c1.aD ks (by simp)).aD k2 (by simp)) (by have:=(k1.trans ks).trans k2;have:=k2.next;have:=ks.next;omega) FV (.iA ((k1.trans ks).trans k2)) (.inl ⟨qJ,S⟩))
  all_goals simp only[dI,seval]
 ·have hbn:G.bn∈G.bF g:=List.mem_append_left _ (List.mem_cons_of_mem _ (List.mem_cons_self ..));have GJ:s.next∉[G.bn]:=fun h=>FV _ hbn (List.mem_singleton.1 h).symm;simp only[dI,seval];refine hR _ _ (fin _ s2 (64*(b:Int)) b G2 ?_ ?_ ?_ ?_ ?_ hb1 (by split at hb2 <;> omega) (by omega) (by omega) (Mk.PX ks.ok k2 (fun z hz=>by rw[List.mem_singleton.1 hz];exact hbn) H2 (fun z hz=>.inl (by rw[hfo] at hz;exact hz))) (by rw[hL]) ((c1.aD ks (by simp)).aD k2 GJ) (by have:=k2.next;have:=ks.next;omega) (by rw[hfo];exact FV) ((fD.iA (k1.trans ks)).trans (.of k2 fun z hz=>M.lG z (by rw[List.mem_singleton.1 hz];exact hbn))) (.inr ⟨hb2,hf,S2⟩))
  all_goals simp only[dI,seval]
end
open Go.Proofs
set_option maxRecDepth 100000
set_option maxHeartbeats 8000000
def iG (N:Nat) (s:St) (k:Nat) (v:Value) (n:Nat):Prop:=∃ a c,v=.slice a n c∧(0<n→∃ b off,a=some ⟨b,off,none⟩∧b<N∧∀ i,i<n*k→∃ m,m<256∧aI s.look ⟨b,off+i,none⟩=some (u8 m))
theorem iG.aD {N:Nat} {s s':St} {k:Nat} {v:Value} {n:Nat} (h:iG N s k v n) (hk:fD N s s'):iG N s' k v n:=by
 obtain⟨F,hk,hF⟩:=hk;obtain⟨a,c,rfl,h⟩:=h;refine⟨a,c,rfl,fun hn=>?_⟩;obtain⟨b,off,ha,hb,hl⟩:=h hn;refine⟨b,off,ha,hb,fun i hi=>?_⟩;obtain⟨m,hm,hl⟩:=hl i hi;exact⟨m,hm,tM hk (fun hm=>by have:=hF _ hm;simp only at this;omega) hl⟩
theorem iG.mono {N N':Nat} {s:St} {k:Nat} {v:Value} {n:Nat} (h:iG N s k v n) (hN:N≤N'):iG N' s k v n:=by
 obtain⟨a,c,e,h⟩:=h;exact⟨a,c,e,fun hn=>let ⟨b,off,h1,h2,h3⟩:=h hn;⟨b,off,h1,by omega,h3⟩⟩
theorem Mem.mono {N N':Nat} {s:St} {x h r g t:Nat} {P:PH} {R:PR} {G:dD} {Q:RQ} {R2:PR} (M:Mem N s x h r g t P R G Q R2) (hN:N'≤N):Mem N' s x h r g t P R G Q R2:=by
 obtain⟨c,H,A,K,T,m1,m2,m3,m4,m5,m6,m7,m8,m9,OO,Hd,km,ko,kq,kr⟩:=M;exact⟨c,H,A,K,T,m1,m2,m3,m4,m5,m6,m7,m8,m9,OO,by omega,fun y hy=>Nat.le_trans hN (km y hy),fun y hy=>Nat.le_trans hN (ko y hy),fun y hy=>Nat.le_trans hN (kq y hy),fun y hy=>Nat.le_trans hN (kr y hy)⟩
theorem yE {a b:List Nat} {M:Nat} (h1:∀ y∈a,y<M) (h2:∀ y∈b,M≤y):pM a b:=fun y hy hb=>by
 have:=h1 y hy;have:=h2 y hb;omega
theorem Obj.aB8 {N:Nat} {s s':St} {b:Nat} {L:List Value} (h:Obj s b L) (hk:fD N s s') (hb:b<N):Obj s' b L:=by
 obtain⟨F,hk,hF⟩:=hk;exact h.aD hk fun hm=>by have:=hF _ hm;omega
theorem PH.Empty.sim {P:PH} {n b:Nat} (E:P.Empty n):iM P ⟨b,none,0,n,fun _=>0,fun _=>0,[],0⟩:=by
 refine⟨E.N.symm,E.bs.symm,E.bp.symm,E.born.symm,?_,fun o ho=>(by cases ho)⟩;have:P.all=[]:=by
  rw[List.eq_nil_iff_forall_not_mem];intro a ha;have:=(PH.iN.1 (PH.qN.1 ha)).2.2.2;rw[E.S] at this;cases this
 rw[this];rfl
theorem iG.wF {N:Nat} {s:St} {k n c i j:Nat} {a:Option Addr} (h:iG N s k (.slice a n c) n) (hi:i<n) (hj:j<k):∃ b off m,a=some ⟨b,off,none⟩∧b<N∧m<256∧aI s.look ⟨b,off+i*k+j,none⟩=some (u8 m):=by
 obtain⟨a',c',e,h⟩:=h;cases e;obtain⟨b,off,rfl,hb,hl⟩:=h (by omega);obtain⟨m,hm,hl⟩:=hl (i*k+j) (by
  have:(i+1)*k≤n*k:=Nat.mul_le_mul_right _ hi;rw[Nat.succ_mul] at this;omega)
 rw[← Nat.add_assoc] at hl;exact⟨b,off,m,rfl,hb,hm,hl⟩
theorem iG.N4 {N:Nat} {s:St} {n c i:Nat} {a:Option Addr} (h:iG N s 4 (.slice a n c) n) (hi:i<n):∃ b off m0 m1 m2 m3,a=some ⟨b,off,none⟩∧b<N∧m0<256∧m1<256∧m2<256∧m3<256∧bD s.look ⟨b,off+i*4,none⟩ 4=some [u8 m0,u8 m1,u8 m2,u8 m3]∧aI s.look ⟨b,off+i*4+3,none⟩=some (u8 m3):=by
 obtain⟨b,off,m0,rfl,hb,h0,g0⟩:=h.wF hi (show 0<4 by omega);obtain⟨b1,aDi,m1,e1,_,h1,g1⟩:=h.wF hi (show 1<4 by omega);obtain⟨b2,aDj,m2,e2,_,h2,g2⟩:=h.wF hi (show 2<4 by omega);obtain⟨b3,aK3,m3,e3,_,h3,g3⟩:=h.wF hi (show 3<4 by omega);cases e1;cases e2;cases e3;refine⟨b,off,m0,m1,m2,m3,rfl,hb,h0,h1,h2,h3,jv (by omega) rfl fun j hj=>?_,g3⟩;rcases j with _ | _ | _ | _ | j
 ·exact g0
 ·exact g1
 ·exact g2
 ·exact g3
 ·omega
theorem iG.N0 {N:Nat} {s:St} {n c i:Nat} {a:Option Addr} (h:iG N s 3 (.slice a n c) n) (hi:i<n):∃ b off m0 m1 m2,a=some ⟨b,off,none⟩∧b<N∧m0<256∧m1<256∧m2<256∧bD s.look ⟨b,off+i*3,none⟩ 3=some [u8 m0,u8 m1,u8 m2]:=by
 obtain⟨b,off,m0,rfl,hb,h0,g0⟩:=h.wF hi (show 0<3 by omega);obtain⟨b1,aDi,m1,e1,_,h1,g1⟩:=h.wF hi (show 1<3 by omega);obtain⟨b2,aDj,m2,e2,_,h2,g2⟩:=h.wF hi (show 2<3 by omega);cases e1;cases e2;refine⟨b,off,m0,m1,m2,rfl,hb,h0,h1,h2,jv (by omega) rfl fun j hj=>?_⟩;rcases j with _ | _ | _ | j
 ·exact g0
 ·exact g1
 ·exact g2
 ·omega
section
variable {kc:Kc} {q:Bool} {s:St} {Φ:Value→St→Prop}
theorem bT:type_of% (An @RX<|An @Am<|An @VT<|An @CJ<|An @Ao<|An @zh<|An @zc<|An @zi<|An @zd<|An @ur<|An @CT<|An @Om<|An @JC<|An @On<|An @Ap<|An @Ga<|An @Gm<|An @Fj<|An @Fx<|An @VF<|An @Aq<|An @Gb<|An @Gn<|An @Fk<|An @DJ<|An @yS<|An @kW<|An @Ar<|An @Gc<|An @Gq<|An @Fm<|An @Fy<|An @sv<|An @Oc<|An @Fh<|An @nD<|An @mI<|An @lZ<|An @aW<|An @As<|An @Gd<|An @Gr<|An @Fo<|An @Fi<|@At):=An @RX<|An @Am<|An @VT<|An @CJ<|An @Ao<|An @zh<|An @zc<|An @zi<|An @zd<|An @ur<|An @CT<|An @Om<|An @JC<|An @On<|An @Ap<|An @Ga<|An @Gm<|An @Fj<|An @Fx<|An @VF<|An @Aq<|An @Gb<|An @Gn<|An @Fk<|An @DJ<|An @yS<|An @kW<|An @Ar<|An @Gc<|An @Gq<|An @Fm<|An @Fy<|An @sv<|An @Oc<|An @Fh<|An @nD<|An @mI<|An @lZ<|An @aW<|An @As<|An @Gd<|An @Gr<|An @Fo<|An @Fi<|@At
theorem aBi (hs:Ok s) {x0 x1:Nat} (hx0:x0<256) (hx1:x1<256) {v2 v3 v4 v5 v6:Value} {l2 l3 l4 l5 l6:Nat} (U2:iG s.next s 4 v2 l2) (U3:iG s.next s 1 v3 l3) (U4:iG s.next s 3 v4 l4) (U5:iG s.next s 2 v5 l5) (U6:iG s.next s 1 v6 l6)
  (hΦ:∀ x h r g t P R G Q s',Mem s.next s' x h r g t P R G Q R→iM P G→P.Inv→P.Sound→PR.nN P R→P.N≤24→P.born≤40→aC [] s s'→Φ (ptr x) s'):okF q X (KO kc) 8 [.agg #[u8 x0,u8 x1,v2,v3,v4,v5,v6]] s Φ:=by
 obtain⟨a2,rA,rfl,W2⟩:=U2;obtain⟨a3,qG,rfl,W3⟩:=U3;obtain⟨a4,yH,rfl,W4⟩:=U4;obtain⟨a5,uO,rfl,W5⟩:=U5;obtain⟨a6,yI,rfl,W6⟩:=U6;have U2:iG s.next s 4 (.slice a2 l2 rA) l2:=⟨a2,rA,rfl,W2⟩;have U3:iG s.next s 1 (.slice a3 l3 qG) l3:=⟨a3,qG,rfl,W3⟩;have U4:iG s.next s 3 (.slice a4 l4 yH) l4:=⟨a4,yH,rfl,W4⟩;have U5:iG s.next s 2 (.slice a5 l5 uO) l5:=⟨a5,uO,rfl,W5⟩;have U6:iG s.next s 1 (.slice a6 l6 yI) l6:=⟨a6,yI,rfl,W6⟩;clear W2 W3 W4 W5 W6;refine aV rfl K8 rfl (rs:=[.tmp 2]) rfl (N:=257) rfl rfl ?_;refine aA fun bB aF aZ=>?_;simp only[bT,seval];obtain⟨s1,e1,k1,c1,n1⟩:=cA hs (L:=[u8 x0,u8 x1,.slice a2 l2 rA,.slice a3 l3 qG,.slice a4 l4 yH,.slice a5 l5 uO,.slice a6 l6 yI]) (n:=7) (e:=27) rfl;rw[e1];refine aF _ _ ?_;have w:∀ n:Nat,n<256→IntKind.wrap .i64 (n:Int)=(n:Int):=fun n h=>aU (by omega) (by omega);have aI4:(x0:Int).tmod 23=((x0%23:Nat):Int):=rfl;have tm4:(x1:Int).tmod 4=((x1%4:Nat):Int):=rfl;have wb:IntKind.wrap .i64 (2+((x0%23:Nat):Int))=((2+x0%23:Nat):Int):=by rw[aU (by omega) (by omega)];rfl
 have wm:IntKind.wrap .i64 (1+((x1%4:Nat):Int))=((1+x1%4:Nat):Int):=by rw[aU (by omega) (by omega)];rfl
 have f0:aI s1.look ⟨s.next,0,none⟩=some (u8 x0):=c1.load rfl;have f1:aI s1.look ⟨s.next,1,none⟩=some (u8 x1):=c1.load rfl;refine aA fun Ψ1 aE aK=>?_;refine dH [] [] [] (by kernel_rfl) (by kernel_rfl) (by rfl) fun O hO bK hR=>?_;simp only[bT,seval,f0,f1,w x0 hx0,w x1 hx1,aI4,tm4,wb,wm];refine hR _ _ (aE _ _ ?_);have VK:aC [] s1 (s1.skip 24):=aC.skip k1.ok _;refine aA fun Ψ2 aH bM=>?_;simp only[bT,seval];refine aJ ?_ (W7 VK.ok (n':=2+x0%23) rfl (by omega) (by omega) ?_)
 ·simp only[bT,seval]
 intro s2 h P0 H0 E0 fP k2
 try simp only[bT,seval]
 refine aH _ _ ?_;refine aA fun Ψ3 aM bN=>?_;simp only[bT,seval];refine aJ ?_ (aG3 k2.ok (m':=1+x1%4) rfl (by omega) (by omega) ?_)
 ·simp only[bT,seval]
 intro r R0 s3 A0 Cg ey eu UD aJ7 fR k3
 try simp only[bT,seval]
 refine aM _ _ ?_;refine aA fun Ψ4 aQ bZ=>?_;refine aA fun cP bI cF=>?_;refine cK [(2,43),(6,47),(10,51)] (by kernel_rfl) fun O hO bK hR=>?_;have y2:∀ a,aN O a 2=bC (a.aB 43):=hO (2,43) (by simp);have y6:∀ a,aN O a 6=bC (a.aB 47):=hO (6,47) (by simp);have re:∀ a,aN O a 10=bC (a.aB 51):=hO (10,51) (by simp);simp only[bT,seval,y2,y6,re];refine hR _ _ (bI _ _ ?_);simp only[bT,seval];refine aQ _ _ ?_;have fF:aC [] s1 s3:=(VK.trans k2).trans k3;obtain⟨s4,e4,k4,c4,n4⟩:=cA k3.ok (L:=[ptr h,ptr r,.pointer none,.pointer none]) (n:=4) (e:=39) rfl;refine aA fun dK bO cV=>?_;simp only[bT,seval];rw[e4];refine bO _ _ ?_;obtain⟨x,hx⟩:∃ x,x=s3.next:=⟨_,rfl⟩;rw[← hx] at c4;refine aA fun fJ cC eF=>?_;simp only[bT,seval];refine aJ ?_ (aFg k4.ok (n:=2+x0%23) (by omega) (by omega) fun g gb s5 G5 fG k5=>?_)
 ·simp only[bT,seval]
 obtain⟨s6,e6,c6,k6⟩:=(c4.aD k5 (by simp)).gJ k5.ok (i:=2) (v:=ptr g) (by simp) rfl;have e6:dB s5 ⟨s3.next,2,none⟩ [ptr g]=some s6:=by rw[← hx];exact e6
 simp only[bT,seval,e6];refine cC _ _ ?_;refine aA fun jC dA iI=>?_;simp only[bT,seval];refine aJ ?_ (Lu k6.ok (m:=1+x1%4) (by omega) (by omega) fun t Q0 RR s7 Ch Q7 Q6 Ci T7 fT k7=>?_)
 ·simp only[bT,seval]
 obtain⟨s8,e8,c8,k8⟩:=(c6.aD k7 (by simp)).gJ k7.ok (i:=3) (v:=ptr t) (by simp) rfl;have e8:dB s7 ⟨s3.next,3,none⟩ [ptr t]=some s8:=by rw[← hx];exact e8
 simp only[bT,seval,e8];refine dA _ _ ?_;have nP:∀ y∈P0.bF h,s1.next≤y∧y<s2.next:=fun y hy=>⟨by have:=fP y hy;have:=VK.next;omega,H0.gO k2.ok y hy⟩;have nR:∀ y∈R0.bF r,s2.next≤y∧y<s3.next:=fun y hy=>⟨fR y hy,A0.gO k3.ok y hy⟩;have nG:∀ y∈dD.bF g ⟨gb,none,0,2+x0%23,fun _=>0,fun _=>0,[],0⟩,s4.next≤y∧y<s5.next:=fun y hy=>⟨fG y hy,G5.gO k5.ok y hy⟩;have nT:∀ y∈Q0.bF t RR,s6.next≤y∧y<s7.next:=fun y hy=>⟨fT y hy,T7.gO k7.ok y hy⟩;have q12:=VK.next;have q23:=k2.next;have q34:=k3.next;have q45:=k4.next;have q56:=k5.next;have q67:=k6.next;have q78:=k7.next;have q89:=k8.next;have xF:∀ y,y≠x→y∉[x]:=fun y hy hm=>hy (List.mem_singleton.1 hm);have sn:gG s7 t Q0 R0:=T7.congr (Cg.trans Ch.symm) (by funext i;rw[ey,Q7]) (by funext i;rw[eu,Q6]) (UD.trans Ci.symm);have fQ:Q0.bF t R0=Q0.bF t RR:=by unfold RQ.bF;rw[Cg,← Ch,UD,Ci]
 have iz:aC [x] s4 s8:=((k5.any.trans k6).trans k7.any).trans k8;have k18:aC [] s1 s8:=(fF.trans k4).step iz fun y hy=>.inr (by rw[List.mem_singleton.1 hy];exact k1.ok.fresh _ (by omega));have M8:Mem s1.next s8 x h r g t P0 R0 ⟨gb,none,0,2+x0%23,fun _=>0,fun _=>0,[],0⟩ Q0 R0:=by
  refine⟨c8,(((H0.aL k3).aL k4).aD iz fun y hy=>xF y (by have:=nP y hy;omega)),((A0.aL k4).aD iz fun y hy=>xF y (by have:=nR y hy;omega)),((G5.aD k6 fun y hy=>xF y (by have:=nG y hy;omega)).aL k7).aD k8 (fun y hy=>xF y (by have:=nG y hy;omega)),
   sn.aD k8 (fun y hy=>xF y (by rw[fQ] at hy;have:=nT y hy;omega)),?_,?_,?_,?_,?_,?_,?_,?_,?_,?_,by omega,fun y hy=>(nP y hy).1,fun y hy=>by have:=nR y hy;omega,fun y hy=>by have:=nG y hy;omega,fun y hy=>by rw[fQ] at hy;have:=nT y hy;omega⟩
  ·exact(yE (M:=s2.next) (fun y hy=>(nP y hy).2) (fun y hy=>by rw[List.mem_singleton.1 hy];omega)).symm
  ·exact(yE (M:=s3.next) (fun y hy=>(nR y hy).2) (fun y hy=>by rw[List.mem_singleton.1 hy];omega)).symm
  ·exact yE (M:=s4.next) (fun y hy=>by rw[List.mem_singleton.1 hy];omega) (fun y hy=>(nG y hy).1)
  ·rw[fQ];exact yE (M:=s4.next) (fun y hy=>by rw[List.mem_singleton.1 hy];omega) (fun y hy=>by have:=nT y hy;omega)
  ·exact yE (M:=s2.next) (fun y hy=>(nP y hy).2) (fun y hy=>(nR y hy).1)
  ·exact yE (M:=s2.next) (fun y hy=>(nP y hy).2) (fun y hy=>by have:=nG y hy;omega)
  ·rw[fQ];exact yE (M:=s2.next) (fun y hy=>(nP y hy).2) (fun y hy=>by have:=nT y hy;omega)
  ·exact yE (M:=s3.next) (fun y hy=>(nR y hy).2) (fun y hy=>by have:=nG y hy;omega)
  ·rw[fQ];exact yE (M:=s3.next) (fun y hy=>(nR y hy).2) (fun y hy=>by have:=nT y hy;omega)
  ·rw[fQ];exact yE (M:=s5.next) (fun y hy=>(nG y hy).2) (fun y hy=>by have:=nT y hy;omega)
 have S8:=E0.sim (b:=gb);have I8:=E0.inv (by omega);have Z8:=E0.Z;have fc:=E0.born;have Q5:=E0.N;have L8:PR.nN P0 R0:=⟨fun i=>.inl (ey i),fun i=>.inl (eu i),fun y hy=>by rw[UD] at hy;cases hy⟩;clear nT nG nR nP T7 sn fQ fT fG fR fP E0 H0 A0 G5;have Si:fD s1.next s1 s8:=.iA k18;have tG:s.next≤s1.next:=k1.next;have V2:=(U2.aD (.iA k1)).mono tG;have V3:=(U3.aD (.iA k1)).mono tG;have V4:=(U4.aD (.iA k1)).mono tG;have V5:=(U5.aD (.iA k1)).mono tG;have V6:=(U6.aD (.iA k1)).mono tG;clear U2 U3 U4 U5 U6;refine aA fun lJ dW jP=>?_;refine aA fun mZ eB nH=>?_;simp only[bT,seval];refine eB _ _ ?_;refine cB fun rS kL GN qK=>?_;have box:∀ s',fD s1.next s1 s'→Obj s' s.next [u8 x0,u8 x1,.slice a2 l2 rA,.slice a3 l3 qG,.slice a4 l4 yH,.slice a5 l5 uO,.slice a6 l6 yI]:=fun s' k=>c1.aB8 k (by omega);refine gD (n:=min l2 40) (fun j a' s'=>a'.aB 1=ptr s.next∧a'.aB 9=ptr x∧a'.aB 10=int j∧∃ P G,Mem s1.next s' x h r g t P R0 G Q0 R0∧iM P G∧P.Inv∧P.Z∧P.N=2+x0%23∧P.born≤j∧G.L.length≤j∧fD s1.next s1 s')
  (fun j a' s'=>a'.aB 1=ptr s.next∧a'.aB 9=ptr x∧a'.aB 10=int j∧∃ P G,Mem s1.next s' x h r g t P R0 G Q0 R0∧iM P G∧P.Inv∧P.Z∧P.N=2+x0%23∧P.born≤j+1∧G.L.length≤j+1∧fD s1.next s1 s') ?_ ?_ ?_ ?_ (Nat.zero_le _) ?_
 ·rintro j a' s' hj ⟨r1,r9,cL,hW⟩ aR bH;obtain⟨P,G,M,S,I,Z,hN,hb,hl,K⟩:=hW;have lf:aI s'.look ⟨s.next,2,none⟩=some (.slice a2 l2 rA):=(box s' K).load rfl;refine cK [(5,80)] (by kernel_rfl) fun O hO bK hR=>?_;have y5:∀ a,aN O a 5=bC (a.aB 80):=hO (5,80) (by simp);by_cases hc:(j:Int)<(l2:Int)
  ·simp only[bT,seval,y5,r1,cL,lf,hc,decide_true];refine hR _ _ (bH _ _ (decide ((j:Int)<40)) ?_ (by rw[decide_eq_true_eq];omega) ⟨?_,?_,?_,P,G,M,S,I,Z,hN,hb,hl,K⟩)
   all_goals simp only[bT,seval,r1,r9,cL]
  ·simp only[bT,seval,y5,r1,cL,lf,hc,decide_false];refine hR _ _ (bH _ _ false ?_ (by simp;omega) ⟨?_,?_,?_,P,G,M,S,I,Z,hN,hb,hl,K⟩)
   all_goals simp only[bT,seval,r1,r9,cL]
 ·rintro j a' s' hj ⟨r1,r9,cL,hW⟩ aR w1 w2 w3;obtain⟨P,G,M,S,I,Z,hN,hb,hl,K⟩:=hW;have jO:j<l2:=by omega
  have lf:aI s'.look ⟨s.next,2,none⟩=some (.slice a2 l2 rA):=(box s' K).load rfl;obtain⟨b,off,m0,m1,m2,m3,rfl,FU,g0,g1,g2,g3,ln,l3⟩:=(V2.aD K).N4 jO;have p1:(0:Int)≤(j:Int):=Int.natCast_nonneg _;have p2:(j:Int)<((l2:Nat):Int):=by omega
  have tm3:(m3:Int).tmod 3=((m3%3:Nat):Int):=rfl;have ks:aC [] s' (s'.skip 34):=aC.skip K.ok _;refine aA fun uH kV tJ=>?_;refine dH [(8,6),(12,6)] [s.next,b] [] (by kernel_rfl) (by kernel_rfl) (by rfl) fun O hO bK hR=>?_;simp only[bT,seval,r1,r9,cL,lf,p1,p2,and_self,bJ,Int.toNat_natCast,ln];refine eQ ?_ (aBn ks.ok (x3:=m3) g0 g1 g2 fun y s9 hy k9=>?_)
  ·simp only[bT,seval]
  have jf:=ks.trans k9;have K9:=K.trans (.iA jf);have lf9:aI s9.look ⟨s.next,2,none⟩=some (.slice (some ⟨b,off,none⟩) l2 rA):=(box s9 K9).load rfl;have l39:aI s9.look ⟨b,off+j*4+3,none⟩=some (u8 m3):=tM jf (by simp) l3;have bk:Obj (s'.skip 34) s.next _:=box _ (K.trans (.iA ks));have h1:eT (s'.skip 34) s9 s.next=true:=bk.same ks.ok k9 (by simp);have h2:eT (s'.skip 34) s9 b=true:=PW (tM ks (by simp) l3) ks.ok k9 (by simp);have z1:(0:Int)≤3:=by omega
  have z2:(3:Int)<((4:Nat):Int):=by omega
  simp only[bT,seval,r1,r9,cL,lf9,p1,p2,z1,z2,and_self,bJ,Int.toNat_natCast,show Int.toNat 3=3 from rfl,Nat.mul_one,l39,w m3 g3,tm3];refine⟨gQ h1 (gQ h2 jR),?_⟩;refine eQ ?_ (aBj k9.ok (M.aL jf) S I hy (sp:=((m3%3:Nat):Int)) ⟨by omega,by omega⟩ (by omega) (by omega) fun P' G' rN M' S' I' Z' Q3 hb' hl' ZJ=>?_)
  ·simp only[bT,seval]
  simp only[bT,seval];refine hR _ _ (kV _ _ ?_);simp only[bT,seval];refine w1 _ _ ⟨?_,?_,?_,P',G',M',S',I',Z' Z,Q3.trans hN,by omega,by omega,K9.trans ZJ⟩
  all_goals simp only[bT,seval,r1,r9,cL]
 ·rintro j a' s' hj ⟨r1,r9,cL,hW⟩ aR w1;have ww:IntKind.i64.wrap ((j:Int)+1)=((j+1:Nat):Int):=by rw[aU (by omega) (by omega)];rfl
  simp only[bT,seval,cL,ww];refine w1 _ _ ⟨?_,?_,?_,hW⟩
  all_goals try simp only[bT,seval,r1,r9]
 ·rintro a' s' ⟨r1,r9,cL,hW⟩;refine GN _ _ (dW _ _ ?_);refine aA fun AA oF yX=>?_;refine aA fun ME wP GO=>?_;simp only[bT,seval];refine wP _ _ ?_;refine cB fun ZD AQ aAk VE=>?_;refine gD (n:=min l3 20) (fun j a' s'=>a'.aB 1=ptr s.next∧a'.aB 9=ptr x∧a'.aB 11=int j∧∃ P G,Mem s1.next s' x h r g t P R0 G Q0 R0∧iM P G∧P.Inv∧P.Z∧P.N=2+x0%23∧P.born≤40∧fD s1.next s1 s')
   (fun j a' s'=>a'.aB 1=ptr s.next∧a'.aB 9=ptr x∧a'.aB 11=int j∧∃ P G,Mem s1.next s' x h r g t P R0 G Q0 R0∧iM P G∧P.Inv∧P.Z∧P.N=2+x0%23∧P.born≤40∧fD s1.next s1 s') ?_ ?_ ?_ ?_ (Nat.zero_le _) ?_
  ·rintro j a' s' hj ⟨r1,r9,dZ,hW⟩ aR bH;have K:fD s1.next s1 s':=by obtain⟨P,G,M,S,I,Z,hN,hb,K⟩:=hW;exact K
   have lf:aI s'.look ⟨s.next,3,none⟩=some (.slice a3 l3 qG):=(box s' K).load rfl;refine cK [(5,108)] (by kernel_rfl) fun O hO bK hR=>?_;have y5:∀ a,aN O a 5=bC (a.aB 108):=hO (5,108) (by simp);by_cases hc:(j:Int)<(l3:Int)
   ·simp only[bT,seval,y5,r1,dZ,lf,hc,decide_true];refine hR _ _ (bH _ _ (decide ((j:Int)<20)) ?_ (by rw[decide_eq_true_eq];omega) ⟨?_,?_,?_,hW⟩)
    all_goals simp only[bT,seval,r1,r9,dZ]
   ·simp only[bT,seval,y5,r1,dZ,lf,hc,decide_false];refine hR _ _ (bH _ _ false ?_ (by simp;omega) ⟨?_,?_,?_,hW⟩)
    all_goals simp only[bT,seval,r1,r9,dZ]
  ·rintro j a' s' hj ⟨r1,r9,dZ,hW⟩ aR w1 w2 w3;obtain⟨P,G,M,S,I,Z,hN,hb,K⟩:=hW;have jO:j<l3:=by omega
   have lf:aI s'.look ⟨s.next,3,none⟩=some (.slice a3 l3 qG):=(box s' K).load rfl;obtain⟨b,off,m,rfl,FU,g0,lm⟩:=(V3.aD K).wF jO (show 0<1 by omega);have lm:aI s'.look ⟨b,off+j,none⟩=some (u8 m):=by rw[Nat.mul_one] at lm;exact lm
   have p1:(0:Int)≤(j:Int):=Int.natCast_nonneg _;have p2:(j:Int)<((l3:Nat):Int):=by omega
   have qt:(m:Int).tmod 100=((m%100:Nat):Int):=rfl;refine aA fun ri JV ij=>?_;simp only[bT,seval,r1,r9,dZ,lf,p1,p2,and_self,bJ,Int.toNat_natCast,Nat.mul_one,lm,w m g0,qt];refine aJ ?_ (OG K.ok M S I (n:=m%100) (by omega) fun a s9 ha vA k9=>?_)
   ·simp only[bT,seval]
   simp only[bT,seval];refine JV _ _ ?_;have M9:=M.aL k9;have ks:aC [] s9 (s9.skip 26):=aC.skip k9.ok _;have Mk:=M9.aL ks;refine aA fun Rx OB Eo=>?_;refine dH [(9,5)] [x] [] (by kernel_rfl) (by kernel_rfl) (by rfl) fun O hO bK hR=>?_;simp only[bT,seval,r9,M9.l2];refine eQ ?_ (aFd ks.ok Mk.K S I a fun G1 F rN H1 S1 hF hf k10=>?_)
   ·simp only[bT,seval]
   have EZ:=Mk.PX ks.ok k10 hF H1 hf;have iH:eT (s9.skip 26) rN x=true:=Mk.c.same ks.ok k10 (fun hm=>M.xG x (List.mem_singleton.2 rfl) (hF x hm));simp only[bT,seval,r9,EZ.l0];refine⟨gQ iH jR,?_⟩;refine eQ ?_ (W0 k10.ok EZ.H I.cM a vA fun YB ZI k11=>?_)
   ·simp only[bT,seval]
   simp only[bT,seval,beq_self_eq_true];refine hR _ _ (OB _ _ ?_);simp only[bT,seval];have FQ:∀ z∈[P.nw,P.su,P.pu,P.mp],z∈P.bF h:=fun z hz=>by
    simp only[List.mem_cons,List.not_mem_nil,or_false] at hz;unfold PH.bF;rcases hz with rfl | rfl | rfl | rfl <;> simp
   have hfo:(if P.has a=true then P.kill a else P).bF h=P.bF h:=by split <;> rfl
   have IG:=EZ.BN k10.ok k11 FQ ZI hfo;have hp:(if P.has a=true then P.kill a else P).Inv∧(if P.has a=true then P.kill a else P).Z∧(if P.has a=true then P.kill a else P).N=P.N∧(if P.has a=true then P.kill a else P).born=P.born:=by
    split
    ·rename_i hh;exact⟨I.kill hh,Z.kill I hh,rfl,rfl⟩
    ·exact⟨I,Z,rfl,rfl⟩
   refine w1 _ _ ⟨?_,?_,?_,_,G1,IG,S1,hp.1,hp.2.1,hp.2.2.1.trans hN,by omega,((K.trans (.iA (k9.trans ks))).trans (.of k10 fun z hz=>M.lG z (hF z hz))).trans (.of k11 fun z hz=>M.lP z (FQ z hz))⟩
   all_goals simp only[bT,seval,r1,r9,dZ]
  ·rintro j a' s' hj ⟨r1,r9,dZ,hW⟩ aR w1;have ww:IntKind.i64.wrap ((j:Int)+1)=((j+1:Nat):Int):=by rw[aU (by omega) (by omega)];rfl
   simp only[bT,seval,dZ,ww];refine w1 _ _ ⟨?_,?_,?_,hW⟩
   all_goals try simp only[bT,seval,r1,r9]
  ·rintro a' s' ⟨r1,r9,dZ,hW⟩;refine aAk _ _ (oF _ _ ?_);refine aA fun aJ1 Ep aAm=>?_;refine aA fun Ry GP Er=>?_;simp only[bT,seval];refine GP _ _ ?_;refine cB fun RI rH aAo GQ=>?_;refine gD (n:=min l4 120) (fun j a' s'=>a'.aB 1=ptr s.next∧a'.aB 9=ptr x∧a'.aB 13=int j∧∃ P G,Mem s1.next s' x h r g t P R0 G Q0 R0∧iM P G∧P.Inv∧P.Sound∧P.N=2+x0%23∧P.born≤40∧fD s1.next s1 s')
    (fun j a' s'=>a'.aB 1=ptr s.next∧a'.aB 9=ptr x∧a'.aB 13=int j∧∃ P G,Mem s1.next s' x h r g t P R0 G Q0 R0∧iM P G∧P.Inv∧P.Sound∧P.N=2+x0%23∧P.born≤40∧fD s1.next s1 s') ?_ ?_ ?_ ?_ (Nat.zero_le _) ?_
   ·rintro j a' s' hj ⟨r1,r9,iP,hW⟩ aR bH;have K:fD s1.next s1 s':=by obtain⟨P,G,M,S,I,Z,hN,hb,K⟩:=hW;exact K
    have lf:aI s'.look ⟨s.next,4,none⟩=some (.slice a4 l4 yH):=(box s' K).load rfl;refine cK [(5,141)] (by kernel_rfl) fun O hO bK hR=>?_;have y5:∀ a,aN O a 5=bC (a.aB 141):=hO (5,141) (by simp);by_cases hc:(j:Int)<(l4:Int)
    ·simp only[bT,seval,y5,r1,iP,lf,hc,decide_true];refine hR _ _ (bH _ _ (decide ((j:Int)<120)) ?_ (by rw[decide_eq_true_eq];omega) ⟨?_,?_,?_,hW⟩)
     all_goals simp only[bT,seval,r1,r9,iP]
    ·simp only[bT,seval,y5,r1,iP,lf,hc,decide_false];refine hR _ _ (bH _ _ false ?_ (by simp;omega) ⟨?_,?_,?_,hW⟩)
     all_goals simp only[bT,seval,r1,r9,iP]
   ·rintro j a' s' hj ⟨r1,r9,iP,hW⟩ aR w1 w2 w3;obtain⟨P,G,M,S,I,Z,hN,hb,K⟩:=hW;have jO:j<l4:=by omega
    have lf:aI s'.look ⟨s.next,4,none⟩=some (.slice a4 l4 yH):=(box s' K).load rfl;obtain⟨b,off,m0,m1,m2,rfl,FU,g0,g1,g2,ln⟩:=(V4.aD K).N0 jO;have p1:(0:Int)≤(j:Int):=Int.natCast_nonneg _;have p2:(j:Int)<((l4:Nat):Int):=by omega
    obtain⟨t1,f1,k9,d1,v1⟩:=cA K.ok (L:=[.int .u8 0,.int .u8 0,.int .u8 0]) (n:=3) (e:=106) rfl;obtain⟨t2,f2,d2,k10⟩:=d1.storeAll k9.ok (vs:=[u8 m0,u8 m1,u8 m2]) rfl rfl;have k11:aC [] s' t2:=k9.step k10 fun y hy=>.inr (by rw[List.mem_singleton.1 hy];exact K.ok.fresh _ (Nat.le_refl _));refine aA fun Sa GR Es=>?_;simp only[bT,seval,r1,r9,iP,lf,p1,p2,and_self,bJ,Int.toNat_natCast,ln];rw[f1];simp only[bT,seval,f2];refine GR _ _ ?_;have z0:(0:Int)≤0:=by omega
    have z1:(0:Int)≤1:=by omega
    have z2:(0:Int)≤2:=by omega
    have z03:(0:Int)<((3:Nat):Int):=by omega
    have z13:(1:Int)<((3:Nat):Int):=by omega
    have z23:(2:Int)<((3:Nat):Int):=by omega
    have e0:aI t2.look ⟨s'.next,0,none⟩=some (u8 m0):=d2.load rfl;have tm0:(m0:Int).tmod 100=((m0%100:Nat):Int):=rfl;have qq:(m2:Int).tmod 100=((m2%100:Nat):Int):=rfl;refine aA fun Sb OC Et=>?_;simp only[bT,seval,r9,z0,z03,and_self,bJ,show Int.toNat 0=0 from rfl,Nat.zero_mul,Nat.zero_add,e0,w m0 g0,tm0];have IG:=M.aL k11;refine aJ ?_ (OG k11.ok IG S I (n:=m0%100) (by omega) fun a s9 ha vA k12=>?_)
    ·simp only[bT,seval]
    simp only[bT,seval];refine OC _ _ ?_;have ZL:=IG.aL k12;refine aA fun Sc JW Eu=>?_;simp only[bT,seval,r9,ZL.l2];refine aJ ?_ (aFp k12.ok ZL.K S.L a fun rN mB=>?_)
    ·simp only[bT,seval]
    obtain⟨t3,f3,KC,d3,v3⟩:=cA mB.ok (L:=[int 0,int 0,int 0]) (n:=3) (e:=44) rfl;obtain⟨t4,f4,d4,k15⟩:=d3.storeAll KC.ok (vs:=[int (P.aY a).r,int (P.aY a).d,int (P.aY a).k]) rfl rfl;have VI:aC [] rN t4:=KC.step k15 fun y hy=>.inr (by rw[List.mem_singleton.1 hy];exact mB.ok.fresh _ (Nat.le_refl _));simp only[bT,seval];rw[f3];simp only[bT,seval,f4];refine JW _ _ ?_;have ZM:=(ZL.aL mB).aL VI;have d16:=((d2.aD k12 (by simp)).aD mB (by simp)).aD VI (by simp);have lr:aI t4.look ⟨rN.next,0,none⟩=some (int (P.aY a).r):=d4.load rfl;have ZK:=K.trans (.iA (((k11.trans k12).trans mB).trans VI));have ks:aC [] t4 (t4.skip 50):=aC.skip VI.ok _;refine aA fun Sd JX Ev=>?_;refine dH [(11,21),(14,21)] [s'.next,rN.next] [(2,169),(7,174)] (by kernel_rfl) (by kernel_rfl) (by rfl) fun O hO bK hR=>?_;have y2:∀ a,aN O a 2=bC (a.aB 169):=hO (2,169) (by simp);have y7:∀ a,aN O a 7=bC (a.aB 174):=hO (7,174) (by simp);cases hh:P.has a with
    | false =>
     simp only[bT,seval,y2,y7];refine hR _ _ (JX _ _ ?_);simp only[bT,seval];refine w1 _ _ ⟨?_,?_,?_,P,G,ZM.aL ks,S,I,Z,hN,hb,ZK.trans (.iA ks)⟩
     all_goals simp only[bT,seval,r1,r9,iP]
    | true =>
     by_cases Dx:(P.aY a).r>0
     ·have hz:¬ ((P.aY a).r=0):=by omega
      have e1:aI t4.look ⟨s'.next,1,none⟩=some (u8 m1):=d16.load rfl;have e2:aI t4.look ⟨s'.next,2,none⟩=some (u8 m2):=d16.load rfl;simp only[bT,seval,y2,y7,lr,Dx,decide_true,r9,z1,z13,z2,z23,and_self,bJ,show Int.toNat 1=1 from rfl,show Int.toNat 2=2 from rfl,Nat.mul_one,Nat.zero_add,e1,e2,w m1 g1,w m2 g2,hz,qq];have Mk:=ZM.aL ks;refine eQ ?_ (OG ks.ok Mk S I (n:=m2%100) (by omega) fun to YB gp gq OE=>?_)
      ·simp only[bT,seval]
      have h1:eT (t4.skip 50) YB s'.next=true:=(d16.aD ks (by simp)).same ks.ok OE (by simp);have h2:eT (t4.skip 50) YB rN.next=true:=(d4.aD ks (by simp)).same ks.ok OE (by simp);simp only[bT,seval,y2,y7];refine⟨gQ h1 (gQ h2 jR),?_⟩;refine eQ ?_ (aBh OE.ok (Mk.aL OE) S I vA gq (i:=(m1:Int).tmod (P.aY a).r) fun G' s12 M' S' Sh=>?_)
      ·simp only[bT,seval]
      simp only[bT,seval,y2,y7];refine hR _ _ (JX _ _ ?_);simp only[bT,seval];have hsr:=P.pk a ((m1:Int).tmod (P.aY a).r) to;have hbn:(P.setRef a ((m1:Int).tmod (P.aY a).r) to).born=P.born:=by unfold PH.setRef;split <;> rfl
      refine w1 _ _ ⟨?_,?_,?_,_,G',M',S',I.setRef _ _ _,Z.setRef I _ _ _ gp,hsr.1.trans hN,by omega,(ZK.trans (.iA (ks.trans OE))).trans Sh⟩
      all_goals simp only[bT,seval,r1,r9,iP]
     ·simp only[bT,seval,y2,y7,lr,Dx,decide_false];refine hR _ _ (JX _ _ ?_);simp only[bT,seval];refine w1 _ _ ⟨?_,?_,?_,P,G,ZM.aL ks,S,I,Z,hN,hb,ZK.trans (.iA ks)⟩
      all_goals simp only[bT,seval,r1,r9,iP]
   ·rintro j a' s' hj ⟨r1,r9,iP,hW⟩ aR w1;have ww:IntKind.i64.wrap ((j:Int)+1)=((j+1:Nat):Int):=by rw[aU (by omega) (by omega)];rfl
    simp only[bT,seval,iP,ww];refine w1 _ _ ⟨?_,?_,?_,hW⟩
    all_goals try simp only[bT,seval,r1,r9]
   ·rintro a' s' ⟨r1,r9,iP,hW⟩;refine aAo _ _ (Ep _ _ ?_);refine aA fun aJ2 iq aAq=>?_;refine aA fun aJ3 iu aAr=>?_;simp only[bT,seval];refine iu _ _ ?_;refine cB fun aK8 aJs aAs aJt=>?_;refine gD (n:=min l5 20) (fun j a' s'=>a'.aB 1=ptr s.next∧a'.aB 9=ptr x∧a'.aB 18=int j∧∃ P G R Q,Mem s1.next s' x h r g t P R G Q R∧iM P G∧P.Inv∧P.Sound∧P.N=2+x0%23∧P.born≤40∧fD s1.next s1 s'∧PR.nN P R)
     (fun j a' s'=>a'.aB 1=ptr s.next∧a'.aB 9=ptr x∧a'.aB 18=int j∧∃ P G R Q,Mem s1.next s' x h r g t P R G Q R∧iM P G∧P.Inv∧P.Sound∧P.N=2+x0%23∧P.born≤40∧fD s1.next s1 s'∧PR.nN P R) ?_ ?_ ?_ ?_ (Nat.zero_le _) ?_
    ·rintro j a' s' hj ⟨r1,r9,iY,hW⟩ aR bH;have K:fD s1.next s1 s':=by obtain⟨P,G,R,Q,M,S,I,Z,hN,hb,K,hL⟩:=hW;exact K
     have lf:aI s'.look ⟨s.next,5,none⟩=some (.slice a5 l5 uO):=(box s' K).load rfl;refine cK [(5,197)] (by kernel_rfl) fun O hO bK hR=>?_;have y5:∀ a,aN O a 5=bC (a.aB 197):=hO (5,197) (by simp);by_cases hc:(j:Int)<(l5:Int)
     ·simp only[bT,seval,y5,r1,iY,lf,hc,decide_true];refine hR _ _ (bH _ _ (decide ((j:Int)<20)) ?_ (by rw[decide_eq_true_eq];omega) ⟨?_,?_,?_,hW⟩)
      all_goals simp only[bT,seval,r1,r9,iY]
     ·simp only[bT,seval,y5,r1,iY,lf,hc,decide_false];refine hR _ _ (bH _ _ false ?_ (by simp;omega) ⟨?_,?_,?_,hW⟩)
      all_goals simp only[bT,seval,r1,r9,iY]
    ·rintro j a' s' hj ⟨r1,r9,iY,hW⟩ aR w1 w2 w3;obtain⟨P,G,R,Q,M,S,I,Z,hN,hb,K,hL⟩:=hW;have jO:j<l5:=by omega
     have lf:aI s'.look ⟨s.next,5,none⟩=some (.slice a5 l5 uO):=(box s' K).load rfl;obtain⟨b,off,m0,rfl,FU,g0,VY⟩:=(V5.aD K).wF jO (show 0<2 by omega);obtain⟨b',off',m1,eb,_,g1,lm1⟩:=(V5.aD K).wF jO (show 1<2 by omega);cases eb;have VY:aI s'.look ⟨b,off+j*2,none⟩=some (u8 m0):=VY;have p1:(0:Int)≤(j:Int):=Int.natCast_nonneg _;have p2:(j:Int)<((l5:Nat):Int):=by omega
     have tm1:(m1:Int).tmod 100=((m1%100:Nat):Int):=rfl;have z0:(0:Int)≤0:=by omega
     have z1:(0:Int)≤1:=by omega
     have z02:(0:Int)<((2:Nat):Int):=by omega
     have z12:(1:Int)<((2:Nat):Int):=by omega
     have ks:aC [] s' (s'.skip 40):=aC.skip K.ok _;refine aA fun aJ4 iv aAt=>?_;refine dH [(2,17),(6,17)] [s.next,b] [] (by kernel_rfl) (by kernel_rfl) (by rfl) fun O hO bK hR=>?_;simp only[bT,seval,r1,r9,iY,lf,p1,p2,z0,z02,z1,z12,and_self,bJ,Int.toNat_natCast,show Int.toNat 0=0 from rfl,show Int.toNat 1=1 from rfl,Nat.zero_mul,Nat.add_zero,Nat.mul_one,VY,lm1,w m0 g0,w m1 g1,tm1];have Mk:=M.aL ks;refine eQ ?_ (OG ks.ok Mk S I (n:=m1%100) (by omega) fun to s9 gp gq k9=>?_)
     ·simp only[bT,seval]
     have bk:Obj (s'.skip 40) s.next _:=box _ (K.trans (.iA ks));have h1:eT (s'.skip 40) s9 s.next=true:=bk.same ks.ok k9 (by simp);have h2:eT (s'.skip 40) s9 b=true:=PW (tM ks (by simp) VY) ks.ok k9 (by simp);simp only[bT,seval];refine⟨gQ h1 (gQ h2 jR),?_⟩;refine eQ ?_ (aBm k9.ok (Mk.aL k9) (n:=m0) g0 gq gp fun R' Q' rN M' JK hm' ZJ=>?_)
     ·simp only[bT,seval]
     simp only[bT,seval];refine hR _ _ (iv _ _ ?_);simp only[bT,seval];refine w1 _ _ ⟨?_,?_,?_,P,G,R',Q',M',S,I,Z,hN,hb,(K.trans (.iA (ks.trans k9))).trans ZJ,JK hL⟩
     all_goals simp only[bT,seval,r1,r9,iY]
    ·rintro j a' s' hj ⟨r1,r9,iY,hW⟩ aR w1;have ww:IntKind.i64.wrap ((j:Int)+1)=((j+1:Nat):Int):=by rw[aU (by omega) (by omega)];rfl
     simp only[bT,seval,iY,ww];refine w1 _ _ ⟨?_,?_,?_,hW⟩
     all_goals try simp only[bT,seval,r1,r9]
    ·rintro a' s' ⟨r1,r9,iY,hW⟩;refine aAs _ _ (iq _ _ ?_);refine aA fun aK9 aAu aJu=>?_;refine aA fun aKa aAv aJv=>?_;simp only[bT,seval];refine aAv _ _ ?_;refine cB fun aKb aJw aAw aJx=>?_;refine gD (n:=min l6 8) (fun j a' s'=>a'.aB 1=ptr s.next∧a'.aB 9=ptr x∧a'.aB 19=int j∧∃ P G R Q,Mem s1.next s' x h r g t P R G Q R∧iM P G∧P.Inv∧P.Sound∧P.N=2+x0%23∧P.born≤40∧fD s1.next s1 s'∧PR.nN P R)
      (fun j a' s'=>a'.aB 1=ptr s.next∧a'.aB 9=ptr x∧a'.aB 19=int j∧∃ P G R Q,Mem s1.next s' x h r g t P R G Q R∧iM P G∧P.Inv∧P.Sound∧P.N=2+x0%23∧P.born≤40∧fD s1.next s1 s'∧PR.nN P R) ?_ ?_ ?_ ?_ (Nat.zero_le _) ?_
     ·rintro j a' s' hj ⟨r1,r9,fS,hW⟩ aR bH;have K:fD s1.next s1 s':=by obtain⟨P,G,R,Q,M,S,I,Z,hN,hb,K,hL⟩:=hW;exact K
      have lf:aI s'.look ⟨s.next,6,none⟩=some (.slice a6 l6 yI):=(box s' K).load rfl;refine cK [(5,228)] (by kernel_rfl) fun O hO bK hR=>?_;have y5:∀ a,aN O a 5=bC (a.aB 228):=hO (5,228) (by simp);by_cases hc:(j:Int)<(l6:Int)
      ·simp only[bT,seval,y5,r1,fS,lf,hc,decide_true];refine hR _ _ (bH _ _ (decide ((j:Int)<8)) ?_ (by rw[decide_eq_true_eq];omega) ⟨?_,?_,?_,hW⟩)
       all_goals simp only[bT,seval,r1,r9,fS]
      ·simp only[bT,seval,y5,r1,fS,lf,hc,decide_false];refine hR _ _ (bH _ _ false ?_ (by simp;omega) ⟨?_,?_,?_,hW⟩)
       all_goals simp only[bT,seval,r1,r9,fS]
     ·rintro j a' s' hj ⟨r1,r9,fS,hW⟩ aR w1 w2 w3;obtain⟨P,G,R,Q,M,S,I,Z,hN,hb,K,hL⟩:=hW;have jO:j<l6:=by omega
      have lf:aI s'.look ⟨s.next,6,none⟩=some (.slice a6 l6 yI):=(box s' K).load rfl;obtain⟨b,off,m,rfl,FU,g0,lm⟩:=(V6.aD K).wF jO (show 0<1 by omega);have lm:aI s'.look ⟨b,off+j,none⟩=some (u8 m):=by rw[Nat.mul_one] at lm;exact lm
      have p1:(0:Int)≤(j:Int):=Int.natCast_nonneg _;have p2:(j:Int)<((l6:Nat):Int):=by omega
      have qt:(m:Int).tmod 100=((m%100:Nat):Int):=rfl;refine aA fun aKc aAx aJy=>?_;simp only[bT,seval,r1,r9,fS,lf,p1,p2,and_self,bJ,Int.toNat_natCast,Nat.mul_one,lm,w m g0,qt];refine aJ ?_ (OG K.ok M S I (n:=m%100) (by omega) fun a s9 ha vA k9=>?_)
      ·simp only[bT,seval]
      simp only[bT,seval];refine aAx _ _ ?_;have M9:=M.aL k9;have ks:aC [] s9 (s9.skip 26):=aC.skip k9.ok _;have Mk:=M9.aL ks;refine aA fun aKd aAy aJz=>?_;refine dH [(9,5)] [x] [] (by kernel_rfl) (by kernel_rfl) (by rfl) fun O hO bK hR=>?_;simp only[bT,seval,r9,M9.l2];refine eQ ?_ (aFj ks.ok Mk.K S I a fun G1 F rN H1 S1 hF hf k10=>?_)
      ·simp only[bT,seval]
      have EZ:=Mk.PX ks.ok k10 hF H1 hf;have iH:eT (s9.skip 26) rN x=true:=Mk.c.same ks.ok k10 (fun hm=>M.xG x (List.mem_singleton.2 rfl) (hF x hm));simp only[bT,seval,r9,EZ.l0];refine⟨gQ iH jR,?_⟩;refine eQ ?_ (W9 k10.ok EZ.H a vA fun YB ZI k11=>?_)
      ·simp only[bT,seval]
      simp only[bT,seval,beq_self_eq_true];refine hR _ _ (aAy _ _ ?_);simp only[bT,seval];have FQ:∀ z∈[P.pu],z∈P.bF h:=fun z hz=>by
       simp only[List.mem_cons,List.not_mem_nil,or_false] at hz;unfold PH.bF;subst hz;simp
      have hfo:(P.gH a 1).bF h=P.bF h∧(P.gH a 1).N=P.N∧(P.gH a 1).born=P.born∧(∀ b,(P.gH a 1).has b=P.has b)∧(∀ b i,(P.gH a 1).ref b i=P.ref b i):=by unfold PH.gH;split <;> exact⟨rfl,rfl,rfl,fun _=>rfl,fun _ _=>rfl⟩
      have IG:=EZ.BN k10.ok k11 FQ ZI hfo.1;refine w1 _ _ ⟨?_,?_,?_,_,G1,R,Q,IG,S1,I.gH a 1,fun b i=>by rw[hfo.2.2.2.2,hfo.2.2.2.1];exact Z b i,hfo.2.1.trans hN,by rw[hfo.2.2.1];exact hb,((K.trans (.iA (k9.trans ks))).trans (.of k10 fun z hz=>M.lG z (hF z hz))).trans (.of k11 fun z hz=>M.lP z (FQ z hz)),⟨fun i=>by rw[hfo.2.2.2.1];exact hL.sl i,fun i=>by rw[hfo.2.2.2.1];exact hL.gl i,fun y hy=>by rw[hfo.2.2.2.1];exact hL.q y hy⟩⟩
      all_goals simp only[bT,seval,r1,r9,fS]
     ·rintro j a' s' hj ⟨r1,r9,fS,hW⟩ aR w1;have ww:IntKind.i64.wrap ((j:Int)+1)=((j+1:Nat):Int):=by rw[aU (by omega) (by omega)];rfl
      simp only[bT,seval,fS,ww];refine w1 _ _ ⟨?_,?_,?_,hW⟩
      all_goals try simp only[bT,seval,r1,r9]
     ·rintro a' s' ⟨r1,r9,fS,hW⟩;refine aAw _ _ (aAu _ _ ?_);obtain⟨P,G,R,Q,M,S,I,Z,hN,hb,K,hL⟩:=hW;simp only[bT,seval,r9];exact hΦ x h r g t P R G Q s' (M.mono tG) S I Z hL (by omega) hb (K.back hs tG k1)
     ·refine⟨?_,?_,?_,hW⟩
      all_goals try simp only[bT,seval,r1,r9]
      try rfl
    ·obtain⟨P,G,M,S,I,Z,hN,hb,K⟩:=hW;refine⟨?_,?_,?_,P,G,R0,Q0,M,S,I,Z,hN,hb,K,⟨fun i=>.inl (ey i),fun i=>.inl (eu i),fun y hy=>by rw[UD] at hy;cases hy⟩⟩
     all_goals try simp only[bT,seval,r1,r9]
     try rfl
   ·obtain⟨P,G,M,S,I,Z,hN,hb,K⟩:=hW;refine⟨?_,?_,?_,P,G,M,S,I,Z.sound,hN,hb,K⟩
    all_goals try simp only[bT,seval,r1,r9]
    try rfl
  ·obtain⟨P,G,M,S,I,Z,hN,hb,hl,K⟩:=hW;refine⟨?_,?_,?_,P,G,M,S,I,Z,hN,by omega,K⟩
   all_goals try simp only[bT,seval,r1,r9]
   try rfl
 ·refine⟨?_,?_,?_,P0,_,M8,S8,I8,Z8,Q5,by omega,Nat.zero_le _,Si⟩
  all_goals try simp only[bT,seval,hx]
  try rfl
end
open Go.Proofs
set_option maxRecDepth 100000
set_option maxHeartbeats 1000000
section
variable {kc:Kc} {s:St} {Φ:Value→St→Prop} {h r:Nat} {P:PH} {R:PR}
end
end Go.Dust
namespace Go.Dust
open Go.Proofs Go.ChangeShapes Go.RowKit Go.WideShapes
set_option maxRecDepth 100000
set_option maxHeartbeats 1000000
end Go.Dust
namespace Go.Dust
open Go.Proofs
set_option maxRecDepth 100000
set_option maxHeartbeats 4000000
namespace PH
variable {P:PH}
end PH
open Go.Proofs
set_option maxRecDepth 100000
set_option maxHeartbeats 8000000
section
variable {kc:Kc} {q:Bool} {s:St} {Φ:Value→St→Prop}
theorem uB:type_of% (An @RX<|An @VW<|An @KA<|An @KG<|An @cd<|@Im):=An @RX<|An @VW<|An @KA<|An @KG<|An @cd<|@Im
theorem aBq (hs:Ok s) {va vb:Option Addr} {vc wc:Nat} (f:AF) (B1:Sl s 3 (.slice va 1 vc) (wJ f)) (B2:Sl s 3 (.slice vb 1 wc) (wJ f)) (hΦ:∀ s',aC [] s s'→Φ (.bool true) s'):okF q X (KO kc) 19 [.slice va 1 vc,.slice vb 1 wc] s Φ:=by
 refine aV rfl t_ rfl (rs:=[.tmp 4]) rfl (N:=26) rfl rfl ?_;refine aA fun bB aF aZ=>?_;simp only[uB,seval];refine aF _ _ ?_;refine aA fun Ψ1 aE aK=>?_;refine aA fun Ψ2 aH bM=>?_;simp only[uB,seval,beq_self_eq_true];refine aH _ _ ?_;simp only[uB,seval];refine aE _ _ ?_;refine aA fun Ψ3 aM bN=>?_;refine aA fun Ψ4 aQ bZ=>?_;simp only[uB,seval];refine aQ _ _ ?_;refine cB fun cP bI oH cF=>?_;refine gD (n:=1) (fun j a' s'=>a'.aB 0=.slice va 1 vc∧a'.aB 1=.slice vb 1 wc∧a'.aB 5=int j∧aC [] s s') (fun j a' s'=>a'.aB 0=.slice va 1 vc∧a'.aB 1=.slice vb 1 wc∧a'.aB 5=int j∧aC [] s s') ?_ ?_ ?_ ?_ (Nat.zero_le _) ?_
 ·rintro j a' s' hj ⟨r0,r1,r5,hk⟩ aR bH;have e1:((1:Nat):Int)=1:=rfl;simp only[uB,seval,r0,r5,e1];refine bH _ _ (decide ((j:Int)<1)) ?_ (by rw[decide_eq_true_eq];omega) ⟨?_,?_,?_,hk⟩
  all_goals simp only[uB,seval,r0,r1,r5]
 ·rintro j a' s' hj ⟨r0,r1,r5,hk⟩ aR w1 w2 w3;obtain rfl:j=0:=by omega
  obtain⟨b1,o1,rfl⟩:=B1.addr (by omega);obtain⟨b2,o2,rfl⟩:=B2.addr (by omega);have p1:(0:Int)≤((0:Nat):Int):=Int.natCast_nonneg _;have p2:((0:Nat):Int)<((1:Nat):Int):=by omega
  have g1:bD s'.look ⟨b1,o1+0*3,none⟩ 3=some [int f.1,int f.2.1,int f.2.2]:=(B1.aD hk (by simp)).bD (i:=0*3) (k:=3) (by omega) (by simp[wJ]);have g2:bD s'.look ⟨b2,o2+0*3,none⟩ 3=some [int f.1,int f.2.1,int f.2.2]:=(B2.aD hk (by simp)).bD (i:=0*3) (k:=3) (by omega) (by simp[wJ]);refine aA fun dK bO cV=>?_;refine dH [] [] [] (by kernel_rfl) (by kernel_rfl) (by rfl) fun O hO bK hR=>?_;simp only[uB,seval,r0,r1,r5,p1,p2,and_self,bJ,Int.toNat_natCast,g1,g2,beq_self_eq_true,Bool.and_self];refine hR _ _ (bO _ _ ?_);simp only[uB,seval];refine w1 _ _ ⟨?_,?_,?_,hk.jJ _⟩
  all_goals simp only[uB,seval,r0,r1,r5]
 ·rintro j a' s' hj ⟨r0,r1,r5,hk⟩ aR w1;have w:IntKind.i64.wrap ((j:Int)+1)=((j+1:Nat):Int):=by rw[aU (by omega) (by omega)];rfl
  simp only[uB,seval,r5,w];refine w1 _ _ ⟨?_,?_,?_,hk⟩
  all_goals try simp only[uB,seval,r0,r1]
 ·rintro a' s' ⟨r0,r1,r5,hk⟩;refine oH _ _ (aM _ _ ?_);simp only[uB,seval];exact hΦ s' hk
 ·refine⟨?_,?_,?_,.refl hs⟩
  all_goals try simp only[uB,seval]
  try rfl
end
section
variable {q:Bool} {s:St} {Φ:Value→St→Prop}
end
open Go.Proofs
set_option maxRecDepth 100000
set_option maxHeartbeats 8000000
theorem Fu {P:PH} {R:PR} {K:List Int} (I:mN P (R.all.map R.get) K []) (D:AE P K) (hr:∀ x∈R.all.map R.get,P.has x=true→x∈K):RJ P R (qO K) none:=by
 refine⟨fun x hx=>?_,fun b h=>(by cases h),fun i hi hM=>?_⟩
 ·have hK:=(Ft I D hr).2 hx;obtain⟨j,rfl,hj⟩:=FR hx.has;rw[show (2*(j:Int)/2).toNat=j by omega];unfold qO;rw[List.contains_iff_mem.2 hK];simp
 ·unfold qO at hM;split at hM
  ·rename_i h;exact(I.pB _ (List.contains_iff_mem.1 h)).has
  ·cases hM
theorem aBf {P:PH} {R:PR} {K:List Int} (I:mN P (R.all.map R.get) K []) (D:AE P K) (hr:∀ x∈R.all.map R.get,P.has x=true→x∈K) {j:Nat} (hj:eU P (R.all.map R.get) (2*(j:Int))):RJ P R (jB (qO K) j 0) (some (2*(j:Int))):=by
 have L:=Fu I D hr;refine⟨fun x hx=>?_,fun b h=>by cases h;exact hj,fun i hi hM=>?_⟩
 ·have:=L.k x hx;obtain⟨i,rfl,hi⟩:=FR hx.has;rw[show (2*(i:Int)/2).toNat=i by omega] at this ⊢;unfold jB;by_cases e:i=j
  ·subst e;simp
  ·rw[if_neg e];constructor
   ·intro h;have:=this.1 h;cases this
   ·intro h;simp only[Option.some.injEq] at h;omega
 ·unfold jB at hM;split at hM
  ·cases hM
  ·exact L.m i hi hM
section
variable {q:Bool} {s:St} {Φ:Value→St→Prop}
theorem fN:type_of% (An @RX<|An @Ge<|An @zg<|An @zb<|An @yS<|An @kW<|An @JB<|An @DI<|An @RU<|An @YM<|An @VW<|An @dG<|An @CJ<|An @dE<|An @aW<|An @uw<|@xc):=An @RX<|An @Ge<|An @zg<|An @zb<|An @yS<|An @kW<|An @JB<|An @DI<|An @RU<|An @YM<|An @VW<|An @dG<|An @CJ<|An @dE<|An @aW<|An @uw<|@xc
theorem aBo (hs:Ok s) {x0 x1 o0:Nat} (hx0:x0<256) (hx1:x1<256) (ho:o0<256) {v2 v3 v4 v5 v6:Value} {l2 l3 l4 l5 l6:Nat} (U2:iG s.next s 4 v2 l2) (U3:iG s.next s 1 v3 l3) (U4:iG s.next s 3 v4 l4) (U5:iG s.next s 2 v5 l5) (U6:iG s.next s 1 v6 l6)
  (hΦ:∀ s',aC [] s s'→Φ (.bool true) s'):okF q X (KO GX) 7 [.agg #[u8 x0,u8 x1,v2,v3,v4,v5,v6],u8 o0] s Φ:=by
 obtain⟨a2,rA,rfl,W2⟩:=U2;obtain⟨a3,qG,rfl,W3⟩:=U3;obtain⟨a4,yH,rfl,W4⟩:=U4;obtain⟨a5,uO,rfl,W5⟩:=U5;obtain⟨a6,yI,rfl,W6⟩:=U6;have U2:iG s.next s 4 (.slice a2 l2 rA) l2:=⟨a2,rA,rfl,W2⟩;have U3:iG s.next s 1 (.slice a3 l3 qG) l3:=⟨a3,qG,rfl,W3⟩;have U4:iG s.next s 3 (.slice a4 l4 yH) l4:=⟨a4,yH,rfl,W4⟩;have U5:iG s.next s 2 (.slice a5 l5 uO) l5:=⟨a5,uO,rfl,W5⟩;have U6:iG s.next s 1 (.slice a6 l6 yI) l6:=⟨a6,yI,rfl,W6⟩;clear W2 W3 W4 W5 W6;refine aV rfl J4 rfl (rs:=[.tmp 4]) rfl (N:=98) rfl rfl ?_;refine aA fun bB aF aZ=>?_;simp only[fN,seval];obtain⟨s1,e1,k1,c1,n1⟩:=cA hs (L:=[u8 x0,u8 x1,.slice a2 l2 rA,.slice a3 l3 qG,.slice a4 l4 yH,.slice a5 l5 uO,.slice a6 l6 yI]) (n:=7) (e:=27) rfl;rw[e1];refine aF _ _ ?_;have tG:s.next≤s1.next:=k1.next;have lb:=c1.bD (i:=0) (k:=7) (Nat.le_refl _);refine aA fun Ψ1 aE aK=>?_;simp only[fN,seval,lb,List.drop_zero,List.take];refine aJ ?_ (aBi k1.ok hx0 hx1 ((U2.aD (.iA k1)).mono tG) ((U3.aD (.iA k1)).mono tG) ((U4.aD (.iA k1)).mono tG) ((U5.aD (.iA k1)).mono tG) ((U6.aD (.iA k1)).mono tG) fun x h r g t P R G Q s2 M S I Z hL hN hb k2=>?_)
 ·simp only[fN,seval]
 clear U2 U3 U4 U5 U6;simp only[fN,seval];refine aE _ _ ?_;have eC:=k1.trans k2;have hD:=hL.led;have z0:P.has 0=false:=by
  cases hc:P.has 0 with
  | false=>rfl
  | true=>have:=I.z 0 hc;omega
 have hv:∀ p∈R.all,0≤R.get p:=fun p hp=>(PH.iN.1 (hD.1 p hp)).1;have m1:=M.A.m1;refine aA fun Ψ2 aH bM=>?_;refine aA fun Ψ3 aM bN=>?_;simp only[fN,seval];refine aM _ _ ?_;simp only[fN,seval];refine aH _ _ ?_;have jl:aC [] s2 (s2.skip 34):=aC.skip k2.ok _;have Mk:=M.aL jl;refine aA fun Ψ4 aQ bZ=>?_;refine dH [] [] [] (by kernel_rfl) (by kernel_rfl) (by rfl) fun O hO bK hR=>?_;simp only[fN,seval,M.l0,M.l1];refine eQ ?_ (aI5 jl.ok Mk.H I.cM Mk.A m1 fun s3 tt tu K ta tb tc td te MT IK DK hr Ee htu k3=>?_)
 ·simp only[fN,seval]
 simp only[fN,seval];have Dp:∀ {y:Int},y∈K↔eU P (R.all.map R.get) y:=Ft IK DK hr;have nsk:(s2.skip 34).next=s2.next+34:=rfl;have NI:s3.heap.get (s2.next+26)=none:=by
  refine k3.none ?_ (by omega);exact k2.ok.fresh _ (by omega)
 have nJ:aC [] s2 s3:=jl.trans k3;have n23:=k3.next;obtain⟨T1,E1,K1,C1,N1⟩:∃ T1,s3.put (s2.next+26) (fun v=>bU.cells (PT.ofList [int 0,int 0,int 0,int 0,int 0]) [] 5 92 false false v)=T1∧aC [] s2 T1∧Obj T1 (s2.next+26) [int 0,int 0,int 0,int 0,int 0]∧T1.next=s3.next :=
  ⟨_,rfl,nJ.pD NI (by omega) (by omega) (Nat.le_refl _),Obj.pV rfl,rfl⟩
 obtain⟨T2,h2,C2,U2⟩:=C1.storeAll K1.ok (vs:=[int ta,int tb,int tc,int td,int te]) rfl rfl;have K2:aC [] s2 T2:=K1.step U2 fun y hy=>.inr (k2.ok.fresh y (by rw[List.mem_singleton.1 hy];omega));have Sn:sZ T1 tt tu P K:=by
  rw[← E1];obtain⟨c,⟨U,w1,w2,w3,w4⟩,h3,h4,h5,h6⟩:=MT;exact⟨c.oK (by omega),⟨U,w1.oK (by omega),w2,w3,w4⟩,h3,h4,h5,h6⟩
 have sj:sZ T2 tt tu P K:=Sn.aD U2 (by simp;omega) (by simp;omega)
 try simp only[fN,seval,E1,h2]
 refine hR _ _ (aQ _ _ ?_);have M2:=M.aL K2;have zG:aC [] T2 (T2.skip 30):=aC.skip K2.ok _;have MO:wD [ptr h,ptr r,ptr tt] (T2.skip 30) none:=⟨h,r,tt,tu,P,R,qO K,rfl,zG.ok,(M2.aL zG).H,(M2.aL zG).A,sj.aD zG (by simp) (by simp),I.cM,z0,Fu IK DK hr⟩;refine aA fun cP bI cF=>?_;refine dH [] [] [] (by kernel_rfl) (by kernel_rfl) (by rfl) fun O hO bK hR=>?_;simp only[fN,seval,M2.l0,M2.l1];refine eQ ?_ (Hi MO ?_)
 ·simp only[fN,seval]
 simp only[fN,seval,OR,KJ];refine hR _ _ (bI _ _ ?_);have K3:aC [] s2 (T2.skip 30):=K2.trans zG;obtain⟨s4,gi⟩:∃ s4,s4=T2.skip 30:=⟨_,rfl⟩;have So:sZ s4 tt tu P K:=by rw[gi];exact sj.aD zG (by simp) (by simp)
 rw[← gi] at K3 ⊢;clear gi MO zG;have M4:=M.aL K3;refine aA fun dK bO cV=>?_;refine aA fun fJ cC eF=>?_;refine cK [(2,45),(6,49)] (by kernel_rfl) fun O hO bK hR=>?_;have y2:∀ a,aN O a 2=bC (a.aB 45):=hO (2,45) (by simp);have y6:∀ a,aN O a 6=bC (a.aB 49):=hO (6,49) (by simp);have zz:(((0:Nat):Int)==0)=true:=rfl;simp only[fN,seval,y2,y6,bne,beq_self_eq_true,Bool.not_true,zz];refine hR _ _ (cC _ _ ?_);simp only[fN,seval];refine bO _ _ ?_;refine aA fun jC dA iI=>?_;simp only[fN,seval];refine aJ ?_ (aBg K3.ok M4.c M4.H I.cM M4.A hv fun ka kc' l s5 b5 p5 m5 k5=>?_)
 ·simp only[fN,seval]
 try simp only[fN,seval]
 refine dA _ _ ?_;have M5:=M4.aL k5;have Sp:sZ s5 tt tu P K:=So.aD k5 (by simp) (by simp);have mR:aC [] s s5:=(eC.trans K3).trans k5;refine aA fun lJ dW jP=>?_;refine aA fun mZ eB nH=>?_;by_cases fu:l.length=0
 ·have e0:((l.length:Int)==0)=true:=by rw[fu];rfl
  simp only[fN,seval,e0];refine eB _ _ ?_;simp only[eG,RV,RG,seval];refine aA fun rS kL qK=>?_;simp only[fN,seval];refine aJ ?_ (uc ?_)
  ·simp only[fN,seval]
  simp only[fN,seval];refine kL _ _ ?_;simp only[fN,seval];refine jP _ _ _ (by simp) ?_;simp only[fN,seval];exact hΦ s5 mR
 ·have e0:((l.length:Int)==0)=false:=by rw[beq_eq_false_iff_ne];omega
  simp only[fN,seval,e0];refine eB _ _ ?_;simp only[fN,seval];refine dW _ _ ?_;have aJe:l.length≤32*P.N:=Nat.le_trans (Lh p5 fun x hx=>((m5 x).1 hx).has) P.tB;obtain⟨kb,aK0,rfl⟩:=b5.sl.addr (show 0<l.length by omega);have tmo:(o0:Int).tmod (l.length:Int)=((o0%l.length:Nat):Int):=rfl;have wo:IntKind.i64.wrap (o0:Int)=(o0:Int):=aU (by omega) (by omega);have hil:o0%l.length<l.length:=Nat.mod_lt _ (by omega);have aA3:¬ ((l.length:Int)=0):=by omega
  have g1:(0:Int)≤((o0%l.length:Nat):Int):=Int.natCast_nonneg _;have g2:((o0%l.length:Nat):Int)<((l.length:Nat):Int):=by omega
  have la:=gL.get b5.sl (List.getElem?_eq_getElem hil);obtain⟨a,ha⟩:∃ a,a=l[o0%l.length]:=⟨_,rfl⟩;rw[← ha] at la;have hka:eU P (R.all.map R.get) a:=(m5 a).1 (by rw[ha];exact List.getElem_mem _);clear ha;obtain⟨j,rfl,hj⟩:=FR hka.has;refine aA fun rS kL qK=>?_;simp only[fN,seval,wo,tmo,aA3,g1,g2,and_self,bJ,Int.toNat_natCast,Nat.mul_one,la];refine kL _ _ ?_;have bW:=M.H.bW;have ed:(2*(j:Int)).tdiv 2=(j:Int):=Int.mul_tdiv_cancel_left _ (by omega);have w2:IntKind.i64.wrap ((2*(j:Int)).tdiv 2)=(j:Int):=by rw[ed,aU (by omega) (by omega)]
  refine aA fun uH kV tJ=>?_;refine aA fun AA oF yX=>?_;simp only[fN,seval,w2];refine aJ ?_ (QB k5.ok Sp (i:=(j:Int)) (v:=0) (i':=j) (v':=0) rfl rfl hj (by omega) fun s6 Sq k6=>?_)
  ·simp only[fN,seval]
  try simp only[fN,seval,bne,beq_self_eq_true,Bool.not_true]
  refine oF _ _ ?_;simp only[fN,seval];refine kV _ _ ?_;have AV:aC [] s2 s6:=(K3.trans k5).step k6 fun y hy=>.inr (k2.ok.fresh y (by rw[List.mem_singleton.1 hy];omega));have M6:=M.aL AV;have KE:aC [] s6 (s6.skip 30):=aC.skip k6.ok _;have MO:wD [ptr h,ptr r,ptr tt] (s6.skip 30) (some (2*(j:Int))):=⟨h,r,tt,tu,P,R,jB (qO K) j 0,rfl,KE.ok,(M6.aL KE).H,(M6.aL KE).A,Sq.aD KE (by simp) (by simp),I.cM,z0,aBf IK DK hr hka⟩;obtain⟨s7,e7,k7,B7⟩:∃ s7,KJ (s6.skip 30) (some (2*(j:Int)))=s7∧aC [] (s6.skip 30) s7∧bE s7 51 3 (.slice (some ⟨(s6.skip 30).next,0,none⟩) 1 1) (wJ (4,2*(j:Int),0)) :=
   ⟨_,rfl,(aC.refl KE.ok).new (.inr (Nat.le_refl _)),.own (L0:=[int 4,int (2*(j:Int)),int 0]) Cells.vL (by simp) (Nat.le_refl _) rfl fun i hi=>by rw[Nat.zero_add];rfl⟩
  refine aA fun ME wP GO=>?_;refine dH [] [] [] (by kernel_rfl) (by kernel_rfl) (by rfl) fun O hO bK hR=>?_;simp only[fN,seval,M6.l0,M6.l1];refine eQ ?_ (Hi MO ?_)
  ·simp only[fN,seval]
  rw[e7];simp only[fN,seval,OR];refine hR _ _ (wP _ _ ?_);obtain⟨s8,f8,k8,c8,n8⟩:=cA k7.ok (L:=[int 4,int (2*(j:Int)),int 0]) (n:=3) (e:=51) rfl;obtain⟨ec,c8⟩:=c8;have B8:bE s8 51 3 (.slice (some ⟨s7.next,0,none⟩) 1 1) (wJ (4,2*(j:Int),0)):=.own (L0:=[int 4,int (2*(j:Int)),int 0]) (by rw[← f8];exact Cells.vL) (by simp) (Nat.le_refl _) rfl (fun i hi=>by rw[Nat.zero_add];rfl);refine aA fun ZD AQ VE=>?_;refine cK [(2,88),(9,95)] (by kernel_rfl) fun O hO bK hR=>?_;have y2:∀ a,aN O a 2=bC (a.aB 88):=hO (2,88) (by simp);have y9:∀ a,aN O a 9=bC (a.aB 95):=hO (9,95) (by simp);simp only[fN,seval,y2,beq_self_eq_true];rw[f8]
  try simp only[fN,seval]
  refine aJ ?_ (aBq k8.ok (4,2*(j:Int),0) (B7.aD k8 (by simp)).sl B8.sl fun s9 k9=>?_)
  ·simp only[fN,seval]
  simp only[fN,seval,y9];refine aJ ?_ (uc ?_)
  ·simp only[fN,seval]
  simp only[fN,seval,y9];refine hR _ _ (AQ _ _ ?_);simp only[fN,seval];exact hΦ s9 (((((eC.trans AV).trans KE).trans k7).trans k8).trans k9)
end
end Go.Dust
