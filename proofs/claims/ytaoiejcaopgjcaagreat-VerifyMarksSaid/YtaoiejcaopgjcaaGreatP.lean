/- VerifyMarks walked in D, function by function, and its plain law (R5 R6 R7 L1 L2 L3). -/
import Derived.Test.YtaoiejcaopgjcaaGreatO
import Derived.Test.YtaoiejcaopgjcaaGreatL
set_option linter.unusedVariables false
set_option linter.unusedSimpArgs false
open Nat renaming reduceEqDiff → zA, reduceMul → zB, reduceAdd → zC, reduceBEq → zD
open Int renaming reduceEq → zE, reduceBEq → zF
namespace Go.Dust
open Go.Proofs
set_option maxRecDepth 100000
set_option maxHeartbeats 1000000
namespace PR
variable (R:PR)
def len (k:Nat):Nat:=if k=0 then 16*R.m else if k=1 then 16 else R.q.length
def cQ (k i:Nat):eW:=⟨k,if k=0 then((i/16:Nat):Int) else 0,if k=0 then((i%16:Nat):Int) else i⟩
def one (k i:Nat):List eW:=if R.get (cQ k i)=0 then [] else [cQ k i]
def part (k n:Nat):List eW:=(List.range n).flatMap (R.one k)
def upto (k:Nat):List eW:=(List.range k).flatMap fun k=>R.part k (R.len k)
def all:List eW:=R.upto 3
def EG (k:Nat):Value:=if k=0 then .slice (some ⟨R.ns,0,none⟩) (16*R.m) (16*R.m) else if k=1 then .slice (some ⟨R.ng,0,none⟩) 16 16 else .slice R.va R.vn R.vc
theorem XI (k n:Nat):R.part k (n+1)=R.part k n++R.one k n:=by
 unfold part;rw[List.range_succ,List.flatMap_append];simp
theorem QX (k:Nat):R.upto (k+1)=R.upto k++R.part k (R.len k):=by
 unfold upto;rw[List.range_succ,List.flatMap_append];simp
theorem Ka (k n:Nat):(R.part k n).length≤n:=by
 induction n with
 | zero=>exact Nat.le_refl _
 | succ n ih =>
  rw[XI,List.length_append];unfold one;split <;> simp <;> omega
theorem aBw (h4:R.m≤4) (hq:R.q.length≤64) (k:Nat):R.len k≤64:=by unfold len;split <;> (try split) <;> omega
theorem Qq (h4:R.m≤4) (hq:R.q.length≤64) {k:Nat} (hk:k≤3):(R.upto k).length≤64*k:=by
 induction k with
 | zero=>exact Nat.le_refl _
 | succ k ih =>
  rw[QX,List.length_append];have:=R.Ka k (R.len k);have:=R.aBw h4 hq k;have:=ih (by omega);omega
theorem NM {k i:Nat} (hk:k<3) (hi:i<R.len k):R.has (cQ k i)=true:=by
 unfold len at hi;unfold has cQ;rcases(show k=0∨k=1∨k=2 by omega) with rfl | rfl | rfl
 ·simp only[if_true] at hi ⊢;rw[if_pos ⟨rfl,by omega,by omega⟩];exact decide_eq_true (by omega)
 ·simp only[if_true,if_false,Nat.one_ne_zero] at hi ⊢;rw[if_neg (by omega),if_pos ⟨rfl,trivial⟩];exact decide_eq_true (by omega)
 ·simp at hi ⊢;omega
end PR
theorem dV.slot {s:St} {r:Nat} {R:PR} (H:dV s r R) {k i:Nat} (hk:k<3) (hi:i<R.len k):∃ b off c,R.EG k=.slice (some ⟨b,off,none⟩) (R.len k) c∧R.addr (PR.cQ k i)=⟨b,off+i,none⟩:=by
 unfold PR.len at hi ⊢;unfold PR.EG PR.addr PR.cQ;rcases(show k=0∨k=1∨k=2 by omega) with rfl | rfl | rfl
 ·simp only[if_true] at hi ⊢;refine⟨_,_,_,rfl,?_⟩;rw[if_pos (show ((0:Nat):Int)=0 from rfl)];congr 1;omega
 ·simp only[if_true,if_false,Nat.one_ne_zero] at hi ⊢;refine⟨_,_,_,rfl,?_⟩;rw[if_neg (by omega),if_pos (show ((1:Nat):Int)=1 from rfl)];congr 1;omega
 ·have hq:=H.lq;simp only[if_false,Nat.succ_ne_zero,show ¬ (2:Nat)=1 by omega] at hi ⊢;obtain⟨b,off,e⟩:=H.cq.sl.addr (show 0<R.vn by omega);refine⟨b,off,R.vc,by rw[e,hq],?_⟩;rw[if_neg (by omega),if_neg (by omega),e];simp only[bJ];congr 1
theorem dV.aBu {s:St} {r:Nat} {R:PR} (H:dV s r R) (k:Nat):∃ a c,R.EG k=.slice a (R.len k) c:=by
 unfold PR.len PR.EG;by_cases h0:k=0
 ·rw[if_pos h0,if_pos h0];exact⟨_,_,rfl⟩
 ·rw[if_neg h0,if_neg h0];by_cases h1:k=1
  ·rw[if_pos h1,if_pos h1];exact⟨_,_,rfl⟩
  ·rw[if_neg h1,if_neg h1,← H.lq];exact⟨_,_,rfl⟩
theorem wU.mono {q:Bool} {X:Env} {K:eE} {s:St} {f:Value} {args:List Value} {Ψ aR:Value→St→Prop} (h:wU q X K s f args Ψ) (hm:∀ v s,Ψ v s→aR v s):wU q X K s f args aR:=by
 obtain⟨n,h⟩:=h;exact⟨n,h.mono fun p hp=>hm _ _ hp⟩
section
variable {kc:Kc} {q:Bool} {s:St} {Φ:Value→St→Prop} {r:Nat} {R:PR}
theorem iK:type_of% (An @RX<|An @DI<|An @TQ<|An @dF<|An @TR<|An @CR<|An @xa<|An @zI<|An @JZ<|An @dG<|An @IJ<|An @yD<|An @zU<|An @yN<|An @jG<|An @uV<|An @dE<|An @aW<|@mC):=An @RX<|An @DI<|An @TQ<|An @dF<|An @TR<|An @CR<|An @xa<|An @zI<|An @JZ<|An @dG<|An @IJ<|An @yD<|An @zU<|An @yN<|An @jG<|An @uV<|An @dE<|An @aW<|@mC
theorem Lo (hs:Ok s) (H:dV s r R) {x:Nat} (hx:Obj s x [ptr r]) {y:Value} {F:List Nat} (hF:∀ b∈R.bF r,b∉F) (Ej:x∉F) (P5:∀ b∈F,b<s.next) {J:List eW→List Nat→St→Prop} (Cb:∀ L N s' s'',J L N s'→aC [] s' s''→J L N s'')
  (OA:∀ L N p s',L.length≤192→aC F s s'→J L N s'→(∀ b∈N,s.next≤b)→R.has p=true→R.get p≠0→wU false X (KO kc) s' y [vM p,.pointer (some (R.addr p))] fun v s''=>v=.bool true∧∃ N',J (L++[p]) N' s''∧aC (F++N) s' s''∧∀ b∈N',b∈N∨s'.next≤b)
  (h0:J [] [] s) (hΦ:∀ N s',J R.all N s'→(∀ b∈N,s.next≤b)→aC F s s'→Φ (.tuple #[]) s'):okF q X (KO kc) 222 [y,ptr x] s Φ:=by
 have Dq:=H.m4;have NW:=H.ql;have lx:aI s.look ⟨x,0,none⟩=some (ptr r):=hx.load rfl;refine aV rfl B5 rfl (rs:=[]) rfl (N:=58) rfl rfl ?_;refine aA fun Ψ1 aE aK=>?_;refine dH [] [] [] (by kernel_rfl) (by kernel_rfl) (by rfl) fun O hO bK hR=>?_;simp only[iK,↓reduceIte,zA,reduceCtorEq,zE,zB,zC,zD,zF,lx,H.l1,H.l2,H.l3];refine hR _ _ (aE _ _ ?_);have fr:∀ z,s.next≤z→s.heap.get z=none:=hs.fresh;obtain⟨s1,e1,k1,c1,n1⟩:∃ S1,(s.skip 30).put (s.next+24) (fun v=>bU.cells (PT.ofList [Value.slice (some ⟨R.ns,0,none⟩) (16*R.m) (16*R.m),Value.slice (some ⟨R.ng,0,none⟩) 16 16,Value.slice R.va R.vn R.vc]) [] 3 62 false false v)=S1∧aC [] s S1∧Obj S1 (s.next+24) [R.EG 0,R.EG 1,R.EG 2]∧S1.next=s.next+30 :=
  ⟨_,rfl,(aC.skip hs 30).pD (fr _ (by omega)) (by show s.next+24<s.next+30;omega) (by omega) (Nat.le_refl _),Obj.pV rfl,rfl⟩
 rw[e1];obtain⟨JJ,P8,hJ,hy,P6⟩:∃ JJ:List eW→St→Prop,(∀ L s',JJ L s'→∃ N,(∀ b∈N,s1.next≤b)∧J L N s')∧(∀ L s' s'',JJ L s'→aC [] s' s''→JJ L s'') ∧
   (∀ L p s',L.length≤192→aC F s1 s'→JJ L s'→R.has p=true→R.get p≠0→wU false X (KO kc) s' y [vM p,.pointer (some (R.addr p))] fun v s''=>v=.bool true∧JJ (L++[p]) s''∧aC F s1 s'')∧JJ [] s1:=by
  refine⟨fun L s'=>∃ N,(∀ b∈N,s1.next≤b)∧J L N s',fun L s' h=>h,fun L s' s'' ⟨N,h1,h2⟩ k=>⟨N,h1,Cb _ _ _ _ h2 k⟩,?_,⟨[],by simp,Cb _ _ _ _ h0 k1⟩⟩;rintro L p s' hL k ⟨N,g1,g2⟩ g3 g4;refine(OA L N p s' hL (k1.any.trans k) g2 (fun b hb=>by have:=g1 b hb;omega) g3 g4).mono ?_;rintro v s'' ⟨rfl,N',g5,g6,g7⟩;refine⟨rfl,⟨N',fun b hb=>?_,g5⟩,k.step g6 fun g hg=>?_⟩
  ·rcases g7 b hb with h | h
   ·exact g1 b h
   ·have:=k.next;omega
  ·rcases List.mem_append.1 hg with h | h
   ·exact .inl h
   ·exact .inr (k1.ok.fresh _ (g1 g h))
 have FT:s.next+24∉F:=fun h=>by have:=P5 _ h;omega
 refine cB fun Ψ2 aH vD bM=>?_;refine qP (n:=3) (fun j a' s'=>a'.aB 0=y∧a'.aB 1=ptr x∧a'.aB 19=.slice (some ⟨s.next+24,0,none⟩) 3 3∧a'.aB 20=int 3∧a'.aB 21=int j∧aC F s1 s'∧JJ (R.upto j) s')
  (fun j a' s'=>a'.aB 0=y∧a'.aB 1=ptr x∧a'.aB 19=.slice (some ⟨s.next+24,0,none⟩) 3 3∧a'.aB 20=int 3∧a'.aB 21=int j∧aC F s1 s'∧JJ (R.upto (j+1)) s') ?_ ?_ ?_ ?_ (Nat.zero_le _) ?_
 ·rintro j a' s' hj ⟨r0,r1,fS,eR,fA,hk,qI⟩ aR bH;simp only[iK,↓reduceIte,zA,reduceCtorEq,zE,zB,zC,zD,zF,eR,fA];refine bH _ _ (decide ((j:Int)<3)) ?_ (by simp;omega) ⟨?_,?_,?_,?_,?_,hk,qI⟩
  all_goals simp only[iK,↓reduceIte,zA,reduceCtorEq,zE,zB,zC,zD,zF,r0,r1,fS,eR,fA]
 ·rintro j a' s' hj ⟨r0,r1,fS,eR,fA,hk,qI⟩ aR h1 h2 h3;have lj:aI s'.look ⟨s.next+24,j,none⟩=some (R.EG j):=by
   have:=c1.aD hk FT;refine this.load ?_;rcases(show j=0∨j=1∨j=2 by omega) with rfl | rfl | rfl <;> rfl
  obtain⟨sa,sc,hsl⟩:=H.aBu j;have g1:(0:Int)≤(j:Int):=Int.natCast_nonneg _;have g2:(j:Int)<((3:Nat):Int):=by omega
  have pO:(j:Int)<3:=g2;refine aA fun Ψ3 aM bN=>?_;simp only[iK,↓reduceIte,zA,reduceCtorEq,zE,zB,zC,zD,zF,fS,fA,g1,g2,pO,and_self,bJ,Int.toNat_natCast,Nat.mul_one,Nat.zero_add,lj];refine aM _ _ ?_;refine aA fun Ψ4 aQ bZ=>?_;simp only[iK,↓reduceIte,zA,reduceCtorEq,zE,zB,zC,zD,zF,hsl];refine aQ _ _ ?_;refine cB fun cP bI oH cF=>?_;have hlen:R.len j≤64:=by unfold PR.len;split <;> (try split) <;> omega
  refine qP (n:=R.len j) (fun i a' s'=>a'.aB 0=y∧a'.aB 1=ptr x∧a'.aB 19=.slice (some ⟨s.next+24,0,none⟩) 3 3∧a'.aB 20=int 3∧a'.aB 21=int j∧a'.aB 3=int j∧a'.aB 4=.slice sa (R.len j) sc∧a'.aB 27=int (R.len j)∧a'.aB 28=int i∧aC F s1 s'∧JJ (R.upto j++R.part j i) s')
   (fun i a' s'=>a'.aB 0=y∧a'.aB 1=ptr x∧a'.aB 19=.slice (some ⟨s.next+24,0,none⟩) 3 3∧a'.aB 20=int 3∧a'.aB 21=int j∧a'.aB 3=int j∧a'.aB 4=.slice sa (R.len j) sc∧a'.aB 27=int (R.len j)∧a'.aB 28=int i∧aC F s1 s'∧JJ (R.upto j++R.part j (i+1)) s') ?_ ?_ ?_ ?_ (Nat.zero_le _) ?_
  ·rintro i a' s' hi ⟨r0,r1,fS,eR,fA,r3,r4,oU,nK,hk,qI⟩ aR bH;simp only[iK,↓reduceIte,zA,reduceCtorEq,zE,zB,zC,zD,zF,oU,nK];refine bH _ _ (decide ((i:Int)<R.len j)) ?_ (by simp) ⟨?_,?_,?_,?_,?_,?_,?_,?_,?_,hk,qI⟩
   all_goals simp only[iK,↓reduceIte,zA,reduceCtorEq,zE,zB,zC,zD,zF,r0,r1,fS,eR,fA,r3,r4,oU,nK]
  ·rintro i a' s' hi ⟨r0,r1,fS,eR,fA,r3,r4,oU,nK,hk,qI⟩ aR i1 i2 i3;refine aA fun dK bO cV=>?_;simp only[iK,↓reduceIte,zA,reduceCtorEq,zE,zB,zC,zD,zF,nK];refine bO _ _ ?_;refine aA fun fJ cC eF=>?_;simp only[iK,↓reduceIte,zA,reduceCtorEq,zE,zB,zC,zD,zF,r3];obtain⟨s2,e2,k2,c2,n2⟩:=cA hk.ok (L:=[int 0,int 0,int 0]) (n:=3) (e:=118) rfl;rw[e2];obtain⟨s3,e3,c3,k3⟩:=c2.storeAll k2.ok (vs:=[int j,int 0,int i]) rfl rfl;have nJ:aC [] s' s3:=k2.step k3 fun g hg=>.inr (by rw[List.mem_singleton.1 hg];exact hk.ok.fresh _ (Nat.le_refl _));rw[e3];simp only[iK,↓reduceIte,zA,reduceCtorEq,zE,zB,zC,zD,zF];refine cC _ _ ?_;refine aA fun jC dA iI=>?_;have rest:∀ a4 s4,(a4.aB 0=y∧a4.aB 1=ptr x∧a4.aB 19=.slice (some ⟨s.next+24,0,none⟩) 3 3∧a4.aB 20=int 3∧a4.aB 21=int j∧a4.aB 3=int j∧a4.aB 4=.slice sa (R.len j) sc∧a4.aB 27=int (R.len j)∧a4.aB 28=int i∧a4.aB 5=int i∧a4.aB 6=ptr s'.next)→aC [] s' s4→Obj s4 s'.next [int (PR.cQ j i).k,int (PR.cQ j i).m,int (PR.cQ j i).i]→jC .normal a4 s4:=by
    rintro a4 s4 ⟨r0,r1,fS,eR,fA,r3,r4,oU,nK,r5,r6⟩ k4 c4;refine dA _ _ ?_;have kk:=hk.trans k4.any;have H4:=H.aD (k1.any.trans kk) hF;have hp:=R.NM (k:=j) (by omega) hi;obtain⟨b,off,c,Eb,Cl⟩:=H.slot (k:=j) (by omega) hi;rw[hsl] at Eb;obtain⟨rfl,rfl⟩:sa=some ⟨b,off,none⟩∧sc=c:=by
     injection Eb with q1 q2 q3;exact⟨q1,q3⟩
    have lv:=H4.get hp;rw[Cl] at lv;have lp:bD s4.look ⟨s'.next,0,none⟩ 3=some [int (PR.cQ j i).k,int (PR.cQ j i).m,int (PR.cQ j i).i]:=c4.bD (i:=0) (k:=3) (Nat.le_refl _);have g1:(0:Int)≤(i:Int):=Int.natCast_nonneg _;have g2:(i:Int)<(R.len j:Int):=by omega
    have P_:(R.upto j++R.part j i).length≤192:=by
     rw[List.length_append];have:=R.Ka j i;have:=R.Qq Dq NW (k:=j) (by omega);omega
    refine aA fun mZ eB nH=>?_;refine dH [] [] [(5,47)] (by kernel_rfl) (by kernel_rfl) (by rfl) fun O hO bK hR=>?_;have y5:∀ a,aN O a 5=bC (a.aB 47):=hO (5,47) (by simp);by_cases hv:R.get (PR.cQ j i)=0
    ·have ev:(R.get (PR.cQ j i)==0)=true:=by rw[beq_iff_eq];exact hv
     simp only[iK,↓reduceIte,zA,reduceCtorEq,zE,zB,zC,zD,zF,r4,r5,g1,g2,and_self,bJ,Int.toNat_natCast,Nat.mul_one,lv,y5,bne,ev];refine hR _ _ (eB _ _ ?_);simp only[iK,↓reduceIte,zA,reduceCtorEq,zE,zB,zC,zD,zF];refine i1 _ _ ⟨?_,?_,?_,?_,?_,?_,?_,?_,?_,kk.jJ 28,?_⟩
     all_goals try simp only[iK,↓reduceIte,zA,reduceCtorEq,zE,zB,zC,zD,zF,r0,r1,fS,eR,fA,r3,r4,oU,nK]
     rw[R.XI];unfold PR.one;rw[if_pos hv,List.append_nil];exact hJ _ _ _ qI (k4.jJ 28)
    ·have ev:(R.get (PR.cQ j i)==0)=false:=by rw[beq_eq_false_iff_ne];exact hv
     simp only[iK,↓reduceIte,zA,reduceCtorEq,zE,zB,zC,zD,zF,r4,r5,g1,g2,and_self,bJ,Int.toNat_natCast,Nat.mul_one,lv,y5,bne,ev,r0,r6,lp];refine aDo (y:=y) (args:=[vM (PR.cQ j i),.pointer (some (R.addr (PR.cQ j i)))]) ?_ ?_ ?_
     ·simp only[iK,↓reduceIte,zA,reduceCtorEq,zE,zB,zC,zD,zF]
     ·simp only[iK,↓reduceIte,zA,reduceCtorEq,zE,zB,zC,zD,zF,Cl]
     refine(hy _ _ _ P_ (kk.jJ 28) (hJ _ _ _ qI (k4.jJ 28)) hp hv).mono ?_;rintro v s7 ⟨rfl,P7,k7⟩
     try simp only[iK,↓reduceIte,zA,reduceCtorEq,zE,zB,zC,zD,zF,y5]
     refine hR _ _ (eB _ _ ?_);simp only[iK,↓reduceIte,zA,reduceCtorEq,zE,zB,zC,zD,zF];refine i1 _ _ ⟨?_,?_,?_,?_,?_,?_,?_,?_,?_,k7,?_⟩
     all_goals try simp only[iK,↓reduceIte,zA,reduceCtorEq,zE,zB,zC,zD,zF,r0,r1,fS,eR,fA,r3,r4,oU,nK]
     rw[R.XI];unfold PR.one;rw[if_neg hv,← List.append_assoc];exact P7
   refine aA fun lJ dW jP=>?_;simp only[iK,↓reduceIte,zA,reduceCtorEq,zE,zB,zC,zD,zF,r3];by_cases Dj:j=0
   ·have ej:((j:Int)==0)=true:=by rw[beq_iff_eq];omega
    simp only[iK,↓reduceIte,zA,reduceCtorEq,zE,zB,zC,zD,zF,ej];refine dW _ _ ?_;have w1:IntKind.i64.wrap ((i:Int).tdiv 16)=((i/16:Nat):Int):=by
     rw[Int.tdiv_eq_ediv_of_nonneg (by omega),aU (by omega) (by omega)];omega
    have w2:(i:Int).tmod 16=((i%16:Nat):Int):=by
     rw[Int.tmod_eq_emod_of_nonneg (by omega)];omega
    obtain⟨s5,e5,c5,k5⟩:=c3.store nJ.ok (i:=1) (vs:=[int ((i/16:Nat):Int)]) (by simp) rfl;obtain⟨s6,e6,c6,k6⟩:=c5.store k5.ok (i:=2) (vs:=[int ((i%16:Nat):Int)]) (by simp[tV]) rfl;have k26:aC [] s' s6:=nJ.step (k5.trans k6) fun g hg=>.inr (by rw[List.mem_singleton.1 hg];exact hk.ok.fresh _ (Nat.le_refl _));simp only[iK,↓reduceIte,zA,reduceCtorEq,zE,zB,zC,zD,zF,nK,w1,w2,e5,Option.getD,e6];refine rest _ _ ⟨?_,?_,?_,?_,?_,?_,?_,?_,?_,?_,?_⟩ k26 ?_
    all_goals try simp only[iK,↓reduceIte,zA,reduceCtorEq,zE,zB,zC,zD,zF,r0,r1,fS,eR,fA,r3,r4,oU,nK]
    unfold PR.cQ;simp only[if_pos Dj];exact c6
   ·have ej:((j:Int)==0)=false:=by rw[beq_eq_false_iff_ne];omega
    simp only[iK,↓reduceIte,zA,reduceCtorEq,zE,zB,zC,zD,zF,ej];refine dW _ _ ?_;simp only[iK,↓reduceIte,zA,reduceCtorEq,zE,zB,zC,zD,zF];refine rest _ _ ⟨?_,?_,?_,?_,?_,?_,?_,?_,?_,?_,?_⟩ nJ ?_
    all_goals try simp only[iK,↓reduceIte,zA,reduceCtorEq,zE,zB,zC,zD,zF,r0,r1,fS,eR,fA,r3,r4,oU,nK]
    unfold PR.cQ;simp only[if_neg Dj];exact c3
  ·rintro i a' s' hi ⟨r0,r1,fS,eR,fA,r3,r4,oU,nK,hk,qI⟩ aR i1;simp only[iK,↓reduceIte,zA,reduceCtorEq,zE,zB,zC,zD,zF,nK];refine i1 _ _ ⟨?_,?_,?_,?_,?_,?_,?_,?_,?_,hk,qI⟩
   all_goals simp only[iK,↓reduceIte,zA,reduceCtorEq,zE,zB,zC,zD,zF,r0,r1,fS,eR,fA,r3,r4,oU]
   rw[aU (by omega) (by omega)];rfl
  ·rintro a' s' ⟨r0,r1,fS,eR,fA,r3,r4,oU,nK,hk,qI⟩;refine oH _ _ (h1 _ _ ⟨r0,r1,fS,eR,fA,hk,?_⟩);rw[R.QX];exact qI
  ·refine⟨?_,?_,?_,?_,?_,?_,?_,?_,?_,hk,?_⟩
   all_goals try simp only[iK,↓reduceIte,zA,reduceCtorEq,zE,zB,zC,zD,zF,r0,r1,fS,eR,fA,hsl]
   ·rfl
   ·rw[show R.part j 0=[] from rfl,List.append_nil];exact qI
 ·rintro j a' s' hj ⟨r0,r1,fS,eR,fA,hk,qI⟩ aR h1;simp only[iK,↓reduceIte,zA,reduceCtorEq,zE,zB,zC,zD,zF,fA];refine h1 _ _ ⟨?_,?_,?_,?_,?_,hk,qI⟩
  all_goals simp only[iK,↓reduceIte,zA,reduceCtorEq,zE,zB,zC,zD,zF,r0,r1,fS,eR]
  rw[aU (by omega) (by omega)];rfl
 ·rintro a' s' ⟨r0,r1,fS,eR,fA,hk,qI⟩;refine vD _ _ ?_;simp only[iK,↓reduceIte,zA,reduceCtorEq,zE,zB,zC,zD,zF];obtain⟨N,g1,g2⟩:=P8 _ _ qI;exact hΦ N _ g2 (fun b hb=>by have:=g1 b hb;omega) (k1.any.trans hk)
 ·refine⟨?_,?_,?_,?_,?_,.refl k1.ok,P6⟩
  all_goals simp only[iK,↓reduceIte,zA,reduceCtorEq,zE,zB,zC,zD,zF]
  all_goals rfl
end
open Go.Proofs
set_option maxRecDepth 100000
set_option maxHeartbeats 1000000
def MG (s:St) (l:Nat) (a:aG) (ps:Array Tmp) (sa bd:Code):Prop:=∃ aT,s.heap.get l=some (.loop .ready none a.tmps a.nt ps sa bd aT)
theorem MG.aD {s s':St} {l:Nat} {a:aG} {ps:Array Tmp} {sa bd:Code} {F:List Nat} (h:MG s l a ps sa bd) (k:aC F s s') (hl:l∉F):MG s' l a ps sa bd:=by
 obtain⟨v,h⟩:=h;exact⟨v,k.cW _ _ h hl⟩
theorem Jk {q:Bool} {X:Env} {K:eE} {r:Option Nat} {g:Operand} {ps:Array Tmp} {sa bd:Code} {a:aG} {s:St} {Φ:dL→aG→St→Prop} {f:FuncId} {first captured:Array Value} (hs:Ok s) (hg:a.eval g=.func (.func f) first captured) (hlive:AZ r s=true)
  (h:∀ (LA:St→Prop) s1,(∀ F s' s'',LA s'→aC F s' s''→s.next∉F→LA s'')→aC [] s s1→s.next<s1.next→LA s1 →
   (∀ q' s' args Ψ,Ok s'→LA s'→args.length=ps.size →
    cN q' X K (some s.next) sa {tmps:=tR a.tmps (ps.toList.zip args),nt:=a.nt} s' (fun e a1 s2=>e=.normal∧∃ F,aC F s' s2∧s.next∉F ∧
     ∀ s3,aC [s.next] s2 s3→cN q' X K (some s.next) bd a1 s3 (fun e _ s4=>e=.normal∧∃ F,aC F s3 s4∧s.next∉F∧∀ s5,aC [s.next] s4 s5→LA s5→Ψ (.bool true) s5)) →
    wU q' X K s' (.func (.yield s.next) #[] #[]) args Ψ) →
   okF q X K f (first.toList++[.func (.yield s.next) #[] #[]]++captured.toList) s1 fun _ s'=>Ok s'∧LA s'∧∀ s'',aC [s.next] s' s''→Φ .normal a s''):cN q X K r (.rangeFunc g ps sa bd) a s Φ:=by
 refine aDl hg hlive ?_;have k1:aC [] s (s.new fun v=>.loop .ready none a.tmps a.nt ps sa bd v):=(aC.refl hs).new (.inr (Nat.le_refl _));have hl:MG (s.new fun v=>.loop .ready none a.tmps a.nt ps sa bd v) s.next a ps sa bd:=⟨s.aO,by simp only[St.new,St.put,PT.fC,if_true]⟩;have hx:=h (fun s'=>MG s' s.next a ps sa bd) _ (fun F s' s'' h k hF=>h.aD k hF) k1 (by show s.next<s.next+2;omega) hl ?_
 ·refine hx.mono fun v s' h=>?_;obtain⟨hok,⟨aT,h1⟩,h2⟩:=h;exact⟨_,_,_,_,_,_,_,h1,by simp,h2 _ (.BH hok h1 (.inr (Nat.le_refl _)) (List.mem_singleton.2 rfl))⟩
 ·rintro q' s' args Ψ hs' ⟨aT,hl'⟩ hn hc;rw[MW];refine aE8 hl' (by simpa using hn) ?_;refine hc.mono ?_;rintro e a1 s2 ⟨rfl,F,k2,hF,hb⟩;have h2:=k2.cW _ _ hl' hF;refine⟨rfl,_,_,_,_,_,_,_,h2,?_⟩;refine(hb _ (.BH k2.ok h2 (.inr (Nat.le_refl _)) (List.mem_singleton.2 rfl))).mono ?_;rintro e a4 s4 ⟨rfl,G,k4,hG,h5⟩;have h4:=k4.cW s.next _ (by simp only[St.put,PT.fC,if_true];rfl) hG;refine⟨rfl,_,_,_,_,_,_,_,_,h4,h5 _ (.BH k4.ok h4 (.inr (Nat.le_refl _)) (List.mem_singleton.2 rfl)) ⟨s4.aO,by simp only[St.put,PT.fC,if_true]⟩⟩
theorem Kh (a:aG) (x y:Nat) (v w:Value):({tmps:=tR a.tmps ((#[x,y]:Array Tmp).toList.zip [v,w]),nt:=a.nt}:aG)=(a.put (some x) v).put (some y) w:=rfl
section
variable {kc:Kc} {q:Bool} {s:St} {Φ:Value→St→Prop} {r:Nat} {R:PR}
theorem Qd:type_of% (An @RC<|An @RO<|An @RD<|An @RV<|An @RB<|@RG):=An @RC<|An @RO<|An @RD<|An @RV<|An @RB<|@RG
theorem Ln (hs:Ok s) (hΦ:∀ s',aC [] s s'→Obj s' s.next [ptr r]→s.next<s'.next→Φ (.func (.func 222) #[] #[ptr s.next]) s'):okF q X (KO kc) 160 [ptr r] s Φ:=by
 refine aV rfl c_ rfl (rs:=[.tmp 2]) rfl (N:=4) rfl rfl ?_;refine aA fun bB aF aZ=>?_;simp only[Qd,seval];obtain⟨s1,e1,k1,c1,n1⟩:=cA hs (L:=[ptr r]) (n:=1) (e:=35) rfl;rw[e1];refine aF _ _ ?_;simp only[Qd,seval];exact hΦ _ k1 c1 (by omega)
theorem dV.gO (hs:Ok s) (H:dV s r R):∀ x∈R.bF r,x<s.next:=by
 intro x hx;unfold PR.bF at hx;rcases List.mem_append.1 hx with h | h
 ·simp only[List.mem_cons,List.not_mem_nil,or_false] at h;rcases h with rfl | rfl | rfl
  ·exact H.c.lt hs
  ·exact H.cs.lt hs
  ·exact H.cg.lt hs
 ·exact H.cq.lt hs x h
def kD (p:eW):List Value:=[int p.k,int p.m,int p.i]
theorem PR.tB (R:PR) (h4:R.m≤4) (hq:R.q.length≤64):R.all.length≤192:=R.Qq h4 hq (k:=3) (Nat.le_refl _)
theorem TV (L:List eW):(L.flatMap kD).length=L.length*3:=by
 induction L with
 | nil=>rfl
 | cons p L ih=>rw[List.flatMap_cons,List.length_append,ih];simp[kD];omega
theorem qU:type_of% (An @RX<|An @sx<|An @yD<|An @zU<|An @Fz<|An @mC<|An @IQ<|@Oe):=An @RX<|An @sx<|An @yD<|An @zU<|An @Fz<|An @mC<|An @IQ<|@Oe
theorem Ll (hs:Ok s) (H:dV s r R) (hΦ:∀ v s',bE s' 118 3 v (R.all.flatMap kD)→(∃ a c,v=.slice a R.all.length c)→aC [] s s'→(∀ b∈nameOf v,s.next≤b)→Φ v s'):okF q X (KO kc) 68 [ptr r] s Φ:=by
 refine aV rfl J2 rfl (rs:=[.tmp 2]) rfl (N:=17) rfl rfl ?_;refine aA fun bB aF aZ=>?_;simp only[qU,seval];refine aF _ _ ?_;refine aA fun Ψ1 aE aK=>?_;refine aA fun Ψ2 aH bM=>?_;simp only[qU,seval];refine aJ ?_ (KY H ?_)
 ·simp only[qU,seval]
 try simp only[qU,seval]
 refine aH _ _ ?_;simp only[qU,seval];refine aE _ _ ?_;refine aA fun Ψ3 aM bN=>?_;simp only[qU,seval];obtain⟨s1,e1,k1,c1,n1⟩:=cA hs (L:=[.slice none 0 0]) (n:=1) (e:=115) rfl;rw[e1];refine aM _ _ ?_;refine aA fun Ψ4 aQ bZ=>?_;refine aA fun cP bI cF=>?_;simp only[qU,seval];refine aJ ?_ (Ln (r:=r) k1.ok fun s2 k2 c2 n2=>?_)
 ·simp only[qU,seval]
 try simp only[qU,seval]
 refine bI _ _ ?_;refine cB fun dK bO pA cV=>?_;refine Jk (f:=222) (first:=#[]) (captured:=#[ptr s1.next]) k2.ok ?_ rfl ?_
 ·simp only[qU,seval]
 intro LA s3 ee k3 n3 fw gz;have H3:=H.aL ((k1.trans k2).trans k3);have fF:=(k1.trans k2).trans k3;refine Lo (x:=s1.next) (F:=[s2.next,s.next]) (J:=fun L N s'=>Ok s'∧LA s'∧∃ v,Obj s' s.next [v]∧bE s' 118 3 v (L.flatMap kD)∧nameOf v=N∧∃ a c,v=.slice a L.length c) k3.ok H3 (c2.aD k3 (by simp)) ?_ ?_ ?_ ?_ ?_ ?_ ?_
 ·intro b hb;have:=H.gO hs b hb;simp;omega
 ·simp;omega
 ·simp;omega
 ·rintro L N s' s'' ⟨g0,g1,v,g2,g3,g4,g5⟩ k;exact⟨k.ok,ee _ _ _ g1 k (by simp),v,g2.aD k (by simp),g3.aD k (by simp),g4,g5⟩
 ·rintro L N p s' hL k ⟨g0,g1,v,g2,g3,g4,a,c,rfl⟩ hN hp hv;refine gz false s' _ _ g0 g1 rfl ?_;rw[Kh];obtain⟨t1,e1,k4,d1,m1⟩:=cA g0 (L:=[int 0,int 0,int 0]) (n:=3) (e:=118) rfl;obtain⟨t2,e2,d2,k5⟩:=d1.storeAll k4.ok (vs:=kD p) rfl rfl;unfold kD at e2 d2;have OF:aC [] s' t2:=k4.step k5 fun g hg=>.inr (by rw[List.mem_singleton.1 hg];exact g0.fresh _ (Nat.le_refl _));simp only[qU,seval];rw[e1,e2];simp only[qU,seval];refine⟨[],OF,by simp,fun t3 k6=>?_⟩;have D:=d2.aD k6 (by have:=k.next;simp;omega);have pO:=(g2.aD OF (by simp)).aD k6 (by simp;omega);have l0:=pO.load (i:=0) rfl;have lp:bD t3.look ⟨s'.next,0,none⟩ 3=some [int p.k,int p.m,int p.i]:=D.bD (i:=0) (k:=3) (Nat.le_refl _);obtain⟨t4,e4,k7,d4,m4⟩:=cA k6.ok (L:=[int p.k,int p.m,int p.i]) (n:=3) (e:=118) rfl;obtain⟨w,t5,e5,b5,k8,m5,a5,c5,rfl⟩:=iT (X:=X) (t:=115) (e:=118) (N:=3) (B:=24) (z:=.agg #[int 0,int 0,int 0]) (x:=.slice (some ⟨t3.next,0,none⟩) 1 1) (k:=1) (new:=kD p) (by kernel_rfl) (by kernel_rfl) rfl k7.ok (by omega) (((g3.aD OF (by simp)).aD k6 (fun b hb hb'=>by have:=hN b (by rw[← g4];exact hb);simp at hb';omega)).aD k7 (by simp)) rfl (kT (by omega) (d4.bD (i:=0) (k:=3) (Nat.le_refl _))) rfl rfl (by omega) (by omega);have sI:s.next∉nameOf (.slice a L.length c):=fun h=>by have:=hN _ (by rw[← g4];exact h);omega
  obtain⟨t6,e6,d6,k9⟩:=((pO.aD k7 (by simp)).aD k8 sI).storeAll k8.ok (vs:=[.slice a5 (L.length+1) c5]) rfl rfl;simp only[qU,seval,l0,lp];rw[e4];refine iX ?_ e5 ?_
  ·simp only[qU,seval]
  simp only[qU,seval,e6];have n45:=OF.next;have n6:=k6.next;have n7:=k7.next;have kF:aC (s.next::N) t3 t6:=(k7.any.trans (k8.mono fun x hx=>List.mem_cons_of_mem _ (by rw[← g4];exact hx))).trans (k9.mono fun x hx=>by simp at hx;simp[hx]);have hold:∀ b∈nameOf (.slice a5 (L.length+1) c5),b∈N∨s'.next≤b:=fun b hb=>by
   rcases m5 b hb with h | h
   ·exact .inl (by rw[← g4];exact h)
   ·right;omega
  have hs':=k.next;have hge:∀ b∈nameOf (.slice a5 (L.length+1) c5),s3.next≤b:=fun b hb=>by
   rcases hold b hb with h | h
   ·exact hN b h
   ·omega
  refine⟨s.next::N,kF,?_,fun s5 k10 la=>⟨nameOf (.slice a5 (L.length+1) c5),⟨k10.ok,la,_,d6.aD k10 (by simp;omega),?_,rfl,a5,c5,by rw[List.length_append];rfl⟩,?_,hold⟩⟩
  ·intro h;rcases List.mem_cons.1 h with h | h
   ·omega
   ·have:=hN _ h;omega
  ·rw[List.flatMap_append,List.flatMap_singleton];refine(b5.aD k9 fun b hb hb'=>?_).aD k10 fun b hb hb'=>?_
   ·have:=hge b hb;simp at hb';omega
   ·have:=hge b hb;simp at hb';omega
  ·exact((OF.any.trans (k6.mono fun x hx=>by simp at hx;simp[hx])).trans (kF.mono fun x hx=>List.mem_cons_of_mem _ hx)).trans (k10.mono fun x hx=>by simp at hx;simp[hx])
 ·exact⟨k3.ok,fw,_,(c1.aD k2 (by simp)).aD k3 (by simp),.nil,rfl,none,0,rfl⟩
 ·rintro N s' ⟨g0,g1,v,g2,g3,g4,a,c,rfl⟩ hN k;refine⟨g0,g1,fun s'' k'=>?_⟩;refine bO _ _ (aQ _ _ ?_);have l0:=(g2.aD k' (by simp;omega)).load (i:=0) rfl;simp only[qU,seval,l0];refine hΦ _ _ (g3.aD k' fun b hb hb'=>?_) ⟨_,_,rfl⟩ ?_ fun b hb=>?_
  ·have:=hN b (by rw[← g4];exact hb);simp at hb';omega
  ·exact(fF.step k fun g hg=>.inr (hs.fresh g (by simp at hg;omega))).step k' fun g hg=>.inr (hs.fresh g (by simp at hg;omega))
  ·have:=hN b (by rw[← g4];exact hb);omega
end
open Go.Proofs
set_option maxRecDepth 100000
set_option maxHeartbeats 1000000
def once (l:List Int) (x:Int):List Int:=if l.contains x=true then l else l++[x]
def PR.nU (R:PR) (L:List eW):List Int:=(L.map R.get).foldl once []
def PR.leads (R:PR):List Int:=R.nU R.all
theorem PR.VV (R:PR) (L:List eW) (p:eW):R.nU (L++[p])=once (R.nU L) (R.get p):=by
 unfold nU;rw[List.map_append,List.foldl_append];rfl
theorem PR.VU (R:PR):∀ L:List eW,(R.nU L).length≤L.length:=by
 intro L;have:∀ (l:List Int) acc,(l.foldl once acc).length≤acc.length+l.length:=by
  intro l
  induction l with
  | nil=>intro acc;exact Nat.le_refl _
  | cons x l ih =>
   intro acc;rw[List.foldl_cons,List.length_cons];have h1:=ih (once acc x);have h2:(once acc x).length≤acc.length+1:=by unfold once;split <;> simp
   omega
 have:=this (L.map R.get) [];rw[List.length_map] at this;simpa [nU] using this
section
variable {kc:Kc} {q:Bool} {s:St} {Φ:Value→St→Prop} {r:Nat} {R:PR}
theorem mX:type_of% (An @RX<|An @tg<|An @dF<|An @aW<|An @jE<|@sR):=An @RX<|An @tg<|An @dF<|An @aW<|An @jE<|@sR
theorem aG2 (hs:Ok s) (H:dV s r R) (hΦ:∀ v s',bE s' 3 1 v (R.leads.map int)→(∃ a c,v=.slice a R.leads.length c)→aC [] s s'→(∀ b∈nameOf v,s.next≤b)→Φ v s'):okF q X (KO kc) 71 [ptr r] s Φ:=by
 refine aV rfl J6 rfl (rs:=[.tmp 2]) rfl (N:=26) rfl rfl ?_;refine aA fun bB aF aZ=>?_;simp only[mX,seval];refine aF _ _ ?_;refine aA fun Ψ1 aE aK=>?_;refine aA fun Ψ2 aH bM=>?_;simp only[mX,seval];refine aJ ?_ (KY H ?_)
 ·simp only[mX,seval]
 try simp only[mX,seval]
 refine aH _ _ ?_;simp only[mX,seval];refine aE _ _ ?_;refine aA fun Ψ3 aM bN=>?_;simp only[mX,seval];obtain⟨s1,e1,k1,c1,n1⟩:=cA hs (L:=[.slice none 0 0]) (n:=1) (e:=62) rfl;rw[e1];refine aM _ _ ?_;refine aA fun Ψ4 aQ bZ=>?_;refine aA fun cP bI cF=>?_;simp only[mX,seval];refine aJ ?_ (Ln (r:=r) k1.ok fun s2 k2 c2 n2=>?_)
 ·simp only[mX,seval]
 try simp only[mX,seval]
 refine bI _ _ ?_;refine cB fun dK bO pA cV=>?_;refine Jk (f:=222) (first:=#[]) (captured:=#[ptr s1.next]) k2.ok ?_ rfl ?_
 ·simp only[mX,seval]
 intro LA s3 ee k3 n3 fw gz;have H3:=H.aL ((k1.trans k2).trans k3);have fF:=(k1.trans k2).trans k3;refine Lo (x:=s1.next) (F:=[s2.next,s.next]) (J:=fun L N s'=>Ok s'∧LA s'∧∃ v,Obj s' s.next [v]∧bE s' 3 1 v ((R.nU L).map int)∧nameOf v=N∧∃ a c,v=.slice a (R.nU L).length c) k3.ok H3 (c2.aD k3 (by simp)) ?_ ?_ ?_ ?_ ?_ ?_ ?_
 ·intro b hb;have:=H.gO hs b hb;simp;omega
 ·simp;omega
 ·simp;omega
 ·rintro L N s' s'' ⟨g0,g1,v,g2,g3,g4,g5⟩ k;exact⟨k.ok,ee _ _ _ g1 k (by simp),v,g2.aD k (by simp),g3.aD k (by simp),g4,g5⟩
 ·rintro L N p s' hL k ⟨g0,g1,v,g2,g3,g4,a,c,rfl⟩ hN hp hv;have sI:s.next∉nameOf (.slice a (R.nU L).length c):=fun h=>by have:=hN _ (by rw[← g4];exact h);omega
  have Q1:=R.VU L;have hs':=k.next;have Hp:dV s' r R:=H3.aD k fun b hb=>by have:=H.gO hs b hb;simp;omega
  refine gz false s' _ _ g0 g1 rfl ?_;rw[Kh];simp only[mX,seval];refine⟨[],.refl g0,by simp,fun t3 k6=>?_⟩;have n6:=k6.next;have H6:dV t3 r R:=Hp.aD k6 fun b hb=>by have:=H.gO hs b hb;simp;omega
  have lv:=H6.get hp;have pO:=g2.aD k6 (by simp;omega);have l0:=pO.load (i:=0) rfl;have JF:=g3.aD k6 (fun b hb hb'=>by have:=hN b (by rw[← g4];exact hb);simp at hb';omega);have jm:aC [] t3 (t3.skip 12):=.skip k6.ok 12;refine dH [] [] [] (by kernel_rfl) (by kernel_rfl) (by rfl) fun O hO bK hR=>?_;simp only[mX,seval,l0,lv];refine eQ ?_ (pw (R.get p) (JF.aD jm (by simp)).sl (by omega) jm.ok fun t4 k7=>?_)
  ·simp only[mX,seval]
  have AU:=jm.trans k7;have n37:=AU.next;have l4:=(pO.aD AU (by simp)).load (i:=0) rfl;have lv4:=(H6.aL AU).get hp;have Bt:=JF.aD AU (by simp);cases hc:(R.nU L).contains (R.get p) with
  | true =>
   try simp only[mX,seval]
   refine hR _ _ ?_;simp only[mX,seval];refine⟨[],AU,by simp,fun s5 k10 la=>⟨N,⟨k10.ok,la,_,(pO.aD AU (by simp)).aD k10 (by simp;omega),?_,g4,a,c,?_⟩,?_,fun b hb=>.inl hb⟩⟩
   ·rw[R.VV];unfold once;rw[if_pos hc];exact Bt.aD k10 fun b hb hb'=>by have:=hN b (by rw[← g4];exact hb);simp at hb';omega
   ·rw[R.VV];unfold once;rw[if_pos hc]
   ·exact((k6.mono fun x hx=>by simp at hx;simp[hx]).trans AU.any).trans (k10.mono fun x hx=>by simp at hx;simp[hx])
  | false =>
   try simp only[mX,seval]
   refine hR _ _ ?_;simp only[mX,seval];refine dH [] [] [] (by kernel_rfl) (by kernel_rfl) (by rfl) fun O hO bK hR=>?_;simp only[mX,seval,l4,lv4];obtain⟨t5,e5,k8,d5,n8⟩:∃ S1,(t4.skip 14).put (t4.next+8) (fun v=>bU.cells (PT.ofList [int (R.get p)]) [] 1 3 false false v)=S1∧aC [] t4 S1∧Obj S1 (t4.next+8) [int (R.get p)]∧S1.next=t4.next+14 :=
    ⟨_,rfl,(aC.skip k7.ok 14).pD (k7.ok.fresh _ (by omega)) (by show t4.next+8<t4.next+14;omega) (by omega) (Nat.le_refl _),Obj.pV rfl,rfl⟩
   obtain⟨w,t6,e6,b6,k9,m6,a6,c6,rfl⟩:=iT (X:=X) (t:=62) (e:=3) (N:=1) (B:=8) (z:=.int .i64 0) (x:=.slice (some ⟨t4.next+8,0,none⟩) 1 1) (k:=1) (new:=[int (R.get p)]) (by kernel_rfl) (by kernel_rfl) rfl k8.ok (by omega) (Bt.aD k8 (by simp)) rfl (kT (by omega) (d5.bD (i:=0) (k:=1) (Nat.le_refl _))) rfl rfl (by omega) (by omega);have aAd:s.next∉nameOf (.slice a (R.nU L).length c):=sI;obtain⟨t7,e7,d7,k11⟩:=(((pO.aD AU (by simp)).aD k8 (by simp)).aD k9 aAd).storeAll k9.ok (vs:=[.slice a6 ((R.nU L).length+1) c6]) rfl rfl;rw[e5];refine MY ?_ e6 ?_ ?_
   ·simp only[mX,seval]
   ·simp only[mX,seval]
   simp only[mX,seval,e7];refine hR _ _ ?_;simp only[mX,seval];have n8:=k8.next;have kF:aC (s.next::N) t3 t7:=(((AU.any).trans k8.any).trans (k9.mono fun x hx=>List.mem_cons_of_mem _ (by rw[← g4];exact hx))).trans (k11.mono fun x hx=>by simp at hx;simp[hx]);have hold:∀ b∈nameOf (.slice a6 ((R.nU L).length+1) c6),b∈N∨s'.next≤b:=fun b hb=>by
    rcases m6 b hb with h | h
    ·exact .inl (by rw[← g4];exact h)
    ·right;omega
   have hge:∀ b∈nameOf (.slice a6 ((R.nU L).length+1) c6),s3.next≤b:=fun b hb=>by
    rcases hold b hb with h | h
    ·exact hN b h
    ·omega
   have Ed:R.nU (L++[p])=R.nU L++[R.get p]:=by rw[R.VV];unfold once;rw[if_neg (by rw[hc];simp)]
   refine⟨s.next::N,kF,?_,fun s5 k10 la=>⟨nameOf (.slice a6 ((R.nU L).length+1) c6),⟨k10.ok,la,_,d7.aD k10 (by simp;omega),?_,rfl,a6,c6,by rw[Ed,List.length_append];rfl⟩,?_,hold⟩⟩
   ·intro h;rcases List.mem_cons.1 h with h | h
    ·omega
    ·have:=hN _ h;omega
   ·rw[Ed,List.map_append];refine(b6.aD k11 fun b hb hb'=>?_).aD k10 fun b hb hb'=>?_
    ·have:=hge b hb;simp at hb';omega
    ·have:=hge b hb;simp at hb';omega
   ·exact((k6.mono fun x hx=>by simp at hx;simp[hx]).trans (kF.mono fun x hx=>List.mem_cons_of_mem _ hx)).trans (k10.mono fun x hx=>by simp at hx;simp[hx])
 ·exact⟨k3.ok,fw,_,(c1.aD k2 (by simp)).aD k3 (by simp),.nil,rfl,none,0,rfl⟩
 ·rintro N s' ⟨g0,g1,v,g2,g3,g4,a,c,rfl⟩ hN k;refine⟨g0,g1,fun s'' k'=>?_⟩;refine bO _ _ (aQ _ _ ?_);have l0:=(g2.aD k' (by simp;omega)).load (i:=0) rfl;simp only[mX,seval,l0];refine hΦ _ _ (g3.aD k' fun b hb hb'=>?_) ⟨_,_,rfl⟩ ?_ fun b hb=>?_
  ·have:=hN b (by rw[← g4];exact hb);simp at hb';omega
  ·exact(fF.step k fun g hg=>.inr (hs.fresh g (by simp at hg;omega))).step k' fun g hg=>.inr (hs.fresh g (by simp at hg;omega))
  ·have:=hN b (by rw[← g4];exact hb);omega
end
open Go.Proofs
set_option maxRecDepth 100000
set_option maxHeartbeats 1000000
namespace PH
variable (P:PH)
def aY (a:Int):cI:=if P.has a=true then P.shape a else⟨0,0,0⟩
def cX (a:Int):Nat:=(P.aY a).r.toNat
def ref (a i:Int):Int:=if P.gA a i false=0 then P.w (P.kI a i false).toNat else 0
def refs (a:Int):List Int:=(List.range (P.cX a)).map fun(i:Nat)=>P.ref a i
def soft (k i:Int):Bool:=((i==0)&&((k==1)||(k==2)))||((i==1)&&(k==2))
theorem PZ {P:PH} (G:P.cM) (a:Int):0≤(P.aY a).r∧(P.aY a).r≤15:=by
 unfold aY;split
 ·rename_i h;have:=cI.pZ.1 (G.val a h).1;omega
 ·simp
end PH
section
variable {kc:Kc} {q:Bool} {s:St} {Φ:Value→St→Prop} {h:Nat} {P:PH}
theorem JN (hs:Ok s) (H:bS s h P) (a:Int) (ha:i64 a) (hΦ:∀ s',aC [] s s'→Φ (.tuple #[oW (P.aY a),int (if P.has a=true then 0 else 4)]) s'):okF q X (KO kc) 13 [ptr h,int a] s Φ:=by
 refine X3 hs H a ha fun s' k=>?_;have:=hΦ s' k;unfold PH.aY at this;split
 ·rename_i hh;rw[if_pos hh,if_pos hh] at this;exact this
 ·rename_i hh;rw[if_neg hh,if_neg hh] at this;exact this
theorem FZ (hs:Ok s) (H:bS s h P) (G:P.cM) (a i:Int) (ha:i64 a) (hΦ:∀ s',aC [] s s'→Φ (.tuple #[int (P.ref a i),int (P.gA a i false)]) s'):okF q X (KO kc) 41 [ptr h,int a,int i] s Φ:=X1 hs H G a i ha hΦ
theorem HT:type_of% (An @RX<|An @nD<|An @mI<|An @oE<|@aW):=An @RX<|An @nD<|An @mI<|An @oE<|@aW
theorem aEi (hs:Ok s) (H:bS s h P) (a:Int) (ha:i64 a) (hΦ:∀ s',aC [] s s'→Φ (int (P.aY a).k) s'):okF q X (KO kc) 109 [ptr h,int a] s Φ:=by
 refine aV rfl Yr rfl (rs:=[.tmp 4]) rfl (N:=15) rfl rfl ?_;refine aA fun bB aF aZ=>?_;simp only[HT,seval];refine aF _ _ ?_;refine aA fun Ψ1 aE aK=>?_;simp only[HT,seval];refine aJ ?_ (JN hs H a ha fun s2 k2=>?_)
 ·simp only[HT,seval]
 obtain⟨s3,e3,k3,c3,n3⟩:=cA k2.ok (L:=[int 0,int 0,int 0]) (n:=3) (e:=44) rfl;obtain⟨s4,e4,c4,k4⟩:=c3.storeAll k3.ok (vs:=[int (P.aY a).r,int (P.aY a).d,int (P.aY a).k]) rfl rfl;have rJ:aC [] s2 s4:=k3.step k4 fun g hg=>.inr (by rw[List.mem_singleton.1 hg];exact k2.ok.fresh _ (Nat.le_refl _));simp only[HT,seval];rw[e3,e4];simp only[HT,seval];refine aE _ _ ?_;refine aA fun Ψ2 aH bM=>?_;have l2:aI s4.look ⟨s2.next,2,none⟩=some (int (P.aY a).k):=c4.load rfl;simp only[HT,seval,l2];refine aH _ _ ?_;simp only[HT,seval];exact hΦ _ (k2.trans rJ)
theorem qg:type_of% (An @RC<|An @RO<|An @RD<|An @RV<|An @RB<|@RG):=An @RC<|An @RO<|An @RD<|An @RV<|An @RB<|@RG
theorem aEl (k i:Int) (hΦ:Φ (.bool (PH.soft k i)) s):okF q X (KO kc) 110 [int k,int i] s Φ:=by
 refine aV rfl Ys rfl (rs:=[.tmp 4]) rfl (N:=23) rfl rfl ?_;refine aA fun bB aF aZ=>?_;simp only[qg,seval];refine aF _ _ ?_;refine aA fun Ψ1 aE aK=>?_;refine cK [(2,7),(5,10),(10,15),(13,18)] (by kernel_rfl) fun O hO bK hR=>?_;have y2:∀ a,aN O a 2=bC (a.aB 7):=hO (2,7) (by simp);have y5:∀ a,aN O a 5=bC (a.aB 10):=hO (5,10) (by simp);have re:∀ a,aN O a 10=bC (a.aB 15):=hO (10,15) (by simp);have jK:∀ a,aN O a 13=bC (a.aB 18):=hO (13,18) (by simp);unfold PH.soft at hΦ;cases b0:(i==0) <;> cases b1:(i==1) <;> cases b2:(k==1) <;> cases b3:(k==2)
 all_goals
  rw[b0,b1,b2,b3] at hΦ;simp only[qg,seval,y2,y5,re,jK,b0,b1,b2,b3];refine hR _ _ (aE _ _ ?_);simp only[qg,seval];exact hΦ
theorem jT:type_of% (An @RX<|An @nD<|An @mI<|An @lZ<|An @aW<|@jE):=An @RX<|An @nD<|An @mI<|An @lZ<|An @aW<|@jE
theorem aEj (hs:Ok s) (H:bS s h P) (G:P.cM) (a:Int) (ha:i64 a) (hΦ:∀ v s',bE s' 3 1 v ((P.refs a).map int)→(∃ aa c,v=.slice aa (P.cX a) c)→(∀ b∈nameOf v,s.next≤b)→aC [] s s'→Φ v s'):okF q X (KO kc) 63 [ptr h,int a] s Φ:=by
 obtain⟨g0,Bs⟩:=PH.PZ G a;have hn:((P.cX a:Nat):Int)=(P.aY a).r:=by unfold PH.cX;omega
 refine aV rfl I9 rfl (rs:=[.tmp 4]) rfl (N:=38) rfl rfl ?_;refine aA fun bB aF aZ=>?_;simp only[jT,seval];refine aF _ _ ?_;refine aA fun Ψ1 aE aK=>?_;simp only[jT,seval];refine aJ ?_ (JN hs H a ha fun s2 k2=>?_)
 ·simp only[jT,seval]
 obtain⟨s3,e3,k3,c3,n3⟩:=cA k2.ok (L:=[int 0,int 0,int 0]) (n:=3) (e:=44) rfl;obtain⟨s4,e4,c4,k4⟩:=c3.storeAll k3.ok (vs:=[int (P.aY a).r,int (P.aY a).d,int (P.aY a).k]) rfl rfl;have rJ:aC [] s2 s4:=k3.step k4 fun g hg=>.inr (by rw[List.mem_singleton.1 hg];exact k2.ok.fresh _ (Nat.le_refl _));have iW:=k2.trans rJ;simp only[jT,seval];rw[e3,e4];simp only[jT,seval];refine aE _ _ ?_;refine aA fun Ψ2 aH bM=>?_;have l0:aI s4.look ⟨s2.next,0,none⟩=some (int (P.aY a).r):=c4.load rfl;simp only[jT,seval,l0,← hn,DQ (nm:=s4.next) (n:=(0:Int)) (m:=((P.cX a:Nat):Int)) (by omega) (by omega) (by omega) (by omega),Int.toNat_natCast];refine aH _ _ ?_;obtain⟨s5,e5,k5,b5,n5⟩:∃ S,(s4.new fun v=>bU.cells PT.nil [Value.int IntKind.i64 0] (P.cX a*1) 3 false false v)=S∧aC [] s4 S∧bE S 3 1 (.slice (some ⟨s4.next,0,none⟩) 0 (P.cX a)) []∧S.next=s4.next+2 :=
  ⟨_,rfl,(aC.refl iW.ok).new (.inr (Nat.le_refl _)),.own (Cells.tO (s:=s4) (x:=s4.next) (z:=[int 0]) (n:=P.cX a)) (by simp) (Nat.zero_le _) rfl (by simp),rfl⟩
 rw[e5];have mR:=iW.trans k5;have l5:aI s5.look ⟨s2.next,0,none⟩=some (int (P.aY a).r):=(c4.aD k5 (by simp)).load rfl;refine aA fun Ψ3 aM bN=>?_;refine aA fun Ψ4 aQ bZ=>?_;simp only[jT,seval,l5,← hn];refine aQ _ _ ?_;have Hw:=iW.next;refine cB fun dK bO pA cV=>?_;refine qP (n:=P.cX a) (fun j a' s'=>∃ aa n c,a'.aB 0=ptr h∧a'.aB 1=int a∧a'.aB 7=.slice aa n c∧n=j∧bE s' 3 1 (.slice aa n c) (((P.refs a).take j).map int)∧(∀ b∈nameOf (.slice aa n c),s.next≤b)∧a'.aB 21=int (P.cX a)∧a'.aB 22=int j∧aC [] s s')
  (fun j a' s'=>∃ aa n c,a'.aB 0=ptr h∧a'.aB 1=int a∧a'.aB 7=.slice aa n c∧n=j+1∧bE s' 3 1 (.slice aa n c) (((P.refs a).take (j+1)).map int)∧(∀ b∈nameOf (.slice aa n c),s.next≤b)∧a'.aB 21=int (P.cX a)∧a'.aB 22=int j∧aC [] s s') ?_ ?_ ?_ ?_ (Nat.zero_le _) ?_
 ·rintro j a' s' hj ⟨aa,n,c,r0,r1,r7,mA,hb,hnm,fA,kY,hk⟩ aR bH;simp only[jT,seval,fA,kY];refine bH _ _ (decide ((j:Int)<P.cX a)) ?_ (by simp) ⟨aa,n,c,?_,?_,?_,mA,hb,hnm,?_,?_,hk⟩
  all_goals simp only[jT,seval,r0,r1,r7,fA,kY]
 ·rintro j a' s' hj ⟨aa,n,c,r0,r1,r7,mA,hb,hnm,fA,kY,hk⟩ aR h1 h2 h3;refine aA fun fJ cC eF=>?_;simp only[jT,seval,kY];refine cC _ _ ?_;refine aA fun jC dA iI=>?_;simp only[jT,seval,r0,r1];refine aJ ?_ (FZ hk.ok (H.aL hk) G a (j:Int) ha fun s6 k6=>?_)
  ·simp only[jT,seval]
  simp only[jT,seval];refine dA _ _ ?_;have pP:=hk.trans k6;obtain⟨s7,e7,k7,c7,n7⟩:=cA pP.ok (L:=[int (P.ref a j)]) (n:=1) (e:=3) rfl;have JS:=pP.trans k7;obtain⟨w,s8,e8,b8,k8,m8,a8,c8,rfl⟩:=iT (X:=X) (t:=62) (e:=3) (N:=1) (B:=8) (z:=.int .i64 0) (x:=.slice (some ⟨s6.next,0,none⟩) 1 1) (k:=1) (new:=[int (P.ref a j)]) (by kernel_rfl) (by kernel_rfl) rfl k7.ok (by omega) ((hb.aD k6 (by simp)).aD k7 (by simp)) rfl (kT (by omega) (c7.bD (i:=0) (k:=1) (Nat.le_refl _))) rfl rfl (by omega) (by omega);simp only[jT,seval,r7];rw[e7];refine iX ?_ e8 ?_
  ·simp only[jT,seval]
  simp only[jT,seval];have DA:=JS.next;have DB:(P.refs a).take (j+1)=(P.refs a).take j++[P.ref a j]:=by
   unfold PH.refs;rw[← List.map_take,← List.map_take,List.take_range,List.take_range,Nat.min_eq_left (by omega),Nat.min_eq_left (by omega),List.range_succ,List.map_append]
   try rfl
  refine h1 _ _ ⟨a8,n+1,c8,?_,?_,?_,by omega,?_,?_,?_,?_,JS.step k8 fun g hg=>.inr (hs.fresh _ (hnm g hg))⟩
  ·simp only[jT,seval,r0]
  ·simp only[jT,seval,r1]
  ·simp only[jT,seval]
  ·rw[DB,List.map_append];exact b8
  ·intro b hb';rcases m8 b hb' with h | h
   ·exact hnm b h
   ·omega
  ·simp only[jT,seval,fA]
  ·simp only[jT,seval,kY]
 ·rintro j a' s' hj ⟨aa,n,c,r0,r1,r7,mA,hb,hnm,fA,kY,hk⟩ aR h1;have w:IntKind.i64.wrap ((j:Int)+1)=((j+1:Nat):Int):=by rw[aU (by omega) (by omega)];rfl
  simp only[jT,seval,kY,w];refine h1 _ _ ⟨aa,n,c,?_,?_,?_,mA,hb,hnm,?_,?_,hk⟩
  all_goals simp only[jT,seval,r0,r1,r7,fA]
 ·rintro a' s' ⟨aa,n,c,r0,r1,r7,mA,hb,hnm,fA,kY,hk⟩;refine pA _ _ (aM _ _ ?_);simp only[jT,seval,r7];subst mA;refine hΦ _ _ ?_ ⟨_,_,rfl⟩ hnm hk;rw[List.take_of_length_le (by unfold PH.refs;rw[List.length_map,List.length_range];omega)] at hb;exact hb
 ·refine⟨_,_,_,?_,?_,?_,rfl,b5,?_,?_,?_,mR⟩
  ·simp only[jT,seval]
  ·simp only[jT,seval]
  ·simp only[jT,seval]
   try rfl
  ·intro b hb;simp[nameOf] at hb;omega
  ·simp only[jT,seval]
  ·simp only[jT,seval]
   try rfl
end
open Go.Proofs
set_option maxRecDepth 100000
set_option maxHeartbeats 1000000
namespace PH
variable (P:PH)
def wI (a:Int) (i:Nat):Bool:=!(P.ref a i==0)&&!(PH.soft (P.aY a).k i)
def pW (a:Int) (n:Nat):List Int:=((List.range n).filter (P.wI a)).map fun(i:Nat)=>P.ref a i
def gW (a:Int):List Int:=P.pW a (P.cX a)
theorem qf (a:Int) (n:Nat):P.pW a (n+1)=P.pW a n++if P.wI a n=true then [P.ref a n] else []:=by
 unfold pW;rw[List.range_succ,List.filter_append,List.map_append,List.filter_cons,List.filter_nil];split <;> rfl
theorem Oz (a:Int) (n:Nat):(P.pW a n).length≤n:=by
 unfold pW;rw[List.length_map];have:=List.length_filter_le (P.wI a) (List.range n)
 rwa [List.length_range] at this
end PH
section
variable {kc:Kc} {q:Bool} {s:St} {Φ:Value→St→Prop} {h:Nat} {P:PH}
theorem gY:type_of% (An @RX<|An @nD<|An @mI<|An @dG<|An @dE<|An @aW<|An @oE<|@jE):=An @RX<|An @nD<|An @mI<|An @dG<|An @dE<|An @aW<|An @oE<|@jE
theorem aEm (hs:Ok s) (H:bS s h P) (G:P.cM) (a:Int) (ha:i64 a) (hΦ:∀ v s',bE s' 3 1 v ((P.gW a).map int)→(∃ aa c,v=.slice aa (P.gW a).length c)→(∀ b∈nameOf v,s.next≤b)→aC [] s s'→Φ v s'):okF q X (KO kc) 163 [ptr h,int a] s Φ:=by
 obtain⟨g0,Bs⟩:=PH.PZ G a;have hn:((P.cX a:Nat):Int)=(P.aY a).r:=by unfold PH.cX;omega
 refine aV rfl f_ rfl (rs:=[.tmp 4]) rfl (N:=40) rfl rfl ?_;refine aA fun bB aF aZ=>?_;simp only[gY,seval];refine aF _ _ ?_;refine aA fun Ψ1 aE aK=>?_;simp only[gY,seval];refine aJ ?_ (JN hs H a ha fun s2 k2=>?_)
 ·simp only[gY,seval]
 obtain⟨s3,e3,k3,c3,n3⟩:=cA k2.ok (L:=[int 0,int 0,int 0]) (n:=3) (e:=44) rfl;obtain⟨s4,e4,c4,k4⟩:=c3.storeAll k3.ok (vs:=[int (P.aY a).r,int (P.aY a).d,int (P.aY a).k]) rfl rfl;have rJ:aC [] s2 s4:=k3.step k4 fun g hg=>.inr (by rw[List.mem_singleton.1 hg];exact k2.ok.fresh _ (Nat.le_refl _));have iW:=k2.trans rJ;simp only[gY,seval];rw[e3,e4];simp only[gY,seval];refine aE _ _ ?_;refine aA fun Ψ2 aH bM=>?_;simp only[gY,seval];refine aH _ _ ?_;refine aA fun Ψ3 aM bN=>?_;refine aA fun Ψ4 aQ bZ=>?_;simp only[gY,seval];refine aJ ?_ (aEj iW.ok (H.aL iW) G a ha ?_)
 ·simp only[gY,seval]
 rintro v s5 b5 ⟨va,vc,rfl⟩ aJl k5
 try simp only[gY,seval]
 refine aQ _ _ ?_;have mR:=iW.trans k5;have c5:=c4.aD k5 (by simp);have Hw:=iW.next;refine cB fun dK bO pA cV=>?_;refine qP (n:=P.cX a) (fun j a' s'=>∃ aa n c,a'.aB 0=ptr h∧a'.aB 1=int a∧a'.aB 5=ptr s2.next∧a'.aB 7=.slice aa n c∧n=(P.pW a j).length∧bE s' 3 1 (.slice aa n c) ((P.pW a j).map int)∧(∀ b∈nameOf (.slice aa n c),s5.next≤b)∧a'.aB 18=.slice va (P.cX a) vc∧a'.aB 19=int (P.cX a)∧a'.aB 20=int j∧aC [] s5 s')
  (fun j a' s'=>∃ aa n c,a'.aB 0=ptr h∧a'.aB 1=int a∧a'.aB 5=ptr s2.next∧a'.aB 7=.slice aa n c∧n=(P.pW a (j+1)).length∧bE s' 3 1 (.slice aa n c) ((P.pW a (j+1)).map int)∧(∀ b∈nameOf (.slice aa n c),s5.next≤b)∧a'.aB 18=.slice va (P.cX a) vc∧a'.aB 19=int (P.cX a)∧a'.aB 20=int j∧aC [] s5 s') ?_ ?_ ?_ ?_ (Nat.zero_le _) ?_
 ·rintro j a' s' hj ⟨aa,n,c,r0,r1,r5,r7,mA,hb,hnm,iY,fS,eR,hk⟩ aR bH;simp only[gY,seval,fS,eR];refine bH _ _ (decide ((j:Int)<P.cX a)) ?_ (by simp) ⟨aa,n,c,?_,?_,?_,?_,mA,hb,hnm,?_,?_,?_,hk⟩
  all_goals simp only[gY,seval,r0,r1,r5,r7,iY,fS,eR]
 ·rintro j a' s' hj ⟨aa,n,c,r0,r1,r5,r7,mA,hb,hnm,iY,fS,eR,hk⟩ aR h1 h2 h3;obtain⟨vb,dM,rfl⟩:=b5.sl.addr (show 0<P.cX a by omega);have hle:=P.Oz a j;have g1:(0:Int)≤(j:Int):=Int.natCast_nonneg _;have g2:(j:Int)<((P.cX a:Nat):Int):=by omega
  have lj:aI s'.look ⟨vb,dM+j,none⟩=some (int (P.ref a j)):=by
   refine(b5.sl.aD hk (by simp)).load (i:=j) ?_;rw[List.getElem?_map];unfold PH.refs;rw[List.getElem?_map,List.getElem?_range hj]
   try rfl
  have l2:aI s'.look ⟨s2.next,2,none⟩=some (int (P.aY a).k):=(c5.aD hk (by simp)).load rfl;refine aA fun fJ cC eF=>?_;simp only[gY,seval,iY,eR,g1,g2,and_self,bJ,Int.toNat_natCast,Nat.mul_one,lj];refine cC _ _ ?_;refine aA fun jC dA iI=>?_;refine cK [(2,27)] (by kernel_rfl) fun O hO bK hR=>?_;have y2:∀ a,aN O a 2=bC (a.aB 27):=hO (2,27) (by simp);cases b0:(P.ref a j==0) with
  | true =>
   have hf:P.wI a j=false:=by unfold PH.wI;rw[b0];rfl
   have hst:P.pW a (j+1)=P.pW a j:=by rw[P.qf,if_neg (by rw[hf];simp),List.append_nil]
   simp only[gY,seval,y2,bne,b0];refine hR _ _ (dA _ _ ?_);simp only[gY,seval];refine h1 _ _ ⟨aa,n,c,?_,?_,?_,?_,by rw[hst];exact mA,by rw[hst];exact hb,hnm,?_,?_,?_,hk⟩
   all_goals simp only[gY,seval,r0,r1,r5,r7,iY,fS,eR]
  | false =>
   simp only[gY,seval,y2,bne,b0,r5,l2];refine aJ ?_ (aEl (P.aY a).k (j:Int) ?_)
   ·simp only[gY,seval]
   cases b1:PH.soft (P.aY a).k j with
   | true =>
    have hf:P.wI a j=false:=by unfold PH.wI;rw[b0,b1];rfl
    have hst:P.pW a (j+1)=P.pW a j:=by rw[P.qf,if_neg (by rw[hf];simp),List.append_nil]
    simp only[gY,seval,y2];refine hR _ _ (dA _ _ ?_);simp only[gY,seval];refine h1 _ _ ⟨aa,n,c,?_,?_,?_,?_,by rw[hst];exact mA,by rw[hst];exact hb,hnm,?_,?_,?_,hk⟩
    all_goals simp only[gY,seval,r0,r1,r5,r7,iY,fS,eR]
   | false =>
    have hf:P.wI a j=true:=by unfold PH.wI;rw[b0,b1];rfl
    have hst:P.pW a (j+1)=P.pW a j++[P.ref a j]:=by rw[P.qf,if_pos hf]
    simp only[gY,seval,y2];refine hR _ _ (dA _ _ ?_);obtain⟨s7,e7,k7,c7,n7⟩:=cA hk.ok (L:=[int (P.ref a j)]) (n:=1) (e:=3) rfl;obtain⟨w,s8,e8,b8,k8,m8,a8,c8,rfl⟩:=iT (X:=X) (t:=62) (e:=3) (N:=1) (B:=8) (z:=.int .i64 0) (x:=.slice (some ⟨s'.next,0,none⟩) 1 1) (k:=1) (new:=[int (P.ref a j)]) (by kernel_rfl) (by kernel_rfl) rfl k7.ok (by omega) (hb.aD k7 (by simp)) rfl (kT (by omega) (c7.bD (i:=0) (k:=1) (Nat.le_refl _))) rfl rfl (by omega) (by omega);simp only[gY,seval,r7];rw[e7];refine iX ?_ e8 ?_
    ·simp only[gY,seval]
    simp only[gY,seval];have DA:=(hk.trans k7).next;refine h1 _ _ ⟨a8,n+1,c8,?_,?_,?_,?_,by rw[hst,List.length_append,mA];rfl,by rw[hst,List.map_append];exact b8,?_,?_,?_,?_,(hk.trans k7).step k8 fun g hg=>.inr (k5.ok.fresh _ (hnm g hg))⟩
    ·simp only[gY,seval,r0]
    ·simp only[gY,seval,r1]
    ·simp only[gY,seval,r5]
    ·simp only[gY,seval]
    ·intro b hb';rcases m8 b hb' with h | h
     ·exact hnm b h
     ·omega
    ·simp only[gY,seval,iY]
    ·simp only[gY,seval,fS]
    ·simp only[gY,seval,eR]
 ·rintro j a' s' hj ⟨aa,n,c,r0,r1,r5,r7,mA,hb,hnm,iY,fS,eR,hk⟩ aR h1;have w:IntKind.i64.wrap ((j:Int)+1)=((j+1:Nat):Int):=by rw[aU (by omega) (by omega)];rfl
  simp only[gY,seval,eR,w];refine h1 _ _ ⟨aa,n,c,?_,?_,?_,?_,mA,hb,hnm,?_,?_,?_,hk⟩
  all_goals try simp only[gY,seval,r0,r1,r5,r7,iY,fS]
 ·rintro a' s' ⟨aa,n,c,r0,r1,r5,r7,mA,hb,hnm,iY,fS,eR,hk⟩;refine pA _ _ (aM _ _ ?_);simp only[gY,seval,r7];subst mA;exact hΦ _ _ hb ⟨_,_,rfl⟩ (fun b hb=>by have:=hnm b hb;have:=k5.next;omega) (mR.trans hk)
 ·refine⟨none,0,0,?_,?_,?_,?_,rfl,.nil,by simp[nameOf],?_,?_,?_,.refl mR.ok⟩
  all_goals try simp only[gY,seval]
  all_goals rfl
end
open Go.Proofs
set_option maxRecDepth 100000
set_option maxHeartbeats 1000000
theorem filter_le {l:List Nat} {p q:Nat→Bool} (h:∀ x∈l,q x=true→p x=true):(l.filter q).length≤(l.filter p).length:=by
 induction l with
 | nil=>exact Nat.le_refl _
 | cons x l ih =>
  have:=ih fun y hy=>h y (List.mem_cons_of_mem _ hy);have hx:=h x (List.mem_cons_self ..);rw[List.filter_cons,List.filter_cons];cases hq:q x with
  | true =>
   rw[hx hq,if_pos rfl,if_pos rfl,List.length_cons,List.length_cons];omega
  | false =>
   rw[if_neg (by simp)];split
   ·rw[List.length_cons];omega
   ·exact this
theorem filter_lt {l:List Nat} {p q:Nat→Bool} (h:∀ x∈l,q x=true→p x=true) {y:Nat} (hy:y∈l) (hp:p y=true) (hq:q y=false):(l.filter q).length<(l.filter p).length:=by
 induction l with
 | nil=>cases hy
 | cons x l ih =>
  have hle:=filter_le (l:=l) fun y hy=>h y (List.mem_cons_of_mem _ hy);rw[List.filter_cons,List.filter_cons];rcases List.mem_cons.1 hy with rfl | hy'
  ·rw[hp,hq,if_pos rfl,if_neg (by simp),List.length_cons];omega
  ·have:=ih (fun y hy=>h y (List.mem_cons_of_mem _ hy)) hy';have hx:=h x (List.mem_cons_self ..);cases hq':q x with
   | true =>
    rw[hx hq',if_pos rfl,if_pos rfl,List.length_cons,List.length_cons];omega
   | false =>
    rw[if_neg (by simp)];split
    ·rw[List.length_cons];omega
    ·exact this
namespace PH
variable (P:PH)
def visit:Nat→List Int→Int→List Int
 | 0,K,_=>K
 | n+1,K,a=>if P.has a=true∧K.contains a=false then(P.gW a).foldl (visit n) (K++[a]) else K
def free (K:List Int):Nat:=((List.range (32*P.N)).filter fun(i:Nat)=>!K.contains (2*(i:Int))).length
theorem TX {P:PH} {K K':List Int} (h:∀ x∈K,x∈K'):P.free K'≤P.free K:=by
 refine filter_le fun x _ hx=>?_;rw[Bool.not_eq_true'] at hx ⊢;rw[← Bool.not_eq_true] at hx ⊢;intro hc;exact hx (List.contains_iff_mem.2 (h _ (List.contains_iff_mem.1 hc)))
theorem FM {P:PH} {K:List Int} {a:Int} (ha:P.has a=true) (hK:K.contains a=false):P.free (K++[a])<P.free K:=by
 obtain⟨h1,h2,h3,_⟩:=iN.1 ha;have e:2*((a/2).toNat:Int)=a:=by omega
 refine filter_lt (y:=(a/2).toNat) (fun x _ hx=>?_) (List.mem_range.2 (by omega)) ?_ ?_
 ·rw[Bool.not_eq_true'] at hx ⊢;rw[← Bool.not_eq_true] at hx ⊢;intro hc;exact hx (List.contains_iff_mem.2 (List.mem_append_left _ (List.contains_iff_mem.1 hc)))
 ·simp only[e,hK];rfl
 ·simp only[e];rw[List.contains_iff_mem.2 (List.mem_append_right _ (List.mem_singleton.2 rfl))];rfl
theorem Bm {g:List Int→Int→List Int} (hg:∀ K a x,x∈K→x∈g K a):∀ (l K:List Int),∀ x∈K,x∈l.foldl g K:=by
 intro l
 induction l with
 | nil=>intro K x hx;exact hx
 | cons y l ih=>intro K x hx;exact ih _ _ (hg _ _ _ hx)
theorem Qw:∀ n K a x,x∈K→x∈P.visit n K a:=by
 intro n
 induction n with
 | zero=>intro K a x hx;exact hx
 | succ n ih =>
  intro K a x hx;unfold visit;split
  ·exact Bm ih _ _ _ (List.mem_append_left _ hx)
  ·exact hx
theorem Bl {g:List Int→Int→List Int} (hg:∀ K a,(∀ x∈K,P.has x=true)→∀ x∈g K a,P.has x=true):∀ (l K:List Int),(∀ x∈K,P.has x=true)→∀ x∈l.foldl g K,P.has x=true:=by
 intro l
 induction l with
 | nil=>intro K h;exact h
 | cons y l ih=>intro K h;exact ih _ (hg _ _ h)
theorem aIp:∀ n K a,(∀ x∈K,P.has x=true)→∀ x∈P.visit n K a,P.has x=true:=by
 intro n
 induction n with
 | zero=>intro K a h;exact h
 | succ n ih =>
  intro K a h;unfold visit;split
  ·rename_i hh;refine P.Bl ih _ _ fun x hx=>?_;rcases List.mem_append.1 hx with hx | hx
   ·exact h x hx
   ·rw[List.mem_singleton.1 hx];exact hh.1
  ·exact h
end PH
abbrev keys (K:List Int):List (Int×Value):=K.map fun a=>(a,.bool true)
theorem Fs {K:List Int} {a:Int}:(keys K).lookup a=if K.contains a=true then some (.bool true) else none:=by
 induction K with
 | nil=>rfl
 | cons x K ih =>
  rw[keys,List.map_cons,List.lookup_cons,List.contains_cons];cases hx:a==x with
  | true=>rfl
  | false=>exact ih
theorem jk {s:St} {b:Nat} {K:List Int} (h:iL s b (keys K)) (a:Int):∃ es aO,mapOf s.look b=some (es,aO)∧((K.contains a=false∧mO (int a) es 0=some none)∨(K.contains a=true∧∃ i,mO (int a) es 0=some (some (i,.bool true)))):=by
 obtain⟨es,aO,h1,h2⟩:=h.find a;rw[Fs] at h2;refine⟨es,aO,h1,?_⟩;rcases h2 with ⟨h2,h3⟩ | ⟨v,i,h2,h3⟩
 ·left;refine⟨?_,h3⟩;cases hc:K.contains a with
  | false=>rfl
  | true=>rw[hc] at h2;cases h2
 ·right;cases hc:K.contains a with
  | false=>rw[hc] at h2;cases h2
  | true=>rw[hc] at h2;cases h2;exact⟨rfl,i,h3⟩
theorem aBc {s:St} {b:Nat} {K:List Int} (hs:Ok s) (h:iL s b (keys K)) {a:Int} (ha:K.contains a=false):∃ s',mE X s 121 (.map (some b)) (int a) (.bool true)=some s'∧iL s' b (keys (K++[a]))∧aC [b] s s':=by
 obtain⟨es,aO,aT,h1,h2,FP⟩:=h;rw[ma,h1];simp only;rw[NC h2 (by rw[Fs,ha];rfl)];have kk:aC [b] s (s.put b fun v=>.map (es++[⟨int a,.bool true,aO⟩]) (aO+1) v):=.BH hs h1 (.inr (Nat.le_refl _)) (List.mem_singleton.2 rfl);refine⟨_,rfl,⟨es++[⟨int a,.bool true,aO⟩],aO+1,s.aO,by simp only[St.put,PT.fC,if_true],?_,wj FP⟩,kk⟩;rw[List.map_append,h2,keys,keys,List.map_append,List.map_append]
 try rfl
theorem PH.Kt {s:St} {h:Nat} {P:PH} (H:bS s h P) (a i:Int):i64 (P.ref a i):=by
 unfold PH.ref;split
 ·exact H.wr _
 ·exact⟨by omega,by omega⟩
section
variable {kc:Kc} {q:Bool} {s:St} {Φ:Value→St→Prop} {h:Nat} {P:PH}
structure qD (s:St) (h:Nat) (P:PH) (xh xm xf mb:Nat) (K:List Int):Prop where
 H:bS s h P
 G:P.cM
 oh:Obj s xh [ptr h]
 om:Obj s xm [.map (some mb)]
 of:Obj s xf [.func (.func 162) #[] #[ptr xh,ptr xm,ptr xf]]
 mp:iL s mb (keys K)
 nd:mb∉P.bF h∧mb≠xh∧mb≠xm∧mb≠xf
theorem qD.aD {s s':St} {xh xm xf mb:Nat} {K:List Int} (V:qD s h P xh xm xf mb K) (k:aC [] s s'):qD s' h P xh xm xf mb K:=by
 obtain⟨H,G,oh,om,of,mp,nd⟩:=V;exact⟨H.aL k,G,oh.aD k (by simp),om.aD k (by simp),of.aD k (by simp),mp.aD k (by simp),nd⟩
theorem lB:type_of% (An @RX<|An @kW<|An @VN<|An @VX<|An @ma<|An @dG<|An @dE<|An @aW<|@VO):=An @RX<|An @kW<|An @VN<|An @VX<|An @ma<|An @dG<|An @dE<|An @aW<|@VO
theorem Qv {xh xm xf mb:Nat} {g:List Int→Int→List Int} (hg:∀ K a x,x∈K→x∈g K a) {K:List Int} {a:Int} (hs:Ok s) (V:qD s h P xh xm xf mb K) (ha:i64 a)
  (hrec:∀ K' a' s' Φ',Ok s'→qD s' h P xh xm xf mb K'→P.free K'<P.free K→i64 a'→(∀ s'',qD s'' h P xh xm xf mb (g K' a')→aC [mb] s' s''→Φ' (.tuple #[]) s'')→okF q X (KO kc) 162 [int a',ptr xh,ptr xm,ptr xf] s' Φ')
  (hΦ:∀ s',qD s' h P xh xm xf mb (if P.has a=true∧K.contains a=false then(P.gW a).foldl g (K++[a]) else K)→aC [mb] s s'→Φ (.tuple #[]) s'):okF q X (KO kc) 162 [int a,ptr xh,ptr xm,ptr xf] s Φ:=by
 have l1:aI s.look ⟨xh,0,none⟩=some (ptr h):=V.oh.load rfl;have l2:aI s.look ⟨xm,0,none⟩=some (.map (some mb)):=V.om.load rfl;refine aV rfl e_ rfl (rs:=[]) rfl (N:=30) rfl rfl ?_;refine aA fun Ψ1 aE aK=>?_;refine aA fun Ψ2 aH bM=>?_;refine cK [(4,11)] (by kernel_rfl) fun O hO bK hR=>?_;have y4:∀ a,aN O a 4=bC (a.aB 11):=hO (4,11) (by simp);simp only[lB,seval,l1];refine aJ ?_ (FY hs V.H a ha fun s2 k2=>?_)
 ·simp only[lB,seval]
 have DG:=tM k2 (by simp) l2;have V2:=V.aD k2;cases hh:P.has a with
 | false =>
  rw[if_neg (by rw[hh];simp)] at hΦ;simp only[lB,seval,y4];refine hR _ _ (aH _ _ ?_);simp only[lB,seval];refine aK _ _ _ (by simp) ?_;simp only[lB,seval];exact hΦ _ V2 k2.any
 | true =>
  obtain⟨es,aO,m1,m2⟩:=jk V2.mp a;rcases m2 with ⟨hc,m2⟩ | ⟨hc,i,m2⟩
  ·rw[if_pos ⟨hh,hc⟩] at hΦ;simp only[lB,seval,y4,DG,m1,m2];refine hR _ _ (aH _ _ ?_);simp only[lB,seval];refine aE _ _ ?_;refine aA fun Ψ3 aM bN=>?_;obtain⟨s3,e3,d3,k3⟩:=aBc k2.ok V2.mp hc;simp only[lB,seval,DG,e3];refine aM _ _ ?_;have hmb:=V2.mp.lt k2.ok;have n3:=k3.next;have V3:qD s3 h P xh xm xf mb (K++[a]):=by
    obtain⟨H,G,oh,om,of,mp,n1,n2,n3,n4⟩:=V2;exact⟨H.aD k3 fun x hx hx'=>n1 (by simp at hx';subst hx';exact hx),G,oh.aD k3 (by simpa using Ne.symm n2),om.aD k3 (by simpa using Ne.symm n3),of.aD k3 (by simpa using Ne.symm n4),d3,n1,n2,n3,n4⟩
   have l13:aI s3.look ⟨xh,0,none⟩=some (ptr h):=V3.oh.load rfl;have hfree:=PH.FM hh hc;refine aA fun Ψ4 aQ bZ=>?_;simp only[lB,seval,l13];refine aJ ?_ (aEm k3.ok V3.H V3.G a ha ?_)
   ·simp only[lB,seval]
   rintro v s4 b4 ⟨va,vc,rfl⟩ NU k4;have hlen:(P.gW a).length≤15:=by
    have h1:=P.Oz a (P.cX a);have h2:=(PH.PZ V3.G a).2;have h3:P.cX a≤15:=by unfold PH.cX;omega
    unfold PH.gW;omega
   try simp only[lB,seval]
   refine aQ _ _ ?_;have V4:=V3.aD k4;refine cB fun cP bI oH cF=>?_;refine qP (n:=(P.gW a).length) (fun j a' s'=>a'.aB 1=ptr xh∧a'.aB 2=ptr xm∧a'.aB 3=ptr xf∧a'.aB 20=.slice va (P.gW a).length vc∧a'.aB 21=int (P.gW a).length∧a'.aB 22=int j∧qD s' h P xh xm xf mb (((P.gW a).take j).foldl g (K++[a]))∧aC [mb] s4 s')
    (fun j a' s'=>a'.aB 1=ptr xh∧a'.aB 2=ptr xm∧a'.aB 3=ptr xf∧a'.aB 20=.slice va (P.gW a).length vc∧a'.aB 21=int (P.gW a).length∧a'.aB 22=int j∧qD s' h P xh xm xf mb (((P.gW a).take (j+1)).foldl g (K++[a]))∧aC [mb] s4 s') ?_ ?_ ?_ ?_ (Nat.zero_le _) ?_
   ·rintro j a' s' hj ⟨r1,r2,r3,eR,fA,kY,hV,hk⟩ aR bH;simp only[lB,seval,fA,kY];refine bH _ _ (decide ((j:Int)<(P.gW a).length)) ?_ (by simp) ⟨?_,?_,?_,?_,?_,?_,hV,hk⟩
    all_goals simp only[lB,seval,r1,r2,r3,eR,fA,kY]
   ·rintro j a' s' hj ⟨r1,r2,r3,eR,fA,kY,hV,hk⟩ aR h1 h2 h3;obtain⟨vb,dM,rfl⟩:=b4.sl.addr (show 0<(P.gW a).length by omega);have g1:(0:Int)≤(j:Int):=Int.natCast_nonneg _;have g2:(j:Int)<(((P.gW a).length:Nat):Int):=by omega
    have lj:aI s'.look ⟨vb,dM+j,none⟩=some (int ((P.gW a)[j])):=by
     refine(b4.sl.aD hk fun b hb hb'=>?_).load (i:=j) ?_
     ·have:=NU b hb;simp at hb';omega
     ·rw[List.getElem?_map,List.getElem?_eq_getElem hj];rfl
    have lf:aI s'.look ⟨xf,0,none⟩=some (.func (.func 162) #[] #[ptr xh,ptr xm,ptr xf]):=hV.of.load rfl;have hi:i64 (P.gW a)[j]:=by
     obtain⟨i,hi,he⟩:=List.mem_map.1 (show (P.gW a)[j]∈P.gW a from List.getElem_mem _);rw[← he];exact PH.Kt V.H a i
    have hsub:∀ x∈K++[a],x∈((P.gW a).take j).foldl g (K++[a]):=PH.Bm hg _ _;refine aA fun dK bO cV=>?_;simp only[lB,seval,eR,kY,g1,g2,and_self,bJ,Int.toNat_natCast,Nat.mul_one,lj];refine bO _ _ ?_;simp only[lB,seval,r3,lf];refine HD (fi:=#[]) (ca:=#[ptr xh,ptr xm,ptr xf]) ?_ ?_ (hrec (((P.gW a).take j).foldl g (K++[a])) (P.gW a)[j] s' _ hk.ok hV (Nat.lt_of_le_of_lt (PH.TX hsub) hfree) hi fun s5 V5 k5=>?_)
    ·simp only[lB,seval]
    ·simp only[lB,seval]
    simp only[lB,seval];refine h1 _ _ ⟨?_,?_,?_,?_,?_,?_,?_,hk.trans k5⟩
    all_goals try simp only[lB,seval,r1,r2,r3,eR,fA,kY]
    rw[List.take_add_one,List.getElem?_eq_getElem hj,List.foldl_append];exact V5
   ·rintro j a' s' hj ⟨r1,r2,r3,eR,fA,kY,hV,hk⟩ aR h1;have w:IntKind.i64.wrap ((j:Int)+1)=((j+1:Nat):Int):=by rw[aU (by omega) (by omega)];rfl
    simp only[lB,seval,kY,w];refine h1 _ _ ⟨?_,?_,?_,?_,?_,?_,hV,hk⟩
    all_goals try simp only[lB,seval,r1,r2,r3,eR,fA]
   ·rintro a' s' ⟨r1,r2,r3,eR,fA,kY,hV,hk⟩;refine oH _ _ ?_;simp only[lB,seval];rw[List.take_of_length_le (Nat.le_refl _)] at hV;exact hΦ _ hV ((k2.any.trans k3).trans (k4.any.trans hk))
   ·refine⟨?_,?_,?_,?_,?_,?_,V4,.refl k4.ok⟩
    all_goals try simp only[lB,seval]
    all_goals rfl
  ·rw[if_neg (by rw[hc];simp)] at hΦ;simp only[lB,seval,y4,DG,m1,m2];refine hR _ _ (aH _ _ ?_);simp only[lB,seval];refine aK _ _ _ (by simp) ?_;simp only[lB,seval];exact hΦ _ V2 k2.any
theorem aEn {xh xm xf mb:Nat}:∀ (n:Nat) {K:List Int} {a:Int} {s:St} {Φ:Value→St→Prop} (hs:Ok s) (V:qD s h P xh xm xf mb K) (ha:i64 a) (hn:P.free K≤n) (hΦ:∀ s',qD s' h P xh xm xf mb (P.visit n K a)→aC [mb] s s'→Φ (.tuple #[]) s'),okF q X (KO kc) 162 [int a,ptr xh,ptr xm,ptr xf] s Φ:=by
 intro n
 induction n with
 | zero =>
  intro K a s Φ hs V ha hn hΦ;refine Qv (g:=P.visit 0) (P.Qw 0) hs V ha (fun K' a' s' Φ' _ _ h _ _=>by omega) fun s' V' k'=>?_;refine hΦ s' ?_ k';rw[if_neg] at V'
  ·exact V'
  ·rintro⟨h1,h2⟩;have:=PH.FM h1 h2;omega
 | succ n ih =>
  intro K a s Φ hs V ha hn hΦ;exact Qv (g:=P.visit n) (P.Qw n) hs V ha (fun K' a' s' Φ' hs' V' h hi hh=>ih hs' V' hi (by omega) hh) hΦ
end
end Go.Dust
