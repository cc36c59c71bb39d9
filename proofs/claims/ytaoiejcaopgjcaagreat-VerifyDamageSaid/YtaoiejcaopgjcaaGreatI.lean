/- VerifyDamage walked in D, function by function, and its plain law (R5 R6 R7 L1 L2 L3). -/
import Derived.Test.YtaoiejcaopgjcaaGreatH
import Derived.Test.YtaoiejcaopgjcaaGreatF
set_option linter.unusedVariables false
set_option linter.unusedSimpArgs false
open Nat renaming reduceEqDiff → zA, reduceMul → zB, reduceAdd → zC, reduceBEq → zD
open Int renaming reduceEq → zE, reduceBEq → zF
namespace Go.Dust
open Go.Proofs
set_option maxRecDepth 100000
set_option maxHeartbeats 1000000
namespace PR
variable (R:PR)
def len (k:Nat):Nat:=if k=0 then 16*R.m else if k=1 then 16 else R.q.length
def cW (k i:Nat):eJ:=⟨k,if k=0 then((i/16:Nat):Int) else 0,if k=0 then((i%16:Nat):Int) else i⟩
def one (k i:Nat):List eJ:=if R.get (cW k i)=0 then [] else [cW k i]
def part (k n:Nat):List eJ:=(List.range n).flatMap (R.one k)
def upto (k:Nat):List eJ:=(List.range k).flatMap fun k=>R.part k (R.len k)
def all:List eJ:=R.upto 3
def FB (k:Nat):Value:=if k=0 then .slice (some ⟨R.ns,0,none⟩) (16*R.m) (16*R.m) else if k=1 then .slice (some ⟨R.ng,0,none⟩) 16 16 else .slice R.va R.vn R.vc
theorem ZM (k n:Nat):R.part k (n+1)=R.part k n++R.one k n:=by
 unfold part;rw[List.range_succ,List.flatMap_append];simp
theorem SR (k:Nat):R.upto (k+1)=R.upto k++R.part k (R.len k):=by
 unfold upto;rw[List.range_succ,List.flatMap_append];simp
theorem Mc (k n:Nat):(R.part k n).length≤n:=by
 induction n with
 | zero=>exact Nat.le_refl _
 | succ n ih =>
  rw[ZM,List.length_append];unfold one;split <;> simp <;> omega
theorem aAx (h4:R.m≤4) (hq:R.q.length≤64) (k:Nat):R.len k≤64:=by unfold len;split <;> (try split) <;> omega
theorem Sy (h4:R.m≤4) (hq:R.q.length≤64) {k:Nat} (hk:k≤3):(R.upto k).length≤64*k:=by
 induction k with
 | zero=>exact Nat.le_refl _
 | succ k ih =>
  rw[SR,List.length_append];have:=R.Mc k (R.len k);have:=R.aAx h4 hq k;have:=ih (by omega);omega
theorem PC {k i:Nat} (hk:k<3) (hi:i<R.len k):R.has (cW k i)=true:=by
 unfold len at hi;unfold has cW;rcases(show k=0∨k=1∨k=2 by omega) with rfl | rfl | rfl
 ·simp only[if_true] at hi ⊢;rw[if_pos ⟨rfl,by omega,by omega⟩];exact decide_eq_true (by omega)
 ·simp only[if_true,if_false,Nat.one_ne_zero] at hi ⊢;rw[if_neg (by omega),if_pos ⟨rfl,trivial⟩];exact decide_eq_true (by omega)
 ·simp at hi ⊢;omega
end PR
theorem cV.slot {s:St} {r:Nat} {R:PR} (H:cV s r R) {k i:Nat} (hk:k<3) (hi:i<R.len k):∃ b off c,R.FB k=.slice (some ⟨b,off,none⟩) (R.len k) c∧R.addr (PR.cW k i)=⟨b,off+i,none⟩:=by
 unfold PR.len at hi ⊢;unfold PR.FB PR.addr PR.cW;rcases(show k=0∨k=1∨k=2 by omega) with rfl | rfl | rfl
 ·simp only[if_true] at hi ⊢;refine⟨_,_,_,rfl,?_⟩;rw[if_pos (show ((0:Nat):Int)=0 from rfl)];congr 1;omega
 ·simp only[if_true,if_false,Nat.one_ne_zero] at hi ⊢;refine⟨_,_,_,rfl,?_⟩;rw[if_neg (by omega),if_pos (show ((1:Nat):Int)=1 from rfl)];congr 1;omega
 ·have hq:=H.lq;simp only[if_false,Nat.succ_ne_zero,show ¬ (2:Nat)=1 by omega] at hi ⊢;obtain⟨b,off,e⟩:=H.cq.sl.addr (show 0<R.vn by omega);refine⟨b,off,R.vc,by rw[e,hq],?_⟩;rw[if_neg (by omega),if_neg (by omega),e];simp only[bQ];congr 1
theorem cV.aAw {s:St} {r:Nat} {R:PR} (H:cV s r R) (k:Nat):∃ a c,R.FB k=.slice a (R.len k) c:=by
 unfold PR.len PR.FB;by_cases h0:k=0
 ·rw[if_pos h0,if_pos h0];exact⟨_,_,rfl⟩
 ·rw[if_neg h0,if_neg h0];by_cases h1:k=1
  ·rw[if_pos h1,if_pos h1];exact⟨_,_,rfl⟩
  ·rw[if_neg h1,if_neg h1,← H.lq];exact⟨_,_,rfl⟩
theorem xY.mono {q:Bool} {X:Env} {K:eI} {s:St} {f:Value} {args:List Value} {Ψ aV:Value→St→Prop} (h:xY q X K s f args Ψ) (hm:∀ v s,Ψ v s→aV v s):xY q X K s f args aV:=by
 obtain⟨n,h⟩:=h;exact⟨n,h.mono fun p hp=>hm _ _ hp⟩
section
variable {kc:Kc} {q:Bool} {s:St} {Φ:Value→St→Prop} {r:Nat} {R:PR}
theorem iU:type_of% (B9 @RX @AK @KK @dF @KL @zQ @zf @wE (B9 @EE @dV @JW @tG @tY @zN @lD @vL (B3 @dQ @bG @kL))):=B9 @RX @AK @KK @dF @KL @zQ @zf @wE (B9 @EE @dV @JW @tG @tY @zN @lD @vL (B3 @dQ @bG @kL))
theorem Ns (hs:Ok s) (H:cV s r R) {x:Nat} (hx:Obj s x [ptr r]) {y:Value} {F:List Nat} (hF:∀ b∈R.aS r,b∉F) (Gc:x∉F) (z_:∀ b∈F,b<s.next) {J:List eJ→List Nat→St→Prop} (Dh:∀ L N s' s'',J L N s'→aC [] s' s''→J L N s'')
  (PZ:∀ L N p s',L.length≤192→aC F s s'→J L N s'→(∀ b∈N,s.next≤b)→R.has p=true→R.get p≠0→xY false X (KO kc) s' y [wG p,.pointer (some (R.addr p))] fun v s''=>v=.bool true∧∃ N',J (L++[p]) N' s''∧aC (F++N) s' s''∧∀ b∈N',b∈N∨s'.next≤b)
  (h0:J [] [] s) (hΦ:∀ N s',J R.all N s'→(∀ b∈N,s.next≤b)→aC F s s'→Φ (.tuple #[]) s'):okF q X (KO kc) 222 [y,ptr x] s Φ:=by
 have Fa:=H.m4;have PS:=H.ql;have lx:aG s.look ⟨x,0,none⟩=some (ptr r):=hx.load rfl;refine aW Tryz.func222 (by kernel_rfl) rfl rfl (rs:=[]) rfl (N:=58) rfl rfl ?_;refine aA fun Ψ1 aE aL=>?_;refine dG [] [] [] (by kernel_rfl) (by kernel_rfl) (by rfl) fun O hO bC hR=>?_;simp only[iU,↓reduceIte,zA,zB,zC,lx,H.l1,H.l2,H.l3];refine hR _ _ (aE _ _ ?_);have fr:∀ z,s.next≤z→s.heap.get z=none:=hs.fresh;obtain⟨s1,e1,k1,c1,n1⟩:∃ S1,(s.skip 30).put (s.next+24) (fun v=>bW.cells (PT.ofList [Value.slice (some ⟨R.ns,0,none⟩) (16*R.m) (16*R.m),Value.slice (some ⟨R.ng,0,none⟩) 16 16,Value.slice R.va R.vn R.vc]) [] 3 62 false false v)=S1∧aC [] s S1∧Obj S1 (s.next+24) [R.FB 0,R.FB 1,R.FB 2]∧S1.next=s.next+30 :=
  ⟨_,rfl,(aC.skip hs 30).jT (fr _ (by omega)) (by show s.next+24<s.next+30;omega) (by omega) (Nat.le_refl _),Obj.kC rfl,rfl⟩
 rw[e1];obtain⟨JJ,C0,hJ,hy,A_⟩:∃ JJ:List eJ→St→Prop,(∀ L s',JJ L s'→∃ N,(∀ b∈N,s1.next≤b)∧J L N s')∧(∀ L s' s'',JJ L s'→aC [] s' s''→JJ L s'') ∧
   (∀ L p s',L.length≤192→aC F s1 s'→JJ L s'→R.has p=true→R.get p≠0→xY false X (KO kc) s' y [wG p,.pointer (some (R.addr p))] fun v s''=>v=.bool true∧JJ (L++[p]) s''∧aC F s1 s'')∧JJ [] s1:=by
  refine⟨fun L s'=>∃ N,(∀ b∈N,s1.next≤b)∧J L N s',fun L s' h=>h,fun L s' s'' ⟨N,h1,h2⟩ k=>⟨N,h1,Dh _ _ _ _ h2 k⟩,?_,⟨[],by simp,Dh _ _ _ _ h0 k1⟩⟩;rintro L p s' hL k ⟨N,g1,g2⟩ g3 g4;refine(PZ L N p s' hL (k1.any.trans k) g2 (fun b hb=>by have:=g1 b hb;omega) g3 g4).mono ?_;rintro v s'' ⟨rfl,N',g5,g6,g7⟩;refine⟨rfl,⟨N',fun b hb=>?_,g5⟩,k.step g6 fun g hg=>?_⟩
  ·rcases g7 b hb with h | h
   ·exact g1 b h
   ·have:=k.next;omega
  ·rcases List.mem_append.1 hg with h | h
   ·exact .inl h
   ·exact .inr (k1.ok.fresh _ (g1 g h))
 have F8:s.next+24∉F:=fun h=>by have:=z_ _ h;omega
 refine cJ fun Ψ2 aI xQ bH=>?_;refine rW (n:=3) (fun j a' s'=>a'.aB 0=y∧a'.aB 1=ptr x∧a'.aB 19=.slice (some ⟨s.next+24,0,none⟩) 3 3∧a'.aB 20=int 3∧a'.aB 21=int j∧aC F s1 s'∧JJ (R.upto j) s')
  (fun j a' s'=>a'.aB 0=y∧a'.aB 1=ptr x∧a'.aB 19=.slice (some ⟨s.next+24,0,none⟩) 3 3∧a'.aB 20=int 3∧a'.aB 21=int j∧aC F s1 s'∧JJ (R.upto (j+1)) s') ?_ ?_ ?_ ?_ (Nat.zero_le _) ?_
 ·rintro j a' s' hj ⟨r0,r1,gC,gM,iA,hk,rM⟩ aV bP;simp only[iU,↓reduceIte,gM,iA];refine bP _ _ (decide ((j:Int)<3)) ?_ (by simp;omega) ⟨?_,?_,?_,?_,?_,hk,rM⟩
  all_goals simp only[iU,↓reduceIte,zA,reduceCtorEq,r0,r1,gC,gM,iA]
 ·rintro j a' s' hj ⟨r0,r1,gC,gM,iA,hk,rM⟩ aV h1 h2 h3;have lj:aG s'.look ⟨s.next+24,j,none⟩=some (R.FB j):=by
   have:=c1.aD hk F8;refine this.load ?_;rcases(show j=0∨j=1∨j=2 by omega) with rfl | rfl | rfl <;> rfl
  obtain⟨sa,sc,hsl⟩:=H.aAw j;have g1:(0:Int)≤(j:Int):=Int.natCast_nonneg _;have g2:(j:Int)<((3:Nat):Int):=by omega
  have qI:(j:Int)<3:=g2;refine aA fun Ψ3 aN bM=>?_;simp only[iU,↓reduceIte,zA,gC,iA,g1,g2,and_self,bQ,Int.toNat_natCast,Nat.mul_one,Nat.zero_add,lj];refine aN _ _ ?_;refine aA fun Ψ4 aP cC=>?_;simp only[iU,↓reduceIte,hsl];refine aP _ _ ?_;refine cJ fun cU aZ pU cK=>?_;have hlen:R.len j≤64:=by unfold PR.len;split <;> (try split) <;> omega
  refine rW (n:=R.len j) (fun i a' s'=>a'.aB 0=y∧a'.aB 1=ptr x∧a'.aB 19=.slice (some ⟨s.next+24,0,none⟩) 3 3∧a'.aB 20=int 3∧a'.aB 21=int j∧a'.aB 3=int j∧a'.aB 4=.slice sa (R.len j) sc∧a'.aB 27=int (R.len j)∧a'.aB 28=int i∧aC F s1 s'∧JJ (R.upto j++R.part j i) s')
   (fun i a' s'=>a'.aB 0=y∧a'.aB 1=ptr x∧a'.aB 19=.slice (some ⟨s.next+24,0,none⟩) 3 3∧a'.aB 20=int 3∧a'.aB 21=int j∧a'.aB 3=int j∧a'.aB 4=.slice sa (R.len j) sc∧a'.aB 27=int (R.len j)∧a'.aB 28=int i∧aC F s1 s'∧JJ (R.upto j++R.part j (i+1)) s') ?_ ?_ ?_ ?_ (Nat.zero_le _) ?_
  ·rintro i a' s' hi ⟨r0,r1,gC,gM,iA,r3,r4,kD,nW,hk,rM⟩ aV bP;simp only[iU,↓reduceIte,kD,nW];refine bP _ _ (decide ((i:Int)<R.len j)) ?_ (by simp) ⟨?_,?_,?_,?_,?_,?_,?_,?_,?_,hk,rM⟩
   all_goals simp only[iU,↓reduceIte,zA,reduceCtorEq,r0,r1,gC,gM,iA,r3,r4,kD,nW]
  ·rintro i a' s' hi ⟨r0,r1,gC,gM,iA,r3,r4,kD,nW,hk,rM⟩ aV i1 i2 i3;refine aA fun dN bO cZ=>?_;simp only[iU,↓reduceIte,nW];refine bO _ _ ?_;refine aA fun fE cG dX=>?_;simp only[iU,↓reduceIte,zA,zC,r3];obtain⟨s2,e2,k2,c2,n2⟩:=cI hk.ok (L:=[int 0,int 0,int 0]) (n:=3) (e:=118) rfl;rw[e2];obtain⟨s3,e3,c3,k3⟩:=c2.storeAll k2.ok (vs:=[int j,int 0,int i]) rfl rfl;have lV:aC [] s' s3:=k2.step k3 fun g hg=>.inr (by rw[List.mem_singleton.1 hg];exact hk.ok.fresh _ (Nat.le_refl _));rw[e3];simp only[iU];refine cG _ _ ?_;refine aA fun gV cT gA=>?_;have rest:∀ a4 s4,(a4.aB 0=y∧a4.aB 1=ptr x∧a4.aB 19=.slice (some ⟨s.next+24,0,none⟩) 3 3∧a4.aB 20=int 3∧a4.aB 21=int j∧a4.aB 3=int j∧a4.aB 4=.slice sa (R.len j) sc∧a4.aB 27=int (R.len j)∧a4.aB 28=int i∧a4.aB 5=int i∧a4.aB 6=ptr s'.next)→aC [] s' s4→Obj s4 s'.next [int (PR.cW j i).k,int (PR.cW j i).m,int (PR.cW j i).i]→gV .normal a4 s4:=by
    rintro a4 s4 ⟨r0,r1,gC,gM,iA,r3,r4,kD,nW,r5,r6⟩ k4 c4;refine cT _ _ ?_;have kk:=hk.trans k4.any;have H4:=H.aD (k1.any.trans kk) hF;have hp:=R.PC (k:=j) (by omega) hi;obtain⟨b,off,c,Fu,Dq⟩:=H.slot (k:=j) (by omega) hi;rw[hsl] at Fu;obtain⟨rfl,rfl⟩:sa=some ⟨b,off,none⟩∧sc=c:=by
     injection Fu with q1 q2 q3;exact⟨q1,q3⟩
    have lv:=H4.get hp;rw[Dq] at lv;have lp:bI s4.look ⟨s'.next,0,none⟩ 3=some [int (PR.cW j i).k,int (PR.cW j i).m,int (PR.cW j i).i]:=c4.bI (i:=0) (k:=3) (Nat.le_refl _);have g1:(0:Int)≤(i:Int):=Int.natCast_nonneg _;have g2:(i:Int)<(R.len j:Int):=by omega
    have D0:(R.upto j++R.part j i).length≤192:=by
     rw[List.length_append];have:=R.Mc j i;have:=R.Sy Fa PS (k:=j) (by omega);omega
    refine aA fun lO eG kY=>?_;refine dG [] [] [(5,47)] (by kernel_rfl) (by kernel_rfl) (by rfl) fun O hO bC hR=>?_;have y5:∀ a,aO O a 5=aY (a.aB 47):=hO (5,47) (by simp);by_cases hv:R.get (PR.cW j i)=0
    ·have ev:(R.get (PR.cW j i)==0)=true:=by rw[beq_iff_eq];exact hv
     simp only[iU,↓reduceIte,zA,zB,zC,r4,r5,g1,g2,and_self,bQ,Int.toNat_natCast,Nat.mul_one,lv,y5,ev];refine hR _ _ (eG _ _ ?_);simp only[iU,↓reduceIte];refine i1 _ _ ⟨?_,?_,?_,?_,?_,?_,?_,?_,?_,kk.kI 28,?_⟩
     all_goals try simp only[iU,↓reduceIte,zA,reduceCtorEq,r0,r1,gC,gM,iA,r3,r4,kD,nW]
     rw[R.ZM];unfold PR.one;rw[if_pos hv,List.append_nil];exact hJ _ _ _ rM (k4.kI 28)
    ·have ev:(R.get (PR.cW j i)==0)=false:=by rw[beq_eq_false_iff_ne];exact hv
     simp only[iU,↓reduceIte,zA,reduceCtorEq,zB,zC,r4,r5,g1,g2,and_self,bQ,Int.toNat_natCast,Nat.mul_one,lv,y5,ev,r0,r6,lp];refine aCl (y:=y) (args:=[wG (PR.cW j i),.pointer (some (R.addr (PR.cW j i)))]) ?_ ?_ ?_
     ·simp only[iU,↓reduceIte,zA]
     ·simp only[iU,↓reduceIte,zA,Dq]
     refine(hy _ _ _ D0 (kk.kI 28) (hJ _ _ _ rM (k4.kI 28)) hp hv).mono ?_;rintro v s7 ⟨rfl,B_,k7⟩
     try simp only[iU,↓reduceIte,zA,zC,y5]
     refine hR _ _ (eG _ _ ?_);simp only[iU,↓reduceIte];refine i1 _ _ ⟨?_,?_,?_,?_,?_,?_,?_,?_,?_,k7,?_⟩
     all_goals try simp only[iU,↓reduceIte,zA,reduceCtorEq,r0,r1,gC,gM,iA,r3,r4,kD,nW]
     rw[R.ZM];unfold PR.one;rw[if_neg hv,← List.append_assoc];exact B_
   refine aA fun jC dK iK=>?_;simp only[iU,↓reduceIte,zA,r3];by_cases kf:j=0
   ·have ej:((j:Int)==0)=true:=by rw[beq_iff_eq];omega
    simp only[ej];refine dK _ _ ?_;have w1:IntKind.i64.wrap ((i:Int).tdiv 16)=((i/16:Nat):Int):=by
     rw[Int.tdiv_eq_ediv_of_nonneg (by omega),aU (by omega) (by omega)];omega
    have w2:(i:Int).tmod 16=((i%16:Nat):Int):=by
     rw[Int.tmod_eq_emod_of_nonneg (by omega)];omega
    obtain⟨s5,e5,c5,k5⟩:=c3.store lV.ok (i:=1) (vs:=[int ((i/16:Nat):Int)]) (by simp) rfl;obtain⟨s6,e6,c6,k6⟩:=c5.store k5.ok (i:=2) (vs:=[int ((i%16:Nat):Int)]) (by simp[uX]) rfl;have AF:aC [] s' s6:=lV.step (k5.trans k6) fun g hg=>.inr (by rw[List.mem_singleton.1 hg];exact hk.ok.fresh _ (Nat.le_refl _));simp only[iU,↓reduceIte,zA,zE,zC,w1,w2,e5,Option.getD,e6];refine rest _ _ ⟨?_,?_,?_,?_,?_,?_,?_,?_,?_,?_,?_⟩ AF ?_
    all_goals try simp only[iU,↓reduceIte,zA,reduceCtorEq,r0,r1,gC,gM,iA,r3,r4,kD,nW]
    unfold PR.cW;simp only[if_pos kf];exact c6
   ·have ej:((j:Int)==0)=false:=by rw[beq_eq_false_iff_ne];omega
    simp only[ej];refine dK _ _ ?_;simp only[iU,↓reduceIte];refine rest _ _ ⟨?_,?_,?_,?_,?_,?_,?_,?_,?_,?_,?_⟩ lV ?_
    all_goals try simp only[iU,↓reduceIte,zA,reduceCtorEq,r0,r1,gC,gM,iA,r3,r4,kD,nW]
    unfold PR.cW;simp only[if_neg kf];exact c3
  ·rintro i a' s' hi ⟨r0,r1,gC,gM,iA,r3,r4,kD,nW,hk,rM⟩ aV i1;simp only[iU,↓reduceIte,nW];refine i1 _ _ ⟨?_,?_,?_,?_,?_,?_,?_,?_,?_,hk,rM⟩
   all_goals simp only[iU,↓reduceIte,zA,reduceCtorEq,r0,r1,gC,gM,iA,r3,r4,kD]
   rw[aU (by omega) (by omega)];rfl
  ·rintro a' s' ⟨r0,r1,gC,gM,iA,r3,r4,kD,nW,hk,rM⟩;refine pU _ _ (h1 _ _ ⟨r0,r1,gC,gM,iA,hk,?_⟩);rw[R.SR];exact rM
  ·refine⟨?_,?_,?_,?_,?_,?_,?_,?_,?_,hk,?_⟩
   all_goals try simp only[iU,↓reduceIte,zA,reduceCtorEq,r0,r1,gC,gM,iA]
   ·rfl
   ·rw[show R.part j 0=[] from rfl,List.append_nil];exact rM
 ·rintro j a' s' hj ⟨r0,r1,gC,gM,iA,hk,rM⟩ aV h1;simp only[iU,↓reduceIte,iA];refine h1 _ _ ⟨?_,?_,?_,?_,?_,hk,rM⟩
  all_goals simp only[iU,↓reduceIte,zA,reduceCtorEq,r0,r1,gC,gM]
  rw[aU (by omega) (by omega)];rfl
 ·rintro a' s' ⟨r0,r1,gC,gM,iA,hk,rM⟩;refine xQ _ _ ?_;simp only[iU];obtain⟨N,g1,g2⟩:=C0 _ _ rM;exact hΦ N _ g2 (fun b hb=>by have:=g1 b hb;omega) (k1.any.trans hk)
 ·refine⟨?_,?_,?_,?_,?_,.refl k1.ok,A_⟩
  all_goals simp only[iU,↓reduceIte,zA,reduceCtorEq]
  all_goals rfl
end
open Go.Proofs
set_option maxRecDepth 100000
set_option maxHeartbeats 1000000
def NY (s:St) (l:Nat) (a:aK) (ps:Array Tmp) (sa bd:Code):Prop:=∃ bB,s.heap.get l=some (.loop .ready none a.tmps a.nt ps sa bd bB)
theorem NY.aD {s s':St} {l:Nat} {a:aK} {ps:Array Tmp} {sa bd:Code} {F:List Nat} (h:NY s l a ps sa bd) (k:aC F s s') (hl:l∉F):NY s' l a ps sa bd:=by
 obtain⟨v,h⟩:=h;exact⟨v,k.dE _ _ h hl⟩
theorem Lm {q:Bool} {X:Env} {K:eI} {r:Option Nat} {g:Operand} {ps:Array Tmp} {sa bd:Code} {a:aK} {s:St} {Φ:dU→aK→St→Prop} {f:FuncId} {first captured:Array Value} (hs:Ok s) (hg:a.eval g=.func (.func f) first captured) (hlive:QO r s=true)
  (h:∀ (LA:St→Prop) s1,(∀ F s' s'',LA s'→aC F s' s''→s.next∉F→LA s'')→aC [] s s1→s.next<s1.next→LA s1 →
   (∀ q' s' args Ψ,Ok s'→LA s'→args.length=ps.size →
    cR q' X K (some s.next) sa {tmps:=yA a.tmps (ps.toList.zip args),nt:=a.nt} s' (fun e a1 s2=>e=.normal∧∃ F,aC F s' s2∧s.next∉F ∧
     ∀ s3,aC [s.next] s2 s3→cR q' X K (some s.next) bd a1 s3 (fun e _ s4=>e=.normal∧∃ F,aC F s3 s4∧s.next∉F∧∀ s5,aC [s.next] s4 s5→LA s5→Ψ (.bool true) s5)) →
    xY q' X K s' (.func (.yield s.next) #[] #[]) args Ψ) →
   okF q X K f (first.toList++[.func (.yield s.next) #[] #[]]++captured.toList) s1 fun _ s'=>Ok s'∧LA s'∧∀ s'',aC [s.next] s' s''→Φ .normal a s''):cR q X K r (.rangeFunc g ps sa bd) a s Φ:=by
 refine aCj hg hlive ?_;have k1:aC [] s (s.new fun v=>.loop .ready none a.tmps a.nt ps sa bd v):=(aC.refl hs).new (.inr (Nat.le_refl _));have hl:NY (s.new fun v=>.loop .ready none a.tmps a.nt ps sa bd v) s.next a ps sa bd:=⟨s.aR,by simp only[St.new,PT.fH,if_true]⟩;have hx:=h (fun s'=>NY s' s.next a ps sa bd) _ (fun F s' s'' h k hF=>h.aD k hF) k1 (by show s.next<s.next+2;omega) hl ?_
 ·refine hx.mono fun v s' h=>?_;obtain⟨hok,⟨bB,h1⟩,h2⟩:=h;exact⟨_,_,_,_,_,_,_,h1,by simp,h2 _ (.CE hok h1 (.inr (Nat.le_refl _)) (List.mem_singleton.2 rfl))⟩
 ·rintro q' s' args Ψ hs' ⟨bB,hl'⟩ hn hc;rw[OI];refine aD4 hl' (by simpa using hn) ?_;refine hc.mono ?_;rintro e a1 s2 ⟨rfl,F,k2,hF,hb⟩;have h2:=k2.dE _ _ hl' hF;refine⟨rfl,_,_,_,_,_,_,_,h2,?_⟩;refine(hb _ (.CE k2.ok h2 (.inr (Nat.le_refl _)) (List.mem_singleton.2 rfl))).mono ?_;rintro e a4 s4 ⟨rfl,G,k4,hG,h5⟩;have h4:=k4.dE s.next _ (by simp only[St.put,PT.fH,if_true];rfl) hG;refine⟨rfl,_,_,_,_,_,_,_,_,h4,h5 _ (.CE k4.ok h4 (.inr (Nat.le_refl _)) (List.mem_singleton.2 rfl)) ⟨s4.aR,by simp only[St.put,PT.fH,if_true]⟩⟩
theorem Mm (a:aK) (x y:Nat) (v w:Value):({tmps:=yA a.tmps ((#[x,y]:Array Tmp).toList.zip [v,w]),nt:=a.nt}:aK)=(a.put (some x) v).put (some y) w:=rfl
section
variable {kc:Kc} {q:Bool} {s:St} {Φ:Value→St→Prop} {r:Nat} {R:PR}
theorem Nr (hs:Ok s) (hΦ:∀ s',aC [] s s'→Obj s' s.next [ptr r]→s.next<s'.next→Φ (.func (.func 222) #[] #[ptr s.next]) s'):okF q X (KO kc) 160 [ptr r] s Φ:=by
 refine aW Tryz.func160 (by kernel_rfl) rfl rfl (rs:=[.tmp 2]) rfl (N:=4) rfl rfl ?_;refine aA fun bF aF bD=>?_;simp only[RX,seval];obtain⟨s1,e1,k1,c1,n1⟩:=cI hs (L:=[ptr r]) (n:=1) (e:=35) rfl;rw[e1];refine aF _ _ ?_;simp only[RX,seval];exact hΦ _ k1 c1 (by omega)
theorem cV.eM (hs:Ok s) (H:cV s r R):∀ x∈R.aS r,x<s.next:=by
 intro x hx;unfold PR.aS at hx;rcases List.mem_append.1 hx with h | h
 ·simp only[List.mem_cons,List.not_mem_nil,or_false] at h;rcases h with rfl | rfl | rfl
  ·exact H.c.lt hs
  ·exact H.cs.lt hs
  ·exact H.cg.lt hs
 ·exact H.cq.lt hs x h
def kM (p:eJ):List Value:=[int p.k,int p.m,int p.i]
theorem PR.uI (R:PR) (h4:R.m≤4) (hq:R.q.length≤64):R.all.length≤192:=R.Sy h4 hq (k:=3) (Nat.le_refl _)
theorem OO (L:List eJ):(L.flatMap kM).length=L.length*3:=by
 induction L with
 | nil=>rfl
 | cons p L ih=>rw[List.flatMap_cons,List.length_append,ih];simp[kM];omega
theorem sD:type_of% (B8 @RX @vz @tG @tY @Hv @kL @JZ @Qj):=B8 @RX @vz @tG @tY @Hv @kL @JZ @Qj
theorem ai (hs:Ok s) (H:cV s r R) (hΦ:∀ v s',bJ s' 118 3 v (R.all.flatMap kM)→(∃ a c,v=.slice a R.all.length c)→aC [] s s'→(∀ b∈nameOf v,s.next≤b)→Φ v s'):okF q X (KO kc) 68 [ptr r] s Φ:=by
 refine aW Tryz.func68 (by kernel_rfl) rfl rfl (rs:=[.tmp 2]) rfl (N:=17) rfl rfl ?_;refine aA fun bF aF bD=>?_;simp only[sD,seval];refine aF _ _ ?_;refine aA fun Ψ1 aE aL=>?_;refine aA fun Ψ2 aI bH=>?_;simp only[sD,seval];refine aH ?_ (IT H ?_)
 ·simp only[sD,seval]
 try simp only[sD,seval]
 refine aI _ _ ?_;simp only[sD,seval];refine aE _ _ ?_;refine aA fun Ψ3 aN bM=>?_;simp only[sD,seval];obtain⟨s1,e1,k1,c1,n1⟩:=cI hs (L:=[.slice none 0 0]) (n:=1) (e:=115) rfl;rw[e1];refine aN _ _ ?_;refine aA fun Ψ4 aP cC=>?_;refine aA fun cU aZ cK=>?_;simp only[sD,seval];refine aH ?_ (Nr (r:=r) k1.ok fun s2 k2 c2 n2=>?_)
 ·simp only[sD,seval]
 try simp only[sD,seval]
 refine aZ _ _ ?_;refine cJ fun dN bO oL cZ=>?_;refine Lm (f:=222) (first:=#[]) (captured:=#[ptr s1.next]) k2.ok ?_ rfl ?_
 ·simp only[sD,seval]
 intro LA s3 ja k3 n3 kq mv;have H3:=H.aJ ((k1.trans k2).trans k3);have fC:=(k1.trans k2).trans k3;refine Ns (x:=s1.next) (F:=[s2.next,s.next]) (J:=fun L N s'=>Ok s'∧LA s'∧∃ v,Obj s' s.next [v]∧bJ s' 118 3 v (L.flatMap kM)∧nameOf v=N∧∃ a c,v=.slice a L.length c) k3.ok H3 (c2.aD k3 (by simp)) ?_ ?_ ?_ ?_ ?_ ?_ ?_
 ·intro b hb;have:=H.eM hs b hb;simp;omega
 ·simp;omega
 ·simp;omega
 ·rintro L N s' s'' ⟨g0,g1,v,g2,g3,g4,g5⟩ k;exact⟨k.ok,ja _ _ _ g1 k (by simp),v,g2.aD k (by simp),g3.aD k (by simp),g4,g5⟩
 ·rintro L N p s' hL k ⟨g0,g1,v,g2,g3,g4,a,c,rfl⟩ hN hp hv;refine mv false s' _ _ g0 g1 rfl ?_;rw[Mm];obtain⟨t1,e1,k4,d1,m1⟩:=cI g0 (L:=[int 0,int 0,int 0]) (n:=3) (e:=118) rfl;obtain⟨t2,e2,d2,k5⟩:=d1.storeAll k4.ok (vs:=kM p) rfl rfl;unfold kM at e2 d2;have QI:aC [] s' t2:=k4.step k5 fun g hg=>.inr (by rw[List.mem_singleton.1 hg];exact g0.fresh _ (Nat.le_refl _));simp only[sD,seval];rw[e1,e2];simp only[sD,seval];refine⟨[],QI,by simp,fun t3 k6=>?_⟩;have D:=d2.aD k6 (by have:=k.next;simp;omega);have qI:=(g2.aD QI (by simp)).aD k6 (by simp;omega);have l0:=qI.load (i:=0) rfl;have lp:bI t3.look ⟨s'.next,0,none⟩ 3=some [int p.k,int p.m,int p.i]:=D.bI (i:=0) (k:=3) (Nat.le_refl _);obtain⟨t4,e4,k7,d4,m4⟩:=cI k6.ok (L:=[int p.k,int p.m,int p.i]) (n:=3) (e:=118) rfl;obtain⟨w,t5,e5,b5,k8,m5,a5,c5,rfl⟩:=iE (X:=X) (t:=115) (e:=118) (N:=3) (B:=24) (z:=.agg #[int 0,int 0,int 0]) (x:=.slice (some ⟨t3.next,0,none⟩) 1 1) (k:=1) (new:=kM p) (by kernel_rfl) (by kernel_rfl) rfl k7.ok (by omega) (((g3.aD QI (by simp)).aD k6 (fun b hb hb'=>by have:=hN b (by rw[← g4];exact hb);simp at hb';omega)).aD k7 (by simp)) rfl (lQ (by omega) (d4.bI (i:=0) (k:=3) (Nat.le_refl _))) rfl rfl (by omega) (by omega);have tM:s.next∉nameOf (.slice a L.length c):=fun h=>by have:=hN _ (by rw[← g4];exact h);omega
  obtain⟨t6,e6,d6,k9⟩:=((qI.aD k7 (by simp)).aD k8 tM).storeAll k8.ok (vs:=[.slice a5 (L.length+1) c5]) rfl rfl;simp only[sD,seval,l0,lp];rw[e4];refine iS ?_ e5 ?_
  ·simp only[sD,seval]
  simp only[sD,seval,e6];have n45:=QI.next;have n6:=k6.next;have n7:=k7.next;have kF:aC (s.next::N) t3 t6:=(k7.any.trans (k8.mono fun x hx=>List.mem_cons_of_mem _ (by rw[← g4];exact hx))).trans (k9.mono fun x hx=>by simp at hx;simp[hx]);have hold:∀ b∈nameOf (.slice a5 (L.length+1) c5),b∈N∨s'.next≤b:=fun b hb=>by
   rcases m5 b hb with h | h
   ·exact .inl (by rw[← g4];exact h)
   ·right;omega
  have hs':=k.next;have hge:∀ b∈nameOf (.slice a5 (L.length+1) c5),s3.next≤b:=fun b hb=>by
   rcases hold b hb with h | h
   ·exact hN b h
   ·omega
  refine⟨s.next::N,kF,?_,fun s5 k10 la=>⟨nameOf (.slice a5 (L.length+1) c5),⟨k10.ok,la,_,d6.aD k10 (by simp;omega),?_,rfl,a5,c5,by rw[List.length_append];rfl⟩,?_,hold⟩⟩
  ·intro h;rcases List.mem_cons.1 h with h | h
   ·omega
   ·have:=hN _ h;omega
  ·rw[List.flatMap_append,List.flatMap_singleton];refine(b5.aD k9 fun b hb hb'=>?_).aD k10 fun b hb hb'=>?_
   ·have:=hge b hb;simp at hb';omega
   ·have:=hge b hb;simp at hb';omega
  ·exact((QI.any.trans (k6.mono fun x hx=>by simp at hx;simp[hx])).trans (kF.mono fun x hx=>List.mem_cons_of_mem _ hx)).trans (k10.mono fun x hx=>by simp at hx;simp[hx])
 ·exact⟨k3.ok,kq,_,(c1.aD k2 (by simp)).aD k3 (by simp),.nil,rfl,none,0,rfl⟩
 ·rintro N s' ⟨g0,g1,v,g2,g3,g4,a,c,rfl⟩ hN k;refine⟨g0,g1,fun s'' k'=>?_⟩;refine bO _ _ (aP _ _ ?_);have l0:=(g2.aD k' (by simp;omega)).load (i:=0) rfl;simp only[sD,seval,l0];refine hΦ _ _ (g3.aD k' fun b hb hb'=>?_) ⟨_,_,rfl⟩ ?_ fun b hb=>?_
  ·have:=hN b (by rw[← g4];exact hb);simp at hb';omega
  ·exact(fC.step k fun g hg=>.inr (hs.fresh g (by simp at hg;omega))).step k' fun g hg=>.inr (hs.fresh g (by simp at hg;omega))
  ·have:=hN b (by rw[← g4];exact hb);omega
end
open Go.Proofs
set_option maxRecDepth 100000
set_option maxHeartbeats 1000000
def once (l:List Int) (x:Int):List Int:=if l.contains x=true then l else l++[x]
def PR.nV (R:PR) (L:List eJ):List Int:=(L.map R.get).foldl once []
def PR.leads (R:PR):List Int:=R.nV R.all
theorem PR.XZ (R:PR) (L:List eJ) (p:eJ):R.nV (L++[p])=once (R.nV L) (R.get p):=by
 unfold nV;rw[List.map_append,List.foldl_append];rfl
theorem PR.XY (R:PR):∀ L:List eJ,(R.nV L).length≤L.length:=by
 intro L;have:∀ (l:List Int) acc,(l.foldl once acc).length≤acc.length+l.length:=by
  intro l
  induction l with
  | nil=>intro acc;exact Nat.le_refl _
  | cons x l ih =>
   intro acc;rw[List.foldl_cons,List.length_cons];have h1:=ih (once acc x);have h2:(once acc x).length≤acc.length+1:=by unfold once;split <;> simp
   omega
 have:=this (L.map R.get) [];rw[List.length_map] at this;simpa [nV] using this
section
variable {kc:Kc} {q:Bool} {s:St} {Φ:Value→St→Prop} {r:Nat} {R:PR}
theorem nD:type_of% (B6 @RX @wi @dF @bG @mC @wK):=B6 @RX @wi @dF @bG @mC @wK
theorem aF5 (hs:Ok s) (H:cV s r R) (hΦ:∀ v s',bJ s' 3 1 v (R.leads.map int)→(∃ a c,v=.slice a R.leads.length c)→aC [] s s'→(∀ b∈nameOf v,s.next≤b)→Φ v s'):okF q X (KO kc) 71 [ptr r] s Φ:=by
 refine aW Tryz.func71 (by kernel_rfl) rfl rfl (rs:=[.tmp 2]) rfl (N:=26) rfl rfl ?_;refine aA fun bF aF bD=>?_;simp only[nD,seval];refine aF _ _ ?_;refine aA fun Ψ1 aE aL=>?_;refine aA fun Ψ2 aI bH=>?_;simp only[nD,seval];refine aH ?_ (IT H ?_)
 ·simp only[nD,seval]
 try simp only[nD,seval]
 refine aI _ _ ?_;simp only[nD,seval];refine aE _ _ ?_;refine aA fun Ψ3 aN bM=>?_;simp only[nD,seval];obtain⟨s1,e1,k1,c1,n1⟩:=cI hs (L:=[.slice none 0 0]) (n:=1) (e:=62) rfl;rw[e1];refine aN _ _ ?_;refine aA fun Ψ4 aP cC=>?_;refine aA fun cU aZ cK=>?_;simp only[nD,seval];refine aH ?_ (Nr (r:=r) k1.ok fun s2 k2 c2 n2=>?_)
 ·simp only[nD,seval]
 try simp only[nD,seval]
 refine aZ _ _ ?_;refine cJ fun dN bO oL cZ=>?_;refine Lm (f:=222) (first:=#[]) (captured:=#[ptr s1.next]) k2.ok ?_ rfl ?_
 ·simp only[nD,seval]
 intro LA s3 ja k3 n3 kq mv;have H3:=H.aJ ((k1.trans k2).trans k3);have fC:=(k1.trans k2).trans k3;refine Ns (x:=s1.next) (F:=[s2.next,s.next]) (J:=fun L N s'=>Ok s'∧LA s'∧∃ v,Obj s' s.next [v]∧bJ s' 3 1 v ((R.nV L).map int)∧nameOf v=N∧∃ a c,v=.slice a (R.nV L).length c) k3.ok H3 (c2.aD k3 (by simp)) ?_ ?_ ?_ ?_ ?_ ?_ ?_
 ·intro b hb;have:=H.eM hs b hb;simp;omega
 ·simp;omega
 ·simp;omega
 ·rintro L N s' s'' ⟨g0,g1,v,g2,g3,g4,g5⟩ k;exact⟨k.ok,ja _ _ _ g1 k (by simp),v,g2.aD k (by simp),g3.aD k (by simp),g4,g5⟩
 ·rintro L N p s' hL k ⟨g0,g1,v,g2,g3,g4,a,c,rfl⟩ hN hp hv;have tM:s.next∉nameOf (.slice a (R.nV L).length c):=fun h=>by have:=hN _ (by rw[← g4];exact h);omega
  have KY:=R.XY L;have hs':=k.next;have Hp:cV s' r R:=H3.aD k fun b hb=>by have:=H.eM hs b hb;simp;omega
  refine mv false s' _ _ g0 g1 rfl ?_;rw[Mm];simp only[nD,seval];refine⟨[],.refl g0,by simp,fun t3 k6=>?_⟩;have n6:=k6.next;have H6:cV t3 r R:=Hp.aD k6 fun b hb=>by have:=H.eM hs b hb;simp;omega
  have lv:=H6.get hp;have qI:=g2.aD k6 (by simp;omega);have l0:=qI.load (i:=0) rfl;have GL:=g3.aD k6 (fun b hb hb'=>by have:=hN b (by rw[← g4];exact hb);simp at hb';omega);have LW:aC [] t3 (t3.skip 12):=.skip k6.ok 12;refine dG [] [] [] (by kernel_rfl) (by kernel_rfl) (by rfl) fun O hO bC hR=>?_;simp only[nD,seval,l0,lv];refine dL ?_ (Qe (R.get p) (GL.aD LW (by simp)).sl (by omega) LW.ok fun t4 k7=>?_)
  ·simp only[nD,seval]
  have BR:=LW.trans k7;have n37:=BR.next;have l4:=(qI.aD BR (by simp)).load (i:=0) rfl;have lv4:=(H6.aJ BR).get hp;have iv:=GL.aD BR (by simp);cases hc:(R.nV L).contains (R.get p) with
  | true =>
   try simp only[nD,seval]
   refine hR _ _ ?_;simp only[nD,seval];refine⟨[],BR,by simp,fun s5 k10 la=>⟨N,⟨k10.ok,la,_,(qI.aD BR (by simp)).aD k10 (by simp;omega),?_,g4,a,c,?_⟩,?_,fun b hb=>.inl hb⟩⟩
   ·rw[R.XZ];unfold once;rw[if_pos hc];exact iv.aD k10 fun b hb hb'=>by have:=hN b (by rw[← g4];exact hb);simp at hb';omega
   ·rw[R.XZ];unfold once;rw[if_pos hc]
   ·exact((k6.mono fun x hx=>by simp at hx;simp[hx]).trans BR.any).trans (k10.mono fun x hx=>by simp at hx;simp[hx])
  | false =>
   try simp only[nD,seval]
   refine hR _ _ ?_;simp only[nD,seval];refine dG [] [] [] (by kernel_rfl) (by kernel_rfl) (by rfl) fun O hO bC hR=>?_;simp only[nD,seval,l4,lv4];obtain⟨t5,e5,k8,d5,n8⟩:∃ S1,(t4.skip 14).put (t4.next+8) (fun v=>bW.cells (PT.ofList [int (R.get p)]) [] 1 3 false false v)=S1∧aC [] t4 S1∧Obj S1 (t4.next+8) [int (R.get p)]∧S1.next=t4.next+14 :=
    ⟨_,rfl,(aC.skip k7.ok 14).jT (k7.ok.fresh _ (by omega)) (by show t4.next+8<t4.next+14;omega) (by omega) (Nat.le_refl _),Obj.kC rfl,rfl⟩
   obtain⟨w,t6,e6,b6,k9,m6,a6,c6,rfl⟩:=iE (X:=X) (t:=62) (e:=3) (N:=1) (B:=8) (z:=.int .i64 0) (x:=.slice (some ⟨t4.next+8,0,none⟩) 1 1) (k:=1) (new:=[int (R.get p)]) (by kernel_rfl) (by kernel_rfl) rfl k8.ok (by omega) (iv.aD k8 (by simp)) rfl (lQ (by omega) (d5.bI (i:=0) (k:=1) (Nat.le_refl _))) rfl rfl (by omega) (by omega);have U8:s.next∉nameOf (.slice a (R.nV L).length c):=tM;obtain⟨t7,e7,d7,k11⟩:=(((qI.aD BR (by simp)).aD k8 (by simp)).aD k9 U8).storeAll k9.ok (vs:=[.slice a6 ((R.nV L).length+1) c6]) rfl rfl;rw[e5];refine vJ ?_ e6 ?_ ?_
   ·simp only[nD,seval]
   ·simp only[nD,seval]
   simp only[nD,seval,e7];refine hR _ _ ?_;simp only[nD,seval];have n8:=k8.next;have kF:aC (s.next::N) t3 t7:=(((BR.any).trans k8.any).trans (k9.mono fun x hx=>List.mem_cons_of_mem _ (by rw[← g4];exact hx))).trans (k11.mono fun x hx=>by simp at hx;simp[hx]);have hold:∀ b∈nameOf (.slice a6 ((R.nV L).length+1) c6),b∈N∨s'.next≤b:=fun b hb=>by
    rcases m6 b hb with h | h
    ·exact .inl (by rw[← g4];exact h)
    ·right;omega
   have hge:∀ b∈nameOf (.slice a6 ((R.nV L).length+1) c6),s3.next≤b:=fun b hb=>by
    rcases hold b hb with h | h
    ·exact hN b h
    ·omega
   have Fw:R.nV (L++[p])=R.nV L++[R.get p]:=by rw[R.XZ];unfold once;rw[if_neg (by rw[hc];simp)]
   refine⟨s.next::N,kF,?_,fun s5 k10 la=>⟨nameOf (.slice a6 ((R.nV L).length+1) c6),⟨k10.ok,la,_,d7.aD k10 (by simp;omega),?_,rfl,a6,c6,by rw[Fw,List.length_append];rfl⟩,?_,hold⟩⟩
   ·intro h;rcases List.mem_cons.1 h with h | h
    ·omega
    ·have:=hN _ h;omega
   ·rw[Fw,List.map_append];refine(b6.aD k11 fun b hb hb'=>?_).aD k10 fun b hb hb'=>?_
    ·have:=hge b hb;simp at hb';omega
    ·have:=hge b hb;simp at hb';omega
   ·exact((k6.mono fun x hx=>by simp at hx;simp[hx]).trans (kF.mono fun x hx=>List.mem_cons_of_mem _ hx)).trans (k10.mono fun x hx=>by simp at hx;simp[hx])
 ·exact⟨k3.ok,kq,_,(c1.aD k2 (by simp)).aD k3 (by simp),.nil,rfl,none,0,rfl⟩
 ·rintro N s' ⟨g0,g1,v,g2,g3,g4,a,c,rfl⟩ hN k;refine⟨g0,g1,fun s'' k'=>?_⟩;refine bO _ _ (aP _ _ ?_);have l0:=(g2.aD k' (by simp;omega)).load (i:=0) rfl;simp only[nD,seval,l0];refine hΦ _ _ (g3.aD k' fun b hb hb'=>?_) ⟨_,_,rfl⟩ ?_ fun b hb=>?_
  ·have:=hN b (by rw[← g4];exact hb);simp at hb';omega
  ·exact(fC.step k fun g hg=>.inr (hs.fresh g (by simp at hg;omega))).step k' fun g hg=>.inr (hs.fresh g (by simp at hg;omega))
  ·have:=hN b (by rw[← g4];exact hb);omega
end
open Go.Proofs
set_option maxRecDepth 100000
set_option maxHeartbeats 1000000
namespace PH
variable (P:PH)
def aM (a:Int):cO:=if P.has a=true then P.shape a else⟨0,0,0⟩
def bZ (a:Int):Nat:=(P.aM a).r.toNat
def ref (a i:Int):Int:=if P.dR a i false=0 then P.w (P.dP a i false).toNat else 0
def refs (a:Int):List Int:=(List.range (P.bZ a)).map fun(i:Nat)=>P.ref a i
def soft (k i:Int):Bool:=((i==0)&&((k==1)||(k==2)))||((i==1)&&(k==2))
theorem FA {P:PH} (G:P.bX) (a:Int):0≤(P.aM a).r∧(P.aM a).r≤15:=by
 unfold aM;split
 ·rename_i h;have:=cO.nX.1 (G.val a h).1;omega
 ·simp
end PH
section
variable {kc:Kc} {q:Bool} {s:St} {Φ:Value→St→Prop} {h:Nat} {P:PH}
theorem GY (hs:Ok s) (H:bK s h P) (a:Int) (ha:i64 a) (hΦ:∀ s',aC [] s s'→Φ (.tuple #[pK (P.aM a),int (if P.has a=true then 0 else 4)]) s'):okF q X (KO kc) 13 [ptr h,int a] s Φ:=by
 refine J3 hs H a ha fun s' k=>?_;have:=hΦ s' k;unfold PH.aM at this;split
 ·rename_i hh;rw[if_pos hh,if_pos hh] at this;exact this
 ·rename_i hh;rw[if_neg hh,if_neg hh] at this;exact this
theorem PF (hs:Ok s) (H:bK s h P) (G:P.bX) (a i:Int) (ha:i64 a) (hΦ:∀ s',aC [] s s'→Φ (.tuple #[int (P.ref a i),int (P.dR a i false)]) s'):okF q X (KO kc) 41 [ptr h,int a,int i] s Φ:=J1 hs H G a i ha hΦ
theorem JC:type_of% (B5 @RX @mB @lE @pP @bG):=B5 @RX @mB @lE @pP @bG
theorem aDl (hs:Ok s) (H:bK s h P) (a:Int) (ha:i64 a) (hΦ:∀ s',aC [] s s'→Φ (int (P.aM a).k) s'):okF q X (KO kc) 109 [ptr h,int a] s Φ:=by
 refine aW Tryz.func109 (by kernel_rfl) rfl rfl (rs:=[.tmp 4]) rfl (N:=15) rfl rfl ?_;refine aA fun bF aF bD=>?_;simp only[JC,seval];refine aF _ _ ?_;refine aA fun Ψ1 aE aL=>?_;simp only[JC,seval];refine aH ?_ (GY hs H a ha fun s2 k2=>?_)
 ·simp only[JC,seval]
 obtain⟨s3,e3,k3,c3,n3⟩:=cI k2.ok (L:=[int 0,int 0,int 0]) (n:=3) (e:=44) rfl;obtain⟨s4,e4,c4,k4⟩:=c3.storeAll k3.ok (vs:=[int (P.aM a).r,int (P.aM a).d,int (P.aM a).k]) rfl rfl;have QH:aC [] s2 s4:=k3.step k4 fun g hg=>.inr (by rw[List.mem_singleton.1 hg];exact k2.ok.fresh _ (Nat.le_refl _));simp only[JC,seval];rw[e3,e4];simp only[JC,seval];refine aE _ _ ?_;refine aA fun Ψ2 aI bH=>?_;have l2:aG s4.look ⟨s2.next,2,none⟩=some (int (P.aM a).k):=c4.load rfl;simp only[JC,seval,l2];refine aI _ _ ?_;simp only[JC,seval];exact hΦ _ (k2.trans QH)
theorem Mi (k i:Int) (hΦ:Φ (.bool (PH.soft k i)) s):okF q X (KO kc) 110 [int k,int i] s Φ:=by
 refine aW Tryz.func110 (by kernel_rfl) rfl rfl (rs:=[.tmp 4]) rfl (N:=23) rfl rfl ?_;refine aA fun bF aF bD=>?_;simp only[RX,seval];refine aF _ _ ?_;refine aA fun Ψ1 aE aL=>?_;refine cL [(2,7),(5,10),(10,15),(13,18)] (by kernel_rfl) fun O hO bC hR=>?_;have y2:∀ a,aO O a 2=aY (a.aB 7):=hO (2,7) (by simp);have y5:∀ a,aO O a 5=aY (a.aB 10):=hO (5,10) (by simp);have NR:∀ a,aO O a 10=aY (a.aB 15):=hO (10,15) (by simp);have iV:∀ a,aO O a 13=aY (a.aB 18):=hO (13,18) (by simp);unfold PH.soft at hΦ;cases b0:(i==0) <;> cases b1:(i==1) <;> cases b2:(k==1) <;> cases b3:(k==2)
 all_goals
  rw[b0,b1,b2,b3] at hΦ;simp only[RX,seval,y2,y5,NR,iV,b0,b1,b2,b3];refine hR _ _ (aE _ _ ?_);simp only[RX,seval];exact hΦ
theorem kH:type_of% (B6 @RX @mB @lE @kJ @bG @mC):=B6 @RX @mB @lE @kJ @bG @mC
theorem ZN (hs:Ok s) (H:bK s h P) (G:P.bX) (a:Int) (ha:i64 a) (hΦ:∀ v s',bJ s' 3 1 v ((P.refs a).map int)→(∃ aa c,v=.slice aa (P.bZ a) c)→(∀ b∈nameOf v,s.next≤b)→aC [] s s'→Φ v s'):okF q X (KO kc) 63 [ptr h,int a] s Φ:=by
 obtain⟨g0,g15⟩:=PH.FA G a;have hn:((P.bZ a:Nat):Int)=(P.aM a).r:=by unfold PH.bZ;omega
 refine aW Tryz.func63 (by kernel_rfl) rfl rfl (rs:=[.tmp 4]) rfl (N:=38) rfl rfl ?_;refine aA fun bF aF bD=>?_;simp only[kH,seval];refine aF _ _ ?_;refine aA fun Ψ1 aE aL=>?_;simp only[kH,seval];refine aH ?_ (GY hs H a ha fun s2 k2=>?_)
 ·simp only[kH,seval]
 obtain⟨s3,e3,k3,c3,n3⟩:=cI k2.ok (L:=[int 0,int 0,int 0]) (n:=3) (e:=44) rfl;obtain⟨s4,e4,c4,k4⟩:=c3.storeAll k3.ok (vs:=[int (P.aM a).r,int (P.aM a).d,int (P.aM a).k]) rfl rfl;have QH:aC [] s2 s4:=k3.step k4 fun g hg=>.inr (by rw[List.mem_singleton.1 hg];exact k2.ok.fresh _ (Nat.le_refl _));have kK:=k2.trans QH;simp only[kH,seval];rw[e3,e4];simp only[kH,seval];refine aE _ _ ?_;refine aA fun Ψ2 aI bH=>?_;have l0:aG s4.look ⟨s2.next,0,none⟩=some (int (P.aM a).r):=c4.load rfl;simp only[kH,seval,l0,← hn,EM (nm:=s4.next) (n:=(0:Int)) (m:=((P.bZ a:Nat):Int)) (by omega) (by omega) (by omega) (by omega),Int.toNat_natCast];refine aI _ _ ?_;obtain⟨s5,e5,k5,b5,n5⟩:∃ S,(s4.new fun v=>bW.cells PT.nil [Value.int IntKind.i64 0] (P.bZ a*1) 3 false false v)=S∧aC [] s4 S∧bJ S 3 1 (.slice (some ⟨s4.next,0,none⟩) 0 (P.bZ a)) []∧S.next=s4.next+2 :=
  ⟨_,rfl,(aC.refl kK.ok).new (.inr (Nat.le_refl _)),.own (Cells.uR (s:=s4) (x:=s4.next) (z:=[int 0]) (n:=P.bZ a)) (by simp) (Nat.zero_le _) rfl (by simp),rfl⟩
 rw[e5];have jR:=kK.trans k5;have l5:aG s5.look ⟨s2.next,0,none⟩=some (int (P.aM a).r):=(c4.aD k5 (by simp)).load rfl;refine aA fun Ψ3 aN bM=>?_;refine aA fun Ψ4 aP cC=>?_;simp only[kH,seval,l5,← hn];refine aP _ _ ?_;have Jw:=kK.next;refine cJ fun dN bO oL cZ=>?_;refine rW (n:=P.bZ a) (fun j a' s'=>∃ aa n c,a'.aB 0=ptr h∧a'.aB 1=int a∧a'.aB 7=.slice aa n c∧n=j∧bJ s' 3 1 (.slice aa n c) (((P.refs a).take j).map int)∧(∀ b∈nameOf (.slice aa n c),s.next≤b)∧a'.aB 21=int (P.bZ a)∧a'.aB 22=int j∧aC [] s s')
  (fun j a' s'=>∃ aa n c,a'.aB 0=ptr h∧a'.aB 1=int a∧a'.aB 7=.slice aa n c∧n=j+1∧bJ s' 3 1 (.slice aa n c) (((P.refs a).take (j+1)).map int)∧(∀ b∈nameOf (.slice aa n c),s.next≤b)∧a'.aB 21=int (P.bZ a)∧a'.aB 22=int j∧aC [] s s') ?_ ?_ ?_ ?_ (Nat.zero_le _) ?_
 ·rintro j a' s' hj ⟨aa,n,c,r0,r1,r7,rO,hb,hnm,iA,qS,hk⟩ aV bP;simp only[kH,seval,iA,qS];refine bP _ _ (decide ((j:Int)<P.bZ a)) ?_ (by simp) ⟨aa,n,c,?_,?_,?_,rO,hb,hnm,?_,?_,hk⟩
  all_goals simp only[kH,seval,r0,r1,r7,iA,qS]
 ·rintro j a' s' hj ⟨aa,n,c,r0,r1,r7,rO,hb,hnm,iA,qS,hk⟩ aV h1 h2 h3;refine aA fun fE cG dX=>?_;simp only[kH,seval,qS];refine cG _ _ ?_;refine aA fun gV cT gA=>?_;simp only[kH,seval,r0,r1];refine aH ?_ (PF hk.ok (H.aJ hk) G a (j:Int) ha fun s6 k6=>?_)
  ·simp only[kH,seval]
  simp only[kH,seval];refine cT _ _ ?_;have HC:=hk.trans k6;obtain⟨s7,e7,k7,c7,n7⟩:=cI HC.ok (L:=[int (P.ref a j)]) (n:=1) (e:=3) rfl;have xL:=HC.trans k7;obtain⟨w,s8,e8,b8,k8,m8,a8,c8,rfl⟩:=iE (X:=X) (t:=62) (e:=3) (N:=1) (B:=8) (z:=.int .i64 0) (x:=.slice (some ⟨s6.next,0,none⟩) 1 1) (k:=1) (new:=[int (P.ref a j)]) (by kernel_rfl) (by kernel_rfl) rfl k7.ok (by omega) ((hb.aD k6 (by simp)).aD k7 (by simp)) rfl (lQ (by omega) (c7.bI (i:=0) (k:=1) (Nat.le_refl _))) rfl rfl (by omega) (by omega);simp only[kH,seval,r7];rw[e7];refine iS ?_ e8 ?_
  ·simp only[kH,seval]
  simp only[kH,seval];have zX:=xL.next;have qJ:(P.refs a).take (j+1)=(P.refs a).take j++[P.ref a j]:=by
   unfold PH.refs;rw[← List.map_take,← List.map_take,List.take_range,List.take_range,Nat.min_eq_left (by omega),Nat.min_eq_left (by omega),List.range_succ,List.map_append]
   try rfl
  refine h1 _ _ ⟨a8,n+1,c8,?_,?_,?_,by omega,?_,?_,?_,?_,xL.step k8 fun g hg=>.inr (hs.fresh _ (hnm g hg))⟩
  ·simp only[kH,seval,r0]
  ·simp only[kH,seval,r1]
  ·simp only[kH,seval]
  ·rw[qJ,List.map_append];exact b8
  ·intro b hb';rcases m8 b hb' with h | h
   ·exact hnm b h
   ·omega
  ·simp only[kH,seval,iA]
  ·simp only[kH,seval,qS]
 ·rintro j a' s' hj ⟨aa,n,c,r0,r1,r7,rO,hb,hnm,iA,qS,hk⟩ aV h1;have w:IntKind.i64.wrap ((j:Int)+1)=((j+1:Nat):Int):=by rw[aU (by omega) (by omega)];rfl
  simp only[kH,seval,qS,w];refine h1 _ _ ⟨aa,n,c,?_,?_,?_,rO,hb,hnm,?_,?_,hk⟩
  all_goals simp only[kH,seval,r0,r1,r7,iA]
 ·rintro a' s' ⟨aa,n,c,r0,r1,r7,rO,hb,hnm,iA,qS,hk⟩;refine oL _ _ (aN _ _ ?_);simp only[kH,seval,r7];subst rO;refine hΦ _ _ ?_ ⟨_,_,rfl⟩ hnm hk;rw[List.take_of_length_le (by unfold PH.refs;rw[List.length_map,List.length_range];omega)] at hb;exact hb
 ·refine⟨_,_,_,?_,?_,?_,rfl,b5,?_,?_,?_,jR⟩
  ·simp only[kH,seval]
  ·simp only[kH,seval]
  ·simp only[kH,seval]
   try rfl
  ·intro b hb;simp[nameOf] at hb;omega
  ·simp only[kH,seval]
  ·simp only[kH,seval]
   try rfl
end
open Go.Proofs
set_option maxRecDepth 100000
set_option maxHeartbeats 1000000
namespace PH
variable (P:PH)
def xJ (a:Int) (i:Nat):Bool:=!(P.ref a i==0)&&!(PH.soft (P.aM a).k i)
def qV (a:Int) (n:Nat):List Int:=((List.range n).filter (P.xJ a)).map fun(i:Nat)=>P.ref a i
def iF (a:Int):List Int:=P.qV a (P.bZ a)
theorem tt (a:Int) (n:Nat):P.qV a (n+1)=P.qV a n++if P.xJ a n=true then [P.ref a n] else []:=by
 unfold qV;rw[List.range_succ,List.filter_append,List.map_append,List.filter_cons,List.filter_nil];split <;> rfl
theorem Qv (a:Int) (n:Nat):(P.qV a n).length≤n:=by
 unfold qV;rw[List.length_map];have:=List.length_filter_le (P.xJ a) (List.range n)
 rwa [List.length_range] at this
end PH
section
variable {kc:Kc} {q:Bool} {s:St} {Φ:Value→St→Prop} {h:Nat} {P:PH}
theorem iH:type_of% (B8 @RX @mB @lE @dV @dQ @bG @pP @mC):=B8 @RX @mB @lE @dV @dQ @bG @pP @mC
theorem aDn (hs:Ok s) (H:bK s h P) (G:P.bX) (a:Int) (ha:i64 a) (hΦ:∀ v s',bJ s' 3 1 v ((P.iF a).map int)→(∃ aa c,v=.slice aa (P.iF a).length c)→(∀ b∈nameOf v,s.next≤b)→aC [] s s'→Φ v s'):okF q X (KO kc) 163 [ptr h,int a] s Φ:=by
 obtain⟨g0,g15⟩:=PH.FA G a;have hn:((P.bZ a:Nat):Int)=(P.aM a).r:=by unfold PH.bZ;omega
 refine aW Tryz.func163 (by kernel_rfl) rfl rfl (rs:=[.tmp 4]) rfl (N:=40) rfl rfl ?_;refine aA fun bF aF bD=>?_;simp only[iH,seval];refine aF _ _ ?_;refine aA fun Ψ1 aE aL=>?_;simp only[iH,seval];refine aH ?_ (GY hs H a ha fun s2 k2=>?_)
 ·simp only[iH,seval]
 obtain⟨s3,e3,k3,c3,n3⟩:=cI k2.ok (L:=[int 0,int 0,int 0]) (n:=3) (e:=44) rfl;obtain⟨s4,e4,c4,k4⟩:=c3.storeAll k3.ok (vs:=[int (P.aM a).r,int (P.aM a).d,int (P.aM a).k]) rfl rfl;have QH:aC [] s2 s4:=k3.step k4 fun g hg=>.inr (by rw[List.mem_singleton.1 hg];exact k2.ok.fresh _ (Nat.le_refl _));have kK:=k2.trans QH;simp only[iH,seval];rw[e3,e4];simp only[iH,seval];refine aE _ _ ?_;refine aA fun Ψ2 aI bH=>?_;simp only[iH,seval];refine aI _ _ ?_;refine aA fun Ψ3 aN bM=>?_;refine aA fun Ψ4 aP cC=>?_;simp only[iH,seval];refine aH ?_ (ZN kK.ok (H.aJ kK) G a ha ?_)
 ·simp only[iH,seval]
 rintro v s5 b5 ⟨va,vc,rfl⟩ aI4 k5
 try simp only[iH,seval]
 refine aP _ _ ?_;have jR:=kK.trans k5;have c5:=c4.aD k5 (by simp);have Jw:=kK.next;refine cJ fun dN bO oL cZ=>?_;refine rW (n:=P.bZ a) (fun j a' s'=>∃ aa n c,a'.aB 0=ptr h∧a'.aB 1=int a∧a'.aB 5=ptr s2.next∧a'.aB 7=.slice aa n c∧n=(P.qV a j).length∧bJ s' 3 1 (.slice aa n c) ((P.qV a j).map int)∧(∀ b∈nameOf (.slice aa n c),s5.next≤b)∧a'.aB 18=.slice va (P.bZ a) vc∧a'.aB 19=int (P.bZ a)∧a'.aB 20=int j∧aC [] s5 s')
  (fun j a' s'=>∃ aa n c,a'.aB 0=ptr h∧a'.aB 1=int a∧a'.aB 5=ptr s2.next∧a'.aB 7=.slice aa n c∧n=(P.qV a (j+1)).length∧bJ s' 3 1 (.slice aa n c) ((P.qV a (j+1)).map int)∧(∀ b∈nameOf (.slice aa n c),s5.next≤b)∧a'.aB 18=.slice va (P.bZ a) vc∧a'.aB 19=int (P.bZ a)∧a'.aB 20=int j∧aC [] s5 s') ?_ ?_ ?_ ?_ (Nat.zero_le _) ?_
 ·rintro j a' s' hj ⟨aa,n,c,r0,r1,r5,r7,rO,hb,hnm,oN,gC,gM,hk⟩ aV bP;simp only[iH,seval,gC,gM];refine bP _ _ (decide ((j:Int)<P.bZ a)) ?_ (by simp) ⟨aa,n,c,?_,?_,?_,?_,rO,hb,hnm,?_,?_,?_,hk⟩
  all_goals simp only[iH,seval,r0,r1,r5,r7,oN,gC,gM]
 ·rintro j a' s' hj ⟨aa,n,c,r0,r1,r5,r7,rO,hb,hnm,oN,gC,gM,hk⟩ aV h1 h2 h3;obtain⟨vb,dW,rfl⟩:=b5.sl.addr (show 0<P.bZ a by omega);have hle:=P.Qv a j;have g1:(0:Int)≤(j:Int):=Int.natCast_nonneg _;have g2:(j:Int)<((P.bZ a:Nat):Int):=by omega
  have lj:aG s'.look ⟨vb,dW+j,none⟩=some (int (P.ref a j)):=by
   refine(b5.sl.aD hk (by simp)).load (i:=j) ?_;rw[List.getElem?_map];unfold PH.refs;rw[List.getElem?_map,List.getElem?_range hj]
   try rfl
  have l2:aG s'.look ⟨s2.next,2,none⟩=some (int (P.aM a).k):=(c5.aD hk (by simp)).load rfl;refine aA fun fE cG dX=>?_;simp only[iH,seval,oN,gM,g1,g2,and_self,bQ,Int.toNat_natCast,Nat.mul_one,lj];refine cG _ _ ?_;refine aA fun gV cT gA=>?_;refine cL [(2,27)] (by kernel_rfl) fun O hO bC hR=>?_;have y2:∀ a,aO O a 2=aY (a.aB 27):=hO (2,27) (by simp);cases b0:(P.ref a j==0) with
  | true =>
   have hf:P.xJ a j=false:=by unfold PH.xJ;rw[b0];rfl
   have hst:P.qV a (j+1)=P.qV a j:=by rw[P.tt,if_neg (by rw[hf];simp),List.append_nil]
   simp only[iH,seval,y2,b0];refine hR _ _ (cT _ _ ?_);simp only[iH,seval];refine h1 _ _ ⟨aa,n,c,?_,?_,?_,?_,by rw[hst];exact rO,by rw[hst];exact hb,hnm,?_,?_,?_,hk⟩
   all_goals simp only[iH,seval,r0,r1,r5,r7,oN,gC,gM]
  | false =>
   simp only[iH,seval,y2,b0,r5,l2];refine aH ?_ (Mi (P.aM a).k (j:Int) ?_)
   ·simp only[iH,seval]
   cases b1:PH.soft (P.aM a).k j with
   | true =>
    have hf:P.xJ a j=false:=by unfold PH.xJ;rw[b0,b1];rfl
    have hst:P.qV a (j+1)=P.qV a j:=by rw[P.tt,if_neg (by rw[hf];simp),List.append_nil]
    simp only[iH,seval,y2];refine hR _ _ (cT _ _ ?_);simp only[iH,seval];refine h1 _ _ ⟨aa,n,c,?_,?_,?_,?_,by rw[hst];exact rO,by rw[hst];exact hb,hnm,?_,?_,?_,hk⟩
    all_goals simp only[iH,seval,r0,r1,r5,r7,oN,gC,gM]
   | false =>
    have hf:P.xJ a j=true:=by unfold PH.xJ;rw[b0,b1];rfl
    have hst:P.qV a (j+1)=P.qV a j++[P.ref a j]:=by rw[P.tt,if_pos hf]
    simp only[iH,seval,y2];refine hR _ _ (cT _ _ ?_);obtain⟨s7,e7,k7,c7,n7⟩:=cI hk.ok (L:=[int (P.ref a j)]) (n:=1) (e:=3) rfl;obtain⟨w,s8,e8,b8,k8,m8,a8,c8,rfl⟩:=iE (X:=X) (t:=62) (e:=3) (N:=1) (B:=8) (z:=.int .i64 0) (x:=.slice (some ⟨s'.next,0,none⟩) 1 1) (k:=1) (new:=[int (P.ref a j)]) (by kernel_rfl) (by kernel_rfl) rfl k7.ok (by omega) (hb.aD k7 (by simp)) rfl (lQ (by omega) (c7.bI (i:=0) (k:=1) (Nat.le_refl _))) rfl rfl (by omega) (by omega);simp only[iH,seval,r7];rw[e7];refine iS ?_ e8 ?_
    ·simp only[iH,seval]
    simp only[iH,seval];have zX:=(hk.trans k7).next;refine h1 _ _ ⟨a8,n+1,c8,?_,?_,?_,?_,by rw[hst,List.length_append,rO];rfl,by rw[hst,List.map_append];exact b8,?_,?_,?_,?_,(hk.trans k7).step k8 fun g hg=>.inr (k5.ok.fresh _ (hnm g hg))⟩
    ·simp only[iH,seval,r0]
    ·simp only[iH,seval,r1]
    ·simp only[iH,seval,r5]
    ·simp only[iH,seval]
    ·intro b hb';rcases m8 b hb' with h | h
     ·exact hnm b h
     ·omega
    ·simp only[iH,seval,oN]
    ·simp only[iH,seval,gC]
    ·simp only[iH,seval,gM]
 ·rintro j a' s' hj ⟨aa,n,c,r0,r1,r5,r7,rO,hb,hnm,oN,gC,gM,hk⟩ aV h1;have w:IntKind.i64.wrap ((j:Int)+1)=((j+1:Nat):Int):=by rw[aU (by omega) (by omega)];rfl
  simp only[iH,seval,gM,w];refine h1 _ _ ⟨aa,n,c,?_,?_,?_,?_,rO,hb,hnm,?_,?_,?_,hk⟩
  all_goals try simp only[iH,seval,r0,r1,r5,r7,oN,gC]
 ·rintro a' s' ⟨aa,n,c,r0,r1,r5,r7,rO,hb,hnm,oN,gC,gM,hk⟩;refine oL _ _ (aN _ _ ?_);simp only[iH,seval,r7];subst rO;exact hΦ _ _ hb ⟨_,_,rfl⟩ (fun b hb=>by have:=hnm b hb;have:=k5.next;omega) (jR.trans hk)
 ·refine⟨none,0,0,?_,?_,?_,?_,rfl,.nil,by simp[nameOf],?_,?_,?_,.refl jR.ok⟩
  all_goals try simp only[iH,seval]
  all_goals rfl
end
open Go.Proofs
set_option maxRecDepth 100000
set_option maxHeartbeats 1000000
theorem filter_le {l:List Nat} {p q:Nat→Bool} (h:∀ x∈l,q x=true→p x=true):(l.filter q).length≤(l.filter p).length:=by
 induction l with
 | nil=>exact Nat.le_refl _
 | cons x l ih =>
  have:=ih fun y hy=>h y (List.mem_cons_of_mem _ hy);have hx:=h x (List.mem_cons_self ..);rw[List.filter_cons,List.filter_cons];cases hq:q x with
  | true =>
   rw[hx hq,if_pos rfl,if_pos rfl,List.length_cons,List.length_cons];omega
  | false =>
   rw[if_neg (by simp)];split
   ·rw[List.length_cons];omega
   ·exact this
theorem filter_lt {l:List Nat} {p q:Nat→Bool} (h:∀ x∈l,q x=true→p x=true) {y:Nat} (hy:y∈l) (hp:p y=true) (hq:q y=false):(l.filter q).length<(l.filter p).length:=by
 induction l with
 | nil=>cases hy
 | cons x l ih =>
  have hle:=filter_le (l:=l) fun y hy=>h y (List.mem_cons_of_mem _ hy);rw[List.filter_cons,List.filter_cons];rcases List.mem_cons.1 hy with rfl | hy'
  ·rw[hp,hq,if_pos rfl,if_neg (by simp),List.length_cons];omega
  ·have:=ih (fun y hy=>h y (List.mem_cons_of_mem _ hy)) hy';have hx:=h x (List.mem_cons_self ..);cases hq':q x with
   | true =>
    rw[hx hq',if_pos rfl,if_pos rfl,List.length_cons,List.length_cons];omega
   | false =>
    rw[if_neg (by simp)];split
    ·rw[List.length_cons];omega
    ·exact this
namespace PH
variable (P:PH)
def visit:Nat→List Int→Int→List Int
 | 0,K,_=>K
 | n+1,K,a=>if P.has a=true∧K.contains a=false then(P.iF a).foldl (visit n) (K++[a]) else K
def free (K:List Int):Nat:=((List.range (32*P.N)).filter fun(i:Nat)=>!K.contains (2*(i:Int))).length
theorem Cx {P:PH} {K K':List Int} (h:∀ x∈K,x∈K'):P.free K'≤P.free K:=by
 refine filter_le fun x _ hx=>?_;rw[Bool.not_eq_true'] at hx ⊢;rw[← Bool.not_eq_true] at hx ⊢;intro hc;exact hx (List.contains_iff_mem.2 (h _ (List.contains_iff_mem.1 hc)))
theorem OV {P:PH} {K:List Int} {a:Int} (ha:P.has a=true) (hK:K.contains a=false):P.free (K++[a])<P.free K:=by
 obtain⟨h1,h2,h3,_⟩:=jG.1 ha;have e:2*((a/2).toNat:Int)=a:=by omega
 refine filter_lt (y:=(a/2).toNat) (fun x _ hx=>?_) (List.mem_range.2 (by omega)) ?_ ?_
 ·rw[Bool.not_eq_true'] at hx ⊢;rw[← Bool.not_eq_true] at hx ⊢;intro hc;exact hx (List.contains_iff_mem.2 (List.mem_append_left _ (List.contains_iff_mem.1 hc)))
 ·simp only[e,hK];rfl
 ·simp only[e];rw[List.contains_iff_mem.2 (List.mem_append_right _ (List.mem_singleton.2 rfl))];rfl
theorem Cs {g:List Int→Int→List Int} (hg:∀ K a x,x∈K→x∈g K a):∀ (l K:List Int),∀ x∈K,x∈l.foldl g K:=by
 intro l
 induction l with
 | nil=>intro K x hx;exact hx
 | cons y l ih=>intro K x hx;exact ih _ _ (hg _ _ _ hx)
theorem Ti:∀ n K a x,x∈K→x∈P.visit n K a:=by
 intro n
 induction n with
 | zero=>intro K a x hx;exact hx
 | succ n ih =>
  intro K a x hx;unfold visit;split
  ·exact Cs ih _ _ _ (List.mem_append_left _ hx)
  ·exact hx
theorem Cr {g:List Int→Int→List Int} (hg:∀ K a,(∀ x∈K,P.has x=true)→∀ x∈g K a,P.has x=true):∀ (l K:List Int),(∀ x∈K,P.has x=true)→∀ x∈l.foldl g K,P.has x=true:=by
 intro l
 induction l with
 | nil=>intro K h;exact h
 | cons y l ih=>intro K h;exact ih _ (hg _ _ h)
theorem aHc:∀ n K a,(∀ x∈K,P.has x=true)→∀ x∈P.visit n K a,P.has x=true:=by
 intro n
 induction n with
 | zero=>intro K a h;exact h
 | succ n ih =>
  intro K a h;unfold visit;split
  ·rename_i hh;refine P.Cr ih _ _ fun x hx=>?_;rcases List.mem_append.1 hx with hx | hx
   ·exact h x hx
   ·rw[List.mem_singleton.1 hx];exact hh.1
  ·exact h
end PH
abbrev keys (K:List Int):List (Int×Value):=K.map fun a=>(a,.bool true)
theorem Hg {K:List Int} {a:Int}:(keys K).lookup a=if K.contains a=true then some (.bool true) else none:=by
 induction K with
 | nil=>rfl
 | cons x K ih =>
  rw[keys,List.map_cons,List.lookup_cons,List.contains_cons];cases hx:a==x with
  | true=>rfl
  | false=>exact ih
theorem XN {s:St} {b:Nat} {K:List Int} (h:fV s b (keys K)) (a:Int):∃ es aR,mapOf s.look b=some (es,aR)∧((K.contains a=false∧mE (int a) es 0=some none)∨(K.contains a=true∧∃ i,mE (int a) es 0=some (some (i,.bool true)))):=by
 obtain⟨es,aR,h1,h2⟩:=h.find a;rw[Hg] at h2;refine⟨es,aR,h1,?_⟩;rcases h2 with ⟨h2,h3⟩ | ⟨v,i,h2,h3⟩
 ·left;refine⟨?_,h3⟩;cases hc:K.contains a with
  | false=>rfl
  | true=>rw[hc] at h2;cases h2
 ·right;cases hc:K.contains a with
  | false=>rw[hc] at h2;cases h2
  | true=>rw[hc] at h2;cases h2;exact⟨rfl,i,h3⟩
theorem aAa {s:St} {b:Nat} {K:List Int} (hs:Ok s) (h:fV s b (keys K)) {a:Int} (ha:K.contains a=false):∃ s',mJ X s 121 (.map (some b)) (int a) (.bool true)=some s'∧fV s' b (keys (K++[a]))∧aC [b] s s':=by
 obtain⟨es,aR,bB,h1,h2,GP⟩:=h;rw[qn,h1];simp only;rw[OM h2 (by rw[Hg,ha];rfl)];have kk:aC [b] s (s.put b fun v=>.map (es++[⟨int a,.bool true,aR⟩]) (aR+1) v):=.CE hs h1 (.inr (Nat.le_refl _)) (List.mem_singleton.2 rfl);refine⟨_,rfl,⟨es++[⟨int a,.bool true,aR⟩],aR+1,s.aR,by simp only[St.put,PT.fH,if_true],?_,yx GP⟩,kk⟩;rw[List.map_append,h2,keys,keys,List.map_append,List.map_append]
 try rfl
theorem PH.RT {s:St} {h:Nat} {P:PH} (H:bK s h P) (a i:Int):i64 (P.ref a i):=by
 unfold PH.ref;split
 ·exact H.wr _
 ·exact⟨by omega,by omega⟩
section
variable {kc:Kc} {q:Bool} {s:St} {Φ:Value→St→Prop} {h:Nat} {P:PH}
structure rF (s:St) (h:Nat) (P:PH) (xh xm xf mb:Nat) (K:List Int):Prop where
 H:bK s h P
 G:P.bX
 oh:Obj s xh [ptr h]
 om:Obj s xm [.map (some mb)]
 of:Obj s xf [.func (.func 162) #[] #[ptr xh,ptr xm,ptr xf]]
 mp:fV s mb (keys K)
 nd:mb∉P.aS h∧mb≠xh∧mb≠xm∧mb≠xf
theorem rF.aD {s s':St} {xh xm xf mb:Nat} {K:List Int} (V:rF s h P xh xm xf mb K) (k:aC [] s s'):rF s' h P xh xm xf mb K:=by
 obtain⟨H,G,oh,om,of,mp,nd⟩:=V;exact⟨H.aJ k,G,oh.aD k (by simp),om.aD k (by simp),of.aD k (by simp),mp.aD k (by simp),nd⟩
theorem lI:type_of% (B9 @RX @pX @EK @MC @qn @dV @dQ @bG @XV):=B9 @RX @pX @EK @MC @qn @dV @dQ @bG @XV
theorem Th {xh xm xf mb:Nat} {g:List Int→Int→List Int} (hg:∀ K a x,x∈K→x∈g K a) {K:List Int} {a:Int} (hs:Ok s) (V:rF s h P xh xm xf mb K) (ha:i64 a)
  (hrec:∀ K' a' s' Φ',Ok s'→rF s' h P xh xm xf mb K'→P.free K'<P.free K→i64 a'→(∀ s'',rF s'' h P xh xm xf mb (g K' a')→aC [mb] s' s''→Φ' (.tuple #[]) s'')→okF q X (KO kc) 162 [int a',ptr xh,ptr xm,ptr xf] s' Φ')
  (hΦ:∀ s',rF s' h P xh xm xf mb (if P.has a=true∧K.contains a=false then(P.iF a).foldl g (K++[a]) else K)→aC [mb] s s'→Φ (.tuple #[]) s'):okF q X (KO kc) 162 [int a,ptr xh,ptr xm,ptr xf] s Φ:=by
 have l1:aG s.look ⟨xh,0,none⟩=some (ptr h):=V.oh.load rfl;have l2:aG s.look ⟨xm,0,none⟩=some (.map (some mb)):=V.om.load rfl;refine aW Tryz.func162 (by kernel_rfl) rfl rfl (rs:=[]) rfl (N:=30) rfl rfl ?_;refine aA fun Ψ1 aE aL=>?_;refine aA fun Ψ2 aI bH=>?_;refine cL [(4,11)] (by kernel_rfl) fun O hO bC hR=>?_;have y4:∀ a,aO O a 4=aY (a.aB 11):=hO (4,11) (by simp);simp only[lI,seval,l1];refine aH ?_ (LD hs V.H a ha fun s2 k2=>?_)
 ·simp only[lI,seval]
 have EI:=mI k2 (by simp) l2;have V2:=V.aD k2;cases hh:P.has a with
 | false =>
  rw[if_neg (by rw[hh];simp)] at hΦ;simp only[lI,seval,y4];refine hR _ _ (aI _ _ ?_);simp only[lI,seval];refine aL _ _ _ (by simp) ?_;simp only[lI,seval];exact hΦ _ V2 k2.any
 | true =>
  obtain⟨es,aR,m1,m2⟩:=XN V2.mp a;rcases m2 with ⟨hc,m2⟩ | ⟨hc,i,m2⟩
  ·rw[if_pos ⟨hh,hc⟩] at hΦ;simp only[lI,seval,y4,EI,m1,m2];refine hR _ _ (aI _ _ ?_);simp only[lI,seval];refine aE _ _ ?_;refine aA fun Ψ3 aN bM=>?_;obtain⟨s3,e3,d3,k3⟩:=aAa k2.ok V2.mp hc;simp only[lI,seval,EI,e3];refine aN _ _ ?_;have P_:=V2.mp.lt k2.ok;have n3:=k3.next;have V3:rF s3 h P xh xm xf mb (K++[a]):=by
    obtain⟨H,G,oh,om,of,mp,n1,n2,n3,n4⟩:=V2;exact⟨H.aD k3 fun x hx hx'=>n1 (by simp at hx';subst hx';exact hx),G,oh.aD k3 (by simpa using Ne.symm n2),om.aD k3 (by simpa using Ne.symm n3),of.aD k3 (by simpa using Ne.symm n4),d3,n1,n2,n3,n4⟩
   have l13:aG s3.look ⟨xh,0,none⟩=some (ptr h):=V3.oh.load rfl;have hfree:=PH.OV hh hc;refine aA fun Ψ4 aP cC=>?_;simp only[lI,seval,l13];refine aH ?_ (aDn k3.ok V3.H V3.G a ha ?_)
   ·simp only[lI,seval]
   rintro v s4 b4 ⟨va,vc,rfl⟩ Fg k4;have hlen:(P.iF a).length≤15:=by
    have h1:=P.Qv a (P.bZ a);have h2:=(PH.FA V3.G a).2;have h3:P.bZ a≤15:=by unfold PH.bZ;omega
    unfold PH.iF;omega
   try simp only[lI,seval]
   refine aP _ _ ?_;have V4:=V3.aD k4;refine cJ fun cU aZ pU cK=>?_;refine rW (n:=(P.iF a).length) (fun j a' s'=>a'.aB 1=ptr xh∧a'.aB 2=ptr xm∧a'.aB 3=ptr xf∧a'.aB 20=.slice va (P.iF a).length vc∧a'.aB 21=int (P.iF a).length∧a'.aB 22=int j∧rF s' h P xh xm xf mb (((P.iF a).take j).foldl g (K++[a]))∧aC [mb] s4 s')
    (fun j a' s'=>a'.aB 1=ptr xh∧a'.aB 2=ptr xm∧a'.aB 3=ptr xf∧a'.aB 20=.slice va (P.iF a).length vc∧a'.aB 21=int (P.iF a).length∧a'.aB 22=int j∧rF s' h P xh xm xf mb (((P.iF a).take (j+1)).foldl g (K++[a]))∧aC [mb] s4 s') ?_ ?_ ?_ ?_ (Nat.zero_le _) ?_
   ·rintro j a' s' hj ⟨r1,r2,r3,gM,iA,qS,hV,hk⟩ aV bP;simp only[lI,seval,iA,qS];refine bP _ _ (decide ((j:Int)<(P.iF a).length)) ?_ (by simp) ⟨?_,?_,?_,?_,?_,?_,hV,hk⟩
    all_goals simp only[lI,seval,r1,r2,r3,gM,iA,qS]
   ·rintro j a' s' hj ⟨r1,r2,r3,gM,iA,qS,hV,hk⟩ aV h1 h2 h3;obtain⟨vb,dW,rfl⟩:=b4.sl.addr (show 0<(P.iF a).length by omega);have g1:(0:Int)≤(j:Int):=Int.natCast_nonneg _;have g2:(j:Int)<(((P.iF a).length:Nat):Int):=by omega
    have lj:aG s'.look ⟨vb,dW+j,none⟩=some (int ((P.iF a)[j])):=by
     refine(b4.sl.aD hk fun b hb hb'=>?_).load (i:=j) ?_
     ·have:=Fg b hb;simp at hb';omega
     ·rw[List.getElem?_map,List.getElem?_eq_getElem hj];rfl
    have lf:aG s'.look ⟨xf,0,none⟩=some (.func (.func 162) #[] #[ptr xh,ptr xm,ptr xf]):=hV.of.load rfl;have hi:i64 (P.iF a)[j]:=by
     obtain⟨i,hi,he⟩:=List.mem_map.1 (show (P.iF a)[j]∈P.iF a from List.getElem_mem _);rw[← he];exact PH.RT V.H a i
    have hsub:∀ x∈K++[a],x∈((P.iF a).take j).foldl g (K++[a]):=PH.Cs hg _ _;refine aA fun dN bO cZ=>?_;simp only[lI,seval,gM,qS,g1,g2,and_self,bQ,Int.toNat_natCast,Nat.mul_one,lj];refine bO _ _ ?_;simp only[lI,seval,r3,lf];refine MM (fi:=#[]) (ca:=#[ptr xh,ptr xm,ptr xf]) ?_ ?_ (hrec (((P.iF a).take j).foldl g (K++[a])) (P.iF a)[j] s' _ hk.ok hV (Nat.lt_of_le_of_lt (PH.Cx hsub) hfree) hi fun s5 V5 k5=>?_)
    ·simp only[lI,seval]
    ·simp only[lI,seval]
    simp only[lI,seval];refine h1 _ _ ⟨?_,?_,?_,?_,?_,?_,?_,hk.trans k5⟩
    all_goals try simp only[lI,seval,r1,r2,r3,gM,iA,qS]
    rw[List.take_add_one,List.getElem?_eq_getElem hj,List.foldl_append];exact V5
   ·rintro j a' s' hj ⟨r1,r2,r3,gM,iA,qS,hV,hk⟩ aV h1;have w:IntKind.i64.wrap ((j:Int)+1)=((j+1:Nat):Int):=by rw[aU (by omega) (by omega)];rfl
    simp only[lI,seval,qS,w];refine h1 _ _ ⟨?_,?_,?_,?_,?_,?_,hV,hk⟩
    all_goals try simp only[lI,seval,r1,r2,r3,gM,iA]
   ·rintro a' s' ⟨r1,r2,r3,gM,iA,qS,hV,hk⟩;refine pU _ _ ?_;simp only[lI,seval];rw[List.take_of_length_le (Nat.le_refl _)] at hV;exact hΦ _ hV ((k2.any.trans k3).trans (k4.any.trans hk))
   ·refine⟨?_,?_,?_,?_,?_,?_,V4,.refl k4.ok⟩
    all_goals try simp only[lI,seval]
    all_goals rfl
  ·rw[if_neg (by rw[hc];simp)] at hΦ;simp only[lI,seval,y4,EI,m1,m2];refine hR _ _ (aI _ _ ?_);simp only[lI,seval];refine aL _ _ _ (by simp) ?_;simp only[lI,seval];exact hΦ _ V2 k2.any
theorem aDo {xh xm xf mb:Nat}:∀ (n:Nat) {K:List Int} {a:Int} {s:St} {Φ:Value→St→Prop} (hs:Ok s) (V:rF s h P xh xm xf mb K) (ha:i64 a) (hn:P.free K≤n) (hΦ:∀ s',rF s' h P xh xm xf mb (P.visit n K a)→aC [mb] s s'→Φ (.tuple #[]) s'),okF q X (KO kc) 162 [int a,ptr xh,ptr xm,ptr xf] s Φ:=by
 intro n
 induction n with
 | zero =>
  intro K a s Φ hs V ha hn hΦ;refine Th (g:=P.visit 0) (P.Ti 0) hs V ha (fun K' a' s' Φ' _ _ h _ _=>by omega) fun s' V' k'=>?_;refine hΦ s' ?_ k';rw[if_neg] at V'
  ·exact V'
  ·rintro⟨h1,h2⟩;have:=PH.OV h1 h2;omega
 | succ n ih =>
  intro K a s Φ hs V ha hn hΦ;exact Th (g:=P.visit n) (P.Ti n) hs V ha (fun K' a' s' Φ' hs' V' h hi hh=>ih hs' V' hi (by omega) hh) hΦ
end
end Go.Dust
