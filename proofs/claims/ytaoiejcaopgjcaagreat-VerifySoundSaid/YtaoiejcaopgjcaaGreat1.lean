/- VerifySound walked in D, function by function, and its plain law (F6 S1 S2 S3 S4). -/
import Derived.Test.YtaoiejcaopgjcaaGreat0
set_option linter.unusedVariables false
set_option linter.unusedSimpArgs false
open Nat renaming reduceEqDiff → zA, reduceMul → zB, reduceAdd → zC, reduceBEq → zD
open Int renaming reduceEq → zE, reduceBEq → zF
namespace Go.Dust
open Go.Proofs
set_option maxRecDepth 100000
set_option maxHeartbeats 1000000
def PH.MY (P:PH) (R:PR) (l:List tS):List PW:=(l.zipIdx.flatMap fun x=>if P.has (R.get x.1)=true then [] else [(3,R.get x.1,(x.2:Int))])
def PH.qN (P:PH) (R:PR):List PW:=P.MY R R.all
theorem PH.qe (P:PH) (R:PR) (l:List tS) (p:tS):P.MY R (l++[p])=P.MY R l++if P.has (R.get p)=true then [] else [(3,R.get p,(l.length:Int))]:=by
 unfold MY
 rw[List.zipIdx_append,List.flatMap_append]
 simp
theorem PH.zh (P:PH) (R:PR) (l:List tS):(P.MY R l).length≤l.length:=by
 unfold MY
 generalize 0=k
 induction l generalizing k with
 | nil=>exact Nat.le_refl _
 | cons p l ih =>
  rw[List.zipIdx_cons,List.flatMap_cons,List.length_append,List.length_cons]
  have:=ih (k+1)
  split
  ·rw[List.length_nil];omega
  ·rw[List.length_singleton];omega
section
variable {kc:Kc} {q:Bool} {s:St} {Φ:Value→St→Prop} {h r:Nat} {P:PH} {R:PR}
theorem PR.HC (R:PR) {p:tS} (hp:p∈R.all):R.has p=true:=by
 have hpart:∀ k n,k<3→n≤R.len k→∀ p∈R.part k n,R.has p=true:=by
  intro k n hk hn p hp
  unfold PR.part at hp
  obtain⟨i,hi,h⟩:=List.mem_flatMap.1 hp
  unfold PR.one at h
  split at h
  ·cases h
  ·rw[List.mem_singleton.1 h]
   have:=List.mem_range.1 hi
   exact R.gh hk (by omega)
 unfold PR.all PR.upto at hp
 obtain⟨k,hk,h⟩:=List.mem_flatMap.1 hp
 exact hpart k _ (List.mem_range.1 hk) (Nat.le_refl _) p h
theorem PR.BV {s:St} {r:Nat} {R:PR} (H:bB s r R) (p:tS):i64 (R.get p):=by
 unfold PR.get
 split
 ·exact H.bs _
 ·split
  ·exact H.bg _
  ·rw[List.getD_eq_getElem?_getD]
   cases hx:R.q[p.i.toNat]? with
   | none=>exact⟨by simp,by simp⟩
   | some y=>exact H.bq y (List.mem_of_getElem? hx)
theorem DM (L:List tS) {j:Nat} (hj:j<L.length):((L.flatMap pS).drop (j*3)).take 3=pS L[j]:=by
 induction L generalizing j with
 | nil=>cases hj
 | cons p L ih =>
  cases j with
  | zero=>rfl
  | succ j =>
   rw[List.flatMap_cons,List.drop_append,List.drop_of_length_le (by simp[pS];omega),List.nil_append,show (j+1)*3-(pS p).length=j*3 by simp[pS];omega]
   exact ih (by simpa using hj)
theorem gI:type_of% (An @RX<|An @PZ<|An @yB<|An @DT<|An @iH<|An @mY<|An @nO<|@wG):=An @RX<|An @PZ<|An @yB<|An @DT<|An @iH<|An @mY<|An @nO<|@wG
theorem DI (hs:Ok s) (H:aP s h P) (A:bB s r R) (h1:(P.qN R).length≤1) (hΦ:∀ va vc s',kL s' 51 3 (.slice va (P.qN R).length vc) ((P.qN R).flatMap zG)→(∀ b∈nameOf (.slice va (P.qN R).length vc),s.next≤b)→aC [] s s'→Φ (.tuple #[.slice va (P.qN R).length vc,int 0]) s'):okF q X (KO kc) 10 [ptr h,ptr r] s Φ:=by
 have n2:=H.n2
 have hm1:=A.m1
 have hN:¬ (P.N:Int)≤0:=by omega
 have hM:((R.m:Int)==0)=false:=by rw[beq_eq_false_iff_ne];omega
 refine aG rfl fn_10 rfl (rs:=[.tmp 4,.tmp 5]) rfl (N:=43) rfl rfl ?_
 refine aA fun Ψ0 hΨ0 hΨ0'=>?_
 simp only[gI,↓reduceIte,zA,reduceCtorEq,zE,zB,zC,zD,zF]
 refine hΨ0 _ _ ?_
 refine aA fun Ψ1 hΨ1 hΨ1'=>?_
 refine aA fun Ψ2 hΨ2 hΨ2'=>?_
 refine aH [(3,14)] (by kernel_rfl) fun O hO ΨR hR=>?_
 have y3:∀ a,aE O a 3=aM (a.aD 14):=hO (3,14) (by simp)
 simp only[gI,↓reduceIte,zA,reduceCtorEq,zE,zB,zC,zD,zF]
 refine aB ?_ (mR H ?_)
 ·simp only[gI,↓reduceIte,zA,reduceCtorEq,zE,zB,zC,zD,zF]
 simp only[gI,↓reduceIte,zA,reduceCtorEq,zE,zB,zC,zD,zF,y3,hN,decide_false]
 refine aB ?_ (rP A ?_)
 ·simp only[gI,↓reduceIte,zA,reduceCtorEq,zE,zB,zC,zD,zF]
 try simp only[gI,↓reduceIte,zA,reduceCtorEq,zE,zB,zC,zD,zF,y3,hM]
 refine hR _ _ (hΨ2 _ _ ?_)
 simp only[gI,↓reduceIte,zA,reduceCtorEq,zE,zB,zC,zD,zF]
 refine hΨ1 _ _ ?_
 refine aA fun Ψ3 hΨ3 hΨ3'=>?_
 simp only[gI,↓reduceIte,zA,reduceCtorEq,zE,zB,zC,zD,zF]
 obtain⟨s1,e1,k1,c1,n1⟩:=aT hs (L:=[.slice none 0 0]) (n:=1) (e:=110) rfl
 rw[e1]
 refine hΨ3 _ _ ?_
 refine aA fun Ψ4 hΨ4 hΨ4'=>?_
 refine aA fun Ψ5 hΨ5 hΨ5'=>?_
 simp only[gI,↓reduceIte,zA,reduceCtorEq,zE,zB,zC,zD,zF]
 refine aB ?_ (uV k1.ok (A.aN k1) ?_)
 ·simp only[gI,↓reduceIte,zA,reduceCtorEq,zE,zB,zC,zD,zF]
 rintro v s2 b2 ⟨va,vc,rfl⟩ k2 hnm2
 try simp only[gI,↓reduceIte,zA,reduceCtorEq,zE,zB,zC,zD,zF]
 refine hΨ5 _ _ ?_
 have k02:=k1.trans k2
 have c2:=c1.aF k2 (by simp)
 have n12:=k2.next
 have F0:lF s2 s.next s2.next [] []:=⟨none,0,c2,.nil,by simp[nameOf],by omega⟩
 have hal:=R.xI A.m4 A.ql
 have Hk:∀ t,aC [s.next] s2 t→aP t h P:=fun t k=>(H.aN k02).aF k fun y hy hy'=>by have:=H.cH hs y hy;simp at hy';omega
 have Ak:∀ t,aC [s.next] s2 t→bB t r R:=fun t k=>(A.aN k02).aF k fun y hy hy'=>by have:=A.cH hs y hy;simp at hy';omega
 refine aL fun Ψ6 hΨ6 hΨ6e hΨ6'=>?_
 refine dP (n:=R.all.length) (fun j a' s'=>a'.aD 0=ptr h∧a'.aD 1=ptr r∧a'.aD 6=ptr s.next∧a'.aD 20=.slice va R.all.length vc∧a'.aD 21=int R.all.length∧a'.aD 22=int j∧lF s' s.next s2.next [] (P.MY R (R.all.take j))∧aC [s.next] s2 s')
  (fun j a' s'=>a'.aD 0=ptr h∧a'.aD 1=ptr r∧a'.aD 6=ptr s.next∧a'.aD 20=.slice va R.all.length vc∧a'.aD 21=int R.all.length∧a'.aD 22=int j∧lF s' s.next s2.next [] (P.MY R (R.all.take (j+1)))∧aC [s.next] s2 s') ?_ ?_ ?_ ?_ (Nat.zero_le _) ?_
 ·rintro j a' s' hj ⟨r0,r1,r6,r20,r21,r22,hF,hk⟩ Ψ' hΨ'
  simp only[gI,↓reduceIte,zA,reduceCtorEq,zE,zB,zC,zD,zF,r21,r22]
  refine hΨ' _ _ (decide ((j:Int)<R.all.length)) ?_ (by simp) ⟨?_,?_,?_,?_,?_,?_,hF,hk⟩
  all_goals simp only[gI,↓reduceIte,zA,reduceCtorEq,zE,zB,zC,zD,zF,r0,r1,r6,r20,r21,r22]
 ·rintro j a' s' hj ⟨r0,r1,r6,r20,r21,r22,hF,hk⟩ Ψ' w1 w2 w3
  obtain⟨vb,voff,rfl⟩:=b2.sl.addr (show 0<R.all.length by omega)
  have g1:(0:Int)≤(j:Int):=Int.natCast_nonneg _
  have g2:(j:Int)<((R.all.length:Nat):Int):=by omega
  have hvb:=hnm2 vb (by simp[nameOf])
  obtain⟨p,hp⟩:∃ p,p=R.all[j]:=⟨_,rfl⟩
  have gU:=b2.lt k2.ok vb (by simp[nameOf])
  have lj:aS s'.look ⟨vb,voff+j*3,none⟩ 3=some [int p.k,int p.m,int p.i]:=by
   have:=(b2.sl.aF hk (fun b hb hb'=>by simp[nameOf] at hb hb';omega)).aS (i:=j*3) (k:=3) (by omega) (by rw[uq];omega)
   rw[DM _ hj,← hp] at this
   exact this
  have hpm:p∈R.all:=by rw[hp];exact List.getElem_mem _
  have hph:=R.HC hpm
  have htk:R.all.take (j+1)=R.all.take j++[p]:=by rw[List.take_add_one,List.getElem?_eq_getElem hj,hp];rfl
  have hsn:=P.qe R (R.all.take j) p
  rw[← htk,show (R.all.take j).length=j by rw[List.length_take];omega] at hsn
  refine aA fun Ψ7 hΨ7 hΨ7'=>?_
  obtain⟨t1,e1,u1,d1,v1⟩:=aT hk.ok (L:=[int 0,int 0,int 0]) (n:=3) (e:=118) rfl
  obtain⟨t2,e2,d2,u2⟩:=d1.storeAll u1.ok (vs:=[int p.k,int p.m,int p.i]) rfl rfl
  have u12:aC [] s' t2:=u1.step u2 fun g hg=>.inr (by rw[List.mem_singleton.1 hg];exact hk.ok.fresh _ (Nat.le_refl _))
  simp only[gI,↓reduceIte,zA,reduceCtorEq,zE,zB,zC,zD,zF,r20,r22,g1,g2,and_self,aJ,Int.toNat_natCast,lj]
  rw[e1,e2]
  simp only[gI,↓reduceIte,zA,reduceCtorEq,zE,zB,zC,zD,zF]
  refine hΨ7 _ _ ?_
  have lp:=d2.aS (i:=0) (k:=3) (Nat.le_refl _)
  have hk2:=hk.trans u12.any
  refine aA fun Ψ8 hΨ8 hΨ8'=>?_
  simp only[gI,↓reduceIte,zA,reduceCtorEq,zE,zB,zC,zD,zF,r1,lp,List.drop_zero,List.take]
  refine aB ?_ (yN u12.ok (Ak _ hk2) p fun s4 k4=>?_)
  ·simp only[gI,↓reduceIte,zA,reduceCtorEq,zE,zB,zC,zD,zF]
  rw[if_pos hph,if_pos hph]
  try simp only[gI,↓reduceIte,zA,reduceCtorEq,zE,zB,zC,zD,zF]
  refine hΨ8 _ _ ?_
  have hk4:=hk2.trans k4.any
  refine aA fun Ψ9 hΨ9 hΨ9'=>?_
  simp only[gI,↓reduceIte,zA,reduceCtorEq,zE,zB,zC,zD,zF,r0]
  refine aB ?_ (oZ k4.ok (Hk _ hk4) (R.get p) (PR.BV A p) fun s5 k5=>?_)
  ·simp only[gI,↓reduceIte,zA,reduceCtorEq,zE,zB,zC,zD,zF]
  try simp only[gI,↓reduceIte,zA,reduceCtorEq,zE,zB,zC,zD,zF]
  refine hΨ9 _ _ ?_
  have hk5:=hk4.trans k5.any
  have hF5:=((hF.aF u12).aF k4).aF k5
  cases hh:P.has (R.get p) with
  | true =>
   rw[if_pos hh,List.append_nil] at hsn
   simp only[gI,↓reduceIte,zA,reduceCtorEq,zE,zB,zC,zD,zF]
   refine w1 _ _ ⟨?_,?_,?_,?_,?_,?_,by rw[hsn];exact hF5,hk5⟩
   all_goals try simp only[gI,↓reduceIte,zA,reduceCtorEq,zE,zB,zC,zD,zF,r0,r1,r6,r20,r21,r22]
  | false =>
   rw[if_neg (by rw[hh];simp)] at hsn
   have hlen:=P.zh R (R.all.take j)
   rw[List.length_take] at hlen
   simp only[gI,↓reduceIte,zA,reduceCtorEq,zE,zB,zC,zD,zF,r6]
   refine aB ?_ (lF.add (s:=s5) (cb:=s.next) (lo:=s2.next) k5.ok hF5 (by have:=hk5.next;omega) (fun y hy=>by cases hy) (by omega) (3,R.get p,(j:Int)) fun s6 f1 f2 f3 f4=>?_)
   ·simp only[gI,↓reduceIte,zA,reduceCtorEq,zE,zB,zC,zD,zF,r6]
   simp only[gI,↓reduceIte,zA,reduceCtorEq,zE,zB,zC,zD,zF]
   have hk6:=f3 s2 k02.ok hk5 (Nat.le_refl _)
   refine w1 _ _ ⟨?_,?_,?_,?_,?_,?_,by rw[hsn];exact f1,hk6⟩
   all_goals try simp only[gI,↓reduceIte,zA,reduceCtorEq,zE,zB,zC,zD,zF,r0,r1,r6,r20,r21,r22]
 ·rintro j a' s' hj ⟨r0,r1,r6,r20,r21,r22,hF,hk⟩ Ψ' w1
  have w:IntKind.i64.wrap ((j:Int)+1)=((j+1:Nat):Int):=by rw[aR (by omega) (by omega)];rfl
  simp only[gI,↓reduceIte,zA,reduceCtorEq,zE,zB,zC,zD,zF,r22,w]
  refine w1 _ _ ⟨?_,?_,?_,?_,?_,?_,hF,hk⟩
  all_goals try simp only[gI,↓reduceIte,zA,reduceCtorEq,zE,zB,zC,zD,zF,r0,r1,r6,r20,r21]
 ·rintro a' s' ⟨r0,r1,r6,r20,r21,r22,hF,hk⟩
  refine hΨ6e _ _ (hΨ4 _ _ ?_)
  rw[List.take_of_length_le (Nat.le_refl _)] at hF
  have hF:lF s' s.next s2.next [] (P.qN R):=hF
  obtain⟨fa,fc,f1,f2,f3,f4⟩:=hF
  have lf:=f1.load (i:=0) rfl
  simp only[gI,↓reduceIte,zA,reduceCtorEq,zE,zB,zC,zD,zF,r6,lf]
  refine aB ?_ (sS (va:=fa) (n:=(P.qN R).length) (c:=fc) h1 ?_)
  ·simp only[gI,↓reduceIte,zA,reduceCtorEq,zE,zB,zC,zD,zF]
  simp only[gI,↓reduceIte,zA,reduceCtorEq,zE,zB,zC,zD,zF]
  exact hΦ fa fc s' f2 (fun b hb=>by have:=(f3 b hb).1;omega) (k02.step hk fun g hg=>.inr (hs.fresh g (by simp at hg;omega)))
 ·refine⟨?_,?_,?_,?_,?_,?_,F0,.refl k02.ok⟩
  all_goals try simp only[gI,↓reduceIte,zA,reduceCtorEq,zE,zB,zC,zD,zF]
  rfl
end
open Go.Proofs
set_option maxRecDepth 100000
set_option maxHeartbeats 1000000
theorem AP:∀ {l m:List Int},l.Pairwise (·<·)→m.Pairwise (·<·)→(∀ x,x∈l↔x∈m)→l=m
 | [],[],_,_,_=>rfl
 | [],y::m,_,_,h=>by have:=(h y).2 (List.mem_cons_self ..);cases this
 | x::l,[],_,_,h=>by have:=(h x).1 (List.mem_cons_self ..);cases this
 | x::l,y::m,hl,hm,h=>by
  rw[List.pairwise_cons] at hl hm
  have hxy:x=y:=by
   rcases List.mem_cons.1 ((h x).1 (List.mem_cons_self ..)) with e | e
   ·exact e
   ·rcases List.mem_cons.1 ((h y).2 (List.mem_cons_self ..)) with e' | e'
    ·exact e'.symm
    ·have:=hm.1 x e
     have:=hl.1 y e'
     omega
  subst hxy
  congr 1
  refine AP hl.2 hm.2 fun z=>?_
  constructor
  ·intro hz
   rcases List.mem_cons.1 ((h z).1 (List.mem_cons_of_mem _ hz)) with e | e
   ·have:=hl.1 z hz;omega
   ·exact e
  ·intro hz
   rcases List.mem_cons.1 ((h z).2 (List.mem_cons_of_mem _ hz)) with e | e
   ·have:=hm.1 z hz;omega
   ·exact e
namespace PH
variable {P:PH}
theorem yD {a:Int}:a∈P.all↔P.has a=true:=by
 unfold all rI
 rw[List.mem_map,dT]
 constructor
 ·rintro⟨i,hi,rfl⟩
  obtain⟨h1,h2⟩:=List.mem_filter.1 hi
  have h1:=List.mem_range.1 h1
  unfold mX at h2
  have h2:=of_decide_eq_true h2
  exact⟨by omega,by omega,by omega,by rw[show (2*(i:Int)/2).toNat=i by omega];exact h2⟩
 ·rintro⟨h1,h2,h3,h4⟩
  refine⟨(a/2).toNat,List.mem_filter.2 ⟨List.mem_range.2 (by omega),?_⟩,by omega⟩
  unfold mX
  exact decide_eq_true h4
theorem tT:P.all.Pairwise (·<·):=by
 unfold all rI
 refine List.Pairwise.map (R:=(·<·)) _ (fun a b h=>by omega) ?_
 exact List.Pairwise.filter _ List.pairwise_lt_range
theorem size_pos (G:P.cZ) {a:Int} (h:P.has a=true):2≤P.size a∧P.size a%2=0∧a%2=0∧0≤a∧a+P.size a≤64*P.N:=by
 obtain⟨h1,h2⟩:=G.val a h
 have h3:=iV.eD h1
 have h4:=(P.shape a).nU
 have h5:=dT.1 h
 unfold size at h2 ⊢
 omega
theorem OH {L:Nat→Nat} {v:Int}:∀ {k i:Nat},pC L v k=some i→∀ j,j<k→(L j:Int)=v→j≤i
 | k+1,i,h,j,hj,he=>by
  rw[pC] at h
  split at h
  ·cases h;omega
  ·rename_i hn
   by_cases hk:j=k
   ·subst hk;exact absurd he hn
   ·exact OH h j (by omega) he
theorem JR {L:Nat→Nat} {v:Int}:∀ {k:Nat},pC L v k=none→∀ j,j<k→¬ (L j:Int)=v
 | k+1,h,j,hj=>by
  rw[pC] at h
  split at h
  ·cases h
  ·rename_i hn
   by_cases hk:j=k
   ·subst hk;exact hn
   ·exact JR h j (by omega)
theorem QT (G:P.cZ) {a o:Int} (ho:P.has o=true) (h1:o≤a) (h2:a<o+P.size o):P.find a=some o:=by
 obtain⟨s1,s2,s3,s4,s5⟩:=size_pos G ho
 have hh:=dT.1 ho
 unfold find
 rw[if_pos ⟨by omega,by omega⟩]
 cases hl:pC P.S 1 (a/2+1).toNat with
 | none=>exact absurd (show ((P.S (o/2).toNat:Nat):Int)=1 by rw[hh.2.2.2];rfl) (JR hl _ (by omega))
 | some i =>
  have hm:=OH hl (o/2).toNat (by omega) (by rw[hh.2.2.2];rfl)
  obtain⟨g1,g2⟩:=CB hl
  have hi:P.has (2*(i:Int))=true:=dT.2 ⟨by omega,by omega,by omega,by rw[show (2*(i:Int)/2).toNat=i by omega];omega⟩
  have he:2*(i:Int)=o:=by
   rcases Int.lt_or_le o (2*(i:Int)) with gU | hge
   ·have:=G.fg o _ ho hi gU
    omega
   ·omega
  simp only
  rw[he,if_neg (by omega)]
theorem um (G:P.cZ) {a o:Int}:P.find a=some o↔P.has o=true∧o≤a∧a<o+P.size o:=by
 constructor
 ·intro h
  have:=xV h
  exact⟨this.2.2.2.2.2.2,this.2.2.2.1,this.2.2.2.2.2.1⟩
 ·rintro⟨h1,h2,h3⟩
  exact QT G h1 h2 h3
theorem gi (G:P.cZ) {a n:Int} (ha:a%2=0) (h0:0≤a) (hn:n%2=0) (hp:0<n):P.HL a (-1) ((n+1)/2).toNat=true↔∃ o,P.has o=true∧o<a+n∧a<o+P.size o:=by
 unfold HL
 rw[List.any_eq_true]
 constructor
 ·rintro⟨k,hk,hf⟩
  have hk:=List.mem_range.1 hk
  cases hc:P.find (a+2*k) with
  | none=>rw[hc] at hf;cases hf
  | some o =>
   have:=(um G).1 hc
   exact⟨o,this.1,by omega,by omega⟩
 ·rintro⟨o,h1,h2,h3⟩
  obtain⟨s1,s2,s3,s4,s5⟩:=size_pos G h1
  refine⟨((max a o-a)/2).toNat,List.mem_range.2 (by omega),?_⟩
  rw[QT G h1 (o:=o) (by omega) (by omega)]
  simp only[decide_eq_true_eq]
  omega
end PH
open Go.Proofs
set_option maxRecDepth 100000
set_option maxHeartbeats 1000000
namespace PH
structure Inv (P:PH):Prop where
 cZ:P.cZ
 id:∀ a,P.has a=true→1≤P.w a.toNat∧P.w a.toNat≤P.born
 M:∀ a,P.has a=true→P.M.lookup (P.w a.toNat)=some a
 Mk:∀ p∈P.M,p.1≤P.born
 Mh:∀ p∈P.M,P.has p.2=true∧P.w p.2.toNat=p.1
 Mn:(P.M.map Prod.fst).Nodup
 zero:∀ i:Nat,(∀ o,P.has o=true→¬ (o≤i∧(i:Int)<o+P.size o))→P.w i=0
 q:∀ i,P.S i≠1→P.Q i=0
 dR:∀ i,P.bs i=0→P.bp i=0
 iJ:P.N≤64
 b0:P.bs 0=0
 z:∀ a,P.has a=true→64≤a
variable {P:PH}
theorem WD {M:List (Int×Int)} {k:Int} (h:∀ p∈M,p.1≠k):M.lookup k=none:=by
 induction M with
 | nil=>rfl
 | cons p M ih =>
  rcases p with ⟨x,y⟩
  rw[List.lookup_cons]
  have:=h _ (List.mem_cons_self ..)
  rw[show (k==x)=false from beq_eq_false_iff_ne.2 (fun e=>this e.symm)]
  exact ih fun p hp=>h p (List.mem_cons_of_mem _ hp)
theorem ai {M:List (Int×Int)} {k x y:Int}:(M++[(x,y)]).lookup k=match M.lookup k with
  | some v=>some v
  | none=>if k=x then some y else none:=by
 induction M with
 | nil =>
  rw[List.nil_append,List.lookup_cons]
  by_cases h:k=x
  ·subst h;simp
  ·rw[show (k==x)=false from beq_eq_false_iff_ne.2 h,if_neg h];rfl
 | cons p M ih =>
  rcases p with ⟨u,v⟩
  rw[List.cons_append,List.lookup_cons,List.lookup_cons,ih]
  cases (k==u) <;> rfl
theorem Inv.next (I:P.Inv):P.M.lookup ((P.born:Int)+1)=none:=WD fun p hp=>by have:=I.Mk p hp;omega
theorem Empty.inv {n:Nat} (E:P.Empty n) (hn:n≤64):P.Inv:=by
 have hh:∀ a,P.has a=false:=fun a=>by
  cases h:P.has a with
  | false=>rfl
  | true=>have:=(dT.1 h).2.2.2;rw[E.S] at this;cases this
 refine⟨⟨fun a h=>(by rw[hh] at h;cases h),fun a b h=>(by rw[hh] at h;cases h)⟩,fun a h=>(by rw[hh] at h;cases h),fun a h=>(by rw[hh] at h;cases h),?_,?_,?_,fun i _=>by rw[E.w],fun i _=>by rw[E.Q],fun i _=>by rw[E.bp],by rw[E.N];exact hn,by rw[E.bs],fun a h=>(by rw[hh] at h;cases h)⟩
 ·rw[E.M];intro p hp;cases hp
 ·rw[E.M];intro p hp;cases hp
 ·rw[E.M];exact .nil
structure Room (P:PH) (a:Int) (x:iV):Prop where
 v:x.valid=true
 a0:64≤a
 ae:a%2=0
 top:a+x.words≤64*P.N
 apart:∀ o,P.has o=true→a+x.words≤o∨o+P.size o≤a
theorem ZG {a n b:Int} (h:P.nA a n b=0):(0≤a∧a<64*P.N∧a%2=0)∧(if n≤32 then P.bs (a/64).toNat=1∧(a+n-1)/64=a/64 else P.bs (a/64).toNat=2∧a%64=0∧(P.span (a/64).toNat:Int)=(n+63)/64)∧P.HL a b ((n+1)/2).toNat=false:=by
 unfold nA at h
 by_cases h1:a<0∨a≥64*P.N∨a%2≠0
 ·rw[if_pos h1] at h;cases h
 ·rw[if_neg h1] at h
  refine⟨by omega,?_⟩
  by_cases hn:n≤32
  ·simp only[if_pos hn] at h ⊢
   by_cases h2:P.bs (a/64).toNat≠1∨(a+n-1)/64≠a/64
   ·rw[if_pos h2] at h;cases h
   ·rw[if_neg h2] at h
    refine⟨by omega,?_⟩
    cases hh:P.HL a b ((n+1)/2).toNat with
    | false=>rfl
    | true=>rw[hh,if_pos rfl] at h;cases h
  ·simp only[if_neg hn] at h ⊢
   by_cases h2:P.bs (a/64).toNat≠2∨a%64≠0∨(P.span (a/64).toNat:Int)≠(n+63)/64
   ·rw[if_pos h2] at h;cases h
   ·rw[if_neg h2] at h
    refine⟨by omega,?_⟩
    cases hh:P.HL a b ((n+1)/2).toNat with
    | false=>rfl
    | true=>rw[hh,if_pos rfl] at h;cases h
theorem jg (G:P.cZ) (hb0:P.bs 0=0) {a:Int} {x:iV} (h:P.mJ a x=0):P.Room a x:=by
 unfold mJ at h
 split at h
 ·rename_i hv
  obtain⟨w1,w2⟩:=iV.eD hv
  have w3:=x.nU
  obtain⟨g1,g2,g3⟩:=ZG h
  have hz:(a/64).toNat≠0:=fun e=>by
   rw[e] at g2
   split at g2 <;> omega
  refine⟨hv,by omega,by omega,?_,fun o ho=>?_⟩
  ·by_cases hw:x.words≤32
   ·rw[if_pos hw] at g2;omega
   ·rw[if_neg hw] at g2
    have:P.span (a/64).toNat≤P.N-(a/64).toNat:=by
     unfold span
     split
     ·have:=nQ (bs:=P.bs) (p:=(a/64).toNat+1) (d:=P.N-((a/64).toNat+1))
      omega
     ·omega
    omega
  ·have hc:¬ ∃ o,P.has o=true∧o<a+x.words∧a<o+P.size o:=fun hc=>by
    rw[(gi G (by omega) (by omega) w3.2.2 (by omega)).2 hc] at g3
    cases g3
   by_cases h4:a+x.words≤o
   ·exact .inl h4
   ·exact .inr (Int.not_lt.1 fun h5=>hc ⟨o,ho,by omega,h5⟩)
 ·cases h
section
variable {a:Int} {x:iV}
theorem CT {i:Nat} (h1:i≠a.toNat) (h2:i≠(a+1).toNat):(P.place a x).w i=P.w i:=by
 show (if i=(a+1).toNat then x.num else if i=a.toNat then(P.born:Int)+1 else P.w i)=_
 rw[if_neg h2,if_neg h1]
theorem CS (h0:64≤a):(P.place a x).w a.toNat=(P.born:Int)+1:=by
 show (if a.toNat=(a+1).toNat then x.num else if a.toNat=a.toNat then(P.born:Int)+1 else P.w a.toNat)=_
 rw[if_neg (by omega),if_pos rfl]
theorem wQ (hv:x.valid=true):(P.place a x).shape a=x:=by
 show qD (if (a+1).toNat=(a+1).toNat then x.num else _)=x
 rw[if_pos rfl,qj hv]
theorem iK (R:P.Room a x) (b:Int):(P.place a x).has b=true↔(P.has b=true∨b=a):=by
 obtain⟨hv,h0,he,ht,_⟩:=R
 have hw:=iV.eD hv
 rw[dT,dT]
 show (0≤b∧b%2=0∧b/2<32*(P.N:Int)∧qS P.S (a/2).toNat 1 (b/2).toNat=1)↔_
 unfold qS
 constructor
 ·rintro⟨g1,g2,g3,g4⟩
  split at g4
  ·exact .inr (by omega)
  ·exact .inl ⟨g1,g2,g3,g4⟩
 ·rintro(⟨g1,g2,g3,g4⟩ | rfl)
  ·refine⟨g1,g2,g3,?_⟩
   split
   ·rfl
   ·exact g4
  ·exact⟨by omega,he,by omega,by rw[if_pos rfl]⟩
theorem lA (G:P.cZ) (R:P.Room a x) {b:Int} (hb:P.has b=true):(P.place a x).shape b=P.shape b∧(P.place a x).size b=P.size b∧∀ i:Nat,b≤i→(i:Int)<b+P.size b→(P.place a x).w i=P.w i:=by
 obtain⟨s1,s2,s3,s4,s5⟩:=size_pos G hb
 have hw:=iV.eD R.v
 have h0:=R.a0
 have ha:=R.apart b hb
 have e:∀ i:Nat,b≤i→(i:Int)<b+P.size b→(P.place a x).w i=P.w i:=fun i h1 h2=>CT (by omega) (by omega)
 have e1:(P.place a x).shape b=P.shape b:=by
  unfold shape
  rw[e _ (by omega) (by omega)]
 exact⟨e1,by unfold size;rw[e1],e⟩
theorem uT (hv:x.valid=true):(P.place a x).size a=x.words:=by unfold size;rw[wQ hv]
theorem Inv.place (I:P.Inv) (R:P.Room a x):(P.place a x).Inv:=by
 have G:=I.cZ
 have hw:=iV.eD R.v
 have hN:(P.place a x).N=P.N:=rfl
 have na:P.has a=false:=by
  cases h:P.has a with
  | false=>rfl
  | true =>
   have:=R.apart a h
   have:=size_pos G h
   omega
 refine⟨⟨fun b hb=>?_,fun b c hb hc gU=>?_⟩,fun b hb=>?_,fun b hb=>?_,fun p hp=>?_,fun p hp=>?_,?_,fun i hi=>?_,fun i hi=>?_,fun i hi=>I.dR i hi,I.iJ,I.b0,fun b hb=>?_⟩
 ·rcases(iK R b).1 hb with h | rfl
  ·obtain⟨e1,e2,e3⟩:=lA G R h
   rw[e1,e2];exact G.val b h
  ·rw[wQ R.v,uT R.v];exact⟨R.v,R.top⟩
 ·rcases(iK R b).1 hb with h | rfl <;> rcases(iK R c).1 hc with k | rfl
  ·rw[(lA G R h).2.1];exact G.fg b c h k gU
  ·rw[(lA G R h).2.1]
   have:=R.apart b h
   omega
  ·rw[uT R.v]
   have:=R.apart c k
   have:=size_pos G k
   omega
  ·omega
 ·show _∧_≤((P.born+1:Nat):Int)
  rcases(iK R b).1 hb with h | rfl
  ·obtain⟨s1,s2,s3,s4,s5⟩:=size_pos G h
   rw[(lA G R h).2.2 _ (by omega) (by omega)]
   have:=I.id b h
   omega
  ·rw[CS R.a0];omega
 ·show (P.M++[((P.born:Int)+1,a)]).lookup _=_
  rw[ai]
  rcases(iK R b).1 hb with h | rfl
  ·obtain⟨s1,s2,s3,s4,s5⟩:=size_pos G h
   rw[(lA G R h).2.2 _ (by omega) (by omega),I.M b h]
  ·rw[CS R.a0,I.next,if_pos rfl]
 ·show p.1≤((P.born+1:Nat):Int)
  rcases List.mem_append.1 hp with h | h
  ·have:=I.Mk p h;omega
  ·cases List.mem_singleton.1 h;omega
 ·rcases List.mem_append.1 hp with h | h
  ·obtain⟨g1,g2⟩:=I.Mh p h
   obtain⟨s1,s2,s3,s4,s5⟩:=size_pos G g1
   exact⟨(iK R _).2 (.inl g1),by rw[(lA G R g1).2.2 _ (by omega) (by omega)];exact g2⟩
  ·cases List.mem_singleton.1 h
   exact⟨(iK R _).2 (.inr rfl),CS R.a0⟩
 ·show ((P.M++[((P.born:Int)+1,a)]).map Prod.fst).Nodup
  rw[List.map_append,List.nodup_append]
  refine⟨I.Mn,by simp,fun u hu v hv=>?_⟩
  obtain⟨p,hp,rfl⟩:=List.mem_map.1 hu
  have:=I.Mk p hp
  rw[List.map_cons,List.map_nil,List.mem_singleton] at hv
  subst hv
  omega
 ·have h1:=hi a ((iK R a).2 (.inr rfl))
  rw[uT R.v] at h1
  have h0:=R.a0
  rw[CT (by omega) (by omega)]
  refine I.zero i fun o ho=>?_
  have:=hi o ((iK R o).2 (.inl ho))
  rw[(lA G R ho).2.1] at this
  exact this
 ·have h1:P.S i≠1:=by
   intro hc
   apply hi
   show qS P.S (a/2).toNat 1 i=1
   unfold qS
   split
   ·rfl
   ·exact hc
  exact I.q i h1
 ·rcases(iK R b).1 hb with h | rfl
  ·exact I.z b h
  ·exact R.a0
end
theorem Inv.blocks (I:P.Inv) {f g:Nat→Int} (h:∀ i,f i=0→g i=0) (h0:f 0=0):({P with bs:=f,bp:=g}:PH).Inv :=
 ⟨⟨I.cZ.val,I.cZ.fg⟩,I.id,I.M,I.Mk,I.Mh,I.Mn,I.zero,I.q,h,I.iJ,h0,I.z⟩
theorem Inv.qY (I:P.Inv) {p k:Nat} (hp:1≤p) {x y u v:Int} (hx:x≠0) (hu:u=0→v=0):(P.qY p k x y u v).Inv:=by
 refine I.blocks (fun i hi=>?_) ?_
 rotate_left
 ·unfold eP
  rw[if_neg (by omega)]
  simp only
  rw[if_neg (by omega)]
  exact I.b0
 unfold eP at hi ⊢
 split at hi
 ·exact absurd hi hx
 ·rename_i hne
  rw[if_neg hne]
  simp only at hi ⊢
  split at hi
  ·rename_i h1
   rw[if_pos h1];exact hu hi
  ·rename_i h1
   rw[if_neg h1];exact I.dR i hi
end PH
open Go.Proofs
set_option maxRecDepth 100000
set_option maxHeartbeats 1000000
namespace PH
variable {P:PH}
def Body (P:PH) (o j:Int):Prop:=P.has o=true∧o+2≤j∧j<o+P.size o
section
variable {o j v:Int}
theorem EK {i:Nat} (h:i≠j.toNat):(P.gG j v).w i=P.w i:=by
 show (if i=j.toNat then v else P.w i)=_
 rw[if_neg h]
theorem setW_at:(P.gG j v).w j.toNat=v:=by
 show (if j.toNat=j.toNat then v else _)=_
 rw[if_pos rfl]
theorem eu (G:P.cZ) (B:P.Body o j) {b:Int} (hb:P.has b=true):b.toNat≠j.toNat∧(b+1).toNat≠j.toNat:=by
 obtain⟨h1,h2,h3⟩:=B
 obtain⟨s1,s2,s3,s4,s5⟩:=size_pos G hb
 obtain⟨t1,t2,t3,t4,t5⟩:=size_pos G h1
 rcases Int.lt_trichotomy b o with h | h | h
 ·have:=G.fg b o hb h1 h
  omega
 ·omega
 ·have:=G.fg o b h1 hb h
  omega
theorem mL (G:P.cZ) (B:P.Body o j) {b:Int} (hb:P.has b=true):(P.gG j v).shape b=P.shape b:=by
 unfold shape
 rw[EK (eu G B hb).2]
theorem EJ (G:P.cZ) (B:P.Body o j) {b:Int} (hb:P.has b=true):(P.gG j v).size b=P.size b:=by
 unfold size
 rw[mL G B hb]
theorem HP (G:P.cZ) (B:P.Body o j) {b:Int} (hb:P.has b=true):(P.gG j v).w b.toNat=P.w b.toNat:=EK (eu G B hb).1
theorem Inv.gG (I:P.Inv) (B:P.Body o j):(P.gG j v).Inv:=by
 have G:=I.cZ
 refine⟨⟨fun b hb=>?_,fun b c hb hc gU=>?_⟩,fun b hb=>?_,fun b hb=>?_,I.Mk,fun p hp=>?_,I.Mn,fun i hi=>?_,I.q,I.dR,I.iJ,I.b0,I.z⟩
 ·have hb:P.has b=true:=hb
  rw[mL G B hb,EJ G B hb];exact G.val b hb
 ·have hb:P.has b=true:=hb
  rw[EJ G B hb];exact G.fg b c hb hc gU
 ·have hb:P.has b=true:=hb
  rw[HP G B hb];exact I.id b hb
 ·have hb:P.has b=true:=hb
  rw[HP G B hb];exact I.M b hb
 ·obtain⟨h1,h2⟩:=I.Mh p hp
  exact⟨h1,by rw[HP G B h1];exact h2⟩
 ·have h2:∀ o,P.has o=true→¬ (o≤i∧(i:Int)<o+P.size o):=fun b hb=>by
   have:=hi b hb
   rw[EJ G B hb] at this
   exact this
  have h3:=h2 o B.1
  have:=B.2
  have:=size_pos G B.1
  rw[EK (by omega)]
  exact I.zero i h2
end
theorem Inv.vI (I:P.Inv) (a:Int) (v:Nat):(P.vI a v).Inv:=by
 unfold PH.vI
 split
 ·rename_i h
  refine⟨⟨I.cZ.val,I.cZ.fg⟩,I.id,I.M,I.Mk,I.Mh,I.Mn,I.zero,fun i hi=>?_,I.dR,I.iJ,I.b0,I.z⟩
  have hi:P.S i≠1:=hi
  show qS P.Q (a/2).toNat v i=0
  unfold qS
  rw[if_neg (fun e=>hi (by rw[e];exact(dT.1 h).2.2.2))]
  exact I.q i hi
 ·exact I
section
variable {a:Int}
theorem lX (h:P.has a=true) (b:Int):(P.kill a).has b=true↔(P.has b=true∧b≠a):=by
 have h0:=dT.1 h
 rw[dT,dT]
 show (0≤b∧b%2=0∧b/2<32*(P.N:Int)∧qS P.S (a/2).toNat 0 (b/2).toNat=1)↔_
 unfold qS
 constructor
 ·rintro⟨g1,g2,g3,g4⟩
  split at g4
  ·cases g4
  ·rename_i hne
   exact⟨⟨g1,g2,g3,g4⟩,fun e=>hne (by rw[e])⟩
 ·rintro⟨⟨g1,g2,g3,g4⟩,hne⟩
  refine⟨g1,g2,g3,?_⟩
  rw[if_neg (by omega)]
  exact g4
theorem pB (G:P.cZ) (h:P.has a=true) {b:Int} (hb:P.has b=true) (hne:b≠a):(P.kill a).shape b=P.shape b∧(P.kill a).size b=P.size b∧∀ i:Nat,b≤i→(i:Int)<b+P.size b→(P.kill a).w i=P.w i:=by
 obtain⟨s1,s2,s3,s4,s5⟩:=size_pos G hb
 obtain⟨t1,t2,t3,t4,t5⟩:=size_pos G h
 have e:∀ i:Nat,b≤i→(i:Int)<b+P.size b→(P.kill a).w i=P.w i:=fun i h1 h2=>by
  show (if a≤(i:Int)∧(i:Int)<a+P.size a then 0 else P.w i)=_
  rw[if_neg]
  rintro⟨h3,h4⟩
  rcases Int.lt_trichotomy b a with h' | h' | h'
  ·have:=G.fg b a hb h h';omega
  ·omega
  ·have:=G.fg a b h hb h';omega
 have e1:(P.kill a).shape b=P.shape b:=by
  unfold shape
  rw[e _ (by omega) (by omega)]
 exact⟨e1,by unfold size;rw[e1],e⟩
theorem RN {M:List (Int×Int)} {k k':Int} (h:k'≠k):(M.eraseP fun p=>p.1==k).lookup k'=M.lookup k':=by
 induction M with
 | nil=>rfl
 | cons p M ih =>
  rcases p with ⟨x,y⟩
  by_cases hx:x=k
  ·rw[List.eraseP_cons_of_pos (by simpa using hx),List.lookup_cons,show (k'==x)=false from beq_eq_false_iff_ne.2 (by rw[hx];exact h)]
  ·rw[List.eraseP_cons_of_neg (by simpa using hx),List.lookup_cons,List.lookup_cons,ih]
theorem ud {M:List (Int×Int)} {k:Int} (hn:(M.map Prod.fst).Nodup):∀ p∈M.eraseP (fun p=>p.1==k),p.1≠k:=by
 induction M with
 | nil=>intro p hp;cases hp
 | cons q M ih =>
  rcases q with ⟨x,y⟩
  rw[List.map_cons,List.nodup_cons] at hn
  intro p hp
  by_cases hx:x=k
  ·rw[List.eraseP_cons_of_pos (by simpa using hx)] at hp
   intro e
   have hm:p.1∈M.map Prod.fst:=List.mem_map_of_mem hp
   rw[e,← hx] at hm
   exact hn.1 hm
  ·rw[List.eraseP_cons_of_neg (by simpa using hx)] at hp
   rcases List.mem_cons.1 hp with rfl | hp
   ·exact hx
   ·exact ih hn.2 p hp
theorem Inv.kill (I:P.Inv) (h:P.has a=true):(P.kill a).Inv:=by
 have G:=I.cZ
 have idn:∀ b,P.has b=true→b≠a→P.w b.toNat≠P.w a.toNat:=fun b hb hne e=>by
  have h1:=I.M b hb
  rw[e,I.M a h] at h1
  exact hne (Option.some.inj h1).symm
 refine⟨⟨fun b hb=>?_,fun b c hb hc gU=>?_⟩,fun b hb=>?_,fun b hb=>?_,fun p hp=>?_,fun p hp=>?_,?_,fun i hi=>?_,fun i hi=>?_,I.dR,I.iJ,I.b0,fun b hb=>I.z b ((lX h b).1 hb).1⟩
 ·obtain⟨h1,h2⟩:=(lX h b).1 hb
  obtain⟨e1,e2,e3⟩:=pB G h h1 h2
  rw[e1,e2];exact G.val b h1
 ·obtain⟨h1,h2⟩:=(lX h b).1 hb
  rw[(pB G h h1 h2).2.1]
  exact G.fg b c h1 ((lX h c).1 hc).1 gU
 ·obtain⟨h1,h2⟩:=(lX h b).1 hb
  obtain⟨s1,s2,s3,s4,s5⟩:=size_pos G h1
  rw[(pB G h h1 h2).2.2 _ (by omega) (by omega)]
  exact I.id b h1
 ·obtain⟨h1,h2⟩:=(lX h b).1 hb
  obtain⟨s1,s2,s3,s4,s5⟩:=size_pos G h1
  rw[(pB G h h1 h2).2.2 _ (by omega) (by omega)]
  show (P.M.eraseP fun p=>p.1==P.w a.toNat).lookup _=_
  rw[RN (idn b h1 h2)]
  exact I.M b h1
 ·exact I.Mk p (List.mem_of_mem_eraseP hp)
 ·have hm:p∈P.M:=List.mem_of_mem_eraseP hp
  have hne:=ud I.Mn p hp
  obtain⟨g1,g2⟩:=I.Mh p hm
  have hna:p.2≠a:=fun e=>hne (by rw[← g2,e])
  obtain⟨s1,s2,s3,s4,s5⟩:=size_pos G g1
  exact⟨(lX h _).2 ⟨g1,hna⟩,by rw[(pB G h g1 hna).2.2 _ (by omega) (by omega)];exact g2⟩
 ·exact I.Mn.sublist ((List.eraseP_sublist).map _)
 ·show (if a≤(i:Int)∧(i:Int)<a+P.size a then 0 else P.w i)=0
  split
  ·rfl
  ·rename_i hc
   refine I.zero i fun o ho=>?_
   by_cases hoa:o=a
   ·rw[hoa];exact hc
   ·have:=hi o ((lX h o).2 ⟨ho,hoa⟩)
    rw[(pB G h ho hoa).2.1] at this
    exact this
 ·have hi:qS P.S (a/2).toNat 0 i≠1:=hi
  show qS P.Q (a/2).toNat 0 i=0
  unfold qS at hi ⊢
  split
  ·rfl
  ·rename_i hne
   rw[if_neg hne] at hi
   exact I.q i hi
end
end PH
open Go.Proofs
set_option maxRecDepth 100000
set_option maxHeartbeats 1000000
structure cV where
 a:Int
 id:Int
 sh:iV
 rn:Nat
 dn:Nat
 rs:List Int
 ds:List Int
 vI:Bool
def PH.words (P:PH) (j n:Int):List Int:=(List.range n.toNat).map fun i=>P.w (j.toNat+i)
structure cV.ok (P:PH) (o:cV):Prop where
 id:o.id=P.w o.a.toNat
 sh:o.sh=P.shape o.a
 rs:o.rs=P.words (o.a+2) o.sh.r
 ds:o.ds=P.words (o.a+2+o.sh.r) o.sh.d
 vI:o.vI=decide (P.Q (o.a/2).toNat=1)
structure kM (P:PH) (L:List cV):Prop where
 all:L.map cV.a=P.all
 ok:∀ o∈L,o.ok P
def below (L:List cV) (a:Int):Nat:=(L.takeWhile fun o=>decide (o.a<a)).length
def CV (L:List cV) (o:cV):List cV:=L.take (below L o.a)++[o]++L.drop (below L o.a)
theorem qW (P:PH) (j n:Int):(P.words j n).length=n.toNat:=by simp[PH.words]
theorem yX (P:PH) (j n:Int) {i:Nat} (h:i<n.toNat):(P.words j n)[i]?=some (P.w (j.toNat+i)):=by
 unfold PH.words
 rw[List.getElem?_map,List.getElem?_range h];rfl
theorem EW {P P':PH} {j n:Int} (h:∀ i:Nat,i<n.toNat→P'.w (j.toNat+i)=P.w (j.toNat+i)):P'.words j n=P.words j n:=by
 unfold PH.words
 exact List.map_congr_left fun i hi=>h i (List.mem_range.1 hi)
theorem qv {P:PH} {j n v:Int} {i:Nat} (h:i<n.toNat) (h0:0≤j):(P.gG (j+i) v).words j n=(P.words j n).set i v:=by
 apply List.ext_getElem?
 intro k
 by_cases hk:k<n.toNat
 ·rw[yX _ _ _ hk,List.getElem?_set,qW]
  by_cases e:i=k
  ·subst e
   rw[if_pos rfl,if_pos hk]
   show some (if j.toNat+i=(j+(i:Int)).toNat then v else _)=_
   rw[if_pos (by omega)]
  ·rw[if_neg e,yX _ _ _ hk]
   show some (if j.toNat+k=(j+(i:Int)).toNat then v else _)=_
   rw[if_neg (by omega)]
 ·rw[List.getElem?_eq_none (by rw[qW];omega),List.getElem?_eq_none (by rw[List.length_set,qW];omega)]
namespace kM
variable {P:PH} {L:List cV}
theorem mem (S:kM P L) {a:Int}:(∃ o∈L,o.a=a)↔P.has a=true:=by
 rw[← PH.yD,← S.all,List.mem_map]
theorem has (S:kM P L) {o:cV} (h:o∈L):P.has o.a=true:=S.mem.1 ⟨o,h,rfl⟩
theorem sorted (S:kM P L):(L.map cV.a).Pairwise (·<·):=by rw[S.all];exact PH.tT
theorem LL (S:kM P L) (G:P.cZ) {o:cV} (h:o∈L):0≤o.sh.r∧o.sh.r≤15∧0≤o.sh.d∧o.sh.d≤200∧o.a+2+o.sh.r+o.sh.d≤o.a+P.size o.a:=by
 have h1:=S.has h
 have h2:=G.val _ h1
 have h3:=(S.ok o h).sh
 have h4:=iV.eD h2.1
 have h5:=iV.dX.1 h2.1
 unfold PH.size
 rw[h3]
 omega
theorem iv {P':PH} (G:P.cZ) (S:kM P L) {o:cV} (ho:o∈L) (h1:P'.shape o.a=P.shape o.a) (h2:∀ i:Nat,o.a≤i→(i:Int)<o.a+P.size o.a→P'.w i=P.w i) (h3:P'.Q (o.a/2).toNat=P.Q (o.a/2).toNat):o.ok P':=by
 obtain⟨s1,s2,s3,s4,s5⟩:=S.LL G ho
 obtain⟨t1,t2,t3,t4,t5⟩:=PH.size_pos G (S.has ho)
 obtain⟨k1,k2,k3,k4,k5⟩:=S.ok o ho
 refine⟨?_,?_,?_,?_,?_⟩
 ·rw[k1,h2 _ (by omega) (by omega)]
 ·rw[h1];exact k2
 ·rw[k3];exact(EW fun i hi=>h2 _ (by omega) (by omega)).symm
 ·rw[k4];exact(EW fun i hi=>h2 _ (by omega) (by omega)).symm
 ·rw[h3];exact k5
theorem IG:∀ {L:List cV} {a:Int},∀ o∈L.take (below L a),o.a<a
 | [],a,o,h=>by cases h
 | x::L,a,o,h=>by
  unfold below at h
  rw[List.takeWhile_cons] at h
  split at h
  ·rename_i hx
   rw[List.length_cons,List.take_succ_cons] at h
   rcases List.mem_cons.1 h with rfl | h
   ·exact of_decide_eq_true hx
   ·exact IG o h
  ·cases h
theorem TR:∀ {L:List cV} {a:Int},(L.map cV.a).Pairwise (·<·)→∀ o∈L.drop (below L a),a≤o.a
 | [],a,_,o,h=>by cases h
 | x::L,a,hp,o,h=>by
  rw[List.map_cons,List.pairwise_cons] at hp
  unfold below at h
  rw[List.takeWhile_cons] at h
  split at h
  ·rw[List.length_cons,List.drop_succ_cons] at h
   exact TR hp.2 o h
  ·rename_i hx
   have hx:¬ x.a<a:=fun e=>hx (decide_eq_true e)
   rw[List.length_nil,List.drop_zero] at h
   rcases List.mem_cons.1 h with rfl | h
   ·omega
   ·have:=hp.1 o.a (List.mem_map_of_mem h)
    omega
theorem rN {L:List cV} {o x:cV}:x∈CV L o↔x∈L∨x=o:=by
 unfold CV
 rw[List.mem_append,List.mem_append,List.mem_singleton]
 have e:x∈L↔x∈L.take (below L o.a)∨x∈L.drop (below L o.a):=by rw[← List.mem_append,List.take_append_drop]
 rw[e]
 constructor
 ·rintro((h | h) | h)
  ·exact .inl (.inl h)
  ·exact .inr h
  ·exact .inl (.inr h)
 ·rintro((h | h) | h)
  ·exact .inl (.inl h)
  ·exact .inr h
  ·exact .inl (.inr h)
theorem WV {L:List cV} {o:cV} (hL:(L.map cV.a).Pairwise (·<·)) (hn:∀ x∈L,x.a≠o.a):((CV L o).map cV.a).Pairwise (·<·):=by
 unfold CV
 have h1:=IG (L:=L) (a:=o.a)
 have h2:=TR (a:=o.a) hL
 have hL':=hL
 rw[← List.take_append_drop (below L o.a) L,List.map_append,List.pairwise_append] at hL'
 rw[List.map_append,List.map_append,List.map_cons,List.map_nil,List.pairwise_append]
 refine⟨?_,hL'.2.1,?_⟩
 ·rw[List.pairwise_append]
  refine⟨hL'.1,List.pairwise_singleton ..,?_⟩
  intro x hx y hy
  obtain⟨u,hu,rfl⟩:=List.mem_map.1 hx
  rw[List.mem_singleton] at hy
  rw[hy]
  exact h1 u hu
 ·intro x hx y hy
  obtain⟨v,hv,rfl⟩:=List.mem_map.1 hy
  rcases List.mem_append.1 hx with hx | hx
  ·exact hL'.2.2 x hx _ hy
  ·rw[List.mem_singleton] at hx
   have:=h2 v hv
   have:=hn v (List.mem_of_mem_drop hv)
   omega
theorem place (I:P.Inv) (S:kM P L) {a:Int} {x:iV} (R:P.Room a x) (rn dn:Nat):kM (P.place a x) (CV L ⟨a,(P.born:Int)+1,x,rn,dn,List.replicate x.r.toNat 0,List.replicate x.d.toNat 0,false⟩):=by
 have G:=I.cZ
 have hw:=iV.eD R.v
 have hx:=iV.dX.1 R.v
 have na:∀ o∈L,o.a≠a:=fun o ho e=>by
  have h:=S.has ho
  rw[e] at h
  have:=R.apart a h
  have:=PH.size_pos G h
  omega
 have nh:P.has a=false:=by
  cases h:P.has a with
  | false=>rfl
  | true=>obtain⟨o,ho,e⟩:=S.mem.2 h;exact absurd e (na o ho)
 refine⟨AP (WV S.sorted na) PH.tT fun b=>?_,fun o ho=>?_⟩
 ·rw[PH.yD,PH.iK R,← S.mem,List.mem_map]
  constructor
  ·rintro⟨o,ho,rfl⟩
   rcases rN.1 ho with h | h
   ·exact .inl ⟨o,h,rfl⟩
   ·exact .inr (by rw[h])
  ·rintro(⟨o,ho,rfl⟩ | rfl)
   ·exact⟨o,rN.2 (.inl ho),rfl⟩
   ·exact⟨_,rN.2 (.inr rfl),rfl⟩
 ·have hz:∀ i:Nat,a≤i→(i:Int)<a+x.words→P.w i=0:=fun i h1 h2=>I.zero i fun o ho=>by
   have:=R.apart o ho
   omega
  have h0:=R.a0
  rcases rN.1 ho with h | h
  ·obtain⟨e1,e2,e3⟩:=PH.lA G R (S.has h)
   exact S.iv G h e1 e3 rfl
  ·rw[h]
   refine⟨(PH.CS h0).symm,(PH.wQ R.v).symm,?_,?_,?_⟩
   ·show List.replicate x.r.toNat 0=(P.place a x).words (a+2) x.r
    apply List.ext_getElem?
    intro i
    by_cases hi:i<x.r.toNat
    ·rw[yX _ _ _ hi,List.getElem?_replicate,if_pos hi,PH.CT (by omega) (by omega),hz _ (by omega) (by omega)]
    ·rw[List.getElem?_eq_none (by rw[List.length_replicate];omega),List.getElem?_eq_none (by rw[qW];omega)]
   ·show List.replicate x.d.toNat 0=(P.place a x).words (a+2+x.r) x.d
    apply List.ext_getElem?
    intro i
    by_cases hi:i<x.d.toNat
    ·rw[yX _ _ _ hi,List.getElem?_replicate,if_pos hi,PH.CT (by omega) (by omega),hz _ (by omega) (by omega)]
    ·rw[List.getElem?_eq_none (by rw[List.length_replicate];omega),List.getElem?_eq_none (by rw[qW];omega)]
   ·have:P.S (a/2).toNat≠1:=fun e=>by
     rw[PH.dT.2 ⟨by omega,R.ae,by have:=R.top;omega,e⟩] at nh
     cases nh
    show false=decide (P.Q (a/2).toNat=1)
    rw[I.q _ this]
    rfl
theorem kill (I:P.Inv) (S:kM P L) {i:Nat} (hi:i<L.length):kM (P.kill L[i].a) (L.eraseIdx i):=by
 have G:=I.cZ
 have hh:=S.has (List.getElem_mem hi)
 have hs:=S.sorted
 have hs':((L.eraseIdx i).map cV.a).Pairwise (·<·):=List.Pairwise.sublist ((List.eraseIdx_sublist L i).map _) hs
 have hne:∀ o∈L.eraseIdx i,o.a≠L[i].a:=fun o ho=>by
  rw[List.pairwise_map,List.pairwise_iff_getElem] at hs
  obtain⟨j,hj,rfl⟩:=List.mem_iff_getElem.1 ho
  rw[List.getElem_eraseIdx]
  rw[List.length_eraseIdx_of_lt hi] at hj
  split
  ·have:=hs j i (by omega) hi (by omega);omega
  ·have:=hs i (j+1) hi (by omega) (by omega);omega
 refine⟨AP hs' PH.tT fun b=>?_,fun o ho=>?_⟩
 ·rw[PH.yD,PH.lX hh,← S.mem,List.mem_map]
  constructor
  ·rintro⟨o,ho,rfl⟩
   exact⟨⟨o,List.mem_of_mem_eraseIdx ho,rfl⟩,hne o ho⟩
  ·rintro⟨⟨o,ho,rfl⟩,h2⟩
   refine⟨o,List.mem_eraseIdx_iff_getElem.2 ?_,rfl⟩
   obtain⟨j,hj,rfl⟩:=List.mem_iff_getElem.1 ho
   exact⟨j,hj,fun e=>h2 (by subst e;rfl),rfl⟩
 ·have ho':=List.mem_of_mem_eraseIdx ho
  obtain⟨e1,e2,e3⟩:=PH.pB G hh (S.has ho') (hne o ho)
  refine S.iv G ho' e1 e3 ?_
  show qS P.Q (L[i].a/2).toNat 0 (o.a/2).toNat=_
  unfold qS
  have g1:=PH.size_pos G hh
  have g2:=PH.size_pos G (S.has ho')
  have:=hne o ho
  rw[if_neg (by omega)]
theorem map_set {L:List cV} {i:Nat} {o:cV} (hi:i<L.length) (h:o.a=L[i].a):(L.set i o).map cV.a=L.map cV.a:=by
 apply List.ext_getElem?
 intro j
 rw[List.getElem?_map,List.getElem?_map,List.getElem?_set]
 split
 ·rename_i e
  subst e
  first | rw[if_pos hi] | skip
  rw[List.getElem?_eq_getElem hi]
  simp[h]
 ·rfl
theorem set {P':PH} (S:kM P L) {i:Nat} (hi:i<L.length) {o:cV} (ha:o.a=L[i].a) (hall:P'.all=P.all) (ho:o.ok P') (hr:∀ x∈L,x.a≠L[i].a→x.ok P'):kM P' (L.set i o):=by
 refine⟨by rw[map_set hi ha,hall];exact S.all,fun x hx=>?_⟩
 obtain⟨j,hj,rfl⟩:=List.mem_iff_getElem.1 hx
 rw[List.length_set] at hj
 rw[List.getElem_set]
 split
 ·exact ho
 ·rename_i hne
  refine hr _ (List.getElem_mem hj) fun e=>hne ?_
  have hs:=S.sorted
  rw[List.pairwise_map,List.pairwise_iff_getElem] at hs
  rcases Nat.lt_trichotomy i j with h | h | h
  ·have:=hs i j hi hj h;omega
  ·exact h
  ·have:=hs j i hj hi h;omega
theorem setRef (I:P.Inv) (S:kM P L) {i k:Nat} (hi:i<L.length) (hk:k<L[i].sh.r.toNat) (v:Int):kM (P.gG (L[i].a+2+k) v) (L.set i {L[i] with rs:=L[i].rs.set k v}):=by
 have G:=I.cZ
 have hm:=List.getElem_mem hi
 have hh:=S.has hm
 obtain⟨s1,s2,s3,s4,s5⟩:=S.LL G hm
 obtain⟨t1,t2,t3,t4,t5⟩:=PH.size_pos G hh
 obtain⟨k1,k2,k3,k4,k5⟩:=S.ok _ hm
 have B:P.Body L[i].a (L[i].a+2+k):=⟨hh,by omega,by omega⟩
 refine S.set hi rfl rfl ⟨?_,?_,?_,?_,k5⟩ fun x hx hne=>?_
 ·rw[PH.HP G B hh];exact k1
 ·rw[PH.mL G B hh];exact k2
 ·show L[i].rs.set k v=_
  rw[qv hk (by omega),← k3]
 ·show L[i].ds=_
  rw[k4]
  exact(EW fun i hi=>PH.EK (by omega)).symm
 ·have hx':=S.has hx
  obtain⟨u1,u2,u3,u4,u5⟩:=PH.size_pos G hx'
  refine S.iv G hx (PH.mL G B hx') (fun j h1 h2=>PH.EK ?_) rfl
  rcases Int.lt_trichotomy x.a L[i].a with h | h | h
  ·have:=G.fg _ _ hx' hh h;omega
  ·exact absurd h hne
  ·have:=G.fg _ _ hh hx' h;omega
theorem vI (S:kM P L) (G:P.cZ) {i:Nat} (hi:i<L.length) {v:Nat}:kM (P.vI L[i].a v) (L.set i {L[i] with vI:=decide (v=1)}):=by
 have hm:=List.getElem_mem hi
 have hh:=S.has hm
 obtain⟨k1,k2,k3,k4,k5⟩:=S.ok _ hm
 have g1:=PH.size_pos G hh
 unfold PH.vI
 rw[if_pos hh]
 refine S.set hi rfl rfl ⟨k1,k2,k3,k4,?_⟩ fun x hx hne=>?_
 ·show decide (v=1)=decide (qS P.Q (L[i].a/2).toNat v (L[i].a/2).toNat=1)
  unfold qS
  rw[if_pos rfl]
 ·have g2:=PH.size_pos G (S.has hx)
  refine S.iv G hx rfl (fun _ _ _=>rfl) ?_
  show qS P.Q (L[i].a/2).toNat v (x.a/2).toNat=_
  unfold qS
  rw[if_neg (by omega)]
end kM
end Go.Dust
