/- VerifyMarks walked in D, function by function, and its plain law (L4 M1 F1 M2 M3 M4). -/
import Derived.Test.YtaoiejcaopgjcaaGreatP
set_option linter.unusedVariables false
set_option linter.unusedSimpArgs false
open Nat renaming reduceEqDiff → zA, reduceMul → zB, reduceAdd → zC, reduceBEq → zD
open Int renaming reduceEq → zE, reduceBEq → zF
namespace Go.Dust
open Go.Proofs
set_option maxRecDepth 100000
set_option maxHeartbeats 1000000
theorem bS.gO {s:St} {h:Nat} {P:PH} (H:bS s h P) (hs:Ok s):∀ x∈P.bF h,x<s.next:=by
 intro x hx;obtain⟨U,hU,_⟩:=H.ts.ws;obtain⟨W,hW,_⟩:=H.tp.ws;simp only[PH.bF,List.mem_cons,List.not_mem_nil,or_false] at hx;rcases hx with rfl | rfl | rfl | rfl | rfl | rfl | rfl | rfl | rfl
 ·exact H.c.lt hs
 ·exact H.cb.lt hs
 ·exact H.cw.lt hs
 ·exact H.ts.c.lt hs
 ·exact hU.lt hs
 ·exact H.tp.c.lt hs
 ·exact hW.lt hs
 ·exact H.mp.lt hs
 ·exact H.mf.lt hs
theorem Fq {s:St} {b:Nat} {K:List Int} (h:iL s b (keys K)):∃ es aO,mapOf s.look b=some (es,aO)∧es.length=K.length:=by
 obtain⟨es,aO,aT,h1,h2,_⟩:=h;have:=congrArg List.length h2;rw[List.length_map,List.length_map,keys,List.length_map] at this;exact⟨es,aO,by simp only[mapOf,St.look,h1],this⟩
namespace PH
variable (P:PH)
def gX (K L:List Int):List Int:=L.foldl (P.visit (32*P.N)) K
def due (K:List Int) (a:Int):Bool:=K.contains a&&((P.aY a).k==2)&&K.contains (P.ref a 0)
def oT (K l:List Int):List Int:=(l.filter (P.due K)).map fun a=>P.ref a 1
def sP:Nat→List Int→List Int→Nat→List Int×Nat
 | 0,K,_,n=>(K,n)
 | f+1,K,L,n=>if (P.gX K L).length=K.length then(P.gX K L,n) else sP f (P.gX K L) (P.oT (P.gX K L) P.all) (n+1)
def rounds (L:List Int):List Int×Nat:=P.sP (32*P.N+1) [] L 0
theorem Bk {g:List Int→Int→List Int} (hg:∀ K a,g K a=K∨P.free (g K a)<P.free K):∀ (l K:List Int),l.foldl g K=K∨P.free (l.foldl g K)<P.free K:=by
 intro l
 induction l with
 | nil=>intro K;exact .inl rfl
 | cons y l ih =>
  intro K;rw[List.foldl_cons];rcases hg K y with h | h
  ·rw[h];exact ih K
  ·rcases ih (g K y) with h' | h'
   ·rw[h'];exact .inr h
   ·exact .inr (by omega)
theorem aIo:∀ n K a,P.visit n K a=K∨P.free (P.visit n K a)<P.free K:=by
 intro n
 induction n with
 | zero=>intro K a;exact .inl rfl
 | succ n ih =>
  intro K a;unfold visit;split
  ·rename_i h;have:=FM h.1 h.2;rcases P.Bk ih (P.gW a) (K++[a]) with h' | h'
   ·rw[h'];exact .inr this
   ·exact .inr (by omega)
  ·exact .inl rfl
theorem Pa (K L:List Int) (h:(P.gX K L).length≠K.length):P.free (P.gX K L)<P.free K:=by
 rcases P.Bk (P.aIo (32*P.N)) L K with h' | h'
 ·exact absurd (congrArg List.length h') h
 ·exact h'
theorem JE (K:List Int):P.free K≤32*P.N:=by
 unfold free;have:=List.length_filter_le (fun(i:Nat)=>!K.contains (2*(i:Int))) (List.range (32*P.N))
 rwa [List.length_range] at this
theorem aGa:∀ f K L n,(∀ x∈K,P.has x=true)→∀ x∈(P.sP f K L n).1,P.has x=true:=by
 intro f
 induction f with
 | zero=>intro K L n h;exact h
 | succ f ih =>
  intro K L n h;unfold sP;have hs:=P.Bl (P.aIp (32*P.N)) L K h;split
  ·exact hs
  ·exact ih _ _ _ hs
theorem aGb (L:List Int):∀ x∈(P.rounds L).1,P.has x=true:=P.aGa _ _ _ _ fun x hx=>by cases hx
theorem aD3 (K l:List Int) (a:Int):P.oT K (l++[a])=P.oT K l++if P.due K a=true then [P.ref a 1] else []:=by
 unfold oT;rw[List.filter_append,List.map_append,List.filter_cons,List.filter_nil];split <;> rfl
theorem Ip (K l:List Int):(P.oT K l).length≤l.length:=by
 unfold oT;rw[List.length_map];exact List.length_filter_le _ _
theorem ML (hN:P.N≤64) {a:Int} (h:a∈P.all):i64 a:=by
 unfold all at h;obtain⟨i,hi,rfl⟩:=List.mem_map.1 h;unfold mP at hi;have:=List.mem_range.1 (List.mem_filter.1 hi).1;exact⟨by omega,by omega⟩
theorem tB:P.all.length≤32*P.N:=by
 unfold all mP;rw[List.length_map];have:=List.length_filter_le P.jF (List.range (32*P.N))
 rwa [List.length_range] at this
end PH
section
variable {kc:Kc} {q:Bool} {s:St} {Φ:Value→St→Prop} {h:Nat} {P:PH}
theorem cY:type_of% (An @RX<|An @Hu<|An @sy<|An @Of<|An @tf<|An @Og<|An @VN<|An @Gl<|An @dG<|An @dE<|An @aW<|An @VO<|An @kW<|An @VX<|@jE):=An @RX<|An @Hu<|An @sy<|An @Of<|An @tf<|An @Og<|An @VN<|An @Gl<|An @dG<|An @dE<|An @aW<|An @VO<|An @kW<|An @VX<|@jE
theorem aEk (hs:Ok s) (H:bS s h P) (G:P.cM) {va:Option Addr} {vn vc:Nat} {L:List Int} (hL:gL s (.slice va vn vc) L) (tI:vn<100000) (kK:∀ b∈nameOf (.slice va vn vc),b<s.next) (eg:∀ x∈L,i64 x)
  (hΦ:∀ mb s',iL s' mb (keys (P.rounds L).1)→aC [] s s'→s.next≤mb→Φ (.tuple #[.map (some mb),int (P.rounds L).2]) s'):okF q X (KO kc) 70 [ptr h,.slice va vn vc] s Φ:=by
 have bW:=H.bW;refine aV rfl J5 rfl (rs:=[.tmp 4,.tmp 5]) rfl (N:=79) rfl rfl ?_;refine aA fun bB aF aZ=>?_;simp only[cY,↓reduceIte,zA,reduceCtorEq,zE,zB,zC,zD,zF];obtain⟨s1,e1,k1,c1,n1⟩:=cA hs (L:=[ptr h]) (n:=1) (e:=34) rfl;rw[e1];refine aF _ _ ?_;refine aA fun Ψ1 aE aK=>?_;simp only[cY,↓reduceIte,zA,reduceCtorEq,zE,zB,zC,zD,zF];obtain⟨s2,e2,k2,c2,n2⟩:∃ S,(s1.new fun v=>bU.map [] 0 v)=S∧aC [] s1 S∧iL S s1.next []∧S.next=s1.next+2 :=
  ⟨_,rfl,(aC.refl k1.ok).new (.inr (Nat.le_refl _)),iL.pV (s:=s1) (x:=s1.next),rfl⟩
 rw[e2];obtain⟨s3,e3,k3,c3,n3⟩:=cA k2.ok (L:=[.map none]) (n:=1) (e:=121) rfl;rw[e3];obtain⟨s4,e4,c4,k4⟩:=c3.storeAll k3.ok (vs:=[.map (some s1.next)]) rfl rfl;rw[e4];have KD:aC [] s2 s4:=k3.step k4 fun g hg=>.inr (by rw[List.mem_singleton.1 hg];exact k2.ok.fresh _ (Nat.le_refl _));simp only[cY,↓reduceIte,zA,reduceCtorEq,zE,zB,zC,zD,zF];refine aE _ _ ?_;refine aA fun Ψ2 aH bM=>?_;simp only[cY,↓reduceIte,zA,reduceCtorEq,zE,zB,zC,zD,zF];obtain⟨s5,e5,k5,c5,n5⟩:=cA KD.ok (L:=[.nilFunc]) (n:=1) (e:=126) rfl;rw[e5];refine aH _ _ ?_;refine aA fun Ψ3 aM bN=>?_;simp only[cY,↓reduceIte,zA,reduceCtorEq,zE,zB,zC,zD,zF];obtain⟨s6,e6,c6,k6⟩:=c5.storeAll k5.ok (vs:=[.func (.func 162) #[] #[ptr s.next,ptr s2.next,ptr s4.next]]) rfl rfl;have AV:aC [] s4 s6:=k5.step k6 fun g hg=>.inr (by rw[List.mem_singleton.1 hg];exact KD.ok.fresh _ (Nat.le_refl _));have rI:aC [] s s6:=(k1.trans k2).trans (KD.trans AV);rw[e6];simp only[cY,↓reduceIte,zA,reduceCtorEq,zE,zB,zC,zD,zF];refine aM _ _ ?_;have n24:=KD.next;have n46:=AV.next;have V6:qD s6 h P s.next s2.next s4.next s1.next []:=by
  refine⟨H.aL rI,G,c1.aD (k2.trans (KD.trans AV)) (by simp),c4.aD AV (by simp),c6,c2.aD (KD.trans AV) (by simp),fun hh=>?_,by omega,by omega,by omega⟩;have:=H.gO hs _ hh;omega
 have P9:gL s6 (.slice va vn vc) L:=hL.aD rI (by simp);refine aA fun Ψ4 aQ bZ=>?_;simp only[cY,↓reduceIte,zA,reduceCtorEq,zE,zB,zC,zD,zF];refine aQ _ _ ?_;refine aA fun cP bI cF=>?_;simp only[cY,↓reduceIte,zA,reduceCtorEq,zE,zB,zC,zD,zF];refine bI _ _ ?_;refine cB fun dK bO pA cV=>?_;refine cN.loop (fun k a' s'=>∃ K Lc n f va vn vc,k=P.free K∧P.free K<f∧P.sP f K Lc n=P.rounds L∧n+P.free K≤32*P.N∧a'.aB 2=ptr s.next∧a'.aB 6=ptr s2.next∧a'.aB 7=ptr s4.next∧a'.aB 8=int n∧a'.aB 9=.slice va vn vc∧gL s' (.slice va vn vc) Lc∧vn<100000∧(∀ x∈Lc,i64 x)∧(∀ b∈nameOf (.slice va vn vc),b≠s1.next)∧qD s' h P s.next s2.next s4.next s1.next K∧aC [s1.next] s6 s') ?_ (P.free []) ?_
 ·rintro k a' s' ⟨K,Lc,n,f,va,vn,vc,rfl,hf,hR,hn,r2,r6,r7,r8,r9,uZ,hmx,eg,hnm,V,hk⟩;have lm:=V.om.load (i:=0) rfl;refine aA fun fJ cC eF=>?_;refine cB fun jC dA sJ iI=>?_;refine aA fun lJ dW jP=>?_;obtain⟨es,aO,m1,m2⟩:=Fq V.mp;simp only[cY,↓reduceIte,zA,reduceCtorEq,zE,zB,zC,zD,zF,r6,lm,m1,m2];refine dW _ _ ?_;refine aA fun mZ eB nH=>?_;refine aA fun rS kL qK=>?_;simp only[cY,↓reduceIte,zA,reduceCtorEq,zE,zB,zC,zD,zF,r9];refine kL _ _ ?_;refine cB fun uH kV ie tJ=>?_;refine qP (n:=vn) (fun j a' s'=>a'.aB 2=ptr s.next∧a'.aB 6=ptr s2.next∧a'.aB 7=ptr s4.next∧a'.aB 8=int n∧a'.aB 10=int K.length∧a'.aB 26=.slice va vn vc∧a'.aB 27=int vn∧a'.aB 28=int j∧qD s' h P s.next s2.next s4.next s1.next ((Lc.take j).foldl (P.visit (32*P.N)) K)∧aC [s1.next] s6 s'∧gL s' (.slice va vn vc) Lc)
   (fun j a' s'=>a'.aB 2=ptr s.next∧a'.aB 6=ptr s2.next∧a'.aB 7=ptr s4.next∧a'.aB 8=int n∧a'.aB 10=int K.length∧a'.aB 26=.slice va vn vc∧a'.aB 27=int vn∧a'.aB 28=int j∧qD s' h P s.next s2.next s4.next s1.next ((Lc.take (j+1)).foldl (P.visit (32*P.N)) K)∧aC [s1.next] s6 s'∧gL s' (.slice va vn vc) Lc) ?_ ?_ ?_ ?_ (Nat.zero_le _) ?_
  ·rintro j a' s' hj ⟨r2,r6,r7,r8,cL,HI,oU,nK,hV,hk,uZ⟩ aR bH;simp only[cY,↓reduceIte,zA,reduceCtorEq,zE,zB,zC,zD,zF,oU,nK];refine bH _ _ (decide ((j:Int)<vn)) ?_ (by simp) ⟨?_,?_,?_,?_,?_,?_,?_,?_,hV,hk,uZ⟩
   all_goals simp only[cY,↓reduceIte,zA,reduceCtorEq,zE,zB,zC,zD,zF,r2,r6,r7,r8,cL,HI,oU,nK]
  ·rintro j a' s' hj ⟨r2,r6,r7,r8,cL,HI,oU,nK,hV,hk,uZ⟩ aR h1 h2 h3;obtain⟨vb,dM,rfl⟩:=Sl.addr uZ (show 0<vn by omega);have hlen:Lc.length=vn:=uZ.len;have g1:(0:Int)≤(j:Int):=Int.natCast_nonneg _;have g2:(j:Int)<((vn:Nat):Int):=by omega
   have lj:aI s'.look ⟨vb,dM+j,none⟩=some (int (Lc[j]'(by omega))):=uZ.get (List.getElem?_eq_getElem _);have lf:=hV.of.load (i:=0) rfl;have hi:i64 (Lc[j]'(by omega)):=eg _ (List.getElem_mem _);refine aA fun AA oF yX=>?_;simp only[cY,↓reduceIte,zA,reduceCtorEq,zE,zB,zC,zD,zF,HI,nK,g1,g2,and_self,bJ,Int.toNat_natCast,Nat.mul_one,lj];refine oF _ _ ?_;simp only[cY,↓reduceIte,zA,reduceCtorEq,zE,zB,zC,zD,zF,r7,lf];refine HD (fi:=#[]) (ca:=#[ptr s.next,ptr s2.next,ptr s4.next]) ?_ ?_ (aEn (32*P.N) hk.ok hV hi (P.JE _) fun s5 V5 k5=>?_)
   ·simp only[cY,↓reduceIte,zA,reduceCtorEq,zE,zB,zC,zD,zF]
   ·simp only[cY,↓reduceIte,zA,reduceCtorEq,zE,zB,zC,zD,zF]
   simp only[cY,↓reduceIte,zA,reduceCtorEq,zE,zB,zC,zD,zF];refine h1 _ _ ⟨?_,?_,?_,?_,?_,?_,?_,?_,?_,hk.trans k5,Sl.aD uZ k5 fun b hb hb'=>?_⟩
   all_goals try simp only[cY,↓reduceIte,zA,reduceCtorEq,zE,zB,zC,zD,zF,r2,r6,r7,r8,cL,HI,oU,nK]
   ·rw[List.take_add_one,List.getElem?_eq_getElem (show j<Lc.length by omega),List.foldl_append];exact V5
   ·exact hnm b hb (by simpa using hb')
  ·rintro j a' s' hj ⟨r2,r6,r7,r8,cL,HI,oU,nK,hV,hk,uZ⟩ aR h1;have w:IntKind.i64.wrap ((j:Int)+1)=((j+1:Nat):Int):=by rw[aU (by omega) (by omega)];rfl
   simp only[cY,↓reduceIte,zA,reduceCtorEq,zE,zB,zC,zD,zF,nK,w];refine h1 _ _ ⟨?_,?_,?_,?_,?_,?_,?_,?_,hV,hk,uZ⟩
   all_goals try simp only[cY,↓reduceIte,zA,reduceCtorEq,zE,zB,zC,zD,zF,r2,r6,r7,r8,cL,HI,oU]
  ·rintro a' s' ⟨r2,r6,r7,r8,cL,HI,oU,nK,hV,hk,uZ⟩;refine ie _ _ (eB _ _ ?_);have fq:=hk;have hlen:Lc.length=vn:=uZ.len;rw[List.take_of_length_le (by omega)] at hV;have lm:=hV.om.load (i:=0) rfl;obtain⟨es,aO,m1,m2⟩:=Fq hV.mp;refine aA fun ME wP GO=>?_;refine aA fun ZD AQ VE=>?_;simp only[cY,↓reduceIte,zA,reduceCtorEq,zE,zB,zC,zD,zF,r6,lm,m1,m2,cL];refine AQ _ _ ?_;have hsw:List.foldl (P.visit (32*P.N)) K Lc=P.gX K Lc:=rfl;rw[hsw] at hV m2 ⊢;obtain⟨f,rfl⟩:∃ f',f=f'+1:=⟨f-1,by omega⟩;unfold PH.sP at hR;by_cases he:(P.gX K Lc).length=K.length
   ·have eb:(((P.gX K Lc).length:Int)==(K.length:Int))=true:=by rw[beq_iff_eq];omega
    rw[if_pos he] at hR;rw[← hR] at hΦ;simp only[cY,↓reduceIte,zA,reduceCtorEq,zE,zB,zC,zD,zF,eb,r6,lm,r8];refine GO _ _ _ (by simp) (iI _ _ _ (by simp) (by simp) (eF _ _ _ (by simp) (cV _ _ _ (by simp) (by simp) ?_)));simp only[cY,↓reduceIte,zA,reduceCtorEq,zE,zB,zC,zD,zF];exact hΦ s1.next s' hV.mp (rI.step hk fun g hg=>.inr (hs.fresh _ (by simp at hg;omega))) (by omega)
   ·have eb:(((P.gX K Lc).length:Int)==(K.length:Int))=false:=by rw[beq_eq_false_iff_ne];omega
    have JO:=P.Pa K Lc he;rw[if_neg he] at hR;simp only[cY,↓reduceIte,zA,reduceCtorEq,zE,zB,zC,zD,zF,eb];refine wP _ _ ?_;refine aA fun ri JV ij=>?_;simp only[cY,↓reduceIte,zA,reduceCtorEq,zE,zB,zC,zD,zF];refine JV _ _ ?_;refine aA fun Rx OB Eo=>?_;have lh:=hV.oh.load (i:=0) rfl;simp only[cY,↓reduceIte,zA,reduceCtorEq,zE,zB,zC,zD,zF,r2,lh];refine aJ ?_ (fe hk.ok hV.H fun s7 aa an ac b7 DA aA7 k7=>?_)
    ·simp only[cY,↓reduceIte,zA,reduceCtorEq,zE,zB,zC,zD,zF]
    try simp only[cY,↓reduceIte,zA,reduceCtorEq,zE,zB,zC,zD,zF]
    refine OB _ _ ?_;have V7:=hV.aD k7;have hal:=P.tB;refine cB fun aJ1 Ep aAn aAm=>?_;subst DA;refine qP (n:=P.all.length) (fun j a' s'=>∃ va vn vc,a'.aB 2=ptr s.next∧a'.aB 6=ptr s2.next∧a'.aB 7=ptr s4.next∧a'.aB 8=int n∧a'.aB 9=.slice va vn vc∧vn=(P.oT (P.gX K Lc) (P.all.take j)).length∧bE s' 3 1 (.slice va vn vc) ((P.oT (P.gX K Lc) (P.all.take j)).map int)∧(∀ b∈nameOf (.slice va vn vc),s7.next≤b)∧a'.aB 43=.slice aa P.all.length ac∧a'.aB 44=int P.all.length∧a'.aB 45=int j∧aC [] s7 s')
     (fun j a' s'=>∃ va vn vc,a'.aB 2=ptr s.next∧a'.aB 6=ptr s2.next∧a'.aB 7=ptr s4.next∧a'.aB 8=int n∧a'.aB 9=.slice va vn vc∧vn=(P.oT (P.gX K Lc) (P.all.take (j+1))).length∧bE s' 3 1 (.slice va vn vc) ((P.oT (P.gX K Lc) (P.all.take (j+1))).map int)∧(∀ b∈nameOf (.slice va vn vc),s7.next≤b)∧a'.aB 43=.slice aa P.all.length ac∧a'.aB 44=int P.all.length∧a'.aB 45=int j∧aC [] s7 s') ?_ ?_ ?_ ?_ (Nat.zero_le _) ?_
    ·rintro j a' s' hj ⟨va,vn,vc,r2,r6,r7,r8,r9,kK,hb,hnm,zQ,oV,jQ,hk⟩ aR bH;simp only[cY,↓reduceIte,zA,reduceCtorEq,zE,zB,zC,zD,zF,oV,jQ];refine bH _ _ (decide ((j:Int)<P.all.length)) ?_ (by simp) ⟨va,vn,vc,?_,?_,?_,?_,?_,kK,hb,hnm,?_,?_,?_,hk⟩
     all_goals simp only[cY,↓reduceIte,zA,reduceCtorEq,zE,zB,zC,zD,zF,r2,r6,r7,r8,r9,zQ,oV,jQ]
    ·rintro j a' s' hj ⟨va,vn,vc,r2,r6,r7,r8,r9,kK,hb,hnm,zQ,oV,jQ,hk⟩ aR h1 h2 h3;obtain⟨vb,dM,rfl⟩:=b7.sl.addr (show 0<P.all.length by omega);have g1:(0:Int)≤(j:Int):=Int.natCast_nonneg _;have g2:(j:Int)<((P.all.length:Nat):Int):=by omega
     obtain⟨x,hx⟩:∃ x,x=P.all[j]:=⟨_,rfl⟩;have lj:aI s'.look ⟨vb,dM+j,none⟩=some (int x):=by
      refine(b7.sl.aD hk (by simp)).load (i:=j) ?_;rw[List.getElem?_map,List.getElem?_eq_getElem hj,hx];rfl
     have hxi:i64 x:=P.ML bW (by rw[hx];exact List.getElem_mem _);have V8:=V7.aD hk;have lm:=V8.om.load (i:=0) rfl;have lh:=V8.oh.load (i:=0) rfl;obtain⟨es,aO,m1,m2⟩:=jk V8.mp x;have DB:P.all.take (j+1)=P.all.take j++[x]:=by rw[List.take_add_one,List.getElem?_eq_getElem hj,hx];rfl
     have sI:=P.aD3 (P.gX K Lc) (P.all.take j) x;rw[← DB] at sI;have hno:P.due (P.gX K Lc) x=false→P.oT (P.gX K Lc) (P.all.take (j+1))=P.oT (P.gX K Lc) (P.all.take j):=fun h=>by rw[sI,h,if_neg (by simp),List.append_nil]
     have hlen:(P.oT (P.gX K Lc) (P.all.take j)).length≤P.all.length:=by
      have h1:=P.Ip (P.gX K Lc) (P.all.take j);have h2:=List.length_take_le j P.all;rw[List.length_take] at h1;omega
     refine aA fun Ry GP Er=>?_;simp only[cY,↓reduceIte,zA,reduceCtorEq,zE,zB,zC,zD,zF,zQ,jQ,g1,g2,and_self,bJ,Int.toNat_natCast,Nat.mul_one,lj];refine GP _ _ ?_;refine aA fun RI rH GQ=>?_;refine aA fun Sa GR Es=>?_;refine cK [(4,53)] (by kernel_rfl) fun O hO bK hR=>?_;have y4:∀ a,aN O a 4=bC (a.aB 53):=hO (4,53) (by simp);rcases m2 with ⟨hc,m2⟩ | ⟨hc,i,m2⟩
     ·have hd:=hno (by unfold PH.due;rw[hc];rfl);simp only[cY,↓reduceIte,zA,reduceCtorEq,zE,zB,zC,zD,zF,y4,r6,lm,m1,m2];refine hR _ _ (GR _ _ ?_);simp only[cY,↓reduceIte,zA,reduceCtorEq,zE,zB,zC,zD,zF];refine GQ _ _ _ (by simp) (h2 _ _ ⟨va,vn,vc,?_,?_,?_,?_,?_,by rw[hd];exact kK,by rw[hd];exact hb,hnm,?_,?_,?_,hk⟩)
      all_goals simp only[cY,↓reduceIte,zA,reduceCtorEq,zE,zB,zC,zD,zF,r2,r6,r7,r8,r9,zQ,oV,jQ]
     ·simp only[cY,↓reduceIte,zA,reduceCtorEq,zE,zB,zC,zD,zF,y4,r6,lm,m1,m2,r2,lh];refine aJ ?_ (aEi hk.ok V8.H x hxi fun s8 k8=>?_)
      ·simp only[cY,↓reduceIte,zA,reduceCtorEq,zE,zB,zC,zD,zF]
      have fO:=hk.trans k8;have V9:=V8.aD k8;have lm9:=V9.om.load (i:=0) rfl;have lh9:=V9.oh.load (i:=0) rfl;cases AO:((P.aY x).k==2) with
      | false =>
       have hd:=hno (by unfold PH.due;rw[AO];simp);simp only[cY,↓reduceIte,zA,reduceCtorEq,zE,zB,zC,zD,zF,y4,bne,AO];refine hR _ _ (GR _ _ ?_);simp only[cY,↓reduceIte,zA,reduceCtorEq,zE,zB,zC,zD,zF];refine GQ _ _ _ (by simp) (h2 _ _ ⟨va,vn,vc,?_,?_,?_,?_,?_,by rw[hd];exact kK,by rw[hd];exact hb.aD k8 (by simp),hnm,?_,?_,?_,fO⟩)
       all_goals simp only[cY,↓reduceIte,zA,reduceCtorEq,zE,zB,zC,zD,zF,r2,r6,r7,r8,r9,zQ,oV,jQ]
      | true =>
       simp only[cY,↓reduceIte,zA,reduceCtorEq,zE,zB,zC,zD,zF,y4,bne,AO];refine hR _ _ (GR _ _ ?_);simp only[cY,↓reduceIte,zA,reduceCtorEq,zE,zB,zC,zD,zF];refine rH _ _ ?_;refine aA fun Sb OC Et=>?_;simp only[cY,↓reduceIte,zA,reduceCtorEq,zE,zB,zC,zD,zF,r2,lh9];refine aJ ?_ (FZ fO.ok V9.H G x 0 hxi fun s9 k9=>?_)
       ·simp only[cY,↓reduceIte,zA,reduceCtorEq,zE,zB,zC,zD,zF]
       simp only[cY,↓reduceIte,zA,reduceCtorEq,zE,zB,zC,zD,zF];refine OC _ _ ?_;have rF:=fO.trans k9;have Va:=V9.aD k9;have Gs:=Va.om.load (i:=0) rfl;have lha:=Va.oh.load (i:=0) rfl;obtain⟨es',aJ6,p1,p2⟩:=jk Va.mp (P.ref x 0);refine aA fun Sc JW Eu=>?_;rcases p2 with ⟨NN,p2⟩ | ⟨NN,i',p2⟩
       ·have hd:=hno (by unfold PH.due;rw[NN];simp);simp only[cY,↓reduceIte,zA,reduceCtorEq,zE,zB,zC,zD,zF,r6,Gs,p1,p2];refine JW _ _ ?_;simp only[cY,↓reduceIte,zA,reduceCtorEq,zE,zB,zC,zD,zF];refine h1 _ _ ⟨va,vn,vc,?_,?_,?_,?_,?_,by rw[hd];exact kK,by rw[hd];exact(hb.aD k8 (by simp)).aD k9 (by simp),hnm,?_,?_,?_,rF⟩
        all_goals simp only[cY,↓reduceIte,zA,reduceCtorEq,zE,zB,zC,zD,zF,r2,r6,r7,r8,r9,zQ,oV,jQ]
       ·have hd:P.oT (P.gX K Lc) (P.all.take (j+1))=P.oT (P.gX K Lc) (P.all.take j)++[P.ref x 1]:=by
         rw[sI,if_pos (by unfold PH.due;rw[hc,AO,NN];rfl)]
        simp only[cY,↓reduceIte,zA,reduceCtorEq,zE,zB,zC,zD,zF,r6,Gs,p1,p2];refine JW _ _ ?_;simp only[eG,RV,RG,↓reduceIte,zA,reduceCtorEq,zE,zB,zC,zD,zF];refine aA fun Sd JX Ev=>?_;simp only[cY,↓reduceIte,zA,reduceCtorEq,zE,zB,zC,zD,zF,r2,lha];refine aJ ?_ (FZ rF.ok Va.H G x 1 hxi fun t1 q1=>?_)
        ·simp only[cY,↓reduceIte,zA,reduceCtorEq,zE,zB,zC,zD,zF]
        simp only[cY,↓reduceIte,zA,reduceCtorEq,zE,zB,zC,zD,zF];refine JX _ _ ?_;have GL:=rF.trans q1;obtain⟨t2,f2,q2,d2,u2⟩:=cA GL.ok (L:=[int (P.ref x 1)]) (n:=1) (e:=3) rfl;obtain⟨w,t3,f3,b3,q3,m3,a3,qG,rfl⟩:=iT (X:=X) (t:=62) (e:=3) (N:=1) (B:=8) (z:=.int .i64 0) (x:=.slice (some ⟨t1.next,0,none⟩) 1 1) (k:=1) (new:=[int (P.ref x 1)]) (by kernel_rfl) (by kernel_rfl) rfl q2.ok (by omega) ((((hb.aD k8 (by simp)).aD k9 (by simp)).aD q1 (by simp)).aD q2 (by simp)) rfl (kT (by omega) (d2.bD (i:=0) (k:=1) (Nat.le_refl _))) rfl rfl (by omega) (by omega);simp only[cY,↓reduceIte,zA,reduceCtorEq,zE,zB,zC,zD,zF,r9];rw[f2];refine iX ?_ f3 ?_
        ·simp only[cY,↓reduceIte,zA,reduceCtorEq,zE,zB,zC,zD,zF]
        simp only[cY,↓reduceIte,zA,reduceCtorEq,zE,zB,zC,zD,zF];have DA:=(GL.trans q2).next;refine h1 _ _ ⟨a3,vn+1,qG,?_,?_,?_,?_,?_,by rw[hd,List.length_append,← kK];rfl,by rw[hd,List.map_append];exact b3,?_,?_,?_,?_,(GL.trans q2).step q3 fun g hg=>.inr (k7.ok.fresh _ (hnm g hg))⟩
        ·simp only[cY,↓reduceIte,zA,reduceCtorEq,zE,zB,zC,zD,zF,r2]
        ·simp only[cY,↓reduceIte,zA,reduceCtorEq,zE,zB,zC,zD,zF,r6]
        ·simp only[cY,↓reduceIte,zA,reduceCtorEq,zE,zB,zC,zD,zF,r7]
        ·simp only[cY,↓reduceIte,zA,reduceCtorEq,zE,zB,zC,zD,zF,r8]
        ·simp only[cY,↓reduceIte,zA,reduceCtorEq,zE,zB,zC,zD,zF]
        ·intro b hb';rcases m3 b hb' with h | h
         ·exact hnm b h
         ·omega
        ·simp only[cY,↓reduceIte,zA,reduceCtorEq,zE,zB,zC,zD,zF,zQ]
        ·simp only[cY,↓reduceIte,zA,reduceCtorEq,zE,zB,zC,zD,zF,oV]
        ·simp only[cY,↓reduceIte,zA,reduceCtorEq,zE,zB,zC,zD,zF,jQ]
    ·rintro j a' s' hj ⟨va,vn,vc,r2,r6,r7,r8,r9,kK,hb,hnm,zQ,oV,jQ,hk⟩ aR h1;have w:IntKind.i64.wrap ((j:Int)+1)=((j+1:Nat):Int):=by rw[aU (by omega) (by omega)];rfl
     simp only[cY,↓reduceIte,zA,reduceCtorEq,zE,zB,zC,zD,zF,jQ,w];refine h1 _ _ ⟨va,vn,vc,?_,?_,?_,?_,?_,kK,hb,hnm,?_,?_,?_,hk⟩
     all_goals try simp only[cY,↓reduceIte,zA,reduceCtorEq,zE,zB,zC,zD,zF,r2,r6,r7,r8,r9,zQ,oV]
    ·rintro a' s' ⟨va,vn,vc,r2,r6,r7,r8,r9,kK,hb,hnm,zQ,oV,jQ,hk⟩;rw[List.take_of_length_le (Nat.le_refl _)] at kK hb;refine aAn _ _ (dA _ _ (cC _ _ ?_));have w:IntKind.i64.wrap ((n:Int)+1)=((n+1:Nat):Int):=by rw[aU (by omega) (by omega)];rfl
     have n7:=k7.next;have nk:=fq.next;have hnl:=P.Ip (P.gX K Lc) P.all;simp only[cY,↓reduceIte,zA,reduceCtorEq,zE,zB,zC,zD,zF,r8,w];refine⟨P.free (P.gX K Lc),JO,P.gX K Lc,rfl,P.oT (P.gX K Lc) P.all,n+1,f,by omega,hR,by omega,r2,r6,r7,rfl,va,vn,vc,r9,hb.sl,by omega,?_,?_,V7.aD hk,?_⟩
     ·intro x hx;obtain⟨y,hy,rfl⟩:=List.mem_map.1 hx;exact PH.Kt H y 1
     ·intro b hb;have h1:=hnm b hb;have h2:=hV.mp.lt fq.ok;omega
     ·exact fq.trans (k7.any.trans hk.any)
    ·refine⟨none,0,0,?_,?_,?_,?_,?_,rfl,.nil,by simp[nameOf],?_,?_,?_,.refl k7.ok⟩
     all_goals try simp only[cY,↓reduceIte,zA,reduceCtorEq,zE,zB,zC,zD,zF,r2,r6,r7,r8]
     rfl
  ·refine⟨?_,?_,?_,?_,?_,?_,?_,?_,V,hk,uZ⟩
   all_goals try simp only[cY,↓reduceIte,zA,reduceCtorEq,zE,zB,zC,zD,zF,r2,r6,r7,r8,r9]
   rfl
 ·refine⟨[],L,0,32*P.N+1,va,vn,vc,rfl,by have:=P.JE [];omega,rfl,by have:=P.JE [];omega,?_,?_,?_,?_,?_,P9,tI,eg,?_,V6,.refl rI.ok⟩
  all_goals try simp only[cY,↓reduceIte,zA,reduceCtorEq,zE,zB,zC,zD,zF]
  ·rfl
  ·intro b hb;have:=kK b hb;omega
end
open Go.Proofs
set_option maxRecDepth 100000
set_option maxHeartbeats 1000000
def qO (K:List Int) (i:Nat):Nat:=if K.contains (2*(i:Int))=true then 1 else 0
theorem aCt:qO []=fun _=>0:=by funext i;rfl
theorem aCu (K:List Int) (j:Nat):jB (qO K) j 1=qO (K++[2*(j:Int)]):=by
 funext i;unfold jB qO;by_cases h:i=j
 ·subst h;simp
 ·rw[if_neg h];have:(K++[2*(j:Int)]).contains (2*(i:Int))=K.contains (2*(i:Int)):=by
   rw[Bool.eq_iff_iff];simp only[List.contains_iff_mem,List.mem_append,List.mem_singleton];constructor
   ·rintro(h' | h')
    ·exact h'
    ·omega
   ·exact .inl
  rw[this]
def vJ (P:PH) (K:List Int) (a:Int):List Int:=if P.has a=true∧K.contains a=false then K++[a] else K
def nV (P:PH) (K:List Int) (a:Int):Bool:=P.has a&&!K.contains a
section
variable {kc:Kc} {q:Bool} {s:St} {Φ:Value→St→Prop} {t u n w:Nat} {L:Nat→Nat}
theorem pI:type_of% (An @RX<|@xe):=An @RX<|@xe
theorem aH8 (hs:Ok s) (h:eZ s t u n w L) {i o v:Nat} {o' v':Int} (eo:o'=o) (ev:v'=v) (hi:i<n) (ho:o<2 ^ w) (hv:v<2 ^ w)
  (hΦ:∀ s',eZ s' t u n w (if L i=o then jB L i v else L)→aC [u] s s'→Φ (.tuple #[.bool (decide (L i=o)),int 0]) s'):okF q X (KO kc) 233 [ptr t,int i,int o',int v'] s Φ:=by
 subst eo ev;refine aV rfl C9 rfl (rs:=[.tmp 8,.tmp 9]) rfl (N:=29) rfl rfl ?_;refine aA fun bB aF aZ=>?_;simp only[pI,seval];refine aF _ _ ?_;refine aA fun Ψ1 aE aK=>?_;refine aA fun Ψ2 aH bM=>?_;simp only[pI,seval];obtain⟨s1,e1,k1,c1,n1⟩:=cA hs (L:=[int o,int v]) (n:=2) (e:=3) rfl;rw[e1];refine aJ ?_ (Nv k1.ok (h.aD k1 (by simp) (by simp)) i (a:=some ⟨s.next,0,none⟩) (m:=2) (c:=2) (l:=[(o:Int),(v:Int)]) (Obj.sl c1 rfl) (by intro b hb;simp[nameOf] at hb;subst hb;exact c1.lt k1.ok) (by omega) fun s2 k2=>?_)
 ·simp only[pI,seval]
 rw[if_pos ⟨⟨Int.natCast_nonneg _,by omega⟩,fun x hx=>by simp at hx;omega⟩]
 try simp only[pI,seval]
 refine aH _ _ ?_;refine aA fun Ψ3 aM bN=>?_;simp only[pI,seval];refine aM _ _ ?_;simp only[pI,seval];refine aE _ _ ?_;have k3:=k1.trans k2;have h3:=h.aD k3 (by simp) (by simp);refine aA fun Ψ4 aQ bZ=>?_;refine aA fun cP bI cF=>?_;simp only[pI,seval];refine aJ ?_ (YH k2.ok h3 hi fun s4 k4=>?_)
 ·simp only[pI,seval]
 have h4:=h3.aD k4 (by simp) (by simp);have iW:=k3.trans k4;by_cases he:L i=o
 ·have eb:((L i:Int)==(o:Int))=true:=by rw[beq_iff_eq];omega
  rw[if_pos he,decide_eq_true he] at hΦ
  try simp only[pI,seval,bne,eb]
  refine bI _ _ ?_;simp only[pI,seval];refine aQ _ _ ?_;refine aA fun dK bO cV=>?_;simp only[pI,seval];refine aJ ?_ (Nw k4.ok h4 hi hv fun s5 h5 k5=>?_)
  ·simp only[pI,seval]
  try simp only[pI,seval]
  refine bO _ _ ?_;refine aA fun fJ cC eF=>?_;simp only[pI,seval];refine cC _ _ ?_;simp only[pI,seval];exact hΦ _ h5 (iW.any.trans k5)
 ·have eb:((L i:Int)==(o:Int))=false:=by rw[beq_eq_false_iff_ne];omega
  rw[if_neg he,decide_eq_false he] at hΦ
  try simp only[pI,seval,bne,eb]
  refine bI _ _ ?_;simp only[pI,seval];refine bZ _ _ _ (by simp) ?_;simp only[pI,seval];exact hΦ _ h4 iW.any
end
section
variable {kc:Kc} {q:Bool} {s:St} {Φ:Value→St→Prop} {t u h:Nat} {P:PH} {K:List Int}
abbrev sZ (s:St) (t u:Nat) (P:PH) (K:List Int):Prop:=eZ s t u (32*P.N) 1 (qO K)
theorem FR {P:PH} {a:Int} (h:P.has a=true):∃ j:Nat,a=2*(j:Int)∧j<32*P.N:=by
 obtain⟨h1,h2,h3,_⟩:=PH.iN.1 h;exact⟨(a/2).toNat,by omega,by omega⟩
theorem xB:type_of% (An @RC<|An @RO<|An @RD<|An @RV<|An @RB<|@RG):=An @RC<|An @RO<|An @RD<|An @RV<|An @RB<|@RG
theorem aIa (hs:Ok s) (H:bS s h P) (M:sZ s t u P K) (a:Int) (ha:i64 a) (hu:u∉P.bF h)
  (hΦ:∀ s',sZ s' t u P (vJ P K a)→aC [u] s s'→Φ (.bool (nV P K a)) s'):okF q X (KO kc) 200 [ptr h,ptr t,int a] s Φ:=by
 refine aV rfl v9 rfl (rs:=[.tmp 6]) rfl (N:=21) rfl rfl ?_;refine aA fun bB aF aZ=>?_;simp only[xB,seval];refine aF _ _ ?_;refine aA fun Ψ1 aE aK=>?_;simp only[xB,seval];refine aJ ?_ (FY hs H a ha fun s1 k1=>?_)
 ·simp only[xB,seval]
 have M1:=M.aD k1 (by simp) (by simp);cases hh:P.has a with
 | false =>
  have e1:vJ P K a=K:=by unfold vJ;rw[if_neg (by rw[hh];simp)]
  have e2:nV P K a=false:=by unfold nV;rw[hh];rfl
  rw[e1,e2] at hΦ
  try simp only[xB,seval]
  refine aK _ _ _ (by simp) ?_;simp only[xB,seval];exact hΦ _ M1 k1.any
 | true =>
  obtain⟨j,rfl,hj⟩:=FR hh
  try simp only[xB,seval]
  refine aE _ _ ?_;refine aA fun Ψ2 aH bM=>?_;have ed:(2*(j:Int)).tdiv 2=(j:Int):=Int.mul_tdiv_cancel_left _ (by omega);have hi:i64 (2*(j:Int)):=ha;have w2:IntKind.i64.wrap ((2*(j:Int)).tdiv 2)=(j:Int):=by rw[ed,aU (by unfold i64 at hi;omega) (by unfold i64 at hi;omega)]
  simp only[xB,seval,w2];refine aJ ?_ (aH8 k1.ok M1 (o:=0) (v:=1) (o':=0) (v':=1) rfl rfl hj (by omega) (by omega) fun s2 M2 k2=>?_)
  ·simp only[xB,seval]
  try simp only[xB,seval]
  refine aH _ _ ?_;have hm:(qO K j=0)↔K.contains (2*(j:Int))=false:=by
   unfold qO;cases K.contains (2*(j:Int)) <;> simp
  refine aA fun Ψ3 aM bN=>?_;simp only[xB,seval];refine aM _ _ ?_;simp only[xB,seval];by_cases hc:K.contains (2*(j:Int))=false
  ·rw[if_pos (hm.2 hc),aCu] at M2;rw[decide_eq_true (hm.2 hc)];have e1:vJ P K (2*(j:Int))=K++[2*(j:Int)]:=by unfold vJ;rw[if_pos ⟨hh,hc⟩]
   have e2:nV P K (2*(j:Int))=true:=by unfold nV;rw[hh,hc];rfl
   rw[e1,e2] at hΦ;exact hΦ _ M2 (k1.any.trans k2)
  ·have e0:¬ qO K j=0:=fun h=>hc (hm.1 h);rw[if_neg e0] at M2;rw[decide_eq_false e0];have e1:vJ P K (2*(j:Int))=K:=by unfold vJ;rw[if_neg (by rintro⟨_,h⟩;exact hc h)]
   have e2:nV P K (2*(j:Int))=false:=by unfold nV;rw[hh];simp at hc;simp[hc]
   rw[e1,e2] at hΦ;exact hΦ _ M2 (k1.any.trans k2)
theorem BV:type_of% (An @RC<|An @RO<|An @RD<|An @RV<|An @RB<|@RG):=An @RC<|An @RO<|An @RD<|An @RV<|An @RB<|@RG
theorem Qh (hs:Ok s) (H:bS s h P) (M:sZ s t u P K) (a:Int) (ha:i64 a)
  (hΦ:∀ s',aC [] s s'→Φ (.bool (P.has a&&K.contains a)) s'):okF q X (KO kc) 238 [ptr h,ptr t,int a] s Φ:=by
 refine aV rfl D2 rfl (rs:=[.tmp 6]) rfl (N:=17) rfl rfl ?_;refine aA fun bB aF aZ=>?_;simp only[BV,seval];refine aF _ _ ?_;refine aA fun Ψ1 aE aK=>?_;refine cK [(3,10)] (by kernel_rfl) fun O hO bK hR=>?_;have y3:∀ a,aN O a 3=bC (a.aB 10):=hO (3,10) (by simp);simp only[BV,seval];refine aJ ?_ (FY hs H a ha fun s1 k1=>?_)
 ·simp only[BV,seval]
 have M1:=M.aD k1 (by simp) (by simp);cases hh:P.has a with
 | false =>
  rw[hh] at hΦ;simp only[BV,seval,y3];refine hR _ _ (aE _ _ ?_);simp only[BV,seval];exact hΦ _ k1
 | true =>
  obtain⟨j,rfl,hj⟩:=FR hh;have ed:(2*(j:Int)).tdiv 2=(j:Int):=Int.mul_tdiv_cancel_left _ (by omega);have hi:i64 (2*(j:Int)):=ha;have w2:IntKind.i64.wrap ((2*(j:Int)).tdiv 2)=(j:Int):=by rw[ed,aU (by unfold i64 at hi;omega) (by unfold i64 at hi;omega)]
  simp only[BV,seval,y3,w2];refine aJ ?_ (QA k1.ok M1 (j:Int) fun s2 k2=>?_)
  ·simp only[BV,seval]
  rw[if_pos ⟨by omega,by omega⟩,Int.toNat_natCast];rw[hh] at hΦ;have hv:((qO K j:Int)==1)=K.contains (2*(j:Int)):=by
   unfold qO;cases K.contains (2*(j:Int)) <;> rfl
  simp only[BV,seval,y3,hv];refine hR _ _ (aE _ _ ?_);simp only[BV,seval];exact hΦ _ (k1.trans k2)
end
open Go.Proofs
set_option maxRecDepth 100000
set_option maxHeartbeats 1000000
section
variable {kc:Kc} {q:Bool} {s:St} {Φ:Value→St→Prop} {h:Nat} {P:PH}
theorem qm:type_of% (An @RX<|An @VM<|An @ux<|An @wu<|@Od):=An @RX<|An @VM<|An @ux<|An @wu<|@Od
theorem Qr (hs:Ok s) {b o vn vc:Nat} {va:Option Addr} {Lb C:List Value} (O:Obj s b Lb) (ho:Lb[o]?=some (.slice va vn vc)) (B:bE s 51 3 (.slice va vn vc) C) (hne:b∉nameOf (.slice va vn vc)) (hm:vn<1000000) (k at_ i:Int)
  (hΦ:∀ pJ pK s',Obj s' b (Lb.set o (.slice pJ (vn+1) pK))→bE s' 51 3 (.slice pJ (vn+1) pK) (C++[int k,int at_,int i])→(∀ x∈nameOf (.slice pJ (vn+1) pK),x∈nameOf (.slice va vn vc)∨s.next≤x)→aC (b::nameOf (.slice va vn vc)) s s'→Φ (.tuple #[]) s'):okF q X (KO kc) 65 [.pointer (some ⟨b,o,none⟩),int k,int at_,int i] s Φ:=by
 have l:=O.load ho;refine aV rfl I_ rfl (rs:=[]) rfl (N:=19) rfl rfl ?_;simp only[qm,seval,l];obtain⟨s1,e1,k1,c1,n1⟩:=cA hs (L:=[int k,int at_,int i]) (n:=3) (e:=51) rfl;rw[e1];obtain⟨w,s2,e2,b2,k2,m2,a2,c2,rfl⟩:=iT (X:=X) (t:=110) (e:=51) (N:=3) (B:=24) (z:=.agg #[int 0,int 0,int 0]) (x:=.slice (some ⟨s.next,0,none⟩) 1 1) (k:=1) (new:=[int k,int at_,int i]) (by kernel_rfl) (by kernel_rfl) rfl k1.ok (by omega) (B.aD k1 (by simp)) rfl (kT (by omega) (c1.bD (i:=0) (k:=3) (Nat.le_refl _))) rfl rfl (by omega) (by omega);refine iX ?_ e2 ?_
 ·simp only[qm,seval]
 obtain⟨s3,e3,c3,k3⟩:=((O.aD k1 (by simp)).aD k2 hne).store k2.ok (i:=o) (vs:=[.slice a2 (vn+1) c2]) (by have:=(List.getElem?_eq_some_iff.1 ho).1;simp;omega) rfl;simp only[qm,seval,e3];have bY:=O.lt hs;have Hx:=k1.next;refine hΦ a2 c2 s3 ?_ (b2.aD k3 fun x hx hx'=>?_) (fun x hx=>(m2 x hx).imp id fun h=>by omega) ((k1.any.trans (k2.mono fun x hx=>List.mem_cons_of_mem _ hx)).trans (k3.mono fun x hx=>by simp at hx;simp[hx]))
 ·rw[QF (List.getElem?_eq_some_iff.1 ho).1] at c3;exact c3
 ·simp at hx';subst hx';rcases m2 _ hx with h | h
  ·exact hne h
  ·omega
end
open Go.Proofs
set_option maxRecDepth 100000
set_option maxHeartbeats 1000000
theorem bE.pop {s:St} {e:TypeId} {va:Option Addr} {n c:Nat} {L:List Value} (h:bE s e 1 (.slice va (n+1) c) L):bE s e 1 (.slice va n c) L.dropLast:=by
 generalize hv:Value.slice va (n+1) c=v at h;cases h with
 | nil=>cases hv
 | own h hc hn hL hl =>
  cases hv;refine .own h hc (by omega) (by rw[List.length_dropLast];omega) fun i hi=>?_;rw[List.length_dropLast] at hi;rw[hl i (by omega),List.getElem?_dropLast,if_pos (by omega)]
theorem bE.isCells {s:St} {e:TypeId} {m b o n c:Nat} {sp:Option Nat} {L:List Value} (h:bE s e m (.slice (some ⟨b,o,sp⟩) n c) L):∃ c z n e room ro aT,s.look b=some (.cells c z n e room ro aT):=by
 cases h with
 | own h _ _ _ _ =>
  obtain⟨c,z,n,aT,h1,_⟩:=h;exact⟨_,_,_,_,_,_,_,h1⟩
section
variable {kc:Kc} {q:Bool} {s:St} {Φ:Value→St→Prop}
theorem qk:type_of% (An @RX<|An @CO<|An @dF<|An @jE<|@sR):=An @RX<|An @CO<|An @dF<|An @jE<|@sR
theorem aBz (hs:Ok s) {b o vn vc:Nat} {va:Option Addr} {Lb C:List Value} (O:Obj s b Lb) (ho:Lb[o]?=some (.slice va vn vc)) (B:bE s 3 1 (.slice va vn vc) C) (hne:b∉nameOf (.slice va vn vc)) (hm:vn<1000000) (k:Int)
  (hΦ:∀ pJ pK s',Obj s' b (Lb.set o (.slice pJ (vn+1) pK))→bE s' 3 1 (.slice pJ (vn+1) pK) (C++[int k])→(∀ x∈nameOf (.slice pJ (vn+1) pK),x∈nameOf (.slice va vn vc)∨s.next≤x)→aC (b::nameOf (.slice va vn vc)) s s'→Φ (.tuple #[]) s'):okF q X (KO kc) 201 [.pointer (some ⟨b,o,none⟩),int k] s Φ:=by
 have l:=O.load ho;refine aV rfl v_ rfl (rs:=[]) rfl (N:=14) rfl rfl ?_;simp only[qk,seval,l,bJ,Nat.add_zero];obtain⟨s1,e1,k1,c1,n1⟩:=cA hs (L:=[int k]) (n:=1) (e:=3) rfl;rw[e1];obtain⟨w,s2,e2,b2,k2,m2,a2,c2,rfl⟩:=iT (X:=X) (t:=62) (e:=3) (N:=1) (B:=8) (z:=int 0) (x:=.slice (some ⟨s.next,0,none⟩) 1 1) (k:=1) (new:=[int k]) (by kernel_rfl) (by kernel_rfl) rfl k1.ok (by omega) (B.aD k1 (by simp)) rfl (kT (by omega) (c1.bD (i:=0) (k:=1) (Nat.le_refl _))) rfl rfl (by omega) (by omega);refine iX ?_ e2 ?_
 ·simp only[qk,seval]
 obtain⟨s3,e3,c3,k3⟩:=((O.aD k1 (by simp)).aD k2 hne).store k2.ok (i:=o) (vs:=[.slice a2 (vn+1) c2]) (by have:=(List.getElem?_eq_some_iff.1 ho).1;simp;omega) rfl;simp only[qk,seval,e3,bJ,Nat.add_zero];have bY:=O.lt hs;have Hx:=k1.next;refine hΦ a2 c2 s3 ?_ (b2.aD k3 fun x hx hx'=>?_) (fun x hx=>(m2 x hx).imp id fun h=>by omega) ((k1.any.trans (k2.mono fun x hx=>List.mem_cons_of_mem _ hx)).trans (k3.mono fun x hx=>by simp at hx;simp[hx]))
 ·rw[QF (List.getElem?_eq_some_iff.1 ho).1] at c3;exact c3
 ·simp at hx';subst hx';rcases m2 _ hx with h | h
  ·exact hne h
  ·omega
theorem QP:type_of% (An @RX<|An @CO<|An @dF<|An @dG<|An @dE<|An @aW<|@sR):=An @RX<|An @CO<|An @dF<|An @dG<|An @dE<|An @aW<|@sR
theorem aC0 (hs:Ok s) {b o vn vc:Nat} {va:Option Addr} {Lb C:List Value} {k:Int} (O:Obj s b Lb) (ho:Lb[o]?=some (.slice va (vn+1) vc)) (B:bE s 3 1 (.slice va (vn+1) vc) (C++[int k])) (hne:b∉nameOf (.slice va vn vc)) (hm:vn<1000000)
  (hΦ:∀ s',Obj s' b (Lb.set o (.slice va vn vc))→bE s' 3 1 (.slice va vn vc) C→aC [b] s s'→Φ (int k) s'):okF q X (KO kc) 234 [.pointer (some ⟨b,o,none⟩)] s Φ:=by
 have l:=O.load ho;have hlen:C.length=vn:=by
  have:=B.sl.len;simp at this;omega
 obtain⟨vb,dM,rfl⟩:=B.sl.addr (by omega);have w1:IntKind.i64.wrap (((vn+1:Nat):Int)-1)=(vn:Int):=by rw[aU (by omega) (by omega)];omega
 have g1:(0:Int)≤(vn:Int):=Int.natCast_nonneg _;have g2:(vn:Int)<((vn+1:Nat):Int):=by omega
 have lj:aI s.look ⟨vb,dM+vn,none⟩=some (int k):=B.sl.load (i:=vn) (by rw[List.getElem?_append_right (by omega),hlen,Nat.sub_self];rfl);have hcap:vn+1≤vc:=by cases B with | own _ _ h _ _=>exact h
 have e2:=QC (X:=X) (H:=s.look) (t:=62) (e:=3) (N:=1) (b:=vb) (off:=dM) (n:=vn+1) (c:=vc) (l:=0) (h:=vn) (by kernel_rfl) (by kernel_rfl) B.isCells (by omega) (by omega) (by omega);have B':=B.pop;rw[List.dropLast_concat] at B';have uS:eI X s.look 62 (.slice (some ⟨vb,dM,none⟩) (vn+1) vc) none (some (int vn)) none=some (.slice (some ⟨vb,dM,none⟩) vn vc):=e2;have k0:aC [] s ((s.skip 26).skip 30):=(aC.skip hs 26).jJ 30;obtain⟨s3,e3,c3,k3'⟩:=(O.aD k0 (by simp)).store k0.ok (i:=o) (vs:=[.slice (some ⟨vb,dM,none⟩) vn vc]) (by have:=(List.getElem?_eq_some_iff.1 ho).1;simp;omega) rfl;have k3:=k0.any.trans k3';refine aV rfl C_ rfl (rs:=[.tmp 2]) rfl (N:=31) rfl rfl ?_;refine aA fun bB aF aZ=>?_;simp only[QP,seval];refine aF _ _ ?_;refine aA fun Ψ1 aE aK=>?_;refine dH [] [] [] (by kernel_rfl) (by kernel_rfl) (by rfl) fun O hO bK hR=>?_;simp only[QP,seval,l,bJ,Nat.add_zero,w1,g1,g2,and_self,Int.toNat_natCast,Nat.mul_one,lj];refine hR _ _ (aE _ _ ?_);refine aA fun Ψ2 aH bM=>?_;refine dH [] [] [] (by kernel_rfl) (by kernel_rfl) (by rfl) fun O hO bK hR=>?_;simp only[QP,seval,l,bJ,Nat.add_zero,w1,uS,e3];refine hR _ _ (aH _ _ ?_);refine aA fun Ψ3 aM bN=>?_;simp only[QP,seval];refine aM _ _ ?_;simp only[QP,seval];refine hΦ s3 ?_ (B'.aD k3 fun x hx hx'=>?_) k3
 ·rw[QF (List.getElem?_eq_some_iff.1 ho).1] at c3;exact c3
 ·simp at hx';subst hx';exact hne hx
end
section
variable {kc:Kc} {q:Bool} {s:St} {Φ:Value→St→Prop} {h r:Nat} {P:PH} {R:PR}
theorem HU:type_of% (An @RC<|An @RO<|An @RD<|An @RV<|An @RB<|@RG):=An @RC<|An @RO<|An @RD<|An @RV<|An @RB<|@RG
theorem aI9 (hs:Ok s) (H:bS s h P) (A:dV s r R) (hΦ:Φ (.bool (decide (0<R.m))) s):okF q X (KO kc) 134 [ptr h,ptr r] s Φ:=by
 have n2:=H.n2;refine aV rfl Zg rfl (rs:=[.tmp 4]) rfl (N:=13) rfl rfl ?_;refine aA fun bB aF aZ=>?_;simp only[HU,seval];refine aF _ _ ?_;refine aA fun Ψ1 aE aK=>?_;refine cK [(3,8)] (by kernel_rfl) fun O hO bK hR=>?_;have y3:∀ a,aN O a 3=bC (a.aB 8):=hO (3,8) (by simp);simp only[HU,seval];refine aJ ?_ (FX H ?_)
 ·simp only[HU,seval]
 have g:((P.N:Int)>0):=by omega
 simp only[HU,seval,y3,g,decide_true];refine aJ ?_ (oy A ?_)
 ·simp only[HU,seval]
 simp only[HU,seval,y3];refine hR _ _ (aE _ _ ?_);simp only[HU,seval];have:decide ((0:Int)<R.m)=decide (0<R.m):=by rw[Bool.eq_iff_iff];simp
 simpa [this] using hΦ
theorem EI:type_of% (An @RC<|An @RO<|An @RD<|An @RV<|An @RB<|@RG):=An @RC<|An @RO<|An @RD<|An @RV<|An @RB<|@RG
theorem aId (hs:Ok s) (H:bS s h P) (hΦ:∀ s' t u,s.next≤t→s.next≤u→sZ s' t u P []→aC [] s s'→Φ (ptr t) s'):okF q X (KO kc) 135 [ptr h] s Φ:=by
 have n2:=H.n2;have bW:=H.bW;refine aV rfl Zh rfl (rs:=[.tmp 2]) rfl (N:=14) rfl rfl ?_;refine aA fun bB aF aZ=>?_;simp only[EI,seval];refine aF _ _ ?_;refine aA fun Ψ1 aE aK=>?_;simp only[EI,seval];refine aJ ?_ (FX H ?_)
 ·simp only[EI,seval]
 have w1:IntKind.i64.wrap ((P.N:Int)*64)=(P.N:Int)*64:=aU (by omega) (by omega);have w2:IntKind.i64.wrap (((P.N:Int)*64).tdiv 2)=((32*P.N:Nat):Int):=by
  have:((P.N:Int)*64).tdiv 2=32*P.N:=by
   rw[show (P.N:Int)*64=2*(32*P.N) by omega];exact Int.mul_tdiv_cancel_left _ (by omega)
  rw[this,aU (by omega) (by omega)];rfl
 simp only[EI,seval,w1,w2];refine aJ ?_ (pq hs (n':=32*P.N) (w:=1) (w':=1) rfl rfl (by omega) (by omega) (.inl rfl) fun s1 t u g1 g2 T k=>?_)
 ·simp only[EI,seval]
 try simp only[EI,seval]
 refine aE _ _ ?_;refine aA fun Ψ2 aH bM=>?_;simp only[EI,seval];refine aH _ _ ?_;simp only[EI,seval];rw[← aCt] at T;exact hΦ _ t u g1 g2 T k
theorem zY:type_of% (An @RX<|An @oE<|@aW):=An @RX<|An @oE<|@aW
theorem aIb (k:Int) (rr d:Int) (hΦ:∀ s',aC [] s s'→Φ (int (if k=1 then 1 else if k=2 then 2 else 0)) s') (hs:Ok s):okF q X (KO kc) 256 [.agg #[int rr,int d,int k]] s Φ:=by
 obtain⟨s1,e1,k1,c1,n1⟩:=cA hs (L:=[int rr,int d,int k]) (n:=3) (e:=44) rfl;have l2:aI s1.look ⟨s.next,2,none⟩=some (int k):=c1.load rfl;refine aV rfl E6 rfl (rs:=[.tmp 2]) rfl (N:=9) rfl rfl ?_;refine aA fun bB aF aZ=>?_;simp only[zY,seval];rw[e1];refine aF _ _ ?_;refine aA fun Ψ1 aE aK=>?_;refine aA fun Ψ2 aH bM=>?_;simp only[zY,seval,l2,bJ,Nat.zero_add];refine aH _ _ ?_;refine cB fun Ψ3 aM oG bN=>?_;refine aA fun Ψ4 aQ bZ=>?_;by_cases h1:k=1
 ·have b1:(k==1)=true:=by simpa using h1
  rw[if_pos h1] at hΦ;simp only[zY,seval,b1];refine aQ _ _ ?_;simp only[zY,seval];refine bN _ _ _ (by simp) (by simp) (aK _ _ _ (by simp) ?_);simp only[zY,seval];exact hΦ _ k1
 ·have b1:(k==1)=false:=by simpa using h1
  rw[if_neg h1] at hΦ;simp only[zY,seval,b1];refine aQ _ _ ?_;by_cases h2:k=2
  ·have b2:(k==2)=true:=by simpa using h2
   rw[if_pos h2] at hΦ;simp only[zY,seval,b2];refine bN _ _ _ (by simp) (by simp) (aK _ _ _ (by simp) ?_);simp only[zY,seval];exact hΦ _ k1
  ·have b2:(k==2)=false:=by simpa using h2
   rw[if_neg h2] at hΦ;simp only[zY,seval,b2];refine aM _ _ (aE _ _ ?_);simp only[zY,seval];exact hΦ _ k1
end
open Go.Proofs
set_option maxRecDepth 100000
set_option maxHeartbeats 1000000
def mU (k:Int):Nat:=if k=1 then 1 else if k=2 then 2 else 0
namespace PH
variable (P:PH)
def vB (a:Int) (j:Nat):List Int:=(List.range j).map fun(i:Nat)=>P.ref a (mU (P.aY a).k+i:Nat)
def dJ (a:Int):List Int:=P.vB a (P.cX a-mU (P.aY a).k)
theorem R5 (a:Int) (j:Nat):P.vB a (j+1)=P.vB a j++[P.ref a (mU (P.aY a).k+j:Nat)]:=by
 unfold vB;rw[List.range_succ,List.map_append];rfl
theorem Cm (a:Int) (j:Nat):(P.vB a j).length=j:=by unfold vB;rw[List.length_map,List.length_range]
theorem Ob (k:Int) (i:Nat):PH.soft k i=true↔i<mU k:=by
 unfold PH.soft mU;simp only[Bool.or_eq_true,Bool.and_eq_true,beq_iff_eq];by_cases h1:k=1
 ·rw[if_pos h1];omega
 ·rw[if_neg h1];by_cases h2:k=2
  ·rw[if_pos h2];omega
  ·rw[if_neg h2];omega
theorem WE {a x:Int}:x∈P.dJ a↔∃ i:Nat,i<P.cX a∧PH.soft (P.aY a).k i=false∧x=P.ref a i:=by
 unfold dJ vB;rw[List.mem_map];constructor
 ·rintro⟨i,hi,rfl⟩;rw[List.mem_range] at hi;refine⟨_,?_,?_,rfl⟩
  ·omega
  ·rw[Bool.eq_false_iff];intro h;rw[Ob] at h;omega
 ·rintro⟨i,hi,hs,rfl⟩;have h:¬ i<mU (P.aY a).k:=fun h=>by rw[← Ob] at h;rw[h] at hs;cases hs
  refine⟨i-mU (P.aY a).k,?_,?_⟩
  ·rw[List.mem_range];omega
  ·rw[show mU (P.aY a).k+(i-mU (P.aY a).k)=i by omega]
end PH
section
variable {kc:Kc} {q:Bool} {s:St} {Φ:Value→St→Prop} {h:Nat} {P:PH}
theorem lE:type_of% (An @RX<|An @nD<|An @mI<|An @hZ<|An @lZ<|An @aW<|@jE):=An @RX<|An @nD<|An @mI<|An @hZ<|An @lZ<|An @aW<|@jE
theorem aIc (hs:Ok s) (H:bS s h P) (G:P.cM) (a:Int) (ha:i64 a) (hΦ:∀ v s',bE s' 3 1 v ((P.dJ a).map int)→(∃ aa c,v=.slice aa (P.dJ a).length c)→(∀ b∈nameOf v,s.next≤b)→aC [] s s'→Φ v s'):okF q X (KO kc) 239 [ptr h,int a] s Φ:=by
 obtain⟨g0,Bs⟩:=PH.PZ G a;have hn:((P.cX a:Nat):Int)=(P.aY a).r:=by unfold PH.cX;omega
 have sI:mU (P.aY a).k≤2:=by unfold mU;(repeat' split) <;> omega
 refine aV rfl D3 rfl (rs:=[.tmp 4]) rfl (N:=37) rfl rfl ?_;refine aA fun bB aF aZ=>?_;simp only[lE,seval];refine aF _ _ ?_;refine aA fun Ψ1 aE aK=>?_;simp only[lE,seval];refine aJ ?_ (JN hs H a ha fun s2 k2=>?_)
 ·simp only[lE,seval]
 obtain⟨s3,e3,k3,c3,n3⟩:=cA k2.ok (L:=[int 0,int 0,int 0]) (n:=3) (e:=44) rfl;obtain⟨s4,e4,c4,k4⟩:=c3.storeAll k3.ok (vs:=[int (P.aY a).r,int (P.aY a).d,int (P.aY a).k]) rfl rfl;have rJ:aC [] s2 s4:=k3.step k4 fun g hg=>.inr (by rw[List.mem_singleton.1 hg];exact k2.ok.fresh _ (Nat.le_refl _));have iW:=k2.trans rJ;simp only[lE,seval];rw[e3,e4];simp only[lE,seval];refine aE _ _ ?_;refine aA fun Ψ2 aH bM=>?_;simp only[lE,seval];refine aH _ _ ?_;refine aA fun Ψ3 aM bN=>?_;refine aA fun Ψ4 aQ bZ=>?_;have lr:aI s4.look ⟨s2.next,0,none⟩=some (int (P.aY a).r):=c4.load rfl;have ld:bD s4.look ⟨s2.next,0,none⟩ 3=some [int (P.aY a).r,int (P.aY a).d,int (P.aY a).k]:=c4.bD (i:=0) (k:=3) (Nat.le_refl _);simp only[lE,seval,ld];refine aJ ?_ (aIb (P.aY a).k (P.aY a).r (P.aY a).d (fun s5 k5=>?_) iW.ok)
 ·simp only[lE,seval]
 have Xd:(if (P.aY a).k=1 then(1:Int) else if (P.aY a).k=2 then 2 else 0)=((mU (P.aY a).k:Nat):Int):=by
  unfold mU;split
  ·try rfl
  ·split <;> rfl
 rw[Xd]
 try simp only[lE,seval]
 refine aQ _ _ ?_;have mR:=iW.trans k5;have c5:=c4.aD k5 (by simp);have Hw:=iW.next;refine cB fun dK bO pA cV=>?_;refine gD (n:=P.cX a-mU (P.aY a).k) (fun j a' s'=>∃ aa n c,a'.aB 0=ptr h∧a'.aB 1=int a∧a'.aB 5=ptr s2.next∧a'.aB 7=.slice aa n c∧n=(P.vB a j).length∧bE s' 3 1 (.slice aa n c) ((P.vB a j).map int)∧(∀ b∈nameOf (.slice aa n c),s5.next≤b)∧a'.aB 8=int ((mU (P.aY a).k+j:Nat):Int)∧aC [] s5 s')
  (fun j a' s'=>∃ aa n c,a'.aB 0=ptr h∧a'.aB 1=int a∧a'.aB 5=ptr s2.next∧a'.aB 7=.slice aa n c∧n=(P.vB a (j+1)).length∧bE s' 3 1 (.slice aa n c) ((P.vB a (j+1)).map int)∧(∀ b∈nameOf (.slice aa n c),s5.next≤b)∧a'.aB 8=int ((mU (P.aY a).k+j:Nat):Int)∧aC [] s5 s') ?_ ?_ ?_ ?_ (Nat.zero_le _) ?_
 ·rintro j a' s' hj ⟨aa,n,c,r0,r1,r5,r7,mA,hb,hnm,r8,hk⟩ aR bH;have lr':aI s'.look ⟨s2.next,0,none⟩=some (int (P.aY a).r):=(c5.aD hk (by simp)).load rfl;simp only[lE,seval,r5,r8,bJ,Nat.add_zero,lr'];refine bH _ _ (decide (((mU (P.aY a).k+j:Nat):Int)<(P.aY a).r)) ?_ (by rw[decide_eq_true_eq];omega) ⟨aa,n,c,?_,?_,?_,?_,mA,hb,hnm,?_,hk⟩
  all_goals simp only[lE,seval,r0,r1,r5,r7,r8]
 ·rintro j a' s' hj ⟨aa,n,c,r0,r1,r5,r7,mA,hb,hnm,r8,hk⟩ aR h1 h2 h3;have hlen:=P.Cm a j;have hst:=P.R5 a j;have rI:=mR.trans hk;refine aA fun fJ cC eF=>?_;simp only[lE,seval,r0,r1,r8];refine aJ ?_ (FZ rI.ok (H.aL rI) G a ((mU (P.aY a).k+j:Nat):Int) ha fun s6 k6=>?_)
  ·simp only[lE,seval]
  try simp only[lE,seval]
  refine cC _ _ ?_;have pP:=hk.trans k6;obtain⟨s7,e7,k7,c7,n7⟩:=cA pP.ok (L:=[int (P.ref a (mU (P.aY a).k+j:Nat))]) (n:=1) (e:=3) rfl;obtain⟨w,s8,e8,b8,k8,m8,a8,c8,rfl⟩:=iT (X:=X) (t:=62) (e:=3) (N:=1) (B:=8) (z:=.int .i64 0) (x:=.slice (some ⟨s6.next,0,none⟩) 1 1) (k:=1) (new:=[int (P.ref a (mU (P.aY a).k+j:Nat))]) (by kernel_rfl) (by kernel_rfl) rfl k7.ok (by omega) (hb.aD (k6.trans k7) (by simp)) rfl (kT (by omega) (c7.bD (i:=0) (k:=1) (Nat.le_refl _))) rfl rfl (by omega) (by omega);simp only[lE,seval,r7];rw[e7];refine iX ?_ e8 ?_
  ·simp only[lE,seval]
  simp only[lE,seval];have DA:=(pP.trans k7).next;refine h1 _ _ ⟨a8,n+1,c8,?_,?_,?_,?_,by rw[hst,List.length_append,mA];rfl,by rw[hst,List.map_append];exact b8,?_,?_,(pP.trans k7).step k8 fun g hg=>.inr (mR.ok.fresh _ (hnm g hg))⟩
  ·simp only[lE,seval,r0]
  ·simp only[lE,seval,r1]
  ·simp only[lE,seval,r5]
  ·simp only[lE,seval]
  ·intro b hb';rcases m8 b hb' with h | h
   ·exact hnm b h
   ·omega
  ·simp only[lE,seval,r8]
 ·rintro j a' s' hj ⟨aa,n,c,r0,r1,r5,r7,mA,hb,hnm,r8,hk⟩ aR h1;have w:IntKind.i64.wrap (((mU (P.aY a).k+j:Nat):Int)+1)=((mU (P.aY a).k+(j+1):Nat):Int):=by rw[aU (by omega) (by omega)];omega
  simp only[lE,seval,r8,w];refine h1 _ _ ⟨aa,n,c,?_,?_,?_,?_,mA,hb,hnm,?_,hk⟩
  all_goals try simp only[lE,seval,r0,r1,r5,r7,r8]
 ·rintro a' s' ⟨aa,n,c,r0,r1,r5,r7,mA,hb,hnm,r8,hk⟩;refine pA _ _ (aM _ _ ?_);simp only[lE,seval,r7];subst mA;exact hΦ _ _ hb ⟨_,_,rfl⟩ (fun b hb=>by have:=hnm b hb;have:=mR.next;omega) (mR.trans hk)
 ·refine⟨none,0,0,?_,?_,?_,?_,rfl,.nil,by simp[nameOf],?_,.refl mR.ok⟩
  all_goals try simp only[lE,seval]
  all_goals rfl
end
open Go.Proofs
set_option maxRecDepth 100000
set_option maxHeartbeats 2000000
def eY (P:PH) (p:List Int×List Int) (a:Int):List Int×List Int:=(vJ P p.1 a,if nV P p.1 a=true then p.2++[a] else p.2)
theorem XO {P:PH} {p:List Int×List Int} {a:Int} (h:nV P p.1 a=true):eY P p a=(p.1++[a],p.2++[a]):=by
 unfold eY;rw[if_pos h];unfold nV at h;rw[Bool.and_eq_true,Bool.not_eq_true'] at h;unfold vJ;rw[if_pos h]
theorem XP {P:PH} {p:List Int×List Int} {a:Int} (h:nV P p.1 a=false):eY P p a=p:=by
 unfold eY;rw[if_neg (by rw[h];simp)];unfold nV at h;unfold vJ;rw[if_neg (by rintro⟨h1,h2⟩;rw[h1,h2] at h;cases h)]
theorem aF4 {P:PH} (p:List Int×List Int) (a:Int) {B:Nat} (h:p.2.length+P.free p.1≤B):(eY P p a).2.length+P.free (eY P p a).1≤B:=by
 cases hb:nV P p.1 a with
 | false=>rw[XP hb];exact h
 | true =>
  rw[XO hb];unfold nV at hb;rw[Bool.and_eq_true,Bool.not_eq_true'] at hb;have:=PH.FM hb.1 hb.2;simp only[List.length_append,List.length_singleton];omega
theorem HM {P:PH}:∀ (l:List Int) (p:List Int×List Int) {B:Nat},p.2.length+P.free p.1≤B→(l.foldl (eY P) p).2.length+P.free (l.foldl (eY P) p).1≤B
 | [],p,B,h=>h
 | a::l,p,B,h=>by
  rw[List.foldl_cons];exact HM l _ (aF4 p a h)
structure eO (s:St) (m h t u lo:Nat) (av:List Nat) (P:PH) (K W:List Int):Prop where
 H:bS s h P
 G:P.cM
 M:sZ s t u P K
 o:∃ va vc a b c d e,Obj s m [ptr h,ptr t,.slice va W.length vc,int 0,int 4096,.bool false,int a,int b,int c,int d,int e]∧bE s 3 1 (.slice va W.length vc) (W.map int)∧∀ x∈nameOf (.slice va W.length vc),lo≤x∧x∉av
 fl:∀ x∈P.bF h,x<lo
 lt:m<lo∧t<lo∧u<lo
 nd:m∉P.bF h∧t∉P.bF h∧u∉P.bF h∧m≠t∧m≠u
namespace eO
variable {s s':St} {m h t u lo:Nat} {av av':List Nat} {P:PH} {K W:List Int}
theorem aD (V:eO s m h t u lo av P K W) (k:aC [] s s'):eO s' m h t u lo av P K W:=by
 obtain⟨H,G,M,⟨va,vc,a,b,c,d,e,o1,o2,o3⟩,fl,lt,nd⟩:=V;exact⟨H.aL k,G,M.aD k (by simp) (by simp),⟨va,vc,a,b,c,d,e,o1.aD k (by simp),o2.aD k (by simp),o3⟩,fl,lt,nd⟩
theorem off (hs:Ok s) (V:eO s m h t u lo av P K W) (k:aC [] s s') (ha:∀ b∈av',s.next≤b):eO s' m h t u lo av' P K W:=by
 obtain⟨H,G,M,⟨va,vc,a,b,c,d,e,o1,o2,o3⟩,fl,lt,nd⟩:=V;refine⟨H.aL k,G,M.aD k (by simp) (by simp),⟨va,vc,a,b,c,d,e,o1.aD k (by simp),o2.aD k (by simp),fun x hx=>⟨(o3 x hx).1,fun hh=>?_⟩⟩,fl,lt,nd⟩;have:=o2.lt hs x hx;have:=ha x hh;omega
end eO
def gV (m u lo:Nat) (av F:List Nat):Prop:=∀ x∈F,x=m∨x=u∨(lo≤x∧x∉av)
section
variable {kc:Kc} {q:Bool} {s:St} {Φ:Value→St→Prop} {m h t u lo:Nat} {av:List Nat} {P:PH} {K W:List Int}
theorem qS:type_of% (An @RX<|An @CP<|An @kW<|An @CQ<|An @jX<|An @TO<|An @CO<|An @dF<|An @dG<|An @Ai<|An @aW<|An @TP<|An @LI<|An @yP<|An @Av<|An @jG<|@Ay):=An @RX<|An @CP<|An @kW<|An @CQ<|An @jX<|An @TO<|An @CO<|An @dF<|An @dG<|An @Ai<|An @aW<|An @TP<|An @LI<|An @yP<|An @Av<|An @jG<|@Ay
theorem lz (hs:Ok s) (V:eO s m h t u lo av P K W) (hlo:lo≤s.next) (hav:∀ x∈av,x<s.next) (hW:W.length<4096) (a:Int) (ha:i64 a)
  (hΦ:∀ s' F,eO s' m h t u lo av P (eY P (K,W) a).1 (eY P (K,W) a).2→gV m u lo av F→aC F s s'→Φ (.bool (nV P K a)) s'):okF q X (KO kc) 136 [ptr m,int a] s Φ:=by
 obtain⟨H,G,M,⟨va,vc,x6,x7,x8,x9,ZB,o1,o2,o3⟩,fl,lt,nd⟩:=V;obtain⟨BD,KK,DS,zK,wS⟩:=nd;have ks:aC [] s (s.skip 22):=aC.skip hs _;have l0:aI s.look ⟨m,0,none⟩=some (ptr h):=o1.load rfl;have l1:aI s.look ⟨m,1,none⟩=some (ptr t):=o1.load rfl;refine aV rfl Zi rfl (rs:=[.tmp 4]) rfl (N:=60) rfl rfl ?_;refine aA fun bB aF aZ=>?_;simp only[qS,seval];refine aF _ _ ?_;refine aA fun Ψ1 aE aK=>?_;refine aA fun Ψ2 aH bM=>?_;refine dH [] [] [] (by kernel_rfl) (by kernel_rfl) (by rfl) fun O hO bK hR=>?_;simp only[qS,seval,l0,l1,bJ,Nat.add_zero,Nat.zero_add];refine eQ ?_ (aIa ks.ok (H.aL ks) (M.aD ks (by simp) (by simp)) a ha DS fun s1 M1 k1=>?_)
 ·simp only[qS,seval]
 have OD:aC [u] s s1:=ks.any.trans k1;have p1:=o1.aD OD (by simp;exact wS);have lu:=lt.2.2;have hu:∀ x∈nameOf (.slice va W.length vc),x∉[u]:=fun x hx hh=>by
  have:=(o3 x hx).1;have:=List.mem_singleton.1 hh;omega
 have p2:=o2.aD OD hu;have H1:=H.aD OD fun x hx hh=>DS (by rw[← List.mem_singleton.1 hh];exact hx);cases hb:nV P K a with
 | false =>
  have e0:=XP (p:=(K,W)) hb;have e1:vJ P K a=K:=congrArg Prod.fst e0;rw[e0,hb] at hΦ;rw[e1] at M1;simp only[qS,seval,hb];refine hR _ _ (aH _ _ ?_);simp only[qS,seval];refine aK _ _ _ (by simp) ?_;simp only[qS,seval];exact hΦ s1 [u] ⟨H1,G,M1,⟨va,vc,x6,x7,x8,x9,ZB,p1,p2,o3⟩,fl,lt,BD,KK,DS,zK,wS⟩ (fun x hx=>.inr (.inl (List.mem_singleton.1 hx))) OD
 | true =>
  have e0:=XO (p:=(K,W)) hb;have e1:vJ P K a=K++[a]:=congrArg Prod.fst e0;rw[e0,hb] at hΦ;rw[e1] at M1;simp only[qS,seval,hb];refine hR _ _ (aH _ _ ?_);simp only[qS,seval];refine aE _ _ ?_;refine aA fun Ψ3 aM bN=>?_;refine aA fun Ψ4 aQ bZ=>?_;have l2:aI s1.look ⟨m,2,none⟩=some (.slice va W.length vc):=p1.load rfl;have l4:aI s1.look ⟨m,4,none⟩=some (int 4096):=p1.load rfl;have b4:((W.length:Int)==4096)=false:=by rw[beq_eq_false_iff_ne];omega
  refine dH [] [] [] (by kernel_rfl) (by kernel_rfl) (by rfl) fun O hO bK hR=>?_;simp only[qS,seval,l2,l4,bJ,Nat.add_zero,Nat.zero_add,b4];refine hR _ _ (aQ _ _ ?_);simp only[qS,seval];refine aM _ _ ?_;refine aA fun cP bI cF=>?_;obtain⟨s2,hs2,k12⟩:∃ s2,s1.skip 22=s2∧aC [] s1 s2:=⟨_,rfl,aC.skip k1.ok _⟩;rw[hs2];have eC:=OD.trans k12.any;simp only[qS,seval,bJ,Nat.zero_add];refine aJ ?_ (aBz k12.ok (p1.aD k12 (by simp)) (o:=2) rfl (p2.aD k12 (by simp)) (fun hh=>by have:=(o3 _ hh).1;omega) (by omega) a fun pJ pK s3 q1 q2 q3 k3=>?_)
  ·simp only[qS,seval]
  try simp only[qS,seval]
  refine bI _ _ ?_;refine aA fun dK bO cV=>?_;have F3:gV m u lo av (m::nameOf (.slice va W.length vc)):=fun x hx=>by
   rcases List.mem_cons.1 hx with h | h
   ·exact .inl h
   ·exact .inr (.inr (o3 x h))
  have lW:(W++[a]).length=W.length+1:=by rw[List.length_append];rfl
  have m2:aI s3.look ⟨m,2,none⟩=some (.slice pJ (W.length+1) pK):=q1.load rfl;have OO:aI s3.look ⟨m,10,none⟩=some (int ZB):=q1.load rfl;have kN:aC [] s3 (s3.skip 34):=aC.skip k3.ok _;obtain⟨s4,e4,c4,k4⟩:=(q1.aD kN (by simp)).store kN.ok (i:=10) (vs:=[int (max ZB ((W.length+1:Nat):Int))]) (by simp) rfl;refine dH [] [] [] (by kernel_rfl) (by kernel_rfl) (by rfl) fun O hO bK hR=>?_;simp only[qS,seval,m2,OO,bJ,Nat.add_zero,Nat.zero_add,e4];refine hR _ _ (bO _ _ ?_);refine aA fun fJ cC eF=>?_;simp only[qS,seval];refine cC _ _ ?_;simp only[qS,seval];have n02:=eC.next;have hnm:∀ x∈nameOf (.slice pJ (W.length+1) pK),lo≤x∧x∉av:=fun x hx=>by
   rcases q3 x hx with h | h
   ·exact o3 x h
   ·exact⟨by omega,fun hh=>by have:=hav x hh;omega⟩
  have rJ:aC [m] s3 s4:=kN.any.trans k4;have fh:∀ x,x<lo→x≠m→x∉m::nameOf (.slice va W.length vc):=fun x hx hm hh=>by
   rcases List.mem_cons.1 hh with h | h
   ·exact hm h
   ·have:=(o3 x h).1;omega
  have tH:∀ x,x≠m→x∉[m]:=fun x hm hh=>hm (List.mem_singleton.1 hh);have hm':∀ x∈P.bF h,x≠m:=fun x hx e=>BD (by rw[← e];exact hx);refine hΦ s4 (u::m::nameOf (.slice va W.length vc)) ⟨?_,G,?_,⟨pJ,pK,x6,x7,x8,x9,max ZB ((W.length+1:Nat):Int),?_,?_,?_⟩,fl,lt,BD,KK,DS,zK,wS⟩ (fun x hx=>?_) ?_
  ·exact((H1.aL k12).aD k3 fun x hx=>fh x (fl x hx) (hm' x hx)).aD rJ fun x hx=>tH x (hm' x hx)
  ·exact((M1.aD k12 (by simp) (by simp)).aD k3 (fh t lt.2.1 (Ne.symm zK)) (fh u lu (Ne.symm wS))).aD rJ (tH t (Ne.symm zK)) (tH u (Ne.symm wS))
  ·rw[lW];rw[QF (by simp)] at c4;exact c4
  ·rw[lW,List.map_append];exact q2.aD rJ fun x hx=>tH x (by have:=(hnm x hx).1;omega)
  ·rw[lW];exact hnm
  ·rcases List.mem_cons.1 hx with h | h
   ·exact .inr (.inl h)
   ·exact F3 x h
  ·exact(eC.mono fun x hx=>by rw[List.mem_singleton.1 hx];simp).trans ((k3.mono fun x hx=>List.mem_cons_of_mem _ hx).trans (rJ.mono fun x hx=>by rw[List.mem_singleton.1 hx];simp))
end
end Go.Dust
