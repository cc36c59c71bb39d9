/- VerifyDamage walked in D, function by function, and its plain law (L4 F1 F3 F4 M1 M2 M3 M4 M5 M6 M7 M8 Q9 Eo G0 Qa Qb U0 Qc Qf Eu F5 F6 S1 M9 M10 M11 M12 M13 M14 M15 N1). -/
import Derived.Test.YtaoiejcaopgjcaaGreatI
import Derived.Test.YtaoiejcaopgjcaaGreatG
import Derived.Test.YtaoiejcaopgjcaaGreatE
import Derived.Test.YtaoiejcaopgjcaaGreatF
import Derived.Shelf.SlSortCmp.InsertionK
set_option linter.unusedVariables false
set_option linter.unusedSimpArgs false
open Nat renaming reduceEqDiff → zA, reduceMul → zB, reduceAdd → zC, reduceBEq → zD
open Int renaming reduceEq → zE, reduceBEq → zF
namespace Go.Dust
open Go.Proofs
set_option maxRecDepth 100000
set_option maxHeartbeats 1000000
theorem bK.eM {s:St} {h:Nat} {P:PH} (H:bK s h P) (hs:Ok s):∀ x∈P.aS h,x<s.next:=by
 intro x hx;obtain⟨U,hU,_⟩:=H.ts.ws;obtain⟨W,hW,_⟩:=H.tp.ws;simp only[PH.aS,List.mem_cons,List.not_mem_nil,or_false] at hx;rcases hx with rfl | rfl | rfl | rfl | rfl | rfl | rfl | rfl | rfl
 ·exact H.c.lt hs
 ·exact H.cb.lt hs
 ·exact H.cw.lt hs
 ·exact H.ts.c.lt hs
 ·exact hU.lt hs
 ·exact H.tp.c.lt hs
 ·exact hW.lt hs
 ·exact H.mp.lt hs
 ·exact H.mf.lt hs
theorem Hf {s:St} {b:Nat} {K:List Int} (h:fV s b (keys K)):∃ es aR,mapOf s.look b=some (es,aR)∧es.length=K.length:=by
 obtain⟨es,aR,bB,h1,h2,_⟩:=h;have:=congrArg List.length h2;rw[List.length_map,List.length_map,keys,List.length_map] at this;exact⟨es,aR,by simp only[mapOf,St.look,h1],this⟩
namespace PH
variable (P:PH)
def iG (K L:List Int):List Int:=L.foldl (P.visit (32*P.N)) K
def due (K:List Int) (a:Int):Bool:=K.contains a&&((P.aM a).k==2)&&K.contains (P.ref a 0)
def pI (K l:List Int):List Int:=(l.filter (P.due K)).map fun a=>P.ref a 1
def tW:Nat→List Int→List Int→Nat→List Int×Nat
 | 0,K,_,n=>(K,n)
 | f+1,K,L,n=>if (P.iG K L).length=K.length then(P.iG K L,n) else tW f (P.iG K L) (P.pI (P.iG K L) P.all) (n+1)
def rounds (L:List Int):List Int×Nat:=P.tW (32*P.N+1) [] L 0
theorem Cq {g:List Int→Int→List Int} (hg:∀ K a,g K a=K∨P.free (g K a)<P.free K):∀ (l K:List Int),l.foldl g K=K∨P.free (l.foldl g K)<P.free K:=by
 intro l
 induction l with
 | nil=>intro K;exact .inl rfl
 | cons y l ih =>
  intro K;rw[List.foldl_cons];rcases hg K y with h | h
  ·rw[h];exact ih K
  ·rcases ih (g K y) with h' | h'
   ·rw[h'];exact .inr h
   ·exact .inr (by omega)
theorem aHb:∀ n K a,P.visit n K a=K∨P.free (P.visit n K a)<P.free K:=by
 intro n
 induction n with
 | zero=>intro K a;exact .inl rfl
 | succ n ih =>
  intro K a;unfold visit;split
  ·rename_i h;have:=OV h.1 h.2;rcases P.Cq ih (P.iF a) (K++[a]) with h' | h'
   ·rw[h'];exact .inr this
   ·exact .inr (by omega)
  ·exact .inl rfl
theorem Qx (K L:List Int) (h:(P.iG K L).length≠K.length):P.free (P.iG K L)<P.free K:=by
 rcases P.Cq (P.aHb (32*P.N)) L K with h' | h'
 ·exact absurd (congrArg List.length h') h
 ·exact h'
theorem OU (K:List Int):P.free K≤32*P.N:=by
 unfold free;have:=List.length_filter_le (fun(i:Nat)=>!K.contains (2*(i:Int))) (List.range (32*P.N))
 rwa [List.length_range] at this
theorem aFa:∀ f K L n,(∀ x∈K,P.has x=true)→∀ x∈(P.tW f K L n).1,P.has x=true:=by
 intro f
 induction f with
 | zero=>intro K L n h;exact h
 | succ f ih =>
  intro K L n h;unfold tW;have hs:=P.Cr (P.aHc (32*P.N)) L K h;split
  ·exact hs
  ·exact ih _ _ _ hs
theorem CJ (L:List Int):∀ x∈(P.rounds L).1,P.has x=true:=P.aFa _ _ _ _ fun x hx=>by cases hx
theorem aBx (K l:List Int) (a:Int):P.pI K (l++[a])=P.pI K l++if P.due K a=true then [P.ref a 1] else []:=by
 unfold pI;rw[List.filter_append,List.map_append,List.filter_cons,List.filter_nil];split <;> rfl
theorem Ko (K l:List Int):(P.pI K l).length≤l.length:=by
 unfold pI;rw[List.length_map];exact List.length_filter_le _ _
theorem DF (hN:P.N≤64) {a:Int} (h:a∈P.all):i64 a:=by
 unfold all at h;obtain⟨i,hi,rfl⟩:=List.mem_map.1 h;unfold mX at hi;have:=List.mem_range.1 (List.mem_filter.1 hi).1;exact⟨by omega,by omega⟩
theorem uI:P.all.length≤32*P.N:=by
 unfold all mX;rw[List.length_map];have:=List.length_filter_le P.jQ (List.range (32*P.N))
 rwa [List.length_range] at this
end PH
section
variable {kc:Kc} {q:Bool} {s:St} {Φ:Value→St→Prop} {h:Nat} {P:PH}
theorem dH:type_of% (B9 @RX @Js @wg @bh @wh @Qk @EK @Ii (B7 @dV @dQ @bG @XV @pX @MC @mC)):=B9 @RX @Js @wg @bh @wh @Qk @EK @Ii (B7 @dV @dQ @bG @XV @pX @MC @mC)
theorem aDm (hs:Ok s) (H:bK s h P) (G:P.bX) {va:Option Addr} {vn vc:Nat} {L:List Int} (hL:Ints s (.slice va vn vc) L) (vS:vn<100000) (nO:∀ b∈nameOf (.slice va vn vc),b<s.next) (jc:∀ x∈L,i64 x)
  (hΦ:∀ mb s',fV s' mb (keys (P.rounds L).1)→aC [] s s'→s.next≤mb→Φ (.tuple #[.map (some mb),int (P.rounds L).2]) s'):okF q X (KO kc) 70 [ptr h,.slice va vn vc] s Φ:=by
 have bY:=H.bY;refine aW Tryz.func70 (by kernel_rfl) rfl rfl (rs:=[.tmp 4,.tmp 5]) rfl (N:=79) rfl rfl ?_;refine aA fun bF aF bD=>?_;simp only[dH,zC];obtain⟨s1,e1,k1,c1,n1⟩:=cI hs (L:=[ptr h]) (n:=1) (e:=34) rfl;rw[e1];refine aF _ _ ?_;refine aA fun Ψ1 aE aL=>?_;simp only[dH,↓reduceIte,zA,zC];obtain⟨s2,e2,k2,c2,n2⟩:∃ S,(s1.new fun v=>bW.map [] 0 v)=S∧aC [] s1 S∧fV S s1.next []∧S.next=s1.next+2 :=
  ⟨_,rfl,(aC.refl k1.ok).new (.inr (Nat.le_refl _)),fV.kC (s:=s1) (x:=s1.next),rfl⟩
 rw[e2];obtain⟨s3,e3,k3,c3,n3⟩:=cI k2.ok (L:=[.map none]) (n:=1) (e:=121) rfl;rw[e3];obtain⟨s4,e4,c4,k4⟩:=c3.storeAll k3.ok (vs:=[.map (some s1.next)]) rfl rfl;rw[e4];have EF:aC [] s2 s4:=k3.step k4 fun g hg=>.inr (by rw[List.mem_singleton.1 hg];exact k2.ok.fresh _ (Nat.le_refl _));simp only[dH];refine aE _ _ ?_;refine aA fun Ψ2 aI bH=>?_;simp only[dH];obtain⟨s5,e5,k5,c5,n5⟩:=cI EF.ok (L:=[.nilFunc]) (n:=1) (e:=126) rfl;rw[e5];refine aI _ _ ?_;refine aA fun Ψ3 aN bM=>?_;simp only[dH,↓reduceIte,zA,zC];obtain⟨s6,e6,c6,k6⟩:=c5.storeAll k5.ok (vs:=[.func (.func 162) #[] #[ptr s.next,ptr s2.next,ptr s4.next]]) rfl rfl;have BS:aC [] s4 s6:=k5.step k6 fun g hg=>.inr (by rw[List.mem_singleton.1 hg];exact EF.ok.fresh _ (Nat.le_refl _));have tS:aC [] s s6:=(k1.trans k2).trans (EF.trans BS);rw[e6];simp only[dH];refine aN _ _ ?_;have n24:=EF.next;have n46:=BS.next;have V6:rF s6 h P s.next s2.next s4.next s1.next []:=by
  refine⟨H.aJ tS,G,c1.aD (k2.trans (EF.trans BS)) (by simp),c4.aD BS (by simp),c6,c2.aD (EF.trans BS) (by simp),fun hh=>?_,by omega,by omega,by omega⟩;have:=H.eM hs _ hh;omega
 have C8:Ints s6 (.slice va vn vc) L:=hL.aD tS (by simp);refine aA fun Ψ4 aP cC=>?_;simp only[dH];refine aP _ _ ?_;refine aA fun cU aZ cK=>?_;simp only[dH,↓reduceIte,zA];refine aZ _ _ ?_;refine cJ fun dN bO oL cZ=>?_;refine cR.loop (fun k a' s'=>∃ K Lc n f va vn vc,k=P.free K∧P.free K<f∧P.tW f K Lc n=P.rounds L∧n+P.free K≤32*P.N∧a'.aB 2=ptr s.next∧a'.aB 6=ptr s2.next∧a'.aB 7=ptr s4.next∧a'.aB 8=int n∧a'.aB 9=.slice va vn vc∧Ints s' (.slice va vn vc) Lc∧vn<100000∧(∀ x∈Lc,i64 x)∧(∀ b∈nameOf (.slice va vn vc),b≠s1.next)∧rF s' h P s.next s2.next s4.next s1.next K∧aC [s1.next] s6 s') ?_ (P.free []) ?_
 ·rintro k a' s' ⟨K,Lc,n,f,va,vn,vc,rfl,hf,hR,hn,r2,r6,r7,r8,r9,vQ,hmx,jc,hnm,V,hk⟩;have lm:=V.om.load (i:=0) rfl;refine aA fun fE cG dX=>?_;refine cJ fun gV cT tQ gA=>?_;refine aA fun jC dK iK=>?_;obtain⟨es,aR,m1,m2⟩:=Hf V.mp;simp only[dH,↓reduceIte,r6,lm,m1,m2];refine dK _ _ ?_;refine aA fun lO eG kY=>?_;refine aA fun rE jI pS=>?_;simp only[dH,↓reduceIte,zA,r9];refine jI _ _ ?_;refine cJ fun sF iY mw rQ=>?_;refine rW (n:=vn) (fun j a' s'=>a'.aB 2=ptr s.next∧a'.aB 6=ptr s2.next∧a'.aB 7=ptr s4.next∧a'.aB 8=int n∧a'.aB 10=int K.length∧a'.aB 26=.slice va vn vc∧a'.aB 27=int vn∧a'.aB 28=int j∧rF s' h P s.next s2.next s4.next s1.next ((Lc.take j).foldl (P.visit (32*P.N)) K)∧aC [s1.next] s6 s'∧Ints s' (.slice va vn vc) Lc)
   (fun j a' s'=>a'.aB 2=ptr s.next∧a'.aB 6=ptr s2.next∧a'.aB 7=ptr s4.next∧a'.aB 8=int n∧a'.aB 10=int K.length∧a'.aB 26=.slice va vn vc∧a'.aB 27=int vn∧a'.aB 28=int j∧rF s' h P s.next s2.next s4.next s1.next ((Lc.take (j+1)).foldl (P.visit (32*P.N)) K)∧aC [s1.next] s6 s'∧Ints s' (.slice va vn vc) Lc) ?_ ?_ ?_ ?_ (Nat.zero_le _) ?_
  ·rintro j a' s' hj ⟨r2,r6,r7,r8,cH,pJ,kD,nW,hV,hk,vQ⟩ aV bP;simp only[dH,↓reduceIte,kD,nW];refine bP _ _ (decide ((j:Int)<vn)) ?_ (by simp) ⟨?_,?_,?_,?_,?_,?_,?_,?_,hV,hk,vQ⟩
   all_goals simp only[dH,↓reduceIte,zA,r2,r6,r7,r8,cH,pJ,kD,nW]
  ·rintro j a' s' hj ⟨r2,r6,r7,r8,cH,pJ,kD,nW,hV,hk,vQ⟩ aV h1 h2 h3;obtain⟨vb,dW,rfl⟩:=Sl.addr vQ (show 0<vn by omega);have hlen:Lc.length=vn:=vQ.len;have g1:(0:Int)≤(j:Int):=Int.natCast_nonneg _;have g2:(j:Int)<((vn:Nat):Int):=by omega
   have lj:aG s'.look ⟨vb,dW+j,none⟩=some (int (Lc[j]'(by omega))):=vQ.get (List.getElem?_eq_getElem _);have lf:=hV.of.load (i:=0) rfl;have hi:i64 (Lc[j]'(by omega)):=jc _ (List.getElem_mem _);refine aA fun wV lU vU=>?_;simp only[dH,↓reduceIte,pJ,nW,g1,g2,and_self,bQ,Int.toNat_natCast,Nat.mul_one,lj];refine lU _ _ ?_;simp only[dH,↓reduceIte,zA,r7,lf];refine MM (fi:=#[]) (ca:=#[ptr s.next,ptr s2.next,ptr s4.next]) ?_ ?_ (aDo (32*P.N) hk.ok hV hi (P.OU _) fun s5 V5 k5=>?_)
   ·simp only[dH,↓reduceIte,zA]
   ·simp only[dH,↓reduceIte]
   simp only[dH];refine h1 _ _ ⟨?_,?_,?_,?_,?_,?_,?_,?_,?_,hk.trans k5,Sl.aD vQ k5 fun b hb hb'=>?_⟩
   all_goals try simp only[dH,↓reduceIte,zA,r2,r6,r7,r8,cH,pJ,kD,nW]
   ·rw[List.take_add_one,List.getElem?_eq_getElem (show j<Lc.length by omega),List.foldl_append];exact V5
   ·exact hnm b hb (by simpa using hb')
  ·rintro j a' s' hj ⟨r2,r6,r7,r8,cH,pJ,kD,nW,hV,hk,vQ⟩ aV h1;have w:IntKind.i64.wrap ((j:Int)+1)=((j+1:Nat):Int):=by rw[aU (by omega) (by omega)];rfl
   simp only[dH,↓reduceIte,nW,w];refine h1 _ _ ⟨?_,?_,?_,?_,?_,?_,?_,?_,hV,hk,vQ⟩
   all_goals try simp only[dH,↓reduceIte,zA,r2,r6,r7,r8,cH,pJ,kD]
  ·rintro a' s' ⟨r2,r6,r7,r8,cH,pJ,kD,nW,hV,hk,vQ⟩;refine mw _ _ (eG _ _ ?_);have kg:=hk;have hlen:Lc.length=vn:=vQ.len;rw[List.take_of_length_le (by omega)] at hV;have lm:=hV.om.load (i:=0) rfl;obtain⟨es,aR,m1,m2⟩:=Hf hV.mp;refine aA fun DB tN tO=>?_;refine aA fun NS uO xN=>?_;simp only[dH,↓reduceIte,zA,r6,lm,m1,m2,cH];refine uO _ _ ?_;have U_:List.foldl (P.visit (32*P.N)) K Lc=P.iG K Lc:=rfl;rw[U_] at hV m2 ⊢;obtain⟨f,rfl⟩:∃ f',f=f'+1:=⟨f-1,by omega⟩;unfold PH.tW at hR;by_cases he:(P.iG K Lc).length=K.length
   ·have eb:(((P.iG K Lc).length:Int)==(K.length:Int))=true:=by rw[beq_iff_eq];omega
    rw[if_pos he] at hR;rw[← hR] at hΦ;simp only[dH,↓reduceIte,zA,eb,r6,lm,r8];refine tO _ _ _ (by simp) (gA _ _ _ (by simp) (by simp) (dX _ _ _ (by simp) (cZ _ _ _ (by simp) (by simp) ?_)));simp only[dH,↓reduceIte,zA];exact hΦ s1.next s' hV.mp (tS.step hk fun g hg=>.inr (hs.fresh _ (by simp at hg;omega))) (by omega)
   ·have eb:(((P.iG K Lc).length:Int)==(K.length:Int))=false:=by rw[beq_eq_false_iff_ne];omega
    have L6:=P.Qx K Lc he;rw[if_neg he] at hR;simp only[dH,↓reduceIte,eb];refine tN _ _ ?_;refine aA fun DC pE ED=>?_;simp only[dH];refine pE _ _ ?_;refine aA fun NU tP LN=>?_;have lh:=hV.oh.load (i:=0) rfl;simp only[dH,↓reduceIte,zA,r2,lh];refine aH ?_ (jr hk.ok hV.H fun s7 aa an ac b7 zX aI5 k7=>?_)
    ·simp only[dH,↓reduceIte]
    try simp only[dH,↓reduceIte]
    refine tP _ _ ?_;have V7:=hV.aD k7;have hal:=P.uI;refine cJ fun uv LO X4 mz=>?_;subst zX;refine rW (n:=P.all.length) (fun j a' s'=>∃ va vn vc,a'.aB 2=ptr s.next∧a'.aB 6=ptr s2.next∧a'.aB 7=ptr s4.next∧a'.aB 8=int n∧a'.aB 9=.slice va vn vc∧vn=(P.pI (P.iG K Lc) (P.all.take j)).length∧bJ s' 3 1 (.slice va vn vc) ((P.pI (P.iG K Lc) (P.all.take j)).map int)∧(∀ b∈nameOf (.slice va vn vc),s7.next≤b)∧a'.aB 43=.slice aa P.all.length ac∧a'.aB 44=int P.all.length∧a'.aB 45=int j∧aC [] s7 s')
     (fun j a' s'=>∃ va vn vc,a'.aB 2=ptr s.next∧a'.aB 6=ptr s2.next∧a'.aB 7=ptr s4.next∧a'.aB 8=int n∧a'.aB 9=.slice va vn vc∧vn=(P.pI (P.iG K Lc) (P.all.take (j+1))).length∧bJ s' 3 1 (.slice va vn vc) ((P.pI (P.iG K Lc) (P.all.take (j+1))).map int)∧(∀ b∈nameOf (.slice va vn vc),s7.next≤b)∧a'.aB 43=.slice aa P.all.length ac∧a'.aB 44=int P.all.length∧a'.aB 45=int j∧aC [] s7 s') ?_ ?_ ?_ ?_ (Nat.zero_le _) ?_
    ·rintro j a' s' hj ⟨va,vn,vc,r2,r6,r7,r8,r9,nO,hb,hnm,AT,AU,yB,hk⟩ aV bP;simp only[dH,↓reduceIte,AU,yB];refine bP _ _ (decide ((j:Int)<P.all.length)) ?_ (by simp) ⟨va,vn,vc,?_,?_,?_,?_,?_,nO,hb,hnm,?_,?_,?_,hk⟩
     all_goals simp only[dH,↓reduceIte,zA,r2,r6,r7,r8,r9,AT,AU,yB]
    ·rintro j a' s' hj ⟨va,vn,vc,r2,r6,r7,r8,r9,nO,hb,hnm,AT,AU,yB,hk⟩ aV h1 h2 h3;obtain⟨vb,dW,rfl⟩:=b7.sl.addr (show 0<P.all.length by omega);have g1:(0:Int)≤(j:Int):=Int.natCast_nonneg _;have g2:(j:Int)<((P.all.length:Nat):Int):=by omega
     obtain⟨x,hx⟩:∃ x,x=P.all[j]:=⟨_,rfl⟩;have lj:aG s'.look ⟨vb,dW+j,none⟩=some (int x):=by
      refine(b7.sl.aD hk (by simp)).load (i:=j) ?_;rw[List.getElem?_map,List.getElem?_eq_getElem hj,hx];rfl
     have hxi:i64 x:=P.DF bY (by rw[hx];exact List.getElem_mem _);have V8:=V7.aD hk;have lm:=V8.om.load (i:=0) rfl;have lh:=V8.oh.load (i:=0) rfl;obtain⟨es,aR,m1,m2⟩:=XN V8.mp x;have qJ:P.all.take (j+1)=P.all.take j++[x]:=by rw[List.take_add_one,List.getElem?_eq_getElem hj,hx];rfl
     have tM:=P.aBx (P.iG K Lc) (P.all.take j) x;rw[← qJ] at tM;have hno:P.due (P.iG K Lc) x=false→P.pI (P.iG K Lc) (P.all.take (j+1))=P.pI (P.iG K Lc) (P.all.take j):=fun h=>by rw[tM,h,if_neg (by simp),List.append_nil]
     have hlen:(P.pI (P.iG K Lc) (P.all.take j)).length≤P.all.length:=by
      have h1:=P.Ko (P.iG K Lc) (P.all.take j);have h2:=List.length_take_le j P.all;rw[List.length_take] at h1;omega
     refine aA fun TB sR QB=>?_;simp only[dH,↓reduceIte,AT,yB,g1,g2,and_self,bQ,Int.toNat_natCast,Nat.mul_one,lj];refine sR _ _ ?_;refine aA fun FR nQ zZ=>?_;refine aA fun NV rR LP=>?_;refine cL [(4,53)] (by kernel_rfl) fun O hO bC hR=>?_;have y4:∀ a,aO O a 4=aY (a.aB 53):=hO (4,53) (by simp);rcases m2 with ⟨hc,m2⟩ | ⟨hc,i,m2⟩
     ·have hd:=hno (by unfold PH.due;rw[hc];rfl);simp only[dH,↓reduceIte,zA,reduceCtorEq,y4,r6,lm,m1,m2];refine hR _ _ (rR _ _ ?_);simp only[dH,↓reduceIte];refine zZ _ _ _ (by simp) (h2 _ _ ⟨va,vn,vc,?_,?_,?_,?_,?_,by rw[hd];exact nO,by rw[hd];exact hb,hnm,?_,?_,?_,hk⟩)
      all_goals simp only[dH,↓reduceIte,zA,r2,r6,r7,r8,r9,AT,AU,yB]
     ·simp only[dH,↓reduceIte,zA,y4,r6,lm,m1,m2,r2,lh];refine aH ?_ (aDl hk.ok V8.H x hxi fun s8 k8=>?_)
      ·simp only[dH,↓reduceIte,zA]
      have gZ:=hk.trans k8;have V9:=V8.aD k8;have lm9:=V9.om.load (i:=0) rfl;have lh9:=V9.oh.load (i:=0) rfl;cases WK:((P.aM x).k==2) with
      | false =>
       have hd:=hno (by unfold PH.due;rw[WK];simp);simp only[dH,↓reduceIte,zA,y4,WK];refine hR _ _ (rR _ _ ?_);simp only[dH,↓reduceIte];refine zZ _ _ _ (by simp) (h2 _ _ ⟨va,vn,vc,?_,?_,?_,?_,?_,by rw[hd];exact nO,by rw[hd];exact hb.aD k8 (by simp),hnm,?_,?_,?_,gZ⟩)
       all_goals simp only[dH,↓reduceIte,zA,r2,r6,r7,r8,r9,AT,AU,yB]
      | true =>
       simp only[dH,↓reduceIte,zA,y4,WK];refine hR _ _ (rR _ _ ?_);simp only[dH,↓reduceIte];refine nQ _ _ ?_;refine aA fun ck BP XD=>?_;simp only[dH,↓reduceIte,zA,r2,lh9];refine aH ?_ (PF gZ.ok V9.H G x 0 hxi fun s9 k9=>?_)
       ·simp only[dH,↓reduceIte,zA]
       simp only[dH,↓reduceIte,zA];refine BP _ _ ?_;have LJ:=gZ.trans k9;have Va:=V9.aD k9;have Is:=Va.om.load (i:=0) rfl;have lha:=Va.oh.load (i:=0) rfl;obtain⟨es',Xp,p1,p2⟩:=XN Va.mp (P.ref x 0);refine aA fun cn AA LQ=>?_;rcases p2 with ⟨PD,p2⟩ | ⟨PD,i',p2⟩
       ·have hd:=hno (by unfold PH.due;rw[PD];simp);simp only[dH,↓reduceIte,zA,r6,Is,p1,p2];refine AA _ _ ?_;simp only[dH,↓reduceIte];refine h1 _ _ ⟨va,vn,vc,?_,?_,?_,?_,?_,by rw[hd];exact nO,by rw[hd];exact(hb.aD k8 (by simp)).aD k9 (by simp),hnm,?_,?_,?_,LJ⟩
        all_goals simp only[dH,↓reduceIte,zA,r2,r6,r7,r8,r9,AT,AU,yB]
       ·have hd:P.pI (P.iG K Lc) (P.all.take (j+1))=P.pI (P.iG K Lc) (P.all.take j)++[P.ref x 1]:=by
         rw[tM,if_pos (by unfold PH.due;rw[hc,WK,PD];rfl)]
        simp only[dH,↓reduceIte,zA,r6,Is,p1,p2];refine AA _ _ ?_;simp only[dA,RV,RG,↓reduceIte];refine aA fun ct xO XE=>?_;simp only[dH,↓reduceIte,zA,r2,lha];refine aH ?_ (PF LJ.ok Va.H G x 1 hxi fun t1 q1=>?_)
        ·simp only[dH,↓reduceIte,zA]
        simp only[dH,↓reduceIte,zA];refine xO _ _ ?_;have ma:=LJ.trans q1;obtain⟨t2,f2,q2,d2,u2⟩:=cI ma.ok (L:=[int (P.ref x 1)]) (n:=1) (e:=3) rfl;obtain⟨w,t3,f3,b3,q3,m3,a3,sK,rfl⟩:=iE (X:=X) (t:=62) (e:=3) (N:=1) (B:=8) (z:=.int .i64 0) (x:=.slice (some ⟨t1.next,0,none⟩) 1 1) (k:=1) (new:=[int (P.ref x 1)]) (by kernel_rfl) (by kernel_rfl) rfl q2.ok (by omega) ((((hb.aD k8 (by simp)).aD k9 (by simp)).aD q1 (by simp)).aD q2 (by simp)) rfl (lQ (by omega) (d2.bI (i:=0) (k:=1) (Nat.le_refl _))) rfl rfl (by omega) (by omega);simp only[dH,↓reduceIte,zA,r9];rw[f2];refine iS ?_ f3 ?_
        ·simp only[dH,↓reduceIte,zA]
        simp only[dH,↓reduceIte];have zX:=(ma.trans q2).next;refine h1 _ _ ⟨a3,vn+1,sK,?_,?_,?_,?_,?_,by rw[hd,List.length_append,← nO];rfl,by rw[hd,List.map_append];exact b3,?_,?_,?_,?_,(ma.trans q2).step q3 fun g hg=>.inr (k7.ok.fresh _ (hnm g hg))⟩
        ·simp only[dH,↓reduceIte,zA,r2]
        ·simp only[dH,↓reduceIte,zA,r6]
        ·simp only[dH,↓reduceIte,zA,r7]
        ·simp only[dH,↓reduceIte,zA,r8]
        ·simp only[dH,↓reduceIte]
        ·intro b hb';rcases m3 b hb' with h | h
         ·exact hnm b h
         ·omega
        ·simp only[dH,↓reduceIte,zA,AT]
        ·simp only[dH,↓reduceIte,zA,AU]
        ·simp only[dH,↓reduceIte,zA,yB]
    ·rintro j a' s' hj ⟨va,vn,vc,r2,r6,r7,r8,r9,nO,hb,hnm,AT,AU,yB,hk⟩ aV h1;have w:IntKind.i64.wrap ((j:Int)+1)=((j+1:Nat):Int):=by rw[aU (by omega) (by omega)];rfl
     simp only[dH,↓reduceIte,yB,w];refine h1 _ _ ⟨va,vn,vc,?_,?_,?_,?_,?_,nO,hb,hnm,?_,?_,?_,hk⟩
     all_goals try simp only[dH,↓reduceIte,zA,r2,r6,r7,r8,r9,AT,AU]
    ·rintro a' s' ⟨va,vn,vc,r2,r6,r7,r8,r9,nO,hb,hnm,AT,AU,yB,hk⟩;rw[List.take_of_length_le (Nat.le_refl _)] at nO hb;refine X4 _ _ (cT _ _ (cG _ _ ?_));have w:IntKind.i64.wrap ((n:Int)+1)=((n+1:Nat):Int):=by rw[aU (by omega) (by omega)];rfl
     have n7:=k7.next;have nk:=kg.next;have hnl:=P.Ko (P.iG K Lc) P.all;simp only[dH,↓reduceIte,zA,r8,w];refine⟨P.free (P.iG K Lc),L6,P.iG K Lc,rfl,P.pI (P.iG K Lc) P.all,n+1,f,by omega,hR,by omega,r2,r6,r7,rfl,va,vn,vc,r9,hb.sl,by omega,?_,?_,V7.aD hk,?_⟩
     ·intro x hx;obtain⟨y,hy,rfl⟩:=List.mem_map.1 hx;exact PH.RT H y 1
     ·intro b hb;have h1:=hnm b hb;have h2:=hV.mp.lt kg.ok;omega
     ·exact kg.trans (k7.any.trans hk.any)
    ·refine⟨none,0,0,?_,?_,?_,?_,?_,rfl,.nil,by simp[nameOf],?_,?_,?_,.refl k7.ok⟩
     all_goals try simp only[dH,↓reduceIte,zA,r2,r6,r7,r8]
     rfl
  ·refine⟨?_,?_,?_,?_,?_,?_,?_,?_,V,hk,vQ⟩
   all_goals try simp only[dH,↓reduceIte,zA,r2,r6,r7,r8]
   rfl
 ·refine⟨[],L,0,32*P.N+1,va,vn,vc,rfl,by have:=P.OU [];omega,rfl,by have:=P.OU [];omega,?_,?_,?_,?_,?_,C8,vS,jc,?_,V6,.refl tS.ok⟩
  all_goals try simp only[dH,↓reduceIte,zA]
  ·rfl
  ·intro b hb;have:=nO b hb;omega
end
open Go.Proofs
set_option maxRecDepth 100000
set_option maxHeartbeats 1000000
def PH.NQ (P:PH) (a:Int):Int:=if a=0∨P.has a=true then -1 else if (P.find a).isSome=true then 0 else if 0≤a∧a<64*P.N then 1 else 2
section
variable {kc:Kc} {q:Bool} {s:St} {Φ:Value→St→Prop} {h:Nat} {P:PH}
theorem NO (hs:Ok s) (H:bK s h P) (a:Int) (ha:i64 a) (hΦ:∀ s',aC [] s s'→Φ (int (if P.has a=true then P.w a.toNat else 0)) s'):okF q X (KO kc) 73 [ptr h,int a] s Φ:=by
 refine aW Tryz.func73 (by kernel_rfl) rfl rfl (rs:=[.tmp 4]) rfl (N:=14) rfl rfl ?_;refine aA fun bF aF bD=>?_;simp only[RX,seval];refine aF _ _ ?_;refine aA fun Ψ1 aE aL=>?_;simp only[RX,seval];refine aH ?_ (jt hs H a ha fun s2 k2=>?_)
 ·simp only[RX,seval]
 have:=hΦ _ k2;by_cases hh:P.has a=true
 ·rw[if_pos hh] at this;simp only[RX,seval,hh];refine aE _ _ ?_;refine aA fun Ψ2 aI bH=>?_;simp only[RX,seval];refine aI _ _ ?_;simp only[RX,seval];exact this
 ·rw[if_neg hh] at this;have hh:P.has a=false:=by simpa using hh
  simp only[RX,seval,hh];refine aE _ _ ?_;refine aA fun Ψ2 aI bH=>?_;simp only[RX,seval];refine aI _ _ ?_;simp only[RX,seval];exact this
theorem aHa (hs:Ok s) (H:bK s h P) (a:Int) (ha:i64 a) (hΦ:∀ s',aC [] s s'→Φ (int (P.NQ a)) s'):okF q X (KO kc) 64 [ptr h,int a] s Φ:=by
 unfold PH.NQ at hΦ;refine aW Tryz.func64 (by kernel_rfl) rfl rfl (rs:=[.tmp 4]) rfl (N:=35) rfl rfl ?_;refine aA fun bF aF bD=>?_;simp only[RX,seval];refine aF _ _ ?_;refine aA fun Ψ1 aE aL=>?_;simp only[RX,seval];refine aH ?_ (js hs H a fun s2 k2=>?_)
 ·simp only[RX,seval]
 have H2:=H.aJ k2;obtain⟨x,e,he,hf⟩:∃ x e,CB (P.find a)=.tuple #[int x,int e]∧(e==0)=(P.find a).isSome:=by
  cases P.find a with
  | none=>exact⟨_,_,rfl,rfl⟩
  | some y=>exact⟨_,_,rfl,rfl⟩
 rw[he]
 try simp only[RX,seval]
 refine aE _ _ ?_;refine aA fun Ψ2 aI bH=>?_;simp only[RX,seval];refine aH ?_ (Ed k2.ok H2 a ?_)
 ·simp only[RX,seval]
 obtain⟨y,e2,G_,hf2⟩:∃ y e,(if 0≤a∧a<64*P.N then Value.tuple #[int (P.w a.toNat),int 0] else Value.tuple #[int 0,int 1])=.tuple #[int y,int e]∧(e==0)=decide (0≤a∧a<64*P.N):=by
  by_cases hc:0≤a∧a<64*P.N
  ·rw[if_pos hc];exact⟨_,_,rfl,by rw[decide_eq_true hc];rfl⟩
  ·rw[if_neg hc];exact⟨_,_,rfl,by rw[decide_eq_false hc];rfl⟩
 rw[G_]
 try simp only[RX,seval]
 refine aI _ _ ?_;refine aA fun Ψ3 aN bM=>?_;refine cJ fun Ψ4 aP xS cC=>?_;refine aA fun cU aZ cK=>?_;refine cL [(2,24)] (by kernel_rfl) fun O hO bC hR=>?_;have y2:∀ a,aO O a 2=aY (a.aB 24):=hO (2,24) (by simp);have aIe:∀ s3,aC [] s s3→¬ (a=0∨P.has a=true)→True:=fun _ _ _=>trivial;cases h0:(a==0) with
 | true =>
  rw[if_pos (.inl (by simpa using h0))] at hΦ;simp only[RX,seval,y2,h0];refine hR _ _ (aZ _ _ ?_);simp only[RX,seval];refine cC _ _ _ (by simp) (by simp) (bM _ _ _ (by simp) ?_);simp only[RX,seval];exact hΦ _ k2
 | false =>
  simp only[RX,seval,y2,h0];refine aH ?_ (LD k2.ok H2 a ha fun s3 k3=>?_)
  ·simp only[RX,seval]
  have fC:=k2.trans k3;cases hh:P.has a with
  | true =>
   rw[if_pos (.inr hh)] at hΦ;simp only[RX,seval];refine hR _ _ (aZ _ _ ?_);simp only[RX,seval];refine cC _ _ _ (by simp) (by simp) (bM _ _ _ (by simp) ?_);simp only[RX,seval];exact hΦ _ fC
  | false =>
   rw[if_neg (by rw[hh];simp only[Bool.false_eq_true,or_false];simpa using h0)] at hΦ;simp only[RX,seval];refine hR _ _ (aZ _ _ ?_);simp only[dA,RV,RG,seval];refine aA fun dN bO cZ=>?_;cases hs1:(P.find a).isSome with
   | true =>
    rw[hs1,if_pos rfl] at hΦ;rw[hs1] at hf;simp only[RX,seval,hf];refine bO _ _ ?_;simp only[RX,seval];refine cC _ _ _ (by simp) (by simp) (bM _ _ _ (by simp) ?_);simp only[RX,seval];exact hΦ _ fC
   | false =>
    rw[hs1,if_neg (by simp)] at hΦ;rw[hs1] at hf;simp only[RX,seval,hf];refine bO _ _ ?_;simp only[dA,RV,RG,seval];refine aA fun fE cG dX=>?_;by_cases hc:0≤a∧a<64*P.N
    ·rw[if_pos hc] at hΦ;rw[decide_eq_true hc] at hf2;simp only[RX,seval,hf2];refine cG _ _ ?_;simp only[RX,seval];refine cC _ _ _ (by simp) (by simp) (bM _ _ _ (by simp) ?_);simp only[RX,seval];exact hΦ _ fC
    ·rw[if_neg hc] at hΦ;rw[decide_eq_false hc] at hf2;simp only[RX,seval,hf2];refine cG _ _ ?_;simp only[RX,seval];refine aP _ _ ?_;refine aN _ _ ?_;simp only[RX,seval];exact hΦ _ fC
theorem tz:type_of% (B5 @RX @EJ @TY @yz @Qi):=B5 @RX @EJ @TY @yz @Qi
theorem Td (hs:Ok s) {b o vn vc:Nat} {va:Option Addr} {Lb C:List Value} (O:Obj s b Lb) (ho:Lb[o]?=some (.slice va vn vc)) (B:bJ s 51 3 (.slice va vn vc) C) (hne:b∉nameOf (.slice va vn vc)) (hm:vn<1000000) (k at_ i:Int)
  (hΦ:∀ FL FM s',Obj s' b (Lb.set o (.slice FL (vn+1) FM))→bJ s' 51 3 (.slice FL (vn+1) FM) (C++[int k,int at_,int i])→(∀ x∈nameOf (.slice FL (vn+1) FM),x∈nameOf (.slice va vn vc)∨s.next≤x)→aC (b::nameOf (.slice va vn vc)) s s'→Φ (.tuple #[]) s'):okF q X (KO kc) 65 [.pointer (some ⟨b,o,none⟩),int k,int at_,int i] s Φ:=by
 have l:=O.load ho;refine aW Tryz.func65 (by kernel_rfl) rfl rfl (rs:=[]) rfl (N:=19) rfl rfl ?_;simp only[tz,seval,l];obtain⟨s1,e1,k1,c1,n1⟩:=cI hs (L:=[int k,int at_,int i]) (n:=3) (e:=51) rfl;rw[e1];obtain⟨w,s2,e2,b2,k2,m2,a2,c2,rfl⟩:=iE (X:=X) (t:=110) (e:=51) (N:=3) (B:=24) (z:=.agg #[int 0,int 0,int 0]) (x:=.slice (some ⟨s.next,0,none⟩) 1 1) (k:=1) (new:=[int k,int at_,int i]) (by kernel_rfl) (by kernel_rfl) rfl k1.ok (by omega) (B.aD k1 (by simp)) rfl (lQ (by omega) (c1.bI (i:=0) (k:=3) (Nat.le_refl _))) rfl rfl (by omega) (by omega);refine iS ?_ e2 ?_
 ·simp only[tz,seval]
 obtain⟨s3,e3,c3,k3⟩:=((O.aD k1 (by simp)).aD k2 hne).store k2.ok (i:=o) (vs:=[.slice a2 (vn+1) c2]) (by have:=(List.getElem?_eq_some_iff.1 ho).1;simp;omega) rfl;simp only[tz,seval,e3];have cD:=O.lt hs;have n1':=k1.next;refine hΦ a2 c2 s3 ?_ (b2.aD k3 fun x hx hx'=>?_) (fun x hx=>(m2 x hx).imp id fun h=>by omega) ((k1.any.trans (k2.mono fun x hx=>List.mem_cons_of_mem _ hx)).trans (k3.mono fun x hx=>by simp at hx;simp[hx]))
 ·rw[Qg (List.getElem?_eq_some_iff.1 ho).1] at c3;exact c3
 ·simp at hx';subst hx';rcases m2 _ hx with h | h
  ·exact hne h
  ·omega
end
open Go.Proofs
set_option maxRecDepth 100000
set_option maxHeartbeats 1000000
section
variable {kc:Kc} {q:Bool} {s:St} {Φ:Value→St→Prop}
theorem SO:type_of% (B4 @RX @AD @AM @NC):=B4 @RX @AD @AM @NC
theorem Z1 {v f:Value} {n:Nat} (hn:n≤1) (hΦ:Φ (.tuple #[]) s):okF q X (KO kc) 244 [v,int 0,int n,f] s Φ:=by
 refine aW Tryz.func244 (by kernel_rfl) rfl rfl (rs:=[]) rfl (N:=53) rfl rfl ?_;refine aA fun bF aF bD=>?_;have w:IntKind.i64.wrap ((0:Int)+1)=1:=rfl;simp only[SO,↓reduceIte,w];refine aF _ _ ?_;refine cJ fun Ψ1 aE X5 aL=>?_;refine cR.loop (fun k a' s'=>a'.aB 8=int 1∧a'.aB 2=int n∧s'=s) ?_ 0 ?_
 ·rintro k a' s' ⟨r8,r2,rfl⟩;have g:¬ (1:Int)<(n:Int):=by omega
  refine aA fun Ψ2 aI bH=>?_;refine aA fun Ψ3 aN bM=>?_;simp only[SO,↓reduceIte,zA,r8,r2,g,decide_false];refine aN _ _ ?_;simp only[SO,↓reduceIte];refine bH _ _ _ (by simp) ?_;refine X5 _ _ ?_;simp only[SO];exact hΦ
 ·refine⟨?_,?_,rfl⟩
  all_goals simp only[SO,↓reduceIte,zA]
theorem CV:type_of% (B3 @RX @AD @AM):=B3 @RX @AD @AM
theorem aDk {va:Option Addr} {f:Value} {n c:Nat} {l:Int} (hn:n≤1) (hΦ:Φ (.tuple #[]) s):okF q X (KO kc) 219 [.slice va n c,int 0,int n,int l,f] s Φ:=by
 have hk:KO kc 219 [.slice va n c,int 0,int n,int l,f] s=none:=by
  show (if (219=219∧YC [.slice va n c,int 0,int n,int l,f]=true) then NB [.slice va n c,int 0,int n,int l,f] s else none)=none;rw[if_neg (by rintro⟨_,h⟩;have:=of_decide_eq_true h;omega)]
 obtain⟨v,hv⟩:∃ v,v=Value.slice va n c:=⟨_,rfl⟩;rw[← hv] at hk ⊢;refine Lq hk (Co Tryz.func219 (by kernel_rfl)) rfl (rs:=[]) rfl (N:=148) rfl rfl ?_;refine aA fun bF aF bD=>?_;simp only[CV];refine aF _ _ ?_;refine aA fun Ψ1 aE aL=>?_;simp only[CV];refine aE _ _ ?_;refine cJ fun Ψ2 aI xQ bH=>?_;refine cR.loop (fun k a' s'=>a'.aB 0=v∧a'.aB 1=int 0∧a'.aB 2=int n∧a'.aB 4=f∧s'=s) ?_ 0 ?_
 ·rintro k a' s' ⟨r0,r1,r2,r4,rfl⟩;have w:IntKind.i64.wrap ((n:Int)-0)=n:=by rw[Int.sub_zero];exact aU (by omega) (by omega)
  have g:(n:Int)≤12:=by omega
  refine cJ fun Ψ3 aN pF bM=>?_;refine aA fun Ψ4 aP cC=>?_;simp only[CV,↓reduceIte,zA,r1,r2,w];refine aP _ _ ?_;refine aA fun cU aZ cK=>?_;refine aA fun dN bO cZ=>?_;simp only[CV,↓reduceIte,g,decide_true];refine bO _ _ ?_;simp only[CV,↓reduceIte,zA,reduceCtorEq,r0,r1,r2,r4];refine aH ?_ (Z1 (v:=v) (f:=f) (n:=n) hn ?_)
  ·simp only[CV,↓reduceIte,zA]
  try simp only[CV]
  refine cK _ _ _ (by simp) (bM _ _ _ (by simp) (by simp) (bH _ _ _ (by simp) (by simp) ?_));simp only[CV];exact hΦ
 ·refine⟨?_,?_,?_,?_,rfl⟩
  all_goals simp only[CV,↓reduceIte,zA,reduceCtorEq]
end
open Go.Proofs
set_option maxRecDepth 100000
set_option maxHeartbeats 1000000
namespace PH
variable (P:PH)
def OQ (a:Int) (i:Nat):List dC:=if P.NQ (P.ref a i)≥0 then [(P.NQ (P.ref a i),a,(i:Int))] else []
def DT (a:Int) (n:Nat):List dC:=(List.range n).flatMap (P.OQ a)
def KR (a:Int):List dC:=P.DT a (P.bZ a)
def qG:List dC:=P.all.flatMap P.KR
theorem Cn (a:Int) (n:Nat):P.DT a (n+1)=P.DT a n++P.OQ a n:=by
 unfold DT;rw[List.range_succ,List.flatMap_append];simp
theorem Cm (a:Int) (n:Nat):(P.DT a n).length≤n:=by
 induction n with
 | zero=>exact Nat.le_refl _
 | succ n ih=>rw[Cn,List.length_append];unfold OQ;split <;> simp <;> omega
theorem gu {P:PH} (G:P.bX) (l:List Int):(l.flatMap P.KR).length≤15*l.length:=by
 induction l with
 | nil=>exact Nat.le_refl _
 | cons a l ih =>
  rw[List.flatMap_cons,List.length_append,List.length_cons];have h1:=P.Cm a (P.bZ a);have h2:=(FA G a).2;have h3:P.bZ a≤15:=by unfold bZ;omega
  unfold KR at *;omega
end PH
def qC (s:St) (cb:Nat) (lo:Nat) (av:List Nat) (C:List dC):Prop:=∃ va vc,Obj s cb [.slice va C.length vc]∧bJ s 51 3 (.slice va C.length vc) (C.flatMap cE)∧(∀ b∈nameOf (.slice va C.length vc),lo≤b∧b∉av)∧cb<lo
theorem qC.aD {s s':St} {cb lo:Nat} {av:List Nat} {C:List dC} (h:qC s cb lo av C) (k:aC [] s s'):qC s' cb lo av C:=by
 obtain⟨va,vc,h1,h2,h3,h4⟩:=h;exact⟨va,vc,h1.aD k (by simp),h2.aD k (by simp),h3,h4⟩
theorem qC.off {s s':St} {cb lo:Nat} {av xC:List Nat} {C:List dC} (hs:Ok s) (h:qC s cb lo av C) (k:aC [] s s') (ha:∀ b∈xC,s.next≤b):qC s' cb lo xC C:=by
 obtain⟨va,vc,h1,h2,h3,h4⟩:=h;refine⟨va,vc,h1.aD k (by simp),h2.aD k (by simp),fun b hb=>⟨(h3 b hb).1,fun hh=>?_⟩,h4⟩;have:=h2.lt hs b hb;have:=ha b hh;omega
section
variable {kc:Kc} {q:Bool} {s:St} {Φ:Value→St→Prop} {h:Nat} {P:PH}
theorem qC.add (hs:Ok s) {cb lo:Nat} {av:List Nat} {C:List dC} (h:qC s cb lo av C) (hlo:lo≤s.next) (hav:∀ x∈av,x<s.next) (hm:C.length<1000000) (f:dC)
  (hΦ:∀ s',qC s' cb lo av (C++[f])→(∀ b m n c v L,(∀ b∈nameOf v,b∈av∧b≠cb)→v=.slice b n c→Sl s m v L→Sl s' m v L)→(∀ s0,Ok s0→aC [cb] s0 s→s0.next≤lo→aC [cb] s0 s')→s.next≤s'.next→Φ (.tuple #[]) s') :
  okF q X (KO kc) 65 [ptr cb,int f.1,int f.2.1,int f.2.2] s Φ:=by
 obtain⟨va,vc,h1,h2,h3,h4⟩:=h;refine Td hs h1 (o:=0) rfl h2 (fun hb=>by have:=(h3 _ hb).1;omega) hm _ _ _ fun FL FM s' o1 o2 o3 o4=>?_;refine hΦ s' ⟨FL,FM,?_,?_,fun b hb=>?_,h4⟩ (fun b m n c v L hb hv hc=>hc.aD o4 fun x hx hh=>?_) (fun s0 qv k0 hs0=>?_) o4.next
 ·rw[List.length_append];exact o1
 ·rw[List.length_append,List.flatMap_append,List.flatMap_singleton];exact o2
 ·rw[List.length_append] at hb;rcases o3 b hb with h | h
  ·exact h3 b h
  ·exact⟨by omega,fun hh=>by have:=hav b hh;omega⟩
 ·rcases List.mem_cons.1 hh with h | h
  ·exact(hb x hx).2 h
  ·exact(h3 x h).2 (hb x hx).1
 ·refine k0.step o4 fun g hg=>?_;rcases List.mem_cons.1 hg with h | h
  ·subst h;exact .inl (by simp)
  ·exact .inr (qv.fresh g (by have:=(h3 g h).1;omega))
end
open Go.Proofs
set_option maxRecDepth 100000
set_option maxHeartbeats 1000000
def mk1 (K:List Int) (i:Nat):Nat:=if K.contains (2*(i:Int))=true then 1 else 0
section
variable {kc:Kc} {q:Bool} {s:St} {Φ:Value→St→Prop} {t u n w:Nat} {L:Nat→Nat}
end
section
variable {kc:Kc} {q:Bool} {s:St} {Φ:Value→St→Prop} {t u h:Nat} {P:PH} {K:List Int}
abbrev Vc (s:St) (t u:Nat) (P:PH) (K:List Int):Prop:=fM s t u (32*P.N) 1 (mk1 K)
theorem Dr {P:PH} {a:Int} (h:P.has a=true):∃ j:Nat,a=2*(j:Int)∧j<32*P.N:=by
 obtain⟨h1,h2,h3,_⟩:=PH.jG.1 h;exact⟨(a/2).toNat,by omega,by omega⟩
end
open Go.Proofs
set_option maxRecDepth 100000
set_option maxHeartbeats 1000000
theorem bJ.isCells {s:St} {e:TypeId} {m b o n c:Nat} {sp:Option Nat} {L:List Value} (h:bJ s e m (.slice (some ⟨b,o,sp⟩) n c) L):∃ c z n e room ro bB,s.look b=some (.cells c z n e room ro bB):=by
 cases h with
 | own h _ _ _ _ =>
  obtain⟨c,z,n,bB,h1,_⟩:=h;exact⟨_,_,_,_,_,_,_,h1⟩
section
variable {kc:Kc} {q:Bool} {s:St} {Φ:Value→St→Prop}
end
section
variable {kc:Kc} {q:Bool} {s:St} {Φ:Value→St→Prop} {h r:Nat} {P:PH} {R:PR}
end
open Go.Proofs
set_option maxRecDepth 100000
set_option maxHeartbeats 1000000
def FC (k:Int):Nat:=if k=1 then 1 else if k=2 then 2 else 0
namespace PH
variable (P:PH)
def jm (a:Int) (j:Nat):List Int:=(List.range j).map fun(i:Nat)=>P.ref a (FC (P.aM a).k+i:Nat)
def lS (a:Int):List Int:=P.jm a (P.bZ a-FC (P.aM a).k)
theorem Qf (k:Int) (i:Nat):PH.soft k i=true↔i<FC k:=by
 unfold PH.soft FC;simp only[Bool.or_eq_true,Bool.and_eq_true,beq_iff_eq];by_cases h1:k=1
 ·rw[if_pos h1];omega
 ·rw[if_neg h1];by_cases h2:k=2
  ·rw[if_pos h2];omega
  ·rw[if_neg h2];omega
theorem qk {a x:Int}:x∈P.lS a↔∃ i:Nat,i<P.bZ a∧PH.soft (P.aM a).k i=false∧x=P.ref a i:=by
 unfold lS jm;rw[List.mem_map];constructor
 ·rintro⟨i,hi,rfl⟩;rw[List.mem_range] at hi;refine⟨_,?_,?_,rfl⟩
  ·omega
  ·rw[Bool.eq_false_iff];intro h;rw[Qf] at h;omega
 ·rintro⟨i,hi,hs,rfl⟩;have h:¬ i<FC (P.aM a).k:=fun h=>by rw[← Qf] at h;rw[h] at hs;cases hs
  refine⟨i-FC (P.aM a).k,?_,?_⟩
  ·rw[List.mem_range];omega
  ·rw[show FC (P.aM a).k+(i-FC (P.aM a).k)=i by omega]
end PH
section
variable {kc:Kc} {q:Bool} {s:St} {Φ:Value→St→Prop} {h:Nat} {P:PH}
end
open Go.Proofs
set_option maxRecDepth 100000
set_option maxHeartbeats 2000000
structure sG (s:St) (m h t u lo:Nat) (av:List Nat) (P:PH) (K W:List Int):Prop where
 H:bK s h P
 G:P.bX
 M:Vc s t u P K
 o:∃ va vc a b c d e,Obj s m [ptr h,ptr t,.slice va W.length vc,int 0,int 4096,.bool false,int a,int b,int c,int d,int e]∧bJ s 3 1 (.slice va W.length vc) (W.map int)∧∀ x∈nameOf (.slice va W.length vc),lo≤x∧x∉av
 fl:∀ x∈P.aS h,x<lo
 lt:m<lo∧t<lo∧u<lo
 nd:m∉P.aS h∧t∉P.aS h∧u∉P.aS h∧m≠t∧m≠u
namespace sG
variable {s s':St} {m h t u lo:Nat} {av xC:List Nat} {P:PH} {K W:List Int}
theorem aD (V:sG s m h t u lo av P K W) (k:aC [] s s'):sG s' m h t u lo av P K W:=by
 obtain⟨H,G,M,⟨va,vc,a,b,c,d,e,o1,o2,o3⟩,fl,lt,nd⟩:=V;exact⟨H.aJ k,G,M.aD k (by simp) (by simp),⟨va,vc,a,b,c,d,e,o1.aD k (by simp),o2.aD k (by simp),o3⟩,fl,lt,nd⟩
theorem off (hs:Ok s) (V:sG s m h t u lo av P K W) (k:aC [] s s') (ha:∀ b∈xC,s.next≤b):sG s' m h t u lo xC P K W:=by
 obtain⟨H,G,M,⟨va,vc,a,b,c,d,e,o1,o2,o3⟩,fl,lt,nd⟩:=V;refine⟨H.aJ k,G,M.aD k (by simp) (by simp),⟨va,vc,a,b,c,d,e,o1.aD k (by simp),o2.aD k (by simp),fun x hx=>⟨(o3 x hx).1,fun hh=>?_⟩⟩,fl,lt,nd⟩;have:=o2.lt hs x hx;have:=ha x hh;omega
end sG
def FU (m u lo:Nat) (av F:List Nat):Prop:=∀ x∈F,x=m∨x=u∨(lo≤x∧x∉av)
section
variable {kc:Kc} {q:Bool} {s:St} {Φ:Value→St→Prop} {m h t u lo:Nat} {av:List Nat} {P:PH} {K W:List Int}
end
open Go.Proofs
set_option maxRecDepth 100000
set_option maxHeartbeats 2000000
theorem FU.less {m u lo:Nat} {av xC F:List Nat} (h:FU m u lo av F) (hh:∀ x∈xC,x∈av):FU m u lo xC F:=fun x hx=>(h x hx).imp id fun k=>k.imp id fun⟨a,b⟩=>⟨a,fun c=>b (hh x c)⟩
theorem FU.one {m u lo:Nat} {av:List Nat}:FU m u lo av [m]:=fun x hx=>.inl (List.mem_singleton.1 hx)
theorem FU.nil {m u lo:Nat} {av:List Nat}:FU m u lo av []:=fun x hx=>by cases hx
namespace sG
variable {s s':St} {m h t u lo:Nat} {av xC:List Nat} {P:PH} {K W:List Int}
theorem l0 (V:sG s m h t u lo av P K W):aG s.look ⟨m,0,none⟩=some (ptr h):=by
 obtain⟨va,vc,a,b,c,d,e,o1,_⟩:=V.o;exact o1.load rfl
theorem l1 (V:sG s m h t u lo av P K W):aG s.look ⟨m,1,none⟩=some (ptr t):=by
 obtain⟨va,vc,a,b,c,d,e,o1,_⟩:=V.o;exact o1.load rfl
theorem l3 (V:sG s m h t u lo av P K W):aG s.look ⟨m,3,none⟩=some (int 0):=by
 obtain⟨va,vc,a,b,c,d,e,o1,_⟩:=V.o;exact o1.load rfl
theorem l5 (V:sG s m h t u lo av P K W):aG s.look ⟨m,5,none⟩=some (.bool false):=by
 obtain⟨va,vc,a,b,c,d,e,o1,_⟩:=V.o;exact o1.load rfl
theorem l2 (V:sG s m h t u lo av P K W):∃ va vc,aG s.look ⟨m,2,none⟩=some (.slice va W.length vc):=by
 obtain⟨va,vc,a,b,c,d,e,o1,_⟩:=V.o;exact⟨va,vc,o1.load rfl⟩
theorem less (V:sG s m h t u lo av P K W) (hh:∀ x∈xC,x∈av):sG s m h t u lo xC P K W:=by
 obtain⟨H,G,M,⟨va,vc,a,b,c,d,e,o1,o2,o3⟩,fl,lt,nd⟩:=V;exact⟨H,G,M,⟨va,vc,a,b,c,d,e,o1,o2,fun x hx=>⟨(o3 x hx).1,fun k=>(o3 x hx).2 (hh x k)⟩⟩,fl,lt,nd⟩
end sG
section
variable {kc:Kc} {q:Bool} {s:St} {Φ:Value→St→Prop} {m h t u lo:Nat} {av:List Nat} {P:PH} {K W:List Int}
end
open Go.Proofs
set_option maxRecDepth 100000
set_option maxHeartbeats 2000000
theorem Lk {q:Bool} {X:Env} {K:eI} {r:Option Nat} {G body:Code} {c:Operand} {e b:Nat} {Φ:dU→aK→St→Prop} (I J:Nat→aK→St→Prop) (E:aK→St→Prop)
  (hG:∀ k a s,I k a s→∀ Ψ:dU→aK→St→Prop,(∀ a' s' bb,a'.eval c=.bool bb→(bb=true→J k a' s')→(bb=false→E a' s')→Ψ .normal a' s')→cR q X K r G a s Ψ)
  (hB:∀ k a s,J k a s→∀ Ψ:dU→aK→St→Prop,(∀ a s j,j<k→I j a s→Ψ .normal a s)→(∀ a s j,j<k→I j a s→Ψ (.exit b) a s)→(∀ e' a s,e'≠.normal→e'≠.exit b→Φ e' a s→Ψ e' a s)→cR q X K r body a s Ψ)
  (hE:∀ a s,E a s→Φ (.exit e) a s) {k0:Nat} {a:aK} {s:St} (h0:I k0 a s) :
  cR q X K r (.loop (.seq (.seq G (.cond c .skip (.exit e))) (.block b body))) a s Φ:=by
 refine cR.loop I ?_ k0 h0;rintro k a s hI;refine aA fun Ψ1 h1 h1'=>?_;refine aA fun Ψ2 h2 h2'=>?_;refine hG k a s hI _ fun a' s' bb hb hJ z7=>h2 _ _ ?_;rw[RK];refine⟨bb,hb,?_⟩;cases bb with
 | true =>
  rw[if_pos rfl,MK];refine h1 _ _ ?_;refine cJ fun Ψ4 h4 h4e h4'=>?_;refine hB k a' s' (hJ rfl) Ψ4 (fun a s j hj hi=>h4 _ _ ⟨j,hj,hi⟩) (fun a s j hj hi=>h4e _ _ ⟨j,hj,hi⟩) fun e' a s hn hb hΦ=>h4' _ _ _ hn hb ?_;cases e' with
  | normal=>exact absurd rfl hn
  | _=>exact hΦ
 | false =>
  rw[if_neg (by simp),MI];exact h1' _ _ _ (by simp) (hE _ _ (z7 rfl))
inductive iI (P:PH) (L:List Int):Int→Prop
 | root {a:Int}:a∈L→P.has a=true→iI P L a
 | lS {a b:Int}:iI P L a→b∈P.lS a→P.has b=true→iI P L b
 | zM {a:Int}:iI P L a→(P.aM a).k=2→iI P L (P.ref a 0)→P.has (P.ref a 1)=true→iI P L (P.ref a 1)
theorem iI.has {P:PH} {L:List Int} {a:Int} (h:iI P L a):P.has a=true:=by cases h <;> assumption
section
variable {P:PH} {L K W:List Int} {p:List Int×List Int} {a x:Int}
structure Steps (P:PH) (l:List Int) (p p':List Int×List Int):Prop where
 sub:∀ x∈p.1,x∈p'.1
 aIz:∀ x∈p.2,x∈p'.2
 new:∀ x∈p'.1,x∈p.1∨(x∈l∧P.has x=true∧x∈p'.2)
 w:∀ x∈p'.2,x∈p.2∨x∈p'.1
 all:∀ x∈l,P.has x=true→x∈p'.1
structure aHs (P:PH) (L K W:List Int):Prop where
 xW:∀ x∈K,iI P L x
 cl:∀ x∈K,x∉W→∀ y∈P.lS x,P.has y=true→y∈K
 wk:∀ x∈W,x∈K
 room:W.length+P.free K≤32*P.N
end
section
variable {kc:Kc} {q:Bool} {s:St} {Φ:Value→St→Prop} {m h t u lo:Nat} {P:PH} {L K W:List Int}
end
open Go.Proofs
set_option maxRecDepth 100000
set_option maxHeartbeats 2000000
section
variable {kc:Kc} {q:Bool} {s:St} {Φ:Value→St→Prop} {m h t u lo:Nat} {P:PH} {L K W:List Int}
end
open Go.Proofs
set_option maxRecDepth 100000
set_option maxHeartbeats 2000000
section
variable {kc:Kc} {q:Bool} {s:St} {Φ:Value→St→Prop} {a:Option Addr} {n c:Nat} {L:List Int}
end
open Go.Proofs
set_option maxRecDepth 100000
set_option maxHeartbeats 1000000
def pN (x y:Int):Int:=if x<y then -1 else if y<x then 1 else 0
def uT:List Int→Int
 | []=>0
 | x::l=>if x=0 then uT l else x
def sO (x y:dC):Int:=uT [pN x.2.1 y.2.1,pN x.1 y.1,pN x.2.2 y.2.2]
def VI (f:dC):Value:=.agg #[int f.1,int f.2.1,int f.2.2]
section
variable {kc:Kc} {q:Bool} {s:St} {Φ:Value→St→Prop}
theorem zu (x:Int) (hΦ:Φ (.bool false) s):okF q X RA 221 [int x] s Φ:=by
 refine aW Tryz.func221 (by kernel_rfl) rfl rfl (rs:=[.tmp 2]) rfl (N:=6) rfl rfl ?_;refine aA fun bF aF bD=>?_;simp only[RX,seval];refine aF _ _ ?_;refine aA fun Ψ1 aE aL=>?_;simp only[RX,seval,beq_self_eq_true];refine aE _ _ ?_;simp only[RX,seval];exact hΦ
theorem fp (x y:Int) (hΦ:Φ (int (pN x y)) s):okF q X RA 158 [int x,int y] s Φ:=by
 unfold pN at hΦ;refine aW Tryz.func158 (by kernel_rfl) rfl rfl (rs:=[.tmp 4]) rfl (N:=20) rfl rfl ?_;refine aA fun bF aF bD=>?_;simp only[RX,seval];refine aF _ _ ?_;refine aA fun Ψ1 aE aL=>?_;simp only[RX,seval];refine aH ?_ (zu x ?_)
 ·simp only[RX,seval]
 try simp only[RX,seval]
 refine aE _ _ ?_;refine aA fun Ψ2 aI bH=>?_;simp only[RX,seval];refine aH ?_ (zu y ?_)
 ·simp only[RX,seval]
 try simp only[RX,seval]
 refine aI _ _ ?_;refine aA fun Ψ3 aN bM=>?_;refine aA fun Ψ4 aP cC=>?_;simp only[RX,seval];refine aP _ _ ?_;simp only[RX,seval];refine aN _ _ ?_;refine aA fun cU aZ cK=>?_;refine aA fun dN bO cZ=>?_;simp only[RX,seval];refine bO _ _ ?_;simp only[RX,seval];refine aZ _ _ ?_;refine aA fun fE cG dX=>?_;refine aA fun gV cT gA=>?_;by_cases h1:x<y
 ·rw[if_pos h1] at hΦ;simp only[RX,seval,h1,decide_true];refine cT _ _ ?_;simp only[dA,RV,RG,seval];refine aA fun jC dK iK=>?_;simp only[RX,seval];refine dK _ _ ?_;simp only[RX,seval];refine dX _ _ _ (by simp) ?_;simp only[RX,seval];exact hΦ
 ·rw[if_neg h1] at hΦ;simp only[RX,seval,h1,decide_false];refine cT _ _ ?_;simp only[RX,seval];refine cG _ _ ?_;refine aA fun lO eG kY=>?_;refine aA fun rE jI pS=>?_;by_cases h2:y<x
  ·rw[if_pos h2] at hΦ;simp only[RX,seval,h2,decide_true];refine jI _ _ ?_;simp only[dA,RV,RG,seval];refine aA fun sF iY rQ=>?_;simp only[RX,seval];refine iY _ _ ?_;simp only[RX,seval];refine kY _ _ _ (by simp) ?_;simp only[RX,seval];exact hΦ
  ·rw[if_neg h2] at hΦ;simp only[RX,seval,h2,decide_false];refine jI _ _ ?_;simp only[RX,seval];refine eG _ _ ?_;refine aA fun wV lU vU=>?_;simp only[RX,seval];refine lU _ _ ?_;simp only[RX,seval];exact hΦ
theorem qA:type_of% (B4 @RX @dV @dQ @bG):=B4 @RX @dV @dQ @bG
theorem Xt (hs:Ok s) {va:Option Addr} {n c:Nat} {l:List Int} (S:Sl s 1 (.slice va n c) (l.map int)) (hl:l.length=n) (hn:n<1000) (hΦ:Φ (int (uT l)) s):okF q X RA 157 [.slice va n c] s Φ:=by
 refine aW Tryz.func157 (by kernel_rfl) rfl rfl (rs:=[.tmp 2]) rfl (N:=18) rfl rfl ?_;refine aA fun bF aF bD=>?_;simp only[qA,seval];refine aF _ _ ?_;refine aA fun Ψ1 aE aL=>?_;simp only[qA,seval];refine aE _ _ ?_;refine aA fun Ψ2 aI bH=>?_;refine aA fun Ψ3 aN bM=>?_;simp only[qA,seval];refine aN _ _ ?_;refine cJ fun Ψ4 aP xS cC=>?_;refine rW (n:=n) (fun j a' s'=>a'.aB 3=int 0∧a'.aB 6=.slice va n c∧a'.aB 7=int n∧a'.aB 8=int j∧s'=s∧uT l=uT (l.drop j))
  (fun j a' s'=>a'.aB 3=int 0∧a'.aB 6=.slice va n c∧a'.aB 7=int n∧a'.aB 8=int j∧s'=s∧uT l=uT (l.drop (j+1))) ?_ ?_ ?_ ?_ (Nat.zero_le _) ?_
 ·rintro j a' s' hj ⟨r3,r6,r7,r8,hs',ho⟩ aV bP;simp only[qA,seval,r7,r8];refine bP _ _ (decide ((j:Int)<n)) ?_ (by simp) ⟨?_,?_,?_,?_,hs',ho⟩
  all_goals simp only[qA,seval,r3,r6,r7,r8]
 ·rintro j a' s' hj ⟨r3,r6,r7,r8,hs',ho⟩ aV h1 h2 h3;subst hs';obtain⟨vb,vo,rfl⟩:=S.addr (show 0<n by omega);have g1:(0:Int)≤(j:Int):=Int.natCast_nonneg _;have g2:(j:Int)<((n:Nat):Int):=by omega
  have iX:j<l.length:=by omega
  have lj:aG s'.look ⟨vb,vo+j,none⟩=some (int l[j]):=S.load (i:=j) (by rw[List.getElem?_map,List.getElem?_eq_getElem iX];rfl);have hd:l.drop j=l[j]::l.drop (j+1):=List.drop_eq_getElem_cons iX;refine aA fun cU aZ cK=>?_;simp only[qA,seval,r6,r8,g1,g2,and_self,bQ,Int.toNat_natCast,Nat.mul_one,lj];refine aZ _ _ ?_;refine aA fun dN bO cZ=>?_;cases h0:l[j]==0 with
  | true =>
   have GO:l[j]=0:=beq_iff_eq.1 h0;have ho':uT l=uT (l.drop (j+1)):=by rw[ho,hd,GO];rfl
   simp only[qA,seval,r3,h0];refine bO _ _ ?_;simp only[qA,seval];refine h1 _ _ ⟨?_,?_,?_,?_,rfl,ho'⟩
   all_goals simp only[qA,seval,r3,r6,r7,r8]
  | false =>
   have GO:l[j]≠0:=fun h=>by rw[h] at h0;cases h0
   have ho':uT l=l[j]:=by rw[ho,hd];unfold uT;rw[if_neg GO]
   simp only[qA,seval,r3,h0];refine bO _ _ ?_;simp only[dA,RV,RG,seval];refine aA fun fE cG dX=>?_;simp only[qA,seval];refine cG _ _ ?_;simp only[qA,seval];rw[ho'] at hΦ;refine h3 _ _ _ (by simp) (by simp) (cC _ _ _ (by simp) (by simp) (bH _ _ _ (by simp) ?_));simp only[qA,seval];exact hΦ
 ·rintro j a' s' hj ⟨r3,r6,r7,r8,hs',ho⟩ aV h1;have w:IntKind.i64.wrap ((j:Int)+1)=((j+1:Nat):Int):=by rw[aU (by omega) (by omega)];rfl
  simp only[qA,seval,r8,w];refine h1 _ _ ⟨?_,?_,?_,?_,hs',ho⟩
  all_goals simp only[qA,seval,r3,r6,r7]
 ·rintro a' s' ⟨r3,r6,r7,r8,hs',ho⟩;subst hs';refine xS _ _ (aI _ _ ?_);have h0:uT l=0:=by rw[ho,List.drop_eq_nil_of_le (by omega)];rfl
  rw[h0] at hΦ;refine aA fun gV cT gA=>?_;simp only[qA,seval,r3];refine cT _ _ ?_;simp only[qA,seval];exact hΦ
 ·refine⟨?_,?_,?_,?_,rfl,rfl⟩
  all_goals try simp only[qA,seval]
  try rfl
theorem vB:type_of% (B6 @RX @VD @bG @Bt @KP @zk):=B6 @RX @VD @bG @Bt @KP @zk
theorem aH8 (hs:Ok s) (x y:dC) (hΦ:∀ s',aC [] s s'→Φ (int (sO x y)) s'):okF q X RA 156 [VI x,VI y] s Φ:=by
 refine aW Tryz.func156 (by kernel_rfl) rfl rfl (rs:=[.tmp 4]) rfl (N:=22) rfl rfl ?_;refine aA fun bF aF bD=>?_;unfold VI;simp only[vB,seval];obtain⟨s1,e1,k1,c1,n1⟩:=cI hs (L:=[int x.1,int x.2.1,int x.2.2]) (n:=3) (e:=51) rfl;obtain⟨s2,e2,k2,c2,n2⟩:=cI k1.ok (L:=[int y.1,int y.2.1,int y.2.2]) (n:=3) (e:=51) rfl;rw[e1]
 try simp only[vB,seval]
 rw[e2]
 try simp only[vB,seval]
 refine aF _ _ ?_;have dD:=k1.trans k2;have tJ:=c1.aD k2 (by simp);have ks:=aC.skip (F:=[]) dD.ok 36;have l10:aG s2.look ⟨s.next,0,none⟩=some (int x.1):=tJ.load rfl;have m10:aG (s2.skip 36).look ⟨s.next,0,none⟩=some (int x.1):=(tJ.aD ks (by simp)).load rfl;have XP:aG s2.look ⟨s.next,1,none⟩=some (int x.2.1):=tJ.load rfl;have m11:aG (s2.skip 36).look ⟨s.next,1,none⟩=some (int x.2.1):=(tJ.aD ks (by simp)).load rfl;have XQ:aG s2.look ⟨s.next,2,none⟩=some (int x.2.2):=tJ.load rfl;have m12:aG (s2.skip 36).look ⟨s.next,2,none⟩=some (int x.2.2):=(tJ.aD ks (by simp)).load rfl;have XR:aG s2.look ⟨s1.next,0,none⟩=some (int y.1):=c2.load rfl;have m20:aG (s2.skip 36).look ⟨s1.next,0,none⟩=some (int y.1):=(c2.aD ks (by simp)).load rfl;have XS:aG s2.look ⟨s1.next,1,none⟩=some (int y.2.1):=c2.load rfl;have m21:aG (s2.skip 36).look ⟨s1.next,1,none⟩=some (int y.2.1):=(c2.aD ks (by simp)).load rfl;have XT:aG s2.look ⟨s1.next,2,none⟩=some (int y.2.2):=c2.load rfl;have m22:aG (s2.skip 36).look ⟨s1.next,2,none⟩=some (int y.2.2):=(c2.aD ks (by simp)).load rfl;have sm:uH [s.next,s1.next] (s2.skip 36) (s2.skip 36):=eP (CK m10 (dD.ok.skip 36) (aC.refl (F:=[]) (dD.ok.skip 36)) (by simp)) (eP (CK m20 (dD.ok.skip 36) (aC.refl (F:=[]) (dD.ok.skip 36)) (by simp)) fO);refine aA fun Ψ1 aE aL=>?_;refine dG [(6,4),(8,4),(11,4),(11,9),(13,4),(13,9)] [s.next,s1.next] [] (by kernel_rfl) (by kernel_rfl) (by rfl) fun O hO bC hR=>?_;simp only[vB,seval,XP,XS];refine dL ?_ (fp (x.2.1) (y.2.1) ?_)
 ·simp only[vB,seval]
 try simp only[vB,seval,l10,XR]
 refine⟨sm,?_⟩;refine dL ?_ (fp (x.1) (y.1) ?_)
 ·simp only[vB,seval]
 try simp only[vB,seval,XQ,XT]
 refine⟨sm,?_⟩;refine dL ?_ (fp (x.2.2) (y.2.2) ?_)
 ·simp only[vB,seval]
 try simp only[vB,seval]
 obtain⟨T,eT,KT,CT,NT⟩:∃ T,(s2.skip 36).put (s2.next+30) (fun v=>bW.cells (PT.ofList [int (pN x.2.1 y.2.1),int (pN x.1 y.1),int (pN x.2.2 y.2.2)]) [] 3 3 false false v)=T∧aC [] s2 T∧Cells T (s2.next+30) 3 [int (pN x.2.1 y.2.1),int (pN x.1 y.1),int (pN x.2.2 y.2.2)]∧T.next=s2.next+36 :=
  ⟨_,rfl,ks.ZR (dD.ok.fresh _ (by omega)) (by show s2.next+30<s2.next+36;omega) (by omega) (.inr (Nat.le_refl _)),Cells.kC (L:=[int (pN x.2.1 y.2.1),int (pN x.1 y.1),int (pN x.2.2 y.2.2)]),rfl⟩
 rw[eT];have ST:Sl T 1 (.slice (some ⟨s2.next+30,0,none⟩) 3 3) ([pN x.2.1 y.2.1,pN x.1 y.1,pN x.2.2 y.2.2].map int):=(bJ.own (cap:=3) CT (by simp) (Nat.le_refl _) rfl (fun i hi=>by simp)).sl;refine dL ?_ (Xt KT.ok ST rfl (by omega) ?_)
 ·simp only[vB,seval]
 try simp only[vB,seval]
 refine hR _ _ (aE _ _ ?_);simp only[vB,seval];exact hΦ _ (dD.trans KT)
end
end Go.Dust
namespace Go.Dust
theorem VR.back {ι ι':aQ} (hle:ι.le ι') {v u:Value} (h:VR ι v u):∀ {u':Value},VR ι' v u'→VR ι v u':=by
 have arr:∀ {a a' b:Array Value},a.size=a'.size→(∀ (i:Nat) v u,a[i]?=some v→a'[i]?=some u→∀ {u'},VR ι' v u'→VR ι v u')→(∀ (i:Nat) v u,a[i]?=some v→b[i]?=some u→VR ι' v u)→∀ (i:Nat) v u,a[i]?=some v→b[i]?=some u→VR ι v u:=by
  intro a a' b hs ih h i v u hv hu;have hi:i<a'.size:=by
   rw[← hs];exact(Array.getElem?_eq_some_iff.1 hv).1
  exact ih i v a'[i] hv (Array.getElem?_eq_getElem hi) (h i v u hv hu)
 have nm:∀ {b:Nat} {l l':Loc},ι b=some l→ι' b=some l'→l'=l:=by
  intro b l l' h h';have:=hle _ _ h;rw[h'] at this;exact Option.some.inj this
 induction h with
 | bool b=>intro u' k;cases k;exact .bool b
 | int k n=>intro u' k;cases k;exact .int _ n
 | float k n=>intro u' k;cases k;exact .float _ n
 | string s=>intro u' k;cases k;exact .string s
 | MG=>intro u' k;cases k;exact .MG
 | ptr h =>
  intro u' k;cases k with
  | ptr k=>cases nm h k;exact .ptr h
 | AO n c=>intro u' k;cases k;exact .AO n c
 | slice n c h =>
  intro u' k;cases k with
  | slice _ _ k=>cases nm h k;exact .slice _ _ h
 | tX h =>
  intro u' k;cases k with
  | tX k=>cases nm h k;exact .tX h
 | QX=>intro u' k;cases k;exact .QX
 | map h =>
  intro u' k;cases k with
  | map k=>cases nm h k;exact .map h
 | func ha hc _ _ ih1 ih2 =>
  intro u' k;cases k with
  | func ha' hc' k1 k2=>exact .func ha' hc' (arr ha ih1 k1) (arr hc ih2 k2)
 | IC ha hc _ _ ih1 ih2 =>
  intro u' k;cases k with
  | IC ha' hc' k1 k2=>exact .IC ha' hc' (arr ha ih1 k1) (arr hc ih2 k2)
 | yield h =>
  intro u' k;cases k with
  | yield k=>cases nm h k;exact .yield h
 | nilFunc=>intro u' k;cases k;exact .nilFunc
 | nilIface=>intro u' k;cases k;exact .nilIface
 | iface t _ ih =>
  intro u' k;cases k with
  | iface _ k=>exact .iface t (ih k)
 | agg ha _ ih =>
  intro u' k;cases k with
  | agg ha' k=>exact .agg ha' (arr ha ih k)
 | tuple ha _ ih =>
  intro u' k;cases k with
  | tuple ha' k=>exact .tuple ha' (arr ha ih k)
theorem ER.back {ι ι':aQ} (hle:ι.le ι') {e x y:MapEntry} (h:ER ι e x) (k:ER ι' e y):ER ι e y:=⟨h.1.back hle k.1,h.2.back hle k.2,k.3⟩
theorem fL.back {ι ι':aQ} (hle:ι.le ι'):∀ {l l' l'':List MapEntry},fL ι l l'→fL ι' l l''→fL ι l l''
 | _,_,_,.nil,.nil=>.nil
 | _,_,_,.cons h t,.cons k u=>.cons (h.back hle k) (fL.back hle t u)
theorem jM.back {X:Env} {ι ι':aQ} {w w':World} {l:Loc} (hle:ι.le ι'):∀ {o:bW},jM X ι w l o→jM X ι' w' l o→jM X ι w' l o
 | .cells ..,h,k=>by
  obtain⟨arr,e',fz,h1,h2,h3,h4,h5,h6,h7⟩:=h;obtain⟨arr',e'',fz',k1,k2,k3,k4,k5,k6,k7⟩:=k;refine⟨arr',e'',fz',k1,k2,k3,k4,k5,k6,fun i hi=>?_⟩;obtain⟨v,u,a,b,c⟩:=h7 i hi;obtain⟨v',u',a',b',c'⟩:=k7 i hi;rw[a] at a';cases a';exact⟨v,u',a,b',c.back hle c'⟩
 | .map ..,h,k=>by
  obtain⟨h0,h1,h2,es',h3,h4⟩:=h;obtain⟨_,_,_,es'',k3,k4⟩:=k;exact⟨h0,h1,h2,es'',k3,h4.back hle k4⟩
 | .hY none ..,h,k=>k
 | .hY (some m) ..,h,k=>by
  obtain⟨h0,h1,h2,lm,h3,h4⟩:=h;obtain⟨_,_,_,lm',k3,k4⟩:=k;have:=hle _ _ h3;rw[k3] at this;cases this;exact⟨h0,h1,h2,lm,h3,k4⟩
 | .sW ..,h,k=>k
 | .loop ..,h,k=>by
  obtain⟨h0,h1,h2,h3,h4,h4',r,h5,h6,h7,h8,h9,h10,h11,h12⟩:=h;obtain⟨_,_,_,_,_,_,r',k5,k6,k7,k8,k9,k10,k11,k12⟩:=k;exact⟨h0,h1,h2,h3,h4,h4',r',k5,k6,k7,k8,k9,k10,k11,fun i hi=>(h12 i hi).back hle (k12 i hi)⟩
 | .dead,_,_=>trivial
theorem R.back {X:Env} {ι ι':aQ} {H H':bL} {n n':Nat} {w w':World} (h:R X ι H n w) (k:R X ι' H' n' w') (e:Ext ι H n w ι' H' n' w') (hk:∀ b o,H b=some o→o.cX=false→H' b=some o):R X ι H n w':=by
 refine⟨h.even,h.kT,h.fresh,fun b l hb hl=>Nat.lt_of_lt_of_le (h.tR b l hb hl) e.size,fun b o hb hd=>?_,h.inj⟩;obtain⟨l,h1,h2⟩:=h.obj b o hb hd;obtain⟨l',k1,k2⟩:=k.obj b o (hk b o hb hd) hd;have:=e.le _ _ h1;rw[k1] at this;cases this;exact⟨l,h1,h2.back e.le k2⟩
theorem Ext.back {ι ι':aQ} {H H':bL} {n n':Nat} {w w':World} (e:Ext ι H n w ι' H' n' w'):Ext ι H n w ι H n w' :=
 ⟨aQ.le_refl _,fun _ h _=>h,Nat.le_refl _,e.os,e.tape,e.output,e.size,e.aD,fun _ h=>.inl h,e.drawn⟩
end Go.Dust
namespace Go.Dust
open Go.Proofs Go.ChangeShapes Go.RowKit Go.WideShapes
set_option maxRecDepth 100000
set_option maxHeartbeats 1000000
theorem jM.aT {Y:Env} {ι:aQ} {w:World} {l:Loc} {o:bW} (h:jM Y ι w l o) (hd:o.cX=false):l.aT<w.heap.size:=by
 have:∀ x,w.heap[l.aT]?=some x→l.aT<w.heap.size:=fun x hx=>(Array.getElem?_eq_some_iff.1 hx).1;cases o with
 | cells c z n e room ro bB=>obtain⟨arr,e',fz,h1,_⟩:=h;exact this _ h1
 | map es aR bB=>obtain⟨_,_,_,es',h1,_⟩:=h;exact this _ h1
 | hY m a b c d =>
  cases m with
  | none=>obtain⟨_,_,_,a,b,c,h1⟩:=h;exact this _ h1
  | some m=>obtain⟨_,_,_,lm,_,h1⟩:=h;exact this _ h1
 | sW a b c=>exact this _ h.2.2.2
 | loop st p t nt ps sa bd v=>obtain⟨_,_,_,_,_,_,r,h1,_⟩:=h;exact this _ h1
 | dead=>cases hd
theorem Ve {P:Program} {ι:aQ} {s:St} {W W':World} (hR:RS P ι s W) (hb:Below W.heap.size W W') (hd:W.drawn≤W'.drawn):RS P ι s W'∧ES ι s W ι s W':=by
 refine⟨⟨hR.even,hR.kT,hR.fresh,fun b l hl hr=>Nat.lt_of_lt_of_le (hR.tR b l hl hr) hb.size,fun b o hb' hd=>?_,hR.inj⟩,aQ.le_refl _,fun _ h _=>h,Nat.le_refl _,hb.os,hb.tape,hb.output,hb.size,fun c hc _=>hb.block c hc,fun _ h=>.inl h,hd⟩;obtain⟨l,h1,h2⟩:=hR.obj b o hb' hd;exact⟨l,h1,h2.mono (aQ.le_refl _) (hb.block _ (h2.aT hd))⟩
theorem OL:env Tryz.prog=X:=rfl
theorem mixed:Tryz.prog.follows .mixedOrders=true:=by kernel_rfl
set_option maxHeartbeats 2000000
theorem grown_of {w w':World} (h1:w'.os=w.os) (h2:w'.tape=w.tape) (h3:w'.output=w.output) (h4:w.heap.size≤w'.heap.size) (h5:∀ c,c<w.heap.size→w'.heap[c]?=w.heap[c]?) (h6:w.drawn≤w'.drawn):∃ q rf,w'=Go.Sort.grow (w.drewN q) rf:=by
 refine⟨w'.drawn-w.drawn,w'.heap.extract w.heap.size w'.heap.size,?_⟩;have hh:w'.heap=w.heap++w'.heap.extract w.heap.size w'.heap.size:=by
  apply Array.ext_getElem?;intro k;rw[Array.getElem?_append];by_cases hk:k<w.heap.size
  ·rw[if_pos hk,h5 k hk]
  ·rw[if_neg hk,Array.getElem?_extract];by_cases hk2:k<w'.heap.size
   ·rw[if_pos (by omega)];congr 1;omega
   ·rw[if_neg (by omega),Array.getElem?_eq_none (by omega)]
 have hd:w.drawn+(w'.drawn-w.drawn)=w'.drawn:=by omega
 cases w;cases w';simp only at h1 h2 h3 hh hd;subst h1 h2 h3;unfold Go.Sort.grow World.drewN;simp only[World.mk.injEq,true_and,and_true];exact⟨hh,hd.symm⟩
theorem aD5:Ok bm:=⟨fun b o h=>absurd (show (none:Option bW)=some o from h) (by simp),fun b h=>rfl⟩
theorem Xu (x y:dC) (W:World):Calls Tryz.prog 156 #[.agg (cE x).toArray,.agg (cE y).toArray] W fun e w'=>e=.returned (.int .i64 (sO x y))∧∃ q rf,w'=Go.Sort.grow (W.drewN q) rf:=by
 obtain⟨fn,hfn,hb⟩:∃ fn,Tryz.prog.funcs[156]?=some fn∧fn.body.isSome=true:=⟨_,rfl,by kernel_rfl⟩;have hok:=aH8 (q:=false) (Φ:=fun v s'=>v=int (sO x y)) aD5 x y fun s' k=>rfl;rw[← OL] at hok;have hv:∀ f:dC,VR (BH 0 0) (VI f) (.agg (cE f).toArray):=fun f=>by
  exact .JV (.cons (.int _ _) (.cons (.int _ _) (.cons (.int _ _) .nil)))
 refine(fj mixed (aDb _) hfn hb (aGu Tryz.prog W 0 0) (.cons (hv x) (.cons (hv y) .nil)) hok).mono ?_;rintro e W' ⟨v,s',ι',v',rfl,hvv,hR',hE,rfl⟩;refine⟨by rw[VR.int_eq hvv],?_⟩;exact grown_of hE.os hE.tape hE.output hE.size (fun c hc=>hE.aD c hc aDf) hE.drawn
end Go.Dust
namespace Go.Dust
open Go.Proofs Go.ChangeShapes Go.RowKit Go.WideShapes Go.Sort
set_option maxRecDepth 100000
set_option maxHeartbeats 2000000
theorem VG {α:Type} (enc:α→List Value) (k:Nat) (k0:0<k) (hk:∀ x,(enc x).length=k):∀ (l:List α) (t:Nat),(l.flatMap enc)[t]?=(l[t/k]?).bind fun x=>(enc x)[t%k]?
 | [],t=>by simp
 | x::l,t=>by
  rw[List.flatMap_cons,List.getElem?_append];by_cases h:t<k
  ·rw[if_pos (by rw[hk];exact h),Nat.div_eq_of_lt h,Nat.mod_eq_of_lt h];rfl
  ·rw[if_neg (by rw[hk];exact h),hk,VG enc k k0 hk l (t-k)];have h1:t=(t-k)+k:=by omega
   have h2:t/k=(t-k)/k+1:=by conv=>lhs;rw[h1,Nat.add_div_right _ k0]
   have h3:t%k=(t-k)%k:=by conv=>lhs;rw[h1,Nat.add_mod_right]
   rw[h2,h3];rfl
theorem GI {α:Type} (enc:α→List Value) (k:Nat) (hk:∀ x,(enc x).length=k) (l:List α):(l.flatMap enc).length=l.length*k:=by
 induction l with
 | nil=>simp
 | cons x l ih=>rw[List.flatMap_cons,List.length_append,hk,ih,List.length_cons,Nat.add_mul];omega
theorem Cb {α:Type} [Inhabited α] (enc:α→List Value) (k:Nat) (k0:0<k) (hk:∀ x,(enc x).length=k) (l:List α):flatK enc k l.toArray=(l.flatMap enc).toArray:=by
 apply Array.ext_getElem?;intro t;unfold flatK;have e:((l.flatMap enc).toArray)[t]?=(l.flatMap enc)[t]?:=by simp
 rw[e,VG enc k k0 hk];by_cases h:t<l.length*k
 ·have h1:t/k<l.length:=Nat.div_lt_of_lt_mul (by rw[Nat.mul_comm];exact h);have h2:t%k<(enc l[t/k]).length:=by rw[hk];exact Nat.mod_lt _ k0
  rw[Array.getElem?_map,Array.getElem?_range];simp only[List.size_toArray,h,if_true,Option.map_some];rw[List.getElem?_eq_getElem h1];simp only[Option.bind_some];rw[List.getElem?_eq_getElem h2];congr 1;rw[show (l.toArray[t/k]!)=l[t/k] by simp[h1]];rw[List.getElem!_eq_getElem?_getD,List.getElem?_eq_getElem h2];rfl
 ·rw[Array.getElem?_map,Array.getElem?_range];simp only[List.size_toArray,h,if_false,Option.map_none];rw[List.getElem?_eq_none (Nat.le_of_not_lt fun hc=>h ((Nat.div_lt_iff_lt_mul k0).1 hc))]
  try rfl
theorem vP (f:dC):(cE f).length=3:=rfl
theorem Vi (l:List dC) {ι:aQ}:bT ι (l.flatMap cE) (l.flatMap cE):=by
 induction l with
 | nil=>exact .nil
 | cons f l ih=>exact .cons (.int _ _) (.cons (.int _ _) (.cons (.int _ _) ih))
theorem Ny {ι:aQ} {s:St} {W:World} (hR:RS Tryz.prog ι s W) {b o n c:Nat} {C:List dC} (B:bJ s 51 3 (.slice (some ⟨b,o,none⟩) n c) (C.flatMap cE)) {l:Loc} (hl:ι b=some l) :
  ∃ arr e',W.heap[l.aT]?=some (.cells arr e' (0,0))∧l.off+o+(C.flatMap cE).length≤arr.size∧∀ i,i<(C.flatMap cE).length→arr[l.off+o+i]?=(C.flatMap cE)[i]?:=by
 cases B with
 | @own _ _ _ _ L0 _ hc h1 h2 h3 h4 =>
  obtain⟨cc,z,room,bB,g1,g2⟩:=hc;obtain⟨l',arr,e',fz,k1,k2,k3,k4,k5,k6,k7,k8⟩:=BK hR (show s.look b=_ from g1);rw[hl] at k1;cases k1;rw[k3 rfl] at k2;have hle:o+(C.flatMap cE).length≤L0.length:=by
   have:=Nat.mul_le_mul_right 3 h2;omega
  refine⟨arr,e',k2,by omega,fun i hi=>?_⟩;obtain⟨v,u,m1,m2,m3⟩:=k8 (o+i) (by omega);rw[g2 _ (by omega),h4 i hi] at m1;rw[Nat.add_assoc,m2];have hv:=m1;rw[VG cE 3 (by omega) vP] at hv;cases hx:C[i/3]? with
  | none=>rw[hx] at hv;cases hv
  | some f =>
   rw[hx] at hv;have hv:(cE f)[i%3]?=some v:=hv;have hm:i%3<3:=Nat.mod_lt _ (by omega);have hint:∃ x:Int,v=int x:=by
    rcases(show i%3=0∨i%3=1∨i%3=2 by omega) with h | h | h <;> rw[h] at hv <;> exact⟨_,(Option.some.inj hv).symm⟩
   obtain⟨x,rfl⟩:=hint;rw[VR.int_eq m3,m1]
theorem aFc {ι:aQ} {s:St} {W:World} (hR:RS Tryz.prog ι s W) {b o n c:Nat} {C:List dC} (B:bJ s 51 3 (.slice (some ⟨b,o,none⟩) n c) (C.flatMap cE)) {l:Loc} (hl:ι b=some l) :
  HoldsK cE 3 W l.aT (l.off+o) C.toArray∧l.aT<W.heap.size:=by
 obtain⟨arr,e',h1,h2,h3⟩:=Ny hR B hl;refine⟨?_,(Array.getElem?_eq_some_iff.1 h1).1⟩;unfold HoldsK;rw[Cb cE 3 (by omega) vP];intro j hj;have DZ:j<(C.flatMap cE).length:=by simpa using hj
 refine⟨?_,?_⟩
 ·unfold World.cell?;simp only[h1,Option.isSome_none,Bool.false_eq_true,if_false];rw[h3 j DZ,List.getElem?_eq_getElem DZ];simp[];rw[List.getElem?_eq_getElem DZ];rfl
 ·unfold World.frozen?;simp only[h1];simp
theorem aFe {ι:aQ} {s:St} {W:World} (hR:RS Tryz.prog ι s W) {b o n c:Nat} {C C':List dC} (B:bJ s 51 3 (.slice (some ⟨b,o,none⟩) n c) (C.flatMap cE)) {l:Loc} (hl:ι b=some l) (hlen:C'.length=C.length) {s':St} (hs':dS s ⟨b,o,none⟩ (C'.flatMap cE)=some s') (m:Nat) (os:Array Go.Obj) :
  RS Tryz.prog ι s' (sortWorldK cE 3 W l.aT (l.off+o) m C'.toArray os)∧ES ι s W ι s' (sortWorldK cE 3 W l.aT (l.off+o) m C'.toArray os):=by
 obtain⟨arr,e',h1,h2,h3⟩:=Ny hR B hl;have hl2:(C'.flatMap cE).length=(C.flatMap cE).length:=by rw[GI cE 3 vP,GI cE 3 vP,hlen]
 obtain⟨w',g1,g2,g3⟩:=SH hR hl (Vi C') hs';have hone:(C'.flatMap cE).all hZ=true:=by
  rw[List.all_eq_true];intro v hv;obtain⟨f,_,hf⟩:=List.mem_flatMap.1 hv;simp only[cE,List.mem_cons,List.not_mem_nil,or_false] at hf;rcases hf with rfl | rfl | rfl <;> rfl
 have r1:=ar (P:=Tryz.prog) (C'.flatMap cE) W l.aT (l.off+o) 0 arr e' h1 hone (by omega);rw[g1] at r1;have hw':w'=World.gO W l.aT (.cells (tH arr (l.off+o+0) (C'.flatMap cE)) e' (0,0)):=by
  simp only[Result.ok.injEq,true_and] at r1;exact r1
 have T0:putRowK cE 3 (Sort.ahead W m) l.aT (l.off+o) C'.toArray=Sort.ahead w' m:=by
  unfold putRowK putRow mapBlock Sort.ahead;rw[hw',Cb cE 3 (by omega) vP];unfold World.gO;simp only[World.mk.injEq,and_true];apply Array.ext_getElem?;intro k;rw[Array.getElem?_modify,Array.getElem?_setIfInBounds];by_cases hk:l.aT=k
  ·subst hk;rw[if_pos rfl,if_pos rfl,h1,if_pos (Array.getElem?_eq_some_iff.1 h1).1];simp only[Option.map_some,onCells];congr 2;apply Array.ext_getElem?;intro i;rw[VM _ _ _ _ (by omega),Nat.add_zero];unfold putCells;rw[Array.getElem?_mapIdx];by_cases hi:l.off+o≤i
   ·rw[if_pos hi];by_cases hi2:i-(l.off+o)<(C'.flatMap cE).length
    ·rw[List.getElem?_eq_getElem hi2];have M_:i<arr.size:=by omega
     rw[Array.getElem?_eq_getElem M_];simp only[Option.map_some];rw[if_pos ⟨hi,by simp only[List.size_toArray];omega⟩];simp[];rw[List.getElem?_eq_getElem hi2];rfl
    ·rw[List.getElem?_eq_none (by omega)];cases arr[i]? with
     | none=>rfl
     | some v =>
      simp only[Option.map_some];rw[if_neg (by simp only[List.size_toArray];omega)]
   ·rw[if_neg hi];cases arr[i]? with
    | none=>rfl
    | some v =>
     simp only[Option.map_some];rw[if_neg (by omega)]
  ·rw[if_neg hk,if_neg hk]
 have hS:sortWorldK cE 3 W l.aT (l.off+o) m C'.toArray os=Sort.grow (Sort.ahead w' m) os:=by unfold sortWorldK;rw[T0]
 rw[hS];obtain⟨z1,z2⟩:=Ve (W':=Sort.grow (Sort.ahead w' m) os) g2 ⟨rfl,rfl,rfl,by show w'.heap.size≤(w'.heap++os).size;simp,fun k hk=>by show (w'.heap++os)[k]?=w'.heap[k]?;rw[Array.getElem?_append_left hk]⟩ (by show w'.drawn≤w'.drawn+m;omega);exact⟨z1,Ext.trans g3 z2⟩
end Go.Dust
namespace Go.Dust
theorem p9 {a b:dC} (h:oB a b=true):oB b a=false:=by
 unfold oB at *;rw[decide_eq_false_iff_not];rw[decide_eq_true_eq] at h;omega
theorem Cg {a b c:dC} (h1:oB b a=false) (h2:oB c b=false):oB c a=false:=by
 unfold oB at *;rw[decide_eq_false_iff_not] at *;omega
theorem Cf {x y:dC} (h1:oB x y=false) (h2:oB y x=false):x=y:=by
 unfold oB at *;rw[decide_eq_false_iff_not] at *;obtain⟨a,b,c⟩:=x;obtain⟨a',b',c'⟩:=y;simp only at h1 h2;simp only[Prod.mk.injEq];omega
theorem KS (l:List dC):(jP l).Perm l:=List.mergeSort_perm _ _
theorem OR (l:List dC):(jP l).length=l.length:=List.length_mergeSort _
theorem Cl (l:List dC):(jP l).Pairwise fun x y=>oB y x=false:=by
 refine(List.pairwise_mergeSort (le:=fun x y=>!(oB y x)) (fun a b c h1 h2=>?_) (fun a b=>?_) l).imp fun h=>by simpa using h
 ·simp only[Bool.not_eq_true'] at *;exact Cg h1 h2
 ·cases h:oB b a with
  | false=>rfl
  | true=>rw[p9 h];rfl
theorem Cj {l l':List dC} (h:l.Pairwise fun x y=>oB y x=false) (hp:l.Perm l'):jP l'=l:=by
 refine List.Perm.eq_of_pairwise (le:=fun x y=>oB y x=false) ?_ ?_ h ((KS l').trans hp.symm)
 ·intro a b _ _ h1 h2;exact Cf h2 h1
 ·exact Cl l'
theorem Ci {l l':List dC} (h:l.Perm l'):jP l=jP l':=(Cj (Cl l') ((KS l').trans h.symm))
theorem Ck {l:List dC} (h:l.length≤1):jP l=l:=by
 match l,h with
 | [],_=>exact List.perm_nil.1 (KS [])
 | [x],_=>exact List.perm_singleton.1 (KS [x])
end Go.Dust
namespace Go.Proofs
set_option maxRecDepth 100000
def Tryz.Me:Go.Shelf.Ren:=⟨fun | 14=>219 | 20=>244 | 21=>245 | 22=>246 | 23=>247 | 24=>248 | 25=>249 | 26=>250 | 27=>251 | 46=>258 | 47=>259 | 48=>260 | 49=>261 | 50=>262 | 15=>220 | 57=>263 | 28=>252 | 29=>253 | n=>n,fun | 24=>51 | 22=>30 | 3=>3 | 25=>189 | 4=>4 | 0=>0 | 46=>244 | 45=>243 | 50=>178 | 66=>255 | 39=>226 | 55=>221 | 70=>193 | 76=>260 | 77=>261 | 53=>250 | 5=>5 | 9=>9 | n=>n,fun | n=>n⟩
theorem Tryz.Md:Go.Proofs.SlLaysF0.n14 Tryz.prog Tryz.Me where
 mixed:=by kernel_rfl
 f14:=⟨Tryz.f219.name,by decide,Tryz.func219.trans (congrArg some (by kernel_rfl))⟩
 f15:=Tryz.func220.trans (congrArg some (by kernel_rfl))
 f20:=⟨Tryz.f244.name,by decide,Tryz.func244.trans (congrArg some (by kernel_rfl))⟩
 f21:=⟨Tryz.f245.name,by decide,Tryz.func245.trans (congrArg some (by kernel_rfl))⟩
 f22:=⟨Tryz.f246.name,by decide,Tryz.func246.trans (congrArg some (by kernel_rfl))⟩
 f23:=⟨Tryz.f247.name,by decide,Tryz.func247.trans (congrArg some (by kernel_rfl))⟩
 f24:=⟨Tryz.f248.name,by decide,Tryz.func248.trans (congrArg some (by kernel_rfl))⟩
 f25:=⟨Tryz.f249.name,by decide,Tryz.func249.trans (congrArg some (by kernel_rfl))⟩
 f26:=⟨Tryz.f250.name,by decide,Tryz.func250.trans (congrArg some (by kernel_rfl))⟩
 f27:=⟨Tryz.f251.name,by decide,Tryz.func251.trans (congrArg some (by kernel_rfl))⟩
 f28:=Tryz.func252.trans (congrArg some (by kernel_rfl))
 f29:=Tryz.func253.trans (congrArg some (by kernel_rfl))
 f46:=⟨Tryz.f258.name,by decide,Tryz.func258.trans (congrArg some (by kernel_rfl))⟩
 f47:=Tryz.func259.trans (congrArg some (by kernel_rfl))
 f48:=Tryz.func260.trans (congrArg some (by kernel_rfl))
 f49:=⟨Tryz.f261.name,by decide,Tryz.func261.trans (congrArg some (by kernel_rfl))⟩
 f50:=⟨Tryz.f262.name,by decide,Tryz.func262.trans (congrArg some (by kernel_rfl))⟩
 f57:=⟨Tryz.f263.name,by decide,Tryz.func263.trans (congrArg some (by kernel_rfl))⟩
 t0:=Tryz.underlying0
 a0:=Tryz.isAgg0
 z0:=Tryz.sizeOf0
 v0:=Tryz.zeroValue0
 t3:=Tryz.underlying3
 a3:=Tryz.isAgg3
 z3:=Tryz.sizeOf3
 v3:=Tryz.zeroValue3
 t4:=Tryz.underlying4
 a4:=Tryz.isAgg4
 z4:=Tryz.sizeOf4
 v4:=Tryz.zeroValue4
 t5:=Tryz.underlying5
 a5:=Tryz.isAgg5
 z5:=Tryz.sizeOf5
 v5:=Tryz.zeroValue5
 t9:=Tryz.underlying9
 a9:=Tryz.isAgg9
 z9:=Tryz.sizeOf9
 v9:=Tryz.zeroValue9
 t22:=Tryz.underlying30
 a22:=Tryz.isAgg30
 z22:=Tryz.sizeOf30
 v22:=Tryz.zeroValue30
 t25:=Tryz.underlying189
 a25:=Tryz.isAgg189
 z25:=Tryz.sizeOf189
 v25:=Tryz.zeroValue189
 t39:=Tryz.underlying226
 a39:=Tryz.isAgg226
 z39:=Tryz.sizeOf226
 v39:=Tryz.zeroValue226
 t45:=Tryz.underlying243
 a45:=Tryz.isAgg243
 z45:=Tryz.sizeOf243
 v45:=Tryz.zeroValue243
 t46:=Tryz.underlying244
 a46:=Tryz.isAgg244
 z46:=Tryz.sizeOf244
 v46:=Tryz.zeroValue244
 t50:=Tryz.underlying178
 a50:=Tryz.isAgg178
 z50:=Tryz.sizeOf178
 v50:=Tryz.zeroValue178
 t53:=Tryz.underlying250
 a53:=Tryz.isAgg250
 z53:=Tryz.sizeOf250
 v53:=Tryz.zeroValue250
 t55:=Tryz.underlying221
 a55:=Tryz.isAgg221
 z55:=Tryz.sizeOf221
 v55:=Tryz.zeroValue221
 t66:=Tryz.underlying255
 a66:=Tryz.isAgg255
 z66:=Tryz.sizeOf255
 v66:=Tryz.zeroValue255
 t70:=Tryz.underlying193
 a70:=Tryz.isAgg193
 z70:=Tryz.sizeOf193
 v70:=Tryz.zeroValue193
 t76:=Tryz.underlying260
 a76:=Tryz.isAgg260
 z76:=Tryz.sizeOf260
 v76:=Tryz.zeroValue260
 t77:=Tryz.underlying261
 a77:=Tryz.isAgg261
 z77:=Tryz.sizeOf261
 v77:=Tryz.zeroValue261
end Go.Proofs
namespace Go.Dust
open Go.Proofs Go.ChangeShapes Go.RowKit Go.WideShapes Go.Sort
set_option maxRecDepth 100000
set_option maxHeartbeats 2000000
theorem QT (x y:dC):ltOf sO x y=oB x y:=by
 unfold ltOf oB;rw[decide_eq_decide];simp only[sO,uT,pN];rcases Int.lt_trichotomy x.2.1 y.2.1 with h | h | h <;> rcases Int.lt_trichotomy x.1 y.1 with h' | h' | h' <;> rcases Int.lt_trichotomy x.2.2 y.2.2 with Dd | Dd | Dd <;> (repeat' split) <;> omega
theorem tu:SWO (ltOf sO) where
 irrefl x:=by rw[QT];unfold oB;rw[decide_eq_false_iff_not];omega
 trans x y z h1 h2:=by rw[QT] at *;unfold oB at *;rw[decide_eq_true_eq] at *;omega
 ntrans x y z h1 h2:=by rw[QT] at *;exact Cg h2 h1
theorem aGx (x y:dC) (h1:ltOf sO x y=false) (h2:ltOf sO y x=false):x=y:=by
 rw[QT] at *;exact Cf h1 h2
theorem p_ {f g:dC} (h:cE f=cE g):f=g:=by
 obtain⟨a,b,c⟩:=f;obtain⟨a',b',c'⟩:=g;simp only[cE,List.cons.injEq,Value.int.injEq,true_and,and_true] at h;obtain⟨rfl,rfl,rfl⟩:=h
 try rfl
theorem Cd:∀ {l l':List dC},l.flatMap cE=l'.flatMap cE→l=l'
 | [],[],_=>rfl
 | [],y::l',h=>by simp[cE] at h
 | x::l,[],h=>by simp[cE] at h
 | x::l,y::l',h=>by
  rw[List.flatMap_cons,List.flatMap_cons] at h;have h1:=List.append_inj h rfl;rw[p_ h1.1,Cd h1.2]
theorem Sl.uniq {s:St} {m:Nat} {v:Value} {L L':List Value} (h:Sl s m v L) (h':Sl s m v L'):L=L':=by
 cases h with
 | nil =>
  cases h' with
  | nil=>rfl
  | cells hL hl=>exact(List.length_eq_zero_iff.1 (by omega)).symm
 | cells hL hl =>
  cases h' with
  | nil=>exact List.length_eq_zero_iff.1 (by omega)
  | cells GR hl' =>
   refine List.ext_getElem? fun i=>?_;by_cases hi:i<L.length
   ·rw[← hl i hi,hl' i (by omega)]
   ·rw[List.getElem?_eq_none (by omega),List.getElem?_eq_none (by omega)]
theorem JU.uniq {args:List Value} {s s' s'':St} (h:JU args s s') (k:JU args s s''):s''=s':=by
 obtain⟨b,o,n,c,lim,C,rfl,B,h1,h2,h3,h4⟩:=h;obtain⟨b',o',n',c',aIp,C',e,B',k1,k2,k3,k4⟩:=k;simp only[List.cons.injEq,Value.slice.injEq,Option.some.injEq,Addr.mk.injEq,and_true] at e;obtain⟨⟨⟨rfl,rfl⟩,rfl,rfl⟩,_⟩:=e;obtain rfl:=Cd (B.sl.uniq B'.sl);rw[h4] at k4;exact(Option.some.inj k4).symm
section
variable {kc:Kc} {q:Bool} {s:St} {Φ:Value→St→Prop}
theorem aDj {s':St} {args:List Value} (h:JU args s s') (hl:YC args=true) (hΦ:Φ (.tuple #[]) s'):okF q X (KO kc) 219 args s Φ:=by
 refine okF.re (r:=.ret (.tuple #[],s')) ?_ hΦ;show (if (219=219∧YC args=true) then NB args s else _)=_;rw[if_pos ⟨rfl,hl⟩];unfold NB;have hh:∃ s',JU args s s':=⟨s',h⟩;rw[dif_pos hh,h.uniq (Classical.choose_spec hh)]
theorem aAy {x:Nat} (hx:x<1000000) (hΦ:Φ (int (Lib.bitLen x:Nat)) s):okF q X (KO kc) 220 [.int .u64 x] s Φ:=by
 refine okF.re (r:=.ret (int (Lib.bitLen x:Nat),s)) ?_ hΦ;show QM [.int .u64 x] s=_;unfold QM;have hh:∃ y,vp [.int .u64 x] y:=⟨x,rfl,hx⟩;rw[dif_pos hh];have hc:=(Classical.choose_spec hh).1;simp only[List.cons.injEq,Value.int.injEq,true_and,and_true,Int.natCast_inj] at hc;rw[← hc]
end
end Go.Dust
namespace Go.Dust
open Go.Proofs
set_option maxRecDepth 100000
set_option maxHeartbeats 1000000
theorem aD7 (l:List dC):(l.flatMap cE).all hZ=true:=by
 rw[List.all_eq_true];intro v hv;obtain⟨f,_,hf⟩:=List.mem_flatMap.1 hv;simp only[cE,List.mem_cons,List.not_mem_nil,or_false] at hf;rcases hf with rfl | rfl | rfl <;> rfl
section
variable {kc:Kc} {q:Bool} {s:St} {Φ:Value→St→Prop}
theorem FG:type_of% (B3 @RX @Ih @zy):=B3 @RX @Ih @zy
theorem aGk (hs:Ok s) {va:Option Addr} {n c:Nat} {C:List dC} (B:bJ s 51 3 (.slice va n c) (C.flatMap cE)) (hn:C.length=n) (hm:n<1000000)
  (hΦ:∀ s',bJ s' 51 3 (.slice va n c) ((jP C).flatMap cE)→aC (nameOf (.slice va n c)) s s'→Φ (.tuple #[]) s'):okF q X (KO kc) 155 [.slice va n c,.func (.func 156) #[] #[]] s Φ:=by
 have w:IntKind.u64.wrap (n:Int)=(n:Int):=by
  unfold IntKind.wrap;simp only[IntKind.bits,IntKind.signed];simp;omega
 refine aW Tryz.func155 (by kernel_rfl) rfl rfl (rs:=[]) rfl (N:=14) rfl rfl ?_;refine aA fun bF aF bD=>?_;simp only[FG,seval];refine aF _ _ ?_;simp only[FG,seval,w];refine aH ?_ (aAy hm ?_)
 ·simp only[FG,seval]
 simp only[FG,seval];by_cases h1:n≤1
 ·refine aH ?_ (aDk (va:=va) (c:=c) (f:=.func (.func 156) #[] #[]) (n:=n) (l:=(Lib.bitLen n:Nat)) h1 ?_)
  ·simp only[FG,seval]
  simp only[FG,seval];refine hΦ s ?_ (.refl hs);rw[Ck (by omega)];exact B
 ·obtain⟨b,o,rfl⟩:=B.sl.addr (show 0<n by omega);obtain⟨s',e,B',k⟩:∃ s',dS s ⟨b,o,none⟩ ((jP C).flatMap cE)=some s'∧bJ s' 51 3 (.slice (some ⟨b,o,none⟩) n c) ((jP C).flatMap cE)∧aC [b] s s':=by
   have hlen:((jP C).flatMap cE).length=(C.flatMap cE).length:=by rw[GI cE 3 vP,GI cE 3 vP,OR]
   cases B with
   | @own _ _ _ _ L0 _ hc h1 h2 h3 h4 =>
    have hle:o+(C.flatMap cE).length≤L0.length:=by
     have:=Nat.mul_le_mul_right 3 h2;omega
    obtain⟨s',g1,g2,g3⟩:=hc.store hs (i:=o) (vs:=(jP C).flatMap cE) (by omega) (aD7 _);refine⟨s',g1,.own g2 (by rw[JB (by omega)];exact h1) h2 (by rw[hlen];exact h3) fun i hi=>?_,g3⟩;rw[JA (by omega),if_pos (by omega)];congr 1;omega
  have P5:Lib.bitLen n<1000:=Nat.lt_of_le_of_lt (Lib.bitLen_le n 62 (by omega) (by omega)) (by omega);refine aH ?_ (aDj (s':=s') ⟨b,o,n,c,Lib.bitLen n,C,rfl,B,hn,hm,P5,e⟩ (decide_eq_true (by omega)) ?_)
  ·simp only[FG,seval]
  simp only[FG,seval];exact hΦ s' B' k
theorem gw (hs:Ok s) {va:Option Addr} {n c:Nat} {C:List dC} (B:bJ s 51 3 (.slice va n c) (C.flatMap cE)) (hn:C.length=n) (hm:n<1000000)
  (hΦ:∀ s',bJ s' 51 3 (.slice va n c) ((jP C).flatMap cE)→aC (nameOf (.slice va n c)) s s'→Φ (.slice va n c) s'):okF q X (KO kc) 66 [.slice va n c] s Φ:=by
 refine aW Tryz.func66 (by kernel_rfl) rfl rfl (rs:=[.tmp 2]) rfl (N:=6) rfl rfl ?_;refine aA fun bF aF bD=>?_;simp only[RX,seval];refine aF _ _ ?_;refine aA fun Ψ1 aE aL=>?_;simp only[RX,seval];refine aH ?_ (aGk hs B hn hm fun s' B' k=>?_)
 ·simp only[RX,seval]
 try simp only[RX,seval]
 refine aE _ _ ?_;refine aA fun Ψ2 aI bH=>?_;simp only[RX,seval];refine aI _ _ ?_;simp only[RX,seval];exact hΦ s' B' k
end
end Go.Dust
namespace Go.Dust
def nF (k:Nat) (W:List Nat) (b a:aK):Prop:=∀ t,t<k→W.contains t=false→a.aB t=b.aB t
theorem nF.get {k:Nat} {W:List Nat} {b a:aK} (h:nF k W b a) {t:Nat} (h1:t<k) (ht:W.contains t=false):a.aB t=b.aB t:=h t h1 ht
theorem tE {k:Nat} {W:List Nat} {b a:aK} {d:Nat} {v:Value} (h:k≤d∨W.contains d=true):nF k W b (a.put (some d) v)↔nF k W b a:=by
 refine forall_congr' fun t=>forall_congr' fun h1=>forall_congr' fun ht=>?_;rw[EW,if_neg];rintro rfl;rcases h with h | h
 ·omega
 ·rw[h] at ht;cases ht
def vV (k:Nat) (W:List Nat) (d:Nat):Bool:=Nat.ble k d||W.contains d
theorem HT {k d:Nat} {W:List Nat}:vV k W d=true↔k≤d∨W.contains d=true:=by
 unfold vV;rw[Bool.or_eq_true,Nat.ble_eq]
theorem nF.up {k k':Nat} {W W':List Nat} {a b c:aK} (h':nF k' W' b c) (h1:(Nat.ble k k'&&W'.all (vV k W))=true) (h:nF k W a b):nF k W a c:=by
 rw[Bool.and_eq_true,List.all_eq_true] at h1;intro t ht hW;rw[← h t ht hW];have:=Nat.le_of_ble_eq_true h1.1;refine h' t (by omega) ?_;cases hc:W'.contains t with
 | false=>rfl
 | true =>
  have:=h1.2 t (List.contains_iff_mem.1 hc);rcases HT.1 this with h2 | h2
  ·omega
  ·rw[h2] at hW;cases hW
theorem ME {A:List Nat} {a:aK} {d:Nat} {v:Value} (h:A.contains d=false):A.map (a.put (some d) v).aB=A.map a.aB:=by
 refine List.map_congr_left fun t ht=>?_;rw[EW,if_neg];rintro rfl;rw[List.contains_iff_mem.2 ht] at h;cases h
theorem Gq {j n:Nat} (h:j<n) (hn:n<2 ^ 62):IntKind.i64.wrap ((j:Int)+1)=((j+1:Nat):Int):=by
 rw[aU (by omega) (by omega)];rfl
theorem nF.out {k:Nat} {W:List Nat} {b a:aK} (h:nF k W b a) {t:Nat} (ht:vV k W t=false):a.aB t=b.aB t:=by
 unfold vV at ht;rw[Bool.or_eq_false_iff] at ht;refine h t (Nat.lt_of_not_le fun hh=>?_) ht.2;rw[Nat.ble_eq_true_of_le hh] at ht;cases ht.1
section
variable {q:Bool} {X:Env} {K:eI} {r:Option Nat} {G body:Code} {e b n g i:Nat} {t m x y z c:Nat} {T1 T2 T3 T4 T5 T6 T7:TypeId} {p1 p2 p3:String} {e1 e2 e3:Array Edge} {Φ:dU→aK→St→Prop} (k:Nat) (W A:List Nat) (I:Nat→List Value→St→Prop) {a:aK} {s:St}
theorem MJ (hW:(vV k W t&&vV k W z&&vV k W c&&!vV k W m&&!A.contains t&&!A.contains z&&!A.contains c&&!(t==c))=true) (hn:n<2 ^ 62) (hm:a.aB m=.int .i64 n) (ht:a.aB t=.int .i64 0) (h0:I 0 (A.map a.aB) s)
  (hB:∀ j a' s',j<n→nF k W a a'→a'.aB t=.int .i64 j→I j (A.map a'.aB) s'→∀ Ψ:dU→aK→St→Prop,(∀ a'' s'',nF k W a a''→a''.aB t=.int .i64 j→I (j+1) (A.map a''.aB) s''→Ψ .normal a'' s''∧Ψ (.exit b) a'' s'')→(∀ e' a s,e'≠.normal→e'≠.exit b→Φ e' a s→Ψ e' a s)→cR q X K r body a' s' Ψ)
  (hE:∀ a' s',nF k W a a'→I n (A.map a'.aB) s'→Φ (.exit e) a' s') :
  cR q X K r (.loop (.seq (.region g #[⟨some c,.binOp .lss T1 (.tmp t) (.tmp m) T2,T3,p1,e1,none⟩] false) (.seq (.cond (.tmp c) .skip (.exit e)) (.seq (.block b body) (.region i #[⟨some z,.binOp .add T4 (.tmp t) (.const (.int .i64 1)) T5,T6,p2,e2,none⟩,⟨some t,.move (.tmp z),T7,p3,e3,none⟩] false))))) a s Φ:=by
 simp only[Bool.and_eq_true,Bool.not_eq_true'] at hW;obtain⟨⟨⟨⟨⟨⟨⟨w1,w2⟩,w3⟩,w4⟩,w5⟩,w6⟩,w7⟩,w8⟩:=hW;refine rW (n:=n) (fun j a' s=>nF k W a a'∧a'.aB t=.int .i64 j∧I j (A.map a'.aB) s) (fun j a' s=>nF k W a a'∧a'.aB t=.int .i64 j∧I (j+1) (A.map a'.aB) s)
  (fun j a' s hj ⟨h1,h2,h3⟩ Ψ w=>?_) (fun j a' s hj ⟨h1,h2,h3⟩ Ψ u1 u2 u3=>hB j a' s hj h1 h2 h3 Ψ (fun a'' s' h1 h2 h3=>⟨u1 _ _ ⟨h1,h2,h3⟩,u2 _ _ ⟨h1,h2,h3⟩⟩) u3)
  (fun j a' s hj ⟨h1,h2,h3⟩ Ψ w=>?_) (fun a' s ⟨h1,_,h3⟩=>hE a' s h1 h3) (Nat.zero_le _) ⟨fun _ _ _=>rfl,ht,h0⟩
 ·simp only[RC,RO,RV,RB,RG,h1.out w4,hm,h2,seval];refine w _ _ (decide ((j:Int)<n)) (by simp only[RV,↓reduceIte]) (by simp) ⟨(tE (HT.1 w3)).2 h1,?_,by rw[ME w7];exact h3⟩;rw[EW,if_neg (beq_eq_false_iff_ne.1 w8)];exact h2
 ·simp only[RC,RO,RV,RB,RG,h2,Gq hj hn,seval];refine w _ _ ⟨(tE (HT.1 w1)).2 ((tE (HT.1 w2)).2 h1),?_,?_⟩
  ·rw[EW,if_pos rfl]
  ·rw[ME w5,ME w6];exact h3
theorem aCh {C:Operand} (hW:(vV k W t&&vV k W x&&vV k W y&&!A.contains t&&!A.contains x&&!A.contains y)=true) (hn:n<2 ^ 62) (ht:a.aB t=.int .i64 0) (h0:I 0 (A.map a.aB) s)
  (hG:∀ j a' s',j≤n→nF k W a a'→a'.aB t=.int .i64 j→I j (A.map a'.aB) s'→∀ Ψ:dU→aK→St→Prop,(∀ a'' s'',a''.eval C=.bool (decide (j<n))→nF k W a a''→a''.aB t=.int .i64 j→I j (A.map a''.aB) s''→Ψ .normal a'' s'')→cR q X K r G a' s' Ψ)
  (hB:∀ j a' s',j<n→nF k W a a'→a'.aB t=.int .i64 j→I j (A.map a'.aB) s'→∀ Ψ:dU→aK→St→Prop,(∀ a'' s'',nF k W a a''→a''.aB t=.int .i64 j→I (j+1) (A.map a''.aB) s''→Ψ .normal a'' s''∧Ψ (.exit b) a'' s'')→(∀ e' a s,e'≠.normal→e'≠.exit b→Φ e' a s→Ψ e' a s)→cR q X K r body a' s' Ψ)
  (hE:∀ a' s',nF k W a a'→I n (A.map a'.aB) s'→Φ (.exit e) a' s') :
  cR q X K r (.loop (.seq (.seq G (.cond C .skip (.exit e))) (.seq (.block b body) (.region i #[⟨some x,.move (.tmp t),T1,p1,e1,none⟩,⟨some y,.binOp .add T2 (.tmp x) (.const (.int .i64 1)) T3,T4,p2,e2,none⟩,⟨some t,.assign (.tmp y),T5,p3,e3,none⟩] false)))) a s Φ:=by
 simp only[Bool.and_eq_true,Bool.not_eq_true'] at hW;obtain⟨⟨⟨⟨⟨w1,w2⟩,w3⟩,w5⟩,w6⟩,w7⟩:=hW;refine gB (n:=n) (fun j a' s=>nF k W a a'∧a'.aB t=.int .i64 j∧I j (A.map a'.aB) s) (fun j a' s=>nF k W a a'∧a'.aB t=.int .i64 j∧I (j+1) (A.map a'.aB) s)
  (fun j a' s hj ⟨h1,h2,h3⟩ Ψ w=>hG j a' s hj h1 h2 h3 Ψ fun a'' s'' k1 k2 k3 k4=>w a'' s'' _ k1 (by simp) ⟨k2,k3,k4⟩) (fun j a' s hj ⟨h1,h2,h3⟩ Ψ u1 u2 u3=>hB j a' s hj h1 h2 h3 Ψ (fun a'' s' h1 h2 h3=>⟨u1 _ _ ⟨h1,h2,h3⟩,u2 _ _ ⟨h1,h2,h3⟩⟩) u3)
  (fun j a' s hj ⟨h1,h2,h3⟩ Ψ w=>?_) (fun a' s ⟨h1,_,h3⟩=>hE a' s h1 h3) (Nat.zero_le _) ⟨fun _ _ _=>rfl,ht,h0⟩
 simp only[RC,RO,RV,RB,RG,h2,Gq hj hn,seval];refine w _ _ ⟨(tE (HT.1 w1)).2 ((tE (HT.1 w3)).2 ((tE (HT.1 w2)).2 h1)),?_,?_⟩
 ·rw[EW,if_pos rfl]
 ·rw[ME w5,ME w7,ME w6];exact h3
end
end Go.Dust
namespace Go.Dust
open Go.Proofs
set_option maxRecDepth 100000
set_option maxHeartbeats 2000000
section
variable {kc:Kc} {q:Bool} {s:St} {Φ:Value→St→Prop} {h:Nat} {P:PH}
theorem iD:type_of% (B6 @RX @TJ @dV @dQ @bG @EJ):=B6 @RX @TJ @dV @dQ @bG @EJ
theorem Tc (hs:Ok s) (H:bK s h P) (G:P.bX) (hΦ:∀ va vc s',bJ s' 51 3 (.slice va P.qG.length vc) ((jP P.qG).flatMap cE)→(∀ b∈nameOf (.slice va P.qG.length vc),s.next≤b)→aC [] s s'→Φ (.tuple #[.slice va P.qG.length vc,int 0]) s'):okF q X (KO kc) 9 [ptr h] s Φ:=by
 have bY:=H.bY;have n2:=H.n2;have hN:¬ (P.N:Int)≤0:=by omega
 refine aW Tryz.func9 (by kernel_rfl) rfl rfl (rs:=[.tmp 2,.tmp 3]) rfl (N:=42) rfl rfl ?_;refine aA fun bF aF bD=>?_;simp only[iD,seval];refine aF _ _ ?_;refine aA fun Ψ1 aE aL=>?_;refine aA fun Ψ2 aI bH=>?_;simp only[iD,seval];refine aH ?_ (GX H ?_)
 ·simp only[iD,seval]
 simp only[iD,seval,hN,decide_false];refine aI _ _ ?_;simp only[iD,seval];refine aE _ _ ?_;refine aA fun Ψ3 aN bM=>?_;simp only[iD,seval];obtain⟨s1,e1,k1,c1,n1⟩:=cI hs (L:=[.slice none 0 0]) (n:=1) (e:=110) rfl;rw[e1];refine aN _ _ ?_;refine aA fun Ψ4 aP cC=>?_;refine aA fun cU aZ cK=>?_;simp only[iD,seval];refine aH ?_ (jr k1.ok (H.aJ k1) fun s2 va n vc b2 hn zY k2=>?_)
 ·simp only[iD,seval]
 subst hn
 try simp only[iD,seval]
 refine aZ _ _ ?_;have dD:=k1.trans k2;have n12:=k2.next;have hal:=P.uI;have Hk:∀ t,aC [s.next] s2 t→bK t h P:=fun t k=>(H.aJ dD).aD k fun y hy hy'=>by have:=H.eM hs y hy;simp at hy';omega
 refine cJ fun dN bO oL cZ=>?_;refine MJ 16 [6,7,8,9] [] (n:=P.all.length) (fun j _ s'=>qC s' s.next s2.next [] ((P.all.take j).flatMap P.KR)∧aC [s.next] s2 s') rfl (by omega) ?_ ?_ ⟨⟨none,0,c1.aD k2 (by simp),.nil,by simp[nameOf],by omega⟩,.refl dD.ok⟩ ?_ ?_
 ·simp only[iD,seval]
 ·simp only[iD,seval]
 ·rintro j a' s' hj hA hc ⟨hF,hk⟩ aV g g3;obtain⟨vb,dW,rfl⟩:=b2.sl.addr (show 0<P.all.length by omega);have g1:(0:Int)≤(j:Int):=Int.natCast_nonneg _;have g2:(j:Int)<((P.all.length:Nat):Int):=by omega
  obtain⟨x,hx⟩:∃ x,x=P.all[j]:=⟨_,rfl⟩;have Fy:=zY vb (by simp[nameOf]);have lj:aG s'.look ⟨vb,dW+j,none⟩=some (int x):=by
   refine(b2.sl.aD hk (fun b hb hb'=>?_)).load (i:=j) ?_
   ·simp[nameOf] at hb hb';omega
   ·rw[List.getElem?_map,List.getElem?_eq_getElem hj,hx];rfl
  have hxi:i64 x:=P.DF bY (by rw[hx];exact List.getElem_mem _);have qJ:P.all.take (j+1)=P.all.take j++[x]:=by rw[List.take_add_one,List.getElem?_eq_getElem hj,hx];rfl
  refine aA fun fE cG dX=>?_;simp only[iD,seval,Nat.reduceLT,List.contains_cons,List.contains_nil,hA.get,hc,g1,g2,and_self,bQ,Int.toNat_natCast,Nat.mul_one,lj];refine cG _ _ ?_;refine aA fun gV cT gA=>?_;simp only[iD,seval,Nat.reduceLT,List.contains_cons,List.contains_nil,hA.get];refine aH ?_ (ZN hk.ok (Hk _ hk) G x hxi ?_)
  ·simp only[iD,seval]
  rintro v s3 b3 ⟨ra,rc,rfl⟩ Ff k3
  try simp only[iD,seval]
  refine cT _ _ ?_;have zW:=hk.next;have P6:=PH.gu G (P.all.take j);rw[List.length_take] at P6;have aI7:P.bZ x≤15:=by have:=(PH.FA G x).2;unfold PH.bZ;omega
  have ku:=b3.lt k3.ok;refine cJ fun jC dK nz iK=>?_;refine MJ 24 [7,8,9] [] (n:=P.bZ x) (fun i _ s'=>qC s' s.next s2.next (nameOf (.slice ra (P.bZ x) rc)) ((P.all.take j).flatMap P.KR++P.DT x i)∧Ints s' (.slice ra (P.bZ x) rc) (P.refs x)∧s3.next≤s'.next∧aC [s.next] s2 s') rfl (by omega) ?_ ?_
   ⟨by rw[show P.DT x 0=[] from rfl,List.append_nil];exact hF.off hk.ok k3 Ff,b3.sl,Nat.le_refl _,hk.trans k3.any⟩ ?_ ?_
  ·simp only[iD,seval]
  ·simp only[iD,seval]
  ·rintro i a'' s' hi hB hd ⟨hF,hI,EB,hk⟩ TA u u3;obtain⟨rb,ro,rfl⟩:=Sl.addr hI (show 0<P.bZ x by omega);have i1:(0:Int)≤(i:Int):=Int.natCast_nonneg _;have i2:(i:Int)<((P.bZ x:Nat):Int):=by omega
   have li:aG s'.look ⟨rb,ro+i,none⟩=some (int (P.ref x i)):=by
    refine hI.get ?_;unfold PH.refs;rw[List.getElem?_map,List.getElem?_range hi];rfl
   refine aA fun lO eG kY=>?_;simp only[iD,seval,Nat.reduceLT,List.contains_cons,List.contains_nil,hB.get,hd,i1,i2,and_self,bQ,Int.toNat_natCast,Nat.mul_one,li];refine eG _ _ ?_;refine aA fun rE jI pS=>?_;simp only[iD,seval];refine aH ?_ (aHa hk.ok (Hk _ hk) (P.ref x i) (PH.RT H x i) fun s4 k4=>?_)
   ·simp only[iD,seval,Nat.reduceLT,List.contains_cons,List.contains_nil,hB.get,hA.get]
   try simp only[iD,seval]
   refine jI _ _ ?_;have kB:=hk.trans k4.any;have De:=hF.aD k4;have Dg:Ints s4 (.slice (some ⟨rb,ro,none⟩) (P.bZ x) rc) (P.refs x):=Sl.aD hI k4 (by simp);have n4:=k4.next;have PW:=P.Cn x i;unfold PH.OQ at PW;refine aA fun sF iY rQ=>?_;by_cases hw:P.NQ (P.ref x i)≥0
   ·rw[if_pos hw] at PW;simp only[iD,seval,hw,decide_true];refine iY _ _ ?_;simp only[iD,seval];have hrb:s3.next>rb:=ku rb (by simp[nameOf]);have aIa:=Ff rb (by simp[nameOf]);refine aH ?_ (qC.add (s:=s4) (cb:=s.next) (lo:=s2.next) kB.ok De (by have:=kB.next;omega) (fun y hy=>by have:=ku y hy;omega) (by rw[List.length_append];have:=P.Cm x i;omega) (P.NQ (P.ref x i),x,(i:Int)) fun s5 f1 f2 f3 f4=>?_)
    ·simp only[iD,seval,Nat.reduceLT,List.contains_cons,List.contains_nil,hB.get,hA.get]
    simp only[iD,seval];refine(u _ _ ?_ ?_ ⟨?_,f2 _ _ _ _ _ _ (fun b hb=>⟨hb,by simp[nameOf] at hb;omega⟩) rfl Dg,by omega,f3 s2 dD.ok kB (Nat.le_refl _)⟩).1
    ·simp only[iD,seval,Nat.reduceLeDiff,List.contains_cons,List.contains_nil,tE,hB]
    ·simp only[iD,seval,hd]
    ·rw[PW,← List.append_assoc];exact f1
   ·rw[if_neg hw,List.append_nil] at PW;simp only[iD,seval,hw,decide_false];refine iY _ _ ?_;simp only[iD,seval];refine(u _ _ ?_ ?_ ⟨by rw[PW];exact De,Dg,by omega,kB⟩).1
    ·simp only[iD,seval,Nat.reduceLeDiff,List.contains_cons,List.contains_nil,tE,hB]
    ·simp only[iD,seval,hd]
  ·rintro a'' s' hB ⟨hF,hI,EB,hk⟩;refine nz _ _ (g _ _ ?_ ?_ ⟨?_,hk⟩).1
   ·refine hB.up rfl ?_;simp only[iD,seval,Nat.reduceLeDiff,List.contains_cons,List.contains_nil,tE,hA]
   ·simp only[iD,seval,Nat.reduceLT,List.contains_cons,List.contains_nil,hB.get,hc]
   ·rw[qJ,List.flatMap_append,List.flatMap_singleton];obtain⟨fa,fc,f1,f2,f3,f4⟩:=hF;exact⟨fa,fc,f1,f2,fun b hb=>⟨(f3 b hb).1,by simp⟩,f4⟩
 ·rintro a' s' hA ⟨hF,hk⟩;refine oL _ _ (aP _ _ ?_);rw[List.take_of_length_le (Nat.le_refl _)] at hF;have hF:qC s' s.next s2.next [] P.qG:=hF;obtain⟨fa,fc,f1,f2,f3,f4⟩:=hF;have pC:P.qG.length≤15*P.all.length:=PH.gu G P.all;have lf:=f1.load (i:=0) rfl;have n0:aC [] s s':=dD.step hk fun g hg=>.inr (hs.fresh g (by simp at hg;omega));simp only[iD,seval,Nat.reduceLT,List.contains_cons,List.contains_nil,hA.get,lf];refine aH ?_ (gw (va:=fa) (n:=P.qG.length) (c:=fc) (C:=P.qG) hk.ok f2 rfl (by omega) fun s3 b3 k3=>?_)
  ·simp only[iD,seval]
  simp only[iD,seval];exact hΦ fa fc s3 b3 (fun b hb=>by have:=(f3 b hb).1;omega) (n0.step k3 fun g hg=>.inr (hs.fresh g (by have:=(f3 g hg).1;omega)))
end
open Go.Proofs
set_option maxRecDepth 100000
set_option maxHeartbeats 1000000
def PH.IS (P:PH) (R:PR) (l:List eJ):List dC:=(l.zipIdx.flatMap fun x=>if P.has (R.get x.1)=true then [] else [(3,R.get x.1,(x.2:Int))])
def PH.AX (P:PH) (R:PR):List dC:=P.IS R R.all
theorem PH.aF0 (P:PH) (R:PR) (l:List eJ) (p:eJ):P.IS R (l++[p])=P.IS R l++if P.has (R.get p)=true then [] else [(3,R.get p,(l.length:Int))]:=by
 unfold IS;rw[List.zipIdx_append,List.flatMap_append];simp
theorem PH.Nk (P:PH) (R:PR) (l:List eJ):(P.IS R l).length≤l.length:=by
 unfold IS;generalize 0=k
 induction l generalizing k with
 | nil=>exact Nat.le_refl _
 | cons p l ih =>
  rw[List.zipIdx_cons,List.flatMap_cons,List.length_append,List.length_cons];have:=ih (k+1);split
  ·rw[List.length_nil];omega
  ·rw[List.length_singleton];omega
section
variable {kc:Kc} {q:Bool} {s:St} {Φ:Value→St→Prop} {h r:Nat} {P:PH} {R:PR}
theorem PR.FY (R:PR) {p:eJ} (hp:p∈R.all):R.has p=true:=by
 have R8:∀ k n,k<3→n≤R.len k→∀ p∈R.part k n,R.has p=true:=by
  intro k n hk hn p hp;unfold PR.part at hp;obtain⟨i,hi,h⟩:=List.mem_flatMap.1 hp;unfold PR.one at h;split at h
  ·cases h
  ·rw[List.mem_singleton.1 h];have:=List.mem_range.1 hi;exact R.PC hk (by omega)
 unfold PR.all PR.upto at hp;obtain⟨k,hk,h⟩:=List.mem_flatMap.1 hp;exact R8 k _ (List.mem_range.1 hk) (Nat.le_refl _) p h
theorem PR.VN {s:St} {r:Nat} {R:PR} (H:cV s r R) (p:eJ):i64 (R.get p):=by
 unfold PR.get;split
 ·exact H.bs _
 ·split
  ·exact H.bg _
  ·rw[List.getD_eq_getElem?_getD];cases hx:R.q[p.i.toNat]? with
   | none=>exact⟨by simp,by simp⟩
   | some y=>exact H.bq y (List.mem_of_getElem? hx)
theorem OP (L:List eJ) {j:Nat} (hj:j<L.length):((L.flatMap kM).drop (j*3)).take 3=kM L[j]:=by
 induction L generalizing j with
 | nil=>cases hj
 | cons p L ih =>
  cases j with
  | zero=>rfl
  | succ j =>
   rw[List.flatMap_cons,List.drop_append,List.drop_of_length_le (by simp[kM];omega),List.nil_append,show (j+1)*3-(kM p).length=j*3 by simp[kM];omega];exact ih (by simpa using hj)
theorem iZ:type_of% (B8 @RX @TJ @wB @vW @kL @tG @tY @EJ):=B8 @RX @TJ @wB @vW @kL @tG @tY @EJ
theorem aH7 (hs:Ok s) (H:bK s h P) (A:cV s r R) (hΦ:∀ va vc s',bJ s' 51 3 (.slice va (P.AX R).length vc) ((jP (P.AX R)).flatMap cE)→(∀ b∈nameOf (.slice va (P.AX R).length vc),s.next≤b)→aC [] s s'→Φ (.tuple #[.slice va (P.AX R).length vc,int 0]) s'):okF q X (KO kc) 10 [ptr h,ptr r] s Φ:=by
 have n2:=H.n2;have hm1:=A.m1;have hN:¬ (P.N:Int)≤0:=by omega
 have hM:((R.m:Int)==0)=false:=by rw[beq_eq_false_iff_ne];omega
 refine aW Tryz.func10 (by kernel_rfl) rfl rfl (rs:=[.tmp 4,.tmp 5]) rfl (N:=43) rfl rfl ?_;refine aA fun bF aF bD=>?_;simp only[iZ,seval];refine aF _ _ ?_;refine aA fun Ψ1 aE aL=>?_;refine aA fun Ψ2 aI bH=>?_;refine cL [(3,14)] (by kernel_rfl) fun O hO bC hR=>?_;have y3:∀ a,aO O a 3=aY (a.aB 14):=hO (3,14) (by simp);simp only[iZ,seval];refine aH ?_ (GX H ?_)
 ·simp only[iZ,seval]
 simp only[iZ,seval,y3,hN,decide_false];refine aH ?_ (ah A ?_)
 ·simp only[iZ,seval]
 try simp only[iZ,seval,y3,hM]
 refine hR _ _ (aI _ _ ?_);simp only[iZ,seval];refine aE _ _ ?_;refine aA fun Ψ3 aN bM=>?_;simp only[iZ,seval];obtain⟨s1,e1,k1,c1,n1⟩:=cI hs (L:=[.slice none 0 0]) (n:=1) (e:=110) rfl;rw[e1];refine aN _ _ ?_;refine aA fun Ψ4 aP cC=>?_;refine aA fun cU aZ cK=>?_;simp only[iZ,seval];refine aH ?_ (ai k1.ok (A.aJ k1) ?_)
 ·simp only[iZ,seval]
 rintro v s2 b2 ⟨va,vc,rfl⟩ k2 zY
 try simp only[iZ,seval]
 refine aZ _ _ ?_;have dD:=k1.trans k2;have c2:=c1.aD k2 (by simp);have n12:=k2.next;have F0:qC s2 s.next s2.next [] []:=⟨none,0,c2,.nil,by simp[nameOf],by omega⟩;have hal:=R.uI A.m4 A.ql;have Hk:∀ t,aC [s.next] s2 t→bK t h P:=fun t k=>(H.aJ dD).aD k fun y hy hy'=>by have:=H.eM hs y hy;simp at hy';omega
 have Ak:∀ t,aC [s.next] s2 t→cV t r R:=fun t k=>(A.aJ dD).aD k fun y hy hy'=>by have:=A.eM hs y hy;simp at hy';omega
 refine cJ fun dN bO oL cZ=>?_;refine MJ 22 [7,8,9,10] [] (n:=R.all.length) (fun j _ s'=>qC s' s.next s2.next [] (P.IS R (R.all.take j))∧aC [s.next] s2 s') rfl (by omega) ?_ ?_ ⟨⟨none,0,c2,.nil,by simp[nameOf],by omega⟩,.refl dD.ok⟩ ?_ ?_
 ·simp only[iZ,seval]
 ·simp only[iZ,seval]
 ·rintro j a' s' hj hA hc ⟨hF,hk⟩ aV w w3;obtain⟨vb,dW,rfl⟩:=b2.sl.addr (show 0<R.all.length by omega);have g1:(0:Int)≤(j:Int):=Int.natCast_nonneg _;have g2:(j:Int)<((R.all.length:Nat):Int):=by omega
  have Fy:=zY vb (by simp[nameOf]);obtain⟨p,hp⟩:∃ p,p=R.all[j]:=⟨_,rfl⟩;have cD:=b2.lt k2.ok vb (by simp[nameOf]);have lj:bI s'.look ⟨vb,dW+j*3,none⟩ 3=some [int p.k,int p.m,int p.i]:=by
   have:=(b2.sl.aD hk (fun b hb hb'=>by simp[nameOf] at hb hb';omega)).bI (i:=j*3) (k:=3) (by omega) (by rw[OO];omega);rw[OP _ hj,← hp] at this;exact this
  have PO:p∈R.all:=by rw[hp];exact List.getElem_mem _
  have uM:=R.FY PO;have qJ:R.all.take (j+1)=R.all.take j++[p]:=by rw[List.take_add_one,List.getElem?_eq_getElem hj,hp];rfl
  have tM:=P.aF0 R (R.all.take j) p;rw[← qJ,show (R.all.take j).length=j by rw[List.length_take];omega] at tM;refine aA fun fE cG dX=>?_;obtain⟨t1,e1,u1,d1,v1⟩:=cI hk.ok (L:=[int 0,int 0,int 0]) (n:=3) (e:=118) rfl;obtain⟨t2,e2,d2,u2⟩:=d1.storeAll u1.ok (vs:=[int p.k,int p.m,int p.i]) rfl rfl;have pM:aC [] s' t2:=u1.step u2 fun g hg=>.inr (by rw[List.mem_singleton.1 hg];exact hk.ok.fresh _ (Nat.le_refl _));simp only[iZ,seval,Nat.reduceLT,List.contains_cons,List.contains_nil,hA.get,hc,g1,g2,and_self,bQ,Int.toNat_natCast,lj];rw[e1,e2];simp only[iZ,seval];refine cG _ _ ?_;have lp:=d2.bI (i:=0) (k:=3) (Nat.le_refl _);have hk2:=hk.trans pM.any;refine aA fun gV cT gA=>?_;simp only[iZ,seval,Nat.reduceLT,List.contains_cons,List.contains_nil,hA.get,lp,List.drop_zero,List.take];refine aH ?_ (ZZ pM.ok (Ak _ hk2) p fun s4 k4=>?_)
  ·simp only[iZ,seval]
  rw[if_pos uM,if_pos uM]
  try simp only[iZ,seval]
  refine cT _ _ ?_;have kB:=hk2.trans k4.any;refine aA fun jC dK iK=>?_;simp only[iZ,seval,Nat.reduceLT,List.contains_cons,List.contains_nil,hA.get];refine aH ?_ (LD k4.ok (Hk _ kB) (R.get p) (PR.VN A p) fun s5 k5=>?_)
  ·simp only[iZ,seval]
  try simp only[iZ,seval]
  refine dK _ _ ?_;have ki:=kB.trans k5.any;have Df:=((hF.aD pM).aD k4).aD k5;cases hh:P.has (R.get p) with
  | true =>
   rw[if_pos hh,List.append_nil] at tM;simp only[iZ,seval];refine(w _ _ ?_ ?_ ⟨by rw[tM];exact Df,ki⟩).1
   ·simp only[iZ,seval,Nat.reduceLeDiff,List.contains_cons,List.contains_nil,tE,hA]
   ·simp only[iZ,seval,hc]
  | false =>
   rw[if_neg (by rw[hh];simp)] at tM;have hlen:=P.Nk R (R.all.take j);rw[List.length_take] at hlen;simp only[iZ,seval];refine aH ?_ (qC.add (s:=s5) (cb:=s.next) (lo:=s2.next) k5.ok Df (by have:=ki.next;omega) (fun y hy=>by cases hy) (by omega) (3,R.get p,(j:Int)) fun s6 f1 f2 f3 f4=>?_)
   ·simp only[iZ,seval,Nat.reduceLT,List.contains_cons,List.contains_nil,hA.get]
   simp only[iZ,seval];have HC:=f3 s2 dD.ok ki (Nat.le_refl _);refine(w _ _ ?_ ?_ ⟨by rw[tM];exact f1,HC⟩).1
   ·simp only[iZ,seval,Nat.reduceLeDiff,List.contains_cons,List.contains_nil,tE,hA]
   ·simp only[iZ,seval,hc]
 ·rintro a' s' hA ⟨hF,hk⟩;refine oL _ _ (aP _ _ ?_);rw[List.take_of_length_le (Nat.le_refl _)] at hF;have hF:qC s' s.next s2.next [] (P.AX R):=hF;obtain⟨fa,fc,f1,f2,f3,f4⟩:=hF;have lf:=f1.load (i:=0) rfl;have pC:(P.AX R).length≤R.all.length:=P.Nk R R.all;have n0:aC [] s s':=dD.step hk fun g hg=>.inr (hs.fresh g (by simp at hg;omega));simp only[iZ,seval,Nat.reduceLT,List.contains_cons,List.contains_nil,hA.get,lf];refine aH ?_ (gw (va:=fa) (n:=(P.AX R).length) (c:=fc) (C:=P.AX R) hk.ok f2 rfl (by omega) fun s3 b3 k3=>?_)
  ·simp only[iZ,seval]
  simp only[iZ,seval];exact hΦ fa fc s3 b3 (fun b hb=>by have:=(f3 b hb).1;omega) (n0.step k3 fun g hg=>.inr (hs.fresh g (by have:=(f3 g hg).1;omega)))
end
open Go.Proofs
set_option maxRecDepth 100000
set_option maxHeartbeats 1000000
theorem SG:∀ {l m:List Int},l.Pairwise (·<·)→m.Pairwise (·<·)→(∀ x,x∈l↔x∈m)→l=m
 | [],[],_,_,_=>rfl
 | [],y::m,_,_,h=>by have:=(h y).2 (List.mem_cons_self ..);cases this
 | x::l,[],_,_,h=>by have:=(h x).1 (List.mem_cons_self ..);cases this
 | x::l,y::m,hl,hm,h=>by
  rw[List.pairwise_cons] at hl hm;have hxy:x=y:=by
   rcases List.mem_cons.1 ((h x).1 (List.mem_cons_self ..)) with e | e
   ·exact e
   ·rcases List.mem_cons.1 ((h y).2 (List.mem_cons_self ..)) with e' | e'
    ·exact e'.symm
    ·have:=hm.1 x e;have:=hl.1 y e';omega
  subst hxy;congr 1;refine SG hl.2 hm.2 fun z=>?_;constructor
  ·intro hz;rcases List.mem_cons.1 ((h z).1 (List.mem_cons_of_mem _ hz)) with e | e
   ·have:=hl.1 z hz;omega
   ·exact e
  ·intro hz;rcases List.mem_cons.1 ((h z).2 (List.mem_cons_of_mem _ hz)) with e | e
   ·have:=hm.1 z hz;omega
   ·exact e
namespace PH
variable {P:PH}
theorem pH {a:Int}:a∈P.all↔P.has a=true:=by
 unfold all mX;rw[List.mem_map,jG];constructor
 ·rintro⟨i,hi,rfl⟩;obtain⟨h1,h2⟩:=List.mem_filter.1 hi;have h1:=List.mem_range.1 h1;unfold jQ at h2;have h2:=of_decide_eq_true h2;exact⟨by omega,by omega,by omega,by rw[show (2*(i:Int)/2).toNat=i by omega];exact h2⟩
 ·rintro⟨h1,h2,h3,h4⟩;refine⟨(a/2).toNat,List.mem_filter.2 ⟨List.mem_range.2 (by omega),?_⟩,by omega⟩;unfold jQ;exact decide_eq_true h4
theorem TM:P.all.Pairwise (·<·):=by
 unfold all mX;refine List.Pairwise.map (R:=(·<·)) _ (fun a b h=>by omega) ?_;exact List.Pairwise.filter _ List.pairwise_lt_range
theorem size_pos (G:P.bX) {a:Int} (h:P.has a=true):2≤P.size a∧P.size a%2=0∧a%2=0∧0≤a∧a+P.size a≤64*P.N:=by
 obtain⟨h1,h2⟩:=G.val a h;have h3:=cO.uC h1;have h4:=(P.shape a).CZ;have h5:=jG.1 h;unfold size at h2 ⊢;omega
theorem Ho {L:Nat→Nat} {v:Int}:∀ {k i:Nat},qM L v k=some i→∀ j,j<k→(L j:Int)=v→j≤i
 | k+1,i,h,j,hj,he=>by
  rw[qM] at h;split at h
  ·cases h;omega
  ·rename_i hn;by_cases hk:j=k
   ·subst hk;exact absurd he hn
   ·exact Ho h j (by omega) he
theorem Hq {L:Nat→Nat} {v:Int}:∀ {k:Nat},qM L v k=none→∀ j,j<k→¬ (L j:Int)=v
 | k+1,h,j,hj=>by
  rw[qM] at h;split at h
  ·cases h
  ·rename_i hn;by_cases hk:j=k
   ·subst hk;exact hn
   ·exact Hq h j (by omega)
theorem By (G:P.bX) {a o:Int} (ho:P.has o=true) (h1:o≤a) (h2:a<o+P.size o):P.find a=some o:=by
 obtain⟨s1,s2,s3,s4,s5⟩:=size_pos G ho;have hh:=jG.1 ho;unfold find;rw[if_pos ⟨by omega,by omega⟩];cases hl:qM P.S 1 (a/2+1).toNat with
 | none=>exact absurd (show ((P.S (o/2).toNat:Nat):Int)=1 by rw[hh.2.2.2];rfl) (Hq hl _ (by omega))
 | some i =>
  have hm:=Ho hl (o/2).toNat (by omega) (by rw[hh.2.2.2];rfl);obtain⟨g1,g2⟩:=XU hl;have hi:P.has (2*(i:Int))=true:=jG.2 ⟨by omega,by omega,by omega,by rw[show (2*(i:Int)/2).toNat=i by omega];omega⟩;have he:2*(i:Int)=o:=by
   rcases Int.lt_or_le o (2*(i:Int)) with cD | hge
   ·have:=G.oJ o _ ho hi cD;omega
   ·omega
  simp only;rw[he,if_neg (by omega)]
theorem Bx (G:P.bX) {a o:Int}:P.find a=some o↔P.has o=true∧o≤a∧a<o+P.size o:=by
 constructor
 ·intro h;have:=VF h;exact⟨this.2.2.2.2.2.2,this.2.2.2.1,this.2.2.2.2.2.1⟩
 ·rintro⟨h1,h2,h3⟩;exact By G h1 h2 h3
theorem Eu (G:P.bX) {a n:Int} (ha:a%2=0) (h0:0≤a) (hn:n%2=0) (hp:0<n):P.kQ a (-1) ((n+1)/2).toNat=true↔∃ o,P.has o=true∧o<a+n∧a<o+P.size o:=by
 unfold kQ;rw[List.any_eq_true];constructor
 ·rintro⟨k,hk,hf⟩;have hk:=List.mem_range.1 hk;cases hc:P.find (a+2*k) with
  | none=>rw[hc] at hf;cases hf
  | some o =>
   have:=(Bx G).1 hc;exact⟨o,this.1,by omega,by omega⟩
 ·rintro⟨o,h1,h2,h3⟩;obtain⟨s1,s2,s3,s4,s5⟩:=size_pos G h1;refine⟨((max a o-a)/2).toNat,List.mem_range.2 (by omega),?_⟩;rw[By G h1 (o:=o) (by omega) (by omega)];simp only[decide_eq_true_eq];omega
end PH
open Go.Proofs
set_option maxRecDepth 100000
set_option maxHeartbeats 2000000
section
variable {kc:Kc} {q:Bool} {s:St} {Φ:Value→St→Prop} {t u h:Nat} {P:PH} {K:List Int}
end
open Go.Proofs
set_option maxRecDepth 100000
set_option maxHeartbeats 2000000
section
variable {kc:Kc} {q:Bool} {s:St} {Φ:Value→St→Prop} {t u h:Nat} {P:PH} {K:List Int}
end
open Go.Proofs
set_option maxRecDepth 100000
set_option maxHeartbeats 2000000
def vi (P:PH) (K:List Int):Prop:=∀ x∈K,(P.aM x).k=2→P.ref x 0∈K→P.has (P.ref x 1)=true→P.ref x 1∈K
section
variable {kc:Kc} {q:Bool} {s:St} {Φ:Value→St→Prop} {m h t u lo:Nat} {P:PH} {L K:List Int}
end
open Go.Proofs
set_option maxRecDepth 100000
set_option maxHeartbeats 2000000
section
variable {kc:Kc} {q:Bool} {s:St} {Φ:Value→St→Prop} {h r:Nat} {P:PH} {R:PR}
end
open Go.Proofs
set_option maxRecDepth 100000
set_option maxHeartbeats 2000000
theorem Jp {P:PH} {a y:Int} (h0:P.has 0=false) (hy:P.has y=true):y∈P.iF a↔y∈P.lS a:=by
 rw[P.qk];unfold PH.iF PH.qV;rw[List.mem_map];constructor
 ·rintro⟨i,hi,rfl⟩;obtain⟨h1,h2⟩:=List.mem_filter.1 hi;unfold PH.xJ at h2;rw[Bool.and_eq_true,Bool.not_eq_true',Bool.not_eq_true'] at h2;exact⟨i,List.mem_range.1 h1,h2.2,rfl⟩
 ·rintro⟨i,hi,hs,rfl⟩;refine⟨i,List.mem_filter.2 ⟨List.mem_range.2 hi,?_⟩,rfl⟩;unfold PH.xJ;rw[hs];cases hb:(P.ref a i==0) with
  | false=>rfl
  | true=>rw[beq_iff_eq] at hb;rw[hb,h0] at hy;cases hy
structure Grow (P:PH) (K K':List Int):Prop where
 ext:∃ E,K'=K++E
 cl:∀ x∈K',x∉K→∀ y∈P.iF x,P.has y=true→y∈K'
theorem Grow.sub {P:PH} {K K':List Int} (h:Grow P K K'):∀ x∈K,x∈K':=by
 obtain⟨E,rfl⟩:=h.ext;exact fun x hx=>List.mem_append_left _ hx
theorem Grow.refl {P:PH} {K:List Int}:Grow P K K:=⟨⟨[],(List.append_nil K).symm⟩,fun x h h'=>absurd h h'⟩
theorem Grow.trans {P:PH} {K K' vm:List Int} (h:Grow P K K') (k:Grow P K' vm):Grow P K vm:=by
 obtain⟨E,rfl⟩:=h.ext;obtain⟨E',rfl⟩:=k.ext;refine⟨⟨E++E',List.append_assoc _ _ _⟩,fun x hx hn y hy hp=>?_⟩;by_cases h':x∈K++E
 ·exact k.sub y (h.cl x h' hn y hy hp)
 ·exact k.cl x hx h' y hy hp
theorem ix {P:PH} {N:Nat} {g:List Int→Int→List Int} (hg:∀ K a,P.free K≤N→Grow P K (g K a)∧(P.has a=true→a∈g K a)):∀ (l K:List Int),P.free K≤N→Grow P K (l.foldl g K)∧∀ y∈l,P.has y=true→y∈l.foldl g K
 | [],K,h=>⟨.refl,fun _ h=>by cases h⟩
 | a::l,K,h=>by
  rw[List.foldl_cons];obtain⟨h1,h2⟩:=hg K a h;obtain⟨h3,h4⟩:=ix hg l (g K a) (Nat.le_trans (P.Cx h1.sub) h);refine⟨h1.trans h3,fun y hy hp=>?_⟩;rcases List.mem_cons.1 hy with rfl | h
  ·exact h3.sub _ (h2 hp)
  ·exact h4 y h hp
theorem Te {P:PH}:∀ n K a,P.free K≤n→Grow P K (P.visit n K a)∧(P.has a=true→a∈P.visit n K a)
 | 0,K,a,h=>by
  refine⟨.refl,fun hp=>?_⟩;cases hc:K.contains a with
  | true=>exact List.contains_iff_mem.1 hc
  | false=>have:=PH.OV hp hc;omega
 | n+1,K,a,h=>by
  unfold PH.visit;by_cases hc:P.has a=true∧K.contains a=false
  ·rw[if_pos hc];have:=PH.OV hc.1 hc.2;obtain⟨g1,g2⟩:=ix (P:=P) (Te n) (P.iF a) (K++[a]) (by omega);obtain⟨E,hE⟩:=g1.ext;have ha:a∈(P.iF a).foldl (P.visit n) (K++[a]):=g1.sub a (List.mem_append_right _ List.mem_cons_self);refine⟨⟨⟨[a]++E,by rw[hE,List.append_assoc]⟩,fun x hx hn y hy hp=>?_⟩,fun _=>ha⟩;by_cases Ge:x=a
   ·subst Ge;exact g2 y hy hp
   ·exact g1.cl x hx (fun hh=>(List.mem_append.1 hh).elim hn fun h=>Ge (List.mem_singleton.1 h)) y hy hp
  ·rw[if_neg hc];refine⟨.refl,fun hp=>?_⟩;cases hk:K.contains a with
   | true=>exact List.contains_iff_mem.1 hk
   | false=>exact absurd ⟨hp,hk⟩ hc
theorem ij {Q:Int→Prop} {P:PH} {g:List Int→Int→List Int} (hg:∀ K a,(∀ x∈K,Q x)→(P.has a=true→Q a)→∀ x∈g K a,Q x):∀ (l K:List Int),(∀ x∈K,Q x)→(∀ a∈l,P.has a=true→Q a)→∀ x∈l.foldl g K,Q x
 | [],K,h,_=>h
 | a::l,K,h,hl=>by
  rw[List.foldl_cons];exact ij hg l _ (hg K a h (hl a List.mem_cons_self)) fun b hb=>hl b (List.mem_cons_of_mem _ hb)
theorem Tg {Q:Int→Prop} {P:PH} (hQ:∀ x y,Q x→y∈P.iF x→P.has y=true→Q y):∀ n K a,(∀ x∈K,Q x)→(P.has a=true→Q a)→∀ x∈P.visit n K a,Q x
 | 0,K,a,h,_=>h
 | n+1,K,a,h,ha=>by
  unfold PH.visit;by_cases hc:P.has a=true∧K.contains a=false
  ·rw[if_pos hc];refine ij (Tg hQ n) (P.iF a) (K++[a]) (fun x hx=>?_) fun y hy hp=>hQ a y (ha hc.1) hy hp;rcases List.mem_append.1 hx with h' | h'
   ·exact h x h'
   ·rw[List.mem_singleton.1 h'];exact ha hc.1
  ·rw[if_neg hc];exact h
structure vt (P:PH) (L K Lc:List Int):Prop where
 cl:∀ x∈K,∀ y∈P.iF x,P.has y=true→y∈K
 sd:∀ x∈K,iI P L x
 ls:∀ x∈Lc,P.has x=true→iI P L x
 st:(K=[]∧Lc=L)∨((∀ x∈L,P.has x=true→x∈K)∧Lc=P.pI K P.all)
theorem Jn {P:PH} {K:List Int} (hK:∀ x∈K,P.has x=true) {y:Int}:y∈P.pI K P.all↔∃ x∈K,(P.aM x).k=2∧P.ref x 0∈K∧y=P.ref x 1:=by
 unfold PH.pI;rw[List.mem_map];constructor
 ·rintro⟨x,hx,rfl⟩;have h:=(List.mem_filter.1 hx).2;unfold PH.due at h;rw[Bool.and_eq_true,Bool.and_eq_true,beq_iff_eq,List.contains_iff_mem,List.contains_iff_mem] at h;exact⟨x,h.1.1,h.1.2,h.2,rfl⟩
 ·rintro⟨x,hx,hk,h0,rfl⟩;refine⟨x,List.mem_filter.2 ⟨P.pH.2 (hK x hx),?_⟩,rfl⟩;unfold PH.due;rw[Bool.and_eq_true,Bool.and_eq_true,beq_iff_eq,List.contains_iff_mem,List.contains_iff_mem];exact⟨⟨hx,hk⟩,h0⟩
theorem aGq {P:PH} {L K Lc:List Int} (h0:P.has 0=false) (J:vt P L K Lc) :
  Grow P K (P.iG K Lc)∧(∀ y∈Lc,P.has y=true→y∈P.iG K Lc)∧(∀ x∈P.iG K Lc,iI P L x)∧∀ x∈P.iG K Lc,∀ y∈P.iF x,P.has y=true→y∈P.iG K Lc:=by
 obtain⟨g1,g2⟩:=ix (P:=P) (Te (32*P.N)) Lc K (P.OU K);have hQ:∀ x y,iI P L x→y∈P.iF x→P.has y=true→iI P L y:=fun x y hx hy hp=>.lS hx ((Jp h0 hp).1 hy) hp;refine⟨g1,g2,ij (Tg hQ _) Lc K J.sd J.ls,fun x hx y hy hp=>?_⟩;by_cases Gd:x∈K
 ·exact g1.sub y (J.cl x Gd y hy hp)
 ·exact g1.cl x hx Gd y hy hp
theorem Nw {P:PH} {L:List Int} (h0:P.has 0=false):∀ f K Lc n,P.free K<f→vt P L K Lc→(∀ x∈(P.tW f K Lc n).1,iI P L x)∧(∀ x∈(P.tW f K Lc n).1,∀ y∈P.iF x,P.has y=true→y∈(P.tW f K Lc n).1)∧(∀ x∈L,P.has x=true→x∈(P.tW f K Lc n).1)∧vi P (P.tW f K Lc n).1
 | 0,K,Lc,n,h,_=>by omega
 | f+1,K,Lc,n,hf,J=>by
  obtain⟨g,s1,s2,s3⟩:=aGq h0 J;unfold PH.tW;by_cases he:(P.iG K Lc).length=K.length
  ·rw[if_pos he];obtain⟨E,hE⟩:=g.ext;have Dp:P.iG K Lc=K:=by
    have:=congrArg List.length hE;rw[List.length_append] at this;have hE0:E=[]:=List.length_eq_zero_iff.1 (by omega);rw[hE,hE0,List.append_nil]
   refine⟨s2,s3,?_,?_⟩
   ·rcases J.st with ⟨_,rfl⟩ | ⟨h,_⟩
    ·exact s1
    ·exact fun x hx hp=>g.sub x (h x hx hp)
   ·show vi P (P.iG K Lc);rcases J.st with ⟨h,_⟩ | ⟨_,h⟩
    ·rw[Dp,h];exact fun x hx=>by cases hx
    ·intro x hx hk hr hp;rw[Dp] at hx hr;refine s1 _ ?_ hp;rw[h];exact(Jn fun x hx=>(J.sd x hx).has).2 ⟨x,hx,hk,hr,rfl⟩
  ·rw[if_neg he];refine Nw h0 f _ _ _ (by have:=P.Qx K Lc he;omega) ⟨s3,s2,fun x hx hp=>?_,.inr ⟨?_,rfl⟩⟩
   ·obtain⟨y,hy,hk,hr,rfl⟩:=(Jn fun x hx=>(s2 x hx).has).1 hx;exact .zM (s2 y hy) hk (s2 _ hr) hp
   ·rcases J.st with ⟨_,rfl⟩ | ⟨h,_⟩
    ·exact s1
    ·exact fun x hx hp=>g.sub x (h x hx hp)
theorem aFb {P:PH} {L:List Int} (h0:P.has 0=false) {x:Int}:x∈(P.rounds L).1↔iI P L x:=by
 obtain⟨h1,h2,h3,h4⟩:=Nw (L:=L) h0 (32*P.N+1) [] L 0 (by have:=P.OU [];omega) ⟨fun _ h=>(by cases h),fun _ h=>(by cases h),fun x hx hp=>.root hx hp,.inl ⟨rfl,rfl⟩⟩;refine⟨h1 x,fun h=>?_⟩
 induction h with
 | root a b=>exact h3 _ a b
 | lS _ b c ih=>exact h2 _ ih _ ((Jp h0 c).2 b) c
 | zM _ b _ d ih1 ih2=>exact h4 _ ih1 b ih2 d
section
variable {kc:Kc} {q:Bool} {s:St} {Φ:Value→St→Prop} {t u h:Nat} {P:PH} {M:Nat→Nat}
end
open Go.Proofs
set_option maxRecDepth 100000
set_option maxHeartbeats 2000000
theorem im {g:List Int→Int→List Int} (hg:∀ K a,K.Nodup→(g K a).Nodup):∀ (l K:List Int),K.Nodup→(l.foldl g K).Nodup
 | [],K,h=>h
 | a::l,K,h=>im hg l (g K a) (hg K a h)
theorem Tf {P:PH}:∀ n K a,K.Nodup→(P.visit n K a).Nodup
 | 0,K,a,h=>h
 | n+1,K,a,h=>by
  unfold PH.visit;split
  ·rename_i hc;refine im (Tf n) _ _ ?_;rw[List.nodup_append];refine⟨h,by simp,fun x hx y hy=>?_⟩;rw[List.mem_singleton.1 hy];rintro rfl;have:=hc.2;rw[List.contains_iff_mem.2 hx] at this;cases this
  ·exact h
theorem Nx {P:PH}:∀ f K L n,K.Nodup→(P.tW f K L n).1.Nodup
 | 0,K,L,n,h=>h
 | f+1,K,L,n,h=>by
  unfold PH.tW;have hs:(P.iG K L).Nodup:=im (Tf _) L K h;split
  ·exact hs
  ·exact Nx f _ _ _ hs
theorem MU {P:PH} {L:List Int}:(P.rounds L).1.Nodup:=Nx _ _ _ _ List.nodup_nil
theorem aBn {l:List Int} {x y:Int}:x∈once l y↔x∈l∨x=y:=by
 unfold once;split
 ·rename_i h;constructor
  ·exact .inl
  ·rintro(h' | rfl)
   ·exact h'
   ·exact List.contains_iff_mem.1 h
 ·rw[List.mem_append,List.mem_singleton]
theorem Jo:∀ (L l:List Int) {x:Int},x∈L.foldl once l↔x∈l∨x∈L
 | [],l,x=>by simp
 | y::L,l,x=>by
  rw[List.foldl_cons,Jo L,aBn,List.mem_cons,or_assoc]
theorem YJ {R:PR} {x:Int}:x∈R.leads↔x∈R.all.map R.get:=by
 show x∈(R.all.map R.get).foldl once []↔_;rw[Jo];simp
theorem iI.mono {P:PH} {L L':List Int} (h:∀ x∈L,P.has x=true→x∈L') {x:Int} (k:iI P L x):iI P L' x:=by
 induction k with
 | root a b=>exact .root (h _ a b) b
 | lS _ b c ih=>exact .lS ih b c
 | zM _ b _ d ih1 ih2=>exact .zM ih1 b ih2 d
theorem sr {P:PH} {R:PR} (h0:P.has 0=false) {x:Int}:x∈(P.rounds R.leads).1↔iI P (R.all.map R.get) x:=by
 rw[aFb h0];exact⟨.mono fun x hx _=>YJ.1 hx,.mono fun x hx _=>YJ.2 hx⟩
theorem Zi {H:bL} {it mb aR since bB:Nat} {es:List MapEntry} {seen:List Nat} {e:MapEntry} (hI:H it=some (.hY (some mb) since (e.born::seen) aR bB)) (hM:mapOf H mb=some (es,aR)) (hn:(es.map fun e=>e.born).Nodup) (he:e∈es):vK H (ptr it)=some (.tuple #[e.key,e.val]):=by
 have V0:∀ e'∈es,e'.born=e.born→e'=e:=by
  intro e' he' hb;clear hI hM
  induction es with
  | nil=>cases he
  | cons x es ih =>
   rw[List.map_cons,List.nodup_cons] at hn;rcases List.mem_cons.1 he with rfl | h1
   ·rcases List.mem_cons.1 he' with rfl | h2
    ·try rfl
    ·exact absurd (List.mem_map.2 ⟨e',h2,hb⟩) hn.1
   ·rcases List.mem_cons.1 he' with rfl | h2
    ·exact absurd (List.mem_map.2 ⟨e,h1,hb.symm⟩) hn.1
    ·exact ih hn.2 h1 h2
 cases hf:es.find? (·.born==e.born) with
 | none =>
  have:=List.find?_eq_none.1 hf e he;simp at this
 | some e' =>
  have h1:=List.mem_of_find?_eq_some hf;have h2:=List.find?_some hf;simp only[beq_iff_eq] at h2;rw[V0 e' h1 h2] at hf;simp only[vK,and_self,if_true,hI,hM,hf]
theorem aA7 {es:List MapEntry} {K:List Int} (h:es.map (fun e=>(e.key,e.val))=(keys K).map (fun p=>(int p.1,p.2))) (hn:K.Nodup) {e e':MapEntry} (he:e∈es) (he':e'∈es) (hk:e.key=e'.key):e=e':=by
 have hk2:es.map (fun e=>e.key)=K.map int:=by
  have:=congrArg (List.map Prod.fst) h;simpa [List.map_map,Function.comp_def,keys] using this
 have hnd:(es.map fun e=>e.key).Nodup:=by
  rw[hk2];exact List.pairwise_map.2 (List.Pairwise.imp (fun{a b} F4 hh=>F4 (by simpa [int] using hh)) hn)
 clear hk2 h
 induction es with
 | nil=>cases he
 | cons x es ih =>
  rw[List.map_cons,List.nodup_cons] at hnd;rcases List.mem_cons.1 he with rfl | h1
  ·rcases List.mem_cons.1 he' with rfl | h2
   ·try rfl
   ·exact absurd (List.mem_map.2 ⟨e',h2,hk.symm⟩) hnd.1
  ·rcases List.mem_cons.1 he' with rfl | h2
   ·exact absurd (List.mem_map.2 ⟨e,h1,hk⟩) hnd.1
   ·exact ih h1 h2 hnd.2
theorem aA9 {es:List MapEntry} {K:List Int} (h:es.map (fun e=>(e.key,e.val))=(keys K).map (fun p=>(int p.1,p.2))) {a:Int} (ha:a∈K):∃ e∈es,e.key=int a:=by
 have h1:(int a,(Value.bool true))∈(keys K).map (fun p=>(int p.1,p.2)):=by
  rw[List.map_map];exact List.mem_map.2 ⟨a,ha,rfl⟩
 rw[← h] at h1;obtain⟨e,he,hh⟩:=List.mem_map.1 h1;simp only[Prod.mk.injEq] at hh;exact⟨e,he,hh.1⟩
end Go.Dust
