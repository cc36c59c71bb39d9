/- VerifySound walked in D, function by function, and its plain law (C8 C9 C10). -/
import Derived.Test.YtaoiejcaopgjcaaGreatT
set_option linter.unusedVariables false
set_option linter.unusedSimpArgs false
open Nat renaming reduceEqDiff → zA, reduceMul → zB, reduceAdd → zC, reduceBEq → zD
open Int renaming reduceEq → zE, reduceBEq → zF
namespace Go.Dust
open Go.Proofs
set_option maxRecDepth 100000
set_option maxHeartbeats 1000000
def eM (bs:Nat→Int) (p:Nat):Nat→Nat
 | 0=>0
 | d+1=>if bs p=3 then eM bs (p+1) d+1 else 0
theorem nQ {bs:Nat→Int}:∀ {d p:Nat},eM bs p d≤d
 | 0,p=>Nat.le_refl _
 | d+1,p=>by
  rw[eM]
  split
  ·have:=nQ (bs:=bs) (d:=d) (p:=p+1);omega
  ·omega
theorem qQ {bs:Nat→Int}:∀ {d p j:Nat},j<eM bs p d→bs (p+j)=3
 | 0,p,j,h=>by simp[eM] at h
 | d+1,p,j,h=>by
  rw[eM] at h
  split at h
  ·cases j with
   | zero=>assumption
   | succ j=>have:=qQ (bs:=bs) (d:=d) (p:=p+1) (j:=j) (by omega);rw[show p+(j+1)=p+1+j by omega];exact this
  ·omega
theorem oS {bs:Nat→Int}:∀ {d p:Nat},eM bs p d<d→bs (p+eM bs p d)≠3
 | 0,p,h=>by omega
 | d+1,p,h=>by
  rw[eM] at h ⊢
  split
  ·rename_i h3
   rw[if_pos h3] at h
   have:=oS (bs:=bs) (d:=d) (p:=p+1) (by omega)
   rw[show p+(eM bs (p+1) d+1)=p+1+eM bs (p+1) d by omega];exact this
  ·assumption
namespace PH
variable (P:PH)
def span (b:Nat):Nat:=if P.bs b=2 then eM P.bs (b+1) (P.N-(b+1))+1 else 1
def HL (a but:Int) (n:Nat):Bool:=(List.range n).any fun k=>match P.find (a+2*k) with
 | some o=>decide (o≠but)
 | none=>false
def nA (a words but:Int):Int :=
 if a<0∨a≥64*P.N∨a%2≠0 then 1
 else if (if words≤32 then P.bs (a/64).toNat≠1∨(a+words-1)/64≠a/64 else P.bs (a/64).toNat≠2∨a%64≠0∨(P.span (a/64).toNat:Int)≠(words+63)/64) then 5
 else if P.HL a but ((words+1)/2).toNat=true then 8 else 0
end PH
section
variable {kc:Kc} {q:Bool} {s:St} {Φ:Value→St→Prop} {h:Nat} {P:PH}
theorem gE:type_of% (An @RX<|An @iO<|An @nD<|An @sU<|An @tI<|An @bF<|@mB):=An @RX<|An @iO<|An @nD<|An @sU<|An @tI<|An @bF<|@mB
theorem nf (hs:Ok s) (H:aP s h P) {b:Nat} (hb:b<P.N) (hΦ:Φ (int (P.span b)) s):okF q X (KO kc) 228 [ptr h,int b] s Φ:=by
 have iJ:=H.iJ
 have hle:=nQ (bs:=P.bs) (d:=P.N-(b+1)) (p:=b+1)
 obtain⟨m,hm⟩:∃ m,P.span b=m+1:=by unfold PH.span;split <;> exact⟨_,rfl⟩
 have hmN:b+m<P.N:=by unfold PH.span at hm;split at hm <;> omega
 have l0:=H.lb hb
 rw[hm] at hΦ
 refine aG rfl fn_228 rfl (rs:=[.tmp 4]) rfl (N:=42) rfl rfl ?_
 refine aA fun Ψ0 hΨ0 hΨ0'=>?_
 simp only[gE,↓reduceIte,zA,reduceCtorEq,zE,zB,zC,zD,zF]
 refine hΨ0 _ _ ?_
 refine aA fun Ψ1 hΨ1 hΨ1'=>?_
 simp only[gE,↓reduceIte,zA,reduceCtorEq,zE,zB,zC,zD,zF]
 refine hΨ1 _ _ ?_
 refine aA fun Ψ2 hΨ2 hΨ2'=>?_
 refine aL fun Ψ3 hΨ3 hΨ3e hΨ3'=>?_
 refine yI (n:=m) (fun j a' s'=>a'.aD 0=ptr h∧a'.aD 1=int b∧a'.aD 5=int (1+j:Nat)∧s'=s) ?_ ?_ ?_ (Nat.zero_le m) ?_
 ·rintro j a' s' hj ⟨r0,r1,r5,rfl⟩ Ψ' hΨ'
  have g1:(0:Int)≤(b:Int):=Int.natCast_nonneg _
  have g2:(b:Int)<(P.N:Int):=by omega
  have e1:IntKind.i64.wrap ((b:Int)+((1+j:Nat):Int))=((b+1+j:Nat):Int):=by rw[aR (by omega) (by omega)];omega
  refine aH [(9,15),(20,26)] (by kernel_rfl) fun O hO ΨR hR=>?_
  have y9:∀ a,aE O a 9=aM (a.aD 15):=hO (9,15) (by simp)
  have y20:∀ a,aE O a 20=aM (a.aD 26):=hO (20,26) (by simp)
  by_cases h2:P.bs b=2
  ·have e2:(P.bs b==2)=true:=by simpa using h2
   have hm':m=eM P.bs (b+1) (P.N-(b+1)):=by unfold PH.span at hm;rw[if_pos h2] at hm;omega
   by_cases h3:b+1+j<P.N
   ·have g3:(0:Int)≤((b+1+j:Nat):Int):=Int.natCast_nonneg _
    have g4:((b+1+j:Nat):Int)<(P.N:Int):=by omega
    have l1:=H.lb h3
    simp only[gE,↓reduceIte,zA,reduceCtorEq,zE,zB,zC,zD,zF,r0,r1,r5,H.l0,g1,g2,and_self,aJ,Int.toNat_natCast,Nat.zero_add,l0,e2,y9,y20,e1,g3,g4,decide_true,l1]
    refine hR _ _ (hΨ' _ _ (P.bs (b+1+j)==3) ?_ ?_ ⟨?_,?_,?_,rfl⟩)
    ·simp only[gE,↓reduceIte,zA,reduceCtorEq,zE,zB,zC,zD,zF]
    ·rw[beq_iff_eq]
     constructor
     ·intro h4
      rcases Nat.lt_or_ge j m with h5 | h5
      ·exact h5
      ·have:=oS (bs:=P.bs) (d:=P.N-(b+1)) (p:=b+1) (by omega)
       rw[← hm',show m=j by omega] at this
       exact absurd h4 this
     ·intro h4
      exact qQ (d:=P.N-(b+1)) (by omega)
    ·simp only[gE,↓reduceIte,zA,reduceCtorEq,zE,zB,zC,zD,zF,r0]
    ·simp only[gE,↓reduceIte,zA,reduceCtorEq,zE,zB,zC,zD,zF,r1]
    ·simp only[gE,↓reduceIte,zA,reduceCtorEq,zE,zB,zC,zD,zF,r5]
   ·have g4:¬ ((b+1+j:Nat):Int)<(P.N:Int):=by omega
    simp only[gE,↓reduceIte,zA,reduceCtorEq,zE,zB,zC,zD,zF,r0,r1,r5,H.l0,g1,g2,and_self,aJ,Int.toNat_natCast,Nat.zero_add,l0,e2,y9,y20,e1,g4,decide_false]
    refine hR _ _ (hΨ' _ _ false ?_ ⟨fun h=>(by cases h),fun h=>(by omega)⟩ ⟨?_,?_,?_,rfl⟩)
    ·simp only[gE,↓reduceIte,zA,reduceCtorEq,zE,zB,zC,zD,zF]
    ·simp only[gE,↓reduceIte,zA,reduceCtorEq,zE,zB,zC,zD,zF,r0]
    ·simp only[gE,↓reduceIte,zA,reduceCtorEq,zE,zB,zC,zD,zF,r1]
    ·simp only[gE,↓reduceIte,zA,reduceCtorEq,zE,zB,zC,zD,zF,r5]
  ·have e2:(P.bs b==2)=false:=by simpa using h2
   have hm':m=0:=by unfold PH.span at hm;rw[if_neg h2] at hm;omega
   simp only[gE,↓reduceIte,zA,reduceCtorEq,zE,zB,zC,zD,zF,r0,r1,r5,H.l0,g1,g2,and_self,aJ,Int.toNat_natCast,Nat.zero_add,l0,e2,y9,y20]
   refine hR _ _ (hΨ' _ _ false ?_ ⟨fun h=>(by cases h),fun h=>(by omega)⟩ ⟨?_,?_,?_,rfl⟩)
   ·simp only[gE,↓reduceIte,zA,reduceCtorEq,zE,zB,zC,zD,zF]
   ·simp only[gE,↓reduceIte,zA,reduceCtorEq,zE,zB,zC,zD,zF,r0]
   ·simp only[gE,↓reduceIte,zA,reduceCtorEq,zE,zB,zC,zD,zF,r1]
   ·simp only[gE,↓reduceIte,zA,reduceCtorEq,zE,zB,zC,zD,zF,r5]
 ·rintro j a' s' hj ⟨r0,r1,r5,rfl⟩ Ψ' h1 h2 h3
  simp only[gE,↓reduceIte,zA,reduceCtorEq,zE,zB,zC,zD,zF,r5]
  refine h1 _ _ ⟨?_,?_,?_,rfl⟩
  ·simp only[gE,↓reduceIte,zA,reduceCtorEq,zE,zB,zC,zD,zF,r0]
  ·simp only[gE,↓reduceIte,zA,reduceCtorEq,zE,zB,zC,zD,zF,r1]
  ·simp only[gE,↓reduceIte,zA,reduceCtorEq,zE,zB,zC,zD,zF]
   rw[aR (by omega) (by omega)]
   congr 1 <;> omega
 ·rintro a' s' ⟨r0,r1,r5,rfl⟩
  refine hΨ3e _ _ (hΨ2 _ _ ?_)
  simp only[gE,↓reduceIte,zA,reduceCtorEq,zE,zB,zC,zD,zF,r5]
  rw[Nat.add_comm 1 m]
  exact hΦ
 ·refine⟨?_,?_,?_,rfl⟩
  ·simp only[gE,↓reduceIte,zA,reduceCtorEq,zE,zB,zC,zD,zF]
  ·simp only[gE,↓reduceIte,zA,reduceCtorEq,zE,zB,zC,zD,zF]
  ·simp only[gE,↓reduceIte,zA,reduceCtorEq,zE,zB,zC,zD,zF]
   rfl
theorem vi {P:PH} {a but:Int} {n j:Nat} {o:Int} (hj:j<n) (hf:P.find (a+2*j)=some o) (ho:o≠but):P.HL a but n=true:=by
 unfold PH.HL
 rw[List.any_eq_true]
 exact⟨j,List.mem_range.2 hj,by rw[hf];simpa using ho⟩
theorem nu {P:PH} {a but:Int} {n:Nat} (h:∀ (k:Nat) o,k<n→P.find (a+2*k)=some o→o=but):P.HL a but n=false:=by
 unfold PH.HL
 rw[List.any_eq_false]
 intro k hk
 cases hf:P.find (a+2*k) with
 | none=>simp
 | some o=>simp[h k o (List.mem_range.1 hk) hf]
theorem aZ:type_of% (An @RX<|An @cE<|An @cY<|An @cO<|An @iO<|An @nD<|An @sU<|An @tI<|@bF):=An @RX<|An @cE<|An @cY<|An @cO<|An @iO<|An @nD<|An @sU<|An @tI<|@bF
theorem nc (hs:Ok s) (H:aP s h P) (a words but:Int) (ha:i64 a) (hw0:0<words) (hw1:words≤300) (hΦ:∀ s',aC [] s s'→Φ (int (P.nA a words but)) s'):okF q X (KO kc) 169 [ptr h,int a,int words,int but] s Φ:=by
 have iJ:=H.iJ
 unfold PH.nA at hΦ
 refine aG rfl fn_169 rfl (rs:=[.tmp 8]) rfl (N:=96) rfl rfl ?_
 refine aA fun Ψ0 hΨ0 hΨ0'=>?_
 simp only[aZ,↓reduceIte,zA,reduceCtorEq,zE,zB,zC,zD,zF]
 refine hΨ0 _ _ ?_
 refine aA fun Ψ1 hΨ1 hΨ1'=>?_
 refine aA fun Ψ2 hΨ2 hΨ2'=>?_
 refine aH [(2,15),(11,24)] (by kernel_rfl) fun O hO ΨR hR=>?_
 have y2:∀ a,aE O a 2=aM (a.aD 15):=hO (2,15) (by simp)
 have y11:∀ a,aE O a 11=aM (a.aD 24):=hO (11,24) (by simp)
 by_cases h0:a<0
 ·rw[if_pos (.inl h0)] at hΦ
  simp only[aZ,↓reduceIte,zA,reduceCtorEq,zE,zB,zC,zD,zF,y2,y11,h0,decide_true]
  refine hR _ _ (hΨ2 _ _ ?_)
  simp only[aZ,↓reduceIte,zA,reduceCtorEq,zE,zB,zC,zD,zF]
  refine hΨ1' _ _ _ (by simp) ?_
  simp only[aZ,↓reduceIte,zA,reduceCtorEq,zE,zB,zC,zD,zF]
  exact hΦ _ (.refl hs)
 by_cases h1:a≥((64*P.N:Nat):Int)
 ·rw[if_pos (.inr (.inl (by omega)))] at hΦ
  simp only[aZ,↓reduceIte,zA,reduceCtorEq,zE,zB,zC,zD,zF,y2,y11,h0,H.l1,h1,decide_true,decide_false]
  refine hR _ _ (hΨ2 _ _ ?_)
  simp only[aZ,↓reduceIte,zA,reduceCtorEq,zE,zB,zC,zD,zF]
  refine hΨ1' _ _ _ (by simp) ?_
  simp only[aZ,↓reduceIte,zA,reduceCtorEq,zE,zB,zC,zD,zF]
  exact hΦ _ (.refl hs)
 have t2:a.tmod 2=a%2:=Int.tmod_eq_emod_of_nonneg (by omega)
 by_cases h2:a%2=0
 rotate_left
 ·have e2:(a%2==0)=false:=by simpa using h2
  rw[if_pos (.inr (.inr h2))] at hΦ
  simp only[aZ,↓reduceIte,zA,reduceCtorEq,zE,zB,zC,zD,zF,y2,y11,h0,H.l1,h1,decide_false,t2,e2]
  refine hR _ _ (hΨ2 _ _ ?_)
  simp only[aZ,↓reduceIte,zA,reduceCtorEq,zE,zB,zC,zD,zF]
  refine hΨ1' _ _ _ (by simp) ?_
  simp only[aZ,↓reduceIte,zA,reduceCtorEq,zE,zB,zC,zD,zF]
  exact hΦ _ (.refl hs)
 have e2:(a%2==0)=true:=by simpa using h2
 rw[if_neg (by omega)] at hΦ
 simp only[aZ,↓reduceIte,zA,reduceCtorEq,zE,zB,zC,zD,zF,y2,y11,h0,H.l1,h1,decide_false,t2,e2]
 refine hR _ _ (hΨ2 _ _ ?_)
 simp only[aZ,↓reduceIte,zA,reduceCtorEq,zE,zB,zC,zD,zF]
 refine hΨ1 _ _ ?_
 have t64:IntKind.i64.wrap (a.tdiv 64)=a/64:=by rw[Int.tdiv_eq_ediv_of_nonneg (by omega),aR (by omega) (by omega)]
 have m64:a.tmod 64=a%64:=Int.tmod_eq_emod_of_nonneg (by omega)
 refine aA fun Ψ3 hΨ3 hΨ3'=>?_
 simp only[aZ,↓reduceIte,zA,reduceCtorEq,zE,zB,zC,zD,zF,t64]
 refine hΨ3 _ _ ?_
 have g1:0≤a/64:=by omega
 have g2:a/64<(P.N:Int):=by omega
 have lb:=H.lb (i:=(a/64).toNat) (by omega)
 have key:∀ s',aC [] s s'→∀ c:Prop,((if words≤32 then P.bs (a/64).toNat≠1∨(a+words-1)/64≠a/64 else P.bs (a/64).toNat≠2∨a%64≠0∨(P.span (a/64).toNat:Int)≠(words+63)/64)↔c)→(c→Φ (int 5) s')∧(¬ c→∀ s',aC [] s s'→Φ (int (if P.HL a but ((words+1)/2).toNat=true then 8 else 0)) s'):=by
  intro s' hk c hc
  refine⟨fun h=>?_,fun h s' hk=>?_⟩
  ·have:=hΦ s' hk
   rw[if_pos (hc.2 h)] at this;exact this
  ·have:=hΦ s' hk
   rw[if_neg (fun h'=>h (hc.1 h'))] at this;exact this
 clear hΦ
 refine aA fun Ψ4 hΨ4 hΨ4'=>?_
 refine aA fun Ψ5 hΨ5 hΨ5'=>?_
 simp only[aZ,↓reduceIte,zA,reduceCtorEq,zE,zB,zC,zD,zF]
 refine hΨ5 _ _ ?_
 have rest:∀ (a':bD),(∀ s',aC [] s s'→Φ (int (if P.HL a but ((words+1)/2).toNat=true then 8 else 0)) s')→a'.aD 0=ptr h→a'.aD 1=int a→a'.aD 2=int words→a'.aD 3=int but→Ψ4 .normal a' s:=by
  intro a' hf r0 r1 r2 r3
  refine hΨ4 _ _ ?_
  have w1:IntKind.i64.wrap (a+words)=a+words:=aR (by omega) (by omega)
  refine aA fun Ψ6 hΨ6 hΨ6'=>?_
  refine aA fun Ψ7 hΨ7 hΨ7'=>?_
  simp only[aZ,↓reduceIte,zA,reduceCtorEq,zE,zB,zC,zD,zF,r1]
  refine hΨ7 _ _ ?_
  refine aL fun Ψ8 hΨ8 hΨ8e hΨ8'=>?_
  refine fY (n:=((words+1)/2).toNat) (fun j a' s'=>a'.aD 0=ptr h∧a'.aD 1=int a∧a'.aD 2=int words∧a'.aD 3=int but∧a'.aD 10=int (a+2*j)∧aC [] s s'∧∀ (k:Nat) o,k<j→P.find (a+2*k)=some o→o=but)
   (fun j a' s'=>a'.aD 0=ptr h∧a'.aD 1=int a∧a'.aD 2=int words∧a'.aD 3=int but∧a'.aD 10=int (a+2*j)∧aC [] s s'∧∀ (k:Nat) o,k<j+1→P.find (a+2*k)=some o→o=but) ?_ ?_ ?_ ?_ (Nat.zero_le _) ?_
  ·rintro j a2 s2 hj ⟨r0,r1,r2,r3,r10,k2,hn⟩ Ψ' hΨ'
   simp only[aZ,↓reduceIte,zA,reduceCtorEq,zE,zB,zC,zD,zF,r0,r1,r2,r3,r10,w1]
   refine hΨ' _ _ (decide (a+2*(j:Int)<a+words)) ?_ (by rw[decide_eq_true_eq];omega) ⟨?_,?_,?_,?_,?_,k2,hn⟩
   all_goals simp only[aZ,↓reduceIte,zA,reduceCtorEq,zE,zB,zC,zD,zF,r0,r1,r2,r3,r10]
  ·rintro j a2 s2 hj ⟨r0,r1,r2,r3,r10,k2,hn⟩ Ψ' h1 h2 h3
   refine aA fun Ψ9 hΨ9 hΨ9'=>?_
   simp only[aZ,↓reduceIte,zA,reduceCtorEq,zE,zB,zC,zD,zF,r0,r10]
   refine aB ?_ (xX k2.ok (H.aN k2) (a+2*(j:Int)) fun s3 k3=>?_)
   ·simp only[aZ,↓reduceIte,zA,reduceCtorEq,zE,zB,zC,zD,zF,r0,r10]
   have k23:=k2.trans k3
   cases hf':P.find (a+2*(j:Int)) with
   | none =>
    unfold MX
    simp only[aZ,↓reduceIte,zA,reduceCtorEq,zE,zB,zC,zD,zF]
    refine hΨ9 _ _ ?_
    refine aA fun Ψ10 hΨ10 hΨ10'=>?_
    refine aH [(2,91)] (by kernel_rfl) fun O hO ΨR hR=>?_
    have y2:∀ a,aE O a 2=aM (a.aD 91):=hO (2,91) (by simp)
    simp only[aZ,↓reduceIte,zA,reduceCtorEq,zE,zB,zC,zD,zF,y2]
    refine hR _ _ (hΨ10 _ _ ?_)
    simp only[aZ,↓reduceIte,zA,reduceCtorEq,zE,zB,zC,zD,zF]
    refine h1 _ _ ⟨?_,?_,?_,?_,?_,k23,fun k o hk ho=>?_⟩
    ·simp only[aZ,↓reduceIte,zA,reduceCtorEq,zE,zB,zC,zD,zF,r0]
    ·simp only[aZ,↓reduceIte,zA,reduceCtorEq,zE,zB,zC,zD,zF,r1]
    ·simp only[aZ,↓reduceIte,zA,reduceCtorEq,zE,zB,zC,zD,zF,r2]
    ·simp only[aZ,↓reduceIte,zA,reduceCtorEq,zE,zB,zC,zD,zF,r3]
    ·simp only[aZ,↓reduceIte,zA,reduceCtorEq,zE,zB,zC,zD,zF,r10]
    ·rcases Nat.lt_or_ge k j with h | h
     ·exact hn k o h ho
     ·obtain rfl:k=j:=by omega
      rw[hf'] at ho;cases ho
   | some o =>
    unfold MX
    by_cases hob:o=but
    ·have e3:(o==but)=true:=by simpa using hob
     simp only[aZ,↓reduceIte,zA,reduceCtorEq,zE,zB,zC,zD,zF]
     refine hΨ9 _ _ ?_
     refine aA fun Ψ10 hΨ10 hΨ10'=>?_
     refine aH [(2,91)] (by kernel_rfl) fun O hO ΨR hR=>?_
     have y2:∀ a,aE O a 2=aM (a.aD 91):=hO (2,91) (by simp)
     simp only[aZ,↓reduceIte,zA,reduceCtorEq,zE,zB,zC,zD,zF,y2,r3,e3]
     refine hR _ _ (hΨ10 _ _ ?_)
     simp only[aZ,↓reduceIte,zA,reduceCtorEq,zE,zB,zC,zD,zF]
     refine h1 _ _ ⟨?_,?_,?_,?_,?_,k23,fun k o' hk ho=>?_⟩
     ·simp only[aZ,↓reduceIte,zA,reduceCtorEq,zE,zB,zC,zD,zF,r0]
     ·simp only[aZ,↓reduceIte,zA,reduceCtorEq,zE,zB,zC,zD,zF,r1]
     ·simp only[aZ,↓reduceIte,zA,reduceCtorEq,zE,zB,zC,zD,zF,r2]
     ·simp only[aZ,↓reduceIte,zA,reduceCtorEq,zE,zB,zC,zD,zF,r3]
     ·simp only[aZ,↓reduceIte,zA,reduceCtorEq,zE,zB,zC,zD,zF,r10]
     ·rcases Nat.lt_or_ge k j with h | h
      ·exact hn k o' h ho
      ·obtain rfl:k=j:=by omega
       rw[hf'] at ho;cases ho;exact hob
    ·have e3:(o==but)=false:=by simpa using hob
     simp only[aZ,↓reduceIte,zA,reduceCtorEq,zE,zB,zC,zD,zF]
     refine hΨ9 _ _ ?_
     refine aA fun Ψ10 hΨ10 hΨ10'=>?_
     refine aH [(2,91)] (by kernel_rfl) fun O hO ΨR hR=>?_
     have y2:∀ a,aE O a 2=aM (a.aD 91):=hO (2,91) (by simp)
     simp only[aZ,↓reduceIte,zA,reduceCtorEq,zE,zB,zC,zD,zF,y2,r3,e3]
     refine hR _ _ (hΨ10 _ _ ?_)
     simp only[aZ,↓reduceIte,zA,reduceCtorEq,zE,zB,zC,zD,zF]
     refine h3 _ _ _ (by simp) (by simp) (hΨ8' _ _ _ (by simp) (by simp) (hΨ6' _ _ _ (by simp) ?_))
     simp only[aZ,↓reduceIte,zA,reduceCtorEq,zE,zB,zC,zD,zF]
     have:=hf _ k23
     rw[if_pos (vi hj hf' hob)] at this
     exact this
  ·rintro j a2 s2 hj ⟨r0,r1,r2,r3,r10,k2,hn⟩ Ψ' h1
   simp only[aZ,↓reduceIte,zA,reduceCtorEq,zE,zB,zC,zD,zF,r10]
   refine h1 _ _ ⟨?_,?_,?_,?_,?_,k2,hn⟩
   ·simp only[aZ,↓reduceIte,zA,reduceCtorEq,zE,zB,zC,zD,zF,r0]
   ·simp only[aZ,↓reduceIte,zA,reduceCtorEq,zE,zB,zC,zD,zF,r1]
   ·simp only[aZ,↓reduceIte,zA,reduceCtorEq,zE,zB,zC,zD,zF,r2]
   ·simp only[aZ,↓reduceIte,zA,reduceCtorEq,zE,zB,zC,zD,zF,r3]
   ·simp only[aZ,↓reduceIte,zA,reduceCtorEq,zE,zB,zC,zD,zF]
    rw[aR (n:=a+2*(j:Int)+2) (by omega) (by omega)]
    omega
  ·rintro a2 s2 ⟨r0,r1,r2,r3,r10,k2,hn⟩
   refine hΨ8e _ _ (hΨ6 _ _ ?_)
   simp only[aZ,↓reduceIte,zA,reduceCtorEq,zE,zB,zC,zD,zF]
   have:=hf _ k2
   rw[if_neg (by rw[nu hn];simp)] at this
   exact this
  ·refine⟨?_,?_,?_,?_,?_,.refl hs,fun k o hk=>absurd hk (Nat.not_lt_zero k)⟩
   ·simp only[aZ,↓reduceIte,zA,reduceCtorEq,zE,zB,zC,zD,zF,r0]
   ·simp only[aZ,↓reduceIte,zA,reduceCtorEq,zE,zB,zC,zD,zF,r1]
   ·simp only[aZ,↓reduceIte,zA,reduceCtorEq,zE,zB,zC,zD,zF,r2]
   ·simp only[aZ,↓reduceIte,zA,reduceCtorEq,zE,zB,zC,zD,zF,r3]
   ·simp only[aZ,↓reduceIte,zA,reduceCtorEq,zE,zB,zC,zD,zF]
    congr 1;omega
 by_cases hsm:words≤32
 ·have c1:=key s (.refl hs)
  simp only[bE,RV,RG,↓reduceIte,zA,reduceCtorEq,zE,zB,zC,zD,zF,hsm,decide_true]
  refine aA fun Ψ6 hΨ6 hΨ6'=>?_
  refine aH [(9,42)] (by kernel_rfl) fun O hO ΨR hR=>?_
  have y9:∀ a,aE O a 9=aM (a.aD 42):=hO (9,42) (by simp)
  by_cases b1:P.bs (a/64).toNat=1
  ·have eb:(P.bs (a/64).toNat==1)=true:=by simpa using b1
   have w1:IntKind.i64.wrap (a+words)=a+words:=aR (by omega) (by omega)
   have w2:IntKind.i64.wrap (a+words-1)=a+words-1:=aR (by omega) (by omega)
   have w3:IntKind.i64.wrap ((a+words-1).tdiv 64)=(a+words-1)/64:=by rw[Int.tdiv_eq_ediv_of_nonneg (by omega),aR (by omega) (by omega)]
   by_cases b2:(a+words-1)/64=a/64
   ·have eb2:((a+words-1)/64==a/64)=true:=by simpa using b2
    simp only[aZ,↓reduceIte,zA,reduceCtorEq,zE,zB,zC,zD,zF,y9,H.l0,g1,g2,and_self,aJ,Nat.zero_add,lb,eb,w1,w2,w3,eb2]
    refine hR _ _ (hΨ6 _ _ ?_)
    simp only[aZ,↓reduceIte,zA,reduceCtorEq,zE,zB,zC,zD,zF]
    refine rest _ ((c1 False (by rw[if_pos hsm];simp[b1,b2])).2 id) ?_ ?_ ?_ ?_
    all_goals simp only[aZ,↓reduceIte,zA,reduceCtorEq,zE,zB,zC,zD,zF]
   ·have eb2:((a+words-1)/64==a/64)=false:=by simpa using b2
    simp only[aZ,↓reduceIte,zA,reduceCtorEq,zE,zB,zC,zD,zF,y9,H.l0,g1,g2,and_self,aJ,Nat.zero_add,lb,eb,w1,w2,w3,eb2]
    refine hR _ _ (hΨ6 _ _ ?_)
    simp only[aZ,↓reduceIte,zA,reduceCtorEq,zE,zB,zC,zD,zF]
    refine hΨ4' _ _ _ (by simp) ?_
    simp only[aZ,↓reduceIte,zA,reduceCtorEq,zE,zB,zC,zD,zF]
    exact(c1 True (by rw[if_pos hsm];simp[b1,b2])).1 trivial
  ·have eb:(P.bs (a/64).toNat==1)=false:=by simpa using b1
   simp only[aZ,↓reduceIte,zA,reduceCtorEq,zE,zB,zC,zD,zF,y9,H.l0,g1,g2,and_self,aJ,Nat.zero_add,lb,eb]
   refine hR _ _ (hΨ6 _ _ ?_)
   simp only[aZ,↓reduceIte,zA,reduceCtorEq,zE,zB,zC,zD,zF]
   refine hΨ4' _ _ _ (by simp) ?_
   simp only[aZ,↓reduceIte,zA,reduceCtorEq,zE,zB,zC,zD,zF]
   exact(c1 True (by rw[if_pos hsm];simp[b1])).1 trivial
 ·have c1:=key s (.refl hs)
  simp only[bE,RV,RG,↓reduceIte,zA,reduceCtorEq,zE,zB,zC,zD,zF,hsm,decide_false]
  refine aA fun Ψ6 hΨ6 hΨ6'=>?_
  refine aH [(9,60),(14,65)] (by kernel_rfl) fun O hO ΨR hR=>?_
  have y9:∀ a,aE O a 9=aM (a.aD 60):=hO (9,60) (by simp)
  have y14:∀ a,aE O a 14=aM (a.aD 65):=hO (14,65) (by simp)
  by_cases b1:P.bs (a/64).toNat=2
  rotate_left
  ·have eb:(P.bs (a/64).toNat==2)=false:=by simpa using b1
   simp only[aZ,↓reduceIte,zA,reduceCtorEq,zE,zB,zC,zD,zF,y9,y14,H.l0,g1,g2,and_self,aJ,Nat.zero_add,lb,eb]
   refine hR _ _ (hΨ6 _ _ ?_)
   simp only[aZ,↓reduceIte,zA,reduceCtorEq,zE,zB,zC,zD,zF]
   refine hΨ4' _ _ _ (by simp) ?_
   simp only[aZ,↓reduceIte,zA,reduceCtorEq,zE,zB,zC,zD,zF]
   exact(c1 True (by rw[if_neg hsm];simp[b1])).1 trivial
  have eb:(P.bs (a/64).toNat==2)=true:=by simpa using b1
  by_cases b2:a%64=0
  rotate_left
  ·have eb2:(a%64==0)=false:=by simpa using b2
   simp only[aZ,↓reduceIte,zA,reduceCtorEq,zE,zB,zC,zD,zF,y9,y14,H.l0,g1,g2,and_self,aJ,Nat.zero_add,lb,eb,m64,eb2]
   refine hR _ _ (hΨ6 _ _ ?_)
   simp only[aZ,↓reduceIte,zA,reduceCtorEq,zE,zB,zC,zD,zF]
   refine hΨ4' _ _ _ (by simp) ?_
   simp only[aZ,↓reduceIte,zA,reduceCtorEq,zE,zB,zC,zD,zF]
   exact(c1 True (by rw[if_neg hsm];simp[b2])).1 trivial
  have eb2:(a%64==0)=true:=by simpa using b2
  have w1:IntKind.i64.wrap (words+64)=words+64:=aR (by omega) (by omega)
  have w2:IntKind.i64.wrap (words+64-1)=words+63:=by rw[aR (by omega) (by omega)];omega
  have w3:IntKind.i64.wrap ((words+63).tdiv 64)=(words+63)/64:=by rw[Int.tdiv_eq_ediv_of_nonneg (by omega),aR (by omega) (by omega)]
  have hbt:((a/64).toNat:Int)=a/64:=by omega
  simp only[aZ,↓reduceIte,zA,reduceCtorEq,zE,zB,zC,zD,zF,y9,y14,H.l0,g1,g2,and_self,aJ,Nat.zero_add,lb,eb,m64,eb2]
  refine aB ?_ (nf hs H (b:=(a/64).toNat) (by omega) ?_)
  ·simp only[aZ,↓reduceIte,zA,reduceCtorEq,zE,zB,zC,zD,zF,hbt]
  by_cases b3:(P.span (a/64).toNat:Int)=(words+63)/64
  ·have eb3:((P.span (a/64).toNat:Int)==(words+63)/64)=true:=by simpa using b3
   simp only[aZ,↓reduceIte,zA,reduceCtorEq,zE,zB,zC,zD,zF,y14,w1,w2,w3,eb3]
   refine hR _ _ (hΨ6 _ _ ?_)
   simp only[aZ,↓reduceIte,zA,reduceCtorEq,zE,zB,zC,zD,zF]
   refine rest _ ((c1 False (by rw[if_neg hsm];simp[b1,b2,b3])).2 id) ?_ ?_ ?_ ?_
   all_goals simp only[aZ,↓reduceIte,zA,reduceCtorEq,zE,zB,zC,zD,zF]
  ·have eb3:((P.span (a/64).toNat:Int)==(words+63)/64)=false:=by simpa using b3
   simp only[aZ,↓reduceIte,zA,reduceCtorEq,zE,zB,zC,zD,zF,y14,w1,w2,w3,eb3]
   refine hR _ _ (hΨ6 _ _ ?_)
   simp only[aZ,↓reduceIte,zA,reduceCtorEq,zE,zB,zC,zD,zF]
   refine hΨ4' _ _ _ (by simp) ?_
   simp only[aZ,↓reduceIte,zA,reduceCtorEq,zE,zB,zC,zD,zF]
   exact(c1 True (by rw[if_neg hsm];simp[b3])).1 trivial
end
open Go.Proofs
set_option maxRecDepth 100000
set_option maxHeartbeats 1000000
namespace PH
variable (P:PH)
def place (a:Int) (x:iV):PH:={P with w:=(fun j=>if j=(a+1).toNat then x.num else if j=a.toNat then((P.born:Int)+1) else P.w j),S:=qS P.S (a/2).toNat 1,M:=P.M++[((P.born:Int)+1,a)],born:=P.born+1}
def mJ (a:Int) (x:iV):Int:=if x.valid=true then P.nA a x.words (-1) else 2
theorem uo {P:PH} {a n b:Int} (h:P.nA a n b=0):0≤a∧a<64*P.N∧a%2=0:=by
 unfold nA at h
 split at h
 ·cases h
 ·omega
end PH
section
variable {kc:Kc} {q:Bool} {s:St} {Φ:Value→St→Prop} {h:Nat} {P:PH}
theorem aP.SQ {s s':St} {n:Nat} (H:aP s h P) (k:aC [h] s s') (hc:Obj s' h [.slice (some ⟨P.nb,0,none⟩) P.N P.N,.slice (some ⟨P.nw,0,none⟩) (64*P.N) (64*P.N),ptr P.st,ptr P.pt,.map (some P.mp),.map (some P.mf),int n]):aP s' h {P with born:=n}:=by
 obtain⟨⟨a1,a2,a3,a4,a5,a6,a7,a8⟩,_⟩:=H.nds
 obtain⟨c,cb,cw,ts,tp,mp,mf,nd,n2,iJ,wr⟩:=H
 exact⟨hc,cb.aF k (by simp[Ne.symm a1]),cw.aF k (by simp[Ne.symm a2]),ts.aF k (by simp[Ne.symm a3]) (by simp[Ne.symm a4]),tp.aF k (by simp[Ne.symm a5]) (by simp[Ne.symm a6]),mp.aF k (by simp[Ne.symm a7]),mf.aF k (by simp[Ne.symm a8]),nd,n2,iJ,wr⟩
theorem aP.putM (hs:Ok s) (H:aP s h P) {k a:Int} (hl:P.M.lookup k=none):∃ s',gM X s 136 (.map (some P.mp)) (int k) (int a)=some s'∧aP s' h {P with M:=P.M++[(k,a)]}∧aC [P.mp] s s':=by
 obtain⟨es,cM,dF,h1,h2,h2b⟩:=H.mp
 rw[ar,h1]
 simp only
 rw[rD h2 (by rw[JY,hl];rfl)]
 have kk:aC [P.mp] s (s.put P.mp fun v=>.map (es++[⟨int k,int a,cM⟩]) (cM+1) v):=.uU hs h1 (.inr (Nat.le_refl _)) (List.mem_singleton.2 rfl)
 refine⟨_,rfl,H.setM kk ⟨es++[⟨int k,int a,cM⟩],cM+1,s.cM,by simp only[St.put,PT.bU,if_true],?_,TY h2b⟩,kk⟩
 rw[List.map_append,List.map_append,List.map_append,h2]
 rfl
theorem iX:type_of% (An @RX<|An @gV<|An @JE<|An @bF<|An @rV<|An @cE<|An @cY<|An @dO<|An @jQ<|An @qC<|An @rC<|An @AL<|@ar):=An @RX<|An @gV<|An @JE<|An @bF<|An @rV<|An @cE<|An @cY<|An @dO<|An @jQ<|An @qC<|An @rC<|An @AL<|@ar
theorem ZM (hs:Ok s) (H:aP s h P) (a:Int) (ha:i64 a) (x:iV) (hb:P.born<1000000000) (hl:P.M.lookup ((P.born:Int)+1)=none)
  (hΦ:∀ s',aP s' h (if P.mJ a x=0 then P.place a x else P)→aC [h,P.nw,P.su,P.mp] s s'→Φ (.tuple #[int (if P.mJ a x=0 then(P.born:Int)+1 else 0),int (P.mJ a x)]) s'):okF q X (KO kc) 80 [ptr h,int a,jL x] s Φ:=by
 have iJ:=H.iJ
 unfold PH.mJ at hΦ
 refine aG rfl fn_80 rfl (rs:=[.tmp 6,.tmp 7]) rfl (N:=71) rfl rfl ?_
 refine aA fun Ψ0 hΨ0 hΨ0'=>?_
 simp only[iX,↓reduceIte,zA,reduceCtorEq,zE,zB,zC,zD,zF]
 obtain⟨s1,e1,k1,c1,_⟩:=aT hs (L:=[int x.r,int x.d,int x.k]) (n:=3) (e:=44) rfl
 rw[e1]
 refine hΨ0 _ _ ?_
 have l3:=c1.aS (i:=0) (k:=3) (Nat.le_refl _)
 have H1:=H.aN k1
 refine aA fun Ψ1 hΨ1 hΨ1'=>?_
 refine aL fun Ψ2 hΨ2 hΨ2e hΨ2'=>?_
 refine aA fun Ψ3 hΨ3 hΨ3'=>?_
 simp only[iX,↓reduceIte,zA,reduceCtorEq,zE,zB,zC,zD,zF]
 refine aB ?_ (jT H1 ?_)
 ·simp only[iX,↓reduceIte,zA,reduceCtorEq,zE,zB,zC,zD,zF]
 try simp only[iX,↓reduceIte,zA,reduceCtorEq,zE,zB,zC,zD,zF]
 refine hΨ3 _ _ ?_
 simp only[bE,RV,RG,↓reduceIte,zA,reduceCtorEq,zE,zB,zC,zD,zF]
 refine aA fun Ψ4 hΨ4 hΨ4'=>?_
 simp only[iX,↓reduceIte,zA,reduceCtorEq,zE,zB,zC,zD,zF,l3,List.drop_zero,List.take]
 refine aB ?_ (JM k1.ok x fun s2 k2=>?_)
 ·simp only[iX,↓reduceIte,zA,reduceCtorEq,zE,zB,zC,zD,zF]
 have k12:=k1.trans k2
 have H2:=H.aN k12
 have c2:=c1.aF k2 (by simp)
 have l4:=c2.aS (i:=0) (k:=3) (Nat.le_refl _)
 try simp only[iX,↓reduceIte,zA,reduceCtorEq,zE,zB,zC,zD,zF]
 refine hΨ4 _ _ ?_
 cases hv:x.valid with
 | false =>
  rw[hv] at hΦ
  simp only[iX,↓reduceIte,zA,reduceCtorEq,zE,zB,zC,zD,zF]
  refine hΨ2' _ _ _ (by simp) (by simp) (hΨ1' _ _ _ (by simp) ?_)
  simp only[iX,↓reduceIte,zA,reduceCtorEq,zE,zB,zC,zD,zF]
  exact hΦ _ H2 k12.any
 | true =>
  rw[hv] at hΦ
  simp only[if_true] at hΦ
  have hw:=iV.eD hv
  have hw':=iV.nU x
  simp only[iX,↓reduceIte,zA,reduceCtorEq,zE,zB,zC,zD,zF]
  refine hΨ2 _ _ (hΨ1 _ _ ?_)
  refine aA fun Ψ5 hΨ5 hΨ5'=>?_
  refine aA fun Ψ6 hΨ6 hΨ6'=>?_
  simp only[iX,↓reduceIte,zA,reduceCtorEq,zE,zB,zC,zD,zF,l4,List.drop_zero,List.take]
  refine aB ?_ (JN k2.ok x fun s3 k3=>?_)
  ·simp only[iX,↓reduceIte,zA,reduceCtorEq,zE,zB,zC,zD,zF]
  have k13:=k12.trans k3
  have H3:=H.aN k13
  try simp only[iX,↓reduceIte,zA,reduceCtorEq,zE,zB,zC,zD,zF]
  refine aB ?_ (nc k3.ok H3 a x.words (-1) ha (by omega) (by omega) fun s4 k4=>?_)
  ·simp only[iX,↓reduceIte,zA,reduceCtorEq,zE,zB,zC,zD,zF]
  have k14:=k13.trans k4
  have H4:=H.aN k14
  have c4:=c2.aF (k3.trans k4) (by simp)
  try simp only[iX,↓reduceIte,zA,reduceCtorEq,zE,zB,zC,zD,zF]
  refine hΨ6 _ _ ?_
  by_cases he:P.nA a x.words (-1)=0
  rotate_left
  ·have hb':(P.nA a x.words (-1)==0)=false:=by simpa using he
   rw[if_neg he,if_neg he] at hΦ
   refine aA fun Ψ7 hΨ7 hΨ7'=>?_
   simp only[iX,↓reduceIte,zA,reduceCtorEq,zE,zB,zC,zD,zF,hb']
   refine hΨ7 _ _ ?_
   simp only[iX,↓reduceIte,zA,reduceCtorEq,zE,zB,zC,zD,zF]
   refine hΨ5' _ _ _ (by simp) ?_
   simp only[iX,↓reduceIte,zA,reduceCtorEq,zE,zB,zC,zD,zF]
   exact hΦ _ H4 k14.any
  obtain⟨g1,g2,g3⟩:=PH.uo he
  rw[if_pos he,if_pos he,he] at hΦ
  rw[he]
  refine aA fun Ψ7 hΨ7 hΨ7'=>?_
  simp only[iX,↓reduceIte,zA,reduceCtorEq,zE,zB,zC,zD,zF]
  refine hΨ7 _ _ ?_
  simp only[iX,↓reduceIte,zA,reduceCtorEq,zE,zB,zC,zD,zF]
  refine hΨ5 _ _ ?_
  have w1:IntKind.i64.wrap ((P.born:Int)+1)=((P.born+1:Nat):Int):=by rw[aR (by omega) (by omega)];rfl
  obtain⟨s5,h5,c5,k5⟩:=H4.c.dU k4.ok (i:=6) (v:=int ((P.born+1:Nat):Int)) (by simp) rfl
  have H5:aP s5 h {P with born:=P.born+1}:=H4.SQ k5 c5
  have hnh:s.next≠h:=fun e=>by have:=H.c.lt hs;omega
  have c5':=c4.aF k5 (by simpa using hnh)
  refine aA fun Ψ8 hΨ8 hΨ8'=>?_
  simp only[iX,↓reduceIte,zA,reduceCtorEq,zE,zB,zC,zD,zF,H4.l6,w1,h5]
  refine hΨ8 _ _ ?_
  have q1:a<((64*P.N:Nat):Int):=by omega
  have q2:IntKind.i64.wrap (a+1)=a+1:=aR (by omega) (by omega)
  have q3:0≤a+1:=by omega
  have q4:a+1<((64*P.N:Nat):Int):=by omega
  have l5:=c5'.aS (i:=0) (k:=3) (Nat.le_refl _)
  have hl1:aI s5.look ⟨h,1,none⟩=some (.slice (some ⟨P.nw,0,none⟩) (64*P.N) (64*P.N)):=H5.l1
  have hl6:aI s5.look ⟨h,6,none⟩=some (int ((P.born+1:Nat):Int)):=H5.l6
  refine aA fun Ψ9 hΨ9 hΨ9'=>?_
  refine aQ [(3,16),(8,16),(14,16)] [h] [] (by kernel_rfl) (by kernel_rfl) (by rfl) fun O hO ΨR hR=>?_
  simp only[iX,↓reduceIte,zA,reduceCtorEq,zE,zB,zC,zD,zF,hl1,hl6,q2,l5,List.drop_zero,List.take]
  refine aW ?_ (VN (k5.ok.skip _) x hv fun s6 k6=>?_)
  ·simp only[iX,↓reduceIte,zA,reduceCtorEq,zE,zB,zC,zD,zF]
  have k56:aC [] s5 s6:=(aC.skip k5.ok 42).trans k6
  have H6:=H5.aN k56
  have hnum:i64 x.num:=by
   have:=iV.dX.1 hv
   unfold iV.num
   constructor <;> omega
  obtain⟨s7,h7,H7,k7⟩:=H6.SZ k6.ok (i:=a) (v:=((P.born+1:Nat):Int)) g1 (by show a<64*(P.N:Int);omega) ⟨by omega,by omega⟩
  obtain⟨s8,h8,H8,k8⟩:=H7.SZ k7.ok (i:=a+1) (v:=x.num) q3 (by show a+1<64*(P.N:Int);omega) hnum
  have h7':bJ s6 ⟨P.nw,a.toNat,none⟩ [int ((P.born+1:Nat):Int)]=some s7:=h7
  have h8':bJ s7 ⟨P.nw,(a+1).toNat,none⟩ [int x.num]=some s8:=h8
  simp only[iX,↓reduceIte,zA,reduceCtorEq,zE,zB,zC,zD,zF,g1,q1,q3,q4,and_self,aJ,Nat.zero_add,Nat.mul_one,h7',h8']
  refine⟨aV (H5.c.same k5.ok k56 (by simp)) bR,hR _ _ (hΨ9 _ _ ?_)⟩
  have e2:IntKind.i64.wrap (a.tdiv 2)=a/2:=by rw[Int.tdiv_eq_ediv_of_nonneg (by omega),aR (by omega) (by omega)]
  have hl2:aI s8.look ⟨h,2,none⟩=some (ptr P.st):=H8.l2
  refine aA fun Ψ10 hΨ10 hΨ10'=>?_
  simp only[iX,↓reduceIte,zA,reduceCtorEq,zE,zB,zC,zD,zF,hl2,e2]
  refine aB ?_ (DA (i:=a/2) (v:=1) k8.ok H8.ts (i':=(a/2).toNat) (v':=1) (by omega) rfl (show (a/2).toNat<32*P.N by omega) (by omega) fun s9 h9 k9=>?_)
  ·simp only[iX,↓reduceIte,zA,reduceCtorEq,zE,zB,zC,zD,zF,PH.gG]
  have H9:=H8.setS k9 h9
  try simp only[iX,↓reduceIte,zA,reduceCtorEq,zE,zB,zC,zD,zF]
  refine hΨ10 _ _ ?_
  have k9s:aC [] s9 (s9.skip 20):=.skip k9.ok _
  obtain⟨s10,h10,H10,k10⟩:=(H9.aN k9s).putM k9s.ok (k:=((P.born+1:Nat):Int)) (a:=a) hl
  have h10':gM X (s9.skip 20) 136 (.map (some P.mp)) (int ((P.born+1:Nat):Int)) (int a)=some s10:=h10
  have hl4:aI s9.look ⟨h,4,none⟩=some (.map (some P.mp)):=H9.l4
  have hl6':aI s9.look ⟨h,6,none⟩=some (int ((P.born+1:Nat):Int)):=H9.l6
  refine aA fun Ψ11 hΨ11 hΨ11'=>?_
  refine aQ [] [] [] (by kernel_rfl) (by kernel_rfl) (by rfl) fun O hO ΨR hR=>?_
  simp only[RC,RO,RD,RV,RB,RG,rC,AL,JE,bF,↓reduceIte,zA,reduceCtorEq,zE,zB,zC,zD,zF,hl4,hl6',h10']
  refine hR _ _ (hΨ11 _ _ ?_)
  have hl6'':aI s10.look ⟨h,6,none⟩=some (int ((P.born+1:Nat):Int)):=H10.l6
  simp only[iX,↓reduceIte,zA,reduceCtorEq,zE,zB,zC,zD,zF,hl6'']
  have kk:aC [h,P.nw,P.su,P.mp] s s10:=by
   have p1:aC [h,P.nw,P.su,P.mp] s s5:=k14.any.trans (k5.mono (by simp))
   have p2:aC [h,P.nw,P.su,P.mp] s5 s8:=k56.any.trans ((k7.mono (by intro y hy;rw[List.mem_singleton.1 hy];simp)).trans (k8.mono (by intro y hy;rw[List.mem_singleton.1 hy];simp[PH.gG])))
   have p3:aC [h,P.nw,P.su,P.mp] s8 s10:=(k9.mono (by intro y hy;rw[List.mem_singleton.1 hy];simp[PH.gG])).trans (k9s.any.trans (k10.mono (by intro y hy;rw[List.mem_singleton.1 hy];simp[PH.gG])))
   exact(p1.trans p2).trans p3
  exact hΦ _ H10 kk
end
open Go.Proofs
set_option maxRecDepth 100000
set_option maxHeartbeats 1000000
theorem gZ {s:St} {x y:Nat} {f:Nat→bX} (h:y≠x):(s.put x f).heap.get y=s.heap.get y:=by
 simp only[St.put,PT.bU,if_neg h]
theorem Obj.lK {s:St} {b x:Nat} {L:List Value} {f:Nat→bX} (h:Obj s b L) (hx:b≠x):Obj (s.put x f) b L:=by
 obtain⟨e,c,z,room,dF,h1,h2⟩:=h
 exact⟨e,c,z,room,dF,by rw[gZ hx];exact h1,h2⟩
theorem fW.lK {s:St} {b x:Nat} {M:List (Int×Value)} {f:Nat→bX} (h:fW s b M) (hx:b≠x):fW (s.put x f) b M:=by
 obtain⟨es,cM,dF,h1,h2⟩:=h
 exact⟨es,cM,dF,by rw[gZ hx];exact h1,h2⟩
theorem Obj.pQ {s:St} {x e n:Nat} {L:List Value} {room:Bool} (hn:L.length=n):Obj (s.put x fun v=>.cells (PT.ofList L) [] n e room false v) x L:=by
 subst hn
 exact⟨_,Cells.pQ⟩
theorem fW.pQ {s:St} {x:Nat}:fW (s.put x fun v=>.map [] 0 v) x []:=⟨[],0,s.cM,by simp only[St.put,PT.bU,if_true],rfl,fun _ h=>(by cases h)⟩
theorem Obj.kY {s:St} {x e n m:Nat} {z:List Value} {L:List Value} (hz:z.length=m) (hL:L.length=n*m) (h:∀ i,i<n*m→L[i]?=some (z.getD (i%m) undef)):Obj (s.put x fun v=>.cells .nil z (n*m) e false false v) x L:=by
 subst hz
 have:=Cells.kY (s:=s) (x:=x) (e:=e) (z:=z) (n:=n)
 rw[show ((List.range (n*z.length)).map fun i=>z.getD (i%z.length) undef)=L from ?_] at this
 ·exact⟨_,this⟩
 ·apply List.ext_getElem?
  intro i
  by_cases hi:i<n*z.length
  ·rw[h i hi,List.getElem?_map,List.getElem?_range hi];rfl
  ·rw[List.getElem?_eq_none (by simp;omega),List.getElem?_eq_none (by omega)]
theorem aC.eX {F:List Nat} {a s:St} (k:aC F a s) {x:Nat} {f:Nat→bX} (hx:s.heap.get x=Option.none) (gU:x<s.next) (hge:a.next≤x) (hf:(f s.cM).dF≤s.cM):aC F a (s.put x f):=k.iy hx gU hge (.inr hf)
structure PH.Empty (P:PH) (n:Nat):Prop where
 N:P.N=n
 bs:P.bs=fun _=>0
 bp:P.bp=fun _=>0
 w:P.w=fun _=>0
 S:P.S=fun _=>0
 Q:P.Q=fun _=>0
 M:P.M=[]
 born:P.born=0
section
variable {kc:Kc} {q:Bool} {s:St} {Φ:Value→St→Prop} {h:Nat} {P:PH}
theorem xA:type_of% (An @RX<|An @xq<|An @vV<|An @cE<|An @cY<|An @cO<|An @jQ<|An @st_68<|@tG):=An @RX<|An @xq<|An @vV<|An @cE<|An @cY<|An @cO<|An @jQ<|An @st_68<|@tG
theorem ve (hs:Ok s) {n:Int} {n':Nat} (hn:n=n') (h2:2≤n') (h64:n'≤64) (hΦ:∀ s' h P,aP s' h P→P.Empty n'→(∀ x∈P.aU h,s.next≤x)→aC [] s s'→Φ (.tuple #[ptr h,int 0]) s'):okF q X (KO kc) 50 [int n] s Φ:=by
 subst hn
 have d0:¬ (n':Int)<2:=by omega
 have d1:¬ (n':Int)>64:=by omega
 have e1:IntKind.i64.wrap ((n':Int)*64)=((64*n':Nat):Int):=by rw[aR (by omega) (by omega)];omega
 refine aG rfl fn_50 rfl (rs:=[.tmp 2,.tmp 3]) rfl (N:=47) rfl rfl ?_
 refine aA fun Ψ0 hΨ0 hΨ0'=>?_
 simp only[xA,↓reduceIte,zA,reduceCtorEq,zE,zB,zC,zD,zF]
 refine hΨ0 _ _ ?_
 refine aA fun Ψ1 hΨ1 hΨ1'=>?_
 refine aA fun Ψ2 hΨ2 hΨ2'=>?_
 refine aH [(2,7)] (by kernel_rfl) fun O hO ΨR hR=>?_
 have y2:∀ a,aE O a 2=aM (a.aD 7):=hO (2,7) (by simp)
 simp only[xA,↓reduceIte,zA,reduceCtorEq,zE,zB,zC,zD,zF,y2,d0,d1,decide_false]
 refine hR _ _ (hΨ2 _ _ ?_)
 simp only[xA,↓reduceIte,zA,reduceCtorEq,zE,zB,zC,zD,zF]
 refine hΨ1 _ _ ?_
 refine aA fun Ψ3 hΨ3 hΨ3'=>?_
 refine aQ [] [] [] (by kernel_rfl) (by kernel_rfl) (by rfl) fun O hO ΨR hR=>?_
 simp only[xA,↓reduceIte,zA,reduceCtorEq,zE,zB,zC,zD,zF,mk_135 (nm:=s.next+2) (n:=(n':Int)) (m:=(n':Int)) (by omega) (by omega) (by omega) (by omega),e1,FR (nm:=s.next+8) (n:=((64*n':Nat):Int)) (m:=((64*n':Nat):Int)) (by omega) (by omega) (by omega) (by omega),Int.toNat_natCast]
 refine hR _ _ (hΨ3 _ _ ?_)
 have fr:∀ x,s.next≤x→s.heap.get x=none:=hs.fresh
 obtain⟨S1,h1,k1,c1,n1,f1⟩:∃ S1,(s.skip 20).put (s.next+2) (fun v=>bX.cells PT.nil [Value.int IntKind.i64 0,Value.int IntKind.i64 0] (n'*2) 198 false false v)=S1∧aC [] s S1∧Obj S1 (s.next+2) (row (2*n') fun _=>int 0)∧S1.next=s.next+20∧∀ x,s.next≤x→x≠s.next+2→S1.heap.get x=none :=
  ⟨_,rfl,(aC.skip hs 20).eX (fr _ (by omega)) (by show s.next+2<s.next+20;omega) (by omega) (Nat.le_refl _),Obj.kY rfl (by rw[bI];omega) (fun i hi=>by
   rw[fB _ (by omega)]
   rcases Nat.mod_two_eq_zero_or_one i with h | h <;> rw[h] <;> rfl),rfl,fun x hx hne=>by rw[gZ hne];exact fr x hx⟩
 rw[h1]
 obtain⟨S2,h2,k2,c2,c21,n2,f2⟩:∃ S2,S1.put (s.next+8) (fun v=>bX.cells PT.nil [Value.int IntKind.i64 0] (64*n'*1) 3 false false v)=S2∧aC [] s S2∧Obj S2 (s.next+8) (row (64*n') fun _=>int 0)∧Obj S2 (s.next+2) (row (2*n') fun _=>int 0)∧S2.next=s.next+20∧∀ x,s.next≤x→x≠s.next+2→x≠s.next+8→S2.heap.get x=none :=
  ⟨_,rfl,k1.eX (f1 _ (by omega) (by omega)) (by omega) (by omega) (Nat.le_refl _),Obj.kY rfl (by rw[bI];omega) (fun i hi=>by
   rw[fB _ (by omega),Nat.mod_one];rfl),c1.lK (by omega),n1,fun x hx hne hne'=>by rw[gZ hne'];exact f1 x hx hne⟩
 rw[h2]
 obtain⟨S3,h3,k3,c3,c31,c32,n3,f3⟩:∃ S3,S2.put (s.next+10) (fun v=>bX.map [] 0 v)=S3∧aC [] s S3∧fW S3 (s.next+10) []∧Obj S3 (s.next+2) (row (2*n') fun _=>int 0)∧Obj S3 (s.next+8) (row (64*n') fun _=>int 0)∧S3.next=s.next+20∧∀ x,s.next≤x→x≠s.next+2→x≠s.next+8→x≠s.next+10→S3.heap.get x=none :=
  ⟨_,rfl,k2.eX (f2 _ (by omega) (by omega) (by omega)) (by omega) (by omega) (Nat.le_refl _),fW.pQ,c21.lK (by omega),c2.lK (by omega),n2,fun x hx a b c=>by rw[gZ c];exact f2 x hx a b⟩
 rw[h3]
 obtain⟨S4,h4,k4,c4,c41,c42,c43,n4,f4⟩:∃ S4,S3.put (s.next+12) (fun v=>bX.map [] 0 v)=S4∧aC [] s S4∧fW S4 (s.next+12) []∧Obj S4 (s.next+2) (row (2*n') fun _=>int 0)∧Obj S4 (s.next+8) (row (64*n') fun _=>int 0)∧fW S4 (s.next+10) []∧S4.next=s.next+20∧∀ x,s.next≤x→x≠s.next+2→x≠s.next+8→x≠s.next+10→x≠s.next+12→S4.heap.get x=none :=
  ⟨_,rfl,k3.eX (f3 _ (by omega) (by omega) (by omega) (by omega)) (by omega) (by omega) (Nat.le_refl _),fW.pQ,c31.lK (by omega),c32.lK (by omega),c3.lK (by omega),n3,fun x hx a b c d=>by rw[gZ d];exact f3 x hx a b c⟩
 rw[h4]
 obtain⟨S5,h5,k5,c5,c51,c52,c53,c54,n5⟩:∃ S5,S4.put (s.next+16) (fun v=>bX.cells (PT.ofList [Value.slice (some ⟨s.next+2,0,none⟩) n' n',Value.slice (some ⟨s.next+8,0,none⟩) (64*n') (64*n'),Value.pointer none,Value.pointer none,Value.map (some (s.next+10)),Value.map (some (s.next+12)),Value.int IntKind.i64 0]) [] 7 138 false false v)=S5∧aC [] s S5 ∧
   Obj S5 (s.next+16) [Value.slice (some ⟨s.next+2,0,none⟩) n' n',Value.slice (some ⟨s.next+8,0,none⟩) (64*n') (64*n'),Value.pointer none,Value.pointer none,Value.map (some (s.next+10)),Value.map (some (s.next+12)),Value.int IntKind.i64 0]∧Obj S5 (s.next+2) (row (2*n') fun _=>int 0)∧Obj S5 (s.next+8) (row (64*n') fun _=>int 0)∧fW S5 (s.next+10) []∧fW S5 (s.next+12) []∧S5.next=s.next+20 :=
  ⟨_,rfl,k4.eX (f4 _ (by omega) (by omega) (by omega) (by omega) (by omega)) (by omega) (by omega) (Nat.le_refl _),Obj.pQ rfl,c41.lK (by omega),c42.lK (by omega),c43.lK (by omega),c4.lK (by omega),n4⟩
 rw[h5]
 clear h1 h2 h3 h4 h5 f1 f2 f3 f4
 have w1:IntKind.i64.wrap (((64*n':Nat):Int).tdiv 2)=((32*n':Nat):Int):=by
  rw[Int.tdiv_eq_ediv_of_nonneg (by omega),aR (by omega) (by omega)];omega
 have l1:aI S5.look ⟨s.next+16,1,none⟩=some (Value.slice (some ⟨s.next+8,0,none⟩) (64*n') (64*n')):=c5.load rfl
 refine aA fun Ψ4 hΨ4 hΨ4'=>?_
 simp only[xA,↓reduceIte,zA,reduceCtorEq,zE,zB,zC,zD,zF,l1,w1,Nat.zero_add]
 refine aB ?_ (XP k5.ok (n:=((32*n':Nat):Int)) (w:=1) (n':=32*n') (w':=1) rfl rfl (by omega) (by omega) (.inl rfl) fun S6 st su hst hsu ht k6=>?_)
 ·simp only[xA,↓reduceIte,zA,reduceCtorEq,zE,zB,zC,zD,zF]
 obtain⟨S7,h7,c7,k7⟩:=(c5.aF k6 (by simp)).dU k6.ok (i:=2) (v:=ptr st) (by simp) rfl
 have n16:s.next+16∉([]:List Nat):=by simp
 have lt16:=c5.lt k5.ok
 simp only[xA,↓reduceIte,zA,reduceCtorEq,zE,zB,zC,zD,zF,h7,Nat.zero_add]
 refine hΨ4 _ _ ?_
 have k67:=k6.any (G:=[s.next+16]) |>.trans k7
 have k57:aC [] s S7:=k5.step k67 fun g hg=>.inr (by rw[List.mem_singleton.1 hg];exact fr _ (by omega))
 have ht7:=ht.aF k7 (by simp;omega) (by simp;omega)
 have l7:aI S7.look ⟨s.next+16,1,none⟩=some (Value.slice (some ⟨s.next+8,0,none⟩) (64*n') (64*n')):=c7.load rfl
 refine aA fun Ψ5 hΨ5 hΨ5'=>?_
 simp only[xA,↓reduceIte,zA,reduceCtorEq,zE,zB,zC,zD,zF,l7,w1,Nat.zero_add]
 refine aB ?_ (XP k7.ok (n:=((32*n':Nat):Int)) (w:=1) (n':=32*n') (w':=1) rfl rfl (by omega) (by omega) (.inl rfl) fun S8 pt pu hpt hpu hp k8=>?_)
 ·simp only[xA,↓reduceIte,zA,reduceCtorEq,zE,zB,zC,zD,zF]
 obtain⟨S9,h9,c9,k9⟩:=(c7.aF k8 (by simp)).dU k8.ok (i:=3) (v:=ptr pt) (by simp) rfl
 have nx7:=k67.next
 have lts:=ht7.c.lt k7.ok
 obtain⟨U,hU,_⟩:=ht7.ws
 have ltu:=hU.lt k7.ok
 simp only[xA,↓reduceIte,zA,reduceCtorEq,zE,zB,zC,zD,zF,h9,Nat.zero_add]
 refine hΨ5 _ _ ?_
 have k79:=k8.any (G:=[s.next+16]) |>.trans k9
 have k59:=k67.trans k79
 have k09:aC [] s S9:=k57.step k79 fun g hg=>.inr (by rw[List.mem_singleton.1 hg];exact fr _ (by omega))
 simp only[xA,↓reduceIte,zA,reduceCtorEq,zE,zB,zC,zD,zF]
 refine hΦ S9 (s.next+16) ⟨s.next+2,s.next+8,st,su,pt,pu,s.next+10,s.next+12,n',fun _=>0,fun _=>0,fun _=>0,fun _=>0,fun _=>0,[],0⟩ ⟨c9,?_,c52.aF k59 (by simp),ht7.aF k79 (by simp;omega) (by simp;omega),hp.aF k9 (by simp;omega) (by simp;omega),c53.aF k59 (by simp),c54.aF k59 (by simp),?_,h2,h64,fun i=>⟨by simp,by simp⟩⟩ ⟨rfl,rfl,rfl,rfl,rfl,rfl,rfl,rfl⟩ ?_ k09
 ·have:=c51.aF k59 (by simp)
  simp only[ite_self]
  exact this
 ·have:=ht.ne
  have:=hp.ne
  simp only[List.nodup_cons,List.mem_cons,List.not_mem_nil,or_false,not_or,List.nodup_nil,not_false_eq_true,and_true]
  omega
 ·intro x hx
  simp only[PH.aU,List.mem_cons,List.not_mem_nil,or_false] at hx
  omega
end
end Go.Dust
