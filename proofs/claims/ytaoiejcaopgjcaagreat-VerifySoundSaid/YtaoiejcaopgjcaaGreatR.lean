/- VerifySound walked in D, function by function, and its plain law (C3 Pb). -/
import Derived.Test.YtaoiejcaopgjcaaGreatQ
import Derived.Test.YtaoiejcaopgjcaaGreatP
set_option linter.unusedVariables false
set_option linter.unusedSimpArgs false
open Nat renaming reduceEqDiff → zA, reduceMul → zB, reduceAdd → zC, reduceBEq → zD
open Int renaming reduceEq → zE, reduceBEq → zF
namespace Go.Dust
open Go.Proofs
set_option maxRecDepth 100000
section
variable {kc:Kc} {q:Bool} {s:St} {Φ:Value→St→Prop} {t u n w:Nat} {L:Nat→Nat}
theorem LZ:type_of% (An @RX<|@qC):=An @RX<|@qC
theorem XQ {x:Nat} (hx:aI s.look ⟨x,0,none⟩=some (ptr t)) (h:gS s t u n w L) (v:Int) (hΦ:Φ (.bool (!decide (0≤v∧v≤(2 ^ w-1:Nat)))) s):okF q X (KO kc) 207 [int v,ptr x] s Φ:=by
 refine aG rfl fn_207 rfl (rs:=[.tmp 3]) rfl (N:=8) rfl rfl ?_
 refine aA fun Ψ0 hΨ0 hΨ0'=>?_
 simp only[LZ,↓reduceIte,zA,reduceCtorEq,zE,zB,zC,zD,zF]
 refine hΨ0 _ _ ?_
 refine aA fun Ψ1 hΨ1 hΨ1'=>?_
 simp only[LZ,↓reduceIte,zA,reduceCtorEq,zE,zB,zC,zD,zF,hx]
 refine aB ?_ (bx h v ?_)
 ·simp only[LZ,↓reduceIte,zA,reduceCtorEq,zE,zB,zC,zD,zF]
 simp only[LZ,↓reduceIte,zA,reduceCtorEq,zE,zB,zC,zD,zF]
 refine hΨ1 _ _ ?_
 simp only[LZ,↓reduceIte,zA,reduceCtorEq,zE,zB,zC,zD,zF]
 exact hΦ
theorem lL:type_of% (An @RX<|@qC):=An @RX<|@qC
theorem bw (hs:Ok s) (h:gS s t u n w L) (i:Int) {a:Option Addr} {m c:Nat} {l:List Int} (hl:tR s (.slice a m c) l) (hn:∀ b∈nameOf (.slice a m c),b<s.next) (hm:m<2 ^ 40)
  (hΦ:∀ s',aC [] s s'→Φ (int (if (0≤i∧i<n)∧∀ v∈l,0≤v∧v≤(2 ^ w-1:Nat) then 0 else 1)) s'):okF q X (KO kc) 139 [ptr t,int i,.slice a m c] s Φ:=by
 refine aG rfl fn_139 rfl (rs:=[.tmp 6]) rfl (N:=21) rfl rfl ?_
 refine aA fun Ψ0 hΨ0 hΨ0'=>?_
 simp only[lL,↓reduceIte,zA,reduceCtorEq,zE,zB,zC,zD,zF]
 refine hΨ0 _ _ ?_
 have k0:aC [] s (s.new fun v=>.cells (PT.ofList [ptr t]) [] 1 68 false false v):=(aC.refl hs).new (.inr (Nat.le_refl _))
 have c0:Obj (s.new fun v=>.cells (PT.ofList [ptr t]) [] 1 68 false false v) s.next [ptr t]:=⟨_,Cells.uP (L:=[ptr t])⟩
 generalize (s.new fun v=>.cells (PT.ofList [ptr t]) [] 1 68 false false v)=s1 at k0 c0 ⊢
 have hx:aI s1.look ⟨s.next,0,none⟩=some (ptr t):=c0.load rfl
 have h1:=h.aF k0 (by simp) (by simp)
 refine aA fun Ψ1 hΨ1 hΨ1'=>?_
 refine aL fun Ψ2 hΨ2 hΨ2e hΨ2'=>?_
 refine aA fun Ψ3 hΨ3 hΨ3'=>?_
 simp only[lL,↓reduceIte,zA,reduceCtorEq,zE,zB,zC,zD,zF,hx]
 refine aB ?_ (yS h1 ?_)
 ·simp only[lL,↓reduceIte,zA,reduceCtorEq,zE,zB,zC,zD,zF]
 simp only[lL,↓reduceIte,zA,reduceCtorEq,zE,zB,zC,zD,zF]
 refine hΨ3 _ _ ?_
 simp only[bE,RV,RG,↓reduceIte,zA,reduceCtorEq,zE,zB,zC,zD,zF]
 refine aA fun Ψ4 hΨ4 hΨ4'=>?_
 refine aH [(4,16)] (by kernel_rfl) fun O hO ΨR hR=>?_
 have y4:∀ a,aE O a 4=aM (a.aD 16):=hO (4,16) (by simp)
 simp only[lL,↓reduceIte,zA,reduceCtorEq,zE,zB,zC,zD,zF,hx]
 refine aB ?_ (LN h1 i ?_)
 ·simp only[lL,↓reduceIte,zA,reduceCtorEq,zE,zB,zC,zD,zF]
 by_cases hi:0≤i∧i<(n:Int)
 ·simp only[lL,↓reduceIte,zA,reduceCtorEq,zE,zB,zC,zD,zF,y4,hi,and_self,decide_true,decide_false]
  refine aB ?_ (HB (f:=207) (ca:=#[ptr s.next]) (l:=l) (p:=fun v=>!decide (0≤v∧v≤(2 ^ w-1:Nat))) (Sl.aF hl k0 (by simp)) hm k0.ok ?_ fun s2 k2=>?_)
  ·simp only[lL,↓reduceIte,zA,reduceCtorEq,zE,zB,zC,zD,zF]
  ·intro v hv s2 Ψ' hk hΨ'
   exact XQ (cW hk (by simp) hx) (h1.aF hk (by simp) (by simp)) v (hΨ' _ (.refl hk.ok))
  try simp only[lL,↓reduceIte,zA,reduceCtorEq,zE,zB,zC,zD,zF,y4]
  refine hR _ _ ?_
  refine hΨ4 _ _ ?_
  cases ha:l.any (fun v=>!decide (0≤v∧v≤((2 ^ w-1:Nat):Int))) with
  | true =>
   simp only[lL,↓reduceIte,zA,reduceCtorEq,zE,zB,zC,zD,zF]
   refine hΨ2' _ _ _ (by simp) (by simp) (hΨ1' _ _ _ (by simp) ?_)
   simp only[lL,↓reduceIte,zA,reduceCtorEq,zE,zB,zC,zD,zF]
   have hno:¬ ∀ v∈l,0≤v∧v≤((2 ^ w-1:Nat):Int):=fun hall=>by
    obtain⟨v,hv,hp⟩:=List.any_eq_true.1 ha
    simp[hall v hv] at hp
   have:=hΦ s2 (k0.trans k2)
   rw[if_neg fun hh=>hno hh.2] at this
   exact this
  | false =>
   simp only[lL,↓reduceIte,zA,reduceCtorEq,zE,zB,zC,zD,zF]
   refine hΨ2 _ _ (hΨ1 _ _ ?_)
   simp only[lL,↓reduceIte,zA,reduceCtorEq,zE,zB,zC,zD,zF]
   have hall:∀ v∈l,0≤v∧v≤((2 ^ w-1:Nat):Int):=fun v hv=>by
    have:=List.any_eq_false.1 ha v hv
    simpa using this
   have:=hΦ s2 (k0.trans k2)
   rw[if_pos ⟨hi,hall⟩] at this
   exact this
 ·simp only[lL,↓reduceIte,zA,reduceCtorEq,zE,zB,zC,zD,zF,y4,hi,decide_false]
  refine hR _ _ ?_
  refine hΨ4 _ _ ?_
  simp only[lL,↓reduceIte,zA,reduceCtorEq,zE,zB,zC,zD,zF]
  refine hΨ2' _ _ _ (by simp) (by simp) (hΨ1' _ _ _ (by simp) ?_)
  simp only[lL,↓reduceIte,zA,reduceCtorEq,zE,zB,zC,zD,zF]
  have:=hΦ s1 k0
  rw[if_neg fun hh=>hi hh.1] at this
  exact this
theorem DF:type_of% (An @RX<|@eG):=An @RX<|@eG
theorem DA (hs:Ok s) (h:gS s t u n w L) {i v:Int} {i' v':Nat} (hi:i=i') (hv:v=v') (hi':i'<n) (hv':v'<2 ^ w)
  (hΦ:∀ s',gS s' t u n w (qS L i' v')→aC [u] s s'→Φ (int 0) s'):okF q X (KO kc) 49 [ptr t,int i,int v] s Φ:=by
 subst hi hv
 refine aG rfl fn_49 rfl (rs:=[.tmp 6]) rfl (N:=20) rfl rfl ?_
 refine aA fun Ψ0 hΨ0 hΨ0'=>?_
 simp only[DF,↓reduceIte,zA,reduceCtorEq,zE,zB,zC,zD,zF]
 refine hΨ0 _ _ ?_
 refine aA fun Ψ1 hΨ1 hΨ1'=>?_
 refine aA fun Ψ2 hΨ2 hΨ2'=>?_
 simp only[DF,↓reduceIte,zA,reduceCtorEq,zE,zB,zC,zD,zF]
 have k0:aC [] s (s.new fun x=>.cells (PT.ofList [int v']) [] 1 3 false false x):=(aC.refl hs).new (.inr (Nat.le_refl _))
 have c0:Obj (s.new fun x=>.cells (PT.ofList [int v']) [] 1 3 false false x) s.next [int v']:=⟨_,Cells.uP (L:=[int v'])⟩
 generalize (s.new fun x=>.cells (PT.ofList [int v']) [] 1 3 false false x)=s1 at k0 c0 ⊢
 refine aB ?_ (bw k0.ok (h.aF k0 (by simp) (by simp)) i' (a:=some ⟨s.next,0,none⟩) (m:=1) (c:=1) (l:=[(v':Int)]) (Obj.sl c0 rfl) (by intro b hb;simp[nameOf] at hb;subst hb;exact c0.lt k0.ok) (by omega) fun s2 k2=>?_)
 ·simp only[DF,↓reduceIte,zA,reduceCtorEq,zE,zB,zC,zD,zF]
 rw[if_pos ⟨⟨Int.natCast_nonneg _,by omega⟩,fun x hx=>by rw[List.mem_singleton.1 hx];omega⟩]
 try simp only[DF,↓reduceIte,zA,reduceCtorEq,zE,zB,zC,zD,zF]
 refine hΨ2 _ _ ?_
 simp only[DF,↓reduceIte,zA,reduceCtorEq,zE,zB,zC,zD,zF]
 refine hΨ1 _ _ ?_
 have k3:=k0.trans k2
 have h3:=h.aF k3 (by simp) (by simp)
 refine aA fun Ψ3 hΨ3 hΨ3'=>?_
 simp only[DF,↓reduceIte,zA,reduceCtorEq,zE,zB,zC,zD,zF]
 refine aB ?_ (zv k2.ok h3 hi' hv' fun s4 h4 k4=>?_)
 ·simp only[DF,↓reduceIte,zA,reduceCtorEq,zE,zB,zC,zD,zF]
 try simp only[DF,↓reduceIte,zA,reduceCtorEq,zE,zB,zC,zD,zF]
 refine hΨ3 _ _ ?_
 simp only[DF,↓reduceIte,zA,reduceCtorEq,zE,zB,zC,zD,zF]
 exact hΦ _ h4 (k3.any.trans k4)
theorem vP:type_of% (An @RC<|An @RO<|An @RD<|An @RV<|An @RB<|@RG):=An @RC<|An @RO<|An @RD<|An @RV<|An @RB<|@RG
theorem zu (hs:Ok s) (h:gS s t u n w L) (i:Int) (hΦ:∀ s',aC [] s s'→Φ (int (if 0≤i∧i<n then(L i.toNat:Int) else -1)) s'):okF q X (KO kc) 78 [ptr t,int i] s Φ:=by
 refine aG rfl fn_78 rfl (rs:=[.tmp 4]) rfl (N:=12) rfl rfl ?_
 refine aA fun Ψ0 hΨ0 hΨ0'=>?_
 simp only[vP,↓reduceIte,zA,reduceCtorEq,zE,zB,zC,zD,zF]
 refine hΨ0 _ _ ?_
 refine aA fun Ψ1 hΨ1 hΨ1'=>?_
 refine aA fun Ψ2 hΨ2 hΨ2'=>?_
 simp only[vP,↓reduceIte,zA,reduceCtorEq,zE,zB,zC,zD,zF]
 refine aB ?_ (LN h i ?_)
 ·simp only[vP,↓reduceIte,zA,reduceCtorEq,zE,zB,zC,zD,zF]
 by_cases hi:0≤i∧i<(n:Int)
 ·simp only[vP,↓reduceIte,zA,reduceCtorEq,zE,zB,zC,zD,zF,hi,and_self,decide_true]
  refine hΨ2 _ _ ?_
  simp only[vP,↓reduceIte,zA,reduceCtorEq,zE,zB,zC,zD,zF]
  refine hΨ1 _ _ ?_
  refine aA fun Ψ3 hΨ3 hΨ3'=>?_
  simp only[vP,↓reduceIte,zA,reduceCtorEq,zE,zB,zC,zD,zF]
  obtain⟨j,rfl⟩:∃ j:Nat,i=j:=⟨i.toNat,by omega⟩
  refine aB ?_ (LM hs h (i:=j) (by omega) fun s' k=>?_)
  ·simp only[vP,↓reduceIte,zA,reduceCtorEq,zE,zB,zC,zD,zF]
  try simp only[vP,↓reduceIte,zA,reduceCtorEq,zE,zB,zC,zD,zF]
  refine hΨ3 _ _ ?_
  simp only[vP,↓reduceIte,zA,reduceCtorEq,zE,zB,zC,zD,zF]
  have:=hΦ s' k
  rw[if_pos hi] at this
  exact this
 ·simp only[vP,↓reduceIte,zA,reduceCtorEq,zE,zB,zC,zD,zF,hi,decide_false]
  refine hΨ2 _ _ ?_
  simp only[vP,↓reduceIte,zA,reduceCtorEq,zE,zB,zC,zD,zF]
  refine hΨ1' _ _ _ (by simp) ?_
  simp only[vP,↓reduceIte,zA,reduceCtorEq,zE,zB,zC,zD,zF]
  have:=hΦ s (.refl hs)
  rw[if_neg hi] at this
  exact this
def pC (L:Nat→Nat) (v:Int):Nat→Option Nat
 | 0=>none
 | k+1=>if (L k:Int)=v then some k else pC L v k
theorem AK {L:Nat→Nat} {v:Int}:∀ {k j:Nat},j≤k→(∀ i,j≤i→i<k→¬ (L i:Int)=v)→pC L v k=pC L v j
 | 0,j,h,_=>by rw[Nat.le_zero.1 h]
 | k+1,j,h,hn=>by
  rcases Nat.lt_or_ge j (k+1) with h1 | h1
  ·rw[pC,if_neg (hn k (by omega) (by omega))]
   exact AK (by omega) fun i h2 h3=>hn i h2 (by omega)
  ·rw[show j=k+1 by omega]
theorem jE:type_of% (An @RX<|An @oY<|@bF):=An @RX<|An @oY<|@bF
theorem qk (hs:Ok s) (h:gS s t u n w L) (b v:Int) (hΦ:∀ s',aC [] s s'→Φ (match pC L v (min (max b 0) n).toNat with
  | some i=>.tuple #[int i,int 0]
  | none=>.tuple #[int 0,int 4]) s'):okF q X (KO kc) 82 [ptr t,int b,int v] s Φ:=by
 obtain⟨m,hm⟩:∃ m:Nat,min (max b 0) (n:Int)=m:=⟨(min (max b 0) n).toNat,by omega⟩
 have hmn:m≤n:=by omega
 have hn1:=h.n1
 rw[hm,Int.toNat_natCast] at hΦ
 refine aG rfl fn_82 rfl (rs:=[.tmp 6,.tmp 7]) rfl (N:=30) rfl rfl ?_
 refine aA fun Ψ0 hΨ0 hΨ0'=>?_
 simp only[jE,↓reduceIte,zA,reduceCtorEq,zE,zB,zC,zD,zF]
 refine hΨ0 _ _ ?_
 refine aA fun Ψ1 hΨ1 hΨ1'=>?_
 refine aA fun Ψ2 hΨ2 hΨ2'=>?_
 simp only[jE,↓reduceIte,zA,reduceCtorEq,zE,zB,zC,zD,zF]
 refine aB ?_ (yS h ?_)
 ·simp only[jE,↓reduceIte,zA,reduceCtorEq,zE,zB,zC,zD,zF]
 simp only[jE,↓reduceIte,zA,reduceCtorEq,zE,zB,zC,zD,zF]
 refine hΨ2 _ _ ?_
 simp only[jE,↓reduceIte,zA,reduceCtorEq,zE,zB,zC,zD,zF]
 refine hΨ1 _ _ ?_
 refine aA fun Ψ3 hΨ3 hΨ3'=>?_
 refine aA fun Ψ4 hΨ4 hΨ4'=>?_
 simp only[jE,↓reduceIte,zA,reduceCtorEq,zE,zB,zC,zD,zF,h.l0,hm]
 refine hΨ4 _ _ ?_
 refine aL fun Ψ5 hΨ5 hΨ5e hΨ5'=>?_
 rw[aR (n:=(m:Int)-1) (by omega) (by omega)]
 refine fY (n:=m) (fun j a' s'=>a'.aD 0=ptr t∧a'.aD 2=int v∧a'.aD 8=int (m-j-1)∧aC [] s s'∧∀ i,m-j≤i→i<m→¬ (L i:Int)=v)
  (fun j a' s'=>a'.aD 0=ptr t∧a'.aD 2=int v∧a'.aD 8=int (m-j-1)∧aC [] s s'∧∀ i,m-(j+1)≤i→i<m→¬ (L i:Int)=v) ?_ ?_ ?_ ?_ (Nat.zero_le m) ?_
 ·rintro j a' s' hj ⟨r0,r2,r8,hk,hn⟩ Ψ' hΨ'
  simp only[jE,↓reduceIte,zA,reduceCtorEq,zE,zB,zC,zD,zF,r8]
  refine hΨ' _ _ (decide ((m:Int)-j-1≥0)) ?_ (by rw[decide_eq_true_eq];omega) ⟨?_,?_,?_,hk,hn⟩
  all_goals simp only[jE,↓reduceIte,zA,reduceCtorEq,zE,zB,zC,zD,zF,r0,r2,r8]
 ·rintro j a' s' hj ⟨r0,r2,r8,hk,hn⟩ Ψ' h1 h2 h3
  have hjm:(m:Int)-j-1=((m-j-1:Nat):Int):=by omega
  refine aA fun Ψ6 hΨ6 hΨ6'=>?_
  simp only[jE,↓reduceIte,zA,reduceCtorEq,zE,zB,zC,zD,zF,r0,r8,hjm]
  refine aB ?_ (LM hk.ok (h.aF hk (by simp) (by simp)) (i:=m-j-1) (by omega) fun s2 k2=>?_)
  ·simp only[jE,↓reduceIte,zA,reduceCtorEq,zE,zB,zC,zD,zF]
  by_cases hv:(L (m-j-1):Int)=v
  ·simp only[jE,↓reduceIte,zA,reduceCtorEq,zE,zB,zC,zD,zF,r2,hv,beq_self_eq_true]
   refine hΨ6 _ _ ?_
   simp only[jE,↓reduceIte,zA,reduceCtorEq,zE,zB,zC,zD,zF,r8,hjm]
   refine h3 _ _ _ (by simp) (by simp) (hΨ5' _ _ _ (by simp) (by simp) (hΨ3' _ _ _ (by simp) ?_))
   simp only[jE,↓reduceIte,zA,reduceCtorEq,zE,zB,zC,zD,zF]
   have:=hΦ s2 (hk.trans k2)
   rw[AK (j:=m-j-1+1) (by omega) (fun i h1 h2=>hn i (by omega) h2),pC,if_pos hv] at this
   exact this
  ·have hv':((L (m-j-1):Int)==v)=false:=by simpa using hv
   simp only[jE,↓reduceIte,zA,reduceCtorEq,zE,zB,zC,zD,zF,r2,hv']
   refine hΨ6 _ _ ?_
   simp only[jE,↓reduceIte,zA,reduceCtorEq,zE,zB,zC,zD,zF]
   refine h1 _ _ ⟨?_,?_,?_,hk.trans k2,fun i h4 h5=>?_⟩
   ·simp only[jE,↓reduceIte,zA,reduceCtorEq,zE,zB,zC,zD,zF,r0]
   ·simp only[jE,↓reduceIte,zA,reduceCtorEq,zE,zB,zC,zD,zF,r2]
   ·simp only[jE,↓reduceIte,zA,reduceCtorEq,zE,zB,zC,zD,zF,r8]
   ·by_cases hi:i=m-j-1
    ·subst hi;exact hv
    ·exact hn i (by omega) h5
 ·rintro j a' s' hj ⟨r0,r2,r8,hk,hn⟩ Ψ' h1
  simp only[jE,↓reduceIte,zA,reduceCtorEq,zE,zB,zC,zD,zF,r8]
  refine h1 _ _ ⟨?_,?_,?_,hk,hn⟩
  ·simp only[jE,↓reduceIte,zA,reduceCtorEq,zE,zB,zC,zD,zF,r0]
  ·simp only[jE,↓reduceIte,zA,reduceCtorEq,zE,zB,zC,zD,zF,r2]
  ·simp only[jE,↓reduceIte,zA,reduceCtorEq,zE,zB,zC,zD,zF]
   rw[aR (by omega) (by omega)]
   congr 1 <;> omega
 ·rintro a' s' ⟨r0,r2,r8,hk,hn⟩
  refine hΨ5e _ _ (hΨ3 _ _ ?_)
  simp only[jE,↓reduceIte,zA,reduceCtorEq,zE,zB,zC,zD,zF]
  have:=hΦ s' hk
  rw[AK (j:=0) (Nat.zero_le _) (fun i h1 h2=>hn i (by omega) h2),pC] at this
  exact this
 ·refine⟨?_,?_,?_,.refl hs,fun i h1 h2=>by omega⟩
  ·simp only[jE,↓reduceIte,zA,reduceCtorEq,zE,zB,zC,zD,zF]
  ·simp only[jE,↓reduceIte,zA,reduceCtorEq,zE,zB,zC,zD,zF]
  ·simp only[jE,↓reduceIte,zA,reduceCtorEq,zE,zB,zC,zD,zF]
   congr 1 <;> omega
def pE (L:Nat→Nat) (v:Int) (k:Nat):Nat→Option Nat
 | 0=>none
 | d+1=>if (L k:Int)=v then some k else pE L v (k+1) d
theorem AN {L:Nat→Nat} {v:Int}:∀ {d k j:Nat},k≤j→j≤k+d→(∀ i,k≤i→i<j→¬ (L i:Int)=v)→pE L v k d=pE L v j (k+d-j)
 | 0,k,j,h1,h2,_=>by
  obtain rfl:j=k:=by omega
  rw[show j+0-j=0 by omega]
 | d+1,k,j,h1,h2,hn=>by
  by_cases h:j=k
  ·subst h
   rw[show j+(d+1)-j=d+1 by omega]
  ·rw[pE,if_neg (hn k (Nat.le_refl _) (by omega)),AN (d:=d) (k:=k+1) (j:=j) (by omega) (by omega) fun i h3 h4=>hn i (by omega) h4]
   congr 1 <;> omega
def nxA (o:Option Nat):Value:=match o with
 | some i=>int i
 | none=>int 0
def nxE (o:Option Nat):Value:=match o with
 | some _=>int 0
 | none=>int 4
theorem wJ (i:Nat):nxA (some i)=int i:=rfl
theorem wL (i:Nat):nxE (some i)=int 0:=rfl
theorem wI:nxA none=int 0:=rfl
theorem wK:nxE none=int 4:=rfl
theorem fO:type_of% (An @RX<|An @oY<|@bF):=An @RX<|An @oY<|@bF
theorem PA (hs:Ok s) (h:gS s t u n w L) (b v:Int) (hb:b≤1000000) (hΦ:∀ s',aC [] s s'→Φ (.tuple #[nxA (pE L v (max b 0).toNat (n-(max b 0).toNat)),nxE (pE L v (max b 0).toNat (n-(max b 0).toNat))]) s'):okF q X (KO kc) 218 [ptr t,int b,int v] s Φ:=by
 obtain⟨m,hm⟩:∃ m:Nat,max b 0=(m:Int):=⟨(max b 0).toNat,by omega⟩
 have hm1:m≤1000000:=by omega
 have hn1:=h.n1
 rw[hm,Int.toNat_natCast] at hΦ
 refine aG rfl fn_218 rfl (rs:=[.tmp 6,.tmp 7]) rfl (N:=28) rfl rfl ?_
 refine aA fun Ψ0 hΨ0 hΨ0'=>?_
 simp only[fO,↓reduceIte,zA,reduceCtorEq,zE,zB,zC,zD,zF]
 refine hΨ0 _ _ ?_
 refine aA fun Ψ1 hΨ1 hΨ1'=>?_
 refine aA fun Ψ2 hΨ2 hΨ2'=>?_
 simp only[fO,↓reduceIte,zA,reduceCtorEq,zE,zB,zC,zD,zF]
 refine aB ?_ (yS h ?_)
 ·simp only[fO,↓reduceIte,zA,reduceCtorEq,zE,zB,zC,zD,zF]
 simp only[fO,↓reduceIte,zA,reduceCtorEq,zE,zB,zC,zD,zF]
 refine hΨ2 _ _ ?_
 simp only[fO,↓reduceIte,zA,reduceCtorEq,zE,zB,zC,zD,zF]
 refine hΨ1 _ _ ?_
 refine aA fun Ψ3 hΨ3 hΨ3'=>?_
 refine aA fun Ψ4 hΨ4 hΨ4'=>?_
 simp only[fO,↓reduceIte,zA,reduceCtorEq,zE,zB,zC,zD,zF,hm]
 refine hΨ4 _ _ ?_
 refine aL fun Ψ5 hΨ5 hΨ5e hΨ5'=>?_
 refine fY (n:=n-m) (fun j a' s'=>a'.aD 0=ptr t∧a'.aD 2=int v∧a'.aD 8=int (m+j:Nat)∧aC [] s s'∧∀ i,m≤i→i<m+j→¬ (L i:Int)=v)
  (fun j a' s'=>a'.aD 0=ptr t∧a'.aD 2=int v∧a'.aD 8=int (m+j:Nat)∧aC [] s s'∧∀ i,m≤i→i<m+(j+1)→¬ (L i:Int)=v) ?_ ?_ ?_ ?_ (Nat.zero_le (n-m)) ?_
 ·rintro j a' s' hj ⟨r0,r2,r8,hk,hn⟩ Ψ' hΨ'
  simp only[fO,↓reduceIte,zA,reduceCtorEq,zE,zB,zC,zD,zF,r8,r0,(h.aF hk (by simp) (by simp)).l0]
  refine hΨ' _ _ (decide (((m+j:Nat):Int)<n)) ?_ (by rw[decide_eq_true_eq];omega) ⟨?_,?_,?_,hk,hn⟩
  all_goals simp only[fO,↓reduceIte,zA,reduceCtorEq,zE,zB,zC,zD,zF,r0,r2,r8]
 ·rintro j a' s' hj ⟨r0,r2,r8,hk,hn⟩ Ψ' h1 h2 h3
  refine aA fun Ψ6 hΨ6 hΨ6'=>?_
  simp only[fO,↓reduceIte,zA,reduceCtorEq,zE,zB,zC,zD,zF,r0,r8]
  refine aB ?_ (LM hk.ok (h.aF hk (by simp) (by simp)) (i:=m+j) (by omega) fun s2 k2=>?_)
  ·simp only[fO,↓reduceIte,zA,reduceCtorEq,zE,zB,zC,zD,zF]
  by_cases hv:(L (m+j):Int)=v
  ·simp only[fO,↓reduceIte,zA,reduceCtorEq,zE,zB,zC,zD,zF,r2,hv,beq_self_eq_true]
   refine hΨ6 _ _ ?_
   simp only[fO,↓reduceIte,zA,reduceCtorEq,zE,zB,zC,zD,zF,r8]
   refine h3 _ _ _ (by simp) (by simp) (hΨ5' _ _ _ (by simp) (by simp) (hΨ3' _ _ _ (by simp) ?_))
   simp only[fO,↓reduceIte,zA,reduceCtorEq,zE,zB,zC,zD,zF]
   have:=hΦ s2 (hk.trans k2)
   rw[AN (j:=m+j) (by omega) (by omega) (fun i h1 h2=>hn i h1 h2),show m+(n-m)-(m+j)=(n-m-j-1)+1 by omega,pE,if_pos hv] at this
   exact this
  ·have hv':((L (m+j):Int)==v)=false:=by simpa using hv
   simp only[fO,↓reduceIte,zA,reduceCtorEq,zE,zB,zC,zD,zF,r2,hv']
   refine hΨ6 _ _ ?_
   simp only[fO,↓reduceIte,zA,reduceCtorEq,zE,zB,zC,zD,zF]
   refine h1 _ _ ⟨?_,?_,?_,hk.trans k2,fun i h4 h5=>?_⟩
   ·simp only[fO,↓reduceIte,zA,reduceCtorEq,zE,zB,zC,zD,zF,r0]
   ·simp only[fO,↓reduceIte,zA,reduceCtorEq,zE,zB,zC,zD,zF,r2]
   ·simp only[fO,↓reduceIte,zA,reduceCtorEq,zE,zB,zC,zD,zF,r8]
   ·by_cases hi:i=m+j
    ·subst hi;exact hv
    ·exact hn i h4 (by omega)
 ·rintro j a' s' hj ⟨r0,r2,r8,hk,hn⟩ Ψ' h1
  simp only[fO,↓reduceIte,zA,reduceCtorEq,zE,zB,zC,zD,zF,r8]
  refine h1 _ _ ⟨?_,?_,?_,hk,hn⟩
  ·simp only[fO,↓reduceIte,zA,reduceCtorEq,zE,zB,zC,zD,zF,r0]
  ·simp only[fO,↓reduceIte,zA,reduceCtorEq,zE,zB,zC,zD,zF,r2]
  ·simp only[fO,↓reduceIte,zA,reduceCtorEq,zE,zB,zC,zD,zF]
   rw[aR (by omega) (by omega)]
   congr 1
 ·rintro a' s' ⟨r0,r2,r8,hk,hn⟩
  refine hΨ5e _ _ (hΨ3 _ _ ?_)
  simp only[fO,↓reduceIte,zA,reduceCtorEq,zE,zB,zC,zD,zF]
  have:=hΦ s' hk
  rw[AN (j:=m+(n-m)) (by omega) (by omega) (fun i h1 h2=>hn i h1 h2),show m+(n-m)-(m+(n-m))=0 by omega,pE] at this
  exact this
 ·refine⟨?_,?_,?_,.refl hs,fun i h1 h2=>by omega⟩
  ·simp only[fO,↓reduceIte,zA,reduceCtorEq,zE,zB,zC,zD,zF]
  ·simp only[fO,↓reduceIte,zA,reduceCtorEq,zE,zB,zC,zD,zF]
  ·simp only[fO,↓reduceIte,zA,reduceCtorEq,zE,zB,zC,zD,zF]
   congr 1
theorem tk (sh w:Nat):tf 0 sh w=0:=by simp[tf]
theorem aAj {k:IntKind} (n:Nat):((List.range (n*[Value.int k 0].length)).map fun i=>[Value.int k 0].getD (i % [Value.int k 0].length) undef)=(List.replicate n 0).map fun(x:Nat)=>Value.int k (x:Int):=by
 rw[List.map_replicate]
 apply List.ext_getElem?
 intro i
 simp only[List.length_singleton,Nat.mul_one,List.getElem?_map,List.getElem?_replicate]
 by_cases h:i<n
 ·rw[List.getElem?_range h,if_pos h,Option.map_some,Nat.mod_one];rfl
 ·rw[if_neg h,List.getElem?_eq_none (by simp;omega)];rfl
theorem PN:type_of% (An @RX<|An @mP<|@BD):=An @RX<|An @mP<|@BD
theorem XP (hs:Ok s) {n w:Int} {n' w':Nat} (hn:n=n') (hw:w=w') (h0:0<n') (h1:n'≤4096) (hw1:w'=1∨w'=2∨w'=4∨w'=8)
  (hΦ:∀ s' t u,s.next≤t→s.next≤u→gS s' t u n' w' (fun _=>0)→aC [] s s'→Φ (.tuple #[ptr t,int 0]) s'):okF q X (KO kc) 98 [int n,int w] s Φ:=by
 subst hn hw
 have d0:¬ (n':Int)<1:=by omega
 have d1:¬ (n':Int)>4096:=by omega
 have hw8:w'≤8:=by omega
 refine aG rfl fn_98 rfl (rs:=[.tmp 4,.tmp 5]) rfl (N:=29) rfl rfl ?_
 refine aA fun Ψ0 hΨ0 hΨ0'=>?_
 simp only[PN,↓reduceIte,zA,reduceCtorEq,zE,zB,zC,zD,zF]
 refine hΨ0 _ _ ?_
 refine aA fun Ψ1 hΨ1 hΨ1'=>?_
 refine aA fun Ψ2 hΨ2 hΨ2'=>?_
 refine aH [(2,8),(6,12)] (by kernel_rfl) fun O hO ΨR hR=>?_
 have y2:∀ a,aE O a 2=aM (a.aD 8):=hO (2,8) (by simp)
 have y6:∀ a,aE O a 6=aM (a.aD 12):=hO (6,12) (by simp)
 simp only[PN,↓reduceIte,zA,reduceCtorEq,zE,zB,zC,zD,zF,d0,d1,decide_false,y2,y6]
 have k0:aC [] s (s.new fun x=>.cells (PT.ofList [int 1,int 2,int 4,int 8]) [] 4 3 false false x):=(aC.refl hs).new (.inr (Nat.le_refl _))
 have c0:Obj (s.new fun x=>.cells (PT.ofList [int 1,int 2,int 4,int 8]) [] 4 3 false false x) s.next [int 1,int 2,int 4,int 8]:=⟨_,Cells.uP (L:=[int 1,int 2,int 4,int 8])⟩
 generalize (s.new fun x=>.cells (PT.ofList [int 1,int 2,int 4,int 8]) [] 4 3 false false x)=s1 at k0 c0 ⊢
 refine aB ?_ (GK (l:=[1,2,4,8]) w' (Obj.sl (n:=4) (c:=4) (m:=1) c0 rfl) (by omega) k0.ok fun s2 k2=>?_)
 ·simp only[PN,↓reduceIte,zA,reduceCtorEq,zE,zB,zC,zD,zF]
 have hc:List.contains [1,2,4,8] (w':Int)=true:=by rcases hw1 with rfl | rfl | rfl | rfl <;> rfl
 try simp only[PN,↓reduceIte,zA,reduceCtorEq,zE,zB,zC,zD,zF,y6,hc]
 refine hR _ _ (hΨ2 _ _ ?_)
 simp only[PN,↓reduceIte,zA,reduceCtorEq,zE,zB,zC,zD,zF]
 refine hΨ1 _ _ ?_
 have k3:=k0.trans k2
 have m1:=mulW h1 hw8
 have hm:n'*w'≤4096*8:=Nat.mul_le_mul h1 hw8
 have e1:IntKind.i64.wrap (((n'*w':Nat):Int)+64)=((n'*w'+64:Nat):Int):=by rw[aR (by omega) (by omega)];rfl
 have e2:IntKind.i64.wrap (((n'*w'+64:Nat):Int)-1)=((n'*w'+63:Nat):Int):=by rw[aR (by omega) (by omega)];omega
 have e3:IntKind.i64.wrap (((n'*w'+63:Nat):Int).tdiv 64)=(((n'*w'+63)/64:Nat):Int):=by rw[show ((n'*w'+63:Nat):Int).tdiv 64=(((n'*w'+63)/64:Nat):Int) from rfl,aR (by omega) (by omega)]
 simp only[PN,↓reduceIte,zA,reduceCtorEq,zE,zB,zC,zD,zF,m1,e1,e2,e3,mk_199 (nm:=s2.next) (n:=(((n'*w'+63)/64:Nat):Int)) (m:=(((n'*w'+63)/64:Nat):Int)) (by omega) (by omega) (by omega) (by omega),Int.toNat_natCast]
 have k4:aC [] s2 (s2.new fun v=>.cells .nil [Value.int IntKind.u64 0] ((n'*w'+63)/64*1) 221 false false v):=(aC.refl k2.ok).new (.inr (Nat.le_refl _))
 have c4:Obj (s2.new fun v=>.cells .nil [Value.int IntKind.u64 0] ((n'*w'+63)/64*1) 221 false false v) s2.next ((List.replicate ((n'*w'+63)/64) 0).map fun(x:Nat)=>Value.int .u64 (x:Int)):=by
  have:=Cells.kY (s:=s2) (x:=s2.next) (e:=221) (z:=[Value.int IntKind.u64 0]) (n:=(n'*w'+63)/64)
  rw[aAj] at this
  exact⟨_,this⟩
 have hnx:(s2.new fun v=>.cells .nil [Value.int IntKind.u64 0] ((n'*w'+63)/64*1) 221 false false v).next=s2.next+2:=rfl
 generalize (s2.new fun v=>.cells .nil [Value.int IntKind.u64 0] ((n'*w'+63)/64*1) 221 false false v)=s3 at k4 c4 hnx ⊢
 have k5:aC [] s3 (s3.new fun v=>.cells (PT.ofList [int n',int w',Value.slice (some ⟨s2.next,0,none⟩) ((n'*w'+63)/64) ((n'*w'+63)/64)]) [] 3 201 false false v):=(aC.refl k4.ok).new (.inr (Nat.le_refl _))
 have c5:Obj (s3.new fun v=>.cells (PT.ofList [int n',int w',Value.slice (some ⟨s2.next,0,none⟩) ((n'*w'+63)/64) ((n'*w'+63)/64)]) [] 3 201 false false v) s3.next [int n',int w',Value.slice (some ⟨s2.next,0,none⟩) ((n'*w'+63)/64) ((n'*w'+63)/64)]:=⟨_,Cells.uP (L:=[int n',int w',Value.slice (some ⟨s2.next,0,none⟩) ((n'*w'+63)/64) ((n'*w'+63)/64)])⟩
 refine hΦ _ s3.next s2.next (Nat.le_trans (k3.trans k4).next (Nat.le_refl _)) k3.next ⟨c5,⟨List.replicate ((n'*w'+63)/64) 0,c4.aF k5 (by simp),List.length_replicate,fun x hx=>?_,fun i hi=>?_⟩,by omega,h0,h1,hw1⟩ ((k3.trans k4).trans k5)
 ·rw[(List.mem_replicate.1 hx).2];omega
 ·rw[List.getD_eq_getElem?_getD,List.getElem?_replicate]
  split <;> exact tk _ _
end
end Go.Dust
namespace Go.Dust
structure iV where
 r:Int
 d:Int
 k:Int
 deriving DecidableEq
def iV.valid (x:iV):Bool:=decide (0≤x.r)&&decide (x.r≤15)&&decide (0≤x.d)&&decide (x.d≤200)&&decide (0≤x.k)&&decide (x.k≤3)&&(decide (x.k≠1)||decide (1≤x.r))&&(decide (x.k≠2)||decide (2≤x.r))
def iV.words (x:iV):Int:=if x.valid=true then(x.r+x.d+3)/2*2 else 0
def iV.num (x:iV):Int:=x.r+16*x.d+4096*x.k
def qD (n:Int):iV:=⟨n.tmod 16,(n.tmod 4096).tdiv 16,n.tdiv 4096⟩
theorem iV.dX {x:iV}:x.valid=true↔(0≤x.r∧x.r≤15∧0≤x.d∧x.d≤200∧0≤x.k∧x.k≤3∧(x.k=1→1≤x.r)∧(x.k=2→2≤x.r)):=by
 unfold iV.valid
 simp only[Bool.and_eq_true,Bool.or_eq_true,decide_eq_true_eq]
 constructor
 ·rintro⟨⟨⟨⟨⟨⟨⟨h1,h2⟩,h3⟩,h4⟩,h5⟩,h6⟩,h7⟩,h8⟩
  exact⟨h1,h2,h3,h4,h5,h6,fun e=>h7.resolve_left fun h=>h e,fun e=>h8.resolve_left fun h=>h e⟩
 ·rintro⟨h1,h2,h3,h4,h5,h6,h7,h8⟩
  refine⟨⟨⟨⟨⟨⟨⟨h1,h2⟩,h3⟩,h4⟩,h5⟩,h6⟩,?_⟩,?_⟩
  ·by_cases h:x.k=1
   ·exact .inr (h7 h)
   ·exact .inl h
  ·by_cases h:x.k=2
   ·exact .inr (h8 h)
   ·exact .inl h
theorem iV.nU (x:iV):0≤x.words∧x.words≤218∧x.words%2=0:=by
 unfold iV.words
 split
 ·rename_i h
  have:=iV.dX.1 h
  omega
 ·omega
theorem iV.eD {x:iV} (h:x.valid=true):x.words=(x.r+x.d+3)/2*2∧2≤x.words:=by
 unfold iV.words
 rw[if_pos h]
 have:=iV.dX.1 h
 omega
theorem qj {x:iV} (h:x.valid=true):qD x.num=x:=by
 obtain⟨h1,h2,h3,h4,h5,h6,_,_⟩:=iV.dX.1 h
 rcases x with ⟨r,d,k⟩
 simp only at h1 h2 h3 h4 h5 h6
 unfold qD iV.num
 simp only
 have hn:0≤r+16*d+4096*k:=by omega
 rw[Int.tmod_eq_emod_of_nonneg hn,Int.tmod_eq_emod_of_nonneg hn,Int.tdiv_eq_ediv_of_nonneg hn,Int.tdiv_eq_ediv_of_nonneg (by omega)]
 congr 1 <;> omega
structure PH where
 nb:Nat
 nw:Nat
 st:Nat
 su:Nat
 pt:Nat
 pu:Nat
 mp:Nat
 mf:Nat
 N:Nat
 bs:Nat→Int
 bp:Nat→Int
 w:Nat→Int
 S:Nat→Nat
 Q:Nat→Nat
 M:List (Int×Int)
 born:Nat
namespace PH
variable (P:PH)
def has (a:Int):Bool:=decide (0≤a∧a%2=0∧a/2<32*P.N∧P.S (a/2).toNat=1)
def shape (a:Int):iV:=qD (P.w (a+1).toNat)
def size (a:Int):Int:=(P.shape a).words
theorem dT {P:PH} {a:Int}:P.has a=true↔(0≤a∧a%2=0∧a/2<32*P.N∧P.S (a/2).toNat=1):=by unfold has;rw[decide_eq_true_eq]
structure cZ:Prop where
 val:∀ a,P.has a=true→(P.shape a).valid=true∧a+P.size a≤64*P.N
 fg:∀ a b,P.has a=true→P.has b=true→a<b→a+P.size a≤b
end PH
end Go.Dust
