/- VerifySound walked in D, function by function, and its plain law (C11 C12 Er). -/
import Derived.Test.YtaoiejcaopgjcaaGreatU
import Derived.Test.YtaoiejcaopgjcaaGreatO
set_option linter.unusedVariables false
set_option linter.unusedSimpArgs false
open Nat renaming reduceEqDiff → zA, reduceMul → zB, reduceAdd → zC, reduceBEq → zD
open Int renaming reduceEq → zE, reduceBEq → zF
namespace Go.Dust
open Go.Proofs
set_option maxRecDepth 100000
set_option maxHeartbeats 1000000
theorem eI {X:Env} {s:St} {t e N B n c k:Nat} {z x:Value} {a:Option Addr} {L new:List Value} (hd:((X.ty t).map fun i=>i.desc)=some (.slice e)) (he:((X.ty e).map fun i=>(i.bytes,i.size,i.zero))=some (B,N,some z)) (hz:z.cells.size=N)
  (hs:Ok s) (hN:0<N) (hb:kL s e N (.slice a n c) L) (hx:JS x=some k) (hf:iS s.look N k x=some new) (hl:new.length=k*N) (h1:new.all kZ=true) (hm:n+k<1000000000) (hB:B≤1000) :
  ∃ v s',iC X s #[t,t] [.slice a n c,x]=some (v,s')∧kL s' e N v (L++new)∧aC (nameOf (.slice a n c)) s s'∧(∀ b∈nameOf v,b∈nameOf (.slice a n c)∨s.next≤b)∧(∃ a' c',v=.slice a' (n+k) c'):=by
 obtain⟨v,s',h2,h3⟩:=hb.append hs hN hl h1
 refine⟨v,s',?_,h3⟩
 cases hi:X.ty t with
 | none=>rw[hi] at hd;cases hd
 | some i =>
  cases hj:X.ty e with
  | none=>rw[hj] at he;cases he
  | some j =>
   rw[hi] at hd
   rw[hj] at he
   obtain⟨d,sz,bs,zz,ag,ms,cm⟩:=i
   obtain⟨d',sz',bs',zz',ag',ms',cm'⟩:=j
   simp only[Option.map_some,Option.some.injEq,Prod.mk.injEq] at hd he
   subst hd
   obtain⟨rfl,rfl,rfl⟩:=he
   simp only[iC,hi,hj,hx,hf]
   have hmul:(2*(n+k)+1000)*bs'≤2 ^ 47:=by
    have:(2*(n+k)+1000)*bs'≤(2*(n+k)+1000)*1000:=Nat.mul_le_mul_left _ hB
    omega
   rw[if_pos ⟨hl,rfl,hz,by omega,hmul,h1⟩]
   exact h2
theorem gW {H:aY} {b N:Nat} {new:List Value} {c:Nat} (hN:0<N) (h:aS H ⟨b,0,none⟩ N=some new):iS H N 1 (.slice (some ⟨b,0,none⟩) 1 c)=some new:=by
 simp only[iS]
 rw[if_neg (by omega),Nat.one_mul]
 exact h
theorem uO {L:Nat→Nat} {v:Int}:∀ {d k i:Nat},pE L v k d=some i→k≤i∧i<k+d∧(L i:Int)=v∧∀ m,k≤m→m<i→¬ (L m:Int)=v
 | d+1,k,i,h=>by
  rw[pE] at h
  split at h
  ·cases h;exact⟨Nat.le_refl _,by omega,by assumption,fun m h1 h2=>by omega⟩
  ·rename_i hn
   obtain⟨h1,h2,h3,h4⟩:=uO h
   refine⟨by omega,by omega,h3,fun m h5 h6=>?_⟩
   by_cases hm:m=k
   ·subst hm;exact hn
   ·exact h4 m (by omega) h6
theorem uN {L:Nat→Nat} {v:Int}:∀ {d k:Nat},pE L v k d=none→∀ m,k≤m→m<k+d→¬ (L m:Int)=v
 | 0,k,h,m,h1,h2=>by omega
 | d+1,k,h,m,h1,h2=>by
  rw[pE] at h
  split at h
  ·cases h
  ·rename_i hn
   by_cases hm:m=k
   ·subst hm;exact hn
   ·exact uN h m (by omega) (by omega)
def rI (p:Nat→Bool) (k:Nat):List Nat:=(List.range k).filter p
theorem tK {p:Nat→Bool}:∀ {i k:Nat},k≤i→(∀ m,k≤m→m<i→p m=false)→rI p i=rI p k
 | 0,k,h,_=>by rw[Nat.le_zero.1 h]
 | i+1,k,h,hn=>by
  rcases Nat.lt_or_ge i k with h1 | h1
  ·rw[show k=i+1 by omega]
  ·unfold rI
   rw[List.range_succ,List.filter_append,List.filter_cons,List.filter_nil,hn i h1 (by omega)]
   simp only[Bool.false_eq_true,if_false,List.append_nil]
   exact tK h1 fun m h2 h3=>hn m h2 (by omega)
theorem DS {p:Nat→Bool} {i k:Nat} (h:k≤i) (hn:∀ m,k≤m→m<i→p m=false) (hp:p i=true):rI p (i+1)=rI p k++[i]:=by
 rw[← tK h hn]
 unfold rI
 rw[List.range_succ,List.filter_append,List.filter_cons,List.filter_nil,hp]
 rfl
theorem gj {p:Nat→Bool} {i k:Nat} (h:k≤i):(rI p k).length≤(rI p i).length:=by
 obtain⟨d,rfl⟩:=Nat.exists_eq_add_of_le h
 unfold rI
 rw[List.range_add,List.filter_append,List.length_append]
 omega
theorem vj {p:Nat→Bool} {k:Nat}:(rI p k).length≤k:=by
 have:=List.length_filter_le p (List.range k)
 rw[List.length_range] at this
 exact this
namespace PH
variable (P:PH)
def mX (i:Nat):Bool:=decide (P.S i=1)
def all:List Int:=(rI P.mX (32*P.N)).map fun(i:Nat)=>2*(i:Int)
end PH
section
variable {kc:Kc} {q:Bool} {s:St} {Φ:Value→St→Prop} {h:Nat} {P:PH}
theorem dA:type_of% (An @RX<|An @jQ<|An @qC<|@eG):=An @RX<|An @jQ<|An @qC<|@eG
theorem QX (hs:Ok s) (H:aP s h P) (hΦ:∀ s' a n c,kL s' 3 1 (.slice a n c) (P.all.map int)→n=P.all.length→(∀ b∈nameOf (.slice a n c),s.next≤b)→aC [] s s'→Φ (.slice a n c) s'):okF q X (KO kc) 154 [ptr h,int 0,int (64*P.N:Nat)] s Φ:=by
 have iJ:=H.iJ
 refine aG rfl fn_154 rfl (rs:=[.tmp 6]) rfl (N:=44) rfl rfl ?_
 refine aA fun Ψ0 hΨ0 hΨ0'=>?_
 simp only[dA,↓reduceIte,zA,reduceCtorEq,zE,zB,zC,zD,zF]
 refine hΨ0 _ _ ?_
 refine aA fun Ψ1 hΨ1 hΨ1'=>?_
 simp only[dA,↓reduceIte,zA,reduceCtorEq,zE,zB,zC,zD,zF]
 refine hΨ1 _ _ ?_
 refine aA fun Ψ2 hΨ2 hΨ2'=>?_
 refine aA fun Ψ3 hΨ3 hΨ3'=>?_
 have w0:IntKind.i64.wrap ((0:Int).tdiv 2)=0:=rfl
 simp only[dA,↓reduceIte,zA,reduceCtorEq,zE,zB,zC,zD,zF,H.l2,w0]
 refine aB ?_ (PA hs H.ts 0 1 (by omega) fun s2 k2=>?_)
 ·simp only[dA,↓reduceIte,zA,reduceCtorEq,zE,zB,zC,zD,zF]
 rw[show (max (0:Int) 0).toNat=0 from rfl]
 simp only[dA,↓reduceIte,zA,reduceCtorEq,zE,zB,zC,zD,zF]
 refine hΨ3 _ _ ?_
 refine aL fun Ψ4 hΨ4 hΨ4e hΨ4'=>?_
 refine fY (n:=(rI P.mX (32*P.N)).length)
  (fun j a' s'=>∃ k a n c,k≤32*P.N∧(rI P.mX k).length=j∧a'.aD 0=ptr h∧a'.aD 2=int (64*P.N:Nat)∧a'.aD 7=.slice a n c∧n=j∧kL s' 3 1 (.slice a n c) (((rI P.mX k).map fun(i:Nat)=>2*(i:Int)).map int)∧(∀ b∈nameOf (.slice a n c),s.next≤b)∧a'.aD 8=nxA (pE P.S 1 k (32*P.N-k))∧a'.aD 9=nxE (pE P.S 1 k (32*P.N-k))∧aC [] s s')
  (fun j a' s'=>∃ (i:Nat) (a:Option Addr) (n c:Nat),i<32*P.N∧(rI P.mX (i+1)).length=j+1∧a'.aD 0=ptr h∧a'.aD 2=int (64*P.N:Nat)∧a'.aD 7=.slice a n c∧n=j+1∧kL s' 3 1 (.slice a n c) (((rI P.mX (i+1)).map fun(i:Nat)=>2*(i:Int)).map int)∧(∀ b∈nameOf (.slice a n c),s.next≤b)∧a'.aD 8=int i∧aC [] s s') ?_ ?_ ?_ ?_ (Nat.zero_le _) ?_
 ·rintro j a' s' hj ⟨k,a,n,c,hk,hl,r0,r2,r7,hn,hb,hnm,r8,r9,kk⟩ Ψ' hΨ'
  refine aH [(2,22)] (by kernel_rfl) fun O hO ΨR hR=>?_
  have y2:∀ a,aE O a 2=aM (a.aD 22):=hO (2,22) (by simp)
  cases hx:pE P.S 1 k (32*P.N-k) with
  | some i =>
   obtain⟨i1,i2,i3,i4⟩:=uO hx
   have hhit:=DS (p:=P.mX) i1 (fun m h1 h2=>by have:=i4 m h1 h2;simp only[PH.mX,decide_eq_false_iff_not];omega) (by simp only[PH.mX,decide_eq_true_eq];omega)
   have gU:j<(rI P.mX (32*P.N)).length:=by
    have:=gj (p:=P.mX) (i:=32*P.N) (k:=i+1) (by omega)
    rw[hhit,List.length_append,List.length_singleton] at this
    omega
   rw[hx] at r8 r9
   simp only[wJ,wL,wI,wK] at r8 r9
   have w1:IntKind.i64.wrap (2*(i:Int))=2*i:=aR (by omega) (by omega)
   have g1:2*(i:Int)<((64*P.N:Nat):Int):=by omega
   simp only[dA,↓reduceIte,zA,reduceCtorEq,zE,zB,zC,zD,zF,r8,r9,r2,y2,w1,g1,decide_true]
   refine hR _ _ (hΨ' _ _ true ?_ (by simp[gU]) ⟨k,a,n,c,hk,hl,?_,?_,?_,hn,hb,hnm,?_,?_,kk⟩)
   ·simp only[dA,↓reduceIte,zA,reduceCtorEq,zE,zB,zC,zD,zF]
   ·simp only[dA,↓reduceIte,zA,reduceCtorEq,zE,zB,zC,zD,zF,r0]
   ·simp only[dA,↓reduceIte,zA,reduceCtorEq,zE,zB,zC,zD,zF,r2]
   ·simp only[dA,↓reduceIte,zA,reduceCtorEq,zE,zB,zC,zD,zF,r7]
   ·simp only[dA,↓reduceIte,zA,reduceCtorEq,zE,zB,zC,zD,zF,hx,r8,wJ,wI]
   ·simp only[dA,↓reduceIte,zA,reduceCtorEq,zE,zB,zC,zD,zF,hx,r9,wL,wK]
  | none =>
   have hnone:=uN hx
   have hall:=tK (p:=P.mX) hk fun m h1 h2=>by have:=hnone m h1 (by omega);simp only[PH.mX,decide_eq_false_iff_not];omega
   rw[hx] at r8 r9
   simp only[wJ,wL,wI,wK] at r8 r9
   simp only[dA,↓reduceIte,zA,reduceCtorEq,zE,zB,zC,zD,zF,r8,r9,r2,y2]
   refine hR _ _ (hΨ' _ _ false ?_ (by rw[hall,hl];simp) ⟨k,a,n,c,hk,hl,?_,?_,?_,hn,hb,hnm,?_,?_,kk⟩)
   ·simp only[dA,↓reduceIte,zA,reduceCtorEq,zE,zB,zC,zD,zF]
   ·simp only[dA,↓reduceIte,zA,reduceCtorEq,zE,zB,zC,zD,zF,r0]
   ·simp only[dA,↓reduceIte,zA,reduceCtorEq,zE,zB,zC,zD,zF,r2]
   ·simp only[dA,↓reduceIte,zA,reduceCtorEq,zE,zB,zC,zD,zF,r7]
   ·simp only[dA,↓reduceIte,zA,reduceCtorEq,zE,zB,zC,zD,zF,hx,r8,wJ,wI]
   ·simp only[dA,↓reduceIte,zA,reduceCtorEq,zE,zB,zC,zD,zF,hx,r9,wL,wK]
 ·rintro j a' s' hj ⟨k,a,n,c,hk,hl,r0,r2,r7,hn,hb,hnm,r8,r9,kk⟩ Ψ' h1 h2 h3
  cases hx:pE P.S 1 k (32*P.N-k) with
  | none =>
   exfalso
   have hnone:=uN hx
   have hall:=tK (p:=P.mX) hk fun m h1 h2=>by have:=hnone m h1 (by omega);simp only[PH.mX,decide_eq_false_iff_not];omega
   rw[hall,hl] at hj
   omega
  | some i =>
   obtain⟨i1,i2,i3,i4⟩:=uO hx
   have hhit:=DS (p:=P.mX) i1 (fun m h1 h2=>by have:=i4 m h1 h2;simp only[PH.mX,decide_eq_false_iff_not];omega) (by simp only[PH.mX,decide_eq_true_eq];omega)
   rw[hx] at r8 r9
   simp only[wJ,wL,wI,wK] at r8 r9
   have w1:IntKind.i64.wrap (2*(i:Int))=2*i:=aR (by omega) (by omega)
   have hjl:=vj (p:=P.mX) (k:=k)
   obtain⟨s3,e3,k3,c3,_⟩:=aT kk.ok (L:=[int (2*(i:Int))]) (n:=1) (e:=3) rfl
   have hb3:=hb.aF k3 (by simp)
   obtain⟨v,s4,h4,b4,k4,m4,a4,c4,rfl⟩:=eI (X:=X) (t:=62) (e:=3) (N:=1) (B:=8) (z:=.int .i64 0) (x:=.slice (some ⟨s'.next,0,none⟩) 1 1) (k:=1) (new:=[int (2*(i:Int))]) (by kernel_rfl) (by kernel_rfl) rfl k3.ok (by omega) hb3 rfl (gW (by omega) (c3.aS (i:=0) (k:=1) (Nat.le_refl _))) rfl rfl (by omega) (by omega)
   simp only[dA,↓reduceIte,zA,reduceCtorEq,zE,zB,zC,zD,zF,r7,r8,w1]
   rw[e3]
   refine jZ ?_ h4 ?_
   ·simp only[dA,↓reduceIte,zA,reduceCtorEq,zE,zB,zC,zD,zF]
   simp only[dA,↓reduceIte,zA,reduceCtorEq,zE,zB,zC,zD,zF]
   have hkk:aC [] s s4:=(kk.trans k3).step k4 fun g hg=>.inr (hs.fresh _ (hnm g hg))
   refine h1 _ _ ⟨i,a4,n+1,c4,by omega,by rw[hhit,List.length_append,hl];rfl,?_,?_,?_,by omega,?_,?_,?_,hkk⟩
   ·simp only[dA,↓reduceIte,zA,reduceCtorEq,zE,zB,zC,zD,zF,r0]
   ·simp only[dA,↓reduceIte,zA,reduceCtorEq,zE,zB,zC,zD,zF,r2]
   ·simp only[dA,↓reduceIte,zA,reduceCtorEq,zE,zB,zC,zD,zF]
   ·rw[hhit,List.map_append,List.map_append]
    exact b4
   ·intro b hb'
    rcases m4 b hb' with h | h
    ·exact hnm b h
    ·have:=kk.next;have:=k3.next;omega
   ·simp only[dA,↓reduceIte,zA,reduceCtorEq,zE,zB,zC,zD,zF,r8]
 ·rintro j a' s' hj ⟨i,a,n,c,hi,hl,r0,r2,r7,hn,hb,hnm,r8,kk⟩ Ψ' h1
  have H':=H.aN kk
  have w1:IntKind.i64.wrap ((i:Int)+1)=((i+1:Nat):Int):=by rw[aR (by omega) (by omega)];rfl
  simp only[dA,↓reduceIte,zA,reduceCtorEq,zE,zB,zC,zD,zF,r0,r8,H'.l2,w1]
  refine aB ?_ (PA kk.ok H'.ts ((i+1:Nat):Int) 1 (by omega) fun s3 k3=>?_)
  ·simp only[dA,↓reduceIte,zA,reduceCtorEq,zE,zB,zC,zD,zF]
  rw[show (max ((i+1:Nat):Int) 0).toNat=i+1 by omega]
  simp only[dA,↓reduceIte,zA,reduceCtorEq,zE,zB,zC,zD,zF]
  refine h1 _ _ ⟨i+1,a,n,c,by omega,hl,?_,?_,?_,hn,hb.aF k3 (by simp),hnm,?_,?_,kk.trans k3⟩
  ·simp only[dA,↓reduceIte,zA,reduceCtorEq,zE,zB,zC,zD,zF,r0]
  ·simp only[dA,↓reduceIte,zA,reduceCtorEq,zE,zB,zC,zD,zF,r2]
  ·simp only[dA,↓reduceIte,zA,reduceCtorEq,zE,zB,zC,zD,zF,r7]
  ·simp only[dA,↓reduceIte,zA,reduceCtorEq,zE,zB,zC,zD,zF]
  ·simp only[dA,↓reduceIte,zA,reduceCtorEq,zE,zB,zC,zD,zF]
 ·rintro a' s' ⟨k,a,n,c,hk,hl,r0,r2,r7,hn,hb,hnm,r8,r9,kk⟩
  have hall:rI P.mX (32*P.N)=rI P.mX k:=by
   cases hx:pE P.S 1 k (32*P.N-k) with
   | none =>
    have hnone:=uN hx
    exact tK (p:=P.mX) hk fun m h1 h2=>by have:=hnone m h1 (by omega);simp only[PH.mX,decide_eq_false_iff_not];omega
   | some i =>
    exfalso
    obtain⟨i1,i2,i3,i4⟩:=uO hx
    have hhit:=DS (p:=P.mX) i1 (fun m h1 h2=>by have:=i4 m h1 h2;simp only[PH.mX,decide_eq_false_iff_not];omega) (by simp only[PH.mX,decide_eq_true_eq];omega)
    have:=gj (p:=P.mX) (i:=32*P.N) (k:=i+1) (by omega)
    rw[hhit,List.length_append,List.length_singleton] at this
    omega
  refine hΨ4e _ _ (hΨ2 _ _ ?_)
  simp only[dA,↓reduceIte,zA,reduceCtorEq,zE,zB,zC,zD,zF,r7]
  refine hΦ s' a n c ?_ ?_ hnm kk
  ·unfold PH.all;rw[hall];exact hb
  ·unfold PH.all;rw[List.length_map];exact hn
 ·refine⟨0,none,0,0,Nat.zero_le _,rfl,?_,?_,?_,rfl,.nil,by simp[nameOf],?_,?_,k2⟩
  ·simp only[dA,↓reduceIte,zA,reduceCtorEq,zE,zB,zC,zD,zF]
  ·simp only[dA,↓reduceIte,zA,reduceCtorEq,zE,zB,zC,zD,zF]
  ·simp only[dA,↓reduceIte,zA,reduceCtorEq,zE,zB,zC,zD,zF]
  ·simp only[dA,↓reduceIte,zA,reduceCtorEq,zE,zB,zC,zD,zF]
  ·simp only[dA,↓reduceIte,zA,reduceCtorEq,zE,zB,zC,zD,zF]
theorem DG:type_of% (An @RX<|An @cE<|An @cY<|@cO):=An @RX<|An @cE<|An @cY<|@cO
theorem VL (hs:Ok s) (H:aP s h P) (hΦ:∀ s' a n c,kL s' 3 1 (.slice a n c) (P.all.map int)→n=P.all.length→(∀ b∈nameOf (.slice a n c),s.next≤b)→aC [] s s'→Φ (.slice a n c) s'):okF q X (KO kc) 62 [ptr h] s Φ:=by
 refine aG rfl fn_62 rfl (rs:=[.tmp 2]) rfl (N:=13) rfl rfl ?_
 refine aA fun Ψ0 hΨ0 hΨ0'=>?_
 simp only[DG,↓reduceIte,zA,reduceCtorEq,zE,zB,zC,zD,zF]
 refine hΨ0 _ _ ?_
 refine aA fun Ψ1 hΨ1 hΨ1'=>?_
 refine aA fun Ψ2 hΨ2 hΨ2'=>?_
 simp only[DG,↓reduceIte,zA,reduceCtorEq,zE,zB,zC,zD,zF]
 refine aB ?_ (jT H ?_)
 ·simp only[DG,↓reduceIte,zA,reduceCtorEq,zE,zB,zC,zD,zF]
 try simp only[DG,↓reduceIte,zA,reduceCtorEq,zE,zB,zC,zD,zF]
 refine hΨ2 _ _ ?_
 simp only[DG,↓reduceIte,zA,reduceCtorEq,zE,zB,zC,zD,zF]
 refine hΨ1 _ _ ?_
 refine aA fun Ψ3 hΨ3 hΨ3'=>?_
 simp only[DG,↓reduceIte,zA,reduceCtorEq,zE,zB,zC,zD,zF,H.l1]
 refine aB ?_ (QX hs H fun s' a n c h1 h2 h3 h4=>?_)
 ·simp only[DG,↓reduceIte,zA,reduceCtorEq,zE,zB,zC,zD,zF]
 try simp only[DG,↓reduceIte,zA,reduceCtorEq,zE,zB,zC,zD,zF]
 refine hΨ3 _ _ ?_
 simp only[DG,↓reduceIte,zA,reduceCtorEq,zE,zB,zC,zD,zF]
 exact hΦ s' a n c h1 h2 h3 h4
end
open Go.Proofs
set_option maxRecDepth 100000
set_option maxHeartbeats 1000000
def eP (f:Nat→Int) (i:Nat) (v:Int):Nat→Int:=fun j=>if j=i then v else f j
namespace PH
variable (P:PH)
def fill (p k:Nat) (x y:Int):PH:={P with bs:=fun j=>if p≤j∧j<p+k then x else P.bs j,bp:=fun j=>if p≤j∧j<p+k then y else P.bp j}
def qY (p k:Nat) (x y u v:Int):PH:={P with bs:=eP (fun j=>if p≤j∧j<p+k then u else P.bs j) p x,bp:=eP (fun j=>if p≤j∧j<p+k then v else P.bp j) p y}
def busy (p k:Nat):Bool:=(List.range k).any fun j=>!(P.bs (p+j)==0&&P.bp (p+j)==0)
def iR (b k y:Int):Int:=if 1≤b∧b<P.N∧1≤k∧k≤P.N-b∧0≤y∧y<8 then(if P.busy b.toNat k.toNat=true then 8 else 0) else 1
end PH
section
variable {kc:Kc} {q:Bool} {s:St} {Φ:Value→St→Prop} {h:Nat} {P:PH}
theorem aP.jr {s s':St} {f g:Nat→Int} (H:aP s h P) (k:aC [P.nb] s s') (hc:Obj s' P.nb (row (2*P.N) fun i=>int (if i%2=0 then f (i/2) else g (i/2)))):aP s' h {P with bs:=f,bp:=g}:=by
 obtain⟨⟨a1,a2,a3,a4,a5,a6,a7,a8⟩,⟨b1,b2,b3,b4,b5,b6,b7⟩,_⟩:=H.nds
 obtain⟨c,cb,cw,ts,tp,mp,mf,nd,n2,iJ,wr⟩:=H
 exact⟨c.aF k (by simp[a1]),hc,cw.aF k (by simp[Ne.symm b1]),ts.aF k (by simp[Ne.symm b2]) (by simp[Ne.symm b3]),tp.aF k (by simp[Ne.symm b4]) (by simp[Ne.symm b5]),mp.aF k (by simp[Ne.symm b6]),mf.aF k (by simp[Ne.symm b7]),nd,n2,iJ,wr⟩
theorem aP.setBlock (hs:Ok s) (H:aP s h P) {j:Nat} (hj:j<P.N) (x y:Int):∃ s',bJ s ⟨P.nb,j*2,none⟩ [int x,int y]=some s'∧aP s' h {P with bs:=eP P.bs j x,bp:=eP P.bp j y}∧aC [P.nb] s s':=by
 obtain⟨s',h1,h2,h3⟩:=H.cb.store hs (i:=j*2) (vs:=[int x,int y]) (by rw[bI];show j*2+2≤_;omega) rfl
 have hrow:oI (row (2*P.N) fun i=>int (if i%2=0 then P.bs (i/2) else P.bp (i/2))) (j*2) [int x,int y]=row (2*P.N) fun i=>int (if i%2=0 then eP P.bs j x (i/2) else eP P.bp j y (i/2)):=by
  refine yP (by rw[jW (by rw[bI];show j*2+2≤_;omega),bI]) fun i hi=>?_
  rw[oJ (by rw[bI];show j*2+2≤_;omega),show [int x,int y].length=2 from rfl]
  unfold eP
  by_cases hc:j*2≤i∧i<j*2+2
  ·rw[if_pos hc,if_pos (show i/2=j by omega),if_pos (show i/2=j by omega)]
   rcases Nat.lt_or_ge i (j*2+1) with h | h
   ·rw[show i-j*2=0 by omega,if_pos (by omega)];rfl
   ·rw[show i-j*2=1 by omega,if_neg (by omega)];rfl
  ·rw[if_neg hc,fB _ hi,if_neg (show ¬ i/2=j by omega),if_neg (show ¬ i/2=j by omega)]
 rw[hrow] at h2
 exact⟨s',h1,H.jr h3 h2,h3⟩
theorem aAb:type_of% (An @RX<|An @DV<|An @HE<|An @QQ<|@gz):=An @RX<|An @DV<|An @HE<|An @QQ<|@gz
theorem VM (hs:Ok s) (x y:Int) (hΦ:∀ s',aC [] s s'→Φ (.bool (!(x==0&&y==0))) s'):okF q X (KO kc) 227 [.agg #[int x,int y]] s Φ:=by
 refine aG rfl fn_227 rfl (rs:=[.tmp 2]) rfl (N:=6) rfl rfl ?_
 refine aA fun Ψ0 hΨ0 hΨ0'=>?_
 simp only[aAb,↓reduceIte,zA,reduceCtorEq,zE,zB,zC,zD,zF]
 obtain⟨s1,e1,k1,c1,_⟩:=aT hs (L:=[int x,int y]) (n:=2) (e:=198) rfl
 rw[e1]
 refine hΨ0 _ _ ?_
 have l1:=c1.aS (i:=0) (k:=2) (Nat.le_refl _)
 simp only[aAb,↓reduceIte,zA,reduceCtorEq,zE,zB,zC,zD,zF,l1,List.drop_zero,List.take]
 exact hΦ _ k1
theorem load2 {H:aY} {b o:Nat} {x y:Value} (h0:aI H ⟨b,o,none⟩=some x) (h1:aI H ⟨b,o+1,none⟩=some y):aS H ⟨b,o,none⟩ 2=some [x,y]:=by
 unfold aI at h0 h1
 unfold aS
 simp only at h0 h1 ⊢
 cases hb:H b with
 | none=>rw[hb] at h0;cases h0
 | some ob =>
  rw[hb] at h0 h1
  cases ob with
  | cells c z n e r ro v=>simp only at h0 h1 ⊢;simp only[dJ,h0,h1]
  | _=>cases h0
theorem fU:type_of% (An @RX<|An @mB<|An @sU<|@DV):=An @RX<|An @mB<|An @sU<|@DV
theorem LO {b off n c:Nat} {f g:Nat→Int} (hs:Ok s) (hmax:n<1000) (hf:∀ j,j<n→aI s.look ⟨b,off+j*2,none⟩=some (int (f j))∧aI s.look ⟨b,off+j*2+1,none⟩=some (int (g j)))
  (hΦ:∀ s' (r:Int),aC [] s s'→(r≥0↔(List.range n).any (fun j=>!(f j==0&&g j==0))=true)→Φ (int r) s'):okF q X (KO kc) 255 [.slice (some ⟨b,off,none⟩) n c,.func (.func 227) #[] #[]] s Φ:=by
 refine aG rfl fn_255 rfl (rs:=[.tmp 4]) rfl (N:=19) rfl rfl ?_
 refine aA fun Ψ0 hΨ0 hΨ0'=>?_
 simp only[fU,↓reduceIte,zA,reduceCtorEq,zE,zB,zC,zD,zF]
 refine hΨ0 _ _ ?_
 refine aA fun Ψ1 hΨ1 hΨ1'=>?_
 refine aA fun Ψ2 hΨ2 hΨ2'=>?_
 simp only[fU,↓reduceIte,zA,reduceCtorEq,zE,zB,zC,zD,zF]
 refine hΨ2 _ _ ?_
 refine aL fun Ψ3 hΨ3 hΨ3e hΨ3'=>?_
 refine dP (n:=n) (fun j a' s'=>a'.aD 0=.slice (some ⟨b,off,none⟩) n c∧a'.aD 1=.func (.func 227) #[] #[]∧a'.aD 7=int n∧a'.aD 8=int j∧aC [] s s'∧∀ k,k<j→(!(f k==0&&g k==0))=false)
  (fun j a' s'=>a'.aD 0=.slice (some ⟨b,off,none⟩) n c∧a'.aD 1=.func (.func 227) #[] #[]∧a'.aD 7=int n∧a'.aD 8=int j∧aC [] s s'∧∀ k,k<j+1→(!(f k==0&&g k==0))=false) ?_ ?_ ?_ ?_ (Nat.zero_le n) ?_
 ·rintro j a' s' hj ⟨r0,r1,r7,r8,hk,hn⟩ Ψ' hΨ'
  simp only[fU,↓reduceIte,zA,reduceCtorEq,zE,zB,zC,zD,zF,r7,r8]
  refine hΨ' _ _ (decide ((j:Int)<n)) ?_ (by simp) ⟨?_,?_,?_,?_,hk,hn⟩
  all_goals simp only[fU,↓reduceIte,zA,reduceCtorEq,zE,zB,zC,zD,zF,r0,r1,r7,r8]
 ·rintro j a' s' hj ⟨r0,r1,r7,r8,hk,hn⟩ Ψ' h1 h2 h3
  obtain⟨f1,f2⟩:=hf j hj
  have hld:=load2 (cW hk (by simp) f1) (cW hk (by simp) f2)
  have g1:(0:Int)≤(j:Int):=Int.natCast_nonneg _
  have g2:(j:Int)<(n:Int):=by omega
  refine aA fun Ψ4 hΨ4 hΨ4'=>?_
  simp only[fU,↓reduceIte,zA,reduceCtorEq,zE,zB,zC,zD,zF,r8]
  refine hΨ4 _ _ ?_
  refine aA fun Ψ5 hΨ5 hΨ5'=>?_
  simp only[fU,↓reduceIte,zA,reduceCtorEq,zE,zB,zC,zD,zF,r0,r1,g1,g2,aJ,Int.toNat_natCast,hld]
  refine oD (fi:=#[]) (ca:=#[]) ?_ ?_ (VM hk.ok (f j) (g j) fun s'' hk''=>?_)
  ·simp only[fU,↓reduceIte,zA,reduceCtorEq,zE,zB,zC,zD,zF,r1,List.append_nil]
  ·simp only[fU,↓reduceIte,zA,reduceCtorEq,zE,zB,zC,zD,zF,r1,List.append_nil]
  try simp only[fU,↓reduceIte,zA,reduceCtorEq,zE,zB,zC,zD,zF]
  refine hΨ5 _ _ ?_
  cases hp:(!(f j==0&&g j==0)) with
  | true =>
   simp only[fU,↓reduceIte,zA,reduceCtorEq,zE,zB,zC,zD,zF]
   refine h3 _ _ _ (by simp) (by simp) (hΨ3' _ _ _ (by simp) (by simp) (hΨ1' _ _ _ (by simp) ?_))
   simp only[fU,↓reduceIte,zA,reduceCtorEq,zE,zB,zC,zD,zF]
   exact hΦ _ _ (hk.trans hk'') ⟨fun _=>List.any_eq_true.2 ⟨j,List.mem_range.2 hj,hp⟩,fun _=>g1⟩
  | false =>
   simp only[fU,↓reduceIte,zA,reduceCtorEq,zE,zB,zC,zD,zF]
   refine h1 _ _ ⟨?_,?_,?_,?_,hk.trans hk'',fun k hk=>?_⟩
   ·simp only[fU,↓reduceIte,zA,reduceCtorEq,zE,zB,zC,zD,zF,r0]
   ·simp only[fU,↓reduceIte,zA,reduceCtorEq,zE,zB,zC,zD,zF,r1]
   ·simp only[fU,↓reduceIte,zA,reduceCtorEq,zE,zB,zC,zD,zF,r7]
   ·simp only[fU,↓reduceIte,zA,reduceCtorEq,zE,zB,zC,zD,zF,r8]
   ·rcases Nat.lt_or_ge k j with h | h
    ·exact hn k h
    ·obtain rfl:k=j:=by omega
     exact hp
 ·rintro j a' s' hj ⟨r0,r1,r7,r8,hk,hn⟩ Ψ' h1
  simp only[fU,↓reduceIte,zA,reduceCtorEq,zE,zB,zC,zD,zF,r8]
  refine h1 _ _ ⟨?_,?_,?_,?_,hk,hn⟩
  ·simp only[fU,↓reduceIte,zA,reduceCtorEq,zE,zB,zC,zD,zF,r0]
  ·simp only[fU,↓reduceIte,zA,reduceCtorEq,zE,zB,zC,zD,zF,r1]
  ·simp only[fU,↓reduceIte,zA,reduceCtorEq,zE,zB,zC,zD,zF,r7]
  ·simp only[fU,↓reduceIte,zA,reduceCtorEq,zE,zB,zC,zD,zF]
   rw[aR (by omega) (by omega)];rfl
 ·rintro a' s' ⟨r0,r1,r7,r8,hk,hn⟩
  refine hΨ3e _ _ (hΨ1 _ _ ?_)
  simp only[fU,↓reduceIte,zA,reduceCtorEq,zE,zB,zC,zD,zF]
  refine hΦ _ _ hk ⟨fun h=>by omega,fun h=>?_⟩
  obtain⟨j,hj,hp⟩:=List.any_eq_true.1 h
  rw[hn j (List.mem_range.1 hj)] at hp
  cases hp
 ·refine⟨?_,?_,?_,?_,.refl hs,fun k hk=>absurd hk (Nat.not_lt_zero k)⟩
  ·simp only[fU,↓reduceIte,zA,reduceCtorEq,zE,zB,zC,zD,zF]
  ·simp only[fU,↓reduceIte,zA,reduceCtorEq,zE,zB,zC,zD,zF]
  ·simp only[fU,↓reduceIte,zA,reduceCtorEq,zE,zB,zC,zD,zF]
  ·simp only[fU,↓reduceIte,zA,reduceCtorEq,zE,zB,zC,zD,zF]
   rfl
theorem MB:type_of% (An @RC<|An @RO<|An @RD<|An @RV<|An @RB<|@RG):=An @RC<|An @RO<|An @RD<|An @RV<|An @RB<|@RG
theorem DB {b off n c:Nat} {f g:Nat→Int} (hs:Ok s) (hmax:n<1000) (hf:∀ j,j<n→aI s.look ⟨b,off+j*2,none⟩=some (int (f j))∧aI s.look ⟨b,off+j*2+1,none⟩=some (int (g j)))
  (hΦ:∀ s',aC [] s s'→Φ (.bool ((List.range n).any (fun j=>!(f j==0&&g j==0)))) s'):okF q X (KO kc) 226 [.slice (some ⟨b,off,none⟩) n c,.func (.func 227) #[] #[]] s Φ:=by
 refine aG rfl fn_226 rfl (rs:=[.tmp 4]) rfl (N:=9) rfl rfl ?_
 refine aA fun Ψ0 hΨ0 hΨ0'=>?_
 simp only[MB,↓reduceIte,zA,reduceCtorEq,zE,zB,zC,zD,zF]
 refine hΨ0 _ _ ?_
 refine aA fun Ψ1 hΨ1 hΨ1'=>?_
 simp only[MB,↓reduceIte,zA,reduceCtorEq,zE,zB,zC,zD,zF]
 refine aB ?_ (LO (c:=c) hs hmax hf fun s' r hk hr=>?_)
 ·simp only[MB,↓reduceIte,zA,reduceCtorEq,zE,zB,zC,zD,zF]
 try simp only[MB,↓reduceIte,zA,reduceCtorEq,zE,zB,zC,zD,zF]
 refine hΨ1 _ _ ?_
 simp only[MB,↓reduceIte,zA,reduceCtorEq,zE,zB,zC,zD,zF]
 have:decide (r≥0)=(List.range n).any (fun j=>!(f j==0&&g j==0)):=by
  rw[Bool.eq_iff_iff,decide_eq_true_eq];exact hr
 rw[this]
 exact hΦ _ hk
theorem bV:type_of% (An @RX<|An @iO<|An @nD<|An @mB<|An @VD<|An @bF<|An @DV<|An @sU<|@aA4):=An @RX<|An @iO<|An @nD<|An @mB<|An @VD<|An @bF<|An @DV<|An @sU<|@aA4
theorem JO (hs:Ok s) (H:aP s h P) (b k x y u v:Int) (hk1:-1000000<k∧k<1000000) (hb1:-1000000<b∧b<1000000)
  (hΦ:∀ s',aP s' h (if P.iR b k y=0 then P.qY b.toNat k.toNat x y u v else P)→aC [P.nb] s s'→Φ (int (P.iR b k y)) s'):okF q X (KO kc) 167 [ptr h,int b,int k,.agg #[int x,int y],.agg #[int u,int v]] s Φ:=by
 have iJ:=H.iJ
 refine aG rfl fn_167 rfl (rs:=[.tmp 10]) rfl (N:=74) rfl rfl ?_
 refine aA fun Ψ0 hΨ0 hΨ0'=>?_
 simp only[bV,↓reduceIte,zA,reduceCtorEq,zE,zB,zC,zD,zF]
 obtain⟨s1,e1,k1,c1,n1⟩:=aT hs (L:=[int x,int y]) (n:=2) (e:=198) rfl
 rw[e1]
 obtain⟨s2,e2,k2,c2,n2⟩:=aT k1.ok (L:=[int u,int v]) (n:=2) (e:=198) rfl
 rw[e2]
 refine hΨ0 _ _ ?_
 have c1':=c1.aF k2 (by simp)
 have k12:=k1.trans k2
 have H2:=H.aN k12
 have ly:aI s2.look ⟨s.next,1,none⟩=some (int y):=c1'.load rfl
 refine aA fun Ψ1 hΨ1 hΨ1'=>?_
 refine aL fun Ψ2 hΨ2 hΨ2e hΨ2'=>?_
 refine aA fun Ψ3 hΨ3 hΨ3'=>?_
 simp only[bV,↓reduceIte,zA,reduceCtorEq,zE,zB,zC,zD,zF]
 refine aB ?_ (jT H2 ?_)
 ·simp only[bV,↓reduceIte,zA,reduceCtorEq,zE,zB,zC,zD,zF]
 try simp only[bV,↓reduceIte,zA,reduceCtorEq,zE,zB,zC,zD,zF]
 refine hΨ3 _ _ ?_
 simp only[bE,RV,RG,↓reduceIte,zA,reduceCtorEq,zE,zB,zC,zD,zF]
 refine aA fun Ψ4 hΨ4 hΨ4'=>?_
 refine aH [(4,21),(8,25),(19,36)] (by kernel_rfl) fun O hO ΨR hR=>?_
 have y4:∀ a,aE O a 4=aM (a.aD 21):=hO (4,21) (by simp)
 have y8:∀ a,aE O a 8=aM (a.aD 25):=hO (8,25) (by simp)
 have y19:∀ a,aE O a 19=aM (a.aD 36):=hO (19,36) (by simp)
 simp only[bV,↓reduceIte,zA,reduceCtorEq,zE,zB,zC,zD,zF]
 refine aB ?_ (ZQ H2 b ?_)
 ·simp only[bV,↓reduceIte,zA,reduceCtorEq,zE,zB,zC,zD,zF]
 by_cases g1:1≤b∧b<(P.N:Int)
 rotate_left
 ·have he:P.iR b k y=1:=by unfold PH.iR;rw[if_neg (fun h=>g1 ⟨h.1,h.2.1⟩)]
  rw[he,if_neg (by decide)] at hΦ
  simp only[bV,↓reduceIte,zA,reduceCtorEq,zE,zB,zC,zD,zF,y4,y8,y19,g1,decide_false]
  refine hR _ _ (hΨ4 _ _ ?_)
  simp only[bV,↓reduceIte,zA,reduceCtorEq,zE,zB,zC,zD,zF]
  refine hΨ2' _ _ _ (by simp) (by simp) (hΨ1' _ _ _ (by simp) ?_)
  simp only[bV,↓reduceIte,zA,reduceCtorEq,zE,zB,zC,zD,zF]
  exact hΦ _ H2 k12.any
 by_cases g2:k<1
 ·have he:P.iR b k y=1:=by unfold PH.iR;rw[if_neg (by omega)]
  rw[he,if_neg (by decide)] at hΦ
  simp only[bV,↓reduceIte,zA,reduceCtorEq,zE,zB,zC,zD,zF,y4,y8,y19,g1,and_self,g2,decide_true]
  refine hR _ _ (hΨ4 _ _ ?_)
  simp only[bV,↓reduceIte,zA,reduceCtorEq,zE,zB,zC,zD,zF]
  refine hΨ2' _ _ _ (by simp) (by simp) (hΨ1' _ _ _ (by simp) ?_)
  simp only[bV,↓reduceIte,zA,reduceCtorEq,zE,zB,zC,zD,zF]
  exact hΦ _ H2 k12.any
 have w1:IntKind.i64.wrap ((P.N:Int)-b)=P.N-b:=aR (by omega) (by omega)
 by_cases g3:k>(P.N:Int)-b
 ·have he:P.iR b k y=1:=by unfold PH.iR;rw[if_neg (by omega)]
  rw[he,if_neg (by decide)] at hΦ
  simp only[bV,↓reduceIte,zA,reduceCtorEq,zE,zB,zC,zD,zF,y4,y8,y19,g1,and_self,g2,decide_true,decide_false,H2.l0,w1,g3]
  refine hR _ _ (hΨ4 _ _ ?_)
  simp only[bV,↓reduceIte,zA,reduceCtorEq,zE,zB,zC,zD,zF]
  refine hΨ2' _ _ _ (by simp) (by simp) (hΨ1' _ _ _ (by simp) ?_)
  simp only[bV,↓reduceIte,zA,reduceCtorEq,zE,zB,zC,zD,zF]
  exact hΦ _ H2 k12.any
 simp only[bV,↓reduceIte,zA,reduceCtorEq,zE,zB,zC,zD,zF,y4,y8,y19,g1,and_self,g2,decide_true,decide_false,H2.l0,w1,g3,ly,Nat.zero_add]
 refine aB ?_ (ZP y ?_)
 ·simp only[bV,↓reduceIte,zA,reduceCtorEq,zE,zB,zC,zD,zF]
 by_cases g4:0≤y∧y<8
 rotate_left
 ·have he:P.iR b k y=1:=by unfold PH.iR;rw[if_neg (fun h=>g4 ⟨h.2.2.2.2.1,h.2.2.2.2.2⟩)]
  rw[he,if_neg (by decide)] at hΦ
  simp only[bV,↓reduceIte,zA,reduceCtorEq,zE,zB,zC,zD,zF,y19,g4,decide_false]
  refine hR _ _ (hΨ4 _ _ ?_)
  simp only[bV,↓reduceIte,zA,reduceCtorEq,zE,zB,zC,zD,zF]
  refine hΨ2' _ _ _ (by simp) (by simp) (hΨ1' _ _ _ (by simp) ?_)
  simp only[bV,↓reduceIte,zA,reduceCtorEq,zE,zB,zC,zD,zF]
  exact hΦ _ H2 k12.any
 have he:P.iR b k y=if P.busy b.toNat k.toNat=true then 8 else 0:=by unfold PH.iR;rw[if_pos ⟨g1.1,g1.2,by omega,by omega,g4.1,g4.2⟩]
 simp only[bV,↓reduceIte,zA,reduceCtorEq,zE,zB,zC,zD,zF,y19,g4,and_self,decide_true]
 refine hR _ _ (hΨ4 _ _ ?_)
 simp only[bE,RV,RG,↓reduceIte,zA,reduceCtorEq,zE,zB,zC,zD,zF]
 obtain⟨p,rfl⟩:∃ p:Nat,b=p:=⟨b.toNat,by omega⟩
 obtain⟨m,rfl⟩:∃ m:Nat,k=m:=⟨k.toNat,by omega⟩
 simp only[Int.toNat_natCast] at hΦ he
 have hp:1≤p∧p<P.N:=by omega
 have hm:1≤m∧p+m≤P.N:=by omega
 have w2:IntKind.i64.wrap ((p:Int)+m)=((p+m:Nat):Int):=by rw[aR (by omega) (by omega)];rfl
 have e3:=LP (X:=X) (H:=s2.look) (t:=135) (e:=198) (N:=2) (b:=P.nb) (off:=0) (n:=P.N) (c:=P.N) (l:=p) (h:=p+m) (by kernel_rfl) (by kernel_rfl) H2.cb.isCells (by omega) (by omega) (by omega)
 refine aA fun Ψ5 hΨ5 hΨ5'=>?_
 simp only[bV,↓reduceIte,zA,reduceCtorEq,zE,zB,zC,zD,zF,H2.l0,w2,e3]
 refine aB ?_ (DB (b:=P.nb) (off:=p*2) (n:=m) (c:=P.N-p) (f:=fun j=>P.bs (p+j)) (g:=fun j=>P.bp (p+j)) k12.ok (by omega) (fun j hj=>?_) fun s3 k3=>?_)
 ·simp only[bV,↓reduceIte,zA,reduceCtorEq,zE,zB,zC,zD,zF,Nat.add_sub_cancel_left,Nat.zero_add]
 ·have e:p*2+j*2=(p+j)*2:=by omega
  rw[e]
  exact⟨H2.lb (by omega),H2.lp (by omega)⟩
 have k13:=k12.trans k3
 have H3:=H.aN k13
 have c3:=c1'.aF k3 (by simp)
 have d3:=c2.aF k3 (by simp)
 try simp only[bV,↓reduceIte,zA,reduceCtorEq,zE,zB,zC,zD,zF]
 refine hΨ5 _ _ ?_
 cases hbz:(List.range m).any (fun j=>!(P.bs (p+j)==0&&P.bp (p+j)==0)) with
 | true =>
  rw[if_pos (show P.busy p m=true from hbz)] at he
  rw[he,if_neg (by decide)] at hΦ
  simp only[bV,↓reduceIte,zA,reduceCtorEq,zE,zB,zC,zD,zF]
  refine hΨ2' _ _ _ (by simp) (by simp) (hΨ1' _ _ _ (by simp) ?_)
  simp only[bV,↓reduceIte,zA,reduceCtorEq,zE,zB,zC,zD,zF]
  exact hΦ _ H3 k13.any
 | false =>
  rw[if_neg (show ¬ P.busy p m=true from by unfold PH.busy;rw[hbz];decide)] at he
  rw[he,if_pos rfl] at hΦ
  simp only[bV,↓reduceIte,zA,reduceCtorEq,zE,zB,zC,zD,zF]
  refine hΨ2 _ _ (hΨ1 _ _ ?_)
  refine aA fun Ψ6 hΨ6 hΨ6'=>?_
  refine aA fun Ψ7 hΨ7 hΨ7'=>?_
  simp only[bV,↓reduceIte,zA,reduceCtorEq,zE,zB,zC,zD,zF]
  refine hΨ7 _ _ ?_
  refine aL fun Ψ8 hΨ8 hΨ8e hΨ8'=>?_
  have a2:s1.next≠P.nb:=by have:=H.cb.lt hs;have:=k1.next;omega
  have a1:s.next≠P.nb:=by have:=H.cb.lt hs;omega
  refine dP (n:=m) (fun j a' s'=>a'.aD 0=ptr h∧a'.aD 1=int p∧a'.aD 8=ptr s.next∧a'.aD 9=ptr s1.next∧a'.aD 53=int m∧a'.aD 54=int j∧aP s' h (P.fill p j u v)∧aC [P.nb] s s'∧Obj s' s.next [int x,int y]∧Obj s' s1.next [int u,int v])
   (fun j a' s'=>a'.aD 0=ptr h∧a'.aD 1=int p∧a'.aD 8=ptr s.next∧a'.aD 9=ptr s1.next∧a'.aD 53=int m∧a'.aD 54=int j∧aP s' h (P.fill p (j+1) u v)∧aC [P.nb] s s'∧Obj s' s.next [int x,int y]∧Obj s' s1.next [int u,int v]) ?_ ?_ ?_ ?_ (Nat.zero_le m) ?_
  ·rintro j a' s' hj ⟨r0,r1,r8,r9,r53,r54,H',k',c',d'⟩ Ψ' hΨ'
   simp only[bV,↓reduceIte,zA,reduceCtorEq,zE,zB,zC,zD,zF,r53,r54]
   refine hΨ' _ _ (decide ((j:Int)<m)) ?_ (by simp) ⟨?_,?_,?_,?_,?_,?_,H',k',c',d'⟩
   all_goals simp only[bV,↓reduceIte,zA,reduceCtorEq,zE,zB,zC,zD,zF,r0,r1,r8,r9,r53,r54]
  ·rintro j a' s' hj ⟨r0,r1,r8,r9,r53,r54,H',k',c',d'⟩ Ψ' h1 h2 h3
   have w3:IntKind.i64.wrap ((p:Int)+(j:Int))=((p+j:Nat):Int):=by rw[aR (by omega) (by omega)];rfl
   have q1:(0:Int)≤((p+j:Nat):Int):=Int.natCast_nonneg _
   have q2:((p+j:Nat):Int)<(P.N:Int):=by omega
   have ks:aC [] s' (s'.skip 20):=.skip k'.ok _
   obtain⟨s4,h4,H4,k4⟩:=(H'.aN ks).setBlock ks.ok (j:=p+j) (show p+j<P.N by omega) u v
   have h4':bJ (s'.skip 20) ⟨P.nb,(p+j)*2,none⟩ [int u,int v]=some s4:=h4
   have ld:=d'.aS (i:=0) (k:=2) (Nat.le_refl _)
   have l0:aI s'.look ⟨h,0,none⟩=some (.slice (some ⟨P.nb,0,none⟩) P.N P.N):=H'.l0
   refine aA fun Ψ9 hΨ9 hΨ9'=>?_
   simp only[bV,↓reduceIte,zA,reduceCtorEq,zE,zB,zC,zD,zF,r54]
   refine hΨ9 _ _ ?_
   refine aQ [] [] [] (by kernel_rfl) (by kernel_rfl) (by rfl) fun O hO ΨR hR=>?_
   simp only[bV,↓reduceIte,zA,reduceCtorEq,zE,zB,zC,zD,zF,r0,r1,r9,w3,q1,q2,and_self,aJ,Int.toNat_natCast,Nat.zero_add,l0,ld,List.drop_zero,List.take,h4']
   refine hR _ _ (h1 _ _ ⟨?_,?_,?_,?_,?_,?_,?_,(k'.cB _).trans k4,(c'.aF ks (by simp)).aF k4 (by simpa [PH.fill] using a1),(d'.aF ks (by simp)).aF k4 (by simpa [PH.fill] using a2)⟩)
   ·simp only[bV,↓reduceIte,zA,reduceCtorEq,zE,zB,zC,zD,zF,r0]
   ·simp only[bV,↓reduceIte,zA,reduceCtorEq,zE,zB,zC,zD,zF,r1]
   ·simp only[bV,↓reduceIte,zA,reduceCtorEq,zE,zB,zC,zD,zF,r8]
   ·simp only[bV,↓reduceIte,zA,reduceCtorEq,zE,zB,zC,zD,zF,r9]
   ·simp only[bV,↓reduceIte,zA,reduceCtorEq,zE,zB,zC,zD,zF,r53]
   ·simp only[bV,↓reduceIte,zA,reduceCtorEq,zE,zB,zC,zD,zF,r54]
   ·have e:P.fill p (j+1) u v={P.fill p j u v with bs:=eP (P.fill p j u v).bs (p+j) u,bp:=eP (P.fill p j u v).bp (p+j) v}:=by
     unfold PH.fill eP
     congr 1
     ·funext i
      by_cases h1:i=p+j
      ·subst h1;simp
      ·simp only[h1,if_false]
       by_cases h2:p≤i∧i<p+j
       ·rw[if_pos h2,if_pos (by omega)]
       ·rw[if_neg h2,if_neg (by omega)]
     ·funext i
      by_cases h1:i=p+j
      ·subst h1;simp
      ·simp only[h1,if_false]
       by_cases h2:p≤i∧i<p+j
       ·rw[if_pos h2,if_pos (by omega)]
       ·rw[if_neg h2,if_neg (by omega)]
    rw[e]
    exact H4
  ·rintro j a' s' hj ⟨r0,r1,r8,r9,r53,r54,H',k',c',d'⟩ Ψ' h1
   simp only[bV,↓reduceIte,zA,reduceCtorEq,zE,zB,zC,zD,zF,r54]
   refine h1 _ _ ⟨?_,?_,?_,?_,?_,?_,H',k',c',d'⟩
   ·simp only[bV,↓reduceIte,zA,reduceCtorEq,zE,zB,zC,zD,zF,r0]
   ·simp only[bV,↓reduceIte,zA,reduceCtorEq,zE,zB,zC,zD,zF,r1]
   ·simp only[bV,↓reduceIte,zA,reduceCtorEq,zE,zB,zC,zD,zF,r8]
   ·simp only[bV,↓reduceIte,zA,reduceCtorEq,zE,zB,zC,zD,zF,r9]
   ·simp only[bV,↓reduceIte,zA,reduceCtorEq,zE,zB,zC,zD,zF,r53]
   ·simp only[bV,↓reduceIte,zA,reduceCtorEq,zE,zB,zC,zD,zF]
    rw[aR (by omega) (by omega)];rfl
  ·rintro a' s' ⟨r0,r1,r8,r9,r53,r54,H',k',c',d'⟩
   have q1:(0:Int)≤(p:Int):=Int.natCast_nonneg _
   have q2:(p:Int)<(P.N:Int):=by omega
   have ks:aC [] s' (s'.skip 16):=.skip k'.ok _
   obtain⟨s4,h4,H4,k4⟩:=(H'.aN ks).setBlock ks.ok (j:=p) (show p<P.N by omega) x y
   have h4':bJ (s'.skip 16) ⟨P.nb,p*2,none⟩ [int x,int y]=some s4:=h4
   have ld:=c'.aS (i:=0) (k:=2) (Nat.le_refl _)
   have l0:aI s'.look ⟨h,0,none⟩=some (.slice (some ⟨P.nb,0,none⟩) P.N P.N):=H'.l0
   refine hΨ8e _ _ (hΨ6 _ _ ?_)
   refine aA fun Ψ10 hΨ10 hΨ10'=>?_
   refine aQ [] [] [] (by kernel_rfl) (by kernel_rfl) (by rfl) fun O hO ΨR hR=>?_
   simp only[bV,↓reduceIte,zA,reduceCtorEq,zE,zB,zC,zD,zF,r0,r1,r8,q1,q2,and_self,aJ,Int.toNat_natCast,Nat.zero_add,l0,ld,List.drop_zero,List.take,h4']
   refine hR _ _ (hΨ10 _ _ ?_)
   simp only[bV,↓reduceIte,zA,reduceCtorEq,zE,zB,zC,zD,zF]
   exact hΦ s4 H4 ((k'.cB _).trans k4)
  ·refine⟨?_,?_,?_,?_,?_,?_,?_,k13.any,c3,d3⟩
   ·simp only[bV,↓reduceIte,zA,reduceCtorEq,zE,zB,zC,zD,zF]
   ·simp only[bV,↓reduceIte,zA,reduceCtorEq,zE,zB,zC,zD,zF]
   ·simp only[bV,↓reduceIte,zA,reduceCtorEq,zE,zB,zC,zD,zF]
   ·simp only[bV,↓reduceIte,zA,reduceCtorEq,zE,zB,zC,zD,zF]
   ·simp only[bV,↓reduceIte,zA,reduceCtorEq,zE,zB,zC,zD,zF]
   ·simp only[bV,↓reduceIte,zA,reduceCtorEq,zE,zB,zC,zD,zF]
    rfl
   ·have e:P.fill p 0 u v=P:=by
     unfold PH.fill
     have:∀ j:Nat,¬ (p≤j∧j<p+0):=fun j=>by omega
     simp only[this,if_false]
    rw[e]
    exact H3
theorem XZ:type_of% (An @RX<|An @tW<|@HE):=An @RX<|An @tW<|@HE
theorem ZK (hs:Ok s) (H:aP s h P) (b y:Int) (hb1:-1000000<b∧b<1000000) (hΦ:∀ s',aP s' h (if P.iR b 1 y=0 then P.qY b.toNat 1 1 y 0 0 else P)→aC [P.nb] s s'→Φ (int (P.iR b 1 y)) s'):okF q X (KO kc) 79 [ptr h,int b,int y] s Φ:=by
 refine aG rfl fn_79 rfl (rs:=[.tmp 6]) rfl (N:=13) rfl rfl ?_
 refine aA fun Ψ0 hΨ0 hΨ0'=>?_
 simp only[XZ,↓reduceIte,zA,reduceCtorEq,zE,zB,zC,zD,zF]
 refine hΨ0 _ _ ?_
 refine aA fun Ψ1 hΨ1 hΨ1'=>?_
 simp only[XZ,↓reduceIte,zA,reduceCtorEq,zE,zB,zC,zD,zF]
 refine aB ?_ (JO hs H b 1 1 y 0 0 (by omega) hb1 fun s' h1 h2=>?_)
 ·simp only[XZ,↓reduceIte,zA,reduceCtorEq,zE,zB,zC,zD,zF]
 try simp only[XZ,↓reduceIte,zA,reduceCtorEq,zE,zB,zC,zD,zF]
 refine hΨ1 _ _ ?_
 simp only[XZ,↓reduceIte,zA,reduceCtorEq,zE,zB,zC,zD,zF]
 exact hΦ s' h1 h2
theorem LX:type_of% (An @RX<|@tW):=An @RX<|@tW
theorem GW (hs:Ok s) (H:aP s h P) (b k y:Int) (hk1:-1000000<k∧k<1000000) (hb1:-1000000<b∧b<1000000) (hΦ:∀ s',aP s' h (if P.iR b k y=0 then P.qY b.toNat k.toNat 2 y 3 y else P)→aC [P.nb] s s'→Φ (int (P.iR b k y)) s'):okF q X (KO kc) 143 [ptr h,int b,int k,int y] s Φ:=by
 refine aG rfl fn_143 rfl (rs:=[.tmp 8]) rfl (N:=17) rfl rfl ?_
 refine aA fun Ψ0 hΨ0 hΨ0'=>?_
 simp only[LX,↓reduceIte,zA,reduceCtorEq,zE,zB,zC,zD,zF]
 refine hΨ0 _ _ ?_
 refine aA fun Ψ1 hΨ1 hΨ1'=>?_
 simp only[LX,↓reduceIte,zA,reduceCtorEq,zE,zB,zC,zD,zF]
 refine aB ?_ (JO hs H b k 2 y 3 y hk1 hb1 fun s' h1 h2=>?_)
 ·simp only[LX,↓reduceIte,zA,reduceCtorEq,zE,zB,zC,zD,zF]
 try simp only[LX,↓reduceIte,zA,reduceCtorEq,zE,zB,zC,zD,zF]
 refine hΨ1 _ _ ?_
 simp only[LX,↓reduceIte,zA,reduceCtorEq,zE,zB,zC,zD,zF]
 exact hΦ s' h1 h2
end
end Go.Dust
namespace Go.Dust
section
variable {q:Bool} {X:Env} {K:qT}
theorem okC_rf {r:Option Nat} {g:Operand} {ps:Array Tmp} {aAm bd:Code} {a:bD} {s:St} {Φ:cP→bD→St→Prop} {f:FuncId} {first captured:Array Value} (hg:a.eval g=.func (.func f) first captured) (hlive:kV r s=true)
  (h:okF q X K f (first.toList++[.func (.yield s.next) #[] #[]]++captured.toList) (s.new fun v=>.loop .ready none a.tmps a.nt ps aAm bd v) fun _ s'=>∃ st t nt ps' as' bd' dF,s'.heap.get s.next=some (.loop st none t nt ps' as' bd' dF)∧st≠.busy ∧
   Φ .normal a (s'.put s.next fun v=>.loop .exhausted none t nt ps' as' bd' v)):jU q X K r (.rangeFunc g ps aAm bd) a s Φ:=by
 obtain⟨n,hn⟩:=h
 refine⟨n+1,?_⟩
 rw[bH,hg]
 simp only[hlive,if_true]
 rw[cQ.dS]
 refine hn.mono fun p hq=>?_
 obtain⟨v,s'⟩:=p
 obtain⟨st,t,nt,ps',as',bd',dF,h1,h2,h3⟩:=hq
 simp only at h1 ⊢
 rw[h1]
 simp only
 rw[if_neg h2]
 exact h3
theorem okR_of {l:Nat} {args:List Value} {s:St} {Φ:Value→St→Prop} {pend:Option Code} {t:PT Value} {nt:Nat} {ps:Array Tmp} {aAm bd:Code} {dF:Nat} (hl:s.heap.get l=some (.loop .ready pend t nt ps aAm bd dF)) (hn:args.length=ps.size)
  (h:jU q X K (some l) aAm {tmps:=lB t (ps.toList.zip args),nt:=nt} s fun e a s=>e=.normal∧∃ pend t nt ps aAm bd' dF,s.heap.get l=some (.loop .ready pend t nt ps aAm bd' dF) ∧
   jU q X K (some l) bd a (s.put l fun v=>.loop .busy pend t nt ps aAm bd' v) fun e _ s=>e=.normal∧∃ st pend t nt ps aAm bd dF,s.heap.get l=some (.loop st pend t nt ps aAm bd dF)∧Φ (.bool true) (s.put l fun v=>.loop .ready none t nt ps aAm bd v)) :
  okR q X K l args s Φ:=by
 obtain⟨n,hn'⟩:=h
 obtain⟨m,hm⟩:=cQ.jH (Q:=fun m (p:cP×bD×St)=>p.1=.normal∧∃ pend t nt ps aAm bd' dF,p.2.2.heap.get l=some (.loop .ready pend t nt ps aAm bd' dF) ∧
   (bH X K m (some l) bd p.2.1 (p.2.2.put l fun v=>.loop .busy pend t nt ps aAm bd' v)).jO q fun p=>p.1=.normal∧∃ st pend t nt ps aAm bd dF,p.2.2.heap.get l=some (.loop st pend t nt ps aAm bd dF)∧Φ (.bool true) (p.2.2.put l fun v=>.loop .ready none t nt ps aAm bd v))
  (fun m p hp=>by
   obtain⟨h1,a1,a2,a3,a4,a5,a6,a7,h2,h3⟩:=hp
   exact⟨h1,a1,a2,a3,a4,a5,a6,a7,h2,qG (Nat.le_succ m) h3⟩)
  (hn'.mono fun p hp=>by
   obtain⟨h1,a1,a2,a3,a4,a5,a6,a7,h2,k,h3⟩:=hp
   exact⟨k,h1,a1,a2,a3,a4,a5,a6,a7,h2,h3⟩)
 refine⟨max n m+1,?_⟩
 rw[dH,hl]
 simp only
 rw[if_pos hn,cQ.dS]
 refine(qG (Nat.le_max_left n m) hm).mono fun p hp=>?_
 obtain⟨e,a,s'⟩:=p
 obtain⟨h1,a1,a2,a3,a4,a5,a6,a7,h2,h3⟩:=hp
 simp only at h1 h2 h3
 subst h1
 simp only[h2]
 rw[cQ.dS]
 refine(qG (Nat.le_max_right n m) h3).mono fun p hp=>?_
 obtain⟨e,a,s''⟩:=p
 obtain⟨h1,b1,b2,b3,b4,b5,b6,b7,b8,h4,h5⟩:=hp
 simp only at h1 h4 h5
 subst h1
 simp only[h4]
 exact h5
end
section
variable {X:Env} {K:qT} {ops:Array Oper} {base i:Nat} {c:List (Nat×Nat)} {F:List Nat} {d:Option Tmp} {ty:TypeId} {pos:String} {af:Array Edge} {l:List Oper} {a:bD} {s:St} {Φ:bD→St→Prop}
theorem fe {t aAm ts} (hc:nH false X K s (a.aD t) (aAm.toList.map a.eval) fun v s'=>bO c F i (bZ a.eval s.look (.call ⟨.value (.tmp t),aAm,ts⟩)) s s'∧fD X K ops base c F l (i+1) (a.put d v) s' Φ) :
  fD X K ops base c F (⟨d,.call ⟨.value (.tmp t),aAm,ts⟩,ty,pos,af,none⟩::l) i a s Φ:=by
 obtain⟨n,hn⟩:=hc
 obtain⟨⟨v,s'⟩,h1,hno,m,⟨a2,s2,lg⟩,h2,h3⟩:=cQ.zY hn
 have hv:∀ (cl:eR) (r:dK),bL X cl r s a.eval (.call ⟨.value (.tmp t),aAm,ts⟩)=mQ X cl r s (a.aD t) (aAm.toList.map a.eval):=fun cl r=>rfl
 refine⟨max n m,⟨a2,s2,{yK:=true,reads:=bZ a.eval s.look (.call ⟨.value (.tmp t),aAm,ts⟩),pre:=s,post:=s'}::lg⟩,?_,⟨fun _=>hno,h3.1⟩,h3.2⟩
 rw[cI,if_pos (cL ..),jP]
 have h4:mQ X (dN X K (max n m)) (dH X K (max n m)) s (a.aD t) (aAm.toList.map a.eval)=.ret (v,s'):=by
  have hle:=IN (X:=X) (UB (X:=X) (K:=K) (Nat.le_max_left n m)) (OW (X:=X) (K:=K) (Nat.le_max_left n m)) s (a.aD t) (aAm.toList.map a.eval)
  rw[h1] at hle
  generalize mQ X (dN X K (max n m)) (dH X K (max n m)) s (a.aD t) (aAm.toList.map a.eval)=u at hle
  cases hle
  rfl
 simp only[show bN (.call ⟨.value (.tmp t),aAm,ts⟩)=.effect from rfl,hv,h4]
 rw[OM (Nat.le_max_right n m) h2]
theorem ba {t aAm ts f} {fi ca:Array Value} {args:List Value} (hf:a.aD t=.func (.func f) fi ca) (h:fi.toList++aAm.toList.map a.eval++ca.toList=args)
  (hc:okF false X K f args s fun v s'=>bO c F i (bZ a.eval s.look (.call ⟨.value (.tmp t),aAm,ts⟩)) s s'∧fD X K ops base c F l (i+1) (a.put d v) s' Φ):fD X K ops base c F (⟨d,.call ⟨.value (.tmp t),aAm,ts⟩,ty,pos,af,none⟩::l) i a s Φ:=by
 refine fe ?_
 rw[hf,xS,h]
 exact hc
theorem bc {t aAm ts y} {args:List Value} (hf:a.aD t=y) (h:aAm.toList.map a.eval=args)
  (hc:nH false X K s y args fun v s'=>bO c F i (bZ a.eval s.look (.call ⟨.value (.tmp t),aAm,ts⟩)) s s'∧fD X K ops base c F l (i+1) (a.put d v) s' Φ):fD X K ops base c F (⟨d,.call ⟨.value (.tmp t),aAm,ts⟩,ty,pos,af,none⟩::l) i a s Φ:=by
 refine fe ?_
 rw[hf,h]
 exact hc
end
end Go.Dust
