/- VerifySound walked in D, function by function, and its plain law (H1 H2 H3). -/
import Derived.Test.YtaoiejcaopgjcaaGreat1
set_option linter.unusedVariables false
set_option linter.unusedSimpArgs false
open Nat renaming reduceEqDiff → zA, reduceMul → zB, reduceAdd → zC, reduceBEq → zD
open Int renaming reduceEq → zE, reduceBEq → zF
namespace Go.Dust
open Go.Proofs
set_option maxRecDepth 100000
set_option maxHeartbeats 1000000
theorem nB {α:Type} {f:α→List Value} {m:Nat} (hf:∀ x,(f x).length=m):∀ (L:List α) {i j:Nat} (hi:i<L.length),j<m→(L.flatMap f)[i*m+j]?=(f L[i])[j]?
 | x::L,0,j,_,hj=>by
  rw[List.flatMap_cons,Nat.zero_mul,Nat.zero_add,List.getElem?_append_left (by rw[hf];exact hj)];rfl
 | x::L,i+1,j,hi,hj=>by
  rw[List.flatMap_cons,List.getElem?_append_right (by rw[hf,Nat.succ_mul];omega),hf,show (i+1)*m+j-m=i*m+j by rw[Nat.succ_mul];omega]
  exact nB hf L (by simpa using hi) hj
theorem kO {α:Type} {f:α→List Value} {m:Nat} (hf:∀ x,(f x).length=m):∀ (L:List α),(L.flatMap f).length=L.length*m
 | []=>by simp
 | x::L=>by rw[List.flatMap_cons,List.length_append,hf,kO hf L,List.length_cons,Nat.succ_mul,Nat.add_comm]
theorem mo {α:Type} {f:α→List Value} {m:Nat} (hf:∀ x,(f x).length=m) (L:List α) {i:Nat} (hi:i<L.length):((L.flatMap f).drop (i*m)).take m=f L[i]:=by
 apply List.ext_getElem?
 intro j
 by_cases hj:j<m
 ·rw[List.getElem?_take,if_pos hj,List.getElem?_drop,nB hf L hi hj]
 ·rw[List.getElem?_eq_none (by rw[List.length_take];omega),List.getElem?_eq_none (by rw[hf];omega)]
def cV.C (o:cV):List Value:=[int o.a,int o.id,int o.sh.r,int o.sh.d,int o.sh.k,.slice (some ⟨o.rn,0,none⟩) o.rs.length o.rs.length,.slice (some ⟨o.dn,0,none⟩) o.ds.length o.ds.length,.bool o.vI]
theorem cV.oT (o:cV):o.C.length=8:=rfl
structure lM where
 bn:Nat
 va:Option Addr
 vc:Nat
 N:Nat
 bs:Nat→Int
 bp:Nat→Int
 L:List cV
 born:Nat
def lM.own (g:Nat) (G:lM):List Nat:=g::G.bn::G.L.flatMap fun o=>[o.rn,o.dn]
def lM.aU (g:Nat) (G:lM):List Nat:=G.own g++nameOf (.slice G.va G.L.length G.vc)
structure cN (s:St) (g:Nat) (G:lM):Prop where
 c:Obj s g [.slice (some ⟨G.bn,0,none⟩) G.N G.N,.slice G.va G.L.length G.vc,.slice none 0 0,int G.born]
 cb:Obj s G.bn (row (2*G.N) fun i=>int (if i%2=0 then G.bs (i/2) else G.bp (i/2)))
 cl:kL s 133 8 (.slice G.va G.L.length G.vc) (G.L.flatMap cV.C)
 cr:∀ o∈G.L,Obj s o.rn (o.rs.map int)∧Obj s o.dn (o.ds.map int)
 nd:(G.own g).Nodup
 nl:∀ b∈nameOf (.slice G.va G.L.length G.vc),b∉G.own g
 n2:2≤G.N
 iJ:G.N≤64
 len:G.L.length≤2048
structure lO (P:PH) (G:lM):Prop where
 N:G.N=P.N
 bs:G.bs=P.bs
 bp:G.bp=P.bp
 born:G.born=P.born
 L:kM P G.L
namespace cN
variable {F:List Nat} {s s':St} {g:Nat} {G:lM}
theorem aF (H:cN s g G) (k:aC F s s') (hF:∀ x∈G.aU g,x∉F):cN s' g G:=by
 obtain⟨c,cb,cl,cr,nd,nl,n2,iJ,len⟩:=H
 have f1:∀ x∈G.own g,x∉F:=fun x hx=>hF x (List.mem_append_left _ hx)
 have f2:∀ o∈G.L,o.rn∈G.own g∧o.dn∈G.own g:=fun o ho =>
  ⟨List.mem_cons_of_mem _ (List.mem_cons_of_mem _ (List.mem_flatMap.2 ⟨o,ho,by simp⟩)),List.mem_cons_of_mem _ (List.mem_cons_of_mem _ (List.mem_flatMap.2 ⟨o,ho,by simp⟩))⟩
 exact⟨c.aF k (f1 _ (List.mem_cons_self ..)),cb.aF k (f1 _ (List.mem_cons_of_mem _ (List.mem_cons_self ..))),cl.aF k (fun b hb=>hF b (List.mem_append_right _ hb)),
  fun o ho=>⟨(cr o ho).1.aF k (f1 _ (f2 o ho).1),(cr o ho).2.aF k (f1 _ (f2 o ho).2)⟩,nd,nl,n2,iJ,len⟩
theorem aN (H:cN s g G) (k:aC [] s s'):cN s' g G:=H.aF k fun _ _=>by simp
theorem l0 (H:cN s g G):aI s.look ⟨g,0,none⟩=some (.slice (some ⟨G.bn,0,none⟩) G.N G.N):=H.c.load rfl
theorem l1 (H:cN s g G):aI s.look ⟨g,1,none⟩=some (.slice G.va G.L.length G.vc):=H.c.load rfl
theorem l3 (H:cN s g G):aI s.look ⟨g,3,none⟩=some (int G.born):=H.c.load rfl
theorem lb (H:cN s g G) {i:Nat} (hi:i<G.N):aI s.look ⟨G.bn,i*2,none⟩=some (int (G.bs i)):=by
 have:=H.cb.load (fB (n:=2*G.N) (i:=i*2) _ (by omega))
 simpa using this
theorem lp (H:cN s g G) {i:Nat} (hi:i<G.N):aI s.look ⟨G.bn,i*2+1,none⟩=some (int (G.bp i)):=by
 have:=H.cb.load (fB (n:=2*G.N) (i:=i*2+1) _ (by omega))
 rw[this,if_neg (by omega),show (i*2+1)/2=i by omega]
theorem addr (H:cN s g G) (h:0<G.L.length):∃ b off,G.va=some ⟨b,off,none⟩:=H.cl.sl.addr h
theorem lo (H:cN s g G) {b off i j:Nat} (hv:G.va=some ⟨b,off,none⟩) (hi:i<G.L.length) {v:Value} (hj:(G.L[i].C)[j]?=some v):aI s.look ⟨b,off+i*8+j,none⟩=some v:=by
 have hjl:j<8:=by
  have:=(List.getElem?_eq_some_iff.1 hj).1
  rwa [cV.oT] at this
 have h:=H.cl.sl
 rw[hv] at h
 have:=h.load (i:=i*8+j) (v:=v) (by rw[nB cV.oT _ hi hjl];exact hj)
 rw[← Nat.add_assoc] at this
 exact this
theorem lN (H:cN s g G) {b off i:Nat} (hv:G.va=some ⟨b,off,none⟩) (hi:i<G.L.length):aS s.look ⟨b,off+i*8,none⟩ 8=some G.L[i].C:=by
 have h:=H.cl.sl
 rw[hv] at h
 have:=h.aS (i:=i*8) (k:=8) (by omega) (by rw[kO cV.oT];omega)
 rw[mo cV.oT _ hi] at this
 exact this
theorem cH (H:cN s g G) (hs:Ok s):∀ x∈G.aU g,x<s.next:=by
 intro x hx
 rcases List.mem_append.1 hx with hx | hx
 ·rcases List.mem_cons.1 hx with rfl | hx
  ·exact H.c.lt hs
  ·rcases List.mem_cons.1 hx with rfl | hx
   ·exact H.cb.lt hs
   ·obtain⟨o,ho,hx⟩:=List.mem_flatMap.1 hx
    obtain⟨h1,h2⟩:=H.cr o ho
    rcases List.mem_cons.1 hx with rfl | hx
    ·exact h1.lt hs
    ·rw[List.mem_singleton.1 hx];exact h2.lt hs
 ·exact H.cl.lt hs x hx
end cN
section
variable {kc:Kc} {q:Bool} {s:St} {Φ:Value→St→Prop} {g:Nat} {G:lM} {P:PH}
theorem aAf:type_of% (An @RX<|An @yb<|An @xv<|An @fC<|An @jY<|@iY):=An @RX<|An @yb<|An @xv<|An @fC<|An @jY<|@iY
theorem nJ (H:cN s g G) (hΦ:Φ (.bool true) s):okF q X (KO kc) 90 [ptr g] s Φ:=by
 have n2:=H.n2
 have hp:((G.N:Nat):Int)>0:=by omega
 refine aG rfl fn_90 rfl (rs:=[.tmp 2]) rfl (N:=13) rfl rfl ?_
 refine aA fun Ψ0 hΨ0 hΨ0'=>?_
 simp only[aAf,↓reduceIte,zA,reduceCtorEq,zE,zB,zC,zD,zF]
 refine hΨ0 _ _ ?_
 refine aA fun Ψ1 hΨ1 hΨ1'=>?_
 refine aH [(2,5)] (by kernel_rfl) fun O hO ΨR hR=>?_
 have y2:∀ a,aE O a 2=aM (a.aD 5):=hO (2,5) (by simp)
 simp only[aAf,↓reduceIte,zA,reduceCtorEq,zE,zB,zC,zD,zF,y2,H.l0,hp,decide_true]
 refine hR _ _ (hΨ1 _ _ ?_)
 simp only[aAf,↓reduceIte,zA,reduceCtorEq,zE,zB,zC,zD,zF]
 exact hΦ
theorem PM:type_of% (An @RX<|An @fC<|An @jY<|@iY):=An @RX<|An @fC<|An @jY<|@iY
theorem KY (H:cN s g G) (hΦ:Φ (int G.N) s):okF q X (KO kc) 97 [ptr g] s Φ:=by
 refine aG rfl fn_97 rfl (rs:=[.tmp 2]) rfl (N:=11) rfl rfl ?_
 refine aA fun Ψ0 hΨ0 hΨ0'=>?_
 simp only[PM,↓reduceIte,zA,reduceCtorEq,zE,zB,zC,zD,zF]
 refine hΨ0 _ _ ?_
 refine aA fun Ψ1 hΨ1 hΨ1'=>?_
 refine aA fun Ψ2 hΨ2 hΨ2'=>?_
 simp only[PM,↓reduceIte,zA,reduceCtorEq,zE,zB,zC,zD,zF]
 refine aB ?_ (nJ H ?_)
 ·simp only[PM,↓reduceIte,zA,reduceCtorEq,zE,zB,zC,zD,zF]
 try simp only[PM,↓reduceIte,zA,reduceCtorEq,zE,zB,zC,zD,zF]
 refine hΨ2 _ _ ?_
 simp only[PM,↓reduceIte,zA,reduceCtorEq,zE,zB,zC,zD,zF]
 refine hΨ1 _ _ ?_
 simp only[PM,↓reduceIte,zA,reduceCtorEq,zE,zB,zC,zD,zF,H.l0]
 exact hΦ
theorem jM:type_of% (An @RX<|An @eK<|An @jA<|An @oO<|An @jX<|An @lS<|@bF):=An @RX<|An @eK<|An @jA<|An @oO<|An @jX<|An @lS<|@bF
theorem oG (H:cN s g G) (a:Int) (h1:∀ i (hi:i<G.L.length),G.L[i].a=a→Φ (int i) s) (h2:(∀ o∈G.L,o.a≠a)→Φ (int (-1)) s):okF q X (KO kc) 132 [ptr g,int a] s Φ:=by
 have hlen:=H.len
 refine aG rfl fn_132 rfl (rs:=[.tmp 4]) rfl (N:=29) rfl rfl ?_
 refine aA fun Ψ0 hΨ0 hΨ0'=>?_
 simp only[jM,↓reduceIte,zA,reduceCtorEq,zE,zB,zC,zD,zF]
 refine hΨ0 _ _ ?_
 refine aA fun Ψ1 hΨ1 hΨ1'=>?_
 refine aA fun Ψ2 hΨ2 hΨ2'=>?_
 simp only[jM,↓reduceIte,zA,reduceCtorEq,zE,zB,zC,zD,zF]
 refine aB ?_ (nJ H ?_)
 ·simp only[jM,↓reduceIte,zA,reduceCtorEq,zE,zB,zC,zD,zF]
 try simp only[jM,↓reduceIte,zA,reduceCtorEq,zE,zB,zC,zD,zF]
 refine hΨ2 _ _ ?_
 simp only[jM,↓reduceIte,zA,reduceCtorEq,zE,zB,zC,zD,zF]
 refine hΨ1 _ _ ?_
 refine aA fun Ψ3 hΨ3 hΨ3'=>?_
 refine aA fun Ψ4 hΨ4 hΨ4'=>?_
 simp only[jM,↓reduceIte,zA,reduceCtorEq,zE,zB,zC,zD,zF]
 refine hΨ4 _ _ ?_
 refine aL fun Ψ5 hΨ5 hΨ5e hΨ5'=>?_
 refine fY (n:=G.L.length) (fun j a' s'=>a'.aD 0=ptr g∧a'.aD 1=int a∧a'.aD 5=int j∧s'=s∧∀ k (hk:k<G.L.length),k<j→G.L[k].a≠a)
  (fun j a' s'=>a'.aD 0=ptr g∧a'.aD 1=int a∧a'.aD 5=int j∧s'=s∧∀ k (hk:k<G.L.length),k<j+1→G.L[k].a≠a) ?_ ?_ ?_ ?_ (Nat.zero_le _) ?_
 ·rintro j a' s' hj ⟨r0,r1,r5,rfl,hn⟩ Ψ' hΨ'
  simp only[jM,↓reduceIte,zA,reduceCtorEq,zE,zB,zC,zD,zF,r0,r5,H.l1]
  refine hΨ' _ _ (decide ((j:Int)<G.L.length)) ?_ (by simp) ⟨?_,?_,?_,rfl,hn⟩
  all_goals simp only[jM,↓reduceIte,zA,reduceCtorEq,zE,zB,zC,zD,zF,r0,r1,r5]
 ·rintro j a' s' hj ⟨r0,r1,r5,rfl,hn⟩ Ψ' w1 w2 w3
  obtain⟨vb,voff,hv⟩:=H.addr (show 0<G.L.length by omega)
  have g1:(0:Int)≤(j:Int):=Int.natCast_nonneg _
  have g2:(j:Int)<((G.L.length:Nat):Int):=by omega
  have l1:=H.l1
  rw[hv] at l1
  have lj:aI s'.look ⟨vb,voff+j*8,none⟩=some (int G.L[j].a):=H.lo hv hj (j:=0) rfl
  refine aA fun Ψ6 hΨ6 hΨ6'=>?_
  simp only[jM,↓reduceIte,zA,reduceCtorEq,zE,zB,zC,zD,zF,r0,r1,r5,l1,g1,g2,and_self,aJ,Int.toNat_natCast,lj]
  refine hΨ6 _ _ ?_
  by_cases he:G.L[j].a=a
  ·have he':(G.L[j].a==a)=true:=by simpa using he
   simp only[jM,↓reduceIte,zA,reduceCtorEq,zE,zB,zC,zD,zF,he',r5]
   refine w3 _ _ _ (by simp) (by simp) (hΨ5' _ _ _ (by simp) (by simp) (hΨ3' _ _ _ (by simp) ?_))
   simp only[jM,↓reduceIte,zA,reduceCtorEq,zE,zB,zC,zD,zF]
   exact h1 j hj he
  ·have he':(G.L[j].a==a)=false:=by simpa using he
   simp only[jM,↓reduceIte,zA,reduceCtorEq,zE,zB,zC,zD,zF,he']
   refine w1 _ _ ⟨?_,?_,?_,rfl,fun k hk hkj=>?_⟩
   ·simp only[jM,↓reduceIte,zA,reduceCtorEq,zE,zB,zC,zD,zF,r0]
   ·simp only[jM,↓reduceIte,zA,reduceCtorEq,zE,zB,zC,zD,zF,r1]
   ·simp only[jM,↓reduceIte,zA,reduceCtorEq,zE,zB,zC,zD,zF,r5]
   ·by_cases e:k=j
    ·subst e;exact he
    ·exact hn k hk (by omega)
 ·rintro j a' s' hj ⟨r0,r1,r5,rfl,hn⟩ Ψ' w1
  have w:IntKind.i64.wrap ((j:Int)+1)=((j+1:Nat):Int):=by rw[aR (by omega) (by omega)];rfl
  simp only[jM,↓reduceIte,zA,reduceCtorEq,zE,zB,zC,zD,zF,r5,w]
  refine w1 _ _ ⟨?_,?_,?_,rfl,hn⟩
  all_goals try simp only[jM,↓reduceIte,zA,reduceCtorEq,zE,zB,zC,zD,zF,r0,r1,r5]
 ·rintro a' s' ⟨r0,r1,r5,rfl,hn⟩
  refine hΨ5e _ _ (hΨ3 _ _ ?_)
  simp only[jM,↓reduceIte,zA,reduceCtorEq,zE,zB,zC,zD,zF]
  refine h2 fun o ho=>?_
  obtain⟨i,hi,rfl⟩:=List.mem_iff_getElem.1 ho
  exact hn i hi hi
 ·refine⟨?_,?_,?_,rfl,fun k hk h=>absurd h (Nat.not_lt_zero _)⟩
  all_goals try simp only[jM,↓reduceIte,zA,reduceCtorEq,zE,zB,zC,zD,zF]
  rfl
end
open Go.Proofs
set_option maxRecDepth 100000
set_option maxHeartbeats 1000000
section
variable {kc:Kc} {q:Bool} {s:St} {Φ:Value→St→Prop} {g:Nat} {G:lM} {P:PH}
theorem eY:type_of% (An @RX<|An @eC<|An @bF<|An @fX<|@kG):=An @RX<|An @eC<|An @bF<|An @fX<|@kG
theorem OS (hs:Ok s) (x:iV) (hΦ:∀ s',aC [] s s'→Φ (.bool x.valid) s'):okF q X (KO kc) 215 [jL x] s Φ:=by
 refine aG rfl fn_215 rfl (rs:=[.tmp 2]) rfl (N:=36) rfl rfl ?_
 refine aA fun Ψ0 hΨ0 hΨ0'=>?_
 simp only[eY,↓reduceIte,zA,reduceCtorEq,zE,zB,zC,zD,zF]
 obtain⟨s1,e1,k1,c1,_⟩:=aT hs (L:=[int x.r,int x.d,int x.k]) (n:=3) (e:=44) rfl
 rw[e1]
 refine hΨ0 _ _ ?_
 have l0:aI s1.look ⟨s.next,0,none⟩=some (int x.r):=c1.load rfl
 have l1:aI s1.look ⟨s.next,1,none⟩=some (int x.d):=c1.load rfl
 have l2:aI s1.look ⟨s.next,2,none⟩=some (int x.k):=c1.load rfl
 have hΦ':=hΦ _ k1
 have bad:∀ {c:Prop},(x.valid=true→¬ c)→c→x.valid=false:=fun h1 h2=>by
  cases h:x.valid with
  | false=>rfl
  | true=>exact absurd h2 (h1 h)
 have hv:=iV.dX (x:=x)
 refine aA fun Ψ1 hΨ1 hΨ1'=>?_
 refine aA fun Ψ2 hΨ2 hΨ2'=>?_
 refine aH [(3,6),(8,11),(13,16)] (by kernel_rfl) fun O hO ΨR hR=>?_
 have y3:∀ a,aE O a 3=aM (a.aD 6):=hO (3,6) (by simp)
 have y8:∀ a,aE O a 8=aM (a.aD 11):=hO (8,11) (by simp)
 have y13:∀ a,aE O a 13=aM (a.aD 16):=hO (13,16) (by simp)
 by_cases g1:x.r<0
 ·rw[bad (fun h=>by have:=hv.1 h;omega) g1] at hΦ'
  simp only[eY,↓reduceIte,zA,reduceCtorEq,zE,zB,zC,zD,zF,l0,l1,l2,Nat.zero_add,y3,y8,y13,g1,decide_true]
  refine hR _ _ (hΨ2 _ _ ?_)
  simp only[eY,↓reduceIte,zA,reduceCtorEq,zE,zB,zC,zD,zF]
  refine hΨ1' _ _ _ (by simp) ?_
  simp only[eY,↓reduceIte,zA,reduceCtorEq,zE,zB,zC,zD,zF]
  exact hΦ'
 by_cases g2:x.r>15
 ·rw[bad (fun h=>by have:=hv.1 h;omega) g2] at hΦ'
  simp only[eY,↓reduceIte,zA,reduceCtorEq,zE,zB,zC,zD,zF,l0,l1,l2,Nat.zero_add,y3,y8,y13,g1,g2,decide_true,decide_false]
  refine hR _ _ (hΨ2 _ _ ?_)
  simp only[eY,↓reduceIte,zA,reduceCtorEq,zE,zB,zC,zD,zF]
  refine hΨ1' _ _ _ (by simp) ?_
  simp only[eY,↓reduceIte,zA,reduceCtorEq,zE,zB,zC,zD,zF]
  exact hΦ'
 by_cases g3:x.d<0
 ·rw[bad (fun h=>by have:=hv.1 h;omega) g3] at hΦ'
  simp only[eY,↓reduceIte,zA,reduceCtorEq,zE,zB,zC,zD,zF,l0,l1,l2,Nat.zero_add,y3,y8,y13,g1,g2,g3,decide_true,decide_false]
  refine hR _ _ (hΨ2 _ _ ?_)
  simp only[eY,↓reduceIte,zA,reduceCtorEq,zE,zB,zC,zD,zF]
  refine hΨ1' _ _ _ (by simp) ?_
  simp only[eY,↓reduceIte,zA,reduceCtorEq,zE,zB,zC,zD,zF]
  exact hΦ'
 by_cases g4:x.d>200
 ·rw[bad (fun h=>by have:=hv.1 h;omega) g4] at hΦ'
  simp only[eY,↓reduceIte,zA,reduceCtorEq,zE,zB,zC,zD,zF,l0,l1,l2,Nat.zero_add,y3,y8,y13,g1,g2,g3,g4,decide_true,decide_false]
  refine hR _ _ (hΨ2 _ _ ?_)
  simp only[eY,↓reduceIte,zA,reduceCtorEq,zE,zB,zC,zD,zF]
  refine hΨ1' _ _ _ (by simp) ?_
  simp only[eY,↓reduceIte,zA,reduceCtorEq,zE,zB,zC,zD,zF]
  exact hΦ'
 simp only[eY,↓reduceIte,zA,reduceCtorEq,zE,zB,zC,zD,zF,l0,l1,l2,Nat.zero_add,y3,y8,y13,g1,g2,g3,g4,decide_false]
 refine hR _ _ (hΨ2 _ _ ?_)
 simp only[eY,↓reduceIte,zA,reduceCtorEq,zE,zB,zC,zD,zF]
 refine hΨ1 _ _ ?_
 refine aA fun Ψ3 hΨ3 hΨ3'=>?_
 refine aA fun Ψ4 hΨ4 hΨ4'=>?_
 simp only[eY,↓reduceIte,zA,reduceCtorEq,zE,zB,zC,zD,zF,l2]
 refine hΨ4 _ _ ?_
 refine aL fun Ψ5 hΨ5 hΨ5e hΨ5'=>?_
 refine aA fun Ψ6 hΨ6 hΨ6'=>?_
 by_cases k0:x.k=0
 ·rw[hv.2 ⟨by omega,by omega,by omega,by omega,by omega,by omega,by omega,by omega⟩] at hΦ'
  simp only[eY,↓reduceIte,zA,reduceCtorEq,zE,zB,zC,zD,zF,k0,beq_self_eq_true]
  refine hΨ6 _ _ ?_
  simp only[eY,↓reduceIte,zA,reduceCtorEq,zE,zB,zC,zD,zF]
  refine hΨ5' _ _ _ (by simp) (by simp) (hΨ3' _ _ _ (by simp) ?_)
  simp only[eY,↓reduceIte,zA,reduceCtorEq,zE,zB,zC,zD,zF]
  exact hΦ'
 ·have e0:(x.k==0)=false:=by simpa using k0
  by_cases k3:x.k=3
  ·rw[hv.2 ⟨by omega,by omega,by omega,by omega,by omega,by omega,by omega,by omega⟩] at hΦ'
   simp only[eY,↓reduceIte,zA,reduceCtorEq,zE,zB,zC,zD,zF,e0,k3,beq_self_eq_true]
   refine hΨ6 _ _ ?_
   simp only[eY,↓reduceIte,zA,reduceCtorEq,zE,zB,zC,zD,zF]
   refine hΨ5' _ _ _ (by simp) (by simp) (hΨ3' _ _ _ (by simp) ?_)
   simp only[eY,↓reduceIte,zA,reduceCtorEq,zE,zB,zC,zD,zF]
   exact hΦ'
  ·have e3:(x.k==3)=false:=by simpa using k3
   simp only[eY,↓reduceIte,zA,reduceCtorEq,zE,zB,zC,zD,zF,e0,e3]
   refine hΨ6 _ _ ?_
   by_cases k1:x.k=1
   ·have hr:x.valid=decide (x.r≥1):=by
     by_cases h:x.r≥1
     ·rw[decide_eq_true h];exact hv.2 ⟨by omega,by omega,by omega,by omega,by omega,by omega,by omega,by omega⟩
     ·rw[decide_eq_false h];exact bad (fun h'=>by have:=hv.1 h';omega) k1
    rw[hr] at hΦ'
    simp only[eY,↓reduceIte,zA,reduceCtorEq,zE,zB,zC,zD,zF,k1,l0,beq_self_eq_true]
    refine hΨ5' _ _ _ (by simp) (by simp) (hΨ3' _ _ _ (by simp) ?_)
    simp only[eY,↓reduceIte,zA,reduceCtorEq,zE,zB,zC,zD,zF]
    exact hΦ'
   ·have e1:(x.k==1)=false:=by simpa using k1
    by_cases k2:x.k=2
    ·have hr:x.valid=decide (x.r≥2):=by
      by_cases h:x.r≥2
      ·rw[decide_eq_true h];exact hv.2 ⟨by omega,by omega,by omega,by omega,by omega,by omega,by omega,by omega⟩
      ·rw[decide_eq_false h];exact bad (fun h'=>by have:=hv.1 h';omega) k2
     rw[hr] at hΦ'
     simp only[eY,↓reduceIte,zA,reduceCtorEq,zE,zB,zC,zD,zF,e1,k2,l0,beq_self_eq_true]
     refine hΨ5' _ _ _ (by simp) (by simp) (hΨ3' _ _ _ (by simp) ?_)
     simp only[eY,↓reduceIte,zA,reduceCtorEq,zE,zB,zC,zD,zF]
     exact hΦ'
    ·have e2:(x.k==2)=false:=by simpa using k2
     rw[bad (fun h=>by have:=hv.1 h;omega) k2] at hΦ'
     simp only[eY,↓reduceIte,zA,reduceCtorEq,zE,zB,zC,zD,zF,e1,e2]
     refine hΨ5 _ _ (hΨ3 _ _ ?_)
     simp only[eY,↓reduceIte,zA,reduceCtorEq,zE,zB,zC,zD,zF]
     exact hΦ'
theorem vD:type_of% (An @RX<|An @gV<|An @eC<|An @bF<|@fX):=An @RX<|An @gV<|An @eC<|An @bF<|@fX
theorem oH (hs:Ok s) (x:iV) (hΦ:∀ s',aC [] s s'→Φ (int x.words) s'):okF q X (KO kc) 214 [jL x] s Φ:=by
 refine aG rfl fn_214 rfl (rs:=[.tmp 2]) rfl (N:=17) rfl rfl ?_
 refine aA fun Ψ0 hΨ0 hΨ0'=>?_
 simp only[vD,↓reduceIte,zA,reduceCtorEq,zE,zB,zC,zD,zF]
 obtain⟨s1,e1,k1,c1,_⟩:=aT hs (L:=[int x.r,int x.d,int x.k]) (n:=3) (e:=44) rfl
 rw[e1]
 refine hΨ0 _ _ ?_
 have h3:=c1.aS (i:=0) (k:=3) (Nat.le_refl _)
 refine aA fun Ψ1 hΨ1 hΨ1'=>?_
 refine aA fun Ψ2 hΨ2 hΨ2'=>?_
 simp only[vD,↓reduceIte,zA,reduceCtorEq,zE,zB,zC,zD,zF,h3,List.drop_zero,List.take]
 refine aB ?_ (OS k1.ok x fun s2 k2=>?_)
 ·simp only[vD,↓reduceIte,zA,reduceCtorEq,zE,zB,zC,zD,zF]
 try simp only[vD,↓reduceIte,zA,reduceCtorEq,zE,zB,zC,zD,zF]
 refine hΨ2 _ _ ?_
 have c2:=c1.aF k2 (by simp)
 have hΦ':=hΦ _ (k1.trans k2)
 unfold iV.words at hΦ'
 cases hv:x.valid with
 | false =>
  rw[hv] at hΦ'
  simp only[vD,↓reduceIte,zA,reduceCtorEq,zE,zB,zC,zD,zF]
  refine hΨ1' _ _ _ (by simp) ?_
  simp only[vD,↓reduceIte,zA,reduceCtorEq,zE,zB,zC,zD,zF]
  exact hΦ'
 | true =>
  rw[hv,if_pos rfl] at hΦ'
  have hv':=iV.dX.1 hv
  simp only[vD,↓reduceIte,zA,reduceCtorEq,zE,zB,zC,zD,zF]
  refine hΨ1 _ _ ?_
  have l0:aI s2.look ⟨s.next,0,none⟩=some (int x.r):=c2.load rfl
  have l1:aI s2.look ⟨s.next,1,none⟩=some (int x.d):=c2.load rfl
  refine aA fun Ψ3 hΨ3 hΨ3'=>?_
  simp only[vD,↓reduceIte,zA,reduceCtorEq,zE,zB,zC,zD,zF,l0,l1,Nat.zero_add]
  refine hΨ3 _ _ ?_
  simp only[vD,↓reduceIte,zA,reduceCtorEq,zE,zB,zC,zD,zF]
  rw[aR (n:=2+x.r) (by omega) (by omega),aR (n:=2+x.r+x.d) (by omega) (by omega),Int.tmod_eq_emod_of_nonneg (by omega),aR (by omega) (by omega),show 2+x.r+x.d+(2+x.r+x.d)%2=(x.r+x.d+3)/2*2 by omega]
  exact hΦ'
theorem TB:type_of% (An @RX<|@gV):=An @RX<|@gV
theorem EF (hs:Ok s) (x:iV) (hΦ:∀ s',aC [] s s'→Φ (.bool (decide (x.words>32))) s'):okF q X (KO kc) 142 [jL x] s Φ:=by
 refine aG rfl fn_142 rfl (rs:=[.tmp 2]) rfl (N:=6) rfl rfl ?_
 refine aA fun Ψ0 hΨ0 hΨ0'=>?_
 simp only[TB,↓reduceIte,zA,reduceCtorEq,zE,zB,zC,zD,zF]
 obtain⟨s1,e1,k1,c1,_⟩:=aT hs (L:=[int x.r,int x.d,int x.k]) (n:=3) (e:=44) rfl
 rw[e1]
 refine hΨ0 _ _ ?_
 have h3:=c1.aS (i:=0) (k:=3) (Nat.le_refl _)
 simp only[TB,↓reduceIte,zA,reduceCtorEq,zE,zB,zC,zD,zF,h3,List.drop_zero,List.take]
 refine aB ?_ (oH k1.ok x fun s2 k2=>?_)
 ·simp only[TB,↓reduceIte,zA,reduceCtorEq,zE,zB,zC,zD,zF]
 simp only[TB,↓reduceIte,zA,reduceCtorEq,zE,zB,zC,zD,zF]
 exact hΦ _ (k1.trans k2)
theorem TC:type_of% (An @RX<|@gV):=An @RX<|@gV
theorem LB (hs:Ok s) (x:iV) (hΦ:∀ s',aC [] s s'→Φ (int ((x.words+63)/64)) s'):okF q X (KO kc) 144 [jL x] s Φ:=by
 have hw:=x.nU
 refine aG rfl fn_144 rfl (rs:=[.tmp 2]) rfl (N:=8) rfl rfl ?_
 refine aA fun Ψ0 hΨ0 hΨ0'=>?_
 simp only[TC,↓reduceIte,zA,reduceCtorEq,zE,zB,zC,zD,zF]
 obtain⟨s1,e1,k1,c1,_⟩:=aT hs (L:=[int x.r,int x.d,int x.k]) (n:=3) (e:=44) rfl
 rw[e1]
 refine hΨ0 _ _ ?_
 have h3:=c1.aS (i:=0) (k:=3) (Nat.le_refl _)
 simp only[TC,↓reduceIte,zA,reduceCtorEq,zE,zB,zC,zD,zF,h3,List.drop_zero,List.take]
 refine aB ?_ (oH k1.ok x fun s2 k2=>?_)
 ·simp only[TC,↓reduceIte,zA,reduceCtorEq,zE,zB,zC,zD,zF]
 simp only[TC,↓reduceIte,zA,reduceCtorEq,zE,zB,zC,zD,zF]
 rw[aR (n:=x.words+64) (by omega) (by omega),aR (n:=x.words+64-1) (by omega) (by omega),Int.tdiv_eq_ediv_of_nonneg (by omega),aR (by omega) (by omega),show x.words+64-1=x.words+63 by omega]
 exact hΦ _ (k1.trans k2)
theorem MC:type_of% (An @RX<|An @fC<|An @jY<|@iY):=An @RX<|An @fC<|An @jY<|@iY
theorem OT (H:cN s g G) (b:Int) (hΦ:Φ (.bool (decide (1≤b∧b<G.N))) s):okF q X (KO kc) 240 [ptr g,int b] s Φ:=by
 refine aG rfl fn_240 rfl (rs:=[.tmp 4]) rfl (N:=16) rfl rfl ?_
 refine aA fun Ψ0 hΨ0 hΨ0'=>?_
 simp only[MC,↓reduceIte,zA,reduceCtorEq,zE,zB,zC,zD,zF]
 refine hΨ0 _ _ ?_
 refine aA fun Ψ1 hΨ1 hΨ1'=>?_
 refine aH [(2,7)] (by kernel_rfl) fun O hO ΨR hR=>?_
 have y2:∀ a,aE O a 2=aM (a.aD 7):=hO (2,7) (by simp)
 by_cases h1:b≥1
 ·rw[show decide (1≤b∧b<(G.N:Int))=decide (b<(G.N:Int)) from decide_eq_decide.2 ⟨fun h=>h.2,fun h=>⟨h1,h⟩⟩] at hΦ
  simp only[MC,↓reduceIte,zA,reduceCtorEq,zE,zB,zC,zD,zF,y2,h1,decide_true,H.l0]
  refine hR _ _ (hΨ1 _ _ ?_)
  simp only[MC,↓reduceIte,zA,reduceCtorEq,zE,zB,zC,zD,zF]
  exact hΦ
 ·rw[show decide (1≤b∧b<(G.N:Int))=false from decide_eq_false (fun h=>h1 h.1)] at hΦ
  simp only[MC,↓reduceIte,zA,reduceCtorEq,zE,zB,zC,zD,zF,y2,h1,decide_false]
  refine hR _ _ (hΨ1 _ _ ?_)
  simp only[MC,↓reduceIte,zA,reduceCtorEq,zE,zB,zC,zD,zF]
  exact hΦ
theorem MD:type_of% (An @RC<|An @RO<|An @RD<|An @RV<|An @RB<|@RG):=An @RC<|An @RO<|An @RD<|An @RV<|An @RB<|@RG
theorem OU (b:Int) (hΦ:Φ (.bool (decide (0≤b∧b<8))) s):okF q X (KO kc) 241 [int b] s Φ:=by
 refine aG rfl fn_241 rfl (rs:=[.tmp 2]) rfl (N:=9) rfl rfl ?_
 refine aA fun Ψ0 hΨ0 hΨ0'=>?_
 simp only[MD,↓reduceIte,zA,reduceCtorEq,zE,zB,zC,zD,zF]
 refine hΨ0 _ _ ?_
 refine aA fun Ψ1 hΨ1 hΨ1'=>?_
 refine aH [(2,5)] (by kernel_rfl) fun O hO ΨR hR=>?_
 have y2:∀ a,aE O a 2=aM (a.aD 5):=hO (2,5) (by simp)
 by_cases h1:b≥0
 ·rw[show decide (0≤b∧b<8)=decide (b<8) from decide_eq_decide.2 ⟨fun h=>h.2,fun h=>⟨h1,h⟩⟩] at hΦ
  simp only[MD,↓reduceIte,zA,reduceCtorEq,zE,zB,zC,zD,zF,y2,h1,decide_true]
  refine hR _ _ (hΨ1 _ _ ?_)
  simp only[MD,↓reduceIte,zA,reduceCtorEq,zE,zB,zC,zD,zF]
  exact hΦ
 ·rw[show decide (0≤b∧b<8)=false from decide_eq_false (fun h=>h1 h.1)] at hΦ
  simp only[MD,↓reduceIte,zA,reduceCtorEq,zE,zB,zC,zD,zF,y2,h1,decide_false]
  refine hR _ _ (hΨ1 _ _ ?_)
  simp only[MD,↓reduceIte,zA,reduceCtorEq,zE,zB,zC,zD,zF]
  exact hΦ
theorem oK:type_of% (An @RC<|An @RO<|An @RD<|An @RV<|An @RB<|@RG):=An @RC<|An @RO<|An @RD<|An @RV<|An @RB<|@RG
theorem yM (H:cN s g G) (S:kM P G.L) (a:Int) (hΦ:Φ (int (if P.has a=true then 0 else 4)) s):okF q X (KO kc) 146 [ptr g,int a] s Φ:=by
 have hlen:=H.len
 refine aG rfl fn_146 rfl (rs:=[.tmp 4]) rfl (N:=12) rfl rfl ?_
 refine aA fun Ψ0 hΨ0 hΨ0'=>?_
 simp only[oK,↓reduceIte,zA,reduceCtorEq,zE,zB,zC,zD,zF]
 refine hΨ0 _ _ ?_
 refine aA fun Ψ1 hΨ1 hΨ1'=>?_
 refine aA fun Ψ2 hΨ2 hΨ2'=>?_
 simp only[oK,↓reduceIte,zA,reduceCtorEq,zE,zB,zC,zD,zF]
 refine aB ?_ (nJ H ?_)
 ·simp only[oK,↓reduceIte,zA,reduceCtorEq,zE,zB,zC,zD,zF]
 try simp only[oK,↓reduceIte,zA,reduceCtorEq,zE,zB,zC,zD,zF]
 refine hΨ2 _ _ ?_
 simp only[oK,↓reduceIte,zA,reduceCtorEq,zE,zB,zC,zD,zF]
 refine hΨ1 _ _ ?_
 refine aA fun Ψ3 hΨ3 hΨ3'=>?_
 refine aA fun Ψ4 hΨ4 hΨ4'=>?_
 simp only[oK,↓reduceIte,zA,reduceCtorEq,zE,zB,zC,zD,zF]
 refine aB ?_ (oG H a (fun i hi he=>?_) (fun hn=>?_))
 ·simp only[oK,↓reduceIte,zA,reduceCtorEq,zE,zB,zC,zD,zF]
 ·have hh:P.has a=true:=S.mem.1 ⟨_,List.getElem_mem hi,he⟩
  rw[if_pos hh] at hΦ
  have h0:¬ ((i:Int)<0):=by omega
  simp only[oK,↓reduceIte,zA,reduceCtorEq,zE,zB,zC,zD,zF,h0,decide_false]
  refine hΨ4 _ _ ?_
  simp only[oK,↓reduceIte,zA,reduceCtorEq,zE,zB,zC,zD,zF]
  refine hΨ3 _ _ ?_
  simp only[oK,↓reduceIte,zA,reduceCtorEq,zE,zB,zC,zD,zF]
  exact hΦ
 ·have hh:¬ P.has a=true:=fun h=>by
   obtain⟨o,ho,e⟩:=S.mem.2 h
   exact hn o ho e
  rw[if_neg hh] at hΦ
  have h0:((-1:Int)<0):=by omega
  simp only[oK,↓reduceIte,zA,reduceCtorEq,zE,zB,zC,zD,zF,h0,decide_true]
  refine hΨ4 _ _ ?_
  simp only[oK,↓reduceIte,zA,reduceCtorEq,zE,zB,zC,zD,zF]
  refine hΨ3' _ _ _ (by simp) ?_
  simp only[oK,↓reduceIte,zA,reduceCtorEq,zE,zB,zC,zD,zF]
  exact hΦ
theorem MI:type_of% (An @RC<|An @RO<|An @RD<|An @RV<|An @RB<|@RG):=An @RC<|An @RO<|An @RD<|An @RV<|An @RB<|@RG
theorem ref_Has (H:cN s g G) (S:kM P G.L) (a:Int) (hΦ:Φ (.bool (P.has a)) s):okF q X (KO kc) 96 [ptr g,int a] s Φ:=by
 refine aG rfl fn_96 rfl (rs:=[.tmp 4]) rfl (N:=9) rfl rfl ?_
 refine aA fun Ψ0 hΨ0 hΨ0'=>?_
 simp only[MI,↓reduceIte,zA,reduceCtorEq,zE,zB,zC,zD,zF]
 refine hΨ0 _ _ ?_
 refine aA fun Ψ1 hΨ1 hΨ1'=>?_
 simp only[MI,↓reduceIte,zA,reduceCtorEq,zE,zB,zC,zD,zF]
 refine aB ?_ (oG H a (fun i hi he=>?_) (fun hn=>?_))
 ·simp only[MI,↓reduceIte,zA,reduceCtorEq,zE,zB,zC,zD,zF]
 ·have hh:P.has a=true:=S.mem.1 ⟨_,List.getElem_mem hi,he⟩
  rw[hh] at hΦ
  have h0:((i:Int)≥0):=by omega
  simp only[MI,↓reduceIte,zA,reduceCtorEq,zE,zB,zC,zD,zF,h0,decide_true]
  refine hΨ1 _ _ ?_
  simp only[MI,↓reduceIte,zA,reduceCtorEq,zE,zB,zC,zD,zF]
  exact hΦ
 ·have hh:P.has a=false:=by
   cases h:P.has a with
   | false=>rfl
   | true =>
    obtain⟨o,ho,e⟩:=S.mem.2 h
    exact absurd e (hn o ho)
  rw[hh] at hΦ
  have h0:¬ ((-1:Int)≥0):=by omega
  simp only[MI,↓reduceIte,zA,reduceCtorEq,zE,zB,zC,zD,zF,h0,decide_false]
  refine hΨ1 _ _ ?_
  simp only[MI,↓reduceIte,zA,reduceCtorEq,zE,zB,zC,zD,zF]
  exact hΦ
theorem pY:type_of% (An @RX<|An @fC<|An @jY<|An @iY<|An @pP<|An @lW<|@bF):=An @RX<|An @fC<|An @jY<|An @iY<|An @pP<|An @lW<|@bF
theorem EG (H:cN s g G) (b:Int) (hΦ:Φ (int (if 0≤b∧b<G.N then G.bs b.toNat else -1)) s):okF q X (KO kc) 187 [ptr g,int b] s Φ:=by
 refine aG rfl fn_187 rfl (rs:=[.tmp 4]) rfl (N:=29) rfl rfl ?_
 refine aA fun Ψ0 hΨ0 hΨ0'=>?_
 simp only[pY,↓reduceIte,zA,reduceCtorEq,zE,zB,zC,zD,zF]
 refine hΨ0 _ _ ?_
 refine aA fun Ψ1 hΨ1 hΨ1'=>?_
 refine aA fun Ψ2 hΨ2 hΨ2'=>?_
 refine aH [(3,8),(7,12)] (by kernel_rfl) fun O hO ΨR hR=>?_
 have y3:∀ a,aE O a 3=aM (a.aD 8):=hO (3,8) (by simp)
 have y7:∀ a,aE O a 7=aM (a.aD 12):=hO (7,12) (by simp)
 simp only[pY,↓reduceIte,zA,reduceCtorEq,zE,zB,zC,zD,zF]
 refine aB ?_ (nJ H ?_)
 ·simp only[pY,↓reduceIte,zA,reduceCtorEq,zE,zB,zC,zD,zF]
 by_cases h0:b<0
 ·simp only[pY,↓reduceIte,zA,reduceCtorEq,zE,zB,zC,zD,zF,y3,y7,h0,decide_true]
  refine hR _ _ (hΨ2 _ _ ?_)
  simp only[pY,↓reduceIte,zA,reduceCtorEq,zE,zB,zC,zD,zF]
  refine hΨ1' _ _ _ (by simp) ?_
  simp only[pY,↓reduceIte,zA,reduceCtorEq,zE,zB,zC,zD,zF]
  rw[if_neg (by omega)] at hΦ
  exact hΦ
 ·by_cases h1:b≥G.N
  ·simp only[pY,↓reduceIte,zA,reduceCtorEq,zE,zB,zC,zD,zF,y3,y7,h0,H.l0,h1,decide_true,decide_false]
   refine hR _ _ (hΨ2 _ _ ?_)
   simp only[pY,↓reduceIte,zA,reduceCtorEq,zE,zB,zC,zD,zF]
   refine hΨ1' _ _ _ (by simp) ?_
   simp only[pY,↓reduceIte,zA,reduceCtorEq,zE,zB,zC,zD,zF]
   rw[if_neg (by omega)] at hΦ
   exact hΦ
  ·simp only[pY,↓reduceIte,zA,reduceCtorEq,zE,zB,zC,zD,zF,y3,y7,h0,H.l0,h1,decide_false]
   refine hR _ _ (hΨ2 _ _ ?_)
   simp only[pY,↓reduceIte,zA,reduceCtorEq,zE,zB,zC,zD,zF]
   refine hΨ1 _ _ ?_
   have g1:0≤b:=by omega
   have g2:b<(G.N:Int):=by omega
   have l:=H.lb (i:=b.toNat) (by omega)
   simp only[pY,↓reduceIte,zA,reduceCtorEq,zE,zB,zC,zD,zF,H.l0,g1,g2,and_self,aJ,Nat.zero_add,l]
   rw[if_pos ⟨g1,g2⟩] at hΦ
   exact hΦ
theorem pZ:type_of% (An @RX<|An @fC<|An @jY<|An @iY<|An @pP<|An @VE<|@bF):=An @RX<|An @fC<|An @jY<|An @iY<|An @pP<|An @VE<|@bF
theorem pz (H:cN s g G) (b:Int) (hΦ:Φ (int (if 0≤b∧b<G.N then G.bp b.toNat else -1)) s):okF q X (KO kc) 188 [ptr g,int b] s Φ:=by
 refine aG rfl fn_188 rfl (rs:=[.tmp 4]) rfl (N:=29) rfl rfl ?_
 refine aA fun Ψ0 hΨ0 hΨ0'=>?_
 simp only[pZ,↓reduceIte,zA,reduceCtorEq,zE,zB,zC,zD,zF]
 refine hΨ0 _ _ ?_
 refine aA fun Ψ1 hΨ1 hΨ1'=>?_
 refine aA fun Ψ2 hΨ2 hΨ2'=>?_
 refine aH [(3,8),(7,12)] (by kernel_rfl) fun O hO ΨR hR=>?_
 have y3:∀ a,aE O a 3=aM (a.aD 8):=hO (3,8) (by simp)
 have y7:∀ a,aE O a 7=aM (a.aD 12):=hO (7,12) (by simp)
 simp only[pZ,↓reduceIte,zA,reduceCtorEq,zE,zB,zC,zD,zF]
 refine aB ?_ (nJ H ?_)
 ·simp only[pZ,↓reduceIte,zA,reduceCtorEq,zE,zB,zC,zD,zF]
 by_cases h0:b<0
 ·simp only[pZ,↓reduceIte,zA,reduceCtorEq,zE,zB,zC,zD,zF,y3,y7,h0,decide_true]
  refine hR _ _ (hΨ2 _ _ ?_)
  simp only[pZ,↓reduceIte,zA,reduceCtorEq,zE,zB,zC,zD,zF]
  refine hΨ1' _ _ _ (by simp) ?_
  simp only[pZ,↓reduceIte,zA,reduceCtorEq,zE,zB,zC,zD,zF]
  rw[if_neg (by omega)] at hΦ
  exact hΦ
 ·by_cases h1:b≥G.N
  ·simp only[pZ,↓reduceIte,zA,reduceCtorEq,zE,zB,zC,zD,zF,y3,y7,h0,H.l0,h1,decide_true,decide_false]
   refine hR _ _ (hΨ2 _ _ ?_)
   simp only[pZ,↓reduceIte,zA,reduceCtorEq,zE,zB,zC,zD,zF]
   refine hΨ1' _ _ _ (by simp) ?_
   simp only[pZ,↓reduceIte,zA,reduceCtorEq,zE,zB,zC,zD,zF]
   rw[if_neg (by omega)] at hΦ
   exact hΦ
  ·simp only[pZ,↓reduceIte,zA,reduceCtorEq,zE,zB,zC,zD,zF,y3,y7,h0,H.l0,h1,decide_false]
   refine hR _ _ (hΨ2 _ _ ?_)
   simp only[pZ,↓reduceIte,zA,reduceCtorEq,zE,zB,zC,zD,zF]
   refine hΨ1 _ _ ?_
   have g1:0≤b:=by omega
   have g2:b<(G.N:Int):=by omega
   have l:=H.lp (i:=b.toNat) (by omega)
   simp only[pZ,↓reduceIte,zA,reduceCtorEq,zE,zB,zC,zD,zF,H.l0,g1,g2,and_self,aJ,Nat.zero_add,l]
   rw[if_pos ⟨g1,g2⟩] at hΦ
   exact hΦ
end
open Go.Proofs
set_option maxRecDepth 100000
set_option maxHeartbeats 2000000
theorem yT {Y:Env} {s:St} {t e N n c l h:Nat} {a:Option Addr} {L:List Value} {lo hi:Option Value} (hd:((Y.ty t).map fun i=>i.desc)=some (.slice e)) (he:((Y.ty e).map fun i=>i.size)=some N) (hN:0<N) (B:kL s e N (.slice a n c) L)
  (h1:l≤h) (h2:h≤n) (hlo:(lo=none∧l=0)∨lo=some (int l)) (hhi:(hi=none∧h=n)∨hi=some (int h)) :
  ∃ a' c',dE Y s.look t (.slice a n c) lo hi none=some (.slice a' (h-l) c')∧iS s.look N (h-l) (.slice a' (h-l) c')=some ((L.drop (l*N)).take ((h-l)*N)):=by
 have hs:=B.sl
 have hlen:=hs.len
 cases hti:Y.ty t with
 | none=>rw[hti] at hd;cases hd
 | some i =>
 cases hj:Y.ty e with
 | none=>rw[hj] at he;cases he
 | some j =>
 rw[hti] at hd
 rw[hj] at he
 have hd':i.desc=.slice e:=by simpa using hd
 have he':j.size=N:=by simpa using he
 have hb:∀ lo' hi',gO lo=some lo'→gO hi=some hi'→n≤c→iD n c lo' hi'=some (l,h):=by
  intro lo' hi' e1 e2 hnc
  unfold iD
  rcases hhi with ⟨rfl,rfl⟩ | rfl
  ·cases e2
   rcases hlo with ⟨rfl,rfl⟩ | rfl
   ·cases e1;rfl
   ·cases e1
    simp only
    rw[if_pos ⟨by omega,by omega⟩];rfl
  ·cases e2
   simp only
   rw[if_pos ⟨by omega,by omega⟩]
   rcases hlo with ⟨rfl,rfl⟩ | rfl
   ·cases e1;rfl
   ·cases e1
    simp only[Int.toNat_natCast]
    rw[if_pos ⟨by omega,by omega⟩]
 obtain⟨lo',e1⟩:∃ x,gO lo=some x:=by rcases hlo with ⟨rfl,_⟩ | rfl <;> exact⟨_,rfl⟩
 obtain⟨hi',e2⟩:∃ x,gO hi=some x:=by rcases hhi with ⟨rfl,_⟩ | rfl <;> exact⟨_,rfl⟩
 cases B with
 | nil =>
  have:=hb lo' hi' e1 e2 (Nat.le_refl _)
  obtain rfl:h=0:=by omega
  obtain rfl:l=0:=by omega
  refine⟨none,0,?_,?_⟩
  ·simp only[dE,hti,e1,e2,hd',this,hj]
  ·simp[iS]
 | @own b off n c L0 L hh hc hn hL hl =>
  obtain⟨cc,z,room,dF,g1,g2⟩:=hh
  have g1':s.look b=some (.cells cc z L0.length e room false dF):=g1
  have:=hb lo' hi' e1 e2 hn
  have hz:dE Y s.look t (.slice (some ⟨b,off,none⟩) n c) lo hi none=if c=l then some (.slice (some (if room then⟨b,off,some (l*j.size)⟩ else⟨b,off,none⟩)) (h-l) (c-l)) else some (.slice (some ((⟨b,off,none⟩:Addr).add (l*j.size))) (h-l) (c-l)):=by
   simp only[dE,hti,e1,e2,hd',this,hj,g1']
   rw[if_pos ⟨by omega,by omega⟩]
  by_cases hcl:c=l
  ·rw[if_pos hcl] at hz
   have h0:h-l=0:=by omega
   refine⟨_,_,hz,?_⟩
   rw[h0,Nat.zero_mul,List.take_zero]
   simp[iS]
  ·rw[if_neg hcl,he'] at hz
   simp only[aJ] at hz
   refine⟨_,_,hz,?_⟩
   simp only[iS]
   by_cases h0:(h-l)*N=0
   ·rw[if_pos h0,h0,List.take_zero]
   ·rw[if_neg h0]
    have hm:l*N+(h-l)*N=h*N:=by rw[← Nat.add_mul];congr 1;omega
    have hm2:h*N≤n*N:=Nat.mul_le_mul_right _ h2
    exact hs.aS (by omega) (by omega)
theorem DO {α:Type} {f:α→List Value} {m:Nat} (hf:∀ x,(f x).length=m):∀ (L:List α) (i:Nat),(L.flatMap f).take (i*m)=(L.take i).flatMap f
 | [],i=>by simp
 | x::L,0=>by simp
 | x::L,i+1=>by
  rw[List.flatMap_cons,List.take_append,hf,List.take_of_length_le (by rw[hf,Nat.succ_mul];omega),show (i+1)*m-m=i*m by rw[Nat.succ_mul];omega,DO hf L i,List.take_succ_cons,List.flatMap_cons]
theorem AE {α:Type} {f:α→List Value} {m:Nat} (hf:∀ x,(f x).length=m):∀ (L:List α) (i:Nat),(L.flatMap f).drop (i*m)=(L.drop i).flatMap f
 | [],i=>by simp
 | x::L,0=>by simp
 | x::L,i+1=>by
  rw[List.flatMap_cons,List.drop_append,hf,List.drop_of_length_le (by rw[hf,Nat.succ_mul];omega),show (i+1)*m-m=i*m by rw[Nat.succ_mul];omega,AE hf L i,List.drop_succ_cons,List.nil_append]
theorem uu {α β:Type} {f:α→List β} {l m:List α} (h:l.Sublist m):(l.flatMap f).Sublist (m.flatMap f):=by
 induction h with
 | slnil=>exact .slnil
 | cons a _ ih=>rw[List.flatMap_cons];exact ih.trans (List.sublist_append_right ..)
 | cons_cons a _ ih=>rw[List.flatMap_cons,List.flatMap_cons];exact List.Sublist.append (List.Sublist.refl _) ih
theorem yl (L:List cV):(L.flatMap cV.C).all kZ=true:=by
 rw[List.all_flatMap,List.all_eq_true]
 intro o _
 rfl
theorem cN.newL {s s':St} {g:Nat} {G:lM} (H:cN s g G) {F:List Nat} (k:aC F s s') (hF:∀ x∈G.own g,x≠g→x∉F) {va:Option Addr} {vc:Nat} {L:List cV}
  (hc:Obj s' g [.slice (some ⟨G.bn,0,none⟩) G.N G.N,.slice va L.length vc,.slice none 0 0,int G.born]) (hl:kL s' 133 8 (.slice va L.length vc) (L.flatMap cV.C))
  (hr:∀ o∈L,Obj s' o.rn (o.rs.map int)∧Obj s' o.dn (o.ds.map int)) (hn:(({G with L:=L}:lM).own g).Nodup) (hv:∀ b∈nameOf (.slice va L.length vc),b∉({G with L:=L}:lM).own g) (hlen:L.length≤2048):cN s' g {G with va:=va,vc:=vc,L:=L}:=by
 obtain⟨c,cb,cl,cr,nd,nl,n2,iJ,len⟩:=H
 have hne:G.bn≠g:=fun e=>by
  unfold lM.own at nd
  rw[List.nodup_cons] at nd
  exact nd.1 (by rw[← e];exact List.mem_cons_self ..)
 exact⟨hc,cb.aF k (hF _ (List.mem_cons_of_mem _ (List.mem_cons_self ..)) hne),hl,hr,hn,hv,n2,iJ,hlen⟩
section
variable {kc:Kc} {q:Bool} {s:St} {Φ:Value→St→Prop} {g:Nat} {G:lM} {P:PH}
theorem bz_133:((X.ty 133).map fun i=>(i.bytes,i.size,i.zero))=some (96,8,some (.agg #[int 0,int 0,int 0,int 0,int 0,.slice none 0 0,.slice none 0 0,.bool false])):=by kernel_rfl
theorem TA:((X.ty 133).map fun i=>i.size)=some 8:=by kernel_rfl
theorem IV:((X.ty 128).map fun i=>i.desc)=some (.slice 133):=by kernel_rfl
theorem vU {s:St} {n c k:Nat} {x:Value} {a:Option Addr} {L:List Value} {M:List cV} (hs:Ok s) (hb:kL s 133 8 (.slice a n c) L) (hx:JS x=some k) (hf:iS s.look 8 k x=some (M.flatMap cV.C)) (hk:M.length=k) (hm:n+k<1000000) :
  ∃ a' c' s',iC X s #[128,128] [.slice a n c,x]=some (.slice a' (n+k) c',s')∧kL s' 133 8 (.slice a' (n+k) c') (L++M.flatMap cV.C)∧aC (nameOf (.slice a n c)) s s'∧(∀ b∈nameOf (.slice a' (n+k) c'),b∈nameOf (.slice a n c)∨s.next≤b):=by
 obtain⟨v,s',h1,h2,h3,h4,a',c',rfl⟩:=eI (X:=X) (t:=128) IV bz_133 rfl hs (by omega) hb hx hf (by rw[kO cV.oT,hk]) (yl M) (by omega) (by omega)
 exact⟨a',c',s',h1,h2,h3,h4⟩
theorem AS:type_of% (An @RX<|An @eK<|An @jA<|@SW):=An @RX<|An @eK<|An @jA<|@SW
theorem ref_cut (hs:Ok s) (H:cN s g G) {i:Nat} (hi:i<G.L.length)
  (hΦ:∀ va vc s',cN s' g {G with va:=va,vc:=vc,L:=G.L.eraseIdx i}→aC [g] s s'→(∀ b∈nameOf (.slice va (G.L.eraseIdx i).length vc),s.next≤b)→Φ (.tuple #[]) s'):okF q X (KO kc) 147 [ptr g,int i] s Φ:=by
 have hlen:=H.len
 have hfl:=H.cH hs
 have hg:g<s.next:=H.c.lt hs
 refine aG rfl fn_147 rfl (rs:=[]) rfl (N:=25) rfl rfl ?_
 refine aA fun Ψ0 hΨ0 hΨ0'=>?_
 simp only[AS,↓reduceIte,zA,reduceCtorEq,zE,zB,zC,zD,zF]
 refine hΨ0 _ _ ?_
 refine aA fun Ψ1 hΨ1 hΨ1'=>?_
 obtain⟨w1,wc1,x1,f1⟩:=yT (Y:=X) (t:=128) (lo:=none) (hi:=some (int i)) (l:=0) (h:=i) IV TA (by omega) H.cl (by omega) (by omega) (.inl ⟨rfl,rfl⟩) (.inr rfl)
 rw[Nat.zero_mul,List.drop_zero,DO cV.oT] at f1
 rw[Nat.sub_zero] at x1 f1
 obtain⟨a1,c1,s1,e1,b1,k1,m1⟩:=vU (n:=0) (c:=0) (a:=none) hs .nil (x:=.slice w1 i wc1) rfl f1 (by rw[List.length_take];omega) (by omega)
 rw[Nat.zero_add,List.nil_append] at *
 simp only[AS,↓reduceIte,zA,reduceCtorEq,zE,zB,zC,zD,zF,H.l1,x1]
 refine jZ ?_ e1 ?_
 ·simp only[AS,↓reduceIte,zA,reduceCtorEq,zE,zB,zC,zD,zF]
 simp only[AS,↓reduceIte,zA,reduceCtorEq,zE,zB,zC,zD,zF]
 refine hΨ1 _ _ ?_
 have k1:aC [] s s1:=k1
 have m1:∀ b∈nameOf (.slice a1 i c1),s.next≤b:=fun b hb=>(m1 b hb).elim (fun h=>by cases h) id
 have H1:=H.aN k1
 obtain⟨w2,wc2,x2,f2⟩:=yT (Y:=X) (t:=128) (lo:=some (int ((i+1:Nat)))) (hi:=none) (l:=i+1) (h:=G.L.length) IV TA (by omega) H1.cl (by omega) (by omega) (.inr rfl) (.inl ⟨rfl,rfl⟩)
 rw[AE cV.oT,List.take_of_length_le (by rw[kO cV.oT,List.length_drop];omega)] at f2
 obtain⟨a2,c2,s2,e2,b2,k2,m2⟩:=vU k1.ok b1 (x:=.slice w2 (G.L.length-(i+1)) wc2) rfl f2 (by rw[List.length_drop]) (by omega)
 have hw:IntKind.i64.wrap ((i:Int)+1)=((i+1:Nat):Int):=by rw[aR (by omega) (by omega)];rfl
 simp only[AS,↓reduceIte,zA,reduceCtorEq,zE,zB,zC,zD,zF,H1.l1,hw,x2]
 refine jZ ?_ e2 ?_
 ·simp only[AS,↓reduceIte,zA,reduceCtorEq,zE,zB,zC,zD,zF]
 have hgn:g∉nameOf (.slice a1 i c1):=fun h=>by have:=m1 _ h;omega
 obtain⟨s3,e3,o3,k3⟩:=((H1.c).aF k2 hgn).dU k2.ok (i:=1) (v:=.slice a2 (i+(G.L.length-(i+1))) c2) (by simp) rfl
 simp only[AS,↓reduceIte,zA,reduceCtorEq,zE,zB,zC,zD,zF,e3]
 have eL:(G.L.eraseIdx i)=G.L.take i++G.L.drop (i+1):=List.eraseIdx_eq_take_drop_succ ..
 have eN:(G.L.eraseIdx i).length=i+(G.L.length-(i+1)):=by rw[eL,List.length_append,List.length_take,List.length_drop];omega
 have m2:∀ b∈nameOf (.slice a2 (i+(G.L.length-(i+1))) c2),s.next≤b:=fun b hb=>by
  rcases m2 b hb with h | h
  ·exact m1 b h
  ·have:=k1.next;omega
 have k02:aC [] s s2:=k1.step k2 fun y hy=>.inr (hs.fresh y (m1 y hy))
 have k03:aC [g] s s3:=k02.any.trans k3
 have own:∀ x∈({G with L:=G.L.eraseIdx i}:lM).own g,x∈G.own g:=by
  intro x hx
  unfold lM.own at hx ⊢
  simp only[List.mem_cons] at hx ⊢
  rcases hx with h | h | h
  ·exact .inl h
  ·exact .inr (.inl h)
  ·obtain⟨o,ho,hx⟩:=List.mem_flatMap.1 h
   exact .inr (.inr (List.mem_flatMap.2 ⟨o,List.mem_of_mem_eraseIdx ho,hx⟩))
 have ownlt:∀ x∈G.own g,x<s.next:=fun x hx=>hfl x (List.mem_append_left _ hx)
 have hndg:=H.nd
 refine hΦ a2 c2 s3 (H.newL k03 (fun x _ hne hm=>hne (List.mem_singleton.1 hm)) ?_ ?_ (fun o ho=>?_) ?_ ?_ (by rw[eN];omega)) k03 (by rw[eN];exact m2)
 ·rw[eN];exact o3
 ·rw[eN,eL,List.flatMap_append]
  refine b2.aF k3 fun b hb hbg=>?_
  have:=m2 b hb
  rw[List.mem_singleton.1 hbg] at this
  omega
 ·have ho':=List.mem_of_mem_eraseIdx ho
  have hne:o.rn≠g∧o.dn≠g:=by
   unfold lM.own at hndg
   rw[List.nodup_cons] at hndg
   exact⟨fun e=>hndg.1 (by rw[← e];exact List.mem_cons_of_mem _ (List.mem_flatMap.2 ⟨o,ho',by simp⟩)),fun e=>hndg.1 (by rw[← e];exact List.mem_cons_of_mem _ (List.mem_flatMap.2 ⟨o,ho',by simp⟩))⟩
  exact⟨(H.cr o ho').1.aF k03 (by simpa using hne.1),(H.cr o ho').2.aF k03 (by simpa using hne.2)⟩
 ·unfold lM.own at hndg ⊢
  refine hndg.sublist (List.Sublist.cons_cons _ (List.Sublist.cons_cons _ ?_))
  exact uu (List.eraseIdx_sublist ..)
 ·rw[eN]
  intro b hb hm
  have h1:=m2 b hb
  have h2:=ownlt b (own b hm)
  omega
end
end Go.Dust
