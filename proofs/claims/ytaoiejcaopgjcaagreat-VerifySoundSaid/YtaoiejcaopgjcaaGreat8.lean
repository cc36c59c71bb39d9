/- VerifySound walked in D, function by function, and its plain law (K1 K2 K4 K3). -/
import Derived.Test.YtaoiejcaopgjcaaGreat7
set_option linter.unusedVariables false
set_option linter.unusedSimpArgs false
open Nat renaming reduceEqDiff → zA, reduceMul → zB, reduceAdd → zC, reduceBEq → zD
open Int renaming reduceEq → zE, reduceBEq → zF
namespace Go.Dust
open Go.Proofs
set_option maxRecDepth 100000
set_option maxHeartbeats 4000000
def kN (a b:List Nat):Prop:=∀ y∈a,y∉b
theorem kN.symm {a b:List Nat} (h:kN a b):kN b a:=fun y hb ha=>h y ha hb
theorem kN.grow {a a' b:List Nat} {N:Nat} (h:kN a b) (ha:∀ y∈a',y∈a∨N≤y) (hb:∀ y∈b,y<N):kN a' b:=fun y hy hyb=>by
 rcases ha y hy with g | g
 ·exact h y g hyb
 ·have:=hb y hyb;omega
structure Mem (N:Nat) (s:St) (x h r g t:Nat) (P:PH) (R:PR) (G:lM) (Q:RQ) (R2:PR):Prop where
 c:Obj s x [ptr h,ptr r,ptr g,ptr t]
 H:aP s h P
 A:bB s r R
 K:cN s g G
 T:mV s t Q R2
 xP:kN [x] (P.aU h)
 xR:kN [x] (R.aU r)
 xG:kN [x] (G.aU g)
 xT:kN [x] (Q.aU t R2)
 pR:kN (P.aU h) (R.aU r)
 pG:kN (P.aU h) (G.aU g)
 pT:kN (P.aU h) (Q.aU t R2)
 rG:kN (R.aU r) (G.aU g)
 rT:kN (R.aU r) (Q.aU t R2)
 gT:kN (G.aU g) (Q.aU t R2)
 lx:N≤x
 lP:∀ y∈P.aU h,N≤y
 lR:∀ y∈R.aU r,N≤y
 lG:∀ y∈G.aU g,N≤y
 lT:∀ y∈Q.aU t R2,N≤y
namespace Mem
variable {N:Nat} {F:List Nat} {s s':St} {x h r g t:Nat} {P P':PH} {R R':PR} {G G':lM} {Q Q':RQ} {R2 R2':PR}
theorem aN (M:Mem N s x h r g t P R G Q R2) (k:aC [] s s'):Mem N s' x h r g t P R G Q R2 :=
 ⟨M.c.aF k (by simp),M.H.aN k,M.A.aN k,M.K.aN k,M.T.aN k,M.xP,M.xR,M.xG,M.xT,M.pR,M.pG,M.pT,M.rG,M.rT,M.gT,M.lx,M.lP,M.lR,M.lG,M.lT⟩
theorem xlt (M:Mem N s x h r g t P R G Q R2) (hs:Ok s):∀ y∈[x],y<s.next:=fun y hy=>by rw[List.mem_singleton.1 hy];exact M.c.lt hs
theorem NC (M:Mem N s x h r g t P R G Q R2) (hs:Ok s) (k:aC F s s') (hF:∀ y∈F,y∈P.aU h) (H':aP s' h P') (f:P'.aU h=P.aU h):Mem N s' x h r g t P' R G Q R2 :=
 ⟨M.c.aF k (fun hm=>M.xP x (List.mem_singleton.2 rfl) (hF _ hm)),H',M.A.aF k (fun y hy hm=>M.pR y (hF _ hm) hy),M.K.aF k (fun y hy hm=>M.pG y (hF _ hm) hy),M.T.aF k (fun y hy hm=>M.pT y (hF _ hm) hy),
  by rw[f];exact M.xP,M.xR,M.xG,M.xT,by rw[f];exact M.pR,by rw[f];exact M.pG,by rw[f];exact M.pT,M.rG,M.rT,M.gT,M.lx,by rw[f];exact M.lP,M.lR,M.lG,M.lT⟩
theorem setR (M:Mem N s x h r g t P R G Q R2) (hs:Ok s) (k:aC F s s') (hF:∀ y∈F,y∈R.aU r) (A':bB s' r R') (f:∀ y∈R'.aU r,y∈R.aU r∨s.next≤y):Mem N s' x h r g t P R' G Q R2 :=
 ⟨M.c.aF k (fun hm=>M.xR x (List.mem_singleton.2 rfl) (hF _ hm)),M.H.aF k (fun y hy hm=>M.pR y hy (hF _ hm)),A',M.K.aF k (fun y hy hm=>M.rG y (hF _ hm) hy),M.T.aF k (fun y hy hm=>M.rT y (hF _ hm) hy),
  M.xP,(M.xR.symm.grow f (M.xlt hs)).symm,M.xG,M.xT,(M.pR.symm.grow f (M.H.cH hs)).symm,M.pG,M.pT,M.rG.grow f (M.K.cH hs),M.rT.grow f (M.T.cH hs),M.gT,M.lx,M.lP,(fun y hy=>(f y hy).elim (M.lR y) fun g=>Nat.le_trans (Nat.le_trans M.lx (Nat.le_of_lt (M.c.lt hs))) g),M.lG,M.lT⟩
theorem zt (M:Mem N s x h r g t P R G Q R2) (hs:Ok s) (k:aC F s s') (hF:∀ y∈F,y∈G.aU g) (G1:cN s' g G') (f:∀ y∈G'.aU g,y∈G.aU g∨s.next≤y):Mem N s' x h r g t P R G' Q R2 :=
 ⟨M.c.aF k (fun hm=>M.xG x (List.mem_singleton.2 rfl) (hF _ hm)),M.H.aF k (fun y hy hm=>M.pG y hy (hF _ hm)),M.A.aF k (fun y hy hm=>M.rG y hy (hF _ hm)),G1,M.T.aF k (fun y hy hm=>M.gT y (hF _ hm) hy),
  M.xP,M.xR,(M.xG.symm.grow f (M.xlt hs)).symm,M.xT,M.pR,(M.pG.symm.grow f (M.H.cH hs)).symm,M.pT,(M.rG.symm.grow f (M.A.cH hs)).symm,M.rT,M.gT.grow f (M.T.cH hs),M.lx,M.lP,M.lR,(fun y hy=>(f y hy).elim (M.lG y) fun g=>Nat.le_trans (Nat.le_trans M.lx (Nat.le_of_lt (M.c.lt hs))) g),M.lT⟩
theorem setT (M:Mem N s x h r g t P R G Q R2) (hs:Ok s) (k:aC F s s') (hF:∀ y∈F,y∈Q.aU t R2) (T':mV s' t Q' R2') (f:∀ y∈Q'.aU t R2',y∈Q.aU t R2∨s.next≤y):Mem N s' x h r g t P R G Q' R2' :=
 ⟨M.c.aF k (fun hm=>M.xT x (List.mem_singleton.2 rfl) (hF _ hm)),M.H.aF k (fun y hy hm=>M.pT y hy (hF _ hm)),M.A.aF k (fun y hy hm=>M.rT y hy (hF _ hm)),M.K.aF k (fun y hy hm=>M.gT y hy (hF _ hm)),T',
  M.xP,M.xR,M.xG,(M.xT.symm.grow f (M.xlt hs)).symm,M.pR,M.pG,(M.pT.symm.grow f (M.H.cH hs)).symm,M.rG,(M.rT.symm.grow f (M.A.cH hs)).symm,(M.gT.symm.grow f (M.K.cH hs)).symm,M.lx,M.lP,M.lR,M.lG,(fun y hy=>(f y hy).elim (M.lT y) fun g=>Nat.le_trans (Nat.le_trans M.lx (Nat.le_of_lt (M.c.lt hs))) g)⟩
theorem l0 (M:Mem N s x h r g t P R G Q R2):aI s.look ⟨x,0,none⟩=some (ptr h):=M.c.load rfl
theorem l1 (M:Mem N s x h r g t P R G Q R2):aI s.look ⟨x,1,none⟩=some (ptr r):=M.c.load rfl
theorem l2 (M:Mem N s x h r g t P R G Q R2):aI s.look ⟨x,2,none⟩=some (ptr g):=M.c.load rfl
theorem l3 (M:Mem N s x h r g t P R G Q R2):aI s.look ⟨x,3,none⟩=some (ptr t):=M.c.load rfl
end Mem
def cG (N:Nat) (s s':St):Prop:=∃ F,aC F s s'∧∀ y∈F,N≤y
theorem cG.of {N:Nat} {F:List Nat} {s s':St} (k:aC F s s') (h:∀ y∈F,N≤y):cG N s s':=⟨F,k,h⟩
theorem cG.tA {N:Nat} {s s':St} (k:aC [] s s'):cG N s s':=⟨[],k,fun _ h=>by cases h⟩
theorem cG.trans {N:Nat} {a b c:St} (h:cG N a b) (k:cG N b c):cG N a c:=by
 obtain⟨F,h1,h2⟩:=h
 obtain⟨F',k1,k2⟩:=k
 refine⟨F++F',(h1.mono fun x hx=>List.mem_append_left _ hx).trans (k1.mono fun x hx=>List.mem_append_right _ hx),fun y hy=>?_⟩
 rcases List.mem_append.1 hy with g | g
 ·exact h2 y g
 ·exact k2 y g
theorem cG.ok {N:Nat} {a b:St} (h:cG N a b):Ok b:=let ⟨_,h,_⟩:=h;h.ok
theorem cG.next {N:Nat} {a b:St} (h:cG N a b):a.next≤b.next:=let ⟨_,h,_⟩:=h;h.next
theorem cG.back {N:Nat} {a b c:St} (ha:Ok a) (hN:a.next≤N) (h:aC [] a b) (k:cG N b c):aC [] a c:=by
 obtain⟨F,k1,k2⟩:=k
 exact h.step k1 fun y hy=>.inr (ha.fresh y (Nat.le_trans hN (k2 y hy)))
namespace PH
variable {P:PH}
def Z (P:PH):Prop:=∀ a i,P.ref a i=0
def Sound (P:PH):Prop:=∀ a i,P.ref a i=0∨P.has (P.ref a i)=true
theorem Z.sound (h:P.Z):P.Sound:=fun a i=>.inl (h a i)
def Led (P:PH) (R:PR):Prop:=(∀ p∈R.all,P.has (R.get p)=true)∧∀ x∈R.q,P.has x=true
theorem EH (G:P.cZ) {a i:Int}:P.ref a i=if P.has a=true∧0≤i∧i<(P.shape a).r then P.w (a+2+i).toNat else 0:=by
 unfold ref
 by_cases h:P.mH a i false=0
 ·obtain⟨h1,h2,h3⟩:=HK h
  rw[if_pos h,(uD G h).1,if_pos ⟨h1,h2,h3⟩];rfl
 ·rw[if_neg h,if_neg]
  rintro⟨h1,h2,h3⟩
  apply h
  unfold mH
  rw[if_pos h1,if_neg]
  show ¬ (i<0∨i≥(P.shape a).r)
  omega
theorem wR (G:P.cZ) {a i:Int} (h:P.has a=true∧0≤i∧i<(P.shape a).r):a≤(a+2+i)∧a+2+i<a+P.size a∧0≤a:=by
 have:=size_pos G h.1
 have h2:=(G.val a h.1).1
 have h3:=iV.eD h2
 have h4:=iV.dX.1 h2
 unfold size
 omega
theorem Empty.Z {n:Nat} (E:P.Empty n):P.Z:=by
 intro a i
 unfold ref
 split
 ·rw[E.w]
 ·rfl
theorem Z.qY (h:P.Z) (p k:Nat) (x y u v:Int):(P.qY p k x y u v).Z:=h
theorem Z.place (h:P.Z) (I:P.Inv) {a:Int} {x:iV} (R:P.Room a x):(P.place a x).Z:=by
 have G:=I.cZ
 have I':=I.place R
 intro b i
 rw[EH I'.cZ]
 split
 ·rename_i hc
  obtain⟨h1,h2,h3⟩:=wR I'.cZ hc
  rcases(iK R b).1 hc.1 with hb | rfl
  ·obtain⟨e1,e2,e3⟩:=lA G R hb
   rw[e2] at h2
   rw[e3 _ (by omega) (by omega)]
   have:=h b i
   rw[EH G,if_pos ⟨hb,hc.2.1,by rw[← e1];exact hc.2.2⟩] at this
   exact this
  ·rw[uT R.v] at h2
   have hc2:=hc.2
   rw[CT (by omega) (by omega)]
   refine I.zero _ fun o ho=>?_
   have:=R.apart o ho
   omega
 ·rfl
theorem Z.kill (h:P.Z) (I:P.Inv) {a:Int} (ha:P.has a=true):(P.kill a).Z:=by
 have G:=I.cZ
 have I':=I.kill ha
 intro b i
 rw[EH I'.cZ]
 split
 ·rename_i hc
  obtain⟨h1,h2,h3⟩:=wR I'.cZ hc
  obtain⟨hb,hne⟩:=(lX ha b).1 hc.1
  obtain⟨e1,e2,e3⟩:=pB G ha hb hne
  rw[e2] at h2
  rw[e3 _ (by omega) (by omega)]
  have:=h b i
  rw[EH G,if_pos ⟨hb,hc.2.1,by rw[← e1];exact hc.2.2⟩] at this
  exact this
 ·rfl
theorem LK (I:P.Inv) {a k v:Int} (h:P.has a=true∧0≤k∧k<(P.shape a).r) (b i:Int):(P.gG (a+2+k) v).ref b i=if b=a∧i=k then v else P.ref b i:=by
 have G:=I.cZ
 obtain⟨h1,h2,h3⟩:=wR G h
 have B:P.Body a (a+2+k):=⟨h.1,by omega,by omega⟩
 have I':=I.gG B (v:=v)
 rw[EH I'.cZ,EH G]
 by_cases hb:P.has b=true
 ·have hb':(P.gG (a+2+k) v).has b=true:=hb
  rw[mL G B hb]
  by_cases hc:P.has b=true∧0≤i∧i<(P.shape b).r
  ·rw[if_pos ⟨hb',hc.2⟩,if_pos hc]
   obtain⟨g1,g2,g3⟩:=wR G hc
   by_cases e:b=a∧i=k
   ·obtain⟨rfl,rfl⟩:=e
    rw[if_pos ⟨rfl,rfl⟩];exact setW_at
   ·rw[if_neg e]
    refine EK ?_
    rcases Int.lt_trichotomy b a with h' | h' | h'
    ·have:=G.fg b a hb h.1 h';omega
    ·omega
    ·have:=G.fg a b h.1 hb h';omega
  ·rw[if_neg (fun h'=>hc ⟨hb,h'.2⟩),if_neg hc,if_neg]
   rintro⟨rfl,rfl⟩
   exact hc h
 ·have e1:¬ ((P.gG (a+2+k) v).has b=true∧0≤i∧i<((P.gG (a+2+k) v).shape b).r):=fun h'=>hb h'.1
  have e2:¬ (P.has b=true∧0≤i∧i<(P.shape b).r):=fun h'=>hb h'.1
  have e3:¬ (b=a∧i=k):=fun h'=>hb (by rw[h'.1];exact h.1)
  rw[if_neg e1,if_neg e2,if_neg e3]
theorem LJ (I:P.Inv) {a k v:Int} (h:P.yV a k v=0) (b i:Int):(P.setRef a k v).ref b i=if b=a∧i=k then v else P.ref b i:=by
 unfold setRef
 rw[if_pos h]
 unfold yV at h
 split at h
 ·rename_i hf
  obtain⟨h1,h2,h3⟩:=HK hf
  rw[(uD I.cZ hf).1]
  exact LK I ⟨h1,h2,h3⟩ b i
 ·rename_i hf;exact absurd h hf
theorem Sound.setRef (h:P.Sound) (I:P.Inv) (a k v:Int) (hv:v=0∨P.has v=true):(P.setRef a k v).Sound:=by
 intro b i
 have hh:=(P.pH a k v).2.1
 by_cases he:P.yV a k v=0
 ·rw[LJ I he,hh]
  split
  ·exact hv
  ·exact h b i
 ·unfold PH.setRef
  rw[if_neg he]
  exact h b i
end PH
open Go.Proofs
set_option maxRecDepth 100000
set_option maxHeartbeats 4000000
theorem se (Y:Env) (H:aY) (t:TypeId) (x y:Int):binop Y H .rem t (.int .u8 x) (.int .u8 y)=if y=0 then none else some (.int .u8 (x.tmod y)):=rfl
theorem oU (Y:Env) (H:aY) (t:TypeId) (x y:Int):binop Y H .eql t (.int .u8 x) (.int .u8 y)=some (.bool (x==y)):=rfl
theorem ss:((4:Nat):Int)=4:=rfl
theorem xD {r d k:Int} (h:0≤r∧r≤15∧0≤d∧d≤200∧0≤k∧k≤3∧(k=1→1≤r)∧(k=2→2≤r)):iV.valid ⟨r,d,k⟩=true:=iV.dX.2 h
abbrev u8 (n:Nat):Value:=.int .u8 n
section
variable {kc:Kc} {q:Bool} {s:St} {Φ:Value→St→Prop}
theorem iG:type_of% (An @RX<|An @kA<|An @QY<|An @ld_5<|An @vZ<|An @NK<|An @kI<|An @eC<|An @bF<|An @kG<|An @rV<|An @fX<|@gV):=An @RX<|An @kA<|An @QY<|An @ld_5<|An @vZ<|An @NK<|An @kI<|An @eC<|An @bF<|An @kG<|An @rV<|An @fX<|@gV
theorem nz (hs:Ok s) {x0 x1 x2 x3:Nat} (h0:x0<256) (h1:x1<256) (h2:x2<256) (hΦ:∀ (x:iV) s',x.valid=true→aC [] s s'→Φ (jL x) s'):okF q X (KO kc) 55 [.agg #[u8 x0,u8 x1,u8 x2,u8 x3]] s Φ:=by
 refine aG rfl fn_55 rfl (rs:=[.cell 2 44]) rfl (N:=44) rfl rfl ?_
 refine aA fun Ψ0 hΨ0 hΨ0'=>?_
 simp only[iG,↓reduceIte,zA,reduceCtorEq,zE,zB,zC,zD,zF]
 obtain⟨s1,e1,k1,c1,n1⟩:=aT hs (L:=[u8 x0,u8 x1,u8 x2,u8 x3]) (n:=4) (e:=105) rfl
 rw[e1]
 obtain⟨s2,e2,k2,c2,n2⟩:=aT k1.ok (L:=[int 0,int 0,int 0]) (n:=3) (e:=44) rfl
 try simp only[iG,↓reduceIte,zA,reduceCtorEq,zE,zB,zC,zD,zF]
 rw[e2]
 refine hΨ0 _ _ ?_
 have b1:=c1.aF k2 (by simp)
 have l0:aI s2.look ⟨s.next,0,none⟩=some (u8 x0):=b1.load rfl
 have l1:aI s2.look ⟨s.next,1,none⟩=some (u8 x1):=b1.load rfl
 have l2:aI s2.look ⟨s.next,2,none⟩=some (u8 x2):=b1.load rfl
 have w:∀ n:Nat,n<256→IntKind.wrap .i64 (n:Int)=(n:Int):=fun n h=>aR (by omega) (by omega)
 have tm:∀ (n:Nat) (k:Nat),((n:Int)).tmod (k:Int)=((n%k:Nat):Int):=fun n k=>rfl
 have t5:(x1:Int).tmod 5=((x1%5:Nat):Int):=rfl
 have t6:(x2:Int).tmod 6=((x2%6:Nat):Int):=rfl
 have t8:(x0:Int).tmod 8=((x0%8:Nat):Int):=rfl
 obtain⟨s3,e3,k3,c3,n3⟩:=aT k2.ok (L:=[int 0,int 0,int 0]) (n:=3) (e:=44) rfl
 obtain⟨s4,e4,c4,k4⟩:=c3.storeAll k3.ok (vs:=[int ((x1%5:Nat)),int ((x2%6:Nat)),int 0]) rfl rfl
 have k23:aC [] s2 s4:=k3.step k4 fun y hy=>.inr (by rw[List.mem_singleton.1 hy];exact k2.ok.fresh _ (Nat.le_refl _))
 have b4:=b1.aF k23 (by simp)
 have d4:=c2.aF k23 (by simp)
 have m0:aI s4.look ⟨s.next,0,none⟩=some (u8 x0):=b4.load rfl
 have m2:aI s4.look ⟨s.next,2,none⟩=some (u8 x2):=b4.load rfl
 refine aA fun Ψ1 hΨ1 hΨ1'=>?_
 simp only[iG,↓reduceIte,zA,reduceCtorEq,zE,zB,zC,zD,zF,l1,l2,ss,Int.reduceLE,Int.reduceLT,Int.reduceToNat,and_self,aJ,Nat.zero_add,w x1 h1,w x2 h2,t5,t6]
 rw[e3]
 simp only[iG,↓reduceIte,zA,reduceCtorEq,zE,zB,zC,zD,zF,e4]
 refine hΨ1 _ _ ?_
 refine aA fun Ψ2 hΨ2 hΨ2'=>?_
 refine aA fun Ψ3 hΨ3 hΨ3'=>?_
 simp only[iG,↓reduceIte,zA,reduceCtorEq,zE,zB,zC,zD,zF,m0,ss,Int.reduceLE,Int.reduceLT,Int.reduceToNat,and_self,aJ,Nat.zero_add,se,t8]
 have k04:aC [] s s4:=(k1.trans k2).trans k23
 have fin:∀ (a':bD) (s':St) (y:iV),y.valid=true→a'.aD 2=ptr s1.next→a'.aD 3=ptr s2.next→Obj s' s2.next [int y.r,int y.d,int y.k]→aC [s2.next] s4 s'→Ψ2 .normal a' s':=by
  intro a' s' y hy r2 r3 ho hk
  refine hΨ2 _ _ ?_
  have lo:=ho.aS (i:=0) (k:=3) (Nat.le_refl _)
  have hn:s1.next∉[s2.next]:=by simp;omega
  obtain⟨s6,e6,c6,k6⟩:=(d4.aF hk hn).storeAll hk.ok (vs:=[int y.r,int y.d,int y.k]) rfl rfl
  have l6:=c6.aS (i:=0) (k:=3) (Nat.le_refl _)
  refine aA fun Ψ20 hΨ20 hΨ20'=>?_
  simp only[iG,↓reduceIte,zA,reduceCtorEq,zE,zB,zC,zD,zF,r2,r3,lo,List.drop_zero,List.take,e6]
  refine hΨ20 _ _ ?_
  simp only[iG,↓reduceIte,zA,reduceCtorEq,zE,zB,zC,zD,zF,r2,l6,List.drop_zero,List.take]
  refine hΦ y s6 hy ((k04.step hk fun z hz=>.inr ?_).step k6 fun z hz=>.inr ?_)
  ·rw[List.mem_singleton.1 hz];exact hs.fresh _ (by omega)
  ·rw[List.mem_singleton.1 hz];exact hs.fresh _ (by omega)
 have m3:aI s4.look ⟨s2.next,0,none⟩=some (int ((x1%5:Nat))):=c4.load rfl
 have u3:(((x1%5:Nat)):Int).tmod 3=((x1%5%3:Nat):Int):=rfl
 refine hΨ3 _ _ ?_
 refine aL fun Ψ4 hΨ4 hΨ4e hΨ4'=>?_
 refine aA fun Ψ5 hΨ5 hΨ5'=>?_
 by_cases h4:x0%8=4
 ·have e:((((x0%8:Nat)):Int)==4)=true:=by rw[beq_iff_eq];omega
  obtain⟨s5,e5,c5,k5⟩:=c4.dU k4.ok (i:=2) (v:=int 1) (by simp) rfl
  obtain⟨s6,e6,c6,k6⟩:=c5.dU k5.ok (i:=0) (v:=int ((1+x1%5%3:Nat))) (by simp) rfl
  have m5:aI s5.look ⟨s2.next,0,none⟩=some (int ((x1%5:Nat))):=c5.load rfl
  have ww:IntKind.wrap .i64 (1+((x1%5%3:Nat):Int))=((1+x1%5%3:Nat):Int):=by rw[aR (by omega) (by omega)];rfl
  simp only[iG,↓reduceIte,zA,reduceCtorEq,zE,zB,zC,zD,zF,oU,e]
  refine hΨ5 _ _ ?_
  simp only[iG,↓reduceIte,zA,reduceCtorEq,zE,zB,zC,zD,zF,m3,u3,ww,e5,e6]
  refine hΨ4 _ _ (fin _ s6 ⟨((1+x1%5%3:Nat)),((x2%6:Nat)),1⟩ (xD (by omega)) ?_ ?_ c6 (k5.trans k6))
  ·simp only[iG,↓reduceIte,zA,reduceCtorEq,zE,zB,zC,zD,zF]
  ·simp only[iG,↓reduceIte,zA,reduceCtorEq,zE,zB,zC,zD,zF]
 have e4':((((x0%8:Nat)):Int)==4)=false:=by rw[beq_eq_false_iff_ne];omega
 simp only[iG,↓reduceIte,zA,reduceCtorEq,zE,zB,zC,zD,zF,oU,e4']
 refine hΨ5 _ _ ?_
 simp only[bE,RV,RG,↓reduceIte,zA,reduceCtorEq,zE,zB,zC,zD,zF]
 refine aA fun Ψ6 hΨ6 hΨ6'=>?_
 by_cases h5:x0%8=5
 ·have e:((((x0%8:Nat)):Int)==5)=true:=by rw[beq_iff_eq];omega
  obtain⟨s5,e5,c5,k5⟩:=c4.dU k4.ok (i:=2) (v:=int 2) (by simp) rfl
  obtain⟨s6,e6,c6,k6⟩:=c5.dU k5.ok (i:=0) (v:=int ((2+x1%5%3:Nat))) (by simp) rfl
  have ww:IntKind.wrap .i64 (2+((x1%5%3:Nat):Int))=((2+x1%5%3:Nat):Int):=by rw[aR (by omega) (by omega)];rfl
  simp only[iG,↓reduceIte,zA,reduceCtorEq,zE,zB,zC,zD,zF,oU,e]
  refine hΨ6 _ _ ?_
  simp only[iG,↓reduceIte,zA,reduceCtorEq,zE,zB,zC,zD,zF,m3,u3,ww,e5,e6]
  refine hΨ4 _ _ (fin _ s6 ⟨((2+x1%5%3:Nat)),((x2%6:Nat)),2⟩ (xD (by omega)) ?_ ?_ c6 (k5.trans k6))
  ·simp only[iG,↓reduceIte,zA,reduceCtorEq,zE,zB,zC,zD,zF]
  ·simp only[iG,↓reduceIte,zA,reduceCtorEq,zE,zB,zC,zD,zF]
 have e5':((((x0%8:Nat)):Int)==5)=false:=by rw[beq_eq_false_iff_ne];omega
 simp only[iG,↓reduceIte,zA,reduceCtorEq,zE,zB,zC,zD,zF,oU,e5']
 refine hΨ6 _ _ ?_
 simp only[bE,RV,RG,↓reduceIte,zA,reduceCtorEq,zE,zB,zC,zD,zF]
 refine aA fun Ψ7 hΨ7 hΨ7'=>?_
 by_cases h6:x0%8=6
 ·have e:((((x0%8:Nat)):Int)==6)=true:=by rw[beq_iff_eq];omega
  obtain⟨s5,e5,c5,k5⟩:=c4.dU k4.ok (i:=2) (v:=int 3) (by simp) rfl
  simp only[iG,↓reduceIte,zA,reduceCtorEq,zE,zB,zC,zD,zF,oU,e]
  refine hΨ7 _ _ ?_
  simp only[iG,↓reduceIte,zA,reduceCtorEq,zE,zB,zC,zD,zF,e5]
  refine hΨ4 _ _ (fin _ s5 ⟨((x1%5:Nat)),((x2%6:Nat)),3⟩ (xD (by omega)) ?_ ?_ c5 k5)
  ·simp only[iG,↓reduceIte,zA,reduceCtorEq,zE,zB,zC,zD,zF]
  ·simp only[iG,↓reduceIte,zA,reduceCtorEq,zE,zB,zC,zD,zF]
 have e6':((((x0%8:Nat)):Int)==6)=false:=by rw[beq_eq_false_iff_ne];omega
 simp only[iG,↓reduceIte,zA,reduceCtorEq,zE,zB,zC,zD,zF,oU,e6']
 refine hΨ7 _ _ ?_
 simp only[bE,RV,RG,↓reduceIte,zA,reduceCtorEq,zE,zB,zC,zD,zF]
 refine aA fun Ψ8 hΨ8 hΨ8'=>?_
 by_cases h7:x0%8=7
 ·have e:((((x0%8:Nat)):Int)==7)=true:=by rw[beq_iff_eq];omega
  have v3:(x2:Int).tmod 100=((x2%100:Nat):Int):=rfl
  have ww:IntKind.wrap .i64 (32+((x2%100:Nat):Int))=((32+x2%100:Nat):Int):=by rw[aR (by omega) (by omega)];rfl
  obtain⟨s5,e5,c5,k5⟩:=c4.dU k4.ok (i:=1) (v:=int ((32+x2%100:Nat))) (by simp) rfl
  simp only[iG,↓reduceIte,zA,reduceCtorEq,zE,zB,zC,zD,zF,oU,e]
  refine hΨ8 _ _ ?_
  simp only[iG,↓reduceIte,zA,reduceCtorEq,zE,zB,zC,zD,zF,m2,ss,Int.reduceLE,Int.reduceLT,Int.reduceToNat,and_self,aJ,Nat.zero_add,w x2 h2,v3,ww,e5]
  refine hΨ4 _ _ (fin _ s5 ⟨((x1%5:Nat)),((32+x2%100:Nat)),0⟩ (xD (by omega)) ?_ ?_ c5 k5)
  ·simp only[iG,↓reduceIte,zA,reduceCtorEq,zE,zB,zC,zD,zF]
  ·simp only[iG,↓reduceIte,zA,reduceCtorEq,zE,zB,zC,zD,zF]
 have e7':((((x0%8:Nat)):Int)==7)=false:=by rw[beq_eq_false_iff_ne];omega
 simp only[iG,↓reduceIte,zA,reduceCtorEq,zE,zB,zC,zD,zF,oU,e7']
 refine hΨ8 _ _ ?_
 simp only[iG,↓reduceIte,zA,reduceCtorEq,zE,zB,zC,zD,zF]
 refine hΨ4 _ _ (fin _ s4 ⟨((x1%5:Nat)),((x2%6:Nat)),0⟩ (xD (by omega)) ?_ ?_ c4 (.refl k4.ok))
 ·simp only[iG,↓reduceIte,zA,reduceCtorEq,zE,zB,zC,zD,zF]
 ·simp only[iG,↓reduceIte,zA,reduceCtorEq,zE,zB,zC,zD,zF]
end
open Go.Proofs
set_option maxRecDepth 100000
set_option maxHeartbeats 4000000
section
variable {kc:Kc} {q:Bool} {s:St} {Φ:Value→St→Prop} {g:Nat} {P:PH} {G:lM}
theorem OA {L:List cV} (hl:L.length=G.L.length) (h:∀ o∈L,∃ o'∈G.L,o.rn=o'.rn∧o.dn=o'.dn):∀ y∈({G with L:=L}:lM).aU g,y∈G.aU g:=by
 intro y hy
 rcases List.mem_append.1 hy with hy | hy
 ·refine List.mem_append_left _ ?_
  unfold lM.own at hy ⊢
  simp only[List.mem_cons] at hy ⊢
  rcases hy with g | g | g
  ·exact .inl g
  ·exact .inr (.inl g)
  ·obtain⟨o,ho,hm⟩:=List.mem_flatMap.1 g
   obtain⟨o',ho',e1,e2⟩:=h o ho
   refine .inr (.inr (List.mem_flatMap.2 ⟨o',ho',?_⟩))
   rw[← e1,← e2];exact hm
 ·refine List.mem_append_right _ ?_
  simp only[hl] at hy
  exact hy
theorem XC (hs:Ok s) (H:cN s g G) (S:lO P G) (I:P.Inv) (a i to:Int) (hΦ:∀ G' F s',cN s' g G'→lO (P.setRef a i to) G'→(∀ y∈F,y∈G.aU g)→(∀ y∈G'.aU g,y∈G.aU g∨s.next≤y)→aC F s s'→Φ (int (P.yV a i to)) s'):okF q X (KO kc) 148 [ptr g,int a,int i,int to] s Φ:=by
 refine bo hs H S.L I a i to (fun he L n s' H' S' hl hn hm k=>?_) (fun he=>?_)
 ·have hP:(P.setRef a i to).N=P.N∧(P.setRef a i to).bs=P.bs∧(P.setRef a i to).bp=P.bp∧(P.setRef a i to).born=P.born:=by
   unfold PH.setRef;rw[if_pos he];exact⟨rfl,rfl,rfl,rfl⟩
  have:=hΦ _ [n] s' H' ⟨S.N.trans hP.1.symm,S.bs.trans hP.2.1.symm,S.bp.trans hP.2.2.1.symm,S.born.trans hP.2.2.2.symm,S'⟩ (fun y hy=>by rw[List.mem_singleton.1 hy];exact List.mem_append_left _ hm) (fun y hy=>.inl (OA hl hn y hy)) k
  rw[he] at this
  exact this
 ·have e:P.setRef a i to=P:=by unfold PH.setRef;rw[if_neg he]
  exact hΦ G [] s H (by rw[e];exact S) (fun y hy=>by cases hy) (fun y hy=>.inl hy) (.refl hs)
theorem pw (hs:Ok s) (H:cN s g G) (S:lO P G) (I:P.Inv) (a:Int) (hΦ:∀ G' F s',cN s' g G'→lO (if P.has a=true then P.kill a else P) G'→(∀ y∈F,y∈G.aU g)→(∀ y∈G'.aU g,y∈G.aU g∨s.next≤y)→aC F s s'→Φ (int (if P.has a=true then 0 else 4)) s'):okF q X (KO kc) 56 [ptr g,int a] s Φ:=by
 refine zb hs H S.L I a (fun hh va vc L s' H' S' k hv hL=>?_) (fun hh=>?_)
 ·have:=hΦ _ [g] s' H' (by rw[if_pos hh];exact⟨S.N,S.bs,S.bp,S.born,S'⟩) (fun y hy=>by rw[List.mem_singleton.1 hy];exact List.mem_append_left _ (List.mem_cons_self ..)) (fun y hy=>?_) k
  ·rw[if_pos hh] at this
   exact this
  ·rcases List.mem_append.1 hy with hy | hy
   ·left
    refine List.mem_append_left _ ?_
    unfold lM.own at hy ⊢
    simp only[List.mem_cons] at hy ⊢
    rcases hy with g | g | g
    ·exact .inl g
    ·exact .inr (.inl g)
    ·obtain⟨o,ho,hm⟩:=List.mem_flatMap.1 g
     exact .inr (.inr (List.mem_flatMap.2 ⟨o,hL o ho,hm⟩))
   ·exact .inr (hv y hy)
 ·have:=hΦ G [] s H (by rw[if_neg (by rw[hh];simp)];exact S) (fun y hy=>by cases hy) (fun y hy=>.inl hy) (.refl hs)
  rw[if_neg (by rw[hh];simp)] at this
  exact this
theorem zd (hs:Ok s) (H:cN s g G) (S:lO P G) (I:P.Inv) (a:Int) (hΦ:∀ G' F s',cN s' g G'→lO (P.vI a 1) G'→(∀ y∈F,y∈G.aU g)→(∀ y∈G'.aU g,y∈G.aU g∨s.next≤y)→aC F s s'→Φ (int (if P.has a=true then 0 else 4)) s'):okF q X (KO kc) 60 [ptr g,int a] s Φ:=by
 refine ref_Pin hs H S.L I a (fun hh L s' H' S' hl hn k=>?_) (fun hh=>?_)
 ·have hP:(P.vI a 1).N=P.N∧(P.vI a 1).bs=P.bs∧(P.vI a 1).bp=P.bp∧(P.vI a 1).born=P.born:=by
   unfold PH.vI;rw[if_pos hh];exact⟨rfl,rfl,rfl,rfl⟩
  have:=hΦ _ _ s' H' ⟨S.N.trans hP.1.symm,S.bs.trans hP.2.1.symm,S.bp.trans hP.2.2.1.symm,S.born.trans hP.2.2.2.symm,S'⟩ (fun y hy=>List.mem_append_right _ hy) (fun y hy=>.inl (OA hl hn y hy)) k
  rw[if_pos hh] at this
  exact this
 ·have e:P.vI a 1=P:=by unfold PH.vI;rw[if_neg (by rw[hh];simp)]
  have:=hΦ G [] s H (by rw[e];exact S) (fun y hy=>by cases hy) (fun y hy=>.inl hy) (.refl hs)
  rw[if_neg (by rw[hh];simp)] at this
  exact this
end
open Go.Proofs
set_option maxRecDepth 100000
set_option maxHeartbeats 4000000
structure PR.sP (P:PH) (R:PR):Prop where
 sl:∀ i,R.sl i=0∨P.has (R.sl i)=true
 gl:∀ i,R.gl i=0∨P.has (R.gl i)=true
 q:∀ x∈R.q,P.has x=true
theorem PR.sP.led {P:PH} {R:PR} (h:PR.sP P R):P.Led R:=by
 refine⟨fun p hp=>?_,h.q⟩
 have hh:=R.HC hp
 have hne:R.get p≠0:=by
  unfold PR.all PR.upto PR.part at hp
  obtain⟨k,_,hp⟩:=List.mem_flatMap.1 hp
  obtain⟨i,_,hp⟩:=List.mem_flatMap.1 hp
  unfold PR.one at hp
  split at hp
  ·cases hp
  ·rename_i hn
   rw[List.mem_singleton.1 hp];exact hn
 unfold PR.get at hne ⊢
 split
 ·rename_i h0
  rw[if_pos h0] at hne
  exact(h.sl _).resolve_left hne
 ·rename_i h0
  rw[if_neg h0] at hne
  split
  ·rename_i h1
   rw[if_pos h1] at hne
   exact(h.gl _).resolve_left hne
  ·rename_i h1
   rw[if_neg h1] at hne
   unfold PR.has at hh
   rw[if_neg (fun h=>h0 h.1),if_neg (fun h=>h1 h.1)] at hh
   split at hh
   ·have:=of_decide_eq_true hh
    rw[List.getD_eq_getElem?_getD,List.getElem?_eq_getElem (show p.i.toNat<R.q.length by omega)]
    exact h.q _ (List.getElem_mem _)
   ·cases hh
theorem PR.sP.set {P:PH} {R:PR} (h:PR.sP P R) {p:tS} {v:Int} (hv:v=0∨P.has v=true) (h2:¬ (v=0∧p.k=2)) (hp:R.has p=true):PR.sP P (R.set p v):=by
 unfold PR.set
 split
 ·refine⟨fun i=>?_,h.gl,h.q⟩
  show eP R.sl _ v i=0∨P.has (eP R.sl _ v i)=true
  unfold eP
  split
  ·exact hv
  ·exact h.sl i
 ·rename_i h0
  split
  ·refine⟨h.sl,fun i=>?_,h.q⟩
   show eP R.gl _ v i=0∨P.has (eP R.gl _ v i)=true
   unfold eP
   split
   ·exact hv
   ·exact h.gl i
  ·rename_i h1
   have hk:p.k=2:=by
    unfold PR.has at hp
    rw[if_neg (fun h=>h0 h.1),if_neg (fun h=>h1 h.1)] at hp
    split at hp
    ·rename_i h;exact h.1
    ·cases hp
   refine⟨h.sl,h.gl,fun x hx=>?_⟩
   rcases List.mem_or_eq_of_mem_set hx with g | g
   ·exact h.q x g
   ·rw[g];exact hv.resolve_left fun e=>h2 ⟨e,hk⟩
theorem PR.sP.push {P:PH} {R:PR} (h:PR.sP P R) {v:Int} (hv:v=0∨P.has v=true):PR.sP P {R with q:=R.vJ v}:=by
 refine⟨h.sl,h.gl,fun x hx=>?_⟩
 have hx:x∈R.vJ v:=hx
 unfold PR.vJ at hx
 split at hx
 ·rename_i he
  rcases List.mem_append.1 hx with g | g
  ·exact h.q x g
  ·rw[List.mem_singleton.1 g]
   refine hv.resolve_left fun e=>?_
   unfold PR.FZ at he
   rw[if_pos (by omega)] at he
   cases he
 ·exact h.q x hx
theorem PR.sP.congr {P:PH} {R R':PR} (h:PR.sP P R) (h1:R'.sl=R.sl) (h2:R'.gl=R.gl) (h3:R'.q=R.q):PR.sP P R':=⟨by rw[h1];exact h.sl,by rw[h2];exact h.gl,by rw[h3];exact h.q⟩
section
variable {kc:Kc} {q:Bool} {s:St} {Φ:Value→St→Prop} {N x h r g t:Nat} {P:PH} {R:PR} {G:lM} {Q:RQ} {R2:PR}
theorem zU:type_of% (An @RX<|An @sC<|An @FN<|An @eK<|An @jA<|An @oO<|An @jX<|An @lS<|@bF):=An @RX<|An @sC<|An @FN<|An @eK<|An @jA<|An @oO<|An @jX<|An @lS<|@bF
theorem DU (hs:Ok s) (M:Mem N s x h r g t P R G Q R2) (S:lO P G) (I:P.Inv) {n:Nat} (hn:n<100) (hΦ:∀ a s',(a=0∨P.has a=true)→i64 a→aC [] s s'→Φ (int a) s'):okF q X (KO kc) 12 [ptr x,int n] s Φ:=by
 have hlen:=M.K.len
 have e1:((n:Int)==-77)=false:=by rw[beq_eq_false_iff_ne];omega
 have e2:¬ ((n:Int)≥1000):=by omega
 have e3:¬ ((n:Int)<0):=by omega
 have e4:¬ ((n:Int)≥100):=by omega
 refine aG rfl fn_12 rfl (rs:=[.tmp 4]) rfl (N:=53) rfl rfl ?_
 refine aA fun Ψ0 hΨ0 hΨ0'=>?_
 simp only[zU,↓reduceIte,zA,reduceCtorEq,zE,zB,zC,zD,zF]
 refine hΨ0 _ _ ?_
 refine aA fun Ψ1 hΨ1 hΨ1'=>?_
 refine aL fun Ψ2 hΨ2 hΨ2e hΨ2'=>?_
 refine aA fun Ψ3 hΨ3 hΨ3'=>?_
 simp only[zU,↓reduceIte,zA,reduceCtorEq,zE,zB,zC,zD,zF,e1]
 refine hΨ3 _ _ ?_
 simp only[bE,RV,RG,↓reduceIte,zA,reduceCtorEq,zE,zB,zC,zD,zF]
 refine aA fun Ψ4 hΨ4 hΨ4'=>?_
 simp only[zU,↓reduceIte,zA,reduceCtorEq,zE,zB,zC,zD,zF,e2,decide_false]
 refine hΨ4 _ _ ?_
 simp only[bE,RV,RG,↓reduceIte,zA,reduceCtorEq,zE,zB,zC,zD,zF]
 refine aA fun Ψ5 hΨ5 hΨ5'=>?_
 refine aH [(2,18)] (by kernel_rfl) fun O hO ΨR hR=>?_
 have y2:∀ a,aE O a 2=aM (a.aD 18):=hO (2,18) (by simp)
 simp only[zU,↓reduceIte,zA,reduceCtorEq,zE,zB,zC,zD,zF,y2,e3,e4,decide_false]
 refine hR _ _ (hΨ5 _ _ ?_)
 simp only[bE,RV,RG,↓reduceIte,zA,reduceCtorEq,zE,zB,zC,zD,zF]
 refine aA fun Ψ6 hΨ6 hΨ6'=>?_
 simp only[zU,↓reduceIte,zA,reduceCtorEq,zE,zB,zC,zD,zF,M.l2,M.K.l1]
 refine hΨ6 _ _ ?_
 by_cases h0:G.L.length=0
 ·have e5:(((G.L.length:Nat):Int)==0)=true:=by rw[h0];rfl
  simp only[zU,↓reduceIte,zA,reduceCtorEq,zE,zB,zC,zD,zF,e5]
  refine hΨ2' _ _ _ (by simp) (by simp) (hΨ1' _ _ _ (by simp) ?_)
  simp only[zU,↓reduceIte,zA,reduceCtorEq,zE,zB,zC,zD,zF]
  exact hΦ 0 s (.inl rfl) ⟨by omega,by omega⟩ (.refl hs)
 ·have e5:(((G.L.length:Nat):Int)==0)=false:=by rw[beq_eq_false_iff_ne];omega
  simp only[zU,↓reduceIte,zA,reduceCtorEq,zE,zB,zC,zD,zF,e5]
  refine hΨ2 _ _ (hΨ1 _ _ ?_)
  refine aA fun Ψ7 hΨ7 hΨ7'=>?_
  refine aQ [] [] [] (by kernel_rfl) (by kernel_rfl) (by rfl) fun O hO ΨR hR=>?_
  obtain⟨vb,voff,hv⟩:=M.K.addr (show 0<G.L.length by omega)
  have l1:=M.K.l1
  rw[hv] at l1
  have hi:n%G.L.length<G.L.length:=Nat.mod_lt _ (by omega)
  have tm:((n:Nat):Int).tmod ((G.L.length:Nat):Int)=((n%G.L.length:Nat):Int):=rfl
  have p1:(0:Int)≤((n%G.L.length:Nat):Int):=Int.natCast_nonneg _
  have p2:((n%G.L.length:Nat):Int)<((G.L.length:Nat):Int):=by omega
  have hz:¬ (((G.L.length:Nat):Int)=0):=by omega
  have lj:aI s.look ⟨vb,voff+n%G.L.length*8,none⟩=some (int G.L[n%G.L.length].a):=M.K.lo hv hi (j:=0) rfl
  simp only[zU,↓reduceIte,zA,reduceCtorEq,zE,zB,zC,zD,zF,M.l2,l1,tm,hz,p1,p2,and_self,aJ,Int.toNat_natCast,lj]
  refine hR _ _ (hΨ7 _ _ ?_)
  simp only[zU,↓reduceIte,zA,reduceCtorEq,zE,zB,zC,zD,zF]
  have hh:=S.L.has (List.getElem_mem hi)
  have hsz:=PH.size_pos I.cZ hh
  have iJ:=I.iJ
  exact hΦ _ _ (.inr hh) ⟨by omega,by omega⟩ (.skip hs _)
theorem mM:type_of% (An @RX<|An @mY<|An @xU<|An @gq<|An @BB<|An @nO<|An @tV<|@iH):=An @RX<|An @mY<|An @xU<|An @gq<|An @BB<|An @nO<|An @tV<|@iH
theorem oo (hs:Ok s) (M:Mem N s x h r g t P R G Q R2) {n:Nat} (hn:n<256) (hΦ:∀ p s',aC [] s s'→Φ (rM p) s'):okF q X (KO kc) 149 [ptr x,int n] s Φ:=by
 have m1:=M.T.m1
 have m4:=M.T.m4
 refine aG rfl fn_149 rfl (rs:=[.cell 4 118]) rfl (N:=31) rfl rfl ?_
 refine aA fun Ψ0 hΨ0 hΨ0'=>?_
 simp only[mM,↓reduceIte,zA,reduceCtorEq,zE,zB,zC,zD,zF]
 obtain⟨s1,e1,k1,c1,n1⟩:=aT hs (L:=[int 0,int 0,int 0]) (n:=3) (e:=118) rfl
 rw[e1]
 refine hΨ0 _ _ ?_
 have M1:=M.aN k1
 have hmax:max (n:Int) 0=(n:Int):=by omega
 have tm:(n:Int).tmod 40=((n%40:Nat):Int):=rfl
 have fin:∀ (s':St) (p:tS),aC [] s1 s'→∃ s2,bJ s' ⟨s.next,0,none⟩ [int p.k,int p.m,int p.i]=some s2∧aS s2.look ⟨s.next,0,none⟩ 3=some [int p.k,int p.m,int p.i]∧aC [] s s2:=fun s' p k=>by
  obtain⟨s2,e2,c2,k2⟩:=(c1.aF k (by simp)).storeAll k.ok (vs:=[int p.k,int p.m,int p.i]) rfl rfl
  exact⟨s2,e2,c2.aS (i:=0) (k:=3) (Nat.le_refl _),(k1.trans k).step k2 fun y hy=>.inr (by rw[List.mem_singleton.1 hy];exact hs.fresh _ (Nat.le_refl _))⟩
 refine aA fun Ψ1 hΨ1 hΨ1'=>?_
 simp only[mM,↓reduceIte,zA,reduceCtorEq,zE,zB,zC,zD,zF,hmax,tm]
 refine hΨ1 _ _ ?_
 refine aA fun Ψ2 hΨ2 hΨ2'=>?_
 refine aL fun Ψ3 hΨ3 hΨ3e hΨ3'=>?_
 refine aA fun Ψ4 hΨ4 hΨ4'=>?_
 by_cases g1:n%40<24
 ·have g1':((n%40:Nat):Int)<24:=by omega
  simp only[mM,↓reduceIte,zA,reduceCtorEq,zE,zB,zC,zD,zF,g1',decide_true]
  refine hΨ4 _ _ ?_
  simp only[bE,RV,RG,↓reduceIte,zA,reduceCtorEq,zE,zB,zC,zD,zF]
  refine aA fun Ψ5 hΨ5 hΨ5'=>?_
  simp only[mM,↓reduceIte,zA,reduceCtorEq,zE,zB,zC,zD,zF,M1.l3]
  refine aB ?_ (XL M1.T ?_)
  ·simp only[mM,↓reduceIte,zA,reduceCtorEq,zE,zB,zC,zD,zF]
  have tm2:((n%40:Nat):Int).tmod ((R2.m:Nat):Int)=((n%40%R2.m:Nat):Int):=rfl
  have tq:IntKind.i64.wrap (((n%40:Nat):Int).tdiv 4)=((n%40/4:Nat):Int):=by
   rw[show ((n%40:Nat):Int).tdiv 4=((n%40/4:Nat):Int) from rfl,aR (by omega) (by omega)]
  have hz:¬ (((R2.m:Nat):Int)=0):=by omega
  obtain⟨s2,e2,l2,k2⟩:=fin s1 ⟨0,((n%40%R2.m:Nat)),((n%40/4:Nat))⟩ (.refl k1.ok)
  simp only[mM,↓reduceIte,zA,reduceCtorEq,zE,zB,zC,zD,zF,tm2,tq,hz,e2]
  refine hΨ5 _ _ ?_
  simp only[mM,↓reduceIte,zA,reduceCtorEq,zE,zB,zC,zD,zF]
  refine hΨ3' _ _ _ (by simp) (by simp) (hΨ2' _ _ _ (by simp) ?_)
  simp only[mM,↓reduceIte,zA,reduceCtorEq,zE,zB,zC,zD,zF,l2]
  exact hΦ ⟨0,_,_⟩ s2 k2
 have g1':¬ ((n%40:Nat):Int)<24:=by omega
 simp only[mM,↓reduceIte,zA,reduceCtorEq,zE,zB,zC,zD,zF,g1',decide_false]
 refine hΨ4 _ _ ?_
 simp only[bE,RV,RG,↓reduceIte,zA,reduceCtorEq,zE,zB,zC,zD,zF]
 refine aA fun Ψ5 hΨ5 hΨ5'=>?_
 by_cases g2:n%40<36
 ·have g2':((n%40:Nat):Int)<36:=by omega
  have ww:IntKind.i64.wrap (((n%40:Nat):Int)-24)=((n%40:Nat):Int)-24:=aR (by omega) (by omega)
  obtain⟨s2,e2,l2,k2⟩:=fin s1 ⟨1,0,((n%40:Nat):Int)-24⟩ (.refl k1.ok)
  simp only[mM,↓reduceIte,zA,reduceCtorEq,zE,zB,zC,zD,zF,g2',decide_true]
  refine hΨ5 _ _ ?_
  simp only[mM,↓reduceIte,zA,reduceCtorEq,zE,zB,zC,zD,zF,ww,e2]
  refine hΨ3' _ _ _ (by simp) (by simp) (hΨ2' _ _ _ (by simp) ?_)
  simp only[mM,↓reduceIte,zA,reduceCtorEq,zE,zB,zC,zD,zF,l2]
  exact hΦ ⟨1,_,_⟩ s2 k2
 have g2':¬ ((n%40:Nat):Int)<36:=by omega
 simp only[mM,↓reduceIte,zA,reduceCtorEq,zE,zB,zC,zD,zF,g2',decide_false]
 refine hΨ5 _ _ ?_
 simp only[mM,↓reduceIte,zA,reduceCtorEq,zE,zB,zC,zD,zF]
 refine hΨ3 _ _ (hΨ2 _ _ ?_)
 have ww:IntKind.i64.wrap (((n%40:Nat):Int)-36)=((n%40:Nat):Int)-36:=aR (by omega) (by omega)
 obtain⟨s2,e2,l2,k2⟩:=fin s1 ⟨2,0,((n%40:Nat):Int)-36⟩ (.refl k1.ok)
 simp only[mM,↓reduceIte,zA,reduceCtorEq,zE,zB,zC,zD,zF,ww,e2,l2]
 exact hΦ ⟨2,_,_⟩ s2 k2
theorem MF:type_of% (An @RX<|An @sC<|An @FN<|An @sB<|@sE):=An @RX<|An @sC<|An @FN<|An @sB<|@sE
theorem vq (hs:Ok s) (M:Mem N s x h r g t P R G Q R2) (S:lO P G) (I:P.Inv) {a i to:Int} (ha:i64 a) (ht:i64 to) (hΦ:∀ G' s',Mem N s' x h r g t (P.setRef a i to) R G' Q R2→lO (P.setRef a i to) G'→cG N s s'→Φ (.bool true) s'):okF q X (KO kc) 58 [ptr x,int a,int i,int to] s Φ:=by
 have ks:aC [] s (s.skip 36):=aC.skip hs _
 have M':=M.aN ks
 refine aG rfl fn_58 rfl (rs:=[.tmp 8]) rfl (N:=26) rfl rfl ?_
 refine aA fun Ψ0 hΨ0 hΨ0'=>?_
 simp only[MF,↓reduceIte,zA,reduceCtorEq,zE,zB,zC,zD,zF]
 refine hΨ0 _ _ ?_
 refine aA fun Ψ1 hΨ1 hΨ1'=>?_
 refine aQ [(11,7)] [x] [] (by kernel_rfl) (by kernel_rfl) (by rfl) fun O hO ΨR hR=>?_
 simp only[MF,↓reduceIte,zA,reduceCtorEq,zE,zB,zC,zD,zF,M.l2]
 refine aW ?_ (XC ks.ok M'.K S I a i to fun G1 F s1 H1 S1 hF hf k1=>?_)
 ·simp only[MF,↓reduceIte,zA,reduceCtorEq,zE,zB,zC,zD,zF]
 have M1:=M'.zt ks.ok k1 hF H1 hf
 have hxF:x∉F:=fun h=>M.xG x (List.mem_singleton.2 rfl) (hF x h)
 have hsm:bP (s.skip 36) s1 x=true:=M'.c.same ks.ok k1 hxF
 simp only[MF,↓reduceIte,zA,reduceCtorEq,zE,zB,zC,zD,zF,M1.l0]
 refine⟨aV hsm bR,?_⟩
 refine aW ?_ (FI k1.ok M1.H I.cZ a i to ha ht fun s2 H2 k2=>?_)
 ·simp only[MF,↓reduceIte,zA,reduceCtorEq,zE,zB,zC,zD,zF]
 simp only[MF,↓reduceIte,zA,reduceCtorEq,zE,zB,zC,zD,zF,beq_self_eq_true]
 have hfo:=(P.pH a i to).2.2 h
 have hnw:P.nw∈P.aU h:=by simp[PH.aU]
 refine hR _ _ (hΨ1 _ _ ?_)
 simp only[MF,↓reduceIte,zA,reduceCtorEq,zE,zB,zC,zD,zF]
 exact hΦ G1 s2 (M1.NC k1.ok k2 (fun y hy=>by rw[List.mem_singleton.1 hy];exact hnw) H2 hfo.1) S1 (((cG.tA ks).trans (.of k1 fun y hy=>M.lG y (hF y hy))).trans (.of k2 fun y hy=>M.lP y (by rw[List.mem_singleton.1 hy];exact hnw)))
theorem jB:type_of% (An @RX<|An @mY<|An @nO<|An @iN<|An @bF<|An @lQ<|An @xU<|An @gq<|An @cO<|An @HJ<|An @OI<|@iH):=An @RX<|An @mY<|An @nO<|An @iN<|An @bF<|An @lQ<|An @xU<|An @gq<|An @cO<|An @HJ<|An @OI<|@iH
theorem law_Set (hs:Ok s) (M:Mem N s x h r g t P R G Q R) {n:Nat} (hn:n<256) {a:Int} (ha:i64 a) (hp:a=0∨P.has a=true) (hΦ:∀ R' Q' s',Mem N s' x h r g t P R' G Q' R'→(PR.sP P R→PR.sP P R')→R'.m=R.m→cG N s s'→Φ (.bool true) s'):okF q X (KO kc) 59 [ptr x,int n,int a] s Φ:=by
 refine aG rfl fn_59 rfl (rs:=[.tmp 6]) rfl (N:=53) rfl rfl ?_
 refine aA fun Ψ0 hΨ0 hΨ0'=>?_
 simp only[jB,↓reduceIte,zA,reduceCtorEq,zE,zB,zC,zD,zF]
 refine hΨ0 _ _ ?_
 refine aA fun Ψ1 hΨ1 hΨ1'=>?_
 simp only[jB,↓reduceIte,zA,reduceCtorEq,zE,zB,zC,zD,zF]
 refine aB ?_ (oo hs M hn fun p s1 k1=>?_)
 ·simp only[jB,↓reduceIte,zA,reduceCtorEq,zE,zB,zC,zD,zF]
 obtain⟨s2,e2,k2,c2,n2⟩:=aT k1.ok (L:=[int 0,int 0,int 0]) (n:=3) (e:=118) rfl
 obtain⟨s3,e3,c3,k3⟩:=c2.storeAll k2.ok (vs:=[int p.k,int p.m,int p.i]) rfl rfl
 simp only[jB,↓reduceIte,zA,reduceCtorEq,zE,zB,zC,zD,zF]
 rw[e2]
 simp only[jB,↓reduceIte,zA,reduceCtorEq,zE,zB,zC,zD,zF,e3]
 refine hΨ1 _ _ ?_
 have k23:aC [] s1 s3:=k2.step k3 fun y hy=>.inr (by rw[List.mem_singleton.1 hy];exact k1.ok.fresh _ (Nat.le_refl _))
 have k03:=k1.trans k23
 have M3:=M.aN k03
 have hp1:s1.next<s3.next:=c3.lt k3.ok
 have lpx:=c3.aS (i:=0) (k:=3) (Nat.le_refl _)
 obtain⟨Rn,hRn⟩:∃ Rn,Rn=(if R.has p=true∧¬ (a<0∨(a=0∧p.k=2)) then R.set p a else R):=⟨_,rfl⟩
 have hRf:Rn.aU r=R.aU r∧(∀ Q:RQ,Q.aU t Rn=Q.aU t R)∧Rn.m=R.m∧(PR.sP P R→PR.sP P Rn):=by
  rw[hRn]
  split
  ·rename_i hc
   refine⟨?_,fun Q=>?_,?_,fun hl=>hl.set hp (fun h=>hc.2 (.inr h)) hc.1⟩
   ·unfold PR.set;split <;> (try split) <;> rfl
   ·unfold PR.set RQ.aU
    split
    ·rfl
    ·split
     ·rfl
     ·simp only[List.length_set]
   ·unfold PR.set;split <;> (try split) <;> rfl
  ·exact⟨rfl,fun _=>rfl,rfl,id⟩
 refine aA fun Ψ2 hΨ2 hΨ2'=>?_
 have two:∀ (a':bD) (s':St),aC [] s3 s'→a'.aD 0=ptr x→a'.aD 7=ptr s1.next→a'.aD 2=int a→Ψ2 .normal a' s':=by
  intro a' s' hk r0 r7 r2
  have M4:=M3.aN hk
  have c4:=c3.aF hk (by simp)
  have lp4:=c4.aS (i:=0) (k:=3) (Nat.le_refl _)
  have ks:aC [] s' (s'.skip 32):=aC.skip hk.ok _
  refine hΨ2 _ _ ?_
  refine aA fun Ψ20 hΨ20 hΨ20'=>?_
  refine aQ [(10,6),(11,6)] [x,s1.next] [] (by kernel_rfl) (by kernel_rfl) (by rfl) fun O hO ΨR hR=>?_
  simp only[jB,↓reduceIte,zA,reduceCtorEq,zE,zB,zC,zD,zF,r0,r7,r2,M4.l3,lp4,List.drop_zero,List.take]
  refine aW ?_ (rr_Set ks.ok (M4.aN ks).T p a fun s5 T5 k5=>?_)
  ·simp only[jB,↓reduceIte,zA,reduceCtorEq,zE,zB,zC,zD,zF]
  rw[← hRn] at T5
  have M5:=(M4.aN ks).setT ks.ok k5 (fun y hy=>hy) T5 (fun y hy=>.inl (by rw[hRf.2.1] at hy;exact hy))
  have nx:x∉Q.aU t R:=fun h=>M.xT x (List.mem_singleton.2 rfl) h
  have np:s1.next∉Q.aU t R:=fun h=>by
   have:=M.T.cH hs _ h
   have:=k1.next
   omega
  have hsx:bP (s'.skip 32) s5 x=true:=(M4.aN ks).c.same ks.ok k5 nx
  have hsp:bP (s'.skip 32) s5 s1.next=true:=(c4.aF ks (by simp)).same ks.ok k5 np
  have lp5:=((c4.aF ks (by simp)).aF k5 np).aS (i:=0) (k:=3) (Nat.le_refl _)
  simp only[jB,↓reduceIte,zA,reduceCtorEq,zE,zB,zC,zD,zF,r0,r7,r2,M5.l1,lp5,List.drop_zero,List.take]
  refine⟨aV hsx (aV hsp bR),?_⟩
  refine aW ?_ (qh k5.ok M5.A p a ha fun s6 A6 k6=>?_)
  ·simp only[jB,↓reduceIte,zA,reduceCtorEq,zE,zB,zC,zD,zF]
  rw[← hRn] at A6
  simp only[jB,↓reduceIte,zA,reduceCtorEq,zE,zB,zC,zD,zF,beq_self_eq_true]
  refine hR _ _ (hΨ20 _ _ ?_)
  simp only[jB,↓reduceIte,zA,reduceCtorEq,zE,zB,zC,zD,zF]
  exact hΦ Rn Q s6 (M5.setR k5.ok k6 (fun y hy=>hy) A6 (fun y hy=>.inl (by rw[hRf.1] at hy;exact hy))) hRf.2.2.2 hRf.2.2.1
   (((cG.tA ((k03.trans hk).trans ks)).trans (.of k5 M.lT)).trans (.of k6 M.lR))
 have lk:aI s3.look ⟨s1.next,0,none⟩=some (int p.k):=c3.load rfl
 have li:aI s3.look ⟨s1.next,2,none⟩=some (int p.i):=c3.load rfl
 have ks3:aC [] s3 (s3.skip 28):=aC.skip k3.ok _
 refine aA fun Ψ3 hΨ3 hΨ3'=>?_
 refine aQ [(5,10)] [s1.next] [(3,14)] (by kernel_rfl) (by kernel_rfl) (by rfl) fun O hO ΨR hR=>?_
 have y3:∀ a,aE O a 3=aM (a.aD 14):=hO (3,14) (by simp)
 cases hk2:(p.k==2) with
 | false =>
  simp only[jB,↓reduceIte,zA,reduceCtorEq,zE,zB,zC,zD,zF,y3,lk,hk2]
  refine hR _ _ (hΨ3 _ _ ?_)
  simp only[jB,↓reduceIte,zA,reduceCtorEq,zE,zB,zC,zD,zF]
  refine two _ _ ks3 ?_ ?_ ?_
  all_goals simp only[jB,↓reduceIte,zA,reduceCtorEq,zE,zB,zC,zD,zF]
 | true =>
  simp only[jB,↓reduceIte,zA,reduceCtorEq,zE,zB,zC,zD,zF,y3,lk,hk2,li,M3.l3]
  refine aW ?_ (zk ks3.ok (M3.aN ks3).T fun va vc s4 k4=>?_)
  ·simp only[jB,↓reduceIte,zA,reduceCtorEq,zE,zB,zC,zD,zF]
  have hk4:=ks3.trans k4
  have hsm:bP (s3.skip 28) s4 s1.next=true:=(c3.aF ks3 (by simp)).same ks3.ok k4 (by simp)
  by_cases hc:p.i≥(R.q.length:Int)
  ·simp only[jB,↓reduceIte,zA,reduceCtorEq,zE,zB,zC,zD,zF,y3,hc,decide_true]
   refine⟨aV hsm bR,hR _ _ (hΨ3 _ _ ?_)⟩
   simp only[bE,RV,RG,↓reduceIte,zA,reduceCtorEq,zE,zB,zC,zD,zF]
   have M4:=M3.aN hk4
   have ks4:aC [] s4 (s4.skip 28):=aC.skip k4.ok _
   refine aA fun Ψ21 hΨ21 hΨ21'=>?_
   refine aQ [(9,5)] [x] [] (by kernel_rfl) (by kernel_rfl) (by rfl) fun O hO ΨR hR=>?_
   simp only[jB,↓reduceIte,zA,reduceCtorEq,zE,zB,zC,zD,zF,M4.l3]
   refine aW ?_ (rr_Push ks4.ok (M4.aN ks4).T a fun Q' s5 T5 k5 f5=>?_)
   ·simp only[jB,↓reduceIte,zA,reduceCtorEq,zE,zB,zC,zD,zF]
   have M5:=(M4.aN ks4).setT ks4.ok k5 (fun y hy=>hy) T5 f5
   have nx:x∉Q.aU t R:=fun h=>M.xT x (List.mem_singleton.2 rfl) h
   have hsx:bP (s4.skip 28) s5 x=true:=(M4.aN ks4).c.same ks4.ok k5 nx
   simp only[jB,↓reduceIte,zA,reduceCtorEq,zE,zB,zC,zD,zF,M5.l1]
   refine⟨aV hsx bR,?_⟩
   refine aW ?_ (LF k5.ok M5.A a ha fun va vn vc s6 A6 k6 f6=>?_)
   ·simp only[jB,↓reduceIte,zA,reduceCtorEq,zE,zB,zC,zD,zF]
   simp only[jB,↓reduceIte,zA,reduceCtorEq,zE,zB,zC,zD,zF,beq_self_eq_true]
   refine hR _ _ (hΨ21 _ _ ?_)
   simp only[jB,↓reduceIte,zA,reduceCtorEq,zE,zB,zC,zD,zF]
   refine hΨ2' _ _ _ (by simp) ?_
   simp only[jB,↓reduceIte,zA,reduceCtorEq,zE,zB,zC,zD,zF]
   have M6:=M5.setR k5.ok k6 (fun y hy=>hy) A6 (fun y hy=>?_)
   ·have T6:mV s6 t Q' {R with va:=va,vn:=vn,vc:=vc,q:=R.vJ a}:=M6.T.congr rfl rfl rfl rfl
    refine hΦ {R with va:=va,vn:=vn,vc:=vc,q:=R.vJ a} Q' s6 ?_ (fun hl=>(hl.push hp).congr rfl rfl rfl) rfl
     (((cG.tA ((k03.trans hk4).trans ks4)).trans (.of k5 M.lT)).trans (.of k6 M.lR))
    obtain⟨c,H,A,K,T,m1,m2,m3,m4,m5,m6,m7,m8,m9,m10,m11,m12,m13,m14,m15⟩:=M6
    exact⟨c,H,A,K,T6,m1,m2,m3,m4,m5,m6,m7,m8,m9,m10,m11,m12,m13,m14,m15⟩
   ·unfold PR.aU at hy
    rcases List.mem_append.1 hy with h | h
    ·exact .inl (List.mem_append_left _ h)
    ·rcases f6 y h with h | h
     ·exact .inl (List.mem_append_right _ h)
     ·exact .inr h
  ·simp only[jB,↓reduceIte,zA,reduceCtorEq,zE,zB,zC,zD,zF,y3,hc,decide_false]
   refine⟨aV hsm bR,hR _ _ (hΨ3 _ _ ?_)⟩
   simp only[jB,↓reduceIte,zA,reduceCtorEq,zE,zB,zC,zD,zF]
   refine two _ _ hk4 ?_ ?_ ?_
   all_goals simp only[jB,↓reduceIte,zA,reduceCtorEq,zE,zB,zC,zD,zF]
end
end Go.Dust
