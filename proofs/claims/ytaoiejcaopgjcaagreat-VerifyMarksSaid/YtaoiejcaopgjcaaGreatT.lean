/- VerifyMarks walked in D, function by function, and its plain law (N4 S2 S3 S4 H1 H2). -/
import Derived.Test.YtaoiejcaopgjcaaGreatS
import Derived.Test.YtaoiejcaopgjcaaGreatR
set_option linter.unusedVariables false
set_option linter.unusedSimpArgs false
namespace Go.Dust
open Go.Proofs
set_option maxRecDepth 100000
set_option maxHeartbeats 2000000
theorem bE.YE {F G:List Nat} {s m T:St} {e:TypeId} {N:Nat} {v:Value} {L:List Value} (h:bE s e N v L) (k1:aC F s m) (k2:aC G s T) (h1:∀ b∈nameOf v,b∉F) (h2:∀ b∈nameOf v,b∉G):yB (nameOf v) m T:=by
 intro b hb;have g1:=h1 b hb;have g2:=h2 b hb;cases h with
 | nil=>cases hb
 | own h _ _ _ _ =>
  simp only[nameOf,List.mem_singleton] at hb;subst hb;obtain⟨c,z,room,aT,hg,_⟩:=h;have:=YD (k1.cW _ _ hg g1) rfl k1.ok (.refl k1.ok) (F:=[]) (by simp);unfold eT at this ⊢;rw[k1.cW _ _ hg g1] at this ⊢;rw[k2.cW _ _ hg g2];exact this
theorem bE.oK {s:St} {x:Nat} {f:Nat→bU} {e:TypeId} {N:Nat} {v:Value} {L:List Value} (h:bE s e N v L) (hx:x∉nameOf v):bE (s.put x f) e N v L:=by
 cases h with
 | nil=>exact .nil
 | own h hc hn hL hl =>
  obtain⟨c,z,room,aT,h1,h2⟩:=h;simp only[nameOf,List.mem_singleton] at hx;exact .own ⟨c,z,room,aT,by rw[tF fun e=>hx e.symm];exact h1,h2⟩ hc hn hL hl
section
variable {kc:Kc} {q:Bool} {s:St} {Φ:Value→St→Prop} {a:Option Addr} {n c:Nat} {l:List Int}
theorem gU:type_of% (An @RX<|An @dG<|An @dE<|An @aW<|An @yF<|@jE):=An @RX<|An @dG<|An @dE<|An @aW<|An @yF<|@jE
theorem aFl (hs:Ok s) (B:bE s 3 1 (.slice a n c) (l.map int)) (hn:n<100000) (x:Int) (hp:l.Pairwise (·<·))
  (hΦ:∀ a' n' c' (l':List Int) s',bE s' 3 1 (.slice a' n' c') (l'.map int)→(∀ y,y∈l'↔y∈l∨y=x)→l'.Pairwise (·<·)→aC [] s s'→Φ (.slice a' n' c') s'):okF q X (KO kc) 229 [.slice a n c,int x] s Φ:=by
 have hl:l.length=n:=gL.len B.sl;refine aV rfl C8 rfl (rs:=[.tmp 4]) rfl (N:=45) rfl rfl ?_;refine aA fun bB aF aZ=>?_;simp only[gU,seval];refine aF _ _ ?_;refine aA fun Ψ1 aE aK=>?_;simp only[gU,seval];refine aE _ _ ?_;refine aA fun Ψ2 aH bM=>?_;refine cB fun lJ dW aAz jP=>?_;refine PG (fun k a' s'=>∃ j,k=n-j∧j≤n∧a'.aB 0=.slice a n c∧a'.aB 1=int x∧a'.aB 5=int j∧s'=s∧∀ i (hi:i<l.length),i<j→l[i]<x)
  (fun k a' s'=>∃ j,k=n-j∧j<n∧a'.aB 0=.slice a n c∧a'.aB 1=int x∧a'.aB 5=int j∧s'=s∧∀ i (hi:i<l.length),i<j+1→l[i]<x)
  (fun a' s'=>∃ j,j≤n∧a'.aB 0=.slice a n c∧a'.aB 1=int x∧a'.aB 5=int j∧s'=s∧(∀ i (hi:i<l.length),i<j→l[i]<x)∧∀ hj:j<l.length,¬ l[j]<x) ?_ ?_ ?_ (k0:=n-0) ?_
 ·rintro k a' s' ⟨j,rfl,hj,r0,r1,r5,rfl,bY⟩ aR bH;refine cK [(4,10)] (by kernel_rfl) fun O hO bK hR=>?_;have y4:∀ a,aN O a 4=bC (a.aB 10):=hO (4,10) (by simp);by_cases Dm:j<n
  ·obtain⟨b,off,rfl⟩:=Sl.addr B.sl (by omega);have jO:j<l.length:=by omega
   have lj:=gL.get B.sl (List.getElem?_eq_getElem jO);have g1:(0:Int)≤(j:Int):=Int.natCast_nonneg _;have g2:(j:Int)<(n:Int):=by omega
   simp only[gU,seval,y4,r0,r1,r5,g1,g2,decide_true,and_self,bJ,Int.toNat_natCast,Nat.mul_one,lj];by_cases hx:l[j]<x
   ·refine hR _ _ (bH _ _ true ?_ (fun _=>⟨j,rfl,Dm,?_,?_,?_,rfl,fun i hi hij=>?_⟩) (fun h=>by cases h))
    ·simp only[gU,seval,hx,decide_true]
    ·simp only[gU,seval,r0]
    ·simp only[gU,seval,r1]
    ·simp only[gU,seval,r5]
    ·by_cases e:i=j
     ·subst e;exact hx
     ·exact bY i hi (by omega)
   ·refine hR _ _ (bH _ _ false ?_ (fun h=>by cases h) (fun _=>⟨j,hj,?_,?_,?_,rfl,bY,fun _=>hx⟩))
    ·simp only[gU,seval,hx,decide_false]
    ·simp only[gU,seval,r0]
    ·simp only[gU,seval,r1]
    ·simp only[gU,seval,r5]
  ·have g2:¬ (j:Int)<(n:Int):=by omega
   simp only[gU,seval,y4,r0,r1,r5,g2,decide_false];refine hR _ _ (bH _ _ false ?_ (fun h=>by cases h) (fun _=>⟨j,hj,?_,?_,?_,rfl,bY,fun hj=>absurd hj (by omega)⟩))
   all_goals try simp only[gU,seval,r0,r1,r5]
 ·rintro k a' s' ⟨j,rfl,hj,r0,r1,r5,rfl,bY⟩ aR w1 w2 w3;have w:IntKind.i64.wrap ((j:Int)+1)=((j+1:Nat):Int):=by rw[aU (by omega) (by omega)];rfl
  simp only[gU,seval,r5,w];refine w1 _ _ (n-(j+1)) (by omega) ⟨j+1,rfl,by omega,?_,?_,?_,rfl,bY⟩
  all_goals try simp only[gU,seval,r0,r1]
 ·rintro a' s' ⟨j,hj,r0,r1,r5,rfl,bY,hge⟩;refine aAz _ _ (aH _ _ ?_);refine aA fun Ψ3 aM bN=>?_;refine aA fun Ψ4 aQ bZ=>?_;have fin:∀ a':aG,a'.aB 0=.slice a n c→a'.aB 1=int x→a'.aB 5=int j→(∀ hj:j<l.length,l[j]≠x)→Ψ3 .normal a' s':=by
   intro a' r0 r1 r5 hne;refine aM _ _ ?_;refine aA fun cP bI cF=>?_;have hnm:=B.lt hs;obtain⟨T1,E1,K1,C1,N1⟩:∃ T1,(s'.skip 26).put (s'.next+0) (fun v=>bU.cells (PT.ofList []) [] 0 3 false false v)=T1∧aC [] s' T1∧Cells T1 s'.next 3 []∧T1.next=s'.next+26 :=
    ⟨_,rfl,(aC.skip hs 26).ni (hs.fresh _ (by omega)) (by show s'.next+0<s'.next+26;omega) (by omega) (.inr (Nat.le_refl _)),Cells.pV (L:=[]),rfl⟩
   have S1:yB (nameOf (Value.slice a n c)) (s'.skip 26) T1:=B.YE (aC.skip (F:=[]) hs 26) K1 (by simp) (by simp);have Bn:bE T1 3 1 (.slice (some ⟨s'.next,0,none⟩) 0 0) []:=.own (L0:=[]) C1 (by simp) (Nat.le_refl _) rfl (fun i hi=>absurd hi (Nat.not_lt_zero _));have B1:=B.aD K1 (by simp);obtain⟨v3,f3,Xq,zw⟩:=B1.aHw (X:=X) (t:=62) (by kernel_rfl) (by kernel_rfl) hj;rw[Nat.mul_one] at zw;obtain⟨w,T2,h2,b2,u2,m2,a2,c2,rfl⟩:=iT (X:=X) (t:=62) (e:=3) (N:=1) (B:=8) (z:=.int .i64 0) (x:=v3) (k:=j) (new:=(l.map int).take j) (by kernel_rfl) (by kernel_rfl) rfl K1.ok (by omega) Bn Xq zw (by rw[List.length_take,List.length_map];omega) (by rw[← List.map_take];exact MM _) (by omega) (by omega);rw[Nat.zero_add,List.nil_append] at b2;rw[Nat.zero_add] at m2 h2;have K2:aC [] s' T2:=K1.step u2 fun y hy=>.inr (by rw[List.mem_singleton.1 (show y∈[s'.next] from hy)];exact hs.fresh _ (Nat.le_refl _));have S2:yB (nameOf (Value.slice a n c)) T1 T2:=B.YE K1 K2 (by simp) (by simp);have hn2:∀ y∈nameOf (.slice a2 j c2),y=s'.next∨s'.next+26≤y:=fun y hy=>(m2 y hy).imp (fun h=>List.mem_singleton.1 (show y∈[s'.next] from h)) fun h=>by omega
   have NI:T2.heap.get (s'.next+12)=none:=by
    refine u2.none ?_ (by omega);rw[← E1,tF (by omega)];exact hs.fresh _ (by omega)
   obtain⟨T3,E3,K3,C3,N3⟩:∃ T3,T2.put (s'.next+12) (fun v=>bU.cells (PT.ofList [int x]) [] 1 3 false false v)=T3∧aC [] s' T3∧Obj T3 (s'.next+12) [int x]∧T3.next=T2.next :=
    ⟨_,rfl,K2.pD NI (by have:=u2.next;omega) (by omega) (Nat.le_refl _),Obj.pV rfl,rfl⟩
   have S3:yB (nameOf (Value.slice a n c)) T2 T3:=B.YE K2 K3 (by simp) (by simp);have b3:bE T3 3 1 (.slice a2 j c2) ((l.map int).take j):=by
    rw[← E3];refine b2.oK fun hy=>?_;rcases hn2 _ hy with h | h <;> omega
   obtain⟨w,T4,h4,b4,u4,m4,a4,c4,rfl⟩:=iT (X:=X) (t:=62) (e:=3) (N:=1) (B:=8) (z:=.int .i64 0) (x:=.slice (some ⟨s'.next+12,0,none⟩) 1 1) (k:=1) (new:=[int x]) (by kernel_rfl) (by kernel_rfl) rfl K3.ok (by omega) b3 rfl (kT (by omega) (C3.bD (i:=0) (k:=1) (Nat.le_refl _))) rfl rfl (by omega) (by omega);have K4:aC [] s' T4:=K3.step u4 fun y hy=>.inr (hs.fresh y (by rcases hn2 y hy with h | h <;> omega))
   have S4:yB (nameOf (Value.slice a n c)) T3 T4:=B.YE K3 K4 (by simp) (by simp);have fy:∀ y∈nameOf (.slice a4 (j+1) c4),s'.next≤y:=fun y hy=>by
    rcases m4 y hy with h | h
    ·rcases hn2 y h with h | h <;> omega
    ·have:=u2.next;omega
   have B4:=B.aD K4 (by simp);obtain⟨v10,f10,Xp,zu⟩:=B4.aHv (X:=X) (t:=62) (by kernel_rfl) (by kernel_rfl) hj;rw[Nat.mul_one] at zu;obtain⟨w,T5,h5,b5,u5,m5,a5,c5,rfl⟩:=iT (X:=X) (t:=62) (e:=3) (N:=1) (B:=8) (z:=.int .i64 0) (x:=v10) (k:=n-j) (new:=(l.map int).drop j) (by kernel_rfl) (by kernel_rfl) rfl K4.ok (by omega) b4 Xp zu (by rw[List.length_drop,List.length_map];omega) (by rw[← List.map_drop];exact MM _) (by omega) (by omega);have K5:aC [] s' T5:=K4.step u5 fun y hy=>.inr (hs.fresh y (fy y hy));refine dH [(3,0),(10,0),(10,4),(10,6),(10,7)] (nameOf (Value.slice a n c)) [] (by kernel_rfl) (by kernel_rfl) (by rfl) fun O hO bK hR=>?_;simp only[gU,seval,r0,r1,r5];rw[E1];refine⟨S1,?_⟩;simp only[gU,seval,f3];refine⟨fun _ h=>h,?_⟩;refine MY ?_ h2 ?_ ?_
   ·simp only[gU,seval,Nat.add_zero]
   ·simp only[gU,seval];exact S2
   simp only[gU,seval,r1];rw[E3];refine⟨S3,?_⟩;refine MY ?_ h4 ?_ ?_
   ·simp only[gU,seval]
   ·simp only[gU,seval];exact S4
   simp only[gU,seval,r0,r5,f10];refine⟨fun _ h=>h,?_⟩;refine MY ?_ h5 ?_ ?_
   ·simp only[gU,seval]
   ·simp only[gU,seval]
   simp only[gU,seval];refine hR _ _ (bI _ _ ?_);simp only[gU,seval];rw[← List.map_take,← List.map_drop,← List.map_singleton (f:=int) (a:=x),← List.map_append,← List.map_append] at b5;refine hΦ a5 _ c5 _ T5 b5 (fun y=>aEv) (aEx hp (by omega) bY fun jO=>?_) K5;have:=hge jO;have:=hne jO;omega
  refine cK [(4,24)] (by kernel_rfl) fun O hO bK hR=>?_;have y4:∀ a,aN O a 4=bC (a.aB 24):=hO (4,24) (by simp);by_cases Dm:j<n
  ·obtain⟨b,off,rfl⟩:=Sl.addr B.sl (by omega);have jO:j<l.length:=by omega
   have lj:=gL.get B.sl (List.getElem?_eq_getElem jO);have g1:(0:Int)≤(j:Int):=Int.natCast_nonneg _;have g2:(j:Int)<(n:Int):=by omega
   simp only[gU,seval,y4,r0,r1,r5,g1,g2,decide_true,and_self,bJ,Int.toNat_natCast,Nat.mul_one,lj];by_cases hx:l[j]=x
   ·have he:(l[j]==x)=true:=by simpa using hx
    refine hR _ _ (aQ _ _ ?_);simp only[gU,seval,he,r0];refine bN _ _ _ (by simp) ?_;simp only[gU,seval];exact hΦ _ _ _ l s' B (fun y=>⟨.inl,fun h=>h.elim id fun e=>by rw[e,← hx];exact List.getElem_mem _⟩) hp (.refl hs)
   ·have he:(l[j]==x)=false:=by simpa using hx
    refine hR _ _ (aQ _ _ ?_);simp only[gU,seval,he];refine fin _ ?_ ?_ ?_ fun _=>hx
    all_goals simp only[gU,seval,r0,r1,r5]
  ·have g2:¬ (j:Int)<(n:Int):=by omega
   simp only[gU,seval,y4,r0,r1,r5,g2,decide_false];refine hR _ _ (aQ _ _ ?_);simp only[gU,seval];refine fin _ ?_ ?_ ?_ fun h=>absurd h (by omega)
   all_goals simp only[gU,seval,r0,r1,r5]
 ·refine⟨0,rfl,Nat.zero_le _,?_,?_,?_,rfl,fun i hi h=>absurd h (Nat.not_lt_zero _)⟩
  all_goals try simp only[gU,seval]
  try rfl
end
open Go.Proofs
set_option maxRecDepth 100000
set_option maxHeartbeats 1000000
namespace PH
structure Inv (P:PH):Prop where
 cM:P.cM
 id:∀ a,P.has a=true→1≤P.w a.toNat∧P.w a.toNat≤P.born
 M:∀ a,P.has a=true→P.M.lookup (P.w a.toNat)=some a
 Mk:∀ p∈P.M,p.1≤P.born
 Mh:∀ p∈P.M,P.has p.2=true∧P.w p.2.toNat=p.1
 Mn:(P.M.map Prod.fst).Nodup
 zero:∀ i:Nat,(∀ o,P.has o=true→¬ (o≤i∧(i:Int)<o+P.size o))→P.w i=0
 q:∀ i,P.S i≠1→P.Q i=0
 bL:∀ i,P.bs i=0→P.bp i=0
 bW:P.N≤64
 b0:P.bs 0=0
 z:∀ a,P.has a=true→64≤a
variable {P:PH}
theorem aCk {M:List (Int×Int)} {k:Int} (h:∀ p∈M,p.1≠k):M.lookup k=none:=by
 induction M with
 | nil=>rfl
 | cons p M ih =>
  rcases p with ⟨x,y⟩;rw[List.lookup_cons];have:=h _ (List.mem_cons_self ..);rw[show (k==x)=false from beq_eq_false_iff_ne.2 (fun e=>this e.symm)];exact ih fun p hp=>h p (List.mem_cons_of_mem _ hp)
theorem aCh {M:List (Int×Int)} {k x y:Int}:(M++[(x,y)]).lookup k=match M.lookup k with
  | some v=>some v
  | none=>if k=x then some y else none:=by
 induction M with
 | nil =>
  rw[List.nil_append,List.lookup_cons];by_cases h:k=x
  ·subst h;simp
  ·rw[show (k==x)=false from beq_eq_false_iff_ne.2 h,if_neg h];rfl
 | cons p M ih =>
  rcases p with ⟨u,v⟩;rw[List.cons_append,List.lookup_cons,List.lookup_cons,ih];cases (k==u) <;> rfl
theorem Inv.next (I:P.Inv):P.M.lookup ((P.born:Int)+1)=none:=aCk fun p hp=>by have:=I.Mk p hp;omega
theorem Empty.inv {n:Nat} (E:P.Empty n) (hn:n≤64):P.Inv:=by
 have hh:∀ a,P.has a=false:=fun a=>by
  cases h:P.has a with
  | false=>rfl
  | true=>have:=(iN.1 h).2.2.2;rw[E.S] at this;cases this
 refine⟨⟨fun a h=>(by rw[hh] at h;cases h),fun a b h=>(by rw[hh] at h;cases h)⟩,fun a h=>(by rw[hh] at h;cases h),fun a h=>(by rw[hh] at h;cases h),?_,?_,?_,fun i _=>by rw[E.w],fun i _=>by rw[E.Q],fun i _=>by rw[E.bp],by rw[E.N];exact hn,by rw[E.bs],fun a h=>(by rw[hh] at h;cases h)⟩
 ·rw[E.M];intro p hp;cases hp
 ·rw[E.M];intro p hp;cases hp
 ·rw[E.M];exact .nil
structure Room (P:PH) (a:Int) (x:cI):Prop where
 v:x.valid=true
 a0:64≤a
 ae:a%2=0
 top:a+x.words≤64*P.N
 apart:∀ o,P.has o=true→a+x.words≤o∨o+P.size o≤a
theorem Yf {a n b:Int} (h:P.oR a n b=0):(0≤a∧a<64*P.N∧a%2=0)∧(if n≤32 then P.bs (a/64).toNat=1∧(a+n-1)/64=a/64 else P.bs (a/64).toNat=2∧a%64=0∧(P.span (a/64).toNat:Int)=(n+63)/64)∧P.kJ a b ((n+1)/2).toNat=false:=by
 unfold oR at h;by_cases h1:a<0∨a≥64*P.N∨a%2≠0
 ·rw[if_pos h1] at h;cases h
 ·rw[if_neg h1] at h;refine⟨by omega,?_⟩;by_cases hn:n≤32
  ·simp only[if_pos hn] at h ⊢;by_cases h2:P.bs (a/64).toNat≠1∨(a+n-1)/64≠a/64
   ·rw[if_pos h2] at h;cases h
   ·rw[if_neg h2] at h;refine⟨by omega,?_⟩;cases hh:P.kJ a b ((n+1)/2).toNat with
    | false=>rfl
    | true=>rw[hh,if_pos rfl] at h;cases h
  ·simp only[if_neg hn] at h ⊢;by_cases h2:P.bs (a/64).toNat≠2∨a%64≠0∨(P.span (a/64).toNat:Int)≠(n+63)/64
   ·rw[if_pos h2] at h;cases h
   ·rw[if_neg h2] at h;refine⟨by omega,?_⟩;cases hh:P.kJ a b ((n+1)/2).toNat with
    | false=>rfl
    | true=>rw[hh,if_pos rfl] at h;cases h
theorem Lj (G:P.cM) (hb0:P.bs 0=0) {a:Int} {x:cI} (h:P.rL a x=0):P.Room a x:=by
 unfold rL at h;split at h
 ·rename_i hv;obtain⟨w1,w2⟩:=cI.sX hv;have w3:=x.CA;obtain⟨g1,g2,g3⟩:=Yf h;have hz:(a/64).toNat≠0:=fun e=>by
   rw[e] at g2;split at g2 <;> omega
  refine⟨hv,by omega,by omega,?_,fun o ho=>?_⟩
  ·by_cases hw:x.words≤32
   ·rw[if_pos hw] at g2;omega
   ·rw[if_neg hw] at g2;have:P.span (a/64).toNat≤P.N-(a/64).toNat:=by
     unfold span;split
     ·have:=QG (bs:=P.bs) (p:=(a/64).toNat+1) (d:=P.N-((a/64).toNat+1));omega
     ·omega
    omega
  ·have hc:¬ ∃ o,P.has o=true∧o<a+x.words∧a<o+P.size o:=fun hc=>by
    rw[(Dh G (by omega) (by omega) w3.2.2 (by omega)).2 hc] at g3;cases g3
   by_cases h4:a+x.words≤o
   ·exact .inl h4
   ·exact .inr (Int.not_lt.1 fun h5=>hc ⟨o,ho,by omega,h5⟩)
 ·cases h
section
variable {a:Int} {x:cI}
theorem PL {i:Nat} (h1:i≠a.toNat) (h2:i≠(a+1).toNat):(P.place a x).w i=P.w i:=by
 show (if i=(a+1).toNat then x.num else if i=a.toNat then(P.born:Int)+1 else P.w i)=_;rw[if_neg h2,if_neg h1]
theorem XK (h0:64≤a):(P.place a x).w a.toNat=(P.born:Int)+1:=by
 show (if a.toNat=(a+1).toNat then x.num else if a.toNat=a.toNat then(P.born:Int)+1 else P.w a.toNat)=_;rw[if_neg (by omega),if_pos rfl]
theorem nc (hv:x.valid=true):(P.place a x).shape a=x:=by
 show tU (if (a+1).toNat=(a+1).toNat then x.num else _)=x;rw[if_pos rfl,aH5 hv]
theorem vN (R:P.Room a x) (b:Int):(P.place a x).has b=true↔(P.has b=true∨b=a):=by
 obtain⟨hv,h0,he,ht,_⟩:=R;have hw:=cI.sX hv;rw[iN,iN];show (0≤b∧b%2=0∧b/2<32*(P.N:Int)∧jB P.S (a/2).toNat 1 (b/2).toNat=1)↔_;unfold jB;constructor
 ·rintro⟨g1,g2,g3,g4⟩;split at g4
  ·exact .inr (by omega)
  ·exact .inl ⟨g1,g2,g3,g4⟩
 ·rintro(⟨g1,g2,g3,g4⟩ | rfl)
  ·refine⟨g1,g2,g3,?_⟩;split
   ·try rfl
   ·exact g4
  ·exact⟨by omega,he,by omega,by rw[if_pos rfl]⟩
theorem BG (G:P.cM) (R:P.Room a x) {b:Int} (hb:P.has b=true):(P.place a x).shape b=P.shape b∧(P.place a x).size b=P.size b∧∀ i:Nat,b≤i→(i:Int)<b+P.size b→(P.place a x).w i=P.w i:=by
 obtain⟨s1,s2,s3,s4,s5⟩:=size_pos G hb;have hw:=cI.sX R.v;have h0:=R.a0;have ha:=R.apart b hb;have e:∀ i:Nat,b≤i→(i:Int)<b+P.size b→(P.place a x).w i=P.w i:=fun i h1 h2=>PL (by omega) (by omega);have e1:(P.place a x).shape b=P.shape b:=by
  unfold shape;rw[e _ (by omega) (by omega)]
 exact⟨e1,by unfold size;rw[e1],e⟩
theorem XL (hv:x.valid=true):(P.place a x).size a=x.words:=by unfold size;rw[nc hv]
theorem Inv.place (I:P.Inv) (R:P.Room a x):(P.place a x).Inv:=by
 have G:=I.cM;have hw:=cI.sX R.v;have hN:(P.place a x).N=P.N:=rfl;have na:P.has a=false:=by
  cases h:P.has a with
  | false=>rfl
  | true =>
   have:=R.apart a h;have:=size_pos G h;omega
 refine⟨⟨fun b hb=>?_,fun b c hb hc bY=>?_⟩,fun b hb=>?_,fun b hb=>?_,fun p hp=>?_,fun p hp=>?_,?_,fun i hi=>?_,fun i hi=>?_,fun i hi=>I.bL i hi,I.bW,I.b0,fun b hb=>?_⟩
 ·rcases(vN R b).1 hb with h | rfl
  ·obtain⟨e1,e2,e3⟩:=BG G R h;rw[e1,e2];exact G.val b h
  ·rw[nc R.v,XL R.v];exact⟨R.v,R.top⟩
 ·rcases(vN R b).1 hb with h | rfl <;> rcases(vN R c).1 hc with k | rfl
  ·rw[(BG G R h).2.1];exact G.sB b c h k bY
  ·rw[(BG G R h).2.1];have:=R.apart b h;omega
  ·rw[XL R.v];have:=R.apart c k;have:=size_pos G k;omega
  ·omega
 ·show _∧_≤((P.born+1:Nat):Int);rcases(vN R b).1 hb with h | rfl
  ·obtain⟨s1,s2,s3,s4,s5⟩:=size_pos G h;rw[(BG G R h).2.2 _ (by omega) (by omega)];have:=I.id b h;omega
  ·rw[XK R.a0];omega
 ·show (P.M++[((P.born:Int)+1,a)]).lookup _=_;rw[aCh];rcases(vN R b).1 hb with h | rfl
  ·obtain⟨s1,s2,s3,s4,s5⟩:=size_pos G h;rw[(BG G R h).2.2 _ (by omega) (by omega),I.M b h]
  ·rw[XK R.a0,I.next,if_pos rfl]
 ·show p.1≤((P.born+1:Nat):Int);rcases List.mem_append.1 hp with h | h
  ·have:=I.Mk p h;omega
  ·cases List.mem_singleton.1 h;omega
 ·rcases List.mem_append.1 hp with h | h
  ·obtain⟨g1,g2⟩:=I.Mh p h;obtain⟨s1,s2,s3,s4,s5⟩:=size_pos G g1;exact⟨(vN R _).2 (.inl g1),by rw[(BG G R g1).2.2 _ (by omega) (by omega)];exact g2⟩
  ·cases List.mem_singleton.1 h;exact⟨(vN R _).2 (.inr rfl),XK R.a0⟩
 ·show ((P.M++[((P.born:Int)+1,a)]).map Prod.fst).Nodup;rw[List.map_append,List.nodup_append];refine⟨I.Mn,by simp,fun u hu v hv=>?_⟩;obtain⟨p,hp,rfl⟩:=List.mem_map.1 hu;have:=I.Mk p hp;rw[List.map_cons,List.map_nil,List.mem_singleton] at hv;subst hv;omega
 ·have h1:=hi a ((vN R a).2 (.inr rfl));rw[XL R.v] at h1;have h0:=R.a0;rw[PL (by omega) (by omega)];refine I.zero i fun o ho=>?_;have:=hi o ((vN R o).2 (.inl ho));rw[(BG G R ho).2.1] at this;exact this
 ·have h1:P.S i≠1:=by
   intro hc;apply hi;show jB P.S (a/2).toNat 1 i=1;unfold jB;split
   ·try rfl
   ·exact hc
  exact I.q i h1
 ·rcases(vN R b).1 hb with h | rfl
  ·exact I.z b h
  ·exact R.a0
end
theorem Inv.blocks (I:P.Inv) {f g:Nat→Int} (h:∀ i,f i=0→g i=0) (h0:f 0=0):({P with bs:=f,bp:=g}:PH).Inv :=
 ⟨⟨I.cM.val,I.cM.sB⟩,I.id,I.M,I.Mk,I.Mh,I.Mn,I.zero,I.q,h,I.bW,h0,I.z⟩
theorem Inv.rB (I:P.Inv) {p k:Nat} (hp:1≤p) {x y u v:Int} (hx:x≠0) (hu:u=0→v=0):(P.rB p k x y u v).Inv:=by
 refine I.blocks (fun i hi=>?_) ?_;rotate_left
 ·unfold dC;rw[if_neg (by omega)];simp only;rw[if_neg (by omega)];exact I.b0
 unfold dC at hi ⊢;split at hi
 ·exact absurd hi hx
 ·rename_i hne;rw[if_neg hne];simp only at hi ⊢;split at hi
  ·rename_i h1;rw[if_pos h1];exact hu hi
  ·rename_i h1;rw[if_neg h1];exact I.bL i hi
end PH
open Go.Proofs
set_option maxRecDepth 100000
set_option maxHeartbeats 1000000
namespace PH
variable {P:PH}
def Body (P:PH) (o j:Int):Prop:=P.has o=true∧o+2≤j∧j<o+P.size o
section
variable {o j v:Int}
theorem LC {i:Nat} (h:i≠j.toNat):(P.mH j v).w i=P.w i:=by
 show (if i=j.toNat then v else P.w i)=_;rw[if_neg h]
theorem aH2:(P.mH j v).w j.toNat=v:=by
 show (if j.toNat=j.toNat then v else _)=_;rw[if_pos rfl]
theorem wh (G:P.cM) (B:P.Body o j) {b:Int} (hb:P.has b=true):b.toNat≠j.toNat∧(b+1).toNat≠j.toNat:=by
 obtain⟨h1,h2,h3⟩:=B;obtain⟨s1,s2,s3,s4,s5⟩:=size_pos G hb;obtain⟨t1,t2,t3,t4,t5⟩:=size_pos G h1;rcases Int.lt_trichotomy b o with h | h | h
 ·have:=G.sB b o hb h1 h;omega
 ·omega
 ·have:=G.sB o b h1 hb h;omega
theorem PY (G:P.cM) (B:P.Body o j) {b:Int} (hb:P.has b=true):(P.mH j v).shape b=P.shape b:=by
 unfold shape;rw[LC (wh G B hb).2]
theorem pn (G:P.cM) (B:P.Body o j) {b:Int} (hb:P.has b=true):(P.mH j v).size b=P.size b:=by
 unfold size;rw[PY G B hb]
theorem YG (G:P.cM) (B:P.Body o j) {b:Int} (hb:P.has b=true):(P.mH j v).w b.toNat=P.w b.toNat:=LC (wh G B hb).1
theorem Inv.mH (I:P.Inv) (B:P.Body o j):(P.mH j v).Inv:=by
 have G:=I.cM;refine⟨⟨fun b hb=>?_,fun b c hb hc bY=>?_⟩,fun b hb=>?_,fun b hb=>?_,I.Mk,fun p hp=>?_,I.Mn,fun i hi=>?_,I.q,I.bL,I.bW,I.b0,I.z⟩
 ·have hb:P.has b=true:=hb;rw[PY G B hb,pn G B hb];exact G.val b hb
 ·have hb:P.has b=true:=hb;rw[pn G B hb];exact G.sB b c hb hc bY
 ·have hb:P.has b=true:=hb;rw[YG G B hb];exact I.id b hb
 ·have hb:P.has b=true:=hb;rw[YG G B hb];exact I.M b hb
 ·obtain⟨h1,h2⟩:=I.Mh p hp;exact⟨h1,by rw[YG G B h1];exact h2⟩
 ·have h2:∀ o,P.has o=true→¬ (o≤i∧(i:Int)<o+P.size o):=fun b hb=>by
   have:=hi b hb;rw[pn G B hb] at this;exact this
  have h3:=h2 o B.1;have:=B.2;have:=size_pos G B.1;rw[LC (by omega)];exact I.zero i h2
end
theorem Inv.gH (I:P.Inv) (a:Int) (v:Nat):(P.gH a v).Inv:=by
 unfold PH.gH;split
 ·rename_i h;refine⟨⟨I.cM.val,I.cM.sB⟩,I.id,I.M,I.Mk,I.Mh,I.Mn,I.zero,fun i hi=>?_,I.bL,I.bW,I.b0,I.z⟩;have hi:P.S i≠1:=hi;show jB P.Q (a/2).toNat v i=0;unfold jB;rw[if_neg (fun e=>hi (by rw[e];exact(iN.1 h).2.2.2))];exact I.q i hi
 ·exact I
section
variable {a:Int}
theorem yZ (h:P.has a=true) (b:Int):(P.kill a).has b=true↔(P.has b=true∧b≠a):=by
 have h0:=iN.1 h;rw[iN,iN];show (0≤b∧b%2=0∧b/2<32*(P.N:Int)∧jB P.S (a/2).toNat 0 (b/2).toNat=1)↔_;unfold jB;constructor
 ·rintro⟨g1,g2,g3,g4⟩;split at g4
  ·cases g4
  ·rename_i hne;exact⟨⟨g1,g2,g3,g4⟩,fun e=>hne (by rw[e])⟩
 ·rintro⟨⟨g1,g2,g3,g4⟩,hne⟩;refine⟨g1,g2,g3,?_⟩;rw[if_neg (by omega)];exact g4
theorem DE (G:P.cM) (h:P.has a=true) {b:Int} (hb:P.has b=true) (hne:b≠a):(P.kill a).shape b=P.shape b∧(P.kill a).size b=P.size b∧∀ i:Nat,b≤i→(i:Int)<b+P.size b→(P.kill a).w i=P.w i:=by
 obtain⟨s1,s2,s3,s4,s5⟩:=size_pos G hb;obtain⟨t1,t2,t3,t4,t5⟩:=size_pos G h;have e:∀ i:Nat,b≤i→(i:Int)<b+P.size b→(P.kill a).w i=P.w i:=fun i h1 h2=>by
  show (if a≤(i:Int)∧(i:Int)<a+P.size a then 0 else P.w i)=_;rw[if_neg];rintro⟨h3,h4⟩;rcases Int.lt_trichotomy b a with h' | h' | h'
  ·have:=G.sB b a hb h h';omega
  ·omega
  ·have:=G.sB a b h hb h';omega
 have e1:(P.kill a).shape b=P.shape b:=by
  unfold shape;rw[e _ (by omega) (by omega)]
 exact⟨e1,by unfold size;rw[e1],e⟩
theorem aCi {M:List (Int×Int)} {k k':Int} (h:k'≠k):(M.eraseP fun p=>p.1==k).lookup k'=M.lookup k':=by
 induction M with
 | nil=>rfl
 | cons p M ih =>
  rcases p with ⟨x,y⟩;by_cases hx:x=k
  ·rw[List.eraseP_cons_of_pos (by simpa using hx),List.lookup_cons,show (k'==x)=false from beq_eq_false_iff_ne.2 (by rw[hx];exact h)]
  ·rw[List.eraseP_cons_of_neg (by simpa using hx),List.lookup_cons,List.lookup_cons,ih]
theorem Xc {M:List (Int×Int)} {k:Int} (hn:(M.map Prod.fst).Nodup):∀ p∈M.eraseP (fun p=>p.1==k),p.1≠k:=by
 induction M with
 | nil=>intro p hp;cases hp
 | cons q M ih =>
  rcases q with ⟨x,y⟩;rw[List.map_cons,List.nodup_cons] at hn;intro p hp;by_cases hx:x=k
  ·rw[List.eraseP_cons_of_pos (by simpa using hx)] at hp;intro e;have hm:p.1∈M.map Prod.fst:=List.mem_map_of_mem hp;rw[e,← hx] at hm;exact hn.1 hm
  ·rw[List.eraseP_cons_of_neg (by simpa using hx)] at hp;rcases List.mem_cons.1 hp with rfl | hp
   ·exact hx
   ·exact ih hn.2 p hp
theorem Inv.kill (I:P.Inv) (h:P.has a=true):(P.kill a).Inv:=by
 have G:=I.cM;have idn:∀ b,P.has b=true→b≠a→P.w b.toNat≠P.w a.toNat:=fun b hb hne e=>by
  have h1:=I.M b hb;rw[e,I.M a h] at h1;exact hne (Option.some.inj h1).symm
 refine⟨⟨fun b hb=>?_,fun b c hb hc bY=>?_⟩,fun b hb=>?_,fun b hb=>?_,fun p hp=>?_,fun p hp=>?_,?_,fun i hi=>?_,fun i hi=>?_,I.bL,I.bW,I.b0,fun b hb=>I.z b ((yZ h b).1 hb).1⟩
 ·obtain⟨h1,h2⟩:=(yZ h b).1 hb;obtain⟨e1,e2,e3⟩:=DE G h h1 h2;rw[e1,e2];exact G.val b h1
 ·obtain⟨h1,h2⟩:=(yZ h b).1 hb;rw[(DE G h h1 h2).2.1];exact G.sB b c h1 ((yZ h c).1 hc).1 bY
 ·obtain⟨h1,h2⟩:=(yZ h b).1 hb;obtain⟨s1,s2,s3,s4,s5⟩:=size_pos G h1;rw[(DE G h h1 h2).2.2 _ (by omega) (by omega)];exact I.id b h1
 ·obtain⟨h1,h2⟩:=(yZ h b).1 hb;obtain⟨s1,s2,s3,s4,s5⟩:=size_pos G h1;rw[(DE G h h1 h2).2.2 _ (by omega) (by omega)];show (P.M.eraseP fun p=>p.1==P.w a.toNat).lookup _=_;rw[aCi (idn b h1 h2)];exact I.M b h1
 ·exact I.Mk p (List.mem_of_mem_eraseP hp)
 ·have hm:p∈P.M:=List.mem_of_mem_eraseP hp;have hne:=Xc I.Mn p hp;obtain⟨g1,g2⟩:=I.Mh p hm;have Ds:p.2≠a:=fun e=>hne (by rw[← g2,e]);obtain⟨s1,s2,s3,s4,s5⟩:=size_pos G g1;exact⟨(yZ h _).2 ⟨g1,Ds⟩,by rw[(DE G h g1 Ds).2.2 _ (by omega) (by omega)];exact g2⟩
 ·exact I.Mn.sublist ((List.eraseP_sublist).map _)
 ·show (if a≤(i:Int)∧(i:Int)<a+P.size a then 0 else P.w i)=0;split
  ·try rfl
  ·rename_i hc;refine I.zero i fun o ho=>?_;by_cases gg:o=a
   ·rw[gg];exact hc
   ·have:=hi o ((yZ h o).2 ⟨ho,gg⟩);rw[(DE G h ho gg).2.1] at this;exact this
 ·have hi:jB P.S (a/2).toNat 0 i≠1:=hi;show jB P.Q (a/2).toNat 0 i=0;unfold jB at hi ⊢;split
  ·try rfl
  ·rename_i hne;rw[if_neg hne] at hi;exact I.q i hi
end
end PH
open Go.Proofs
set_option maxRecDepth 100000
set_option maxHeartbeats 1000000
structure cJ where
 a:Int
 id:Int
 sh:cI
 rn:Nat
 dn:Nat
 rs:List Int
 ds:List Int
 gH:Bool
def PH.words (P:PH) (j n:Int):List Int:=(List.range n.toNat).map fun i=>P.w (j.toNat+i)
structure cJ.ok (P:PH) (o:cJ):Prop where
 id:o.id=P.w o.a.toNat
 sh:o.sh=P.shape o.a
 rs:o.rs=P.words (o.a+2) o.sh.r
 ds:o.ds=P.words (o.a+2+o.sh.r) o.sh.d
 gH:o.gH=decide (P.Q (o.a/2).toNat=1)
structure gN (P:PH) (L:List cJ):Prop where
 all:L.map cJ.a=P.all
 ok:∀ o∈L,o.ok P
def below (L:List cJ) (a:Int):Nat:=(L.takeWhile fun o=>decide (o.a<a)).length
def sN (L:List cJ) (o:cJ):List cJ:=L.take (below L o.a)++[o]++L.drop (below L o.a)
theorem MB (P:PH) (j n:Int):(P.words j n).length=n.toNat:=by simp[PH.words]
theorem ZA (P:PH) (j n:Int) {i:Nat} (h:i<n.toNat):(P.words j n)[i]?=some (P.w (j.toNat+i)):=by
 unfold PH.words;rw[List.getElem?_map,List.getElem?_range h];rfl
theorem qx {P P':PH} {j n:Int} (h:∀ i:Nat,i<n.toNat→P'.w (j.toNat+i)=P.w (j.toNat+i)):P'.words j n=P.words j n:=by
 unfold PH.words;exact List.map_congr_left fun i hi=>h i (List.mem_range.1 hi)
theorem aIt {P:PH} {j n v:Int} {i:Nat} (h:i<n.toNat) (h0:0≤j):(P.mH (j+i) v).words j n=(P.words j n).set i v:=by
 apply List.ext_getElem?;intro k;by_cases hk:k<n.toNat
 ·rw[ZA _ _ _ hk,List.getElem?_set,MB];by_cases e:i=k
  ·subst e;rw[if_pos rfl,if_pos hk];show some (if j.toNat+i=(j+(i:Int)).toNat then v else _)=_;rw[if_pos (by omega)]
  ·rw[if_neg e,ZA _ _ _ hk];show some (if j.toNat+k=(j+(i:Int)).toNat then v else _)=_;rw[if_neg (by omega)]
 ·rw[List.getElem?_eq_none (by rw[MB];omega),List.getElem?_eq_none (by rw[List.length_set,MB];omega)]
namespace gN
variable {P:PH} {L:List cJ}
theorem mem (S:gN P L) {a:Int}:(∃ o∈L,o.a=a)↔P.has a=true:=by
 rw[← PH.qN,← S.all,List.mem_map]
theorem has (S:gN P L) {o:cJ} (h:o∈L):P.has o.a=true:=S.mem.1 ⟨o,h,rfl⟩
theorem sorted (S:gN P L):(L.map cJ.a).Pairwise (·<·):=by rw[S.all];exact PH.RZ
theorem po (S:gN P L) (G:P.cM) {o:cJ} (h:o∈L):0≤o.sh.r∧o.sh.r≤15∧0≤o.sh.d∧o.sh.d≤200∧o.a+2+o.sh.r+o.sh.d≤o.a+P.size o.a:=by
 have h1:=S.has h;have h2:=G.val _ h1;have h3:=(S.ok o h).sh;have h4:=cI.sX h2.1;have h5:=cI.pZ.1 h2.1;unfold PH.size;rw[h3];omega
theorem XE {P':PH} (G:P.cM) (S:gN P L) {o:cJ} (ho:o∈L) (h1:P'.shape o.a=P.shape o.a) (h2:∀ i:Nat,o.a≤i→(i:Int)<o.a+P.size o.a→P'.w i=P.w i) (h3:P'.Q (o.a/2).toNat=P.Q (o.a/2).toNat):o.ok P':=by
 obtain⟨s1,s2,s3,s4,s5⟩:=S.po G ho;obtain⟨t1,t2,t3,t4,t5⟩:=PH.size_pos G (S.has ho);obtain⟨k1,k2,k3,k4,k5⟩:=S.ok o ho;refine⟨?_,?_,?_,?_,?_⟩
 ·rw[k1,h2 _ (by omega) (by omega)]
 ·rw[h1];exact k2
 ·rw[k3];exact(qx fun i hi=>h2 _ (by omega) (by omega)).symm
 ·rw[k4];exact(qx fun i hi=>h2 _ (by omega) (by omega)).symm
 ·rw[h3];exact k5
theorem ZY:∀ {L:List cJ} {a:Int},∀ o∈L.take (below L a),o.a<a
 | [],a,o,h=>by cases h
 | x::L,a,o,h=>by
  unfold below at h;rw[List.takeWhile_cons] at h;split at h
  ·rename_i hx;rw[List.length_cons,List.take_succ_cons] at h;rcases List.mem_cons.1 h with rfl | h
   ·exact of_decide_eq_true hx
   ·exact ZY o h
  ·cases h
theorem vg:∀ {L:List cJ} {a:Int},(L.map cJ.a).Pairwise (·<·)→∀ o∈L.drop (below L a),a≤o.a
 | [],a,_,o,h=>by cases h
 | x::L,a,hp,o,h=>by
  rw[List.map_cons,List.pairwise_cons] at hp;unfold below at h;rw[List.takeWhile_cons] at h;split at h
  ·rw[List.length_cons,List.drop_succ_cons] at h;exact vg hp.2 o h
  ·rename_i hx;have hx:¬ x.a<a:=fun e=>hx (decide_eq_true e);rw[List.length_nil,List.drop_zero] at h;rcases List.mem_cons.1 h with rfl | h
   ·omega
   ·have:=hp.1 o.a (List.mem_map_of_mem h);omega
theorem HH {L:List cJ} {o x:cJ}:x∈sN L o↔x∈L∨x=o:=by
 unfold sN;rw[List.mem_append,List.mem_append,List.mem_singleton];have e:x∈L↔x∈L.take (below L o.a)∨x∈L.drop (below L o.a):=by rw[← List.mem_append,List.take_append_drop]
 rw[e];constructor
 ·rintro((h | h) | h)
  ·exact .inl (.inl h)
  ·exact .inr h
  ·exact .inl (.inr h)
 ·rintro((h | h) | h)
  ·exact .inl (.inl h)
  ·exact .inr h
  ·exact .inl (.inr h)
theorem aEu {L:List cJ} {o:cJ} (hL:(L.map cJ.a).Pairwise (·<·)) (hn:∀ x∈L,x.a≠o.a):((sN L o).map cJ.a).Pairwise (·<·):=by
 unfold sN;have h1:=ZY (L:=L) (a:=o.a);have h2:=vg (a:=o.a) hL;have JK:=hL;rw[← List.take_append_drop (below L o.a) L,List.map_append,List.pairwise_append] at JK;rw[List.map_append,List.map_append,List.map_cons,List.map_nil,List.pairwise_append];refine⟨?_,JK.2.1,?_⟩
 ·rw[List.pairwise_append];refine⟨JK.1,List.pairwise_singleton ..,?_⟩;intro x hx y hy;obtain⟨u,hu,rfl⟩:=List.mem_map.1 hx;rw[List.mem_singleton] at hy;rw[hy];exact h1 u hu
 ·intro x hx y hy;obtain⟨v,hv,rfl⟩:=List.mem_map.1 hy;rcases List.mem_append.1 hx with hx | hx
  ·exact JK.2.2 x hx _ hy
  ·rw[List.mem_singleton] at hx;have:=h2 v hv;have:=hn v (List.mem_of_mem_drop hv);omega
theorem place (I:P.Inv) (S:gN P L) {a:Int} {x:cI} (R:P.Room a x) (rn dn:Nat):gN (P.place a x) (sN L ⟨a,(P.born:Int)+1,x,rn,dn,List.replicate x.r.toNat 0,List.replicate x.d.toNat 0,false⟩):=by
 have G:=I.cM;have hw:=cI.sX R.v;have hx:=cI.pZ.1 R.v;have na:∀ o∈L,o.a≠a:=fun o ho e=>by
  have h:=S.has ho;rw[e] at h;have:=R.apart a h;have:=PH.size_pos G h;omega
 have nh:P.has a=false:=by
  cases h:P.has a with
  | false=>rfl
  | true=>obtain⟨o,ho,e⟩:=S.mem.2 h;exact absurd e (na o ho)
 refine⟨QE (aEu S.sorted na) PH.RZ fun b=>?_,fun o ho=>?_⟩
 ·rw[PH.qN,PH.vN R,← S.mem,List.mem_map];constructor
  ·rintro⟨o,ho,rfl⟩;rcases HH.1 ho with h | h
   ·exact .inl ⟨o,h,rfl⟩
   ·exact .inr (by rw[h])
  ·rintro(⟨o,ho,rfl⟩ | rfl)
   ·exact⟨o,HH.2 (.inl ho),rfl⟩
   ·exact⟨_,HH.2 (.inr rfl),rfl⟩
 ·have hz:∀ i:Nat,a≤i→(i:Int)<a+x.words→P.w i=0:=fun i h1 h2=>I.zero i fun o ho=>by
   have:=R.apart o ho;omega
  have h0:=R.a0;rcases HH.1 ho with h | h
  ·obtain⟨e1,e2,e3⟩:=PH.BG G R (S.has h);exact S.XE G h e1 e3 rfl
  ·rw[h];refine⟨(PH.XK h0).symm,(PH.nc R.v).symm,?_,?_,?_⟩
   ·show List.replicate x.r.toNat 0=(P.place a x).words (a+2) x.r;apply List.ext_getElem?;intro i;by_cases hi:i<x.r.toNat
    ·rw[ZA _ _ _ hi,List.getElem?_replicate,if_pos hi,PH.PL (by omega) (by omega),hz _ (by omega) (by omega)]
    ·rw[List.getElem?_eq_none (by rw[List.length_replicate];omega),List.getElem?_eq_none (by rw[MB];omega)]
   ·show List.replicate x.d.toNat 0=(P.place a x).words (a+2+x.r) x.d;apply List.ext_getElem?;intro i;by_cases hi:i<x.d.toNat
    ·rw[ZA _ _ _ hi,List.getElem?_replicate,if_pos hi,PH.PL (by omega) (by omega),hz _ (by omega) (by omega)]
    ·rw[List.getElem?_eq_none (by rw[List.length_replicate];omega),List.getElem?_eq_none (by rw[MB];omega)]
   ·have:P.S (a/2).toNat≠1:=fun e=>by
     rw[PH.iN.2 ⟨by omega,R.ae,by have:=R.top;omega,e⟩] at nh;cases nh
    show false=decide (P.Q (a/2).toNat=1);rw[I.q _ this]
    try rfl
theorem kill (I:P.Inv) (S:gN P L) {i:Nat} (hi:i<L.length):gN (P.kill L[i].a) (L.eraseIdx i):=by
 have G:=I.cM;have hh:=S.has (List.getElem_mem hi);have hs:=S.sorted;have hs':((L.eraseIdx i).map cJ.a).Pairwise (·<·):=List.Pairwise.sublist ((List.eraseIdx_sublist L i).map _) hs;have hne:∀ o∈L.eraseIdx i,o.a≠L[i].a:=fun o ho=>by
  rw[List.pairwise_map,List.pairwise_iff_getElem] at hs;obtain⟨j,hj,rfl⟩:=List.mem_iff_getElem.1 ho;rw[List.getElem_eraseIdx];rw[List.length_eraseIdx_of_lt hi] at hj;split
  ·have:=hs j i (by omega) hi (by omega);omega
  ·have:=hs i (j+1) hi (by omega) (by omega);omega
 refine⟨QE hs' PH.RZ fun b=>?_,fun o ho=>?_⟩
 ·rw[PH.qN,PH.yZ hh,← S.mem,List.mem_map];constructor
  ·rintro⟨o,ho,rfl⟩;exact⟨⟨o,List.mem_of_mem_eraseIdx ho,rfl⟩,hne o ho⟩
  ·rintro⟨⟨o,ho,rfl⟩,h2⟩;refine⟨o,List.mem_eraseIdx_iff_getElem.2 ?_,rfl⟩;obtain⟨j,hj,rfl⟩:=List.mem_iff_getElem.1 ho;exact⟨j,hj,fun e=>h2 (by subst e;rfl),rfl⟩
 ·have ho':=List.mem_of_mem_eraseIdx ho;obtain⟨e1,e2,e3⟩:=PH.DE G hh (S.has ho') (hne o ho);refine S.XE G ho' e1 e3 ?_;show jB P.Q (L[i].a/2).toNat 0 (o.a/2).toNat=_;unfold jB;have g1:=PH.size_pos G hh;have g2:=PH.size_pos G (S.has ho');have:=hne o ho;rw[if_neg (by omega)]
theorem map_set {L:List cJ} {i:Nat} {o:cJ} (hi:i<L.length) (h:o.a=L[i].a):(L.set i o).map cJ.a=L.map cJ.a:=by
 apply List.ext_getElem?;intro j;rw[List.getElem?_map,List.getElem?_map,List.getElem?_set];split
 ·rename_i e;subst e
  first | rw[if_pos hi] | skip
  rw[List.getElem?_eq_getElem hi];simp[h]
 ·try rfl
theorem set {P':PH} (S:gN P L) {i:Nat} (hi:i<L.length) {o:cJ} (ha:o.a=L[i].a) (hall:P'.all=P.all) (ho:o.ok P') (hr:∀ x∈L,x.a≠L[i].a→x.ok P'):gN P' (L.set i o):=by
 refine⟨by rw[map_set hi ha,hall];exact S.all,fun x hx=>?_⟩;obtain⟨j,hj,rfl⟩:=List.mem_iff_getElem.1 hx;rw[List.length_set] at hj;rw[List.getElem_set];split
 ·exact ho
 ·rename_i hne;refine hr _ (List.getElem_mem hj) fun e=>hne ?_;have hs:=S.sorted;rw[List.pairwise_map,List.pairwise_iff_getElem] at hs;rcases Nat.lt_trichotomy i j with h | h | h
  ·have:=hs i j hi hj h;omega
  ·exact h
  ·have:=hs j i hj hi h;omega
theorem setRef (I:P.Inv) (S:gN P L) {i k:Nat} (hi:i<L.length) (hk:k<L[i].sh.r.toNat) (v:Int):gN (P.mH (L[i].a+2+k) v) (L.set i {L[i] with rs:=L[i].rs.set k v}):=by
 have G:=I.cM;have hm:=List.getElem_mem hi;have hh:=S.has hm;obtain⟨s1,s2,s3,s4,s5⟩:=S.po G hm;obtain⟨t1,t2,t3,t4,t5⟩:=PH.size_pos G hh;obtain⟨k1,k2,k3,k4,k5⟩:=S.ok _ hm;have B:P.Body L[i].a (L[i].a+2+k):=⟨hh,by omega,by omega⟩;refine S.set hi rfl rfl ⟨?_,?_,?_,?_,k5⟩ fun x hx hne=>?_
 ·rw[PH.YG G B hh];exact k1
 ·rw[PH.PY G B hh];exact k2
 ·show L[i].rs.set k v=_;rw[aIt hk (by omega),← k3]
 ·show L[i].ds=_;rw[k4];exact(qx fun i hi=>PH.LC (by omega)).symm
 ·have hx':=S.has hx;obtain⟨u1,u2,u3,u4,u5⟩:=PH.size_pos G hx';refine S.XE G hx (PH.PY G B hx') (fun j h1 h2=>PH.LC ?_) rfl;rcases Int.lt_trichotomy x.a L[i].a with h | h | h
  ·have:=G.sB _ _ hx' hh h;omega
  ·exact absurd h hne
  ·have:=G.sB _ _ hh hx' h;omega
theorem gH (S:gN P L) (G:P.cM) {i:Nat} (hi:i<L.length) {v:Nat}:gN (P.gH L[i].a v) (L.set i {L[i] with gH:=decide (v=1)}):=by
 have hm:=List.getElem_mem hi;have hh:=S.has hm;obtain⟨k1,k2,k3,k4,k5⟩:=S.ok _ hm;have g1:=PH.size_pos G hh;unfold PH.gH;rw[if_pos hh];refine S.set hi rfl rfl ⟨k1,k2,k3,k4,?_⟩ fun x hx hne=>?_
 ·show decide (v=1)=decide (jB P.Q (L[i].a/2).toNat v (L[i].a/2).toNat=1);unfold jB;rw[if_pos rfl]
 ·have g2:=PH.size_pos G (S.has hx);refine S.XE G hx rfl (fun _ _ _=>rfl) ?_;show jB P.Q (L[i].a/2).toNat v (x.a/2).toNat=_;unfold jB;rw[if_neg (by omega)]
end gN
open Go.Proofs
set_option maxRecDepth 100000
set_option maxHeartbeats 1000000
theorem yT {α:Type} {f:α→List Value} {m:Nat} (hf:∀ x,(f x).length=m):∀ (L:List α) {i j:Nat} (hi:i<L.length),j<m→(L.flatMap f)[i*m+j]?=(f L[i])[j]?
 | x::L,0,j,_,hj=>by
  rw[List.flatMap_cons,Nat.zero_mul,Nat.zero_add,List.getElem?_append_left (by rw[hf];exact hj)];rfl
 | x::L,i+1,j,hi,hj=>by
  rw[List.flatMap_cons,List.getElem?_append_right (by rw[hf,Nat.succ_mul];omega),hf,show (i+1)*m+j-m=i*m+j by rw[Nat.succ_mul];omega];exact yT hf L (by simpa using hi) hj
theorem uY {α:Type} {f:α→List Value} {m:Nat} (hf:∀ x,(f x).length=m):∀ (L:List α),(L.flatMap f).length=L.length*m
 | []=>by simp
 | x::L=>by rw[List.flatMap_cons,List.length_append,hf,uY hf L,List.length_cons,Nat.succ_mul,Nat.add_comm]
theorem Bf {α:Type} {f:α→List Value} {m:Nat} (hf:∀ x,(f x).length=m) (L:List α) {i:Nat} (hi:i<L.length):((L.flatMap f).drop (i*m)).take m=f L[i]:=by
 apply List.ext_getElem?;intro j;by_cases hj:j<m
 ·rw[List.getElem?_take,if_pos hj,List.getElem?_drop,yT hf L hi hj]
 ·rw[List.getElem?_eq_none (by rw[List.length_take];omega),List.getElem?_eq_none (by rw[hf];omega)]
def cJ.C (o:cJ):List Value:=[int o.a,int o.id,int o.sh.r,int o.sh.d,int o.sh.k,.slice (some ⟨o.rn,0,none⟩) o.rs.length o.rs.length,.slice (some ⟨o.dn,0,none⟩) o.ds.length o.ds.length,.bool o.gH]
theorem cJ.pL (o:cJ):o.C.length=8:=rfl
structure dD where
 bn:Nat
 va:Option Addr
 vc:Nat
 N:Nat
 bs:Nat→Int
 bp:Nat→Int
 L:List cJ
 born:Nat
def dD.own (g:Nat) (G:dD):List Nat:=g::G.bn::G.L.flatMap fun o=>[o.rn,o.dn]
def dD.bF (g:Nat) (G:dD):List Nat:=G.own g++nameOf (.slice G.va G.L.length G.vc)
structure cE (s:St) (g:Nat) (G:dD):Prop where
 c:Obj s g [.slice (some ⟨G.bn,0,none⟩) G.N G.N,.slice G.va G.L.length G.vc,.slice none 0 0,int G.born]
 cb:Obj s G.bn (row (2*G.N) fun i=>int (if i%2=0 then G.bs (i/2) else G.bp (i/2)))
 cl:bE s 133 8 (.slice G.va G.L.length G.vc) (G.L.flatMap cJ.C)
 cr:∀ o∈G.L,Obj s o.rn (o.rs.map int)∧Obj s o.dn (o.ds.map int)
 nd:(G.own g).Nodup
 nl:∀ b∈nameOf (.slice G.va G.L.length G.vc),b∉G.own g
 n2:2≤G.N
 bW:G.N≤64
 len:G.L.length≤2048
structure iM (P:PH) (G:dD):Prop where
 N:G.N=P.N
 bs:G.bs=P.bs
 bp:G.bp=P.bp
 born:G.born=P.born
 L:gN P G.L
namespace cE
variable {F:List Nat} {s s':St} {g:Nat} {G:dD}
theorem aD (H:cE s g G) (k:aC F s s') (hF:∀ x∈G.bF g,x∉F):cE s' g G:=by
 obtain⟨c,cb,cl,cr,nd,nl,n2,bW,len⟩:=H;have f1:∀ x∈G.own g,x∉F:=fun x hx=>hF x (List.mem_append_left _ hx);have f2:∀ o∈G.L,o.rn∈G.own g∧o.dn∈G.own g:=fun o ho =>
  ⟨List.mem_cons_of_mem _ (List.mem_cons_of_mem _ (List.mem_flatMap.2 ⟨o,ho,by simp⟩)),List.mem_cons_of_mem _ (List.mem_cons_of_mem _ (List.mem_flatMap.2 ⟨o,ho,by simp⟩))⟩
 exact⟨c.aD k (f1 _ (List.mem_cons_self ..)),cb.aD k (f1 _ (List.mem_cons_of_mem _ (List.mem_cons_self ..))),cl.aD k (fun b hb=>hF b (List.mem_append_right _ hb)),
  fun o ho=>⟨(cr o ho).1.aD k (f1 _ (f2 o ho).1),(cr o ho).2.aD k (f1 _ (f2 o ho).2)⟩,nd,nl,n2,bW,len⟩
theorem aL (H:cE s g G) (k:aC [] s s'):cE s' g G:=H.aD k fun _ _=>by simp
theorem l0 (H:cE s g G):aI s.look ⟨g,0,none⟩=some (.slice (some ⟨G.bn,0,none⟩) G.N G.N):=H.c.load rfl
theorem l1 (H:cE s g G):aI s.look ⟨g,1,none⟩=some (.slice G.va G.L.length G.vc):=H.c.load rfl
theorem l3 (H:cE s g G):aI s.look ⟨g,3,none⟩=some (int G.born):=H.c.load rfl
theorem lb (H:cE s g G) {i:Nat} (hi:i<G.N):aI s.look ⟨G.bn,i*2,none⟩=some (int (G.bs i)):=by
 have:=H.cb.load (lM (n:=2*G.N) (i:=i*2) _ (by omega));simpa using this
theorem lp (H:cE s g G) {i:Nat} (hi:i<G.N):aI s.look ⟨G.bn,i*2+1,none⟩=some (int (G.bp i)):=by
 have:=H.cb.load (lM (n:=2*G.N) (i:=i*2+1) _ (by omega));rw[this,if_neg (by omega),show (i*2+1)/2=i by omega]
theorem addr (H:cE s g G) (h:0<G.L.length):∃ b off,G.va=some ⟨b,off,none⟩:=H.cl.sl.addr h
theorem lo (H:cE s g G) {b off i j:Nat} (hv:G.va=some ⟨b,off,none⟩) (hi:i<G.L.length) {v:Value} (hj:(G.L[i].C)[j]?=some v):aI s.look ⟨b,off+i*8+j,none⟩=some v:=by
 have jO:j<8:=by
  have:=(List.getElem?_eq_some_iff.1 hj).1
  rwa [cJ.pL] at this
 have h:=H.cl.sl;rw[hv] at h;have:=h.load (i:=i*8+j) (v:=v) (by rw[yT cJ.pL _ hi jO];exact hj);rw[← Nat.add_assoc] at this;exact this
theorem lN (H:cE s g G) {b off i:Nat} (hv:G.va=some ⟨b,off,none⟩) (hi:i<G.L.length):bD s.look ⟨b,off+i*8,none⟩ 8=some G.L[i].C:=by
 have h:=H.cl.sl;rw[hv] at h;have:=h.bD (i:=i*8) (k:=8) (by omega) (by rw[uY cJ.pL];omega);rw[Bf cJ.pL _ hi] at this;exact this
theorem gO (H:cE s g G) (hs:Ok s):∀ x∈G.bF g,x<s.next:=by
 intro x hx;rcases List.mem_append.1 hx with hx | hx
 ·rcases List.mem_cons.1 hx with rfl | hx
  ·exact H.c.lt hs
  ·rcases List.mem_cons.1 hx with rfl | hx
   ·exact H.cb.lt hs
   ·obtain⟨o,ho,hx⟩:=List.mem_flatMap.1 hx;obtain⟨h1,h2⟩:=H.cr o ho;rcases List.mem_cons.1 hx with rfl | hx
    ·exact h1.lt hs
    ·rw[List.mem_singleton.1 hx];exact h2.lt hs
 ·exact H.cl.lt hs x hx
end cE
section
variable {kc:Kc} {q:Bool} {s:St} {Φ:Value→St→Prop} {g:Nat} {G:dD} {P:PH}
theorem LX:type_of% (An @RX<|An @Ii<|An @Ib<|An @oD<|An @oJ<|@qM):=An @RX<|An @Ii<|An @Ib<|An @oD<|An @oJ<|@qM
theorem BL (H:cE s g G) (hΦ:Φ (.bool true) s):okF q X (KO kc) 90 [ptr g] s Φ:=by
 have n2:=H.n2;have hp:((G.N:Nat):Int)>0:=by omega
 refine aV rfl Bh rfl (rs:=[.tmp 2]) rfl (N:=13) rfl rfl ?_;refine aA fun bB aF aZ=>?_;simp only[LX,seval];refine aF _ _ ?_;refine aA fun Ψ1 aE aK=>?_;refine cK [(2,5)] (by kernel_rfl) fun O hO bK hR=>?_;have y2:∀ a,aN O a 2=bC (a.aB 5):=hO (2,5) (by simp);simp only[LX,seval,y2,H.l0,hp,decide_true];refine hR _ _ (aE _ _ ?_);simp only[LX,seval];exact hΦ
theorem LY:type_of% (An @RX<|An @oD<|An @oJ<|@qM):=An @RX<|An @oD<|An @oJ<|@qM
theorem Ko (H:cE s g G) (hΦ:Φ (int G.N) s):okF q X (KO kc) 97 [ptr g] s Φ:=by
 refine aV rfl L9 rfl (rs:=[.tmp 2]) rfl (N:=11) rfl rfl ?_;refine aA fun bB aF aZ=>?_;simp only[LY,seval];refine aF _ _ ?_;refine aA fun Ψ1 aE aK=>?_;refine aA fun Ψ2 aH bM=>?_;simp only[LY,seval];refine aJ ?_ (BL H ?_)
 ·simp only[LY,seval]
 try simp only[LY,seval]
 refine aH _ _ ?_;simp only[LY,seval];refine aE _ _ ?_;simp only[LY,seval,H.l0];exact hΦ
theorem gK:type_of% (An @RX<|An @lY<|An @mD<|An @zH<|An @oI<|An @uW<|@aW):=An @RX<|An @lY<|An @mD<|An @zH<|An @oI<|An @uW<|@aW
theorem HN (H:cE s g G) (a:Int) (h1:∀ i (hi:i<G.L.length),G.L[i].a=a→Φ (int i) s) (h2:(∀ o∈G.L,o.a≠a)→Φ (int (-1)) s):okF q X (KO kc) 132 [ptr g,int a] s Φ:=by
 have hlen:=H.len;refine aV rfl Bg rfl (rs:=[.tmp 4]) rfl (N:=29) rfl rfl ?_;refine aA fun bB aF aZ=>?_;simp only[gK,seval];refine aF _ _ ?_;refine aA fun Ψ1 aE aK=>?_;refine aA fun Ψ2 aH bM=>?_;simp only[gK,seval];refine aJ ?_ (BL H ?_)
 ·simp only[gK,seval]
 try simp only[gK,seval]
 refine aH _ _ ?_;simp only[gK,seval];refine aE _ _ ?_;refine aA fun Ψ3 aM bN=>?_;refine aA fun Ψ4 aQ bZ=>?_;simp only[gK,seval];refine aQ _ _ ?_;refine cB fun cP bI oH cF=>?_;refine gD (n:=G.L.length) (fun j a' s'=>a'.aB 0=ptr g∧a'.aB 1=int a∧a'.aB 5=int j∧s'=s∧∀ k (hk:k<G.L.length),k<j→G.L[k].a≠a)
  (fun j a' s'=>a'.aB 0=ptr g∧a'.aB 1=int a∧a'.aB 5=int j∧s'=s∧∀ k (hk:k<G.L.length),k<j+1→G.L[k].a≠a) ?_ ?_ ?_ ?_ (Nat.zero_le _) ?_
 ·rintro j a' s' hj ⟨r0,r1,r5,rfl,hn⟩ aR bH;simp only[gK,seval,r0,r5,H.l1];refine bH _ _ (decide ((j:Int)<G.L.length)) ?_ (by simp) ⟨?_,?_,?_,rfl,hn⟩
  all_goals simp only[gK,seval,r0,r1,r5]
 ·rintro j a' s' hj ⟨r0,r1,r5,rfl,hn⟩ aR w1 w2 w3;obtain⟨vb,dM,hv⟩:=H.addr (show 0<G.L.length by omega);have g1:(0:Int)≤(j:Int):=Int.natCast_nonneg _;have g2:(j:Int)<((G.L.length:Nat):Int):=by omega
  have l1:=H.l1;rw[hv] at l1;have lj:aI s'.look ⟨vb,dM+j*8,none⟩=some (int G.L[j].a):=H.lo hv hj (j:=0) rfl;refine aA fun dK bO cV=>?_;simp only[gK,seval,r0,r1,r5,l1,g1,g2,and_self,bJ,Int.toNat_natCast,lj];refine bO _ _ ?_;by_cases he:G.L[j].a=a
  ·have he':(G.L[j].a==a)=true:=by simpa using he
   simp only[gK,seval,he',r5];refine w3 _ _ _ (by simp) (by simp) (cF _ _ _ (by simp) (by simp) (bN _ _ _ (by simp) ?_));simp only[gK,seval];exact h1 j hj he
  ·have he':(G.L[j].a==a)=false:=by simpa using he
   simp only[gK,seval,he'];refine w1 _ _ ⟨?_,?_,?_,rfl,fun k hk UO=>?_⟩
   ·simp only[gK,seval,r0]
   ·simp only[gK,seval,r1]
   ·simp only[gK,seval,r5]
   ·by_cases e:k=j
    ·subst e;exact he
    ·exact hn k hk (by omega)
 ·rintro j a' s' hj ⟨r0,r1,r5,rfl,hn⟩ aR w1;have w:IntKind.i64.wrap ((j:Int)+1)=((j+1:Nat):Int):=by rw[aU (by omega) (by omega)];rfl
  simp only[gK,seval,r5,w];refine w1 _ _ ⟨?_,?_,?_,rfl,hn⟩
  all_goals try simp only[gK,seval,r0,r1,r5]
 ·rintro a' s' ⟨r0,r1,r5,rfl,hn⟩;refine oH _ _ (aM _ _ ?_);simp only[gK,seval];refine h2 fun o ho=>?_;obtain⟨i,hi,rfl⟩:=List.mem_iff_getElem.1 ho;exact hn i hi hi
 ·refine⟨?_,?_,?_,rfl,fun k hk h=>absurd h (Nat.not_lt_zero _)⟩
  all_goals try simp only[gK,seval]
  try rfl
end
open Go.Proofs
set_option maxRecDepth 100000
set_option maxHeartbeats 1000000
section
variable {kc:Kc} {q:Bool} {s:St} {Φ:Value→St→Prop} {g:Nat} {G:dD} {P:PH}
theorem jS:type_of% (An @RX<|An @lZ<|An @aW<|An @oZ<|@oE):=An @RX<|An @lZ<|An @aW<|An @oZ<|@oE
theorem Kr (hs:Ok s) (x:cI) (hΦ:∀ s',aC [] s s'→Φ (.bool x.valid) s'):okF q X (KO kc) 215 [oW x] s Φ:=by
 refine aV rfl A2 rfl (rs:=[.tmp 2]) rfl (N:=36) rfl rfl ?_;refine aA fun bB aF aZ=>?_;simp only[jS,seval];obtain⟨s1,e1,k1,c1,_⟩:=cA hs (L:=[int x.r,int x.d,int x.k]) (n:=3) (e:=44) rfl;rw[e1];refine aF _ _ ?_;have l0:aI s1.look ⟨s.next,0,none⟩=some (int x.r):=c1.load rfl;have l1:aI s1.look ⟨s.next,1,none⟩=some (int x.d):=c1.load rfl;have l2:aI s1.look ⟨s.next,2,none⟩=some (int x.k):=c1.load rfl;have dS:=hΦ _ k1;have bad:∀ {c:Prop},(x.valid=true→¬ c)→c→x.valid=false:=fun h1 h2=>by
  cases h:x.valid with
  | false=>rfl
  | true=>exact absurd h2 (h1 h)
 have hv:=cI.pZ (x:=x);refine aA fun Ψ1 aE aK=>?_;refine aA fun Ψ2 aH bM=>?_;refine cK [(3,6),(8,11),(13,16)] (by kernel_rfl) fun O hO bK hR=>?_;have y3:∀ a,aN O a 3=bC (a.aB 6):=hO (3,6) (by simp);have y8:∀ a,aN O a 8=bC (a.aB 11):=hO (8,11) (by simp);have jK:∀ a,aN O a 13=bC (a.aB 16):=hO (13,16) (by simp);by_cases g1:x.r<0
 ·rw[bad (fun h=>by have:=hv.1 h;omega) g1] at dS;simp only[jS,seval,l0,l1,l2,Nat.zero_add,y3,y8,jK,g1,decide_true];refine hR _ _ (aH _ _ ?_);simp only[jS,seval];refine aK _ _ _ (by simp) ?_;simp only[jS,seval];exact dS
 by_cases g2:x.r>15
 ·rw[bad (fun h=>by have:=hv.1 h;omega) g2] at dS;simp only[jS,seval,l0,l1,l2,Nat.zero_add,y3,y8,jK,g1,g2,decide_true,decide_false];refine hR _ _ (aH _ _ ?_);simp only[jS,seval];refine aK _ _ _ (by simp) ?_;simp only[jS,seval];exact dS
 by_cases g3:x.d<0
 ·rw[bad (fun h=>by have:=hv.1 h;omega) g3] at dS;simp only[jS,seval,l0,l1,l2,Nat.zero_add,y3,y8,jK,g1,g2,g3,decide_true,decide_false];refine hR _ _ (aH _ _ ?_);simp only[jS,seval];refine aK _ _ _ (by simp) ?_;simp only[jS,seval];exact dS
 by_cases g4:x.d>200
 ·rw[bad (fun h=>by have:=hv.1 h;omega) g4] at dS;simp only[jS,seval,l0,l1,l2,Nat.zero_add,y3,y8,jK,g1,g2,g3,g4,decide_true,decide_false];refine hR _ _ (aH _ _ ?_);simp only[jS,seval];refine aK _ _ _ (by simp) ?_;simp only[jS,seval];exact dS
 simp only[jS,seval,l0,l1,l2,Nat.zero_add,y3,y8,jK,g1,g2,g3,g4,decide_false];refine hR _ _ (aH _ _ ?_);simp only[jS,seval];refine aE _ _ ?_;refine aA fun Ψ3 aM bN=>?_;refine aA fun Ψ4 aQ bZ=>?_;simp only[jS,seval,l2];refine aQ _ _ ?_;refine cB fun cP bI oH cF=>?_;refine aA fun dK bO cV=>?_;by_cases k0:x.k=0
 ·rw[hv.2 ⟨by omega,by omega,by omega,by omega,by omega,by omega,by omega,by omega⟩] at dS;simp only[jS,seval,k0,beq_self_eq_true];refine bO _ _ ?_;simp only[jS,seval];refine cF _ _ _ (by simp) (by simp) (bN _ _ _ (by simp) ?_);simp only[jS,seval];exact dS
 ·have e0:(x.k==0)=false:=by simpa using k0
  by_cases k3:x.k=3
  ·rw[hv.2 ⟨by omega,by omega,by omega,by omega,by omega,by omega,by omega,by omega⟩] at dS;simp only[jS,seval,e0,k3,beq_self_eq_true];refine bO _ _ ?_;simp only[jS,seval];refine cF _ _ _ (by simp) (by simp) (bN _ _ _ (by simp) ?_);simp only[jS,seval];exact dS
  ·have e3:(x.k==3)=false:=by simpa using k3
   simp only[jS,seval,e0,e3];refine bO _ _ ?_;by_cases k1:x.k=1
   ·have hr:x.valid=decide (x.r≥1):=by
     by_cases h:x.r≥1
     ·rw[decide_eq_true h];exact hv.2 ⟨by omega,by omega,by omega,by omega,by omega,by omega,by omega,by omega⟩
     ·rw[decide_eq_false h];exact bad (fun h'=>by have:=hv.1 h';omega) k1
    rw[hr] at dS;simp only[jS,seval,k1,l0,beq_self_eq_true];refine cF _ _ _ (by simp) (by simp) (bN _ _ _ (by simp) ?_);simp only[jS,seval];exact dS
   ·have e1:(x.k==1)=false:=by simpa using k1
    by_cases k2:x.k=2
    ·have hr:x.valid=decide (x.r≥2):=by
      by_cases h:x.r≥2
      ·rw[decide_eq_true h];exact hv.2 ⟨by omega,by omega,by omega,by omega,by omega,by omega,by omega,by omega⟩
      ·rw[decide_eq_false h];exact bad (fun h'=>by have:=hv.1 h';omega) k2
     rw[hr] at dS;simp only[jS,seval,e1,k2,l0,beq_self_eq_true];refine cF _ _ _ (by simp) (by simp) (bN _ _ _ (by simp) ?_);simp only[jS,seval];exact dS
    ·have e2:(x.k==2)=false:=by simpa using k2
     rw[bad (fun h=>by have:=hv.1 h;omega) k2] at dS;simp only[jS,seval,e1,e2];refine bI _ _ (aM _ _ ?_);simp only[jS,seval];exact dS
theorem BT:type_of% (An @RX<|An @hZ<|An @lZ<|An @aW<|@oZ):=An @RX<|An @hZ<|An @lZ<|An @aW<|@oZ
theorem HO (hs:Ok s) (x:cI) (hΦ:∀ s',aC [] s s'→Φ (int x.words) s'):okF q X (KO kc) 214 [oW x] s Φ:=by
 refine aV rfl A1 rfl (rs:=[.tmp 2]) rfl (N:=17) rfl rfl ?_;refine aA fun bB aF aZ=>?_;simp only[BT,seval];obtain⟨s1,e1,k1,c1,_⟩:=cA hs (L:=[int x.r,int x.d,int x.k]) (n:=3) (e:=44) rfl;rw[e1];refine aF _ _ ?_;have h3:=c1.bD (i:=0) (k:=3) (Nat.le_refl _);refine aA fun Ψ1 aE aK=>?_;refine aA fun Ψ2 aH bM=>?_;simp only[BT,seval,h3,List.drop_zero,List.take];refine aJ ?_ (Kr k1.ok x fun s2 k2=>?_)
 ·simp only[BT,seval]
 try simp only[BT,seval]
 refine aH _ _ ?_;have c2:=c1.aD k2 (by simp);have dS:=hΦ _ (k1.trans k2);unfold cI.words at dS;cases hv:x.valid with
 | false =>
  rw[hv] at dS;simp only[BT,seval];refine aK _ _ _ (by simp) ?_;simp only[BT,seval];exact dS
 | true =>
  rw[hv,if_pos rfl] at dS;have hv':=cI.pZ.1 hv;simp only[BT,seval];refine aE _ _ ?_;have l0:aI s2.look ⟨s.next,0,none⟩=some (int x.r):=c2.load rfl;have l1:aI s2.look ⟨s.next,1,none⟩=some (int x.d):=c2.load rfl;refine aA fun Ψ3 aM bN=>?_;simp only[BT,seval,l0,l1,Nat.zero_add];refine aM _ _ ?_;simp only[BT,seval];rw[aU (n:=2+x.r) (by omega) (by omega),aU (n:=2+x.r+x.d) (by omega) (by omega),Int.tmod_eq_emod_of_nonneg (by omega),aU (by omega) (by omega),show 2+x.r+x.d+(2+x.r+x.d)%2=(x.r+x.d+3)/2*2 by omega];exact dS
theorem YU:type_of% (An @RX<|@hZ):=An @RX<|@hZ
theorem ny (hs:Ok s) (x:cI) (hΦ:∀ s',aC [] s s'→Φ (.bool (decide (x.words>32))) s'):okF q X (KO kc) 142 [oW x] s Φ:=by
 refine aV rfl Zp rfl (rs:=[.tmp 2]) rfl (N:=6) rfl rfl ?_;refine aA fun bB aF aZ=>?_;simp only[YU,seval];obtain⟨s1,e1,k1,c1,_⟩:=cA hs (L:=[int x.r,int x.d,int x.k]) (n:=3) (e:=44) rfl;rw[e1];refine aF _ _ ?_;have h3:=c1.bD (i:=0) (k:=3) (Nat.le_refl _);simp only[YU,seval,h3,List.drop_zero,List.take];refine aJ ?_ (HO k1.ok x fun s2 k2=>?_)
 ·simp only[YU,seval]
 simp only[YU,seval];exact hΦ _ (k1.trans k2)
theorem YV:type_of% (An @RX<|@hZ):=An @RX<|@hZ
theorem nz (hs:Ok s) (x:cI) (hΦ:∀ s',aC [] s s'→Φ (int ((x.words+63)/64)) s'):okF q X (KO kc) 144 [oW x] s Φ:=by
 have hw:=x.CA;refine aV rfl Zr rfl (rs:=[.tmp 2]) rfl (N:=8) rfl rfl ?_;refine aA fun bB aF aZ=>?_;simp only[YV,seval];obtain⟨s1,e1,k1,c1,_⟩:=cA hs (L:=[int x.r,int x.d,int x.k]) (n:=3) (e:=44) rfl;rw[e1];refine aF _ _ ?_;have h3:=c1.bD (i:=0) (k:=3) (Nat.le_refl _);simp only[YV,seval,h3,List.drop_zero,List.take];refine aJ ?_ (HO k1.ok x fun s2 k2=>?_)
 ·simp only[YV,seval]
 simp only[YV,seval];rw[aU (n:=x.words+64) (by omega) (by omega),aU (n:=x.words+64-1) (by omega) (by omega),Int.tdiv_eq_ediv_of_nonneg (by omega),aU (by omega) (by omega),show x.words+64-1=x.words+63 by omega];exact hΦ _ (k1.trans k2)
theorem QR:type_of% (An @RX<|An @oD<|An @oJ<|@qM):=An @RX<|An @oD<|An @oJ<|@qM
theorem Ks (H:cE s g G) (b:Int) (hΦ:Φ (.bool (decide (1≤b∧b<G.N))) s):okF q X (KO kc) 240 [ptr g,int b] s Φ:=by
 refine aV rfl D4 rfl (rs:=[.tmp 4]) rfl (N:=16) rfl rfl ?_;refine aA fun bB aF aZ=>?_;simp only[QR,seval];refine aF _ _ ?_;refine aA fun Ψ1 aE aK=>?_;refine cK [(2,7)] (by kernel_rfl) fun O hO bK hR=>?_;have y2:∀ a,aN O a 2=bC (a.aB 7):=hO (2,7) (by simp);by_cases h1:b≥1
 ·rw[show decide (1≤b∧b<(G.N:Int))=decide (b<(G.N:Int)) from decide_eq_decide.2 ⟨fun h=>h.2,fun h=>⟨h1,h⟩⟩] at hΦ;simp only[QR,seval,y2,h1,decide_true,H.l0];refine hR _ _ (aE _ _ ?_);simp only[QR,seval];exact hΦ
 ·rw[show decide (1≤b∧b<(G.N:Int))=false from decide_eq_false (fun h=>h1 h.1)] at hΦ;simp only[QR,seval,y2,h1,decide_false];refine hR _ _ (aE _ _ ?_);simp only[QR,seval];exact hΦ
theorem QS:type_of% (An @RC<|An @RO<|An @RD<|An @RV<|An @RB<|@RG):=An @RC<|An @RO<|An @RD<|An @RV<|An @RB<|@RG
theorem Ku (b:Int) (hΦ:Φ (.bool (decide (0≤b∧b<8))) s):okF q X (KO kc) 241 [int b] s Φ:=by
 refine aV rfl D5 rfl (rs:=[.tmp 2]) rfl (N:=9) rfl rfl ?_;refine aA fun bB aF aZ=>?_;simp only[QS,seval];refine aF _ _ ?_;refine aA fun Ψ1 aE aK=>?_;refine cK [(2,5)] (by kernel_rfl) fun O hO bK hR=>?_;have y2:∀ a,aN O a 2=bC (a.aB 5):=hO (2,5) (by simp);by_cases h1:b≥0
 ·rw[show decide (0≤b∧b<8)=decide (b<8) from decide_eq_decide.2 ⟨fun h=>h.2,fun h=>⟨h1,h⟩⟩] at hΦ;simp only[QS,seval,y2,h1,decide_true];refine hR _ _ (aE _ _ ?_);simp only[QS,seval];exact hΦ
 ·rw[show decide (0≤b∧b<8)=false from decide_eq_false (fun h=>h1 h.1)] at hΦ;simp only[QS,seval,y2,h1,decide_false];refine hR _ _ (aE _ _ ?_);simp only[QS,seval];exact hΦ
theorem tZ:type_of% (An @RC<|An @RO<|An @RD<|An @RV<|An @RB<|@RG):=An @RC<|An @RO<|An @RD<|An @RV<|An @RB<|@RG
theorem XV (H:cE s g G) (S:gN P G.L) (a:Int) (hΦ:Φ (int (if P.has a=true then 0 else 4)) s):okF q X (KO kc) 146 [ptr g,int a] s Φ:=by
 have hlen:=H.len;refine aV rfl Zt rfl (rs:=[.tmp 4]) rfl (N:=12) rfl rfl ?_;refine aA fun bB aF aZ=>?_;simp only[tZ,seval];refine aF _ _ ?_;refine aA fun Ψ1 aE aK=>?_;refine aA fun Ψ2 aH bM=>?_;simp only[tZ,seval];refine aJ ?_ (BL H ?_)
 ·simp only[tZ,seval]
 try simp only[tZ,seval]
 refine aH _ _ ?_;simp only[tZ,seval];refine aE _ _ ?_;refine aA fun Ψ3 aM bN=>?_;refine aA fun Ψ4 aQ bZ=>?_;simp only[tZ,seval];refine aJ ?_ (HN H a (fun i hi he=>?_) (fun hn=>?_))
 ·simp only[tZ,seval]
 ·have hh:P.has a=true:=S.mem.1 ⟨_,List.getElem_mem hi,he⟩;rw[if_pos hh] at hΦ;have h0:¬ ((i:Int)<0):=by omega
  simp only[tZ,seval,h0,decide_false];refine aQ _ _ ?_;simp only[tZ,seval];refine aM _ _ ?_;simp only[tZ,seval];exact hΦ
 ·have hh:¬ P.has a=true:=fun h=>by
   obtain⟨o,ho,e⟩:=S.mem.2 h;exact hn o ho e
  rw[if_neg hh] at hΦ;have h0:((-1:Int)<0):=by omega
  simp only[tZ,seval,h0,decide_true];refine aQ _ _ ?_;simp only[tZ,seval];refine bN _ _ _ (by simp) ?_;simp only[tZ,seval];exact hΦ
theorem sW:type_of% (An @RC<|An @RO<|An @RD<|An @RV<|An @RB<|@RG):=An @RC<|An @RO<|An @RD<|An @RV<|An @RB<|@RG
theorem aFb (H:cE s g G) (S:gN P G.L) (a:Int) (hΦ:Φ (.bool (P.has a)) s):okF q X (KO kc) 96 [ptr g,int a] s Φ:=by
 refine aV rfl Bi rfl (rs:=[.tmp 4]) rfl (N:=9) rfl rfl ?_;refine aA fun bB aF aZ=>?_;simp only[sW,seval];refine aF _ _ ?_;refine aA fun Ψ1 aE aK=>?_;simp only[sW,seval];refine aJ ?_ (HN H a (fun i hi he=>?_) (fun hn=>?_))
 ·simp only[sW,seval]
 ·have hh:P.has a=true:=S.mem.1 ⟨_,List.getElem_mem hi,he⟩;rw[hh] at hΦ;have h0:((i:Int)≥0):=by omega
  simp only[sW,seval,h0,decide_true];refine aE _ _ ?_;simp only[sW,seval];exact hΦ
 ·have hh:P.has a=false:=by
   cases h:P.has a with
   | false=>rfl
   | true =>
    obtain⟨o,ho,e⟩:=S.mem.2 h;exact absurd e (hn o ho)
  rw[hh] at hΦ;have h0:¬ ((-1:Int)≥0):=by omega
  simp only[sW,seval,h0,decide_false];refine aE _ _ ?_;simp only[sW,seval];exact hΦ
theorem vV:type_of% (An @RX<|An @oD<|An @oJ<|An @qM<|An @vE<|An @yR<|@aW):=An @RX<|An @oD<|An @oJ<|An @qM<|An @vE<|An @yR<|@aW
theorem oo (H:cE s g G) (b:Int) (hΦ:Φ (int (if 0≤b∧b<G.N then G.bs b.toNat else -1)) s):okF q X (KO kc) 187 [ptr g,int b] s Φ:=by
 refine aV rfl r_ rfl (rs:=[.tmp 4]) rfl (N:=29) rfl rfl ?_;refine aA fun bB aF aZ=>?_;simp only[vV,seval];refine aF _ _ ?_;refine aA fun Ψ1 aE aK=>?_;refine aA fun Ψ2 aH bM=>?_;refine cK [(3,8),(7,12)] (by kernel_rfl) fun O hO bK hR=>?_;have y3:∀ a,aN O a 3=bC (a.aB 8):=hO (3,8) (by simp);have y7:∀ a,aN O a 7=bC (a.aB 12):=hO (7,12) (by simp);simp only[vV,seval];refine aJ ?_ (BL H ?_)
 ·simp only[vV,seval]
 by_cases h0:b<0
 ·simp only[vV,seval,y3,y7,h0,decide_true];refine hR _ _ (aH _ _ ?_);simp only[vV,seval];refine aK _ _ _ (by simp) ?_;simp only[vV,seval];rw[if_neg (by omega)] at hΦ;exact hΦ
 ·by_cases h1:b≥G.N
  ·simp only[vV,seval,y3,y7,h0,H.l0,h1,decide_true,decide_false];refine hR _ _ (aH _ _ ?_);simp only[vV,seval];refine aK _ _ _ (by simp) ?_;simp only[vV,seval];rw[if_neg (by omega)] at hΦ;exact hΦ
  ·simp only[vV,seval,y3,y7,h0,H.l0,h1,decide_false];refine hR _ _ (aH _ _ ?_);simp only[vV,seval];refine aE _ _ ?_;have g1:0≤b:=by omega
   have g2:b<(G.N:Int):=by omega
   have l:=H.lb (i:=b.toNat) (by omega);simp only[vV,seval,H.l0,g1,g2,and_self,bJ,Nat.zero_add,l];rw[if_pos ⟨g1,g2⟩] at hΦ;exact hΦ
theorem vW:type_of% (An @RX<|An @oD<|An @oJ<|An @qM<|An @vE<|An @Aj<|@aW):=An @RX<|An @oD<|An @oJ<|An @qM<|An @vE<|An @Aj<|@aW
theorem aFq (H:cE s g G) (b:Int) (hΦ:Φ (int (if 0≤b∧b<G.N then G.bp b.toNat else -1)) s):okF q X (KO kc) 188 [ptr g,int b] s Φ:=by
 refine aV rfl s_ rfl (rs:=[.tmp 4]) rfl (N:=29) rfl rfl ?_;refine aA fun bB aF aZ=>?_;simp only[vW,seval];refine aF _ _ ?_;refine aA fun Ψ1 aE aK=>?_;refine aA fun Ψ2 aH bM=>?_;refine cK [(3,8),(7,12)] (by kernel_rfl) fun O hO bK hR=>?_;have y3:∀ a,aN O a 3=bC (a.aB 8):=hO (3,8) (by simp);have y7:∀ a,aN O a 7=bC (a.aB 12):=hO (7,12) (by simp);simp only[vW,seval];refine aJ ?_ (BL H ?_)
 ·simp only[vW,seval]
 by_cases h0:b<0
 ·simp only[vW,seval,y3,y7,h0,decide_true];refine hR _ _ (aH _ _ ?_);simp only[vW,seval];refine aK _ _ _ (by simp) ?_;simp only[vW,seval];rw[if_neg (by omega)] at hΦ;exact hΦ
 ·by_cases h1:b≥G.N
  ·simp only[vW,seval,y3,y7,h0,H.l0,h1,decide_true,decide_false];refine hR _ _ (aH _ _ ?_);simp only[vW,seval];refine aK _ _ _ (by simp) ?_;simp only[vW,seval];rw[if_neg (by omega)] at hΦ;exact hΦ
  ·simp only[vW,seval,y3,y7,h0,H.l0,h1,decide_false];refine hR _ _ (aH _ _ ?_);simp only[vW,seval];refine aE _ _ ?_;have g1:0≤b:=by omega
   have g2:b<(G.N:Int):=by omega
   have l:=H.lp (i:=b.toNat) (by omega);simp only[vW,seval,H.l0,g1,g2,and_self,bJ,Nat.zero_add,l];rw[if_pos ⟨g1,g2⟩] at hΦ;exact hΦ
end
end Go.Dust
