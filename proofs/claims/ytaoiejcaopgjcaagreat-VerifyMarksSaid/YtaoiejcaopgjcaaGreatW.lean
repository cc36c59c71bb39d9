/- VerifyMarks walked in D, function by function, and its plain law (Ha Hb Hc J1). -/
import Derived.Test.YtaoiejcaopgjcaaGreatV
set_option linter.unusedVariables false
set_option linter.unusedSimpArgs false
namespace Go.Dust
open Go.Proofs
set_option maxRecDepth 100000
set_option maxHeartbeats 4000000
section
variable {kc:Kc} {q:Bool} {s:St} {Φ:Value→St→Prop} {g:Nat} {G:dD} {P:PH}
theorem mK:type_of% (An @RX<|An @lY<|An @mD<|An @zH<|An @oI<|An @uW<|An @aW<|@jE):=An @RX<|An @lY<|An @mD<|An @zH<|An @oI<|An @uW<|An @aW<|@jE
theorem aFh (hs:Ok s) (H:cE s g G) (S:gN P G.L) (I:P.Inv) {b:Nat} (hΦ:∀ (l:List Int) va vc s',(∀ y∈l,y/64=b∧∃ o∈G.L,o.a=y)→l.length≤2048→bE s' 3 1 (.slice va l.length vc) (l.map int)→(∀ y∈nameOf (.slice va l.length vc),s.next≤y)→aC [] s s'→Φ (.slice va l.length vc) s'):okF q X (KO kc) 257 [ptr g,int b] s Φ:=by
 have hlen:=H.len;refine aV rfl E7 rfl (rs:=[.tmp 4]) rfl (N:=43) rfl rfl ?_;refine aA fun bB aF aZ=>?_;simp only[mK,seval];refine aF _ _ ?_;refine aA fun Ψ1 aE aK=>?_;simp only[mK,seval];refine aE _ _ ?_;refine aA fun Ψ2 aH bM=>?_;refine aA fun Ψ3 aM bN=>?_;simp only[mK,seval];refine aM _ _ ?_;refine cB fun Ψ4 aQ yY bZ=>?_
 let J:Nat→aG→St→Prop:=fun j a' s'=>∃ (l:List Int) (va:Option Addr) (vc:Nat),a'.aB 0=ptr g∧a'.aB 1=int b∧a'.aB 5=.slice va l.length vc∧a'.aB 6=int j∧(∀ y∈l,y/64=b∧∃ o∈G.L,o.a=y)∧bE s' 3 1 (.slice va l.length vc) (l.map int)∧(∀ y∈nameOf (.slice va l.length vc),s.next≤y)∧aC [] s s'
 refine gD (n:=G.L.length) (fun j a' s'=>∃ (l:List Int) (va:Option Addr) (vc:Nat),l.length≤j∧a'.aB 0=ptr g∧a'.aB 1=int b∧a'.aB 5=.slice va l.length vc∧a'.aB 6=int j∧(∀ y∈l,y/64=b∧∃ o∈G.L,o.a=y)∧bE s' 3 1 (.slice va l.length vc) (l.map int)∧(∀ y∈nameOf (.slice va l.length vc),s.next≤y)∧aC [] s s')
  (fun j a' s'=>∃ (l:List Int) (va:Option Addr) (vc:Nat),l.length≤j+1∧a'.aB 0=ptr g∧a'.aB 1=int b∧a'.aB 5=.slice va l.length vc∧a'.aB 6=int j∧(∀ y∈l,y/64=b∧∃ o∈G.L,o.a=y)∧bE s' 3 1 (.slice va l.length vc) (l.map int)∧(∀ y∈nameOf (.slice va l.length vc),s.next≤y)∧aC [] s s') ?_ ?_ ?_ ?_ (Nat.zero_le _) ?_
 ·rintro j a' s' hj ⟨l,va,vc,hl,r0,r1,r5,r6,hm,hB,hnm,hk⟩ aR bH;have H':=H.aL hk;refine cK [(2,9)] (by kernel_rfl) fun O hO bK hR=>?_;have y2:∀ a,aN O a 2=bC (a.aB 9):=hO (2,9) (by simp);simp only[mK,seval,r0];refine aJ ?_ (BL H' ?_)
  ·simp only[mK,seval]
  try simp only[mK,seval,y2,r0,r6,H'.l1]
  refine hR _ _ (bH _ _ (decide ((j:Int)<G.L.length)) ?_ (by simp) ⟨l,va,vc,hl,?_,?_,?_,?_,hm,hB,hnm,hk⟩)
  all_goals simp only[mK,seval,r0,r1,r5,r6]
 ·rintro j a' s' hj ⟨l,va,vc,hl,r0,r1,r5,r6,hm,hB,hnm,hk⟩ aR w1 w2 w3;have H':=H.aL hk;obtain⟨vb,dM,hv⟩:=H'.addr (show 0<G.L.length by omega);have p1:(0:Int)≤(j:Int):=Int.natCast_nonneg _;have p2:(j:Int)<((G.L.length:Nat):Int):=by omega
  have l1:=H'.l1;rw[hv] at l1;have lj:aI s'.look ⟨vb,dM+j*8,none⟩=some (int G.L[j].a):=H'.lo hv hj (j:=0) rfl;have hh:=PH.size_pos I.cM (S.has (List.getElem_mem hj));have Hy:=I.bW;have td:IntKind.i64.wrap (G.L[j].a.tdiv 64)=G.L[j].a/64:=by rw[Int.tdiv_eq_ediv_of_nonneg (by omega),aU (by omega) (by omega)]
  refine aA fun cP bI cF=>?_;simp only[mK,seval,r0,r1,r6,l1,p1,p2,and_self,bJ,Int.toNat_natCast,lj,td];refine bI _ _ ?_;by_cases he:G.L[j].a/64=b
  ·have he':(G.L[j].a/64==(b:Int))=true:=by simpa using he
   obtain⟨s3,e3,k3,c3,n3⟩:=cA hk.ok (L:=[int G.L[j].a]) (n:=1) (e:=3) rfl;obtain⟨v,s4,h4,b4,k4,m4,a4,c4,rfl⟩:=iT (X:=X) (t:=62) (e:=3) (N:=1) (B:=8) (z:=.int .i64 0) (x:=.slice (some ⟨s'.next,0,none⟩) 1 1) (k:=1) (new:=[int G.L[j].a]) (by kernel_rfl) (by kernel_rfl) rfl k3.ok (by omega) (hB.aD k3 (by simp)) rfl (kT (by omega) (c3.bD (i:=0) (k:=1) (Nat.le_refl _))) rfl rfl (by omega) (by omega);simp only[mK,seval,he',r0,r5,r6,l1,p1,p2,and_self,bJ,Int.toNat_natCast,lj];rw[e3];refine iX ?_ h4 ?_
   ·simp only[mK,seval]
   simp only[mK,seval];have hkk:aC [] s s4:=(hk.trans k3).step k4 fun y hy=>.inr (hs.fresh _ (hnm y hy));refine w1 _ _ ⟨l++[G.L[j].a],a4,c4,by rw[List.length_append,List.length_singleton];omega,?_,?_,?_,?_,?_,?_,?_,hkk⟩
   ·simp only[mK,seval,r0]
   ·simp only[mK,seval,r1]
   ·simp only[mK,seval,List.length_append,List.length_singleton]
   ·simp only[mK,seval,r6]
   ·intro y hy;rcases List.mem_append.1 hy with h | h
    ·exact hm y h
    ·rw[List.mem_singleton.1 h];exact⟨he,_,List.getElem_mem hj,rfl⟩
   ·rw[List.map_append,List.length_append,List.length_singleton];exact b4
   ·intro y hy;rw[List.length_append,List.length_singleton] at hy;rcases m4 y hy with h | h
    ·exact hnm y h
    ·have:=(hk.trans k3).next;omega
  ·have he':(G.L[j].a/64==(b:Int))=false:=by simpa using he
   simp only[mK,seval,he'];refine w1 _ _ ⟨l,va,vc,by omega,?_,?_,?_,?_,hm,hB,hnm,hk⟩
   ·simp only[mK,seval,r0]
   ·simp only[mK,seval,r1]
   ·simp only[mK,seval,r5]
   ·simp only[mK,seval,r6]
 ·rintro j a' s' hj ⟨l,va,vc,hl,r0,r1,r5,r6,hm,hB,hnm,hk⟩ aR w1;have w:IntKind.i64.wrap ((j:Int)+1)=((j+1:Nat):Int):=by rw[aU (by omega) (by omega)];rfl
  simp only[mK,seval,r6,w];refine w1 _ _ ⟨l,va,vc,hl,?_,?_,?_,?_,hm,hB,hnm,hk⟩
  all_goals try simp only[mK,seval,r0,r1,r5]
 ·rintro a' s' ⟨l,va,vc,hl,r0,r1,r5,r6,hm,hB,hnm,hk⟩;refine yY _ _ (aH _ _ ?_);simp only[mK,seval,r5];exact hΦ l va vc s' hm (by omega) hB hnm hk
 ·refine⟨[],none,0,Nat.le_refl _,?_,?_,?_,?_,fun y hy=>(by cases hy),.nil,fun y hy=>(by simp[nameOf] at hy),.refl hs⟩
  all_goals try simp only[mK,seval]
  all_goals rfl
def NJ (bs:Nat→Int) (b n:Nat):Nat:=pX (fun i=>if bs i=0 then 3 else 0) b n
theorem Br {bs:Nat→Int} {b n j:Nat} (h:j<NJ bs b n):bs (b+j)=0:=by
 have:=YT (bs:=fun i=>if bs i=0 then 3 else 0) h;split at this
 ·assumption
 ·cases this
theorem M_ {bs:Nat→Int} {b n:Nat} (h:NJ bs b n<n):bs (b+NJ bs b n)≠0:=by
 have:=YS (bs:=fun i=>if bs i=0 then 3 else 0) h;intro e;apply this;show (if bs (b+NJ bs b n)=0 then(3:Int) else 0)=3;rw[if_pos e]
theorem iE:type_of% (An @RC<|An @RO<|An @RD<|An @RV<|An @RB<|@RG):=An @RC<|An @RO<|An @RD<|An @RV<|An @RB<|@RG
theorem Kq (H:cE s g G) {n:Nat} (hn:1≤n) (hn2:n≤64) (h1:∀ b:Nat,1≤b→b+n≤G.N→(∀ j,b≤j→j<b+n→G.bs j=0)→Φ (int b) s) (h2:Φ (int 0) s):okF q X (KO kc) 210 [ptr g,int n] s Φ:=by
 have bW:=H.bW;refine aV rfl z7 rfl (rs:=[.tmp 4]) rfl (N:=32) rfl rfl ?_;refine aA fun bB aF aZ=>?_;simp only[iE,seval];refine aF _ _ ?_;refine aA fun Ψ1 aE aK=>?_;refine aA fun Ψ2 aH bM=>?_;simp only[iE,seval];refine aH _ _ ?_;refine cB fun Ψ3 aM oG bN=>?_;refine gD (n:=G.N-n) (fun j a' s'=>a'.aB 0=ptr g∧a'.aB 1=int n∧a'.aB 5=int ((j+1:Nat))∧s'=s) (fun j a' s'=>a'.aB 0=ptr g∧a'.aB 1=int n∧a'.aB 5=int ((j+1:Nat))∧s'=s) ?_ ?_ ?_ ?_ (Nat.zero_le _) ?_
 ·rintro j a' s' hj ⟨r0,r1,r5,rfl⟩ aR bH;have w:IntKind.i64.wrap (((j+1:Nat):Int)+(n:Int))=((j+1+n:Nat):Int):=by rw[aU (by omega) (by omega)];rfl
  simp only[iE,seval,r0,r1,r5,w];refine aJ ?_ (Ko H ?_)
  ·simp only[iE,seval]
  try simp only[iE,seval]
  refine bH _ _ (decide (((j+1+n:Nat):Int)≤G.N)) ?_ (by rw[decide_eq_true_eq];omega) ⟨?_,?_,?_,rfl⟩
  all_goals simp only[iE,seval,r0,r1,r5]
 ·rintro j a' s' hj ⟨r0,r1,r5,rfl⟩ aR w1 w2 w3;refine aA fun Ψ4 aQ bZ=>?_;simp only[iE,seval];refine aQ _ _ ?_;refine aA fun cP bI cF=>?_;refine cB fun dK bO pA cV=>?_;obtain⟨T,hT⟩:∃ T,T=NJ G.bs (j+1) n:=⟨_,rfl⟩;have hTn:T≤n:=by rw[hT];exact QG
  refine XA (n:=T) (fun k a' s2=>a'.aB 0=ptr g∧a'.aB 1=int n∧a'.aB 5=int ((j+1:Nat))∧a'.aB 6=int k∧s2=s') ?_ ?_ ?_ (Nat.zero_le _) ?_
  ·rintro k a' s' hk ⟨r0,r1,r5,r6,rfl⟩ ZC VD;have w:IntKind.i64.wrap (((j+1:Nat):Int)+(k:Int))=((j+1+k:Nat):Int):=by rw[aU (by omega) (by omega)];rfl
   refine cK [(3,18)] (by kernel_rfl) fun O hO bK hR=>?_;have y3:∀ a,aN O a 3=bC (a.aB 18):=hO (3,18) (by simp);by_cases AP:k<n
   ·have p2:(k:Int)<(n:Int):=by omega
    simp only[iE,seval,y3,r0,r1,r5,r6,p2,decide_true,w];refine aJ ?_ (oo H ((j+1+k:Nat):Int) ?_)
    ·simp only[iE,seval]
    rw[if_pos ⟨by omega,by omega⟩,Int.toNat_natCast]
    try simp only[iE,seval,y3]
    refine hR _ _ (VD _ _ (G.bs (j+1+k)==0) ?_ ?_ ⟨?_,?_,?_,?_,rfl⟩)
    ·simp only[iE,seval]
    ·rw[beq_iff_eq];constructor
     ·intro h;rcases Nat.lt_or_ge k T with h' | h'
      ·exact h'
      ·obtain rfl:k=T:=by omega
       have:=M_ (bs:=G.bs) (b:=j+1) (n:=n) (by rw[← hT];exact AP);rw[← hT] at this;exact absurd h this
     ·intro h;exact Br (by rw[← hT];exact h)
    ·simp only[iE,seval,r0]
    ·simp only[iE,seval,r1]
    ·simp only[iE,seval,r5]
    ·simp only[iE,seval,r6]
   ·have p2:¬ (k:Int)<(n:Int):=by omega
    simp only[iE,seval,y3,r0,r1,r5,r6,p2,decide_false];refine hR _ _ (VD _ _ false ?_ ?_ ⟨?_,?_,?_,?_,rfl⟩)
    ·simp only[iE,seval]
    ·constructor
     ·intro h;cases h
     ·intro h;omega
    ·simp only[iE,seval,r0]
    ·simp only[iE,seval,r1]
    ·simp only[iE,seval,r5]
    ·simp only[iE,seval,r6]
  ·rintro k a' s' hk ⟨r0,r1,r5,r6,rfl⟩ ZC v1 v2 v3;have w:IntKind.i64.wrap ((k:Int)+1)=((k+1:Nat):Int):=by rw[aU (by omega) (by omega)];rfl
   simp only[iE,seval,r6,w];refine v1 _ _ ⟨?_,?_,?_,?_,rfl⟩
   all_goals try simp only[iE,seval,r0,r1,r5]
  ·rintro a' s' ⟨r0,r1,r5,r6,rfl⟩;refine pA _ _ (bI _ _ ?_);refine aA fun fJ cC eF=>?_;by_cases Q8:T=n
   ·have e:((T:Int)==(n:Int))=true:=by rw[Q8,beq_self_eq_true]
    simp only[iE,seval,r1,r6,e];refine cC _ _ ?_;simp only[iE,seval,r5];refine w3 _ _ _ (by simp) (by simp) (bN _ _ _ (by simp) (by simp) (aK _ _ _ (by simp) ?_));simp only[iE,seval];refine h1 (j+1) (by omega) (by omega) fun i Y6 hi2=>?_;have:=Br (bs:=G.bs) (b:=j+1) (n:=n) (j:=i-(j+1)) (by rw[← hT];omega);rw[show j+1+(i-(j+1))=i by omega] at this;exact this
   ·have e:((T:Int)==(n:Int))=false:=by rw[beq_eq_false_iff_ne];omega
    simp only[iE,seval,r1,r6,e];refine cC _ _ ?_;simp only[iE,seval];refine w1 _ _ ⟨?_,?_,?_,rfl⟩
    all_goals simp only[iE,seval,r0,r1,r5]
  ·refine⟨?_,?_,?_,?_,rfl⟩
   all_goals try simp only[iE,seval,r0,r1,r5]
   try rfl
 ·rintro j a' s' hj ⟨r0,r1,r5,rfl⟩ aR w1;have w:IntKind.i64.wrap (((j+1:Nat):Int)+1)=((j+1+1:Nat):Int):=by rw[aU (by omega) (by omega)];rfl
  simp only[iE,seval,r5,w];refine w1 _ _ ⟨?_,?_,?_,rfl⟩
  all_goals try simp only[iE,seval,r0,r1]
 ·rintro a' s' ⟨r0,r1,r5,rfl⟩;refine oG _ _ (aE _ _ ?_);simp only[iE,seval];exact h2
 ·refine⟨?_,?_,?_,rfl⟩
  all_goals try simp only[iE,seval]
  try rfl
end
open Go.Proofs
set_option maxRecDepth 100000
set_option maxHeartbeats 4000000
def HQ (r:Int×Int):List Value:=[int r.1,int r.2]
theorem Ly (r:Int×Int):(HQ r).length=2:=rfl
section
variable {kc:Kc} {q:Bool} {s:St} {Φ:Value→St→Prop} {g:Nat} {G:dD} {P:PH}
theorem Lz {s:St} (hs:Ok s) {va:Option Addr} {vc:Nat} {l:List (Int×Int)} (hB:bE s 241 2 (.slice va l.length vc) (l.flatMap HQ)) (r:Int×Int) (hl:l.length<100000) :
  ∃ s3,(s.new fun v=>.cells (PT.ofList [int r.1,int r.2]) [] 2 241 false false v)=s3∧∃ a4 c4 s4,oY X s3 #[238,238] [.slice va l.length vc,.slice (some ⟨s.next,0,none⟩) 1 1]=some (.slice a4 (l++[r]).length c4,s4)∧bE s4 241 2 (.slice a4 (l++[r]).length c4) ((l++[r]).flatMap HQ) ∧
   (∀ N,N≤s.next→(∀ y∈nameOf (.slice va l.length vc),N≤y)→∀ y∈nameOf (.slice a4 (l++[r]).length c4),N≤y)∧(∀ a:St,Ok a→aC [] a s→(∀ y∈nameOf (.slice va l.length vc),a.next≤y)→aC [] a s4):=by
 obtain⟨s3,e3,k3,c3,n3⟩:=cA hs (L:=[int r.1,int r.2]) (n:=2) (e:=241) rfl;obtain⟨v,s4,h4,b4,k4,m4,a4,c4,rfl⟩:=iT (X:=X) (t:=238) (e:=241) (N:=2) (B:=16) (z:=.agg #[int 0,int 0]) (x:=.slice (some ⟨s.next,0,none⟩) 1 1) (k:=1) (new:=[int r.1,int r.2]) (by kernel_rfl) (by kernel_rfl) rfl k3.ok (by omega) (hB.aD k3 (by simp)) rfl (kT (by omega) (c3.bD (i:=0) (k:=2) (Nat.le_refl _))) rfl rfl (by omega) (by omega);refine⟨s3,e3,a4,c4,s4,?_,?_,fun N hN hn y hy=>?_,fun a ha k hn=>(k.trans k3).step k4 fun y hy=>.inr (ha.fresh _ (hn y hy))⟩
 ·rw[List.length_append,List.length_singleton];exact h4
 ·rw[List.flatMap_append,List.flatMap_singleton,List.length_append,List.length_singleton];exact b4
 ·rw[List.length_append,List.length_singleton] at hy;rcases m4 y hy with h | h
  ·exact hn y h
  ·have:=k3.next;omega
theorem eD:type_of% (An @RX<|An @dG<|An @dE<|An @aW<|An @uq<|An @xb<|An @lY<|An @mD<|An @oI<|An @yO<|@hZ):=An @RX<|An @dG<|An @dE<|An @aW<|An @uq<|An @xb<|An @lY<|An @mD<|An @oI<|An @yO<|@hZ
theorem aFa (hs:Ok s) (H:cE s g G) (S:gN P G.L) (I:P.Inv) {b:Nat} (hb:b<G.N) (hu:G.bs b=1) (hΦ:∀ (l:List (Int×Int)) va vc s',(∀ r∈l,64*(b:Int)≤r.1∧r.1<64*(b:Int)+64)→l.length≤3000→bE s' 241 2 (.slice va l.length vc) (l.flatMap HQ)→(∀ y∈nameOf (.slice va l.length vc),s.next≤y)→aC [] s s'→Φ (.slice va l.length vc) s'):okF q X (KO kc) 242 [ptr g,int b] s Φ:=by
 have hlen:=H.len;have bW:=H.bW;have Hy:=I.bW;refine aV rfl D6 rfl (rs:=[.tmp 4]) rfl (N:=77) rfl rfl ?_;refine aA fun bB aF aZ=>?_;simp only[eD,seval];refine aF _ _ ?_;refine aA fun Ψ1 aE aK=>?_;simp only[eD,seval];refine aE _ _ ?_;refine aA fun Ψ2 aH bM=>?_;refine aA fun Ψ3 aM bN=>?_;simp only[eD,seval];refine aJ ?_ (oo H (b:Int) ?_)
 ·simp only[eD,seval]
 rw[if_pos ⟨by omega,by omega⟩,Int.toNat_natCast,hu]
 try simp only[eD,seval]
 refine aM _ _ ?_;simp only[eD,seval];refine aH _ _ ?_;have wb:IntKind.i64.wrap ((b:Int)*64)=64*(b:Int):=by rw[aU (by omega) (by omega)];omega
 refine aA fun Ψ4 aQ bZ=>?_;simp only[eD,seval,wb];refine aQ _ _ ?_;refine aA fun cP bI cF=>?_;simp only[eD,seval];refine aJ ?_ (aFh (b:=b) hs H S I ?_)
 ·simp only[eD,seval]
 intro l0 oa oc s1 fu aJf B0 aJk k1;simp only[eD,seval];refine bI _ _ ?_;have H1:=H.aL k1;refine aA fun dK bO cV=>?_;refine aA fun fJ cC eF=>?_;simp only[eD,seval];refine cC _ _ ?_;refine cB fun jC dA sJ iI=>?_;refine gD (n:=l0.length) (fun j a' s'=>∃ (l:List (Int×Int)) (va:Option Addr) (vc:Nat) (t:Int),l.length≤j∧a'.aB 0=ptr g∧a'.aB 1=int b∧a'.aB 5=.slice va l.length vc∧a'.aB 6=int t∧a'.aB 7=.slice oa l0.length oc∧a'.aB 8=int j∧(64*(b:Int)≤t∧t≤8192)∧(∀ r∈l,64*(b:Int)≤r.1∧r.1<64*(b:Int)+64)∧bE s' 241 2 (.slice va l.length vc) (l.flatMap HQ)∧(∀ y∈nameOf (.slice va l.length vc),s1.next≤y)∧aC [] s1 s')
  (fun j a' s'=>∃ (l:List (Int×Int)) (va:Option Addr) (vc:Nat) (t:Int),l.length≤j+1∧a'.aB 0=ptr g∧a'.aB 1=int b∧a'.aB 5=.slice va l.length vc∧a'.aB 6=int t∧a'.aB 7=.slice oa l0.length oc∧a'.aB 8=int j∧(64*(b:Int)≤t∧t≤8192)∧(∀ r∈l,64*(b:Int)≤r.1∧r.1<64*(b:Int)+64)∧bE s' 241 2 (.slice va l.length vc) (l.flatMap HQ)∧(∀ y∈nameOf (.slice va l.length vc),s1.next≤y)∧aC [] s1 s') ?_ ?_ ?_ ?_ (Nat.zero_le _) ?_
 ·rintro j a' s' hj ⟨l,va,vc,t,hl,r0,r1,r5,r6,r7,r8,ht,hm,hB,hnm,hk⟩ aR bH;simp only[eD,seval,r7,r8];refine bH _ _ (decide ((j:Int)<l0.length)) ?_ (by simp) ⟨l,va,vc,t,hl,?_,?_,?_,?_,?_,?_,ht,hm,hB,hnm,hk⟩
  all_goals simp only[eD,seval,r0,r1,r5,r6,r7,r8]
 ·rintro j a' s' hj ⟨l,va,vc,t,hl,r0,r1,r5,r6,r7,r8,ht,hm,hB,hnm,hk⟩ aR w1 w2 w3;obtain⟨ob,XG,rfl⟩:=B0.sl.addr (show 0<l0.length by omega);have p1:(0:Int)≤(j:Int):=Int.natCast_nonneg _;have p2:(j:Int)<((l0.length:Nat):Int):=by omega
  obtain⟨y,hy⟩:∃ y,y=l0[j]:=⟨_,rfl⟩;have hym:y∈l0:=by rw[hy];exact List.getElem_mem hj
  obtain⟨hy1,o,ho,Du⟩:=fu y hym;have kl:∀ t:St,aC [] s1 t→aI t.look ⟨ob,XG+j,none⟩=some (int y):=fun t k=>by
   refine(B0.aD k (by simp)).sl.load ?_;rw[List.getElem?_map,List.getElem?_eq_getElem hj,hy];rfl
  have ly:=kl s' hk;have hsz:=PH.size_pos I.cM (S.has ho);have hok:=S.ok o ho;have aJq:P.size o.a=o.sh.words:=by unfold PH.size;rw[hok.sh]
  have hww:=o.sh.CA;refine aA fun lJ dW jP=>?_;have step:∀ (a':aG) (s':St) (l:List (Int×Int)) (va:Option Addr) (vc:Nat),l.length≤j+1→a'.aB 0=ptr g→a'.aB 1=int b→a'.aB 5=.slice va l.length vc→a'.aB 7=.slice (some ⟨ob,XG,none⟩) l0.length oc→a'.aB 8=int j→(∀ r∈l,64*(b:Int)≤r.1∧r.1<64*(b:Int)+64) →
    bE s' 241 2 (.slice va l.length vc) (l.flatMap HQ)→(∀ y∈nameOf (.slice va l.length vc),s1.next≤y)→aC [] s1 s'→lJ .normal a' s':=by
   intro a' s' l va vc hl r0 r1 r5 r7 r8 hm hB hnm hk;have H':=H1.aL hk;have ly:=kl s' hk;have ks:aC [] s' (s'.skip 40):=aC.skip hk.ok _;refine dW _ _ ?_;refine dH [(3,13),(7,13),(3,17)] [ob,g] [] (by kernel_rfl) (by kernel_rfl) (by rfl) fun O hO bK hR=>?_;simp only[eD,seval,r0,r7,r8,p1,p2,and_self,bJ,Int.toNat_natCast,Nat.mul_one,ly,H'.l1];refine eQ ?_ (HN (H'.aL ks) y (fun i hi he=>?_) (fun hn=>?_))
   ·simp only[eD,seval]
   ·obtain⟨vb,dM,hv⟩:=H'.addr (show 0<G.L.length by omega);have q1:(0:Int)≤(i:Int):=Int.natCast_nonneg _;have q2:(i:Int)<((G.L.length:Nat):Int):=by omega
    have hoi:G.L[i].a=o.a:=by rw[he,Du]
    have aA9:=S.ok _ (List.getElem_mem hi);have aAb:G.L[i].sh=o.sh:=by rw[aA9.sh,hok.sh,hoi]
    have l2:bD s'.look ⟨vb,dM+i*8+2,none⟩ 3=some [int o.sh.r,int o.sh.d,int o.sh.k]:=by
     rw[← aAb];have h:=H'.cl.sl;rw[hv] at h;have:=h.bD (i:=i*8+2) (k:=3) (by omega) (by rw[uY cJ.pL];omega);rw[← Nat.add_assoc] at this;rw[this];congr 1;apply List.ext_getElem?;intro k;by_cases hk3:k<3
     ·rw[List.getElem?_take,if_pos hk3,List.getElem?_drop,Nat.add_assoc,yT cJ.pL _ hi (by omega)];rcases k with _ | _ | _ | k
      ·try rfl
      ·try rfl
      ·try rfl
      ·omega
     ·rw[List.getElem?_eq_none (by rw[List.length_take];omega),List.getElem?_eq_none (by simp;omega)]
    have PV:∀ t:St,aC [] (s'.skip 40) t→eT (s'.skip 40) t ob=true:=fun t k=>PW (kl _ (hk.trans ks)) ks.ok k (by simp);have Mb:∀ t:St,aC [] (s'.skip 40) t→eT (s'.skip 40) t g=true:=fun t k=>(H'.aL ks).c.same ks.ok k (by simp);simp only[eD,seval,hv,q1,q2,and_self,bJ,Int.toNat_natCast,l2];refine⟨gQ (PV _ (.refl ks.ok)) (gQ (Mb _ (.refl ks.ok)) jR),?_⟩;refine eQ ?_ (HO ks.ok o.sh fun s2 k2=>?_)
    ·simp only[eD,seval]
    have wy:IntKind.i64.wrap (y+o.sh.words)=y+o.sh.words:=aU (by omega) (by omega);simp only[eD,seval,wy];refine⟨gQ (PV _ k2) (gQ (Mb _ k2) jR),hR _ _ (w1 _ _ ⟨l,va,vc,y+o.sh.words,hl,?_,?_,?_,?_,?_,?_,⟨by omega,by omega⟩,hm,?_,hnm,hk.trans (ks.trans k2)⟩)⟩
    ·simp only[eD,seval,r0]
    ·simp only[eD,seval,r1]
    ·simp only[eD,seval,r5]
    ·simp only[eD,seval]
    ·simp only[eD,seval,r7]
    ·simp only[eD,seval,r8]
    ·exact hB.aD (ks.trans k2) (by simp)
   ·exact absurd Du (hn o ho)
  refine aA fun mZ eB nH=>?_;simp only[eD,seval,r6,r7,r8,p1,p2,and_self,bJ,Int.toNat_natCast,Nat.mul_one,ly];refine eB _ _ ?_;by_cases hc:y>t
  ·have wd:IntKind.i64.wrap (y-t)=y-t:=aU (by omega) (by omega);obtain⟨s3,e3,a4,c4,s4,h4,b4,m4,k4⟩:=Lz hk.ok hB (t,y-t) (by omega);simp only[eD,seval,hc,decide_true,r5,r6,r7,r8,p1,p2,and_self,bJ,Int.toNat_natCast,Nat.mul_one,ly,wd];rw[e3];refine iX ?_ h4 ?_
   ·simp only[eD,seval]
   simp only[eD,seval];refine step _ s4 (l++[(t,y-t)]) a4 c4 (by rw[List.length_append,List.length_singleton];omega) ?_ ?_ ?_ ?_ ?_ (fun r hr=>?_) b4 (m4 _ hk.next hnm) (k4 _ k1.ok hk hnm)
   ·simp only[eD,seval,r0]
   ·simp only[eD,seval,r1]
   ·simp only[eD,seval]
   ·simp only[eD,seval,r7]
   ·simp only[eD,seval,r8]
   ·rcases List.mem_append.1 hr with h | h
    ·exact hm r h
    ·rw[List.mem_singleton.1 h];exact⟨ht.1,by show t<_;omega⟩
  ·simp only[eD,seval,hc,decide_false];refine step _ s' l va vc (by omega) ?_ ?_ ?_ ?_ ?_ hm hB hnm hk
   ·simp only[eD,seval,r0]
   ·simp only[eD,seval,r1]
   ·simp only[eD,seval,r5]
   ·simp only[eD,seval,r7]
   ·simp only[eD,seval,r8]
 ·rintro j a' s' hj ⟨l,va,vc,t,hl,r0,r1,r5,r6,r7,r8,ht,hm,hB,hnm,hk⟩ aR w1;have w:IntKind.i64.wrap ((j:Int)+1)=((j+1:Nat):Int):=by rw[aU (by omega) (by omega)];rfl
  simp only[eD,seval,r8,w];refine w1 _ _ ⟨l,va,vc,t,hl,?_,?_,?_,?_,?_,?_,ht,hm,hB,hnm,hk⟩
  all_goals try simp only[eD,seval,r0,r1,r5,r6,r7]
 ·rintro a' s' ⟨l,va,vc,t,hl,r0,r1,r5,r6,r7,r8,ht,hm,hB,hnm,hk⟩;refine sJ _ _ (bO _ _ ?_);have wb1:IntKind.i64.wrap ((b:Int)+1)=(b:Int)+1:=aU (by omega) (by omega);have wb2:IntKind.i64.wrap (((b:Int)+1)*64)=64*(b:Int)+64:=by rw[aU (by omega) (by omega)];omega
  refine aA fun rS kL qK=>?_;refine aA fun uH kV tJ=>?_;simp only[eD,seval,r1,wb1,wb2];refine kV _ _ ?_;refine aA fun AA oF yX=>?_;simp only[eD,seval,r6];refine oF _ _ ?_;by_cases hc:t<64*(b:Int)+64
  ·have wd:IntKind.i64.wrap (64*(b:Int)+64-t)=64*(b:Int)+64-t:=aU (by omega) (by omega);obtain⟨s3,e3,a4,c4,s4,h4,b4,m4,k4⟩:=Lz hk.ok hB (t,64*(b:Int)+64-t) (by omega);simp only[eD,seval,hc,decide_true,r5,r6,wd];rw[e3];refine iX ?_ h4 ?_
   ·simp only[eD,seval]
   simp only[eD,seval];refine kL _ _ ?_;simp only[eD,seval];refine hΦ (l++[(t,64*(b:Int)+64-t)]) a4 c4 s4 (fun r hr=>?_) (by rw[List.length_append,List.length_singleton];omega) b4 (fun y hy=>by have:=m4 _ hk.next hnm y hy;have:=k1.next;omega) (k1.trans (k4 _ k1.ok hk hnm));rcases List.mem_append.1 hr with h | h
   ·exact hm r h
   ·rw[List.mem_singleton.1 h];exact⟨ht.1,hc⟩
  ·simp only[eD,seval,hc,decide_false];refine kL _ _ ?_;simp only[eD,seval,r5];exact hΦ l va vc s' hm (by omega) hB (fun y hy=>by have:=hnm y hy;have:=k1.next;omega) (k1.trans hk)
 ·refine⟨[],none,0,64*(b:Int),Nat.le_refl _,?_,?_,?_,?_,?_,?_,⟨Int.le_refl _,by omega⟩,fun r hr=>(by cases hr),.nil,fun y hy=>(by simp[nameOf] at hy),.refl k1.ok⟩
  all_goals try simp only[eD,seval]
  all_goals rfl
end
open Go.Proofs
set_option maxRecDepth 100000
set_option maxHeartbeats 4000000
section
variable {kc:Kc} {q:Bool} {s:St} {Φ:Value→St→Prop} {g:Nat} {G:dD} {P:PH}
theorem fY:type_of% (An @RX<|An @Gp<|An @Fl<|An @Al<|An @aW<|An @hZ<|@Ak):=An @RX<|An @Gp<|An @Fl<|An @Al<|An @aW<|An @hZ<|@Ak
theorem aF9 (hs:Ok s) (H:cE s g G) (S:gN P G.L) (I:P.Inv) (x:cI) (sp:Int) (h1:∀ (a:Int) (b:Nat) s',1≤b→b<G.N→G.bs b=1→64*(b:Int)≤a→a<64*(b:Int)+64→aC [] s s'→Φ (.tuple #[int a,.bool true]) s') (h2:∀ s',aC [] s s'→Φ (.tuple #[int 0,.bool false]) s') :
  okF q X (KO kc) 212 [ptr g,oW x,int sp] s Φ:=by
 have bW:=H.bW;have n2:=H.n2;refine aV rfl z9 rfl (rs:=[.tmp 6,.tmp 7]) rfl (N:=50) rfl rfl ?_;refine aA fun bB aF aZ=>?_;simp only[fY,seval];obtain⟨s1,e1,k1,c1,n1⟩:=cA hs (L:=[int x.r,int x.d,int x.k]) (n:=3) (e:=44) rfl;rw[e1];refine aF _ _ ?_;have H1:=H.aL k1;refine aA fun Ψ1 aE aK=>?_;refine aA fun Ψ2 aH bM=>?_;simp only[fY,seval];refine aH _ _ ?_;refine cB fun Ψ3 aM oG bN=>?_;refine gD (n:=G.N-1) (fun j a' s'=>a'.aB 0=ptr g∧a'.aB 2=int sp∧a'.aB 4=ptr s.next∧a'.aB 8=int ((j+1:Nat))∧aC [] s1 s') (fun j a' s'=>a'.aB 0=ptr g∧a'.aB 2=int sp∧a'.aB 4=ptr s.next∧a'.aB 8=int ((j+1:Nat))∧aC [] s1 s') ?_ ?_ ?_ ?_ (Nat.zero_le _) ?_
 ·rintro j a' s' hj ⟨r0,r2,r4,r8,hk⟩ aR bH;simp only[fY,seval,r0,r8];refine aJ ?_ (Ko (H1.aL hk) ?_)
  ·simp only[fY,seval]
  try simp only[fY,seval]
  refine bH _ _ (decide (((j+1:Nat):Int)<G.N)) ?_ (by rw[decide_eq_true_eq];omega) ⟨?_,?_,?_,?_,hk⟩
  all_goals simp only[fY,seval,r0,r2,r4,r8]
 ·rintro j a' s' hj ⟨r0,r2,r4,r8,hk⟩ aR w1 w2 w3;have H':=H1.aL hk;refine aA fun Ψ4 aQ bZ=>?_;have kJ:∀ a':aG,a'.aB 0=ptr g→a'.aB 2=int sp→a'.aB 4=ptr s.next→a'.aB 8=int ((j+1:Nat))→G.bs (j+1)=1→Ψ4 .normal a' s':=by
   intro a' r0 r2 r4 r8 qJ;refine aQ _ _ ?_;refine aA fun cP bI cF=>?_;simp only[fY,seval,r0,r8];refine aJ ?_ (aFa (b:=j+1) hk.ok H' S I (by omega) qJ ?_)
   ·simp only[fY,seval]
   intro l va vc s2 hl hll B2 GI k2;simp only[fY,seval];refine bI _ _ ?_;refine aA fun dK bO cV=>?_;simp only[fY,seval];refine bO _ _ ?_;refine cB fun fJ cC AS eF=>?_;refine gD (n:=l.length) (fun i a' s'=>a'.aB 0=ptr g∧a'.aB 2=int sp∧a'.aB 4=ptr s.next∧a'.aB 8=int ((j+1:Nat))∧a'.aB 9=.slice va l.length vc∧a'.aB 10=int i∧aC [] s2 s') (fun i a' s'=>a'.aB 0=ptr g∧a'.aB 2=int sp∧a'.aB 4=ptr s.next∧a'.aB 8=int ((j+1:Nat))∧a'.aB 9=.slice va l.length vc∧a'.aB 10=int i∧aC [] s2 s') ?_ ?_ ?_ ?_ (Nat.zero_le _) ?_
   ·rintro i a' s3 hi ⟨r0,r2,r4,r8,r9,cL,hk3⟩ ZC VD;simp only[fY,seval,r9,cL];refine VD _ _ (decide ((i:Int)<l.length)) ?_ (by simp) ⟨?_,?_,?_,?_,?_,?_,hk3⟩
    all_goals simp only[fY,seval,r0,r2,r4,r8,r9,cL]
   ·rintro i a' s3 hi ⟨r0,r2,r4,r8,r9,cL,hk3⟩ ZC v1 v2 v3;obtain⟨rb,Li,rfl⟩:=B2.sl.addr (show 0<l.length by omega);have p1:(0:Int)≤(i:Int):=Int.natCast_nonneg _;have p2:(i:Int)<((l.length:Nat):Int):=by omega
    have lk:∀ t:St,aC [] s2 t→aI t.look ⟨rb,Li+i*2,none⟩=some (int l[i].1)∧aI t.look ⟨rb,Li+i*2+1,none⟩=some (int l[i].2):=fun t k=>by
     have hsl:=(B2.aD k (by simp)).sl;refine⟨hsl.load (i:=i*2) ?_,?_⟩
     ·have:=yT Ly l hi (show 0<2 by omega);exact this
     ·have:=hsl.load (i:=i*2+1) (v:=int l[i].2) (by rw[yT Ly l hi (by omega)];rfl);rw[← Nat.add_assoc] at this;exact this
    obtain⟨lj0,lj1⟩:=lk s3 hk3;have mB:aC [] s1 s3:=(hk.trans k2).trans hk3;have BB:=(c1.aD mB (by simp)).bD (i:=0) (k:=3) (Nat.le_refl _);have ks:aC [] s3 (s3.skip 16):=aC.skip hk3.ok _;refine aA fun jC dA iI=>?_;refine dH [(4,6)] [rb] [] (by kernel_rfl) (by kernel_rfl) (by rfl) fun O hO bK hR=>?_;simp only[fY,seval,r4,r9,cL,p1,p2,and_self,bJ,Int.toNat_natCast,lj1,BB,List.drop_zero,List.take];refine eQ ?_ (HO ks.ok x fun s4 k4=>?_)
    ·simp only[fY,seval]
    have PV:eT (s3.skip 16) s4 rb=true:=PW (lk _ (hk3.trans ks)).1 ks.ok k4 (by simp);have lL:=(hk3.trans ks).trans k4;have aC2:=(lk s4 lL).1;by_cases hc:l[i].2≥x.words
    ·simp only[fY,seval,hc,decide_true];refine⟨gQ PV jR,hR _ _ (dA _ _ ?_)⟩;simp only[fY,seval,r9,cL,p1,p2,and_self,bJ,Int.toNat_natCast,aC2];refine v3 _ _ _ (by simp) (by simp) (eF _ _ _ (by simp) (by simp) (w3 _ _ _ (by simp) (by simp) (bN _ _ _ (by simp) (by simp) (aK _ _ _ (by simp) ?_))));simp only[fY,seval];have hr:=hl l[i] (List.getElem_mem hi);exact h1 l[i].1 (j+1) s4 (by omega) (by omega) qJ hr.1 hr.2 (((k1.trans hk).trans k2).trans lL)
    ·simp only[fY,seval,hc,decide_false];refine⟨gQ PV jR,hR _ _ (dA _ _ ?_)⟩;simp only[fY,seval];refine v1 _ _ ⟨?_,?_,?_,?_,?_,?_,lL⟩
     all_goals simp only[fY,seval,r0,r2,r4,r8,r9,cL]
   ·rintro i a' s3 hi ⟨r0,r2,r4,r8,r9,cL,hk3⟩ ZC v1;have w:IntKind.i64.wrap ((i:Int)+1)=((i+1:Nat):Int):=by rw[aU (by omega) (by omega)];rfl
    simp only[fY,seval,cL,w];refine v1 _ _ ⟨?_,?_,?_,?_,?_,?_,hk3⟩
    all_goals try simp only[fY,seval,r0,r2,r4,r8,r9]
   ·rintro a' s3 ⟨r0,r2,r4,r8,r9,cL,hk3⟩;exact AS _ _ (w1 _ _ ⟨r0,r2,r4,r8,(hk.trans k2).trans hk3⟩)
   ·refine⟨?_,?_,?_,?_,?_,?_,.refl k2.ok⟩
    all_goals try simp only[fY,seval,r0,r2,r4,r8]
    try rfl
  refine aA fun lJ dW jP=>?_;refine cK [(4,21)] (by kernel_rfl) fun O hO bK hR=>?_;have y4:∀ a,aN O a 4=bC (a.aB 21):=hO (4,21) (by simp);simp only[fY,seval,r0,r8];refine aJ ?_ (oo H' ((j+1:Nat):Int) ?_)
  ·simp only[fY,seval]
  rw[if_pos ⟨by omega,by omega⟩,Int.toNat_natCast];by_cases qJ:G.bs (j+1)=1
  ·simp only[fY,seval,y4,qJ,beq_self_eq_true,r0,r8];refine aJ ?_ (aFq H' ((j+1:Nat):Int) ?_)
   ·simp only[fY,seval]
   rw[if_pos ⟨by omega,by omega⟩,Int.toNat_natCast];cases hsp:(G.bp (j+1)==sp) with
   | true =>
    simp only[fY,seval,y4,r2,hsp];refine hR _ _ (dW _ _ ?_);simp only[fY,seval];refine kJ _ ?_ ?_ ?_ ?_ qJ
    all_goals simp only[fY,seval,r0,r2,r4,r8]
   | false =>
    simp only[fY,seval,y4,r2,hsp];refine hR _ _ (dW _ _ ?_);simp only[fY,seval];refine bZ _ _ _ (by simp) (w2 _ _ ⟨?_,?_,?_,?_,hk⟩)
    all_goals simp only[fY,seval,r0,r2,r4,r8]
  ·have R_:(G.bs (j+1)==1)=false:=by simpa using qJ
   simp only[fY,seval,y4,R_];refine hR _ _ (dW _ _ ?_);simp only[fY,seval];refine bZ _ _ _ (by simp) (w2 _ _ ⟨?_,?_,?_,?_,hk⟩)
   all_goals simp only[fY,seval,r0,r2,r4,r8]
 ·rintro j a' s' hj ⟨r0,r2,r4,r8,hk⟩ aR w1;have w:IntKind.i64.wrap (((j+1:Nat):Int)+1)=((j+1+1:Nat):Int):=by rw[aU (by omega) (by omega)];rfl
  simp only[fY,seval,r8,w];refine w1 _ _ ⟨?_,?_,?_,?_,hk⟩
  all_goals try simp only[fY,seval,r0,r2,r4]
 ·rintro a' s' ⟨r0,r2,r4,r8,hk⟩;refine oG _ _ (aE _ _ ?_);simp only[fY,seval];exact h2 s' (k1.trans hk)
 ·refine⟨?_,?_,?_,?_,.refl k1.ok⟩
  all_goals try simp only[fY,seval]
  try rfl
def PH.rC (P:PH) (b:Nat) (x:cI) (sp:Int):PH:=if x.words>32 then P.rB b ((x.words+63)/64).toNat 2 sp 3 sp else P.rB b 1 1 sp 0 0
theorem fH:type_of% (An @RX<|@hZ):=An @RX<|@hZ
theorem aF8 (hs:Ok s) (H:cE s g G) (S:iM P G) (I:P.Inv) (x:cI) (hx:x.valid=true) {sp:Int} (hsp:0≤sp∧sp<8)
  (h0:∀ s',aC [] s s'→Φ (.tuple #[int 0,.bool false]) s')
  (h1:∀ (a:Int) (b:Nat) s',1≤b→b<P.N→P.bs b=1→64*(b:Int)≤a→a<64*(b:Int)+64→aC [] s s'→Φ (.tuple #[int a,.bool true]) s')
  (h2:∀ (b:Nat) G' s',1≤b→b+(if x.words>32 then((x.words+63)/64).toNat else 1)≤P.N→(∀ j,b≤j→j<b+(if x.words>32 then((x.words+63)/64).toNat else 1)→P.bs j=0)→cE s' g G'→iM (P.rC b x sp) G'→G'.L=G.L→G'.bF g=G.bF g→aC [G.bn] s s'→Φ (.tuple #[int (64*(b:Int)),.bool true]) s') :
  okF q X (KO kc) 141 [ptr g,oW x,int sp] s Φ:=by
 have bW:=H.bW;have hN:=S.N;have qJ:=S.bs;have hw:=cI.sX hx;have gw:=x.CA;unfold PH.rC at h2;refine aV rfl Zo rfl (rs:=[.tmp 6,.tmp 7]) rfl (N:=50) rfl rfl ?_;refine aA fun bB aF aZ=>?_;simp only[fH,seval];obtain⟨s1,e1,k1,c1,n1⟩:=cA hs (L:=[int x.r,int x.d,int x.k]) (n:=3) (e:=44) rfl;rw[e1];refine aF _ _ ?_;have BB:=c1.bD (i:=0) (k:=3) (Nat.le_refl _);refine aA fun Ψ1 aE aK=>?_;refine aA fun Ψ2 aH bM=>?_;simp only[fH,seval,BB,List.drop_zero,List.take];refine aJ ?_ (ny k1.ok x fun s2 k2=>?_)
 ·simp only[fH,seval]
 simp only[fH,seval];refine aH _ _ ?_;have eC:=k1.trans k2;have c2:=c1.aD k2 (by simp);have BC:=c2.bD (i:=0) (k:=3) (Nat.le_refl _);by_cases hl:x.words>32
 ·simp only[if_pos hl] at h2;obtain⟨m,hm⟩:∃ m,m=((x.words+63)/64).toNat:=⟨_,rfl⟩;have hm':(x.words+63)/64=(m:Int):=by omega
  rw[← hm] at h2;simp only[eG,RV,RG,seval,hl,decide_true];refine aA fun Ψ3 aM bN=>?_;simp only[fH,seval,BC,List.drop_zero,List.take];refine aJ ?_ (nz k2.ok x fun s3 k3=>?_)
  ·simp only[fH,seval]
  rw[hm'];simp only[fH,seval];refine aM _ _ ?_;have fF:=eC.trans k3;have H3:=H.aL fF;refine aA fun Ψ4 aQ bZ=>?_;simp only[fH,seval];refine aJ ?_ (Kq H3 (n:=m) (by omega) (by omega) (fun b hb1 hb2 hf=>?_) ?_)
  ·simp only[fH,seval]
  ·simp only[fH,seval];refine aQ _ _ ?_;have e0:((b:Int)==0)=false:=by rw[beq_eq_false_iff_ne];omega
   refine aA fun cP bI cF=>?_;refine aA fun dK bO cV=>?_;simp only[fH,seval,e0];refine bO _ _ ?_;simp only[fH,seval];refine bI _ _ ?_;have wb:IntKind.i64.wrap ((b:Int)*64)=64*(b:Int):=by rw[aU (by omega) (by omega)];omega
   simp only[fH,seval,wb];refine aJ ?_ (aF7 (p:=b) (m:=m) fF.ok H3 hb1 (by omega) hb2 hsp hf fun s4 H4 k4=>?_)
   ·simp only[fH,seval]
   simp only[fH,seval];refine aK _ _ _ (by simp) ?_;simp only[fH,seval];refine h2 b _ s4 hb1 (by omega) (fun j a b'=>by rw[← qJ];exact hf j a b') H4 ⟨S.N,?_,?_,S.born,⟨S.L.all,fun o ho=>?_⟩⟩ rfl rfl (fF.any.trans k4)
   ·show dC _ b 2=dC _ b 2;unfold dD.fill;rw[qJ]
   ·show (fun j=>if b≤j∧j<b+m then sp else G.bp j)=dC (fun j=>if b≤j∧j<b+m then sp else P.bp j) b sp;rw[S.bp];funext j;unfold dC;by_cases e:j=b
    ·rw[if_pos e,if_pos (by omega)]
    ·rw[if_neg e]
   ·have:=S.L.ok o ho;exact⟨this.id,this.sh,this.rs,this.ds,this.gH⟩
  ·simp only[fH,seval];refine aQ _ _ ?_;refine aA fun cP bI cF=>?_;refine aA fun dK bO cV=>?_;simp only[fH,seval];refine bO _ _ ?_;simp only[fH,seval];refine cF _ _ _ (by simp) (aK _ _ _ (by simp) ?_);simp only[fH,seval];exact h0 s3 fF
 ·simp only[if_neg hl] at h2;simp only[eG,RV,RG,seval,hl,decide_false];simp only[fH,seval];refine aE _ _ ?_;have H2:=H.aL eC;refine aA fun fJ cC eF=>?_;refine aA fun jC dA iI=>?_;simp only[fH,seval,BC,List.drop_zero,List.take];refine aJ ?_ (aF9 k2.ok H2 S.L I x sp (fun a b s3 hb1 hb2 S0 UE UF k3=>?_) (fun s3 k3=>?_))
  ·simp only[fH,seval]
  ·simp only[fH,seval];refine dA _ _ ?_;refine aA fun lJ dW jP=>?_;simp only[fH,seval];refine dW _ _ ?_;simp only[fH,seval];refine eF _ _ _ (by simp) ?_;simp only[fH,seval];exact h1 a b s3 hb1 (by omega) (by rw[← qJ];exact S0) UE UF (eC.trans k3)
  ·simp only[fH,seval];refine dA _ _ ?_;refine aA fun lJ dW jP=>?_;simp only[fH,seval];refine dW _ _ ?_;simp only[fH,seval];refine cC _ _ ?_;have fF:=eC.trans k3;have H3:=H.aL fF;refine aA fun mZ eB nH=>?_;simp only[fH,seval];refine aJ ?_ (Kq H3 (n:=1) (by omega) (by omega) (fun b hb1 hb2 hf=>?_) ?_)
   ·simp only[fH,seval]
    try rfl
   ·simp only[fH,seval];refine eB _ _ ?_;have e0:((b:Int)==0)=false:=by rw[beq_eq_false_iff_ne];omega
    refine aA fun rS kL qK=>?_;refine aA fun uH kV tJ=>?_;simp only[fH,seval,e0];refine kV _ _ ?_;simp only[fH,seval];refine kL _ _ ?_;have wb:IntKind.i64.wrap ((b:Int)*64)=64*(b:Int):=by rw[aU (by omega) (by omega)];omega
    simp only[fH,seval,wb];refine aJ ?_ (aF6 (b:=b) fF.ok H3 hb1 (by omega) hsp (hf b (Nat.le_refl _) (by omega)) fun s4 H4 k4=>?_)
    ·simp only[fH,seval]
    simp only[fH,seval];refine h2 b _ s4 hb1 (by omega) (fun j a b'=>by rw[← qJ];exact hf j a b') H4 ⟨S.N,?_,?_,S.born,⟨S.L.all,fun o ho=>?_⟩⟩ rfl rfl (fF.any.trans k4)
    ·show dC G.bs b 1=dC (fun j=>if b≤j∧j<b+1 then 0 else P.bs j) b 1;rw[qJ];funext j;unfold dC;by_cases e:j=b
     ·rw[if_pos e,if_pos e]
     ·rw[if_neg e,if_neg e];simp only;rw[if_neg (by omega)]
    ·show dC G.bp b sp=dC (fun j=>if b≤j∧j<b+1 then 0 else P.bp j) b sp;rw[S.bp];funext j;unfold dC;by_cases e:j=b
     ·rw[if_pos e,if_pos e]
     ·rw[if_neg e,if_neg e];simp only;rw[if_neg (by omega)]
    ·have:=S.L.ok o ho;exact⟨this.id,this.sh,this.rs,this.ds,this.gH⟩
   ·simp only[fH,seval];refine eB _ _ ?_;refine aA fun rS kL qK=>?_;refine aA fun uH kV tJ=>?_;simp only[fH,seval];refine kV _ _ ?_;simp only[fH,seval];refine qK _ _ _ (by simp) ?_;simp only[fH,seval];exact h0 s3 fF
end
open Go.Proofs
set_option maxRecDepth 100000
set_option maxHeartbeats 4000000
structure RQ where
 sa:Option Addr
 sc:Nat
 rows:List Nat
 gn:Nat
 va:Option Addr
 vc:Nat
abbrev HP (n:Nat):Value:=.slice (some ⟨n,0,none⟩) 16 16
def RQ.own (r:Nat) (Q:RQ):List Nat:=r::Q.gn::Q.rows
structure gG (s:St) (r:Nat) (Q:RQ) (R:PR):Prop where
 c:Obj s r [.slice Q.sa R.m Q.sc,.slice (some ⟨Q.gn,0,none⟩) 16 16,.slice Q.va R.q.length Q.vc]
 cs:bE s 62 1 (.slice Q.sa R.m Q.sc) (Q.rows.map HP)
 rl:Q.rows.length=R.m
 cr:∀ k (hk:k<Q.rows.length),Obj s Q.rows[k] (row 16 fun i=>int (R.sl (k*16+i)))
 cg:Obj s Q.gn (row 16 fun i=>int (R.gl i))
 cq:bE s 3 1 (.slice Q.va R.q.length Q.vc) (R.q.map int)
 nd:(Q.own r).Nodup
 ns:∀ b∈nameOf (.slice Q.sa R.m Q.sc),b∉Q.own r∧b∉nameOf (.slice Q.va R.q.length Q.vc)
 nq:∀ b∈nameOf (.slice Q.va R.q.length Q.vc),b∉Q.own r
 m1:1≤R.m
 m4:R.m≤4
 ql:R.q.length≤64
def RQ.bF (r:Nat) (Q:RQ) (R:PR):List Nat:=Q.own r++nameOf (.slice Q.sa R.m Q.sc)++nameOf (.slice Q.va R.q.length Q.vc)
namespace gG
variable {F:List Nat} {s s':St} {r:Nat} {Q:RQ} {R:PR}
theorem congr {R':PR} (H:gG s r Q R) (h1:R'.m=R.m) (h2:R'.sl=R.sl) (h3:R'.gl=R.gl) (h4:R'.q=R.q):gG s r Q R':=by
 rcases R with ⟨a1,a2,a3,a4,a5,m,sl,gl,q⟩;rcases R' with ⟨b1,b2,b3,b4,b5,m',sl',gl',q'⟩;simp only at h1 h2 h3 h4;subst h1 h2 h3 h4;obtain⟨c,cs,rl,cr,cg,cq,nd,ns,nq,m1,m4,ql⟩:=H;exact⟨c,cs,rl,cr,cg,cq,nd,ns,nq,m1,m4,ql⟩
theorem aD (H:gG s r Q R) (k:aC F s s') (hF:∀ x∈Q.bF r R,x∉F):gG s' r Q R:=by
 obtain⟨c,cs,rl,cr,cg,cq,nd,ns,nq,m1,m4,ql⟩:=H;have o:∀ x∈Q.own r,x∉F:=fun x hx=>hF x (List.mem_append_left _ (List.mem_append_left _ hx));exact⟨c.aD k (o _ (List.mem_cons_self ..)),cs.aD k (fun b hb=>hF b (List.mem_append_left _ (List.mem_append_right _ hb))),rl,
  fun i hi=>(cr i hi).aD k (o _ (List.mem_cons_of_mem _ (List.mem_cons_of_mem _ (List.getElem_mem hi)))),cg.aD k (o _ (List.mem_cons_of_mem _ (List.mem_cons_self ..))),
  cq.aD k (fun b hb=>hF b (List.mem_append_right _ hb)),nd,ns,nq,m1,m4,ql⟩
theorem aL (H:gG s r Q R) (k:aC [] s s'):gG s' r Q R:=H.aD k fun _ _=>by simp
theorem l0 (H:gG s r Q R):aI s.look ⟨r,0,none⟩=some (.slice Q.sa R.m Q.sc):=H.c.load rfl
theorem l1 (H:gG s r Q R):aI s.look ⟨r,1,none⟩=some (.slice (some ⟨Q.gn,0,none⟩) 16 16):=H.c.load rfl
theorem l2 (H:gG s r Q R):aI s.look ⟨r,2,none⟩=some (.slice Q.va R.q.length Q.vc):=H.c.load rfl
theorem gO (H:gG s r Q R) (hs:Ok s):∀ x∈Q.bF r R,x<s.next:=by
 intro x hx;rcases List.mem_append.1 hx with hx | hx
 ·rcases List.mem_append.1 hx with hx | hx
  ·rcases List.mem_cons.1 hx with rfl | hx
   ·exact H.c.lt hs
   ·rcases List.mem_cons.1 hx with rfl | hx
    ·exact H.cg.lt hs
    ·obtain⟨i,hi,rfl⟩:=List.mem_iff_getElem.1 hx;exact(H.cr i hi).lt hs
  ·exact H.cs.lt hs x hx
 ·exact H.cq.lt hs x hx
end gG
section
variable {kc:Kc} {q:Bool} {s:St} {Φ:Value→St→Prop} {r:Nat} {Q:RQ} {R:PR}
theorem qp:type_of% (An @RX<|An @Ij<|An @Ic<|An @sD<|An @sL<|@zI):=An @RX<|An @Ij<|An @Ic<|An @sD<|An @sL<|@zI
theorem PO (H:gG s r Q R) (hΦ:Φ (.bool true) s):okF q X (KO kc) 93 [ptr r] s Φ:=by
 have n2:=H.m1;have hp:((R.m:Nat):Int)>0:=by omega
 refine aV rfl L6 rfl (rs:=[.tmp 2]) rfl (N:=13) rfl rfl ?_;refine aA fun bB aF aZ=>?_;simp only[qp,seval];refine aF _ _ ?_;refine aA fun Ψ1 aE aK=>?_;refine cK [(2,5)] (by kernel_rfl) fun O hO bK hR=>?_;have y2:∀ a,aN O a 2=bC (a.aB 5):=hO (2,5) (by simp);simp only[qp,seval,y2,H.l0,hp,decide_true];refine hR _ _ (aE _ _ ?_);simp only[qp,seval];exact hΦ
theorem LS:type_of% (An @RX<|An @sD<|An @sL<|@zI):=An @RX<|An @sD<|An @sL<|@zI
theorem aGi (H:gG s r Q R) (hΦ:Φ (int R.m) s):okF q X (KO kc) 192 [ptr r] s Φ:=by
 refine aV rfl u_ rfl (rs:=[.tmp 2]) rfl (N:=11) rfl rfl ?_;refine aA fun bB aF aZ=>?_;simp only[LS,seval];refine aF _ _ ?_;refine aA fun Ψ1 aE aK=>?_;refine aA fun Ψ2 aH bM=>?_;simp only[LS,seval];refine aJ ?_ (PO H ?_)
 ·simp only[LS,seval]
 try simp only[LS,seval]
 refine aH _ _ ?_;simp only[LS,seval];refine aE _ _ ?_;simp only[LS,seval,H.l0];exact hΦ
theorem BP:type_of% (An @RX<|An @yF<|An @sE<|@dF):=An @RX<|An @yF<|An @sE<|@dF
theorem aGl (hs:Ok s) (H:gG s r Q R) (hΦ:∀ va vc s',aC [] s s'→Φ (.slice va R.q.length vc) s'):okF q X (KO kc) 150 [ptr r] s Φ:=by
 have NW:=H.ql;refine aV rfl Zx rfl (rs:=[.tmp 2]) rfl (N:=12) rfl rfl ?_;refine aA fun bB aF aZ=>?_;simp only[BP,seval];refine aF _ _ ?_;refine aA fun Ψ1 aE aK=>?_;refine aA fun Ψ2 aH bM=>?_;simp only[BP,seval];refine aJ ?_ (PO H ?_)
 ·simp only[BP,seval]
 try simp only[BP,seval]
 refine aH _ _ ?_;simp only[BP,seval];refine aE _ _ ?_;obtain⟨s1,e1,k1,c1,n1⟩:=cA hs (L:=[]) (n:=0) (e:=3) rfl;obtain⟨e,c1⟩:=c1;have B1:bE s1 3 1 (.slice (some ⟨s.next,0,none⟩) 0 0) []:=by
  rw[← e1];exact .own (L0:=[]) Cells.vL (by simp) (Nat.le_refl _) rfl (fun i hi=>absurd hi (Nat.not_lt_zero _))
 obtain⟨v,s4,h4,b4,k4,m4,a4,c4,rfl⟩:=iT (X:=X) (t:=62) (e:=3) (N:=1) (B:=8) (z:=.int .i64 0) (x:=.slice Q.va R.q.length Q.vc) (k:=R.q.length) (new:=R.q.map int) (by kernel_rfl) (by kernel_rfl) rfl k1.ok (by omega) B1 rfl (H.cq.aD k1 (by simp)).sl.first (by rw[List.length_map,Nat.mul_one]) (MM _) (by omega) (by omega);have hk:aC [] s s4:=k1.step k4 fun y hy=>.inr (by rw[List.mem_singleton.1 (show y∈[s.next] from hy)];exact hs.fresh _ (Nat.le_refl _));simp only[BP,seval];rw[e1];simp only[BP,seval,(H.aL k1).l2];refine iX ?_ h4 ?_
 ·simp only[BP,seval]
 simp only[BP,seval];rw[Nat.zero_add];exact hΦ a4 c4 s4 hk
theorem gG.WQ {s':St} (H:gG s r Q R) {F:List Nat} (k:aC F s s') (hF:∀ x∈Q.own r++nameOf (.slice Q.sa R.m Q.sc),x≠r→x∉F) {va:Option Addr} {vc:Nat} {L:List Int} (hc:Obj s' r [.slice Q.sa R.m Q.sc,.slice (some ⟨Q.gn,0,none⟩) 16 16,.slice va L.length vc])
  (hq:bE s' 3 1 (.slice va L.length vc) (L.map int)) (hn:∀ b∈nameOf (.slice va L.length vc),b∉Q.own r∧b∉nameOf (.slice Q.sa R.m Q.sc)) (hl:L.length≤64):gG s' r {Q with va:=va,vc:=vc} {R with q:=L}:=by
 obtain⟨c,cs,rl,cr,cg,cq,nd,ns,nq,m1,m4,ql⟩:=H;have hne:∀ x∈Q.gn::Q.rows,x≠r:=fun x hx e=>by
  unfold RQ.own at nd;rw[List.nodup_cons] at nd;exact nd.1 (by rw[← e];exact hx)
 refine⟨hc,cs.aD k (fun b hb=>hF b (List.mem_append_right _ hb) fun e=>(ns b hb).1 (by rw[e];exact List.mem_cons_self ..)),rl,
  fun i hi=>(cr i hi).aD k (hF _ (List.mem_append_left _ (List.mem_cons_of_mem _ (List.mem_cons_of_mem _ (List.getElem_mem hi)))) (hne _ (List.mem_cons_of_mem _ (List.getElem_mem hi)))),
  cg.aD k (hF _ (List.mem_append_left _ (List.mem_cons_of_mem _ (List.mem_cons_self ..))) (hne _ (List.mem_cons_self ..))),hq,nd,fun b hb=>⟨(ns b hb).1,fun h=>(hn b h).2 hb⟩,fun b hb=>(hn b hb).1,m1,m4,hl⟩
theorem oX:type_of% (An @RX<|An @sE<|An @dF<|An @dG<|An @jE<|@sR):=An @RX<|An @sE<|An @dF<|An @dG<|An @jE<|@sR
theorem aGk (hs:Ok s) (H:gG s r Q R) (v:Int) (hΦ:∀ Q' s',gG s' r Q' {R with q:=R.zO v}→aC (Q.bF r R) s s'→(∀ b∈Q'.bF r {R with q:=R.zO v},b∈Q.bF r R∨s.next≤b)→Φ (int (R.KV v)) s'):okF q X (KO kc) 151 [ptr r,int v] s Φ:=by
 unfold PR.zO PR.KV at hΦ;have NW:=H.ql;have wK:=H.gO hs;refine aV rfl Zy rfl (rs:=[.tmp 4]) rfl (N:=26) rfl rfl ?_;refine aA fun bB aF aZ=>?_;simp only[oX,seval];refine aF _ _ ?_;refine aA fun Ψ1 aE aK=>?_;refine aA fun Ψ2 aH bM=>?_;simp only[oX,seval];refine aJ ?_ (PO H ?_)
 ·simp only[oX,seval]
 try simp only[oX,seval]
 refine aH _ _ ?_;simp only[oX,seval];refine aE _ _ ?_;refine aA fun Ψ3 aM bN=>?_;refine aA fun Ψ4 aQ bZ=>?_;by_cases h0:v≤0
 ·rw[if_pos h0] at hΦ;simp only[oX,seval,h0,decide_true];refine aQ _ _ ?_;simp only[oX,seval];refine bN _ _ _ (by simp) ?_;simp only[oX,seval];exact hΦ Q s H (.refl hs) (fun b hb=>.inl hb)
 ·rw[if_neg h0] at hΦ;simp only[oX,seval,h0,decide_false];refine aQ _ _ ?_;simp only[oX,seval];refine aM _ _ ?_;refine aA fun cP bI cF=>?_;refine aA fun dK bO cV=>?_;by_cases h1:R.q.length=64
  ·have e1:((R.q.length:Nat):Int)≥64:=by omega
   rw[if_pos h1] at hΦ;simp only[oX,seval,H.l2,e1,decide_true];refine bO _ _ ?_;simp only[oX,seval];refine cF _ _ _ (by simp) ?_;simp only[oX,seval];exact hΦ Q s H (.refl hs) (fun b hb=>.inl hb)
  ·have e1:¬ ((R.q.length:Nat):Int)≥64:=by omega
   rw[if_neg h1] at hΦ;simp only[if_true] at hΦ;simp only[oX,seval,H.l2,e1,decide_false];refine bO _ _ ?_;simp only[oX,seval];refine bI _ _ ?_;obtain⟨s1,f1,k1,c1,n1⟩:=cA hs (L:=[int v]) (n:=1) (e:=3) rfl;obtain⟨w,s2,h2,b2,k2,m2,a2,c2,rfl⟩:=iT (X:=X) (t:=62) (e:=3) (N:=1) (B:=8) (z:=.int .i64 0) (x:=.slice (some ⟨s.next,0,none⟩) 1 1) (k:=1) (new:=[int v]) (by kernel_rfl) (by kernel_rfl) rfl k1.ok (by omega) (H.cq.aD k1 (by simp)) rfl (kT (by omega) (c1.bD (i:=0) (k:=1) (Nat.le_refl _))) rfl rfl (by omega) (by omega);have ow:r∉nameOf (.slice Q.va R.q.length Q.vc):=fun h=>H.nq r h (List.mem_cons_self ..);obtain⟨s3,h3,c3,k3⟩:=((H.c.aD k1 (by simp)).aD k2 ow).gJ k2.ok (i:=2) (v:=.slice a2 (R.q.length+1) c2) (by simp) rfl;refine aA fun fJ cC eF=>?_;simp only[oX,seval,H.l2];rw[f1];refine iX ?_ h2 ?_
   ·simp only[oX,seval]
   simp only[oX,seval,h3];refine cC _ _ ?_;simp only[oX,seval];have fF:aC (r::nameOf (.slice Q.va R.q.length Q.vc)) s s3:=((k1.any (G:=r::nameOf (.slice Q.va R.q.length Q.vc))).step k2 fun y hy=>.inl (List.mem_cons_of_mem _ hy)).step k3 fun y hy=>.inl (by rw[List.mem_singleton.1 hy];exact List.mem_cons_self ..);have eL:(R.q++[v]).length=R.q.length+1:=by rw[List.length_append,List.length_singleton]
   have hnm:∀ b∈nameOf (.slice a2 (R.q++[v]).length c2),b∈nameOf (.slice Q.va R.q.length Q.vc)∨s.next≤b:=fun b hb=>by
    rw[eL] at hb;rcases m2 b hb with h | h
    ·exact .inl h
    ·have:=k1.next;right;omega
   have ho:∀ x∈Q.own r++nameOf (.slice Q.sa R.m Q.sc),x<s.next:=fun x hx=>wK x (List.mem_append_left _ hx);refine hΦ {Q with va:=a2,vc:=c2} s3 (H.WQ fF (fun x hx hne hm=>?_) (by rw[eL];exact c3) ?_ (fun b hb=>?_) (by rw[eL];omega)) (fF.mono fun x hx=>?_) (fun b hb=>?_)
   ·rcases List.mem_cons.1 hm with h | h
    ·exact hne h
    ·rcases List.mem_append.1 hx with hx | hx
     ·exact H.nq x h hx
     ·exact(H.ns x hx).2 h
   ·rw[List.map_append,eL];refine b2.aD k3 fun b hb Cn=>?_;rw[← eL] at hb;rcases hnm b hb with h | h
    ·rw[List.mem_singleton.1 Cn] at h;exact ow h
    ·have:=H.c.lt hs;rw[List.mem_singleton.1 Cn] at h;omega
   ·rcases hnm b hb with h | h
    ·exact⟨H.nq b h,fun h'=>(H.ns b h').2 h⟩
    ·exact⟨fun h'=>by have:=ho b (List.mem_append_left _ h');omega,fun h'=>by have:=ho b (List.mem_append_right _ h');omega⟩
   ·rcases List.mem_cons.1 hx with h | h
    ·rw[h];exact List.mem_append_left _ (List.mem_append_left _ (List.mem_cons_self ..))
    ·exact List.mem_append_right _ h
   ·rcases List.mem_append.1 hb with h | h
    ·exact .inl (List.mem_append_left _ h)
    ·rcases hnm b h with h | h
     ·exact .inl (List.mem_append_right _ h)
     ·exact .inr h
end
end Go.Dust
