/- VerifyDamage walked in D, function by function, and its plain law (H5 H6 H7 F8 H8 H9 Ha Hb Hc J1). -/
import Derived.Test.YtaoiejcaopgjcaaGreatM
import Derived.Test.YtaoiejcaopgjcaaGreatJ
import Derived.Test.YtaoiejcaopgjcaaGreatK
set_option linter.unusedVariables false
set_option linter.unusedSimpArgs false
namespace Go.Dust
open Go.Proofs
set_option maxRecDepth 100000
set_option maxHeartbeats 2000000
section
variable {kc:Kc} {q:Bool} {s:St} {Φ:Value→St→Prop} {g:Nat} {G:dI} {P:PH}
theorem cM.ep (H:cM s g G):G.bn≠g∧(∀ o∈G.L,o.rn≠G.bn∧o.dn≠G.bn∧o.rn≠g∧o.dn≠g)∧G.bn∉nameOf (.slice G.va G.L.length G.vc)∧g∉nameOf (.slice G.va G.L.length G.vc):=by
 have nd:=H.nd;unfold dI.own at nd;rw[List.nodup_cons,List.nodup_cons] at nd;obtain⟨n1,n2,_⟩:=nd;have og:g∈G.own g:=List.mem_cons_self ..;have ob:G.bn∈G.own g:=List.mem_cons_of_mem _ (List.mem_cons_self ..);refine⟨fun e=>n1 (by rw[← e];exact List.mem_cons_self ..),fun o ho=>⟨fun e=>n2 ?_,fun e=>n2 ?_,fun e=>n1 (List.mem_cons_of_mem _ ?_),fun e=>n1 (List.mem_cons_of_mem _ ?_)⟩,fun h=>H.nl _ h ob,fun h=>H.nl _ h og⟩
 all_goals exact List.mem_flatMap.2 ⟨o,ho,by rw[← e];simp⟩
theorem cM.aw {s':St} {f f':Nat→Int} (H:cM s g G) (k:aC [G.bn] s s') (hc:Obj s' G.bn (row (2*G.N) fun i=>int (if i%2=0 then f (i/2) else f' (i/2)))):cM s' g {G with bs:=f,bp:=f'}:=by
 obtain⟨h1,h2,h3,h4⟩:=H.ep;obtain⟨c,cb,cl,cr,nd,nl,n2,bY,len⟩:=H;refine⟨c.aD k (by simp[Ne.symm h1]),hc,cl.aD k (fun b hb=>by simp;intro e;exact h3 (by rw[← e];exact hb)),fun o ho=>?_,nd,nl,n2,bY,len⟩;obtain⟨g1,g2,g3,g4⟩:=h2 o ho;exact⟨(cr o ho).1.aD k (by simp[g1]),(cr o ho).2.aD k (by simp[g2])⟩
theorem cM.setBlock (hs:Ok s) (H:cM s g G) {j:Nat} (hj:j<G.N) (x y:Int):∃ s',dS s ⟨G.bn,j*2,none⟩ [int x,int y]=some s'∧cM s' g {G with bs:=dM G.bs j x,bp:=dM G.bp j y}∧aC [G.bn] s s':=by
 obtain⟨s',h1,h2,h3⟩:=H.cb.store hs (i:=j*2) (vs:=[int x,int y]) (by rw[fY];show j*2+2≤_;omega) rfl;have HL:uX (row (2*G.N) fun i=>int (if i%2=0 then G.bs (i/2) else G.bp (i/2))) (j*2) [int x,int y]=row (2*G.N) fun i=>int (if i%2=0 then dM G.bs j x (i/2) else dM G.bp j y (i/2)):=by
  refine MV (by rw[JB (by rw[fY];show j*2+2≤_;omega),fY]) fun i hi=>?_;rw[JA (by rw[fY];show j*2+2≤_;omega),show [int x,int y].length=2 from rfl];unfold dM;by_cases hc:j*2≤i∧i<j*2+2
  ·rw[if_pos hc,if_pos (show i/2=j by omega),if_pos (show i/2=j by omega)];rcases Nat.lt_or_ge i (j*2+1) with h | h
   ·rw[show i-j*2=0 by omega,if_pos (by omega)];rfl
   ·rw[show i-j*2=1 by omega,if_neg (by omega)];rfl
  ·rw[if_neg hc,lW _ hi,if_neg (show ¬ i/2=j by omega),if_neg (show ¬ i/2=j by omega)]
 rw[HL] at h2;exact⟨s',h1,H.aw h3 h2,h3⟩
theorem cM.setState (hs:Ok s) (H:cM s g G) {j:Nat} (hj:j<G.N) (x:Int):∃ s',dS s ⟨G.bn,j*2,none⟩ [int x]=some s'∧cM s' g {G with bs:=dM G.bs j x}∧aC [G.bn] s s':=by
 obtain⟨s',h1,h2,h3⟩:=H.cb.fK hs (i:=j*2) (v:=int x) (by rw[fY];omega) rfl;rw[MW (by omega)] at h2;have e:(fun i=>if i=j*2 then int x else int (if i%2=0 then G.bs (i/2) else G.bp (i/2)))=fun i=>int (if i%2=0 then dM G.bs j x (i/2) else G.bp (i/2)):=by
  funext i;unfold dM;by_cases hi:i=j*2
  ·rw[if_pos hi,if_pos (by omega),if_pos (by omega)]
  ·rw[if_neg hi];by_cases h2:i%2=0
   ·rw[if_pos h2,if_pos h2,if_neg (by omega)]
   ·rw[if_neg h2,if_neg h2]
 rw[e] at h2;exact⟨s',h1,H.aw (f':=G.bp) h3 h2,h3⟩
theorem NJ:type_of% (B2 @RX @TR):=B2 @RX @TR
theorem aEg (hs:Ok s) {n:Nat} (h2:2≤n) (VO:n≤64) (hΦ:∀ g b s',cM s' g ⟨b,none,0,n,fun _=>0,fun _=>0,[],0⟩→(∀ x∈dI.aS g ⟨b,none,0,n,fun _=>0,fun _=>0,[],0⟩,s.next≤x)→aC [] s s'→Φ (.tuple #[ptr g,int 0]) s'):okF q X (KO kc) 52 [int n] s Φ:=by
 refine aW Tryz.func52 (by kernel_rfl) rfl rfl (rs:=[.tmp 2,.tmp 3]) rfl (N:=14) rfl rfl ?_;refine aA fun bF aF bD=>?_;simp only[NJ,seval];refine aF _ _ ?_;refine aA fun Ψ1 aE aL=>?_;refine aA fun Ψ2 aI bH=>?_;refine cL [(2,6)] (by kernel_rfl) fun O hO bC hR=>?_;have y2:∀ a,aO O a 2=aY (a.aB 6):=hO (2,6) (by simp);have g1:¬ (n:Int)<2:=by omega
 have g2:¬ (n:Int)>64:=by omega
 simp only[NJ,seval,y2,g1,g2,decide_false];refine hR _ _ (aI _ _ ?_);simp only[NJ,seval];refine aE _ _ ?_;simp only[NJ,seval,aBt (nm:=s.next) (n:=(n:Int)) (m:=(n:Int)) (by omega) (by omega) (by omega) (by omega),Int.toNat_natCast];obtain⟨S1,h1',k1,c1,n1⟩:∃ S1,(s.new fun v=>bW.cells PT.nil [int 0,int 0] (n*2) 210 false false v)=S1∧aC [] s S1∧Obj S1 s.next (row (2*n) fun i=>int 0)∧S1.next=s.next+2 :=
  ⟨_,rfl,(aC.refl hs).new (.inr (Nat.le_refl _)),Obj.uR (s:=s) (x:=s.next) rfl (by rw[fY];show 2*n=n*2;omega) (fun i hi=>by
   rw[lW _ (by omega)];rcases Nat.mod_two_eq_zero_or_one i with h | h <;> rw[h] <;> rfl),rfl⟩
 rw[h1'];obtain⟨s2,e2,k2,c2,n2⟩:=cI k1.ok (L:=[.slice (some ⟨s.next,0,none⟩) n n,.slice none 0 0,.slice none 0 0,int 0]) (n:=4) (e:=131) rfl
 try simp only[NJ,seval,TR]
 rw[e2]
 try simp only[NJ,seval]
 refine hΦ S1.next s.next s2 ⟨c2,?_,.nil,fun o ho=>(by cases ho),?_,fun b hb=>(by simp[nameOf] at hb),h2,VO,Nat.zero_le _⟩ ?_ (k1.trans k2)
 ·have:=c1.aD k2 (by simp);simpa using this
 ·show [S1.next,s.next].Nodup;simp;omega
 ·intro x hx;simp[dI.aS,dI.own,nameOf] at hx;omega
theorem tA:type_of% (B8 @RX @nM @nU @vX @zS @bG @JX @bl):=B8 @RX @nM @nU @vX @zS @bG @JX @bl
theorem aE4 (hs:Ok s) (H:cM s g G) {b:Nat} {y:Int} (h1:1≤b) (h2:b<G.N) (h3:0≤y∧y<8) (h4:G.bs b=0) (hΦ:∀ s',cM s' g {G with bs:=dM G.bs b 1,bp:=dM G.bp b y}→aC [G.bn] s s'→Φ (int 0) s'):okF q X (KO kc) 213 [ptr g,int b,int y] s Φ:=by
 have q0:(1:Int)≤(b:Int)∧(b:Int)<(G.N:Int):=by omega
 have q1:(0:Int)≤(b:Int):=by omega
 have q2:(b:Int)<(G.N:Int):=by omega
 refine aW Tryz.func213 (by kernel_rfl) rfl rfl (rs:=[.tmp 6]) rfl (N:=36) rfl rfl ?_;refine aA fun bF aF bD=>?_;simp only[tA,seval];refine aF _ _ ?_;refine aA fun Ψ1 aE aL=>?_;refine aA fun Ψ2 aI bH=>?_;simp only[tA,seval];refine aH ?_ (AW H ?_)
 ·simp only[tA,seval]
 try simp only[tA,seval]
 refine aI _ _ ?_;simp only[tA,seval];refine aE _ _ ?_;refine aA fun Ψ3 aN bM=>?_;refine aA fun Ψ4 aP cC=>?_;refine cL [(4,14)] (by kernel_rfl) fun O hO bC hR=>?_;have y4:∀ a,aO O a 4=aY (a.aB 14):=hO (4,14) (by simp);simp only[tA,seval];refine aH ?_ (Mz H b ?_)
 ·simp only[tA,seval]
 simp only[tA,seval,y4,q0,and_self,decide_true];refine aH ?_ (Na y ?_)
 ·simp only[tA,seval]
 try simp only[tA,seval,y4,h3,and_self,decide_true]
 refine hR _ _ (aP _ _ ?_);simp only[tA,seval];refine aN _ _ ?_;have l:=H.lb (i:=b) h2;refine aA fun cU aZ cK=>?_;refine aA fun dN bO cZ=>?_;simp only[tA,seval,H.l0,q1,q2,and_self,bQ,Int.toNat_natCast,Nat.zero_add,l,h4];refine bO _ _ ?_;simp only[tA,seval];refine aZ _ _ ?_;refine aA fun fE cG dX=>?_;obtain⟨s',e1,H',k'⟩:=H.setBlock hs h2 1 y;simp only[tA,seval,H.l0,q1,q2,and_self,bQ,Int.toNat_natCast,Nat.zero_add,e1];refine cG _ _ ?_;simp only[tA,seval];exact hΦ s' H' k'
theorem lK:type_of% (B7 @RX @nM @nU @vX @zS @bG @rV):=B7 @RX @nM @nU @vX @zS @bG @rV
theorem aEr (H:cM s g G) {b:Nat} (h2:b<G.N) (hΦ:Φ (int (if G.bs b=1 then 1 else if G.bs b=2 then((qW G.bs (b+1) (G.N-(b+1))+1:Nat):Int) else 0)) s):okF q X (KO kc) 243 [ptr g,int b] s Φ:=by
 have q1:(0:Int)≤(b:Int):=by omega
 have q2:(b:Int)<(G.N:Int):=by omega
 have bY:=H.bY;have l:=H.lb (i:=b) h2;refine aW Tryz.func243 (by kernel_rfl) rfl rfl (rs:=[.tmp 4]) rfl (N:=49) rfl rfl ?_;refine aA fun bF aF bD=>?_;simp only[lK,seval];refine aF _ _ ?_;refine aA fun Ψ1 aE aL=>?_;refine aA fun Ψ2 aI bH=>?_;by_cases e1:G.bs b=1
 ·rw[if_pos e1] at hΦ;simp only[lK,seval,H.l0,q1,q2,and_self,bQ,Int.toNat_natCast,Nat.zero_add,l,e1];refine aI _ _ ?_;simp only[lK,seval];refine aL _ _ _ (by simp) ?_;simp only[lK,seval];exact hΦ
 have e1':(G.bs b==1)=false:=by simpa using e1
 rw[if_neg e1] at hΦ;simp only[lK,seval,H.l0,q1,q2,and_self,bQ,Int.toNat_natCast,Nat.zero_add,l,e1'];refine aI _ _ ?_;simp only[lK,seval];refine aE _ _ ?_;refine aA fun Ψ3 aN bM=>?_;refine aA fun Ψ4 aP cC=>?_;by_cases e2:G.bs b=2
 ·rw[if_pos e2] at hΦ;simp only[lK,seval,H.l0,q1,q2,and_self,bQ,Int.toNat_natCast,Nat.zero_add,l,e2];refine aP _ _ ?_;simp only[lK,seval];refine aN _ _ ?_;refine aA fun cU aZ cK=>?_;simp only[lK,seval];refine aZ _ _ ?_;refine aA fun dN bO cZ=>?_;refine cJ fun fE cG xU dX=>?_;obtain⟨T,hT⟩:∃ T,T=qW G.bs (b+1) (G.N-(b+1)):=⟨_,rfl⟩;rw[← hT] at hΦ;have E4:=SJ (bs:=G.bs) (p:=b+1) (d:=G.N-(b+1));rw[← hT] at E4;refine ZE (n:=T) (fun j a' s'=>a'.aB 0=ptr g∧a'.aB 1=int b∧a'.aB 5=int ((j+1:Nat))∧s'=s) ?_ ?_ ?_ (Nat.zero_le _) ?_
  ·rintro j a' s' hj ⟨r0,r1,r5,rfl⟩ aV bP;have w:IntKind.i64.wrap ((b:Int)+((j+1:Nat):Int))=((b+1+j:Nat):Int):=by rw[aU (by omega) (by omega)];omega
   have p1:(0:Int)≤((b+1+j:Nat):Int):=Int.natCast_nonneg _;refine cL [(9,33)] (by kernel_rfl) fun O hO bC hR=>?_;have y9:∀ a,aO O a 9=aY (a.aB 33):=hO (9,33) (by simp);by_cases hb:b+1+j<G.N
   ·have p2:((b+1+j:Nat):Int)<(G.N:Int):=by omega
    have lj:=H.lb (i:=b+1+j) hb;simp only[lK,seval,y9,r0,r1,r5,w,H.l0,p1,p2,and_self,bQ,Int.toNat_natCast,Nat.zero_add,lj,decide_true];refine hR _ _ (bP _ _ (G.bs (b+1+j)==3) ?_ ?_ ⟨?_,?_,?_,rfl⟩)
    ·simp only[lK,seval]
    ·rw[beq_iff_eq];constructor
     ·intro h;rcases Nat.lt_or_ge j T with h' | h'
      ·exact h'
      ·obtain rfl:j=T:=by omega
       have:=br (bs:=G.bs) (p:=b+1) (d:=G.N-(b+1)) (by rw[← hT];omega);rw[← hT] at this;exact absurd h this
     ·intro h;exact bt (bs:=G.bs) (p:=b+1) (d:=G.N-(b+1)) (by rw[← hT];exact h)
    ·simp only[lK,seval,r0]
    ·simp only[lK,seval,r1]
    ·simp only[lK,seval,r5]
   ·have p2:¬ ((b+1+j:Nat):Int)<(G.N:Int):=by omega
    simp only[lK,seval,y9,r0,r1,r5,w,H.l0,p2,decide_false];refine hR _ _ (bP _ _ false ?_ ?_ ⟨?_,?_,?_,rfl⟩)
    ·simp only[lK,seval]
    ·constructor
     ·intro h;cases h
     ·intro h;omega
    ·simp only[lK,seval,r0]
    ·simp only[lK,seval,r1]
    ·simp only[lK,seval,r5]
  ·rintro j a' s' hj ⟨r0,r1,r5,rfl⟩ aV w1 w2 w3;have w:IntKind.i64.wrap (((j+1:Nat):Int)+1)=((j+1+1:Nat):Int):=by rw[aU (by omega) (by omega)];rfl
   simp only[lK,seval,r5,w];refine w1 _ _ ⟨?_,?_,?_,rfl⟩
   all_goals try simp only[lK,seval,r0,r1]
  ·rintro a' s' ⟨r0,r1,r5,rfl⟩;refine xU _ _ (bO _ _ ?_);simp only[lK,seval,r5];exact hΦ
  ·refine⟨?_,?_,?_,rfl⟩
   all_goals try simp only[lK,seval]
   try rfl
 ·have DJ:(G.bs b==2)=false:=by simpa using e2
  rw[if_neg e2] at hΦ;simp only[lK,seval,H.l0,q1,q2,and_self,bQ,Int.toNat_natCast,Nat.zero_add,l,DJ];refine aP _ _ ?_;simp only[lK,seval];refine bM _ _ _ (by simp) ?_;simp only[lK,seval];exact hΦ
end
open Go.Proofs
set_option maxRecDepth 100000
set_option maxHeartbeats 2000000
section
variable {kc:Kc} {q:Bool} {s:St} {Φ:Value→St→Prop} {g:Nat} {G:dI} {P:PH}
def dI.fill (G:dI) (p k:Nat) (x y:Int):dI:={G with bs:=fun j=>if p≤j∧j<p+k then x else G.bs j,bp:=fun j=>if p≤j∧j<p+k then y else G.bp j}
theorem dI.h_ (G:dI) (p j:Nat) (u v:Int):G.fill p (j+1) u v={G.fill p j u v with bs:=dM (G.fill p j u v).bs (p+j) u,bp:=dM (G.fill p j u v).bp (p+j) v}:=by
 unfold dI.fill dM;congr 1
 ·funext i;by_cases h1:i=p+j
  ·subst h1;simp
  ·simp only[h1,if_false];by_cases h2:p≤i∧i<p+j
   ·rw[if_pos h2,if_pos (by omega)]
   ·rw[if_neg h2,if_neg (by omega)]
 ·funext i;by_cases h1:i=p+j
  ·subst h1;simp
  ·simp only[h1,if_false];by_cases h2:p≤i∧i<p+j
   ·rw[if_pos h2,if_pos (by omega)]
   ·rw[if_neg h2,if_neg (by omega)]
theorem dI.i_ (G:dI) (p:Nat) (u v:Int):G.fill p 0 u v=G:=by
 unfold dI.fill;have:∀ j:Nat,¬ (p≤j∧j<p+0):=fun j=>by omega
 simp only[this,if_false]
theorem jX:type_of% (B9 @RX @nM @nU @rV @vX @zS @bG @JX (B2 @bl @lD)):=B9 @RX @nM @nU @rV @vX @zS @bG @JX (B2 @bl @lD)
theorem aE5 (hs:Ok s) (H:cM s g G) {p m:Nat} {y:Int} (h1:1≤p) (hm:1≤m) (h2:p+m≤G.N) (h3:0≤y∧y<8) (h4:∀ j,p≤j→j<p+m→G.bs j=0) (hΦ:∀ s',cM s' g {G.fill p m 3 y with bs:=dM (G.fill p m 3 y).bs p 2}→aC [G.bn] s s'→Φ (int 0) s'):okF q X (KO kc) 211 [ptr g,int p,int m,int y] s Φ:=by
 have bY:=H.bY;have q0:(1:Int)≤(p:Int)∧(p:Int)<(G.N:Int):=by omega
 have q3:¬ ((m:Int)<1):=by omega
 have w0:IntKind.i64.wrap ((G.N:Int)-(p:Int))=(G.N:Int)-(p:Int):=by rw[aU (by omega) (by omega)]
 have q4:¬ ((m:Int)>(G.N:Int)-(p:Int)):=by omega
 have To:IntKind.i64.wrap ((p:Int)+(m:Int))=((p+m:Nat):Int):=by rw[aU (by omega) (by omega)];rfl
 refine aW Tryz.func211 (by kernel_rfl) rfl rfl (rs:=[.tmp 8]) rfl (N:=78) rfl rfl ?_;refine aA fun bF aF bD=>?_;simp only[jX,seval];refine aF _ _ ?_;refine aA fun Ψ1 aE aL=>?_;refine aA fun Ψ2 aI bH=>?_;simp only[jX,seval];refine aH ?_ (AW H ?_)
 ·simp only[jX,seval]
 try simp only[jX,seval]
 refine aI _ _ ?_;simp only[jX,seval];refine aE _ _ ?_;refine aA fun Ψ3 aN bM=>?_;refine aA fun Ψ4 aP cC=>?_;refine cL [(4,18),(8,22),(19,33)] (by kernel_rfl) fun O hO bC hR=>?_;have y4:∀ a,aO O a 4=aY (a.aB 18):=hO (4,18) (by simp);have y8:∀ a,aO O a 8=aY (a.aB 22):=hO (8,22) (by simp);have DA:∀ a,aO O a 19=aY (a.aB 33):=hO (19,33) (by simp);simp only[jX,seval];refine aH ?_ (Mz H p ?_)
 ·simp only[jX,seval]
 simp only[jX,seval,y4,y8,DA,q0,and_self,decide_true,q3,decide_false,H.l0,w0,q4];refine aH ?_ (Na y ?_)
 ·simp only[jX,seval]
 try simp only[jX,seval,DA,h3,and_self,decide_true]
 refine hR _ _ (aP _ _ ?_);simp only[jX,seval];refine aN _ _ ?_;refine aA fun cU aZ cK=>?_;refine aA fun dN bO cZ=>?_;simp only[jX,seval];refine bO _ _ ?_;refine cJ fun fE cG xU dX=>?_;refine gB (n:=m) (fun j a' s'=>a'.aB 0=ptr g∧a'.aB 1=int p∧a'.aB 2=int m∧a'.aB 3=int y∧a'.aB 9=int ((p+j:Nat))∧s'=s)
  (fun j a' s'=>a'.aB 0=ptr g∧a'.aB 1=int p∧a'.aB 2=int m∧a'.aB 3=int y∧a'.aB 9=int ((p+j:Nat))∧s'=s) ?_ ?_ ?_ ?_ (Nat.zero_le _) ?_
 ·rintro j a' s' hj ⟨r0,r1,r2,r3,r9,rfl⟩ aV bP;simp only[jX,seval,r9,r1,r2,To];refine bP _ _ (decide (((p+j:Nat):Int)<((p+m:Nat):Int))) ?_ (by rw[decide_eq_true_eq];omega) ⟨?_,?_,?_,?_,?_,rfl⟩
  all_goals simp only[jX,seval,r0,r1,r2,r3,r9]
 ·rintro j a' s' hj ⟨r0,r1,r2,r3,r9,rfl⟩ aV w1 w2 w3;have p1:(0:Int)≤((p+j:Nat):Int):=Int.natCast_nonneg _;have p2:((p+j:Nat):Int)<(G.N:Int):=by omega
  have lj:=H.lb (i:=p+j) (by omega);rw[h4 (p+j) (by omega) (by omega)] at lj;refine aA fun gV cT gA=>?_;simp only[jX,seval,r0,r9,H.l0,p1,p2,and_self,bQ,Int.toNat_natCast,Nat.zero_add,lj];refine cT _ _ ?_;simp only[jX,seval];refine w1 _ _ ⟨?_,?_,?_,?_,?_,rfl⟩
  all_goals simp only[jX,seval,r0,r1,r2,r3,r9]
 ·rintro j a' s' hj ⟨r0,r1,r2,r3,r9,rfl⟩ aV w1;have w:IntKind.i64.wrap (((p+j:Nat):Int)+1)=((p+(j+1):Nat):Int):=by rw[aU (by omega) (by omega)];rfl
  simp only[jX,seval,r9,w];refine w1 _ _ ⟨?_,?_,?_,?_,?_,rfl⟩
  all_goals try simp only[jX,seval,r0,r1,r2,r3]
 ·rintro a' s' ⟨r0,r1,r2,r3,r9,rfl⟩;refine xU _ _ (aZ _ _ ?_);refine aA fun jC dK iK=>?_;refine aA fun lO eG kY=>?_;simp only[jX,seval,r1];refine eG _ _ ?_;refine cJ fun rE jI BO pS=>?_;refine gB (n:=m) (fun j a' s1=>a'.aB 0=ptr g∧a'.aB 1=int p∧a'.aB 2=int m∧a'.aB 3=int y∧a'.aB 10=int ((p+j:Nat))∧cM s1 g (G.fill p j 3 y)∧aC [G.bn] s' s1)
   (fun j a' s1=>a'.aB 0=ptr g∧a'.aB 1=int p∧a'.aB 2=int m∧a'.aB 3=int y∧a'.aB 10=int ((p+j:Nat))∧cM s1 g (G.fill p (j+1) 3 y)∧aC [G.bn] s' s1) ?_ ?_ ?_ ?_ (Nat.zero_le _) ?_
  ·rintro j a' s1 hj ⟨r0,r1,r2,r3,cH,H1,hk⟩ aV bP;simp only[jX,seval,cH,r1,r2,To];refine bP _ _ (decide (((p+j:Nat):Int)<((p+m:Nat):Int))) ?_ (by rw[decide_eq_true_eq];omega) ⟨?_,?_,?_,?_,?_,H1,hk⟩
   all_goals simp only[jX,seval,r0,r1,r2,r3,cH]
  ·rintro j a' s1 hj ⟨r0,r1,r2,r3,cH,H1,hk⟩ aV w1 w2 w3;have p1:(0:Int)≤((p+j:Nat):Int):=Int.natCast_nonneg _;have p2:((p+j:Nat):Int)<(G.N:Int):=by omega
   have l0:aG s1.look ⟨g,0,none⟩=some (.slice (some ⟨G.bn,0,none⟩) G.N G.N):=H1.l0;obtain⟨s2,e2,H2,k2⟩:=H1.setBlock hk.ok (j:=p+j) (show p+j<G.N by omega) 3 y;have e2:dS s1 ⟨G.bn,(p+j)*2,none⟩ [int 3,int y]=some s2:=e2;rw[← dI.h_] at H2;simp only[jX,seval,r0,r3,cH,l0,p1,p2,and_self,bQ,Int.toNat_natCast,Nat.zero_add,e2];refine w1 _ _ ⟨?_,?_,?_,?_,?_,H2,hk.trans k2⟩
   all_goals simp only[jX,seval,r0,r1,r2,r3,cH]
  ·rintro j a' s1 hj ⟨r0,r1,r2,r3,cH,H1,hk⟩ aV w1;have w:IntKind.i64.wrap (((p+j:Nat):Int)+1)=((p+(j+1):Nat):Int):=by rw[aU (by omega) (by omega)];rfl
   simp only[jX,seval,cH,w];refine w1 _ _ ⟨?_,?_,?_,?_,?_,H1,hk⟩
   all_goals try simp only[jX,seval,r0,r1,r2,r3]
  ·rintro a' s1 ⟨r0,r1,r2,r3,cH,H1,hk⟩;refine BO _ _ (dK _ _ ?_);have p1:(0:Int)≤(p:Int):=Int.natCast_nonneg _;have p2:(p:Int)<(G.N:Int):=by omega
   have l0:aG s1.look ⟨g,0,none⟩=some (.slice (some ⟨G.bn,0,none⟩) G.N G.N):=H1.l0;obtain⟨s2,e2,H2,k2⟩:=H1.setState hk.ok (j:=p) (show p<G.N by omega) 2;have e2:dS s1 ⟨G.bn,p*2,none⟩ [int 2]=some s2:=e2;refine aA fun sF iY rQ=>?_;simp only[jX,seval,r0,r1,l0,p1,p2,and_self,bQ,Int.toNat_natCast,Nat.zero_add,e2];refine iY _ _ ?_;simp only[jX,seval];exact hΦ s2 H2 (hk.trans k2)
  ·refine⟨?_,?_,?_,?_,?_,by rw[dI.i_];exact H,.refl hs⟩
   all_goals try simp only[jX,seval,r0,r1,r2,r3]
   try rfl
 ·refine⟨?_,?_,?_,?_,?_,rfl⟩
  all_goals try simp only[jX,seval]
  try rfl
end
open Go.Proofs
set_option maxRecDepth 100000
set_option maxHeartbeats 4000000
section
variable {kc:Kc} {q:Bool} {s:St} {Φ:Value→St→Prop} {g:Nat} {G:dI} {P:PH}
theorem ia {a n b:Int} (h:a<0∨a≥64*P.N∨a%2≠0):P.pA a n b=1:=by unfold PH.pA;rw[if_pos h]
theorem ON {a n b:Int} (h0:¬ (a<0∨a≥64*P.N∨a%2≠0)) (h:if n≤32 then P.bs (a/64).toNat≠1∨(a+n-1)/64≠a/64 else P.bs (a/64).toNat≠2∨a%64≠0∨(P.span (a/64).toNat:Int)≠(n+63)/64):P.pA a n b=5:=by
 unfold PH.pA;rw[if_neg h0,if_pos h]
theorem l9 {a n b:Int} (h0:¬ (a<0∨a≥64*P.N∨a%2≠0)) (h:¬ if n≤32 then P.bs (a/64).toNat≠1∨(a+n-1)/64≠a/64 else P.bs (a/64).toNat≠2∨a%64≠0∨(P.span (a/64).toNat:Int)≠(n+63)/64):P.pA a n b=if P.kQ a b ((n+1)/2).toNat=true then 8 else 0:=by
 unfold PH.pA;rw[if_neg h0,if_neg h]
theorem dB:type_of% (B9 @RX @nM @nU @rV @gL @vX @zS @bG (B9 @kX @lA @wC @nS @AJ @DE @FE @VA (B2 @vM @zO))):=B9 @RX @nM @nU @rV @gL @vX @zS @bG (B9 @kX @lA @wC @nS @AJ @DE @FE @VA (B2 @vM @zO))
theorem aEt (hs:Ok s) (H:cM s g G) (S:iW P G) (I:P.Inv) (a:Int) (ha:i64 a) (x:cO) (hx:x.valid=true) (hΦ:∀ s',aC [] s s'→Φ (int (P.pA a x.words (-1))) s'):okF q X (KO kc) 216 [ptr g,int a,pK x,int 0] s Φ:=by
 have bY:=H.bY;have hN:=S.N;have hw:=cO.uC hx;have mo:=x.CZ;have hlen:=H.len;have GG:=I.bX;have wN:IntKind.i64.wrap ((G.N:Int)*64)=(G.N:Int)*64:=aU (by omega) (by omega);refine aW Tryz.func216 (by kernel_rfl) rfl rfl (rs:=[.tmp 8]) rfl (N:=113) rfl rfl ?_;refine aA fun bF aF bD=>?_;simp only[dB,seval];obtain⟨s1,e1,k1,c1,n1⟩:=cI hs (L:=[int x.r,int x.d,int x.k]) (n:=3) (e:=44) rfl;rw[e1];refine aF _ _ ?_;have H1:=H.aJ k1;have BY:=c1.bI (i:=0) (k:=3) (Nat.le_refl _);refine aA fun Ψ1 aE aL=>?_;refine aA fun Ψ2 aI bH=>?_;refine cL [(2,14),(7,19)] (by kernel_rfl) fun O hO bC hR=>?_;have y2:∀ a,aO O a 2=aY (a.aB 14):=hO (2,14) (by simp);have y7:∀ a,aO O a 7=aY (a.aB 19):=hO (7,19) (by simp);by_cases g1:a<0
 ·rw[ia (.inl g1)] at hΦ;simp only[dB,seval,y2,y7,g1,decide_true];refine hR _ _ (aI _ _ ?_);simp only[dB,seval];refine aL _ _ _ (by simp) ?_;simp only[dB,seval];exact hΦ _ k1
 have tm:a.tmod 2=a%2:=Int.tmod_eq_emod_of_nonneg (by omega);by_cases g2:a%2=0
 ·by_cases g3:a≥(G.N:Int)*64
  ·rw[ia (.inr (.inl (by omega)))] at hΦ;simp only[dB,seval,y2,y7,g1,tm,g2,H1.l0,wN,g3,decide_true,decide_false];refine hR _ _ (aI _ _ ?_);simp only[dB,seval];refine aL _ _ _ (by simp) ?_;simp only[dB,seval];exact hΦ _ k1
  have h0:¬ (a<0∨a≥64*P.N∨a%2≠0):=by omega
  simp only[dB,seval,y2,y7,g1,tm,g2,H1.l0,wN,g3,decide_false];refine hR _ _ (aI _ _ ?_);simp only[dB,seval];refine aE _ _ ?_;have td:IntKind.i64.wrap (a.tdiv 64)=((a/64).toNat:Int):=by rw[Int.tdiv_eq_ediv_of_nonneg (by omega),aU (by omega) (by omega)];omega
  obtain⟨b,hb⟩:∃ b,b=(a/64).toNat:=⟨_,rfl⟩;rw[← hb] at td;have GV:b<G.N:=by omega
  have q1:(0:Int)≤(b:Int):=Int.natCast_nonneg _;have q2:(b:Int)<(G.N:Int):=by omega
  refine aA fun Ψ3 aN bM=>?_;simp only[dB,seval,td];refine aN _ _ ?_;refine aA fun Ψ4 aP cC=>?_;refine aA fun cU aZ cK=>?_;simp only[dB,seval,BY,List.drop_zero,List.take];refine aH ?_ (sf k1.ok x fun s2 k2=>?_)
  ·simp only[dB,seval]
  simp only[dB,seval];refine aZ _ _ ?_;have dD:=k1.trans k2;have H2:=H1.aJ k2;have c2:=c1.aD k2 (by simp);have BZ:=c2.bI (i:=0) (k:=3) (Nat.le_refl _);have l2:=H2.lb (i:=b) GV;have rest:∀ (a':aK) (s':St),(¬ if x.words≤32 then P.bs (a/64).toNat≠1∨(a+x.words-1)/64≠a/64 else P.bs (a/64).toNat≠2∨a%64≠0∨(P.span (a/64).toNat:Int)≠(x.words+63)/64) →
    a'.aB 0=ptr g→a'.aB 1=int a→a'.aB 3=int 0→a'.aB 6=ptr s.next→aC [] s2 s'→Ψ4 .normal a' s':=by
   intro a' s' hst r0 r1 r3 r6 hk;rw[l9 h0 hst] at hΦ;have kQ:=PH.Eu GG (a:=a) (n:=x.words) g2 (by omega) mo.2.2 (by omega);refine aP _ _ ?_;have XI:=dD.trans hk;have aIq:=(c2.aD hk (by simp)).bI (i:=0) (k:=3) (Nat.le_refl _);have H3:=H2.aJ hk;refine aA fun dN bO cZ=>?_;refine aA fun fE cG dX=>?_;simp only[dB,seval];refine cG _ _ ?_;refine cJ fun gV cT tQ gA=>?_;refine gB (n:=G.L.length) (fun j a' s3=>a'.aB 0=ptr g∧a'.aB 1=int a∧a'.aB 3=int 0∧a'.aB 6=ptr s.next∧a'.aB 10=int j∧aC [] s' s3∧∀ k (hk:k<G.L.length),k<j→¬ (G.L[k].a<a+x.words∧a<G.L[k].a+P.size G.L[k].a))
    (fun j a' s3=>a'.aB 0=ptr g∧a'.aB 1=int a∧a'.aB 3=int 0∧a'.aB 6=ptr s.next∧a'.aB 10=int j∧aC [] s' s3∧∀ k (hk:k<G.L.length),k<j+1→¬ (G.L[k].a<a+x.words∧a<G.L[k].a+P.size G.L[k].a)) ?_ ?_ ?_ ?_ (Nat.zero_le _) ?_
   ·rintro j a' s3 hj ⟨r0,r1,r3,r6,cH,hk3,hn⟩ aV bP;simp only[dB,seval,r0,cH,(H3.aJ hk3).l1];refine bP _ _ (decide ((j:Int)<G.L.length)) ?_ (by simp) ⟨?_,?_,?_,?_,?_,hk3,hn⟩
    all_goals simp only[dB,seval,r0,r1,r3,r6,cH]
   ·rintro j a' s3 hj ⟨r0,r1,r3,r6,cH,hk3,hn⟩ aV w1 w2 w3;have H4:=H3.aJ hk3;obtain⟨vb,dW,hv⟩:=H4.addr (show 0<G.L.length by omega);have p1:(0:Int)≤(j:Int):=Int.natCast_nonneg _;have p2:(j:Int)<((G.L.length:Nat):Int):=by omega
    have l1:=H4.l1;rw[hv] at l1;have lN:=H4.lN hv hj;obtain⟨o,ho⟩:∃ o,o=G.L[j]:=⟨_,rfl⟩;rw[← ho] at lN;have WU:o∈G.L:=by rw[ho];exact List.getElem_mem _
    have WT:=S.L.has WU;have hok:=S.L.ok o WU;have hsz:P.size o.a=o.sh.words:=by unfold PH.size;rw[hok.sh]
    have BN:=(GG.val _ WT).1;rw[← hok.sh] at BN;have aI9:=PH.size_pos GG WT;have xK:=I.id _ WT;rw[← hok.id] at xK;have Jy:=I.bY;refine aA fun jC dK iK=>?_;obtain⟨t1,e1',u1,d1,v1⟩:=cI hk3.ok (L:=[int 0,int 0,int 0,int 0,int 0,.slice none 0 0,.slice none 0 0,.bool false]) (n:=8) (e:=133) rfl;obtain⟨t2,DJ,d2,u2⟩:=d1.storeAll u1.ok (vs:=o.C) rfl rfl;have pM:aC [] s3 t2:=u1.step u2 fun y hy=>.inr (by rw[List.mem_singleton.1 hy];exact hk3.ok.fresh _ (Nat.le_refl _));unfold cS.C at DJ lN;simp only[dB,seval,r0,cH,l1,p1,p2,and_self,bQ,Int.toNat_natCast,lN];rw[e1',DJ];simp only[dB,seval];refine dK _ _ ?_;have la:aG t2.look ⟨s3.next,0,none⟩=some (int o.a):=d2.load rfl;have li:aG t2.look ⟨s3.next,1,none⟩=some (int o.id):=d2.load rfl;have ls:bI t2.look ⟨s3.next,2,none⟩ 3=some [int o.sh.r,int o.sh.d,int o.sh.k]:=d2.bI (i:=2) (k:=3) (by simp[cS.C]);have kB:=hk3.trans pM;have QS:bI t2.look ⟨s.next,0,none⟩ 3=some [int x.r,int x.d,int x.k]:=((c2.aD hk (by simp)).aD kB (by simp)).bI (i:=0) (k:=3) (Nat.le_refl _);have Q_:(o.id==0)=false:=by rw[beq_eq_false_iff_ne];omega
    have wx:IntKind.i64.wrap (a+x.words)=a+x.words:=aU (by omega) (by omega);have wo:IntKind.i64.wrap (o.a+o.sh.words)=o.a+o.sh.words:=aU (by omega) (by omega);refine aA fun lO eG kY=>?_;refine dG [(6,9),(16,19)] [s3.next] [(4,94),(13,103)] (by kernel_rfl) (by kernel_rfl) (by rfl) fun O hO bC hR=>?_;have y4:∀ a,aO O a 4=aY (a.aB 94):=hO (4,94) (by simp);have iV:∀ a,aO O a 13=aY (a.aB 103):=hO (13,103) (by simp);simp only[dB,seval,y4,li,r3,Q_,la,r1,r6,QS];refine dL ?_ (IP (pM.ok.skip _) x fun s5 k5=>?_)
    ·simp only[dB,seval]
    have u5:aC [] t2 s5:=(aC.skip pM.ok _).trans k5;have d5:=d2.aD u5 (by simp);have la5:aG s5.look ⟨s3.next,0,none⟩=some (int o.a):=d5.load rfl;have ls5:bI s5.look ⟨s3.next,2,none⟩ 3=some [int o.sh.r,int o.sh.d,int o.sh.k]:=d5.bI (i:=2) (k:=3) (by simp[cS.C]);have fZ:fJ (t2.skip 46) s5 s3.next=true:=(d2.aD (aC.skip (F:=[]) pM.ok _) (by simp)).same (pM.ok.skip _) k5 (by simp);by_cases VX:o.a<a+x.words
    ·simp only[dB,seval,y4,iV,wx,VX,decide_true,la5,ls5,r1];refine⟨eP fZ fO,?_⟩;refine dL ?_ (IP u5.ok o.sh fun s6 k6=>?_)
     ·simp only[dB,seval]
     have Fv:fJ s5 s6 s3.next=true:=d5.same u5.ok k6 (by simp);have HC:=(kB.trans u5).trans k6;by_cases hc2:a<o.a+o.sh.words
     ·simp only[dB,seval,iV,wo,hc2,decide_true];refine⟨eP Fv fO,hR _ _ (eG _ _ ?_)⟩;simp only[dB,seval];refine w3 _ _ _ (by simp) (by simp) (gA _ _ _ (by simp) (by simp) (cZ _ _ _ (by simp) ?_));simp only[dB,seval];have hh:P.kQ a (-1) ((x.words+1)/2).toNat=true:=kQ.2 ⟨o.a,WT,VX,by rw[hsz];exact hc2⟩;rw[if_pos hh] at hΦ;exact hΦ _ (XI.trans HC)
     ·simp only[dB,seval,iV,wo,hc2,decide_false];refine⟨eP Fv fO,hR _ _ (eG _ _ ?_)⟩;simp only[dB,seval];refine w1 _ _ ⟨?_,?_,?_,?_,?_,HC,fun k EA WL=>?_⟩
      ·simp only[dB,seval,r0]
      ·simp only[dB,seval,r1]
      ·simp only[dB,seval,r3]
      ·simp only[dB,seval,r6]
      ·simp only[dB,seval,cH]
      ·by_cases e:k=j
       ·subst e;rw[← ho,hsz];exact fun h=>hc2 h.2
       ·exact hn k EA (by omega)
    ·simp only[dB,seval,y4,iV,wx,VX,decide_false];refine⟨eP fZ fO,hR _ _ (eG _ _ ?_)⟩;simp only[dB,seval];refine w1 _ _ ⟨?_,?_,?_,?_,?_,kB.trans u5,fun k EA WL=>?_⟩
     ·simp only[dB,seval,r0]
     ·simp only[dB,seval,r1]
     ·simp only[dB,seval,r3]
     ·simp only[dB,seval,r6]
     ·simp only[dB,seval,cH]
     ·by_cases e:k=j
      ·subst e;rw[← ho];exact fun h=>VX h.1
      ·exact hn k EA (by omega)
   ·rintro j a' s3 hj ⟨r0,r1,r3,r6,cH,hk3,hn⟩ aV w1;have w:IntKind.i64.wrap ((j:Int)+1)=((j+1:Nat):Int):=by rw[aU (by omega) (by omega)];rfl
    simp only[dB,seval,cH,w];refine w1 _ _ ⟨?_,?_,?_,?_,?_,hk3,hn⟩
    all_goals try simp only[dB,seval,r0,r1,r3,r6]
   ·rintro a' s3 ⟨r0,r1,r3,r6,cH,hk3,hn⟩;refine tQ _ _ (bO _ _ ?_);have hh:¬ P.kQ a (-1) ((x.words+1)/2).toNat=true:=fun h=>by
     obtain⟨o,ho,h1,h2⟩:=kQ.1 h;obtain⟨u,hu,rfl⟩:=S.L.mem.2 ho;obtain⟨i,hi,rfl⟩:=List.mem_iff_getElem.1 hu;exact hn i hi hi ⟨h1,h2⟩
    rw[if_neg hh] at hΦ;simp only[dB,seval];exact hΦ _ (XI.trans hk3)
   ·refine⟨?_,?_,?_,?_,?_,.refl hk.ok,fun k hk h=>absurd h (Nat.not_lt_zero _)⟩
    all_goals try simp only[dB,seval,r0,r1,r3,r6]
    try rfl
  by_cases hl:x.words>32
  ·have hl':¬ x.words≤32:=by omega
   have ue:a.tmod 64=a%64:=Int.tmod_eq_emod_of_nonneg (by omega);simp only[if_neg hl'] at rest;simp only[dA,RV,RG,seval,hl,decide_true];refine aA fun FR nQ zZ=>?_;refine dG [(18,17)] [s.next] [(3,36),(14,47)] (by kernel_rfl) (by kernel_rfl) (by rfl) fun O hO bC hR=>?_;have y3:∀ a,aO O a 3=aY (a.aB 36):=hO (3,36) (by simp);have oV:∀ a,aO O a 14=aY (a.aB 47):=hO (14,47) (by simp);by_cases e1:a%64=0
   ·have e1':(a%64==0)=true:=by simpa using e1
    by_cases e2:G.bs b=2
    ·simp only[dB,seval,y3,oV,ue,e1',H2.l0,q1,q2,and_self,bQ,Int.toNat_natCast,Nat.zero_add,l2,e2,beq_self_eq_true];have Yy:¬ G.bs b=1:=by omega
     have hsp:P.span b=qW G.bs (b+1) (G.N-(b+1))+1:=by
      unfold PH.span;rw[← S.bs,if_pos e2,S.N]
     have ks:aC [] s2 (s2.skip 44):=aC.skip k2.ok _;have fZ:fJ (s2.skip 44) (s2.skip 44) s.next=true:=(c2.aD ks (by simp)).same ks.ok (.refl ks.ok) (F:=[]) (by simp);refine dL ?_ (aEr (H2.aJ ks) GV ?_)
     ·simp only[dB,seval]
     rw[if_neg Yy,if_pos e2,← hsp];simp only[dB,seval,oV,BZ,List.drop_zero,List.take];refine⟨eP fZ fO,?_⟩;refine dL ?_ (sg ks.ok x fun s3 k3=>?_)
     ·simp only[dB,seval]
     have lV:=ks.trans k3;by_cases e3:(P.span b:Int)=(x.words+63)/64
     ·simp only[dB,seval,oV,e3,beq_self_eq_true];refine hR _ _ (nQ _ _ ?_);simp only[dB,seval];refine rest _ _ (by rw[← hb,← S.bs];omega) ?_ ?_ ?_ ?_ lV
      all_goals simp only[dB,seval]
     ·have OK:((P.span b:Int)==(x.words+63)/64)=false:=by simpa using e3
      rw[ON h0 (by rw[if_neg hl',← hb];exact .inr (.inr e3))] at hΦ;simp only[dB,seval,oV,OK];refine hR _ _ (nQ _ _ ?_);simp only[dB,seval];refine cC _ _ _ (by simp) ?_;simp only[dB,seval];exact hΦ _ (dD.trans lV)
    ·have DJ:(G.bs b==2)=false:=by simpa using e2
     rw[ON h0 (by rw[if_neg hl',← hb,← S.bs];exact .inl e2)] at hΦ;simp only[dB,seval,y3,oV,ue,e1',H2.l0,q1,q2,and_self,bQ,Int.toNat_natCast,Nat.zero_add,l2,DJ];refine hR _ _ (nQ _ _ ?_);simp only[dB,seval];refine cC _ _ _ (by simp) ?_;simp only[dB,seval];exact hΦ _ (dD.kI _)
   ·have e1':(a%64==0)=false:=by simpa using e1
    rw[ON h0 (by rw[if_neg hl'];exact .inr (.inl e1))] at hΦ;simp only[dB,seval,y3,oV,ue,e1'];refine hR _ _ (nQ _ _ ?_);simp only[dB,seval];refine cC _ _ _ (by simp) ?_;simp only[dB,seval];exact hΦ _ (dD.kI _)
  ·have hl':x.words≤32:=by omega
   simp only[if_pos hl'] at rest;simp only[dA,RV,RG,seval,hl,decide_false];refine aA fun FR nQ zZ=>?_;refine cL [(9,64)] (by kernel_rfl) fun O hO bC hR=>?_;have y9:∀ a,aO O a 9=aY (a.aB 64):=hO (9,64) (by simp);by_cases e2:G.bs b=1
   ·have wx:IntKind.i64.wrap (a+x.words)=a+x.words:=aU (by omega) (by omega);have Tq:IntKind.i64.wrap (a+x.words-1)=a+x.words-1:=aU (by omega) (by omega);have Sh:IntKind.i64.wrap ((a+x.words-1).tdiv 64)=(a+x.words-1)/64:=by rw[Int.tdiv_eq_ediv_of_nonneg (by omega),aU (by omega) (by omega)]
    simp only[dB,seval,y9,H2.l0,q1,q2,and_self,bQ,Int.toNat_natCast,Nat.zero_add,l2,e2,beq_self_eq_true,BZ,List.drop_zero,List.take];refine aH ?_ (IP k2.ok x fun s3 k3=>?_)
    ·simp only[dB,seval]
    by_cases e3:(a+x.words-1)/64=a/64
    ·have OK:((a+x.words-1)/64==(b:Int))=true:=by rw[beq_iff_eq,e3];omega
     simp only[dB,seval,y9,wx,Tq,Sh,OK];refine hR _ _ (nQ _ _ ?_);simp only[dB,seval];refine rest _ _ (by rw[← hb,← S.bs];omega) ?_ ?_ ?_ ?_ k3
     all_goals simp only[dB,seval]
    ·have OK:((a+x.words-1)/64==(b:Int))=false:=by rw[beq_eq_false_iff_ne];omega
     rw[ON h0 (by rw[if_pos hl'];exact .inr e3)] at hΦ;simp only[dB,seval,y9,wx,Tq,Sh,OK];refine hR _ _ (nQ _ _ ?_);simp only[dB,seval];refine cC _ _ _ (by simp) ?_;simp only[dB,seval];exact hΦ _ (dD.trans k3)
   ·have DJ:(G.bs b==1)=false:=by simpa using e2
    rw[ON h0 (by rw[if_pos hl',← hb,← S.bs];exact .inl e2)] at hΦ;simp only[dB,seval,y9,H2.l0,q1,q2,and_self,bQ,Int.toNat_natCast,Nat.zero_add,l2,DJ];refine hR _ _ (nQ _ _ ?_);simp only[dB,seval];refine cC _ _ _ (by simp) ?_;simp only[dB,seval];exact hΦ _ dD
 ·rw[ia (.inr (.inr g2))] at hΦ;have qI:(a%2==0)=false:=by simpa using g2
  simp only[dB,seval,y2,y7,g1,tm,qI,decide_false];refine hR _ _ (aI _ _ ?_);simp only[dB,seval];refine aL _ _ _ (by simp) ?_;simp only[dB,seval];exact hΦ _ k1
end
open Go.Proofs
set_option maxRecDepth 100000
set_option maxHeartbeats 1000000
namespace PH
variable {P:PH}
def CA (P:PH) (L:List dC):PH:=L.foldl (fun P f=>P.setRef f.2.1 f.2.2 0) P
theorem n_ (G:P.bX) {a i:Int} (h:P.dR a i false=0):P.Body a (P.dP a i false):=by
 obtain⟨h1,h2,h3⟩:=sN h;obtain⟨g1,g2,g3,g4,g5⟩:=qH G h;exact⟨h1,g2,g3⟩
theorem Inv.setRef (I:P.Inv) (a i to:Int):(P.setRef a i to).Inv:=by
 unfold PH.setRef;split
 ·rename_i h;unfold iN at h;split at h
  ·rename_i h1;exact I.eH (n_ I.bX h1)
  ·rename_i h1;exact absurd h h1
 ·exact I
theorem ax (P:PH) (a i to:Int):(P.setRef a i to).N=P.N∧(∀ b,(P.setRef a i to).has b=P.has b)∧∀ h,(P.setRef a i to).aS h=P.aS h∧(P.setRef a i to).nw=P.nw:=by
 unfold PH.setRef;split
 ·exact⟨rfl,fun _=>rfl,fun _=>⟨rfl,rfl⟩⟩
 ·exact⟨rfl,fun _=>rfl,fun _=>⟨rfl,rfl⟩⟩
theorem aBp (P:PH) (L:List dC) (f:dC):P.CA (L++[f])=(P.CA L).setRef f.2.1 f.2.2 0:=by
 unfold CA;rw[List.foldl_append];rfl
theorem aBo (L:List dC):∀ {P:PH},P.Inv→(P.CA L).Inv∧(P.CA L).N=P.N∧(∀ b,(P.CA L).has b=P.has b)∧∀ h,(P.CA L).aS h=P.aS h∧(P.CA L).nw=P.nw:=by
 induction L with
 | nil=>intro P I;exact⟨I,rfl,fun _=>rfl,fun _=>⟨rfl,rfl⟩⟩
 | cons f L ih =>
  intro P I;obtain⟨h1,h2,h3,h4⟩:=ih (I.setRef f.2.1 f.2.2 0);obtain⟨g1,g2,g3⟩:=P.ax f.2.1 f.2.2 0;exact⟨h1,h2.trans g1,fun b=>(h3 b).trans (g2 b),fun h=>⟨(h4 h).1.trans (g3 h).1,(h4 h).2.trans (g3 h).2⟩⟩
theorem d_ (hN:P.N≤64):∀ f∈P.qG,i64 f.2.1:=by
 intro f hf;unfold qG KR DT at hf;obtain⟨a,ha,hf⟩:=List.mem_flatMap.1 hf;obtain⟨i,hi,hf⟩:=List.mem_flatMap.1 hf;unfold OQ at hf;split at hf
 ·rw[List.mem_singleton.1 hf];exact DF P hN ha
 ·cases hf
end PH
theorem Ch (L:List dC) {j:Nat} (hj:j<L.length):((L.flatMap cE).drop (j*3)).take 3=cE L[j]:=by
 induction L generalizing j with
 | nil=>cases hj
 | cons p L ih =>
  cases j with
  | zero=>simp[cE]
  | succ j =>
   rw[List.flatMap_cons,List.drop_append,List.drop_of_length_le (by simp[cE];omega),List.nil_append,show (j+1)*3-(cE p).length=j*3 by simp[cE];omega];exact ih (by simpa using hj)
theorem q8 (L:List dC):(L.flatMap cE).length=L.length*3:=by
 induction L with
 | nil=>rfl
 | cons p L ih=>rw[List.flatMap_cons,List.length_append,ih,List.length_cons];simp[cE];omega
section
variable {kc:Kc} {q:Bool} {s:St} {Φ:Value→St→Prop} {h r:Nat} {P:PH} {R:PR}
theorem jW:type_of% (B9 @RX @MA @AD @AM @TK @NC @VD @bG (B8 @KP @wB @vW @kL @tG @tY @rJ @dV)):=B9 @RX @MA @AD @AM @TK @NC @VD @bG (B8 @KP @wB @vW @kL @tG @tY @rJ @dV)
theorem aH6 (hs:Ok s) (H:bK s h P) (A:cV s r R) (I:P.Inv) (hd:∀ x∈R.aS r,x∉P.aS h) (hr:R.all=[]) (hq:R.q=[])
  (hΦ:∀ s',aC [P.nw] s s'→Φ (.tuple #[int P.qG.length,int 0]) s'):okF q X (KO kc) 20 [ptr h,ptr r] s Φ:=by
 have G:=I.bX;have T_:P.AX R=[]:=by unfold PH.AX;rw[hr];rfl
 have pC:P.qG.length≤15*P.all.length:=PH.gu G P.all;have hal:=P.uI;have bY:=H.bY;refine aW Tryz.func20 (by kernel_rfl) rfl rfl (rs:=[.tmp 4,.tmp 5]) rfl (N:=96) rfl rfl ?_;refine aA fun bF aF bD=>?_;simp only[jW,seval];refine aF _ _ ?_;refine aA fun Ψ1 aE aL=>?_;simp only[jW,seval];refine aH ?_ (Tc hs H G ?_)
 ·simp only[jW,seval]
 rintro va vc s1 b1 PM k1
 try simp only[jW,seval]
 refine aE _ _ ?_;refine aA fun Ψ2 aI bH=>?_;simp only[jW,seval];refine aH ?_ (aH7 k1.ok (H.aJ k1) (A.aJ k1) ?_)
 ·simp only[jW,seval]
 rintro ra rc s2 b2 zY k2;rw[T_]
 try simp only[jW,seval]
 refine aI _ _ ?_;have dD:=k1.trans k2;refine aA fun Ψ3 aN bM=>?_;refine aA fun Ψ4 aP cC=>?_;refine cL [(2,31)] (by kernel_rfl) fun O hO bC hR=>?_;have y2:∀ a,aO O a 2=aY (a.aB 31):=hO (2,31) (by simp);simp only[jW,seval,y2];refine hR _ _ (aP _ _ ?_);simp only[jW,seval];refine aN _ _ ?_;refine aA fun cU aZ cK=>?_;refine aA fun dN bO cZ=>?_;simp only[jW,seval];refine bO _ _ ?_;obtain⟨L,hL⟩:∃ L,L=jP P.qG:=⟨_,rfl⟩;have KY:L.length=P.qG.length:=by rw[hL,OR]
 rw[← hL,← KY] at b1;rw[← KY] at PM hΦ;simp only[← KY];have ef:=b1.aD k2 (by simp);have uL:P.nw<s.next:=H.eM hs _ (by simp[PH.aS]);have Q8:P.nw∉R.aS r:=fun hm=>hd _ hm (by simp[PH.aS]);refine cJ fun fE cG xU dX=>?_;refine MJ 37 [11] [] (n:=L.length) (fun j _ s'=>bK s' h (P.CA (L.take j))∧aC [P.nw] s2 s') rfl (by omega) ?_ ?_ ⟨H.aJ dD,.refl dD.ok⟩ ?_ ?_
 ·simp only[jW,seval]
 ·simp only[jW,seval]
 ·rintro j a' s' hj hA hc ⟨hH,hk⟩ aV w w3;obtain⟨vb,dW,rfl⟩:=b1.sl.addr (show 0<L.length by omega);have g1:(0:Int)≤(j:Int):=Int.natCast_nonneg _;have g2:(j:Int)<((L.length:Nat):Int):=by omega
  have Fy:=PM vb (by simp[nameOf]);obtain⟨f,hf⟩:∃ f,f=L[j]:=⟨_,rfl⟩;have WD:f∈P.qG:=(KS P.qG).mem_iff.1 (by rw[hf,← hL];exact List.getElem_mem _);have lj:bI s'.look ⟨vb,dW+j*3,none⟩ 3=some [int f.1,int f.2.1,int f.2.2]:=by
   have:=(ef.sl.aD hk (fun b hb hb'=>by simp[nameOf] at hb hb';omega)).bI (i:=j*3) (k:=3) (by omega) (by rw[q8];omega);rw[Ch _ hj,← hf] at this;exact this
  have qJ:L.take (j+1)=L.take j++[f]:=by rw[List.take_add_one,List.getElem?_eq_getElem hj,hf];rfl
  obtain⟨Ij,Nj,aHv,q9⟩:=PH.aBo (L.take j) I;refine aA fun gV cT gA=>?_;obtain⟨t1,e1,u1,d1,v1⟩:=cI hk.ok (L:=[int 0,int 0,int 0]) (n:=3) (e:=51) rfl;obtain⟨t2,e2,d2,u2⟩:=d1.storeAll u1.ok (vs:=[int f.1,int f.2.1,int f.2.2]) rfl rfl;have pM:aC [] s' t2:=u1.step u2 fun g hg=>.inr (by rw[List.mem_singleton.1 hg];exact hk.ok.fresh _ (Nat.le_refl _));simp only[jW,seval,Nat.reduceLT,List.contains_cons,List.contains_nil,hA.get,hc,g1,g2,and_self,bQ,Int.toNat_natCast,lj];rw[e1,e2];simp only[jW,seval];refine cT _ _ ?_;have Jf:aG t2.look ⟨s'.next,1,none⟩=some (int f.2.1):=d2.load rfl;have YE:aG t2.look ⟨s'.next,2,none⟩=some (int f.2.2):=d2.load rfl;simp only[jW,seval,Nat.reduceLT,List.contains_cons,List.contains_nil,hA.get,Jf,YE];refine aH ?_ (jv pM.ok (hH.aJ pM) Ij.bX f.2.1 f.2.2 0 (PH.d_ H.bY f WD) ⟨by omega,by omega⟩ fun s4 H4 k4=>?_)
  ·simp only[jW,seval]
  simp only[jW,seval];rw[(q9 h).2] at k4;refine(w _ _ ?_ ?_ ⟨by rw[qJ,PH.aBp];exact H4,(hk.trans pM.any).trans k4⟩).1
  ·simp only[jW,seval,Nat.reduceLeDiff,List.contains_cons,List.contains_nil,tE,hA]
  ·simp only[jW,seval,hc]
 ·rintro a' s' hA ⟨hH,hk⟩;refine xU _ _ (aZ _ _ ?_);have A3:cV s' r R:=(A.aJ dD).aD hk fun x hx hx'=>Q8 (by rw[← List.mem_singleton.1 hx'];exact hx);refine aA fun jC dK iK=>?_;refine aA fun lO eG kY=>?_;simp only[jW,seval,Nat.reduceLT,List.contains_cons,List.contains_nil,hA.get];refine aH ?_ (ai hk.ok A3 ?_)
  ·simp only[jW,seval]
  rintro v s4 b4 ⟨pa,pc,rfl⟩ k4 Fg;rw[hr] at b4 ⊢
  try simp only[jW,seval]
  refine eG _ _ ?_;refine cJ fun rE jI BO pS=>?_;refine MJ 51 [13,14,15] [] (n:=0) (fun _ _ s'=>s'=s4) rfl (by omega) ?_ ?_ rfl (fun j _ _ hj=>absurd hj (Nat.not_lt_zero _)) ?_
  ·simp only[jW,seval]
  ·simp only[jW,seval]
  ·rintro a'' s' hB rfl;refine BO _ _ (dK _ _ ?_);refine aA fun sF iY rQ=>?_;refine aA fun DC pE ED=>?_;simp only[jW,seval,Nat.reduceLT,List.contains_cons,List.contains_nil,hB.get,hA.get];refine aH ?_ (Nq k4.ok (A3.aJ k4) ?_)
   ·simp only[jW,seval]
   rintro qa qc s6 hqa b6 k6 Fh;have P8:=A.lq;have nO:R.vn=0:=by rw[P8,hq];rfl
   try simp only[jW,seval,nO]
   refine pE _ _ ?_;refine cJ fun NU tP X3 LN=>?_;refine MJ 77 [16,17] [] (n:=0) (fun _ _ s'=>s'=s6) rfl (by omega) ?_ ?_ rfl (fun j _ _ hj=>absurd hj (Nat.not_lt_zero _)) ?_
   ·simp only[jW,seval]
   ·simp only[jW,seval]
   ·rintro a3 s' hC rfl;refine X3 _ _ (iY _ _ ?_);have w:IntKind.i64.wrap ((L.length:Int)+((0:Nat):Int))=(L.length:Int):=by rw[aU (by omega) (by omega)];omega
    have w0:IntKind.i64.wrap ((L.length:Int)+0)=(L.length:Int):=by rw[aU (by omega) (by omega)];omega
    simp only[jW,seval,Nat.reduceLT,List.contains_cons,List.contains_nil,hC.get,hB.get,hA.get,w0];exact hΦ _ (((dD.any.trans hk).trans k4.any).trans k6.any)
end
open Go.Proofs
set_option maxRecDepth 100000
set_option maxHeartbeats 4000000
theorem bJ.storeAt {s:St} {e:TypeId} {m b off n c i:Nat} {L:List Value} {v:Value} (h:bJ s e m (.slice (some ⟨b,off,none⟩) n c) L) (hs:Ok s) (hi:i<L.length) (h1:hZ v=true) :
  ∃ s',dS s ⟨b,off+i,none⟩ [v]=some s'∧bJ s' e m (.slice (some ⟨b,off,none⟩) n c) (L.set i v)∧aC [b] s s':=by
 cases h with
 | @own b off n c L0 L h hc hn hL hl =>
  have hnc:n*m≤c*m:=Nat.mul_le_mul_right _ hn;obtain⟨s',h2,h3,h4⟩:=h.fK hs (i:=off+i) (v:=v) (by omega) h1;refine⟨s',h2,.own h3 (by rw[List.length_set];exact hc) hn (by rw[List.length_set];exact hL) (fun j hj=>?_),h4⟩;rw[List.length_set] at hj;rw[List.getElem?_set,List.getElem?_set,hl j hj];by_cases hij:i=j
  ·subst hij;rw[if_pos rfl,if_pos rfl,if_pos (show off+i<L0.length by omega),if_pos hj]
  ·rw[if_neg hij,if_neg (by omega)]
theorem l_ {α:Type} {f:α→List Value} {m:Nat} (hf:∀ x,(f x).length=m) (L:List α) {i j:Nat} (hi:i<L.length) (hj:j<m) {y:α} {v:Value} (hy:f y=(f L[i]).set j v):(L.flatMap f).set (i*m+j) v=(L.set i y).flatMap f:=by
 have hlen:i*m+j<L.length*m:=by
  have:(i+1)*m≤L.length*m:=Nat.mul_le_mul_right _ hi;rw[Nat.succ_mul] at this;omega
 apply List.ext_getElem?;intro k;by_cases hk:k<L.length*m
 ·have hm:0<m:=by omega
  have hq:k/m<L.length:=(Nat.div_lt_iff_lt_mul hm).2 hk;have hr:k%m<m:=Nat.mod_lt _ hm;have e:k=k/m*m+k%m:=by have:=Nat.div_add_mod k m;rw[Nat.mul_comm] at this;omega
  rw[List.getElem?_set,vO hf,if_pos hlen];rw[e,zU hf L hq hr,zU hf (L.set i y) (by rw[List.length_set];exact hq) hr,List.getElem_set];by_cases hik:i=k/m
  ·subst hik;rw[if_pos rfl,hy,List.getElem?_set];by_cases WI:j=k%m
   ·subst WI;rw[if_pos rfl,if_pos rfl,if_pos (by rw[hf];exact hr)]
   ·rw[if_neg (by omega),if_neg WI]
  ·rw[if_neg hik,if_neg];intro h;apply hik;have h1:(i*m+j)/m=i:=by rw[Nat.mul_comm,Nat.mul_add_div hm,Nat.div_eq_of_lt hj];rfl
   have h2:(k/m*m+k%m)/m=k/m:=by rw[Nat.mul_comm,Nat.mul_add_div hm,Nat.div_eq_of_lt hr];rfl
   rw[← h1,h,h2]
 ·rw[List.getElem?_eq_none (by rw[List.length_set,vO hf];omega),List.getElem?_eq_none (by rw[vO hf,List.length_set];omega)]
theorem ie {α β:Type} {f:α→List β} {L:List α} {i:Nat} (hi:i<L.length) {y:α} (h:f y=f L[i]):(L.set i y).flatMap f=L.flatMap f:=by
 rw[List.flatMap_def,List.flatMap_def,List.map_set,h];congr 1;apply List.ext_getElem?;intro j;rw[List.getElem?_set];split
 ·rename_i e;subst e;rw[List.length_map,if_pos hi,List.getElem?_map,List.getElem?_eq_getElem hi];rfl
 ·try rfl
section
variable {kc:Kc} {q:Bool} {s:St} {Φ:Value→St→Prop} {g:Nat} {G:dI} {P:PH}
theorem cM.parts (H:cM s g G):(∀ o∈G.L,o.rn≠o.dn)∧G.L.Pairwise fun x y=>x.rn≠y.rn∧x.rn≠y.dn∧x.dn≠y.rn∧x.dn≠y.dn:=by
 have nd:=H.nd;unfold dI.own at nd;rw[List.nodup_cons,List.nodup_cons] at nd;have h:=nd.2.2;unfold List.Nodup at h;rw[List.pairwise_flatMap] at h;refine⟨fun o ho=>?_,h.2.imp fun{x y} h=>⟨h _ (by simp) _ (by simp),h _ (by simp) _ (by simp),h _ (by simp) _ (by simp),h _ (by simp) _ (by simp)⟩⟩;have:=h.1 o ho;simpa using this
theorem cM.aG3 {s':St} (H:cM s g G) {i:Nat} (hi:i<G.L.length) {rs:List Int} (hl:rs.length=G.L[i].rs.length) (k:aC [G.L[i].rn] s s') (hc:Obj s' G.L[i].rn (rs.map int)):cM s' g {G with L:=G.L.set i {G.L[i] with rs:=rs}}:=by
 obtain⟨p1,p2⟩:=H.parts;obtain⟨n1,n2,n3,n4⟩:=H.ep;have hm:=List.getElem_mem hi;have pC:(G.L.set i {G.L[i] with rs:=rs}).flatMap cS.C=G.L.flatMap cS.C:=ie hi (by
  show ([_,_,_,_,_,Value.slice (some ⟨_,0,none⟩) rs.length rs.length,_,_]:List Value)=_;rw[hl];rfl)
 have hown:({G with L:=G.L.set i {G.L[i] with rs:=rs}}:dI).own g=G.own g:=by
  unfold dI.own;congr 2;exact ie (f:=fun o:cS=>[o.rn,o.dn]) hi rfl
 obtain⟨c,cb,cl,cr,nd,nl,m2,m64,len⟩:=H;obtain⟨o1,o2,o3,o4⟩:=n2 _ hm;have PV:G.L[i].rn∈G.own g:=List.mem_cons_of_mem _ (List.mem_cons_of_mem _ (List.mem_flatMap.2 ⟨_,hm,by simp⟩));refine⟨?_,cb.aD k (by simp;omega),?_,fun o ho=>?_,by rw[hown];exact nd,?_,m2,m64,by rw[List.length_set];exact len⟩
 ·have:=c.aD k (by simp;omega);simpa using this
 ·have:=cl.aD k (fun b hb hb'=>nl b hb (by rw[List.mem_singleton.1 hb'];exact PV));simp only[List.length_set];rw[pC];exact this
 ·obtain⟨j,hj,rfl⟩:=List.mem_iff_getElem.1 ho;rw[List.length_set] at hj;rw[List.getElem_set];split
  ·rename_i e;refine⟨hc,(cr _ hm).2.aD k ?_⟩;have:=p1 _ hm;simp;exact fun e=>this e.symm
  ·rename_i e;have hd:G.L[j].rn≠G.L[i].rn∧G.L[j].dn≠G.L[i].rn:=by
    rw[List.pairwise_iff_getElem] at p2;rcases Nat.lt_or_gt_of_ne e with h | h
    ·have:=p2 i j hi hj h;exact⟨fun e=>this.1 e.symm,fun e=>this.2.1 e.symm⟩
    ·have:=p2 j i hj hi h;exact⟨this.1,this.2.2.1⟩
   have:=cr _ (List.getElem_mem hj);exact⟨this.1.aD k (by simp[hd.1]),this.2.aD k (by simp[hd.2])⟩
 ·simp only[List.length_set];rw[hown];exact nl
theorem cM.aG1 {s':St} (H:cM s g G) {i:Nat} (hi:i<G.L.length) {v:Bool} {b off:Nat} (hv:G.va=some ⟨b,off,none⟩) (k:aC [b] s s') (hc:bJ s' 133 8 (.slice G.va G.L.length G.vc) ((G.L.flatMap cS.C).set (i*8+7) (.bool v))):cM s' g {G with L:=G.L.set i {G.L[i] with fD:=v}}:=by
 have hb:=H.nl b (by rw[hv];simp[nameOf]);have pC:(G.L.flatMap cS.C).set (i*8+7) (.bool v)=(G.L.set i {G.L[i] with fD:=v}).flatMap cS.C:=l_ cS.qB G.L hi (by omega) rfl;have hown:({G with L:=G.L.set i {G.L[i] with fD:=v}}:dI).own g=G.own g:=by
  unfold dI.own;congr 2;exact ie (f:=fun o:cS=>[o.rn,o.dn]) hi rfl
 obtain⟨c,cb,cl,cr,nd,nl,m2,m64,len⟩:=H;have ho:∀ x∈G.own g,x∉[b]:=fun x hx h=>hb (by rw[← List.mem_singleton.1 h];exact hx);refine⟨?_,cb.aD k (ho _ (List.mem_cons_of_mem _ (List.mem_cons_self ..))),?_,fun o WU=>?_,by rw[hown];exact nd,?_,m2,m64,by rw[List.length_set];exact len⟩
 ·have:=c.aD k (ho _ (List.mem_cons_self ..));simpa using this
 ·rw[← pC];simpa using hc
 ·have key:∀ x∈G.L,Obj s' x.rn (x.rs.map int)∧Obj s' x.dn (x.ds.map int):=fun x hx =>
   ⟨(cr x hx).1.aD k (ho _ (List.mem_cons_of_mem _ (List.mem_cons_of_mem _ (List.mem_flatMap.2 ⟨x,hx,by simp⟩)))),(cr x hx).2.aD k (ho _ (List.mem_cons_of_mem _ (List.mem_cons_of_mem _ (List.mem_flatMap.2 ⟨x,hx,by simp⟩))))⟩
  obtain⟨j,hj,rfl⟩:=List.mem_iff_getElem.1 WU;rw[List.length_set] at hj;rw[List.getElem_set];split
  ·exact key G.L[i] (List.getElem_mem hi)
  ·exact key _ (List.getElem_mem hj)
 ·simp only[List.length_set];rw[hown];exact nl
theorem cM.aBw (H:cM s g G) {b off:Nat} (hv:G.va=some ⟨b,off,none⟩):b∈nameOf (.slice G.va G.L.length G.vc):=by rw[hv];simp[nameOf]
theorem vD:type_of% (B9 @RX @mB @JY @lE @kX @lA @nS @zO @gL):=B9 @RX @mB @JY @lE @kX @lA @nS @zO @gL
theorem aEp (hs:Ok s) (H:cM s g G) (S:gX P G.L) (a:Int) (hΦ:∀ s',aC [] s s'→Φ (.tuple #[pK (P.aM a),int (if P.has a=true then 0 else 4)]) s'):okF q X (KO kc) 57 [ptr g,int a] s Φ:=by
 have hlen:=H.len;refine aW Tryz.func57 (by kernel_rfl) rfl rfl (rs:=[.cell 4 44,.tmp 5]) rfl (N:=24) rfl rfl ?_;refine aA fun bF aF bD=>?_;simp only[vD,seval];obtain⟨s1,e1,k1,c1,n1⟩:=cI hs (L:=[int 0,int 0,int 0]) (n:=3) (e:=44) rfl;rw[e1];refine aF _ _ ?_;have H1:=H.aJ k1;refine aA fun Ψ1 aE aL=>?_;refine aA fun Ψ2 aI bH=>?_;simp only[vD,seval];refine aH ?_ (ZX H1 S a ?_)
 ·simp only[vD,seval]
 try simp only[vD,seval]
 refine aI _ _ ?_;refine aA fun Ψ3 aN bM=>?_;cases hh:P.has a with
 | false =>
  have eD:=fun s' k=>hΦ s' k;unfold PH.aM at eD;simp only[hh,Bool.false_eq_true,if_false] at eD;obtain⟨s2,e2,c2,k2⟩:=c1.storeAll k1.ok (vs:=[int 0,int 0,int 0]) rfl rfl;have dD:aC [] s s2:=k1.step k2 fun y hy=>.inr (by rw[List.mem_singleton.1 hy];exact hs.fresh _ (Nat.le_refl _));have l2:=c2.bI (i:=0) (k:=3) (Nat.le_refl _);simp only[vD,seval];refine aN _ _ ?_;simp only[vD,seval,e2];refine aL _ _ _ (by simp) ?_;simp only[vD,seval,l2,List.drop_zero,List.take];exact eD _ dD
 | true =>
  have eD:=fun s' k=>hΦ s' k;unfold PH.aM at eD;simp only[hh,if_true] at eD;simp only[vD,seval];refine aN _ _ ?_;simp only[vD,seval];refine aE _ _ ?_;have ks:aC [] s1 (s1.skip 24):=aC.skip k1.ok _;refine aA fun Ψ4 aP cC=>?_;refine dG [(3,6)] [g] [] (by kernel_rfl) (by kernel_rfl) (by rfl) fun O hO bC hR=>?_;simp only[vD,seval,H1.l1];refine dL ?_ (IN (H1.aJ ks) a (fun i hi he=>?_) (fun hn=>?_))
  ·simp only[vD,seval]
  ·obtain⟨vb,dW,hv⟩:=H1.addr (show 0<G.L.length by omega);have p1:(0:Int)≤(i:Int):=Int.natCast_nonneg _;have p2:(i:Int)<((G.L.length:Nat):Int):=by omega
   have hok:=S.ok _ (List.getElem_mem hi);have l2:bI s1.look ⟨vb,dW+i*8+2,none⟩ 3=some [int (P.shape a).r,int (P.shape a).d,int (P.shape a).k]:=by
    have h:=H1.cl.sl;rw[hv] at h;have:=h.bI (i:=i*8+2) (k:=3) (by omega) (by rw[vO cS.qB];omega);rw[← Nat.add_assoc] at this;rw[this,← he,← hok.sh];congr 1;apply List.ext_getElem?;intro j;by_cases hj:j<3
    ·rw[List.getElem?_take,if_pos hj,List.getElem?_drop,Nat.add_assoc,zU cS.qB _ hi (by omega)];rcases j with _ | _ | _ | j
     ·try rfl
     ·try rfl
     ·try rfl
     ·omega
    ·rw[List.getElem?_eq_none (by rw[List.length_take];omega),List.getElem?_eq_none (by simp;omega)]
   obtain⟨s2,e2,c2,k2⟩:=(c1.aD ks (by simp)).storeAll ks.ok (vs:=[int (P.shape a).r,int (P.shape a).d,int (P.shape a).k]) rfl rfl;have dD:aC [] s s2:=(k1.trans ks).step k2 fun y hy=>.inr (by rw[List.mem_singleton.1 hy];exact hs.fresh _ (Nat.le_refl _));have fZ:fJ (s1.skip 24) (s1.skip 24) g=true:=(H1.aJ ks).c.same ks.ok (.refl ks.ok) (F:=[]) (by simp);have l3:=c2.bI (i:=0) (k:=3) (Nat.le_refl _);simp only[vD,seval,hv,p1,p2,and_self,bQ,Int.toNat_natCast,l2,e2];refine⟨eP fZ fO,hR _ _ (aP _ _ ?_)⟩;simp only[vD,seval,l3,List.drop_zero,List.take];exact eD _ dD
  ·obtain⟨o,ho,e⟩:=S.mem.2 hh;exact absurd e (hn o ho)
theorem aEc (hs:Ok s) (H:cM s g G) (S:gX P G.L) (I:P.Inv) (a:Int) (h1:P.has a=true→∀ va vc L s',cM s' g {G with va:=va,vc:=vc,L:=L}→gX (P.kill a) L→aC [g] s s'→(∀ b∈nameOf (.slice va L.length vc),s.next≤b)→(∀ o∈L,o∈G.L)→Φ (int 0) s') (h2:P.has a=false→Φ (int 4) s):okF q X (KO kc) 56 [ptr g,int a] s Φ:=by
 refine aW Tryz.func56 (by kernel_rfl) rfl rfl (rs:=[.tmp 4]) rfl (N:=17) rfl rfl ?_;refine aA fun bF aF bD=>?_;simp only[RX,seval];refine aF _ _ ?_;refine aA fun Ψ1 aE aL=>?_;refine aA fun Ψ2 aI bH=>?_;simp only[RX,seval];refine aH ?_ (ZX H S a ?_)
 ·simp only[RX,seval]
 try simp only[RX,seval]
 refine aI _ _ ?_;refine aA fun Ψ3 aN bM=>?_;cases hh:P.has a with
 | false =>
  simp only[RX,seval];refine aN _ _ ?_;simp only[RX,seval];refine aL _ _ _ (by simp) ?_;simp only[RX,seval];exact h2 hh
 | true =>
  simp only[RX,seval];refine aN _ _ ?_;simp only[RX,seval];refine aE _ _ ?_;refine aA fun Ψ4 aP cC=>?_;simp only[RX,seval];refine aH ?_ (IN H a (fun i hi he=>?_) (fun hn=>?_))
  ·simp only[RX,seval]
  ·refine aH ?_ (aEs hs H hi fun va vc s' H' k' hv=>?_)
   ·simp only[RX,seval]
   simp only[RX,seval];refine aP _ _ ?_;simp only[RX,seval];refine h1 hh va vc _ s' H' ?_ k' hv (fun o ho=>List.mem_of_mem_eraseIdx ho);have:=S.kill I hi;rw[he] at this;exact this
  ·obtain⟨o,ho,e⟩:=S.mem.2 hh;exact absurd e (hn o ho)
theorem vA:type_of% (B6 @RX @kX @lA @nS @Bg @Qq):=B6 @RX @kX @lA @nS @Bg @Qq
theorem aEu (hs:Ok s) (H:cM s g G) (S:gX P G.L) (I:P.Inv) (a:Int) (v:Bool) (h1:P.has a=true→∀ L s',cM s' g {G with L:=L}→gX (P.fD a (if v=true then 1 else 0)) L→L.length=G.L.length→(∀ o∈L,∃ o'∈G.L,o.rn=o'.rn∧o.dn=o'.dn)→aC (nameOf (.slice G.va G.L.length G.vc)) s s'→Φ (int 0) s') (h2:P.has a=false→Φ (int 4) s):okF q X (KO kc) 152 [ptr g,int a,.bool v] s Φ:=by
 refine aW Tryz.func152 (by kernel_rfl) rfl rfl (rs:=[.tmp 6]) rfl (N:=24) rfl rfl ?_;refine aA fun bF aF bD=>?_;simp only[vA,seval];refine aF _ _ ?_;refine aA fun Ψ1 aE aL=>?_;refine aA fun Ψ2 aI bH=>?_;simp only[vA,seval];refine aH ?_ (ZX H S a ?_)
 ·simp only[vA,seval]
 try simp only[vA,seval]
 refine aI _ _ ?_;refine aA fun Ψ3 aN bM=>?_;cases hh:P.has a with
 | false =>
  simp only[vA,seval];refine aN _ _ ?_;simp only[vA,seval];refine aL _ _ _ (by simp) ?_;simp only[vA,seval];exact h2 hh
 | true =>
  simp only[vA,seval];refine aN _ _ ?_;simp only[vA,seval];refine aE _ _ ?_;have ks:aC [] s (s.skip 22):=aC.skip hs _;refine aA fun Ψ4 aP cC=>?_;refine dG [(3,6)] [g] [] (by kernel_rfl) (by kernel_rfl) (by rfl) fun O hO bC hR=>?_;simp only[vA,seval,H.l1];refine dL ?_ (IN (H.aJ ks) a (fun i hi he=>?_) (fun hn=>?_))
  ·simp only[vA,seval]
  ·obtain⟨vb,dW,hv⟩:=H.addr (show 0<G.L.length by omega);have p1:(0:Int)≤(i:Int):=Int.natCast_nonneg _;have p2:(i:Int)<((G.L.length:Nat):Int):=by omega
   have cl:=(H.aJ ks).cl;rw[hv] at cl;obtain⟨s2,e2,b2,k2⟩:=cl.storeAt ks.ok (i:=i*8+7) (v:=.bool v) (by rw[vO cS.qB];omega) rfl;rw[← Nat.add_assoc] at e2;have fZ:fJ (s.skip 22) (s.skip 22) g=true:=(H.aJ ks).c.same ks.ok (.refl ks.ok) (F:=[]) (by simp);simp only[vA,seval,hv,p1,p2,and_self,bQ,Int.toNat_natCast,e2];have H2:=(H.aJ ks).aG1 hi hv k2 (by rw[hv];exact b2);have hS:=S.fD I.bX hi (v:=if v=true then 1 else 0);rw[he,show decide ((if v=true then 1 else 0)=1)=v by cases v <;> rfl] at hS
   refine⟨eP fZ fO,hR _ _ (aP _ _ ?_)⟩;simp only[vA,seval];refine h1 hh _ s2 H2 hS (List.length_set ..) (fun o ho=>?_) ((ks.any.trans k2).mono fun x hx=>by rw[List.mem_singleton.1 hx];exact H.aBw hv);rcases List.mem_or_eq_of_mem_set ho with h | h
   ·exact⟨o,h,rfl,rfl⟩
   ·exact⟨_,List.getElem_mem hi,by rw[h],by rw[h]⟩
  ·obtain⟨o,ho,e⟩:=S.mem.2 hh;exact absurd e (hn o ho)
theorem aEi (hs:Ok s) (H:cM s g G) (S:gX P G.L) (I:P.Inv) (a:Int) (h1:P.has a=true→∀ L s',cM s' g {G with L:=L}→gX (P.fD a 1) L→L.length=G.L.length→(∀ o∈L,∃ o'∈G.L,o.rn=o'.rn∧o.dn=o'.dn)→aC (nameOf (.slice G.va G.L.length G.vc)) s s'→Φ (int 0) s') (h2:P.has a=false→Φ (int 4) s):okF q X (KO kc) 60 [ptr g,int a] s Φ:=by
 refine aW Tryz.func60 (by kernel_rfl) rfl rfl (rs:=[.tmp 4]) rfl (N:=8) rfl rfl ?_;refine aA fun bF aF bD=>?_;simp only[RX,seval];refine aF _ _ ?_;refine aA fun Ψ1 aE aL=>?_;simp only[RX,seval];refine aH ?_ (aEu hs H S I a true (fun hh L s' H' S' hl hn k'=>?_) (fun hh=>?_))
 ·simp only[RX,seval]
 ·simp only[RX,seval];refine aE _ _ ?_;simp only[RX,seval];exact h1 hh L s' H' S' hl hn k'
 ·simp only[RX,seval];refine aE _ _ ?_;simp only[RX,seval];exact h2 hh
theorem jK:type_of% (B9 @RX @kX @lA @nS @DN @dF @dV @dQ @lD):=B9 @RX @kX @lA @nS @DN @dF @dV @dQ @lD
theorem aEn (hs:Ok s) (H:cM s g G) (S:gX P G.L) (I:P.Inv) (a i to:Int) (h1:P.iN a i to=0→∀ L n s',cM s' g {G with L:=L}→gX (P.setRef a i to) L→L.length=G.L.length→(∀ o∈L,∃ o'∈G.L,o.rn=o'.rn∧o.dn=o'.dn)→n∈G.own g→aC [n] s s'→Φ (int 0) s') (h2:P.iN a i to≠0→Φ (int (P.iN a i to)) s):okF q X (KO kc) 148 [ptr g,int a,int i,int to] s Φ:=by
 unfold PH.setRef at h1;refine aW Tryz.func148 (by kernel_rfl) rfl rfl (rs:=[.tmp 8]) rfl (N:=56) rfl rfl ?_;refine aA fun bF aF bD=>?_;simp only[jK,seval];refine aF _ _ ?_;refine aA fun Ψ1 aE aL=>?_;refine aA fun Ψ2 aI bH=>?_;simp only[jK,seval];refine aH ?_ (ZX H S a ?_)
 ·simp only[jK,seval]
 try simp only[jK,seval]
 refine aI _ _ ?_;refine aA fun Ψ3 aN bM=>?_;cases hh:P.has a with
 | false =>
  have e:P.iN a i to=4:=by unfold PH.iN PH.dR;rw[hh];rfl
  rw[e] at h2;simp only[jK,seval];refine aN _ _ ?_;simp only[jK,seval];refine aL _ _ _ (by simp) ?_;simp only[jK,seval];exact h2 (by omega)
 | true =>
  simp only[jK,seval];refine aN _ _ ?_;simp only[jK,seval];refine aE _ _ ?_;refine aA fun Ψ4 aP cC=>?_;simp only[jK,seval];refine aH ?_ (IN H a (fun k hk he=>?_) (fun hn=>?_))
  ·simp only[jK,seval]
  ·simp only[jK,seval];refine aP _ _ ?_;obtain⟨vb,dW,hv⟩:=H.addr (show 0<G.L.length by omega);have p1:(0:Int)≤(k:Int):=Int.natCast_nonneg _;have p2:(k:Int)<((G.L.length:Nat):Int):=by omega
   have hm:=List.getElem_mem hk;have hok:=S.ok _ hm;have hr:=S.tc I.bX hm;have LL:G.L[k].rs.length=G.L[k].sh.r.toNat:=by rw[hok.rs,NP]
   have Fb:P.many a false=(G.L[k].rs.length:Int):=by
    unfold PH.many;rw[if_neg (by simp),← he,← hok.sh,LL];omega
   have l1:=H.l1;rw[hv] at l1;have l5:aG s.look ⟨vb,dW+k*8+5,none⟩=some (.slice (some ⟨G.L[k].rn,0,none⟩) G.L[k].rs.length G.L[k].rs.length):=H.lo hv hk rfl;refine aA fun cU aZ cK=>?_;refine aA fun dN bO cZ=>?_;refine cL [(2,22),(15,35),(18,38)] (by kernel_rfl) fun O hO bC hR=>?_;have y2:∀ a,aO O a 2=aY (a.aB 22):=hO (2,22) (by simp);have wU:∀ a,aO O a 15=aY (a.aB 35):=hO (15,35) (by simp);have nE:∀ a,aO O a 18=aY (a.aB 38):=hO (18,38) (by simp);by_cases g1:i<0
   ·have e:P.iN a i to=1:=by unfold PH.iN PH.dR;rw[hh,if_pos rfl,if_pos (Or.inl g1)];rfl
    rw[e] at h2;simp only[jK,seval,y2,wU,nE,g1,decide_true];refine hR _ _ (bO _ _ ?_);simp only[jK,seval];refine cK _ _ _ (by simp) ?_;simp only[jK,seval];exact h2 (by omega)
   by_cases g2:i≥(G.L[k].rs.length:Int)
   ·have e:P.iN a i to=1:=by unfold PH.iN PH.dR;rw[hh,if_pos rfl,Fb,if_pos (Or.inr g2)];rfl
    rw[e] at h2;simp only[jK,seval,y2,wU,nE,g1,l1,p1,p2,and_self,bQ,Int.toNat_natCast,l5,g2,decide_true,decide_false];refine hR _ _ (bO _ _ ?_);simp only[jK,seval];refine cK _ _ _ (by simp) ?_;simp only[jK,seval];exact h2 (by omega)
   have WC:P.dR a i false=0:=by unfold PH.dR;rw[hh,if_pos rfl,Fb,if_neg (by omega)]
   have fin:∀ a':aK,a'.aB 0=ptr g→a'.aB 2=int i→a'.aB 3=int to→a'.aB 10=int k→P.iN a i to=0→cU .normal a' s:=by
    intro a' r0 r2 r3 cH e;have n1:0≤i:=by omega
    have n2:i<((G.L[k].rs.length:Nat):Int):=by omega
    obtain⟨s2,e2,c2,k2⟩:=(H.cr _ hm).1.fK hs (i:=i.toNat) (v:=int to) (by rw[List.length_map];omega) rfl;have sJ:Obj s2 G.L[k].rn ((G.L[k].rs.set i.toNat to).map int):=by rw[List.map_set];exact c2
    have H2:=H.aG3 hk (rs:=G.L[k].rs.set i.toNat to) (List.length_set ..) k2 sJ;have hS:=S.setRef I hk (k:=i.toNat) (by omega) to;have hfa:P.dP a i false=G.L[k].a+2+(i.toNat:Int):=by
     rw[(PH.qH I.bX WC).1,he];show a+2+i=_;omega
    rw[← hfa] at hS;refine aZ _ _ ?_;refine aA fun fE cG dX=>?_;simp only[jK,seval,r0,r2,r3,cH,l1,p1,p2,and_self,bQ,Int.toNat_natCast,l5,n1,n2,Nat.mul_one,Nat.zero_add,e2];refine cG _ _ ?_;simp only[jK,seval];refine h1 e _ _ s2 H2 (by rw[if_pos e];exact hS) (List.length_set ..) (fun o ho=>?_) (List.mem_cons_of_mem _ (List.mem_cons_of_mem _ (List.mem_flatMap.2 ⟨_,hm,by simp⟩))) k2;rcases List.mem_or_eq_of_mem_set ho with h | h
    ·exact⟨o,h,rfl,rfl⟩
    ·exact⟨_,hm,by rw[h],by rw[h]⟩
   by_cases g3:to=0
   ·have e:P.iN a i to=0:=by unfold PH.iN;rw[if_pos WC,if_neg (by omega)]
    have GL:(to==0)=true:=by simpa using g3
    simp only[jK,seval,y2,wU,nE,g1,l1,p1,p2,and_self,bQ,Int.toNat_natCast,l5,g2,GL,decide_false];refine hR _ _ (bO _ _ ?_);simp only[jK,seval];refine fin _ ?_ ?_ ?_ ?_ e
    all_goals simp only[jK,seval]
   ·have GL:(to==0)=false:=by simpa using g3
    simp only[jK,seval,y2,wU,nE,g1,l1,p1,p2,and_self,bQ,Int.toNat_natCast,l5,g2,GL,decide_false];refine aH ?_ (aEb H S to ?_)
    ·simp only[jK,seval]
    cases ht:P.has to with
    | true =>
     have e:P.iN a i to=0:=by unfold PH.iN;rw[if_pos WC,if_neg (by rw[ht];simp)]
     simp only[jK,seval,wU,nE];refine hR _ _ (bO _ _ ?_);simp only[jK,seval];refine fin _ ?_ ?_ ?_ ?_ e
     all_goals simp only[jK,seval]
    | false =>
     have e:P.iN a i to=1:=by unfold PH.iN;rw[if_pos WC,if_pos ⟨g3,ht⟩]
     rw[e] at h2;simp only[jK,seval,wU,nE];refine hR _ _ (bO _ _ ?_);simp only[jK,seval];refine cK _ _ _ (by simp) ?_;simp only[jK,seval];exact h2 (by omega)
  ·obtain⟨o,ho,e⟩:=S.mem.2 hh;exact absurd e (hn o ho)
end
end Go.Dust
namespace Go.Dust
open Go.Proofs
set_option maxRecDepth 100000
set_option maxHeartbeats 4000000
section
variable {kc:Kc} {q:Bool} {s:St} {Φ:Value→St→Prop} {g:Nat} {G:dI} {P:PH}
theorem cM.sw {s':St} {n:Nat} (H:cM s g G) (k:aC [g] s s') (hc:Obj s' g [.slice (some ⟨G.bn,0,none⟩) G.N G.N,.slice G.va G.L.length G.vc,.slice none 0 0,int n]):cM s' g {G with born:=n}:=by
 obtain⟨h1,h2,h3,h4⟩:=H.ep;obtain⟨c,cb,cl,cr,nd,nl,n2,bY,len⟩:=H;refine⟨hc,cb.aD k (by simp[h1]),cl.aD k (fun b hb=>by simp;intro e;exact h4 (by rw[← e];exact hb)),fun o ho=>?_,nd,nl,n2,bY,len⟩;obtain⟨g1,g2,g3,g4⟩:=h2 o ho;exact⟨(cr o ho).1.aD k (by simp[g3]),(cr o ho).2.aD k (by simp[g4])⟩
theorem Obj.aFs {s:St} {b y:Nat} {L:List Value} {f:Nat→bW} (h:Obj s b L) (hs:Ok s) (hy:b≠y):fJ s (s.put y f) b=true:=by
 have:=h.same hs (.refl hs) (F:=[]) (by simp);unfold fJ at this ⊢;rw[oK hy];exact this
theorem mN:type_of% (B8 @RX @gL @UZ @bG @lD @kJ @mD @xo):=B8 @RX @gL @UZ @bG @lD @kJ @mD @xo
theorem aEk (hs:Ok s) (H:cM s g G) (S:iW P G) (I:P.Inv) (a:Int) (ha:i64 a) (x:cO) (hx:x.valid=true) (hb:P.born<1000000) (hlen:G.L.length<2048)
  (h1:P.qP a x=0→∀ G' s',cM s' g G'→iW (P.place a x) G'→G'.L.length=G.L.length+1→aC [g] s s'→(∀ b∈G'.aS g,b∈G.aS g∨s.next≤b)→Φ (.tuple #[int ((P.born:Int)+1),int 0]) s') (h2:P.qP a x≠0→∀ s',aC [] s s'→Φ (.tuple #[int 0,int (P.qP a x)]) s') :
  okF q X (KO kc) 145 [ptr g,int a,pK x] s Φ:=by
 have hv:=cO.nX.1 hx;have Fm:P.qP a x=P.pA a x.words (-1):=by unfold PH.qP;rw[if_pos hx]
 rw[Fm] at h1 h2;refine aW Tryz.func145 (by kernel_rfl) rfl rfl (rs:=[.tmp 6,.tmp 7]) rfl (N:=48) rfl rfl ?_;refine aA fun bF aF bD=>?_;simp only[mN,seval];obtain⟨s1,e1,k1,c1,n1⟩:=cI hs (L:=[int x.r,int x.d,int x.k]) (n:=3) (e:=44) rfl;rw[e1];refine aF _ _ ?_;have H1:=H.aJ k1;have BY:=c1.bI (i:=0) (k:=3) (Nat.le_refl _);refine aA fun Ψ1 aE aL=>?_;refine aA fun Ψ2 aI bH=>?_;simp only[mN,seval];refine aH ?_ (AW H1 ?_)
 ·simp only[mN,seval]
 try simp only[mN,seval]
 refine aI _ _ ?_;simp only[mN,seval];refine aE _ _ ?_;refine aA fun Ψ3 aN bM=>?_;refine aA fun Ψ4 aP cC=>?_;simp only[mN,seval,BY,List.drop_zero,List.take];refine aH ?_ (My k1.ok x fun s2 k2=>?_)
 ·simp only[mN,seval]
 rw[hx]
 try simp only[mN,seval]
 refine aP _ _ ?_;simp only[mN,seval];refine aN _ _ ?_;have dD:=k1.trans k2;have c2:=c1.aD k2 (by simp);have BZ:=c2.bI (i:=0) (k:=3) (Nat.le_refl _);refine aA fun cU aZ cK=>?_;refine aA fun dN bO cZ=>?_;simp only[mN,seval,BZ,List.drop_zero,List.take];refine aH ?_ (aEt k2.ok (H1.aJ k2) S I a ha x hx fun s3 k3=>?_)
 ·simp only[mN,seval]
 try simp only[mN,seval]
 refine bO _ _ ?_;have fC:=dD.trans k3;have c3:=c2.aD k3 (by simp);have H3:=(H1.aJ k2).aJ k3;refine aA fun fE cG dX=>?_;by_cases he:P.pA a x.words (-1)=0
 ·have hE:P.qP a x=0:=Fm.trans he;have R:=PH.ZY I.bX I.b0 hE;simp only[mN,seval,he];refine cG _ _ ?_;simp only[mN,seval];refine aZ _ _ ?_;have hbn:=S.born;have w:IntKind.i64.wrap ((G.born:Int)+1)=((G.born+1:Nat):Int):=by rw[aU (by omega) (by omega)];rfl
  obtain⟨s4,e4,c4,k4⟩:=H3.c.fK k3.ok (i:=3) (v:=int ((G.born+1:Nat))) (by simp) rfl;refine aA fun gV cT gA=>?_;simp only[mN,seval,H3.l3,w,e4];refine cT _ _ ?_;have H4:=H3.sw (n:=G.born+1) k4 c4;have WE:g<s.next:=H.c.lt hs;have l3:aG s4.look ⟨g,3,none⟩=some (int ((G.born+1:Nat))):=H4.l3;have OF:=c3.aD k4 (by simp;omega);have QS:=OF.bI (i:=0) (k:=3) (Nat.le_refl _);have lr:aG s4.look ⟨s.next,0,none⟩=some (int x.r):=OF.load rfl;have ld:aG s4.look ⟨s.next,1,none⟩=some (int x.d):=OF.load rfl;have kK:aC [g] s s4:=fC.any.trans k4;refine aA fun jC dK iK=>?_;refine dG [(11,9)] [s.next] [] (by kernel_rfl) (by kernel_rfl) (by rfl) fun O hO bC hR=>?_;have ks:aC [] s4 (s4.skip 30):=aC.skip k4.ok 30;have fr:∀ y,s4.next≤y→(s4.skip 30).heap.get y=none:=k4.ok.fresh;obtain⟨S1,E1,K1,C1,N1,F1⟩:∃ S1,(s4.skip 30).put (s4.next+18) (fun v=>bW.cells PT.nil [int 0] (x.r.toNat*1) 3 false false v)=S1∧aC [] s4 S1∧Obj S1 (s4.next+18) (row x.r.toNat fun _=>int 0)∧S1.next=s4.next+30∧(∀ y,s4.next≤y→y≠s4.next+18→S1.heap.get y=none) :=
   ⟨_,rfl,(aC.skip k4.ok 30).jT (fr _ (by omega)) (by show s4.next+18<s4.next+30;omega) (by omega) (Nat.le_refl _),Obj.uR rfl (by rw[fY];omega) (fun i hi=>by
    rw[lW _ (by omega),Nat.mod_one];rfl),rfl,fun y hy hne=>by rw[oK hne];exact fr y hy⟩
  have tM:s.next<s4.next:=by have:=OF.lt k4.ok;exact this
  have fZ:fJ (s4.skip 30) S1 s.next=true:=by rw[← E1];exact(OF.aD ks (by simp)).aFs ks.ok (by omega)
  obtain⟨S2,E2,K2,C2,cz,N2⟩:∃ S2,S1.put (s4.next+24) (fun v=>bW.cells PT.nil [int 0] (x.d.toNat*1) 3 false false v)=S2∧aC [] s4 S2∧Obj S2 (s4.next+24) (row x.d.toNat fun _=>int 0)∧Obj S2 (s4.next+18) (row x.r.toNat fun _=>int 0)∧S2.next=s4.next+30 :=
   ⟨_,rfl,K1.jT (F1 _ (by omega) (by omega)) (by omega) (by omega) (Nat.le_refl _),Obj.uR rfl (by rw[fY];omega) (fun i hi=>by
    rw[lW _ (by omega),Nat.mod_one];rfl),C1.fI (by omega),N1⟩
  have lr1:aG S1.look ⟨s.next,0,none⟩=some (int x.r):=mI K1 (by simp) lr;have ld1:aG S1.look ⟨s.next,1,none⟩=some (int x.d):=mI K1 (by simp) ld;simp only[mN,seval,l3,QS,List.drop_zero,List.take,lr,EM (nm:=s4.next+18) (n:=x.r) (m:=x.r) (by omega) (by omega) (by omega) (by omega)];rw[E1];simp only[mN,seval,ld1,EM (nm:=s4.next+24) (n:=x.d) (m:=x.d) (by omega) (by omega) (by omega) (by omega)];rw[E2];refine⟨eP fZ fO,?_⟩;have El:∀ y∈G.aS g,y<s4.next:=fun y hy=>by have:=H.eM hs y hy;have:=kK.next;omega
  have H5:cM S2 g {G with born:=G.born+1}:=H4.aJ K2;have rz:∀ n:Nat,(List.replicate n (0:Int)).map int=row n fun _=>int 0:=fun n=>by
   refine MV (by simp) fun i hi=>?_;rw[List.getElem?_map,List.getElem?_replicate,if_pos hi];rfl
  refine dL ?_ (aEv K2.ok H5 ⟨a,(P.born:Int)+1,x,s4.next+18,s4.next+24,List.replicate x.r.toNat 0,List.replicate x.d.toNat 0,false⟩ (by rw[rz];exact cz) (by rw[rz];exact C2) (fun h=>by have:=El _ h;simp only at this;omega) (fun h=>by have:=El _ h;simp only at this;omega) (by simp only;omega) hlen ?_)
  ·simp only[mN,seval,List.length_replicate,hbn]
   try rfl
  intro va vc s5 H6 k5 V_;have LV:aC [g] s s5:=(kK.trans K2.any).trans k5;simp only[mN,seval];refine hR _ _ (dK _ _ ?_);refine aA fun lO eG kY=>?_;have l5:aG s5.look ⟨g,3,none⟩=some (int ((G.born+1:Nat))):=H6.l3;simp only[mN,seval,l5];refine eG _ _ ?_;simp only[mN,seval];have hb':((G.born+1:Nat):Int)=(P.born:Int)+1:=by rw[hbn];rfl
  rw[hb'];refine h1 he _ s5 H6 ⟨S.N,S.bs,S.bp,by show G.born+1=P.born+1;rw[hbn],?_⟩ (rq _ _) LV ?_
  ·exact S.L.place I R _ _
  ·intro y hy;rcases List.mem_append.1 hy with hy | hy
   ·unfold dI.own at hy;rcases List.mem_cons.1 hy with h | h
    ·exact .inl (List.mem_append_left _ (by rw[h];exact List.mem_cons_self ..))
    ·rcases List.mem_cons.1 h with h | h
     ·exact .inl (List.mem_append_left _ (by rw[h];exact List.mem_cons_of_mem _ (List.mem_cons_self ..)))
     ·obtain⟨o,ho,hy⟩:=List.mem_flatMap.1 h;have:=kK.next;rcases gX.IL.1 ho with h | h
      ·exact .inl (List.mem_append_left _ (List.mem_cons_of_mem _ (List.mem_cons_of_mem _ (List.mem_flatMap.2 ⟨o,h,hy⟩))))
      ·subst h;simp only[List.mem_cons,List.not_mem_nil,or_false] at hy;right;omega
   ·have:=V_ y hy;have:=kK.next;have:=K2.next;right;omega
 ·have he':(P.pA a x.words (-1)==0)=false:=by simpa using he
  simp only[mN,seval,he'];refine cG _ _ ?_;simp only[mN,seval];refine cK _ _ _ (by simp) ?_;simp only[mN,seval];exact h2 he s3 fC
end
open Go.Proofs
set_option maxRecDepth 100000
set_option maxHeartbeats 4000000
section
variable {kc:Kc} {q:Bool} {s:St} {Φ:Value→St→Prop} {g:Nat} {G:dI} {P:PH}
theorem mO:type_of% (B8 @RX @kX @lA @wC @nS @vM @bG @mC):=B8 @RX @kX @lA @wC @nS @vM @bG @mC
theorem aEh (hs:Ok s) (H:cM s g G) (S:gX P G.L) (I:P.Inv) {b:Nat} (hΦ:∀ (l:List Int) va vc s',(∀ y∈l,y/64=b∧∃ o∈G.L,o.a=y)→l.length≤2048→bJ s' 3 1 (.slice va l.length vc) (l.map int)→(∀ y∈nameOf (.slice va l.length vc),s.next≤y)→aC [] s s'→Φ (.slice va l.length vc) s'):okF q X (KO kc) 257 [ptr g,int b] s Φ:=by
 have hlen:=H.len;refine aW Tryz.func257 (by kernel_rfl) rfl rfl (rs:=[.tmp 4]) rfl (N:=43) rfl rfl ?_;refine aA fun bF aF bD=>?_;simp only[mO,seval];refine aF _ _ ?_;refine aA fun Ψ1 aE aL=>?_;simp only[mO,seval];refine aE _ _ ?_;refine aA fun Ψ2 aI bH=>?_;refine aA fun Ψ3 aN bM=>?_;simp only[mO,seval];refine aN _ _ ?_;refine cJ fun Ψ4 aP xS cC=>?_
 let J:Nat→aK→St→Prop:=fun j a' s'=>∃ (l:List Int) (va:Option Addr) (vc:Nat),a'.aB 0=ptr g∧a'.aB 1=int b∧a'.aB 5=.slice va l.length vc∧a'.aB 6=int j∧(∀ y∈l,y/64=b∧∃ o∈G.L,o.a=y)∧bJ s' 3 1 (.slice va l.length vc) (l.map int)∧(∀ y∈nameOf (.slice va l.length vc),s.next≤y)∧aC [] s s'
 refine gB (n:=G.L.length) (fun j a' s'=>∃ (l:List Int) (va:Option Addr) (vc:Nat),l.length≤j∧a'.aB 0=ptr g∧a'.aB 1=int b∧a'.aB 5=.slice va l.length vc∧a'.aB 6=int j∧(∀ y∈l,y/64=b∧∃ o∈G.L,o.a=y)∧bJ s' 3 1 (.slice va l.length vc) (l.map int)∧(∀ y∈nameOf (.slice va l.length vc),s.next≤y)∧aC [] s s')
  (fun j a' s'=>∃ (l:List Int) (va:Option Addr) (vc:Nat),l.length≤j+1∧a'.aB 0=ptr g∧a'.aB 1=int b∧a'.aB 5=.slice va l.length vc∧a'.aB 6=int j∧(∀ y∈l,y/64=b∧∃ o∈G.L,o.a=y)∧bJ s' 3 1 (.slice va l.length vc) (l.map int)∧(∀ y∈nameOf (.slice va l.length vc),s.next≤y)∧aC [] s s') ?_ ?_ ?_ ?_ (Nat.zero_le _) ?_
 ·rintro j a' s' hj ⟨l,va,vc,hl,r0,r1,r5,r6,hm,hB,hnm,hk⟩ aV bP;have H':=H.aJ hk;refine cL [(2,9)] (by kernel_rfl) fun O hO bC hR=>?_;have y2:∀ a,aO O a 2=aY (a.aB 9):=hO (2,9) (by simp);simp only[mO,seval,r0];refine aH ?_ (AW H' ?_)
  ·simp only[mO,seval]
  try simp only[mO,seval,y2,r0,r6,H'.l1]
  refine hR _ _ (bP _ _ (decide ((j:Int)<G.L.length)) ?_ (by simp) ⟨l,va,vc,hl,?_,?_,?_,?_,hm,hB,hnm,hk⟩)
  all_goals simp only[mO,seval,r0,r1,r5,r6]
 ·rintro j a' s' hj ⟨l,va,vc,hl,r0,r1,r5,r6,hm,hB,hnm,hk⟩ aV w1 w2 w3;have H':=H.aJ hk;obtain⟨vb,dW,hv⟩:=H'.addr (show 0<G.L.length by omega);have p1:(0:Int)≤(j:Int):=Int.natCast_nonneg _;have p2:(j:Int)<((G.L.length:Nat):Int):=by omega
  have l1:=H'.l1;rw[hv] at l1;have lj:aG s'.look ⟨vb,dW+j*8,none⟩=some (int G.L[j].a):=H'.lo hv hj (j:=0) rfl;have hh:=PH.size_pos I.bX (S.has (List.getElem_mem hj));have Jy:=I.bY;have td:IntKind.i64.wrap (G.L[j].a.tdiv 64)=G.L[j].a/64:=by rw[Int.tdiv_eq_ediv_of_nonneg (by omega),aU (by omega) (by omega)]
  refine aA fun cU aZ cK=>?_;simp only[mO,seval,r0,r1,r6,l1,p1,p2,and_self,bQ,Int.toNat_natCast,lj,td];refine aZ _ _ ?_;by_cases he:G.L[j].a/64=b
  ·have he':(G.L[j].a/64==(b:Int))=true:=by simpa using he
   obtain⟨s3,e3,k3,c3,n3⟩:=cI hk.ok (L:=[int G.L[j].a]) (n:=1) (e:=3) rfl;obtain⟨v,s4,h4,b4,k4,m4,a4,c4,rfl⟩:=iE (X:=X) (t:=62) (e:=3) (N:=1) (B:=8) (z:=.int .i64 0) (x:=.slice (some ⟨s'.next,0,none⟩) 1 1) (k:=1) (new:=[int G.L[j].a]) (by kernel_rfl) (by kernel_rfl) rfl k3.ok (by omega) (hB.aD k3 (by simp)) rfl (lQ (by omega) (c3.bI (i:=0) (k:=1) (Nat.le_refl _))) rfl rfl (by omega) (by omega);simp only[mO,seval,he',r0,r5,r6,l1,p1,p2,and_self,bQ,Int.toNat_natCast,lj];rw[e3];refine iS ?_ h4 ?_
   ·simp only[mO,seval]
   simp only[mO,seval];have hkk:aC [] s s4:=(hk.trans k3).step k4 fun y hy=>.inr (hs.fresh _ (hnm y hy));refine w1 _ _ ⟨l++[G.L[j].a],a4,c4,by rw[List.length_append,List.length_singleton];omega,?_,?_,?_,?_,?_,?_,?_,hkk⟩
   ·simp only[mO,seval,r0]
   ·simp only[mO,seval,r1]
   ·simp only[mO,seval,List.length_append]
   ·simp only[mO,seval,r6]
   ·intro y hy;rcases List.mem_append.1 hy with h | h
    ·exact hm y h
    ·rw[List.mem_singleton.1 h];exact⟨he,_,List.getElem_mem hj,rfl⟩
   ·rw[List.map_append,List.length_append,List.length_singleton];exact b4
   ·intro y hy;rw[List.length_append,List.length_singleton] at hy;rcases m4 y hy with h | h
    ·exact hnm y h
    ·have:=(hk.trans k3).next;omega
  ·have he':(G.L[j].a/64==(b:Int))=false:=by simpa using he
   simp only[mO,seval,he'];refine w1 _ _ ⟨l,va,vc,by omega,?_,?_,?_,?_,hm,hB,hnm,hk⟩
   ·simp only[mO,seval,r0]
   ·simp only[mO,seval,r1]
   ·simp only[mO,seval,r5]
   ·simp only[mO,seval,r6]
 ·rintro j a' s' hj ⟨l,va,vc,hl,r0,r1,r5,r6,hm,hB,hnm,hk⟩ aV w1;have w:IntKind.i64.wrap ((j:Int)+1)=((j+1:Nat):Int):=by rw[aU (by omega) (by omega)];rfl
  simp only[mO,seval,r6,w];refine w1 _ _ ⟨l,va,vc,hl,?_,?_,?_,?_,hm,hB,hnm,hk⟩
  all_goals try simp only[mO,seval,r0,r1,r5]
 ·rintro a' s' ⟨l,va,vc,hl,r0,r1,r5,r6,hm,hB,hnm,hk⟩;refine xS _ _ (aI _ _ ?_);simp only[mO,seval,r5];exact hΦ l va vc s' hm (by omega) hB hnm hk
 ·refine⟨[],none,0,Nat.le_refl _,?_,?_,?_,?_,fun y hy=>(by cases hy),.nil,fun y hy=>(by simp[nameOf] at hy),.refl hs⟩
  all_goals try simp only[mO,seval]
  all_goals rfl
def OT (bs:Nat→Int) (b n:Nat):Nat:=qW (fun i=>if bs i=0 then 3 else 0) b n
theorem Cw {bs:Nat→Int} {b n j:Nat} (h:j<OT bs b n):bs (b+j)=0:=by
 have:=bt (bs:=fun i=>if bs i=0 then 3 else 0) h;split at this
 ·assumption
 ·cases this
theorem s_ {bs:Nat→Int} {b n:Nat} (h:OT bs b n<n):bs (b+OT bs b n)≠0:=by
 have:=br (bs:=fun i=>if bs i=0 then 3 else 0) h;intro e;apply this;show (if bs (b+OT bs b n)=0 then(3:Int) else 0)=3;rw[if_pos e]
theorem Mw (H:cM s g G) {n:Nat} (hn:1≤n) (hn2:n≤64) (h1:∀ b:Nat,1≤b→b+n≤G.N→(∀ j,b≤j→j<b+n→G.bs j=0)→Φ (int b) s) (h2:Φ (int 0) s):okF q X (KO kc) 210 [ptr g,int n] s Φ:=by
 have bY:=H.bY;refine aW Tryz.func210 (by kernel_rfl) rfl rfl (rs:=[.tmp 4]) rfl (N:=32) rfl rfl ?_;refine aA fun bF aF bD=>?_;simp only[RX,seval];refine aF _ _ ?_;refine aA fun Ψ1 aE aL=>?_;refine aA fun Ψ2 aI bH=>?_;simp only[RX,seval];refine aI _ _ ?_;refine cJ fun Ψ3 aN pF bM=>?_;refine gB (n:=G.N-n) (fun j a' s'=>a'.aB 0=ptr g∧a'.aB 1=int n∧a'.aB 5=int ((j+1:Nat))∧s'=s) (fun j a' s'=>a'.aB 0=ptr g∧a'.aB 1=int n∧a'.aB 5=int ((j+1:Nat))∧s'=s) ?_ ?_ ?_ ?_ (Nat.zero_le _) ?_
 ·rintro j a' s' hj ⟨r0,r1,r5,rfl⟩ aV bP;have w:IntKind.i64.wrap (((j+1:Nat):Int)+(n:Int))=((j+1+n:Nat):Int):=by rw[aU (by omega) (by omega)];rfl
  simp only[RX,seval,r0,r1,r5,w];refine aH ?_ (Mu H ?_)
  ·simp only[RX,seval]
  try simp only[RX,seval]
  refine bP _ _ (decide (((j+1+n:Nat):Int)≤G.N)) ?_ (by rw[decide_eq_true_eq];omega) ⟨?_,?_,?_,rfl⟩
  all_goals simp only[RX,seval,r0,r1,r5]
 ·rintro j a' s' hj ⟨r0,r1,r5,rfl⟩ aV w1 w2 w3;refine aA fun Ψ4 aP cC=>?_;simp only[RX,seval];refine aP _ _ ?_;refine aA fun cU aZ cK=>?_;refine cJ fun dN bO oL cZ=>?_;obtain⟨T,hT⟩:∃ T,T=OT G.bs (j+1) n:=⟨_,rfl⟩;have hTn:T≤n:=by rw[hT];exact SJ
  refine ZE (n:=T) (fun k a' s2=>a'.aB 0=ptr g∧a'.aB 1=int n∧a'.aB 5=int ((j+1:Nat))∧a'.aB 6=int k∧s2=s') ?_ ?_ ?_ (Nat.zero_le _) ?_
  ·rintro k a' s' hk ⟨r0,r1,r5,r6,rfl⟩ TA XC;have w:IntKind.i64.wrap (((j+1:Nat):Int)+(k:Int))=((j+1+k:Nat):Int):=by rw[aU (by omega) (by omega)];rfl
   refine cL [(3,18)] (by kernel_rfl) fun O hO bC hR=>?_;have y3:∀ a,aO O a 3=aY (a.aB 18):=hO (3,18) (by simp);by_cases zW:k<n
   ·have p2:(k:Int)<(n:Int):=by omega
    simp only[RX,seval,y3,r0,r1,r5,r6,p2,decide_true,w];refine aH ?_ (si H ((j+1+k:Nat):Int) ?_)
    ·simp only[RX,seval]
    rw[if_pos ⟨by omega,by omega⟩,Int.toNat_natCast]
    try simp only[RX,seval,y3]
    refine hR _ _ (XC _ _ (G.bs (j+1+k)==0) ?_ ?_ ⟨?_,?_,?_,?_,rfl⟩)
    ·simp only[RX,seval]
    ·rw[beq_iff_eq];constructor
     ·intro h;rcases Nat.lt_or_ge k T with h' | h'
      ·exact h'
      ·obtain rfl:k=T:=by omega
       have:=s_ (bs:=G.bs) (b:=j+1) (n:=n) (by rw[← hT];exact zW);rw[← hT] at this;exact absurd h this
     ·intro h;exact Cw (by rw[← hT];exact h)
    ·simp only[RX,seval,r0]
    ·simp only[RX,seval,r1]
    ·simp only[RX,seval,r5]
    ·simp only[RX,seval,r6]
   ·have p2:¬ (k:Int)<(n:Int):=by omega
    simp only[RX,seval,y3,r1,r6,p2,decide_false];refine hR _ _ (XC _ _ false ?_ ?_ ⟨?_,?_,?_,?_,rfl⟩)
    ·simp only[RX,seval]
    ·constructor
     ·intro h;cases h
     ·intro h;omega
    ·simp only[RX,seval,r0]
    ·simp only[RX,seval,r1]
    ·simp only[RX,seval,r5]
    ·simp only[RX,seval,r6]
  ·rintro k a' s' hk ⟨r0,r1,r5,r6,rfl⟩ TA v1 v2 v3;have w:IntKind.i64.wrap ((k:Int)+1)=((k+1:Nat):Int):=by rw[aU (by omega) (by omega)];rfl
   simp only[RX,seval,r6,w];refine v1 _ _ ⟨?_,?_,?_,?_,rfl⟩
   all_goals try simp only[RX,seval,r0,r1,r5]
  ·rintro a' s' ⟨r0,r1,r5,r6,rfl⟩;refine oL _ _ (aZ _ _ ?_);refine aA fun fE cG dX=>?_;by_cases D_:T=n
   ·have e:((T:Int)==(n:Int))=true:=by rw[D_,beq_self_eq_true]
    simp only[RX,seval,r1,r6,e];refine cG _ _ ?_;simp only[RX,seval,r5];refine w3 _ _ _ (by simp) (by simp) (bM _ _ _ (by simp) (by simp) (aL _ _ _ (by simp) ?_));simp only[RX,seval];refine h1 (j+1) (by omega) (by omega) fun i L_ hi2=>?_;have:=Cw (bs:=G.bs) (b:=j+1) (n:=n) (j:=i-(j+1)) (by rw[← hT];omega);rw[show j+1+(i-(j+1))=i by omega] at this;exact this
   ·have e:((T:Int)==(n:Int))=false:=by rw[beq_eq_false_iff_ne];omega
    simp only[RX,seval,r1,r6,e];refine cG _ _ ?_;simp only[RX,seval];refine w1 _ _ ⟨?_,?_,?_,rfl⟩
    all_goals simp only[RX,seval,r0,r1,r5]
  ·refine⟨?_,?_,?_,?_,rfl⟩
   all_goals try simp only[RX,seval,r0,r1,r5]
   try rfl
 ·rintro j a' s' hj ⟨r0,r1,r5,rfl⟩ aV w1;have w:IntKind.i64.wrap (((j+1:Nat):Int)+1)=((j+1+1:Nat):Int):=by rw[aU (by omega) (by omega)];rfl
  simp only[RX,seval,r5,w];refine w1 _ _ ⟨?_,?_,?_,rfl⟩
  all_goals try simp only[RX,seval,r0,r1]
 ·rintro a' s' ⟨r0,r1,r5,rfl⟩;refine pF _ _ (aE _ _ ?_);simp only[RX,seval];exact h2
 ·refine⟨?_,?_,?_,rfl⟩
  all_goals try simp only[RX,seval]
  try rfl
end
open Go.Proofs
set_option maxRecDepth 100000
set_option maxHeartbeats 4000000
def IU (r:Int×Int):List Value:=[int r.1,int r.2]
theorem Oc (r:Int×Int):(IU r).length=2:=rfl
section
variable {kc:Kc} {q:Bool} {s:St} {Φ:Value→St→Prop} {g:Nat} {G:dI} {P:PH}
theorem Od {s:St} (hs:Ok s) {va:Option Addr} {vc:Nat} {l:List (Int×Int)} (hB:bJ s 241 2 (.slice va l.length vc) (l.flatMap IU)) (r:Int×Int) (hl:l.length<100000) :
  ∃ s3,(s.new fun v=>.cells (PT.ofList [int r.1,int r.2]) [] 2 241 false false v)=s3∧∃ a4 c4 s4,oY X s3 #[238,238] [.slice va l.length vc,.slice (some ⟨s.next,0,none⟩) 1 1]=some (.slice a4 (l++[r]).length c4,s4)∧bJ s4 241 2 (.slice a4 (l++[r]).length c4) ((l++[r]).flatMap IU) ∧
   (∀ N,N≤s.next→(∀ y∈nameOf (.slice va l.length vc),N≤y)→∀ y∈nameOf (.slice a4 (l++[r]).length c4),N≤y)∧(∀ a:St,Ok a→aC [] a s→(∀ y∈nameOf (.slice va l.length vc),a.next≤y)→aC [] a s4):=by
 obtain⟨s3,e3,k3,c3,n3⟩:=cI hs (L:=[int r.1,int r.2]) (n:=2) (e:=241) rfl;obtain⟨v,s4,h4,b4,k4,m4,a4,c4,rfl⟩:=iE (X:=X) (t:=238) (e:=241) (N:=2) (B:=16) (z:=.agg #[int 0,int 0]) (x:=.slice (some ⟨s.next,0,none⟩) 1 1) (k:=1) (new:=[int r.1,int r.2]) (by kernel_rfl) (by kernel_rfl) rfl k3.ok (by omega) (hB.aD k3 (by simp)) rfl (lQ (by omega) (c3.bI (i:=0) (k:=2) (Nat.le_refl _))) rfl rfl (by omega) (by omega);refine⟨s3,e3,a4,c4,s4,?_,?_,fun N hN hn y hy=>?_,fun a ha k hn=>(k.trans k3).step k4 fun y hy=>.inr (ha.fresh _ (hn y hy))⟩
 ·rw[List.length_append,List.length_singleton];exact h4
 ·rw[List.flatMap_append,List.flatMap_singleton,List.length_append,List.length_singleton];exact b4
 ·rw[List.length_append,List.length_singleton] at hy;rcases m4 y hy with h | h
  ·exact hn y h
  ·have:=k3.next;omega
theorem eU:type_of% (B9 @RX @dV @dQ @bG @xx @zh @kX @lA (B3 @nS @zO @gL)):=B9 @RX @dV @dQ @bG @xx @zh @kX @lA (B3 @nS @zO @gL)
theorem aEa (hs:Ok s) (H:cM s g G) (S:gX P G.L) (I:P.Inv) {b:Nat} (hb:b<G.N) (hu:G.bs b=1) (hΦ:∀ (l:List (Int×Int)) va vc s',(∀ r∈l,64*(b:Int)≤r.1∧r.1<64*(b:Int)+64)→l.length≤3000→bJ s' 241 2 (.slice va l.length vc) (l.flatMap IU)→(∀ y∈nameOf (.slice va l.length vc),s.next≤y)→aC [] s s'→Φ (.slice va l.length vc) s'):okF q X (KO kc) 242 [ptr g,int b] s Φ:=by
 have hlen:=H.len;have bY:=H.bY;have Jy:=I.bY;refine aW Tryz.func242 (by kernel_rfl) rfl rfl (rs:=[.tmp 4]) rfl (N:=77) rfl rfl ?_;refine aA fun bF aF bD=>?_;simp only[eU,seval];refine aF _ _ ?_;refine aA fun Ψ1 aE aL=>?_;simp only[eU,seval];refine aE _ _ ?_;refine aA fun Ψ2 aI bH=>?_;refine aA fun Ψ3 aN bM=>?_;simp only[eU,seval];refine aH ?_ (si H (b:Int) ?_)
 ·simp only[eU,seval]
 rw[if_pos ⟨by omega,by omega⟩,Int.toNat_natCast,hu]
 try simp only[eU,seval]
 refine aN _ _ ?_;simp only[eU,seval];refine aI _ _ ?_;have wb:IntKind.i64.wrap ((b:Int)*64)=64*(b:Int):=by rw[aU (by omega) (by omega)];omega
 refine aA fun Ψ4 aP cC=>?_;simp only[eU,seval,wb];refine aP _ _ ?_;refine aA fun cU aZ cK=>?_;simp only[eU,seval];refine aH ?_ (aEh (b:=b) hs H S I ?_)
 ·simp only[eU,seval]
 intro l0 oa oc s1 km aHz B0 aI3 k1;simp only[eU,seval];refine aZ _ _ ?_;have H1:=H.aJ k1;refine aA fun dN bO cZ=>?_;refine aA fun fE cG dX=>?_;simp only[eU,seval];refine cG _ _ ?_;refine cJ fun gV cT tQ gA=>?_;refine gB (n:=l0.length) (fun j a' s'=>∃ (l:List (Int×Int)) (va:Option Addr) (vc:Nat) (t:Int),l.length≤j∧a'.aB 0=ptr g∧a'.aB 1=int b∧a'.aB 5=.slice va l.length vc∧a'.aB 6=int t∧a'.aB 7=.slice oa l0.length oc∧a'.aB 8=int j∧(64*(b:Int)≤t∧t≤8192)∧(∀ r∈l,64*(b:Int)≤r.1∧r.1<64*(b:Int)+64)∧bJ s' 241 2 (.slice va l.length vc) (l.flatMap IU)∧(∀ y∈nameOf (.slice va l.length vc),s1.next≤y)∧aC [] s1 s')
  (fun j a' s'=>∃ (l:List (Int×Int)) (va:Option Addr) (vc:Nat) (t:Int),l.length≤j+1∧a'.aB 0=ptr g∧a'.aB 1=int b∧a'.aB 5=.slice va l.length vc∧a'.aB 6=int t∧a'.aB 7=.slice oa l0.length oc∧a'.aB 8=int j∧(64*(b:Int)≤t∧t≤8192)∧(∀ r∈l,64*(b:Int)≤r.1∧r.1<64*(b:Int)+64)∧bJ s' 241 2 (.slice va l.length vc) (l.flatMap IU)∧(∀ y∈nameOf (.slice va l.length vc),s1.next≤y)∧aC [] s1 s') ?_ ?_ ?_ ?_ (Nat.zero_le _) ?_
 ·rintro j a' s' hj ⟨l,va,vc,t,hl,r0,r1,r5,r6,r7,r8,ht,hm,hB,hnm,hk⟩ aV bP;simp only[eU,seval,r7,r8];refine bP _ _ (decide ((j:Int)<l0.length)) ?_ (by simp) ⟨l,va,vc,t,hl,?_,?_,?_,?_,?_,?_,ht,hm,hB,hnm,hk⟩
  all_goals simp only[eU,seval,r0,r1,r5,r6,r7,r8]
 ·rintro j a' s' hj ⟨l,va,vc,t,hl,r0,r1,r5,r6,r7,r8,ht,hm,hB,hnm,hk⟩ aV w1 w2 w3;obtain⟨ob,ZL,rfl⟩:=B0.sl.addr (show 0<l0.length by omega);have p1:(0:Int)≤(j:Int):=Int.natCast_nonneg _;have p2:(j:Int)<((l0.length:Nat):Int):=by omega
  obtain⟨y,hy⟩:∃ y,y=l0[j]:=⟨_,rfl⟩;have X1:y∈l0:=by rw[hy];exact List.getElem_mem hj
  obtain⟨hy1,o,ho,Fk⟩:=km y X1;have qi:∀ t:St,aC [] s1 t→aG t.look ⟨ob,ZL+j,none⟩=some (int y):=fun t k=>by
   refine(B0.aD k (by simp)).sl.load ?_;rw[List.getElem?_map,List.getElem?_eq_getElem hj,hy];rfl
  have ly:=qi s' hk;have hsz:=PH.size_pos I.bX (S.has ho);have hok:=S.ok o ho;have aId:P.size o.a=o.sh.words:=by unfold PH.size;rw[hok.sh]
  have uN:=o.sh.CZ;refine aA fun jC dK iK=>?_;have step:∀ (a':aK) (s':St) (l:List (Int×Int)) (va:Option Addr) (vc:Nat),l.length≤j+1→a'.aB 0=ptr g→a'.aB 1=int b→a'.aB 5=.slice va l.length vc→a'.aB 7=.slice (some ⟨ob,ZL,none⟩) l0.length oc→a'.aB 8=int j→(∀ r∈l,64*(b:Int)≤r.1∧r.1<64*(b:Int)+64) →
    bJ s' 241 2 (.slice va l.length vc) (l.flatMap IU)→(∀ y∈nameOf (.slice va l.length vc),s1.next≤y)→aC [] s1 s'→jC .normal a' s':=by
   intro a' s' l va vc hl r0 r1 r5 r7 r8 hm hB hnm hk;have H':=H1.aJ hk;have ly:=qi s' hk;have ks:aC [] s' (s'.skip 40):=aC.skip hk.ok _;refine dK _ _ ?_;refine dG [(3,13),(7,13),(3,17)] [ob,g] [] (by kernel_rfl) (by kernel_rfl) (by rfl) fun O hO bC hR=>?_;simp only[eU,seval,r0,r7,r8,p1,p2,and_self,bQ,Int.toNat_natCast,Nat.mul_one,ly,H'.l1];refine dL ?_ (IN (H'.aJ ks) y (fun i hi he=>?_) (fun hn=>?_))
   ·simp only[eU,seval]
   ·obtain⟨vb,dW,hv⟩:=H'.addr (show 0<G.L.length by omega);have q1:(0:Int)≤(i:Int):=Int.natCast_nonneg _;have q2:(i:Int)<((G.L.length:Nat):Int):=by omega
    have hoi:G.L[i].a=o.a:=by rw[he,Fk]
    have R6:=S.ok _ (List.getElem_mem hi);have U1:G.L[i].sh=o.sh:=by rw[R6.sh,hok.sh,hoi]
    have l2:bI s'.look ⟨vb,dW+i*8+2,none⟩ 3=some [int o.sh.r,int o.sh.d,int o.sh.k]:=by
     rw[← U1];have h:=H'.cl.sl;rw[hv] at h;have:=h.bI (i:=i*8+2) (k:=3) (by omega) (by rw[vO cS.qB];omega);rw[← Nat.add_assoc] at this;rw[this];congr 1;apply List.ext_getElem?;intro k;by_cases hk3:k<3
     ·rw[List.getElem?_take,if_pos hk3,List.getElem?_drop,Nat.add_assoc,zU cS.qB _ hi (by omega)];rcases k with _ | _ | _ | k
      ·try rfl
      ·try rfl
      ·try rfl
      ·omega
     ·rw[List.getElem?_eq_none (by rw[List.length_take];omega),List.getElem?_eq_none (by simp;omega)]
    have SA:∀ t:St,aC [] (s'.skip 40) t→fJ (s'.skip 40) t ob=true:=fun t k=>CK (qi _ (hk.trans ks)) ks.ok k (by simp);have Og:∀ t:St,aC [] (s'.skip 40) t→fJ (s'.skip 40) t g=true:=fun t k=>(H'.aJ ks).c.same ks.ok k (by simp);simp only[eU,seval,hv,q1,q2,and_self,bQ,Int.toNat_natCast,l2];refine⟨eP (SA _ (.refl ks.ok)) (eP (Og _ (.refl ks.ok)) fO),?_⟩;refine dL ?_ (IP ks.ok o.sh fun s2 k2=>?_)
    ·simp only[eU,seval]
    have wy:IntKind.i64.wrap (y+o.sh.words)=y+o.sh.words:=aU (by omega) (by omega);simp only[eU,seval,wy];refine⟨eP (SA _ k2) (eP (Og _ k2) fO),hR _ _ (w1 _ _ ⟨l,va,vc,y+o.sh.words,hl,?_,?_,?_,?_,?_,?_,⟨by omega,by omega⟩,hm,?_,hnm,hk.trans (ks.trans k2)⟩)⟩
    ·simp only[eU,seval,r0]
    ·simp only[eU,seval,r1]
    ·simp only[eU,seval,r5]
    ·simp only[eU,seval]
    ·simp only[eU,seval,r7]
    ·simp only[eU,seval,r8]
    ·exact hB.aD (ks.trans k2) (by simp)
   ·exact absurd Fk (hn o ho)
  refine aA fun lO eG kY=>?_;simp only[eU,seval,r6,r7,r8,p1,p2,and_self,bQ,Int.toNat_natCast,Nat.mul_one,ly];refine eG _ _ ?_;by_cases hc:y>t
  ·have wd:IntKind.i64.wrap (y-t)=y-t:=aU (by omega) (by omega);obtain⟨s3,e3,a4,c4,s4,h4,b4,m4,k4⟩:=Od hk.ok hB (t,y-t) (by omega);simp only[eU,seval,hc,decide_true,r5,r6,r7,r8,p1,p2,and_self,bQ,Int.toNat_natCast,Nat.mul_one,ly,wd];rw[e3];refine iS ?_ h4 ?_
   ·simp only[eU,seval]
   simp only[eU,seval];refine step _ s4 (l++[(t,y-t)]) a4 c4 (by rw[List.length_append,List.length_singleton];omega) ?_ ?_ ?_ ?_ ?_ (fun r hr=>?_) b4 (m4 _ hk.next hnm) (k4 _ k1.ok hk hnm)
   ·simp only[eU,seval,r0]
   ·simp only[eU,seval,r1]
   ·simp only[eU,seval]
   ·simp only[eU,seval,r7]
   ·simp only[eU,seval,r8]
   ·rcases List.mem_append.1 hr with h | h
    ·exact hm r h
    ·rw[List.mem_singleton.1 h];exact⟨ht.1,by show t<_;omega⟩
  ·simp only[eU,seval,hc,decide_false];refine step _ s' l va vc (by omega) ?_ ?_ ?_ ?_ ?_ hm hB hnm hk
   ·simp only[eU,seval,r0]
   ·simp only[eU,seval,r1]
   ·simp only[eU,seval,r5]
   ·simp only[eU,seval,r7]
   ·simp only[eU,seval,r8]
 ·rintro j a' s' hj ⟨l,va,vc,t,hl,r0,r1,r5,r6,r7,r8,ht,hm,hB,hnm,hk⟩ aV w1;have w:IntKind.i64.wrap ((j:Int)+1)=((j+1:Nat):Int):=by rw[aU (by omega) (by omega)];rfl
  simp only[eU,seval,r8,w];refine w1 _ _ ⟨l,va,vc,t,hl,?_,?_,?_,?_,?_,?_,ht,hm,hB,hnm,hk⟩
  all_goals try simp only[eU,seval,r0,r1,r5,r6,r7]
 ·rintro a' s' ⟨l,va,vc,t,hl,r0,r1,r5,r6,r7,r8,ht,hm,hB,hnm,hk⟩;refine tQ _ _ (bO _ _ ?_);have wb1:IntKind.i64.wrap ((b:Int)+1)=(b:Int)+1:=aU (by omega) (by omega);have wb2:IntKind.i64.wrap (((b:Int)+1)*64)=64*(b:Int)+64:=by rw[aU (by omega) (by omega)];omega
  refine aA fun rE jI pS=>?_;refine aA fun sF iY rQ=>?_;simp only[eU,seval,r1,wb1,wb2];refine iY _ _ ?_;refine aA fun wV lU vU=>?_;simp only[eU,seval,r6];refine lU _ _ ?_;by_cases hc:t<64*(b:Int)+64
  ·have wd:IntKind.i64.wrap (64*(b:Int)+64-t)=64*(b:Int)+64-t:=aU (by omega) (by omega);obtain⟨s3,e3,a4,c4,s4,h4,b4,m4,k4⟩:=Od hk.ok hB (t,64*(b:Int)+64-t) (by omega);simp only[eU,seval,hc,decide_true,r5,r6,wd];rw[e3];refine iS ?_ h4 ?_
   ·simp only[eU,seval]
   simp only[eU,seval];refine jI _ _ ?_;simp only[eU,seval];refine hΦ (l++[(t,64*(b:Int)+64-t)]) a4 c4 s4 (fun r hr=>?_) (by rw[List.length_append,List.length_singleton];omega) b4 (fun y hy=>by have:=m4 _ hk.next hnm y hy;have:=k1.next;omega) (k1.trans (k4 _ k1.ok hk hnm));rcases List.mem_append.1 hr with h | h
   ·exact hm r h
   ·rw[List.mem_singleton.1 h];exact⟨ht.1,hc⟩
  ·simp only[eU,seval,hc,decide_false];refine jI _ _ ?_;simp only[eU,seval,r5];exact hΦ l va vc s' hm (by omega) hB (fun y hy=>by have:=hnm y hy;have:=k1.next;omega) (k1.trans hk)
 ·refine⟨[],none,0,64*(b:Int),Nat.le_refl _,?_,?_,?_,?_,?_,?_,⟨Int.le_refl _,by omega⟩,fun r hr=>(by cases hr),.nil,fun y hy=>(by simp[nameOf] at hy),.refl k1.ok⟩
  all_goals try simp only[eU,seval]
  all_goals rfl
end
open Go.Proofs
set_option maxRecDepth 100000
set_option maxHeartbeats 4000000
section
variable {kc:Kc} {q:Bool} {s:St} {Φ:Value→St→Prop} {g:Nat} {G:dI} {P:PH}
theorem gG:type_of% (B7 @RX @Im @Gy @Bk @bG @gL @Bj):=B7 @RX @Im @Gy @Bk @bG @gL @Bj
theorem aE9 (hs:Ok s) (H:cM s g G) (S:gX P G.L) (I:P.Inv) (x:cO) (sp:Int) (h1:∀ (a:Int) (b:Nat) s',1≤b→b<G.N→G.bs b=1→64*(b:Int)≤a→a<64*(b:Int)+64→aC [] s s'→Φ (.tuple #[int a,.bool true]) s') (h2:∀ s',aC [] s s'→Φ (.tuple #[int 0,.bool false]) s') :
  okF q X (KO kc) 212 [ptr g,pK x,int sp] s Φ:=by
 have bY:=H.bY;have n2:=H.n2;refine aW Tryz.func212 (by kernel_rfl) rfl rfl (rs:=[.tmp 6,.tmp 7]) rfl (N:=50) rfl rfl ?_;refine aA fun bF aF bD=>?_;simp only[gG,seval];obtain⟨s1,e1,k1,c1,n1⟩:=cI hs (L:=[int x.r,int x.d,int x.k]) (n:=3) (e:=44) rfl;rw[e1];refine aF _ _ ?_;have H1:=H.aJ k1;refine aA fun Ψ1 aE aL=>?_;refine aA fun Ψ2 aI bH=>?_;simp only[gG,seval];refine aI _ _ ?_;refine cJ fun Ψ3 aN pF bM=>?_;refine gB (n:=G.N-1) (fun j a' s'=>a'.aB 0=ptr g∧a'.aB 2=int sp∧a'.aB 4=ptr s.next∧a'.aB 8=int ((j+1:Nat))∧aC [] s1 s') (fun j a' s'=>a'.aB 0=ptr g∧a'.aB 2=int sp∧a'.aB 4=ptr s.next∧a'.aB 8=int ((j+1:Nat))∧aC [] s1 s') ?_ ?_ ?_ ?_ (Nat.zero_le _) ?_
 ·rintro j a' s' hj ⟨r0,r2,r4,r8,hk⟩ aV bP;simp only[gG,seval,r0,r8];refine aH ?_ (Mu (H1.aJ hk) ?_)
  ·simp only[gG,seval]
  try simp only[gG,seval]
  refine bP _ _ (decide (((j+1:Nat):Int)<G.N)) ?_ (by rw[decide_eq_true_eq];omega) ⟨?_,?_,?_,?_,hk⟩
  all_goals simp only[gG,seval,r0,r2,r4,r8]
 ·rintro j a' s' hj ⟨r0,r2,r4,r8,hk⟩ aV w1 w2 w3;have H':=H1.aJ hk;refine aA fun Ψ4 aP cC=>?_;have kQ:∀ a':aK,a'.aB 0=ptr g→a'.aB 2=int sp→a'.aB 4=ptr s.next→a'.aB 8=int ((j+1:Nat))→G.bs (j+1)=1→Ψ4 .normal a' s':=by
   intro a' r0 r2 r4 r8 rN;refine aP _ _ ?_;refine aA fun cU aZ cK=>?_;simp only[gG,seval,r0,r8];refine aH ?_ (aEa (b:=j+1) hk.ok H' S I (by omega) rN ?_)
   ·simp only[gG,seval]
   intro l va vc s2 hl hll B2 zY k2;simp only[gG,seval];refine aZ _ _ ?_;refine aA fun dN bO cZ=>?_;simp only[gG,seval];refine bO _ _ ?_;refine cJ fun fE cG xU dX=>?_;refine gB (n:=l.length) (fun i a' s'=>a'.aB 0=ptr g∧a'.aB 2=int sp∧a'.aB 4=ptr s.next∧a'.aB 8=int ((j+1:Nat))∧a'.aB 9=.slice va l.length vc∧a'.aB 10=int i∧aC [] s2 s') (fun i a' s'=>a'.aB 0=ptr g∧a'.aB 2=int sp∧a'.aB 4=ptr s.next∧a'.aB 8=int ((j+1:Nat))∧a'.aB 9=.slice va l.length vc∧a'.aB 10=int i∧aC [] s2 s') ?_ ?_ ?_ ?_ (Nat.zero_le _) ?_
   ·rintro i a' s3 hi ⟨r0,r2,r4,r8,r9,cH,hk3⟩ TA XC;simp only[gG,seval,r9,cH];refine XC _ _ (decide ((i:Int)<l.length)) ?_ (by simp) ⟨?_,?_,?_,?_,?_,?_,hk3⟩
    all_goals simp only[gG,seval,r0,r2,r4,r8,r9,cH]
   ·rintro i a' s3 hi ⟨r0,r2,r4,r8,r9,cH,hk3⟩ TA v1 v2 v3;obtain⟨rb,Nl,rfl⟩:=B2.sl.addr (show 0<l.length by omega);have p1:(0:Int)≤(i:Int):=Int.natCast_nonneg _;have p2:(i:Int)<((l.length:Nat):Int):=by omega
    have lk:∀ t:St,aC [] s2 t→aG t.look ⟨rb,Nl+i*2,none⟩=some (int l[i].1)∧aG t.look ⟨rb,Nl+i*2+1,none⟩=some (int l[i].2):=fun t k=>by
     have hsl:=(B2.aD k (by simp)).sl;refine⟨hsl.load (i:=i*2) ?_,?_⟩
     ·have:=zU Oc l hi (show 0<2 by omega);exact this
     ·have:=hsl.load (i:=i*2+1) (v:=int l[i].2) (by rw[zU Oc l hi (by omega)];rfl);rw[← Nat.add_assoc] at this;exact this
    obtain⟨Iq,pv⟩:=lk s3 hk3;have kZ:aC [] s1 s3:=(hk.trans k2).trans hk3;have BY:=(c1.aD kZ (by simp)).bI (i:=0) (k:=3) (Nat.le_refl _);have ks:aC [] s3 (s3.skip 16):=aC.skip hk3.ok _;refine aA fun gV cT gA=>?_;refine dG [(4,6)] [rb] [] (by kernel_rfl) (by kernel_rfl) (by rfl) fun O hO bC hR=>?_;simp only[gG,seval,r4,r9,cH,p1,p2,and_self,bQ,Int.toNat_natCast,pv,BY,List.drop_zero,List.take];refine dL ?_ (IP ks.ok x fun s4 k4=>?_)
    ·simp only[gG,seval]
    have SA:fJ (s3.skip 16) s4 rb=true:=CK (lk _ (hk3.trans ks)).1 ks.ok k4 (by simp);have kB:=(hk3.trans ks).trans k4;have aB1:=(lk s4 kB).1;by_cases hc:l[i].2≥x.words
    ·simp only[gG,seval,hc,decide_true];refine⟨eP SA fO,hR _ _ (cT _ _ ?_)⟩;simp only[gG,seval,r9,cH,p1,p2,and_self,bQ,Int.toNat_natCast,aB1];refine v3 _ _ _ (by simp) (by simp) (dX _ _ _ (by simp) (by simp) (w3 _ _ _ (by simp) (by simp) (bM _ _ _ (by simp) (by simp) (aL _ _ _ (by simp) ?_))));simp only[gG,seval];have hr:=hl l[i] (List.getElem_mem hi);exact h1 l[i].1 (j+1) s4 (by omega) (by omega) rN hr.1 hr.2 (((k1.trans hk).trans k2).trans kB)
    ·simp only[gG,seval,hc,decide_false];refine⟨eP SA fO,hR _ _ (cT _ _ ?_)⟩;simp only[gG,seval];refine v1 _ _ ⟨?_,?_,?_,?_,?_,?_,kB⟩
     all_goals simp only[gG,seval,r0,r2,r4,r8,r9,cH]
   ·rintro i a' s3 hi ⟨r0,r2,r4,r8,r9,cH,hk3⟩ TA v1;have w:IntKind.i64.wrap ((i:Int)+1)=((i+1:Nat):Int):=by rw[aU (by omega) (by omega)];rfl
    simp only[gG,seval,cH,w];refine v1 _ _ ⟨?_,?_,?_,?_,?_,?_,hk3⟩
    all_goals try simp only[gG,seval,r0,r2,r4,r8,r9]
   ·rintro a' s3 ⟨r0,r2,r4,r8,r9,cH,hk3⟩;exact xU _ _ (w1 _ _ ⟨r0,r2,r4,r8,(hk.trans k2).trans hk3⟩)
   ·refine⟨?_,?_,?_,?_,?_,?_,.refl k2.ok⟩
    all_goals try simp only[gG,seval,r0,r2,r4,r8]
    try rfl
  refine aA fun jC dK iK=>?_;refine cL [(4,21)] (by kernel_rfl) fun O hO bC hR=>?_;have y4:∀ a,aO O a 4=aY (a.aB 21):=hO (4,21) (by simp);simp only[gG,seval,r0,r8];refine aH ?_ (si H' ((j+1:Nat):Int) ?_)
  ·simp only[gG,seval]
  rw[if_pos ⟨by omega,by omega⟩,Int.toNat_natCast];by_cases rN:G.bs (j+1)=1
  ·simp only[gG,seval,y4,rN,beq_self_eq_true,r0,r8];refine aH ?_ (aEq H' ((j+1:Nat):Int) ?_)
   ·simp only[gG,seval]
   rw[if_pos ⟨by omega,by omega⟩,Int.toNat_natCast];cases hsp:(G.bp (j+1)==sp) with
   | true =>
    simp only[gG,seval,y4,r2,hsp];refine hR _ _ (dK _ _ ?_);simp only[gG,seval];refine kQ _ ?_ ?_ ?_ ?_ rN
    all_goals simp only[gG,seval,r0,r2,r4,r8]
   | false =>
    simp only[gG,seval,y4,r2,hsp];refine hR _ _ (dK _ _ ?_);simp only[gG,seval];refine cC _ _ _ (by simp) (w2 _ _ ⟨?_,?_,?_,?_,hk⟩)
    all_goals simp only[gG,seval,r0,r2,r4,r8]
  ·have G0:(G.bs (j+1)==1)=false:=by simpa using rN
   simp only[gG,seval,y4,G0];refine hR _ _ (dK _ _ ?_);simp only[gG,seval];refine cC _ _ _ (by simp) (w2 _ _ ⟨?_,?_,?_,?_,hk⟩)
   all_goals simp only[gG,seval,r0,r2,r4,r8]
 ·rintro j a' s' hj ⟨r0,r2,r4,r8,hk⟩ aV w1;have w:IntKind.i64.wrap (((j+1:Nat):Int)+1)=((j+1+1:Nat):Int):=by rw[aU (by omega) (by omega)];rfl
  simp only[gG,seval,r8,w];refine w1 _ _ ⟨?_,?_,?_,?_,hk⟩
  all_goals try simp only[gG,seval,r0,r2,r4]
 ·rintro a' s' ⟨r0,r2,r4,r8,hk⟩;refine pF _ _ (aE _ _ ?_);simp only[gG,seval];exact h2 s' (k1.trans hk)
 ·refine⟨?_,?_,?_,?_,.refl k1.ok⟩
  all_goals try simp only[gG,seval]
  try rfl
def PH.sM (P:PH) (b:Nat) (x:cO) (sp:Int):PH:=if x.words>32 then P.oA b ((x.words+63)/64).toNat 2 sp 3 sp else P.oA b 1 1 sp 0 0
theorem fS:type_of% (B2 @RX @gL):=B2 @RX @gL
theorem aE8 (hs:Ok s) (H:cM s g G) (S:iW P G) (I:P.Inv) (x:cO) (hx:x.valid=true) {sp:Int} (hsp:0≤sp∧sp<8)
  (h0:∀ s',aC [] s s'→Φ (.tuple #[int 0,.bool false]) s')
  (h1:∀ (a:Int) (b:Nat) s',1≤b→b<P.N→P.bs b=1→64*(b:Int)≤a→a<64*(b:Int)+64→aC [] s s'→Φ (.tuple #[int a,.bool true]) s')
  (h2:∀ (b:Nat) G' s',1≤b→b+(if x.words>32 then((x.words+63)/64).toNat else 1)≤P.N→(∀ j,b≤j→j<b+(if x.words>32 then((x.words+63)/64).toNat else 1)→P.bs j=0)→cM s' g G'→iW (P.sM b x sp) G'→G'.L=G.L→G'.aS g=G.aS g→aC [G.bn] s s'→Φ (.tuple #[int (64*(b:Int)),.bool true]) s') :
  okF q X (KO kc) 141 [ptr g,pK x,int sp] s Φ:=by
 have bY:=H.bY;have hN:=S.N;have rN:=S.bs;have hw:=cO.uC hx;have mo:=x.CZ;unfold PH.sM at h2;refine aW Tryz.func141 (by kernel_rfl) rfl rfl (rs:=[.tmp 6,.tmp 7]) rfl (N:=50) rfl rfl ?_;refine aA fun bF aF bD=>?_;simp only[fS,seval];obtain⟨s1,e1,k1,c1,n1⟩:=cI hs (L:=[int x.r,int x.d,int x.k]) (n:=3) (e:=44) rfl;rw[e1];refine aF _ _ ?_;have BY:=c1.bI (i:=0) (k:=3) (Nat.le_refl _);refine aA fun Ψ1 aE aL=>?_;refine aA fun Ψ2 aI bH=>?_;simp only[fS,seval,BY,List.drop_zero,List.take];refine aH ?_ (sf k1.ok x fun s2 k2=>?_)
 ·simp only[fS,seval]
 simp only[fS,seval];refine aI _ _ ?_;have dD:=k1.trans k2;have c2:=c1.aD k2 (by simp);have BZ:=c2.bI (i:=0) (k:=3) (Nat.le_refl _);by_cases hl:x.words>32
 ·simp only[if_pos hl] at h2;obtain⟨m,hm⟩:∃ m,m=((x.words+63)/64).toNat:=⟨_,rfl⟩;have hm':(x.words+63)/64=(m:Int):=by omega
  rw[← hm] at h2;simp only[dA,RV,RG,seval,hl,decide_true];refine aA fun Ψ3 aN bM=>?_;simp only[fS,seval,BZ,List.drop_zero,List.take];refine aH ?_ (sg k2.ok x fun s3 k3=>?_)
  ·simp only[fS,seval]
  rw[hm'];simp only[fS,seval];refine aN _ _ ?_;have fC:=dD.trans k3;have H3:=H.aJ fC;refine aA fun Ψ4 aP cC=>?_;simp only[fS,seval];refine aH ?_ (Mw H3 (n:=m) (by omega) (by omega) (fun b hb1 hb2 hf=>?_) ?_)
  ·simp only[fS,seval]
  ·simp only[fS,seval];refine aP _ _ ?_;have e0:((b:Int)==0)=false:=by rw[beq_eq_false_iff_ne];omega
   refine aA fun cU aZ cK=>?_;refine aA fun dN bO cZ=>?_;simp only[fS,seval,e0];refine bO _ _ ?_;simp only[fS,seval];refine aZ _ _ ?_;have wb:IntKind.i64.wrap ((b:Int)*64)=64*(b:Int):=by rw[aU (by omega) (by omega)];omega
   simp only[fS,seval,wb];refine aH ?_ (aE5 (p:=b) (m:=m) fC.ok H3 hb1 (by omega) hb2 hsp hf fun s4 H4 k4=>?_)
   ·simp only[fS,seval]
   simp only[fS,seval];refine aL _ _ _ (by simp) ?_;simp only[fS,seval];refine h2 b _ s4 hb1 (by omega) (fun j a b'=>by rw[← rN];exact hf j a b') H4 ⟨S.N,?_,?_,S.born,⟨S.L.all,fun o ho=>?_⟩⟩ rfl rfl (fC.any.trans k4)
   ·show dM _ b 2=dM _ b 2;unfold dI.fill;rw[rN]
   ·show (fun j=>if b≤j∧j<b+m then sp else G.bp j)=dM (fun j=>if b≤j∧j<b+m then sp else P.bp j) b sp;rw[S.bp];funext j;unfold dM;by_cases e:j=b
    ·rw[if_pos e,if_pos (by omega)]
    ·rw[if_neg e]
   ·have:=S.L.ok o ho;exact⟨this.id,this.sh,this.rs,this.ds,this.fD⟩
  ·simp only[fS,seval];refine aP _ _ ?_;refine aA fun cU aZ cK=>?_;refine aA fun dN bO cZ=>?_;simp only[fS,seval];refine bO _ _ ?_;simp only[fS,seval];refine cK _ _ _ (by simp) (aL _ _ _ (by simp) ?_);simp only[fS,seval];exact h0 s3 fC
 ·simp only[if_neg hl] at h2;simp only[dA,RV,RG,seval,hl,decide_false];simp only[fS,seval];refine aE _ _ ?_;have H2:=H.aJ dD;refine aA fun fE cG dX=>?_;refine aA fun gV cT gA=>?_;simp only[fS,seval,BZ,List.drop_zero,List.take];refine aH ?_ (aE9 k2.ok H2 S.L I x sp (fun a b s3 hb1 hb2 G3 VT VU k3=>?_) (fun s3 k3=>?_))
  ·simp only[fS,seval]
  ·simp only[fS,seval];refine cT _ _ ?_;refine aA fun jC dK iK=>?_;simp only[fS,seval];refine dK _ _ ?_;simp only[fS,seval];refine dX _ _ _ (by simp) ?_;simp only[fS,seval];exact h1 a b s3 hb1 (by omega) (by rw[← rN];exact G3) VT VU (dD.trans k3)
  ·simp only[fS,seval];refine cT _ _ ?_;refine aA fun jC dK iK=>?_;simp only[fS,seval];refine dK _ _ ?_;simp only[fS,seval];refine cG _ _ ?_;have fC:=dD.trans k3;have H3:=H.aJ fC;refine aA fun lO eG kY=>?_;simp only[fS,seval];refine aH ?_ (Mw H3 (n:=1) (by omega) (by omega) (fun b hb1 hb2 hf=>?_) ?_)
   ·simp only[fS,seval]
    try rfl
   ·simp only[fS,seval];refine eG _ _ ?_;have e0:((b:Int)==0)=false:=by rw[beq_eq_false_iff_ne];omega
    refine aA fun rE jI pS=>?_;refine aA fun sF iY rQ=>?_;simp only[fS,seval,e0];refine iY _ _ ?_;simp only[fS,seval];refine jI _ _ ?_;have wb:IntKind.i64.wrap ((b:Int)*64)=64*(b:Int):=by rw[aU (by omega) (by omega)];omega
    simp only[fS,seval,wb];refine aH ?_ (aE4 (b:=b) fC.ok H3 hb1 (by omega) hsp (hf b (Nat.le_refl _) (by omega)) fun s4 H4 k4=>?_)
    ·simp only[fS,seval]
    simp only[fS,seval];refine h2 b _ s4 hb1 (by omega) (fun j a b'=>by rw[← rN];exact hf j a b') H4 ⟨S.N,?_,?_,S.born,⟨S.L.all,fun o ho=>?_⟩⟩ rfl rfl (fC.any.trans k4)
    ·show dM G.bs b 1=dM (fun j=>if b≤j∧j<b+1 then 0 else P.bs j) b 1;rw[rN];funext j;unfold dM;by_cases e:j=b
     ·rw[if_pos e,if_pos e]
     ·rw[if_neg e,if_neg e];simp only;rw[if_neg (by omega)]
    ·show dM G.bp b sp=dM (fun j=>if b≤j∧j<b+1 then 0 else P.bp j) b sp;rw[S.bp];funext j;unfold dM;by_cases e:j=b
     ·rw[if_pos e,if_pos e]
     ·rw[if_neg e,if_neg e];simp only;rw[if_neg (by omega)]
    ·have:=S.L.ok o ho;exact⟨this.id,this.sh,this.rs,this.ds,this.fD⟩
   ·simp only[fS,seval];refine eG _ _ ?_;refine aA fun rE jI pS=>?_;refine aA fun sF iY rQ=>?_;simp only[fS,seval];refine iY _ _ ?_;simp only[fS,seval];refine pS _ _ _ (by simp) ?_;simp only[fS,seval];exact h0 s3 fC
end
open Go.Proofs
set_option maxRecDepth 100000
set_option maxHeartbeats 4000000
structure RQ where
 sa:Option Addr
 sc:Nat
 rows:List Nat
 gn:Nat
 va:Option Addr
 vc:Nat
abbrev AY (n:Nat):Value:=.slice (some ⟨n,0,none⟩) 16 16
def RQ.own (r:Nat) (Q:RQ):List Nat:=r::Q.gn::Q.rows
structure gH (s:St) (r:Nat) (Q:RQ) (R:PR):Prop where
 c:Obj s r [.slice Q.sa R.m Q.sc,.slice (some ⟨Q.gn,0,none⟩) 16 16,.slice Q.va R.q.length Q.vc]
 cs:bJ s 62 1 (.slice Q.sa R.m Q.sc) (Q.rows.map AY)
 rl:Q.rows.length=R.m
 cr:∀ k (hk:k<Q.rows.length),Obj s Q.rows[k] (row 16 fun i=>int (R.sl (k*16+i)))
 cg:Obj s Q.gn (row 16 fun i=>int (R.gl i))
 cq:bJ s 3 1 (.slice Q.va R.q.length Q.vc) (R.q.map int)
 nd:(Q.own r).Nodup
 ns:∀ b∈nameOf (.slice Q.sa R.m Q.sc),b∉Q.own r∧b∉nameOf (.slice Q.va R.q.length Q.vc)
 nq:∀ b∈nameOf (.slice Q.va R.q.length Q.vc),b∉Q.own r
 m1:1≤R.m
 m4:R.m≤4
 ql:R.q.length≤64
def RQ.aS (r:Nat) (Q:RQ) (R:PR):List Nat:=Q.own r++nameOf (.slice Q.sa R.m Q.sc)++nameOf (.slice Q.va R.q.length Q.vc)
namespace gH
variable {F:List Nat} {s s':St} {r:Nat} {Q:RQ} {R:PR}
theorem congr {R':PR} (H:gH s r Q R) (h1:R'.m=R.m) (h2:R'.sl=R.sl) (h3:R'.gl=R.gl) (h4:R'.q=R.q):gH s r Q R':=by
 rcases R with ⟨a1,a2,a3,a4,a5,m,sl,gl,q⟩;rcases R' with ⟨b1,b2,b3,b4,b5,m',sl',gl',q'⟩;simp only at h1 h2 h3 h4;subst h1 h2 h3 h4;obtain⟨c,cs,rl,cr,cg,cq,nd,ns,nq,m1,m4,ql⟩:=H;exact⟨c,cs,rl,cr,cg,cq,nd,ns,nq,m1,m4,ql⟩
theorem aD (H:gH s r Q R) (k:aC F s s') (hF:∀ x∈Q.aS r R,x∉F):gH s' r Q R:=by
 obtain⟨c,cs,rl,cr,cg,cq,nd,ns,nq,m1,m4,ql⟩:=H;have o:∀ x∈Q.own r,x∉F:=fun x hx=>hF x (List.mem_append_left _ (List.mem_append_left _ hx));exact⟨c.aD k (o _ (List.mem_cons_self ..)),cs.aD k (fun b hb=>hF b (List.mem_append_left _ (List.mem_append_right _ hb))),rl,
  fun i hi=>(cr i hi).aD k (o _ (List.mem_cons_of_mem _ (List.mem_cons_of_mem _ (List.getElem_mem hi)))),cg.aD k (o _ (List.mem_cons_of_mem _ (List.mem_cons_self ..))),
  cq.aD k (fun b hb=>hF b (List.mem_append_right _ hb)),nd,ns,nq,m1,m4,ql⟩
theorem aJ (H:gH s r Q R) (k:aC [] s s'):gH s' r Q R:=H.aD k fun _ _=>by simp
theorem l0 (H:gH s r Q R):aG s.look ⟨r,0,none⟩=some (.slice Q.sa R.m Q.sc):=H.c.load rfl
theorem l1 (H:gH s r Q R):aG s.look ⟨r,1,none⟩=some (.slice (some ⟨Q.gn,0,none⟩) 16 16):=H.c.load rfl
theorem l2 (H:gH s r Q R):aG s.look ⟨r,2,none⟩=some (.slice Q.va R.q.length Q.vc):=H.c.load rfl
theorem eM (H:gH s r Q R) (hs:Ok s):∀ x∈Q.aS r R,x<s.next:=by
 intro x hx;rcases List.mem_append.1 hx with hx | hx
 ·rcases List.mem_append.1 hx with hx | hx
  ·rcases List.mem_cons.1 hx with rfl | hx
   ·exact H.c.lt hs
   ·rcases List.mem_cons.1 hx with rfl | hx
    ·exact H.cg.lt hs
    ·obtain⟨i,hi,rfl⟩:=List.mem_iff_getElem.1 hx;exact(H.cr i hi).lt hs
  ·exact H.cs.lt hs x hx
 ·exact H.cq.lt hs x hx
end gH
section
variable {kc:Kc} {q:Bool} {s:St} {Φ:Value→St→Prop} {r:Nat} {Q:RQ} {R:PR}
theorem uc:type_of% (B6 @RX @Ki @Kd @rK @rU @wE):=B6 @RX @Ki @Kd @rK @rU @wE
theorem MX (H:gH s r Q R) (hΦ:Φ (.bool true) s):okF q X (KO kc) 93 [ptr r] s Φ:=by
 have n2:=H.m1;have hp:((R.m:Nat):Int)>0:=by omega
 refine aW Tryz.func93 (by kernel_rfl) rfl rfl (rs:=[.tmp 2]) rfl (N:=13) rfl rfl ?_;refine aA fun bF aF bD=>?_;simp only[uc,seval];refine aF _ _ ?_;refine aA fun Ψ1 aE aL=>?_;refine cL [(2,5)] (by kernel_rfl) fun O hO bC hR=>?_;have y2:∀ a,aO O a 2=aY (a.aB 5):=hO (2,5) (by simp);simp only[uc,seval,y2,H.l0,hp,decide_true];refine hR _ _ (aE _ _ ?_);simp only[uc,seval];exact hΦ
theorem NI:type_of% (B4 @RX @rK @rU @wE):=B4 @RX @rK @rU @wE
theorem aFj (H:gH s r Q R) (hΦ:Φ (int R.m) s):okF q X (KO kc) 192 [ptr r] s Φ:=by
 refine aW Tryz.func192 (by kernel_rfl) rfl rfl (rs:=[.tmp 2]) rfl (N:=11) rfl rfl ?_;refine aA fun bF aF bD=>?_;simp only[NI,seval];refine aF _ _ ?_;refine aA fun Ψ1 aE aL=>?_;refine aA fun Ψ2 aI bH=>?_;simp only[NI,seval];refine aH ?_ (MX H ?_)
 ·simp only[NI,seval]
 try simp only[NI,seval]
 refine aI _ _ ?_;simp only[NI,seval];refine aE _ _ ?_;simp only[NI,seval,H.l0];exact hΦ
theorem CO:type_of% (B4 @RX @tI @rL @dF):=B4 @RX @tI @rL @dF
theorem aFm (hs:Ok s) (H:gH s r Q R) (hΦ:∀ va vc s',aC [] s s'→Φ (.slice va R.q.length vc) s'):okF q X (KO kc) 150 [ptr r] s Φ:=by
 have PS:=H.ql;refine aW Tryz.func150 (by kernel_rfl) rfl rfl (rs:=[.tmp 2]) rfl (N:=12) rfl rfl ?_;refine aA fun bF aF bD=>?_;simp only[CO,seval];refine aF _ _ ?_;refine aA fun Ψ1 aE aL=>?_;refine aA fun Ψ2 aI bH=>?_;simp only[CO,seval];refine aH ?_ (MX H ?_)
 ·simp only[CO,seval]
 try simp only[CO,seval]
 refine aI _ _ ?_;simp only[CO,seval];refine aE _ _ ?_;obtain⟨s1,e1,k1,c1,n1⟩:=cI hs (L:=[]) (n:=0) (e:=3) rfl;obtain⟨e,c1⟩:=c1;have B1:bJ s1 3 1 (.slice (some ⟨s.next,0,none⟩) 0 0) []:=by
  rw[← e1];exact .own (L0:=[]) Cells.tU (by simp) (Nat.le_refl _) rfl (fun i hi=>absurd hi (Nat.not_lt_zero _))
 obtain⟨v,s4,h4,b4,k4,m4,a4,c4,rfl⟩:=iE (X:=X) (t:=62) (e:=3) (N:=1) (B:=8) (z:=.int .i64 0) (x:=.slice Q.va R.q.length Q.vc) (k:=R.q.length) (new:=R.q.map int) (by kernel_rfl) (by kernel_rfl) rfl k1.ok (by omega) B1 rfl (H.cq.aD k1 (by simp)).sl.first (by rw[List.length_map,Nat.mul_one]) (DG _) (by omega) (by omega);have hk:aC [] s s4:=k1.step k4 fun y hy=>.inr (by rw[List.mem_singleton.1 (show y∈[s.next] from hy)];exact hs.fresh _ (Nat.le_refl _));simp only[CO,seval];rw[e1];simp only[CO,seval,(H.aJ k1).l2];refine iS ?_ h4 ?_
 ·simp only[CO,seval]
 simp only[CO,seval];rw[Nat.zero_add];exact hΦ a4 c4 s4 hk
theorem gH.YU {s':St} (H:gH s r Q R) {F:List Nat} (k:aC F s s') (hF:∀ x∈Q.own r++nameOf (.slice Q.sa R.m Q.sc),x≠r→x∉F) {va:Option Addr} {vc:Nat} {L:List Int} (hc:Obj s' r [.slice Q.sa R.m Q.sc,.slice (some ⟨Q.gn,0,none⟩) 16 16,.slice va L.length vc])
  (hq:bJ s' 3 1 (.slice va L.length vc) (L.map int)) (hn:∀ b∈nameOf (.slice va L.length vc),b∉Q.own r∧b∉nameOf (.slice Q.sa R.m Q.sc)) (hl:L.length≤64):gH s' r {Q with va:=va,vc:=vc} {R with q:=L}:=by
 obtain⟨c,cs,rl,cr,cg,cq,nd,ns,nq,m1,m4,ql⟩:=H;have hne:∀ x∈Q.gn::Q.rows,x≠r:=fun x hx e=>by
  unfold RQ.own at nd;rw[List.nodup_cons] at nd;exact nd.1 (by rw[← e];exact hx)
 refine⟨hc,cs.aD k (fun b hb=>hF b (List.mem_append_right _ hb) fun e=>(ns b hb).1 (by rw[e];exact List.mem_cons_self ..)),rl,
  fun i hi=>(cr i hi).aD k (hF _ (List.mem_append_left _ (List.mem_cons_of_mem _ (List.mem_cons_of_mem _ (List.getElem_mem hi)))) (hne _ (List.mem_cons_of_mem _ (List.getElem_mem hi)))),
  cg.aD k (hF _ (List.mem_append_left _ (List.mem_cons_of_mem _ (List.mem_cons_self ..))) (hne _ (List.mem_cons_self ..))),hq,nd,fun b hb=>⟨(ns b hb).1,fun h=>(hn b h).2 hb⟩,fun b hb=>(hn b hb).1,m1,m4,hl⟩
theorem pL:type_of% (B6 @RX @rL @dF @dV @mC @wK):=B6 @RX @rL @dF @dV @mC @wK
theorem aFl (hs:Ok s) (H:gH s r Q R) (v:Int) (hΦ:∀ Q' s',gH s' r Q' {R with q:=R.AQ v}→aC (Q.aS r R) s s'→(∀ b∈Q'.aS r {R with q:=R.AQ v},b∈Q.aS r R∨s.next≤b)→Φ (int (R.MQ v)) s'):okF q X (KO kc) 151 [ptr r,int v] s Φ:=by
 unfold PR.AQ PR.MQ at hΦ;have PS:=H.ql;have pC:=H.eM hs;refine aW Tryz.func151 (by kernel_rfl) rfl rfl (rs:=[.tmp 4]) rfl (N:=26) rfl rfl ?_;refine aA fun bF aF bD=>?_;simp only[pL,seval];refine aF _ _ ?_;refine aA fun Ψ1 aE aL=>?_;refine aA fun Ψ2 aI bH=>?_;simp only[pL,seval];refine aH ?_ (MX H ?_)
 ·simp only[pL,seval]
 try simp only[pL,seval]
 refine aI _ _ ?_;simp only[pL,seval];refine aE _ _ ?_;refine aA fun Ψ3 aN bM=>?_;refine aA fun Ψ4 aP cC=>?_;by_cases h0:v≤0
 ·rw[if_pos h0] at hΦ;simp only[pL,seval,h0,decide_true];refine aP _ _ ?_;simp only[pL,seval];refine bM _ _ _ (by simp) ?_;simp only[pL,seval];exact hΦ Q s H (.refl hs) (fun b hb=>.inl hb)
 ·rw[if_neg h0] at hΦ;simp only[pL,seval,h0,decide_false];refine aP _ _ ?_;simp only[pL,seval];refine aN _ _ ?_;refine aA fun cU aZ cK=>?_;refine aA fun dN bO cZ=>?_;by_cases h1:R.q.length=64
  ·have e1:((R.q.length:Nat):Int)≥64:=by omega
   rw[if_pos h1] at hΦ;simp only[pL,seval,H.l2,e1,decide_true];refine bO _ _ ?_;simp only[pL,seval];refine cK _ _ _ (by simp) ?_;simp only[pL,seval];exact hΦ Q s H (.refl hs) (fun b hb=>.inl hb)
  ·have e1:¬ ((R.q.length:Nat):Int)≥64:=by omega
   rw[if_neg h1] at hΦ;simp only[if_true] at hΦ;simp only[pL,seval,H.l2,e1,decide_false];refine bO _ _ ?_;simp only[pL,seval];refine aZ _ _ ?_;obtain⟨s1,f1,k1,c1,n1⟩:=cI hs (L:=[int v]) (n:=1) (e:=3) rfl;obtain⟨w,s2,h2,b2,k2,m2,a2,c2,rfl⟩:=iE (X:=X) (t:=62) (e:=3) (N:=1) (B:=8) (z:=.int .i64 0) (x:=.slice (some ⟨s.next,0,none⟩) 1 1) (k:=1) (new:=[int v]) (by kernel_rfl) (by kernel_rfl) rfl k1.ok (by omega) (H.cq.aD k1 (by simp)) rfl (lQ (by omega) (c1.bI (i:=0) (k:=1) (Nat.le_refl _))) rfl rfl (by omega) (by omega);have sk:r∉nameOf (.slice Q.va R.q.length Q.vc):=fun h=>H.nq r h (List.mem_cons_self ..);obtain⟨s3,h3,c3,k3⟩:=((H.c.aD k1 (by simp)).aD k2 sk).fK k2.ok (i:=2) (v:=.slice a2 (R.q.length+1) c2) (by simp) rfl;refine aA fun fE cG dX=>?_;simp only[pL,seval,H.l2];rw[f1];refine iS ?_ h2 ?_
   ·simp only[pL,seval]
   simp only[pL,seval,h3];refine cG _ _ ?_;simp only[pL,seval];have fC:aC (r::nameOf (.slice Q.va R.q.length Q.vc)) s s3:=((k1.any (G:=r::nameOf (.slice Q.va R.q.length Q.vc))).step k2 fun y hy=>.inl (List.mem_cons_of_mem _ hy)).step k3 fun y hy=>.inl (by rw[List.mem_singleton.1 hy];exact List.mem_cons_self ..);have eL:(R.q++[v]).length=R.q.length+1:=by rw[List.length_append,List.length_singleton]
   have hnm:∀ b∈nameOf (.slice a2 (R.q++[v]).length c2),b∈nameOf (.slice Q.va R.q.length Q.vc)∨s.next≤b:=fun b hb=>by
    rw[eL] at hb;rcases m2 b hb with h | h
    ·exact .inl h
    ·have:=k1.next;right;omega
   have ho:∀ x∈Q.own r++nameOf (.slice Q.sa R.m Q.sc),x<s.next:=fun x hx=>pC x (List.mem_append_left _ hx);refine hΦ {Q with va:=a2,vc:=c2} s3 (H.YU fC (fun x hx hne hm=>?_) (by rw[eL];exact c3) ?_ (fun b hb=>?_) (by rw[eL];omega)) (fC.mono fun x hx=>?_) (fun b hb=>?_)
   ·rcases List.mem_cons.1 hm with h | h
    ·exact hne h
    ·rcases List.mem_append.1 hx with hx | hx
     ·exact H.nq x h hx
     ·exact(H.ns x hx).2 h
   ·rw[List.map_append,eL];refine b2.aD k3 fun b hb Dt=>?_;rw[← eL] at hb;rcases hnm b hb with h | h
    ·rw[List.mem_singleton.1 Dt] at h;exact sk h
    ·have:=H.c.lt hs;rw[List.mem_singleton.1 Dt] at h;omega
   ·rcases hnm b hb with h | h
    ·exact⟨H.nq b h,fun h'=>(H.ns b h').2 h⟩
    ·exact⟨fun h'=>by have:=ho b (List.mem_append_left _ h');omega,fun h'=>by have:=ho b (List.mem_append_right _ h');omega⟩
   ·rcases List.mem_cons.1 hx with h | h
    ·rw[h];exact List.mem_append_left _ (List.mem_append_left _ (List.mem_cons_self ..))
    ·exact List.mem_append_right _ h
   ·rcases List.mem_append.1 hb with h | h
    ·exact .inl (List.mem_append_left _ h)
    ·rcases hnm b h with h | h
     ·exact .inl (List.mem_append_right _ h)
     ·exact .inr h
end
end Go.Dust
