/- VerifyMarks walked in D, function by function, and its plain law (H5 H6 H7 F8 H8 H9). -/
import Derived.Test.YtaoiejcaopgjcaaGreatU
import Derived.Test.YtaoiejcaopgjcaaGreatR
import Derived.Test.YtaoiejcaopgjcaaGreatT
set_option linter.unusedVariables false
set_option linter.unusedSimpArgs false
namespace Go.Dust
open Go.Proofs
set_option maxRecDepth 100000
set_option maxHeartbeats 2000000
section
variable {kc:Kc} {q:Bool} {s:St} {Φ:Value→St→Prop} {g:Nat} {G:dD} {P:PH}
theorem cE.ai (H:cE s g G):G.bn≠g∧(∀ o∈G.L,o.rn≠G.bn∧o.dn≠G.bn∧o.rn≠g∧o.dn≠g)∧G.bn∉nameOf (.slice G.va G.L.length G.vc)∧g∉nameOf (.slice G.va G.L.length G.vc):=by
 have nd:=H.nd;unfold dD.own at nd;rw[List.nodup_cons,List.nodup_cons] at nd;obtain⟨n1,n2,_⟩:=nd;have og:g∈G.own g:=List.mem_cons_self ..;have ob:G.bn∈G.own g:=List.mem_cons_of_mem _ (List.mem_cons_self ..);refine⟨fun e=>n1 (by rw[← e];exact List.mem_cons_self ..),fun o ho=>⟨fun e=>n2 ?_,fun e=>n2 ?_,fun e=>n1 (List.mem_cons_of_mem _ ?_),fun e=>n1 (List.mem_cons_of_mem _ ?_)⟩,fun h=>H.nl _ h ob,fun h=>H.nl _ h og⟩
 all_goals exact List.mem_flatMap.2 ⟨o,ho,by rw[← e];simp⟩
theorem cE.YF {s':St} {f f':Nat→Int} (H:cE s g G) (k:aC [G.bn] s s') (hc:Obj s' G.bn (row (2*G.N) fun i=>int (if i%2=0 then f (i/2) else f' (i/2)))):cE s' g {G with bs:=f,bp:=f'}:=by
 obtain⟨h1,h2,h3,h4⟩:=H.ai;obtain⟨c,cb,cl,cr,nd,nl,n2,bW,len⟩:=H;refine⟨c.aD k (by simp[Ne.symm h1]),hc,cl.aD k (fun b hb=>by simp;intro e;exact h3 (by rw[← e];exact hb)),fun o ho=>?_,nd,nl,n2,bW,len⟩;obtain⟨g1,g2,g3,g4⟩:=h2 o ho;exact⟨(cr o ho).1.aD k (by simp[g1]),(cr o ho).2.aD k (by simp[g2])⟩
theorem cE.setBlock (hs:Ok s) (H:cE s g G) {j:Nat} (hj:j<G.N) (x y:Int):∃ s',dB s ⟨G.bn,j*2,none⟩ [int x,int y]=some s'∧cE s' g {G with bs:=dC G.bs j x,bp:=dC G.bp j y}∧aC [G.bn] s s':=by
 obtain⟨s',h1,h2,h3⟩:=H.cb.store hs (i:=j*2) (vs:=[int x,int y]) (by rw[iZ];show j*2+2≤_;omega) rfl;have GM:tV (row (2*G.N) fun i=>int (if i%2=0 then G.bs (i/2) else G.bp (i/2))) (j*2) [int x,int y]=row (2*G.N) fun i=>int (if i%2=0 then dC G.bs j x (i/2) else dC G.bp j y (i/2)):=by
  refine KZ (by rw[HS (by rw[iZ];show j*2+2≤_;omega),iZ]) fun i hi=>?_;rw[HR (by rw[iZ];show j*2+2≤_;omega),show [int x,int y].length=2 from rfl];unfold dC;by_cases hc:j*2≤i∧i<j*2+2
  ·rw[if_pos hc,if_pos (show i/2=j by omega),if_pos (show i/2=j by omega)];rcases Nat.lt_or_ge i (j*2+1) with h | h
   ·rw[show i-j*2=0 by omega,if_pos (by omega)];rfl
   ·rw[show i-j*2=1 by omega,if_neg (by omega)];rfl
  ·rw[if_neg hc,lM _ hi,if_neg (show ¬ i/2=j by omega),if_neg (show ¬ i/2=j by omega)]
 rw[GM] at h2;exact⟨s',h1,H.YF h3 h2,h3⟩
theorem cE.setState (hs:Ok s) (H:cE s g G) {j:Nat} (hj:j<G.N) (x:Int):∃ s',dB s ⟨G.bn,j*2,none⟩ [int x]=some s'∧cE s' g {G with bs:=dC G.bs j x}∧aC [G.bn] s s':=by
 obtain⟨s',h1,h2,h3⟩:=H.cb.gJ hs (i:=j*2) (v:=int x) (by rw[iZ];omega) rfl;rw[LB (by omega)] at h2;have e:(fun i=>if i=j*2 then int x else int (if i%2=0 then G.bs (i/2) else G.bp (i/2)))=fun i=>int (if i%2=0 then dC G.bs j x (i/2) else G.bp (i/2)):=by
  funext i;unfold dC;by_cases hi:i=j*2
  ·rw[if_pos hi,if_pos (by omega),if_pos (by omega)]
  ·rw[if_neg hi];by_cases h2:i%2=0
   ·rw[if_pos h2,if_pos h2,if_neg (by omega)]
   ·rw[if_neg h2,if_neg h2]
 rw[e] at h2;exact⟨s',h1,H.YF (f':=G.bp) h3 h2,h3⟩
theorem LU:type_of% (An @RX<|@SB):=An @RX<|@SB
theorem aFg (hs:Ok s) {n:Nat} (h2:2≤n) (dy:n≤64) (hΦ:∀ g b s',cE s' g ⟨b,none,0,n,fun _=>0,fun _=>0,[],0⟩→(∀ x∈dD.bF g ⟨b,none,0,n,fun _=>0,fun _=>0,[],0⟩,s.next≤x)→aC [] s s'→Φ (.tuple #[ptr g,int 0]) s'):okF q X (KO kc) 52 [int n] s Φ:=by
 refine aV rfl G0 rfl (rs:=[.tmp 2,.tmp 3]) rfl (N:=14) rfl rfl ?_;refine aA fun bB aF aZ=>?_;simp only[LU,seval];refine aF _ _ ?_;refine aA fun Ψ1 aE aK=>?_;refine aA fun Ψ2 aH bM=>?_;refine cK [(2,6)] (by kernel_rfl) fun O hO bK hR=>?_;have y2:∀ a,aN O a 2=bC (a.aB 6):=hO (2,6) (by simp);have g1:¬ (n:Int)<2:=by omega
 have g2:¬ (n:Int)>64:=by omega
 simp only[LU,seval,y2,g1,g2,decide_false];refine hR _ _ (aH _ _ ?_);simp only[LU,seval];refine aE _ _ ?_;simp only[LU,seval,aCv (nm:=s.next) (n:=(n:Int)) (m:=(n:Int)) (by omega) (by omega) (by omega) (by omega),Int.toNat_natCast,SB];obtain⟨S1,h1',k1,c1,n1⟩:∃ S1,(s.new fun v=>bU.cells PT.nil [int 0,int 0] (n*2) 210 false false v)=S1∧aC [] s S1∧Obj S1 s.next (row (2*n) fun i=>int 0)∧S1.next=s.next+2 :=
  ⟨_,rfl,(aC.refl hs).new (.inr (Nat.le_refl _)),Obj.tO (s:=s) (x:=s.next) rfl (by rw[iZ];show 2*n=n*2;omega) (fun i hi=>by
   rw[lM _ (by omega)];rcases Nat.mod_two_eq_zero_or_one i with h | h <;> rw[h] <;> rfl),rfl⟩
 rw[h1'];obtain⟨s2,e2,k2,c2,n2⟩:=cA k1.ok (L:=[.slice (some ⟨s.next,0,none⟩) n n,.slice none 0 0,.slice none 0 0,int 0]) (n:=4) (e:=131) rfl
 try simp only[LU,seval,SB]
 rw[e2]
 try simp only[LU,seval]
 refine hΦ S1.next s.next s2 ⟨c2,?_,.nil,fun o ho=>(by cases ho),?_,fun b hb=>(by simp[nameOf] at hb),h2,dy,Nat.zero_le _⟩ ?_ (k1.trans k2)
 ·have:=c1.aD k2 (by simp);simpa using this
 ·show [S1.next,s.next].Nodup;simp;omega
 ·intro x hx;simp[dD.bF,dD.own,nameOf] at hx;omega
theorem rR:type_of% (An @RX<|An @oD<|An @oJ<|An @vE<|An @yR<|An @aW<|An @IL<|@YL):=An @RX<|An @oD<|An @oJ<|An @vE<|An @yR<|An @aW<|An @IL<|@YL
theorem aF6 (hs:Ok s) (H:cE s g G) {b:Nat} {y:Int} (h1:1≤b) (h2:b<G.N) (h3:0≤y∧y<8) (h4:G.bs b=0) (hΦ:∀ s',cE s' g {G with bs:=dC G.bs b 1,bp:=dC G.bp b y}→aC [G.bn] s s'→Φ (int 0) s'):okF q X (KO kc) 213 [ptr g,int b,int y] s Φ:=by
 have q0:(1:Int)≤(b:Int)∧(b:Int)<(G.N:Int):=by omega
 have q1:(0:Int)≤(b:Int):=by omega
 have q2:(b:Int)<(G.N:Int):=by omega
 refine aV rfl z_ rfl (rs:=[.tmp 6]) rfl (N:=36) rfl rfl ?_;refine aA fun bB aF aZ=>?_;simp only[rR,seval];refine aF _ _ ?_;refine aA fun Ψ1 aE aK=>?_;refine aA fun Ψ2 aH bM=>?_;simp only[rR,seval];refine aJ ?_ (BL H ?_)
 ·simp only[rR,seval]
 try simp only[rR,seval]
 refine aH _ _ ?_;simp only[rR,seval];refine aE _ _ ?_;refine aA fun Ψ3 aM bN=>?_;refine aA fun Ψ4 aQ bZ=>?_;refine cK [(4,14)] (by kernel_rfl) fun O hO bK hR=>?_;have y4:∀ a,aN O a 4=bC (a.aB 14):=hO (4,14) (by simp);simp only[rR,seval];refine aJ ?_ (Ks H b ?_)
 ·simp only[rR,seval]
 simp only[rR,seval,y4,q0,and_self,decide_true];refine aJ ?_ (Ku y ?_)
 ·simp only[rR,seval]
 try simp only[rR,seval,y4,h3,and_self,decide_true]
 refine hR _ _ (aQ _ _ ?_);simp only[rR,seval];refine aM _ _ ?_;have l:=H.lb (i:=b) h2;refine aA fun cP bI cF=>?_;refine aA fun dK bO cV=>?_;simp only[rR,seval,H.l0,q1,q2,and_self,bJ,Int.toNat_natCast,Nat.zero_add,l,h4];refine bO _ _ ?_;simp only[rR,seval];refine bI _ _ ?_;refine aA fun fJ cC eF=>?_;obtain⟨s',e1,H',k'⟩:=H.setBlock hs h2 1 y;simp only[rR,seval,H.l0,q1,q2,and_self,bJ,Int.toNat_natCast,Nat.zero_add,e1];refine cC _ _ ?_;simp only[rR,seval];exact hΦ s' H' k'
theorem lF:type_of% (An @RX<|An @oD<|An @oJ<|An @vE<|An @yR<|An @aW<|@qM):=An @RX<|An @oD<|An @oJ<|An @vE<|An @yR<|An @aW<|@qM
theorem aFs (H:cE s g G) {b:Nat} (h2:b<G.N) (hΦ:Φ (int (if G.bs b=1 then 1 else if G.bs b=2 then((pX G.bs (b+1) (G.N-(b+1))+1:Nat):Int) else 0)) s):okF q X (KO kc) 243 [ptr g,int b] s Φ:=by
 have q1:(0:Int)≤(b:Int):=by omega
 have q2:(b:Int)<(G.N:Int):=by omega
 have bW:=H.bW;have l:=H.lb (i:=b) h2;refine aV rfl D7 rfl (rs:=[.tmp 4]) rfl (N:=49) rfl rfl ?_;refine aA fun bB aF aZ=>?_;simp only[lF,seval];refine aF _ _ ?_;refine aA fun Ψ1 aE aK=>?_;refine aA fun Ψ2 aH bM=>?_;by_cases e1:G.bs b=1
 ·rw[if_pos e1] at hΦ;simp only[lF,seval,H.l0,q1,q2,and_self,bJ,Int.toNat_natCast,Nat.zero_add,l,e1];refine aH _ _ ?_;simp only[lF,seval];refine aK _ _ _ (by simp) ?_;simp only[lF,seval];exact hΦ
 have e1':(G.bs b==1)=false:=by simpa using e1
 rw[if_neg e1] at hΦ;simp only[lF,seval,H.l0,q1,q2,and_self,bJ,Int.toNat_natCast,Nat.zero_add,l,e1'];refine aH _ _ ?_;simp only[lF,seval];refine aE _ _ ?_;refine aA fun Ψ3 aM bN=>?_;refine aA fun Ψ4 aQ bZ=>?_;by_cases e2:G.bs b=2
 ·rw[if_pos e2] at hΦ;simp only[lF,seval,H.l0,q1,q2,and_self,bJ,Int.toNat_natCast,Nat.zero_add,l,e2];refine aQ _ _ ?_;simp only[lF,seval];refine aM _ _ ?_;refine aA fun cP bI cF=>?_;simp only[lF,seval];refine bI _ _ ?_;refine aA fun dK bO cV=>?_;refine cB fun fJ cC AS eF=>?_;obtain⟨T,hT⟩:∃ T,T=pX G.bs (b+1) (G.N-(b+1)):=⟨_,rfl⟩;rw[← hT] at hΦ;have Q9:=QG (bs:=G.bs) (p:=b+1) (d:=G.N-(b+1));rw[← hT] at Q9;refine XA (n:=T) (fun j a' s'=>a'.aB 0=ptr g∧a'.aB 1=int b∧a'.aB 5=int ((j+1:Nat))∧s'=s) ?_ ?_ ?_ (Nat.zero_le _) ?_
  ·rintro j a' s' hj ⟨r0,r1,r5,rfl⟩ aR bH;have w:IntKind.i64.wrap ((b:Int)+((j+1:Nat):Int))=((b+1+j:Nat):Int):=by rw[aU (by omega) (by omega)];omega
   have p1:(0:Int)≤((b+1+j:Nat):Int):=Int.natCast_nonneg _;refine cK [(9,33)] (by kernel_rfl) fun O hO bK hR=>?_;have y9:∀ a,aN O a 9=bC (a.aB 33):=hO (9,33) (by simp);by_cases hb:b+1+j<G.N
   ·have p2:((b+1+j:Nat):Int)<(G.N:Int):=by omega
    have lj:=H.lb (i:=b+1+j) hb;simp only[lF,seval,y9,r0,r1,r5,w,H.l0,p1,p2,and_self,bJ,Int.toNat_natCast,Nat.zero_add,lj,decide_true];refine hR _ _ (bH _ _ (G.bs (b+1+j)==3) ?_ ?_ ⟨?_,?_,?_,rfl⟩)
    ·simp only[lF,seval]
    ·rw[beq_iff_eq];constructor
     ·intro h;rcases Nat.lt_or_ge j T with h' | h'
      ·exact h'
      ·obtain rfl:j=T:=by omega
       have:=YS (bs:=G.bs) (p:=b+1) (d:=G.N-(b+1)) (by rw[← hT];omega);rw[← hT] at this;exact absurd h this
     ·intro h;exact YT (bs:=G.bs) (p:=b+1) (d:=G.N-(b+1)) (by rw[← hT];exact h)
    ·simp only[lF,seval,r0]
    ·simp only[lF,seval,r1]
    ·simp only[lF,seval,r5]
   ·have p2:¬ ((b+1+j:Nat):Int)<(G.N:Int):=by omega
    simp only[lF,seval,y9,r0,r1,r5,w,H.l0,p2,decide_false];refine hR _ _ (bH _ _ false ?_ ?_ ⟨?_,?_,?_,rfl⟩)
    ·simp only[lF,seval]
    ·constructor
     ·intro h;cases h
     ·intro h;omega
    ·simp only[lF,seval,r0]
    ·simp only[lF,seval,r1]
    ·simp only[lF,seval,r5]
  ·rintro j a' s' hj ⟨r0,r1,r5,rfl⟩ aR w1 w2 w3;have w:IntKind.i64.wrap (((j+1:Nat):Int)+1)=((j+1+1:Nat):Int):=by rw[aU (by omega) (by omega)];rfl
   simp only[lF,seval,r5,w];refine w1 _ _ ⟨?_,?_,?_,rfl⟩
   all_goals try simp only[lF,seval,r0,r1]
  ·rintro a' s' ⟨r0,r1,r5,rfl⟩;refine AS _ _ (bO _ _ ?_);simp only[lF,seval,r5];exact hΦ
  ·refine⟨?_,?_,?_,rfl⟩
   all_goals try simp only[lF,seval]
   try rfl
 ·have uS:(G.bs b==2)=false:=by simpa using e2
  rw[if_neg e2] at hΦ;simp only[lF,seval,H.l0,q1,q2,and_self,bJ,Int.toNat_natCast,Nat.zero_add,l,uS];refine aQ _ _ ?_;simp only[lF,seval];refine bN _ _ _ (by simp) ?_;simp only[lF,seval];exact hΦ
end
open Go.Proofs
set_option maxRecDepth 100000
set_option maxHeartbeats 2000000
section
variable {kc:Kc} {q:Bool} {s:St} {Φ:Value→St→Prop} {g:Nat} {G:dD} {P:PH}
def dD.fill (G:dD) (p k:Nat) (x y:Int):dD:={G with bs:=fun j=>if p≤j∧j<p+k then x else G.bs j,bp:=fun j=>if p≤j∧j<p+k then y else G.bp j}
theorem dD.Xz (G:dD) (p j:Nat) (u v:Int):G.fill p (j+1) u v={G.fill p j u v with bs:=dC (G.fill p j u v).bs (p+j) u,bp:=dC (G.fill p j u v).bp (p+j) v}:=by
 unfold dD.fill dC;congr 1
 ·funext i;by_cases h1:i=p+j
  ·subst h1;simp
  ·simp only[h1,if_false];by_cases h2:p≤i∧i<p+j
   ·rw[if_pos h2,if_pos (by omega)]
   ·rw[if_neg h2,if_neg (by omega)]
 ·funext i;by_cases h1:i=p+j
  ·subst h1;simp
  ·simp only[h1,if_false];by_cases h2:p≤i∧i<p+j
   ·rw[if_pos h2,if_pos (by omega)]
   ·rw[if_neg h2,if_neg (by omega)]
theorem dD.Ya (G:dD) (p:Nat) (u v:Int):G.fill p 0 u v=G:=by
 unfold dD.fill;have:∀ j:Nat,¬ (p≤j∧j<p+0):=fun j=>by omega
 simp only[this,if_false]
theorem jH:type_of% (An @RX<|An @oD<|An @oJ<|An @qM<|An @vE<|An @yR<|An @aW<|An @IL<|An @YL<|@jG):=An @RX<|An @oD<|An @oJ<|An @qM<|An @vE<|An @yR<|An @aW<|An @IL<|An @YL<|@jG
theorem aF7 (hs:Ok s) (H:cE s g G) {p m:Nat} {y:Int} (h1:1≤p) (hm:1≤m) (h2:p+m≤G.N) (h3:0≤y∧y<8) (h4:∀ j,p≤j→j<p+m→G.bs j=0) (hΦ:∀ s',cE s' g {G.fill p m 3 y with bs:=dC (G.fill p m 3 y).bs p 2}→aC [G.bn] s s'→Φ (int 0) s'):okF q X (KO kc) 211 [ptr g,int p,int m,int y] s Φ:=by
 have bW:=H.bW;have q0:(1:Int)≤(p:Int)∧(p:Int)<(G.N:Int):=by omega
 have q3:¬ ((m:Int)<1):=by omega
 have w0:IntKind.i64.wrap ((G.N:Int)-(p:Int))=(G.N:Int)-(p:Int):=by rw[aU (by omega) (by omega)]
 have q4:¬ ((m:Int)>(G.N:Int)-(p:Int)):=by omega
 have Rc:IntKind.i64.wrap ((p:Int)+(m:Int))=((p+m:Nat):Int):=by rw[aU (by omega) (by omega)];rfl
 refine aV rfl z8 rfl (rs:=[.tmp 8]) rfl (N:=78) rfl rfl ?_;refine aA fun bB aF aZ=>?_;simp only[jH,seval];refine aF _ _ ?_;refine aA fun Ψ1 aE aK=>?_;refine aA fun Ψ2 aH bM=>?_;simp only[jH,seval];refine aJ ?_ (BL H ?_)
 ·simp only[jH,seval]
 try simp only[jH,seval]
 refine aH _ _ ?_;simp only[jH,seval];refine aE _ _ ?_;refine aA fun Ψ3 aM bN=>?_;refine aA fun Ψ4 aQ bZ=>?_;refine cK [(4,18),(8,22),(19,33)] (by kernel_rfl) fun O hO bK hR=>?_;have y4:∀ a,aN O a 4=bC (a.aB 18):=hO (4,18) (by simp);have y8:∀ a,aN O a 8=bC (a.aB 22):=hO (8,22) (by simp);have CB:∀ a,aN O a 19=bC (a.aB 33):=hO (19,33) (by simp);simp only[jH,seval];refine aJ ?_ (Ks H p ?_)
 ·simp only[jH,seval]
 simp only[jH,seval,y4,y8,CB,q0,and_self,decide_true,q3,decide_false,H.l0,w0,q4];refine aJ ?_ (Ku y ?_)
 ·simp only[jH,seval]
 try simp only[jH,seval,y4,y8,CB,h3,and_self,decide_true]
 refine hR _ _ (aQ _ _ ?_);simp only[jH,seval];refine aM _ _ ?_;refine aA fun cP bI cF=>?_;refine aA fun dK bO cV=>?_;simp only[jH,seval];refine bO _ _ ?_;refine cB fun fJ cC AS eF=>?_;refine gD (n:=m) (fun j a' s'=>a'.aB 0=ptr g∧a'.aB 1=int p∧a'.aB 2=int m∧a'.aB 3=int y∧a'.aB 9=int ((p+j:Nat))∧s'=s)
  (fun j a' s'=>a'.aB 0=ptr g∧a'.aB 1=int p∧a'.aB 2=int m∧a'.aB 3=int y∧a'.aB 9=int ((p+j:Nat))∧s'=s) ?_ ?_ ?_ ?_ (Nat.zero_le _) ?_
 ·rintro j a' s' hj ⟨r0,r1,r2,r3,r9,rfl⟩ aR bH;simp only[jH,seval,r9,r1,r2,Rc];refine bH _ _ (decide (((p+j:Nat):Int)<((p+m:Nat):Int))) ?_ (by rw[decide_eq_true_eq];omega) ⟨?_,?_,?_,?_,?_,rfl⟩
  all_goals simp only[jH,seval,r0,r1,r2,r3,r9]
 ·rintro j a' s' hj ⟨r0,r1,r2,r3,r9,rfl⟩ aR w1 w2 w3;have p1:(0:Int)≤((p+j:Nat):Int):=Int.natCast_nonneg _;have p2:((p+j:Nat):Int)<(G.N:Int):=by omega
  have lj:=H.lb (i:=p+j) (by omega);rw[h4 (p+j) (by omega) (by omega)] at lj;refine aA fun jC dA iI=>?_;simp only[jH,seval,r0,r9,H.l0,p1,p2,and_self,bJ,Int.toNat_natCast,Nat.zero_add,lj];refine dA _ _ ?_;simp only[jH,seval];refine w1 _ _ ⟨?_,?_,?_,?_,?_,rfl⟩
  all_goals simp only[jH,seval,r0,r1,r2,r3,r9]
 ·rintro j a' s' hj ⟨r0,r1,r2,r3,r9,rfl⟩ aR w1;have w:IntKind.i64.wrap (((p+j:Nat):Int)+1)=((p+(j+1):Nat):Int):=by rw[aU (by omega) (by omega)];rfl
  simp only[jH,seval,r9,w];refine w1 _ _ ⟨?_,?_,?_,?_,?_,rfl⟩
  all_goals try simp only[jH,seval,r0,r1,r2,r3]
 ·rintro a' s' ⟨r0,r1,r2,r3,r9,rfl⟩;refine AS _ _ (bI _ _ ?_);refine aA fun lJ dW jP=>?_;refine aA fun mZ eB nH=>?_;simp only[jH,seval,r1];refine eB _ _ ?_;refine cB fun rS kL GN qK=>?_;refine gD (n:=m) (fun j a' s1=>a'.aB 0=ptr g∧a'.aB 1=int p∧a'.aB 2=int m∧a'.aB 3=int y∧a'.aB 10=int ((p+j:Nat))∧cE s1 g (G.fill p j 3 y)∧aC [G.bn] s' s1)
   (fun j a' s1=>a'.aB 0=ptr g∧a'.aB 1=int p∧a'.aB 2=int m∧a'.aB 3=int y∧a'.aB 10=int ((p+j:Nat))∧cE s1 g (G.fill p (j+1) 3 y)∧aC [G.bn] s' s1) ?_ ?_ ?_ ?_ (Nat.zero_le _) ?_
  ·rintro j a' s1 hj ⟨r0,r1,r2,r3,cL,H1,hk⟩ aR bH;simp only[jH,seval,cL,r1,r2,Rc];refine bH _ _ (decide (((p+j:Nat):Int)<((p+m:Nat):Int))) ?_ (by rw[decide_eq_true_eq];omega) ⟨?_,?_,?_,?_,?_,H1,hk⟩
   all_goals simp only[jH,seval,r0,r1,r2,r3,cL]
  ·rintro j a' s1 hj ⟨r0,r1,r2,r3,cL,H1,hk⟩ aR w1 w2 w3;have p1:(0:Int)≤((p+j:Nat):Int):=Int.natCast_nonneg _;have p2:((p+j:Nat):Int)<(G.N:Int):=by omega
   have l0:aI s1.look ⟨g,0,none⟩=some (.slice (some ⟨G.bn,0,none⟩) G.N G.N):=H1.l0;obtain⟨s2,e2,H2,k2⟩:=H1.setBlock hk.ok (j:=p+j) (show p+j<G.N by omega) 3 y;have e2:dB s1 ⟨G.bn,(p+j)*2,none⟩ [int 3,int y]=some s2:=e2;rw[← dD.Xz] at H2;simp only[jH,seval,r0,r3,cL,l0,p1,p2,and_self,bJ,Int.toNat_natCast,Nat.zero_add,e2];refine w1 _ _ ⟨?_,?_,?_,?_,?_,H2,hk.trans k2⟩
   all_goals simp only[jH,seval,r0,r1,r2,r3,cL]
  ·rintro j a' s1 hj ⟨r0,r1,r2,r3,cL,H1,hk⟩ aR w1;have w:IntKind.i64.wrap (((p+j:Nat):Int)+1)=((p+(j+1):Nat):Int):=by rw[aU (by omega) (by omega)];rfl
   simp only[jH,seval,cL,w];refine w1 _ _ ⟨?_,?_,?_,?_,?_,H1,hk⟩
   all_goals try simp only[jH,seval,r0,r1,r2,r3]
  ·rintro a' s1 ⟨r0,r1,r2,r3,cL,H1,hk⟩;refine GN _ _ (dW _ _ ?_);have p1:(0:Int)≤(p:Int):=Int.natCast_nonneg _;have p2:(p:Int)<(G.N:Int):=by omega
   have l0:aI s1.look ⟨g,0,none⟩=some (.slice (some ⟨G.bn,0,none⟩) G.N G.N):=H1.l0;obtain⟨s2,e2,H2,k2⟩:=H1.setState hk.ok (j:=p) (show p<G.N by omega) 2;have e2:dB s1 ⟨G.bn,p*2,none⟩ [int 2]=some s2:=e2;refine aA fun uH kV tJ=>?_;simp only[jH,seval,r0,r1,l0,p1,p2,and_self,bJ,Int.toNat_natCast,Nat.zero_add,e2];refine kV _ _ ?_;simp only[jH,seval];exact hΦ s2 H2 (hk.trans k2)
  ·refine⟨?_,?_,?_,?_,?_,by rw[dD.Ya];exact H,.refl hs⟩
   all_goals try simp only[jH,seval,r0,r1,r2,r3]
   try rfl
 ·refine⟨?_,?_,?_,?_,?_,rfl⟩
  all_goals try simp only[jH,seval]
  try rfl
end
open Go.Proofs
set_option maxRecDepth 100000
set_option maxHeartbeats 4000000
section
variable {kc:Kc} {q:Bool} {s:St} {Φ:Value→St→Prop} {g:Nat} {G:dD} {P:PH}
theorem db {a n b:Int} (h:a<0∨a≥64*P.N∨a%2≠0):P.oR a n b=1:=by unfold PH.oR;rw[if_pos h]
theorem ND {a n b:Int} (h0:¬ (a<0∨a≥64*P.N∨a%2≠0)) (h:if n≤32 then P.bs (a/64).toNat≠1∨(a+n-1)/64≠a/64 else P.bs (a/64).toNat≠2∨a%64≠0∨(P.span (a/64).toNat:Int)≠(n+63)/64):P.oR a n b=5:=by
 unfold PH.oR;rw[if_neg h0,if_pos h]
theorem Yg {a n b:Int} (h0:¬ (a<0∨a≥64*P.N∨a%2≠0)) (h:¬ if n≤32 then P.bs (a/64).toNat≠1∨(a+n-1)/64≠a/64 else P.bs (a/64).toNat≠2∨a%64≠0∨(P.span (a/64).toNat:Int)≠(n+63)/64):P.oR a n b=if P.kJ a b ((n+1)/2).toNat=true then 8 else 0:=by
 unfold PH.oR;rw[if_neg h0,if_neg h]
theorem cR:type_of% (An @RX<|An @oD<|An @oJ<|An @qM<|An @hZ<|An @vE<|An @yR<|An @aW<|An @lY<|An @mD<|An @zH<|An @oI<|An @DH<|An @II<|An @LH<|An @TM<|An @uW<|@yO):=An @RX<|An @oD<|An @oJ<|An @qM<|An @hZ<|An @vE<|An @yR<|An @aW<|An @lY<|An @mD<|An @zH<|An @oI<|An @DH<|An @II<|An @LH<|An @TM<|An @uW<|@yO
theorem aFu (hs:Ok s) (H:cE s g G) (S:iM P G) (I:P.Inv) (a:Int) (ha:i64 a) (x:cI) (hx:x.valid=true) (hΦ:∀ s',aC [] s s'→Φ (int (P.oR a x.words (-1))) s'):okF q X (KO kc) 216 [ptr g,int a,oW x,int 0] s Φ:=by
 have bW:=H.bW;have hN:=S.N;have hw:=cI.sX hx;have gw:=x.CA;have hlen:=H.len;have GG:=I.cM;have wN:IntKind.i64.wrap ((G.N:Int)*64)=(G.N:Int)*64:=aU (by omega) (by omega);refine aV rfl A3 rfl (rs:=[.tmp 8]) rfl (N:=113) rfl rfl ?_;refine aA fun bB aF aZ=>?_;simp only[cR,seval];obtain⟨s1,e1,k1,c1,n1⟩:=cA hs (L:=[int x.r,int x.d,int x.k]) (n:=3) (e:=44) rfl;rw[e1];refine aF _ _ ?_;have H1:=H.aL k1;have BB:=c1.bD (i:=0) (k:=3) (Nat.le_refl _);refine aA fun Ψ1 aE aK=>?_;refine aA fun Ψ2 aH bM=>?_;refine cK [(2,14),(7,19)] (by kernel_rfl) fun O hO bK hR=>?_;have y2:∀ a,aN O a 2=bC (a.aB 14):=hO (2,14) (by simp);have y7:∀ a,aN O a 7=bC (a.aB 19):=hO (7,19) (by simp);by_cases g1:a<0
 ·rw[db (.inl g1)] at hΦ;simp only[cR,seval,y2,y7,g1,decide_true];refine hR _ _ (aH _ _ ?_);simp only[cR,seval];refine aK _ _ _ (by simp) ?_;simp only[cR,seval];exact hΦ _ k1
 have tm:a.tmod 2=a%2:=Int.tmod_eq_emod_of_nonneg (by omega);by_cases g2:a%2=0
 ·by_cases g3:a≥(G.N:Int)*64
  ·rw[db (.inr (.inl (by omega)))] at hΦ;simp only[cR,seval,y2,y7,g1,tm,g2,H1.l0,wN,g3,decide_true,decide_false];refine hR _ _ (aH _ _ ?_);simp only[cR,seval];refine aK _ _ _ (by simp) ?_;simp only[cR,seval];exact hΦ _ k1
  have h0:¬ (a<0∨a≥64*P.N∨a%2≠0):=by omega
  simp only[cR,seval,y2,y7,g1,tm,g2,H1.l0,wN,g3,decide_false];refine hR _ _ (aH _ _ ?_);simp only[cR,seval];refine aE _ _ ?_;have td:IntKind.i64.wrap (a.tdiv 64)=((a/64).toNat:Int):=by rw[Int.tdiv_eq_ediv_of_nonneg (by omega),aU (by omega) (by omega)];omega
  obtain⟨b,hb⟩:∃ b,b=(a/64).toNat:=⟨_,rfl⟩;rw[← hb] at td;have FU:b<G.N:=by omega
  have q1:(0:Int)≤(b:Int):=Int.natCast_nonneg _;have q2:(b:Int)<(G.N:Int):=by omega
  refine aA fun Ψ3 aM bN=>?_;simp only[cR,seval,td];refine aM _ _ ?_;refine aA fun Ψ4 aQ bZ=>?_;refine aA fun cP bI cF=>?_;simp only[cR,seval,BB,List.drop_zero,List.take];refine aJ ?_ (ny k1.ok x fun s2 k2=>?_)
  ·simp only[cR,seval]
  simp only[cR,seval];refine bI _ _ ?_;have eC:=k1.trans k2;have H2:=H1.aL k2;have c2:=c1.aD k2 (by simp);have BC:=c2.bD (i:=0) (k:=3) (Nat.le_refl _);have l2:=H2.lb (i:=b) FU;have rest:∀ (a':aG) (s':St),(¬ if x.words≤32 then P.bs (a/64).toNat≠1∨(a+x.words-1)/64≠a/64 else P.bs (a/64).toNat≠2∨a%64≠0∨(P.span (a/64).toNat:Int)≠(x.words+63)/64) →
    a'.aB 0=ptr g→a'.aB 1=int a→a'.aB 3=int 0→a'.aB 6=ptr s.next→aC [] s2 s'→Ψ4 .normal a' s':=by
   intro a' s' hst r0 r1 r3 r6 hk;rw[Yg h0 hst] at hΦ;have kJ:=PH.Dh GG (a:=a) (n:=x.words) g2 (by omega) gw.2.2 (by omega);refine aQ _ _ ?_;have VH:=eC.trans hk;have aK1:=(c2.aD hk (by simp)).bD (i:=0) (k:=3) (Nat.le_refl _);have H3:=H2.aL hk;refine aA fun dK bO cV=>?_;refine aA fun fJ cC eF=>?_;simp only[cR,seval];refine cC _ _ ?_;refine cB fun jC dA sJ iI=>?_;refine gD (n:=G.L.length) (fun j a' s3=>a'.aB 0=ptr g∧a'.aB 1=int a∧a'.aB 3=int 0∧a'.aB 6=ptr s.next∧a'.aB 10=int j∧aC [] s' s3∧∀ k (hk:k<G.L.length),k<j→¬ (G.L[k].a<a+x.words∧a<G.L[k].a+P.size G.L[k].a))
    (fun j a' s3=>a'.aB 0=ptr g∧a'.aB 1=int a∧a'.aB 3=int 0∧a'.aB 6=ptr s.next∧a'.aB 10=int j∧aC [] s' s3∧∀ k (hk:k<G.L.length),k<j+1→¬ (G.L[k].a<a+x.words∧a<G.L[k].a+P.size G.L[k].a)) ?_ ?_ ?_ ?_ (Nat.zero_le _) ?_
   ·rintro j a' s3 hj ⟨r0,r1,r3,r6,cL,hk3,hn⟩ aR bH;simp only[cR,seval,r0,cL,(H3.aL hk3).l1];refine bH _ _ (decide ((j:Int)<G.L.length)) ?_ (by simp) ⟨?_,?_,?_,?_,?_,hk3,hn⟩
    all_goals simp only[cR,seval,r0,r1,r3,r6,cL]
   ·rintro j a' s3 hj ⟨r0,r1,r3,r6,cL,hk3,hn⟩ aR w1 w2 w3;have H4:=H3.aL hk3;obtain⟨vb,dM,hv⟩:=H4.addr (show 0<G.L.length by omega);have p1:(0:Int)≤(j:Int):=Int.natCast_nonneg _;have p2:(j:Int)<((G.L.length:Nat):Int):=by omega
    have l1:=H4.l1;rw[hv] at l1;have lN:=H4.lN hv hj;obtain⟨o,ho⟩:∃ o,o=G.L[j]:=⟨_,rfl⟩;rw[← ho] at lN;have UX:o∈G.L:=by rw[ho];exact List.getElem_mem _
    have UW:=S.L.has UX;have hok:=S.L.ok o UX;have hsz:P.size o.a=o.sh.words:=by unfold PH.size;rw[hok.sh]
    have hv1:=(GG.val _ UW).1;rw[← hok.sh] at hv1;have aJn:=PH.size_pos GG UW;have Y9:=I.id _ UW;rw[← hok.id] at Y9;have Hy:=I.bW;refine aA fun lJ dW jP=>?_;obtain⟨t1,e1',u1,d1,v1⟩:=cA hk3.ok (L:=[int 0,int 0,int 0,int 0,int 0,.slice none 0 0,.slice none 0 0,.bool false]) (n:=8) (e:=133) rfl;obtain⟨t2,uS,d2,u2⟩:=d1.storeAll u1.ok (vs:=o.C) rfl rfl;have BZ:aC [] s3 t2:=u1.step u2 fun y hy=>.inr (by rw[List.mem_singleton.1 hy];exact hk3.ok.fresh _ (Nat.le_refl _));unfold cJ.C at uS lN;simp only[cR,seval,r0,cL,l1,p1,p2,and_self,bJ,Int.toNat_natCast,lN];rw[e1',uS];simp only[cR,seval];refine dW _ _ ?_;have la:aI t2.look ⟨s3.next,0,none⟩=some (int o.a):=d2.load rfl;have li:aI t2.look ⟨s3.next,1,none⟩=some (int o.id):=d2.load rfl;have ls:bD t2.look ⟨s3.next,2,none⟩ 3=some [int o.sh.r,int o.sh.d,int o.sh.k]:=d2.bD (i:=2) (k:=3) (by simp[cJ.C]);have lL:=hk3.trans BZ;have ON:bD t2.look ⟨s.next,0,none⟩ 3=some [int x.r,int x.d,int x.k]:=((c2.aD hk (by simp)).aD lL (by simp)).bD (i:=0) (k:=3) (Nat.le_refl _);have aA6:(o.id==0)=false:=by rw[beq_eq_false_iff_ne];omega
    have wx:IntKind.i64.wrap (a+x.words)=a+x.words:=aU (by omega) (by omega);have wo:IntKind.i64.wrap (o.a+o.sh.words)=o.a+o.sh.words:=aU (by omega) (by omega);refine aA fun mZ eB nH=>?_;refine dH [(6,9),(16,19)] [s3.next] [(4,94),(13,103)] (by kernel_rfl) (by kernel_rfl) (by rfl) fun O hO bK hR=>?_;have y4:∀ a,aN O a 4=bC (a.aB 94):=hO (4,94) (by simp);have jK:∀ a,aN O a 13=bC (a.aB 103):=hO (13,103) (by simp);simp only[cR,seval,y4,jK,li,r3,aA6,la,r1,r6,ON];refine eQ ?_ (HO (BZ.ok.skip _) x fun s5 k5=>?_)
    ·simp only[cR,seval]
    have u5:aC [] t2 s5:=(aC.skip BZ.ok _).trans k5;have d5:=d2.aD u5 (by simp);have la5:aI s5.look ⟨s3.next,0,none⟩=some (int o.a):=d5.load rfl;have ls5:bD s5.look ⟨s3.next,2,none⟩ 3=some [int o.sh.r,int o.sh.d,int o.sh.k]:=d5.bD (i:=2) (k:=3) (by simp[cJ.C]);have iH:eT (t2.skip 46) s5 s3.next=true:=(d2.aD (aC.skip (F:=[]) BZ.ok _) (by simp)).same (BZ.ok.skip _) k5 (by simp);by_cases UH:o.a<a+x.words
    ·simp only[cR,seval,y4,jK,wx,UH,decide_true,la5,ls5,r1];refine⟨gQ iH jR,?_⟩;refine eQ ?_ (HO u5.ok o.sh fun s6 k6=>?_)
     ·simp only[cR,seval]
     have Ec:eT s5 s6 s3.next=true:=d5.same u5.ok k6 (by simp);have pP:=(lL.trans u5).trans k6;by_cases hc2:a<o.a+o.sh.words
     ·simp only[cR,seval,y4,jK,wo,hc2,decide_true,r1];refine⟨gQ Ec jR,hR _ _ (eB _ _ ?_)⟩;simp only[cR,seval];refine w3 _ _ _ (by simp) (by simp) (iI _ _ _ (by simp) (by simp) (cV _ _ _ (by simp) ?_));simp only[cR,seval];have hh:P.kJ a (-1) ((x.words+1)/2).toNat=true:=kJ.2 ⟨o.a,UW,UH,by rw[hsz];exact hc2⟩;rw[if_pos hh] at hΦ;exact hΦ _ (VH.trans pP)
     ·simp only[cR,seval,y4,jK,wo,hc2,decide_false,r1];refine⟨gQ Ec jR,hR _ _ (eB _ _ ?_)⟩;simp only[cR,seval];refine w1 _ _ ⟨?_,?_,?_,?_,?_,pP,fun k CZ UO=>?_⟩
      ·simp only[cR,seval,r0]
      ·simp only[cR,seval,r1]
      ·simp only[cR,seval,r3]
      ·simp only[cR,seval,r6]
      ·simp only[cR,seval,cL]
      ·by_cases e:k=j
       ·subst e;rw[← ho,hsz];exact fun h=>hc2 h.2
       ·exact hn k CZ (by omega)
    ·simp only[cR,seval,y4,jK,wx,UH,decide_false];refine⟨gQ iH jR,hR _ _ (eB _ _ ?_)⟩;simp only[cR,seval];refine w1 _ _ ⟨?_,?_,?_,?_,?_,lL.trans u5,fun k CZ UO=>?_⟩
     ·simp only[cR,seval,r0]
     ·simp only[cR,seval,r1]
     ·simp only[cR,seval,r3]
     ·simp only[cR,seval,r6]
     ·simp only[cR,seval,cL]
     ·by_cases e:k=j
      ·subst e;rw[← ho];exact fun h=>UH h.1
      ·exact hn k CZ (by omega)
   ·rintro j a' s3 hj ⟨r0,r1,r3,r6,cL,hk3,hn⟩ aR w1;have w:IntKind.i64.wrap ((j:Int)+1)=((j+1:Nat):Int):=by rw[aU (by omega) (by omega)];rfl
    simp only[cR,seval,cL,w];refine w1 _ _ ⟨?_,?_,?_,?_,?_,hk3,hn⟩
    all_goals try simp only[cR,seval,r0,r1,r3,r6]
   ·rintro a' s3 ⟨r0,r1,r3,r6,cL,hk3,hn⟩;refine sJ _ _ (bO _ _ ?_);have hh:¬ P.kJ a (-1) ((x.words+1)/2).toNat=true:=fun h=>by
     obtain⟨o,ho,h1,h2⟩:=kJ.1 h;obtain⟨u,hu,rfl⟩:=S.L.mem.2 ho;obtain⟨i,hi,rfl⟩:=List.mem_iff_getElem.1 hu;exact hn i hi hi ⟨h1,h2⟩
    rw[if_neg hh] at hΦ;simp only[cR,seval];exact hΦ _ (VH.trans hk3)
   ·refine⟨?_,?_,?_,?_,?_,.refl hk.ok,fun k hk h=>absurd h (Nat.not_lt_zero _)⟩
    all_goals try simp only[cR,seval,r0,r1,r3,r6]
    try rfl
  by_cases hl:x.words>32
  ·have hl':¬ x.words≤32:=by omega
   have qs:a.tmod 64=a%64:=Int.tmod_eq_emod_of_nonneg (by omega);simp only[if_neg hl'] at rest;simp only[eG,RV,RG,seval,hl,decide_true];refine aA fun RI rH GQ=>?_;refine dH [(18,17)] [s.next] [(3,36),(14,47)] (by kernel_rfl) (by kernel_rfl) (by rfl) fun O hO bK hR=>?_;have y3:∀ a,aN O a 3=bC (a.aB 36):=hO (3,36) (by simp);have wA:∀ a,aN O a 14=bC (a.aB 47):=hO (14,47) (by simp);by_cases e1:a%64=0
   ·have e1':(a%64==0)=true:=by simpa using e1
    by_cases e2:G.bs b=2
    ·simp only[cR,seval,y3,wA,qs,e1',H2.l0,q1,q2,and_self,bJ,Int.toNat_natCast,Nat.zero_add,l2,e2,beq_self_eq_true];have Wk:¬ G.bs b=1:=by omega
     have hsp:P.span b=pX G.bs (b+1) (G.N-(b+1))+1:=by
      unfold PH.span;rw[← S.bs,if_pos e2,S.N]
     have ks:aC [] s2 (s2.skip 44):=aC.skip k2.ok _;have iH:eT (s2.skip 44) (s2.skip 44) s.next=true:=(c2.aD ks (by simp)).same ks.ok (.refl ks.ok) (F:=[]) (by simp);refine eQ ?_ (aFs (H2.aL ks) FU ?_)
     ·simp only[cR,seval]
     rw[if_neg Wk,if_pos e2,← hsp];simp only[cR,seval,y3,wA,BC,List.drop_zero,List.take];refine⟨gQ iH jR,?_⟩;refine eQ ?_ (nz ks.ok x fun s3 k3=>?_)
     ·simp only[cR,seval]
     have nJ:=ks.trans k3;by_cases e3:(P.span b:Int)=(x.words+63)/64
     ·simp only[cR,seval,y3,wA,e3,beq_self_eq_true];refine hR _ _ (rH _ _ ?_);simp only[cR,seval];refine rest _ _ (by rw[← hb,← S.bs];omega) ?_ ?_ ?_ ?_ nJ
      all_goals simp only[cR,seval]
     ·have CL:((P.span b:Int)==(x.words+63)/64)=false:=by simpa using e3
      rw[ND h0 (by rw[if_neg hl',← hb];exact .inr (.inr e3))] at hΦ;simp only[cR,seval,y3,wA,CL];refine hR _ _ (rH _ _ ?_);simp only[cR,seval];refine bZ _ _ _ (by simp) ?_;simp only[cR,seval];exact hΦ _ (eC.trans nJ)
    ·have uS:(G.bs b==2)=false:=by simpa using e2
     rw[ND h0 (by rw[if_neg hl',← hb,← S.bs];exact .inl e2)] at hΦ;simp only[cR,seval,y3,wA,qs,e1',H2.l0,q1,q2,and_self,bJ,Int.toNat_natCast,Nat.zero_add,l2,uS];refine hR _ _ (rH _ _ ?_);simp only[cR,seval];refine bZ _ _ _ (by simp) ?_;simp only[cR,seval];exact hΦ _ (eC.jJ _)
   ·have e1':(a%64==0)=false:=by simpa using e1
    rw[ND h0 (by rw[if_neg hl'];exact .inr (.inl e1))] at hΦ;simp only[cR,seval,y3,wA,qs,e1'];refine hR _ _ (rH _ _ ?_);simp only[cR,seval];refine bZ _ _ _ (by simp) ?_;simp only[cR,seval];exact hΦ _ (eC.jJ _)
  ·have hl':x.words≤32:=by omega
   simp only[if_pos hl'] at rest;simp only[eG,RV,RG,seval,hl,decide_false];refine aA fun RI rH GQ=>?_;refine cK [(9,64)] (by kernel_rfl) fun O hO bK hR=>?_;have y9:∀ a,aN O a 9=bC (a.aB 64):=hO (9,64) (by simp);by_cases e2:G.bs b=1
   ·have wx:IntKind.i64.wrap (a+x.words)=a+x.words:=aU (by omega) (by omega);have Re:IntKind.i64.wrap (a+x.words-1)=a+x.words-1:=aU (by omega) (by omega);have Qc:IntKind.i64.wrap ((a+x.words-1).tdiv 64)=(a+x.words-1)/64:=by rw[Int.tdiv_eq_ediv_of_nonneg (by omega),aU (by omega) (by omega)]
    simp only[cR,seval,y9,H2.l0,q1,q2,and_self,bJ,Int.toNat_natCast,Nat.zero_add,l2,e2,beq_self_eq_true,BC,List.drop_zero,List.take];refine aJ ?_ (HO k2.ok x fun s3 k3=>?_)
    ·simp only[cR,seval]
    by_cases e3:(a+x.words-1)/64=a/64
    ·have CL:((a+x.words-1)/64==(b:Int))=true:=by rw[beq_iff_eq,e3];omega
     simp only[cR,seval,y9,wx,Re,Qc,CL];refine hR _ _ (rH _ _ ?_);simp only[cR,seval];refine rest _ _ (by rw[← hb,← S.bs];omega) ?_ ?_ ?_ ?_ k3
     all_goals simp only[cR,seval]
    ·have CL:((a+x.words-1)/64==(b:Int))=false:=by rw[beq_eq_false_iff_ne];omega
     rw[ND h0 (by rw[if_pos hl'];exact .inr e3)] at hΦ;simp only[cR,seval,y9,wx,Re,Qc,CL];refine hR _ _ (rH _ _ ?_);simp only[cR,seval];refine bZ _ _ _ (by simp) ?_;simp only[cR,seval];exact hΦ _ (eC.trans k3)
   ·have uS:(G.bs b==1)=false:=by simpa using e2
    rw[ND h0 (by rw[if_pos hl',← hb,← S.bs];exact .inl e2)] at hΦ;simp only[cR,seval,y9,H2.l0,q1,q2,and_self,bJ,Int.toNat_natCast,Nat.zero_add,l2,uS];refine hR _ _ (rH _ _ ?_);simp only[cR,seval];refine bZ _ _ _ (by simp) ?_;simp only[cR,seval];exact hΦ _ eC
 ·rw[db (.inr (.inr g2))] at hΦ;have pO:(a%2==0)=false:=by simpa using g2
  simp only[cR,seval,y2,y7,g1,tm,pO,decide_false];refine hR _ _ (aH _ _ ?_);simp only[cR,seval];refine aK _ _ _ (by simp) ?_;simp only[cR,seval];exact hΦ _ k1
end
open Go.Proofs
set_option maxRecDepth 100000
set_option maxHeartbeats 1000000
namespace PH
variable {P:PH}
theorem Yk (G:P.cM) {a i:Int} (h:P.gA a i false=0):P.Body a (P.kI a i false):=by
 obtain⟨h1,h2,h3⟩:=NF h;obtain⟨g1,g2,g3,g4,g5⟩:=CW G h;exact⟨h1,g2,g3⟩
theorem Inv.setRef (I:P.Inv) (a i to:Int):(P.setRef a i to).Inv:=by
 unfold PH.setRef;split
 ·rename_i h;unfold iQ at h;split at h
  ·rename_i h1;exact I.mH (Yk I.cM h1)
  ·rename_i h1;exact absurd h h1
 ·exact I
theorem pk (P:PH) (a i to:Int):(P.setRef a i to).N=P.N∧(∀ b,(P.setRef a i to).has b=P.has b)∧∀ h,(P.setRef a i to).bF h=P.bF h∧(P.setRef a i to).nw=P.nw:=by
 unfold PH.setRef;split
 ·exact⟨rfl,fun _=>rfl,fun _=>⟨rfl,rfl⟩⟩
 ·exact⟨rfl,fun _=>rfl,fun _=>⟨rfl,rfl⟩⟩
end PH
section
variable {kc:Kc} {q:Bool} {s:St} {Φ:Value→St→Prop} {h r:Nat} {P:PH} {R:PR}
end
open Go.Proofs
set_option maxRecDepth 100000
set_option maxHeartbeats 4000000
theorem bE.storeAt {s:St} {e:TypeId} {m b off n c i:Nat} {L:List Value} {v:Value} (h:bE s e m (.slice (some ⟨b,off,none⟩) n c) L) (hs:Ok s) (hi:i<L.length) (h1:iB v=true) :
  ∃ s',dB s ⟨b,off+i,none⟩ [v]=some s'∧bE s' e m (.slice (some ⟨b,off,none⟩) n c) (L.set i v)∧aC [b] s s':=by
 cases h with
 | @own b off n c L0 L h hc hn hL hl =>
  have hnc:n*m≤c*m:=Nat.mul_le_mul_right _ hn;obtain⟨s',h2,h3,h4⟩:=h.gJ hs (i:=off+i) (v:=v) (by omega) h1;refine⟨s',h2,.own h3 (by rw[List.length_set];exact hc) hn (by rw[List.length_set];exact hL) (fun j hj=>?_),h4⟩;rw[List.length_set] at hj;rw[List.getElem?_set,List.getElem?_set,hl j hj];by_cases hij:i=j
  ·subst hij;rw[if_pos rfl,if_pos rfl,if_pos (show off+i<L0.length by omega),if_pos hj]
  ·rw[if_neg hij,if_neg (by omega)]
theorem Yh {α:Type} {f:α→List Value} {m:Nat} (hf:∀ x,(f x).length=m) (L:List α) {i j:Nat} (hi:i<L.length) (hj:j<m) {y:α} {v:Value} (hy:f y=(f L[i]).set j v):(L.flatMap f).set (i*m+j) v=(L.set i y).flatMap f:=by
 have hlen:i*m+j<L.length*m:=by
  have:(i+1)*m≤L.length*m:=Nat.mul_le_mul_right _ hi;rw[Nat.succ_mul] at this;omega
 apply List.ext_getElem?;intro k;by_cases hk:k<L.length*m
 ·have hm:0<m:=by omega
  have hq:k/m<L.length:=(Nat.div_lt_iff_lt_mul hm).2 hk;have hr:k%m<m:=Nat.mod_lt _ hm;have e:k=k/m*m+k%m:=by have:=Nat.div_add_mod k m;rw[Nat.mul_comm] at this;omega
  rw[List.getElem?_set,uY hf,if_pos hlen];rw[e,yT hf L hq hr,yT hf (L.set i y) (by rw[List.length_set];exact hq) hr,List.getElem_set];by_cases hik:i=k/m
  ·subst hik;rw[if_pos rfl,hy,List.getElem?_set];by_cases UN:j=k%m
   ·subst UN;rw[if_pos rfl,if_pos rfl,if_pos (by rw[hf];exact hr)]
   ·rw[if_neg (by omega),if_neg UN]
  ·rw[if_neg hik,if_neg];intro h;apply hik;have h1:(i*m+j)/m=i:=by rw[Nat.mul_comm,Nat.mul_add_div hm,Nat.div_eq_of_lt hj];rfl
   have h2:(k/m*m+k%m)/m=k/m:=by rw[Nat.mul_comm,Nat.mul_add_div hm,Nat.div_eq_of_lt hr];rfl
   rw[← h1,h,h2]
 ·rw[List.getElem?_eq_none (by rw[List.length_set,uY hf];omega),List.getElem?_eq_none (by rw[uY hf,List.length_set];omega)]
theorem df {α β:Type} {f:α→List β} {L:List α} {i:Nat} (hi:i<L.length) {y:α} (h:f y=f L[i]):(L.set i y).flatMap f=L.flatMap f:=by
 rw[List.flatMap_def,List.flatMap_def,List.map_set,h];congr 1;apply List.ext_getElem?;intro j;rw[List.getElem?_set];split
 ·rename_i e;subst e;rw[List.length_map,if_pos hi,List.getElem?_map,List.getElem?_eq_getElem hi];rfl
 ·try rfl
section
variable {kc:Kc} {q:Bool} {s:St} {Φ:Value→St→Prop} {g:Nat} {G:dD} {P:PH}
theorem cE.parts (H:cE s g G):(∀ o∈G.L,o.rn≠o.dn)∧G.L.Pairwise fun x y=>x.rn≠y.rn∧x.rn≠y.dn∧x.dn≠y.rn∧x.dn≠y.dn:=by
 have nd:=H.nd;unfold dD.own at nd;rw[List.nodup_cons,List.nodup_cons] at nd;have h:=nd.2.2;unfold List.Nodup at h;rw[List.pairwise_flatMap] at h;refine⟨fun o ho=>?_,h.2.imp fun{x y} h=>⟨h _ (by simp) _ (by simp),h _ (by simp) _ (by simp),h _ (by simp) _ (by simp),h _ (by simp) _ (by simp)⟩⟩;have:=h.1 o ho;simpa using this
theorem cE.aH1 {s':St} (H:cE s g G) {i:Nat} (hi:i<G.L.length) {rs:List Int} (hl:rs.length=G.L[i].rs.length) (k:aC [G.L[i].rn] s s') (hc:Obj s' G.L[i].rn (rs.map int)):cE s' g {G with L:=G.L.set i {G.L[i] with rs:=rs}}:=by
 obtain⟨p1,p2⟩:=H.parts;obtain⟨n1,n2,n3,n4⟩:=H.ai;have hm:=List.getElem_mem hi;have wK:(G.L.set i {G.L[i] with rs:=rs}).flatMap cJ.C=G.L.flatMap cJ.C:=df hi (by
  show ([_,_,_,_,_,Value.slice (some ⟨_,0,none⟩) rs.length rs.length,_,_]:List Value)=_;rw[hl];rfl)
 have hown:({G with L:=G.L.set i {G.L[i] with rs:=rs}}:dD).own g=G.own g:=by
  unfold dD.own;congr 2;exact df (f:=fun o:cJ=>[o.rn,o.dn]) hi rfl
 obtain⟨c,cb,cl,cr,nd,nl,m2,m64,len⟩:=H;obtain⟨o1,o2,o3,o4⟩:=n2 _ hm;have NY:G.L[i].rn∈G.own g:=List.mem_cons_of_mem _ (List.mem_cons_of_mem _ (List.mem_flatMap.2 ⟨_,hm,by simp⟩));refine⟨?_,cb.aD k (by simp;omega),?_,fun o ho=>?_,by rw[hown];exact nd,?_,m2,m64,by rw[List.length_set];exact len⟩
 ·have:=c.aD k (by simp;omega);simpa using this
 ·have:=cl.aD k (fun b hb hb'=>nl b hb (by rw[List.mem_singleton.1 hb'];exact NY));simp only[List.length_set];rw[wK];exact this
 ·obtain⟨j,hj,rfl⟩:=List.mem_iff_getElem.1 ho;rw[List.length_set] at hj;rw[List.getElem_set];split
  ·rename_i e;refine⟨hc,(cr _ hm).2.aD k ?_⟩;have:=p1 _ hm;simp;exact fun e=>this e.symm
  ·rename_i e;have hd:G.L[j].rn≠G.L[i].rn∧G.L[j].dn≠G.L[i].rn:=by
    rw[List.pairwise_iff_getElem] at p2;rcases Nat.lt_or_gt_of_ne e with h | h
    ·have:=p2 i j hi hj h;exact⟨fun e=>this.1 e.symm,fun e=>this.2.1 e.symm⟩
    ·have:=p2 j i hj hi h;exact⟨this.1,this.2.2.1⟩
   have:=cr _ (List.getElem_mem hj);exact⟨this.1.aD k (by simp[hd.1]),this.2.aD k (by simp[hd.2])⟩
 ·simp only[List.length_set];rw[hown];exact nl
theorem cE.aGz {s':St} (H:cE s g G) {i:Nat} (hi:i<G.L.length) {v:Bool} {b off:Nat} (hv:G.va=some ⟨b,off,none⟩) (k:aC [b] s s') (hc:bE s' 133 8 (.slice G.va G.L.length G.vc) ((G.L.flatMap cJ.C).set (i*8+7) (.bool v))):cE s' g {G with L:=G.L.set i {G.L[i] with gH:=v}}:=by
 have hb:=H.nl b (by rw[hv];simp[nameOf]);have wK:(G.L.flatMap cJ.C).set (i*8+7) (.bool v)=(G.L.set i {G.L[i] with gH:=v}).flatMap cJ.C:=Yh cJ.pL G.L hi (by omega) rfl;have hown:({G with L:=G.L.set i {G.L[i] with gH:=v}}:dD).own g=G.own g:=by
  unfold dD.own;congr 2;exact df (f:=fun o:cJ=>[o.rn,o.dn]) hi rfl
 obtain⟨c,cb,cl,cr,nd,nl,m2,m64,len⟩:=H;have ho:∀ x∈G.own g,x∉[b]:=fun x hx h=>hb (by rw[← List.mem_singleton.1 h];exact hx);refine⟨?_,cb.aD k (ho _ (List.mem_cons_of_mem _ (List.mem_cons_self ..))),?_,fun o UX=>?_,by rw[hown];exact nd,?_,m2,m64,by rw[List.length_set];exact len⟩
 ·have:=c.aD k (ho _ (List.mem_cons_self ..));simpa using this
 ·rw[← wK];simpa using hc
 ·have key:∀ x∈G.L,Obj s' x.rn (x.rs.map int)∧Obj s' x.dn (x.ds.map int):=fun x hx =>
   ⟨(cr x hx).1.aD k (ho _ (List.mem_cons_of_mem _ (List.mem_cons_of_mem _ (List.mem_flatMap.2 ⟨x,hx,by simp⟩)))),(cr x hx).2.aD k (ho _ (List.mem_cons_of_mem _ (List.mem_cons_of_mem _ (List.mem_flatMap.2 ⟨x,hx,by simp⟩))))⟩
  obtain⟨j,hj,rfl⟩:=List.mem_iff_getElem.1 UX;rw[List.length_set] at hj;rw[List.getElem_set];split
  ·exact key G.L[i] (List.getElem_mem hi)
  ·exact key _ (List.getElem_mem hj)
 ·simp only[List.length_set];rw[hown];exact nl
theorem cE.aD2 (H:cE s g G) {b off:Nat} (hv:G.va=some ⟨b,off,none⟩):b∈nameOf (.slice G.va G.L.length G.vc):=by rw[hv];simp[nameOf]
theorem uC:type_of% (An @RX<|An @nD<|An @SE<|An @mI<|An @lY<|An @mD<|An @oI<|An @yO<|@hZ):=An @RX<|An @nD<|An @SE<|An @mI<|An @lY<|An @mD<|An @oI<|An @yO<|@hZ
theorem aFp (hs:Ok s) (H:cE s g G) (S:gN P G.L) (a:Int) (hΦ:∀ s',aC [] s s'→Φ (.tuple #[oW (P.aY a),int (if P.has a=true then 0 else 4)]) s'):okF q X (KO kc) 57 [ptr g,int a] s Φ:=by
 have hlen:=H.len;refine aV rfl G9 rfl (rs:=[.cell 4 44,.tmp 5]) rfl (N:=24) rfl rfl ?_;refine aA fun bB aF aZ=>?_;simp only[uC,seval];obtain⟨s1,e1,k1,c1,n1⟩:=cA hs (L:=[int 0,int 0,int 0]) (n:=3) (e:=44) rfl;rw[e1];refine aF _ _ ?_;have H1:=H.aL k1;refine aA fun Ψ1 aE aK=>?_;refine aA fun Ψ2 aH bM=>?_;simp only[uC,seval];refine aJ ?_ (XV H1 S a ?_)
 ·simp only[uC,seval]
 try simp only[uC,seval]
 refine aH _ _ ?_;refine aA fun Ψ3 aM bN=>?_;cases hh:P.has a with
 | false =>
  have dS:=fun s' k=>hΦ s' k;unfold PH.aY at dS;simp only[hh,Bool.false_eq_true,if_false] at dS;obtain⟨s2,e2,c2,k2⟩:=c1.storeAll k1.ok (vs:=[int 0,int 0,int 0]) rfl rfl;have eC:aC [] s s2:=k1.step k2 fun y hy=>.inr (by rw[List.mem_singleton.1 hy];exact hs.fresh _ (Nat.le_refl _));have l2:=c2.bD (i:=0) (k:=3) (Nat.le_refl _);simp only[uC,seval,hh];refine aM _ _ ?_;simp only[uC,seval,e2];refine aK _ _ _ (by simp) ?_;simp only[uC,seval,l2,List.drop_zero,List.take];exact dS _ eC
 | true =>
  have dS:=fun s' k=>hΦ s' k;unfold PH.aY at dS;simp only[hh,if_true] at dS;simp only[uC,seval,hh];refine aM _ _ ?_;simp only[uC,seval];refine aE _ _ ?_;have ks:aC [] s1 (s1.skip 24):=aC.skip k1.ok _;refine aA fun Ψ4 aQ bZ=>?_;refine dH [(3,6)] [g] [] (by kernel_rfl) (by kernel_rfl) (by rfl) fun O hO bK hR=>?_;simp only[uC,seval,H1.l1];refine eQ ?_ (HN (H1.aL ks) a (fun i hi he=>?_) (fun hn=>?_))
  ·simp only[uC,seval]
  ·obtain⟨vb,dM,hv⟩:=H1.addr (show 0<G.L.length by omega);have p1:(0:Int)≤(i:Int):=Int.natCast_nonneg _;have p2:(i:Int)<((G.L.length:Nat):Int):=by omega
   have hok:=S.ok _ (List.getElem_mem hi);have l2:bD s1.look ⟨vb,dM+i*8+2,none⟩ 3=some [int (P.shape a).r,int (P.shape a).d,int (P.shape a).k]:=by
    have h:=H1.cl.sl;rw[hv] at h;have:=h.bD (i:=i*8+2) (k:=3) (by omega) (by rw[uY cJ.pL];omega);rw[← Nat.add_assoc] at this;rw[this,← he,← hok.sh];congr 1;apply List.ext_getElem?;intro j;by_cases hj:j<3
    ·rw[List.getElem?_take,if_pos hj,List.getElem?_drop,Nat.add_assoc,yT cJ.pL _ hi (by omega)];rcases j with _ | _ | _ | j
     ·try rfl
     ·try rfl
     ·try rfl
     ·omega
    ·rw[List.getElem?_eq_none (by rw[List.length_take];omega),List.getElem?_eq_none (by simp;omega)]
   obtain⟨s2,e2,c2,k2⟩:=(c1.aD ks (by simp)).storeAll ks.ok (vs:=[int (P.shape a).r,int (P.shape a).d,int (P.shape a).k]) rfl rfl;have eC:aC [] s s2:=(k1.trans ks).step k2 fun y hy=>.inr (by rw[List.mem_singleton.1 hy];exact hs.fresh _ (Nat.le_refl _));have iH:eT (s1.skip 24) (s1.skip 24) g=true:=(H1.aL ks).c.same ks.ok (.refl ks.ok) (F:=[]) (by simp);have l3:=c2.bD (i:=0) (k:=3) (Nat.le_refl _);simp only[uC,seval,hv,p1,p2,and_self,bJ,Int.toNat_natCast,l2,e2];refine⟨gQ iH jR,hR _ _ (aQ _ _ ?_)⟩;simp only[uC,seval,l3,List.drop_zero,List.take];exact dS _ eC
  ·obtain⟨o,ho,e⟩:=S.mem.2 hh;exact absurd e (hn o ho)
theorem sV:type_of% (An @RC<|An @RO<|An @RD<|An @RV<|An @RB<|@RG):=An @RC<|An @RO<|An @RD<|An @RV<|An @RB<|@RG
theorem aFc (hs:Ok s) (H:cE s g G) (S:gN P G.L) (I:P.Inv) (a:Int) (h1:P.has a=true→∀ va vc L s',cE s' g {G with va:=va,vc:=vc,L:=L}→gN (P.kill a) L→aC [g] s s'→(∀ b∈nameOf (.slice va L.length vc),s.next≤b)→(∀ o∈L,o∈G.L)→Φ (int 0) s') (h2:P.has a=false→Φ (int 4) s):okF q X (KO kc) 56 [ptr g,int a] s Φ:=by
 refine aV rfl G8 rfl (rs:=[.tmp 4]) rfl (N:=17) rfl rfl ?_;refine aA fun bB aF aZ=>?_;simp only[sV,seval];refine aF _ _ ?_;refine aA fun Ψ1 aE aK=>?_;refine aA fun Ψ2 aH bM=>?_;simp only[sV,seval];refine aJ ?_ (XV H S a ?_)
 ·simp only[sV,seval]
 try simp only[sV,seval]
 refine aH _ _ ?_;refine aA fun Ψ3 aM bN=>?_;cases hh:P.has a with
 | false =>
  simp only[sV,seval,hh];refine aM _ _ ?_;simp only[sV,seval];refine aK _ _ _ (by simp) ?_;simp only[sV,seval];exact h2 hh
 | true =>
  simp only[sV,seval,hh];refine aM _ _ ?_;simp only[sV,seval];refine aE _ _ ?_;refine aA fun Ψ4 aQ bZ=>?_;simp only[sV,seval];refine aJ ?_ (HN H a (fun i hi he=>?_) (fun hn=>?_))
  ·simp only[sV,seval]
  ·refine aJ ?_ (aFt hs H hi fun va vc s' H' k' hv=>?_)
   ·simp only[sV,seval]
   simp only[sV,seval];refine aQ _ _ ?_;simp only[sV,seval];refine h1 hh va vc _ s' H' ?_ k' hv (fun o ho=>List.mem_of_mem_eraseIdx ho);have:=S.kill I hi;rw[he] at this;exact this
  ·obtain⟨o,ho,e⟩:=S.mem.2 hh;exact absurd e (hn o ho)
theorem uA:type_of% (An @RX<|An @lY<|An @mD<|An @oI<|An @Af<|@LI):=An @RX<|An @lY<|An @mD<|An @oI<|An @Af<|@LI
theorem aFv (hs:Ok s) (H:cE s g G) (S:gN P G.L) (I:P.Inv) (a:Int) (v:Bool) (h1:P.has a=true→∀ L s',cE s' g {G with L:=L}→gN (P.gH a (if v=true then 1 else 0)) L→L.length=G.L.length→(∀ o∈L,∃ o'∈G.L,o.rn=o'.rn∧o.dn=o'.dn)→aC (nameOf (.slice G.va G.L.length G.vc)) s s'→Φ (int 0) s') (h2:P.has a=false→Φ (int 4) s):okF q X (KO kc) 152 [ptr g,int a,.bool v] s Φ:=by
 refine aV rfl Zz rfl (rs:=[.tmp 6]) rfl (N:=24) rfl rfl ?_;refine aA fun bB aF aZ=>?_;simp only[uA,seval];refine aF _ _ ?_;refine aA fun Ψ1 aE aK=>?_;refine aA fun Ψ2 aH bM=>?_;simp only[uA,seval];refine aJ ?_ (XV H S a ?_)
 ·simp only[uA,seval]
 try simp only[uA,seval]
 refine aH _ _ ?_;refine aA fun Ψ3 aM bN=>?_;cases hh:P.has a with
 | false =>
  simp only[uA,seval,hh];refine aM _ _ ?_;simp only[uA,seval];refine aK _ _ _ (by simp) ?_;simp only[uA,seval];exact h2 hh
 | true =>
  simp only[uA,seval,hh];refine aM _ _ ?_;simp only[uA,seval];refine aE _ _ ?_;have ks:aC [] s (s.skip 22):=aC.skip hs _;refine aA fun Ψ4 aQ bZ=>?_;refine dH [(3,6)] [g] [] (by kernel_rfl) (by kernel_rfl) (by rfl) fun O hO bK hR=>?_;simp only[uA,seval,H.l1];refine eQ ?_ (HN (H.aL ks) a (fun i hi he=>?_) (fun hn=>?_))
  ·simp only[uA,seval]
  ·obtain⟨vb,dM,hv⟩:=H.addr (show 0<G.L.length by omega);have p1:(0:Int)≤(i:Int):=Int.natCast_nonneg _;have p2:(i:Int)<((G.L.length:Nat):Int):=by omega
   have cl:=(H.aL ks).cl;rw[hv] at cl;obtain⟨s2,e2,b2,k2⟩:=cl.storeAt ks.ok (i:=i*8+7) (v:=.bool v) (by rw[uY cJ.pL];omega) rfl;rw[← Nat.add_assoc] at e2;have iH:eT (s.skip 22) (s.skip 22) g=true:=(H.aL ks).c.same ks.ok (.refl ks.ok) (F:=[]) (by simp);simp only[uA,seval,hv,p1,p2,and_self,bJ,Int.toNat_natCast,e2];have H2:=(H.aL ks).aGz hi hv k2 (by rw[hv];exact b2);have hS:=S.gH I.cM hi (v:=if v=true then 1 else 0);rw[he,show decide ((if v=true then 1 else 0)=1)=v by cases v <;> rfl] at hS
   refine⟨gQ iH jR,hR _ _ (aQ _ _ ?_)⟩;simp only[uA,seval];refine h1 hh _ s2 H2 hS (List.length_set ..) (fun o ho=>?_) ((ks.any.trans k2).mono fun x hx=>by rw[List.mem_singleton.1 hx];exact H.aD2 hv);rcases List.mem_or_eq_of_mem_set ho with h | h
   ·exact⟨o,h,rfl,rfl⟩
   ·exact⟨_,List.getElem_mem hi,by rw[h],by rw[h]⟩
  ·obtain⟨o,ho,e⟩:=S.mem.2 hh;exact absurd e (hn o ho)
theorem IA:type_of% (An @RC<|An @RO<|An @RD<|An @RV<|An @RB<|@RG):=An @RC<|An @RO<|An @RD<|An @RV<|An @RB<|@RG
theorem aFi (hs:Ok s) (H:cE s g G) (S:gN P G.L) (I:P.Inv) (a:Int) (h1:P.has a=true→∀ L s',cE s' g {G with L:=L}→gN (P.gH a 1) L→L.length=G.L.length→(∀ o∈L,∃ o'∈G.L,o.rn=o'.rn∧o.dn=o'.dn)→aC (nameOf (.slice G.va G.L.length G.vc)) s s'→Φ (int 0) s') (h2:P.has a=false→Φ (int 4) s):okF q X (KO kc) 60 [ptr g,int a] s Φ:=by
 refine aV rfl I0 rfl (rs:=[.tmp 4]) rfl (N:=8) rfl rfl ?_;refine aA fun bB aF aZ=>?_;simp only[IA,seval];refine aF _ _ ?_;refine aA fun Ψ1 aE aK=>?_;simp only[IA,seval];refine aJ ?_ (aFv hs H S I a true (fun hh L s' H' S' hl hn k'=>?_) (fun hh=>?_))
 ·simp only[IA,seval]
 ·simp only[IA,seval];refine aE _ _ ?_;simp only[IA,seval];exact h1 hh L s' H' S' hl hn k'
 ·simp only[IA,seval];refine aE _ _ ?_;simp only[IA,seval];exact h2 hh
theorem jA:type_of% (An @RX<|An @lY<|An @mD<|An @oI<|An @IY<|An @dF<|An @dG<|An @dE<|@jG):=An @RX<|An @lY<|An @mD<|An @oI<|An @IY<|An @dF<|An @dG<|An @dE<|@jG
theorem aFn (hs:Ok s) (H:cE s g G) (S:gN P G.L) (I:P.Inv) (a i to:Int) (h1:P.iQ a i to=0→∀ L n s',cE s' g {G with L:=L}→gN (P.setRef a i to) L→L.length=G.L.length→(∀ o∈L,∃ o'∈G.L,o.rn=o'.rn∧o.dn=o'.dn)→n∈G.own g→aC [n] s s'→Φ (int 0) s') (h2:P.iQ a i to≠0→Φ (int (P.iQ a i to)) s):okF q X (KO kc) 148 [ptr g,int a,int i,int to] s Φ:=by
 unfold PH.setRef at h1;refine aV rfl Zv rfl (rs:=[.tmp 8]) rfl (N:=56) rfl rfl ?_;refine aA fun bB aF aZ=>?_;simp only[jA,seval];refine aF _ _ ?_;refine aA fun Ψ1 aE aK=>?_;refine aA fun Ψ2 aH bM=>?_;simp only[jA,seval];refine aJ ?_ (XV H S a ?_)
 ·simp only[jA,seval]
 try simp only[jA,seval]
 refine aH _ _ ?_;refine aA fun Ψ3 aM bN=>?_;cases hh:P.has a with
 | false =>
  have e:P.iQ a i to=4:=by unfold PH.iQ PH.gA;rw[hh];rfl
  rw[e] at h2;simp only[jA,seval,hh];refine aM _ _ ?_;simp only[jA,seval];refine aK _ _ _ (by simp) ?_;simp only[jA,seval];exact h2 (by omega)
 | true =>
  simp only[jA,seval,hh];refine aM _ _ ?_;simp only[jA,seval];refine aE _ _ ?_;refine aA fun Ψ4 aQ bZ=>?_;simp only[jA,seval];refine aJ ?_ (HN H a (fun k hk he=>?_) (fun hn=>?_))
  ·simp only[jA,seval]
  ·simp only[jA,seval];refine aQ _ _ ?_;obtain⟨vb,dM,hv⟩:=H.addr (show 0<G.L.length by omega);have p1:(0:Int)≤(k:Int):=Int.natCast_nonneg _;have p2:(k:Int)<((G.L.length:Nat):Int):=by omega
   have hm:=List.getElem_mem hk;have hok:=S.ok _ hm;have hr:=S.po I.cM hm;have NX:G.L[k].rs.length=G.L[k].sh.r.toNat:=by rw[hok.rs,MB]
   have Dr:P.many a false=(G.L[k].rs.length:Int):=by
    unfold PH.many;rw[if_neg (by simp),← he,← hok.sh,NX];omega
   have l1:=H.l1;rw[hv] at l1;have l5:aI s.look ⟨vb,dM+k*8+5,none⟩=some (.slice (some ⟨G.L[k].rn,0,none⟩) G.L[k].rs.length G.L[k].rs.length):=H.lo hv hk rfl;refine aA fun cP bI cF=>?_;refine aA fun dK bO cV=>?_;refine cK [(2,22),(15,35),(18,38)] (by kernel_rfl) fun O hO bK hR=>?_;have y2:∀ a,aN O a 2=bC (a.aB 22):=hO (2,22) (by simp);have wB:∀ a,aN O a 15=bC (a.aB 35):=hO (15,35) (by simp);have mY:∀ a,aN O a 18=bC (a.aB 38):=hO (18,38) (by simp);by_cases g1:i<0
   ·have e:P.iQ a i to=1:=by unfold PH.iQ PH.gA;rw[hh,if_pos rfl,if_pos (Or.inl g1)];rfl
    rw[e] at h2;simp only[jA,seval,y2,wB,mY,g1,decide_true];refine hR _ _ (bO _ _ ?_);simp only[jA,seval];refine cF _ _ _ (by simp) ?_;simp only[jA,seval];exact h2 (by omega)
   by_cases g2:i≥(G.L[k].rs.length:Int)
   ·have e:P.iQ a i to=1:=by unfold PH.iQ PH.gA;rw[hh,if_pos rfl,Dr,if_pos (Or.inr g2)];rfl
    rw[e] at h2;simp only[jA,seval,y2,wB,mY,g1,l1,p1,p2,and_self,bJ,Int.toNat_natCast,l5,g2,decide_true,decide_false];refine hR _ _ (bO _ _ ?_);simp only[jA,seval];refine cF _ _ _ (by simp) ?_;simp only[jA,seval];exact h2 (by omega)
   have UJ:P.gA a i false=0:=by unfold PH.gA;rw[hh,if_pos rfl,Dr,if_neg (by omega)]
   have fin:∀ a':aG,a'.aB 0=ptr g→a'.aB 2=int i→a'.aB 3=int to→a'.aB 10=int k→P.iQ a i to=0→cP .normal a' s:=by
    intro a' r0 r2 r3 cL e;have n1:0≤i:=by omega
    have n2:i<((G.L[k].rs.length:Nat):Int):=by omega
    obtain⟨s2,e2,c2,k2⟩:=(H.cr _ hm).1.gJ hs (i:=i.toNat) (v:=int to) (by rw[List.length_map];omega) rfl;have rA:Obj s2 G.L[k].rn ((G.L[k].rs.set i.toNat to).map int):=by rw[List.map_set];exact c2
    have H2:=H.aH1 hk (rs:=G.L[k].rs.set i.toNat to) (List.length_set ..) k2 rA;have hS:=S.setRef I hk (k:=i.toNat) (by omega) to;have hfa:P.kI a i false=G.L[k].a+2+(i.toNat:Int):=by
     rw[(PH.CW I.cM UJ).1,he];show a+2+i=_;omega
    rw[← hfa] at hS;refine bI _ _ ?_;refine aA fun fJ cC eF=>?_;simp only[jA,seval,r0,r2,r3,cL,l1,p1,p2,and_self,bJ,Int.toNat_natCast,l5,n1,n2,Nat.mul_one,Nat.zero_add,e2];refine cC _ _ ?_;simp only[jA,seval];refine h1 e _ _ s2 H2 (by rw[if_pos e];exact hS) (List.length_set ..) (fun o ho=>?_) (List.mem_cons_of_mem _ (List.mem_cons_of_mem _ (List.mem_flatMap.2 ⟨_,hm,by simp⟩))) k2;rcases List.mem_or_eq_of_mem_set ho with h | h
    ·exact⟨o,h,rfl,rfl⟩
    ·exact⟨_,hm,by rw[h],by rw[h]⟩
   by_cases g3:to=0
   ·have e:P.iQ a i to=0:=by unfold PH.iQ;rw[if_pos UJ,if_neg (by omega)]
    have JF:(to==0)=true:=by simpa using g3
    simp only[jA,seval,y2,wB,mY,g1,l1,p1,p2,and_self,bJ,Int.toNat_natCast,l5,g2,JF,decide_false];refine hR _ _ (bO _ _ ?_);simp only[jA,seval];refine fin _ ?_ ?_ ?_ ?_ e
    all_goals simp only[jA,seval]
   ·have JF:(to==0)=false:=by simpa using g3
    simp only[jA,seval,y2,wB,mY,g1,l1,p1,p2,and_self,bJ,Int.toNat_natCast,l5,g2,JF,decide_false];refine aJ ?_ (aFb H S to ?_)
    ·simp only[jA,seval]
    cases ht:P.has to with
    | true =>
     have e:P.iQ a i to=0:=by unfold PH.iQ;rw[if_pos UJ,if_neg (by rw[ht];simp)]
     simp only[jA,seval,y2,wB,mY];refine hR _ _ (bO _ _ ?_);simp only[jA,seval];refine fin _ ?_ ?_ ?_ ?_ e
     all_goals simp only[jA,seval]
    | false =>
     have e:P.iQ a i to=1:=by unfold PH.iQ;rw[if_pos UJ,if_pos ⟨g3,ht⟩]
     rw[e] at h2;simp only[jA,seval,y2,wB,mY];refine hR _ _ (bO _ _ ?_);simp only[jA,seval];refine cF _ _ _ (by simp) ?_;simp only[jA,seval];exact h2 (by omega)
  ·obtain⟨o,ho,e⟩:=S.mem.2 hh;exact absurd e (hn o ho)
end
open Go.Proofs
set_option maxRecDepth 100000
set_option maxHeartbeats 4000000
section
variable {kc:Kc} {q:Bool} {s:St} {Φ:Value→St→Prop} {g:Nat} {G:dD} {P:PH}
theorem cE.ph {s':St} {n:Nat} (H:cE s g G) (k:aC [g] s s') (hc:Obj s' g [.slice (some ⟨G.bn,0,none⟩) G.N G.N,.slice G.va G.L.length G.vc,.slice none 0 0,int n]):cE s' g {G with born:=n}:=by
 obtain⟨h1,h2,h3,h4⟩:=H.ai;obtain⟨c,cb,cl,cr,nd,nl,n2,bW,len⟩:=H;refine⟨hc,cb.aD k (by simp[h1]),cl.aD k (fun b hb=>by simp;intro e;exact h4 (by rw[← e];exact hb)),fun o ho=>?_,nd,nl,n2,bW,len⟩;obtain⟨g1,g2,g3,g4⟩:=h2 o ho;exact⟨(cr o ho).1.aD k (by simp[g3]),(cr o ho).2.aD k (by simp[g4])⟩
theorem Obj.aGs {s:St} {b y:Nat} {L:List Value} {f:Nat→bU} (h:Obj s b L) (hs:Ok s) (hy:b≠y):eT s (s.put y f) b=true:=by
 have:=h.same hs (.refl hs) (F:=[]) (by simp);unfold eT at this ⊢;rw[tF hy];exact this
theorem mJ:type_of% (An @RX<|An @hZ<|An @Ad<|An @aW<|An @jG<|An @lZ<|An @oZ<|@uf):=An @RX<|An @hZ<|An @Ad<|An @aW<|An @jG<|An @lZ<|An @oZ<|@uf
theorem aFk (hs:Ok s) (H:cE s g G) (S:iM P G) (I:P.Inv) (a:Int) (ha:i64 a) (x:cI) (hx:x.valid=true) (hb:P.born<1000000) (hlen:G.L.length<2048)
  (h1:P.rL a x=0→∀ G' s',cE s' g G'→iM (P.place a x) G'→G'.L.length=G.L.length+1→aC [g] s s'→(∀ b∈G'.bF g,b∈G.bF g∨s.next≤b)→Φ (.tuple #[int ((P.born:Int)+1),int 0]) s') (h2:P.rL a x≠0→∀ s',aC [] s s'→Φ (.tuple #[int 0,int (P.rL a x)]) s') :
  okF q X (KO kc) 145 [ptr g,int a,oW x] s Φ:=by
 have hv:=cI.pZ.1 hx;have Dw:P.rL a x=P.oR a x.words (-1):=by unfold PH.rL;rw[if_pos hx]
 rw[Dw] at h1 h2;refine aV rfl Zs rfl (rs:=[.tmp 6,.tmp 7]) rfl (N:=48) rfl rfl ?_;refine aA fun bB aF aZ=>?_;simp only[mJ,seval];obtain⟨s1,e1,k1,c1,n1⟩:=cA hs (L:=[int x.r,int x.d,int x.k]) (n:=3) (e:=44) rfl;rw[e1];refine aF _ _ ?_;have H1:=H.aL k1;have BB:=c1.bD (i:=0) (k:=3) (Nat.le_refl _);refine aA fun Ψ1 aE aK=>?_;refine aA fun Ψ2 aH bM=>?_;simp only[mJ,seval];refine aJ ?_ (BL H1 ?_)
 ·simp only[mJ,seval]
 try simp only[mJ,seval]
 refine aH _ _ ?_;simp only[mJ,seval];refine aE _ _ ?_;refine aA fun Ψ3 aM bN=>?_;refine aA fun Ψ4 aQ bZ=>?_;simp only[mJ,seval,BB,List.drop_zero,List.take];refine aJ ?_ (Kr k1.ok x fun s2 k2=>?_)
 ·simp only[mJ,seval]
 rw[hx]
 try simp only[mJ,seval]
 refine aQ _ _ ?_;simp only[mJ,seval];refine aM _ _ ?_;have eC:=k1.trans k2;have c2:=c1.aD k2 (by simp);have BC:=c2.bD (i:=0) (k:=3) (Nat.le_refl _);refine aA fun cP bI cF=>?_;refine aA fun dK bO cV=>?_;simp only[mJ,seval,BC,List.drop_zero,List.take];refine aJ ?_ (aFu k2.ok (H1.aL k2) S I a ha x hx fun s3 k3=>?_)
 ·simp only[mJ,seval]
 try simp only[mJ,seval]
 refine bO _ _ ?_;have fF:=eC.trans k3;have c3:=c2.aD k3 (by simp);have H3:=(H1.aL k2).aL k3;refine aA fun fJ cC eF=>?_;by_cases he:P.oR a x.words (-1)=0
 ·have hE:P.rL a x=0:=Dw.trans he;have R:=PH.Lj I.cM I.b0 hE;simp only[mJ,seval,he];refine cC _ _ ?_;simp only[mJ,seval];refine bI _ _ ?_;have hbn:=S.born;have w:IntKind.i64.wrap ((G.born:Int)+1)=((G.born+1:Nat):Int):=by rw[aU (by omega) (by omega)];rfl
  obtain⟨s4,e4,c4,k4⟩:=H3.c.gJ k3.ok (i:=3) (v:=int ((G.born+1:Nat))) (by simp) rfl;refine aA fun jC dA iI=>?_;simp only[mJ,seval,H3.l3,w,e4];refine dA _ _ ?_;have H4:=H3.ph (n:=G.born+1) k4 c4;have UK:g<s.next:=H.c.lt hs;have l3:aI s4.look ⟨g,3,none⟩=some (int ((G.born+1:Nat))):=H4.l3;have MR:=c3.aD k4 (by simp;omega);have ON:=MR.bD (i:=0) (k:=3) (Nat.le_refl _);have lr:aI s4.look ⟨s.next,0,none⟩=some (int x.r):=MR.load rfl;have ld:aI s4.look ⟨s.next,1,none⟩=some (int x.d):=MR.load rfl;have iW:aC [g] s s4:=fF.any.trans k4;refine aA fun lJ dW jP=>?_;refine dH [(11,9)] [s.next] [] (by kernel_rfl) (by kernel_rfl) (by rfl) fun O hO bK hR=>?_;have ks:aC [] s4 (s4.skip 30):=aC.skip k4.ok 30;have fr:∀ y,s4.next≤y→(s4.skip 30).heap.get y=none:=k4.ok.fresh;obtain⟨S1,E1,K1,C1,N1,F1⟩:∃ S1,(s4.skip 30).put (s4.next+18) (fun v=>bU.cells PT.nil [int 0] (x.r.toNat*1) 3 false false v)=S1∧aC [] s4 S1∧Obj S1 (s4.next+18) (row x.r.toNat fun _=>int 0)∧S1.next=s4.next+30∧(∀ y,s4.next≤y→y≠s4.next+18→S1.heap.get y=none) :=
   ⟨_,rfl,(aC.skip k4.ok 30).pD (fr _ (by omega)) (by show s4.next+18<s4.next+30;omega) (by omega) (Nat.le_refl _),Obj.tO rfl (by rw[iZ];omega) (fun i hi=>by
    rw[lM _ (by omega),Nat.mod_one];rfl),rfl,fun y hy hne=>by rw[tF hne];exact fr y hy⟩
  have sI:s.next<s4.next:=by have:=MR.lt k4.ok;exact this
  have iH:eT (s4.skip 30) S1 s.next=true:=by rw[← E1];exact(MR.aD ks (by simp)).aGs ks.ok (by omega)
  obtain⟨S2,E2,K2,C2,ZG,N2⟩:∃ S2,S1.put (s4.next+24) (fun v=>bU.cells PT.nil [int 0] (x.d.toNat*1) 3 false false v)=S2∧aC [] s4 S2∧Obj S2 (s4.next+24) (row x.d.toNat fun _=>int 0)∧Obj S2 (s4.next+18) (row x.r.toNat fun _=>int 0)∧S2.next=s4.next+30 :=
   ⟨_,rfl,K1.pD (F1 _ (by omega) (by omega)) (by omega) (by omega) (Nat.le_refl _),Obj.tO rfl (by rw[iZ];omega) (fun i hi=>by
    rw[lM _ (by omega),Nat.mod_one];rfl),C1.oK (by omega),N1⟩
  have lr1:aI S1.look ⟨s.next,0,none⟩=some (int x.r):=tM K1 (by simp) lr;have ld1:aI S1.look ⟨s.next,1,none⟩=some (int x.d):=tM K1 (by simp) ld;simp only[mJ,seval,l3,ON,List.drop_zero,List.take,lr,DQ (nm:=s4.next+18) (n:=x.r) (m:=x.r) (by omega) (by omega) (by omega) (by omega)];rw[E1];simp only[mJ,seval,ld1,DQ (nm:=s4.next+24) (n:=x.d) (m:=x.d) (by omega) (by omega) (by omega) (by omega)];rw[E2];refine⟨gQ iH jR,?_⟩;have Cz:∀ y∈G.bF g,y<s4.next:=fun y hy=>by have:=H.gO hs y hy;have:=iW.next;omega
  have H5:cE S2 g {G with born:=G.born+1}:=H4.aL K2;have rz:∀ n:Nat,(List.replicate n (0:Int)).map int=row n fun _=>int 0:=fun n=>by
   refine KZ (by simp) fun i hi=>?_;rw[List.getElem?_map,List.getElem?_replicate,if_pos hi];rfl
  refine eQ ?_ (aFw K2.ok H5 ⟨a,(P.born:Int)+1,x,s4.next+18,s4.next+24,List.replicate x.r.toNat 0,List.replicate x.d.toNat 0,false⟩ (by rw[rz];exact ZG) (by rw[rz];exact C2) (fun h=>by have:=Cz _ h;simp only at this;omega) (fun h=>by have:=Cz _ h;simp only at this;omega) (by simp only;omega) hlen ?_)
  ·simp only[mJ,seval,List.length_replicate,hbn]
   try rfl
  intro va vc s5 H6 k5 hv5;have k25:aC [g] s s5:=(iW.trans K2.any).trans k5;simp only[mJ,seval];refine hR _ _ (dW _ _ ?_);refine aA fun mZ eB nH=>?_;have l5:aI s5.look ⟨g,3,none⟩=some (int ((G.born+1:Nat))):=H6.l3;simp only[mJ,seval,l5];refine eB _ _ ?_;simp only[mJ,seval];have hb':((G.born+1:Nat):Int)=(P.born:Int)+1:=by rw[hbn];rfl
  rw[hb'];refine h1 he _ s5 H6 ⟨S.N,S.bs,S.bp,by show G.born+1=P.born+1;rw[hbn],?_⟩ (nf _ _) k25 ?_
  ·exact S.L.place I R _ _
  ·intro y hy;rcases List.mem_append.1 hy with hy | hy
   ·unfold dD.own at hy;rcases List.mem_cons.1 hy with h | h
    ·exact .inl (List.mem_append_left _ (by rw[h];exact List.mem_cons_self ..))
    ·rcases List.mem_cons.1 h with h | h
     ·exact .inl (List.mem_append_left _ (by rw[h];exact List.mem_cons_of_mem _ (List.mem_cons_self ..)))
     ·obtain⟨o,ho,hy⟩:=List.mem_flatMap.1 h;have:=iW.next;rcases gN.HH.1 ho with h | h
      ·exact .inl (List.mem_append_left _ (List.mem_cons_of_mem _ (List.mem_cons_of_mem _ (List.mem_flatMap.2 ⟨o,h,hy⟩))))
      ·subst h;simp only[List.mem_cons,List.not_mem_nil,or_false] at hy;right;omega
   ·have:=hv5 y hy;have:=iW.next;have:=K2.next;right;omega
 ·have he':(P.oR a x.words (-1)==0)=false:=by simpa using he
  simp only[mJ,seval,he'];refine cC _ _ ?_;simp only[mJ,seval];refine cF _ _ _ (by simp) ?_;simp only[mJ,seval];exact h2 he s3 fF
end
end Go.Dust
