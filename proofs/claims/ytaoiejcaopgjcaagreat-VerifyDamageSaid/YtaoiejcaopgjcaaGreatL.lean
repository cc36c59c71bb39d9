/- VerifyDamage walked in D, function by function, and its plain law (H1 H2 N5 Q8). -/
import Derived.Test.YtaoiejcaopgjcaaGreatK
import Derived.Test.YtaoiejcaopgjcaaGreatJ
set_option linter.unusedVariables false
set_option linter.unusedSimpArgs false
namespace Go.Dust
open Go.Proofs
set_option maxRecDepth 100000
set_option maxHeartbeats 1000000
theorem zU {α:Type} {f:α→List Value} {m:Nat} (hf:∀ x,(f x).length=m):∀ (L:List α) {i j:Nat} (hi:i<L.length),j<m→(L.flatMap f)[i*m+j]?=(f L[i])[j]?
 | x::L,0,j,_,hj=>by
  rw[List.flatMap_cons,Nat.zero_mul,Nat.zero_add,List.getElem?_append_left (by rw[hf];exact hj)];rfl
 | x::L,i+1,j,hi,hj=>by
  rw[List.flatMap_cons,List.getElem?_append_right (by rw[hf,Nat.succ_mul];omega),hf,show (i+1)*m+j-m=i*m+j by rw[Nat.succ_mul];omega];exact zU hf L (by simpa using hi) hj
theorem vO {α:Type} {f:α→List Value} {m:Nat} (hf:∀ x,(f x).length=m):∀ (L:List α),(L.flatMap f).length=L.length*m
 | []=>by simp
 | x::L=>by rw[List.flatMap_cons,List.length_append,hf,vO hf L,List.length_cons,Nat.succ_mul,Nat.add_comm]
theorem Cc {α:Type} {f:α→List Value} {m:Nat} (hf:∀ x,(f x).length=m) (L:List α) {i:Nat} (hi:i<L.length):((L.flatMap f).drop (i*m)).take m=f L[i]:=by
 apply List.ext_getElem?;intro j;by_cases hj:j<m
 ·rw[List.getElem?_take,if_pos hj,List.getElem?_drop,zU hf L hi hj]
 ·rw[List.getElem?_eq_none (by rw[List.length_take];omega),List.getElem?_eq_none (by rw[hf];omega)]
def cS.C (o:cS):List Value:=[int o.a,int o.id,int o.sh.r,int o.sh.d,int o.sh.k,.slice (some ⟨o.rn,0,none⟩) o.rs.length o.rs.length,.slice (some ⟨o.dn,0,none⟩) o.ds.length o.ds.length,.bool o.fD]
theorem cS.qB (o:cS):o.C.length=8:=rfl
structure dI where
 bn:Nat
 va:Option Addr
 vc:Nat
 N:Nat
 bs:Nat→Int
 bp:Nat→Int
 L:List cS
 born:Nat
def dI.own (g:Nat) (G:dI):List Nat:=g::G.bn::G.L.flatMap fun o=>[o.rn,o.dn]
def dI.aS (g:Nat) (G:dI):List Nat:=G.own g++nameOf (.slice G.va G.L.length G.vc)
structure cM (s:St) (g:Nat) (G:dI):Prop where
 c:Obj s g [.slice (some ⟨G.bn,0,none⟩) G.N G.N,.slice G.va G.L.length G.vc,.slice none 0 0,int G.born]
 cb:Obj s G.bn (row (2*G.N) fun i=>int (if i%2=0 then G.bs (i/2) else G.bp (i/2)))
 cl:bJ s 133 8 (.slice G.va G.L.length G.vc) (G.L.flatMap cS.C)
 cr:∀ o∈G.L,Obj s o.rn (o.rs.map int)∧Obj s o.dn (o.ds.map int)
 nd:(G.own g).Nodup
 nl:∀ b∈nameOf (.slice G.va G.L.length G.vc),b∉G.own g
 n2:2≤G.N
 bY:G.N≤64
 len:G.L.length≤2048
structure iW (P:PH) (G:dI):Prop where
 N:G.N=P.N
 bs:G.bs=P.bs
 bp:G.bp=P.bp
 born:G.born=P.born
 L:gX P G.L
namespace cM
variable {F:List Nat} {s s':St} {g:Nat} {G:dI}
theorem aD (H:cM s g G) (k:aC F s s') (hF:∀ x∈G.aS g,x∉F):cM s' g G:=by
 obtain⟨c,cb,cl,cr,nd,nl,n2,bY,len⟩:=H;have f1:∀ x∈G.own g,x∉F:=fun x hx=>hF x (List.mem_append_left _ hx);have f2:∀ o∈G.L,o.rn∈G.own g∧o.dn∈G.own g:=fun o ho =>
  ⟨List.mem_cons_of_mem _ (List.mem_cons_of_mem _ (List.mem_flatMap.2 ⟨o,ho,by simp⟩)),List.mem_cons_of_mem _ (List.mem_cons_of_mem _ (List.mem_flatMap.2 ⟨o,ho,by simp⟩))⟩
 exact⟨c.aD k (f1 _ (List.mem_cons_self ..)),cb.aD k (f1 _ (List.mem_cons_of_mem _ (List.mem_cons_self ..))),cl.aD k (fun b hb=>hF b (List.mem_append_right _ hb)),
  fun o ho=>⟨(cr o ho).1.aD k (f1 _ (f2 o ho).1),(cr o ho).2.aD k (f1 _ (f2 o ho).2)⟩,nd,nl,n2,bY,len⟩
theorem aJ (H:cM s g G) (k:aC [] s s'):cM s' g G:=H.aD k fun _ _=>by simp
theorem l0 (H:cM s g G):aG s.look ⟨g,0,none⟩=some (.slice (some ⟨G.bn,0,none⟩) G.N G.N):=H.c.load rfl
theorem l1 (H:cM s g G):aG s.look ⟨g,1,none⟩=some (.slice G.va G.L.length G.vc):=H.c.load rfl
theorem l3 (H:cM s g G):aG s.look ⟨g,3,none⟩=some (int G.born):=H.c.load rfl
theorem lb (H:cM s g G) {i:Nat} (hi:i<G.N):aG s.look ⟨G.bn,i*2,none⟩=some (int (G.bs i)):=by
 have:=H.cb.load (lW (n:=2*G.N) (i:=i*2) _ (by omega));simpa using this
theorem lp (H:cM s g G) {i:Nat} (hi:i<G.N):aG s.look ⟨G.bn,i*2+1,none⟩=some (int (G.bp i)):=by
 have:=H.cb.load (lW (n:=2*G.N) (i:=i*2+1) _ (by omega));rw[this,if_neg (by omega),show (i*2+1)/2=i by omega]
theorem addr (H:cM s g G) (h:0<G.L.length):∃ b off,G.va=some ⟨b,off,none⟩:=H.cl.sl.addr h
theorem lo (H:cM s g G) {b off i j:Nat} (hv:G.va=some ⟨b,off,none⟩) (hi:i<G.L.length) {v:Value} (hj:(G.L[i].C)[j]?=some v):aG s.look ⟨b,off+i*8+j,none⟩=some v:=by
 have iX:j<8:=by
  have:=(List.getElem?_eq_some_iff.1 hj).1
  rwa [cS.qB] at this
 have h:=H.cl.sl;rw[hv] at h;have:=h.load (i:=i*8+j) (v:=v) (by rw[zU cS.qB _ hi iX];exact hj);rw[← Nat.add_assoc] at this;exact this
theorem lN (H:cM s g G) {b off i:Nat} (hv:G.va=some ⟨b,off,none⟩) (hi:i<G.L.length):bI s.look ⟨b,off+i*8,none⟩ 8=some G.L[i].C:=by
 have h:=H.cl.sl;rw[hv] at h;have:=h.bI (i:=i*8) (k:=8) (by omega) (by rw[vO cS.qB];omega);rw[Cc cS.qB _ hi] at this;exact this
theorem eM (H:cM s g G) (hs:Ok s):∀ x∈G.aS g,x<s.next:=by
 intro x hx;rcases List.mem_append.1 hx with hx | hx
 ·rcases List.mem_cons.1 hx with rfl | hx
  ·exact H.c.lt hs
  ·rcases List.mem_cons.1 hx with rfl | hx
   ·exact H.cb.lt hs
   ·obtain⟨o,ho,hx⟩:=List.mem_flatMap.1 hx;obtain⟨h1,h2⟩:=H.cr o ho;rcases List.mem_cons.1 hx with rfl | hx
    ·exact h1.lt hs
    ·rw[List.mem_singleton.1 hx];exact h2.lt hs
 ·exact H.cl.lt hs x hx
end cM
section
variable {kc:Kc} {q:Bool} {s:St} {Φ:Value→St→Prop} {g:Nat} {G:dI} {P:PH}
theorem NL:type_of% (B6 @RX @Kh @Kb @nM @nU @rV):=B6 @RX @Kh @Kb @nM @nU @rV
theorem AW (H:cM s g G) (hΦ:Φ (.bool true) s):okF q X (KO kc) 90 [ptr g] s Φ:=by
 have n2:=H.n2;have hp:((G.N:Nat):Int)>0:=by omega
 refine aW Tryz.func90 (by kernel_rfl) rfl rfl (rs:=[.tmp 2]) rfl (N:=13) rfl rfl ?_;refine aA fun bF aF bD=>?_;simp only[NL,seval];refine aF _ _ ?_;refine aA fun Ψ1 aE aL=>?_;refine cL [(2,5)] (by kernel_rfl) fun O hO bC hR=>?_;have y2:∀ a,aO O a 2=aY (a.aB 5):=hO (2,5) (by simp);simp only[NL,seval,y2,H.l0,hp,decide_true];refine hR _ _ (aE _ _ ?_);simp only[NL,seval];exact hΦ
theorem NM:type_of% (B4 @RX @nM @nU @rV):=B4 @RX @nM @nU @rV
theorem Mu (H:cM s g G) (hΦ:Φ (int G.N) s):okF q X (KO kc) 97 [ptr g] s Φ:=by
 refine aW Tryz.func97 (by kernel_rfl) rfl rfl (rs:=[.tmp 2]) rfl (N:=11) rfl rfl ?_;refine aA fun bF aF bD=>?_;simp only[NM,seval];refine aF _ _ ?_;refine aA fun Ψ1 aE aL=>?_;refine aA fun Ψ2 aI bH=>?_;simp only[NM,seval];refine aH ?_ (AW H ?_)
 ·simp only[NM,seval]
 try simp only[NM,seval]
 refine aI _ _ ?_;simp only[NM,seval];refine aE _ _ ?_;simp only[NM,seval,H.l0];exact hΦ
theorem gQ:type_of% (B7 @RX @kX @lA @wC @nS @vM @bG):=B7 @RX @kX @lA @wC @nS @vM @bG
theorem IN (H:cM s g G) (a:Int) (h1:∀ i (hi:i<G.L.length),G.L[i].a=a→Φ (int i) s) (h2:(∀ o∈G.L,o.a≠a)→Φ (int (-1)) s):okF q X (KO kc) 132 [ptr g,int a] s Φ:=by
 have hlen:=H.len;refine aW Tryz.func132 (by kernel_rfl) rfl rfl (rs:=[.tmp 4]) rfl (N:=29) rfl rfl ?_;refine aA fun bF aF bD=>?_;simp only[gQ,seval];refine aF _ _ ?_;refine aA fun Ψ1 aE aL=>?_;refine aA fun Ψ2 aI bH=>?_;simp only[gQ,seval];refine aH ?_ (AW H ?_)
 ·simp only[gQ,seval]
 try simp only[gQ,seval]
 refine aI _ _ ?_;simp only[gQ,seval];refine aE _ _ ?_;refine aA fun Ψ3 aN bM=>?_;refine aA fun Ψ4 aP cC=>?_;simp only[gQ,seval];refine aP _ _ ?_;refine cJ fun cU aZ pU cK=>?_;refine gB (n:=G.L.length) (fun j a' s'=>a'.aB 0=ptr g∧a'.aB 1=int a∧a'.aB 5=int j∧s'=s∧∀ k (hk:k<G.L.length),k<j→G.L[k].a≠a)
  (fun j a' s'=>a'.aB 0=ptr g∧a'.aB 1=int a∧a'.aB 5=int j∧s'=s∧∀ k (hk:k<G.L.length),k<j+1→G.L[k].a≠a) ?_ ?_ ?_ ?_ (Nat.zero_le _) ?_
 ·rintro j a' s' hj ⟨r0,r1,r5,rfl,hn⟩ aV bP;simp only[gQ,seval,r0,r5,H.l1];refine bP _ _ (decide ((j:Int)<G.L.length)) ?_ (by simp) ⟨?_,?_,?_,rfl,hn⟩
  all_goals simp only[gQ,seval,r0,r1,r5]
 ·rintro j a' s' hj ⟨r0,r1,r5,rfl,hn⟩ aV w1 w2 w3;obtain⟨vb,dW,hv⟩:=H.addr (show 0<G.L.length by omega);have g1:(0:Int)≤(j:Int):=Int.natCast_nonneg _;have g2:(j:Int)<((G.L.length:Nat):Int):=by omega
  have l1:=H.l1;rw[hv] at l1;have lj:aG s'.look ⟨vb,dW+j*8,none⟩=some (int G.L[j].a):=H.lo hv hj (j:=0) rfl;refine aA fun dN bO cZ=>?_;simp only[gQ,seval,r0,r1,r5,l1,g1,g2,and_self,bQ,Int.toNat_natCast,lj];refine bO _ _ ?_;by_cases he:G.L[j].a=a
  ·have he':(G.L[j].a==a)=true:=by simpa using he
   simp only[gQ,seval,he',r5];refine w3 _ _ _ (by simp) (by simp) (cK _ _ _ (by simp) (by simp) (bM _ _ _ (by simp) ?_));simp only[gQ,seval];exact h1 j hj he
  ·have he':(G.L[j].a==a)=false:=by simpa using he
   simp only[gQ,seval,he'];refine w1 _ _ ⟨?_,?_,?_,rfl,fun k hk WL=>?_⟩
   ·simp only[gQ,seval,r0]
   ·simp only[gQ,seval,r1]
   ·simp only[gQ,seval,r5]
   ·by_cases e:k=j
    ·subst e;exact he
    ·exact hn k hk (by omega)
 ·rintro j a' s' hj ⟨r0,r1,r5,rfl,hn⟩ aV w1;have w:IntKind.i64.wrap ((j:Int)+1)=((j+1:Nat):Int):=by rw[aU (by omega) (by omega)];rfl
  simp only[gQ,seval,r5,w];refine w1 _ _ ⟨?_,?_,?_,rfl,hn⟩
  all_goals try simp only[gQ,seval,r0,r1]
 ·rintro a' s' ⟨r0,r1,r5,rfl,hn⟩;refine pU _ _ (aN _ _ ?_);simp only[gQ,seval];refine h2 fun o ho=>?_;obtain⟨i,hi,rfl⟩:=List.mem_iff_getElem.1 ho;exact hn i hi hi
 ·refine⟨?_,?_,?_,rfl,fun k hk h=>absurd h (Nat.not_lt_zero _)⟩
  all_goals try simp only[gQ,seval]
  try rfl
end
open Go.Proofs
set_option maxRecDepth 100000
set_option maxHeartbeats 1000000
section
variable {kc:Kc} {q:Bool} {s:St} {Φ:Value→St→Prop} {g:Nat} {G:dI} {P:PH}
theorem kG:type_of% (B5 @RX @kJ @bG @mD @pP):=B5 @RX @kJ @bG @mD @pP
theorem My (hs:Ok s) (x:cO) (hΦ:∀ s',aC [] s s'→Φ (.bool x.valid) s'):okF q X (KO kc) 215 [pK x] s Φ:=by
 refine aW Tryz.func215 (by kernel_rfl) rfl rfl (rs:=[.tmp 2]) rfl (N:=36) rfl rfl ?_;refine aA fun bF aF bD=>?_;simp only[kG,seval];obtain⟨s1,e1,k1,c1,_⟩:=cI hs (L:=[int x.r,int x.d,int x.k]) (n:=3) (e:=44) rfl;rw[e1];refine aF _ _ ?_;have l0:aG s1.look ⟨s.next,0,none⟩=some (int x.r):=c1.load rfl;have l1:aG s1.look ⟨s.next,1,none⟩=some (int x.d):=c1.load rfl;have l2:aG s1.look ⟨s.next,2,none⟩=some (int x.k):=c1.load rfl;have eD:=hΦ _ k1;have bad:∀ {c:Prop},(x.valid=true→¬ c)→c→x.valid=false:=fun h1 h2=>by
  cases h:x.valid with
  | false=>rfl
  | true=>exact absurd h2 (h1 h)
 have hv:=cO.nX (x:=x);refine aA fun Ψ1 aE aL=>?_;refine aA fun Ψ2 aI bH=>?_;refine cL [(3,6),(8,11),(13,16)] (by kernel_rfl) fun O hO bC hR=>?_;have y3:∀ a,aO O a 3=aY (a.aB 6):=hO (3,6) (by simp);have y8:∀ a,aO O a 8=aY (a.aB 11):=hO (8,11) (by simp);have iV:∀ a,aO O a 13=aY (a.aB 16):=hO (13,16) (by simp);by_cases g1:x.r<0
 ·rw[bad (fun h=>by have:=hv.1 h;omega) g1] at eD;simp only[kG,seval,l0,y3,y8,iV,g1,decide_true];refine hR _ _ (aI _ _ ?_);simp only[kG,seval];refine aL _ _ _ (by simp) ?_;simp only[kG,seval];exact eD
 by_cases g2:x.r>15
 ·rw[bad (fun h=>by have:=hv.1 h;omega) g2] at eD;simp only[kG,seval,l0,y3,y8,iV,g1,g2,decide_true,decide_false];refine hR _ _ (aI _ _ ?_);simp only[kG,seval];refine aL _ _ _ (by simp) ?_;simp only[kG,seval];exact eD
 by_cases g3:x.d<0
 ·rw[bad (fun h=>by have:=hv.1 h;omega) g3] at eD;simp only[kG,seval,l0,l1,Nat.zero_add,y3,y8,iV,g1,g2,g3,decide_true,decide_false];refine hR _ _ (aI _ _ ?_);simp only[kG,seval];refine aL _ _ _ (by simp) ?_;simp only[kG,seval];exact eD
 by_cases g4:x.d>200
 ·rw[bad (fun h=>by have:=hv.1 h;omega) g4] at eD;simp only[kG,seval,l0,l1,Nat.zero_add,y3,y8,iV,g1,g2,g3,g4,decide_true,decide_false];refine hR _ _ (aI _ _ ?_);simp only[kG,seval];refine aL _ _ _ (by simp) ?_;simp only[kG,seval];exact eD
 simp only[kG,seval,l0,l1,Nat.zero_add,y3,y8,iV,g1,g2,g3,g4,decide_false];refine hR _ _ (aI _ _ ?_);simp only[kG,seval];refine aE _ _ ?_;refine aA fun Ψ3 aN bM=>?_;refine aA fun Ψ4 aP cC=>?_;simp only[kG,seval,l2];refine aP _ _ ?_;refine cJ fun cU aZ pU cK=>?_;refine aA fun dN bO cZ=>?_;by_cases k0:x.k=0
 ·rw[hv.2 ⟨by omega,by omega,by omega,by omega,by omega,by omega,by omega,by omega⟩] at eD;simp only[kG,seval,k0,beq_self_eq_true];refine bO _ _ ?_;simp only[kG,seval];refine cK _ _ _ (by simp) (by simp) (bM _ _ _ (by simp) ?_);simp only[kG,seval];exact eD
 ·have e0:(x.k==0)=false:=by simpa using k0
  by_cases k3:x.k=3
  ·rw[hv.2 ⟨by omega,by omega,by omega,by omega,by omega,by omega,by omega,by omega⟩] at eD;simp only[kG,seval,k3,beq_self_eq_true];refine bO _ _ ?_;simp only[kG,seval];refine cK _ _ _ (by simp) (by simp) (bM _ _ _ (by simp) ?_);simp only[kG,seval];exact eD
  ·have e3:(x.k==3)=false:=by simpa using k3
   simp only[kG,seval,e0,e3];refine bO _ _ ?_;by_cases k1:x.k=1
   ·have hr:x.valid=decide (x.r≥1):=by
     by_cases h:x.r≥1
     ·rw[decide_eq_true h];exact hv.2 ⟨by omega,by omega,by omega,by omega,by omega,by omega,by omega,by omega⟩
     ·rw[decide_eq_false h];exact bad (fun h'=>by have:=hv.1 h';omega) k1
    rw[hr] at eD;simp only[kG,seval,k1,l0,beq_self_eq_true];refine cK _ _ _ (by simp) (by simp) (bM _ _ _ (by simp) ?_);simp only[kG,seval];exact eD
   ·have e1:(x.k==1)=false:=by simpa using k1
    by_cases k2:x.k=2
    ·have hr:x.valid=decide (x.r≥2):=by
      by_cases h:x.r≥2
      ·rw[decide_eq_true h];exact hv.2 ⟨by omega,by omega,by omega,by omega,by omega,by omega,by omega,by omega⟩
      ·rw[decide_eq_false h];exact bad (fun h'=>by have:=hv.1 h';omega) k2
     rw[hr] at eD;simp only[kG,seval,k2,l0,beq_self_eq_true];refine cK _ _ _ (by simp) (by simp) (bM _ _ _ (by simp) ?_);simp only[kG,seval];exact eD
    ·have e2:(x.k==2)=false:=by simpa using k2
     rw[bad (fun h=>by have:=hv.1 h;omega) k2] at eD;simp only[kG,seval,e1,e2];refine aZ _ _ (aN _ _ ?_);simp only[kG,seval];exact eD
theorem CU:type_of% (B5 @RX @gL @kJ @bG @mD):=B5 @RX @gL @kJ @bG @mD
theorem IP (hs:Ok s) (x:cO) (hΦ:∀ s',aC [] s s'→Φ (int x.words) s'):okF q X (KO kc) 214 [pK x] s Φ:=by
 refine aW Tryz.func214 (by kernel_rfl) rfl rfl (rs:=[.tmp 2]) rfl (N:=17) rfl rfl ?_;refine aA fun bF aF bD=>?_;simp only[CU,seval];obtain⟨s1,e1,k1,c1,_⟩:=cI hs (L:=[int x.r,int x.d,int x.k]) (n:=3) (e:=44) rfl;rw[e1];refine aF _ _ ?_;have h3:=c1.bI (i:=0) (k:=3) (Nat.le_refl _);refine aA fun Ψ1 aE aL=>?_;refine aA fun Ψ2 aI bH=>?_;simp only[CU,seval,h3,List.drop_zero,List.take];refine aH ?_ (My k1.ok x fun s2 k2=>?_)
 ·simp only[CU,seval]
 try simp only[CU,seval]
 refine aI _ _ ?_;have c2:=c1.aD k2 (by simp);have eD:=hΦ _ (k1.trans k2);unfold cO.words at eD;cases hv:x.valid with
 | false =>
  rw[hv] at eD;simp only[CU,seval];refine aL _ _ _ (by simp) ?_;simp only[CU,seval];exact eD
 | true =>
  rw[hv,if_pos rfl] at eD;have hv':=cO.nX.1 hv;simp only[CU,seval];refine aE _ _ ?_;have l0:aG s2.look ⟨s.next,0,none⟩=some (int x.r):=c2.load rfl;have l1:aG s2.look ⟨s.next,1,none⟩=some (int x.d):=c2.load rfl;refine aA fun Ψ3 aN bM=>?_;simp only[CU,seval,l0,l1,Nat.zero_add];refine aN _ _ ?_;simp only[CU,seval];rw[aU (n:=2+x.r) (by omega) (by omega),aU (n:=2+x.r+x.d) (by omega) (by omega),Int.tmod_eq_emod_of_nonneg (by omega),aU (by omega) (by omega),show 2+x.r+x.d+(2+x.r+x.d)%2=(x.r+x.d+3)/2*2 by omega];exact eD
theorem bu:type_of% (B2 @RX @gL):=B2 @RX @gL
theorem sf (hs:Ok s) (x:cO) (hΦ:∀ s',aC [] s s'→Φ (.bool (decide (x.words>32))) s'):okF q X (KO kc) 142 [pK x] s Φ:=by
 refine aW Tryz.func142 (by kernel_rfl) rfl rfl (rs:=[.tmp 2]) rfl (N:=6) rfl rfl ?_;refine aA fun bF aF bD=>?_;simp only[bu,seval];obtain⟨s1,e1,k1,c1,_⟩:=cI hs (L:=[int x.r,int x.d,int x.k]) (n:=3) (e:=44) rfl;rw[e1];refine aF _ _ ?_;have h3:=c1.bI (i:=0) (k:=3) (Nat.le_refl _);simp only[bu,seval,h3,List.drop_zero,List.take];refine aH ?_ (IP k1.ok x fun s2 k2=>?_)
 ·simp only[bu,seval]
 simp only[bu,seval];exact hΦ _ (k1.trans k2)
theorem bw:type_of% (B2 @RX @gL):=B2 @RX @gL
theorem sg (hs:Ok s) (x:cO) (hΦ:∀ s',aC [] s s'→Φ (int ((x.words+63)/64)) s'):okF q X (KO kc) 144 [pK x] s Φ:=by
 have hw:=x.CZ;refine aW Tryz.func144 (by kernel_rfl) rfl rfl (rs:=[.tmp 2]) rfl (N:=8) rfl rfl ?_;refine aA fun bF aF bD=>?_;simp only[bw,seval];obtain⟨s1,e1,k1,c1,_⟩:=cI hs (L:=[int x.r,int x.d,int x.k]) (n:=3) (e:=44) rfl;rw[e1];refine aF _ _ ?_;have h3:=c1.bI (i:=0) (k:=3) (Nat.le_refl _);simp only[bw,seval,h3,List.drop_zero,List.take];refine aH ?_ (IP k1.ok x fun s2 k2=>?_)
 ·simp only[bw,seval]
 simp only[bw,seval];rw[aU (n:=x.words+64) (by omega) (by omega),aU (n:=x.words+64-1) (by omega) (by omega),Int.tdiv_eq_ediv_of_nonneg (by omega),aU (by omega) (by omega),show x.words+64-1=x.words+63 by omega];exact hΦ _ (k1.trans k2)
theorem SN:type_of% (B4 @RX @nM @nU @rV):=B4 @RX @nM @nU @rV
theorem Mz (H:cM s g G) (b:Int) (hΦ:Φ (.bool (decide (1≤b∧b<G.N))) s):okF q X (KO kc) 240 [ptr g,int b] s Φ:=by
 refine aW Tryz.func240 (by kernel_rfl) rfl rfl (rs:=[.tmp 4]) rfl (N:=16) rfl rfl ?_;refine aA fun bF aF bD=>?_;simp only[SN,seval];refine aF _ _ ?_;refine aA fun Ψ1 aE aL=>?_;refine cL [(2,7)] (by kernel_rfl) fun O hO bC hR=>?_;have y2:∀ a,aO O a 2=aY (a.aB 7):=hO (2,7) (by simp);by_cases h1:b≥1
 ·rw[show decide (1≤b∧b<(G.N:Int))=decide (b<(G.N:Int)) from decide_eq_decide.2 ⟨fun h=>h.2,fun h=>⟨h1,h⟩⟩] at hΦ;simp only[SN,seval,y2,h1,decide_true,H.l0];refine hR _ _ (aE _ _ ?_);simp only[SN,seval];exact hΦ
 ·rw[show decide (1≤b∧b<(G.N:Int))=false from decide_eq_false (fun h=>h1 h.1)] at hΦ;simp only[SN,seval,y2,h1,decide_false];refine hR _ _ (aE _ _ ?_);simp only[SN,seval];exact hΦ
theorem Na (b:Int) (hΦ:Φ (.bool (decide (0≤b∧b<8))) s):okF q X (KO kc) 241 [int b] s Φ:=by
 refine aW Tryz.func241 (by kernel_rfl) rfl rfl (rs:=[.tmp 2]) rfl (N:=9) rfl rfl ?_;refine aA fun bF aF bD=>?_;simp only[RX,seval];refine aF _ _ ?_;refine aA fun Ψ1 aE aL=>?_;refine cL [(2,5)] (by kernel_rfl) fun O hO bC hR=>?_;have y2:∀ a,aO O a 2=aY (a.aB 5):=hO (2,5) (by simp);by_cases h1:b≥0
 ·rw[show decide (0≤b∧b<8)=decide (b<8) from decide_eq_decide.2 ⟨fun h=>h.2,fun h=>⟨h1,h⟩⟩] at hΦ;simp only[RX,seval,y2,h1,decide_true];refine hR _ _ (aE _ _ ?_);simp only[RX,seval];exact hΦ
 ·rw[show decide (0≤b∧b<8)=false from decide_eq_false (fun h=>h1 h.1)] at hΦ;simp only[RX,seval,y2,h1,decide_false];refine hR _ _ (aE _ _ ?_);simp only[RX,seval];exact hΦ
theorem ZX (H:cM s g G) (S:gX P G.L) (a:Int) (hΦ:Φ (int (if P.has a=true then 0 else 4)) s):okF q X (KO kc) 146 [ptr g,int a] s Φ:=by
 have hlen:=H.len;refine aW Tryz.func146 (by kernel_rfl) rfl rfl (rs:=[.tmp 4]) rfl (N:=12) rfl rfl ?_;refine aA fun bF aF bD=>?_;simp only[RX,seval];refine aF _ _ ?_;refine aA fun Ψ1 aE aL=>?_;refine aA fun Ψ2 aI bH=>?_;simp only[RX,seval];refine aH ?_ (AW H ?_)
 ·simp only[RX,seval]
 try simp only[RX,seval]
 refine aI _ _ ?_;simp only[RX,seval];refine aE _ _ ?_;refine aA fun Ψ3 aN bM=>?_;refine aA fun Ψ4 aP cC=>?_;simp only[RX,seval];refine aH ?_ (IN H a (fun i hi he=>?_) (fun hn=>?_))
 ·simp only[RX,seval]
 ·have hh:P.has a=true:=S.mem.1 ⟨_,List.getElem_mem hi,he⟩;rw[if_pos hh] at hΦ;have h0:¬ ((i:Int)<0):=by omega
  simp only[RX,seval,h0,decide_false];refine aP _ _ ?_;simp only[RX,seval];refine aN _ _ ?_;simp only[RX,seval];exact hΦ
 ·have hh:¬ P.has a=true:=fun h=>by
   obtain⟨o,ho,e⟩:=S.mem.2 h;exact hn o ho e
  rw[if_neg hh] at hΦ;have h0:((-1:Int)<0):=by omega
  simp only[RX,seval,h0,decide_true];refine aP _ _ ?_;simp only[RX,seval];refine bM _ _ _ (by simp) ?_;simp only[RX,seval];exact hΦ
theorem aEb (H:cM s g G) (S:gX P G.L) (a:Int) (hΦ:Φ (.bool (P.has a)) s):okF q X (KO kc) 96 [ptr g,int a] s Φ:=by
 refine aW Tryz.func96 (by kernel_rfl) rfl rfl (rs:=[.tmp 4]) rfl (N:=9) rfl rfl ?_;refine aA fun bF aF bD=>?_;simp only[RX,seval];refine aF _ _ ?_;refine aA fun Ψ1 aE aL=>?_;simp only[RX,seval];refine aH ?_ (IN H a (fun i hi he=>?_) (fun hn=>?_))
 ·simp only[RX,seval]
 ·have hh:P.has a=true:=S.mem.1 ⟨_,List.getElem_mem hi,he⟩;rw[hh] at hΦ;have h0:((i:Int)≥0):=by omega
  simp only[RX,seval,h0,decide_true];refine aE _ _ ?_;simp only[RX,seval];exact hΦ
 ·have hh:P.has a=false:=by
   cases h:P.has a with
   | false=>rfl
   | true =>
    obtain⟨o,ho,e⟩:=S.mem.2 h;exact absurd e (hn o ho)
  rw[hh] at hΦ;have h0:¬ ((-1:Int)≥0):=by omega
  simp only[RX,seval,h0,decide_false];refine aE _ _ ?_;simp only[RX,seval];exact hΦ
theorem wR:type_of% (B7 @RX @nM @nU @rV @vX @zS @bG):=B7 @RX @nM @nU @rV @vX @zS @bG
theorem si (H:cM s g G) (b:Int) (hΦ:Φ (int (if 0≤b∧b<G.N then G.bs b.toNat else -1)) s):okF q X (KO kc) 187 [ptr g,int b] s Φ:=by
 refine aW Tryz.func187 (by kernel_rfl) rfl rfl (rs:=[.tmp 4]) rfl (N:=29) rfl rfl ?_;refine aA fun bF aF bD=>?_;simp only[wR,seval];refine aF _ _ ?_;refine aA fun Ψ1 aE aL=>?_;refine aA fun Ψ2 aI bH=>?_;refine cL [(3,8),(7,12)] (by kernel_rfl) fun O hO bC hR=>?_;have y3:∀ a,aO O a 3=aY (a.aB 8):=hO (3,8) (by simp);have y7:∀ a,aO O a 7=aY (a.aB 12):=hO (7,12) (by simp);simp only[wR,seval];refine aH ?_ (AW H ?_)
 ·simp only[wR,seval]
 by_cases h0:b<0
 ·simp only[wR,seval,y3,y7,h0,decide_true];refine hR _ _ (aI _ _ ?_);simp only[wR,seval];refine aL _ _ _ (by simp) ?_;simp only[wR,seval];rw[if_neg (by omega)] at hΦ;exact hΦ
 ·by_cases h1:b≥G.N
  ·simp only[wR,seval,y3,y7,h0,H.l0,h1,decide_true,decide_false];refine hR _ _ (aI _ _ ?_);simp only[wR,seval];refine aL _ _ _ (by simp) ?_;simp only[wR,seval];rw[if_neg (by omega)] at hΦ;exact hΦ
  ·simp only[wR,seval,y3,y7,h0,H.l0,h1,decide_false];refine hR _ _ (aI _ _ ?_);simp only[wR,seval];refine aE _ _ ?_;have g1:0≤b:=by omega
   have g2:b<(G.N:Int):=by omega
   have l:=H.lb (i:=b.toNat) (by omega);simp only[wR,seval,H.l0,g1,g2,and_self,bQ,Nat.zero_add,l];rw[if_pos ⟨g1,g2⟩] at hΦ;exact hΦ
theorem wS:type_of% (B7 @RX @nM @nU @rV @vX @Bi @bG):=B7 @RX @nM @nU @rV @vX @Bi @bG
theorem aEq (H:cM s g G) (b:Int) (hΦ:Φ (int (if 0≤b∧b<G.N then G.bp b.toNat else -1)) s):okF q X (KO kc) 188 [ptr g,int b] s Φ:=by
 refine aW Tryz.func188 (by kernel_rfl) rfl rfl (rs:=[.tmp 4]) rfl (N:=29) rfl rfl ?_;refine aA fun bF aF bD=>?_;simp only[wS,seval];refine aF _ _ ?_;refine aA fun Ψ1 aE aL=>?_;refine aA fun Ψ2 aI bH=>?_;refine cL [(3,8),(7,12)] (by kernel_rfl) fun O hO bC hR=>?_;have y3:∀ a,aO O a 3=aY (a.aB 8):=hO (3,8) (by simp);have y7:∀ a,aO O a 7=aY (a.aB 12):=hO (7,12) (by simp);simp only[wS,seval];refine aH ?_ (AW H ?_)
 ·simp only[wS,seval]
 by_cases h0:b<0
 ·simp only[wS,seval,y3,y7,h0,decide_true];refine hR _ _ (aI _ _ ?_);simp only[wS,seval];refine aL _ _ _ (by simp) ?_;simp only[wS,seval];rw[if_neg (by omega)] at hΦ;exact hΦ
 ·by_cases h1:b≥G.N
  ·simp only[wS,seval,y3,y7,h0,H.l0,h1,decide_true,decide_false];refine hR _ _ (aI _ _ ?_);simp only[wS,seval];refine aL _ _ _ (by simp) ?_;simp only[wS,seval];rw[if_neg (by omega)] at hΦ;exact hΦ
  ·simp only[wS,seval,y3,y7,h0,H.l0,h1,decide_false];refine hR _ _ (aI _ _ ?_);simp only[wS,seval];refine aE _ _ ?_;have g1:0≤b:=by omega
   have g2:b<(G.N:Int):=by omega
   have l:=H.lp (i:=b.toNat) (by omega);simp only[wS,seval,H.l0,g1,g2,and_self,bQ,Nat.zero_add,l];rw[if_pos ⟨g1,g2⟩] at hΦ;exact hΦ
end
open Go.Proofs
set_option maxRecDepth 100000
set_option maxHeartbeats 4000000
abbrev uG:=Int×Value×Value
namespace PH
variable (P:PH)
def jN (a i:Int):Int:=if P.dR a i true=0 then P.w (P.dP a i true).toNat else 0
def jO (a:Int):Nat:=(P.aM a).d.toNat
def DI (a:Int):List Int:=(List.range (P.jO a)).map fun(i:Nat)=>P.jN a i
def pinned (a:Int):Bool:=P.has a&&((P.Q (a/2).toNat:Int)==1)
def MR (x:uG):List Value:=[int x.1,int (P.w x.1.toNat),int (P.aM x.1).r,int (P.aM x.1).d,int (P.aM x.1).k,x.2.1,x.2.2,.bool (P.pinned x.1)]
theorem ry (x:uG):(P.MR x).length=8:=rfl
end PH
structure yV (s:St) (P:PH) (x:uG):Prop where
 r1:∃ a c,x.2.1=.slice a (P.bZ x.1) c
 r2:Sl s 1 x.2.1 ((P.refs x.1).map int)
 d1:∃ a c,x.2.2=.slice a (P.jO x.1) c
 d2:Sl s 1 x.2.2 ((P.DI x.1).map int)
structure vF (s:St) (g:Nat) (P:PH) (L:List uG):Prop where
 c:∃ ba bc va vc,Obj s g [.slice ba P.N bc,.slice va L.length vc,.slice none 0 0,int P.born]∧Sl s 2 (.slice ba P.N bc) (row (2*P.N) fun i=>int (if i%2=0 then P.bs (i/2) else P.bp (i/2)))∧Sl s 8 (.slice va L.length vc) (L.flatMap P.MR)
 al:L.map Prod.fst=P.all
 cr:∀ x∈L,yV s P x
 n2:2≤P.N
 bY:P.N≤64
theorem yV.aJ {s s':St} {P:PH} {x:uG} (h:yV s P x) (k:aC [] s s'):yV s' P x:=⟨h.r1,h.r2.aD k (by simp),h.d1,h.d2.aD k (by simp)⟩
namespace vF
variable {s s':St} {g:Nat} {P:PH} {L:List uG}
theorem aJ (H:vF s g P L) (k:aC [] s s'):vF s' g P L:=by
 obtain⟨⟨ba,bc,va,vc,c1,c2,c3⟩,al,cr,n2,bY⟩:=H;exact⟨⟨ba,bc,va,vc,c1.aD k (by simp),c2.aD k (by simp),c3.aD k (by simp)⟩,al,fun x hx=>(cr x hx).aJ k,n2,bY⟩
theorem len (H:vF s g P L):L.length≤2048:=by
 have h1:=congrArg List.length H.al;rw[List.length_map] at h1;have:=P.uI;have:=H.bY;omega
theorem mem (H:vF s g P L) {a:Int}:(∃ x∈L,x.1=a)↔P.has a=true:=by
 rw[← PH.pH,← H.al,List.mem_map]
end vF
section
variable {kc:Kc} {q:Bool} {s:St} {Φ:Value→St→Prop} {g h:Nat} {P:PH} {L:List uG}
theorem NH:type_of% (B3 @RX @GF @bG):=B3 @RX @GF @bG
theorem I0 (H:bK s h P) (hΦ:Φ (int P.born) s):okF q X (KO kc) 190 [ptr h] s Φ:=by
 refine aW Tryz.func190 (by kernel_rfl) rfl rfl (rs:=[.tmp 2]) rfl (N:=10) rfl rfl ?_;refine aA fun bF aF bD=>?_;simp only[NH,seval];refine aF _ _ ?_;refine aA fun Ψ1 aE aL=>?_;refine aA fun Ψ2 aI bH=>?_;simp only[NH,seval];refine aH ?_ (vR H ?_)
 ·simp only[NH,seval]
 try simp only[NH,seval]
 refine aI _ _ ?_;simp only[NH,seval];refine aE _ _ ?_;simp only[NH,seval,H.l6];exact hΦ
theorem CR:type_of% (B3 @RX @zP @oM):=B3 @RX @zP @oM
theorem J0 (hs:Ok s) (H:bK s h P) (a:Int) (ha:i64 a) (hΦ:∀ s',aC [] s s'→Φ (.bool (P.pinned a)) s'):okF q X (KO kc) 191 [ptr h,int a] s Φ:=by
 refine aW Tryz.func191 (by kernel_rfl) rfl rfl (rs:=[.tmp 4]) rfl (N:=18) rfl rfl ?_;refine aA fun bF aF bD=>?_;simp only[CR,seval];refine aF _ _ ?_;refine aA fun Ψ1 aE aL=>?_;refine cL [(3,8)] (by kernel_rfl) fun O hO bC hR=>?_;have y3:∀ a,aO O a 3=aY (a.aB 8):=hO (3,8) (by simp);simp only[CR,seval];refine aH ?_ (LD hs H a ha fun s1 k1=>?_)
 ·simp only[CR,seval]
 have H1:=H.aJ k1;unfold PH.pinned at hΦ;cases hh:P.has a with
 | false =>
  rw[hh] at hΦ;simp only[CR,seval,y3];refine hR _ _ (aE _ _ ?_);simp only[CR,seval];exact hΦ _ k1
 | true =>
  obtain⟨j,rfl,hj⟩:=Dr hh;have ed:(2*(j:Int)).tdiv 2=(j:Int):=Int.mul_tdiv_cancel_left _ (by omega);have hi:i64 (2*(j:Int)):=ha;have w2:IntKind.i64.wrap ((2*(j:Int)).tdiv 2)=(j:Int):=by rw[ed,aU (by unfold i64 at hi;omega) (by unfold i64 at hi;omega)]
  simp only[CR,seval,y3,H1.l3,w2];refine aH ?_ (Pz k1.ok H1.tp (j:Int) fun s2 k2=>?_)
  ·simp only[CR,seval]
  rw[if_pos ⟨by omega,by omega⟩,Int.toNat_natCast];rw[hh,show (2*(j:Int)/2).toNat=j by omega] at hΦ;simp only[CR,seval,y3];refine hR _ _ (aE _ _ ?_);simp only[CR,seval];exact hΦ _ (k1.trans k2)
theorem aE3 (H:vF s g P L) (hΦ:Φ (.bool true) s):okF q X (KO kc) 90 [ptr g] s Φ:=by
 have n2:=H.n2;have hp:((P.N:Nat):Int)>0:=by omega
 obtain⟨ba,bc,va,vc,c1,c2,c3⟩:=H.c;have l0:aG s.look ⟨g,0,none⟩=some (.slice ba P.N bc):=c1.load rfl;refine aW Tryz.func90 (by kernel_rfl) rfl rfl (rs:=[.tmp 2]) rfl (N:=13) rfl rfl ?_;refine aA fun bF aF bD=>?_;simp only[NL,seval];refine aF _ _ ?_;refine aA fun Ψ1 aE aL=>?_;refine cL [(2,5)] (by kernel_rfl) fun O hO bC hR=>?_;have y2:∀ a,aO O a 2=aY (a.aB 5):=hO (2,5) (by simp);simp only[NL,seval,y2,l0,hp,decide_true];refine hR _ _ (aE _ _ ?_);simp only[NL,seval];exact hΦ
theorem Mq (H:vF s g P L) (a:Int) (h1:∀ i (hi:i<L.length),L[i].1=a→Φ (int i) s) (h2:(∀ o∈L,o.1≠a)→Φ (int (-1)) s):okF q X (KO kc) 132 [ptr g,int a] s Φ:=by
 have hlen:=H.len;obtain⟨ba,bc,va,vc,c1,c2,c3⟩:=H.c;have l1:aG s.look ⟨g,1,none⟩=some (.slice va L.length vc):=c1.load rfl;refine aW Tryz.func132 (by kernel_rfl) rfl rfl (rs:=[.tmp 4]) rfl (N:=29) rfl rfl ?_;refine aA fun bF aF bD=>?_;simp only[gQ,seval];refine aF _ _ ?_;refine aA fun Ψ1 aE aL=>?_;refine aA fun Ψ2 aI bH=>?_;simp only[gQ,seval];refine aH ?_ (aE3 H ?_)
 ·simp only[gQ,seval]
 try simp only[gQ,seval]
 refine aI _ _ ?_;simp only[gQ,seval];refine aE _ _ ?_;refine aA fun Ψ3 aN bM=>?_;refine aA fun Ψ4 aP cC=>?_;simp only[gQ,seval];refine aP _ _ ?_;refine cJ fun cU aZ pU cK=>?_;refine gB (n:=L.length) (fun j a' s'=>a'.aB 0=ptr g∧a'.aB 1=int a∧a'.aB 5=int j∧s'=s∧∀ k (hk:k<L.length),k<j→L[k].1≠a)
  (fun j a' s'=>a'.aB 0=ptr g∧a'.aB 1=int a∧a'.aB 5=int j∧s'=s∧∀ k (hk:k<L.length),k<j+1→L[k].1≠a) ?_ ?_ ?_ ?_ (Nat.zero_le _) ?_
 ·rintro j a' s' hj ⟨r0,r1,r5,rfl,hn⟩ aV bP;simp only[gQ,seval,r0,r5,l1];refine bP _ _ (decide ((j:Int)<L.length)) ?_ (by simp) ⟨?_,?_,?_,rfl,hn⟩
  all_goals simp only[gQ,seval,r0,r1,r5]
 ·rintro j a' s' hj ⟨r0,r1,r5,rfl,hn⟩ aV w1 w2 w3;obtain⟨vb,dW,hv⟩:=c3.addr (show 0<L.length by omega);have g1:(0:Int)≤(j:Int):=Int.natCast_nonneg _;have g2:(j:Int)<((L.length:Nat):Int):=by omega
  have l1:=l1;have c3:=c3;rw[hv] at l1 c3;have lj:aG s'.look ⟨vb,dW+j*8,none⟩=some (int L[j].1):=by
   have:=c3.load (i:=j*8+0) (v:=int L[j].1) (by rw[zU P.ry _ hj (by omega)];rfl);exact this
  refine aA fun dN bO cZ=>?_;simp only[gQ,seval,r0,r1,r5,l1,g1,g2,and_self,bQ,Int.toNat_natCast,lj];refine bO _ _ ?_;by_cases he:L[j].1=a
  ·have he':(L[j].1==a)=true:=by simpa using he
   simp only[gQ,seval,he',r5];refine w3 _ _ _ (by simp) (by simp) (cK _ _ _ (by simp) (by simp) (bM _ _ _ (by simp) ?_));simp only[gQ,seval];exact h1 j hj he
  ·have he':(L[j].1==a)=false:=by simpa using he
   simp only[gQ,seval,he'];refine w1 _ _ ⟨?_,?_,?_,rfl,fun k hk WL=>?_⟩
   ·simp only[gQ,seval,r0]
   ·simp only[gQ,seval,r1]
   ·simp only[gQ,seval,r5]
   ·by_cases e:k=j
    ·subst e;exact he
    ·exact hn k hk (by omega)
 ·rintro j a' s' hj ⟨r0,r1,r5,rfl,hn⟩ aV w1;have w:IntKind.i64.wrap ((j:Int)+1)=((j+1:Nat):Int):=by rw[aU (by omega) (by omega)];rfl
  simp only[gQ,seval,r5,w];refine w1 _ _ ⟨?_,?_,?_,rfl,hn⟩
  all_goals try simp only[gQ,seval,r0,r1]
 ·rintro a' s' ⟨r0,r1,r5,rfl,hn⟩;refine pU _ _ (aN _ _ ?_);simp only[gQ,seval];refine h2 fun o ho=>?_;obtain⟨i,hi,rfl⟩:=List.mem_iff_getElem.1 ho;exact hn i hi hi
 ·refine⟨?_,?_,?_,rfl,fun k hk h=>absurd h (Nat.not_lt_zero _)⟩
  all_goals try simp only[gQ,seval]
  try rfl
theorem aE2 (H:vF s g P L) (a:Int) (hΦ:Φ (.bool (P.has a)) s):okF q X (KO kc) 96 [ptr g,int a] s Φ:=by
 refine aW Tryz.func96 (by kernel_rfl) rfl rfl (rs:=[.tmp 4]) rfl (N:=9) rfl rfl ?_;refine aA fun bF aF bD=>?_;simp only[RX,seval];refine aF _ _ ?_;refine aA fun Ψ1 aE aL=>?_;simp only[RX,seval];refine aH ?_ (Mq H a (fun i hi he=>?_) (fun hn=>?_))
 ·simp only[RX,seval]
 ·have hh:P.has a=true:=H.mem.1 ⟨_,List.getElem_mem hi,he⟩;rw[hh] at hΦ;have h0:((i:Int)≥0):=by omega
  simp only[RX,seval,h0,decide_true];refine aE _ _ ?_;simp only[RX,seval];exact hΦ
 ·have hh:P.has a=false:=by
   cases h:P.has a with
   | false=>rfl
   | true =>
    obtain⟨o,ho,e⟩:=H.mem.2 h;exact absurd e (hn o ho)
  rw[hh] at hΦ;have h0:¬ ((-1:Int)≥0):=by omega
  simp only[RX,seval,h0,decide_false];refine aE _ _ ?_;simp only[RX,seval];exact hΦ
theorem se (hs:Ok s) (H:vF s g P L) {a:Option Addr} {n c:Nat} {l:List Int} (B:bJ s 3 1 (.slice a n c) (l.map int)) (hn:n<100000) (x:Int) (hp:l.Pairwise (·<·))
  (hΦ:∀ a' n' c' (l':List Int) s',bJ s' 3 1 (.slice a' n' c') (l'.map int)→(∀ y,y∈l'↔y∈l∨(y=x∧P.has x=true))→l'.Pairwise (·<·)→aC [] s s'→Φ (.slice a' n' c') s'):okF q X (KO kc) 183 [ptr g,.slice a n c,int x] s Φ:=by
 refine aW Tryz.func183 (by kernel_rfl) rfl rfl (rs:=[.tmp 6]) rfl (N:=15) rfl rfl ?_;refine aA fun bF aF bD=>?_;simp only[RX,seval];refine aF _ _ ?_;refine aA fun Ψ1 aE aL=>?_;refine aA fun Ψ2 aI bH=>?_;simp only[RX,seval];refine aH ?_ (aE2 H x ?_)
 ·simp only[RX,seval]
 cases hh:P.has x with
 | false =>
  try simp only[RX,seval]
  refine aI _ _ ?_;simp only[RX,seval];refine aL _ _ _ (by simp) ?_;simp only[RX,seval];exact hΦ _ _ _ l s B (fun y=>⟨.inl,fun h=>h.elim id fun e=>by rw[hh] at e;cases e.2⟩) hp (.refl hs)
 | true =>
  try simp only[RX,seval]
  refine aI _ _ ?_;simp only[RX,seval];refine aE _ _ ?_;simp only[RX,seval];refine aH ?_ (aEl hs B hn x hp fun a' n' c' l' s' B' hm hp' k=>?_)
  ·simp only[RX,seval]
  simp only[RX,seval];exact hΦ a' n' c' l' s' B' (fun y=>by rw[hm];simp[hh]) hp' k
theorem yD:type_of% (B3 @RX @pP @bG):=B3 @RX @pP @bG
theorem Mx (hs:Ok s) (r d k:Int) (i:Nat) (hΦ:∀ s',aC [] s s'→Φ (.bool (!PH.soft k i)) s'):okF q X (KO kc) 111 [.agg #[int r,int d,int k],int i] s Φ:=by
 refine aW Tryz.func111 (by kernel_rfl) rfl rfl (rs:=[.tmp 4]) rfl (N:=26) rfl rfl ?_;obtain⟨s1,e1,k1,c1,n1⟩:=cI hs (L:=[int r,int d,int k]) (n:=3) (e:=44) rfl;have lk:aG s1.look ⟨s.next,2,none⟩=some (int k):=c1.load rfl;refine aA fun bF aF bD=>?_;simp only[yD,seval];rw[e1];refine aF _ _ ?_;refine aA fun Ψ1 aE aL=>?_;refine cL [(3,8),(8,13),(11,16),(15,20)] (by kernel_rfl) fun O hO bC hR=>?_;have y3:∀ a,aO O a 3=aY (a.aB 8):=hO (3,8) (by simp);have y8:∀ a,aO O a 8=aY (a.aB 13):=hO (8,13) (by simp);have kV:∀ a,aO O a 11=aY (a.aB 16):=hO (11,16) (by simp);have wU:∀ a,aO O a 15=aY (a.aB 20):=hO (15,20) (by simp);unfold PH.soft at hΦ;by_cases h1:k=1
 ·subst h1;have b1:((1:Int)==1)=true:=rfl;by_cases h0:i=0
  ·subst h0;simp only[yD,seval,y3,y8,kV,wU,lk,b1,decide_false];refine hR _ _ (aE _ _ ?_);simp only[yD,seval];exact hΦ _ k1
  ·have g0:(i:Int)>0:=by omega
   have z0:((i:Int)==0)=false:=by rw[beq_eq_false_iff_ne];omega
   simp only[yD,seval,y3,y8,kV,wU,lk,b1,g0,decide_true];refine hR _ _ (aE _ _ ?_);simp only[yD,seval];have:=hΦ _ k1;rw[z0] at this;simpa using this
 ·have b1:(k==1)=false:=beq_eq_false_iff_ne.2 h1;by_cases h2:k=2
  ·subst h2;have b2:((2:Int)==1)=false:=rfl;by_cases h0:i=0
   ·subst h0;simp only[yD,seval,y3,y8,kV,wU,lk,b2,decide_false];refine hR _ _ (aE _ _ ?_);simp only[yD,seval];exact hΦ _ k1
   ·have g0:(i:Int)>0:=by omega
    have z0:((i:Int)==0)=false:=by rw[beq_eq_false_iff_ne];omega
    have e:decide ((i:Int)>1)=!((i:Int)==1):=by
     by_cases h:i=1
     ·subst h;rfl
     ·have g1:(i:Int)>1:=by omega
      have z1:((i:Int)==1)=false:=by rw[beq_eq_false_iff_ne];omega
      rw[z1,decide_eq_true g1];rfl
    simp only[yD,seval,y3,y8,kV,wU,lk,b2,g0,decide_true,e];refine hR _ _ (aE _ _ ?_);simp only[yD,seval];have:=hΦ _ k1;rw[z0] at this;simpa using this
  ·have b2:(k==2)=false:=beq_eq_false_iff_ne.2 h2;simp only[yD,seval,y3,y8,kV,wU,lk,b1,b2];refine hR _ _ (aE _ _ ?_);simp only[yD,seval];have:=hΦ _ k1;rw[b1,b2] at this;simpa using this
end
open Go.Proofs
set_option maxRecDepth 100000
set_option maxHeartbeats 4000000
namespace PH
def fW (P:PH) (a:Int):Int:=if P.has a=true then P.w a.toNat else 0
def tK (P P':PH) (K:List Int) (a b:Int) (i:Nat):Bool:=PH.soft (P.aM a).k i&&((P'.fW (P'.ref b i)==0)&&((((i:Int)==0)&&!K.contains (P.ref a i))||(((i:Int)==1)&&(P'.fW (P'.ref b (0:Nat))==0))))
def oE (P P':PH) (K:List Int) (a b:Int) (i:Nat):List dC:=if P.fW (P.ref a i)≠P'.fW (P'.ref b i)∧tK P P' K a b i=false then [(11,P.w a.toNat,1+(i:Int))] else []
def oZ (P P':PH) (a b:Int) (i:Nat):List dC:=if P.jN a i≠P'.jN b i then [(11,P.w a.toNat,1+(P.aM a).r+(i:Int))] else []
def BB (P P':PH) (a b:Int):Bool:=((P.aM a).r==(P'.aM b).r)&&(((P.aM a).d==(P'.aM b).d)&&((P.aM a).k==(P'.aM b).k))
def jS (P P':PH) (K:List Int) (a:Int):List dC:=match P'.M.lookup (P.w a.toNat) with
 | none=>[(10,P.w a.toNat,0)]
 | some b=>if BB P P' a b=true then(List.range (P.bZ a)).flatMap (oE P P' K a b)++(List.range (P.jO a)).flatMap (oZ P P' a b) else [(11,P.w a.toNat,0)]
theorem Mt (P P':PH) (K:List Int) (a b:Int) (n:Nat):((List.range n).flatMap (oE P P' K a b)).length≤n:=by
 induction n with
 | zero=>exact Nat.le_refl _
 | succ n ih =>
  have h1:(oE P P' K a b n).length≤1:=by unfold oE;split <;> simp
  rw[List.range_succ,List.flatMap_append,List.length_append,List.flatMap_singleton];omega
theorem Ah (P P':PH) (a b:Int) (n:Nat):((List.range n).flatMap (oZ P P' a b)).length≤n:=by
 induction n with
 | zero=>exact Nat.le_refl _
 | succ n ih =>
  have h1:(oZ P P' a b n).length≤1:=by unfold oZ;split <;> simp
  rw[List.range_succ,List.flatMap_append,List.length_append,List.flatMap_singleton];omega
end PH
structure mW (s0:St) (F0:List Nat) (pb h h' mb:Nat) (C:List dC) (s:St):Prop where
 o:∃ va vc,Obj s pb [ptr h,ptr h',.map (some mb),.slice va C.length vc]∧bJ s 51 3 (.slice va C.length vc) (C.flatMap cE)∧(∀ y∈nameOf (.slice va C.length vc),y∈F0∨s0.next≤y)∧(C=[]→va=none∧vc=0)
 k:aC (pb::F0) s0 s
 lt:pb<s0.next
 ne:pb∉F0
namespace mW
variable {s0 s s':St} {F0:List Nat} {pb h h' mb:Nat} {C:List dC}
theorem l0 (p:mW s0 F0 pb h h' mb C s):aG s.look ⟨pb,0,none⟩=some (ptr h):=by obtain⟨_,_,o,_⟩:=p.o;exact o.load rfl
theorem l1 (p:mW s0 F0 pb h h' mb C s):aG s.look ⟨pb,1,none⟩=some (ptr h'):=by obtain⟨_,_,o,_⟩:=p.o;exact o.load rfl
theorem l2 (p:mW s0 F0 pb h h' mb C s):aG s.look ⟨pb,2,none⟩=some (.map (some mb)):=by obtain⟨_,_,o,_⟩:=p.o;exact o.load rfl
theorem aD (p:mW s0 F0 pb h h' mb C s) (k:aC [] s s'):mW s0 F0 pb h h' mb C s':=by
 obtain⟨va,vc,o1,o2,o3⟩:=p.o;exact⟨⟨va,vc,o1.aD k (by simp),o2.aD k (by simp),o3⟩,p.k.trans k.any,p.lt,p.ne⟩
theorem now (p:mW s F0 pb h h' mb C s) (hs:Ok s) (k:aC [] s s'):mW s' F0 pb h h' mb C s':=by
 obtain⟨va,vc,o1,o2,o3⟩:=p.o;exact⟨⟨va,vc,o1.aD k (by simp),o2.aD k (by simp),fun y hy=>(o3.1 y hy).imp id fun h=>by have:=o2.lt hs y hy;omega,o3.2⟩,.refl k.ok,Nat.lt_of_lt_of_le p.lt k.next,p.ne⟩
theorem back (p:mW s0 F0 pb h h' mb C s') (k:aC [] s s0) (hl:pb<s.next):mW s F0 pb h h' mb C s':=by
 obtain⟨va,vc,o1,o2,o3⟩:=p.o;exact⟨⟨va,vc,o1,o2,fun y hy=>(o3.1 y hy).imp id fun h=>by have:=k.next;omega,o3.2⟩,k.any.trans p.k,hl,p.ne⟩
theorem add {kc:Kc} {q:Bool} {Φ:Value→St→Prop} (qv:Ok s0) (p:mW s0 F0 pb h h' mb C s) (hm:C.length<1000000) (f:dC) (hΦ:∀ s',mW s0 F0 pb h h' mb (C++[f]) s'→Φ (.tuple #[]) s') :
  okF q X (KO kc) 65 [.pointer (some ⟨pb,3,none⟩),int f.1,int f.2.1,int f.2.2] s Φ:=by
 obtain⟨va,vc,o1,o2,o3⟩:=p.o;have hn:∀ y∈nameOf (.slice va C.length vc),y≠pb:=fun y hy h=>by
  rcases o3.1 y hy with h1 | h1
  ·exact p.ne (h ▸ h1)
  ·have:=p.lt;omega
 refine Td p.k.ok o1 (o:=3) rfl o2 (fun hb=>hn _ hb rfl) hm _ _ _ fun FL FM s' n1 n2 n3 n4=>?_;refine hΦ s' ⟨⟨FL,FM,?_,?_,fun y hy=>?_,fun h=>by simp at h⟩,p.k.step n4 fun g hg=>?_,p.lt,p.ne⟩
 ·rw[List.length_append];exact n1
 ·rw[List.length_append,List.flatMap_append,List.flatMap_singleton];exact n2
 ·rw[List.length_append] at hy;rcases n3 y hy with h1 | h1
  ·exact o3.1 y h1
  ·exact .inr (Nat.le_trans p.k.next h1)
 ·rcases List.mem_cons.1 hg with h1 | h1
  ·subst h1;exact .inl (by simp)
  ·rcases o3.1 g h1 with h2 | h2
   ·exact .inl (List.mem_cons_of_mem _ h2)
   ·exact .inr (qv.fresh g h2)
end mW
section
variable {kc:Kc} {q:Bool} {s:St} {Φ:Value→St→Prop} {h h':Nat} {P P':PH}
theorem cF:type_of% (B9 @RX @Bd @pX @Be @UY @mB @lE @gL (B9 @gi @Kl @dV @dQ @bG @pP @UX @EK (B3 @MC @mD @kJ))):=B9 @RX @Bd @pX @Be @UY @mB @lE @gL (B9 @gi @Kl @dV @dQ @bG @pP @UX @EK (B3 @MC @mD @kJ))
theorem aH9 (hs:Ok s) (H:bK s h P) (H':bK s h' P') (G:P.bX) (G':P'.bX) {pb mb:Nat} {F0:List Nat} {C:List dC} {K:List Int} (Pt:mW s F0 pb h h' mb C s) (M:fV s mb (keys K))
  (f1:∀ x∈P.aS h,x∉pb::F0) (f2:∀ x∈P'.aS h',x∉pb::F0) (f3:mb∉pb::F0) (z8:∀ y∈F0,y<s.next) {a:Int} (ha:i64 a) (hh:P.has a=true) (hl:∀ b,P'.M.lookup (P.w a.toNat)=some b→i64 b) (hC:C.length<900000)
  (hΦ:∀ s',mW s F0 pb h h' mb (C++PH.jS P P' K a) s'→Φ (.tuple #[]) s'):okF q X (KO kc) 72 [ptr pb,int a] s Φ:=by
 have p0:=Pt.l0;have p1:=Pt.l1;refine aW Tryz.func72 (by kernel_rfl) rfl rfl (rs:=[]) rfl (N:=191) rfl rfl ?_;refine aA fun Ψ1 aE aL=>?_;simp only[cF,seval,p0];refine aH ?_ (NO hs H a ha fun s2 k2=>?_)
 ·simp only[cF,seval]
 rw[if_pos hh]
 try simp only[cF,seval]
 refine aE _ _ ?_;have p12:=mI k2 (by simp) p1;have p02:=mI k2 (by simp) p0;have H2:=H.aJ k2;refine aA fun Ψ2 aI bH=>?_;simp only[cF,seval,p12];refine aH ?_ (H_ (H'.aJ k2) (P.w a.toNat) ?_)
 ·simp only[cF,seval]
 cases hlk:P'.M.lookup (P.w a.toNat) with
 | none =>
  have eO:PH.jS P P' K a=[(10,P.w a.toNat,0)]:=by unfold PH.jS;rw[hlk]
  rw[eO] at hΦ;rw[show CB none=.tuple #[int 0,int 4] from rfl]
  try simp only[cF,seval]
  refine aI _ _ ?_;refine aA fun Ψ3 aN bM=>?_;refine aA fun Ψ4 aP cC=>?_;simp only[cF,seval];refine aP _ _ ?_;simp only[dA,RV,RG,seval];refine aA fun cU aZ cK=>?_;simp only[cF,seval];refine aH ?_ ((Pt.aD k2).add hs (by omega) (10,P.w a.toNat,0) fun s3 p3=>?_)
  ·simp only[cF,seval]
  try simp only[cF,seval]
  refine aZ _ _ ?_;simp only[cF,seval];refine bM _ _ _ (by simp) ?_;simp only[cF,seval];exact hΦ _ p3
 | some b =>
 have hb:=hl b hlk;have eO:PH.jS P P' K a=if PH.BB P P' a b=true then(List.range (P.bZ a)).flatMap (PH.oE P P' K a b)++(List.range (P.jO a)).flatMap (PH.oZ P P' a b) else [(11,P.w a.toNat,0)]:=by unfold PH.jS;rw[hlk]
 rw[eO] at hΦ;rw[show CB (some b)=.tuple #[int b,int 0] from rfl]
 try simp only[cF,seval]
 refine aI _ _ ?_;refine aA fun Ψ3 aN bM=>?_;refine aA fun Ψ4 aP cC=>?_;simp only[cF,seval];refine aP _ _ ?_;simp only[cF,seval];refine aN _ _ ?_;refine aA fun cU aZ cK=>?_;simp only[cF,seval,p02];refine aH ?_ (GY k2.ok H2 a ha fun s3 k3=>?_)
 ·simp only[cF,seval]
 have fC:=k2.trans k3;obtain⟨t1,e1,u1,c1,n1⟩:=cI k3.ok (L:=[int 0,int 0,int 0]) (n:=3) (e:=44) rfl;obtain⟨t2,e2,c2,u2⟩:=c1.storeAll u1.ok (vs:=[int (P.aM a).r,int (P.aM a).d,int (P.aM a).k]) rfl rfl;have pM:aC [] s3 t2:=u1.step u2 fun g hg=>.inr (by rw[List.mem_singleton.1 hg];exact k3.ok.fresh _ (Nat.le_refl _));simp only[cF,seval];rw[e1,e2];simp only[cF,seval];refine aZ _ _ ?_;have XK:=fC.trans pM;have p1t:=mI XK (by simp) p1;refine aA fun dN bO cZ=>?_;refine aA fun fE cG dX=>?_;simp only[cF,seval,p1t];refine aH ?_ (GY XK.ok (H'.aJ XK) b hb fun s4 k4=>?_)
 ·simp only[cF,seval]
 have kK:=XK.trans k4;obtain⟨t3,e3,u3,c3,n3⟩:=cI k4.ok (L:=[int 0,int 0,int 0]) (n:=3) (e:=44) rfl;obtain⟨t4,e4,c4,u4⟩:=c3.storeAll u3.ok (vs:=[int (P'.aM b).r,int (P'.aM b).d,int (P'.aM b).k]) rfl rfl;have Ss:aC [] s4 t4:=u3.step u4 fun g hg=>.inr (by rw[List.mem_singleton.1 hg];exact k4.ok.fresh _ (Nat.le_refl _));simp only[cF,seval];rw[e3,e4];simp only[cF,seval];refine cG _ _ ?_;have jR:=kK.trans Ss;have zn:=c2.aD (k4.trans Ss) (by simp);have q1:=zn.bI (i:=0) (k:=3) (Nat.le_refl _);have q2:=c4.bI (i:=0) (k:=3) (Nat.le_refl _);refine aA fun gV cT gA=>?_;cases rP:PH.BB P P' a b with
 | false =>
  rw[rP,if_neg (by simp)] at hΦ;unfold PH.BB at rP;cases g1:(P.aM a).r==(P'.aM b).r <;> cases g2:(P.aM a).d==(P'.aM b).d <;> cases g3:(P.aM a).k==(P'.aM b).k <;> rw[g1,g2,g3] at rP
  case true.true.true=>cases rP
  all_goals
   simp only[cF,seval,q1,q2,List.drop_zero,List.take,g1,g2,g3,Bool.and_false,Bool.and_self];refine cT _ _ ?_;simp only[dA,RV,RG,seval];have p05:=mI jR (by simp) p0;refine aA fun jC dK iK=>?_;simp only[cF,seval];refine aH ?_ ((Pt.aD jR).add hs (by omega) (11,P.w a.toNat,0) fun s6 p6=>?_)
   ·simp only[cF,seval]
   try simp only[cF,seval]
   refine dK _ _ ?_;simp only[cF,seval];refine cZ _ _ _ (by simp) ?_;simp only[cF,seval];exact hΦ _ p6
 | true =>
 rw[rP,if_pos rfl] at hΦ;unfold PH.BB at rP;simp only[Bool.and_eq_true] at rP;obtain⟨g1,g2,g3⟩:=rP;have hr:(P'.aM b).r=(P.aM a).r:=(beq_iff_eq.1 g1).symm;have PU:P'.bZ b=P.bZ a:=by unfold PH.bZ;rw[hr]
 simp only[cF,seval,q1,q2,List.drop_zero,List.take,g1,g2,g3,Bool.and_self];refine cT _ _ ?_;simp only[cF,seval];refine bO _ _ ?_;have p15:=mI jR (by simp) p1;refine aA fun jC dK iK=>?_;simp only[cF,seval,p15];refine aH ?_ (ZN jR.ok (H'.aJ jR) G' b hb ?_)
 ·simp only[cF,seval]
 rintro v1 s5 b1 ⟨ui,bz,rfl⟩ PM k5
 try simp only[cF,seval]
 refine dK _ _ ?_;have tS:=jR.trans k5;have p06:=mI tS (by simp) p0;refine aA fun lO eG kY=>?_;refine aA fun rE jI pS=>?_;simp only[cF,seval,p06];refine aH ?_ (ZN tS.ok (H.aJ tS) G a ha ?_)
 ·simp only[cF,seval]
 rintro v2 s6 b2 ⟨JM,FN,rfl⟩ zY k6
 try simp only[cF,seval]
 refine jI _ _ ?_;have tT:=tS.trans k6;rw[PU] at b1 PM;have ef:=b1.aD k6 (by simp);have ey:=(zn.aD k5 (by simp)).aD k6 (by simp);obtain⟨g0,g15⟩:=PH.FA G a;have hn:((P.bZ a:Nat):Int)=(P.aM a).r:=by unfold PH.bZ;omega
 have T9:∀ i:Nat,i64 (P.ref a i):=fun i=>PH.RT H a i;have Fs:∀ i:Nat,i64 (P'.ref b i):=fun i=>PH.RT H' b i;have H6:=H.aJ tT;have JR:=H'.aJ tT;have M6:=M.aD tT (by simp);have dw:=Pt.now hs tT;have iz:∀ x,s.next≤x→x∉pb::F0:=fun x hx hm=>by
  rcases List.mem_cons.1 hm with h1 | h1
  ·have:=Pt.lt;omega
  ·have:=z8 x h1;omega
 have sv:s3.next∉pb::F0:=iz _ fC.next;have Vw:∀ y∈nameOf (.slice ui (P.bZ a) bz),y∉pb::F0:=fun y hy=>iz _ (Nat.le_trans jR.next (PM y hy));have Vx:∀ y∈nameOf (.slice JM (P.bZ a) FN),y∉pb::F0:=fun y hy=>iz _ (Nat.le_trans tS.next (zY y hy));obtain⟨pre,PQ⟩:∃ pre:Nat→List dC,∀ n,pre n=(List.range n).flatMap (PH.oE P P' K a b):=⟨_,fun _=>rfl⟩;have rm:∀ n,pre (n+1)=pre n++PH.oE P P' K a b n:=fun n=>by rw[PQ,PQ,List.range_succ,List.flatMap_append,List.flatMap_singleton]
 have Ml:∀ n,(pre n).length≤n:=fun n=>by rw[PQ];exact PH.Mt ..
 refine cJ fun sF iY mw rQ=>?_;refine rW (n:=P.bZ a) (fun j a' s'=>a'.aB 0=ptr pb∧a'.aB 1=int a∧a'.aB 4=int (P.w a.toNat)∧a'.aB 5=int b∧a'.aB 7=ptr s3.next∧a'.aB 11=.slice ui (P.bZ a) bz∧a'.aB 81=.slice JM (P.bZ a) FN∧a'.aB 82=int (P.bZ a)∧a'.aB 83=int j∧mW s6 F0 pb h h' mb (C++pre j) s')
  (fun j a' s'=>a'.aB 0=ptr pb∧a'.aB 1=int a∧a'.aB 4=int (P.w a.toNat)∧a'.aB 5=int b∧a'.aB 7=ptr s3.next∧a'.aB 11=.slice ui (P.bZ a) bz∧a'.aB 81=.slice JM (P.bZ a) FN∧a'.aB 82=int (P.bZ a)∧a'.aB 83=int j∧mW s6 F0 pb h h' mb (C++pre (j+1)) s') ?_ ?_ ?_ ?_ (Nat.zero_le _) ?_
 ·rintro j a' s' hj ⟨r0,r1,r4,r5,r7,eZ,sU,sV,rY,hp⟩ aV bP;simp only[cF,seval,sV,rY];refine bP _ _ (decide ((j:Int)<P.bZ a)) ?_ (by simp) ⟨?_,?_,?_,?_,?_,?_,?_,?_,?_,hp⟩
  all_goals simp only[cF,seval,r0,r1,r4,r5,r7,eZ,sU,sV,rY]
 ·rintro j a' s' hj ⟨r0,r1,r4,r5,r7,eZ,sU,sV,rY,hp⟩ aV h1 h2 h3;obtain⟨SU,cd,rfl⟩:=b1.sl.addr (show 0<P.bZ a by omega);obtain⟨Ta,Tk,rfl⟩:=b2.sl.addr (show 0<P.bZ a by omega);have hk:=hp.k;have z1:(0:Int)≤(j:Int):=Int.natCast_nonneg _;have z2:(j:Int)<((P.bZ a:Nat):Int):=by omega
  have hat:∀ i:Nat,i<P.bZ a→((P.refs a).map int)[i]?=some (int (P.ref a i)):=fun i hi=>by
   rw[List.getElem?_map];unfold PH.refs;rw[List.getElem?_map,List.getElem?_range hi];rfl
  have jo:∀ i:Nat,i<P.bZ a→((P'.refs b).map int)[i]?=some (int (P'.ref b i)):=fun i hi=>by
   rw[List.getElem?_map];unfold PH.refs;rw[List.getElem?_map,List.getElem?_range (by omega)];rfl
  have lj2:aG s'.look ⟨Ta,Tk+j,none⟩=some (int (P.ref a j)):=(b2.sl.aD hk Vx).load (i:=j) (hat j hj);have HB:=H6.aD hk f1;have HN:=JR.aD hk f2;have MB:=M6.aD hk f3;have Mb:=hp.l0;have p17:=hp.l1;have th:=ef.sl.aD hk Vw;refine aA fun wV lU vU=>?_;simp only[cF,seval,sU,rY,z1,z2,and_self,bQ,Int.toNat_natCast,Nat.mul_one,lj2];refine lU _ _ ?_;refine aA fun DB tN tO=>?_;refine dG [(9,5),(13,5)] [pb,SU] [] (by kernel_rfl) (by kernel_rfl) (by rfl) fun O hO bC hR=>?_;simp only[cF,seval,r0,Mb];refine dL ?_ (NO (hk.ok.skip _) (HB.aJ (.skip hk.ok _)) (P.ref a j) (T9 j) fun s7 k7=>?_)
  ·simp only[cF,seval]
  have QJ:aC [] s' s7:=(aC.skip hk.ok _).trans k7;have pv:aG s7.look ⟨SU,cd+j,none⟩=some (int (P'.ref b j)):=(th.aD QJ (by simp)).load (i:=j) (jo j hj);have p18:=mI QJ (by simp) p17
  try simp only[cF,seval,r0,p18,eZ,z1,z2,and_self,bQ,Int.toNat_natCast,Nat.mul_one,pv]
  have LW:=hk.ok.skip 34;have Iq:aG (s'.skip 34).look ⟨SU,cd+j,none⟩=some (int (P'.ref b j)):=(th.aD (aC.skip (F:=[]) hk.ok 34) (by simp)).load (i:=j) (jo j hj);refine⟨eP (CK (mI (aC.skip (F:=[]) hk.ok 34) (by simp) Mb) LW k7 (by simp)) (eP (CK Iq LW k7 (by simp)) fO),?_⟩;refine dL ?_ (NO QJ.ok (HN.aJ QJ) (P'.ref b j) (Fs j) fun s8 k8=>?_)
  ·simp only[cF,seval]
  try simp only[cF,seval]
  have AG:=QJ.trans k8;have HJ:=hp.aD AG;refine hR _ _ (tN _ _ ?_);refine aA fun NS uO xN=>?_;simp only[cF,seval];refine uO _ _ ?_;obtain⟨w,hw⟩:∃ w,w=P.fW (P.ref a j):=⟨_,rfl⟩;obtain⟨w',hw'⟩:∃ w',w'=P'.fW (P'.ref b j):=⟨_,rfl⟩;rw[show (if P.has (P.ref a j)=true then P.w (P.ref a j).toNat else 0)=w from hw.symm,show (if P'.has (P'.ref b j)=true then P'.w (P'.ref b j).toNat else 0)=w' from hw'.symm];refine aA fun DC pE ED=>?_;have rest:∀ a4 s4,(a4.aB 0=ptr pb∧a4.aB 1=int a∧a4.aB 4=int (P.w a.toNat)∧a4.aB 5=int b∧a4.aB 7=ptr s3.next∧a4.aB 11=.slice (some ⟨SU,cd,none⟩) (P.bZ a) bz∧a4.aB 81=.slice (some ⟨Ta,Tk,none⟩) (P.bZ a) FN∧a4.aB 82=int (P.bZ a)∧a4.aB 83=int j∧a4.aB 14=int w∧a4.aB 15=int w'∧a4.aB 12=int j∧a4.aB 16=.bool (PH.tK P P' K a b j))→aC [] s8 s4→DC .normal a4 s4:=by
   rintro a4 s4 ⟨r0,r1,r4,r5,r7,eZ,sU,sV,rY,rr,ZS,qQ,ZT⟩ k4;have ll:=HJ.aD k4;have wj:IntKind.i64.wrap (1+(j:Int))=1+(j:Int):=aU (by omega) (by omega);refine pE _ _ ?_;refine aA fun FR nQ zZ=>?_;refine cL [(3,140)] (by kernel_rfl) fun O hO bC hR=>?_;have y3:∀ a,aO O a 3=aY (a.aB 140):=hO (3,140) (by simp);cases uN:(w==w') with
   | true =>
    have eF:PH.oE P P' K a b j=[]:=by
     unfold PH.oE;rw[if_neg fun hc=>hc.1 (by rw[← hw,← hw'];exact beq_iff_eq.1 uN)]
    rw[rm,eF,List.append_nil] at h1;simp only[cF,seval,rr,ZS,y3,uN];refine hR _ _ (nQ _ _ ?_);simp only[cF,seval];refine h1 _ _ ⟨?_,?_,?_,?_,?_,?_,?_,?_,?_,ll⟩
    all_goals simp only[cF,seval,r0,r1,r4,r5,r7,eZ,sU,sV,rY]
   | false =>
    have hne:P.fW (P.ref a j)≠P'.fW (P'.ref b j):=fun hc=>by rw[hw,hw',hc,beq_self_eq_true] at uN;cases uN
    cases hex:PH.tK P P' K a b j with
    | true =>
     rw[hex] at ZT;have eF:PH.oE P P' K a b j=[]:=by
      unfold PH.oE;rw[if_neg fun hc=>by rw[hex] at hc;cases hc.2]
     rw[rm,eF,List.append_nil] at h1;simp only[cF,seval,rr,ZS,ZT,y3,uN];refine hR _ _ (nQ _ _ ?_);simp only[cF,seval];refine h1 _ _ ⟨?_,?_,?_,?_,?_,?_,?_,?_,?_,ll⟩
     all_goals simp only[cF,seval,r0,r1,r4,r5,r7,eZ,sU,sV,rY]
    | false =>
     rw[hex] at ZT;have eF:PH.oE P P' K a b j=[(11,P.w a.toNat,1+(j:Int))]:=by
      unfold PH.oE;rw[if_pos ⟨hne,hex⟩]
     rw[rm,eF,← List.append_assoc] at h1;have hlen:(C++pre j).length<1000000:=by have:=Ml j;rw[List.length_append];omega
     simp only[cF,seval,rr,ZS,ZT,y3,uN];refine hR _ _ (nQ _ _ ?_);simp only[dA,RV,RG,seval];simp only[cF,seval,r0,r4,qQ,wj];refine aH ?_ (ll.add tT.ok hlen (11,P.w a.toNat,1+(j:Int)) fun s9 lu=>?_)
     ·simp only[cF,seval]
     try simp only[cF,seval]
     refine h1 _ _ ⟨?_,?_,?_,?_,?_,?_,?_,?_,?_,lu⟩
     all_goals try simp only[cF,seval,r0,r1,r4,r5,r7,eZ,sU,sV,rY]
  have l27:aG s8.look ⟨s3.next,2,none⟩=some (int (P.aM a).k):=((ey.aD hk sv).aD AG (by simp)).load rfl;refine aA fun NU tP LN=>?_;refine cL [(4,107)] (by kernel_rfl) fun O hO bC hR=>?_;have y4:∀ a,aO O a 4=aY (a.aB 107):=hO (4,107) (by simp);simp only[cF,seval,r7,l27];refine aH ?_ (Mi (P.aM a).k (j:Int) ?_)
  ·simp only[cF,seval]
  cases EC:PH.soft (P.aM a).k j with
  | false =>
   have eX:PH.tK P P' K a b j=false:=by unfold PH.tK;rw[EC,Bool.false_and]
   simp only[cF,seval,y4];refine hR _ _ (tP _ _ ?_);simp only[cF,seval];refine rest _ _ ⟨?_,?_,?_,?_,?_,?_,?_,?_,?_,?_,?_,?_,?_⟩ (.refl AG.ok)
   all_goals try simp only[cF,seval,r0,r1,r4,r5,r7,eZ,sU,sV,rY,eX]
  | true =>
   cases PY:(w'==0) with
   | false =>
    have eX:PH.tK P P' K a b j=false:=by unfold PH.tK;rw[← hw',PY,Bool.false_and,Bool.and_false]
    simp only[cF,seval,y4,PY];refine hR _ _ (tP _ _ ?_);simp only[cF,seval];refine rest _ _ ⟨?_,?_,?_,?_,?_,?_,?_,?_,?_,?_,?_,?_,?_⟩ (.refl AG.ok)
    all_goals try simp only[cF,seval,r0,r1,r4,r5,r7,eZ,sU,sV,rY,eX]
   | true =>
    have eX:PH.tK P P' K a b j=((((j:Int)==0)&&!K.contains (P.ref a j))||(((j:Int)==1)&&(P'.fW (P'.ref b (0:Nat))==0))):=by unfold PH.tK;rw[← hw',PY,EC,Bool.true_and,Bool.true_and]
    simp only[cF,seval,y4,PY];refine hR _ _ (tP _ _ ?_);simp only[dA,RV,RG,seval];have kS:=aC.skip (F:=[]) AG.ok 54;have p2:=HJ.l2;have p1S:=HJ.l1;have sl8:=th.aD AG (by simp);obtain⟨es,aR,m1,m2⟩:=XN (MB.aD AG (by simp)) (P.ref a j);refine dG [] [] [(2,113),(11,122),(14,125)] (by kernel_rfl) (by kernel_rfl) (by rfl) fun O hO bC hR=>?_;have y2:∀ a,aO O a 2=aY (a.aB 113):=hO (2,113) (by simp);have kV:∀ a,aO O a 11=aY (a.aB 122):=hO (11,122) (by simp);have oV:∀ a,aO O a 14=aY (a.aB 125):=hO (14,125) (by simp);by_cases kf:j=0
    ·have DK:((j:Int)==0)=true:=by rw[beq_iff_eq];omega
     have DM:((j:Int)==1)=false:=by rw[beq_eq_false_iff_ne];omega
     rcases m2 with ⟨hc,m2⟩ | ⟨hc,i,m2⟩
     ·rw[DK,DM,hc] at eX;have eX:PH.tK P P' K a b j=true:=eX;simp only[cF,seval,y2,kV,oV,DK,r0,p2,m1,m2];refine hR _ _ (rest _ _ ⟨?_,?_,?_,?_,?_,?_,?_,?_,?_,?_,?_,?_,?_⟩ (.skip AG.ok 54))
      all_goals try simp only[cF,seval,r0,r1,r4,r5,r7,eZ,sU,sV,rY,eX]
     ·rw[DK,DM,hc] at eX;have eX:PH.tK P P' K a b j=false:=eX;simp only[cF,seval,y2,kV,oV,DK,DM,r0,p2,m1,m2];refine hR _ _ (rest _ _ ⟨?_,?_,?_,?_,?_,?_,?_,?_,?_,?_,?_,?_,?_⟩ (.skip AG.ok 54))
      all_goals try simp only[cF,seval,r0,r1,r4,r5,r7,eZ,sU,sV,rY,eX]
    ·have DK:((j:Int)==0)=false:=by rw[beq_eq_false_iff_ne];omega
     have DM:((j:Int)==1)=true:=by
      unfold PH.soft at EC;rw[DK] at EC;cases hb:((j:Int)==1) with
      | true=>rfl
      | false=>rw[hb] at EC;simp at EC
     have hj1:(j:Int)=1:=by simpa using DM
     have z3:(0:Int)<((P.bZ a:Nat):Int):=by omega
     have l00:aG s8.look ⟨SU,cd,none⟩=some (int (P'.ref b (0:Nat))):=sl8.load (i:=0) (jo 0 (by omega));simp only[cF,seval,y2,kV,oV,DK,DM,r0,p1S,eZ,z3,Int.le_refl,show (0:Int).toNat=0 from rfl,Nat.zero_mul,bQ,Nat.add_zero,l00];refine dL ?_ (NO kS.ok ((HN.aJ AG).aJ kS) (P'.ref b (0:Nat)) (Fs 0) fun s9 k9=>?_)
     ·simp only[cF,seval]
     rw[DK,DM,Bool.false_and,Bool.false_or,Bool.true_and] at eX;rw[show (if P'.has (P'.ref b (0:Nat))=true then P'.w (P'.ref b (0:Nat)).toNat else 0)=P'.fW (P'.ref b (0:Nat)) from rfl]
     try simp only[cF,seval,kV,oV]
     refine hR _ _ (rest _ _ ⟨?_,?_,?_,?_,?_,?_,?_,?_,?_,?_,?_,?_,?_⟩ (kS.trans k9))
     all_goals try simp only[cF,seval,r0,r1,r4,r5,r7,eZ,sU,sV,rY,eX]
 ·rintro j a' s' hj ⟨r0,r1,r4,r5,r7,eZ,sU,sV,rY,hk⟩ aV h1;have w:IntKind.i64.wrap ((j:Int)+1)=((j+1:Nat):Int):=by rw[aU (by omega) (by omega)];rfl
  simp only[cF,seval,rY,w];refine h1 _ _ ⟨?_,?_,?_,?_,?_,?_,?_,?_,?_,hk⟩
  all_goals try simp only[cF,seval,r0,r1,r4,r5,r7,eZ,sU,sV]
 ·rintro a' s' ⟨r0,r1,r4,r5,r7,eZ,sU,sV,rY,hp⟩;refine mw _ _ (eG _ _ ?_);obtain⟨d0,d200⟩:0≤(P.aM a).d∧(P.aM a).d≤200:=by
   unfold PH.aM;rw[if_pos hh];have:=cO.nX.1 (G.val a hh).1;omega
  obtain⟨nd,hnd,Q9⟩:∃ nd:Nat,(P.aM a).d=nd∧P.jO a=nd:=⟨(P.aM a).d.toNat,by omega,rfl⟩;rw[Q9] at hΦ;have hk:=hp.k;have Hn:aG s'.look ⟨s3.next,1,none⟩=some (int (P.aM a).d):=(ey.aD hk sv).load rfl;rw[hnd] at Hn;refine aA fun TB sR QB=>?_;simp only[cF,seval,r7,Hn];refine sR _ _ ?_;obtain⟨FF,PX⟩:∃ FF:Nat→List dC,∀ n,FF n=(List.range n).flatMap (PH.oZ P P' a b):=⟨_,fun _=>rfl⟩;have Qw:∀ n,FF (n+1)=FF n++PH.oZ P P' a b n:=fun n=>by rw[PX,PX,List.range_succ,List.flatMap_append,List.flatMap_singleton]
  have aGp:∀ n,(FF n).length≤n:=fun n=>by rw[PX];exact PH.Ah ..
  rw[← PQ,← PX,← List.append_assoc] at hΦ;refine cJ fun FR nQ nc zZ=>?_;refine rW (n:=nd) (fun j a' s'=>a'.aB 0=ptr pb∧a'.aB 1=int a∧a'.aB 4=int (P.w a.toNat)∧a'.aB 5=int b∧a'.aB 7=ptr s3.next∧a'.aB 153=int nd∧a'.aB 154=int j∧mW s6 F0 pb h h' mb (C++pre (P.bZ a)++FF j) s')
   (fun j a' s'=>a'.aB 0=ptr pb∧a'.aB 1=int a∧a'.aB 4=int (P.w a.toNat)∧a'.aB 5=int b∧a'.aB 7=ptr s3.next∧a'.aB 153=int nd∧a'.aB 154=int j∧mW s6 F0 pb h h' mb (C++pre (P.bZ a)++FF (j+1)) s') ?_ ?_ ?_ ?_ (Nat.zero_le _) ?_
  ·rintro j a' s' hj ⟨r0,r1,r4,r5,r7,ET,CF,hp⟩ aV bP;simp only[cF,seval,ET,CF];refine bP _ _ (decide ((j:Int)<nd)) ?_ (by simp) ⟨?_,?_,?_,?_,?_,?_,?_,hp⟩
   all_goals simp only[cF,seval,r0,r1,r4,r5,r7,ET,CF]
  ·rintro j a' s' hj ⟨r0,r1,r4,r5,r7,ET,CF,hp⟩ aV h1 h2 h3;have hk:=hp.k;have p0':=hp.l0;have HB:=H6.aD hk f1;have HN:=JR.aD hk f2;refine aA fun NV rR LP=>?_;simp only[cF,seval,CF];refine rR _ _ ?_;refine aA fun ck BP XD=>?_;simp only[cF,seval,r0,p0',r1];refine aH ?_ (VY hk.ok HB G a (j:Int) ha fun s7 k7=>?_)
   ·simp only[cF,seval]
   try simp only[cF,seval]
   refine BP _ _ ?_;have p1':=(hp.aD k7).l1;refine aA fun cn AA LQ=>?_;simp only[cF,seval,r0,p1',r5];refine aH ?_ (VY k7.ok (HN.aJ k7) G' b (j:Int) hb fun s8 k8=>?_)
   ·simp only[cF,seval]
   try simp only[cF,seval]
   refine AA _ _ ?_;have HJ:=(hp.aD k7).aD k8;obtain⟨x,hx⟩:∃ x,x=P.jN a j:=⟨_,rfl⟩;obtain⟨x',hx'⟩:∃ x',x'=P'.jN b j:=⟨_,rfl⟩;rw[show (if P.dR a j true=0 then P.w (P.dP a j true).toNat else 0)=x from hx.symm,show (if P'.dR b j true=0 then P'.w (P'.dP b j true).toNat else 0)=x' from hx'.symm];refine aA fun ct xO XE=>?_;cases hxx:(x==x') with
   | true =>
    have eF:PH.oZ P P' a b j=[]:=by
     unfold PH.oZ;rw[if_neg fun hc=>hc (by rw[← hx,← hx'];exact beq_iff_eq.1 hxx)]
    rw[Qw,eF,List.append_nil] at h1;simp only[cF,seval,hxx];refine xO _ _ ?_;simp only[cF,seval];refine h1 _ _ ⟨?_,?_,?_,?_,?_,?_,?_,HJ⟩
    all_goals simp only[cF,seval,r0,r1,r4,r5,r7,ET,CF]
   | false =>
    have hne:P.jN a j≠P'.jN b j:=fun hc=>by rw[hx,hx',hc,beq_self_eq_true] at hxx;cases hxx
    have eF:PH.oZ P P' a b j=[(11,P.w a.toNat,1+(P.aM a).r+(j:Int))]:=by
     unfold PH.oZ;rw[if_pos hne]
    rw[Qw,eF,← List.append_assoc] at h1;have hlen:(C++pre (P.bZ a)++FF j).length<1000000:=by
     have h1:=Ml (P.bZ a);have h2:=aGp j;rw[List.length_append,List.length_append];omega
    have Hm:aG s8.look ⟨s3.next,0,none⟩=some (int (P.aM a).r):=((ey.aD hk sv).aD (k7.trans k8) (by simp)).load rfl;have aAd:aG (s8.skip 10).look ⟨s3.next,0,none⟩=some (int (P.aM a).r):=Hm;have w1:IntKind.i64.wrap (1+(P.aM a).r)=1+(P.aM a).r:=aU (by omega) (by omega);have w2:IntKind.i64.wrap (1+(P.aM a).r+(j:Int))=1+(P.aM a).r+(j:Int):=aU (by omega) (by omega);simp only[cF,seval,hxx];refine xO _ _ ?_;simp only[dA,RV,RG,seval];refine dG [] [] [] (by kernel_rfl) (by kernel_rfl) (by rfl) fun O hO bC hR=>?_;simp only[cF,seval,r0,r4,r7,Hm,w1,w2];refine dL ?_ ((HJ.aD (.skip HJ.k.ok _)).add tT.ok hlen (11,P.w a.toNat,1+(P.aM a).r+(j:Int)) fun s9 lu=>?_)
    ·simp only[cF,seval]
    try simp only[cF,seval]
    refine hR _ _ (h1 _ _ ⟨?_,?_,?_,?_,?_,?_,?_,lu⟩)
    all_goals try simp only[cF,seval,r0,r1,r4,r5,r7,ET,CF]
  ·rintro j a' s' hj ⟨r0,r1,r4,r5,r7,ET,CF,hk⟩ aV h1;have w:IntKind.i64.wrap ((j:Int)+1)=((j+1:Nat):Int):=by rw[aU (by omega) (by omega)];rfl
   simp only[cF,seval,CF,w];refine h1 _ _ ⟨?_,?_,?_,?_,?_,?_,?_,hk⟩
   all_goals try simp only[cF,seval,r0,r1,r4,r5,r7,ET]
  ·rintro a' s' ⟨r0,r1,r4,r5,r7,ET,CF,hp⟩;refine nc _ _ ?_;simp only[cF,seval];exact hΦ _ (hp.back tT Pt.lt)
  ·refine⟨?_,?_,?_,?_,?_,?_,?_,?_⟩
   case refine_8=>rw[PX];simpa using hp
   all_goals try simp only[cF,seval,r0,r1,r4,r5,r7]
   try rfl
 ·refine⟨?_,?_,?_,?_,?_,?_,?_,?_,?_,?_⟩
  case refine_10=>rw[PQ];simpa using dw
  all_goals try simp only[cF,seval,PU]
  try rfl
end
end Go.Dust
