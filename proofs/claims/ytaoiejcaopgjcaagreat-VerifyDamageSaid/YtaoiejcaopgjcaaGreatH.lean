/- VerifyDamage walked in D, function by function, and its plain law (C12 Er R1 R2 R3 R4). -/
import Derived.Test.YtaoiejcaopgjcaaGreatG
import Derived.Test.YtaoiejcaopgjcaaGreatE
set_option linter.unusedVariables false
set_option linter.unusedSimpArgs false
namespace Go.Dust
open Go.Proofs
set_option maxRecDepth 100000
set_option maxHeartbeats 1000000
def dM (f:Nat→Int) (i:Nat) (v:Int):Nat→Int:=fun j=>if j=i then v else f j
namespace PH
variable (P:PH)
def fill (p k:Nat) (x y:Int):PH:={P with bs:=fun j=>if p≤j∧j<p+k then x else P.bs j,bp:=fun j=>if p≤j∧j<p+k then y else P.bp j}
def oA (p k:Nat) (x y u v:Int):PH:={P with bs:=dM (fun j=>if p≤j∧j<p+k then u else P.bs j) p x,bp:=dM (fun j=>if p≤j∧j<p+k then v else P.bp j) p y}
def busy (p k:Nat):Bool:=(List.range k).any fun j=>!(P.bs (p+j)==0&&P.bp (p+j)==0)
def nJ (b k y:Int):Int:=if 1≤b∧b<P.N∧1≤k∧k≤P.N-b∧0≤y∧y<8 then(if P.busy b.toNat k.toNat=true then 8 else 0) else 1
end PH
section
variable {kc:Kc} {q:Bool} {s:St} {Φ:Value→St→Prop} {h:Nat} {P:PH}
theorem bK.aw {s s':St} {f g:Nat→Int} (H:bK s h P) (k:aC [P.nb] s s') (hc:Obj s' P.nb (row (2*P.N) fun i=>int (if i%2=0 then f (i/2) else g (i/2)))):bK s' h {P with bs:=f,bp:=g}:=by
 obtain⟨⟨a1,a2,a3,a4,a5,a6,a7,a8⟩,⟨b1,b2,b3,b4,b5,b6,b7⟩,_⟩:=H.QW;obtain⟨c,cb,cw,ts,tp,mp,mf,nd,n2,bY,wr⟩:=H;exact⟨c.aD k (by simp[a1]),hc,cw.aD k (by simp[Ne.symm b1]),ts.aD k (by simp[Ne.symm b2]) (by simp[Ne.symm b3]),tp.aD k (by simp[Ne.symm b4]) (by simp[Ne.symm b5]),mp.aD k (by simp[Ne.symm b6]),mf.aD k (by simp[Ne.symm b7]),nd,n2,bY,wr⟩
theorem bK.setBlock (hs:Ok s) (H:bK s h P) {j:Nat} (hj:j<P.N) (x y:Int):∃ s',dS s ⟨P.nb,j*2,none⟩ [int x,int y]=some s'∧bK s' h {P with bs:=dM P.bs j x,bp:=dM P.bp j y}∧aC [P.nb] s s':=by
 obtain⟨s',h1,h2,h3⟩:=H.cb.store hs (i:=j*2) (vs:=[int x,int y]) (by rw[fY];show j*2+2≤_;omega) rfl;have HL:uX (row (2*P.N) fun i=>int (if i%2=0 then P.bs (i/2) else P.bp (i/2))) (j*2) [int x,int y]=row (2*P.N) fun i=>int (if i%2=0 then dM P.bs j x (i/2) else dM P.bp j y (i/2)):=by
  refine MV (by rw[JB (by rw[fY];show j*2+2≤_;omega),fY]) fun i hi=>?_;rw[JA (by rw[fY];show j*2+2≤_;omega),show [int x,int y].length=2 from rfl];unfold dM;by_cases hc:j*2≤i∧i<j*2+2
  ·rw[if_pos hc,if_pos (show i/2=j by omega),if_pos (show i/2=j by omega)];rcases Nat.lt_or_ge i (j*2+1) with h | h
   ·rw[show i-j*2=0 by omega,if_pos (by omega)];rfl
   ·rw[show i-j*2=1 by omega,if_neg (by omega)];rfl
  ·rw[if_neg hc,lW _ hi,if_neg (show ¬ i/2=j by omega),if_neg (show ¬ i/2=j by omega)]
 rw[HL] at h2;exact⟨s',h1,H.aw h3 h2,h3⟩
theorem Sj:type_of% (B5 @RX @LX @TT @gh @Kk):=B5 @RX @LX @TT @gh @Kk
theorem J6 (hs:Ok s) (x y:Int) (hΦ:∀ s',aC [] s s'→Φ (.bool (!(x==0&&y==0))) s'):okF q X (KO kc) 227 [.agg #[int x,int y]] s Φ:=by
 refine aW Tryz.func227 (by kernel_rfl) rfl rfl (rs:=[.tmp 2]) rfl (N:=6) rfl rfl ?_;refine aA fun bF aF bD=>?_;simp only[Sj,seval];obtain⟨s1,e1,k1,c1,_⟩:=cI hs (L:=[int x,int y]) (n:=2) (e:=198) rfl;rw[e1];refine aF _ _ ?_;have l1:=c1.bI (i:=0) (k:=2) (Nat.le_refl _);simp only[Sj,seval,l1,List.drop_zero,List.take];exact hΦ _ k1
theorem aB4 {H:bL} {b o:Nat} {x y:Value} (h0:aG H ⟨b,o,none⟩=some x) (h1:aG H ⟨b,o+1,none⟩=some y):bI H ⟨b,o,none⟩ 2=some [x,y]:=by
 unfold aG at h0 h1;unfold bI;simp only at h0 h1 ⊢;cases hb:H b with
 | none=>rw[hb] at h0;cases h0
 | some ob =>
  rw[hb] at h0 h1;cases ob with
  | cells c z n e r ro v=>simp only at h0 h1 ⊢;simp only[qT,h0,h1]
  | _=>cases h0
theorem lL:type_of% (B4 @RX @wD @vY @LX):=B4 @RX @wD @vY @LX
theorem aGg {b off n c:Nat} {f g:Nat→Int} (hs:Ok s) (vS:n<1000) (hf:∀ j,j<n→aG s.look ⟨b,off+j*2,none⟩=some (int (f j))∧aG s.look ⟨b,off+j*2+1,none⟩=some (int (g j)))
  (hΦ:∀ s' (r:Int),aC [] s s'→(r≥0↔(List.range n).any (fun j=>!(f j==0&&g j==0))=true)→Φ (int r) s'):okF q X (KO kc) 255 [.slice (some ⟨b,off,none⟩) n c,.func (.func 227) #[] #[]] s Φ:=by
 refine aW Tryz.func255 (by kernel_rfl) rfl rfl (rs:=[.tmp 4]) rfl (N:=19) rfl rfl ?_;refine aA fun bF aF bD=>?_;simp only[lL,seval];refine aF _ _ ?_;refine aA fun Ψ1 aE aL=>?_;refine aA fun Ψ2 aI bH=>?_;simp only[lL,seval];refine aI _ _ ?_;refine cJ fun Ψ3 aN pF bM=>?_;refine rW (n:=n) (fun j a' s'=>a'.aB 0=.slice (some ⟨b,off,none⟩) n c∧a'.aB 1=.func (.func 227) #[] #[]∧a'.aB 7=int n∧a'.aB 8=int j∧aC [] s s'∧∀ k,k<j→(!(f k==0&&g k==0))=false)
  (fun j a' s'=>a'.aB 0=.slice (some ⟨b,off,none⟩) n c∧a'.aB 1=.func (.func 227) #[] #[]∧a'.aB 7=int n∧a'.aB 8=int j∧aC [] s s'∧∀ k,k<j+1→(!(f k==0&&g k==0))=false) ?_ ?_ ?_ ?_ (Nat.zero_le n) ?_
 ·rintro j a' s' hj ⟨r0,r1,r7,r8,hk,hn⟩ aV bP;simp only[lL,seval,r7,r8];refine bP _ _ (decide ((j:Int)<n)) ?_ (by simp) ⟨?_,?_,?_,?_,hk,hn⟩
  all_goals simp only[lL,seval,r0,r1,r7,r8]
 ·rintro j a' s' hj ⟨r0,r1,r7,r8,hk,hn⟩ aV h1 h2 h3;obtain⟨f1,f2⟩:=hf j hj;have PK:=aB4 (mI hk (by simp) f1) (mI hk (by simp) f2);have g1:(0:Int)≤(j:Int):=Int.natCast_nonneg _;have g2:(j:Int)<(n:Int):=by omega
  refine aA fun Ψ4 aP cC=>?_;simp only[lL,seval,r8];refine aP _ _ ?_;refine aA fun cU aZ cK=>?_;simp only[lL,seval,r0,r1,g1,g2,bQ,Int.toNat_natCast,PK];refine MM (fi:=#[]) (ca:=#[]) ?_ ?_ (J6 hk.ok (f j) (g j) fun s'' PJ=>?_)
  ·simp only[lL,seval]
  ·simp only[lL,seval]
  try simp only[lL,seval]
  refine aZ _ _ ?_;cases hp:(!(f j==0&&g j==0)) with
  | true =>
   simp only[lL,seval];refine h3 _ _ _ (by simp) (by simp) (bM _ _ _ (by simp) (by simp) (aL _ _ _ (by simp) ?_));simp only[lL,seval];exact hΦ _ _ (hk.trans PJ) ⟨fun _=>List.any_eq_true.2 ⟨j,List.mem_range.2 hj,hp⟩,fun _=>g1⟩
  | false =>
   simp only[lL,seval];refine h1 _ _ ⟨?_,?_,?_,?_,hk.trans PJ,fun k hk=>?_⟩
   ·simp only[lL,seval,r0]
   ·simp only[lL,seval,r1]
   ·simp only[lL,seval,r7]
   ·simp only[lL,seval,r8]
   ·rcases Nat.lt_or_ge k j with h | h
    ·exact hn k h
    ·obtain rfl:k=j:=by omega
     exact hp
 ·rintro j a' s' hj ⟨r0,r1,r7,r8,hk,hn⟩ aV h1;simp only[lL,seval,r8];refine h1 _ _ ⟨?_,?_,?_,?_,hk,hn⟩
  ·simp only[lL,seval,r0]
  ·simp only[lL,seval,r1]
  ·simp only[lL,seval,r7]
  ·simp only[lL,seval];rw[aU (by omega) (by omega)];rfl
 ·rintro a' s' ⟨r0,r1,r7,r8,hk,hn⟩;refine pF _ _ (aE _ _ ?_);simp only[lL,seval];refine hΦ _ _ hk ⟨fun h=>by omega,fun h=>?_⟩;obtain⟨j,hj,hp⟩:=List.any_eq_true.1 h;rw[hn j (List.mem_range.1 hj)] at hp;cases hp
 ·refine⟨?_,?_,?_,?_,.refl hs,fun k hk=>absurd hk (Nat.not_lt_zero k)⟩
  ·simp only[lL,seval]
  ·simp only[lL,seval]
  ·simp only[lL,seval]
  ·simp only[lL,seval]
   try rfl
theorem aGd {b off n c:Nat} {f g:Nat→Int} (hs:Ok s) (vS:n<1000) (hf:∀ j,j<n→aG s.look ⟨b,off+j*2,none⟩=some (int (f j))∧aG s.look ⟨b,off+j*2+1,none⟩=some (int (g j)))
  (hΦ:∀ s',aC [] s s'→Φ (.bool ((List.range n).any (fun j=>!(f j==0&&g j==0)))) s'):okF q X (KO kc) 226 [.slice (some ⟨b,off,none⟩) n c,.func (.func 227) #[] #[]] s Φ:=by
 refine aW Tryz.func226 (by kernel_rfl) rfl rfl (rs:=[.tmp 4]) rfl (N:=9) rfl rfl ?_;refine aA fun bF aF bD=>?_;simp only[RX,seval];refine aF _ _ ?_;refine aA fun Ψ1 aE aL=>?_;simp only[RX,seval];refine aH ?_ (aGg (c:=c) hs vS hf fun s' r hk hr=>?_)
 ·simp only[RX,seval]
 try simp only[RX,seval]
 refine aE _ _ ?_;simp only[RX,seval];have:decide (r≥0)=(List.range n).any (fun j=>!(f j==0&&g j==0)):=by
  rw[Bool.eq_iff_iff,decide_eq_true_eq];exact hr
 rw[this];exact hΦ _ hk
theorem eK:type_of% (B9 @RX @pO @pW @wD @VC @bG @LX @vY @Qm):=B9 @RX @pO @pW @wD @VC @bG @LX @vY @Qm
theorem Ef (hs:Ok s) (H:bK s h P) (b k x y u v:Int) (hk1:-1000000<k∧k<1000000) (hb1:-1000000<b∧b<1000000)
  (hΦ:∀ s',bK s' h (if P.nJ b k y=0 then P.oA b.toNat k.toNat x y u v else P)→aC [P.nb] s s'→Φ (int (P.nJ b k y)) s'):okF q X (KO kc) 167 [ptr h,int b,int k,.agg #[int x,int y],.agg #[int u,int v]] s Φ:=by
 have bY:=H.bY;refine aW Tryz.func167 (by kernel_rfl) rfl rfl (rs:=[.tmp 10]) rfl (N:=74) rfl rfl ?_;refine aA fun bF aF bD=>?_;simp only[eK,seval];obtain⟨s1,e1,k1,c1,n1⟩:=cI hs (L:=[int x,int y]) (n:=2) (e:=198) rfl;rw[e1];obtain⟨s2,e2,k2,c2,n2⟩:=cI k1.ok (L:=[int u,int v]) (n:=2) (e:=198) rfl;rw[e2];refine aF _ _ ?_;have tJ:=c1.aD k2 (by simp);have k12:=k1.trans k2;have H2:=H.aJ k12;have ly:aG s2.look ⟨s.next,1,none⟩=some (int y):=tJ.load rfl;refine aA fun Ψ1 aE aL=>?_;refine cJ fun Ψ2 aI xQ bH=>?_;refine aA fun Ψ3 aN bM=>?_;simp only[eK,seval];refine aH ?_ (vR H2 ?_)
 ·simp only[eK,seval]
 try simp only[eK,seval]
 refine aN _ _ ?_;simp only[dA,RV,RG,seval];refine aA fun Ψ4 aP cC=>?_;refine cL [(4,21),(8,25),(19,36)] (by kernel_rfl) fun O hO bC hR=>?_;have y4:∀ a,aO O a 4=aY (a.aB 21):=hO (4,21) (by simp);have y8:∀ a,aO O a 8=aY (a.aB 25):=hO (8,25) (by simp);have DA:∀ a,aO O a 19=aY (a.aB 36):=hO (19,36) (by simp);simp only[eK,seval];refine aH ?_ (K_ H2 b ?_)
 ·simp only[eK,seval]
 by_cases g1:1≤b∧b<(P.N:Int);rotate_left
 ·have he:P.nJ b k y=1:=by unfold PH.nJ;rw[if_neg (fun h=>g1 ⟨h.1,h.2.1⟩)]
  rw[he,if_neg (by decide)] at hΦ;simp only[eK,seval,y4,y8,DA,g1,decide_false];refine hR _ _ (aP _ _ ?_);simp only[eK,seval];refine bH _ _ _ (by simp) (by simp) (aL _ _ _ (by simp) ?_);simp only[eK,seval];exact hΦ _ H2 k12.any
 by_cases g2:k<1
 ·have he:P.nJ b k y=1:=by unfold PH.nJ;rw[if_neg (by omega)]
  rw[he,if_neg (by decide)] at hΦ;simp only[eK,seval,y4,y8,DA,g1,and_self,g2,decide_true];refine hR _ _ (aP _ _ ?_);simp only[eK,seval];refine bH _ _ _ (by simp) (by simp) (aL _ _ _ (by simp) ?_);simp only[eK,seval];exact hΦ _ H2 k12.any
 have w1:IntKind.i64.wrap ((P.N:Int)-b)=P.N-b:=aU (by omega) (by omega);by_cases g3:k>(P.N:Int)-b
 ·have he:P.nJ b k y=1:=by unfold PH.nJ;rw[if_neg (by omega)]
  rw[he,if_neg (by decide)] at hΦ;simp only[eK,seval,y4,y8,DA,g1,and_self,g2,decide_true,decide_false,H2.l0,w1,g3];refine hR _ _ (aP _ _ ?_);simp only[eK,seval];refine bH _ _ _ (by simp) (by simp) (aL _ _ _ (by simp) ?_);simp only[eK,seval];exact hΦ _ H2 k12.any
 simp only[eK,seval,y4,y8,DA,g1,and_self,g2,decide_true,decide_false,H2.l0,w1,g3,ly,Nat.zero_add];refine aH ?_ (J_ y ?_)
 ·simp only[eK,seval]
 by_cases g4:0≤y∧y<8;rotate_left
 ·have he:P.nJ b k y=1:=by unfold PH.nJ;rw[if_neg (fun h=>g4 ⟨h.2.2.2.2.1,h.2.2.2.2.2⟩)]
  rw[he,if_neg (by decide)] at hΦ;simp only[eK,seval,DA,g4,decide_false];refine hR _ _ (aP _ _ ?_);simp only[eK,seval];refine bH _ _ _ (by simp) (by simp) (aL _ _ _ (by simp) ?_);simp only[eK,seval];exact hΦ _ H2 k12.any
 have he:P.nJ b k y=if P.busy b.toNat k.toNat=true then 8 else 0:=by unfold PH.nJ;rw[if_pos ⟨g1.1,g1.2,by omega,by omega,g4.1,g4.2⟩]
 simp only[eK,seval,DA,g4,and_self,decide_true];refine hR _ _ (aP _ _ ?_);simp only[dA,RV,RG,seval];obtain⟨p,rfl⟩:∃ p:Nat,b=p:=⟨b.toNat,by omega⟩;obtain⟨m,rfl⟩:∃ m:Nat,k=m:=⟨k.toNat,by omega⟩;simp only[Int.toNat_natCast] at hΦ he;have hp:1≤p∧p<P.N:=by omega
 have hm:1≤m∧p+m≤P.N:=by omega
 have w2:IntKind.i64.wrap ((p:Int)+m)=((p+m:Nat):Int):=by rw[aU (by omega) (by omega)];rfl
 have e3:=tk (X:=X) (H:=s2.look) (t:=135) (e:=198) (N:=2) (b:=P.nb) (off:=0) (n:=P.N) (c:=P.N) (l:=p) (h:=p+m) (by kernel_rfl) (by kernel_rfl) H2.cb.isCells (by omega) (by omega) (by omega);refine aA fun cU aZ cK=>?_;simp only[eK,seval,H2.l0,w2,e3];refine aH ?_ (aGd (b:=P.nb) (off:=p*2) (n:=m) (c:=P.N-p) (f:=fun j=>P.bs (p+j)) (g:=fun j=>P.bp (p+j)) k12.ok (by omega) (fun j hj=>?_) fun s3 k3=>?_)
 ·simp only[eK,seval,Nat.add_sub_cancel_left,Nat.zero_add]
 ·have e:p*2+j*2=(p+j)*2:=by omega
  rw[e];exact⟨H2.lb (by omega),H2.lp (by omega)⟩
 have kZ:=k12.trans k3;have H3:=H.aJ kZ;have c3:=tJ.aD k3 (by simp);have d3:=c2.aD k3 (by simp)
 try simp only[eK,seval]
 refine aZ _ _ ?_;cases Du:(List.range m).any (fun j=>!(P.bs (p+j)==0&&P.bp (p+j)==0)) with
 | true =>
  rw[if_pos (show P.busy p m=true from Du)] at he;rw[he,if_neg (by decide)] at hΦ;simp only[eK,seval];refine bH _ _ _ (by simp) (by simp) (aL _ _ _ (by simp) ?_);simp only[eK,seval];exact hΦ _ H3 kZ.any
 | false =>
  rw[if_neg (show ¬ P.busy p m=true from by unfold PH.busy;rw[Du];decide)] at he;rw[he,if_pos rfl] at hΦ;simp only[eK,seval];refine aI _ _ (aE _ _ ?_);refine aA fun dN bO cZ=>?_;refine aA fun fE cG dX=>?_;simp only[eK,seval];refine cG _ _ ?_;refine cJ fun gV cT tQ gA=>?_;have a2:s1.next≠P.nb:=by have:=H.cb.lt hs;have:=k1.next;omega
  have a1:s.next≠P.nb:=by have:=H.cb.lt hs;omega
  refine rW (n:=m) (fun j a' s'=>a'.aB 0=ptr h∧a'.aB 1=int p∧a'.aB 8=ptr s.next∧a'.aB 9=ptr s1.next∧a'.aB 53=int m∧a'.aB 54=int j∧bK s' h (P.fill p j u v)∧aC [P.nb] s s'∧Obj s' s.next [int x,int y]∧Obj s' s1.next [int u,int v])
   (fun j a' s'=>a'.aB 0=ptr h∧a'.aB 1=int p∧a'.aB 8=ptr s.next∧a'.aB 9=ptr s1.next∧a'.aB 53=int m∧a'.aB 54=int j∧bK s' h (P.fill p (j+1) u v)∧aC [P.nb] s s'∧Obj s' s.next [int x,int y]∧Obj s' s1.next [int u,int v]) ?_ ?_ ?_ ?_ (Nat.zero_le m) ?_
  ·rintro j a' s' hj ⟨r0,r1,r8,r9,IM,EV,H',k',c',d'⟩ aV bP;simp only[eK,seval,IM,EV];refine bP _ _ (decide ((j:Int)<m)) ?_ (by simp) ⟨?_,?_,?_,?_,?_,?_,H',k',c',d'⟩
   all_goals simp only[eK,seval,r0,r1,r8,r9,IM,EV]
  ·rintro j a' s' hj ⟨r0,r1,r8,r9,IM,EV,H',k',c',d'⟩ aV h1 h2 h3;have w3:IntKind.i64.wrap ((p:Int)+(j:Int))=((p+j:Nat):Int):=by rw[aU (by omega) (by omega)];rfl
   have q1:(0:Int)≤((p+j:Nat):Int):=Int.natCast_nonneg _;have q2:((p+j:Nat):Int)<(P.N:Int):=by omega
   have ks:aC [] s' (s'.skip 20):=.skip k'.ok _;obtain⟨s4,h4,H4,k4⟩:=(H'.aJ ks).setBlock ks.ok (j:=p+j) (show p+j<P.N by omega) u v;have h4':dS (s'.skip 20) ⟨P.nb,(p+j)*2,none⟩ [int u,int v]=some s4:=h4;have ld:=d'.bI (i:=0) (k:=2) (Nat.le_refl _);have l0:aG s'.look ⟨h,0,none⟩=some (.slice (some ⟨P.nb,0,none⟩) P.N P.N):=H'.l0;refine aA fun jC dK iK=>?_;simp only[eK,seval,EV];refine dK _ _ ?_;refine dG [] [] [] (by kernel_rfl) (by kernel_rfl) (by rfl) fun O hO bC hR=>?_;simp only[eK,seval,r0,r1,r9,w3,q1,q2,and_self,bQ,Int.toNat_natCast,Nat.zero_add,l0,ld,List.drop_zero,List.take,h4'];refine hR _ _ (h1 _ _ ⟨?_,?_,?_,?_,?_,?_,?_,(k'.kI _).trans k4,(c'.aD ks (by simp)).aD k4 (by simpa [PH.fill] using a1),(d'.aD ks (by simp)).aD k4 (by simpa [PH.fill] using a2)⟩)
   ·simp only[eK,seval,r0]
   ·simp only[eK,seval,r1]
   ·simp only[eK,seval,r8]
   ·simp only[eK,seval,r9]
   ·simp only[eK,seval,IM]
   ·simp only[eK,seval,EV]
   ·have e:P.fill p (j+1) u v={P.fill p j u v with bs:=dM (P.fill p j u v).bs (p+j) u,bp:=dM (P.fill p j u v).bp (p+j) v}:=by
     unfold PH.fill dM;congr 1
     ·funext i;by_cases h1:i=p+j
      ·subst h1;simp
      ·simp only[h1,if_false];by_cases h2:p≤i∧i<p+j
       ·rw[if_pos h2,if_pos (by omega)]
       ·rw[if_neg h2,if_neg (by omega)]
     ·funext i;by_cases h1:i=p+j
      ·subst h1;simp
      ·simp only[h1,if_false];by_cases h2:p≤i∧i<p+j
       ·rw[if_pos h2,if_pos (by omega)]
       ·rw[if_neg h2,if_neg (by omega)]
    rw[e];exact H4
  ·rintro j a' s' hj ⟨r0,r1,r8,r9,IM,EV,H',k',c',d'⟩ aV h1;simp only[eK,seval,EV];refine h1 _ _ ⟨?_,?_,?_,?_,?_,?_,H',k',c',d'⟩
   ·simp only[eK,seval,r0]
   ·simp only[eK,seval,r1]
   ·simp only[eK,seval,r8]
   ·simp only[eK,seval,r9]
   ·simp only[eK,seval,IM]
   ·simp only[eK,seval];rw[aU (by omega) (by omega)];rfl
  ·rintro a' s' ⟨r0,r1,r8,r9,IM,EV,H',k',c',d'⟩;have q1:(0:Int)≤(p:Int):=Int.natCast_nonneg _;have q2:(p:Int)<(P.N:Int):=by omega
   have ks:aC [] s' (s'.skip 16):=.skip k'.ok _;obtain⟨s4,h4,H4,k4⟩:=(H'.aJ ks).setBlock ks.ok (j:=p) (show p<P.N by omega) x y;have h4':dS (s'.skip 16) ⟨P.nb,p*2,none⟩ [int x,int y]=some s4:=h4;have ld:=c'.bI (i:=0) (k:=2) (Nat.le_refl _);have l0:aG s'.look ⟨h,0,none⟩=some (.slice (some ⟨P.nb,0,none⟩) P.N P.N):=H'.l0;refine tQ _ _ (bO _ _ ?_);refine aA fun lO eG kY=>?_;refine dG [] [] [] (by kernel_rfl) (by kernel_rfl) (by rfl) fun O hO bC hR=>?_;simp only[eK,seval,r0,r1,r8,q1,q2,and_self,bQ,Int.toNat_natCast,Nat.zero_add,l0,ld,List.drop_zero,List.take,h4'];refine hR _ _ (eG _ _ ?_);simp only[eK,seval];exact hΦ s4 H4 ((k'.kI _).trans k4)
  ·refine⟨?_,?_,?_,?_,?_,?_,?_,kZ.any,c3,d3⟩
   ·simp only[eK,seval]
   ·simp only[eK,seval]
   ·simp only[eK,seval]
   ·simp only[eK,seval]
   ·simp only[eK,seval]
   ·simp only[eK,seval]
    try rfl
   ·have e:P.fill p 0 u v=P:=by
     unfold PH.fill;have:∀ j:Nat,¬ (p≤j∧j<p+0):=fun j=>by omega
     simp only[this,if_false]
    rw[e];exact H3
theorem SQ:type_of% (B3 @RX @TU @TT):=B3 @RX @TU @TT
theorem Dx (hs:Ok s) (H:bK s h P) (b y:Int) (hb1:-1000000<b∧b<1000000) (hΦ:∀ s',bK s' h (if P.nJ b 1 y=0 then P.oA b.toNat 1 1 y 0 0 else P)→aC [P.nb] s s'→Φ (int (P.nJ b 1 y)) s'):okF q X (KO kc) 79 [ptr h,int b,int y] s Φ:=by
 refine aW Tryz.func79 (by kernel_rfl) rfl rfl (rs:=[.tmp 6]) rfl (N:=13) rfl rfl ?_;refine aA fun bF aF bD=>?_;simp only[SQ,seval];refine aF _ _ ?_;refine aA fun Ψ1 aE aL=>?_;simp only[SQ,seval];refine aH ?_ (Ef hs H b 1 1 y 0 0 (by omega) hb1 fun s' h1 h2=>?_)
 ·simp only[SQ,seval]
 try simp only[SQ,seval]
 refine aE _ _ ?_;simp only[SQ,seval];exact hΦ s' h1 h2
theorem SK:type_of% (B2 @RX @TU):=B2 @RX @TU
theorem I6 (hs:Ok s) (H:bK s h P) (b k y:Int) (hk1:-1000000<k∧k<1000000) (hb1:-1000000<b∧b<1000000) (hΦ:∀ s',bK s' h (if P.nJ b k y=0 then P.oA b.toNat k.toNat 2 y 3 y else P)→aC [P.nb] s s'→Φ (int (P.nJ b k y)) s'):okF q X (KO kc) 143 [ptr h,int b,int k,int y] s Φ:=by
 refine aW Tryz.func143 (by kernel_rfl) rfl rfl (rs:=[.tmp 8]) rfl (N:=17) rfl rfl ?_;refine aA fun bF aF bD=>?_;simp only[SK,seval];refine aF _ _ ?_;refine aA fun Ψ1 aE aL=>?_;simp only[SK,seval];refine aH ?_ (Ef hs H b k 2 y 3 y hk1 hb1 fun s' h1 h2=>?_)
 ·simp only[SK,seval]
 try simp only[SK,seval]
 refine aE _ _ ?_;simp only[SK,seval];exact hΦ s' h1 h2
end
end Go.Dust
namespace Go.Dust
section
variable {q:Bool} {X:Env} {K:eI}
theorem aCj {r:Option Nat} {g:Operand} {ps:Array Tmp} {aJ6 bd:Code} {a:aK} {s:St} {Φ:dU→aK→St→Prop} {f:FuncId} {first captured:Array Value} (hg:a.eval g=.func (.func f) first captured) (hlive:QO r s=true)
  (h:okF q X K f (first.toList++[.func (.yield s.next) #[] #[]]++captured.toList) (s.new fun v=>.loop .ready none a.tmps a.nt ps aJ6 bd v) fun _ s'=>∃ st t nt ps' as' bd' bB,s'.heap.get s.next=some (.loop st none t nt ps' as' bd' bB)∧st≠.busy ∧
   Φ .normal a (s'.put s.next fun v=>.loop .exhausted none t nt ps' as' bd' v)):cR q X K r (.rangeFunc g ps aJ6 bd) a s Φ:=by
 obtain⟨n,hn⟩:=h;refine⟨n+1,?_⟩;rw[cQ,hg];simp only[hlive,if_true];rw[bN.oW];refine hn.mono fun p hq=>?_;obtain⟨v,s'⟩:=p;obtain⟨st,t,nt,ps',as',bd',bB,h1,h2,h3⟩:=hq;simp only at h1 ⊢;rw[h1];simp only;rw[if_neg h2];exact h3
theorem aD4 {l:Nat} {args:List Value} {s:St} {Φ:Value→St→Prop} {pend:Option Code} {t:PT Value} {nt:Nat} {ps:Array Tmp} {aJ6 bd:Code} {bB:Nat} (hl:s.heap.get l=some (.loop .ready pend t nt ps aJ6 bd bB)) (hn:args.length=ps.size)
  (h:cR q X K (some l) aJ6 {tmps:=yA t (ps.toList.zip args),nt:=nt} s fun e a s=>e=.normal∧∃ pend t nt ps aJ6 bd' bB,s.heap.get l=some (.loop .ready pend t nt ps aJ6 bd' bB) ∧
   cR q X K (some l) bd a (s.put l fun v=>.loop .busy pend t nt ps aJ6 bd' v) fun e _ s=>e=.normal∧∃ st pend t nt ps aJ6 bd bB,s.heap.get l=some (.loop st pend t nt ps aJ6 bd bB)∧Φ (.bool true) (s.put l fun v=>.loop .ready none t nt ps aJ6 bd v)) :
  Ly q X K l args s Φ:=by
 obtain⟨n,hn'⟩:=h;obtain⟨m,hm⟩:=bN.FT (Q:=fun m (p:dU×aK×St)=>p.1=.normal∧∃ pend t nt ps aJ6 bd' bB,p.2.2.heap.get l=some (.loop .ready pend t nt ps aJ6 bd' bB) ∧
   (cQ X K m (some l) bd p.2.1 (p.2.2.put l fun v=>.loop .busy pend t nt ps aJ6 bd' v)).gK q fun p=>p.1=.normal∧∃ st pend t nt ps aJ6 bd bB,p.2.2.heap.get l=some (.loop st pend t nt ps aJ6 bd bB)∧Φ (.bool true) (p.2.2.put l fun v=>.loop .ready none t nt ps aJ6 bd v))
  (fun m p hp=>by
   obtain⟨h1,a1,a2,a3,a4,a5,a6,a7,h2,h3⟩:=hp;exact⟨h1,a1,a2,a3,a4,a5,a6,a7,h2,BL (Nat.le_succ m) h3⟩)
  (hn'.mono fun p hp=>by
   obtain⟨h1,a1,a2,a3,a4,a5,a6,a7,h2,k,h3⟩:=hp;exact⟨k,h1,a1,a2,a3,a4,a5,a6,a7,h2,h3⟩)
 refine⟨max n m+1,?_⟩;rw[gN,hl];simp only;rw[if_pos hn,bN.oW];refine(BL (Nat.le_max_left n m) hm).mono fun p hp=>?_;obtain⟨e,a,s'⟩:=p;obtain⟨h1,a1,a2,a3,a4,a5,a6,a7,h2,h3⟩:=hp;simp only at h1 h2 h3;subst h1;simp only[h2];rw[bN.oW];refine(BL (Nat.le_max_right n m) h3).mono fun p hp=>?_;obtain⟨e,a,s''⟩:=p;obtain⟨h1,b1,b2,b3,b4,b5,b6,b7,b8,h4,h5⟩:=hp;simp only at h1 h4 h5;subst h1;simp only[h4];exact h5
end
section
variable {X:Env} {K:eI} {ops:Array Oper} {base i:Nat} {c:List (Nat×Nat)} {F:List Nat} {d:Option Tmp} {ty:TypeId} {pos:String} {af:Array Edge} {l:List Oper} {a:aK} {s:St} {Φ:aK→St→Prop}
theorem Ac {t aJ6 ts} (hc:xY false X K s (a.aB t) (aJ6.toList.map a.eval) fun v s'=>dY c F i (gU a.eval s.look (.call ⟨.value (.tmp t),aJ6,ts⟩)) s s'∧cB X K ops base c F l (i+1) (a.put d v) s' Φ) :
  cB X K ops base c F (⟨d,.call ⟨.value (.tmp t),aJ6,ts⟩,ty,pos,af,none⟩::l) i a s Φ:=by
 obtain⟨n,hn⟩:=hc;obtain⟨⟨v,s'⟩,h1,hno,m,⟨a2,s2,lg⟩,h2,h3⟩:=bN.cx hn;have hv:∀ (cl:gS) (r:gW),gI X cl r s a.eval (.call ⟨.value (.tmp t),aJ6,ts⟩)=rI X cl r s (a.aB t) (aJ6.toList.map a.eval):=fun cl r=>rfl;refine⟨max n m,⟨a2,s2,{mL:=true,reads:=gU a.eval s.look (.call ⟨.value (.tmp t),aJ6,ts⟩),pre:=s,post:=s'}::lg⟩,?_,⟨fun _=>hno,h3.1⟩,h3.2⟩;rw[gJ,if_pos (oS ..),nL];have h4:rI X (eW X K (max n m)) (gN X K (max n m)) s (a.aB t) (aJ6.toList.map a.eval)=.ret (v,s'):=by
  have hle:=fg (X:=X) (zo (X:=X) (K:=K) (Nat.le_max_left n m)) (Nv (X:=X) (K:=K) (Nat.le_max_left n m)) s (a.aB t) (aJ6.toList.map a.eval);rw[h1] at hle;generalize rI X (eW X K (max n m)) (gN X K (max n m)) s (a.aB t) (aJ6.toList.map a.eval)=u at hle;cases hle;rfl
 simp only[show fB (.call ⟨.value (.tmp t),aJ6,ts⟩)=.effect from rfl,hv,h4];rw[Ja (Nat.le_max_right n m) h2]
theorem aCk {t aJ6 ts f} {fi ca:Array Value} {args:List Value} (hf:a.aB t=.func (.func f) fi ca) (h:fi.toList++aJ6.toList.map a.eval++ca.toList=args)
  (hc:okF false X K f args s fun v s'=>dY c F i (gU a.eval s.look (.call ⟨.value (.tmp t),aJ6,ts⟩)) s s'∧cB X K ops base c F l (i+1) (a.put d v) s' Φ):cB X K ops base c F (⟨d,.call ⟨.value (.tmp t),aJ6,ts⟩,ty,pos,af,none⟩::l) i a s Φ:=by
 refine Ac ?_;rw[hf,KD,h];exact hc
theorem aCl {t aJ6 ts y} {args:List Value} (hf:a.aB t=y) (h:aJ6.toList.map a.eval=args)
  (hc:xY false X K s y args fun v s'=>dY c F i (gU a.eval s.look (.call ⟨.value (.tmp t),aJ6,ts⟩)) s s'∧cB X K ops base c F l (i+1) (a.put d v) s' Φ):cB X K ops base c F (⟨d,.call ⟨.value (.tmp t),aJ6,ts⟩,ty,pos,af,none⟩::l) i a s Φ:=by
 refine Ac ?_;rw[hf,h];exact hc
end
end Go.Dust
namespace Go.Dust
open Go.Proofs
set_option maxRecDepth 100000
set_option maxHeartbeats 1000000
structure eJ where
 k:Int
 m:Int
 i:Int
 deriving DecidableEq
abbrev wG (p:eJ):Value:=.agg #[int p.k,int p.m,int p.i]
structure PR where
 ns:Nat
 ng:Nat
 va:Option Addr
 vn:Nat
 vc:Nat
 m:Nat
 sl:Nat→Int
 gl:Nat→Int
 q:List Int
structure cV (s:St) (r:Nat) (R:PR):Prop where
 c:Obj s r [int R.m,.slice (some ⟨R.ns,0,none⟩) (16*R.m) (16*R.m),.slice (some ⟨R.ng,0,none⟩) 16 16,.slice R.va R.vn R.vc]
 cs:Obj s R.ns (row (16*R.m) fun i=>int (R.sl i))
 cg:Obj s R.ng (row 16 fun i=>int (R.gl i))
 cq:bJ s 3 1 (.slice R.va R.vn R.vc) (R.q.map int)
 nd:r≠R.ns∧r≠R.ng∧R.ns≠R.ng
 nq:∀ b∈nameOf (.slice R.va R.vn R.vc),b≠r∧b≠R.ns∧b≠R.ng
 m1:1≤R.m
 m4:R.m≤4
 ql:R.q.length≤64
 bs:∀ i,i64 (R.sl i)
 bg:∀ i,i64 (R.gl i)
 bq:∀ x∈R.q,i64 x
def PR.aS (r:Nat) (R:PR):List Nat:=[r,R.ns,R.ng]++nameOf (.slice R.va R.vn R.vc)
namespace cV
variable {F:List Nat} {s s':St} {r:Nat} {R:PR}
theorem aD (H:cV s r R) (k:aC F s s') (hF:∀ x∈R.aS r,x∉F):cV s' r R:=by
 obtain⟨c,cs,cg,cq,nd,nq,m1,m4,ql,bs,bg,bq⟩:=H;unfold PR.aS at hF;exact⟨c.aD k (hF _ (by simp)),cs.aD k (hF _ (by simp)),cg.aD k (hF _ (by simp)),cq.aD k (fun b hb=>hF b (List.mem_append_right _ hb)),nd,nq,m1,m4,ql,bs,bg,bq⟩
theorem aJ (H:cV s r R) (k:aC [] s s'):cV s' r R:=H.aD k fun _ _=>by simp
theorem l0 (H:cV s r R):aG s.look ⟨r,0,none⟩=some (int R.m):=H.c.load rfl
theorem l1 (H:cV s r R):aG s.look ⟨r,1,none⟩=some (.slice (some ⟨R.ns,0,none⟩) (16*R.m) (16*R.m)):=H.c.load rfl
theorem l2 (H:cV s r R):aG s.look ⟨r,2,none⟩=some (.slice (some ⟨R.ng,0,none⟩) 16 16):=H.c.load rfl
theorem l3 (H:cV s r R):aG s.look ⟨r,3,none⟩=some (.slice R.va R.vn R.vc):=H.c.load rfl
theorem lq (H:cV s r R):R.vn=R.q.length:=by
 have:=H.cq.sl.len;rw[List.length_map] at this;omega
end cV
def PR.has (R:PR) (p:eJ):Bool:=if p.k=0∧0≤p.m∧p.m<R.m then decide (0≤p.i∧p.i<16) else if p.k=1∧p.m=0 then decide (0≤p.i∧p.i<16) else if p.k=2∧p.m=0 then decide (0≤p.i∧p.i<R.q.length) else false
def PR.addr (R:PR) (p:eJ):Addr:=if p.k=0 then⟨R.ns,(p.m*16+p.i).toNat,none⟩ else if p.k=1 then⟨R.ng,p.i.toNat,none⟩ else match R.va with
 | some a=>a.add p.i.toNat
 | none=>⟨0,0,none⟩
def PR.get (R:PR) (p:eJ):Int:=if p.k=0 then R.sl (p.m*16+p.i).toNat else if p.k=1 then R.gl p.i.toNat else R.q.getD p.i.toNat 0
section
variable {kc:Kc} {q:Bool} {s:St} {Φ:Value→St→Prop} {r:Nat} {R:PR}
theorem tw:type_of% (B5 @RX @Kg @Ka @DO @bG):=B5 @RX @Kg @Ka @DO @bG
theorem IT (H:cV s r R) (hΦ:Φ (.bool true) s):okF q X (KO kc) 159 [ptr r] s Φ:=by
 have hm:=H.m1;have hp:((R.m:Nat):Int)>0:=by omega
 refine aW Tryz.func159 (by kernel_rfl) rfl rfl (rs:=[.tmp 2]) rfl (N:=12) rfl rfl ?_;refine aA fun bF aF bD=>?_;simp only[tw,seval];refine aF _ _ ?_;refine aA fun Ψ1 aE aL=>?_;refine cL [(2,5)] (by kernel_rfl) fun O hO bC hR=>?_;have y2:∀ a,aO O a 2=aY (a.aB 5):=hO (2,5) (by simp);simp only[tw,seval,y2,H.l0,hp,decide_true];refine hR _ _ (aE _ _ ?_);simp only[tw,seval];exact hΦ
theorem NK:type_of% (B3 @RX @DO @bG):=B3 @RX @DO @bG
theorem ah (H:cV s r R) (hΦ:Φ (int R.m) s):okF q X (KO kc) 67 [ptr r] s Φ:=by
 refine aW Tryz.func67 (by kernel_rfl) rfl rfl (rs:=[.tmp 2]) rfl (N:=10) rfl rfl ?_;refine aA fun bF aF bD=>?_;simp only[NK,seval];refine aF _ _ ?_;refine aA fun Ψ1 aE aL=>?_;refine aA fun Ψ2 aI bH=>?_;simp only[NK,seval];refine aH ?_ (IT H ?_)
 ·simp only[NK,seval]
 try simp only[NK,seval]
 refine aI _ _ ?_;simp only[NK,seval];refine aE _ _ ?_;simp only[NK,seval,H.l0];exact hΦ
theorem BF:type_of% (B5 @RX @vL @bG @dV @dQ):=B5 @RX @vL @bG @dV @dQ
theorem sq (x:Nat) (p:eJ) {a:Option Addr} {n c:Nat} (hx:aG s.look ⟨x,2,none⟩=some (int p.i)) (ha:∀ i,0≤i∧i<(n:Int)→∃ b off,a=some ⟨b,off,none⟩)
  (hΦ:Φ (.pointer (if 0≤p.i∧p.i<n then a.map (fun a=>a.add p.i.toNat) else none)) s):okF q X (KO kc) 254 [.slice a n c,ptr x] s Φ:=by
 refine aW Tryz.func254 (by kernel_rfl) rfl rfl (rs:=[.tmp 3]) rfl (N:=18) rfl rfl ?_;refine aA fun bF aF bD=>?_;simp only[BF,seval];refine aF _ _ ?_;refine aA fun Ψ1 aE aL=>?_;refine aA fun Ψ2 aI bH=>?_;refine cL [(3,7)] (by kernel_rfl) fun O hO bC hR=>?_;have y3:∀ a,aO O a 3=aY (a.aB 7):=hO (3,7) (by simp);by_cases h0:p.i<0
 ·rw[if_neg (by omega)] at hΦ;simp only[BF,seval,y3,hx,h0,decide_true,Nat.zero_add];refine hR _ _ (aI _ _ ?_);simp only[BF,seval];refine aL _ _ _ (by simp) ?_;simp only[BF,seval];exact hΦ
 ·by_cases h1:p.i≥(n:Int)
  ·rw[if_neg (by omega)] at hΦ;simp only[BF,seval,y3,hx,h0,h1,decide_true,decide_false,Nat.zero_add];refine hR _ _ (aI _ _ ?_);simp only[BF,seval];refine aL _ _ _ (by simp) ?_;simp only[BF,seval];exact hΦ
  ·have g1:0≤p.i:=by omega
   have g2:p.i<(n:Int):=by omega
   obtain⟨b,off,rfl⟩:=ha _ ⟨g1,g2⟩;rw[if_pos ⟨g1,g2⟩] at hΦ;simp only[BF,seval,y3,hx,h0,h1,decide_false,Nat.zero_add];refine hR _ _ (aI _ _ ?_);simp only[BF,seval];refine aE _ _ ?_;simp only[BF,seval,hx,g1,g2,and_self,Nat.mul_one,Nat.zero_add];exact hΦ
theorem jB:type_of% (B9 @RX @rJ @bG @zN @DO @KK @dF @KL @zQ):=B9 @RX @rJ @bG @zN @DO @KK @dF @KL @zQ
theorem aF8 (hs:Ok s) (H:cV s r R) (p:eJ) (hΦ:∀ s',aC [] s s'→Φ (.pointer (if R.has p=true then some (R.addr p) else none)) s'):okF q X (KO kc) 223 [ptr r,wG p] s Φ:=by
 have Fa:=H.m4;refine aW Tryz.func223 (by kernel_rfl) rfl rfl (rs:=[.tmp 4]) rfl (N:=69) rfl rfl ?_;refine aA fun bF aF bD=>?_;simp only[jB,seval];obtain⟨s1,e1,k1,c1,n1⟩:=cI hs (L:=[int p.k,int p.m,int p.i]) (n:=3) (e:=118) rfl;rw[e1];refine aF _ _ ?_;have H1:=H.aJ k1;have l0:aG s1.look ⟨s.next,0,none⟩=some (int p.k):=c1.load rfl;have l1:aG s1.look ⟨s.next,1,none⟩=some (int p.m):=c1.load rfl;have l2:aG s1.look ⟨s.next,2,none⟩=some (int p.i):=c1.load rfl;refine aA fun Ψ1 aE aL=>?_;simp only[jB,seval];refine aE _ _ ?_;refine aA fun Ψ2 aI bH=>?_;refine cJ fun Ψ3 aN pF bM=>?_;refine aA fun Ψ4 aP cC=>?_;refine dG [] [] [(3,11),(8,16)] (by kernel_rfl) (by kernel_rfl) (by rfl) fun O hO bC hR=>?_;have y3:∀ a,aO O a 3=aY (a.aB 11):=hO (3,11) (by simp);have y8:∀ a,aO O a 8=aY (a.aB 16):=hO (8,16) (by simp);by_cases hin:p.k=0∧0≤p.m∧p.m<(R.m:Int)
 ·obtain⟨h0,h1,h2⟩:=hin;have h1:p.m≥0:=h1;have e0:(p.k==0)=true:=by simpa using h0
  simp only[jB,seval,l0,l1,H1.l0,y3,y8,e0,h1,h2,decide_true,Nat.zero_add];refine hR _ _ (aP _ _ ?_);simp only[dA,RV,RG,seval];have ks:aC [] s (s1.skip 36):=k1.kI _;have Hs:=H.aJ ks;have AI:aG (s1.skip 36).look ⟨s.next,1,none⟩=some (int p.m):=l1;have EI:aG ((s1.skip 36).skip 30).look ⟨s.next,2,none⟩=some (int p.i):=l2;rw[MD] at AI;obtain⟨m,hm⟩:∃ m:Nat,p.m=m:=⟨p.m.toNat,by omega⟩;have w1:IntKind.i64.wrap (p.m*16)=((m*16:Nat):Int):=by rw[aU (by omega) (by omega)];omega
  have w2:IntKind.i64.wrap (p.m+1)=p.m+1:=aU (by omega) (by omega);have w3:IntKind.i64.wrap ((p.m+1)*16)=((m*16+16:Nat):Int):=by rw[aU (by omega) (by omega)];omega
  have e3:=tk (X:=X) (H:=s1.look) (t:=62) (e:=3) (N:=1) (b:=R.ns) (off:=0) (n:=16*R.m) (c:=16*R.m) (l:=m*16) (h:=m*16+16) (by kernel_rfl) (by kernel_rfl) H1.cs.isCells (by omega) (by omega) (by omega);have hl1:aG s1.look ⟨r,1,none⟩=some (.slice (some ⟨R.ns,0,none⟩) (16*R.m) (16*R.m)):=H1.l1;refine aA fun cU aZ cK=>?_;refine dG [] [] [] (by kernel_rfl) (by kernel_rfl) (by rfl) fun O hO bC hR=>?_;simp only[jB,seval,l1,hl1,w1,w2,w3,e3,Nat.zero_add];refine aCk (fi:=#[]) (ca:=#[ptr s.next]) ?_ ?_ (sq s.next p (a:=some ⟨R.ns,m*16,none⟩) (n:=16) (c:=16*R.m-m*16) EI (fun i hi=>⟨_,_,rfl⟩) ?_)
  ·simp only[jB,seval]
  ·simp only[jB,seval,Nat.mul_one,Nat.add_sub_cancel_left]
  simp only[jB,seval];refine hR _ _ (aZ _ _ ?_);simp only[jB,seval];refine bM _ _ _ (by simp) (by simp) (bH _ _ _ (by simp) ?_);simp only[jB,seval];have:=hΦ _ (ks.kI 30);have hh:R.has p=decide (0≤p.i∧p.i<16):=by unfold PR.has;rw[if_pos ⟨h0,h1,h2⟩]
  have ha:R.addr p=⟨R.ns,(p.m*16+p.i).toNat,none⟩:=by unfold PR.addr;rw[if_pos h0]
  rw[hh,ha] at this;by_cases hi:0≤p.i∧p.i<16
  ·rw[decide_eq_true hi,if_pos rfl] at this;rw[if_pos (by omega)];simp only[bQ];rw[show (p.m*16+p.i).toNat=m*16+p.i.toNat by omega] at this;exact this
  ·rw[decide_eq_false hi,if_neg (by simp)] at this;rw[if_neg (by omega)];exact this
 ·rcases(show p.k≠0∨(p.k=0∧¬ p.m≥0)∨(p.k=0∧p.m≥0∧¬ p.m<(R.m:Int)) by omega) with h0 | ⟨h0,h1⟩ | ⟨h0,h1,h2⟩;have e0:(p.k==0)=false:=by simpa using h0
  simp only[jB,seval,l0,y3,y8,e0];rotate_left;have e0:(p.k==0)=true:=by simpa using h0
  simp only[jB,seval,l0,l1,y3,y8,e0,h1,decide_false];rotate_left;have e0:(p.k==0)=true:=by simpa using h0
  simp only[jB,seval,l0,l1,H1.l0,y3,y8,e0,h1,h2,decide_true,decide_false,Nat.zero_add];rotate_left
  all_goals
   refine hR _ _ (aP _ _ ?_);simp only[dA,RV,RG,seval];have ks:aC [] s (s1.skip 36):=k1.kI _;have hh:R.has p=(if p.k=1∧p.m=0 then decide (0≤p.i∧p.i<16) else if p.k=2∧p.m=0 then decide (0≤p.i∧p.i<R.q.length) else false):=by unfold PR.has;rw[if_neg hin]
   have AI:aG (s1.skip 36).look ⟨s.next,0,none⟩=some (int p.k):=l0;have l1':aG (s1.skip 36).look ⟨s.next,1,none⟩=some (int p.m):=l1;have EI:aG (s1.skip 36).look ⟨s.next,2,none⟩=some (int p.i):=l2;have Hs:=H.aJ ks;generalize s1.skip 36=t at *;have H0:=H;clear e1 k1 c1 n1 l0 l1 l2 H1 H hR hO;refine aA fun cU aZ cK=>?_;refine cL [(3,43)] (by kernel_rfl) fun O hO bC hR=>?_;have y3:∀ a,aO O a 3=aY (a.aB 43):=hO (3,43) (by simp);by_cases k1:p.k=1∧p.m=0
   ·have f1:(p.k==1)=true:=by simpa using k1.1
    have f2:(p.m==0)=true:=by simpa using k1.2
    rw[if_pos k1] at hh;have ha:R.addr p=⟨R.ng,p.i.toNat,none⟩:=by unfold PR.addr;rw[if_neg (by omega),if_pos k1.1]
    simp only[jB,seval,AI,l1',f1,f2,y3];refine hR _ _ (aZ _ _ ?_);simp only[dA,RV,RG,seval];refine aA fun dN bO cZ=>?_;simp only[jB,seval,Hs.l2];refine MM (fi:=#[]) (ca:=#[ptr s.next]) ?_ ?_ (sq s.next p (a:=some ⟨R.ng,0,none⟩) (n:=16) (c:=16) EI (fun i hi=>⟨_,_,rfl⟩) ?_)
    ·simp only[jB,seval]
    ·simp only[jB,seval]
    try simp only[jB,seval]
    refine bO _ _ ?_;simp only[jB,seval];refine bM _ _ _ (by simp) (by simp) (bH _ _ _ (by simp) ?_);simp only[jB,seval];have:=hΦ _ ks;rw[hh,ha] at this;by_cases hi:0≤p.i∧p.i<16
    ·rw[decide_eq_true hi,if_pos rfl] at this;rw[if_pos (by omega)];simp only[bQ,Nat.zero_add];exact this
    ·rw[decide_eq_false hi,if_neg (by simp)] at this;rw[if_neg (by omega)];exact this
   ·rw[if_neg k1] at hh;rcases(show p.k≠1∨(p.k=1∧p.m≠0) by omega) with g0 | ⟨g0,g1⟩;have f1:(p.k==1)=false:=by simpa using g0
    simp only[jB,seval,AI,f1,y3];rotate_left;have f1:(p.k==1)=true:=by simpa using g0
    have f2:(p.m==0)=false:=by simpa using g1
    simp only[jB,seval,AI,l1',f1,f2,y3]
    all_goals
     refine hR _ _ (aZ _ _ ?_);simp only[dA,RV,RG,seval];refine aA fun fE cG dX=>?_;refine cL [(3,58)] (by kernel_rfl) fun O hO bC hR=>?_;have y3:∀ a,aO O a 3=aY (a.aB 58):=hO (3,58) (by simp);by_cases k2:p.k=2∧p.m=0
     ·have f1:(p.k==2)=true:=by simpa using k2.1
      have f2:(p.m==0)=true:=by simpa using k2.2
      rw[if_pos k2] at hh;simp only[jB,seval,AI,l1',f1,f2,y3];refine hR _ _ (cG _ _ ?_);simp only[dA,RV,RG,seval];refine aA fun gV cT gA=>?_;simp only[jB,seval,Hs.l3];refine MM (fi:=#[]) (ca:=#[ptr s.next]) ?_ ?_ (sq s.next p (a:=R.va) (n:=R.vn) (c:=R.vc) EI (fun i hi=>Hs.cq.sl.addr (by omega)) ?_)
      ·simp only[jB,seval]
      ·simp only[jB,seval]
      try simp only[jB,seval]
      refine cT _ _ ?_;simp only[jB,seval];refine bM _ _ _ (by simp) (by simp) (bH _ _ _ (by simp) ?_);simp only[jB,seval];have:=hΦ _ ks;rw[hh] at this;have hq:=H0.lq;by_cases hi:0≤p.i∧p.i<R.q.length
      ·rw[decide_eq_true hi,if_pos rfl] at this;rw[if_pos (by omega)];obtain⟨b,off,e⟩:=Hs.cq.sl.addr (show 0<R.vn by omega);unfold PR.addr at this;rw[if_neg (by omega),if_neg (by omega),e] at this;rw[e];exact this
      ·rw[decide_eq_false hi,if_neg (by simp)] at this;rw[if_neg (by omega)];exact this
     ·rw[if_neg k2] at hh;rcases(show p.k≠2∨(p.k=2∧p.m≠0) by omega) with g0 | ⟨g0,g1⟩;have f1:(p.k==2)=false:=by simpa using g0
      simp only[jB,seval,AI,f1,y3];rotate_left;have f1:(p.k==2)=true:=by simpa using g0
      have f2:(p.m==0)=false:=by simpa using g1
      simp only[jB,seval,AI,l1',f1,f2,y3]
      all_goals
       refine hR _ _ (cG _ _ ?_);simp only[jB,seval];refine aN _ _ ?_;refine aI _ _ ?_;simp only[jB,seval];have:=hΦ _ ks;rw[hh,if_neg (by simp)] at this;exact this
end
open Go.Proofs
set_option maxRecDepth 100000
set_option maxHeartbeats 1000000
theorem bJ.fK {s:St} {e:TypeId} {b off n c i:Nat} {L:List Value} {v:Value} (h:bJ s e 1 (.slice (some ⟨b,off,none⟩) n c) L) (hs:Ok s) (hi:i<L.length) (h1:hZ v=true) :
  ∃ s',dS s ⟨b,off+i,none⟩ [v]=some s'∧bJ s' e 1 (.slice (some ⟨b,off,none⟩) n c) (L.set i v)∧aC [b] s s':=by
 cases h with
 | @own b off n c L0 L h hc hn hL hl =>
  obtain⟨s',h2,h3,h4⟩:=h.fK hs (i:=off+i) (v:=v) (by omega) h1;refine⟨s',h2,.own h3 (by rw[List.length_set];exact hc) hn (by rw[List.length_set];exact hL) (fun j hj=>?_),h4⟩;rw[List.length_set] at hj;rw[List.getElem?_set,List.getElem?_set,hl j hj];by_cases hij:i=j
  ·subst hij;rw[if_pos rfl,if_pos rfl,if_pos (show off+i<L0.length by omega),if_pos hj]
  ·rw[if_neg hij,if_neg (by omega)]
def PR.set (R:PR) (p:eJ) (v:Int):PR:=if p.k=0 then {R with sl:=dM R.sl (p.m*16+p.i).toNat v} else if p.k=1 then {R with gl:=dM R.gl p.i.toNat v} else {R with q:=R.q.set p.i.toNat v}
section
variable {kc:Kc} {q:Bool} {s:St} {Φ:Value→St→Prop} {r:Nat} {R:PR}
theorem cV.set (hs:Ok s) (H:cV s r R) {p:eJ} {v:Int} (hp:R.has p=true) (hv:i64 v):∃ s',dS s (R.addr p) [int v]=some s'∧cV s' r (R.set p v)∧aC (R.aS r) s s':=by
 obtain⟨n1,n2,n3⟩:=H.nd;have WR:=H.nq;unfold PR.has at hp;unfold PR.addr PR.set;by_cases hk:p.k=0
 ·rw[if_pos hk,if_pos hk];have hin:p.k=0∧0≤p.m∧p.m<(R.m:Int):=by
   refine Classical.byContradiction fun hn=>?_;rw[if_neg hn,if_neg (by omega),if_neg (by omega)] at hp;cases hp
  rw[if_pos hin] at hp;have hi:=of_decide_eq_true hp;obtain⟨e,hc⟩:=H.cs;obtain⟨s',h2,h3,h4⟩:=hc.fK hs (i:=(p.m*16+p.i).toNat) (v:=int v) (by rw[fY];omega) rfl;rw[MW (by omega)] at h3;refine⟨s',h2,?_,h4.mono fun x hx=>?_⟩
  ·refine⟨H.c.aD h4 (by simpa using n1),⟨e,?_⟩,H.cg.aD h4 (by simpa using Ne.symm n3),H.cq.aD h4 (fun b hb=>by simpa using (WR b hb).2.1),H.nd,H.nq,H.m1,H.m4,H.ql,fun i=>?_,H.bg,H.bq⟩
   ·rw[show (fun i=>int (dM R.sl (p.m*16+p.i).toNat v i))=fun j=>if j=(p.m*16+p.i).toNat then int v else int (R.sl j) from funext fun j=>by unfold dM;split <;> rfl]
    exact h3
   ·show i64 (dM _ _ _ _);unfold dM;split
    ·exact hv
    ·exact H.bs i
  ·unfold PR.aS;simp at hx;subst hx;simp
 ·rw[if_neg hk,if_neg hk];rw[if_neg (fun h=>hk h.1)] at hp;by_cases hk1:p.k=1
  ·rw[if_pos hk1,if_pos hk1];have hin:p.k=1∧p.m=0:=by
    refine Classical.byContradiction fun hn=>?_;rw[if_neg hn,if_neg (by omega)] at hp;cases hp
   rw[if_pos hin] at hp;have hi:=of_decide_eq_true hp;obtain⟨e,hc⟩:=H.cg;obtain⟨s',h2,h3,h4⟩:=hc.fK hs (i:=p.i.toNat) (v:=int v) (by rw[fY];omega) rfl;rw[MW (by omega)] at h3;refine⟨s',h2,?_,h4.mono fun x hx=>?_⟩
   ·refine⟨H.c.aD h4 (by simpa using n2),H.cs.aD h4 (by simpa using n3),⟨e,?_⟩,H.cq.aD h4 (fun b hb=>by simpa using (WR b hb).2.2),H.nd,H.nq,H.m1,H.m4,H.ql,H.bs,fun i=>?_,H.bq⟩
    ·rw[show (fun i=>int (dM R.gl p.i.toNat v i))=fun j=>if j=p.i.toNat then int v else int (R.gl j) from funext fun j=>by unfold dM;split <;> rfl]
     exact h3
    ·show i64 (dM _ _ _ _);unfold dM;split
     ·exact hv
     ·exact H.bg i
   ·unfold PR.aS;simp at hx;subst hx;simp
  ·rw[if_neg hk1,if_neg hk1];have hin:p.k=2∧p.m=0:=by
    refine Classical.byContradiction fun hn=>?_;rw[if_neg (by omega),if_neg hn] at hp;cases hp
   rw[if_neg (by omega),if_pos hin] at hp;have hi:=of_decide_eq_true hp;have hq:=H.lq;obtain⟨b,off,e⟩:=H.cq.sl.addr (show 0<R.vn by omega);have hb:=H.cq;rw[e] at hb WR;obtain⟨s',h2,h3,h4⟩:=hb.fK hs (i:=p.i.toNat) (v:=int v) (by rw[List.length_map];omega) rfl;have hx:=WR b (by simp[nameOf]);refine⟨s',by rw[e];simp only[bQ];exact h2,?_,h4.mono fun x hx=>?_⟩
   ·refine⟨H.c.aD h4 (by simpa using Ne.symm hx.1),H.cs.aD h4 (by simpa using Ne.symm hx.2.1),H.cg.aD h4 (by simpa using Ne.symm hx.2.2),?_,H.nd,H.nq,H.m1,H.m4,by show (R.q.set _ _).length≤64;rw[List.length_set];exact H.ql,H.bs,H.bg,fun x hx=>?_⟩
    ·show bJ s' _ _ (.slice R.va R.vn R.vc) ((R.q.set _ _).map int);rw[List.map_set,e];exact h3
    ·rcases List.mem_or_eq_of_mem_set hx with h | h
     ·exact H.bq x h
     ·subst h;exact hv
   ·unfold PR.aS;rw[e];simp at hx;subst hx;simp[nameOf]
theorem cV.get (H:cV s r R) {p:eJ} (hp:R.has p=true):aG s.look (R.addr p)=some (int (R.get p)):=by
 unfold PR.has at hp;unfold PR.addr PR.get;by_cases hk:p.k=0
 ·rw[if_pos hk,if_pos hk];have hin:p.k=0∧0≤p.m∧p.m<(R.m:Int):=by
   refine Classical.byContradiction fun hn=>?_;rw[if_neg hn,if_neg (by omega),if_neg (by omega)] at hp;cases hp
  rw[if_pos hin] at hp;have hi:=of_decide_eq_true hp;exact H.cs.load (lW _ (by omega))
 ·rw[if_neg hk,if_neg hk];rw[if_neg (fun h=>hk h.1)] at hp;by_cases hk1:p.k=1
  ·rw[if_pos hk1,if_pos hk1];have hin:p.k=1∧p.m=0:=by
    refine Classical.byContradiction fun hn=>?_;rw[if_neg hn,if_neg (by omega)] at hp;cases hp
   rw[if_pos hin] at hp;have hi:=of_decide_eq_true hp;exact H.cg.load (lW _ (by omega))
  ·rw[if_neg hk1,if_neg hk1];have hin:p.k=2∧p.m=0:=by
    refine Classical.byContradiction fun hn=>?_;rw[if_neg (by omega),if_neg hn] at hp;cases hp
   rw[if_neg (by omega),if_pos hin] at hp;have hi:=of_decide_eq_true hp;have hq:=H.lq;obtain⟨b,off,e⟩:=H.cq.sl.addr (show 0<R.vn by omega);have hb:=H.cq.sl;rw[e] at hb ⊢;simp only[bQ];refine hb.load (i:=p.i.toNat) ?_;rw[List.getElem?_map,List.getD_eq_getElem?_getD,List.getElem?_eq_getElem (show p.i.toNat<R.q.length by omega)]
   try rfl
theorem uB:type_of% (B4 @RX @kL @Ar @Ap):=B4 @RX @kL @Ar @Ap
theorem Nt (hs:Ok s) (H:cV s r R) (p:eJ) (hΦ:∀ s',aC [] s s'→Φ (.tuple #[.pointer (if R.has p=true then some (R.addr p) else none),int (if R.has p=true then 0 else 1)]) s'):okF q X (KO kc) 161 [ptr r,wG p] s Φ:=by
 refine aW Tryz.func161 (by kernel_rfl) rfl rfl (rs:=[.tmp 4,.tmp 5]) rfl (N:=16) rfl rfl ?_;refine aA fun bF aF bD=>?_;simp only[uB,seval];obtain⟨s1,e1,k1,c1,n1⟩:=cI hs (L:=[int p.k,int p.m,int p.i]) (n:=3) (e:=118) rfl;rw[e1];refine aF _ _ ?_;have H1:=H.aJ k1;have lp:bI s1.look ⟨s.next,0,none⟩ 3=some [int p.k,int p.m,int p.i]:=c1.bI (i:=0) (k:=3) (Nat.le_refl _);refine aA fun Ψ1 aE aL=>?_;refine aA fun Ψ2 aI bH=>?_;simp only[uB,seval];refine aH ?_ (IT H1 ?_)
 ·simp only[uB,seval]
 try simp only[uB,seval]
 refine aI _ _ ?_;simp only[uB,seval];refine aE _ _ ?_;refine aA fun Ψ3 aN bM=>?_;simp only[uB,seval,lp];refine aH ?_ (aF8 k1.ok H1 p fun s2 k2=>?_)
 ·simp only[uB,seval]
 have:=hΦ _ (k1.trans k2)
 try simp only[uB,seval]
 refine aN _ _ ?_;refine aA fun Ψ4 aP cC=>?_;refine aA fun cU aZ cK=>?_;cases hh:R.has p with
 | false =>
  rw[hh] at this;simp only[uB,seval];refine aZ _ _ ?_;simp only[uB,seval];refine cC _ _ _ (by simp) ?_;simp only[uB,seval];exact this
 | true =>
  rw[hh] at this;simp only[uB,seval];refine aZ _ _ ?_;simp only[uB,seval];refine aP _ _ ?_;simp only[uB,seval];exact this
theorem yJ:type_of% (B3 @RX @kL @bG):=B3 @RX @kL @bG
theorem ZZ (hs:Ok s) (H:cV s r R) (p:eJ) (hΦ:∀ s',aC [] s s'→Φ (.tuple #[int (if R.has p=true then R.get p else 0),int (if R.has p=true then 0 else 1)]) s'):okF q X (KO kc) 69 [ptr r,wG p] s Φ:=by
 refine aW Tryz.func69 (by kernel_rfl) rfl rfl (rs:=[.tmp 4,.tmp 5]) rfl (N:=20) rfl rfl ?_;refine aA fun bF aF bD=>?_;simp only[yJ,seval];obtain⟨s1,e1,k1,c1,n1⟩:=cI hs (L:=[int p.k,int p.m,int p.i]) (n:=3) (e:=118) rfl;rw[e1];refine aF _ _ ?_;have H1:=H.aJ k1;have lp:bI s1.look ⟨s.next,0,none⟩ 3=some [int p.k,int p.m,int p.i]:=c1.bI (i:=0) (k:=3) (Nat.le_refl _);refine aA fun Ψ1 aE aL=>?_;simp only[yJ,seval,lp];refine aH ?_ (Nt k1.ok H1 p fun s2 k2=>?_)
 ·simp only[yJ,seval]
 have:=hΦ _ (k1.trans k2);have H2:=H1.aJ k2;cases hh:R.has p with
 | false =>
  rw[hh] at this
  try simp only[yJ,seval]
  refine aE _ _ ?_;refine aA fun Ψ4 aP cC=>?_;refine aA fun cU aZ cK=>?_;simp only[yJ,seval];refine aZ _ _ ?_;simp only[yJ,seval];refine cC _ _ _ (by simp) ?_;simp only[yJ,seval];exact this
 | true =>
  rw[hh] at this;have l:=H2.get hh
  try simp only[yJ,seval]
  refine aE _ _ ?_;refine aA fun Ψ4 aP cC=>?_;refine aA fun cU aZ cK=>?_;simp only[yJ,seval];refine aZ _ _ ?_;simp only[yJ,seval];refine aP _ _ ?_;simp only[yJ,seval,l];exact this
end
open Go.Proofs
set_option maxRecDepth 100000
set_option maxHeartbeats 1000000
theorem TZ {X:Env} {H:bL} {t e n c:Nat} {a:Option Addr} (hd:((X.ty t).map fun i=>i.desc)=some (.slice e)):binop X H .eql t (.slice a n c) (.slice none 0 0)=some (.bool a.isNone):=by
 cases hi:X.ty t with
 | none=>rw[hi] at hd;cases hd
 | some i =>
  rw[hi] at hd;have hd':i.desc=.slice e:=by simpa using hd
  cases a <;> simp[binop,jF,hi,hd']
theorem Sl.first {s:St} {N n c:Nat} {a:Option Addr} {L:List Value} (h:Sl s N (.slice a n c) L):kP s.look N n (.slice a n c)=some L:=by
 cases h with
 | nil=>cases a <;> simp[kP]
 | @cells b off n c L hL hl =>
  simp only[kP];by_cases hz:n*N=0
  ·rw[if_pos hz,List.length_eq_zero_iff.1 (show L.length=0 by omega)]
  ·rw[if_neg hz];have:=(Sl.cells hL hl:Sl s N (.slice (some ⟨b,off,none⟩) n c) L).bI (i:=0) (k:=n*N) (by omega) (by omega);rw[List.drop_zero,List.take_of_length_le (by omega)] at this;exact this
section
variable {kc:Kc} {q:Bool} {s:St} {Φ:Value→St→Prop} {r:Nat} {R:PR}
theorem mQ:type_of% (B5 @RX @kL @rJ @bG @lD):=B5 @RX @kL @rJ @bG @lD
theorem aF7 (hs:Ok s) (H:cV s r R) (p:eJ) (v:Int) (hv:i64 v) (hΦ:∀ s',cV s' r (if R.has p=true∧¬ (v<0∨(v=0∧p.k=2)) then R.set p v else R)→aC (R.aS r) s s'→Φ (int (if R.has p=true∧¬ (v<0∨(v=0∧p.k=2)) then 0 else 1)) s'):okF q X (KO kc) 84 [ptr r,wG p,int v] s Φ:=by
 refine aW Tryz.func84 (by kernel_rfl) rfl rfl (rs:=[.tmp 6]) rfl (N:=32) rfl rfl ?_;refine aA fun bF aF bD=>?_;simp only[mQ,seval];obtain⟨s1,e1,k1,c1,n1⟩:=cI hs (L:=[int p.k,int p.m,int p.i]) (n:=3) (e:=118) rfl;rw[e1];refine aF _ _ ?_;have H1:=H.aJ k1;have lp:bI s1.look ⟨s.next,0,none⟩ 3=some [int p.k,int p.m,int p.i]:=c1.bI (i:=0) (k:=3) (Nat.le_refl _);refine aA fun Ψ1 aE aL=>?_;simp only[mQ,seval,lp];refine aH ?_ (Nt k1.ok H1 p fun s2 k2=>?_)
 ·simp only[mQ,seval]
 have dD:=k1.trans k2;have H2:=H1.aJ k2;have c2:=c1.aD k2 (by simp);have l0:aG s2.look ⟨s.next,0,none⟩=some (int p.k):=c2.load rfl;cases hh:R.has p with
 | false =>
  rw[hh] at hΦ;have:=hΦ _ H2 dD.any
  try simp only[mQ,seval]
  refine aE _ _ ?_;refine aA fun Ψ4 aP cC=>?_;refine aA fun cU aZ cK=>?_;simp only[mQ,seval];refine aZ _ _ ?_;simp only[mQ,seval];refine cC _ _ _ (by simp) ?_;simp only[mQ,seval];exact this
 | true =>
  rw[hh] at hΦ
  try simp only[mQ,seval]
  refine aE _ _ ?_;refine aA fun Ψ4 aP cC=>?_;refine aA fun cU aZ cK=>?_;simp only[mQ,seval];refine aZ _ _ ?_;simp only[mQ,seval];refine aP _ _ ?_;refine aA fun dN bO cZ=>?_;refine aA fun fE cG dX=>?_;refine cL [(2,20),(5,23)] (by kernel_rfl) fun O hO bC hR=>?_;have y2:∀ a,aO O a 2=aY (a.aB 20):=hO (2,20) (by simp);have y5:∀ a,aO O a 5=aY (a.aB 23):=hO (5,23) (by simp);by_cases h0:v<0
  ·rw[if_neg (by simp[h0]),if_neg (by simp[h0])] at hΦ;simp only[mQ,seval,y2,y5,h0,decide_true];refine hR _ _ (cG _ _ ?_);simp only[mQ,seval];refine cZ _ _ _ (by simp) ?_;simp only[mQ,seval];exact hΦ _ H2 dD.any
  ·by_cases h1:v=0
   ·have e1:(v==0)=true:=by simpa using h1
    by_cases h2:p.k=2
    ·have e2:(p.k==2)=true:=by simpa using h2
     rw[if_neg (by simp[h1,h2]),if_neg (by simp[h1,h2])] at hΦ;simp only[mQ,seval,y2,y5,h0,decide_false,e1,l0,e2];refine hR _ _ (cG _ _ ?_);simp only[mQ,seval];refine cZ _ _ _ (by simp) ?_;simp only[mQ,seval];exact hΦ _ H2 dD.any
    ·have e2:(p.k==2)=false:=by simpa using h2
     have hn:R.has p=true∧¬ (v<0∨(v=0∧p.k=2)):=⟨hh,by omega⟩;rw[hh] at hn;rw[if_pos hn,if_pos hn] at hΦ;obtain⟨s3,h3,H3,k3⟩:=H2.set k2.ok hh hv;simp only[mQ,seval,y2,y5,h0,decide_false,e1,l0,e2];refine hR _ _ (cG _ _ ?_);simp only[mQ,seval];refine bO _ _ ?_;refine aA fun gV cT gA=>?_;simp only[mQ,seval,h3];refine cT _ _ ?_;simp only[mQ,seval];exact hΦ _ H3 (dD.any.trans k3)
   ·have e1:(v==0)=false:=by simpa using h1
    have hn:R.has p=true∧¬ (v<0∨(v=0∧p.k=2)):=⟨hh,by omega⟩;rw[hh] at hn;rw[if_pos hn,if_pos hn] at hΦ;obtain⟨s3,h3,H3,k3⟩:=H2.set k2.ok hh hv;simp only[mQ,seval,y2,y5,h0,decide_false,e1];refine hR _ _ (cG _ _ ?_);simp only[mQ,seval];refine bO _ _ ?_;refine aA fun gV cT gA=>?_;simp only[mQ,seval,h3];refine cT _ _ ?_;simp only[mQ,seval];exact hΦ _ H3 (dD.any.trans k3)
theorem sC:type_of% (B2 @RX @tI):=B2 @RX @tI
theorem zs (hs:Ok s) {a:Option Addr} {n c:Nat} {L:List Value} (H:Sl s 1 (.slice a n c) L) (hn:n<1000000) (h1:L.all hZ=true) (hΦ:∀ a' c' s',(a=none→a'=none)→bJ s' 3 1 (.slice a' n c') L→aC [] s s'→(∀ b∈nameOf (.slice a' n c'),s.next≤b)→Φ (.slice a' n c') s'):okF q X (KO kc) 173 [.slice a n c] s Φ:=by
 refine aW Tryz.func173 (by kernel_rfl) rfl rfl (rs:=[.tmp 2]) rfl (N:=8) rfl rfl ?_;refine aA fun bF aF bD=>?_;simp only[sC,seval];refine aF _ _ ?_;refine aA fun Ψ1 aE aL=>?_;refine aA fun Ψ2 aI bH=>?_;have e1:binop X s.look .eql 62 (.slice a n c) (.slice none 0 0)=some (.bool a.isNone):=TZ (e:=3) (by kernel_rfl);cases a with
 | none =>
  simp only[sC,seval,e1,Option.isNone];refine aI _ _ ?_;simp only[sC,seval];refine aL _ _ _ (by simp) ?_;simp only[sC,seval];cases H;exact hΦ none 0 s (fun _=>rfl) .nil (.refl hs) (by simp[nameOf])
 | some a =>
  simp only[sC,seval,e1,Option.isNone];refine aI _ _ ?_;simp only[sC,seval];refine aE _ _ ?_;have k1:aC [] s (s.new fun v=>.cells (PT.ofList []) [] 0 3 false false v):=(aC.refl hs).new (.inr (Nat.le_refl _));have b1:bJ (s.new fun v=>.cells (PT.ofList []) [] 0 3 false false v) 3 1 (.slice (some ⟨s.next,0,none⟩) 0 0) []:=.own (Cells.tU (s:=s) (e:=3) (L:=[]) (room:=false)) (by simp) (Nat.le_refl _) rfl (by simp);have H1:=H.aD k1 (by simp);obtain⟨v,s4,h4,b4,k4,m4,a4,c4,rfl⟩:=iE (X:=X) (t:=62) (e:=3) (N:=1) (B:=8) (z:=.int .i64 0) (x:=.slice (some a) n c) (k:=n) (new:=L) (by kernel_rfl) (by kernel_rfl) rfl k1.ok (by omega) b1 rfl H1.first H1.len h1 (by omega) (by omega);simp only[sC,seval];refine iS ?_ h4 ?_
  ·simp only[sC,seval]
  simp only[sC,seval];rw[Nat.zero_add] at b4 m4 ⊢;refine hΦ a4 c4 s4 (fun h=>by cases h) b4 (k1.step k4 fun g hg=>.inr (hs.fresh _ (by simp[nameOf] at hg;omega))) fun b hb=>?_;rcases m4 b hb with h | h
  ·simp[nameOf] at h;omega
  ·have:=k1.next;omega
def PR.MQ (R:PR) (v:Int):Int:=if v≤0 then 1 else if R.q.length=64 then 6 else 0
def PR.AQ (R:PR) (v:Int):List Int:=if R.MQ v=0 then R.q++[v] else R.q
theorem cV.YU {s s':St} (H:cV s r R) {va:Option Addr} {vn vc:Nat} {Q:List Int} {F:List Nat} (k:aC F s s') (hc:Obj s' r [int R.m,.slice (some ⟨R.ns,0,none⟩) (16*R.m) (16*R.m),.slice (some ⟨R.ng,0,none⟩) 16 16,.slice va vn vc])
  (hq:bJ s' 3 1 (.slice va vn vc) (Q.map int)) (hF:∀ x∈[R.ns,R.ng],x∉F) (hn:∀ b∈nameOf (.slice va vn vc),b∈nameOf (.slice R.va R.vn R.vc)∨s.next≤b) (hl:Q.length≤64) (hi:∀ x∈Q,i64 x) (hs:Ok s):cV s' r {R with va:=va,vn:=vn,vc:=vc,q:=Q}:=by
 obtain⟨c,cs,cg,cq,nd,nq,m1,m4,ql,bs,bg,bq⟩:=H;refine⟨hc,cs.aD k (hF _ (by simp)),cg.aD k (hF _ (by simp)),hq,nd,fun b hb=>?_,m1,m4,hl,bs,bg,hi⟩;rcases hn b hb with h | h
 ·exact nq b h
 ·have h1:=c.lt hs;have h2:=cs.lt hs;have h3:=cg.lt hs;exact⟨by omega,by show b≠R.ns;omega,by show b≠R.ng;omega⟩
theorem qX:type_of% (B6 @RX @zQ @dF @dV @mC @wK):=B6 @RX @zQ @dF @dV @mC @wK
theorem aF6 (hs:Ok s) (H:cV s r R) (v:Int) (hv:i64 v) (hΦ:∀ va vn vc s',cV s' r {R with va:=va,vn:=vn,vc:=vc,q:=R.AQ v}→aC (R.aS r) s s'→(∀ b∈nameOf (.slice va vn vc),b∈nameOf (.slice R.va R.vn R.vc)∨s.next≤b)→Φ (int (R.MQ v)) s'):okF q X (KO kc) 87 [ptr r,int v] s Φ:=by
 unfold PR.AQ PR.MQ at hΦ;have hq:=H.lq;have PS:=H.ql;refine aW Tryz.func87 (by kernel_rfl) rfl rfl (rs:=[.tmp 4]) rfl (N:=29) rfl rfl ?_;refine aA fun bF aF bD=>?_;simp only[qX,seval];refine aF _ _ ?_;refine aA fun Ψ1 aE aL=>?_;refine cJ fun Ψ2 aI xQ bH=>?_;refine aA fun Ψ3 aN bM=>?_;simp only[qX,seval];refine aH ?_ (IT H ?_)
 ·simp only[qX,seval]
 try simp only[qX,seval]
 refine aN _ _ ?_;simp only[dA,RV,RG,seval];refine aA fun Ψ4 aP cC=>?_;by_cases h0:v≤0
 ·rw[if_pos h0] at hΦ;simp only[qX,seval,h0,decide_true];refine aP _ _ ?_;simp only[qX,seval];refine bH _ _ _ (by simp) (by simp) (aL _ _ _ (by simp) ?_);simp only[qX,seval];exact hΦ R.va R.vn R.vc s H (.refl hs) (fun b hb=>.inl hb)
 ·rw[if_neg h0] at hΦ;simp only[qX,seval,h0,decide_false];refine aP _ _ ?_;simp only[dA,RV,RG,seval];refine aA fun cU aZ cK=>?_;by_cases h1:R.q.length=64
  ·have e1:(((R.vn:Nat):Int)==64)=true:=by rw[beq_iff_eq];omega
   rw[if_pos h1] at hΦ;simp only[qX,seval,H.l3,e1];refine aZ _ _ ?_;simp only[qX,seval];refine bH _ _ _ (by simp) (by simp) (aL _ _ _ (by simp) ?_);simp only[qX,seval];exact hΦ R.va R.vn R.vc s H (.refl hs) (fun b hb=>.inl hb)
  ·have e1:(((R.vn:Nat):Int)==64)=false:=by rw[beq_eq_false_iff_ne];omega
   rw[if_neg h1,if_pos rfl] at hΦ;simp only[qX,seval,H.l3,e1];refine aZ _ _ ?_;simp only[qX,seval];refine aI _ _ ?_;refine aE _ _ ?_;refine aA fun dN bO cZ=>?_;obtain⟨s1,e1,k1,c1,n1⟩:=cI hs (L:=[int v]) (n:=1) (e:=3) rfl;have H1:=H.aJ k1;obtain⟨w,s4,h4,b4,k4,m4,a4,c4,rfl⟩:=iE (X:=X) (t:=62) (e:=3) (N:=1) (B:=8) (z:=.int .i64 0) (x:=.slice (some ⟨s.next,0,none⟩) 1 1) (k:=1) (new:=[int v]) (by kernel_rfl) (by kernel_rfl) rfl k1.ok (by omega) H1.cq rfl (lQ (by omega) (c1.bI (i:=0) (k:=1) (Nat.le_refl _))) rfl rfl (by omega) (by omega);have hr:r∉nameOf (.slice R.va R.vn R.vc):=fun h=>(H.nq r h).1 rfl;obtain⟨s5,h5,c5,k5⟩:=(H1.c.aD k4 hr).store k4.ok (i:=3) (vs:=[.slice a4 (R.vn+1) c4]) (Nat.le_refl _) rfl;have kk:aC (r::nameOf (.slice R.va R.vn R.vc)) s s5:=(k1.any.trans (k4.mono fun x hx=>List.mem_cons_of_mem _ hx)).trans (k5.mono fun x hx=>by simp at hx;subst hx;simp);have LL:=H.c.lt hs;have aIc:=k1.next;have hN:=H.YU (va:=a4) (vn:=R.vn+1) (vc:=c4) (Q:=R.q++[v]) kk c5 (by
     rw[List.map_append];refine b4.aD k5 fun b hb hb'=>?_;simp at hb';subst hb';rcases m4 b hb with h | h
     ·exact hr h
     ·omega) (fun x hx hx'=>by
     rcases List.mem_cons.1 hx' with h | h
     ·simp at hx;rcases hx with h' | h'
      ·exact H.nd.1 (by rw[← h,h'])
      ·exact H.nd.2.1 (by rw[← h,h'])
     ·have:=H.nq x h;simp at hx;rcases hx with h' | h'
      ·exact this.2.1 h'
      ·exact this.2.2 h') (fun b hb=>(m4 b hb).imp id fun h=>by omega) (by rw[List.length_append];show _+1≤_;omega) (fun x hx=>by
     rcases List.mem_append.1 hx with h | h
     ·exact H.bq x h
     ·simp at h;subst h;exact hv) hs
   simp only[qX,seval,H.l3];rw[e1];refine iS ?_ h4 ?_
   ·simp only[qX,seval]
   simp only[qX,seval,h5];refine bO _ _ ?_;simp only[qX,seval];refine hΦ _ _ _ s5 hN (kk.mono fun x hx=>?_) (fun b hb=>(m4 b hb).imp id fun h=>by omega);unfold PR.aS;rcases List.mem_cons.1 hx with h | h
   ·subst h;simp
   ·exact List.mem_append_right _ h
end
open Go.Proofs
set_option maxRecDepth 100000
set_option maxHeartbeats 1000000
theorem DG (L:List Int):(L.map int).all hZ=true:=by
 induction L with
 | nil=>rfl
 | cons x L ih=>rw[List.map_cons,List.all_cons,ih];rfl
section
variable {kc:Kc} {q:Bool} {s:St} {Φ:Value→St→Prop} {r:Nat} {R:PR}
theorem FI:type_of% (B3 @RX @zQ @dF):=B3 @RX @zQ @dF
theorem Nq (hs:Ok s) (H:cV s r R) (hΦ:∀ va vc s',(R.va=none→va=none)→bJ s' 3 1 (.slice va R.vn vc) (R.q.map int)→aC [] s s'→(∀ b∈nameOf (.slice va R.vn vc),s.next≤b)→Φ (.slice va R.vn vc) s'):okF q X (KO kc) 85 [ptr r] s Φ:=by
 have hq:=H.lq;have PS:=H.ql;refine aW Tryz.func85 (by kernel_rfl) rfl rfl (rs:=[.tmp 2]) rfl (N:=11) rfl rfl ?_;refine aA fun bF aF bD=>?_;simp only[FI,seval];refine aF _ _ ?_;refine aA fun Ψ1 aE aL=>?_;refine aA fun Ψ2 aI bH=>?_;simp only[FI,seval];refine aH ?_ (IT H ?_)
 ·simp only[FI,seval]
 try simp only[FI,seval]
 refine aI _ _ ?_;simp only[FI,seval];refine aE _ _ ?_;simp only[FI,seval,H.l3];refine aH ?_ (zs hs H.cq.sl (by omega) (DG R.q) fun a4 c4 s4 h4 b4 k4 m4=>?_)
 ·simp only[FI,seval]
 simp only[FI,seval];exact hΦ a4 c4 s4 h4 b4 k4 m4
theorem SP:type_of% (B2 @RX @TS):=B2 @RX @TS
theorem Np (hs:Ok s) {m:Int} {m':Nat} (hm:m=m') (h1:1≤m') (h4:m'≤4) (hΦ:∀ r R s',cV s' r R→R.m=m'→(∀ i,R.sl i=0)→(∀ i,R.gl i=0)→R.q=[]→R.va=none→(∀ x∈R.aS r,s.next≤x)→aC [] s s'→Φ (.tuple #[ptr r,int 0]) s'):okF q X (KO kc) 51 [int m] s Φ:=by
 subst hm;refine aW Tryz.func51 (by kernel_rfl) rfl rfl (rs:=[.tmp 2,.tmp 3]) rfl (N:=17) rfl rfl ?_;refine aA fun bF aF bD=>?_;simp only[SP,seval];refine aF _ _ ?_;refine aA fun Ψ1 aE aL=>?_;refine aA fun Ψ2 aI bH=>?_;refine cL [(2,6)] (by kernel_rfl) fun O hO bC hR=>?_;have y2:∀ a,aO O a 2=aY (a.aB 6):=hO (2,6) (by simp);have g1:¬ (m':Int)<1:=by omega
 have g2:¬ (m':Int)>4:=by omega
 simp only[SP,seval,y2,g1,g2,decide_false];refine hR _ _ (aI _ _ ?_);simp only[SP,seval];refine aE _ _ ?_;refine aA fun Ψ3 aN bM=>?_;refine dG [] [] [] (by kernel_rfl) (by kernel_rfl) (by rfl) fun O hO bC hR=>?_;have w1:IntKind.i64.wrap ((m':Int)*16)=((16*m':Nat):Int):=by rw[aU (by omega) (by omega)];omega
 simp only[SP,seval,w1,EM (nm:=s.next+6) (n:=((16*m':Nat):Int)) (m:=((16*m':Nat):Int)) (by omega) (by omega) (by omega) (by omega),EM (nm:=s.next+8) (n:=(16:Int)) (m:=(16:Int)) (by omega) (by omega) (by omega) (by omega),Int.toNat_natCast,show Int.toNat 16=16 from rfl];refine hR _ _ (aN _ _ ?_);have fr:∀ x,s.next≤x→s.heap.get x=none:=hs.fresh;obtain⟨S1,h1',k1,c1,n1,f1⟩:∃ S1,(s.skip 18).put (s.next+6) (fun v=>bW.cells PT.nil [Value.int IntKind.i64 0] (16*m'*1) 3 false false v)=S1∧aC [] s S1∧Obj S1 (s.next+6) (row (16*m') fun _=>int 0)∧S1.next=s.next+18∧∀ x,s.next≤x→x≠s.next+6→S1.heap.get x=none :=
  ⟨_,rfl,(aC.skip hs 18).jT (fr _ (by omega)) (by show s.next+6<s.next+18;omega) (by omega) (Nat.le_refl _),Obj.uR rfl (by rw[fY];omega) (fun i hi=>by
   rw[lW _ (by omega),Nat.mod_one];rfl),rfl,fun x hx hne=>by rw[oK hne];exact fr x hx⟩
 rw[h1'];obtain⟨S2,h2',k2,c2,ew,n2,f2⟩:∃ S2,S1.put (s.next+8) (fun v=>bW.cells PT.nil [Value.int IntKind.i64 0] 16 3 false false v)=S2∧aC [] s S2∧Obj S2 (s.next+8) (row 16 fun _=>int 0)∧Obj S2 (s.next+6) (row (16*m') fun _=>int 0)∧S2.next=s.next+18∧∀ x,s.next≤x→x≠s.next+6→x≠s.next+8→S2.heap.get x=none :=
  ⟨_,rfl,k1.jT (f1 _ (by omega) (by omega)) (by omega) (by omega) (Nat.le_refl _),Obj.uR (n:=16) (m:=1) rfl (by rw[fY]) (fun i hi=>by
   rw[lW _ (by omega),Nat.mod_one];rfl),c1.fI (by omega),n1,fun x hx hne PL=>by rw[oK PL];exact f1 x hx hne⟩
 rw[h2'];obtain⟨S3,h3',k3,c3,ez,fe,n3⟩:∃ S3,S2.put (s.next+12) (fun v=>bW.cells (PT.ofList [Value.int IntKind.i64 m',Value.slice (some ⟨s.next+6,0,none⟩) (16*m') (16*m'),Value.slice (some ⟨s.next+8,0,none⟩) 16 16,Value.slice none 0 0]) [] 4 177 false false v)=S3∧aC [] s S3∧Obj S3 (s.next+12) [Value.int IntKind.i64 m',Value.slice (some ⟨s.next+6,0,none⟩) (16*m') (16*m'),Value.slice (some ⟨s.next+8,0,none⟩) 16 16,Value.slice none 0 0]∧Obj S3 (s.next+6) (row (16*m') fun _=>int 0)∧Obj S3 (s.next+8) (row 16 fun _=>int 0)∧S3.next=s.next+18 :=
  ⟨_,rfl,k2.jT (f2 _ (by omega) (by omega) (by omega)) (by omega) (by omega) (Nat.le_refl _),Obj.kC rfl,ew.fI (by omega),c2.fI (by omega),n2⟩
 rw[h3'];clear h1' h2' h3' f1 f2;simp only[SP,seval];refine hΦ (s.next+12) ⟨s.next+6,s.next+8,none,0,0,m',fun _=>0,fun _=>0,[]⟩ S3 ⟨c3,ez,fe,.nil,⟨by show s.next+12≠s.next+6;omega,by show s.next+12≠s.next+8;omega,by show s.next+6≠s.next+8;omega⟩,fun b hb=>by simp[nameOf] at hb,h1,h4,Nat.zero_le _,fun i=>⟨by simp,by simp⟩,fun i=>⟨by simp,by simp⟩,fun x hx=>by cases hx⟩ rfl (fun _=>rfl) (fun _=>rfl) rfl rfl ?_ k3;intro x hx;simp only[PR.aS,nameOf,List.append_nil,List.mem_cons,List.not_mem_nil,or_false] at hx;omega
end
end Go.Dust
