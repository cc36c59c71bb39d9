/- VerifyMarks walked in D, function by function, and its plain law (N5 H3 N6 H4). -/
import Derived.Test.YtaoiejcaopgjcaaGreatT
set_option linter.unusedVariables false
set_option linter.unusedSimpArgs false
namespace Go.Dust
open Go.Proofs
set_option maxRecDepth 100000
set_option maxHeartbeats 4000000
abbrev tA:=Int×Value×Value
namespace PH
variable (P:PH)
def MZ (a i:Int):Int:=if P.gA a i true=0 then P.w (P.kI a i true).toNat else 0
def pN (a:Int):Nat:=(P.aY a).d.toNat
def CK (a:Int):List Int:=(List.range (P.pN a)).map fun(i:Nat)=>P.MZ a i
def pinned (a:Int):Bool:=P.has a&&((P.Q (a/2).toNat:Int)==1)
def KW (x:tA):List Value:=[int x.1,int (P.w x.1.toNat),int (P.aY x.1).r,int (P.aY x.1).d,int (P.aY x.1).k,x.2.1,x.2.2,.bool (P.pinned x.1)]
theorem nr (x:tA):(P.KW x).length=8:=rfl
end PH
structure yA (s:St) (P:PH) (x:tA):Prop where
 r1:∃ a c,x.2.1=.slice a (P.cX x.1) c
 r2:Sl s 1 x.2.1 ((P.refs x.1).map int)
 d1:∃ a c,x.2.2=.slice a (P.pN x.1) c
 d2:Sl s 1 x.2.2 ((P.CK x.1).map int)
structure uK (s:St) (g:Nat) (P:PH) (L:List tA):Prop where
 c:∃ ba bc va vc,Obj s g [.slice ba P.N bc,.slice va L.length vc,.slice none 0 0,int P.born]∧Sl s 2 (.slice ba P.N bc) (row (2*P.N) fun i=>int (if i%2=0 then P.bs (i/2) else P.bp (i/2)))∧Sl s 8 (.slice va L.length vc) (L.flatMap P.KW)
 al:L.map Prod.fst=P.all
 cr:∀ x∈L,yA s P x
 n2:2≤P.N
 bW:P.N≤64
theorem yA.aL {s s':St} {P:PH} {x:tA} (h:yA s P x) (k:aC [] s s'):yA s' P x:=⟨h.r1,h.r2.aD k (by simp),h.d1,h.d2.aD k (by simp)⟩
namespace uK
variable {s s':St} {g:Nat} {P:PH} {L:List tA}
theorem aL (H:uK s g P L) (k:aC [] s s'):uK s' g P L:=by
 obtain⟨⟨ba,bc,va,vc,c1,c2,c3⟩,al,cr,n2,bW⟩:=H;exact⟨⟨ba,bc,va,vc,c1.aD k (by simp),c2.aD k (by simp),c3.aD k (by simp)⟩,al,fun x hx=>(cr x hx).aL k,n2,bW⟩
theorem len (H:uK s g P L):L.length≤2048:=by
 have h1:=congrArg List.length H.al;rw[List.length_map] at h1;have:=P.tB;have:=H.bW;omega
theorem mem (H:uK s g P L) {a:Int}:(∃ x∈L,x.1=a)↔P.has a=true:=by
 rw[← PH.qN,← H.al,List.mem_map]
end uK
section
variable {kc:Kc} {q:Bool} {s:St} {Φ:Value→St→Prop} {g h:Nat} {P:PH} {L:List tA}
theorem LR:type_of% (An @RX<|An @NB<|@aW):=An @RX<|An @NB<|@aW
theorem U1 (H:bS s h P) (hΦ:Φ (int P.born) s):okF q X (KO kc) 190 [ptr h] s Φ:=by
 refine aV rfl u7 rfl (rs:=[.tmp 2]) rfl (N:=10) rfl rfl ?_;refine aA fun bB aF aZ=>?_;simp only[LR,seval];refine aF _ _ ?_;refine aA fun Ψ1 aE aK=>?_;refine aA fun Ψ2 aH bM=>?_;simp only[LR,seval];refine aJ ?_ (AN H ?_)
 ·simp only[LR,seval]
 try simp only[LR,seval]
 refine aH _ _ ?_;simp only[LR,seval];refine aE _ _ ?_;simp only[LR,seval,H.l6];exact hΦ
theorem BS:type_of% (An @RX<|An @CN<|@jX):=An @RX<|An @CN<|@jX
theorem W_ (hs:Ok s) (H:bS s h P) (a:Int) (ha:i64 a) (hΦ:∀ s',aC [] s s'→Φ (.bool (P.pinned a)) s'):okF q X (KO kc) 191 [ptr h,int a] s Φ:=by
 refine aV rfl u9 rfl (rs:=[.tmp 4]) rfl (N:=18) rfl rfl ?_;refine aA fun bB aF aZ=>?_;simp only[BS,seval];refine aF _ _ ?_;refine aA fun Ψ1 aE aK=>?_;refine cK [(3,8)] (by kernel_rfl) fun O hO bK hR=>?_;have y3:∀ a,aN O a 3=bC (a.aB 8):=hO (3,8) (by simp);simp only[BS,seval];refine aJ ?_ (FY hs H a ha fun s1 k1=>?_)
 ·simp only[BS,seval]
 have H1:=H.aL k1;unfold PH.pinned at hΦ;cases hh:P.has a with
 | false =>
  rw[hh] at hΦ;simp only[BS,seval,y3];refine hR _ _ (aE _ _ ?_);simp only[BS,seval];exact hΦ _ k1
 | true =>
  obtain⟨j,rfl,hj⟩:=FR hh;have ed:(2*(j:Int)).tdiv 2=(j:Int):=Int.mul_tdiv_cancel_left _ (by omega);have hi:i64 (2*(j:Int)):=ha;have w2:IntKind.i64.wrap ((2*(j:Int)).tdiv 2)=(j:Int):=by rw[ed,aU (by unfold i64 at hi;omega) (by unfold i64 at hi;omega)]
  simp only[BS,seval,y3,H1.l3,w2];refine aJ ?_ (QA k1.ok H1.tp (j:Int) fun s2 k2=>?_)
  ·simp only[BS,seval]
  rw[if_pos ⟨by omega,by omega⟩,Int.toNat_natCast];rw[hh,show (2*(j:Int)/2).toNat=j by omega] at hΦ;simp only[BS,seval,y3];refine hR _ _ (aE _ _ ?_);simp only[BS,seval];exact hΦ _ (k1.trans k2)
theorem aF2 (H:uK s g P L) (hΦ:Φ (.bool true) s):okF q X (KO kc) 90 [ptr g] s Φ:=by
 have n2:=H.n2;have hp:((P.N:Nat):Int)>0:=by omega
 obtain⟨ba,bc,va,vc,c1,c2,c3⟩:=H.c;have l0:aI s.look ⟨g,0,none⟩=some (.slice ba P.N bc):=c1.load rfl;refine aV rfl Bh rfl (rs:=[.tmp 2]) rfl (N:=13) rfl rfl ?_;refine aA fun bB aF aZ=>?_;simp only[LX,seval];refine aF _ _ ?_;refine aA fun Ψ1 aE aK=>?_;refine cK [(2,5)] (by kernel_rfl) fun O hO bK hR=>?_;have y2:∀ a,aN O a 2=bC (a.aB 5):=hO (2,5) (by simp);simp only[LX,seval,y2,l0,hp,decide_true];refine hR _ _ (aE _ _ ?_);simp only[LX,seval];exact hΦ
theorem Kk (H:uK s g P L) (a:Int) (h1:∀ i (hi:i<L.length),L[i].1=a→Φ (int i) s) (h2:(∀ o∈L,o.1≠a)→Φ (int (-1)) s):okF q X (KO kc) 132 [ptr g,int a] s Φ:=by
 have hlen:=H.len;obtain⟨ba,bc,va,vc,c1,c2,c3⟩:=H.c;have l1:aI s.look ⟨g,1,none⟩=some (.slice va L.length vc):=c1.load rfl;refine aV rfl Bg rfl (rs:=[.tmp 4]) rfl (N:=29) rfl rfl ?_;refine aA fun bB aF aZ=>?_;simp only[gK,seval];refine aF _ _ ?_;refine aA fun Ψ1 aE aK=>?_;refine aA fun Ψ2 aH bM=>?_;simp only[gK,seval];refine aJ ?_ (aF2 H ?_)
 ·simp only[gK,seval]
 try simp only[gK,seval]
 refine aH _ _ ?_;simp only[gK,seval];refine aE _ _ ?_;refine aA fun Ψ3 aM bN=>?_;refine aA fun Ψ4 aQ bZ=>?_;simp only[gK,seval];refine aQ _ _ ?_;refine cB fun cP bI oH cF=>?_;refine gD (n:=L.length) (fun j a' s'=>a'.aB 0=ptr g∧a'.aB 1=int a∧a'.aB 5=int j∧s'=s∧∀ k (hk:k<L.length),k<j→L[k].1≠a)
  (fun j a' s'=>a'.aB 0=ptr g∧a'.aB 1=int a∧a'.aB 5=int j∧s'=s∧∀ k (hk:k<L.length),k<j+1→L[k].1≠a) ?_ ?_ ?_ ?_ (Nat.zero_le _) ?_
 ·rintro j a' s' hj ⟨r0,r1,r5,rfl,hn⟩ aR bH;simp only[gK,seval,r0,r5,l1];refine bH _ _ (decide ((j:Int)<L.length)) ?_ (by simp) ⟨?_,?_,?_,rfl,hn⟩
  all_goals simp only[gK,seval,r0,r1,r5]
 ·rintro j a' s' hj ⟨r0,r1,r5,rfl,hn⟩ aR w1 w2 w3;obtain⟨vb,dM,hv⟩:=c3.addr (show 0<L.length by omega);have g1:(0:Int)≤(j:Int):=Int.natCast_nonneg _;have g2:(j:Int)<((L.length:Nat):Int):=by omega
  have l1:=l1;have c3:=c3;rw[hv] at l1 c3;have lj:aI s'.look ⟨vb,dM+j*8,none⟩=some (int L[j].1):=by
   have:=c3.load (i:=j*8+0) (v:=int L[j].1) (by rw[yT P.nr _ hj (by omega)];rfl);exact this
  refine aA fun dK bO cV=>?_;simp only[gK,seval,r0,r1,r5,l1,g1,g2,and_self,bJ,Int.toNat_natCast,lj];refine bO _ _ ?_;by_cases he:L[j].1=a
  ·have he':(L[j].1==a)=true:=by simpa using he
   simp only[gK,seval,he',r5];refine w3 _ _ _ (by simp) (by simp) (cF _ _ _ (by simp) (by simp) (bN _ _ _ (by simp) ?_));simp only[gK,seval];exact h1 j hj he
  ·have he':(L[j].1==a)=false:=by simpa using he
   simp only[gK,seval,he'];refine w1 _ _ ⟨?_,?_,?_,rfl,fun k hk UO=>?_⟩
   ·simp only[gK,seval,r0]
   ·simp only[gK,seval,r1]
   ·simp only[gK,seval,r5]
   ·by_cases e:k=j
    ·subst e;exact he
    ·exact hn k hk (by omega)
 ·rintro j a' s' hj ⟨r0,r1,r5,rfl,hn⟩ aR w1;have w:IntKind.i64.wrap ((j:Int)+1)=((j+1:Nat):Int):=by rw[aU (by omega) (by omega)];rfl
  simp only[gK,seval,r5,w];refine w1 _ _ ⟨?_,?_,?_,rfl,hn⟩
  all_goals try simp only[gK,seval,r0,r1,r5]
 ·rintro a' s' ⟨r0,r1,r5,rfl,hn⟩;refine oH _ _ (aM _ _ ?_);simp only[gK,seval];refine h2 fun o ho=>?_;obtain⟨i,hi,rfl⟩:=List.mem_iff_getElem.1 ho;exact hn i hi hi
 ·refine⟨?_,?_,?_,rfl,fun k hk h=>absurd h (Nat.not_lt_zero _)⟩
  all_goals try simp only[gK,seval]
  try rfl
theorem aF1 (H:uK s g P L) (a:Int) (hΦ:Φ (.bool (P.has a)) s):okF q X (KO kc) 96 [ptr g,int a] s Φ:=by
 refine aV rfl Bi rfl (rs:=[.tmp 4]) rfl (N:=9) rfl rfl ?_;refine aA fun bB aF aZ=>?_;simp only[sW,seval];refine aF _ _ ?_;refine aA fun Ψ1 aE aK=>?_;simp only[sW,seval];refine aJ ?_ (Kk H a (fun i hi he=>?_) (fun hn=>?_))
 ·simp only[sW,seval]
 ·have hh:P.has a=true:=H.mem.1 ⟨_,List.getElem_mem hi,he⟩;rw[hh] at hΦ;have h0:((i:Int)≥0):=by omega
  simp only[sW,seval,h0,decide_true];refine aE _ _ ?_;simp only[sW,seval];exact hΦ
 ·have hh:P.has a=false:=by
   cases h:P.has a with
   | false=>rfl
   | true =>
    obtain⟨o,ho,e⟩:=H.mem.2 h;exact absurd e (hn o ho)
  rw[hh] at hΦ;have h0:¬ ((-1:Int)≥0):=by omega
  simp only[sW,seval,h0,decide_false];refine aE _ _ ?_;simp only[sW,seval];exact hΦ
theorem xA:type_of% (An @RC<|An @RO<|An @RD<|An @RV<|An @RB<|@RG):=An @RC<|An @RO<|An @RD<|An @RV<|An @RB<|@RG
theorem nv (hs:Ok s) (H:uK s g P L) {a:Option Addr} {n c:Nat} {l:List Int} (B:bE s 3 1 (.slice a n c) (l.map int)) (hn:n<100000) (x:Int) (hp:l.Pairwise (·<·))
  (hΦ:∀ a' n' c' (l':List Int) s',bE s' 3 1 (.slice a' n' c') (l'.map int)→(∀ y,y∈l'↔y∈l∨(y=x∧P.has x=true))→l'.Pairwise (·<·)→aC [] s s'→Φ (.slice a' n' c') s'):okF q X (KO kc) 183 [ptr g,.slice a n c,int x] s Φ:=by
 refine aV rfl q7 rfl (rs:=[.tmp 6]) rfl (N:=15) rfl rfl ?_;refine aA fun bB aF aZ=>?_;simp only[xA,seval];refine aF _ _ ?_;refine aA fun Ψ1 aE aK=>?_;refine aA fun Ψ2 aH bM=>?_;simp only[xA,seval];refine aJ ?_ (aF1 H x ?_)
 ·simp only[xA,seval]
 cases hh:P.has x with
 | false =>
  try simp only[xA,seval]
  refine aH _ _ ?_;simp only[xA,seval];refine aK _ _ _ (by simp) ?_;simp only[xA,seval];exact hΦ _ _ _ l s B (fun y=>⟨.inl,fun h=>h.elim id fun e=>by rw[hh] at e;cases e.2⟩) hp (.refl hs)
 | true =>
  try simp only[xA,seval]
  refine aH _ _ ?_;simp only[xA,seval];refine aE _ _ ?_;simp only[xA,seval];refine aJ ?_ (aFl hs B hn x hp fun a' n' c' l' s' B' hm hp' k=>?_)
  ·simp only[xA,seval]
  simp only[xA,seval];exact hΦ a' n' c' l' s' B' (fun y=>by rw[hm];simp[hh]) hp' k
theorem wZ:type_of% (An @RX<|An @oE<|@aW):=An @RX<|An @oE<|@aW
theorem aFr (hs:Ok s) (r d k:Int) (i:Nat) (hΦ:∀ s',aC [] s s'→Φ (.bool (!PH.soft k i)) s'):okF q X (KO kc) 111 [.agg #[int r,int d,int k],int i] s Φ:=by
 refine aV rfl Yt rfl (rs:=[.tmp 4]) rfl (N:=26) rfl rfl ?_;obtain⟨s1,e1,k1,c1,n1⟩:=cA hs (L:=[int r,int d,int k]) (n:=3) (e:=44) rfl;have lk:aI s1.look ⟨s.next,2,none⟩=some (int k):=c1.load rfl;refine aA fun bB aF aZ=>?_;simp only[wZ,seval];rw[e1];refine aF _ _ ?_;refine aA fun Ψ1 aE aK=>?_;refine cK [(3,8),(8,13),(11,16),(15,20)] (by kernel_rfl) fun O hO bK hR=>?_;have y3:∀ a,aN O a 3=bC (a.aB 8):=hO (3,8) (by simp);have y8:∀ a,aN O a 8=bC (a.aB 13):=hO (8,13) (by simp);have nM:∀ a,aN O a 11=bC (a.aB 16):=hO (11,16) (by simp);have wB:∀ a,aN O a 15=bC (a.aB 20):=hO (15,20) (by simp);unfold PH.soft at hΦ;by_cases h1:k=1
 ·subst h1;have b1:((1:Int)==1)=true:=rfl;by_cases h0:i=0
  ·subst h0;simp only[wZ,seval,y3,y8,nM,wB,lk,bne,b1,show ¬ ((0:Nat):Int)>0 by decide,decide_false];refine hR _ _ (aE _ _ ?_);simp only[wZ,seval];exact hΦ _ k1
  ·have g0:(i:Int)>0:=by omega
   have z0:((i:Int)==0)=false:=by rw[beq_eq_false_iff_ne];omega
   simp only[wZ,seval,y3,y8,nM,wB,lk,bne,b1,g0,decide_true];refine hR _ _ (aE _ _ ?_);simp only[wZ,seval];have:=hΦ _ k1;rw[z0] at this;simpa using this
 ·have b1:(k==1)=false:=beq_eq_false_iff_ne.2 h1;by_cases h2:k=2
  ·subst h2;have b2:((2:Int)==1)=false:=rfl;by_cases h0:i=0
   ·subst h0;simp only[wZ,seval,y3,y8,nM,wB,lk,bne,b2,show ¬ ((0:Nat):Int)>0 by decide,decide_false];refine hR _ _ (aE _ _ ?_);simp only[wZ,seval];exact hΦ _ k1
   ·have g0:(i:Int)>0:=by omega
    have z0:((i:Int)==0)=false:=by rw[beq_eq_false_iff_ne];omega
    have e:decide ((i:Int)>1)=!((i:Int)==1):=by
     by_cases h:i=1
     ·subst h;rfl
     ·have g1:(i:Int)>1:=by omega
      have z1:((i:Int)==1)=false:=by rw[beq_eq_false_iff_ne];omega
      rw[z1,decide_eq_true g1];rfl
    simp only[wZ,seval,y3,y8,nM,wB,lk,bne,b2,g0,decide_true,e];refine hR _ _ (aE _ _ ?_);simp only[wZ,seval];have:=hΦ _ k1;rw[z0] at this;simpa using this
  ·have b2:(k==2)=false:=beq_eq_false_iff_ne.2 h2;simp only[wZ,seval,y3,y8,nM,wB,lk,bne,b1,b2];refine hR _ _ (aE _ _ ?_);simp only[wZ,seval];have:=hΦ _ k1;rw[b1,b2] at this;simpa using this
end
open Go.Proofs
set_option maxRecDepth 100000
set_option maxHeartbeats 2000000
theorem YJ {Y:Env} {s:St} {t e N n c l h:Nat} {a:Option Addr} {L:List Value} {lo hi:Option Value} (hd:((Y.ty t).map fun i=>i.desc)=some (.slice e)) (he:((Y.ty e).map fun i=>i.size)=some N) (hN:0<N) (B:bE s e N (.slice a n c) L)
  (h1:l≤h) (h2:h≤n) (hlo:(lo=none∧l=0)∨lo=some (int l)) (hhi:(hi=none∧h=n)∨hi=some (int h)) :
  ∃ a' c',eI Y s.look t (.slice a n c) lo hi none=some (.slice a' (h-l) c')∧jM s.look N (h-l) (.slice a' (h-l) c')=some ((L.drop (l*N)).take ((h-l)*N)):=by
 have hs:=B.sl;have hlen:=hs.len;cases hti:Y.ty t with
 | none=>rw[hti] at hd;cases hd
 | some i =>
 cases hj:Y.ty e with
 | none=>rw[hj] at he;cases he
 | some j =>
 rw[hti] at hd;rw[hj] at he;have hd':i.desc=.slice e:=by simpa using hd
 have he':j.size=N:=by simpa using he
 have hb:∀ lo' hi',kC lo=some lo'→kC hi=some hi'→n≤c→lU n c lo' hi'=some (l,h):=by
  intro lo' hi' e1 e2 hnc;unfold lU;rcases hhi with ⟨rfl,rfl⟩ | rfl
  ·cases e2;rcases hlo with ⟨rfl,rfl⟩ | rfl
   ·cases e1;rfl
   ·cases e1;simp only;rw[if_pos ⟨by omega,by omega⟩];rfl
  ·cases e2;simp only;rw[if_pos ⟨by omega,by omega⟩];rcases hlo with ⟨rfl,rfl⟩ | rfl
   ·cases e1;rfl
   ·cases e1;simp only[Int.toNat_natCast];rw[if_pos ⟨by omega,by omega⟩]
 obtain⟨lo',e1⟩:∃ x,kC lo=some x:=by rcases hlo with ⟨rfl,_⟩ | rfl <;> exact⟨_,rfl⟩
 obtain⟨hi',e2⟩:∃ x,kC hi=some x:=by rcases hhi with ⟨rfl,_⟩ | rfl <;> exact⟨_,rfl⟩
 cases B with
 | nil =>
  have:=hb lo' hi' e1 e2 (Nat.le_refl _);obtain rfl:h=0:=by omega
  obtain rfl:l=0:=by omega
  refine⟨none,0,?_,?_⟩
  ·simp only[eI,hti,e1,e2,hd',this,hj]
  ·simp[jM]
 | @own b off n c L0 L hh hc hn hL hl =>
  obtain⟨cc,z,room,aT,g1,g2⟩:=hh;have g1':s.look b=some (.cells cc z L0.length e room false aT):=g1;have:=hb lo' hi' e1 e2 hn;have hz:eI Y s.look t (.slice (some ⟨b,off,none⟩) n c) lo hi none=if c=l then some (.slice (some (if room then⟨b,off,some (l*j.size)⟩ else⟨b,off,none⟩)) (h-l) (c-l)) else some (.slice (some ((⟨b,off,none⟩:Addr).add (l*j.size))) (h-l) (c-l)):=by
   simp only[eI,hti,e1,e2,hd',this,hj,g1'];rw[if_pos ⟨by omega,by omega⟩]
  by_cases hcl:c=l
  ·rw[if_pos hcl] at hz;have h0:h-l=0:=by omega
   refine⟨_,_,hz,?_⟩;rw[h0,Nat.zero_mul,List.take_zero];simp[jM]
  ·rw[if_neg hcl,he'] at hz;simp only[bJ] at hz;refine⟨_,_,hz,?_⟩;simp only[jM];by_cases h0:(h-l)*N=0
   ·rw[if_pos h0,h0,List.take_zero]
   ·rw[if_neg h0];have hm:l*N+(h-l)*N=h*N:=by rw[← Nat.add_mul];congr 1;omega
    have hm2:h*N≤n*N:=Nat.mul_le_mul_right _ h2;exact hs.bD (by omega) (by omega)
theorem dh {α:Type} {f:α→List Value} {m:Nat} (hf:∀ x,(f x).length=m):∀ (L:List α) (i:Nat),(L.flatMap f).take (i*m)=(L.take i).flatMap f
 | [],i=>by simp
 | x::L,0=>by simp
 | x::L,i+1=>by
  rw[List.flatMap_cons,List.take_append,hf,List.take_of_length_le (by rw[hf,Nat.succ_mul];omega),show (i+1)*m-m=i*m by rw[Nat.succ_mul];omega,dh hf L i,List.take_succ_cons,List.flatMap_cons]
theorem de {α:Type} {f:α→List Value} {m:Nat} (hf:∀ x,(f x).length=m):∀ (L:List α) (i:Nat),(L.flatMap f).drop (i*m)=(L.drop i).flatMap f
 | [],i=>by simp
 | x::L,0=>by simp
 | x::L,i+1=>by
  rw[List.flatMap_cons,List.drop_append,hf,List.drop_of_length_le (by rw[hf,Nat.succ_mul];omega),show (i+1)*m-m=i*m by rw[Nat.succ_mul];omega,de hf L i,List.drop_succ_cons,List.nil_append]
theorem Yi {α β:Type} {f:α→List β} {l m:List α} (h:l.Sublist m):(l.flatMap f).Sublist (m.flatMap f):=by
 induction h with
 | slnil=>exact .slnil
 | cons a _ ih=>rw[List.flatMap_cons];exact ih.trans (List.sublist_append_right ..)
 | cons_cons a _ ih=>rw[List.flatMap_cons,List.flatMap_cons];exact List.Sublist.append (List.Sublist.refl _) ih
theorem aDf (L:List cJ):(L.flatMap cJ.C).all iB=true:=by
 rw[List.all_flatMap,List.all_eq_true];intro o _
 try rfl
theorem cE.Io {s s':St} {g:Nat} {G:dD} (H:cE s g G) {F:List Nat} (k:aC F s s') (hF:∀ x∈G.own g,x≠g→x∉F) {va:Option Addr} {vc:Nat} {L:List cJ}
  (hc:Obj s' g [.slice (some ⟨G.bn,0,none⟩) G.N G.N,.slice va L.length vc,.slice none 0 0,int G.born]) (hl:bE s' 133 8 (.slice va L.length vc) (L.flatMap cJ.C))
  (hr:∀ o∈L,Obj s' o.rn (o.rs.map int)∧Obj s' o.dn (o.ds.map int)) (hn:(({G with L:=L}:dD).own g).Nodup) (hv:∀ b∈nameOf (.slice va L.length vc),b∉({G with L:=L}:dD).own g) (hlen:L.length≤2048):cE s' g {G with va:=va,vc:=vc,L:=L}:=by
 obtain⟨c,cb,cl,cr,nd,nl,n2,bW,len⟩:=H;have hne:G.bn≠g:=fun e=>by
  unfold dD.own at nd;rw[List.nodup_cons] at nd;exact nd.1 (by rw[← e];exact List.mem_cons_self ..)
 exact⟨hc,cb.aD k (hF _ (List.mem_cons_of_mem _ (List.mem_cons_self ..)) hne),hl,hr,hn,hv,n2,bW,hlen⟩
section
variable {kc:Kc} {q:Bool} {s:St} {Φ:Value→St→Prop} {g:Nat} {G:dD} {P:PH}
theorem xo:((X.ty 133).map fun i=>(i.bytes,i.size,i.zero))=some (96,8,some (.agg #[int 0,int 0,int 0,int 0,int 0,.slice none 0 0,.slice none 0 0,.bool false])):=by kernel_rfl
theorem YR:((X.ty 133).map fun i=>i.size)=some 8:=by kernel_rfl
theorem IV:((X.ty 128).map fun i=>i.desc)=some (.slice 133):=by kernel_rfl
theorem MP {s:St} {n c k:Nat} {x:Value} {a:Option Addr} {L:List Value} {M:List cJ} (hs:Ok s) (hb:bE s 133 8 (.slice a n c) L) (hx:tL x=some k) (hf:jM s.look 8 k x=some (M.flatMap cJ.C)) (hk:M.length=k) (hm:n+k<1000000) :
  ∃ a' c' s',oY X s #[128,128] [.slice a n c,x]=some (.slice a' (n+k) c',s')∧bE s' 133 8 (.slice a' (n+k) c') (L++M.flatMap cJ.C)∧aC (nameOf (.slice a n c)) s s'∧(∀ b∈nameOf (.slice a' (n+k) c'),b∈nameOf (.slice a n c)∨s.next≤b):=by
 obtain⟨v,s',h1,h2,h3,h4,a',c',rfl⟩:=iT (X:=X) (t:=128) IV xo rfl hs (by omega) hb hx hf (by rw[uY cJ.pL,hk]) (aDf M) (by omega) (by omega);exact⟨a',c',s',h1,h2,h3,h4⟩
theorem HV:type_of% (An @RX<|An @lY<|An @mD<|@LG):=An @RX<|An @lY<|An @mD<|@LG
theorem aFt (hs:Ok s) (H:cE s g G) {i:Nat} (hi:i<G.L.length)
  (hΦ:∀ va vc s',cE s' g {G with va:=va,vc:=vc,L:=G.L.eraseIdx i}→aC [g] s s'→(∀ b∈nameOf (.slice va (G.L.eraseIdx i).length vc),s.next≤b)→Φ (.tuple #[]) s'):okF q X (KO kc) 147 [ptr g,int i] s Φ:=by
 have hlen:=H.len;have wK:=H.gO hs;have hg:g<s.next:=H.c.lt hs;refine aV rfl Zu rfl (rs:=[]) rfl (N:=25) rfl rfl ?_;refine aA fun bB aF aZ=>?_;simp only[HV,seval];refine aF _ _ ?_;refine aA fun Ψ1 aE aK=>?_;obtain⟨w1,qw,x1,f1⟩:=YJ (Y:=X) (t:=128) (lo:=none) (hi:=some (int i)) (l:=0) (h:=i) IV YR (by omega) H.cl (by omega) (by omega) (.inl ⟨rfl,rfl⟩) (.inr rfl);rw[Nat.zero_mul,List.drop_zero,dh cJ.pL] at f1;rw[Nat.sub_zero] at x1 f1;obtain⟨a1,c1,s1,e1,b1,k1,m1⟩:=MP (n:=0) (c:=0) (a:=none) hs .nil (x:=.slice w1 i qw) rfl f1 (by rw[List.length_take];omega) (by omega);rw[Nat.zero_add,List.nil_append] at *;simp only[HV,seval,H.l1,x1];refine iX ?_ e1 ?_
 ·simp only[HV,seval]
 simp only[HV,seval];refine aE _ _ ?_;have k1:aC [] s s1:=k1;have m1:∀ b∈nameOf (.slice a1 i c1),s.next≤b:=fun b hb=>(m1 b hb).elim (fun h=>by cases h) id;have H1:=H.aL k1;obtain⟨w2,wc2,x2,f2⟩:=YJ (Y:=X) (t:=128) (lo:=some (int ((i+1:Nat)))) (hi:=none) (l:=i+1) (h:=G.L.length) IV YR (by omega) H1.cl (by omega) (by omega) (.inr rfl) (.inl ⟨rfl,rfl⟩);rw[de cJ.pL,List.take_of_length_le (by rw[uY cJ.pL,List.length_drop];omega)] at f2;obtain⟨a2,c2,s2,e2,b2,k2,m2⟩:=MP k1.ok b1 (x:=.slice w2 (G.L.length-(i+1)) wc2) rfl f2 (by rw[List.length_drop]) (by omega);have hw:IntKind.i64.wrap ((i:Int)+1)=((i+1:Nat):Int):=by rw[aU (by omega) (by omega)];rfl
 simp only[HV,seval,H1.l1,hw,x2];refine iX ?_ e2 ?_
 ·simp only[HV,seval]
 have fj:g∉nameOf (.slice a1 i c1):=fun h=>by have:=m1 _ h;omega
 obtain⟨s3,e3,o3,k3⟩:=((H1.c).aD k2 fj).gJ k2.ok (i:=1) (v:=.slice a2 (i+(G.L.length-(i+1))) c2) (by simp) rfl;simp only[HV,seval,e3];have eL:(G.L.eraseIdx i)=G.L.take i++G.L.drop (i+1):=List.eraseIdx_eq_take_drop_succ ..;have eN:(G.L.eraseIdx i).length=i+(G.L.length-(i+1)):=by rw[eL,List.length_append,List.length_take,List.length_drop];omega
 have m2:∀ b∈nameOf (.slice a2 (i+(G.L.length-(i+1))) c2),s.next≤b:=fun b hb=>by
  rcases m2 b hb with h | h
  ·exact m1 b h
  ·have:=k1.next;omega
 have eC:aC [] s s2:=k1.step k2 fun y hy=>.inr (hs.fresh y (m1 y hy));have fF:aC [g] s s3:=eC.any.trans k3;have own:∀ x∈({G with L:=G.L.eraseIdx i}:dD).own g,x∈G.own g:=by
  intro x hx;unfold dD.own at hx ⊢;simp only[List.mem_cons] at hx ⊢;rcases hx with h | h | h
  ·exact .inl h
  ·exact .inr (.inl h)
  ·obtain⟨o,ho,hx⟩:=List.mem_flatMap.1 h;exact .inr (.inr (List.mem_flatMap.2 ⟨o,List.mem_of_mem_eraseIdx ho,hx⟩))
 have aEd:∀ x∈G.own g,x<s.next:=fun x hx=>wK x (List.mem_append_left _ hx);have vC:=H.nd;refine hΦ a2 c2 s3 (H.Io fF (fun x _ hne hm=>hne (List.mem_singleton.1 hm)) ?_ ?_ (fun o ho=>?_) ?_ ?_ (by rw[eN];omega)) fF (by rw[eN];exact m2)
 ·rw[eN];exact o3
 ·rw[eN,eL,List.flatMap_append];refine b2.aD k3 fun b hb FV=>?_;have:=m2 b hb;rw[List.mem_singleton.1 FV] at this;omega
 ·have ho':=List.mem_of_mem_eraseIdx ho;have hne:o.rn≠g∧o.dn≠g:=by
   unfold dD.own at vC;rw[List.nodup_cons] at vC;exact⟨fun e=>vC.1 (by rw[← e];exact List.mem_cons_of_mem _ (List.mem_flatMap.2 ⟨o,ho',by simp⟩)),fun e=>vC.1 (by rw[← e];exact List.mem_cons_of_mem _ (List.mem_flatMap.2 ⟨o,ho',by simp⟩))⟩
  exact⟨(H.cr o ho').1.aD fF (by simpa using hne.1),(H.cr o ho').2.aD fF (by simpa using hne.2)⟩
 ·unfold dD.own at vC ⊢;refine vC.sublist (List.Sublist.cons_cons _ (List.Sublist.cons_cons _ ?_));exact Yi (List.eraseIdx_sublist ..)
 ·rw[eN];intro b hb hm;have h1:=m2 b hb;have h2:=aEd b (own b hm);omega
end
open Go.Proofs
set_option maxRecDepth 100000
set_option maxHeartbeats 8000000
theorem aGf (n:Nat) (f:Nat→Value):row (2*(n+1)) f=row (2*n) f++[f (2*n),f (2*n+1)]:=by
 unfold row;rw[show 2*(n+1)=2*n+1+1 by omega,List.range_succ,List.range_succ,List.map_append,List.map_append,List.append_assoc]
 try rfl
namespace PH
variable {P:PH}
theorem aFy {a:Int} {k:Nat} (h:k<P.cX a):(P.refs a).take (k+1)=(P.refs a).take k++[P.ref a k]:=by
 unfold refs;rw[List.take_add_one,List.getElem?_map,List.getElem?_range h];rfl
theorem aFx (a:Int):(P.refs a).length=P.cX a:=by unfold refs;rw[List.length_map,List.length_range]
theorem Vz {a:Int} {k:Nat} (h:k<P.pN a):(P.CK a).take (k+1)=(P.CK a).take k++[P.MZ a k]:=by
 unfold CK;rw[List.take_add_one,List.getElem?_map,List.getElem?_range h];rfl
theorem Vy (a:Int):(P.CK a).length=P.pN a:=by unfold CK;rw[List.length_map,List.length_range]
theorem Ns (G:P.cM) (a:Int):0≤(P.aY a).r∧(P.aY a).r≤15∧0≤(P.aY a).d∧(P.aY a).d≤200:=by
 unfold aY;split
 ·rename_i h;have:=cI.pZ.1 (G.val a h).1;omega
 ·exact⟨by decide,by decide,by decide,by decide⟩
end PH
section
variable {kc:Kc} {q:Bool} {s:St} {Φ:Value→St→Prop} {h:Nat} {P:PH}
theorem U_ (hs:Ok s) (H:bS s h P) (G:P.cM) (a i:Int) (ha:i64 a) (hΦ:∀ s',aC [] s s'→Φ (.tuple #[int (P.MZ a i),int (P.gA a i true)]) s'):okF q X (KO kc) 39 [ptr h,int a,int i] s Φ:=U9 hs H G a i ha hΦ
theorem yA.aD {F:List Nat} {s s':St} {P:PH} {x:tA} (h:yA s P x) (k:aC F s s') (hF:∀ y,y∈nameOf x.2.1∨y∈nameOf x.2.2→y∉F):yA s' P x:=⟨h.r1,h.r2.aD k fun y hy=>hF y (.inl hy),h.d1,h.d2.aD k fun y hy=>hF y (.inr hy)⟩
structure RL (N:Nat) (s:St) (g:Nat) (P:PH) (ba:Option Addr) (bc:Nat) (va:Option Addr) (vc:Nat) (L:List tA):Prop where
 c:Obj s g [.slice ba P.N bc,.slice va L.length vc,.slice none 0 0,int P.born]
 b:bE s 210 2 (.slice ba P.N bc) (row (2*P.N) fun i=>int (if i%2=0 then P.bs (i/2) else P.bp (i/2)))
 v:bE s 133 8 (.slice va L.length vc) (L.flatMap P.KW)
 gv:∀ y∈nameOf (.slice va L.length vc),y≠g∧N≤y∧y∉nameOf (.slice ba P.N bc)
 gb:∀ y∈nameOf (.slice ba P.N bc),y≠g
 cr:∀ x∈L,yA s P x∧∀ y,y∈nameOf x.2.1∨y∈nameOf x.2.2→y≠g∧y∉nameOf (.slice va L.length vc)∧y<s.next
theorem RL.aL {N:Nat} {s s':St} {g:Nat} {P:PH} {ba va:Option Addr} {bc vc:Nat} {L:List tA} (W:RL N s g P ba bc va vc L) (k:aC [] s s'):RL N s' g P ba bc va vc L:=by
 obtain⟨c,b,v,gv,gb,cr⟩:=W;exact⟨c.aD k (by simp),b.aD k (by simp),v.aD k (by simp),gv,gb,fun x hx=>⟨(cr x hx).1.aL k,fun y hy=>let ⟨h1,h2,h3⟩:=(cr x hx).2 y hy;⟨h1,h2,Nat.lt_of_lt_of_le h3 k.next⟩⟩⟩
def ZP (s:St) (P:PH) (N g:Nat) (ba:Option Addr) (bc:Nat) (aa:Option Addr) (ac j:Nat) (s':St):Prop:=∃ va vc L,L.length=j∧L.map Prod.fst=P.all.take j∧RL N s' g P ba bc va vc L∧aC [] s s'∧bE s' 3 1 (.slice aa P.all.length ac) (P.all.map int)∧∀ y∈nameOf (.slice aa P.all.length ac),y≠g∧y∉nameOf (.slice va L.length vc)∧y<s'.next
theorem cD:type_of% (An @RX<|An @ue<|An @oD<|An @oJ<|An @IL<|An @wv<|An @Oh<|An @dG<|An @dE<|An @aW<|An @ug<|An @II<|An @LH<|An @uW<|An @TM<|An @jG<|An @yO<|An @mI<|An @lZ<|An @IY<|An @dF<|An @jE<|An @sR<|An @oZ<|An @Ae<|An @lY<|An @mD<|An @DH<|An @SN<|@LG):=An @RX<|An @ue<|An @oD<|An @oJ<|An @IL<|An @wv<|An @Oh<|An @dG<|An @dE<|An @aW<|An @ug<|An @II<|An @LH<|An @uW<|An @TM<|An @jG<|An @yO<|An @mI<|An @lZ<|An @IY<|An @dF<|An @jE<|An @sR<|An @oZ<|An @Ae<|An @lY<|An @mD<|An @DH<|An @SN<|@LG
theorem aBk (hs:Ok s) (H:bS s h P) (G:P.cM) (hΦ:∀ g L s',uK s' g P L→aC [] s s'→s.next≤g→Φ (ptr g) s'):okF q X (KO kc) 122 [ptr h] s Φ:=by
 have n2:=H.n2;have bW:=H.bW;refine aV rfl Za rfl (rs:=[.tmp 2]) rfl (N:=136) rfl rfl ?_;refine aA fun bB aF aZ=>?_;simp only[cD,seval];refine aF _ _ ?_;refine aA fun Ψ1 aE aK=>?_;simp only[cD,seval];refine aJ ?_ (U1 H ?_)
 ·simp only[cD,seval]
 obtain⟨s1,e1,k1,c1,n1⟩:=cA hs (L:=[.slice none 0 0,.slice none 0 0,.slice none 0 0,int P.born]) (n:=4) (e:=131) rfl
 try simp only[cD,seval]
 rw[e1]
 try simp only[cD,seval]
 refine aE _ _ ?_;obtain⟨g,hg⟩:∃ g,g=s.next:=⟨_,rfl⟩;rw[← hg] at c1;simp only[← hg];have H1:=H.aL k1;have gF:∀ y∈[g],s1.heap.get y≠none→True:=fun _ _ _=>trivial;refine aA fun Ψ2 aH bM=>?_;refine aA fun Ψ3 aM bN=>?_;simp only[cD,seval];refine aM _ _ ?_;refine cB fun Ψ4 aQ yY bZ=>?_;refine gD (n:=P.N) (fun j a' s'=>∃ ba bc,a'.aB 0=ptr h∧a'.aB 3=ptr g∧a'.aB 4=int j∧Obj s' g [.slice ba j bc,.slice none 0 0,.slice none 0 0,int P.born]∧bE s' 210 2 (.slice ba j bc) (row (2*j) fun i=>int (if i%2=0 then P.bs (i/2) else P.bp (i/2)))∧(∀ y∈nameOf (.slice ba j bc),y≠g∧s1.next≤y)∧aC [] s s')
  (fun j a' s'=>∃ ba bc,a'.aB 0=ptr h∧a'.aB 3=ptr g∧a'.aB 4=int j∧Obj s' g [.slice ba ((j+1:Nat)) bc,.slice none 0 0,.slice none 0 0,int P.born]∧bE s' 210 2 (.slice ba (j+1) bc) (row (2*(j+1)) fun i=>int (if i%2=0 then P.bs (i/2) else P.bp (i/2)))∧(∀ y∈nameOf (.slice ba (j+1) bc),y≠g∧s1.next≤y)∧aC [] s s') ?_ ?_ ?_ ?_ (Nat.zero_le _) ?_
 ·rintro j a' s' hj ⟨ba,bc,r0,r3,r4,hc,hb,hn,hk⟩ aR bH;simp only[cD,seval,r0,r4];refine aJ ?_ (FX (H.aL hk) ?_)
  ·simp only[cD,seval]
  simp only[cD,seval];refine bH _ _ (decide ((j:Int)<P.N)) ?_ (by simp) ⟨ba,bc,?_,?_,?_,hc,hb,hn,hk⟩
  all_goals simp only[cD,seval,r0,r3,r4]
 ·rintro j a' s' hj ⟨ba,bc,r0,r3,r4,hc,hb,hn,hk⟩ aR w1 w2 w3;have l0:aI s'.look ⟨g,0,none⟩=some (.slice ba j bc):=hc.load rfl;refine aA fun cP bI cF=>?_;simp only[cD,seval,r3,l0];refine bI _ _ ?_;simp only[cD,seval,r0,r3,r4];refine aJ ?_ (Cr (H.aL hk) (j:Int) ?_)
  ·simp only[cD,seval]
  simp only[cD,seval,r0,r4];refine aJ ?_ (X4 (H.aL hk) (j:Int) ?_)
  ·simp only[cD,seval]
  rw[if_pos ⟨Int.natCast_nonneg _,by omega⟩,if_pos ⟨Int.natCast_nonneg _,by omega⟩,Int.toNat_natCast];obtain⟨t1,f1,u1,d1,v1⟩:=cA hk.ok (L:=[int (P.bs j),int (P.bp j)]) (n:=2) (e:=210) rfl;obtain⟨w,t2,h2,b2,u2,m2,a2,c2,rfl⟩:=iT (X:=X) (t:=127) (e:=210) (N:=2) (B:=16) (z:=.agg #[int 0,int 0]) (x:=.slice (some ⟨s'.next,0,none⟩) 1 1) (k:=1) (new:=[int (P.bs j),int (P.bp j)]) (by kernel_rfl) (by kernel_rfl) rfl u1.ok (by omega) (hb.aD u1 (by simp)) rfl (kT (by omega) (d1.bD (i:=0) (k:=2) (Nat.le_refl _))) rfl rfl (by omega) (by omega);have gn:g∉nameOf (.slice ba j bc):=fun hh=>(hn g hh).1 rfl;obtain⟨t3,h3,d3,u3⟩:=((hc.aD u1 (by simp)).aD u2 gn).gJ u2.ok (i:=0) (v:=.slice a2 (j+1) c2) (by simp) rfl
  try simp only[cD,seval]
  rw[f1];refine iX ?_ h2 ?_
  ·simp only[cD,seval]
  simp only[cD,seval,r3,h3];have Y5:s'.next≤t1.next:=u1.next;have hge:=hk.next;have UK:g<s'.next:=hc.lt hk.ok;have Sg:aC [] s t1:=hk.trans u1;have Sj:aC [] s t2:=Sg.step u2 fun y hy=>.inr (hs.fresh y (by have:=(hn y hy).2;have:=k1.next;omega));have Sk:aC [] s t3:=Sj.step u3 fun y hy=>.inr (by rw[List.mem_singleton.1 hy,hg];exact hs.fresh _ (Nat.le_refl _));have hn2:∀ y∈nameOf (.slice a2 (j+1) c2),y≠g∧s1.next≤y:=fun y hy=>by
   rcases m2 y hy with e | e
   ·exact hn y e
   ·exact⟨by omega,by have:=k1.next;omega⟩
  refine w1 _ _ ⟨a2,c2,?_,?_,?_,d3,?_,hn2,Sk⟩
  ·simp only[cD,seval,r0]
  ·simp only[cD,seval,r3]
  ·simp only[cD,seval,r4]
  ·rw[aGf];have e1:(2*j)/2=j:=by omega
   have e2:(2*j+1)/2=j:=by omega
   rw[if_pos (by omega),if_neg (by omega),e1,e2];exact b2.aD u3 fun y hy hy'=>(hn2 y hy).1 (List.mem_singleton.1 hy')
 ·rintro j a' s' hj ⟨ba,bc,r0,r3,r4,hc,hb,hn,hk⟩ aR w1;have w:IntKind.i64.wrap ((j:Int)+1)=((j+1:Nat):Int):=by rw[aU (by omega) (by omega)];rfl
  simp only[cD,seval,r4,w];refine w1 _ _ ⟨ba,bc,?_,?_,?_,hc,hb,hn,hk⟩
  all_goals try simp only[cD,seval,r0,r3]
 ·rintro a' s' ⟨ba,bc,r0,r3,r4,hc,hb,hn,hk⟩;refine yY _ _ (aH _ _ ?_);refine aA fun cP bI cF=>?_;simp only[cD,seval,r0];refine aJ ?_ (fe hk.ok (H.aL hk) ?_)
  ·simp only[cD,seval]
  rintro s2 aa an ac ud rfl GI k2
  try simp only[cD,seval]
  refine bI _ _ ?_;have hk2:=hk.trans k2;have hal:=P.tB;have UK:=hc.lt hk.ok;have hn1:=k1.next;have Wi:ZP s P s1.next g ba bc aa ac 0 s2:=by
   refine⟨none,0,[],rfl,rfl,⟨hc.aD k2 (by simp),hb.aD k2 (by simp),.nil,(by simp[nameOf]),fun y hy=>(hn y hy).1,fun x hx=>by cases hx⟩,hk2,ud,fun y hy=>⟨?_,by simp[nameOf],ud.lt k2.ok y hy⟩⟩;have:=GI y hy;omega
  refine aA fun dK bO cV=>?_;refine aA fun fJ cC eF=>?_;simp only[cD,seval];refine cC _ _ ?_;refine cB fun jC dA sJ iI=>?_;refine gD (n:=P.all.length) (fun j a' s'=>a'.aB 0=ptr h∧a'.aB 3=ptr g∧a'.aB 6=.slice aa P.all.length ac∧a'.aB 7=int j∧ZP s P s1.next g ba bc aa ac j s')
   (fun j a' s'=>a'.aB 0=ptr h∧a'.aB 3=ptr g∧a'.aB 6=.slice aa P.all.length ac∧a'.aB 7=int j∧ZP s P s1.next g ba bc aa ac (j+1) s') ?_ ?_ ?_ ?_ (Nat.zero_le _) ?_
  ·rintro j a' s' hj ⟨r0,r3,r6,r7,hW⟩ aR bH;simp only[cD,seval,r6,r7];refine bH _ _ (decide ((j:Int)<P.all.length)) ?_ (by simp) ⟨?_,?_,?_,?_,hW⟩
   all_goals simp only[cD,seval,r0,r3,r6,r7]
  ·rintro j a' s' hj ⟨r0,r3,r6,r7,va,vc,L,hL,ef,W,hk,bA,hA⟩ aR w1 w2 w3;obtain⟨vb,dM,rfl⟩:=bA.sl.addr (show 0<P.all.length by omega);obtain⟨a,ha⟩:∃ a,a=P.all[j]:=⟨_,rfl⟩;have sG:P.has a=true:=PH.qN.1 (by rw[ha];exact List.getElem_mem _);have vA:i64 a:=PH.ML P bW (PH.qN.2 sG);have lj:aI s'.look ⟨vb,dM+j,none⟩=some (int a):=by rw[ha];exact gL.get bA.sl (List.getElem?_eq_getElem hj)
   have g1:(0:Int)≤(j:Int):=Int.natCast_nonneg _;have g2:(j:Int)<((P.all.length:Nat):Int):=by omega
   have ks:aC [] s' (s'.skip 26):=aC.skip hk.ok _;have Hk:=H.aL (hk.trans ks);obtain⟨sr0,sr1,sd0,sd1⟩:=PH.Ns G a;have Dy:((P.cX a:Nat):Int)=(P.aY a).r:=by unfold PH.cX;omega
   have T_:((P.pN a:Nat):Int)=(P.aY a).d:=by unfold PH.pN;omega
   obtain⟨x,hx⟩:∃ x,x=s'.next+22:=⟨_,rfl⟩;refine aA fun lJ dW jP=>?_;refine dH [(3,9)] [vb] [] (by kernel_rfl) (by kernel_rfl) (by rfl) fun O hO bK hR=>?_;simp only[cD,seval,r0,r6,r7,g1,g2,and_self,bJ,Int.toNat_natCast,Nat.mul_one,lj];refine eQ ?_ (W_ ks.ok Hk a vA fun s3 k3=>?_)
   ·simp only[cD,seval]
   have iH:eT (s'.skip 26) s3 vb=true:=PW (tM ks (by simp) lj) ks.ok k3 (by simp);have NI:s3.heap.get x=none:=by
    refine k3.none ?_ (by rw[hx];show s'.next+22<s'.next+26;omega);rw[hx];exact hk.ok.fresh _ (by omega)
   have kN:aC [] s' s3:=ks.trans k3;have hx3:x<s3.next:=by have:=k3.next;have h:(s'.skip 26).next=s'.next+26:=rfl;omega
   obtain⟨T1,E1,K1,C1,N1⟩:∃ T1,s3.put x (fun v=>bU.cells (PT.ofList [int 0,int 0,int 0,int 0,int 0,.slice none 0 0,.slice none 0 0,.bool false]) [] 8 133 false false v)=T1∧aC [] s' T1∧Obj T1 x [int 0,int 0,int 0,int 0,int 0,.slice none 0 0,.slice none 0 0,.bool false]∧T1.next=s3.next :=
    ⟨_,rfl,kN.pD NI hx3 (by omega) (Nat.le_refl _),Obj.pV rfl,rfl⟩
   obtain⟨T2,h2,C2,U2⟩:=C1.storeAll K1.ok (vs:=[int a,int 0,int 0,int 0,int 0,.slice none 0 0,.slice none 0 0,.bool (P.pinned a)]) rfl rfl;have NK:∀ y,s'.next≤y→s'.heap.get y=none:=hk.ok.fresh;have K2:aC [] s' T2:=K1.step U2 fun y hy=>.inr (NK y (by rw[List.mem_singleton.1 hy];omega));simp only[cD,seval,← hx];refine⟨gQ iH jR,?_⟩
   try simp only[cD,seval,E1,h2]
   refine hR _ _ (dW _ _ ?_);have DO:∀ {S:St} {id r d k:Int} {u v:Value} {b:Bool},Obj S x [int a,int id,int r,int d,int k,u,v,.bool b]→aI S.look ⟨x,0,none⟩=some (int a)∧aI S.look ⟨x,2,none⟩=some (int r)∧aI S.look ⟨x,3,none⟩=some (int d)∧aI S.look ⟨x,5,none⟩=some u∧aI S.look ⟨x,6,none⟩=some v:=fun h=>⟨h.load rfl,h.load rfl,h.load rfl,h.load rfl,h.load rfl⟩;have stx:∀ {S S':St},aC [] s' S→aC [x] S S'→aC [] s' S':=fun h k=>h.step k fun y hy=>.inr (NK y (by rw[List.mem_singleton.1 hy];omega));refine aA fun mZ eB nH=>?_;simp only[cD,seval,r0,(DO C2).1];refine aJ ?_ (V_ K2.ok (H.aL (hk.trans K2)) a vA fun s4 k4=>?_)
   ·simp only[cD,seval]
   rw[if_pos sG];obtain⟨T3,h3,C3,U3⟩:=(C2.aD k4 (by simp)).gJ k4.ok (i:=1) (v:=int (P.w a.toNat)) (by simp) rfl;have K3:=stx (K2.trans k4) U3
   try simp only[cD,seval,h3]
   refine eB _ _ ?_;refine aA fun rS kL qK=>?_;have C3:Obj T3 x [int a,int (P.w a.toNat),int 0,int 0,int 0,.slice none 0 0,.slice none 0 0,.bool (P.pinned a)]:=C3;simp only[cD,seval,r0,(DO C3).1];refine aJ ?_ (JN K3.ok (H.aL (hk.trans K3)) a vA fun s5 k5=>?_)
   ·simp only[cD,seval]
   obtain⟨T4,h4,C4,U4⟩:=(C3.aD k5 (by simp)).store k5.ok (i:=2) (vs:=[int (P.aY a).r,int (P.aY a).d,int (P.aY a).k]) (by simp) rfl;have K4:=stx (K3.trans k5) U4;have C4:Obj T4 x [int a,int (P.w a.toNat),int (P.aY a).r,int (P.aY a).d,int (P.aY a).k,.slice none 0 0,.slice none 0 0,.bool (P.pinned a)]:=C4
   try simp only[cD,seval,h4]
   refine kL _ _ ?_;refine aA fun uH kV tJ=>?_;refine aA fun AA oF yX=>?_;simp only[cD,seval];refine oF _ _ ?_;refine cB fun ME wP ig GO=>?_;refine gD (n:=P.cX a) (fun k a' s''=>∃ ra rc,a'.aB 0=ptr h∧a'.aB 3=ptr g∧a'.aB 6=.slice (some ⟨vb,dM,none⟩) P.all.length ac∧a'.aB 7=int j∧a'.aB 8=ptr x∧a'.aB 9=int k∧Obj s'' x [int a,int (P.w a.toNat),int (P.aY a).r,int (P.aY a).d,int (P.aY a).k,.slice ra k rc,.slice none 0 0,.bool (P.pinned a)]∧bE s'' 3 1 (.slice ra k rc) (((P.refs a).take k).map int)∧(∀ y∈nameOf (.slice ra k rc),y≠x∧s'.next≤y)∧aC [] s' s'')
    (fun k a' s''=>∃ ra rc,a'.aB 0=ptr h∧a'.aB 3=ptr g∧a'.aB 6=.slice (some ⟨vb,dM,none⟩) P.all.length ac∧a'.aB 7=int j∧a'.aB 8=ptr x∧a'.aB 9=int k∧Obj s'' x [int a,int (P.w a.toNat),int (P.aY a).r,int (P.aY a).d,int (P.aY a).k,.slice ra (k+1) rc,.slice none 0 0,.bool (P.pinned a)]∧bE s'' 3 1 (.slice ra (k+1) rc) (((P.refs a).take (k+1)).map int)∧(∀ y∈nameOf (.slice ra (k+1) rc),y≠x∧s'.next≤y)∧aC [] s' s'') ?_ ?_ ?_ ?_ (Nat.zero_le _) ?_
   ·rintro k a' s'' AP ⟨ra,rc,r0,r3,r6,r7,r8,r9,c8,bR,hR',fO⟩ aR bH;simp only[cD,seval,r8,r9,(DO c8).2.1,← Dy];refine bH _ _ (decide ((k:Int)<((P.cX a:Nat):Int))) ?_ (by simp) ⟨ra,rc,?_,?_,?_,?_,?_,?_,?_,bR,hR',fO⟩
    all_goals try simp only[cD,seval,r0,r3,r6,r7,r8,r9]
    exact c8
   ·rintro k a' s'' AP ⟨ra,rc,r0,r3,r6,r7,r8,r9,c8,bR,hR',fO⟩ aR w1 w2 w3;refine aA fun ZD AQ VE=>?_;simp only[cD,seval,r0,r8,r9,(DO c8).1];refine aJ ?_ (FZ fO.ok (H.aL (hk.trans fO)) G a k vA fun s6 k6=>?_)
    ·simp only[cD,seval]
    try simp only[cD,seval]
    refine AQ _ _ ?_;have c6:=c8.aD k6 (by simp);refine aA fun ri JV ij=>?_;simp only[cD,seval,r8,(DO c6).2.2.2.1];refine JV _ _ ?_;obtain⟨t1,f1,u1,d1,v1⟩:=cA k6.ok (L:=[int (P.ref a k)]) (n:=1) (e:=3) rfl;obtain⟨w,t2,q2,b2,u2,m2,a2,c2,rfl⟩:=iT (X:=X) (t:=62) (e:=3) (N:=1) (B:=8) (z:=.int .i64 0) (x:=.slice (some ⟨s6.next,0,none⟩) 1 1) (k:=1) (new:=[int (P.ref a k)]) (by kernel_rfl) (by kernel_rfl) rfl u1.ok (by omega) ((bR.aD k6 (by simp)).aD u1 (by simp)) rfl (kT (by omega) (d1.bD (i:=0) (k:=1) (Nat.le_refl _))) rfl rfl (by omega) (by omega);have xn:x∉nameOf (.slice ra k rc):=fun hh=>(hR' x hh).1 rfl;obtain⟨t3,q3,d3,u3⟩:=((c6.aD u1 (by simp)).aD u2 xn).gJ u2.ok (i:=5) (v:=.slice a2 (k+1) c2) (by simp) rfl;have hx8:=c8.lt fO.ok;have n86:=k6.next;have n61:=u1.next;have n08:=fO.next;have hn2:∀ y∈nameOf (.slice a2 (k+1) c2),y≠x∧s'.next≤y:=fun y hy=>by
     rcases m2 y hy with e | e
     ·exact hR' y e
     ·exact⟨by omega,by omega⟩
    have K6:aC [] s' t2:=((fO.trans k6).trans u1).step u2 fun y hy=>.inr (NK y (hR' y hy).2);simp only[cD,seval,r8];rw[f1];refine iX ?_ q2 ?_
    ·simp only[cD,seval]
    simp only[cD,seval,r8,q3];refine w1 _ _ ⟨a2,c2,?_,?_,?_,?_,?_,?_,d3,?_,hn2,stx K6 u3⟩
    ·simp only[cD,seval,r0]
    ·simp only[cD,seval,r3]
    ·simp only[cD,seval,r6]
    ·simp only[cD,seval,r7]
    ·simp only[cD,seval,r8]
    ·simp only[cD,seval,r9]
    ·rw[PH.aFy AP,List.map_append];exact b2.aD u3 fun y hy hy'=>(hn2 y hy).1 (List.mem_singleton.1 hy')
   ·rintro k a' s'' AP ⟨ra,rc,r0,r3,r6,r7,r8,r9,c8,bR,hR',fO⟩ aR w1;have w:IntKind.i64.wrap ((k:Int)+1)=((k+1:Nat):Int):=by rw[aU (by omega) (by omega)];rfl
    simp only[cD,seval,r9,w];refine w1 _ _ ⟨ra,rc,?_,?_,?_,?_,?_,?_,c8,bR,hR',fO⟩
    all_goals try simp only[cD,seval,r0,r3,r6,r7,r8]
   ·rintro a' s'' ⟨ra,rc,r0,r3,r6,r7,r8,r9,c8,bR,hR',fO⟩;refine ig _ _ (kV _ _ ?_);rw[List.take_of_length_le (by rw[PH.aFx];exact Nat.le_refl _)] at bR;obtain⟨s7,tS,tT,C7,B7,N7,K7,e7⟩:∃ s7 tS tT,Obj s7 x [int a,int (P.w a.toNat),int (P.aY a).r,int (P.aY a).d,int (P.aY a).k,.slice tS (P.cX a) tT,.slice none 0 0,.bool (P.pinned a)]∧bE s7 3 1 (.slice tS (P.cX a) tT) ((P.refs a).map int)∧(∀ y∈nameOf (.slice tS (P.cX a) tT),y≠x∧s'.next≤y)∧aC [] s' s7∧s7=s'':=⟨s'',ra,rc,c8,bR,hR',fO,rfl⟩;clear c8 bR hR' fO;subst e7;refine aA fun Sb OC Et=>?_;refine aA fun Sc JW Eu=>?_;simp only[cD,seval];refine JW _ _ ?_;refine cB fun Sd JX aAp Ev=>?_;refine gD (n:=P.pN a) (fun k a' s''=>∃ ra rc,a'.aB 0=ptr h∧a'.aB 3=ptr g∧a'.aB 6=.slice (some ⟨vb,dM,none⟩) P.all.length ac∧a'.aB 7=int j∧a'.aB 8=ptr x∧a'.aB 13=int k∧Obj s'' x [int a,int (P.w a.toNat),int (P.aY a).r,int (P.aY a).d,int (P.aY a).k,.slice tS (P.cX a) tT,.slice ra k rc,.bool (P.pinned a)]∧bE s'' 3 1 (.slice ra k rc) (((P.CK a).take k).map int)∧(∀ y∈nameOf (.slice ra k rc),y≠x∧s7.next≤y)∧aC [x] s7 s'')
     (fun k a' s''=>∃ ra rc,a'.aB 0=ptr h∧a'.aB 3=ptr g∧a'.aB 6=.slice (some ⟨vb,dM,none⟩) P.all.length ac∧a'.aB 7=int j∧a'.aB 8=ptr x∧a'.aB 13=int k∧Obj s'' x [int a,int (P.w a.toNat),int (P.aY a).r,int (P.aY a).d,int (P.aY a).k,.slice tS (P.cX a) tT,.slice ra (k+1) rc,.bool (P.pinned a)]∧bE s'' 3 1 (.slice ra (k+1) rc) (((P.CK a).take (k+1)).map int)∧(∀ y∈nameOf (.slice ra (k+1) rc),y≠x∧s7.next≤y)∧aC [x] s7 s'') ?_ ?_ ?_ ?_ (Nat.zero_le _) ?_
    ·rintro k a' s'' AP ⟨ra,rc,r0,r3,r6,r7,r8,iP,c8,bR,hR',fO⟩ aR bH;simp only[cD,seval,r8,iP,(DO c8).2.2.1,← T_];refine bH _ _ (decide ((k:Int)<((P.pN a:Nat):Int))) ?_ (by simp) ⟨ra,rc,?_,?_,?_,?_,?_,?_,?_,bR,hR',fO⟩
     all_goals try simp only[cD,seval,r0,r3,r6,r7,r8,iP]
     exact c8
    ·rintro k a' s'' AP ⟨ra,rc,r0,r3,r6,r7,r8,iP,c8,bR,hR',fO⟩ aR w1 w2 w3;have GC:aC [] s' s'':=stx K7 fO;refine aA fun aJ2 iq aAq=>?_;simp only[cD,seval,r0,r8,iP,(DO c8).1];refine aJ ?_ (U_ GC.ok (H.aL (hk.trans GC)) G a k vA fun s6 k6=>?_)
     ·simp only[cD,seval]
     try simp only[cD,seval]
     refine iq _ _ ?_;have c6:=c8.aD k6 (by simp);refine aA fun aJ3 iu aAr=>?_;simp only[cD,seval,r8,(DO c6).2.2.2.2];refine iu _ _ ?_;obtain⟨t1,f1,u1,d1,v1⟩:=cA k6.ok (L:=[int (P.MZ a k)]) (n:=1) (e:=3) rfl;obtain⟨w,t2,q2,b2,u2,m2,a2,c2,rfl⟩:=iT (X:=X) (t:=62) (e:=3) (N:=1) (B:=8) (z:=.int .i64 0) (x:=.slice (some ⟨s6.next,0,none⟩) 1 1) (k:=1) (new:=[int (P.MZ a k)]) (by kernel_rfl) (by kernel_rfl) rfl u1.ok (by omega) ((bR.aD k6 (by simp)).aD u1 (by simp)) rfl (kT (by omega) (d1.bD (i:=0) (k:=1) (Nat.le_refl _))) rfl rfl (by omega) (by omega);have xn:x∉nameOf (.slice ra k rc):=fun hh=>(hR' x hh).1 rfl;obtain⟨t3,q3,d3,u3⟩:=((c6.aD u1 (by simp)).aD u2 xn).gJ u2.ok (i:=6) (v:=.slice a2 (k+1) c2) (by simp) rfl;have hx8:=c8.lt fO.ok;have n86:=k6.next;have n61:=u1.next;have n08:=fO.next;have hx7:=C7.lt K7.ok;have hn2:∀ y∈nameOf (.slice a2 (k+1) c2),y≠x∧s7.next≤y:=fun y hy=>by
      rcases m2 y hy with e | e
      ·exact hR' y e
      ·exact⟨by omega,by omega⟩
     have K6:aC [x] s7 t2:=((fO.trans k6.any).trans u1.any).step u2 fun y hy=>.inr (K7.ok.fresh y (hR' y hy).2);simp only[cD,seval,r8];rw[f1];refine iX ?_ q2 ?_
     ·simp only[cD,seval]
     simp only[cD,seval,r8,q3];refine w1 _ _ ⟨a2,c2,?_,?_,?_,?_,?_,?_,d3,?_,hn2,K6.trans u3⟩
     ·simp only[cD,seval,r0]
     ·simp only[cD,seval,r3]
     ·simp only[cD,seval,r6]
     ·simp only[cD,seval,r7]
     ·simp only[cD,seval,r8]
     ·simp only[cD,seval,iP]
     ·rw[PH.Vz AP,List.map_append];exact b2.aD u3 fun y hy hy'=>(hn2 y hy).1 (List.mem_singleton.1 hy')
    ·rintro k a' s'' AP ⟨ra,rc,r0,r3,r6,r7,r8,iP,c8,bR,hR',fO⟩ aR w1;have w:IntKind.i64.wrap ((k:Int)+1)=((k+1:Nat):Int):=by rw[aU (by omega) (by omega)];rfl
     simp only[cD,seval,iP,w];refine w1 _ _ ⟨ra,rc,?_,?_,?_,?_,?_,?_,c8,bR,hR',fO⟩
     all_goals try simp only[cD,seval,r0,r3,r6,r7,r8]
    ·rintro a' s'' ⟨ra,rc,r0,r3,r6,r7,r8,iP,c8,bR,hR',fO⟩;refine aAp _ _ (OC _ _ ?_);have GC:aC [] s' s'':=stx K7 fO;have bV:bE s'' 3 1 (.slice tS (P.cX a) tT) ((P.refs a).map int):=B7.aD fO fun y hy hy'=>(N7 y hy).1 (List.mem_singleton.1 hy');have W8:=W.aL GC;have A8:=bA.aD GC (by simp);have l1:aI s''.look ⟨g,1,none⟩=some (.slice va L.length vc):=W8.c.load rfl;refine aA fun aJ4 iv aAt=>?_;simp only[cD,seval,r3,l1];refine iv _ _ ?_;have l8:=c8.bD (i:=0) (k:=8) (Nat.le_refl _);have ln:L.length=j:=hL;obtain⟨t1,f1,u1,d1,v1⟩:=cA fO.ok (L:=[int a,int (P.w a.toNat),int (P.aY a).r,int (P.aY a).d,int (P.aY a).k,.slice tS (P.cX a) tT,.slice ra (P.pN a) rc,.bool (P.pinned a)]) (n:=8) (e:=133) rfl;obtain⟨w,t2,q2,b2,u2,m2,a2,c2,rfl⟩:=iT (X:=X) (t:=128) (x:=.slice (some ⟨s''.next,0,none⟩) 1 1) (k:=1) (new:=[int a,int (P.w a.toNat),int (P.aY a).r,int (P.aY a).d,int (P.aY a).k,.slice tS (P.cX a) tT,.slice ra (P.pN a) rc,.bool (P.pinned a)]) IV xo rfl u1.ok (by omega) (W8.v.aD u1 (by simp)) rfl (kT (by omega) (d1.bD (i:=0) (k:=8) (Nat.le_refl _))) rfl rfl (by omega) (by omega);have gn:g∉nameOf (.slice va L.length vc):=fun hh=>(W.gv g hh).1 rfl;obtain⟨t3,q3,d3,u3⟩:=((W8.c.aD u1 (by simp)).aD u2 gn).gJ u2.ok (i:=1) (v:=.slice a2 (L.length+1) c2) (by simp) rfl;simp only[cD,seval,r3,r8,l8,List.drop_zero,List.take];rw[f1];refine iX ?_ q2 ?_
     ·simp only[cD,seval]
     simp only[cD,seval,r3,q3];obtain⟨y0,OA⟩:∃ y0:tA,y0=(a,Value.slice tS (P.cX a) tT,Value.slice ra (P.pN a) rc):=⟨_,rfl⟩;have eN:(L++[y0]).length=L.length+1:=by rw[List.length_append];rfl
     have Y5:g<s'.next:=W.c.lt hk.ok;have Hx:s'.next≤s''.next:=GC.next;have n2':s''.next≤t1.next:=u1.next;have n3':t1.next≤t3.next:=Nat.le_trans u2.next u3.next;have Qx:∀ y∈nameOf (.slice va L.length vc),y<s'.next:=W.v.lt hk.ok;have blt:∀ y∈nameOf (.slice ba P.N bc),y<s'.next:=W.b.lt hk.ok;have rlt:∀ y∈nameOf (.slice tS (P.cX a) tT),y<s''.next:=bV.lt fO.ok;rw[List.take_of_length_le (by rw[PH.Vy];exact Nat.le_refl _)] at bR;have Wc:∀ y∈nameOf (.slice ra (P.pN a) rc),y<s''.next:=bR.lt fO.ok;have n70:=K7.next;have hn2:∀ y,y<t1.next→y∉nameOf (.slice va L.length vc)→y∉nameOf (.slice a2 (L.length+1) c2):=fun y h1 h2 h3=>(m2 y h3).elim h2 fun h=>by omega
     have kp:∀ {z:tA},yA s'' P z→(∀ y,y∈nameOf z.2.1∨y∈nameOf z.2.2→y≠g∧y∉nameOf (.slice va L.length vc))→yA t3 P z:=fun hz hy=>((hz.aL u1).aD u2 fun y h=>(hy y h).2).aD u3 fun y h h'=>(hy y h).1 (List.mem_singleton.1 h');have kA:aC [] s t3:=(((hk.trans GC).trans u1).step u2 fun y hy=>.inr (hs.fresh y (by have:=(W.gv y hy).2.1;omega))).step u3 fun y hy=>.inr (by rw[List.mem_singleton.1 hy,hg];exact hs.fresh _ (Nat.le_refl _));have pO:g∉nameOf (.slice a2 (L.length+1) c2):=hn2 g (by omega) gn;refine w1 _ _ ⟨?_,?_,?_,?_,a2,c2,L++[y0],by rw[eN,hL],?_,⟨by rw[eN];exact d3,?_,?_,fun y hy=>?_,W.gb,fun z hz=>?_⟩,kA,?_,fun y hy=>?_⟩
     ·simp only[cD,seval,r0]
     ·simp only[cD,seval,r3]
     ·simp only[cD,seval,r6]
     ·simp only[cD,seval,r7]
     ·rw[List.map_append,ef,List.take_add_one,List.getElem?_eq_getElem hj,← ha,OA];rfl
     ·exact((W8.b.aD u1 (by simp)).aD u2 fun y h1 h2=>(W.gv y h2).2.2 h1).aD u3 fun y h1 h2=>W.gb y h1 (List.mem_singleton.1 h2)
     ·rw[eN,List.flatMap_append];refine bE.aD (s:=t2) ?_ u3 fun y h1 h2=>pO (by rw[← List.mem_singleton.1 h2];exact h1);have:[y0].flatMap P.KW=[int a,int (P.w a.toNat),int (P.aY a).r,int (P.aY a).d,int (P.aY a).k,.slice tS (P.cX a) tT,.slice ra (P.pN a) rc,.bool (P.pinned a)]:=by rw[OA];rfl
      rw[this];exact b2
     ·rw[eN] at hy;rcases m2 y hy with h | h
      ·exact W.gv y h
      ·exact⟨by omega,by omega,fun h'=>by have:=blt y h';omega⟩
     ·rw[eN];rcases List.mem_append.1 hz with h | h
      ·obtain⟨h1,h2⟩:=W8.cr z h;have h2':=(W.cr z h).2;exact⟨kp h1 fun y hy=>⟨(h2 y hy).1,(h2 y hy).2.1⟩,fun y hy=>⟨(h2 y hy).1,hn2 y (by have:=(h2' y hy).2.2;omega) (h2 y hy).2.1,by have:=(h2' y hy).2.2;omega⟩⟩
      ·rw[List.mem_singleton.1 h,OA];have sep:∀ y,y∈nameOf (.slice tS (P.cX a) tT)∨y∈nameOf (.slice ra (P.pN a) rc)→s'.next≤y∧y<s''.next:=fun y hy=>by
        rcases hy with hy | hy
        ·exact⟨(N7 y hy).2,rlt y hy⟩
        ·have:=(hR' y hy).2;exact⟨by omega,Wc y hy⟩
       refine⟨kp ⟨⟨_,_,rfl⟩,bV.sl,⟨_,_,rfl⟩,bR.sl⟩ fun y hy=>?_,fun y hy=>?_⟩
       ·obtain⟨q1,q2⟩:=sep y hy;exact⟨by omega,fun h'=>by have:=Qx y h';omega⟩
       ·obtain⟨q1,q2⟩:=sep y hy;exact⟨by omega,hn2 y (by omega) fun h'=>by have:=Qx y h';omega,by omega⟩
     ·exact((A8.aD u1 (by simp)).aD u2 fun y h1 h2=>(hA y h1).2.1 h2).aD u3 fun y h1 h2=>(hA y h1).1 (List.mem_singleton.1 h2)
     ·rw[eN];obtain⟨q1,q2,q3⟩:=hA y hy;exact⟨q1,hn2 y (by omega) q2,by omega⟩
    ·refine⟨none,0,?_,?_,?_,?_,?_,?_,C7,.nil,(by simp[nameOf]),.refl K7.ok⟩
     all_goals try simp only[cD,seval,r0,r3,r6,r7,r8]
     all_goals rfl
   ·refine⟨none,0,?_,?_,?_,?_,?_,?_,C4,.nil,(by simp[nameOf]),K4⟩
    all_goals try simp only[cD,seval,r0,r3,r6,r7]
    all_goals rfl
  ·rintro j a' s' hj ⟨r0,r3,r6,r7,hW⟩ aR w1;have w:IntKind.i64.wrap ((j:Int)+1)=((j+1:Nat):Int):=by rw[aU (by omega) (by omega)];rfl
   simp only[cD,seval,r7,w];refine w1 _ _ ⟨?_,?_,?_,?_,hW⟩
   all_goals try simp only[cD,seval,r0,r3,r6]
  ·rintro a' s' ⟨r0,r3,r6,r7,va,vc,L,hL,ef,W,hk,bA,hA⟩;refine sJ _ _ (bO _ _ ?_);simp only[cD,seval,r3];refine hΦ g L s' ⟨⟨ba,bc,va,vc,W.c,W.b.sl,W.v.sl⟩,by rw[ef,List.take_length],fun x hx=>(W.cr x hx).1,n2,bW⟩ hk (by omega)
  ·refine⟨?_,?_,?_,?_,Wi⟩
   all_goals try simp only[cD,seval,r0,r3]
   all_goals rfl
 ·refine⟨none,0,?_,?_,?_,c1,.nil,(by simp[nameOf]),k1⟩
  all_goals try simp only[cD,seval]
  all_goals rfl
end
open Go.Proofs
set_option maxRecDepth 100000
set_option maxHeartbeats 2000000
theorem ZX:∀ (L:List cJ) (a:Int),below L a≤L.length
 | [],_=>Nat.le_refl _
 | x::L,a=>by
  unfold below;rw[List.takeWhile_cons];split
  ·rw[List.length_cons,List.length_cons];have:=ZX L a;unfold below at this;omega
  ·exact Nat.zero_le _
theorem Th {L:List cJ} {a:Int} {j:Nat} (h:j<below L a) (hj:j<L.length):L[j].a<a:=by
 refine gN.ZY (L:=L) (a:=a) _ ?_;rw[List.mem_take_iff_getElem];exact⟨j,by omega,rfl⟩
theorem vf:∀ {L:List cJ} {a:Int} (h:below L a<L.length),¬ L[below L a].a<a
 | [],_,h=>absurd h (Nat.not_lt_zero _)
 | x::L,a,h=>by
  have e:below (x::L) a=if decide (x.a<a)=true then below L a+1 else 0:=by
   unfold below;rw[List.takeWhile_cons];split <;> rfl
  by_cases hx:x.a<a
  ·rw[if_pos (decide_eq_true hx)] at e;simp only[e] at h ⊢;exact vf (L:=L) (by simpa using h)
  ·rw[if_neg (by simpa using hx)] at e;simp only[e];exact hx
theorem nf (L:List cJ) (o:cJ):(sN L o).length=L.length+1:=by
 unfold sN;rw[List.length_append,List.length_append,List.length_take,List.length_drop];have:=ZX L o.a;simp only[List.length_cons,List.length_nil];omega
section
variable {kc:Kc} {q:Bool} {s:St} {Φ:Value→St→Prop} {g:Nat} {G:dD} {P:PH}
theorem lO:type_of% (An @RX<|An @lY<|An @mD<|An @zH<|An @oI<|An @uW<|An @aW<|An @DH<|An @SN<|@LG):=An @RX<|An @lY<|An @mD<|An @zH<|An @oI<|An @uW<|An @aW<|An @DH<|An @SN<|@LG
theorem aFw (hs:Ok s) (H:cE s g G) (o:cJ) (hr:Obj s o.rn (o.rs.map int)) (hd:Obj s o.dn (o.ds.map int)) (hn1:o.rn∉G.bF g) (hn2:o.dn∉G.bF g) (GF:o.rn≠o.dn) (hlen:G.L.length<2048)
  (hΦ:∀ va vc s',cE s' g {G with va:=va,vc:=vc,L:=sN G.L o}→aC [g] s s'→(∀ b∈nameOf (.slice va (sN G.L o).length vc),s.next≤b)→Φ (.tuple #[]) s') :
  okF q X (KO kc) 217 [ptr g,.agg #[int o.a,int o.id,int o.sh.r,int o.sh.d,int o.sh.k,.slice (some ⟨o.rn,0,none⟩) o.rs.length o.rs.length,.slice (some ⟨o.dn,0,none⟩) o.ds.length o.ds.length,.bool o.gH]] s Φ:=by
 have hg:g<s.next:=H.c.lt hs;have hbl:=ZX G.L o.a;have NX:=hr.lt hs;have hdl:=hd.lt hs;refine aV rfl A5 rfl (rs:=[]) rfl (N:=51) rfl rfl ?_;refine aA fun bB aF aZ=>?_;simp only[lO,seval];obtain⟨s1,e1,k1,c1,n1⟩:=cA hs (L:=o.C) (n:=8) (e:=133) rfl;unfold cJ.C at e1;rw[e1];refine aF _ _ ?_;have H1:=H.aL k1;have la:aI s1.look ⟨s.next,0,none⟩=some (int o.a):=c1.load rfl;refine aA fun Ψ1 aE aK=>?_;simp only[lO,seval];refine aE _ _ ?_;refine aA fun Ψ2 aH bM=>?_;refine cB fun Ψ3 aM oG bN=>?_;refine XA (n:=below G.L o.a) (fun j a' s'=>a'.aB 0=ptr g∧a'.aB 3=ptr s.next∧a'.aB 4=int j∧aC [] s1 s') ?_ ?_ ?_ (Nat.zero_le _) ?_
 ·rintro j a' s' hj ⟨r0,r3,r4,hk⟩ aR bH;have H':=H1.aL hk;have la':=tM hk (by simp) la;refine dH [] [] [(7,13)] (by kernel_rfl) (by kernel_rfl) (by rfl) fun O hO bK hR=>?_;have y7:∀ a,aN O a 7=bC (a.aB 13):=hO (7,13) (by simp);by_cases jO:j<G.L.length
  ·obtain⟨vb,dM,hv⟩:=H'.addr (show 0<G.L.length by omega);have g1:(0:Int)≤(j:Int):=Int.natCast_nonneg _;have g2:(j:Int)<((G.L.length:Nat):Int):=by omega
   have l1:=H'.l1;rw[hv] at l1;have lj:aI s'.look ⟨vb,dM+j*8,none⟩=some (int G.L[j].a):=H'.lo hv jO (j:=0) rfl;simp only[lO,seval,y7,r0,r3,r4,l1,g1,g2,and_self,bJ,Int.toNat_natCast,lj,la',decide_true];refine hR _ _ (bH _ _ (decide (G.L[j].a<o.a)) ?_ ?_ ⟨?_,?_,?_,hk.jJ _⟩)
   ·simp only[lO,seval]
   ·rw[decide_eq_true_eq];constructor
    ·intro h;rcases Nat.lt_or_ge j (below G.L o.a) with h' | h'
     ·exact h'
     ·obtain rfl:j=below G.L o.a:=by omega
      exact absurd h (vf jO)
    ·intro h;exact Th h jO
   ·simp only[lO,seval,r0]
   ·simp only[lO,seval,r3]
   ·simp only[lO,seval,r4]
  ·have g2:¬ (j:Int)<((G.L.length:Nat):Int):=by omega
   have l1:=H'.l1;simp only[lO,seval,y7,r0,r3,r4,l1,g2,decide_false];refine hR _ _ (bH _ _ false ?_ ?_ ⟨?_,?_,?_,hk.jJ _⟩)
   ·simp only[lO,seval]
   ·constructor
    ·intro h;cases h
    ·intro h;omega
   ·simp only[lO,seval,r0]
   ·simp only[lO,seval,r3]
   ·simp only[lO,seval,r4]
 ·rintro j a' s' hj ⟨r0,r3,r4,hk⟩ aR w1 w2 w3;have w:IntKind.i64.wrap ((j:Int)+1)=((j+1:Nat):Int):=by rw[aU (by omega) (by omega)];rfl
  simp only[lO,seval,r4,w];refine w1 _ _ ⟨?_,?_,?_,hk⟩
  all_goals try simp only[lO,seval,r0,r3]
 ·rintro a' s2 ⟨r0,r3,r4,hk⟩;refine oG _ _ (aH _ _ ?_);have H2:=H1.aL hk;have eC:=k1.trans hk;have c2:=c1.aD hk (by simp);refine aA fun Ψ4 aQ bZ=>?_;simp only[lO,seval];refine aQ _ _ ?_;refine aA fun cP bI cF=>?_;obtain⟨w1,qw,x1,f1⟩:=YJ (Y:=X) (t:=128) (lo:=none) (hi:=some (int (below G.L o.a))) (l:=0) (h:=below G.L o.a) IV YR (by omega) H2.cl (by omega) (by omega) (.inl ⟨rfl,rfl⟩) (.inr rfl);rw[Nat.zero_mul,List.drop_zero,dh cJ.pL] at f1;rw[Nat.sub_zero] at x1 f1;obtain⟨a3,c3,s3,e3,b3,k3,m3⟩:=MP (n:=0) (c:=0) (a:=none) hk.ok .nil (x:=.slice w1 (below G.L o.a) qw) rfl f1 (by rw[List.length_take];omega) (by omega);rw[Nat.zero_add,List.nil_append] at *;have k3:aC [] s2 s3:=k3;have m3:∀ b∈nameOf (.slice a3 (below G.L o.a) c3),s.next≤b:=fun b hb=>(m3 b hb).elim (fun h=>by cases h) (fun h=>by have:=eC.next;omega);simp only[lO,seval,r0,r4,H2.l1,x1];refine iX ?_ e3 ?_
  ·simp only[lO,seval]
  simp only[lO,seval];refine bI _ _ ?_;have H3:=H2.aL k3;have fF:=eC.trans k3;have qG:=c2.aD k3 (by simp);refine aA fun dK bO cV=>?_;have lC:bD s3.look ⟨s.next,0,none⟩ 8=some o.C:=qG.bD (i:=0) (k:=8) (Nat.le_refl _);unfold cJ.C at lC;obtain⟨s4,e4,k4,c4,n4⟩:=cA fF.ok (L:=o.C) (n:=8) (e:=133) rfl;have b4:=b3.aD k4 (by simp);have f4:jM s4.look 8 1 (.slice (some ⟨s3.next,0,none⟩) 1 1)=some ([o].flatMap cJ.C):=kT (by omega) (c4.bD (i:=0) (k:=8) (Nat.le_refl _));obtain⟨a5,c5,s5,e5,b5,k5,m5⟩:=MP k4.ok b4 (x:=.slice (some ⟨s3.next,0,none⟩) 1 1) rfl f4 rfl (by omega);unfold cJ.C at e4;simp only[lO,seval,r3,lC];rw[e4];refine iX ?_ e5 ?_
  ·simp only[lO,seval]
  simp only[lO,seval];refine bO _ _ ?_;have iW:=fF.trans k4;have mR:aC [] s s5:=iW.step k5 fun y hy=>.inr (hs.fresh y (m3 y hy));have m5:∀ b∈nameOf (.slice a5 (below G.L o.a+1) c5),s.next≤b:=fun b hb=>by
   rcases m5 b hb with h | h
   ·exact m3 b h
   ·have:=iW.next;omega
  have H5:=H.aL mR;obtain⟨w6,wc6,x6,f6⟩:=YJ (Y:=X) (t:=128) (lo:=some (int (below G.L o.a))) (hi:=none) (l:=below G.L o.a) (h:=G.L.length) IV YR (by omega) H5.cl hbl (by omega) (.inr rfl) (.inl ⟨rfl,rfl⟩);rw[de cJ.pL,List.take_of_length_le (by rw[uY cJ.pL,List.length_drop];omega)] at f6;obtain⟨a6,c6,s6,e6,b6,k6,m6⟩:=MP mR.ok b5 (x:=.slice w6 (G.L.length-below G.L o.a) wc6) rfl f6 (by rw[List.length_drop]) (by omega);simp only[lO,seval,r0,r4,H5.l1,x6];refine iX ?_ e6 ?_
  ·simp only[lO,seval]
  have fj:g∉nameOf (.slice a5 (below G.L o.a+1) c5):=fun h=>by have:=m5 _ h;omega
  obtain⟨s7,e7,o7,k7⟩:=((H5.c).aD k6 fj).gJ k6.ok (i:=1) (v:=.slice a6 (below G.L o.a+1+(G.L.length-below G.L o.a)) c6) (by simp) rfl;simp only[lO,seval,e7];have m6:∀ b∈nameOf (.slice a6 (below G.L o.a+1+(G.L.length-below G.L o.a)) c6),s.next≤b:=fun b hb=>by
   rcases m6 b hb with h | h
   ·exact m5 b h
   ·have:=mR.next;omega
  have eN:(sN G.L o).length=below G.L o.a+1+(G.L.length-below G.L o.a):=by rw[nf];omega
  have rI:aC [] s s6:=mR.step k6 fun y hy=>.inr (hs.fresh y (m5 y hy));have KB:aC [g] s s7:=rI.any.trans k7;have vC:=H.nd;have wK:=H.gO hs;have og:g∈G.bF g:=List.mem_append_left _ (List.mem_cons_self ..);refine hΦ a6 c6 s7 (H.Io KB (fun x _ hne hm=>hne (List.mem_singleton.1 hm)) ?_ ?_ (fun x hx=>?_) ?_ ?_ (by rw[nf];omega)) KB (by rw[eN];exact m6)
  ·rw[eN];exact o7
  ·rw[eN];have e:(sN G.L o).flatMap cJ.C=(G.L.take (below G.L o.a)).flatMap cJ.C++[o].flatMap cJ.C++(G.L.drop (below G.L o.a)).flatMap cJ.C:=by unfold sN;rw[List.flatMap_append,List.flatMap_append]
   rw[e];refine b6.aD k7 fun b hb FV=>?_;have:=m6 b hb;rw[List.mem_singleton.1 FV] at this;omega
  ·rcases gN.HH.1 hx with h | h
   ·have hne:x.rn≠g∧x.dn≠g:=by
     unfold dD.own at vC;rw[List.nodup_cons] at vC;exact⟨fun e=>vC.1 (by rw[← e];exact List.mem_cons_of_mem _ (List.mem_flatMap.2 ⟨x,h,by simp⟩)),fun e=>vC.1 (by rw[← e];exact List.mem_cons_of_mem _ (List.mem_flatMap.2 ⟨x,h,by simp⟩))⟩
    exact⟨(H.cr x h).1.aD KB (by simpa using hne.1),(H.cr x h).2.aD KB (by simpa using hne.2)⟩
   ·rw[h];exact⟨hr.aD KB (by simp;intro e;exact hn1 (by rw[e];exact og)),hd.aD KB (by simp;intro e;exact hn2 (by rw[e];exact og))⟩
  ·have h1:o.rn∉G.own g:=fun h=>hn1 (List.mem_append_left _ h);have h2:o.dn∉G.own g:=fun h=>hn2 (List.mem_append_left _ h);have hp:(({G with L:=sN G.L o}:dD).own g).Perm (o.rn::o.dn::G.own g):=by
    unfold dD.own sN;simp only[List.flatMap_append,List.flatMap_cons,List.flatMap_nil,List.append_nil];have e0:(G.L.flatMap fun o=>[o.rn,o.dn])=((G.L.take (below G.L o.a)).flatMap fun o=>[o.rn,o.dn])++((G.L.drop (below G.L o.a)).flatMap fun o=>[o.rn,o.dn]):=by rw[← List.flatMap_append,List.take_append_drop]
    rw[e0];generalize ((G.L.take (below G.L o.a)).flatMap fun o=>[o.rn,o.dn])=A;generalize ((G.L.drop (below G.L o.a)).flatMap fun o=>[o.rn,o.dn])=B;have p1:(g::G.bn::(A++[o.rn,o.dn]++B))=(g::G.bn::A)++([o.rn,o.dn]++B):=by simp
    have p2:o.rn::o.dn::g::G.bn::(A++B)=[o.rn,o.dn]++((g::G.bn::A)++B):=by simp
    rw[p1,p2,← List.append_assoc,← List.append_assoc];exact List.Perm.append_right B List.perm_append_comm
   rw[hp.nodup_iff,List.nodup_cons,List.nodup_cons];exact⟨by simp only[List.mem_cons,not_or];exact⟨GF,h1⟩,h2,vC⟩
  ·rw[eN];intro b hb hm;have h1:=m6 b hb;have h2:b<s.next:=by
    unfold dD.own at hm;rcases List.mem_cons.1 hm with h | h
    ·omega
    ·rcases List.mem_cons.1 h with h | h
     ·rw[h];exact wK _ (List.mem_append_left _ (List.mem_cons_of_mem _ (List.mem_cons_self ..)))
     ·obtain⟨x,hx,JM⟩:=List.mem_flatMap.1 h;rcases gN.HH.1 hx with h' | h'
      ·exact wK _ (List.mem_append_left _ (List.mem_cons_of_mem _ (List.mem_cons_of_mem _ (List.mem_flatMap.2 ⟨x,h',JM⟩))))
      ·subst h';simp only[List.mem_cons,List.not_mem_nil,or_false] at JM;rcases JM with rfl | rfl <;> assumption
   omega
 ·refine⟨?_,?_,?_,.refl k1.ok⟩
  all_goals try simp only[lO,seval]
  try rfl
end
end Go.Dust
