/- VerifyDamage walked in D, function by function, and its plain law (C5 C6 C7 C8 C9 C10 C11). -/
import Derived.Test.YtaoiejcaopgjcaaGreatF
set_option linter.unusedVariables false
set_option linter.unusedSimpArgs false
namespace Go.Dust
open Go.Proofs
set_option maxRecDepth 100000
set_option maxHeartbeats 1000000
abbrev i64 (a:Int):Prop:=-9223372036854775808≤a∧a≤9223372036854775807
def PH.find (P:PH) (a:Int):Option Int:=if 0≤a∧a<64*P.N then
  (match qM P.S 1 (a/2+1).toNat with
  | some i=>if a≥2*i+P.size (2*i) then none else some (2*i)
  | none=>none) else none
theorem XU {L:Nat→Nat} {v:Int}:∀ {k i:Nat},qM L v k=some i→i<k∧(L i:Int)=v
 | k+1,i,h=>by
  rw[qM] at h;split at h
  ·cases h;exact⟨by omega,by assumption⟩
  ·have:=XU h;exact⟨by omega,this.2⟩
section
variable {kc:Kc} {q:Bool} {s:St} {Φ:Value→St→Prop} {h:Nat} {P:PH}
theorem NG:type_of% (B4 @RX @pO @pW @wD):=B4 @RX @pO @pW @wD
theorem GX (H:bK s h P) (hΦ:Φ (int P.N) s):okF q X (KO kc) 17 [ptr h] s Φ:=by
 refine aW Tryz.func17 (by kernel_rfl) rfl rfl (rs:=[.tmp 2]) rfl (N:=11) rfl rfl ?_;refine aA fun bF aF bD=>?_;simp only[NG,seval];refine aF _ _ ?_;refine aA fun Ψ1 aE aL=>?_;refine aA fun Ψ2 aI bH=>?_;simp only[NG,seval];refine aH ?_ (vR H ?_)
 ·simp only[NG,seval]
 try simp only[NG,seval]
 refine aI _ _ ?_;simp only[NG,seval];refine aE _ _ ?_;simp only[NG,seval,H.l0];exact hΦ
theorem wM:type_of% (B6 @RX @pO @pW @vY @KM @bG):=B6 @RX @pO @pW @vY @KM @bG
theorem Eb (H:bK s h P) (b:Int) (hΦ:Φ (int (if 0≤b∧b<P.N then P.bs b.toNat else -1)) s):okF q X (KO kc) 116 [ptr h,int b] s Φ:=by
 refine aW Tryz.func116 (by kernel_rfl) rfl rfl (rs:=[.tmp 4]) rfl (N:=21) rfl rfl ?_;refine aA fun bF aF bD=>?_;simp only[wM,seval];refine aF _ _ ?_;refine aA fun Ψ1 aE aL=>?_;refine aA fun Ψ2 aI bH=>?_;refine cL [(2,7)] (by kernel_rfl) fun O hO bC hR=>?_;have y2:∀ a,aO O a 2=aY (a.aB 7):=hO (2,7) (by simp);by_cases h0:b<0
 ·simp only[wM,seval,y2,h0,decide_true];refine hR _ _ (aI _ _ ?_);simp only[wM,seval];refine aL _ _ _ (by simp) ?_;simp only[wM,seval];rw[if_neg (by omega)] at hΦ;exact hΦ
 ·simp only[wM,seval,y2,h0,decide_false];refine aH ?_ (GX H ?_)
  ·simp only[wM,seval]
  by_cases h1:b≥P.N
  ·simp only[wM,seval,y2,h1,decide_true];refine hR _ _ (aI _ _ ?_);simp only[wM,seval];refine aL _ _ _ (by simp) ?_;simp only[wM,seval];rw[if_neg (by omega)] at hΦ;exact hΦ
  ·simp only[wM,seval,y2,h1,decide_false];refine hR _ _ (aI _ _ ?_);simp only[wM,seval];refine aE _ _ ?_;have g1:0≤b:=by omega
   have g2:b<(P.N:Int):=by omega
   have l:=H.lb (i:=b.toNat) (by omega);simp only[wM,seval,H.l0,g1,g2,and_self,bQ,Nat.zero_add,l];rw[if_pos ⟨g1,g2⟩] at hΦ;exact hΦ
theorem wO:type_of% (B6 @RX @pO @pW @vY @VC @bG):=B6 @RX @pO @pW @vY @VC @bG
theorem J4 (H:bK s h P) (b:Int) (hΦ:Φ (int (if 0≤b∧b<P.N then P.bp b.toNat else -1)) s):okF q X (KO kc) 117 [ptr h,int b] s Φ:=by
 refine aW Tryz.func117 (by kernel_rfl) rfl rfl (rs:=[.tmp 4]) rfl (N:=21) rfl rfl ?_;refine aA fun bF aF bD=>?_;simp only[wO,seval];refine aF _ _ ?_;refine aA fun Ψ1 aE aL=>?_;refine aA fun Ψ2 aI bH=>?_;refine cL [(2,7)] (by kernel_rfl) fun O hO bC hR=>?_;have y2:∀ a,aO O a 2=aY (a.aB 7):=hO (2,7) (by simp);by_cases h0:b<0
 ·simp only[wO,seval,y2,h0,decide_true];refine hR _ _ (aI _ _ ?_);simp only[wO,seval];refine aL _ _ _ (by simp) ?_;simp only[wO,seval];rw[if_neg (by omega)] at hΦ;exact hΦ
 ·simp only[wO,seval,y2,h0,decide_false];refine aH ?_ (GX H ?_)
  ·simp only[wO,seval]
  by_cases h1:b≥P.N
  ·simp only[wO,seval,y2,h1,decide_true];refine hR _ _ (aI _ _ ?_);simp only[wO,seval];refine aL _ _ _ (by simp) ?_;simp only[wO,seval];rw[if_neg (by omega)] at hΦ;exact hΦ
  ·simp only[wO,seval,y2,h1,decide_false];refine hR _ _ (aI _ _ ?_);simp only[wO,seval];refine aE _ _ ?_;have g1:0≤b:=by omega
   have g2:b<(P.N:Int):=by omega
   have l:=H.lp (i:=b.toNat) (by omega);simp only[wO,seval,H.l0,g1,g2,and_self,bQ,Nat.zero_add,l];rw[if_pos ⟨g1,g2⟩] at hΦ;exact hΦ
theorem J_ (b:Int) (hΦ:Φ (.bool (decide (0≤b∧b<8))) s):okF q X (KO kc) 225 [int b] s Φ:=by
 refine aW Tryz.func225 (by kernel_rfl) rfl rfl (rs:=[.tmp 2]) rfl (N:=9) rfl rfl ?_;refine aA fun bF aF bD=>?_;simp only[RX,seval];refine aF _ _ ?_;refine aA fun Ψ1 aE aL=>?_;refine cL [(2,5)] (by kernel_rfl) fun O hO bC hR=>?_;have y2:∀ a,aO O a 2=aY (a.aB 5):=hO (2,5) (by simp);by_cases h0:b≥0
 ·simp only[RX,seval,y2,h0,decide_true];refine hR _ _ (aE _ _ ?_);simp only[RX,seval];rw[show decide (0≤b∧b<8)=decide (b<8) from by simp[h0]] at hΦ;exact hΦ
 ·simp only[RX,seval,y2,h0,decide_false];refine hR _ _ (aE _ _ ?_);simp only[RX,seval];rw[decide_eq_false (by omega)] at hΦ;exact hΦ
theorem JF:type_of% (B4 @RX @pO @pW @wD):=B4 @RX @pO @pW @wD
theorem K_ (H:bK s h P) (b:Int) (hΦ:Φ (.bool (decide (1≤b∧b<P.N))) s):okF q X (KO kc) 224 [ptr h,int b] s Φ:=by
 refine aW Tryz.func224 (by kernel_rfl) rfl rfl (rs:=[.tmp 4]) rfl (N:=20) rfl rfl ?_;refine aA fun bF aF bD=>?_;simp only[JF,seval];refine aF _ _ ?_;refine aA fun Ψ1 aE aL=>?_;refine cL [(2,7),(6,11)] (by kernel_rfl) fun O hO bC hR=>?_;have y2:∀ a,aO O a 2=aY (a.aB 7):=hO (2,7) (by simp);have y6:∀ a,aO O a 6=aY (a.aB 11):=hO (6,11) (by simp);simp only[JF,seval];refine aH ?_ (vR H ?_)
 ·simp only[JF,seval]
 by_cases h0:b≥1
 ·simp only[JF,seval,y2,y6,h0,decide_true,H.l0];refine hR _ _ (aE _ _ ?_);simp only[JF,seval];rw[show decide (1≤b∧b<(P.N:Int))=decide (b<(P.N:Int)) from by simp[h0]] at hΦ;exact hΦ
 ·simp only[JF,seval,y2,y6,h0,decide_false];refine hR _ _ (aE _ _ ?_);simp only[JF,seval];rw[decide_eq_false (by omega)] at hΦ;exact hΦ
def CB (o:Option Int):Value:=match o with
 | some a=>.tuple #[int a,int 0]
 | none=>.tuple #[int 0,int 4]
theorem kN:type_of% (B6 @RX @gY @dF @dV @tL @oM):=B6 @RX @gY @dF @dV @tL @oM
theorem js (hs:Ok s) (H:bK s h P) (a:Int) (hΦ:∀ s',aC [] s s'→Φ (CB (P.find a)) s'):okF q X (KO kc) 18 [ptr h,int a] s Φ:=by
 have bY:=H.bY;unfold PH.find at hΦ;refine aW Tryz.func18 (by kernel_rfl) rfl rfl (rs:=[.tmp 4,.tmp 5]) rfl (N:=48) rfl rfl ?_;refine aA fun bF aF bD=>?_;simp only[kN,seval];refine aF _ _ ?_;refine aA fun Ψ1 aE aL=>?_;refine aA fun Ψ2 aI bH=>?_;simp only[kN,seval];refine aH ?_ (vR H ?_)
 ·simp only[kN,seval]
 try simp only[kN,seval]
 refine aI _ _ ?_;simp only[kN,seval];refine aE _ _ ?_;refine aA fun Ψ3 aN bM=>?_;refine aA fun Ψ4 aP cC=>?_;refine cL [(2,13)] (by kernel_rfl) fun O hO bC hR=>?_;have y2:∀ a,aO O a 2=aY (a.aB 13):=hO (2,13) (by simp);by_cases h0:a<0
 ·simp only[kN,seval,y2,h0,decide_true];refine hR _ _ (aP _ _ ?_);simp only[kN,seval];refine bM _ _ _ (by simp) ?_;simp only[kN,seval];rw[if_neg (by omega)] at hΦ;exact hΦ _ (.refl hs)
 by_cases h1:a≥((64*P.N:Nat):Int)
 ·simp only[kN,seval,y2,h0,decide_false,H.l1,h1,decide_true];refine hR _ _ (aP _ _ ?_);simp only[kN,seval];refine bM _ _ _ (by simp) ?_;simp only[kN,seval];rw[if_neg (by omega)] at hΦ;exact hΦ _ (.refl hs)
 simp only[kN,seval,y2,h0,decide_false,H.l1,h1];refine hR _ _ (aP _ _ ?_);simp only[kN,seval];refine aN _ _ ?_;have e1:IntKind.i64.wrap (a.tdiv 2)=a/2:=by rw[Int.tdiv_eq_ediv_of_nonneg (by omega),aU (by omega) (by omega)]
 have e2:IntKind.i64.wrap (a/2+1)=a/2+1:=aU (by omega) (by omega);rw[if_pos ⟨by omega,by omega⟩] at hΦ;refine aA fun cU aZ cK=>?_;simp only[kN,seval,H.l2,e1,e2];refine aH ?_ (aG8 hs H.ts (a/2+1) 1 fun s2 k2=>?_)
 ·simp only[kN,seval]
 rw[show (min (max (a/2+1) 0) ((32*P.N:Nat):Int)).toNat=(a/2+1).toNat by omega];have H2:=H.aJ k2;cases hl:qM P.S 1 (a/2+1).toNat with
 | none =>
  rw[hl] at hΦ;simp only[kN,seval];refine aZ _ _ ?_;refine aA fun dN bO cZ=>?_;refine aA fun fE cG dX=>?_;refine cL [(2,35)] (by kernel_rfl) fun O hO bC hR=>?_;have y2:∀ a,aO O a 2=aY (a.aB 35):=hO (2,35) (by simp);simp only[kN,seval,y2];refine hR _ _ (cG _ _ ?_);simp only[kN,seval];refine cZ _ _ _ (by simp) ?_;simp only[kN,seval];exact hΦ _ k2
 | some i =>
  have hi:=(XU hl).1;rw[hl] at hΦ;simp only at hΦ;have hw:=cO.CZ (P.shape (2*i));unfold PH.size at hΦ;have e3:IntKind.i64.wrap (2*(i:Int))=2*i:=aU (by omega) (by omega);simp only[kN,seval];refine aZ _ _ ?_;refine aA fun dN bO cZ=>?_;refine aA fun fE cG dX=>?_;refine cL [(2,35)] (by kernel_rfl) fun O hO bC hR=>?_;have y2:∀ a,aO O a 2=aY (a.aB 35):=hO (2,35) (by simp);simp only[kN,seval,y2,e3];refine aH ?_ (Eh k2.ok H2 (a:=2*i) (by omega) (by omega) fun s3 k3=>?_)
  ·simp only[kN,seval]
  have e4:IntKind.i64.wrap (2*(i:Int)+P.size (2*i))=2*i+P.size (2*i):=by unfold PH.size;exact aU (by omega) (by omega)
  by_cases h2:a≥2*(i:Int)+P.size (2*i)
  ·simp only[kN,seval,y2,e4,h2,decide_true];refine hR _ _ (cG _ _ ?_);simp only[kN,seval];refine cZ _ _ _ (by simp) ?_;simp only[kN,seval];unfold PH.size at h2;rw[if_pos h2] at hΦ;exact hΦ _ (k2.trans k3)
  ·simp only[kN,seval,y2,e4,h2,decide_false];refine hR _ _ (cG _ _ ?_);simp only[kN,seval];refine bO _ _ ?_;simp only[kN,seval,e3];unfold PH.size at h2;rw[if_neg h2] at hΦ;exact hΦ _ (k2.trans k3)
theorem OM:∀ {es:List MapEntry} {M:List (Int×Value)} {k:Int} {i:Nat},es.map (fun e=>(e.key,e.val))=M.map (fun p=>(int p.1,p.2))→M.lookup k=none→mE (int k) es i=some none
 | [],M,k,i,h,hl=>rfl
 | e::es,[],k,i,h,hl=>by simp at h
 | e::es,(x,v)::M,k,i,h,hl=>by
  simp only[List.map_cons,List.cons.injEq,Prod.mk.injEq] at h;obtain⟨⟨h1,h2⟩,h3⟩:=h;have hne:(k==x)=false:=by
   cases hb:(k==x) with
   | false=>rfl
   | true=>rw[List.lookup_cons,hb] at hl;cases hl
  rw[List.lookup_cons,hne] at hl;rw[mE,h1];simp only[vZ,if_true,hne];exact OM h3 hl
theorem gz:∀ {es:List MapEntry} {M:List (Int×Value)} {k:Int} {i:Nat} {v:Value},es.map (fun e=>(e.key,e.val))=M.map (fun p=>(int p.1,p.2))→M.lookup k=some v→∃ j,mE (int k) es i=some (some (i+j,v))∧M[j]?=some (k,v)∧∀ j' y,j'<j→M[j']?=some y→y.1≠k
 | [],M,k,i,v,h,hl=>by
  have:M=[]:=by simpa using h.symm
  subst this;cases hl
 | e::es,[],k,i,v,h,hl=>by simp at h
 | e::es,(x,u)::M,k,i,v,h,hl=>by
  simp only[List.map_cons,List.cons.injEq,Prod.mk.injEq] at h;obtain⟨⟨h1,h2⟩,h3⟩:=h;rw[mE,h1];simp only[vZ,if_true];cases hb:(k==x) with
  | true =>
   rw[List.lookup_cons,hb] at hl;cases hl;have hk:k=x:=by simpa using hb
   subst hk;exact⟨0,by simp[h2],rfl,fun j' y hj=>absurd hj (Nat.not_lt_zero _)⟩
  | false =>
   rw[List.lookup_cons,hb] at hl;obtain⟨j,hj,hM,hn⟩:=gz (i:=i+1) h3 hl;refine⟨j+1,by simp only[hj];congr 3;omega,hM,fun j' y DZ hy=>?_⟩;cases j' with
   | zero=>cases hy;simpa using fun e=>by simp[e] at hb
   | succ j'=>exact hn j' y (by omega) hy
theorem Jb {M:List (Int×Int)} {k:Int}:(M.map fun p=>(p.1,int p.2)).lookup k=(M.lookup k).map int:=by
 induction M with
 | nil=>rfl
 | cons p M ih =>
  rcases p with ⟨x,y⟩;rw[List.map_cons,List.lookup_cons,List.lookup_cons,ih];cases (k==x) <;> rfl
theorem fV.find {s:St} {b:Nat} {M:List (Int×Value)} (h:fV s b M) (k:Int):∃ es aR,mapOf s.look b=some (es,aR)∧((M.lookup k=none∧mE (int k) es 0=some none)∨∃ v i,M.lookup k=some v∧mE (int k) es 0=some (some (i,v))):=by
 obtain⟨es,aR,bB,h1,h2,_⟩:=h;refine⟨es,aR,by simp only[mapOf,St.look,h1],?_⟩;cases hl:M.lookup k with
 | none=>exact .inl ⟨rfl,OM h2 hl⟩
 | some v =>
  obtain⟨j,hj,_⟩:=gz (i:=0) h2 hl;exact .inr ⟨v,_,rfl,hj⟩
theorem CP:type_of% (B4 @RX @BM @BU @Ir):=B4 @RX @BM @BU @Ir
theorem H_ (H:bK s h P) (id:Int) (hΦ:Φ (CB (P.M.lookup id)) s):okF q X (KO kc) 164 [ptr h,int id] s Φ:=by
 refine aW Tryz.func164 (by kernel_rfl) rfl rfl (rs:=[.tmp 4,.tmp 5]) rfl (N:=23) rfl rfl ?_;refine aA fun bF aF bD=>?_;simp only[CP,seval];refine aF _ _ ?_;refine aA fun Ψ1 aE aL=>?_;refine aA fun Ψ2 aI bH=>?_;simp only[CP,seval];refine aH ?_ (vR H ?_)
 ·simp only[CP,seval]
 try simp only[CP,seval]
 refine aI _ _ ?_;simp only[CP,seval];refine aE _ _ ?_;refine aA fun Ψ3 aN bM=>?_;obtain⟨es,aR,hm,hf⟩:=H.mp.find id;rw[Jb] at hf;rcases hf with ⟨h1,h2⟩ | ⟨v,i,h1,h2⟩
 ·have h1':P.M.lookup id=none:=by
   cases hl:P.M.lookup id with
   | none=>rfl
   | some v=>rw[hl] at h1;cases h1
  rw[h1'] at hΦ;simp only[CP,seval,H.l4,hm,h2];refine aN _ _ ?_;simp only[CP,seval];exact hΦ
 ·obtain⟨y,hy,rfl⟩:∃ y,P.M.lookup id=some y∧v=int y:=by
   cases hl:P.M.lookup id with
   | none=>rw[hl] at h1;cases h1
   | some y=>rw[hl] at h1;cases h1;exact⟨y,rfl,rfl⟩
  rw[hy] at hΦ;simp only[CP,seval,H.l4,hm,h2];refine aN _ _ ?_;simp only[CP,seval];exact hΦ
theorem CW:type_of% (B5 @RX @gY @dF @dQ @bG):=B5 @RX @gY @dF @dQ @bG
theorem jt (hs:Ok s) (H:bK s h P) (a:Int) (ha:i64 a) (hΦ:∀ s',aC [] s s'→Φ (if P.has a=true then .tuple #[int (P.w a.toNat),int 0] else .tuple #[int 0,int 4]) s'):okF q X (KO kc) 38 [ptr h,int a] s Φ:=by
 refine aW Tryz.func38 (by kernel_rfl) rfl rfl (rs:=[.tmp 4,.tmp 5]) rfl (N:=20) rfl rfl ?_;refine aA fun bF aF bD=>?_;simp only[CW,seval];refine aF _ _ ?_;refine aA fun Ψ1 aE aL=>?_;refine aA fun Ψ2 aI bH=>?_;simp only[CW,seval];refine aH ?_ (PG hs H a ha fun s2 k2=>?_)
 ·simp only[CW,seval]
 have H2:=H.aJ k2;cases hh:P.has a with
 | false =>
  rw[hh] at hΦ;simp only[CW,seval];refine aI _ _ ?_;simp only[CW,seval];refine aL _ _ _ (by simp) ?_;simp only[CW,seval];exact hΦ _ k2
 | true =>
  have hb:=PH.jG.1 hh;rw[hh] at hΦ;have g1:0≤a:=hb.1;have g2:a<((64*P.N:Nat):Int):=by omega
  have l:=H2.lw (i:=a.toNat) (by omega);simp only[CW,seval];refine aI _ _ ?_;simp only[CW,seval];refine aE _ _ ?_;simp only[CW,seval,H2.l1,g1,g2,and_self,bQ,Nat.zero_add,Nat.mul_one,l];exact hΦ _ k2
theorem wP:type_of% (B9 @RX @mB @JY @lE @gY @dF @dQ @bG @gL):=B9 @RX @mB @JY @lE @gY @dF @dQ @bG @gL
theorem J3 (hs:Ok s) (H:bK s h P) (a:Int) (ha:i64 a) (hΦ:∀ s',aC [] s s'→Φ (if P.has a=true then .tuple #[pK (P.shape a),int 0] else .tuple #[pK ⟨0,0,0⟩,int 4]) s'):okF q X (KO kc) 13 [ptr h,int a] s Φ:=by
 refine aW Tryz.func13 (by kernel_rfl) rfl rfl (rs:=[.cell 4 44,.tmp 5]) rfl (N:=23) rfl rfl ?_;refine aA fun bF aF bD=>?_;simp only[wP,seval];obtain⟨s1,e1,k1,c1,_⟩:=cI hs (L:=[int 0,int 0,int 0]) (n:=3) (e:=44) rfl;rw[e1];refine aF _ _ ?_;refine aA fun Ψ1 aE aL=>?_;refine aA fun Ψ2 aI bH=>?_;simp only[wP,seval];refine aH ?_ (PG k1.ok (H.aJ k1) a ha fun s2 k2=>?_)
 ·simp only[wP,seval]
 have k12:=k1.trans k2;have H2:=H.aJ k12;have c2:=c1.aD k2 (by simp);cases hh:P.has a with
 | false =>
  rw[hh] at hΦ;obtain⟨s3,h3,c3,k3⟩:=c2.storeAll k2.ok (vs:=[int 0,int 0,int 0]) rfl rfl;have k4:aC [] s s3:=k12.step k3 fun g hg=>.inr (by rw[List.mem_singleton.1 hg];exact hs.fresh _ (Nat.le_refl _));have l3:=c3.bI (i:=0) (k:=3) (Nat.le_refl _);simp only[wP,seval];refine aI _ _ ?_;simp only[wP,seval,h3];refine aL _ _ _ (by simp) ?_;simp only[wP,seval,l3,List.drop_zero,List.take];exact hΦ _ k4
 | true =>
  have hb:=PH.jG.1 hh;rw[hh] at hΦ;have bY:=H.bY;have e1:IntKind.i64.wrap (a+1)=a+1:=aU (by omega) (by omega);have g1:0≤a+1:=by omega
  have g2:a+1<((64*P.N:Nat):Int):=by omega
  have l:=H2.lw (i:=(a+1).toNat) (by omega);simp only[wP,seval];refine aI _ _ ?_;simp only[wP,seval];refine aE _ _ ?_;refine aA fun Ψ3 aN bM=>?_;simp only[wP,seval,H2.l1,e1,g1,g2,and_self,bQ,Nat.zero_add,Nat.mul_one,l];refine aH ?_ (WA k2.ok (P.w (a+1).toNat) (H.wr _) fun s3 k3=>?_)
  ·simp only[wP,seval]
  have c3:=c2.aD k3 (by simp);obtain⟨s4,h4,c4,k4⟩:=c3.storeAll k3.ok (vs:=[int (P.shape a).r,int (P.shape a).d,int (P.shape a).k]) rfl rfl;have k5:aC [] s s4:=(k12.trans k3).step k4 fun g hg=>.inr (by rw[List.mem_singleton.1 hg];exact hs.fresh _ (Nat.le_refl _));have l4:=c4.bI (i:=0) (k:=3) (Nat.le_refl _);unfold PH.shape at h4;simp only[wP,seval,h4];refine aN _ _ ?_;simp only[wP,seval,l4,List.drop_zero,List.take];exact hΦ _ k5
end
open Go.Proofs
set_option maxRecDepth 100000
set_option maxHeartbeats 1000000
namespace PH
variable (P:PH)
def many (a:Int) (data:Bool):Int:=if data=true then(P.shape a).d else(P.shape a).r
def first (a:Int) (data:Bool):Int:=if data=true then a+2+(P.shape a).r else a+2
def dR (a i:Int) (data:Bool):Int:=if P.has a=true then(if i<0∨i≥P.many a data then 1 else 0) else 4
def dP (a i:Int) (data:Bool):Int:=if P.dR a i data=0 then P.first a data+i else 0
def eH (i:Int) (v:Int):PH:={P with w:=fun j=>if j=i.toNat then v else P.w j}
theorem sN {P:PH} {a i:Int} {data:Bool} (h:P.dR a i data=0):P.has a=true∧0≤i∧i<P.many a data:=by
 unfold dR at h;split at h
 ·rename_i hh;split at h
  ·cases h
  ·rename_i hn;exact⟨hh,by omega,by omega⟩
 ·cases h
theorem qH {P:PH} (G:P.bX) {a i:Int} {data:Bool} (h:P.dR a i data=0):P.dP a i data=P.first a data+i∧a+2≤P.dP a i data∧P.dP a i data<a+P.size a∧P.dP a i data<64*P.N∧0≤P.dP a i data:=by
 obtain⟨h1,h2,h3⟩:=sN h;obtain⟨v1,v2⟩:=G.val a h1;have hv:=cO.nX.1 v1;have hw:=cO.uC v1;have hb:=PH.jG.1 h1;have e:P.dP a i data=P.first a data+i:=by unfold dP;rw[if_pos h]
 unfold PH.size at v2 ⊢;refine⟨e,?_⟩;rw[e];cases data with
 | false =>
  have h3':i<(P.shape a).r:=h3;rw[show P.first a false=a+2 from rfl];omega
 | true =>
  have h3':i<(P.shape a).d:=h3;rw[show P.first a true=a+2+(P.shape a).r from rfl];omega
end PH
section
variable {kc:Kc} {q:Bool} {s:St} {Φ:Value→St→Prop} {h:Nat} {P:PH}
theorem aGv (x:Int):-16<x.tmod 16∧x.tmod 16<16:=by
 have h1:=Int.natAbs_tmod x 16;have h2:=Nat.mod_lt x.natAbs (show 0<(16:Int).natAbs by decide);omega
theorem aGr (x:Int):-256<(x.tmod 4096).tdiv 16∧(x.tmod 4096).tdiv 16<256:=by
 have h1:=Int.natAbs_tmod x 4096;have h2:=Nat.mod_lt x.natAbs (show 0<(4096:Int).natAbs by decide);have h3:((x.tmod 4096).tdiv 16).natAbs=(x.tmod 4096).natAbs/16:=Int.natAbs_tdiv (x.tmod 4096) 16;have h4:(x.tmod 4096).natAbs<4096:=by omega
 omega
theorem iP:type_of% (B9 @RX @gY @dF @dQ @bG @mB @lE @kJ @mD):=B9 @RX @gY @dF @dQ @bG @mB @lE @kJ @mD
theorem VZ (hs:Ok s) (H:bK s h P) (a i:Int) (ha:i64 a) (data:Bool) (hΦ:∀ s',aC [] s s'→Φ (.tuple #[int (P.dP a i data),int (P.dR a i data)]) s'):okF q X (KO kc) 130 [ptr h,int a,int i,.bool data] s Φ:=by
 unfold PH.dP PH.dR at hΦ;refine aW Tryz.func130 (by kernel_rfl) rfl rfl (rs:=[.tmp 8,.tmp 9]) rfl (N:=50) rfl rfl ?_;refine aA fun bF aF bD=>?_;simp only[iP,seval];refine aF _ _ ?_;refine aA fun Ψ1 aE aL=>?_;refine aA fun Ψ2 aI bH=>?_;simp only[iP,seval];refine aH ?_ (PG hs H a ha fun s2 k2=>?_)
 ·simp only[iP,seval]
 have H2:=H.aJ k2;cases hh:P.has a with
 | false =>
  rw[hh] at hΦ;simp only[iP,seval];refine aI _ _ ?_;simp only[iP,seval];refine aL _ _ _ (by simp) ?_;simp only[iP,seval];exact hΦ _ k2
 | true =>
  have hb:=PH.jG.1 hh;rw[hh] at hΦ;simp only[if_true] at hΦ;have bY:=H.bY;have e1:IntKind.i64.wrap (a+1)=a+1:=aU (by omega) (by omega);have g1:0≤a+1:=by omega
  have g2:a+1<((64*P.N:Nat):Int):=by omega
  have l:=H2.lw (i:=(a+1).toNat) (by omega);simp only[iP,seval];refine aI _ _ ?_;simp only[iP,seval];refine aE _ _ ?_;refine aA fun Ψ3 aN bM=>?_;simp only[iP,seval,H2.l1,e1,g1,g2,and_self,bQ,Nat.zero_add,Nat.mul_one,l];refine aH ?_ (WA k2.ok (P.w (a+1).toNat) (H.wr _) fun s3 k3=>?_)
  ·simp only[iP,seval]
  simp only[iP,seval];obtain⟨s4,e4,k4,c4,_⟩:=cI k3.ok (L:=[int 0,int 0,int 0]) (n:=3) (e:=44) rfl;rw[e4];obtain⟨s5,h5,c5,k5⟩:=c4.storeAll k4.ok (vs:=[int (rZ (P.w (a+1).toNat)).r,int (rZ (P.w (a+1).toNat)).d,int (rZ (P.w (a+1).toNat)).k]) rfl rfl;have k6:aC [] s s5:=(k2.trans (k3.trans k4)).step k5 fun g hg=>.inr (by rw[List.mem_singleton.1 hg];exact hs.fresh _ (k2.trans k3).next);simp only[iP,seval,h5];refine aN _ _ ?_;have r1:=aGv (P.w (a+1).toNat);have d1:=aGr (P.w (a+1).toNat);have hr:(P.shape a).r=(P.w (a+1).toNat).tmod 16:=rfl;have hd:(P.shape a).d=((P.w (a+1).toNat).tmod 4096).tdiv 16:=rfl;have lr:aG s5.look ⟨s3.next,0,none⟩=some (int (P.shape a).r):=c5.load rfl;have ld:aG s5.look ⟨s3.next,1,none⟩=some (int (P.shape a).d):=c5.load rfl;have w1:IntKind.i64.wrap (a+2)=a+2:=aU (by omega) (by omega);have w2:IntKind.i64.wrap (a+2+(P.shape a).r)=a+2+(P.shape a).r:=aU (by omega) (by omega);have key:∀ (m f:Int),P.many a data=m→P.first a data=f→-300<m→m<300→0≤f+300→f≤6000→∀ s',aC [] s s'→(i<0∨i≥m→Φ (.tuple #[int 0,int 1]) s')∧(¬ (i<0∨i≥m)→Φ (.tuple #[int (f+i),int 0]) s'):=by
   intro m f hm hf _ _ _ _ s' hk';have:=hΦ s' hk';rw[hm,hf] at this;refine⟨fun hc=>?_,fun hc=>?_⟩
   ·rw[if_pos hc] at this;exact this
   ·rw[if_neg hc] at this;exact this
  refine aA fun Ψ4 aP cC=>?_;refine dG [] [] [] (by kernel_rfl) (by kernel_rfl) (by rfl) fun O hO bC hR=>?_;simp only[iP,seval,w1,lr];refine hR _ _ (aP _ _ ?_);refine aA fun cU aZ cK=>?_;refine aA fun dN bO cZ=>?_;simp only[iP,seval];refine bO _ _ ?_;cases data with
  | false =>
   have hk:=key (P.shape a).r (a+2) rfl rfl (by omega) (by omega) (by omega) (by omega);simp only[iP,seval];refine aZ _ _ ?_;refine aA fun fE cG dX=>?_;refine aA fun gV cT gA=>?_;refine cL [(2,42)] (by kernel_rfl) fun O hO bC hR=>?_;have y2:∀ a,aO O a 2=aY (a.aB 42):=hO (2,42) (by simp);by_cases i0:i<0
   ·simp only[iP,seval,y2,i0,decide_true];refine hR _ _ (cT _ _ ?_);simp only[iP,seval];refine dX _ _ _ (by simp) ?_;simp only[iP,seval];exact(hk _ (k6.trans (.skip k6.ok _))).1 (.inl i0)
   ·by_cases i1:i≥(P.shape a).r
    ·simp only[iP,seval,y2,i0,i1,decide_true,decide_false];refine hR _ _ (cT _ _ ?_);simp only[iP,seval];refine dX _ _ _ (by simp) ?_;simp only[iP,seval];exact(hk _ (k6.trans (.skip k6.ok _))).1 (.inr i1)
    ·simp only[iP,seval,y2,i0,i1,decide_false];refine hR _ _ (cT _ _ ?_);simp only[iP,seval];refine cG _ _ ?_;simp only[iP,seval];rw[aU (by omega) (by omega)];exact(hk _ (k6.trans (.skip k6.ok _))).2 (by omega)
  | true =>
   have hk:=key (P.shape a).d (a+2+(P.shape a).r) rfl rfl (by omega) (by omega) (by omega) (by omega);simp only[dA,RV,RG,seval];refine dG [] [] [] (by kernel_rfl) (by kernel_rfl) (by rfl) fun O hO bC hR=>?_;simp only[iP,seval,lr,ld,w2];refine hR _ _ ?_;refine aZ _ _ ?_;refine aA fun fE cG dX=>?_;refine aA fun gV cT gA=>?_;refine cL [(2,42)] (by kernel_rfl) fun O hO bC hR=>?_;have y2:∀ a,aO O a 2=aY (a.aB 42):=hO (2,42) (by simp);by_cases i0:i<0
   ·simp only[iP,seval,y2,i0,decide_true];refine hR _ _ (cT _ _ ?_);simp only[iP,seval];refine dX _ _ _ (by simp) ?_;simp only[iP,seval];exact(hk _ ((k6.trans (.skip k6.ok _)).kI _)).1 (.inl i0)
   ·by_cases i1:i≥(P.shape a).d
    ·simp only[iP,seval,y2,i0,i1,decide_true,decide_false];refine hR _ _ (cT _ _ ?_);simp only[iP,seval];refine dX _ _ _ (by simp) ?_;simp only[iP,seval];exact(hk _ ((k6.trans (.skip k6.ok _)).kI _)).1 (.inr i1)
    ·simp only[iP,seval,y2,i0,i1,decide_false];refine hR _ _ (cT _ _ ?_);simp only[iP,seval];refine cG _ _ ?_;simp only[iP,seval];rw[aU (by omega) (by omega)];exact(hk _ ((k6.trans (.skip k6.ok _)).kI _)).2 (by omega)
theorem yH:type_of% (B5 @RX @gY @dF @dQ @bG):=B5 @RX @gY @dF @dQ @bG
theorem J1 (hs:Ok s) (H:bK s h P) (G:P.bX) (a i:Int) (ha:i64 a) (hΦ:∀ s',aC [] s s'→Φ (.tuple #[int (if P.dR a i false=0 then P.w (P.dP a i false).toNat else 0),int (P.dR a i false)]) s'):okF q X (KO kc) 41 [ptr h,int a,int i] s Φ:=by
 refine aW Tryz.func41 (by kernel_rfl) rfl rfl (rs:=[.tmp 6,.tmp 7]) rfl (N:=27) rfl rfl ?_;refine aA fun bF aF bD=>?_;simp only[yH,seval];refine aF _ _ ?_;refine aA fun Ψ1 aE aL=>?_;simp only[yH,seval];refine aH ?_ (VZ hs H a i ha false fun s2 k2=>?_)
 ·simp only[yH,seval]
 have H2:=H.aJ k2;have eD:=hΦ _ k2;clear hΦ;by_cases he:P.dR a i false=0
 ·obtain⟨_,_,_,f4,f5⟩:=PH.qH G he;have l:=H2.lw (i:=(P.dP a i false).toNat) (by omega);have g2:P.dP a i false<((64*P.N:Nat):Int):=by omega
  rw[if_pos he,he] at eD;rw[he];simp only[yH,seval];refine aE _ _ ?_;refine aA fun Ψ2 aI bH=>?_;refine aA fun Ψ3 aN bM=>?_;simp only[yH,seval];refine aN _ _ ?_;simp only[yH,seval];refine aI _ _ ?_;simp only[yH,seval,H2.l1,f5,g2,and_self,bQ,Nat.zero_add,Nat.mul_one,l];exact eD
 ·have hb:(P.dR a i false==0)=false:=by simpa using he
  rw[if_neg he] at eD;simp only[yH,seval];refine aE _ _ ?_;refine aA fun Ψ2 aI bH=>?_;refine aA fun Ψ3 aN bM=>?_;simp only[yH,seval,hb];refine aN _ _ ?_;simp only[yH,seval];refine bH _ _ _ (by simp) ?_;simp only[yH,seval];exact eD
theorem yF:type_of% (B5 @RX @gY @dF @dQ @bG):=B5 @RX @gY @dF @dQ @bG
theorem VY (hs:Ok s) (H:bK s h P) (G:P.bX) (a i:Int) (ha:i64 a) (hΦ:∀ s',aC [] s s'→Φ (.tuple #[int (if P.dR a i true=0 then P.w (P.dP a i true).toNat else 0),int (P.dR a i true)]) s'):okF q X (KO kc) 39 [ptr h,int a,int i] s Φ:=by
 refine aW Tryz.func39 (by kernel_rfl) rfl rfl (rs:=[.tmp 6,.tmp 7]) rfl (N:=27) rfl rfl ?_;refine aA fun bF aF bD=>?_;simp only[yF,seval];refine aF _ _ ?_;refine aA fun Ψ1 aE aL=>?_;simp only[yF,seval];refine aH ?_ (VZ hs H a i ha true fun s2 k2=>?_)
 ·simp only[yF,seval]
 have H2:=H.aJ k2;have eD:=hΦ _ k2;clear hΦ;by_cases he:P.dR a i true=0
 ·obtain⟨_,_,_,f4,f5⟩:=PH.qH G he;have l:=H2.lw (i:=(P.dP a i true).toNat) (by omega);have g2:P.dP a i true<((64*P.N:Nat):Int):=by omega
  rw[if_pos he,he] at eD;rw[he];simp only[yF,seval];refine aE _ _ ?_;refine aA fun Ψ2 aI bH=>?_;refine aA fun Ψ3 aN bM=>?_;simp only[yF,seval];refine aN _ _ ?_;simp only[yF,seval];refine aI _ _ ?_;simp only[yF,seval,H2.l1,f5,g2,and_self,bQ,Nat.zero_add,Nat.mul_one,l];exact eD
 ·have hb:(P.dR a i true==0)=false:=by simpa using he
  rw[if_neg he] at eD;simp only[yF,seval];refine aE _ _ ?_;refine aA fun Ψ2 aI bH=>?_;refine aA fun Ψ3 aN bM=>?_;simp only[yF,seval,hb];refine aN _ _ ?_;simp only[yF,seval];refine bH _ _ _ (by simp) ?_;simp only[yF,seval];exact eD
theorem bK.eH {s s':St} (H:bK s h P) {i v:Int} (h0:0≤i) (h1:i<64*P.N) (hv:i64 v) (k:aC [P.nw] s s') (hc:Obj s' P.nw ((row (64*P.N) fun j=>int (P.w j)).set i.toNat (int v))):bK s' h (P.eH i v):=by
 obtain⟨c,cb,cw,ts,tp,mp,mf,nd,n2,bY,wr⟩:=H;have pY:=nd;simp only[List.nodup_cons,List.mem_cons,List.not_mem_nil,or_false,not_or,List.nodup_nil,not_false_eq_true,and_true] at pY;obtain⟨⟨a1,a2,a3,a4,a5,a6,a7,a8⟩,⟨b1,b2,b3,b4,b5,b6,b7⟩,⟨c1,c2,c3,c4,c5,c6⟩,_⟩:=pY;refine⟨c.aD k (by simp[a2]),cb.aD k (by simp[b1]),?_,ts.aD k (by simp[Ne.symm c1]) (by simp[Ne.symm c2]),tp.aD k (by simp[Ne.symm c3]) (by simp[Ne.symm c4]),mp.aD k (by simp[Ne.symm c5]),mf.aD k (by simp[Ne.symm c6]),nd,n2,bY,fun j=>?_⟩
 ·rw[MW (by omega)] at hc;show Obj s' P.nw (row (64*P.N) fun j=>int (if j=i.toNat then v else P.w j));rw[show (fun j=>int (if j=i.toNat then v else P.w j))=(fun j=>if j=i.toNat then int v else int (P.w j)) from funext fun j=>by split <;> rfl]
  exact hc
 ·show i64 (if j=i.toNat then v else P.w j);split
  ·exact hv
  ·exact wr j
theorem bK.SI {s:St} (hs:Ok s) (H:bK s h P) {i v:Int} (h0:0≤i) (h1:i<64*P.N) (hv:i64 v):∃ s',dS s ⟨P.nw,i.toNat,none⟩ [int v]=some s'∧bK s' h (P.eH i v)∧aC [P.nw] s s':=by
 obtain⟨s',h2,h3,h4⟩:=H.cw.fK hs (i:=i.toNat) (v:=int v) (by rw[fY];omega) rfl;exact⟨s',h2,H.eH h0 h1 hv h4 h3,h4⟩
def PH.iN (P:PH) (a i to:Int):Int:=if P.dR a i false=0 then(if to≠0∧P.has to=false then 1 else 0) else P.dR a i false
def PH.setRef (P:PH) (a i to:Int):PH:=if P.iN a i to=0 then P.eH (P.dP a i false) to else P
theorem oF:type_of% (B5 @RX @gY @dF @dQ @lD):=B5 @RX @gY @dF @dQ @lD
theorem jv (hs:Ok s) (H:bK s h P) (G:P.bX) (a i to:Int) (ha:i64 a) (ht:i64 to) (hΦ:∀ s',bK s' h (P.setRef a i to)→aC [P.nw] s s'→Φ (int (P.iN a i to)) s'):okF q X (KO kc) 43 [ptr h,int a,int i,int to] s Φ:=by
 unfold PH.setRef at hΦ;refine aW Tryz.func43 (by kernel_rfl) rfl rfl (rs:=[.tmp 8]) rfl (N:=36) rfl rfl ?_;refine aA fun bF aF bD=>?_;simp only[oF,seval];refine aF _ _ ?_;refine aA fun Ψ1 aE aL=>?_;simp only[oF,seval];refine aH ?_ (VZ hs H a i ha false fun s2 k2=>?_)
 ·simp only[oF,seval]
 have H2:=H.aJ k2;by_cases he:P.dR a i false=0
 ·obtain⟨_,_,_,f4,f5⟩:=PH.qH G he;have g2:P.dP a i false<((64*P.N:Nat):Int):=by omega
  have En:∀ s3,aC [] s s3→P.iN a i to=0→∃ s4,dS s3 ⟨P.nw,(P.dP a i false).toNat,none⟩ [int to]=some s4∧Φ (int 0) s4:=by
   intro s3 k3 hz;obtain⟨s4,h4,H4,k4⟩:=(H.aJ k3).SI k3.ok f5 (by omega) ht;refine⟨s4,h4,?_⟩;have:=hΦ s4 (by rw[if_pos hz];exact H4) (k3.any.trans k4);rw[hz] at this;exact this
  rw[he];simp only[oF,seval];refine aE _ _ ?_;refine aA fun Ψ2 aI bH=>?_;refine aA fun Ψ3 aN bM=>?_;simp only[oF,seval];refine aN _ _ ?_;simp only[oF,seval];refine aI _ _ ?_;refine aA fun Ψ4 aP cC=>?_;refine aA fun cU aZ cK=>?_;refine cL [(2,23)] (by kernel_rfl) fun O hO bC hR=>?_;have y2:∀ a,aO O a 2=aY (a.aB 23):=hO (2,23) (by simp);by_cases h0:to=0
  ·have hz:P.iN a i to=0:=by unfold PH.iN;rw[if_pos he,if_neg (by simp[h0])]
   have e0:(to==0)=true:=by simpa using h0
   obtain⟨s4,h4,hf⟩:=En s2 k2 hz;simp only[oF,seval,y2,e0];refine hR _ _ (aZ _ _ ?_);simp only[oF,seval];refine aP _ _ ?_;simp only[oF,seval,H2.l1,f5,g2,and_self,bQ,Nat.zero_add,Nat.mul_one,h4];exact hf
  ·have e0:(to==0)=false:=by simpa using h0
   simp only[oF,seval,y2,e0];refine aH ?_ (LD k2.ok H2 to ht fun s3 k3=>?_)
   ·simp only[oF,seval]
   have lV:=k2.trans k3;have H3:=H.aJ lV;cases hh:P.has to with
   | false =>
    have hz:P.iN a i to=1:=by unfold PH.iN;rw[if_pos he,if_pos ⟨h0,hh⟩]
    simp only[oF,seval,y2];refine hR _ _ (aZ _ _ ?_);simp only[oF,seval];refine cC _ _ _ (by simp) ?_;simp only[oF,seval];have:=hΦ s3 (by rw[if_neg (by omega)];exact H3) lV.any;rw[hz] at this;exact this
   | true =>
    have hz:P.iN a i to=0:=by unfold PH.iN;rw[if_pos he,if_neg (by simp[hh])]
    obtain⟨s4,h4,hf⟩:=En s3 lV hz;simp only[oF,seval,y2];refine hR _ _ (aZ _ _ ?_);simp only[oF,seval];refine aP _ _ ?_;simp only[oF,seval,H3.l1,f5,g2,and_self,bQ,Nat.zero_add,Nat.mul_one,h4];exact hf
 ·have hb:(P.dR a i false==0)=false:=by simpa using he
  have hz:P.iN a i to=P.dR a i false:=by unfold PH.iN;rw[if_neg he]
  have:=hΦ s2 (by rw[if_neg (by rw[hz];exact he)];exact H2) k2.any;rw[hz] at this;simp only[oF,seval];refine aE _ _ ?_;refine aA fun Ψ2 aI bH=>?_;refine aA fun Ψ3 aN bM=>?_;simp only[oF,seval,hb];refine aN _ _ ?_;simp only[oF,seval];refine bH _ _ _ (by simp) ?_;simp only[oF,seval];exact this
def PH.SB (P:PH) (a i v:Int):PH:=if P.dR a i true=0 then P.eH (P.dP a i true) v else P
theorem yG:type_of% (B5 @RX @gY @dF @dQ @lD):=B5 @RX @gY @dF @dQ @lD
theorem J2 (hs:Ok s) (H:bK s h P) (G:P.bX) (a i v:Int) (ha:i64 a) (hv:i64 v) (hΦ:∀ s',bK s' h (P.SB a i v)→aC [P.nw] s s'→Φ (int (P.dR a i true)) s'):okF q X (KO kc) 40 [ptr h,int a,int i,int v] s Φ:=by
 unfold PH.SB at hΦ;refine aW Tryz.func40 (by kernel_rfl) rfl rfl (rs:=[.tmp 8]) rfl (N:=28) rfl rfl ?_;refine aA fun bF aF bD=>?_;simp only[yG,seval];refine aF _ _ ?_;refine aA fun Ψ1 aE aL=>?_;simp only[yG,seval];refine aH ?_ (VZ hs H a i ha true fun s2 k2=>?_)
 ·simp only[yG,seval]
 have H2:=H.aJ k2;by_cases he:P.dR a i true=0
 ·obtain⟨_,_,_,f4,f5⟩:=PH.qH G he;have g2:P.dP a i true<((64*P.N:Nat):Int):=by omega
  obtain⟨s4,h4,H4,k4⟩:=H2.SI k2.ok f5 (by omega) hv;have:=hΦ s4 (by rw[if_pos he];exact H4) (k2.any.trans k4);rw[he] at this;rw[he];simp only[yG,seval];refine aE _ _ ?_;refine aA fun Ψ2 aI bH=>?_;refine aA fun Ψ3 aN bM=>?_;simp only[yG,seval];refine aN _ _ ?_;simp only[yG,seval];refine aI _ _ ?_;simp only[yG,seval,H2.l1,f5,g2,and_self,bQ,Nat.zero_add,Nat.mul_one,h4];exact this
 ·have hb:(P.dR a i true==0)=false:=by simpa using he
  have:=hΦ s2 (by rw[if_neg he];exact H2) k2.any;simp only[yG,seval];refine aE _ _ ?_;refine aA fun Ψ2 aI bH=>?_;refine aA fun Ψ3 aN bM=>?_;simp only[yG,seval,hb];refine aN _ _ ?_;simp only[yG,seval];refine bH _ _ _ (by simp) ?_;simp only[yG,seval];exact this
theorem vE:type_of% (B6 @RX @gY @dF @dV @dQ @bG):=B6 @RX @gY @dF @dV @dQ @bG
theorem Ed (hs:Ok s) (H:bK s h P) (a:Int) (hΦ:Φ (if 0≤a∧a<64*P.N then .tuple #[int (P.w a.toNat),int 0] else .tuple #[int 0,int 1]) s):okF q X (KO kc) 81 [ptr h,int a] s Φ:=by
 refine aW Tryz.func81 (by kernel_rfl) rfl rfl (rs:=[.tmp 4,.tmp 5]) rfl (N:=29) rfl rfl ?_;refine aA fun bF aF bD=>?_;simp only[vE,seval];refine aF _ _ ?_;refine aA fun Ψ1 aE aL=>?_;refine cJ fun Ψ2 aI xQ bH=>?_;refine aA fun Ψ3 aN bM=>?_;simp only[vE,seval];refine aH ?_ (vR H ?_)
 ·simp only[vE,seval]
 try simp only[vE,seval]
 refine aN _ _ ?_;simp only[dA,RV,RG,seval];refine aA fun Ψ4 aP cC=>?_;refine cL [(2,13)] (by kernel_rfl) fun O hO bC hR=>?_;have y2:∀ a,aO O a 2=aY (a.aB 13):=hO (2,13) (by simp);by_cases h0:a<0
 ·simp only[vE,seval,y2,h0,decide_true];refine hR _ _ (aP _ _ ?_);simp only[vE,seval];refine bH _ _ _ (by simp) (by simp) (aL _ _ _ (by simp) ?_);simp only[vE,seval];rw[if_neg (by omega)] at hΦ;exact hΦ
 ·by_cases h1:a≥((64*P.N:Nat):Int)
  ·simp only[vE,seval,y2,h0,h1,decide_true,decide_false,H.l1];refine hR _ _ (aP _ _ ?_);simp only[vE,seval];refine bH _ _ _ (by simp) (by simp) (aL _ _ _ (by simp) ?_);simp only[vE,seval];rw[if_neg (by omega)] at hΦ;exact hΦ
  ·have g1:0≤a:=by omega
   have g2:a<((64*P.N:Nat):Int):=by omega
   have l:=H.lw (i:=a.toNat) (by omega);simp only[vE,seval,y2,h0,h1,decide_false,H.l1];refine hR _ _ (aP _ _ ?_);simp only[vE,seval];refine aI _ _ (aE _ _ ?_);simp only[vE,seval,H.l1,g1,g2,and_self,bQ,Nat.zero_add,Nat.mul_one,l];rw[if_pos ⟨g1,by omega⟩] at hΦ;exact hΦ
theorem bK.Pn {s s':St} {Q':Nat→Nat} (H:bK s h P) (k:aC [P.pu] s s') (ht:fM s' P.pt P.pu (32*P.N) 1 Q'):bK s' h {P with Q:=Q'}:=by
 obtain⟨c,cb,cw,ts,tp,mp,mf,nd,n2,bY,wr⟩:=H;have pY:=nd;simp only[List.nodup_cons,List.mem_cons,List.not_mem_nil,or_false,not_or,List.nodup_nil,not_false_eq_true,and_true] at pY;obtain⟨⟨a1,a2,a3,a4,a5,a6,a7,a8⟩,⟨b1,b2,b3,b4,b5,b6,b7⟩,⟨c1,c2,c3,c4,c5,c6⟩,⟨d1,d2,d3,d4,d5⟩,⟨e1,e2,e3,e4⟩,⟨f1,f2,f3⟩,⟨g1,g2⟩,_⟩:=pY;exact⟨c.aD k (by simp[a6]),cb.aD k (by simp[b5]),cw.aD k (by simp[c4]),ts.aD k (by simp[d3]) (by simp[e2]),ht,mp.aD k (by simp[Ne.symm g1]),mf.aD k (by simp[Ne.symm g2]),nd,n2,bY,wr⟩
def PH.fD (P:PH) (a:Int) (v:Nat):PH:=if P.has a=true then {P with Q:=mR P.Q (a/2).toNat v} else P
theorem wQ:type_of% (B3 @RX @zP @oM):=B3 @RX @zP @oM
theorem J9 (hs:Ok s) (H:bK s h P) (a:Int) (ha:i64 a) {v:Nat} (hv:v<2) (hΦ:∀ s',bK s' h (P.fD a v)→aC [P.pu] s s'→Φ (int (if P.has a=true then 0 else 4)) s'):okF q X (KO kc) 153 [ptr h,int a,int v] s Φ:=by
 unfold PH.fD at hΦ;refine aW Tryz.func153 (by kernel_rfl) rfl rfl (rs:=[.tmp 6]) rfl (N:=22) rfl rfl ?_;refine aA fun bF aF bD=>?_;simp only[wQ,seval];refine aF _ _ ?_;refine aA fun Ψ1 aE aL=>?_;refine aA fun Ψ2 aI bH=>?_;simp only[wQ,seval];refine aH ?_ (PG hs H a ha fun s2 k2=>?_)
 ·simp only[wQ,seval]
 have H2:=H.aJ k2;cases hh:P.has a with
 | false =>
  rw[hh] at hΦ;simp only[wQ,seval];refine aI _ _ ?_;simp only[wQ,seval];refine aL _ _ _ (by simp) ?_;simp only[wQ,seval];exact hΦ _ H2 k2.any
 | true =>
  have hb:=PH.jG.1 hh;have bY:=H.bY;rw[hh] at hΦ;have e2:IntKind.i64.wrap (a.tdiv 2)=a/2:=by rw[Int.tdiv_eq_ediv_of_nonneg (by omega),aU (by omega) (by omega)]
  simp only[wQ,seval];refine aI _ _ ?_;simp only[wQ,seval];refine aE _ _ ?_;refine aA fun Ψ3 aN bM=>?_;simp only[wQ,seval,H2.l3,e2];refine aH ?_ (az (i:=a/2) k2.ok H2.tp (i':=(a/2).toNat) (v':=v) (by omega) rfl (by omega) (by omega) fun s3 h3 k3=>?_)
  ·simp only[wQ,seval]
  try simp only[wQ,seval]
  refine aN _ _ ?_;simp only[wQ,seval];exact hΦ _ (H2.Pn k3 h3) (k2.any.trans k3)
theorem I_ (hs:Ok s) (H:bK s h P) (a:Int) (ha:i64 a) (hΦ:∀ s',bK s' h (P.fD a 1)→aC [P.pu] s s'→Φ (int (if P.has a=true then 0 else 4)) s'):okF q X (KO kc) 61 [ptr h,int a] s Φ:=by
 refine aW Tryz.func61 (by kernel_rfl) rfl rfl (rs:=[.tmp 4]) rfl (N:=8) rfl rfl ?_;refine aA fun bF aF bD=>?_;simp only[RX,seval];refine aF _ _ ?_;refine aA fun Ψ1 aE aL=>?_;simp only[RX,seval];refine aH ?_ (J9 hs H a ha (v:=1) (by omega) fun s2 h2 k2=>?_)
 ·simp only[RX,seval,(show ((1:Nat):Int)=1 from rfl)]
 try simp only[RX,seval]
 refine aE _ _ ?_;simp only[RX,seval];exact hΦ _ h2 k2
end
open Go.Proofs
set_option maxRecDepth 100000
set_option maxHeartbeats 1000000
theorem aEy (n:Nat):rep (Value.int .i64 0).cells.toList n=List.replicate n (int 0):=by
 induction n with
 | zero=>rfl
 | succ n ih=>rw[rep,ih];rfl
theorem Obj.store {s:St} {b i:Nat} {L vs:List Value} (h:Obj s b L) (hs:Ok s) (hi:i+vs.length≤L.length) (h1:vs.all hZ=true) :
  ∃ s',dS s ⟨b,i,none⟩ vs=some s'∧Obj s' b (uX L i vs)∧aC [b] s s':=by
 obtain⟨e,h⟩:=h;obtain⟨s',h1,h2,h3⟩:=h.store hs hi h1;exact⟨s',h1,⟨e,h2⟩,h3⟩
theorem Obj.isCells {s:St} {b:Nat} {L:List Value} (h:Obj s b L):∃ c z n e room ro bB,s.look b=some (.cells c z n e room ro bB):=by
 obtain⟨e,c,z,room,bB,h1,_⟩:=h;exact⟨_,_,_,_,_,_,_,h1⟩
namespace PH
variable (P:PH)
def Tn (a n:Int):PH:={P with w:=fun j=>if a≤j∧(j:Int)<a+n then 0 else P.w j}
def kill (a:Int):PH:={P.Tn a (P.size a) with M:=P.M.eraseP (fun p=>p.1==P.w a.toNat),S:=mR P.S (a/2).toNat 0,Q:=mR P.Q (a/2).toNat 0}
def CD (a:Int):Bool:=match P.find a with
 | some o=>decide (o+2≤a∧a<o+2+(P.shape o).r+(P.shape o).d)
 | none=>false
def ZQ (a:Int):Int:=if 0≤a∧a<64*P.N then(if P.CD a=true then 0 else 4) else 1
def uU (a v:Int):PH:=if P.CD a=true then P.eH a v else P
theorem VF {P:PH} {a o:Int} (h:P.find a=some o):0≤a∧a<64*P.N∧0≤o∧o≤a∧o%2=0∧a<o+P.size o∧P.has o=true:=by
 unfold find at h;split at h
 ·rename_i hr;cases hl:qM P.S 1 (a/2+1).toNat with
  | none=>rw[hl] at h;cases h
  | some i =>
   rw[hl] at h;simp only at h;split at h
   ·cases h
   ·cases h;obtain⟨h1,h2⟩:=XU hl;refine⟨hr.1,hr.2,by omega,by omega,by omega,by omega,jG.2 ⟨by omega,by omega,by omega,?_⟩⟩;rw[show (2*(i:Int)/2).toNat=i by omega];omega
 ·cases h
end PH
section
variable {kc:Kc} {q:Bool} {s:St} {Φ:Value→St→Prop} {h:Nat} {P:PH}
theorem bK.QW {s:St} (H:bK s h P):(h≠P.nb∧h≠P.nw∧h≠P.st∧h≠P.su∧h≠P.pt∧h≠P.pu∧h≠P.mp∧h≠P.mf)∧(P.nb≠P.nw∧P.nb≠P.st∧P.nb≠P.su∧P.nb≠P.pt∧P.nb≠P.pu∧P.nb≠P.mp∧P.nb≠P.mf) ∧
  (P.nw≠P.st∧P.nw≠P.su∧P.nw≠P.pt∧P.nw≠P.pu∧P.nw≠P.mp∧P.nw≠P.mf)∧(P.st≠P.su∧P.st≠P.pt∧P.st≠P.pu∧P.st≠P.mp∧P.st≠P.mf)∧(P.su≠P.pt∧P.su≠P.pu∧P.su≠P.mp∧P.su≠P.mf)∧(P.pt≠P.pu∧P.pt≠P.mp∧P.pt≠P.mf)∧(P.pu≠P.mp∧P.pu≠P.mf)∧P.mp≠P.mf:=by
 have pY:=H.nd;simp only[List.nodup_cons,List.mem_cons,List.not_mem_nil,or_false,not_or,List.nodup_nil,not_false_eq_true,and_true] at pY;exact pY
theorem bK.Pp {s s':St} {S':Nat→Nat} (H:bK s h P) (k:aC [P.su] s s') (ht:fM s' P.st P.su (32*P.N) 1 S'):bK s' h {P with S:=S'}:=by
 obtain⟨⟨a1,a2,a3,a4,a5,a6,a7,a8⟩,⟨b1,b2,b3,b4,b5,b6,b7⟩,⟨c1,c2,c3,c4,c5,c6⟩,⟨d1,d2,d3,d4,d5⟩,⟨e1,e2,e3,e4⟩,⟨f1,f2,f3⟩,⟨g1,g2⟩,g3⟩:=H.QW;obtain⟨c,cb,cw,ts,tp,mp,mf,nd,n2,bY,wr⟩:=H;exact⟨c.aD k (by simp[a4]),cb.aD k (by simp[b3]),cw.aD k (by simp[c2]),ht,tp.aD k (by simp[Ne.symm e1]) (by simp[Ne.symm e2]),mp.aD k (by simp[Ne.symm e3]),mf.aD k (by simp[Ne.symm e4]),nd,n2,bY,wr⟩
theorem bK.sx {s s':St} {M':List (Int×Int)} (H:bK s h P) (k:aC [P.mp] s s') (hm:fV s' P.mp (M'.map fun p=>(p.1,int p.2))):bK s' h {P with M:=M'}:=by
 obtain⟨⟨a1,a2,a3,a4,a5,a6,a7,a8⟩,⟨b1,b2,b3,b4,b5,b6,b7⟩,⟨c1,c2,c3,c4,c5,c6⟩,⟨d1,d2,d3,d4,d5⟩,⟨e1,e2,e3,e4⟩,⟨f1,f2,f3⟩,⟨g1,g2⟩,g3⟩:=H.QW;obtain⟨c,cb,cw,ts,tp,mp,mf,nd,n2,bY,wr⟩:=H;exact⟨c.aD k (by simp[a7]),cb.aD k (by simp[b6]),cw.aD k (by simp[c5]),ts.aD k (by simp[d4]) (by simp[e3]),tp.aD k (by simp[f2]) (by simp[g1]),hm,mf.aD k (by simp[Ne.symm g3]),nd,n2,bY,wr⟩
theorem bK.aG5 {s s':St} {w':Nat→Int} (H:bK s h P) (k:aC [P.nw] s s') (hc:Obj s' P.nw (row (64*P.N) fun j=>int (w' j))) (hw:∀ i,i64 (w' i)):bK s' h {P with w:=w'}:=by
 obtain⟨⟨a1,a2,a3,a4,a5,a6,a7,a8⟩,⟨b1,b2,b3,b4,b5,b6,b7⟩,⟨c1,c2,c3,c4,c5,c6⟩,_⟩:=H.QW;obtain⟨c,cb,cw,ts,tp,mp,mf,nd,n2,bY,wr⟩:=H;exact⟨c.aD k (by simp[a2]),cb.aD k (by simp[b1]),hc,ts.aD k (by simp[Ne.symm c1]) (by simp[Ne.symm c2]),tp.aD k (by simp[Ne.symm c3]) (by simp[Ne.symm c4]),mp.aD k (by simp[Ne.symm c5]),mf.aD k (by simp[Ne.symm c6]),nd,n2,bY,hw⟩
theorem tv:type_of% (B3 @RX @gY @dF):=B3 @RX @gY @dF
theorem L4 (hs:Ok s) (H:bK s h P) {a n:Int} (h0:0≤a) (hn:0<n) (h1:a+n≤64*P.N) (hΦ:∀ s',bK s' h (P.Tn a n)→aC [P.nw] s s'→Φ (.tuple #[]) s'):okF q X (KO kc) 131 [ptr h,int a,int n] s Φ:=by
 have bY:=H.bY;obtain⟨a',rfl⟩:∃ a':Nat,a=a':=⟨a.toNat,by omega⟩;obtain⟨n',rfl⟩:∃ n':Nat,n=n':=⟨n.toNat,by omega⟩;have e1:IntKind.i64.wrap ((a':Int)+n')=((a'+n':Nat):Int):=by rw[aU (by omega) (by omega)];rfl
 have e2:=tk (X:=X) (H:=s.look) (t:=62) (e:=3) (N:=1) (b:=P.nw) (off:=0) (n:=64*P.N) (c:=64*P.N) (l:=a') (h:=a'+n') (by kernel_rfl) (by kernel_rfl) H.cw.isCells (by omega) (by omega) (by omega);obtain⟨s',h2,h3,h4⟩:=H.cw.store hs (i:=a') (vs:=List.replicate n' (int 0)) (by rw[fY,List.length_replicate];omega) (by rw[List.all_replicate];simp;right;rfl);have h5:zG X s #[62] [.slice (some ⟨P.nw,a',none⟩) n' (64*P.N-a')]=some (.tuple #[],s'):=Xn (z:=.int .i64 0) (e:=3) (by kernel_rfl) (by kernel_rfl) (by omega) (by rw[aEy];exact h2);refine aW Tryz.func131 (by kernel_rfl) rfl rfl (rs:=[]) rfl (N:=15) rfl rfl ?_;simp only[tv,seval,H.l1,e1,e2,Nat.mul_one,Nat.zero_add];refine aC8 ?_ h5 ?_
 ·simp only[tv,seval,Nat.add_sub_cancel_left]
 simp only[tv,seval];refine hΦ _ (H.aG5 h4 ?_ fun j=>?_) h4
 ·have HL:uX (row (64*P.N) fun i=>int (P.w i)) a' (List.replicate n' (int 0))=row (64*P.N) fun j=>int (if (a':Int)≤j∧(j:Int)<a'+n' then 0 else P.w j):=by
   refine MV (by rw[JB (by rw[fY,List.length_replicate];omega),fY]) fun j hj=>?_;rw[JA (by rw[fY,List.length_replicate];omega),List.length_replicate];by_cases hc:a'≤j∧j<a'+n'
   ·rw[if_pos hc,List.getElem?_replicate,if_pos (by omega),if_pos (by omega)]
   ·rw[if_neg hc,lW _ hj,if_neg (by omega)]
  rw[HL] at h3;exact h3
 ·show i64 (if (a':Int)≤j∧(j:Int)<a'+n' then 0 else P.w j);split
  ·exact⟨by omega,by omega⟩
  ·exact H.wr j
theorem Yp (s:St) (r:Nat) (k:Int):zJ X s #[136,3] [.map (some r),int k]=(match s.heap.get r with
  | some (.map es c _)=>(match mE (int k) es 0 with
   | some (some (i,_))=>some (.tuple #[],s.put r fun v=>.map (es.eraseIdx i) c v)
   | some none=>some (.tuple #[],s)
   | none=>none)
  | _=>none):=by kernel_rfl
theorem Bv:∀ {es:List MapEntry} {M:List (Int×Value)} {k:Int} {i i0:Nat} {v:Value},es.map (fun e=>(e.key,e.val))=M.map (fun p=>(int p.1,p.2))→mE (int k) es i0=some (some (i,v)) →
  i0≤i∧(es.eraseIdx (i-i0)).map (fun e=>(e.key,e.val))=(M.eraseP fun p=>p.1==k).map (fun p=>(int p.1,p.2))
 | [],M,k,i,i0,v,h,hf=>by simp[mE] at hf
 | e::es,[],k,i,i0,v,h,hf=>by simp at h
 | e::es,(x,u)::M,k,i,i0,v,h,hf=>by
  simp only[List.map_cons,List.cons.injEq,Prod.mk.injEq] at h;obtain⟨⟨h1,h2⟩,h3⟩:=h;rw[mE,h1] at hf;simp only[vZ,if_true] at hf;cases hb:(k==x) with
  | true =>
   rw[hb] at hf;simp only[Option.some.injEq,Prod.mk.injEq] at hf;obtain⟨rfl,_⟩:=hf;have hk:k=x:=by simpa using hb
   subst hk;refine⟨Nat.le_refl _,?_⟩;rw[Nat.sub_self,List.eraseIdx_zero,List.eraseP_cons_of_pos (by simp)];exact h3
  | false =>
   rw[hb] at hf;obtain⟨k1,k2⟩:=Bv h3 hf;refine⟨by omega,?_⟩;have hne:¬ (x==k)=true:=by
    intro e;have:x=k:=by simpa using e
    subst this;simp at hb
   rw[show i-i0=(i-(i0+1))+1 by omega,List.eraseIdx_cons_succ,List.eraseP_cons_of_neg (p:=fun p=>p.1==k) (a:=(x,u)) hne,List.map_cons,List.map_cons,k2,h1,h2]
theorem Zn {M:List (Int×Value)} {k:Int} (h:M.lookup k=none):M.eraseP (fun p=>p.1==k)=M:=by
 induction M with
 | nil=>rfl
 | cons p M ih =>
  rcases p with ⟨x,v⟩;rw[List.lookup_cons] at h;cases hb:(k==x) with
  | true=>rw[hb] at h;cases h
  | false =>
   rw[hb] at h;have hne:¬ (x==k)=true:=by
    intro e;have:x=k:=by simpa using e
    subst this;simp at hb
   rw[List.eraseP_cons_of_neg (p:=fun p=>p.1==k) (a:=(x,v)) hne,ih h]
theorem eraseP_map {M:List (Int×Int)} {k:Int}:(M.map fun p=>(p.1,int p.2)).eraseP (fun p=>p.1==k)=(M.eraseP fun p=>p.1==k).map fun p=>(p.1,int p.2):=by
 induction M with
 | nil=>rfl
 | cons p M ih =>
  rw[List.map_cons];by_cases hb:(p.1==k)=true
  ·rw[List.eraseP_cons_of_pos (by exact hb),List.eraseP_cons_of_pos (by exact hb)]
  ·rw[List.eraseP_cons_of_neg (by exact hb),List.eraseP_cons_of_neg (by exact hb),List.map_cons,ih]
theorem bK.del (hs:Ok s) (H:bK s h P) (k:Int):∃ s',zJ X s #[136,3] [.map (some P.mp),int k]=some (.tuple #[],s')∧bK s' h {P with M:=P.M.eraseP fun p=>p.1==k}∧aC [P.mp] s s':=by
 obtain⟨es,aR,bB,h1,h2,GP⟩:=H.mp;rw[Yp,h1];simp only;cases hl:(P.M.map fun p=>(p.1,int p.2)).lookup k with
 | none =>
  rw[OM h2 hl];refine⟨s,rfl,?_,.refl hs⟩;have:=Zn hl;rw[eraseP_map] at this;exact H.sx (.refl hs) ⟨es,aR,bB,h1,by rw[this];exact h2,GP⟩
 | some v =>
  obtain⟨j,hj,_⟩:=gz (i:=0) h2 hl;rw[hj];obtain⟨_,k2⟩:=Bv h2 hj;have kk:aC [P.mp] s (s.put P.mp fun v=>.map (es.eraseIdx (0+j)) aR v):=.CE hs h1 (.inr (Nat.le_refl _)) (List.mem_singleton.2 rfl);refine⟨_,rfl,H.sx kk ⟨es.eraseIdx (0+j),aR,s.aR,by simp only[St.put,PT.fH,if_true],?_,⟨fun e he=>GP.1 e (List.mem_of_mem_eraseIdx he),GP.2.sublist ((List.eraseIdx_sublist ..).map _)⟩⟩,kk⟩;rw[Nat.sub_zero] at k2;rw[k2,eraseP_map]
theorem mP:type_of% (B9 @RX @BM @BU @gY @dF @dQ @bG @tL (B2 @oM @zP)):=B9 @RX @BM @BU @gY @dF @dQ @bG @tL (B2 @oM @zP)
theorem Dy (hs:Ok s) (H:bK s h P) (G:P.bX) (a:Int) (ha:i64 a) (hΦ:∀ s',bK s' h (if P.has a=true then P.kill a else P)→aC [P.nw,P.su,P.pu,P.mp] s s'→Φ (int (if P.has a=true then 0 else 4)) s'):okF q X (KO kc) 44 [ptr h,int a] s Φ:=by
 refine aW Tryz.func44 (by kernel_rfl) rfl rfl (rs:=[.tmp 4]) rfl (N:=43) rfl rfl ?_;refine aA fun bF aF bD=>?_;simp only[mP,seval];refine aF _ _ ?_;refine aA fun Ψ1 aE aL=>?_;refine aA fun Ψ2 aI bH=>?_;simp only[mP,seval];refine aH ?_ (PG hs H a ha fun s2 k2=>?_)
 ·simp only[mP,seval]
 have H2:=H.aJ k2;cases hh:P.has a with
 | false =>
  rw[hh] at hΦ;simp only[mP,seval];refine aI _ _ ?_;simp only[mP,seval];refine aL _ _ _ (by simp) ?_;simp only[mP,seval];exact hΦ _ H2 k2.any
 | true =>
  have hb:=PH.jG.1 hh;obtain⟨v1,v2⟩:=G.val a hh;have hw:=cO.uC v1;have bY:=H.bY;rw[hh] at hΦ;have g1:0≤a:=hb.1;have g2:a<((64*P.N:Nat):Int):=by omega
  have e2:IntKind.i64.wrap (a.tdiv 2)=a/2:=by rw[Int.tdiv_eq_ediv_of_nonneg (by omega),aU (by omega) (by omega)]
  have ov:aC [] s (s2.skip 24):=k2.kI _;have vl:=H.aJ ov;have l:=vl.lw (i:=a.toNat) (by omega);obtain⟨s3,h3,H3,k3⟩:=vl.del ov.ok (P.w a.toNat);simp only[mP,seval];refine aI _ _ ?_;simp only[mP,seval];refine aE _ _ ?_;refine aA fun Ψ3 aN bM=>?_;refine dG [] [] [] (by kernel_rfl) (by kernel_rfl) (by rfl) fun O hO bC hR=>?_;rw[MD] at l;simp only[mP,seval,H2.l4,H2.l1,g1,g2,and_self,bQ,Nat.zero_add,Nat.mul_one,l];refine Yh ?_ h3 ?_ ?_
  ·simp only[mP,seval]
  ·simp only[mP,seval]
  simp only[mP,seval];refine hR _ _ (aN _ _ ?_);refine aA fun Ψ4 aP cC=>?_;simp only[mP,seval,H3.l2,e2];refine aH ?_ (az (i:=a/2) (v:=0) k3.ok H3.ts (i':=(a/2).toNat) (v':=0) (by omega) rfl (show (a/2).toNat<32*P.N by omega) (by omega) fun s4 h4 k4=>?_)
  ·simp only[mP,seval]
  have H4:=H3.Pp k4 h4
  try simp only[mP,seval]
  refine aP _ _ ?_;refine aA fun cU aZ cK=>?_;simp only[mP,seval,H4.l3,e2];refine aH ?_ (az (i:=a/2) (v:=0) k4.ok H4.tp (i':=(a/2).toNat) (v':=0) (by omega) rfl (show (a/2).toNat<32*P.N by omega) (by omega) fun s5 h5 k5=>?_)
  ·simp only[mP,seval]
  have H5:=H4.Pn k5 h5
  try simp only[mP,seval]
  refine aZ _ _ ?_;refine aA fun dN bO cZ=>?_;simp only[mP,seval];have V1:a+(P.shape a).words≤64*P.N:=v2;refine aH ?_ (Eh k5.ok H5 (a:=a) g1 (show a+1<64*(P.N:Int) by omega) fun s6 k6=>?_)
  ·simp only[mP,seval]
  have H6:=H5.aJ k6
  try simp only[seval]
  refine aH ?_ (L4 k6.ok H6 (a:=a) (n:=P.size a) g1 (show 0<(P.shape a).words by omega) V1 fun s7 H7 k7=>?_)
  ·simp only[mP,seval,PH.size,PH.shape]
  try simp only[mP,seval]
  refine bO _ _ ?_;simp only[mP,seval];refine hΦ s7 ?_ ?_
  ·rw[if_pos rfl];exact H7
  ·have q1:aC [P.nw,P.su,P.pu,P.mp] s s3:=ov.any.trans (k3.mono (by simp));have q2:aC [P.nw,P.su,P.pu,P.mp] s3 s5:=(k4.mono (by simp)).trans (k5.mono (by simp));have q3:aC [P.nw,P.su,P.pu,P.mp] s5 s7:=k6.any.trans (k7.mono (by simp));exact(q1.trans q2).trans q3
theorem jV:type_of% (B9 @RX @gY @dF @dQ @bG @mB @lE @kJ (B2 @mD @lD)):=B9 @RX @gY @dF @dQ @bG @mB @lE @kJ (B2 @mD @lD)
theorem Ea (hs:Ok s) (H:bK s h P) (G:P.bX) (a v:Int) (hv:i64 v) (hΦ:∀ s',bK s' h (P.uU a v)→aC [P.nw] s s'→Φ (int (P.ZQ a)) s'):okF q X (KO kc) 16 [ptr h,int a,int v] s Φ:=by
 have bY:=H.bY;unfold PH.uU PH.ZQ at hΦ;refine aW Tryz.func16 (by kernel_rfl) rfl rfl (rs:=[.tmp 6]) rfl (N:=62) rfl rfl ?_;refine aA fun bF aF bD=>?_;simp only[jV,seval];refine aF _ _ ?_;refine aA fun Ψ1 aE aL=>?_;refine aA fun Ψ2 aI bH=>?_;simp only[jV,seval];refine aH ?_ (Ed hs H a ?_)
 ·simp only[jV,seval]
 by_cases ha:0≤a∧a<64*(P.N:Int);rotate_left
 ·have hp:P.CD a=false:=by
   unfold PH.CD;cases hf:P.find a with
   | none=>rfl
   | some o=>exact absurd ⟨(PH.VF hf).1,(PH.VF hf).2.1⟩ ha
  rw[hp] at hΦ;rw[if_neg ha] at hΦ ⊢;simp only[jV,seval];refine aI _ _ ?_;simp only[jV,seval];refine aL _ _ _ (by simp) ?_;simp only[jV,seval];exact hΦ _ H (.refl hs)
 rw[if_pos ha] at hΦ ⊢;simp only[jV,seval];refine aI _ _ ?_;simp only[jV,seval];refine aE _ _ ?_;refine aA fun Ψ3 aN bM=>?_;simp only[jV,seval];refine aH ?_ (js hs H a fun s2 k2=>?_)
 ·simp only[jV,seval]
 have H2:=H.aJ k2;cases hf:P.find a with
 | none =>
  have hp:P.CD a=false:=by unfold PH.CD;rw[hf]
  rw[hp] at hΦ;unfold CB;simp only[jV,seval];refine aN _ _ ?_;refine aA fun Ψ4 aP cC=>?_;refine aA fun cU aZ cK=>?_;simp only[jV,seval];refine aZ _ _ ?_;simp only[jV,seval];refine cC _ _ _ (by simp) ?_;simp only[jV,seval];exact hΦ _ H2 k2.any
 | some o =>
  obtain⟨f1,f2,f3,f4,f5,f6,f7⟩:=PH.VF hf;obtain⟨v1,v2⟩:=G.val o f7;have BN:=cO.nX.1 v1;have hp:P.CD a=decide (o+2≤a∧a<o+2+(P.shape o).r+(P.shape o).d):=by unfold PH.CD;rw[hf]
  have e1:IntKind.i64.wrap (o+1)=o+1:=aU (by omega) (by omega);have g1:0≤o+1:=by omega
  have g2:o+1<((64*P.N:Nat):Int):=by omega
  have l:=H2.lw (i:=(o+1).toNat) (by omega);unfold CB;simp only[jV,seval];refine aN _ _ ?_;refine aA fun Ψ4 aP cC=>?_;refine aA fun cU aZ cK=>?_;simp only[jV,seval];refine aZ _ _ ?_;simp only[jV,seval];refine aP _ _ ?_;refine aA fun dN bO cZ=>?_;simp only[jV,seval,H2.l1,e1,g1,g2,and_self,bQ,Nat.zero_add,Nat.mul_one,l];refine aH ?_ (WA k2.ok (P.w (o+1).toNat) (H.wr _) fun s3 k3=>?_)
  ·simp only[jV,seval]
  simp only[jV,seval];obtain⟨s4,e4,k4,c4,_⟩:=cI k3.ok (L:=[int 0,int 0,int 0]) (n:=3) (e:=44) rfl;rw[e4];obtain⟨s5,h5,c5,k5⟩:=c4.storeAll k4.ok (vs:=[int (rZ (P.w (o+1).toNat)).r,int (rZ (P.w (o+1).toNat)).d,int (rZ (P.w (o+1).toNat)).k]) rfl rfl;have k6:aC [] s s5:=(k2.trans (k3.trans k4)).step k5 fun g hg=>.inr (by rw[List.mem_singleton.1 hg];exact hs.fresh _ (k2.trans k3).next);simp only[jV,seval,h5];refine bO _ _ ?_;have H5:=H.aJ k6;have lr:aG s5.look ⟨s3.next,0,none⟩=some (int (P.shape o).r):=c5.load rfl;have ld:aG s5.look ⟨s3.next,1,none⟩=some (int (P.shape o).d):=c5.load rfl;have w1:IntKind.i64.wrap (o+2)=o+2:=aU (by omega) (by omega);have w2:IntKind.i64.wrap (o+2+(P.shape o).r)=o+2+(P.shape o).r:=aU (by omega) (by omega);have w3:IntKind.i64.wrap (o+2+(P.shape o).r+(P.shape o).d)=o+2+(P.shape o).r+(P.shape o).d:=aU (by omega) (by omega);refine aA fun fE cG dX=>?_;refine aA fun gV cT gA=>?_;refine cL [(4,43)] (by kernel_rfl) fun O hO bC hR=>?_;have y4:∀ a,aO O a 4=aY (a.aB 43):=hO (4,43) (by simp);by_cases i0:a<o+2
  ·rw[hp,decide_eq_false (by omega)] at hΦ;simp only[jV,seval,y4,w1,i0,decide_true];refine hR _ _ (cT _ _ ?_);simp only[jV,seval];refine dX _ _ _ (by simp) ?_;simp only[jV,seval];exact hΦ _ H5 k6.any
  ·by_cases i1:a≥o+2+(P.shape o).r+(P.shape o).d
   ·rw[hp,decide_eq_false (by omega)] at hΦ;simp only[jV,seval,y4,w1,w2,w3,lr,ld,i0,i1,decide_true,decide_false,Nat.zero_add];refine hR _ _ (cT _ _ ?_);simp only[jV,seval];refine dX _ _ _ (by simp) ?_;simp only[jV,seval];exact hΦ _ H5 k6.any
   ·rw[hp,decide_eq_true (by omega)] at hΦ;obtain⟨s7,h7,H7,k7⟩:=H5.SI k6.ok (i:=a) (v:=v) (by omega) (by omega) hv;have q1:0≤a:=by omega
    have q2:a<((64*P.N:Nat):Int):=by omega
    simp only[jV,seval,y4,w1,w2,w3,lr,ld,i0,i1,decide_false,Nat.zero_add];refine hR _ _ (cT _ _ ?_);simp only[jV,seval];refine cG _ _ ?_;simp only[jV,seval,H5.l1,q1,q2,and_self,bQ,Nat.zero_add,Nat.mul_one,h7];exact hΦ _ H7 (k6.any.trans k7)
end
end Go.Dust
namespace Go.Dust
open Go.Proofs
set_option maxRecDepth 100000
set_option maxHeartbeats 1000000
def qW (bs:Nat→Int) (p:Nat):Nat→Nat
 | 0=>0
 | d+1=>if bs p=3 then qW bs (p+1) d+1 else 0
theorem SJ {bs:Nat→Int}:∀ {d p:Nat},qW bs p d≤d
 | 0,p=>Nat.le_refl _
 | d+1,p=>by
  rw[qW];split
  ·have:=SJ (bs:=bs) (d:=d) (p:=p+1);omega
  ·omega
theorem bt {bs:Nat→Int}:∀ {d p j:Nat},j<qW bs p d→bs (p+j)=3
 | 0,p,j,h=>by simp[qW] at h
 | d+1,p,j,h=>by
  rw[qW] at h;split at h
  ·cases j with
   | zero=>assumption
   | succ j=>have:=bt (bs:=bs) (d:=d) (p:=p+1) (j:=j) (by omega);rw[show p+(j+1)=p+1+j by omega];exact this
  ·omega
theorem br {bs:Nat→Int}:∀ {d p:Nat},qW bs p d<d→bs (p+qW bs p d)≠3
 | 0,p,h=>by omega
 | d+1,p,h=>by
  rw[qW] at h ⊢;split
  ·rename_i h3;rw[if_pos h3] at h;have:=br (bs:=bs) (d:=d) (p:=p+1) (by omega);rw[show p+(qW bs (p+1) d+1)=p+1+qW bs (p+1) d by omega];exact this
  ·assumption
namespace PH
variable (P:PH)
def span (b:Nat):Nat:=if P.bs b=2 then qW P.bs (b+1) (P.N-(b+1))+1 else 1
def kQ (a nI:Int) (n:Nat):Bool:=(List.range n).any fun k=>match P.find (a+2*k) with
 | some o=>decide (o≠nI)
 | none=>false
def pA (a words nI:Int):Int :=
 if a<0∨a≥64*P.N∨a%2≠0 then 1
 else if (if words≤32 then P.bs (a/64).toNat≠1∨(a+words-1)/64≠a/64 else P.bs (a/64).toNat≠2∨a%64≠0∨(P.span (a/64).toNat:Int)≠(words+63)/64) then 5
 else if P.kQ a nI ((words+1)/2).toNat=true then 8 else 0
end PH
section
variable {kc:Kc} {q:Bool} {s:St} {Φ:Value→St→Prop} {h:Nat} {P:PH}
theorem lZ:type_of% (B7 @RX @pO @pW @vY @KM @bG @wD):=B7 @RX @pO @pW @vY @KM @bG @wD
theorem K0 (hs:Ok s) (H:bK s h P) {b:Nat} (hb:b<P.N) (hΦ:Φ (int (P.span b)) s):okF q X (KO kc) 228 [ptr h,int b] s Φ:=by
 have bY:=H.bY;have hle:=SJ (bs:=P.bs) (d:=P.N-(b+1)) (p:=b+1);obtain⟨m,hm⟩:∃ m,P.span b=m+1:=by unfold PH.span;split <;> exact⟨_,rfl⟩
 have hmN:b+m<P.N:=by unfold PH.span at hm;split at hm <;> omega
 have l0:=H.lb hb;rw[hm] at hΦ;refine aW Tryz.func228 (by kernel_rfl) rfl rfl (rs:=[.tmp 4]) rfl (N:=42) rfl rfl ?_;refine aA fun bF aF bD=>?_;simp only[lZ,seval];refine aF _ _ ?_;refine aA fun Ψ1 aE aL=>?_;simp only[lZ,seval];refine aE _ _ ?_;refine aA fun Ψ2 aI bH=>?_;refine cJ fun Ψ3 aN pF bM=>?_;refine ZE (n:=m) (fun j a' s'=>a'.aB 0=ptr h∧a'.aB 1=int b∧a'.aB 5=int (1+j:Nat)∧s'=s) ?_ ?_ ?_ (Nat.zero_le m) ?_
 ·rintro j a' s' hj ⟨r0,r1,r5,rfl⟩ aV bP;have g1:(0:Int)≤(b:Int):=Int.natCast_nonneg _;have g2:(b:Int)<(P.N:Int):=by omega
  have e1:IntKind.i64.wrap ((b:Int)+((1+j:Nat):Int))=((b+1+j:Nat):Int):=by rw[aU (by omega) (by omega)];omega
  refine cL [(9,15),(20,26)] (by kernel_rfl) fun O hO bC hR=>?_;have y9:∀ a,aO O a 9=aY (a.aB 15):=hO (9,15) (by simp);have uu:∀ a,aO O a 20=aY (a.aB 26):=hO (20,26) (by simp);by_cases h2:P.bs b=2
  ·have e2:(P.bs b==2)=true:=by simpa using h2
   have hm':m=qW P.bs (b+1) (P.N-(b+1)):=by unfold PH.span at hm;rw[if_pos h2] at hm;omega
   by_cases h3:b+1+j<P.N
   ·have g3:(0:Int)≤((b+1+j:Nat):Int):=Int.natCast_nonneg _;have g4:((b+1+j:Nat):Int)<(P.N:Int):=by omega
    have l1:=H.lb h3;simp only[lZ,seval,r0,r1,r5,H.l0,g1,g2,and_self,bQ,Int.toNat_natCast,Nat.zero_add,l0,e2,y9,uu,e1,g3,g4,decide_true,l1];refine hR _ _ (bP _ _ (P.bs (b+1+j)==3) ?_ ?_ ⟨?_,?_,?_,rfl⟩)
    ·simp only[lZ,seval]
    ·rw[beq_iff_eq];constructor
     ·intro h4;rcases Nat.lt_or_ge j m with h5 | h5
      ·exact h5
      ·have:=br (bs:=P.bs) (d:=P.N-(b+1)) (p:=b+1) (by omega);rw[← hm',show m=j by omega] at this;exact absurd h4 this
     ·intro h4;exact bt (d:=P.N-(b+1)) (by omega)
    ·simp only[lZ,seval,r0]
    ·simp only[lZ,seval,r1]
    ·simp only[lZ,seval,r5]
   ·have g4:¬ ((b+1+j:Nat):Int)<(P.N:Int):=by omega
    simp only[lZ,seval,r0,r1,r5,H.l0,g1,g2,and_self,bQ,Int.toNat_natCast,Nat.zero_add,l0,e2,y9,uu,e1,g4,decide_false];refine hR _ _ (bP _ _ false ?_ ⟨fun h=>(by cases h),fun h=>(by omega)⟩ ⟨?_,?_,?_,rfl⟩)
    ·simp only[lZ,seval]
    ·simp only[lZ,seval,r0]
    ·simp only[lZ,seval,r1]
    ·simp only[lZ,seval,r5]
  ·have e2:(P.bs b==2)=false:=by simpa using h2
   have hm':m=0:=by unfold PH.span at hm;rw[if_neg h2] at hm;omega
   simp only[lZ,seval,r0,r1,H.l0,g1,g2,and_self,bQ,Int.toNat_natCast,Nat.zero_add,l0,e2,y9,uu];refine hR _ _ (bP _ _ false ?_ ⟨fun h=>(by cases h),fun h=>(by omega)⟩ ⟨?_,?_,?_,rfl⟩)
   ·simp only[lZ,seval]
   ·simp only[lZ,seval,r0]
   ·simp only[lZ,seval,r1]
   ·simp only[lZ,seval,r5]
 ·rintro j a' s' hj ⟨r0,r1,r5,rfl⟩ aV h1 h2 h3;simp only[lZ,seval,r5];refine h1 _ _ ⟨?_,?_,?_,rfl⟩
  ·simp only[lZ,seval,r0]
  ·simp only[lZ,seval,r1]
  ·simp only[lZ,seval];rw[aU (by omega) (by omega)];congr 1 <;> omega
 ·rintro a' s' ⟨r0,r1,r5,rfl⟩;refine pF _ _ (aI _ _ ?_);simp only[lZ,seval,r5];rw[Nat.add_comm 1 m];exact hΦ
 ·refine⟨?_,?_,?_,rfl⟩
  ·simp only[lZ,seval]
  ·simp only[lZ,seval]
  ·simp only[lZ,seval]
   try rfl
theorem N9 {P:PH} {a nI:Int} {n j:Nat} {o:Int} (hj:j<n) (hf:P.find (a+2*j)=some o) (ho:o≠nI):P.kQ a nI n=true:=by
 unfold PH.kQ;rw[List.any_eq_true];exact⟨j,List.mem_range.2 hj,by rw[hf];simpa using ho⟩
theorem N8 {P:PH} {a nI:Int} {n:Nat} (h:∀ (k:Nat) o,k<n→P.find (a+2*k)=some o→o=nI):P.kQ a nI n=false:=by
 unfold PH.kQ;rw[List.any_eq_false];intro k hk;cases hf:P.find (a+2*k) with
 | none=>simp
 | some o=>simp[h k o (List.mem_range.1 hk) hf]
theorem cY:type_of% (B9 @RX @gY @dF @dV @pO @pW @vY @KM @bG):=B9 @RX @gY @dF @dV @pO @pW @vY @KM @bG
theorem J7 (hs:Ok s) (H:bK s h P) (a words nI:Int) (ha:i64 a) (PY:0<words) (hw1:words≤300) (hΦ:∀ s',aC [] s s'→Φ (int (P.pA a words nI)) s'):okF q X (KO kc) 169 [ptr h,int a,int words,int nI] s Φ:=by
 have bY:=H.bY;unfold PH.pA at hΦ;refine aW Tryz.func169 (by kernel_rfl) rfl rfl (rs:=[.tmp 8]) rfl (N:=96) rfl rfl ?_;refine aA fun bF aF bD=>?_;simp only[cY,seval];refine aF _ _ ?_;refine aA fun Ψ1 aE aL=>?_;refine aA fun Ψ2 aI bH=>?_;refine cL [(2,15),(11,24)] (by kernel_rfl) fun O hO bC hR=>?_;have y2:∀ a,aO O a 2=aY (a.aB 15):=hO (2,15) (by simp);have kV:∀ a,aO O a 11=aY (a.aB 24):=hO (11,24) (by simp);by_cases h0:a<0
 ·rw[if_pos (.inl h0)] at hΦ;simp only[cY,seval,y2,kV,h0,decide_true];refine hR _ _ (aI _ _ ?_);simp only[cY,seval];refine aL _ _ _ (by simp) ?_;simp only[cY,seval];exact hΦ _ (.refl hs)
 by_cases h1:a≥((64*P.N:Nat):Int)
 ·rw[if_pos (.inr (.inl (by omega)))] at hΦ;simp only[cY,seval,y2,kV,h0,H.l1,h1,decide_true,decide_false];refine hR _ _ (aI _ _ ?_);simp only[cY,seval];refine aL _ _ _ (by simp) ?_;simp only[cY,seval];exact hΦ _ (.refl hs)
 have t2:a.tmod 2=a%2:=Int.tmod_eq_emod_of_nonneg (by omega);by_cases h2:a%2=0;rotate_left
 ·have e2:(a%2==0)=false:=by simpa using h2
  rw[if_pos (.inr (.inr h2))] at hΦ;simp only[cY,seval,y2,kV,h0,H.l1,h1,decide_false,t2,e2];refine hR _ _ (aI _ _ ?_);simp only[cY,seval];refine aL _ _ _ (by simp) ?_;simp only[cY,seval];exact hΦ _ (.refl hs)
 have e2:(a%2==0)=true:=by simpa using h2
 rw[if_neg (by omega)] at hΦ;simp only[cY,seval,y2,kV,h0,H.l1,h1,decide_false,t2,e2];refine hR _ _ (aI _ _ ?_);simp only[cY,seval];refine aE _ _ ?_;have t64:IntKind.i64.wrap (a.tdiv 64)=a/64:=by rw[Int.tdiv_eq_ediv_of_nonneg (by omega),aU (by omega) (by omega)]
 have m64:a.tmod 64=a%64:=Int.tmod_eq_emod_of_nonneg (by omega);refine aA fun Ψ3 aN bM=>?_;simp only[cY,seval,t64];refine aN _ _ ?_;have g1:0≤a/64:=by omega
 have g2:a/64<(P.N:Int):=by omega
 have lb:=H.lb (i:=(a/64).toNat) (by omega);have key:∀ s',aC [] s s'→∀ c:Prop,((if words≤32 then P.bs (a/64).toNat≠1∨(a+words-1)/64≠a/64 else P.bs (a/64).toNat≠2∨a%64≠0∨(P.span (a/64).toNat:Int)≠(words+63)/64)↔c)→(c→Φ (int 5) s')∧(¬ c→∀ s',aC [] s s'→Φ (int (if P.kQ a nI ((words+1)/2).toNat=true then 8 else 0)) s'):=by
  intro s' hk c hc;refine⟨fun h=>?_,fun h s' hk=>?_⟩
  ·have:=hΦ s' hk;rw[if_pos (hc.2 h)] at this;exact this
  ·have:=hΦ s' hk;rw[if_neg (fun h'=>h (hc.1 h'))] at this;exact this
 clear hΦ;refine aA fun Ψ4 aP cC=>?_;refine aA fun cU aZ cK=>?_;simp only[cY,seval];refine aZ _ _ ?_;have rest:∀ (a':aK),(∀ s',aC [] s s'→Φ (int (if P.kQ a nI ((words+1)/2).toNat=true then 8 else 0)) s')→a'.aB 0=ptr h→a'.aB 1=int a→a'.aB 2=int words→a'.aB 3=int nI→Ψ4 .normal a' s:=by
  intro a' hf r0 r1 r2 r3;refine aP _ _ ?_;have w1:IntKind.i64.wrap (a+words)=a+words:=aU (by omega) (by omega);refine aA fun dN bO cZ=>?_;refine aA fun fE cG dX=>?_;simp only[cY,seval,r1];refine cG _ _ ?_;refine cJ fun gV cT tQ gA=>?_;refine gB (n:=((words+1)/2).toNat) (fun j a' s'=>a'.aB 0=ptr h∧a'.aB 1=int a∧a'.aB 2=int words∧a'.aB 3=int nI∧a'.aB 10=int (a+2*j)∧aC [] s s'∧∀ (k:Nat) o,k<j→P.find (a+2*k)=some o→o=nI)
   (fun j a' s'=>a'.aB 0=ptr h∧a'.aB 1=int a∧a'.aB 2=int words∧a'.aB 3=int nI∧a'.aB 10=int (a+2*j)∧aC [] s s'∧∀ (k:Nat) o,k<j+1→P.find (a+2*k)=some o→o=nI) ?_ ?_ ?_ ?_ (Nat.zero_le _) ?_
  ·rintro j a2 s2 hj ⟨r0,r1,r2,r3,cH,k2,hn⟩ aV bP;simp only[cY,seval,r1,r2,cH,w1];refine bP _ _ (decide (a+2*(j:Int)<a+words)) ?_ (by rw[decide_eq_true_eq];omega) ⟨?_,?_,?_,?_,?_,k2,hn⟩
   all_goals simp only[cY,seval,r0,r1,r2,r3,cH]
  ·rintro j a2 s2 hj ⟨r0,r1,r2,r3,cH,k2,hn⟩ aV h1 h2 h3;refine aA fun jC dK iK=>?_;simp only[cY,seval,r0,cH];refine aH ?_ (js k2.ok (H.aJ k2) (a+2*(j:Int)) fun s3 k3=>?_)
   ·simp only[cY,seval]
   have lV:=k2.trans k3;cases jw:P.find (a+2*(j:Int)) with
   | none =>
    unfold CB;simp only[cY,seval];refine dK _ _ ?_;refine aA fun lO eG kY=>?_;refine cL [(2,91)] (by kernel_rfl) fun O hO bC hR=>?_;have y2:∀ a,aO O a 2=aY (a.aB 91):=hO (2,91) (by simp);simp only[cY,seval,y2];refine hR _ _ (eG _ _ ?_);simp only[cY,seval];refine h1 _ _ ⟨?_,?_,?_,?_,?_,lV,fun k o hk ho=>?_⟩
    ·simp only[cY,seval,r0]
    ·simp only[cY,seval,r1]
    ·simp only[cY,seval,r2]
    ·simp only[cY,seval,r3]
    ·simp only[cY,seval,cH]
    ·rcases Nat.lt_or_ge k j with h | h
     ·exact hn k o h ho
     ·obtain rfl:k=j:=by omega
      rw[jw] at ho;cases ho
   | some o =>
    unfold CB;by_cases WS:o=nI
    ·have e3:(o==nI)=true:=by simpa using WS
     simp only[cY,seval];refine dK _ _ ?_;refine aA fun lO eG kY=>?_;refine cL [(2,91)] (by kernel_rfl) fun O hO bC hR=>?_;have y2:∀ a,aO O a 2=aY (a.aB 91):=hO (2,91) (by simp);simp only[cY,seval,y2,r3,e3];refine hR _ _ (eG _ _ ?_);simp only[cY,seval];refine h1 _ _ ⟨?_,?_,?_,?_,?_,lV,fun k o' hk ho=>?_⟩
     ·simp only[cY,seval,r0]
     ·simp only[cY,seval,r1]
     ·simp only[cY,seval,r2]
     ·simp only[cY,seval,r3]
     ·simp only[cY,seval,cH]
     ·rcases Nat.lt_or_ge k j with h | h
      ·exact hn k o' h ho
      ·obtain rfl:k=j:=by omega
       rw[jw] at ho;cases ho;exact WS
    ·have e3:(o==nI)=false:=by simpa using WS
     simp only[cY,seval];refine dK _ _ ?_;refine aA fun lO eG kY=>?_;refine cL [(2,91)] (by kernel_rfl) fun O hO bC hR=>?_;have y2:∀ a,aO O a 2=aY (a.aB 91):=hO (2,91) (by simp);simp only[cY,seval,y2,r3,e3];refine hR _ _ (eG _ _ ?_);simp only[cY,seval];refine h3 _ _ _ (by simp) (by simp) (gA _ _ _ (by simp) (by simp) (cZ _ _ _ (by simp) ?_));simp only[cY,seval];have:=hf _ lV;rw[if_pos (N9 hj jw WS)] at this;exact this
  ·rintro j a2 s2 hj ⟨r0,r1,r2,r3,cH,k2,hn⟩ aV h1;simp only[cY,seval,cH];refine h1 _ _ ⟨?_,?_,?_,?_,?_,k2,hn⟩
   ·simp only[cY,seval,r0]
   ·simp only[cY,seval,r1]
   ·simp only[cY,seval,r2]
   ·simp only[cY,seval,r3]
   ·simp only[cY,seval];rw[aU (n:=a+2*(j:Int)+2) (by omega) (by omega)];omega
  ·rintro a2 s2 ⟨r0,r1,r2,r3,cH,k2,hn⟩;refine tQ _ _ (bO _ _ ?_);simp only[cY,seval];have:=hf _ k2;rw[if_neg (by rw[N8 hn];simp)] at this;exact this
  ·refine⟨?_,?_,?_,?_,?_,.refl hs,fun k o hk=>absurd hk (Nat.not_lt_zero k)⟩
   ·simp only[cY,seval,r0]
   ·simp only[cY,seval,r1]
   ·simp only[cY,seval,r2]
   ·simp only[cY,seval,r3]
   ·simp only[cY,seval];congr 1;omega
 by_cases fZ:words≤32
 ·have c1:=key s (.refl hs);simp only[dA,RV,RG,seval,fZ,decide_true];refine aA fun dN bO cZ=>?_;refine cL [(9,42)] (by kernel_rfl) fun O hO bC hR=>?_;have y9:∀ a,aO O a 9=aY (a.aB 42):=hO (9,42) (by simp);by_cases b1:P.bs (a/64).toNat=1
  ·have eb:(P.bs (a/64).toNat==1)=true:=by simpa using b1
   have w1:IntKind.i64.wrap (a+words)=a+words:=aU (by omega) (by omega);have w2:IntKind.i64.wrap (a+words-1)=a+words-1:=aU (by omega) (by omega);have w3:IntKind.i64.wrap ((a+words-1).tdiv 64)=(a+words-1)/64:=by rw[Int.tdiv_eq_ediv_of_nonneg (by omega),aU (by omega) (by omega)]
   by_cases b2:(a+words-1)/64=a/64
   ·have GD:((a+words-1)/64==a/64)=true:=by simpa using b2
    simp only[cY,seval,y9,H.l0,g1,g2,and_self,bQ,Nat.zero_add,lb,eb,w1,w2,w3,GD];refine hR _ _ (bO _ _ ?_);simp only[cY,seval];refine rest _ ((c1 False (by rw[if_pos fZ];simp[b1,b2])).2 id) ?_ ?_ ?_ ?_
    all_goals simp only[cY,seval]
   ·have GD:((a+words-1)/64==a/64)=false:=by simpa using b2
    simp only[cY,seval,y9,H.l0,g1,g2,and_self,bQ,Nat.zero_add,lb,eb,w1,w2,w3,GD];refine hR _ _ (bO _ _ ?_);simp only[cY,seval];refine cC _ _ _ (by simp) ?_;simp only[cY,seval];exact(c1 True (by rw[if_pos fZ];simp[b1,b2])).1 trivial
  ·have eb:(P.bs (a/64).toNat==1)=false:=by simpa using b1
   simp only[cY,seval,y9,H.l0,g1,g2,and_self,bQ,Nat.zero_add,lb,eb];refine hR _ _ (bO _ _ ?_);simp only[cY,seval];refine cC _ _ _ (by simp) ?_;simp only[cY,seval];exact(c1 True (by rw[if_pos fZ];simp[b1])).1 trivial
 ·have c1:=key s (.refl hs);simp only[dA,RV,RG,seval,fZ,decide_false];refine aA fun dN bO cZ=>?_;refine cL [(9,60),(14,65)] (by kernel_rfl) fun O hO bC hR=>?_;have y9:∀ a,aO O a 9=aY (a.aB 60):=hO (9,60) (by simp);have oV:∀ a,aO O a 14=aY (a.aB 65):=hO (14,65) (by simp);by_cases b1:P.bs (a/64).toNat=2;rotate_left
  ·have eb:(P.bs (a/64).toNat==2)=false:=by simpa using b1
   simp only[cY,seval,y9,oV,H.l0,g1,g2,and_self,bQ,Nat.zero_add,lb,eb];refine hR _ _ (bO _ _ ?_);simp only[cY,seval];refine cC _ _ _ (by simp) ?_;simp only[cY,seval];exact(c1 True (by rw[if_neg fZ];simp[b1])).1 trivial
  have eb:(P.bs (a/64).toNat==2)=true:=by simpa using b1
  by_cases b2:a%64=0;rotate_left
  ·have GD:(a%64==0)=false:=by simpa using b2
   simp only[cY,seval,y9,oV,H.l0,g1,g2,and_self,bQ,Nat.zero_add,lb,eb,m64,GD];refine hR _ _ (bO _ _ ?_);simp only[cY,seval];refine cC _ _ _ (by simp) ?_;simp only[cY,seval];exact(c1 True (by rw[if_neg fZ];simp[b2])).1 trivial
  have GD:(a%64==0)=true:=by simpa using b2
  have w1:IntKind.i64.wrap (words+64)=words+64:=aU (by omega) (by omega);have w2:IntKind.i64.wrap (words+64-1)=words+63:=by rw[aU (by omega) (by omega)];omega
  have w3:IntKind.i64.wrap ((words+63).tdiv 64)=(words+63)/64:=by rw[Int.tdiv_eq_ediv_of_nonneg (by omega),aU (by omega) (by omega)]
  have G6:((a/64).toNat:Int)=a/64:=by omega
  simp only[cY,seval,y9,oV,H.l0,g1,g2,and_self,bQ,Nat.zero_add,lb,eb,m64,GD];refine aH ?_ (K0 hs H (b:=(a/64).toNat) (by omega) ?_)
  ·simp only[cY,seval,G6]
  by_cases b3:(P.span (a/64).toNat:Int)=(words+63)/64
  ·have fy:((P.span (a/64).toNat:Int)==(words+63)/64)=true:=by simpa using b3
   simp only[cY,seval,oV,w1,w2,w3,fy];refine hR _ _ (bO _ _ ?_);simp only[cY,seval];refine rest _ ((c1 False (by rw[if_neg fZ];simp[b1,b2,b3])).2 id) ?_ ?_ ?_ ?_
   all_goals simp only[cY,seval]
  ·have fy:((P.span (a/64).toNat:Int)==(words+63)/64)=false:=by simpa using b3
   simp only[cY,seval,oV,w1,w2,w3,fy];refine hR _ _ (bO _ _ ?_);simp only[cY,seval];refine cC _ _ _ (by simp) ?_;simp only[cY,seval];exact(c1 True (by rw[if_neg fZ];simp[b3])).1 trivial
end
open Go.Proofs
set_option maxRecDepth 100000
set_option maxHeartbeats 1000000
namespace PH
variable (P:PH)
def place (a:Int) (x:cO):PH:={P with w:=(fun j=>if j=(a+1).toNat then x.num else if j=a.toNat then((P.born:Int)+1) else P.w j),S:=mR P.S (a/2).toNat 1,M:=P.M++[((P.born:Int)+1,a)],born:=P.born+1}
def qP (a:Int) (x:cO):Int:=if x.valid=true then P.pA a x.words (-1) else 2
theorem j_ {P:PH} {a n b:Int} (h:P.pA a n b=0):0≤a∧a<64*P.N∧a%2=0:=by
 unfold pA at h;split at h
 ·cases h
 ·omega
end PH
section
variable {kc:Kc} {q:Bool} {s:St} {Φ:Value→St→Prop} {h:Nat} {P:PH}
theorem bK.sw {s s':St} {n:Nat} (H:bK s h P) (k:aC [h] s s') (hc:Obj s' h [.slice (some ⟨P.nb,0,none⟩) P.N P.N,.slice (some ⟨P.nw,0,none⟩) (64*P.N) (64*P.N),ptr P.st,ptr P.pt,.map (some P.mp),.map (some P.mf),int n]):bK s' h {P with born:=n}:=by
 obtain⟨⟨a1,a2,a3,a4,a5,a6,a7,a8⟩,_⟩:=H.QW;obtain⟨c,cb,cw,ts,tp,mp,mf,nd,n2,bY,wr⟩:=H;exact⟨hc,cb.aD k (by simp[Ne.symm a1]),cw.aD k (by simp[Ne.symm a2]),ts.aD k (by simp[Ne.symm a3]) (by simp[Ne.symm a4]),tp.aD k (by simp[Ne.symm a5]) (by simp[Ne.symm a6]),mp.aD k (by simp[Ne.symm a7]),mf.aD k (by simp[Ne.symm a8]),nd,n2,bY,wr⟩
theorem bK.aDv (hs:Ok s) (H:bK s h P) {k a:Int} (hl:P.M.lookup k=none):∃ s',mJ X s 136 (.map (some P.mp)) (int k) (int a)=some s'∧bK s' h {P with M:=P.M++[(k,a)]}∧aC [P.mp] s s':=by
 obtain⟨es,aR,bB,h1,h2,GP⟩:=H.mp;rw[qo,h1];simp only;rw[OM h2 (by rw[Jb,hl];rfl)];have kk:aC [P.mp] s (s.put P.mp fun v=>.map (es++[⟨int k,int a,aR⟩]) (aR+1) v):=.CE hs h1 (.inr (Nat.le_refl _)) (List.mem_singleton.2 rfl);refine⟨_,rfl,H.sx kk ⟨es++[⟨int k,int a,aR⟩],aR+1,s.aR,by simp only[St.put,PT.fH,if_true],?_,yx GP⟩,kk⟩;rw[List.map_append,List.map_append,List.map_append,h2]
 try rfl
theorem kO:type_of% (B9 @RX @gL @GF @bG @lD @gY @dF @dQ (B5 @tL @oM @BM @BU @qo)):=B9 @RX @gL @GF @bG @lD @gY @dF @dQ (B5 @tL @oM @BM @BU @qo)
theorem ju (hs:Ok s) (H:bK s h P) (a:Int) (ha:i64 a) (x:cO) (hb:P.born<1000000000) (hl:P.M.lookup ((P.born:Int)+1)=none)
  (hΦ:∀ s',bK s' h (if P.qP a x=0 then P.place a x else P)→aC [h,P.nw,P.su,P.mp] s s'→Φ (.tuple #[int (if P.qP a x=0 then(P.born:Int)+1 else 0),int (P.qP a x)]) s'):okF q X (KO kc) 80 [ptr h,int a,pK x] s Φ:=by
 have bY:=H.bY;unfold PH.qP at hΦ;refine aW Tryz.func80 (by kernel_rfl) rfl rfl (rs:=[.tmp 6,.tmp 7]) rfl (N:=71) rfl rfl ?_;refine aA fun bF aF bD=>?_;simp only[kO,seval];obtain⟨s1,e1,k1,c1,_⟩:=cI hs (L:=[int x.r,int x.d,int x.k]) (n:=3) (e:=44) rfl;rw[e1];refine aF _ _ ?_;have l3:=c1.bI (i:=0) (k:=3) (Nat.le_refl _);have H1:=H.aJ k1;refine aA fun Ψ1 aE aL=>?_;refine cJ fun Ψ2 aI xQ bH=>?_;refine aA fun Ψ3 aN bM=>?_;simp only[kO,seval];refine aH ?_ (vR H1 ?_)
 ·simp only[kO,seval]
 try simp only[kO,seval]
 refine aN _ _ ?_;simp only[dA,RV,RG,seval];refine aA fun Ψ4 aP cC=>?_;simp only[kO,seval,l3,List.drop_zero,List.take];refine aH ?_ (Ec k1.ok x fun s2 k2=>?_)
 ·simp only[kO,seval]
 have k12:=k1.trans k2;have H2:=H.aJ k12;have c2:=c1.aD k2 (by simp);have l4:=c2.bI (i:=0) (k:=3) (Nat.le_refl _)
 try simp only[kO,seval]
 refine aP _ _ ?_;cases hv:x.valid with
 | false =>
  rw[hv] at hΦ;simp only[kO,seval];refine bH _ _ _ (by simp) (by simp) (aL _ _ _ (by simp) ?_);simp only[kO,seval];exact hΦ _ H2 k12.any
 | true =>
  rw[hv] at hΦ;simp only[if_true] at hΦ;have hw:=cO.uC hv;have hw':=cO.CZ x;simp only[kO,seval];refine aI _ _ (aE _ _ ?_);refine aA fun cU aZ cK=>?_;refine aA fun dN bO cZ=>?_;simp only[kO,seval,l4,List.drop_zero,List.take];refine aH ?_ (Ee k2.ok x fun s3 k3=>?_)
  ·simp only[kO,seval]
  have kZ:=k12.trans k3;have H3:=H.aJ kZ
  try simp only[kO,seval]
  refine aH ?_ (J7 k3.ok H3 a x.words (-1) ha (by omega) (by omega) fun s4 k4=>?_)
  ·simp only[kO,seval]
  have LS:=kZ.trans k4;have H4:=H.aJ LS;have c4:=c2.aD (k3.trans k4) (by simp)
  try simp only[kO,seval]
  refine bO _ _ ?_;by_cases he:P.pA a x.words (-1)=0;rotate_left
  ·have hb':(P.pA a x.words (-1)==0)=false:=by simpa using he
   rw[if_neg he,if_neg he] at hΦ;refine aA fun fE cG dX=>?_;simp only[kO,seval,hb'];refine cG _ _ ?_;simp only[kO,seval];refine cK _ _ _ (by simp) ?_;simp only[kO,seval];exact hΦ _ H4 LS.any
  obtain⟨g1,g2,g3⟩:=PH.j_ he;rw[if_pos he,if_pos he,he] at hΦ;rw[he];refine aA fun fE cG dX=>?_;simp only[kO,seval];refine cG _ _ ?_;simp only[kO,seval];refine aZ _ _ ?_;have w1:IntKind.i64.wrap ((P.born:Int)+1)=((P.born+1:Nat):Int):=by rw[aU (by omega) (by omega)];rfl
  obtain⟨s5,h5,c5,k5⟩:=H4.c.fK k4.ok (i:=6) (v:=int ((P.born+1:Nat):Int)) (by simp) rfl;have H5:bK s5 h {P with born:=P.born+1}:=H4.sw k5 c5;have R1:s.next≠h:=fun e=>by have:=H.c.lt hs;omega
  have uJ:=c4.aD k5 (by simpa using R1);refine aA fun gV cT gA=>?_;simp only[kO,seval,H4.l6,w1,h5];refine cT _ _ ?_;have q1:a<((64*P.N:Nat):Int):=by omega
  have q2:IntKind.i64.wrap (a+1)=a+1:=aU (by omega) (by omega);have q3:0≤a+1:=by omega
  have q4:a+1<((64*P.N:Nat):Int):=by omega
  have l5:=uJ.bI (i:=0) (k:=3) (Nat.le_refl _);have hl1:aG s5.look ⟨h,1,none⟩=some (.slice (some ⟨P.nw,0,none⟩) (64*P.N) (64*P.N)):=H5.l1;have O7:aG s5.look ⟨h,6,none⟩=some (int ((P.born+1:Nat):Int)):=H5.l6;refine aA fun jC dK iK=>?_;refine dG [(3,16),(8,16),(14,16)] [h] [] (by kernel_rfl) (by kernel_rfl) (by rfl) fun O hO bC hR=>?_;simp only[kO,seval,hl1,O7,q2,l5,List.drop_zero,List.take];refine dL ?_ (J8 (k5.ok.skip _) x hv fun s6 k6=>?_)
  ·simp only[kO,seval]
  have oz:aC [] s5 s6:=(aC.skip k5.ok 42).trans k6;have H6:=H5.aJ oz;have R3:i64 x.num:=by
   have:=cO.nX.1 hv;unfold cO.num;constructor <;> omega
  obtain⟨s7,h7,H7,k7⟩:=H6.SI k6.ok (i:=a) (v:=((P.born+1:Nat):Int)) g1 (by show a<64*(P.N:Int);omega) ⟨by omega,by omega⟩;obtain⟨s8,h8,H8,k8⟩:=H7.SI k7.ok (i:=a+1) (v:=x.num) q3 (by show a+1<64*(P.N:Int);omega) R3;have x8:dS s6 ⟨P.nw,a.toNat,none⟩ [int ((P.born+1:Nat):Int)]=some s7:=h7;have x9:dS s7 ⟨P.nw,(a+1).toNat,none⟩ [int x.num]=some s8:=h8;simp only[kO,seval,g1,q1,q3,q4,and_self,bQ,Nat.zero_add,Nat.mul_one,x8,x9];refine⟨eP (H5.c.same k5.ok oz (by simp)) fO,hR _ _ (dK _ _ ?_)⟩;have e2:IntKind.i64.wrap (a.tdiv 2)=a/2:=by rw[Int.tdiv_eq_ediv_of_nonneg (by omega),aU (by omega) (by omega)]
  have hl2:aG s8.look ⟨h,2,none⟩=some (ptr P.st):=H8.l2;refine aA fun lO eG kY=>?_;simp only[kO,seval,hl2,e2];refine aH ?_ (az (i:=a/2) (v:=1) k8.ok H8.ts (i':=(a/2).toNat) (v':=1) (by omega) rfl (show (a/2).toNat<32*P.N by omega) (by omega) fun s9 h9 k9=>?_)
  ·simp only[kO,seval,PH.eH]
  have H9:=H8.Pp k9 h9
  try simp only[kO,seval]
  refine eG _ _ ?_;have pg:aC [] s9 (s9.skip 20):=.skip k9.ok _;obtain⟨jU,h10,NW,k10⟩:=(H9.aJ pg).aDv pg.ok (k:=((P.born+1:Nat):Int)) (a:=a) hl;have x7:mJ X (s9.skip 20) 136 (.map (some P.mp)) (int ((P.born+1:Nat):Int)) (int a)=some jU:=h10;have WM:aG s9.look ⟨h,4,none⟩=some (.map (some P.mp)):=H9.l4;have O8:aG s9.look ⟨h,6,none⟩=some (int ((P.born+1:Nat):Int)):=H9.l6;refine aA fun rE jI pS=>?_;refine dG [] [] [] (by kernel_rfl) (by kernel_rfl) (by rfl) fun O hO bC hR=>?_;simp only[RD,RV,RG,BM,BU,GF,bG,seval,WM,O8,x7];refine hR _ _ (jI _ _ ?_);have O9:aG jU.look ⟨h,6,none⟩=some (int ((P.born+1:Nat):Int)):=NW.l6;simp only[kO,seval,O9];have kk:aC [h,P.nw,P.su,P.mp] s jU:=by
   have p1:aC [h,P.nw,P.su,P.mp] s s5:=LS.any.trans (k5.mono (by simp));have p2:aC [h,P.nw,P.su,P.mp] s5 s8:=oz.any.trans ((k7.mono (by intro y hy;rw[List.mem_singleton.1 hy];simp)).trans (k8.mono (by intro y hy;rw[List.mem_singleton.1 hy];simp[PH.eH])));have p3:aC [h,P.nw,P.su,P.mp] s8 jU:=(k9.mono (by intro y hy;rw[List.mem_singleton.1 hy];simp[PH.eH])).trans (pg.any.trans (k10.mono (by intro y hy;rw[List.mem_singleton.1 hy];simp[PH.eH])));exact(p1.trans p2).trans p3
  exact hΦ _ NW kk
end
open Go.Proofs
set_option maxRecDepth 100000
set_option maxHeartbeats 1000000
theorem oK {s:St} {x y:Nat} {f:Nat→bW} (h:y≠x):(s.put x f).heap.get y=s.heap.get y:=by
 simp only[St.put,PT.fH,if_neg h]
theorem Obj.fI {s:St} {b x:Nat} {L:List Value} {f:Nat→bW} (h:Obj s b L) (hx:b≠x):Obj (s.put x f) b L:=by
 obtain⟨e,c,z,room,bB,h1,h2⟩:=h;exact⟨e,c,z,room,bB,by rw[oK hx];exact h1,h2⟩
theorem fV.fI {s:St} {b x:Nat} {M:List (Int×Value)} {f:Nat→bW} (h:fV s b M) (hx:b≠x):fV (s.put x f) b M:=by
 obtain⟨es,aR,bB,h1,h2⟩:=h;exact⟨es,aR,bB,by rw[oK hx];exact h1,h2⟩
theorem Obj.kC {s:St} {x e n:Nat} {L:List Value} {room:Bool} (hn:L.length=n):Obj (s.put x fun v=>.cells (PT.ofList L) [] n e room false v) x L:=by
 subst hn;exact⟨_,Cells.kC⟩
theorem fV.kC {s:St} {x:Nat}:fV (s.put x fun v=>.map [] 0 v) x []:=⟨[],0,s.aR,by simp only[St.put,PT.fH,if_true],rfl,⟨fun _ h=>(by cases h),List.nodup_nil⟩⟩
theorem Obj.uR {s:St} {x e n m:Nat} {z:List Value} {L:List Value} (hz:z.length=m) (hL:L.length=n*m) (h:∀ i,i<n*m→L[i]?=some (z.getD (i%m) undef)):Obj (s.put x fun v=>.cells .nil z (n*m) e false false v) x L:=by
 subst hz;have:=Cells.uR (s:=s) (x:=x) (e:=e) (z:=z) (n:=n);rw[show ((List.range (n*z.length)).map fun i=>z.getD (i%z.length) undef)=L from ?_] at this
 ·exact⟨_,this⟩
 ·apply List.ext_getElem?;intro i;by_cases hi:i<n*z.length
  ·rw[h i hi,List.getElem?_map,List.getElem?_range hi];rfl
  ·rw[List.getElem?_eq_none (by simp;omega),List.getElem?_eq_none (by omega)]
theorem aC.jT {F:List Nat} {a s:St} (k:aC F a s) {x:Nat} {f:Nat→bW} (hx:s.heap.get x=Option.none) (cD:x<s.next) (hge:a.next≤x) (hf:(f s.aR).bB≤s.aR):aC F a (s.put x f):=k.ZR hx cD hge (.inr hf)
structure PH.Empty (P:PH) (n:Nat):Prop where
 N:P.N=n
 bs:P.bs=fun _=>0
 bp:P.bp=fun _=>0
 w:P.w=fun _=>0
 S:P.S=fun _=>0
 Q:P.Q=fun _=>0
 M:P.M=[]
 born:P.born=0
section
variable {kc:Kc} {q:Bool} {s:St} {Φ:Value→St→Prop} {h:Nat} {P:PH}
theorem yI:type_of% (B9 @RX @Jt @xr @gY @dF @dV @tL @Qr @zP):=B9 @RX @Jt @xr @gY @dF @dV @tL @Qr @zP
theorem Dz (hs:Ok s) {n:Int} {n':Nat} (hn:n=n') (h2:2≤n') (VO:n'≤64) (hΦ:∀ s' h P,bK s' h P→P.Empty n'→(∀ x∈P.aS h,s.next≤x)→aC [] s s'→Φ (.tuple #[ptr h,int 0]) s'):okF q X (KO kc) 50 [int n] s Φ:=by
 subst hn;have d0:¬ (n':Int)<2:=by omega
 have d1:¬ (n':Int)>64:=by omega
 have e1:IntKind.i64.wrap ((n':Int)*64)=((64*n':Nat):Int):=by rw[aU (by omega) (by omega)];omega
 refine aW Tryz.func50 (by kernel_rfl) rfl rfl (rs:=[.tmp 2,.tmp 3]) rfl (N:=47) rfl rfl ?_;refine aA fun bF aF bD=>?_;simp only[yI,seval];refine aF _ _ ?_;refine aA fun Ψ1 aE aL=>?_;refine aA fun Ψ2 aI bH=>?_;refine cL [(2,7)] (by kernel_rfl) fun O hO bC hR=>?_;have y2:∀ a,aO O a 2=aY (a.aB 7):=hO (2,7) (by simp);simp only[yI,seval,y2,d0,d1,decide_false];refine hR _ _ (aI _ _ ?_);simp only[yI,seval];refine aE _ _ ?_;refine aA fun Ψ3 aN bM=>?_;refine dG [] [] [] (by kernel_rfl) (by kernel_rfl) (by rfl) fun O hO bC hR=>?_;simp only[yI,seval,aBu (nm:=s.next+2) (n:=(n':Int)) (m:=(n':Int)) (by omega) (by omega) (by omega) (by omega),e1,EM (nm:=s.next+8) (n:=((64*n':Nat):Int)) (m:=((64*n':Nat):Int)) (by omega) (by omega) (by omega) (by omega),Int.toNat_natCast];refine hR _ _ (aN _ _ ?_);have fr:∀ x,s.next≤x→s.heap.get x=none:=hs.fresh;obtain⟨S1,h1,k1,c1,n1,f1⟩:∃ S1,(s.skip 20).put (s.next+2) (fun v=>bW.cells PT.nil [Value.int IntKind.i64 0,Value.int IntKind.i64 0] (n'*2) 198 false false v)=S1∧aC [] s S1∧Obj S1 (s.next+2) (row (2*n') fun _=>int 0)∧S1.next=s.next+20∧∀ x,s.next≤x→x≠s.next+2→S1.heap.get x=none :=
  ⟨_,rfl,(aC.skip hs 20).jT (fr _ (by omega)) (by show s.next+2<s.next+20;omega) (by omega) (Nat.le_refl _),Obj.uR rfl (by rw[fY];omega) (fun i hi=>by
   rw[lW _ (by omega)];rcases Nat.mod_two_eq_zero_or_one i with h | h <;> rw[h] <;> rfl),rfl,fun x hx hne=>by rw[oK hne];exact fr x hx⟩
 rw[h1];obtain⟨S2,h2,k2,c2,ew,n2,f2⟩:∃ S2,S1.put (s.next+8) (fun v=>bW.cells PT.nil [Value.int IntKind.i64 0] (64*n'*1) 3 false false v)=S2∧aC [] s S2∧Obj S2 (s.next+8) (row (64*n') fun _=>int 0)∧Obj S2 (s.next+2) (row (2*n') fun _=>int 0)∧S2.next=s.next+20∧∀ x,s.next≤x→x≠s.next+2→x≠s.next+8→S2.heap.get x=none :=
  ⟨_,rfl,k1.jT (f1 _ (by omega) (by omega)) (by omega) (by omega) (Nat.le_refl _),Obj.uR rfl (by rw[fY];omega) (fun i hi=>by
   rw[lW _ (by omega),Nat.mod_one];rfl),c1.fI (by omega),n1,fun x hx hne PL=>by rw[oK PL];exact f1 x hx hne⟩
 rw[h2];obtain⟨S3,h3,k3,c3,ez,fe,n3,f3⟩:∃ S3,S2.put (s.next+10) (fun v=>bW.map [] 0 v)=S3∧aC [] s S3∧fV S3 (s.next+10) []∧Obj S3 (s.next+2) (row (2*n') fun _=>int 0)∧Obj S3 (s.next+8) (row (64*n') fun _=>int 0)∧S3.next=s.next+20∧∀ x,s.next≤x→x≠s.next+2→x≠s.next+8→x≠s.next+10→S3.heap.get x=none :=
  ⟨_,rfl,k2.jT (f2 _ (by omega) (by omega) (by omega)) (by omega) (by omega) (Nat.le_refl _),fV.kC,ew.fI (by omega),c2.fI (by omega),n2,fun x hx a b c=>by rw[oK c];exact f2 x hx a b⟩
 rw[h3];obtain⟨S4,h4,k4,c4,Wr,Ws,Wt,n4,f4⟩:∃ S4,S3.put (s.next+12) (fun v=>bW.map [] 0 v)=S4∧aC [] s S4∧fV S4 (s.next+12) []∧Obj S4 (s.next+2) (row (2*n') fun _=>int 0)∧Obj S4 (s.next+8) (row (64*n') fun _=>int 0)∧fV S4 (s.next+10) []∧S4.next=s.next+20∧∀ x,s.next≤x→x≠s.next+2→x≠s.next+8→x≠s.next+10→x≠s.next+12→S4.heap.get x=none :=
  ⟨_,rfl,k3.jT (f3 _ (by omega) (by omega) (by omega) (by omega)) (by omega) (by omega) (Nat.le_refl _),fV.kC,ez.fI (by omega),fe.fI (by omega),c3.fI (by omega),n3,fun x hx a b c d=>by rw[oK d];exact f3 x hx a b c⟩
 rw[h4];obtain⟨S5,h5,k5,c5,Wu,Wv,Ww,Wx,n5⟩:∃ S5,S4.put (s.next+16) (fun v=>bW.cells (PT.ofList [Value.slice (some ⟨s.next+2,0,none⟩) n' n',Value.slice (some ⟨s.next+8,0,none⟩) (64*n') (64*n'),Value.pointer none,Value.pointer none,Value.map (some (s.next+10)),Value.map (some (s.next+12)),Value.int IntKind.i64 0]) [] 7 138 false false v)=S5∧aC [] s S5 ∧
   Obj S5 (s.next+16) [Value.slice (some ⟨s.next+2,0,none⟩) n' n',Value.slice (some ⟨s.next+8,0,none⟩) (64*n') (64*n'),Value.pointer none,Value.pointer none,Value.map (some (s.next+10)),Value.map (some (s.next+12)),Value.int IntKind.i64 0]∧Obj S5 (s.next+2) (row (2*n') fun _=>int 0)∧Obj S5 (s.next+8) (row (64*n') fun _=>int 0)∧fV S5 (s.next+10) []∧fV S5 (s.next+12) []∧S5.next=s.next+20 :=
  ⟨_,rfl,k4.jT (f4 _ (by omega) (by omega) (by omega) (by omega) (by omega)) (by omega) (by omega) (Nat.le_refl _),Obj.kC rfl,Wr.fI (by omega),Ws.fI (by omega),Wt.fI (by omega),c4.fI (by omega),n4⟩
 rw[h5];clear h1 h2 h3 h4 h5 f1 f2 f3 f4;have w1:IntKind.i64.wrap (((64*n':Nat):Int).tdiv 2)=((32*n':Nat):Int):=by
  rw[Int.tdiv_eq_ediv_of_nonneg (by omega),aU (by omega) (by omega)];omega
 have l1:aG S5.look ⟨s.next+16,1,none⟩=some (Value.slice (some ⟨s.next+8,0,none⟩) (64*n') (64*n')):=c5.load rfl;refine aA fun Ψ4 aP cC=>?_;simp only[yI,seval,l1,w1,Nat.zero_add];refine aH ?_ (Qa k5.ok (n:=((32*n':Nat):Int)) (w:=1) (n':=32*n') (w':=1) rfl rfl (by omega) (by omega) (.inl rfl) fun S6 st su hst hsu ht k6=>?_)
 ·simp only[yI,seval]
 obtain⟨S7,h7,c7,k7⟩:=(c5.aD k6 (by simp)).fK k6.ok (i:=2) (v:=ptr st) (by simp) rfl;have n16:s.next+16∉([]:List Nat):=by simp
 have aIr:=c5.lt k5.ok;simp only[yI,seval,h7,Nat.zero_add];refine aP _ _ ?_;have pd:=k6.any (G:=[s.next+16]) |>.trans k7;have k57:aC [] s S7:=k5.step pd fun g hg=>.inr (by rw[List.mem_singleton.1 hg];exact fr _ (by omega));have mg:=ht.aD k7 (by simp;omega) (by simp;omega);have l7:aG S7.look ⟨s.next+16,1,none⟩=some (Value.slice (some ⟨s.next+8,0,none⟩) (64*n') (64*n')):=c7.load rfl;refine aA fun cU aZ cK=>?_;simp only[yI,seval,l7,w1,Nat.zero_add];refine aH ?_ (Qa k7.ok (n:=((32*n':Nat):Int)) (w:=1) (n':=32*n') (w':=1) rfl rfl (by omega) (by omega) (.inl rfl) fun S8 pt pu S_ hpu hp k8=>?_)
 ·simp only[yI,seval]
 obtain⟨S9,h9,c9,k9⟩:=(c7.aD k8 (by simp)).fK k8.ok (i:=3) (v:=ptr pt) (by simp) rfl;have nx7:=pd.next;have lts:=mg.c.lt k7.ok;obtain⟨U,hU,_⟩:=mg.ws;have ltu:=hU.lt k7.ok;simp only[yI,seval,h9,Nat.zero_add];refine aZ _ _ ?_;have HW:=k8.any (G:=[s.next+16]) |>.trans k9;have uP:=pd.trans HW;have AE:aC [] s S9:=k57.step HW fun g hg=>.inr (by rw[List.mem_singleton.1 hg];exact fr _ (by omega));simp only[yI,seval];refine hΦ S9 (s.next+16) ⟨s.next+2,s.next+8,st,su,pt,pu,s.next+10,s.next+12,n',fun _=>0,fun _=>0,fun _=>0,fun _=>0,fun _=>0,[],0⟩ ⟨c9,?_,Wv.aD uP (by simp),mg.aD HW (by simp;omega) (by simp;omega),hp.aD k9 (by simp;omega) (by simp;omega),Ww.aD uP (by simp),Wx.aD uP (by simp),?_,h2,VO,fun i=>⟨by simp,by simp⟩⟩ ⟨rfl,rfl,rfl,rfl,rfl,rfl,rfl,rfl⟩ ?_ AE
 ·have:=Wu.aD uP (by simp);simp only[ite_self];exact this
 ·have:=ht.ne;have:=hp.ne;simp only[List.nodup_cons,List.mem_cons,List.not_mem_nil,or_false,not_or,List.nodup_nil,not_false_eq_true,and_true];omega
 ·intro x hx;simp only[PH.aS,List.mem_cons,List.not_mem_nil,or_false] at hx;omega
end
open Go.Proofs
set_option maxRecDepth 100000
set_option maxHeartbeats 1000000
theorem iE {X:Env} {s:St} {t e N B n c k:Nat} {z x:Value} {a:Option Addr} {L new:List Value} (hd:((X.ty t).map fun i=>i.desc)=some (.slice e)) (he:((X.ty e).map fun i=>(i.bytes,i.size,i.zero))=some (B,N,some z)) (hz:z.cells.size=N)
  (hs:Ok s) (hN:0<N) (hb:bJ s e N (.slice a n c) L) (hx:wA x=some k) (hf:kP s.look N k x=some new) (hl:new.length=k*N) (h1:new.all hZ=true) (hm:n+k<1000000000) (hB:B≤1000) :
  ∃ v s',oY X s #[t,t] [.slice a n c,x]=some (v,s')∧bJ s' e N v (L++new)∧aC (nameOf (.slice a n c)) s s'∧(∀ b∈nameOf v,b∈nameOf (.slice a n c)∨s.next≤b)∧(∃ a' c',v=.slice a' (n+k) c'):=by
 obtain⟨v,s',h2,h3⟩:=hb.append hs hN hl h1;refine⟨v,s',?_,h3⟩;cases hi:X.ty t with
 | none=>rw[hi] at hd;cases hd
 | some i =>
  cases hj:X.ty e with
  | none=>rw[hj] at he;cases he
  | some j =>
   rw[hi] at hd;rw[hj] at he;obtain⟨d,sz,bs,zz,ag,ms,cm⟩:=i;obtain⟨d',sz',bs',zz',ag',ms',cm'⟩:=j;simp only[Option.map_some,Option.some.injEq,Prod.mk.injEq] at hd he;subst hd;obtain⟨rfl,rfl,rfl⟩:=he;simp only[oY,hi,hj,hx,hf];have hmul:(2*(n+k)+1000)*bs'≤2 ^ 47:=by
    have:(2*(n+k)+1000)*bs'≤(2*(n+k)+1000)*1000:=Nat.mul_le_mul_left _ hB;omega
   rw[if_pos ⟨hl,rfl,hz,by omega,hmul,h1⟩];exact h2
theorem lQ {H:bL} {b N:Nat} {new:List Value} {c:Nat} (hN:0<N) (h:bI H ⟨b,0,none⟩ N=some new):kP H N 1 (.slice (some ⟨b,0,none⟩) 1 c)=some new:=by
 simp only[kP];rw[if_neg (by omega),Nat.one_mul];exact h
theorem YW {L:Nat→Nat} {v:Int}:∀ {d k i:Nat},qN L v k d=some i→k≤i∧i<k+d∧(L i:Int)=v∧∀ m,k≤m→m<i→¬ (L m:Int)=v
 | d+1,k,i,h=>by
  rw[qN] at h;split at h
  ·cases h;exact⟨Nat.le_refl _,by omega,by assumption,fun m h1 h2=>by omega⟩
  ·rename_i hn;obtain⟨h1,h2,h3,h4⟩:=YW h;refine⟨by omega,by omega,h3,fun m h5 h6=>?_⟩;by_cases hm:m=k
   ·subst hm;exact hn
   ·exact h4 m (by omega) h6
theorem YV {L:Nat→Nat} {v:Int}:∀ {d k:Nat},qN L v k d=none→∀ m,k≤m→m<k+d→¬ (L m:Int)=v
 | 0,k,h,m,h1,h2=>by omega
 | d+1,k,h,m,h1,h2=>by
  rw[qN] at h;split at h
  ·cases h
  ·rename_i hn;by_cases hm:m=k
   ·subst hm;exact hn
   ·exact YV h m (by omega) (by omega)
def mX (p:Nat→Bool) (k:Nat):List Nat:=(List.range k).filter p
theorem PI {p:Nat→Bool}:∀ {i k:Nat},k≤i→(∀ m,k≤m→m<i→p m=false)→mX p i=mX p k
 | 0,k,h,_=>by rw[Nat.le_zero.1 h]
 | i+1,k,h,hn=>by
  rcases Nat.lt_or_ge i k with h1 | h1
  ·rw[show k=i+1 by omega]
  ·unfold mX;rw[List.range_succ,List.filter_append,List.filter_cons,List.filter_nil,hn i h1 (by omega)];simp only[Bool.false_eq_true,if_false,List.append_nil];exact PI h1 fun m h2 h3=>hn m h2 (by omega)
theorem ke {p:Nat→Bool} {i k:Nat} (h:k≤i) (hn:∀ m,k≤m→m<i→p m=false) (hp:p i=true):mX p (i+1)=mX p k++[i]:=by
 rw[← PI h hn];unfold mX;rw[List.range_succ,List.filter_append,List.filter_cons,List.filter_nil,hp]
 try rfl
theorem Ev {p:Nat→Bool} {i k:Nat} (h:k≤i):(mX p k).length≤(mX p i).length:=by
 obtain⟨d,rfl⟩:=Nat.exists_eq_add_of_le h;unfold mX;rw[List.range_add,List.filter_append,List.length_append];omega
theorem N_ {p:Nat→Bool} {k:Nat}:(mX p k).length≤k:=by
 have:=List.length_filter_le p (List.range k);rw[List.length_range] at this;exact this
namespace PH
variable (P:PH)
def jQ (i:Nat):Bool:=decide (P.S i=1)
def all:List Int:=(mX P.jQ (32*P.N)).map fun(i:Nat)=>2*(i:Int)
end PH
section
variable {kc:Kc} {q:Bool} {s:St} {Φ:Value→St→Prop} {h:Nat} {P:PH}
theorem gD:type_of% (B4 @RX @tL @oM @mC):=B4 @RX @tL @oM @mC
theorem J5 (hs:Ok s) (H:bK s h P) (hΦ:∀ s' a n c,bJ s' 3 1 (.slice a n c) (P.all.map int)→n=P.all.length→(∀ b∈nameOf (.slice a n c),s.next≤b)→aC [] s s'→Φ (.slice a n c) s'):okF q X (KO kc) 154 [ptr h,int 0,int (64*P.N:Nat)] s Φ:=by
 have bY:=H.bY;refine aW Tryz.func154 (by kernel_rfl) rfl rfl (rs:=[.tmp 6]) rfl (N:=44) rfl rfl ?_;refine aA fun bF aF bD=>?_;simp only[gD,seval];refine aF _ _ ?_;refine aA fun Ψ1 aE aL=>?_;simp only[gD,seval];refine aE _ _ ?_;refine aA fun Ψ2 aI bH=>?_;refine aA fun Ψ3 aN bM=>?_;have w0:IntKind.i64.wrap ((0:Int).tdiv 2)=0:=rfl;have w00:IntKind.i64.wrap (0:Int)=0:=rfl;simp only[gD,seval,H.l2,w00];refine aH ?_ (Qb hs H.ts 0 1 (by omega) fun s2 k2=>?_)
 ·simp only[gD,seval]
 rw[show (max (0:Int) 0).toNat=0 from rfl];simp only[gD,seval];refine aN _ _ ?_;refine cJ fun Ψ4 aP xS cC=>?_;refine gB (n:=(mX P.jQ (32*P.N)).length)
  (fun j a' s'=>∃ k a n c,k≤32*P.N∧(mX P.jQ k).length=j∧a'.aB 0=ptr h∧a'.aB 2=int (64*P.N:Nat)∧a'.aB 7=.slice a n c∧n=j∧bJ s' 3 1 (.slice a n c) (((mX P.jQ k).map fun(i:Nat)=>2*(i:Int)).map int)∧(∀ b∈nameOf (.slice a n c),s.next≤b)∧a'.aB 8=ZA (qN P.S 1 k (32*P.N-k))∧a'.aB 9=ZB (qN P.S 1 k (32*P.N-k))∧aC [] s s')
  (fun j a' s'=>∃ (i:Nat) (a:Option Addr) (n c:Nat),i<32*P.N∧(mX P.jQ (i+1)).length=j+1∧a'.aB 0=ptr h∧a'.aB 2=int (64*P.N:Nat)∧a'.aB 7=.slice a n c∧n=j+1∧bJ s' 3 1 (.slice a n c) (((mX P.jQ (i+1)).map fun(i:Nat)=>2*(i:Int)).map int)∧(∀ b∈nameOf (.slice a n c),s.next≤b)∧a'.aB 8=int i∧aC [] s s') ?_ ?_ ?_ ?_ (Nat.zero_le _) ?_
 ·rintro j a' s' hj ⟨k,a,n,c,hk,hl,r0,r2,r7,hn,hb,hnm,r8,r9,kk⟩ aV bP;refine cL [(2,22)] (by kernel_rfl) fun O hO bC hR=>?_;have y2:∀ a,aO O a 2=aY (a.aB 22):=hO (2,22) (by simp);cases hx:qN P.S 1 k (32*P.N-k) with
  | some i =>
   obtain⟨i1,i2,i3,i4⟩:=YW hx;have LG:=ke (p:=P.jQ) i1 (fun m h1 h2=>by have:=i4 m h1 h2;simp only[PH.jQ,decide_eq_false_iff_not];omega) (by simp only[PH.jQ,decide_eq_true_eq];omega);have cD:j<(mX P.jQ (32*P.N)).length:=by
    have:=Ev (p:=P.jQ) (i:=32*P.N) (k:=i+1) (by omega);rw[LG,List.length_append,List.length_singleton] at this;omega
   rw[hx] at r8 r9;simp only[RF,RI] at r8 r9;have w1:IntKind.i64.wrap (2*(i:Int))=2*i:=aU (by omega) (by omega);have g1:2*(i:Int)<((64*P.N:Nat):Int):=by omega
   simp only[gD,seval,r8,r9,r2,y2,w1,g1,decide_true];refine hR _ _ (bP _ _ true ?_ (by simp[cD]) ⟨k,a,n,c,hk,hl,?_,?_,?_,hn,hb,hnm,?_,?_,kk⟩)
   ·simp only[gD,seval]
   ·simp only[gD,seval,r0]
   ·simp only[gD,seval,r2]
   ·simp only[gD,seval,r7]
   ·simp only[gD,seval,hx,r8,RF]
   ·simp only[gD,seval,hx,r9,RI]
  | none =>
   have PN:=YV hx;have hall:=PI (p:=P.jQ) hk fun m h1 h2=>by have:=PN m h1 (by omega);simp only[PH.jQ,decide_eq_false_iff_not];omega
   rw[hx] at r8 r9;simp only[RE,RH] at r8 r9;simp only[gD,seval,r9,y2];refine hR _ _ (bP _ _ false ?_ (by rw[hall,hl];simp) ⟨k,a,n,c,hk,hl,?_,?_,?_,hn,hb,hnm,?_,?_,kk⟩)
   ·simp only[gD,seval]
   ·simp only[gD,seval,r0]
   ·simp only[gD,seval,r2]
   ·simp only[gD,seval,r7]
   ·simp only[gD,seval,hx,r8,RE]
   ·simp only[gD,seval,hx,r9,RH]
 ·rintro j a' s' hj ⟨k,a,n,c,hk,hl,r0,r2,r7,hn,hb,hnm,r8,r9,kk⟩ aV h1 h2 h3;cases hx:qN P.S 1 k (32*P.N-k) with
  | none =>
   exfalso;have PN:=YV hx;have hall:=PI (p:=P.jQ) hk fun m h1 h2=>by have:=PN m h1 (by omega);simp only[PH.jQ,decide_eq_false_iff_not];omega
   rw[hall,hl] at hj;omega
  | some i =>
   obtain⟨i1,i2,i3,i4⟩:=YW hx;have LG:=ke (p:=P.jQ) i1 (fun m h1 h2=>by have:=i4 m h1 h2;simp only[PH.jQ,decide_eq_false_iff_not];omega) (by simp only[PH.jQ,decide_eq_true_eq];omega);rw[hx] at r8 r9;simp only[RF,RI] at r8 r9;have w1:IntKind.i64.wrap (2*(i:Int))=2*i:=aU (by omega) (by omega);have iX:=N_ (p:=P.jQ) (k:=k);obtain⟨s3,e3,k3,c3,_⟩:=cI kk.ok (L:=[int (2*(i:Int))]) (n:=1) (e:=3) rfl;have hb3:=hb.aD k3 (by simp);obtain⟨v,s4,h4,b4,k4,m4,a4,c4,rfl⟩:=iE (X:=X) (t:=62) (e:=3) (N:=1) (B:=8) (z:=.int .i64 0) (x:=.slice (some ⟨s'.next,0,none⟩) 1 1) (k:=1) (new:=[int (2*(i:Int))]) (by kernel_rfl) (by kernel_rfl) rfl k3.ok (by omega) hb3 rfl (lQ (by omega) (c3.bI (i:=0) (k:=1) (Nat.le_refl _))) rfl rfl (by omega) (by omega);simp only[gD,seval,r7,r8,w1];rw[e3];refine iS ?_ h4 ?_
   ·simp only[gD,seval]
   simp only[gD,seval];have hkk:aC [] s s4:=(kk.trans k3).step k4 fun g hg=>.inr (hs.fresh _ (hnm g hg));refine h1 _ _ ⟨i,a4,n+1,c4,by omega,by rw[LG,List.length_append,hl];rfl,?_,?_,?_,by omega,?_,?_,?_,hkk⟩
   ·simp only[gD,seval,r0]
   ·simp only[gD,seval,r2]
   ·simp only[gD,seval]
   ·rw[LG,List.map_append,List.map_append];exact b4
   ·intro b hb';rcases m4 b hb' with h | h
    ·exact hnm b h
    ·have:=kk.next;have:=k3.next;omega
   ·simp only[gD,seval,r8]
 ·rintro j a' s' hj ⟨i,a,n,c,hi,hl,r0,r2,r7,hn,hb,hnm,r8,kk⟩ aV h1;have H':=H.aJ kk;have w1:IntKind.i64.wrap ((i:Int)+1)=((i+1:Nat):Int):=by rw[aU (by omega) (by omega)];rfl
  simp only[gD,seval,r0,r8,H'.l2,w1];refine aH ?_ (Qb kk.ok H'.ts ((i+1:Nat):Int) 1 (by omega) fun s3 k3=>?_)
  ·simp only[gD,seval]
  rw[show (max ((i+1:Nat):Int) 0).toNat=i+1 by omega];simp only[gD,seval];refine h1 _ _ ⟨i+1,a,n,c,by omega,hl,?_,?_,?_,hn,hb.aD k3 (by simp),hnm,?_,?_,kk.trans k3⟩
  ·simp only[gD,seval,r0]
  ·simp only[gD,seval,r2]
  ·simp only[gD,seval,r7]
  ·simp only[gD,seval]
  ·simp only[gD,seval]
 ·rintro a' s' ⟨k,a,n,c,hk,hl,r0,r2,r7,hn,hb,hnm,r8,r9,kk⟩;have hall:mX P.jQ (32*P.N)=mX P.jQ k:=by
   cases hx:qN P.S 1 k (32*P.N-k) with
   | none =>
    have PN:=YV hx;exact PI (p:=P.jQ) hk fun m h1 h2=>by have:=PN m h1 (by omega);simp only[PH.jQ,decide_eq_false_iff_not];omega
   | some i =>
    exfalso;obtain⟨i1,i2,i3,i4⟩:=YW hx;have LG:=ke (p:=P.jQ) i1 (fun m h1 h2=>by have:=i4 m h1 h2;simp only[PH.jQ,decide_eq_false_iff_not];omega) (by simp only[PH.jQ,decide_eq_true_eq];omega);have:=Ev (p:=P.jQ) (i:=32*P.N) (k:=i+1) (by omega);rw[LG,List.length_append,List.length_singleton] at this;omega
  refine xS _ _ (aI _ _ ?_);simp only[gD,seval,r7];refine hΦ s' a n c ?_ ?_ hnm kk
  ·unfold PH.all;rw[hall];exact hb
  ·unfold PH.all;rw[List.length_map];exact hn
 ·refine⟨0,none,0,0,Nat.zero_le _,rfl,?_,?_,?_,rfl,.nil,by simp[nameOf],?_,?_,k2⟩
  ·simp only[gD,seval]
  ·simp only[gD,seval]
  ·simp only[gD,seval]
  ·simp only[gD,seval]
  ·simp only[gD,seval]
theorem CY:type_of% (B4 @RX @gY @dF @dV):=B4 @RX @gY @dF @dV
theorem jr (hs:Ok s) (H:bK s h P) (hΦ:∀ s' a n c,bJ s' 3 1 (.slice a n c) (P.all.map int)→n=P.all.length→(∀ b∈nameOf (.slice a n c),s.next≤b)→aC [] s s'→Φ (.slice a n c) s'):okF q X (KO kc) 62 [ptr h] s Φ:=by
 refine aW Tryz.func62 (by kernel_rfl) rfl rfl (rs:=[.tmp 2]) rfl (N:=13) rfl rfl ?_;refine aA fun bF aF bD=>?_;simp only[CY,seval];refine aF _ _ ?_;refine aA fun Ψ1 aE aL=>?_;refine aA fun Ψ2 aI bH=>?_;simp only[CY,seval];refine aH ?_ (vR H ?_)
 ·simp only[CY,seval]
 try simp only[CY,seval]
 refine aI _ _ ?_;simp only[CY,seval];refine aE _ _ ?_;refine aA fun Ψ3 aN bM=>?_;simp only[CY,seval,H.l1];refine aH ?_ (J5 hs H fun s' a n c h1 h2 h3 h4=>?_)
 ·simp only[CY,seval]
 try simp only[CY,seval]
 refine aN _ _ ?_;simp only[CY,seval];exact hΦ s' a n c h1 h2 h3 h4
end
end Go.Dust
