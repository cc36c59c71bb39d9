/- VerifyMarks walked in D, function by function, and its plain law (C7 C8 C9 C10 C11). -/
import Derived.Test.YtaoiejcaopgjcaaGreatM
set_option linter.unusedVariables false
set_option linter.unusedSimpArgs false
namespace Go.Dust
open Go.Proofs
set_option maxRecDepth 100000
set_option maxHeartbeats 1000000
theorem Ky (n:Nat):rep (Value.int .i64 0).cells.toList n=List.replicate n (int 0):=by
 induction n with
 | zero=>rfl
 | succ n ih=>rw[rep,ih];rfl
theorem Obj.store {s:St} {b i:Nat} {L vs:List Value} (h:Obj s b L) (hs:Ok s) (hi:i+vs.length≤L.length) (h1:vs.all iB=true) :
  ∃ s',dB s ⟨b,i,none⟩ vs=some s'∧Obj s' b (tV L i vs)∧aC [b] s s':=by
 obtain⟨e,h⟩:=h;obtain⟨s',h1,h2,h3⟩:=h.store hs hi h1;exact⟨s',h1,⟨e,h2⟩,h3⟩
theorem Obj.isCells {s:St} {b:Nat} {L:List Value} (h:Obj s b L):∃ c z n e room ro aT,s.look b=some (.cells c z n e room ro aT):=by
 obtain⟨e,c,z,room,aT,h1,_⟩:=h;exact⟨_,_,_,_,_,_,_,h1⟩
namespace PH
variable (P:PH)
def Rb (a n:Int):PH:={P with w:=fun j=>if a≤j∧(j:Int)<a+n then 0 else P.w j}
def kill (a:Int):PH:={P.Rb a (P.size a) with M:=P.M.eraseP (fun p=>p.1==P.w a.toNat),S:=jB P.S (a/2).toNat 0,Q:=jB P.Q (a/2).toNat 0}
theorem Yc {P:PH} {a o:Int} (h:P.find a=some o):0≤a∧a<64*P.N∧0≤o∧o≤a∧o%2=0∧a<o+P.size o∧P.has o=true:=by
 unfold find at h;split at h
 ·rename_i hr;cases hl:pS P.S 1 (a/2+1).toNat with
  | none=>rw[hl] at h;cases h
  | some i =>
   rw[hl] at h;simp only at h;split at h
   ·cases h
   ·cases h;obtain⟨h1,h2⟩:=VL hl;refine⟨hr.1,hr.2,by omega,by omega,by omega,by omega,iN.2 ⟨by omega,by omega,by omega,?_⟩⟩;rw[show (2*(i:Int)/2).toNat=i by omega];omega
 ·cases h
end PH
section
variable {kc:Kc} {q:Bool} {s:St} {Φ:Value→St→Prop} {h:Nat} {P:PH}
theorem bS.OU {s:St} (H:bS s h P):(h≠P.nb∧h≠P.nw∧h≠P.st∧h≠P.su∧h≠P.pt∧h≠P.pu∧h≠P.mp∧h≠P.mf)∧(P.nb≠P.nw∧P.nb≠P.st∧P.nb≠P.su∧P.nb≠P.pt∧P.nb≠P.pu∧P.nb≠P.mp∧P.nb≠P.mf) ∧
  (P.nw≠P.st∧P.nw≠P.su∧P.nw≠P.pt∧P.nw≠P.pu∧P.nw≠P.mp∧P.nw≠P.mf)∧(P.st≠P.su∧P.st≠P.pt∧P.st≠P.pu∧P.st≠P.mp∧P.st≠P.mf)∧(P.su≠P.pt∧P.su≠P.pu∧P.su≠P.mp∧P.su≠P.mf)∧(P.pt≠P.pu∧P.pt≠P.mp∧P.pt≠P.mf)∧(P.pu≠P.mp∧P.pu≠P.mf)∧P.mp≠P.mf:=by
 have pC:=H.nd;simp only[List.nodup_cons,List.mem_cons,List.not_mem_nil,or_false,not_or,List.nodup_nil,not_false_eq_true,and_true] at pC;exact pC
theorem bS.Nn {s s':St} {S':Nat→Nat} (H:bS s h P) (k:aC [P.su] s s') (ht:eZ s' P.st P.su (32*P.N) 1 S'):bS s' h {P with S:=S'}:=by
 obtain⟨⟨a1,a2,a3,a4,a5,a6,a7,a8⟩,⟨b1,b2,b3,b4,b5,b6,b7⟩,⟨c1,c2,c3,c4,c5,c6⟩,⟨d1,d2,d3,d4,d5⟩,⟨e1,e2,e3,e4⟩,⟨f1,f2,f3⟩,⟨g1,g2⟩,g3⟩:=H.OU;obtain⟨c,cb,cw,ts,tp,mp,mf,nd,n2,bW,wr⟩:=H;exact⟨c.aD k (by simp[a4]),cb.aD k (by simp[b3]),cw.aD k (by simp[c2]),ht,tp.aD k (by simp[Ne.symm e1]) (by simp[Ne.symm e2]),mp.aD k (by simp[Ne.symm e3]),mf.aD k (by simp[Ne.symm e4]),nd,n2,bW,wr⟩
theorem bS.pj {s s':St} {M':List (Int×Int)} (H:bS s h P) (k:aC [P.mp] s s') (hm:iL s' P.mp (M'.map fun p=>(p.1,int p.2))):bS s' h {P with M:=M'}:=by
 obtain⟨⟨a1,a2,a3,a4,a5,a6,a7,a8⟩,⟨b1,b2,b3,b4,b5,b6,b7⟩,⟨c1,c2,c3,c4,c5,c6⟩,⟨d1,d2,d3,d4,d5⟩,⟨e1,e2,e3,e4⟩,⟨f1,f2,f3⟩,⟨g1,g2⟩,g3⟩:=H.OU;obtain⟨c,cb,cw,ts,tp,mp,mf,nd,n2,bW,wr⟩:=H;exact⟨c.aD k (by simp[a7]),cb.aD k (by simp[b6]),cw.aD k (by simp[c5]),ts.aD k (by simp[d4]) (by simp[e3]),tp.aD k (by simp[f2]) (by simp[g1]),hm,mf.aD k (by simp[Ne.symm g3]),nd,n2,bW,wr⟩
theorem bS.aH4 {s s':St} {w':Nat→Int} (H:bS s h P) (k:aC [P.nw] s s') (hc:Obj s' P.nw (row (64*P.N) fun j=>int (w' j))) (hw:∀ i,i64 (w' i)):bS s' h {P with w:=w'}:=by
 obtain⟨⟨a1,a2,a3,a4,a5,a6,a7,a8⟩,⟨b1,b2,b3,b4,b5,b6,b7⟩,⟨c1,c2,c3,c4,c5,c6⟩,_⟩:=H.OU;obtain⟨c,cb,cw,ts,tp,mp,mf,nd,n2,bW,wr⟩:=H;exact⟨c.aD k (by simp[a2]),cb.aD k (by simp[b1]),hc,ts.aD k (by simp[Ne.symm c1]) (by simp[Ne.symm c2]),tp.aD k (by simp[Ne.symm c3]) (by simp[Ne.symm c4]),mp.aD k (by simp[Ne.symm c5]),mf.aD k (by simp[Ne.symm c6]),nd,n2,bW,hw⟩
theorem qh:type_of% (An @RX<|An @jW<|@dF):=An @RX<|An @jW<|@dF
theorem Y2 (hs:Ok s) (H:bS s h P) {a n:Int} (h0:0≤a) (hn:0<n) (h1:a+n≤64*P.N) (hΦ:∀ s',bS s' h (P.Rb a n)→aC [P.nw] s s'→Φ (.tuple #[]) s'):okF q X (KO kc) 131 [ptr h,int a,int n] s Φ:=by
 have bW:=H.bW;obtain⟨a',rfl⟩:∃ a':Nat,a=a':=⟨a.toNat,by omega⟩;obtain⟨n',rfl⟩:∃ n':Nat,n=n':=⟨n.toNat,by omega⟩;have e1:IntKind.i64.wrap ((a':Int)+n')=((a'+n':Nat):Int):=by rw[aU (by omega) (by omega)];rfl
 have e2:=QC (X:=X) (H:=s.look) (t:=62) (e:=3) (N:=1) (b:=P.nw) (off:=0) (n:=64*P.N) (c:=64*P.N) (l:=a') (h:=a'+n') (by kernel_rfl) (by kernel_rfl) H.cw.isCells (by omega) (by omega) (by omega);obtain⟨s',h2,h3,h4⟩:=H.cw.store hs (i:=a') (vs:=List.replicate n' (int 0)) (by rw[iZ,List.length_replicate];omega) (by rw[List.all_replicate];simp;right;rfl);have h5:uQ X s #[62] [.slice (some ⟨P.nw,a',none⟩) n' (64*P.N-a')]=some (.tuple #[],s'):=xx (z:=.int .i64 0) (e:=3) (by kernel_rfl) (by kernel_rfl) (by omega) (by rw[Ky];exact h2);refine aV rfl Zf rfl (rs:=[]) rfl (N:=15) rfl rfl ?_;simp only[qh,seval,H.l1,e1,e2,Nat.mul_one,Nat.zero_add];refine Jb ?_ h5 ?_
 ·simp only[qh,seval,Nat.add_sub_cancel_left]
 simp only[qh,seval];refine hΦ _ (H.aH4 h4 ?_ fun j=>?_) h4
 ·have GM:tV (row (64*P.N) fun i=>int (P.w i)) a' (List.replicate n' (int 0))=row (64*P.N) fun j=>int (if (a':Int)≤j∧(j:Int)<a'+n' then 0 else P.w j):=by
   refine KZ (by rw[HS (by rw[iZ,List.length_replicate];omega),iZ]) fun j hj=>?_;rw[HR (by rw[iZ,List.length_replicate];omega),List.length_replicate];by_cases hc:a'≤j∧j<a'+n'
   ·rw[if_pos hc,List.getElem?_replicate,if_pos (by omega),if_pos (by omega)]
   ·rw[if_neg hc,lM _ hj,if_neg (by omega)]
  rw[GM] at h3;exact h3
 ·show i64 (if (a':Int)≤j∧(j:Int)<a'+n' then 0 else P.w j);split
  ·exact⟨by omega,by omega⟩
  ·exact H.wr j
theorem Wa (s:St) (r:Nat) (k:Int):wG X s #[136,3] [.map (some r),int k]=(match s.heap.get r with
  | some (.map es c _)=>(match mO (int k) es 0 with
   | some (some (i,_))=>some (.tuple #[],s.put r fun v=>.map (es.eraseIdx i) c v)
   | some none=>some (.tuple #[],s)
   | none=>none)
  | _=>none):=by kernel_rfl
theorem Ba:∀ {es:List MapEntry} {M:List (Int×Value)} {k:Int} {i i0:Nat} {v:Value},es.map (fun e=>(e.key,e.val))=M.map (fun p=>(int p.1,p.2))→mO (int k) es i0=some (some (i,v)) →
  i0≤i∧(es.eraseIdx (i-i0)).map (fun e=>(e.key,e.val))=(M.eraseP fun p=>p.1==k).map (fun p=>(int p.1,p.2))
 | [],M,k,i,i0,v,h,hf=>by simp[mO] at hf
 | e::es,[],k,i,i0,v,h,hf=>by simp at h
 | e::es,(x,u)::M,k,i,i0,v,h,hf=>by
  simp only[List.map_cons,List.cons.injEq,Prod.mk.injEq] at h;obtain⟨⟨h1,h2⟩,h3⟩:=h;rw[mO,h1] at hf;simp only[vG,if_true] at hf;cases hb:(k==x) with
  | true =>
   rw[hb] at hf;simp only[Option.some.injEq,Prod.mk.injEq] at hf;obtain⟨rfl,_⟩:=hf;have hk:k=x:=by simpa using hb
   subst hk;refine⟨Nat.le_refl _,?_⟩;rw[Nat.sub_self,List.eraseIdx_zero,List.eraseP_cons_of_pos (by simp)];exact h3
  | false =>
   rw[hb] at hf;obtain⟨k1,k2⟩:=Ba h3 hf;refine⟨by omega,?_⟩;have hne:¬ (x==k)=true:=by
    intro e;have:x=k:=by simpa using e
    subst this;simp at hb
   rw[show i-i0=(i-(i0+1))+1 by omega,List.eraseIdx_cons_succ,List.eraseP_cons_of_neg (p:=fun p=>p.1==k) (a:=(x,u)) hne,List.map_cons,List.map_cons,k2,h1,h2]
theorem Xb {M:List (Int×Value)} {k:Int} (h:M.lookup k=none):M.eraseP (fun p=>p.1==k)=M:=by
 induction M with
 | nil=>rfl
 | cons p M ih =>
  rcases p with ⟨x,v⟩;rw[List.lookup_cons] at h;cases hb:(k==x) with
  | true=>rw[hb] at h;cases h
  | false =>
   rw[hb] at h;have hne:¬ (x==k)=true:=by
    intro e;have:x=k:=by simpa using e
    subst this;simp at hb
   rw[List.eraseP_cons_of_neg (p:=fun p=>p.1==k) (a:=(x,v)) hne,ih h]
theorem eraseP_map {M:List (Int×Int)} {k:Int}:(M.map fun p=>(p.1,int p.2)).eraseP (fun p=>p.1==k)=(M.eraseP fun p=>p.1==k).map fun p=>(p.1,int p.2):=by
 induction M with
 | nil=>rfl
 | cons p M ih =>
  rw[List.map_cons];by_cases hb:(p.1==k)=true
  ·rw[List.eraseP_cons_of_pos (by exact hb),List.eraseP_cons_of_pos (by exact hb)]
  ·rw[List.eraseP_cons_of_neg (by exact hb),List.eraseP_cons_of_neg (by exact hb),List.map_cons,ih]
theorem bS.del (hs:Ok s) (H:bS s h P) (k:Int):∃ s',wG X s #[136,3] [.map (some P.mp),int k]=some (.tuple #[],s')∧bS s' h {P with M:=P.M.eraseP fun p=>p.1==k}∧aC [P.mp] s s':=by
 obtain⟨es,aO,aT,h1,h2,FP⟩:=H.mp;rw[Wa,h1];simp only;cases hl:(P.M.map fun p=>(p.1,int p.2)).lookup k with
 | none =>
  rw[NC h2 hl];refine⟨s,rfl,?_,.refl hs⟩;have:=Xb hl;rw[eraseP_map] at this;exact H.pj (.refl hs) ⟨es,aO,aT,h1,by rw[this];exact h2,FP⟩
 | some v =>
  obtain⟨j,hj,_⟩:=cy (i:=0) h2 hl;rw[hj];obtain⟨_,k2⟩:=Ba h2 hj;have kk:aC [P.mp] s (s.put P.mp fun v=>.map (es.eraseIdx (0+j)) aO v):=.BH hs h1 (.inr (Nat.le_refl _)) (List.mem_singleton.2 rfl);refine⟨_,rfl,H.pj kk ⟨es.eraseIdx (0+j),aO,s.aO,by simp only[St.put,PT.fC,if_true],?_,⟨fun e he=>FP.1 e (List.mem_of_mem_eraseIdx he),FP.2.sublist ((List.eraseIdx_sublist ..).map _)⟩⟩,kk⟩;rw[Nat.sub_zero] at k2;rw[k2,eraseP_map]
theorem mL:type_of% (An @RX<|An @NA<|An @OH<|An @jW<|An @dF<|An @dE<|An @aW<|An @uX<|An @jX<|@CN):=An @RX<|An @NA<|An @OH<|An @jW<|An @dF<|An @dE<|An @aW<|An @uX<|An @jX<|@CN
theorem W0 (hs:Ok s) (H:bS s h P) (G:P.cM) (a:Int) (ha:i64 a) (hΦ:∀ s',bS s' h (if P.has a=true then P.kill a else P)→aC [P.nw,P.su,P.pu,P.mp] s s'→Φ (int (if P.has a=true then 0 else 4)) s'):okF q X (KO kc) 44 [ptr h,int a] s Φ:=by
 refine aV rfl F4 rfl (rs:=[.tmp 4]) rfl (N:=43) rfl rfl ?_;refine aA fun bB aF aZ=>?_;simp only[mL,seval];refine aF _ _ ?_;refine aA fun Ψ1 aE aK=>?_;refine aA fun Ψ2 aH bM=>?_;simp only[mL,seval];refine aJ ?_ (NO hs H a ha fun s2 k2=>?_)
 ·simp only[mL,seval]
 have H2:=H.aL k2;cases hh:P.has a with
 | false =>
  rw[hh] at hΦ;simp only[mL,seval];refine aH _ _ ?_;simp only[mL,seval];refine aK _ _ _ (by simp) ?_;simp only[mL,seval];exact hΦ _ H2 k2.any
 | true =>
  have hb:=PH.iN.1 hh;obtain⟨v1,v2⟩:=G.val a hh;have hw:=cI.sX v1;have bW:=H.bW;rw[hh] at hΦ;have g1:0≤a:=hb.1;have g2:a<((64*P.N:Nat):Int):=by omega
  have e2:IntKind.i64.wrap (a.tdiv 2)=a/2:=by rw[Int.tdiv_eq_ediv_of_nonneg (by omega),aU (by omega) (by omega)]
  have iy:aC [] s (s2.skip 24):=k2.jJ _;have sf:=H.aL iy;have l:=sf.lw (i:=a.toNat) (by omega);obtain⟨s3,h3,H3,k3⟩:=sf.del iy.ok (P.w a.toNat);simp only[mL,seval];refine aH _ _ ?_;simp only[mL,seval];refine aE _ _ ?_;refine aA fun Ψ3 aM bN=>?_;refine dH [] [] [] (by kernel_rfl) (by kernel_rfl) (by rfl) fun O hO bK hR=>?_;rw[KH] at l;simp only[mL,seval,H2.l4,H2.l1,g1,g2,and_self,bJ,Nat.zero_add,Nat.mul_one,l];refine Vt ?_ h3 ?_ ?_
  ·simp only[mL,seval]
  ·simp only[mL,seval]
  simp only[mL,seval];refine hR _ _ (aM _ _ ?_);refine aA fun Ψ4 aQ bZ=>?_;simp only[mL,seval,H3.l2,e2];refine aJ ?_ (QB (i:=a/2) (v:=0) k3.ok H3.ts (i':=(a/2).toNat) (v':=0) (by omega) rfl (show (a/2).toNat<32*P.N by omega) (by omega) fun s4 h4 k4=>?_)
  ·simp only[mL,seval]
  have H4:=H3.Nn k4 h4
  try simp only[mL,seval]
  refine aQ _ _ ?_;refine aA fun cP bI cF=>?_;simp only[mL,seval,H4.l3,e2];refine aJ ?_ (QB (i:=a/2) (v:=0) k4.ok H4.tp (i':=(a/2).toNat) (v':=0) (by omega) rfl (show (a/2).toNat<32*P.N by omega) (by omega) fun s5 h5 k5=>?_)
  ·simp only[mL,seval]
  have H5:=H4.Nl k5 h5
  try simp only[mL,seval]
  refine bI _ _ ?_;refine aA fun dK bO cV=>?_;simp only[mL,seval];have hv2:a+(P.shape a).words≤64*P.N:=v2;refine aJ ?_ (Cw k5.ok H5 (a:=a) g1 (show a+1<64*(P.N:Int) by omega) fun s6 k6=>?_)
  ·simp only[mL,seval]
  have H6:=H5.aL k6
  try simp only[mL,seval]
  refine aJ ?_ (Y2 k6.ok H6 (a:=a) (n:=P.size a) g1 (show 0<(P.shape a).words by omega) hv2 fun s7 H7 k7=>?_)
  ·simp only[mL,seval,PH.size,PH.shape]
  try simp only[mL,seval]
  refine bO _ _ ?_;simp only[mL,seval];refine hΦ s7 ?_ ?_
  ·rw[if_pos rfl];exact H7
  ·have q1:aC [P.nw,P.su,P.pu,P.mp] s s3:=iy.any.trans (k3.mono (by simp));have q2:aC [P.nw,P.su,P.pu,P.mp] s3 s5:=(k4.mono (by simp)).trans (k5.mono (by simp));have q3:aC [P.nw,P.su,P.pu,P.mp] s5 s7:=k6.any.trans (k7.mono (by simp));exact(q1.trans q2).trans q3
end
open Go.Proofs
set_option maxRecDepth 100000
set_option maxHeartbeats 1000000
def pX (bs:Nat→Int) (p:Nat):Nat→Nat
 | 0=>0
 | d+1=>if bs p=3 then pX bs (p+1) d+1 else 0
theorem QG {bs:Nat→Int}:∀ {d p:Nat},pX bs p d≤d
 | 0,p=>Nat.le_refl _
 | d+1,p=>by
  rw[pX];split
  ·have:=QG (bs:=bs) (d:=d) (p:=p+1);omega
  ·omega
theorem YT {bs:Nat→Int}:∀ {d p j:Nat},j<pX bs p d→bs (p+j)=3
 | 0,p,j,h=>by simp[pX] at h
 | d+1,p,j,h=>by
  rw[pX] at h;split at h
  ·cases j with
   | zero=>assumption
   | succ j=>have:=YT (bs:=bs) (d:=d) (p:=p+1) (j:=j) (by omega);rw[show p+(j+1)=p+1+j by omega];exact this
  ·omega
theorem YS {bs:Nat→Int}:∀ {d p:Nat},pX bs p d<d→bs (p+pX bs p d)≠3
 | 0,p,h=>by omega
 | d+1,p,h=>by
  rw[pX] at h ⊢;split
  ·rename_i h3;rw[if_pos h3] at h;have:=YS (bs:=bs) (d:=d) (p:=p+1) (by omega);rw[show p+(pX bs (p+1) d+1)=p+1+pX bs (p+1) d by omega];exact this
  ·assumption
namespace PH
variable (P:PH)
def span (b:Nat):Nat:=if P.bs b=2 then pX P.bs (b+1) (P.N-(b+1))+1 else 1
def kJ (a nF:Int) (n:Nat):Bool:=(List.range n).any fun k=>match P.find (a+2*k) with
 | some o=>decide (o≠nF)
 | none=>false
def oR (a words nF:Int):Int :=
 if a<0∨a≥64*P.N∨a%2≠0 then 1
 else if (if words≤32 then P.bs (a/64).toNat≠1∨(a+words-1)/64≠a/64 else P.bs (a/64).toNat≠2∨a%64≠0∨(P.span (a/64).toNat:Int)≠(words+63)/64) then 5
 else if P.kJ a nF ((words+1)/2).toNat=true then 8 else 0
end PH
section
variable {kc:Kc} {q:Bool} {s:St} {Φ:Value→St→Prop} {h:Nat} {P:PH}
theorem lQ:type_of% (An @RX<|An @qH<|An @qL<|An @vF<|An @JA<|An @aW<|@vH):=An @RX<|An @qH<|An @qL<|An @vF<|An @JA<|An @aW<|@vH
theorem Y0 (hs:Ok s) (H:bS s h P) {b:Nat} (hb:b<P.N) (hΦ:Φ (int (P.span b)) s):okF q X (KO kc) 228 [ptr h,int b] s Φ:=by
 have bW:=H.bW;have hle:=QG (bs:=P.bs) (d:=P.N-(b+1)) (p:=b+1);obtain⟨m,hm⟩:∃ m,P.span b=m+1:=by unfold PH.span;split <;> exact⟨_,rfl⟩
 have hmN:b+m<P.N:=by unfold PH.span at hm;split at hm <;> omega
 have l0:=H.lb hb;rw[hm] at hΦ;refine aV rfl C6 rfl (rs:=[.tmp 4]) rfl (N:=42) rfl rfl ?_;refine aA fun bB aF aZ=>?_;simp only[lQ,seval];refine aF _ _ ?_;refine aA fun Ψ1 aE aK=>?_;simp only[lQ,seval];refine aE _ _ ?_;refine aA fun Ψ2 aH bM=>?_;refine cB fun Ψ3 aM oG bN=>?_;refine XA (n:=m) (fun j a' s'=>a'.aB 0=ptr h∧a'.aB 1=int b∧a'.aB 5=int (1+j:Nat)∧s'=s) ?_ ?_ ?_ (Nat.zero_le m) ?_
 ·rintro j a' s' hj ⟨r0,r1,r5,rfl⟩ aR bH;have g1:(0:Int)≤(b:Int):=Int.natCast_nonneg _;have g2:(b:Int)<(P.N:Int):=by omega
  have e1:IntKind.i64.wrap ((b:Int)+((1+j:Nat):Int))=((b+1+j:Nat):Int):=by rw[aU (by omega) (by omega)];omega
  refine cK [(9,15),(20,26)] (by kernel_rfl) fun O hO bK hR=>?_;have y9:∀ a,aN O a 9=bC (a.aB 15):=hO (9,15) (by simp);have rf:∀ a,aN O a 20=bC (a.aB 26):=hO (20,26) (by simp);by_cases h2:P.bs b=2
  ·have e2:(P.bs b==2)=true:=by simpa using h2
   have hm':m=pX P.bs (b+1) (P.N-(b+1)):=by unfold PH.span at hm;rw[if_pos h2] at hm;omega
   by_cases h3:b+1+j<P.N
   ·have g3:(0:Int)≤((b+1+j:Nat):Int):=Int.natCast_nonneg _;have g4:((b+1+j:Nat):Int)<(P.N:Int):=by omega
    have l1:=H.lb h3;simp only[lQ,seval,r0,r1,r5,H.l0,g1,g2,and_self,bJ,Int.toNat_natCast,Nat.zero_add,l0,e2,y9,rf,e1,g3,g4,decide_true,l1];refine hR _ _ (bH _ _ (P.bs (b+1+j)==3) ?_ ?_ ⟨?_,?_,?_,rfl⟩)
    ·simp only[lQ,seval]
    ·rw[beq_iff_eq];constructor
     ·intro h4;rcases Nat.lt_or_ge j m with h5 | h5
      ·exact h5
      ·have:=YS (bs:=P.bs) (d:=P.N-(b+1)) (p:=b+1) (by omega);rw[← hm',show m=j by omega] at this;exact absurd h4 this
     ·intro h4;exact YT (d:=P.N-(b+1)) (by omega)
    ·simp only[lQ,seval,r0]
    ·simp only[lQ,seval,r1]
    ·simp only[lQ,seval,r5]
   ·have g4:¬ ((b+1+j:Nat):Int)<(P.N:Int):=by omega
    simp only[lQ,seval,r0,r1,r5,H.l0,g1,g2,and_self,bJ,Int.toNat_natCast,Nat.zero_add,l0,e2,y9,rf,e1,g4,decide_false];refine hR _ _ (bH _ _ false ?_ ⟨fun h=>(by cases h),fun h=>(by omega)⟩ ⟨?_,?_,?_,rfl⟩)
    ·simp only[lQ,seval]
    ·simp only[lQ,seval,r0]
    ·simp only[lQ,seval,r1]
    ·simp only[lQ,seval,r5]
  ·have e2:(P.bs b==2)=false:=by simpa using h2
   have hm':m=0:=by unfold PH.span at hm;rw[if_neg h2] at hm;omega
   simp only[lQ,seval,r0,r1,r5,H.l0,g1,g2,and_self,bJ,Int.toNat_natCast,Nat.zero_add,l0,e2,y9,rf];refine hR _ _ (bH _ _ false ?_ ⟨fun h=>(by cases h),fun h=>(by omega)⟩ ⟨?_,?_,?_,rfl⟩)
   ·simp only[lQ,seval]
   ·simp only[lQ,seval,r0]
   ·simp only[lQ,seval,r1]
   ·simp only[lQ,seval,r5]
 ·rintro j a' s' hj ⟨r0,r1,r5,rfl⟩ aR h1 h2 h3;simp only[lQ,seval,r5];refine h1 _ _ ⟨?_,?_,?_,rfl⟩
  ·simp only[lQ,seval,r0]
  ·simp only[lQ,seval,r1]
  ·simp only[lQ,seval];rw[aU (by omega) (by omega)];congr 1 <;> omega
 ·rintro a' s' ⟨r0,r1,r5,rfl⟩;refine oG _ _ (aH _ _ ?_);simp only[lQ,seval,r5];rw[Nat.add_comm 1 m];exact hΦ
 ·refine⟨?_,?_,?_,rfl⟩
  ·simp only[lQ,seval]
  ·simp only[lQ,seval]
  ·simp only[lQ,seval]
   try rfl
theorem Z1 {P:PH} {a nF:Int} {n j:Nat} {o:Int} (hj:j<n) (hf:P.find (a+2*j)=some o) (ho:o≠nF):P.kJ a nF n=true:=by
 unfold PH.kJ;rw[List.any_eq_true];exact⟨j,List.mem_range.2 hj,by rw[hf];simpa using ho⟩
theorem Z0 {P:PH} {a nF:Int} {n:Nat} (h:∀ (k:Nat) o,k<n→P.find (a+2*k)=some o→o=nF):P.kJ a nF n=false:=by
 unfold PH.kJ;rw[List.any_eq_false];intro k hk;cases hf:P.find (a+2*k) with
 | none=>simp
 | some o=>simp[h k o (List.mem_range.1 hk) hf]
theorem cO:type_of% (An @RX<|An @jW<|An @dF<|An @dG<|An @qH<|An @qL<|An @vF<|An @JA<|@aW):=An @RX<|An @jW<|An @dF<|An @dG<|An @qH<|An @qL<|An @vF<|An @JA<|@aW
theorem X7 (hs:Ok s) (H:bS s h P) (a words nF:Int) (ha:i64 a) (hw0:0<words) (hw1:words≤300) (hΦ:∀ s',aC [] s s'→Φ (int (P.oR a words nF)) s'):okF q X (KO kc) 169 [ptr h,int a,int words,int nF] s Φ:=by
 have bW:=H.bW;unfold PH.oR at hΦ;refine aV rfl k_ rfl (rs:=[.tmp 8]) rfl (N:=96) rfl rfl ?_;refine aA fun bB aF aZ=>?_;simp only[cO,seval];refine aF _ _ ?_;refine aA fun Ψ1 aE aK=>?_;refine aA fun Ψ2 aH bM=>?_;refine cK [(2,15),(11,24)] (by kernel_rfl) fun O hO bK hR=>?_;have y2:∀ a,aN O a 2=bC (a.aB 15):=hO (2,15) (by simp);have nM:∀ a,aN O a 11=bC (a.aB 24):=hO (11,24) (by simp);by_cases h0:a<0
 ·rw[if_pos (.inl h0)] at hΦ;simp only[cO,seval,y2,nM,h0,decide_true];refine hR _ _ (aH _ _ ?_);simp only[cO,seval];refine aK _ _ _ (by simp) ?_;simp only[cO,seval];exact hΦ _ (.refl hs)
 by_cases h1:a≥((64*P.N:Nat):Int)
 ·rw[if_pos (.inr (.inl (by omega)))] at hΦ;simp only[cO,seval,y2,nM,h0,H.l1,h1,decide_true,decide_false];refine hR _ _ (aH _ _ ?_);simp only[cO,seval];refine aK _ _ _ (by simp) ?_;simp only[cO,seval];exact hΦ _ (.refl hs)
 have t2:a.tmod 2=a%2:=Int.tmod_eq_emod_of_nonneg (by omega);by_cases h2:a%2=0;rotate_left
 ·have e2:(a%2==0)=false:=by simpa using h2
  rw[if_pos (.inr (.inr h2))] at hΦ;simp only[cO,seval,y2,nM,h0,H.l1,h1,decide_false,t2,e2];refine hR _ _ (aH _ _ ?_);simp only[cO,seval];refine aK _ _ _ (by simp) ?_;simp only[cO,seval];exact hΦ _ (.refl hs)
 have e2:(a%2==0)=true:=by simpa using h2
 rw[if_neg (by omega)] at hΦ;simp only[cO,seval,y2,nM,h0,H.l1,h1,decide_false,t2,e2];refine hR _ _ (aH _ _ ?_);simp only[cO,seval];refine aE _ _ ?_;have t64:IntKind.i64.wrap (a.tdiv 64)=a/64:=by rw[Int.tdiv_eq_ediv_of_nonneg (by omega),aU (by omega) (by omega)]
 have m64:a.tmod 64=a%64:=Int.tmod_eq_emod_of_nonneg (by omega);refine aA fun Ψ3 aM bN=>?_;simp only[cO,seval,t64];refine aM _ _ ?_;have g1:0≤a/64:=by omega
 have g2:a/64<(P.N:Int):=by omega
 have lb:=H.lb (i:=(a/64).toNat) (by omega);have key:∀ s',aC [] s s'→∀ c:Prop,((if words≤32 then P.bs (a/64).toNat≠1∨(a+words-1)/64≠a/64 else P.bs (a/64).toNat≠2∨a%64≠0∨(P.span (a/64).toNat:Int)≠(words+63)/64)↔c)→(c→Φ (int 5) s')∧(¬ c→∀ s',aC [] s s'→Φ (int (if P.kJ a nF ((words+1)/2).toNat=true then 8 else 0)) s'):=by
  intro s' hk c hc;refine⟨fun h=>?_,fun h s' hk=>?_⟩
  ·have:=hΦ s' hk;rw[if_pos (hc.2 h)] at this;exact this
  ·have:=hΦ s' hk;rw[if_neg (fun h'=>h (hc.1 h'))] at this;exact this
 clear hΦ;refine aA fun Ψ4 aQ bZ=>?_;refine aA fun cP bI cF=>?_;simp only[cO,seval];refine bI _ _ ?_;have rest:∀ (a':aG),(∀ s',aC [] s s'→Φ (int (if P.kJ a nF ((words+1)/2).toNat=true then 8 else 0)) s')→a'.aB 0=ptr h→a'.aB 1=int a→a'.aB 2=int words→a'.aB 3=int nF→Ψ4 .normal a' s:=by
  intro a' hf r0 r1 r2 r3;refine aQ _ _ ?_;have w1:IntKind.i64.wrap (a+words)=a+words:=aU (by omega) (by omega);refine aA fun dK bO cV=>?_;refine aA fun fJ cC eF=>?_;simp only[cO,seval,r1];refine cC _ _ ?_;refine cB fun jC dA sJ iI=>?_;refine gD (n:=((words+1)/2).toNat) (fun j a' s'=>a'.aB 0=ptr h∧a'.aB 1=int a∧a'.aB 2=int words∧a'.aB 3=int nF∧a'.aB 10=int (a+2*j)∧aC [] s s'∧∀ (k:Nat) o,k<j→P.find (a+2*k)=some o→o=nF)
   (fun j a' s'=>a'.aB 0=ptr h∧a'.aB 1=int a∧a'.aB 2=int words∧a'.aB 3=int nF∧a'.aB 10=int (a+2*j)∧aC [] s s'∧∀ (k:Nat) o,k<j+1→P.find (a+2*k)=some o→o=nF) ?_ ?_ ?_ ?_ (Nat.zero_le _) ?_
  ·rintro j a2 s2 hj ⟨r0,r1,r2,r3,cL,k2,hn⟩ aR bH;simp only[cO,seval,r0,r1,r2,r3,cL,w1];refine bH _ _ (decide (a+2*(j:Int)<a+words)) ?_ (by rw[decide_eq_true_eq];omega) ⟨?_,?_,?_,?_,?_,k2,hn⟩
   all_goals simp only[cO,seval,r0,r1,r2,r3,cL]
  ·rintro j a2 s2 hj ⟨r0,r1,r2,r3,cL,k2,hn⟩ aR h1 h2 h3;refine aA fun lJ dW jP=>?_;simp only[cO,seval,r0,cL];refine aJ ?_ (V0 k2.ok (H.aL k2) (a+2*(j:Int)) fun s3 k3=>?_)
   ·simp only[cO,seval,r0,cL]
   have nJ:=k2.trans k3;cases NP:P.find (a+2*(j:Int)) with
   | none =>
    unfold mr;simp only[cO,seval];refine dW _ _ ?_;refine aA fun mZ eB nH=>?_;refine cK [(2,91)] (by kernel_rfl) fun O hO bK hR=>?_;have y2:∀ a,aN O a 2=bC (a.aB 91):=hO (2,91) (by simp);simp only[cO,seval,y2];refine hR _ _ (eB _ _ ?_);simp only[cO,seval];refine h1 _ _ ⟨?_,?_,?_,?_,?_,nJ,fun k o hk ho=>?_⟩
    ·simp only[cO,seval,r0]
    ·simp only[cO,seval,r1]
    ·simp only[cO,seval,r2]
    ·simp only[cO,seval,r3]
    ·simp only[cO,seval,cL]
    ·rcases Nat.lt_or_ge k j with h | h
     ·exact hn k o h ho
     ·obtain rfl:k=j:=by omega
      rw[NP] at ho;cases ho
   | some o =>
    unfold mr;by_cases UU:o=nF
    ·have e3:(o==nF)=true:=by simpa using UU
     simp only[cO,seval];refine dW _ _ ?_;refine aA fun mZ eB nH=>?_;refine cK [(2,91)] (by kernel_rfl) fun O hO bK hR=>?_;have y2:∀ a,aN O a 2=bC (a.aB 91):=hO (2,91) (by simp);simp only[cO,seval,y2,r3,e3];refine hR _ _ (eB _ _ ?_);simp only[cO,seval];refine h1 _ _ ⟨?_,?_,?_,?_,?_,nJ,fun k o' hk ho=>?_⟩
     ·simp only[cO,seval,r0]
     ·simp only[cO,seval,r1]
     ·simp only[cO,seval,r2]
     ·simp only[cO,seval,r3]
     ·simp only[cO,seval,cL]
     ·rcases Nat.lt_or_ge k j with h | h
      ·exact hn k o' h ho
      ·obtain rfl:k=j:=by omega
       rw[NP] at ho;cases ho;exact UU
    ·have e3:(o==nF)=false:=by simpa using UU
     simp only[cO,seval];refine dW _ _ ?_;refine aA fun mZ eB nH=>?_;refine cK [(2,91)] (by kernel_rfl) fun O hO bK hR=>?_;have y2:∀ a,aN O a 2=bC (a.aB 91):=hO (2,91) (by simp);simp only[cO,seval,y2,r3,e3];refine hR _ _ (eB _ _ ?_);simp only[cO,seval];refine h3 _ _ _ (by simp) (by simp) (iI _ _ _ (by simp) (by simp) (cV _ _ _ (by simp) ?_));simp only[cO,seval];have:=hf _ nJ;rw[if_pos (Z1 hj NP UU)] at this;exact this
  ·rintro j a2 s2 hj ⟨r0,r1,r2,r3,cL,k2,hn⟩ aR h1;simp only[cO,seval,cL];refine h1 _ _ ⟨?_,?_,?_,?_,?_,k2,hn⟩
   ·simp only[cO,seval,r0]
   ·simp only[cO,seval,r1]
   ·simp only[cO,seval,r2]
   ·simp only[cO,seval,r3]
   ·simp only[cO,seval];rw[aU (n:=a+2*(j:Int)+2) (by omega) (by omega)];omega
  ·rintro a2 s2 ⟨r0,r1,r2,r3,cL,k2,hn⟩;refine sJ _ _ (bO _ _ ?_);simp only[cO,seval];have:=hf _ k2;rw[if_neg (by rw[Z0 hn];simp)] at this;exact this
  ·refine⟨?_,?_,?_,?_,?_,.refl hs,fun k o hk=>absurd hk (Nat.not_lt_zero k)⟩
   ·simp only[cO,seval,r0]
   ·simp only[cO,seval,r1]
   ·simp only[cO,seval,r2]
   ·simp only[cO,seval,r3]
   ·simp only[cO,seval];congr 1;omega
 by_cases iH:words≤32
 ·have c1:=key s (.refl hs);simp only[eG,RV,RG,seval,iH,decide_true];refine aA fun dK bO cV=>?_;refine cK [(9,42)] (by kernel_rfl) fun O hO bK hR=>?_;have y9:∀ a,aN O a 9=bC (a.aB 42):=hO (9,42) (by simp);by_cases b1:P.bs (a/64).toNat=1
  ·have eb:(P.bs (a/64).toNat==1)=true:=by simpa using b1
   have w1:IntKind.i64.wrap (a+words)=a+words:=aU (by omega) (by omega);have w2:IntKind.i64.wrap (a+words-1)=a+words-1:=aU (by omega) (by omega);have w3:IntKind.i64.wrap ((a+words-1).tdiv 64)=(a+words-1)/64:=by rw[Int.tdiv_eq_ediv_of_nonneg (by omega),aU (by omega) (by omega)]
   by_cases b2:(a+words-1)/64=a/64
   ·have FI:((a+words-1)/64==a/64)=true:=by simpa using b2
    simp only[cO,seval,y9,H.l0,g1,g2,and_self,bJ,Nat.zero_add,lb,eb,w1,w2,w3,FI];refine hR _ _ (bO _ _ ?_);simp only[cO,seval];refine rest _ ((c1 False (by rw[if_pos iH];simp[b1,b2])).2 id) ?_ ?_ ?_ ?_
    all_goals simp only[cO,seval]
   ·have FI:((a+words-1)/64==a/64)=false:=by simpa using b2
    simp only[cO,seval,y9,H.l0,g1,g2,and_self,bJ,Nat.zero_add,lb,eb,w1,w2,w3,FI];refine hR _ _ (bO _ _ ?_);simp only[cO,seval];refine bZ _ _ _ (by simp) ?_;simp only[cO,seval];exact(c1 True (by rw[if_pos iH];simp[b1,b2])).1 trivial
  ·have eb:(P.bs (a/64).toNat==1)=false:=by simpa using b1
   simp only[cO,seval,y9,H.l0,g1,g2,and_self,bJ,Nat.zero_add,lb,eb];refine hR _ _ (bO _ _ ?_);simp only[cO,seval];refine bZ _ _ _ (by simp) ?_;simp only[cO,seval];exact(c1 True (by rw[if_pos iH];simp[b1])).1 trivial
 ·have c1:=key s (.refl hs);simp only[eG,RV,RG,seval,iH,decide_false];refine aA fun dK bO cV=>?_;refine cK [(9,60),(14,65)] (by kernel_rfl) fun O hO bK hR=>?_;have y9:∀ a,aN O a 9=bC (a.aB 60):=hO (9,60) (by simp);have wA:∀ a,aN O a 14=bC (a.aB 65):=hO (14,65) (by simp);by_cases b1:P.bs (a/64).toNat=2;rotate_left
  ·have eb:(P.bs (a/64).toNat==2)=false:=by simpa using b1
   simp only[cO,seval,y9,wA,H.l0,g1,g2,and_self,bJ,Nat.zero_add,lb,eb];refine hR _ _ (bO _ _ ?_);simp only[cO,seval];refine bZ _ _ _ (by simp) ?_;simp only[cO,seval];exact(c1 True (by rw[if_neg iH];simp[b1])).1 trivial
  have eb:(P.bs (a/64).toNat==2)=true:=by simpa using b1
  by_cases b2:a%64=0;rotate_left
  ·have FI:(a%64==0)=false:=by simpa using b2
   simp only[cO,seval,y9,wA,H.l0,g1,g2,and_self,bJ,Nat.zero_add,lb,eb,m64,FI];refine hR _ _ (bO _ _ ?_);simp only[cO,seval];refine bZ _ _ _ (by simp) ?_;simp only[cO,seval];exact(c1 True (by rw[if_neg iH];simp[b2])).1 trivial
  have FI:(a%64==0)=true:=by simpa using b2
  have w1:IntKind.i64.wrap (words+64)=words+64:=aU (by omega) (by omega);have w2:IntKind.i64.wrap (words+64-1)=words+63:=by rw[aU (by omega) (by omega)];omega
  have w3:IntKind.i64.wrap ((words+63).tdiv 64)=(words+63)/64:=by rw[Int.tdiv_eq_ediv_of_nonneg (by omega),aU (by omega) (by omega)]
  have S_:((a/64).toNat:Int)=a/64:=by omega
  simp only[cO,seval,y9,wA,H.l0,g1,g2,and_self,bJ,Nat.zero_add,lb,eb,m64,FI];refine aJ ?_ (Y0 hs H (b:=(a/64).toNat) (by omega) ?_)
  ·simp only[cO,seval,S_]
  by_cases b3:(P.span (a/64).toNat:Int)=(words+63)/64
  ·have br:((P.span (a/64).toNat:Int)==(words+63)/64)=true:=by simpa using b3
   simp only[cO,seval,wA,w1,w2,w3,br];refine hR _ _ (bO _ _ ?_);simp only[cO,seval];refine rest _ ((c1 False (by rw[if_neg iH];simp[b1,b2,b3])).2 id) ?_ ?_ ?_ ?_
   all_goals simp only[cO,seval]
  ·have br:((P.span (a/64).toNat:Int)==(words+63)/64)=false:=by simpa using b3
   simp only[cO,seval,wA,w1,w2,w3,br];refine hR _ _ (bO _ _ ?_);simp only[cO,seval];refine bZ _ _ _ (by simp) ?_;simp only[cO,seval];exact(c1 True (by rw[if_neg iH];simp[b3])).1 trivial
end
open Go.Proofs
set_option maxRecDepth 100000
set_option maxHeartbeats 1000000
namespace PH
variable (P:PH)
def place (a:Int) (x:cI):PH:={P with w:=(fun j=>if j=(a+1).toNat then x.num else if j=a.toNat then((P.born:Int)+1) else P.w j),S:=jB P.S (a/2).toNat 1,M:=P.M++[((P.born:Int)+1,a)],born:=P.born+1}
def rL (a:Int) (x:cI):Int:=if x.valid=true then P.oR a x.words (-1) else 2
theorem Ye {P:PH} {a n b:Int} (h:P.oR a n b=0):0≤a∧a<64*P.N∧a%2=0:=by
 unfold oR at h;split at h
 ·cases h
 ·omega
end PH
section
variable {kc:Kc} {q:Bool} {s:St} {Φ:Value→St→Prop} {h:Nat} {P:PH}
theorem bS.ph {s s':St} {n:Nat} (H:bS s h P) (k:aC [h] s s') (hc:Obj s' h [.slice (some ⟨P.nb,0,none⟩) P.N P.N,.slice (some ⟨P.nw,0,none⟩) (64*P.N) (64*P.N),ptr P.st,ptr P.pt,.map (some P.mp),.map (some P.mf),int n]):bS s' h {P with born:=n}:=by
 obtain⟨⟨a1,a2,a3,a4,a5,a6,a7,a8⟩,_⟩:=H.OU;obtain⟨c,cb,cw,ts,tp,mp,mf,nd,n2,bW,wr⟩:=H;exact⟨hc,cb.aD k (by simp[Ne.symm a1]),cw.aD k (by simp[Ne.symm a2]),ts.aD k (by simp[Ne.symm a3]) (by simp[Ne.symm a4]),tp.aD k (by simp[Ne.symm a5]) (by simp[Ne.symm a6]),mp.aD k (by simp[Ne.symm a7]),mf.aD k (by simp[Ne.symm a8]),nd,n2,bW,wr⟩
theorem bS.aEt (hs:Ok s) (H:bS s h P) {k a:Int} (hl:P.M.lookup k=none):∃ s',mE X s 136 (.map (some P.mp)) (int k) (int a)=some s'∧bS s' h {P with M:=P.M++[(k,a)]}∧aC [P.mp] s s':=by
 obtain⟨es,aO,aT,h1,h2,FP⟩:=H.mp;rw[mc,h1];simp only;rw[NC h2 (by rw[aCj,hl];rfl)];have kk:aC [P.mp] s (s.put P.mp fun v=>.map (es++[⟨int k,int a,aO⟩]) (aO+1) v):=.BH hs h1 (.inr (Nat.le_refl _)) (List.mem_singleton.2 rfl);refine⟨_,rfl,H.pj kk ⟨es++[⟨int k,int a,aO⟩],aO+1,s.aO,by simp only[St.put,PT.fC,if_true],?_,wj FP⟩,kk⟩;rw[List.map_append,List.map_append,List.map_append,h2]
 try rfl
theorem kH:type_of% (An @RX<|An @hZ<|An @NB<|An @aW<|An @jG<|An @jW<|An @dF<|An @dE<|An @uX<|An @jX<|An @NA<|An @OH<|@mc):=An @RX<|An @hZ<|An @NB<|An @aW<|An @jG<|An @jW<|An @dF<|An @dE<|An @uX<|An @jX<|An @NA<|An @OH<|@mc
theorem X0 (hs:Ok s) (H:bS s h P) (a:Int) (ha:i64 a) (x:cI) (hb:P.born<1000000000) (hl:P.M.lookup ((P.born:Int)+1)=none)
  (hΦ:∀ s',bS s' h (if P.rL a x=0 then P.place a x else P)→aC [h,P.nw,P.su,P.mp] s s'→Φ (.tuple #[int (if P.rL a x=0 then(P.born:Int)+1 else 0),int (P.rL a x)]) s'):okF q X (KO kc) 80 [ptr h,int a,oW x] s Φ:=by
 have bW:=H.bW;unfold PH.rL at hΦ;refine aV rfl K_ rfl (rs:=[.tmp 6,.tmp 7]) rfl (N:=71) rfl rfl ?_;refine aA fun bB aF aZ=>?_;simp only[kH,seval];obtain⟨s1,e1,k1,c1,_⟩:=cA hs (L:=[int x.r,int x.d,int x.k]) (n:=3) (e:=44) rfl;rw[e1];refine aF _ _ ?_;have l3:=c1.bD (i:=0) (k:=3) (Nat.le_refl _);have H1:=H.aL k1;refine aA fun Ψ1 aE aK=>?_;refine cB fun Ψ2 aH vD bM=>?_;refine aA fun Ψ3 aM bN=>?_;simp only[kH,seval];refine aJ ?_ (AN H1 ?_)
 ·simp only[kH,seval]
 try simp only[kH,seval]
 refine aM _ _ ?_;simp only[eG,RV,RG,seval];refine aA fun Ψ4 aQ bZ=>?_;simp only[kH,seval,l3,List.drop_zero,List.take];refine aJ ?_ (Cs k1.ok x fun s2 k2=>?_)
 ·simp only[kH,seval]
 have k12:=k1.trans k2;have H2:=H.aL k12;have c2:=c1.aD k2 (by simp);have l4:=c2.bD (i:=0) (k:=3) (Nat.le_refl _)
 try simp only[kH,seval]
 refine aQ _ _ ?_;cases hv:x.valid with
 | false =>
  rw[hv] at hΦ;simp only[kH,seval];refine bM _ _ _ (by simp) (by simp) (aK _ _ _ (by simp) ?_);simp only[kH,seval];exact hΦ _ H2 k12.any
 | true =>
  rw[hv] at hΦ;simp only[if_true] at hΦ;have hw:=cI.sX hv;have hw':=cI.CA x;simp only[kH,seval];refine aH _ _ (aE _ _ ?_);refine aA fun cP bI cF=>?_;refine aA fun dK bO cV=>?_;simp only[kH,seval,l4,List.drop_zero,List.take];refine aJ ?_ (Ct k2.ok x fun s3 k3=>?_)
  ·simp only[kH,seval]
  have mB:=k12.trans k3;have H3:=H.aL mB
  try simp only[kH,seval]
  refine aJ ?_ (X7 k3.ok H3 a x.words (-1) ha (by omega) (by omega) fun s4 k4=>?_)
  ·simp only[kH,seval]
  have KC:=mB.trans k4;have H4:=H.aL KC;have c4:=c2.aD (k3.trans k4) (by simp)
  try simp only[kH,seval]
  refine bO _ _ ?_;by_cases he:P.oR a x.words (-1)=0;rotate_left
  ·have hb':(P.oR a x.words (-1)==0)=false:=by simpa using he
   rw[if_neg he,if_neg he] at hΦ;refine aA fun fJ cC eF=>?_;simp only[kH,seval,hb'];refine cC _ _ ?_;simp only[kH,seval];refine cF _ _ _ (by simp) ?_;simp only[kH,seval];exact hΦ _ H4 KC.any
  obtain⟨g1,g2,g3⟩:=PH.Ye he;rw[if_pos he,if_pos he,he] at hΦ;rw[he];refine aA fun fJ cC eF=>?_;simp only[kH,seval];refine cC _ _ ?_;simp only[kH,seval];refine bI _ _ ?_;have w1:IntKind.i64.wrap ((P.born:Int)+1)=((P.born+1:Nat):Int):=by rw[aU (by omega) (by omega)];rfl
  obtain⟨s5,h5,c5,k5⟩:=H4.c.gJ k4.ok (i:=6) (v:=int ((P.born+1:Nat):Int)) (by simp) rfl;have H5:bS s5 h {P with born:=P.born+1}:=H4.ph k5 c5;have hnh:s.next≠h:=fun e=>by have:=H.c.lt hs;omega
  have uO:=c4.aD k5 (by simpa using hnh);refine aA fun jC dA iI=>?_;simp only[kH,seval,H4.l6,w1,h5];refine dA _ _ ?_;have q1:a<((64*P.N:Nat):Int):=by omega
  have q2:IntKind.i64.wrap (a+1)=a+1:=aU (by omega) (by omega);have q3:0≤a+1:=by omega
  have q4:a+1<((64*P.N:Nat):Int):=by omega
  have l5:=uO.bD (i:=0) (k:=3) (Nat.le_refl _);have hl1:aI s5.look ⟨h,1,none⟩=some (.slice (some ⟨P.nw,0,none⟩) (64*P.N) (64*P.N)):=H5.l1;have hl6:aI s5.look ⟨h,6,none⟩=some (int ((P.born+1:Nat):Int)):=H5.l6;refine aA fun lJ dW jP=>?_;refine dH [(3,16),(8,16),(14,16)] [h] [] (by kernel_rfl) (by kernel_rfl) (by rfl) fun O hO bK hR=>?_;simp only[kH,seval,hl1,hl6,q2,l5,List.drop_zero,List.take];refine eQ ?_ (X8 (k5.ok.skip _) x hv fun s6 k6=>?_)
  ·simp only[kH,seval]
  have jb:aC [] s5 s6:=(aC.skip k5.ok 42).trans k6;have H6:=H5.aL jb;have aA8:i64 x.num:=by
   have:=cI.pZ.1 hv;unfold cI.num;constructor <;> omega
  obtain⟨s7,h7,H7,k7⟩:=H6.qd k6.ok (i:=a) (v:=((P.born+1:Nat):Int)) g1 (by show a<64*(P.N:Int);omega) ⟨by omega,by omega⟩;obtain⟨s8,h8,H8,k8⟩:=H7.qd k7.ok (i:=a+1) (v:=x.num) q3 (by show a+1<64*(P.N:Int);omega) aA8;have O3:dB s6 ⟨P.nw,a.toNat,none⟩ [int ((P.born+1:Nat):Int)]=some s7:=h7;have O4:dB s7 ⟨P.nw,(a+1).toNat,none⟩ [int x.num]=some s8:=h8;simp only[kH,seval,g1,q1,q3,q4,and_self,bJ,Nat.zero_add,Nat.mul_one,O3,O4];refine⟨gQ (H5.c.same k5.ok jb (by simp)) jR,hR _ _ (dW _ _ ?_)⟩;have e2:IntKind.i64.wrap (a.tdiv 2)=a/2:=by rw[Int.tdiv_eq_ediv_of_nonneg (by omega),aU (by omega) (by omega)]
  have hl2:aI s8.look ⟨h,2,none⟩=some (ptr P.st):=H8.l2;refine aA fun mZ eB nH=>?_;simp only[kH,seval,hl2,e2];refine aJ ?_ (QB (i:=a/2) (v:=1) k8.ok H8.ts (i':=(a/2).toNat) (v':=1) (by omega) rfl (show (a/2).toNat<32*P.N by omega) (by omega) fun s9 h9 k9=>?_)
  ·simp only[kH,seval,PH.mH]
  have H9:=H8.Nn k9 h9
  try simp only[kH,seval]
  refine eB _ _ ?_;have jg:aC [] s9 (s9.skip 20):=.skip k9.ok _;obtain⟨rN,h10,se,k10⟩:=(H9.aL jg).aEt jg.ok (k:=((P.born+1:Nat):Int)) (a:=a) hl;have O2:mE X (s9.skip 20) 136 (.map (some P.mp)) (int ((P.born+1:Nat):Int)) (int a)=some rN:=h10;have UP:aI s9.look ⟨h,4,none⟩=some (.map (some P.mp)):=H9.l4;have aA0:aI s9.look ⟨h,6,none⟩=some (int ((P.born+1:Nat):Int)):=H9.l6;refine aA fun rS kL qK=>?_;refine dH [] [] [] (by kernel_rfl) (by kernel_rfl) (by rfl) fun O hO bK hR=>?_;simp only[RC,RO,RD,RV,RB,RG,NA,OH,NB,aW,seval,UP,aA0,O2];refine hR _ _ (kL _ _ ?_);have aA1:aI rN.look ⟨h,6,none⟩=some (int ((P.born+1:Nat):Int)):=se.l6;simp only[kH,seval,aA1];have kk:aC [h,P.nw,P.su,P.mp] s rN:=by
   have p1:aC [h,P.nw,P.su,P.mp] s s5:=KC.any.trans (k5.mono (by simp));have p2:aC [h,P.nw,P.su,P.mp] s5 s8:=jb.any.trans ((k7.mono (by intro y hy;rw[List.mem_singleton.1 hy];simp)).trans (k8.mono (by intro y hy;rw[List.mem_singleton.1 hy];simp[PH.mH])));have p3:aC [h,P.nw,P.su,P.mp] s8 rN:=(k9.mono (by intro y hy;rw[List.mem_singleton.1 hy];simp[PH.mH])).trans (jg.any.trans (k10.mono (by intro y hy;rw[List.mem_singleton.1 hy];simp[PH.mH])));exact(p1.trans p2).trans p3
  exact hΦ _ se kk
end
open Go.Proofs
set_option maxRecDepth 100000
set_option maxHeartbeats 1000000
theorem tF {s:St} {x y:Nat} {f:Nat→bU} (h:y≠x):(s.put x f).heap.get y=s.heap.get y:=by
 simp only[St.put,PT.fC,if_neg h]
theorem Obj.oK {s:St} {b x:Nat} {L:List Value} {f:Nat→bU} (h:Obj s b L) (hx:b≠x):Obj (s.put x f) b L:=by
 obtain⟨e,c,z,room,aT,h1,h2⟩:=h;exact⟨e,c,z,room,aT,by rw[tF hx];exact h1,h2⟩
theorem iL.oK {s:St} {b x:Nat} {M:List (Int×Value)} {f:Nat→bU} (h:iL s b M) (hx:b≠x):iL (s.put x f) b M:=by
 obtain⟨es,aO,aT,h1,h2⟩:=h;exact⟨es,aO,aT,by rw[tF hx];exact h1,h2⟩
theorem Obj.pV {s:St} {x e n:Nat} {L:List Value} {room:Bool} (hn:L.length=n):Obj (s.put x fun v=>.cells (PT.ofList L) [] n e room false v) x L:=by
 subst hn;exact⟨_,Cells.pV⟩
theorem iL.pV {s:St} {x:Nat}:iL (s.put x fun v=>.map [] 0 v) x []:=⟨[],0,s.aO,by simp only[St.put,PT.fC,if_true],rfl,⟨fun _ h=>(by cases h),List.nodup_nil⟩⟩
theorem Obj.tO {s:St} {x e n m:Nat} {z:List Value} {L:List Value} (hz:z.length=m) (hL:L.length=n*m) (h:∀ i,i<n*m→L[i]?=some (z.getD (i%m) undef)):Obj (s.put x fun v=>.cells .nil z (n*m) e false false v) x L:=by
 subst hz;have:=Cells.tO (s:=s) (x:=x) (e:=e) (z:=z) (n:=n);rw[show ((List.range (n*z.length)).map fun i=>z.getD (i%z.length) undef)=L from ?_] at this
 ·exact⟨_,this⟩
 ·apply List.ext_getElem?;intro i;by_cases hi:i<n*z.length
  ·rw[h i hi,List.getElem?_map,List.getElem?_range hi];rfl
  ·rw[List.getElem?_eq_none (by simp;omega),List.getElem?_eq_none (by omega)]
theorem aC.pD {F:List Nat} {a s:St} (k:aC F a s) {x:Nat} {f:Nat→bU} (hx:s.heap.get x=Option.none) (bY:x<s.next) (hge:a.next≤x) (hf:(f s.aO).aT≤s.aO):aC F a (s.put x f):=k.ni hx bY hge (.inr hf)
structure PH.Empty (P:PH) (n:Nat):Prop where
 N:P.N=n
 bs:P.bs=fun _=>0
 bp:P.bp=fun _=>0
 w:P.w=fun _=>0
 S:P.S=fun _=>0
 Q:P.Q=fun _=>0
 M:P.M=[]
 born:P.born=0
section
variable {kc:Kc} {q:Bool} {s:St} {Φ:Value→St→Prop} {h:Nat} {P:PH}
theorem xI:type_of% (An @RX<|An @Hv<|An @uh<|An @jW<|An @dF<|An @dG<|An @uX<|An @Oq<|@CN):=An @RX<|An @Hv<|An @uh<|An @jW<|An @dF<|An @dG<|An @uX<|An @Oq<|@CN
theorem W7 (hs:Ok s) {n:Int} {n':Nat} (hn:n=n') (h2:2≤n') (dy:n'≤64) (hΦ:∀ s' h P,bS s' h P→P.Empty n'→(∀ x∈P.bF h,s.next≤x)→aC [] s s'→Φ (.tuple #[ptr h,int 0]) s'):okF q X (KO kc) 50 [int n] s Φ:=by
 subst hn;have d0:¬ (n':Int)<2:=by omega
 have d1:¬ (n':Int)>64:=by omega
 have e1:IntKind.i64.wrap ((n':Int)*64)=((64*n':Nat):Int):=by rw[aU (by omega) (by omega)];omega
 refine aV rfl F9 rfl (rs:=[.tmp 2,.tmp 3]) rfl (N:=47) rfl rfl ?_;refine aA fun bB aF aZ=>?_;simp only[xI,seval];refine aF _ _ ?_;refine aA fun Ψ1 aE aK=>?_;refine aA fun Ψ2 aH bM=>?_;refine cK [(2,7)] (by kernel_rfl) fun O hO bK hR=>?_;have y2:∀ a,aN O a 2=bC (a.aB 7):=hO (2,7) (by simp);simp only[xI,seval,y2,d0,d1,decide_false];refine hR _ _ (aH _ _ ?_);simp only[xI,seval];refine aE _ _ ?_;refine aA fun Ψ3 aM bN=>?_;refine dH [] [] [] (by kernel_rfl) (by kernel_rfl) (by rfl) fun O hO bK hR=>?_;simp only[xI,seval,aCw (nm:=s.next+2) (n:=(n':Int)) (m:=(n':Int)) (by omega) (by omega) (by omega) (by omega),e1,DQ (nm:=s.next+8) (n:=((64*n':Nat):Int)) (m:=((64*n':Nat):Int)) (by omega) (by omega) (by omega) (by omega),Int.toNat_natCast];refine hR _ _ (aM _ _ ?_);have fr:∀ x,s.next≤x→s.heap.get x=none:=hs.fresh;obtain⟨S1,h1,k1,c1,n1,f1⟩:∃ S1,(s.skip 20).put (s.next+2) (fun v=>bU.cells PT.nil [Value.int IntKind.i64 0,Value.int IntKind.i64 0] (n'*2) 198 false false v)=S1∧aC [] s S1∧Obj S1 (s.next+2) (row (2*n') fun _=>int 0)∧S1.next=s.next+20∧∀ x,s.next≤x→x≠s.next+2→S1.heap.get x=none :=
  ⟨_,rfl,(aC.skip hs 20).pD (fr _ (by omega)) (by show s.next+2<s.next+20;omega) (by omega) (Nat.le_refl _),Obj.tO rfl (by rw[iZ];omega) (fun i hi=>by
   rw[lM _ (by omega)];rcases Nat.mod_two_eq_zero_or_one i with h | h <;> rw[h] <;> rfl),rfl,fun x hx hne=>by rw[tF hne];exact fr x hx⟩
 rw[h1];obtain⟨S2,h2,k2,c2,aj,n2,f2⟩:∃ S2,S1.put (s.next+8) (fun v=>bU.cells PT.nil [Value.int IntKind.i64 0] (64*n'*1) 3 false false v)=S2∧aC [] s S2∧Obj S2 (s.next+8) (row (64*n') fun _=>int 0)∧Obj S2 (s.next+2) (row (2*n') fun _=>int 0)∧S2.next=s.next+20∧∀ x,s.next≤x→x≠s.next+2→x≠s.next+8→S2.heap.get x=none :=
  ⟨_,rfl,k1.pD (f1 _ (by omega) (by omega)) (by omega) (by omega) (Nat.le_refl _),Obj.tO rfl (by rw[iZ];omega) (fun i hi=>by
   rw[lM _ (by omega),Nat.mod_one];rfl),c1.oK (by omega),n1,fun x hx hne ga=>by rw[tF ga];exact f1 x hx hne⟩
 rw[h2];obtain⟨S3,h3,k3,c3,ak,aq,n3,f3⟩:∃ S3,S2.put (s.next+10) (fun v=>bU.map [] 0 v)=S3∧aC [] s S3∧iL S3 (s.next+10) []∧Obj S3 (s.next+2) (row (2*n') fun _=>int 0)∧Obj S3 (s.next+8) (row (64*n') fun _=>int 0)∧S3.next=s.next+20∧∀ x,s.next≤x→x≠s.next+2→x≠s.next+8→x≠s.next+10→S3.heap.get x=none :=
  ⟨_,rfl,k2.pD (f2 _ (by omega) (by omega) (by omega)) (by omega) (by omega) (Nat.le_refl _),iL.pV,aj.oK (by omega),c2.oK (by omega),n2,fun x hx a b c=>by rw[tF c];exact f2 x hx a b⟩
 rw[h3];obtain⟨S4,h4,k4,c4,Ub,Uc,Ud,n4,f4⟩:∃ S4,S3.put (s.next+12) (fun v=>bU.map [] 0 v)=S4∧aC [] s S4∧iL S4 (s.next+12) []∧Obj S4 (s.next+2) (row (2*n') fun _=>int 0)∧Obj S4 (s.next+8) (row (64*n') fun _=>int 0)∧iL S4 (s.next+10) []∧S4.next=s.next+20∧∀ x,s.next≤x→x≠s.next+2→x≠s.next+8→x≠s.next+10→x≠s.next+12→S4.heap.get x=none :=
  ⟨_,rfl,k3.pD (f3 _ (by omega) (by omega) (by omega) (by omega)) (by omega) (by omega) (Nat.le_refl _),iL.pV,ak.oK (by omega),aq.oK (by omega),c3.oK (by omega),n3,fun x hx a b c d=>by rw[tF d];exact f3 x hx a b c⟩
 rw[h4];obtain⟨S5,h5,k5,c5,Ue,Uf,Ug,Uh,n5⟩:∃ S5,S4.put (s.next+16) (fun v=>bU.cells (PT.ofList [Value.slice (some ⟨s.next+2,0,none⟩) n' n',Value.slice (some ⟨s.next+8,0,none⟩) (64*n') (64*n'),Value.pointer none,Value.pointer none,Value.map (some (s.next+10)),Value.map (some (s.next+12)),Value.int IntKind.i64 0]) [] 7 138 false false v)=S5∧aC [] s S5 ∧
   Obj S5 (s.next+16) [Value.slice (some ⟨s.next+2,0,none⟩) n' n',Value.slice (some ⟨s.next+8,0,none⟩) (64*n') (64*n'),Value.pointer none,Value.pointer none,Value.map (some (s.next+10)),Value.map (some (s.next+12)),Value.int IntKind.i64 0]∧Obj S5 (s.next+2) (row (2*n') fun _=>int 0)∧Obj S5 (s.next+8) (row (64*n') fun _=>int 0)∧iL S5 (s.next+10) []∧iL S5 (s.next+12) []∧S5.next=s.next+20 :=
  ⟨_,rfl,k4.pD (f4 _ (by omega) (by omega) (by omega) (by omega) (by omega)) (by omega) (by omega) (Nat.le_refl _),Obj.pV rfl,Ub.oK (by omega),Uc.oK (by omega),Ud.oK (by omega),c4.oK (by omega),n4⟩
 rw[h5];clear h1 h2 h3 h4 h5 f1 f2 f3 f4;have w1:IntKind.i64.wrap (((64*n':Nat):Int).tdiv 2)=((32*n':Nat):Int):=by
  rw[Int.tdiv_eq_ediv_of_nonneg (by omega),aU (by omega) (by omega)];omega
 have l1:aI S5.look ⟨s.next+16,1,none⟩=some (Value.slice (some ⟨s.next+8,0,none⟩) (64*n') (64*n')):=c5.load rfl;refine aA fun Ψ4 aQ bZ=>?_;simp only[xI,seval,l1,w1,Nat.zero_add];refine aJ ?_ (pq k5.ok (n:=((32*n':Nat):Int)) (w:=1) (n':=32*n') (w':=1) rfl rfl (by omega) (by omega) (.inl rfl) fun S6 st su hst hsu ht k6=>?_)
 ·simp only[xI,seval]
 obtain⟨S7,h7,c7,k7⟩:=(c5.aD k6 (by simp)).gJ k6.ok (i:=2) (v:=ptr st) (by simp) rfl;have n16:s.next+16∉([]:List Nat):=by simp
 have aK2:=c5.lt k5.ok;simp only[xI,seval,h7,Nat.zero_add];refine aQ _ _ ?_;have jd:=k6.any (G:=[s.next+16]) |>.trans k7;have k57:aC [] s S7:=k5.step jd fun g hg=>.inr (by rw[List.mem_singleton.1 hg];exact fr _ (by omega));have gm:=ht.aD k7 (by simp;omega) (by simp;omega);have l7:aI S7.look ⟨s.next+16,1,none⟩=some (Value.slice (some ⟨s.next+8,0,none⟩) (64*n') (64*n')):=c7.load rfl;refine aA fun cP bI cF=>?_;simp only[xI,seval,l7,w1,Nat.zero_add];refine aJ ?_ (pq k7.ok (n:=((32*n':Nat):Int)) (w:=1) (n':=32*n') (w':=1) rfl rfl (by omega) (by omega) (.inl rfl) fun S8 pt pu hpt hpu hp k8=>?_)
 ·simp only[xI,seval]
 obtain⟨S9,h9,c9,k9⟩:=(c7.aD k8 (by simp)).gJ k8.ok (i:=3) (v:=ptr pt) (by simp) rfl;have nx7:=jd.next;have lts:=gm.c.lt k7.ok;obtain⟨U,hU,_⟩:=gm.ws;have ltu:=hU.lt k7.ok;simp only[xI,seval,h9,Nat.zero_add];refine bI _ _ ?_;have je:=k8.any (G:=[s.next+16]) |>.trans k9;have VJ:=jd.trans je;have k09:aC [] s S9:=k57.step je fun g hg=>.inr (by rw[List.mem_singleton.1 hg];exact fr _ (by omega));simp only[xI,seval];refine hΦ S9 (s.next+16) ⟨s.next+2,s.next+8,st,su,pt,pu,s.next+10,s.next+12,n',fun _=>0,fun _=>0,fun _=>0,fun _=>0,fun _=>0,[],0⟩ ⟨c9,?_,Uf.aD VJ (by simp),gm.aD je (by simp;omega) (by simp;omega),hp.aD k9 (by simp;omega) (by simp;omega),Ug.aD VJ (by simp),Uh.aD VJ (by simp),?_,h2,dy,fun i=>⟨by simp,by simp⟩⟩ ⟨rfl,rfl,rfl,rfl,rfl,rfl,rfl,rfl⟩ ?_ k09
 ·have:=Ue.aD VJ (by simp);simp only[ite_self];exact this
 ·have:=ht.ne;have:=hp.ne;simp only[List.nodup_cons,List.mem_cons,List.not_mem_nil,or_false,not_or,List.nodup_nil,not_false_eq_true,and_true];omega
 ·intro x hx;simp only[PH.bF,List.mem_cons,List.not_mem_nil,or_false] at hx;omega
end
open Go.Proofs
set_option maxRecDepth 100000
set_option maxHeartbeats 1000000
theorem iT {X:Env} {s:St} {t e N B n c k:Nat} {z x:Value} {a:Option Addr} {L new:List Value} (hd:((X.ty t).map fun i=>i.desc)=some (.slice e)) (he:((X.ty e).map fun i=>(i.bytes,i.size,i.zero))=some (B,N,some z)) (hz:z.cells.size=N)
  (hs:Ok s) (hN:0<N) (hb:bE s e N (.slice a n c) L) (hx:tL x=some k) (hf:jM s.look N k x=some new) (hl:new.length=k*N) (h1:new.all iB=true) (hm:n+k<1000000000) (hB:B≤1000) :
  ∃ v s',oY X s #[t,t] [.slice a n c,x]=some (v,s')∧bE s' e N v (L++new)∧aC (nameOf (.slice a n c)) s s'∧(∀ b∈nameOf v,b∈nameOf (.slice a n c)∨s.next≤b)∧(∃ a' c',v=.slice a' (n+k) c'):=by
 obtain⟨v,s',h2,h3⟩:=hb.append hs hN hl h1;refine⟨v,s',?_,h3⟩;cases hi:X.ty t with
 | none=>rw[hi] at hd;cases hd
 | some i =>
  cases hj:X.ty e with
  | none=>rw[hj] at he;cases he
  | some j =>
   rw[hi] at hd;rw[hj] at he;obtain⟨d,sz,bs,zz,ag,ms,cm⟩:=i;obtain⟨d',sz',bs',zz',ag',ms',cm'⟩:=j;simp only[Option.map_some,Option.some.injEq,Prod.mk.injEq] at hd he;subst hd;obtain⟨rfl,rfl,rfl⟩:=he;simp only[oY,hi,hj,hx,hf];have hmul:(2*(n+k)+1000)*bs'≤2 ^ 47:=by
    have:(2*(n+k)+1000)*bs'≤(2*(n+k)+1000)*1000:=Nat.mul_le_mul_left _ hB;omega
   rw[if_pos ⟨hl,rfl,hz,by omega,hmul,h1⟩];exact h2
theorem kT {H:bG} {b N:Nat} {new:List Value} {c:Nat} (hN:0<N) (h:bD H ⟨b,0,none⟩ N=some new):jM H N 1 (.slice (some ⟨b,0,none⟩) 1 c)=some new:=by
 simp only[jM];rw[if_neg (by omega),Nat.one_mul];exact h
theorem WS {L:Nat→Nat} {v:Int}:∀ {d k i:Nat},pU L v k d=some i→k≤i∧i<k+d∧(L i:Int)=v∧∀ m,k≤m→m<i→¬ (L m:Int)=v
 | d+1,k,i,h=>by
  rw[pU] at h;split at h
  ·cases h;exact⟨Nat.le_refl _,by omega,by assumption,fun m h1 h2=>by omega⟩
  ·rename_i hn;obtain⟨h1,h2,h3,h4⟩:=WS h;refine⟨by omega,by omega,h3,fun m h5 h6=>?_⟩;by_cases hm:m=k
   ·subst hm;exact hn
   ·exact h4 m (by omega) h6
theorem WR {L:Nat→Nat} {v:Int}:∀ {d k:Nat},pU L v k d=none→∀ m,k≤m→m<k+d→¬ (L m:Int)=v
 | 0,k,h,m,h1,h2=>by omega
 | d+1,k,h,m,h1,h2=>by
  rw[pU] at h;split at h
  ·cases h
  ·rename_i hn;by_cases hm:m=k
   ·subst hm;exact hn
   ·exact WR h m (by omega) (by omega)
def mP (p:Nat→Bool) (k:Nat):List Nat:=(List.range k).filter p
theorem NR {p:Nat→Bool}:∀ {i k:Nat},k≤i→(∀ m,k≤m→m<i→p m=false)→mP p i=mP p k
 | 0,k,h,_=>by rw[Nat.le_zero.1 h]
 | i+1,k,h,hn=>by
  rcases Nat.lt_or_ge i k with h1 | h1
  ·rw[show k=i+1 by omega]
  ·unfold mP;rw[List.range_succ,List.filter_append,List.filter_cons,List.filter_nil,hn i h1 (by omega)];simp only[Bool.false_eq_true,if_false,List.append_nil];exact NR h1 fun m h2 h3=>hn m h2 (by omega)
theorem fo {p:Nat→Bool} {i k:Nat} (h:k≤i) (hn:∀ m,k≤m→m<i→p m=false) (hp:p i=true):mP p (i+1)=mP p k++[i]:=by
 rw[← NR h hn];unfold mP;rw[List.range_succ,List.filter_append,List.filter_cons,List.filter_nil,hp]
 try rfl
theorem Di {p:Nat→Bool} {i k:Nat} (h:k≤i):(mP p k).length≤(mP p i).length:=by
 obtain⟨d,rfl⟩:=Nat.exists_eq_add_of_le h;unfold mP;rw[List.range_add,List.filter_append,List.length_append];omega
theorem Z2 {p:Nat→Bool} {k:Nat}:(mP p k).length≤k:=by
 have:=List.length_filter_le p (List.range k);rw[List.length_range] at this;exact this
namespace PH
variable (P:PH)
def jF (i:Nat):Bool:=decide (P.S i=1)
def all:List Int:=(mP P.jF (32*P.N)).map fun(i:Nat)=>2*(i:Int)
end PH
section
variable {kc:Kc} {q:Bool} {s:St} {Φ:Value→St→Prop} {h:Nat} {P:PH}
theorem fU:type_of% (An @RX<|An @uX<|An @jX<|@jE):=An @RX<|An @uX<|An @jX<|@jE
theorem X5 (hs:Ok s) (H:bS s h P) (hΦ:∀ s' a n c,bE s' 3 1 (.slice a n c) (P.all.map int)→n=P.all.length→(∀ b∈nameOf (.slice a n c),s.next≤b)→aC [] s s'→Φ (.slice a n c) s'):okF q X (KO kc) 154 [ptr h,int 0,int (64*P.N:Nat)] s Φ:=by
 have bW:=H.bW;refine aV rfl a_ rfl (rs:=[.tmp 6]) rfl (N:=44) rfl rfl ?_;refine aA fun bB aF aZ=>?_;simp only[fU,seval];refine aF _ _ ?_;refine aA fun Ψ1 aE aK=>?_;simp only[fU,seval];refine aE _ _ ?_;refine aA fun Ψ2 aH bM=>?_;refine aA fun Ψ3 aM bN=>?_;have w0:IntKind.i64.wrap ((0:Int).tdiv 2)=0:=rfl;have w00:IntKind.i64.wrap (0:Int)=0:=rfl;simp only[fU,seval,H.l2,w0,w00];refine aJ ?_ (Nu hs H.ts 0 1 (by omega) fun s2 k2=>?_)
 ·simp only[fU,seval]
 rw[show (max (0:Int) 0).toNat=0 from rfl];simp only[fU,seval];refine aM _ _ ?_;refine cB fun Ψ4 aQ yY bZ=>?_;refine gD (n:=(mP P.jF (32*P.N)).length)
  (fun j a' s'=>∃ k a n c,k≤32*P.N∧(mP P.jF k).length=j∧a'.aB 0=ptr h∧a'.aB 2=int (64*P.N:Nat)∧a'.aB 7=.slice a n c∧n=j∧bE s' 3 1 (.slice a n c) (((mP P.jF k).map fun(i:Nat)=>2*(i:Int)).map int)∧(∀ b∈nameOf (.slice a n c),s.next≤b)∧a'.aB 8=WV (pU P.S 1 k (32*P.N-k))∧a'.aB 9=WW (pU P.S 1 k (32*P.N-k))∧aC [] s s')
  (fun j a' s'=>∃ (i:Nat) (a:Option Addr) (n c:Nat),i<32*P.N∧(mP P.jF (i+1)).length=j+1∧a'.aB 0=ptr h∧a'.aB 2=int (64*P.N:Nat)∧a'.aB 7=.slice a n c∧n=j+1∧bE s' 3 1 (.slice a n c) (((mP P.jF (i+1)).map fun(i:Nat)=>2*(i:Int)).map int)∧(∀ b∈nameOf (.slice a n c),s.next≤b)∧a'.aB 8=int i∧aC [] s s') ?_ ?_ ?_ ?_ (Nat.zero_le _) ?_
 ·rintro j a' s' hj ⟨k,a,n,c,hk,hl,r0,r2,r7,hn,hb,hnm,r8,r9,kk⟩ aR bH;refine cK [(2,22)] (by kernel_rfl) fun O hO bK hR=>?_;have y2:∀ a,aN O a 2=bC (a.aB 22):=hO (2,22) (by simp);cases hx:pU P.S 1 k (32*P.N-k) with
  | some i =>
   obtain⟨i1,i2,i3,i4⟩:=WS hx;have JP:=fo (p:=P.jF) i1 (fun m h1 h2=>by have:=i4 m h1 h2;simp only[PH.jF,decide_eq_false_iff_not];omega) (by simp only[PH.jF,decide_eq_true_eq];omega);have bY:j<(mP P.jF (32*P.N)).length:=by
    have:=Di (p:=P.jF) (i:=32*P.N) (k:=i+1) (by omega);rw[JP,List.length_append,List.length_singleton] at this;omega
   rw[hx] at r8 r9;simp only[PB,PD,PA,PC] at r8 r9;have w1:IntKind.i64.wrap (2*(i:Int))=2*i:=aU (by omega) (by omega);have g1:2*(i:Int)<((64*P.N:Nat):Int):=by omega
   simp only[fU,seval,r8,r9,r2,y2,w1,g1,decide_true];refine hR _ _ (bH _ _ true ?_ (by simp[bY]) ⟨k,a,n,c,hk,hl,?_,?_,?_,hn,hb,hnm,?_,?_,kk⟩)
   ·simp only[fU,seval]
   ·simp only[fU,seval,r0]
   ·simp only[fU,seval,r2]
   ·simp only[fU,seval,r7]
   ·simp only[fU,seval,hx,r8,PB,PA]
   ·simp only[fU,seval,hx,r9,PD,PC]
  | none =>
   have NV:=WR hx;have hall:=NR (p:=P.jF) hk fun m h1 h2=>by have:=NV m h1 (by omega);simp only[PH.jF,decide_eq_false_iff_not];omega
   rw[hx] at r8 r9;simp only[PB,PD,PA,PC] at r8 r9;simp only[fU,seval,r8,r9,r2,y2];refine hR _ _ (bH _ _ false ?_ (by rw[hall,hl];simp) ⟨k,a,n,c,hk,hl,?_,?_,?_,hn,hb,hnm,?_,?_,kk⟩)
   ·simp only[fU,seval]
   ·simp only[fU,seval,r0]
   ·simp only[fU,seval,r2]
   ·simp only[fU,seval,r7]
   ·simp only[fU,seval,hx,r8,PB,PA]
   ·simp only[fU,seval,hx,r9,PD,PC]
 ·rintro j a' s' hj ⟨k,a,n,c,hk,hl,r0,r2,r7,hn,hb,hnm,r8,r9,kk⟩ aR h1 h2 h3;cases hx:pU P.S 1 k (32*P.N-k) with
  | none =>
   exfalso;have NV:=WR hx;have hall:=NR (p:=P.jF) hk fun m h1 h2=>by have:=NV m h1 (by omega);simp only[PH.jF,decide_eq_false_iff_not];omega
   rw[hall,hl] at hj;omega
  | some i =>
   obtain⟨i1,i2,i3,i4⟩:=WS hx;have JP:=fo (p:=P.jF) i1 (fun m h1 h2=>by have:=i4 m h1 h2;simp only[PH.jF,decide_eq_false_iff_not];omega) (by simp only[PH.jF,decide_eq_true_eq];omega);rw[hx] at r8 r9;simp only[PB,PD,PA,PC] at r8 r9;have w1:IntKind.i64.wrap (2*(i:Int))=2*i:=aU (by omega) (by omega);have jO:=Z2 (p:=P.jF) (k:=k);obtain⟨s3,e3,k3,c3,_⟩:=cA kk.ok (L:=[int (2*(i:Int))]) (n:=1) (e:=3) rfl;have hb3:=hb.aD k3 (by simp);obtain⟨v,s4,h4,b4,k4,m4,a4,c4,rfl⟩:=iT (X:=X) (t:=62) (e:=3) (N:=1) (B:=8) (z:=.int .i64 0) (x:=.slice (some ⟨s'.next,0,none⟩) 1 1) (k:=1) (new:=[int (2*(i:Int))]) (by kernel_rfl) (by kernel_rfl) rfl k3.ok (by omega) hb3 rfl (kT (by omega) (c3.bD (i:=0) (k:=1) (Nat.le_refl _))) rfl rfl (by omega) (by omega);simp only[fU,seval,r7,r8,w1];rw[e3];refine iX ?_ h4 ?_
   ·simp only[fU,seval]
   simp only[fU,seval];have hkk:aC [] s s4:=(kk.trans k3).step k4 fun g hg=>.inr (hs.fresh _ (hnm g hg));refine h1 _ _ ⟨i,a4,n+1,c4,by omega,by rw[JP,List.length_append,hl];rfl,?_,?_,?_,by omega,?_,?_,?_,hkk⟩
   ·simp only[fU,seval,r0]
   ·simp only[fU,seval,r2]
   ·simp only[fU,seval]
   ·rw[JP,List.map_append,List.map_append];exact b4
   ·intro b hb';rcases m4 b hb' with h | h
    ·exact hnm b h
    ·have:=kk.next;have:=k3.next;omega
   ·simp only[fU,seval,r8]
 ·rintro j a' s' hj ⟨i,a,n,c,hi,hl,r0,r2,r7,hn,hb,hnm,r8,kk⟩ aR h1;have H':=H.aL kk;have w1:IntKind.i64.wrap ((i:Int)+1)=((i+1:Nat):Int):=by rw[aU (by omega) (by omega)];rfl
  simp only[fU,seval,r0,r8,H'.l2,w1];refine aJ ?_ (Nu kk.ok H'.ts ((i+1:Nat):Int) 1 (by omega) fun s3 k3=>?_)
  ·simp only[fU,seval]
  rw[show (max ((i+1:Nat):Int) 0).toNat=i+1 by omega];simp only[fU,seval];refine h1 _ _ ⟨i+1,a,n,c,by omega,hl,?_,?_,?_,hn,hb.aD k3 (by simp),hnm,?_,?_,kk.trans k3⟩
  ·simp only[fU,seval,r0]
  ·simp only[fU,seval,r2]
  ·simp only[fU,seval,r7]
  ·simp only[fU,seval]
  ·simp only[fU,seval]
 ·rintro a' s' ⟨k,a,n,c,hk,hl,r0,r2,r7,hn,hb,hnm,r8,r9,kk⟩;have hall:mP P.jF (32*P.N)=mP P.jF k:=by
   cases hx:pU P.S 1 k (32*P.N-k) with
   | none =>
    have NV:=WR hx;exact NR (p:=P.jF) hk fun m h1 h2=>by have:=NV m h1 (by omega);simp only[PH.jF,decide_eq_false_iff_not];omega
   | some i =>
    exfalso;obtain⟨i1,i2,i3,i4⟩:=WS hx;have JP:=fo (p:=P.jF) i1 (fun m h1 h2=>by have:=i4 m h1 h2;simp only[PH.jF,decide_eq_false_iff_not];omega) (by simp only[PH.jF,decide_eq_true_eq];omega);have:=Di (p:=P.jF) (i:=32*P.N) (k:=i+1) (by omega);rw[JP,List.length_append,List.length_singleton] at this;omega
  refine yY _ _ (aH _ _ ?_);simp only[fU,seval,r7];refine hΦ s' a n c ?_ ?_ hnm kk
  ·unfold PH.all;rw[hall];exact hb
  ·unfold PH.all;rw[List.length_map];exact hn
 ·refine⟨0,none,0,0,Nat.zero_le _,rfl,?_,?_,?_,rfl,.nil,by simp[nameOf],?_,?_,k2⟩
  ·simp only[fU,seval]
  ·simp only[fU,seval]
  ·simp only[fU,seval]
  ·simp only[fU,seval]
  ·simp only[fU,seval]
theorem BY:type_of% (An @RX<|An @jW<|An @dF<|@dG):=An @RX<|An @jW<|An @dF<|@dG
theorem fe (hs:Ok s) (H:bS s h P) (hΦ:∀ s' a n c,bE s' 3 1 (.slice a n c) (P.all.map int)→n=P.all.length→(∀ b∈nameOf (.slice a n c),s.next≤b)→aC [] s s'→Φ (.slice a n c) s'):okF q X (KO kc) 62 [ptr h] s Φ:=by
 refine aV rfl I7 rfl (rs:=[.tmp 2]) rfl (N:=13) rfl rfl ?_;refine aA fun bB aF aZ=>?_;simp only[BY,seval];refine aF _ _ ?_;refine aA fun Ψ1 aE aK=>?_;refine aA fun Ψ2 aH bM=>?_;simp only[BY,seval];refine aJ ?_ (AN H ?_)
 ·simp only[BY,seval]
 try simp only[BY,seval]
 refine aH _ _ ?_;simp only[BY,seval];refine aE _ _ ?_;refine aA fun Ψ3 aM bN=>?_;simp only[BY,seval,H.l1];refine aJ ?_ (X5 hs H fun s' a n c h1 h2 h3 h4=>?_)
 ·simp only[BY,seval]
 try simp only[BY,seval]
 refine aM _ _ ?_;simp only[BY,seval];exact hΦ s' a n c h1 h2 h3 h4
end
end Go.Dust
