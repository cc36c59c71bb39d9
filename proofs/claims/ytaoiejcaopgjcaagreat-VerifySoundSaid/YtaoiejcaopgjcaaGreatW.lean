/- VerifySound walked in D, function by function, and its plain law (R1 R2 R3). -/
import Derived.Test.YtaoiejcaopgjcaaGreatV
set_option linter.unusedVariables false
set_option linter.unusedSimpArgs false
open Nat renaming reduceEqDiff → zA, reduceMul → zB, reduceAdd → zC, reduceBEq → zD
open Int renaming reduceEq → zE, reduceBEq → zF
namespace Go.Dust
open Go.Proofs
set_option maxRecDepth 100000
set_option maxHeartbeats 1000000
structure tS where
 k:Int
 m:Int
 i:Int
 deriving DecidableEq
abbrev rM (p:tS):Value:=.agg #[int p.k,int p.m,int p.i]
structure PR where
 ns:Nat
 ng:Nat
 va:Option Addr
 vn:Nat
 vc:Nat
 m:Nat
 sl:Nat→Int
 gl:Nat→Int
 q:List Int
structure bB (s:St) (r:Nat) (R:PR):Prop where
 c:Obj s r [int R.m,.slice (some ⟨R.ns,0,none⟩) (16*R.m) (16*R.m),.slice (some ⟨R.ng,0,none⟩) 16 16,.slice R.va R.vn R.vc]
 cs:Obj s R.ns (row (16*R.m) fun i=>int (R.sl i))
 cg:Obj s R.ng (row 16 fun i=>int (R.gl i))
 cq:kL s 3 1 (.slice R.va R.vn R.vc) (R.q.map int)
 nd:r≠R.ns∧r≠R.ng∧R.ns≠R.ng
 nq:∀ b∈nameOf (.slice R.va R.vn R.vc),b≠r∧b≠R.ns∧b≠R.ng
 m1:1≤R.m
 m4:R.m≤4
 ql:R.q.length≤64
 bs:∀ i,i64 (R.sl i)
 bg:∀ i,i64 (R.gl i)
 bq:∀ x∈R.q,i64 x
def PR.aU (r:Nat) (R:PR):List Nat:=[r,R.ns,R.ng]++nameOf (.slice R.va R.vn R.vc)
namespace bB
variable {F:List Nat} {s s':St} {r:Nat} {R:PR}
theorem aF (H:bB s r R) (k:aC F s s') (hF:∀ x∈R.aU r,x∉F):bB s' r R:=by
 obtain⟨c,cs,cg,cq,nd,nq,m1,m4,ql,bs,bg,bq⟩:=H
 unfold PR.aU at hF
 exact⟨c.aF k (hF _ (by simp)),cs.aF k (hF _ (by simp)),cg.aF k (hF _ (by simp)),cq.aF k (fun b hb=>hF b (List.mem_append_right _ hb)),nd,nq,m1,m4,ql,bs,bg,bq⟩
theorem aN (H:bB s r R) (k:aC [] s s'):bB s' r R:=H.aF k fun _ _=>by simp
theorem l0 (H:bB s r R):aI s.look ⟨r,0,none⟩=some (int R.m):=H.c.load rfl
theorem l1 (H:bB s r R):aI s.look ⟨r,1,none⟩=some (.slice (some ⟨R.ns,0,none⟩) (16*R.m) (16*R.m)):=H.c.load rfl
theorem l2 (H:bB s r R):aI s.look ⟨r,2,none⟩=some (.slice (some ⟨R.ng,0,none⟩) 16 16):=H.c.load rfl
theorem l3 (H:bB s r R):aI s.look ⟨r,3,none⟩=some (.slice R.va R.vn R.vc):=H.c.load rfl
theorem lq (H:bB s r R):R.vn=R.q.length:=by
 have:=H.cq.sl.len
 rw[List.length_map] at this;omega
end bB
def PR.has (R:PR) (p:tS):Bool:=if p.k=0∧0≤p.m∧p.m<R.m then decide (0≤p.i∧p.i<16) else if p.k=1∧p.m=0 then decide (0≤p.i∧p.i<16) else if p.k=2∧p.m=0 then decide (0≤p.i∧p.i<R.q.length) else false
def PR.addr (R:PR) (p:tS):Addr:=if p.k=0 then⟨R.ns,(p.m*16+p.i).toNat,none⟩ else if p.k=1 then⟨R.ng,p.i.toNat,none⟩ else match R.va with
 | some a=>a.add p.i.toNat
 | none=>⟨0,0,none⟩
def PR.get (R:PR) (p:tS):Int:=if p.k=0 then R.sl (p.m*16+p.i).toNat else if p.k=1 then R.gl p.i.toNat else R.q.getD p.i.toNat 0
section
variable {kc:Kc} {q:Bool} {s:St} {Φ:Value→St→Prop} {r:Nat} {R:PR}
theorem cu:type_of% (An @RX<|An @xz<|An @xu<|An @tH<|@bF):=An @RX<|An @xz<|An @xu<|An @tH<|@bF
theorem mK (H:bB s r R) (hΦ:Φ (.bool true) s):okF q X (KO kc) 159 [ptr r] s Φ:=by
 have hm:=H.m1
 have hp:((R.m:Nat):Int)>0:=by omega
 refine aG rfl fn_159 rfl (rs:=[.tmp 2]) rfl (N:=12) rfl rfl ?_
 refine aA fun Ψ0 hΨ0 hΨ0'=>?_
 simp only[cu,↓reduceIte,zA,reduceCtorEq,zE,zB,zC,zD,zF]
 refine hΨ0 _ _ ?_
 refine aA fun Ψ1 hΨ1 hΨ1'=>?_
 refine aH [(2,5)] (by kernel_rfl) fun O hO ΨR hR=>?_
 have y2:∀ a,aE O a 2=aM (a.aD 5):=hO (2,5) (by simp)
 simp only[cu,↓reduceIte,zA,reduceCtorEq,zE,zB,zC,zD,zF,y2,H.l0,hp,decide_true]
 refine hR _ _ (hΨ1 _ _ ?_)
 simp only[cu,↓reduceIte,zA,reduceCtorEq,zE,zB,zC,zD,zF]
 exact hΦ
theorem PL:type_of% (An @RX<|An @tH<|@bF):=An @RX<|An @tH<|@bF
theorem rP (H:bB s r R) (hΦ:Φ (int R.m) s):okF q X (KO kc) 67 [ptr r] s Φ:=by
 refine aG rfl fn_67 rfl (rs:=[.tmp 2]) rfl (N:=10) rfl rfl ?_
 refine aA fun Ψ0 hΨ0 hΨ0'=>?_
 simp only[PL,↓reduceIte,zA,reduceCtorEq,zE,zB,zC,zD,zF]
 refine hΨ0 _ _ ?_
 refine aA fun Ψ1 hΨ1 hΨ1'=>?_
 refine aA fun Ψ2 hΨ2 hΨ2'=>?_
 simp only[PL,↓reduceIte,zA,reduceCtorEq,zE,zB,zC,zD,zF]
 refine aB ?_ (mK H ?_)
 ·simp only[PL,↓reduceIte,zA,reduceCtorEq,zE,zB,zC,zD,zF]
 try simp only[PL,↓reduceIte,zA,reduceCtorEq,zE,zB,zC,zD,zF]
 refine hΨ2 _ _ ?_
 simp only[PL,↓reduceIte,zA,reduceCtorEq,zE,zB,zC,zD,zF]
 refine hΨ1 _ _ ?_
 simp only[PL,↓reduceIte,zA,reduceCtorEq,zE,zB,zC,zD,zF,H.l0]
 exact hΦ
theorem sZ:type_of% (An @RX<|An @lQ<|An @bF<|An @cO<|@dO):=An @RX<|An @lQ<|An @bF<|An @cO<|@dO
theorem EI (x:Nat) (p:tS) {a:Option Addr} {n c:Nat} (hx:aI s.look ⟨x,2,none⟩=some (int p.i)) (ha:∀ i,0≤i∧i<(n:Int)→∃ b off,a=some ⟨b,off,none⟩)
  (hΦ:Φ (.pointer (if 0≤p.i∧p.i<n then a.map (fun a=>a.add p.i.toNat) else none)) s):okF q X (KO kc) 254 [.slice a n c,ptr x] s Φ:=by
 refine aG rfl fn_254 rfl (rs:=[.tmp 3]) rfl (N:=18) rfl rfl ?_
 refine aA fun Ψ0 hΨ0 hΨ0'=>?_
 simp only[sZ,↓reduceIte,zA,reduceCtorEq,zE,zB,zC,zD,zF]
 refine hΨ0 _ _ ?_
 refine aA fun Ψ1 hΨ1 hΨ1'=>?_
 refine aA fun Ψ2 hΨ2 hΨ2'=>?_
 refine aH [(3,7)] (by kernel_rfl) fun O hO ΨR hR=>?_
 have y3:∀ a,aE O a 3=aM (a.aD 7):=hO (3,7) (by simp)
 by_cases h0:p.i<0
 ·rw[if_neg (by omega)] at hΦ
  simp only[sZ,↓reduceIte,zA,reduceCtorEq,zE,zB,zC,zD,zF,y3,hx,h0,decide_true,Nat.zero_add]
  refine hR _ _ (hΨ2 _ _ ?_)
  simp only[sZ,↓reduceIte,zA,reduceCtorEq,zE,zB,zC,zD,zF]
  refine hΨ1' _ _ _ (by simp) ?_
  simp only[sZ,↓reduceIte,zA,reduceCtorEq,zE,zB,zC,zD,zF]
  exact hΦ
 ·by_cases h1:p.i≥(n:Int)
  ·rw[if_neg (by omega)] at hΦ
   simp only[sZ,↓reduceIte,zA,reduceCtorEq,zE,zB,zC,zD,zF,y3,hx,h0,h1,decide_true,decide_false,Nat.zero_add]
   refine hR _ _ (hΨ2 _ _ ?_)
   simp only[sZ,↓reduceIte,zA,reduceCtorEq,zE,zB,zC,zD,zF]
   refine hΨ1' _ _ _ (by simp) ?_
   simp only[sZ,↓reduceIte,zA,reduceCtorEq,zE,zB,zC,zD,zF]
   exact hΦ
  ·have g1:0≤p.i:=by omega
   have g2:p.i<(n:Int):=by omega
   obtain⟨b,off,rfl⟩:=ha _ ⟨g1,g2⟩
   rw[if_pos ⟨g1,g2⟩] at hΦ
   simp only[sZ,↓reduceIte,zA,reduceCtorEq,zE,zB,zC,zD,zF,y3,hx,h0,h1,decide_false,Nat.zero_add]
   refine hR _ _ (hΨ2 _ _ ?_)
   simp only[sZ,↓reduceIte,zA,reduceCtorEq,zE,zB,zC,zD,zF]
   refine hΨ1 _ _ ?_
   simp only[sZ,↓reduceIte,zA,reduceCtorEq,zE,zB,zC,zD,zF,hx,g1,g2,and_self,Nat.mul_one,Nat.zero_add]
   exact hΦ
theorem eH:type_of% (An @RX<|An @iN<|An @bF<|An @oW<|An @tH<|An @BO<|An @cY<|An @BP<|@lV):=An @RX<|An @iN<|An @bF<|An @oW<|An @tH<|An @BO<|An @cY<|An @BP<|@lV
theorem zi (hs:Ok s) (H:bB s r R) (p:tS) (hΦ:∀ s',aC [] s s'→Φ (.pointer (if R.has p=true then some (R.addr p) else none)) s'):okF q X (KO kc) 223 [ptr r,rM p] s Φ:=by
 have hm4:=H.m4
 refine aG rfl fn_223 rfl (rs:=[.tmp 4]) rfl (N:=69) rfl rfl ?_
 refine aA fun Ψ0 hΨ0 hΨ0'=>?_
 simp only[eH,↓reduceIte,zA,reduceCtorEq,zE,zB,zC,zD,zF]
 obtain⟨s1,e1,k1,c1,n1⟩:=aT hs (L:=[int p.k,int p.m,int p.i]) (n:=3) (e:=118) rfl
 rw[e1]
 refine hΨ0 _ _ ?_
 have H1:=H.aN k1
 have l0:aI s1.look ⟨s.next,0,none⟩=some (int p.k):=c1.load rfl
 have l1:aI s1.look ⟨s.next,1,none⟩=some (int p.m):=c1.load rfl
 have l2:aI s1.look ⟨s.next,2,none⟩=some (int p.i):=c1.load rfl
 refine aA fun Ψ1 hΨ1 hΨ1'=>?_
 simp only[eH,↓reduceIte,zA,reduceCtorEq,zE,zB,zC,zD,zF]
 refine hΨ1 _ _ ?_
 refine aA fun Ψ2 hΨ2 hΨ2'=>?_
 refine aL fun Ψ3 hΨ3 hΨ3e hΨ3'=>?_
 refine aA fun Ψ4 hΨ4 hΨ4'=>?_
 refine aQ [] [] [(3,11),(8,16)] (by kernel_rfl) (by kernel_rfl) (by rfl) fun O hO ΨR hR=>?_
 have y3:∀ a,aE O a 3=aM (a.aD 11):=hO (3,11) (by simp)
 have y8:∀ a,aE O a 8=aM (a.aD 16):=hO (8,16) (by simp)
 by_cases hin:p.k=0∧0≤p.m∧p.m<(R.m:Int)
 ·obtain⟨h0,h1,h2⟩:=hin
  have h1:p.m≥0:=h1
  have e0:(p.k==0)=true:=by simpa using h0
  simp only[eH,↓reduceIte,zA,reduceCtorEq,zE,zB,zC,zD,zF,l0,l1,H1.l0,y3,y8,e0,h1,h2,decide_true,Nat.zero_add]
  refine hR _ _ (hΨ4 _ _ ?_)
  simp only[bE,RV,RG,↓reduceIte,zA,reduceCtorEq,zE,zB,zC,zD,zF]
  have ks:aC [] s (s1.skip 36):=k1.cB _
  have Hs:=H.aN ks
  have l0':aI (s1.skip 36).look ⟨s.next,1,none⟩=some (int p.m):=l1
  have l2':aI ((s1.skip 36).skip 30).look ⟨s.next,2,none⟩=some (int p.i):=l2
  rw[qU] at l0'
  obtain⟨m,hm⟩:∃ m:Nat,p.m=m:=⟨p.m.toNat,by omega⟩
  have w1:IntKind.i64.wrap (p.m*16)=((m*16:Nat):Int):=by rw[aR (by omega) (by omega)];omega
  have w2:IntKind.i64.wrap (p.m+1)=p.m+1:=aR (by omega) (by omega)
  have w3:IntKind.i64.wrap ((p.m+1)*16)=((m*16+16:Nat):Int):=by rw[aR (by omega) (by omega)];omega
  have e3:=LP (X:=X) (H:=s1.look) (t:=62) (e:=3) (N:=1) (b:=R.ns) (off:=0) (n:=16*R.m) (c:=16*R.m) (l:=m*16) (h:=m*16+16) (by kernel_rfl) (by kernel_rfl) H1.cs.isCells (by omega) (by omega) (by omega)
  have hl1:aI s1.look ⟨r,1,none⟩=some (.slice (some ⟨R.ns,0,none⟩) (16*R.m) (16*R.m)):=H1.l1
  refine aA fun Ψ5 hΨ5 hΨ5'=>?_
  refine aQ [] [] [] (by kernel_rfl) (by kernel_rfl) (by rfl) fun O hO ΨR hR=>?_
  simp only[eH,↓reduceIte,zA,reduceCtorEq,zE,zB,zC,zD,zF,l1,hl1,w1,w2,w3,e3,Nat.zero_add]
  refine ba (fi:=#[]) (ca:=#[ptr s.next]) ?_ ?_ (EI s.next p (a:=some ⟨R.ns,m*16,none⟩) (n:=16) (c:=16*R.m-m*16) l2' (fun i hi=>⟨_,_,rfl⟩) ?_)
  ·simp only[eH,↓reduceIte,zA,reduceCtorEq,zE,zB,zC,zD,zF]
  ·simp only[eH,↓reduceIte,zA,reduceCtorEq,zE,zB,zC,zD,zF,Nat.mul_one,Nat.zero_add,Nat.add_sub_cancel_left]
  simp only[eH,↓reduceIte,zA,reduceCtorEq,zE,zB,zC,zD,zF]
  refine hR _ _ (hΨ5 _ _ ?_)
  simp only[eH,↓reduceIte,zA,reduceCtorEq,zE,zB,zC,zD,zF]
  refine hΨ3' _ _ _ (by simp) (by simp) (hΨ2' _ _ _ (by simp) ?_)
  simp only[eH,↓reduceIte,zA,reduceCtorEq,zE,zB,zC,zD,zF]
  have:=hΦ _ (ks.cB 30)
  have hh:R.has p=decide (0≤p.i∧p.i<16):=by unfold PR.has;rw[if_pos ⟨h0,h1,h2⟩]
  have ha:R.addr p=⟨R.ns,(p.m*16+p.i).toNat,none⟩:=by unfold PR.addr;rw[if_pos h0]
  rw[hh,ha] at this
  by_cases hi:0≤p.i∧p.i<16
  ·rw[decide_eq_true hi,if_pos rfl] at this
   rw[if_pos (by omega)]
   simp only[Option.map,aJ]
   rw[show (p.m*16+p.i).toNat=m*16+p.i.toNat by omega] at this
   exact this
  ·rw[decide_eq_false hi,if_neg (by simp)] at this
   rw[if_neg (by omega)]
   exact this
 ·rcases(show p.k≠0∨(p.k=0∧¬ p.m≥0)∨(p.k=0∧p.m≥0∧¬ p.m<(R.m:Int)) by omega) with h0 | ⟨h0,h1⟩ | ⟨h0,h1,h2⟩
  have e0:(p.k==0)=false:=by simpa using h0
  simp only[eH,↓reduceIte,zA,reduceCtorEq,zE,zB,zC,zD,zF,l0,l1,H1.l0,y3,y8,e0]
  rotate_left
  have e0:(p.k==0)=true:=by simpa using h0
  simp only[eH,↓reduceIte,zA,reduceCtorEq,zE,zB,zC,zD,zF,l0,l1,H1.l0,y3,y8,e0,h1,decide_false]
  rotate_left
  have e0:(p.k==0)=true:=by simpa using h0
  simp only[eH,↓reduceIte,zA,reduceCtorEq,zE,zB,zC,zD,zF,l0,l1,H1.l0,y3,y8,e0,h1,h2,decide_true,decide_false,Nat.zero_add]
  rotate_left
  all_goals
   refine hR _ _ (hΨ4 _ _ ?_)
   simp only[bE,RV,RG,↓reduceIte,zA,reduceCtorEq,zE,zB,zC,zD,zF]
   have ks:aC [] s (s1.skip 36):=k1.cB _
   have hh:R.has p=(if p.k=1∧p.m=0 then decide (0≤p.i∧p.i<16) else if p.k=2∧p.m=0 then decide (0≤p.i∧p.i<R.q.length) else false):=by unfold PR.has;rw[if_neg hin]
   have l0':aI (s1.skip 36).look ⟨s.next,0,none⟩=some (int p.k):=l0
   have l1':aI (s1.skip 36).look ⟨s.next,1,none⟩=some (int p.m):=l1
   have l2':aI (s1.skip 36).look ⟨s.next,2,none⟩=some (int p.i):=l2
   have Hs:=H.aN ks
   generalize s1.skip 36=t at *
   have H0:=H
   clear e1 k1 c1 n1 l0 l1 l2 H1 H hR hO
   refine aA fun Ψ5 hΨ5 hΨ5'=>?_
   refine aH [(3,43)] (by kernel_rfl) fun O hO ΨR hR=>?_
   have y3:∀ a,aE O a 3=aM (a.aD 43):=hO (3,43) (by simp)
   by_cases k1:p.k=1∧p.m=0
   ·have f1:(p.k==1)=true:=by simpa using k1.1
    have f2:(p.m==0)=true:=by simpa using k1.2
    rw[if_pos k1] at hh
    have ha:R.addr p=⟨R.ng,p.i.toNat,none⟩:=by unfold PR.addr;rw[if_neg (by omega),if_pos k1.1]
    simp only[eH,↓reduceIte,zA,reduceCtorEq,zE,zB,zC,zD,zF,l0',l1',f1,f2,y3]
    refine hR _ _ (hΨ5 _ _ ?_)
    simp only[bE,RV,RG,↓reduceIte,zA,reduceCtorEq,zE,zB,zC,zD,zF]
    refine aA fun Ψ6 hΨ6 hΨ6'=>?_
    simp only[eH,↓reduceIte,zA,reduceCtorEq,zE,zB,zC,zD,zF,Hs.l2]
    refine oD (fi:=#[]) (ca:=#[ptr s.next]) ?_ ?_ (EI s.next p (a:=some ⟨R.ng,0,none⟩) (n:=16) (c:=16) l2' (fun i hi=>⟨_,_,rfl⟩) ?_)
    ·simp only[eH,↓reduceIte,zA,reduceCtorEq,zE,zB,zC,zD,zF]
    ·simp only[eH,↓reduceIte,zA,reduceCtorEq,zE,zB,zC,zD,zF]
    try simp only[eH,↓reduceIte,zA,reduceCtorEq,zE,zB,zC,zD,zF]
    refine hΨ6 _ _ ?_
    simp only[eH,↓reduceIte,zA,reduceCtorEq,zE,zB,zC,zD,zF]
    refine hΨ3' _ _ _ (by simp) (by simp) (hΨ2' _ _ _ (by simp) ?_)
    simp only[eH,↓reduceIte,zA,reduceCtorEq,zE,zB,zC,zD,zF]
    have:=hΦ _ ks
    rw[hh,ha] at this
    by_cases hi:0≤p.i∧p.i<16
    ·rw[decide_eq_true hi,if_pos rfl] at this
     rw[if_pos (by omega)]
     simp only[Option.map,aJ,Nat.zero_add]
     exact this
    ·rw[decide_eq_false hi,if_neg (by simp)] at this
     rw[if_neg (by omega)]
     exact this
   ·rw[if_neg k1] at hh
    rcases(show p.k≠1∨(p.k=1∧p.m≠0) by omega) with g0 | ⟨g0,g1⟩
    have f1:(p.k==1)=false:=by simpa using g0
    simp only[eH,↓reduceIte,zA,reduceCtorEq,zE,zB,zC,zD,zF,l0',l1',f1,y3]
    rotate_left
    have f1:(p.k==1)=true:=by simpa using g0
    have f2:(p.m==0)=false:=by simpa using g1
    simp only[eH,↓reduceIte,zA,reduceCtorEq,zE,zB,zC,zD,zF,l0',l1',f1,f2,y3]
    all_goals
     refine hR _ _ (hΨ5 _ _ ?_)
     simp only[bE,RV,RG,↓reduceIte,zA,reduceCtorEq,zE,zB,zC,zD,zF]
     refine aA fun Ψ7 hΨ7 hΨ7'=>?_
     refine aH [(3,58)] (by kernel_rfl) fun O hO ΨR hR=>?_
     have y3:∀ a,aE O a 3=aM (a.aD 58):=hO (3,58) (by simp)
     by_cases k2:p.k=2∧p.m=0
     ·have f1:(p.k==2)=true:=by simpa using k2.1
      have f2:(p.m==0)=true:=by simpa using k2.2
      rw[if_pos k2] at hh
      simp only[eH,↓reduceIte,zA,reduceCtorEq,zE,zB,zC,zD,zF,l0',l1',f1,f2,y3]
      refine hR _ _ (hΨ7 _ _ ?_)
      simp only[bE,RV,RG,↓reduceIte,zA,reduceCtorEq,zE,zB,zC,zD,zF]
      refine aA fun Ψ8 hΨ8 hΨ8'=>?_
      simp only[eH,↓reduceIte,zA,reduceCtorEq,zE,zB,zC,zD,zF,Hs.l3]
      refine oD (fi:=#[]) (ca:=#[ptr s.next]) ?_ ?_ (EI s.next p (a:=R.va) (n:=R.vn) (c:=R.vc) l2' (fun i hi=>Hs.cq.sl.addr (by omega)) ?_)
      ·simp only[eH,↓reduceIte,zA,reduceCtorEq,zE,zB,zC,zD,zF]
      ·simp only[eH,↓reduceIte,zA,reduceCtorEq,zE,zB,zC,zD,zF]
      try simp only[eH,↓reduceIte,zA,reduceCtorEq,zE,zB,zC,zD,zF]
      refine hΨ8 _ _ ?_
      simp only[eH,↓reduceIte,zA,reduceCtorEq,zE,zB,zC,zD,zF]
      refine hΨ3' _ _ _ (by simp) (by simp) (hΨ2' _ _ _ (by simp) ?_)
      simp only[eH,↓reduceIte,zA,reduceCtorEq,zE,zB,zC,zD,zF]
      have:=hΦ _ ks
      rw[hh] at this
      have hq:=H0.lq
      by_cases hi:0≤p.i∧p.i<R.q.length
      ·rw[decide_eq_true hi,if_pos rfl] at this
       rw[if_pos (by omega)]
       obtain⟨b,off,e⟩:=Hs.cq.sl.addr (show 0<R.vn by omega)
       unfold PR.addr at this
       rw[if_neg (by omega),if_neg (by omega),e] at this
       rw[e]
       exact this
      ·rw[decide_eq_false hi,if_neg (by simp)] at this
       rw[if_neg (by omega)]
       exact this
     ·rw[if_neg k2] at hh
      rcases(show p.k≠2∨(p.k=2∧p.m≠0) by omega) with g0 | ⟨g0,g1⟩
      have f1:(p.k==2)=false:=by simpa using g0
      simp only[eH,↓reduceIte,zA,reduceCtorEq,zE,zB,zC,zD,zF,l0',l1',f1,y3]
      rotate_left
      have f1:(p.k==2)=true:=by simpa using g0
      have f2:(p.m==0)=false:=by simpa using g1
      simp only[eH,↓reduceIte,zA,reduceCtorEq,zE,zB,zC,zD,zF,l0',l1',f1,f2,y3]
      all_goals
       refine hR _ _ (hΨ7 _ _ ?_)
       simp only[eH,↓reduceIte,zA,reduceCtorEq,zE,zB,zC,zD,zF]
       refine hΨ3 _ _ ?_
       refine hΨ2 _ _ ?_
       simp only[eH,↓reduceIte,zA,reduceCtorEq,zE,zB,zC,zD,zF]
       have:=hΦ _ ks
       rw[hh,if_neg (by simp)] at this
       exact this
end
open Go.Proofs
set_option maxRecDepth 100000
set_option maxHeartbeats 1000000
theorem kL.dU {s:St} {e:TypeId} {b off n c i:Nat} {L:List Value} {v:Value} (h:kL s e 1 (.slice (some ⟨b,off,none⟩) n c) L) (hs:Ok s) (hi:i<L.length) (h1:kZ v=true) :
  ∃ s',bJ s ⟨b,off+i,none⟩ [v]=some s'∧kL s' e 1 (.slice (some ⟨b,off,none⟩) n c) (L.set i v)∧aC [b] s s':=by
 cases h with
 | @own b off n c L0 L h hc hn hL hl =>
  obtain⟨s',h2,h3,h4⟩:=h.dU hs (i:=off+i) (v:=v) (by omega) h1
  refine⟨s',h2,.own h3 (by rw[List.length_set];exact hc) hn (by rw[List.length_set];exact hL) (fun j hj=>?_),h4⟩
  rw[List.length_set] at hj
  rw[List.getElem?_set,List.getElem?_set,hl j hj]
  by_cases hij:i=j
  ·subst hij
   rw[if_pos rfl,if_pos rfl,if_pos (show off+i<L0.length by omega),if_pos hj]
  ·rw[if_neg hij,if_neg (by omega)]
def PR.set (R:PR) (p:tS) (v:Int):PR:=if p.k=0 then {R with sl:=eP R.sl (p.m*16+p.i).toNat v} else if p.k=1 then {R with gl:=eP R.gl p.i.toNat v} else {R with q:=R.q.set p.i.toNat v}
section
variable {kc:Kc} {q:Bool} {s:St} {Φ:Value→St→Prop} {r:Nat} {R:PR}
theorem bB.set (hs:Ok s) (H:bB s r R) {p:tS} {v:Int} (hp:R.has p=true) (hv:i64 v):∃ s',bJ s (R.addr p) [int v]=some s'∧bB s' r (R.set p v)∧aC (R.aU r) s s':=by
 obtain⟨n1,n2,n3⟩:=H.nd
 have hnq:=H.nq
 unfold PR.has at hp
 unfold PR.addr PR.set
 by_cases hk:p.k=0
 ·rw[if_pos hk,if_pos hk]
  have hin:p.k=0∧0≤p.m∧p.m<(R.m:Int):=by
   refine Classical.byContradiction fun hn=>?_
   rw[if_neg hn,if_neg (by omega),if_neg (by omega)] at hp
   cases hp
  rw[if_pos hin] at hp
  have hi:=of_decide_eq_true hp
  obtain⟨e,hc⟩:=H.cs
  obtain⟨s',h2,h3,h4⟩:=hc.dU hs (i:=(p.m*16+p.i).toNat) (v:=int v) (by rw[bI];omega) rfl
  rw[yQ (by omega)] at h3
  refine⟨s',h2,?_,h4.mono fun x hx=>?_⟩
  ·refine⟨H.c.aF h4 (by simpa using n1),⟨e,?_⟩,H.cg.aF h4 (by simpa using Ne.symm n3),H.cq.aF h4 (fun b hb=>by simpa using (hnq b hb).2.1),H.nd,H.nq,H.m1,H.m4,H.ql,fun i=>?_,H.bg,H.bq⟩
   ·rw[show (fun i=>int (eP R.sl (p.m*16+p.i).toNat v i))=fun j=>if j=(p.m*16+p.i).toNat then int v else int (R.sl j) from funext fun j=>by unfold eP;split <;> rfl]
    exact h3
   ·show i64 (eP _ _ _ _)
    unfold eP;split
    ·exact hv
    ·exact H.bs i
  ·unfold PR.aU;simp at hx;subst hx;simp
 ·rw[if_neg hk,if_neg hk]
  rw[if_neg (fun h=>hk h.1)] at hp
  by_cases hk1:p.k=1
  ·rw[if_pos hk1,if_pos hk1]
   have hin:p.k=1∧p.m=0:=by
    refine Classical.byContradiction fun hn=>?_
    rw[if_neg hn,if_neg (by omega)] at hp
    cases hp
   rw[if_pos hin] at hp
   have hi:=of_decide_eq_true hp
   obtain⟨e,hc⟩:=H.cg
   obtain⟨s',h2,h3,h4⟩:=hc.dU hs (i:=p.i.toNat) (v:=int v) (by rw[bI];omega) rfl
   rw[yQ (by omega)] at h3
   refine⟨s',h2,?_,h4.mono fun x hx=>?_⟩
   ·refine⟨H.c.aF h4 (by simpa using n2),H.cs.aF h4 (by simpa using n3),⟨e,?_⟩,H.cq.aF h4 (fun b hb=>by simpa using (hnq b hb).2.2),H.nd,H.nq,H.m1,H.m4,H.ql,H.bs,fun i=>?_,H.bq⟩
    ·rw[show (fun i=>int (eP R.gl p.i.toNat v i))=fun j=>if j=p.i.toNat then int v else int (R.gl j) from funext fun j=>by unfold eP;split <;> rfl]
     exact h3
    ·show i64 (eP _ _ _ _)
     unfold eP;split
     ·exact hv
     ·exact H.bg i
   ·unfold PR.aU;simp at hx;subst hx;simp
  ·rw[if_neg hk1,if_neg hk1]
   have hin:p.k=2∧p.m=0:=by
    refine Classical.byContradiction fun hn=>?_
    rw[if_neg (by omega),if_neg hn] at hp
    cases hp
   rw[if_neg (by omega),if_pos hin] at hp
   have hi:=of_decide_eq_true hp
   have hq:=H.lq
   obtain⟨b,off,e⟩:=H.cq.sl.addr (show 0<R.vn by omega)
   have hb:=H.cq
   rw[e] at hb hnq
   obtain⟨s',h2,h3,h4⟩:=hb.dU hs (i:=p.i.toNat) (v:=int v) (by rw[List.length_map];omega) rfl
   have hx:=hnq b (by simp[nameOf])
   refine⟨s',by rw[e];simp only[aJ];exact h2,?_,h4.mono fun x hx=>?_⟩
   ·refine⟨H.c.aF h4 (by simpa using Ne.symm hx.1),H.cs.aF h4 (by simpa using Ne.symm hx.2.1),H.cg.aF h4 (by simpa using Ne.symm hx.2.2),?_,H.nd,H.nq,H.m1,H.m4,by show (R.q.set _ _).length≤64;rw[List.length_set];exact H.ql,H.bs,H.bg,fun x hx=>?_⟩
    ·show kL s' _ _ (.slice R.va R.vn R.vc) ((R.q.set _ _).map int)
     rw[List.map_set,e];exact h3
    ·rcases List.mem_or_eq_of_mem_set hx with h | h
     ·exact H.bq x h
     ·subst h;exact hv
   ·unfold PR.aU;rw[e];simp at hx;subst hx;simp[nameOf]
theorem bB.get (H:bB s r R) {p:tS} (hp:R.has p=true):aI s.look (R.addr p)=some (int (R.get p)):=by
 unfold PR.has at hp
 unfold PR.addr PR.get
 by_cases hk:p.k=0
 ·rw[if_pos hk,if_pos hk]
  have hin:p.k=0∧0≤p.m∧p.m<(R.m:Int):=by
   refine Classical.byContradiction fun hn=>?_
   rw[if_neg hn,if_neg (by omega),if_neg (by omega)] at hp
   cases hp
  rw[if_pos hin] at hp
  have hi:=of_decide_eq_true hp
  exact H.cs.load (fB _ (by omega))
 ·rw[if_neg hk,if_neg hk]
  rw[if_neg (fun h=>hk h.1)] at hp
  by_cases hk1:p.k=1
  ·rw[if_pos hk1,if_pos hk1]
   have hin:p.k=1∧p.m=0:=by
    refine Classical.byContradiction fun hn=>?_
    rw[if_neg hn,if_neg (by omega)] at hp
    cases hp
   rw[if_pos hin] at hp
   have hi:=of_decide_eq_true hp
   exact H.cg.load (fB _ (by omega))
  ·rw[if_neg hk1,if_neg hk1]
   have hin:p.k=2∧p.m=0:=by
    refine Classical.byContradiction fun hn=>?_
    rw[if_neg (by omega),if_neg hn] at hp
    cases hp
   rw[if_neg (by omega),if_pos hin] at hp
   have hi:=of_decide_eq_true hp
   have hq:=H.lq
   obtain⟨b,off,e⟩:=H.cq.sl.addr (show 0<R.vn by omega)
   have hb:=H.cq.sl
   rw[e] at hb ⊢
   simp only[aJ]
   refine hb.load (i:=p.i.toNat) ?_
   rw[List.getElem?_map,List.getD_eq_getElem?_getD,List.getElem?_eq_getElem (show p.i.toNat<R.q.length by omega)]
   rfl
theorem nS:type_of% (An @RX<|An @iH<|An @fj<|@fh):=An @RX<|An @iH<|An @fj<|@fh
theorem GA (hs:Ok s) (H:bB s r R) (p:tS) (hΦ:∀ s',aC [] s s'→Φ (.tuple #[.pointer (if R.has p=true then some (R.addr p) else none),int (if R.has p=true then 0 else 1)]) s'):okF q X (KO kc) 161 [ptr r,rM p] s Φ:=by
 refine aG rfl fn_161 rfl (rs:=[.tmp 4,.tmp 5]) rfl (N:=16) rfl rfl ?_
 refine aA fun Ψ0 hΨ0 hΨ0'=>?_
 simp only[nS,↓reduceIte,zA,reduceCtorEq,zE,zB,zC,zD,zF]
 obtain⟨s1,e1,k1,c1,n1⟩:=aT hs (L:=[int p.k,int p.m,int p.i]) (n:=3) (e:=118) rfl
 rw[e1]
 refine hΨ0 _ _ ?_
 have H1:=H.aN k1
 have lp:aS s1.look ⟨s.next,0,none⟩ 3=some [int p.k,int p.m,int p.i]:=c1.aS (i:=0) (k:=3) (Nat.le_refl _)
 refine aA fun Ψ1 hΨ1 hΨ1'=>?_
 refine aA fun Ψ2 hΨ2 hΨ2'=>?_
 simp only[nS,↓reduceIte,zA,reduceCtorEq,zE,zB,zC,zD,zF]
 refine aB ?_ (mK H1 ?_)
 ·simp only[nS,↓reduceIte,zA,reduceCtorEq,zE,zB,zC,zD,zF]
 try simp only[nS,↓reduceIte,zA,reduceCtorEq,zE,zB,zC,zD,zF]
 refine hΨ2 _ _ ?_
 simp only[nS,↓reduceIte,zA,reduceCtorEq,zE,zB,zC,zD,zF]
 refine hΨ1 _ _ ?_
 refine aA fun Ψ3 hΨ3 hΨ3'=>?_
 simp only[nS,↓reduceIte,zA,reduceCtorEq,zE,zB,zC,zD,zF,lp]
 refine aB ?_ (zi k1.ok H1 p fun s2 k2=>?_)
 ·simp only[nS,↓reduceIte,zA,reduceCtorEq,zE,zB,zC,zD,zF]
 have:=hΦ _ (k1.trans k2)
 try simp only[nS,↓reduceIte,zA,reduceCtorEq,zE,zB,zC,zD,zF]
 refine hΨ3 _ _ ?_
 refine aA fun Ψ4 hΨ4 hΨ4'=>?_
 refine aA fun Ψ5 hΨ5 hΨ5'=>?_
 cases hh:R.has p with
 | false =>
  rw[hh] at this
  simp only[nS,↓reduceIte,zA,reduceCtorEq,zE,zB,zC,zD,zF]
  refine hΨ5 _ _ ?_
  simp only[nS,↓reduceIte,zA,reduceCtorEq,zE,zB,zC,zD,zF]
  refine hΨ4' _ _ _ (by simp) ?_
  simp only[nS,↓reduceIte,zA,reduceCtorEq,zE,zB,zC,zD,zF]
  exact this
 | true =>
  rw[hh] at this
  simp only[nS,↓reduceIte,zA,reduceCtorEq,zE,zB,zC,zD,zF]
  refine hΨ5 _ _ ?_
  simp only[nS,↓reduceIte,zA,reduceCtorEq,zE,zB,zC,zD,zF]
  refine hΨ4 _ _ ?_
  simp only[nS,↓reduceIte,zA,reduceCtorEq,zE,zB,zC,zD,zF]
  exact this
theorem xB:type_of% (An @RX<|An @iH<|@bF):=An @RX<|An @iH<|@bF
theorem yN (hs:Ok s) (H:bB s r R) (p:tS) (hΦ:∀ s',aC [] s s'→Φ (.tuple #[int (if R.has p=true then R.get p else 0),int (if R.has p=true then 0 else 1)]) s'):okF q X (KO kc) 69 [ptr r,rM p] s Φ:=by
 refine aG rfl fn_69 rfl (rs:=[.tmp 4,.tmp 5]) rfl (N:=20) rfl rfl ?_
 refine aA fun Ψ0 hΨ0 hΨ0'=>?_
 simp only[xB,↓reduceIte,zA,reduceCtorEq,zE,zB,zC,zD,zF]
 obtain⟨s1,e1,k1,c1,n1⟩:=aT hs (L:=[int p.k,int p.m,int p.i]) (n:=3) (e:=118) rfl
 rw[e1]
 refine hΨ0 _ _ ?_
 have H1:=H.aN k1
 have lp:aS s1.look ⟨s.next,0,none⟩ 3=some [int p.k,int p.m,int p.i]:=c1.aS (i:=0) (k:=3) (Nat.le_refl _)
 refine aA fun Ψ1 hΨ1 hΨ1'=>?_
 simp only[xB,↓reduceIte,zA,reduceCtorEq,zE,zB,zC,zD,zF,lp]
 refine aB ?_ (GA k1.ok H1 p fun s2 k2=>?_)
 ·simp only[xB,↓reduceIte,zA,reduceCtorEq,zE,zB,zC,zD,zF]
 have:=hΦ _ (k1.trans k2)
 have H2:=H1.aN k2
 cases hh:R.has p with
 | false =>
  rw[hh] at this
  try simp only[xB,↓reduceIte,zA,reduceCtorEq,zE,zB,zC,zD,zF]
  refine hΨ1 _ _ ?_
  refine aA fun Ψ4 hΨ4 hΨ4'=>?_
  refine aA fun Ψ5 hΨ5 hΨ5'=>?_
  simp only[xB,↓reduceIte,zA,reduceCtorEq,zE,zB,zC,zD,zF]
  refine hΨ5 _ _ ?_
  simp only[xB,↓reduceIte,zA,reduceCtorEq,zE,zB,zC,zD,zF]
  refine hΨ4' _ _ _ (by simp) ?_
  simp only[xB,↓reduceIte,zA,reduceCtorEq,zE,zB,zC,zD,zF]
  exact this
 | true =>
  rw[hh] at this
  have l:=H2.get hh
  try simp only[xB,↓reduceIte,zA,reduceCtorEq,zE,zB,zC,zD,zF]
  refine hΨ1 _ _ ?_
  refine aA fun Ψ4 hΨ4 hΨ4'=>?_
  refine aA fun Ψ5 hΨ5 hΨ5'=>?_
  simp only[xB,↓reduceIte,zA,reduceCtorEq,zE,zB,zC,zD,zF]
  refine hΨ5 _ _ ?_
  simp only[xB,↓reduceIte,zA,reduceCtorEq,zE,zB,zC,zD,zF]
  refine hΨ4 _ _ ?_
  simp only[xB,↓reduceIte,zA,reduceCtorEq,zE,zB,zC,zD,zF,l]
  exact this
end
open Go.Proofs
set_option maxRecDepth 100000
set_option maxHeartbeats 1000000
theorem TU {X:Env} {H:aY} {t e n c:Nat} {a:Option Addr} (hd:((X.ty t).map fun i=>i.desc)=some (.slice e)):binop X H .eql t (.slice a n c) (.slice none 0 0)=some (.bool a.isNone):=by
 cases hi:X.ty t with
 | none=>rw[hi] at hd;cases hd
 | some i =>
  rw[hi] at hd
  have hd':i.desc=.slice e:=by simpa using hd
  cases a <;> simp[binop,mW,hi,hd']
theorem Sl.first {s:St} {N n c:Nat} {a:Option Addr} {L:List Value} (h:Sl s N (.slice a n c) L):iS s.look N n (.slice a n c)=some L:=by
 cases h with
 | nil=>cases a <;> simp[iS]
 | @cells b off n c L hL hl =>
  simp only[iS]
  by_cases hz:n*N=0
  ·rw[if_pos hz,List.length_eq_zero_iff.1 (show L.length=0 by omega)]
  ·rw[if_neg hz]
   have:=(Sl.cells hL hl:Sl s N (.slice (some ⟨b,off,none⟩) n c) L).aS (i:=0) (k:=n*N) (by omega) (by omega)
   rw[List.drop_zero,List.take_of_length_le (by omega)] at this
   exact this
section
variable {kc:Kc} {q:Bool} {s:St} {Φ:Value→St→Prop} {r:Nat} {R:PR}
theorem kK:type_of% (An @RX<|An @iH<|An @iN<|An @bF<|@rV):=An @RX<|An @iH<|An @iN<|An @bF<|@rV
theorem qh (hs:Ok s) (H:bB s r R) (p:tS) (v:Int) (hv:i64 v) (hΦ:∀ s',bB s' r (if R.has p=true∧¬ (v<0∨(v=0∧p.k=2)) then R.set p v else R)→aC (R.aU r) s s'→Φ (int (if R.has p=true∧¬ (v<0∨(v=0∧p.k=2)) then 0 else 1)) s'):okF q X (KO kc) 84 [ptr r,rM p,int v] s Φ:=by
 refine aG rfl fn_84 rfl (rs:=[.tmp 6]) rfl (N:=32) rfl rfl ?_
 refine aA fun Ψ0 hΨ0 hΨ0'=>?_
 simp only[kK,↓reduceIte,zA,reduceCtorEq,zE,zB,zC,zD,zF]
 obtain⟨s1,e1,k1,c1,n1⟩:=aT hs (L:=[int p.k,int p.m,int p.i]) (n:=3) (e:=118) rfl
 rw[e1]
 refine hΨ0 _ _ ?_
 have H1:=H.aN k1
 have lp:aS s1.look ⟨s.next,0,none⟩ 3=some [int p.k,int p.m,int p.i]:=c1.aS (i:=0) (k:=3) (Nat.le_refl _)
 refine aA fun Ψ1 hΨ1 hΨ1'=>?_
 simp only[kK,↓reduceIte,zA,reduceCtorEq,zE,zB,zC,zD,zF,lp]
 refine aB ?_ (GA k1.ok H1 p fun s2 k2=>?_)
 ·simp only[kK,↓reduceIte,zA,reduceCtorEq,zE,zB,zC,zD,zF]
 have k02:=k1.trans k2
 have H2:=H1.aN k2
 have c2:=c1.aF k2 (by simp)
 have l0:aI s2.look ⟨s.next,0,none⟩=some (int p.k):=c2.load rfl
 cases hh:R.has p with
 | false =>
  rw[hh] at hΦ
  have:=hΦ _ H2 k02.any
  try simp only[kK,↓reduceIte,zA,reduceCtorEq,zE,zB,zC,zD,zF]
  refine hΨ1 _ _ ?_
  refine aA fun Ψ4 hΨ4 hΨ4'=>?_
  refine aA fun Ψ5 hΨ5 hΨ5'=>?_
  simp only[kK,↓reduceIte,zA,reduceCtorEq,zE,zB,zC,zD,zF]
  refine hΨ5 _ _ ?_
  simp only[kK,↓reduceIte,zA,reduceCtorEq,zE,zB,zC,zD,zF]
  refine hΨ4' _ _ _ (by simp) ?_
  simp only[kK,↓reduceIte,zA,reduceCtorEq,zE,zB,zC,zD,zF]
  exact this
 | true =>
  rw[hh] at hΦ
  try simp only[kK,↓reduceIte,zA,reduceCtorEq,zE,zB,zC,zD,zF]
  refine hΨ1 _ _ ?_
  refine aA fun Ψ4 hΨ4 hΨ4'=>?_
  refine aA fun Ψ5 hΨ5 hΨ5'=>?_
  simp only[kK,↓reduceIte,zA,reduceCtorEq,zE,zB,zC,zD,zF]
  refine hΨ5 _ _ ?_
  simp only[kK,↓reduceIte,zA,reduceCtorEq,zE,zB,zC,zD,zF]
  refine hΨ4 _ _ ?_
  refine aA fun Ψ6 hΨ6 hΨ6'=>?_
  refine aA fun Ψ7 hΨ7 hΨ7'=>?_
  refine aH [(2,20),(5,23)] (by kernel_rfl) fun O hO ΨR hR=>?_
  have y2:∀ a,aE O a 2=aM (a.aD 20):=hO (2,20) (by simp)
  have y5:∀ a,aE O a 5=aM (a.aD 23):=hO (5,23) (by simp)
  by_cases h0:v<0
  ·rw[if_neg (by simp[h0]),if_neg (by simp[h0])] at hΦ
   simp only[kK,↓reduceIte,zA,reduceCtorEq,zE,zB,zC,zD,zF,y2,y5,h0,decide_true]
   refine hR _ _ (hΨ7 _ _ ?_)
   simp only[kK,↓reduceIte,zA,reduceCtorEq,zE,zB,zC,zD,zF]
   refine hΨ6' _ _ _ (by simp) ?_
   simp only[kK,↓reduceIte,zA,reduceCtorEq,zE,zB,zC,zD,zF]
   exact hΦ _ H2 k02.any
  ·by_cases h1:v=0
   ·have e1:(v==0)=true:=by simpa using h1
    by_cases h2:p.k=2
    ·have e2:(p.k==2)=true:=by simpa using h2
     rw[if_neg (by simp[h1,h2]),if_neg (by simp[h1,h2])] at hΦ
     simp only[kK,↓reduceIte,zA,reduceCtorEq,zE,zB,zC,zD,zF,y2,y5,h0,decide_false,e1,l0,e2]
     refine hR _ _ (hΨ7 _ _ ?_)
     simp only[kK,↓reduceIte,zA,reduceCtorEq,zE,zB,zC,zD,zF]
     refine hΨ6' _ _ _ (by simp) ?_
     simp only[kK,↓reduceIte,zA,reduceCtorEq,zE,zB,zC,zD,zF]
     exact hΦ _ H2 k02.any
    ·have e2:(p.k==2)=false:=by simpa using h2
     have hn:R.has p=true∧¬ (v<0∨(v=0∧p.k=2)):=⟨hh,by omega⟩
     rw[hh] at hn
     rw[if_pos hn,if_pos hn] at hΦ
     obtain⟨s3,h3,H3,k3⟩:=H2.set k2.ok hh hv
     simp only[kK,↓reduceIte,zA,reduceCtorEq,zE,zB,zC,zD,zF,y2,y5,h0,decide_false,e1,l0,e2]
     refine hR _ _ (hΨ7 _ _ ?_)
     simp only[kK,↓reduceIte,zA,reduceCtorEq,zE,zB,zC,zD,zF]
     refine hΨ6 _ _ ?_
     refine aA fun Ψ8 hΨ8 hΨ8'=>?_
     simp only[kK,↓reduceIte,zA,reduceCtorEq,zE,zB,zC,zD,zF,h3]
     refine hΨ8 _ _ ?_
     simp only[kK,↓reduceIte,zA,reduceCtorEq,zE,zB,zC,zD,zF]
     exact hΦ _ H3 (k02.any.trans k3)
   ·have e1:(v==0)=false:=by simpa using h1
    have hn:R.has p=true∧¬ (v<0∨(v=0∧p.k=2)):=⟨hh,by omega⟩
    rw[hh] at hn
    rw[if_pos hn,if_pos hn] at hΦ
    obtain⟨s3,h3,H3,k3⟩:=H2.set k2.ok hh hv
    simp only[kK,↓reduceIte,zA,reduceCtorEq,zE,zB,zC,zD,zF,y2,y5,h0,decide_false,e1]
    refine hR _ _ (hΨ7 _ _ ?_)
    simp only[kK,↓reduceIte,zA,reduceCtorEq,zE,zB,zC,zD,zF]
    refine hΨ6 _ _ ?_
    refine aA fun Ψ8 hΨ8 hΨ8'=>?_
    simp only[kK,↓reduceIte,zA,reduceCtorEq,zE,zB,zC,zD,zF,h3]
    refine hΨ8 _ _ ?_
    simp only[kK,↓reduceIte,zA,reduceCtorEq,zE,zB,zC,zD,zF]
    exact hΦ _ H3 (k02.any.trans k3)
theorem vC:type_of% (An @RX<|@BG):=An @RX<|@BG
theorem NQ (hs:Ok s) {a:Option Addr} {n c:Nat} {L:List Value} (H:Sl s 1 (.slice a n c) L) (hn:n<1000000) (h1:L.all kZ=true) (hΦ:∀ a' c' s',(a=none→a'=none)→kL s' 3 1 (.slice a' n c') L→aC [] s s'→(∀ b∈nameOf (.slice a' n c'),s.next≤b)→Φ (.slice a' n c') s'):okF q X (KO kc) 173 [.slice a n c] s Φ:=by
 refine aG rfl fn_173 rfl (rs:=[.tmp 2]) rfl (N:=8) rfl rfl ?_
 refine aA fun Ψ0 hΨ0 hΨ0'=>?_
 simp only[vC,↓reduceIte,zA,reduceCtorEq,zE,zB,zC,zD,zF]
 refine hΨ0 _ _ ?_
 refine aA fun Ψ1 hΨ1 hΨ1'=>?_
 refine aA fun Ψ2 hΨ2 hΨ2'=>?_
 have e1:binop X s.look .eql 62 (.slice a n c) (.slice none 0 0)=some (.bool a.isNone):=TU (e:=3) (by kernel_rfl)
 cases a with
 | none =>
  simp only[vC,↓reduceIte,zA,reduceCtorEq,zE,zB,zC,zD,zF,e1,Option.isNone]
  refine hΨ2 _ _ ?_
  simp only[vC,↓reduceIte,zA,reduceCtorEq,zE,zB,zC,zD,zF]
  refine hΨ1' _ _ _ (by simp) ?_
  simp only[vC,↓reduceIte,zA,reduceCtorEq,zE,zB,zC,zD,zF]
  cases H
  exact hΦ none 0 s (fun _=>rfl) .nil (.refl hs) (by simp[nameOf])
 | some a =>
  simp only[vC,↓reduceIte,zA,reduceCtorEq,zE,zB,zC,zD,zF,e1,Option.isNone]
  refine hΨ2 _ _ ?_
  simp only[vC,↓reduceIte,zA,reduceCtorEq,zE,zB,zC,zD,zF]
  refine hΨ1 _ _ ?_
  have k1:aC [] s (s.new fun v=>.cells (PT.ofList []) [] 0 3 false false v):=(aC.refl hs).new (.inr (Nat.le_refl _))
  have b1:kL (s.new fun v=>.cells (PT.ofList []) [] 0 3 false false v) 3 1 (.slice (some ⟨s.next,0,none⟩) 0 0) []:=.own (Cells.uP (s:=s) (e:=3) (L:=[]) (room:=false)) (by simp) (Nat.le_refl _) rfl (by simp)
  have H1:=H.aF k1 (by simp)
  obtain⟨v,s4,h4,b4,k4,m4,a4,c4,rfl⟩:=eI (X:=X) (t:=62) (e:=3) (N:=1) (B:=8) (z:=.int .i64 0) (x:=.slice (some a) n c) (k:=n) (new:=L) (by kernel_rfl) (by kernel_rfl) rfl k1.ok (by omega) b1 rfl H1.first H1.len h1 (by omega) (by omega)
  simp only[vC,↓reduceIte,zA,reduceCtorEq,zE,zB,zC,zD,zF]
  refine jZ ?_ h4 ?_
  ·simp only[vC,↓reduceIte,zA,reduceCtorEq,zE,zB,zC,zD,zF]
  simp only[vC,↓reduceIte,zA,reduceCtorEq,zE,zB,zC,zD,zF]
  rw[Nat.zero_add] at b4 m4 ⊢
  refine hΦ a4 c4 s4 (fun h=>by cases h) b4 (k1.step k4 fun g hg=>.inr (hs.fresh _ (by simp[nameOf] at hg;omega))) fun b hb=>?_
  rcases m4 b hb with h | h
  ·simp[nameOf] at h;omega
  ·have:=k1.next;omega
def PR.FZ (R:PR) (v:Int):Int:=if v≤0 then 1 else if R.q.length=64 then 6 else 0
def PR.vJ (R:PR) (v:Int):List Int:=if R.FZ v=0 then R.q++[v] else R.q
theorem bB.newQ {s s':St} (H:bB s r R) {va:Option Addr} {vn vc:Nat} {Q:List Int} {F:List Nat} (k:aC F s s') (hc:Obj s' r [int R.m,.slice (some ⟨R.ns,0,none⟩) (16*R.m) (16*R.m),.slice (some ⟨R.ng,0,none⟩) 16 16,.slice va vn vc])
  (hq:kL s' 3 1 (.slice va vn vc) (Q.map int)) (hF:∀ x∈[R.ns,R.ng],x∉F) (hn:∀ b∈nameOf (.slice va vn vc),b∈nameOf (.slice R.va R.vn R.vc)∨s.next≤b) (hl:Q.length≤64) (hi:∀ x∈Q,i64 x) (hs:Ok s):bB s' r {R with va:=va,vn:=vn,vc:=vc,q:=Q}:=by
 obtain⟨c,cs,cg,cq,nd,nq,m1,m4,ql,bs,bg,bq⟩:=H
 refine⟨hc,cs.aF k (hF _ (by simp)),cg.aF k (hF _ (by simp)),hq,nd,fun b hb=>?_,m1,m4,hl,bs,bg,hi⟩
 rcases hn b hb with h | h
 ·exact nq b h
 ·have h1:=c.lt hs
  have h2:=cs.lt hs
  have h3:=cg.lt hs
  exact⟨by omega,by show b≠R.ns;omega,by show b≠R.ng;omega⟩
theorem pI:type_of% (An @RX<|An @lV<|An @cY<|An @cO<|An @eG<|@GL):=An @RX<|An @lV<|An @cY<|An @cO<|An @eG<|@GL
theorem LF (hs:Ok s) (H:bB s r R) (v:Int) (hv:i64 v) (hΦ:∀ va vn vc s',bB s' r {R with va:=va,vn:=vn,vc:=vc,q:=R.vJ v}→aC (R.aU r) s s'→(∀ b∈nameOf (.slice va vn vc),b∈nameOf (.slice R.va R.vn R.vc)∨s.next≤b)→Φ (int (R.FZ v)) s'):okF q X (KO kc) 87 [ptr r,int v] s Φ:=by
 unfold PR.vJ PR.FZ at hΦ
 have hq:=H.lq
 have hql:=H.ql
 refine aG rfl fn_87 rfl (rs:=[.tmp 4]) rfl (N:=29) rfl rfl ?_
 refine aA fun Ψ0 hΨ0 hΨ0'=>?_
 simp only[pI,↓reduceIte,zA,reduceCtorEq,zE,zB,zC,zD,zF]
 refine hΨ0 _ _ ?_
 refine aA fun Ψ1 hΨ1 hΨ1'=>?_
 refine aL fun Ψ2 hΨ2 hΨ2e hΨ2'=>?_
 refine aA fun Ψ3 hΨ3 hΨ3'=>?_
 simp only[pI,↓reduceIte,zA,reduceCtorEq,zE,zB,zC,zD,zF]
 refine aB ?_ (mK H ?_)
 ·simp only[pI,↓reduceIte,zA,reduceCtorEq,zE,zB,zC,zD,zF]
 try simp only[pI,↓reduceIte,zA,reduceCtorEq,zE,zB,zC,zD,zF]
 refine hΨ3 _ _ ?_
 simp only[bE,RV,RG,↓reduceIte,zA,reduceCtorEq,zE,zB,zC,zD,zF]
 refine aA fun Ψ4 hΨ4 hΨ4'=>?_
 by_cases h0:v≤0
 ·rw[if_pos h0] at hΦ
  simp only[pI,↓reduceIte,zA,reduceCtorEq,zE,zB,zC,zD,zF,h0,decide_true]
  refine hΨ4 _ _ ?_
  simp only[pI,↓reduceIte,zA,reduceCtorEq,zE,zB,zC,zD,zF]
  refine hΨ2' _ _ _ (by simp) (by simp) (hΨ1' _ _ _ (by simp) ?_)
  simp only[pI,↓reduceIte,zA,reduceCtorEq,zE,zB,zC,zD,zF]
  exact hΦ R.va R.vn R.vc s H (.refl hs) (fun b hb=>.inl hb)
 ·rw[if_neg h0] at hΦ
  simp only[pI,↓reduceIte,zA,reduceCtorEq,zE,zB,zC,zD,zF,h0,decide_false]
  refine hΨ4 _ _ ?_
  simp only[bE,RV,RG,↓reduceIte,zA,reduceCtorEq,zE,zB,zC,zD,zF]
  refine aA fun Ψ5 hΨ5 hΨ5'=>?_
  by_cases h1:R.q.length=64
  ·have e1:(((R.vn:Nat):Int)==64)=true:=by rw[beq_iff_eq];omega
   rw[if_pos h1] at hΦ
   simp only[pI,↓reduceIte,zA,reduceCtorEq,zE,zB,zC,zD,zF,H.l3,e1]
   refine hΨ5 _ _ ?_
   simp only[pI,↓reduceIte,zA,reduceCtorEq,zE,zB,zC,zD,zF]
   refine hΨ2' _ _ _ (by simp) (by simp) (hΨ1' _ _ _ (by simp) ?_)
   simp only[pI,↓reduceIte,zA,reduceCtorEq,zE,zB,zC,zD,zF]
   exact hΦ R.va R.vn R.vc s H (.refl hs) (fun b hb=>.inl hb)
  ·have e1:(((R.vn:Nat):Int)==64)=false:=by rw[beq_eq_false_iff_ne];omega
   rw[if_neg h1,if_pos rfl] at hΦ
   simp only[pI,↓reduceIte,zA,reduceCtorEq,zE,zB,zC,zD,zF,H.l3,e1]
   refine hΨ5 _ _ ?_
   simp only[pI,↓reduceIte,zA,reduceCtorEq,zE,zB,zC,zD,zF]
   refine hΨ2 _ _ ?_
   refine hΨ1 _ _ ?_
   refine aA fun Ψ6 hΨ6 hΨ6'=>?_
   obtain⟨s1,e1,k1,c1,n1⟩:=aT hs (L:=[int v]) (n:=1) (e:=3) rfl
   have H1:=H.aN k1
   obtain⟨w,s4,h4,b4,k4,m4,a4,c4,rfl⟩:=eI (X:=X) (t:=62) (e:=3) (N:=1) (B:=8) (z:=.int .i64 0) (x:=.slice (some ⟨s.next,0,none⟩) 1 1) (k:=1) (new:=[int v]) (by kernel_rfl) (by kernel_rfl) rfl k1.ok (by omega) H1.cq rfl (gW (by omega) (c1.aS (i:=0) (k:=1) (Nat.le_refl _))) rfl rfl (by omega) (by omega)
   have hr:r∉nameOf (.slice R.va R.vn R.vc):=fun h=>(H.nq r h).1 rfl
   obtain⟨s5,h5,c5,k5⟩:=(H1.c.aF k4 hr).store k4.ok (i:=3) (vs:=[.slice a4 (R.vn+1) c4]) (Nat.le_refl _) rfl
   have kk:aC (r::nameOf (.slice R.va R.vn R.vc)) s s5:=(k1.any.trans (k4.mono fun x hx=>List.mem_cons_of_mem _ hx)).trans (k5.mono fun x hx=>by simp at hx;subst hx;simp)
   have hrl:=H.c.lt hs
   have hrl1:=k1.next
   have hN:=H.newQ (va:=a4) (vn:=R.vn+1) (vc:=c4) (Q:=R.q++[v]) kk c5 (by
     rw[List.map_append]
     refine b4.aF k5 fun b hb hb'=>?_
     simp at hb';subst hb'
     rcases m4 b hb with h | h
     ·exact hr h
     ·omega) (fun x hx hx'=>by
     rcases List.mem_cons.1 hx' with h | h
     ·simp at hx;rcases hx with h' | h'
      ·exact H.nd.1 (by rw[← h,h'])
      ·exact H.nd.2.1 (by rw[← h,h'])
     ·have:=H.nq x h;simp at hx;rcases hx with h' | h'
      ·exact this.2.1 h'
      ·exact this.2.2 h') (fun b hb=>(m4 b hb).imp id fun h=>by omega) (by rw[List.length_append];show _+1≤_;omega) (fun x hx=>by
     rcases List.mem_append.1 hx with h | h
     ·exact H.bq x h
     ·simp at h;subst h;exact hv) hs
   simp only[pI,↓reduceIte,zA,reduceCtorEq,zE,zB,zC,zD,zF,H.l3]
   rw[e1]
   refine jZ ?_ h4 ?_
   ·simp only[pI,↓reduceIte,zA,reduceCtorEq,zE,zB,zC,zD,zF]
   simp only[pI,↓reduceIte,zA,reduceCtorEq,zE,zB,zC,zD,zF,h5]
   refine hΨ6 _ _ ?_
   simp only[pI,↓reduceIte,zA,reduceCtorEq,zE,zB,zC,zD,zF]
   refine hΦ _ _ _ s5 hN (kk.mono fun x hx=>?_) (fun b hb=>(m4 b hb).imp id fun h=>by omega)
   unfold PR.aU
   rcases List.mem_cons.1 hx with h | h
   ·subst h;simp
   ·exact List.mem_append_right _ h
end
end Go.Dust
