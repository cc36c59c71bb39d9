/- VerifySound walked in D, function by function, and its plain law (R4 R5 R6 R7). -/
import Derived.Test.YtaoiejcaopgjcaaGreatW
import Derived.Test.YtaoiejcaopgjcaaGreatQ
set_option linter.unusedVariables false
set_option linter.unusedSimpArgs false
open Nat renaming reduceEqDiff → zA, reduceMul → zB, reduceAdd → zC, reduceBEq → zD
open Int renaming reduceEq → zE, reduceBEq → zF
namespace Go.Dust
open Go.Proofs
set_option maxRecDepth 100000
set_option maxHeartbeats 1000000
theorem QA (L:List Int):(L.map int).all kZ=true:=by
 induction L with
 | nil=>rfl
 | cons x L ih=>rw[List.map_cons,List.all_cons,ih];rfl
theorem ch {X:Env} {s:St} {t e n c:Nat} {a:Option Addr} {x:Value} {L:List Value} (hd:((X.ty t).map fun i=>i.desc)=some (.slice e)) (he:((X.ty e).map fun i=>i.size)=some 1) (H:kL s e 1 (.slice a n c) (x::L)) :
  ∃ a' c',dE X s.look t (.slice a n c) (some (int 1)) none none=some (.slice (some a') (n-1) c')∧Sl s 1 (.slice (some a') (n-1) c') L:=by
 have hs:=H.sl
 have hlen:=hs.len
 rw[List.length_cons] at hlen
 cases H with
 | @own b off n c L0 L h hc hn hL hl =>
 obtain⟨cc,z,room,dF,h1,h2⟩:=h
 have h1':s.look b=some (.cells cc z L0.length e room false dF):=h1
 cases hi:X.ty t with
 | none=>rw[hi] at hd;cases hd
 | some i =>
 cases hj:X.ty e with
 | none=>rw[hj] at he;cases he
 | some j =>
 rw[hi] at hd
 rw[hj] at he
 have hd':i.desc=.slice e:=by simpa using hd
 have he':j.size=1:=by simpa using he
 have hb:iD n c (some (1:Int)) none=some (1,n):=by
  unfold iD
  simp only
  rw[if_pos ⟨by omega,by omega⟩];rfl
 have hz:dE X s.look t (.slice (some ⟨b,off,none⟩) n c) (some (int 1)) none none=if c=1 then some (.slice (some (if room then⟨b,off,some (1*j.size)⟩ else⟨b,off,none⟩)) (n-1) (c-1)) else some (.slice (some ((⟨b,off,none⟩:Addr).add (1*j.size))) (n-1) (c-1)):=by
  simp only[dE,hi,hd',gO,hb,hj,h1']
  rw[if_pos ⟨by omega,by omega⟩]
 by_cases hc1:c=1
 ·rw[if_pos hc1] at hz
  have:n=1:=by omega
  subst this
  have:L=[]:=List.length_eq_zero_iff.1 (by omega)
  subst this
  exact⟨_,_,hz,.nil _ _⟩
 ·rw[if_neg hc1,he'] at hz
  simp only[aJ] at hz
  refine⟨_,_,hz,.cells (by omega) fun i hi=>?_⟩
  have:=hs.load (i:=i+1) (v:=L[i]) (by rw[List.getElem?_cons_succ,List.getElem?_eq_getElem hi])
  rw[List.getElem?_eq_getElem hi,show off+1*1+i=off+(i+1) by omega]
  exact this
section
variable {kc:Kc} {q:Bool} {s:St} {Φ:Value→St→Prop} {r:Nat} {R:PR}
theorem sK:type_of% (An @RX<|An @lV<|An @cY<|An @cO<|An @dO<|An @bF<|@GL):=An @RX<|An @lV<|An @cY<|An @cO<|An @dO<|An @bF<|@GL
theorem qg (hs:Ok s) (H:bB s r R) (hΦ:∀ va vn vc s',bB s' r {R with va:=va,vn:=vn,vc:=vc,q:=R.q.tail}→aC (R.aU r) s s'→(∀ b∈nameOf (.slice va vn vc),b∈nameOf (.slice R.va R.vn R.vc)∨s.next≤b)→Φ (.tuple #[int (R.q.headD 0),int (if R.q=[] then 4 else 0)]) s'):okF q X (KO kc) 86 [ptr r] s Φ:=by
 have hq:=H.lq
 have hql:=H.ql
 refine aG rfl fn_86 rfl (rs:=[.tmp 2,.tmp 3]) rfl (N:=32) rfl rfl ?_
 refine aA fun Ψ0 hΨ0 hΨ0'=>?_
 simp only[sK,↓reduceIte,zA,reduceCtorEq,zE,zB,zC,zD,zF]
 refine hΨ0 _ _ ?_
 refine aA fun Ψ1 hΨ1 hΨ1'=>?_
 refine aL fun Ψ2 hΨ2 hΨ2e hΨ2'=>?_
 refine aA fun Ψ3 hΨ3 hΨ3'=>?_
 simp only[sK,↓reduceIte,zA,reduceCtorEq,zE,zB,zC,zD,zF]
 refine aB ?_ (mK H ?_)
 ·simp only[sK,↓reduceIte,zA,reduceCtorEq,zE,zB,zC,zD,zF]
 try simp only[sK,↓reduceIte,zA,reduceCtorEq,zE,zB,zC,zD,zF]
 refine hΨ3 _ _ ?_
 simp only[bE,RV,RG,↓reduceIte,zA,reduceCtorEq,zE,zB,zC,zD,zF]
 refine aA fun Ψ4 hΨ4 hΨ4'=>?_
 cases hL:R.q with
 | nil =>
  have e1:(((R.vn:Nat):Int)==0)=true:=by rw[beq_iff_eq,hq,hL];rfl
  rw[hL,if_pos rfl] at hΦ
  simp only[sK,↓reduceIte,zA,reduceCtorEq,zE,zB,zC,zD,zF,H.l3,e1]
  refine hΨ4 _ _ ?_
  simp only[sK,↓reduceIte,zA,reduceCtorEq,zE,zB,zC,zD,zF]
  refine hΨ2' _ _ _ (by simp) (by simp) (hΨ1' _ _ _ (by simp) ?_)
  simp only[sK,↓reduceIte,zA,reduceCtorEq,zE,zB,zC,zD,zF]
  refine hΦ R.va R.vn R.vc s ?_ (.refl hs) (fun b hb=>.inl hb)
  have:({R with q:=([]:List Int).tail}:PR)=R:=by rw[List.tail_nil,← hL]
  rw[this]
  exact H
 | cons x L =>
  rw[hL] at hq hql
  rw[List.length_cons] at hq hql
  have e1:(((R.vn:Nat):Int)==0)=false:=by rw[beq_eq_false_iff_ne];omega
  rw[hL,if_neg (by simp)] at hΦ
  have hb:=H.cq
  rw[hL,List.map_cons] at hb
  obtain⟨b,off,ea⟩:=hb.sl.addr (by omega)
  have l0:aI s.look ⟨b,off,none⟩=some (int x):=by
   have:=hb.sl
   rw[ea] at this
   exact this.load (i:=0) rfl
  obtain⟨a1,c1,hsl,hsl'⟩:=ch (X:=X) (t:=62) (by kernel_rfl) (by kernel_rfl) hb
  have e2:(0:Int)<(R.vn:Nat):=by omega
  simp only[sK,↓reduceIte,zA,reduceCtorEq,zE,zB,zC,zD,zF,H.l3,e1]
  refine hΨ4 _ _ ?_
  simp only[sK,↓reduceIte,zA,reduceCtorEq,zE,zB,zC,zD,zF]
  refine hΨ2 _ _ ?_
  refine hΨ1 _ _ ?_
  refine aA fun Ψ5 hΨ5 hΨ5'=>?_
  simp only[sK,↓reduceIte,zA,reduceCtorEq,zE,zB,zC,zD,zF,H.l3,ea,e2,Int.le_refl,show (0:Int).toNat=0 from rfl,Nat.zero_mul,aJ,Nat.add_zero,l0]
  refine hΨ5 _ _ ?_
  refine aA fun Ψ6 hΨ6 hΨ6'=>?_
  simp only[sK,↓reduceIte,zA,reduceCtorEq,zE,zB,zC,zD,zF,H.l3,hsl]
  refine aB ?_ (NQ hs hsl' (by omega) (QA L) fun a4 c4 s4 h4 b4 k4 m4=>?_)
  ·simp only[sK,↓reduceIte,zA,reduceCtorEq,zE,zB,zC,zD,zF]
  obtain⟨s5,h5,c5,k5⟩:=(H.c.aF k4 (by simp)).store k4.ok (i:=3) (vs:=[.slice a4 (R.vn-1) c4]) (Nat.le_refl _) rfl
  simp only[sK,↓reduceIte,zA,reduceCtorEq,zE,zB,zC,zD,zF,h5]
  refine hΨ6 _ _ ?_
  simp only[sK,↓reduceIte,zA,reduceCtorEq,zE,zB,zC,zD,zF]
  have hrl:=H.c.lt hs
  have kk:aC [r] s s5:=k4.any.trans k5
  refine hΦ a4 (R.vn-1) c4 s5 (H.newQ kk c5 (b4.aF k5 fun b hb hb'=>?_) (fun x hx hx'=>?_) (fun b hb=>.inr (m4 b hb)) (by rw[List.tail_cons];omega) (fun y hy=>H.bq y (by rw[hL];exact List.mem_cons_of_mem _ hy)) hs) (kk.mono fun x hx=>?_) fun b hb=>.inr (m4 b hb)
  ·have:=m4 b hb
   simp at hb';omega
  ·simp at hx hx'
   rcases hx with h' | h'
   ·exact H.nd.1 (by rw[← hx',h'])
   ·exact H.nd.2.1 (by rw[← hx',h'])
  ·unfold PR.aU;simp at hx;subst hx;simp
theorem GR:type_of% (An @RX<|An @lV<|@cY):=An @RX<|An @lV<|@cY
theorem XI (hs:Ok s) (H:bB s r R) (hΦ:∀ va vc s',(R.va=none→va=none)→kL s' 3 1 (.slice va R.vn vc) (R.q.map int)→aC [] s s'→(∀ b∈nameOf (.slice va R.vn vc),s.next≤b)→Φ (.slice va R.vn vc) s'):okF q X (KO kc) 85 [ptr r] s Φ:=by
 have hq:=H.lq
 have hql:=H.ql
 refine aG rfl fn_85 rfl (rs:=[.tmp 2]) rfl (N:=11) rfl rfl ?_
 refine aA fun Ψ0 hΨ0 hΨ0'=>?_
 simp only[GR,↓reduceIte,zA,reduceCtorEq,zE,zB,zC,zD,zF]
 refine hΨ0 _ _ ?_
 refine aA fun Ψ1 hΨ1 hΨ1'=>?_
 refine aA fun Ψ2 hΨ2 hΨ2'=>?_
 simp only[GR,↓reduceIte,zA,reduceCtorEq,zE,zB,zC,zD,zF]
 refine aB ?_ (mK H ?_)
 ·simp only[GR,↓reduceIte,zA,reduceCtorEq,zE,zB,zC,zD,zF]
 try simp only[GR,↓reduceIte,zA,reduceCtorEq,zE,zB,zC,zD,zF]
 refine hΨ2 _ _ ?_
 simp only[GR,↓reduceIte,zA,reduceCtorEq,zE,zB,zC,zD,zF]
 refine hΨ1 _ _ ?_
 simp only[GR,↓reduceIte,zA,reduceCtorEq,zE,zB,zC,zD,zF,H.l3]
 refine aB ?_ (NQ hs H.cq.sl (by omega) (QA R.q) fun a4 c4 s4 h4 b4 k4 m4=>?_)
 ·simp only[GR,↓reduceIte,zA,reduceCtorEq,zE,zB,zC,zD,zF]
 simp only[GR,↓reduceIte,zA,reduceCtorEq,zE,zB,zC,zD,zF]
 exact hΦ a4 c4 s4 h4 b4 k4 m4
theorem XX:type_of% (An @RX<|@vW):=An @RX<|@vW
theorem qf (hs:Ok s) {m:Int} {m':Nat} (hm:m=m') (h1:1≤m') (h4:m'≤4) (hΦ:∀ r R s',bB s' r R→R.m=m'→(∀ i,R.sl i=0)→(∀ i,R.gl i=0)→R.q=[]→R.va=none→(∀ x∈R.aU r,s.next≤x)→aC [] s s'→Φ (.tuple #[ptr r,int 0]) s'):okF q X (KO kc) 51 [int m] s Φ:=by
 subst hm
 refine aG rfl fn_51 rfl (rs:=[.tmp 2,.tmp 3]) rfl (N:=17) rfl rfl ?_
 refine aA fun Ψ0 hΨ0 hΨ0'=>?_
 simp only[XX,↓reduceIte,zA,reduceCtorEq,zE,zB,zC,zD,zF]
 refine hΨ0 _ _ ?_
 refine aA fun Ψ1 hΨ1 hΨ1'=>?_
 refine aA fun Ψ2 hΨ2 hΨ2'=>?_
 refine aH [(2,6)] (by kernel_rfl) fun O hO ΨR hR=>?_
 have y2:∀ a,aE O a 2=aM (a.aD 6):=hO (2,6) (by simp)
 have g1:¬ (m':Int)<1:=by omega
 have g2:¬ (m':Int)>4:=by omega
 simp only[XX,↓reduceIte,zA,reduceCtorEq,zE,zB,zC,zD,zF,y2,g1,g2,decide_false]
 refine hR _ _ (hΨ2 _ _ ?_)
 simp only[XX,↓reduceIte,zA,reduceCtorEq,zE,zB,zC,zD,zF]
 refine hΨ1 _ _ ?_
 refine aA fun Ψ3 hΨ3 hΨ3'=>?_
 refine aQ [] [] [] (by kernel_rfl) (by kernel_rfl) (by rfl) fun O hO ΨR hR=>?_
 have w1:IntKind.i64.wrap ((m':Int)*16)=((16*m':Nat):Int):=by rw[aR (by omega) (by omega)];omega
 simp only[XX,↓reduceIte,zA,reduceCtorEq,zE,zB,zC,zD,zF,w1,FR (nm:=s.next+6) (n:=((16*m':Nat):Int)) (m:=((16*m':Nat):Int)) (by omega) (by omega) (by omega) (by omega),FR (nm:=s.next+8) (n:=(16:Int)) (m:=(16:Int)) (by omega) (by omega) (by omega) (by omega),Int.toNat_natCast,show Int.toNat 16=16 from rfl]
 refine hR _ _ (hΨ3 _ _ ?_)
 have fr:∀ x,s.next≤x→s.heap.get x=none:=hs.fresh
 obtain⟨S1,h1',k1,c1,n1,f1⟩:∃ S1,(s.skip 18).put (s.next+6) (fun v=>bX.cells PT.nil [Value.int IntKind.i64 0] (16*m'*1) 3 false false v)=S1∧aC [] s S1∧Obj S1 (s.next+6) (row (16*m') fun _=>int 0)∧S1.next=s.next+18∧∀ x,s.next≤x→x≠s.next+6→S1.heap.get x=none :=
  ⟨_,rfl,(aC.skip hs 18).eX (fr _ (by omega)) (by show s.next+6<s.next+18;omega) (by omega) (Nat.le_refl _),Obj.kY rfl (by rw[bI];omega) (fun i hi=>by
   rw[fB _ (by omega),Nat.mod_one];rfl),rfl,fun x hx hne=>by rw[gZ hne];exact fr x hx⟩
 rw[h1']
 obtain⟨S2,h2',k2,c2,c21,n2,f2⟩:∃ S2,S1.put (s.next+8) (fun v=>bX.cells PT.nil [Value.int IntKind.i64 0] 16 3 false false v)=S2∧aC [] s S2∧Obj S2 (s.next+8) (row 16 fun _=>int 0)∧Obj S2 (s.next+6) (row (16*m') fun _=>int 0)∧S2.next=s.next+18∧∀ x,s.next≤x→x≠s.next+6→x≠s.next+8→S2.heap.get x=none :=
  ⟨_,rfl,k1.eX (f1 _ (by omega) (by omega)) (by omega) (by omega) (Nat.le_refl _),Obj.kY (n:=16) (m:=1) rfl (by rw[bI]) (fun i hi=>by
   rw[fB _ (by omega),Nat.mod_one];rfl),c1.lK (by omega),n1,fun x hx hne hne'=>by rw[gZ hne'];exact f1 x hx hne⟩
 rw[h2']
 obtain⟨S3,h3',k3,c3,c31,c32,n3⟩:∃ S3,S2.put (s.next+12) (fun v=>bX.cells (PT.ofList [Value.int IntKind.i64 m',Value.slice (some ⟨s.next+6,0,none⟩) (16*m') (16*m'),Value.slice (some ⟨s.next+8,0,none⟩) 16 16,Value.slice none 0 0]) [] 4 177 false false v)=S3∧aC [] s S3∧Obj S3 (s.next+12) [Value.int IntKind.i64 m',Value.slice (some ⟨s.next+6,0,none⟩) (16*m') (16*m'),Value.slice (some ⟨s.next+8,0,none⟩) 16 16,Value.slice none 0 0]∧Obj S3 (s.next+6) (row (16*m') fun _=>int 0)∧Obj S3 (s.next+8) (row 16 fun _=>int 0)∧S3.next=s.next+18 :=
  ⟨_,rfl,k2.eX (f2 _ (by omega) (by omega) (by omega)) (by omega) (by omega) (Nat.le_refl _),Obj.pQ rfl,c21.lK (by omega),c2.lK (by omega),n2⟩
 rw[h3']
 clear h1' h2' h3' f1 f2
 simp only[XX,↓reduceIte,zA,reduceCtorEq,zE,zB,zC,zD,zF]
 refine hΦ (s.next+12) ⟨s.next+6,s.next+8,none,0,0,m',fun _=>0,fun _=>0,[]⟩ S3 ⟨c3,c31,c32,.nil,⟨by show s.next+12≠s.next+6;omega,by show s.next+12≠s.next+8;omega,by show s.next+6≠s.next+8;omega⟩,fun b hb=>by simp[nameOf] at hb,h1,h4,Nat.zero_le _,fun i=>⟨by simp,by simp⟩,fun i=>⟨by simp,by simp⟩,fun x hx=>by cases hx⟩ rfl (fun _=>rfl) (fun _=>rfl) rfl rfl ?_ k3
 intro x hx
 simp only[PR.aU,nameOf,List.append_nil,List.mem_cons,List.not_mem_nil,or_false] at hx
 omega
end
open Go.Proofs
set_option maxRecDepth 100000
set_option maxHeartbeats 1000000
namespace PR
variable (R:PR)
def len (k:Nat):Nat:=if k=0 then 16*R.m else if k=1 then 16 else R.q.length
def SM (k i:Nat):tS:=⟨k,if k=0 then((i/16:Nat):Int) else 0,if k=0 then((i%16:Nat):Int) else i⟩
def one (k i:Nat):List tS:=if R.get (SM k i)=0 then [] else [SM k i]
def part (k n:Nat):List tS:=(List.range n).flatMap (R.one k)
def upto (k:Nat):List tS:=(List.range k).flatMap fun k=>R.part k (R.len k)
def all:List tS:=R.upto 3
def slV (k:Nat):Value:=if k=0 then .slice (some ⟨R.ns,0,none⟩) (16*R.m) (16*R.m) else if k=1 then .slice (some ⟨R.ng,0,none⟩) 16 16 else .slice R.va R.vn R.vc
theorem EC (k n:Nat):R.part k (n+1)=R.part k n++R.one k n:=by
 unfold part;rw[List.range_succ,List.flatMap_append];simp
theorem PS (k:Nat):R.upto (k+1)=R.upto k++R.part k (R.len k):=by
 unfold upto;rw[List.range_succ,List.flatMap_append];simp
theorem WS (k n:Nat):(R.part k n).length≤n:=by
 induction n with
 | zero=>exact Nat.le_refl _
 | succ n ih =>
  rw[EC,List.length_append]
  unfold one
  split <;> simp <;> omega
theorem len_le (h4:R.m≤4) (hq:R.q.length≤64) (k:Nat):R.len k≤64:=by unfold len;split <;> (try split) <;> omega
theorem YB (h4:R.m≤4) (hq:R.q.length≤64) {k:Nat} (hk:k≤3):(R.upto k).length≤64*k:=by
 induction k with
 | zero=>exact Nat.le_refl _
 | succ k ih =>
  rw[PS,List.length_append]
  have:=R.WS k (R.len k)
  have:=R.len_le h4 hq k
  have:=ih (by omega)
  omega
theorem gh {k i:Nat} (hk:k<3) (hi:i<R.len k):R.has (SM k i)=true:=by
 unfold len at hi
 unfold has SM
 rcases(show k=0∨k=1∨k=2 by omega) with rfl | rfl | rfl
 ·simp only[if_true] at hi ⊢
  rw[if_pos ⟨rfl,by omega,by omega⟩]
  exact decide_eq_true (by omega)
 ·simp only[if_true,if_false,Nat.one_ne_zero] at hi ⊢
  rw[if_neg (by omega),if_pos ⟨rfl,trivial⟩]
  exact decide_eq_true (by omega)
 ·simp at hi ⊢
  omega
end PR
theorem bB.slot {s:St} {r:Nat} {R:PR} (H:bB s r R) {k i:Nat} (hk:k<3) (hi:i<R.len k):∃ b off c,R.slV k=.slice (some ⟨b,off,none⟩) (R.len k) c∧R.addr (PR.SM k i)=⟨b,off+i,none⟩:=by
 unfold PR.len at hi ⊢
 unfold PR.slV PR.addr PR.SM
 rcases(show k=0∨k=1∨k=2 by omega) with rfl | rfl | rfl
 ·simp only[if_true] at hi ⊢
  refine⟨_,_,_,rfl,?_⟩
  rw[if_pos (show ((0:Nat):Int)=0 from rfl)]
  congr 1;omega
 ·simp only[if_true,if_false,Nat.one_ne_zero] at hi ⊢
  refine⟨_,_,_,rfl,?_⟩
  rw[if_neg (by omega),if_pos (show ((1:Nat):Int)=1 from rfl)]
  congr 1;omega
 ·have hq:=H.lq
  simp only[if_false,Nat.succ_ne_zero,show ¬ (2:Nat)=1 by omega] at hi ⊢
  obtain⟨b,off,e⟩:=H.cq.sl.addr (show 0<R.vn by omega)
  refine⟨b,off,R.vc,by rw[e,hq],?_⟩
  rw[if_neg (by omega),if_neg (by omega),e]
  simp only[aJ]
  congr 1
theorem bB.lenV {s:St} {r:Nat} {R:PR} (H:bB s r R) (k:Nat):∃ a c,R.slV k=.slice a (R.len k) c:=by
 unfold PR.len PR.slV
 by_cases h0:k=0
 ·rw[if_pos h0,if_pos h0];exact⟨_,_,rfl⟩
 ·rw[if_neg h0,if_neg h0]
  by_cases h1:k=1
  ·rw[if_pos h1,if_pos h1];exact⟨_,_,rfl⟩
  ·rw[if_neg h1,if_neg h1,← H.lq];exact⟨_,_,rfl⟩
theorem nH.mono {q:Bool} {X:Env} {K:qT} {s:St} {f:Value} {args:List Value} {Ψ Ψ':Value→St→Prop} (h:nH q X K s f args Ψ) (hm:∀ v s,Ψ v s→Ψ' v s):nH q X K s f args Ψ':=by
 obtain⟨n,h⟩:=h
 exact⟨n,h.mono fun p hp=>hm _ _ hp⟩
section
variable {kc:Kc} {q:Bool} {s:St} {Φ:Value→St→Prop} {r:Nat} {R:PR}
theorem eB:type_of% (An @RX<|An @OI<|An @BO<|An @cY<|An @BP<|An @lV<|An @vX<|An @sF<|An @QZ<|An @cO<|An @tV<|An @mY<|An @nO<|An @oW<|An @rV<|An @lQ<|An @dO<|An @bF<|@iH):=An @RX<|An @OI<|An @BO<|An @cY<|An @BP<|An @lV<|An @vX<|An @sF<|An @QZ<|An @cO<|An @tV<|An @mY<|An @nO<|An @oW<|An @rV<|An @lQ<|An @dO<|An @bF<|@iH
theorem LG (hs:Ok s) (H:bB s r R) {x:Nat} (hx:Obj s x [ptr r]) {y:Value} {F:List Nat} (hF:∀ b∈R.aU r,b∉F) (hxF:x∉F) (hFl:∀ b∈F,b<s.next) {J:List tS→List Nat→St→Prop} (hJ0:∀ L N s' s'',J L N s'→aC [] s' s''→J L N s'')
  (hy0:∀ L N p s',L.length≤192→aC F s s'→J L N s'→(∀ b∈N,s.next≤b)→R.has p=true→R.get p≠0→nH false X (KO kc) s' y [rM p,.pointer (some (R.addr p))] fun v s''=>v=.bool true∧∃ N',J (L++[p]) N' s''∧aC (F++N) s' s''∧∀ b∈N',b∈N∨s'.next≤b)
  (h0:J [] [] s) (hΦ:∀ N s',J R.all N s'→(∀ b∈N,s.next≤b)→aC F s s'→Φ (.tuple #[]) s'):okF q X (KO kc) 222 [y,ptr x] s Φ:=by
 have hm4:=H.m4
 have hql:=H.ql
 have lx:aI s.look ⟨x,0,none⟩=some (ptr r):=hx.load rfl
 refine aG rfl fn_222 rfl (rs:=[]) rfl (N:=58) rfl rfl ?_
 refine aA fun Ψ1 hΨ1 hΨ1'=>?_
 refine aQ [] [] [] (by kernel_rfl) (by kernel_rfl) (by rfl) fun O hO ΨR hR=>?_
 simp only[eB,↓reduceIte,zA,reduceCtorEq,zE,zB,zC,zD,zF,lx,H.l1,H.l2,H.l3]
 refine hR _ _ (hΨ1 _ _ ?_)
 have fr:∀ z,s.next≤z→s.heap.get z=none:=hs.fresh
 obtain⟨s1,e1,k1,c1,n1⟩:∃ S1,(s.skip 30).put (s.next+24) (fun v=>bX.cells (PT.ofList [Value.slice (some ⟨R.ns,0,none⟩) (16*R.m) (16*R.m),Value.slice (some ⟨R.ng,0,none⟩) 16 16,Value.slice R.va R.vn R.vc]) [] 3 62 false false v)=S1∧aC [] s S1∧Obj S1 (s.next+24) [R.slV 0,R.slV 1,R.slV 2]∧S1.next=s.next+30 :=
  ⟨_,rfl,(aC.skip hs 30).eX (fr _ (by omega)) (by show s.next+24<s.next+30;omega) (by omega) (Nat.le_refl _),Obj.pQ rfl,rfl⟩
 rw[e1]
 obtain⟨JJ,hJJ,hJ,hy,hJ00⟩:∃ JJ:List tS→St→Prop,(∀ L s',JJ L s'→∃ N,(∀ b∈N,s1.next≤b)∧J L N s')∧(∀ L s' s'',JJ L s'→aC [] s' s''→JJ L s'') ∧
   (∀ L p s',L.length≤192→aC F s1 s'→JJ L s'→R.has p=true→R.get p≠0→nH false X (KO kc) s' y [rM p,.pointer (some (R.addr p))] fun v s''=>v=.bool true∧JJ (L++[p]) s''∧aC F s1 s'')∧JJ [] s1:=by
  refine⟨fun L s'=>∃ N,(∀ b∈N,s1.next≤b)∧J L N s',fun L s' h=>h,fun L s' s'' ⟨N,h1,h2⟩ k=>⟨N,h1,hJ0 _ _ _ _ h2 k⟩,?_,⟨[],by simp,hJ0 _ _ _ _ h0 k1⟩⟩
  rintro L p s' hL k ⟨N,g1,g2⟩ g3 g4
  refine(hy0 L N p s' hL (k1.any.trans k) g2 (fun b hb=>by have:=g1 b hb;omega) g3 g4).mono ?_
  rintro v s'' ⟨rfl,N',g5,g6,g7⟩
  refine⟨rfl,⟨N',fun b hb=>?_,g5⟩,k.step g6 fun g hg=>?_⟩
  ·rcases g7 b hb with h | h
   ·exact g1 b h
   ·have:=k.next;omega
  ·rcases List.mem_append.1 hg with h | h
   ·exact .inl h
   ·exact .inr (k1.ok.fresh _ (g1 g h))
 have hbF:s.next+24∉F:=fun h=>by have:=hFl _ h;omega
 refine aL fun Ψ2 hΨ2 hΨ2e hΨ2'=>?_
 refine dP (n:=3) (fun j a' s'=>a'.aD 0=y∧a'.aD 1=ptr x∧a'.aD 19=.slice (some ⟨s.next+24,0,none⟩) 3 3∧a'.aD 20=int 3∧a'.aD 21=int j∧aC F s1 s'∧JJ (R.upto j) s')
  (fun j a' s'=>a'.aD 0=y∧a'.aD 1=ptr x∧a'.aD 19=.slice (some ⟨s.next+24,0,none⟩) 3 3∧a'.aD 20=int 3∧a'.aD 21=int j∧aC F s1 s'∧JJ (R.upto (j+1)) s') ?_ ?_ ?_ ?_ (Nat.zero_le _) ?_
 ·rintro j a' s' hj ⟨r0,r1,r19,r20,r21,hk,hJ'⟩ Ψ' hΨ'
  simp only[eB,↓reduceIte,zA,reduceCtorEq,zE,zB,zC,zD,zF,r20,r21]
  refine hΨ' _ _ (decide ((j:Int)<3)) ?_ (by simp;omega) ⟨?_,?_,?_,?_,?_,hk,hJ'⟩
  all_goals simp only[eB,↓reduceIte,zA,reduceCtorEq,zE,zB,zC,zD,zF,r0,r1,r19,r20,r21]
 ·rintro j a' s' hj ⟨r0,r1,r19,r20,r21,hk,hJ'⟩ Ψ' h1 h2 h3
  have lj:aI s'.look ⟨s.next+24,j,none⟩=some (R.slV j):=by
   have:=c1.aF hk hbF
   refine this.load ?_
   rcases(show j=0∨j=1∨j=2 by omega) with rfl | rfl | rfl <;> rfl
  obtain⟨sa,sc,hsl⟩:=H.lenV j
  have g1:(0:Int)≤(j:Int):=Int.natCast_nonneg _
  have g2:(j:Int)<((3:Nat):Int):=by omega
  refine aA fun Ψ3 hΨ3 hΨ3'=>?_
  simp only[eB,↓reduceIte,zA,reduceCtorEq,zE,zB,zC,zD,zF,r19,r21,g1,g2,and_self,aJ,Int.toNat_natCast,Nat.mul_one,Nat.zero_add,lj]
  refine hΨ3 _ _ ?_
  refine aA fun Ψ4 hΨ4 hΨ4'=>?_
  simp only[eB,↓reduceIte,zA,reduceCtorEq,zE,zB,zC,zD,zF,hsl]
  refine hΨ4 _ _ ?_
  refine aL fun Ψ5 hΨ5 hΨ5e hΨ5'=>?_
  have hlen:R.len j≤64:=by unfold PR.len;split <;> (try split) <;> omega
  refine dP (n:=R.len j) (fun i a' s'=>a'.aD 0=y∧a'.aD 1=ptr x∧a'.aD 19=.slice (some ⟨s.next+24,0,none⟩) 3 3∧a'.aD 20=int 3∧a'.aD 21=int j∧a'.aD 3=int j∧a'.aD 4=.slice sa (R.len j) sc∧a'.aD 27=int (R.len j)∧a'.aD 28=int i∧aC F s1 s'∧JJ (R.upto j++R.part j i) s')
   (fun i a' s'=>a'.aD 0=y∧a'.aD 1=ptr x∧a'.aD 19=.slice (some ⟨s.next+24,0,none⟩) 3 3∧a'.aD 20=int 3∧a'.aD 21=int j∧a'.aD 3=int j∧a'.aD 4=.slice sa (R.len j) sc∧a'.aD 27=int (R.len j)∧a'.aD 28=int i∧aC F s1 s'∧JJ (R.upto j++R.part j (i+1)) s') ?_ ?_ ?_ ?_ (Nat.zero_le _) ?_
  ·rintro i a' s' hi ⟨r0,r1,r19,r20,r21,r3,r4,r27,r28,hk,hJ'⟩ Ψ' hΨ'
   simp only[eB,↓reduceIte,zA,reduceCtorEq,zE,zB,zC,zD,zF,r27,r28]
   refine hΨ' _ _ (decide ((i:Int)<R.len j)) ?_ (by simp) ⟨?_,?_,?_,?_,?_,?_,?_,?_,?_,hk,hJ'⟩
   all_goals simp only[eB,↓reduceIte,zA,reduceCtorEq,zE,zB,zC,zD,zF,r0,r1,r19,r20,r21,r3,r4,r27,r28]
  ·rintro i a' s' hi ⟨r0,r1,r19,r20,r21,r3,r4,r27,r28,hk,hJ'⟩ Ψ' i1 i2 i3
   refine aA fun Ψ6 hΨ6 hΨ6'=>?_
   simp only[eB,↓reduceIte,zA,reduceCtorEq,zE,zB,zC,zD,zF,r28]
   refine hΨ6 _ _ ?_
   refine aA fun Ψ7 hΨ7 hΨ7'=>?_
   simp only[eB,↓reduceIte,zA,reduceCtorEq,zE,zB,zC,zD,zF,r3]
   obtain⟨s2,e2,k2,c2,n2⟩:=aT hk.ok (L:=[int 0,int 0,int 0]) (n:=3) (e:=118) rfl
   rw[e2]
   obtain⟨s3,e3,c3,k3⟩:=c2.storeAll k2.ok (vs:=[int j,int 0,int i]) rfl rfl
   have k23:aC [] s' s3:=k2.step k3 fun g hg=>.inr (by rw[List.mem_singleton.1 hg];exact hk.ok.fresh _ (Nat.le_refl _))
   rw[e3]
   simp only[eB,↓reduceIte,zA,reduceCtorEq,zE,zB,zC,zD,zF]
   refine hΨ7 _ _ ?_
   refine aA fun Ψ8 hΨ8 hΨ8'=>?_
   have rest:∀ a4 s4,(a4.aD 0=y∧a4.aD 1=ptr x∧a4.aD 19=.slice (some ⟨s.next+24,0,none⟩) 3 3∧a4.aD 20=int 3∧a4.aD 21=int j∧a4.aD 3=int j∧a4.aD 4=.slice sa (R.len j) sc∧a4.aD 27=int (R.len j)∧a4.aD 28=int i∧a4.aD 5=int i∧a4.aD 6=ptr s'.next)→aC [] s' s4→Obj s4 s'.next [int (PR.SM j i).k,int (PR.SM j i).m,int (PR.SM j i).i]→Ψ8 .normal a4 s4:=by
    rintro a4 s4 ⟨r0,r1,r19,r20,r21,r3,r4,r27,r28,r5,r6⟩ k4 c4
    refine hΨ8 _ _ ?_
    have kk:=hk.trans k4.any
    have H4:=H.aF (k1.any.trans kk) hF
    have hp:=R.gh (k:=j) (by omega) hi
    obtain⟨b,off,c,hslot,haddr⟩:=H.slot (k:=j) (by omega) hi
    rw[hsl] at hslot
    obtain⟨rfl,rfl⟩:sa=some ⟨b,off,none⟩∧sc=c:=by
     injection hslot with q1 q2 q3;exact⟨q1,q3⟩
    have lv:=H4.get hp
    rw[haddr] at lv
    have lp:aS s4.look ⟨s'.next,0,none⟩ 3=some [int (PR.SM j i).k,int (PR.SM j i).m,int (PR.SM j i).i]:=c4.aS (i:=0) (k:=3) (Nat.le_refl _)
    have g1:(0:Int)≤(i:Int):=Int.natCast_nonneg _
    have g2:(i:Int)<(R.len j:Int):=by omega
    have hLL:(R.upto j++R.part j i).length≤192:=by
     rw[List.length_append]
     have:=R.WS j i
     have:=R.YB hm4 hql (k:=j) (by omega)
     omega
    refine aA fun Ψ10 hΨ10 hΨ10'=>?_
    refine aQ [] [] [(5,47)] (by kernel_rfl) (by kernel_rfl) (by rfl) fun O hO ΨR hR=>?_
    have y5:∀ a,aE O a 5=aM (a.aD 47):=hO (5,47) (by simp)
    by_cases hv:R.get (PR.SM j i)=0
    ·have ev:(R.get (PR.SM j i)==0)=true:=by rw[beq_iff_eq];exact hv
     simp only[eB,↓reduceIte,zA,reduceCtorEq,zE,zB,zC,zD,zF,r4,r5,g1,g2,and_self,aJ,Int.toNat_natCast,Nat.mul_one,lv,y5,bne,ev]
     refine hR _ _ (hΨ10 _ _ ?_)
     simp only[eB,↓reduceIte,zA,reduceCtorEq,zE,zB,zC,zD,zF]
     refine i1 _ _ ⟨?_,?_,?_,?_,?_,?_,?_,?_,?_,kk.cB 28,?_⟩
     all_goals try simp only[eB,↓reduceIte,zA,reduceCtorEq,zE,zB,zC,zD,zF,r0,r1,r19,r20,r21,r3,r4,r27,r28]
     rw[R.EC]
     unfold PR.one
     rw[if_pos hv,List.append_nil]
     exact hJ _ _ _ hJ' (k4.cB 28)
    ·have ev:(R.get (PR.SM j i)==0)=false:=by rw[beq_eq_false_iff_ne];exact hv
     simp only[eB,↓reduceIte,zA,reduceCtorEq,zE,zB,zC,zD,zF,r4,r5,g1,g2,and_self,aJ,Int.toNat_natCast,Nat.mul_one,lv,y5,bne,ev,r0,r6,lp]
     refine bc (y:=y) (args:=[rM (PR.SM j i),.pointer (some (R.addr (PR.SM j i)))]) ?_ ?_ ?_
     ·simp only[eB,↓reduceIte,zA,reduceCtorEq,zE,zB,zC,zD,zF]
     ·simp only[eB,↓reduceIte,zA,reduceCtorEq,zE,zB,zC,zD,zF,haddr]
     refine(hy _ _ _ hLL (kk.cB 28) (hJ _ _ _ hJ' (k4.cB 28)) hp hv).mono ?_
     rintro v s7 ⟨rfl,hJ7,k7⟩
     try simp only[eB,↓reduceIte,zA,reduceCtorEq,zE,zB,zC,zD,zF,y5]
     refine hR _ _ (hΨ10 _ _ ?_)
     simp only[eB,↓reduceIte,zA,reduceCtorEq,zE,zB,zC,zD,zF]
     refine i1 _ _ ⟨?_,?_,?_,?_,?_,?_,?_,?_,?_,k7,?_⟩
     all_goals try simp only[eB,↓reduceIte,zA,reduceCtorEq,zE,zB,zC,zD,zF,r0,r1,r19,r20,r21,r3,r4,r27,r28]
     rw[R.EC]
     unfold PR.one
     rw[if_neg hv,← List.append_assoc]
     exact hJ7
   refine aA fun Ψ9 hΨ9 hΨ9'=>?_
   simp only[eB,↓reduceIte,zA,reduceCtorEq,zE,zB,zC,zD,zF,r3]
   by_cases hj0:j=0
   ·have ej:((j:Int)==0)=true:=by rw[beq_iff_eq];omega
    simp only[eB,↓reduceIte,zA,reduceCtorEq,zE,zB,zC,zD,zF,ej]
    refine hΨ9 _ _ ?_
    have w1:IntKind.i64.wrap ((i:Int).tdiv 16)=((i/16:Nat):Int):=by
     rw[Int.tdiv_eq_ediv_of_nonneg (by omega),aR (by omega) (by omega)];omega
    have w2:(i:Int).tmod 16=((i%16:Nat):Int):=by
     rw[Int.tmod_eq_emod_of_nonneg (by omega)];omega
    obtain⟨s5,e5,c5,k5⟩:=c3.store k23.ok (i:=1) (vs:=[int ((i/16:Nat):Int)]) (by simp) rfl
    obtain⟨s6,e6,c6,k6⟩:=c5.store k5.ok (i:=2) (vs:=[int ((i%16:Nat):Int)]) (by simp[oI]) rfl
    have k26:aC [] s' s6:=k23.step (k5.trans k6) fun g hg=>.inr (by rw[List.mem_singleton.1 hg];exact hk.ok.fresh _ (Nat.le_refl _))
    simp only[eB,↓reduceIte,zA,reduceCtorEq,zE,zB,zC,zD,zF,r28,w1,w2,e5,Option.getD,e6]
    refine rest _ _ ⟨?_,?_,?_,?_,?_,?_,?_,?_,?_,?_,?_⟩ k26 ?_
    all_goals try simp only[eB,↓reduceIte,zA,reduceCtorEq,zE,zB,zC,zD,zF,r0,r1,r19,r20,r21,r3,r4,r27,r28]
    unfold PR.SM
    simp only[if_pos hj0]
    exact c6
   ·have ej:((j:Int)==0)=false:=by rw[beq_eq_false_iff_ne];omega
    simp only[eB,↓reduceIte,zA,reduceCtorEq,zE,zB,zC,zD,zF,ej]
    refine hΨ9 _ _ ?_
    simp only[eB,↓reduceIte,zA,reduceCtorEq,zE,zB,zC,zD,zF]
    refine rest _ _ ⟨?_,?_,?_,?_,?_,?_,?_,?_,?_,?_,?_⟩ k23 ?_
    all_goals try simp only[eB,↓reduceIte,zA,reduceCtorEq,zE,zB,zC,zD,zF,r0,r1,r19,r20,r21,r3,r4,r27,r28]
    unfold PR.SM
    simp only[if_neg hj0]
    exact c3
  ·rintro i a' s' hi ⟨r0,r1,r19,r20,r21,r3,r4,r27,r28,hk,hJ'⟩ Ψ' i1
   simp only[eB,↓reduceIte,zA,reduceCtorEq,zE,zB,zC,zD,zF,r28]
   refine i1 _ _ ⟨?_,?_,?_,?_,?_,?_,?_,?_,?_,hk,hJ'⟩
   all_goals simp only[eB,↓reduceIte,zA,reduceCtorEq,zE,zB,zC,zD,zF,r0,r1,r19,r20,r21,r3,r4,r27]
   rw[aR (by omega) (by omega)];rfl
  ·rintro a' s' ⟨r0,r1,r19,r20,r21,r3,r4,r27,r28,hk,hJ'⟩
   refine hΨ5e _ _ (h1 _ _ ⟨r0,r1,r19,r20,r21,hk,?_⟩)
   rw[R.PS];exact hJ'
  ·refine⟨?_,?_,?_,?_,?_,?_,?_,?_,?_,hk,?_⟩
   all_goals try simp only[eB,↓reduceIte,zA,reduceCtorEq,zE,zB,zC,zD,zF,r0,r1,r19,r20,r21,hsl]
   ·rfl
   ·rw[show R.part j 0=[] from rfl,List.append_nil];exact hJ'
 ·rintro j a' s' hj ⟨r0,r1,r19,r20,r21,hk,hJ'⟩ Ψ' h1
  simp only[eB,↓reduceIte,zA,reduceCtorEq,zE,zB,zC,zD,zF,r21]
  refine h1 _ _ ⟨?_,?_,?_,?_,?_,hk,hJ'⟩
  all_goals simp only[eB,↓reduceIte,zA,reduceCtorEq,zE,zB,zC,zD,zF,r0,r1,r19,r20]
  rw[aR (by omega) (by omega)];rfl
 ·rintro a' s' ⟨r0,r1,r19,r20,r21,hk,hJ'⟩
  refine hΨ2e _ _ ?_
  simp only[eB,↓reduceIte,zA,reduceCtorEq,zE,zB,zC,zD,zF]
  obtain⟨N,g1,g2⟩:=hJJ _ _ hJ'
  exact hΦ N _ g2 (fun b hb=>by have:=g1 b hb;omega) (k1.any.trans hk)
 ·refine⟨?_,?_,?_,?_,?_,.refl k1.ok,hJ00⟩
  all_goals simp only[eB,↓reduceIte,zA,reduceCtorEq,zE,zB,zC,zD,zF]
  all_goals rfl
end
open Go.Proofs
set_option maxRecDepth 100000
set_option maxHeartbeats 1000000
def HU (s:St) (l:Nat) (a:bD) (ps:Array Tmp) (sa bd:Code):Prop:=∃ dF,s.heap.get l=some (.loop .ready none a.tmps a.nt ps sa bd dF)
theorem HU.aF {s s':St} {l:Nat} {a:bD} {ps:Array Tmp} {sa bd:Code} {F:List Nat} (h:HU s l a ps sa bd) (k:aC F s s') (hl:l∉F):HU s' l a ps sa bd:=by
 obtain⟨v,h⟩:=h
 exact⟨v,k.mC _ _ h hl⟩
theorem ij {q:Bool} {X:Env} {K:qT} {r:Option Nat} {g:Operand} {ps:Array Tmp} {sa bd:Code} {a:bD} {s:St} {Φ:cP→bD→St→Prop} {f:FuncId} {first captured:Array Value} (hs:Ok s) (hg:a.eval g=.func (.func f) first captured) (hlive:kV r s=true)
  (h:∀ (LA:St→Prop) s1,(∀ F s' s'',LA s'→aC F s' s''→s.next∉F→LA s'')→aC [] s s1→s.next<s1.next→LA s1 →
   (∀ q' s' args Ψ,Ok s'→LA s'→args.length=ps.size →
    jU q' X K (some s.next) sa {tmps:=lB a.tmps (ps.toList.zip args),nt:=a.nt} s' (fun e a1 s2=>e=.normal∧∃ F,aC F s' s2∧s.next∉F ∧
     ∀ s3,aC [s.next] s2 s3→jU q' X K (some s.next) bd a1 s3 (fun e _ s4=>e=.normal∧∃ F,aC F s3 s4∧s.next∉F∧∀ s5,aC [s.next] s4 s5→LA s5→Ψ (.bool true) s5)) →
    nH q' X K s' (.func (.yield s.next) #[] #[]) args Ψ) →
   okF q X K f (first.toList++[.func (.yield s.next) #[] #[]]++captured.toList) s1 fun _ s'=>Ok s'∧LA s'∧∀ s'',aC [s.next] s' s''→Φ .normal a s''):jU q X K r (.rangeFunc g ps sa bd) a s Φ:=by
 refine okC_rf hg hlive ?_
 have k1:aC [] s (s.new fun v=>.loop .ready none a.tmps a.nt ps sa bd v):=(aC.refl hs).new (.inr (Nat.le_refl _))
 have hl:HU (s.new fun v=>.loop .ready none a.tmps a.nt ps sa bd v) s.next a ps sa bd:=⟨s.cM,by simp only[St.new,St.put,PT.bU,if_true]⟩
 have hx:=h (fun s'=>HU s' s.next a ps sa bd) _ (fun F s' s'' h k hF=>h.aF k hF) k1 (by show s.next<s.next+2;omega) hl ?_
 ·refine hx.mono fun v s' h=>?_
  obtain⟨hok,⟨dF,h1⟩,h2⟩:=h
  exact⟨_,_,_,_,_,_,_,h1,by simp,h2 _ (.uU hok h1 (.inr (Nat.le_refl _)) (List.mem_singleton.2 rfl))⟩
 ·rintro q' s' args Ψ hs' ⟨dF,hl'⟩ hn hc
  rw[wA]
  refine okR_of hl' (by simpa using hn) ?_
  refine hc.mono ?_
  rintro e a1 s2 ⟨rfl,F,k2,hF,hb⟩
  have h2:=k2.mC _ _ hl' hF
  refine⟨rfl,_,_,_,_,_,_,_,h2,?_⟩
  refine(hb _ (.uU k2.ok h2 (.inr (Nat.le_refl _)) (List.mem_singleton.2 rfl))).mono ?_
  rintro e a4 s4 ⟨rfl,G,k4,hG,h5⟩
  have h4:=k4.mC s.next _ (by simp only[St.put,PT.bU,if_true];rfl) hG
  refine⟨rfl,_,_,_,_,_,_,_,_,h4,h5 _ (.uU k4.ok h4 (.inr (Nat.le_refl _)) (List.mem_singleton.2 rfl)) ⟨s4.cM,by simp only[St.put,PT.bU,if_true]⟩⟩
theorem WU (a:bD) (x y:Nat) (v w:Value):({tmps:=lB a.tmps ((#[x,y]:Array Tmp).toList.zip [v,w]),nt:=a.nt}:bD)=(a.put (some x) v).put (some y) w:=rfl
section
variable {kc:Kc} {q:Bool} {s:St} {Φ:Value→St→Prop} {r:Nat} {R:PR}
theorem aA9:type_of% (An @RC<|An @RO<|An @RD<|An @RV<|An @RB<|@RG):=An @RC<|An @RO<|An @RD<|An @RV<|An @RB<|@RG
theorem OV (hs:Ok s) (hΦ:∀ s',aC [] s s'→Obj s' s.next [ptr r]→s.next<s'.next→Φ (.func (.func 222) #[] #[ptr s.next]) s'):okF q X (KO kc) 160 [ptr r] s Φ:=by
 refine aG rfl fn_160 rfl (rs:=[.tmp 2]) rfl (N:=4) rfl rfl ?_
 refine aA fun Ψ0 hΨ0 hΨ0'=>?_
 simp only[aA9,↓reduceIte,zA,reduceCtorEq,zE,zB,zC,zD,zF]
 obtain⟨s1,e1,k1,c1,n1⟩:=aT hs (L:=[ptr r]) (n:=1) (e:=35) rfl
 rw[e1]
 refine hΨ0 _ _ ?_
 simp only[aA9,↓reduceIte,zA,reduceCtorEq,zE,zB,zC,zD,zF]
 exact hΦ _ k1 c1 (by omega)
theorem bB.cH (hs:Ok s) (H:bB s r R):∀ x∈R.aU r,x<s.next:=by
 intro x hx
 unfold PR.aU at hx
 rcases List.mem_append.1 hx with h | h
 ·simp only[List.mem_cons,List.not_mem_nil,or_false] at h
  rcases h with rfl | rfl | rfl
  ·exact H.c.lt hs
  ·exact H.cs.lt hs
  ·exact H.cg.lt hs
 ·exact H.cq.lt hs x h
def pS (p:tS):List Value:=[int p.k,int p.m,int p.i]
theorem PR.xI (R:PR) (h4:R.m≤4) (hq:R.q.length≤64):R.all.length≤192:=R.YB h4 hq (k:=3) (Nat.le_refl _)
theorem uq (L:List tS):(L.flatMap pS).length=L.length*3:=by
 induction L with
 | nil=>rfl
 | cons p L ih=>rw[List.flatMap_cons,List.length_append,ih];simp[pS];omega
theorem qF:type_of% (An @RX<|An @rj<|An @mY<|An @nO<|An @vw<|An @iH<|An @II<|@aA0):=An @RX<|An @rj<|An @mY<|An @nO<|An @vw<|An @iH<|An @II<|@aA0
theorem uV (hs:Ok s) (H:bB s r R) (hΦ:∀ v s',kL s' 118 3 v (R.all.flatMap pS)→(∃ a c,v=.slice a R.all.length c)→aC [] s s'→(∀ b∈nameOf v,s.next≤b)→Φ v s'):okF q X (KO kc) 68 [ptr r] s Φ:=by
 refine aG rfl fn_68 rfl (rs:=[.tmp 2]) rfl (N:=17) rfl rfl ?_
 refine aA fun Ψ0 hΨ0 hΨ0'=>?_
 simp only[qF,↓reduceIte,zA,reduceCtorEq,zE,zB,zC,zD,zF]
 refine hΨ0 _ _ ?_
 refine aA fun Ψ1 hΨ1 hΨ1'=>?_
 refine aA fun Ψ2 hΨ2 hΨ2'=>?_
 simp only[qF,↓reduceIte,zA,reduceCtorEq,zE,zB,zC,zD,zF]
 refine aB ?_ (mK H ?_)
 ·simp only[qF,↓reduceIte,zA,reduceCtorEq,zE,zB,zC,zD,zF]
 try simp only[qF,↓reduceIte,zA,reduceCtorEq,zE,zB,zC,zD,zF]
 refine hΨ2 _ _ ?_
 simp only[qF,↓reduceIte,zA,reduceCtorEq,zE,zB,zC,zD,zF]
 refine hΨ1 _ _ ?_
 refine aA fun Ψ3 hΨ3 hΨ3'=>?_
 simp only[qF,↓reduceIte,zA,reduceCtorEq,zE,zB,zC,zD,zF]
 obtain⟨s1,e1,k1,c1,n1⟩:=aT hs (L:=[.slice none 0 0]) (n:=1) (e:=115) rfl
 rw[e1]
 refine hΨ3 _ _ ?_
 refine aA fun Ψ4 hΨ4 hΨ4'=>?_
 refine aA fun Ψ5 hΨ5 hΨ5'=>?_
 simp only[qF,↓reduceIte,zA,reduceCtorEq,zE,zB,zC,zD,zF]
 refine aB ?_ (OV (r:=r) k1.ok fun s2 k2 c2 n2=>?_)
 ·simp only[qF,↓reduceIte,zA,reduceCtorEq,zE,zB,zC,zD,zF]
 try simp only[qF,↓reduceIte,zA,reduceCtorEq,zE,zB,zC,zD,zF]
 refine hΨ5 _ _ ?_
 refine aL fun Ψ6 hΨ6 hΨ6e hΨ6'=>?_
 refine ij (f:=222) (first:=#[]) (captured:=#[ptr s1.next]) k2.ok ?_ rfl ?_
 ·simp only[qF,↓reduceIte,zA,reduceCtorEq,zE,zB,zC,zD,zF]
 intro LA s3 hLA k3 n3 hloop hyield
 have H3:=H.aN ((k1.trans k2).trans k3)
 have k03:=(k1.trans k2).trans k3
 refine LG (x:=s1.next) (F:=[s2.next,s.next]) (J:=fun L N s'=>Ok s'∧LA s'∧∃ v,Obj s' s.next [v]∧kL s' 118 3 v (L.flatMap pS)∧nameOf v=N∧∃ a c,v=.slice a L.length c) k3.ok H3 (c2.aF k3 (by simp)) ?_ ?_ ?_ ?_ ?_ ?_ ?_
 ·intro b hb
  have:=H.cH hs b hb
  simp;omega
 ·simp;omega
 ·simp;omega
 ·rintro L N s' s'' ⟨g0,g1,v,g2,g3,g4,g5⟩ k
  exact⟨k.ok,hLA _ _ _ g1 k (by simp),v,g2.aF k (by simp),g3.aF k (by simp),g4,g5⟩
 ·rintro L N p s' hL k ⟨g0,g1,v,g2,g3,g4,a,c,rfl⟩ hN hp hv
  refine hyield false s' _ _ g0 g1 rfl ?_
  rw[WU]
  obtain⟨t1,e1,k4,d1,m1⟩:=aT g0 (L:=[int 0,int 0,int 0]) (n:=3) (e:=118) rfl
  obtain⟨t2,e2,d2,k5⟩:=d1.storeAll k4.ok (vs:=pS p) rfl rfl
  unfold pS at e2 d2
  have k45:aC [] s' t2:=k4.step k5 fun g hg=>.inr (by rw[List.mem_singleton.1 hg];exact g0.fresh _ (Nat.le_refl _))
  simp only[qF,↓reduceIte,zA,reduceCtorEq,zE,zB,zC,zD,zF]
  rw[e1,e2]
  simp only[qF,↓reduceIte,zA,reduceCtorEq,zE,zB,zC,zD,zF]
  refine⟨[],k45,by simp,fun t3 k6=>?_⟩
  have D:=d2.aF k6 (by have:=k.next;simp;omega)
  have g2':=(g2.aF k45 (by simp)).aF k6 (by simp;omega)
  have l0:=g2'.load (i:=0) rfl
  have lp:aS t3.look ⟨s'.next,0,none⟩ 3=some [int p.k,int p.m,int p.i]:=D.aS (i:=0) (k:=3) (Nat.le_refl _)
  obtain⟨t4,e4,k7,d4,m4⟩:=aT k6.ok (L:=[int p.k,int p.m,int p.i]) (n:=3) (e:=118) rfl
  obtain⟨w,t5,e5,b5,k8,m5,a5,c5,rfl⟩:=eI (X:=X) (t:=115) (e:=118) (N:=3) (B:=24) (z:=.agg #[int 0,int 0,int 0]) (x:=.slice (some ⟨t3.next,0,none⟩) 1 1) (k:=1) (new:=pS p) (by kernel_rfl) (by kernel_rfl) rfl k7.ok (by omega) (((g3.aF k45 (by simp)).aF k6 (fun b hb hb'=>by have:=hN b (by rw[← g4];exact hb);simp at hb';omega)).aF k7 (by simp)) rfl (gW (by omega) (d4.aS (i:=0) (k:=3) (Nat.le_refl _))) rfl rfl (by omega) (by omega)
  have hsn:s.next∉nameOf (.slice a L.length c):=fun h=>by have:=hN _ (by rw[← g4];exact h);omega
  obtain⟨t6,e6,d6,k9⟩:=((g2'.aF k7 (by simp)).aF k8 hsn).storeAll k8.ok (vs:=[.slice a5 (L.length+1) c5]) rfl rfl
  simp only[qF,↓reduceIte,zA,reduceCtorEq,zE,zB,zC,zD,zF,l0,lp]
  rw[e4]
  refine jZ ?_ e5 ?_
  ·simp only[qF,↓reduceIte,zA,reduceCtorEq,zE,zB,zC,zD,zF]
  simp only[qF,↓reduceIte,zA,reduceCtorEq,zE,zB,zC,zD,zF,e6]
  have n45:=k45.next
  have n6:=k6.next
  have n7:=k7.next
  have kF:aC (s.next::N) t3 t6:=(k7.any.trans (k8.mono fun x hx=>List.mem_cons_of_mem _ (by rw[← g4];exact hx))).trans (k9.mono fun x hx=>by simp at hx;simp[hx])
  have hold:∀ b∈nameOf (.slice a5 (L.length+1) c5),b∈N∨s'.next≤b:=fun b hb=>by
   rcases m5 b hb with h | h
   ·exact .inl (by rw[← g4];exact h)
   ·right;omega
  have hs':=k.next
  have hge:∀ b∈nameOf (.slice a5 (L.length+1) c5),s3.next≤b:=fun b hb=>by
   rcases hold b hb with h | h
   ·exact hN b h
   ·omega
  refine⟨s.next::N,kF,?_,fun s5 k10 la=>⟨nameOf (.slice a5 (L.length+1) c5),⟨k10.ok,la,_,d6.aF k10 (by simp;omega),?_,rfl,a5,c5,by rw[List.length_append];rfl⟩,?_,hold⟩⟩
  ·intro h
   rcases List.mem_cons.1 h with h | h
   ·omega
   ·have:=hN _ h;omega
  ·rw[List.flatMap_append,List.flatMap_singleton]
   refine(b5.aF k9 fun b hb hb'=>?_).aF k10 fun b hb hb'=>?_
   ·have:=hge b hb;simp at hb';omega
   ·have:=hge b hb;simp at hb';omega
  ·exact((k45.any.trans (k6.mono fun x hx=>by simp at hx;simp[hx])).trans (kF.mono fun x hx=>List.mem_cons_of_mem _ hx)).trans (k10.mono fun x hx=>by simp at hx;simp[hx])
 ·exact⟨k3.ok,hloop,_,(c1.aF k2 (by simp)).aF k3 (by simp),.nil,rfl,none,0,rfl⟩
 ·rintro N s' ⟨g0,g1,v,g2,g3,g4,a,c,rfl⟩ hN k
  refine⟨g0,g1,fun s'' k'=>?_⟩
  refine hΨ6 _ _ (hΨ4 _ _ ?_)
  have l0:=(g2.aF k' (by simp;omega)).load (i:=0) rfl
  simp only[qF,↓reduceIte,zA,reduceCtorEq,zE,zB,zC,zD,zF,l0]
  refine hΦ _ _ (g3.aF k' fun b hb hb'=>?_) ⟨_,_,rfl⟩ ?_ fun b hb=>?_
  ·have:=hN b (by rw[← g4];exact hb);simp at hb';omega
  ·exact(k03.step k fun g hg=>.inr (hs.fresh g (by simp at hg;omega))).step k' fun g hg=>.inr (hs.fresh g (by simp at hg;omega))
  ·have:=hN b (by rw[← g4];exact hb);omega
end
open Go.Proofs
set_option maxRecDepth 100000
set_option maxHeartbeats 1000000
def once (l:List Int) (x:Int):List Int:=if l.contains x=true then l else l++[x]
def PR.gL (R:PR) (L:List tS):List Int:=(L.map R.get).foldl once []
def PR.leads (R:PR):List Int:=R.gL R.all
theorem PR.uI (R:PR) (L:List tS) (p:tS):R.gL (L++[p])=once (R.gL L) (R.get p):=by
 unfold gL;rw[List.map_append,List.foldl_append];rfl
theorem PR.FO (R:PR):∀ L:List tS,(R.gL L).length≤L.length:=by
 intro L
 have:∀ (l:List Int) acc,(l.foldl once acc).length≤acc.length+l.length:=by
  intro l
  induction l with
  | nil=>intro acc;exact Nat.le_refl _
  | cons x l ih =>
   intro acc
   rw[List.foldl_cons,List.length_cons]
   have h1:=ih (once acc x)
   have h2:(once acc x).length≤acc.length+1:=by unfold once;split <;> simp
   omega
 have:=this (L.map R.get) []
 rw[List.length_map] at this
 simpa [gL] using this
section
variable {kc:Kc} {q:Bool} {s:St} {Φ:Value→St→Prop} {r:Nat} {R:PR}
theorem kQ:type_of% (An @RX<|An @al_62<|An @cY<|An @bF<|An @eG<|@GL):=An @RX<|An @al_62<|An @cY<|An @bF<|An @eG<|@GL
theorem XH (hs:Ok s) (H:bB s r R) (hΦ:∀ v s',kL s' 3 1 v (R.leads.map int)→(∃ a c,v=.slice a R.leads.length c)→aC [] s s'→(∀ b∈nameOf v,s.next≤b)→Φ v s'):okF q X (KO kc) 71 [ptr r] s Φ:=by
 refine aG rfl fn_71 rfl (rs:=[.tmp 2]) rfl (N:=26) rfl rfl ?_
 refine aA fun Ψ0 hΨ0 hΨ0'=>?_
 simp only[kQ,↓reduceIte,zA,reduceCtorEq,zE,zB,zC,zD,zF]
 refine hΨ0 _ _ ?_
 refine aA fun Ψ1 hΨ1 hΨ1'=>?_
 refine aA fun Ψ2 hΨ2 hΨ2'=>?_
 simp only[kQ,↓reduceIte,zA,reduceCtorEq,zE,zB,zC,zD,zF]
 refine aB ?_ (mK H ?_)
 ·simp only[kQ,↓reduceIte,zA,reduceCtorEq,zE,zB,zC,zD,zF]
 try simp only[kQ,↓reduceIte,zA,reduceCtorEq,zE,zB,zC,zD,zF]
 refine hΨ2 _ _ ?_
 simp only[kQ,↓reduceIte,zA,reduceCtorEq,zE,zB,zC,zD,zF]
 refine hΨ1 _ _ ?_
 refine aA fun Ψ3 hΨ3 hΨ3'=>?_
 simp only[kQ,↓reduceIte,zA,reduceCtorEq,zE,zB,zC,zD,zF]
 obtain⟨s1,e1,k1,c1,n1⟩:=aT hs (L:=[.slice none 0 0]) (n:=1) (e:=62) rfl
 rw[e1]
 refine hΨ3 _ _ ?_
 refine aA fun Ψ4 hΨ4 hΨ4'=>?_
 refine aA fun Ψ5 hΨ5 hΨ5'=>?_
 simp only[kQ,↓reduceIte,zA,reduceCtorEq,zE,zB,zC,zD,zF]
 refine aB ?_ (OV (r:=r) k1.ok fun s2 k2 c2 n2=>?_)
 ·simp only[kQ,↓reduceIte,zA,reduceCtorEq,zE,zB,zC,zD,zF]
 try simp only[kQ,↓reduceIte,zA,reduceCtorEq,zE,zB,zC,zD,zF]
 refine hΨ5 _ _ ?_
 refine aL fun Ψ6 hΨ6 hΨ6e hΨ6'=>?_
 refine ij (f:=222) (first:=#[]) (captured:=#[ptr s1.next]) k2.ok ?_ rfl ?_
 ·simp only[kQ,↓reduceIte,zA,reduceCtorEq,zE,zB,zC,zD,zF]
 intro LA s3 hLA k3 n3 hloop hyield
 have H3:=H.aN ((k1.trans k2).trans k3)
 have k03:=(k1.trans k2).trans k3
 refine LG (x:=s1.next) (F:=[s2.next,s.next]) (J:=fun L N s'=>Ok s'∧LA s'∧∃ v,Obj s' s.next [v]∧kL s' 3 1 v ((R.gL L).map int)∧nameOf v=N∧∃ a c,v=.slice a (R.gL L).length c) k3.ok H3 (c2.aF k3 (by simp)) ?_ ?_ ?_ ?_ ?_ ?_ ?_
 ·intro b hb
  have:=H.cH hs b hb
  simp;omega
 ·simp;omega
 ·simp;omega
 ·rintro L N s' s'' ⟨g0,g1,v,g2,g3,g4,g5⟩ k
  exact⟨k.ok,hLA _ _ _ g1 k (by simp),v,g2.aF k (by simp),g3.aF k (by simp),g4,g5⟩
 ·rintro L N p s' hL k ⟨g0,g1,v,g2,g3,g4,a,c,rfl⟩ hN hp hv
  have hsn:s.next∉nameOf (.slice a (R.gL L).length c):=fun h=>by have:=hN _ (by rw[← g4];exact h);omega
  have hLl:=R.FO L
  have hs':=k.next
  have Hp:bB s' r R:=H3.aF k fun b hb=>by have:=H.cH hs b hb;simp;omega
  refine hyield false s' _ _ g0 g1 rfl ?_
  rw[WU]
  simp only[kQ,↓reduceIte,zA,reduceCtorEq,zE,zB,zC,zD,zF]
  refine⟨[],.refl g0,by simp,fun t3 k6=>?_⟩
  have n6:=k6.next
  have H6:bB t3 r R:=Hp.aF k6 fun b hb=>by have:=H.cH hs b hb;simp;omega
  have lv:=H6.get hp
  have g2':=g2.aF k6 (by simp;omega)
  have l0:=g2'.load (i:=0) rfl
  have g3':=g3.aF k6 (fun b hb hb'=>by have:=hN b (by rw[← g4];exact hb);simp at hb';omega)
  have ksk:aC [] t3 (t3.skip 12):=.skip k6.ok 12
  refine aQ [] [] [] (by kernel_rfl) (by kernel_rfl) (by rfl) fun O hO ΨR hR=>?_
  simp only[kQ,↓reduceIte,zA,reduceCtorEq,zE,zB,zC,zD,zF,l0,lv]
  refine aW ?_ (GK (R.get p) (g3'.aF ksk (by simp)).sl (by omega) ksk.ok fun t4 k7=>?_)
  ·simp only[kQ,↓reduceIte,zA,reduceCtorEq,zE,zB,zC,zD,zF]
  have k37:=ksk.trans k7
  have n37:=k37.next
  have l4:=(g2'.aF k37 (by simp)).load (i:=0) rfl
  have lv4:=(H6.aN k37).get hp
  have g4':=g3'.aF k37 (by simp)
  cases hc:(R.gL L).contains (R.get p) with
  | true =>
   try simp only[kQ,↓reduceIte,zA,reduceCtorEq,zE,zB,zC,zD,zF]
   refine hR _ _ ?_
   simp only[kQ,↓reduceIte,zA,reduceCtorEq,zE,zB,zC,zD,zF]
   refine⟨[],k37,by simp,fun s5 k10 la=>⟨N,⟨k10.ok,la,_,(g2'.aF k37 (by simp)).aF k10 (by simp;omega),?_,g4,a,c,?_⟩,?_,fun b hb=>.inl hb⟩⟩
   ·rw[R.uI];unfold once;rw[if_pos hc]
    exact g4'.aF k10 fun b hb hb'=>by have:=hN b (by rw[← g4];exact hb);simp at hb';omega
   ·rw[R.uI];unfold once;rw[if_pos hc]
   ·exact((k6.mono fun x hx=>by simp at hx;simp[hx]).trans k37.any).trans (k10.mono fun x hx=>by simp at hx;simp[hx])
  | false =>
   try simp only[kQ,↓reduceIte,zA,reduceCtorEq,zE,zB,zC,zD,zF]
   refine hR _ _ ?_
   simp only[kQ,↓reduceIte,zA,reduceCtorEq,zE,zB,zC,zD,zF]
   refine aQ [] [] [] (by kernel_rfl) (by kernel_rfl) (by rfl) fun O hO ΨR hR=>?_
   simp only[kQ,↓reduceIte,zA,reduceCtorEq,zE,zB,zC,zD,zF,l4,lv4]
   obtain⟨t5,e5,k8,d5,n8⟩:∃ S1,(t4.skip 14).put (t4.next+8) (fun v=>bX.cells (PT.ofList [int (R.get p)]) [] 1 3 false false v)=S1∧aC [] t4 S1∧Obj S1 (t4.next+8) [int (R.get p)]∧S1.next=t4.next+14 :=
    ⟨_,rfl,(aC.skip k7.ok 14).eX (k7.ok.fresh _ (by omega)) (by show t4.next+8<t4.next+14;omega) (by omega) (Nat.le_refl _),Obj.pQ rfl,rfl⟩
   obtain⟨w,t6,e6,b6,k9,m6,a6,c6,rfl⟩:=eI (X:=X) (t:=62) (e:=3) (N:=1) (B:=8) (z:=.int .i64 0) (x:=.slice (some ⟨t4.next+8,0,none⟩) 1 1) (k:=1) (new:=[int (R.get p)]) (by kernel_rfl) (by kernel_rfl) rfl k8.ok (by omega) (g4'.aF k8 (by simp)) rfl (gW (by omega) (d5.aS (i:=0) (k:=1) (Nat.le_refl _))) rfl rfl (by omega) (by omega)
   have hsn':s.next∉nameOf (.slice a (R.gL L).length c):=hsn
   obtain⟨t7,e7,d7,k11⟩:=(((g2'.aF k37 (by simp)).aF k8 (by simp)).aF k9 hsn').storeAll k9.ok (vs:=[.slice a6 ((R.gL L).length+1) c6]) rfl rfl
   rw[e5]
   refine tc ?_ e6 ?_ ?_
   ·simp only[kQ,↓reduceIte,zA,reduceCtorEq,zE,zB,zC,zD,zF]
   ·simp only[kQ,↓reduceIte,zA,reduceCtorEq,zE,zB,zC,zD,zF]
   simp only[kQ,↓reduceIte,zA,reduceCtorEq,zE,zB,zC,zD,zF,e7]
   refine hR _ _ ?_
   simp only[kQ,↓reduceIte,zA,reduceCtorEq,zE,zB,zC,zD,zF]
   have n8:=k8.next
   have kF:aC (s.next::N) t3 t7:=(((k37.any).trans k8.any).trans (k9.mono fun x hx=>List.mem_cons_of_mem _ (by rw[← g4];exact hx))).trans (k11.mono fun x hx=>by simp at hx;simp[hx])
   have hold:∀ b∈nameOf (.slice a6 ((R.gL L).length+1) c6),b∈N∨s'.next≤b:=fun b hb=>by
    rcases m6 b hb with h | h
    ·exact .inl (by rw[← g4];exact h)
    ·right;omega
   have hge:∀ b∈nameOf (.slice a6 ((R.gL L).length+1) c6),s3.next≤b:=fun b hb=>by
    rcases hold b hb with h | h
    ·exact hN b h
    ·omega
   have hsnoc:R.gL (L++[p])=R.gL L++[R.get p]:=by rw[R.uI];unfold once;rw[if_neg (by rw[hc];simp)]
   refine⟨s.next::N,kF,?_,fun s5 k10 la=>⟨nameOf (.slice a6 ((R.gL L).length+1) c6),⟨k10.ok,la,_,d7.aF k10 (by simp;omega),?_,rfl,a6,c6,by rw[hsnoc,List.length_append];rfl⟩,?_,hold⟩⟩
   ·intro h
    rcases List.mem_cons.1 h with h | h
    ·omega
    ·have:=hN _ h;omega
   ·rw[hsnoc,List.map_append]
    refine(b6.aF k11 fun b hb hb'=>?_).aF k10 fun b hb hb'=>?_
    ·have:=hge b hb;simp at hb';omega
    ·have:=hge b hb;simp at hb';omega
   ·exact((k6.mono fun x hx=>by simp at hx;simp[hx]).trans (kF.mono fun x hx=>List.mem_cons_of_mem _ hx)).trans (k10.mono fun x hx=>by simp at hx;simp[hx])
 ·exact⟨k3.ok,hloop,_,(c1.aF k2 (by simp)).aF k3 (by simp),.nil,rfl,none,0,rfl⟩
 ·rintro N s' ⟨g0,g1,v,g2,g3,g4,a,c,rfl⟩ hN k
  refine⟨g0,g1,fun s'' k'=>?_⟩
  refine hΨ6 _ _ (hΨ4 _ _ ?_)
  have l0:=(g2.aF k' (by simp;omega)).load (i:=0) rfl
  simp only[kQ,↓reduceIte,zA,reduceCtorEq,zE,zB,zC,zD,zF,l0]
  refine hΦ _ _ (g3.aF k' fun b hb hb'=>?_) ⟨_,_,rfl⟩ ?_ fun b hb=>?_
  ·have:=hN b (by rw[← g4];exact hb);simp at hb';omega
  ·exact(k03.step k fun g hg=>.inr (hs.fresh g (by simp at hg;omega))).step k' fun g hg=>.inr (hs.fresh g (by simp at hg;omega))
  ·have:=hN b (by rw[← g4];exact hb);omega
end
end Go.Dust
