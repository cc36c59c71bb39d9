/- The plain interpreter D and its laws (Du Dv Dw). -/
import Derived.Test.YtaoiejcaopgjcaaGreatH
import Derived.Carry
import Derived.WideKeyArgs
import Derived.ChangeSame
import Derived.OpenShut
set_option linter.unusedVariables false
set_option linter.unusedSimpArgs false
namespace Go.Dust
variable {P:Program} {call:eR} {round:dK} {ops:Array Oper} {nt base:Nat} {A:Nat→bD} {S:Nat→St} {V:Nat→Value}
variable {ι0:cR} {s0:St} {w0:World} {ds:List Deferred}
def TI (P:Program) (ops:Array Oper) (nt base:Nat) (A:Nat→bD) (S:Nat→St) (V:Nat→Value) (ι0:cR) (s0:St) (w0:World) (ds:List Deferred) (X:Nat→Prop) (act:Act) (w:World):Prop :=
 ∃ T ι HX aX,Inv P ops nt base A S V ι0 s0 w0 ds X act w T ι HX aX
theorem Inv.step {r:Option Nat} {m:Nat} {Q:Exit→Act→World→Prop} (h:qw P call round ops nt base A S V) (hb0:s0.next≤base) {X:Nat→Prop} {act:Act} {w:World} (hv:TI P ops nt base A S V ι0 s0 w0 ds X act w)
  {i:Nat} {o:Oper} (ho:ops[i]?=some o) (hX:¬ X i) (hr:∀ x∈o.after,Region.binds .any x=true→X x.on) {K:Act→World→Prop}
  (hK:∀ act' w',TI P ops nt base A S V ι0 s0 w0 ds (fun k=>X k∨k=i) act' w'→K act' w'):wpOpIn (FW r) m P ops Q i K act w:=by
 obtain⟨T,ι,HX,aX,v⟩:=hv
 have hd:=CP (h.oper ho)
 have hvals:=v.vals h ho hX hr
 unfold wpOpIn
 simp only[ho]
 rw[← v.want h ho hX hr]
 rcases(h.step i o ho).2 with ⟨h1,h2⟩ | ⟨h1,h2,h3⟩
 ·rw[if_pos h1]
  unfold jP at h2
  split at h2
  ·rename_i hk
   split at h2
   ·rename_i v0 hs
    simp only[Option.some.injEq,Prod.mk.injEq] at h2
    obtain⟨rfl,_⟩:=h2
    have hs':=still_mono (H':=HX) (fun hm=>v.reads h ho hX hr hk h1 hm) hs
    obtain⟨u,g1,g2⟩:=GM v.tie hvals hs'
    exact iU hd g1 (hK _ _ ⟨T,ι,HX,_,v.plain h ho hX hr (by rw[hk];decide) (by rw[hk];intro e;cases e) g2⟩)
   ·cases h2
  ·rename_i hk
   split at h2
   ·rename_i v0 f ha
    simp only[Option.some.injEq,Prod.mk.injEq] at h2
    obtain⟨rfl,h2⟩:=h2
    have hfree:=v.free i (h.lt ho) hX
    obtain⟨u,x,g1,g2,g3⟩:=EX (w:=w) hfree hvals ha
    exact iU hd g1 (hK _ _ ⟨T,_,_,_,v.alloc h ho hX hr hk hb0 h2.symm g2 g3⟩)
   ·cases h2
  ·rename_i hk
   split at h2
   ·rename_i p hx
    simp only[Option.some.injEq] at h2
    subst h2
    obtain⟨_,_,hR⟩:=v.here h ho hX hr hk
    refine BK h.hc h.hr hR hvals hd (Φ:=fun p=>p=(V i,S (i+1))) (by rw[hx];rfl) ?_
    intro v' u s' ι' w' hp hv' hR' hE'
    cases hp
    obtain⟨H',hI⟩:=v.effect h ho hX hr hk hv' hR' hE'
    exact hK _ _ ⟨_,_,_,_,hI⟩
   ·cases h2
 ·rw[if_neg (by rw[h1];decide)]
  refine⟨fun _ _=>trivial,hK _ _ ?_⟩
  by_cases hk:bN o.op=.effect
  ·obtain⟨_,_,hR⟩:=v.here h ho hX hr hk
   obtain⟨H',hI⟩:=v.effect h ho hX hr hk (ι':=ι) (w':=w) (u:=undef) (by rw[h2];exact VR.undef _) (by rw[h3];exact hR) (by rw[h3];exact Ext.refl)
   exact⟨_,_,_,_,hI⟩
  ·refine⟨T,ι,HX,_,v.plain h ho hX hr hk ?_ (by rw[h2];exact VR.undef _)⟩
   rintro _ ⟨o',ho',hw'⟩
   rw[ho] at ho';cases ho'
   rw[h1] at hw';cases hw'
theorem Inv.done (h:qw P call round ops nt base A S V) {X:Nat→Prop} {act:Act} {w:World} (hv:TI P ops nt base A S V ι0 s0 w0 ds X act w) (hall:∀ i,i<ops.size→X i) :
  ∃ ι,AR ι (A ops.size) act∧RS P ι (S ops.size) w∧ES ι0 s0 w0 ι (S ops.size) w∧act.defers=ds:=by
 obtain⟨T,ι,HX,aX,v⟩:=hv
 obtain⟨h1,h2⟩:=v.upTo h (Nat.le_refl _) v.top (fun k k1 k2 hk=>by have:=(v.eff k hk).1 (hall k k2);omega) (fun k _ k2 _=>hall k k2)
 have hnt:=h.nt0 ops.size (Nat.le_refl _)
 refine⟨ι,⟨by rw[v.tmps.size,v.nts,hnt],fun t ht=>?_⟩,?_,?_,v.defs⟩
 ·rw[hnt] at ht
  have:(A ops.size).aD t=aX.aD t:=tB.uniq (h.last t _ (Nat.le_refl _)) (v.last t ht) fun k ok hk _=>⟨fun _=>hall k (h.lt hk),fun _=>h.lt hk⟩
  rw[this]
  exact v.tmps.val t (by rw[v.nts];exact ht)
 ·unfold RS;rw[h2];exact v.tie.uk h1
 ·unfold ES;rw[h2]
  exact⟨v.ext.le,v.ext.new,v.ext.nxt,v.ext.os,v.ext.tape,v.ext.output,v.ext.size,v.ext.aF,fun c ⟨b,q,l,k1,k2,k3⟩=>v.ext.own c ⟨b,q,l,h1 b q k1 k2,k2,k3⟩⟩
abbrev Lst (listed:Array Bool) (i:Nat):Prop:=listed.getD i false=true
theorem lst_set {listed:Array Bool} {i:Nat} (hi:i<listed.size):Lst (listed.setIfInBounds i true)=fun k=>Lst listed k∨k=i:=by
 funext k
 apply propext
 simp only[Lst,Array.getD_eq_getD_getElem?,Array.getElem?_setIfInBounds]
 by_cases e:i=k
 ·subst e;simp[hi]
 ·rw[if_neg e]
  constructor
  ·exact fun h=>.inl h
  ·rintro(h | h)
   ·exact h
   ·exact absurd h.symm e
theorem Inv.any {r:Option Nat} {m:Nat} {Q:Exit→Act→World→Prop} (h:qw P call round ops nt base A S V) (hb0:s0.next≤base)
  (hQ:∀ act' w' ι',AR ι' (A ops.size) act'→RS P ι' (S ops.size) w'→ES ι0 s0 w0 ι' (S ops.size) w'→act'.defers=ds→Q .normal act' w') :
  ∀ (fuel:Nat) (listed:Array Bool) (act:Act) (w:World),listed.size=ops.size→listed.toList.count false≤fuel→TI P ops nt base A S V ι0 s0 w0 ds (Lst listed) act w →
   wpAnyIn (FW r) m P .any ops Q fuel listed act w:=by
 have fin:∀ (listed:Array Bool) (act:Act) (w:World),listed.size=ops.size→TI P ops nt base A S V ι0 s0 w0 ds (Lst listed) act w→Region.ready .any ops listed=[]→Q .normal act w:=by
  intro listed act w hsz hv uG
  have hall:∀ i,i<ops.size→Lst listed i:=by
   intro i
   induction i using Nat.strongRecOn with
   | _ i ih =>
    intro hi
    cases hl:listed.getD i false with
    | true=>exact hl
    | false =>
     exfalso
     have hok:ops[i]?=some ops[i]:=by simp[hi]
     have:i∈Region.ready .any ops listed:=by
      refine mem_ready.2 ⟨?_,_,hok,fun e he hb=>?_⟩
      ·have hsi:i<listed.size:=by omega
       simp only[Array.getD_eq_getD_getElem?,Array.getElem?_eq_getElem hsi,Option.getD_some] at hl ⊢
       exact hl
      ·have gU:=h.edges i _ hok e he hb
       exact ih e.on gU (by omega)
     rw[uG] at this
     cases this
  obtain⟨ι,h1,h2,h3,h4⟩:=Inv.done h hv hall
  exact hQ act w ι h1 h2 h3 h4
 intro fuel
 induction fuel with
 | zero =>
  intro listed act w hsz hc hv
  have uG:Region.ready .any ops listed=[]:=by
   refine List.eq_nil_iff_forall_not_mem.2 fun i hi=>?_
   obtain⟨h1,o,ho,_⟩:=mem_ready.1 hi
   have hsi:i<listed.size:=by have:=h.lt ho;omega
   have:false∈listed.toList:=by
    simp only[Array.getD_eq_getD_getElem?,Array.getElem?_eq_getElem hsi,Option.getD_some] at h1
    rw[← h1]
    simp
   have:=List.count_pos_iff.2 this
   omega
  exact⟨uG,fin listed act w hsz hv uG⟩
 | succ fuel ih =>
  intro listed act w hsz hc hv
  refine⟨fun uG=>fin listed act w hsz hv uG,fun i hi=>?_⟩
  obtain⟨h1,o,ho,hr⟩:=mem_ready.1 hi
  have hsi:i<listed.size:=by have:=h.lt ho;omega
  have hli:listed[i]=false:=by simpa only[Array.getD_eq_getD_getElem?,Array.getElem?_eq_getElem hsi,Option.getD_some] using h1
  have hX:¬ Lst listed i:=by
   simp only[Lst,Array.getD_eq_getD_getElem?,Array.getElem?_eq_getElem hsi,Option.getD_some,hli]
   decide
  refine Inv.step h hb0 hv ho hX hr ?_
  intro act' w' hv'
  rw[← lst_set hsi] at hv'
  refine ih _ act' w' (by simpa using hsz) ?_ hv'
  rw[Array.toList_setIfInBounds,List.count_set (by simpa using hsi)]
  rw[if_pos (by simpa using hli),if_neg (by decide)]
  omega
noncomputable def tM (X:Env) (call:eR) (round:dK) (ops:Array Oper) (base i:Nat) (p:bD×St):bD×St×Value :=
 match ops[i]? with
 | some o=>if Region.wanted o (aE ops p.1) then(match jP X call round (base+2*i) p.2 p.1.eval o.op with
   | some (v,s')=>(p.1.put o.dst v,s',v)
   | none=>(p.1,p.2,undef)) else(p.1.put o.dst undef,p.2,undef)
 | none=>(p.1,p.2,undef)
noncomputable def tr (X:Env) (call:eR) (round:dK) (ops:Array Oper) (base:Nat) (a:bD) (s:St):Nat→bD×St
 | 0=>(a,s)
 | i+1=>((tM X call round ops base i (tr X call round ops base a s i)).1,(tM X call round ops base i (tr X call round ops base a s i)).2.1)
theorem JW {X:Env} {a:bD} {s:St}:∀ (rest:List Oper) (k:Nat) (a':bD) (s':St) (l:List rU),(∀ j,rest[j]?=ops[k+j]?)→cI X call round ops base rest k (tr X call round ops base a s k).1 (tr X call round ops base a s k).2=some (a',s',l) →
  tr X call round ops base a s (k+rest.length)=(a',s') ∧
  ∀ j o,rest[j]?=some o→∃ nt,l[j]?=some nt ∧
   ((Region.wanted o (aE ops (tr X call round ops base a s (k+j)).1)=true ∧
    jP X call round (base+2*(k+j)) (tr X call round ops base a s (k+j)).2 (tr X call round ops base a s (k+j)).1.eval o.op=some ((tM X call round ops base (k+j) (tr X call round ops base a s (k+j))).2.2,(tr X call round ops base a s (k+j+1)).2) ∧
    (tr X call round ops base a s (k+j+1)).1=(tr X call round ops base a s (k+j)).1.put o.dst (tM X call round ops base (k+j) (tr X call round ops base a s (k+j))).2.2 ∧
    nt={yK:=true,reads:=bZ (tr X call round ops base a s (k+j)).1.eval (tr X call round ops base a s (k+j)).2.look o.op,pre:=(tr X call round ops base a s (k+j)).2,post:=(tr X call round ops base a s (k+j+1)).2}) ∨
    (Region.wanted o (aE ops (tr X call round ops base a s (k+j)).1)=false∧(tM X call round ops base (k+j) (tr X call round ops base a s (k+j))).2.2=undef∧(tr X call round ops base a s (k+j+1)).2=(tr X call round ops base a s (k+j)).2 ∧
    (tr X call round ops base a s (k+j+1)).1=(tr X call round ops base a s (k+j)).1.put o.dst undef∧nt.yK=false))
 | [],k,a',s',l,_,h=>by
  simp only[cI,Option.some.injEq,Prod.mk.injEq] at h
  obtain⟨h1,h2,_⟩:=h
  refine⟨?_,fun j o hj=>by simp at hj⟩
  rw[← h1,← h2];rfl
 | o::rest,k,a',s',l,hidx,h=>by
  have ho:ops[k]?=some o:=by have:=hidx 0;simpa using this.symm
  have hrest:∀ j,rest[j]?=ops[k+1+j]?:=fun j=>by
   have:=hidx (j+1)
   simpa [show k+(j+1)=k+1+j from by omega] using this
  unfold cI at h
  have htr:tr X call round ops base a s (k+1)=((tM X call round ops base k (tr X call round ops base a s k)).1,(tM X call round ops base k (tr X call round ops base a s k)).2.1):=rfl
  split at h
  ·rename_i hw
   split at h
   ·rename_i v s1 hx
    have hst:tM X call round ops base k (tr X call round ops base a s k)=((tr X call round ops base a s k).1.put o.dst v,s1,v):=by
     unfold tM
     rw[ho]
     simp only
     rw[if_pos hw,hx]
    rw[hst] at htr
    split at h
    ·rename_i a2 s2 l2 hl
     simp only[Option.some.injEq,Prod.mk.injEq] at h
     obtain⟨rfl,rfl,rfl⟩:=h
     obtain⟨g1,g2⟩:=JW rest (k+1) a2 s2 l2 hrest (by rw[htr];exact hl)
     refine⟨by rw[← g1];congr 1;simp;omega,fun j o' hj=>?_⟩
     cases j with
     | zero =>
      simp only[List.getElem?_cons_zero,Option.some.injEq] at hj
      subst hj
      refine⟨_,rfl,.inl ⟨hw,?_,?_,?_⟩⟩
      ·simp only[Nat.add_zero];rw[hst,htr];exact hx
      ·simp only[Nat.add_zero];rw[hst,htr]
      ·simp only[Nat.add_zero];rw[htr]
     | succ j =>
      have:=g2 j o' (by simpa using hj)
      rw[show k+1+j=k+(j+1) from by omega] at this
      simpa only[List.getElem?_cons_succ] using this
    ·cases h
   ·cases h
  ·rename_i hw
   have hw':Region.wanted o (aE ops (tr X call round ops base a s k).1)=false:=by simpa using hw
   have hst:tM X call round ops base k (tr X call round ops base a s k)=((tr X call round ops base a s k).1.put o.dst undef,(tr X call round ops base a s k).2,undef):=by
    unfold tM
    rw[ho]
    simp only
    rw[if_neg hw]
   rw[hst] at htr
   split at h
   ·rename_i a2 s2 l2 hl
    simp only[Option.some.injEq,Prod.mk.injEq] at h
    obtain⟨rfl,rfl,rfl⟩:=h
    obtain⟨g1,g2⟩:=JW rest (k+1) a2 s2 l2 hrest (by rw[htr];exact hl)
    refine⟨by rw[← g1];congr 1;simp;omega,fun j o' hj=>?_⟩
    cases j with
    | zero =>
     simp only[List.getElem?_cons_zero,Option.some.injEq] at hj
     subst hj
     refine⟨_,rfl,.inr ⟨hw',?_,?_,?_,rfl⟩⟩
     ·simp only[Nat.add_zero];rw[hst]
     ·simp only[Nat.add_zero];rw[htr]
     ·simp only[Nat.add_zero];rw[htr]
    | succ j =>
     have:=g2 j o' (by simpa using hj)
     rw[show k+1+j=k+(j+1) from by omega] at this
     simpa only[List.getElem?_cons_succ] using this
   ·cases h
theorem FC (hm:P.follows .mixedOrders=true):AW P:=by
 intro call round hc hr lc lr id ops a s act w ι Φ r m Q hok hod h ha hR hQ
 unfold pM at h
 split at h
 ·exact h.elim
 ·rename_i c hconf
  split at h
  ·rename_i a' s' log hlog
   split at h
   ·rename_i hlk
    obtain⟨g1,g2⟩:=JW (X:=env P) (call:=call) (round:=round) (ops:=ops) (base:=s.next) (a:=a) (s:={heap:=s.heap,next:=s.next+2*ops.size,cM:=s.cM}) ops.toList 0 a' s' log (fun j=>by simp) hlog
    generalize hA:(fun i=>(tr (env P) call round ops s.next a {heap:=s.heap,next:=s.next+2*ops.size,cM:=s.cM} i).1)=A at *
    generalize hS:(fun i=>(tr (env P) call round ops s.next a {heap:=s.heap,next:=s.next+2*ops.size,cM:=s.cM} i).2)=S at *
    generalize hV:(fun i=>(tM (env P) call round ops s.next i (tr (env P) call round ops s.next a {heap:=s.heap,next:=s.next+2*ops.size,cM:=s.cM} i)).2.2)=V at *
    have eA:∀ i,(tr (env P) call round ops s.next a {heap:=s.heap,next:=s.next+2*ops.size,cM:=s.cM} i).1=A i:=fun i=>congrFun hA i
    have eS:∀ i,(tr (env P) call round ops s.next a {heap:=s.heap,next:=s.next+2*ops.size,cM:=s.cM} i).2=S i:=fun i=>congrFun hS i
    have eV:∀ i,(tM (env P) call round ops s.next i (tr (env P) call round ops s.next a {heap:=s.heap,next:=s.next+2*ops.size,cM:=s.cM} i)).2.2=V i:=fun i=>congrFun hV i
    simp only[eA,eS,eV,Nat.zero_add] at g2
    have eA0:A 0=a:=(eA 0).symm
    have eS0:S 0={heap:=s.heap,next:=s.next+2*ops.size,cM:=s.cM}:=(eS 0).symm
    have hst:∀ i o,ops[i]?=some o→A (i+1)=(A i).put o.dst (V i) ∧
      ((Region.wanted o (aE ops (A i))=true∧jP (env P) call round (s.next+2*i) (S i) (A i).eval o.op=some (V i,S (i+1))) ∨
       (Region.wanted o (aE ops (A i))=false∧V i=undef∧S (i+1)=S i)):=by
     intro i o ho
     obtain⟨nt,_,h2⟩:=g2 i o (by simpa using ho)
     rcases h2 with ⟨k1,k2,k3,_⟩ | ⟨k1,k2,k3,k4,_⟩
     ·exact⟨k3,.inl ⟨k1,k2⟩⟩
     ·exact⟨by rw[k2];exact k4,.inr ⟨k1,k2,k3⟩⟩
    have hnt:∀ i,i≤ops.size→(A i).nt=a.nt:=by
     intro i
     induction i with
     | zero=>intro _;rw[eA0]
     | succ i ih =>
      intro hi
      rw[(hst i ops[i] (by simp[show i<ops.size by omega])).1,put_nt]
      exact ih (by omega)
    have hev:∀ i,i≤ops.size→s.next+2*ops.size≤(S i).next:=by
     intro i
     induction i with
     | zero=>intro _;rw[eS0];exact Nat.le_refl _
     | succ i ih =>
      intro hi
      have i1:=ih (by omega)
      rcases(hst i ops[i] (by simp[show i<ops.size by omega])).2 with ⟨_,k⟩ | ⟨_,_,k⟩
      ·have:=(JB (base:=s.next) lc lr (by omega) (by omega) k).next
       omega
      ·rw[k];exact i1
    have hrun:qw P call round ops a.nt s.next A S V:=by
     refine⟨hc,hr,lc,lr,hok,hnt,hst,fun i j oi oj gU hi hj=>SF hod hi hj gU,fun j o ho=>SE hod ho,?_,hev,hR.GZ,?_⟩
     ·intro i j oi oj gU hi hj
      rcases lu hconf hi hj gU with hb | ⟨mm,h1,h2⟩
      ·exact .inl hb
      ·refine .inr ⟨mm,h1,fun x e hxe ox hox hwx hre b hb=>?_⟩
       have h3:=List.all_eq_true.1 hlk (x,e) (h2 _ hxe)
       obtain⟨oe,hoe,hwe⟩:=hre
       obtain⟨nx,k1,k2⟩:=g2 x ox (by simpa using hox)
       obtain⟨ne,q1,q2⟩:=g2 e oe (by simpa using hoe)
       simp only[k1,q1] at h3
       rcases k2 with ⟨_,_,_,k3⟩ | ⟨k3,_⟩
       ·rcases q2 with ⟨_,_,_,q3⟩ | ⟨q3,_⟩
        ·subst k3;subst q3
         simp only[Bool.not_true,Bool.false_or] at h3
         exact List.all_eq_true.1 h3 b hb
        ·rw[hwe] at q3;cases q3
       ·rw[hwx] at k3;cases k3
     ·intro i hi o ho
      rw[eS0] at ho
      cases hd:o.bC with
      | true=>rfl
      | false =>
       obtain⟨l,h1,_⟩:=hR.obj _ o ho hd
       have hodd:=hR.GZ
       rw[hR.fresh (s.next+2*i) (by omega) (by omega)] at h1
       cases h1
    have e1:(A ops.size,S ops.size)=(a',s'):=by
     rw[← g1,← eA,← eS]
     simp
    obtain⟨e2,e3⟩:=Prod.mk.inj e1
    refine wpIn_region_any hm ?_
    refine Inv.any (ι0:=ι) (s0:=s) (w0:=w) (ds:=act.defers) hrun (Nat.le_refl _) ?_ ops.size _ act _ (by simp) (by simp) ?_
    ·intro act' w' ι' h1 h2 h3 h4
     rw[e2] at h1
     rw[e3] at h2 h3
     refine hQ a' s' act' w' ι' h h1 h2 h3 ?_ h4
     rw[← e2];exact hnt _ (Nat.le_refl _)
    ·have hodd:=hR.GZ
     have hX:∀ i,¬ Lst (Array.replicate ops.size false) i:=by
      intro i
      simp only[Lst,Array.getD_eq_getD_getElem?,Array.getElem?_replicate]
      split <;> simp
     refine⟨0,ι,s.look,a,⟨fun j o hj=>absurd hj (hX j),Nat.zero_le _,fun e _=>⟨fun hx=>absurd hx (hX e),fun hx=>by omega⟩,fun i hi=>by omega,?_,?_,fun i hx=>absurd hx (hX i),?_,?_,?_,ha,rfl,?_,rfl⟩⟩
     ·rw[eS0]
      have hR':=hR.drew (w':={w with drawn:=w.drawn+1}) rfl
      exact⟨hR'.even,by simp only;omega,fun b hb hb2=>hR'.fresh b (by simp only at hb;omega) hb2,hR'.qx,hR'.obj,hR'.inj⟩
     ·rw[eS0];exact fun b o hb _=>hb
     ·rw[eS0];exact fun b o hb hd=>.inl ⟨o,hb,hd⟩
     ·intro i hi _
      exact hR.fresh _ (by omega) (by omega)
     ·rw[eS0]
      exact⟨cR.le_refl _,fun _ h _=>h,by simp only;omega,rfl,rfl,rfl,Nat.le_refl _,fun _ _ _=>rfl,fun _ h=>.inl h⟩
     ·intro t ht
      rw[eA0]
      exact .inr ⟨fun i o hx=>absurd hx (hX i),rfl⟩
   ·exact h.elim
  ·exact h.elim
end Go.Dust
namespace Go.Dust
open Go.ChangeShapes Go.RowKit Go.WideShapes
def zX:cR:=fun b=>if b%2=0 then some ⟨b/2,0,0,true⟩ else none
def GN:St:={heap:=.nil,next:=1,cM:=0}
theorem RT (b:Nat):GN.look b=none:=rfl
theorem tie₀ (P:Program) (W:World):RS P zX GN W:=by
 refine⟨fun b=>?_,rfl,fun b _ hb=>?_,fun b l hl hro=>?_,fun b o h=>?_,fun b b' o o' l l' h=>?_⟩
 ·unfold zX
  rw[if_pos (by omega)]
  simp
 ·unfold zX
  rw[if_neg (by omega)]
 ·unfold zX at hl
  split at hl
  ·cases hl;cases hro
  ·cases hl
 ·rw[RT] at h;cases h
 ·rw[RT] at h;cases h
def isTrue:cQ (Value×St)→Bool
 | .ret (.bool true,_)=>true
 | _=>false
theorem ZS {r:cQ (Value×St)} (h:isTrue r=true):r.yY fun p=>p.1=.bool true:=by
 unfold isTrue at h
 split at h
 ·rfl
 ·cases h
theorem km {P:Program} (hm:P.follows .mixedOrders=true) {N:Nat} {f:FuncId} {fn:Func} (hf:P.funcs[f]?=some fn) (hb:fn.body.isSome=true) {args:List Value} {args':Array Value} {W:World}
  (hargs:eF zX args args'.toList) (hrun:(kC (env P) N f args GN).yY fun p=>p.1=.bool true):Calls P f args' W fun e W'=>e=.returned (.bool true)∧Below W.heap.size W W':=by
 obtain⟨_,_,hc,_⟩:=NH (FC hm) N
 obtain⟨fn',h1,_⟩:=hc.fn f args GN _ hrun
 have h2:=(xW h1).1
 rw[hf] at h2;cases h2
 have:=hc.calls f fn args args' GN W zX _ none 0 h1 hb hrun hargs (tie₀ P W)
 refine(callsIn_wide.1 this).mono ?_
 rintro e W' ⟨v,u,s',ι',rfl,hv,hu,_,hE⟩
 simp only at hv
 subst hv
 refine⟨by rw[hu.kT],hE.os,hE.tape,hE.output,hE.size,fun k hk=>hE.aF k hk ?_⟩
 rintro⟨b,o,l,h,_⟩
 rw[RT] at h;cases h
theorem YP {P:Program} (hm:P.follows .mixedOrders=true) {N:Nat} {f:FuncId} {fn:Func} (hf:P.funcs[f]?=some fn) (hb:fn.body.isSome=true) {args:List Value} {args':Array Value} {W:World}
  (hargs:eF zX args args'.toList) (hrun:isTrue (kC (env P) N f args GN)=true):Calls P f args' W fun e W'=>e=.returned (.bool true)∧Below W.heap.size W W':=km hm hf hb hargs (ZS hrun)
section
variable {H:Type} {enc:TypeId×Value→H} {P:Program}
theorem zV (hl:laidOutB P=true) {W W':World} {sp':Nat→Bool}:∀ {ts:List TypeId} {vs:List Value} {ds:List (DataW H)} {ps:List MemPlace},(∀ t∈ts,P.readableRec t=true∧t<P.types.size) →
  DataW.TrodAll enc P W 0 (fun _=>true) true ts vs ds ps→(∀ p∈ps,W.sameAt W' p)→(∀ p∈ps,sp' p.block=true)→DataW.TrodAll enc P W' 0 sp' true ts vs ds ps
 | [],_,_,_,_,h,_,_=>by
  obtain⟨rfl,rfl,rfl⟩:=trodAll_nil h
  exact h
 | t::ts,_,_,_,ht,h,hs,hsp=>by
  obtain⟨v,vs1,d,ds1,a,b,rfl,rfl,rfl,h1,h2⟩:=trodAll_cons h
  obtain⟨k1,k2⟩:=ht t (by simp)
  exact⟨a,b,WideElems.Trod_stays hl k1 k2 h1 (fun p hp=>hs p (List.mem_append_left _ hp)) (fun p hp=>hsp p (List.mem_append_left _ hp)),
   zV hl (fun t ht'=>ht t (List.mem_cons_of_mem _ ht')) h2 (fun p hp=>hs p (List.mem_append_right _ hp)) (fun p hp=>hsp p (List.mem_append_right _ hp)),rfl⟩
theorem xC {W:World} {base:Nat} {spare:Nat→Bool} {held:Bool}:∀ {ts:List TypeId} {vs:List Value} {ds:List (DataW H)} {ps:List MemPlace},DataW.TrodAll enc P W base spare held ts vs ds ps→ds.length=ts.length
 | [],_,_,_,h=>by obtain⟨rfl,rfl,rfl⟩:=trodAll_nil h;rfl
 | t::ts,_,_,_,h=>by
  obtain⟨v,vs1,d,ds1,a,b,rfl,rfl,rfl,h1,h2⟩:=trodAll_cons h
  simp[xC h2]
theorem po (hl:laidOutB P=true) {f:Func} {s:ChangeSpec} {apart fresh handsOn again:Bool} {W W':World} {args:Array Value} {ds gs:List (DataW H)} {before:List MemPlace} {tb:TypeId}
  (hpar:∀ t∈f.params.toList,P.readableRec t=true∧t<P.types.size) (hvars:s.vars=[]) (hrt:f.resultTypes=#[tb]) (htb:P.underlying tb=some .bool)
  (hfn:∀ ds:List (DataW H),ds.length=f.params.size→s.fn H ds={results:=[.lit (.bool true)],args:=ds})
  (hW:DataW.Whole enc P f.params.toList s.vars apart W args.toList ds gs before) (hb:Below W.heap.size W W'):s.post enc P f apart fresh handsOn again W args (.bool true) W':=by
 have hW':=hW
 obtain⟨p,q,hA,hV,rfl,hfz,hnd⟩:=hW
 rw[hvars] at hV
 cases gs with
 | cons g gs=>exact hV.elim
 | nil =>
 have hq:q=[]:=hV
 subst hq
 have gU:=hW'.lt
 have hsp:=hfn ds (by rw[xC hA];simp)
 have hargs:∀ sp:Nat→Bool,(∀ x∈p,sp x.block=true)→DataW.TrodAll enc P W' 0 sp true f.params.toList args.toList ds p:=fun sp h =>
  zV hl hpar hA (fun x hx=>hb.same (gU x (by simpa using hx))) h
 have hres:∀ (b:Nat) (sp:Nat→Bool) (hd:Bool),DataW.TrodAll enc P W' b sp hd f.resultTypes.toList ((Value.bool true).resultList f.resultTypes.size) [.lit (.bool true)] []:=by
  intro b sp hd
  rw[hrt]
  exact trodAll_mk1 (shut_bool htb _)
 have hok:∀ (j:Nat) (t:TypeId) (r:Value),f.resultTypes[j]?=some t→((Value.bool true).resultList f.resultTypes.size)[j]?=some r→Value.okWide P W' .any 0 t r :=
  ok_one (t:=tb) hrt rfl (okWide_bool_mk htb _)
 have hvar:∀ sp:Nat→Bool,DataW.TrodVars enc P W' sp s.vars ([]:List (DataW H)) []:=fun sp=>by rw[hvars];rfl
 have hp:∀ x∈p,(fun b=>decide (b<W.heap.size)) x.block=true:=fun x hx=>by
  have:=gU x (List.mem_append_left _ hx)
  simp only[decide_eq_true_eq];exact this
 have hsp':s.fn H (ds++[])={results:=[.lit (.bool true)],args:=ds}:=by rw[List.append_nil];exact hsp
 refine⟨ds,[],p++[],[],p,[],hW',by rw[hsp'];exact hres _ _ _,by rw[hsp'];exact hargs _ hp,by rw[hsp'];exact hvar _,hb.frame _,fun _=>?_⟩
 refine⟨hok,[.lit (.bool true)]++ds,[],([]++p)++[],⟨[]++p,[],trodAll_append (hargs _ (fun _ _=>rfl)) (hres _ _ _),hvar _,rfl,?_,?_⟩,?_⟩
 ·intro b off hx
  have hx':MemPlace.cell b off∈p++[]:=by simpa using hx
  rw[hb.frozen (p:=⟨b,off,none⟩) (gU _ hx')]
  exact hfz b off hx'
 ·intro ha
  have:=hnd ha
  simpa using this
 ·intro x hx _
  simpa using hx
end
end Go.Dust
noncomputable section
namespace Go.Dust
def cQ.elim {α:Type} (x:cQ α) (k:α→Bool):Bool:=match x with
 | .ret a=>k a
 | _=>false
theorem cQ.kU {α β:Type} (x:cQ α) (f:α→cQ β) (k:β→Bool):(x.bind f).elim k=x.elim fun a=>(f a).elim k:=by cases x <;> rfl
def fF {α:Type} (o:Option α) (k:α→Bool):Bool:=match o with
 | some a=>k a
 | none=>false
theorem MR {α:Type} (w:String) (o:Option α) (k:α→Bool):(cQ.ofOption w o).elim k=fF o k:=by cases o <;> rfl
def JD (b:Bool) (k:Bool→Bool):Bool:=Bool.rec (motive:=fun _=>Bool) (k false) (k true) b
theorem tE (b k):JD b k=k b:=by cases b <;> rfl
def dZ (n:Nat) (k:Nat→Bool):Bool:=Nat.rec (motive:=fun _=>Bool) (k Nat.zero) (fun n _=>k (Nat.succ n)) n
theorem dD (n k):dZ n k=k n:=by cases n <;> rfl
def fInt (x:Int) (k:Int→Bool):Bool:=match x with
 | .ofNat n=>dZ n fun n=>k (.ofNat n)
 | .negSucc n=>dZ n fun n=>k (.negSucc n)
theorem fInt_eq (x k):fInt x k=k x:=by
 cases x with
 | ofNat n=>exact dD n fun n=>k (.ofNat n)
 | negSucc n=>exact dD n fun n=>k (.negSucc n)
def fl (a:Addr) (k:Addr→Bool):Bool:=match a with
 | ⟨b,o,none⟩=>dZ b fun b=>dZ o fun o=>k ⟨b,o,none⟩
 | ⟨b,o,some q⟩=>dZ b fun b=>dZ o fun o=>dZ q fun q=>k ⟨b,o,some q⟩
theorem UU (a k):fl a k=k a:=by
 rcases a with ⟨b,o,_ | q⟩ <;> simp only[fl,dD]
def fOA (a:Option Addr) (k:Option Addr→Bool):Bool:=match a with
 | none=>k none
 | some a=>fl a fun a=>k (some a)
theorem fOA_eq (a k):fOA a k=k a:=by cases a <;> simp only[fOA,UU]
def ui {α:Type} (l:List α):(List α→Bool)→Bool:=List.rec (motive:=fun _=>(List α→Bool)→Bool) (fun k=>k []) (fun x _ ih k=>ih fun l=>k (x::l)) l
theorem NU {α:Type}:∀ (l:List α) (k),ui l k=k l
 | [],_=>rfl
 | x::l,k=>NU l fun l=>k (x::l)
def f1 (v:Value) (k:Value→Bool):Bool:=match v with
 | .bool b=>JD b fun b=>k (.bool b)
 | .int j x=>fInt x fun x=>k (.int j x)
 | .string ⟨⟨l⟩⟩=>ui l fun l=>k (.string ⟨⟨l⟩⟩)
 | .pointer a=>fOA a fun a=>k (.pointer a)
 | .slice a l c=>fOA a fun a=>dZ l fun l=>dZ c fun c=>k (.slice a l c)
 | v=>k v
theorem f1_eq (v k):f1 v k=k v:=by
 unfold f1
 split <;> simp only[tE,fInt_eq,NU,fOA_eq,dD]
def fL (l:List Value):(List Value→Bool)→Bool:=List.rec (motive:=fun _=>(List Value→Bool)→Bool) (fun k=>k []) (fun v _ ih k=>f1 v fun v=>ih fun l=>k (v::l)) l
theorem fm:∀ (l:List Value) (k),fL l k=k l
 | [],_=>rfl
 | x::l,k=>(f1_eq x fun v=>fL l fun l=>k (v::l)).trans (fm l fun l=>k (x::l))
def fV (v:Value) (k:Value→Bool):Bool:=match v with
 | .agg ⟨l⟩=>fL l fun l=>k (.agg ⟨l⟩)
 | .tuple ⟨l⟩=>fL l fun l=>k (.tuple ⟨l⟩)
 | v=>f1 v k
theorem FE (v k):fV v k=k v:=by
 unfold fV
 split <;> simp only[fm,f1_eq]
def qL (o:Option Value) (k:Value→Bool):Bool:=match o with
 | some v=>fV v k
 | none=>false
theorem eW (o k):qL o k=fF o k:=by cases o <;> simp only[qL,fF,FE]
namespace PT
variable {α:Type}
def OR (f:Nat):Nat→List Bool:=Nat.rec (motive:=fun _=>Nat→List Bool) (fun _=>[]) (fun _ ih n=>Bool.rec (motive:=fun _=>List Bool) (List.cons (Nat.beq (Nat.mod n 2) 1) (ih (Nat.div (Nat.sub n 1) 2))) [] (Nat.beq n 0)) f
def path (n:Nat):List Bool:=OR (Nat.succ n) n
def getP (p:List Bool):PT α→(Option α→Bool)→Bool:=List.rec (motive:=fun _=>PT α→(Option α→Bool)→Bool)
 (fun t k=>PT.rec (motive:=fun _=>Bool) (k none) (fun v _ _ _ _=>k v) t)
 (fun b _ ih t k=>PT.rec (motive:=fun _=>Bool) (k none) (fun _ l r _ _=>Bool.rec (motive:=fun _=>Bool) (ih r k) (ih l k) b) t) p
def NC (p:List Bool):α→PT α→(PT α→Bool)→Bool:=List.rec (motive:=fun _=>α→PT α→(PT α→Bool)→Bool)
 (fun a t k=>PT.rec (motive:=fun _=>Bool) (k (.node (some a) .nil .nil)) (fun _ l r _ _=>k (.node (some a) l r)) t)
 (fun b _ ih a t k=>PT.rec (motive:=fun _=>Bool)
  (Bool.rec (motive:=fun _=>Bool) (ih a .nil fun x=>k (.node none .nil x)) (ih a .nil fun x=>k (.node none x .nil)) b)
  (fun v l r _ _=>Bool.rec (motive:=fun _=>Bool) (ih a r fun x=>k (.node v l x)) (ih a l fun x=>k (.node v x r)) b) t) p
def nC (t:PT α) (n:Nat) (k:Option α→Bool):Bool:=getP (path n) t k
def zH (t:PT α) (n:Nat) (a:α) (k:PT α→Bool):Bool:=NC (path n) a t k
theorem KP (f:Nat):OR (f+1) 0=[]:=rfl
theorem KN (f n:Nat):OR (f+1) (n+1)=Nat.beq (Nat.mod (n+1) 2) 1::OR f (n/2):=rfl
theorem getP_eq:∀ (f n:Nat) (t:PT α) (k:Option α→Bool),n<f→getP (OR f n) t k=k (t.get n):=by
 intro f
 induction f with
 | zero=>intro n t k h;omega
 | succ f ih =>
  intro n t k h
  cases n with
  | zero=>rw[KP];cases t <;> rfl
  | succ n =>
   rw[KN]
   cases t with
   | nil=>rfl
   | node v l r =>
    rcases Nat.mod_two_eq_zero_or_one n with e | e
    ·rw[xJ e,fI _ _ _ _ e];exact ih _ _ _ (by omega)
    ·rw[tD e,gK _ _ _ _ e];exact ih _ _ _ (by omega)
theorem setP_eq:∀ (f n:Nat) (a:α) (t:PT α) (k:PT α→Bool),n<f→NC (OR f n) a t k=k (sW f t n a):=by
 intro f
 induction f with
 | zero=>intro n a t k h;omega
 | succ f ih =>
  intro n a t k h
  cases n with
  | zero=>rw[KP];cases t <;> rfl
  | succ n =>
   rw[KN]
   cases t with
   | nil =>
    rcases Nat.mod_two_eq_zero_or_one n with e | e
    ·rw[xJ e,zR _ _ _ e];exact ih _ _ _ _ (by omega)
    ·rw[tD e,CZ _ _ _ e];exact ih _ _ _ _ (by omega)
   | node v l r =>
    rcases Nat.mod_two_eq_zero_or_one n with e | e
    ·rw[xJ e,wT _ _ _ _ _ _ e];exact ih _ _ _ _ (by omega)
    ·rw[tD e,zS _ _ _ _ _ _ e];exact ih _ _ _ _ (by omega)
theorem fH (t:PT α) (n k):nC t n k=k (t.get n):=getP_eq _ _ _ _ (Nat.lt_succ_self n)
theorem mE (t:PT α) (n a k):zH t n a k=k (t.set n a):=setP_eq _ _ _ _ _ (Nat.lt_succ_self n)
def zT (l:List α):PT α→Nat→(PT α→Bool)→Bool:=List.rec (motive:=fun _=>PT α→Nat→(PT α→Bool)→Bool) (fun t _ k=>k t) (fun a _ ih t n k=>zH t n a fun t=>dZ (Nat.succ n) fun n=>ih t n k) l
theorem nM:∀ (l:List α) (t:PT α) (n k),zT l t n k=k (t.NB n l)
 | [],_,_,_=>rfl
 | a::l,t,n,k=>by
  show (zH t n a fun t=>dZ (Nat.succ n) fun n=>zT l t n k)=_
  rw[mE,dD,nM l];rfl
def kX (l:List α) (k:PT α→Bool):Bool:=zT l .nil Nat.zero k
theorem gC (l:List α) (k):kX l k=k (ofList l):=nM l _ _ _
end PT
open PT (nC fH zH mE zT nM kX gC)
def WI {α:Type} (l:List α):Nat→(Option α→Bool)→Bool:=List.rec (motive:=fun _=>Nat→(Option α→Bool)→Bool) (fun _ k=>k none) (fun x _ ih n k=>Nat.rec (motive:=fun _=>Bool) (k (some x)) (fun m _=>ih m k) n) l
theorem CL {α:Type}:∀ (l:List α) (n k),WI l n k=k l[n]?
 | [],n,k=>by simp;rfl
 | x::l,0,k=>rfl
 | x::l,n+1,k=>(CL l n k).trans (by simp)
def GS {α:Type} (l:List α):List α→(List α→Bool)→Bool:=List.rec (motive:=fun _=>List α→(List α→Bool)→Bool) (fun m k=>k m) (fun x _ ih m k=>ih m fun r=>k (x::r)) l
theorem tU {α:Type}:∀ (l m:List α) (k),GS l m k=k (l++m)
 | [],_,_=>rfl
 | x::l,m,k=>tU l m fun r=>k (x::r)
def VW {α:Type} (l:List α) (k:Nat→Bool):Bool:=List.rec (motive:=fun _=>Nat→Bool) (fun n=>dZ n k) (fun _ _ ih n=>ih (Nat.succ n)) l Nat.zero
theorem uK {α:Type} (l:List α) (k):VW l k=k l.length:=by
 have:∀ (l:List α) (n:Nat),(List.rec (motive:=fun _=>Nat→Bool) (fun n=>dZ n k) (fun _ _ ih n=>ih (Nat.succ n)) l n)=k (n+l.length):=by
  intro l
  induction l with
  | nil=>intro n;exact dD _ _
  | cons x l ih=>intro n;exact(ih (Nat.succ n)).trans (by rw[List.length_cons];congr 1;omega)
 exact(this l 0).trans (by rw[Nat.zero_add])
def dG (a:bD) (o:Operand) (k:Value→Bool):Bool:=match o with
 | .tmp t=>match a with
  | ⟨tm,_⟩=>nC tm t fun v=>match v with
   | some v=>k v
   | none=>k undef
 | .const v=>k v
 | .global g=>dZ (Nat.mul 2 g) fun b=>k (.pointer (some ⟨b,0,none⟩))
 | .func f=>k (.func (.func f) #[] #[])
theorem bY (a o k):dG a o k=k (a.eval o):=by
 cases o with
 | tmp t =>
  simp only[dG,fH,bD.eval,bD.aD]
  cases a.tmps.get t <;> rfl
 | const v=>rfl
 | global g=>simp only[dG,dD];rfl
 | func f=>rfl
def pO (a:bD) (l:List Operand):(List Value→Bool)→Bool:=List.rec (motive:=fun _=>(List Value→Bool)→Bool) (fun k=>k []) (fun x _ ih k=>dG a x fun v=>ih fun l=>k (v::l)) l
theorem oA (a):∀ (l k),pO a l k=k (l.map a.eval)
 | [],_=>rfl
 | x::l,k=>(bY a x fun v=>pO a l fun l=>k (v::l)).trans (oA a l _)
def DJ (a:bD) (o:Option Operand) (k:Option Value→Bool):Bool:=match o with
 | none=>k none
 | some x=>dG a x fun v=>k (some v)
theorem NT (a o k):DJ a o k=k (o.map a.eval):=by cases o <;> simp only[DJ,bY,Option.map]
def SJ (a:bD) (l:List (Nat×Operand)):(List (Nat×Value)→Bool)→Bool:=List.rec (motive:=fun _=>(List (Nat×Value)→Bool)→Bool) (fun k=>k []) (fun x _ ih k=>dG a x.2 fun v=>ih fun l=>k ((x.1,v)::l)) l
theorem ED (a):∀ (l k),SJ a l k=k (l.map fun(i,x)=>(i,a.eval x))
 | [],_=>rfl
 | x::l,k=>(bY a x.2 fun v=>SJ a l fun l=>k ((x.1,v)::l)).trans (ED a l _)
def zP (a:bD) (d:Option Tmp) (v:Value) (k:bD→Bool):Bool:=match d with
 | some d=>match a with
  | ⟨tm,nt⟩=>zH tm d v fun tm=>k ⟨tm,nt⟩
 | none=>k a
theorem CW (a d v k):zP a d v k=k (a.put d v):=by cases d <;> simp only[zP,mE,bD.put]
def IP (v:Value) (k:List Value→Bool):Bool:=match v with
 | .agg ⟨l⟩=>k l
 | v=>k [v]
theorem xK (v k):IP v k=k v.cells.toList:=by cases v <;> rfl
def UD (c:PT Value) (z:List Value) (n i:Nat) (k:Value→Bool):Bool:=Bool.rec (motive:=fun _=>Bool) false
 (nC c i fun v=>match v with
  | some v=>k v
  | none=>fV (z.getD (i%z.length) undef) k) (Nat.ble (Nat.succ i) n)
theorem UE (c z n i k):UD c z n i k=fF (cellAt c z n i) k:=by
 unfold UD cellAt
 cases hb:Nat.ble (Nat.succ i) n with
 | true =>
  have:i<n:=Nat.le_of_ble_eq_true hb
  rw[if_pos this]
  simp only[fH]
  cases c.get i <;> simp only[fF,FE]
 | false =>
  have:¬ i<n:=fun h=>by
   have:=Nat.ble_eq_true_of_le (Nat.succ_le_of_lt h)
   rw[hb] at this;cases this
  rw[if_neg this];rfl
def iz (c:PT Value) (z:List Value) (n:Nat) (m:Nat):Nat→(List Value→Bool)→Bool:=Nat.rec (motive:=fun _=>Nat→(List Value→Bool)→Bool) (fun _ k=>k []) (fun _ ih i k=>UD c z n i fun v=>dZ (Nat.succ i) fun i=>ih i fun l=>k (v::l)) m
theorem KW (c z n):∀ (m i k),iz c z n m i k=fF (dJ c z n i m) k
 | 0,_,_=>rfl
 | m+1,i,k=>by
  show (UD c z n i fun v=>dZ (Nat.succ i) fun i=>iz c z n m i fun l=>k (v::l))=_
  rw[UE,dJ]
  cases cellAt c z n i with
  | none=>rfl
  | some v =>
   simp only[fF,dD]
   rw[KW c z n m]
   cases dJ c z n (i+1) m <;> rfl
def RJ (s:St) (a:Addr) (m:Nat) (k:List Value→Bool):Bool:=match s,a with
 | ⟨h,_,_⟩,⟨b,off,none⟩=>nC h b fun o=>match o with
  | some (.cells c z n _ _ _ _)=>iz c z n m off k
  | _=>false
 | _,_=>false
theorem OJ (s a m k):RJ s a m k=fF (aS s.look a m) k:=by
 rcases s with ⟨h,nx,cl⟩
 rcases a with ⟨b,off,_ | q⟩
 ·simp only[RJ,fH,aS,St.look]
  cases h.get b with
  | none=>rfl
  | some o=>cases o <;> first | rfl | exact KW _ _ _ _ _ _
 ·rfl
def ZV (s:St) (a:Addr) (k:Value→Bool):Bool:=match s,a with
 | ⟨h,_,_⟩,⟨b,off,none⟩=>nC h b fun o=>match o with
  | some (.cells c z n _ _ _ _)=>UD c z n off k
  | _=>false
 | _,_=>false
theorem ou (s a k):ZV s a k=fF (aI s.look a) k:=by
 rcases s with ⟨h,nx,cl⟩
 rcases a with ⟨b,off,_ | q⟩
 ·simp only[ZV,fH,aI,St.look]
  cases h.get b with
  | none=>rfl
  | some o=>cases o <;> first | rfl | exact UE _ _ _ _ _
 ·rfl
def VZ (X:Env) (s:St) (t:TypeId) (a:Addr) (k:Value→Bool):Bool:=match X.ty t with
 | some i=>Bool.rec (motive:=fun _=>Bool) (ZV s a k) (RJ s a i.size fun l=>k (.agg ⟨l⟩)) i.agg
 | none=>false
theorem WA (X s t a k):VZ X s t a k=fF (loadT X s.look t a) k:=by
 unfold VZ loadT
 cases X.ty t with
 | none=>rfl
 | some i =>
  simp only
  cases i.agg with
  | false=>exact ou _ _ _
  | true =>
   simp only[OJ,if_true]
   cases aS s.look a i.size <;> rfl
def allK (l:List Value) (x y:Bool):Bool:=List.rec (motive:=fun _=>Bool) x (fun v _ ih=>match v with
 | .agg _=>y
 | .tuple _=>y
 | _=>ih) l
theorem dq (x y):∀ l,allK l x y=if l.all kZ=true then x else y
 | []=>rfl
 | v::l=>by
  have:=dq x y l
  cases v <;> first | rfl | (simp only[List.all_cons,kZ,Bool.true_and];exact this)
def fObj (o:bX) (k:bX→Bool):Bool:=match o with
 | .cells c z n e r ro v=>k (.cells c z n e r ro v)
 | .map es c v=>k (.map es c v)
 | .eU m a b c v=>k (.eU m a b c v)
 | .nW s p v=>k (.nW s p v)
 | .loop a b c d e f g v=>k (.loop a b c d e f g v)
 | .dead=>k .dead
theorem fo (o k):fObj o k=k o:=by cases o <;> rfl
def KU (s:St) (b:Nat) (o:Nat→bX) (k:St→Bool):Bool:=match s with
 | ⟨h,nx,c⟩=>fObj (o c) fun o=>zH h b o fun h=>dZ (Nat.succ c) fun c=>k ⟨h,nx,c⟩
theorem CU (s b o k):KU s b o k=k (s.put b o):=by simp only[KU,fo,mE,dD];rfl
def au (s:St) (o:Nat→bX) (k:St→Bool):Bool:=match s with
 | ⟨h,nx,c⟩=>fObj (o c) fun o=>zH h nx o fun h=>dZ (Nat.add nx 2) fun nx=>dZ (Nat.succ c) fun c=>k ⟨h,nx,c⟩
theorem CI (s o k):au s o k=k (s.new o):=by simp only[au,fo,mE,dD];rfl
def HQ (s:St) (a:Addr) (vs:List Value) (k:St→Bool):Bool:=match s,a with
 | ⟨h,nx,cl⟩,⟨b,off,none⟩=>nC h b fun o=>match o with
  | some (.cells c z n e r false _)=>VW vs fun m=>Bool.rec (motive:=fun _=>Bool) false (allK vs
    (zT vs c off fun c=>zH h b (.cells c z n e r false cl) fun h=>dZ (Nat.succ cl) fun cl=>k ⟨h,nx,cl⟩) false) (Nat.ble (Nat.add off m) n)
  | _=>false
 | _,_=>false
theorem LR (s a vs k):HQ s a vs k=fF (bJ s a vs) k:=by
 rcases s with ⟨h,nx,cl⟩
 rcases a with ⟨b,off,_ | q⟩
 ·simp only[HQ,fH,bJ]
  cases h.get b with
  | none=>rfl
  | some o =>
   cases o with
   | cells c z n e r ro v =>
    cases ro with
    | true=>rfl
    | false =>
     simp only[uK,dq,nM,mE,dD]
     cases hb:Nat.ble (Nat.add off vs.length) n with
     | false =>
      have h1:¬ (off+vs.length≤n∧vs.all kZ=true):=fun h=>by
       have:=Nat.ble_eq_true_of_le h.1
       rw[show Nat.ble (off+vs.length) n=false from hb] at this;cases this
      simp only[if_neg h1];rfl
     | true =>
      have h1:off+vs.length≤n:=Nat.le_of_ble_eq_true hb
      simp only
      by_cases h2:vs.all kZ=true
      ·rw[if_pos h2,if_pos ⟨h1,h2⟩];rfl
      ·rw[if_neg h2,if_neg (fun h=>h2 h.2)];rfl
   | _=>rfl
 ·rfl
def cj (X:Env) (s:St) (t:TypeId) (a:Addr) (v:Value) (k:St→Bool):Bool:=match X.ty t with
 | some i=>IP v fun l=>VW l fun m=>Bool.rec (motive:=fun _=>Bool) false (HQ s a l k) (Nat.beq m i.size)
 | none=>false
theorem qq (X s t a v k):cj X s t a v k=fF (storeT X s t a v) k:=by
 unfold cj storeT
 cases X.ty t with
 | none=>rfl
 | some i =>
  simp only[xK,uK]
  cases hb:Nat.beq v.cells.toList.length i.size with
  | false =>
   rw[if_neg (fun h=>?_)]
   ·rfl
   ·have:v.cells.toList.length=i.size:=h
    rw[this,Nat.beq_refl] at hb
    cases hb
  | true =>
   have:v.cells.size=i.size:=Nat.eq_of_beq_eq_true hb
   rw[if_pos this];exact LR _ _ _ _
end Go.Dust
end
