/- The plain interpreter D and its laws (Ds Dt Do). -/
import Derived.Test.YtaoiejcaopgjcaaGreatG
import Derived.OrdersIn
import Derived.LoopNIn
set_option linter.unusedVariables false
set_option linter.unusedSimpArgs false
namespace Go.Dust
variable {P:Program} {call:eR} {round:dK} {ops:Array Oper} {nt base:Nat} {A:Nat→bD} {S:Nat→St} {V:Nat→Value}
variable {ι0:cR} {s0:St} {w0:World} {ds:List Deferred}
structure Inv (P:Program) (ops:Array Oper) (nt base:Nat) (A:Nat→bD) (S:Nat→St) (V:Nat→Value) (ι0:cR) (s0:St) (w0:World) (ds:List Deferred) (X:Nat→Prop) (act:Act) (w:World) (T:Nat) (ι:cR) (HX:aY) (aX:bD):Prop where
 down:Down ops X
 top:T≤ops.size
 eff:∀ e,sO ops e .effect→(X e↔e<T)
 all:∀ i,i<T→sO ops i .alloc→X i
 tie:R (env P) ι HX (S T).next w
 sub:∀ b o,(S T).heap.get b=some o→o.bC=false→HX b=some o
 made:∀ i,X i→sO ops i .alloc→TH ops A i→T≤i→∀ o,(S (i+1)).heap.get (base+2*i)=some o→o.bC=false→HX (base+2*i)=some o
 only:∀ b o,HX b=some o→o.bC=false→(∃ o',(S T).heap.get b=some o'∧o'.bC=false)∨∃ i,X i∧sO ops i .alloc∧TH ops A i∧T≤i∧b=base+2*i
 free:∀ i,i<ops.size→¬ X i→ι (base+2*i)=none
 ext:Ext ι0 s0.look s0.next w0 ι HX (S T).next w
 tmps:AR ι aX act
 nts:aX.nt=nt
 last:∀ t,t<nt→tB ops (A 0) V X t (aX.aD t)
 defs:act.defers=ds
section
variable {X:Nat→Prop} {act:Act} {w:World} {T:Nat} {ι:cR} {HX:aY} {aX:bD}
variable (h:qw P call round ops nt base A S V) (v:Inv P ops nt base A S V ι0 s0 w0 ds X act w T ι HX aX)
include h v
theorem Inv.aD {i:Nat} {o:Oper} (ho:ops[i]?=some o) (hX:¬ X i) (hr:∀ e∈o.after,Region.binds .any e=true→X e.on) {t:Tmp} (ht:t∈tmpsOf ops o) (htn:t<nt):(A i).aD t=aX.aD t:=by
 refine tB.uniq (h.last t i (Nat.le_of_lt (h.lt ho))) (v.last t htn) fun k ok hk hd=>?_
 rcases Nat.lt_trichotomy k i with gU | rfl | gU
 ·refine⟨fun _=>?_,fun _=>gU⟩
  rcases h.yx k i ok o gU hk ho with hb | ⟨h1,_⟩
  ·exact v.down.ready ho hr hb
  ·exact absurd ht (h1 t hd)
 ·exact⟨fun hh=>by omega,fun hx=>absurd hx hX⟩
 ·refine⟨fun hh=>by omega,fun hx=>?_⟩
  rcases h.yx i k o ok gU ho hk with hb | ⟨_,h2⟩
  ·exact absurd (v.down.bit k i (h.lt hk) hx hb) hX
  ·exact absurd ht (h2 t hd)
theorem Inv.vals {i:Nat} {o:Oper} (ho:ops[i]?=some o) (hX:¬ X i) (hr:∀ e∈o.after,Region.binds .any e=true→X e.on):∀ x∈o.op.operands.toList,VR ι ((A i).eval x) (act.eval x):=by
 intro x hx
 have hok:=h.oper ho
 have hok1:gX nt x=true:=by
  unfold iT at hok
  simp only[Bool.and_eq_true] at hok
  exact List.all_eq_true.1 hok.1.1 x hx
 have h1:VR ι (aX.eval x) (act.eval x):=v.tmps.eval v.tie.even (by rw[v.nts];exact hok1)
 have h2:(A i).eval x=aX.eval x:=by
  cases x with
  | tmp t =>
   simp only[gX,decide_eq_true_eq] at hok1
   refine v.aD h ho hX hr ?_ hok1
   unfold tmpsOf
   refine List.mem_append_left _ (List.mem_append_left _ (List.mem_filterMap.2 ⟨_,hx,rfl⟩))
  | _=>rfl
 rw[h2];exact h1
theorem Inv.want {i:Nat} {o:Oper} (ho:ops[i]?=some o) (hX:¬ X i) (hr:∀ e∈o.after,Region.binds .any e=true→X e.on):Region.wanted o (aE ops (A i))=Region.wanted o (yielded ops act.tmps):=by
 rw[← PV v.tmps (by rw[v.nts];exact h.okop) o]
 unfold Region.wanted
 cases hg:o.guard with
 | none=>rfl
 | some g =>
  obtain⟨g,want⟩:=g
  simp only
  unfold aE
  cases hog:ops[g]? with
  | none=>rfl
  | some og =>
   simp only[Option.bind_some]
   cases hd:og.dst with
   | none=>rfl
   | some d =>
    simp only
    have hdn:d<nt:=rK (h.oper hog) d hd
    rw[v.aD h ho hX hr (t:=d) ?_ hdn]
    unfold tmpsOf
    refine List.mem_append_left _ (List.mem_append_right _ ?_)
    rw[hg]
    simp only
    rw[hog]
    simp only[hd]
    simp
theorem Inv.after {i:Nat} {o:Oper} (ho:ops[i]?=some o) (hX:¬ X i) {ι':cR} (hle:ι.le ι') {u:Value} (hv:VR ι' (V i) u) :
  AR ι' (aX.put o.dst (V i)) (act.put o.dst u)∧(aX.put o.dst (V i)).nt=nt∧(∀ t,t<nt→tB ops (A 0) V (fun k=>X k∨k=i) t ((aX.put o.dst (V i)).aD t))∧(act.put o.dst u).defers=ds:=by
 refine⟨(v.tmps.mono hle).put (fun x hx=>by rw[v.nts];exact rK (h.oper ho) x hx) hv,by simpa using v.nts,fun t ht=>?_,by simpa using v.defs⟩
 refine tB.add ho (fun k o' hk hx ho' d hd hd'=>?_) (v.last t ht)
 rcases h.yx i k o o' hk ho ho' with hb | ⟨h1,_⟩
 ·exact hX (v.down.bit k i (h.lt ho') hx hb)
 ·refine h1 d hd ?_
  unfold tmpsOf
  refine List.mem_append_right _ ?_
  rw[hd'];simp
theorem Inv.YW {i:Nat} {o:Oper} (ho:ops[i]?=some o) (hr:∀ e∈o.after,Region.binds .any e=true→X e.on):Down ops (fun k=>X k∨k=i):=by
 have _:=h
 intro j oj hj hoj e he hb
 rcases hj with hj | rfl
 ·exact .inl (v.down j oj hj hoj e he hb)
 ·rw[ho] at hoj;cases hoj
  exact .inl (hr e he hb)
theorem Inv.plain {i:Nat} {o:Oper} (ho:ops[i]?=some o) (hX:¬ X i) (hr:∀ e∈o.after,Region.binds .any e=true→X e.on) (hk:bN o.op≠.effect) (hka:bN o.op=.alloc→¬ TH ops A i) {u:Value} (hv:VR ι (V i) u) :
  Inv P ops nt base A S V ι0 s0 w0 ds (fun k=>X k∨k=i) (act.put o.dst u) w T ι HX (aX.put o.dst (V i)):=by
 obtain⟨h1,h2,h3,h4⟩:=v.after h ho hX (cR.le_refl ι) hv
 refine⟨v.YW h ho hr,v.top,?_,fun k hk1 hk2=>.inl (v.all k hk1 hk2),v.tie,v.sub,?_,?_,fun k hk1 hk2=>v.free k hk1 fun hx=>hk2 (.inl hx),v.ext,h1,h2,h3,h4⟩
 ·intro e he
  constructor
  ·rintro(hx | rfl)
   ·exact(v.eff e he).1 hx
   ·obtain⟨o',ho',hk'⟩:=he
    rw[ho] at ho';cases ho';exact absurd hk' hk
  ·intro gU
   exact .inl ((v.eff e he).2 gU)
 ·intro k hx hk1 hk2 hk3 q hq hd
  rcases hx with hx | rfl
  ·exact v.made k hx hk1 hk2 hk3 q hq hd
  ·obtain⟨o',ho',hk'⟩:=hk1
   rw[ho] at ho';cases ho';exact absurd hk2 (hka hk')
 ·intro b q hq hd
  rcases v.only b q hq hd with h5 | ⟨k,k1,k2⟩
  ·exact .inl h5
  ·exact .inr ⟨k,.inl k1,k2⟩
theorem Ext.alloc {H0:aY} {n0:Nat} {N:Nat} (hE:Ext ι0 H0 n0 w0 ι HX N w) {nm ex:Nat} (hfree:ι nm=none) (hnm:n0≤nm) (gU:nm<N) (x:Obj) (o':bX) :
  Ext ι0 H0 n0 w0 (ι.add nm ⟨w.heap.size,0,ex,false⟩) (vQ HX nm o') N (w.alloc x):=by
 have _:=h
 have _:=v
 refine⟨cR.le_trans hE.le (cR.oB hfree),?_,hE.nxt,hE.os,hE.tape,hE.output,Nat.le_trans hE.size (by simp),fun c hc ho=>(heap_alloc_old (Nat.lt_of_lt_of_le hc hE.size)).trans (hE.aF c hc ho),?_⟩
 ·intro b hb' hb2
  unfold cR.add
  rw[if_neg (by omega)]
  exact hE.new b hb' hb2
 ·rintro c ⟨d,od,ld,h1,h2,h3,h4,h5⟩
  unfold vQ at h1
  unfold cR.add at h3
  split at h1
  ·rename_i e
   rw[if_pos e] at h3
   cases h3
   have:=hE.size
   exact .inr (by simp only at h5;omega)
  ·rename_i e
   rw[if_neg e] at h3
   exact hE.own c ⟨d,od,ld,h1,h2,h3,h4,h5⟩
theorem Inv.alloc {i:Nat} {o:Oper} (ho:ops[i]?=some o) (hX:¬ X i) (hr:∀ e∈o.after,Region.binds .any e=true→X e.on) (hk:bN o.op=.alloc) (hb0:s0.next≤base) {f:Nat→bX} (hS:S (i+1)=(S i).put (base+2*i) f)
  {u:Value} {ex:Nat} {x:Obj} (hv:VR (ι.add (base+2*i) ⟨w.heap.size,0,ex,false⟩) (V i) u)
  (hox:∀ dF,(f dF).bC=false∧nV (env P) (ι.add (base+2*i) ⟨w.heap.size,0,ex,false⟩) (w.alloc x) ⟨w.heap.size,0,ex,false⟩ (f dF)) :
  Inv P ops nt base A S V ι0 s0 w0 ds (fun k=>X k∨k=i) (act.put o.dst u) (w.alloc x) T (ι.add (base+2*i) ⟨w.heap.size,0,ex,false⟩) (vQ HX (base+2*i) (f (S i).cM)) (aX.put o.dst (V i)):=by
 have hi:=h.lt ho
 have hfree:=v.free i hi hX
 have hT:T≤i:=Nat.le_of_not_lt fun gU=>hX (v.all i gU ⟨o,ho,hk⟩)
 have htop:=h.top T v.top
 have hodd:=h.GZ
 obtain⟨h1,h2,h3,h4⟩:=v.after h ho hX (cR.oB hfree) hv
 have hget:(S (i+1)).heap.get (base+2*i)=some (f (S i).cM):=by rw[hS];simp[St.put,PT.bU]
 refine⟨v.YW h ho hr,v.top,?_,fun k hk1 hk2=>.inl (v.all k hk1 hk2),R.newAt v.tie (base+2*i) (S T).next hfree (by omega) (Nat.le_refl _) v.tie.GZ (by omega) x (hox _).2,?_,?_,?_,?_,Ext.alloc h v v.ext hfree (by omega) (by omega) x _,h1,h2,h3,h4⟩
 ·intro e he
  constructor
  ·rintro(hx | rfl)
   ·exact(v.eff e he).1 hx
   ·obtain⟨o',ho',hk'⟩:=he
    rw[ho] at ho';cases ho';rw[hk] at hk';cases hk'
  ·intro gU
   exact .inl ((v.eff e he).2 gU)
 ·intro b q hq hd
  unfold vQ
  split
  ·rename_i e
   subst e
   exact(h.WH hT hi hq hd).elim
  ·exact v.sub b q hq hd
 ·intro k hx hk1 hk2 hk3 q hq hd
  unfold vQ
  by_cases e:k=i
  ·subst e
   rw[if_pos rfl]
   rw[hget] at hq;exact hq
  ·rw[if_neg (by omega)]
   exact v.made k (hx.resolve_right e) hk1 hk2 hk3 q hq hd
 ·intro b q hq hd
  unfold vQ at hq
  split at hq
  ·rename_i e
   refine .inr ⟨i,.inr rfl,⟨o,ho,hk⟩,?_,hT,e⟩
   rcases(h.step i o ho).2 with ⟨k1,_⟩ | ⟨_,_,k3⟩
   ·exact⟨o,ho,k1⟩
   ·rw[k3] at hget
    exact(h.WH (Nat.le_refl i) hi hget (hox _).1).elim
  ·rcases v.only b q hq hd with h5 | ⟨k,k1,k2⟩
   ·exact .inl h5
   ·exact .inr ⟨k,.inl k1,k2⟩
 ·intro k hk1 hk2
  unfold cR.add
  rw[if_neg (fun e=>hk2 (.inr (by omega)))]
  exact v.free k hk1 fun hx=>hk2 (.inl hx)
theorem Inv.upTo {e:Nat} (he:e≤ops.size) (hT:T≤e) (hno:∀ k,T≤k→k<e→¬ sO ops k .effect) (hal:∀ k,T≤k→k<e→sO ops k .alloc→X k) :
  (∀ b o,(S e).heap.get b=some o→o.bC=false→HX b=some o)∧(S e).next=(S T).next:=by
 have key:∀ d,T+d≤e→(∀ b o,(S (T+d)).heap.get b=some o→o.bC=false→HX b=some o)∧(S (T+d)).next=(S T).next:=by
  intro d
  induction d with
  | zero=>exact fun _=>⟨v.sub,rfl⟩
  | succ d ih =>
   intro hd
   obtain⟨i1,i2⟩:=ih (by omega)
   have hok:ops[T+d]?=some ops[T+d]:=by simp[show T+d<ops.size by omega]
   have hne:bN (ops[T+d]).op≠.effect:=fun hk=>hno (T+d) (by omega) (by omega) ⟨_,hok,hk⟩
   refine⟨fun b o hb hdd=>?_,(h.next_eq hok hne).trans i2⟩
   rcases h.cases hok with h1 | ⟨hk,hw,f,_,h1⟩ | ⟨hk,_⟩
   ·rw[show T+(d+1)=T+d+1 from rfl,h1] at hb;exact i1 b o hb hdd
   ·by_cases eb:b=base+2*(T+d)
    ·subst eb
     exact v.made (T+d) (hal _ (by omega) (by omega) ⟨_,hok,hk⟩) ⟨_,hok,hk⟩ ⟨_,hok,hw⟩ (by omega) o hb hdd
    ·rw[show T+(d+1)=T+d+1 from rfl,h1] at hb
     simp only[St.put,PT.bU] at hb
     rw[if_neg eb] at hb
     exact i1 b o hb hdd
   ·exact absurd hk hne
 have:=key (e-T) (by omega)
 rw[show T+(e-T)=e from by omega] at this
 exact this
end
variable {P:Program} {call:eR} {round:dK} {ops:Array Oper} {nt base:Nat} {A:Nat→bD} {S:Nat→St} {V:Nat→Value}
variable {ι0:cR} {s0:St} {w0:World} {ds:List Deferred}
section
variable {X:Nat→Prop} {act:Act} {w:World} {T:Nat} {ι:cR} {HX:aY} {aX:bD}
variable (h:qw P call round ops nt base A S V) (v:Inv P ops nt base A S V ι0 s0 w0 ds X act w T ι HX aX)
include h v
theorem Inv.ahead {e:Nat} {o:Oper} (ho:ops[e]?=some o) (hX:¬ X e) (hr:∀ x∈o.after,Region.binds .any x=true→X x.on) (hk:bN o.op=.effect) :
  T≤e∧(∀ k,T≤k→k<e→¬ sO ops k .effect)∧(∀ k,k<e→sO ops k .alloc→X k):=by
 have hT:T≤e:=Nat.le_of_not_lt fun gU=>hX ((v.eff e ⟨o,ho,hk⟩).2 gU)
 refine⟨hT,fun k h1 h2 hke=>?_,fun k h2 hka=>?_⟩
 ·obtain⟨ok,hok,hkk⟩:=hke
  have hXk:X k:=by
   rcases h.BH k e ok o h2 hok ho with hb | ⟨m,hm,_⟩
   ·exact v.down.ready ho hr hb
   ·unfold gY at hm;rw[hkk,hk] at hm;cases hm
  have:=(v.eff k ⟨ok,hok,hkk⟩).1 hXk
  omega
 ·obtain⟨ok,hok,hkk⟩:=hka
  rcases h.BH k e ok o h2 hok ho with hb | ⟨m,hm,_⟩
  ·exact v.down.ready ho hr hb
  ·unfold gY at hm;rw[hkk,hk] at hm;cases hm
theorem Inv.here {e:Nat} {o:Oper} (ho:ops[e]?=some o) (hX:¬ X e) (hr:∀ x∈o.after,Region.binds .any x=true→X x.on) (hk:bN o.op=.effect) :
  (∀ b q,(S e).heap.get b=some q→q.bC=false→HX b=some q)∧(S e).next=(S T).next∧RS P ι (S e) w:=by
 obtain⟨h1,h2,h3⟩:=v.ahead h ho hX hr hk
 obtain⟨h4,h5⟩:=v.upTo h (Nat.le_of_lt (h.lt ho)) h1 h2 (fun k _ gU=>h3 k gU)
 refine⟨h4,h5,?_⟩
 unfold RS
 rw[h5]
 exact v.tie.uk h4
theorem Inv.effect {e:Nat} {o:Oper} (ho:ops[e]?=some o) (hX:¬ X e) (hr:∀ x∈o.after,Region.binds .any x=true→X x.on) (hk:bN o.op=.effect)
  {ι':cR} {w':World} {u:Value} (hv:VR ι' (V e) u) (hR:RS P ι' (S (e+1)) w') (hE:ES ι (S e) w ι' (S (e+1)) w') :
  ∃ H',Inv P ops nt base A S V ι0 s0 w0 ds (fun k=>X k∨k=e) (act.put o.dst u) w' (e+1) ι' H' (aX.put o.dst (V e)):=by
 obtain⟨a1,a2,a3⟩:=v.ahead h ho hX hr hk
 obtain⟨sub,nx,hRe⟩:=v.here h ho hX hr hk
 obtain⟨t1,t2,t3,t4⟩:=v.after h ho hX hE.le hv
 have he:=h.lt ho
 have hold:∀ b q,(S (e+1)).heap.get b=some q→q.bC=false→q.ZR=true→∃ q0,(S e).heap.get b=some q0∧q0.bC=false:=by
  intro b q hq hd hro
  rcases h.cases ho with h1 | ⟨h1,_⟩ | ⟨_,_,_,h1⟩
  ·rw[h1] at hq;exact⟨q,hq,hd⟩
  ·rw[hk] at h1;cases h1
  ·rcases h1.mC b q hq hd with ⟨q0,k1,k2,_⟩ | ⟨_,k2⟩
   ·exact⟨q0,k1,k2⟩
   ·rw[hro] at k2;cases k2
 let Ex:Nat→Prop:=fun b=>∃ i,e<i∧X i∧sO ops i .alloc∧TH ops A i∧b=base+2*i
 have gU:∀ i,sO ops i .alloc→i<ops.size:=fun i ⟨oi,hoi,_⟩=>h.lt hoi
 have exNone:∀ k b q,k≤e+1→Ex b→(S k).heap.get b=some q→q.bC=false→False:=by
  rintro k b q hk' ⟨i,k1,_,k3,_,rfl⟩ hq hd
  exact h.WH (by omega) (gU i k3) hq hd
 have exKeep:∀ b q l,Ex b→HX b=some q→q.bC=false→ι b=some l→l.dR<w.heap.size∧¬ Own ι (S e).look l.dR∧nV (env P) ι w l q∧l.ro=l.ro:=by
  rintro b q l hex hq hd hl
  obtain⟨l',g1,g2⟩:=v.tie.obj b q hq hd
  rw[hl] at g1;cases g1
  refine⟨g2.lt hd,?_,g2,rfl⟩
  rintro⟨b1,q1,l1,c1,c2,c3,c4,c5⟩
  have:=v.tie.inj b1 b q1 q l1 l (sub b1 q1 c1 c2) c2 hq hd c3 hl c4 c5
  subst this
  exact exNone e b1 q1 (by omega) hex c1 c2
 obtain⟨H',hin,hout⟩:∃ H':aY,(∀ b,Ex b→H' b=HX b)∧(∀ b,¬ Ex b→H' b=(S (e+1)).heap.get b):=by
  classical
  exact⟨fun b=>if Ex b then HX b else(S (e+1)).heap.get b,fun b hb=>if_pos hb,fun b hb=>if_neg hb⟩
 have hH:∀ b q,H' b=some q→q.bC=false→(Ex b∧HX b=some q)∨(¬ Ex b∧(S (e+1)).heap.get b=some q):=by
  intro b q hq hd
  by_cases hb:Ex b
  ·rw[hin b hb] at hq;exact .inl ⟨hb,hq⟩
  ·rw[hout b hb] at hq;exact .inr ⟨hb,hq⟩
 have exOwn:∀ b q l,Ex b→HX b=some q→q.bC=false→ι b=some l→¬ Own ι' (S (e+1)).look l.dR:=by
  intro b q l hex hq hd hl ho'
  obtain⟨g1,g2,_⟩:=exKeep b q l hex hq hd hl
  rcases hE.own _ ho' with h1 | h1
  ·exact g2 h1
  ·omega
 refine⟨H',v.YW h ho hr,he,?_,?_,?_,?_,?_,?_,?_,?_,t1,t2,t3,t4⟩
 ·intro k hkk
  have:=v.eff k hkk
  constructor
  ·rintro(hx | rfl)
   ·have:=this.1 hx;omega
   ·omega
  ·intro hlt'
   rcases Nat.lt_or_ge k T with h1 | h1
   ·exact .inl (this.2 h1)
   ·rcases Nat.lt_or_ge k e with h2 | h2
    ·exact absurd hkk (a2 k h1 h2)
    ·exact .inr (by omega)
 ·intro k hlt' hka
  rcases Nat.lt_or_ge k e with h2 | h2
  ·exact .inl (a3 k h2 hka)
  ·exact .inr (by omega)
 ·
  refine⟨hR.even,hR.GZ,hR.fresh,hR.qx,fun b q hq hd=>?_,fun b b' q q' l l' hq hd hq' hd' hl hl' hro hblk=>?_⟩
  ·rcases hH b q hq hd with ⟨hex,hq⟩ | ⟨_,hq⟩
   ·obtain⟨l,g1,g2⟩:=v.tie.obj b q hq hd
    obtain⟨k1,k2,_⟩:=exKeep b q l hex hq hd g1
    exact⟨l,hE.le _ _ g1,g2.mono hE.le (hE.aF _ k1 k2)⟩
   ·exact hR.obj b q hq hd
  ·rcases hH b q hq hd with ⟨hex,hq⟩ | ⟨hex,hq⟩ <;> rcases hH b' q' hq' hd' with ⟨hex',hq'⟩ | ⟨hex',hq'⟩
   ·obtain⟨l1,g1,_⟩:=v.tie.obj b q hq hd
    obtain⟨l1',g1',_⟩:=v.tie.obj b' q' hq' hd'
    have e1:=hE.le _ _ g1
    have e1':=hE.le _ _ g1'
    rw[hl] at e1;cases e1
    rw[hl'] at e1';cases e1'
    exact v.tie.inj b b' q q' l l' hq hd hq' hd' g1 g1' hro hblk
   ·exfalso
    obtain⟨l1,g1,_⟩:=v.tie.obj b q hq hd
    have e1:=hE.le _ _ g1
    rw[hl] at e1;cases e1
    cases hro':l'.ro with
    | false=>exact exOwn b q l hex hq hd g1 ⟨b',q',l',hq',hd',hl',hro',hblk.symm⟩
    | true =>
     obtain⟨l2,g2,g3⟩:=hR.obj b' q' hq' hd'
     rw[hl'] at g2;cases g2
     have hqro:q'.ZR=true:=by
      cases q' with
      | cells c z n el room ro dF =>
       obtain⟨_,_,_,_,_,g4,_⟩:=g3
       rw[hro'] at g4
       exact g4.symm
      | map=>have:=g3.1;rw[hro'] at this;cases this
      | eU m=>have:=g3.1;rw[hro'] at this;cases this
      | nW=>have:=g3.1;rw[hro'] at this;cases this
      | loop=>have:=g3.1;rw[hro'] at this;cases this
      | dead=>cases hd'
     obtain⟨q0,k1,k2⟩:=hold b' q' hq' hd' hqro
     have k3:=sub b' q0 k1 k2
     obtain⟨l3,g5,_⟩:=v.tie.obj b' q0 k3 k2
     have e2:=hE.le _ _ g5
     rw[hl'] at e2;cases e2
     have:=v.tie.inj b b' q q0 l l' hq hd k3 k2 g1 g5 hro hblk
     subst this
     exact exNone e b q0 (by omega) hex k1 k2
   ·exfalso
    obtain⟨l1,g1,_⟩:=v.tie.obj b' q' hq' hd'
    have e1:=hE.le _ _ g1
    rw[hl'] at e1;cases e1
    exact exOwn b' q' l' hex' hq' hd' g1 ⟨b,q,l,hq,hd,hl,hro,hblk⟩
   ·exact hR.inj b b' q q' l l' hq hd hq' hd' hl hl' hro hblk
 ·intro b q hq hd
  rw[hout b fun hex=>exNone (e+1) b q (Nat.le_refl _) hex hq hd]
  exact hq
 ·intro i hx hka hra hle q hq hd
  have hxi:X i:=hx.resolve_right (by omega)
  rw[hin _ ⟨i,by omega,hxi,hka,hra,rfl⟩]
  exact v.made i hxi hka hra (by omega) q hq hd
 ·intro b q hq hd
  rcases hH b q hq hd with ⟨⟨i,k1,k2,k3,k4,k5⟩,_⟩ | ⟨_,hq⟩
  ·exact .inr ⟨i,.inl k2,k3,k4,by omega,k5⟩
  ·exact .inl ⟨q,hq,hd⟩
 ·intro i hi hx
  have htop:=h.top e (Nat.le_of_lt he)
  exact hE.new _ (v.free i hi fun hh=>hx (.inl hh)) (.inl (by omega))
 ·have hn1:=hE.nxt
  have hn0:=v.ext.nxt
  have hb1:=h.top e (Nat.le_of_lt he)
  have own1:∀ c,Own ι (S e).look c→Own ι HX c:=fun c ⟨b,q,l,h1,h2,h3⟩=>⟨b,q,l,sub b q h1 h2,h2,h3⟩
  refine⟨cR.le_trans v.ext.le hE.le,?_,by omega,hE.os.trans v.ext.os,hE.tape.trans v.ext.tape,hE.output.trans v.ext.output,Nat.le_trans v.ext.size hE.size,?_,?_⟩
  ·intro b hb hb2
   exact hE.new b (v.ext.new b hb (by omega)) (by omega)
  ·intro c hc hno
   refine(hE.aF c (Nat.lt_of_lt_of_le hc v.ext.size) fun ho'=>?_).trans (v.ext.aF c hc hno)
   rcases v.ext.own c (own1 c ho') with h1 | h1
   ·exact hno h1
   ·omega
  ·rintro c ⟨b,q,l,h1,h2,h3,h4,h5⟩
   have hs:=v.ext.size
   rcases hH b q h1 h2 with ⟨hex,hq⟩ | ⟨_,hq⟩
   ·obtain⟨l1,g1,_⟩:=v.tie.obj b q hq h2
    have e1:=hE.le _ _ g1
    rw[h3] at e1;cases e1
    exact v.ext.own c ⟨b,q,l,hq,h2,g1,h4,h5⟩
   ·rcases hE.own c ⟨b,q,l,hq,h2,h3,h4,h5⟩ with g1 | g1
    ·exact v.ext.own c (own1 c g1)
    ·exact .inr (by omega)
theorem Inv.reads {i:Nat} {o:Oper} (ho:ops[i]?=some o) (hX:¬ X i) (hr:∀ x∈o.after,Region.binds .any x=true→X x.on) (hk:bN o.op=.still) (hw:Region.wanted o (aE ops (A i))=true) (hm:nE o.op=true) :
  ∀ b∈bZ (A i).eval (S i).look o.op,AX (S i).look HX b:=by
 intro b hb q hq hd
 have hi:=h.lt ho
 rcases Nat.lt_or_ge i T with gU | hge
 ·have key:∀ d,i+d≤T→(S (i+d)).heap.get b=some q:=by
   intro d
   induction d with
   | zero=>exact fun _=>hq
   | succ d ih =>
    intro hd'
    have i1:=ih (by omega)
    have hT:=v.top
    obtain⟨od,hok⟩:∃ od,ops[i+d]?=some od:=⟨ops[i+d],by simp[show i+d<ops.size by omega]⟩
    rcases h.cases hok with h1 | ⟨hka,hwa,f,_,h1⟩ | ⟨hke,hwe,_⟩
    ·rw[show i+(d+1)=i+d+1 from rfl,h1];exact i1
    ·rw[show i+(d+1)=i+d+1 from rfl,h1]
     simp only[St.put,PT.bU]
     by_cases eb:b=base+2*(i+d)
     ·subst eb
      exact(h.WH (Nat.le_refl _) (by omega) i1 hd).elim
     ·rw[if_neg eb];exact i1
    ·have hne:i+d≠i:=fun e0=>by
      rw[e0,ho] at hok;cases hok
      rw[hk] at hke;cases hke
     have hXk:X (i+d):=(v.eff (i+d) ⟨_,hok,hke⟩).2 (by omega)
     rcases h.BH i (i+d) o _ (by omega) ho hok with hbit | ⟨m,hm1,hm2⟩
     ·exact absurd (v.down.bit _ _ (by omega) hXk hbit) hX
     ·unfold gY at hm1
      rw[hk,hke,if_pos hm] at hm1
      cases hm1
      obtain⟨q',k1,k2,_⟩:=h.same (hm2 i (i+d) (by simp) o ho hw ⟨_,hok,hwe⟩ b hb) hok hke
      rw[i1] at k1;cases k1
      exact k2
  have:=key (T-i) (by omega)
  rw[show i+(T-i)=T from by omega] at this
  exact v.sub b q this hd
 ·have key:∀ d,T+d≤i→∀ q,(S (T+d)).heap.get b=some q→q.bC=false→HX b=some q:=by
   intro d
   induction d with
   | zero=>exact fun _ q h1 h2=>v.sub b q h1 h2
   | succ d ih =>
    intro hd' q hq hd
    have i1:=ih (by omega)
    have hok:ops[T+d]?=some ops[T+d]:=by simp[show T+d<ops.size by omega]
    rcases h.cases hok with h1 | ⟨hka,hwa,f,_,h1⟩ | ⟨hke,hwe,_⟩
    ·rw[show T+(d+1)=T+d+1 from rfl,h1] at hq;exact i1 q hq hd
    ·by_cases eb:b=base+2*(T+d)
     ·have hXk:X (T+d):=by
       rcases h.BH (T+d) i _ o (by omega) hok ho with hbit | ⟨m,hm1,hm2⟩
       ·exact v.down.ready ho hr hbit
       ·unfold gY at hm1
        rw[hk,hka] at hm1
        simp only at hm1
        rw[if_pos hm] at hm1
        cases hm1
        obtain⟨q',k1,k2⟩:=h.zq (hm2 i (T+d) (by simp) o ho hw ⟨_,hok,hwa⟩ b hb)
        rw[eb] at k1
        exact(h.WH (Nat.le_refl _) (by omega) k1 k2).elim
      subst eb
      exact v.made (T+d) hXk ⟨_,hok,hka⟩ ⟨_,hok,hwa⟩ (by omega) q hq hd
     ·rw[show T+(d+1)=T+d+1 from rfl,h1] at hq
      simp only[St.put,PT.bU] at hq
      rw[if_neg eb] at hq
      exact i1 q hq hd
    ·have hXk:¬ X (T+d):=fun hx=>by have:=(v.eff (T+d) ⟨_,hok,hke⟩).1 hx;omega
     rcases h.BH (T+d) i _ o (by omega) hok ho with hbit | ⟨m,hm1,hm2⟩
     ·exact absurd (v.down.ready ho hr hbit) hXk
     ·unfold gY at hm1
      rw[hk,hke] at hm1
      simp only at hm1
      rw[if_pos hm] at hm1
      cases hm1
      obtain⟨q',k1,k2,_⟩:=h.same (hm2 i (T+d) (by simp) o ho hw ⟨_,hok,hwe⟩ b hb) hok hke
      have:q'=q:=by
       rw[show T+(d+1)=T+d+1 from rfl] at hq
       rw[hq] at k2;exact(Option.some.inj k2).symm
      subst this
      exact i1 q' k1 hd
  have:=key (i-T) (by omega) q
  rw[show T+(i-T)=i from by omega] at this
  exact this hq hd
end
variable {P:Program} {ι ι':cR} {s s':St} {w w':World}
theorem oP (hR:RS P ι s w) {l:Nat} {st:LoopState} {pend:Option Code} {t:PT Value} {nt:Nat} {ps:Array Tmp} {aAm bd:Code} {dF:Nat} (hl:s.heap.get l=some (.loop st pend t nt ps aAm bd dF)) :
  ∃ loc rec,ι l=some loc∧w.heap[loc.dR]?=some (.loop rec)∧rec.state=st∧rec.pending=pend∧rec.params=ps∧rec.assign=aAm∧rec.body=bd∧rec.tmps.size=nt ∧
   (∀ i,i<nt→VR ι ((t.get i).getD undef) (rec.tmps.getD i undef))∧cX nt aAm=true∧cX nt bd=true∧ps.toList.all (fun p=>decide (p<nt))=true ∧
   ∀ st' pend',RS P ι (s.put l fun v=>.loop st' pend' t nt ps aAm bd v) (w.putObj loc.dR (.loop {rec with state:=st',pending:=pend'})) ∧
    ES ι s w ι (s.put l fun v=>.loop st' pend' t nt ps aAm bd v) (w.putObj loc.dR (.loop {rec with state:=st',pending:=pend'})):=by
 obtain⟨loc,h1,h2⟩:=hR.obj l _ hl rfl
 obtain⟨h20,h21,h22,hoka,hokb,hokp,rec,hrec,hst,hpe,hpa,has,hbd,hsz,hval⟩:=h2
 refine⟨loc,rec,h1,hrec,hst,hpe,hpa,has,hbd,hsz,hval,hoka,hokb,hokp,fun st' pend'=>?_⟩
 exact RS.put hR hl rfl h1 h20 _ ⟨h20,h21,h22,hoka,hokb,hokp,_,dI (bG hrec),rfl,rfl,hpa,has,hbd,hsz,hval⟩
theorem AR.args {a:bD} {act:Act}:∀ (ps:List Tmp) {vs us:List Value} (t:PT Value) (T:Array Value),eF ι vs us→ps.all (fun p=>decide (p<a.nt))=true→AR ι {a with tmps:=t} {act with tmps:=T} →
  AR ι {a with tmps:=lB t (ps.zip vs)} {act with tmps:=(ps.zip us).foldl (fun tmps (p:Tmp×Value)=>tmps.setIfInBounds p.1 p.2) T}
 | [],_,_,t,T,_,_,h=>by simpa [lB] using h
 | p::ps,_,_,t,T,.nil,_,h=>by simpa [lB] using h
 | p::ps,_,_,t,T,.cons (v:=v) (u:=u) hv hr,hp,h=>by
  simp only[List.all_cons,Bool.and_eq_true,decide_eq_true_eq] at hp
  simp only[List.zip_cons_cons,lB,List.foldl_cons]
  exact AR.args ps _ _ hr hp.2 (AR.put (d:=some p) h (fun x hx=>by cases hx;exact hp.1) hv)
theorem AR.start {fn:Func} {args:List Value} {args':Array Value} (h:eF ι args args'.toList) (hle:args.length≤fn.ntmps) :
  AR ι {tmps:=PT.ofList args,nt:=fn.ntmps} {tmps:=args'++Array.replicate (fn.ntmps-args'.size) undef,defers:=[]}:=by
 have hlen:args.length=args'.size:=by rw[h.length];simp
 refine⟨by simp;omega,fun t ht=>?_⟩
 simp only[bD.aD,PT.fE]
 by_cases hta:t<args.length
 ·obtain⟨u,h1,h2⟩:=h.uE t (v:=args[t]) (by simp[hta])
  have h1':args'[t]?=some u:=by simpa using h1
  simp only[List.getElem?_eq_getElem hta,Option.getD_some,Array.getD_eq_getD_getElem?]
  rw[Array.getElem?_append_left (by omega),h1']
  exact h2
 ·rw[List.getElem?_eq_none (by omega)]
  simp only[Option.getD_none,Array.getD_eq_getD_getElem?]
  rw[Array.getElem?_append_right (by omega)]
  have:(Array.replicate (fn.ntmps-args'.size) undef)[t-args'.size]?.getD undef=undef:=by
   simp only[Array.getElem?_replicate]
   split <;> rfl
  rw[this]
  exact VR.undef _
abbrev CodeF:=Option Nat→Code→bD→St→cQ (cP×bD×St)
abbrev HS (P:Program) (ι:cR) (s:St) (w:World) (nt lo:Nat) (Φ:cP×bD×St→Prop) (Q:Exit→Act→World→Prop):Prop :=
 ∀ e a' s' act' w' ι',Φ (e,a',s')→AR ι' a' act'→RS P ι' s' w'→ES ι s w ι' s' w'→a'.nt=nt→DL lo ι' s'.look w' act'.defers→Q (cP.to e) act' w'
def pK (P:Program) (code:CodeF):Prop:=∀ r c a s act w ι Φ r' m lo Q,cX a.nt c=true→(code r c a s).yY Φ→AR ι a act→RS P ι s w→DL lo ι s.look w act.defers→rX ι r r'→lo≤w.heap.size →
 HS P ι s w a.nt lo Φ Q→c.wpIn (FW r') m P Q act w
def vR (P:Program) (code:CodeF) (n:Nat):Prop:=∀ r b a s act w ι Φ r' m lo Q,cX a.nt b=true→(code r (.loop b) a s).yY Φ→AR ι a act→RS P ι s w→DL lo ι s.look w act.defers→rX ι r r'→lo≤w.heap.size →
 HS P ι s w a.nt lo Φ Q→Code.roundsIn (FW r') m P b Q n act w
def AW (P:Program):Prop:=∀ (call:eR) (round:dK),mF P call→mA P round→MN call→MN round→∀ (id:Nat) (ops:Array Oper) (a:bD) (s:St) (act:Act) (w:World) (ι:cR) (Φ:bD×St→Prop) (r:Option Nat) (m:Nat) (Q:Exit→Act→World→Prop),
 ops.toList.all (iT a.nt)=true→uQ ops=true→(pM (env P) call round ops a s).yY Φ→AR ι a act→RS P ι s w →
 (∀ a' s' act' w' ι',Φ (a',s')→AR ι' a' act'→RS P ι' s' w'→ES ι s w ι' s' w'→a'.nt=a.nt→act'.defers=act.defers→Q .normal act' w')→(Code.region id ops true).wpIn (FW r) m P Q act w
theorem HS.next {nt lo:Nat} {Φ Φ':cP×bD×St→Prop} {Q Q':Exit→Act→World→Prop} (h:HS P ι s w nt lo Φ Q) (hE:ES ι s w ι' s' w') (hΦ:∀ p,Φ' p→Φ p) (hQ:∀ e a w,Q e a w→Q' e a w):HS P ι' s' w' nt lo Φ' Q' :=
 fun e a' s'' act' w'' ι'' h1 h2 h3 h4 h5 h6=>hQ _ _ _ (h e a' s'' act' w'' ι'' (hΦ _ h1) h2 h3 (Ext.trans hE h4) h5 h6)
theorem br {n:Nat} (hC:pK P (code (env P) n)):mA P (nK (env P) (n+1)):=by
 intro l args args' s w ι Φ r m h ha hR
 unfold nK at h
 split at h
 ·rename_i pend0 t nt ps assign body dF hl
  split at h
  ·rename_i hlen
   obtain⟨loc,rec,h1,hrec,hst,hpe,hpa,has,hbd,hsz,hval,hoka,hokb,hokp,_⟩:=oP hR hl
   refine⟨loc,rec,h1,hrec,?_,?_⟩
   ·rw[hpa,← hlen,ha.length];simp
   ·refine roundIn_of_wpIn (F:=FW r) trivial ?_
    rw[has,hbd]
    have hA:AR ι {tmps:=lB t (ps.toList.zip args),nt} {tmps:=(rec.params.zip args').foldl (fun tmps (p:Tmp×Value)=>tmps.setIfInBounds p.1 p.2) rec.tmps,defers:=[]}:=by
     have:=AR.args (ι:=ι) (a:={tmps:=t,nt}) (act:={tmps:=rec.tmps,defers:=[]}) ps.toList t rec.tmps ha hokp ⟨hsz,hval⟩
     rw[hpa,← Array.foldl_toList,Array.toList_zip]
     exact this
    rw[cQ.eQ] at h
    refine hC (some l) assign _ s _ w ι _ (some loc.dR) m 0 _ hoka h hA hR (DL.nil _ _) ⟨loc,h1,rfl⟩ (Nat.zero_le _) ?_
    intro e a1 s1 act1 w1 ι1 hΦ har1 hR1 hE1 hnt1 hdl1
    cases e with
    | exit=>exact hΦ.elim
    | ret=>exact hΦ.elim
    | normal =>
     simp only at hΦ
     split at hΦ
     ·rename_i pend1 t1 nt1 ps1 as1 bd1 ver1 hl1
      obtain⟨loc1,rec1,k1,krec,kst,kpe,kpa,kas,kbd,ksz,kval,koka,kokb,kokp,kput⟩:=oP hR1 hl1
      have:loc1=loc:=by have:=hE1.le l loc h1;rw[this] at k1;cases k1;rfl
      subst this
      refine⟨_,run_beginRound krec kst,?_⟩
      obtain⟨kR,kE⟩:=kput .busy pend1
      have e1:({rec1 with state:=.busy,pending:=pend1}:Loop)={rec1 with state:=.busy}:=by rw[← kpe]
      rw[e1] at kR kE
      rw[cQ.eQ] at hΦ
      refine hC (some l) body a1 _ act1 _ ι1 _ (some loc1.dR) m 0 _ (by rw[hnt1];exact hokb) hΦ har1 kR (hdl1.ext kE) ⟨loc1,k1,rfl⟩ (Nat.zero_le _) ?_
      intro e2 a2 s2 act2 w2 ι2 hΦ2 har2 hR2 hE2 hnt2 hdl2
      simp only at hΦ2
      split at hΦ2
      ·rename_i st3 pend3 t3 nt3 ps3 as3 bd3 ver3 hl3
       obtain⟨loc3,rec3,q1,qrec,qst,qpe,qpa,qas,qbd,qsz,qval,qoka,qokb,qokp,qput⟩:=oP hR2 hl3
       have:loc3=loc1:=by have:=hE2.le l loc1 k1;rw[this] at q1;cases q1;rfl
       subst this
       cases e2 with
       | normal =>
        obtain⟨qR,qE⟩:=qput .ready none
        exact⟨_,_,run_endRound none qrec,.bool true,.bool true,_,ι2,rfl,hΦ2,.bool _,qR,Ext.trans hE1 (Ext.trans kE (Ext.trans hE2 qE))⟩
       | ret =>
        obtain⟨qR,qE⟩:=qput .done (some .ret)
        exact⟨_,_,run_endRound (some .ret) qrec,.bool false,.bool false,_,ι2,rfl,hΦ2,.bool _,qR,Ext.trans hE1 (Ext.trans kE (Ext.trans hE2 qE))⟩
       | exit id =>
        obtain⟨qR,qE⟩:=qput .done (some (.exit id))
        exact⟨_,_,run_endRound (some (.exit id)) qrec,.bool false,.bool false,_,ι2,rfl,hΦ2,.bool _,qR,Ext.trans hE1 (Ext.trans kE (Ext.trans hE2 qE))⟩
      ·exact hΦ2.elim
     ·exact hΦ.elim
  ·exact h.elim
 ·exact h.elim
theorem kl {n:Nat} (hC:pK P (code (env P) n)):mF P (kC (env P) (n+1)):=by
 refine⟨?_,?_⟩
 ·intro f args s Φ h
  unfold kC at h
  split at h
  ·rename_i fn hf
   refine⟨fn,hf,fun hb=>?_⟩
   rw[hb] at h
   exact h
  ·exact h.elim
 ·intro f fn args args' s w ι Φ r m hf hb h ha hR
  obtain⟨c,hc⟩:=Option.isSome_iff_exists.1 hb
  unfold kC at h
  rw[hf] at h
  simp only[hc] at h
  split at h
  ·rename_i hle
   obtain⟨h1,h2⟩:=xW hf
   unfold SG at h2
   rw[hc] at h2
   simp only[Bool.and_eq_true] at h2
   obtain⟨⟨_,hok⟩,hres⟩:=h2
   rw[cQ.eQ] at h
   show CallsIn (FW none) m P f args' w _
   refine callsIn_of_wp_marks h1 hc trivial ?_ rfl
   refine hC none c _ s _ w ι _ none m w.heap.size _ hok h (AR.start ha hle) hR (DL.nil _ _) trivial (Nat.le_refl _) ?_
   intro e a' s' act' w' ι' hΦ har hR' hE hnt hdl
   have key:∀ v,kP (env P) s'.look fn a'=some v→Φ (v,s')→LeavesInM (FW none) m P fn act'.tmps (ka P ι s w Φ) act'.defers .returning w':=by
    intro v hv hφ
    refine uJ _ w' hR' hE (Nat.le_refl _) hdl ?_
    intro w'' hR'' hE''
    obtain⟨u,g1,g2⟩:=zQ har hR'' (by rw[hnt];exact hres) hv
    exact⟨u,g1,v,u,s',ι',rfl,hφ,g2,hR'',hE''⟩
   cases e with
   | exit=>exact hΦ.elim
   | normal =>
    simp only at hΦ
    split at hΦ
    ·exact key _ (by assumption) hΦ
    ·exact hΦ.elim
   | ret =>
    simp only at hΦ
    split at hΦ
    ·exact key _ (by assumption) hΦ
    ·exact hΦ.elim
  ·exact h.elim
theorem ON {n:Nat} (hC:pK P (code (env P) n)) (hL:vR P (code (env P) n) n):vR P (code (env P) (n+1)) (n+1):=by
 intro r b a s act w ι Φ r' m lo Q hok h ha hR hdl hr hlo hQ
 rw[roundsIn_succ]
 unfold code at h
 simp only at h
 rw[cQ.eQ] at h
 refine hC r b a s act w ι _ r' m lo _ hok h ha hR hdl hr hlo ?_
 intro e a' s' act' w' ι' hΦ har hR' hE hnt hdl'
 cases e with
 | normal =>
  refine hL r b a' s' act' w' ι' Φ r' m lo Q (by rw[hnt];exact hok) hΦ har hR' hdl' (hr.mono hE.le) (Nat.le_trans hlo hE.size) ?_
  rw[hnt]
  exact hQ.next hE (fun _ h=>h) (fun _ _ _ h=>h)
 | exit id=>exact hQ _ _ _ _ _ _ hΦ har hR' hE hnt hdl'
 | ret=>exact hQ _ _ _ _ _ _ hΦ har hR' hE hnt hdl'
theorem bm {n:Nat} (hc:mF P (kC (env P) n)) {r:Option Nat} {g:Operand} {ps:Array Tmp} {assign body:Code} {a:bD} {act:Act} {Φ:cP×bD×St→Prop} {r':Option Nat} {m lo:Nat} {Q:Exit→Act→World→Prop}
  (hok:cX a.nt (.rangeFunc g ps assign body)=true) (h:(code (env P) (n+1) r (.rangeFunc g ps assign body) a s).yY Φ) (ha:AR ι a act) (hR:RS P ι s w) (hdl:DL lo ι s.look w act.defers) (hr:rX ι r r') (hlo:lo≤w.heap.size)
  (hQ:HS P ι s w a.nt lo Φ Q):(Code.rangeFunc g ps assign body).wpIn (FW r') m P Q act w:=by
 simp only[cX,Bool.and_eq_true] at hok
 obtain⟨⟨⟨hokg,hokp⟩,hoka⟩,hokb⟩:=hok
 unfold code at h
 simp only at h
 split at h
 ·rename_i f first captured hg
  split at h
  ·rename_i hlive
   have hv:=ha.eval hR.even hokg
   rw[hg] at hv
   obtain⟨a',c',hg',hf1,hf2⟩:=hv.BU
   refine wpIn_rangeFunc fun fid _=>?_
   obtain⟨mark,w0,rec,henter,hR0,hE0,hsz0,hrec,hmark⟩:∃ (mark:List Deferred) (w0:World) (rec:Loop),
     (Instr.enterLoop fid act.tmps ps assign body (FW r').round).run P w=.ok (w0.heap.size,mark) (w0.alloc (.loop rec))∧RS P ι s w0∧ES ι s w ι s w0∧lo≤w0.heap.size ∧
     (rec.state=.ready∧rec.pending=none∧rec.params=ps∧rec.assign=assign∧rec.body=body∧rec.tmps=act.tmps)∧DL lo ι s.look w0 (mark++act.defers):=by
    cases r' with
    | none =>
     refine⟨[{target:=.collected w.heap.size,args:=#[]}],w.alloc (.deferred (some [])),{state:=.ready,pending:=none,fn:=fid,tmps:=act.tmps,params:=ps,assign,body,defers:=w.heap.size},?_,hR.raw _,Ext.raw _,by simp;omega,?_,?_⟩
     ·exact(run_enterLoop_outer fid act.tmps ps assign body).trans (by rw[World.size_alloc])
     ·exact⟨rfl,rfl,rfl,rfl,rfl,rfl⟩
     ·have hd2:=hdl.ext (Ext.raw (ι:=ι) (H:=s.look) (n:=s.next) (w:=w) (.deferred (some [])))
      refine⟨⟨?_,?_⟩,?_⟩
      ·intro d hd
       rcases List.mem_cons.1 hd with rfl | hd
       ·exact⟨w.heap.size,rfl,heap_alloc_new,ie (x:=some []) (hR.raw (.deferred (some []))) heap_alloc_new⟩
       ·exact hd2.1.mark d hd
      ·refine List.pairwise_cons.2 ⟨?_,hd2.1.apart⟩
       intro d hd D hD hd3
       cases hD
       obtain⟨D',rfl,k2,_⟩:=hdl.1.mark d hd
       cases hd3
       have:=bG k2
       omega
      ·intro d hd D hD
       rcases List.mem_cons.1 hd with rfl | hd
       ·cases hD;exact hlo
       ·exact hd2.2 d hd D hD
    | some b =>
     cases r with
     | none=>exact hr.elim
     | some l =>
      obtain⟨loc,hl1,rfl⟩:=hr
      unfold kV at hlive
      simp only at hlive
      split at hlive
      ·rename_i hll
       obtain⟨loc1,rec1,k1,krec,_⟩:=oP hR hll
       rw[hl1] at k1;cases k1
       exact⟨[],w,{state:=.ready,pending:=none,fn:=fid,tmps:=act.tmps,params:=ps,assign,body,defers:=rec1.defers},run_enterLoop_inner krec fid act.tmps ps assign body,hR,Ext.refl,hlo,⟨rfl,rfl,rfl,rfl,rfl,rfl⟩,hdl⟩
      ·cases hlive
   obtain⟨e1,e2,e3,e4,e5,e6⟩:=hrec
   have hfree:ι s.next=none:=hR.fresh _ (Nat.le_refl _) hR.GZ
   have hle:=cR.oB (l:=⟨w0.heap.size,0,0,false⟩) hfree
   obtain⟨hR1,hE1⟩:=RS.new (ex:=0) hR0 (.loop rec) (f:=fun v=>.loop .ready none a.tmps a.nt ps assign body v)
    ⟨rfl,rfl,rfl,hoka,hokb,hokp,rec,heap_alloc_new,e1,e2,e3,e4,e5,by rw[e6];exact ha.size,fun i hi=>by rw[e6];exact(ha.val i hi).mono hle⟩
   have hnew:(ι.add s.next ⟨w0.heap.size,0,0,false⟩) s.next=some ⟨w0.heap.size,0,0,false⟩:=cR.add_same _ _ _
   rw[cQ.eQ] at h
   have hargs:eF (ι.add s.next ⟨w0.heap.size,0,0,false⟩) (first.toList++[Value.func (.yield s.next) #[] #[]]++captured.toList) (a'++#[Value.func (.yield w0.heap.size) #[] #[]]++c').toList:=by
    simp only[Array.toList_append]
    exact((hf1.mono hle).append (eF.cons (VR.yield hnew) eF.nil)).append (hf2.mono hle)
   obtain⟨fn,hfn,hext⟩:=hc.fn f _ _ _ h
   have hbody:fn.body.isSome=true:=by
    cases hb:fn.body with
    | some c=>rfl
    | none =>
     exfalso
     have hx:=hext hb
     unfold oN at hx
     split at hx
     ·split at hx
      ·rename_i t b heq
       have h1:(Value.func (.yield s.next) #[] #[])∈first.toList++[Value.func (.yield s.next) #[] #[]]++captured.toList:=by simp
       rw[heq] at h1
       simp at h1
      ·exact hx.elim
     ·exact hx.elim
   refine⟨w0.heap.size,mark,w0.alloc (.loop rec),{target:=.fn (.func f) c',args:=a'++#[.func (.yield w0.heap.size) #[] #[]]},w0.alloc (.loop rec),f,a'++#[.func (.yield w0.heap.size) #[] #[]]++c',w0.alloc (.loop rec),
    henter,?_,fun _ _=>trivial,?_,?_,?_⟩
   ·have harg:(#[Operand.const (.func (.yield w0.heap.size) #[] #[])].map act.eval)=#[Value.func (.yield w0.heap.size) #[] #[]]:=by simp[Act.eval]
    simp only[resolve,hg',Deferred.ofValue,Sem.run_pure,harg]
   ·show (callFunc f _).run P _=_
    exact uW hfn hbody _
   ·intro hh;cases hh
   ·refine(hc.calls f fn _ _ _ _ _ _ r' (m-1) hfn hbody h hargs hR1).mono ?_
    rintro e w3 ⟨v,u,s3,ι3,rfl,hΦ,hvu,hR3,hE3⟩
    have hA3:∀ ds,AR ι3 a {act with defers:=ds}:=fun ds=>⟨ha.size,fun t ht=>(ha.val t ht).mono (cR.le_trans hle hE3.le)⟩
    simp only at hΦ
    split at hΦ
    ·rename_i st pend t nt ps3 as3 bd3 dF hl3
     obtain⟨loc3,rec3,q1,qrec,qst,qpe,qpa,qas,qbd,qsz,qval,qoka,qokb,qokp,qput⟩:=oP hR3 hl3
     have:loc3=⟨w0.heap.size,0,0,false⟩:=by have:=hE3.le _ _ hnew;rw[this] at q1;cases q1;rfl
     subst this
     split at hΦ
     ·exact hΦ.elim
     ·rename_i hbusy
      obtain⟨qR,qE⟩:=qput .exhausted pend
      have hEall:=Ext.trans hE0 (Ext.trans hE1 (Ext.trans hE3 qE))
      have hD:=(hmark.ext hE1).ext (Ext.trans hE3 qE)
      refine⟨rec3.pending,_,run_endLoop qrec (by rw[qst];exact hbusy),?_⟩
      rw[qpe]
      split at hΦ
      ·exact hQ .normal a _ _ _ _ hΦ (hA3 _) qR hEall rfl hD
      ·exact wpIn_ret (hQ .ret a _ {act with defers:=mark++act.defers} _ _ hΦ (hA3 _) qR hEall rfl hD)
      ·exact wpIn_exit (hQ (.exit _) a _ {act with defers:=mark++act.defers} _ _ hΦ (hA3 _) qR hEall rfl hD)
      ·exact hΦ.elim
    ·exact hΦ.elim
  ·exact h.elim
 ·exact h.elim
theorem ll (hD:AW P) {n:Nat} (hC:pK P (code (env P) n)) (hL:vR P (code (env P) n) n) (hc:mF P (kC (env P) n)) (hr:mA P (nK (env P) n)):pK P (code (env P) (n+1)):=by
 intro r c a s act w ι Φ r' m lo Q hok h ha hR hdl hrd hlo hQ
 cases c with
 | rangeFunc g ps aAm bd=>exact bm hc hok h ha hR hdl hrd hlo hQ
 | loop b=>exact wpIn_loop_rounds (n+1) (ON hC hL r b a s act w ι Φ r' m lo Q hok h ha hR hdl hrd hlo hQ)
 | skip=>unfold code at h;exact wpIn_skip (hQ .normal a s act w ι h ha hR Ext.refl rfl hdl)
 | label l=>unfold code at h;exact wpIn_label (hQ .normal a s act w ι h ha hR Ext.refl rfl hdl)
 | exit id=>unfold code at h;exact wpIn_exit (hQ (.exit id) a s act w ι h ha hR Ext.refl rfl hdl)
 | ret=>unfold code at h;exact wpIn_ret (hQ .ret a s act w ι h ha hR Ext.refl rfl hdl)
 | scope=>unfold code at h;exact h.elim
 | goto=>unfold code at h;exact h.elim
 | refuse=>unfold code at h;exact h.elim
 | region id ops draw =>
  simp only[cX,Bool.and_eq_true] at hok
  unfold code at h
  simp only at h
  rw[cQ.eQ] at h
  cases draw with
  | true =>
   simp only[if_true] at h
   obtain⟨e1,e2,e3⟩:=UT (X:=env P) n
   refine hD _ _ hc hr e2 e3 id ops a s act w ι _ r' m Q hok.1 (by simpa using hok.2) h ha hR ?_
   intro a' s' act' w' ι' h1 h2 h3 h4 h5 h6
   exact hQ .normal a' s' act' w' ι' h1 h2 h3 h4 h5 (by rw[h6];exact hdl.ext h4)
  | false =>
   simp only[Bool.false_eq_true,if_false] at h
   refine wpIn_region ?_
   rw[List.range_eq_range']
   have:=qO (r:=r') (m:=m) hc hr (ops:=ops) (Q:=Q) ops.toList 0 (fun j=>by simp) a s act w ι _ hok.1 h ha hR ?_
   ·simpa using this
   ·intro a' s' act' w' ι' h1 h2 h3 h4 h5 h6
    exact hQ .normal a' s' act' w' ι' h1 h2 h3 h4 h5 (by rw[h6];exact hdl.ext h4)
 | seq x y =>
  simp only[cX,Bool.and_eq_true] at hok
  unfold code at h
  simp only at h
  rw[cQ.eQ] at h
  refine wpIn_seq (hC r x a s act w ι _ r' m lo _ hok.1 h ha hR hdl hrd hlo ?_)
  intro e a' s' act' w' ι' hΦ har hR' hE hnt hdl'
  cases e with
  | normal =>
   refine hC r y a' s' act' w' ι' Φ r' m lo Q (by rw[hnt];exact hok.2) hΦ har hR' hdl' (hrd.mono hE.le) (Nat.le_trans hlo hE.size) ?_
   rw[hnt]
   exact hQ.next hE (fun _ h=>h) (fun _ _ _ h=>h)
  | exit id=>exact hQ _ _ _ _ _ _ hΦ har hR' hE hnt hdl'
  | ret=>exact hQ _ _ _ _ _ _ hΦ har hR' hE hnt hdl'
 | cond c x y =>
  simp only[cX,Bool.and_eq_true] at hok
  unfold code at h
  simp only at h
  have hv:=ha.eval hR.even hok.1.1
  split at h
  ·rename_i hc'
   rw[hc'] at hv
   exact wpIn_cond_true hv.kT (hC r x a s act w ι Φ r' m lo Q hok.1.2 h ha hR hdl hrd hlo hQ)
  ·rename_i hc'
   rw[hc'] at hv
   exact wpIn_cond_false hv.kT (hC r y a s act w ι Φ r' m lo Q hok.2 h ha hR hdl hrd hlo hQ)
  ·exact h.elim
 | block id b =>
  simp only[cX] at hok
  unfold code at h
  simp only at h
  rw[cQ.eQ] at h
  refine wpIn_block (hC r b a s act w ι _ r' m lo _ hok h ha hR hdl hrd hlo ?_)
  intro e a' s' act' w' ι' hΦ har hR' hE hnt hdl'
  cases e with
  | normal=>exact hQ .normal _ _ _ _ _ hΦ har hR' hE hnt hdl'
  | ret=>exact hQ .ret _ _ _ _ _ hΦ har hR' hE hnt hdl'
  | exit i =>
   simp only at hΦ
   show if i=id then Q .normal act' w' else Q (.exit i) act' w'
   split at hΦ
   ·rename_i e;rw[if_pos e];exact hQ .normal _ _ _ _ _ hΦ har hR' hE hnt hdl'
   ·rename_i e;rw[if_neg e];exact hQ (.exit i) _ _ _ _ _ hΦ har hR' hE hnt hdl'
theorem NH (hD:AW P):∀ n,pK P (code (env P) n)∧vR P (code (env P) n) n∧mF P (kC (env P) n)∧mA P (nK (env P) n)
 | 0=>by
  refine⟨?_,?_,⟨?_,?_⟩,?_⟩
  ·intro r c a s act w ι Φ r' m lo Q _ h;unfold code at h;exact h.elim
  ·intro r b a s act w ι Φ r' m lo Q _ h;unfold code at h;exact h.elim
  ·intro f args s Φ h;unfold kC at h;exact h.elim
  ·intro f fn args args' s w ι Φ r m _ _ h;unfold kC at h;exact h.elim
  ·intro l args args' s w ι Φ r m h;unfold nK at h;exact h.elim
 | n+1=>by
  obtain⟨h1,h2,h3,h4⟩:=NH hD n
  exact⟨ll hD h1 h2 h3 h4,ON h1 h2,kl h1,br h1⟩
end Go.Dust
