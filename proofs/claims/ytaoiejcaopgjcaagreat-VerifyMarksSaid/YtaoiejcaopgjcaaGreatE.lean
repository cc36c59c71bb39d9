/- The plain interpreter D and its laws (Dm Dn Dp Dq Dr Ds Dt). -/
import Derived.Test.YtaoiejcaopgjcaaGreatD
import Derived.RangeFuncNested
import Derived.OrdersIn
set_option linter.unusedVariables false
set_option linter.unusedSimpArgs false
namespace Go.Dust
variable {X:Env}
abbrev nA (call:fZ):Prop:=∀ f args s,(call f args s).Lv fun p=>dN s p.2
theorem Xi (s:St) (it:Value) (b:Bool):(DT s it b).Lv fun p=>dN s p.2:=by
 have hpick:∀ r m since seen clock cands i,(∃ o,s.heap.get r=some o∧o.cS=false)→(DZ s r m since seen clock cands i).Lv fun p=>dN s p.2:=by
  intro r m since seen clock cands i hb;unfold DZ;split
  ·exact .put (fun _=>.inr ⟨rfl,rfl⟩) (.inr (.inl hb))
  ·exact .refl _
  ·trivial
 unfold DT
 (repeat' split) <;> first
  | trivial
  | exact .put (fun _=>.inr ⟨rfl,rfl⟩) (.inr (.inl ⟨_,by assumption,rfl⟩))
  | exact .refl _
  | exact hpick _ _ _ _ _ _ _ ⟨_,by assumption,rfl⟩
  | exact fun i _=>hpick _ _ _ _ _ _ _ ⟨_,by assumption,rfl⟩
theorem zq (s:St) (fn:Func) (args:List Value):(yM s fn args).Lv fun p=>dN s p.2:=by
 unfold yM
 (repeat' split) <;> first
  | trivial
  | exact .new fun _=>.inr ⟨rfl,rfl⟩
theorem Xg {call:fZ} {round:gM} (hc:nA call) (hr:nA round) (s:St) (f:Value) (args:List Value):(oC X call round s f args).Lv fun p=>dN s p.2:=by
 unfold oC
 (repeat' split) <;> first
  | trivial
  | exact hc _ _ _
  | exact hr _ _ _
theorem TF {α:Type} (why:String) (x:Option (α×St)) (s:St) (h:∀ v s',x=some (v,s')→dN s s'):(aS.ofOption why x).Lv fun p=>dN s p.2:=by
 cases x with
 | none=>trivial
 | some p=>exact h p.1 p.2 rfl
theorem cn {call:fZ} {round:gM} (hc:nA call) (hr:nA round) (s:St) (ρ:Operand→Value) (op:Op):(eX X call round s ρ op).Lv fun p=>dN s p.2:=by
 unfold eX;split
 ·split
  ·split
   ·rename_i h;exact .storeT h
   ·trivial
  ·trivial
 ·split
  ·rename_i h;exact .mE h
  ·trivial
 ·split
  ·rename_i h;exact .mE h
  ·trivial
 ·(repeat' split) <;> first | trivial | exact .new fun _=>.inr ⟨rfl,rfl⟩
 ·exact Xi _ _ _
 ·split
  ·exact Xg hc hr _ _ _
  ·(repeat' split) <;> first | trivial | exact hc _ _ _
  ·exact TF _ _ _ fun _ _ h=>.append h
  ·exact TF _ _ _ fun _ _ h=>.copy h
  ·exact TF _ _ _ fun _ _ h=>.clear h
  ·exact TF _ _ _ fun _ _ h=>.delete h
  ·trivial
 ·trivial
theorem ua {nm:Nat} {ρ:Operand→Value} {op:Op} {v:Value} {f:Nat→bU} (h:fE X nm ρ op=some (v,f)):RP f:=by
 unfold fE at h
 (repeat' split at h) <;> first
  | (cases h;done)
  | (simp only[Option.some.injEq,Prod.mk.injEq] at h;obtain⟨_,rfl⟩:=h;exact fun _=>.inr ⟨rfl,rfl⟩)
theorem Xh {call:fZ} {round:gM} (hc:nA call) (hr:nA round) (s:St) (ρ:Operand→Value) (op:Op):(lX X call round s ρ op).Lv fun p=>dN s p.2:=by
 unfold lX;split
 ·split
  ·exact .refl _
  ·trivial
 ·split
  ·rename_i h;exact .new (ua h)
  ·trivial
 ·exact cn hc hr _ _ _
theorem TE {call:fZ} {round:gM} (hc:nA call) (hr:nA round) {ops:Array Oper}:∀ (rest:List Oper) (a:aG) (s:St),(gP X call round ops rest a s).Lv fun p=>dN s p.2
 | [],a,s=>.refl s
 | o::rest,a,s=>by
  unfold gP;split
  ·rw[aS.oQ];exact(Xh hc hr s a.eval o.op).mono fun p hp=>(TE hc hr rest _ p.2).mono fun q hq=>hp.trans hq
  ·exact TE hc hr rest _ s
theorem zp {call:fZ} {round:gM} (hc:nA call) (hr:nA round) {nm base:Nat} {s s':St} {ρ:Operand→Value} {op:Op} {v:Value} (hnm:base≤nm) (hbn:base≤s.next) (h:lK X call round nm s ρ op=some (v,s')):oB base s s':=by
 unfold lK at h;split at h
 ·split at h
  ·simp only[Option.some.injEq,Prod.mk.injEq] at h;obtain⟨_,rfl⟩:=h;exact .refl _ _
  ·cases h
 ·split at h
  ·rename_i ha;simp only[Option.some.injEq,Prod.mk.injEq] at h;obtain⟨_,rfl⟩:=h;exact .put (ua ha) (.inr (.inr hnm))
  ·cases h
 ·split at h
  ·rename_i hx;simp only[Option.some.injEq] at h;subst h;have:=cn (X:=X) hc hr s ρ op;rw[hx] at this;exact oB.low this hbn
  ·cases h
theorem cp {call:fZ} {round:gM} (hc:nA call) (hr:nA round) {ops:Array Oper} {base:Nat}:∀ (rest:List Oper) (i:Nat) (a:aG) (s:St) (a':aG) (s':St) (l:List nB),
  base≤s.next→eP X call round ops base rest i a s=some (a',s',l)→oB base s s'
 | [],i,a,s,a',s',l,_,h=>by
  simp only[eP,Option.some.injEq,Prod.mk.injEq] at h;obtain⟨_,rfl,_⟩:=h;exact .refl _ _
 | o::rest,i,a,s,a',s',l,hb,h=>by
  unfold eP at h;split at h
  ·split at h
   ·rename_i v s1 hx;split at h
    ·rename_i a2 s2 l2 hl;simp only[Option.some.injEq,Prod.mk.injEq] at h;obtain⟨_,rfl,_⟩:=h;have h1:=zp (base:=base) hc hr (by omega) hb hx;exact h1.trans (cp hc hr rest _ _ _ _ _ _ (Nat.le_trans hb h1.next) hl)
    ·cases h
   ·cases h
  ·split at h
   ·rename_i a2 s2 l2 hl;simp only[Option.some.injEq,Prod.mk.injEq] at h;obtain⟨_,rfl,_⟩:=h;exact cp hc hr rest _ _ _ _ _ _ hb hl
   ·cases h
theorem dN.Le (s:St) (k:Nat):dN s {heap:=s.heap,next:=s.next+2*k,aO:=s.aO} :=
 ⟨Nat.le_refl _,Nat.le_add_right _ _,fun _ _ h _ _=>h,fun h=>h,fun _ o h hd=>.inl ⟨o,h,hd,fun h=>h⟩⟩
theorem zo {call:fZ} {round:gM} (hc:nA call) (hr:nA round) {ops:Array Oper} (a:aG) (s:St):(uR X call round ops a s).Lv fun p=>dN s p.2:=by
 unfold uR;split
 ·trivial
 ·split
  ·rename_i h;split
   ·exact oB.trans (dN.Le s ops.size) (cp hc hr _ _ _ _ _ _ _ (Nat.le_add_right _ _) h)
   ·trivial
  ·trivial
theorem zn:∀ n:Nat,(∀ r c a s,(code X n r c a s).Lv fun p=>dN s p.2.2)∧nA (lV X n)∧nA (sO X n)
 | 0=>⟨fun _ _ _ _=>trivial,fun _ _ _=>trivial,fun _ _ _=>trivial⟩
 | n+1=>by
  obtain⟨h1,h2,h3⟩:=zn n;refine⟨?_,?_,?_⟩
  ·intro r c a s;unfold code;split
   ·exact .refl _
   ·exact .refl _
   ·rw[aS.oQ];split
    ·exact(zo h2 h3 a s).mono fun _ hp=>hp
    ·exact(TE h2 h3 _ a s).mono fun _ hp=>hp
   ·rw[aS.oQ];refine(h1 _ _ a s).mono fun p hp=>?_;obtain⟨e,a',s'⟩:=p;cases e
    ·exact(h1 _ _ a' s').mono fun q hq=>hp.trans hq
    ·exact hp
    ·exact hp
   ·split
    ·exact h1 _ _ _ _
    ·exact h1 _ _ _ _
    ·trivial
   ·rw[aS.oQ];refine(h1 _ _ a s).mono fun p hp=>?_;obtain⟨e,a',s'⟩:=p;cases e
    ·exact hp
    ·simp only;split <;> exact hp
    ·exact hp
   ·rw[aS.oQ];refine(h1 _ _ a s).mono fun p hp=>?_;obtain⟨e,a',s'⟩:=p;cases e
    ·exact(h1 _ _ a' s').mono fun q hq=>hp.trans hq
    ·exact hp
    ·exact hp
   ·exact .refl _
   ·exact .refl _
   ·split
    ·split;rotate_left
     ·trivial
     rw[aS.oQ];refine(h2 _ _ _).mono fun p hp=>?_;obtain⟨v,s'⟩:=p;have h0:dN s s':=dN.trans (.new fun _=>.inr ⟨rfl,rfl⟩) hp;simp only;split
     ·split
      ·trivial
      ·split
       ·exact h0.trans (.put (fun _=>.inr ⟨rfl,rfl⟩) (.inr (.inl ⟨_,by assumption,rfl⟩)))
       ·exact h0.trans (.put (fun _=>.inr ⟨rfl,rfl⟩) (.inr (.inl ⟨_,by assumption,rfl⟩)))
       ·exact h0.trans (.put (fun _=>.inr ⟨rfl,rfl⟩) (.inr (.inl ⟨_,by assumption,rfl⟩)))
       ·trivial
     ·trivial
    ·trivial
   ·trivial
   ·trivial
   ·trivial
  ·intro f args s;unfold lV;split
   ·split
    ·split
     ·rw[aS.oQ];refine(h1 _ _ _ s).mono fun p hp=>?_;obtain⟨e,a',s'⟩:=p;simp only;split
      ·trivial
      ·split
       ·exact hp
       ·trivial
     ·trivial
    ·exact zq _ _ _
   ·trivial
  ·intro l args s;unfold sO;split
   ·split
    ·rw[aS.oQ];refine(h1 _ _ _ s).mono fun p hp=>?_;obtain⟨e,a',s'⟩:=p;simp only;split
     ·split
      ·rw[aS.oQ];refine(h1 _ _ _ _).mono fun q hq=>?_;obtain⟨e2,a2,s2⟩:=q;have h0:dN s s2:=hp.trans (dN.trans (.put (fun _=>.inr ⟨rfl,rfl⟩) (.inr (.inl ⟨_,by assumption,rfl⟩))) hq);simp only
       (repeat' split) <;> first
        | trivial
        | exact h0.trans (.put (fun _=>.inr ⟨rfl,rfl⟩) (.inr (.inl ⟨_,by assumption,rfl⟩)))
      ·trivial
     ·trivial
    ·trivial
   ·trivial
variable {P:Program} {ι ι':aP} {s s':St} {w w':World}
def dL.to:dL→Exit
 | .normal=>.normal
 | .exit i=>.exit i
 | .ret=>.ret
def CE (ι:aP):Option Nat→Option Nat→Prop
 | none,none=>True
 | some l,some b=>∃ loc,ι l=some loc∧loc.bL=b
 | _,_=>False
theorem CE.mono {r r':Option Nat} (h:CE ι r r') (hle:ι.le ι'):CE ι' r r':=by
 cases r <;> cases r' <;> simp only[CE] at h ⊢
 obtain⟨loc,h1,h2⟩:=h;exact⟨loc,hle _ _ h1,h2⟩
theorem jD.Iv {X:Env} {l:Loc} {x:Option (List Deferred)} (hw:w.heap[l.bL]?=some (.deferred x)):∀ {o:bU},o.cS=false→jD X ι w l o→False
 | .cells ..,_,h=>by obtain⟨_,_,_,h1,_⟩:=h;rw[hw] at h1;cases h1
 | .map ..,_,h=>by obtain⟨_,_,_,_,h1,_⟩:=h;rw[hw] at h1;cases h1
 | .gC none ..,_,h=>by obtain⟨_,_,_,_,_,_,h1⟩:=h;rw[hw] at h1;cases h1
 | .gC (some _) ..,_,h=>by obtain⟨_,_,_,_,_,h1⟩:=h;rw[hw] at h1;cases h1
 | .pF ..,_,h=>by have h1:=h.2.2.2;rw[hw] at h1;cases h1
 | .loop ..,_,h=>by obtain⟨_,_,_,_,_,_,_,h1,_⟩:=h;rw[hw] at h1;cases h1
 | .dead,h,_=>by cases h
theorem jD.lt {X:Env} {l:Loc}:∀ {o:bU},o.cS=false→jD X ι w l o→l.bL<w.heap.size
 | .cells ..,_,h=>by obtain⟨_,_,_,h1,_⟩:=h;exact iO h1
 | .map ..,_,h=>by obtain⟨_,_,_,_,h1,_⟩:=h;exact iO h1
 | .gC none ..,_,h=>by obtain⟨_,_,_,_,_,_,h1⟩:=h;exact iO h1
 | .gC (some _) ..,_,h=>by obtain⟨_,_,_,_,_,h1⟩:=h;exact iO h1
 | .pF ..,_,h=>iO h.2.2.2
 | .loop ..,_,h=>by obtain⟨_,_,_,_,_,_,_,h1,_⟩:=h;exact iO h1
 | .dead,h,_=>by cases h
theorem Iw {X:Env} {H:bG} {n:Nat} (hR:R X ι H n w) {D:Nat} {x:Option (List Deferred)} (hw:w.heap[D]?=some (.deferred x)):¬ Own ι H D:=by
 rintro⟨b,o,l,h1,h2,h3,h4,rfl⟩;obtain⟨l',h5,h6⟩:=hR.obj b o h1 h2;rw[h3] at h5;cases h5;exact h6.Iv hw h2
theorem R.raw {X:Env} {H:bG} {n:Nat} (hR:R X ι H n w) (x:Obj):R X ι H n (w.alloc x):=by
 refine⟨hR.even,hR.jZ,hR.fresh,fun b l hb hr=>by have:=hR.sK b l hb hr;simp;omega,fun b o hb hd=>?_,hR.inj⟩;obtain⟨l,h1,h2⟩:=hR.obj b o hb hd;exact⟨l,h1,h2.mono (aP.le_refl _) (heap_alloc_old (h2.lt hd))⟩
theorem Ext.raw {H:bG} {n:Nat} (x:Obj):Ext ι H n w ι H n (w.alloc x) :=
 ⟨aP.le_refl _,fun _ h _=>h,Nat.le_refl _,rfl,rfl,rfl,by simp,fun c hc _=>heap_alloc_old hc,fun _ h=>.inl h⟩
theorem R.shut {X:Env} {H:bG} {n:Nat} (hR:R X ι H n w) {D:Nat} {x:Option (List Deferred)} (hw:w.heap[D]?=some (.deferred x)) (y:Obj):R X ι H n (World.gR w D y):=by
 refine⟨hR.even,hR.jZ,hR.fresh,fun b l hb hr=>by have:=hR.sK b l hb hr;simpa using this,fun b o hb hd=>?_,hR.inj⟩;obtain⟨l,h1,h2⟩:=hR.obj b o hb hd;refine⟨l,h1,h2.mono (aP.le_refl _) (GA fun e=>?_)⟩;subst e;exact h2.Iv hw hd
theorem Ext.aEc {H H':bG} {n n':Nat} (h:Ext ι H n w ι' H' n' w') {D:Nat} (hD:w.heap.size≤D) (y:Obj):Ext ι H n w ι' H' n' (World.gR w' D y) :=
 ⟨h.le,h.new,h.zM,h.os,h.tape,h.output,by simpa using h.size,fun c hc ho=>(GA (by omega)).trans (h.aD c hc ho),h.own⟩
def DL (lo:Nat) (ι:aP) (H:bG) (w:World) (ds:List Deferred):Prop :=
 DR ι H w ds∧∀ d∈ds,∀ D,d.target=.collected D→lo≤D
theorem DL.ext {lo:Nat} {H H':bG} {n n':Nat} {ds:List Deferred} (h:DL lo ι H w ds) (he:Ext ι H n w ι' H' n' w'):DL lo ι' H' w' ds:=⟨h.1.ext he,h.2⟩
theorem DL.nil (lo:Nat) (H:bG):DL lo ι H w []:=⟨.nil H,by simp⟩
theorem jq {fn:Func} {tmps:Array Value} {m lo:Nat} {Rr:Ending→World→Prop} {w0:World} {ι0:aP} {s0:St}:∀ (ds:List Deferred) (w:World),RS P ι s w→ES ι0 s0 w0 ι s w→w0.heap.size≤lo→DL lo ι s.look w ds →
  (∀ w',RS P ι s w'→ES ι0 s0 w0 ι s w'→LeavesIn (FW none) m P fn tmps Rr [] .returning w')→LeavesInM (FW none) m P fn tmps Rr ds .returning w
 | [],w,hR,hE,_,_,h=>h w hR hE
 | d::ds,w,hR,hE,hlo,hD,h=>by
  obtain⟨D,rfl,h2,h3⟩:=hD.1.mark d (by simp);have hloD:=hD.2 _ (List.mem_cons_self ..) D rfl;refine⟨by simp,.inl ⟨D,World.gR w D (.deferred none),rfl,run_takeDeferred h2,?_⟩⟩;refine jq ds _ (hR.shut h2 _) (hE.aEc (Nat.le_trans hlo hloD) _) hlo ⟨⟨fun e he=>?_,(List.pairwise_cons.1 hD.1.apart).2⟩,fun e he=>hD.2 e (List.mem_cons_of_mem _ he)⟩ h;obtain⟨E,rfl,k2,k3⟩:=hD.1.mark e (List.mem_cons_of_mem _ he);have hne:E≠D:=fun x=>(List.pairwise_cons.1 hD.1.apart).1 _ he D rfl (by rw[x]);exact⟨E,rfl,(GA hne).trans k2,k3⟩
theorem ou {fn:Func} {a:aG} {act:Act} (ha:AR ι a act) (hR:RS P ι s w):∀ (rs:List ResultVar) (l:List Value),KR a.nt rs=true→results1 (env P) s.look a rs=some l →
  ∃ us,((rs.mapM fun
   | .tmp t=>pure (act.tmps.getD t undef)
   | .cell x t=>do loadVar t (← asAddr (act.tmps.getD x undef)):Sem (List Value))).run P w=.ok us w∧bQ ι l us
 | [],l,_,h=>by
  simp only[results1,Option.some.injEq] at h;subst h;exact⟨[],rfl,.nil⟩
 | .tmp t::rest,l,hok,h=>by
  simp only[KR,List.all_cons,Bool.and_eq_true,decide_eq_true_eq] at hok;simp only[results1] at h;split at h
  ·rename_i l' hl';cases h;obtain⟨us,h1,h2⟩:=ou (fn:=fn) ha hR rest l' hok.2 hl';refine⟨_::us,?_,.cons (ha.val t hok.1) h2⟩;simp only[List.mapM_cons,Sem.run_bind,Sem.run_pure,Result.andThen_ok]
   erw [h1]
   rfl
  ·cases h
 | .cell t ty::rest,l,hok,h=>by
  simp only[KR,List.all_cons,Bool.and_eq_true,decide_eq_true_eq] at hok;simp only[results1] at h;split at h
  ·rename_i ad had;have hv:=ha.val t hok.1;rw[had] at hv;split at h
   ·rename_i v l' hv' hl';cases h;obtain⟨us,h1,h2⟩:=ou (fn:=fn) ha hR rest l' hok.2 hl';generalize hu:act.tmps.getD t undef=u at hv;cases hv with
    | ptr hb =>
    obtain⟨x,g1,g2⟩:=Gx hR hb hv';refine⟨x::us,?_,.cons g2 h2⟩;simp only[List.mapM_cons,Sem.run_bind,hu,asAddr,Sem.run_pure,Result.andThen_ok,g1]
    erw [h1]
    rfl
   ·cases h
  ·cases h
theorem Lg {fn:Func} {a:aG} {act:Act} (ha:AR ι a act) (hR:RS P ι s w) (hok:KR a.nt fn.results.toList=true) {v:Value} (h:wX (env P) s.look fn a=some v) :
  ∃ u,(results fn act.tmps).run P w=.ok u w∧VR ι v u:=by
 unfold wX at h;have key:∀ l,results1 (env P) s.look a fn.results.toList=some l→∃ us,(results fn act.tmps).run P w=.ok (if h:us.toArray.size=1 then us.toArray[0] else .tuple us.toArray) w∧bQ ι l us:=by
  intro l hl;obtain⟨us,h1,h2⟩:=ou (fn:=fn) ha hR _ l hok hl;refine⟨us,?_,h2⟩;unfold results;rw[Array.mapM_eq_mapM_toList];simp only[map_eq_pure_bind,Sem.run_bind]
  erw [h1]
  rfl
 split at h
 ·rename_i v0 hv;cases h;obtain⟨us,h1,h2⟩:=key _ hv;cases h2 with | cons h2 h3=>cases h3;exact⟨_,h1,h2⟩
 ·rename_i l hne hl;cases h;obtain⟨us,h1,h2⟩:=key _ hl;have hlen:us.toArray.size≠1:=by
   intro e;have:l.length=1:=by rw[h2.length];simpa using e
   match l,this with
   | [x],_=>exact hne x rfl
  rw[dif_neg hlen] at h1;exact⟨_,h1,.tuple (by simpa using h2.length) (fun i x y hx hy=>h2.get i (by simpa using hx) (by simpa using hy))⟩
 ·cases h
variable {X:Env} {H H':bG}
def rV (H H':bG) (b:Nat):Prop:=∀ o,H b=some o→o.cS=false→H' b=some o
theorem aC8 {a:Addr} {k:Nat} {l:List Value} (hr:rV H H' a.block) (h:bD H a k=some l):bD H' a k=some l:=by
 unfold bD at h ⊢;split at h
 ·rename_i hs hb;rw[hs,hr _ hb rfl];exact h
 ·cases h
theorem aC5 {a:Addr} {v:Value} (hr:rV H H' a.block) (h:aI H a=some v):aI H' a=some v:=by
 unfold aI at h ⊢;split at h
 ·rename_i hs hb;rw[hs,hr _ hb rfl];exact h
 ·cases h
theorem aC9 {t:TypeId} {a:Addr} {v:Value} (hr:rV H H' a.block) (h:loadT X H t a=some v):loadT X H' t a=some v:=by
 unfold loadT at h ⊢;cases ht:X.ty t with
 | none=>rw[ht] at h;cases h
 | some i =>
  rw[ht] at h;simp only at h ⊢;split
  ·rename_i e;rw[if_pos e] at h;split at h
   ·rename_i l hl;rw[aC8 hr hl];exact h
   ·cases h
  ·rename_i e;rw[if_neg e] at h;exact aC5 hr h
theorem ku {r:Nat} {x:List MapEntry×Nat} (hr:rV H H' r) (h:mapOf H r=some x):mapOf H' r=some x:=by
 unfold mapOf at h ⊢;split at h
 ·rename_i hb;rw[hr _ hb rfl];exact h
 ·cases h
theorem Fe {b:Nat} (hr:rV H H' b) (h:isCells H b=true):isCells H' b=true:=by
 unfold isCells at h ⊢;split at h
 ·rename_i hb;rw[hr _ hb rfl]
 ·cases h
theorem aCg {t:TypeId} {x k v:Value} {ok:Bool} (hr:∀ b∈nameOf x,rV H H' b) (h:vI X H t x k ok=some v):vI X H' t x k ok=some v:=by
 unfold vI at h ⊢;split at h
 ·split at h
  ·split at h
   ·rename_i hk;rw[if_pos hk];split at h
    ·exact h
    ·rename_i r;split at h
     ·rename_i hm;rw[ku (hr r (by simp[nameOf])) hm];exact h
     ·cases h
    ·cases h
   ·cases h
  ·cases h
 ·cases h
theorem aBt {t:TypeId} {x v:Value} (hr:∀ b∈nameOf x,rV H H' b) (h:jY X H t x=some v):jY X H' t x=some v:=by
 unfold jY at h ⊢;split at h
 ·split at h
  ·exact h
  ·exact h
  ·exact h
  ·exact h
  ·split at h
   ·rename_i hm;rw[ku (hr _ (by simp[nameOf])) hm];exact h
   ·cases h
  ·cases h
 ·cases h
theorem Wv {it v:Value} (hr:∀ b∈nameOf it,rV H H' b) (hr2:∀ (a:Addr) m p q c w,it=.pointer (some a)→H a.block=some (.gC (some m) p q c w)→rV H H' m) (h:tE H it=some v):tE H' it=some v:=by
 unfold tE at h ⊢;split at h
 ·rename_i a;split at h
  ·rename_i hc;rw[if_pos hc];split at h
   ·rename_i m p last rest stepped aT hb;rw[hr a.block (by simp[nameOf]) _ hb rfl];simp only;split at h
    ·rename_i hm;rw[ku (hr2 a _ _ _ _ _ rfl hb) hm];exact h
    ·cases h
   ·cases h
  ·cases h
 ·cases h
theorem yy:∀ (d:Nat) (t:TypeId) (x y:Value),KU x=true→jV X H d t x y=jV X H' d t x y
 | 0,_,_,_,_=>rfl
 | d+1,t,x,y,hx=>by
  have ih:(fun t x y=>if KU x then jV X H d t x y else none)=(fun t x y=>if KU x then jV X H' d t x y else none):=by
   funext t x y;split
   ·exact yy d t x y ‹_›
   ·rfl
  unfold jV;rw[ih];cases X.ty t with
  | none=>rfl
  | some i =>
   simp only;generalize i.desc=D;cases x <;> first | (cases hx;done) | (split <;> first | rfl | contradiction | simp_all)
theorem yx (d:Nat) (t:TypeId) (x y:Value) {r:Bool} (hr:∀ b∈nameOf x++nameOf y,rV H H' b) (h:jV X H d t x y=some r):jV X H' d t x y=some r:=by
 cases d with
 | zero=>exact h
 | succ d =>
  have ih:(fun t x y=>if KU x then jV X H d t x y else none)=(fun t x y=>if KU x then jV X H' d t x y else none):=by
   funext t x y;split
   ·exact yy d t x y ‹_›
   ·rfl
  unfold jV at h ⊢;rw[ih] at h;cases ht:X.ty t with
  | none=>rw[ht] at h;cases h
  | some i =>
   rw[ht] at h;simp only at h ⊢;split at h
   case h_6 e a b hd =>
    split at h
    ·cases h
    ·rename_i ei he;split at h
     ·cases h
     ·rename_i hz;split at h
      ·rename_i hs1 hs2;rw[if_neg hz];split at h
       ·rename_i hb;rw[if_pos hb];exact h
       ·rename_i hb;rw[if_neg hb];split at h
        ·rename_i hcc;simp only[Bool.and_eq_true] at hcc;rw[Fe (hr _ (by simp[nameOf])) hcc.1,Fe (hr _ (by simp[nameOf])) hcc.2];exact h
        ·cases h
      ·cases h
   all_goals first | exact h | (simp_all;done)
theorem aHj {t:TypeId} {x v:Value} {lo hi mx:Option Value} (hr:∀ b∈nameOf x,rV H H' b) (h:eI X H t x lo hi mx=some v):eI X H' t x lo hi mx=some v:=by
 unfold eI at h ⊢;split at h
 ·cases h
 ·split at h
  ·rename_i i lo' hi' h1 h2 h3;split at h
   ·exact h
   ·exact h
   ·rename_i e a len cap hd;have hk:=hr a.block (by simp[nameOf]);split at h
    ·split at h
     ·rename_i hb1 hb2 hb3;rw[hb1,hb2,hk _ hb3 rfl];exact h
     ·cases h
    ·cases h
   ·rename_i n e a hd;have hk:=hr a.block (by simp[nameOf]);split at h
    ·split at h
     ·rename_i hb1 hb2 hb3;rw[hb1,hb2,hk _ hb3 rfl];exact h
     ·cases h
    ·cases h
   ·cases h
  ·cases h
theorem Tp {op:BinOp} {t:TypeId} {x y v:Value} (hr:(op=.eql∨op=.neq)→∀ b∈nameOf x++nameOf y,rV H H' b) (h:binop X H op t x y=some v):binop X H' op t x y=some v:=by
 unfold binop at h ⊢;split at h
 ·exact h
 ·exact h
 ·split at h
  ·split at h
   ·rename_i he;rw[yx _ _ _ _ (hr (.inl rfl)) he];exact h
   ·cases h
  ·split at h
   ·rename_i he;rw[yx _ _ _ _ (hr (.inr rfl)) he];exact h
   ·cases h
  ·cases h
theorem still_mono {ρ:Operand→Value} {op:Op} {v:Value} (hr:wQ op=true→∀ b∈fM ρ H op,rV H H' b) (h:dU X H ρ op=some v):dU X H' ρ op=some v:=by
 cases op
 case load t a =>
  have hr:=hr rfl;simp only[dU,fM] at h ⊢ hr;split at h
  ·rename_i ad ha;rw[ha] at hr;exact aC9 (hr _ (by simp[nameOf])) h
  ·cases h
 case binOp op t x y yt =>
  simp only[dU] at h ⊢;split at h
  ·cases h
  ·rename_i hn;rw[if_neg hn];refine Tp ?_ h;rintro(rfl | rfl) <;> exact hr rfl
 case slice t x lo hi mx=>exact aHj (hr rfl) h
 case lookup t x k ok=>exact aCg (hr rfl) h
 case entry it =>
  have hr:=hr rfl;simp only[dU,fM] at h ⊢ hr;refine Wv (fun b hb=>hr b (List.mem_append_left _ hb)) ?_ h;intro a m p q c w kJ hb;refine hr m (List.mem_append_right _ ?_);rw[kJ];simp only;rw[hb];simp
 case call c =>
  simp only[dU] at h ⊢;cases hc:c.callee with
  | builtin b =>
   rw[hc] at h;cases b <;> simp only at h ⊢ <;> first | exact h | skip
   split at h
   ·rename_i t x ht hx;refine aBt ?_ h;have hr:=hr (by simp[wQ,hc]);simp only[fM,hx] at hr;exact hr
   ·cases h
  | value f=>rw[hc] at h;cases h
  | invoke x n=>rw[hc] at h;cases h
 all_goals exact h
def sS (acc:Array Nat) (o:Oper):Nat:=o.after.foldl (fun s e=>if Region.binds .any e then s ||| 2 ^ e.on ||| acc.getD e.on 0 else s) 0
theorem vz (acc:Array Nat) (i:Nat):∀ (l:List Edge) (s:Nat),(l.foldl (fun s e=>if Region.binds .any e then s ||| 2 ^ e.on ||| acc.getD e.on 0 else s) s).testBit i=true →
  s.testBit i=true∨∃ e∈l,Region.binds .any e=true∧(e.on=i∨(acc.getD e.on 0).testBit i=true)
 | [],s,h=>.inl h
 | e::l,s,h=>by
  rw[List.foldl_cons] at h;rcases vz acc i l _ h with h1 | ⟨e',h1,h2⟩
  ·split at h1
   ·rename_i hb;simp only[Nat.testBit_or,Bool.or_eq_true] at h1;rcases h1 with (h1 | h1) | h1
    ·exact .inl h1
    ·refine .inr ⟨e,by simp,hb,.inl ?_⟩;rw[Nat.testBit_two_pow] at h1;simpa using h1
    ·exact .inr ⟨e,by simp,hb,.inr h1⟩
   ·exact .inl h1
  ·exact .inr ⟨e',List.mem_cons_of_mem _ h1,h2⟩
theorem Ts {acc:Array Nat} {o:Oper} {i:Nat} (h:(sS acc o).testBit i=true):∃ e∈o.after,Region.binds .any e=true∧(e.on=i∨(acc.getD e.on 0).testBit i=true):=by
 unfold sS at h;rw[← Array.foldl_toList] at h;rcases vz acc i _ _ h with h1 | ⟨e,h1,h2⟩
 ·simp at h1
 ·exact⟨e,by simpa using h1,h2⟩
theorem vd:∀ (l:List Oper) (acc:Array Nat),(∀ i,i<acc.size→(l.foldl (fun acc o=>acc.push (sS acc o)) acc).getD i 0=acc.getD i 0) ∧
  ∀ k o,l[k]?=some o→∃ acc':Array Nat,acc'.size=acc.size+k∧(∀ i,i<acc'.size→(l.foldl (fun acc o=>acc.push (sS acc o)) acc).getD i 0=acc'.getD i 0) ∧
   (l.foldl (fun acc o=>acc.push (sS acc o)) acc).getD (acc.size+k) 0=sS acc' o
 | [],acc=>⟨fun _ _=>rfl,fun k o h=>by simp at h⟩
 | o::l,acc=>by
  obtain⟨h1,h2⟩:=vd l (acc.push (sS acc o));have hget:∀ i,i<acc.size→(acc.push (sS acc o)).getD i 0=acc.getD i 0:=by
   intro i hi;simp only[Array.getD_eq_getD_getElem?,Array.getElem?_push,if_neg (Nat.ne_of_lt hi)]
  refine⟨fun i hi=>?_,fun k o' hk=>?_⟩
  ·rw[List.foldl_cons,h1 i (by simp;omega),hget i hi]
  ·cases k with
   | zero =>
    simp only[List.getElem?_cons_zero,Option.some.injEq] at hk;subst hk;refine⟨acc,rfl,fun i hi=>by rw[List.foldl_cons,h1 i (by simp;omega),hget i hi],?_⟩;rw[List.foldl_cons,Nat.add_zero,h1 acc.size (by simp)];simp
   | succ k =>
    obtain⟨acc',k1,k2,k3⟩:=h2 k o' (by simpa using hk);refine⟨acc',by rw[k1];simp;omega,fun i hi=>by rw[List.foldl_cons];exact k2 i hi,?_⟩;rw[List.foldl_cons,← k3];congr 1;simp;omega
abbrev xW (ops:Array Oper) (j i:Nat):Prop:=((Region.before ops).getD j 0).testBit i=true
theorem ve {ops:Array Oper} {j i:Nat} {o:Oper} (ho:ops[j]?=some o) (h:xW ops j i):∃ e∈o.after,Region.binds .any e=true∧(e.on=i∨(e.on<j∧xW ops e.on i)):=by
 have hb:Region.before ops=ops.toList.foldl (fun acc o=>acc.push (sS acc o)) #[]:=by
  unfold Region.before;rw[← Array.foldl_toList];rfl
 obtain⟨acc',h1,h2,h3⟩:=(vd ops.toList #[]).2 j o (by simpa using ho);simp only[List.size_toArray,List.length_nil,Nat.zero_add] at h1 h3;unfold xW at h;rw[hb,h3] at h;obtain⟨e,he,hbi,h⟩:=Ts h;refine⟨e,he,hbi,?_⟩;rcases h with h | h
 ·exact .inl h
 ·have bY:e.on<acc'.size:=by
   rcases Nat.lt_or_ge e.on acc'.size with h' | h'
   ·exact h'
   ·rw[Array.getD_eq_getD_getElem?,Array.getElem?_eq_none h'] at h;simp at h
  refine .inr ⟨by omega,?_⟩;unfold xW;rw[hb,h2 _ bY];exact h
def Down (ops:Array Oper) (S:Nat→Prop):Prop:=∀ j o,S j→ops[j]?=some o→∀ e∈o.after,Region.binds .any e=true→S e.on
theorem Down.bit {ops:Array Oper} {S:Nat→Prop} (hd:Down ops S):∀ (j i:Nat),j<ops.size→S j→xW ops j i→S i:=by
 intro j
 induction j using Nat.strongRecOn with
 | _ j ih =>
  intro i hj hs hb;have ho:ops[j]?=some ops[j]:=by simp[hj]
  obtain⟨e,he,hbi,h⟩:=ve ho hb;have hse:=hd j _ hs ho e he hbi;rcases h with rfl | ⟨h1,h2⟩
  ·exact hse
  ·exact ih e.on h1 i (by omega) hse h2
theorem Down.ready {ops:Array Oper} {S:Nat→Prop} (hd:Down ops S) {j i:Nat} {o:Oper} (ho:ops[j]?=some o) (hr:∀ e∈o.after,Region.binds .any e=true→S e.on) (hb:xW ops j i):S i:=by
 obtain⟨e,he,hbi,h⟩:=ve ho hb;have hj:j<ops.size:=(Array.getElem?_eq_some_iff.1 ho).1;rcases h with rfl | ⟨h1,h2⟩
 ·exact hr e he hbi
 ·exact hd.bit e.on i (by omega) (hr e he hbi) h2
theorem bf {b:Array Nat} {j:Nat} {oj:Oper}:∀ (rest:List Oper) (i:Nat) (l:List (Nat×Nat)),yK b j oj rest i=some l→∀ k o,rest[k]?=some o→i+k<j →
  (b.getD j 0).testBit (i+k)=true∨∃ m,rD o oj (i+k) j=some m∧∀ p∈m,p∈l
 | [],i,l,_,k,o,hk,_=>by simp at hk
 | o0::rest,i,l,h,k,o,hk,bY=>by
  unfold yK at h;rw[if_pos (by omega)] at h;split at h
  ·rename_i hb;cases k with
   | zero=>exact .inl hb
   | succ k =>
    have:=bf rest (i+1) l h k o (by simpa using hk) (by omega);rw[show i+1+k=i+(k+1) from by omega] at this;exact this
  ·split at h
   ·rename_i l1 l2 h1 h2;cases h;cases k with
    | zero =>
     simp only[List.getElem?_cons_zero,Option.some.injEq] at hk;subst hk;exact .inr ⟨l1,h1,fun p hp=>List.mem_append_left _ hp⟩
    | succ k =>
     have:=bf rest (i+1) l2 h2 k o (by simpa using hk) (by omega);rw[show i+1+k=i+(k+1) from by omega] at this;rcases this with h3 | ⟨m,h3,h4⟩
     ·exact .inl h3
     ·exact .inr ⟨m,h3,fun p hp=>List.mem_append_right _ (h4 p hp)⟩
   ·cases h
theorem yb {b:Array Nat} {all:List Oper}:∀ (rest:List Oper) (j0:Nat) (l:List (Nat×Nat)),FF b all rest j0=some l→∀ k oj,rest[k]?=some oj→∀ i oi,all[i]?=some oi→i<j0+k →
  (b.getD (j0+k) 0).testBit i=true∨∃ m,rD oi oj i (j0+k)=some m∧∀ p∈m,p∈l
 | [],_,_,_,k,oj,hk,_,_,_,_=>by simp at hk
 | o0::rest,j0,l,h,k,oj,hk,i,oi,hi,bY=>by
  unfold FF at h;split at h
  ·rename_i l1 l2 h1 h2;cases h;cases k with
   | zero =>
    simp only[List.getElem?_cons_zero,Option.some.injEq] at hk;subst hk;have:=bf all 0 l1 h1 i oi hi (by omega);simp only[Nat.zero_add,Nat.add_zero] at this ⊢;rcases this with h3 | ⟨m,h3,h4⟩
    ·exact .inl h3
    ·exact .inr ⟨m,h3,fun p hp=>List.mem_append_left _ (h4 p hp)⟩
   | succ k =>
    have:=yb rest (j0+1) l2 h2 k oj (by simpa using hk) i oi hi (by omega);rw[show j0+1+k=j0+(k+1) from by omega] at this;rcases this with h3 | ⟨m,h3,h4⟩
    ·exact .inl h3
    ·exact .inr ⟨m,h3,fun p hp=>List.mem_append_right _ (h4 p hp)⟩
  ·cases h
theorem Vj {ops:Array Oper} {l:List (Nat×Nat)} (h:rZ ops=some l) {i j:Nat} {oi oj:Oper} (hi:ops[i]?=some oi) (hj:ops[j]?=some oj) (bY:i<j) :
  xW ops j i∨∃ m,rD oi oj i j=some m∧∀ p∈m,p∈l:=by
 have:=yb ops.toList 0 l h j oj (by simpa using hj) i oi (by simpa using hi) (by omega);rw[Nat.zero_add] at this;exact this
theorem Ju {ops:Array Oper} {b:Array Nat} {oj:Oper} {j:Nat}:∀ (rest:List Oper) (i:Nat),HE ops b oj j rest i=true→∀ k o,rest[k]?=some o→i+k<j→PJ ops b o oj (i+k) j=true
 | [],i,_,k,o,hk,_=>by simp at hk
 | o0::rest,i,h,k,o,hk,bY=>by
  unfold HE at h;rw[if_pos (by omega),Bool.and_eq_true] at h;cases k with
  | zero =>
   simp only[List.getElem?_cons_zero,Option.some.injEq] at hk;subst hk;exact h.1
  | succ k =>
   have:=Ju rest (i+1) h.2 k o (by simpa using hk) (by omega);rw[show i+1+k=i+(k+1) from by omega] at this;exact this
theorem Jv {ops:Array Oper} {b:Array Nat}:∀ (rest:List Oper) (j0:Nat),DY ops b rest j0=true→∀ k oj,rest[k]?=some oj→∀ i oi,ops[i]?=some oi→i<j0+k→PJ ops b oi oj i (j0+k)=true
 | [],_,_,k,oj,hk,_,_,_,_=>by simp at hk
 | o0::rest,j0,h,k,oj,hk,i,oi,hi,bY=>by
  unfold DY at h;rw[Bool.and_eq_true] at h;cases k with
  | zero =>
   simp only[List.getElem?_cons_zero,Option.some.injEq] at hk;subst hk;have:=Ju ops.toList 0 h.1 i oi (by simpa using hi) (by omega);simpa using this
  | succ k =>
   have:=Jv rest (j0+1) h.2 k oj (by simpa using hk) i oi hi (by omega);rw[show j0+1+k=j0+(k+1) from by omega] at this;exact this
theorem Jn:∀ (rest:List Oper) (j0:Nat),HB rest j0=true→∀ k o,rest[k]?=some o→∀ e∈o.after,Region.binds .any e=true→e.on<j0+k
 | [],_,_,k,o,hk=>by simp at hk
 | o0::rest,j0,h,k,o,hk=>by
  unfold HB at h;rw[Bool.and_eq_true] at h;cases k with
  | zero =>
   simp only[List.getElem?_cons_zero,Option.some.injEq] at hk;subst hk;intro e he hb;have h1:=h.1;unfold Jm at h1;rw[Bool.and_eq_true] at h1;have:=List.all_eq_true.1 h1.1 e (by simpa using he);rw[hb] at this;simpa using this
  | succ k =>
   have:=Jn rest (j0+1) h.2 k o (by simpa using hk);rw[show j0+1+k=j0+(k+1) from by omega] at this;exact this
theorem aDr {ops:Array Oper} (h:BE ops=true) {i j:Nat} {oi oj:Oper} (hi:ops[i]?=some oi) (hj:ops[j]?=some oj) (bY:i<j) :
  xW ops j i∨((∀ d,oi.dst=some d→d∉tmpsOf ops oj)∧(∀ d,oj.dst=some d→d∉tmpsOf ops oi)):=by
 unfold BE at h;rw[Bool.and_eq_true] at h;have:=Jv ops.toList 0 h.1 j oj (by simpa using hj) i oi hi (by omega);rw[Nat.zero_add] at this;unfold PJ at this;rw[Bool.or_eq_true] at this;rcases this with h1 | h1
 ·exact .inl h1
 ·simp only[Bool.not_eq_true',Bool.or_eq_false_iff] at h1;refine .inr ⟨fun d hd=>?_,fun d hd=>?_⟩
  ·have:=h1.1;rw[hd] at this;simpa using this
  ·have:=h1.2;rw[hd] at this;simpa using this
theorem aDq {ops:Array Oper} (h:BE ops=true) {j:Nat} {o:Oper} (hj:ops[j]?=some o):∀ e∈o.after,Region.binds .any e=true→e.on<j:=by
 unfold BE at h;rw[Bool.and_eq_true] at h;have:=Jn ops.toList 0 h.2 j o (by simpa using hj);simpa using this
variable {P:Program} {call:fZ} {round:gM} {ops:Array Oper} {nt base:Nat} {A:Nat→aG} {S:Nat→St} {V:Nat→Value}
abbrev MH (ops:Array Oper) (A:Nat→aG) (i:Nat):Prop:=∃ o,ops[i]?=some o∧Region.wanted o (aN ops (A i))=true
abbrev xX (ops:Array Oper) (i:Nat) (k:Kind):Prop:=∃ o,ops[i]?=some o∧dP o.op=k
structure uM (P:Program) (call:fZ) (round:gM) (ops:Array Oper) (nt base:Nat) (A:Nat→aG) (S:Nat→St) (V:Nat→Value):Prop where
 hc:qX P call
 hr:uL P round
 lc:nA call
 lr:nA round
 Jx:ops.toList.all (nW nt)=true
 nt0:∀ i,i≤ops.size→(A i).nt=nt
 step:∀ i o,ops[i]?=some o→A (i+1)=(A i).put o.dst (V i) ∧
  ((Region.wanted o (aN ops (A i))=true∧lK (env P) call round (base+2*i) (S i) (A i).eval o.op=some (V i,S (i+1))) ∨
   (Region.wanted o (aN ops (A i))=false∧V i=undef∧S (i+1)=S i))
 mv:∀ i j oi oj,i<j→ops[i]?=some oi→ops[j]?=some oj→xW ops j i∨((∀ d,oi.dst=some d→d∉tmpsOf ops oj)∧(∀ d,oj.dst=some d→d∉tmpsOf ops oi))
 Wq:∀ j o,ops[j]?=some o→∀ e∈o.after,Region.binds .any e=true→e.on<j
 rZ:∀ i j oi oj,i<j→ops[i]?=some oi→ops[j]?=some oj→xW ops j i∨∃ m,rD oi oj i j=some m ∧
  ∀ x e,(x,e)∈m→∀ ox,ops[x]?=some ox→Region.wanted ox (aN ops (A x))=true→MH ops A e→∀ b∈fM (A x).eval (S x).look ox.op,eT (S e) (S (e+1)) b=true
 top:∀ i,i≤ops.size→base+2*ops.size≤(S i).next
 jZ:base%2=1
 low:∀ i,i<ops.size→∀ o,(S 0).heap.get (base+2*i)=some o→o.cS=true
namespace uM
variable (h:uM P call round ops nt base A S V)
include h
theorem lt {i:Nat} {o:Oper} (ho:ops[i]?=some o):i<ops.size:=by
 have _:=h;exact(Array.getElem?_eq_some_iff.1 ho).1
theorem oper {i:Nat} {o:Oper} (ho:ops[i]?=some o):nW nt o=true:=List.all_eq_true.1 h.Jx o (by simpa using Array.mem_of_getElem? ho)
theorem cases {i:Nat} {o:Oper} (ho:ops[i]?=some o) :
  (S (i+1)=S i) ∨
  (dP o.op=.alloc∧Region.wanted o (aN ops (A i))=true∧∃ f,fE (env P) (base+2*i) (A i).eval o.op=some (V i,f)∧S (i+1)=(S i).put (base+2*i) f) ∨
  (dP o.op=.effect∧Region.wanted o (aN ops (A i))=true∧eX (env P) call round (S i) (A i).eval o.op=.ret (V i,S (i+1))∧dN (S i) (S (i+1))):=by
 rcases(h.step i o ho).2 with ⟨h1,h2⟩ | ⟨h1,h2,h3⟩
 ·unfold lK at h2;split at h2
  ·split at h2
   ·simp only[Option.some.injEq,Prod.mk.injEq] at h2;exact .inl h2.2.symm
   ·cases h2
  ·split at h2
   ·rename_i hk _ v f ha;simp only[Option.some.injEq,Prod.mk.injEq] at h2;obtain⟨rfl,h2⟩:=h2;exact .inr (.inl ⟨hk,h1,f,ha,h2.symm⟩)
   ·cases h2
  ·split at h2
   ·rename_i hk _ p hx;simp only[Option.some.injEq] at h2;subst h2;have:=cn (X:=env P) h.lc h.lr (S i) (A i).eval o.op;rw[hx] at this;exact .inr (.inr ⟨hk,h1,hx,this⟩)
   ·cases h2
 ·exact .inl h3
theorem still {i:Nat} {o:Oper} (ho:ops[i]?=some o) (hk:dP o.op=.still):S (i+1)=S i:=by
 rcases h.cases ho with h1 | ⟨h1,_⟩ | ⟨h1,_⟩
 ·exact h1
 ·rw[hk] at h1;cases h1
 ·rw[hk] at h1;cases h1
theorem Lf:∀ (k i:Nat),k≤i→i<ops.size→∀ o,(S k).heap.get (base+2*i)=some o→o.cS=true
 | 0,i,_,hi,o,ho=>h.low i hi o ho
 | k+1,i,hk,hi,o,ho=>by
  have hok:ops[k]?=some ops[k]:=by simp[show k<ops.size by omega]
  have ih:=Lf k i (by omega) hi;rcases h.cases hok with h1 | ⟨_,_,f,_,h1⟩ | ⟨_,_,_,h1⟩
  ·rw[h1] at ho;exact ih o ho
  ·rw[h1] at ho;simp only[St.put,PT.fC] at ho;rw[if_neg (by omega)] at ho;exact ih o ho
  ·cases hd:o.cS with
   | true=>rfl
   | false =>
    rcases h1.cW _ o ho hd with ⟨o0,h2,h3,_⟩ | ⟨h2,_⟩
    ·rw[ih o0 h2] at h3;cases h3
    ·have:=h.top k (by omega);omega
theorem OY {k i:Nat} (hk:k≤i) (hi:i<ops.size) {o:bU} (ho:(S k).heap.get (base+2*i)=some o) (hd:o.cS=false):False:=by
 rw[h.Lf k i hk hi o ho] at hd;cases hd
theorem aD4 {i:Nat} {o:Oper} (ho:ops[i]?=some o) (hk:dP o.op≠.effect):(S (i+1)).next=(S i).next:=by
 rcases h.cases ho with h1 | ⟨_,_,f,_,h1⟩ | ⟨h1,_⟩
 ·rw[h1]
 ·rw[h1];rfl
 ·exact absurd h1 hk
theorem same {e:Nat} {b:Nat} (hs:eT (S e) (S (e+1)) b=true) {o:Oper} (ho:ops[e]?=some o) (hk:dP o.op=.effect) :
  ∃ q,(S e).heap.get b=some q∧(S (e+1)).heap.get b=some q∧q.cS=false:=by
 unfold eT at hs;split at hs
 ·rename_i q q' h1 h2;simp only[Bool.and_eq_true,Bool.not_eq_true',beq_iff_eq,decide_eq_true_eq] at hs;obtain⟨⟨⟨k1,k2⟩,k3⟩,k4⟩:=hs;rcases h.cases ho with h3 | ⟨h3,_⟩ | ⟨_,_,_,h3⟩
  ·rw[h3] at h2;rw[h1] at h2;cases h2;exact⟨q,h1,by rw[h3];exact h1,k1⟩
  ·rw[hk] at h3;cases h3
  ·have:=h3.same b q' h2 k2 (by omega);rw[h1] at this;cases this;exact⟨q,h1,h2,k1⟩
 ·cases hs
theorem aGr {e b:Nat} (hs:eT (S e) (S (e+1)) b=true):∃ q,(S e).heap.get b=some q∧q.cS=false:=by
 have _:=h;unfold eT at hs;split at hs
 ·rename_i q q' h1 h2;simp only[Bool.and_eq_true,Bool.not_eq_true',beq_iff_eq,decide_eq_true_eq] at hs;exact⟨q,h1,hs.1.1.1⟩
 ·cases hs
end uM
def sY (ops:Array Oper) (a0:aG) (V:Nat→Value) (X:Nat→Prop) (t:Tmp) (v:Value):Prop :=
 (∃ i o,X i∧ops[i]?=some o∧o.dst=some t∧v=V i∧∀ k o',i<k→X k→ops[k]?=some o'→o'.dst≠some t) ∨
 ((∀ i o,X i→ops[i]?=some o→o.dst≠some t)∧v=a0.aB t)
theorem sY.uniq {a0:aG} {X Y:Nat→Prop} {t:Tmp} {v u:Value} (hv:sY ops a0 V X t v) (hu:sY ops a0 V Y t u) (hxy:∀ i o,ops[i]?=some o→o.dst=some t→(X i↔Y i)):v=u:=by
 rcases hv with ⟨i,o,h1,h2,h3,rfl,h5⟩ | ⟨h1,rfl⟩
 ·rcases hu with ⟨j,o',k1,k2,k3,rfl,k5⟩ | ⟨k1,rfl⟩
  ·rcases Nat.lt_trichotomy i j with bY | rfl | bY
   ·exact absurd k3 (h5 j o' bY ((hxy j o' k2 k3).2 k1) k2)
   ·rfl
   ·exact absurd h3 (k5 i o bY ((hxy i o h2 h3).1 h1) h2)
  ·exact absurd h3 (k1 i o ((hxy i o h2 h3).1 h1) h2)
 ·rcases hu with ⟨j,o',k1,k2,k3,rfl,k5⟩ | ⟨k1,rfl⟩
  ·exact absurd k3 (h1 j o' ((hxy j o' k2 k3).2 k1) k2)
  ·rfl
theorem N6 (a:aG) (d:Option Tmp) (v:Value) (t:Tmp):(a.put d v).aB t=if d=some t then v else a.aB t:=by
 cases d with
 | none=>simp[aG.put]
 | some d =>
  simp only[aG.put,aG.aB,PT.fC,Option.some.injEq];by_cases e:t=d
  ·subst e;simp
  ·rw[if_neg e,if_neg (Ne.symm e)]
theorem sY.add {a0 a:aG} {X:Nat→Prop} {i:Nat} {o:Oper} (ho:ops[i]?=some o) (hX:∀ k o',i<k→X k→ops[k]?=some o'→∀ d,o.dst=some d→o'.dst≠some d) {t:Tmp}
  (h:sY ops a0 V X t (a.aB t)):sY ops a0 V (fun k=>X k∨k=i) t ((a.put o.dst (V i)).aB t):=by
 rw[N6];by_cases e:o.dst=some t
 ·rw[if_pos e];refine .inl ⟨i,o,.inr rfl,ho,e,rfl,fun k o' hk hx ho'=>?_⟩;rcases hx with hx | rfl
  ·exact hX k o' hk hx ho' t e
  ·omega
 ·rw[if_neg e];rcases h with ⟨j,o',k1,k2,k3,k4,k5⟩ | ⟨k1,k2⟩
  ·refine .inl ⟨j,o',.inl k1,k2,k3,k4,fun k o'' hk hx ho'=>?_⟩;rcases hx with hx | rfl
   ·exact k5 k o'' hk hx ho'
   ·rw[ho] at ho';cases ho';exact e
  ·refine .inr ⟨fun j o' hx ho'=>?_,k2⟩;rcases hx with hx | rfl
   ·exact k1 j o' hx ho'
   ·rw[ho] at ho';cases ho';exact e
theorem uM.last (h:uM P call round ops nt base A S V) (t:Tmp):∀ j,j≤ops.size→sY ops (A 0) V (·<j) t ((A j).aB t)
 | 0,_=>.inr ⟨fun i o hi=>by omega,rfl⟩
 | j+1,hj=>by
  have ho:ops[j]?=some ops[j]:=by simp[show j<ops.size by omega]
  have:=sY.add (V:=V) ho (fun k o' hk hx=>by omega) (uM.last h t j (by omega));rw[(h.step j _ ho).1];rcases this with ⟨i,o,h1,h2⟩ | ⟨h1,h2⟩
  ·exact .inl ⟨i,o,by omega,h2.1,h2.2.1,h2.2.2.1,fun k o' hk hx=>h2.2.2.2 k o' hk (by omega)⟩
  ·exact .inr ⟨fun i o hi=>h1 i o (by omega),h2⟩
variable {P:Program} {call:fZ} {round:gM} {ops:Array Oper} {nt base:Nat} {A:Nat→aG} {S:Nat→St} {V:Nat→Value}
variable {ι0:aP} {s0:St} {w0:World} {ds:List Deferred}
structure Inv (P:Program) (ops:Array Oper) (nt base:Nat) (A:Nat→aG) (S:Nat→St) (V:Nat→Value) (ι0:aP) (s0:St) (w0:World) (ds:List Deferred) (X:Nat→Prop) (act:Act) (w:World) (T:Nat) (ι:aP) (HX:bG) (aX:aG):Prop where
 down:Down ops X
 top:T≤ops.size
 yL:∀ e,xX ops e .effect→(X e↔e<T)
 all:∀ i,i<T→xX ops i .alloc→X i
 tie:R (env P) ι HX (S T).next w
 sub:∀ b o,(S T).heap.get b=some o→o.cS=false→HX b=some o
 made:∀ i,X i→xX ops i .alloc→MH ops A i→T≤i→∀ o,(S (i+1)).heap.get (base+2*i)=some o→o.cS=false→HX (base+2*i)=some o
 only:∀ b o,HX b=some o→o.cS=false→(∃ o',(S T).heap.get b=some o'∧o'.cS=false)∨∃ i,X i∧xX ops i .alloc∧MH ops A i∧T≤i∧b=base+2*i
 free:∀ i,i<ops.size→¬ X i→ι (base+2*i)=none
 ext:Ext ι0 s0.look s0.next w0 ι HX (S T).next w
 tmps:AR ι aX act
 KN:aX.nt=nt
 last:∀ t,t<nt→sY ops (A 0) V X t (aX.aB t)
 defs:act.defers=ds
section
variable {X:Nat→Prop} {act:Act} {w:World} {T:Nat} {ι:aP} {HX:bG} {aX:aG}
variable (h:uM P call round ops nt base A S V) (v:Inv P ops nt base A S V ι0 s0 w0 ds X act w T ι HX aX)
include h v
theorem Inv.aB {i:Nat} {o:Oper} (ho:ops[i]?=some o) (hX:¬ X i) (hr:∀ e∈o.after,Region.binds .any e=true→X e.on) {t:Tmp} (ht:t∈tmpsOf ops o) (htn:t<nt):(A i).aB t=aX.aB t:=by
 refine sY.uniq (h.last t i (Nat.le_of_lt (h.lt ho))) (v.last t htn) fun k ok hk hd=>?_;rcases Nat.lt_trichotomy k i with bY | rfl | bY
 ·refine⟨fun _=>?_,fun _=>bY⟩;rcases h.mv k i ok o bY hk ho with hb | ⟨h1,_⟩
  ·exact v.down.ready ho hr hb
  ·exact absurd ht (h1 t hd)
 ·exact⟨fun hh=>by omega,fun hx=>absurd hx hX⟩
 ·refine⟨fun hh=>by omega,fun hx=>?_⟩;rcases h.mv i k o ok bY ho hk with hb | ⟨_,h2⟩
  ·exact absurd (v.down.bit k i (h.lt hk) hx hb) hX
  ·exact absurd ht (h2 t hd)
theorem Inv.aIk {i:Nat} {o:Oper} (ho:ops[i]?=some o) (hX:¬ X i) (hr:∀ e∈o.after,Region.binds .any e=true→X e.on):∀ x∈o.op.operands.toList,VR ι ((A i).eval x) (act.eval x):=by
 intro x hx;have hok:=h.oper ho;have hok1:tQ nt x=true:=by
  unfold nW at hok;simp only[Bool.and_eq_true] at hok;exact List.all_eq_true.1 hok.1.1 x hx
 have h1:VR ι (aX.eval x) (act.eval x):=v.tmps.eval v.tie.even (by rw[v.KN];exact hok1);have h2:(A i).eval x=aX.eval x:=by
  cases x with
  | tmp t =>
   simp only[tQ,decide_eq_true_eq] at hok1;refine v.aB h ho hX hr ?_ hok1;unfold tmpsOf;refine List.mem_append_left _ (List.mem_append_left _ (List.mem_filterMap.2 ⟨_,hx,rfl⟩))
  | _=>rfl
 rw[h2];exact h1
theorem Inv.want {i:Nat} {o:Oper} (ho:ops[i]?=some o) (hX:¬ X i) (hr:∀ e∈o.after,Region.binds .any e=true→X e.on):Region.wanted o (aN ops (A i))=Region.wanted o (yielded ops act.tmps):=by
 rw[← Qz v.tmps (by rw[v.KN];exact h.Jx) o];unfold Region.wanted;cases hg:o.guard with
 | none=>rfl
 | some g =>
  obtain⟨g,want⟩:=g;simp only;unfold aN;cases hog:ops[g]? with
  | none=>rfl
  | some og =>
   simp only[Option.bind_some];cases hd:og.dst with
   | none=>rfl
   | some d =>
    simp only;have hdn:d<nt:=PI (h.oper hog) d hd;rw[v.aB h ho hX hr (t:=d) ?_ hdn];unfold tmpsOf;refine List.mem_append_left _ (List.mem_append_right _ ?_);rw[hg];simp only;rw[hog];simp only[hd];simp
theorem Inv.after {i:Nat} {o:Oper} (ho:ops[i]?=some o) (hX:¬ X i) {ι':aP} (hle:ι.le ι') {u:Value} (hv:VR ι' (V i) u) :
  AR ι' (aX.put o.dst (V i)) (act.put o.dst u)∧(aX.put o.dst (V i)).nt=nt∧(∀ t,t<nt→sY ops (A 0) V (fun k=>X k∨k=i) t ((aX.put o.dst (V i)).aB t))∧(act.put o.dst u).defers=ds:=by
 refine⟨(v.tmps.mono hle).put (fun x hx=>by rw[v.KN];exact PI (h.oper ho) x hx) hv,by simpa using v.KN,fun t ht=>?_,by simpa using v.defs⟩;refine sY.add ho (fun k o' hk hx ho' d hd hd'=>?_) (v.last t ht);rcases h.mv i k o o' hk ho ho' with hb | ⟨h1,_⟩
 ·exact hX (v.down.bit k i (h.lt ho') hx hb)
 ·refine h1 d hd ?_;unfold tmpsOf;refine List.mem_append_right _ ?_;rw[hd'];simp
theorem Inv.bm {i:Nat} {o:Oper} (ho:ops[i]?=some o) (hr:∀ e∈o.after,Region.binds .any e=true→X e.on):Down ops (fun k=>X k∨k=i):=by
 have _:=h;intro j oj hj hoj e he hb;rcases hj with hj | rfl
 ·exact .inl (v.down j oj hj hoj e he hb)
 ·rw[ho] at hoj;cases hoj;exact .inl (hr e he hb)
theorem Inv.plain {i:Nat} {o:Oper} (ho:ops[i]?=some o) (hX:¬ X i) (hr:∀ e∈o.after,Region.binds .any e=true→X e.on) (hk:dP o.op≠.effect) (hka:dP o.op=.alloc→¬ MH ops A i) {u:Value} (hv:VR ι (V i) u) :
  Inv P ops nt base A S V ι0 s0 w0 ds (fun k=>X k∨k=i) (act.put o.dst u) w T ι HX (aX.put o.dst (V i)):=by
 obtain⟨h1,h2,h3,h4⟩:=v.after h ho hX (aP.le_refl ι) hv;refine⟨v.bm h ho hr,v.top,?_,fun k hk1 hk2=>.inl (v.all k hk1 hk2),v.tie,v.sub,?_,?_,fun k hk1 hk2=>v.free k hk1 fun hx=>hk2 (.inl hx),v.ext,h1,h2,h3,h4⟩
 ·intro e he;constructor
  ·rintro(hx | rfl)
   ·exact(v.yL e he).1 hx
   ·obtain⟨o',ho',hk'⟩:=he;rw[ho] at ho';cases ho';exact absurd hk' hk
  ·intro bY;exact .inl ((v.yL e he).2 bY)
 ·intro k hx hk1 hk2 hk3 q hq hd;rcases hx with hx | rfl
  ·exact v.made k hx hk1 hk2 hk3 q hq hd
  ·obtain⟨o',ho',hk'⟩:=hk1;rw[ho] at ho';cases ho';exact absurd hk2 (hka hk')
 ·intro b q hq hd;rcases v.only b q hq hd with h5 | ⟨k,k1,k2⟩
  ·exact .inl h5
  ·exact .inr ⟨k,.inl k1,k2⟩
theorem Ext.alloc {H0:bG} {n0:Nat} {N:Nat} (hE:Ext ι0 H0 n0 w0 ι HX N w) {nm ex:Nat} (hfree:ι nm=none) (hnm:n0≤nm) (bY:nm<N) (x:Obj) (o':bU) :
  Ext ι0 H0 n0 w0 (ι.add nm ⟨w.heap.size,0,ex,false⟩) (fI HX nm o') N (w.alloc x):=by
 have _:=h;have _:=v;refine⟨aP.le_trans hE.le (aP.sM hfree),?_,hE.zM,hE.os,hE.tape,hE.output,Nat.le_trans hE.size (by simp),fun c hc ho=>(heap_alloc_old (Nat.lt_of_lt_of_le hc hE.size)).trans (hE.aD c hc ho),?_⟩
 ·intro b hb' hb2;unfold aP.add;rw[if_neg (by omega)];exact hE.new b hb' hb2
 ·rintro c ⟨d,od,ld,h1,h2,h3,h4,h5⟩;unfold fI at h1;unfold aP.add at h3;split at h1
  ·rename_i e;rw[if_pos e] at h3;cases h3;have:=hE.size;exact .inr (by simp only at h5;omega)
  ·rename_i e;rw[if_neg e] at h3;exact hE.own c ⟨d,od,ld,h1,h2,h3,h4,h5⟩
theorem Inv.alloc {i:Nat} {o:Oper} (ho:ops[i]?=some o) (hX:¬ X i) (hr:∀ e∈o.after,Region.binds .any e=true→X e.on) (hk:dP o.op=.alloc) (hb0:s0.next≤base) {f:Nat→bU} (hS:S (i+1)=(S i).put (base+2*i) f)
  {u:Value} {ex:Nat} {x:Obj} (hv:VR (ι.add (base+2*i) ⟨w.heap.size,0,ex,false⟩) (V i) u)
  (hox:∀ aT,(f aT).cS=false∧jD (env P) (ι.add (base+2*i) ⟨w.heap.size,0,ex,false⟩) (w.alloc x) ⟨w.heap.size,0,ex,false⟩ (f aT)) :
  Inv P ops nt base A S V ι0 s0 w0 ds (fun k=>X k∨k=i) (act.put o.dst u) (w.alloc x) T (ι.add (base+2*i) ⟨w.heap.size,0,ex,false⟩) (fI HX (base+2*i) (f (S i).aO)) (aX.put o.dst (V i)):=by
 have hi:=h.lt ho;have hfree:=v.free i hi hX;have hT:T≤i:=Nat.le_of_not_lt fun bY=>hX (v.all i bY ⟨o,ho,hk⟩);have htop:=h.top T v.top;have hodd:=h.jZ;obtain⟨h1,h2,h3,h4⟩:=v.after h ho hX (aP.sM hfree) hv;have hget:(S (i+1)).heap.get (base+2*i)=some (f (S i).aO):=by rw[hS];simp[St.put,PT.fC]
 refine⟨v.bm h ho hr,v.top,?_,fun k hk1 hk2=>.inl (v.all k hk1 hk2),R.newAt v.tie (base+2*i) (S T).next hfree (by omega) (Nat.le_refl _) v.tie.jZ (by omega) x (hox _).2,?_,?_,?_,?_,Ext.alloc h v v.ext hfree (by omega) (by omega) x _,h1,h2,h3,h4⟩
 ·intro e he;constructor
  ·rintro(hx | rfl)
   ·exact(v.yL e he).1 hx
   ·obtain⟨o',ho',hk'⟩:=he;rw[ho] at ho';cases ho';rw[hk] at hk';cases hk'
  ·intro bY;exact .inl ((v.yL e he).2 bY)
 ·intro b q hq hd;unfold fI;split
  ·rename_i e;subst e;exact(h.OY hT hi hq hd).elim
  ·exact v.sub b q hq hd
 ·intro k hx hk1 hk2 hk3 q hq hd;unfold fI;by_cases e:k=i
  ·subst e;rw[if_pos rfl];rw[hget] at hq;exact hq
  ·rw[if_neg (by omega)];exact v.made k (hx.resolve_right e) hk1 hk2 hk3 q hq hd
 ·intro b q hq hd;unfold fI at hq;split at hq
  ·rename_i e;refine .inr ⟨i,.inr rfl,⟨o,ho,hk⟩,?_,hT,e⟩;rcases(h.step i o ho).2 with ⟨k1,_⟩ | ⟨_,_,k3⟩
   ·exact⟨o,ho,k1⟩
   ·rw[k3] at hget;exact(h.OY (Nat.le_refl i) hi hget (hox _).1).elim
  ·rcases v.only b q hq hd with h5 | ⟨k,k1,k2⟩
   ·exact .inl h5
   ·exact .inr ⟨k,.inl k1,k2⟩
 ·intro k hk1 hk2;unfold aP.add;rw[if_neg (fun e=>hk2 (.inr (by omega)))];exact v.free k hk1 fun hx=>hk2 (.inl hx)
theorem Inv.Qp {e:Nat} (he:e≤ops.size) (hT:T≤e) (hno:∀ k,T≤k→k<e→¬ xX ops k .effect) (hal:∀ k,T≤k→k<e→xX ops k .alloc→X k) :
  (∀ b o,(S e).heap.get b=some o→o.cS=false→HX b=some o)∧(S e).next=(S T).next:=by
 have key:∀ d,T+d≤e→(∀ b o,(S (T+d)).heap.get b=some o→o.cS=false→HX b=some o)∧(S (T+d)).next=(S T).next:=by
  intro d
  induction d with
  | zero=>exact fun _=>⟨v.sub,rfl⟩
  | succ d ih =>
   intro hd;obtain⟨i1,i2⟩:=ih (by omega);have hok:ops[T+d]?=some ops[T+d]:=by simp[show T+d<ops.size by omega]
   have hne:dP (ops[T+d]).op≠.effect:=fun hk=>hno (T+d) (by omega) (by omega) ⟨_,hok,hk⟩;refine⟨fun b o hb hdd=>?_,(h.aD4 hok hne).trans i2⟩;rcases h.cases hok with h1 | ⟨hk,hw,f,_,h1⟩ | ⟨hk,_⟩
   ·rw[show T+(d+1)=T+d+1 from rfl,h1] at hb;exact i1 b o hb hdd
   ·by_cases eb:b=base+2*(T+d)
    ·subst eb;exact v.made (T+d) (hal _ (by omega) (by omega) ⟨_,hok,hk⟩) ⟨_,hok,hk⟩ ⟨_,hok,hw⟩ (by omega) o hb hdd
    ·rw[show T+(d+1)=T+d+1 from rfl,h1] at hb;simp only[St.put,PT.fC] at hb;rw[if_neg eb] at hb;exact i1 b o hb hdd
   ·exact absurd hk hne
 have:=key (e-T) (by omega);rw[show T+(e-T)=e from by omega] at this;exact this
end
variable {P:Program} {call:fZ} {round:gM} {ops:Array Oper} {nt base:Nat} {A:Nat→aG} {S:Nat→St} {V:Nat→Value}
variable {ι0:aP} {s0:St} {w0:World} {ds:List Deferred}
section
variable {X:Nat→Prop} {act:Act} {w:World} {T:Nat} {ι:aP} {HX:bG} {aX:aG}
variable (h:uM P call round ops nt base A S V) (v:Inv P ops nt base A S V ι0 s0 w0 ds X act w T ι HX aX)
include h v
theorem Inv.ahead {e:Nat} {o:Oper} (ho:ops[e]?=some o) (hX:¬ X e) (hr:∀ x∈o.after,Region.binds .any x=true→X x.on) (hk:dP o.op=.effect) :
  T≤e∧(∀ k,T≤k→k<e→¬ xX ops k .effect)∧(∀ k,k<e→xX ops k .alloc→X k):=by
 have hT:T≤e:=Nat.le_of_not_lt fun bY=>hX ((v.yL e ⟨o,ho,hk⟩).2 bY);refine⟨hT,fun k h1 h2 hke=>?_,fun k h2 hka=>?_⟩
 ·obtain⟨ok,hok,hkk⟩:=hke;have hXk:X k:=by
   rcases h.rZ k e ok o h2 hok ho with hb | ⟨m,hm,_⟩
   ·exact v.down.ready ho hr hb
   ·unfold rD at hm;rw[hkk,hk] at hm;cases hm
  have:=(v.yL k ⟨ok,hok,hkk⟩).1 hXk;omega
 ·obtain⟨ok,hok,hkk⟩:=hka;rcases h.rZ k e ok o h2 hok ho with hb | ⟨m,hm,_⟩
  ·exact v.down.ready ho hr hb
  ·unfold rD at hm;rw[hkk,hk] at hm;cases hm
theorem Inv.here {e:Nat} {o:Oper} (ho:ops[e]?=some o) (hX:¬ X e) (hr:∀ x∈o.after,Region.binds .any x=true→X x.on) (hk:dP o.op=.effect) :
  (∀ b q,(S e).heap.get b=some q→q.cS=false→HX b=some q)∧(S e).next=(S T).next∧RS P ι (S e) w:=by
 obtain⟨h1,h2,h3⟩:=v.ahead h ho hX hr hk;obtain⟨h4,h5⟩:=v.Qp h (Nat.le_of_lt (h.lt ho)) h1 h2 (fun k _ bY=>h3 k bY);refine⟨h4,h5,?_⟩;unfold RS;rw[h5];exact v.tie.cu h4
theorem Inv.effect {e:Nat} {o:Oper} (ho:ops[e]?=some o) (hX:¬ X e) (hr:∀ x∈o.after,Region.binds .any x=true→X x.on) (hk:dP o.op=.effect)
  {ι':aP} {w':World} {u:Value} (hv:VR ι' (V e) u) (hR:RS P ι' (S (e+1)) w') (hE:ES ι (S e) w ι' (S (e+1)) w') :
  ∃ H',Inv P ops nt base A S V ι0 s0 w0 ds (fun k=>X k∨k=e) (act.put o.dst u) w' (e+1) ι' H' (aX.put o.dst (V e)):=by
 obtain⟨a1,a2,a3⟩:=v.ahead h ho hX hr hk;obtain⟨sub,nx,hRe⟩:=v.here h ho hX hr hk;obtain⟨t1,t2,t3,t4⟩:=v.after h ho hX hE.le hv;have he:=h.lt ho;have hold:∀ b q,(S (e+1)).heap.get b=some q→q.cS=false→q.GU=true→∃ q0,(S e).heap.get b=some q0∧q0.cS=false:=by
  intro b q hq hd hro;rcases h.cases ho with h1 | ⟨h1,_⟩ | ⟨_,_,_,h1⟩
  ·rw[h1] at hq;exact⟨q,hq,hd⟩
  ·rw[hk] at h1;cases h1
  ·rcases h1.cW b q hq hd with ⟨q0,k1,k2,_⟩ | ⟨_,k2⟩
   ·exact⟨q0,k1,k2⟩
   ·rw[hro] at k2;cases k2
 let Ex:Nat→Prop:=fun b=>∃ i,e<i∧X i∧xX ops i .alloc∧MH ops A i∧b=base+2*i
 have bY:∀ i,xX ops i .alloc→i<ops.size:=fun i ⟨oi,hoi,_⟩=>h.lt hoi;have exNone:∀ k b q,k≤e+1→Ex b→(S k).heap.get b=some q→q.cS=false→False:=by
  rintro k b q hk' ⟨i,k1,_,k3,_,rfl⟩ hq hd;exact h.OY (by omega) (bY i k3) hq hd
 have exKeep:∀ b q l,Ex b→HX b=some q→q.cS=false→ι b=some l→l.bL<w.heap.size∧¬ Own ι (S e).look l.bL∧jD (env P) ι w l q∧l.ro=l.ro:=by
  rintro b q l hex hq hd hl;obtain⟨l',g1,g2⟩:=v.tie.obj b q hq hd;rw[hl] at g1;cases g1;refine⟨g2.lt hd,?_,g2,rfl⟩;rintro⟨b1,q1,l1,c1,c2,c3,c4,c5⟩;have:=v.tie.inj b1 b q1 q l1 l (sub b1 q1 c1 c2) c2 hq hd c3 hl c4 c5;subst this;exact exNone e b1 q1 (by omega) hex c1 c2
 obtain⟨H',hin,hout⟩:∃ H':bG,(∀ b,Ex b→H' b=HX b)∧(∀ b,¬ Ex b→H' b=(S (e+1)).heap.get b):=by
  classical
  exact⟨fun b=>if Ex b then HX b else(S (e+1)).heap.get b,fun b hb=>if_pos hb,fun b hb=>if_neg hb⟩
 have hH:∀ b q,H' b=some q→q.cS=false→(Ex b∧HX b=some q)∨(¬ Ex b∧(S (e+1)).heap.get b=some q):=by
  intro b q hq hd;by_cases hb:Ex b
  ·rw[hin b hb] at hq;exact .inl ⟨hb,hq⟩
  ·rw[hout b hb] at hq;exact .inr ⟨hb,hq⟩
 have exOwn:∀ b q l,Ex b→HX b=some q→q.cS=false→ι b=some l→¬ Own ι' (S (e+1)).look l.bL:=by
  intro b q l hex hq hd hl ho';obtain⟨g1,g2,_⟩:=exKeep b q l hex hq hd hl;rcases hE.own _ ho' with h1 | h1
  ·exact g2 h1
  ·omega
 refine⟨H',v.bm h ho hr,he,?_,?_,?_,?_,?_,?_,?_,?_,t1,t2,t3,t4⟩
 ·intro k hkk;have:=v.yL k hkk;constructor
  ·rintro(hx | rfl)
   ·have:=this.1 hx;omega
   ·omega
  ·intro hlt';rcases Nat.lt_or_ge k T with h1 | h1
   ·exact .inl (this.2 h1)
   ·rcases Nat.lt_or_ge k e with h2 | h2
    ·exact absurd hkk (a2 k h1 h2)
    ·exact .inr (by omega)
 ·intro k hlt' hka;rcases Nat.lt_or_ge k e with h2 | h2
  ·exact .inl (a3 k h2 hka)
  ·exact .inr (by omega)
 ·
  refine⟨hR.even,hR.jZ,hR.fresh,hR.sK,fun b q hq hd=>?_,fun b b' q q' l l' hq hd hq' hd' hl hl' hro hblk=>?_⟩
  ·rcases hH b q hq hd with ⟨hex,hq⟩ | ⟨_,hq⟩
   ·obtain⟨l,g1,g2⟩:=v.tie.obj b q hq hd;obtain⟨k1,k2,_⟩:=exKeep b q l hex hq hd g1;exact⟨l,hE.le _ _ g1,g2.mono hE.le (hE.aD _ k1 k2)⟩
   ·exact hR.obj b q hq hd
  ·rcases hH b q hq hd with ⟨hex,hq⟩ | ⟨hex,hq⟩ <;> rcases hH b' q' hq' hd' with ⟨hex',hq'⟩ | ⟨hex',hq'⟩
   ·obtain⟨l1,g1,_⟩:=v.tie.obj b q hq hd;obtain⟨l1',g1',_⟩:=v.tie.obj b' q' hq' hd';have e1:=hE.le _ _ g1;have e1':=hE.le _ _ g1';rw[hl] at e1;cases e1;rw[hl'] at e1';cases e1';exact v.tie.inj b b' q q' l l' hq hd hq' hd' g1 g1' hro hblk
   ·exfalso;obtain⟨l1,g1,_⟩:=v.tie.obj b q hq hd;have e1:=hE.le _ _ g1;rw[hl] at e1;cases e1;cases hro':l'.ro with
    | false=>exact exOwn b q l hex hq hd g1 ⟨b',q',l',hq',hd',hl',hro',hblk.symm⟩
    | true =>
     obtain⟨l2,g2,g3⟩:=hR.obj b' q' hq' hd';rw[hl'] at g2;cases g2;have hqro:q'.GU=true:=by
      cases q' with
      | cells c z n el room ro aT =>
       obtain⟨_,_,_,_,_,g4,_⟩:=g3;rw[hro'] at g4;exact g4.symm
      | map=>have:=g3.1;rw[hro'] at this;cases this
      | gC m=>have:=g3.1;rw[hro'] at this;cases this
      | pF=>have:=g3.1;rw[hro'] at this;cases this
      | loop=>have:=g3.1;rw[hro'] at this;cases this
      | dead=>cases hd'
     obtain⟨q0,k1,k2⟩:=hold b' q' hq' hd' hqro;have k3:=sub b' q0 k1 k2;obtain⟨l3,g5,_⟩:=v.tie.obj b' q0 k3 k2;have e2:=hE.le _ _ g5;rw[hl'] at e2;cases e2;have:=v.tie.inj b b' q q0 l l' hq hd k3 k2 g1 g5 hro hblk;subst this;exact exNone e b q0 (by omega) hex k1 k2
   ·exfalso;obtain⟨l1,g1,_⟩:=v.tie.obj b' q' hq' hd';have e1:=hE.le _ _ g1;rw[hl'] at e1;cases e1;exact exOwn b' q' l' hex' hq' hd' g1 ⟨b,q,l,hq,hd,hl,hro,hblk⟩
   ·exact hR.inj b b' q q' l l' hq hd hq' hd' hl hl' hro hblk
 ·intro b q hq hd;rw[hout b fun hex=>exNone (e+1) b q (Nat.le_refl _) hex hq hd];exact hq
 ·intro i hx hka hra hle q hq hd;have hxi:X i:=hx.resolve_right (by omega);rw[hin _ ⟨i,by omega,hxi,hka,hra,rfl⟩];exact v.made i hxi hka hra (by omega) q hq hd
 ·intro b q hq hd;rcases hH b q hq hd with ⟨⟨i,k1,k2,k3,k4,k5⟩,_⟩ | ⟨_,hq⟩
  ·exact .inr ⟨i,.inl k2,k3,k4,by omega,k5⟩
  ·exact .inl ⟨q,hq,hd⟩
 ·intro i hi hx;have htop:=h.top e (Nat.le_of_lt he);exact hE.new _ (v.free i hi fun hh=>hx (.inl hh)) (.inl (by omega))
 ·have hn1:=hE.zM;have hn0:=v.ext.zM;have hb1:=h.top e (Nat.le_of_lt he);have own1:∀ c,Own ι (S e).look c→Own ι HX c:=fun c ⟨b,q,l,h1,h2,h3⟩=>⟨b,q,l,sub b q h1 h2,h2,h3⟩;refine⟨aP.le_trans v.ext.le hE.le,?_,by omega,hE.os.trans v.ext.os,hE.tape.trans v.ext.tape,hE.output.trans v.ext.output,Nat.le_trans v.ext.size hE.size,?_,?_⟩
  ·intro b hb hb2;exact hE.new b (v.ext.new b hb (by omega)) (by omega)
  ·intro c hc hno;refine(hE.aD c (Nat.lt_of_lt_of_le hc v.ext.size) fun ho'=>?_).trans (v.ext.aD c hc hno);rcases v.ext.own c (own1 c ho') with h1 | h1
   ·exact hno h1
   ·omega
  ·rintro c ⟨b,q,l,h1,h2,h3,h4,h5⟩;have hs:=v.ext.size;rcases hH b q h1 h2 with ⟨hex,hq⟩ | ⟨_,hq⟩
   ·obtain⟨l1,g1,_⟩:=v.tie.obj b q hq h2;have e1:=hE.le _ _ g1;rw[h3] at e1;cases e1;exact v.ext.own c ⟨b,q,l,hq,h2,g1,h4,h5⟩
   ·rcases hE.own c ⟨b,q,l,hq,h2,h3,h4,h5⟩ with g1 | g1
    ·exact v.ext.own c (own1 c g1)
    ·exact .inr (by omega)
theorem Inv.reads {i:Nat} {o:Oper} (ho:ops[i]?=some o) (hX:¬ X i) (hr:∀ x∈o.after,Region.binds .any x=true→X x.on) (hk:dP o.op=.still) (hw:Region.wanted o (aN ops (A i))=true) (hm:wQ o.op=true) :
  ∀ b∈fM (A i).eval (S i).look o.op,rV (S i).look HX b:=by
 intro b hb q hq hd;have hi:=h.lt ho;rcases Nat.lt_or_ge i T with bY | hge
 ·have key:∀ d,i+d≤T→(S (i+d)).heap.get b=some q:=by
   intro d
   induction d with
   | zero=>exact fun _=>hq
   | succ d ih =>
    intro hd';have i1:=ih (by omega);have hT:=v.top;obtain⟨od,hok⟩:∃ od,ops[i+d]?=some od:=⟨ops[i+d],by simp[show i+d<ops.size by omega]⟩;rcases h.cases hok with h1 | ⟨hka,hwa,f,_,h1⟩ | ⟨hke,hwe,_⟩
    ·rw[show i+(d+1)=i+d+1 from rfl,h1];exact i1
    ·rw[show i+(d+1)=i+d+1 from rfl,h1];simp only[St.put,PT.fC];by_cases eb:b=base+2*(i+d)
     ·subst eb;exact(h.OY (Nat.le_refl _) (by omega) i1 hd).elim
     ·rw[if_neg eb];exact i1
    ·have hne:i+d≠i:=fun e0=>by
      rw[e0,ho] at hok;cases hok;rw[hk] at hke;cases hke
     have hXk:X (i+d):=(v.yL (i+d) ⟨_,hok,hke⟩).2 (by omega);rcases h.rZ i (i+d) o _ (by omega) ho hok with hbit | ⟨m,hm1,hm2⟩
     ·exact absurd (v.down.bit _ _ (by omega) hXk hbit) hX
     ·unfold rD at hm1;rw[hk,hke,if_pos hm] at hm1;cases hm1;obtain⟨q',k1,k2,_⟩:=h.same (hm2 i (i+d) (by simp) o ho hw ⟨_,hok,hwe⟩ b hb) hok hke;rw[i1] at k1;cases k1;exact k2
  have:=key (T-i) (by omega);rw[show i+(T-i)=T from by omega] at this;exact v.sub b q this hd
 ·have key:∀ d,T+d≤i→∀ q,(S (T+d)).heap.get b=some q→q.cS=false→HX b=some q:=by
   intro d
   induction d with
   | zero=>exact fun _ q h1 h2=>v.sub b q h1 h2
   | succ d ih =>
    intro hd' q hq hd;have i1:=ih (by omega);have hok:ops[T+d]?=some ops[T+d]:=by simp[show T+d<ops.size by omega]
    rcases h.cases hok with h1 | ⟨hka,hwa,f,_,h1⟩ | ⟨hke,hwe,_⟩
    ·rw[show T+(d+1)=T+d+1 from rfl,h1] at hq;exact i1 q hq hd
    ·by_cases eb:b=base+2*(T+d)
     ·have hXk:X (T+d):=by
       rcases h.rZ (T+d) i _ o (by omega) hok ho with hbit | ⟨m,hm1,hm2⟩
       ·exact v.down.ready ho hr hbit
       ·unfold rD at hm1;rw[hk,hka] at hm1;simp only at hm1;rw[if_pos hm] at hm1;cases hm1;obtain⟨q',k1,k2⟩:=h.aGr (hm2 i (T+d) (by simp) o ho hw ⟨_,hok,hwa⟩ b hb);rw[eb] at k1;exact(h.OY (Nat.le_refl _) (by omega) k1 k2).elim
      subst eb;exact v.made (T+d) hXk ⟨_,hok,hka⟩ ⟨_,hok,hwa⟩ (by omega) q hq hd
     ·rw[show T+(d+1)=T+d+1 from rfl,h1] at hq;simp only[St.put,PT.fC] at hq;rw[if_neg eb] at hq;exact i1 q hq hd
    ·have hXk:¬ X (T+d):=fun hx=>by have:=(v.yL (T+d) ⟨_,hok,hke⟩).1 hx;omega
     rcases h.rZ (T+d) i _ o (by omega) hok ho with hbit | ⟨m,hm1,hm2⟩
     ·exact absurd (v.down.ready ho hr hbit) hXk
     ·unfold rD at hm1;rw[hk,hke] at hm1;simp only at hm1;rw[if_pos hm] at hm1;cases hm1;obtain⟨q',k1,k2,_⟩:=h.same (hm2 i (T+d) (by simp) o ho hw ⟨_,hok,hwe⟩ b hb) hok hke;have:q'=q:=by
       rw[show T+(d+1)=T+d+1 from rfl] at hq;rw[hq] at k2;exact(Option.some.inj k2).symm
      subst this;exact i1 q' k1 hd
  have:=key (i-T) (by omega) q;rw[show T+(i-T)=i from by omega] at this;exact this hq hd
end
end Go.Dust
