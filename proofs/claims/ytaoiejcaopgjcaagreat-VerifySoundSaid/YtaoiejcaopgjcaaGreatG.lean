/- The plain interpreter D and its laws (Dm Dn Dp Dq Dr). -/
import Derived.Test.YtaoiejcaopgjcaaGreatF
import Derived.RangeFuncNested
set_option linter.unusedVariables false
set_option linter.unusedSimpArgs false
namespace Go.Dust
variable {X:Env}
abbrev MN (call:eR):Prop:=∀ f args s,(call f args s).Lv fun p=>eZ s p.2
theorem mg (s:St) (it:Value) (b:Bool):(FT s it b).Lv fun p=>eZ s p.2:=by
 have hpick:∀ r m since seen clock cands i,(∃ o,s.heap.get r=some o∧o.bC=false)→(FY s r m since seen clock cands i).Lv fun p=>eZ s p.2:=by
  intro r m since seen clock cands i hb
  unfold FY
  split
  ·exact .put (fun _=>.inr ⟨rfl,rfl⟩) (.inr (.inl hb))
  ·exact .refl _
  ·trivial
 unfold FT
 (repeat' split) <;> first
  | trivial
  | exact .put (fun _=>.inr ⟨rfl,rfl⟩) (.inr (.inl ⟨_,by assumption,rfl⟩))
  | exact .refl _
  | exact hpick _ _ _ _ _ _ _ ⟨_,by assumption,rfl⟩
  | exact fun i _=>hpick _ _ _ _ _ _ _ ⟨_,by assumption,rfl⟩
theorem FD (s:St) (fn:Func) (args:List Value):(oN s fn args).Lv fun p=>eZ s p.2:=by
 unfold oN
 (repeat' split) <;> first
  | trivial
  | exact .new fun _=>.inr ⟨rfl,rfl⟩
theorem ZB {call:eR} {round:dK} (hc:MN call) (hr:MN round) (s:St) (f:Value) (args:List Value):(mQ X call round s f args).Lv fun p=>eZ s p.2:=by
 unfold mQ
 (repeat' split) <;> first
  | trivial
  | exact hc _ _ _
  | exact hr _ _ _
theorem sA {α:Type} (why:String) (x:Option (α×St)) (s:St) (h:∀ v s',x=some (v,s')→eZ s s'):(cQ.ofOption why x).Lv fun p=>eZ s p.2:=by
 cases x with
 | none=>trivial
 | some p=>exact h p.1 p.2 rfl
theorem wC {call:eR} {round:dK} (hc:MN call) (hr:MN round) (s:St) (ρ:Operand→Value) (op:Op):(bL X call round s ρ op).Lv fun p=>eZ s p.2:=by
 unfold bL
 split
 ·split
  ·split
   ·rename_i h;exact .storeT h
   ·trivial
  ·trivial
 ·split
  ·rename_i h;exact .gM h
  ·trivial
 ·split
  ·rename_i h;exact .gM h
  ·trivial
 ·(repeat' split) <;> first | trivial | exact .new fun _=>.inr ⟨rfl,rfl⟩
 ·exact mg _ _ _
 ·split
  ·exact ZB hc hr _ _ _
  ·(repeat' split) <;> first | trivial | exact hc _ _ _
  ·exact sA _ _ _ fun _ _ h=>.append h
  ·exact sA _ _ _ fun _ _ h=>.copy h
  ·exact sA _ _ _ fun _ _ h=>.clear h
  ·exact sA _ _ _ fun _ _ h=>.delete h
  ·trivial
 ·trivial
theorem AZ {nm:Nat} {ρ:Operand→Value} {op:Op} {v:Value} {f:Nat→bX} (h:cS X nm ρ op=some (v,f)):PY f:=by
 unfold cS at h
 (repeat' split at h) <;> first
  | (cases h;done)
  | (simp only[Option.some.injEq,Prod.mk.injEq] at h;obtain⟨_,rfl⟩:=h;exact fun _=>.inr ⟨rfl,rfl⟩)
theorem mc {call:eR} {round:dK} (hc:MN call) (hr:MN round) (s:St) (ρ:Operand→Value) (op:Op):(kD X call round s ρ op).Lv fun p=>eZ s p.2:=by
 unfold kD
 split
 ·split
  ·exact .refl _
  ·trivial
 ·split
  ·rename_i h;exact .new (AZ h)
  ·trivial
 ·exact wC hc hr _ _ _
theorem BL {call:eR} {round:dK} (hc:MN call) (hr:MN round) {ops:Array Oper}:∀ (rest:List Oper) (a:bD) (s:St),(dL X call round ops rest a s).Lv fun p=>eZ s p.2
 | [],a,s=>.refl s
 | o::rest,a,s=>by
  unfold dL
  split
  ·rw[cQ.gJ]
   exact(mc hc hr s a.eval o.op).mono fun p hp=>(BL hc hr rest _ p.2).mono fun q hq=>hp.trans hq
  ·exact BL hc hr rest _ s
theorem JB {call:eR} {round:dK} (hc:MN call) (hr:MN round) {nm base:Nat} {s s':St} {ρ:Operand→Value} {op:Op} {v:Value} (hnm:base≤nm) (hbn:base≤s.next) (h:jP X call round nm s ρ op=some (v,s')):mO base s s':=by
 unfold jP at h
 split at h
 ·split at h
  ·simp only[Option.some.injEq,Prod.mk.injEq] at h;obtain⟨_,rfl⟩:=h;exact .refl _ _
  ·cases h
 ·split at h
  ·rename_i ha
   simp only[Option.some.injEq,Prod.mk.injEq] at h;obtain⟨_,rfl⟩:=h;exact .put (AZ ha) (.inr (.inr hnm))
  ·cases h
 ·split at h
  ·rename_i hx
   simp only[Option.some.injEq] at h
   subst h
   have:=wC (X:=X) hc hr s ρ op
   rw[hx] at this
   exact mO.low this hbn
  ·cases h
theorem JC {call:eR} {round:dK} (hc:MN call) (hr:MN round) {ops:Array Oper} {base:Nat}:∀ (rest:List Oper) (i:Nat) (a:bD) (s:St) (a':bD) (s':St) (l:List rU),
  base≤s.next→cI X call round ops base rest i a s=some (a',s',l)→mO base s s'
 | [],i,a,s,a',s',l,_,h=>by
  simp only[cI,Option.some.injEq,Prod.mk.injEq] at h
  obtain⟨_,rfl,_⟩:=h
  exact .refl _ _
 | o::rest,i,a,s,a',s',l,hb,h=>by
  unfold cI at h
  split at h
  ·split at h
   ·rename_i v s1 hx
    split at h
    ·rename_i a2 s2 l2 hl
     simp only[Option.some.injEq,Prod.mk.injEq] at h
     obtain⟨_,rfl,_⟩:=h
     have h1:=JB (base:=base) hc hr (by omega) hb hx
     exact h1.trans (JC hc hr rest _ _ _ _ _ _ (Nat.le_trans hb h1.next) hl)
    ·cases h
   ·cases h
  ·split at h
   ·rename_i a2 s2 l2 hl
    simp only[Option.some.injEq,Prod.mk.injEq] at h
    obtain⟨_,rfl,_⟩:=h
    exact JC hc hr rest _ _ _ _ _ _ hb hl
   ·cases h
theorem eZ.jf (s:St) (k:Nat):eZ s {heap:=s.heap,next:=s.next+2*k,cM:=s.cM} :=
 ⟨Nat.le_refl _,Nat.le_add_right _ _,fun _ _ h _ _=>h,fun h=>h,fun _ o h hd=>.inl ⟨o,h,hd,fun h=>h⟩⟩
theorem JA {call:eR} {round:dK} (hc:MN call) (hr:MN round) {ops:Array Oper} (a:bD) (s:St):(pM X call round ops a s).Lv fun p=>eZ s p.2:=by
 unfold pM
 split
 ·trivial
 ·split
  ·rename_i h
   split
   ·exact mO.trans (eZ.jf s ops.size) (JC hc hr _ _ _ _ _ _ _ (Nat.le_add_right _ _) h)
   ·trivial
  ·trivial
theorem UT:∀ n:Nat,(∀ r c a s,(code X n r c a s).Lv fun p=>eZ s p.2.2)∧MN (kC X n)∧MN (nK X n)
 | 0=>⟨fun _ _ _ _=>trivial,fun _ _ _=>trivial,fun _ _ _=>trivial⟩
 | n+1=>by
  obtain⟨h1,h2,h3⟩:=UT n
  refine⟨?_,?_,?_⟩
  ·intro r c a s
   unfold code
   split
   ·exact .refl _
   ·exact .refl _
   ·rw[cQ.gJ]
    split
    ·exact(JA h2 h3 a s).mono fun _ hp=>hp
    ·exact(BL h2 h3 _ a s).mono fun _ hp=>hp
   ·rw[cQ.gJ]
    refine(h1 _ _ a s).mono fun p hp=>?_
    obtain⟨e,a',s'⟩:=p
    cases e
    ·exact(h1 _ _ a' s').mono fun q hq=>hp.trans hq
    ·exact hp
    ·exact hp
   ·split
    ·exact h1 _ _ _ _
    ·exact h1 _ _ _ _
    ·trivial
   ·rw[cQ.gJ]
    refine(h1 _ _ a s).mono fun p hp=>?_
    obtain⟨e,a',s'⟩:=p
    cases e
    ·exact hp
    ·simp only
     split <;> exact hp
    ·exact hp
   ·rw[cQ.gJ]
    refine(h1 _ _ a s).mono fun p hp=>?_
    obtain⟨e,a',s'⟩:=p
    cases e
    ·exact(h1 _ _ a' s').mono fun q hq=>hp.trans hq
    ·exact hp
    ·exact hp
   ·exact .refl _
   ·exact .refl _
   ·split
    ·split
     rotate_left
     ·trivial
     rw[cQ.gJ]
     refine(h2 _ _ _).mono fun p hp=>?_
     obtain⟨v,s'⟩:=p
     have h0:eZ s s':=eZ.trans (.new fun _=>.inr ⟨rfl,rfl⟩) hp
     simp only
     split
     ·split
      ·trivial
      ·split
       ·exact h0.trans (.put (fun _=>.inr ⟨rfl,rfl⟩) (.inr (.inl ⟨_,by assumption,rfl⟩)))
       ·exact h0.trans (.put (fun _=>.inr ⟨rfl,rfl⟩) (.inr (.inl ⟨_,by assumption,rfl⟩)))
       ·exact h0.trans (.put (fun _=>.inr ⟨rfl,rfl⟩) (.inr (.inl ⟨_,by assumption,rfl⟩)))
       ·trivial
     ·trivial
    ·trivial
   ·trivial
   ·trivial
   ·trivial
  ·intro f args s
   unfold kC
   split
   ·split
    ·split
     ·rw[cQ.gJ]
      refine(h1 _ _ _ s).mono fun p hp=>?_
      obtain⟨e,a',s'⟩:=p
      simp only
      split
      ·trivial
      ·split
       ·exact hp
       ·trivial
     ·trivial
    ·exact FD _ _ _
   ·trivial
  ·intro l args s
   unfold nK
   split
   ·split
    ·rw[cQ.gJ]
     refine(h1 _ _ _ s).mono fun p hp=>?_
     obtain⟨e,a',s'⟩:=p
     simp only
     split
     ·split
      ·rw[cQ.gJ]
       refine(h1 _ _ _ _).mono fun q hq=>?_
       obtain⟨e2,a2,s2⟩:=q
       have h0:eZ s s2:=hp.trans (eZ.trans (.put (fun _=>.inr ⟨rfl,rfl⟩) (.inr (.inl ⟨_,by assumption,rfl⟩))) hq)
       simp only
       (repeat' split) <;> first
        | trivial
        | exact h0.trans (.put (fun _=>.inr ⟨rfl,rfl⟩) (.inr (.inl ⟨_,by assumption,rfl⟩)))
      ·trivial
     ·trivial
    ·trivial
   ·trivial
variable {P:Program} {ι ι':cR} {s s':St} {w w':World}
def cP.to:cP→Exit
 | .normal=>.normal
 | .exit i=>.exit i
 | .ret=>.ret
def rX (ι:cR):Option Nat→Option Nat→Prop
 | none,none=>True
 | some l,some b=>∃ loc,ι l=some loc∧loc.dR=b
 | _,_=>False
theorem rX.mono {r r':Option Nat} (h:rX ι r r') (hle:ι.le ι'):rX ι' r r':=by
 cases r <;> cases r' <;> simp only[rX] at h ⊢
 obtain⟨loc,h1,h2⟩:=h
 exact⟨loc,hle _ _ h1,h2⟩
theorem nV.CK {X:Env} {l:Loc} {x:Option (List Deferred)} (hw:w.heap[l.dR]?=some (.deferred x)):∀ {o:bX},o.bC=false→nV X ι w l o→False
 | .cells ..,_,h=>by obtain⟨_,_,_,h1,_⟩:=h;rw[hw] at h1;cases h1
 | .map ..,_,h=>by obtain⟨_,_,_,_,h1,_⟩:=h;rw[hw] at h1;cases h1
 | .eU none ..,_,h=>by obtain⟨_,_,_,_,_,_,h1⟩:=h;rw[hw] at h1;cases h1
 | .eU (some _) ..,_,h=>by obtain⟨_,_,_,_,_,h1⟩:=h;rw[hw] at h1;cases h1
 | .nW ..,_,h=>by have h1:=h.2.2.2;rw[hw] at h1;cases h1
 | .loop ..,_,h=>by obtain⟨_,_,_,_,_,_,_,h1,_⟩:=h;rw[hw] at h1;cases h1
 | .dead,h,_=>by cases h
theorem nV.lt {X:Env} {l:Loc}:∀ {o:bX},o.bC=false→nV X ι w l o→l.dR<w.heap.size
 | .cells ..,_,h=>by obtain⟨_,_,_,h1,_⟩:=h;exact bG h1
 | .map ..,_,h=>by obtain⟨_,_,_,_,h1,_⟩:=h;exact bG h1
 | .eU none ..,_,h=>by obtain⟨_,_,_,_,_,_,h1⟩:=h;exact bG h1
 | .eU (some _) ..,_,h=>by obtain⟨_,_,_,_,_,h1⟩:=h;exact bG h1
 | .nW ..,_,h=>bG h.2.2.2
 | .loop ..,_,h=>by obtain⟨_,_,_,_,_,_,_,h1,_⟩:=h;exact bG h1
 | .dead,h,_=>by cases h
theorem ie {X:Env} {H:aY} {n:Nat} (hR:R X ι H n w) {D:Nat} {x:Option (List Deferred)} (hw:w.heap[D]?=some (.deferred x)):¬ Own ι H D:=by
 rintro⟨b,o,l,h1,h2,h3,h4,rfl⟩
 obtain⟨l',h5,h6⟩:=hR.obj b o h1 h2
 rw[h3] at h5;cases h5
 exact h6.CK hw h2
theorem R.raw {X:Env} {H:aY} {n:Nat} (hR:R X ι H n w) (x:Obj):R X ι H n (w.alloc x):=by
 refine⟨hR.even,hR.GZ,hR.fresh,fun b l hb hr=>by have:=hR.qx b l hb hr;simp;omega,fun b o hb hd=>?_,hR.inj⟩
 obtain⟨l,h1,h2⟩:=hR.obj b o hb hd
 exact⟨l,h1,h2.mono (cR.le_refl _) (heap_alloc_old (h2.lt hd))⟩
theorem Ext.raw {H:aY} {n:Nat} (x:Obj):Ext ι H n w ι H n (w.alloc x) :=
 ⟨cR.le_refl _,fun _ h _=>h,Nat.le_refl _,rfl,rfl,rfl,by simp,fun c hc _=>heap_alloc_old hc,fun _ h=>.inl h⟩
theorem R.shut {X:Env} {H:aY} {n:Nat} (hR:R X ι H n w) {D:Nat} {x:Option (List Deferred)} (hw:w.heap[D]?=some (.deferred x)) (y:Obj):R X ι H n (World.dM w D y):=by
 refine⟨hR.even,hR.GZ,hR.fresh,fun b l hb hr=>by have:=hR.qx b l hb hr;simpa using this,fun b o hb hd=>?_,hR.inj⟩
 obtain⟨l,h1,h2⟩:=hR.obj b o hb hd
 refine⟨l,h1,h2.mono (cR.le_refl _) (hY fun e=>?_)⟩
 subst e
 exact h2.CK hw hd
theorem Ext.over {H H':aY} {n n':Nat} (h:Ext ι H n w ι' H' n' w') {D:Nat} (hD:w.heap.size≤D) (y:Obj):Ext ι H n w ι' H' n' (World.dM w' D y) :=
 ⟨h.le,h.new,h.nxt,h.os,h.tape,h.output,by simpa using h.size,fun c hc ho=>(hY (by omega)).trans (h.aF c hc ho),h.own⟩
def DL (lo:Nat) (ι:cR) (H:aY) (w:World) (ds:List Deferred):Prop :=
 DR ι H w ds∧∀ d∈ds,∀ D,d.target=.collected D→lo≤D
theorem DL.ext {lo:Nat} {H H':aY} {n n':Nat} {ds:List Deferred} (h:DL lo ι H w ds) (he:Ext ι H n w ι' H' n' w'):DL lo ι' H' w' ds:=⟨h.1.ext he,h.2⟩
theorem DL.nil (lo:Nat) (H:aY):DL lo ι H w []:=⟨.nil H,by simp⟩
theorem uJ {fn:Func} {tmps:Array Value} {m lo:Nat} {Rr:Ending→World→Prop} {w0:World} {ι0:cR} {s0:St}:∀ (ds:List Deferred) (w:World),RS P ι s w→ES ι0 s0 w0 ι s w→w0.heap.size≤lo→DL lo ι s.look w ds →
  (∀ w',RS P ι s w'→ES ι0 s0 w0 ι s w'→LeavesIn (FW none) m P fn tmps Rr [] .returning w')→LeavesInM (FW none) m P fn tmps Rr ds .returning w
 | [],w,hR,hE,_,_,h=>h w hR hE
 | d::ds,w,hR,hE,hlo,hD,h=>by
  obtain⟨D,rfl,h2,h3⟩:=hD.1.mark d (by simp)
  have hloD:=hD.2 _ (List.mem_cons_self ..) D rfl
  refine⟨by simp,.inl ⟨D,World.dM w D (.deferred none),rfl,run_takeDeferred h2,?_⟩⟩
  refine uJ ds _ (hR.shut h2 _) (hE.over (Nat.le_trans hlo hloD) _) hlo ⟨⟨fun e he=>?_,(List.pairwise_cons.1 hD.1.apart).2⟩,fun e he=>hD.2 e (List.mem_cons_of_mem _ he)⟩ h
  obtain⟨E,rfl,k2,k3⟩:=hD.1.mark e (List.mem_cons_of_mem _ he)
  have hne:E≠D:=fun x=>(List.pairwise_cons.1 hD.1.apart).1 _ he D rfl (by rw[x])
  exact⟨E,rfl,(hY hne).trans k2,k3⟩
theorem rO {fn:Func} {a:bD} {act:Act} (ha:AR ι a act) (hR:RS P ι s w):∀ (rs:List ResultVar) (l:List Value),qV a.nt rs=true→results1 (env P) s.look a rs=some l →
  ∃ us,((rs.mapM fun
   | .tmp t=>pure (act.tmps.getD t undef)
   | .cell x t=>do loadVar t (← asAddr (act.tmps.getD x undef)):Sem (List Value))).run P w=.ok us w∧eF ι l us
 | [],l,_,h=>by
  simp only[results1,Option.some.injEq] at h
  subst h
  exact⟨[],rfl,.nil⟩
 | .tmp t::rest,l,hok,h=>by
  simp only[qV,List.all_cons,Bool.and_eq_true,decide_eq_true_eq] at hok
  simp only[results1] at h
  split at h
  ·rename_i l' hl'
   cases h
   obtain⟨us,h1,h2⟩:=rO (fn:=fn) ha hR rest l' hok.2 hl'
   refine⟨_::us,?_,.cons (ha.val t hok.1) h2⟩
   simp only[List.mapM_cons,Sem.run_bind,Sem.run_pure,Result.andThen_ok]
   erw [h1]
   rfl
  ·cases h
 | .cell t ty::rest,l,hok,h=>by
  simp only[qV,List.all_cons,Bool.and_eq_true,decide_eq_true_eq] at hok
  simp only[results1] at h
  split at h
  ·rename_i ad had
   have hv:=ha.val t hok.1
   rw[had] at hv
   split at h
   ·rename_i v l' hv' hl'
    cases h
    obtain⟨us,h1,h2⟩:=rO (fn:=fn) ha hR rest l' hok.2 hl'
    generalize hu:act.tmps.getD t undef=u at hv
    cases hv with
    | ptr hb =>
    obtain⟨x,g1,g2⟩:=FQ hR hb hv'
    refine⟨x::us,?_,.cons g2 h2⟩
    simp only[List.mapM_cons,Sem.run_bind,hu,asAddr,Sem.run_pure,Result.andThen_ok,g1]
    erw [h1]
    rfl
   ·cases h
  ·cases h
theorem zQ {fn:Func} {a:bD} {act:Act} (ha:AR ι a act) (hR:RS P ι s w) (hok:qV a.nt fn.results.toList=true) {v:Value} (h:kP (env P) s.look fn a=some v) :
  ∃ u,(results fn act.tmps).run P w=.ok u w∧VR ι v u:=by
 unfold kP at h
 have key:∀ l,results1 (env P) s.look a fn.results.toList=some l→∃ us,(results fn act.tmps).run P w=.ok (if h:us.toArray.size=1 then us.toArray[0] else .tuple us.toArray) w∧eF ι l us:=by
  intro l hl
  obtain⟨us,h1,h2⟩:=rO (fn:=fn) ha hR _ l hok hl
  refine⟨us,?_,h2⟩
  unfold results
  rw[Array.mapM_eq_mapM_toList]
  simp only[map_eq_pure_bind,Sem.run_bind]
  erw [h1]
  rfl
 split at h
 ·rename_i v0 hv
  cases h
  obtain⟨us,h1,h2⟩:=key _ hv
  cases h2 with | cons h2 h3=>cases h3;exact⟨_,h1,h2⟩
 ·rename_i l hne hl
  cases h
  obtain⟨us,h1,h2⟩:=key _ hl
  have hlen:us.toArray.size≠1:=by
   intro e
   have:l.length=1:=by rw[h2.length];simpa using e
   match l,this with
   | [x],_=>exact hne x rfl
  rw[dif_neg hlen] at h1
  exact⟨_,h1,.tuple (by simpa using h2.length) (fun i x y hx hy=>h2.get i (by simpa using hx) (by simpa using hy))⟩
 ·cases h
variable {X:Env} {H H':aY}
def AX (H H':aY) (b:Nat):Prop:=∀ o,H b=some o→o.bC=false→H' b=some o
theorem ZX {a:Addr} {k:Nat} {l:List Value} (hr:AX H H' a.block) (h:aS H a k=some l):aS H' a k=some l:=by
 unfold aS at h ⊢
 split at h
 ·rename_i hs hb
  rw[hs,hr _ hb rfl];exact h
 ·cases h
theorem ZW {a:Addr} {v:Value} (hr:AX H H' a.block) (h:aI H a=some v):aI H' a=some v:=by
 unfold aI at h ⊢
 split at h
 ·rename_i hs hb
  rw[hs,hr _ hb rfl];exact h
 ·cases h
theorem ZY {t:TypeId} {a:Addr} {v:Value} (hr:AX H H' a.block) (h:loadT X H t a=some v):loadT X H' t a=some v:=by
 unfold loadT at h ⊢
 cases ht:X.ty t with
 | none=>rw[ht] at h;cases h
 | some i =>
  rw[ht] at h
  simp only at h ⊢
  split
  ·rename_i e
   rw[if_pos e] at h
   split at h
   ·rename_i l hl
    rw[ZX hr hl];exact h
   ·cases h
  ·rename_i e
   rw[if_neg e] at h
   exact ZW hr h
theorem AM {r:Nat} {x:List MapEntry×Nat} (hr:AX H H' r) (h:mapOf H r=some x):mapOf H' r=some x:=by
 unfold mapOf at h ⊢
 split at h
 ·rename_i hb
  rw[hr _ hb rfl];exact h
 ·cases h
theorem BZ {b:Nat} (hr:AX H H' b) (h:isCells H b=true):isCells H' b=true:=by
 unfold isCells at h ⊢
 split at h
 ·rename_i hb
  rw[hr _ hb rfl]
 ·cases h
theorem RM {t:TypeId} {x k v:Value} {ok:Bool} (hr:∀ b∈nameOf x,AX H H' b) (h:kW X H t x k ok=some v):kW X H' t x k ok=some v:=by
 unfold kW at h ⊢
 split at h
 ·split at h
  ·split at h
   ·rename_i hk
    rw[if_pos hk]
    split at h
    ·exact h
    ·rename_i r
     split at h
     ·rename_i hm
      rw[AM (hr r (by simp[nameOf])) hm];exact h
     ·cases h
    ·cases h
   ·cases h
  ·cases h
 ·cases h
theorem VX {t:TypeId} {x v:Value} (hr:∀ b∈nameOf x,AX H H' b) (h:fA X H t x=some v):fA X H' t x=some v:=by
 unfold fA at h ⊢
 split at h
 ·split at h
  ·exact h
  ·exact h
  ·exact h
  ·exact h
  ·split at h
   ·rename_i hm
    rw[AM (hr _ (by simp[nameOf])) hm];exact h
   ·cases h
  ·cases h
 ·cases h
theorem UO {it v:Value} (hr:∀ b∈nameOf it,AX H H' b) (hr2:∀ (a:Addr) m p q c w,it=.pointer (some a)→H a.block=some (.eU (some m) p q c w)→AX H H' m) (h:nZ H it=some v):nZ H' it=some v:=by
 unfold nZ at h ⊢
 split at h
 ·rename_i a
  split at h
  ·rename_i hc
   rw[if_pos hc]
   split at h
   ·rename_i m p last rest stepped dF hb
    rw[hr a.block (by simp[nameOf]) _ hb rfl]
    simp only
    split at h
    ·rename_i hm
     rw[AM (hr2 a _ _ _ _ _ rfl hb) hm];exact h
    ·cases h
   ·cases h
  ·cases h
 ·cases h
theorem IY:∀ (d:Nat) (t:TypeId) (x y:Value),EE x=true→mW X H d t x y=mW X H' d t x y
 | 0,_,_,_,_=>rfl
 | d+1,t,x,y,hx=>by
  have ih:(fun t x y=>if EE x then mW X H d t x y else none)=(fun t x y=>if EE x then mW X H' d t x y else none):=by
   funext t x y
   split
   ·exact IY d t x y ‹_›
   ·rfl
  unfold mW
  rw[ih]
  cases X.ty t with
  | none=>rfl
  | some i =>
   simp only
   generalize i.desc=D
   cases x <;> first | (cases hx;done) | (split <;> first | rfl | contradiction | simp_all)
theorem NS (d:Nat) (t:TypeId) (x y:Value) {r:Bool} (hr:∀ b∈nameOf x++nameOf y,AX H H' b) (h:mW X H d t x y=some r):mW X H' d t x y=some r:=by
 cases d with
 | zero=>exact h
 | succ d =>
  have ih:(fun t x y=>if EE x then mW X H d t x y else none)=(fun t x y=>if EE x then mW X H' d t x y else none):=by
   funext t x y
   split
   ·exact IY d t x y ‹_›
   ·rfl
  unfold mW at h ⊢
  rw[ih] at h
  cases ht:X.ty t with
  | none=>rw[ht] at h;cases h
  | some i =>
   rw[ht] at h
   simp only at h ⊢
   split at h
   case h_6 e a b hd =>
    split at h
    ·cases h
    ·rename_i ei he
     split at h
     ·cases h
     ·rename_i hz
      split at h
      ·rename_i hs1 hs2
       rw[if_neg hz]
       split at h
       ·rename_i hb;rw[if_pos hb];exact h
       ·rename_i hb
        rw[if_neg hb]
        split at h
        ·rename_i hcc
         simp only[Bool.and_eq_true] at hcc
         rw[BZ (hr _ (by simp[nameOf])) hcc.1,BZ (hr _ (by simp[nameOf])) hcc.2]
         exact h
        ·cases h
      ·cases h
   all_goals first | exact h | (simp_all;done)
theorem XR {t:TypeId} {x v:Value} {lo hi mx:Option Value} (hr:∀ b∈nameOf x,AX H H' b) (h:dE X H t x lo hi mx=some v):dE X H' t x lo hi mx=some v:=by
 unfold dE at h ⊢
 split at h
 ·cases h
 ·split at h
  ·rename_i i lo' hi' h1 h2 h3
   split at h
   ·exact h
   ·exact h
   ·rename_i e a len cap hd
    have hk:=hr a.block (by simp[nameOf])
    split at h
    ·split at h
     ·rename_i hb1 hb2 hb3
      rw[hb1,hb2,hk _ hb3 rfl]
      exact h
     ·cases h
    ·cases h
   ·rename_i n e a hd
    have hk:=hr a.block (by simp[nameOf])
    split at h
    ·split at h
     ·rename_i hb1 hb2 hb3
      rw[hb1,hb2,hk _ hb3 rfl]
      exact h
     ·cases h
    ·cases h
   ·cases h
  ·cases h
theorem YK {op:BinOp} {t:TypeId} {x y v:Value} (hr:(op=.eql∨op=.neq)→∀ b∈nameOf x++nameOf y,AX H H' b) (h:binop X H op t x y=some v):binop X H' op t x y=some v:=by
 unfold binop at h ⊢
 split at h
 ·exact h
 ·exact h
 ·split at h
  ·split at h
   ·rename_i he
    rw[NS _ _ _ _ (hr (.inl rfl)) he];exact h
   ·cases h
  ·split at h
   ·rename_i he
    rw[NS _ _ _ _ (hr (.inr rfl)) he];exact h
   ·cases h
  ·cases h
theorem still_mono {ρ:Operand→Value} {op:Op} {v:Value} (hr:nE op=true→∀ b∈bZ ρ H op,AX H H' b) (h:bS X H ρ op=some v):bS X H' ρ op=some v:=by
 cases op
 case load t a =>
  have hr:=hr rfl
  simp only[bS,bZ] at h ⊢ hr
  split at h
  ·rename_i ad ha
   rw[ha] at hr
   exact ZY (hr _ (by simp[nameOf])) h
  ·cases h
 case binOp op t x y yt =>
  simp only[bS] at h ⊢
  split at h
  ·cases h
  ·rename_i hn
   rw[if_neg hn]
   refine YK ?_ h
   rintro(rfl | rfl) <;> exact hr rfl
 case slice t x lo hi mx=>exact XR (hr rfl) h
 case lookup t x k ok=>exact RM (hr rfl) h
 case entry it =>
  have hr:=hr rfl
  simp only[bS,bZ] at h ⊢ hr
  refine UO (fun b hb=>hr b (List.mem_append_left _ hb)) ?_ h
  intro a m p q c w HL hb
  refine hr m (List.mem_append_right _ ?_)
  rw[HL]
  simp only
  rw[hb]
  simp
 case call c =>
  simp only[bS] at h ⊢
  cases hc:c.callee with
  | builtin b =>
   rw[hc] at h
   cases b <;> simp only at h ⊢ <;> first | exact h | skip
   split at h
   ·rename_i t x ht hx
    refine VX ?_ h
    have hr:=hr (by simp[nE,hc])
    simp only[bZ,hx] at hr
    exact hr
   ·cases h
  | value f=>rw[hc] at h;cases h
  | invoke x n=>rw[hc] at h;cases h
 all_goals exact h
def sI (acc:Array Nat) (o:Oper):Nat:=o.after.foldl (fun s e=>if Region.binds .any e then s ||| 2 ^ e.on ||| acc.getD e.on 0 else s) 0
theorem TW (acc:Array Nat) (i:Nat):∀ (l:List Edge) (s:Nat),(l.foldl (fun s e=>if Region.binds .any e then s ||| 2 ^ e.on ||| acc.getD e.on 0 else s) s).testBit i=true →
  s.testBit i=true∨∃ e∈l,Region.binds .any e=true∧(e.on=i∨(acc.getD e.on 0).testBit i=true)
 | [],s,h=>.inl h
 | e::l,s,h=>by
  rw[List.foldl_cons] at h
  rcases TW acc i l _ h with h1 | ⟨e',h1,h2⟩
  ·split at h1
   ·rename_i hb
    simp only[Nat.testBit_or,Bool.or_eq_true] at h1
    rcases h1 with (h1 | h1) | h1
    ·exact .inl h1
    ·refine .inr ⟨e,by simp,hb,.inl ?_⟩
     rw[Nat.testBit_two_pow] at h1
     simpa using h1
    ·exact .inr ⟨e,by simp,hb,.inr h1⟩
   ·exact .inl h1
  ·exact .inr ⟨e',List.mem_cons_of_mem _ h1,h2⟩
theorem si {acc:Array Nat} {o:Oper} {i:Nat} (h:(sI acc o).testBit i=true):∃ e∈o.after,Region.binds .any e=true∧(e.on=i∨(acc.getD e.on 0).testBit i=true):=by
 unfold sI at h
 rw[← Array.foldl_toList] at h
 rcases TW acc i _ _ h with h1 | ⟨e,h1,h2⟩
 ·simp at h1
 ·exact⟨e,by simpa using h1,h2⟩
theorem EZ:∀ (l:List Oper) (acc:Array Nat),(∀ i,i<acc.size→(l.foldl (fun acc o=>acc.push (sI acc o)) acc).getD i 0=acc.getD i 0) ∧
  ∀ k o,l[k]?=some o→∃ acc':Array Nat,acc'.size=acc.size+k∧(∀ i,i<acc'.size→(l.foldl (fun acc o=>acc.push (sI acc o)) acc).getD i 0=acc'.getD i 0) ∧
   (l.foldl (fun acc o=>acc.push (sI acc o)) acc).getD (acc.size+k) 0=sI acc' o
 | [],acc=>⟨fun _ _=>rfl,fun k o h=>by simp at h⟩
 | o::l,acc=>by
  obtain⟨h1,h2⟩:=EZ l (acc.push (sI acc o))
  have hget:∀ i,i<acc.size→(acc.push (sI acc o)).getD i 0=acc.getD i 0:=by
   intro i hi
   simp only[Array.getD_eq_getD_getElem?,Array.getElem?_push,if_neg (Nat.ne_of_lt hi)]
  refine⟨fun i hi=>?_,fun k o' hk=>?_⟩
  ·rw[List.foldl_cons,h1 i (by simp;omega),hget i hi]
  ·cases k with
   | zero =>
    simp only[List.getElem?_cons_zero,Option.some.injEq] at hk
    subst hk
    refine⟨acc,rfl,fun i hi=>by rw[List.foldl_cons,h1 i (by simp;omega),hget i hi],?_⟩
    rw[List.foldl_cons,Nat.add_zero,h1 acc.size (by simp)]
    simp
   | succ k =>
    obtain⟨acc',k1,k2,k3⟩:=h2 k o' (by simpa using hk)
    refine⟨acc',by rw[k1];simp;omega,fun i hi=>by rw[List.foldl_cons];exact k2 i hi,?_⟩
    rw[List.foldl_cons,← k3]
    congr 1
    simp;omega
abbrev Bit (ops:Array Oper) (j i:Nat):Prop:=((Region.before ops).getD j 0).testBit i=true
theorem FA {ops:Array Oper} {j i:Nat} {o:Oper} (ho:ops[j]?=some o) (h:Bit ops j i):∃ e∈o.after,Region.binds .any e=true∧(e.on=i∨(e.on<j∧Bit ops e.on i)):=by
 have hb:Region.before ops=ops.toList.foldl (fun acc o=>acc.push (sI acc o)) #[]:=by
  unfold Region.before
  rw[← Array.foldl_toList]
  rfl
 obtain⟨acc',h1,h2,h3⟩:=(EZ ops.toList #[]).2 j o (by simpa using ho)
 simp only[List.size_toArray,List.length_nil,Nat.zero_add] at h1 h3
 unfold Bit at h
 rw[hb,h3] at h
 obtain⟨e,he,hbi,h⟩:=si h
 refine⟨e,he,hbi,?_⟩
 rcases h with h | h
 ·exact .inl h
 ·have gU:e.on<acc'.size:=by
   rcases Nat.lt_or_ge e.on acc'.size with h' | h'
   ·exact h'
   ·rw[Array.getD_eq_getD_getElem?,Array.getElem?_eq_none h'] at h
    simp at h
  refine .inr ⟨by omega,?_⟩
  unfold Bit
  rw[hb,h2 _ gU]
  exact h
def Down (ops:Array Oper) (S:Nat→Prop):Prop:=∀ j o,S j→ops[j]?=some o→∀ e∈o.after,Region.binds .any e=true→S e.on
theorem Down.bit {ops:Array Oper} {S:Nat→Prop} (hd:Down ops S):∀ (j i:Nat),j<ops.size→S j→Bit ops j i→S i:=by
 intro j
 induction j using Nat.strongRecOn with
 | _ j ih =>
  intro i hj hs hb
  have ho:ops[j]?=some ops[j]:=by simp[hj]
  obtain⟨e,he,hbi,h⟩:=FA ho hb
  have hse:=hd j _ hs ho e he hbi
  rcases h with rfl | ⟨h1,h2⟩
  ·exact hse
  ·exact ih e.on h1 i (by omega) hse h2
theorem Down.ready {ops:Array Oper} {S:Nat→Prop} (hd:Down ops S) {j i:Nat} {o:Oper} (ho:ops[j]?=some o) (hr:∀ e∈o.after,Region.binds .any e=true→S e.on) (hb:Bit ops j i):S i:=by
 obtain⟨e,he,hbi,h⟩:=FA ho hb
 have hj:j<ops.size:=(Array.getElem?_eq_some_iff.1 ho).1
 rcases h with rfl | ⟨h1,h2⟩
 ·exact hr e he hbi
 ·exact hd.bit e.on i (by omega) (hr e he hbi) h2
theorem vY {b:Array Nat} {j:Nat} {oj:Oper}:∀ (rest:List Oper) (i:Nat) (l:List (Nat×Nat)),sQ b j oj rest i=some l→∀ k o,rest[k]?=some o→i+k<j →
  (b.getD j 0).testBit (i+k)=true∨∃ m,gY o oj (i+k) j=some m∧∀ p∈m,p∈l
 | [],i,l,_,k,o,hk,_=>by simp at hk
 | o0::rest,i,l,h,k,o,hk,gU=>by
  unfold sQ at h
  rw[if_pos (by omega)] at h
  split at h
  ·rename_i hb
   cases k with
   | zero=>exact .inl hb
   | succ k =>
    have:=vY rest (i+1) l h k o (by simpa using hk) (by omega)
    rw[show i+1+k=i+(k+1) from by omega] at this
    exact this
  ·split at h
   ·rename_i l1 l2 h1 h2
    cases h
    cases k with
    | zero =>
     simp only[List.getElem?_cons_zero,Option.some.injEq] at hk
     subst hk
     exact .inr ⟨l1,h1,fun p hp=>List.mem_append_left _ hp⟩
    | succ k =>
     have:=vY rest (i+1) l2 h2 k o (by simpa using hk) (by omega)
     rw[show i+1+k=i+(k+1) from by omega] at this
     rcases this with h3 | ⟨m,h3,h4⟩
     ·exact .inl h3
     ·exact .inr ⟨m,h3,fun p hp=>List.mem_append_right _ (h4 p hp)⟩
   ·cases h
theorem zI {b:Array Nat} {all:List Oper}:∀ (rest:List Oper) (j0:Nat) (l:List (Nat×Nat)),rA b all rest j0=some l→∀ k oj,rest[k]?=some oj→∀ i oi,all[i]?=some oi→i<j0+k →
  (b.getD (j0+k) 0).testBit i=true∨∃ m,gY oi oj i (j0+k)=some m∧∀ p∈m,p∈l
 | [],_,_,_,k,oj,hk,_,_,_,_=>by simp at hk
 | o0::rest,j0,l,h,k,oj,hk,i,oi,hi,gU=>by
  unfold rA at h
  split at h
  ·rename_i l1 l2 h1 h2
   cases h
   cases k with
   | zero =>
    simp only[List.getElem?_cons_zero,Option.some.injEq] at hk
    subst hk
    have:=vY all 0 l1 h1 i oi hi (by omega)
    simp only[Nat.zero_add,Nat.add_zero] at this ⊢
    rcases this with h3 | ⟨m,h3,h4⟩
    ·exact .inl h3
    ·exact .inr ⟨m,h3,fun p hp=>List.mem_append_left _ (h4 p hp)⟩
   | succ k =>
    have:=zI rest (j0+1) l2 h2 k oj (by simpa using hk) i oi hi (by omega)
    rw[show j0+1+k=j0+(k+1) from by omega] at this
    rcases this with h3 | ⟨m,h3,h4⟩
    ·exact .inl h3
    ·exact .inr ⟨m,h3,fun p hp=>List.mem_append_right _ (h4 p hp)⟩
  ·cases h
theorem lu {ops:Array Oper} {l:List (Nat×Nat)} (h:BH ops=some l) {i j:Nat} {oi oj:Oper} (hi:ops[i]?=some oi) (hj:ops[j]?=some oj) (gU:i<j) :
  Bit ops j i∨∃ m,gY oi oj i j=some m∧∀ p∈m,p∈l:=by
 have:=zI ops.toList 0 l h j oj (by simpa using hj) i oi (by simpa using hi) (by omega)
 rw[Nat.zero_add] at this
 exact this
theorem wP {ops:Array Oper} {b:Array Nat} {oj:Oper} {j:Nat}:∀ (rest:List Oper) (i:Nat),oE ops b oj j rest i=true→∀ k o,rest[k]?=some o→i+k<j→KL ops b o oj (i+k) j=true
 | [],i,_,k,o,hk,_=>by simp at hk
 | o0::rest,i,h,k,o,hk,gU=>by
  unfold oE at h
  rw[if_pos (by omega),Bool.and_eq_true] at h
  cases k with
  | zero =>
   simp only[List.getElem?_cons_zero,Option.some.injEq] at hk
   subst hk
   exact h.1
  | succ k =>
   have:=wP rest (i+1) h.2 k o (by simpa using hk) (by omega)
   rw[show i+1+k=i+(k+1) from by omega] at this
   exact this
theorem CR {ops:Array Oper} {b:Array Nat}:∀ (rest:List Oper) (j0:Nat),sH ops b rest j0=true→∀ k oj,rest[k]?=some oj→∀ i oi,ops[i]?=some oi→i<j0+k→KL ops b oi oj i (j0+k)=true
 | [],_,_,k,oj,hk,_,_,_,_=>by simp at hk
 | o0::rest,j0,h,k,oj,hk,i,oi,hi,gU=>by
  unfold sH at h
  rw[Bool.and_eq_true] at h
  cases k with
  | zero =>
   simp only[List.getElem?_cons_zero,Option.some.injEq] at hk
   subst hk
   have:=wP ops.toList 0 h.1 i oi (by simpa using hi) (by omega)
   simpa using this
  | succ k =>
   have:=CR rest (j0+1) h.2 k oj (by simpa using hk) i oi hi (by omega)
   rw[show j0+1+k=j0+(k+1) from by omega] at this
   exact this
theorem CO:∀ (rest:List Oper) (j0:Nat),mI rest j0=true→∀ k o,rest[k]?=some o→∀ e∈o.after,Region.binds .any e=true→e.on<j0+k
 | [],_,_,k,o,hk=>by simp at hk
 | o0::rest,j0,h,k,o,hk=>by
  unfold mI at h
  rw[Bool.and_eq_true] at h
  cases k with
  | zero =>
   simp only[List.getElem?_cons_zero,Option.some.injEq] at hk
   subst hk
   intro e he hb
   have h1:=h.1
   unfold im at h1
   rw[Bool.and_eq_true] at h1
   have:=List.all_eq_true.1 h1.1 e (by simpa using he)
   rw[hb] at this
   simpa using this
  | succ k =>
   have:=CO rest (j0+1) h.2 k o (by simpa using hk)
   rw[show j0+1+k=j0+(k+1) from by omega] at this
   exact this
theorem SF {ops:Array Oper} (h:uQ ops=true) {i j:Nat} {oi oj:Oper} (hi:ops[i]?=some oi) (hj:ops[j]?=some oj) (gU:i<j) :
  Bit ops j i∨((∀ d,oi.dst=some d→d∉tmpsOf ops oj)∧(∀ d,oj.dst=some d→d∉tmpsOf ops oi)):=by
 unfold uQ at h
 rw[Bool.and_eq_true] at h
 have:=CR ops.toList 0 h.1 j oj (by simpa using hj) i oi hi (by omega)
 rw[Nat.zero_add] at this
 unfold KL at this
 rw[Bool.or_eq_true] at this
 rcases this with h1 | h1
 ·exact .inl h1
 ·simp only[Bool.not_eq_true',Bool.or_eq_false_iff] at h1
  refine .inr ⟨fun d hd=>?_,fun d hd=>?_⟩
  ·have:=h1.1
   rw[hd] at this
   simpa using this
  ·have:=h1.2
   rw[hd] at this
   simpa using this
theorem SE {ops:Array Oper} (h:uQ ops=true) {j:Nat} {o:Oper} (hj:ops[j]?=some o):∀ e∈o.after,Region.binds .any e=true→e.on<j:=by
 unfold uQ at h
 rw[Bool.and_eq_true] at h
 have:=CO ops.toList 0 h.2 j o (by simpa using hj)
 simpa using this
variable {P:Program} {call:eR} {round:dK} {ops:Array Oper} {nt base:Nat} {A:Nat→bD} {S:Nat→St} {V:Nat→Value}
abbrev TH (ops:Array Oper) (A:Nat→bD) (i:Nat):Prop:=∃ o,ops[i]?=some o∧Region.wanted o (aE ops (A i))=true
abbrev sO (ops:Array Oper) (i:Nat) (k:Kind):Prop:=∃ o,ops[i]?=some o∧bN o.op=k
structure qw (P:Program) (call:eR) (round:dK) (ops:Array Oper) (nt base:Nat) (A:Nat→bD) (S:Nat→St) (V:Nat→Value):Prop where
 hc:mF P call
 hr:mA P round
 lc:MN call
 lr:MN round
 okop:ops.toList.all (iT nt)=true
 nt0:∀ i,i≤ops.size→(A i).nt=nt
 step:∀ i o,ops[i]?=some o→A (i+1)=(A i).put o.dst (V i) ∧
  ((Region.wanted o (aE ops (A i))=true∧jP (env P) call round (base+2*i) (S i) (A i).eval o.op=some (V i,S (i+1))) ∨
   (Region.wanted o (aE ops (A i))=false∧V i=undef∧S (i+1)=S i))
 yx:∀ i j oi oj,i<j→ops[i]?=some oi→ops[j]?=some oj→Bit ops j i∨((∀ d,oi.dst=some d→d∉tmpsOf ops oj)∧(∀ d,oj.dst=some d→d∉tmpsOf ops oi))
 edges:∀ j o,ops[j]?=some o→∀ e∈o.after,Region.binds .any e=true→e.on<j
 BH:∀ i j oi oj,i<j→ops[i]?=some oi→ops[j]?=some oj→Bit ops j i∨∃ m,gY oi oj i j=some m ∧
  ∀ x e,(x,e)∈m→∀ ox,ops[x]?=some ox→Region.wanted ox (aE ops (A x))=true→TH ops A e→∀ b∈bZ (A x).eval (S x).look ox.op,bP (S e) (S (e+1)) b=true
 top:∀ i,i≤ops.size→base+2*ops.size≤(S i).next
 GZ:base%2=1
 low:∀ i,i<ops.size→∀ o,(S 0).heap.get (base+2*i)=some o→o.bC=true
namespace qw
variable (h:qw P call round ops nt base A S V)
include h
theorem lt {i:Nat} {o:Oper} (ho:ops[i]?=some o):i<ops.size:=by
 have _:=h
 exact(Array.getElem?_eq_some_iff.1 ho).1
theorem oper {i:Nat} {o:Oper} (ho:ops[i]?=some o):iT nt o=true:=List.all_eq_true.1 h.okop o (by simpa using Array.mem_of_getElem? ho)
theorem cases {i:Nat} {o:Oper} (ho:ops[i]?=some o) :
  (S (i+1)=S i) ∨
  (bN o.op=.alloc∧Region.wanted o (aE ops (A i))=true∧∃ f,cS (env P) (base+2*i) (A i).eval o.op=some (V i,f)∧S (i+1)=(S i).put (base+2*i) f) ∨
  (bN o.op=.effect∧Region.wanted o (aE ops (A i))=true∧bL (env P) call round (S i) (A i).eval o.op=.ret (V i,S (i+1))∧eZ (S i) (S (i+1))):=by
 rcases(h.step i o ho).2 with ⟨h1,h2⟩ | ⟨h1,h2,h3⟩
 ·unfold jP at h2
  split at h2
  ·split at h2
   ·simp only[Option.some.injEq,Prod.mk.injEq] at h2;exact .inl h2.2.symm
   ·cases h2
  ·split at h2
   ·rename_i hk _ v f ha
    simp only[Option.some.injEq,Prod.mk.injEq] at h2
    obtain⟨rfl,h2⟩:=h2
    exact .inr (.inl ⟨hk,h1,f,ha,h2.symm⟩)
   ·cases h2
  ·split at h2
   ·rename_i hk _ p hx
    simp only[Option.some.injEq] at h2
    subst h2
    have:=wC (X:=env P) h.lc h.lr (S i) (A i).eval o.op
    rw[hx] at this
    exact .inr (.inr ⟨hk,h1,hx,this⟩)
   ·cases h2
 ·exact .inl h3
theorem still {i:Nat} {o:Oper} (ho:ops[i]?=some o) (hk:bN o.op=.still):S (i+1)=S i:=by
 rcases h.cases ho with h1 | ⟨h1,_⟩ | ⟨h1,_⟩
 ·exact h1
 ·rw[hk] at h1;cases h1
 ·rw[hk] at h1;cases h1
theorem XE:∀ (k i:Nat),k≤i→i<ops.size→∀ o,(S k).heap.get (base+2*i)=some o→o.bC=true
 | 0,i,_,hi,o,ho=>h.low i hi o ho
 | k+1,i,hk,hi,o,ho=>by
  have hok:ops[k]?=some ops[k]:=by simp[show k<ops.size by omega]
  have ih:=XE k i (by omega) hi
  rcases h.cases hok with h1 | ⟨_,_,f,_,h1⟩ | ⟨_,_,_,h1⟩
  ·rw[h1] at ho;exact ih o ho
  ·rw[h1] at ho
   simp only[St.put,PT.bU] at ho
   rw[if_neg (by omega)] at ho
   exact ih o ho
  ·cases hd:o.bC with
   | true=>rfl
   | false =>
    rcases h1.mC _ o ho hd with ⟨o0,h2,h3,_⟩ | ⟨h2,_⟩
    ·rw[ih o0 h2] at h3;cases h3
    ·have:=h.top k (by omega);omega
theorem WH {k i:Nat} (hk:k≤i) (hi:i<ops.size) {o:bX} (ho:(S k).heap.get (base+2*i)=some o) (hd:o.bC=false):False:=by
 rw[h.XE k i hk hi o ho] at hd;cases hd
theorem next_eq {i:Nat} {o:Oper} (ho:ops[i]?=some o) (hk:bN o.op≠.effect):(S (i+1)).next=(S i).next:=by
 rcases h.cases ho with h1 | ⟨_,_,f,_,h1⟩ | ⟨h1,_⟩
 ·rw[h1]
 ·rw[h1];rfl
 ·exact absurd h1 hk
theorem same {e:Nat} {b:Nat} (hs:bP (S e) (S (e+1)) b=true) {o:Oper} (ho:ops[e]?=some o) (hk:bN o.op=.effect) :
  ∃ q,(S e).heap.get b=some q∧(S (e+1)).heap.get b=some q∧q.bC=false:=by
 unfold bP at hs
 split at hs
 ·rename_i q q' h1 h2
  simp only[Bool.and_eq_true,Bool.not_eq_true',beq_iff_eq,decide_eq_true_eq] at hs
  obtain⟨⟨⟨k1,k2⟩,k3⟩,k4⟩:=hs
  rcases h.cases ho with h3 | ⟨h3,_⟩ | ⟨_,_,_,h3⟩
  ·rw[h3] at h2
   rw[h1] at h2;cases h2
   exact⟨q,h1,by rw[h3];exact h1,k1⟩
  ·rw[hk] at h3;cases h3
  ·have:=h3.same b q' h2 k2 (by omega)
   rw[h1] at this;cases this
   exact⟨q,h1,h2,k1⟩
 ·cases hs
theorem zq {e b:Nat} (hs:bP (S e) (S (e+1)) b=true):∃ q,(S e).heap.get b=some q∧q.bC=false:=by
 have _:=h
 unfold bP at hs
 split at hs
 ·rename_i q q' h1 h2
  simp only[Bool.and_eq_true,Bool.not_eq_true',beq_iff_eq,decide_eq_true_eq] at hs
  exact⟨q,h1,hs.1.1.1⟩
 ·cases hs
end qw
def tB (ops:Array Oper) (a0:bD) (V:Nat→Value) (X:Nat→Prop) (t:Tmp) (v:Value):Prop :=
 (∃ i o,X i∧ops[i]?=some o∧o.dst=some t∧v=V i∧∀ k o',i<k→X k→ops[k]?=some o'→o'.dst≠some t) ∨
 ((∀ i o,X i→ops[i]?=some o→o.dst≠some t)∧v=a0.aD t)
theorem tB.uniq {a0:bD} {X Y:Nat→Prop} {t:Tmp} {v u:Value} (hv:tB ops a0 V X t v) (hu:tB ops a0 V Y t u) (hxy:∀ i o,ops[i]?=some o→o.dst=some t→(X i↔Y i)):v=u:=by
 rcases hv with ⟨i,o,h1,h2,h3,rfl,h5⟩ | ⟨h1,rfl⟩
 ·rcases hu with ⟨j,o',k1,k2,k3,rfl,k5⟩ | ⟨k1,rfl⟩
  ·rcases Nat.lt_trichotomy i j with gU | rfl | gU
   ·exact absurd k3 (h5 j o' gU ((hxy j o' k2 k3).2 k1) k2)
   ·rfl
   ·exact absurd h3 (k5 i o gU ((hxy i o h2 h3).1 h1) h2)
  ·exact absurd h3 (k1 i o ((hxy i o h2 h3).1 h1) h2)
 ·rcases hu with ⟨j,o',k1,k2,k3,rfl,k5⟩ | ⟨k1,rfl⟩
  ·exact absurd k3 (h1 j o' ((hxy j o' k2 k3).2 k1) k2)
  ·rfl
theorem ux (a:bD) (d:Option Tmp) (v:Value) (t:Tmp):(a.put d v).aD t=if d=some t then v else a.aD t:=by
 cases d with
 | none=>simp[bD.put]
 | some d =>
  simp only[bD.put,bD.aD,PT.bU,Option.some.injEq]
  by_cases e:t=d
  ·subst e;simp
  ·rw[if_neg e,if_neg (Ne.symm e)]
theorem tB.add {a0 a:bD} {X:Nat→Prop} {i:Nat} {o:Oper} (ho:ops[i]?=some o) (hX:∀ k o',i<k→X k→ops[k]?=some o'→∀ d,o.dst=some d→o'.dst≠some d) {t:Tmp}
  (h:tB ops a0 V X t (a.aD t)):tB ops a0 V (fun k=>X k∨k=i) t ((a.put o.dst (V i)).aD t):=by
 rw[ux]
 by_cases e:o.dst=some t
 ·rw[if_pos e]
  refine .inl ⟨i,o,.inr rfl,ho,e,rfl,fun k o' hk hx ho'=>?_⟩
  rcases hx with hx | rfl
  ·exact hX k o' hk hx ho' t e
  ·omega
 ·rw[if_neg e]
  rcases h with ⟨j,o',k1,k2,k3,k4,k5⟩ | ⟨k1,k2⟩
  ·refine .inl ⟨j,o',.inl k1,k2,k3,k4,fun k o'' hk hx ho'=>?_⟩
   rcases hx with hx | rfl
   ·exact k5 k o'' hk hx ho'
   ·rw[ho] at ho';cases ho';exact e
  ·refine .inr ⟨fun j o' hx ho'=>?_,k2⟩
   rcases hx with hx | rfl
   ·exact k1 j o' hx ho'
   ·rw[ho] at ho';cases ho';exact e
theorem qw.last (h:qw P call round ops nt base A S V) (t:Tmp):∀ j,j≤ops.size→tB ops (A 0) V (·<j) t ((A j).aD t)
 | 0,_=>.inr ⟨fun i o hi=>by omega,rfl⟩
 | j+1,hj=>by
  have ho:ops[j]?=some ops[j]:=by simp[show j<ops.size by omega]
  have:=tB.add (V:=V) ho (fun k o' hk hx=>by omega) (qw.last h t j (by omega))
  rw[(h.step j _ ho).1]
  rcases this with ⟨i,o,h1,h2⟩ | ⟨h1,h2⟩
  ·exact .inl ⟨i,o,by omega,h2.1,h2.2.1,h2.2.2.1,fun k o' hk hx=>h2.2.2.2 k o' hk (by omega)⟩
  ·exact .inr ⟨fun i o hi=>h1 i o (by omega),h2⟩
end Go.Dust
