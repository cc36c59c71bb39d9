/- The plain interpreter D and its laws (Dm Dn Dp Dq Dr Ds Dt Do Du Dv Dv2 Dv3 Ek Ea). -/
import Derived.Test.YtaoiejcaopgjcaaGreatC
import Derived.RangeFuncNested
import Derived.OrdersIn
import Derived.LoopNIn
import Derived.Carry
import Derived.WideKeyArgs
import Derived.ChangeSame
import Derived.OpenShut
import Derived.ChangeSlices
set_option linter.unusedVariables false
set_option linter.unusedSimpArgs false
namespace Go.Dust
variable {X:Env}
abbrev oI (call:gS):Prop:=∀ f args s,(call f args s).Lv fun p=>eC s p.2
theorem Zv (s:St) (it:Value) (b:Bool):(ID s it b).Lv fun p=>eC s p.2:=by
 have hpick:∀ r m since seen clock cands i,(∃ o,s.heap.get r=some o∧o.cX=false)→(EO s r m since seen clock cands i).Lv fun p=>eC s p.2:=by
  intro r m since seen clock cands i hb;unfold EO;split
  ·exact .put (fun _=>.inr ⟨rfl,rfl⟩) (.inr (.inl hb))
  ·exact .refl _
  ·trivial
 unfold ID
 (repeat' split) <;> first
  | trivial
  | exact .put (fun _=>.inr ⟨rfl,rfl⟩) (.inr (.inl ⟨_,by assumption,rfl⟩))
  | exact .refl _
  | exact hpick _ _ _ _ _ _ _ ⟨_,by assumption,rfl⟩
  | exact fun i _=>hpick _ _ _ _ _ _ _ ⟨_,by assumption,rfl⟩
theorem Zu (s:St) (fn:Func) (args:List Value):(xI s fn args).Lv fun p=>eC s p.2:=by
 unfold xI
 (repeat' split) <;> first
  | trivial
  | exact .new fun _=>.inr ⟨rfl,rfl⟩
theorem Zr {call:gS} {round:gW} (hc:oI call) (hr:oI round) (s:St) (f:Value) (args:List Value):(rI X call round s f args).Lv fun p=>eC s p.2:=by
 unfold rI
 (repeat' split) <;> first
  | trivial
  | exact hc _ _ _
  | exact hr _ _ _
theorem UU {α:Type} (why:String) (x:Option (α×St)) (s:St) (h:∀ v s',x=some (v,s')→eC s s'):(bN.ofOption why x).Lv fun p=>eC s p.2:=by
 cases x with
 | none=>trivial
 | some p=>exact h p.1 p.2 rfl
theorem gm {call:gS} {round:gW} (hc:oI call) (hr:oI round) (s:St) (ρ:Operand→Value) (op:Op):(gI X call round s ρ op).Lv fun p=>eC s p.2:=by
 unfold gI;split
 ·split
  ·split
   ·rename_i h;exact .storeT h
   ·trivial
  ·trivial
 ·split
  ·rename_i h;exact .mJ h
  ·trivial
 ·split
  ·rename_i h;exact .mJ h
  ·trivial
 ·(repeat' split) <;> first | trivial | exact .new fun _=>.inr ⟨rfl,rfl⟩
 ·exact Zv _ _ _
 ·split
  ·exact Zr hc hr _ _ _
  ·(repeat' split) <;> first | trivial | exact hc _ _ _
  ·exact UU _ _ _ fun _ _ h=>.append h
  ·exact UU _ _ _ fun _ _ h=>.copy h
  ·exact UU _ _ _ fun _ _ h=>.clear h
  ·exact UU _ _ _ fun _ _ h=>.delete h
  ·trivial
 ·trivial
theorem xb {nm:Nat} {ρ:Operand→Value} {op:Op} {v:Value} {f:Nat→bW} (h:iJ X nm ρ op=some (v,f)):TH f:=by
 unfold iJ at h
 (repeat' split at h) <;> first
  | (cases h;done)
  | (simp only[Option.some.injEq,Prod.mk.injEq] at h;obtain⟨_,rfl⟩:=h;exact fun _=>.inr ⟨rfl,rfl⟩)
theorem Zt {call:gS} {round:gW} (hc:oI call) (hr:oI round) (s:St) (ρ:Operand→Value) (op:Op):(nK X call round s ρ op).Lv fun p=>eC s p.2:=by
 unfold nK;split
 ·split
  ·exact .refl _
  ·trivial
 ·split
  ·rename_i h;exact .new (xb h)
  ·trivial
 ·exact gm hc hr _ _ _
theorem gq {call:gS} {round:gW} (hc:oI call) (hr:oI round) {ops:Array Oper}:∀ (rest:List Oper) (a:aK) (s:St),(iM X call round ops rest a s).Lv fun p=>eC s p.2
 | [],a,s=>.refl s
 | o::rest,a,s=>by
  unfold iM;split
  ·rw[bN.wZ];exact(Zt hc hr s a.eval o.op).mono fun p hp=>(gq hc hr rest _ p.2).mono fun q hq=>hp.trans hq
  ·exact gq hc hr rest _ s
theorem Ay {call:gS} {round:gW} (hc:oI call) (hr:oI round) {nm base:Nat} {s s':St} {ρ:Operand→Value} {op:Op} {v:Value} (hnm:base≤nm) (hbn:base≤s.next) (h:nL X call round nm s ρ op=some (v,s')):oH base s s':=by
 unfold nL at h;split at h
 ·split at h
  ·simp only[Option.some.injEq,Prod.mk.injEq] at h;obtain⟨_,rfl⟩:=h;exact .refl _ _
  ·cases h
 ·split at h
  ·rename_i ha;simp only[Option.some.injEq,Prod.mk.injEq] at h;obtain⟨_,rfl⟩:=h;exact .put (xb ha) (.inr (.inr hnm))
  ·cases h
 ·split at h
  ·rename_i hx;simp only[Option.some.injEq] at h;subst h;have:=gm (X:=X) hc hr s ρ op;rw[hx] at this;exact oH.low this hbn
  ·cases h
theorem gp {call:gS} {round:gW} (hc:oI call) (hr:oI round) {ops:Array Oper} {base:Nat}:∀ (rest:List Oper) (i:Nat) (a:aK) (s:St) (a':aK) (s':St) (l:List oX),
  base≤s.next→gJ X call round ops base rest i a s=some (a',s',l)→oH base s s'
 | [],i,a,s,a',s',l,_,h=>by
  simp only[gJ,Option.some.injEq,Prod.mk.injEq] at h;obtain⟨_,rfl,_⟩:=h;exact .refl _ _
 | o::rest,i,a,s,a',s',l,hb,h=>by
  unfold gJ at h;split at h
  ·split at h
   ·rename_i v s1 hx;split at h
    ·rename_i a2 s2 l2 hl;simp only[Option.some.injEq,Prod.mk.injEq] at h;obtain⟨_,rfl,_⟩:=h;have h1:=Ay (base:=base) hc hr (by omega) hb hx;exact h1.trans (gp hc hr rest _ _ _ _ _ _ (Nat.le_trans hb h1.next) hl)
    ·cases h
   ·cases h
  ·split at h
   ·rename_i a2 s2 l2 hl;simp only[Option.some.injEq,Prod.mk.injEq] at h;obtain⟨_,rfl,_⟩:=h;exact gp hc hr rest _ _ _ _ _ _ hb hl
   ·cases h
theorem eC.Nh (s:St) (k:Nat):eC s {heap:=s.heap,next:=s.next+2*k,aR:=s.aR} :=
 ⟨Nat.le_refl _,Nat.le_add_right _ _,fun _ _ h _ _=>h,fun h=>h,fun _ o h hd=>.inl ⟨o,h,hd,fun h=>h⟩⟩
theorem Zs {call:gS} {round:gW} (hc:oI call) (hr:oI round) {ops:Array Oper} (a:aK) (s:St):(zK X call round ops a s).Lv fun p=>eC s p.2:=by
 unfold zK;split
 ·trivial
 ·split
  ·rename_i h;split
   ·exact oH.trans (eC.Nh s ops.size) (gp hc hr _ _ _ _ _ _ _ (Nat.le_add_right _ _) h)
   ·trivial
  ·trivial
variable {P:Program} {ι ι':aQ} {s s':St} {w w':World}
def dU.to:dU→Exit
 | .normal=>.normal
 | .exit i=>.exit i
 | .ret=>.ret
def FX (ι:aQ):Option Nat→Option Nat→Prop
 | none,none=>True
 | some l,some b=>∃ loc,ι l=some loc∧loc.aT=b
 | _,_=>False
theorem FX.mono {r r':Option Nat} (h:FX ι r r') (hle:ι.le ι'):FX ι' r r':=by
 cases r <;> cases r' <;> simp only[FX] at h ⊢
 obtain⟨loc,h1,h2⟩:=h;exact⟨loc,hle _ _ h1,h2⟩
theorem jM.Ku {X:Env} {l:Loc} {x:Option (List Deferred)} (hw:w.heap[l.aT]?=some (.deferred x)):∀ {o:bW},o.cX=false→jM X ι w l o→False
 | .cells ..,_,h=>by obtain⟨_,_,_,h1,_⟩:=h;rw[hw] at h1;cases h1
 | .map ..,_,h=>by obtain⟨_,_,_,_,h1,_⟩:=h;rw[hw] at h1;cases h1
 | .hY none ..,_,h=>by obtain⟨_,_,_,_,_,_,h1⟩:=h;rw[hw] at h1;cases h1
 | .hY (some _) ..,_,h=>by obtain⟨_,_,_,_,_,h1⟩:=h;rw[hw] at h1;cases h1
 | .sW ..,_,h=>by have h1:=h.2.2.2;rw[hw] at h1;cases h1
 | .loop ..,_,h=>by obtain⟨_,_,_,_,_,_,_,h1,_⟩:=h;rw[hw] at h1;cases h1
 | .dead,h,_=>by cases h
theorem jM.lt {X:Env} {l:Loc}:∀ {o:bW},o.cX=false→jM X ι w l o→l.aT<w.heap.size
 | .cells ..,_,h=>by obtain⟨_,_,_,h1,_⟩:=h;exact jJ h1
 | .map ..,_,h=>by obtain⟨_,_,_,_,h1,_⟩:=h;exact jJ h1
 | .hY none ..,_,h=>by obtain⟨_,_,_,_,_,_,h1⟩:=h;exact jJ h1
 | .hY (some _) ..,_,h=>by obtain⟨_,_,_,_,_,h1⟩:=h;exact jJ h1
 | .sW ..,_,h=>jJ h.2.2.2
 | .loop ..,_,h=>by obtain⟨_,_,_,_,_,_,_,h1,_⟩:=h;exact jJ h1
 | .dead,h,_=>by cases h
theorem aC1 {X:Env} {H:bL} {n:Nat} (hR:R X ι H n w) {D:Nat} {x:Option (List Deferred)} (hw:w.heap[D]?=some (.deferred x)):¬ Own ι H D:=by
 rintro⟨b,o,l,h1,h2,h3,h4,rfl⟩;obtain⟨l',h5,h6⟩:=hR.obj b o h1 h2;rw[h3] at h5;cases h5;exact h6.Ku hw h2
theorem R.raw {X:Env} {H:bL} {n:Nat} (hR:R X ι H n w) (x:Obj):R X ι H n (w.alloc x):=by
 refine⟨hR.even,hR.kT,hR.fresh,fun b l hb hr=>by have:=hR.tR b l hb hr;simp;omega,fun b o hb hd=>?_,hR.inj⟩;obtain⟨l,h1,h2⟩:=hR.obj b o hb hd;exact⟨l,h1,h2.mono (aQ.le_refl _) (heap_alloc_old (h2.lt hd))⟩
theorem Ext.raw {H:bL} {n:Nat} (x:Obj):Ext ι H n w ι H n (w.alloc x) :=
 ⟨aQ.le_refl _,fun _ h _=>h,Nat.le_refl _,rfl,rfl,rfl,by simp,fun c hc _=>heap_alloc_old hc,fun _ h=>.inl h,Nat.le_refl _⟩
theorem R.shut {X:Env} {H:bL} {n:Nat} (hR:R X ι H n w) {D:Nat} {x:Option (List Deferred)} (hw:w.heap[D]?=some (.deferred x)) (y:Obj):R X ι H n (World.gO w D y):=by
 refine⟨hR.even,hR.kT,hR.fresh,fun b l hb hr=>by have:=hR.tR b l hb hr;simpa using this,fun b o hb hd=>?_,hR.inj⟩;obtain⟨l,h1,h2⟩:=hR.obj b o hb hd;refine⟨l,h1,h2.mono (aQ.le_refl _) (GZ fun e=>?_)⟩;subst e;exact h2.Ku hw hd
theorem Ext.aDc {H H':bL} {n n':Nat} (h:Ext ι H n w ι' H' n' w') {D:Nat} (hD:w.heap.size≤D) (y:Obj):Ext ι H n w ι' H' n' (World.gO w' D y) :=
 ⟨h.le,h.new,h.AP,h.os,h.tape,h.output,by simpa using h.size,fun c hc ho=>(GZ (by omega)).trans (h.aD c hc ho),h.own,h.drawn⟩
def DL (lo:Nat) (ι:aQ) (H:bL) (w:World) (ds:List Deferred):Prop :=
 DR ι H w ds∧∀ d∈ds,∀ D,d.target=.collected D→lo≤D
theorem DL.ext {lo:Nat} {H H':bL} {n n':Nat} {ds:List Deferred} (h:DL lo ι H w ds) (he:Ext ι H n w ι' H' n' w'):DL lo ι' H' w' ds:=⟨h.1.ext he,h.2⟩
theorem DL.nil (lo:Nat) (H:bL):DL lo ι H w []:=⟨.nil H,by simp⟩
theorem Ic {fn:Func} {tmps:Array Value} {m lo:Nat} {Rr:Ending→World→Prop} {w0:World} {ι0:aQ} {s0:St}:∀ (ds:List Deferred) (w:World),RS P ι s w→ES ι0 s0 w0 ι s w→w0.heap.size≤lo→DL lo ι s.look w ds →
  (∀ w',RS P ι s w'→ES ι0 s0 w0 ι s w'→LeavesIn (FW none) m P fn tmps Rr [] .returning w')→LeavesInM (FW none) m P fn tmps Rr ds .returning w
 | [],w,hR,hE,_,_,h=>h w hR hE
 | d::ds,w,hR,hE,hlo,hD,h=>by
  obtain⟨D,rfl,h2,h3⟩:=hD.1.mark d (by simp);have hloD:=hD.2 _ (List.mem_cons_self ..) D rfl;refine⟨by simp,.inl ⟨D,World.gO w D (.deferred none),rfl,run_takeDeferred h2,?_⟩⟩;refine Ic ds _ (hR.shut h2 _) (hE.aDc (Nat.le_trans hlo hloD) _) hlo ⟨⟨fun e he=>?_,(List.pairwise_cons.1 hD.1.apart).2⟩,fun e he=>hD.2 e (List.mem_cons_of_mem _ he)⟩ h;obtain⟨E,rfl,k2,k3⟩:=hD.1.mark e (List.mem_cons_of_mem _ he);have hne:E≠D:=fun x=>(List.pairwise_cons.1 hD.1.apart).1 _ he D rfl (by rw[x]);exact⟨E,rfl,(GZ hne).trans k2,k3⟩
theorem sj {fn:Func} {a:aK} {act:Act} (ha:AR ι a act) (hR:RS P ι s w):∀ (rs:List ResultVar) (l:List Value),RM a.nt rs=true→results1 (env P) s.look a rs=some l →
  ∃ us,((rs.mapM fun
   | .tmp t=>pure (act.tmps.getD t undef)
   | .cell x t=>do loadVar t (← asAddr (act.tmps.getD x undef)):Sem (List Value))).run P w=.ok us w∧bT ι l us
 | [],l,_,h=>by
  simp only[results1,Option.some.injEq] at h;subst h;exact⟨[],rfl,.nil⟩
 | .tmp t::rest,l,hok,h=>by
  simp only[RM,List.all_cons,Bool.and_eq_true,decide_eq_true_eq] at hok;simp only[results1] at h;split at h
  ·rename_i l' hl';cases h;obtain⟨us,h1,h2⟩:=sj (fn:=fn) ha hR rest l' hok.2 hl';refine⟨_::us,?_,.cons (ha.val t hok.1) h2⟩;simp only[List.mapM_cons,Sem.run_bind,Sem.run_pure,Result.andThen_ok]
   erw [h1]
   rfl
  ·cases h
 | .cell t ty::rest,l,hok,h=>by
  simp only[RM,List.all_cons,Bool.and_eq_true,decide_eq_true_eq] at hok;simp only[results1] at h;split at h
  ·rename_i ad had;have hv:=ha.val t hok.1;rw[had] at hv;split at h
   ·rename_i v l' hv' hl';cases h;obtain⟨us,h1,h2⟩:=sj (fn:=fn) ha hR rest l' hok.2 hl';generalize hu:act.tmps.getD t undef=u at hv;cases hv with
    | ptr hb =>
    obtain⟨x,g1,g2⟩:=Iv hR hb hv';refine⟨x::us,?_,.cons g2 h2⟩;simp only[List.mapM_cons,Sem.run_bind,hu,asAddr,Sem.run_pure,Result.andThen_ok,g1]
    erw [h1]
    rfl
   ·cases h
  ·cases h
theorem aEz {fn:Func} {a:aK} {act:Act} (ha:AR ι a act) (hR:RS P ι s w) (hok:RM a.nt fn.results.toList=true) {v:Value} (h:IQ (env P) s.look fn a=some v) :
  ∃ u,(results fn act.tmps).run P w=.ok u w∧VR ι v u:=by
 unfold IQ at h;have key:∀ l,results1 (env P) s.look a fn.results.toList=some l→∃ us,(results fn act.tmps).run P w=.ok (if h:us.toArray.size=1 then us.toArray[0] else .tuple us.toArray) w∧bT ι l us:=by
  intro l hl;obtain⟨us,h1,h2⟩:=sj (fn:=fn) ha hR _ l hok hl;refine⟨us,?_,h2⟩;unfold results;rw[Array.mapM_eq_mapM_toList];simp only[map_eq_pure_bind,Sem.run_bind]
  erw [h1]
  rfl
 split at h
 ·rename_i v0 hv;cases h;obtain⟨us,h1,h2⟩:=key _ hv;cases h2 with | cons h2 h3=>cases h3;exact⟨_,h1,h2⟩
 ·rename_i l hne hl;cases h;obtain⟨us,h1,h2⟩:=key _ hl;have hlen:us.toArray.size≠1:=by
   intro e;have:l.length=1:=by rw[h2.length];simpa using e
   match l,this with
   | [x],_=>exact hne x rfl
  rw[dif_neg hlen] at h1;exact⟨_,h1,.tuple (by simpa using h2.length) (fun i x y hx hy=>h2.get i (by simpa using hx) (by simpa using hy))⟩
 ·cases h
variable {X:Env} {H H':bL}
def tC (H H':bL) (b:Nat):Prop:=∀ o,H b=some o→o.cX=false→H' b=some o
theorem aB5 {a:Addr} {k:Nat} {l:List Value} (hr:tC H H' a.block) (h:bI H a k=some l):bI H' a k=some l:=by
 unfold bI at h ⊢;split at h
 ·rename_i hs hb;rw[hs,hr _ hb rfl];exact h
 ·cases h
theorem aB2 {a:Addr} {v:Value} (hr:tC H H' a.block) (h:aG H a=some v):aG H' a=some v:=by
 unfold aG at h ⊢;split at h
 ·rename_i hs hb;rw[hs,hr _ hb rfl];exact h
 ·cases h
theorem aB6 {t:TypeId} {a:Addr} {v:Value} (hr:tC H H' a.block) (h:loadT X H t a=some v):loadT X H' t a=some v:=by
 unfold loadT at h ⊢;cases ht:X.ty t with
 | none=>rw[ht] at h;cases h
 | some i =>
  rw[ht] at h;simp only at h ⊢;split
  ·rename_i e;rw[if_pos e] at h;split at h
   ·rename_i l hl;rw[aB5 hr hl];exact h
   ·cases h
  ·rename_i e;rw[if_neg e] at h;exact aB2 hr h
theorem qj {r:Nat} {x:List MapEntry×Nat} (hr:tC H H' r) (h:mapOf H r=some x):mapOf H' r=some x:=by
 unfold mapOf at h ⊢;split at h
 ·rename_i hb;rw[hr _ hb rfl];exact h
 ·cases h
theorem Gs {b:Nat} (hr:tC H H' b) (h:isCells H b=true):isCells H' b=true:=by
 unfold isCells at h ⊢;split at h
 ·rename_i hb;rw[hr _ hb rfl]
 ·cases h
theorem aBc {t:TypeId} {x k v:Value} {ok:Bool} (hr:∀ b∈nameOf x,tC H H' b) (h:wF X H t x k ok=some v):wF X H' t x k ok=some v:=by
 unfold wF at h ⊢;split at h
 ·split at h
  ·split at h
   ·rename_i hk;rw[if_pos hk];split at h
    ·exact h
    ·rename_i r;split at h
     ·rename_i hm;rw[qj (hr r (by simp[nameOf])) hm];exact h
     ·cases h
    ·cases h
   ·cases h
  ·cases h
 ·cases h
theorem aAv {t:TypeId} {x v:Value} (hr:∀ b∈nameOf x,tC H H' b) (h:mH X H t x=some v):mH X H' t x=some v:=by
 unfold mH at h ⊢;split at h
 ·split at h
  ·exact h
  ·exact h
  ·exact h
  ·exact h
  ·split at h
   ·rename_i hm;rw[qj (hr _ (by simp[nameOf])) hm];exact h
   ·cases h
  ·cases h
 ·cases h
theorem Zh {it v:Value} (hr:∀ b∈nameOf it,tC H H' b) (hr2:∀ (a:Addr) m p q c w,it=.pointer (some a)→H a.block=some (.hY (some m) p q c w)→tC H H' m) (h:vK H it=some v):vK H' it=some v:=by
 unfold vK at h ⊢;split at h
 ·rename_i a;split at h
  ·rename_i hc;rw[if_pos hc];split at h
   ·rename_i m p last rest stepped bB hb;rw[hr a.block (by simp[nameOf]) _ hb rfl];simp only;split at h
    ·rename_i hm;rw[qj (hr2 a _ _ _ _ _ rfl hb) hm];exact h
    ·cases h
   ·cases h
  ·cases h
 ·cases h
theorem An:∀ (d:Nat) (t:TypeId) (x y:Value),MO x=true→jF X H d t x y=jF X H' d t x y
 | 0,_,_,_,_=>rfl
 | d+1,t,x,y,hx=>by
  have ih:(fun t x y=>if MO x then jF X H d t x y else none)=(fun t x y=>if MO x then jF X H' d t x y else none):=by
   funext t x y;split
   ·exact An d t x y ‹_›
   ·rfl
  unfold jF;rw[ih];cases X.ty t with
  | none=>rfl
  | some i =>
   simp only;generalize i.desc=D;cases x <;> first | (cases hx;done) | (split <;> first | rfl | contradiction | simp_all)
theorem Am (d:Nat) (t:TypeId) (x y:Value) {r:Bool} (hr:∀ b∈nameOf x++nameOf y,tC H H' b) (h:jF X H d t x y=some r):jF X H' d t x y=some r:=by
 cases d with
 | zero=>exact h
 | succ d =>
  have ih:(fun t x y=>if MO x then jF X H d t x y else none)=(fun t x y=>if MO x then jF X H' d t x y else none):=by
   funext t x y;split
   ·exact An d t x y ‹_›
   ·rfl
  unfold jF at h ⊢;rw[ih] at h;cases ht:X.ty t with
  | none=>rw[ht] at h;cases h
  | some i =>
   rw[ht] at h;simp only at h ⊢;split at h
   case h_6 e a b hd =>
    split at h
    ·cases h
    ·rename_i ei he;split at h
     ·cases h
     ·rename_i hz;split at h
      ·rename_i hs1 hs2;rw[if_neg hz];split at h
       ·rename_i hb;rw[if_pos hb];exact h
       ·rename_i hb;rw[if_neg hb];split at h
        ·rename_i hcc;simp only[Bool.and_eq_true] at hcc;rw[Gs (hr _ (by simp[nameOf])) hcc.1,Gs (hr _ (by simp[nameOf])) hcc.2];exact h
        ·cases h
      ·cases h
   all_goals first | exact h | (simp_all;done)
theorem aGi {t:TypeId} {x v:Value} {lo hi mx:Option Value} (hr:∀ b∈nameOf x,tC H H' b) (h:mM X H t x lo hi mx=some v):mM X H' t x lo hi mx=some v:=by
 unfold mM at h ⊢;split at h
 ·cases h
 ·split at h
  ·rename_i i lo' hi' h1 h2 h3;split at h
   ·exact h
   ·exact h
   ·rename_i e a len cap hd;have hk:=hr a.block (by simp[nameOf]);split at h
    ·split at h
     ·rename_i hb1 hb2 hb3;rw[hb1,hb2,hk _ hb3 rfl];exact h
     ·cases h
    ·cases h
   ·rename_i n e a hd;have hk:=hr a.block (by simp[nameOf]);split at h
    ·split at h
     ·rename_i hb1 hb2 hb3;rw[hb1,hb2,hk _ hb3 rfl];exact h
     ·cases h
    ·cases h
   ·cases h
  ·cases h
theorem Wl {op:BinOp} {t:TypeId} {x y v:Value} (hr:(op=.eql∨op=.neq)→∀ b∈nameOf x++nameOf y,tC H H' b) (h:binop X H op t x y=some v):binop X H' op t x y=some v:=by
 unfold binop at h ⊢;split at h
 ·exact h
 ·exact h
 ·split at h
  ·split at h
   ·rename_i he;rw[Am _ _ _ _ (hr (.inl rfl)) he];exact h
   ·cases h
  ·split at h
   ·rename_i he;rw[Am _ _ _ _ (hr (.inr rfl)) he];exact h
   ·cases h
  ·cases h
theorem still_mono {ρ:Operand→Value} {op:Op} {v:Value} (hr:MF op=true→∀ b∈gU ρ H op,tC H H' b) (h:iO X H ρ op=some v):iO X H' ρ op=some v:=by
 cases op
 case load t a =>
  have hr:=hr rfl;simp only[iO,gU] at h ⊢ hr;split at h
  ·rename_i ad ha;rw[ha] at hr;exact aB6 (hr _ (by simp[nameOf])) h
  ·cases h
 case binOp op t x y yt =>
  simp only[iO] at h ⊢;split at h
  ·cases h
  ·rename_i hn;rw[if_neg hn];refine Wl ?_ h;rintro(rfl | rfl) <;> exact hr rfl
 case slice t x lo hi mx=>exact aGi (hr rfl) h
 case lookup t x k ok=>exact aBc (hr rfl) h
 case entry it =>
  have hr:=hr rfl;simp only[iO,gU] at h ⊢ hr;refine Zh (fun b hb=>hr b (List.mem_append_left _ hb)) ?_ h;intro a m p q c w kQ hb;refine hr m (List.mem_append_right _ ?_);rw[kQ];simp only;rw[hb];simp
 case call c =>
  simp only[iO] at h ⊢;cases hc:c.callee with
  | builtin b =>
   rw[hc] at h;cases b <;> simp only at h ⊢ <;> first | exact h | skip
   split at h
   ·rename_i t x ht hx;refine aAv ?_ h;have hr:=hr (by simp[MF,hc]);simp only[gU,hx] at hr;exact hr
   ·cases h
  | value f=>rw[hc] at h;cases h
  | invoke x n=>rw[hc] at h;cases h
 all_goals exact h
def CM (acc:Array Nat) (o:Oper):Nat:=o.after.foldl (fun s e=>if Region.binds .any e then s ||| 2 ^ e.on ||| acc.getD e.on 0 else s) 0
theorem yu (acc:Array Nat) (i:Nat):∀ (l:List Edge) (s:Nat),(l.foldl (fun s e=>if Region.binds .any e then s ||| 2 ^ e.on ||| acc.getD e.on 0 else s) s).testBit i=true →
  s.testBit i=true∨∃ e∈l,Region.binds .any e=true∧(e.on=i∨(acc.getD e.on 0).testBit i=true)
 | [],s,h=>.inl h
 | e::l,s,h=>by
  rw[List.foldl_cons] at h;rcases yu acc i l _ h with h1 | ⟨e',h1,h2⟩
  ·split at h1
   ·rename_i hb;simp only[Nat.testBit_or,Bool.or_eq_true] at h1;rcases h1 with (h1 | h1) | h1
    ·exact .inl h1
    ·refine .inr ⟨e,by simp,hb,.inl ?_⟩;rw[Nat.testBit_two_pow] at h1;simpa using h1
    ·exact .inr ⟨e,by simp,hb,.inr h1⟩
   ·exact .inl h1
  ·exact .inr ⟨e',List.mem_cons_of_mem _ h1,h2⟩
theorem Wn {acc:Array Nat} {o:Oper} {i:Nat} (h:(CM acc o).testBit i=true):∃ e∈o.after,Region.binds .any e=true∧(e.on=i∨(acc.getD e.on 0).testBit i=true):=by
 unfold CM at h;rw[← Array.foldl_toList] at h;rcases yu acc i _ _ h with h1 | ⟨e,h1,h2⟩
 ·simp at h1
 ·exact⟨e,by simpa using h1,h2⟩
theorem yb:∀ (l:List Oper) (acc:Array Nat),(∀ i,i<acc.size→(l.foldl (fun acc o=>acc.push (CM acc o)) acc).getD i 0=acc.getD i 0) ∧
  ∀ k o,l[k]?=some o→∃ acc':Array Nat,acc'.size=acc.size+k∧(∀ i,i<acc'.size→(l.foldl (fun acc o=>acc.push (CM acc o)) acc).getD i 0=acc'.getD i 0) ∧
   (l.foldl (fun acc o=>acc.push (CM acc o)) acc).getD (acc.size+k) 0=CM acc' o
 | [],acc=>⟨fun _ _=>rfl,fun k o h=>by simp at h⟩
 | o::l,acc=>by
  obtain⟨h1,h2⟩:=yb l (acc.push (CM acc o));have hget:∀ i,i<acc.size→(acc.push (CM acc o)).getD i 0=acc.getD i 0:=by
   intro i hi;simp only[Array.getD_eq_getD_getElem?,Array.getElem?_push,if_neg (Nat.ne_of_lt hi)]
  refine⟨fun i hi=>?_,fun k o' hk=>?_⟩
  ·rw[List.foldl_cons,h1 i (by simp;omega),hget i hi]
  ·cases k with
   | zero =>
    simp only[List.getElem?_cons_zero,Option.some.injEq] at hk;subst hk;refine⟨acc,rfl,fun i hi=>by rw[List.foldl_cons,h1 i (by simp;omega),hget i hi],?_⟩;rw[List.foldl_cons,Nat.add_zero,h1 acc.size (by simp)];simp
   | succ k =>
    obtain⟨acc',k1,k2,k3⟩:=h2 k o' (by simpa using hk);refine⟨acc',by rw[k1];simp;omega,fun i hi=>by rw[List.foldl_cons];exact k2 i hi,?_⟩;rw[List.foldl_cons,← k3];congr 1;simp;omega
abbrev yQ (ops:Array Oper) (j i:Nat):Prop:=((Region.before ops).getD j 0).testBit i=true
theorem yc {ops:Array Oper} {j i:Nat} {o:Oper} (ho:ops[j]?=some o) (h:yQ ops j i):∃ e∈o.after,Region.binds .any e=true∧(e.on=i∨(e.on<j∧yQ ops e.on i)):=by
 have hb:Region.before ops=ops.toList.foldl (fun acc o=>acc.push (CM acc o)) #[]:=by
  unfold Region.before;rw[← Array.foldl_toList];rfl
 obtain⟨acc',h1,h2,h3⟩:=(yb ops.toList #[]).2 j o (by simpa using ho);simp only[List.size_toArray,List.length_nil,Nat.zero_add] at h1 h3;unfold yQ at h;rw[hb,h3] at h;obtain⟨e,he,hbi,h⟩:=Wn h;refine⟨e,he,hbi,?_⟩;rcases h with h | h
 ·exact .inl h
 ·have cD:e.on<acc'.size:=by
   rcases Nat.lt_or_ge e.on acc'.size with h' | h'
   ·exact h'
   ·rw[Array.getD_eq_getD_getElem?,Array.getElem?_eq_none h'] at h;simp at h
  refine .inr ⟨by omega,?_⟩;unfold yQ;rw[hb,h2 _ cD];exact h
def Down (ops:Array Oper) (S:Nat→Prop):Prop:=∀ j o,S j→ops[j]?=some o→∀ e∈o.after,Region.binds .any e=true→S e.on
theorem Down.bit {ops:Array Oper} {S:Nat→Prop} (hd:Down ops S):∀ (j i:Nat),j<ops.size→S j→yQ ops j i→S i:=by
 intro j
 induction j using Nat.strongRecOn with
 | _ j ih =>
  intro i hj hs hb;have ho:ops[j]?=some ops[j]:=by simp[hj]
  obtain⟨e,he,hbi,h⟩:=yc ho hb;have hse:=hd j _ hs ho e he hbi;rcases h with rfl | ⟨h1,h2⟩
  ·exact hse
  ·exact ih e.on h1 i (by omega) hse h2
theorem Down.ready {ops:Array Oper} {S:Nat→Prop} (hd:Down ops S) {j i:Nat} {o:Oper} (ho:ops[j]?=some o) (hr:∀ e∈o.after,Region.binds .any e=true→S e.on) (hb:yQ ops j i):S i:=by
 obtain⟨e,he,hbi,h⟩:=yc ho hb;have hj:j<ops.size:=(Array.getElem?_eq_some_iff.1 ho).1;rcases h with rfl | ⟨h1,h2⟩
 ·exact hr e he hbi
 ·exact hd.bit e.on i (by omega) (hr e he hbi) h2
theorem ft {b:Array Nat} {j:Nat} {oj:Oper}:∀ (rest:List Oper) (i:Nat) (l:List (Nat×Nat)),OG b j oj rest i=some l→∀ k o,rest[k]?=some o→i+k<j →
  (b.getD j 0).testBit (i+k)=true∨∃ m,zI o oj (i+k) j=some m∧∀ p∈m,p∈l
 | [],i,l,_,k,o,hk,_=>by simp at hk
 | o0::rest,i,l,h,k,o,hk,cD=>by
  unfold OG at h;rw[if_pos (by omega)] at h;split at h
  ·rename_i hb;cases k with
   | zero=>exact .inl hb
   | succ k =>
    have:=ft rest (i+1) l h k o (by simpa using hk) (by omega);rw[show i+1+k=i+(k+1) from by omega] at this;exact this
  ·split at h
   ·rename_i l1 l2 h1 h2;cases h;cases k with
    | zero =>
     simp only[List.getElem?_cons_zero,Option.some.injEq] at hk;subst hk;exact .inr ⟨l1,h1,fun p hp=>List.mem_append_left _ hp⟩
    | succ k =>
     have:=ft rest (i+1) l2 h2 k o (by simpa using hk) (by omega);rw[show i+1+k=i+(k+1) from by omega] at this;rcases this with h3 | ⟨m,h3,h4⟩
     ·exact .inl h3
     ·exact .inr ⟨m,h3,fun p hp=>List.mem_append_right _ (h4 p hp)⟩
   ·cases h
theorem zv {b:Array Nat} {all:List Oper}:∀ (rest:List Oper) (j0:Nat) (l:List (Nat×Nat)),UQ b all rest j0=some l→∀ k oj,rest[k]?=some oj→∀ i oi,all[i]?=some oi→i<j0+k →
  (b.getD (j0+k) 0).testBit i=true∨∃ m,zI oi oj i (j0+k)=some m∧∀ p∈m,p∈l
 | [],_,_,_,k,oj,hk,_,_,_,_=>by simp at hk
 | o0::rest,j0,l,h,k,oj,hk,i,oi,hi,cD=>by
  unfold UQ at h;split at h
  ·rename_i l1 l2 h1 h2;cases h;cases k with
   | zero =>
    simp only[List.getElem?_cons_zero,Option.some.injEq] at hk;subst hk;have:=ft all 0 l1 h1 i oi hi (by omega);simp only[Nat.zero_add,Nat.add_zero] at this ⊢;rcases this with h3 | ⟨m,h3,h4⟩
    ·exact .inl h3
    ·exact .inr ⟨m,h3,fun p hp=>List.mem_append_left _ (h4 p hp)⟩
   | succ k =>
    have:=zv rest (j0+1) l2 h2 k oj (by simpa using hk) i oi hi (by omega);rw[show j0+1+k=j0+(k+1) from by omega] at this;rcases this with h3 | ⟨m,h3,h4⟩
    ·exact .inl h3
    ·exact .inr ⟨m,h3,fun p hp=>List.mem_append_right _ (h4 p hp)⟩
  ·cases h
theorem Xx {ops:Array Oper} {l:List (Nat×Nat)} (h:xD ops=some l) {i j:Nat} {oi oj:Oper} (hi:ops[i]?=some oi) (hj:ops[j]?=some oj) (cD:i<j) :
  yQ ops j i∨∃ m,zI oi oj i j=some m∧∀ p∈m,p∈l:=by
 have:=zv ops.toList 0 l h j oj (by simpa using hj) i oi (by simpa using hi) (by omega);rw[Nat.zero_add] at this;exact this
theorem Lw {ops:Array Oper} {b:Array Nat} {oj:Oper} {j:Nat}:∀ (rest:List Oper) (i:Nat),ZK ops b oj j rest i=true→∀ k o,rest[k]?=some o→i+k<j→ZI ops b o oj (i+k) j=true
 | [],i,_,k,o,hk,_=>by simp at hk
 | o0::rest,i,h,k,o,hk,cD=>by
  unfold ZK at h;rw[if_pos (by omega),Bool.and_eq_true] at h;cases k with
  | zero =>
   simp only[List.getElem?_cons_zero,Option.some.injEq] at hk;subst hk;exact h.1
  | succ k =>
   have:=Lw rest (i+1) h.2 k o (by simpa using hk) (by omega);rw[show i+1+k=i+(k+1) from by omega] at this;exact this
theorem Lx {ops:Array Oper} {b:Array Nat}:∀ (rest:List Oper) (j0:Nat),ZJ ops b rest j0=true→∀ k oj,rest[k]?=some oj→∀ i oi,ops[i]?=some oi→i<j0+k→ZI ops b oi oj i (j0+k)=true
 | [],_,_,k,oj,hk,_,_,_,_=>by simp at hk
 | o0::rest,j0,h,k,oj,hk,i,oi,hi,cD=>by
  unfold ZJ at h;rw[Bool.and_eq_true] at h;cases k with
  | zero =>
   simp only[List.getElem?_cons_zero,Option.some.injEq] at hk;subst hk;have:=Lw ops.toList 0 h.1 i oi (by simpa using hi) (by omega);simpa using this
  | succ k =>
   have:=Lx rest (j0+1) h.2 k oj (by simpa using hk) i oi hi (by omega);rw[show j0+1+k=j0+(k+1) from by omega] at this;exact this
theorem Lp:∀ (rest:List Oper) (j0:Nat),ZF rest j0=true→∀ k o,rest[k]?=some o→∀ e∈o.after,Region.binds .any e=true→e.on<j0+k
 | [],_,_,k,o,hk=>by simp at hk
 | o0::rest,j0,h,k,o,hk=>by
  unfold ZF at h;rw[Bool.and_eq_true] at h;cases k with
  | zero =>
   simp only[List.getElem?_cons_zero,Option.some.injEq] at hk;subst hk;intro e he hb;have h1:=h.1;unfold Lo at h1;rw[Bool.and_eq_true] at h1;have:=List.all_eq_true.1 h1.1 e (by simpa using he);rw[hb] at this;simpa using this
  | succ k =>
   have:=Lp rest (j0+1) h.2 k o (by simpa using hk);rw[show j0+1+k=j0+(k+1) from by omega] at this;exact this
theorem aCn {ops:Array Oper} (h:ML ops=true) {i j:Nat} {oi oj:Oper} (hi:ops[i]?=some oi) (hj:ops[j]?=some oj) (cD:i<j) :
  yQ ops j i∨((∀ d,oi.dst=some d→d∉tmpsOf ops oj)∧(∀ d,oj.dst=some d→d∉tmpsOf ops oi)):=by
 unfold ML at h;rw[Bool.and_eq_true] at h;have:=Lx ops.toList 0 h.1 j oj (by simpa using hj) i oi hi (by omega);rw[Nat.zero_add] at this;unfold ZI at this;rw[Bool.or_eq_true] at this;rcases this with h1 | h1
 ·exact .inl h1
 ·simp only[Bool.not_eq_true',Bool.or_eq_false_iff] at h1;refine .inr ⟨fun d hd=>?_,fun d hd=>?_⟩
  ·have:=h1.1;rw[hd] at this;simpa using this
  ·have:=h1.2;rw[hd] at this;simpa using this
theorem aCm {ops:Array Oper} (h:ML ops=true) {j:Nat} {o:Oper} (hj:ops[j]?=some o):∀ e∈o.after,Region.binds .any e=true→e.on<j:=by
 unfold ML at h;rw[Bool.and_eq_true] at h;have:=Lp ops.toList 0 h.2 j o (by simpa using hj);simpa using this
variable {P:Program} {call:gS} {round:gW} {ops:Array Oper} {nt base:Nat} {A:Nat→aK} {S:Nat→St} {V:Nat→Value}
abbrev NZ (ops:Array Oper) (A:Nat→aK) (i:Nat):Prop:=∃ o,ops[i]?=some o∧Region.wanted o (aO ops (A i))=true
abbrev yR (ops:Array Oper) (i:Nat) (k:Kind):Prop:=∃ o,ops[i]?=some o∧fB o.op=k
structure vG (P:Program) (call:gS) (round:gW) (ops:Array Oper) (nt base:Nat) (A:Nat→aK) (S:Nat→St) (V:Nat→Value):Prop where
 hc:wY P call
 hr:BJ P round
 lc:oI call
 lr:oI round
 Lz:ops.toList.all (rX nt)=true
 nt0:∀ i,i≤ops.size→(A i).nt=nt
 step:∀ i o,ops[i]?=some o→A (i+1)=(A i).put o.dst (V i) ∧
  ((Region.wanted o (aO ops (A i))=true∧nL (env P) call round (base+2*i) (S i) (A i).eval o.op=some (V i,S (i+1))) ∨
   (Region.wanted o (aO ops (A i))=false∧V i=undef∧S (i+1)=S i))
 rh:∀ i j oi oj,i<j→ops[i]?=some oi→ops[j]?=some oj→yQ ops j i∨((∀ d,oi.dst=some d→d∉tmpsOf ops oj)∧(∀ d,oj.dst=some d→d∉tmpsOf ops oi))
 Zd:∀ j o,ops[j]?=some o→∀ e∈o.after,Region.binds .any e=true→e.on<j
 xD:∀ i j oi oj,i<j→ops[i]?=some oi→ops[j]?=some oj→yQ ops j i∨∃ m,zI oi oj i j=some m ∧
  ∀ x e,(x,e)∈m→∀ ox,ops[x]?=some ox→Region.wanted ox (aO ops (A x))=true→NZ ops A e→∀ b∈gU (A x).eval (S x).look ox.op,fJ (S e) (S (e+1)) b=true
 top:∀ i,i≤ops.size→base+2*ops.size≤(S i).next
 kT:base%2=1
 low:∀ i,i<ops.size→∀ o,(S 0).heap.get (base+2*i)=some o→o.cX=true
namespace vG
variable (h:vG P call round ops nt base A S V)
include h
theorem lt {i:Nat} {o:Oper} (ho:ops[i]?=some o):i<ops.size:=by
 have _:=h;exact(Array.getElem?_eq_some_iff.1 ho).1
theorem oper {i:Nat} {o:Oper} (ho:ops[i]?=some o):rX nt o=true:=List.all_eq_true.1 h.Lz o (by simpa using Array.mem_of_getElem? ho)
theorem cases {i:Nat} {o:Oper} (ho:ops[i]?=some o) :
  (S (i+1)=S i) ∨
  (fB o.op=.alloc∧Region.wanted o (aO ops (A i))=true∧∃ f,iJ (env P) (base+2*i) (A i).eval o.op=some (V i,f)∧S (i+1)=(S i).put (base+2*i) f) ∨
  (fB o.op=.effect∧Region.wanted o (aO ops (A i))=true∧gI (env P) call round (S i) (A i).eval o.op=.ret (V i,S (i+1))∧eC (S i) (S (i+1))):=by
 rcases(h.step i o ho).2 with ⟨h1,h2⟩ | ⟨h1,h2,h3⟩
 ·unfold nL at h2;split at h2
  ·split at h2
   ·simp only[Option.some.injEq,Prod.mk.injEq] at h2;exact .inl h2.2.symm
   ·cases h2
  ·split at h2
   ·rename_i hk _ v f ha;simp only[Option.some.injEq,Prod.mk.injEq] at h2;obtain⟨rfl,h2⟩:=h2;exact .inr (.inl ⟨hk,h1,f,ha,h2.symm⟩)
   ·cases h2
  ·split at h2
   ·rename_i hk _ p hx;simp only[Option.some.injEq] at h2;subst h2;have:=gm (X:=env P) h.lc h.lr (S i) (A i).eval o.op;rw[hx] at this;exact .inr (.inr ⟨hk,h1,hx,this⟩)
   ·cases h2
 ·exact .inl h3
theorem still {i:Nat} {o:Oper} (ho:ops[i]?=some o) (hk:fB o.op=.still):S (i+1)=S i:=by
 rcases h.cases ho with h1 | ⟨h1,_⟩ | ⟨h1,_⟩
 ·exact h1
 ·rw[hk] at h1;cases h1
 ·rw[hk] at h1;cases h1
theorem Ni:∀ (k i:Nat),k≤i→i<ops.size→∀ o,(S k).heap.get (base+2*i)=some o→o.cX=true
 | 0,i,_,hi,o,ho=>h.low i hi o ho
 | k+1,i,hk,hi,o,ho=>by
  have hok:ops[k]?=some ops[k]:=by simp[show k<ops.size by omega]
  have ih:=Ni k i (by omega) hi;rcases h.cases hok with h1 | ⟨_,_,f,_,h1⟩ | ⟨_,_,_,h1⟩
  ·rw[h1] at ho;exact ih o ho
  ·rw[h1] at ho;simp only[St.put,PT.fH] at ho;rw[if_neg (by omega)] at ho;exact ih o ho
  ·cases hd:o.cX with
   | true=>rfl
   | false =>
    rcases h1.dE _ o ho hd with ⟨o0,h2,h3,_⟩ | ⟨h2,_⟩
    ·rw[ih o0 h2] at h3;cases h3
    ·have:=h.top k (by omega);omega
theorem QZ {k i:Nat} (hk:k≤i) (hi:i<ops.size) {o:bW} (ho:(S k).heap.get (base+2*i)=some o) (hd:o.cX=false):False:=by
 rw[h.Ni k i hk hi o ho] at hd;cases hd
theorem aBy {i:Nat} {o:Oper} (ho:ops[i]?=some o) (hk:fB o.op≠.effect):(S (i+1)).next=(S i).next:=by
 rcases h.cases ho with h1 | ⟨_,_,f,_,h1⟩ | ⟨h1,_⟩
 ·rw[h1]
 ·rw[h1];rfl
 ·exact absurd h1 hk
theorem same {e:Nat} {b:Nat} (hs:fJ (S e) (S (e+1)) b=true) {o:Oper} (ho:ops[e]?=some o) (hk:fB o.op=.effect) :
  ∃ q,(S e).heap.get b=some q∧(S (e+1)).heap.get b=some q∧q.cX=false:=by
 unfold fJ at hs;split at hs
 ·rename_i q q' h1 h2;simp only[Bool.and_eq_true,Bool.not_eq_true',beq_iff_eq,decide_eq_true_eq] at hs;obtain⟨⟨⟨k1,k2⟩,k3⟩,k4⟩:=hs;rcases h.cases ho with h3 | ⟨h3,_⟩ | ⟨_,_,_,h3⟩
  ·rw[h3] at h2;rw[h1] at h2;cases h2;exact⟨q,h1,by rw[h3];exact h1,k1⟩
  ·rw[hk] at h3;cases h3
  ·have:=h3.same b q' h2 k2 (by omega);rw[h1] at this;cases this;exact⟨q,h1,h2,k1⟩
 ·cases hs
theorem aFr {e b:Nat} (hs:fJ (S e) (S (e+1)) b=true):∃ q,(S e).heap.get b=some q∧q.cX=false:=by
 have _:=h;unfold fJ at hs;split at hs
 ·rename_i q q' h1 h2;simp only[Bool.and_eq_true,Bool.not_eq_true',beq_iff_eq,decide_eq_true_eq] at hs;exact⟨q,h1,hs.1.1.1⟩
 ·cases hs
end vG
def uF (ops:Array Oper) (a0:aK) (V:Nat→Value) (X:Nat→Prop) (t:Tmp) (v:Value):Prop :=
 (∃ i o,X i∧ops[i]?=some o∧o.dst=some t∧v=V i∧∀ k o',i<k→X k→ops[k]?=some o'→o'.dst≠some t) ∨
 ((∀ i o,X i→ops[i]?=some o→o.dst≠some t)∧v=a0.aB t)
theorem uF.uniq {a0:aK} {X Y:Nat→Prop} {t:Tmp} {v u:Value} (hv:uF ops a0 V X t v) (hu:uF ops a0 V Y t u) (hxy:∀ i o,ops[i]?=some o→o.dst=some t→(X i↔Y i)):v=u:=by
 rcases hv with ⟨i,o,h1,h2,h3,rfl,h5⟩ | ⟨h1,rfl⟩
 ·rcases hu with ⟨j,o',k1,k2,k3,rfl,k5⟩ | ⟨k1,rfl⟩
  ·rcases Nat.lt_trichotomy i j with cD | rfl | cD
   ·exact absurd k3 (h5 j o' cD ((hxy j o' k2 k3).2 k1) k2)
   ·rfl
   ·exact absurd h3 (k5 i o cD ((hxy i o h2 h3).1 h1) h2)
  ·exact absurd h3 (k1 i o ((hxy i o h2 h3).1 h1) h2)
 ·rcases hu with ⟨j,o',k1,k2,k3,rfl,k5⟩ | ⟨k1,rfl⟩
  ·exact absurd k3 (h1 j o' ((hxy j o' k2 k3).2 k1) k2)
  ·rfl
theorem v8 (a:aK) (d:Option Tmp) (v:Value) (t:Tmp):(a.put d v).aB t=if d=some t then v else a.aB t:=by
 cases d with
 | none=>simp[aK.put]
 | some d =>
  simp only[aK.put,aK.aB,PT.fH,Option.some.injEq];by_cases e:t=d
  ·subst e;simp
  ·rw[if_neg e,if_neg (Ne.symm e)]
theorem uF.add {a0 a:aK} {X:Nat→Prop} {i:Nat} {o:Oper} (ho:ops[i]?=some o) (hX:∀ k o',i<k→X k→ops[k]?=some o'→∀ d,o.dst=some d→o'.dst≠some d) {t:Tmp}
  (h:uF ops a0 V X t (a.aB t)):uF ops a0 V (fun k=>X k∨k=i) t ((a.put o.dst (V i)).aB t):=by
 rw[v8];by_cases e:o.dst=some t
 ·rw[if_pos e];refine .inl ⟨i,o,.inr rfl,ho,e,rfl,fun k o' hk hx ho'=>?_⟩;rcases hx with hx | rfl
  ·exact hX k o' hk hx ho' t e
  ·omega
 ·rw[if_neg e];rcases h with ⟨j,o',k1,k2,k3,k4,k5⟩ | ⟨k1,k2⟩
  ·refine .inl ⟨j,o',.inl k1,k2,k3,k4,fun k o'' hk hx ho'=>?_⟩;rcases hx with hx | rfl
   ·exact k5 k o'' hk hx ho'
   ·rw[ho] at ho';cases ho';exact e
  ·refine .inr ⟨fun j o' hx ho'=>?_,k2⟩;rcases hx with hx | rfl
   ·exact k1 j o' hx ho'
   ·rw[ho] at ho';cases ho';exact e
theorem vG.last (h:vG P call round ops nt base A S V) (t:Tmp):∀ j,j≤ops.size→uF ops (A 0) V (·<j) t ((A j).aB t)
 | 0,_=>.inr ⟨fun i o hi=>by omega,rfl⟩
 | j+1,hj=>by
  have ho:ops[j]?=some ops[j]:=by simp[show j<ops.size by omega]
  have:=uF.add (V:=V) ho (fun k o' hk hx=>by omega) (vG.last h t j (by omega));rw[(h.step j _ ho).1];rcases this with ⟨i,o,h1,h2⟩ | ⟨h1,h2⟩
  ·exact .inl ⟨i,o,by omega,h2.1,h2.2.1,h2.2.2.1,fun k o' hk hx=>h2.2.2.2 k o' hk (by omega)⟩
  ·exact .inr ⟨fun i o hi=>h1 i o (by omega),h2⟩
variable {P:Program} {call:gS} {round:gW} {ops:Array Oper} {nt base:Nat} {A:Nat→aK} {S:Nat→St} {V:Nat→Value}
variable {ι0:aQ} {s0:St} {w0:World} {ds:List Deferred}
structure Inv (P:Program) (ops:Array Oper) (nt base:Nat) (A:Nat→aK) (S:Nat→St) (V:Nat→Value) (ι0:aQ) (s0:St) (w0:World) (ds:List Deferred) (X:Nat→Prop) (act:Act) (w:World) (T:Nat) (ι:aQ) (HX:bL) (aX:aK):Prop where
 down:Down ops X
 top:T≤ops.size
 zL:∀ e,yR ops e .effect→(X e↔e<T)
 all:∀ i,i<T→yR ops i .alloc→X i
 tie:R (env P) ι HX (S T).next w
 sub:∀ b o,(S T).heap.get b=some o→o.cX=false→HX b=some o
 made:∀ i,X i→yR ops i .alloc→NZ ops A i→T≤i→∀ o,(S (i+1)).heap.get (base+2*i)=some o→o.cX=false→HX (base+2*i)=some o
 only:∀ b o,HX b=some o→o.cX=false→(∃ o',(S T).heap.get b=some o'∧o'.cX=false)∨∃ i,X i∧yR ops i .alloc∧NZ ops A i∧T≤i∧b=base+2*i
 free:∀ i,i<ops.size→¬ X i→ι (base+2*i)=none
 ext:Ext ι0 s0.look s0.next w0 ι HX (S T).next w
 tmps:AR ι aX act
 MH:aX.nt=nt
 last:∀ t,t<nt→uF ops (A 0) V X t (aX.aB t)
 defs:act.defers=ds
section
variable {X:Nat→Prop} {act:Act} {w:World} {T:Nat} {ι:aQ} {HX:bL} {aX:aK}
variable (h:vG P call round ops nt base A S V) (v:Inv P ops nt base A S V ι0 s0 w0 ds X act w T ι HX aX)
include h v
theorem Inv.aB {i:Nat} {o:Oper} (ho:ops[i]?=some o) (hX:¬ X i) (hr:∀ e∈o.after,Region.binds .any e=true→X e.on) {t:Tmp} (ht:t∈tmpsOf ops o) (htn:t<nt):(A i).aB t=aX.aB t:=by
 refine uF.uniq (h.last t i (Nat.le_of_lt (h.lt ho))) (v.last t htn) fun k ok hk hd=>?_;rcases Nat.lt_trichotomy k i with cD | rfl | cD
 ·refine⟨fun _=>?_,fun _=>cD⟩;rcases h.rh k i ok o cD hk ho with hb | ⟨h1,_⟩
  ·exact v.down.ready ho hr hb
  ·exact absurd ht (h1 t hd)
 ·exact⟨fun hh=>by omega,fun hx=>absurd hx hX⟩
 ·refine⟨fun hh=>by omega,fun hx=>?_⟩;rcases h.rh i k o ok cD ho hk with hb | ⟨_,h2⟩
  ·exact absurd (v.down.bit k i (h.lt hk) hx hb) hX
  ·exact absurd ht (h2 t hd)
theorem Inv.aH4 {i:Nat} {o:Oper} (ho:ops[i]?=some o) (hX:¬ X i) (hr:∀ e∈o.after,Region.binds .any e=true→X e.on):∀ x∈o.op.operands.toList,VR ι ((A i).eval x) (act.eval x):=by
 intro x hx;have hok:=h.oper ho;have hok1:IH nt x=true:=by
  unfold rX at hok;simp only[Bool.and_eq_true] at hok;exact List.all_eq_true.1 hok.1.1 x hx
 have h1:VR ι (aX.eval x) (act.eval x):=v.tmps.eval v.tie.even (by rw[v.MH];exact hok1);have h2:(A i).eval x=aX.eval x:=by
  cases x with
  | tmp t =>
   simp only[IH,decide_eq_true_eq] at hok1;refine v.aB h ho hX hr ?_ hok1;unfold tmpsOf;refine List.mem_append_left _ (List.mem_append_left _ (List.mem_filterMap.2 ⟨_,hx,rfl⟩))
  | _=>rfl
 rw[h2];exact h1
theorem Inv.want {i:Nat} {o:Oper} (ho:ops[i]?=some o) (hX:¬ X i) (hr:∀ e∈o.after,Region.binds .any e=true→X e.on):Region.wanted o (aO ops (A i))=Region.wanted o (yielded ops act.tmps):=by
 rw[← Tl v.tmps (by rw[v.MH];exact h.Lz) o];unfold Region.wanted;cases hg:o.guard with
 | none=>rfl
 | some g =>
  obtain⟨g,want⟩:=g;simp only;unfold aO;cases hog:ops[g]? with
  | none=>rfl
  | some og =>
   simp only[Option.bind_some];cases hd:og.dst with
   | none=>rfl
   | some d =>
    simp only;have hdn:d<nt:=RL (h.oper hog) d hd;rw[v.aB h ho hX hr (t:=d) ?_ hdn];unfold tmpsOf;refine List.mem_append_left _ (List.mem_append_right _ ?_);rw[hg];simp only;rw[hog];simp only[hd];simp
theorem Inv.after {i:Nat} {o:Oper} (ho:ops[i]?=some o) (hX:¬ X i) {ι':aQ} (hle:ι.le ι') {u:Value} (hv:VR ι' (V i) u) :
  AR ι' (aX.put o.dst (V i)) (act.put o.dst u)∧(aX.put o.dst (V i)).nt=nt∧(∀ t,t<nt→uF ops (A 0) V (fun k=>X k∨k=i) t ((aX.put o.dst (V i)).aB t))∧(act.put o.dst u).defers=ds:=by
 refine⟨(v.tmps.mono hle).put (fun x hx=>by rw[v.MH];exact RL (h.oper ho) x hx) hv,by simpa using v.MH,fun t ht=>?_,by simpa using v.defs⟩;refine uF.add ho (fun k o' hk hx ho' d hd hd'=>?_) (v.last t ht);rcases h.rh i k o o' hk ho ho' with hb | ⟨h1,_⟩
 ·exact hX (v.down.bit k i (h.lt ho') hx hb)
 ·refine h1 d hd ?_;unfold tmpsOf;refine List.mem_append_right _ ?_;rw[hd'];simp
theorem Inv.fu {i:Nat} {o:Oper} (ho:ops[i]?=some o) (hr:∀ e∈o.after,Region.binds .any e=true→X e.on):Down ops (fun k=>X k∨k=i):=by
 have _:=h;intro j oj hj hoj e he hb;rcases hj with hj | rfl
 ·exact .inl (v.down j oj hj hoj e he hb)
 ·rw[ho] at hoj;cases hoj;exact .inl (hr e he hb)
theorem Inv.plain {i:Nat} {o:Oper} (ho:ops[i]?=some o) (hX:¬ X i) (hr:∀ e∈o.after,Region.binds .any e=true→X e.on) (hk:fB o.op≠.effect) (hka:fB o.op=.alloc→¬ NZ ops A i) {u:Value} (hv:VR ι (V i) u) :
  Inv P ops nt base A S V ι0 s0 w0 ds (fun k=>X k∨k=i) (act.put o.dst u) w T ι HX (aX.put o.dst (V i)):=by
 obtain⟨h1,h2,h3,h4⟩:=v.after h ho hX (aQ.le_refl ι) hv;refine⟨v.fu h ho hr,v.top,?_,fun k hk1 hk2=>.inl (v.all k hk1 hk2),v.tie,v.sub,?_,?_,fun k hk1 hk2=>v.free k hk1 fun hx=>hk2 (.inl hx),v.ext,h1,h2,h3,h4⟩
 ·intro e he;constructor
  ·rintro(hx | rfl)
   ·exact(v.zL e he).1 hx
   ·obtain⟨o',ho',hk'⟩:=he;rw[ho] at ho';cases ho';exact absurd hk' hk
  ·intro cD;exact .inl ((v.zL e he).2 cD)
 ·intro k hx hk1 hk2 hk3 q hq hd;rcases hx with hx | rfl
  ·exact v.made k hx hk1 hk2 hk3 q hq hd
  ·obtain⟨o',ho',hk'⟩:=hk1;rw[ho] at ho';cases ho';exact absurd hk2 (hka hk')
 ·intro b q hq hd;rcases v.only b q hq hd with h5 | ⟨k,k1,k2⟩
  ·exact .inl h5
  ·exact .inr ⟨k,.inl k1,k2⟩
theorem Ext.alloc {H0:bL} {n0:Nat} {N:Nat} (hE:Ext ι0 H0 n0 w0 ι HX N w) {nm ex:Nat} (hfree:ι nm=none) (hnm:n0≤nm) (cD:nm<N) (x:Obj) (o':bW) :
  Ext ι0 H0 n0 w0 (ι.add nm ⟨w.heap.size,0,ex,false⟩) (fU HX nm o') N (w.alloc x):=by
 have _:=h;have _:=v;refine⟨aQ.le_trans hE.le (aQ.uQ hfree),?_,hE.AP,hE.os,hE.tape,hE.output,Nat.le_trans hE.size (by simp),fun c hc ho=>(heap_alloc_old (Nat.lt_of_lt_of_le hc hE.size)).trans (hE.aD c hc ho),?_,hE.drawn⟩
 ·intro b hb' hb2;unfold aQ.add;rw[if_neg (by omega)];exact hE.new b hb' hb2
 ·rintro c ⟨d,od,ld,h1,h2,h3,h4,h5⟩;unfold fU at h1;unfold aQ.add at h3;split at h1
  ·rename_i e;rw[if_pos e] at h3;cases h3;have:=hE.size;exact .inr (by simp only at h5;omega)
  ·rename_i e;rw[if_neg e] at h3;exact hE.own c ⟨d,od,ld,h1,h2,h3,h4,h5⟩
theorem Inv.alloc {i:Nat} {o:Oper} (ho:ops[i]?=some o) (hX:¬ X i) (hr:∀ e∈o.after,Region.binds .any e=true→X e.on) (hk:fB o.op=.alloc) (hb0:s0.next≤base) {f:Nat→bW} (hS:S (i+1)=(S i).put (base+2*i) f)
  {u:Value} {ex:Nat} {x:Obj} (hv:VR (ι.add (base+2*i) ⟨w.heap.size,0,ex,false⟩) (V i) u)
  (hox:∀ bB,(f bB).cX=false∧jM (env P) (ι.add (base+2*i) ⟨w.heap.size,0,ex,false⟩) (w.alloc x) ⟨w.heap.size,0,ex,false⟩ (f bB)) :
  Inv P ops nt base A S V ι0 s0 w0 ds (fun k=>X k∨k=i) (act.put o.dst u) (w.alloc x) T (ι.add (base+2*i) ⟨w.heap.size,0,ex,false⟩) (fU HX (base+2*i) (f (S i).aR)) (aX.put o.dst (V i)):=by
 have hi:=h.lt ho;have hfree:=v.free i hi hX;have hT:T≤i:=Nat.le_of_not_lt fun cD=>hX (v.all i cD ⟨o,ho,hk⟩);have htop:=h.top T v.top;have hodd:=h.kT;obtain⟨h1,h2,h3,h4⟩:=v.after h ho hX (aQ.uQ hfree) hv;have hget:(S (i+1)).heap.get (base+2*i)=some (f (S i).aR):=by rw[hS];simp[St.put,PT.fH]
 refine⟨v.fu h ho hr,v.top,?_,fun k hk1 hk2=>.inl (v.all k hk1 hk2),R.newAt v.tie (base+2*i) (S T).next hfree (by omega) (Nat.le_refl _) v.tie.kT (by omega) x (hox _).2,?_,?_,?_,?_,Ext.alloc h v v.ext hfree (by omega) (by omega) x _,h1,h2,h3,h4⟩
 ·intro e he;constructor
  ·rintro(hx | rfl)
   ·exact(v.zL e he).1 hx
   ·obtain⟨o',ho',hk'⟩:=he;rw[ho] at ho';cases ho';rw[hk] at hk';cases hk'
  ·intro cD;exact .inl ((v.zL e he).2 cD)
 ·intro b q hq hd;unfold fU;split
  ·rename_i e;subst e;exact(h.QZ hT hi hq hd).elim
  ·exact v.sub b q hq hd
 ·intro k hx hk1 hk2 hk3 q hq hd;unfold fU;by_cases e:k=i
  ·subst e;rw[if_pos rfl];rw[hget] at hq;exact hq
  ·rw[if_neg (by omega)];exact v.made k (hx.resolve_right e) hk1 hk2 hk3 q hq hd
 ·intro b q hq hd;unfold fU at hq;split at hq
  ·rename_i e;refine .inr ⟨i,.inr rfl,⟨o,ho,hk⟩,?_,hT,e⟩;rcases(h.step i o ho).2 with ⟨k1,_⟩ | ⟨_,_,k3⟩
   ·exact⟨o,ho,k1⟩
   ·rw[k3] at hget;exact(h.QZ (Nat.le_refl i) hi hget (hox _).1).elim
  ·rcases v.only b q hq hd with h5 | ⟨k,k1,k2⟩
   ·exact .inl h5
   ·exact .inr ⟨k,.inl k1,k2⟩
 ·intro k hk1 hk2;unfold aQ.add;rw[if_neg (fun e=>hk2 (.inr (by omega)))];exact v.free k hk1 fun hx=>hk2 (.inl hx)
theorem Inv.Sx {e:Nat} (he:e≤ops.size) (hT:T≤e) (hno:∀ k,T≤k→k<e→¬ yR ops k .effect) (hal:∀ k,T≤k→k<e→yR ops k .alloc→X k) :
  (∀ b o,(S e).heap.get b=some o→o.cX=false→HX b=some o)∧(S e).next=(S T).next:=by
 have key:∀ d,T+d≤e→(∀ b o,(S (T+d)).heap.get b=some o→o.cX=false→HX b=some o)∧(S (T+d)).next=(S T).next:=by
  intro d
  induction d with
  | zero=>exact fun _=>⟨v.sub,rfl⟩
  | succ d ih =>
   intro hd;obtain⟨i1,i2⟩:=ih (by omega);have hok:ops[T+d]?=some ops[T+d]:=by simp[show T+d<ops.size by omega]
   have hne:fB (ops[T+d]).op≠.effect:=fun hk=>hno (T+d) (by omega) (by omega) ⟨_,hok,hk⟩;refine⟨fun b o hb hdd=>?_,(h.aBy hok hne).trans i2⟩;rcases h.cases hok with h1 | ⟨hk,hw,f,_,h1⟩ | ⟨hk,_⟩
   ·rw[show T+(d+1)=T+d+1 from rfl,h1] at hb;exact i1 b o hb hdd
   ·by_cases eb:b=base+2*(T+d)
    ·subst eb;exact v.made (T+d) (hal _ (by omega) (by omega) ⟨_,hok,hk⟩) ⟨_,hok,hk⟩ ⟨_,hok,hw⟩ (by omega) o hb hdd
    ·rw[show T+(d+1)=T+d+1 from rfl,h1] at hb;simp only[St.put,PT.fH] at hb;rw[if_neg eb] at hb;exact i1 b o hb hdd
   ·exact absurd hk hne
 have:=key (e-T) (by omega);rw[show T+(e-T)=e from by omega] at this;exact this
end
variable {P:Program} {call:gS} {round:gW} {ops:Array Oper} {nt base:Nat} {A:Nat→aK} {S:Nat→St} {V:Nat→Value}
variable {ι0:aQ} {s0:St} {w0:World} {ds:List Deferred}
section
variable {X:Nat→Prop} {act:Act} {w:World} {T:Nat} {ι:aQ} {HX:bL} {aX:aK}
variable (h:vG P call round ops nt base A S V) (v:Inv P ops nt base A S V ι0 s0 w0 ds X act w T ι HX aX)
include h v
theorem Inv.ahead {e:Nat} {o:Oper} (ho:ops[e]?=some o) (hX:¬ X e) (hr:∀ x∈o.after,Region.binds .any x=true→X x.on) (hk:fB o.op=.effect) :
  T≤e∧(∀ k,T≤k→k<e→¬ yR ops k .effect)∧(∀ k,k<e→yR ops k .alloc→X k):=by
 have hT:T≤e:=Nat.le_of_not_lt fun cD=>hX ((v.zL e ⟨o,ho,hk⟩).2 cD);refine⟨hT,fun k h1 h2 hke=>?_,fun k h2 hka=>?_⟩
 ·obtain⟨ok,hok,hkk⟩:=hke;have hXk:X k:=by
   rcases h.xD k e ok o h2 hok ho with hb | ⟨m,hm,_⟩
   ·exact v.down.ready ho hr hb
   ·unfold zI at hm;rw[hkk,hk] at hm;cases hm
  have:=(v.zL k ⟨ok,hok,hkk⟩).1 hXk;omega
 ·obtain⟨ok,hok,hkk⟩:=hka;rcases h.xD k e ok o h2 hok ho with hb | ⟨m,hm,_⟩
  ·exact v.down.ready ho hr hb
  ·unfold zI at hm;rw[hkk,hk] at hm;cases hm
theorem Inv.here {e:Nat} {o:Oper} (ho:ops[e]?=some o) (hX:¬ X e) (hr:∀ x∈o.after,Region.binds .any x=true→X x.on) (hk:fB o.op=.effect) :
  (∀ b q,(S e).heap.get b=some q→q.cX=false→HX b=some q)∧(S e).next=(S T).next∧RS P ι (S e) w:=by
 obtain⟨h1,h2,h3⟩:=v.ahead h ho hX hr hk;obtain⟨h4,h5⟩:=v.Sx h (Nat.le_of_lt (h.lt ho)) h1 h2 (fun k _ cD=>h3 k cD);refine⟨h4,h5,?_⟩;unfold RS;rw[h5];exact v.tie.gx h4
theorem Inv.effect {e:Nat} {o:Oper} (ho:ops[e]?=some o) (hX:¬ X e) (hr:∀ x∈o.after,Region.binds .any x=true→X x.on) (hk:fB o.op=.effect)
  {ι':aQ} {w':World} {u:Value} (hv:VR ι' (V e) u) (hR:RS P ι' (S (e+1)) w') (hE:ES ι (S e) w ι' (S (e+1)) w') :
  ∃ H',Inv P ops nt base A S V ι0 s0 w0 ds (fun k=>X k∨k=e) (act.put o.dst u) w' (e+1) ι' H' (aX.put o.dst (V e)):=by
 obtain⟨a1,a2,a3⟩:=v.ahead h ho hX hr hk;obtain⟨sub,nx,hRe⟩:=v.here h ho hX hr hk;obtain⟨t1,t2,t3,t4⟩:=v.after h ho hX hE.le hv;have he:=h.lt ho;have hold:∀ b q,(S (e+1)).heap.get b=some q→q.cX=false→q.HV=true→∃ q0,(S e).heap.get b=some q0∧q0.cX=false:=by
  intro b q hq hd hro;rcases h.cases ho with h1 | ⟨h1,_⟩ | ⟨_,_,_,h1⟩
  ·rw[h1] at hq;exact⟨q,hq,hd⟩
  ·rw[hk] at h1;cases h1
  ·rcases h1.dE b q hq hd with ⟨q0,k1,k2,_⟩ | ⟨_,k2⟩
   ·exact⟨q0,k1,k2⟩
   ·rw[hro] at k2;cases k2
 let Ex:Nat→Prop:=fun b=>∃ i,e<i∧X i∧yR ops i .alloc∧NZ ops A i∧b=base+2*i
 have cD:∀ i,yR ops i .alloc→i<ops.size:=fun i ⟨oi,hoi,_⟩=>h.lt hoi;have exNone:∀ k b q,k≤e+1→Ex b→(S k).heap.get b=some q→q.cX=false→False:=by
  rintro k b q hk' ⟨i,k1,_,k3,_,rfl⟩ hq hd;exact h.QZ (by omega) (cD i k3) hq hd
 have exKeep:∀ b q l,Ex b→HX b=some q→q.cX=false→ι b=some l→l.aT<w.heap.size∧¬ Own ι (S e).look l.aT∧jM (env P) ι w l q∧l.ro=l.ro:=by
  rintro b q l hex hq hd hl;obtain⟨l',g1,g2⟩:=v.tie.obj b q hq hd;rw[hl] at g1;cases g1;refine⟨g2.lt hd,?_,g2,rfl⟩;rintro⟨b1,q1,l1,c1,c2,c3,c4,c5⟩;have:=v.tie.inj b1 b q1 q l1 l (sub b1 q1 c1 c2) c2 hq hd c3 hl c4 c5;subst this;exact exNone e b1 q1 (by omega) hex c1 c2
 obtain⟨H',hin,hout⟩:∃ H':bL,(∀ b,Ex b→H' b=HX b)∧(∀ b,¬ Ex b→H' b=(S (e+1)).heap.get b):=by
  classical
  exact⟨fun b=>if Ex b then HX b else(S (e+1)).heap.get b,fun b hb=>if_pos hb,fun b hb=>if_neg hb⟩
 have hH:∀ b q,H' b=some q→q.cX=false→(Ex b∧HX b=some q)∨(¬ Ex b∧(S (e+1)).heap.get b=some q):=by
  intro b q hq hd;by_cases hb:Ex b
  ·rw[hin b hb] at hq;exact .inl ⟨hb,hq⟩
  ·rw[hout b hb] at hq;exact .inr ⟨hb,hq⟩
 have exOwn:∀ b q l,Ex b→HX b=some q→q.cX=false→ι b=some l→¬ Own ι' (S (e+1)).look l.aT:=by
  intro b q l hex hq hd hl ho';obtain⟨g1,g2,_⟩:=exKeep b q l hex hq hd hl;rcases hE.own _ ho' with h1 | h1
  ·exact g2 h1
  ·omega
 refine⟨H',v.fu h ho hr,he,?_,?_,?_,?_,?_,?_,?_,?_,t1,t2,t3,t4⟩
 ·intro k hkk;have:=v.zL k hkk;constructor
  ·rintro(hx | rfl)
   ·have:=this.1 hx;omega
   ·omega
  ·intro hlt';rcases Nat.lt_or_ge k T with h1 | h1
   ·exact .inl (this.2 h1)
   ·rcases Nat.lt_or_ge k e with h2 | h2
    ·exact absurd hkk (a2 k h1 h2)
    ·exact .inr (by omega)
 ·intro k hlt' hka;rcases Nat.lt_or_ge k e with h2 | h2
  ·exact .inl (a3 k h2 hka)
  ·exact .inr (by omega)
 ·
  refine⟨hR.even,hR.kT,hR.fresh,hR.tR,fun b q hq hd=>?_,fun b b' q q' l l' hq hd hq' hd' hl hl' hro hblk=>?_⟩
  ·rcases hH b q hq hd with ⟨hex,hq⟩ | ⟨_,hq⟩
   ·obtain⟨l,g1,g2⟩:=v.tie.obj b q hq hd;obtain⟨k1,k2,_⟩:=exKeep b q l hex hq hd g1;exact⟨l,hE.le _ _ g1,g2.mono hE.le (hE.aD _ k1 k2)⟩
   ·exact hR.obj b q hq hd
  ·rcases hH b q hq hd with ⟨hex,hq⟩ | ⟨hex,hq⟩ <;> rcases hH b' q' hq' hd' with ⟨hex',hq'⟩ | ⟨hex',hq'⟩
   ·obtain⟨l1,g1,_⟩:=v.tie.obj b q hq hd;obtain⟨l1',g1',_⟩:=v.tie.obj b' q' hq' hd';have e1:=hE.le _ _ g1;have e1':=hE.le _ _ g1';rw[hl] at e1;cases e1;rw[hl'] at e1';cases e1';exact v.tie.inj b b' q q' l l' hq hd hq' hd' g1 g1' hro hblk
   ·exfalso;obtain⟨l1,g1,_⟩:=v.tie.obj b q hq hd;have e1:=hE.le _ _ g1;rw[hl] at e1;cases e1;cases hro':l'.ro with
    | false=>exact exOwn b q l hex hq hd g1 ⟨b',q',l',hq',hd',hl',hro',hblk.symm⟩
    | true =>
     obtain⟨l2,g2,g3⟩:=hR.obj b' q' hq' hd';rw[hl'] at g2;cases g2;have hqro:q'.HV=true:=by
      cases q' with
      | cells c z n el room ro bB =>
       obtain⟨_,_,_,_,_,g4,_⟩:=g3;rw[hro'] at g4;exact g4.symm
      | map=>have:=g3.1;rw[hro'] at this;cases this
      | hY m=>have:=g3.1;rw[hro'] at this;cases this
      | sW=>have:=g3.1;rw[hro'] at this;cases this
      | loop=>have:=g3.1;rw[hro'] at this;cases this
      | dead=>cases hd'
     obtain⟨q0,k1,k2⟩:=hold b' q' hq' hd' hqro;have k3:=sub b' q0 k1 k2;obtain⟨l3,g5,_⟩:=v.tie.obj b' q0 k3 k2;have e2:=hE.le _ _ g5;rw[hl'] at e2;cases e2;have:=v.tie.inj b b' q q0 l l' hq hd k3 k2 g1 g5 hro hblk;subst this;exact exNone e b q0 (by omega) hex k1 k2
   ·exfalso;obtain⟨l1,g1,_⟩:=v.tie.obj b' q' hq' hd';have e1:=hE.le _ _ g1;rw[hl'] at e1;cases e1;exact exOwn b' q' l' hex' hq' hd' g1 ⟨b,q,l,hq,hd,hl,hro,hblk⟩
   ·exact hR.inj b b' q q' l l' hq hd hq' hd' hl hl' hro hblk
 ·intro b q hq hd;rw[hout b fun hex=>exNone (e+1) b q (Nat.le_refl _) hex hq hd];exact hq
 ·intro i hx hka hra hle q hq hd;have hxi:X i:=hx.resolve_right (by omega);rw[hin _ ⟨i,by omega,hxi,hka,hra,rfl⟩];exact v.made i hxi hka hra (by omega) q hq hd
 ·intro b q hq hd;rcases hH b q hq hd with ⟨⟨i,k1,k2,k3,k4,k5⟩,_⟩ | ⟨_,hq⟩
  ·exact .inr ⟨i,.inl k2,k3,k4,by omega,k5⟩
  ·exact .inl ⟨q,hq,hd⟩
 ·intro i hi hx;have htop:=h.top e (Nat.le_of_lt he);exact hE.new _ (v.free i hi fun hh=>hx (.inl hh)) (.inl (by omega))
 ·have hn1:=hE.AP;have hn0:=v.ext.AP;have hb1:=h.top e (Nat.le_of_lt he);have own1:∀ c,Own ι (S e).look c→Own ι HX c:=fun c ⟨b,q,l,h1,h2,h3⟩=>⟨b,q,l,sub b q h1 h2,h2,h3⟩;refine⟨aQ.le_trans v.ext.le hE.le,?_,by omega,hE.os.trans v.ext.os,hE.tape.trans v.ext.tape,hE.output.trans v.ext.output,Nat.le_trans v.ext.size hE.size,?_,?_,Nat.le_trans v.ext.drawn hE.drawn⟩
  ·intro b hb hb2;exact hE.new b (v.ext.new b hb (by omega)) (by omega)
  ·intro c hc hno;refine(hE.aD c (Nat.lt_of_lt_of_le hc v.ext.size) fun ho'=>?_).trans (v.ext.aD c hc hno);rcases v.ext.own c (own1 c ho') with h1 | h1
   ·exact hno h1
   ·omega
  ·rintro c ⟨b,q,l,h1,h2,h3,h4,h5⟩;have hs:=v.ext.size;rcases hH b q h1 h2 with ⟨hex,hq⟩ | ⟨_,hq⟩
   ·obtain⟨l1,g1,_⟩:=v.tie.obj b q hq h2;have e1:=hE.le _ _ g1;rw[h3] at e1;cases e1;exact v.ext.own c ⟨b,q,l,hq,h2,g1,h4,h5⟩
   ·rcases hE.own c ⟨b,q,l,hq,h2,h3,h4,h5⟩ with g1 | g1
    ·exact v.ext.own c (own1 c g1)
    ·exact .inr (by omega)
theorem Inv.reads {i:Nat} {o:Oper} (ho:ops[i]?=some o) (hX:¬ X i) (hr:∀ x∈o.after,Region.binds .any x=true→X x.on) (hk:fB o.op=.still) (hw:Region.wanted o (aO ops (A i))=true) (hm:MF o.op=true) :
  ∀ b∈gU (A i).eval (S i).look o.op,tC (S i).look HX b:=by
 intro b hb q hq hd;have hi:=h.lt ho;rcases Nat.lt_or_ge i T with cD | hge
 ·have key:∀ d,i+d≤T→(S (i+d)).heap.get b=some q:=by
   intro d
   induction d with
   | zero=>exact fun _=>hq
   | succ d ih =>
    intro hd';have i1:=ih (by omega);have hT:=v.top;obtain⟨od,hok⟩:∃ od,ops[i+d]?=some od:=⟨ops[i+d],by simp[show i+d<ops.size by omega]⟩;rcases h.cases hok with h1 | ⟨hka,hwa,f,_,h1⟩ | ⟨hke,hwe,_⟩
    ·rw[show i+(d+1)=i+d+1 from rfl,h1];exact i1
    ·rw[show i+(d+1)=i+d+1 from rfl,h1];simp only[St.put,PT.fH];by_cases eb:b=base+2*(i+d)
     ·subst eb;exact(h.QZ (Nat.le_refl _) (by omega) i1 hd).elim
     ·rw[if_neg eb];exact i1
    ·have hne:i+d≠i:=fun e0=>by
      rw[e0,ho] at hok;cases hok;rw[hk] at hke;cases hke
     have hXk:X (i+d):=(v.zL (i+d) ⟨_,hok,hke⟩).2 (by omega);rcases h.xD i (i+d) o _ (by omega) ho hok with hbit | ⟨m,hm1,hm2⟩
     ·exact absurd (v.down.bit _ _ (by omega) hXk hbit) hX
     ·unfold zI at hm1;rw[hk,hke,if_pos hm] at hm1;cases hm1;obtain⟨q',k1,k2,_⟩:=h.same (hm2 i (i+d) (by simp) o ho hw ⟨_,hok,hwe⟩ b hb) hok hke;rw[i1] at k1;cases k1;exact k2
  have:=key (T-i) (by omega);rw[show i+(T-i)=T from by omega] at this;exact v.sub b q this hd
 ·have key:∀ d,T+d≤i→∀ q,(S (T+d)).heap.get b=some q→q.cX=false→HX b=some q:=by
   intro d
   induction d with
   | zero=>exact fun _ q h1 h2=>v.sub b q h1 h2
   | succ d ih =>
    intro hd' q hq hd;have i1:=ih (by omega);have hok:ops[T+d]?=some ops[T+d]:=by simp[show T+d<ops.size by omega]
    rcases h.cases hok with h1 | ⟨hka,hwa,f,_,h1⟩ | ⟨hke,hwe,_⟩
    ·rw[show T+(d+1)=T+d+1 from rfl,h1] at hq;exact i1 q hq hd
    ·by_cases eb:b=base+2*(T+d)
     ·have hXk:X (T+d):=by
       rcases h.xD (T+d) i _ o (by omega) hok ho with hbit | ⟨m,hm1,hm2⟩
       ·exact v.down.ready ho hr hbit
       ·unfold zI at hm1;rw[hk,hka] at hm1;simp only at hm1;rw[if_pos hm] at hm1;cases hm1;obtain⟨q',k1,k2⟩:=h.aFr (hm2 i (T+d) (by simp) o ho hw ⟨_,hok,hwa⟩ b hb);rw[eb] at k1;exact(h.QZ (Nat.le_refl _) (by omega) k1 k2).elim
      subst eb;exact v.made (T+d) hXk ⟨_,hok,hka⟩ ⟨_,hok,hwa⟩ (by omega) q hq hd
     ·rw[show T+(d+1)=T+d+1 from rfl,h1] at hq;simp only[St.put,PT.fH] at hq;rw[if_neg eb] at hq;exact i1 q hq hd
    ·have hXk:¬ X (T+d):=fun hx=>by have:=(v.zL (T+d) ⟨_,hok,hke⟩).1 hx;omega
     rcases h.xD (T+d) i _ o (by omega) hok ho with hbit | ⟨m,hm1,hm2⟩
     ·exact absurd (v.down.ready ho hr hbit) hXk
     ·unfold zI at hm1;rw[hk,hke] at hm1;simp only at hm1;rw[if_pos hm] at hm1;cases hm1;obtain⟨q',k1,k2,_⟩:=h.same (hm2 i (T+d) (by simp) o ho hw ⟨_,hok,hwe⟩ b hb) hok hke;have:q'=q:=by
       rw[show T+(d+1)=T+d+1 from rfl] at hq;rw[hq] at k2;exact(Option.some.inj k2).symm
      subst this;exact i1 q' k1 hd
  have:=key (i-T) (by omega) q;rw[show T+(i-T)=i from by omega] at this;exact this hq hd
end
end Go.Dust
namespace Go.Dust
variable {P:Program} {ι ι':aQ} {s s':St} {w w':World}
theorem QP (hR:RS P ι s w) {l:Nat} {st:LoopState} {pend:Option Code} {t:PT Value} {nt:Nat} {ps:Array Tmp} {aJ6 bd:Code} {bB:Nat} (hl:s.heap.get l=some (.loop st pend t nt ps aJ6 bd bB)) :
  ∃ loc rec,ι l=some loc∧w.heap[loc.aT]?=some (.loop rec)∧rec.state=st∧rec.pending=pend∧rec.params=ps∧rec.assign=aJ6∧rec.body=bd∧rec.tmps.size=nt ∧
   (∀ i,i<nt→VR ι ((t.get i).getD undef) (rec.tmps.getD i undef))∧oD nt aJ6=true∧oD nt bd=true∧ps.toList.all (fun p=>decide (p<nt))=true ∧
   ∀ st' pend',RS P ι (s.put l fun v=>.loop st' pend' t nt ps aJ6 bd v) (w.putObj loc.aT (.loop {rec with state:=st',pending:=pend'})) ∧
    ES ι s w ι (s.put l fun v=>.loop st' pend' t nt ps aJ6 bd v) (w.putObj loc.aT (.loop {rec with state:=st',pending:=pend'})):=by
 obtain⟨loc,h1,h2⟩:=hR.obj l _ hl rfl;obtain⟨h20,h21,h22,hoka,hokb,hokp,rec,hrec,hst,hpe,hpa,has,hbd,hsz,hval⟩:=h2;refine⟨loc,rec,h1,hrec,hst,hpe,hpa,has,hbd,hsz,hval,hoka,hokb,hokp,fun st' pend'=>?_⟩;exact RS.put hR hl rfl h1 h20 _ ⟨h20,h21,h22,hoka,hokb,hokp,_,zV (jJ hrec),rfl,rfl,hpa,has,hbd,hsz,hval⟩
theorem AR.args {a:aK} {act:Act}:∀ (ps:List Tmp) {vs us:List Value} (t:PT Value) (T:Array Value),bT ι vs us→ps.all (fun p=>decide (p<a.nt))=true→AR ι {a with tmps:=t} {act with tmps:=T} →
  AR ι {a with tmps:=yA t (ps.zip vs)} {act with tmps:=(ps.zip us).foldl (fun tmps (p:Tmp×Value)=>tmps.setIfInBounds p.1 p.2) T}
 | [],_,_,t,T,_,_,h=>by simpa [yA] using h
 | p::ps,_,_,t,T,.nil,_,h=>by simpa [yA] using h
 | p::ps,_,_,t,T,.cons (v:=v) (u:=u) hv hr,hp,h=>by
  simp only[List.all_cons,Bool.and_eq_true,decide_eq_true_eq] at hp;simp only[List.zip_cons_cons,yA,List.foldl_cons];exact AR.args ps _ _ hr hp.2 (AR.put (d:=some p) h (fun x hx=>by cases hx;exact hp.1) hv)
theorem AR.start {fn:Func} {args:List Value} {args':Array Value} (h:bT ι args args'.toList) (hle:args.length≤fn.ntmps) :
  AR ι {tmps:=PT.ofList args,nt:=fn.ntmps} {tmps:=args'++Array.replicate (fn.ntmps-args'.size) undef,defers:=[]}:=by
 have hlen:args.length=args'.size:=by rw[h.length];simp
 refine⟨by simp;omega,fun t ht=>?_⟩;simp only[aK.aB,PT.sP];by_cases hta:t<args.length
 ·obtain⟨u,h1,h2⟩:=h.GM t (v:=args[t]) (by simp[hta]);have h1':args'[t]?=some u:=by simpa using h1
  simp only[List.getElem?_eq_getElem hta,Option.getD_some,Array.getD_eq_getD_getElem?];rw[Array.getElem?_append_left (by omega),h1'];exact h2
 ·rw[List.getElem?_eq_none (by omega)];simp only[Option.getD_none,Array.getD_eq_getD_getElem?];rw[Array.getElem?_append_right (by omega)];have:(Array.replicate (fn.ntmps-args'.size) undef)[t-args'.size]?.getD undef=undef:=by
   simp only[Array.getElem?_replicate];split <;> rfl
  rw[this];exact VR.undef _
abbrev vh:=Option Nat→Code→aK→St→bN (dU×aK×St)
abbrev JN (P:Program) (ι:aQ) (s:St) (w:World) (nt lo:Nat) (Φ:dU×aK×St→Prop) (Q:Exit→Act→World→Prop):Prop :=
 ∀ e a' s' act' w' ι',Φ (e,a',s')→AR ι' a' act'→RS P ι' s' w'→ES ι s w ι' s' w'→a'.nt=nt→DL lo ι' s'.look w' act'.defers→Q (dU.to e) act' w'
def JP (P:Program) (code:vh):Prop:=∀ r c a s act w ι Φ r' m lo Q,oD a.nt c=true→(code r c a s).jD Φ→AR ι a act→RS P ι s w→DL lo ι s.look w act.defers→FX ι r r'→lo≤w.heap.size →
 JN P ι s w a.nt lo Φ Q→c.wpIn (FW r') m P Q act w
def TC (P:Program) (code:vh) (n:Nat):Prop:=∀ r b a s act w ι Φ r' m lo Q,oD a.nt b=true→(code r (.loop b) a s).jD Φ→AR ι a act→RS P ι s w→DL lo ι s.look w act.defers→FX ι r r'→lo≤w.heap.size →
 JN P ι s w a.nt lo Φ Q→Code.roundsIn (FW r') m P b Q n act w
def db (P:Program):Prop:=∀ (call:gS) (round:gW),wY P call→BJ P round→oI call→oI round→∀ (id:Nat) (ops:Array Oper) (a:aK) (s:St) (act:Act) (w:World) (ι:aQ) (Φ:aK×St→Prop) (r:Option Nat) (m:Nat) (Q:Exit→Act→World→Prop),
 ops.toList.all (rX a.nt)=true→ML ops=true→(zK (env P) call round ops a s).jD Φ→AR ι a act→RS P ι s w →
 (∀ a' s' act' w' ι',Φ (a',s')→AR ι' a' act'→RS P ι' s' w'→ES ι s w ι' s' w'→a'.nt=a.nt→act'.defers=act.defers→Q .normal act' w')→(Code.region id ops true).wpIn (FW r) m P Q act w
theorem JN.next {nt lo:Nat} {Φ Φ':dU×aK×St→Prop} {Q Q':Exit→Act→World→Prop} (h:JN P ι s w nt lo Φ Q) (hE:ES ι s w ι' s' w') (hΦ:∀ p,Φ' p→Φ p) (hQ:∀ e a w,Q e a w→Q' e a w):JN P ι' s' w' nt lo Φ' Q' :=
 fun e a' s'' act' w'' ι'' h1 h2 h3 h4 h5 h6=>hQ _ _ _ (h e a' s'' act' w'' ι'' (hΦ _ h1) h2 h3 (Ext.trans hE h4) h5 h6)
variable {P:Program} {call:gS} {round:gW} {ops:Array Oper} {nt base:Nat} {A:Nat→aK} {S:Nat→St} {V:Nat→Value}
variable {ι0:aQ} {s0:St} {w0:World} {ds:List Deferred}
def OA (P:Program) (ops:Array Oper) (nt base:Nat) (A:Nat→aK) (S:Nat→St) (V:Nat→Value) (ι0:aQ) (s0:St) (w0:World) (ds:List Deferred) (X:Nat→Prop) (act:Act) (w:World):Prop :=
 ∃ T ι HX aX,Inv P ops nt base A S V ι0 s0 w0 ds X act w T ι HX aX
theorem Inv.step {r:Option Nat} {m:Nat} {Q:Exit→Act→World→Prop} (h:vG P call round ops nt base A S V) (hb0:s0.next≤base) {X:Nat→Prop} {act:Act} {w:World} (hv:OA P ops nt base A S V ι0 s0 w0 ds X act w)
  {i:Nat} {o:Oper} (ho:ops[i]?=some o) (hX:¬ X i) (hr:∀ x∈o.after,Region.binds .any x=true→X x.on) {K:Act→World→Prop}
  (hK:∀ act' w',OA P ops nt base A S V ι0 s0 w0 ds (fun k=>X k∨k=i) act' w'→K act' w'):wpOpIn (FW r) m P ops Q i K act w:=by
 obtain⟨T,ι,HX,aX,v⟩:=hv;have hd:=Lu (h.oper ho);have hvals:=v.aH4 h ho hX hr;unfold wpOpIn;simp only[ho];rw[← v.want h ho hX hr];rcases(h.step i o ho).2 with ⟨h1,h2⟩ | ⟨h1,h2,h3⟩
 ·rw[if_pos h1];unfold nL at h2;split at h2
  ·rename_i hk;split at h2
   ·rename_i v0 hs;simp only[Option.some.injEq,Prod.mk.injEq] at h2;obtain⟨rfl,_⟩:=h2;have hs':=still_mono (H':=HX) (fun hm=>v.reads h ho hX hr hk h1 hm) hs;obtain⟨u,g1,g2⟩:=Qs v.tie hvals hs';exact BG hd g1 (hK _ _ ⟨T,ι,HX,_,v.plain h ho hX hr (by rw[hk];decide) (by rw[hk];intro e;cases e) g2⟩)
   ·cases h2
  ·rename_i hk;split at h2
   ·rename_i v0 f ha;simp only[Option.some.injEq,Prod.mk.injEq] at h2;obtain⟨rfl,h2⟩:=h2;have hfree:=v.free i (h.lt ho) hX;obtain⟨u,x,g1,g2,g3⟩:=xa (w:=w) hfree hvals ha;exact BG hd g1 (hK _ _ ⟨T,_,_,_,v.alloc h ho hX hr hk hb0 h2.symm g2 g3⟩)
   ·cases h2
  ·rename_i hk;split at h2
   ·rename_i p hx;simp only[Option.some.injEq] at h2;subst h2;obtain⟨_,_,hR⟩:=v.here h ho hX hr hk;refine Aj h.hc h.hr hR hvals hd (Φ:=fun p=>p=(V i,S (i+1))) (by rw[hx];rfl) ?_;intro v' u s' ι' w' hp hv' hR' hE';cases hp;obtain⟨H',hI⟩:=v.effect h ho hX hr hk hv' hR' hE';exact hK _ _ ⟨_,_,_,_,hI⟩
   ·cases h2
 ·rw[if_neg (by rw[h1];decide)];refine⟨fun _ _=>trivial,hK _ _ ?_⟩;by_cases hk:fB o.op=.effect
  ·obtain⟨_,_,hR⟩:=v.here h ho hX hr hk;obtain⟨H',hI⟩:=v.effect h ho hX hr hk (ι':=ι) (w':=w) (u:=undef) (by rw[h2];exact VR.undef _) (by rw[h3];exact hR) (by rw[h3];exact Ext.refl);exact⟨_,_,_,_,hI⟩
  ·refine⟨T,ι,HX,_,v.plain h ho hX hr hk ?_ (by rw[h2];exact VR.undef _)⟩;rintro _ ⟨o',ho',hw'⟩;rw[ho] at ho';cases ho';rw[h1] at hw';cases hw'
theorem Inv.done (h:vG P call round ops nt base A S V) {X:Nat→Prop} {act:Act} {w:World} (hv:OA P ops nt base A S V ι0 s0 w0 ds X act w) (hall:∀ i,i<ops.size→X i) :
  ∃ ι,AR ι (A ops.size) act∧RS P ι (S ops.size) w∧ES ι0 s0 w0 ι (S ops.size) w∧act.defers=ds:=by
 obtain⟨T,ι,HX,aX,v⟩:=hv;obtain⟨h1,h2⟩:=v.Sx h (Nat.le_refl _) v.top (fun k k1 k2 hk=>by have:=(v.zL k hk).1 (hall k k2);omega) (fun k _ k2 _=>hall k k2);have hnt:=h.nt0 ops.size (Nat.le_refl _);refine⟨ι,⟨by rw[v.tmps.size,v.MH,hnt],fun t ht=>?_⟩,?_,?_,v.defs⟩
 ·rw[hnt] at ht;have:(A ops.size).aB t=aX.aB t:=uF.uniq (h.last t _ (Nat.le_refl _)) (v.last t ht) fun k ok hk _=>⟨fun _=>hall k (h.lt hk),fun _=>h.lt hk⟩;rw[this];exact v.tmps.val t (by rw[v.MH];exact ht)
 ·unfold RS;rw[h2];exact v.tie.gx h1
 ·unfold ES;rw[h2];exact⟨v.ext.le,v.ext.new,v.ext.AP,v.ext.os,v.ext.tape,v.ext.output,v.ext.size,v.ext.aD,fun c ⟨b,q,l,k1,k2,k3⟩=>v.ext.own c ⟨b,q,l,h1 b q k1 k2,k2,k3⟩,v.ext.drawn⟩
abbrev yT (listed:Array Bool) (i:Nat):Prop:=listed.getD i false=true
theorem aBj {listed:Array Bool} {i:Nat} (hi:i<listed.size):yT (listed.setIfInBounds i true)=fun k=>yT listed k∨k=i:=by
 funext k;apply propext;simp only[yT,Array.getD_eq_getD_getElem?,Array.getElem?_setIfInBounds];by_cases e:i=k
 ·subst e;simp[hi]
 ·rw[if_neg e];constructor
  ·exact fun h=>.inl h
  ·rintro(h | h)
   ·exact h
   ·exact absurd h.symm e
theorem Inv.any {r:Option Nat} {m:Nat} {Q:Exit→Act→World→Prop} (h:vG P call round ops nt base A S V) (hb0:s0.next≤base)
  (hQ:∀ act' w' ι',AR ι' (A ops.size) act'→RS P ι' (S ops.size) w'→ES ι0 s0 w0 ι' (S ops.size) w'→act'.defers=ds→Q .normal act' w') :
  ∀ (fuel:Nat) (listed:Array Bool) (act:Act) (w:World),listed.size=ops.size→listed.toList.count false≤fuel→OA P ops nt base A S V ι0 s0 w0 ds (yT listed) act w →
   wpAnyIn (FW r) m P .any ops Q fuel listed act w:=by
 have fin:∀ (listed:Array Bool) (act:Act) (w:World),listed.size=ops.size→OA P ops nt base A S V ι0 s0 w0 ds (yT listed) act w→Region.ready .any ops listed=[]→Q .normal act w:=by
  intro listed act w hsz hv mY;have hall:∀ i,i<ops.size→yT listed i:=by
   intro i
   induction i using Nat.strongRecOn with
   | _ i ih =>
    intro hi;cases hl:listed.getD i false with
    | true=>exact hl
    | false =>
     exfalso;have hok:ops[i]?=some ops[i]:=by simp[hi]
     have:i∈Region.ready .any ops listed:=by
      refine mem_ready.2 ⟨?_,_,hok,fun e he hb=>?_⟩
      ·have hsi:i<listed.size:=by omega
       simp only[Array.getD_eq_getD_getElem?,Array.getElem?_eq_getElem hsi,Option.getD_some] at hl ⊢;exact hl
      ·have cD:=h.Zd i _ hok e he hb;exact ih e.on cD (by omega)
     rw[mY] at this;cases this
  obtain⟨ι,h1,h2,h3,h4⟩:=Inv.done h hv hall;exact hQ act w ι h1 h2 h3 h4
 intro fuel
 induction fuel with
 | zero =>
  intro listed act w hsz hc hv;have mY:Region.ready .any ops listed=[]:=by
   refine List.eq_nil_iff_forall_not_mem.2 fun i hi=>?_;obtain⟨h1,o,ho,_⟩:=mem_ready.1 hi;have hsi:i<listed.size:=by have:=h.lt ho;omega
   have:false∈listed.toList:=by
    simp only[Array.getD_eq_getD_getElem?,Array.getElem?_eq_getElem hsi,Option.getD_some] at h1;rw[← h1];simp
   have:=List.count_pos_iff.2 this;omega
  exact⟨mY,fin listed act w hsz hv mY⟩
 | succ fuel ih =>
  intro listed act w hsz hc hv;refine⟨fun mY=>fin listed act w hsz hv mY,fun i hi=>?_⟩;obtain⟨h1,o,ho,hr⟩:=mem_ready.1 hi;have hsi:i<listed.size:=by have:=h.lt ho;omega
  have hli:listed[i]=false:=by simpa only[Array.getD_eq_getD_getElem?,Array.getElem?_eq_getElem hsi,Option.getD_some] using h1
  have hX:¬ yT listed i:=by
   simp only[yT,Array.getD_eq_getD_getElem?,Array.getElem?_eq_getElem hsi,Option.getD_some,hli];decide
  refine Inv.step h hb0 hv ho hX hr ?_;intro act' w' hv';rw[← aBj hsi] at hv';refine ih _ act' w' (by simpa using hsz) ?_ hv';rw[Array.toList_setIfInBounds,List.count_set (by simpa using hsi)];rw[if_pos (by simpa using hli),if_neg (by decide)];omega
noncomputable def uY (X:Env) (call:gS) (round:gW) (ops:Array Oper) (base i:Nat) (p:aK×St):aK×St×Value :=
 match ops[i]? with
 | some o=>if Region.wanted o (aO ops p.1) then(match nL X call round (base+2*i) p.2 p.1.eval o.op with
   | some (v,s')=>(p.1.put o.dst v,s',v)
   | none=>(p.1,p.2,undef)) else(p.1.put o.dst undef,p.2,undef)
 | none=>(p.1,p.2,undef)
noncomputable def tr (X:Env) (call:gS) (round:gW) (ops:Array Oper) (base:Nat) (a:aK) (s:St):Nat→aK×St
 | 0=>(a,s)
 | i+1=>((uY X call round ops base i (tr X call round ops base a s i)).1,(uY X call round ops base i (tr X call round ops base a s i)).2.1)
theorem pz {X:Env} {a:aK} {s:St}:∀ (rest:List Oper) (k:Nat) (a':aK) (s':St) (l:List oX),(∀ j,rest[j]?=ops[k+j]?)→gJ X call round ops base rest k (tr X call round ops base a s k).1 (tr X call round ops base a s k).2=some (a',s',l) →
  tr X call round ops base a s (k+rest.length)=(a',s') ∧
  ∀ j o,rest[j]?=some o→∃ nt,l[j]?=some nt ∧
   ((Region.wanted o (aO ops (tr X call round ops base a s (k+j)).1)=true ∧
    nL X call round (base+2*(k+j)) (tr X call round ops base a s (k+j)).2 (tr X call round ops base a s (k+j)).1.eval o.op=some ((uY X call round ops base (k+j) (tr X call round ops base a s (k+j))).2.2,(tr X call round ops base a s (k+j+1)).2) ∧
    (tr X call round ops base a s (k+j+1)).1=(tr X call round ops base a s (k+j)).1.put o.dst (uY X call round ops base (k+j) (tr X call round ops base a s (k+j))).2.2 ∧
    nt={mL:=true,reads:=gU (tr X call round ops base a s (k+j)).1.eval (tr X call round ops base a s (k+j)).2.look o.op,pre:=(tr X call round ops base a s (k+j)).2,post:=(tr X call round ops base a s (k+j+1)).2}) ∨
    (Region.wanted o (aO ops (tr X call round ops base a s (k+j)).1)=false∧(uY X call round ops base (k+j) (tr X call round ops base a s (k+j))).2.2=undef∧(tr X call round ops base a s (k+j+1)).2=(tr X call round ops base a s (k+j)).2 ∧
    (tr X call round ops base a s (k+j+1)).1=(tr X call round ops base a s (k+j)).1.put o.dst undef∧nt.mL=false))
 | [],k,a',s',l,_,h=>by
  simp only[gJ,Option.some.injEq,Prod.mk.injEq] at h;obtain⟨h1,h2,_⟩:=h;refine⟨?_,fun j o hj=>by simp at hj⟩;rw[← h1,← h2];rfl
 | o::rest,k,a',s',l,hidx,h=>by
  have ho:ops[k]?=some o:=by have:=hidx 0;simpa using this.symm
  have hrest:∀ j,rest[j]?=ops[k+1+j]?:=fun j=>by
   have:=hidx (j+1);simpa [show k+(j+1)=k+1+j from by omega] using this
  unfold gJ at h;have htr:tr X call round ops base a s (k+1)=((uY X call round ops base k (tr X call round ops base a s k)).1,(uY X call round ops base k (tr X call round ops base a s k)).2.1):=rfl;split at h
  ·rename_i hw;split at h
   ·rename_i v s1 hx;have hst:uY X call round ops base k (tr X call round ops base a s k)=((tr X call round ops base a s k).1.put o.dst v,s1,v):=by
     unfold uY;rw[ho];simp only;rw[if_pos hw,hx]
    rw[hst] at htr;split at h
    ·rename_i a2 s2 l2 hl;simp only[Option.some.injEq,Prod.mk.injEq] at h;obtain⟨rfl,rfl,rfl⟩:=h;obtain⟨g1,g2⟩:=pz rest (k+1) a2 s2 l2 hrest (by rw[htr];exact hl);refine⟨by rw[← g1];congr 1;simp;omega,fun j o' hj=>?_⟩;cases j with
     | zero =>
      simp only[List.getElem?_cons_zero,Option.some.injEq] at hj;subst hj;refine⟨_,rfl,.inl ⟨hw,?_,?_,?_⟩⟩
      ·simp only[Nat.add_zero];rw[hst,htr];exact hx
      ·simp only[Nat.add_zero];rw[hst,htr]
      ·simp only[Nat.add_zero];rw[htr]
     | succ j =>
      have:=g2 j o' (by simpa using hj);rw[show k+1+j=k+(j+1) from by omega] at this;simpa only[List.getElem?_cons_succ] using this
    ·cases h
   ·cases h
  ·rename_i hw;have hw':Region.wanted o (aO ops (tr X call round ops base a s k).1)=false:=by simpa using hw
   have hst:uY X call round ops base k (tr X call round ops base a s k)=((tr X call round ops base a s k).1.put o.dst undef,(tr X call round ops base a s k).2,undef):=by
    unfold uY;rw[ho];simp only;rw[if_neg hw]
   rw[hst] at htr;split at h
   ·rename_i a2 s2 l2 hl;simp only[Option.some.injEq,Prod.mk.injEq] at h;obtain⟨rfl,rfl,rfl⟩:=h;obtain⟨g1,g2⟩:=pz rest (k+1) a2 s2 l2 hrest (by rw[htr];exact hl);refine⟨by rw[← g1];congr 1;simp;omega,fun j o' hj=>?_⟩;cases j with
    | zero =>
     simp only[List.getElem?_cons_zero,Option.some.injEq] at hj;subst hj;refine⟨_,rfl,.inr ⟨hw',?_,?_,?_,rfl⟩⟩
     ·simp only[Nat.add_zero];rw[hst]
     ·simp only[Nat.add_zero];rw[htr]
     ·simp only[Nat.add_zero];rw[htr]
    | succ j =>
     have:=g2 j o' (by simpa using hj);rw[show k+1+j=k+(j+1) from by omega] at this;simpa only[List.getElem?_cons_succ] using this
   ·cases h
theorem Yt (hm:P.follows .mixedOrders=true):db P:=by
 intro call round hc hr lc lr id ops a s act w ι Φ r m Q hok hod h ha hR hQ;unfold zK at h;split at h
 ·exact h.elim
 ·rename_i c hconf;split at h
  ·rename_i a' s' log hlog;split at h
   ·rename_i hlk;obtain⟨g1,g2⟩:=pz (X:=env P) (call:=call) (round:=round) (ops:=ops) (base:=s.next) (a:=a) (s:={heap:=s.heap,next:=s.next+2*ops.size,aR:=s.aR}) ops.toList 0 a' s' log (fun j=>by simp) hlog;generalize hA:(fun i=>(tr (env P) call round ops s.next a {heap:=s.heap,next:=s.next+2*ops.size,aR:=s.aR} i).1)=A at *;generalize hS:(fun i=>(tr (env P) call round ops s.next a {heap:=s.heap,next:=s.next+2*ops.size,aR:=s.aR} i).2)=S at *;generalize hV:(fun i=>(uY (env P) call round ops s.next i (tr (env P) call round ops s.next a {heap:=s.heap,next:=s.next+2*ops.size,aR:=s.aR} i)).2.2)=V at *;have eA:∀ i,(tr (env P) call round ops s.next a {heap:=s.heap,next:=s.next+2*ops.size,aR:=s.aR} i).1=A i:=fun i=>congrFun hA i;have eS:∀ i,(tr (env P) call round ops s.next a {heap:=s.heap,next:=s.next+2*ops.size,aR:=s.aR} i).2=S i:=fun i=>congrFun hS i;have eV:∀ i,(uY (env P) call round ops s.next i (tr (env P) call round ops s.next a {heap:=s.heap,next:=s.next+2*ops.size,aR:=s.aR} i)).2.2=V i:=fun i=>congrFun hV i;simp only[eA,eS,eV,Nat.zero_add] at g2;have eA0:A 0=a:=(eA 0).symm;have eS0:S 0={heap:=s.heap,next:=s.next+2*ops.size,aR:=s.aR}:=(eS 0).symm;have hst:∀ i o,ops[i]?=some o→A (i+1)=(A i).put o.dst (V i) ∧
      ((Region.wanted o (aO ops (A i))=true∧nL (env P) call round (s.next+2*i) (S i) (A i).eval o.op=some (V i,S (i+1))) ∨
       (Region.wanted o (aO ops (A i))=false∧V i=undef∧S (i+1)=S i)):=by
     intro i o ho;obtain⟨nt,_,h2⟩:=g2 i o (by simpa using ho);rcases h2 with ⟨k1,k2,k3,_⟩ | ⟨k1,k2,k3,k4,_⟩
     ·exact⟨k3,.inl ⟨k1,k2⟩⟩
     ·exact⟨by rw[k2];exact k4,.inr ⟨k1,k2,k3⟩⟩
    have hnt:∀ i,i≤ops.size→(A i).nt=a.nt:=by
     intro i
     induction i with
     | zero=>intro _;rw[eA0]
     | succ i ih =>
      intro hi;rw[(hst i ops[i] (by simp[show i<ops.size by omega])).1,aDy];exact ih (by omega)
    have hev:∀ i,i≤ops.size→s.next+2*ops.size≤(S i).next:=by
     intro i
     induction i with
     | zero=>intro _;rw[eS0];exact Nat.le_refl _
     | succ i ih =>
      intro hi;have i1:=ih (by omega);rcases(hst i ops[i] (by simp[show i<ops.size by omega])).2 with ⟨_,k⟩ | ⟨_,_,k⟩
      ·have:=(Ay (base:=s.next) lc lr (by omega) (by omega) k).next;omega
      ·rw[k];exact i1
    have hrun:vG P call round ops a.nt s.next A S V:=by
     refine⟨hc,hr,lc,lr,hok,hnt,hst,fun i j oi oj cD hi hj=>aCn hod hi hj cD,fun j o ho=>aCm hod ho,?_,hev,hR.kT,?_⟩
     ·intro i j oi oj cD hi hj;rcases Xx hconf hi hj cD with hb | ⟨mm,h1,h2⟩
      ·exact .inl hb
      ·refine .inr ⟨mm,h1,fun x e hxe ox hox hwx hre b hb=>?_⟩;have h3:=List.all_eq_true.1 hlk (x,e) (h2 _ hxe);obtain⟨oe,hoe,hwe⟩:=hre;obtain⟨nx,k1,k2⟩:=g2 x ox (by simpa using hox);obtain⟨ne,q1,q2⟩:=g2 e oe (by simpa using hoe);simp only[k1,q1] at h3;rcases k2 with ⟨_,_,_,k3⟩ | ⟨k3,_⟩
       ·rcases q2 with ⟨_,_,_,q3⟩ | ⟨q3,_⟩
        ·subst k3;subst q3;simp only[Bool.not_true,Bool.false_or] at h3;exact List.all_eq_true.1 h3 b hb
        ·rw[hwe] at q3;cases q3
       ·rw[hwx] at k3;cases k3
     ·intro i hi o ho;rw[eS0] at ho;cases hd:o.cX with
      | true=>rfl
      | false =>
       obtain⟨l,h1,_⟩:=hR.obj _ o ho hd;have hodd:=hR.kT;rw[hR.fresh (s.next+2*i) (by omega) (by omega)] at h1;cases h1
    have e1:(A ops.size,S ops.size)=(a',s'):=by
     rw[← g1,← eA,← eS];simp
    obtain⟨e2,e3⟩:=Prod.mk.inj e1;refine wpIn_region_any hm ?_;refine Inv.any (ι0:=ι) (s0:=s) (w0:=w) (ds:=act.defers) hrun (Nat.le_refl _) ?_ ops.size _ act _ (by simp) (by simp) ?_
    ·intro act' w' ι' h1 h2 h3 h4;rw[e2] at h1;rw[e3] at h2 h3;refine hQ a' s' act' w' ι' h h1 h2 h3 ?_ h4;rw[← e2];exact hnt _ (Nat.le_refl _)
    ·have hodd:=hR.kT;have hX:∀ i,¬ yT (Array.replicate ops.size false) i:=by
      intro i;simp only[yT,Array.getD_eq_getD_getElem?,Array.getElem?_replicate];split <;> simp
     refine⟨0,ι,s.look,a,⟨fun j o hj=>absurd hj (hX j),Nat.zero_le _,fun e _=>⟨fun hx=>absurd hx (hX e),fun hx=>by omega⟩,fun i hi=>by omega,?_,?_,fun i hx=>absurd hx (hX i),?_,?_,?_,ha,rfl,?_,rfl⟩⟩
     ·rw[eS0];have hR':=hR.drew (w':={w with drawn:=w.drawn+1}) rfl;exact⟨hR'.even,by simp only;omega,fun b hb hb2=>hR'.fresh b (by simp only at hb;omega) hb2,hR'.tR,hR'.obj,hR'.inj⟩
     ·rw[eS0];exact fun b o hb _=>hb
     ·rw[eS0];exact fun b o hb hd=>.inl ⟨o,hb,hd⟩
     ·intro i hi _;exact hR.fresh _ (by omega) (by omega)
     ·rw[eS0];exact⟨aQ.le_refl _,fun _ h _=>h,by simp only;omega,rfl,rfl,rfl,Nat.le_refl _,fun _ _ _=>rfl,fun _ h=>.inl h,Nat.le_succ _⟩
     ·intro t ht;rw[eA0];exact .inr ⟨fun i o hx=>absurd hx (hX i),rfl⟩
   ·exact h.elim
  ·exact h.elim
end Go.Dust
namespace Go.Dust
open Go.ChangeShapes Go.RowKit Go.WideShapes
def Um:aQ:=fun b=>if b%2=0 then some ⟨b/2,0,0,true⟩ else none
section
variable {H:Type} {enc:TypeId×Value→H} {P:Program}
theorem Sp (hl:laidOutB P=true) {W W':World} {sp':Nat→Bool}:∀ {ts:List TypeId} {vs:List Value} {ds:List (DataW H)} {ps:List MemPlace},(∀ t∈ts,P.readableRec t=true∧t<P.types.size) →
  DataW.TrodAll enc P W 0 (fun _=>true) true ts vs ds ps→(∀ p∈ps,W.sameAt W' p)→(∀ p∈ps,sp' p.block=true)→DataW.TrodAll enc P W' 0 sp' true ts vs ds ps
 | [],_,_,_,_,h,_,_=>by
  obtain⟨rfl,rfl,rfl⟩:=trodAll_nil h;exact h
 | t::ts,_,_,_,ht,h,hs,hsp=>by
  obtain⟨v,vs1,d,ds1,a,b,rfl,rfl,rfl,h1,h2⟩:=trodAll_cons h;obtain⟨k1,k2⟩:=ht t (by simp);exact⟨a,b,WideElems.Trod_stays hl k1 k2 h1 (fun p hp=>hs p (List.mem_append_left _ hp)) (fun p hp=>hsp p (List.mem_append_left _ hp)),
   Sp hl (fun t ht'=>ht t (List.mem_cons_of_mem _ ht')) h2 (fun p hp=>hs p (List.mem_append_right _ hp)) (fun p hp=>hsp p (List.mem_append_right _ hp)),rfl⟩
theorem Sn {W:World} {base:Nat} {spare:Nat→Bool} {held:Bool}:∀ {ts:List TypeId} {vs:List Value} {ds:List (DataW H)} {ps:List MemPlace},DataW.TrodAll enc P W base spare held ts vs ds ps→ds.length=ts.length
 | [],_,_,_,h=>by obtain⟨rfl,rfl,rfl⟩:=trodAll_nil h;rfl
 | t::ts,_,_,_,h=>by
  obtain⟨v,vs1,d,ds1,a,b,rfl,rfl,rfl,h1,h2⟩:=trodAll_cons h;simp[Sn h2]
theorem aDu (hl:laidOutB P=true) {f:Func} {s:ChangeSpec} {apart fresh handsOn again:Bool} {W W':World} {args:Array Value} {ds gs:List (DataW H)} {before:List MemPlace} {tb:TypeId}
  (hpar:∀ t∈f.params.toList,P.readableRec t=true∧t<P.types.size) (hvars:s.vars=[]) (hrt:f.resultTypes=#[tb]) (htb:P.underlying tb=some .bool)
  (hfn:∀ ds:List (DataW H),ds.length=f.params.size→s.fn H ds={results:=[.lit (.bool true)],args:=ds})
  (hW:DataW.Whole enc P f.params.toList s.vars apart W args.toList ds gs before) (hb:Below W.heap.size W W'):s.post enc P f apart fresh handsOn again W args (.bool true) W':=by
 have hW':=hW;obtain⟨p,q,hA,hV,rfl,hfz,hnd⟩:=hW;rw[hvars] at hV;cases gs with
 | cons g gs=>exact hV.elim
 | nil =>
 have hq:q=[]:=hV;subst hq;have cD:=hW'.lt;have hsp:=hfn ds (by rw[Sn hA];simp);have hargs:∀ sp:Nat→Bool,(∀ x∈p,sp x.block=true)→DataW.TrodAll enc P W' 0 sp true f.params.toList args.toList ds p:=fun sp h =>
  Sp hl hpar hA (fun x hx=>hb.same (cD x (by simpa using hx))) h
 have hres:∀ (b:Nat) (sp:Nat→Bool) (hd:Bool),DataW.TrodAll enc P W' b sp hd f.resultTypes.toList ((Value.bool true).resultList f.resultTypes.size) [.lit (.bool true)] []:=by
  intro b sp hd;rw[hrt];exact trodAll_mk1 (shut_bool htb _)
 have hok:∀ (j:Nat) (t:TypeId) (r:Value),f.resultTypes[j]?=some t→((Value.bool true).resultList f.resultTypes.size)[j]?=some r→Value.okWide P W' .any 0 t r :=
  ok_one (t:=tb) hrt rfl (okWide_bool_mk htb _)
 have hvar:∀ sp:Nat→Bool,DataW.TrodVars enc P W' sp s.vars ([]:List (DataW H)) []:=fun sp=>by rw[hvars];rfl
 have hp:∀ x∈p,(fun b=>decide (b<W.heap.size)) x.block=true:=fun x hx=>by
  have:=cD x (List.mem_append_left _ hx);simp only[decide_eq_true_eq];exact this
 have hsp':s.fn H (ds++[])={results:=[.lit (.bool true)],args:=ds}:=by rw[List.append_nil];exact hsp
 refine⟨ds,[],p++[],[],p,[],hW',by rw[hsp'];exact hres _ _ _,by rw[hsp'];exact hargs _ hp,by rw[hsp'];exact hvar _,hb.frame _,fun _=>?_⟩;refine⟨hok,[.lit (.bool true)]++ds,[],([]++p)++[],⟨[]++p,[],trodAll_append (hargs _ (fun _ _=>rfl)) (hres _ _ _),hvar _,rfl,?_,?_⟩,?_⟩
 ·intro b off hx;have hx':MemPlace.cell b off∈p++[]:=by simpa using hx
  rw[hb.frozen (p:=⟨b,off,none⟩) (cD _ hx')];exact hfz b off hx'
 ·intro ha;have:=hnd ha;simpa using this
 ·intro x hx _;simpa using hx
end
open Go.ChangeShapes Go.RowKit Go.WideShapes
theorem bQ (b off m:Nat):(⟨b,off,none⟩:Addr).add m=⟨b,off+m,none⟩:=by
 unfold Addr.add;split
 ·rename_i h;subst h;rfl
 ·rfl
def BH (aT off:Nat):aQ:=fun b=>if b%2=0 then some ⟨b/2,0,0,true⟩ else if b=1 then some ⟨aT,off,0,true⟩ else none
theorem aHr (aT off b:Nat):BH aT off (2*b)=some ⟨b,0,0,true⟩:=by
 unfold BH;rw[if_pos (by omega)];simp
theorem Un {aT off b:Nat} {l:Loc} (h:BH aT off b=some l):l.ro=true:=by
 unfold BH at h;split at h
 ·cases h;rfl
 ·split at h
  ·cases h;rfl
  ·cases h
def bm:St:={heap:=.nil,next:=3,aR:=0}
theorem aGu (P:Program) (W:World) (aT off:Nat):RS P (BH aT off) bm W:=by
 have hn:∀ b,bm.look b=none:=fun _=>rfl;refine⟨aHr aT off,(show 3%2=1 from rfl),fun b hb hb2=>?_,fun b l hl hro=>?_,fun b o h _=>?_,fun b b' o o' l l' h _ _ _ _ _ _ _=>?_⟩
 ·have hb':3≤b:=hb;unfold BH;rw[if_neg (by omega),if_neg (by omega)]
 ·rw[Un hl] at hro;cases hro
 ·rw[hn] at h;cases h
 ·rw[hn] at h;cases h
theorem aDf {aT off c:Nat}:¬ Own (BH aT off) bm.look c:=by
 rintro⟨b,o,l,_,_,hl,hro,_⟩;rw[Un hl] at hro;cases hro
theorem VR.move {v u:Value} {aT off:Nat} (h:VR Um v u):VR (BH aT off) v u:=by
 refine h.mono fun b l hb=>?_;unfold Um at hb;unfold BH;split at hb
 ·rename_i he;rw[if_pos he];exact hb
 ·cases hb
end Go.Dust
noncomputable section
namespace Go.Dust
abbrev eI:=FuncId→List Value→St→Option (bN (Value×St))
def RA:eI:=fun _ _ _=>none
mutual
def cQ (X:Env) (K:eI):Nat→Option Nat→Code→aK→St→bN (dU×aK×St)
 | 0,_,_,_,_=>.fail "fuel"
 | n+1,r,c,a,s=>match c with
  | .skip=>.ret (.normal,a,s)
  | .label _=>.ret (.normal,a,s)
  | .region _ ops draw =>
   (if draw then zK X (eW X K n) (gN X K n) ops a s else iM X (eW X K n) (gN X K n) ops ops.toList a s).bind fun(a,s)=>.ret (.normal,a,s)
  | .seq x y=>(cQ X K n r x a s).bind fun(e,a,s)=>match e with
   | .normal=>cQ X K n r y a s
   | e=>.ret (e,a,s)
  | .cond c x y=>match a.eval c with
   | .bool true=>cQ X K n r x a s
   | .bool false=>cQ X K n r y a s
   | _=>.fail "cond"
  | .block id b=>(cQ X K n r b a s).bind fun(e,a,s)=>match e with
   | .exit i=>if i=id then .ret (.normal,a,s) else .ret (e,a,s)
   | e=>.ret (e,a,s)
  | .loop b=>(cQ X K n r b a s).bind fun(e,a,s)=>match e with
   | .normal=>cQ X K n r (.loop b) a s
   | e=>.ret (e,a,s)
  | .exit id=>.ret (.exit id,a,s)
  | .ret=>.ret (.ret,a,s)
  | .rangeFunc g ps assign body=>match a.eval g with
   | .func (.func f) first captured =>
    if QO r s then
    (eW X K n f (first.toList++[.func (.yield s.next) #[] #[]]++captured.toList) (s.new fun v=>.loop .ready none a.tmps a.nt ps assign body v)).bind fun(_,s') =>
     match s'.heap.get s.next with
     | some (.loop st pend t nt ps aJ6 bd _) =>
      if st=.busy then .fail "rangeFunc: busy" else
      match pend with
      | none=>.ret (.normal,a,s'.put s.next fun v=>.loop .exhausted pend t nt ps aJ6 bd v)
      | some .ret=>.ret (.ret,a,s'.put s.next fun v=>.loop .exhausted pend t nt ps aJ6 bd v)
      | some (.exit id)=>.ret (.exit id,a,s'.put s.next fun v=>.loop .exhausted pend t nt ps aJ6 bd v)
      | some _=>.fail "rangeFunc: pending"
     | _=>.fail "rangeFunc: record"
    else .fail "rangeFunc: round"
   | _=>.fail "rangeFunc: no function"
  | .scope _=>.fail "scope"
  | .goto _=>.fail "goto"
  | .refuse w=>.fail ("refuse "++w)
def eW (X:Env) (K:eI):Nat→FuncId→List Value→St→bN (Value×St)
 | 0,_,_,_=>.fail "fuel"
 | n+1,f,args,s=>match K f args s with
  | some r=>r
  | none=>match X.fn f with
   | some fn=>match fn.body with
    | some c =>
     if args.length≤fn.ntmps then
     (cQ X K n none c {tmps:=PT.ofList args,nt:=fn.ntmps} s).bind fun(e,a,s)=>match e with
      | .exit _=>.fail "call: exit"
      | _=>match IQ X s.look fn a with
       | some v=>.ret (v,s)
       | none=>.fail "results"
     else .fail "too many arguments"
    | none=>xI s fn args
   | none=>.fail "no function"
def gN (X:Env) (K:eI):Nat→Nat→List Value→St→bN (Value×St)
 | 0,_,_,_=>.fail "fuel"
 | n+1,l,args,s=>match s.heap.get l with
  | some (.loop .ready _ t nt ps assign body _) =>
   if args.length=ps.size then
   (cQ X K n (some l) assign {tmps:=yA t (ps.toList.zip args),nt} s).bind fun(e,a,s)=>match e with
    | .normal=>match s.heap.get l with
     | some (.loop .ready pend t nt ps aJ6 bd _) =>
      (cQ X K n (some l) body a (s.put l fun v=>.loop .busy pend t nt ps aJ6 bd v)).bind fun(e,_,s)=>match s.heap.get l with
       | some (.loop _ _ t nt ps aJ6 bd _) =>
        match e with
        | .normal=>.ret (.bool true,s.put l fun v=>.loop .ready none t nt ps aJ6 bd v)
        | .ret=>.ret (.bool false,s.put l fun v=>.loop .done (some .ret) t nt ps aJ6 bd v)
        | .exit id=>.ret (.bool false,s.put l fun v=>.loop .done (some (.exit id)) t nt ps aJ6 bd v)
       | _=>.fail "round: record"
     | _=>.fail "round: record"
    | _=>.fail "round: assign"
   else .fail "round: arguments"
  | _=>.fail "round: not ready"
end
structure BI (P:Program) (K:eI):Prop where
 Ax:∀ f args s r,K f args s=some r→r.Lv fun p=>eC s p.2
 fn:∀ f args s r,K f args s=some r→∃ fn,(env P).fn f=some fn∧fn.body.isSome=true
 calls:∀ f args (args':Array Value) s r w ι Φ,K f args s=some r→r.jD Φ→bT ι args args'.toList→RS P ι s w→Calls P f args' w (JO P ι s w Φ)
theorem aDb (P:Program):BI P RA:=⟨fun _ _ _ _ h=>(by cases h),fun _ _ _ _ h=>(by cases h),fun _ _ _ _ _ _ _ _ h=>(by cases h)⟩
section
variable {X:Env} {K:eI}
theorem gk (hK:∀ f args s r,K f args s=some r→r.Lv fun p=>eC s p.2):∀ n:Nat,(∀ r c a s,(cQ X K n r c a s).Lv fun p=>eC s p.2.2)∧oI (eW X K n)∧oI (gN X K n)
 | 0=>⟨fun _ _ _ _=>trivial,fun _ _ _=>trivial,fun _ _ _=>trivial⟩
 | n+1=>by
  obtain⟨h1,h2,h3⟩:=gk hK n;refine⟨?_,?_,?_⟩
  ·intro r c a s;unfold cQ;split
   ·exact .refl _
   ·exact .refl _
   ·rw[bN.wZ];split
    ·exact(Zs h2 h3 a s).mono fun _ hp=>hp
    ·exact(gq h2 h3 _ a s).mono fun _ hp=>hp
   ·rw[bN.wZ];refine(h1 _ _ a s).mono fun p hp=>?_;obtain⟨e,a',s'⟩:=p;cases e
    ·exact(h1 _ _ a' s').mono fun q hq=>hp.trans hq
    ·exact hp
    ·exact hp
   ·split
    ·exact h1 _ _ _ _
    ·exact h1 _ _ _ _
    ·trivial
   ·rw[bN.wZ];refine(h1 _ _ a s).mono fun p hp=>?_;obtain⟨e,a',s'⟩:=p;cases e
    ·exact hp
    ·simp only;split <;> exact hp
    ·exact hp
   ·rw[bN.wZ];refine(h1 _ _ a s).mono fun p hp=>?_;obtain⟨e,a',s'⟩:=p;cases e
    ·exact(h1 _ _ a' s').mono fun q hq=>hp.trans hq
    ·exact hp
    ·exact hp
   ·exact .refl _
   ·exact .refl _
   ·split
    ·split;rotate_left
     ·trivial
     rw[bN.wZ];refine(h2 _ _ _).mono fun p hp=>?_;obtain⟨v,s'⟩:=p;have h0:eC s s':=eC.trans (.new fun _=>.inr ⟨rfl,rfl⟩) hp;simp only;split
     ·split
      ·trivial
      ·split
       ·exact h0.trans (.put (fun _=>.inr ⟨rfl,rfl⟩) (.inr (.inl ⟨_,by assumption,rfl⟩)))
       ·exact h0.trans (.put (fun _=>.inr ⟨rfl,rfl⟩) (.inr (.inl ⟨_,by assumption,rfl⟩)))
       ·exact h0.trans (.put (fun _=>.inr ⟨rfl,rfl⟩) (.inr (.inl ⟨_,by assumption,rfl⟩)))
       ·trivial
     ·trivial
    ·trivial
   ·trivial
   ·trivial
   ·trivial
  ·intro f args s;unfold eW;split
   ·rename_i r hr;exact hK f args s r hr
   split
   ·split
    ·split
     ·rw[bN.wZ];refine(h1 _ _ _ s).mono fun p hp=>?_;obtain⟨e,a',s'⟩:=p;simp only;split
      ·trivial
      ·split
       ·exact hp
       ·trivial
     ·trivial
    ·exact Zu _ _ _
   ·trivial
  ·intro l args s;unfold gN;split
   ·split
    ·rw[bN.wZ];refine(h1 _ _ _ s).mono fun p hp=>?_;obtain⟨e,a',s'⟩:=p;simp only;split
     ·split
      ·rw[bN.wZ];refine(h1 _ _ _ _).mono fun q hq=>?_;obtain⟨e2,a2,s2⟩:=q;have h0:eC s s2:=hp.trans (eC.trans (.put (fun _=>.inr ⟨rfl,rfl⟩) (.inr (.inl ⟨_,by assumption,rfl⟩))) hq);simp only
       (repeat' split) <;> first
        | trivial
        | exact h0.trans (.put (fun _=>.inr ⟨rfl,rfl⟩) (.inr (.inl ⟨_,by assumption,rfl⟩)))
      ·trivial
     ·trivial
    ·trivial
   ·trivial
end
section
variable {P:Program} {K:eI} {ι ι':aQ} {s s':St} {w w':World}
theorem aF9 {n:Nat} (hC:JP P (cQ (env P) K n)):BJ P (gN (env P) K (n+1)):=by
 intro l args args' s w ι Φ r m h ha hR;unfold gN at h;split at h
 ·rename_i pend0 t nt ps assign body bB hl;split at h
  ·rename_i hlen;obtain⟨loc,rec,h1,hrec,hst,hpe,hpa,has,hbd,hsz,hval,hoka,hokb,hokp,_⟩:=QP hR hl;refine⟨loc,rec,h1,hrec,?_,?_⟩
   ·rw[hpa,← hlen,ha.length];simp
   ·refine roundIn_of_wpIn (F:=FW r) trivial ?_;rw[has,hbd];have hA:AR ι {tmps:=yA t (ps.toList.zip args),nt} {tmps:=(rec.params.zip args').foldl (fun tmps (p:Tmp×Value)=>tmps.setIfInBounds p.1 p.2) rec.tmps,defers:=[]}:=by
     have:=AR.args (ι:=ι) (a:={tmps:=t,nt}) (act:={tmps:=rec.tmps,defers:=[]}) ps.toList t rec.tmps ha hokp ⟨hsz,hval⟩;rw[hpa,← Array.foldl_toList,Array.toList_zip];exact this
    rw[bN.wX] at h;refine hC (some l) assign _ s _ w ι _ (some loc.aT) m 0 _ hoka h hA hR (DL.nil _ _) ⟨loc,h1,rfl⟩ (Nat.zero_le _) ?_;intro e a1 s1 act1 w1 ι1 hΦ har1 hR1 hE1 hnt1 hdl1;cases e with
    | exit=>exact hΦ.elim
    | ret=>exact hΦ.elim
    | normal =>
     simp only at hΦ;split at hΦ
     ·rename_i pend1 t1 nt1 ps1 as1 bd1 ver1 hl1;obtain⟨loc1,rec1,k1,krec,kst,kpe,kpa,kas,kbd,ksz,kval,koka,kokb,kokp,kput⟩:=QP hR1 hl1;have:loc1=loc:=by have:=hE1.le l loc h1;rw[this] at k1;cases k1;rfl
      subst this;refine⟨_,run_beginRound krec kst,?_⟩;obtain⟨kR,kE⟩:=kput .busy pend1;have e1:({rec1 with state:=.busy,pending:=pend1}:Loop)={rec1 with state:=.busy}:=by rw[← kpe]
      rw[e1] at kR kE;rw[bN.wX] at hΦ;refine hC (some l) body a1 _ act1 _ ι1 _ (some loc1.aT) m 0 _ (by rw[hnt1];exact hokb) hΦ har1 kR (hdl1.ext kE) ⟨loc1,k1,rfl⟩ (Nat.zero_le _) ?_;intro e2 a2 s2 act2 w2 ι2 hΦ2 har2 hR2 hE2 hnt2 hdl2;simp only at hΦ2;split at hΦ2
      ·rename_i st3 pend3 t3 nt3 ps3 as3 bd3 ver3 hl3;obtain⟨loc3,rec3,q1,qrec,qst,qpe,qpa,qas,qbd,qsz,qval,qoka,qokb,qokp,qput⟩:=QP hR2 hl3;have:loc3=loc1:=by have:=hE2.le l loc1 k1;rw[this] at q1;cases q1;rfl
       subst this;cases e2 with
       | normal =>
        obtain⟨qR,qE⟩:=qput .ready none;exact⟨_,_,run_endRound none qrec,.bool true,.bool true,_,ι2,rfl,hΦ2,.bool _,qR,Ext.trans hE1 (Ext.trans kE (Ext.trans hE2 qE))⟩
       | ret =>
        obtain⟨qR,qE⟩:=qput .done (some .ret);exact⟨_,_,run_endRound (some .ret) qrec,.bool false,.bool false,_,ι2,rfl,hΦ2,.bool _,qR,Ext.trans hE1 (Ext.trans kE (Ext.trans hE2 qE))⟩
       | exit id =>
        obtain⟨qR,qE⟩:=qput .done (some (.exit id));exact⟨_,_,run_endRound (some (.exit id)) qrec,.bool false,.bool false,_,ι2,rfl,hΦ2,.bool _,qR,Ext.trans hE1 (Ext.trans kE (Ext.trans hE2 qE))⟩
      ·exact hΦ2.elim
     ·exact hΦ.elim
  ·exact h.elim
 ·exact h.elim
theorem Wz (hK:BI P K) {n:Nat} (hC:JP P (cQ (env P) K n)):wY P (eW (env P) K (n+1)):=by
 refine⟨?_,?_⟩
 ·intro f args s Φ h;unfold eW at h;split at h
  ·rename_i r hr;obtain⟨fn,h1,h2⟩:=hK.fn f args s r hr;exact⟨fn,h1,fun h3=>by rw[h3] at h2;cases h2⟩
  split at h
  ·rename_i fn hf;refine⟨fn,hf,fun hb=>?_⟩;rw[hb] at h;exact h
  ·exact h.elim
 ·intro f fn args args' s w ι Φ r0 m hf hb h ha hR;obtain⟨c,hc⟩:=Option.isSome_iff_exists.1 hb;unfold eW at h;split at h
  ·rename_i r hr;exact callsIn_wide.2 (hK.calls f args args' s r w ι Φ hr h ha hR)
  rw[hf] at h;simp only[hc] at h;split at h
  ·rename_i hle;obtain⟨h1,h2⟩:=VK hf;unfold IG at h2;rw[hc] at h2;simp only[Bool.and_eq_true] at h2;obtain⟨⟨_,hok⟩,hres⟩:=h2;rw[bN.wX] at h;show CallsIn (FW none) m P f args' w _;refine callsIn_of_wp_marks h1 hc trivial ?_ rfl;refine hC none c _ s _ w ι _ none m w.heap.size _ hok h (AR.start ha hle) hR (DL.nil _ _) trivial (Nat.le_refl _) ?_;intro e a' s' act' w' ι' hΦ har hR' hE hnt hdl;have key:∀ v,IQ (env P) s'.look fn a'=some v→Φ (v,s')→LeavesInM (FW none) m P fn act'.tmps (JO P ι s w Φ) act'.defers .returning w':=by
    intro v hv hφ;refine Ic _ w' hR' hE (Nat.le_refl _) hdl ?_;intro w'' hR'' hE'';obtain⟨u,g1,g2⟩:=aEz har hR'' (by rw[hnt];exact hres) hv;exact⟨u,g1,v,u,s',ι',rfl,hφ,g2,hR'',hE''⟩
   cases e with
   | exit=>exact hΦ.elim
   | normal =>
    simp only at hΦ;split at hΦ
    ·exact key _ (by assumption) hΦ
    ·exact hΦ.elim
   | ret =>
    simp only at hΦ;split at hΦ
    ·exact key _ (by assumption) hΦ
    ·exact hΦ.elim
  ·exact h.elim
theorem Je {n:Nat} (hC:JP P (cQ (env P) K n)) (hL:TC P (cQ (env P) K n) n):TC P (cQ (env P) K (n+1)) (n+1):=by
 intro r b a s act w ι Φ r' m lo Q hok h ha hR hdl hr hlo hQ;rw[roundsIn_succ];unfold cQ at h;simp only at h;rw[bN.wX] at h;refine hC r b a s act w ι _ r' m lo _ hok h ha hR hdl hr hlo ?_;intro e a' s' act' w' ι' hΦ har hR' hE hnt hdl';cases e with
 | normal =>
  refine hL r b a' s' act' w' ι' Φ r' m lo Q (by rw[hnt];exact hok) hΦ har hR' hdl' (hr.mono hE.le) (Nat.le_trans hlo hE.size) ?_;rw[hnt];exact hQ.next hE (fun _ h=>h) (fun _ _ _ h=>h)
 | exit id=>exact hQ _ _ _ _ _ _ hΦ har hR' hE hnt hdl'
 | ret=>exact hQ _ _ _ _ _ _ hΦ har hR' hE hnt hdl'
theorem aE1 {n:Nat} (hc:wY P (eW (env P) K n)) {r:Option Nat} {g:Operand} {ps:Array Tmp} {assign body:Code} {a:aK} {act:Act} {Φ:dU×aK×St→Prop} {r':Option Nat} {m lo:Nat} {Q:Exit→Act→World→Prop}
  (hok:oD a.nt (.rangeFunc g ps assign body)=true) (h:(cQ (env P) K (n+1) r (.rangeFunc g ps assign body) a s).jD Φ) (ha:AR ι a act) (hR:RS P ι s w) (hdl:DL lo ι s.look w act.defers) (hr:FX ι r r') (hlo:lo≤w.heap.size)
  (hQ:JN P ι s w a.nt lo Φ Q):(Code.rangeFunc g ps assign body).wpIn (FW r') m P Q act w:=by
 simp only[oD,Bool.and_eq_true] at hok;obtain⟨⟨⟨hokg,hokp⟩,hoka⟩,hokb⟩:=hok;unfold cQ at h;simp only at h;split at h
 ·rename_i f first captured hg;split at h
  ·rename_i hlive;have hv:=ha.eval hR.even hokg;rw[hg] at hv;obtain⟨a',c',hg',hf1,hf2⟩:=hv.VL;refine wpIn_rangeFunc fun fid _=>?_;obtain⟨mark,w0,rec,henter,hR0,hE0,hsz0,hrec,hmark⟩:∃ (mark:List Deferred) (w0:World) (rec:Loop),
     (Instr.enterLoop fid act.tmps ps assign body (FW r').round).run P w=.ok (w0.heap.size,mark) (w0.alloc (.loop rec))∧RS P ι s w0∧ES ι s w ι s w0∧lo≤w0.heap.size ∧
     (rec.state=.ready∧rec.pending=none∧rec.params=ps∧rec.assign=assign∧rec.body=body∧rec.tmps=act.tmps)∧DL lo ι s.look w0 (mark++act.defers):=by
    cases r' with
    | none =>
     refine⟨[{target:=.collected w.heap.size,args:=#[]}],w.alloc (.deferred (some [])),{state:=.ready,pending:=none,fn:=fid,tmps:=act.tmps,params:=ps,assign,body,defers:=w.heap.size},?_,hR.raw _,Ext.raw _,by simp;omega,?_,?_⟩
     ·exact(run_enterLoop_outer fid act.tmps ps assign body).trans (by rw[World.size_alloc])
     ·exact⟨rfl,rfl,rfl,rfl,rfl,rfl⟩
     ·have hd2:=hdl.ext (Ext.raw (ι:=ι) (H:=s.look) (n:=s.next) (w:=w) (.deferred (some [])));refine⟨⟨?_,?_⟩,?_⟩
      ·intro d hd;rcases List.mem_cons.1 hd with rfl | hd
       ·exact⟨w.heap.size,rfl,heap_alloc_new,aC1 (x:=some []) (hR.raw (.deferred (some []))) heap_alloc_new⟩
       ·exact hd2.1.mark d hd
      ·refine List.pairwise_cons.2 ⟨?_,hd2.1.apart⟩;intro d hd D hD hd3;cases hD;obtain⟨D',rfl,k2,_⟩:=hdl.1.mark d hd;cases hd3;have:=jJ k2;omega
      ·intro d hd D hD;rcases List.mem_cons.1 hd with rfl | hd
       ·cases hD;exact hlo
       ·exact hd2.2 d hd D hD
    | some b =>
     cases r with
     | none=>exact hr.elim
     | some l =>
      obtain⟨loc,hl1,rfl⟩:=hr;unfold QO at hlive;simp only at hlive;split at hlive
      ·rename_i hll;obtain⟨loc1,rec1,k1,krec,_⟩:=QP hR hll;rw[hl1] at k1;cases k1;exact⟨[],w,{state:=.ready,pending:=none,fn:=fid,tmps:=act.tmps,params:=ps,assign,body,defers:=rec1.defers},run_enterLoop_inner krec fid act.tmps ps assign body,hR,Ext.refl,hlo,⟨rfl,rfl,rfl,rfl,rfl,rfl⟩,hdl⟩
      ·cases hlive
   obtain⟨e1,e2,e3,e4,e5,e6⟩:=hrec;have hfree:ι s.next=none:=hR.fresh _ (Nat.le_refl _) hR.kT;have hle:=aQ.uQ (l:=⟨w0.heap.size,0,0,false⟩) hfree;obtain⟨hR1,hE1⟩:=RS.new (ex:=0) hR0 (.loop rec) (f:=fun v=>.loop .ready none a.tmps a.nt ps assign body v)
    ⟨rfl,rfl,rfl,hoka,hokb,hokp,rec,heap_alloc_new,e1,e2,e3,e4,e5,by rw[e6];exact ha.size,fun i hi=>by rw[e6];exact(ha.val i hi).mono hle⟩
   have hnew:(ι.add s.next ⟨w0.heap.size,0,0,false⟩) s.next=some ⟨w0.heap.size,0,0,false⟩:=aQ.add_same _ _ _;rw[bN.wX] at h;have hargs:bT (ι.add s.next ⟨w0.heap.size,0,0,false⟩) (first.toList++[Value.func (.yield s.next) #[] #[]]++captured.toList) (a'++#[Value.func (.yield w0.heap.size) #[] #[]]++c').toList:=by
    simp only[Array.toList_append];exact((hf1.mono hle).append (bT.cons (VR.yield hnew) bT.nil)).append (hf2.mono hle)
   obtain⟨fn,hfn,hext⟩:=hc.fn f _ _ _ h;have hbody:fn.body.isSome=true:=by
    cases hb:fn.body with
    | some c=>rfl
    | none =>
     exfalso;have hx:=hext hb;unfold xI at hx;split at hx
     ·split at hx
      ·rename_i t b heq;have h1:(Value.func (.yield s.next) #[] #[])∈first.toList++[Value.func (.yield s.next) #[] #[]]++captured.toList:=by simp
       rw[heq] at h1;simp at h1
      ·exact hx.elim
     ·exact hx.elim
   refine⟨w0.heap.size,mark,w0.alloc (.loop rec),{target:=.fn (.func f) c',args:=a'++#[.func (.yield w0.heap.size) #[] #[]]},w0.alloc (.loop rec),f,a'++#[.func (.yield w0.heap.size) #[] #[]]++c',w0.alloc (.loop rec),
    henter,?_,fun _ _=>trivial,?_,?_,?_⟩
   ·have harg:(#[Operand.const (.func (.yield w0.heap.size) #[] #[])].map act.eval)=#[Value.func (.yield w0.heap.size) #[] #[]]:=by simp[Act.eval]
    simp only[resolve,hg',Deferred.ofValue,Sem.run_pure,harg]
   ·show (callFunc f _).run P _=_;exact Oe hfn hbody _
   ·intro hh;cases hh
   ·refine(hc.calls f fn _ _ _ _ _ _ r' (m-1) hfn hbody h hargs hR1).mono ?_;rintro e w3 ⟨v,u,s3,ι3,rfl,hΦ,hvu,hR3,hE3⟩;have hA3:∀ ds,AR ι3 a {act with defers:=ds}:=fun ds=>⟨ha.size,fun t ht=>(ha.val t ht).mono (aQ.le_trans hle hE3.le)⟩;simp only at hΦ;split at hΦ
    ·rename_i st pend t nt ps3 as3 bd3 bB hl3;obtain⟨loc3,rec3,q1,qrec,qst,qpe,qpa,qas,qbd,qsz,qval,qoka,qokb,qokp,qput⟩:=QP hR3 hl3;have:loc3=⟨w0.heap.size,0,0,false⟩:=by have:=hE3.le _ _ hnew;rw[this] at q1;cases q1;rfl
     subst this;split at hΦ
     ·exact hΦ.elim
     ·rename_i hbusy;obtain⟨qR,qE⟩:=qput .exhausted pend;have hEall:=Ext.trans hE0 (Ext.trans hE1 (Ext.trans hE3 qE));have hD:=(hmark.ext hE1).ext (Ext.trans hE3 qE);refine⟨rec3.pending,_,run_endLoop qrec (by rw[qst];exact hbusy),?_⟩;rw[qpe];split at hΦ
      ·exact hQ .normal a _ _ _ _ hΦ (hA3 _) qR hEall rfl hD
      ·exact wpIn_ret (hQ .ret a _ {act with defers:=mark++act.defers} _ _ hΦ (hA3 _) qR hEall rfl hD)
      ·exact wpIn_exit (hQ (.exit _) a _ {act with defers:=mark++act.defers} _ _ hΦ (hA3 _) qR hEall rfl hD)
      ·exact hΦ.elim
    ·exact hΦ.elim
  ·exact h.elim
 ·exact h.elim
theorem Xv (hD:db P) (hK:BI P K) {n:Nat} (hC:JP P (cQ (env P) K n)) (hL:TC P (cQ (env P) K n) n) (hc:wY P (eW (env P) K n)) (hr:BJ P (gN (env P) K n)):JP P (cQ (env P) K (n+1)):=by
 intro r c a s act w ι Φ r' m lo Q hok h ha hR hdl hrd hlo hQ;cases c with
 | rangeFunc g ps aJ6 bd=>exact aE1 hc hok h ha hR hdl hrd hlo hQ
 | loop b=>exact wpIn_loop_rounds (n+1) (Je hC hL r b a s act w ι Φ r' m lo Q hok h ha hR hdl hrd hlo hQ)
 | skip=>unfold cQ at h;exact wpIn_skip (hQ .normal a s act w ι h ha hR Ext.refl rfl hdl)
 | label l=>unfold cQ at h;exact wpIn_label (hQ .normal a s act w ι h ha hR Ext.refl rfl hdl)
 | exit id=>unfold cQ at h;exact wpIn_exit (hQ (.exit id) a s act w ι h ha hR Ext.refl rfl hdl)
 | ret=>unfold cQ at h;exact wpIn_ret (hQ .ret a s act w ι h ha hR Ext.refl rfl hdl)
 | scope=>unfold cQ at h;exact h.elim
 | goto=>unfold cQ at h;exact h.elim
 | refuse=>unfold cQ at h;exact h.elim
 | region id ops draw =>
  simp only[oD,Bool.and_eq_true] at hok;unfold cQ at h;simp only at h;rw[bN.wX] at h;cases draw with
  | true =>
   simp only[if_true] at h;obtain⟨e1,e2,e3⟩:=gk (X:=env P) hK.Ax n;refine hD _ _ hc hr e2 e3 id ops a s act w ι _ r' m Q hok.1 (by simpa using hok.2) h ha hR ?_;intro a' s' act' w' ι' h1 h2 h3 h4 h5 h6;exact hQ .normal a' s' act' w' ι' h1 h2 h3 h4 h5 (by rw[h6];exact hdl.ext h4)
  | false =>
   simp only[Bool.false_eq_true,if_false] at h;refine wpIn_region ?_;rw[List.range_eq_range'];have:=ss (r:=r') (m:=m) hc hr (ops:=ops) (Q:=Q) ops.toList 0 (fun j=>by simp) a s act w ι _ hok.1 h ha hR ?_
   ·simpa using this
   ·intro a' s' act' w' ι' h1 h2 h3 h4 h5 h6;exact hQ .normal a' s' act' w' ι' h1 h2 h3 h4 h5 (by rw[h6];exact hdl.ext h4)
 | seq x y =>
  simp only[oD,Bool.and_eq_true] at hok;unfold cQ at h;simp only at h;rw[bN.wX] at h;refine wpIn_seq (hC r x a s act w ι _ r' m lo _ hok.1 h ha hR hdl hrd hlo ?_);intro e a' s' act' w' ι' hΦ har hR' hE hnt hdl';cases e with
  | normal =>
   refine hC r y a' s' act' w' ι' Φ r' m lo Q (by rw[hnt];exact hok.2) hΦ har hR' hdl' (hrd.mono hE.le) (Nat.le_trans hlo hE.size) ?_;rw[hnt];exact hQ.next hE (fun _ h=>h) (fun _ _ _ h=>h)
  | exit id=>exact hQ _ _ _ _ _ _ hΦ har hR' hE hnt hdl'
  | ret=>exact hQ _ _ _ _ _ _ hΦ har hR' hE hnt hdl'
 | cond c x y =>
  simp only[oD,Bool.and_eq_true] at hok;unfold cQ at h;simp only at h;have hv:=ha.eval hR.even hok.1.1;split at h
  ·rename_i hc';rw[hc'] at hv;exact wpIn_cond_true hv.yY (hC r x a s act w ι Φ r' m lo Q hok.1.2 h ha hR hdl hrd hlo hQ)
  ·rename_i hc';rw[hc'] at hv;exact wpIn_cond_false hv.yY (hC r y a s act w ι Φ r' m lo Q hok.2 h ha hR hdl hrd hlo hQ)
  ·exact h.elim
 | block id b =>
  simp only[oD] at hok;unfold cQ at h;simp only at h;rw[bN.wX] at h;refine wpIn_block (hC r b a s act w ι _ r' m lo _ hok h ha hR hdl hrd hlo ?_);intro e a' s' act' w' ι' hΦ har hR' hE hnt hdl';cases e with
  | normal=>exact hQ .normal _ _ _ _ _ hΦ har hR' hE hnt hdl'
  | ret=>exact hQ .ret _ _ _ _ _ hΦ har hR' hE hnt hdl'
  | exit i =>
   simp only at hΦ;show if i=id then Q .normal act' w' else Q (.exit i) act' w';split at hΦ
   ·rename_i e;rw[if_pos e];exact hQ .normal _ _ _ _ _ hΦ har hR' hE hnt hdl'
   ·rename_i e;rw[if_neg e];exact hQ (.exit i) _ _ _ _ _ hΦ har hR' hE hnt hdl'
theorem wz (hD:db P) (hK:BI P K):∀ n,JP P (cQ (env P) K n)∧TC P (cQ (env P) K n) n∧wY P (eW (env P) K n)∧BJ P (gN (env P) K n)
 | 0=>by
  refine⟨?_,?_,⟨?_,?_⟩,?_⟩
  ·intro r c a s act w ι Φ r' m lo Q _ h;unfold cQ at h;exact h.elim
  ·intro r b a s act w ι Φ r' m lo Q _ h;unfold cQ at h;exact h.elim
  ·intro f args s Φ h;unfold eW at h;exact h.elim
  ·intro f fn args args' s w ι Φ r m _ _ h;unfold eW at h;exact h.elim
  ·intro l args args' s w ι Φ r m h;unfold gN at h;exact h.elim
 | n+1=>by
  obtain⟨h1,h2,h3,h4⟩:=wz hD hK n;exact⟨Xv hD hK h1 h2 h3 h4,Je h1 h2,Wz hK h1,aF9 h1⟩
end
end Go.Dust
end
namespace Go.Dust
inductive bN.le {α:Type}:bN α→bN α→Prop
 | fail (w:String) (y:bN α):le (.fail w) y
 | ret (a:α):le (.ret a) (.ret a)
 | ask (n:Nat) (k k':Nat→bN α) (h:∀ i,le (k i) (k' i)):le (.ask n k) (.ask n k')
namespace bN
variable {α β:Type}
theorem le.refl:∀ x:bN α,le x x
 | .fail w=>.fail w _
 | .ret a=>.ret a
 | .ask n k=>.ask n k k fun i=>le.refl (k i)
theorem le.trans {x y z:bN α} (h:le x y) (k:le y z):le x z:=by
 induction h generalizing z with
 | fail w y=>exact .fail w _
 | ret a=>exact k
 | ask n k1 k2 h ih =>
  cases k with
  | ask n k2 k3 h'=>exact .ask n _ _ fun i=>ih i (h' i)
theorem le.bind {x y:bN α} {f g:α→bN β} (h:le x y) (hf:∀ a,le (f a) (g a)):le (x.bind f) (y.bind g):=by
 induction h with
 | fail w y=>exact .fail w _
 | ret a=>exact hf a
 | ask n k k' h ih=>exact .ask n _ _ ih
theorem le.all {Φ:α→Prop} {x y:bN α} (h:le x y) (hx:x.jD Φ):y.jD Φ:=by
 induction h with
 | fail w y=>exact hx.elim
 | ret a=>exact hx
 | ask n k k' h ih=>exact fun i hi=>ih i (hx i hi)
end bN
def BV (c c':gS):Prop:=∀ f args s,bN.le (c f args s) (c' f args s)
def BW (r r':gW):Prop:=∀ l args s,bN.le (r l args s) (r' l args s)
theorem pq {α:Type} {b:Prop} [Decidable b] {x y x' y':bN α} (h:bN.le x x') (k:bN.le y y'):bN.le (if b then x else y) (if b then x' else y'):=by
 split
 ·exact h
 ·exact k
section
variable {X:Env} {K:eI} {c c':gS} {r r':gW}
theorem fg (hc:BV c c') (hr:BW r r') (s f args):bN.le (rI X c r s f args) (rI X c' r' s f args):=by
 unfold rI;split
 ·exact hc _ _ _
 ·exact hr _ _ _
 ·split
  ·split
   ·exact hc _ _ _
   ·exact .refl _
  ·exact .refl _
 ·exact .refl _
theorem Ai (hc:BV c c') (hr:BW r r') (s ρ op):bN.le (gI X c r s ρ op) (gI X c' r' s ρ op):=by
 cases op with
 | call cl =>
  simp only[gI];cases cl.callee with
  | value f=>exact fg hc hr _ _ _
  | invoke x name =>
   simp only;split
   ·split
    ·exact hc _ _ _
    ·exact .refl _
   ·exact .refl _
  | builtin b=>cases b <;> exact .refl _
 | _=>exact .refl _
theorem Zw (hc:BV c c') (hr:BW r r') (s ρ op):bN.le (nK X c r s ρ op) (nK X c' r' s ρ op):=by
 unfold nK;cases fB op with
 | effect=>exact Ai hc hr _ _ _
 | _=>exact .refl _
theorem aj (hc:BV c c') (hr:BW r r') (ops):∀ l a s,bN.le (iM X c r ops l a s) (iM X c' r' ops l a s)
 | [],_,_=>.refl _
 | o::l,a,s=>by
  rw[iM,iM];split
  ·exact(Zw hc hr _ _ _).bind fun p=>aj hc hr ops l _ _
  ·exact aj hc hr ops l _ _
theorem Zx (hc:BV c c') (hr:BW r r') {nm s ρ op x} (h:nL X c r nm s ρ op=some x):nL X c' r' nm s ρ op=some x:=by
 unfold nL at h ⊢;cases hk:fB op with
 | effect =>
  rw[hk] at h;simp only at h ⊢;have hle:=Ai (X:=X) hc hr s ρ op;revert h hle;generalize gI X c r s ρ op=u;generalize gI X c' r' s ρ op=w;intro h hle;cases hle with
  | fail w y=>cases h
  | ret a=>exact h
  | ask n k k' hh=>cases h
 | _=>rw[hk] at h;exact h
theorem YB (hc:BV c c') (hr:BW r r') (ops base):∀ l i a s x,gJ X c r ops base l i a s=some x→gJ X c' r' ops base l i a s=some x
 | [],_,_,_,_,h=>h
 | o::l,i,a,s,x,h=>by
  rw[gJ] at h ⊢;split at h
  ·rename_i hw;rw[if_pos hw];cases he:nL X c r (base+2*i) s a.eval o.op with
   | none=>rw[he] at h;cases h
   | some p =>
    rw[he] at h;rw[Zx hc hr he];simp only at h ⊢;cases hl:gJ X c r ops base l (i+1) (a.put o.dst p.1) p.2 with
    | none=>rw[hl] at h;cases h
    | some q =>
     rw[hl] at h;rw[YB hc hr ops base l _ _ _ _ hl];exact h
  ·rename_i hw;rw[if_neg hw];cases hl:gJ X c r ops base l (i+1) (a.put o.dst undef) s with
   | none=>rw[hl] at h;cases h
   | some q =>
    rw[hl] at h;rw[YB hc hr ops base l _ _ _ _ hl];exact h
theorem Ys (hc:BV c c') (hr:BW r r') (ops a s):bN.le (zK X c r ops a s) (zK X c' r' ops a s):=by
 unfold zK;cases xD ops with
 | none=>exact .refl _
 | some cf =>
  simp only;cases hl:gJ X c r ops s.next ops.toList 0 a {heap:=s.heap,next:=s.next+2*ops.size,aR:=s.aR} with
  | none=>exact .fail _ _
  | some q =>
   rw[YB hc hr ops _ _ _ _ _ _ hl];exact .refl _
end
theorem DU (X:Env) (K:eI):∀ n,(∀ r c a s,bN.le (cQ X K n r c a s) (cQ X K (n+1) r c a s))∧BV (eW X K n) (eW X K (n+1))∧BW (gN X K n) (gN X K (n+1)):=by
 intro n
 induction n with
 | zero =>
  refine⟨fun r c a s=>?_,fun f args s=>?_,fun l args s=>?_⟩
  ·rw[cQ];exact .fail _ _
  ·rw[eW];exact .fail _ _
  ·rw[gN];exact .fail _ _
 | succ n ih =>
  obtain⟨ic,ik,ir⟩:=ih;refine⟨fun r c a s=>?_,fun f args s=>?_,fun l args s=>?_⟩
  ·cases c with
   | region id ops draw =>
    rw[cQ,cQ];refine bN.le.bind ?_ fun p=>.refl _;cases draw with
    | false=>exact aj ik ir _ _ _ _
    | true=>exact Ys ik ir _ _ _
   | seq x y =>
    rw[cQ,cQ];refine(ic _ _ _ _).bind fun p=>?_;rcases p with ⟨e,a,s⟩;cases e with
    | normal=>exact ic _ _ _ _
    | _=>exact .refl _
   | cond cnd x y =>
    rw[cQ,cQ];cases a.eval cnd with
    | bool b=>cases b <;> exact ic _ _ _ _
    | _=>exact .refl _
   | block id b =>
    rw[cQ,cQ];exact(ic _ _ _ _).bind fun p=>.refl _
   | loop b =>
    rw[cQ,cQ];refine(ic _ _ _ _).bind fun p=>?_;rcases p with ⟨e,a,s⟩;cases e with
    | normal=>exact ic _ _ _ _
    | _=>exact .refl _
   | rangeFunc g ps aJ6 bd =>
    rw[cQ,cQ];cases a.eval g with
    | func fn first captured =>
     cases fn with
     | func f =>
      simp only;exact pq ((ik _ _ _).bind fun p=>.refl _) (.refl _)
     | _=>exact .refl _
    | _=>exact .refl _
   | _=>rw[cQ,cQ];exact .refl _
  ·rw[eW,eW];cases K f args s with
   | some r=>exact .refl _
   | none =>
   cases X.fn f with
   | none=>exact .refl _
   | some fn =>
    simp only;cases fn.body with
    | none=>exact .refl _
    | some c=>exact pq ((ic _ _ _ _).bind fun p=>.refl _) (.refl _)
  ·rw[gN,gN];cases s.heap.get l with
   | none=>exact .refl _
   | some o =>
    cases o with
    | loop st pend t nt ps aJ6 bd v =>
     cases st with
     | ready =>
      simp only;refine pq ((ic _ _ _ _).bind fun p=>?_) (.refl _);rcases p with ⟨e,a,s⟩;cases e with
      | normal =>
       simp only;cases s.heap.get l with
       | none=>exact .refl _
       | some o =>
        cases o with
        | loop st pend t nt ps aJ6 bd v =>
         cases st with
         | ready=>exact(ic _ _ _ _).bind fun p=>.refl _
         | _=>exact .refl _
        | _=>exact .refl _
      | _=>exact .refl _
     | _=>exact .refl _
    | _=>exact .refl _
theorem zo {X:Env} {K:eI} {n m:Nat} (h:n≤m):BV (eW X K n) (eW X K m):=by
 induction h with
 | refl=>exact fun _ _ _=>.refl _
 | step _ ih=>exact fun f args s=>bN.le.trans (ih f args s) ((DU X K _).2.1 f args s)
theorem Nv {X:Env} {K:eI} {n m:Nat} (h:n≤m):BW (gN X K n) (gN X K m):=by
 induction h with
 | refl=>exact fun _ _ _=>.refl _
 | step _ ih=>exact fun f args s=>bN.le.trans (ih f args s) ((DU X K _).2.2 f args s)
end Go.Dust
