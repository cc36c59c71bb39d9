/- The plain interpreter D and its laws (Dc Dd De). -/
import Derived.Test.YtaoiejcaopgjcaaGreatA
set_option linter.unusedVariables false
set_option linter.unusedSimpArgs false
namespace Go.Dust
variable {P:Program}
theorem EM {t:TypeId} {i:Ty} (h:(env P).ty t=some i) :
  ∃ inf,P.info? t=some inf∧P.underlying t=some i.desc∧i.size=inf.size∧i.bytes=inf.bytes∧i.agg=sq i.desc∧i.methods=inf.methods ∧
   (∀ z,i.zero=some z→inf.zero=some z∧FE z=true)∧(i.cmp=true→P.stoodInHeld t=false∧P.eqGuardType P.depth t=false):=by
 have h1:ll P t=some i:=by
  have h0:(match (YY P).get t with | some x=>x | none=>none)=some i:=h;unfold YY at h0;rw[PT.sF] at h0;simp only[List.getElem?_map] at h0;by_cases ht:t<P.types.size
  ·rw[List.getElem?_range ht] at h0;simpa using h0
  ·rw[List.getElem?_eq_none (by simpa using ht)] at h0;simp at h0
 unfold ll at h1;split at h1
 ·rename_i inf d hi hd;cases h1;refine⟨inf,hi,hd,rfl,rfl,rfl,rfl,?_,by simp⟩;intro z hz;simp only at hz;split at hz
  ·rename_i z' hz';split at hz
   ·rename_i hc;cases hz;exact⟨hz',hc⟩
   ·cases hz
  ·cases hz
 ·cases h1
theorem JD {f:FuncId} {fn:Func} (h:(env P).fn f=some fn):P.funcs[f]?=some fn∧BF fn=true:=by
 have h0:(match (NG P).get f with | some x=>x | none=>none)=some fn:=h;unfold NG at h0;rw[PT.sF] at h0;simp only[List.getElem?_map,Array.getElem?_toList] at h0;cases hf:P.funcs[f]? with
 | none=>rw[hf] at h0;simp at h0
 | some g =>
  rw[hf] at h0;simp only[Option.map_some] at h0;by_cases hok:BF g=true
  ·rw[if_pos hok] at h0;cases h0;exact⟨rfl,hok⟩
  ·rw[if_neg hok] at h0;cases h0
section typefacts
variable {t:TypeId} {i:Ty} {w:World}
theorem eH (h:(env P).ty t=some i):(underlying t).run P w=.ok i.desc w:=by
 obtain⟨inf,h1,h2,_⟩:=EM h;simp[underlying,h2]
theorem pE (h:(env P).ty t=some i):(sizeOf t).run P w=.ok i.size w:=by
 obtain⟨inf,h1,h2,h3,_⟩:=EM h;simp[sizeOf,typeInfo,h1,h3]
theorem XZ (h:(env P).ty t=some i):(isAgg t).run P w=.ok i.agg w:=by
 obtain⟨inf,h1,h2,h3,h4,h5,_⟩:=EM h;rw[h5];unfold isAgg;rw[Sem.run_bind,eH h];simp only[Result.andThen_ok];cases i.desc <;> rfl
theorem zR (h:(env P).ty t=some i) {z:Value} (hz:i.zero=some z):(zeroValue t).run P w=.ok z w:=by
 obtain⟨inf,h1,h2,h3,h4,h5,h6,h7⟩:=EM h;simp[zeroValue,typeInfo,h1,(h7.1 z hz).1]
theorem EW (h:(env P).ty t=some i) {z:Value} (hz:i.zero=some z):FE z=true:=by
 obtain⟨inf,h1,h2,h3,h4,h5,h6,h7⟩:=EM h;exact(h7.1 z hz).2
theorem PS (h:(env P).ty t=some i):∃ inf,(typeInfo t).run P w=.ok inf w∧inf.bytes=i.bytes∧inf.methods=i.methods:=by
 obtain⟨inf,h1,h2,h3,h4,h5,h6,_⟩:=EM h;exact⟨inf,by simp[typeInfo,h1],h4.symm,h6.symm⟩
end typefacts
def World.gR (w:World) (b:Nat) (o:Obj):World:={w with heap:=w.heap.setIfInBounds b o}
theorem Cv {w:World} {b c:Nat} {o:Obj}:(World.gR w b o).heap[c]?=if c=b∧b<w.heap.size then some o else w.heap[c]?:=by
 unfold World.gR;simp only[Array.getElem?_setIfInBounds];by_cases h:b=c
 ·subst h;by_cases hb:b<w.heap.size
  ·simp[hb]
  ·simp[hb]
 ·rw[if_neg h,if_neg (by omega)]
theorem yV {w:World} {b:Nat} {o:Obj} (h:b<w.heap.size):(World.gR w b o).heap[b]?=some o:=by rw[Cv,if_pos ⟨rfl,h⟩]
theorem GA {w:World} {b c:Nat} {o:Obj} (h:c≠b):(World.gR w b o).heap[c]?=w.heap[c]?:=by rw[Cv,if_neg (by omega)]
@[simp] theorem Ny {w:World} {b:Nat} {o:Obj}:(World.gR w b o).heap.size=w.heap.size:=by simp[World.gR]
theorem aGu {w:World} {b:Nat} {o o':Obj}:World.gR (World.gR w b o) b o'=World.gR w b o':=by simp[World.gR]
theorem Ng {w:World} {b:Nat} {o:Obj} (h:w.heap[b]?=some o):World.gR w b o=w:=by
 cases w with
 | mk heap tape drawn os output =>
  simp only[World.gR];congr 1;apply Array.ext_getElem?;intro i;rw[Array.getElem?_setIfInBounds];by_cases e:b=i
  ·subst e;obtain⟨bY,_⟩:=Array.getElem?_eq_some_iff.1 h;rw[if_pos rfl,if_pos bY];exact h.symm
  ·rw[if_neg e]
theorem iO {w:World} {b:Nat} {o:Obj} (h:w.heap[b]?=some o):b<w.heap.size:=(Array.getElem?_eq_some_iff.1 h).1
theorem heap_alloc_old {w:World} {o:Obj} {c:Nat} (h:c<w.heap.size):(w.alloc o).heap[c]?=w.heap[c]?:=by
 show (w.heap.push o)[c]?=_;rw[Array.getElem?_push,if_neg (by omega)]
theorem heap_alloc_new {w:World} {o:Obj}:(w.alloc o).heap[w.heap.size]?=some o:=World.alloc_heap_new w o
def tC (arr:Array Value) (off:Nat):List Value→Array Value
 | []=>arr
 | v::vs=>tC (arr.setIfInBounds off v) (off+1) vs
@[simp] theorem pv:∀ (vs:List Value) (arr:Array Value) (off:Nat),(tC arr off vs).size=arr.size
 | [],_,_=>rfl
 | _::vs,arr,off=>by rw[tC,pv vs];simp
theorem dp:∀ (vs:List Value) (arr:Array Value) (off i:Nat),off+vs.length≤arr.size →
  (tC arr off vs)[i]?=if off≤i then(match vs[i-off]? with | some v=>some v | none=>arr[i]?) else arr[i]?
 | [],arr,off,i,_=>by simp[tC]
 | v::vs,arr,off,i,h=>by
  simp only[List.length_cons] at h;rw[tC,dp vs _ _ _ (by simp;omega)];by_cases h1:off+1≤i
  ·obtain⟨d,hd⟩:∃ d,i-off=d+1:=⟨i-off-1,by omega⟩;rw[if_pos h1,if_pos (by omega),hd,show i-(off+1)=d from by omega,List.getElem?_cons_succ,Array.getElem?_setIfInBounds,if_neg (by omega)]
  ·rw[if_neg h1];by_cases h2:off≤i
   ·have:i=off:=by omega
    subst this;rw[if_pos (Nat.le_refl _),Nat.sub_self,Array.getElem?_setIfInBounds,if_pos rfl,if_pos (by omega)];rfl
   ·rw[if_neg h2,Array.getElem?_setIfInBounds,if_neg (by omega)]
theorem Addr.qF (b o n:Nat):(⟨b,o,none⟩:Addr).add n=⟨b,o+n,none⟩:=by
 unfold Addr.add;split
 ·rename_i h;subst h;simp
 ·rfl
theorem aE9 {v:Value} (h:iB v=true):v.oneCell'=true:=by
 cases v <;> first | rfl | (simp[iB] at h)
theorem VR.iB {ι:aP} {v u:Value} (h:VR ι v u):iB v=iB u:=by cases h <;> rfl
theorem bQ.iB {ι:aP}:∀ {l l':List Value},bQ ι l l'→l.all Dust.iB=l'.all Dust.iB
 | _,_,.nil=>rfl
 | _,_,.cons h t=>by simp[h.iB,t.iB]
theorem pg:∀ (vs:List Value) (w:World) (b o i:Nat) (arr:Array Value) (e:TypeId),w.heap[b]?=some (.cells arr e (0,0))→vs.all iB=true →
  o+i+vs.length≤arr.size→(storeCells ⟨b,o,none⟩ vs i).run P w=.ok () (World.gR w b (.cells (tC arr (o+i) vs) e (0,0)))
 | [],w,b,o,i,arr,e,h,_,_=>by
  simp only[storeCells,tC,Sem.run_pure];rw[Ng h]
 | v::vs,w,b,o,i,arr,e,h,h1,h2=>by
  simp only[List.all_cons,Bool.and_eq_true] at h1;simp only[List.length_cons] at h2;have hc:w.cell? ⟨b,o+i,none⟩=some arr[o+i]:=by
   simp[World.cell?,h,show o+i<arr.size from by omega]
  have hf:w.frozen? ⟨b,o+i,none⟩=false:=by simp[World.frozen?,h]
  have hset:w.setCell ⟨b,o+i,none⟩ v=World.gR w b (.cells (arr.setIfInBounds (o+i) v) e (0,0)):=by
   unfold World.setCell World.gR;congr 1;apply Array.ext_getElem?;intro j;rw[Array.getElem?_setIfInBounds,Array.getElem?_modify];by_cases ej:b=j
   ·subst ej;rw[if_pos rfl,if_pos rfl,if_pos (iO h),h];simp
   ·simp[ej]
  have hst:(Go.store ((⟨b,o,none⟩:Addr).add i) v).run P w=.ok () (World.gR w b (.cells (arr.setIfInBounds (o+i) v) e (0,0))):=by
   rw[Addr.qF,← hset];rw[run_store P w _ v _ (aE9 h1.1)];simp[hc,hf]
  simp only[storeCells,Sem.run_bind,hst,Result.andThen_ok];rw[pg vs _ b o (i+1) (arr.setIfInBounds (o+i) v) e (yV (iO h)) h1.2 (by simp;omega),aGu];simp only[tC,show o+(i+1)=o+i+1 from by omega]
theorem run_loadCellsFrom:∀ (k:Nat) (w:World) (b o i:Nat) (arr:Array Value) (e:TypeId) (fz:Nat×Nat) (acc:Array Value),w.heap[b]?=some (.cells arr e fz) →
  o+i+k≤arr.size→(loadCellsFrom ⟨b,o,none⟩ i k acc).run P w=.ok (acc++((arr.toList.drop (o+i)).take k).toArray) w
 | 0,w,b,o,i,arr,e,fz,acc,h,hk=>by simp[loadCellsFrom]
 | k+1,w,b,o,i,arr,e,fz,acc,h,hk=>by
  have hc:w.cell? ⟨b,o+i,none⟩=some arr[o+i]:=by
   simp[World.cell?,h,show o+i<arr.size from by omega]
  simp only[loadCellsFrom,Sem.run_bind,Addr.qF];have hl:(load ⟨b,o+i,none⟩).run P w=.ok arr[o+i] w:=by simp[load,Sem.run,hc]
  rw[hl];simp only[Result.andThen_ok];rw[run_loadCellsFrom k w b o (i+1) arr e fz _ h (by omega)];congr 1;rw[List.drop_eq_getElem_cons (i:=o+i) (by simp;omega),List.take_succ_cons];apply Array.toList_inj.1;simp[show o+(i+1)=o+i+1 from by omega]
theorem run_loadCells {k:Nat} {w:World} {b o:Nat} {arr:Array Value} {e:TypeId} {fz:Nat×Nat} (h:w.heap[b]?=some (.cells arr e fz)) (hk:k=0∨o+k≤arr.size) :
  (loadCells ⟨b,o,none⟩ k).run P w=.ok ((arr.toList.drop o).take k).toArray w:=by
 rcases hk with rfl | hk
 ·simp[loadCells,loadCellsFrom]
 have:=run_loadCellsFrom (P:=P) k w b o 0 arr e fz #[] h (by omega);simpa [loadCells] using this
structure ER (ι:aP) (e e':MapEntry):Prop where
 key:VR ι e.key e'.key
 val:VR ι e.val e'.val
 born:e.born=e'.born
inductive fB (ι:aP):List MapEntry→List MapEntry→Prop
 | nil:fB ι [] []
 | cons {e e':MapEntry} {l l':List MapEntry} (h:ER ι e e') (t:fB ι l l'):fB ι (e::l) (e'::l')
theorem ER.mono {ι ι':aP} (hle:ι.le ι') {e e':MapEntry} (h:ER ι e e'):ER ι' e e':=⟨h.key.mono hle,h.val.mono hle,h.born⟩
theorem fB.mono {ι ι':aP} (hle:ι.le ι'):∀ {l l':List MapEntry},fB ι l l'→fB ι' l l'
 | _,_,.nil=>.nil
 | _,_,.cons h t=>.cons (h.mono hle) (fB.mono hle t)
def jD (X:Env) (ι:aP) (w:World) (l:Loc):bU→Prop
 | .cells c z n e room ro _=>∃ arr e' fz,w.heap[l.bL]?=some (.cells arr e' fz)∧(ro=false→fz=(0,0))∧l.ro=ro∧(room=false→l.extra=0) ∧
   (∀ ei,X.ty e=some ei→l.off+n+l.extra*ei.size≤arr.size)∧l.off+n≤arr.size ∧
   (∀ i,i<n→∃ v u,cellAt c z n i=some v∧arr[l.off+i]?=some u∧VR ι v u)
 | .map es clock _=>l.ro=false∧l.off=0∧l.extra=0∧∃ es',w.heap[l.bL]?=some (.map es' clock)∧fB ι es es'.toList
 | .gC m since seen stepped _=>l.ro=false∧l.off=0∧l.extra=0∧(match m with
   | none=>∃ a b c,w.heap[l.bL]?=some (.mapIter none a b c)
   | some m=>∃ lm,ι m=some lm∧w.heap[l.bL]?=some (.mapIter (some lm.bL) since seen.reverse.toArray stepped))
 | .pF s pos _=>l.ro=false∧l.off=0∧l.extra=0∧w.heap[l.bL]?=some (.stringIter s pos)
 | .loop st pend t nt ps aKe bd _=>l.ro=false∧l.off=0∧l.extra=0∧fK nt aKe=true∧fK nt bd=true∧ps.toList.all (fun p=>decide (p<nt))=true ∧
   ∃ r:Loop,w.heap[l.bL]?=some (.loop r)∧r.state=st∧r.pending=pend∧r.params=ps∧r.assign=aKe∧r.body=bd∧r.tmps.size=nt ∧
    (∀ i,i<nt→VR ι ((t.get i).getD undef) (r.tmps.getD i undef))
 | .dead=>True
theorem jD.mono {X:Env} {ι ι':aP} {w w':World} {l:Loc} (hle:ι.le ι') (hw:w'.heap[l.bL]?=w.heap[l.bL]?):∀ {o:bU},jD X ι w l o→jD X ι' w' l o
 | .cells ..,h=>by
  obtain⟨arr,e',fz,h1,h2,h3,h4,h5,h6,h7⟩:=h;exact⟨arr,e',fz,hw.trans h1,h2,h3,h4,h5,h6,fun i hi=>let ⟨v,u,a,b,c⟩:=h7 i hi;⟨v,u,a,b,c.mono hle⟩⟩
 | .map ..,h=>by
  obtain⟨h0,h1,h2,es',h3,h4⟩:=h;exact⟨h0,h1,h2,es',hw.trans h3,h4.mono hle⟩
 | .gC none ..,h=>by
  obtain⟨h0,h1,h2,a,b,c,h3⟩:=h;exact⟨h0,h1,h2,a,b,c,hw.trans h3⟩
 | .gC (some m) ..,h=>by
  obtain⟨h0,h1,h2,lm,h3,h4⟩:=h;exact⟨h0,h1,h2,lm,hle _ _ h3,hw.trans h4⟩
 | .pF ..,h=>⟨h.1,h.2.1,h.2.2.1,hw.trans h.2.2.2⟩
 | .loop ..,h=>by
  obtain⟨h0,h1,h2,h3,h4,h4',r,h5,h6,h7,h8,h9,h10,h11,h12⟩:=h;exact⟨h0,h1,h2,h3,h4,h4',r,hw.trans h5,h6,h7,h8,h9,h10,h11,fun i hi=>(h12 i hi).mono hle⟩
 | .dead,_=>trivial
def Own (ι:aP) (H:bG) (c:Nat):Prop:=∃ b o l,H b=some o∧o.cS=false∧ι b=some l∧l.ro=false∧l.bL=c
structure R (X:Env) (ι:aP) (H:bG) (n:Nat) (w:World):Prop where
 even:∀ b,ι (2*b)=some ⟨b,0,0,true⟩
 jZ:n%2=1
 fresh:∀ b,n≤b→b%2=1→ι b=none
 sK:∀ b l,ι b=some l→l.ro=false→l.bL<w.heap.size
 obj:∀ b o,H b=some o→o.cS=false→∃ l,ι b=some l∧jD X ι w l o
 inj:∀ b b' o o' l l',H b=some o→o.cS=false→H b'=some o'→o'.cS=false→ι b=some l→ι b'=some l'→l.ro=false→l.bL=l'.bL→b=b'
structure Ext (ι:aP) (H:bG) (n:Nat) (w:World) (ι':aP) (H':bG) (n':Nat) (w':World):Prop where
 le:ι.le ι'
 new:∀ b,ι b=none→(b<n∨n'≤b)→ι' b=none
 zM:n≤n'
 os:w'.os=w.os
 tape:w'.tape=w.tape
 output:w'.output=w.output
 size:w.heap.size≤w'.heap.size
 aD:∀ c,c<w.heap.size→¬ Own ι H c→w'.heap[c]?=w.heap[c]?
 own:∀ c,Own ι' H' c→Own ι H c∨w.heap.size≤c
section
variable {X:Env} {ι ι' ι'':aP} {H H' H'':bG} {n n' n'':Nat} {w w' w'':World}
theorem Ext.refl:Ext ι H n w ι H n w:=⟨aP.le_refl _,fun _ h _=>h,Nat.le_refl _,rfl,rfl,rfl,Nat.le_refl _,fun _ _ _=>rfl,fun _ h=>.inl h⟩
theorem Ext.trans (h:Ext ι H n w ι' H' n' w') (k:Ext ι' H' n' w' ι'' H'' n'' w''):Ext ι H n w ι'' H'' n'' w'' :=
 ⟨aP.le_trans h.le k.le,fun b hb hn=>k.new b (h.new b hb (by have:=k.zM;omega)) (by have:=h.zM;omega),Nat.le_trans h.zM k.zM,
  k.os.trans h.os,k.tape.trans h.tape,k.output.trans h.output,Nat.le_trans h.size k.size,
  fun c hc ho=>(k.aD c (Nat.lt_of_lt_of_le hc h.size) (fun ho'=>(h.own c ho').elim ho (by omega))).trans (h.aD c hc ho),
  fun c ho=>(k.own c ho).elim (h.own c) (fun hs=>.inr (Nat.le_trans h.size hs))⟩
def fI (H:bG) (b:Nat) (o:bU):bG:=fun c=>if c=b then some o else H c
theorem jz (s:St) (b:Nat) (f:Nat→bU):(s.put b f).look=fI s.look b (f s.aO):=by
 funext c;simp[St.look,St.put,fI,PT.fC]
theorem WC (s:St) (f:Nat→bU):(s.new f).look=fI s.look s.next (f s.aO):=by
 funext c;simp[St.look,St.new,fI,PT.fC]
theorem R.cu (h:R X ι H n w) (hs:∀ b o,H' b=some o→o.cS=false→H b=some o):R X ι H' n w :=
 ⟨h.even,h.jZ,h.fresh,h.sK,fun b o hb hd=>h.obj b o (hs b o hb hd) hd,
  fun b b' o o' l l' hb hd hb' hd'=>h.inj b b' o o' l l' (hs b o hb hd) hd (hs b' o' hb' hd') hd'⟩
theorem R.drew (h:R X ι H n w) (hh:w'.heap=w.heap):R X ι H n w' :=
 ⟨h.even,h.jZ,h.fresh,fun b l hb hr=>hh ▸ h.sK b l hb hr,fun b o hb hd=>let ⟨l,h1,h2⟩:=h.obj b o hb hd;⟨l,h1,h2.mono (aP.le_refl _) (by rw[hh])⟩,h.inj⟩
theorem R.put (h:R X ι H n w) {b:Nat} {o:bU} {l:Loc} (hb:H b=some o) (hd:o.cS=false) (hl:ι b=some l) (hro:l.ro=false) (x:Obj) {o':bU}
  (ho:jD X ι (World.gR w l.bL x) l o'):R X ι (fI H b o') n (World.gR w l.bL x):=by
 refine⟨h.even,h.jZ,h.fresh,fun b l hb hr=>by rw[Ny];exact h.sK b l hb hr,?_,?_⟩
 ·intro c oc hc hdc;unfold fI at hc;split at hc
  ·rename_i e;subst e;cases hc;exact⟨l,hl,ho⟩
  ·rename_i e;obtain⟨lc,h1,h2⟩:=h.obj c oc hc hdc;refine⟨lc,h1,h2.mono (aP.le_refl _) (GA ?_)⟩;intro he;exact e (h.inj b c o oc l lc hb hd hc hdc hl h1 hro he.symm).symm
 ·intro c c' oc oc' lc lc' hc hdc hc' hdc' h1 h2 hr he;have key:∀ d od,fI H b o' d=some od→od.cS=false→∃ od',H d=some od'∧od'.cS=false:=by
   intro d od hd1 hd2;unfold fI at hd1;split at hd1
   ·rename_i e;subst e;exact⟨o,hb,hd⟩
   ·exact⟨od,hd1,hd2⟩
  obtain⟨x1,hx1,hx2⟩:=key c oc hc hdc;obtain⟨y1,hy1,hy2⟩:=key c' oc' hc' hdc';exact h.inj c c' x1 y1 lc lc' hx1 hx2 hy1 hy2 h1 h2 hr he
theorem Ext.put {b:Nat} {o:bU} {l:Loc} (hb:H b=some o) (hd:o.cS=false) (hl:ι b=some l) (hro:l.ro=false) (x:Obj) (o':bU) :
  Ext ι H n w ι (fI H b o') n (World.gR w l.bL x):=by
 refine⟨aP.le_refl _,fun _ h _=>h,Nat.le_refl _,rfl,rfl,rfl,by simp,?_,?_⟩
 ·intro c hc ho;exact GA fun e=>ho ⟨b,o,l,hb,hd,hl,hro,e.symm⟩
 ·rintro c ⟨d,od,ld,h1,h2,h3,h4,h5⟩;unfold fI at h1;split at h1
  ·rename_i e;subst e;exact .inl ⟨d,o,l,hb,hd,hl,hro,by rw[hl] at h3;cases h3;exact h5⟩
  ·exact .inl ⟨d,od,ld,h1,h2,h3,h4,h5⟩
def aP.add (ι:aP) (n:Nat) (l:Loc):aP:=fun b=>if b=n then some l else ι b
theorem aP.add_same (ι:aP) (n:Nat) (l:Loc):ι.add n l n=some l:=by simp[aP.add]
theorem aP.sM {l:Loc} (h:ι n=none):ι.le (ι.add n l):=by
 intro b x hb;unfold aP.add;split
 ·rename_i e;subst e;rw[h] at hb;cases hb
 ·exact hb
theorem R.newAt {ex:Nat} (h:R X ι H n w) (nm n':Nat) (hfree:ι nm=none) (hodd:nm%2=1) (hn:n≤n') (hn':n'%2=1) (bY:nm<n') (x:Obj) {o':bU}
  (ho:jD X (ι.add nm ⟨w.heap.size,0,ex,false⟩) (w.alloc x) ⟨w.heap.size,0,ex,false⟩ o') :
  R X (ι.add nm ⟨w.heap.size,0,ex,false⟩) (fI H nm o') n' (w.alloc x):=by
 have hle:ι.le (ι.add nm ⟨w.heap.size,0,ex,false⟩):=aP.sM hfree;refine⟨?_,hn',?_,?_,?_,?_⟩
 ·intro b;unfold aP.add;rw[if_neg (by omega)];exact h.even b
 ·intro b hb hb2;unfold aP.add;rw[if_neg (by omega)];exact h.fresh b (by omega) hb2
 ·intro b l hb hr;unfold aP.add at hb;split at hb
  ·cases hb;simp
  ·have:=h.sK b l hb hr;simp;omega
 ·intro c oc hc hdc;unfold fI at hc;split at hc
  ·rename_i e;subst e;cases hc;exact⟨_,aP.add_same _ _ _,ho⟩
  ·obtain⟨lc,h1,h2⟩:=h.obj c oc hc hdc;refine⟨lc,hle _ _ h1,h2.mono hle ?_⟩;by_cases hlt':lc.bL<w.heap.size
   ·exact heap_alloc_old hlt'
   ·
    exfalso;cases oc with
    | cells=>obtain⟨_,_,_,h3,_⟩:=h2;exact hlt' (iO h3)
    | map=>obtain⟨_,_,_,_,h3,_⟩:=h2;exact hlt' (iO h3)
    | gC m =>
     cases m with
     | none=>obtain⟨_,_,_,_,_,_,h3⟩:=h2;exact hlt' (iO h3)
     | some m=>obtain⟨_,_,_,_,_,h3⟩:=h2;exact hlt' (iO h3)
    | pF=>exact hlt' (iO h2.2.2.2)
    | loop=>obtain⟨_,_,_,_,_,_,_,h3,_⟩:=h2;exact hlt' (iO h3)
    | dead=>cases hdc
 ·have hblk:∀ d od ld,H d=some od→od.cS=false→ι d=some ld→ld.bL<w.heap.size:=by
   intro d od ld h1 h2 h3;obtain⟨l',h4,h5⟩:=h.obj d od h1 h2;rw[h3] at h4;cases h4;cases od with
   | cells=>obtain⟨_,_,_,h3,_⟩:=h5;exact iO h3
   | map=>obtain⟨_,_,_,_,h3,_⟩:=h5;exact iO h3
   | gC m =>
    cases m with
    | none=>obtain⟨_,_,_,_,_,_,h3⟩:=h5;exact iO h3
    | some m=>obtain⟨_,_,_,_,_,h3⟩:=h5;exact iO h3
   | pF=>exact iO h5.2.2.2
   | loop=>obtain⟨_,_,_,_,_,_,_,h3,_⟩:=h5;exact iO h3
   | dead=>cases h2
  intro c c' oc oc' lc lc' hc hdc hc' hdc' h1 h2 hr he;unfold fI at hc hc';unfold aP.add at h1 h2;by_cases e1:c=nm <;> by_cases e2:c'=nm
  ·rw[e1,e2]
  ·rw[if_pos e1] at h1;rw[if_neg e2] at h2 hc';cases h1;have:=hblk c' oc' lc' hc' hdc' h2;simp only at he;omega
  ·rw[if_neg e1] at h1 hc;rw[if_pos e2] at h2;cases h2;have:=hblk c oc lc hc hdc h1;simp only at he;omega
  ·rw[if_neg e1] at h1 hc;rw[if_neg e2] at h2 hc';exact h.inj c c' oc oc' lc lc' hc hdc hc' hdc' h1 h2 hr he
theorem Ext.newAt {ex:Nat} (nm n':Nat) (hfree:ι nm=none) (hnm:n≤nm) (hn:n≤n') (bY:nm<n') (x:Obj) (o':bU) :
  Ext ι H n w (ι.add nm ⟨w.heap.size,0,ex,false⟩) (fI H nm o') n' (w.alloc x):=by
 refine⟨aP.sM hfree,?_,hn,rfl,rfl,rfl,by simp,fun c hc _=>heap_alloc_old hc,?_⟩
 ·intro b hb' hb2;unfold aP.add;rw[if_neg (by omega)];exact hb'
 ·rintro c ⟨d,od,ld,h1,h2,h3,h4,h5⟩;unfold fI at h1;unfold aP.add at h3;split at h1
  ·rename_i e;rw[if_pos e] at h3;cases h3;exact .inr (by simp only at h5;omega)
  ·rename_i e;rw[if_neg e] at h3;exact .inl ⟨d,od,ld,h1,h2,h3,h4,h5⟩
end
variable {P:Program} {ι:aP} {H:bG} {n:Nat} {w:World}
abbrev jL (P:Program) (ι:aP) (w:World) (s:Sem Value) (v:Value):Prop:=∃ v',s.run P w=.ok v' w∧VR ι v v'
theorem CI (hR:R (env P) ι H n w) {b:Nat} {c:PT Value} {z:List Value} {m:Nat} {e:TypeId} {room ro:Bool} {aT:Nat} (h:H b=some (.cells c z m e room ro aT)) :
  ∃ l arr e' fz,ι b=some l∧w.heap[l.bL]?=some (.cells arr e' fz)∧(ro=false→fz=(0,0))∧l.ro=ro∧(room=false→l.extra=0) ∧
   (∀ ei,(env P).ty e=some ei→l.off+m+l.extra*ei.size≤arr.size)∧l.off+m≤arr.size ∧
   (∀ i,i<m→∃ v u,cellAt c z m i=some v∧arr[l.off+i]?=some u∧VR ι v u):=by
 obtain⟨l,h1,h2⟩:=hR.obj b _ h rfl;obtain⟨arr,e',fz,h3⟩:=h2;exact⟨l,arr,e',fz,h1,h3⟩
theorem XQ {c:PT Value} {z:List Value} {m:Nat} {arr:Array Value} {off:Nat} (h7:∀ i,i<m→∃ v u,cellAt c z m i=some v∧arr[off+i]?=some u∧VR ι v u) :
  ∀ (k i:Nat) (l:List Value),nX c z m i k=some l→(k=0∨i+k≤m)∧l.length=k∧bQ ι l ((arr.toList.drop (off+i)).take k)
 | 0,i,l,h=>by
  simp only[nX,Option.some.injEq] at h;subst h;exact⟨.inl rfl,rfl,by simp;exact .nil⟩
 | k+1,i,l,h=>by
  simp only[nX] at h;cases hc:cellAt c z m i with
  | none=>rw[hc] at h;cases h
  | some v =>
   rw[hc] at h;simp only at h;cases hr:nX c z m (i+1) k with
   | none=>rw[hr] at h;cases h
   | some l' =>
    rw[hr] at h;simp only[Option.some.injEq] at h;subst h;have him:i<m:=by
     unfold cellAt at hc;split at hc
     ·assumption
     ·cases hc
    obtain⟨v',u,h1,h2,h3⟩:=h7 i him;rw[hc] at h1;cases h1;obtain⟨g1,g2,g3⟩:=XQ h7 k (i+1) l' hr;obtain⟨bY,hget⟩:=Array.getElem?_eq_some_iff.1 h2;refine⟨.inr (by omega),by simp[g2],?_⟩;rw[List.drop_eq_getElem_cons (i:=off+i) (by simpa using bY),List.take_succ_cons];refine .cons ?_ ?_
    ·have:arr.toList[off+i]=u:=by simpa using hget
     rw[this];exact h3
    ·simpa [Nat.add_assoc] using g3
theorem Gv (hR:R (env P) ι H n w) {b o:Nat} {l:Loc} (hl:ι b=some l) {k:Nat} {vs:List Value} (h:bD H ⟨b,o,none⟩ k=some vs) :
  ∃ us,(loadCells ⟨l.bL,l.off+o,none⟩ k).run P w=.ok us w∧bQ ι vs us.toList∧vs.length=k:=by
 unfold bD at h;simp only at h;split at h
 ·rename_i c z m e room ro aT hs hb;obtain⟨l',arr,e',fz,h1,h2,_,_,_,_,h6,h7⟩:=CI hR hb;rw[hl] at h1;cases h1;obtain⟨g1,g2,g3⟩:=XQ h7 k o vs h;exact⟨_,run_loadCells h2 (by omega),by simpa using g3,g2⟩
 ·cases h
theorem aC6 (hR:R (env P) ι H n w) {b o:Nat} {l:Loc} (hl:ι b=some l) {v:Value} (h:aI H ⟨b,o,none⟩=some v) :
  jL P ι w (load ⟨l.bL,l.off+o,none⟩) v:=by
 unfold aI at h;simp only at h;split at h
 ·rename_i c z m e room ro aT hs hb;obtain⟨l',arr,e',fz,h1,h2,_,_,_,_,h6,h7⟩:=CI hR hb;rw[hl] at h1;cases h1;have him:o<m:=by
   unfold cellAt at h;split at h
   ·assumption
   ·cases h
  obtain⟨v',u,g1,g2,g3⟩:=h7 o him;rw[h] at g1;cases g1;obtain⟨bY,hget⟩:=Array.getElem?_eq_some_iff.1 g2;refine⟨u,?_,g3⟩;have hc:w.cell? ⟨l.bL,l.off+o,none⟩=some u:=by simp[World.cell?,h2,g2]
  simp[load,Sem.run,hc]
 ·cases h
theorem Gx (hR:R (env P) ι H n w) {b o:Nat} {l:Loc} (hl:ι b=some l) {t:TypeId} {v:Value} (h:loadT (env P) H t ⟨b,o,none⟩=some v) :
  jL P ι w (loadVar t ⟨l.bL,l.off+o,none⟩) v:=by
 unfold loadT at h;cases ht:(env P).ty t with
 | none=>rw[ht] at h;cases h
 | some i =>
  rw[ht] at h;simp only at h;unfold loadVar;cases hagg:i.agg with
  | true =>
   rw[hagg] at h;simp only[if_true] at h;cases hl':bD H ⟨b,o,none⟩ i.size with
   | none=>rw[hl'] at h;cases h
   | some vs =>
    rw[hl'] at h;simp only[Option.some.injEq] at h;subst h;obtain⟨us,g1,g2,_⟩:=Gv (P:=P) hR hl hl';exact⟨.agg us,by simp[XZ ht,hagg,pE ht,g1],.MJ (by simpa using g2)⟩
  | false =>
   rw[hagg] at h;simp only[Bool.false_eq_true,if_false] at h;obtain⟨u,g1,g2⟩:=aC6 (P:=P) hR hl h;exact⟨u,by simp only[Sem.run_bind,XZ ht,Result.andThen_ok,hagg,Bool.false_eq_true,if_false,g1],g2⟩
theorem wV {a:Addr} {u:Value} (h:VR ι (.pointer (some a)) u):∃ b o l,a=⟨b,o,none⟩∧ι b=some l∧u=.pointer (some ⟨l.bL,l.off+o,none⟩):=by
 cases h with | ptr hl=>exact⟨_,_,_,rfl,hl,rfl⟩
theorem PK {t:TypeId} {cs cs':Array Value} (hcs:bQ ι cs.toList cs'.toList) {off:Nat} {v:Value} (h:HF (env P) t cs off=some v):jL P ι w (part t cs' off) v:=by
 unfold HF at h;cases ht:(env P).ty t with
 | none=>rw[ht] at h;cases h
 | some i =>
  rw[ht] at h;simp only at h;unfold part;cases hagg:i.agg with
  | true =>
   rw[hagg] at h;simp only[if_true] at h;split at h
   ·rename_i hsz;simp only[Option.some.injEq] at h;subst h;refine⟨.agg (cs'.extract off (off+i.size)),by simp[XZ ht,hagg,pE ht],.MJ ?_⟩;have h1:(cs.extract off (off+i.size)).toList=(cs.toList.drop off).take i.size:=by simp
    have h2:(cs'.extract off (off+i.size)).toList=(cs'.toList.drop off).take i.size:=by simp
    rw[h1,h2];exact(hcs.drop off).take _
   ·cases h
  | false =>
   rw[hagg] at h;simp only[Bool.false_eq_true,if_false] at h;obtain⟨u,g1,g2⟩:=hcs.FN off (v:=v) (by simpa using h);refine⟨u,?_,g2⟩;have:cs'[off]?=some u:=by simpa using g1
   simp[XZ ht,hagg,this]
theorem Tb {op:BinOp} {k:IntKind} {x y:Int} {v:Value} (hs1:op≠.shl) (hs2:op≠.shr) (t:TypeId) (h:arith op k x y=some v) :
    (binOp op t (.int k x) (.int k y)).run P w=.ok v w∧VR ι v v:=by
  unfold arith at h;split at h <;> first
    | (simp only[Option.some.injEq] at h;subst h;exact⟨by simp[binOp,Op.intArith,Op.intBits],.int _ _⟩)
    | (split at h
       · cases h
       · rename_i hy
         simp only[Option.some.injEq] at h;subst h;exact⟨by simp[binOp,Op.intDiv,hy],.int _ _⟩)
    | skip
  have hc:=h;unfold xy at hc;split at hc <;> simp only[Option.some.injEq,reduceCtorEq] at hc <;> subst hc <;> exact⟨by simp[binOp,Op.intCmp],.bool _⟩
theorem Np {op:BinOp} {k k':IntKind} {x y:Int} {v:Value} (hop:op=.shl∨op=.shr) (t:TypeId) (h:vP op k x y=some v) :
  (binOp op t (.int k x) (.int k' y)).run P w=.ok v w∧VR ι v v:=by
 unfold vP at h;split at h
 ·cases h
 ·rename_i hy;rcases hop with rfl | rfl
  ·simp only[Option.some.injEq] at h;subst h;exact⟨by simp[binOp,Op.shift,hy],.int _ _⟩
  ·simp only[Option.some.injEq] at h;subst h;exact⟨by simp[binOp,Op.shift,hy],.int _ _⟩
theorem aHt {op:BinOp} {x y:ByteArray} {v:Value} (t:TypeId) (h:qe op x y=some v):(binOp op t (.string x) (.string y)).run P w=.ok v w∧VR ι v v:=by
 unfold qe at h;split at h
 ·split at h
  ·cases h
  ·rename_i hsz;simp only[Option.some.injEq] at h;subst h;exact⟨by simp only[binOp,Op.stringOp];rw[if_neg hsz];rfl,.string _⟩
 all_goals first
  | (simp only[Option.some.injEq] at h;subst h;exact⟨by simp[binOp,Op.stringOp],.bool _⟩)
  | cases h
theorem Ff (hR:R (env P) ι H n w) {b:Nat} (h:isCells H b=true) :
  ∃ o l arr e,H b=some o∧o.cS=false∧ι b=some l∧l.ro=false∧w.heap[l.bL]?=some (.cells arr e (0,0)):=by
 unfold isCells at h;split at h
 ·rename_i c z m e room aT hb;obtain⟨l,arr,e',fz,h1,h2,h3,h4,_⟩:=CI hR hb;rw[h3 rfl] at h2;exact⟨_,l,arr,e',hb,rfl,h1,h4,h2⟩
 ·cases h
theorem aGo {a b:Addr} {arr arr':Array Value} {e e':TypeId} (hne:a.block≠b.block) (ha:w.heap[a.block]?=some (.cells arr e (0,0)))
  (hb:w.heap[b.block]?=some (.cells arr' e' (0,0))):(sameAddr a b).run P w=.ok false w:=by
 have fa:∀ o s,w.frozen? ⟨a.block,o,s⟩=false:=fun o s=>by simp[World.frozen?,ha]
 have fb:∀ o s,w.frozen? ⟨b.block,o,s⟩=false:=fun o s=>by simp[World.frozen?,hb]
 have sa:w.shape? a.block=some (e,arr.size):=by simp[World.shape?,ha]
 have sb:w.shape? b.block=some (e',arr'.size):=by simp[World.shape?,hb]
 have fa':=fa a.off a.spot;have fb':=fb b.off b.spot;unfold sameAddr;simp only[beq_eq_false_iff_ne.2 hne,Bool.false_eq_true,if_false,Sem.run_bind,run_frozen,Result.andThen_ok,fa',fb',Bool.and_self,noView,viewAt,run_shape,sa,sb,Option.isSome_some,if_true,
  Sem.run_pure,mayBeOne,stringish,fa,fb,Bool.false_and,Bool.or_self,Option.isSome_none]
theorem Is {u:Value} (h:VR ι (.pointer none) u):u=.pointer none:=by cases h;rfl
theorem bw {d:Nat} {f:TypeId→Value→Value→Option Bool} {xs ys xs' ys':Array Value} (hx:bQ ι xs.toList xs'.toList) (hy:bQ ι ys.toList ys'.toList)
  (hf:∀ t x y x' y' b,f t x y=some b→VR ι x x'→VR ι y y'→(Op.equalIn d t x' y').run P w=.ok b w) :
  ∀ (fs:List Field) (b:Bool),eqFields (env P) f xs ys fs=some b→(Op.eqFields d xs' ys' fs).run P w=.ok b w
 | [],b,h=>by simp only[eqFields,Option.some.injEq] at h;subst h;rfl
 | fd::fs,b,h=>by
  simp only[eqFields] at h;simp only[Op.eqFields];by_cases hn:fd.name= "_"
  ·rw[if_pos hn] at h;rw[if_neg (by simpa using hn)];exact bw hx hy hf fs b h
  ·rw[if_neg hn] at h;rw[if_pos hn];split at h
   ·rename_i u v hu hv;obtain⟨u',g1,g2⟩:=PK (P:=P) (w:=w) hx hu;obtain⟨v',g3,g4⟩:=PK (P:=P) (w:=w) hy hv;simp only[Sem.run_bind,g1,g3,Result.andThen_ok];split at h
    ·rename_i he;simp only[hf _ _ _ _ _ _ he g2 g4,Result.andThen_ok,Bool.not_true,Bool.false_eq_true,if_false];exact bw hx hy hf fs b h
    ·rename_i he;simp only[Option.some.injEq] at h;subst h;simp only[hf _ _ _ _ _ _ he g2 g4,Result.andThen_ok,Bool.not_false,if_true,Sem.run_pure]
    ·cases h
   ·cases h
set_option maxHeartbeats 2000000 in
theorem yz (hR:R (env P) ι H n w):∀ (d e:Nat),d≤e→∀ (t:TypeId) (x y x' y':Value) (b:Bool),jV (env P) H d t x y=some b→VR ι x x'→VR ι y y' →
  (Op.equalIn e t x' y').run P w=.ok b w
 | 0,_,_,_,_,_,_,_,_,h,_,_=>by simp[jV] at h
 | d+1,e,hde,t,x,y,x',y',b,h,hx,hy=>by
  obtain⟨e,rfl⟩:∃ m,e=m+1:=⟨e-1,by omega⟩;simp only[jV] at h;cases ht:(env P).ty t with
  | none=>rw[ht] at h;cases h
  | some i =>
   rw[ht] at h;simp only at h;obtain⟨inf,_,hu,_,_,_,_,_,hcmp⟩:=EM ht;split at h
   ·rename_i hd;rw[hx.tD,hy.tD];simp only[Option.some.injEq] at h;subst h;rw[hd] at hu;exact run_equalIn_bool' w e t _ _ hu
   ·rename_i hd;rw[hx.int_eq,hy.int_eq];split at h
    ·rename_i hk;subst hk;simp only[Option.some.injEq] at h;subst h;rw[hd] at hu;exact run_equalIn_int w e t _ _ _ _ hu
    ·cases h
   ·rename_i hd;rw[hx.sT,hy.sT];simp only[Option.some.injEq] at h;subst h;rw[hd] at hu;exact run_equalIn_string w e t _ _ hu
   ·
    rename_i el hd;simp only[Option.some.injEq] at h;subst h;rw[Is hx];rw[hd] at hu;cases hy with
    | KL=>simp[Op.equalIn,run_underlying hu]
    | ptr hl=>simp[Op.equalIn,run_underlying hu]
   ·rename_i el a hd;simp only[Option.some.injEq] at h;subst h;rw[Is hy];rw[hd] at hu;obtain⟨_,_,_,_,_,rfl⟩:=wV hx;simp[Op.equalIn,run_underlying hu]
   ·rename_i el a a' hd;rw[hd] at hu;cases hel:(env P).ty el with
    | none=>rw[hel] at h;cases h
    | some ei =>
     rw[hel] at h;simp only at h;split at h
     ·cases h
     ·rename_i hsz;obtain⟨b1,o1,l1,rfl,hl1,rfl⟩:=wV hx;obtain⟨b2,o2,l2,rfl,hl2,rfl⟩:=wV hy;simp only at h;have hsz':(ei.size != 0)=true:=by simpa using hsz
      have key:(Op.equalIn (e+1) t (.pointer (some ⟨l1.bL,l1.off+o1,none⟩)) (.pointer (some ⟨l2.bL,l2.off+o2,none⟩))).run P w =
        (sameAddr ⟨l1.bL,l1.off+o1,none⟩ ⟨l2.bL,l2.off+o2,none⟩).run P w:=by
       simp only[Op.equalIn,Sem.run_bind,run_underlying hu,Result.andThen_ok,pE hel,ne_eq,hsz,not_false_eq_true,if_true]
      rw[key];split at h
      ·rename_i hbb;subst hbb;simp only[Option.some.injEq] at h;subst h;rw[hl1] at hl2;cases hl2;simp only[sameAddr,BEq.rfl,if_true,Sem.run_pure];congr 1;by_cases ho:o1=o2
       ·subst ho;simp
       ·rw[beq_eq_false_iff_ne.2 ho];simp only[beq_eq_false_iff_ne,ne_eq,Addr.mk.injEq,true_and,and_true];omega
      ·rename_i hbb;split at h
       ·rename_i hcc;simp only[Option.some.injEq] at h;subst h;rw[Bool.and_eq_true] at hcc;obtain⟨q1,m1,arr1,e1,p1,p2,p3,p4,p5⟩:=Ff hR hcc.1;obtain⟨q2,m2,arr2,e2,r1,r2,r3,r4,r5⟩:=Ff hR hcc.2;rw[hl1] at p3;cases p3;rw[hl2] at r3;cases r3;exact aGo (fun he=>hbb (hR.inj _ _ _ _ _ _ p1 p2 r1 r2 hl1 hl2 p4 he)) p5 r5
       ·cases h
   ·rename_i hd;simp only[Option.some.injEq] at h;subst h;rw[hd] at hu;cases hx;cases hy;simp[Op.equalIn,run_underlying hu]
   ·rename_i hd;simp only[Option.some.injEq] at h;subst h;rw[hd] at hu;cases hx;cases hy;simp[Op.equalIn,run_underlying hu]
   ·rename_i hd;simp only[Option.some.injEq] at h;subst h;rw[hd] at hu;cases hx;cases hy;simp[Op.equalIn,run_underlying hu]
   ·rename_i hd;simp only[Option.some.injEq] at h;subst h;rw[hd] at hu;cases hx;cases hy <;> simp[Op.equalIn,run_underlying hu]
   ·rename_i hd;simp only[Option.some.injEq] at h;subst h;rw[hd] at hu;cases hy;cases hx <;> simp only[Op.equalIn,Sem.run_bind,run_underlying hu,Result.andThen_ok,Sem.run_pure]
   ·rename_i hd;simp only[Option.some.injEq] at h;subst h;rw[hd] at hu;cases hx;cases hy <;> simp[Op.equalIn,run_underlying hu]
   ·rename_i hd;simp only[Option.some.injEq] at h;subst h;rw[hd] at hu;cases hy;cases hx;simp[Op.equalIn,run_underlying hu]
   ·rename_i hd;simp only[Option.some.injEq] at h;subst h;rw[hd] at hu;cases hx;cases hy;simp[Op.equalIn,run_underlying hu]
   ·rename_i hd;simp only[Option.some.injEq] at h;subst h;rw[hd] at hu;cases hx;cases hy <;> simp[Op.equalIn,run_underlying hu]
   ·rename_i hd;simp only[Option.some.injEq] at h;subst h;rw[hd] at hu;cases hy;cases hx <;> simp only[Op.equalIn,Sem.run_bind,run_underlying hu,Result.andThen_ok,Sem.run_pure]
   ·rename_i fields xs ys hd;split at h
    ·rename_i hc;rw[hd] at hu;obtain⟨xs',rfl,hxs⟩:=hx.MK;obtain⟨ys',rfl,hys⟩:=hy.MK;have hfo:P.fieldsOf t=fields:=by simp[Program.fieldsOf,hu]
     rw[run_equalIn_struct w e t xs' ys' (by rw[hfo];exact hu) (hcmp hc).1,hfo];refine bw hxs hys ?_ _ b h;intro t' x y x' y' b' hb hx' hy';split at hb
     ·exact yz hR d e (by omega) t' x y x' y' b' hb hx' hy'
     ·cases hb
    ·cases h
   ·cases h
theorem bx {op:BinOp} {t:TypeId} {x y:Operand} {a b:Value} (h1:a=.nilIface→b=.nilIface→False) (h2:∀ cs ds,a=.agg cs→b=.agg ds→False) :
  (eqGuard op t x y a b).run P w=.ok () w:=by
 unfold eqGuard;cases op <;> first
  | rfl
  | (simp only[Bool.not_true,Bool.false_eq_true,if_false];rfl)
theorem Xa {op:BinOp} {t:TypeId} {x y:Operand} (hc:nI x=true∨nI y=true):(eqGuard op t x y .nilIface .nilIface).run P w=.ok () w:=by
  unfold eqGuard;cases op <;> first
    | rfl
    | (rcases hc with hc | hc
       · cases x <;> first | rfl | cases hc
       · cases y <;> first | (cases hc;done) | (cases x <;> rfl))
theorem VR.Iq {v u:Value} (h:VR ι v u):u=.nilIface→v=.nilIface:=by
 intro e;subst e;cases h;rfl
theorem VR.Ss {v:Value} {cs:Array Value} (h:VR ι v (.agg cs)):∃ ds,v=.agg ds:=by cases h;exact⟨_,rfl⟩
theorem VR.Fc {v:Value} {k:IntKind} {x:Int} (h:VR ι v (.int k x)):v=.int k x:=by cases h;rfl
theorem VR.Oy {v:Value} {x:ByteArray} (h:VR ι v (.string x)):v=.string x:=by cases h;rfl
theorem VR.Yl {v:Value} {k:FloatKind} {x:Nat} (h:VR ι v (.float k x)):v=.float k x:=by cases h;rfl
theorem VR.Vg {v:Value} {k:FloatKind} {x y:Nat} (h:VR ι v (.complex k x y)):False:=by cases h
theorem binOp_eql {t:TypeId} {a b:Value} (h1:∀ k x k' y,a=.int k x→b=.int k' y→False) (h2:∀ x y,a=.string x→b=.string y→False)
  (h3:∀ k x k' y,a=.float k x→b=.float k' y→False) (h4:∀ k x z k' y u,a=.complex k x z→b=.complex k' y u→False) :
  binOp .eql t a b=(do pure (.bool (← Op.equal t a b))):=by
 cases a <;> cases b <;> first
  | rfl
  | exact(h1 _ _ _ _ rfl rfl).elim
  | exact(h2 _ _ rfl rfl).elim
  | exact(h3 _ _ _ _ rfl rfl).elim
  | exact(h4 _ _ _ _ _ _ rfl rfl).elim
theorem binOp_neq {t:TypeId} {a b:Value} (h1:∀ k x k' y,a=.int k x→b=.int k' y→False) (h2:∀ x y,a=.string x→b=.string y→False)
  (h3:∀ k x k' y,a=.float k x→b=.float k' y→False) (h4:∀ k x z k' y u,a=.complex k x z→b=.complex k' y u→False) :
  binOp .neq t a b=(do pure (.bool (!(← Op.equal t a b)))):=by
 cases a <;> cases b <;> first
  | rfl
  | exact(h1 _ _ _ _ rfl rfl).elim
  | exact(h2 _ _ rfl rfl).elim
  | exact(h3 _ _ _ _ rfl rfl).elim
  | exact(h4 _ _ _ _ _ _ rfl rfl).elim
theorem Wz {d:Nat} {t:TypeId} {k:FloatKind} {x:Nat} {b:Value} {r:Bool} (h:jV (env P) H d t (.float k x) b=some r):False:=by
 cases d with
 | zero=>simp[jV] at h
 | succ d =>
  simp only[jV] at h;cases ht:(env P).ty t with
  | none=>rw[ht] at h;cases h
  | some i =>
   rw[ht] at h;simp only at h;cases hd:i.desc <;> rw[hd] at h <;> simp at h
theorem Wy {d:Nat} {t:TypeId} {cs:Array Value} {b:Value} {r:Bool} (h:jV (env P) H d t (.agg cs) b=some r):∃ i,(env P).ty t=some i∧i.cmp=true:=by
 cases d with
 | zero=>simp[jV] at h
 | succ d =>
  simp only[jV] at h;cases ht:(env P).ty t with
  | none=>rw[ht] at h;cases h
  | some i =>
   refine⟨i,rfl,?_⟩;rw[ht] at h;simp only at h;cases hc:i.cmp with
   | true=>rfl
   | false =>
    rw[hc] at h;cases hd:i.desc <;> rw[hd] at h <;> (try simp at h)
    cases b <;> simp at h
theorem Tr (hR:R (env P) ι H n w) {op:BinOp} {t:TypeId} {x y:Operand} {a b a' b' v:Value} (ha:VR ι a a') (hb:VR ι b b')
  (h:(if rY a b&&!(nI x||nI y) then none else binop (env P) H op t a b)=some v) :
  jL P ι w (do eqGuard op t x y a' b';binOp op t a' b') v:=by
 have hn:rY a b=true→nI x=true∨nI y=true:=by
  intro hbn;rw[hbn] at h;simp only[Bool.true_and] at h;split at h
  ·cases h
  ·rename_i hc;cases hx:nI x with
   | true=>exact .inl rfl
   | false=>cases hy:nI y with
    | true=>exact .inr rfl
    | false=>rw[hx,hy] at hc;exact absurd rfl hc
 have h':binop (env P) H op t a b=some v:=by
  split at h
  ·cases h
  ·exact h
 clear h;have heq:∀ r,jV (env P) H 10 t a b=some r→(∀ k x k' y,a=.int k x→b=.int k' y→False)→(∀ x y,a=.string x→b=.string y→False) →
   (eqGuard op t x y a' b').run P w=.ok () w∧(binOp .eql t a' b').run P w=.ok (.bool r) w∧(binOp .neq t a' b').run P w=.ok (.bool (!r)) w:=by
  intro r hr hni hns;have hE:(Op.equal t a' b').run P w=.ok r w:=yz hR 10 10000 (by omega) t a b a' b' r hr ha hb;have k1:∀ k x k' y,a'=.int k x→b'=.int k' y→False:=fun k x k' y e1 e2=>hni k x k' y (by subst e1;exact ha.Fc) (by subst e2;exact hb.Fc);have k2:∀ x y,a'=.string x→b'=.string y→False:=fun x y e1 e2=>hns x y (by subst e1;exact ha.Oy) (by subst e2;exact hb.Oy);have k3:∀ k x k' y,a'=.float k x→b'=.float k' y→False:=fun k x k' y e1 _=>by subst e1;rw[ha.Yl] at hr;exact Wz hr
  have k4:∀ k x z k' y u,a'=.complex k x z→b'=.complex k' y u→False:=fun k x z k' y u e1 _=>by subst e1;exact ha.Vg
  refine⟨?_,by rw[binOp_eql k1 k2 k3 k4];simp[hE],by rw[binOp_neq k1 k2 k3 k4];simp[hE]⟩;by_cases mQ:a'=.nilIface∧b'=.nilIface
  ·obtain⟨rfl,rfl⟩:=mQ;refine Xa (hn ?_);rw[ha.Iq rfl,hb.Iq rfl];rfl
  ·by_cases hagg:(∃ cs,a'=.agg cs)∧(∃ ds,b'=.agg ds)
   ·obtain⟨⟨cs,rfl⟩,⟨ds,rfl⟩⟩:=hagg;obtain⟨cs',rfl⟩:=ha.Ss;obtain⟨i,hi,hc⟩:=Wy hr;obtain⟨inf,_,_,_,_,_,_,_,hcmp⟩:=EM hi;exact run_eqGuard_agg w op t x y _ _ (hcmp hc).2
   ·exact bx (fun e1 e2=>mQ ⟨e1,e2⟩) (fun cs ds e1 e2=>hagg ⟨⟨cs,e1⟩,⟨ds,e2⟩⟩)
 unfold binop at h';split at h'
 ·rename_i k x1 k' y1;rw[ha.int_eq,hb.int_eq];have hg:(eqGuard op t x y (.int k x1) (.int k' y1)).run P w=.ok () w:=bx (fun e=>by cases e) (fun _ _ e=>by cases e);have hk:(binOp op t (.int k x1) (.int k' y1)).run P w=.ok v w∧VR ι v v:=by
   split at h'
   ·exact Np (.inl rfl) t h'
   ·exact Np (.inr rfl) t h'
   ·rename_i h1 h2;split at h'
    ·rename_i hkk;subst hkk;exact Tb (fun e=>h1 e) (fun e=>h2 e) t h'
    ·cases h'
  exact⟨v,by simp only[Sem.run_bind,hg,Result.andThen_ok,hk.1],hk.2⟩
 ·rename_i x1 y1;rw[ha.sT,hb.sT];have hg:(eqGuard op t x y (.string x1) (.string y1)).run P w=.ok () w:=bx (fun e=>by cases e) (fun _ _ e=>by cases e);have hk:=aHt (P:=P) (ι:=ι) (w:=w) t h';exact⟨v,by simp only[Sem.run_bind,hg,Result.andThen_ok,hk.1],hk.2⟩
 ·rename_i hni hns;split at h'
  ·split at h'
   ·rename_i r hr;simp only[Option.some.injEq] at h';subst h';obtain⟨g1,g2,_⟩:=heq r hr (fun k x k' y e1 e2=>hni k x k' y e1 e2) (fun x y e1 e2=>hns x y e1 e2);exact⟨_,by simp only[Sem.run_bind,g1,Result.andThen_ok,g2],.bool _⟩
   ·cases h'
  ·split at h'
   ·rename_i r hr;simp only[Option.some.injEq] at h';subst h';obtain⟨g1,_,g2⟩:=heq r hr (fun k x k' y e1 e2=>hni k x k' y e1 e2) (fun x y e1 e2=>hns x y e1 e2);exact⟨_,by simp only[Sem.run_bind,g1,Result.andThen_ok,g2],.bool _⟩
   ·cases h'
  ·cases h'
variable {P:Program} {ι:aP} {H:bG} {n:Nat} {w:World}
theorem aIi {op:UnOp} {a a' v:Value} (ha:VR ι a a') (h:unop op a=some v):jL P ι w (Op.unary op a') v:=by
 unfold unop at h;split at h
 ·rw[ha.int_eq];simp only[Option.some.injEq] at h;subst h;exact⟨_,by simp[Op.unary,Op.intArith],.int _ _⟩
 ·rw[ha.tD];simp only[Option.some.injEq] at h;subst h;exact⟨_,by simp[Op.unary],.bool _⟩
 ·cases h
theorem Vk {src dst:TypeId} {a a' v:Value} (ha:VR ι a a') (h:sA (env P) src dst a=some v):jL P ι w (convert src dst a') v:=by
 unfold sA at h;split at h
 ·rename_i s d hs hd;split at h
  ·rename_i hk;rw[ha.int_eq];simp only[Option.some.injEq] at h;subst h;refine⟨_,?_,.int _ _⟩;unfold convert;simp only[Sem.run_bind,eH hs,eH hd,Result.andThen_ok,hk];simp[Conv.intToInt]
  ·rename_i hk;rw[ha.sT];simp only[Option.some.injEq] at h;subst h;refine⟨_,?_,.string _⟩;unfold convert;simp only[Sem.run_bind,eH hs,eH hd,Result.andThen_ok,hk];simp
  ·cases h
 ·cases h
theorem Fp {d:TypeDesc} {k x:Value} (hk:AW d k=true) {b:Bool}
  (h:vG k x=some b):Instr.sameNow d k x=some b:=by
 unfold vG at h;split at h
 ·split at h
  ·rename_i hkk;subst hkk;cases d <;> simp[AW] at hk
   simp only[Option.some.injEq] at h;subst h;simp[Instr.sameNow]
  ·cases h
 ·cases d <;> simp[AW] at hk
  simp only[Option.some.injEq] at h;subst h;simp[Instr.sameNow]
 ·cases d <;> simp[AW] at hk
  simp only[Option.some.injEq] at h;subst h;simp[Instr.sameNow]
 ·cases h
theorem ji {t:TypeId} {k:Value} (h:DD (env P) t k=true):∃ i,(env P).ty t=some i ∧
  AW i.desc k=true:=by
 unfold DD at h;cases ht:(env P).ty t with
 | none=>rw[ht] at h;cases h
 | some i =>
  rw[ht] at h;exact⟨i,rfl,h⟩
theorem jj {t:TypeId} {k k':Value} (h:DD (env P) t k=true) (hk:VR ι k k'):k'=k:=by
 obtain⟨i,_,h2⟩:=ji h;cases hd:i.desc <;> rw[hd] at h2 <;> cases k <;> simp[AW] at h2 <;> first | exact hk.int_eq | exact hk.sT | exact hk.tD
theorem jh {k x:Value} {b:Bool} (h:vG k x=some b) {x':Value} (hx:VR ι x x'):x'=x:=by
 unfold vG at h;split at h
 ·exact hx.int_eq
 ·exact hx.sT
 ·exact hx.tD
 ·cases h
theorem run_checkKey {t:TypeId} {k:Value} (h:DD (env P) t k=true) (e:Bool):(Instr.checkKey e 10000 t k).run P w=.ok () w:=by
 obtain⟨i,ht,h2⟩:=ji h;cases hd:i.desc <;> rw[hd] at h2 <;> cases k <;> simp[AW] at h2 <;>
  (unfold Instr.checkKey;simp only[Sem.run_bind,eH ht,hd,Result.andThen_ok,Sem.run_pure])
theorem Bb {d:TypeDesc} {k:Value} (hk:AW d k=true) :
  ∀ {es es':List MapEntry} (_:fB ι es es') (i:Nat) (r:Option (Nat×Value)),mO k es i=some r →
   ∃ r',Instr.findNow d k es' i=some r'∧(match r with
    | none=>r'=none
    | some (j,v)=>∃ v',r'=some (j,v')∧VR ι v v'∧i≤j∧∃ e,es[j-i]?=some e∧vG k e.key=some true)
 | _,_,.nil,i,r,h=>by
  simp only[mO,Option.some.injEq] at h;subst h;exact⟨none,rfl,rfl⟩
 | e::es,e'::es',.cons he t,i,r,h=>by
  simp only[mO] at h;simp only[Instr.findNow];split at h
  ·rename_i hq;simp only[Option.some.injEq] at h;subst h;rw[jh hq he.key,Fp hk hq];exact⟨_,rfl,_,rfl,he.val,Nat.le_refl _,e,by simp,hq⟩
  ·rename_i hq;rw[jh hq he.key,Fp hk hq];obtain⟨r',g1,g2⟩:=Bb hk t (i+1) r h;refine⟨r',g1,?_⟩;cases r with
   | none=>exact g2
   | some p =>
    obtain⟨v',h1,h2,h3,e2,h4,h5⟩:=g2;refine⟨v',h1,h2,by omega,e2,?_,h5⟩;rw[show p.1-i=(p.1-(i+1))+1 from by omega,List.getElem?_cons_succ];exact h4
  ·cases h
def Found (ι:aP) (k:Value) (es:List MapEntry):Option (Nat×Value)→Option (Nat×Value)→Prop
 | none,r'=>r'=none
 | some (j,v),r'=>∃ v',r'=some (j,v')∧VR ι v v'∧∃ e,es[j]?=some e∧vG k e.key=some true
theorem run_findKey {t:TypeId} {k:Value} (hk:DD (env P) t k=true) {es es':List MapEntry} (he:fB ι es es') {r:Option (Nat×Value)} (h:mO k es 0=some r) :
  ∃ r',(Instr.findKey t k es').run P w=.ok r' w∧Found ι k es r r':=by
 obtain⟨i,ht,h2⟩:=ji hk;obtain⟨r',g1,g2⟩:=Bb h2 he 0 r h;refine⟨r',?_,?_⟩
 ·unfold Instr.findKey;simp only[Sem.run_bind,eH ht,Result.andThen_ok,g1,Sem.run_pure]
 ·cases r with
  | none=>exact g2
  | some p =>
   obtain⟨v',h1,h2,_,e,h3,h4⟩:=g2;exact⟨v',h1,h2,e,by simpa using h3,h4⟩
theorem OP (hR:R (env P) ι H n w) {r:Nat} {es:List MapEntry} {c:Nat} (h:mapOf H r=some (es,c)) :
  ∃ l es',ι r=some l∧l.ro=false∧l.off=0∧l.extra=0∧w.heap[l.bL]?=some (.map es' c)∧fB ι es es'.toList:=by
 unfold mapOf at h;split at h
 ·rename_i es0 c0 aT hr;simp only[Option.some.injEq,Prod.mk.injEq] at h;obtain⟨rfl,rfl⟩:=h;obtain⟨l,h1,h2,h3,h4,es',h5,h6⟩:=hR.obj r _ hr rfl;exact⟨l,es',h1,h2,h3,h4,h5,h6⟩
 ·cases h
theorem GW {r:Nat} {u:Value} (h:VR ι (.map (some r)) u):∃ l,ι r=some l∧u=.map (some l.bL):=by cases h with | map hl=>exact⟨_,hl,rfl⟩
theorem OX {u:Value} (h:VR ι (.map none) u):u=.map none:=by cases h;rfl
theorem wY {b:Nat} {es:Array MapEntry} {c:Nat} (h:w.heap[b]?=some (.map es c)):(getObj b).run P w=.ok (.map es c) w:=by simp[getObj,Sem.run,h]
theorem fB.length:∀ {l l':List MapEntry},fB ι l l'→l.length=l'.length
 | _,_,.nil=>rfl
 | _,_,.cons _ t=>by simp[fB.length t]
theorem KS {v v':Value} (h:VR ι v v') (b:Bool):VR ι (.tuple #[v,.bool b]) (.tuple #[v',.bool b]):=.tuple' (.cons h (.cons (.bool b) .nil))
theorem aCl (hR:R (env P) ι H n w) {t:TypeId} {x k x' k' v:Value} {ok:Bool} (hx:VR ι x x') (hk:VR ι k k') (h:vI (env P) H t x k ok=some v) :
  jL P ι w (Instr.lookup t x' k' ok) v:=by
 unfold vI at h;unfold jL;split at h
 ·rename_i kt et sz by_ ze ag me cm ht;split at h
  ·rename_i d2 s2 b2 z a2 m2 c2 het;split at h
   ·rename_i hkk;rw[jj hkk hk];have hz:=EW het rfl;unfold Instr.lookup;simp only[Sem.run_bind,eH ht,Result.andThen_ok];split at h
    ·rw[OX hx];simp only[Sem.run_pure,Result.andThen_ok,run_checkKey hkk,Sem.run_bind];obtain⟨r',g1,g2⟩:=run_findKey (P:=P) (ι:=ι) (w:=w) hkk .nil (r:=none) rfl;cases (show r'=none from g2);simp only[g1,Result.andThen_ok,Sem.run_bind,zR het rfl,Sem.run_pure];simp only[Option.some.injEq] at h;subst h;cases ok
     ·exact⟨z,rfl,.closed hz⟩
     ·exact⟨_,rfl,KS (.closed hz) _⟩
    ·rename_i r;obtain⟨l,hl,rfl⟩:=GW hx;split at h
     ·rename_i es c hm;obtain⟨l',es',q1,q2,q3,q4,q5,q6⟩:=OP hR hm;rw[hl] at q1;cases q1;simp only[Sem.run_bind,wY q5,Sem.run_pure,Result.andThen_ok,run_checkKey hkk];split at h
      ·rename_i j v0 hf;obtain⟨r',g1,v',g2,g3,_⟩:=run_findKey (P:=P) (w:=w) hkk q6 hf;subst g2;simp only[g1,Result.andThen_ok];simp only[Option.some.injEq] at h;subst h;cases ok
       ·exact⟨v',rfl,g3⟩
       ·exact⟨_,rfl,KS g3 _⟩
      ·rename_i hf;obtain⟨r',g1,g2⟩:=run_findKey (P:=P) (w:=w) hkk q6 hf;cases (show r'=none from g2);simp only[g1,Result.andThen_ok,Sem.run_bind,zR het rfl,Sem.run_pure];simp only[Option.some.injEq] at h;subst h;cases ok
       ·exact⟨z,rfl,.closed hz⟩
       ·exact⟨_,rfl,KS (.closed hz) _⟩
      ·cases h
     ·cases h
    ·cases h
   ·cases h
  ·cases h
 ·cases h
theorem wq {len cap:Nat} {lo hi:Option Int} {l h:Nat} (hb:lU len cap lo hi=some (l,h)) :
  (match hi with | some x=>0≤x∧x≤(cap:Int)∧h=x.toNat | none=>h=len)∧(match lo with | some x=>0≤x∧x≤(h:Int)∧l=x.toNat | none=>l=0):=by
 unfold lU at hb;split at hb
 ·cases hb
 ·rename_i h0 hh;split at hb
  ·cases hb
  ·rename_i l0 hl;simp only[Option.some.injEq,Prod.mk.injEq] at hb;obtain⟨rfl,rfl⟩:=hb;constructor
   ·cases hi with
    | none=>simp only[Option.some.injEq] at hh;exact hh.symm
    | some x =>
     simp only at hh;split at hh
     ·rename_i hc;simp only[Option.some.injEq] at hh;exact⟨hc.1,hc.2,hh.symm⟩
     ·cases hh
   ·cases lo with
    | none=>simp only[Option.some.injEq] at hl;exact hl.symm
    | some x =>
     simp only at hl;split at hl
     ·rename_i hc;simp only[Option.some.injEq] at hl;exact⟨hc.1,hc.2,hl.symm⟩
     ·cases hl
def IH (ι:aP):Option Value→Option Value→Prop
 | none,none=>True
 | some v,some u=>VR ι v u
 | _,_=>False
theorem YA {isSlice:Bool} {len cap cap':Nat} (hcap:cap≤cap') {lo hi lo' hi':Option Value} (hlo:IH ι lo lo') (hhi:IH ι hi hi') {il ih:Option Int}
  (hil:kC lo=some il) (hih:kC hi=some ih) {l h:Nat} (hb:lU len cap il ih=some (l,h)) :
  (Instr.sliceBounds isSlice len cap' lo' hi' none).run P w=.ok (l,h,cap') w:=by
 obtain⟨h1,h2⟩:=wq hb;have bound:∀ (v:Value) (k:IntKind) (x:Int) (y:Nat) (code:BoundsCode),v=.int k x→0≤x→x≤(y:Int)→(Instr.sliceBound v y code).run P w=.ok x.toNat w:=by
  intro v k x y code hv h0 h1;subst hv;simp[Instr.sliceBound,asIntOf,h0,h1]
 have ehi:(hi'=none→h=len)∧(∀ v' code,hi'=some v'→(Instr.sliceBound v' cap' code).run P w=.ok h w):=by
  cases hi with
  | none =>
   cases hi' with
   | none =>
    simp only[kC,Option.some.injEq] at hih;subst hih;exact⟨fun _=>h1,fun _ _ e=>(by cases e)⟩
   | some _=>exact hhi.elim
  | some v =>
   cases hi' with
   | none=>exact hhi.elim
   | some v' =>
    cases v <;> simp[kC] at hih
    rename_i k x;subst hih;obtain⟨g1,g2,rfl⟩:=h1;refine⟨fun e=>(by cases e),fun v2 code e=>?_⟩;cases e;exact bound _ k x _ _ (VR.int_eq hhi) g1 (by omega)
 have elo:(lo'=none→l=0)∧(∀ v' code,lo'=some v'→(Instr.sliceBound v' h code).run P w=.ok l w):=by
  cases lo with
  | none =>
   cases lo' with
   | none =>
    simp only[kC,Option.some.injEq] at hil;subst hil;exact⟨fun _=>h2,fun _ _ e=>(by cases e)⟩
   | some _=>exact hlo.elim
  | some v =>
   cases lo' with
   | none=>exact hlo.elim
   | some v' =>
    cases v <;> simp[kC] at hil
    rename_i k x;subst hil;obtain⟨g1,g2,rfl⟩:=h2;refine⟨fun e=>(by cases e),fun v2 code e=>?_⟩;cases e;exact bound _ k x _ _ (VR.int_eq hlo) g1 (by omega)
 unfold Instr.sliceBounds;cases hi' with
 | none =>
  have:=ehi.1 rfl;subst this;cases lo' with
  | none =>
   have:=elo.1 rfl;subst this;rfl
  | some v=>simp[elo.2 v _ rfl]
 | some v =>
  cases lo' with
  | none =>
   have:=elo.1 rfl;subst this;simp[ehi.2 v _ rfl]
  | some u=>simp[ehi.2 v _ rfl,elo.2 u _ rfl]
theorem WU {a b:Nat} {u:Value} (h:VR ι (.slice none a b) u):u=.slice none a b:=by cases h;rfl
theorem Oa {b o len cap:Nat} {u:Value} (h:VR ι (.slice (some ⟨b,o,none⟩) len cap) u):∃ l,ι b=some l∧u=.slice (some ⟨l.bL,l.off+o,none⟩) len (cap+l.extra):=by
 cases h with | slice _ _ hl=>exact⟨_,hl,rfl⟩
theorem aHo (hR:R (env P) ι H n w) {t:TypeId} {x x' v:Value} {lo hi mx lo' hi' mx':Option Value} (hx:VR ι x x') (hlo:IH ι lo lo') (hhi:IH ι hi hi') (hmx:IH ι mx mx')
  (h:eI (env P) H t x lo hi mx=some v):jL P ι w (Instr.sliceAt t x' lo' hi' mx') v:=by
 unfold jL;unfold eI at h;cases mx with
 | some _=>cases h
 | none =>
 cases mx' with
 | some _=>exact hmx.elim
 | none =>
 simp only at h;split at h
 ·rename_i i il ih ht hil hih;unfold Instr.sliceAt;simp only[Sem.run_bind,eH ht,Result.andThen_ok];split at h
  ·
   rename_i s hd;rw[hx.sT];split at h
   ·rename_i l h0 hb;split at h
    ·simp only[Option.some.injEq] at h;subst h;refine⟨_,?_,.string _⟩;rw[hd];simp only[Instr.slice,Sem.run_bind,eH ht,Result.andThen_ok,hd,Option.isSome_none,Bool.false_eq_true,if_false,Sem.run_pure];rw[YA (Nat.le_refl _) hlo hhi hil hih hb];rfl
    ·cases h
   ·cases h
  ·
   rename_i e hd;rw[WU hx];split at h
   ·rename_i ei hb he;simp only[Option.some.injEq] at h;subst h;refine⟨_,?_,.zL 0 0⟩;rw[hd];simp only[Instr.slice,Sem.run_bind,eH ht,Result.andThen_ok,hd];rw[YA (Nat.le_refl _) hlo hhi hil hih hb];simp[pE he]
   ·cases h
  ·
   rename_i e a len cap hd;obtain⟨ab,ao,aKe⟩:=a;cases aKe with
   | some _=>cases h
   | none =>
   simp only at h;obtain⟨l,hl,rfl⟩:=Oa hx;split at h
   ·rename_i lo0 hi0 ei c z m e' room ro aT hb he hH;split at h
    ·rename_i hle;obtain⟨q1,q2⟩:=wq hb;obtain⟨l',arr,e'',fz,p1,p2,p3,p4,p5,_⟩:=CI hR hH;rw[hl] at p1;cases p1;have hcaph:hi0≤cap:=hle.2;rw[hd];have hrun:(Instr.slice t (.slice (some ⟨l.bL,l.off+ao,none⟩) len (cap+l.extra)) lo' hi' none).run P w =
       .ok (.slice (if cap+l.extra=lo0 then some ⟨l.bL,l.off+ao,none⟩ else some ((⟨l.bL,l.off+ao,none⟩:Addr).add (lo0*ei.size))) (hi0-lo0) (cap+l.extra-lo0)) w:=by
      simp only[Instr.slice,Sem.run_bind,eH ht,Result.andThen_ok,hd];rw[YA (by omega) hlo hhi hil hih hb];simp[pE he]
     refine⟨_,hrun,?_⟩;split at h
     ·rename_i hcl;subst hcl;have h0:hi0=cap:=by omega
      subst h0;simp only[Option.some.injEq] at h;subst h;simp only[Nat.sub_self];cases room with
      | true =>
       simp only[if_true];have:=VR.sQ (ι:=ι) (o:=ao) (k:=hi0*ei.size) hl;by_cases hx0:l.extra=0
       ·simp only[hx0,if_true,Nat.add_zero] at this ⊢;simpa using this
       ·rw[if_neg (by omega),Addr.qF];rw[if_neg hx0] at this;rw[show hi0+l.extra-hi0=l.extra from by omega];exact this
      | false =>
       have hx0:=p5 rfl;simp only[Bool.false_eq_true,if_false,hx0,Nat.add_zero,if_true,Nat.sub_self];have:=VR.slice (ι:=ι) (o:=ao) 0 0 hl;simpa [hx0] using this
     ·rename_i hcl;simp only[Option.some.injEq] at h;subst h;rw[if_neg (by omega),Addr.qF,Addr.qF];have:=VR.slice (ι:=ι) (o:=ao+lo0*ei.size) (hi0-lo0) (cap-lo0) hl;rw[show cap+l.extra-lo0=cap-lo0+l.extra from by omega,Nat.add_assoc];exact this
    ·cases h
   ·cases h
  ·
   rename_i m e a hd;obtain⟨ab,ao,aKe⟩:=a;cases aKe with
   | some _=>cases h
   | none =>
   simp only at h;obtain⟨_,_,l,e1,hl,rfl⟩:=wV hx;cases e1;split at h
   ·rename_i lo0 hi0 ei c z m' e' ro aT hb he hH;split at h
    ·rename_i hle;obtain⟨l',arr,e'',fz,p1,p2,p3,p4,p5,_⟩:=CI hR hH;rw[hl] at p1;cases p1;have hx0:=p5 rfl;simp only[Option.some.injEq] at h;subst h;rw[hd];simp only[Instr.sureAddr,Sem.run_bind,Sem.run_pure,Result.andThen_ok];rw[YA (Nat.le_refl _) hlo hhi hil hih hb];simp only[Result.andThen_ok,pE he];refine⟨_,rfl,?_⟩;split
     ·have:=VR.slice (ι:=ι) (o:=ao) (hi0-lo0) (m-lo0) hl;simpa [hx0] using this
     ·have:=VR.slice (ι:=ι) (o:=ao+lo0*ei.size) (hi0-lo0) (m-lo0) hl;rw[Addr.qF,Addr.qF];simpa [hx0,Nat.add_assoc] using this
    ·cases h
   ·cases h
  ·cases h
 ·cases h
end Go.Dust
