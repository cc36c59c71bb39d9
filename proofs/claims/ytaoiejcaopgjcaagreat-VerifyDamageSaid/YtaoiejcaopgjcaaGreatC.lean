/- The plain interpreter D and its laws (Di Dj Dk Dl). -/
import Derived.Test.YtaoiejcaopgjcaaGreatB
import Derived.KernelRfl
set_option linter.unusedVariables false
set_option linter.unusedSimpArgs false
namespace Go.Dust
variable {P:Program} {ι:aQ} {s s':St} {w:World}
theorem RS.drew (hR:RS P ι s w) {w':World} (h:w'.heap=w.heap):RS P ι s w':=R.drew hR h
theorem Ig {x x':Value} (hx:VR ι x x') {n:Nat} (h:wA x=some n) (w1:World):(Builtin.lenOf x').run P w1=.ok n w1:=aAz hx h
theorem Bz (hR:RS P ι s w) {size n:Nat} {x x':Value} (hx:VR ι x x') {l:List Value} (h:kP s.look size n x=some l) (hn:∀ a c d,x=.slice a c d→n≤c) :
  ∃ l':Array Value,bT ι l l'.toList∧∀ w1:World,w1.heap=w.heap→(Builtin.firstCells size n x').run P w1=.ok l' w1:=by
 obtain⟨l',g1,g2⟩:=Ca (P:=P) hR hx h hn;refine⟨l',g2,fun w1 hw1=>?_⟩;obtain⟨l'',k1,k2⟩:=Ca (P:=P) (hR.drew hw1) hx h hn;have:l''=l':=by
  unfold kP at h;split at h
  ·rename_i a c d;split at h
   ·rename_i h0;cases hx <;> simp[Builtin.firstCells,h0,loadCells,loadCellsFrom] at g1 k1 <;> rw[g1,k1]
   ·rename_i h0;have hc:0<c:=by
     have:=hn _ _ _ rfl;by_cases hz:n=0
     ·subst hz;simp at h0
     ·omega
    cases hx with
    | @slice b0 o0 l0 _ _ hl =>
     unfold bI at h;simp only at h;split at h
     ·rename_i cc z m e room ro bB hs hb;obtain⟨l1,arr,e',fz,p1,p2,_,_,_,_,p6,p7⟩:=BK hR (show s.look _=_ from hb);rw[hl] at p1;cases p1;obtain⟨q1,_,_⟩:=ZU p7 _ _ _ h;have r1:=run_loadCells (P:=P) (w:=w) (k:=n*size) (o:=l0.off+o0) p2 (by omega);have r2:=run_loadCells (P:=P) (w:=w1) (k:=n*size) (o:=l0.off+o0) (by rw[hw1];exact p2) (by omega);simp only[Builtin.firstCells] at g1 k1;rw[r1] at g1;rw[r2] at k1;cases g1;cases k1;rfl
     ·cases h
    | tX hl=>omega
  ·rw[YY hx] at g1 k1;cases g1;cases k1;rfl
  ·rw[hx.tZ] at g1 k1;cases g1;cases k1;rfl
  ·cases h
 rw[← this];exact k1
theorem Vn (hR:RS P ι s w) {argTypes:Array TypeId} {ty:TypeId} {args:List Value} {args':Array Value} (ha:bT ι args args'.toList) {v:Value}
  (h:oY (env P) s argTypes args=some (v,s')):JQ P ι s w (Builtin.append_ argTypes ty args') v s':=by
 unfold oY at h;split at h
 ·rename_i t t2 base sLen sCap x hat
  generalize hl:args'.toList=l' at ha;cases ha with
  | cons hs ha =>
  cases ha with
  | cons hx ha =>
  cases ha with
  | nil =>
  rename_i u x';split at h
  ·rename_i e sz by_ ze ag me cm i2 ht ht2;split at h
   ·rename_i d z esz eb ea em ec n he hn;split at h
    ·cases h
    ·rename_i new hf;split at h
     ·rename_i hc;obtain⟨c1,c2,c3,c4,c5,c6⟩:=hc;obtain⟨newU,q1,q2⟩:=Bz hR hx hf (Ie hn);have hsv:∃ base' sCap',u=.slice base' sLen sCap':=by
       cases hs <;> exact⟨_,_,rfl⟩
      obtain⟨base',sCap',rfl⟩:=hsv;exact Vl hR hat hl ht rfl ht2 c2 he rfl c3 (fun w1=>Ig hx hn w1) hs q1 q2 c1 c4 c5 c6 h
     ·cases h
   ·cases h
  ·cases h
 ·cases h
theorem Xz (hR:RS P ι s w) {argTypes:Array TypeId} {ty:TypeId} {args:List Value} {args':Array Value} (ha:bT ι args args'.toList) {v:Value}
  (h:OH (env P) s argTypes args=some (v,s')):JQ P ι s w (Builtin.copy_ argTypes ty args') v s':=by
 unfold OH at h;split at h
 ·rename_i t base dLen dCap x hat
  generalize hl:args'.toList=l' at ha;cases ha with
  | cons hs ha =>
  cases ha with
  | cons hx ha =>
  cases ha with
  | nil =>
  rename_i u x';obtain⟨b0,b1⟩:args'[0]?=some u∧args'[1]?=some x':=by
   constructor
   ·rw[← Array.getElem?_toList,hl];rfl
   ·rw[← Array.getElem?_toList,hl];rfl
  split at h
  ·rename_i e sz by_ ze ag me cm ht;split at h
   ·rename_i ei m he hm;split at h
    ·rename_i cs hf;obtain⟨csU,q1,q2⟩:=Bz hR hx hf (fun a c d e=>Nat.le_trans (Nat.min_le_left m dLen) (Ie hm a c d e));have hsv:∃ base' dCap',u=.slice base' dLen dCap'∧(base=none↔base'=none):=by
      cases hs <;> exact⟨_,_,rfl,by simp⟩
     obtain⟨base',dCap',rfl,hbn⟩:=hsv;have hrun:(Builtin.copy_ argTypes ty args').run P w=((match base' with | some a=>storeCells a csU.toList | none=>pure ()).run P w).andThen fun _ w'=>.ok (goInt (Nat.min m dLen:Nat)) w':=by
      unfold Builtin.copy_;simp only[hat,b0,b1,Sem.run_bind,fA ht,Result.andThen_ok,Ig hx hm w,pZ he,q2 w rfl];cases base' <;> simp
     split at h
     ·rename_i a;split at h
      ·rename_i hemp;simp only[Option.some.injEq,Prod.mk.injEq] at h;obtain⟨rfl,rfl⟩:=h;have:cs=[]:=by simpa using hemp
       subst this;have hU:=q1.Kr;refine⟨_,ι,w,?_,.int _ _,hR,Ext.refl⟩;rw[hrun];cases base' with
       | none=>rfl
       | some a'=>simp[goInt,hU,storeCells]
      ·rename_i hemp;split at h
       ·rename_i s1 hst;simp only[Option.some.injEq,Prod.mk.injEq] at h;obtain⟨rfl,rfl⟩:=h;generalize hb':Value.slice base' dLen dCap'=u' at hs;cases hs with
        | slice _ _ hl2 =>
         cases hb';obtain⟨w',g1,g2,g3⟩:=SH hR hl2 q1 hst;refine⟨_,ι,w',?_,.int _ _,g2,g3⟩;rw[hrun];simp only[g1];rfl
        | tX hl2 =>
         unfold dS at hst;simp at hst
       ·cases h
     ·simp only[Option.some.injEq,Prod.mk.injEq] at h;obtain⟨rfl,rfl⟩:=h;have:base'=none:=hbn.1 rfl;subst this;exact⟨_,ι,w,by rw[hrun];rfl,.int _ _,hR,Ext.refl⟩
    ·cases h
   ·cases h
  ·cases h
 ·cases h
theorem aFq {k x:Value} (h:vZ k x=some true):Instr.sameBits 10000 x k=true:=by
 unfold vZ at h;split at h
 ·split at h
  ·rename_i hk;subst hk;simp only[Option.some.injEq,beq_iff_eq] at h;subst h;simp[Instr.sameBits]
  ·cases h
 ·simp only[Option.some.injEq] at h;simp only[Instr.sameBits];rw[beq_toListBytes] at h ⊢;rw[beq_iff_eq] at h ⊢;exact h.symm
 ·simp only[Option.some.injEq,beq_iff_eq] at h;subst h;simp[Instr.sameBits]
 ·cases h
theorem fL.get {l l':List MapEntry} (h:fL ι l l') (j:Nat) {e:MapEntry} (he:l[j]?=some e):∃ e',l'[j]?=some e'∧ER ι e e':=by
 induction h generalizing j with
 | nil=>simp at he
 | cons hx t ih =>
  cases j with
  | zero=>simp at he;subst he;exact⟨_,by simp,hx⟩
  | succ j=>obtain⟨e',h1,h2⟩:=ih j (by simpa using he);exact⟨e',by simpa using h1,h2⟩
theorem fL.modify {l l':List MapEntry} (h:fL ι l l') (j:Nat) {f g:MapEntry→MapEntry} (hfg:∀ e e',ER ι e e'→ER ι (f e) (g e')):fL ι (l.modify j f) (l'.modify j g):=by
 induction h generalizing j with
 | nil=>simp;exact .nil
 | cons hx t ih =>
  cases j with
  | zero=>simp only[List.modify_zero_cons];exact .cons (hfg _ _ hx) t
  | succ j=>simp only[List.modify_succ_cons];exact .cons hx (ih j)
theorem fL.append {a a' b b':List MapEntry} (h:fL ι a a') (k:fL ι b b'):fL ι (a++b) (a'++b'):=by
 induction h with
 | nil=>exact k
 | cons hx _ ih=>exact .cons hx ih
theorem fL.eraseIdx {l l':List MapEntry} (h:fL ι l l') (j:Nat):fL ι (l.eraseIdx j) (l'.eraseIdx j):=by
 induction h generalizing j with
 | nil=>simp;exact .nil
 | cons hx t ih =>
  cases j with
  | zero=>simpa using t
  | succ j=>simp only[List.eraseIdx_cons_succ];exact .cons hx (ih j)
theorem YH (hR:RS P ι s w) {r:Nat} {es:List MapEntry} {c bB:Nat} (h:s.heap.get r=some (.map es c bB)) :
  ∃ l es',ι r=some l∧l.ro=false∧l.off=0∧l.extra=0∧w.heap[l.aT]?=some (.map es' c)∧fL ι es es'.toList:=by
 obtain⟨l,h1,h2,h3,h4,es',h5,h6⟩:=hR.obj r _ (show s.look r=_ from h) rfl;exact⟨l,es',h1,h2,h3,h4,h5,h6⟩
theorem RZ {b:Nat} {es:Array MapEntry} {c:Nat} (h:w.heap[b]?=some (.map es c)) (o:Obj):(setObj b o).run P w=.ok () (World.gO w b o):=by
 simp[setObj,Sem.run,h,World.gO]
theorem Jj (hR:RS P ι s w) {t:TypeId} {m k v m' k' v':Value} (hm:VR ι m m') (hk:VR ι k k') (hv:VR ι v v') (h:mJ (env P) s t m k v=some s') :
  ∃ w',(Instr.mapUpdate t m' k' v').run P w=.ok () w'∧RS P ι s' w'∧ES ι s w ι s' w':=by
 unfold mJ at h;split at h
 ·rename_i kt et sz by_ ze ag me cm r ht;obtain⟨l,hl,rfl⟩:=IB hm;split at h
  ·rename_i hkk;have hkeq:=pk hkk hk;have hkeq':=hkeq.symm;subst hkeq';split at h
   ·rename_i es c bB hH;obtain⟨l',es',p1,p2,p3,p4,p5,p6⟩:=YH hR hH;rw[hl] at p1;cases p1;have hck:=run_checkKey (w:=w) hkk false;split at h
    ·rename_i j v0 hf;simp only[Option.some.injEq] at h;subst h;obtain⟨r',g1,v0',g2,g3,e0,g4,g5⟩:=run_findKey (P:=P) (w:=w) hkk p6 hf;subst g2;obtain⟨e0',q1,q2⟩:=p6.get j g4;have q1':es'[j]?=some e0':=by simpa using q1
     have hsb:Instr.sameBits 10000 e0'.key k=true:=by
      rw[ph g5 q2.key];exact aFq g5
     refine⟨_,?_,hR.put hH rfl hl p2 (.map (es'.modify j fun e=>{e with key:=k,val:=v'}) c) ⟨p2,p3,p4,_,zV (jJ p5),?_⟩⟩
     ·unfold Instr.mapUpdate;simp only[Sem.run_bind,fA ht,Result.andThen_ok,yC p5,hck,g1,q1',Option.map_some,Option.getD_some,Instr.keyThatStays,hsb,if_true,Sem.run_pure,RZ p5]
     ·rw[Array.toList_modify];exact p6.modify j fun e e' he=>⟨hk,hv,he.born⟩
    ·rename_i hf;simp only[Option.some.injEq] at h;subst h;obtain⟨r',g1,g2⟩:=run_findKey (P:=P) (w:=w) hkk p6 hf;cases (show r'=none from g2);refine⟨_,?_,hR.put hH rfl hl p2 (.map (es'.push {key:=k,val:=v',born:=c}) (c+1)) ⟨p2,p3,p4,_,zV (jJ p5),?_⟩⟩
     ·unfold Instr.mapUpdate;simp only[Sem.run_bind,fA ht,Result.andThen_ok,yC p5,hck,g1,RZ p5]
     ·rw[Array.toList_push];exact p6.append (.cons ⟨hk,hv,rfl⟩ .nil)
    ·cases h
   ·cases h
  ·cases h
 ·cases h
theorem Yq (hR:RS P ι s w) {argTypes:Array TypeId} {ty:TypeId} {args:List Value} {args':Array Value} (ha:bT ι args args'.toList) {v:Value}
  (h:zJ (env P) s argTypes args=some (v,s')):JQ P ι s w (Builtin.delete_ argTypes ty args') v s':=by
 unfold zJ at h;split at h
 ·rename_i t m k hat
  generalize hl:args'.toList=l' at ha;cases ha with
  | cons hm ha =>
  cases ha with
  | cons hk ha =>
  cases ha with
  | nil =>
  rename_i m' k';obtain⟨b0,b1⟩:args'[0]?=some m'∧args'[1]?=some k':=by
   constructor
   ·rw[← Array.getElem?_toList,hl];rfl
   ·rw[← Array.getElem?_toList,hl];rfl
  have hunit:VR ι (.tuple #[]) (.tuple #[]):=VR.undef ι;split at h
  ·rename_i kt et sz by_ ze ag me cm ht;split at h
   ·rename_i hkk;have hkeq:=pk hkk hk;have hkeq':=hkeq.symm;subst hkeq';split at h
    ·rw[QY hm] at b0;simp only[Option.some.injEq,Prod.mk.injEq] at h;obtain⟨rfl,rfl⟩:=h;refine⟨_,ι,w,?_,hunit,hR,Ext.refl⟩;unfold Builtin.delete_;simp only[hat,b0,b1,Sem.run_bind,fA ht,Result.andThen_ok,run_checkKey hkk,Sem.run_pure]
    ·rename_i r;obtain⟨l,hl2,rfl⟩:=IB hm;split at h
     ·rename_i es c bB hH;obtain⟨l',es',p1,p2,p3,p4,p5,p6⟩:=YH hR hH;rw[hl2] at p1;cases p1;split at h
      ·rename_i j v0 hf;simp only[Option.some.injEq,Prod.mk.injEq] at h;obtain⟨rfl,rfl⟩:=h;obtain⟨r',g1,v0',g2,g3,e0,g4,g5⟩:=run_findKey (P:=P) (w:=w) hkk p6 hf;subst g2;obtain⟨q1,q2⟩:=hR.put (f:=fun v=>.map (es.eraseIdx j) c v) hH rfl hl2 p2 (.map (es'.eraseIdxIfInBounds j) c) ⟨p2,p3,p4,_,zV (jJ p5),by
        rw[Array.toList_eraseIdxIfInBounds];exact p6.eraseIdx j⟩
       refine⟨_,ι,_,?_,hunit,q1,q2⟩;unfold Builtin.delete_;simp only[hat,b0,b1,Sem.run_bind,fA ht,Result.andThen_ok,yC p5,run_checkKey hkk,g1,RZ p5,Sem.run_pure]
      ·rename_i hf;simp only[Option.some.injEq,Prod.mk.injEq] at h;obtain⟨rfl,rfl⟩:=h;obtain⟨r',g1,g2⟩:=run_findKey (P:=P) (w:=w) hkk p6 hf;cases (show r'=none from g2);refine⟨_,ι,w,?_,hunit,hR,Ext.refl⟩;unfold Builtin.delete_;simp only[hat,b0,b1,Sem.run_bind,fA ht,Result.andThen_ok,yC p5,run_checkKey hkk,g1,RZ p5,Sem.run_pure];rw[Pm p5]
      ·cases h
     ·cases h
    ·cases h
   ·cases h
  ·cases h
 ·cases h
theorem Nc {α:Type} (l:List α):∀ (n i:Nat),(rep l n)[i]?=if i<n*l.length then l[i%l.length]? else none
 | 0,i=>by simp[rep]
 | n+1,i=>by
  rw[rep];by_cases h:i<l.length
  ·rw[List.getElem?_append_left h,if_pos (by rw[Nat.succ_mul];omega),Nat.mod_eq_of_lt h]
  ·rw[List.getElem?_append_right (by omega),Nc l n];have hm:(i-l.length)%l.length=i%l.length:=(Nat.mod_eq_sub_mod (by omega)).symm;rw[hm];have:(i-l.length<n*l.length)=(i<(n+1)*l.length):=by rw[Nat.succ_mul];simp;omega
   simp only[this]
theorem aHk (z:Array Value) (n:Nat):(Builtin.zeroCells z n).toList=rep z.toList n:=by
 apply List.ext_getElem?;intro i;rw[Nc];simp only[Builtin.zeroCells,Array.toList_map,List.getElem?_map];by_cases h:i<n*z.size
 ·have hpos:0<z.size:=by
   by_cases h0:z.size=0
   ·rw[h0] at h;simp at h
   ·omega
  have hmod:i%z.size<z.size:=Nat.mod_lt _ hpos;have h1:(Array.range (n*z.size)).toList[i]?=some i:=by simp[h]
  rw[h1,if_pos (by simpa using h)];simp only[Option.map_some,Array.length_toList];rw[getElem!_pos z _ hmod];simp[hmod]
 ·have h1:(Array.range (n*z.size)).toList[i]?=none:=by simp;omega
  rw[h1,if_neg (by simpa using h)];rfl
theorem bT.rep {l l':List Value} (h:bT ι l l'):∀ n,bT ι (Dust.rep l n) (Dust.rep l' n)
 | 0=>.nil
 | n+1=>h.append (bT.rep h n)
theorem Xo (hR:RS P ι s w) {argTypes:Array TypeId} {ty:TypeId} {args:List Value} {args':Array Value} (ha:bT ι args args'.toList) {v:Value}
  (h:zG (env P) s argTypes args=some (v,s')):JQ P ι s w (Builtin.clear_ argTypes ty args') v s':=by
 unfold zG at h;split at h
 ·rename_i t x hat
  generalize hl:args'.toList=l' at ha;cases ha with
  | cons hx ha =>
  cases ha with
  | nil =>
  rename_i x';have b0:args'[0]?=some x':=by rw[← Array.getElem?_toList,hl];rfl
  have hunit:VR ι (.tuple #[]) (.tuple #[]):=VR.undef ι;cases ht:(env P).ty t with
  | none=>rw[ht] at h;cases h
  | some i =>
   rw[ht] at h;simp only at h;split at h
   ·simp only[Option.some.injEq,Prod.mk.injEq] at h;obtain⟨rfl,rfl⟩:=h;rw[QY hx] at b0;refine⟨_,ι,w,?_,hunit,hR,Ext.refl⟩;unfold Builtin.clear_;simp only[hat,b0,Sem.run_bind,fA ht,Result.andThen_ok,Sem.run_pure]
   ·simp only[Option.some.injEq,Prod.mk.injEq] at h;obtain⟨rfl,rfl⟩:=h;rw[YY hx] at b0;refine⟨_,ι,w,?_,hunit,hR,Ext.refl⟩;unfold Builtin.clear_;simp only[hat,b0,Sem.run_bind,fA ht,Result.andThen_ok,Sem.run_pure]
   ·rename_i r;obtain⟨l,hl2,rfl⟩:=IB hx;split at h
    ·rename_i es c bB hH;obtain⟨l',es',p1,p2,p3,p4,p5,p6⟩:=YH hR hH;rw[hl2] at p1;cases p1;simp only[Option.some.injEq,Prod.mk.injEq] at h;obtain⟨rfl,rfl⟩:=h;obtain⟨q1,q2⟩:=hR.put (f:=fun v=>.map [] c v) hH rfl hl2 p2 (.map #[] c) ⟨p2,p3,p4,_,zV (jJ p5),.nil⟩;refine⟨_,ι,_,?_,hunit,q1,q2⟩;unfold Builtin.clear_;simp only[hat,b0,Sem.run_bind,fA ht,Result.andThen_ok,yC p5,RZ p5,Sem.run_pure]
    ·cases h
   ·rename_i a n cap;split at h
    ·rename_i hn0;subst hn0;simp only[Option.some.injEq,Prod.mk.injEq] at h;obtain⟨rfl,rfl⟩:=h;refine⟨.tuple #[],ι,w,?_,hunit,hR,Ext.refl⟩;unfold Builtin.clear_;cases hx <;> simp only[hat,b0,Sem.run_bind,fA ht,Result.andThen_ok,Sem.run_pure]
    ·rename_i hn0;split at h
     ·rename_i e hd;split at h
      ·rename_i d sz by_ z ag me cm he;split at h
       ·rename_i s1 hst;simp only[Option.some.injEq,Prod.mk.injEq] at h;obtain⟨rfl,rfl⟩:=h;have hz:bT ι z.cells.toList z.cells.toList:=VR.cells (.closed (FQ he rfl));cases hx with
        | @slice b0' o0 l0 _ _ hl2 =>
         obtain⟨w',g1,g2,g3⟩:=SH (P:=P) hR hl2 (hz.rep n) hst;refine⟨.tuple #[],ι,w',?_,hunit,g2,g3⟩;unfold Builtin.clear_;obtain⟨m,rfl⟩:∃ m,n=m+1:=⟨n-1,by omega⟩;simp only[hat,b0,Sem.run_bind,fA ht,hd,Result.andThen_ok,AZ he rfl,aHk,g1,Sem.run_pure]
        | tX hl2=>omega
       ·cases h
      ·cases h
     ·cases h
   ·cases h
 ·cases h
theorem oo (hR:RS P ι s w) (x:Obj) (f:Nat→bW) (ho:jM (env P) (ι.add s.next (mK w)) (w.alloc x) (mK w) (f s.aR)) :
  ∃ ι',VR ι' (.pointer (some ⟨s.next,0,none⟩)) (.pointer (some ⟨w.heap.size,0,none⟩))∧RS P ι' (s.new f) (w.alloc x)∧ES ι s w ι' (s.new f) (w.alloc x):=by
 obtain⟨g1,g2⟩:=RS.new hR x ho;refine⟨_,?_,g1,g2⟩;have:=VR.ptr (ι:=ι.add s.next (mK w)) (o:=0) (aQ.add_same ι s.next (mK w));simpa [mK] using this
theorem RS.free (hR:RS P ι s w):ι s.next=none:=hR.fresh _ (Nat.le_refl _) hR.kT
variable {P:Program} {ι:aQ} {s s':St} {w:World}
abbrev FW (r:Option Nat):Fence:={Fence.wide with round:=r}
def JO (P:Program) (ι:aQ) (s:St) (w:World) (Φ:Value×St→Prop):Ending→World→Prop
 | e,w'=>∃ v u s' ι',e=.returned u∧Φ (v,s')∧VR ι' v u∧RS P ι' s' w'∧ES ι s w ι' s' w'
structure wY (P:Program) (call:gS):Prop where
 fn:∀ f args s Φ,(call f args s).jD Φ→∃ fn,(env P).fn f=some fn∧(fn.body=none→(xI s fn args).jD Φ)
 calls:∀ f fn args (args':Array Value) s w ι Φ (r:Option Nat) (m:Nat),(env P).fn f=some fn→fn.body.isSome=true→(call f args s).jD Φ→bT ι args args'.toList→RS P ι s w →
  CallsIn (FW r) m P f args' w (JO P ι s w Φ)
def BJ (P:Program) (round:gW):Prop:=∀ l args (args':Array Value) s w ι Φ (r:Option Nat) (m:Nat),(round l args s).jD Φ→bT ι args args'.toList→RS P ι s w →
 ∃ (loc:Loc) (rec:Loop),ι l=some loc∧w.heap[loc.aT]?=some (.loop rec)∧args'.size=rec.params.size ∧
  RoundIn (FW r) m P loc.aT rec.fn ((rec.params.zip args').foldl (fun tmps (t,a)=>tmps.setIfInBounds t a) rec.tmps) rec.assign rec.body w (JO P ι s w Φ)
section
variable {r:Option Nat} {m:Nat} {o:Oper} {act:Act} {K:Act→World→Prop} {Q:Exit→Act→World→Prop} {w':World}
theorem BG (hd:∀ c,o.op≠.defer c) {u:Value} (h:(execOp act.eval o).run P w=.ok (.value u) w') (hk:K (act.put o.dst u) w'):o.wpIn (FW r) m P act w K Q:=by
 refine⟨fun _ _=>trivial,?_⟩;rw[Oper.semAt_eq _ _ _ hd,h];exact hk
theorem uq (hd:∀ c,o.op≠.defer c) (h:(execOp act.eval o).run P w=.ok .skip w') (hk:K (act.put o.dst undef) w'):o.wpIn (FW r) m P act w K Q:=by
 refine⟨fun _ _=>trivial,?_⟩;rw[Oper.semAt_eq _ _ _ hd,h];exact hk
theorem aHg (hd:∀ c,o.op≠.defer c) {f:FuncId} {args:Array Value} (h:(execOp act.eval o).run P w=.ok (.enter f args) w')
  (hk:CallsIn (FW r) (m-1) P f args w' fun e w''=>match e with | .returned u=>K (act.put o.dst u) w'' | .panicked chain=>Q (.panic chain) act w'' | .outgrown=>LetsOut Q):o.wpIn (FW r) m P act w K Q:=by
 refine⟨fun _ _=>trivial,?_⟩;rw[Oper.semAt_eq _ _ _ hd,h];refine⟨fun h=>(by cases h),hk.mono fun e w'' he=>?_⟩;cases e <;> exact he
theorem aHh (hd:∀ c,o.op≠.defer c) {l:Nat} {f:FuncId} {tmps:Array Value} {assign body:Code} (h:(execOp act.eval o).run P w=.ok (.round l f tmps assign body) w')
  (hk:RoundIn (FW r) (m-1) P l f tmps assign body w' fun e w''=>match e with | .returned u=>K (act.put o.dst u) w'' | .panicked chain=>Q (.panic chain) act w'' | .outgrown=>LetsOut Q):o.wpIn (FW r) m P act w K Q:=by
 refine⟨fun _ _=>trivial,?_⟩;rw[Oper.semAt_eq _ _ _ hd,h];refine⟨fun h=>(by cases h),hk.mono fun e w'' he=>?_⟩;cases e <;> exact he
end
theorem Oe {f:FuncId} {fn:Func} (h:(env P).fn f=some fn) (hb:fn.body.isSome=true) (args:Array Value):(callFunc f args).run P w=.ok (.enter f args) w:=by
 obtain⟨h1,h2⟩:=VK h;unfold IG at h2;obtain⟨c,hc⟩:=Option.isSome_iff_exists.1 hb;rw[hc] at h2;simp only[Bool.and_eq_true,bne_iff_ne,ne_eq] at h2;unfold callFunc;simp only[Sem.run_bind,run_program,Result.andThen_ok,h1];rw[if_neg (by simpa using h2.1.1),if_neg (by simp[hc])];rfl
theorem aB9:Extern.allNextRows.lookup "maps.clone"=none:=by kernel_rfl
theorem aBa:Extern.allNextRows.lookup ""=none:=by kernel_rfl
theorem aB8:Extern.allGenericRows.lookup "maps.clone"=none:=by kernel_rfl
theorem aBb:Extern.allTypedRows.lookup "maps.clone"=none:=by kernel_rfl
theorem aB7:Extern.allRows.lookup "maps.clone"=some Extern.MapsClone.clone:=by kernel_rfl
theorem Zz (hR:RS P ι s w) {f:FuncId} {fn:Func} (h:(env P).fn f=some fn) (hb:fn.body=none) {args:List Value} {args':Array Value} (ha:bT ι args args'.toList) {Φ:Value×St→Prop}
  (hA:(xI s fn args).jD Φ):∃ v u s' ι' w',(callFunc f args').run P w=.ok (.value u) w'∧Φ (v,s')∧VR ι' v u∧RS P ι' s' w'∧ES ι s w ι' s' w':=by
 obtain⟨h1,_⟩:=VK h;unfold xI at hA;split at hA
 ·rename_i hn;obtain⟨hname,horig⟩:=hn;split at hA
  ·rename_i t b;generalize hl:args'.toList=l' at ha;cases ha with
   | cons hx ha =>
   cases ha with
   | nil =>
   cases hx with
   | iface _ hx =>
   obtain⟨l,hl2,rfl⟩:=IB hx;have hargs:args'=#[.iface t (.map (some l.aT))]:=by apply Array.toList_inj.1;rw[hl]
   split at hA
   ·rename_i es c bB hH;obtain⟨l',es',p1,p2,p3,p4,p5,p6⟩:=YH hR hH;rw[hl2] at p1;cases p1;have hfree:=hR.free;obtain⟨g1,g2⟩:=RS.new (ex:=0) hR (.map es' c) (f:=fun v=>.map es c v) ⟨rfl,rfl,rfl,es',heap_alloc_new,p6.mono (aQ.uQ hfree)⟩;refine⟨_,.iface t (.map (some w.heap.size)),_,_,_,?_,hA,.iface _ (.map (aQ.add_same ι s.next _)),g1,g2⟩;have hfind:Extern.findNext fn=none:=by
     unfold Extern.findNext;simp[hname,horig,aB9,aBa]
    have hfind2:Extern.find fn=some Extern.MapsClone.clone:=by
     unfold Extern.find;simp[hname,aB8,aBb,aB7]
    unfold callFunc;simp only[Sem.run_bind,run_program,Result.andThen_ok,h1];rw[if_neg (by rw[hname];decide),if_pos (by simp[hb])];have hcl:(Extern.MapsClone.clone #[.iface t (.map (some l.aT))]).run P w=.ok (.iface t (.map (some w.heap.size))) (w.alloc (.map es' c)):=by
     have e0:Extern.MapsClone.clone #[.iface t (.map (some l.aT))]=(do
       let .map entries clock←getObj l.aT | stuck "maps.clone: a map expected"
       pure (.iface t (.map (some (← newObj (.map entries clock)))))):=rfl
     rw[e0];simp only[Sem.run_bind,yC p5,Result.andThen_ok,run_newObj,Sem.run_pure];rfl
    simp only[Sem.run_bind,run_mark,Result.andThen_ok,hfind,hfind2,hargs,hcl,Sem.run_pure]
   ·exact hA.elim
  ·exact hA.elim
 ·exact hA.elim
theorem Ct:∀ (path:List FieldStep) (t xt:TypeId) (v v' x:Value),VR ι v v'→OS (env P) path t v=some (xt,x)→∃ x',(follow path t (.val v')).run P w=.ok (xt,.val x') w∧VR ι x x'
 | [],t,xt,v,v',x,hv,h=>by
  simp only[OS,Option.some.injEq,Prod.mk.injEq] at h;obtain⟨rfl,rfl⟩:=h;exact⟨v',rfl,hv⟩
 | st::rest,t,xt,v,v',x,hv,h=>by
  simp only[OS] at h;split at h
  ·rename_i fields sz by_ ze ag me cm ht;split at h
   ·rename_i f cs hf hde;obtain⟨cs',rfl,hcs⟩:=hv.OB;split at h
    ·rename_i u hu;obtain⟨u',g1,g2⟩:=RN (P:=P) (w:=w) hcs hu;obtain⟨x',k1,k2⟩:=Ct rest f.type xt u u' x g2 h;refine⟨x',?_,k2⟩;simp only[follow,Sem.run_bind,fA ht,Result.andThen_ok,hf,hde,Bool.false_eq_true,if_false,g1,k1]
    ·cases h
   ·cases h
  ·cases h
theorem Jq {t:TypeId} {v v' x:Value} {name:String} {f:FuncId} (hv:VR ι v v') (h:YK (env P) t v name=some (f,x)) (k:Nat) :
  ∃ x',(method (k+1) t v' name).run P w=.ok (f,x') w∧VR ι x x':=by
 unfold YK at h;cases ht:(env P).ty t with
 | none=>rw[ht] at h;cases h
 | some i =>
  rw[ht] at h;simp only at h;obtain⟨inf,e1,_,e3⟩:=RY (w:=w) ht;split at h
  ·rename_i mm hm;split at h
   ·rename_i xt y hfo;obtain⟨y',g1,g2⟩:=Ct (P:=P) (w:=w) _ _ _ _ _ _ hv hfo;have hm':inf.methods.find? (fun x=>x.name==name)=some mm:=by rw[e3];exact hm
    split at h
    ·rename_i f0 el sz by_ ze ag me cm hfun hxt;simp only[Option.some.injEq,Prod.mk.injEq] at h;obtain⟨rfl,rfl⟩:=h;refine⟨y',?_,g2⟩;simp only[method,Sem.run_bind,e1,Result.andThen_ok,hm',g1,hfun,receiverAt,fA hxt,Place.get,Sem.run_pure]
    ·cases h
    ·rename_i f0 xi hnp hfun hxt;simp only[Option.some.injEq,Prod.mk.injEq] at h;obtain⟨rfl,rfl⟩:=h;refine⟨y',?_,g2⟩;simp only[method,Sem.run_bind,e1,Result.andThen_ok,hm',g1,hfun,receiverAt,fA hxt];cases hd:xi.desc with
     | pointer el =>
      exfalso;obtain⟨a1,a2,a3,a4,a5,a6,a7⟩:=xi;simp only at hd;subst hd;exact hnp _ _ _ _ _ _ _ rfl
     | _=>simp[Place.get]
    ·cases h
   ·cases h
  ·cases h
variable {P:Program} {ι:aQ} {s s':St} {w:World}
theorem fL.filter {p:MapEntry→Bool} (hp:∀ e e':MapEntry,e.born=e'.born→p e=p e') {l l':List MapEntry} (h:fL ι l l'):fL ι (l.filter p) (l'.filter p):=by
 induction h with
 | nil=>exact .nil
 | @cons e e' l l' hx t ih =>
  simp only[List.filter_cons];rw[← hp e e' hx.born];cases p e
  ·exact ih
  ·exact .cons hx ih
theorem fL.all {p:MapEntry→Bool} (hp:∀ e e':MapEntry,e.born=e'.born→p e=p e') {l l':List MapEntry} (h:fL ι l l'):l.all p=l'.all p:=by
 induction h with
 | nil=>rfl
 | @cons e e' l l' hx t ih=>simp only[List.all_cons];rw[hp e e' hx.born,ih]
def vI (es:Array MapEntry) (since:Nat) (seen:Array Nat):Array (Option MapEntry) :=
 (if ((es.filter fun e=>!seen.contains e.born).filter (·.born<since)).isEmpty then #[none] else #[]) ++
  (((es.filter fun e=>!seen.contains e.born).filter (·.born<since))++((es.filter fun e=>!seen.contains e.born).filter (·.born≥since))).map some
inductive tD (ι:aQ):List (Option MapEntry)→List (Option MapEntry)→Prop
 | nil:tD ι [] []
 | none {l l':List (Option MapEntry)} (t:tD ι l l'):tD ι (none::l) (none::l')
 | some {e e':MapEntry} {l l':List (Option MapEntry)} (h:ER ι e e') (t:tD ι l l'):tD ι (some e::l) (some e'::l')
theorem tD.length {l l':List (Option MapEntry)} (h:tD ι l l'):l.length=l'.length:=by induction h <;> simp[*]
theorem tD.map {l l':List MapEntry} (h:fL ι l l'):tD ι (l.map Option.some) (l'.map Option.some):=by
 induction h with
 | nil=>exact .nil
 | cons hx _ ih=>exact .some hx ih
theorem tD.get {l l':List (Option MapEntry)} (h:tD ι l l') (i:Nat):(l[i]?=Option.none∧l'[i]?=Option.none)∨(l[i]?=Option.some Option.none∧l'[i]?=Option.some Option.none) ∨
  (∃ e e',l[i]?=Option.some (Option.some e)∧l'[i]?=Option.some (Option.some e')∧ER ι e e'):=by
 induction h generalizing i with
 | nil=>exact .inl ⟨by simp,by simp⟩
 | none t ih =>
  cases i with
  | zero=>exact .inr (.inl ⟨by simp,by simp⟩)
  | succ i=>simpa using ih i
 | some hx t ih =>
  cases i with
  | zero=>exact .inr (.inr ⟨_,_,by simp,by simp,hx⟩)
  | succ i=>simpa using ih i
theorem Xd {es:List MapEntry} {es':Array MapEntry} (h:fL ι es es'.toList) (since:Nat) (seen:List Nat) :
  tD ι (nZ es since seen) (vI es' since seen.reverse.toArray).toList:=by
 have h1:fL ι (es.filter fun e=>!seen.contains e.born) (es'.toList.filter fun e=>!seen.reverse.toArray.contains e.born):=by
  have hc:(fun e:MapEntry=>!seen.reverse.toArray.contains e.born)=fun e=>!seen.contains e.born:=by
   funext e;simp
  rw[hc];exact h.filter fun e e' hb=>by rw[hb]
 have h2:=h1.filter (p:=fun e=>decide (e.born<since)) fun e e' hb=>by rw[hb]
 have h3:=h1.filter (p:=fun e=>decide (e.born≥since)) fun e e' hb=>by rw[hb]
 unfold nZ vI;simp only[Array.toList_append,Array.toList_map,Array.toList_filter];have hemp:(List.filter (fun e=>decide (e.born<since)) (List.filter (fun e=>!seen.contains e.born) es)).isEmpty =
   ((es'.filter fun e=>!seen.reverse.toArray.contains e.born).filter (·.born<since)).isEmpty:=by
  have:=h2.length;rw[Bool.eq_iff_iff];simp only[List.isEmpty_iff,Array.isEmpty_iff];rw[← List.length_eq_zero_iff,this];rw[← Array.size_eq_zero_iff,← Array.length_toList];simp
 rw[hemp];have happ:tD ι (List.map Option.some (List.filter (fun e=>decide (e.born<since)) (List.filter (fun e=>!seen.contains e.born) es)++List.filter (fun e=>decide (e.born≥since)) (List.filter (fun e=>!seen.contains e.born) es)))
   (List.map Option.some (List.filter (fun e=>decide (e.born<since)) (List.filter (fun e=>!seen.reverse.toArray.contains e.born) es'.toList)++List.filter (fun e=>decide (e.born≥since)) (List.filter (fun e=>!seen.reverse.toArray.contains e.born) es'.toList))) :=
  tD.map (h2.append h3)
 split
 ·exact .none happ
 ·exact happ
theorem aBz (hR:RS P ι s w) {it it':Value} (kQ:VR ι it it') {str:Bool} {Φ:Value×St→Prop} (h:(ID s it str).jD Φ) (ty:TypeId) :
  ∃ v u s' ι' w',(Instr.next it' str ty).run P w=.ok u w'∧Φ (v,s')∧VR ι' v u∧RS P ι' s' w'∧ES ι s w ι' s' w':=by
 unfold ID at h;split at h
 ·rename_i a;obtain⟨ab,ao,l,rfl,hl,rfl⟩:=xZ kQ;split at h
  ·rename_i h0;cases (show ao=0 from h0.1);have hfalse:VR ι (.tuple #[.bool false]) (.tuple #[.bool false]):=.tuple' (.cons (.bool false) .nil);split at h
   ·
    rename_i st pos bB hH;obtain⟨l',g1,g2,g3,g4,g5⟩:=hR.obj _ _ (show s.look ab=_ from hH) rfl;rw[hl] at g1;cases g1;cases str with
    | false=>exact h.elim
    | true =>
     simp only[if_true] at h;have hxx:(⟨l.aT,l.off+0,none⟩:Addr)=⟨l.aT,0,none⟩:=by rw[g3]
     have hg:(getObj l.aT).run P w=.ok (.stringIter st pos) w:=by simp[getObj,Sem.run,g5]
     split at h
     ·rename_i hp;obtain⟨q1,q2⟩:=hR.put (f:=fun v=>.sW st (pos+(Utf8.decode st pos).2) v) hH rfl hl g2 (.stringIter st (pos+(Utf8.decode st pos).2)) ⟨g2,g3,g4,zV (jJ g5)⟩;refine⟨_,.tuple #[.bool true,goInt pos,.int .i32 (Utf8.decode st pos).1],_,ι,_,?_,h,.tuple' (.cons (.bool _) (.cons (.int _ _) (.cons (.int _ _) .nil))),q1,q2⟩;rw[hxx];have hs:(setObj l.aT (.stringIter st (pos+(Utf8.decode st pos).2))).run P w=.ok () (World.gO w l.aT (.stringIter st (pos+(Utf8.decode st pos).2))):=by
       simp[setObj,Sem.run,g5,World.gO]
      simp only[Instr.next,Sem.run_bind,hg,Result.andThen_ok,hp,if_true,hs,Sem.run_pure]
     ·rename_i hp;refine⟨_,_,_,ι,w,?_,h,hfalse,hR,Ext.refl⟩;rw[hxx];simp only[Instr.next,Sem.run_bind,hg,Result.andThen_ok,hp,if_false,Sem.run_pure]
   ·
    rename_i a1 a2 a3 a4 hH;obtain⟨l',g1,g2,g3,g4,b1,b2,b3,g5⟩:=hR.obj _ _ (show s.look ab=_ from hH) rfl;rw[hl] at g1;cases g1;cases str with
    | true=>exact h.elim
    | false =>
     simp only[Bool.false_eq_true,if_false] at h;have hxx:(⟨l.aT,l.off+0,none⟩:Addr)=⟨l.aT,0,none⟩:=by rw[g3]
     have hg:(getObj l.aT).run P w=.ok (.mapIter none b1 b2 b3) w:=by simp[getObj,Sem.run,g5]
     refine⟨_,_,_,ι,w,?_,h,hfalse,hR,Ext.refl⟩;rw[hxx];simp only[Instr.next,Sem.run_bind,hg,Result.andThen_ok,Sem.run_pure]
   ·
    rename_i m since seen last bB hH;obtain⟨l',g1,g2,g3,g4,lm,g5,g6⟩:=hR.obj _ _ (show s.look ab=_ from hH) rfl;rw[hl] at g1;cases g1;cases str with
    | true=>exact h.elim
    | false =>
     simp only[Bool.false_eq_true,if_false] at h;split at h
     ·rename_i es clock hm;obtain⟨lm',es',q1,q2,q3,q4,q5,q6⟩:=QU hR hm;rw[g5] at q1;cases q1;split at h
      ·exact h.elim
      ·rename_i hstale;have hxx:(⟨l.aT,l.off+0,none⟩:Addr)=⟨l.aT,0,none⟩:=by rw[g3]
       have hg:(getObj l.aT).run P w=.ok (.mapIter (some lm.aT) since seen.reverse.toArray last) w:=by simp[getObj,Sem.run,g6]
       have hrel:=Xd q6 since seen;have hcl:(vI es' since seen.reverse.toArray).size=(nZ es since seen).length:=by rw[hrel.length];simp
       have hst:(!seen.reverse.toArray.isEmpty&&!es'.isEmpty&&es'.all (·.born≥last))=false:=by
        have e1:seen.reverse.toArray.isEmpty=seen.isEmpty:=by
         rw[Bool.eq_iff_iff];simp
        have e2:es'.isEmpty=es.isEmpty:=by
         have:=q6.length;rw[Bool.eq_iff_iff];simp only[List.isEmpty_iff,Array.isEmpty_iff];rw[← List.length_eq_zero_iff,this,← Array.size_eq_zero_iff,← Array.length_toList]
        have e3:es'.all (·.born≥last)=es.all (fun e=>decide (e.born≥last)):=by
         rw[← Array.all_toList];exact(q6.all fun e e' hb=>by rw[hb]).symm
        rw[e1,e2,e3];simpa using hstale
       have hpick:∀ (i:Nat) (w1:World),w1.heap=w.heap→w1.tape=w.tape→w1.os=w.os→(w1.output=w.output∧w.drawn≤w1.drawn) →
         (choose (.mapNext (vI es' since seen.reverse.toArray).size)).run P w=.ok i w1→(EO s ab m since seen clock (nZ es since seen) i).jD Φ →
         ∃ v u s' ι' w',(Instr.next (.pointer (some ⟨l.aT,0,none⟩)) false ty).run P w=.ok u w'∧Φ (v,s')∧VR ι' v u∧RS P ι' s' w'∧ES ι s w ι' s' w':=by
        intro i w1 k1 k2 k3 k4 hch hp;have hR1:RS P ι s w1:=hR.drew k1;have hnext:(Instr.next (.pointer (some ⟨l.aT,0,none⟩)) false ty).run P w =
          (match (vI es' since seen.reverse.toArray)[i]? with
           | some (some e)=>do
            setObj l.aT (.mapIter (some lm.aT) since (seen.reverse.toArray.push e.born) clock)
            pure (.tuple #[.bool true,e.key,e.val])
           | some none=>pure (.tuple #[.bool false])
           | none=>stuck "Next: no such candidate":Sem Value).run P w1:=by
         unfold vI at hch ⊢;simp only[Instr.next,Sem.run_bind,hg,Result.andThen_ok,yC q5];rw[if_neg (by rw[hst];simp)];simp only[Sem.run_bind,hch,Result.andThen_ok];rfl
        rw[hnext];unfold EO at hp;rcases hrel.get i with ⟨c1,c2⟩ | ⟨c1,c2⟩ | ⟨e,e',c1,c2,c3⟩
        ·rw[c1] at hp;exact hp.elim
        ·rw[c1] at hp;rw[← Array.getElem?_toList,c2];exact⟨_,_,_,ι,w1,rfl,hp,hfalse,hR1,Ext.drew Ext.refl k1 k2 k3 k4⟩
        ·rw[c1] at hp;rw[← Array.getElem?_toList,c2];have g6':w1.heap[l.aT]?=some (.mapIter (some lm.aT) since seen.reverse.toArray last):=by rw[k1];exact g6
         obtain⟨r1,r2⟩:=hR1.put (f:=fun v=>.hY (some m) since (e.born::seen) clock v) hH rfl hl g2 (.mapIter (some lm.aT) since (seen.reverse.toArray.push e'.born) clock)
          ⟨g2,g3,g4,lm,g5,by
           rw[zV (jJ g6')];have:seen.reverse.toArray.push e'.born=(e.born::seen).reverse.toArray:=by rw[c3.born];simp
           rw[this]⟩
         refine⟨_,.tuple #[.bool true,e'.key,e'.val],_,ι,_,?_,hp,.tuple' (.cons (.bool _) (.cons c3.key (.cons c3.val .nil))),r1,Ext.drew r2 k1 k2 k3 k4⟩;have hs:(setObj l.aT (.mapIter (some lm.aT) since (seen.reverse.toArray.push e'.born) clock)).run P w1=.ok () (World.gO w1 l.aT (.mapIter (some lm.aT) since (seen.reverse.toArray.push e'.born) clock)):=by
          simp[setObj,Sem.run,g6',World.gO]
         simp only[Sem.run_bind,hs,Result.andThen_ok,Sem.run_pure]
       rw[hxx];split at h
       ·rename_i hle;have hch:(choose (.mapNext (vI es' since seen.reverse.toArray).size)).run P w=.ok 0 w:=by
         simp[choose,Sem.run,Question.forced,hcl,hle]
        exact hpick 0 w rfl rfl rfl ⟨rfl,Nat.le_refl _⟩ hch h
       ·rename_i hle;have cD:w.tape w.drawn (.mapNext (vI es' since seen.reverse.toArray).size)%(vI es' since seen.reverse.toArray).size<(nZ es since seen).length:=by
         rw[hcl];exact Nat.mod_lt _ (by omega)
        have hch:(choose (.mapNext (vI es' since seen.reverse.toArray).size)).run P w =
          .ok (w.tape w.drawn (.mapNext (vI es' since seen.reverse.toArray).size)%(vI es' since seen.reverse.toArray).size) {w with drawn:=w.drawn+1}:=by
         simp[choose,Sem.run,Question.forced,Question.cut,hcl,hle]
        exact hpick _ {w with drawn:=w.drawn+1} rfl rfl rfl ⟨rfl,Nat.le_succ _⟩ hch (h _ cD)
     ·exact h.elim
   ·exact h.elim
  ·exact h.elim
 ·exact h.elim
section
variable {r:Option Nat} {m:Nat} {o:Oper} {act:Act} {K:Act→World→Prop} {Q:Exit→Act→World→Prop} {call:gS} {round:gW} {Φ:Value×St→Prop}
abbrev TD (P:Program) (ι:aQ) (s:St) (w:World) (Φ:Value×St→Prop) (o:Oper) (act:Act) (K:Act→World→Prop):Prop :=
 ∀ v u s' ι' w',Φ (v,s')→VR ι' v u→RS P ι' s' w'→ES ι s w ι' s' w'→K (act.put o.dst u) w'
theorem fh (hc:wY P call) (hR:RS P ι s w) {f:FuncId} {args:List Value} {args':Array Value} (ha:bT ι args args'.toList) (h:(call f args s).jD Φ) (hd:∀ c,o.op≠.defer c)
  (hrun:(execOp act.eval o).run P w=(callFunc f args').run P w) (hk:TD P ι s w Φ o act K):o.wpIn (FW r) m P act w K Q:=by
 obtain⟨fn,h1,h2⟩:=hc.fn f args s Φ h;cases hb:fn.body with
 | none =>
  obtain⟨v,u,s',ι',w',g1,g2,g3,g4,g5⟩:=Zz hR h1 hb ha (h2 hb);exact BG hd (hrun.trans g1) (hk v u s' ι' w' g2 g3 g4 g5)
 | some c =>
  refine aHg hd (hrun.trans (Oe h1 (by simp[hb]) args')) ((hc.calls f fn args args' s w ι Φ r (m-1) h1 (by simp[hb]) h ha hR).mono ?_);rintro e w'' ⟨v,u,s',ι',rfl,g2,g3,g4,g5⟩;exact hk v u s' ι' w'' g2 g3 g4 g5
theorem Wy (hc:wY P call) (hr:BJ P round) (hR:RS P ι s w) {f f':Value} (hf:VR ι f f') {args:List Value} {args':Array Value} (ha:bT ι args args'.toList)
  (h:(rI (env P) call round s f args).jD Φ) (hd:∀ c,o.op≠.defer c)
  (hrun:(execOp act.eval o).run P w=(do let d←Deferred.ofValue f' args';invoke d.target d.args:Sem Next).run P w) (hk:TD P ι s w Φ o act K):o.wpIn (FW r) m P act w K Q:=by
 unfold rI at h;split at h
 ·rename_i fid first captured;obtain⟨a',c',rfl,h1,h2⟩:=hf.VL;refine fh hc hR (args':=a'++args'++c') ?_ h hd ?_ hk
  ·simpa using (h1.append ha).append h2
  ·rw[hrun];rfl
 ·rename_i l first captured;cases hf with
  | yield hl =>
  obtain⟨loc,rec,g1,g2,g3,g4⟩:=hr l _ args' s w ι Φ r (m-1) h (by simpa using ha) hR;rw[hl] at g1;cases g1;refine aHh hd (hrun.trans ?_) (g4.mono ?_)
  ·simp only[Deferred.ofValue,Sem.run_bind,Sem.run_pure,Result.andThen_ok,invoke,Instr.yield,run_getLoop g2];have hz:(#[]++args').size=rec.params.size:=by simpa using g3
   rw[if_neg (by simpa using hz)];simp
  ·rintro e w'' ⟨v,u,s',ι',rfl,k2,k3,k4,k5⟩;exact hk v u s' ι' w'' k2 k3 k4 k5
 ·rename_i name first captured;obtain⟨a',c',rfl,h1,h2⟩:=hf.aBq;split at h
  ·rename_i t v rest hfa;split at h
   ·rename_i fid x hm;have hall:=h1.append ha;rw[hfa] at hall;generalize hl':a'.toList++args'.toList=l' at hall;cases hall with
    | cons hv hrest =>
    cases hv with
    | @iface _ v0 v1 hv =>
    rename_i rest';obtain⟨x',k1,k2⟩:=Jq (P:=P) (w:=w) hv hm (P.types.size+99);refine fh hc hR (args':=(x'::rest').toArray) (.cons k2 hrest) h hd ?_ hk;rw[hrun];have hcat:(a'++args')=(Value.iface t v1::rest').toArray:=by
     apply Array.toList_inj.1;simpa using hl'
    have hex:((Value.iface t v1::rest').toArray).extract 1 ((Value.iface t v1::rest').toArray).size=rest'.toArray:=by
     apply Array.toList_inj.1;simp
    simp only[Deferred.ofValue,Sem.run_bind,Sem.run_pure,Result.andThen_ok,invoke,hcat,hex];simp only[List.getElem?_toArray,List.getElem?_cons_zero,callMethod,Sem.run_bind,run_program,Result.andThen_ok];rw[show P.types.size+Made.depth=P.types.size+99+1 from rfl,k1];simp only[Result.andThen_ok];congr 2;apply Array.toList_inj.1;simp
   ·exact h.elim
  ·exact h.elim
 ·exact h.elim
theorem Aj (hc:wY P call) (hr:BJ P round) (hR:RS P ι s w) {ρ:Operand→Value} (hρ:∀ x∈o.op.operands.toList,VR ι (ρ x) (act.eval x)) (hd:∀ c,o.op≠.defer c)
  (h:(gI (env P) call round s ρ o.op).jD Φ) (hk:TD P ι s w Φ o act K):o.wpIn (FW r) m P act w K Q:=by
 have lift:∀ (sem:Sem Value) (x:Option (Value×St)) (why:String),(execOp act.eval o=(do pure (.value (← sem)):Sem Next))→(bN.ofOption why x).jD Φ →
   (∀ v s',x=some (v,s')→JQ P ι s w sem v s')→o.wpIn (FW r) m P act w K Q:=by
  intro sem x why he hx hdo;cases x with
  | none=>exact hx.elim
  | some p =>
   obtain⟨u,ι',w',g1,g2,g3,g4⟩:=hdo p.1 p.2 rfl;exact BG hd (by rw[he];simp[g1]) (hk p.1 u p.2 ι' w' hx g2 g3 g4)
 unfold gI at h;cases hop:o.op <;> rw[hop] at h hρ <;> simp only at h <;> simp only[Op.operands] at hρ
 case store t a x =>
  have hv:=hρ x (by simp);have hp:=hρ a (by simp);split at h
  ·rename_i ad ha;rw[ha] at hp;split at h
   ·rename_i s1 hst;obtain⟨w',g1,g2,g3⟩:=aGl hR hp hv hst;refine uq hd ?_ (hk undef undef s1 ι w' h (VR.undef ι) g2 g3);unfold execOp;rw[hop];simp[g1]
   ·exact h.elim
  ·exact h.elim
 case mapUpdate t mm k x =>
  split at h
  ·rename_i s1 hst;obtain⟨w',g1,g2,g3⟩:=Jj hR (hρ mm (by simp)) (hρ k (by simp)) (hρ x (by simp)) hst;refine uq hd ?_ (hk undef undef s1 ι w' h (VR.undef ι) g2 g3);unfold execOp;rw[hop];simp[g1]
  ·exact h.elim
 case insert t mm k x =>
  split at h
  ·rename_i s1 hst;obtain⟨w',g1,g2,g3⟩:=Jj hR (hρ mm (by simp)) (hρ k (by simp)) (hρ x (by simp)) hst;refine uq hd ?_ (hk undef undef s1 ι w' h (VR.undef ι) g2 g3);unfold execOp;rw[hop];simp[g1]
  ·exact h.elim
 case range t x =>
  have hv:=hρ x (by simp);have hex:∀ (sem:Sem Value),sem=Instr.range t (act.eval x)→execOp act.eval o=(do pure (.value (← sem)):Sem Next):=by
   intro sem hs;subst hs;unfold execOp;rw[hop]
  have hfree:=hR.free;cases ht:(env P).ty t with
  | none=>rw[ht] at h;exact h.elim
  | some i =>
   rw[ht] at h;simp only at h;generalize ρ x=y at hv h;generalize hu:act.eval x=u at hv hex;split at h
   ·rename_i str hdesc;rw[hv.tZ] at hex;obtain⟨ι',q1,q2,q3⟩:=oo hR (.stringIter str 0) (fun v=>.sW str 0 v) ⟨rfl,rfl,rfl,heap_alloc_new⟩;refine BG hd ?_ (hk _ _ _ ι' _ h q1 q2 q3);rw[hex _ rfl];simp only[Instr.range,Sem.run_bind,fA ht,hdesc,Sem.run_pure,Result.andThen_ok,run_newObj];rfl
   ·rename_i hdesc;rw[QY hv] at hex;obtain⟨ι',q1,q2,q3⟩:=oo hR (.mapIter none 0 #[] 0) (fun v=>.hY none 0 [] 0 v) ⟨rfl,rfl,rfl,_,_,_,heap_alloc_new⟩;refine BG hd ?_ (hk _ _ _ ι' _ h q1 q2 q3);rw[hex _ rfl];simp only[Instr.range,Sem.run_bind,fA ht,hdesc,Sem.run_pure,Result.andThen_ok,run_newObj];rfl
   ·rename_i mm hdesc;obtain⟨l,hl,he⟩:=IB hv;rw[he] at hex;split at h
    ·rename_i es clock hm;obtain⟨l',es',p1,p2,p3,p4,p5,p6⟩:=QU hR hm;rw[hl] at p1;cases p1;obtain⟨ι',q1,q2,q3⟩:=oo hR (.mapIter (some l.aT) clock #[] clock) (fun v=>.hY (some mm) clock [] clock v) ⟨rfl,rfl,rfl,l,aQ.uQ hfree _ _ hl,heap_alloc_new⟩;refine BG hd ?_ (hk _ _ _ ι' _ h q1 q2 q3);rw[hex _ rfl];simp only[Instr.range,Sem.run_bind,fA ht,hdesc,yC p5,Sem.run_pure,Result.andThen_ok,run_newObj];rfl
    ·exact h.elim
   ·exact h.elim
 case next it str =>
  obtain⟨v,u,s',ι',w',g1,g2,g3,g4,g5⟩:=aBz hR (hρ it (by simp)) h o.type;refine BG hd ?_ (hk v u s' ι' w' g2 g3 g4 g5);unfold execOp;rw[hop];simp[g1]
 case call c =>
  obtain⟨callee,args,argTypes⟩:=c;have hargs:bT ι (args.toList.map ρ) (args.map act.eval).toList:=by
   rw[Array.toList_map];exact .map₂ _ fun x hx=>hρ x (by simp[Call.operands];exact .inr (by simpa using hx))
  have hb:∀ b,callee=.builtin b→execOp act.eval o=(builtin b argTypes o.type (args.map fun | .const _=>true | _=>false) (args.map act.eval)):=by
   intro b hb;subst hb;unfold execOp;rw[hop];rfl
  cases callee with
  | value f =>
   refine Wy hc hr hR (hρ f (by simp[Call.operands])) hargs h hd ?_ hk;unfold execOp;rw[hop];rfl
  | invoke x name =>
   have hv:=hρ x (by simp[Call.operands]);dsimp only at h;split at h
   ·rename_i t v hx;rw[hx] at hv;split at h
    ·rename_i fid rv hm;generalize hu:act.eval x=u at hv;cases hv with
     | @iface _ v0 v1 hv =>
     obtain⟨x',k1,k2⟩:=Jq (P:=P) (w:=w) hv hm (P.types.size+99);refine fh hc hR (args':=#[x']++args.map act.eval) (by simpa using bT.cons k2 hargs) h hd ?_ hk;have he:execOp act.eval o=callMethod (.iface t v1) name (args.map act.eval):=by
      unfold execOp;rw[hop];have:(resolve act.eval {callee:=.invoke x name,args,argTypes} o.type)=pure {target:=.fn (.method name) #[],args:=#[.iface t v1]++args.map act.eval}:=by
       simp[resolve,hu]
      simp only[this];have hex:(#[Value.iface t v1]++args.map act.eval).extract 1 (#[Value.iface t v1]++args.map act.eval).size=args.map act.eval:=by
       apply Array.toList_inj.1;simp only[Array.toList_extract,Array.toList_append,List.extract_eq_take_drop];simp;exact List.take_of_length_le (by simp)
      show invoke (.fn (.method name) #[]) (#[Value.iface t v1]++args.map act.eval)=_;unfold invoke;have h0:(#[Value.iface t v1]++args.map act.eval)[0]?=some (Value.iface t v1):=by
       rw[← Array.getElem?_toList,Array.toList_append];rfl
      simp only[h0,hex]
     rw[he];unfold callMethod;simp only[Sem.run_bind,run_program,Result.andThen_ok];rw[show P.types.size+Made.depth=P.types.size+99+1 from rfl,k1];rfl
    ·exact h.elim
   ·exact h.elim
  | builtin b =>
   cases b <;> dsimp only at h <;> first
    | exact lift _ _ _ (hb _ rfl) h fun v s' hx=>Vn hR hargs hx
    | exact lift _ _ _ (hb _ rfl) h fun v s' hx=>Xz hR hargs hx
    | exact lift _ _ _ (hb _ rfl) h fun v s' hx=>Xo hR hargs hx
    | exact lift _ _ _ (hb _ rfl) h fun v s' hx=>Yq hR hargs hx
    | exact False.elim h
 all_goals exact h.elim
end
variable {P:Program} {ι ι':aQ} {s s':St} {w w':World}
structure AR (ι:aQ) (a:aK) (act:Act):Prop where
 size:act.tmps.size=a.nt
 val:∀ t,t<a.nt→VR ι (a.aB t) (act.tmps.getD t undef)
theorem AR.mono {a:aK} {act:Act} (h:AR ι a act) (hle:ι.le ι'):AR ι' a act:=⟨h.size,fun t ht=>(h.val t ht).mono hle⟩
theorem AR.put {a:aK} {act:Act} (h:AR ι a act) {d:Option Tmp} (hd:∀ x,d=some x→x<a.nt) {v u:Value} (hv:VR ι v u):AR ι (a.put d v) (act.put d u):=by
 cases d with
 | none=>exact h
 | some d =>
  have hdn:=hd d rfl;refine⟨by simpa [Act.put,aK.put] using h.size,fun t ht=>?_⟩;simp only[aK.put] at ht;simp only[aK.put,aK.aB,Act.put,PT.fH];by_cases e:t=d
  ·subst e;rw[if_pos rfl];have:act.tmps.size=a.nt:=h.size;simp[Array.getD_eq_getD_getElem?,this,hdn,hv]
  ·rw[if_neg e];have:=h.val t ht;simp only[aK.aB] at this;simpa [Array.getD_eq_getD_getElem?,Array.getElem?_setIfInBounds,Ne.symm e] using this
theorem AR.eval {a:aK} {act:Act} (h:AR ι a act) (heven:∀ b,ι (2*b)=some ⟨b,0,0,true⟩) {x:Operand} (hx:IH a.nt x=true):VR ι (a.eval x) (act.eval x):=by
 cases x with
 | tmp t =>
  simp only[IH,decide_eq_true_eq] at hx;exact h.val t hx
 | const v=>exact .closed hx
 | global g =>
  have:=VR.ptr (ι:=ι) (o:=0) (heven g);simpa [aK.eval,Act.eval] using this
 | func f=>exact .func rfl rfl (fun i v u hv=>by simp at hv) (fun i v u hv=>by simp at hv)
theorem AR.Zp {a:aK} {act:Act} (h:AR ι a act) (heven:∀ b,ι (2*b)=some ⟨b,0,0,true⟩) {o:Oper} (ho:rX a.nt o=true):∀ x∈o.op.operands.toList,VR ι (a.eval x) (act.eval x):=by
 intro x hx;unfold rX at ho;simp only[Bool.and_eq_true] at ho;exact h.eval heven (List.all_eq_true.1 ho.1.1 x hx)
theorem RL {nt:Nat} {o:Oper} (ho:rX nt o=true):∀ x,o.dst=some x→x<nt:=by
 intro x hx;unfold rX at ho;simp only[Bool.and_eq_true] at ho;have:=ho.1.2;rw[hx] at this;simpa using this
theorem Lu {nt:Nat} {o:Oper} (ho:rX nt o=true):∀ c,o.op≠.defer c:=by
 intro c hc;unfold rX at ho;rw[hc] at ho;simp at ho
@[simp] theorem aDy (a:aK) (d:Option Tmp) (v:Value):(a.put d v).nt=a.nt:=by cases d <;> rfl
theorem VR.Wo {v:Value} {b:Bool} (h:VR ι v (.bool b)):v=.bool b:=by cases h;rfl
theorem aHj {a:aK} {act:Act} (h:AR ι a act) {ops:Array Oper} (hops:ops.toList.all (rX a.nt)=true) (j:Nat):aO ops a j=yielded ops act.tmps j:=by
 unfold aO yielded;cases hj:ops[j]? with
 | none=>rfl
 | some o =>
  have hok:rX a.nt o=true:=List.all_eq_true.1 hops o (by simpa using Array.mem_of_getElem? hj);simp only[Option.bind_some];cases hd:o.dst with
  | none=>rfl
  | some d =>
   have hdn:=RL hok d hd;have hv:=h.val d hdn;have hsz:=h.size;simp only[Option.bind_some];have hg:act.tmps[d]?=some (act.tmps.getD d undef):=by
    simp[Array.getD_eq_getD_getElem?,hsz,hdn]
   rw[hg];generalize act.tmps.getD d undef=u at hv;generalize a.aB d=v at hv;cases v with
   | bool b=>rw[hv.yY]
   | _ =>
    cases u with
    | bool b=>have:=hv.Wo;cases this
    | _=>rfl
theorem Tl {a:aK} {act:Act} (h:AR ι a act) {ops:Array Oper} (hops:ops.toList.all (rX a.nt)=true) (o:Oper) :
  Region.wanted o (aO ops a)=Region.wanted o (yielded ops act.tmps):=by
 unfold Region.wanted;cases o.guard with
 | none=>rfl
 | some g=>simp only[aHj h hops]
structure DR (ι:aQ) (H:bL) (w:World) (ds:List Deferred):Prop where
 mark:∀ d∈ds,∃ D,d={target:=.collected D,args:=#[]}∧w.heap[D]?=some (.deferred (some []))∧¬ Own ι H D
 apart:ds.Pairwise fun d e=>∀ D,d.target=.collected D→e.target≠.collected D
theorem DR.ext {H H':bL} {n n':Nat} {ds:List Deferred} (h:DR ι H w ds) (he:Ext ι H n w ι' H' n' w'):DR ι' H' w' ds:=by
 refine⟨fun d hd=>?_,h.apart⟩;obtain⟨D,h1,h2,h3⟩:=h.mark d hd;have cD:=jJ h2;refine⟨D,h1,(he.aD D cD h3).trans h2,fun ho=>?_⟩;rcases he.own D ho with h4 | h4
 ·exact h3 h4
 ·omega
theorem DR.nil (H:bL):DR ι H w []:=⟨by simp,.nil⟩
@[simp] theorem Act.aIv (a:Act) (d:Option Tmp) (v:Value):(a.put d v).defers=a.defers:=by cases d <;> rfl
section
variable {r:Option Nat} {m:Nat} {call:gS} {round:gW}
theorem Zy (hc:wY P call) (hr:BJ P round) (hR:RS P ι s w) {o:Oper} {ρ:Operand→Value} {act:Act} (hρ:∀ x∈o.op.operands.toList,VR ι (ρ x) (act.eval x)) (hd:∀ c,o.op≠.defer c)
  {Φ:Value×St→Prop} (h:(nK (env P) call round s ρ o.op).jD Φ) {K:Act→World→Prop} {Q:Exit→Act→World→Prop} (hk:TD P ι s w Φ o act K):o.wpIn (FW r) m P act w K Q:=by
 unfold nK at h;split at h
 ·split at h
  ·rename_i v hv;obtain⟨u,g1,g2⟩:=Qs (P:=P) hR hρ hv;exact BG hd g1 (hk v u s ι w h g2 hR Ext.refl)
  ·exact False.elim h
 ·split at h
  ·rename_i v f hv;obtain⟨u,x,g1,g2,g3⟩:=xa (w:=w) hR.free hρ hv;obtain⟨q1,q2⟩:=RS.new hR x (f:=f) (g3 s.aR).2;exact BG hd g1 (hk v u _ _ _ h g2 q1 q2)
  ·exact False.elim h
 ·exact Aj hc hr hR hρ hd h hk
theorem ss (hc:wY P call) (hr:BJ P round) {ops:Array Oper} {Q:Exit→Act→World→Prop}:∀ (rest:List Oper) (k:Nat),(∀ j,rest[j]?=ops[k+j]?) →
  ∀ (a:aK) (s:St) (act:Act) (w:World) (ι:aQ) (Φ:aK×St→Prop),ops.toList.all (rX a.nt)=true→(iM (env P) call round ops rest a s).jD Φ→AR ι a act→RS P ι s w →
   (∀ a' s' act' w' ι',Φ (a',s')→AR ι' a' act'→RS P ι' s' w'→ES ι s w ι' s' w'→a'.nt=a.nt→act'.defers=act.defers→Q .normal act' w') →
   wpOpsIn (FW r) m P ops Q (List.range' k rest.length) act w
 | [],k,_,a,s,act,w,ι,Φ,_,h,ha,hR,hQ=>hQ a s act w ι h ha hR Ext.refl rfl rfl
 | o::rest,k,hidx,a,s,act,w,ι,Φ,hok,h,ha,hR,hQ=>by
  have ho:ops[k]?=some o:=by have:=hidx 0;simpa using this.symm
  have hoo:rX a.nt o=true:=List.all_eq_true.1 hok o (by simpa using Array.mem_of_getElem? ho);have hrest:∀ j,rest[j]?=ops[k+1+j]?:=fun j=>by
   have:=hidx (j+1);simpa [show k+(j+1)=k+1+j from by omega] using this
  simp only[List.length_cons,List.range'_succ,wpOpsIn,ho];unfold iM at h;rw[Tl ha hok o] at h;split at h
  ·rename_i hw;rw[if_pos hw];rw[bN.wX] at h;refine Zy hc hr hR (ha.Zp hR.even hoo) (Lu hoo) h ?_;intro v u s' ι' w' hΦ hv hR' hE;refine ss hc hr rest (k+1) hrest _ s' _ w' ι' Φ (by simpa using hok) hΦ ((ha.mono hE.le).put (RL hoo) hv) hR' ?_;intro a'' s'' act'' w'' ι'' k1 k2 k3 k4 k5 k6;exact hQ a'' s'' act'' w'' ι'' k1 k2 k3 (Ext.trans hE k4) (by simpa using k5) (by simpa using k6)
  ·rename_i hw;rw[if_neg hw];refine⟨fun _ _=>trivial,?_⟩;refine ss hc hr rest (k+1) hrest _ s _ w ι Φ (by simpa using hok) h (ha.put (RL hoo) (VR.undef ι)) hR ?_;intro a'' s'' act'' w'' ι'' k1 k2 k3 k4 k5 k6;exact hQ a'' s'' act'' w'' ι'' k1 k2 k3 k4 (by simpa using k5) (by simpa using k6)
end
def bW.HV:bW→Bool
 | .cells _ _ _ _ _ ro _=>ro
 | _=>false
structure oH (n0:Nat) (s s':St):Prop where
 aR:s.aR≤s'.aR
 next:s.next≤s'.next
 same:∀ b o,s'.heap.get b=some o→o.cX=false→o.bB<s.aR→s.heap.get b=some o
 ch:(∀ b o,s.heap.get b=some o→o.cX=false→o.bB<s.aR)→∀ b o,s'.heap.get b=some o→o.cX=false→o.bB<s'.aR
 dE:∀ b o,s'.heap.get b=some o→o.cX=false→(∃ o0,s.heap.get b=some o0∧o0.cX=false∧(o.HV=true→o0.HV=true))∨(n0≤b∧o.HV=false)
abbrev eC (s s':St):Prop:=oH s.next s s'
theorem oH.refl (n0:Nat) (s:St):oH n0 s s:=⟨Nat.le_refl _,Nat.le_refl _,fun _ _ h _ _=>h,fun h=>h,fun _ o h hd=>.inl ⟨o,h,hd,fun h=>h⟩⟩
theorem oH.low {n0 n1:Nat} {s s':St} (h:oH n0 s s') (hle:n1≤n0):oH n1 s s' :=
 ⟨h.aR,h.next,h.same,h.ch,fun b o hb hd=>(h.dE b o hb hd).imp id fun⟨h1,h2⟩=>⟨Nat.le_trans hle h1,h2⟩⟩
theorem oH.trans {n0:Nat} {a b c:St} (h:oH n0 a b) (k:oH n0 b c):oH n0 a c :=
 ⟨Nat.le_trans h.aR k.aR,Nat.le_trans h.next k.next,fun x o hx hd hv=>h.same x o (k.same x o hx hd (Nat.lt_of_lt_of_le hv h.aR)) hd hv,fun hv=>k.ch (h.ch hv),fun x o hx hd=>by
  rcases k.dE x o hx hd with ⟨o1,h1,h2,h3⟩ | h1
  ·rcases h.dE x o1 h1 h2 with ⟨o0,k1,k2,k3⟩ | ⟨k1,k2⟩
   ·exact .inl ⟨o0,k1,k2,fun e=>k3 (h3 e)⟩
   ·refine .inr ⟨k1,?_⟩;cases ho:o.HV with
    | false=>rfl
    | true=>rw[h3 ho] at k2;cases k2
  ·exact .inr h1⟩
theorem eC.refl (s:St):eC s s:=oH.refl _ s
theorem eC.trans {a b c:St} (h:eC a b) (k:eC b c):eC a c:=oH.trans h (oH.low k h.next)
def TH (f:Nat→bW):Prop:=∀ v,(f v).cX=true∨((f v).bB=v∧(f v).HV=false)
theorem oH.put {n0:Nat} {s:St} {b:Nat} {f:Nat→bW} (hf:TH f) (hb:(∀ v,(f v).cX=true)∨(∃ o,s.heap.get b=some o∧o.cX=false)∨n0≤b):oH n0 s (s.put b f):=by
 refine⟨Nat.le_succ _,Nat.le_refl _,?_,?_,?_⟩
 ·intro c o hc hd hv;simp only[St.put,PT.fH] at hc;split at hc
  ·cases hc;rcases hf s.aR with h | h
   ·rw[h] at hd;cases hd
   ·omega
  ·exact hc
 ·intro hv c o hc hd;simp only[St.put,PT.fH] at hc ⊢;split at hc
  ·cases hc;rcases hf s.aR with h | h
   ·rw[h] at hd;cases hd
   ·omega
  ·have:=hv c o hc hd;omega
 ·intro c o hc hd;simp only[St.put,PT.fH] at hc;split at hc
  ·rename_i e;subst e;cases hc;rcases hf s.aR with h | h
   ·rw[h] at hd;cases hd
   ·rcases hb with hb | ⟨o0,h1,h2⟩ | hb
    ·rw[hb] at hd;cases hd
    ·exact .inl ⟨o0,h1,h2,fun e=>by rw[h.2] at e;cases e⟩
    ·exact .inr ⟨hb,h.2⟩
  ·exact .inl ⟨o,hc,hd,fun h=>h⟩
theorem eC.put {s:St} {b:Nat} {f:Nat→bW} (hf:TH f) (hb:(∀ v,(f v).cX=true)∨(∃ o,s.heap.get b=some o∧o.cX=false)∨s.next≤b):eC s (s.put b f):=oH.put hf hb
theorem eC.new {s:St} {f:Nat→bW} (hf:TH f):eC s (s.new f):=by
 have h:=eC.put (s:=s) (b:=s.next) hf (.inr (.inr (Nat.le_refl _)));exact⟨h.aR,by simp[St.new],h.same,h.ch,h.dE⟩
theorem eC.dS {s s':St} {a:Addr} {vs:List Value} (h:dS s a vs=some s'):eC s s':=by
 unfold Dust.dS at h;split at h
 ·split at h
  ·simp only[Option.some.injEq] at h;subst h;exact .put (fun _=>.inr ⟨rfl,rfl⟩) (.inr (.inl ⟨_,by assumption,rfl⟩))
  ·cases h
 ·cases h
theorem eC.storeT {X:Env} {s s':St} {t:TypeId} {a:Addr} {v:Value} (h:storeT X s t a v=some s'):eC s s':=by
 unfold Dust.storeT at h;split at h
 ·split at h
  ·exact .dS h
  ·cases h
 ·cases h
theorem eC.mJ {X:Env} {s s':St} {t:TypeId} {m k v:Value} (h:mJ X s t m k v=some s'):eC s s':=by
 unfold Dust.mJ at h;split at h
 ·split at h
  ·split at h
   ·split at h
    ·simp only[Option.some.injEq] at h;subst h;exact .put (fun _=>.inr ⟨rfl,rfl⟩) (.inr (.inl ⟨_,by assumption,rfl⟩))
    ·simp only[Option.some.injEq] at h;subst h;exact .put (fun _=>.inr ⟨rfl,rfl⟩) (.inr (.inl ⟨_,by assumption,rfl⟩))
    ·cases h
   ·cases h
  ·cases h
 ·cases h
theorem eC.sI {s s':St} {e:TypeId} {esz:Nat} {base:Option Addr} {a b c:Nat} {new:List Value} {v:Value} (h:sI s e esz base a b c new=some (v,s')):eC s s':=by
 unfold Dust.sI at h;split at h
 ·split at h
  ·split at h
   ·simp only[Option.some.injEq,Prod.mk.injEq] at h;obtain⟨_,rfl⟩:=h;exact .refl _
   ·split at h
    ·rename_i hst;simp only[Option.some.injEq,Prod.mk.injEq] at h;obtain⟨_,rfl⟩:=h;exact .dS hst
    ·cases h
  ·split at h
   ·simp only[Option.some.injEq,Prod.mk.injEq] at h;obtain⟨_,rfl⟩:=h;exact .refl _
   ·cases h
 ·split at h
  ·split at h
   ·simp only[Option.some.injEq,Prod.mk.injEq] at h;obtain⟨_,rfl⟩:=h;exact .new fun _=>.inr ⟨rfl,rfl⟩
   ·cases h
  ·split at h
   ·split at h
    ·split at h
     ·simp only[Option.some.injEq,Prod.mk.injEq] at h;obtain⟨_,rfl⟩:=h;split
      ·exact .trans (.put (fun _=>.inl rfl) (.inl fun _=>rfl)) (.new fun _=>.inr ⟨rfl,rfl⟩)
      ·exact .new fun _=>.inr ⟨rfl,rfl⟩
     ·cases h
    ·cases h
   ·cases h
theorem eC.append {X:Env} {s s':St} {ts:Array TypeId} {args:List Value} {v:Value} (h:oY X s ts args=some (v,s')):eC s s':=by
 unfold oY at h
 (repeat' split at h) <;> first | exact .sI h | cases h
theorem eC.copy {X:Env} {s s':St} {ts:Array TypeId} {args:List Value} {v:Value} (h:OH X s ts args=some (v,s')):eC s s':=by
 unfold OH at h
 (repeat' split at h) <;> first
  | (cases h;done)
  | (rename_i hst;simp only[Option.some.injEq,Prod.mk.injEq] at h;obtain⟨_,rfl⟩:=h;exact .dS hst)
  | (simp only[Option.some.injEq,Prod.mk.injEq] at h;obtain⟨_,rfl⟩:=h;exact .refl _)
theorem eC.clear {X:Env} {s s':St} {ts:Array TypeId} {args:List Value} {v:Value} (h:zG X s ts args=some (v,s')):eC s s':=by
 unfold zG at h
 (repeat' split at h) <;> first
  | (cases h;done)
  | (rename_i hst;simp only[Option.some.injEq,Prod.mk.injEq] at h;obtain⟨_,rfl⟩:=h;exact .dS hst)
  | (simp only[Option.some.injEq,Prod.mk.injEq] at h;obtain⟨_,rfl⟩:=h;exact .refl _)
  | (simp only[Option.some.injEq,Prod.mk.injEq] at h;obtain⟨_,rfl⟩:=h;exact .put (fun _=>.inr ⟨rfl,rfl⟩) (.inr (.inl ⟨_,by assumption,rfl⟩)))
theorem eC.delete {X:Env} {s s':St} {ts:Array TypeId} {args:List Value} {v:Value} (h:zJ X s ts args=some (v,s')):eC s s':=by
 unfold zJ at h
 (repeat' split at h) <;> first
  | (cases h;done)
  | (simp only[Option.some.injEq,Prod.mk.injEq] at h;obtain⟨_,rfl⟩:=h;exact .refl _)
  | (simp only[Option.some.injEq,Prod.mk.injEq] at h;obtain⟨_,rfl⟩:=h;exact .put (fun _=>.inr ⟨rfl,rfl⟩) (.inr (.inl ⟨_,by assumption,rfl⟩)))
end Go.Dust
