/- The plain interpreter D and its laws (Dd De). -/
import Derived.Test.YtaoiejcaopgjcaaGreatB
set_option linter.unusedVariables false
set_option linter.unusedSimpArgs false
namespace Go.Dust
variable {P:Program} {ι:cR} {H:aY} {n:Nat} {w:World}
abbrev iL (P:Program) (ι:cR) (w:World) (s:Sem Value) (v:Value):Prop:=∃ v',s.run P w=.ok v' w∧VR ι v v'
theorem oV (hR:R (env P) ι H n w) {b:Nat} {c:PT Value} {z:List Value} {m:Nat} {e:TypeId} {room ro:Bool} {dF:Nat} (h:H b=some (.cells c z m e room ro dF)) :
  ∃ l arr e' fz,ι b=some l∧w.heap[l.dR]?=some (.cells arr e' fz)∧(ro=false→fz=(0,0))∧l.ro=ro∧(room=false→l.extra=0) ∧
   (∀ ei,(env P).ty e=some ei→l.off+m+l.extra*ei.size≤arr.size)∧l.off+m≤arr.size ∧
   (∀ i,i<m→∃ v u,cellAt c z m i=some v∧arr[l.off+i]?=some u∧VR ι v u):=by
 obtain⟨l,h1,h2⟩:=hR.obj b _ h rfl
 obtain⟨arr,e',fz,h3⟩:=h2
 exact⟨l,arr,e',fz,h1,h3⟩
theorem oR {c:PT Value} {z:List Value} {m:Nat} {arr:Array Value} {off:Nat} (h7:∀ i,i<m→∃ v u,cellAt c z m i=some v∧arr[off+i]?=some u∧VR ι v u) :
  ∀ (k i:Nat) (l:List Value),dJ c z m i k=some l→(k=0∨i+k≤m)∧l.length=k∧eF ι l ((arr.toList.drop (off+i)).take k)
 | 0,i,l,h=>by
  simp only[dJ,Option.some.injEq] at h
  subst h
  exact⟨.inl rfl,rfl,by simp;exact .nil⟩
 | k+1,i,l,h=>by
  simp only[dJ] at h
  cases hc:cellAt c z m i with
  | none=>rw[hc] at h;cases h
  | some v =>
   rw[hc] at h
   simp only at h
   cases hr:dJ c z m (i+1) k with
   | none=>rw[hr] at h;cases h
   | some l' =>
    rw[hr] at h
    simp only[Option.some.injEq] at h
    subst h
    have him:i<m:=by
     unfold cellAt at hc
     split at hc
     ·assumption
     ·cases hc
    obtain⟨v',u,h1,h2,h3⟩:=h7 i him
    rw[hc] at h1;cases h1
    obtain⟨g1,g2,g3⟩:=oR h7 k (i+1) l' hr
    obtain⟨gU,hget⟩:=Array.getElem?_eq_some_iff.1 h2
    refine⟨.inr (by omega),by simp[g2],?_⟩
    rw[List.drop_eq_getElem_cons (i:=off+i) (by simpa using gU),List.take_succ_cons]
    refine .cons ?_ ?_
    ·have:arr.toList[off+i]=u:=by simpa using hget
     rw[this];exact h3
    ·simpa [Nat.add_assoc] using g3
theorem FP (hR:R (env P) ι H n w) {b o:Nat} {l:Loc} (hl:ι b=some l) {k:Nat} {vs:List Value} (h:aS H ⟨b,o,none⟩ k=some vs) :
  ∃ us,(loadCells ⟨l.dR,l.off+o,none⟩ k).run P w=.ok us w∧eF ι vs us.toList∧vs.length=k:=by
 unfold aS at h
 simp only at h
 split at h
 ·rename_i c z m e room ro dF hs hb
  obtain⟨l',arr,e',fz,h1,h2,_,_,_,_,h6,h7⟩:=oV hR hb
  rw[hl] at h1;cases h1
  obtain⟨g1,g2,g3⟩:=oR h7 k o vs h
  exact⟨_,run_loadCells h2 (by omega),by simpa using g3,g2⟩
 ·cases h
theorem VY (hR:R (env P) ι H n w) {b o:Nat} {l:Loc} (hl:ι b=some l) {v:Value} (h:aI H ⟨b,o,none⟩=some v) :
  iL P ι w (load ⟨l.dR,l.off+o,none⟩) v:=by
 unfold aI at h
 simp only at h
 split at h
 ·rename_i c z m e room ro dF hs hb
  obtain⟨l',arr,e',fz,h1,h2,_,_,_,_,h6,h7⟩:=oV hR hb
  rw[hl] at h1;cases h1
  have him:o<m:=by
   unfold cellAt at h
   split at h
   ·assumption
   ·cases h
  obtain⟨v',u,g1,g2,g3⟩:=h7 o him
  rw[h] at g1;cases g1
  obtain⟨gU,hget⟩:=Array.getElem?_eq_some_iff.1 g2
  refine⟨u,?_,g3⟩
  have hc:w.cell? ⟨l.dR,l.off+o,none⟩=some u:=by simp[World.cell?,h2,g2]
  simp[load,Sem.run,hc]
 ·cases h
theorem FQ (hR:R (env P) ι H n w) {b o:Nat} {l:Loc} (hl:ι b=some l) {t:TypeId} {v:Value} (h:loadT (env P) H t ⟨b,o,none⟩=some v) :
  iL P ι w (loadVar t ⟨l.dR,l.off+o,none⟩) v:=by
 unfold loadT at h
 cases ht:(env P).ty t with
 | none=>rw[ht] at h;cases h
 | some i =>
  rw[ht] at h
  simp only at h
  unfold loadVar
  cases hagg:i.agg with
  | true =>
   rw[hagg] at h
   simp only[if_true] at h
   cases hl':aS H ⟨b,o,none⟩ i.size with
   | none=>rw[hl'] at h;cases h
   | some vs =>
    rw[hl'] at h
    simp only[Option.some.injEq] at h
    subst h
    obtain⟨us,g1,g2,_⟩:=FP (P:=P) hR hl hl'
    exact⟨.agg us,by simp[uX ht,hagg,cU ht,g1],.rf (by simpa using g2)⟩
  | false =>
   rw[hagg] at h
   simp only[Bool.false_eq_true,if_false] at h
   obtain⟨u,g1,g2⟩:=VY (P:=P) hR hl h
   exact⟨u,by simp only[Sem.run_bind,uX ht,Result.andThen_ok,hagg,Bool.false_eq_true,if_false,g1],g2⟩
theorem nI {a:Addr} {u:Value} (h:VR ι (.pointer (some a)) u):∃ b o l,a=⟨b,o,none⟩∧ι b=some l∧u=.pointer (some ⟨l.dR,l.off+o,none⟩):=by
 cases h with | ptr hl=>exact⟨_,_,_,rfl,hl,rfl⟩
theorem rL {t:TypeId} {cs cs':Array Value} (hcs:eF ι cs.toList cs'.toList) {off:Nat} {v:Value} (h:KM (env P) t cs off=some v):iL P ι w (part t cs' off) v:=by
 unfold KM at h
 cases ht:(env P).ty t with
 | none=>rw[ht] at h;cases h
 | some i =>
  rw[ht] at h
  simp only at h
  unfold part
  cases hagg:i.agg with
  | true =>
   rw[hagg] at h
   simp only[if_true] at h
   split at h
   ·rename_i hsz
    simp only[Option.some.injEq] at h
    subst h
    refine⟨.agg (cs'.extract off (off+i.size)),by simp[uX ht,hagg,cU ht],.rf ?_⟩
    have h1:(cs.extract off (off+i.size)).toList=(cs.toList.drop off).take i.size:=by simp
    have h2:(cs'.extract off (off+i.size)).toList=(cs'.toList.drop off).take i.size:=by simp
    rw[h1,h2]
    exact(hcs.drop off).take _
   ·cases h
  | false =>
   rw[hagg] at h
   simp only[Bool.false_eq_true,if_false] at h
   obtain⟨u,g1,g2⟩:=hcs.uE off (v:=v) (by simpa using h)
   refine⟨u,?_,g2⟩
   have:cs'[off]?=some u:=by simpa using g1
   simp[uX ht,hagg,this]
theorem TO {op:BinOp} {k:IntKind} {x y:Int} {v:Value} (hs1:op≠.shl) (hs2:op≠.shr) (t:TypeId) (h:arith op k x y=some v) :
    (binOp op t (.int k x) (.int k y)).run P w=.ok v w∧VR ι v v:=by
  unfold arith at h
  split at h <;> first
    | (simp only[Option.some.injEq] at h;subst h;exact⟨by simp[binOp,Op.intArith,Op.intBits],.int _ _⟩)
    | (split at h
       · cases h
       · rename_i hy
         simp only[Option.some.injEq] at h;subst h
         exact⟨by simp[binOp,Op.intDiv,hy],.int _ _⟩)
    | skip
  have hc:=h
  unfold cmpI at hc
  split at hc <;> simp only[Option.some.injEq,reduceCtorEq] at hc <;> subst hc <;> exact⟨by simp[binOp,Op.intCmp],.bool _⟩
theorem GI {op:BinOp} {k k':IntKind} {x y:Int} {v:Value} (hop:op=.shl∨op=.shr) (t:TypeId) (h:pU op k x y=some v) :
  (binOp op t (.int k x) (.int k' y)).run P w=.ok v w∧VR ι v v:=by
 unfold pU at h
 split at h
 ·cases h
 ·rename_i hy
  rcases hop with rfl | rfl
  ·simp only[Option.some.injEq] at h;subst h
   exact⟨by simp[binOp,Op.shift,hy],.int _ _⟩
  ·simp only[Option.some.injEq] at h;subst h
   exact⟨by simp[binOp,Op.shift,hy],.int _ _⟩
theorem qs {op:BinOp} {x y:ByteArray} {v:Value} (t:TypeId) (h:strI op x y=some v):(binOp op t (.string x) (.string y)).run P w=.ok v w∧VR ι v v:=by
 unfold strI at h
 split at h
 ·split at h
  ·cases h
  ·rename_i hsz
   simp only[Option.some.injEq] at h;subst h
   exact⟨by simp only[binOp,Op.stringOp];rw[if_neg hsz];rfl,.string _⟩
 all_goals first
  | (simp only[Option.some.injEq] at h;subst h;exact⟨by simp[binOp,Op.stringOp],.bool _⟩)
  | cases h
theorem CA (hR:R (env P) ι H n w) {b:Nat} (h:isCells H b=true) :
  ∃ o l arr e,H b=some o∧o.bC=false∧ι b=some l∧l.ro=false∧w.heap[l.dR]?=some (.cells arr e (0,0)):=by
 unfold isCells at h
 split at h
 ·rename_i c z m e room dF hb
  obtain⟨l,arr,e',fz,h1,h2,h3,h4,_⟩:=oV hR hb
  rw[h3 rfl] at h2
  exact⟨_,l,arr,e',hb,rfl,h1,h4,h2⟩
 ·cases h
theorem HA {a b:Addr} {arr arr':Array Value} {e e':TypeId} (hne:a.block≠b.block) (ha:w.heap[a.block]?=some (.cells arr e (0,0)))
  (hb:w.heap[b.block]?=some (.cells arr' e' (0,0))):(sameAddr a b).run P w=.ok false w:=by
 have fa:∀ o s,w.frozen? ⟨a.block,o,s⟩=false:=fun o s=>by simp[World.frozen?,ha]
 have fb:∀ o s,w.frozen? ⟨b.block,o,s⟩=false:=fun o s=>by simp[World.frozen?,hb]
 have sa:w.shape? a.block=some (e,arr.size):=by simp[World.shape?,ha]
 have sb:w.shape? b.block=some (e',arr'.size):=by simp[World.shape?,hb]
 have fa':=fa a.off a.spot
 have fb':=fb b.off b.spot
 unfold sameAddr
 simp only[beq_eq_false_iff_ne.2 hne,Bool.false_eq_true,if_false,Sem.run_bind,run_frozen,Result.andThen_ok,fa',fb',Bool.and_self,noView,viewAt,run_shape,sa,sb,Option.isSome_some,if_true,
  Sem.run_pure,mayBeOne,stringish,fa,fb,Bool.false_and,Bool.or_self,Option.isSome_none]
theorem KD {u:Value} (h:VR ι (.pointer none) u):u=.pointer none:=by cases h;rfl
theorem rB {d:Nat} {f:TypeId→Value→Value→Option Bool} {xs ys xs' ys':Array Value} (hx:eF ι xs.toList xs'.toList) (hy:eF ι ys.toList ys'.toList)
  (hf:∀ t x y x' y' b,f t x y=some b→VR ι x x'→VR ι y y'→(Op.equalIn d t x' y').run P w=.ok b w) :
  ∀ (fs:List Field) (b:Bool),eqFields (env P) f xs ys fs=some b→(Op.eqFields d xs' ys' fs).run P w=.ok b w
 | [],b,h=>by simp only[eqFields,Option.some.injEq] at h;subst h;rfl
 | fd::fs,b,h=>by
  simp only[eqFields] at h
  simp only[Op.eqFields]
  by_cases hn:fd.name= "_"
  ·rw[if_pos hn] at h
   rw[if_neg (by simpa using hn)]
   exact rB hx hy hf fs b h
  ·rw[if_neg hn] at h
   rw[if_pos hn]
   split at h
   ·rename_i u v hu hv
    obtain⟨u',g1,g2⟩:=rL (P:=P) (w:=w) hx hu
    obtain⟨v',g3,g4⟩:=rL (P:=P) (w:=w) hy hv
    simp only[Sem.run_bind,g1,g3,Result.andThen_ok]
    split at h
    ·rename_i he
     simp only[hf _ _ _ _ _ _ he g2 g4,Result.andThen_ok,Bool.not_true,Bool.false_eq_true,if_false]
     exact rB hx hy hf fs b h
    ·rename_i he
     simp only[Option.some.injEq] at h
     subst h
     simp only[hf _ _ _ _ _ _ he g2 g4,Result.andThen_ok,Bool.not_false,if_true,Sem.run_pure]
    ·cases h
   ·cases h
set_option maxHeartbeats 2000000 in
theorem IZ (hR:R (env P) ι H n w):∀ (d e:Nat),d≤e→∀ (t:TypeId) (x y x' y':Value) (b:Bool),mW (env P) H d t x y=some b→VR ι x x'→VR ι y y' →
  (Op.equalIn e t x' y').run P w=.ok b w
 | 0,_,_,_,_,_,_,_,_,h,_,_=>by simp[mW] at h
 | d+1,e,hde,t,x,y,x',y',b,h,hx,hy=>by
  obtain⟨e,rfl⟩:∃ m,e=m+1:=⟨e-1,by omega⟩
  simp only[mW] at h
  cases ht:(env P).ty t with
  | none=>rw[ht] at h;cases h
  | some i =>
   rw[ht] at h
   simp only at h
   obtain⟨inf,_,hu,_,_,_,_,_,hcmp⟩:=sL ht
   split at h
   ·rename_i hd
    rw[hx.kT,hy.kT]
    simp only[Option.some.injEq] at h;subst h
    rw[hd] at hu
    exact run_equalIn_bool' w e t _ _ hu
   ·rename_i hd
    rw[hx.int_eq,hy.int_eq]
    split at h
    ·rename_i hk
     subst hk
     simp only[Option.some.injEq] at h;subst h
     rw[hd] at hu
     exact run_equalIn_int w e t _ _ _ _ hu
    ·cases h
   ·rename_i hd
    rw[hx.gA,hy.gA]
    simp only[Option.some.injEq] at h;subst h
    rw[hd] at hu
    exact run_equalIn_string w e t _ _ hu
   ·
    rename_i el hd
    simp only[Option.some.injEq] at h;subst h
    rw[KD hx]
    rw[hd] at hu
    cases hy with
    | DZ=>simp[Op.equalIn,run_underlying hu]
    | ptr hl=>simp[Op.equalIn,run_underlying hu]
   ·rename_i el a hd
    simp only[Option.some.injEq] at h;subst h
    rw[KD hy]
    rw[hd] at hu
    obtain⟨_,_,_,_,_,rfl⟩:=nI hx
    simp[Op.equalIn,run_underlying hu]
   ·rename_i el a a' hd
    rw[hd] at hu
    cases hel:(env P).ty el with
    | none=>rw[hel] at h;cases h
    | some ei =>
     rw[hel] at h
     simp only at h
     split at h
     ·cases h
     ·rename_i hsz
      obtain⟨b1,o1,l1,rfl,hl1,rfl⟩:=nI hx
      obtain⟨b2,o2,l2,rfl,hl2,rfl⟩:=nI hy
      simp only at h
      have hsz':(ei.size != 0)=true:=by simpa using hsz
      have key:(Op.equalIn (e+1) t (.pointer (some ⟨l1.dR,l1.off+o1,none⟩)) (.pointer (some ⟨l2.dR,l2.off+o2,none⟩))).run P w =
        (sameAddr ⟨l1.dR,l1.off+o1,none⟩ ⟨l2.dR,l2.off+o2,none⟩).run P w:=by
       simp only[Op.equalIn,Sem.run_bind,run_underlying hu,Result.andThen_ok,cU hel,ne_eq,hsz,not_false_eq_true,if_true]
      rw[key]
      split at h
      ·rename_i hbb
       subst hbb
       simp only[Option.some.injEq] at h;subst h
       rw[hl1] at hl2;cases hl2
       simp only[sameAddr,BEq.rfl,if_true,Sem.run_pure]
       congr 1
       by_cases ho:o1=o2
       ·subst ho;simp
       ·rw[beq_eq_false_iff_ne.2 ho]
        simp only[beq_eq_false_iff_ne,ne_eq,Addr.mk.injEq,true_and,and_true]
        omega
      ·rename_i hbb
       split at h
       ·rename_i hcc
        simp only[Option.some.injEq] at h;subst h
        rw[Bool.and_eq_true] at hcc
        obtain⟨q1,m1,arr1,e1,p1,p2,p3,p4,p5⟩:=CA hR hcc.1
        obtain⟨q2,m2,arr2,e2,r1,r2,r3,r4,r5⟩:=CA hR hcc.2
        rw[hl1] at p3;cases p3
        rw[hl2] at r3;cases r3
        exact HA (fun he=>hbb (hR.inj _ _ _ _ _ _ p1 p2 r1 r2 hl1 hl2 p4 he)) p5 r5
       ·cases h
   ·rename_i hd
    simp only[Option.some.injEq] at h;subst h
    rw[hd] at hu
    cases hx;cases hy
    simp[Op.equalIn,run_underlying hu]
   ·rename_i hd
    simp only[Option.some.injEq] at h;subst h
    rw[hd] at hu
    cases hx;cases hy
    simp[Op.equalIn,run_underlying hu]
   ·rename_i hd
    simp only[Option.some.injEq] at h;subst h
    rw[hd] at hu
    cases hx;cases hy
    simp[Op.equalIn,run_underlying hu]
   ·rename_i hd
    simp only[Option.some.injEq] at h;subst h
    rw[hd] at hu
    cases hx
    cases hy <;> simp[Op.equalIn,run_underlying hu]
   ·rename_i hd
    simp only[Option.some.injEq] at h;subst h
    rw[hd] at hu
    cases hy
    cases hx <;> simp only[Op.equalIn,Sem.run_bind,run_underlying hu,Result.andThen_ok,Sem.run_pure]
   ·rename_i hd
    simp only[Option.some.injEq] at h;subst h
    rw[hd] at hu
    cases hx
    cases hy <;> simp[Op.equalIn,run_underlying hu]
   ·rename_i hd
    simp only[Option.some.injEq] at h;subst h
    rw[hd] at hu
    cases hy
    cases hx
    simp[Op.equalIn,run_underlying hu]
   ·rename_i hd
    simp only[Option.some.injEq] at h;subst h
    rw[hd] at hu
    cases hx;cases hy
    simp[Op.equalIn,run_underlying hu]
   ·rename_i hd
    simp only[Option.some.injEq] at h;subst h
    rw[hd] at hu
    cases hx
    cases hy <;> simp[Op.equalIn,run_underlying hu]
   ·rename_i hd
    simp only[Option.some.injEq] at h;subst h
    rw[hd] at hu
    cases hy
    cases hx <;> simp only[Op.equalIn,Sem.run_bind,run_underlying hu,Result.andThen_ok,Sem.run_pure]
   ·rename_i fields xs ys hd
    split at h
    ·rename_i hc
     rw[hd] at hu
     obtain⟨xs',rfl,hxs⟩:=hx.AY
     obtain⟨ys',rfl,hys⟩:=hy.AY
     have hfo:P.fieldsOf t=fields:=by simp[Program.fieldsOf,hu]
     rw[run_equalIn_struct w e t xs' ys' (by rw[hfo];exact hu) (hcmp hc).1,hfo]
     refine rB hxs hys ?_ _ b h
     intro t' x y x' y' b' hb hx' hy'
     split at hb
     ·exact IZ hR d e (by omega) t' x y x' y' b' hb hx' hy'
     ·cases hb
    ·cases h
   ·cases h
theorem sR {op:BinOp} {t:TypeId} {x y:Operand} {a b:Value} (h1:a=.nilIface→b=.nilIface→False) (h2:∀ cs ds,a=.agg cs→b=.agg ds→False) :
  (eqGuard op t x y a b).run P w=.ok () w:=by
 unfold eqGuard
 cases op <;> first
  | rfl
  | (simp only[Bool.not_true,Bool.false_eq_true,if_false];rfl)
theorem UQ {op:BinOp} {t:TypeId} {x y:Operand} (hc:dY x=true∨dY y=true):(eqGuard op t x y .nilIface .nilIface).run P w=.ok () w:=by
  unfold eqGuard
  cases op <;> first
    | rfl
    | (rcases hc with hc | hc
       · cases x <;> first | rfl | cases hc
       · cases y <;> first | (cases hc;done) | (cases x <;> rfl))
theorem VR.CJ {v u:Value} (h:VR ι v u):u=.nilIface→v=.nilIface:=by
 intro e;subst e;cases h;rfl
theorem VR.agg_iff {v:Value} {cs:Array Value} (h:VR ι v (.agg cs)):∃ ds,v=.agg ds:=by cases h;exact⟨_,rfl⟩
theorem VR.gm {v:Value} {k:IntKind} {x:Int} (h:VR ι v (.int k x)):v=.int k x:=by cases h;rfl
theorem VR.LU {v:Value} {x:ByteArray} (h:VR ι v (.string x)):v=.string x:=by cases h;rfl
theorem VR.mr {v:Value} {k:FloatKind} {x:Nat} (h:VR ι v (.float k x)):v=.float k x:=by cases h;rfl
theorem VR.UG {v:Value} {k:FloatKind} {x y:Nat} (h:VR ι v (.complex k x y)):False:=by cases h
theorem binOp_eql {t:TypeId} {a b:Value} (h1:∀ k x k' y,a=.int k x→b=.int k' y→False) (h2:∀ x y,a=.string x→b=.string y→False)
  (h3:∀ k x k' y,a=.float k x→b=.float k' y→False) (h4:∀ k x z k' y u,a=.complex k x z→b=.complex k' y u→False) :
  binOp .eql t a b=(do pure (.bool (← Op.equal t a b))):=by
 cases a <;> cases b <;> first
  | rfl
  | exact(h1 _ _ _ _ rfl rfl).elim
  | exact(h2 _ _ rfl rfl).elim
  | exact(h3 _ _ _ _ rfl rfl).elim
  | exact(h4 _ _ _ _ _ _ rfl rfl).elim
theorem binOp_neq {t:TypeId} {a b:Value} (h1:∀ k x k' y,a=.int k x→b=.int k' y→False) (h2:∀ x y,a=.string x→b=.string y→False)
  (h3:∀ k x k' y,a=.float k x→b=.float k' y→False) (h4:∀ k x z k' y u,a=.complex k x z→b=.complex k' y u→False) :
  binOp .neq t a b=(do pure (.bool (!(← Op.equal t a b)))):=by
 cases a <;> cases b <;> first
  | rfl
  | exact(h1 _ _ _ _ rfl rfl).elim
  | exact(h2 _ _ rfl rfl).elim
  | exact(h3 _ _ _ _ rfl rfl).elim
  | exact(h4 _ _ _ _ _ _ rfl rfl).elim
theorem YY {d:Nat} {t:TypeId} {k:FloatKind} {x:Nat} {b:Value} {r:Bool} (h:mW (env P) H d t (.float k x) b=some r):False:=by
 cases d with
 | zero=>simp[mW] at h
 | succ d =>
  simp only[mW] at h
  cases ht:(env P).ty t with
  | none=>rw[ht] at h;cases h
  | some i =>
   rw[ht] at h
   simp only at h
   cases hd:i.desc <;> rw[hd] at h <;> simp at h
theorem tt {d:Nat} {t:TypeId} {cs:Array Value} {b:Value} {r:Bool} (h:mW (env P) H d t (.agg cs) b=some r):∃ i,(env P).ty t=some i∧i.cmp=true:=by
 cases d with
 | zero=>simp[mW] at h
 | succ d =>
  simp only[mW] at h
  cases ht:(env P).ty t with
  | none=>rw[ht] at h;cases h
  | some i =>
   refine⟨i,rfl,?_⟩
   rw[ht] at h
   simp only at h
   cases hc:i.cmp with
   | true=>rfl
   | false =>
    rw[hc] at h
    cases hd:i.desc <;> rw[hd] at h <;> (try simp at h)
    cases b <;> simp at h
theorem TV (hR:R (env P) ι H n w) {op:BinOp} {t:TypeId} {x y:Operand} {a b a' b' v:Value} (ha:VR ι a a') (hb:VR ι b b')
  (h:(if kB a b&&!(dY x||dY y) then none else binop (env P) H op t a b)=some v) :
  iL P ι w (do eqGuard op t x y a' b';binOp op t a' b') v:=by
 have hn:kB a b=true→dY x=true∨dY y=true:=by
  intro hbn
  rw[hbn] at h
  simp only[Bool.true_and] at h
  split at h
  ·cases h
  ·rename_i hc
   cases hx:dY x with
   | true=>exact .inl rfl
   | false=>cases hy:dY y with
    | true=>exact .inr rfl
    | false=>rw[hx,hy] at hc;exact absurd rfl hc
 have h':binop (env P) H op t a b=some v:=by
  split at h
  ·cases h
  ·exact h
 clear h
 have heq:∀ r,mW (env P) H 10 t a b=some r→(∀ k x k' y,a=.int k x→b=.int k' y→False)→(∀ x y,a=.string x→b=.string y→False) →
   (eqGuard op t x y a' b').run P w=.ok () w∧(binOp .eql t a' b').run P w=.ok (.bool r) w∧(binOp .neq t a' b').run P w=.ok (.bool (!r)) w:=by
  intro r hr hni hns
  have hE:(Op.equal t a' b').run P w=.ok r w:=IZ hR 10 10000 (by omega) t a b a' b' r hr ha hb
  have k1:∀ k x k' y,a'=.int k x→b'=.int k' y→False:=fun k x k' y e1 e2=>hni k x k' y (by subst e1;exact ha.gm) (by subst e2;exact hb.gm)
  have k2:∀ x y,a'=.string x→b'=.string y→False:=fun x y e1 e2=>hns x y (by subst e1;exact ha.LU) (by subst e2;exact hb.LU)
  have k3:∀ k x k' y,a'=.float k x→b'=.float k' y→False:=fun k x k' y e1 _=>by subst e1;rw[ha.mr] at hr;exact YY hr
  have k4:∀ k x z k' y u,a'=.complex k x z→b'=.complex k' y u→False:=fun k x z k' y u e1 _=>by subst e1;exact ha.UG
  refine⟨?_,by rw[binOp_eql k1 k2 k3 k4];simp[hE],by rw[binOp_neq k1 k2 k3 k4];simp[hE]⟩
  by_cases uG:a'=.nilIface∧b'=.nilIface
  ·obtain⟨rfl,rfl⟩:=uG
   refine UQ (hn ?_)
   rw[ha.CJ rfl,hb.CJ rfl];rfl
  ·by_cases hagg:(∃ cs,a'=.agg cs)∧(∃ ds,b'=.agg ds)
   ·obtain⟨⟨cs,rfl⟩,⟨ds,rfl⟩⟩:=hagg
    obtain⟨cs',rfl⟩:=ha.agg_iff
    obtain⟨i,hi,hc⟩:=tt hr
    obtain⟨inf,_,_,_,_,_,_,_,hcmp⟩:=sL hi
    exact run_eqGuard_agg w op t x y _ _ (hcmp hc).2
   ·exact sR (fun e1 e2=>uG ⟨e1,e2⟩) (fun cs ds e1 e2=>hagg ⟨⟨cs,e1⟩,⟨ds,e2⟩⟩)
 unfold binop at h'
 split at h'
 ·rename_i k x1 k' y1
  rw[ha.int_eq,hb.int_eq]
  have hg:(eqGuard op t x y (.int k x1) (.int k' y1)).run P w=.ok () w:=sR (fun e=>by cases e) (fun _ _ e=>by cases e)
  have hk:(binOp op t (.int k x1) (.int k' y1)).run P w=.ok v w∧VR ι v v:=by
   split at h'
   ·exact GI (.inl rfl) t h'
   ·exact GI (.inr rfl) t h'
   ·rename_i h1 h2
    split at h'
    ·rename_i hkk
     subst hkk
     exact TO (fun e=>h1 e) (fun e=>h2 e) t h'
    ·cases h'
  exact⟨v,by simp only[Sem.run_bind,hg,Result.andThen_ok,hk.1],hk.2⟩
 ·rename_i x1 y1
  rw[ha.gA,hb.gA]
  have hg:(eqGuard op t x y (.string x1) (.string y1)).run P w=.ok () w:=sR (fun e=>by cases e) (fun _ _ e=>by cases e)
  have hk:=qs (P:=P) (ι:=ι) (w:=w) t h'
  exact⟨v,by simp only[Sem.run_bind,hg,Result.andThen_ok,hk.1],hk.2⟩
 ·rename_i hni hns
  split at h'
  ·split at h'
   ·rename_i r hr
    simp only[Option.some.injEq] at h';subst h'
    obtain⟨g1,g2,_⟩:=heq r hr (fun k x k' y e1 e2=>hni k x k' y e1 e2) (fun x y e1 e2=>hns x y e1 e2)
    exact⟨_,by simp only[Sem.run_bind,g1,Result.andThen_ok,g2],.bool _⟩
   ·cases h'
  ·split at h'
   ·rename_i r hr
    simp only[Option.some.injEq] at h';subst h'
    obtain⟨g1,_,g2⟩:=heq r hr (fun k x k' y e1 e2=>hni k x k' y e1 e2) (fun x y e1 e2=>hns x y e1 e2)
    exact⟨_,by simp only[Sem.run_bind,g1,Result.andThen_ok,g2],.bool _⟩
   ·cases h'
  ·cases h'
variable {P:Program} {ι:cR} {H:aY} {n:Nat} {w:World}
theorem cy {op:UnOp} {a a' v:Value} (ha:VR ι a a') (h:unop op a=some v):iL P ι w (Op.unary op a') v:=by
 unfold unop at h
 split at h
 ·rw[ha.int_eq]
  simp only[Option.some.injEq] at h;subst h
  exact⟨_,by simp[Op.unary,Op.intArith],.int _ _⟩
 ·rw[ha.kT]
  simp only[Option.some.injEq] at h;subst h
  exact⟨_,by simp[Op.unary],.bool _⟩
 ·cases h
theorem MQ {src dst:TypeId} {a a' v:Value} (ha:VR ι a a') (h:iM (env P) src dst a=some v):iL P ι w (convert src dst a') v:=by
 unfold iM at h
 split at h
 ·rename_i s d hs hd
  split at h
  ·rename_i hk
   rw[ha.int_eq]
   simp only[Option.some.injEq] at h;subst h
   refine⟨_,?_,.int _ _⟩
   unfold convert
   simp only[Sem.run_bind,aK hs,aK hd,Result.andThen_ok,hk]
   simp[Conv.intToInt]
  ·rename_i hk
   rw[ha.gA]
   simp only[Option.some.injEq] at h;subst h
   refine⟨_,?_,.string _⟩
   unfold convert
   simp only[Sem.run_bind,aK hs,aK hd,Result.andThen_ok,hk]
   simp
  ·cases h
 ·cases h
theorem zM {d:TypeDesc} {k x:Value} (hk:qI d k=true) {b:Bool}
  (h:vH k x=some b):Instr.sameNow d k x=some b:=by
 unfold vH at h
 split at h
 ·split at h
  ·rename_i hkk
   subst hkk
   cases d <;> simp[qI] at hk
   simp only[Option.some.injEq] at h;subst h
   simp[Instr.sameNow]
  ·cases h
 ·cases d <;> simp[qI] at hk
  simp only[Option.some.injEq] at h;subst h
  simp[Instr.sameNow]
 ·cases d <;> simp[qI] at hk
  simp only[Option.some.injEq] at h;subst h
  simp[Instr.sameNow]
 ·cases h
theorem AJ {t:TypeId} {k:Value} (h:FL (env P) t k=true):∃ i,(env P).ty t=some i ∧
  qI i.desc k=true:=by
 unfold FL at h
 cases ht:(env P).ty t with
 | none=>rw[ht] at h;cases h
 | some i =>
  rw[ht] at h
  exact⟨i,rfl,h⟩
theorem ZT {t:TypeId} {k k':Value} (h:FL (env P) t k=true) (hk:VR ι k k'):k'=k:=by
 obtain⟨i,_,h2⟩:=AJ h
 cases hd:i.desc <;> rw[hd] at h2 <;> cases k <;> simp[qI] at h2 <;> first | exact hk.int_eq | exact hk.gA | exact hk.kT
theorem AI {k x:Value} {b:Bool} (h:vH k x=some b) {x':Value} (hx:VR ι x x'):x'=x:=by
 unfold vH at h
 split at h
 ·exact hx.int_eq
 ·exact hx.gA
 ·exact hx.kT
 ·cases h
theorem run_checkKey {t:TypeId} {k:Value} (h:FL (env P) t k=true) (e:Bool):(Instr.checkKey e 10000 t k).run P w=.ok () w:=by
 obtain⟨i,ht,h2⟩:=AJ h
 cases hd:i.desc <;> rw[hd] at h2 <;> cases k <;> simp[qI] at h2 <;>
  (unfold Instr.checkKey;simp only[Sem.run_bind,aK ht,hd,Result.andThen_ok,Sem.run_pure])
theorem zK {d:TypeDesc} {k:Value} (hk:qI d k=true) :
  ∀ {es es':List MapEntry} (_:sN ι es es') (i:Nat) (r:Option (Nat×Value)),kH k es i=some r →
   ∃ r',Instr.findNow d k es' i=some r'∧(match r with
    | none=>r'=none
    | some (j,v)=>∃ v',r'=some (j,v')∧VR ι v v'∧i≤j∧∃ e,es[j-i]?=some e∧vH k e.key=some true)
 | _,_,.nil,i,r,h=>by
  simp only[kH,Option.some.injEq] at h;subst h
  exact⟨none,rfl,rfl⟩
 | e::es,e'::es',.cons he t,i,r,h=>by
  simp only[kH] at h
  simp only[Instr.findNow]
  split at h
  ·rename_i hq
   simp only[Option.some.injEq] at h;subst h
   rw[AI hq he.key,zM hk hq]
   exact⟨_,rfl,_,rfl,he.val,Nat.le_refl _,e,by simp,hq⟩
  ·rename_i hq
   rw[AI hq he.key,zM hk hq]
   obtain⟨r',g1,g2⟩:=zK hk t (i+1) r h
   refine⟨r',g1,?_⟩
   cases r with
   | none=>exact g2
   | some p =>
    obtain⟨v',h1,h2,h3,e2,h4,h5⟩:=g2
    refine⟨v',h1,h2,by omega,e2,?_,h5⟩
    rw[show p.1-i=(p.1-(i+1))+1 from by omega,List.getElem?_cons_succ];exact h4
  ·cases h
def Found (ι:cR) (k:Value) (es:List MapEntry):Option (Nat×Value)→Option (Nat×Value)→Prop
 | none,r'=>r'=none
 | some (j,v),r'=>∃ v',r'=some (j,v')∧VR ι v v'∧∃ e,es[j]?=some e∧vH k e.key=some true
theorem run_findKey {t:TypeId} {k:Value} (hk:FL (env P) t k=true) {es es':List MapEntry} (he:sN ι es es') {r:Option (Nat×Value)} (h:kH k es 0=some r) :
  ∃ r',(Instr.findKey t k es').run P w=.ok r' w∧Found ι k es r r':=by
 obtain⟨i,ht,h2⟩:=AJ hk
 obtain⟨r',g1,g2⟩:=zK h2 he 0 r h
 refine⟨r',?_,?_⟩
 ·unfold Instr.findKey
  simp only[Sem.run_bind,aK ht,Result.andThen_ok,g1,Sem.run_pure]
 ·cases r with
  | none=>exact g2
  | some p =>
   obtain⟨v',h1,h2,_,e,h3,h4⟩:=g2
   exact⟨v',h1,h2,e,by simpa using h3,h4⟩
theorem pD (hR:R (env P) ι H n w) {r:Nat} {es:List MapEntry} {c:Nat} (h:mapOf H r=some (es,c)) :
  ∃ l es',ι r=some l∧l.ro=false∧l.off=0∧l.extra=0∧w.heap[l.dR]?=some (.map es' c)∧sN ι es es'.toList:=by
 unfold mapOf at h
 split at h
 ·rename_i es0 c0 dF hr
  simp only[Option.some.injEq,Prod.mk.injEq] at h
  obtain⟨rfl,rfl⟩:=h
  obtain⟨l,h1,h2,h3,h4,es',h5,h6⟩:=hR.obj r _ hr rfl
  exact⟨l,es',h1,h2,h3,h4,h5,h6⟩
 ·cases h
theorem uL {r:Nat} {u:Value} (h:VR ι (.map (some r)) u):∃ l,ι r=some l∧u=.map (some l.dR):=by cases h with | map hl=>exact⟨_,hl,rfl⟩
theorem rJ {u:Value} (h:VR ι (.map none) u):u=.map none:=by cases h;rfl
theorem hZ {b:Nat} {es:Array MapEntry} {c:Nat} (h:w.heap[b]?=some (.map es c)):(getObj b).run P w=.ok (.map es c) w:=by simp[getObj,Sem.run,h]
theorem sN.length:∀ {l l':List MapEntry},sN ι l l'→l.length=l'.length
 | _,_,.nil=>rfl
 | _,_,.cons _ t=>by simp[sN.length t]
theorem oF {v v':Value} (h:VR ι v v') (b:Bool):VR ι (.tuple #[v,.bool b]) (.tuple #[v',.bool b]):=.tuple' (.cons h (.cons (.bool b) .nil))
theorem RP (hR:R (env P) ι H n w) {t:TypeId} {x k x' k' v:Value} {ok:Bool} (hx:VR ι x x') (hk:VR ι k k') (h:kW (env P) H t x k ok=some v) :
  iL P ι w (Instr.lookup t x' k' ok) v:=by
 unfold kW at h
 unfold iL
 split at h
 ·rename_i kt et sz by_ ze ag me cm ht
  split at h
  ·rename_i d2 s2 b2 z a2 m2 c2 het
   split at h
   ·rename_i hkk
    rw[ZT hkk hk]
    have hz:=jG het rfl
    unfold Instr.lookup
    simp only[Sem.run_bind,aK ht,Result.andThen_ok]
    split at h
    ·rw[rJ hx]
     simp only[Sem.run_pure,Result.andThen_ok,run_checkKey hkk,Sem.run_bind]
     obtain⟨r',g1,g2⟩:=run_findKey (P:=P) (ι:=ι) (w:=w) hkk .nil (r:=none) rfl
     cases (show r'=none from g2)
     simp only[g1,Result.andThen_ok,Sem.run_bind,jV het rfl,Sem.run_pure]
     simp only[Option.some.injEq] at h;subst h
     cases ok
     ·exact⟨z,rfl,.closed hz⟩
     ·exact⟨_,rfl,oF (.closed hz) _⟩
    ·rename_i r
     obtain⟨l,hl,rfl⟩:=uL hx
     split at h
     ·rename_i es c hm
      obtain⟨l',es',q1,q2,q3,q4,q5,q6⟩:=pD hR hm
      rw[hl] at q1;cases q1
      simp only[Sem.run_bind,hZ q5,Sem.run_pure,Result.andThen_ok,run_checkKey hkk]
      split at h
      ·rename_i j v0 hf
       obtain⟨r',g1,v',g2,g3,_⟩:=run_findKey (P:=P) (w:=w) hkk q6 hf
       subst g2
       simp only[g1,Result.andThen_ok]
       simp only[Option.some.injEq] at h;subst h
       cases ok
       ·exact⟨v',rfl,g3⟩
       ·exact⟨_,rfl,oF g3 _⟩
      ·rename_i hf
       obtain⟨r',g1,g2⟩:=run_findKey (P:=P) (w:=w) hkk q6 hf
       cases (show r'=none from g2)
       simp only[g1,Result.andThen_ok,Sem.run_bind,jV het rfl,Sem.run_pure]
       simp only[Option.some.injEq] at h;subst h
       cases ok
       ·exact⟨z,rfl,.closed hz⟩
       ·exact⟨_,rfl,oF (.closed hz) _⟩
      ·cases h
     ·cases h
    ·cases h
   ·cases h
  ·cases h
 ·cases h
theorem BF {len cap:Nat} {lo hi:Option Int} {l h:Nat} (hb:iD len cap lo hi=some (l,h)) :
  (match hi with | some x=>0≤x∧x≤(cap:Int)∧h=x.toNat | none=>h=len)∧(match lo with | some x=>0≤x∧x≤(h:Int)∧l=x.toNat | none=>l=0):=by
 unfold iD at hb
 split at hb
 ·cases hb
 ·rename_i h0 hh
  split at hb
  ·cases hb
  ·rename_i l0 hl
   simp only[Option.some.injEq,Prod.mk.injEq] at hb
   obtain⟨rfl,rfl⟩:=hb
   constructor
   ·cases hi with
    | none=>simp only[Option.some.injEq] at hh;exact hh.symm
    | some x =>
     simp only at hh
     split at hh
     ·rename_i hc
      simp only[Option.some.injEq] at hh
      exact⟨hc.1,hc.2,hh.symm⟩
     ·cases hh
   ·cases lo with
    | none=>simp only[Option.some.injEq] at hl;exact hl.symm
    | some x =>
     simp only at hl
     split at hl
     ·rename_i hc
      simp only[Option.some.injEq] at hl
      exact⟨hc.1,hc.2,hl.symm⟩
     ·cases hl
def NG (ι:cR):Option Value→Option Value→Prop
 | none,none=>True
 | some v,some u=>VR ι v u
 | _,_=>False
theorem mD {isSlice:Bool} {len cap cap':Nat} (hcap:cap≤cap') {lo hi lo' hi':Option Value} (hlo:NG ι lo lo') (hhi:NG ι hi hi') {il ih:Option Int}
  (hil:gO lo=some il) (hih:gO hi=some ih) {l h:Nat} (hb:iD len cap il ih=some (l,h)) :
  (Instr.sliceBounds isSlice len cap' lo' hi' none).run P w=.ok (l,h,cap') w:=by
 obtain⟨h1,h2⟩:=BF hb
 have bound:∀ (v:Value) (k:IntKind) (x:Int) (y:Nat) (code:BoundsCode),v=.int k x→0≤x→x≤(y:Int)→(Instr.sliceBound v y code).run P w=.ok x.toNat w:=by
  intro v k x y code hv h0 h1
  subst hv
  simp[Instr.sliceBound,asIntOf,h0,h1]
 have ehi:(hi'=none→h=len)∧(∀ v' code,hi'=some v'→(Instr.sliceBound v' cap' code).run P w=.ok h w):=by
  cases hi with
  | none =>
   cases hi' with
   | none =>
    simp only[gO,Option.some.injEq] at hih
    subst hih
    exact⟨fun _=>h1,fun _ _ e=>(by cases e)⟩
   | some _=>exact hhi.elim
  | some v =>
   cases hi' with
   | none=>exact hhi.elim
   | some v' =>
    cases v <;> simp[gO] at hih
    rename_i k x
    subst hih
    obtain⟨g1,g2,rfl⟩:=h1
    refine⟨fun e=>(by cases e),fun v2 code e=>?_⟩
    cases e
    exact bound _ k x _ _ (VR.int_eq hhi) g1 (by omega)
 have elo:(lo'=none→l=0)∧(∀ v' code,lo'=some v'→(Instr.sliceBound v' h code).run P w=.ok l w):=by
  cases lo with
  | none =>
   cases lo' with
   | none =>
    simp only[gO,Option.some.injEq] at hil
    subst hil
    exact⟨fun _=>h2,fun _ _ e=>(by cases e)⟩
   | some _=>exact hlo.elim
  | some v =>
   cases lo' with
   | none=>exact hlo.elim
   | some v' =>
    cases v <;> simp[gO] at hil
    rename_i k x
    subst hil
    obtain⟨g1,g2,rfl⟩:=h2
    refine⟨fun e=>(by cases e),fun v2 code e=>?_⟩
    cases e
    exact bound _ k x _ _ (VR.int_eq hlo) g1 (by omega)
 unfold Instr.sliceBounds
 cases hi' with
 | none =>
  have:=ehi.1 rfl
  subst this
  cases lo' with
  | none =>
   have:=elo.1 rfl
   subst this
   rfl
  | some v=>simp[elo.2 v _ rfl]
 | some v =>
  cases lo' with
  | none =>
   have:=elo.1 rfl
   subst this
   simp[ehi.2 v _ rfl]
  | some u=>simp[ehi.2 v _ rfl,elo.2 u _ rfl]
theorem qK {a b:Nat} {u:Value} (h:VR ι (.slice none a b) u):u=.slice none a b:=by cases h;rfl
theorem PB {b o len cap:Nat} {u:Value} (h:VR ι (.slice (some ⟨b,o,none⟩) len cap) u):∃ l,ι b=some l∧u=.slice (some ⟨l.dR,l.off+o,none⟩) len (cap+l.extra):=by
 cases h with | slice _ _ hl=>exact⟨_,hl,rfl⟩
theorem XT (hR:R (env P) ι H n w) {t:TypeId} {x x' v:Value} {lo hi mx lo' hi' mx':Option Value} (hx:VR ι x x') (hlo:NG ι lo lo') (hhi:NG ι hi hi') (hmx:NG ι mx mx')
  (h:dE (env P) H t x lo hi mx=some v):iL P ι w (Instr.sliceAt t x' lo' hi' mx') v:=by
 unfold iL
 unfold dE at h
 cases mx with
 | some _=>cases h
 | none =>
 cases mx' with
 | some _=>exact hmx.elim
 | none =>
 simp only at h
 split at h
 ·rename_i i il ih ht hil hih
  unfold Instr.sliceAt
  simp only[Sem.run_bind,aK ht,Result.andThen_ok]
  split at h
  ·
   rename_i s hd
   rw[hx.gA]
   split at h
   ·rename_i l h0 hb
    split at h
    ·simp only[Option.some.injEq] at h;subst h
     refine⟨_,?_,.string _⟩
     rw[hd]
     simp only[Instr.slice,Sem.run_bind,aK ht,Result.andThen_ok,hd,Option.isSome_none,Bool.false_eq_true,if_false,Sem.run_pure]
     rw[mD (Nat.le_refl _) hlo hhi hil hih hb]
     rfl
    ·cases h
   ·cases h
  ·
   rename_i e hd
   rw[qK hx]
   split at h
   ·rename_i ei hb he
    simp only[Option.some.injEq] at h;subst h
    refine⟨_,?_,.nF 0 0⟩
    rw[hd]
    simp only[Instr.slice,Sem.run_bind,aK ht,Result.andThen_ok,hd]
    rw[mD (Nat.le_refl _) hlo hhi hil hih hb]
    simp[cU he]
   ·cases h
  ·
   rename_i e a len cap hd
   obtain⟨ab,ao,aAm⟩:=a
   cases aAm with
   | some _=>cases h
   | none =>
   simp only at h
   obtain⟨l,hl,rfl⟩:=PB hx
   split at h
   ·rename_i lo0 hi0 ei c z m e' room ro dF hb he hH
    split at h
    ·rename_i hle
     obtain⟨q1,q2⟩:=BF hb
     obtain⟨l',arr,e'',fz,p1,p2,p3,p4,p5,_⟩:=oV hR hH
     rw[hl] at p1;cases p1
     have hcaph:hi0≤cap:=hle.2
     rw[hd]
     have hrun:(Instr.slice t (.slice (some ⟨l.dR,l.off+ao,none⟩) len (cap+l.extra)) lo' hi' none).run P w =
       .ok (.slice (if cap+l.extra=lo0 then some ⟨l.dR,l.off+ao,none⟩ else some ((⟨l.dR,l.off+ao,none⟩:Addr).add (lo0*ei.size))) (hi0-lo0) (cap+l.extra-lo0)) w:=by
      simp only[Instr.slice,Sem.run_bind,aK ht,Result.andThen_ok,hd]
      rw[mD (by omega) hlo hhi hil hih hb]
      simp[cU he]
     refine⟨_,hrun,?_⟩
     split at h
     ·rename_i hcl
      subst hcl
      have h0:hi0=cap:=by omega
      subst h0
      simp only[Option.some.injEq] at h;subst h
      simp only[Nat.sub_self]
      cases room with
      | true =>
       simp only[if_true]
       have:=VR.nN (ι:=ι) (o:=ao) (k:=hi0*ei.size) hl
       by_cases hx0:l.extra=0
       ·simp only[hx0,if_true,Nat.add_zero] at this ⊢
        simpa using this
       ·rw[if_neg (by omega),Addr.gF]
        rw[if_neg hx0] at this
        rw[show hi0+l.extra-hi0=l.extra from by omega]
        exact this
      | false =>
       have hx0:=p5 rfl
       simp only[Bool.false_eq_true,if_false,hx0,Nat.add_zero,if_true,Nat.sub_self]
       have:=VR.slice (ι:=ι) (o:=ao) 0 0 hl
       simpa [hx0] using this
     ·rename_i hcl
      simp only[Option.some.injEq] at h;subst h
      rw[if_neg (by omega),Addr.gF,Addr.gF]
      have:=VR.slice (ι:=ι) (o:=ao+lo0*ei.size) (hi0-lo0) (cap-lo0) hl
      rw[show cap+l.extra-lo0=cap-lo0+l.extra from by omega,Nat.add_assoc]
      exact this
    ·cases h
   ·cases h
  ·
   rename_i m e a hd
   obtain⟨ab,ao,aAm⟩:=a
   cases aAm with
   | some _=>cases h
   | none =>
   simp only at h
   obtain⟨_,_,l,e1,hl,rfl⟩:=nI hx
   cases e1
   split at h
   ·rename_i lo0 hi0 ei c z m' e' ro dF hb he hH
    split at h
    ·rename_i hle
     obtain⟨l',arr,e'',fz,p1,p2,p3,p4,p5,_⟩:=oV hR hH
     rw[hl] at p1;cases p1
     have hx0:=p5 rfl
     simp only[Option.some.injEq] at h;subst h
     rw[hd]
     simp only[Instr.sureAddr,Sem.run_bind,Sem.run_pure,Result.andThen_ok]
     rw[mD (Nat.le_refl _) hlo hhi hil hih hb]
     simp only[Result.andThen_ok,cU he]
     refine⟨_,rfl,?_⟩
     split
     ·have:=VR.slice (ι:=ι) (o:=ao) (hi0-lo0) (m-lo0) hl
      simpa [hx0] using this
     ·have:=VR.slice (ι:=ι) (o:=ao+lo0*ei.size) (hi0-lo0) (m-lo0) hl
      rw[Addr.gF,Addr.gF]
      simpa [hx0,Nat.add_assoc] using this
    ·cases h
   ·cases h
  ·cases h
 ·cases h
end Go.Dust
