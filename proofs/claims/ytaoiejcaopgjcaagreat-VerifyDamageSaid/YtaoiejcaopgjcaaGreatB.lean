/- The plain interpreter D and its laws (Df Dg Dh). -/
import Derived.Test.YtaoiejcaopgjcaaGreatA
import Derived.Laws.Tables
import Derived.IntWalk
set_option linter.unusedVariables false
set_option linter.unusedSimpArgs false
namespace Go.Dust
variable {P:Program} {ι:aQ} {H:bL} {n:Nat} {w:World}
inductive FV (ι:aQ):List (Nat×Value)→List (Nat×Value)→Prop
 | nil:FV ι [] []
 | cons {i:Nat} {v u:Value} {l l':List (Nat×Value)} (h:VR ι v u) (t:FV ι l l'):FV ι ((i,v)::l) ((i,u)::l')
theorem bT.aG0 {cs ds:Array Value} (h:bT ι cs.toList ds.toList) {v u:Value} (hv:VR ι v u) (i:Nat):bT ι (cs.setIfInBounds i v).toList (ds.setIfInBounds i u).toList:=by
 refine .qu (by simpa using h.length) ?_;intro j x y hx hy;have hsz:=h.size;simp only[Array.toList_setIfInBounds,List.getElem?_set] at hx hy;by_cases hij:i=j
 ·subst hij;simp only[if_true] at hx hy;split at hx
  ·simp only[Option.some.injEq] at hx;subst hx;split at hy
   ·simp only[Option.some.injEq] at hy;subst hy;exact hv
   ·cases hy
  ·cases hx
 ·simp only[hij,if_false] at hx hy;exact h.get j hx hy
theorem Cp:∀ (vs us:List Value) (k off:Nat) (cs ds:Array Value),bT ι vs us→bT ι cs.toList ds.toList →
  bT ι ((vs.zipIdx k).foldl (fun cs (x:Value×Nat)=>cs.setIfInBounds (off+x.2) x.1) cs).toList ((us.zipIdx k).foldl (fun cs (x:Value×Nat)=>cs.setIfInBounds (off+x.2) x.1) ds).toList
 | _,_,_,_,_,_,.nil,h=>by simpa using h
 | v::vs,u::us,k,off,cs,ds,.cons hv t,h=>by
  simp only[List.zipIdx_cons,List.foldl_cons];exact Cp vs us (k+1) off _ _ t (h.aG0 hv _)
theorem VE {place:Nat→Option (Nat×Nat)}:∀ {parts parts':List (Nat×Value)} (_:FV ι parts parts') {cs ds:Array Value} (_:bT ι cs.toList ds.toList) {r:Array Value},
  Instr.fill place cs parts=some r→∃ r',Instr.fill place ds parts'=some r'∧bT ι r.toList r'.toList
 | _,_,.nil,cs,ds,h,r,hr=>by
  simp only[Instr.fill,Option.some.injEq] at hr;subst hr;exact⟨ds,rfl,h⟩
 | _,_,.cons (i:=i) (v:=v) (u:=u) hv t,cs,ds,h,r,hr=>by
  simp only[Instr.fill] at hr ⊢;split at hr
  ·cases hr
  ·rename_i off size hp;split at hr
   ·cases hr
   ·rename_i hc;have hvc:=hv.cells;have hsz:v.cells.size=u.cells.size:=hvc.size;have hcs:cs.size=ds.size:=h.size;rw[← hsz,← hcs,if_neg hc];refine VE t ?_ hr;rw[← Array.foldl_toList,← Array.foldl_toList];simpa using Cp _ _ 0 off cs ds hvc h
theorem Of:∀ (fs:List Field),fs.all (fun f=>((env P).ty f.type).isSome)=true →
  (fs.mapM fun f=>Prod.mk f.offset <$> sizeOf f.type).run P w=.ok (fs.map fun f=>(f.offset,match (env P).ty f.type with | some ti=>ti.size | none=>0)) w
 | [],_=>by simp
 | f::fs,h=>by
  simp only[List.all_cons,Bool.and_eq_true] at h;obtain⟨ti,hti⟩:=Option.isSome_iff_exists.1 h.1;simp[List.mapM_cons,pZ hti,Of fs h.2,hti]
theorem Wp {t:TypeId} {parts parts':List (Nat×Value)} (hp:FV ι parts parts') {v:Value} (h:iR (env P) t parts=some v) (pa:Array (Nat×Value)) (hpa:pa.toList=parts') :
  jZ P ι w (Instr.build t pa) v:=by
 unfold jZ;unfold iR at h;split at h
 ·rename_i fields sz by_ z ag me cm ht;split at h
  ·rename_i hall;split at h
   ·rename_i cs hf;simp only[Option.some.injEq] at h;subst h;have hz:VR ι z z:=.closed (FQ ht rfl);obtain⟨r',g1,g2⟩:=VE hp hz.cells hf;refine⟨.agg r',?_,.JV g2⟩;have hpl:=Of (P:=P) (w:=w) fields.toList hall;have g1':Instr.fill (fun x=>(fields.map fun f=>(f.offset,match (env P).ty f.type with | some ti=>ti.size | none=>0))[x]?) z.cells pa.toList=some r':=by rw[hpa];exact g1
    simp only[Instr.build,Sem.run_bind,AZ ht rfl,fA ht,Result.andThen_ok];have hm:((fields.mapM fun f=>do pure (f.offset,← sizeOf f.type)):Sem (Array (Nat×Nat))).run P w=.ok (fields.map fun f=>(f.offset,match (env P).ty f.type with | some ti=>ti.size | none=>0)) w:=by
     rw[Array.mapM_eq_mapM_toList];have:(fun(f:Field)=>(do pure (f.offset,← sizeOf f.type):Sem (Nat×Nat)))=fun f=>Prod.mk f.offset <$> sizeOf f.type:=by
      funext f;rfl
     rw[this,Sem.run_map,hpl];simp only[Result.andThen_ok];congr 1;apply Array.toList_inj.1;simp
    rw[hm];simp only[Result.andThen_ok,g1'];rfl
   ·cases h
  ·cases h
 ·rename_i len e sz by_ z ag me cm ht;split at h
  ·rename_i ei he;split at h
   ·rename_i cs hf;simp only[Option.some.injEq] at h;subst h;have hz:VR ι z z:=.closed (FQ ht rfl);obtain⟨r',g1,g2⟩:=VE hp hz.cells hf;refine⟨.agg r',?_,.JV g2⟩;simp only[Instr.build,Sem.run_bind,AZ ht rfl,fA ht,Result.andThen_ok,pZ he,hpa,g1];rfl
   ·cases h
  ·cases h
 ·cases h
theorem e_ {s:TypeId} {x x' v:Value} {f:Nat} (hx:VR ι x x') (h:dO (env P) s x f=some v):jZ P ι w (Instr.fieldAt s x' f) v:=by
 unfold jZ;unfold dO at h;split at h
 ·rename_i fields sz by_ ze ag me cm a hx ht;obtain⟨ab,ao,l,rfl,hl,rfl⟩:=xZ hx;split at h
  ·rename_i fd hfd hs;split at h
   ·rename_i ti hti;split at h
    ·cases h
    ·rename_i hsz;simp only[Option.some.injEq] at h;subst h;refine⟨.pointer (some ⟨l.aT,l.off+(ao+fd.offset),none⟩),?_,by rw[Addr.rH];exact .ptr hl⟩;simp only[Instr.fieldAt,Sem.run_bind,fA ht,Result.andThen_ok,hfd,Instr.sureAddr,Sem.run_pure,fieldPlace,pZ hti,hsz,if_false,Addr.rH,Nat.add_assoc]
   ·cases h
  ·cases h
 ·cases h
theorem Y_ {t:TypeId} {x x' i i' v:Value} (hx:VR ι x x') (hi:VR ι i i') (h:mZ (env P) t x i=some v):jZ P ι w (Instr.indexAt t x' i') v:=by
 unfold jZ;unfold mZ at h;split at h
 ·rename_i e sz by_ ze ag me cm a len cap k m ht;rw[hi.int_eq];obtain⟨ab,ao,aJ6⟩:=a;split at h
  ·rename_i ei he hs;cases (show aJ6=none from hs);obtain⟨l,hl,rfl⟩:=tj hx;split at h
   ·rename_i hb;simp only[Option.some.injEq] at h;subst h;refine⟨.pointer (some ⟨l.aT,l.off+(ao+m.toNat*ei.size),none⟩),?_,by rw[Addr.rH];exact .ptr hl⟩;simp only[Instr.indexAt,asIntOf,Sem.run_bind,Sem.run_pure,fA ht,Result.andThen_ok,pZ he,hb,and_self,if_true,Addr.rH,Nat.add_assoc]
   ·cases h
  ·cases h
 ·rename_i len e sz by_ ze ag me cm a k m ht;rw[hi.int_eq];obtain⟨ab,ao,aJ6⟩:=a;split at h
  ·rename_i ei he hs;cases (show aJ6=none from hs);obtain⟨_,_,l,e1,hl,rfl⟩:=xZ hx;cases e1;split at h
   ·rename_i hb;simp only[Option.some.injEq] at h;subst h;refine⟨.pointer (some ⟨l.aT,l.off+(ao+m.toNat*ei.size),none⟩),?_,by rw[Addr.rH];exact .ptr hl⟩;simp only[Instr.indexAt,asIntOf,Instr.sureAddr,Sem.run_bind,Sem.run_pure,fA ht,Result.andThen_ok,pZ he,hb,and_self,if_true,Addr.rH,Nat.add_assoc]
   ·cases h
  ·cases h
 ·cases h
theorem Z0 {t:TypeId} {x x' i i' v:Value} (hx:VR ι x x') (hi:VR ι i i') (h:HU (env P) t x i=some v):jZ P ι w (Instr.index t x' i') v:=by
 unfold jZ;unfold HU at h;split at h
 ·rename_i sz by_ ze ag me cm s k m hx hi ht;rw[hi.int_eq,hx.tZ];split at h
  ·rename_i h0;split at h
   ·rename_i b hb;simp only[Option.some.injEq] at h;subst h;refine⟨_,?_,.int _ _⟩;simp only[Instr.index,asIntOf,Sem.run_bind,Sem.run_pure,fA ht,Result.andThen_ok,h0,if_true,hb]
   ·cases h
  ·cases h
 ·rename_i len e sz by_ ze ag me cm cs k m hx hi ht;rw[hi.int_eq];obtain⟨cs',rfl,hcs⟩:=hx.OB;split at h
  ·rename_i ei he;split at h
   ·rename_i hb;obtain⟨u,g1,g2⟩:=RN (P:=P) (w:=w) hcs h;refine⟨u,?_,g2⟩;simp only[Instr.index,asIntOf,Sem.run_bind,Sem.run_pure,fA ht,Result.andThen_ok,hb,and_self,if_true,pZ he,g1]
   ·cases h
  ·cases h
 ·cases h
theorem f_ {t:TypeId} {x x' v:Value} {f:Nat} (hx:VR ι x x') (h:GH (env P) t x f=some v):jZ P ι w (Instr.field t x' f) v:=by
 unfold jZ;unfold GH at h;split at h
 ·rename_i fields sz by_ ze ag me cm cs hx ht;obtain⟨cs',rfl,hcs⟩:=hx.OB;split at h
  ·rename_i fd hfd;obtain⟨u,g1,g2⟩:=RN (P:=P) (w:=w) hcs h;refine⟨u,?_,g2⟩;simp only[Instr.field,asAgg,Sem.run_bind,Sem.run_pure,fA ht,Result.andThen_ok,hfd,g1]
  ·cases h
 ·cases h
theorem aBr {want:Array (String×TypeId)} {got:Array Method} (h:PA want got=true):Instr.missingMethod want got=none:=by
 unfold Instr.missingMethod;have mY:(want.toList.filter fun(name,sig)=>!got.any fun m=>m.name==name&&m.sig==sig)=[]:=by
  rw[List.filter_eq_nil_iff];intro x hx;have:=List.all_eq_true.1 h x hx;simp at this ⊢;exact this
 simp[mY,Instr.least]
theorem aAt (p:String→Bool) (f:String→String):∀ (l:List String),l≠[]→(Instr.least (l.partition p).2 <|> Instr.least ((l.partition p).1.map f))≠none
 | [],h=>absurd rfl h
 | x::l,_=>by
  rw[List.partition_eq_filter_filter];simp only[List.filter_cons];cases hc:p x <;> simp[hc,Instr.least]
theorem aBs {want:Array (String×TypeId)} {got:Array Method} (h:PA want got=false):∃ m,Instr.missingMethod want got=some m:=by
 have hne:(want.toList.filter fun(name,sig)=>!got.any fun m=>m.name==name&&m.sig==sig)≠[]:=by
  intro mY;rw[List.filter_eq_nil_iff] at mY;have:PA want got=true:=by
   unfold PA;rw[List.all_eq_true];intro x hx;have:=mY x hx;simp at this ⊢;exact this
  rw[this] at h;cases h
 cases hm:Instr.missingMethod want got with
 | some m=>exact⟨m,rfl⟩
 | none =>
  unfold Instr.missingMethod at hm;exact(aAt _ _ ((want.toList.filter fun(name,sig)=>!got.any fun m=>m.name==name&&m.sig==sig).map (·.1)) (by simpa using hne) hm).elim
theorem aH0 {x x' v:Value} {xt t:TypeId} {ok:Bool} (hx:VR ι x x') (h:FK (env P) x t ok=some v):jZ P ι w (Instr.typeAssert x' xt t ok) v:=by
 unfold jZ;unfold FK at h;split at h
 ·rename_i want sz by_ z ag me cm dt dv hx ht;cases hx with
  | iface _ hv =>
  rename_i dv';split at h
  ·rename_i di hdi;obtain⟨inf,e1,_,e3⟩:=RY (w:=w) hdi;split at h
   ·rename_i hm;rw[e3.symm] at hm;have hmm:=aBr hm;simp only[Instr.typeAssert,Sem.run_bind,fA ht,Result.andThen_ok,e1,hmm,Sem.run_pure];simp only[Option.some.injEq] at h;subst h;cases ok
    ·exact⟨_,rfl,.iface _ hv⟩
    ·exact⟨_,rfl,MN (.iface _ hv) _⟩
   ·rename_i hm;rw[e3.symm] at hm;obtain⟨m,hmm⟩:=aBs (by simpa using hm);split at h
    ·rename_i hok;subst hok;simp only[Option.some.injEq] at h;subst h;simp only[Instr.typeAssert,Sem.run_bind,fA ht,Result.andThen_ok,e1,hmm,if_true,AZ ht rfl,Sem.run_pure];exact⟨_,rfl,MN (.closed (FQ ht rfl)) _⟩
    ·cases h
  ·cases h
 ·cases h
 ·rename_i di dt dv hn1 hn2 ht;cases hx with
  | iface _ hv =>
  rename_i dv';have hni:∀ m,di.desc≠.interface m:=by
   intro m hm;obtain⟨dd,a1,a2,a3,a4,a5,a6⟩:=di;simp only at hm;subst hm;exact hn2 _ _ _ _ _ _ _ rfl
  split at h
  ·rename_i hdt;subst hdt;simp only[Option.some.injEq] at h;subst h;have hrun:(Instr.typeAssert (.iface dt dv') xt dt ok).run P w=.ok (if ok then .tuple #[dv',.bool true] else dv') w:=by
    unfold Instr.typeAssert;simp only[Sem.run_bind,fA ht,Result.andThen_ok];cases hd:di.desc with
    | interface m=>exact(hni m hd).elim
    | _=>simp
   refine⟨_,hrun,?_⟩;cases ok
   ·exact hv
   ·exact MN hv _
  ·cases h
 ·cases h
theorem Jr:∀ {l l':List Value} {v v' r:Value},VR ι v v'→bT ι l l'→oC (fun x y=>decide (y<x)) v l=some r→jZ P ι w (l'.foldlM Builtin.min2 v') r
 | [],_,v,v',r,hv,.nil,h=>by
  simp only[oC,Option.some.injEq] at h;subst h;exact⟨v',by simp,hv⟩
 | u::l,u'::l',v,v',r,hv,.cons hu t,h=>by
  unfold oC at h;split at h
  ·rename_i heq;cases heq
  ·rename_i k x k' y rest heq;cases heq;split at h
   ·rename_i hk;subst hk;rw[hv.int_eq,hu.int_eq];obtain⟨r',g1,g2⟩:=Jr (VR.int (ι:=ι) k (if decide (y<x)=true then y else x)) t h;refine⟨r',?_,g2⟩;simp only[List.foldlM_cons,Builtin.min2,Sem.run_bind,Sem.run_pure,Result.andThen_ok];simpa using g1
   ·cases h
  ·cases h
theorem Jm:∀ {l l':List Value} {v v' r:Value},VR ι v v'→bT ι l l'→oC (fun x y=>decide (y>x)) v l=some r→jZ P ι w (l'.foldlM Builtin.max2 v') r
 | [],_,v,v',r,hv,.nil,h=>by
  simp only[oC,Option.some.injEq] at h;subst h;exact⟨v',by simp,hv⟩
 | u::l,u'::l',v,v',r,hv,.cons hu t,h=>by
  unfold oC at h;split at h
  ·rename_i heq;cases heq
  ·rename_i k x k' y rest heq;cases heq;split at h
   ·rename_i hk;subst hk;rw[hv.int_eq,hu.int_eq];obtain⟨r',g1,g2⟩:=Jm (VR.int (ι:=ι) k (if decide (y>x)=true then y else x)) t h;refine⟨r',?_,g2⟩;simp only[List.foldlM_cons,Builtin.max2,Sem.run_bind,Sem.run_pure,Result.andThen_ok];simpa using g1
   ·cases h
  ·cases h
theorem aB0 (hR:R (env P) ι H n w) {t:TypeId} {x x' v:Value} (hx:VR ι x x') (h:mH (env P) H t x=some v) (ts:Array TypeId) (hts:ts[0]?=some t) (rt:TypeId) :
  jZ P ι w (Builtin.len_ ts rt #[x']) v:=by
 unfold jZ;unfold mH at h;cases ht:(env P).ty t with
 | none=>rw[ht] at h;cases h
 | some i =>
  rw[ht] at h;simp only at h;have hun:=fA (w:=w) ht;split at h
  ·rename_i hd;rw[hx.tZ];simp only[Option.some.injEq] at h;subst h;refine⟨_,?_,.int _ _⟩;simp[goInt,Builtin.len_,hts,hun,hd]
  ·rename_i hd;simp only[Option.some.injEq] at h;subst h;refine⟨_,?_,.int _ _⟩;simp[goInt,Builtin.len_,hts,hun,hd]
  ·rename_i hd;simp only[Option.some.injEq] at h;subst h;refine⟨_,?_,.int _ _⟩;cases hx <;> simp[goInt,Builtin.len_,hts,hun,hd]
  ·rename_i hd;simp only[Option.some.injEq] at h;subst h;rw[QY hx];refine⟨_,?_,.int _ _⟩;simp[goInt,Builtin.len_,hts,hun,hd]
  ·rename_i r hd;obtain⟨l,hl,rfl⟩:=IB hx;split at h
   ·rename_i es c hm;simp only[Option.some.injEq] at h;subst h;obtain⟨l',es',q1,q2,q3,q4,q5,q6⟩:=QU hR hm;rw[hl] at q1;cases q1;refine⟨_,?_,.int _ _⟩;have:=q6.length;simp[goInt,Builtin.len_,hts,hun,hd,yC q5,this]
   ·cases h
  ·cases h
theorem fL.find {b:Nat}:∀ {es es':List MapEntry} {e:MapEntry},fL ι es es'→es.find? (fun x=>x.born==b)=some e→∃ e',es'.find? (fun x=>x.born==b)=some e'∧ER ι e e'
 | _,_,_,.nil,h=>by cases h
 | x::es,x'::es',e,.cons hx t,h=>by
  simp only[List.find?_cons] at h ⊢;rw[← hx.born];cases hb:(x.born==b) with
  | true =>
   rw[hb] at h;simp only[Option.some.injEq] at h;subst h;exact⟨x',rfl,hx⟩
  | false =>
   rw[hb] at h;exact fL.find t h
theorem Zj (hR:R (env P) ι H n w) {x x' v:Value} (hx:VR ι x x') (h:vK H x=some v):jZ P ι w (Instr.entry x') v:=by
 unfold jZ;unfold vK at h;split at h
 ·rename_i a hx;obtain⟨ab,ao,l,rfl,hl,rfl⟩:=xZ hx;split at h
  ·rename_i h0;cases (show ao=0 from h0.1);simp only at h;split at h
   ·rename_i m since last rest stepped bB hH;obtain⟨l',g1,g2,g3,g4,lm,g5,g6⟩:=hR.obj _ _ hH rfl;rw[hl] at g1;cases g1;split at h
    ·rename_i es clock hm;obtain⟨l'',es',q1,q2,q3,q4,q5,q6⟩:=QU hR hm;rw[g5] at q1;cases q1;split at h
     ·rename_i hc;subst hc;split at h
      ·rename_i e hf;simp only[Option.some.injEq] at h;subst h;obtain⟨e',r1,r2⟩:=q6.find hf;refine⟨.tuple #[e'.key,e'.val],?_,.tuple' (.cons r2.key (.cons r2.val .nil))⟩;have hg:(getObj l.aT).run P w=.ok (.mapIter (some lm.aT) since (last::rest).reverse.toArray clock) w:=by simp[getObj,Sem.run,g6]
       have hback:((last::rest).reverse.toArray).back?=some last:=by simp
       have r1':es'.find? (fun x=>x.born==last)=some e':=by simpa using r1
       have hxx:(⟨l.aT,l.off+0,none⟩:Addr)=⟨l.aT,0,none⟩:=by rw[g3]
       rw[hxx];simp only[Instr.entry,Sem.run_bind,hg,Result.andThen_ok,hback,yC q5,bne_self_eq_false,Bool.false_eq_true,if_false,Sem.run_pure,r1']
      ·cases h
     ·cases h
    ·cases h
   ·cases h
  ·cases h
 ·cases h
theorem bT.Ji {ρ ρc:Operand→Value} (a:Array Operand) (h:∀ x∈a.toList,VR ι (ρ x) (ρc x)):bT ι (a.map ρ).toList (a.map ρc).toList:=by
 simp only[Array.toList_map];exact .map₂ _ h
theorem qz {ρ ρc:Operand→Value} (o:Option Operand) (h:∀ x∈o.toArray.toList,VR ι (ρ x) (ρc x)):JT ι (o.map ρ) (o.map ρc):=by
 cases o with
 | none=>trivial
 | some x=>exact h x (by simp)
theorem Qs (hR:R (env P) ι H n w) {ρ ρc:Operand→Value} {o:Oper} (hρ:∀ x∈o.op.operands.toList,VR ι (ρ x) (ρc x)) {v:Value} (h:iO (env P) H ρ o.op=some v) :
  ∃ v',(execOp ρc o).run P w=.ok (.value v') w∧VR ι v v':=by
 have lift:∀ (s:Sem Value),jZ P ι w s v→∃ v',(do pure (.value (← s)):Sem Next).run P w=.ok (.value v') w∧VR ι v v':=by
  rintro s ⟨v',h1,h2⟩;exact⟨v',by simp[h1],h2⟩
 unfold execOp;cases hop:o.op <;> rw[hop] at h hρ <;> simp only[iO] at h <;> simp only[Op.operands] at hρ
 case move x =>
  simp only[Option.some.injEq] at h;subst h;exact⟨_,rfl,hρ x (by simp)⟩
 case assign x =>
  simp only[Option.some.injEq] at h;subst h;exact⟨_,rfl,hρ x (by simp)⟩
 case pick c a b =>
  have hc:=hρ c (by simp);split at h
  ·rename_i t hcv;rw[hcv] at hc;simp only[Option.some.injEq] at h;subst h;refine⟨if t then ρc a else ρc b,by simp[hc.yY,asBool],?_⟩;cases t
   ·exact hρ b (by simp)
   ·exact hρ a (by simp)
  ·cases h
 case build t parts =>
  refine lift _ ?_;refine Wp ?_ h _ rfl;have:∀ (l:List (Nat×Operand)),(∀ x∈l,VR ι (ρ x.2) (ρc x.2))→FV ι (l.map fun(i,x)=>(i,ρ x)) (l.map fun(i,x)=>(i,ρc x)):=by
   intro l
   induction l with
   | nil=>intro _;exact .nil
   | cons y l ih=>intro hl;exact .cons (hl y (by simp)) (ih fun z hz=>hl z (by simp[hz]))
  rw[Array.toList_map];exact this _ fun x hx=>hρ _ (by simp;exact⟨x.1,by simpa using hx⟩)
 case load t a =>
  split at h
  ·rename_i ad ha;have hv:=hρ a (by simp);rw[ha] at hv;obtain⟨b,o',l,rfl,hl,he⟩:=xZ hv;refine lift _ ?_;rw[he];obtain⟨v',g1,g2⟩:=Iv hR hl h;exact⟨v',by simp[Instr.loadAt,Instr.sureAddr,g1],g2⟩
  ·cases h
 case nilCheck x =>
  have hv:=hρ x (by simp);dsimp only;generalize ρc x=u at hv;generalize ρ x=y at hv h;unfold IE at h;split at h
  ·simp only[Option.some.injEq] at h;subst h;obtain⟨_,_,l,rfl,hl,rfl⟩:=xZ hv;exact⟨_,rfl,.ptr hl⟩
  ·simp only[Option.some.injEq] at h;subst h;obtain⟨a',b',rfl,h1,h2⟩:=hv.VL;exact⟨_,rfl,hv⟩
  ·simp only[Option.some.injEq] at h;subst h;cases hv with
   | yield hl=>exact⟨_,rfl,.yield hl⟩
  ·simp only[Option.some.injEq] at h;subst h;cases hv with
   | iface _ hvv=>exact⟨_,rfl,.iface _ hvv⟩
  ·cases h
 case binOp op t x y yt =>
  refine lift _ ?_;exact Wm hR (hρ x (by simp)) (hρ y (by simp)) h
 case unOp op t x =>
  exact lift _ (aH2 (hρ x (by simp)) h)
 case convert s d x =>
  exact lift _ (Xy (hρ x (by simp)) h)
 case makeInterface t x =>
  split at h
  ·rename_i i hi;have hv:=hρ x (by simp);refine lift _ ⟨.iface t (ρc x),?_,?_⟩
   ·unfold Instr.makeInterface;simp only[Sem.run_bind,fA hi,Result.andThen_ok];split at h
    ·cases h
    ·rename_i hne;cases hd:i.desc with
     | interface m=>exact(hne m hd).elim
     | _=>rfl
   ·split at h
    ·cases h
    ·simp only[Option.some.injEq] at h;subst h;exact .iface _ hv
  ·cases h
 case makeFunc fn first captured =>
  have h1:=bT.Ji (ι:=ι) (ρ:=ρ) (ρc:=ρc) first fun x hx=>hρ x (by simp at hx ⊢;exact .inl hx);have h2:=bT.Ji (ι:=ι) (ρ:=ρ) (ρc:=ρc) captured fun x hx=>hρ x (by simp at hx ⊢;exact .inr hx);split at h
  ·simp only[Option.some.injEq] at h;subst h;exact lift _ ⟨_,rfl,.func h1.size h2.size h1.arr h2.arr⟩
  ·simp only[Option.some.injEq] at h;subst h;exact lift _ ⟨_,rfl,.IC h1.size h2.size h1.arr h2.arr⟩
  ·cases h
 case slice t x lo hi mx =>
  refine lift _ (aGj hR (hρ x (by simp)) (qz lo ?_) (qz hi ?_) (qz mx ?_) h)
  ·intro y hy;exact hρ y (by simp at hy ⊢;simp[hy])
  ·intro y hy;exact hρ y (by simp at hy ⊢;simp[hy])
  ·intro y hy;exact hρ y (by simp at hy ⊢;simp[hy])
 case fieldAddr s x f=>exact lift _ (e_ (hρ x (by simp)) h)
 case field t x f=>exact lift _ (f_ (hρ x (by simp)) h)
 case indexAddr t x i=>exact lift _ (Y_ (hρ x (by simp)) (hρ i (by simp)) h)
 case index t x i=>exact lift _ (Z0 (hρ x (by simp)) (hρ i (by simp)) h)
 case lookup t x k ok=>exact lift _ (aBf hR (hρ x (by simp)) (hρ k (by simp)) h)
 case extract t i =>
  have hv:=hρ t (by simp);split at h
  ·rename_i vs hvs;rw[hvs] at hv;obtain⟨vs',he,hr⟩:=hv.aGy;obtain⟨u,g1,g2⟩:=hr.GM i (v:=v) (by simpa using h);refine lift _ ⟨u,?_,g2⟩;have g1':vs'[i]?=some u:=by simpa using g1
   simp[he,Instr.extract,g1']
  ·cases h
 case entry it=>exact lift _ (Zj hR (hρ it (by simp)) h)
 case typeAssert x xt t ok=>exact lift _ (aH0 (hρ x (by simp)) h)
 case call c =>
  obtain⟨callee,args,argTypes⟩:=c;simp only at h;have hargs:bT ι (args.toList.map ρ) (args.toList.map ρc):=.map₂ _ fun x hx=>hρ x (by simp[Call.operands];exact .inr (by simpa using hx));have hrun:∀ b,callee=.builtin b→(resolve ρc {callee,args,argTypes} o.type).run P w=.ok {target:=.builtin b argTypes o.type (args.map fun | .const _=>true | _=>false),args:=args.map ρc} w:=by
   intro b hb;subst hb;rfl
  split at h
  ·have hr:=hrun _ rfl;simp only[Sem.run_bind,hr,Result.andThen_ok,invoke,builtin];split at h
   ·rename_i t x ht hx;have hlen:=aB0 hR (hρ x (by simp[Call.operands];exact Array.mem_of_getElem? hx)) h argTypes ht o.type;obtain⟨v',g1,g2⟩:=hlen;refine⟨v',?_,g2⟩;have hx':(args.map ρc)[0]?=some (ρc x):=by simp[hx]
    have:(Builtin.len_ argTypes o.type (args.map ρc)).run P w=.ok v' w:=by
     rw[← g1];unfold Builtin.len_;simp only[ht,hx'];simp
    simp[this]
   ·cases h
  ·have hr:=hrun _ rfl;simp only[Sem.run_bind,hr,Result.andThen_ok,invoke,builtin];split at h
   ·rename_i v0 rest hl;rw[hl] at hargs;generalize hl':args.toList.map ρc=l' at hargs;cases hargs with
    | cons hv ht =>
    obtain⟨v',g1,g2⟩:=Jr (P:=P) (w:=w) hv ht h;refine⟨v',?_,g2⟩;simp only[Builtin.min_,Array.toList_map,hl',g1,Result.andThen_ok,Sem.run_pure]
   ·cases h
  ·have hr:=hrun _ rfl;simp only[Sem.run_bind,hr,Result.andThen_ok,invoke,builtin];split at h
   ·rename_i v0 rest hl;rw[hl] at hargs;generalize hl':args.toList.map ρc=l' at hargs;cases hargs with
    | cons hv ht =>
    obtain⟨v',g1,g2⟩:=Jm (P:=P) (w:=w) hv ht h;refine⟨v',?_,g2⟩;simp only[Builtin.max_,Array.toList_map,hl',g1,Result.andThen_ok,Sem.run_pure]
   ·cases h
  ·cases h
 all_goals cases h
variable {P:Program} {ι:aQ} {H:bL} {n:Nat} {w:World}
abbrev mK (w:World):Loc:=⟨w.heap.size,0,0,false⟩
theorem qs {X:Env} {l l':List Value} (hl:bT ι l l') (e e':TypeId) (bB m:Nat) (hm:m=l.length) (arr:Array Value) (harr:arr.toList=l') :
  jM X ι (w.alloc (.cells arr e' (0,0))) (mK w) (.cells (PT.ofList l) [] m e false false bB):=by
 subst hm;have hlen:=hl.length;have hsz:arr.size=l.length:=by rw[hlen,← harr];simp
 refine⟨arr,e',(0,0),heap_alloc_new,fun _=>rfl,rfl,fun _=>rfl,?_,?_,?_⟩
 ·intro ei _;simp[hsz]
 ·simp[hsz]
 ·intro i hi;have hg:l[i]?=some l[i]:=List.getElem?_eq_getElem hi;obtain⟨u,h1,h2⟩:=hl.GM i hg;refine⟨l[i],u,?_,?_,h2⟩
  ·unfold cellAt;rw[if_pos hi,PT.sP,hg]
  ·simp only[Nat.zero_add];rw[← harr] at h1;simpa using h1
theorem g_ {z:Value} (hz:GA z=true) (m:Nat):bT ι ((Array.range m).map (z.cells[·%z.cells.size]!)).toList ((Array.range m).map (z.cells[·%z.cells.size]!)).toList:=by
 simp only[Array.toList_map];refine .map₂ _ fun i _=>?_;have hc:bT ι z.cells.toList z.cells.toList:=VR.cells (.closed hz);by_cases h:i%z.cells.size<z.cells.size
 ·rw[getElem!_pos z.cells _ h];exact hc.arr (i%z.cells.size) _ _ (by simp[h]) (by simp[h])
 ·rw[getElem!_neg z.cells _ h];exact .bool _
theorem wrap_small {x:Int} (h0:0≤x) (h1:x<2 ^ 40):IntKind.i64.wrap x=x:=IntWalk.i64_in _ (by omega)
theorem Jk {α:Type} (f:Nat→α):(Array.range 0).map f=#[]:=by simp
theorem run_makeSlice {t e:TypeId} {i ei:Ty} {z:Value} {l c:Int} (ht:(env P).ty t=some i) (hd:i.desc=.slice e) (he:(env P).ty e=some ei) (hz:ei.zero=some z)
  (h0:0≤l) (h1:l≤c) (h2:c<2 ^ 40) (h3:ei.bytes*c≤2 ^ 48) (_:z.cells.size=ei.size) :
  (Instr.makeSlice t (.int .i64 l) (.int .i64 c)).run P w =
   .ok (.slice (some ⟨w.heap.size,0,none⟩) l.toNat c.toNat) (w.alloc (.cells ((Array.range (c.toNat*ei.size)).map (z.cells[·%z.cells.size]!)) e (0,0))):=by
 obtain⟨inf,e1,e2,_⟩:=RY (w:=w) he;unfold Instr.makeSlice;simp only[Sem.run_bind,fA ht,hd,Result.andThen_ok,asInt,asIntOf,Sem.run_pure,e1,e2,wrap_small (x:=l) h0 (by omega),wrap_small (x:=c) (by omega) h2];have k1:(decide (c<0)||decide ((ei.bytes:Int)*c>2 ^ 48))=false:=by
  simp only[Bool.or_eq_false_iff,decide_eq_false_iff_not];constructor <;> omega
 rw[k1];rw[if_neg (by simp;omega)];simp only[Sem.run_bind,run_askRoom,Result.andThen_ok,pZ he];by_cases hn:c.toNat*ei.size=0
 ·rw[if_pos hn];simp only[Sem.run_pure,Result.andThen_ok,newRow,Sem.run_bind,run_newObj,hn,Jk];rfl
 ·rw[if_neg hn];simp only[Sem.run_bind,AZ he hz,Sem.run_pure,Result.andThen_ok,newRow,run_newObj];rfl
theorem xa {nm:Nat} {ρ ρc:Operand→Value} {o:Oper} (hfree:ι nm=none) (hρ:∀ x∈o.op.operands.toList,VR ι (ρ x) (ρc x)) {v:Value} {f:Nat→bW}
  (h:iJ (env P) nm ρ o.op=some (v,f)) :
  ∃ u x,(execOp ρc o).run P w=.ok (.value u) (w.alloc x)∧VR (ι.add nm (mK w)) v u∧∀ bB,(f bB).cX=false∧jM (env P) (ι.add nm (mK w)) (w.alloc x) (mK w) (f bB):=by
 have hle:ι.le (ι.add nm (mK w)):=aQ.uQ hfree;have hptr:VR (ι.add nm (mK w)) (.pointer (some ⟨nm,0,none⟩)) (.pointer (some ⟨w.heap.size,0,none⟩)):=by
  have:=VR.ptr (ι:=ι.add nm (mK w)) (o:=0) (aQ.add_same ι nm (mK w));simpa [mK] using this
 have hsl:∀ a b,VR (ι.add nm (mK w)) (.slice (some ⟨nm,0,none⟩) a b) (.slice (some ⟨w.heap.size,0,none⟩) a b):=by
  intro a b;have:=VR.slice (ι:=ι.add nm (mK w)) (o:=0) a b (aQ.add_same ι nm (mK w));simpa [mK] using this
 unfold execOp;cases hop:o.op <;> rw[hop] at h hρ <;> simp only[iJ] at h <;> simp only[Op.operands] at hρ
 case alloc e =>
  split at h
  ·rename_i d sz by_ z ag me cm ht;simp only[Option.some.injEq,Prod.mk.injEq] at h;obtain⟨rfl,rfl⟩:=h;have hz:bT (ι.add nm (mK w)) z.cells.toList z.cells.toList:=VR.cells (.closed (FQ ht rfl));refine⟨_,.cells z.cells e (0,0),?_,hptr,fun bB=>⟨rfl,qs hz e e bB _ (by simp) _ rfl⟩⟩;simp only[Instr.alloc,Sem.run_bind,AZ ht rfl,Result.andThen_ok,newVar,newRow,run_newObj,Sem.run_pure];rfl
  ·cases h
 case box e x =>
  simp only[Option.some.injEq,Prod.mk.injEq] at h;obtain⟨rfl,rfl⟩:=h;have hv:=((hρ x (by simp)).mono hle).cells;refine⟨_,.cells (ρc x).cells e (0,0),?_,hptr,fun bB=>⟨rfl,qs hv e e bB _ (by simp) _ rfl⟩⟩;simp only[Instr.box,Sem.run_bind,Result.andThen_ok,newVar,newRow,run_newObj,Sem.run_pure];rfl
 case buildSlice t len parts =>
  split at h
  ·rename_i e sz by_ ze ag me cm ht;split at h
   ·rename_i d esz eb z ea em ec he;split at h
    ·rename_i hlen;split at h
     ·rename_i cs hf;simp only[Option.some.injEq,Prod.mk.injEq] at h;obtain⟨rfl,rfl⟩:=h;have hpr:∀ (l:List (Nat×Operand)),(∀ x∈l,VR ι (ρ x.2) (ρc x.2))→FV ι (l.map fun(i,x)=>(i,ρ x)) (l.map fun(i,x)=>(i,ρc x)):=by
       intro l
       induction l with
       | nil=>intro _;exact .nil
       | cons y l ih=>intro hl;exact .cons (hl y (by simp)) (ih fun z hz=>hl z (by simp[hz]))
      obtain⟨r',g1,g2⟩:=VE (hpr parts.toList fun x hx=>hρ _ (by simp;exact⟨x.1,by simpa using hx⟩)) (g_ (ι:=ι) (FQ he rfl) (len*esz)) hf;have g1':Instr.fill (fun i=>some (i*esz,esz)) ((Array.range (len*esz)).map (z.cells[·%z.cells.size]!)) (parts.map fun(i,x)=>(i,ρc x)).toList=some r':=by
       rw[Array.toList_map];exact g1
      refine⟨_,.cells r' e (0,0),?_,hsl len len,fun bB=>⟨rfl,qs (bT.mono hle g2) e e bB _ (by simp) _ rfl⟩⟩;have hsize:(sizeOf e).run P w=.ok esz w:=pZ he;simp only[Instr.buildSlice,Sem.run_bind,fA ht,Result.andThen_ok,hsize];rw[if_neg (by omega)];by_cases h0:len*esz=0
      ·rw[if_pos h0];rw[h0] at g1';simp only[Sem.run_pure,Sem.run_bind,Result.andThen_ok];simp only[h0];have g3:Instr.fill (fun i=>some (i*esz,esz)) ((Array.range 0).map ((#[]:Array Value)[·%(#[]:Array Value).size]!)) (parts.map fun(i,x)=>(i,ρc x)).toList=some r':=by
        rw[Jk] at g1' ⊢;exact g1'
       simp only[g3,newRow,Sem.run_bind,run_newObj,Result.andThen_ok,Sem.run_pure];rfl
      ·rw[if_neg h0];simp only[Sem.run_pure,Sem.run_bind,Result.andThen_ok,AZ he rfl,g1',newRow,run_newObj];rfl
     ·cases h
    ·cases h
   ·cases h
  ·cases h
 case makeMap t r =>
  have hmap:VR (ι.add nm (mK w)) (.map (some nm)) (.map (some w.heap.size)):=.map (aQ.add_same ι nm (mK w));have hobj:∀ bB,((fun v=>bW.map [] 0 v) bB).cX=false∧jM (env P) (ι.add nm (mK w)) (w.alloc (.map #[] 0)) (mK w) (.map [] 0 bB):=fun bB =>
   ⟨rfl,rfl,rfl,rfl,#[],heap_alloc_new,.nil⟩
  split at h
  ·rename_i k e sz by_ ze ag me cm ht hr;simp only[Option.some.injEq,Prod.mk.injEq] at h;obtain⟨rfl,rfl⟩:=h;cases r with
   | some _=>cases hr
   | none =>
    exact⟨_,.map #[] 0,rfl,hmap,hobj⟩
  ·rename_i k e sz by_ ze ag me cm kk m ht hr;simp only[Option.some.injEq,Prod.mk.injEq] at h;obtain⟨rfl,rfl⟩:=h;cases r with
   | none=>cases hr
   | some x =>
    simp only[Option.map_some,Option.some.injEq] at hr;have hv:=hρ x (by simp);rw[hr] at hv;refine⟨_,.map #[] 0,?_,hmap,hobj⟩;simp only[Option.map_some,hv.int_eq,Instr.makeMap,Sem.run_bind,fA ht,Result.andThen_ok,asInt,asIntOf,Sem.run_pure,run_newObj];rfl
  ·cases h
 case makeSlice t len cap =>
  split at h
  ·rename_i e sz by_ ze ag me cm l c ht hl hc;split at h
   ·rename_i d esz eb z ea em ec he;split at h
    ·rename_i hb;simp only[Option.some.injEq,Prod.mk.injEq] at h;obtain⟨rfl,rfl⟩:=h;have h1:=hρ len (by simp);have h2:=hρ cap (by simp);rw[hl] at h1;rw[hc] at h2;have hrun:=run_makeSlice (w:=w) ht rfl he rfl hb.1 hb.2.1 hb.2.2.1 hb.2.2.2.1 hb.2.2.2.2;refine⟨_,.cells ((Array.range (c.toNat*esz)).map (z.cells[·%z.cells.size]!)) e (0,0),?_,hsl _ _,fun bB=>⟨rfl,?_⟩⟩
     ·simp only[h1.int_eq,h2.int_eq,Sem.run_bind,hrun,Result.andThen_ok,Sem.run_pure]
     ·refine⟨_,e,(0,0),heap_alloc_new,fun _=>rfl,rfl,fun _=>rfl,?_,?_,?_⟩
      ·intro ei hei;simp
      ·simp
      ·intro i hi;have hzs:z.cells.size=esz:=hb.2.2.2.2;have hpos:0<z.cells.size:=by
        rw[hzs];by_cases hz0:esz=0
        ·rw[hz0] at hi;simp at hi
        ·omega
       have hmod:i%z.cells.size<z.cells.size:=Nat.mod_lt _ hpos;have hcl:bT (ι.add nm (mK w)) z.cells.toList z.cells.toList:=VR.cells (.closed (FQ he rfl));refine⟨z.cells[i%z.cells.size],z.cells[i%z.cells.size],?_,?_,hcl.arr (i%z.cells.size) _ _ (by simp[hmod]) (by simp[hmod])⟩
       ·unfold cellAt;rw[if_pos hi,PT.get_nil];simp[hmod]
       ·simp only[Nat.zero_add];rw[Array.getElem?_map];simp only[Array.getElem?_range,hi,if_true,Option.map_some];exact congrArg some (getElem!_pos z.cells (i%z.cells.size) hmod)
    ·cases h
   ·cases h
  ·cases h
 all_goals cases h
variable {P:Program} {ι:aQ} {s s':St} {w:World}
abbrev RS (P:Program) (ι:aQ) (s:St) (w:World):Prop:=R (env P) ι s.look s.next w
abbrev ES (ι:aQ) (s:St) (w:World) (ι':aQ) (s':St) (w':World):Prop:=Ext ι s.look s.next w ι' s'.look s'.next w'
def JQ (P:Program) (ι:aQ) (s:St) (w:World) (sem:Sem Value) (v:Value) (s':St):Prop :=
 ∃ u ι' w',sem.run P w=.ok u w'∧VR ι' v u∧RS P ι' s' w'∧ES ι s w ι' s' w'
theorem RS.put (hR:RS P ι s w) {b:Nat} {o:bW} {l:Loc} (hb:s.heap.get b=some o) (hd:o.cX=false) (hl:ι b=some l) (hro:l.ro=false) (x:Obj) {f:Nat→bW}
  (ho:jM (env P) ι (World.gO w l.aT x) l (f s.aR)):RS P ι (s.put b f) (World.gO w l.aT x)∧ES ι s w ι (s.put b f) (World.gO w l.aT x):=by
 have h1:=R.put (H:=s.look) hR hb hd hl hro x ho;have h2:=Ext.put (H:=s.look) (n:=s.next) (w:=w) hb hd hl hro x (f s.aR);unfold RS ES;rw[qd];exact⟨h1,h2⟩
theorem RS.new {ex:Nat} (hR:RS P ι s w) (x:Obj) {f:Nat→bW} (ho:jM (env P) (ι.add s.next ⟨w.heap.size,0,ex,false⟩) (w.alloc x) ⟨w.heap.size,0,ex,false⟩ (f s.aR)) :
  RS P (ι.add s.next ⟨w.heap.size,0,ex,false⟩) (s.new f) (w.alloc x)∧ES ι s w (ι.add s.next ⟨w.heap.size,0,ex,false⟩) (s.new f) (w.alloc x):=by
 have hfree:ι s.next=none:=hR.fresh _ (Nat.le_refl _) hR.kT;have hodd:=hR.kT;have h1:=R.newAt (H:=s.look) hR s.next (s.next+2) hfree hR.kT (by omega) (by omega) (by omega) x ho;have h2:=Ext.newAt (H:=s.look) (n:=s.next) (w:=w) (ex:=ex) s.next (s.next+2) hfree (Nat.le_refl _) (by omega) (by omega) x (f s.aR);unfold RS ES;rw[YD];exact⟨h1,h2⟩
theorem SH (hR:RS P ι s w) {b o:Nat} {l:Loc} (hl:ι b=some l) {vs us:List Value} (hv:bT ι vs us) (h:dS s ⟨b,o,none⟩ vs=some s') :
  ∃ w',(storeCells ⟨l.aT,l.off+o,none⟩ us).run P w=.ok () w'∧RS P ι s' w'∧ES ι s w ι s' w':=by
 unfold dS at h;simp only at h;split at h
 ·rename_i c z n e r bB hs hb;split at h
  ·rename_i hc;simp only[Option.some.injEq] at h;subst h;obtain⟨l',arr,e',fz,h1,h2,h3,h4,h5,h6,h7,h8⟩:=BK hR (show s.look b=_ from hb);rw[hl] at h1;cases h1;rw[h3 rfl] at h2;have hlen:=hv.length;have h1u:us.all hZ=true:=by rw[← hv.hZ];exact hc.2
   refine⟨_,ar us w l.aT (l.off+o) 0 arr e' h2 h1u (by omega),?_⟩;refine hR.put hb rfl hl h4 _ ⟨tH arr (l.off+o+0) us,e',(0,0),zV (jJ h2),fun _=>rfl,h4,h5,?_,by simpa using h7,?_⟩
   ·intro ei hei;have:=h6 ei hei;simpa using this
   ·intro i hi;obtain⟨v0,u0,g1,g2,g3⟩:=h8 i hi;rw[VM us arr _ _ (by omega)];unfold cellAt at g1 ⊢;rw[if_pos hi] at g1 ⊢;rw[PT.GN];by_cases hoi:o≤i
    ·rw[if_pos hoi,if_pos (by omega),show l.off+i-(l.off+o+0)=i-o from by omega];cases hvi:vs[i-o]? with
     | some v1 =>
      obtain⟨u1,k1,k2⟩:=hv.GM _ hvi;rw[k1];exact⟨v1,u1,rfl,rfl,k2⟩
     | none =>
      have:us[i-o]?=none:=by
       rw[List.getElem?_eq_none_iff] at hvi ⊢;omega
      rw[this];exact⟨v0,u0,g1,g2,g3⟩
    ·rw[if_neg hoi,if_neg (by omega)];exact⟨v0,u0,g1,g2,g3⟩
  ·cases h
 ·cases h
theorem aGl (hR:RS P ι s w) {t:TypeId} {a:Addr} {v x u:Value} (hx:VR ι (.pointer (some a)) x) (hv:VR ι v u) (h:storeT (env P) s t a v=some s') :
  ∃ w',(Instr.storeAt t x u).run P w=.ok () w'∧RS P ι s' w'∧ES ι s w ι s' w':=by
 obtain⟨b,o,l,rfl,hl,rfl⟩:=xZ hx;unfold storeT at h;split at h
 ·rename_i i hi;split at h
  ·rename_i hsz;obtain⟨w',g1,g2,g3⟩:=SH hR hl hv.cells h;refine⟨w',?_,g2,g3⟩;have husz:u.cells.size=i.size:=by rw[← hv.cells.size];exact hsz
   simp only[Instr.storeAt,Instr.sureAddr,Sem.run_bind,Sem.run_pure,Result.andThen_ok,storeVar,pZ hi,husz,ne_eq,not_true_eq_false,if_false,g1]
  ·cases h
 ·cases h
theorem Wq (l:List UInt8):bT ι (l.map fun b=>Value.int .u8 b.toNat) (l.map fun b=>Value.int .u8 b.toNat):=.map₂ _ fun _ _=>.int _ _
theorem Ca (hR:RS P ι s w) {size n:Nat} {x x':Value} (hx:VR ι x x') {l:List Value} (h:kP s.look size n x=some l) (hn:∀ a c d,x=.slice a c d→n≤c) :
  ∃ l',(Builtin.firstCells size n x').run P w=.ok l' w∧bT ι l l'.toList:=by
 unfold kP at h;split at h
 ·rename_i a c d;split at h
  ·rename_i h0;simp only[Option.some.injEq] at h;subst h;refine⟨#[],?_,.nil⟩;cases hx <;> simp[Builtin.firstCells,h0,loadCells,loadCellsFrom]
  ·rename_i h0;have hc:0<c:=by
    have:=hn _ _ _ rfl;by_cases hz:n=0
    ·subst hz;simp at h0
    ·omega
   cases hx with
   | slice _ _ hl =>
    obtain⟨us,g1,g2,_⟩:=It (P:=P) hR hl h;exact⟨us,by simpa [Builtin.firstCells] using g1,g2⟩
   | tX hl=>omega
 ·simp only[Option.some.injEq] at h;subst h;rw[YY hx];exact⟨#[],rfl,.nil⟩
 ·simp only[Option.some.injEq] at h;subst h;rw[hx.tZ];refine⟨_,rfl,?_⟩;simp only[Array.toList_map];exact Wq _
 ·cases h
theorem aAz {x x':Value} (hx:VR ι x x') {n:Nat} (h:wA x=some n):(Builtin.lenOf x').run P w=.ok n w:=by
 unfold wA at h;split at h
 ·simp only[Option.some.injEq] at h;subst h;cases hx <;> rfl
 ·simp only[Option.some.injEq] at h;subst h;rw[hx.tZ];rfl
 ·cases h
theorem Ie {x:Value} {n:Nat} (h:wA x=some n):∀ a c d,x=.slice a c d→n≤c:=by
 rintro a c d rfl;simp only[wA,Option.some.injEq] at h;omega
theorem nextslicecap_le {need c:Nat} (h:c<need):Builtin.nextslicecap need c≤2*need+1000:=by
 unfold Builtin.nextslicecap;split
 ·omega
 ·split
  ·omega
  ·have key:∀ r c,c≤2*need+1000→Builtin.growBy need r c≤2*need+1000:=by
    intro r
    induction r with
    | zero=>intro c hc;simpa [Builtin.growBy] using hc
    | succ r ih =>
     intro c hc;simp only[Builtin.growBy];split
     ·exact hc
     ·exact ih _ (by omega)
   exact key 4 c (by omega)
theorem Vm {argTypes:Array TypeId} {ty t t2 e:TypeId} {args:Array Value} {base:Option Addr} {sLen sCap n:Nat} {x:Value} {i i2 ei:Ty} {z:Value}
    (hat:argTypes.toList=[t,t2]) (harg:args.toList=[.slice base sLen sCap,x]) (ht:(env P).ty t=some i) (hd:i.desc=.slice e) (ht2:(env P).ty t2=some i2)
    (hni:tn i2.desc=true) (he:(env P).ty e=some ei) (hz:ei.zero=some z) (hlen:(Builtin.lenOf x).run P w=.ok n w)
    {l':Array Value} (hfirst:(Builtin.firstCells ei.size n x).run P w=.ok l' w) :
    (sLen+n≤sCap→(Builtin.append_ argTypes ty args).run P w =
      ((match base with | some a=>storeCells (a.add (sLen*ei.size)) l'.toList | none=>pure ()).run P w).andThen fun _ w'=>.ok (.slice base (sLen+n) sCap) w') ∧
    (¬ sLen+n≤sCap→sLen+n<2 ^ 40→(2*(sLen+n)+1000)*ei.bytes≤2 ^ 47→∃ newCap w1,w1.heap=w.heap∧w1.tape=w.tape∧w1.os=w.os∧(w1.output=w.output∧w.drawn≤w1.drawn)∧sLen+n≤newCap ∧
      ∀ (dE new:Array Value),(Builtin.firstCells ei.size sLen (.slice base sLen sCap)).run P w1=.ok dE w1→(Builtin.firstCells ei.size n x).run P w1=.ok new w1 →
        (Builtin.append_ argTypes ty args).run P w=.ok (.slice (some ⟨w1.heap.size,0,none⟩) (sLen+n) newCap)
          (w1.alloc (.cells (dE++new++Builtin.zeroCells z.cells (newCap-(sLen+n))) e (0,0)))):=by
  obtain⟨a0,a1⟩:argTypes[0]?=some t∧argTypes[1]?=some t2:=by
    constructor
    · rw[← Array.getElem?_toList,hat];rfl
    · rw[← Array.getElem?_toList,hat];rfl
  obtain⟨b0,b1⟩:args[0]?=some (.slice base sLen sCap)∧args[1]?=some x:=by
    constructor
    · rw[← Array.getElem?_toList,harg];rfl
    · rw[← Array.getElem?_toList,harg];rfl
  have hz0:i2.desc=.string∨∃ q,i2.desc=.slice q:=by
    cases hdd:i2.desc <;> rw[hdd] at hni <;> first | exact .inl rfl | exact .inr ⟨_,rfl⟩ | cases hni
  obtain⟨inf,e1,e2,_⟩:=RY (w:=w) he;constructor
  · intro hfit
    unfold Builtin.append_;rcases hz0 with hz0 | ⟨q,hz0⟩ <;>
      (simp only[a0,a1,b0,b1,Sem.run_bind,fA ht,hd,Result.andThen_ok,pZ he,fA ht2,hz0,Sem.run_pure,Bool.false_eq_true,if_false,hlen,hfit,if_true,Bool.not_false,hfirst]
       cases base <;> simp)
  · intro hfit h40 hb
    have hsc:sCap<sLen+n:=by omega
    have hns:=nextslicecap_le hsc;have hb':Builtin.nextslicecap (sLen+n) sCap*ei.bytes≤2 ^ 48:=by
      have:Builtin.nextslicecap (sLen+n) sCap*ei.bytes≤(2*(sLen+n)+1000)*ei.bytes:=Nat.mul_le_mul_right _ hns;omega
    obtain⟨cap,hcap⟩:∃ cap,cap=Question.cut (.appendCap (sLen+n) sCap e) (w.tape w.drawn (.appendCap (sLen+n) sCap e)):=⟨_,rfl⟩;refine⟨cap,{w with drawn:=w.drawn+1},rfl,rfl,rfl,⟨rfl,Nat.le_succ _⟩,?_,?_⟩
    · rw[hcap];simp only[Question.cut];omega
    · intro dE new hold hnew
      have hch:(choose (.appendCap (sLen+n) sCap e)).run P w=.ok cap {w with drawn:=w.drawn+1}:=by
        simp[choose,Sem.run,Question.forced,← hcap]
      have e1':=RY (w:={w with drawn:=w.drawn+1}) he;obtain⟨inf',e3,e4,_⟩:=e1';have hgt:¬ (((sLen+n:Nat):Int)>IntKind.i64.max):=by
        simp only[IntKind.max,IntKind.signed,IntKind.bits];simp;omega
      unfold Builtin.append_;rcases hz0 with hz0 | ⟨q,hz0⟩ <;>
        (simp only[a0,a1,b0,b1,Sem.run_bind,fA ht,hd,Result.andThen_ok,pZ he,fA ht2,hz0,Sem.run_pure,Bool.false_eq_true,if_false,hlen,hfit,Bool.not_false,e1,e2]
         rw[if_neg (fun hh=>hgt hh.1)];simp only[Sem.run_bind,e1,e2,Result.andThen_ok];rw[if_neg (by omega)];simp only[Sem.run_bind,Sem.run_pure,Result.andThen_ok,hch,e3,run_askRoom,hold,hnew,if_true,AZ he hz,newRow,run_newObj];rfl)
section
variable {X:Env} {H:bL} {n:Nat}
theorem R.iw (h:R X ι H n w) {b:Nat} {o:bW} {l:Loc} (hb:H b=some o) (hd:o.cX=false) (hl:ι b=some l) (hro:l.ro=false) (x:Obj) (off ex:Nat) {o':bW}
  (ho:jM X (ι.add n ⟨l.aT,off,ex,false⟩) (World.gO w l.aT x) ⟨l.aT,off,ex,false⟩ o') :
  R X (ι.add n ⟨l.aT,off,ex,false⟩) (fU (fU H b .dead) n o') (n+2) (World.gO w l.aT x):=by
 have hfree:ι n=none:=h.fresh _ (Nat.le_refl _) h.kT;have hle:ι.le (ι.add n ⟨l.aT,off,ex,false⟩):=aQ.uQ hfree;have hodd:=h.kT;have hbn:b≠n:=by intro e;subst e;rw[hfree] at hl;cases hl
 have dE:∀ c oc,fU (fU H b .dead) n o' c=some oc→oc.cX=false→c≠n→c≠b∧H c=some oc:=by
  intro c oc hc hdc hcn;unfold fU at hc;rw[if_neg hcn] at hc;split at hc
  ·cases hc;cases hdc
  ·rename_i e;exact⟨e,hc⟩
 refine⟨?_,by omega,?_,?_,?_,?_⟩
 ·intro c;unfold aQ.add;rw[if_neg (by omega)];exact h.even c
 ·intro c hc hc2;unfold aQ.add;rw[if_neg (by omega)];exact h.fresh c (by omega) hc2
 ·intro c lc hc hr;rw[Qd];unfold aQ.add at hc;split at hc
  ·cases hc;exact h.tR b l hl hro
  ·exact h.tR c lc hc hr
 ·intro c oc hc hdc;by_cases hcn:c=n
  ·subst hcn;simp only[fU,if_true,Option.some.injEq] at hc;subst hc;exact⟨_,aQ.add_same _ _ _,ho⟩
  ·obtain⟨hcb,hc'⟩:=dE c oc hc hdc hcn;obtain⟨lc,h1,h2⟩:=h.obj c oc hc' hdc;refine⟨lc,hle _ _ h1,h2.mono hle (GZ ?_)⟩;intro he;exact hcb (h.inj b c o oc l lc hb hd hc' hdc hl h1 hro he.symm).symm
 ·intro c c' oc oc' lc lc' hc hdc hc' hdc' h1 h2 hr he;by_cases e1:c=n <;> by_cases e2:c'=n
  ·rw[e1,e2]
  ·obtain⟨k1,k2⟩:=dE c' oc' hc' hdc' e2;unfold aQ.add at h1 h2;rw[if_pos e1] at h1;rw[if_neg e2] at h2;cases h1;exact absurd (h.inj b c' o oc' l lc' hb hd k2 hdc' hl h2 hro he) (Ne.symm k1)
  ·obtain⟨k1,k2⟩:=dE c oc hc hdc e1;unfold aQ.add at h1 h2;rw[if_neg e1] at h1;rw[if_pos e2] at h2;cases h2;exact absurd (h.inj c b oc o lc l k2 hdc hb hd h1 hl hr he) k1
  ·obtain⟨k1,k2⟩:=dE c oc hc hdc e1;obtain⟨k3,k4⟩:=dE c' oc' hc' hdc' e2;unfold aQ.add at h1 h2;rw[if_neg e1] at h1;rw[if_neg e2] at h2;exact h.inj c c' oc oc' lc lc' k2 hdc k4 hdc' h1 h2 hr he
theorem Ext.iw (hodd:n%2=1) (hfree:ι n=none) {b:Nat} {o:bW} {l:Loc} (hb:H b=some o) (hd:o.cX=false) (hl:ι b=some l) (hro:l.ro=false) (x:Obj) (off ex:Nat) (o':bW) :
  Ext ι H n w (ι.add n ⟨l.aT,off,ex,false⟩) (fU (fU H b .dead) n o') (n+2) (World.gO w l.aT x):=by
 refine⟨aQ.uQ hfree,?_,by omega,rfl,rfl,rfl,by simp,?_,?_,Nat.le_refl _⟩
 ·intro c hc hc2;unfold aQ.add;rw[if_neg (by omega)];exact hc
 ·intro c hc hown;exact GZ fun e=>hown ⟨b,o,l,hb,hd,hl,hro,e.symm⟩
 ·rintro c ⟨d,od,ld,h1,h2,h3,h4,h5⟩;unfold fU at h1;unfold aQ.add at h3;split at h1
  ·rename_i e;rw[if_pos e] at h3;cases h3;exact .inl ⟨b,o,l,hb,hd,hl,hro,h5⟩
  ·rename_i e;rw[if_neg e] at h3;split at h1
   ·cases h1;cases h2
   ·exact .inl ⟨d,od,ld,h1,h2,h3,h4,h5⟩
theorem Ext.drew {ι':aQ} {H':bL} {n':Nat} {w1 w':World} (h:Ext ι H n w1 ι' H' n' w') (hh:w1.heap=w.heap) (ht:w1.tape=w.tape) (ho:w1.os=w.os) (hu:w1.output=w.output∧w.drawn≤w1.drawn) :
  Ext ι H n w ι' H' n' w' :=
 ⟨h.le,h.new,h.AP,h.os.trans ho,h.tape.trans ht,h.output.trans hu.1,hh ▸ h.size,fun c hc hn=>(h.aD c (hh ▸ hc) hn).trans (by rw[hh]),fun c hc=>(h.own c hc).imp id (fun k=>hh ▸ k),Nat.le_trans hu.2 h.drawn⟩
end
theorem RS.kill (hR:RS P ι s w) (b:Nat):RS P ι (s.kill b) w∧ES ι s w ι (s.kill b) w:=by
 have hlook:(s.kill b).look=fU s.look b .dead:=qd s b _;have hsub:∀ c o,fU s.look b .dead c=some o→o.cX=false→s.look c=some o:=by
  intro c o hc hd;unfold fU at hc;split at hc
  ·cases hc;cases hd
  ·exact hc
 unfold RS ES;rw[hlook];refine⟨R.gx hR hsub,⟨aQ.le_refl _,fun _ h _=>h,Nat.le_refl _,rfl,rfl,rfl,Nat.le_refl _,fun _ _ _=>rfl,?_,Nat.le_refl _⟩⟩;rintro c ⟨d,od,ld,h1,h2,h3⟩;exact .inl ⟨d,od,ld,hsub d od h1 h2,h2,h3⟩
theorem Mr {c:PT Value} {z:List Value} {m:Nat}:∀ (k i:Nat),i+k≤m→∃ l,qT c z m i k=some l∧l.length=k∧∀ j,j<k→l[j]?=cellAt c z m (i+j)
 | 0,i,_=>⟨[],rfl,rfl,fun j hj=>by omega⟩
 | k+1,i,h=>by
  obtain⟨l,h1,h2,h3⟩:=Mr (c:=c) (z:=z) (m:=m) k (i+1) (by omega);obtain⟨v,hv⟩:∃ v,cellAt c z m i=some v:=by
   unfold cellAt;rw[if_pos (by omega)];exact⟨_,rfl⟩
  refine⟨v::l,by simp[qT,hv,h1],by simp[h2],?_⟩;intro j hj;cases j with
  | zero=>simp[hv]
  | succ j=>rw[List.getElem?_cons_succ,h3 j (by omega)];congr 1;omega
theorem w_ {c:PT Value} {z:List Value} {m:Nat} {a:Addr} {k:Nat} {new:List Value} {c':PT Value} {z':List Value} (h:KX c z m a k new=some (c',z')) :
  ∃ dE,dE.length=k∧(k=0∨(a.spot=none∧qT c z m a.off k=some dE))∧∀ i,i<k+new.length→cellAt c' z' (k+new.length) i=(dE++new)[i]?:=by
 unfold KX at h;split at h
 ·rename_i hk;subst hk;simp only[Option.some.injEq,Prod.mk.injEq] at h;obtain⟨rfl,rfl⟩:=h;refine⟨[],rfl,.inl rfl,?_⟩;intro i hi;unfold cellAt;rw[if_pos hi,PT.sP];have:new[i]?=some new[i]:=List.getElem?_eq_getElem (by omega);simp[this]
 ·rename_i hk;split at h
  ·cases h
  ·rename_i hsp;split at h
   ·rename_i h0;split at h
    ·rename_i hkm;simp only[Option.some.injEq,Prod.mk.injEq] at h;obtain⟨rfl,rfl⟩:=h;obtain⟨dE,h1,h2,h3⟩:=Mr (c:=c) (z:=z) (m:=m) k 0 (by omega);refine⟨dE,h2,.inr ⟨hsp,by rw[h0];exact h1⟩,?_⟩;intro i hi;by_cases hik:i<k
     ·rw[List.getElem?_append_left (by omega),h3 i hik];unfold cellAt;rw[if_pos hi,if_pos (by omega),PT.GN,if_neg (by omega)];simp
     ·rw[List.getElem?_append_right (by omega),h2];unfold cellAt;rw[if_pos hi,PT.GN,if_pos (by omega)];have:new[i-k]?=some new[i-k]:=List.getElem?_eq_getElem (by omega);simp[this]
    ·cases h
   ·split at h
    ·rename_i dE ho;simp only[Option.some.injEq,Prod.mk.injEq] at h;obtain⟨rfl,rfl⟩:=h;have hlen:dE.length=k:=by
      have:∀ (k i:Nat) (l:List Value),qT c z m i k=some l→l.length=k:=by
       intro k
       induction k with
       | zero=>intro i l h;simp[qT] at h;subst h;rfl
       | succ k ih =>
        intro i l h;simp only[qT] at h;split at h
        ·split at h
         ·rename_i hr;simp only[Option.some.injEq] at h;subst h;simp[ih _ _ hr]
         ·cases h
        ·cases h
      exact this _ _ _ ho
     refine⟨dE,hlen,.inr ⟨hsp,ho⟩,?_⟩;intro i hi;unfold cellAt;rw[if_pos hi,PT.sP];obtain⟨y,hy⟩:∃ y,(dE++new)[i]?=some y:=⟨_,List.getElem?_eq_getElem (by simp;omega)⟩;rw[hy]
    ·cases h
theorem Lh {X:Env} {l l':List Value} (hl:bT ι l l') {loc:Loc} {c:PT Value} {z:List Value} {e e':TypeId} {room:Bool} {bB m:Nat} (hm:m=l.length) (hc:∀ i,i<m→cellAt c z m i=l[i]?)
  {arr:Array Value} (hb:w.heap[loc.aT]?=some (.cells arr e' (0,0))) (harr:∀ i,i<m→arr[loc.off+i]?=l'[i]?) (hro:loc.ro=false) (hroom:room=false→loc.extra=0)
  (hsz:∀ ei,X.ty e=some ei→loc.off+m+loc.extra*ei.size≤arr.size) (hsz':loc.off+m≤arr.size):jM X ι w loc (.cells c z m e room false bB):=by
 refine⟨arr,e',(0,0),hb,fun _=>rfl,hro,hroom,hsz,hsz',?_⟩;intro i hi;have hg:l[i]?=some l[i]:=List.getElem?_eq_getElem (by omega);obtain⟨u,h1,h2⟩:=hl.GM i hg;exact⟨l[i],u,by rw[hc i hi,hg],by rw[harr i hi,h1],h2⟩
theorem Db (hR:RS P ι s w) {w1:World} (hh:w1.heap=w.heap) (ht:w1.tape=w.tape) (ho:w1.os=w.os) (hu:w1.output=w.output∧w.drawn≤w1.drawn) {e:TypeId} {ei:Ty} {z:Value}
  (he:(env P).ty e=some ei) (hzs:z.cells.size=ei.size) {L:List Value} {U:Array Value} (hL:bT ι L U.toList) {need newCap:Nat} (hlen:L.length=need*ei.size) (hcap:need≤newCap)
  {c:PT Value} {zz:List Value} (hc:∀ i,i<need*ei.size→cellAt c zz (need*ei.size) i=L[i]?) :
  ∃ ι' w',w'=w1.alloc (.cells (U++Builtin.zeroCells z.cells (newCap-need)) e (0,0))∧VR ι' (.slice (some ⟨s.next,0,none⟩) need need) (.slice (some ⟨w1.heap.size,0,none⟩) need newCap) ∧
   RS P ι' (s.new fun v=>.cells c zz (need*ei.size) e true false v) w'∧ES ι s w ι' (s.new fun v=>.cells c zz (need*ei.size) e true false v) w':=by
 have hR1:RS P ι s w1:=R.drew hR hh;have hfree:ι s.next=none:=hR.fresh _ (Nat.le_refl _) hR.kT;have hUl:U.size=need*ei.size:=by rw[← hlen];exact(by simpa using hL.length.symm)
 have hsz:(U++Builtin.zeroCells z.cells (newCap-need)).size=need*ei.size+(newCap-need)*ei.size:=by
  simp[Builtin.zeroCells,hUl,hzs]
 have hobj:jM (env P) (ι.add s.next ⟨w1.heap.size,0,newCap-need,false⟩) (w1.alloc (.cells (U++Builtin.zeroCells z.cells (newCap-need)) e (0,0))) ⟨w1.heap.size,0,newCap-need,false⟩
   ((fun v=>bW.cells c zz (need*ei.size) e true false v) s.aR):=by
  refine Lh (bT.mono (aQ.uQ hfree) hL) hlen.symm hc (e':=e) heap_alloc_new ?_ rfl (fun h=>by cases h) ?_ ?_
  ·intro i hi;simp only[Nat.zero_add];rw[Array.getElem?_append_left (by omega)];simp
  ·intro ei' hei';rw[he] at hei';cases hei';simp only[Nat.zero_add];omega
  ·simp only[Nat.zero_add];omega
 obtain⟨g1,g2⟩:=RS.new hR1 _ hobj;refine⟨_,_,rfl,?_,g1,Ext.drew g2 hh ht ho hu⟩;have:=VR.slice (ι:=ι.add s.next ⟨w1.heap.size,0,newCap-need,false⟩) (o:=0) need need (aQ.add_same ι s.next _);simpa [show need+(newCap-need)=newCap from by omega] using this
theorem Vl (hR:RS P ι s w) {argTypes:Array TypeId} {ty t t2 e:TypeId} {args:Array Value} {base base':Option Addr} {sLen sCap sCap' n:Nat} {x:Value} {i i2 ei:Ty} {z:Value}
  (hat:argTypes.toList=[t,t2]) (harg:args.toList=[.slice base' sLen sCap',x]) (ht:(env P).ty t=some i) (hd:i.desc=.slice e) (ht2:(env P).ty t2=some i2)
  (hni:tn i2.desc=true) (he:(env P).ty e=some ei) (hz:ei.zero=some z) (hzs:z.cells.size=ei.size) (hlen:∀ w1:World,(Builtin.lenOf x).run P w1=.ok n w1)
  (hs:VR ι (.slice base sLen sCap) (.slice base' sLen sCap')) {new:List Value} {newU:Array Value} (hnew:bT ι new newU.toList)
  (hfirst:∀ w1:World,w1.heap=w.heap→(Builtin.firstCells ei.size n x).run P w1=.ok newU w1) (hnl:new.length=n*ei.size) (h40:sLen+n<2 ^ 40)
  (hb47:(2*(sLen+n)+1000)*ei.bytes≤2 ^ 47) (hone:new.all hZ=true) {v:Value} (h:sI s e ei.size base sLen sCap n new=some (v,s')) :
  JQ P ι s w (Builtin.append_ argTypes ty args) v s':=by
 obtain⟨hfit,hgrow⟩:=Vm (w:=w) (ty:=ty) hat harg ht hd ht2 hni he hz (hlen w) (hfirst w rfl);unfold sI at h;split at h
 ·
  rename_i hle;split at h
  ·rename_i a;split at h
   ·rename_i hemp;simp only[Option.some.injEq,Prod.mk.injEq] at h;obtain⟨rfl,rfl⟩:=h;have mY:new=[]:=by simpa using hemp
    subst mY;have hUnil:newU.toList=[]:=hnew.Kr;generalize hb':Value.slice base' sLen sCap'=u at hs;cases hs with
    | slice _ _ hl =>
     cases hb';refine⟨_,ι,w,?_,.slice _ _ hl,hR,Ext.refl⟩;rw[hfit (by omega),hUnil];rfl
    | tX hl =>
     cases hb';have hn0:n=0:=by omega
     subst hn0;refine⟨_,ι,w,?_,.tX hl,hR,Ext.refl⟩;rw[hfit (by omega),hUnil];rfl
   ·rename_i hemp;split at h
    ·rename_i s1 hst;simp only[Option.some.injEq,Prod.mk.injEq] at h;obtain⟨rfl,rfl⟩:=h;generalize hb':Value.slice base' sLen sCap'=u at hs;cases hs with
     | slice _ _ hl =>
      cases hb';rw[Addr.rH] at hst;obtain⟨w',g1,g2,g3⟩:=SH hR hl hnew hst;refine⟨_,ι,w',?_,.slice _ _ hl,g2,g3⟩;rw[hfit (by omega)];simp only[Addr.rH];rw[Nat.add_assoc,g1];rfl
     | tX hl =>
      have hn0:n=0:=by omega
      subst hn0;have:new=[]:=List.eq_nil_of_length_eq_zero (by simpa using hnl);subst this;exact absurd rfl hemp
    ·cases h
  ·split at h
   ·rename_i hn0;subst hn0;simp only[Option.some.injEq,Prod.mk.injEq] at h;obtain⟨rfl,rfl⟩:=h;cases hs;refine⟨_,ι,w,?_,.AO _ _,hR,Ext.refl⟩;rw[hfit hle];rfl
   ·cases h
 ·
  rename_i hle;split at h
  ·split at h
   ·rename_i hs0;subst hs0;simp only[Option.some.injEq,Prod.mk.injEq] at h;obtain⟨rfl,rfl⟩:=h;cases hs;obtain⟨newCap,w1,k1,k2,k3,k4,k5,k6⟩:=hgrow hle h40 hb47;have hrun:=k6 #[] newU rfl (hfirst w1 k1);obtain⟨ι',w',q1,q2,q3,q4⟩:=Db hR k1 k2 k3 k4 he hzs hnew (need:=0+n) (by simpa using hnl) k5 (c:=PT.ofList new) (zz:=[]) (by
     intro i hi;unfold cellAt;rw[if_pos hi,PT.sP];obtain⟨y,hy⟩:∃ y,new[i]?=some y:=⟨_,List.getElem?_eq_getElem (by rw[hnl];simpa using hi)⟩;rw[hy])
    refine⟨_,ι',w',?_,q2,q3,q4⟩;rw[hrun,q1];simp
   ·cases h
  ·rename_i a;split at h
   ·rename_i c zz m e0 room bB hH;split at h
    ·rename_i hcond;obtain⟨he0,hin⟩:=hcond;have he0':=he0.symm;subst he0';split at h
     ·rename_i c' z' hg;simp only[Option.some.injEq,Prod.mk.injEq] at h;obtain⟨rfl,rfl⟩:=h;obtain⟨dE,g1,g2,g3⟩:=w_ hg;obtain⟨l,arr,e',fz,p1,p2,p3,p4,p5,p6,p7,p8⟩:=BK hR (show s.look a.block=_ from hH);rw[p3 rfl] at p2;have p6':=p6 ei he;obtain⟨off',hbase,hcap',hF1,hF2⟩:∃ off',base'=some ⟨l.aT,off',none⟩∧sCap'=sCap+l.extra∧(sLen*ei.size≠0→a.spot=none∧off'=l.off+a.off) ∧
        (sLen+n≤sCap'→off'+(sCap+l.extra)*ei.size≤arr.size):=by
       generalize hb':Value.slice base' sLen sCap'=u at hs;cases hs with
       | slice _ _ hl =>
        cases hb';simp only at p1;rw[hl] at p1;cases p1;simp only[inBlock,decide_eq_true_eq] at hin;refine⟨_,rfl,rfl,fun _=>⟨rfl,rfl⟩,fun _=>?_⟩;rw[Nat.add_mul];omega
       | tX hl =>
        cases hb';simp only at p1;rw[hl] at p1;cases p1;simp only[inBlock,decide_eq_true_eq] at hin;refine⟨_,rfl,by omega,fun h0=>by simp at h0,fun hf=>?_⟩;rw[if_neg (by omega)];simp only[Nat.zero_add];omega
      subst hbase;subst hcap';obtain⟨oldU,hold,holdrun,holdarr⟩:∃ oldU:Array Value,bT ι dE oldU.toList ∧
        (∀ w1:World,w1.heap=w.heap→(Builtin.firstCells ei.size sLen (.slice (some ⟨l.aT,off',none⟩) sLen (sCap+l.extra))).run P w1=.ok oldU w1) ∧
        ∀ i,i<sLen*ei.size→arr[off'+i]?=oldU.toList[i]?:=by
       by_cases h0:sLen*ei.size=0
       ·have:dE=[]:=List.eq_nil_of_length_eq_zero (by omega);subst this;exact⟨#[],.nil,fun w1 _=>by simp[Builtin.firstCells,h0,loadCells,loadCellsFrom],fun i hi=>by omega⟩
       ·obtain⟨hsp,hoff⟩:=hF1 h0;subst hoff;rcases g2 with g2 | ⟨_,g2⟩
        ·exact absurd g2 h0
        ·obtain⟨r1,r2,r3⟩:=ZU p8 _ _ _ g2;refine⟨((arr.toList.drop (l.off+a.off)).take (sLen*ei.size)).toArray,by simpa using r3,?_,?_⟩
         ·intro w1 hw1;have:=run_loadCells (P:=P) (w:=w1) (k:=sLen*ei.size) (o:=l.off+a.off) (by rw[hw1];exact p2) (by omega);simpa [Builtin.firstCells] using this
         ·intro i hi;simp[hi,List.getElem?_drop]
      have hLU:bT ι (dE++new) (oldU++newU).toList:=by simpa using hold.append hnew
      have hLlen:(dE++new).length=(sLen+n)*ei.size:=by rw[List.length_append,g1,hnl,Nat.add_mul]
      have hcells:∀ i,i<(sLen+n)*ei.size→cellAt c' z' ((sLen+n)*ei.size) i=(dE++new)[i]?:=by
       intro i hi;have:=g3 i (by rw[hnl,← Nat.add_mul];exact hi);rw[hnl,← Nat.add_mul] at this;exact this
      by_cases hfc:sLen+n≤sCap+l.extra
      ·
       have hroom:room=true:=by
        cases room with
        | true=>rfl
        | false=>have:=p5 rfl;omega
       subst hroom;have hb2:=hF2 hfc;have hnlU:newU.toList.length=n*ei.size:=by rw[← hnew.length];exact hnl
       have hneed:(sLen+n)*ei.size≤(sCap+l.extra)*ei.size:=Nat.mul_le_mul_right _ hfc;have hmul:(sLen+n)*ei.size=sLen*ei.size+n*ei.size:=Nat.add_mul _ _ _;have hst:=ar (P:=P) newU.toList w l.aT (off'+sLen*ei.size) 0 arr e' p2 (by rw[← hnew.hZ];exact hone) (by omega);have hsub:(sCap+l.extra-(sLen+n))*ei.size+(sLen+n)*ei.size=(sCap+l.extra)*ei.size:=by rw[← Nat.add_mul];congr 1;omega
       have hfree:ι s.next=none:=hR.fresh _ (Nat.le_refl _) hR.kT;have hobj:jM (env P) (ι.add s.next ⟨l.aT,off',sCap+l.extra-(sLen+n),false⟩) (World.gO w l.aT (.cells (tH arr (off'+sLen*ei.size+0) newU.toList) e' (0,0)))
         ⟨l.aT,off',sCap+l.extra-(sLen+n),false⟩ (.cells c' z' ((sLen+n)*ei.size) e true false (s.aR+1)):=by
        refine Lh (bT.mono (aQ.uQ hfree) hLU) hLlen.symm hcells (e':=e') (zV (jJ p2)) ?_ rfl (fun h=>by cases h) ?_ ?_
        ·intro i hi;have hol:oldU.toList.length=sLen*ei.size:=by rw[← hold.length];exact g1
         simp only;rw[VM _ _ _ _ (by omega)];by_cases hi2:i<sLen*ei.size
         ·rw[if_neg (by omega),holdarr i hi2,Array.toList_append,List.getElem?_append_left (by omega)]
         ·rw[if_pos (by omega),Array.toList_append,List.getElem?_append_right (by omega),hol,show off'+i-(off'+sLen*ei.size+0)=i-sLen*ei.size from by omega];obtain⟨y,hy⟩:∃ y,newU.toList[i-sLen*ei.size]?=some y:=⟨_,List.getElem?_eq_getElem (by omega)⟩;rw[hy]
        ·intro ei' hei';rw[he] at hei';cases hei';simp only[tg];omega
        ·simp only[tg];omega
       have k1:=R.iw (H:=s.look) hR (show s.look a.block=_ from hH) rfl p1 p4 _ off' (sCap+l.extra-(sLen+n)) hobj;have k2:=Ext.iw (H:=s.look) (w:=w) hR.kT hfree (show s.look a.block=_ from hH) rfl p1 p4 (.cells (tH arr (off'+sLen*ei.size+0) newU.toList) e' (0,0)) off' (sCap+l.extra-(sLen+n))
        (.cells c' z' ((sLen+n)*ei.size) e true false (s.aR+1))
       have hlook:((s.kill a.block).new fun v=>bW.cells c' z' ((sLen+n)*ei.size) e true false v).look =
         fU (fU s.look a.block .dead) s.next (.cells c' z' ((sLen+n)*ei.size) e true false (s.aR+1)):=by
        rw[YD];show fU (s.kill a.block).look s.next _=_;rw[show (s.kill a.block).look=fU s.look a.block .dead from qd s _ _];rfl
       refine⟨.slice (some ⟨l.aT,off',none⟩) (sLen+n) (sCap+l.extra),ι.add s.next ⟨l.aT,off',sCap+l.extra-(sLen+n),false⟩,World.gO w l.aT (.cells (tH arr (off'+sLen*ei.size+0) newU.toList) e' (0,0)),?_,?_,?_,?_⟩
       ·rw[hfit hfc];simp only[Addr.rH];rw[hst];rfl
       ·have:=VR.slice (ι:=ι.add s.next ⟨l.aT,off',sCap+l.extra-(sLen+n),false⟩) (o:=0) (sLen+n) (sLen+n) (aQ.add_same ι s.next _);simpa [show sLen+n+(sCap+l.extra-(sLen+n))=sCap+l.extra from by omega] using this
       ·unfold RS;simp only[if_true];rw[hlook];exact k1
       ·unfold ES;simp only[if_true];rw[hlook];exact k2
      ·
       obtain⟨newCap,w1,k1,k2,k3,k4,k5,k6⟩:=hgrow hfc h40 hb47;have hrun:=k6 oldU newU (holdrun w1 k1) (hfirst w1 k1);have hs1:∃ s1:St,s1=(if room then s.kill a.block else s)∧s1.next=s.next∧RS P ι s1 w∧ES ι s w ι s1 w:=by
        cases room with
        | true=>exact⟨_,rfl,rfl,(hR.kill a.block).1,(hR.kill a.block).2⟩
        | false=>exact⟨_,rfl,rfl,hR,Ext.refl⟩
       obtain⟨s1,hs1,hn1,hR1,hE1⟩:=hs1;rw[← hs1];obtain⟨ι',w',q1,q2,q3,q4⟩:=Db hR1 k1 k2 k3 k4 he hzs hLU hLlen k5 hcells;rw[hn1] at q2;refine⟨_,ι',w',?_,q2,q3,Ext.trans hE1 q4⟩;rw[hrun,q1]
     ·cases h
    ·cases h
   ·cases h
end Go.Dust
