/- The plain interpreter D and its laws (Df Dg Dh). -/
import Derived.Test.YtaoiejcaopgjcaaGreatB
import Derived.Laws.Tables
import Derived.IntWalk
set_option linter.unusedVariables false
set_option linter.unusedSimpArgs false
namespace Go.Dust
variable {P:Program} {ι:aP} {H:bG} {n:Nat} {w:World}
inductive FB (ι:aP):List (Nat×Value)→List (Nat×Value)→Prop
 | nil:FB ι [] []
 | cons {i:Nat} {v u:Value} {l l':List (Nat×Value)} (h:VR ι v u) (t:FB ι l l'):FB ι ((i,v)::l) ((i,u)::l')
theorem bQ.aGx {cs ds:Array Value} (h:bQ ι cs.toList ds.toList) {v u:Value} (hv:VR ι v u) (i:Nat):bQ ι (cs.setIfInBounds i v).toList (ds.setIfInBounds i u).toList:=by
 refine .ml (by simpa using h.length) ?_;intro j x y hx hy;have hsz:=h.size;simp only[Array.toList_setIfInBounds,List.getElem?_set] at hx hy;by_cases hij:i=j
 ·subst hij;simp only[if_true] at hx hy;split at hx
  ·simp only[Option.some.injEq] at hx;subst hx;split at hy
   ·simp only[Option.some.injEq] at hy;subst hy;exact hv
   ·cases hy
  ·cases hx
 ·simp only[hij,if_false] at hx hy;exact h.get j hx hy
theorem Bj:∀ (vs us:List Value) (k off:Nat) (cs ds:Array Value),bQ ι vs us→bQ ι cs.toList ds.toList →
  bQ ι ((vs.zipIdx k).foldl (fun cs (x:Value×Nat)=>cs.setIfInBounds (off+x.2) x.1) cs).toList ((us.zipIdx k).foldl (fun cs (x:Value×Nat)=>cs.setIfInBounds (off+x.2) x.1) ds).toList
 | _,_,_,_,_,_,.nil,h=>by simpa using h
 | v::vs,u::us,k,off,cs,ds,.cons hv t,h=>by
  simp only[List.zipIdx_cons,List.foldl_cons];exact Bj vs us (k+1) off _ _ t (h.aGx hv _)
theorem TU {place:Nat→Option (Nat×Nat)}:∀ {parts parts':List (Nat×Value)} (_:FB ι parts parts') {cs ds:Array Value} (_:bQ ι cs.toList ds.toList) {r:Array Value},
  Instr.fill place cs parts=some r→∃ r',Instr.fill place ds parts'=some r'∧bQ ι r.toList r'.toList
 | _,_,.nil,cs,ds,h,r,hr=>by
  simp only[Instr.fill,Option.some.injEq] at hr;subst hr;exact⟨ds,rfl,h⟩
 | _,_,.cons (i:=i) (v:=v) (u:=u) hv t,cs,ds,h,r,hr=>by
  simp only[Instr.fill] at hr ⊢;split at hr
  ·cases hr
  ·rename_i off size hp;split at hr
   ·cases hr
   ·rename_i hc;have hvc:=hv.cells;have hsz:v.cells.size=u.cells.size:=hvc.size;have hcs:cs.size=ds.size:=h.size;rw[← hsz,← hcs,if_neg hc];refine TU t ?_ hr;rw[← Array.foldl_toList,← Array.foldl_toList];simpa using Bj _ _ 0 off cs ds hvc h
theorem Ma:∀ (fs:List Field),fs.all (fun f=>((env P).ty f.type).isSome)=true →
  (fs.mapM fun f=>Prod.mk f.offset <$> sizeOf f.type).run P w=.ok (fs.map fun f=>(f.offset,match (env P).ty f.type with | some ti=>ti.size | none=>0)) w
 | [],_=>by simp
 | f::fs,h=>by
  simp only[List.all_cons,Bool.and_eq_true] at h;obtain⟨ti,hti⟩:=Option.isSome_iff_exists.1 h.1;simp[List.mapM_cons,pE hti,Ma fs h.2,hti]
theorem Tx {t:TypeId} {parts parts':List (Nat×Value)} (hp:FB ι parts parts') {v:Value} (h:iU (env P) t parts=some v) (pa:Array (Nat×Value)) (hpa:pa.toList=parts') :
  jL P ι w (Instr.build t pa) v:=by
 unfold jL;unfold iU at h;split at h
 ·rename_i fields sz by_ z ag me cm ht;split at h
  ·rename_i hall;split at h
   ·rename_i cs hf;simp only[Option.some.injEq] at h;subst h;have hz:VR ι z z:=.closed (EW ht rfl);obtain⟨r',g1,g2⟩:=TU hp hz.cells hf;refine⟨.agg r',?_,.MJ g2⟩;have hpl:=Ma (P:=P) (w:=w) fields.toList hall;have g1':Instr.fill (fun x=>(fields.map fun f=>(f.offset,match (env P).ty f.type with | some ti=>ti.size | none=>0))[x]?) z.cells pa.toList=some r':=by rw[hpa];exact g1
    simp only[Instr.build,Sem.run_bind,zR ht rfl,eH ht,Result.andThen_ok];have hm:((fields.mapM fun f=>do pure (f.offset,← sizeOf f.type)):Sem (Array (Nat×Nat))).run P w=.ok (fields.map fun f=>(f.offset,match (env P).ty f.type with | some ti=>ti.size | none=>0)) w:=by
     rw[Array.mapM_eq_mapM_toList];have:(fun(f:Field)=>(do pure (f.offset,← sizeOf f.type):Sem (Nat×Nat)))=fun f=>Prod.mk f.offset <$> sizeOf f.type:=by
      funext f;rfl
     rw[this,Sem.run_map,hpl];simp only[Result.andThen_ok];congr 1;apply Array.toList_inj.1;simp
    rw[hm];simp only[Result.andThen_ok,g1'];rfl
   ·cases h
  ·cases h
 ·rename_i len e sz by_ z ag me cm ht;split at h
  ·rename_i ei he;split at h
   ·rename_i cs hf;simp only[Option.some.injEq] at h;subst h;have hz:VR ι z z:=.closed (EW ht rfl);obtain⟨r',g1,g2⟩:=TU hp hz.cells hf;refine⟨.agg r',?_,.MJ g2⟩;simp only[Instr.build,Sem.run_bind,zR ht rfl,eH ht,Result.andThen_ok,pE he,hpa,g1];rfl
   ·cases h
  ·cases h
 ·cases h
theorem Xw {s:TypeId} {x x' v:Value} {f:Nat} (hx:VR ι x x') (h:cU (env P) s x f=some v):jL P ι w (Instr.fieldAt s x' f) v:=by
 unfold jL;unfold cU at h;split at h
 ·rename_i fields sz by_ ze ag me cm a hx ht;obtain⟨ab,ao,l,rfl,hl,rfl⟩:=wV hx;split at h
  ·rename_i fd hfd hs;split at h
   ·rename_i ti hti;split at h
    ·cases h
    ·rename_i hsz;simp only[Option.some.injEq] at h;subst h;refine⟨.pointer (some ⟨l.bL,l.off+(ao+fd.offset),none⟩),?_,by rw[Addr.qF];exact .ptr hl⟩;simp only[Instr.fieldAt,Sem.run_bind,eH ht,Result.andThen_ok,hfd,Instr.sureAddr,Sem.run_pure,fieldPlace,pE hti,hsz,if_false,Addr.qF,Nat.add_assoc]
   ·cases h
  ·cases h
 ·cases h
theorem aB1 {t:TypeId} {x x' i i' v:Value} (hx:VR ι x x') (hi:VR ι i i') (h:kM (env P) t x i=some v):jL P ι w (Instr.indexAt t x' i') v:=by
 unfold jL;unfold kM at h;split at h
 ·rename_i e sz by_ ze ag me cm a len cap k m ht;rw[hi.int_eq];obtain⟨ab,ao,aKe⟩:=a;split at h
  ·rename_i ei he hs;cases (show aKe=none from hs);obtain⟨l,hl,rfl⟩:=Oa hx;split at h
   ·rename_i hb;simp only[Option.some.injEq] at h;subst h;refine⟨.pointer (some ⟨l.bL,l.off+(ao+m.toNat*ei.size),none⟩),?_,by rw[Addr.qF];exact .ptr hl⟩;simp only[Instr.indexAt,asIntOf,Sem.run_bind,Sem.run_pure,eH ht,Result.andThen_ok,pE he,hb,and_self,if_true,Addr.qF,Nat.add_assoc]
   ·cases h
  ·cases h
 ·rename_i len e sz by_ ze ag me cm a k m ht;rw[hi.int_eq];obtain⟨ab,ao,aKe⟩:=a;split at h
  ·rename_i ei he hs;cases (show aKe=none from hs);obtain⟨_,_,l,e1,hl,rfl⟩:=wV hx;cases e1;split at h
   ·rename_i hb;simp only[Option.some.injEq] at h;subst h;refine⟨.pointer (some ⟨l.bL,l.off+(ao+m.toNat*ei.size),none⟩),?_,by rw[Addr.qF];exact .ptr hl⟩;simp only[Instr.indexAt,asIntOf,Instr.sureAddr,Sem.run_bind,Sem.run_pure,eH ht,Result.andThen_ok,pE he,hb,and_self,if_true,Addr.qF,Nat.add_assoc]
   ·cases h
  ·cases h
 ·cases h
theorem aB2 {t:TypeId} {x x' i i' v:Value} (hx:VR ι x x') (hi:VR ι i i') (h:AT (env P) t x i=some v):jL P ι w (Instr.index t x' i') v:=by
 unfold jL;unfold AT at h;split at h
 ·rename_i sz by_ ze ag me cm s k m hx hi ht;rw[hi.int_eq,hx.sT];split at h
  ·rename_i h0;split at h
   ·rename_i b hb;simp only[Option.some.injEq] at h;subst h;refine⟨_,?_,.int _ _⟩;simp only[Instr.index,asIntOf,Sem.run_bind,Sem.run_pure,eH ht,Result.andThen_ok,h0,if_true,hb]
   ·cases h
  ·cases h
 ·rename_i len e sz by_ ze ag me cm cs k m hx hi ht;rw[hi.int_eq];obtain⟨cs',rfl,hcs⟩:=hx.MK;split at h
  ·rename_i ei he;split at h
   ·rename_i hb;obtain⟨u,g1,g2⟩:=PK (P:=P) (w:=w) hcs h;refine⟨u,?_,g2⟩;simp only[Instr.index,asIntOf,Sem.run_bind,Sem.run_pure,eH ht,Result.andThen_ok,hb,and_self,if_true,pE he,g1]
   ·cases h
  ·cases h
 ·cases h
theorem Xx {t:TypeId} {x x' v:Value} {f:Nat} (hx:VR ι x x') (h:CV (env P) t x f=some v):jL P ι w (Instr.field t x' f) v:=by
 unfold jL;unfold CV at h;split at h
 ·rename_i fields sz by_ ze ag me cm cs hx ht;obtain⟨cs',rfl,hcs⟩:=hx.MK;split at h
  ·rename_i fd hfd;obtain⟨u,g1,g2⟩:=PK (P:=P) (w:=w) hcs h;refine⟨u,?_,g2⟩;simp only[Instr.field,asAgg,Sem.run_bind,Sem.run_pure,eH ht,Result.andThen_ok,hfd,g1]
  ·cases h
 ·cases h
theorem aCr {want:Array (String×TypeId)} {got:Array Method} (h:NL want got=true):Instr.missingMethod want got=none:=by
 unfold Instr.missingMethod;have mQ:(want.toList.filter fun(name,sig)=>!got.any fun m=>m.name==name&&m.sig==sig)=[]:=by
  rw[List.filter_eq_nil_iff];intro x hx;have:=List.all_eq_true.1 h x hx;simp at this ⊢;exact this
 simp[mQ,Instr.least]
theorem aBr (p:String→Bool) (f:String→String):∀ (l:List String),l≠[]→(Instr.least (l.partition p).2 <|> Instr.least ((l.partition p).1.map f))≠none
 | [],h=>absurd rfl h
 | x::l,_=>by
  rw[List.partition_eq_filter_filter];simp only[List.filter_cons];cases hc:p x <;> simp[hc,Instr.least]
theorem aCs {want:Array (String×TypeId)} {got:Array Method} (h:NL want got=false):∃ m,Instr.missingMethod want got=some m:=by
 have hne:(want.toList.filter fun(name,sig)=>!got.any fun m=>m.name==name&&m.sig==sig)≠[]:=by
  intro mQ;rw[List.filter_eq_nil_iff] at mQ;have:NL want got=true:=by
   unfold NL;rw[List.all_eq_true];intro x hx;have:=mQ x hx;simp at this ⊢;exact this
  rw[this] at h;cases h
 cases hm:Instr.missingMethod want got with
 | some m=>exact⟨m,rfl⟩
 | none =>
  unfold Instr.missingMethod at hm;exact(aBr _ _ ((want.toList.filter fun(name,sig)=>!got.any fun m=>m.name==name&&m.sig==sig).map (·.1)) (by simpa using hne) hm).elim
theorem aIg {x x' v:Value} {xt t:TypeId} {ok:Bool} (hx:VR ι x x') (h:EN (env P) x t ok=some v):jL P ι w (Instr.typeAssert x' xt t ok) v:=by
 unfold jL;unfold EN at h;split at h
 ·rename_i want sz by_ z ag me cm dt dv hx ht;cases hx with
  | iface _ hv =>
  rename_i dv';split at h
  ·rename_i di hdi;obtain⟨inf,e1,_,e3⟩:=PS (w:=w) hdi;split at h
   ·rename_i hm;rw[e3.symm] at hm;have hmm:=aCr hm;simp only[Instr.typeAssert,Sem.run_bind,eH ht,Result.andThen_ok,e1,hmm,Sem.run_pure];simp only[Option.some.injEq] at h;subst h;cases ok
    ·exact⟨_,rfl,.iface _ hv⟩
    ·exact⟨_,rfl,KS (.iface _ hv) _⟩
   ·rename_i hm;rw[e3.symm] at hm;obtain⟨m,hmm⟩:=aCs (by simpa using hm);split at h
    ·rename_i hok;subst hok;simp only[Option.some.injEq] at h;subst h;simp only[Instr.typeAssert,Sem.run_bind,eH ht,Result.andThen_ok,e1,hmm,if_true,zR ht rfl,Sem.run_pure];exact⟨_,rfl,KS (.closed (EW ht rfl)) _⟩
    ·cases h
  ·cases h
 ·cases h
 ·rename_i di dt dv hn1 hn2 ht;cases hx with
  | iface _ hv =>
  rename_i dv';have hni:∀ m,di.desc≠.interface m:=by
   intro m hm;obtain⟨dd,a1,a2,a3,a4,a5,a6⟩:=di;simp only at hm;subst hm;exact hn2 _ _ _ _ _ _ _ rfl
  split at h
  ·rename_i hdt;subst hdt;simp only[Option.some.injEq] at h;subst h;have hrun:(Instr.typeAssert (.iface dt dv') xt dt ok).run P w=.ok (if ok then .tuple #[dv',.bool true] else dv') w:=by
    unfold Instr.typeAssert;simp only[Sem.run_bind,eH ht,Result.andThen_ok];cases hd:di.desc with
    | interface m=>exact(hni m hd).elim
    | _=>simp
   refine⟨_,hrun,?_⟩;cases ok
   ·exact hv
   ·exact KS hv _
  ·cases h
 ·cases h
theorem Hr:∀ {l l':List Value} {v v' r:Value},VR ι v v'→bQ ι l l'→mS (fun x y=>decide (y<x)) v l=some r→jL P ι w (l'.foldlM Builtin.min2 v') r
 | [],_,v,v',r,hv,.nil,h=>by
  simp only[mS,Option.some.injEq] at h;subst h;exact⟨v',by simp,hv⟩
 | u::l,u'::l',v,v',r,hv,.cons hu t,h=>by
  unfold mS at h;split at h
  ·rename_i heq;cases heq
  ·rename_i k x k' y rest heq;cases heq;split at h
   ·rename_i hk;subst hk;rw[hv.int_eq,hu.int_eq];obtain⟨r',g1,g2⟩:=Hr (VR.int (ι:=ι) k (if decide (y<x)=true then y else x)) t h;refine⟨r',?_,g2⟩;simp only[List.foldlM_cons,Builtin.min2,Sem.run_bind,Sem.run_pure,Result.andThen_ok];simpa using g1
   ·cases h
  ·cases h
theorem Hj:∀ {l l':List Value} {v v' r:Value},VR ι v v'→bQ ι l l'→mS (fun x y=>decide (y>x)) v l=some r→jL P ι w (l'.foldlM Builtin.max2 v') r
 | [],_,v,v',r,hv,.nil,h=>by
  simp only[mS,Option.some.injEq] at h;subst h;exact⟨v',by simp,hv⟩
 | u::l,u'::l',v,v',r,hv,.cons hu t,h=>by
  unfold mS at h;split at h
  ·rename_i heq;cases heq
  ·rename_i k x k' y rest heq;cases heq;split at h
   ·rename_i hk;subst hk;rw[hv.int_eq,hu.int_eq];obtain⟨r',g1,g2⟩:=Hj (VR.int (ι:=ι) k (if decide (y>x)=true then y else x)) t h;refine⟨r',?_,g2⟩;simp only[List.foldlM_cons,Builtin.max2,Sem.run_bind,Sem.run_pure,Result.andThen_ok];simpa using g1
   ·cases h
  ·cases h
theorem aBy (hR:R (env P) ι H n w) {t:TypeId} {x x' v:Value} (hx:VR ι x x') (h:jY (env P) H t x=some v) (ts:Array TypeId) (hts:ts[0]?=some t) (rt:TypeId) :
  jL P ι w (Builtin.len_ ts rt #[x']) v:=by
 unfold jL;unfold jY at h;cases ht:(env P).ty t with
 | none=>rw[ht] at h;cases h
 | some i =>
  rw[ht] at h;simp only at h;have hun:=eH (w:=w) ht;split at h
  ·rename_i hd;rw[hx.sT];simp only[Option.some.injEq] at h;subst h;refine⟨_,?_,.int _ _⟩;simp[goInt,Builtin.len_,hts,hun,hd]
  ·rename_i hd;simp only[Option.some.injEq] at h;subst h;refine⟨_,?_,.int _ _⟩;simp[goInt,Builtin.len_,hts,hun,hd]
  ·rename_i hd;simp only[Option.some.injEq] at h;subst h;refine⟨_,?_,.int _ _⟩;cases hx <;> simp[goInt,Builtin.len_,hts,hun,hd]
  ·rename_i hd;simp only[Option.some.injEq] at h;subst h;rw[OX hx];refine⟨_,?_,.int _ _⟩;simp[goInt,Builtin.len_,hts,hun,hd]
  ·rename_i r hd;obtain⟨l,hl,rfl⟩:=GW hx;split at h
   ·rename_i es c hm;simp only[Option.some.injEq] at h;subst h;obtain⟨l',es',q1,q2,q3,q4,q5,q6⟩:=OP hR hm;rw[hl] at q1;cases q1;refine⟨_,?_,.int _ _⟩;have:=q6.length;simp[goInt,Builtin.len_,hts,hun,hd,wY q5,this]
   ·cases h
  ·cases h
theorem fB.find {b:Nat}:∀ {es es':List MapEntry} {e:MapEntry},fB ι es es'→es.find? (fun x=>x.born==b)=some e→∃ e',es'.find? (fun x=>x.born==b)=some e'∧ER ι e e'
 | _,_,_,.nil,h=>by cases h
 | x::es,x'::es',e,.cons hx t,h=>by
  simp only[List.find?_cons] at h ⊢;rw[← hx.born];cases hb:(x.born==b) with
  | true =>
   rw[hb] at h;simp only[Option.some.injEq] at h;subst h;exact⟨x',rfl,hx⟩
  | false =>
   rw[hb] at h;exact fB.find t h
theorem Wx (hR:R (env P) ι H n w) {x x' v:Value} (hx:VR ι x x') (h:tE H x=some v):jL P ι w (Instr.entry x') v:=by
 unfold jL;unfold tE at h;split at h
 ·rename_i a hx;obtain⟨ab,ao,l,rfl,hl,rfl⟩:=wV hx;split at h
  ·rename_i h0;cases (show ao=0 from h0.1);simp only at h;split at h
   ·rename_i m since last rest stepped aT hH;obtain⟨l',g1,g2,g3,g4,lm,g5,g6⟩:=hR.obj _ _ hH rfl;rw[hl] at g1;cases g1;split at h
    ·rename_i es clock hm;obtain⟨l'',es',q1,q2,q3,q4,q5,q6⟩:=OP hR hm;rw[g5] at q1;cases q1;split at h
     ·rename_i hc;subst hc;split at h
      ·rename_i e hf;simp only[Option.some.injEq] at h;subst h;obtain⟨e',r1,r2⟩:=q6.find hf;refine⟨.tuple #[e'.key,e'.val],?_,.tuple' (.cons r2.key (.cons r2.val .nil))⟩;have hg:(getObj l.bL).run P w=.ok (.mapIter (some lm.bL) since (last::rest).reverse.toArray clock) w:=by simp[getObj,Sem.run,g6]
       have hback:((last::rest).reverse.toArray).back?=some last:=by simp
       have r1':es'.find? (fun x=>x.born==last)=some e':=by simpa using r1
       have hxx:(⟨l.bL,l.off+0,none⟩:Addr)=⟨l.bL,0,none⟩:=by rw[g3]
       rw[hxx];simp only[Instr.entry,Sem.run_bind,hg,Result.andThen_ok,hback,wY q5,bne_self_eq_false,Bool.false_eq_true,if_false,Sem.run_pure,r1']
      ·cases h
     ·cases h
    ·cases h
   ·cases h
  ·cases h
 ·cases h
theorem bQ.He {ρ ρc:Operand→Value} (a:Array Operand) (h:∀ x∈a.toList,VR ι (ρ x) (ρc x)):bQ ι (a.map ρ).toList (a.map ρc).toList:=by
 simp only[Array.toList_map];exact .map₂ _ h
theorem mu {ρ ρc:Operand→Value} (o:Option Operand) (h:∀ x∈o.toArray.toList,VR ι (ρ x) (ρc x)):IH ι (o.map ρ) (o.map ρc):=by
 cases o with
 | none=>trivial
 | some x=>exact h x (by simp)
theorem Ov (hR:R (env P) ι H n w) {ρ ρc:Operand→Value} {o:Oper} (hρ:∀ x∈o.op.operands.toList,VR ι (ρ x) (ρc x)) {v:Value} (h:dU (env P) H ρ o.op=some v) :
  ∃ v',(execOp ρc o).run P w=.ok (.value v') w∧VR ι v v':=by
 have lift:∀ (s:Sem Value),jL P ι w s v→∃ v',(do pure (.value (← s)):Sem Next).run P w=.ok (.value v') w∧VR ι v v':=by
  rintro s ⟨v',h1,h2⟩;exact⟨v',by simp[h1],h2⟩
 unfold execOp;cases hop:o.op <;> rw[hop] at h hρ <;> simp only[dU] at h <;> simp only[Op.operands] at hρ
 case move x =>
  simp only[Option.some.injEq] at h;subst h;exact⟨_,rfl,hρ x (by simp)⟩
 case assign x =>
  simp only[Option.some.injEq] at h;subst h;exact⟨_,rfl,hρ x (by simp)⟩
 case pick c a b =>
  have hc:=hρ c (by simp);split at h
  ·rename_i t hcv;rw[hcv] at hc;simp only[Option.some.injEq] at h;subst h;refine⟨if t then ρc a else ρc b,by simp[hc.tD,asBool],?_⟩;cases t
   ·exact hρ b (by simp)
   ·exact hρ a (by simp)
  ·cases h
 case build t parts =>
  refine lift _ ?_;refine Tx ?_ h _ rfl;have:∀ (l:List (Nat×Operand)),(∀ x∈l,VR ι (ρ x.2) (ρc x.2))→FB ι (l.map fun(i,x)=>(i,ρ x)) (l.map fun(i,x)=>(i,ρc x)):=by
   intro l
   induction l with
   | nil=>intro _;exact .nil
   | cons y l ih=>intro hl;exact .cons (hl y (by simp)) (ih fun z hz=>hl z (by simp[hz]))
  rw[Array.toList_map];exact this _ fun x hx=>hρ _ (by simp;exact⟨x.1,by simpa using hx⟩)
 case load t a =>
  split at h
  ·rename_i ad ha;have hv:=hρ a (by simp);rw[ha] at hv;obtain⟨b,o',l,rfl,hl,he⟩:=wV hv;refine lift _ ?_;rw[he];obtain⟨v',g1,g2⟩:=Gx hR hl h;exact⟨v',by simp[Instr.loadAt,Instr.sureAddr,g1],g2⟩
  ·cases h
 case nilCheck x =>
  have hv:=hρ x (by simp);dsimp only;generalize ρc x=u at hv;generalize ρ x=y at hv h;unfold DU at h;split at h
  ·simp only[Option.some.injEq] at h;subst h;obtain⟨_,_,l,rfl,hl,rfl⟩:=wV hv;exact⟨_,rfl,.ptr hl⟩
  ·simp only[Option.some.injEq] at h;subst h;obtain⟨a',b',rfl,h1,h2⟩:=hv.TY;exact⟨_,rfl,hv⟩
  ·simp only[Option.some.injEq] at h;subst h;cases hv with
   | yield hl=>exact⟨_,rfl,.yield hl⟩
  ·simp only[Option.some.injEq] at h;subst h;cases hv with
   | iface _ hvv=>exact⟨_,rfl,.iface _ hvv⟩
  ·cases h
 case binOp op t x y yt =>
  refine lift _ ?_;exact Tr hR (hρ x (by simp)) (hρ y (by simp)) h
 case unOp op t x =>
  exact lift _ (aIi (hρ x (by simp)) h)
 case convert s d x =>
  exact lift _ (Vk (hρ x (by simp)) h)
 case makeInterface t x =>
  split at h
  ·rename_i i hi;have hv:=hρ x (by simp);refine lift _ ⟨.iface t (ρc x),?_,?_⟩
   ·unfold Instr.makeInterface;simp only[Sem.run_bind,eH hi,Result.andThen_ok];split at h
    ·cases h
    ·rename_i hne;cases hd:i.desc with
     | interface m=>exact(hne m hd).elim
     | _=>rfl
   ·split at h
    ·cases h
    ·simp only[Option.some.injEq] at h;subst h;exact .iface _ hv
  ·cases h
 case makeFunc fn first captured =>
  have h1:=bQ.He (ι:=ι) (ρ:=ρ) (ρc:=ρc) first fun x hx=>hρ x (by simp at hx ⊢;exact .inl hx);have h2:=bQ.He (ι:=ι) (ρ:=ρ) (ρc:=ρc) captured fun x hx=>hρ x (by simp at hx ⊢;exact .inr hx);split at h
  ·simp only[Option.some.injEq] at h;subst h;exact lift _ ⟨_,rfl,.func h1.size h2.size h1.arr h2.arr⟩
  ·simp only[Option.some.injEq] at h;subst h;exact lift _ ⟨_,rfl,.GY h1.size h2.size h1.arr h2.arr⟩
  ·cases h
 case slice t x lo hi mx =>
  refine lift _ (aHo hR (hρ x (by simp)) (mu lo ?_) (mu hi ?_) (mu mx ?_) h)
  ·intro y hy;exact hρ y (by simp at hy ⊢;simp[hy])
  ·intro y hy;exact hρ y (by simp at hy ⊢;simp[hy])
  ·intro y hy;exact hρ y (by simp at hy ⊢;simp[hy])
 case fieldAddr s x f=>exact lift _ (Xw (hρ x (by simp)) h)
 case field t x f=>exact lift _ (Xx (hρ x (by simp)) h)
 case indexAddr t x i=>exact lift _ (aB1 (hρ x (by simp)) (hρ i (by simp)) h)
 case index t x i=>exact lift _ (aB2 (hρ x (by simp)) (hρ i (by simp)) h)
 case lookup t x k ok=>exact lift _ (aCl hR (hρ x (by simp)) (hρ k (by simp)) h)
 case extract t i =>
  have hv:=hρ t (by simp);split at h
  ·rename_i vs hvs;rw[hvs] at hv;obtain⟨vs',he,hr⟩:=hv.aIe;obtain⟨u,g1,g2⟩:=hr.FN i (v:=v) (by simpa using h);refine lift _ ⟨u,?_,g2⟩;have g1':vs'[i]?=some u:=by simpa using g1
   simp[he,Instr.extract,g1']
  ·cases h
 case entry it=>exact lift _ (Wx hR (hρ it (by simp)) h)
 case typeAssert x xt t ok=>exact lift _ (aIg (hρ x (by simp)) h)
 case call c =>
  obtain⟨callee,args,argTypes⟩:=c;simp only at h;have hargs:bQ ι (args.toList.map ρ) (args.toList.map ρc):=.map₂ _ fun x hx=>hρ x (by simp[Call.operands];exact .inr (by simpa using hx));have hrun:∀ b,callee=.builtin b→(resolve ρc {callee,args,argTypes} o.type).run P w=.ok {target:=.builtin b argTypes o.type (args.map fun | .const _=>true | _=>false),args:=args.map ρc} w:=by
   intro b hb;subst hb;rfl
  split at h
  ·have hr:=hrun _ rfl;simp only[Sem.run_bind,hr,Result.andThen_ok,invoke,builtin];split at h
   ·rename_i t x ht hx;have hlen:=aBy hR (hρ x (by simp[Call.operands];exact Array.mem_of_getElem? hx)) h argTypes ht o.type;obtain⟨v',g1,g2⟩:=hlen;refine⟨v',?_,g2⟩;have hx':(args.map ρc)[0]?=some (ρc x):=by simp[hx]
    have:(Builtin.len_ argTypes o.type (args.map ρc)).run P w=.ok v' w:=by
     rw[← g1];unfold Builtin.len_;simp only[ht,hx'];simp
    simp[this]
   ·cases h
  ·have hr:=hrun _ rfl;simp only[Sem.run_bind,hr,Result.andThen_ok,invoke,builtin];split at h
   ·rename_i v0 rest hl;rw[hl] at hargs;generalize hl':args.toList.map ρc=l' at hargs;cases hargs with
    | cons hv ht =>
    obtain⟨v',g1,g2⟩:=Hr (P:=P) (w:=w) hv ht h;refine⟨v',?_,g2⟩;simp only[Builtin.min_,Array.toList_map,hl',g1,Result.andThen_ok,Sem.run_pure]
   ·cases h
  ·have hr:=hrun _ rfl;simp only[Sem.run_bind,hr,Result.andThen_ok,invoke,builtin];split at h
   ·rename_i v0 rest hl;rw[hl] at hargs;generalize hl':args.toList.map ρc=l' at hargs;cases hargs with
    | cons hv ht =>
    obtain⟨v',g1,g2⟩:=Hj (P:=P) (w:=w) hv ht h;refine⟨v',?_,g2⟩;simp only[Builtin.max_,Array.toList_map,hl',g1,Result.andThen_ok,Sem.run_pure]
   ·cases h
  ·cases h
 all_goals cases h
variable {P:Program} {ι:aP} {H:bG} {n:Nat} {w:World}
abbrev mF (w:World):Loc:=⟨w.heap.size,0,0,false⟩
theorem mj {X:Env} {l l':List Value} (hl:bQ ι l l') (e e':TypeId) (aT m:Nat) (hm:m=l.length) (arr:Array Value) (harr:arr.toList=l') :
  jD X ι (w.alloc (.cells arr e' (0,0))) (mF w) (.cells (PT.ofList l) [] m e false false aT):=by
 subst hm;have hlen:=hl.length;have hsz:arr.size=l.length:=by rw[hlen,← harr];simp
 refine⟨arr,e',(0,0),heap_alloc_new,fun _=>rfl,rfl,fun _=>rfl,?_,?_,?_⟩
 ·intro ei _;simp[hsz]
 ·simp[hsz]
 ·intro i hi;have hg:l[i]?=some l[i]:=List.getElem?_eq_getElem hi;obtain⟨u,h1,h2⟩:=hl.FN i hg;refine⟨l[i],u,?_,?_,h2⟩
  ·unfold cellAt;rw[if_pos hi,PT.sF,hg]
  ·simp only[Nat.zero_add];rw[← harr] at h1;simpa using h1
theorem Xy {z:Value} (hz:FE z=true) (m:Nat):bQ ι ((Array.range m).map (z.cells[·%z.cells.size]!)).toList ((Array.range m).map (z.cells[·%z.cells.size]!)).toList:=by
 simp only[Array.toList_map];refine .map₂ _ fun i _=>?_;have hc:bQ ι z.cells.toList z.cells.toList:=VR.cells (.closed hz);by_cases h:i%z.cells.size<z.cells.size
 ·rw[getElem!_pos z.cells _ h];exact hc.arr (i%z.cells.size) _ _ (by simp[h]) (by simp[h])
 ·rw[getElem!_neg z.cells _ h];exact .bool _
theorem wrap_small {x:Int} (h0:0≤x) (h1:x<2 ^ 40):IntKind.i64.wrap x=x:=IntWalk.i64_in _ (by omega)
theorem Hg {α:Type} (f:Nat→α):(Array.range 0).map f=#[]:=by simp
theorem run_makeSlice {t e:TypeId} {i ei:Ty} {z:Value} {l c:Int} (ht:(env P).ty t=some i) (hd:i.desc=.slice e) (he:(env P).ty e=some ei) (hz:ei.zero=some z)
  (h0:0≤l) (h1:l≤c) (h2:c<2 ^ 40) (h3:ei.bytes*c≤2 ^ 48) (_:z.cells.size=ei.size) :
  (Instr.makeSlice t (.int .i64 l) (.int .i64 c)).run P w =
   .ok (.slice (some ⟨w.heap.size,0,none⟩) l.toNat c.toNat) (w.alloc (.cells ((Array.range (c.toNat*ei.size)).map (z.cells[·%z.cells.size]!)) e (0,0))):=by
 obtain⟨inf,e1,e2,_⟩:=PS (w:=w) he;unfold Instr.makeSlice;simp only[Sem.run_bind,eH ht,hd,Result.andThen_ok,asInt,asIntOf,Sem.run_pure,e1,e2,wrap_small (x:=l) h0 (by omega),wrap_small (x:=c) (by omega) h2];have k1:(decide (c<0)||decide ((ei.bytes:Int)*c>2 ^ 48))=false:=by
  simp only[Bool.or_eq_false_iff,decide_eq_false_iff_not];constructor <;> omega
 rw[k1];rw[if_neg (by simp;omega)];simp only[Sem.run_bind,run_askRoom,Result.andThen_ok,pE he];by_cases hn:c.toNat*ei.size=0
 ·rw[if_pos hn];simp only[Sem.run_pure,Result.andThen_ok,newRow,Sem.run_bind,run_newObj,hn,Hg];rfl
 ·rw[if_neg hn];simp only[Sem.run_bind,zR he hz,Sem.run_pure,Result.andThen_ok,newRow,run_newObj];rfl
theorem tz {nm:Nat} {ρ ρc:Operand→Value} {o:Oper} (hfree:ι nm=none) (hρ:∀ x∈o.op.operands.toList,VR ι (ρ x) (ρc x)) {v:Value} {f:Nat→bU}
  (h:fE (env P) nm ρ o.op=some (v,f)) :
  ∃ u x,(execOp ρc o).run P w=.ok (.value u) (w.alloc x)∧VR (ι.add nm (mF w)) v u∧∀ aT,(f aT).cS=false∧jD (env P) (ι.add nm (mF w)) (w.alloc x) (mF w) (f aT):=by
 have hle:ι.le (ι.add nm (mF w)):=aP.sM hfree;have hptr:VR (ι.add nm (mF w)) (.pointer (some ⟨nm,0,none⟩)) (.pointer (some ⟨w.heap.size,0,none⟩)):=by
  have:=VR.ptr (ι:=ι.add nm (mF w)) (o:=0) (aP.add_same ι nm (mF w));simpa [mF] using this
 have hsl:∀ a b,VR (ι.add nm (mF w)) (.slice (some ⟨nm,0,none⟩) a b) (.slice (some ⟨w.heap.size,0,none⟩) a b):=by
  intro a b;have:=VR.slice (ι:=ι.add nm (mF w)) (o:=0) a b (aP.add_same ι nm (mF w));simpa [mF] using this
 unfold execOp;cases hop:o.op <;> rw[hop] at h hρ <;> simp only[fE] at h <;> simp only[Op.operands] at hρ
 case alloc e =>
  split at h
  ·rename_i d sz by_ z ag me cm ht;simp only[Option.some.injEq,Prod.mk.injEq] at h;obtain⟨rfl,rfl⟩:=h;have hz:bQ (ι.add nm (mF w)) z.cells.toList z.cells.toList:=VR.cells (.closed (EW ht rfl));refine⟨_,.cells z.cells e (0,0),?_,hptr,fun aT=>⟨rfl,mj hz e e aT _ (by simp) _ rfl⟩⟩;simp only[Instr.alloc,Sem.run_bind,zR ht rfl,Result.andThen_ok,newVar,newRow,run_newObj,Sem.run_pure];rfl
  ·cases h
 case box e x =>
  simp only[Option.some.injEq,Prod.mk.injEq] at h;obtain⟨rfl,rfl⟩:=h;have hv:=((hρ x (by simp)).mono hle).cells;refine⟨_,.cells (ρc x).cells e (0,0),?_,hptr,fun aT=>⟨rfl,mj hv e e aT _ (by simp) _ rfl⟩⟩;simp only[Instr.box,Sem.run_bind,Result.andThen_ok,newVar,newRow,run_newObj,Sem.run_pure];rfl
 case buildSlice t len parts =>
  split at h
  ·rename_i e sz by_ ze ag me cm ht;split at h
   ·rename_i d esz eb z ea em ec he;split at h
    ·rename_i hlen;split at h
     ·rename_i cs hf;simp only[Option.some.injEq,Prod.mk.injEq] at h;obtain⟨rfl,rfl⟩:=h;have hpr:∀ (l:List (Nat×Operand)),(∀ x∈l,VR ι (ρ x.2) (ρc x.2))→FB ι (l.map fun(i,x)=>(i,ρ x)) (l.map fun(i,x)=>(i,ρc x)):=by
       intro l
       induction l with
       | nil=>intro _;exact .nil
       | cons y l ih=>intro hl;exact .cons (hl y (by simp)) (ih fun z hz=>hl z (by simp[hz]))
      obtain⟨r',g1,g2⟩:=TU (hpr parts.toList fun x hx=>hρ _ (by simp;exact⟨x.1,by simpa using hx⟩)) (Xy (ι:=ι) (EW he rfl) (len*esz)) hf;have g1':Instr.fill (fun i=>some (i*esz,esz)) ((Array.range (len*esz)).map (z.cells[·%z.cells.size]!)) (parts.map fun(i,x)=>(i,ρc x)).toList=some r':=by
       rw[Array.toList_map];exact g1
      refine⟨_,.cells r' e (0,0),?_,hsl len len,fun aT=>⟨rfl,mj (bQ.mono hle g2) e e aT _ (by simp) _ rfl⟩⟩;have hsize:(sizeOf e).run P w=.ok esz w:=pE he;simp only[Instr.buildSlice,Sem.run_bind,eH ht,Result.andThen_ok,hsize];rw[if_neg (by omega)];by_cases h0:len*esz=0
      ·rw[if_pos h0];rw[h0] at g1';simp only[Sem.run_pure,Sem.run_bind,Result.andThen_ok];simp only[h0];have g3:Instr.fill (fun i=>some (i*esz,esz)) ((Array.range 0).map ((#[]:Array Value)[·%(#[]:Array Value).size]!)) (parts.map fun(i,x)=>(i,ρc x)).toList=some r':=by
        rw[Hg] at g1' ⊢;exact g1'
       simp only[g3,newRow,Sem.run_bind,run_newObj,Result.andThen_ok,Sem.run_pure];rfl
      ·rw[if_neg h0];simp only[Sem.run_pure,Sem.run_bind,Result.andThen_ok,zR he rfl,g1',newRow,run_newObj];rfl
     ·cases h
    ·cases h
   ·cases h
  ·cases h
 case makeMap t r =>
  have hmap:VR (ι.add nm (mF w)) (.map (some nm)) (.map (some w.heap.size)):=.map (aP.add_same ι nm (mF w));have hobj:∀ aT,((fun v=>bU.map [] 0 v) aT).cS=false∧jD (env P) (ι.add nm (mF w)) (w.alloc (.map #[] 0)) (mF w) (.map [] 0 aT):=fun aT =>
   ⟨rfl,rfl,rfl,rfl,#[],heap_alloc_new,.nil⟩
  split at h
  ·rename_i k e sz by_ ze ag me cm ht hr;simp only[Option.some.injEq,Prod.mk.injEq] at h;obtain⟨rfl,rfl⟩:=h;cases r with
   | some _=>cases hr
   | none =>
    exact⟨_,.map #[] 0,rfl,hmap,hobj⟩
  ·rename_i k e sz by_ ze ag me cm kk m ht hr;simp only[Option.some.injEq,Prod.mk.injEq] at h;obtain⟨rfl,rfl⟩:=h;cases r with
   | none=>cases hr
   | some x =>
    simp only[Option.map_some,Option.some.injEq] at hr;have hv:=hρ x (by simp);rw[hr] at hv;refine⟨_,.map #[] 0,?_,hmap,hobj⟩;simp only[Option.map_some,hv.int_eq,Instr.makeMap,Sem.run_bind,eH ht,Result.andThen_ok,asInt,asIntOf,Sem.run_pure,run_newObj];rfl
  ·cases h
 case makeSlice t len cap =>
  split at h
  ·rename_i e sz by_ ze ag me cm l c ht hl hc;split at h
   ·rename_i d esz eb z ea em ec he;split at h
    ·rename_i hb;simp only[Option.some.injEq,Prod.mk.injEq] at h;obtain⟨rfl,rfl⟩:=h;have h1:=hρ len (by simp);have h2:=hρ cap (by simp);rw[hl] at h1;rw[hc] at h2;have hrun:=run_makeSlice (w:=w) ht rfl he rfl hb.1 hb.2.1 hb.2.2.1 hb.2.2.2.1 hb.2.2.2.2;refine⟨_,.cells ((Array.range (c.toNat*esz)).map (z.cells[·%z.cells.size]!)) e (0,0),?_,hsl _ _,fun aT=>⟨rfl,?_⟩⟩
     ·simp only[h1.int_eq,h2.int_eq,Sem.run_bind,hrun,Result.andThen_ok,Sem.run_pure]
     ·refine⟨_,e,(0,0),heap_alloc_new,fun _=>rfl,rfl,fun _=>rfl,?_,?_,?_⟩
      ·intro ei hei;simp
      ·simp
      ·intro i hi;have hzs:z.cells.size=esz:=hb.2.2.2.2;have hpos:0<z.cells.size:=by
        rw[hzs];by_cases hz0:esz=0
        ·rw[hz0] at hi;simp at hi
        ·omega
       have hmod:i%z.cells.size<z.cells.size:=Nat.mod_lt _ hpos;have hcl:bQ (ι.add nm (mF w)) z.cells.toList z.cells.toList:=VR.cells (.closed (EW he rfl));refine⟨z.cells[i%z.cells.size],z.cells[i%z.cells.size],?_,?_,hcl.arr (i%z.cells.size) _ _ (by simp[hmod]) (by simp[hmod])⟩
       ·unfold cellAt;rw[if_pos hi,PT.get_nil];simp[hmod]
       ·simp only[Nat.zero_add];rw[Array.getElem?_map];simp only[Array.getElem?_range,hi,if_true,Option.map_some];exact congrArg some (getElem!_pos z.cells (i%z.cells.size) hmod)
    ·cases h
   ·cases h
  ·cases h
 all_goals cases h
variable {P:Program} {ι:aP} {s s':St} {w:World}
abbrev RS (P:Program) (ι:aP) (s:St) (w:World):Prop:=R (env P) ι s.look s.next w
abbrev ES (ι:aP) (s:St) (w:World) (ι':aP) (s':St) (w':World):Prop:=Ext ι s.look s.next w ι' s'.look s'.next w'
def IF (P:Program) (ι:aP) (s:St) (w:World) (sem:Sem Value) (v:Value) (s':St):Prop :=
 ∃ u ι' w',sem.run P w=.ok u w'∧VR ι' v u∧RS P ι' s' w'∧ES ι s w ι' s' w'
theorem RS.put (hR:RS P ι s w) {b:Nat} {o:bU} {l:Loc} (hb:s.heap.get b=some o) (hd:o.cS=false) (hl:ι b=some l) (hro:l.ro=false) (x:Obj) {f:Nat→bU}
  (ho:jD (env P) ι (World.gR w l.bL x) l (f s.aO)):RS P ι (s.put b f) (World.gR w l.bL x)∧ES ι s w ι (s.put b f) (World.gR w l.bL x):=by
 have h1:=R.put (H:=s.look) hR hb hd hl hro x ho;have h2:=Ext.put (H:=s.look) (n:=s.next) (w:=w) hb hd hl hro x (f s.aO);unfold RS ES;rw[jz];exact⟨h1,h2⟩
theorem RS.new {ex:Nat} (hR:RS P ι s w) (x:Obj) {f:Nat→bU} (ho:jD (env P) (ι.add s.next ⟨w.heap.size,0,ex,false⟩) (w.alloc x) ⟨w.heap.size,0,ex,false⟩ (f s.aO)) :
  RS P (ι.add s.next ⟨w.heap.size,0,ex,false⟩) (s.new f) (w.alloc x)∧ES ι s w (ι.add s.next ⟨w.heap.size,0,ex,false⟩) (s.new f) (w.alloc x):=by
 have hfree:ι s.next=none:=hR.fresh _ (Nat.le_refl _) hR.jZ;have hodd:=hR.jZ;have h1:=R.newAt (H:=s.look) hR s.next (s.next+2) hfree hR.jZ (by omega) (by omega) (by omega) x ho;have h2:=Ext.newAt (H:=s.look) (n:=s.next) (w:=w) (ex:=ex) s.next (s.next+2) hfree (Nat.le_refl _) (by omega) (by omega) x (f s.aO);unfold RS ES;rw[WC];exact⟨h1,h2⟩
theorem YO (hR:RS P ι s w) {b o:Nat} {l:Loc} (hl:ι b=some l) {vs us:List Value} (hv:bQ ι vs us) (h:dB s ⟨b,o,none⟩ vs=some s') :
  ∃ w',(storeCells ⟨l.bL,l.off+o,none⟩ us).run P w=.ok () w'∧RS P ι s' w'∧ES ι s w ι s' w':=by
 unfold dB at h;simp only at h;split at h
 ·rename_i c z n e r aT hs hb;split at h
  ·rename_i hc;simp only[Option.some.injEq] at h;subst h;obtain⟨l',arr,e',fz,h1,h2,h3,h4,h5,h6,h7,h8⟩:=CI hR (show s.look b=_ from hb);rw[hl] at h1;cases h1;rw[h3 rfl] at h2;have hlen:=hv.length;have h1u:us.all iB=true:=by rw[← hv.iB];exact hc.2
   refine⟨_,pg us w l.bL (l.off+o) 0 arr e' h2 h1u (by omega),?_⟩;refine hR.put hb rfl hl h4 _ ⟨tC arr (l.off+o+0) us,e',(0,0),yV (iO h2),fun _=>rfl,h4,h5,?_,by simpa using h7,?_⟩
   ·intro ei hei;have:=h6 ei hei;simpa using this
   ·intro i hi;obtain⟨v0,u0,g1,g2,g3⟩:=h8 i hi;rw[dp us arr _ _ (by omega)];unfold cellAt at g1 ⊢;rw[if_pos hi] at g1 ⊢;rw[PT.FO];by_cases hoi:o≤i
    ·rw[if_pos hoi,if_pos (by omega),show l.off+i-(l.off+o+0)=i-o from by omega];cases hvi:vs[i-o]? with
     | some v1 =>
      obtain⟨u1,k1,k2⟩:=hv.FN _ hvi;rw[k1];exact⟨v1,u1,rfl,rfl,k2⟩
     | none =>
      have:us[i-o]?=none:=by
       rw[List.getElem?_eq_none_iff] at hvi ⊢;omega
      rw[this];exact⟨v0,u0,g1,g2,g3⟩
    ·rw[if_neg hoi,if_neg (by omega)];exact⟨v0,u0,g1,g2,g3⟩
  ·cases h
 ·cases h
theorem aHs (hR:RS P ι s w) {t:TypeId} {a:Addr} {v x u:Value} (hx:VR ι (.pointer (some a)) x) (hv:VR ι v u) (h:storeT (env P) s t a v=some s') :
  ∃ w',(Instr.storeAt t x u).run P w=.ok () w'∧RS P ι s' w'∧ES ι s w ι s' w':=by
 obtain⟨b,o,l,rfl,hl,rfl⟩:=wV hx;unfold storeT at h;split at h
 ·rename_i i hi;split at h
  ·rename_i hsz;obtain⟨w',g1,g2,g3⟩:=YO hR hl hv.cells h;refine⟨w',?_,g2,g3⟩;have husz:u.cells.size=i.size:=by rw[← hv.cells.size];exact hsz
   simp only[Instr.storeAt,Instr.sureAddr,Sem.run_bind,Sem.run_pure,Result.andThen_ok,storeVar,pE hi,husz,ne_eq,not_true_eq_false,if_false,g1]
  ·cases h
 ·cases h
theorem Ua (l:List UInt8):bQ ι (l.map fun b=>Value.int .u8 b.toNat) (l.map fun b=>Value.int .u8 b.toNat):=.map₂ _ fun _ _=>.int _ _
theorem Be (hR:RS P ι s w) {size n:Nat} {x x':Value} (hx:VR ι x x') {l:List Value} (h:jM s.look size n x=some l) (hn:∀ a c d,x=.slice a c d→n≤c) :
  ∃ l',(Builtin.firstCells size n x').run P w=.ok l' w∧bQ ι l l'.toList:=by
 unfold jM at h;split at h
 ·rename_i a c d;split at h
  ·rename_i h0;simp only[Option.some.injEq] at h;subst h;refine⟨#[],?_,.nil⟩;cases hx <;> simp[Builtin.firstCells,h0,loadCells,loadCellsFrom]
  ·rename_i h0;have hc:0<c:=by
    have:=hn _ _ _ rfl;by_cases hz:n=0
    ·subst hz;simp at h0
    ·omega
   cases hx with
   | slice _ _ hl =>
    obtain⟨us,g1,g2,_⟩:=Gv (P:=P) hR hl h;exact⟨us,by simpa [Builtin.firstCells] using g1,g2⟩
   | sQ hl=>omega
 ·simp only[Option.some.injEq] at h;subst h;rw[WU hx];exact⟨#[],rfl,.nil⟩
 ·simp only[Option.some.injEq] at h;subst h;rw[hx.sT];refine⟨_,rfl,?_⟩;simp only[Array.toList_map];exact Ua _
 ·cases h
theorem aBx {x x':Value} (hx:VR ι x x') {n:Nat} (h:tL x=some n):(Builtin.lenOf x').run P w=.ok n w:=by
 unfold tL at h;split at h
 ·simp only[Option.some.injEq] at h;subst h;cases hx <;> rfl
 ·simp only[Option.some.injEq] at h;subst h;rw[hx.sT];rfl
 ·cases h
theorem Gi {x:Value} {n:Nat} (h:tL x=some n):∀ a c d,x=.slice a c d→n≤c:=by
 rintro a c d rfl;simp only[tL,Option.some.injEq] at h;omega
theorem nextslicecap_le {need c:Nat} (h:c<need):Builtin.nextslicecap need c≤2*need+1000:=by
 unfold Builtin.nextslicecap;split
 ·omega
 ·split
  ·omega
  ·have key:∀ r c,c≤2*need+1000→Builtin.growBy need r c≤2*need+1000:=by
    intro r
    induction r with
    | zero=>intro c hc;simpa [Builtin.growBy] using hc
    | succ r ih =>
     intro c hc;simp only[Builtin.growBy];split
     ·exact hc
     ·exact ih _ (by omega)
   exact key 4 c (by omega)
theorem Sz {argTypes:Array TypeId} {ty t t2 e:TypeId} {args:Array Value} {base:Option Addr} {sLen sCap n:Nat} {x:Value} {i i2 ei:Ty} {z:Value}
    (hat:argTypes.toList=[t,t2]) (harg:args.toList=[.slice base sLen sCap,x]) (ht:(env P).ty t=some i) (hd:i.desc=.slice e) (ht2:(env P).ty t2=some i2)
    (hni:YP i2.desc=true) (he:(env P).ty e=some ei) (hz:ei.zero=some z) (hlen:(Builtin.lenOf x).run P w=.ok n w)
    {l':Array Value} (hfirst:(Builtin.firstCells ei.size n x).run P w=.ok l' w) :
    (sLen+n≤sCap→(Builtin.append_ argTypes ty args).run P w =
      ((match base with | some a=>storeCells (a.add (sLen*ei.size)) l'.toList | none=>pure ()).run P w).andThen fun _ w'=>.ok (.slice base (sLen+n) sCap) w') ∧
    (¬ sLen+n≤sCap→sLen+n<2 ^ 40→(2*(sLen+n)+1000)*ei.bytes≤2 ^ 47→∃ newCap w1,w1.heap=w.heap∧w1.tape=w.tape∧w1.os=w.os∧w1.output=w.output∧sLen+n≤newCap ∧
      ∀ (cW new:Array Value),(Builtin.firstCells ei.size sLen (.slice base sLen sCap)).run P w1=.ok cW w1→(Builtin.firstCells ei.size n x).run P w1=.ok new w1 →
        (Builtin.append_ argTypes ty args).run P w=.ok (.slice (some ⟨w1.heap.size,0,none⟩) (sLen+n) newCap)
          (w1.alloc (.cells (cW++new++Builtin.zeroCells z.cells (newCap-(sLen+n))) e (0,0)))):=by
  obtain⟨a0,a1⟩:argTypes[0]?=some t∧argTypes[1]?=some t2:=by
    constructor
    · rw[← Array.getElem?_toList,hat];rfl
    · rw[← Array.getElem?_toList,hat];rfl
  obtain⟨b0,b1⟩:args[0]?=some (.slice base sLen sCap)∧args[1]?=some x:=by
    constructor
    · rw[← Array.getElem?_toList,harg];rfl
    · rw[← Array.getElem?_toList,harg];rfl
  have hz0:i2.desc=.string∨∃ q,i2.desc=.slice q:=by
    cases hdd:i2.desc <;> rw[hdd] at hni <;> first | exact .inl rfl | exact .inr ⟨_,rfl⟩ | cases hni
  obtain⟨inf,e1,e2,_⟩:=PS (w:=w) he;constructor
  · intro hfit
    unfold Builtin.append_;rcases hz0 with hz0 | ⟨q,hz0⟩ <;>
      (simp only[a0,a1,b0,b1,Sem.run_bind,eH ht,hd,Result.andThen_ok,pE he,eH ht2,hz0,Sem.run_pure,Bool.false_eq_true,if_false,hlen,hfit,if_true,Bool.not_false,hfirst]
       cases base <;> simp)
  · intro hfit h40 hb
    have hsc:sCap<sLen+n:=by omega
    have hns:=nextslicecap_le hsc;have hb':Builtin.nextslicecap (sLen+n) sCap*ei.bytes≤2 ^ 48:=by
      have:Builtin.nextslicecap (sLen+n) sCap*ei.bytes≤(2*(sLen+n)+1000)*ei.bytes:=Nat.mul_le_mul_right _ hns;omega
    obtain⟨cap,hcap⟩:∃ cap,cap=Question.cut (.appendCap (sLen+n) sCap e) (w.tape w.drawn (.appendCap (sLen+n) sCap e)):=⟨_,rfl⟩;refine⟨cap,{w with drawn:=w.drawn+1},rfl,rfl,rfl,rfl,?_,?_⟩
    · rw[hcap];simp only[Question.cut];omega
    · intro cW new hold hnew
      have hch:(choose (.appendCap (sLen+n) sCap e)).run P w=.ok cap {w with drawn:=w.drawn+1}:=by
        simp[choose,Sem.run,Question.forced,← hcap]
      have e1':=PS (w:={w with drawn:=w.drawn+1}) he;obtain⟨inf',e3,e4,_⟩:=e1';have hgt:¬ (((sLen+n:Nat):Int)>IntKind.i64.max):=by
        simp only[IntKind.max,IntKind.signed,IntKind.bits];simp;omega
      unfold Builtin.append_;rcases hz0 with hz0 | ⟨q,hz0⟩ <;>
        (simp only[a0,a1,b0,b1,Sem.run_bind,eH ht,hd,Result.andThen_ok,pE he,eH ht2,hz0,Sem.run_pure,Bool.false_eq_true,if_false,hlen,hfit,Bool.not_false,e1,e2]
         rw[if_neg (fun hh=>hgt hh.1)];simp only[Sem.run_bind,e1,e2,Result.andThen_ok];rw[if_neg (by omega)];simp only[Sem.run_bind,Sem.run_pure,Result.andThen_ok,hch,e3,run_askRoom,hold,hnew,if_true,zR he hz,newRow,run_newObj];rfl)
section
variable {X:Env} {H:bG} {n:Nat}
theorem R.dr (h:R X ι H n w) {b:Nat} {o:bU} {l:Loc} (hb:H b=some o) (hd:o.cS=false) (hl:ι b=some l) (hro:l.ro=false) (x:Obj) (off ex:Nat) {o':bU}
  (ho:jD X (ι.add n ⟨l.bL,off,ex,false⟩) (World.gR w l.bL x) ⟨l.bL,off,ex,false⟩ o') :
  R X (ι.add n ⟨l.bL,off,ex,false⟩) (fI (fI H b .dead) n o') (n+2) (World.gR w l.bL x):=by
 have hfree:ι n=none:=h.fresh _ (Nat.le_refl _) h.jZ;have hle:ι.le (ι.add n ⟨l.bL,off,ex,false⟩):=aP.sM hfree;have hodd:=h.jZ;have hbn:b≠n:=by intro e;subst e;rw[hfree] at hl;cases hl
 have cW:∀ c oc,fI (fI H b .dead) n o' c=some oc→oc.cS=false→c≠n→c≠b∧H c=some oc:=by
  intro c oc hc hdc hcn;unfold fI at hc;rw[if_neg hcn] at hc;split at hc
  ·cases hc;cases hdc
  ·rename_i e;exact⟨e,hc⟩
 refine⟨?_,by omega,?_,?_,?_,?_⟩
 ·intro c;unfold aP.add;rw[if_neg (by omega)];exact h.even c
 ·intro c hc hc2;unfold aP.add;rw[if_neg (by omega)];exact h.fresh c (by omega) hc2
 ·intro c lc hc hr;rw[Ny];unfold aP.add at hc;split at hc
  ·cases hc;exact h.sK b l hl hro
  ·exact h.sK c lc hc hr
 ·intro c oc hc hdc;by_cases hcn:c=n
  ·subst hcn;simp only[fI,if_true,Option.some.injEq] at hc;subst hc;exact⟨_,aP.add_same _ _ _,ho⟩
  ·obtain⟨hcb,hc'⟩:=cW c oc hc hdc hcn;obtain⟨lc,h1,h2⟩:=h.obj c oc hc' hdc;refine⟨lc,hle _ _ h1,h2.mono hle (GA ?_)⟩;intro he;exact hcb (h.inj b c o oc l lc hb hd hc' hdc hl h1 hro he.symm).symm
 ·intro c c' oc oc' lc lc' hc hdc hc' hdc' h1 h2 hr he;by_cases e1:c=n <;> by_cases e2:c'=n
  ·rw[e1,e2]
  ·obtain⟨k1,k2⟩:=cW c' oc' hc' hdc' e2;unfold aP.add at h1 h2;rw[if_pos e1] at h1;rw[if_neg e2] at h2;cases h1;exact absurd (h.inj b c' o oc' l lc' hb hd k2 hdc' hl h2 hro he) (Ne.symm k1)
  ·obtain⟨k1,k2⟩:=cW c oc hc hdc e1;unfold aP.add at h1 h2;rw[if_neg e1] at h1;rw[if_pos e2] at h2;cases h2;exact absurd (h.inj c b oc o lc l k2 hdc hb hd h1 hl hr he) k1
  ·obtain⟨k1,k2⟩:=cW c oc hc hdc e1;obtain⟨k3,k4⟩:=cW c' oc' hc' hdc' e2;unfold aP.add at h1 h2;rw[if_neg e1] at h1;rw[if_neg e2] at h2;exact h.inj c c' oc oc' lc lc' k2 hdc k4 hdc' h1 h2 hr he
theorem Ext.dr (hodd:n%2=1) (hfree:ι n=none) {b:Nat} {o:bU} {l:Loc} (hb:H b=some o) (hd:o.cS=false) (hl:ι b=some l) (hro:l.ro=false) (x:Obj) (off ex:Nat) (o':bU) :
  Ext ι H n w (ι.add n ⟨l.bL,off,ex,false⟩) (fI (fI H b .dead) n o') (n+2) (World.gR w l.bL x):=by
 refine⟨aP.sM hfree,?_,by omega,rfl,rfl,rfl,by simp,?_,?_⟩
 ·intro c hc hc2;unfold aP.add;rw[if_neg (by omega)];exact hc
 ·intro c hc hown;exact GA fun e=>hown ⟨b,o,l,hb,hd,hl,hro,e.symm⟩
 ·rintro c ⟨d,od,ld,h1,h2,h3,h4,h5⟩;unfold fI at h1;unfold aP.add at h3;split at h1
  ·rename_i e;rw[if_pos e] at h3;cases h3;exact .inl ⟨b,o,l,hb,hd,hl,hro,h5⟩
  ·rename_i e;rw[if_neg e] at h3;split at h1
   ·cases h1;cases h2
   ·exact .inl ⟨d,od,ld,h1,h2,h3,h4,h5⟩
theorem Ext.drew {ι':aP} {H':bG} {n':Nat} {w1 w':World} (h:Ext ι H n w1 ι' H' n' w') (hh:w1.heap=w.heap) (ht:w1.tape=w.tape) (ho:w1.os=w.os) (hu:w1.output=w.output) :
  Ext ι H n w ι' H' n' w' :=
 ⟨h.le,h.new,h.zM,h.os.trans ho,h.tape.trans ht,h.output.trans hu,hh ▸ h.size,fun c hc hn=>(h.aD c (hh ▸ hc) hn).trans (by rw[hh]),fun c hc=>(h.own c hc).imp id (fun k=>hh ▸ k)⟩
end
theorem RS.kill (hR:RS P ι s w) (b:Nat):RS P ι (s.kill b) w∧ES ι s w ι (s.kill b) w:=by
 have hlook:(s.kill b).look=fI s.look b .dead:=jz s b _;have hsub:∀ c o,fI s.look b .dead c=some o→o.cS=false→s.look c=some o:=by
  intro c o hc hd;unfold fI at hc;split at hc
  ·cases hc;cases hd
  ·exact hc
 unfold RS ES;rw[hlook];refine⟨R.cu hR hsub,⟨aP.le_refl _,fun _ h _=>h,Nat.le_refl _,rfl,rfl,rfl,Nat.le_refl _,fun _ _ _=>rfl,?_⟩⟩;rintro c ⟨d,od,ld,h1,h2,h3⟩;exact .inl ⟨d,od,ld,hsub d od h1 h2,h2,h3⟩
theorem Kl {c:PT Value} {z:List Value} {m:Nat}:∀ (k i:Nat),i+k≤m→∃ l,nX c z m i k=some l∧l.length=k∧∀ j,j<k→l[j]?=cellAt c z m (i+j)
 | 0,i,_=>⟨[],rfl,rfl,fun j hj=>by omega⟩
 | k+1,i,h=>by
  obtain⟨l,h1,h2,h3⟩:=Kl (c:=c) (z:=z) (m:=m) k (i+1) (by omega);obtain⟨v,hv⟩:∃ v,cellAt c z m i=some v:=by
   unfold cellAt;rw[if_pos (by omega)];exact⟨_,rfl⟩
  refine⟨v::l,by simp[nX,hv,h1],by simp[h2],?_⟩;intro j hj;cases j with
  | zero=>simp[hv]
  | succ j=>rw[List.getElem?_cons_succ,h3 j (by omega)];congr 1;omega
theorem O1 {c:PT Value} {z:List Value} {m:Nat} {a:Addr} {k:Nat} {new:List Value} {c':PT Value} {z':List Value} (h:AM c z m a k new=some (c',z')) :
  ∃ cW,cW.length=k∧(k=0∨(a.spot=none∧nX c z m a.off k=some cW))∧∀ i,i<k+new.length→cellAt c' z' (k+new.length) i=(cW++new)[i]?:=by
 unfold AM at h;split at h
 ·rename_i hk;subst hk;simp only[Option.some.injEq,Prod.mk.injEq] at h;obtain⟨rfl,rfl⟩:=h;refine⟨[],rfl,.inl rfl,?_⟩;intro i hi;unfold cellAt;rw[if_pos hi,PT.sF];have:new[i]?=some new[i]:=List.getElem?_eq_getElem (by omega);simp[this]
 ·rename_i hk;split at h
  ·cases h
  ·rename_i hsp;split at h
   ·rename_i h0;split at h
    ·rename_i hkm;simp only[Option.some.injEq,Prod.mk.injEq] at h;obtain⟨rfl,rfl⟩:=h;obtain⟨cW,h1,h2,h3⟩:=Kl (c:=c) (z:=z) (m:=m) k 0 (by omega);refine⟨cW,h2,.inr ⟨hsp,by rw[h0];exact h1⟩,?_⟩;intro i hi;by_cases hik:i<k
     ·rw[List.getElem?_append_left (by omega),h3 i hik];unfold cellAt;rw[if_pos hi,if_pos (by omega),PT.FO,if_neg (by omega)];simp
     ·rw[List.getElem?_append_right (by omega),h2];unfold cellAt;rw[if_pos hi,PT.FO,if_pos (by omega)];have:new[i-k]?=some new[i-k]:=List.getElem?_eq_getElem (by omega);simp[this]
    ·cases h
   ·split at h
    ·rename_i cW ho;simp only[Option.some.injEq,Prod.mk.injEq] at h;obtain⟨rfl,rfl⟩:=h;have hlen:cW.length=k:=by
      have:∀ (k i:Nat) (l:List Value),nX c z m i k=some l→l.length=k:=by
       intro k
       induction k with
       | zero=>intro i l h;simp[nX] at h;subst h;rfl
       | succ k ih =>
        intro i l h;simp only[nX] at h;split at h
        ·split at h
         ·rename_i hr;simp only[Option.some.injEq] at h;subst h;simp[ih _ _ hr]
         ·cases h
        ·cases h
      exact this _ _ _ ho
     refine⟨cW,hlen,.inr ⟨hsp,ho⟩,?_⟩;intro i hi;unfold cellAt;rw[if_pos hi,PT.sF];obtain⟨y,hy⟩:∃ y,(cW++new)[i]?=some y:=⟨_,List.getElem?_eq_getElem (by simp;omega)⟩;rw[hy]
    ·cases h
theorem Je {X:Env} {l l':List Value} (hl:bQ ι l l') {loc:Loc} {c:PT Value} {z:List Value} {e e':TypeId} {room:Bool} {aT m:Nat} (hm:m=l.length) (hc:∀ i,i<m→cellAt c z m i=l[i]?)
  {arr:Array Value} (hb:w.heap[loc.bL]?=some (.cells arr e' (0,0))) (harr:∀ i,i<m→arr[loc.off+i]?=l'[i]?) (hro:loc.ro=false) (hroom:room=false→loc.extra=0)
  (hsz:∀ ei,X.ty e=some ei→loc.off+m+loc.extra*ei.size≤arr.size) (hsz':loc.off+m≤arr.size):jD X ι w loc (.cells c z m e room false aT):=by
 refine⟨arr,e',(0,0),hb,fun _=>rfl,hro,hroom,hsz,hsz',?_⟩;intro i hi;have hg:l[i]?=some l[i]:=List.getElem?_eq_getElem (by omega);obtain⟨u,h1,h2⟩:=hl.FN i hg;exact⟨l[i],u,by rw[hc i hi,hg],by rw[harr i hi,h1],h2⟩
theorem By (hR:RS P ι s w) {w1:World} (hh:w1.heap=w.heap) (ht:w1.tape=w.tape) (ho:w1.os=w.os) (hu:w1.output=w.output) {e:TypeId} {ei:Ty} {z:Value}
  (he:(env P).ty e=some ei) (hzs:z.cells.size=ei.size) {L:List Value} {U:Array Value} (hL:bQ ι L U.toList) {need newCap:Nat} (hlen:L.length=need*ei.size) (hcap:need≤newCap)
  {c:PT Value} {zz:List Value} (hc:∀ i,i<need*ei.size→cellAt c zz (need*ei.size) i=L[i]?) :
  ∃ ι' w',w'=w1.alloc (.cells (U++Builtin.zeroCells z.cells (newCap-need)) e (0,0))∧VR ι' (.slice (some ⟨s.next,0,none⟩) need need) (.slice (some ⟨w1.heap.size,0,none⟩) need newCap) ∧
   RS P ι' (s.new fun v=>.cells c zz (need*ei.size) e true false v) w'∧ES ι s w ι' (s.new fun v=>.cells c zz (need*ei.size) e true false v) w':=by
 have hR1:RS P ι s w1:=R.drew hR hh;have hfree:ι s.next=none:=hR.fresh _ (Nat.le_refl _) hR.jZ;have hUl:U.size=need*ei.size:=by rw[← hlen];exact(by simpa using hL.length.symm)
 have hsz:(U++Builtin.zeroCells z.cells (newCap-need)).size=need*ei.size+(newCap-need)*ei.size:=by
  simp[Builtin.zeroCells,hUl,hzs]
 have hobj:jD (env P) (ι.add s.next ⟨w1.heap.size,0,newCap-need,false⟩) (w1.alloc (.cells (U++Builtin.zeroCells z.cells (newCap-need)) e (0,0))) ⟨w1.heap.size,0,newCap-need,false⟩
   ((fun v=>bU.cells c zz (need*ei.size) e true false v) s.aO):=by
  refine Je (bQ.mono (aP.sM hfree) hL) hlen.symm hc (e':=e) heap_alloc_new ?_ rfl (fun h=>by cases h) ?_ ?_
  ·intro i hi;simp only[Nat.zero_add];rw[Array.getElem?_append_left (by omega)];simp
  ·intro ei' hei';rw[he] at hei';cases hei';simp only[Nat.zero_add];omega
  ·simp only[Nat.zero_add];omega
 obtain⟨g1,g2⟩:=RS.new hR1 _ hobj;refine⟨_,_,rfl,?_,g1,Ext.drew g2 hh ht ho hu⟩;have:=VR.slice (ι:=ι.add s.next ⟨w1.heap.size,0,newCap-need,false⟩) (o:=0) need need (aP.add_same ι s.next _);simpa [show need+(newCap-need)=newCap from by omega] using this
theorem Sx (hR:RS P ι s w) {argTypes:Array TypeId} {ty t t2 e:TypeId} {args:Array Value} {base base':Option Addr} {sLen sCap sCap' n:Nat} {x:Value} {i i2 ei:Ty} {z:Value}
  (hat:argTypes.toList=[t,t2]) (harg:args.toList=[.slice base' sLen sCap',x]) (ht:(env P).ty t=some i) (hd:i.desc=.slice e) (ht2:(env P).ty t2=some i2)
  (hni:YP i2.desc=true) (he:(env P).ty e=some ei) (hz:ei.zero=some z) (hzs:z.cells.size=ei.size) (hlen:∀ w1:World,(Builtin.lenOf x).run P w1=.ok n w1)
  (hs:VR ι (.slice base sLen sCap) (.slice base' sLen sCap')) {new:List Value} {newU:Array Value} (hnew:bQ ι new newU.toList)
  (hfirst:∀ w1:World,w1.heap=w.heap→(Builtin.firstCells ei.size n x).run P w1=.ok newU w1) (hnl:new.length=n*ei.size) (h40:sLen+n<2 ^ 40)
  (hb47:(2*(sLen+n)+1000)*ei.bytes≤2 ^ 47) (hone:new.all iB=true) {v:Value} (h:qZ s e ei.size base sLen sCap n new=some (v,s')) :
  IF P ι s w (Builtin.append_ argTypes ty args) v s':=by
 obtain⟨hfit,hgrow⟩:=Sz (w:=w) (ty:=ty) hat harg ht hd ht2 hni he hz (hlen w) (hfirst w rfl);unfold qZ at h;split at h
 ·
  rename_i hle;split at h
  ·rename_i a;split at h
   ·rename_i hemp;simp only[Option.some.injEq,Prod.mk.injEq] at h;obtain⟨rfl,rfl⟩:=h;have mQ:new=[]:=by simpa using hemp
    subst mQ;have hUnil:newU.toList=[]:=hnew.Ir;generalize hb':Value.slice base' sLen sCap'=u at hs;cases hs with
    | slice _ _ hl =>
     cases hb';refine⟨_,ι,w,?_,.slice _ _ hl,hR,Ext.refl⟩;rw[hfit (by omega),hUnil];rfl
    | sQ hl =>
     cases hb';have hn0:n=0:=by omega
     subst hn0;refine⟨_,ι,w,?_,.sQ hl,hR,Ext.refl⟩;rw[hfit (by omega),hUnil];rfl
   ·rename_i hemp;split at h
    ·rename_i s1 hst;simp only[Option.some.injEq,Prod.mk.injEq] at h;obtain⟨rfl,rfl⟩:=h;generalize hb':Value.slice base' sLen sCap'=u at hs;cases hs with
     | slice _ _ hl =>
      cases hb';rw[Addr.qF] at hst;obtain⟨w',g1,g2,g3⟩:=YO hR hl hnew hst;refine⟨_,ι,w',?_,.slice _ _ hl,g2,g3⟩;rw[hfit (by omega)];simp only[Addr.qF];rw[Nat.add_assoc,g1];rfl
     | sQ hl =>
      have hn0:n=0:=by omega
      subst hn0;have:new=[]:=List.eq_nil_of_length_eq_zero (by simpa using hnl);subst this;exact absurd rfl hemp
    ·cases h
  ·split at h
   ·rename_i hn0;subst hn0;simp only[Option.some.injEq,Prod.mk.injEq] at h;obtain⟨rfl,rfl⟩:=h;cases hs;refine⟨_,ι,w,?_,.zL _ _,hR,Ext.refl⟩;rw[hfit hle];rfl
   ·cases h
 ·
  rename_i hle;split at h
  ·split at h
   ·rename_i hs0;subst hs0;simp only[Option.some.injEq,Prod.mk.injEq] at h;obtain⟨rfl,rfl⟩:=h;cases hs;obtain⟨newCap,w1,k1,k2,k3,k4,k5,k6⟩:=hgrow hle h40 hb47;have hrun:=k6 #[] newU rfl (hfirst w1 k1);obtain⟨ι',w',q1,q2,q3,q4⟩:=By hR k1 k2 k3 k4 he hzs hnew (need:=0+n) (by simpa using hnl) k5 (c:=PT.ofList new) (zz:=[]) (by
     intro i hi;unfold cellAt;rw[if_pos hi,PT.sF];obtain⟨y,hy⟩:∃ y,new[i]?=some y:=⟨_,List.getElem?_eq_getElem (by rw[hnl];simpa using hi)⟩;rw[hy])
    refine⟨_,ι',w',?_,q2,q3,q4⟩;rw[hrun,q1];simp
   ·cases h
  ·rename_i a;split at h
   ·rename_i c zz m e0 room aT hH;split at h
    ·rename_i hcond;obtain⟨he0,hin⟩:=hcond;have he0':=he0.symm;subst he0';split at h
     ·rename_i c' z' hg;simp only[Option.some.injEq,Prod.mk.injEq] at h;obtain⟨rfl,rfl⟩:=h;obtain⟨cW,g1,g2,g3⟩:=O1 hg;obtain⟨l,arr,e',fz,p1,p2,p3,p4,p5,p6,p7,p8⟩:=CI hR (show s.look a.block=_ from hH);rw[p3 rfl] at p2;have p6':=p6 ei he;obtain⟨off',hbase,hcap',hF1,hF2⟩:∃ off',base'=some ⟨l.bL,off',none⟩∧sCap'=sCap+l.extra∧(sLen*ei.size≠0→a.spot=none∧off'=l.off+a.off) ∧
        (sLen+n≤sCap'→off'+(sCap+l.extra)*ei.size≤arr.size):=by
       generalize hb':Value.slice base' sLen sCap'=u at hs;cases hs with
       | slice _ _ hl =>
        cases hb';simp only at p1;rw[hl] at p1;cases p1;simp only[inBlock,decide_eq_true_eq] at hin;refine⟨_,rfl,rfl,fun _=>⟨rfl,rfl⟩,fun _=>?_⟩;rw[Nat.add_mul];omega
       | sQ hl =>
        cases hb';simp only at p1;rw[hl] at p1;cases p1;simp only[inBlock,decide_eq_true_eq] at hin;refine⟨_,rfl,by omega,fun h0=>by simp at h0,fun hf=>?_⟩;rw[if_neg (by omega)];simp only[Nat.zero_add];omega
      subst hbase;subst hcap';obtain⟨oldU,hold,holdrun,holdarr⟩:∃ oldU:Array Value,bQ ι cW oldU.toList ∧
        (∀ w1:World,w1.heap=w.heap→(Builtin.firstCells ei.size sLen (.slice (some ⟨l.bL,off',none⟩) sLen (sCap+l.extra))).run P w1=.ok oldU w1) ∧
        ∀ i,i<sLen*ei.size→arr[off'+i]?=oldU.toList[i]?:=by
       by_cases h0:sLen*ei.size=0
       ·have:cW=[]:=List.eq_nil_of_length_eq_zero (by omega);subst this;exact⟨#[],.nil,fun w1 _=>by simp[Builtin.firstCells,h0,loadCells,loadCellsFrom],fun i hi=>by omega⟩
       ·obtain⟨hsp,hoff⟩:=hF1 h0;subst hoff;rcases g2 with g2 | ⟨_,g2⟩
        ·exact absurd g2 h0
        ·obtain⟨r1,r2,r3⟩:=XQ p8 _ _ _ g2;refine⟨((arr.toList.drop (l.off+a.off)).take (sLen*ei.size)).toArray,by simpa using r3,?_,?_⟩
         ·intro w1 hw1;have:=run_loadCells (P:=P) (w:=w1) (k:=sLen*ei.size) (o:=l.off+a.off) (by rw[hw1];exact p2) (by omega);simpa [Builtin.firstCells] using this
         ·intro i hi;simp[hi,List.getElem?_drop]
      have hLU:bQ ι (cW++new) (oldU++newU).toList:=by simpa using hold.append hnew
      have hLlen:(cW++new).length=(sLen+n)*ei.size:=by rw[List.length_append,g1,hnl,Nat.add_mul]
      have hcells:∀ i,i<(sLen+n)*ei.size→cellAt c' z' ((sLen+n)*ei.size) i=(cW++new)[i]?:=by
       intro i hi;have:=g3 i (by rw[hnl,← Nat.add_mul];exact hi);rw[hnl,← Nat.add_mul] at this;exact this
      by_cases hfc:sLen+n≤sCap+l.extra
      ·
       have hroom:room=true:=by
        cases room with
        | true=>rfl
        | false=>have:=p5 rfl;omega
       subst hroom;have hb2:=hF2 hfc;have hnlU:newU.toList.length=n*ei.size:=by rw[← hnew.length];exact hnl
       have hneed:(sLen+n)*ei.size≤(sCap+l.extra)*ei.size:=Nat.mul_le_mul_right _ hfc;have hmul:(sLen+n)*ei.size=sLen*ei.size+n*ei.size:=Nat.add_mul _ _ _;have hst:=pg (P:=P) newU.toList w l.bL (off'+sLen*ei.size) 0 arr e' p2 (by rw[← hnew.iB];exact hone) (by omega);have hsub:(sCap+l.extra-(sLen+n))*ei.size+(sLen+n)*ei.size=(sCap+l.extra)*ei.size:=by rw[← Nat.add_mul];congr 1;omega
       have hfree:ι s.next=none:=hR.fresh _ (Nat.le_refl _) hR.jZ;have hobj:jD (env P) (ι.add s.next ⟨l.bL,off',sCap+l.extra-(sLen+n),false⟩) (World.gR w l.bL (.cells (tC arr (off'+sLen*ei.size+0) newU.toList) e' (0,0)))
         ⟨l.bL,off',sCap+l.extra-(sLen+n),false⟩ (.cells c' z' ((sLen+n)*ei.size) e true false (s.aO+1)):=by
        refine Je (bQ.mono (aP.sM hfree) hLU) hLlen.symm hcells (e':=e') (yV (iO p2)) ?_ rfl (fun h=>by cases h) ?_ ?_
        ·intro i hi;have hol:oldU.toList.length=sLen*ei.size:=by rw[← hold.length];exact g1
         simp only;rw[dp _ _ _ _ (by omega)];by_cases hi2:i<sLen*ei.size
         ·rw[if_neg (by omega),holdarr i hi2,Array.toList_append,List.getElem?_append_left (by omega)]
         ·rw[if_pos (by omega),Array.toList_append,List.getElem?_append_right (by omega),hol,show off'+i-(off'+sLen*ei.size+0)=i-sLen*ei.size from by omega];obtain⟨y,hy⟩:∃ y,newU.toList[i-sLen*ei.size]?=some y:=⟨_,List.getElem?_eq_getElem (by omega)⟩;rw[hy]
        ·intro ei' hei';rw[he] at hei';cases hei';simp only[pv];omega
        ·simp only[pv];omega
       have k1:=R.dr (H:=s.look) hR (show s.look a.block=_ from hH) rfl p1 p4 _ off' (sCap+l.extra-(sLen+n)) hobj;have k2:=Ext.dr (H:=s.look) (w:=w) hR.jZ hfree (show s.look a.block=_ from hH) rfl p1 p4 (.cells (tC arr (off'+sLen*ei.size+0) newU.toList) e' (0,0)) off' (sCap+l.extra-(sLen+n))
        (.cells c' z' ((sLen+n)*ei.size) e true false (s.aO+1))
       have hlook:((s.kill a.block).new fun v=>bU.cells c' z' ((sLen+n)*ei.size) e true false v).look =
         fI (fI s.look a.block .dead) s.next (.cells c' z' ((sLen+n)*ei.size) e true false (s.aO+1)):=by
        rw[WC];show fI (s.kill a.block).look s.next _=_;rw[show (s.kill a.block).look=fI s.look a.block .dead from jz s _ _];rfl
       refine⟨.slice (some ⟨l.bL,off',none⟩) (sLen+n) (sCap+l.extra),ι.add s.next ⟨l.bL,off',sCap+l.extra-(sLen+n),false⟩,World.gR w l.bL (.cells (tC arr (off'+sLen*ei.size+0) newU.toList) e' (0,0)),?_,?_,?_,?_⟩
       ·rw[hfit hfc];simp only[Addr.qF];rw[hst];rfl
       ·have:=VR.slice (ι:=ι.add s.next ⟨l.bL,off',sCap+l.extra-(sLen+n),false⟩) (o:=0) (sLen+n) (sLen+n) (aP.add_same ι s.next _);simpa [show sLen+n+(sCap+l.extra-(sLen+n))=sCap+l.extra from by omega] using this
       ·unfold RS;simp only[if_true];rw[hlook];exact k1
       ·unfold ES;simp only[if_true];rw[hlook];exact k2
      ·
       obtain⟨newCap,w1,k1,k2,k3,k4,k5,k6⟩:=hgrow hfc h40 hb47;have hrun:=k6 oldU newU (holdrun w1 k1) (hfirst w1 k1);have hs1:∃ s1:St,s1=(if room then s.kill a.block else s)∧s1.next=s.next∧RS P ι s1 w∧ES ι s w ι s1 w:=by
        cases room with
        | true=>exact⟨_,rfl,rfl,(hR.kill a.block).1,(hR.kill a.block).2⟩
        | false=>exact⟨_,rfl,rfl,hR,Ext.refl⟩
       obtain⟨s1,hs1,hn1,hR1,hE1⟩:=hs1;rw[← hs1];obtain⟨ι',w',q1,q2,q3,q4⟩:=By hR1 k1 k2 k3 k4 he hzs hLU hLlen k5 hcells;rw[hn1] at q2;refine⟨_,ι',w',?_,q2,q3,Ext.trans hE1 q4⟩;rw[hrun,q1]
     ·cases h
    ·cases h
   ·cases h
end Go.Dust
