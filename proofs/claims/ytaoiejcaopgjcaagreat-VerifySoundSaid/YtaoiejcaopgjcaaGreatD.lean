/- The plain interpreter D and its laws (Df Dg). -/
import Derived.Test.YtaoiejcaopgjcaaGreatC
import Derived.Laws.Tables
import Derived.IntWalk
set_option linter.unusedVariables false
set_option linter.unusedSimpArgs false
namespace Go.Dust
variable {P:Program} {ι:cR} {H:aY} {n:Nat} {w:World}
inductive PRs (ι:cR):List (Nat×Value)→List (Nat×Value)→Prop
 | nil:PRs ι [] []
 | cons {i:Nat} {v u:Value} {l l':List (Nat×Value)} (h:VR ι v u) (t:PRs ι l l'):PRs ι ((i,v)::l) ((i,u)::l')
theorem eF.setIf {cs ds:Array Value} (h:eF ι cs.toList ds.toList) {v u:Value} (hv:VR ι v u) (i:Nat):eF ι (cs.setIfInBounds i v).toList (ds.setIfInBounds i u).toList:=by
 refine .ay (by simpa using h.length) ?_
 intro j x y hx hy
 have hsz:=h.size
 simp only[Array.toList_setIfInBounds,List.getElem?_set] at hx hy
 by_cases hij:i=j
 ·subst hij
  simp only[if_true] at hx hy
  split at hx
  ·simp only[Option.some.injEq] at hx;subst hx
   split at hy
   ·simp only[Option.some.injEq] at hy;subst hy;exact hv
   ·cases hy
  ·cases hx
 ·simp only[hij,if_false] at hx hy
  exact h.get j hx hy
theorem VJ:∀ (vs us:List Value) (k off:Nat) (cs ds:Array Value),eF ι vs us→eF ι cs.toList ds.toList →
  eF ι ((vs.zipIdx k).foldl (fun cs (x:Value×Nat)=>cs.setIfInBounds (off+x.2) x.1) cs).toList ((us.zipIdx k).foldl (fun cs (x:Value×Nat)=>cs.setIfInBounds (off+x.2) x.1) ds).toList
 | _,_,_,_,_,_,.nil,h=>by simpa using h
 | v::vs,u::us,k,off,cs,ds,.cons hv t,h=>by
  simp only[List.zipIdx_cons,List.foldl_cons]
  exact VJ vs us (k+1) off _ _ t (h.setIf hv _)
theorem uC {place:Nat→Option (Nat×Nat)}:∀ {parts parts':List (Nat×Value)} (_:PRs ι parts parts') {cs ds:Array Value} (_:eF ι cs.toList ds.toList) {r:Array Value},
  Instr.fill place cs parts=some r→∃ r',Instr.fill place ds parts'=some r'∧eF ι r.toList r'.toList
 | _,_,.nil,cs,ds,h,r,hr=>by
  simp only[Instr.fill,Option.some.injEq] at hr;subst hr
  exact⟨ds,rfl,h⟩
 | _,_,.cons (i:=i) (v:=v) (u:=u) hv t,cs,ds,h,r,hr=>by
  simp only[Instr.fill] at hr ⊢
  split at hr
  ·cases hr
  ·rename_i off size hp
   split at hr
   ·cases hr
   ·rename_i hc
    have hvc:=hv.cells
    have hsz:v.cells.size=u.cells.size:=hvc.size
    have hcs:cs.size=ds.size:=h.size
    rw[← hsz,← hcs,if_neg hc]
    refine uC t ?_ hr
    rw[← Array.foldl_toList,← Array.foldl_toList]
    simpa using VJ _ _ 0 off cs ds hvc h
theorem GB:∀ (fs:List Field),fs.all (fun f=>((env P).ty f.type).isSome)=true →
  (fs.mapM fun f=>Prod.mk f.offset <$> sizeOf f.type).run P w=.ok (fs.map fun f=>(f.offset,match (env P).ty f.type with | some ti=>ti.size | none=>0)) w
 | [],_=>by simp
 | f::fs,h=>by
  simp only[List.all_cons,Bool.and_eq_true] at h
  obtain⟨ti,hti⟩:=Option.isSome_iff_exists.1 h.1
  simp[List.mapM_cons,cU hti,GB fs h.2,hti]
theorem UA {t:TypeId} {parts parts':List (Nat×Value)} (hp:PRs ι parts parts') {v:Value} (h:fJ (env P) t parts=some v) (pa:Array (Nat×Value)) (hpa:pa.toList=parts') :
  iL P ι w (Instr.build t pa) v:=by
 unfold iL
 unfold fJ at h
 split at h
 ·rename_i fields sz by_ z ag me cm ht
  split at h
  ·rename_i hall
   split at h
   ·rename_i cs hf
    simp only[Option.some.injEq] at h;subst h
    have hz:VR ι z z:=.closed (jG ht rfl)
    obtain⟨r',g1,g2⟩:=uC hp hz.cells hf
    refine⟨.agg r',?_,.rf g2⟩
    have hpl:=GB (P:=P) (w:=w) fields.toList hall
    have g1':Instr.fill (fun x=>(fields.map fun f=>(f.offset,match (env P).ty f.type with | some ti=>ti.size | none=>0))[x]?) z.cells pa.toList=some r':=by rw[hpa];exact g1
    simp only[Instr.build,Sem.run_bind,jV ht rfl,aK ht,Result.andThen_ok]
    have hm:((fields.mapM fun f=>do pure (f.offset,← sizeOf f.type)):Sem (Array (Nat×Nat))).run P w=.ok (fields.map fun f=>(f.offset,match (env P).ty f.type with | some ti=>ti.size | none=>0)) w:=by
     rw[Array.mapM_eq_mapM_toList]
     have:(fun(f:Field)=>(do pure (f.offset,← sizeOf f.type):Sem (Nat×Nat)))=fun f=>Prod.mk f.offset <$> sizeOf f.type:=by
      funext f;rfl
     rw[this,Sem.run_map,hpl]
     simp only[Result.andThen_ok]
     congr 1
     apply Array.toList_inj.1
     simp
    rw[hm]
    simp only[Result.andThen_ok,g1']
    rfl
   ·cases h
  ·cases h
 ·rename_i len e sz by_ z ag me cm ht
  split at h
  ·rename_i ei he
   split at h
   ·rename_i cs hf
    simp only[Option.some.injEq] at h;subst h
    have hz:VR ι z z:=.closed (jG ht rfl)
    obtain⟨r',g1,g2⟩:=uC hp hz.cells hf
    refine⟨.agg r',?_,.rf g2⟩
    simp only[Instr.build,Sem.run_bind,jV ht rfl,aK ht,Result.andThen_ok,cU he,hpa,g1]
    rfl
   ·cases h
  ·cases h
 ·cases h
theorem GU {s:TypeId} {x x' v:Value} {f:Nat} (hx:VR ι x x') (h:aO (env P) s x f=some v):iL P ι w (Instr.fieldAt s x' f) v:=by
 unfold iL
 unfold aO at h
 split at h
 ·rename_i fields sz by_ ze ag me cm a hx ht
  obtain⟨ab,ao,l,rfl,hl,rfl⟩:=nI hx
  split at h
  ·rename_i fd hfd hs
   split at h
   ·rename_i ti hti
    split at h
    ·cases h
    ·rename_i hsz
     simp only[Option.some.injEq] at h;subst h
     refine⟨.pointer (some ⟨l.dR,l.off+(ao+fd.offset),none⟩),?_,by rw[Addr.gF];exact .ptr hl⟩
     simp only[Instr.fieldAt,Sem.run_bind,aK ht,Result.andThen_ok,hfd,Instr.sureAddr,Sem.run_pure,fieldPlace,cU hti,hsz,if_false,Addr.gF,Nat.add_assoc]
   ·cases h
  ·cases h
 ·cases h
theorem GX {t:TypeId} {x x' i i' v:Value} (hx:VR ι x x') (hi:VR ι i i') (h:bQ (env P) t x i=some v):iL P ι w (Instr.indexAt t x' i') v:=by
 unfold iL
 unfold bQ at h
 split at h
 ·rename_i e sz by_ ze ag me cm a len cap k m ht
  rw[hi.int_eq]
  obtain⟨ab,ao,aAm⟩:=a
  split at h
  ·rename_i ei he hs
   cases (show aAm=none from hs)
   obtain⟨l,hl,rfl⟩:=PB hx
   split at h
   ·rename_i hb
    simp only[Option.some.injEq] at h;subst h
    refine⟨.pointer (some ⟨l.dR,l.off+(ao+m.toNat*ei.size),none⟩),?_,by rw[Addr.gF];exact .ptr hl⟩
    simp only[Instr.indexAt,asIntOf,Sem.run_bind,Sem.run_pure,aK ht,Result.andThen_ok,cU he,hb,and_self,if_true,Addr.gF,Nat.add_assoc]
   ·cases h
  ·cases h
 ·rename_i len e sz by_ ze ag me cm a k m ht
  rw[hi.int_eq]
  obtain⟨ab,ao,aAm⟩:=a
  split at h
  ·rename_i ei he hs
   cases (show aAm=none from hs)
   obtain⟨_,_,l,e1,hl,rfl⟩:=nI hx
   cases e1
   split at h
   ·rename_i hb
    simp only[Option.some.injEq] at h;subst h
    refine⟨.pointer (some ⟨l.dR,l.off+(ao+m.toNat*ei.size),none⟩),?_,by rw[Addr.gF];exact .ptr hl⟩
    simp only[Instr.indexAt,asIntOf,Instr.sureAddr,Sem.run_bind,Sem.run_pure,aK ht,Result.andThen_ok,cU he,hb,and_self,if_true,Addr.gF,Nat.add_assoc]
   ·cases h
  ·cases h
 ·cases h
theorem VQ {t:TypeId} {x x' i i' v:Value} (hx:VR ι x x') (hi:VR ι i i') (h:uH (env P) t x i=some v):iL P ι w (Instr.index t x' i') v:=by
 unfold iL
 unfold uH at h
 split at h
 ·rename_i sz by_ ze ag me cm s k m hx hi ht
  rw[hi.int_eq,hx.gA]
  split at h
  ·rename_i h0
   split at h
   ·rename_i b hb
    simp only[Option.some.injEq] at h;subst h
    refine⟨_,?_,.int _ _⟩
    simp only[Instr.index,asIntOf,Sem.run_bind,Sem.run_pure,aK ht,Result.andThen_ok,h0,if_true,hb]
   ·cases h
  ·cases h
 ·rename_i len e sz by_ ze ag me cm cs k m hx hi ht
  rw[hi.int_eq]
  obtain⟨cs',rfl,hcs⟩:=hx.AY
  split at h
  ·rename_i ei he
   split at h
   ·rename_i hb
    obtain⟨u,g1,g2⟩:=rL (P:=P) (w:=w) hcs h
    refine⟨u,?_,g2⟩
    simp only[Instr.index,asIntOf,Sem.run_bind,Sem.run_pure,aK ht,Result.andThen_ok,hb,and_self,if_true,cU he,g1]
   ·cases h
  ·cases h
 ·cases h
theorem VH {t:TypeId} {x x' v:Value} {f:Nat} (hx:VR ι x x') (h:wD (env P) t x f=some v):iL P ι w (Instr.field t x' f) v:=by
 unfold iL
 unfold wD at h
 split at h
 ·rename_i fields sz by_ ze ag me cm cs hx ht
  obtain⟨cs',rfl,hcs⟩:=hx.AY
  split at h
  ·rename_i fd hfd
   obtain⟨u,g1,g2⟩:=rL (P:=P) (w:=w) hcs h
   refine⟨u,?_,g2⟩
   simp only[Instr.field,asAgg,Sem.run_bind,Sem.run_pure,aK ht,Result.andThen_ok,hfd,g1]
  ·cases h
 ·cases h
theorem RW {want:Array (String×TypeId)} {got:Array Method} (h:rH want got=true):Instr.missingMethod want got=none:=by
 unfold Instr.missingMethod
 have uG:(want.toList.filter fun(name,sig)=>!got.any fun m=>m.name==name&&m.sig==sig)=[]:=by
  rw[List.filter_eq_nil_iff]
  intro x hx
  have:=List.all_eq_true.1 h x hx
  simp at this ⊢
  exact this
 simp[uG,Instr.least]
theorem VT (p:String→Bool) (f:String→String):∀ (l:List String),l≠[]→(Instr.least (l.partition p).2 <|> Instr.least ((l.partition p).1.map f))≠none
 | [],h=>absurd rfl h
 | x::l,_=>by
  rw[List.partition_eq_filter_filter]
  simp only[List.filter_cons]
  cases hc:p x <;> simp[hc,Instr.least]
theorem RY {want:Array (String×TypeId)} {got:Array Method} (h:rH want got=false):∃ m,Instr.missingMethod want got=some m:=by
 have hne:(want.toList.filter fun(name,sig)=>!got.any fun m=>m.name==name&&m.sig==sig)≠[]:=by
  intro uG
  rw[List.filter_eq_nil_iff] at uG
  have:rH want got=true:=by
   unfold rH
   rw[List.all_eq_true]
   intro x hx
   have:=uG x hx
   simp at this ⊢
   exact this
  rw[this] at h;cases h
 cases hm:Instr.missingMethod want got with
 | some m=>exact⟨m,rfl⟩
 | none =>
  unfold Instr.missingMethod at hm
  exact(VT _ _ ((want.toList.filter fun(name,sig)=>!got.any fun m=>m.name==name&&m.sig==sig).map (·.1)) (by simpa using hne) hm).elim
theorem EV {x x' v:Value} {xt t:TypeId} {ok:Bool} (hx:VR ι x x') (h:jF (env P) x t ok=some v):iL P ι w (Instr.typeAssert x' xt t ok) v:=by
 unfold iL
 unfold jF at h
 split at h
 ·rename_i want sz by_ z ag me cm dt dv hx ht
  cases hx with
  | iface _ hv =>
  rename_i dv'
  split at h
  ·rename_i di hdi
   obtain⟨inf,e1,_,e3⟩:=rQ (w:=w) hdi
   split at h
   ·rename_i hm
    rw[e3.symm] at hm
    have hmm:=RW hm
    simp only[Instr.typeAssert,Sem.run_bind,aK ht,Result.andThen_ok,e1,hmm,Sem.run_pure]
    simp only[Option.some.injEq] at h;subst h
    cases ok
    ·exact⟨_,rfl,.iface _ hv⟩
    ·exact⟨_,rfl,oF (.iface _ hv) _⟩
   ·rename_i hm
    rw[e3.symm] at hm
    obtain⟨m,hmm⟩:=RY (by simpa using hm)
    split at h
    ·rename_i hok
     subst hok
     simp only[Option.some.injEq] at h;subst h
     simp only[Instr.typeAssert,Sem.run_bind,aK ht,Result.andThen_ok,e1,hmm,if_true,jV ht rfl,Sem.run_pure]
     exact⟨_,rfl,oF (.closed (jG ht rfl)) _⟩
    ·cases h
  ·cases h
 ·cases h
 ·rename_i di dt dv hn1 hn2 ht
  cases hx with
  | iface _ hv =>
  rename_i dv'
  have hni:∀ m,di.desc≠.interface m:=by
   intro m hm
   obtain⟨dd,a1,a2,a3,a4,a5,a6⟩:=di
   simp only at hm
   subst hm
   exact hn2 _ _ _ _ _ _ _ rfl
  split at h
  ·rename_i hdt
   subst hdt
   simp only[Option.some.injEq] at h;subst h
   have hrun:(Instr.typeAssert (.iface dt dv') xt dt ok).run P w=.ok (if ok then .tuple #[dv',.bool true] else dv') w:=by
    unfold Instr.typeAssert
    simp only[Sem.run_bind,aK ht,Result.andThen_ok]
    cases hd:di.desc with
    | interface m=>exact(hni m hd).elim
    | _=>simp
   refine⟨_,hrun,?_⟩
   cases ok
   ·exact hv
   ·exact oF hv _
  ·cases h
 ·cases h
theorem OP:∀ {l l':List Value} {v v' r:Value},VR ι v v'→eF ι l l'→eT (fun x y=>decide (y<x)) v l=some r→iL P ι w (l'.foldlM Builtin.min2 v') r
 | [],_,v,v',r,hv,.nil,h=>by
  simp only[eT,Option.some.injEq] at h;subst h
  exact⟨v',by simp,hv⟩
 | u::l,u'::l',v,v',r,hv,.cons hu t,h=>by
  unfold eT at h
  split at h
  ·rename_i heq;cases heq
  ·rename_i k x k' y rest heq
   cases heq
   split at h
   ·rename_i hk
    subst hk
    rw[hv.int_eq,hu.int_eq]
    obtain⟨r',g1,g2⟩:=OP (VR.int (ι:=ι) k (if decide (y<x)=true then y else x)) t h
    refine⟨r',?_,g2⟩
    simp only[List.foldlM_cons,Builtin.min2,Sem.run_bind,Sem.run_pure,Result.andThen_ok]
    simpa using g1
   ·cases h
  ·cases h
theorem OO:∀ {l l':List Value} {v v' r:Value},VR ι v v'→eF ι l l'→eT (fun x y=>decide (y>x)) v l=some r→iL P ι w (l'.foldlM Builtin.max2 v') r
 | [],_,v,v',r,hv,.nil,h=>by
  simp only[eT,Option.some.injEq] at h;subst h
  exact⟨v',by simp,hv⟩
 | u::l,u'::l',v,v',r,hv,.cons hu t,h=>by
  unfold eT at h
  split at h
  ·rename_i heq;cases heq
  ·rename_i k x k' y rest heq
   cases heq
   split at h
   ·rename_i hk
    subst hk
    rw[hv.int_eq,hu.int_eq]
    obtain⟨r',g1,g2⟩:=OO (VR.int (ι:=ι) k (if decide (y>x)=true then y else x)) t h
    refine⟨r',?_,g2⟩
    simp only[List.foldlM_cons,Builtin.max2,Sem.run_bind,Sem.run_pure,Result.andThen_ok]
    simpa using g1
   ·cases h
  ·cases h
theorem ot (hR:R (env P) ι H n w) {t:TypeId} {x x' v:Value} (hx:VR ι x x') (h:fA (env P) H t x=some v) (ts:Array TypeId) (hts:ts[0]?=some t) (rt:TypeId) :
  iL P ι w (Builtin.len_ ts rt #[x']) v:=by
 unfold iL
 unfold fA at h
 cases ht:(env P).ty t with
 | none=>rw[ht] at h;cases h
 | some i =>
  rw[ht] at h
  simp only at h
  have hun:=aK (w:=w) ht
  split at h
  ·rename_i hd
   rw[hx.gA]
   simp only[Option.some.injEq] at h;subst h
   refine⟨_,?_,.int _ _⟩
   simp[goInt,Builtin.len_,hts,hun,hd]
  ·rename_i hd
   simp only[Option.some.injEq] at h;subst h
   refine⟨_,?_,.int _ _⟩
   simp[goInt,Builtin.len_,hts,hun,hd]
  ·rename_i hd
   simp only[Option.some.injEq] at h;subst h
   refine⟨_,?_,.int _ _⟩
   cases hx <;> simp[goInt,Builtin.len_,hts,hun,hd]
  ·rename_i hd
   simp only[Option.some.injEq] at h;subst h
   rw[rJ hx]
   refine⟨_,?_,.int _ _⟩
   simp[goInt,Builtin.len_,hts,hun,hd]
  ·rename_i r hd
   obtain⟨l,hl,rfl⟩:=uL hx
   split at h
   ·rename_i es c hm
    simp only[Option.some.injEq] at h;subst h
    obtain⟨l',es',q1,q2,q3,q4,q5,q6⟩:=pD hR hm
    rw[hl] at q1;cases q1
    refine⟨_,?_,.int _ _⟩
    have:=q6.length
    simp[goInt,Builtin.len_,hts,hun,hd,hZ q5,this]
   ·cases h
  ·cases h
theorem sN.find {b:Nat}:∀ {es es':List MapEntry} {e:MapEntry},sN ι es es'→es.find? (fun x=>x.born==b)=some e→∃ e',es'.find? (fun x=>x.born==b)=some e'∧ER ι e e'
 | _,_,_,.nil,h=>by cases h
 | x::es,x'::es',e,.cons hx t,h=>by
  simp only[List.find?_cons] at h ⊢
  rw[← hx.born]
  cases hb:(x.born==b) with
  | true =>
   rw[hb] at h
   simp only[Option.some.injEq] at h;subst h
   exact⟨x',rfl,hx⟩
  | false =>
   rw[hb] at h
   exact sN.find t h
theorem UP (hR:R (env P) ι H n w) {x x' v:Value} (hx:VR ι x x') (h:nZ H x=some v):iL P ι w (Instr.entry x') v:=by
 unfold iL
 unfold nZ at h
 split at h
 ·rename_i a hx
  obtain⟨ab,ao,l,rfl,hl,rfl⟩:=nI hx
  split at h
  ·rename_i h0
   cases (show ao=0 from h0.1)
   simp only at h
   split at h
   ·rename_i m since last rest stepped dF hH
    obtain⟨l',g1,g2,g3,g4,lm,g5,g6⟩:=hR.obj _ _ hH rfl
    rw[hl] at g1;cases g1
    split at h
    ·rename_i es clock hm
     obtain⟨l'',es',q1,q2,q3,q4,q5,q6⟩:=pD hR hm
     rw[g5] at q1;cases q1
     split at h
     ·rename_i hc
      subst hc
      split at h
      ·rename_i e hf
       simp only[Option.some.injEq] at h;subst h
       obtain⟨e',r1,r2⟩:=q6.find hf
       refine⟨.tuple #[e'.key,e'.val],?_,.tuple' (.cons r2.key (.cons r2.val .nil))⟩
       have hg:(getObj l.dR).run P w=.ok (.mapIter (some lm.dR) since (last::rest).reverse.toArray clock) w:=by simp[getObj,Sem.run,g6]
       have hback:((last::rest).reverse.toArray).back?=some last:=by simp
       have r1':es'.find? (fun x=>x.born==last)=some e':=by simpa using r1
       have hxx:(⟨l.dR,l.off+0,none⟩:Addr)=⟨l.dR,0,none⟩:=by rw[g3]
       rw[hxx]
       simp only[Instr.entry,Sem.run_bind,hg,Result.andThen_ok,hback,hZ q5,bne_self_eq_false,Bool.false_eq_true,if_false,Sem.run_pure,r1']
      ·cases h
     ·cases h
    ·cases h
   ·cases h
  ·cases h
 ·cases h
theorem eF.xj {ρ ρc:Operand→Value} (a:Array Operand) (h:∀ x∈a.toList,VR ι (ρ x) (ρc x)):eF ι (a.map ρ).toList (a.map ρc).toList:=by
 simp only[Array.toList_map]
 exact .map₂ _ h
theorem yu {ρ ρc:Operand→Value} (o:Option Operand) (h:∀ x∈o.toArray.toList,VR ι (ρ x) (ρc x)):NG ι (o.map ρ) (o.map ρc):=by
 cases o with
 | none=>trivial
 | some x=>exact h x (by simp)
theorem GM (hR:R (env P) ι H n w) {ρ ρc:Operand→Value} {o:Oper} (hρ:∀ x∈o.op.operands.toList,VR ι (ρ x) (ρc x)) {v:Value} (h:bS (env P) H ρ o.op=some v) :
  ∃ v',(execOp ρc o).run P w=.ok (.value v') w∧VR ι v v':=by
 have lift:∀ (s:Sem Value),iL P ι w s v→∃ v',(do pure (.value (← s)):Sem Next).run P w=.ok (.value v') w∧VR ι v v':=by
  rintro s ⟨v',h1,h2⟩
  exact⟨v',by simp[h1],h2⟩
 unfold execOp
 cases hop:o.op <;> rw[hop] at h hρ <;> simp only[bS] at h <;> simp only[Op.operands] at hρ
 case move x =>
  simp only[Option.some.injEq] at h;subst h
  exact⟨_,rfl,hρ x (by simp)⟩
 case assign x =>
  simp only[Option.some.injEq] at h;subst h
  exact⟨_,rfl,hρ x (by simp)⟩
 case pick c a b =>
  have hc:=hρ c (by simp)
  split at h
  ·rename_i t hcv
   rw[hcv] at hc
   simp only[Option.some.injEq] at h;subst h
   refine⟨if t then ρc a else ρc b,by simp[hc.kT,asBool],?_⟩
   cases t
   ·exact hρ b (by simp)
   ·exact hρ a (by simp)
  ·cases h
 case build t parts =>
  refine lift _ ?_
  refine UA ?_ h _ rfl
  have:∀ (l:List (Nat×Operand)),(∀ x∈l,VR ι (ρ x.2) (ρc x.2))→PRs ι (l.map fun(i,x)=>(i,ρ x)) (l.map fun(i,x)=>(i,ρc x)):=by
   intro l
   induction l with
   | nil=>intro _;exact .nil
   | cons y l ih=>intro hl;exact .cons (hl y (by simp)) (ih fun z hz=>hl z (by simp[hz]))
  rw[Array.toList_map]
  exact this _ fun x hx=>hρ _ (by simp;exact⟨x.1,by simpa using hx⟩)
 case load t a =>
  split at h
  ·rename_i ad ha
   have hv:=hρ a (by simp)
   rw[ha] at hv
   obtain⟨b,o',l,rfl,hl,he⟩:=nI hv
   refine lift _ ?_
   rw[he]
   obtain⟨v',g1,g2⟩:=FQ hR hl h
   exact⟨v',by simp[Instr.loadAt,Instr.sureAddr,g1],g2⟩
  ·cases h
 case nilCheck x =>
  have hv:=hρ x (by simp)
  dsimp only
  generalize ρc x=u at hv
  generalize ρ x=y at hv h
  unfold mT at h
  split at h
  ·simp only[Option.some.injEq] at h;subst h
   obtain⟨_,_,l,rfl,hl,rfl⟩:=nI hv
   exact⟨_,rfl,.ptr hl⟩
  ·simp only[Option.some.injEq] at h;subst h
   obtain⟨a',b',rfl,h1,h2⟩:=hv.BU
   exact⟨_,rfl,hv⟩
  ·simp only[Option.some.injEq] at h;subst h
   cases hv with
   | yield hl=>exact⟨_,rfl,.yield hl⟩
  ·simp only[Option.some.injEq] at h;subst h
   cases hv with
   | iface _ hvv=>exact⟨_,rfl,.iface _ hvv⟩
  ·cases h
 case binOp op t x y yt =>
  refine lift _ ?_
  exact TV hR (hρ x (by simp)) (hρ y (by simp)) h
 case unOp op t x =>
  exact lift _ (cy (hρ x (by simp)) h)
 case convert s d x =>
  exact lift _ (MQ (hρ x (by simp)) h)
 case makeInterface t x =>
  split at h
  ·rename_i i hi
   have hv:=hρ x (by simp)
   refine lift _ ⟨.iface t (ρc x),?_,?_⟩
   ·unfold Instr.makeInterface
    simp only[Sem.run_bind,aK hi,Result.andThen_ok]
    split at h
    ·cases h
    ·rename_i hne
     cases hd:i.desc with
     | interface m=>exact(hne m hd).elim
     | _=>rfl
   ·split at h
    ·cases h
    ·simp only[Option.some.injEq] at h;subst h
     exact .iface _ hv
  ·cases h
 case makeFunc fn first captured =>
  have h1:=eF.xj (ι:=ι) (ρ:=ρ) (ρc:=ρc) first fun x hx=>hρ x (by simp at hx ⊢;exact .inl hx)
  have h2:=eF.xj (ι:=ι) (ρ:=ρ) (ρc:=ρc) captured fun x hx=>hρ x (by simp at hx ⊢;exact .inr hx)
  split at h
  ·simp only[Option.some.injEq] at h;subst h
   exact lift _ ⟨_,rfl,.func h1.size h2.size h1.arr h2.arr⟩
  ·simp only[Option.some.injEq] at h;subst h
   exact lift _ ⟨_,rfl,.ak h1.size h2.size h1.arr h2.arr⟩
  ·cases h
 case slice t x lo hi mx =>
  refine lift _ (XT hR (hρ x (by simp)) (yu lo ?_) (yu hi ?_) (yu mx ?_) h)
  ·intro y hy;exact hρ y (by simp at hy ⊢;simp[hy])
  ·intro y hy;exact hρ y (by simp at hy ⊢;simp[hy])
  ·intro y hy;exact hρ y (by simp at hy ⊢;simp[hy])
 case fieldAddr s x f=>exact lift _ (GU (hρ x (by simp)) h)
 case field t x f=>exact lift _ (VH (hρ x (by simp)) h)
 case indexAddr t x i=>exact lift _ (GX (hρ x (by simp)) (hρ i (by simp)) h)
 case index t x i=>exact lift _ (VQ (hρ x (by simp)) (hρ i (by simp)) h)
 case lookup t x k ok=>exact lift _ (RP hR (hρ x (by simp)) (hρ k (by simp)) h)
 case extract t i =>
  have hv:=hρ t (by simp)
  split at h
  ·rename_i vs hvs
   rw[hvs] at hv
   obtain⟨vs',he,hr⟩:=hv.qt
   obtain⟨u,g1,g2⟩:=hr.uE i (v:=v) (by simpa using h)
   refine lift _ ⟨u,?_,g2⟩
   have g1':vs'[i]?=some u:=by simpa using g1
   simp[he,Instr.extract,g1']
  ·cases h
 case entry it=>exact lift _ (UP hR (hρ it (by simp)) h)
 case typeAssert x xt t ok=>exact lift _ (EV (hρ x (by simp)) h)
 case call c =>
  obtain⟨callee,args,argTypes⟩:=c
  simp only at h
  have hargs:eF ι (args.toList.map ρ) (args.toList.map ρc):=.map₂ _ fun x hx=>hρ x (by simp[Call.operands];exact .inr (by simpa using hx))
  have hrun:∀ b,callee=.builtin b→(resolve ρc {callee,args,argTypes} o.type).run P w=.ok {target:=.builtin b argTypes o.type (args.map fun | .const _=>true | _=>false),args:=args.map ρc} w:=by
   intro b hb;subst hb;rfl
  split at h
  ·have hr:=hrun _ rfl
   simp only[Sem.run_bind,hr,Result.andThen_ok,invoke,builtin]
   split at h
   ·rename_i t x ht hx
    have hlen:=ot hR (hρ x (by simp[Call.operands];exact Array.mem_of_getElem? hx)) h argTypes ht o.type
    obtain⟨v',g1,g2⟩:=hlen
    refine⟨v',?_,g2⟩
    have hx':(args.map ρc)[0]?=some (ρc x):=by simp[hx]
    have:(Builtin.len_ argTypes o.type (args.map ρc)).run P w=.ok v' w:=by
     rw[← g1]
     unfold Builtin.len_
     simp only[ht,hx']
     simp
    simp[this]
   ·cases h
  ·have hr:=hrun _ rfl
   simp only[Sem.run_bind,hr,Result.andThen_ok,invoke,builtin]
   split at h
   ·rename_i v0 rest hl
    rw[hl] at hargs
    generalize hl':args.toList.map ρc=l' at hargs
    cases hargs with
    | cons hv ht =>
    obtain⟨v',g1,g2⟩:=OP (P:=P) (w:=w) hv ht h
    refine⟨v',?_,g2⟩
    simp only[Builtin.min_,Array.toList_map,hl',g1,Result.andThen_ok,Sem.run_pure]
   ·cases h
  ·have hr:=hrun _ rfl
   simp only[Sem.run_bind,hr,Result.andThen_ok,invoke,builtin]
   split at h
   ·rename_i v0 rest hl
    rw[hl] at hargs
    generalize hl':args.toList.map ρc=l' at hargs
    cases hargs with
    | cons hv ht =>
    obtain⟨v',g1,g2⟩:=OO (P:=P) (w:=w) hv ht h
    refine⟨v',?_,g2⟩
    simp only[Builtin.max_,Array.toList_map,hl',g1,Result.andThen_ok,Sem.run_pure]
   ·cases h
  ·cases h
 all_goals cases h
variable {P:Program} {ι:cR} {H:aY} {n:Nat} {w:World}
abbrev gN (w:World):Loc:=⟨w.heap.size,0,0,false⟩
theorem KI {X:Env} {l l':List Value} (hl:eF ι l l') (e e':TypeId) (dF m:Nat) (hm:m=l.length) (arr:Array Value) (harr:arr.toList=l') :
  nV X ι (w.alloc (.cells arr e' (0,0))) (gN w) (.cells (PT.ofList l) [] m e false false dF):=by
 subst hm
 have hlen:=hl.length
 have hsz:arr.size=l.length:=by rw[hlen,← harr];simp
 refine⟨arr,e',(0,0),heap_alloc_new,fun _=>rfl,rfl,fun _=>rfl,?_,?_,?_⟩
 ·intro ei _;simp[hsz]
 ·simp[hsz]
 ·intro i hi
  have hg:l[i]?=some l[i]:=List.getElem?_eq_getElem hi
  obtain⟨u,h1,h2⟩:=hl.uE i hg
  refine⟨l[i],u,?_,?_,h2⟩
  ·unfold cellAt
   rw[if_pos hi,PT.fE,hg]
  ·simp only[Nat.zero_add]
   rw[← harr] at h1
   simpa using h1
theorem GV {z:Value} (hz:uA z=true) (m:Nat):eF ι ((Array.range m).map (z.cells[·%z.cells.size]!)).toList ((Array.range m).map (z.cells[·%z.cells.size]!)).toList:=by
 simp only[Array.toList_map]
 refine .map₂ _ fun i _=>?_
 have hc:eF ι z.cells.toList z.cells.toList:=VR.cells (.closed hz)
 by_cases h:i%z.cells.size<z.cells.size
 ·rw[getElem!_pos z.cells _ h]
  exact hc.arr (i%z.cells.size) _ _ (by simp[h]) (by simp[h])
 ·rw[getElem!_neg z.cells _ h]
  exact .bool _
theorem wrap_small {x:Int} (h0:0≤x) (h1:x<2 ^ 40):IntKind.i64.wrap x=x:=IntWalk.i64_in _ (by omega)
theorem KA {α:Type} (f:Nat→α):(Array.range 0).map f=#[]:=by simp
theorem run_makeSlice {t e:TypeId} {i ei:Ty} {z:Value} {l c:Int} (ht:(env P).ty t=some i) (hd:i.desc=.slice e) (he:(env P).ty e=some ei) (hz:ei.zero=some z)
  (h0:0≤l) (h1:l≤c) (h2:c<2 ^ 40) (h3:ei.bytes*c≤2 ^ 48) (_:z.cells.size=ei.size) :
  (Instr.makeSlice t (.int .i64 l) (.int .i64 c)).run P w =
   .ok (.slice (some ⟨w.heap.size,0,none⟩) l.toNat c.toNat) (w.alloc (.cells ((Array.range (c.toNat*ei.size)).map (z.cells[·%z.cells.size]!)) e (0,0))):=by
 obtain⟨inf,e1,e2,_⟩:=rQ (w:=w) he
 unfold Instr.makeSlice
 simp only[Sem.run_bind,aK ht,hd,Result.andThen_ok,asInt,asIntOf,Sem.run_pure,e1,e2,wrap_small (x:=l) h0 (by omega),wrap_small (x:=c) (by omega) h2]
 have k1:(decide (c<0)||decide ((ei.bytes:Int)*c>2 ^ 48))=false:=by
  simp only[Bool.or_eq_false_iff,decide_eq_false_iff_not]
  constructor <;> omega
 rw[k1]
 rw[if_neg (by simp;omega)]
 simp only[Sem.run_bind,run_askRoom,Result.andThen_ok,cU he]
 by_cases hn:c.toNat*ei.size=0
 ·rw[if_pos hn]
  simp only[Sem.run_pure,Result.andThen_ok,newRow,Sem.run_bind,run_newObj,hn,KA]
  rfl
 ·rw[if_neg hn]
  simp only[Sem.run_bind,jV he hz,Sem.run_pure,Result.andThen_ok,newRow,run_newObj]
  rfl
theorem EX {nm:Nat} {ρ ρc:Operand→Value} {o:Oper} (hfree:ι nm=none) (hρ:∀ x∈o.op.operands.toList,VR ι (ρ x) (ρc x)) {v:Value} {f:Nat→bX}
  (h:cS (env P) nm ρ o.op=some (v,f)) :
  ∃ u x,(execOp ρc o).run P w=.ok (.value u) (w.alloc x)∧VR (ι.add nm (gN w)) v u∧∀ dF,(f dF).bC=false∧nV (env P) (ι.add nm (gN w)) (w.alloc x) (gN w) (f dF):=by
 have hle:ι.le (ι.add nm (gN w)):=cR.oB hfree
 have hptr:VR (ι.add nm (gN w)) (.pointer (some ⟨nm,0,none⟩)) (.pointer (some ⟨w.heap.size,0,none⟩)):=by
  have:=VR.ptr (ι:=ι.add nm (gN w)) (o:=0) (cR.add_same ι nm (gN w))
  simpa [gN] using this
 have hsl:∀ a b,VR (ι.add nm (gN w)) (.slice (some ⟨nm,0,none⟩) a b) (.slice (some ⟨w.heap.size,0,none⟩) a b):=by
  intro a b
  have:=VR.slice (ι:=ι.add nm (gN w)) (o:=0) a b (cR.add_same ι nm (gN w))
  simpa [gN] using this
 unfold execOp
 cases hop:o.op <;> rw[hop] at h hρ <;> simp only[cS] at h <;> simp only[Op.operands] at hρ
 case alloc e =>
  split at h
  ·rename_i d sz by_ z ag me cm ht
   simp only[Option.some.injEq,Prod.mk.injEq] at h
   obtain⟨rfl,rfl⟩:=h
   have hz:eF (ι.add nm (gN w)) z.cells.toList z.cells.toList:=VR.cells (.closed (jG ht rfl))
   refine⟨_,.cells z.cells e (0,0),?_,hptr,fun dF=>⟨rfl,KI hz e e dF _ (by simp) _ rfl⟩⟩
   simp only[Instr.alloc,Sem.run_bind,jV ht rfl,Result.andThen_ok,newVar,newRow,run_newObj,Sem.run_pure]
   rfl
  ·cases h
 case box e x =>
  simp only[Option.some.injEq,Prod.mk.injEq] at h
  obtain⟨rfl,rfl⟩:=h
  have hv:=((hρ x (by simp)).mono hle).cells
  refine⟨_,.cells (ρc x).cells e (0,0),?_,hptr,fun dF=>⟨rfl,KI hv e e dF _ (by simp) _ rfl⟩⟩
  simp only[Instr.box,Sem.run_bind,Result.andThen_ok,newVar,newRow,run_newObj,Sem.run_pure]
  rfl
 case buildSlice t len parts =>
  split at h
  ·rename_i e sz by_ ze ag me cm ht
   split at h
   ·rename_i d esz eb z ea em ec he
    split at h
    ·rename_i hlen
     split at h
     ·rename_i cs hf
      simp only[Option.some.injEq,Prod.mk.injEq] at h
      obtain⟨rfl,rfl⟩:=h
      have hpr:∀ (l:List (Nat×Operand)),(∀ x∈l,VR ι (ρ x.2) (ρc x.2))→PRs ι (l.map fun(i,x)=>(i,ρ x)) (l.map fun(i,x)=>(i,ρc x)):=by
       intro l
       induction l with
       | nil=>intro _;exact .nil
       | cons y l ih=>intro hl;exact .cons (hl y (by simp)) (ih fun z hz=>hl z (by simp[hz]))
      obtain⟨r',g1,g2⟩:=uC (hpr parts.toList fun x hx=>hρ _ (by simp;exact⟨x.1,by simpa using hx⟩)) (GV (ι:=ι) (jG he rfl) (len*esz)) hf
      have g1':Instr.fill (fun i=>some (i*esz,esz)) ((Array.range (len*esz)).map (z.cells[·%z.cells.size]!)) (parts.map fun(i,x)=>(i,ρc x)).toList=some r':=by
       rw[Array.toList_map];exact g1
      refine⟨_,.cells r' e (0,0),?_,hsl len len,fun dF=>⟨rfl,KI (eF.mono hle g2) e e dF _ (by simp) _ rfl⟩⟩
      have hsize:(sizeOf e).run P w=.ok esz w:=cU he
      simp only[Instr.buildSlice,Sem.run_bind,aK ht,Result.andThen_ok,hsize]
      rw[if_neg (by omega)]
      by_cases h0:len*esz=0
      ·rw[if_pos h0]
       rw[h0] at g1'
       simp only[Sem.run_pure,Sem.run_bind,Result.andThen_ok]
       simp only[h0]
       have g3:Instr.fill (fun i=>some (i*esz,esz)) ((Array.range 0).map ((#[]:Array Value)[·%(#[]:Array Value).size]!)) (parts.map fun(i,x)=>(i,ρc x)).toList=some r':=by
        rw[KA] at g1' ⊢;exact g1'
       simp only[g3,newRow,Sem.run_bind,run_newObj,Result.andThen_ok,Sem.run_pure]
       rfl
      ·rw[if_neg h0]
       simp only[Sem.run_pure,Sem.run_bind,Result.andThen_ok,jV he rfl,g1',newRow,run_newObj]
       rfl
     ·cases h
    ·cases h
   ·cases h
  ·cases h
 case makeMap t r =>
  have hmap:VR (ι.add nm (gN w)) (.map (some nm)) (.map (some w.heap.size)):=.map (cR.add_same ι nm (gN w))
  have hobj:∀ dF,((fun v=>bX.map [] 0 v) dF).bC=false∧nV (env P) (ι.add nm (gN w)) (w.alloc (.map #[] 0)) (gN w) (.map [] 0 dF):=fun dF =>
   ⟨rfl,rfl,rfl,rfl,#[],heap_alloc_new,.nil⟩
  split at h
  ·rename_i k e sz by_ ze ag me cm ht hr
   simp only[Option.some.injEq,Prod.mk.injEq] at h
   obtain⟨rfl,rfl⟩:=h
   cases r with
   | some _=>cases hr
   | none =>
    exact⟨_,.map #[] 0,rfl,hmap,hobj⟩
  ·rename_i k e sz by_ ze ag me cm kk m ht hr
   simp only[Option.some.injEq,Prod.mk.injEq] at h
   obtain⟨rfl,rfl⟩:=h
   cases r with
   | none=>cases hr
   | some x =>
    simp only[Option.map_some,Option.some.injEq] at hr
    have hv:=hρ x (by simp)
    rw[hr] at hv
    refine⟨_,.map #[] 0,?_,hmap,hobj⟩
    simp only[Option.map_some,hv.int_eq,Instr.makeMap,Sem.run_bind,aK ht,Result.andThen_ok,asInt,asIntOf,Sem.run_pure,run_newObj]
    rfl
  ·cases h
 case makeSlice t len cap =>
  split at h
  ·rename_i e sz by_ ze ag me cm l c ht hl hc
   split at h
   ·rename_i d esz eb z ea em ec he
    split at h
    ·rename_i hb
     simp only[Option.some.injEq,Prod.mk.injEq] at h
     obtain⟨rfl,rfl⟩:=h
     have h1:=hρ len (by simp)
     have h2:=hρ cap (by simp)
     rw[hl] at h1
     rw[hc] at h2
     have hrun:=run_makeSlice (w:=w) ht rfl he rfl hb.1 hb.2.1 hb.2.2.1 hb.2.2.2.1 hb.2.2.2.2
     refine⟨_,.cells ((Array.range (c.toNat*esz)).map (z.cells[·%z.cells.size]!)) e (0,0),?_,hsl _ _,fun dF=>⟨rfl,?_⟩⟩
     ·simp only[h1.int_eq,h2.int_eq,Sem.run_bind,hrun,Result.andThen_ok,Sem.run_pure]
     ·refine⟨_,e,(0,0),heap_alloc_new,fun _=>rfl,rfl,fun _=>rfl,?_,?_,?_⟩
      ·intro ei hei;simp
      ·simp
      ·intro i hi
       have hzs:z.cells.size=esz:=hb.2.2.2.2
       have hpos:0<z.cells.size:=by
        rw[hzs]
        by_cases hz0:esz=0
        ·rw[hz0] at hi;simp at hi
        ·omega
       have hmod:i%z.cells.size<z.cells.size:=Nat.mod_lt _ hpos
       have hcl:eF (ι.add nm (gN w)) z.cells.toList z.cells.toList:=VR.cells (.closed (jG he rfl))
       refine⟨z.cells[i%z.cells.size],z.cells[i%z.cells.size],?_,?_,hcl.arr (i%z.cells.size) _ _ (by simp[hmod]) (by simp[hmod])⟩
       ·unfold cellAt
        rw[if_pos hi,PT.get_nil]
        simp[hmod]
       ·simp only[Nat.zero_add]
        rw[Array.getElem?_map]
        simp only[Array.getElem?_range,hi,if_true,Option.map_some];exact congrArg some (getElem!_pos z.cells (i%z.cells.size) hmod)
    ·cases h
   ·cases h
  ·cases h
 all_goals cases h
end Go.Dust
