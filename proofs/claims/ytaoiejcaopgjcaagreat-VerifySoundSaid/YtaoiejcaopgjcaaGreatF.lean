/- The plain interpreter D and its laws (Dj Dk Dl). -/
import Derived.Test.YtaoiejcaopgjcaaGreatE
import Derived.KernelRfl
set_option linter.unusedVariables false
set_option linter.unusedSimpArgs false
namespace Go.Dust
variable {P:Program} {ι:cR} {s s':St} {w:World}
abbrev FW (r:Option Nat):Fence:={Fence.wide with round:=r}
def ka (P:Program) (ι:cR) (s:St) (w:World) (Φ:Value×St→Prop):Ending→World→Prop
 | e,w'=>∃ v u s' ι',e=.returned u∧Φ (v,s')∧VR ι' v u∧RS P ι' s' w'∧ES ι s w ι' s' w'
structure mF (P:Program) (call:eR):Prop where
 fn:∀ f args s Φ,(call f args s).yY Φ→∃ fn,(env P).fn f=some fn∧(fn.body=none→(oN s fn args).yY Φ)
 calls:∀ f fn args (args':Array Value) s w ι Φ (r:Option Nat) (m:Nat),(env P).fn f=some fn→fn.body.isSome=true→(call f args s).yY Φ→eF ι args args'.toList→RS P ι s w →
  CallsIn (FW r) m P f args' w (ka P ι s w Φ)
def mA (P:Program) (round:dK):Prop:=∀ l args (args':Array Value) s w ι Φ (r:Option Nat) (m:Nat),(round l args s).yY Φ→eF ι args args'.toList→RS P ι s w →
 ∃ (loc:Loc) (rec:Loop),ι l=some loc∧w.heap[loc.dR]?=some (.loop rec)∧args'.size=rec.params.size ∧
  RoundIn (FW r) m P loc.dR rec.fn ((rec.params.zip args').foldl (fun tmps (t,a)=>tmps.setIfInBounds t a) rec.tmps) rec.assign rec.body w (ka P ι s w Φ)
section
variable {r:Option Nat} {m:Nat} {o:Oper} {act:Act} {K:Act→World→Prop} {Q:Exit→Act→World→Prop} {w':World}
theorem iU (hd:∀ c,o.op≠.defer c) {u:Value} (h:(execOp act.eval o).run P w=.ok (.value u) w') (hk:K (act.put o.dst u) w'):o.wpIn (FW r) m P act w K Q:=by
 refine⟨fun _ _=>trivial,?_⟩
 rw[Oper.semAt_eq _ _ _ hd,h]
 exact hk
theorem xH (hd:∀ c,o.op≠.defer c) (h:(execOp act.eval o).run P w=.ok .skip w') (hk:K (act.put o.dst undef) w'):o.wpIn (FW r) m P act w K Q:=by
 refine⟨fun _ _=>trivial,?_⟩
 rw[Oper.semAt_eq _ _ _ hd,h]
 exact hk
theorem db (hd:∀ c,o.op≠.defer c) {f:FuncId} {args:Array Value} (h:(execOp act.eval o).run P w=.ok (.enter f args) w')
  (hk:CallsIn (FW r) (m-1) P f args w' fun e w''=>match e with | .returned u=>K (act.put o.dst u) w'' | .panicked chain=>Q (.panic chain) act w'' | .outgrown=>LetsOut Q):o.wpIn (FW r) m P act w K Q:=by
 refine⟨fun _ _=>trivial,?_⟩
 rw[Oper.semAt_eq _ _ _ hd,h]
 refine⟨fun h=>(by cases h),hk.mono fun e w'' he=>?_⟩
 cases e <;> exact he
theorem dc (hd:∀ c,o.op≠.defer c) {l:Nat} {f:FuncId} {tmps:Array Value} {assign body:Code} (h:(execOp act.eval o).run P w=.ok (.round l f tmps assign body) w')
  (hk:RoundIn (FW r) (m-1) P l f tmps assign body w' fun e w''=>match e with | .returned u=>K (act.put o.dst u) w'' | .panicked chain=>Q (.panic chain) act w'' | .outgrown=>LetsOut Q):o.wpIn (FW r) m P act w K Q:=by
 refine⟨fun _ _=>trivial,?_⟩
 rw[Oper.semAt_eq _ _ _ hd,h]
 refine⟨fun h=>(by cases h),hk.mono fun e w'' he=>?_⟩
 cases e <;> exact he
end
theorem uW {f:FuncId} {fn:Func} (h:(env P).fn f=some fn) (hb:fn.body.isSome=true) (args:Array Value):(callFunc f args).run P w=.ok (.enter f args) w:=by
 obtain⟨h1,h2⟩:=xW h
 unfold SG at h2
 obtain⟨c,hc⟩:=Option.isSome_iff_exists.1 hb
 rw[hc] at h2
 simp only[Bool.and_eq_true,bne_iff_ne,ne_eq] at h2
 unfold callFunc
 simp only[Sem.run_bind,run_program,Result.andThen_ok,h1]
 rw[if_neg (by simpa using h2.1.1),if_neg (by simp[hc])]
 rfl
theorem ov:Extern.allNextRows.lookup "maps.clone"=none:=by kernel_rfl
theorem ZZ:Extern.allNextRows.lookup ""=none:=by kernel_rfl
theorem xg:Extern.allGenericRows.lookup "maps.clone"=none:=by kernel_rfl
theorem ah:Extern.allTypedRows.lookup "maps.clone"=none:=by kernel_rfl
theorem xe:Extern.allRows.lookup "maps.clone"=some Extern.MapsClone.clone:=by kernel_rfl
theorem QS (hR:RS P ι s w) {f:FuncId} {fn:Func} (h:(env P).fn f=some fn) (hb:fn.body=none) {args:List Value} {args':Array Value} (ha:eF ι args args'.toList) {Φ:Value×St→Prop}
  (hA:(oN s fn args).yY Φ):∃ v u s' ι' w',(callFunc f args').run P w=.ok (.value u) w'∧Φ (v,s')∧VR ι' v u∧RS P ι' s' w'∧ES ι s w ι' s' w':=by
 obtain⟨h1,_⟩:=xW h
 unfold oN at hA
 split at hA
 ·rename_i hn
  obtain⟨hname,horig⟩:=hn
  split at hA
  ·rename_i t b
   generalize hl:args'.toList=l' at ha
   cases ha with
   | cons hx ha =>
   cases ha with
   | nil =>
   cases hx with
   | iface _ hx =>
   obtain⟨l,hl2,rfl⟩:=uL hx
   have hargs:args'=#[.iface t (.map (some l.dR))]:=by apply Array.toList_inj.1;rw[hl]
   split at hA
   ·rename_i es c dF hH
    obtain⟨l',es',p1,p2,p3,p4,p5,p6⟩:=RU hR hH
    rw[hl2] at p1;cases p1
    have hfree:=hR.free
    obtain⟨g1,g2⟩:=RS.new (ex:=0) hR (.map es' c) (f:=fun v=>.map es c v) ⟨rfl,rfl,rfl,es',heap_alloc_new,p6.mono (cR.oB hfree)⟩
    refine⟨_,.iface t (.map (some w.heap.size)),_,_,_,?_,hA,.iface _ (.map (cR.add_same ι s.next _)),g1,g2⟩
    have hfind:Extern.findNext fn=none:=by
     unfold Extern.findNext
     simp[hname,horig,ov,ZZ]
    have hfind2:Extern.find fn=some Extern.MapsClone.clone:=by
     unfold Extern.find
     simp[hname,xg,ah,xe]
    unfold callFunc
    simp only[Sem.run_bind,run_program,Result.andThen_ok,h1]
    rw[if_neg (by rw[hname];decide),if_pos (by simp[hb])]
    have hcl:(Extern.MapsClone.clone #[.iface t (.map (some l.dR))]).run P w=.ok (.iface t (.map (some w.heap.size))) (w.alloc (.map es' c)):=by
     have e0:Extern.MapsClone.clone #[.iface t (.map (some l.dR))]=(do
       let .map entries clock←getObj l.dR | stuck "maps.clone: a map expected"
       pure (.iface t (.map (some (← newObj (.map entries clock)))))):=rfl
     rw[e0]
     simp only[Sem.run_bind,hZ p5,Result.andThen_ok,run_newObj,Sem.run_pure]
     rfl
    simp only[Sem.run_bind,run_mark,Result.andThen_ok,hfind,hfind2,hargs,hcl,Sem.run_pure]
   ·exact hA.elim
  ·exact hA.elim
 ·exact hA.elim
theorem zL:∀ (path:List FieldStep) (t xt:TypeId) (v v' x:Value),VR ι v v'→BS (env P) path t v=some (xt,x)→∃ x',(follow path t (.val v')).run P w=.ok (xt,.val x') w∧VR ι x x'
 | [],t,xt,v,v',x,hv,h=>by
  simp only[BS,Option.some.injEq,Prod.mk.injEq] at h
  obtain⟨rfl,rfl⟩:=h
  exact⟨v',rfl,hv⟩
 | st::rest,t,xt,v,v',x,hv,h=>by
  simp only[BS] at h
  split at h
  ·rename_i fields sz by_ ze ag me cm ht
   split at h
   ·rename_i f cs hf hde
    obtain⟨cs',rfl,hcs⟩:=hv.AY
    split at h
    ·rename_i u hu
     obtain⟨u',g1,g2⟩:=rL (P:=P) (w:=w) hcs hu
     obtain⟨x',k1,k2⟩:=zL rest f.type xt u u' x g2 h
     refine⟨x',?_,k2⟩
     simp only[follow,Sem.run_bind,aK ht,Result.andThen_ok,hf,hde,Bool.false_eq_true,if_false,g1,k1]
    ·cases h
   ·cases h
  ·cases h
theorem CE {t:TypeId} {v v' x:Value} {name:String} {f:FuncId} (hv:VR ι v v') (h:sG (env P) t v name=some (f,x)) (k:Nat) :
  ∃ x',(method (k+1) t v' name).run P w=.ok (f,x') w∧VR ι x x':=by
 unfold sG at h
 cases ht:(env P).ty t with
 | none=>rw[ht] at h;cases h
 | some i =>
  rw[ht] at h
  simp only at h
  obtain⟨inf,e1,_,e3⟩:=rQ (w:=w) ht
  split at h
  ·rename_i mm hm
   split at h
   ·rename_i xt y hfo
    obtain⟨y',g1,g2⟩:=zL (P:=P) (w:=w) _ _ _ _ _ _ hv hfo
    have hm':inf.methods.find? (fun x=>x.name==name)=some mm:=by rw[e3];exact hm
    split at h
    ·rename_i f0 el sz by_ ze ag me cm hfun hxt
     simp only[Option.some.injEq,Prod.mk.injEq] at h
     obtain⟨rfl,rfl⟩:=h
     refine⟨y',?_,g2⟩
     simp only[method,Sem.run_bind,e1,Result.andThen_ok,hm',g1,hfun,receiverAt,aK hxt,Place.get,Sem.run_pure]
    ·cases h
    ·rename_i f0 xi hnp hfun hxt
     simp only[Option.some.injEq,Prod.mk.injEq] at h
     obtain⟨rfl,rfl⟩:=h
     refine⟨y',?_,g2⟩
     simp only[method,Sem.run_bind,e1,Result.andThen_ok,hm',g1,hfun,receiverAt,aK hxt]
     cases hd:xi.desc with
     | pointer el =>
      exfalso
      obtain⟨a1,a2,a3,a4,a5,a6,a7⟩:=xi
      simp only at hd
      subst hd
      exact hnp _ _ _ _ _ _ _ rfl
     | _=>simp[Place.get]
    ·cases h
   ·cases h
  ·cases h
variable {P:Program} {ι:cR} {s s':St} {w:World}
theorem sN.filter {p:MapEntry→Bool} (hp:∀ e e':MapEntry,e.born=e'.born→p e=p e') {l l':List MapEntry} (h:sN ι l l'):sN ι (l.filter p) (l'.filter p):=by
 induction h with
 | nil=>exact .nil
 | @cons e e' l l' hx t ih =>
  simp only[List.filter_cons]
  rw[← hp e e' hx.born]
  cases p e
  ·exact ih
  ·exact .cons hx ih
theorem sN.all {p:MapEntry→Bool} (hp:∀ e e':MapEntry,e.born=e'.born→p e=p e') {l l':List MapEntry} (h:sN ι l l'):l.all p=l'.all p:=by
 induction h with
 | nil=>rfl
 | @cons e e' l l' hx t ih=>simp only[List.all_cons];rw[hp e e' hx.born,ih]
def pL (es:Array MapEntry) (since:Nat) (seen:Array Nat):Array (Option MapEntry) :=
 (if ((es.filter fun e=>!seen.contains e.born).filter (·.born<since)).isEmpty then #[none] else #[]) ++
  (((es.filter fun e=>!seen.contains e.born).filter (·.born<since))++((es.filter fun e=>!seen.contains e.born).filter (·.born≥since))).map some
inductive dj (ι:cR):List (Option MapEntry)→List (Option MapEntry)→Prop
 | nil:dj ι [] []
 | none {l l':List (Option MapEntry)} (t:dj ι l l'):dj ι (none::l) (none::l')
 | some {e e':MapEntry} {l l':List (Option MapEntry)} (h:ER ι e e') (t:dj ι l l'):dj ι (some e::l) (some e'::l')
theorem dj.length {l l':List (Option MapEntry)} (h:dj ι l l'):l.length=l'.length:=by induction h <;> simp[*]
theorem dj.map {l l':List MapEntry} (h:sN ι l l'):dj ι (l.map Option.some) (l'.map Option.some):=by
 induction h with
 | nil=>exact .nil
 | cons hx _ ih=>exact .some hx ih
theorem dj.get {l l':List (Option MapEntry)} (h:dj ι l l') (i:Nat):(l[i]?=Option.none∧l'[i]?=Option.none)∨(l[i]?=Option.some Option.none∧l'[i]?=Option.some Option.none) ∨
  (∃ e e',l[i]?=Option.some (Option.some e)∧l'[i]?=Option.some (Option.some e')∧ER ι e e'):=by
 induction h generalizing i with
 | nil=>exact .inl ⟨by simp,by simp⟩
 | none t ih =>
  cases i with
  | zero=>exact .inr (.inl ⟨by simp,by simp⟩)
  | succ i=>simpa using ih i
 | some hx t ih =>
  cases i with
  | zero=>exact .inr (.inr ⟨_,_,by simp,by simp,hx⟩)
  | succ i=>simpa using ih i
theorem kq {es:List MapEntry} {es':Array MapEntry} (h:sN ι es es'.toList) (since:Nat) (seen:List Nat) :
  dj ι (iQ es since seen) (pL es' since seen.reverse.toArray).toList:=by
 have h1:sN ι (es.filter fun e=>!seen.contains e.born) (es'.toList.filter fun e=>!seen.reverse.toArray.contains e.born):=by
  have hc:(fun e:MapEntry=>!seen.reverse.toArray.contains e.born)=fun e=>!seen.contains e.born:=by
   funext e
   simp
  rw[hc]
  exact h.filter fun e e' hb=>by rw[hb]
 have h2:=h1.filter (p:=fun e=>decide (e.born<since)) fun e e' hb=>by rw[hb]
 have h3:=h1.filter (p:=fun e=>decide (e.born≥since)) fun e e' hb=>by rw[hb]
 unfold iQ pL
 simp only[Array.toList_append,Array.toList_map,Array.toList_filter]
 have hemp:(List.filter (fun e=>decide (e.born<since)) (List.filter (fun e=>!seen.contains e.born) es)).isEmpty =
   ((es'.filter fun e=>!seen.reverse.toArray.contains e.born).filter (·.born<since)).isEmpty:=by
  have:=h2.length
  rw[Bool.eq_iff_iff]
  simp only[List.isEmpty_iff,Array.isEmpty_iff]
  rw[← List.length_eq_zero_iff,this]
  rw[← Array.size_eq_zero_iff,← Array.length_toList]
  simp
 rw[hemp]
 have happ:dj ι (List.map Option.some (List.filter (fun e=>decide (e.born<since)) (List.filter (fun e=>!seen.contains e.born) es)++List.filter (fun e=>decide (e.born≥since)) (List.filter (fun e=>!seen.contains e.born) es)))
   (List.map Option.some (List.filter (fun e=>decide (e.born<since)) (List.filter (fun e=>!seen.reverse.toArray.contains e.born) es'.toList)++List.filter (fun e=>decide (e.born≥since)) (List.filter (fun e=>!seen.reverse.toArray.contains e.born) es'.toList))) :=
  dj.map (h2.append h3)
 split
 ·exact .none happ
 ·exact happ
theorem aw (hR:RS P ι s w) {it it':Value} (HL:VR ι it it') {str:Bool} {Φ:Value×St→Prop} (h:(FT s it str).yY Φ) (ty:TypeId) :
  ∃ v u s' ι' w',(Instr.next it' str ty).run P w=.ok u w'∧Φ (v,s')∧VR ι' v u∧RS P ι' s' w'∧ES ι s w ι' s' w':=by
 unfold FT at h
 split at h
 ·rename_i a
  obtain⟨ab,ao,l,rfl,hl,rfl⟩:=nI HL
  split at h
  ·rename_i h0
   cases (show ao=0 from h0.1)
   have hfalse:VR ι (.tuple #[.bool false]) (.tuple #[.bool false]):=.tuple' (.cons (.bool false) .nil)
   split at h
   ·
    rename_i st pos dF hH
    obtain⟨l',g1,g2,g3,g4,g5⟩:=hR.obj _ _ (show s.look ab=_ from hH) rfl
    rw[hl] at g1;cases g1
    cases str with
    | false=>exact h.elim
    | true =>
     simp only[if_true] at h
     have hxx:(⟨l.dR,l.off+0,none⟩:Addr)=⟨l.dR,0,none⟩:=by rw[g3]
     have hg:(getObj l.dR).run P w=.ok (.stringIter st pos) w:=by simp[getObj,Sem.run,g5]
     split at h
     ·rename_i hp
      obtain⟨q1,q2⟩:=hR.put (f:=fun v=>.nW st (pos+(Utf8.decode st pos).2) v) hH rfl hl g2 (.stringIter st (pos+(Utf8.decode st pos).2)) ⟨g2,g3,g4,dI (bG g5)⟩
      refine⟨_,.tuple #[.bool true,goInt pos,.int .i32 (Utf8.decode st pos).1],_,ι,_,?_,h,.tuple' (.cons (.bool _) (.cons (.int _ _) (.cons (.int _ _) .nil))),q1,q2⟩
      rw[hxx]
      have hs:(setObj l.dR (.stringIter st (pos+(Utf8.decode st pos).2))).run P w=.ok () (World.dM w l.dR (.stringIter st (pos+(Utf8.decode st pos).2))):=by
       simp[setObj,Sem.run,g5,World.dM]
      simp only[Instr.next,Sem.run_bind,hg,Result.andThen_ok,hp,if_true,hs,Sem.run_pure]
     ·rename_i hp
      refine⟨_,_,_,ι,w,?_,h,hfalse,hR,Ext.refl⟩
      rw[hxx]
      simp only[Instr.next,Sem.run_bind,hg,Result.andThen_ok,hp,if_false,Sem.run_pure]
   ·
    rename_i a1 a2 a3 a4 hH
    obtain⟨l',g1,g2,g3,g4,b1,b2,b3,g5⟩:=hR.obj _ _ (show s.look ab=_ from hH) rfl
    rw[hl] at g1;cases g1
    cases str with
    | true=>exact h.elim
    | false =>
     simp only[Bool.false_eq_true,if_false] at h
     have hxx:(⟨l.dR,l.off+0,none⟩:Addr)=⟨l.dR,0,none⟩:=by rw[g3]
     have hg:(getObj l.dR).run P w=.ok (.mapIter none b1 b2 b3) w:=by simp[getObj,Sem.run,g5]
     refine⟨_,_,_,ι,w,?_,h,hfalse,hR,Ext.refl⟩
     rw[hxx]
     simp only[Instr.next,Sem.run_bind,hg,Result.andThen_ok,Sem.run_pure]
   ·
    rename_i m since seen last dF hH
    obtain⟨l',g1,g2,g3,g4,lm,g5,g6⟩:=hR.obj _ _ (show s.look ab=_ from hH) rfl
    rw[hl] at g1;cases g1
    cases str with
    | true=>exact h.elim
    | false =>
     simp only[Bool.false_eq_true,if_false] at h
     split at h
     ·rename_i es clock hm
      obtain⟨lm',es',q1,q2,q3,q4,q5,q6⟩:=pD hR hm
      rw[g5] at q1;cases q1
      split at h
      ·exact h.elim
      ·rename_i hstale
       have hxx:(⟨l.dR,l.off+0,none⟩:Addr)=⟨l.dR,0,none⟩:=by rw[g3]
       have hg:(getObj l.dR).run P w=.ok (.mapIter (some lm.dR) since seen.reverse.toArray last) w:=by simp[getObj,Sem.run,g6]
       have hrel:=kq q6 since seen
       have hcl:(pL es' since seen.reverse.toArray).size=(iQ es since seen).length:=by rw[hrel.length];simp
       have hst:(!seen.reverse.toArray.isEmpty&&!es'.isEmpty&&es'.all (·.born≥last))=false:=by
        have e1:seen.reverse.toArray.isEmpty=seen.isEmpty:=by
         rw[Bool.eq_iff_iff];simp
        have e2:es'.isEmpty=es.isEmpty:=by
         have:=q6.length
         rw[Bool.eq_iff_iff]
         simp only[List.isEmpty_iff,Array.isEmpty_iff]
         rw[← List.length_eq_zero_iff,this,← Array.size_eq_zero_iff,← Array.length_toList]
        have e3:es'.all (·.born≥last)=es.all (fun e=>decide (e.born≥last)):=by
         rw[← Array.all_toList]
         exact(q6.all fun e e' hb=>by rw[hb]).symm
        rw[e1,e2,e3]
        simpa using hstale
       have hpick:∀ (i:Nat) (w1:World),w1.heap=w.heap→w1.tape=w.tape→w1.os=w.os→w1.output=w.output →
         (choose (.mapNext (pL es' since seen.reverse.toArray).size)).run P w=.ok i w1→(FY s ab m since seen clock (iQ es since seen) i).yY Φ →
         ∃ v u s' ι' w',(Instr.next (.pointer (some ⟨l.dR,0,none⟩)) false ty).run P w=.ok u w'∧Φ (v,s')∧VR ι' v u∧RS P ι' s' w'∧ES ι s w ι' s' w':=by
        intro i w1 k1 k2 k3 k4 hch hp
        have hR1:RS P ι s w1:=hR.drew k1
        have hnext:(Instr.next (.pointer (some ⟨l.dR,0,none⟩)) false ty).run P w =
          (match (pL es' since seen.reverse.toArray)[i]? with
           | some (some e)=>do
            setObj l.dR (.mapIter (some lm.dR) since (seen.reverse.toArray.push e.born) clock)
            pure (.tuple #[.bool true,e.key,e.val])
           | some none=>pure (.tuple #[.bool false])
           | none=>stuck "Next: no such candidate":Sem Value).run P w1:=by
         unfold pL at hch ⊢
         simp only[Instr.next,Sem.run_bind,hg,Result.andThen_ok,hZ q5]
         rw[if_neg (by rw[hst];simp)]
         simp only[Sem.run_bind,hch,Result.andThen_ok]
         rfl
        rw[hnext]
        unfold FY at hp
        rcases hrel.get i with ⟨c1,c2⟩ | ⟨c1,c2⟩ | ⟨e,e',c1,c2,c3⟩
        ·rw[c1] at hp;exact hp.elim
        ·rw[c1] at hp
         rw[← Array.getElem?_toList,c2]
         exact⟨_,_,_,ι,w1,rfl,hp,hfalse,hR1,Ext.drew Ext.refl k1 k2 k3 k4⟩
        ·rw[c1] at hp
         rw[← Array.getElem?_toList,c2]
         have g6':w1.heap[l.dR]?=some (.mapIter (some lm.dR) since seen.reverse.toArray last):=by rw[k1];exact g6
         obtain⟨r1,r2⟩:=hR1.put (f:=fun v=>.eU (some m) since (e.born::seen) clock v) hH rfl hl g2 (.mapIter (some lm.dR) since (seen.reverse.toArray.push e'.born) clock)
          ⟨g2,g3,g4,lm,g5,by
           rw[dI (bG g6')]
           have:seen.reverse.toArray.push e'.born=(e.born::seen).reverse.toArray:=by rw[c3.born];simp
           rw[this]⟩
         refine⟨_,.tuple #[.bool true,e'.key,e'.val],_,ι,_,?_,hp,.tuple' (.cons (.bool _) (.cons c3.key (.cons c3.val .nil))),r1,Ext.drew r2 k1 k2 k3 k4⟩
         have hs:(setObj l.dR (.mapIter (some lm.dR) since (seen.reverse.toArray.push e'.born) clock)).run P w1=.ok () (World.dM w1 l.dR (.mapIter (some lm.dR) since (seen.reverse.toArray.push e'.born) clock)):=by
          simp[setObj,Sem.run,g6',World.dM]
         simp only[Sem.run_bind,hs,Result.andThen_ok,Sem.run_pure]
       rw[hxx]
       split at h
       ·rename_i hle
        have hch:(choose (.mapNext (pL es' since seen.reverse.toArray).size)).run P w=.ok 0 w:=by
         simp[choose,Sem.run,Question.forced,hcl,hle]
        exact hpick 0 w rfl rfl rfl rfl hch h
       ·rename_i hle
        have gU:w.tape w.drawn (.mapNext (pL es' since seen.reverse.toArray).size)%(pL es' since seen.reverse.toArray).size<(iQ es since seen).length:=by
         rw[hcl];exact Nat.mod_lt _ (by omega)
        have hch:(choose (.mapNext (pL es' since seen.reverse.toArray).size)).run P w =
          .ok (w.tape w.drawn (.mapNext (pL es' since seen.reverse.toArray).size)%(pL es' since seen.reverse.toArray).size) {w with drawn:=w.drawn+1}:=by
         simp[choose,Sem.run,Question.forced,Question.cut,hcl,hle]
        exact hpick _ {w with drawn:=w.drawn+1} rfl rfl rfl rfl hch (h _ gU)
     ·exact h.elim
   ·exact h.elim
  ·exact h.elim
 ·exact h.elim
section
variable {r:Option Nat} {m:Nat} {o:Oper} {act:Act} {K:Act→World→Prop} {Q:Exit→Act→World→Prop} {call:eR} {round:dK} {Φ:Value×St→Prop}
abbrev PX (P:Program) (ι:cR) (s:St) (w:World) (Φ:Value×St→Prop) (o:Oper) (act:Act) (K:Act→World→Prop):Prop :=
 ∀ v u s' ι' w',Φ (v,s')→VR ι' v u→RS P ι' s' w'→ES ι s w ι' s' w'→K (act.put o.dst u) w'
theorem AA (hc:mF P call) (hR:RS P ι s w) {f:FuncId} {args:List Value} {args':Array Value} (ha:eF ι args args'.toList) (h:(call f args s).yY Φ) (hd:∀ c,o.op≠.defer c)
  (hrun:(execOp act.eval o).run P w=(callFunc f args').run P w) (hk:PX P ι s w Φ o act K):o.wpIn (FW r) m P act w K Q:=by
 obtain⟨fn,h1,h2⟩:=hc.fn f args s Φ h
 cases hb:fn.body with
 | none =>
  obtain⟨v,u,s',ι',w',g1,g2,g3,g4,g5⟩:=QS hR h1 hb ha (h2 hb)
  exact iU hd (hrun.trans g1) (hk v u s' ι' w' g2 g3 g4 g5)
 | some c =>
  refine db hd (hrun.trans (uW h1 (by simp[hb]) args')) ((hc.calls f fn args args' s w ι Φ r (m-1) h1 (by simp[hb]) h ha hR).mono ?_)
  rintro e w'' ⟨v,u,s',ι',rfl,g2,g3,g4,g5⟩
  exact hk v u s' ι' w'' g2 g3 g4 g5
theorem UC (hc:mF P call) (hr:mA P round) (hR:RS P ι s w) {f f':Value} (hf:VR ι f f') {args:List Value} {args':Array Value} (ha:eF ι args args'.toList)
  (h:(mQ (env P) call round s f args).yY Φ) (hd:∀ c,o.op≠.defer c)
  (hrun:(execOp act.eval o).run P w=(do let d←Deferred.ofValue f' args';invoke d.target d.args:Sem Next).run P w) (hk:PX P ι s w Φ o act K):o.wpIn (FW r) m P act w K Q:=by
 unfold mQ at h
 split at h
 ·rename_i fid first captured
  obtain⟨a',c',rfl,h1,h2⟩:=hf.BU
  refine AA hc hR (args':=a'++args'++c') ?_ h hd ?_ hk
  ·simpa using (h1.append ha).append h2
  ·rw[hrun];rfl
 ·rename_i l first captured
  cases hf with
  | yield hl =>
  obtain⟨loc,rec,g1,g2,g3,g4⟩:=hr l _ args' s w ι Φ r (m-1) h (by simpa using ha) hR
  rw[hl] at g1;cases g1
  refine dc hd (hrun.trans ?_) (g4.mono ?_)
  ·simp only[Deferred.ofValue,Sem.run_bind,Sem.run_pure,Result.andThen_ok,invoke,Instr.yield,run_getLoop g2]
   have hz:(#[]++args').size=rec.params.size:=by simpa using g3
   rw[if_neg (by simpa using hz)]
   simp
  ·rintro e w'' ⟨v,u,s',ι',rfl,k2,k3,k4,k5⟩
   exact hk v u s' ι' w'' k2 k3 k4 k5
 ·rename_i name first captured
  obtain⟨a',c',rfl,h1,h2⟩:=hf.xk
  split at h
  ·rename_i t v rest hfa
   split at h
   ·rename_i fid x hm
    have hall:=h1.append ha
    rw[hfa] at hall
    generalize hl':a'.toList++args'.toList=l' at hall
    cases hall with
    | cons hv hrest =>
    cases hv with
    | @iface _ v0 v1 hv =>
    rename_i rest'
    obtain⟨x',k1,k2⟩:=CE (P:=P) (w:=w) hv hm (P.types.size+99)
    refine AA hc hR (args':=(x'::rest').toArray) (.cons k2 hrest) h hd ?_ hk
    rw[hrun]
    have hcat:(a'++args')=(Value.iface t v1::rest').toArray:=by
     apply Array.toList_inj.1;simpa using hl'
    have hex:((Value.iface t v1::rest').toArray).extract 1 ((Value.iface t v1::rest').toArray).size=rest'.toArray:=by
     apply Array.toList_inj.1;simp
    simp only[Deferred.ofValue,Sem.run_bind,Sem.run_pure,Result.andThen_ok,invoke,hcat,hex]
    simp only[List.getElem?_toArray,List.getElem?_cons_zero,callMethod,Sem.run_bind,run_program,Result.andThen_ok]
    rw[show P.types.size+Made.depth=P.types.size+99+1 from rfl,k1]
    simp only[Result.andThen_ok]
    congr 2
    apply Array.toList_inj.1;simp
   ·exact h.elim
  ·exact h.elim
 ·exact h.elim
theorem BK (hc:mF P call) (hr:mA P round) (hR:RS P ι s w) {ρ:Operand→Value} (hρ:∀ x∈o.op.operands.toList,VR ι (ρ x) (act.eval x)) (hd:∀ c,o.op≠.defer c)
  (h:(bL (env P) call round s ρ o.op).yY Φ) (hk:PX P ι s w Φ o act K):o.wpIn (FW r) m P act w K Q:=by
 have lift:∀ (sem:Sem Value) (x:Option (Value×St)) (why:String),(execOp act.eval o=(do pure (.value (← sem)):Sem Next))→(cQ.ofOption why x).yY Φ →
   (∀ v s',x=some (v,s')→kb P ι s w sem v s')→o.wpIn (FW r) m P act w K Q:=by
  intro sem x why he hx hdo
  cases x with
  | none=>exact hx.elim
  | some p =>
   obtain⟨u,ι',w',g1,g2,g3,g4⟩:=hdo p.1 p.2 rfl
   exact iU hd (by rw[he];simp[g1]) (hk p.1 u p.2 ι' w' hx g2 g3 g4)
 unfold bL at h
 cases hop:o.op <;> rw[hop] at h hρ <;> simp only at h <;> simp only[Op.operands] at hρ
 case store t a x =>
  have hv:=hρ x (by simp)
  have hp:=hρ a (by simp)
  split at h
  ·rename_i ad ha
   rw[ha] at hp
   split at h
   ·rename_i s1 hst
    obtain⟨w',g1,g2,g3⟩:=SY hR hp hv hst
    refine xH hd ?_ (hk undef undef s1 ι w' h (VR.undef ι) g2 g3)
    unfold execOp
    rw[hop]
    simp[g1]
   ·exact h.elim
  ·exact h.elim
 case mapUpdate t mm k x =>
  split at h
  ·rename_i s1 hst
   obtain⟨w',g1,g2,g3⟩:=CD hR (hρ mm (by simp)) (hρ k (by simp)) (hρ x (by simp)) hst
   refine xH hd ?_ (hk undef undef s1 ι w' h (VR.undef ι) g2 g3)
   unfold execOp
   rw[hop]
   simp[g1]
  ·exact h.elim
 case insert t mm k x =>
  split at h
  ·rename_i s1 hst
   obtain⟨w',g1,g2,g3⟩:=CD hR (hρ mm (by simp)) (hρ k (by simp)) (hρ x (by simp)) hst
   refine xH hd ?_ (hk undef undef s1 ι w' h (VR.undef ι) g2 g3)
   unfold execOp
   rw[hop]
   simp[g1]
  ·exact h.elim
 case range t x =>
  have hv:=hρ x (by simp)
  have hex:∀ (sem:Sem Value),sem=Instr.range t (act.eval x)→execOp act.eval o=(do pure (.value (← sem)):Sem Next):=by
   intro sem hs;subst hs;unfold execOp;rw[hop]
  have hfree:=hR.free
  cases ht:(env P).ty t with
  | none=>rw[ht] at h;exact h.elim
  | some i =>
   rw[ht] at h
   simp only at h
   generalize ρ x=y at hv h
   generalize hu:act.eval x=u at hv hex
   split at h
   ·rename_i str hdesc
    rw[hv.gA] at hex
    obtain⟨ι',q1,q2,q3⟩:=JQ hR (.stringIter str 0) (fun v=>.nW str 0 v) ⟨rfl,rfl,rfl,heap_alloc_new⟩
    refine iU hd ?_ (hk _ _ _ ι' _ h q1 q2 q3)
    rw[hex _ rfl]
    simp only[Instr.range,Sem.run_bind,aK ht,hdesc,Sem.run_pure,Result.andThen_ok,run_newObj]
    rfl
   ·rename_i hdesc
    rw[rJ hv] at hex
    obtain⟨ι',q1,q2,q3⟩:=JQ hR (.mapIter none 0 #[] 0) (fun v=>.eU none 0 [] 0 v) ⟨rfl,rfl,rfl,_,_,_,heap_alloc_new⟩
    refine iU hd ?_ (hk _ _ _ ι' _ h q1 q2 q3)
    rw[hex _ rfl]
    simp only[Instr.range,Sem.run_bind,aK ht,hdesc,Sem.run_pure,Result.andThen_ok,run_newObj]
    rfl
   ·rename_i mm hdesc
    obtain⟨l,hl,he⟩:=uL hv
    rw[he] at hex
    split at h
    ·rename_i es clock hm
     obtain⟨l',es',p1,p2,p3,p4,p5,p6⟩:=pD hR hm
     rw[hl] at p1;cases p1
     obtain⟨ι',q1,q2,q3⟩:=JQ hR (.mapIter (some l.dR) clock #[] clock) (fun v=>.eU (some mm) clock [] clock v) ⟨rfl,rfl,rfl,l,cR.oB hfree _ _ hl,heap_alloc_new⟩
     refine iU hd ?_ (hk _ _ _ ι' _ h q1 q2 q3)
     rw[hex _ rfl]
     simp only[Instr.range,Sem.run_bind,aK ht,hdesc,hZ p5,Sem.run_pure,Result.andThen_ok,run_newObj]
     rfl
    ·exact h.elim
   ·exact h.elim
 case next it str =>
  obtain⟨v,u,s',ι',w',g1,g2,g3,g4,g5⟩:=aw hR (hρ it (by simp)) h o.type
  refine iU hd ?_ (hk v u s' ι' w' g2 g3 g4 g5)
  unfold execOp
  rw[hop]
  simp[g1]
 case call c =>
  obtain⟨callee,args,argTypes⟩:=c
  have hargs:eF ι (args.toList.map ρ) (args.map act.eval).toList:=by
   rw[Array.toList_map]
   exact .map₂ _ fun x hx=>hρ x (by simp[Call.operands];exact .inr (by simpa using hx))
  have hb:∀ b,callee=.builtin b→execOp act.eval o=(builtin b argTypes o.type (args.map fun | .const _=>true | _=>false) (args.map act.eval)):=by
   intro b hb
   subst hb
   unfold execOp
   rw[hop]
   rfl
  cases callee with
  | value f =>
   refine UC hc hr hR (hρ f (by simp[Call.operands])) hargs h hd ?_ hk
   unfold execOp
   rw[hop]
   rfl
  | invoke x name =>
   have hv:=hρ x (by simp[Call.operands])
   dsimp only at h
   split at h
   ·rename_i t v hx
    rw[hx] at hv
    split at h
    ·rename_i fid rv hm
     generalize hu:act.eval x=u at hv
     cases hv with
     | @iface _ v0 v1 hv =>
     obtain⟨x',k1,k2⟩:=CE (P:=P) (w:=w) hv hm (P.types.size+99)
     refine AA hc hR (args':=#[x']++args.map act.eval) (by simpa using eF.cons k2 hargs) h hd ?_ hk
     have he:execOp act.eval o=callMethod (.iface t v1) name (args.map act.eval):=by
      unfold execOp
      rw[hop]
      have:(resolve act.eval {callee:=.invoke x name,args,argTypes} o.type)=pure {target:=.fn (.method name) #[],args:=#[.iface t v1]++args.map act.eval}:=by
       simp[resolve,hu]
      simp only[this]
      have hex:(#[Value.iface t v1]++args.map act.eval).extract 1 (#[Value.iface t v1]++args.map act.eval).size=args.map act.eval:=by
       apply Array.toList_inj.1
       simp only[Array.toList_extract,Array.toList_append,List.extract_eq_take_drop]
       simp
       exact List.take_of_length_le (by simp)
      show invoke (.fn (.method name) #[]) (#[Value.iface t v1]++args.map act.eval)=_
      unfold invoke
      have h0:(#[Value.iface t v1]++args.map act.eval)[0]?=some (Value.iface t v1):=by
       rw[← Array.getElem?_toList,Array.toList_append];rfl
      simp only[h0,hex]
     rw[he]
     unfold callMethod
     simp only[Sem.run_bind,run_program,Result.andThen_ok]
     rw[show P.types.size+Made.depth=P.types.size+99+1 from rfl,k1]
     rfl
    ·exact h.elim
   ·exact h.elim
  | builtin b =>
   cases b <;> dsimp only at h <;> first
    | exact lift _ _ _ (hb _ rfl) h fun v s' hx=>QD hR hargs hx
    | exact lift _ _ _ (hb _ rfl) h fun v s' hx=>YV hR hargs hx
    | exact lift _ _ _ (hb _ rfl) h fun v s' hx=>UF hR hargs hx
    | exact lift _ _ _ (hb _ rfl) h fun v s' hx=>QO hR hargs hx
    | exact False.elim h
 all_goals exact h.elim
end
variable {P:Program} {ι ι':cR} {s s':St} {w w':World}
structure AR (ι:cR) (a:bD) (act:Act):Prop where
 size:act.tmps.size=a.nt
 val:∀ t,t<a.nt→VR ι (a.aD t) (act.tmps.getD t undef)
theorem AR.mono {a:bD} {act:Act} (h:AR ι a act) (hle:ι.le ι'):AR ι' a act:=⟨h.size,fun t ht=>(h.val t ht).mono hle⟩
theorem AR.put {a:bD} {act:Act} (h:AR ι a act) {d:Option Tmp} (hd:∀ x,d=some x→x<a.nt) {v u:Value} (hv:VR ι v u):AR ι (a.put d v) (act.put d u):=by
 cases d with
 | none=>exact h
 | some d =>
  have hdn:=hd d rfl
  refine⟨by simpa [Act.put,bD.put] using h.size,fun t ht=>?_⟩
  simp only[bD.put] at ht
  simp only[bD.put,bD.aD,Act.put,PT.bU]
  by_cases e:t=d
  ·subst e
   rw[if_pos rfl]
   have:act.tmps.size=a.nt:=h.size
   simp[Array.getD_eq_getD_getElem?,this,hdn,hv]
  ·rw[if_neg e]
   have:=h.val t ht
   simp only[bD.aD] at this
   simpa [Array.getD_eq_getD_getElem?,Array.getElem?_setIfInBounds,Ne.symm e] using this
theorem AR.eval {a:bD} {act:Act} (h:AR ι a act) (heven:∀ b,ι (2*b)=some ⟨b,0,0,true⟩) {x:Operand} (hx:gX a.nt x=true):VR ι (a.eval x) (act.eval x):=by
 cases x with
 | tmp t =>
  simp only[gX,decide_eq_true_eq] at hx
  exact h.val t hx
 | const v=>exact .closed hx
 | global g =>
  have:=VR.ptr (ι:=ι) (o:=0) (heven g)
  simpa [bD.eval,Act.eval] using this
 | func f=>exact .func rfl rfl (fun i v u hv=>by simp at hv) (fun i v u hv=>by simp at hv)
theorem AR.evals {a:bD} {act:Act} (h:AR ι a act) (heven:∀ b,ι (2*b)=some ⟨b,0,0,true⟩) {o:Oper} (ho:iT a.nt o=true):∀ x∈o.op.operands.toList,VR ι (a.eval x) (act.eval x):=by
 intro x hx
 unfold iT at ho
 simp only[Bool.and_eq_true] at ho
 exact h.eval heven (List.all_eq_true.1 ho.1.1 x hx)
theorem rK {nt:Nat} {o:Oper} (ho:iT nt o=true):∀ x,o.dst=some x→x<nt:=by
 intro x hx
 unfold iT at ho
 simp only[Bool.and_eq_true] at ho
 have:=ho.1.2
 rw[hx] at this
 simpa using this
theorem CP {nt:Nat} {o:Oper} (ho:iT nt o=true):∀ c,o.op≠.defer c:=by
 intro c hc
 unfold iT at ho
 rw[hc] at ho
 simp at ho
@[simp] theorem put_nt (a:bD) (d:Option Tmp) (v:Value):(a.put d v).nt=a.nt:=by cases d <;> rfl
theorem VR.sq {v:Value} {b:Bool} (h:VR ι v (.bool b)):v=.bool b:=by cases h;rfl
theorem df {a:bD} {act:Act} (h:AR ι a act) {ops:Array Oper} (hops:ops.toList.all (iT a.nt)=true) (j:Nat):aE ops a j=yielded ops act.tmps j:=by
 unfold aE yielded
 cases hj:ops[j]? with
 | none=>rfl
 | some o =>
  have hok:iT a.nt o=true:=List.all_eq_true.1 hops o (by simpa using Array.mem_of_getElem? hj)
  simp only[Option.bind_some]
  cases hd:o.dst with
  | none=>rfl
  | some d =>
   have hdn:=rK hok d hd
   have hv:=h.val d hdn
   have hsz:=h.size
   simp only[Option.bind_some]
   have hg:act.tmps[d]?=some (act.tmps.getD d undef):=by
    simp[Array.getD_eq_getD_getElem?,hsz,hdn]
   rw[hg]
   generalize act.tmps.getD d undef=u at hv
   generalize a.aD d=v at hv
   cases v with
   | bool b=>rw[hv.kT]
   | _ =>
    cases u with
    | bool b=>have:=hv.sq;cases this
    | _=>rfl
theorem PV {a:bD} {act:Act} (h:AR ι a act) {ops:Array Oper} (hops:ops.toList.all (iT a.nt)=true) (o:Oper) :
  Region.wanted o (aE ops a)=Region.wanted o (yielded ops act.tmps):=by
 unfold Region.wanted
 cases o.guard with
 | none=>rfl
 | some g=>simp only[df h hops]
structure DR (ι:cR) (H:aY) (w:World) (ds:List Deferred):Prop where
 mark:∀ d∈ds,∃ D,d={target:=.collected D,args:=#[]}∧w.heap[D]?=some (.deferred (some []))∧¬ Own ι H D
 apart:ds.Pairwise fun d e=>∀ D,d.target=.collected D→e.target≠.collected D
theorem DR.ext {H H':aY} {n n':Nat} {ds:List Deferred} (h:DR ι H w ds) (he:Ext ι H n w ι' H' n' w'):DR ι' H' w' ds:=by
 refine⟨fun d hd=>?_,h.apart⟩
 obtain⟨D,h1,h2,h3⟩:=h.mark d hd
 have gU:=bG h2
 refine⟨D,h1,(he.aF D gU h3).trans h2,fun ho=>?_⟩
 rcases he.own D ho with h4 | h4
 ·exact h3 h4
 ·omega
theorem DR.nil (H:aY):DR ι H w []:=⟨by simp,.nil⟩
@[simp] theorem Act.put_defers' (a:Act) (d:Option Tmp) (v:Value):(a.put d v).defers=a.defers:=by cases d <;> rfl
section
variable {r:Option Nat} {m:Nat} {call:eR} {round:dK}
theorem ZC (hc:mF P call) (hr:mA P round) (hR:RS P ι s w) {o:Oper} {ρ:Operand→Value} {act:Act} (hρ:∀ x∈o.op.operands.toList,VR ι (ρ x) (act.eval x)) (hd:∀ c,o.op≠.defer c)
  {Φ:Value×St→Prop} (h:(kD (env P) call round s ρ o.op).yY Φ) {K:Act→World→Prop} {Q:Exit→Act→World→Prop} (hk:PX P ι s w Φ o act K):o.wpIn (FW r) m P act w K Q:=by
 unfold kD at h
 split at h
 ·split at h
  ·rename_i v hv
   obtain⟨u,g1,g2⟩:=GM (P:=P) hR hρ hv
   exact iU hd g1 (hk v u s ι w h g2 hR Ext.refl)
  ·exact False.elim h
 ·split at h
  ·rename_i v f hv
   obtain⟨u,x,g1,g2,g3⟩:=EX (w:=w) hR.free hρ hv
   obtain⟨q1,q2⟩:=RS.new hR x (f:=f) (g3 s.cM).2
   exact iU hd g1 (hk v u _ _ _ h g2 q1 q2)
  ·exact False.elim h
 ·exact BK hc hr hR hρ hd h hk
theorem qO (hc:mF P call) (hr:mA P round) {ops:Array Oper} {Q:Exit→Act→World→Prop}:∀ (rest:List Oper) (k:Nat),(∀ j,rest[j]?=ops[k+j]?) →
  ∀ (a:bD) (s:St) (act:Act) (w:World) (ι:cR) (Φ:bD×St→Prop),ops.toList.all (iT a.nt)=true→(dL (env P) call round ops rest a s).yY Φ→AR ι a act→RS P ι s w →
   (∀ a' s' act' w' ι',Φ (a',s')→AR ι' a' act'→RS P ι' s' w'→ES ι s w ι' s' w'→a'.nt=a.nt→act'.defers=act.defers→Q .normal act' w') →
   wpOpsIn (FW r) m P ops Q (List.range' k rest.length) act w
 | [],k,_,a,s,act,w,ι,Φ,_,h,ha,hR,hQ=>hQ a s act w ι h ha hR Ext.refl rfl rfl
 | o::rest,k,hidx,a,s,act,w,ι,Φ,hok,h,ha,hR,hQ=>by
  have ho:ops[k]?=some o:=by have:=hidx 0;simpa using this.symm
  have hoo:iT a.nt o=true:=List.all_eq_true.1 hok o (by simpa using Array.mem_of_getElem? ho)
  have hrest:∀ j,rest[j]?=ops[k+1+j]?:=fun j=>by
   have:=hidx (j+1)
   simpa [show k+(j+1)=k+1+j from by omega] using this
  simp only[List.length_cons,List.range'_succ,wpOpsIn,ho]
  unfold dL at h
  rw[PV ha hok o] at h
  split at h
  ·rename_i hw
   rw[if_pos hw]
   rw[cQ.eQ] at h
   refine ZC hc hr hR (ha.evals hR.even hoo) (CP hoo) h ?_
   intro v u s' ι' w' hΦ hv hR' hE
   refine qO hc hr rest (k+1) hrest _ s' _ w' ι' Φ (by simpa using hok) hΦ ((ha.mono hE.le).put (rK hoo) hv) hR' ?_
   intro a'' s'' act'' w'' ι'' k1 k2 k3 k4 k5 k6
   exact hQ a'' s'' act'' w'' ι'' k1 k2 k3 (Ext.trans hE k4) (by simpa using k5) (by simpa using k6)
  ·rename_i hw
   rw[if_neg hw]
   refine⟨fun _ _=>trivial,?_⟩
   refine qO hc hr rest (k+1) hrest _ s _ w ι Φ (by simpa using hok) h (ha.put (rK hoo) (VR.undef ι)) hR ?_
   intro a'' s'' act'' w'' ι'' k1 k2 k3 k4 k5 k6
   exact hQ a'' s'' act'' w'' ι'' k1 k2 k3 k4 (by simpa using k5) (by simpa using k6)
end
def bX.ZR:bX→Bool
 | .cells _ _ _ _ _ ro _=>ro
 | _=>false
structure mO (n0:Nat) (s s':St):Prop where
 cM:s.cM≤s'.cM
 next:s.next≤s'.next
 same:∀ b o,s'.heap.get b=some o→o.bC=false→o.dF<s.cM→s.heap.get b=some o
 vok:(∀ b o,s.heap.get b=some o→o.bC=false→o.dF<s.cM)→∀ b o,s'.heap.get b=some o→o.bC=false→o.dF<s'.cM
 mC:∀ b o,s'.heap.get b=some o→o.bC=false→(∃ o0,s.heap.get b=some o0∧o0.bC=false∧(o.ZR=true→o0.ZR=true))∨(n0≤b∧o.ZR=false)
abbrev eZ (s s':St):Prop:=mO s.next s s'
theorem mO.refl (n0:Nat) (s:St):mO n0 s s:=⟨Nat.le_refl _,Nat.le_refl _,fun _ _ h _ _=>h,fun h=>h,fun _ o h hd=>.inl ⟨o,h,hd,fun h=>h⟩⟩
theorem mO.low {n0 n1:Nat} {s s':St} (h:mO n0 s s') (hle:n1≤n0):mO n1 s s' :=
 ⟨h.cM,h.next,h.same,h.vok,fun b o hb hd=>(h.mC b o hb hd).imp id fun⟨h1,h2⟩=>⟨Nat.le_trans hle h1,h2⟩⟩
theorem mO.trans {n0:Nat} {a b c:St} (h:mO n0 a b) (k:mO n0 b c):mO n0 a c :=
 ⟨Nat.le_trans h.cM k.cM,Nat.le_trans h.next k.next,fun x o hx hd hv=>h.same x o (k.same x o hx hd (Nat.lt_of_lt_of_le hv h.cM)) hd hv,fun hv=>k.vok (h.vok hv),fun x o hx hd=>by
  rcases k.mC x o hx hd with ⟨o1,h1,h2,h3⟩ | h1
  ·rcases h.mC x o1 h1 h2 with ⟨o0,k1,k2,k3⟩ | ⟨k1,k2⟩
   ·exact .inl ⟨o0,k1,k2,fun e=>k3 (h3 e)⟩
   ·refine .inr ⟨k1,?_⟩
    cases ho:o.ZR with
    | false=>rfl
    | true=>rw[h3 ho] at k2;cases k2
  ·exact .inr h1⟩
theorem eZ.refl (s:St):eZ s s:=mO.refl _ s
theorem eZ.trans {a b c:St} (h:eZ a b) (k:eZ b c):eZ a c:=mO.trans h (mO.low k h.next)
def PY (f:Nat→bX):Prop:=∀ v,(f v).bC=true∨((f v).dF=v∧(f v).ZR=false)
theorem mO.put {n0:Nat} {s:St} {b:Nat} {f:Nat→bX} (hf:PY f) (hb:(∀ v,(f v).bC=true)∨(∃ o,s.heap.get b=some o∧o.bC=false)∨n0≤b):mO n0 s (s.put b f):=by
 refine⟨Nat.le_succ _,Nat.le_refl _,?_,?_,?_⟩
 ·intro c o hc hd hv
  simp only[St.put,PT.bU] at hc
  split at hc
  ·cases hc
   rcases hf s.cM with h | h
   ·rw[h] at hd;cases hd
   ·omega
  ·exact hc
 ·intro hv c o hc hd
  simp only[St.put,PT.bU] at hc ⊢
  split at hc
  ·cases hc
   rcases hf s.cM with h | h
   ·rw[h] at hd;cases hd
   ·omega
  ·have:=hv c o hc hd;omega
 ·intro c o hc hd
  simp only[St.put,PT.bU] at hc
  split at hc
  ·rename_i e
   subst e
   cases hc
   rcases hf s.cM with h | h
   ·rw[h] at hd;cases hd
   ·rcases hb with hb | ⟨o0,h1,h2⟩ | hb
    ·rw[hb] at hd;cases hd
    ·exact .inl ⟨o0,h1,h2,fun e=>by rw[h.2] at e;cases e⟩
    ·exact .inr ⟨hb,h.2⟩
  ·exact .inl ⟨o,hc,hd,fun h=>h⟩
theorem eZ.put {s:St} {b:Nat} {f:Nat→bX} (hf:PY f) (hb:(∀ v,(f v).bC=true)∨(∃ o,s.heap.get b=some o∧o.bC=false)∨s.next≤b):eZ s (s.put b f):=mO.put hf hb
theorem eZ.new {s:St} {f:Nat→bX} (hf:PY f):eZ s (s.new f):=by
 have h:=eZ.put (s:=s) (b:=s.next) hf (.inr (.inr (Nat.le_refl _)))
 exact⟨h.cM,by simp[St.new],h.same,h.vok,h.mC⟩
theorem eZ.bJ {s s':St} {a:Addr} {vs:List Value} (h:bJ s a vs=some s'):eZ s s':=by
 unfold Dust.bJ at h
 split at h
 ·split at h
  ·simp only[Option.some.injEq] at h;subst h;exact .put (fun _=>.inr ⟨rfl,rfl⟩) (.inr (.inl ⟨_,by assumption,rfl⟩))
  ·cases h
 ·cases h
theorem eZ.storeT {X:Env} {s s':St} {t:TypeId} {a:Addr} {v:Value} (h:storeT X s t a v=some s'):eZ s s':=by
 unfold Dust.storeT at h
 split at h
 ·split at h
  ·exact .bJ h
  ·cases h
 ·cases h
theorem eZ.gM {X:Env} {s s':St} {t:TypeId} {m k v:Value} (h:gM X s t m k v=some s'):eZ s s':=by
 unfold Dust.gM at h
 split at h
 ·split at h
  ·split at h
   ·split at h
    ·simp only[Option.some.injEq] at h;subst h;exact .put (fun _=>.inr ⟨rfl,rfl⟩) (.inr (.inl ⟨_,by assumption,rfl⟩))
    ·simp only[Option.some.injEq] at h;subst h;exact .put (fun _=>.inr ⟨rfl,rfl⟩) (.inr (.inl ⟨_,by assumption,rfl⟩))
    ·cases h
   ·cases h
  ·cases h
 ·cases h
theorem eZ.jI {s s':St} {e:TypeId} {esz:Nat} {base:Option Addr} {a b c:Nat} {new:List Value} {v:Value} (h:jI s e esz base a b c new=some (v,s')):eZ s s':=by
 unfold Dust.jI at h
 split at h
 ·split at h
  ·split at h
   ·simp only[Option.some.injEq,Prod.mk.injEq] at h;obtain⟨_,rfl⟩:=h;exact .refl _
   ·split at h
    ·rename_i hst
     simp only[Option.some.injEq,Prod.mk.injEq] at h;obtain⟨_,rfl⟩:=h;exact .bJ hst
    ·cases h
  ·split at h
   ·simp only[Option.some.injEq,Prod.mk.injEq] at h;obtain⟨_,rfl⟩:=h;exact .refl _
   ·cases h
 ·split at h
  ·split at h
   ·simp only[Option.some.injEq,Prod.mk.injEq] at h;obtain⟨_,rfl⟩:=h;exact .new fun _=>.inr ⟨rfl,rfl⟩
   ·cases h
  ·split at h
   ·split at h
    ·split at h
     ·simp only[Option.some.injEq,Prod.mk.injEq] at h
      obtain⟨_,rfl⟩:=h
      split
      ·exact .trans (.put (fun _=>.inl rfl) (.inl fun _=>rfl)) (.new fun _=>.inr ⟨rfl,rfl⟩)
      ·exact .new fun _=>.inr ⟨rfl,rfl⟩
     ·cases h
    ·cases h
   ·cases h
theorem eZ.append {X:Env} {s s':St} {ts:Array TypeId} {args:List Value} {v:Value} (h:iC X s ts args=some (v,s')):eZ s s':=by
 unfold iC at h
 (repeat' split at h) <;> first | exact .jI h | cases h
theorem eZ.copy {X:Env} {s s':St} {ts:Array TypeId} {args:List Value} {v:Value} (h:NR X s ts args=some (v,s')):eZ s s':=by
 unfold NR at h
 (repeat' split at h) <;> first
  | (cases h;done)
  | (rename_i hst;simp only[Option.some.injEq,Prod.mk.injEq] at h;obtain⟨_,rfl⟩:=h;exact .bJ hst)
  | (simp only[Option.some.injEq,Prod.mk.injEq] at h;obtain⟨_,rfl⟩:=h;exact .refl _)
theorem eZ.clear {X:Env} {s s':St} {ts:Array TypeId} {args:List Value} {v:Value} (h:qZ X s ts args=some (v,s')):eZ s s':=by
 unfold qZ at h
 (repeat' split at h) <;> first
  | (cases h;done)
  | (rename_i hst;simp only[Option.some.injEq,Prod.mk.injEq] at h;obtain⟨_,rfl⟩:=h;exact .bJ hst)
  | (simp only[Option.some.injEq,Prod.mk.injEq] at h;obtain⟨_,rfl⟩:=h;exact .refl _)
  | (simp only[Option.some.injEq,Prod.mk.injEq] at h;obtain⟨_,rfl⟩:=h;exact .put (fun _=>.inr ⟨rfl,rfl⟩) (.inr (.inl ⟨_,by assumption,rfl⟩)))
theorem eZ.delete {X:Env} {s s':St} {ts:Array TypeId} {args:List Value} {v:Value} (h:mZ X s ts args=some (v,s')):eZ s s':=by
 unfold mZ at h
 (repeat' split at h) <;> first
  | (cases h;done)
  | (simp only[Option.some.injEq,Prod.mk.injEq] at h;obtain⟨_,rfl⟩:=h;exact .refl _)
  | (simp only[Option.some.injEq,Prod.mk.injEq] at h;obtain⟨_,rfl⟩:=h;exact .put (fun _=>.inr ⟨rfl,rfl⟩) (.inr (.inl ⟨_,by assumption,rfl⟩)))
end Go.Dust
