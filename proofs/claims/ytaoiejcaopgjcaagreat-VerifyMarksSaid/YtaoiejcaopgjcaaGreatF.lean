/- The plain interpreter D and its laws (Do Du Dv Dw). -/
import Derived.Test.YtaoiejcaopgjcaaGreatE
import Derived.LoopNIn
import Derived.Carry
import Derived.WideKeyArgs
import Derived.ChangeSame
import Derived.OpenShut
set_option linter.unusedVariables false
set_option linter.unusedSimpArgs false
namespace Go.Dust
variable {P:Program} {ι ι':aP} {s s':St} {w w':World}
theorem zJ (hR:RS P ι s w) {l:Nat} {st:LoopState} {pend:Option Code} {t:PT Value} {nt:Nat} {ps:Array Tmp} {aKe bd:Code} {aT:Nat} (hl:s.heap.get l=some (.loop st pend t nt ps aKe bd aT)) :
  ∃ loc rec,ι l=some loc∧w.heap[loc.bL]?=some (.loop rec)∧rec.state=st∧rec.pending=pend∧rec.params=ps∧rec.assign=aKe∧rec.body=bd∧rec.tmps.size=nt ∧
   (∀ i,i<nt→VR ι ((t.get i).getD undef) (rec.tmps.getD i undef))∧fK nt aKe=true∧fK nt bd=true∧ps.toList.all (fun p=>decide (p<nt))=true ∧
   ∀ st' pend',RS P ι (s.put l fun v=>.loop st' pend' t nt ps aKe bd v) (w.putObj loc.bL (.loop {rec with state:=st',pending:=pend'})) ∧
    ES ι s w ι (s.put l fun v=>.loop st' pend' t nt ps aKe bd v) (w.putObj loc.bL (.loop {rec with state:=st',pending:=pend'})):=by
 obtain⟨loc,h1,h2⟩:=hR.obj l _ hl rfl;obtain⟨h20,h21,h22,hoka,hokb,hokp,rec,hrec,hst,hpe,hpa,has,hbd,hsz,hval⟩:=h2;refine⟨loc,rec,h1,hrec,hst,hpe,hpa,has,hbd,hsz,hval,hoka,hokb,hokp,fun st' pend'=>?_⟩;exact RS.put hR hl rfl h1 h20 _ ⟨h20,h21,h22,hoka,hokb,hokp,_,yV (iO hrec),rfl,rfl,hpa,has,hbd,hsz,hval⟩
theorem AR.args {a:aG} {act:Act}:∀ (ps:List Tmp) {vs us:List Value} (t:PT Value) (T:Array Value),bQ ι vs us→ps.all (fun p=>decide (p<a.nt))=true→AR ι {a with tmps:=t} {act with tmps:=T} →
  AR ι {a with tmps:=tR t (ps.zip vs)} {act with tmps:=(ps.zip us).foldl (fun tmps (p:Tmp×Value)=>tmps.setIfInBounds p.1 p.2) T}
 | [],_,_,t,T,_,_,h=>by simpa [tR] using h
 | p::ps,_,_,t,T,.nil,_,h=>by simpa [tR] using h
 | p::ps,_,_,t,T,.cons (v:=v) (u:=u) hv hr,hp,h=>by
  simp only[List.all_cons,Bool.and_eq_true,decide_eq_true_eq] at hp;simp only[List.zip_cons_cons,tR,List.foldl_cons];exact AR.args ps _ _ hr hp.2 (AR.put (d:=some p) h (fun x hx=>by cases hx;exact hp.1) hv)
theorem AR.start {fn:Func} {args:List Value} {args':Array Value} (h:bQ ι args args'.toList) (hle:args.length≤fn.ntmps) :
  AR ι {tmps:=PT.ofList args,nt:=fn.ntmps} {tmps:=args'++Array.replicate (fn.ntmps-args'.size) undef,defers:=[]}:=by
 have hlen:args.length=args'.size:=by rw[h.length];simp
 refine⟨by simp;omega,fun t ht=>?_⟩;simp only[aG.aB,PT.sF];by_cases hta:t<args.length
 ·obtain⟨u,h1,h2⟩:=h.FN t (v:=args[t]) (by simp[hta]);have h1':args'[t]?=some u:=by simpa using h1
  simp only[List.getElem?_eq_getElem hta,Option.getD_some,Array.getD_eq_getD_getElem?];rw[Array.getElem?_append_left (by omega),h1'];exact h2
 ·rw[List.getElem?_eq_none (by omega)];simp only[Option.getD_none,Array.getD_eq_getD_getElem?];rw[Array.getElem?_append_right (by omega)];have:(Array.replicate (fn.ntmps-args'.size) undef)[t-args'.size]?.getD undef=undef:=by
   simp only[Array.getElem?_replicate];split <;> rfl
  rw[this];exact VR.undef _
abbrev ru:=Option Nat→Code→aG→St→aS (dL×aG×St)
abbrev EX (P:Program) (ι:aP) (s:St) (w:World) (nt lo:Nat) (Φ:dL×aG×St→Prop) (Q:Exit→Act→World→Prop):Prop :=
 ∀ e a' s' act' w' ι',Φ (e,a',s')→AR ι' a' act'→RS P ι' s' w'→ES ι s w ι' s' w'→a'.nt=nt→DL lo ι' s'.look w' act'.defers→Q (dL.to e) act' w'
def uI (P:Program) (code:ru):Prop:=∀ r c a s act w ι Φ r' m lo Q,fK a.nt c=true→(code r c a s).iF Φ→AR ι a act→RS P ι s w→DL lo ι s.look w act.defers→CE ι r r'→lo≤w.heap.size →
 EX P ι s w a.nt lo Φ Q→c.wpIn (FW r') m P Q act w
def CD (P:Program) (code:ru) (n:Nat):Prop:=∀ r b a s act w ι Φ r' m lo Q,fK a.nt b=true→(code r (.loop b) a s).iF Φ→AR ι a act→RS P ι s w→DL lo ι s.look w act.defers→CE ι r r'→lo≤w.heap.size →
 EX P ι s w a.nt lo Φ Q→Code.roundsIn (FW r') m P b Q n act w
def MF (P:Program):Prop:=∀ (call:fZ) (round:gM),qX P call→uL P round→nA call→nA round→∀ (id:Nat) (ops:Array Oper) (a:aG) (s:St) (act:Act) (w:World) (ι:aP) (Φ:aG×St→Prop) (r:Option Nat) (m:Nat) (Q:Exit→Act→World→Prop),
 ops.toList.all (nW a.nt)=true→BE ops=true→(uR (env P) call round ops a s).iF Φ→AR ι a act→RS P ι s w →
 (∀ a' s' act' w' ι',Φ (a',s')→AR ι' a' act'→RS P ι' s' w'→ES ι s w ι' s' w'→a'.nt=a.nt→act'.defers=act.defers→Q .normal act' w')→(Code.region id ops true).wpIn (FW r) m P Q act w
theorem EX.next {nt lo:Nat} {Φ Φ':dL×aG×St→Prop} {Q Q':Exit→Act→World→Prop} (h:EX P ι s w nt lo Φ Q) (hE:ES ι s w ι' s' w') (hΦ:∀ p,Φ' p→Φ p) (hQ:∀ e a w,Q e a w→Q' e a w):EX P ι' s' w' nt lo Φ' Q' :=
 fun e a' s'' act' w'' ι'' h1 h2 h3 h4 h5 h6=>hQ _ _ _ (h e a' s'' act' w'' ι'' (hΦ _ h1) h2 h3 (Ext.trans hE h4) h5 h6)
theorem aG8 {n:Nat} (hC:uI P (code (env P) n)):uL P (sO (env P) (n+1)):=by
 intro l args args' s w ι Φ r m h ha hR;unfold sO at h;split at h
 ·rename_i pend0 t nt ps assign body aT hl;split at h
  ·rename_i hlen;obtain⟨loc,rec,h1,hrec,hst,hpe,hpa,has,hbd,hsz,hval,hoka,hokb,hokp,_⟩:=zJ hR hl;refine⟨loc,rec,h1,hrec,?_,?_⟩
   ·rw[hpa,← hlen,ha.length];simp
   ·refine roundIn_of_wpIn (F:=FW r) trivial ?_;rw[has,hbd];have hA:AR ι {tmps:=tR t (ps.toList.zip args),nt} {tmps:=(rec.params.zip args').foldl (fun tmps (p:Tmp×Value)=>tmps.setIfInBounds p.1 p.2) rec.tmps,defers:=[]}:=by
     have:=AR.args (ι:=ι) (a:={tmps:=t,nt}) (act:={tmps:=rec.tmps,defers:=[]}) ps.toList t rec.tmps ha hokp ⟨hsz,hval⟩;rw[hpa,← Array.foldl_toList,Array.toList_zip];exact this
    rw[aS.oP] at h;refine hC (some l) assign _ s _ w ι _ (some loc.bL) m 0 _ hoka h hA hR (DL.nil _ _) ⟨loc,h1,rfl⟩ (Nat.zero_le _) ?_;intro e a1 s1 act1 w1 ι1 hΦ har1 hR1 hE1 hnt1 hdl1;cases e with
    | exit=>exact hΦ.elim
    | ret=>exact hΦ.elim
    | normal =>
     simp only at hΦ;split at hΦ
     ·rename_i pend1 t1 nt1 ps1 as1 bd1 ver1 hl1;obtain⟨loc1,rec1,k1,krec,kst,kpe,kpa,kas,kbd,ksz,kval,koka,kokb,kokp,kput⟩:=zJ hR1 hl1;have:loc1=loc:=by have:=hE1.le l loc h1;rw[this] at k1;cases k1;rfl
      subst this;refine⟨_,run_beginRound krec kst,?_⟩;obtain⟨kR,kE⟩:=kput .busy pend1;have e1:({rec1 with state:=.busy,pending:=pend1}:Loop)={rec1 with state:=.busy}:=by rw[← kpe]
      rw[e1] at kR kE;rw[aS.oP] at hΦ;refine hC (some l) body a1 _ act1 _ ι1 _ (some loc1.bL) m 0 _ (by rw[hnt1];exact hokb) hΦ har1 kR (hdl1.ext kE) ⟨loc1,k1,rfl⟩ (Nat.zero_le _) ?_;intro e2 a2 s2 act2 w2 ι2 hΦ2 har2 hR2 hE2 hnt2 hdl2;simp only at hΦ2;split at hΦ2
      ·rename_i st3 pend3 t3 nt3 ps3 as3 bd3 ver3 hl3;obtain⟨loc3,rec3,q1,qrec,qst,qpe,qpa,qas,qbd,qsz,qval,qoka,qokb,qokp,qput⟩:=zJ hR2 hl3;have:loc3=loc1:=by have:=hE2.le l loc1 k1;rw[this] at q1;cases q1;rfl
       subst this;cases e2 with
       | normal =>
        obtain⟨qR,qE⟩:=qput .ready none;exact⟨_,_,run_endRound none qrec,.bool true,.bool true,_,ι2,rfl,hΦ2,.bool _,qR,Ext.trans hE1 (Ext.trans kE (Ext.trans hE2 qE))⟩
       | ret =>
        obtain⟨qR,qE⟩:=qput .done (some .ret);exact⟨_,_,run_endRound (some .ret) qrec,.bool false,.bool false,_,ι2,rfl,hΦ2,.bool _,qR,Ext.trans hE1 (Ext.trans kE (Ext.trans hE2 qE))⟩
       | exit id =>
        obtain⟨qR,qE⟩:=qput .done (some (.exit id));exact⟨_,_,run_endRound (some (.exit id)) qrec,.bool false,.bool false,_,ι2,rfl,hΦ2,.bool _,qR,Ext.trans hE1 (Ext.trans kE (Ext.trans hE2 qE))⟩
      ·exact hΦ2.elim
     ·exact hΦ.elim
  ·exact h.elim
 ·exact h.elim
theorem Uk {n:Nat} (hC:uI P (code (env P) n)):qX P (lV (env P) (n+1)):=by
 refine⟨?_,?_⟩
 ·intro f args s Φ h;unfold lV at h;split at h
  ·rename_i fn hf;refine⟨fn,hf,fun hb=>?_⟩;rw[hb] at h;exact h
  ·exact h.elim
 ·intro f fn args args' s w ι Φ r m hf hb h ha hR;obtain⟨c,hc⟩:=Option.isSome_iff_exists.1 hb;unfold lV at h;rw[hf] at h;simp only[hc] at h;split at h
  ·rename_i hle;obtain⟨h1,h2⟩:=JD hf;unfold BF at h2;rw[hc] at h2;simp only[Bool.and_eq_true] at h2;obtain⟨⟨_,hok⟩,hres⟩:=h2;rw[aS.oP] at h;show CallsIn (FW none) m P f args' w _;refine callsIn_of_wp_marks h1 hc trivial ?_ rfl;refine hC none c _ s _ w ι _ none m w.heap.size _ hok h (AR.start ha hle) hR (DL.nil _ _) trivial (Nat.le_refl _) ?_;intro e a' s' act' w' ι' hΦ har hR' hE hnt hdl;have key:∀ v,wX (env P) s'.look fn a'=some v→Φ (v,s')→LeavesInM (FW none) m P fn act'.tmps (IE P ι s w Φ) act'.defers .returning w':=by
    intro v hv hφ;refine jq _ w' hR' hE (Nat.le_refl _) hdl ?_;intro w'' hR'' hE'';obtain⟨u,g1,g2⟩:=Lg har hR'' (by rw[hnt];exact hres) hv;exact⟨u,g1,v,u,s',ι',rfl,hφ,g2,hR'',hE''⟩
   cases e with
   | exit=>exact hΦ.elim
   | normal =>
    simp only at hΦ;split at hΦ
    ·exact key _ (by assumption) hΦ
    ·exact hΦ.elim
   | ret =>
    simp only at hΦ;split at hΦ
    ·exact key _ (by assumption) hΦ
    ·exact hΦ.elim
  ·exact h.elim
theorem Hb {n:Nat} (hC:uI P (code (env P) n)) (hL:CD P (code (env P) n) n):CD P (code (env P) (n+1)) (n+1):=by
 intro r b a s act w ι Φ r' m lo Q hok h ha hR hdl hr hlo hQ;rw[roundsIn_succ];unfold code at h;simp only at h;rw[aS.oP] at h;refine hC r b a s act w ι _ r' m lo _ hok h ha hR hdl hr hlo ?_;intro e a' s' act' w' ι' hΦ har hR' hE hnt hdl';cases e with
 | normal =>
  refine hL r b a' s' act' w' ι' Φ r' m lo Q (by rw[hnt];exact hok) hΦ har hR' hdl' (hr.mono hE.le) (Nat.le_trans hlo hE.size) ?_;rw[hnt];exact hQ.next hE (fun _ h=>h) (fun _ _ _ h=>h)
 | exit id=>exact hQ _ _ _ _ _ _ hΦ har hR' hE hnt hdl'
 | ret=>exact hQ _ _ _ _ _ _ hΦ har hR' hE hnt hdl'
theorem aEz {n:Nat} (hc:qX P (lV (env P) n)) {r:Option Nat} {g:Operand} {ps:Array Tmp} {assign body:Code} {a:aG} {act:Act} {Φ:dL×aG×St→Prop} {r':Option Nat} {m lo:Nat} {Q:Exit→Act→World→Prop}
  (hok:fK a.nt (.rangeFunc g ps assign body)=true) (h:(code (env P) (n+1) r (.rangeFunc g ps assign body) a s).iF Φ) (ha:AR ι a act) (hR:RS P ι s w) (hdl:DL lo ι s.look w act.defers) (hr:CE ι r r') (hlo:lo≤w.heap.size)
  (hQ:EX P ι s w a.nt lo Φ Q):(Code.rangeFunc g ps assign body).wpIn (FW r') m P Q act w:=by
 simp only[fK,Bool.and_eq_true] at hok;obtain⟨⟨⟨hokg,hokp⟩,hoka⟩,hokb⟩:=hok;unfold code at h;simp only at h;split at h
 ·rename_i f first captured hg;split at h
  ·rename_i hlive;have hv:=ha.eval hR.even hokg;rw[hg] at hv;obtain⟨a',c',hg',hf1,hf2⟩:=hv.TY;refine wpIn_rangeFunc fun fid _=>?_;obtain⟨mark,w0,rec,henter,hR0,hE0,hsz0,hrec,hmark⟩:∃ (mark:List Deferred) (w0:World) (rec:Loop),
     (Instr.enterLoop fid act.tmps ps assign body (FW r').round).run P w=.ok (w0.heap.size,mark) (w0.alloc (.loop rec))∧RS P ι s w0∧ES ι s w ι s w0∧lo≤w0.heap.size ∧
     (rec.state=.ready∧rec.pending=none∧rec.params=ps∧rec.assign=assign∧rec.body=body∧rec.tmps=act.tmps)∧DL lo ι s.look w0 (mark++act.defers):=by
    cases r' with
    | none =>
     refine⟨[{target:=.collected w.heap.size,args:=#[]}],w.alloc (.deferred (some [])),{state:=.ready,pending:=none,fn:=fid,tmps:=act.tmps,params:=ps,assign,body,defers:=w.heap.size},?_,hR.raw _,Ext.raw _,by simp;omega,?_,?_⟩
     ·exact(run_enterLoop_outer fid act.tmps ps assign body).trans (by rw[World.size_alloc])
     ·exact⟨rfl,rfl,rfl,rfl,rfl,rfl⟩
     ·have hd2:=hdl.ext (Ext.raw (ι:=ι) (H:=s.look) (n:=s.next) (w:=w) (.deferred (some [])));refine⟨⟨?_,?_⟩,?_⟩
      ·intro d hd;rcases List.mem_cons.1 hd with rfl | hd
       ·exact⟨w.heap.size,rfl,heap_alloc_new,Iw (x:=some []) (hR.raw (.deferred (some []))) heap_alloc_new⟩
       ·exact hd2.1.mark d hd
      ·refine List.pairwise_cons.2 ⟨?_,hd2.1.apart⟩;intro d hd D hD hd3;cases hD;obtain⟨D',rfl,k2,_⟩:=hdl.1.mark d hd;cases hd3;have:=iO k2;omega
      ·intro d hd D hD;rcases List.mem_cons.1 hd with rfl | hd
       ·cases hD;exact hlo
       ·exact hd2.2 d hd D hD
    | some b =>
     cases r with
     | none=>exact hr.elim
     | some l =>
      obtain⟨loc,hl1,rfl⟩:=hr;unfold AZ at hlive;simp only at hlive;split at hlive
      ·rename_i hll;obtain⟨loc1,rec1,k1,krec,_⟩:=zJ hR hll;rw[hl1] at k1;cases k1;exact⟨[],w,{state:=.ready,pending:=none,fn:=fid,tmps:=act.tmps,params:=ps,assign,body,defers:=rec1.defers},run_enterLoop_inner krec fid act.tmps ps assign body,hR,Ext.refl,hlo,⟨rfl,rfl,rfl,rfl,rfl,rfl⟩,hdl⟩
      ·cases hlive
   obtain⟨e1,e2,e3,e4,e5,e6⟩:=hrec;have hfree:ι s.next=none:=hR.fresh _ (Nat.le_refl _) hR.jZ;have hle:=aP.sM (l:=⟨w0.heap.size,0,0,false⟩) hfree;obtain⟨hR1,hE1⟩:=RS.new (ex:=0) hR0 (.loop rec) (f:=fun v=>.loop .ready none a.tmps a.nt ps assign body v)
    ⟨rfl,rfl,rfl,hoka,hokb,hokp,rec,heap_alloc_new,e1,e2,e3,e4,e5,by rw[e6];exact ha.size,fun i hi=>by rw[e6];exact(ha.val i hi).mono hle⟩
   have hnew:(ι.add s.next ⟨w0.heap.size,0,0,false⟩) s.next=some ⟨w0.heap.size,0,0,false⟩:=aP.add_same _ _ _;rw[aS.oP] at h;have hargs:bQ (ι.add s.next ⟨w0.heap.size,0,0,false⟩) (first.toList++[Value.func (.yield s.next) #[] #[]]++captured.toList) (a'++#[Value.func (.yield w0.heap.size) #[] #[]]++c').toList:=by
    simp only[Array.toList_append];exact((hf1.mono hle).append (bQ.cons (VR.yield hnew) bQ.nil)).append (hf2.mono hle)
   obtain⟨fn,hfn,hext⟩:=hc.fn f _ _ _ h;have hbody:fn.body.isSome=true:=by
    cases hb:fn.body with
    | some c=>rfl
    | none =>
     exfalso;have hx:=hext hb;unfold yM at hx;split at hx
     ·split at hx
      ·rename_i t b heq;have h1:(Value.func (.yield s.next) #[] #[])∈first.toList++[Value.func (.yield s.next) #[] #[]]++captured.toList:=by simp
       rw[heq] at h1;simp at h1
      ·exact hx.elim
     ·exact hx.elim
   refine⟨w0.heap.size,mark,w0.alloc (.loop rec),{target:=.fn (.func f) c',args:=a'++#[.func (.yield w0.heap.size) #[] #[]]},w0.alloc (.loop rec),f,a'++#[.func (.yield w0.heap.size) #[] #[]]++c',w0.alloc (.loop rec),
    henter,?_,fun _ _=>trivial,?_,?_,?_⟩
   ·have harg:(#[Operand.const (.func (.yield w0.heap.size) #[] #[])].map act.eval)=#[Value.func (.yield w0.heap.size) #[] #[]]:=by simp[Act.eval]
    simp only[resolve,hg',Deferred.ofValue,Sem.run_pure,harg]
   ·show (callFunc f _).run P _=_;exact pf hfn hbody _
   ·intro hh;cases hh
   ·refine(hc.calls f fn _ _ _ _ _ _ r' (m-1) hfn hbody h hargs hR1).mono ?_;rintro e w3 ⟨v,u,s3,ι3,rfl,hΦ,hvu,hR3,hE3⟩;have hA3:∀ ds,AR ι3 a {act with defers:=ds}:=fun ds=>⟨ha.size,fun t ht=>(ha.val t ht).mono (aP.le_trans hle hE3.le)⟩;simp only at hΦ;split at hΦ
    ·rename_i st pend t nt ps3 as3 bd3 aT hl3;obtain⟨loc3,rec3,q1,qrec,qst,qpe,qpa,qas,qbd,qsz,qval,qoka,qokb,qokp,qput⟩:=zJ hR3 hl3;have:loc3=⟨w0.heap.size,0,0,false⟩:=by have:=hE3.le _ _ hnew;rw[this] at q1;cases q1;rfl
     subst this;split at hΦ
     ·exact hΦ.elim
     ·rename_i hbusy;obtain⟨qR,qE⟩:=qput .exhausted pend;have hEall:=Ext.trans hE0 (Ext.trans hE1 (Ext.trans hE3 qE));have hD:=(hmark.ext hE1).ext (Ext.trans hE3 qE);refine⟨rec3.pending,_,run_endLoop qrec (by rw[qst];exact hbusy),?_⟩;rw[qpe];split at hΦ
      ·exact hQ .normal a _ _ _ _ hΦ (hA3 _) qR hEall rfl hD
      ·exact wpIn_ret (hQ .ret a _ {act with defers:=mark++act.defers} _ _ hΦ (hA3 _) qR hEall rfl hD)
      ·exact wpIn_exit (hQ (.exit _) a _ {act with defers:=mark++act.defers} _ _ hΦ (hA3 _) qR hEall rfl hD)
      ·exact hΦ.elim
    ·exact hΦ.elim
  ·exact h.elim
 ·exact h.elim
theorem Ve (hD:MF P) {n:Nat} (hC:uI P (code (env P) n)) (hL:CD P (code (env P) n) n) (hc:qX P (lV (env P) n)) (hr:uL P (sO (env P) n)):uI P (code (env P) (n+1)):=by
 intro r c a s act w ι Φ r' m lo Q hok h ha hR hdl hrd hlo hQ;cases c with
 | rangeFunc g ps aKe bd=>exact aEz hc hok h ha hR hdl hrd hlo hQ
 | loop b=>exact wpIn_loop_rounds (n+1) (Hb hC hL r b a s act w ι Φ r' m lo Q hok h ha hR hdl hrd hlo hQ)
 | skip=>unfold code at h;exact wpIn_skip (hQ .normal a s act w ι h ha hR Ext.refl rfl hdl)
 | label l=>unfold code at h;exact wpIn_label (hQ .normal a s act w ι h ha hR Ext.refl rfl hdl)
 | exit id=>unfold code at h;exact wpIn_exit (hQ (.exit id) a s act w ι h ha hR Ext.refl rfl hdl)
 | ret=>unfold code at h;exact wpIn_ret (hQ .ret a s act w ι h ha hR Ext.refl rfl hdl)
 | scope=>unfold code at h;exact h.elim
 | goto=>unfold code at h;exact h.elim
 | refuse=>unfold code at h;exact h.elim
 | region id ops draw =>
  simp only[fK,Bool.and_eq_true] at hok;unfold code at h;simp only at h;rw[aS.oP] at h;cases draw with
  | true =>
   simp only[if_true] at h;obtain⟨e1,e2,e3⟩:=zn (X:=env P) n;refine hD _ _ hc hr e2 e3 id ops a s act w ι _ r' m Q hok.1 (by simpa using hok.2) h ha hR ?_;intro a' s' act' w' ι' h1 h2 h3 h4 h5 h6;exact hQ .normal a' s' act' w' ι' h1 h2 h3 h4 h5 (by rw[h6];exact hdl.ext h4)
  | false =>
   simp only[Bool.false_eq_true,if_false] at h;refine wpIn_region ?_;rw[List.range_eq_range'];have:=XY (r:=r') (m:=m) hc hr (ops:=ops) (Q:=Q) ops.toList 0 (fun j=>by simp) a s act w ι _ hok.1 h ha hR ?_
   ·simpa using this
   ·intro a' s' act' w' ι' h1 h2 h3 h4 h5 h6;exact hQ .normal a' s' act' w' ι' h1 h2 h3 h4 h5 (by rw[h6];exact hdl.ext h4)
 | seq x y =>
  simp only[fK,Bool.and_eq_true] at hok;unfold code at h;simp only at h;rw[aS.oP] at h;refine wpIn_seq (hC r x a s act w ι _ r' m lo _ hok.1 h ha hR hdl hrd hlo ?_);intro e a' s' act' w' ι' hΦ har hR' hE hnt hdl';cases e with
  | normal =>
   refine hC r y a' s' act' w' ι' Φ r' m lo Q (by rw[hnt];exact hok.2) hΦ har hR' hdl' (hrd.mono hE.le) (Nat.le_trans hlo hE.size) ?_;rw[hnt];exact hQ.next hE (fun _ h=>h) (fun _ _ _ h=>h)
  | exit id=>exact hQ _ _ _ _ _ _ hΦ har hR' hE hnt hdl'
  | ret=>exact hQ _ _ _ _ _ _ hΦ har hR' hE hnt hdl'
 | cond c x y =>
  simp only[fK,Bool.and_eq_true] at hok;unfold code at h;simp only at h;have hv:=ha.eval hR.even hok.1.1;split at h
  ·rename_i hc';rw[hc'] at hv;exact wpIn_cond_true hv.tD (hC r x a s act w ι Φ r' m lo Q hok.1.2 h ha hR hdl hrd hlo hQ)
  ·rename_i hc';rw[hc'] at hv;exact wpIn_cond_false hv.tD (hC r y a s act w ι Φ r' m lo Q hok.2 h ha hR hdl hrd hlo hQ)
  ·exact h.elim
 | block id b =>
  simp only[fK] at hok;unfold code at h;simp only at h;rw[aS.oP] at h;refine wpIn_block (hC r b a s act w ι _ r' m lo _ hok h ha hR hdl hrd hlo ?_);intro e a' s' act' w' ι' hΦ har hR' hE hnt hdl';cases e with
  | normal=>exact hQ .normal _ _ _ _ _ hΦ har hR' hE hnt hdl'
  | ret=>exact hQ .ret _ _ _ _ _ hΦ har hR' hE hnt hdl'
  | exit i =>
   simp only at hΦ;show if i=id then Q .normal act' w' else Q (.exit i) act' w';split at hΦ
   ·rename_i e;rw[if_pos e];exact hQ .normal _ _ _ _ _ hΦ har hR' hE hnt hdl'
   ·rename_i e;rw[if_neg e];exact hQ (.exit i) _ _ _ _ _ hΦ har hR' hE hnt hdl'
theorem tv (hD:MF P):∀ n,uI P (code (env P) n)∧CD P (code (env P) n) n∧qX P (lV (env P) n)∧uL P (sO (env P) n)
 | 0=>by
  refine⟨?_,?_,⟨?_,?_⟩,?_⟩
  ·intro r c a s act w ι Φ r' m lo Q _ h;unfold code at h;exact h.elim
  ·intro r b a s act w ι Φ r' m lo Q _ h;unfold code at h;exact h.elim
  ·intro f args s Φ h;unfold lV at h;exact h.elim
  ·intro f fn args args' s w ι Φ r m _ _ h;unfold lV at h;exact h.elim
  ·intro l args args' s w ι Φ r m h;unfold sO at h;exact h.elim
 | n+1=>by
  obtain⟨h1,h2,h3,h4⟩:=tv hD n;exact⟨Ve hD h1 h2 h3 h4,Hb h1 h2,Uk h1,aG8 h1⟩
variable {P:Program} {call:fZ} {round:gM} {ops:Array Oper} {nt base:Nat} {A:Nat→aG} {S:Nat→St} {V:Nat→Value}
variable {ι0:aP} {s0:St} {w0:World} {ds:List Deferred}
def MI (P:Program) (ops:Array Oper) (nt base:Nat) (A:Nat→aG) (S:Nat→St) (V:Nat→Value) (ι0:aP) (s0:St) (w0:World) (ds:List Deferred) (X:Nat→Prop) (act:Act) (w:World):Prop :=
 ∃ T ι HX aX,Inv P ops nt base A S V ι0 s0 w0 ds X act w T ι HX aX
theorem Inv.step {r:Option Nat} {m:Nat} {Q:Exit→Act→World→Prop} (h:uM P call round ops nt base A S V) (hb0:s0.next≤base) {X:Nat→Prop} {act:Act} {w:World} (hv:MI P ops nt base A S V ι0 s0 w0 ds X act w)
  {i:Nat} {o:Oper} (ho:ops[i]?=some o) (hX:¬ X i) (hr:∀ x∈o.after,Region.binds .any x=true→X x.on) {K:Act→World→Prop}
  (hK:∀ act' w',MI P ops nt base A S V ι0 s0 w0 ds (fun k=>X k∨k=i) act' w'→K act' w'):wpOpIn (FW r) m P ops Q i K act w:=by
 obtain⟨T,ι,HX,aX,v⟩:=hv;have hd:=Js (h.oper ho);have hvals:=v.aIk h ho hX hr;unfold wpOpIn;simp only[ho];rw[← v.want h ho hX hr];rcases(h.step i o ho).2 with ⟨h1,h2⟩ | ⟨h1,h2,h3⟩
 ·rw[if_pos h1];unfold lK at h2;split at h2
  ·rename_i hk;split at h2
   ·rename_i v0 hs;simp only[Option.some.injEq,Prod.mk.injEq] at h2;obtain⟨rfl,_⟩:=h2;have hs':=still_mono (H':=HX) (fun hm=>v.reads h ho hX hr hk h1 hm) hs;obtain⟨u,g1,g2⟩:=Ov v.tie hvals hs';exact zZ hd g1 (hK _ _ ⟨T,ι,HX,_,v.plain h ho hX hr (by rw[hk];decide) (by rw[hk];intro e;cases e) g2⟩)
   ·cases h2
  ·rename_i hk;split at h2
   ·rename_i v0 f ha;simp only[Option.some.injEq,Prod.mk.injEq] at h2;obtain⟨rfl,h2⟩:=h2;have hfree:=v.free i (h.lt ho) hX;obtain⟨u,x,g1,g2,g3⟩:=tz (w:=w) hfree hvals ha;exact zZ hd g1 (hK _ _ ⟨T,_,_,_,v.alloc h ho hX hr hk hb0 h2.symm g2 g3⟩)
   ·cases h2
  ·rename_i hk;split at h2
   ·rename_i p hx;simp only[Option.some.injEq] at h2;subst h2;obtain⟨_,_,hR⟩:=v.here h ho hX hr hk;refine yu h.hc h.hr hR hvals hd (Φ:=fun p=>p=(V i,S (i+1))) (by rw[hx];rfl) ?_;intro v' u s' ι' w' hp hv' hR' hE';cases hp;obtain⟨H',hI⟩:=v.effect h ho hX hr hk hv' hR' hE';exact hK _ _ ⟨_,_,_,_,hI⟩
   ·cases h2
 ·rw[if_neg (by rw[h1];decide)];refine⟨fun _ _=>trivial,hK _ _ ?_⟩;by_cases hk:dP o.op=.effect
  ·obtain⟨_,_,hR⟩:=v.here h ho hX hr hk;obtain⟨H',hI⟩:=v.effect h ho hX hr hk (ι':=ι) (w':=w) (u:=undef) (by rw[h2];exact VR.undef _) (by rw[h3];exact hR) (by rw[h3];exact Ext.refl);exact⟨_,_,_,_,hI⟩
  ·refine⟨T,ι,HX,_,v.plain h ho hX hr hk ?_ (by rw[h2];exact VR.undef _)⟩;rintro _ ⟨o',ho',hw'⟩;rw[ho] at ho';cases ho';rw[h1] at hw';cases hw'
theorem Inv.done (h:uM P call round ops nt base A S V) {X:Nat→Prop} {act:Act} {w:World} (hv:MI P ops nt base A S V ι0 s0 w0 ds X act w) (hall:∀ i,i<ops.size→X i) :
  ∃ ι,AR ι (A ops.size) act∧RS P ι (S ops.size) w∧ES ι0 s0 w0 ι (S ops.size) w∧act.defers=ds:=by
 obtain⟨T,ι,HX,aX,v⟩:=hv;obtain⟨h1,h2⟩:=v.Qp h (Nat.le_refl _) v.top (fun k k1 k2 hk=>by have:=(v.yL k hk).1 (hall k k2);omega) (fun k _ k2 _=>hall k k2);have hnt:=h.nt0 ops.size (Nat.le_refl _);refine⟨ι,⟨by rw[v.tmps.size,v.KN,hnt],fun t ht=>?_⟩,?_,?_,v.defs⟩
 ·rw[hnt] at ht;have:(A ops.size).aB t=aX.aB t:=sY.uniq (h.last t _ (Nat.le_refl _)) (v.last t ht) fun k ok hk _=>⟨fun _=>hall k (h.lt hk),fun _=>h.lt hk⟩;rw[this];exact v.tmps.val t (by rw[v.KN];exact ht)
 ·unfold RS;rw[h2];exact v.tie.cu h1
 ·unfold ES;rw[h2];exact⟨v.ext.le,v.ext.new,v.ext.zM,v.ext.os,v.ext.tape,v.ext.output,v.ext.size,v.ext.aD,fun c ⟨b,q,l,k1,k2,k3⟩=>v.ext.own c ⟨b,q,l,h1 b q k1 k2,k2,k3⟩⟩
abbrev xZ (listed:Array Bool) (i:Nat):Prop:=listed.getD i false=true
theorem aCm {listed:Array Bool} {i:Nat} (hi:i<listed.size):xZ (listed.setIfInBounds i true)=fun k=>xZ listed k∨k=i:=by
 funext k;apply propext;simp only[xZ,Array.getD_eq_getD_getElem?,Array.getElem?_setIfInBounds];by_cases e:i=k
 ·subst e;simp[hi]
 ·rw[if_neg e];constructor
  ·exact fun h=>.inl h
  ·rintro(h | h)
   ·exact h
   ·exact absurd h.symm e
theorem Inv.any {r:Option Nat} {m:Nat} {Q:Exit→Act→World→Prop} (h:uM P call round ops nt base A S V) (hb0:s0.next≤base)
  (hQ:∀ act' w' ι',AR ι' (A ops.size) act'→RS P ι' (S ops.size) w'→ES ι0 s0 w0 ι' (S ops.size) w'→act'.defers=ds→Q .normal act' w') :
  ∀ (fuel:Nat) (listed:Array Bool) (act:Act) (w:World),listed.size=ops.size→listed.toList.count false≤fuel→MI P ops nt base A S V ι0 s0 w0 ds (xZ listed) act w →
   wpAnyIn (FW r) m P .any ops Q fuel listed act w:=by
 have fin:∀ (listed:Array Bool) (act:Act) (w:World),listed.size=ops.size→MI P ops nt base A S V ι0 s0 w0 ds (xZ listed) act w→Region.ready .any ops listed=[]→Q .normal act w:=by
  intro listed act w hsz hv mQ;have hall:∀ i,i<ops.size→xZ listed i:=by
   intro i
   induction i using Nat.strongRecOn with
   | _ i ih =>
    intro hi;cases hl:listed.getD i false with
    | true=>exact hl
    | false =>
     exfalso;have hok:ops[i]?=some ops[i]:=by simp[hi]
     have:i∈Region.ready .any ops listed:=by
      refine mem_ready.2 ⟨?_,_,hok,fun e he hb=>?_⟩
      ·have hsi:i<listed.size:=by omega
       simp only[Array.getD_eq_getD_getElem?,Array.getElem?_eq_getElem hsi,Option.getD_some] at hl ⊢;exact hl
      ·have bY:=h.Wq i _ hok e he hb;exact ih e.on bY (by omega)
     rw[mQ] at this;cases this
  obtain⟨ι,h1,h2,h3,h4⟩:=Inv.done h hv hall;exact hQ act w ι h1 h2 h3 h4
 intro fuel
 induction fuel with
 | zero =>
  intro listed act w hsz hc hv;have mQ:Region.ready .any ops listed=[]:=by
   refine List.eq_nil_iff_forall_not_mem.2 fun i hi=>?_;obtain⟨h1,o,ho,_⟩:=mem_ready.1 hi;have hsi:i<listed.size:=by have:=h.lt ho;omega
   have:false∈listed.toList:=by
    simp only[Array.getD_eq_getD_getElem?,Array.getElem?_eq_getElem hsi,Option.getD_some] at h1;rw[← h1];simp
   have:=List.count_pos_iff.2 this;omega
  exact⟨mQ,fin listed act w hsz hv mQ⟩
 | succ fuel ih =>
  intro listed act w hsz hc hv;refine⟨fun mQ=>fin listed act w hsz hv mQ,fun i hi=>?_⟩;obtain⟨h1,o,ho,hr⟩:=mem_ready.1 hi;have hsi:i<listed.size:=by have:=h.lt ho;omega
  have hli:listed[i]=false:=by simpa only[Array.getD_eq_getD_getElem?,Array.getElem?_eq_getElem hsi,Option.getD_some] using h1
  have hX:¬ xZ listed i:=by
   simp only[xZ,Array.getD_eq_getD_getElem?,Array.getElem?_eq_getElem hsi,Option.getD_some,hli];decide
  refine Inv.step h hb0 hv ho hX hr ?_;intro act' w' hv';rw[← aCm hsi] at hv';refine ih _ act' w' (by simpa using hsz) ?_ hv';rw[Array.toList_setIfInBounds,List.count_set (by simpa using hsi)];rw[if_pos (by simpa using hli),if_neg (by decide)];omega
noncomputable def tW (X:Env) (call:fZ) (round:gM) (ops:Array Oper) (base i:Nat) (p:aG×St):aG×St×Value :=
 match ops[i]? with
 | some o=>if Region.wanted o (aN ops p.1) then(match lK X call round (base+2*i) p.2 p.1.eval o.op with
   | some (v,s')=>(p.1.put o.dst v,s',v)
   | none=>(p.1,p.2,undef)) else(p.1.put o.dst undef,p.2,undef)
 | none=>(p.1,p.2,undef)
noncomputable def tr (X:Env) (call:fZ) (round:gM) (ops:Array Oper) (base:Nat) (a:aG) (s:St):Nat→aG×St
 | 0=>(a,s)
 | i+1=>((tW X call round ops base i (tr X call round ops base a s i)).1,(tW X call round ops base i (tr X call round ops base a s i)).2.1)
theorem jy {X:Env} {a:aG} {s:St}:∀ (rest:List Oper) (k:Nat) (a':aG) (s':St) (l:List nB),(∀ j,rest[j]?=ops[k+j]?)→eP X call round ops base rest k (tr X call round ops base a s k).1 (tr X call round ops base a s k).2=some (a',s',l) →
  tr X call round ops base a s (k+rest.length)=(a',s') ∧
  ∀ j o,rest[j]?=some o→∃ nt,l[j]?=some nt ∧
   ((Region.wanted o (aN ops (tr X call round ops base a s (k+j)).1)=true ∧
    lK X call round (base+2*(k+j)) (tr X call round ops base a s (k+j)).2 (tr X call round ops base a s (k+j)).1.eval o.op=some ((tW X call round ops base (k+j) (tr X call round ops base a s (k+j))).2.2,(tr X call round ops base a s (k+j+1)).2) ∧
    (tr X call round ops base a s (k+j+1)).1=(tr X call round ops base a s (k+j)).1.put o.dst (tW X call round ops base (k+j) (tr X call round ops base a s (k+j))).2.2 ∧
    nt={iC:=true,reads:=fM (tr X call round ops base a s (k+j)).1.eval (tr X call round ops base a s (k+j)).2.look o.op,pre:=(tr X call round ops base a s (k+j)).2,post:=(tr X call round ops base a s (k+j+1)).2}) ∨
    (Region.wanted o (aN ops (tr X call round ops base a s (k+j)).1)=false∧(tW X call round ops base (k+j) (tr X call round ops base a s (k+j))).2.2=undef∧(tr X call round ops base a s (k+j+1)).2=(tr X call round ops base a s (k+j)).2 ∧
    (tr X call round ops base a s (k+j+1)).1=(tr X call round ops base a s (k+j)).1.put o.dst undef∧nt.iC=false))
 | [],k,a',s',l,_,h=>by
  simp only[eP,Option.some.injEq,Prod.mk.injEq] at h;obtain⟨h1,h2,_⟩:=h;refine⟨?_,fun j o hj=>by simp at hj⟩;rw[← h1,← h2];rfl
 | o::rest,k,a',s',l,hidx,h=>by
  have ho:ops[k]?=some o:=by have:=hidx 0;simpa using this.symm
  have hrest:∀ j,rest[j]?=ops[k+1+j]?:=fun j=>by
   have:=hidx (j+1);simpa [show k+(j+1)=k+1+j from by omega] using this
  unfold eP at h;have htr:tr X call round ops base a s (k+1)=((tW X call round ops base k (tr X call round ops base a s k)).1,(tW X call round ops base k (tr X call round ops base a s k)).2.1):=rfl;split at h
  ·rename_i hw;split at h
   ·rename_i v s1 hx;have hst:tW X call round ops base k (tr X call round ops base a s k)=((tr X call round ops base a s k).1.put o.dst v,s1,v):=by
     unfold tW;rw[ho];simp only;rw[if_pos hw,hx]
    rw[hst] at htr;split at h
    ·rename_i a2 s2 l2 hl;simp only[Option.some.injEq,Prod.mk.injEq] at h;obtain⟨rfl,rfl,rfl⟩:=h;obtain⟨g1,g2⟩:=jy rest (k+1) a2 s2 l2 hrest (by rw[htr];exact hl);refine⟨by rw[← g1];congr 1;simp;omega,fun j o' hj=>?_⟩;cases j with
     | zero =>
      simp only[List.getElem?_cons_zero,Option.some.injEq] at hj;subst hj;refine⟨_,rfl,.inl ⟨hw,?_,?_,?_⟩⟩
      ·simp only[Nat.add_zero];rw[hst,htr];exact hx
      ·simp only[Nat.add_zero];rw[hst,htr]
      ·simp only[Nat.add_zero];rw[htr]
     | succ j =>
      have:=g2 j o' (by simpa using hj);rw[show k+1+j=k+(j+1) from by omega] at this;simpa only[List.getElem?_cons_succ] using this
    ·cases h
   ·cases h
  ·rename_i hw;have hw':Region.wanted o (aN ops (tr X call round ops base a s k).1)=false:=by simpa using hw
   have hst:tW X call round ops base k (tr X call round ops base a s k)=((tr X call round ops base a s k).1.put o.dst undef,(tr X call round ops base a s k).2,undef):=by
    unfold tW;rw[ho];simp only;rw[if_neg hw]
   rw[hst] at htr;split at h
   ·rename_i a2 s2 l2 hl;simp only[Option.some.injEq,Prod.mk.injEq] at h;obtain⟨rfl,rfl,rfl⟩:=h;obtain⟨g1,g2⟩:=jy rest (k+1) a2 s2 l2 hrest (by rw[htr];exact hl);refine⟨by rw[← g1];congr 1;simp;omega,fun j o' hj=>?_⟩;cases j with
    | zero =>
     simp only[List.getElem?_cons_zero,Option.some.injEq] at hj;subst hj;refine⟨_,rfl,.inr ⟨hw',?_,?_,?_,rfl⟩⟩
     ·simp only[Nat.add_zero];rw[hst]
     ·simp only[Nat.add_zero];rw[htr]
     ·simp only[Nat.add_zero];rw[htr]
    | succ j =>
     have:=g2 j o' (by simpa using hj);rw[show k+1+j=k+(j+1) from by omega] at this;simpa only[List.getElem?_cons_succ] using this
   ·cases h
theorem yo (hm:P.follows .mixedOrders=true):MF P:=by
 intro call round hc hr lc lr id ops a s act w ι Φ r m Q hok hod h ha hR hQ;unfold uR at h;split at h
 ·exact h.elim
 ·rename_i c hconf;split at h
  ·rename_i a' s' log hlog;split at h
   ·rename_i hlk;obtain⟨g1,g2⟩:=jy (X:=env P) (call:=call) (round:=round) (ops:=ops) (base:=s.next) (a:=a) (s:={heap:=s.heap,next:=s.next+2*ops.size,aO:=s.aO}) ops.toList 0 a' s' log (fun j=>by simp) hlog;generalize hA:(fun i=>(tr (env P) call round ops s.next a {heap:=s.heap,next:=s.next+2*ops.size,aO:=s.aO} i).1)=A at *;generalize hS:(fun i=>(tr (env P) call round ops s.next a {heap:=s.heap,next:=s.next+2*ops.size,aO:=s.aO} i).2)=S at *;generalize hV:(fun i=>(tW (env P) call round ops s.next i (tr (env P) call round ops s.next a {heap:=s.heap,next:=s.next+2*ops.size,aO:=s.aO} i)).2.2)=V at *;have eA:∀ i,(tr (env P) call round ops s.next a {heap:=s.heap,next:=s.next+2*ops.size,aO:=s.aO} i).1=A i:=fun i=>congrFun hA i;have eS:∀ i,(tr (env P) call round ops s.next a {heap:=s.heap,next:=s.next+2*ops.size,aO:=s.aO} i).2=S i:=fun i=>congrFun hS i;have eV:∀ i,(tW (env P) call round ops s.next i (tr (env P) call round ops s.next a {heap:=s.heap,next:=s.next+2*ops.size,aO:=s.aO} i)).2.2=V i:=fun i=>congrFun hV i;simp only[eA,eS,eV,Nat.zero_add] at g2;have eA0:A 0=a:=(eA 0).symm;have eS0:S 0={heap:=s.heap,next:=s.next+2*ops.size,aO:=s.aO}:=(eS 0).symm;have hst:∀ i o,ops[i]?=some o→A (i+1)=(A i).put o.dst (V i) ∧
      ((Region.wanted o (aN ops (A i))=true∧lK (env P) call round (s.next+2*i) (S i) (A i).eval o.op=some (V i,S (i+1))) ∨
       (Region.wanted o (aN ops (A i))=false∧V i=undef∧S (i+1)=S i)):=by
     intro i o ho;obtain⟨nt,_,h2⟩:=g2 i o (by simpa using ho);rcases h2 with ⟨k1,k2,k3,_⟩ | ⟨k1,k2,k3,k4,_⟩
     ·exact⟨k3,.inl ⟨k1,k2⟩⟩
     ·exact⟨by rw[k2];exact k4,.inr ⟨k1,k2,k3⟩⟩
    have hnt:∀ i,i≤ops.size→(A i).nt=a.nt:=by
     intro i
     induction i with
     | zero=>intro _;rw[eA0]
     | succ i ih =>
      intro hi;rw[(hst i ops[i] (by simp[show i<ops.size by omega])).1,aEw];exact ih (by omega)
    have hev:∀ i,i≤ops.size→s.next+2*ops.size≤(S i).next:=by
     intro i
     induction i with
     | zero=>intro _;rw[eS0];exact Nat.le_refl _
     | succ i ih =>
      intro hi;have i1:=ih (by omega);rcases(hst i ops[i] (by simp[show i<ops.size by omega])).2 with ⟨_,k⟩ | ⟨_,_,k⟩
      ·have:=(zp (base:=s.next) lc lr (by omega) (by omega) k).next;omega
      ·rw[k];exact i1
    have hrun:uM P call round ops a.nt s.next A S V:=by
     refine⟨hc,hr,lc,lr,hok,hnt,hst,fun i j oi oj bY hi hj=>aDr hod hi hj bY,fun j o ho=>aDq hod ho,?_,hev,hR.jZ,?_⟩
     ·intro i j oi oj bY hi hj;rcases Vj hconf hi hj bY with hb | ⟨mm,h1,h2⟩
      ·exact .inl hb
      ·refine .inr ⟨mm,h1,fun x e hxe ox hox hwx hre b hb=>?_⟩;have h3:=List.all_eq_true.1 hlk (x,e) (h2 _ hxe);obtain⟨oe,hoe,hwe⟩:=hre;obtain⟨nx,k1,k2⟩:=g2 x ox (by simpa using hox);obtain⟨ne,q1,q2⟩:=g2 e oe (by simpa using hoe);simp only[k1,q1] at h3;rcases k2 with ⟨_,_,_,k3⟩ | ⟨k3,_⟩
       ·rcases q2 with ⟨_,_,_,q3⟩ | ⟨q3,_⟩
        ·subst k3;subst q3;simp only[Bool.not_true,Bool.false_or] at h3;exact List.all_eq_true.1 h3 b hb
        ·rw[hwe] at q3;cases q3
       ·rw[hwx] at k3;cases k3
     ·intro i hi o ho;rw[eS0] at ho;cases hd:o.cS with
      | true=>rfl
      | false =>
       obtain⟨l,h1,_⟩:=hR.obj _ o ho hd;have hodd:=hR.jZ;rw[hR.fresh (s.next+2*i) (by omega) (by omega)] at h1;cases h1
    have e1:(A ops.size,S ops.size)=(a',s'):=by
     rw[← g1,← eA,← eS];simp
    obtain⟨e2,e3⟩:=Prod.mk.inj e1;refine wpIn_region_any hm ?_;refine Inv.any (ι0:=ι) (s0:=s) (w0:=w) (ds:=act.defers) hrun (Nat.le_refl _) ?_ ops.size _ act _ (by simp) (by simp) ?_
    ·intro act' w' ι' h1 h2 h3 h4;rw[e2] at h1;rw[e3] at h2 h3;refine hQ a' s' act' w' ι' h h1 h2 h3 ?_ h4;rw[← e2];exact hnt _ (Nat.le_refl _)
    ·have hodd:=hR.jZ;have hX:∀ i,¬ xZ (Array.replicate ops.size false) i:=by
      intro i;simp only[xZ,Array.getD_eq_getD_getElem?,Array.getElem?_replicate];split <;> simp
     refine⟨0,ι,s.look,a,⟨fun j o hj=>absurd hj (hX j),Nat.zero_le _,fun e _=>⟨fun hx=>absurd hx (hX e),fun hx=>by omega⟩,fun i hi=>by omega,?_,?_,fun i hx=>absurd hx (hX i),?_,?_,?_,ha,rfl,?_,rfl⟩⟩
     ·rw[eS0];have hR':=hR.drew (w':={w with drawn:=w.drawn+1}) rfl;exact⟨hR'.even,by simp only;omega,fun b hb hb2=>hR'.fresh b (by simp only at hb;omega) hb2,hR'.sK,hR'.obj,hR'.inj⟩
     ·rw[eS0];exact fun b o hb _=>hb
     ·rw[eS0];exact fun b o hb hd=>.inl ⟨o,hb,hd⟩
     ·intro i hi _;exact hR.fresh _ (by omega) (by omega)
     ·rw[eS0];exact⟨aP.le_refl _,fun _ h _=>h,by simp only;omega,rfl,rfl,rfl,Nat.le_refl _,fun _ _ _=>rfl,fun _ h=>.inl h⟩
     ·intro t ht;rw[eA0];exact .inr ⟨fun i o hx=>absurd hx (hX i),rfl⟩
   ·exact h.elim
  ·exact h.elim
end Go.Dust
namespace Go.Dust
open Go.ChangeShapes Go.RowKit Go.WideShapes
def AB:aP:=fun b=>if b%2=0 then some ⟨b/2,0,0,true⟩ else none
def EH:St:={heap:=.nil,next:=1,aO:=0}
theorem kd (b:Nat):EH.look b=none:=rfl
theorem aI2 (P:Program) (W:World):RS P AB EH W:=by
 refine⟨fun b=>?_,rfl,fun b _ hb=>?_,fun b l hl hro=>?_,fun b o h=>?_,fun b b' o o' l l' h=>?_⟩
 ·unfold AB;rw[if_pos (by omega)];simp
 ·unfold AB;rw[if_neg (by omega)]
 ·unfold AB at hl;split at hl
  ·cases hl;cases hro
  ·cases hl
 ·rw[kd] at h;cases h
 ·rw[kd] at h;cases h
def isTrue:aS (Value×St)→Bool
 | .ret (.bool true,_)=>true
 | _=>false
theorem aB4 {r:aS (Value×St)} (h:isTrue r=true):r.iF fun p=>p.1=.bool true:=by
 unfold isTrue at h;split at h
 ·rfl
 ·cases h
theorem Um {P:Program} (hm:P.follows .mixedOrders=true) {N:Nat} {f:FuncId} {fn:Func} (hf:P.funcs[f]?=some fn) (hb:fn.body.isSome=true) {args:List Value} {args':Array Value} {W:World}
  (hargs:bQ AB args args'.toList) (hrun:(lV (env P) N f args EH).iF fun p=>p.1=.bool true):Calls P f args' W fun e W'=>e=.returned (.bool true)∧Below W.heap.size W W':=by
 obtain⟨_,_,hc,_⟩:=tv (yo hm) N;obtain⟨fn',h1,_⟩:=hc.fn f args EH _ hrun;have h2:=(JD h1).1;rw[hf] at h2;cases h2;have:=hc.calls f fn args args' EH W AB _ none 0 h1 hb hrun hargs (aI2 P W);refine(callsIn_wide.1 this).mono ?_;rintro e W' ⟨v,u,s',ι',rfl,hv,hu,_,hE⟩;simp only at hv;subst hv;refine⟨by rw[hu.tD],hE.os,hE.tape,hE.output,hE.size,fun k hk=>hE.aD k hk ?_⟩;rintro⟨b,o,l,h,_⟩;rw[kd] at h;cases h
theorem Un {P:Program} (hm:P.follows .mixedOrders=true) {N:Nat} {f:FuncId} {fn:Func} (hf:P.funcs[f]?=some fn) (hb:fn.body.isSome=true) {args:List Value} {args':Array Value} {W:World}
  (hargs:bQ AB args args'.toList) (hrun:isTrue (lV (env P) N f args EH)=true):Calls P f args' W fun e W'=>e=.returned (.bool true)∧Below W.heap.size W W':=Um hm hf hb hargs (aB4 hrun)
section
variable {H:Type} {enc:TypeId×Value→H} {P:Program}
theorem Qj (hl:laidOutB P=true) {W W':World} {sp':Nat→Bool}:∀ {ts:List TypeId} {vs:List Value} {ds:List (DataW H)} {ps:List MemPlace},(∀ t∈ts,P.readableRec t=true∧t<P.types.size) →
  DataW.TrodAll enc P W 0 (fun _=>true) true ts vs ds ps→(∀ p∈ps,W.sameAt W' p)→(∀ p∈ps,sp' p.block=true)→DataW.TrodAll enc P W' 0 sp' true ts vs ds ps
 | [],_,_,_,_,h,_,_=>by
  obtain⟨rfl,rfl,rfl⟩:=trodAll_nil h;exact h
 | t::ts,_,_,_,ht,h,hs,hsp=>by
  obtain⟨v,vs1,d,ds1,a,b,rfl,rfl,rfl,h1,h2⟩:=trodAll_cons h;obtain⟨k1,k2⟩:=ht t (by simp);exact⟨a,b,WideElems.Trod_stays hl k1 k2 h1 (fun p hp=>hs p (List.mem_append_left _ hp)) (fun p hp=>hsp p (List.mem_append_left _ hp)),
   Qj hl (fun t ht'=>ht t (List.mem_cons_of_mem _ ht')) h2 (fun p hp=>hs p (List.mem_append_right _ hp)) (fun p hp=>hsp p (List.mem_append_right _ hp)),rfl⟩
theorem Qi {W:World} {base:Nat} {spare:Nat→Bool} {held:Bool}:∀ {ts:List TypeId} {vs:List Value} {ds:List (DataW H)} {ps:List MemPlace},DataW.TrodAll enc P W base spare held ts vs ds ps→ds.length=ts.length
 | [],_,_,_,h=>by obtain⟨rfl,rfl,rfl⟩:=trodAll_nil h;rfl
 | t::ts,_,_,_,h=>by
  obtain⟨v,vs1,d,ds1,a,b,rfl,rfl,rfl,h1,h2⟩:=trodAll_cons h;simp[Qi h2]
theorem aEs (hl:laidOutB P=true) {f:Func} {s:ChangeSpec} {apart fresh handsOn again:Bool} {W W':World} {args:Array Value} {ds gs:List (DataW H)} {before:List MemPlace} {tb:TypeId}
  (hpar:∀ t∈f.params.toList,P.readableRec t=true∧t<P.types.size) (hvars:s.vars=[]) (hrt:f.resultTypes=#[tb]) (htb:P.underlying tb=some .bool)
  (hfn:∀ ds:List (DataW H),ds.length=f.params.size→s.fn H ds={results:=[.lit (.bool true)],args:=ds})
  (hW:DataW.Whole enc P f.params.toList s.vars apart W args.toList ds gs before) (hb:Below W.heap.size W W'):s.post enc P f apart fresh handsOn again W args (.bool true) W':=by
 have hW':=hW;obtain⟨p,q,hA,hV,rfl,hfz,hnd⟩:=hW;rw[hvars] at hV;cases gs with
 | cons g gs=>exact hV.elim
 | nil =>
 have hq:q=[]:=hV;subst hq;have bY:=hW'.lt;have hsp:=hfn ds (by rw[Qi hA];simp);have hargs:∀ sp:Nat→Bool,(∀ x∈p,sp x.block=true)→DataW.TrodAll enc P W' 0 sp true f.params.toList args.toList ds p:=fun sp h =>
  Qj hl hpar hA (fun x hx=>hb.same (bY x (by simpa using hx))) h
 have hres:∀ (b:Nat) (sp:Nat→Bool) (hd:Bool),DataW.TrodAll enc P W' b sp hd f.resultTypes.toList ((Value.bool true).resultList f.resultTypes.size) [.lit (.bool true)] []:=by
  intro b sp hd;rw[hrt];exact trodAll_mk1 (shut_bool htb _)
 have hok:∀ (j:Nat) (t:TypeId) (r:Value),f.resultTypes[j]?=some t→((Value.bool true).resultList f.resultTypes.size)[j]?=some r→Value.okWide P W' .any 0 t r :=
  ok_one (t:=tb) hrt rfl (okWide_bool_mk htb _)
 have hvar:∀ sp:Nat→Bool,DataW.TrodVars enc P W' sp s.vars ([]:List (DataW H)) []:=fun sp=>by rw[hvars];rfl
 have hp:∀ x∈p,(fun b=>decide (b<W.heap.size)) x.block=true:=fun x hx=>by
  have:=bY x (List.mem_append_left _ hx);simp only[decide_eq_true_eq];exact this
 have hsp':s.fn H (ds++[])={results:=[.lit (.bool true)],args:=ds}:=by rw[List.append_nil];exact hsp
 refine⟨ds,[],p++[],[],p,[],hW',by rw[hsp'];exact hres _ _ _,by rw[hsp'];exact hargs _ hp,by rw[hsp'];exact hvar _,hb.frame _,fun _=>?_⟩;refine⟨hok,[.lit (.bool true)]++ds,[],([]++p)++[],⟨[]++p,[],trodAll_append (hargs _ (fun _ _=>rfl)) (hres _ _ _),hvar _,rfl,?_,?_⟩,?_⟩
 ·intro b off hx;have hx':MemPlace.cell b off∈p++[]:=by simpa using hx
  rw[hb.frozen (p:=⟨b,off,none⟩) (bY _ hx')];exact hfz b off hx'
 ·intro ha;have:=hnd ha;simpa using this
 ·intro x hx _;simpa using hx
end
end Go.Dust
noncomputable section
namespace Go.Dust
def aS.elim {α:Type} (x:aS α) (k:α→Bool):Bool:=match x with
 | .ret a=>k a
 | _=>false
theorem aS.AJ {α β:Type} (x:aS α) (f:α→aS β) (k:β→Bool):(x.bind f).elim k=x.elim fun a=>(f a).elim k:=by cases x <;> rfl
def dT {α:Type} (o:Option α) (k:α→Bool):Bool:=match o with
 | some a=>k a
 | none=>false
theorem Wr {α:Type} (w:String) (o:Option α) (k:α→Bool):(aS.ofOption w o).elim k=dT o k:=by cases o <;> rfl
def FL (b:Bool) (k:Bool→Bool):Bool:=Bool.rec (motive:=fun _=>Bool) (k false) (k true) b
theorem IX (b k):FL b k=k b:=by cases b <;> rfl
def cZ (n:Nat) (k:Nat→Bool):Bool:=Nat.rec (motive:=fun _=>Bool) (k Nat.zero) (fun n _=>k (Nat.succ n)) n
theorem iV (n k):cZ n k=k n:=by cases n <;> rfl
def zy (x:Int) (k:Int→Bool):Bool:=match x with
 | .ofNat n=>cZ n fun n=>k (.ofNat n)
 | .negSucc n=>cZ n fun n=>k (.negSucc n)
theorem Xr (x k):zy x k=k x:=by
 cases x with
 | ofNat n=>exact iV n fun n=>k (.ofNat n)
 | negSucc n=>exact iV n fun n=>k (.negSucc n)
def TJ (a:Addr) (k:Addr→Bool):Bool:=match a with
 | ⟨b,o,none⟩=>cZ b fun b=>cZ o fun o=>k ⟨b,o,none⟩
 | ⟨b,o,some q⟩=>cZ b fun b=>cZ o fun o=>cZ q fun q=>k ⟨b,o,some q⟩
theorem zx (a k):TJ a k=k a:=by
 rcases a with ⟨b,o,_ | q⟩ <;> simp only[TJ,iV]
def TL (a:Option Addr) (k:Option Addr→Bool):Bool:=match a with
 | none=>k none
 | some a=>TJ a fun a=>k (some a)
theorem Xs (a k):TL a k=k a:=by cases a <;> simp only[TL,zx]
def Ab {α:Type} (l:List α):(List α→Bool)→Bool:=List.rec (motive:=fun _=>(List α→Bool)→Bool) (fun k=>k []) (fun x _ ih k=>ih fun l=>k (x::l)) l
theorem Ac {α:Type}:∀ (l:List α) (k),Ab l k=k l
 | [],_=>rfl
 | x::l,k=>Ac l fun l=>k (x::l)
def f1 (v:Value) (k:Value→Bool):Bool:=match v with
 | .bool b=>FL b fun b=>k (.bool b)
 | .int j x=>zy x fun x=>k (.int j x)
 | .string ⟨⟨l⟩⟩=>Ab l fun l=>k (.string ⟨⟨l⟩⟩)
 | .pointer a=>TL a fun a=>k (.pointer a)
 | .slice a l c=>TL a fun a=>cZ l fun l=>cZ c fun c=>k (.slice a l c)
 | v=>k v
theorem zv (v k):f1 v k=k v:=by
 unfold f1;split <;> simp only[IX,Xr,Ac,Xs,iV]
def fL (l:List Value):(List Value→Bool)→Bool:=List.rec (motive:=fun _=>(List Value→Bool)→Bool) (fun k=>k []) (fun v _ ih k=>f1 v fun v=>ih fun l=>k (v::l)) l
theorem TK:∀ (l:List Value) (k),fL l k=k l
 | [],_=>rfl
 | x::l,k=>(zv x fun v=>fL l fun l=>k (v::l)).trans (TK l fun l=>k (x::l))
def fV (v:Value) (k:Value→Bool):Bool:=match v with
 | .agg ⟨l⟩=>fL l fun l=>k (.agg ⟨l⟩)
 | .tuple ⟨l⟩=>fL l fun l=>k (.tuple ⟨l⟩)
 | v=>f1 v k
theorem CM (v k):fV v k=k v:=by
 unfold fV;split <;> simp only[TK,zv]
def mG (o:Option Value) (k:Value→Bool):Bool:=match o with
 | some v=>fV v k
 | none=>false
theorem mT (o k):mG o k=dT o k:=by cases o <;> simp only[mG,dT,CM]
namespace PT
variable {α:Type}
def KT (f:Nat):Nat→List Bool:=Nat.rec (motive:=fun _=>Nat→List Bool) (fun _=>[]) (fun _ ih n=>Bool.rec (motive:=fun _=>List Bool) (List.cons (Nat.beq (Nat.mod n 2) 1) (ih (Nat.div (Nat.sub n 1) 2))) [] (Nat.beq n 0)) f
def path (n:Nat):List Bool:=KT (Nat.succ n) n
def Bu (p:List Bool):PT α→(Option α→Bool)→Bool:=List.rec (motive:=fun _=>PT α→(Option α→Bool)→Bool)
 (fun t k=>PT.rec (motive:=fun _=>Bool) (k none) (fun v _ _ _ _=>k v) t)
 (fun b _ ih t k=>PT.rec (motive:=fun _=>Bool) (k none) (fun _ l r _ _=>Bool.rec (motive:=fun _=>Bool) (ih r k) (ih l k) b) t) p
def BN (p:List Bool):α→PT α→(PT α→Bool)→Bool:=List.rec (motive:=fun _=>α→PT α→(PT α→Bool)→Bool)
 (fun a t k=>PT.rec (motive:=fun _=>Bool) (k (.node (some a) .nil .nil)) (fun _ l r _ _=>k (.node (some a) l r)) t)
 (fun b _ ih a t k=>PT.rec (motive:=fun _=>Bool)
  (Bool.rec (motive:=fun _=>Bool) (ih a .nil fun x=>k (.node none .nil x)) (ih a .nil fun x=>k (.node none x .nil)) b)
  (fun v l r _ _=>Bool.rec (motive:=fun _=>Bool) (ih a r fun x=>k (.node v l x)) (ih a l fun x=>k (.node v x r)) b) t) p
def jN (t:PT α) (n:Nat) (k:Option α→Bool):Bool:=Bu (path n) t k
def qQ (t:PT α) (n:Nat) (a:α) (k:PT α→Bool):Bool:=BN (path n) a t k
theorem Kd (f:Nat):KT (f+1) 0=[]:=rfl
theorem Kb (f n:Nat):KT (f+1) (n+1)=Nat.beq (Nat.mod (n+1) 2) 1::KT f (n/2):=rfl
theorem N5:∀ (f n:Nat) (t:PT α) (k:Option α→Bool),n<f→Bu (KT f n) t k=k (t.get n):=by
 intro f
 induction f with
 | zero=>intro n t k h;omega
 | succ f ih =>
  intro n t k h;cases n with
  | zero=>rw[Kd];cases t <;> rfl
  | succ n =>
   rw[Kb];cases t with
   | nil=>rfl
   | node v l r =>
    rcases Nat.mod_two_eq_zero_or_one n with e | e
    ·rw[IN e,AK _ _ _ _ e];exact ih _ _ _ (by omega)
    ·rw[IM e,AL _ _ _ _ e];exact ih _ _ _ (by omega)
theorem aGy:∀ (f n:Nat) (a:α) (t:PT α) (k:PT α→Bool),n<f→BN (KT f n) a t k=k (nY f t n a):=by
 intro f
 induction f with
 | zero=>intro n a t k h;omega
 | succ f ih =>
  intro n a t k h;cases n with
  | zero=>rw[Kd];cases t <;> rfl
  | succ n =>
   rw[Kb];cases t with
   | nil =>
    rcases Nat.mod_two_eq_zero_or_one n with e | e
    ·rw[IN e,Nh _ _ _ e];exact ih _ _ _ _ (by omega)
    ·rw[IM e,Ni _ _ _ e];exact ih _ _ _ _ (by omega)
   | node v l r =>
    rcases Nat.mod_two_eq_zero_or_one n with e | e
    ·rw[IN e,Nj _ _ _ _ _ _ e];exact ih _ _ _ _ (by omega)
    ·rw[IM e,Nk _ _ _ _ _ _ e];exact ih _ _ _ _ (by omega)
theorem nS (t:PT α) (n k):jN t n k=k (t.get n):=N5 _ _ _ _ (Nat.lt_succ_self n)
theorem vO (t:PT α) (n a k):qQ t n a k=k (t.set n a):=aGy _ _ _ _ _ (Nat.lt_succ_self n)
def zT (l:List α):PT α→Nat→(PT α→Bool)→Bool:=List.rec (motive:=fun _=>PT α→Nat→(PT α→Bool)→Bool) (fun t _ k=>k t) (fun a _ ih t n k=>qQ t n a fun t=>cZ (Nat.succ n) fun n=>ih t n k) l
theorem BM:∀ (l:List α) (t:PT α) (n k),zT l t n k=k (t.zS n l)
 | [],_,_,_=>rfl
 | a::l,t,n,k=>by
  show (qQ t n a fun t=>cZ (Nat.succ n) fun n=>zT l t n k)=_;rw[vO,iV,BM l];rfl
def tN (l:List α) (k:PT α→Bool):Bool:=zT l .nil Nat.zero k
theorem vK (l:List α) (k):tN l k=k (ofList l):=BM l _ _ _
end PT
open PT (jN nS qQ vO zT BM tN vK)
def DV {α:Type} (l:List α):Nat→(Option α→Bool)→Bool:=List.rec (motive:=fun _=>Nat→(Option α→Bool)→Bool) (fun _ k=>k none) (fun x _ ih n k=>Nat.rec (motive:=fun _=>Bool) (k (some x)) (fun m _=>ih m k) n) l
theorem OZ {α:Type}:∀ (l:List α) (n k),DV l n k=k l[n]?
 | [],n,k=>by simp;rfl
 | x::l,0,k=>rfl
 | x::l,n+1,k=>(OZ l n k).trans (by simp)
def uN {α:Type} (l:List α):List α→(List α→Bool)→Bool:=List.rec (motive:=fun _=>List α→(List α→Bool)→Bool) (fun m k=>k m) (fun x _ ih m k=>ih m fun r=>k (x::r)) l
theorem FC {α:Type}:∀ (l m:List α) (k),uN l m k=k (l++m)
 | [],_,_=>rfl
 | x::l,m,k=>FC l m fun r=>k (x::r)
def DM {α:Type} (l:List α) (k:Nat→Bool):Bool:=List.rec (motive:=fun _=>Nat→Bool) (fun n=>cZ n k) (fun _ _ ih n=>ih (Nat.succ n)) l Nat.zero
theorem GV {α:Type} (l:List α) (k):DM l k=k l.length:=by
 have:∀ (l:List α) (n:Nat),(List.rec (motive:=fun _=>Nat→Bool) (fun n=>cZ n k) (fun _ _ ih n=>ih (Nat.succ n)) l n)=k (n+l.length):=by
  intro l
  induction l with
  | nil=>intro n;exact iV _ _
  | cons x l ih=>intro n;exact(ih (Nat.succ n)).trans (by rw[List.length_cons];congr 1;omega)
 exact(this l 0).trans (by rw[Nat.zero_add])
def dY (a:aG) (o:Operand) (k:Value→Bool):Bool:=match o with
 | .tmp t=>match a with
  | ⟨tm,_⟩=>jN tm t fun v=>match v with
   | some v=>k v
   | none=>k undef
 | .const v=>k v
 | .global g=>cZ (Nat.mul 2 g) fun b=>k (.pointer (some ⟨b,0,none⟩))
 | .func f=>k (.func (.func f) #[] #[])
theorem hY (a o k):dY a o k=k (a.eval o):=by
 cases o with
 | tmp t =>
  simp only[dY,nS,aG.eval,aG.aB];cases a.tmps.get t <;> rfl
 | const v=>rfl
 | global g=>simp only[dY,iV];rfl
 | func f=>rfl
def uU (a:aG) (l:List Operand):(List Value→Bool)→Bool:=List.rec (motive:=fun _=>(List Value→Bool)→Bool) (fun k=>k []) (fun x _ ih k=>dY a x fun v=>ih fun l=>k (v::l)) l
theorem FK (a):∀ (l k),uU a l k=k (l.map a.eval)
 | [],_=>rfl
 | x::l,k=>(hY a x fun v=>uU a l fun l=>k (v::l)).trans (FK a l _)
def IW (a:aG) (o:Option Operand) (k:Option Value→Bool):Bool:=match o with
 | none=>k none
 | some x=>dY a x fun v=>k (some v)
theorem zj (a o k):IW a o k=k (o.map a.eval):=by cases o <;> simp only[IW,hY,Option.map]
def XJ (a:aG) (l:List (Nat×Operand)):(List (Nat×Value)→Bool)→Bool:=List.rec (motive:=fun _=>(List (Nat×Value)→Bool)→Bool) (fun k=>k []) (fun x _ ih k=>dY a x.2 fun v=>ih fun l=>k ((x.1,v)::l)) l
theorem mz (a):∀ (l k),XJ a l k=k (l.map fun(i,x)=>(i,a.eval x))
 | [],_=>rfl
 | x::l,k=>(hY a x.2 fun v=>XJ a l fun l=>k ((x.1,v)::l)).trans (mz a l _)
def zP (a:aG) (d:Option Tmp) (v:Value) (k:aG→Bool):Bool:=match d with
 | some d=>match a with
  | ⟨tm,nt⟩=>qQ tm d v fun tm=>k ⟨tm,nt⟩
 | none=>k a
theorem XM (a d v k):zP a d v k=k (a.put d v):=by cases d <;> simp only[zP,vO,aG.put]
def MV (v:Value) (k:List Value→Bool):Bool:=match v with
 | .agg ⟨l⟩=>k l
 | v=>k [v]
theorem SO (v k):MV v k=k v.cells.toList:=by cases v <;> rfl
def MU (c:PT Value) (z:List Value) (n i:Nat) (k:Value→Bool):Bool:=Bool.rec (motive:=fun _=>Bool) false
 (jN c i fun v=>match v with
  | some v=>k v
  | none=>fV (z.getD (i%z.length) undef) k) (Nat.ble (Nat.succ i) n)
theorem xu (c z n i k):MU c z n i k=dT (cellAt c z n i) k:=by
 unfold MU cellAt;cases hb:Nat.ble (Nat.succ i) n with
 | true =>
  have:i<n:=Nat.le_of_ble_eq_true hb;rw[if_pos this];simp only[nS];cases c.get i <;> simp only[dT,CM]
 | false =>
  have:¬ i<n:=fun h=>by
   have:=Nat.ble_eq_true_of_le (Nat.succ_le_of_lt h);rw[hb] at this;cases this
  rw[if_neg this];rfl
def XS (c:PT Value) (z:List Value) (n:Nat) (m:Nat):Nat→(List Value→Bool)→Bool:=Nat.rec (motive:=fun _=>Nat→(List Value→Bool)→Bool) (fun _ k=>k []) (fun _ ih i k=>MU c z n i fun v=>cZ (Nat.succ i) fun i=>ih i fun l=>k (v::l)) m
theorem nu (c z n):∀ (m i k),XS c z n m i k=dT (nX c z n i m) k
 | 0,_,_=>rfl
 | m+1,i,k=>by
  show (MU c z n i fun v=>cZ (Nat.succ i) fun i=>XS c z n m i fun l=>k (v::l))=_;rw[xu,nX];cases cellAt c z n i with
  | none=>rfl
  | some v =>
   simp only[dT,iV];rw[nu c z n m];cases nX c z n (i+1) m <;> rfl
def VZ (s:St) (a:Addr) (m:Nat) (k:List Value→Bool):Bool:=match s,a with
 | ⟨h,_,_⟩,⟨b,off,none⟩=>jN h b fun o=>match o with
  | some (.cells c z n _ _ _ _)=>XS c z n m off k
  | _=>false
 | _,_=>false
theorem Gu (s a m k):VZ s a m k=dT (bD s.look a m) k:=by
 rcases s with ⟨h,nx,cl⟩;rcases a with ⟨b,off,_ | q⟩
 ·simp only[VZ,nS,bD,St.look];cases h.get b with
  | none=>rfl
  | some o=>cases o <;> first | rfl | exact nu _ _ _ _ _ _
 ·rfl
def ju (s:St) (a:Addr) (k:Value→Bool):Bool:=match s,a with
 | ⟨h,_,_⟩,⟨b,off,none⟩=>jN h b fun o=>match o with
  | some (.cells c z n _ _ _ _)=>MU c z n off k
  | _=>false
 | _,_=>false
theorem aC4 (s a k):ju s a k=dT (aI s.look a) k:=by
 rcases s with ⟨h,nx,cl⟩;rcases a with ⟨b,off,_ | q⟩
 ·simp only[ju,nS,aI,St.look];cases h.get b with
  | none=>rfl
  | some o=>cases o <;> first | rfl | exact xu _ _ _ _ _
 ·rfl
def OK (X:Env) (s:St) (t:TypeId) (a:Addr) (k:Value→Bool):Bool:=match X.ty t with
 | some i=>Bool.rec (motive:=fun _=>Bool) (ju s a k) (VZ s a i.size fun l=>k (.agg ⟨l⟩)) i.agg
 | none=>false
theorem Gt (X s t a k):OK X s t a k=dT (loadT X s.look t a) k:=by
 unfold OK loadT;cases X.ty t with
 | none=>rfl
 | some i =>
  simp only;cases i.agg with
  | false=>exact aC4 _ _ _
  | true =>
   simp only[Gu,if_true];cases bD s.look a i.size <;> rfl
def tk (l:List Value) (x y:Bool):Bool:=List.rec (motive:=fun _=>Bool) x (fun v _ ih=>match v with
 | .agg _=>y
 | .tuple _=>y
 | _=>ih) l
theorem tl (x y):∀ l,tk l x y=if l.all iB=true then x else y
 | []=>rfl
 | v::l=>by
  have:=tl x y l;cases v <;> first | rfl | (simp only[List.all_cons,iB,Bool.true_and];exact this)
def ct (o:bU) (k:bU→Bool):Bool:=match o with
 | .cells c z n e r ro v=>k (.cells c z n e r ro v)
 | .map es c v=>k (.map es c v)
 | .gC m a b c v=>k (.gC m a b c v)
 | .pF s p v=>k (.pF s p v)
 | .loop a b c d e f g v=>k (.loop a b c d e f g v)
 | .dead=>k .dead
theorem Aa (o k):ct o k=k o:=by cases o <;> rfl
def wW (s:St) (b:Nat) (o:Nat→bU) (k:St→Bool):Bool:=match s with
 | ⟨h,nx,c⟩=>ct (o c) fun o=>qQ h b o fun h=>cZ (Nat.succ c) fun c=>k ⟨h,nx,c⟩
theorem PM (s b o k):wW s b o k=k (s.put b o):=by simp only[wW,Aa,vO,iV];rfl
def GZ (s:St) (o:Nat→bU) (k:St→Bool):Bool:=match s with
 | ⟨h,nx,c⟩=>ct (o c) fun o=>qQ h nx o fun h=>cZ (Nat.add nx 2) fun nx=>cZ (Nat.succ c) fun c=>k ⟨h,nx,c⟩
theorem OV (s o k):GZ s o k=k (s.new o):=by simp only[GZ,Aa,vO,iV];rfl
def YN (s:St) (a:Addr) (vs:List Value) (k:St→Bool):Bool:=match s,a with
 | ⟨h,nx,cl⟩,⟨b,off,none⟩=>jN h b fun o=>match o with
  | some (.cells c z n e r false _)=>DM vs fun m=>Bool.rec (motive:=fun _=>Bool) false (tk vs
    (zT vs c off fun c=>qQ h b (.cells c z n e r false cl) fun h=>cZ (Nat.succ cl) fun cl=>k ⟨h,nx,cl⟩) false) (Nat.ble (Nat.add off m) n)
  | _=>false
 | _,_=>false
theorem Ow (s a vs k):YN s a vs k=dT (dB s a vs) k:=by
 rcases s with ⟨h,nx,cl⟩;rcases a with ⟨b,off,_ | q⟩
 ·simp only[YN,nS,dB];cases h.get b with
  | none=>rfl
  | some o =>
   cases o with
   | cells c z n e r ro v =>
    cases ro with
    | true=>rfl
    | false =>
     simp only[GV,tl,BM,vO,iV];cases hb:Nat.ble (Nat.add off vs.length) n with
     | false =>
      have h1:¬ (off+vs.length≤n∧vs.all iB=true):=fun h=>by
       have:=Nat.ble_eq_true_of_le h.1;rw[show Nat.ble (off+vs.length) n=false from hb] at this;cases this
      simp only[if_neg h1];rfl
     | true =>
      have h1:off+vs.length≤n:=Nat.le_of_ble_eq_true hb;simp only;by_cases h2:vs.all iB=true
      ·rw[if_pos h2,if_pos ⟨h1,h2⟩];rfl
      ·rw[if_neg h2,if_neg (fun h=>h2 h.2)];rfl
   | _=>rfl
 ·rfl
def qc (X:Env) (s:St) (t:TypeId) (a:Addr) (v:Value) (k:St→Bool):Bool:=match X.ty t with
 | some i=>MV v fun l=>DM l fun m=>Bool.rec (motive:=fun _=>Bool) false (YN s a l k) (Nat.beq m i.size)
 | none=>false
theorem aHr (X s t a v k):qc X s t a v k=dT (storeT X s t a v) k:=by
 unfold qc storeT;cases X.ty t with
 | none=>rfl
 | some i =>
  simp only[SO,GV];cases hb:Nat.beq v.cells.toList.length i.size with
  | false =>
   rw[if_neg (fun h=>?_)]
   ·rfl
   ·have:v.cells.toList.length=i.size:=h;rw[this,Nat.beq_refl] at hb;cases hb
  | true =>
   have:v.cells.size=i.size:=Nat.eq_of_beq_eq_true hb;rw[if_pos this];exact Ow _ _ _ _
end Go.Dust
end
