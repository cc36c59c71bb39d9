/- The plain interpreter D and its laws (Ek Ea Eb). -/
import Derived.Test.YtaoiejcaopgjcaaGreatK
set_option linter.unusedVariables false
set_option linter.unusedSimpArgs false
noncomputable section
namespace Go.Dust
abbrev qT:=FuncId→List Value→St→Option (cQ (Value×St))
mutual
def bH (X:Env) (K:qT):Nat→Option Nat→Code→bD→St→cQ (cP×bD×St)
 | 0,_,_,_,_=>.fail "fuel"
 | n+1,r,c,a,s=>match c with
  | .skip=>.ret (.normal,a,s)
  | .label _=>.ret (.normal,a,s)
  | .region _ ops draw =>
   (if draw then pM X (dN X K n) (dH X K n) ops a s else dL X (dN X K n) (dH X K n) ops ops.toList a s).bind fun(a,s)=>.ret (.normal,a,s)
  | .seq x y=>(bH X K n r x a s).bind fun(e,a,s)=>match e with
   | .normal=>bH X K n r y a s
   | e=>.ret (e,a,s)
  | .cond c x y=>match a.eval c with
   | .bool true=>bH X K n r x a s
   | .bool false=>bH X K n r y a s
   | _=>.fail "cond"
  | .block id b=>(bH X K n r b a s).bind fun(e,a,s)=>match e with
   | .exit i=>if i=id then .ret (.normal,a,s) else .ret (e,a,s)
   | e=>.ret (e,a,s)
  | .loop b=>(bH X K n r b a s).bind fun(e,a,s)=>match e with
   | .normal=>bH X K n r (.loop b) a s
   | e=>.ret (e,a,s)
  | .exit id=>.ret (.exit id,a,s)
  | .ret=>.ret (.ret,a,s)
  | .rangeFunc g ps assign body=>match a.eval g with
   | .func (.func f) first captured =>
    if kV r s then
    (dN X K n f (first.toList++[.func (.yield s.next) #[] #[]]++captured.toList) (s.new fun v=>.loop .ready none a.tmps a.nt ps assign body v)).bind fun(_,s') =>
     match s'.heap.get s.next with
     | some (.loop st pend t nt ps aAm bd _) =>
      if st=.busy then .fail "rangeFunc: busy" else
      match pend with
      | none=>.ret (.normal,a,s'.put s.next fun v=>.loop .exhausted pend t nt ps aAm bd v)
      | some .ret=>.ret (.ret,a,s'.put s.next fun v=>.loop .exhausted pend t nt ps aAm bd v)
      | some (.exit id)=>.ret (.exit id,a,s'.put s.next fun v=>.loop .exhausted pend t nt ps aAm bd v)
      | some _=>.fail "rangeFunc: pending"
     | _=>.fail "rangeFunc: record"
    else .fail "rangeFunc: round"
   | _=>.fail "rangeFunc: no function"
  | .scope _=>.fail "scope"
  | .goto _=>.fail "goto"
  | .refuse w=>.fail ("refuse "++w)
def dN (X:Env) (K:qT):Nat→FuncId→List Value→St→cQ (Value×St)
 | 0,_,_,_=>.fail "fuel"
 | n+1,f,args,s=>match K f args s with
  | some r=>r
  | none=>match X.fn f with
   | some fn=>match fn.body with
    | some c =>
     if args.length≤fn.ntmps then
     (bH X K n none c {tmps:=PT.ofList args,nt:=fn.ntmps} s).bind fun(e,a,s)=>match e with
      | .exit _=>.fail "call: exit"
      | _=>match kP X s.look fn a with
       | some v=>.ret (v,s)
       | none=>.fail "results"
     else .fail "too many arguments"
    | none=>oN s fn args
   | none=>.fail "no function"
def dH (X:Env) (K:qT):Nat→Nat→List Value→St→cQ (Value×St)
 | 0,_,_,_=>.fail "fuel"
 | n+1,l,args,s=>match s.heap.get l with
  | some (.loop .ready _ t nt ps assign body _) =>
   if args.length=ps.size then
   (bH X K n (some l) assign {tmps:=lB t (ps.toList.zip args),nt} s).bind fun(e,a,s)=>match e with
    | .normal=>match s.heap.get l with
     | some (.loop .ready pend t nt ps aAm bd _) =>
      (bH X K n (some l) body a (s.put l fun v=>.loop .busy pend t nt ps aAm bd v)).bind fun(e,_,s)=>match s.heap.get l with
       | some (.loop _ _ t nt ps aAm bd _) =>
        match e with
        | .normal=>.ret (.bool true,s.put l fun v=>.loop .ready none t nt ps aAm bd v)
        | .ret=>.ret (.bool false,s.put l fun v=>.loop .done (some .ret) t nt ps aAm bd v)
        | .exit id=>.ret (.bool false,s.put l fun v=>.loop .done (some (.exit id)) t nt ps aAm bd v)
       | _=>.fail "round: record"
     | _=>.fail "round: record"
    | _=>.fail "round: assign"
   else .fail "round: arguments"
  | _=>.fail "round: not ready"
end
structure HV (P:Program) (K:qT):Prop where
 evol:∀ f args s r,K f args s=some r→r.Lv fun p=>eZ s p.2
 fn:∀ f args s r,K f args s=some r→∃ fn,(env P).fn f=some fn∧fn.body.isSome=true
 calls:∀ f args (args':Array Value) s r w ι Φ,K f args s=some r→r.yY Φ→eF ι args args'.toList→RS P ι s w→Calls P f args' w (ka P ι s w Φ)
section
variable {X:Env} {K:qT}
theorem DK (hK:∀ f args s r,K f args s=some r→r.Lv fun p=>eZ s p.2):∀ n:Nat,(∀ r c a s,(bH X K n r c a s).Lv fun p=>eZ s p.2.2)∧MN (dN X K n)∧MN (dH X K n)
 | 0=>⟨fun _ _ _ _=>trivial,fun _ _ _=>trivial,fun _ _ _=>trivial⟩
 | n+1=>by
  obtain⟨h1,h2,h3⟩:=DK hK n
  refine⟨?_,?_,?_⟩
  ·intro r c a s
   unfold bH
   split
   ·exact .refl _
   ·exact .refl _
   ·rw[cQ.gJ]
    split
    ·exact(JA h2 h3 a s).mono fun _ hp=>hp
    ·exact(BL h2 h3 _ a s).mono fun _ hp=>hp
   ·rw[cQ.gJ]
    refine(h1 _ _ a s).mono fun p hp=>?_
    obtain⟨e,a',s'⟩:=p
    cases e
    ·exact(h1 _ _ a' s').mono fun q hq=>hp.trans hq
    ·exact hp
    ·exact hp
   ·split
    ·exact h1 _ _ _ _
    ·exact h1 _ _ _ _
    ·trivial
   ·rw[cQ.gJ]
    refine(h1 _ _ a s).mono fun p hp=>?_
    obtain⟨e,a',s'⟩:=p
    cases e
    ·exact hp
    ·simp only
     split <;> exact hp
    ·exact hp
   ·rw[cQ.gJ]
    refine(h1 _ _ a s).mono fun p hp=>?_
    obtain⟨e,a',s'⟩:=p
    cases e
    ·exact(h1 _ _ a' s').mono fun q hq=>hp.trans hq
    ·exact hp
    ·exact hp
   ·exact .refl _
   ·exact .refl _
   ·split
    ·split
     rotate_left
     ·trivial
     rw[cQ.gJ]
     refine(h2 _ _ _).mono fun p hp=>?_
     obtain⟨v,s'⟩:=p
     have h0:eZ s s':=eZ.trans (.new fun _=>.inr ⟨rfl,rfl⟩) hp
     simp only
     split
     ·split
      ·trivial
      ·split
       ·exact h0.trans (.put (fun _=>.inr ⟨rfl,rfl⟩) (.inr (.inl ⟨_,by assumption,rfl⟩)))
       ·exact h0.trans (.put (fun _=>.inr ⟨rfl,rfl⟩) (.inr (.inl ⟨_,by assumption,rfl⟩)))
       ·exact h0.trans (.put (fun _=>.inr ⟨rfl,rfl⟩) (.inr (.inl ⟨_,by assumption,rfl⟩)))
       ·trivial
     ·trivial
    ·trivial
   ·trivial
   ·trivial
   ·trivial
  ·intro f args s
   unfold dN
   split
   ·rename_i r hr
    exact hK f args s r hr
   split
   ·split
    ·split
     ·rw[cQ.gJ]
      refine(h1 _ _ _ s).mono fun p hp=>?_
      obtain⟨e,a',s'⟩:=p
      simp only
      split
      ·trivial
      ·split
       ·exact hp
       ·trivial
     ·trivial
    ·exact FD _ _ _
   ·trivial
  ·intro l args s
   unfold dH
   split
   ·split
    ·rw[cQ.gJ]
     refine(h1 _ _ _ s).mono fun p hp=>?_
     obtain⟨e,a',s'⟩:=p
     simp only
     split
     ·split
      ·rw[cQ.gJ]
       refine(h1 _ _ _ _).mono fun q hq=>?_
       obtain⟨e2,a2,s2⟩:=q
       have h0:eZ s s2:=hp.trans (eZ.trans (.put (fun _=>.inr ⟨rfl,rfl⟩) (.inr (.inl ⟨_,by assumption,rfl⟩))) hq)
       simp only
       (repeat' split) <;> first
        | trivial
        | exact h0.trans (.put (fun _=>.inr ⟨rfl,rfl⟩) (.inr (.inl ⟨_,by assumption,rfl⟩)))
      ·trivial
     ·trivial
    ·trivial
   ·trivial
end
section
variable {P:Program} {K:qT} {ι ι':cR} {s s':St} {w w':World}
theorem XJ {n:Nat} (hC:pK P (bH (env P) K n)):mA P (dH (env P) K (n+1)):=by
 intro l args args' s w ι Φ r m h ha hR
 unfold dH at h
 split at h
 ·rename_i pend0 t nt ps assign body dF hl
  split at h
  ·rename_i hlen
   obtain⟨loc,rec,h1,hrec,hst,hpe,hpa,has,hbd,hsz,hval,hoka,hokb,hokp,_⟩:=oP hR hl
   refine⟨loc,rec,h1,hrec,?_,?_⟩
   ·rw[hpa,← hlen,ha.length];simp
   ·refine roundIn_of_wpIn (F:=FW r) trivial ?_
    rw[has,hbd]
    have hA:AR ι {tmps:=lB t (ps.toList.zip args),nt} {tmps:=(rec.params.zip args').foldl (fun tmps (p:Tmp×Value)=>tmps.setIfInBounds p.1 p.2) rec.tmps,defers:=[]}:=by
     have:=AR.args (ι:=ι) (a:={tmps:=t,nt}) (act:={tmps:=rec.tmps,defers:=[]}) ps.toList t rec.tmps ha hokp ⟨hsz,hval⟩
     rw[hpa,← Array.foldl_toList,Array.toList_zip]
     exact this
    rw[cQ.eQ] at h
    refine hC (some l) assign _ s _ w ι _ (some loc.dR) m 0 _ hoka h hA hR (DL.nil _ _) ⟨loc,h1,rfl⟩ (Nat.zero_le _) ?_
    intro e a1 s1 act1 w1 ι1 hΦ har1 hR1 hE1 hnt1 hdl1
    cases e with
    | exit=>exact hΦ.elim
    | ret=>exact hΦ.elim
    | normal =>
     simp only at hΦ
     split at hΦ
     ·rename_i pend1 t1 nt1 ps1 as1 bd1 ver1 hl1
      obtain⟨loc1,rec1,k1,krec,kst,kpe,kpa,kas,kbd,ksz,kval,koka,kokb,kokp,kput⟩:=oP hR1 hl1
      have:loc1=loc:=by have:=hE1.le l loc h1;rw[this] at k1;cases k1;rfl
      subst this
      refine⟨_,run_beginRound krec kst,?_⟩
      obtain⟨kR,kE⟩:=kput .busy pend1
      have e1:({rec1 with state:=.busy,pending:=pend1}:Loop)={rec1 with state:=.busy}:=by rw[← kpe]
      rw[e1] at kR kE
      rw[cQ.eQ] at hΦ
      refine hC (some l) body a1 _ act1 _ ι1 _ (some loc1.dR) m 0 _ (by rw[hnt1];exact hokb) hΦ har1 kR (hdl1.ext kE) ⟨loc1,k1,rfl⟩ (Nat.zero_le _) ?_
      intro e2 a2 s2 act2 w2 ι2 hΦ2 har2 hR2 hE2 hnt2 hdl2
      simp only at hΦ2
      split at hΦ2
      ·rename_i st3 pend3 t3 nt3 ps3 as3 bd3 ver3 hl3
       obtain⟨loc3,rec3,q1,qrec,qst,qpe,qpa,qas,qbd,qsz,qval,qoka,qokb,qokp,qput⟩:=oP hR2 hl3
       have:loc3=loc1:=by have:=hE2.le l loc1 k1;rw[this] at q1;cases q1;rfl
       subst this
       cases e2 with
       | normal =>
        obtain⟨qR,qE⟩:=qput .ready none
        exact⟨_,_,run_endRound none qrec,.bool true,.bool true,_,ι2,rfl,hΦ2,.bool _,qR,Ext.trans hE1 (Ext.trans kE (Ext.trans hE2 qE))⟩
       | ret =>
        obtain⟨qR,qE⟩:=qput .done (some .ret)
        exact⟨_,_,run_endRound (some .ret) qrec,.bool false,.bool false,_,ι2,rfl,hΦ2,.bool _,qR,Ext.trans hE1 (Ext.trans kE (Ext.trans hE2 qE))⟩
       | exit id =>
        obtain⟨qR,qE⟩:=qput .done (some (.exit id))
        exact⟨_,_,run_endRound (some (.exit id)) qrec,.bool false,.bool false,_,ι2,rfl,hΦ2,.bool _,qR,Ext.trans hE1 (Ext.trans kE (Ext.trans hE2 qE))⟩
      ·exact hΦ2.elim
     ·exact hΦ.elim
  ·exact h.elim
 ·exact h.elim
theorem YO (hK:HV P K) {n:Nat} (hC:pK P (bH (env P) K n)):mF P (dN (env P) K (n+1)):=by
 refine⟨?_,?_⟩
 ·intro f args s Φ h
  unfold dN at h
  split at h
  ·rename_i r hr
   obtain⟨fn,h1,h2⟩:=hK.fn f args s r hr
   exact⟨fn,h1,fun h3=>by rw[h3] at h2;cases h2⟩
  split at h
  ·rename_i fn hf
   refine⟨fn,hf,fun hb=>?_⟩
   rw[hb] at h
   exact h
  ·exact h.elim
 ·intro f fn args args' s w ι Φ r0 m hf hb h ha hR
  obtain⟨c,hc⟩:=Option.isSome_iff_exists.1 hb
  unfold dN at h
  split at h
  ·rename_i r hr
   exact callsIn_wide.2 (hK.calls f args args' s r w ι Φ hr h ha hR)
  rw[hf] at h
  simp only[hc] at h
  split at h
  ·rename_i hle
   obtain⟨h1,h2⟩:=xW hf
   unfold SG at h2
   rw[hc] at h2
   simp only[Bool.and_eq_true] at h2
   obtain⟨⟨_,hok⟩,hres⟩:=h2
   rw[cQ.eQ] at h
   show CallsIn (FW none) m P f args' w _
   refine callsIn_of_wp_marks h1 hc trivial ?_ rfl
   refine hC none c _ s _ w ι _ none m w.heap.size _ hok h (AR.start ha hle) hR (DL.nil _ _) trivial (Nat.le_refl _) ?_
   intro e a' s' act' w' ι' hΦ har hR' hE hnt hdl
   have key:∀ v,kP (env P) s'.look fn a'=some v→Φ (v,s')→LeavesInM (FW none) m P fn act'.tmps (ka P ι s w Φ) act'.defers .returning w':=by
    intro v hv hφ
    refine uJ _ w' hR' hE (Nat.le_refl _) hdl ?_
    intro w'' hR'' hE''
    obtain⟨u,g1,g2⟩:=zQ har hR'' (by rw[hnt];exact hres) hv
    exact⟨u,g1,v,u,s',ι',rfl,hφ,g2,hR'',hE''⟩
   cases e with
   | exit=>exact hΦ.elim
   | normal =>
    simp only at hΦ
    split at hΦ
    ·exact key _ (by assumption) hΦ
    ·exact hΦ.elim
   | ret =>
    simp only at hΦ
    split at hΦ
    ·exact key _ (by assumption) hΦ
    ·exact hΦ.elim
  ·exact h.elim
theorem JZ {n:Nat} (hC:pK P (bH (env P) K n)) (hL:vR P (bH (env P) K n) n):vR P (bH (env P) K (n+1)) (n+1):=by
 intro r b a s act w ι Φ r' m lo Q hok h ha hR hdl hr hlo hQ
 rw[roundsIn_succ]
 unfold bH at h
 simp only at h
 rw[cQ.eQ] at h
 refine hC r b a s act w ι _ r' m lo _ hok h ha hR hdl hr hlo ?_
 intro e a' s' act' w' ι' hΦ har hR' hE hnt hdl'
 cases e with
 | normal =>
  refine hL r b a' s' act' w' ι' Φ r' m lo Q (by rw[hnt];exact hok) hΦ har hR' hdl' (hr.mono hE.le) (Nat.le_trans hlo hE.size) ?_
  rw[hnt]
  exact hQ.next hE (fun _ h=>h) (fun _ _ _ h=>h)
 | exit id=>exact hQ _ _ _ _ _ _ hΦ har hR' hE hnt hdl'
 | ret=>exact hQ _ _ _ _ _ _ hΦ har hR' hE hnt hdl'
theorem WZ {n:Nat} (hc:mF P (dN (env P) K n)) {r:Option Nat} {g:Operand} {ps:Array Tmp} {assign body:Code} {a:bD} {act:Act} {Φ:cP×bD×St→Prop} {r':Option Nat} {m lo:Nat} {Q:Exit→Act→World→Prop}
  (hok:cX a.nt (.rangeFunc g ps assign body)=true) (h:(bH (env P) K (n+1) r (.rangeFunc g ps assign body) a s).yY Φ) (ha:AR ι a act) (hR:RS P ι s w) (hdl:DL lo ι s.look w act.defers) (hr:rX ι r r') (hlo:lo≤w.heap.size)
  (hQ:HS P ι s w a.nt lo Φ Q):(Code.rangeFunc g ps assign body).wpIn (FW r') m P Q act w:=by
 simp only[cX,Bool.and_eq_true] at hok
 obtain⟨⟨⟨hokg,hokp⟩,hoka⟩,hokb⟩:=hok
 unfold bH at h
 simp only at h
 split at h
 ·rename_i f first captured hg
  split at h
  ·rename_i hlive
   have hv:=ha.eval hR.even hokg
   rw[hg] at hv
   obtain⟨a',c',hg',hf1,hf2⟩:=hv.BU
   refine wpIn_rangeFunc fun fid _=>?_
   obtain⟨mark,w0,rec,henter,hR0,hE0,hsz0,hrec,hmark⟩:∃ (mark:List Deferred) (w0:World) (rec:Loop),
     (Instr.enterLoop fid act.tmps ps assign body (FW r').round).run P w=.ok (w0.heap.size,mark) (w0.alloc (.loop rec))∧RS P ι s w0∧ES ι s w ι s w0∧lo≤w0.heap.size ∧
     (rec.state=.ready∧rec.pending=none∧rec.params=ps∧rec.assign=assign∧rec.body=body∧rec.tmps=act.tmps)∧DL lo ι s.look w0 (mark++act.defers):=by
    cases r' with
    | none =>
     refine⟨[{target:=.collected w.heap.size,args:=#[]}],w.alloc (.deferred (some [])),{state:=.ready,pending:=none,fn:=fid,tmps:=act.tmps,params:=ps,assign,body,defers:=w.heap.size},?_,hR.raw _,Ext.raw _,by simp;omega,?_,?_⟩
     ·exact(run_enterLoop_outer fid act.tmps ps assign body).trans (by rw[World.size_alloc])
     ·exact⟨rfl,rfl,rfl,rfl,rfl,rfl⟩
     ·have hd2:=hdl.ext (Ext.raw (ι:=ι) (H:=s.look) (n:=s.next) (w:=w) (.deferred (some [])))
      refine⟨⟨?_,?_⟩,?_⟩
      ·intro d hd
       rcases List.mem_cons.1 hd with rfl | hd
       ·exact⟨w.heap.size,rfl,heap_alloc_new,ie (x:=some []) (hR.raw (.deferred (some []))) heap_alloc_new⟩
       ·exact hd2.1.mark d hd
      ·refine List.pairwise_cons.2 ⟨?_,hd2.1.apart⟩
       intro d hd D hD hd3
       cases hD
       obtain⟨D',rfl,k2,_⟩:=hdl.1.mark d hd
       cases hd3
       have:=bG k2
       omega
      ·intro d hd D hD
       rcases List.mem_cons.1 hd with rfl | hd
       ·cases hD;exact hlo
       ·exact hd2.2 d hd D hD
    | some b =>
     cases r with
     | none=>exact hr.elim
     | some l =>
      obtain⟨loc,hl1,rfl⟩:=hr
      unfold kV at hlive
      simp only at hlive
      split at hlive
      ·rename_i hll
       obtain⟨loc1,rec1,k1,krec,_⟩:=oP hR hll
       rw[hl1] at k1;cases k1
       exact⟨[],w,{state:=.ready,pending:=none,fn:=fid,tmps:=act.tmps,params:=ps,assign,body,defers:=rec1.defers},run_enterLoop_inner krec fid act.tmps ps assign body,hR,Ext.refl,hlo,⟨rfl,rfl,rfl,rfl,rfl,rfl⟩,hdl⟩
      ·cases hlive
   obtain⟨e1,e2,e3,e4,e5,e6⟩:=hrec
   have hfree:ι s.next=none:=hR.fresh _ (Nat.le_refl _) hR.GZ
   have hle:=cR.oB (l:=⟨w0.heap.size,0,0,false⟩) hfree
   obtain⟨hR1,hE1⟩:=RS.new (ex:=0) hR0 (.loop rec) (f:=fun v=>.loop .ready none a.tmps a.nt ps assign body v)
    ⟨rfl,rfl,rfl,hoka,hokb,hokp,rec,heap_alloc_new,e1,e2,e3,e4,e5,by rw[e6];exact ha.size,fun i hi=>by rw[e6];exact(ha.val i hi).mono hle⟩
   have hnew:(ι.add s.next ⟨w0.heap.size,0,0,false⟩) s.next=some ⟨w0.heap.size,0,0,false⟩:=cR.add_same _ _ _
   rw[cQ.eQ] at h
   have hargs:eF (ι.add s.next ⟨w0.heap.size,0,0,false⟩) (first.toList++[Value.func (.yield s.next) #[] #[]]++captured.toList) (a'++#[Value.func (.yield w0.heap.size) #[] #[]]++c').toList:=by
    simp only[Array.toList_append]
    exact((hf1.mono hle).append (eF.cons (VR.yield hnew) eF.nil)).append (hf2.mono hle)
   obtain⟨fn,hfn,hext⟩:=hc.fn f _ _ _ h
   have hbody:fn.body.isSome=true:=by
    cases hb:fn.body with
    | some c=>rfl
    | none =>
     exfalso
     have hx:=hext hb
     unfold oN at hx
     split at hx
     ·split at hx
      ·rename_i t b heq
       have h1:(Value.func (.yield s.next) #[] #[])∈first.toList++[Value.func (.yield s.next) #[] #[]]++captured.toList:=by simp
       rw[heq] at h1
       simp at h1
      ·exact hx.elim
     ·exact hx.elim
   refine⟨w0.heap.size,mark,w0.alloc (.loop rec),{target:=.fn (.func f) c',args:=a'++#[.func (.yield w0.heap.size) #[] #[]]},w0.alloc (.loop rec),f,a'++#[.func (.yield w0.heap.size) #[] #[]]++c',w0.alloc (.loop rec),
    henter,?_,fun _ _=>trivial,?_,?_,?_⟩
   ·have harg:(#[Operand.const (.func (.yield w0.heap.size) #[] #[])].map act.eval)=#[Value.func (.yield w0.heap.size) #[] #[]]:=by simp[Act.eval]
    simp only[resolve,hg',Deferred.ofValue,Sem.run_pure,harg]
   ·show (callFunc f _).run P _=_
    exact uW hfn hbody _
   ·intro hh;cases hh
   ·refine(hc.calls f fn _ _ _ _ _ _ r' (m-1) hfn hbody h hargs hR1).mono ?_
    rintro e w3 ⟨v,u,s3,ι3,rfl,hΦ,hvu,hR3,hE3⟩
    have hA3:∀ ds,AR ι3 a {act with defers:=ds}:=fun ds=>⟨ha.size,fun t ht=>(ha.val t ht).mono (cR.le_trans hle hE3.le)⟩
    simp only at hΦ
    split at hΦ
    ·rename_i st pend t nt ps3 as3 bd3 dF hl3
     obtain⟨loc3,rec3,q1,qrec,qst,qpe,qpa,qas,qbd,qsz,qval,qoka,qokb,qokp,qput⟩:=oP hR3 hl3
     have:loc3=⟨w0.heap.size,0,0,false⟩:=by have:=hE3.le _ _ hnew;rw[this] at q1;cases q1;rfl
     subst this
     split at hΦ
     ·exact hΦ.elim
     ·rename_i hbusy
      obtain⟨qR,qE⟩:=qput .exhausted pend
      have hEall:=Ext.trans hE0 (Ext.trans hE1 (Ext.trans hE3 qE))
      have hD:=(hmark.ext hE1).ext (Ext.trans hE3 qE)
      refine⟨rec3.pending,_,run_endLoop qrec (by rw[qst];exact hbusy),?_⟩
      rw[qpe]
      split at hΦ
      ·exact hQ .normal a _ _ _ _ hΦ (hA3 _) qR hEall rfl hD
      ·exact wpIn_ret (hQ .ret a _ {act with defers:=mark++act.defers} _ _ hΦ (hA3 _) qR hEall rfl hD)
      ·exact wpIn_exit (hQ (.exit _) a _ {act with defers:=mark++act.defers} _ _ hΦ (hA3 _) qR hEall rfl hD)
      ·exact hΦ.elim
    ·exact hΦ.elim
  ·exact h.elim
 ·exact h.elim
theorem YU (hD:AW P) (hK:HV P K) {n:Nat} (hC:pK P (bH (env P) K n)) (hL:vR P (bH (env P) K n) n) (hc:mF P (dN (env P) K n)) (hr:mA P (dH (env P) K n)):pK P (bH (env P) K (n+1)):=by
 intro r c a s act w ι Φ r' m lo Q hok h ha hR hdl hrd hlo hQ
 cases c with
 | rangeFunc g ps aAm bd=>exact WZ hc hok h ha hR hdl hrd hlo hQ
 | loop b=>exact wpIn_loop_rounds (n+1) (JZ hC hL r b a s act w ι Φ r' m lo Q hok h ha hR hdl hrd hlo hQ)
 | skip=>unfold bH at h;exact wpIn_skip (hQ .normal a s act w ι h ha hR Ext.refl rfl hdl)
 | label l=>unfold bH at h;exact wpIn_label (hQ .normal a s act w ι h ha hR Ext.refl rfl hdl)
 | exit id=>unfold bH at h;exact wpIn_exit (hQ (.exit id) a s act w ι h ha hR Ext.refl rfl hdl)
 | ret=>unfold bH at h;exact wpIn_ret (hQ .ret a s act w ι h ha hR Ext.refl rfl hdl)
 | scope=>unfold bH at h;exact h.elim
 | goto=>unfold bH at h;exact h.elim
 | refuse=>unfold bH at h;exact h.elim
 | region id ops draw =>
  simp only[cX,Bool.and_eq_true] at hok
  unfold bH at h
  simp only at h
  rw[cQ.eQ] at h
  cases draw with
  | true =>
   simp only[if_true] at h
   obtain⟨e1,e2,e3⟩:=DK (X:=env P) hK.evol n
   refine hD _ _ hc hr e2 e3 id ops a s act w ι _ r' m Q hok.1 (by simpa using hok.2) h ha hR ?_
   intro a' s' act' w' ι' h1 h2 h3 h4 h5 h6
   exact hQ .normal a' s' act' w' ι' h1 h2 h3 h4 h5 (by rw[h6];exact hdl.ext h4)
  | false =>
   simp only[Bool.false_eq_true,if_false] at h
   refine wpIn_region ?_
   rw[List.range_eq_range']
   have:=qO (r:=r') (m:=m) hc hr (ops:=ops) (Q:=Q) ops.toList 0 (fun j=>by simp) a s act w ι _ hok.1 h ha hR ?_
   ·simpa using this
   ·intro a' s' act' w' ι' h1 h2 h3 h4 h5 h6
    exact hQ .normal a' s' act' w' ι' h1 h2 h3 h4 h5 (by rw[h6];exact hdl.ext h4)
 | seq x y =>
  simp only[cX,Bool.and_eq_true] at hok
  unfold bH at h
  simp only at h
  rw[cQ.eQ] at h
  refine wpIn_seq (hC r x a s act w ι _ r' m lo _ hok.1 h ha hR hdl hrd hlo ?_)
  intro e a' s' act' w' ι' hΦ har hR' hE hnt hdl'
  cases e with
  | normal =>
   refine hC r y a' s' act' w' ι' Φ r' m lo Q (by rw[hnt];exact hok.2) hΦ har hR' hdl' (hrd.mono hE.le) (Nat.le_trans hlo hE.size) ?_
   rw[hnt]
   exact hQ.next hE (fun _ h=>h) (fun _ _ _ h=>h)
  | exit id=>exact hQ _ _ _ _ _ _ hΦ har hR' hE hnt hdl'
  | ret=>exact hQ _ _ _ _ _ _ hΦ har hR' hE hnt hdl'
 | cond c x y =>
  simp only[cX,Bool.and_eq_true] at hok
  unfold bH at h
  simp only at h
  have hv:=ha.eval hR.even hok.1.1
  split at h
  ·rename_i hc'
   rw[hc'] at hv
   exact wpIn_cond_true hv.kT (hC r x a s act w ι Φ r' m lo Q hok.1.2 h ha hR hdl hrd hlo hQ)
  ·rename_i hc'
   rw[hc'] at hv
   exact wpIn_cond_false hv.kT (hC r y a s act w ι Φ r' m lo Q hok.2 h ha hR hdl hrd hlo hQ)
  ·exact h.elim
 | block id b =>
  simp only[cX] at hok
  unfold bH at h
  simp only at h
  rw[cQ.eQ] at h
  refine wpIn_block (hC r b a s act w ι _ r' m lo _ hok h ha hR hdl hrd hlo ?_)
  intro e a' s' act' w' ι' hΦ har hR' hE hnt hdl'
  cases e with
  | normal=>exact hQ .normal _ _ _ _ _ hΦ har hR' hE hnt hdl'
  | ret=>exact hQ .ret _ _ _ _ _ hΦ har hR' hE hnt hdl'
  | exit i =>
   simp only at hΦ
   show if i=id then Q .normal act' w' else Q (.exit i) act' w'
   split at hΦ
   ·rename_i e;rw[if_pos e];exact hQ .normal _ _ _ _ _ hΦ har hR' hE hnt hdl'
   ·rename_i e;rw[if_neg e];exact hQ (.exit i) _ _ _ _ _ hΦ har hR' hE hnt hdl'
theorem HY (hD:AW P) (hK:HV P K):∀ n,pK P (bH (env P) K n)∧vR P (bH (env P) K n) n∧mF P (dN (env P) K n)∧mA P (dH (env P) K n)
 | 0=>by
  refine⟨?_,?_,⟨?_,?_⟩,?_⟩
  ·intro r c a s act w ι Φ r' m lo Q _ h;unfold bH at h;exact h.elim
  ·intro r b a s act w ι Φ r' m lo Q _ h;unfold bH at h;exact h.elim
  ·intro f args s Φ h;unfold dN at h;exact h.elim
  ·intro f fn args args' s w ι Φ r m _ _ h;unfold dN at h;exact h.elim
  ·intro l args args' s w ι Φ r m h;unfold dH at h;exact h.elim
 | n+1=>by
  obtain⟨h1,h2,h3,h4⟩:=HY hD hK n
  exact⟨YU hD hK h1 h2 h3 h4,JZ h1 h2,YO hK h1,XJ h1⟩
end
end Go.Dust
end
namespace Go.Dust
inductive cQ.le {α:Type}:cQ α→cQ α→Prop
 | fail (w:String) (y:cQ α):le (.fail w) y
 | ret (a:α):le (.ret a) (.ret a)
 | ask (n:Nat) (k k':Nat→cQ α) (h:∀ i,le (k i) (k' i)):le (.ask n k) (.ask n k')
namespace cQ
variable {α β:Type}
theorem le.refl:∀ x:cQ α,le x x
 | .fail w=>.fail w _
 | .ret a=>.ret a
 | .ask n k=>.ask n k k fun i=>le.refl (k i)
theorem le.trans {x y z:cQ α} (h:le x y) (k:le y z):le x z:=by
 induction h generalizing z with
 | fail w y=>exact .fail w _
 | ret a=>exact k
 | ask n k1 k2 h ih =>
  cases k with
  | ask n k2 k3 h'=>exact .ask n _ _ fun i=>ih i (h' i)
theorem le.bind {x y:cQ α} {f g:α→cQ β} (h:le x y) (hf:∀ a,le (f a) (g a)):le (x.bind f) (y.bind g):=by
 induction h with
 | fail w y=>exact .fail w _
 | ret a=>exact hf a
 | ask n k k' h ih=>exact .ask n _ _ ih
theorem le.all {Φ:α→Prop} {x y:cQ α} (h:le x y) (hx:x.yY Φ):y.yY Φ:=by
 induction h with
 | fail w y=>exact hx.elim
 | ret a=>exact hx
 | ask n k k' h ih=>exact fun i hi=>ih i (hx i hi)
end cQ
def leC (c c':eR):Prop:=∀ f args s,cQ.le (c f args s) (c' f args s)
def leR (r r':dK):Prop:=∀ l args s,cQ.le (r l args s) (r' l args s)
theorem vx {α:Type} {b:Prop} [Decidable b] {x y x' y':cQ α} (h:cQ.le x x') (k:cQ.le y y'):cQ.le (if b then x else y) (if b then x' else y'):=by
 split
 ·exact h
 ·exact k
section
variable {X:Env} {K:qT} {c c':eR} {r r':dK}
theorem IN (hc:leC c c') (hr:leR r r') (s f args):cQ.le (mQ X c r s f args) (mQ X c' r' s f args):=by
 unfold mQ
 split
 ·exact hc _ _ _
 ·exact hr _ _ _
 ·split
  ·split
   ·exact hc _ _ _
   ·exact .refl _
  ·exact .refl _
 ·exact .refl _
theorem IW (hc:leC c c') (hr:leR r r') (s ρ op):cQ.le (bL X c r s ρ op) (bL X c' r' s ρ op):=by
 cases op with
 | call cl =>
  simp only[bL]
  cases cl.callee with
  | value f=>exact IN hc hr _ _ _
  | invoke x name =>
   simp only
   split
   ·split
    ·exact hc _ _ _
    ·exact .refl _
   ·exact .refl _
  | builtin b=>cases b <;> exact .refl _
 | _=>exact .refl _
theorem uf (hc:leC c c') (hr:leR r r') (s ρ op):cQ.le (kD X c r s ρ op) (kD X c' r' s ρ op):=by
 unfold kD
 cases bN op with
 | effect=>exact IW hc hr _ _ _
 | _=>exact .refl _
theorem yR (hc:leC c c') (hr:leR r r') (ops):∀ l a s,cQ.le (dL X c r ops l a s) (dL X c' r' ops l a s)
 | [],_,_=>.refl _
 | o::l,a,s=>by
  rw[dL,dL]
  split
  ·exact(uf hc hr _ _ _).bind fun p=>yR hc hr ops l _ _
  ·exact yR hc hr ops l _ _
theorem uh (hc:leC c c') (hr:leR r r') {nm s ρ op x} (h:jP X c r nm s ρ op=some x):jP X c' r' nm s ρ op=some x:=by
 unfold jP at h ⊢
 cases hk:bN op with
 | effect =>
  rw[hk] at h
  simp only at h ⊢
  have hle:=IW (X:=X) hc hr s ρ op
  revert h hle
  generalize bL X c r s ρ op=u
  generalize bL X c' r' s ρ op=w
  intro h hle
  cases hle with
  | fail w y=>cases h
  | ret a=>exact h
  | ask n k k' hh=>cases h
 | _=>rw[hk] at h;exact h
theorem yC (hc:leC c c') (hr:leR r r') (ops base):∀ l i a s x,cI X c r ops base l i a s=some x→cI X c' r' ops base l i a s=some x
 | [],_,_,_,_,h=>h
 | o::l,i,a,s,x,h=>by
  rw[cI] at h ⊢
  split at h
  ·rename_i hw
   rw[if_pos hw]
   cases he:jP X c r (base+2*i) s a.eval o.op with
   | none=>rw[he] at h;cases h
   | some p =>
    rw[he] at h
    rw[uh hc hr he]
    simp only at h ⊢
    cases hl:cI X c r ops base l (i+1) (a.put o.dst p.1) p.2 with
    | none=>rw[hl] at h;cases h
    | some q =>
     rw[hl] at h
     rw[yC hc hr ops base l _ _ _ _ hl]
     exact h
  ·rename_i hw
   rw[if_neg hw]
   cases hl:cI X c r ops base l (i+1) (a.put o.dst undef) s with
   | none=>rw[hl] at h;cases h
   | some q =>
    rw[hl] at h
    rw[yC hc hr ops base l _ _ _ _ hl]
    exact h
theorem lz (hc:leC c c') (hr:leR r r') (ops a s):cQ.le (pM X c r ops a s) (pM X c' r' ops a s):=by
 unfold pM
 cases BH ops with
 | none=>exact .refl _
 | some cf =>
  simp only
  cases hl:cI X c r ops s.next ops.toList 0 a {heap:=s.heap,next:=s.next+2*ops.size,cM:=s.cM} with
  | none=>exact .fail _ _
  | some q =>
   rw[yC hc hr ops _ _ _ _ _ _ hl]
   exact .refl _
end
theorem sD (X:Env) (K:qT):∀ n,(∀ r c a s,cQ.le (bH X K n r c a s) (bH X K (n+1) r c a s))∧leC (dN X K n) (dN X K (n+1))∧leR (dH X K n) (dH X K (n+1)):=by
 intro n
 induction n with
 | zero =>
  refine⟨fun r c a s=>?_,fun f args s=>?_,fun l args s=>?_⟩
  ·rw[bH];exact .fail _ _
  ·rw[dN];exact .fail _ _
  ·rw[dH];exact .fail _ _
 | succ n ih =>
  obtain⟨ic,ik,ir⟩:=ih
  refine⟨fun r c a s=>?_,fun f args s=>?_,fun l args s=>?_⟩
  ·cases c with
   | region id ops draw =>
    rw[bH,bH]
    refine cQ.le.bind ?_ fun p=>.refl _
    cases draw with
    | false=>exact yR ik ir _ _ _ _
    | true=>exact lz ik ir _ _ _
   | seq x y =>
    rw[bH,bH]
    refine(ic _ _ _ _).bind fun p=>?_
    rcases p with ⟨e,a,s⟩
    cases e with
    | normal=>exact ic _ _ _ _
    | _=>exact .refl _
   | cond cnd x y =>
    rw[bH,bH]
    cases a.eval cnd with
    | bool b=>cases b <;> exact ic _ _ _ _
    | _=>exact .refl _
   | block id b =>
    rw[bH,bH]
    exact(ic _ _ _ _).bind fun p=>.refl _
   | loop b =>
    rw[bH,bH]
    refine(ic _ _ _ _).bind fun p=>?_
    rcases p with ⟨e,a,s⟩
    cases e with
    | normal=>exact ic _ _ _ _
    | _=>exact .refl _
   | rangeFunc g ps aAm bd =>
    rw[bH,bH]
    cases a.eval g with
    | func fn first captured =>
     cases fn with
     | func f =>
      simp only
      exact vx ((ik _ _ _).bind fun p=>.refl _) (.refl _)
     | _=>exact .refl _
    | _=>exact .refl _
   | _=>rw[bH,bH];exact .refl _
  ·rw[dN,dN]
   cases K f args s with
   | some r=>exact .refl _
   | none =>
   cases X.fn f with
   | none=>exact .refl _
   | some fn =>
    simp only
    cases fn.body with
    | none=>exact .refl _
    | some c=>exact vx ((ic _ _ _ _).bind fun p=>.refl _) (.refl _)
  ·rw[dH,dH]
   cases s.heap.get l with
   | none=>exact .refl _
   | some o =>
    cases o with
    | loop st pend t nt ps aAm bd v =>
     cases st with
     | ready =>
      simp only
      refine vx ((ic _ _ _ _).bind fun p=>?_) (.refl _)
      rcases p with ⟨e,a,s⟩
      cases e with
      | normal =>
       simp only
       cases s.heap.get l with
       | none=>exact .refl _
       | some o =>
        cases o with
        | loop st pend t nt ps aAm bd v =>
         cases st with
         | ready=>exact(ic _ _ _ _).bind fun p=>.refl _
         | _=>exact .refl _
        | _=>exact .refl _
      | _=>exact .refl _
     | _=>exact .refl _
    | _=>exact .refl _
theorem UB {X:Env} {K:qT} {n m:Nat} (h:n≤m):leC (dN X K n) (dN X K m):=by
 induction h with
 | refl=>exact fun _ _ _=>.refl _
 | step _ ih=>exact fun f args s=>cQ.le.trans (ih f args s) ((sD X K _).2.1 f args s)
theorem OW {X:Env} {K:qT} {n m:Nat} (h:n≤m):leR (dH X K n) (dH X K m):=by
 induction h with
 | refl=>exact fun _ _ _=>.refl _
 | step _ ih=>exact fun f args s=>cQ.le.trans (ih f args s) ((sD X K _).2.2 f args s)
def cQ.jO {α:Type} (q:Bool) (Φ:α→Prop):cQ α→Prop
 | .fail _=>False
 | .ret a=>Φ a
 | .ask n k=>q=true∧∀ i,i<n→(k i).jO q Φ
theorem cQ.jO.mono {α:Type} {q:Bool} {Φ Ψ:α→Prop} (h:∀ a,Φ a→Ψ a):∀ {x:cQ α},x.jO q Φ→x.jO q Ψ
 | .fail _,hx=>hx
 | .ret _,hx=>h _ hx
 | .ask _ _,hx=>⟨hx.1,fun i hi=>cQ.jO.mono h (hx.2 i hi)⟩
theorem cQ.dS {α β:Type} {q:Bool} (f:α→cQ β) (Φ:β→Prop):∀ (x:cQ α),(x.bind f).jO q Φ↔x.jO q fun a=>(f a).jO q Φ
 | .fail _=>Iff.rfl
 | .ret _=>Iff.rfl
 | .ask _ k=>⟨fun h=>⟨h.1,fun i hi=>(cQ.dS f Φ (k i)).1 (h.2 i hi)⟩,fun h=>⟨h.1,fun i hi=>(cQ.dS f Φ (k i)).2 (h.2 i hi)⟩⟩
theorem cQ.TF {α:Type} {q:Bool} {Φ:α→Prop}:∀ {x:cQ α},x.jO q Φ→x.yY Φ
 | .fail _,h=>h
 | .ret _,h=>h
 | .ask _ _,h=>fun i hi=>cQ.TF (h.2 i hi)
theorem cQ.zY {α:Type} {Φ:α→Prop}:∀ {x:cQ α},x.jO false Φ→∃ a,x=.ret a∧Φ a
 | .fail _,h=>h.elim
 | .ret a,h=>⟨a,rfl,h⟩
 | .ask _ _,h=>by cases h.1
theorem cQ.TG {α:Type} {q:Bool} {Φ Ψ:α→Prop}:∀ {x:cQ α},x.jO q Φ→x.Lv Ψ→x.jO q fun a=>Φ a∧Ψ a
 | .fail _,h,_=>h.elim
 | .ret _,h,k=>⟨h,k⟩
 | .ask _ _,h,k=>⟨h.1,fun i hi=>cQ.TG (h.2 i hi) (k i hi)⟩
theorem cQ.le.allQ {α:Type} {q:Bool} {Φ:α→Prop} {x y:cQ α} (h:cQ.le x y) (hx:x.jO q Φ):y.jO q Φ:=by
 induction h with
 | fail w y=>exact hx.elim
 | ret a=>exact hx
 | ask n k k' h ih=>exact⟨hx.1,fun i hi=>ih i (hx.2 i hi)⟩
theorem cQ.jH {α:Type} {q:Bool} {Q:Nat→α→Prop} (hm:∀ n a,Q n a→Q (n+1) a):∀ {x:cQ α},x.jO q (fun a=>∃ n,Q n a)→∃ n,x.jO q (Q n)
 | .fail _,h=>h.elim
 | .ret a,⟨n,h⟩=>⟨n,h⟩
 | .ask k f,h=>by
  have hm':∀ n m a,n≤m→Q n a→Q m a:=by
   intro n m a hle hq
   induction hle with
   | refl=>exact hq
   | step _ ih=>exact hm _ _ ih
  have:∀ j,j≤k→∃ n,∀ i,i<j→(f i).jO q (Q n):=by
   intro j
   induction j with
   | zero=>exact fun _=>⟨0,fun i hi=>absurd hi (Nat.not_lt_zero i)⟩
   | succ j ih =>
    intro hj
    obtain⟨n1,h1⟩:=ih (by omega)
    obtain⟨n2,h2⟩:=cQ.jH hm (h.2 j (by omega))
    refine⟨max n1 n2,fun i hi=>?_⟩
    rcases Nat.lt_or_ge i j with gU | hge
    ·exact(h1 i gU).mono fun a=>hm' _ _ a (by omega)
    ·obtain rfl:i=j:=by omega
     exact h2.mono fun a=>hm' _ _ a (by omega)
  obtain⟨n,hn⟩:=this k (Nat.le_refl _)
  exact⟨n,h.1,hn⟩
section
variable (q:Bool) (X:Env) (K:qT)
def jU (r:Option Nat) (c:Code) (a:bD) (s:St) (Φ:cP→bD→St→Prop):Prop:=∃ n,(bH X K n r c a s).jO q fun p=>Φ p.1 p.2.1 p.2.2
def okF (f:FuncId) (args:List Value) (s:St) (Φ:Value→St→Prop):Prop:=∃ n,(dN X K n f args s).jO q fun p=>Φ p.1 p.2
def okR (l:Nat) (args:List Value) (s:St) (Φ:Value→St→Prop):Prop:=∃ n,(dH X K n l args s).jO q fun p=>Φ p.1 p.2
def eE (ops:Array Oper) (l:List Oper) (a:bD) (s:St) (Φ:bD→St→Prop):Prop:=∃ n,(dL X (dN X K n) (dH X K n) ops l a s).jO q fun p=>Φ p.1 p.2
end
section
variable {q:Bool} {X:Env} {K:qT}
theorem qG {n m:Nat} (hnm:n≤m) {r c a s} {Φ:cP×bD×St→Prop} (h:(bH X K n r c a s).jO q Φ):(bH X K m r c a s).jO q Φ:=by
 induction hnm with
 | refl=>exact h
 | step _ ih=>exact((sD X K _).1 _ _ _ _).allQ ih
theorem ey {n m:Nat} (hnm:n≤m) {f args s} {Φ:Value×St→Prop} (h:(dN X K n f args s).jO q Φ):(dN X K m f args s).jO q Φ:=by
 induction hnm with
 | refl=>exact h
 | step _ ih=>exact((sD X K _).2.1 _ _ _).allQ ih
theorem tL {n m:Nat} (hnm:n≤m) {ops l a s} {Φ:bD×St→Prop} (h:(dL X (dN X K n) (dH X K n) ops l a s).jO q Φ):(dL X (dN X K m) (dH X K m) ops l a s).jO q Φ:=by
 induction hnm with
 | refl=>exact h
 | step _ ih=>exact(yR (sD X K _).2.1 (sD X K _).2.2 _ _ _ _).allQ ih
theorem jU.mono {r c a s} {Φ Ψ:cP→bD→St→Prop} (h:jU q X K r c a s Φ) (hp:∀ e a s,Φ e a s→Ψ e a s):jU q X K r c a s Ψ:=by
 obtain⟨n,hn⟩:=h
 exact⟨n,hn.mono fun p hq=>hp _ _ _ hq⟩
theorem okF.mono {f args s} {Φ Ψ:Value→St→Prop} (h:okF q X K f args s Φ) (hp:∀ v s,Φ v s→Ψ v s):okF q X K f args s Ψ:=by
 obtain⟨n,hn⟩:=h
 exact⟨n,hn.mono fun p hq=>hp _ _ hq⟩
theorem jU.skip {r a s} {Φ:cP→bD→St→Prop} (h:Φ .normal a s):jU q X K r .skip a s Φ:=⟨1,by rw[bH];exact h⟩
theorem jU.exit {r a s i} {Φ:cP→bD→St→Prop} (h:Φ (.exit i) a s):jU q X K r (.exit i) a s Φ:=⟨1,by rw[bH];exact h⟩
theorem jU.ret {r a s} {Φ:cP→bD→St→Prop} (h:Φ .ret a s):jU q X K r .ret a s Φ:=⟨1,by rw[bH];exact h⟩
theorem jU.seq {r x y a s} {Φ:cP→bD→St→Prop} (h:jU q X K r x a s fun e a s=>match e with
  | .normal=>jU q X K r y a s Φ
  | e=>Φ e a s):jU q X K r (.seq x y) a s Φ:=by
 obtain⟨n,hn⟩:=h
 obtain⟨m,hm⟩:=cQ.jH (Q:=fun m (p:cP×bD×St)=>match p.1 with
   | .normal=>(bH X K m r y p.2.1 p.2.2).jO q fun p=>Φ p.1 p.2.1 p.2.2
   | e=>Φ e p.2.1 p.2.2) (fun m p hq=>by
    rcases p with ⟨e,a,s⟩
    cases e with
    | normal=>exact qG (Nat.le_succ m) hq
    | _=>exact hq) (hn.mono fun p hq=>by
    rcases p with ⟨e,a,s⟩
    cases e with
    | normal=>exact hq
    | _=>exact⟨0,hq⟩)
 refine⟨max n m+1,?_⟩
 rw[bH,cQ.dS]
 refine(qG (Nat.le_max_left n m) hm).mono fun p hq=>?_
 rcases p with ⟨e,a,s⟩
 cases e with
 | normal=>exact qG (Nat.le_max_right n m) hq
 | _=>exact hq
theorem jU.cond {r c x y a s b} {Φ:cP→bD→St→Prop} (hb:a.eval c=.bool b) (h:jU q X K r (if b=true then x else y) a s Φ):jU q X K r (.cond c x y) a s Φ:=by
 obtain⟨n,hn⟩:=h
 refine⟨n+1,?_⟩
 rw[bH,hb]
 cases b <;> exact hn
theorem jU.block {r id b a s} {Φ:cP→bD→St→Prop} (h:jU q X K r b a s fun e a s=>match e with
  | .exit i=>if i=id then Φ .normal a s else Φ (.exit i) a s
  | e=>Φ e a s):jU q X K r (.block id b) a s Φ:=by
 obtain⟨n,hn⟩:=h
 refine⟨n+1,?_⟩
 rw[bH,cQ.dS]
 refine hn.mono fun p hq=>?_
 rcases p with ⟨e,a,s⟩
 cases e with
 | exit i =>
  simp only at hq ⊢
  split
  ·rename_i hi
   rw[if_pos hi] at hq;exact hq
  ·rename_i hi
   rw[if_neg hi] at hq;exact hq
 | _=>exact hq
theorem jU.unroll {r b a s} {Φ:cP→bD→St→Prop} (h:jU q X K r b a s fun e a s=>match e with
  | .normal=>jU q X K r (.loop b) a s Φ
  | e=>Φ e a s):jU q X K r (.loop b) a s Φ:=by
 obtain⟨n,hn⟩:=h
 obtain⟨m,hm⟩:=cQ.jH (Q:=fun m (p:cP×bD×St)=>match p.1 with
   | .normal=>(bH X K m r (.loop b) p.2.1 p.2.2).jO q fun p=>Φ p.1 p.2.1 p.2.2
   | e=>Φ e p.2.1 p.2.2) (fun m p hq=>by
    rcases p with ⟨e,a,s⟩
    cases e with
    | normal=>exact qG (Nat.le_succ m) hq
    | _=>exact hq) (hn.mono fun p hq=>by
    rcases p with ⟨e,a,s⟩
    cases e with
    | normal=>exact hq
    | _=>exact⟨0,hq⟩)
 refine⟨max n m+1,?_⟩
 rw[bH,cQ.dS]
 refine(qG (Nat.le_max_left n m) hm).mono fun p hq=>?_
 rcases p with ⟨e,a,s⟩
 cases e with
 | normal=>exact qG (Nat.le_max_right n m) hq
 | _=>exact hq
theorem jU.loop {r b} {Φ:cP→bD→St→Prop} (I:Nat→bD→St→Prop) (hI:∀ k a s,I k a s→jU q X K r b a s fun e a s=>match e with
  | .normal=>∃ j,j<k∧I j a s
  | e=>Φ e a s):∀ (k:Nat) {a:bD} {s:St},I k a s→jU q X K r (.loop b) a s Φ:=by
 intro k
 induction k using Nat.strongRecOn with
 | _ k ih =>
  intro a s h
  refine .unroll ((hI k a s h).mono fun e a s hq=>?_)
  cases e with
  | normal =>
   obtain⟨j,hj,hk⟩:=hq
   exact ih j hj hk
  | _=>exact hq
theorem jU.region {r id ops a s} {Φ:cP→bD→St→Prop} (h:eE q X K ops ops.toList a s (Φ .normal)):jU q X K r (.region id ops false) a s Φ:=by
 obtain⟨n,hn⟩:=h
 refine⟨n+1,?_⟩
 rw[bH,cQ.dS]
 exact hn
theorem eE.nil {ops a s} {Φ:bD→St→Prop} (h:Φ a s):eE q X K ops [] a s Φ:=⟨0,h⟩
theorem eE.skip {ops o l a s} {Φ:bD→St→Prop} (hw:Region.wanted o (aE ops a)=false) (h:eE q X K ops l (a.put o.dst undef) s Φ):eE q X K ops (o::l) a s Φ:=by
 obtain⟨n,hn⟩:=h
 refine⟨n,?_⟩
 rw[dL,if_neg (by rw[hw];simp)]
 exact hn
theorem eE.still {ops o l a s v} {Φ:bD→St→Prop} (hw:Region.wanted o (aE ops a)=true) (hk:bN o.op=.still) (hv:bS X s.look a.eval o.op=some v)
  (h:eE q X K ops l (a.put o.dst v) s Φ):eE q X K ops (o::l) a s Φ:=by
 obtain⟨n,hn⟩:=h
 refine⟨n,?_⟩
 rw[dL,if_pos hw,kD,hk]
 simp only[hv]
 exact hn
theorem eE.alloc {ops o l a s v f} {Φ:bD→St→Prop} (hw:Region.wanted o (aE ops a)=true) (hk:bN o.op=.alloc) (hv:cS X s.next a.eval o.op=some (v,f))
  (h:eE q X K ops l (a.put o.dst v) (s.new f) Φ):eE q X K ops (o::l) a s Φ:=by
 obtain⟨n,hn⟩:=h
 refine⟨n,?_⟩
 rw[dL,if_pos hw,kD,hk]
 simp only[hv]
 exact hn
theorem eE.effect {ops o l a s v s'} {Φ:bD→St→Prop} (hw:Region.wanted o (aE ops a)=true) (hk:bN o.op=.effect) (hv:∀ c r,bL X c r s a.eval o.op=.ret (v,s'))
  (h:eE q X K ops l (a.put o.dst v) s' Φ):eE q X K ops (o::l) a s Φ:=by
 obtain⟨n,hn⟩:=h
 refine⟨n,?_⟩
 rw[dL,if_pos hw,kD,hk]
 simp only[hv]
 exact hn
theorem eE.call {ops o l a s f args} {Φ:bD→St→Prop} (hw:Region.wanted o (aE ops a)=true) (hk:bN o.op=.effect) (hv:∀ c r,bL X c r s a.eval o.op=c f args s)
  (h:okF q X K f args s fun v s=>eE q X K ops l (a.put o.dst v) s Φ):eE q X K ops (o::l) a s Φ:=by
 obtain⟨n,hn⟩:=h
 obtain⟨m,hm⟩:=cQ.jH (Q:=fun m (p:Value×St)=>(dL X (dN X K m) (dH X K m) ops l (a.put o.dst p.1) p.2).jO q fun(p:bD×St)=>Φ p.1 p.2)
  (fun m p hq=>tL (Φ:=fun p=>Φ p.1 p.2) (Nat.le_succ m) hq) hn
 refine⟨max n m,?_⟩
 rw[dL,if_pos hw,kD,hk]
 simp only[hv]
 rw[cQ.dS]
 exact(ey (Nat.le_max_left n m) hm).mono fun p hq=>tL (Φ:=fun p=>Φ p.1 p.2) (Nat.le_max_right n m) hq
theorem okF.orc {f args s r} {Φ:Value→St→Prop} (hk:K f args s=some r) (h:r.jO q fun p=>Φ p.1 p.2):okF q X K f args s Φ:=by
 refine⟨1,?_⟩
 rw[dN,hk]
 exact h
theorem okF.body {f fn c args s} {Φ:Value→St→Prop} (hk:K f args s=none) (hf:X.fn f=some fn) (hb:fn.body=some c) (hn:args.length≤fn.ntmps)
  (h:jU q X K none c {tmps:=PT.ofList args,nt:=fn.ntmps} s fun e a s=>match e with
   | .exit _=>False
   | _=>∃ v,kP X s.look fn a=some v∧Φ v s):okF q X K f args s Φ:=by
 obtain⟨n,hn'⟩:=h
 refine⟨n+1,?_⟩
 rw[dN,hk]
 simp only[hf]
 simp only[hb,if_pos hn]
 rw[cQ.dS]
 refine hn'.mono fun p hq=>?_
 rcases p with ⟨e,a,s⟩
 cases e with
 | exit i=>exact hq
 | _ =>
  obtain⟨v,hv,hp⟩:=hq
  simp only[hv]
  exact hp
end
end Go.Dust
