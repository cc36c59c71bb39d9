/- The whole of a run: code, calls and rounds do what D says. -/
import Derived.Test.YthgncfnofmglgaaGreatDn
import Derived.LoopNIn
namespace Go.Dust
variable {P : Program} {ι ι' : Inj} {s s' : St} {w w' : World}

theorem loop_at (hR : RS P ι s w) {l : Nat} {st : LoopState} {pend : Option Code} {t : PT Value} {nt : Nat} {ps : Array Tmp} {as bd : Code} {ver : Nat} (hl : s.heap.get l = some (.loop st pend t nt ps as bd ver)) :
    ∃ loc rec, ι l = some loc ∧ w.heap[loc.blk]? = some (.loop rec) ∧ rec.state = st ∧ rec.pending = pend ∧ rec.params = ps ∧ rec.assign = as ∧ rec.body = bd ∧ rec.tmps.size = nt ∧
      (∀ i, i < nt → VR ι ((t.get i).getD undef) (rec.tmps.getD i undef)) ∧ okCode nt as = true ∧ okCode nt bd = true ∧ ps.toList.all (fun p => decide (p < nt)) = true ∧
      ∀ st' pend', RS P ι (s.put l fun v => .loop st' pend' t nt ps as bd v) (w.putObj loc.blk (.loop { rec with state := st', pending := pend' })) ∧
        ES ι s w ι (s.put l fun v => .loop st' pend' t nt ps as bd v) (w.putObj loc.blk (.loop { rec with state := st', pending := pend' })) := by
  obtain ⟨loc, h1, h2⟩ := hR.obj l _ hl rfl
  obtain ⟨h20, h21, h22, hoka, hokb, hokp, rec, hrec, hst, hpe, hpa, has, hbd, hsz, hval⟩ := h2
  refine ⟨loc, rec, h1, hrec, hst, hpe, hpa, has, hbd, hsz, hval, hoka, hokb, hokp, fun st' pend' => ?_⟩
  exact RS.put hR hl rfl h1 h20 _ ⟨h20, h21, h22, hoka, hokb, hokp, _, heap_setBlk_same (lt_of_heap hrec), rfl, rfl, hpa, has, hbd, hsz, hval⟩

theorem AR.args {a : ACt} {act : Act} : ∀ (ps : List Tmp) {vs us : List Value} (t : PT Value) (T : Array Value), VRs ι vs us → ps.all (fun p => decide (p < a.nt)) = true → AR ι { a with tmps := t } { act with tmps := T } →
    AR ι { a with tmps := putArgs t (ps.zip vs) } { act with tmps := (ps.zip us).foldl (fun tmps (p : Tmp × Value) => tmps.setIfInBounds p.1 p.2) T }
  | [], _, _, t, T, _, _, h => by simpa [putArgs] using h
  | p :: ps, _, _, t, T, .nil, _, h => by simpa [putArgs] using h
  | p :: ps, _, _, t, T, .cons (v := v) (u := u) hv hr, hp, h => by
    simp only [List.all_cons, Bool.and_eq_true, decide_eq_true_eq] at hp
    simp only [List.zip_cons_cons, putArgs, List.foldl_cons]
    exact AR.args ps _ _ hr hp.2 (AR.put (d := some p) h (fun x hx => by cases hx; exact hp.1) hv)

theorem AR.start {fn : Func} {args : List Value} {args' : Array Value} (h : VRs ι args args'.toList) (hle : args.length ≤ fn.ntmps) :
    AR ι { tmps := PT.ofList args, nt := fn.ntmps } { tmps := args' ++ Array.replicate (fn.ntmps - args'.size) undef, defers := [] } := by
  have hlen : args.length = args'.size := by rw [h.length]; simp
  refine ⟨by simp; omega, fun t ht => ?_⟩
  simp only [ACt.getT, PT.get_ofList]
  by_cases hta : t < args.length
  · obtain ⟨u, h1, h2⟩ := h.getSome t (v := args[t]) (by simp [hta])
    have h1' : args'[t]? = some u := by simpa using h1
    simp only [List.getElem?_eq_getElem hta, Option.getD_some, Array.getD_eq_getD_getElem?]
    rw [Array.getElem?_append_left (by omega), h1']
    exact h2
  · rw [List.getElem?_eq_none (by omega)]
    simp only [Option.getD_none, Array.getD_eq_getD_getElem?]
    rw [Array.getElem?_append_right (by omega)]
    have : (Array.replicate (fn.ntmps - args'.size) undef)[t - args'.size]?.getD undef = undef := by
      simp only [Array.getElem?_replicate]
      split <;> rfl
    rw [this]
    exact VR.undef _

abbrev CodeF := Option Nat → Code → ACt → St → Res (AExit × ACt × St)
/-- Whatever the code comes to, the walk goes on from there. -/
abbrev After (P : Program) (ι : Inj) (s : St) (w : World) (nt lo : Nat) (Φ : AExit × ACt × St → Prop) (Q : Exit → Act → World → Prop) : Prop :=
  ∀ e a' s' act' w' ι', Φ (e, a', s') → AR ι' a' act' → RS P ι' s' w' → ES ι s w ι' s' w' → a'.nt = nt → DL lo ι' s'.look w' act'.defers → Q (AExit.to e) act' w'
def CodeOK (P : Program) (code : CodeF) : Prop := ∀ r c a s act w ι Φ r' m lo Q, okCode a.nt c = true → (code r c a s).All Φ → AR ι a act → RS P ι s w → DL lo ι s.look w act.defers → RoundAt ι r r' → lo ≤ w.heap.size →
  After P ι s w a.nt lo Φ Q → c.wpIn (FW r') m P Q act w
def LoopOK (P : Program) (code : CodeF) (n : Nat) : Prop := ∀ r b a s act w ι Φ r' m lo Q, okCode a.nt b = true → (code r (.loop b) a s).All Φ → AR ι a act → RS P ι s w → DL lo ι s.look w act.defers → RoundAt ι r r' → lo ≤ w.heap.size →
  After P ι s w a.nt lo Φ Q → Code.roundsIn (FW r') m P b Q n act w
/-- A region whose order is drawn. -/
def DrawnOK (P : Program) : Prop := ∀ (call : CallF) (round : RoundF), CallOK P call → RoundOK P round → LvC call → LvC round → ∀ (id : Nat) (ops : Array Oper) (a : ACt) (s : St) (act : Act) (w : World) (ι : Inj) (Φ : ACt × St → Prop) (r : Option Nat) (m : Nat) (Q : Exit → Act → World → Prop),
  ops.toList.all (okOper a.nt) = true → okDraw ops = true → (drawnA (env P) call round ops a s).All Φ → AR ι a act → RS P ι s w →
  (∀ a' s' act' w' ι', Φ (a', s') → AR ι' a' act' → RS P ι' s' w' → ES ι s w ι' s' w' → a'.nt = a.nt → act'.defers = act.defers → Q .normal act' w') → (Code.region id ops true).wpIn (FW r) m P Q act w

theorem After.next {nt lo : Nat} {Φ Φ' : AExit × ACt × St → Prop} {Q Q' : Exit → Act → World → Prop} (h : After P ι s w nt lo Φ Q) (hE : ES ι s w ι' s' w') (hΦ : ∀ p, Φ' p → Φ p) (hQ : ∀ e a w, Q e a w → Q' e a w) : After P ι' s' w' nt lo Φ' Q' :=
  fun e a' s'' act' w'' ι'' h1 h2 h3 h4 h5 h6 => hQ _ _ _ (h e a' s'' act' w'' ι'' (hΦ _ h1) h2 h3 (Ext.trans hE h4) h5 h6)

theorem round_step {n : Nat} (hC : CodeOK P (code (env P) n)) : RoundOK P (roundA (env P) (n + 1)) := by
  intro l args args' s w ι Φ r m h ha hR
  unfold roundA at h
  split at h
  · rename_i pend0 t nt ps assign body ver hl
    split at h
    · rename_i hlen
      obtain ⟨loc, rec, h1, hrec, hst, hpe, hpa, has, hbd, hsz, hval, hoka, hokb, hokp, _⟩ := loop_at hR hl
      refine ⟨loc, rec, h1, hrec, ?_, ?_⟩
      · rw [hpa, ← hlen, ha.length]; simp
      · refine roundIn_of_wpIn (F := FW r) trivial ?_
        rw [has, hbd]
        have hA : AR ι { tmps := putArgs t (ps.toList.zip args), nt } { tmps := (rec.params.zip args').foldl (fun tmps (p : Tmp × Value) => tmps.setIfInBounds p.1 p.2) rec.tmps, defers := [] } := by
          have := AR.args (ι := ι) (a := { tmps := t, nt }) (act := { tmps := rec.tmps, defers := [] }) ps.toList t rec.tmps ha hokp ⟨hsz, hval⟩
          rw [hpa, ← Array.foldl_toList, Array.toList_zip]
          exact this
        rw [Res.All_bind] at h
        refine hC (some l) assign _ s _ w ι _ (some loc.blk) m 0 _ hoka h hA hR (DL.nil _ _) ⟨loc, h1, rfl⟩ (Nat.zero_le _) ?_
        intro e a1 s1 act1 w1 ι1 hΦ har1 hR1 hE1 hnt1 hdl1
        cases e with
        | exit => exact hΦ.elim
        | ret => exact hΦ.elim
        | normal =>
          simp only at hΦ
          split at hΦ
          · rename_i pend1 t1 nt1 ps1 as1 bd1 ver1 hl1
            obtain ⟨loc1, rec1, k1, krec, kst, kpe, kpa, kas, kbd, ksz, kval, koka, kokb, kokp, kput⟩ := loop_at hR1 hl1
            have : loc1 = loc := by have := hE1.le l loc h1; rw [this] at k1; cases k1; rfl
            subst this
            refine ⟨_, run_beginRound krec kst, ?_⟩
            obtain ⟨kR, kE⟩ := kput .busy pend1
            have e1 : ({ rec1 with state := .busy, pending := pend1 } : Loop) = { rec1 with state := .busy } := by rw [← kpe]
            rw [e1] at kR kE
            rw [Res.All_bind] at hΦ
            refine hC (some l) body a1 _ act1 _ ι1 _ (some loc1.blk) m 0 _ (by rw [hnt1]; exact hokb) hΦ har1 kR (hdl1.ext kE) ⟨loc1, k1, rfl⟩ (Nat.zero_le _) ?_
            intro e2 a2 s2 act2 w2 ι2 hΦ2 har2 hR2 hE2 hnt2 hdl2
            simp only at hΦ2
            split at hΦ2
            · rename_i st3 pend3 t3 nt3 ps3 as3 bd3 ver3 hl3
              obtain ⟨loc3, rec3, q1, qrec, qst, qpe, qpa, qas, qbd, qsz, qval, qoka, qokb, qokp, qput⟩ := loop_at hR2 hl3
              have : loc3 = loc1 := by have := hE2.le l loc1 k1; rw [this] at q1; cases q1; rfl
              subst this
              cases e2 with
              | normal =>
                obtain ⟨qR, qE⟩ := qput .ready none
                exact ⟨_, _, run_endRound none qrec, .bool true, .bool true, _, ι2, rfl, hΦ2, .bool _, qR, Ext.trans hE1 (Ext.trans kE (Ext.trans hE2 qE))⟩
              | ret =>
                obtain ⟨qR, qE⟩ := qput .done (some .ret)
                exact ⟨_, _, run_endRound (some .ret) qrec, .bool false, .bool false, _, ι2, rfl, hΦ2, .bool _, qR, Ext.trans hE1 (Ext.trans kE (Ext.trans hE2 qE))⟩
              | exit id =>
                obtain ⟨qR, qE⟩ := qput .done (some (.exit id))
                exact ⟨_, _, run_endRound (some (.exit id)) qrec, .bool false, .bool false, _, ι2, rfl, hΦ2, .bool _, qR, Ext.trans hE1 (Ext.trans kE (Ext.trans hE2 qE))⟩
            · exact hΦ2.elim
          · exact hΦ.elim
    · exact h.elim
  · exact h.elim

theorem call_step {n : Nat} (hC : CodeOK P (code (env P) n)) : CallOK P (callA (env P) (n + 1)) := by
  refine ⟨?_, ?_⟩
  · intro f args s Φ h
    unfold callA at h
    split at h
    · rename_i fn hf
      refine ⟨fn, hf, fun hb => ?_⟩
      rw [hb] at h
      exact h
    · exact h.elim
  · intro f fn args args' s w ι Φ r m hf hb h ha hR
    obtain ⟨c, hc⟩ := Option.isSome_iff_exists.1 hb
    unfold callA at h
    rw [hf] at h
    simp only [hc] at h
    split at h
    · rename_i hle
      obtain ⟨h1, h2⟩ := fn_some hf
      unfold okFn at h2
      rw [hc] at h2
      simp only [Bool.and_eq_true] at h2
      obtain ⟨⟨_, hok⟩, hres⟩ := h2
      rw [Res.All_bind] at h
      show CallsIn (FW none) m P f args' w _
      refine callsIn_of_wp_marks h1 hc trivial ?_ rfl
      refine hC none c _ s _ w ι _ none m w.heap.size _ hok h (AR.start ha hle) hR (DL.nil _ _) trivial (Nat.le_refl _) ?_
      intro e a' s' act' w' ι' hΦ har hR' hE hnt hdl
      have key : ∀ v, resultsA (env P) s'.look fn a' = some v → Φ (v, s') → LeavesInM (FW none) m P fn act'.tmps (Back P ι s w Φ) act'.defers .returning w' := by
        intro v hv hφ
        refine leaves_marks _ w' hR' hE (Nat.le_refl _) hdl ?_
        intro w'' hR'' hE''
        obtain ⟨u, g1, g2⟩ := results_sound har hR'' (by rw [hnt]; exact hres) hv
        exact ⟨u, g1, v, u, s', ι', rfl, hφ, g2, hR'', hE''⟩
      cases e with
      | exit => exact hΦ.elim
      | normal =>
        simp only at hΦ
        split at hΦ
        · exact key _ (by assumption) hΦ
        · exact hΦ.elim
      | ret =>
        simp only at hΦ
        split at hΦ
        · exact key _ (by assumption) hΦ
        · exact hΦ.elim
    · exact h.elim

theorem loop_step {n : Nat} (hC : CodeOK P (code (env P) n)) (hL : LoopOK P (code (env P) n) n) : LoopOK P (code (env P) (n + 1)) (n + 1) := by
  intro r b a s act w ι Φ r' m lo Q hok h ha hR hdl hr hlo hQ
  rw [roundsIn_succ]
  unfold code at h
  simp only at h
  rw [Res.All_bind] at h
  refine hC r b a s act w ι _ r' m lo _ hok h ha hR hdl hr hlo ?_
  intro e a' s' act' w' ι' hΦ har hR' hE hnt hdl'
  cases e with
  | normal =>
    refine hL r b a' s' act' w' ι' Φ r' m lo Q (by rw [hnt]; exact hok) hΦ har hR' hdl' (hr.mono hE.le) (Nat.le_trans hlo hE.size) ?_
    rw [hnt]
    exact hQ.next hE (fun _ h => h) (fun _ _ _ h => h)
  | exit id => exact hQ _ _ _ _ _ _ hΦ har hR' hE hnt hdl'
  | ret => exact hQ _ _ _ _ _ _ hΦ har hR' hE hnt hdl'

theorem range_step {n : Nat} (hc : CallOK P (callA (env P) n)) {r : Option Nat} {g : Operand} {ps : Array Tmp} {assign body : Code} {a : ACt} {act : Act} {Φ : AExit × ACt × St → Prop} {r' : Option Nat} {m lo : Nat} {Q : Exit → Act → World → Prop}
    (hok : okCode a.nt (.rangeFunc g ps assign body) = true) (h : (code (env P) (n + 1) r (.rangeFunc g ps assign body) a s).All Φ) (ha : AR ι a act) (hR : RS P ι s w) (hdl : DL lo ι s.look w act.defers) (hr : RoundAt ι r r') (hlo : lo ≤ w.heap.size)
    (hQ : After P ι s w a.nt lo Φ Q) : (Code.rangeFunc g ps assign body).wpIn (FW r') m P Q act w := by
  simp only [okCode, Bool.and_eq_true] at hok
  obtain ⟨⟨⟨hokg, hokp⟩, hoka⟩, hokb⟩ := hok
  unfold code at h
  simp only at h
  split at h
  · rename_i f first captured hg
    split at h
    · rename_i hlive
      have hv := ha.eval hR.even hokg
      rw [hg] at hv
      obtain ⟨a', c', hg', hf1, hf2⟩ := hv.func_inv
      refine wpIn_rangeFunc fun fid _ => ?_
      -- the record is laid
      obtain ⟨mark, w0, rec, henter, hR0, hE0, hsz0, hrec, hmark⟩ : ∃ (mark : List Deferred) (w0 : World) (rec : Loop),
          (Instr.enterLoop fid act.tmps ps assign body (FW r').round).run P w = .ok (w0.heap.size, mark) (w0.alloc (.loop rec)) ∧ RS P ι s w0 ∧ ES ι s w ι s w0 ∧ lo ≤ w0.heap.size ∧
          (rec.state = .ready ∧ rec.pending = none ∧ rec.params = ps ∧ rec.assign = assign ∧ rec.body = body ∧ rec.tmps = act.tmps) ∧ DL lo ι s.look w0 (mark ++ act.defers) := by
        cases r' with
        | none =>
          refine ⟨[{ target := .collected w.heap.size, args := #[] }], w.alloc (.deferred (some [])), { state := .ready, pending := none, fn := fid, tmps := act.tmps, params := ps, assign, body, defers := w.heap.size }, ?_, hR.raw _, Ext.raw _, by simp; omega, ?_, ?_⟩
          · exact (run_enterLoop_outer fid act.tmps ps assign body).trans (by rw [World.size_alloc])
          · exact ⟨rfl, rfl, rfl, rfl, rfl, rfl⟩
          · have hd2 := hdl.ext (Ext.raw (ι := ι) (H := s.look) (n := s.next) (w := w) (.deferred (some [])))
            refine ⟨⟨?_, ?_⟩, ?_⟩
            · intro d hd
              rcases List.mem_cons.1 hd with rfl | hd
              · exact ⟨w.heap.size, rfl, heap_alloc_new, not_own (x := some []) (hR.raw (.deferred (some []))) heap_alloc_new⟩
              · exact hd2.1.mark d hd
            · refine List.pairwise_cons.2 ⟨?_, hd2.1.apart⟩
              intro d hd D hD hd3
              cases hD
              obtain ⟨D', rfl, k2, _⟩ := hdl.1.mark d hd
              cases hd3
              have := lt_of_heap k2
              omega
            · intro d hd D hD
              rcases List.mem_cons.1 hd with rfl | hd
              · cases hD; exact hlo
              · exact hd2.2 d hd D hD
        | some b =>
          cases r with
          | none => exact hr.elim
          | some l =>
            obtain ⟨loc, hl1, rfl⟩ := hr
            unfold liveRound at hlive
            simp only at hlive
            split at hlive
            · rename_i hll
              obtain ⟨loc1, rec1, k1, krec, _⟩ := loop_at hR hll
              rw [hl1] at k1; cases k1
              exact ⟨[], w, { state := .ready, pending := none, fn := fid, tmps := act.tmps, params := ps, assign, body, defers := rec1.defers }, run_enterLoop_inner krec fid act.tmps ps assign body, hR, Ext.refl, hlo, ⟨rfl, rfl, rfl, rfl, rfl, rfl⟩, hdl⟩
            · cases hlive
      obtain ⟨e1, e2, e3, e4, e5, e6⟩ := hrec
      have hfree : ι s.next = none := hR.fresh _ (Nat.le_refl _) hR.odd
      have hle := Inj.le_add (l := ⟨w0.heap.size, 0, 0, false⟩) hfree
      obtain ⟨hR1, hE1⟩ := RS.new (ex := 0) hR0 (.loop rec) (f := fun v => .loop .ready none a.tmps a.nt ps assign body v)
        ⟨rfl, rfl, rfl, hoka, hokb, hokp, rec, heap_alloc_new, e1, e2, e3, e4, e5, by rw [e6]; exact ha.size, fun i hi => by rw [e6]; exact (ha.val i hi).mono hle⟩
      have hnew : (ι.add s.next ⟨w0.heap.size, 0, 0, false⟩) s.next = some ⟨w0.heap.size, 0, 0, false⟩ := Inj.add_same _ _ _
      rw [Res.All_bind] at h
      have hargs : VRs (ι.add s.next ⟨w0.heap.size, 0, 0, false⟩) (first.toList ++ [Value.func (.yield s.next) #[] #[]] ++ captured.toList) (a' ++ #[Value.func (.yield w0.heap.size) #[] #[]] ++ c').toList := by
        simp only [Array.toList_append]
        exact ((hf1.mono hle).append (VRs.cons (VR.yield hnew) VRs.nil)).append (hf2.mono hle)
      obtain ⟨fn, hfn, hext⟩ := hc.fn f _ _ _ h
      have hbody : fn.body.isSome = true := by
        cases hb : fn.body with
        | some c => rfl
        | none =>
          exfalso
          have hx := hext hb
          unfold externA at hx
          split at hx
          · split at hx
            · rename_i t b heq
              have h1 : (Value.func (.yield s.next) #[] #[]) ∈ first.toList ++ [Value.func (.yield s.next) #[] #[]] ++ captured.toList := by simp
              rw [heq] at h1
              simp at h1
            · exact hx.elim
          · exact hx.elim
      refine ⟨w0.heap.size, mark, w0.alloc (.loop rec), { target := .fn (.func f) c', args := a' ++ #[.func (.yield w0.heap.size) #[] #[]] }, w0.alloc (.loop rec), f, a' ++ #[.func (.yield w0.heap.size) #[] #[]] ++ c', w0.alloc (.loop rec),
        henter, ?_, fun _ _ => trivial, ?_, ?_, ?_⟩
      · have harg : (#[Operand.const (.func (.yield w0.heap.size) #[] #[])].map act.eval) = #[Value.func (.yield w0.heap.size) #[] #[]] := by simp [Act.eval]
        simp only [resolve, hg', Deferred.ofValue, Sem.run_pure, harg]
      · show (callFunc f _).run P _ = _
        exact run_callFunc hfn hbody _
      · intro hh; cases hh
      · refine (hc.calls f fn _ _ _ _ _ _ r' (m - 1) hfn hbody h hargs hR1).mono ?_
        rintro e w3 ⟨v, u, s3, ι3, rfl, hΦ, hvu, hR3, hE3⟩
        have hA3 : ∀ ds, AR ι3 a { act with defers := ds } := fun ds => ⟨ha.size, fun t ht => (ha.val t ht).mono (Inj.le_trans hle hE3.le)⟩
        simp only at hΦ
        split at hΦ
        · rename_i st pend t nt ps3 as3 bd3 ver hl3
          obtain ⟨loc3, rec3, q1, qrec, qst, qpe, qpa, qas, qbd, qsz, qval, qoka, qokb, qokp, qput⟩ := loop_at hR3 hl3
          have : loc3 = ⟨w0.heap.size, 0, 0, false⟩ := by have := hE3.le _ _ hnew; rw [this] at q1; cases q1; rfl
          subst this
          split at hΦ
          · exact hΦ.elim
          · rename_i hbusy
            obtain ⟨qR, qE⟩ := qput .exhausted pend
            have hEall := Ext.trans hE0 (Ext.trans hE1 (Ext.trans hE3 qE))
            have hD := (hmark.ext hE1).ext (Ext.trans hE3 qE)
            refine ⟨rec3.pending, _, run_endLoop qrec (by rw [qst]; exact hbusy), ?_⟩
            rw [qpe]
            split at hΦ
            · exact hQ .normal a _ _ _ _ hΦ (hA3 _) qR hEall rfl hD
            · exact wpIn_ret (hQ .ret a _ { act with defers := mark ++ act.defers } _ _ hΦ (hA3 _) qR hEall rfl hD)
            · exact wpIn_exit (hQ (.exit _) a _ { act with defers := mark ++ act.defers } _ _ hΦ (hA3 _) qR hEall rfl hD)
            · exact hΦ.elim
        · exact hΦ.elim
    · exact h.elim
  · exact h.elim

theorem code_step (hD : DrawnOK P) {n : Nat} (hC : CodeOK P (code (env P) n)) (hL : LoopOK P (code (env P) n) n) (hc : CallOK P (callA (env P) n)) (hr : RoundOK P (roundA (env P) n)) : CodeOK P (code (env P) (n + 1)) := by
  intro r c a s act w ι Φ r' m lo Q hok h ha hR hdl hrd hlo hQ
  cases c with
  | rangeFunc g ps as bd => exact range_step hc hok h ha hR hdl hrd hlo hQ
  | loop b => exact wpIn_loop_rounds (n + 1) (loop_step hC hL r b a s act w ι Φ r' m lo Q hok h ha hR hdl hrd hlo hQ)
  | skip => unfold code at h; exact wpIn_skip (hQ .normal a s act w ι h ha hR Ext.refl rfl hdl)
  | label l => unfold code at h; exact wpIn_label (hQ .normal a s act w ι h ha hR Ext.refl rfl hdl)
  | exit id => unfold code at h; exact wpIn_exit (hQ (.exit id) a s act w ι h ha hR Ext.refl rfl hdl)
  | ret => unfold code at h; exact wpIn_ret (hQ .ret a s act w ι h ha hR Ext.refl rfl hdl)
  | scope => unfold code at h; exact h.elim
  | goto => unfold code at h; exact h.elim
  | refuse => unfold code at h; exact h.elim
  | region id ops draw =>
    simp only [okCode, Bool.and_eq_true] at hok
    unfold code at h
    simp only at h
    rw [Res.All_bind] at h
    cases draw with
    | true =>
      simp only [if_true] at h
      obtain ⟨e1, e2, e3⟩ := evol_all (X := env P) n
      refine hD _ _ hc hr e2 e3 id ops a s act w ι _ r' m Q hok.1 (by simpa using hok.2) h ha hR ?_
      intro a' s' act' w' ι' h1 h2 h3 h4 h5 h6
      exact hQ .normal a' s' act' w' ι' h1 h2 h3 h4 h5 (by rw [h6]; exact hdl.ext h4)
    | false =>
      simp only [Bool.false_eq_true, if_false] at h
      refine wpIn_region ?_
      rw [List.range_eq_range']
      have := runOps_sound (r := r') (m := m) hc hr (ops := ops) (Q := Q) ops.toList 0 (fun j => by simp) a s act w ι _ hok.1 h ha hR ?_
      · simpa using this
      · intro a' s' act' w' ι' h1 h2 h3 h4 h5 h6
        exact hQ .normal a' s' act' w' ι' h1 h2 h3 h4 h5 (by rw [h6]; exact hdl.ext h4)
  | seq x y =>
    simp only [okCode, Bool.and_eq_true] at hok
    unfold code at h
    simp only at h
    rw [Res.All_bind] at h
    refine wpIn_seq (hC r x a s act w ι _ r' m lo _ hok.1 h ha hR hdl hrd hlo ?_)
    intro e a' s' act' w' ι' hΦ har hR' hE hnt hdl'
    cases e with
    | normal =>
      refine hC r y a' s' act' w' ι' Φ r' m lo Q (by rw [hnt]; exact hok.2) hΦ har hR' hdl' (hrd.mono hE.le) (Nat.le_trans hlo hE.size) ?_
      rw [hnt]
      exact hQ.next hE (fun _ h => h) (fun _ _ _ h => h)
    | exit id => exact hQ _ _ _ _ _ _ hΦ har hR' hE hnt hdl'
    | ret => exact hQ _ _ _ _ _ _ hΦ har hR' hE hnt hdl'
  | cond c x y =>
    simp only [okCode, Bool.and_eq_true] at hok
    unfold code at h
    simp only at h
    have hv := ha.eval hR.even hok.1.1
    split at h
    · rename_i hc'
      rw [hc'] at hv
      exact wpIn_cond_true hv.bool_eq (hC r x a s act w ι Φ r' m lo Q hok.1.2 h ha hR hdl hrd hlo hQ)
    · rename_i hc'
      rw [hc'] at hv
      exact wpIn_cond_false hv.bool_eq (hC r y a s act w ι Φ r' m lo Q hok.2 h ha hR hdl hrd hlo hQ)
    · exact h.elim
  | block id b =>
    simp only [okCode] at hok
    unfold code at h
    simp only at h
    rw [Res.All_bind] at h
    refine wpIn_block (hC r b a s act w ι _ r' m lo _ hok h ha hR hdl hrd hlo ?_)
    intro e a' s' act' w' ι' hΦ har hR' hE hnt hdl'
    cases e with
    | normal => exact hQ .normal _ _ _ _ _ hΦ har hR' hE hnt hdl'
    | ret => exact hQ .ret _ _ _ _ _ hΦ har hR' hE hnt hdl'
    | exit i =>
      simp only at hΦ
      show if i = id then Q .normal act' w' else Q (.exit i) act' w'
      split at hΦ
      · rename_i e; rw [if_pos e]; exact hQ .normal _ _ _ _ _ hΦ har hR' hE hnt hdl'
      · rename_i e; rw [if_neg e]; exact hQ (.exit i) _ _ _ _ _ hΦ har hR' hE hnt hdl'

/-- WHAT D SAYS OF A RUN, THE PROGRAM DOES. -/
theorem all_sound (hD : DrawnOK P) : ∀ n, CodeOK P (code (env P) n) ∧ LoopOK P (code (env P) n) n ∧ CallOK P (callA (env P) n) ∧ RoundOK P (roundA (env P) n)
  | 0 => by
    refine ⟨?_, ?_, ⟨?_, ?_⟩, ?_⟩
    · intro r c a s act w ι Φ r' m lo Q _ h; unfold code at h; exact h.elim
    · intro r b a s act w ι Φ r' m lo Q _ h; unfold code at h; exact h.elim
    · intro f args s Φ h; unfold callA at h; exact h.elim
    · intro f fn args args' s w ι Φ r m _ _ h; unfold callA at h; exact h.elim
    · intro l args args' s w ι Φ r m h; unfold roundA at h; exact h.elim
  | n + 1 => by
    obtain ⟨h1, h2, h3, h4⟩ := all_sound hD n
    exact ⟨code_step hD h1 h2 h3 h4, loop_step h1 h2, call_step h1, round_step h1⟩
end Go.Dust
