/- Do Du Dv Dv2 Dv3 Ek Ea -/
import Derived.Test.YtelmjodchophjaaGreatDoorD
import Derived.LoopNIn
import Derived.Carry
import Derived.WideKeyArgs
import Derived.ChangeSame
import Derived.OpenShut
import Derived.ChangeSlices
set_option linter.unusedVariables false
set_option linter.unusedSimpArgs false
section
/- The whole of a run: code, calls and rounds do what D says. -/
namespace Go.Dust
variable {P : Program} {ι ι' : Inj} {s s' : St} {w w' : World}

theorem loop_at (hR : RS P ι s w) {l : Nat} {st : LoopState} {pend : Option Code} {t : PT Value} {nt : Nat} {ps : Array Tmp} {as0 bd : Code} {ver : Nat} (hl : s.heap.get l = some (.loop st pend t nt ps as0 bd ver)) :
    ∃ loc rec, ι l = some loc ∧ w.heap[loc.blk]? = some (.loop rec) ∧ rec.state = st ∧ rec.pending = pend ∧ rec.params = ps ∧ rec.assign = as0 ∧ rec.body = bd ∧ rec.tmps.size = nt ∧
      (∀ i, i < nt → VR ι ((t.get i).getD undef) (rec.tmps.getD i undef)) ∧ okCode nt as0 = true ∧ okCode nt bd = true ∧ ps.toList.all (fun p => decide (p < nt)) = true ∧
      ∀ st' pend', RS P ι (s.put l fun v => .loop st' pend' t nt ps as0 bd v) (w.putObj loc.blk (.loop { rec with state := st', pending := pend' })) ∧
        ES ι s w ι (s.put l fun v => .loop st' pend' t nt ps as0 bd v) (w.putObj loc.blk (.loop { rec with state := st', pending := pend' })) := by
  obtain ⟨loc, h1, h2⟩ := hR.obj l _ hl rfl
  obtain ⟨h20, h21, h22, hoka, hokb, hokp, rec, hrec, hst, hpe, hpa, has, hbd, hsz, hval⟩ := h2
  refine ⟨loc, rec, h1, hrec, hst, hpe, hpa, has, hbd, hsz, hval, hoka, hokb, hokp, fun st' pend' => ?_⟩
  exact RS.put hR hl rfl h1 h20 _ ⟨h20, h21, h22, hoka, hokb, hokp, _, heap_setBlk_same (lt_of_heap hrec), rfl, rfl, hpa, has, hbd, hsz, hval⟩

theorem AR.args {a : ACt} {act : Act} : ∀ (ps : List Tmp) {vs us : List Value} (t : PT Value) (T : Array Value), VRs ι vs us → ps.all (fun p => decide (p < a.nt)) = true → AR ι { a with tmps := t } { act with tmps := T } →
    AR ι { a with tmps := putArgs t (ps.zip vs) } { act with tmps := (ps.zip us).foldl (fun tmps (p : Tmp × Value) => tmps.setIfInBounds p.1 p.2) T }
  | [], _, _, t, T, _, _, h => by simpa [putArgs] using h
  | p :: ps, _, _, t, T, .nil, _, h => by simpa [putArgs] using h
  | p :: ps, _, _, t, T, .cons (v := v) (u := u) hv hr, hp, h => by
    simp only [List.all_cons, Bool.and_eq_true, decide_eq_true_eq] at hp
    simp only [List.zip_cons_cons, putArgs, List.foldl_cons]
    exact AR.args ps _ _ hr hp.2 (AR.put (d := some p) h (fun x hx => by cases hx; exact hp.1) hv)

theorem AR.start {fn : Func} {args : List Value} {args' : Array Value} (h : VRs ι args args'.toList) (hle : args.length ≤ fn.ntmps) :
    AR ι { tmps := PT.ofList args, nt := fn.ntmps } { tmps := args' ++ Array.replicate (fn.ntmps - args'.size) undef, defers := [] } := by
  have hlen : args.length = args'.size := by rw [h.length]; simp
  refine ⟨by simp; omega, fun t ht => ?_⟩
  simp only [ACt.getT, PT.get_ofList]
  by_cases hta : t < args.length
  · obtain ⟨u, h1, h2⟩ := h.getSome t (v := args[t]) (by simp [hta])
    have h1' : args'[t]? = some u := by simpa using h1
    simp only [List.getElem?_eq_getElem hta, Option.getD_some, Array.getD_eq_getD_getElem?]
    rw [Array.getElem?_append_left (by omega), h1']
    exact h2
  · rw [List.getElem?_eq_none (by omega)]
    simp only [Option.getD_none, Array.getD_eq_getD_getElem?]
    rw [Array.getElem?_append_right (by omega)]
    have : (Array.replicate (fn.ntmps - args'.size) undef)[t - args'.size]?.getD undef = undef := by
      simp only [Array.getElem?_replicate]
      split <;> rfl
    rw [this]
    exact VR.undef _

abbrev CodeF := Option Nat → Code → ACt → St → Res (AExit × ACt × St)
/-- Whatever the code comes to, the walk goes on from there. -/
abbrev After (P : Program) (ι : Inj) (s : St) (w : World) (nt lo : Nat) (Φ : AExit × ACt × St → Prop) (Q : Exit → Act → World → Prop) : Prop :=
  ∀ e a' s' act' w' ι', Φ (e, a', s') → AR ι' a' act' → RS P ι' s' w' → ES ι s w ι' s' w' → a'.nt = nt → DL lo ι' s'.look w' act'.defers → Q (AExit.to e) act' w'
def CodeOK (P : Program) (code : CodeF) : Prop := ∀ r c a s act w ι Φ r' m lo Q, okCode a.nt c = true → (code r c a s).All Φ → AR ι a act → RS P ι s w → DL lo ι s.look w act.defers → RoundAt ι r r' → lo ≤ w.heap.size →
  After P ι s w a.nt lo Φ Q → c.wpIn (FW r') m P Q act w
def LoopOK (P : Program) (code : CodeF) (n : Nat) : Prop := ∀ r b a s act w ι Φ r' m lo Q, okCode a.nt b = true → (code r (.loop b) a s).All Φ → AR ι a act → RS P ι s w → DL lo ι s.look w act.defers → RoundAt ι r r' → lo ≤ w.heap.size →
  After P ι s w a.nt lo Φ Q → Code.roundsIn (FW r') m P b Q n act w
/-- A region whose order is drawn. -/
def DrawnOK (P : Program) : Prop := ∀ (call : CallF) (round : RoundF), CallOK P call → RoundOK P round → LvC call → LvC round → ∀ (id : Nat) (ops : Array Oper) (a : ACt) (s : St) (act : Act) (w : World) (ι : Inj) (Φ : ACt × St → Prop) (r : Option Nat) (m : Nat) (Q : Exit → Act → World → Prop),
  ops.toList.all (okOper a.nt) = true → okDraw ops = true → (drawnA (env P) call round ops a s).All Φ → AR ι a act → RS P ι s w →
  (∀ a' s' act' w' ι', Φ (a', s') → AR ι' a' act' → RS P ι' s' w' → ES ι s w ι' s' w' → a'.nt = a.nt → act'.defers = act.defers → Q .normal act' w') → (Code.region id ops true).wpIn (FW r) m P Q act w

theorem After.next {nt lo : Nat} {Φ Φ' : AExit × ACt × St → Prop} {Q Q' : Exit → Act → World → Prop} (h : After P ι s w nt lo Φ Q) (hE : ES ι s w ι' s' w') (hΦ : ∀ p, Φ' p → Φ p) (hQ : ∀ e a w, Q e a w → Q' e a w) : After P ι' s' w' nt lo Φ' Q' :=
  fun e a' s'' act' w'' ι'' h1 h2 h3 h4 h5 h6 => hQ _ _ _ (h e a' s'' act' w'' ι'' (hΦ _ h1) h2 h3 (Ext.trans hE h4) h5 h6)

theorem round_step {n : Nat} (hC : CodeOK P (code (env P) n)) : RoundOK P (roundA (env P) (n + 1)) := by
  intro l args args' s w ι Φ r m h ha hR
  unfold roundA at h
  split at h
  · rename_i pend0 t nt ps assign body ver hl
    split at h
    · rename_i hlen
      obtain ⟨loc, rec, h1, hrec, hst, hpe, hpa, has, hbd, hsz, hval, hoka, hokb, hokp, _⟩ := loop_at hR hl
      refine ⟨loc, rec, h1, hrec, ?_, ?_⟩
      · rw [hpa, ← hlen, ha.length]; simp
      · refine roundIn_of_wpIn (F := FW r) trivial ?_
        rw [has, hbd]
        have hA : AR ι { tmps := putArgs t (ps.toList.zip args), nt } { tmps := (rec.params.zip args').foldl (fun tmps (p : Tmp × Value) => tmps.setIfInBounds p.1 p.2) rec.tmps, defers := [] } := by
          have := AR.args (ι := ι) (a := { tmps := t, nt }) (act := { tmps := rec.tmps, defers := [] }) ps.toList t rec.tmps ha hokp ⟨hsz, hval⟩
          rw [hpa, ← Array.foldl_toList, Array.toList_zip]
          exact this
        rw [Res.All_bind] at h
        refine hC (some l) assign _ s _ w ι _ (some loc.blk) m 0 _ hoka h hA hR (DL.nil _ _) ⟨loc, h1, rfl⟩ (Nat.zero_le _) ?_
        intro e a1 s1 act1 w1 ι1 hΦ har1 hR1 hE1 hnt1 hdl1
        cases e with
        | exit => exact hΦ.elim
        | ret => exact hΦ.elim
        | normal =>
          simp only at hΦ
          split at hΦ
          · rename_i pend1 t1 nt1 ps1 as1 bd1 ver1 hl1
            obtain ⟨loc1, rec1, k1, krec, kst, kpe, kpa, kas, kbd, ksz, kval, koka, kokb, kokp, kput⟩ := loop_at hR1 hl1
            have : loc1 = loc := by have := hE1.le l loc h1; rw [this] at k1; cases k1; rfl
            subst this
            refine ⟨_, run_beginRound krec kst, ?_⟩
            obtain ⟨kR, kE⟩ := kput .busy pend1
            have e1 : ({ rec1 with state := .busy, pending := pend1 } : Loop) = { rec1 with state := .busy } := by rw [← kpe]
            rw [e1] at kR kE
            rw [Res.All_bind] at hΦ
            refine hC (some l) body a1 _ act1 _ ι1 _ (some loc1.blk) m 0 _ (by rw [hnt1]; exact hokb) hΦ har1 kR (hdl1.ext kE) ⟨loc1, k1, rfl⟩ (Nat.zero_le _) ?_
            intro e2 a2 s2 act2 w2 ι2 hΦ2 har2 hR2 hE2 hnt2 hdl2
            simp only at hΦ2
            split at hΦ2
            · rename_i st3 pend3 t3 nt3 ps3 as3 bd3 ver3 hl3
              obtain ⟨loc3, rec3, q1, qrec, qst, qpe, qpa, qas, qbd, qsz, qval, qoka, qokb, qokp, qput⟩ := loop_at hR2 hl3
              have : loc3 = loc1 := by have := hE2.le l loc1 k1; rw [this] at q1; cases q1; rfl
              subst this
              cases e2 with
              | normal =>
                obtain ⟨qR, qE⟩ := qput .ready none
                exact ⟨_, _, run_endRound none qrec, .bool true, .bool true, _, ι2, rfl, hΦ2, .bool _, qR, Ext.trans hE1 (Ext.trans kE (Ext.trans hE2 qE))⟩
              | ret =>
                obtain ⟨qR, qE⟩ := qput .done (some .ret)
                exact ⟨_, _, run_endRound (some .ret) qrec, .bool false, .bool false, _, ι2, rfl, hΦ2, .bool _, qR, Ext.trans hE1 (Ext.trans kE (Ext.trans hE2 qE))⟩
              | exit id =>
                obtain ⟨qR, qE⟩ := qput .done (some (.exit id))
                exact ⟨_, _, run_endRound (some (.exit id)) qrec, .bool false, .bool false, _, ι2, rfl, hΦ2, .bool _, qR, Ext.trans hE1 (Ext.trans kE (Ext.trans hE2 qE))⟩
            · exact hΦ2.elim
          · exact hΦ.elim
    · exact h.elim
  · exact h.elim

theorem call_step {n : Nat} (hC : CodeOK P (code (env P) n)) : CallOK P (callA (env P) (n + 1)) := by
  refine ⟨?_, ?_⟩
  · intro f args s Φ h
    unfold callA at h
    split at h
    · rename_i fn hf
      refine ⟨fn, hf, fun hb => ?_⟩
      rw [hb] at h
      exact h
    · exact h.elim
  · intro f fn args args' s w ι Φ r m hf hb h ha hR
    obtain ⟨c, hc⟩ := Option.isSome_iff_exists.1 hb
    unfold callA at h
    rw [hf] at h
    simp only [hc] at h
    split at h
    · rename_i hle
      obtain ⟨h1, h2⟩ := fn_some hf
      unfold okFn at h2
      rw [hc] at h2
      simp only [Bool.and_eq_true] at h2
      obtain ⟨⟨_, hok⟩, hres⟩ := h2
      rw [Res.All_bind] at h
      show CallsIn (FW none) m P f args' w _
      refine callsIn_of_wp_marks h1 hc trivial ?_ rfl
      refine hC none c _ s _ w ι _ none m w.heap.size _ hok h (AR.start ha hle) hR (DL.nil _ _) trivial (Nat.le_refl _) ?_
      intro e a' s' act' w' ι' hΦ har hR' hE hnt hdl
      have key : ∀ v, resultsA (env P) s'.look fn a' = some v → Φ (v, s') → LeavesInM (FW none) m P fn act'.tmps (Back P ι s w Φ) act'.defers .returning w' := by
        intro v hv hφ
        refine leaves_marks _ w' hR' hE (Nat.le_refl _) hdl ?_
        intro w'' hR'' hE''
        obtain ⟨u, g1, g2⟩ := results_sound har hR'' (by rw [hnt]; exact hres) hv
        exact ⟨u, g1, v, u, s', ι', rfl, hφ, g2, hR'', hE''⟩
      cases e with
      | exit => exact hΦ.elim
      | normal =>
        simp only at hΦ
        split at hΦ
        · exact key _ (by assumption) hΦ
        · exact hΦ.elim
      | ret =>
        simp only at hΦ
        split at hΦ
        · exact key _ (by assumption) hΦ
        · exact hΦ.elim
    · exact h.elim

theorem loop_step {n : Nat} (hC : CodeOK P (code (env P) n)) (hL : LoopOK P (code (env P) n) n) : LoopOK P (code (env P) (n + 1)) (n + 1) := by
  intro r b a s act w ι Φ r' m lo Q hok h ha hR hdl hr hlo hQ
  rw [roundsIn_succ]
  unfold code at h
  simp only at h
  rw [Res.All_bind] at h
  refine hC r b a s act w ι _ r' m lo _ hok h ha hR hdl hr hlo ?_
  intro e a' s' act' w' ι' hΦ har hR' hE hnt hdl'
  cases e with
  | normal =>
    refine hL r b a' s' act' w' ι' Φ r' m lo Q (by rw [hnt]; exact hok) hΦ har hR' hdl' (hr.mono hE.le) (Nat.le_trans hlo hE.size) ?_
    rw [hnt]
    exact hQ.next hE (fun _ h => h) (fun _ _ _ h => h)
  | exit id => exact hQ _ _ _ _ _ _ hΦ har hR' hE hnt hdl'
  | ret => exact hQ _ _ _ _ _ _ hΦ har hR' hE hnt hdl'

theorem range_step {n : Nat} (hc : CallOK P (callA (env P) n)) {r : Option Nat} {g : Operand} {ps : Array Tmp} {assign body : Code} {a : ACt} {act : Act} {Φ : AExit × ACt × St → Prop} {r' : Option Nat} {m lo : Nat} {Q : Exit → Act → World → Prop}
    (hok : okCode a.nt (.rangeFunc g ps assign body) = true) (h : (code (env P) (n + 1) r (.rangeFunc g ps assign body) a s).All Φ) (ha : AR ι a act) (hR : RS P ι s w) (hdl : DL lo ι s.look w act.defers) (hr : RoundAt ι r r') (hlo : lo ≤ w.heap.size)
    (hQ : After P ι s w a.nt lo Φ Q) : (Code.rangeFunc g ps assign body).wpIn (FW r') m P Q act w := by
  simp only [okCode, Bool.and_eq_true] at hok
  obtain ⟨⟨⟨hokg, hokp⟩, hoka⟩, hokb⟩ := hok
  unfold code at h
  simp only at h
  split at h
  · rename_i f first captured hg
    split at h
    · rename_i hlive
      have hv := ha.eval hR.even hokg
      rw [hg] at hv
      obtain ⟨a', c', hg', hf1, hf2⟩ := hv.func_inv
      refine wpIn_rangeFunc fun fid _ => ?_
      -- the record is laid
      obtain ⟨mark, w0, rec, henter, hR0, hE0, hsz0, hrec, hmark⟩ : ∃ (mark : List Deferred) (w0 : World) (rec : Loop),
          (Instr.enterLoop fid act.tmps ps assign body (FW r').round).run P w = .ok (w0.heap.size, mark) (w0.alloc (.loop rec)) ∧ RS P ι s w0 ∧ ES ι s w ι s w0 ∧ lo ≤ w0.heap.size ∧
          (rec.state = .ready ∧ rec.pending = none ∧ rec.params = ps ∧ rec.assign = assign ∧ rec.body = body ∧ rec.tmps = act.tmps) ∧ DL lo ι s.look w0 (mark ++ act.defers) := by
        cases r' with
        | none =>
          refine ⟨[{ target := .collected w.heap.size, args := #[] }], w.alloc (.deferred (some [])), { state := .ready, pending := none, fn := fid, tmps := act.tmps, params := ps, assign, body, defers := w.heap.size }, ?_, hR.raw _, Ext.raw _, by simp; omega, ?_, ?_⟩
          · exact (run_enterLoop_outer fid act.tmps ps assign body).trans (by rw [World.size_alloc])
          · exact ⟨rfl, rfl, rfl, rfl, rfl, rfl⟩
          · have hd2 := hdl.ext (Ext.raw (ι := ι) (H := s.look) (n := s.next) (w := w) (.deferred (some [])))
            refine ⟨⟨?_, ?_⟩, ?_⟩
            · intro d hd
              rcases List.mem_cons.1 hd with rfl | hd
              · exact ⟨w.heap.size, rfl, heap_alloc_new, not_own (x := some []) (hR.raw (.deferred (some []))) heap_alloc_new⟩
              · exact hd2.1.mark d hd
            · refine List.pairwise_cons.2 ⟨?_, hd2.1.apart⟩
              intro d hd D hD hd3
              cases hD
              obtain ⟨D', rfl, k2, _⟩ := hdl.1.mark d hd
              cases hd3
              have := lt_of_heap k2
              omega
            · intro d hd D hD
              rcases List.mem_cons.1 hd with rfl | hd
              · cases hD; exact hlo
              · exact hd2.2 d hd D hD
        | some b =>
          cases r with
          | none => exact hr.elim
          | some l =>
            obtain ⟨loc, hl1, rfl⟩ := hr
            unfold liveRound at hlive
            simp only at hlive
            split at hlive
            · rename_i hll
              obtain ⟨loc1, rec1, k1, krec, _⟩ := loop_at hR hll
              rw [hl1] at k1; cases k1
              exact ⟨[], w, { state := .ready, pending := none, fn := fid, tmps := act.tmps, params := ps, assign, body, defers := rec1.defers }, run_enterLoop_inner krec fid act.tmps ps assign body, hR, Ext.refl, hlo, ⟨rfl, rfl, rfl, rfl, rfl, rfl⟩, hdl⟩
            · cases hlive
      obtain ⟨e1, e2, e3, e4, e5, e6⟩ := hrec
      have hfree : ι s.next = none := hR.fresh _ (Nat.le_refl _) hR.odd
      have hle := Inj.le_add (l := ⟨w0.heap.size, 0, 0, false⟩) hfree
      obtain ⟨hR1, hE1⟩ := RS.new (ex := 0) hR0 (.loop rec) (f := fun v => .loop .ready none a.tmps a.nt ps assign body v)
        ⟨rfl, rfl, rfl, hoka, hokb, hokp, rec, heap_alloc_new, e1, e2, e3, e4, e5, by rw [e6]; exact ha.size, fun i hi => by rw [e6]; exact (ha.val i hi).mono hle⟩
      have hnew : (ι.add s.next ⟨w0.heap.size, 0, 0, false⟩) s.next = some ⟨w0.heap.size, 0, 0, false⟩ := Inj.add_same _ _ _
      rw [Res.All_bind] at h
      have hargs : VRs (ι.add s.next ⟨w0.heap.size, 0, 0, false⟩) (first.toList ++ [Value.func (.yield s.next) #[] #[]] ++ captured.toList) (a' ++ #[Value.func (.yield w0.heap.size) #[] #[]] ++ c').toList := by
        simp only [Array.toList_append]
        exact ((hf1.mono hle).append (VRs.cons (VR.yield hnew) VRs.nil)).append (hf2.mono hle)
      obtain ⟨fn, hfn, hext⟩ := hc.fn f _ _ _ h
      have hbody : fn.body.isSome = true := by
        cases hb : fn.body with
        | some c => rfl
        | none =>
          exfalso
          have hx := hext hb
          unfold externA at hx
          split at hx
          · split at hx
            · rename_i t b heq
              have h1 : (Value.func (.yield s.next) #[] #[]) ∈ first.toList ++ [Value.func (.yield s.next) #[] #[]] ++ captured.toList := by simp
              rw [heq] at h1
              simp at h1
            · exact hx.elim
          · exact hx.elim
      refine ⟨w0.heap.size, mark, w0.alloc (.loop rec), { target := .fn (.func f) c', args := a' ++ #[.func (.yield w0.heap.size) #[] #[]] }, w0.alloc (.loop rec), f, a' ++ #[.func (.yield w0.heap.size) #[] #[]] ++ c', w0.alloc (.loop rec),
        henter, ?_, fun _ _ => trivial, ?_, ?_, ?_⟩
      · have harg : (#[Operand.const (.func (.yield w0.heap.size) #[] #[])].map act.eval) = #[Value.func (.yield w0.heap.size) #[] #[]] := by simp [Act.eval]
        simp only [resolve, hg', Deferred.ofValue, Sem.run_pure, harg]
      · show (callFunc f _).run P _ = _
        exact run_callFunc hfn hbody _
      · intro hh; cases hh
      · refine (hc.calls f fn _ _ _ _ _ _ r' (m - 1) hfn hbody h hargs hR1).mono ?_
        rintro e w3 ⟨v, u, s3, ι3, rfl, hΦ, hvu, hR3, hE3⟩
        have hA3 : ∀ ds, AR ι3 a { act with defers := ds } := fun ds => ⟨ha.size, fun t ht => (ha.val t ht).mono (Inj.le_trans hle hE3.le)⟩
        simp only at hΦ
        split at hΦ
        · rename_i st pend t nt ps3 as3 bd3 ver hl3
          obtain ⟨loc3, rec3, q1, qrec, qst, qpe, qpa, qas, qbd, qsz, qval, qoka, qokb, qokp, qput⟩ := loop_at hR3 hl3
          have : loc3 = ⟨w0.heap.size, 0, 0, false⟩ := by have := hE3.le _ _ hnew; rw [this] at q1; cases q1; rfl
          subst this
          split at hΦ
          · exact hΦ.elim
          · rename_i hbusy
            obtain ⟨qR, qE⟩ := qput .exhausted pend
            have hEall := Ext.trans hE0 (Ext.trans hE1 (Ext.trans hE3 qE))
            have hD := (hmark.ext hE1).ext (Ext.trans hE3 qE)
            refine ⟨rec3.pending, _, run_endLoop qrec (by rw [qst]; exact hbusy), ?_⟩
            rw [qpe]
            split at hΦ
            · exact hQ .normal a _ _ _ _ hΦ (hA3 _) qR hEall rfl hD
            · exact wpIn_ret (hQ .ret a _ { act with defers := mark ++ act.defers } _ _ hΦ (hA3 _) qR hEall rfl hD)
            · exact wpIn_exit (hQ (.exit _) a _ { act with defers := mark ++ act.defers } _ _ hΦ (hA3 _) qR hEall rfl hD)
            · exact hΦ.elim
        · exact hΦ.elim
    · exact h.elim
  · exact h.elim

theorem code_step (hD : DrawnOK P) {n : Nat} (hC : CodeOK P (code (env P) n)) (hL : LoopOK P (code (env P) n) n) (hc : CallOK P (callA (env P) n)) (hr : RoundOK P (roundA (env P) n)) : CodeOK P (code (env P) (n + 1)) := by
  intro r c a s act w ι Φ r' m lo Q hok h ha hR hdl hrd hlo hQ
  cases c with
  | rangeFunc g ps as0 bd => exact range_step hc hok h ha hR hdl hrd hlo hQ
  | loop b => exact wpIn_loop_rounds (n + 1) (loop_step hC hL r b a s act w ι Φ r' m lo Q hok h ha hR hdl hrd hlo hQ)
  | skip => unfold code at h; exact wpIn_skip (hQ .normal a s act w ι h ha hR Ext.refl rfl hdl)
  | label l => unfold code at h; exact wpIn_label (hQ .normal a s act w ι h ha hR Ext.refl rfl hdl)
  | exit id => unfold code at h; exact wpIn_exit (hQ (.exit id) a s act w ι h ha hR Ext.refl rfl hdl)
  | ret => unfold code at h; exact wpIn_ret (hQ .ret a s act w ι h ha hR Ext.refl rfl hdl)
  | scope => unfold code at h; exact h.elim
  | goto => unfold code at h; exact h.elim
  | refuse => unfold code at h; exact h.elim
  | region id ops draw =>
    simp only [okCode, Bool.and_eq_true] at hok
    unfold code at h
    simp only at h
    rw [Res.All_bind] at h
    cases draw with
    | true =>
      simp only [if_true] at h
      obtain ⟨e1, e2, e3⟩ := evol_all (X := env P) n
      refine hD _ _ hc hr e2 e3 id ops a s act w ι _ r' m Q hok.1 (by simpa using hok.2) h ha hR ?_
      intro a' s' act' w' ι' h1 h2 h3 h4 h5 h6
      exact hQ .normal a' s' act' w' ι' h1 h2 h3 h4 h5 (by rw [h6]; exact hdl.ext h4)
    | false =>
      simp only [Bool.false_eq_true, if_false] at h
      refine wpIn_region ?_
      rw [List.range_eq_range']
      have := runOps_sound (r := r') (m := m) hc hr (ops := ops) (Q := Q) ops.toList 0 (fun j => by simp) a s act w ι _ hok.1 h ha hR ?_
      · simpa using this
      · intro a' s' act' w' ι' h1 h2 h3 h4 h5 h6
        exact hQ .normal a' s' act' w' ι' h1 h2 h3 h4 h5 (by rw [h6]; exact hdl.ext h4)
  | seq x y =>
    simp only [okCode, Bool.and_eq_true] at hok
    unfold code at h
    simp only at h
    rw [Res.All_bind] at h
    refine wpIn_seq (hC r x a s act w ι _ r' m lo _ hok.1 h ha hR hdl hrd hlo ?_)
    intro e a' s' act' w' ι' hΦ har hR' hE hnt hdl'
    cases e with
    | normal =>
      refine hC r y a' s' act' w' ι' Φ r' m lo Q (by rw [hnt]; exact hok.2) hΦ har hR' hdl' (hrd.mono hE.le) (Nat.le_trans hlo hE.size) ?_
      rw [hnt]
      exact hQ.next hE (fun _ h => h) (fun _ _ _ h => h)
    | exit id => exact hQ _ _ _ _ _ _ hΦ har hR' hE hnt hdl'
    | ret => exact hQ _ _ _ _ _ _ hΦ har hR' hE hnt hdl'
  | cond c x y =>
    simp only [okCode, Bool.and_eq_true] at hok
    unfold code at h
    simp only at h
    have hv := ha.eval hR.even hok.1.1
    split at h
    · rename_i hc'
      rw [hc'] at hv
      exact wpIn_cond_true hv.bool_eq (hC r x a s act w ι Φ r' m lo Q hok.1.2 h ha hR hdl hrd hlo hQ)
    · rename_i hc'
      rw [hc'] at hv
      exact wpIn_cond_false hv.bool_eq (hC r y a s act w ι Φ r' m lo Q hok.2 h ha hR hdl hrd hlo hQ)
    · exact h.elim
  | block id b =>
    simp only [okCode] at hok
    unfold code at h
    simp only at h
    rw [Res.All_bind] at h
    refine wpIn_block (hC r b a s act w ι _ r' m lo _ hok h ha hR hdl hrd hlo ?_)
    intro e a' s' act' w' ι' hΦ har hR' hE hnt hdl'
    cases e with
    | normal => exact hQ .normal _ _ _ _ _ hΦ har hR' hE hnt hdl'
    | ret => exact hQ .ret _ _ _ _ _ hΦ har hR' hE hnt hdl'
    | exit i =>
      simp only at hΦ
      show if i = id then Q .normal act' w' else Q (.exit i) act' w'
      split at hΦ
      · rename_i e; rw [if_pos e]; exact hQ .normal _ _ _ _ _ hΦ har hR' hE hnt hdl'
      · rename_i e; rw [if_neg e]; exact hQ (.exit i) _ _ _ _ _ hΦ har hR' hE hnt hdl'

/-- WHAT D SAYS OF A RUN, THE PROGRAM DOES. -/
theorem all_sound (hD : DrawnOK P) : ∀ n, CodeOK P (code (env P) n) ∧ LoopOK P (code (env P) n) n ∧ CallOK P (callA (env P) n) ∧ RoundOK P (roundA (env P) n)
  | 0 => by
    refine ⟨?_, ?_, ⟨?_, ?_⟩, ?_⟩
    · intro r c a s act w ι Φ r' m lo Q _ h; unfold code at h; exact h.elim
    · intro r b a s act w ι Φ r' m lo Q _ h; unfold code at h; exact h.elim
    · intro f args s Φ h; unfold callA at h; exact h.elim
    · intro f fn args args' s w ι Φ r m _ _ h; unfold callA at h; exact h.elim
    · intro l args args' s w ι Φ r m h; unfold roundA at h; exact h.elim
  | n + 1 => by
    obtain ⟨h1, h2, h3, h4⟩ := all_sound hD n
    exact ⟨code_step hD h1 h2 h3 h4, loop_step h1 h2, call_step h1, round_step h1⟩
end Go.Dust
end
section
/- A region whose order is drawn does what D says. -/
namespace Go.Dust
variable {P : Program} {call : CallF} {round : RoundF} {ops : Array Oper} {nt base : Nat} {A : Nat → ACt} {S : Nat → St} {V : Nat → Value}
variable {ι0 : Inj} {s0 : St} {w0 : World} {ds : List Deferred}

/-- Somehow. -/
def Some' (P : Program) (ops : Array Oper) (nt base : Nat) (A : Nat → ACt) (S : Nat → St) (V : Nat → Value) (ι0 : Inj) (s0 : St) (w0 : World) (ds : List Deferred) (X : Nat → Prop) (act : Act) (w : World) : Prop :=
  ∃ T ι HX aX, Inv P ops nt base A S V ι0 s0 w0 ds X act w T ι HX aX

theorem Inv.step {r : Option Nat} {m : Nat} {Q : Exit → Act → World → Prop} (h : Run P call round ops nt base A S V) (hb0 : s0.next ≤ base) {X : Nat → Prop} {act : Act} {w : World} (hv : Some' P ops nt base A S V ι0 s0 w0 ds X act w)
    {i : Nat} {o : Oper} (ho : ops[i]? = some o) (hX : ¬ X i) (hr : ∀ x ∈ o.after, Region.binds .any x = true → X x.on) {K : Act → World → Prop}
    (hK : ∀ act' w', Some' P ops nt base A S V ι0 s0 w0 ds (fun k => X k ∨ k = i) act' w' → K act' w') : wpOpIn (FW r) m P ops Q i K act w := by
  obtain ⟨T, ι, HX, aX, v⟩ := hv
  have hd := okOper_defer (h.oper ho)
  have hvals := v.vals h ho hX hr
  unfold wpOpIn
  simp only [ho]
  rw [← v.want h ho hX hr]
  rcases (h.step i o ho).2 with ⟨h1, h2⟩ | ⟨h1, h2, h3⟩
  · rw [if_pos h1]
    unfold execN at h2
    split at h2
    · rename_i hk
      split at h2
      · rename_i v0 hs
        simp only [Option.some.injEq, Prod.mk.injEq] at h2
        obtain ⟨rfl, _⟩ := h2
        have hs' := still_mono (H' := HX) (fun hm => v.reads h ho hX hr hk h1 hm) hs
        obtain ⟨u, g1, g2⟩ := still_sound v.tie hvals hs'
        exact wpIn_value hd g1 (hK _ _ ⟨T, ι, HX, _, v.plain h ho hX hr (by rw [hk]; decide) (by rw [hk]; intro e; cases e) g2⟩)
      · cases h2
    · rename_i hk
      split at h2
      · rename_i v0 f ha
        simp only [Option.some.injEq, Prod.mk.injEq] at h2
        obtain ⟨rfl, h2⟩ := h2
        have hfree := v.free i (h.lt ho) hX
        obtain ⟨u, x, g1, g2, g3⟩ := alloc_sound (w := w) hfree hvals ha
        exact wpIn_value hd g1 (hK _ _ ⟨T, _, _, _, v.alloc h ho hX hr hk hb0 h2.symm g2 g3⟩)
      · cases h2
    · rename_i hk
      split at h2
      · rename_i p hx
        simp only [Option.some.injEq] at h2
        subst h2
        obtain ⟨_, _, hR⟩ := v.here h ho hX hr hk
        refine effect_sound h.hc h.hr hR hvals hd (Φ := fun p => p = (V i, S (i + 1))) (by rw [hx]; rfl) ?_
        intro v' u s' ι' w' hp hv' hR' hE'
        cases hp
        obtain ⟨H', hI⟩ := v.effect h ho hX hr hk hv' hR' hE'
        exact hK _ _ ⟨_, _, _, _, hI⟩
      · cases h2
  · rw [if_neg (by rw [h1]; decide)]
    refine ⟨fun _ _ => trivial, hK _ _ ?_⟩
    by_cases hk : kindOf o.op = .effect
    · obtain ⟨_, _, hR⟩ := v.here h ho hX hr hk
      obtain ⟨H', hI⟩ := v.effect h ho hX hr hk (ι' := ι) (w' := w) (u := undef) (by rw [h2]; exact VR.undef _) (by rw [h3]; exact hR) (by rw [h3]; exact Ext.refl)
      exact ⟨_, _, _, _, hI⟩
    · refine ⟨T, ι, HX, _, v.plain h ho hX hr hk ?_ (by rw [h2]; exact VR.undef _)⟩
      rintro _ ⟨o', ho', hw'⟩
      rw [ho] at ho'; cases ho'
      rw [h1] at hw'; cases hw'

/-- All is listed: as0 in the text's order. -/
theorem Inv.done (h : Run P call round ops nt base A S V) {X : Nat → Prop} {act : Act} {w : World} (hv : Some' P ops nt base A S V ι0 s0 w0 ds X act w) (hall : ∀ i, i < ops.size → X i) :
    ∃ ι, AR ι (A ops.size) act ∧ RS P ι (S ops.size) w ∧ ES ι0 s0 w0 ι (S ops.size) w ∧ act.defers = ds := by
  obtain ⟨T, ι, HX, aX, v⟩ := hv
  obtain ⟨h1, h2⟩ := v.upTo h (Nat.le_refl _) v.top (fun k k1 k2 hk => by have := (v.eff k hk).1 (hall k k2); omega) (fun k _ k2 _ => hall k k2)
  have hnt := h.nt0 ops.size (Nat.le_refl _)
  refine ⟨ι, ⟨by rw [v.tmps.size, v.nts, hnt], fun t ht => ?_⟩, ?_, ?_, v.defs⟩
  · rw [hnt] at ht
    have : (A ops.size).getT t = aX.getT t := LastW.uniq (h.last t _ (Nat.le_refl _)) (v.last t ht) fun k ok hk _ => ⟨fun _ => hall k (h.lt hk), fun _ => h.lt hk⟩
    rw [this]
    exact v.tmps.val t (by rw [v.nts]; exact ht)
  · unfold RS; rw [h2]; exact v.tie.fewer h1
  · unfold ES; rw [h2]
    exact ⟨v.ext.le, v.ext.new, v.ext.nxt, v.ext.os, v.ext.tape, v.ext.output, v.ext.size, v.ext.keep, fun c ⟨b, q, l, k1, k2, k3⟩ => v.ext.own c ⟨b, q, l, h1 b q k1 k2, k2, k3⟩⟩

abbrev Lst (listed : Array Bool) (i : Nat) : Prop := listed.getD i false = true
theorem lst_set {listed : Array Bool} {i : Nat} (hi : i < listed.size) : Lst (listed.setIfInBounds i true) = fun k => Lst listed k ∨ k = i := by
  funext k
  apply propext
  simp only [Lst, Array.getD_eq_getD_getElem?, Array.getElem?_setIfInBounds]
  by_cases e : i = k
  · subst e; simp [hi]
  · rw [if_neg e]
    constructor
    · exact fun h => .inl h
    · rintro (h | h)
      · exact h
      · exact absurd h.symm e

theorem Inv.any {r : Option Nat} {m : Nat} {Q : Exit → Act → World → Prop} (h : Run P call round ops nt base A S V) (hb0 : s0.next ≤ base)
    (hQ : ∀ act' w' ι', AR ι' (A ops.size) act' → RS P ι' (S ops.size) w' → ES ι0 s0 w0 ι' (S ops.size) w' → act'.defers = ds → Q .normal act' w') :
    ∀ (fuel : Nat) (listed : Array Bool) (act : Act) (w : World), listed.size = ops.size → listed.toList.count false ≤ fuel → Some' P ops nt base A S V ι0 s0 w0 ds (Lst listed) act w →
      wpAnyIn (FW r) m P .any ops Q fuel listed act w := by
  have fin : ∀ (listed : Array Bool) (act : Act) (w : World), listed.size = ops.size → Some' P ops nt base A S V ι0 s0 w0 ds (Lst listed) act w → Region.ready .any ops listed = [] → Q .normal act w := by
    intro listed act w hsz hv hnil
    have hall : ∀ i, i < ops.size → Lst listed i := by
      intro i
      induction i using Nat.strongRecOn with
      | _ i ih =>
        intro hi
        cases hl : listed.getD i false with
        | true => exact hl
        | false =>
          exfalso
          have hok : ops[i]? = some ops[i] := by simp [hi]
          have : i ∈ Region.ready .any ops listed := by
            refine mem_ready.2 ⟨?_, _, hok, fun e he hb => ?_⟩
            · have hsi : i < listed.size := by omega
              simp only [Array.getD_eq_getD_getElem?, Array.getElem?_eq_getElem hsi, Option.getD_some] at hl ⊢
              exact hl
            · have hlt := h.edges i _ hok e he hb
              exact ih e.on hlt (by omega)
          rw [hnil] at this
          cases this
    obtain ⟨ι, h1, h2, h3, h4⟩ := Inv.done h hv hall
    exact hQ act w ι h1 h2 h3 h4
  intro fuel
  induction fuel with
  | zero =>
    intro listed act w hsz hc hv
    have hnil : Region.ready .any ops listed = [] := by
      refine List.eq_nil_iff_forall_not_mem.2 fun i hi => ?_
      obtain ⟨h1, o, ho, _⟩ := mem_ready.1 hi
      have hsi : i < listed.size := by have := h.lt ho; omega
      have : false ∈ listed.toList := by
        simp only [Array.getD_eq_getD_getElem?, Array.getElem?_eq_getElem hsi, Option.getD_some] at h1
        rw [← h1]
        simp
      have := List.count_pos_iff.2 this
      omega
    exact ⟨hnil, fin listed act w hsz hv hnil⟩
  | succ fuel ih =>
    intro listed act w hsz hc hv
    refine ⟨fun hnil => fin listed act w hsz hv hnil, fun i hi => ?_⟩
    obtain ⟨h1, o, ho, hr⟩ := mem_ready.1 hi
    have hsi : i < listed.size := by have := h.lt ho; omega
    have hli : listed[i] = false := by simpa only [Array.getD_eq_getD_getElem?, Array.getElem?_eq_getElem hsi, Option.getD_some] using h1
    have hX : ¬ Lst listed i := by
      simp only [Lst, Array.getD_eq_getD_getElem?, Array.getElem?_eq_getElem hsi, Option.getD_some, hli]
      decide
    refine Inv.step h hb0 hv ho hX hr ?_
    intro act' w' hv'
    rw [← lst_set hsi] at hv'
    refine ih _ act' w' (by simpa using hsz) ?_ hv'
    rw [Array.toList_setIfInBounds, List.count_set (by simpa using hsi)]
    rw [if_pos (by simpa using hli), if_neg (by decide)]
    omega

/-! ### D's run of it, as0 a run -/
noncomputable def stepN (X : Env) (call : CallF) (round : RoundF) (ops : Array Oper) (base i : Nat) (p : ACt × St) : ACt × St × Value :=
  match ops[i]? with
  | some o => if Region.wanted o (yieldedA ops p.1) then (match execN X call round (base + 2 * i) p.2 p.1.eval o.op with
      | some (v, s') => (p.1.put o.dst v, s', v)
      | none => (p.1, p.2, undef)) else (p.1.put o.dst undef, p.2, undef)
  | none => (p.1, p.2, undef)
noncomputable def tr (X : Env) (call : CallF) (round : RoundF) (ops : Array Oper) (base : Nat) (a : ACt) (s : St) : Nat → ACt × St
  | 0 => (a, s)
  | i + 1 => ((stepN X call round ops base i (tr X call round ops base a s i)).1, (stepN X call round ops base i (tr X call round ops base a s i)).2.1)

theorem log_spec {X : Env} {a : ACt} {s : St} : ∀ (rest : List Oper) (k : Nat) (a' : ACt) (s' : St) (l : List Note), (∀ j, rest[j]? = ops[k + j]?) → logOps X call round ops base rest k (tr X call round ops base a s k).1 (tr X call round ops base a s k).2 = some (a', s', l) →
    tr X call round ops base a s (k + rest.length) = (a', s') ∧
    ∀ j o, rest[j]? = some o → ∃ nt, l[j]? = some nt ∧
      ((Region.wanted o (yieldedA ops (tr X call round ops base a s (k + j)).1) = true ∧
        execN X call round (base + 2 * (k + j)) (tr X call round ops base a s (k + j)).2 (tr X call round ops base a s (k + j)).1.eval o.op = some ((stepN X call round ops base (k + j) (tr X call round ops base a s (k + j))).2.2, (tr X call round ops base a s (k + j + 1)).2) ∧
        (tr X call round ops base a s (k + j + 1)).1 = (tr X call round ops base a s (k + j)).1.put o.dst (stepN X call round ops base (k + j) (tr X call round ops base a s (k + j))).2.2 ∧
        nt = { ran := true, reads := readsOf (tr X call round ops base a s (k + j)).1.eval (tr X call round ops base a s (k + j)).2.look o.op, pre := (tr X call round ops base a s (k + j)).2, post := (tr X call round ops base a s (k + j + 1)).2 }) ∨
       (Region.wanted o (yieldedA ops (tr X call round ops base a s (k + j)).1) = false ∧ (stepN X call round ops base (k + j) (tr X call round ops base a s (k + j))).2.2 = undef ∧ (tr X call round ops base a s (k + j + 1)).2 = (tr X call round ops base a s (k + j)).2 ∧
        (tr X call round ops base a s (k + j + 1)).1 = (tr X call round ops base a s (k + j)).1.put o.dst undef ∧ nt.ran = false))
  | [], k, a', s', l, _, h => by
    simp only [logOps, Option.some.injEq, Prod.mk.injEq] at h
    obtain ⟨h1, h2, _⟩ := h
    refine ⟨?_, fun j o hj => by simp at hj⟩
    rw [← h1, ← h2]; rfl
  | o :: rest, k, a', s', l, hidx, h => by
    have ho : ops[k]? = some o := by have := hidx 0; simpa using this.symm
    have hrest : ∀ j, rest[j]? = ops[k + 1 + j]? := fun j => by
      have := hidx (j + 1)
      simpa [show k + (j + 1) = k + 1 + j from by omega] using this
    unfold logOps at h
    have htr : tr X call round ops base a s (k + 1) = ((stepN X call round ops base k (tr X call round ops base a s k)).1, (stepN X call round ops base k (tr X call round ops base a s k)).2.1) := rfl
    split at h
    · rename_i hw
      split at h
      · rename_i v s1 hx
        have hst : stepN X call round ops base k (tr X call round ops base a s k) = ((tr X call round ops base a s k).1.put o.dst v, s1, v) := by
          unfold stepN
          rw [ho]
          simp only
          rw [if_pos hw, hx]
        rw [hst] at htr
        split at h
        · rename_i a2 s2 l2 hl
          simp only [Option.some.injEq, Prod.mk.injEq] at h
          obtain ⟨rfl, rfl, rfl⟩ := h
          obtain ⟨g1, g2⟩ := log_spec rest (k + 1) a2 s2 l2 hrest (by rw [htr]; exact hl)
          refine ⟨by rw [← g1]; congr 1; simp; omega, fun j o' hj => ?_⟩
          cases j with
          | zero =>
            simp only [List.getElem?_cons_zero, Option.some.injEq] at hj
            subst hj
            refine ⟨_, rfl, .inl ⟨hw, ?_, ?_, ?_⟩⟩
            · simp only [Nat.add_zero]; rw [hst, htr]; exact hx
            · simp only [Nat.add_zero]; rw [hst, htr]
            · simp only [Nat.add_zero]; rw [htr]
          | succ j =>
            have := g2 j o' (by simpa using hj)
            rw [show k + 1 + j = k + (j + 1) from by omega] at this
            simpa only [List.getElem?_cons_succ] using this
        · cases h
      · cases h
    · rename_i hw
      have hw' : Region.wanted o (yieldedA ops (tr X call round ops base a s k).1) = false := by simpa using hw
      have hst : stepN X call round ops base k (tr X call round ops base a s k) = ((tr X call round ops base a s k).1.put o.dst undef, (tr X call round ops base a s k).2, undef) := by
        unfold stepN
        rw [ho]
        simp only
        rw [if_neg hw]
      rw [hst] at htr
      split at h
      · rename_i a2 s2 l2 hl
        simp only [Option.some.injEq, Prod.mk.injEq] at h
        obtain ⟨rfl, rfl, rfl⟩ := h
        obtain ⟨g1, g2⟩ := log_spec rest (k + 1) a2 s2 l2 hrest (by rw [htr]; exact hl)
        refine ⟨by rw [← g1]; congr 1; simp; omega, fun j o' hj => ?_⟩
        cases j with
        | zero =>
          simp only [List.getElem?_cons_zero, Option.some.injEq] at hj
          subst hj
          refine ⟨_, rfl, .inr ⟨hw', ?_, ?_, ?_, rfl⟩⟩
          · simp only [Nat.add_zero]; rw [hst]
          · simp only [Nat.add_zero]; rw [htr]
          · simp only [Nat.add_zero]; rw [htr]
        | succ j =>
          have := g2 j o' (by simpa using hj)
          rw [show k + 1 + j = k + (j + 1) from by omega] at this
          simpa only [List.getElem?_cons_succ] using this
      · cases h

theorem drawn_sound (hm : P.follows .mixedOrders = true) : DrawnOK P := by
  intro call round hc hr lc lr id ops a s act w ι Φ r m Q hok hod h ha hR hQ
  unfold drawnA at h
  split at h
  · exact h.elim
  · rename_i c hconf
    split at h
    · rename_i a' s' log hlog
      split at h
      · rename_i hlk
        obtain ⟨g1, g2⟩ := log_spec (X := env P) (call := call) (round := round) (ops := ops) (base := s.next) (a := a) (s := { heap := s.heap, next := s.next + 2 * ops.size, clk := s.clk }) ops.toList 0 a' s' log (fun j => by simp) hlog
        generalize hA : (fun i => (tr (env P) call round ops s.next a { heap := s.heap, next := s.next + 2 * ops.size, clk := s.clk } i).1) = A at *
        generalize hS : (fun i => (tr (env P) call round ops s.next a { heap := s.heap, next := s.next + 2 * ops.size, clk := s.clk } i).2) = S at *
        generalize hV : (fun i => (stepN (env P) call round ops s.next i (tr (env P) call round ops s.next a { heap := s.heap, next := s.next + 2 * ops.size, clk := s.clk } i)).2.2) = V at *
        have eA : ∀ i, (tr (env P) call round ops s.next a { heap := s.heap, next := s.next + 2 * ops.size, clk := s.clk } i).1 = A i := fun i => congrFun hA i
        have eS : ∀ i, (tr (env P) call round ops s.next a { heap := s.heap, next := s.next + 2 * ops.size, clk := s.clk } i).2 = S i := fun i => congrFun hS i
        have eV : ∀ i, (stepN (env P) call round ops s.next i (tr (env P) call round ops s.next a { heap := s.heap, next := s.next + 2 * ops.size, clk := s.clk } i)).2.2 = V i := fun i => congrFun hV i
        simp only [eA, eS, eV, Nat.zero_add] at g2
        have eA0 : A 0 = a := (eA 0).symm
        have eS0 : S 0 = { heap := s.heap, next := s.next + 2 * ops.size, clk := s.clk } := (eS 0).symm
        have hst : ∀ i o, ops[i]? = some o → A (i + 1) = (A i).put o.dst (V i) ∧
            ((Region.wanted o (yieldedA ops (A i)) = true ∧ execN (env P) call round (s.next + 2 * i) (S i) (A i).eval o.op = some (V i, S (i + 1))) ∨
             (Region.wanted o (yieldedA ops (A i)) = false ∧ V i = undef ∧ S (i + 1) = S i)) := by
          intro i o ho
          obtain ⟨nt, _, h2⟩ := g2 i o (by simpa using ho)
          rcases h2 with ⟨k1, k2, k3, _⟩ | ⟨k1, k2, k3, k4, _⟩
          · exact ⟨k3, .inl ⟨k1, k2⟩⟩
          · exact ⟨by rw [k2]; exact k4, .inr ⟨k1, k2, k3⟩⟩
        have hnt : ∀ i, i ≤ ops.size → (A i).nt = a.nt := by
          intro i
          induction i with
          | zero => intro _; rw [eA0]
          | succ i ih =>
            intro hi
            rw [(hst i ops[i] (by simp [show i < ops.size by omega])).1, put_nt]
            exact ih (by omega)
        have hev : ∀ i, i ≤ ops.size → s.next + 2 * ops.size ≤ (S i).next := by
          intro i
          induction i with
          | zero => intro _; rw [eS0]; exact Nat.le_refl _
          | succ i ih =>
            intro hi
            have i1 := ih (by omega)
            rcases (hst i ops[i] (by simp [show i < ops.size by omega])).2 with ⟨_, k⟩ | ⟨_, _, k⟩
            · have := (evol_execN (base := s.next) lc lr (by omega) (by omega) k).next
              omega
            · rw [k]; exact i1
        have hrun : Run P call round ops a.nt s.next A S V := by
          refine ⟨hc, hr, lc, lr, hok, hnt, hst, fun i j oi oj hlt hi hj => okDraw_pairs hod hi hj hlt, fun j o ho => okDraw_edges hod ho, ?_, hev, hR.odd, ?_⟩
          · intro i j oi oj hlt hi hj
            rcases conf_spec hconf hi hj hlt with hb | ⟨mm, h1, h2⟩
            · exact .inl hb
            · refine .inr ⟨mm, h1, fun x e hxe ox hox hwx hre b hb => ?_⟩
              have h3 := List.all_eq_true.1 hlk (x, e) (h2 _ hxe)
              obtain ⟨oe, hoe, hwe⟩ := hre
              obtain ⟨nx, k1, k2⟩ := g2 x ox (by simpa using hox)
              obtain ⟨ne, q1, q2⟩ := g2 e oe (by simpa using hoe)
              simp only [k1, q1] at h3
              rcases k2 with ⟨_, _, _, k3⟩ | ⟨k3, _⟩
              · rcases q2 with ⟨_, _, _, q3⟩ | ⟨q3, _⟩
                · subst k3; subst q3
                  simp only [Bool.not_true, Bool.false_or] at h3
                  exact List.all_eq_true.1 h3 b hb
                · rw [hwe] at q3; cases q3
              · rw [hwx] at k3; cases k3
          · intro i hi o ho
            rw [eS0] at ho
            cases hd : o.isDead with
            | true => rfl
            | false =>
              obtain ⟨l, h1, _⟩ := hR.obj _ o ho hd
              have hodd := hR.odd
              rw [hR.fresh (s.next + 2 * i) (by omega) (by omega)] at h1
              cases h1
        have e1 : (A ops.size, S ops.size) = (a', s') := by
          rw [← g1, ← eA, ← eS]
          simp
        obtain ⟨e2, e3⟩ := Prod.mk.inj e1
        refine wpIn_region_any hm ?_
        refine Inv.any (ι0 := ι) (s0 := s) (w0 := w) (ds := act.defers) hrun (Nat.le_refl _) ?_ ops.size _ act _ (by simp) (by simp) ?_
        · intro act' w' ι' h1 h2 h3 h4
          rw [e2] at h1
          rw [e3] at h2 h3
          refine hQ a' s' act' w' ι' h h1 h2 h3 ?_ h4
          rw [← e2]; exact hnt _ (Nat.le_refl _)
        · have hodd := hR.odd
          have hX : ∀ i, ¬ Lst (Array.replicate ops.size false) i := by
            intro i
            simp only [Lst, Array.getD_eq_getD_getElem?, Array.getElem?_replicate]
            split <;> simp
          refine ⟨0, ι, s.look, a, ⟨fun j o hj => absurd hj (hX j), Nat.zero_le _, fun e _ => ⟨fun hx => absurd hx (hX e), fun hx => by omega⟩, fun i hi => by omega, ?_, ?_, fun i hx => absurd hx (hX i), ?_, ?_, ?_, ha, rfl, ?_, rfl⟩⟩
          · rw [eS0]
            have hR' := hR.drew (w' := { w with drawn := w.drawn + 1 }) rfl
            exact ⟨hR'.even, by simp only; omega, fun b hb hb2 => hR'.fresh b (by simp only at hb; omega) hb2, hR'.inb, hR'.obj, hR'.inj⟩
          · rw [eS0]; exact fun b o hb _ => hb
          · rw [eS0]; exact fun b o hb hd => .inl ⟨o, hb, hd⟩
          · intro i hi _
            exact hR.fresh _ (by omega) (by omega)
          · rw [eS0]
            exact ⟨Inj.le_refl _, fun _ h _ => h, by simp only; omega, rfl, rfl, rfl, Nat.le_refl _, fun _ _ _ => rfl, fun _ h => .inl h⟩
          · intro t ht
            rw [eA0]
            exact .inr ⟨fun i o hx => absurd hx (hX i), rfl⟩
      · exact h.elim
    · exact h.elim
end Go.Dust
end
section
/- From D's word on a law to the statement: a law that gives true and leaves everything as0 it lies. -/
namespace Go.Dust
open Go.ChangeShapes Go.RowKit Go.WideShapes

def ι₀ : Inj := fun b => if b % 2 = 0 then some ⟨b / 2, 0, 0, true⟩ else none
def st₀ : St := { heap := .nil, next := 1, clk := 0 }
theorem look₀ (b : Nat) : st₀.look b = none := rfl
theorem tie₀ (P : Program) (W : World) : RS P ι₀ st₀ W := by
  refine ⟨fun b => ?_, rfl, fun b _ hb => ?_, fun b l hl hro => ?_, fun b o h => ?_, fun b b' o o' l l' h => ?_⟩
  · unfold ι₀
    rw [if_pos (by omega)]
    simp
  · unfold ι₀
    rw [if_neg (by omega)]
  · unfold ι₀ at hl
    split at hl
    · cases hl; cases hro
    · cases hl
  · rw [look₀] at h; cases h
  · rw [look₀] at h; cases h

def isTrue : Res (Value × St) → Bool
  | .ret (.bool true, _) => true
  | _ => false
theorem isTrue_all {r : Res (Value × St)} (h : isTrue r = true) : r.All fun p => p.1 = .bool true := by
  unfold isTrue at h
  split at h
  · rfl
  · cases h

/-- A run that D follows to 'true', whatever lies in the memory. -/
theorem calls_all {P : Program} (hm : P.follows .mixedOrders = true) {N : Nat} {f : FuncId} {fn : Func} (hf : P.funcs[f]? = some fn) (hb : fn.body.isSome = true) {args : List Value} {args' : Array Value} {W : World}
    (hargs : VRs ι₀ args args'.toList) (hrun : (callA (env P) N f args st₀).All fun p => p.1 = .bool true) : Calls P f args' W fun e W' => e = .returned (.bool true) ∧ Below W.heap.size W W' := by
  obtain ⟨_, _, hc, _⟩ := all_sound (drawn_sound hm) N
  obtain ⟨fn', h1, _⟩ := hc.fn f args st₀ _ hrun
  have h2 := (fn_some h1).1
  rw [hf] at h2; cases h2
  have := hc.calls f fn args args' st₀ W ι₀ _ none 0 h1 hb hrun hargs (tie₀ P W)
  refine (callsIn_wide.1 this).mono ?_
  rintro e W' ⟨v, u, s', ι', rfl, hv, hu, _, hE⟩
  simp only at hv
  subst hv
  refine ⟨by rw [hu.bool_eq], hE.os, hE.tape, hE.output, hE.size, fun k hk => hE.keep k hk ?_⟩
  rintro ⟨b, o, l, h, _⟩
  rw [look₀] at h; cases h
theorem calls_true {P : Program} (hm : P.follows .mixedOrders = true) {N : Nat} {f : FuncId} {fn : Func} (hf : P.funcs[f]? = some fn) (hb : fn.body.isSome = true) {args : List Value} {args' : Array Value} {W : World}
    (hargs : VRs ι₀ args args'.toList) (hrun : isTrue (callA (env P) N f args st₀) = true) : Calls P f args' W fun e W' => e = .returned (.bool true) ∧ Below W.heap.size W W' := calls_all hm hf hb hargs (isTrue_all hrun)

section
variable {H : Type} {enc : TypeId × Value → H} {P : Program}
theorem trodAll_stays (hl : laidOutB P = true) {W W' : World} {sp' : Nat → Bool} : ∀ {ts : List TypeId} {vs : List Value} {ds : List (DataW H)} {ps : List MemPlace}, (∀ t ∈ ts, P.readableRec t = true ∧ t < P.types.size) →
    DataW.TrodAll enc P W 0 (fun _ => true) true ts vs ds ps → (∀ p ∈ ps, W.sameAt W' p) → (∀ p ∈ ps, sp' p.block = true) → DataW.TrodAll enc P W' 0 sp' true ts vs ds ps
  | [], _, _, _, _, h, _, _ => by
    obtain ⟨rfl, rfl, rfl⟩ := trodAll_nil h
    exact h
  | t :: ts, _, _, _, ht, h, hs, hsp => by
    obtain ⟨v, vs1, d, ds1, a, b, rfl, rfl, rfl, h1, h2⟩ := trodAll_cons h
    obtain ⟨k1, k2⟩ := ht t (by simp)
    exact ⟨a, b, WideElems.Trod_stays hl k1 k2 h1 (fun p hp => hs p (List.mem_append_left _ hp)) (fun p hp => hsp p (List.mem_append_left _ hp)),
      trodAll_stays hl (fun t ht' => ht t (List.mem_cons_of_mem _ ht')) h2 (fun p hp => hs p (List.mem_append_right _ hp)) (fun p hp => hsp p (List.mem_append_right _ hp)), rfl⟩

theorem trodAll_length {W : World} {base : Nat} {spare : Nat → Bool} {held : Bool} : ∀ {ts : List TypeId} {vs : List Value} {ds : List (DataW H)} {ps : List MemPlace}, DataW.TrodAll enc P W base spare held ts vs ds ps → ds.length = ts.length
  | [], _, _, _, h => by obtain ⟨rfl, rfl, rfl⟩ := trodAll_nil h; rfl
  | t :: ts, _, _, _, h => by
    obtain ⟨v, vs1, d, ds1, a, b, rfl, rfl, rfl, h1, h2⟩ := trodAll_cons h
    simp [trodAll_length h2]

/-- The postcondition of a law. -/
theorem post_true (hl : laidOutB P = true) {f : Func} {s : ChangeSpec} {apart fresh handsOn again : Bool} {W W' : World} {args : Array Value} {ds gs : List (DataW H)} {before : List MemPlace} {tb : TypeId}
    (hpar : ∀ t ∈ f.params.toList, P.readableRec t = true ∧ t < P.types.size) (hvars : s.vars = []) (hrt : f.resultTypes = #[tb]) (htb : P.underlying tb = some .bool)
    (hfn : ∀ ds : List (DataW H), ds.length = f.params.size → s.fn H ds = { results := [.lit (.bool true)], args := ds })
    (hW : DataW.Whole enc P f.params.toList s.vars apart W args.toList ds gs before) (hb : Below W.heap.size W W') : s.post enc P f apart fresh handsOn again W args (.bool true) W' := by
  have hW' := hW
  obtain ⟨p, q, hA, hV, rfl, hfz, hnd⟩ := hW
  rw [hvars] at hV
  cases gs with
  | cons g gs => exact hV.elim
  | nil =>
  have hq : q = [] := hV
  subst hq
  have hlt := hW'.lt
  have hsp := hfn ds (by rw [trodAll_length hA]; simp)
  have hargs : ∀ sp : Nat → Bool, (∀ x ∈ p, sp x.block = true) → DataW.TrodAll enc P W' 0 sp true f.params.toList args.toList ds p := fun sp h =>
    trodAll_stays hl hpar hA (fun x hx => hb.same (hlt x (by simpa using hx))) h
  have hres : ∀ (b : Nat) (sp : Nat → Bool) (hd : Bool), DataW.TrodAll enc P W' b sp hd f.resultTypes.toList ((Value.bool true).resultList f.resultTypes.size) [.lit (.bool true)] [] := by
    intro b sp hd
    rw [hrt]
    exact trodAll_mk1 (shut_bool htb _)
  have hok : ∀ (j : Nat) (t : TypeId) (r : Value), f.resultTypes[j]? = some t → ((Value.bool true).resultList f.resultTypes.size)[j]? = some r → Value.okWide P W' .any 0 t r :=
    ok_one (t := tb) hrt rfl (okWide_bool_mk htb _)
  have hvar : ∀ sp : Nat → Bool, DataW.TrodVars enc P W' sp s.vars ([] : List (DataW H)) [] := fun sp => by rw [hvars]; rfl
  have hp : ∀ x ∈ p, (fun b => decide (b < W.heap.size)) x.block = true := fun x hx => by
    have := hlt x (List.mem_append_left _ hx)
    simp only [decide_eq_true_eq]; exact this
  have hsp' : s.fn H (ds ++ []) = { results := [.lit (.bool true)], args := ds } := by rw [List.append_nil]; exact hsp
  refine ⟨ds, [], p ++ [], [], p, [], hW', by rw [hsp']; exact hres _ _ _, by rw [hsp']; exact hargs _ hp, by rw [hsp']; exact hvar _, hb.frame _, fun _ => ?_⟩
  refine ⟨hok, [.lit (.bool true)] ++ ds, [], ([] ++ p) ++ [], ⟨[] ++ p, [], trodAll_append (hargs _ (fun _ _ => rfl)) (hres _ _ _), hvar _, rfl, ?_, ?_⟩, ?_⟩
  · intro b off hx
    have hx' : MemPlace.cell b off ∈ p ++ [] := by simpa using hx
    rw [hb.frozen (p := ⟨b, off, none⟩) (hlt _ hx')]
    exact hfz b off hx'
  · intro ha
    have := hnd ha
    simpa using this
  · intro x hx _
    simpa using hx
end

/-! ### Arguments: each is named as0 it lies -/
theorem vr_int {P : Program} {w : World} {r : Reach} {b : Nat} {t : TypeId} {k : IntKind} {v : Value} (ht : P.underlying t = some (.int k)) (h : Value.okWide P w r b t v) : ∃ x, VR ι₀ x v := by
  simp only [Value.okWide, ht, Cell.okWide] at h
  cases v <;> simp_all [Cell.ok]
  exact ⟨_, .int _ _⟩
theorem vr_bool {P : Program} {w : World} {r : Reach} {b : Nat} {t : TypeId} {v : Value} (ht : P.underlying t = some .bool) (h : Value.okWide P w r b t v) : ∃ x, VR ι₀ x v := by
  simp only [Value.okWide, ht, Cell.okWide] at h
  cases v <;> simp_all [Cell.ok]
  exact ⟨_, .bool _⟩
theorem vr_string {P : Program} {w : World} {r : Reach} {b : Nat} {t : TypeId} {v : Value} (ht : P.underlying t = some .string) (h : Value.okWide P w r b t v) : ∃ x, VR ι₀ x v := by
  simp only [Value.okWide, ht, Cell.okWide] at h
  cases v <;> simp_all [Cell.ok]
  exact ⟨_, .string _⟩
theorem vr_slice {P : Program} {w : World} {r : Reach} {b : Nat} {t e : TypeId} {v : Value} (ht : P.underlying t = some (.slice e)) (h : Value.okWide P w r b t v) : ∃ x, VR ι₀ x v := by
  simp only [Value.okWide, ht, Cell.okWide] at h
  cases v with
  | slice a len cap =>
    cases a with
    | none => exact ⟨_, .nilslice len cap⟩
    | some a =>
      simp only [Cell.ok, ht, World.has] at h
      obtain ⟨blk, off, spot⟩ := a
      obtain ⟨_, _, _, hs, _⟩ := h
      simp only at hs
      subst hs
      refine ⟨.slice (some ⟨2 * blk, off, none⟩) len cap, ?_⟩
      have := VR.slice (ι := ι₀) (b := 2 * blk) (o := off) (l := ⟨blk, 0, 0, true⟩) len cap (by unfold ι₀; rw [if_pos (by omega)]; simp)
      simpa using this
  | _ => simp [Cell.ok, ht] at h
end Go.Dust
end
section
/- Arguments that are structs of integers. -/
namespace Go.Dust
open Go.ChangeShapes Go.RowKit Go.WideShapes
theorem addr_add (b off m : Nat) : (⟨b, off, none⟩ : Addr).add m = ⟨b, off + m, none⟩ := by
  unfold Addr.add
  split
  · rename_i h; subst h; rfl
  · rfl

/-- A struct of integers is named as0 it lies. -/
theorem vr_ints {P : Program} {w : World} {r : Reach} {b : Nat} {t : TypeId} {v : Value} {fs : Array Field} {ts : List TypeId} (ht : P.underlying t = some (.struct fs)) (hc : P.cellTypes P.depth t = some ts)
    (hk : ∀ u ∈ ts, ∃ k, P.underlying u = some (.int k)) (h : Value.okWide P w r b t v) : ∃ l, v = .agg ⟨l⟩ ∧ l.length = P.cellsOf t ∧ VR ι₀ (.agg ⟨l⟩) v := by
  simp only [Value.okWide, ht] at h
  obtain ⟨cs, rfl, hn, ts', h1, _, h2⟩ := h
  rw [hc] at h1; cases h1
  rcases cs with ⟨l⟩
  refine ⟨l, rfl, hn, .agg rfl fun i x y hx hy => ?_⟩
  rw [hx] at hy; cases hy
  obtain ⟨u, hu, hw⟩ := h2 i x hx
  obtain ⟨k, hku⟩ := hk u (List.mem_of_getElem? hu)
  simp only [Cell.okWide, hku] at hw
  cases x <;> simp_all [Cell.ok]
  exact .int _ _
end Go.Dust
end
section
/- A run that begins where an argument's cells are known. -/
namespace Go.Dust
open Go.ChangeShapes Go.RowKit Go.WideShapes

/-- A run from any tie in which nothing is ours yet. -/
theorem calls_from {P : Program} (hm : P.follows .mixedOrders = true) {N : Nat} {f : FuncId} {fn : Func} (hf : P.funcs[f]? = some fn) (hb : fn.body.isSome = true) {args : List Value} {args' : Array Value} {W : World}
    {ι : Inj} {s : St} (hR : RS P ι s W) (hown : ∀ c, ¬ Own ι s.look c) (hargs : VRs ι args args'.toList) (hrun : isTrue (callA (env P) N f args s) = true) :
    Calls P f args' W fun e W' => e = .returned (.bool true) ∧ Below W.heap.size W W' := by
  obtain ⟨_, _, hc, _⟩ := all_sound (drawn_sound hm) N
  have hrun' := isTrue_all hrun
  obtain ⟨fn', h1, _⟩ := hc.fn f args s _ hrun'
  have h2 := (fn_some h1).1
  rw [hf] at h2; cases h2
  have := hc.calls f fn args args' s W ι _ none 0 h1 hb hrun' hargs hR
  refine (callsIn_wide.1 this).mono ?_
  rintro e W' ⟨v, u, s', ι', rfl, hv, hu, _, hE⟩
  simp only at hv
  subst hv
  refine ⟨by rw [hu.bool_eq], hE.os, hE.tape, hE.output, hE.size, fun k hk => hE.keep k hk (hown k)⟩

def ι₁ (blk off : Nat) : Inj := fun b => if b % 2 = 0 then some ⟨b / 2, 0, 0, true⟩ else if b = 1 then some ⟨blk, off, 0, true⟩ else none
def st₁ (c : PT Value) (n : Nat) (e : TypeId) : St := { heap := .node none (.node (some (.cells c [] n e false true 0)) .nil .nil) .nil, next := 3, clk := 1 }
theorem ι₁_even (blk off b : Nat) : ι₁ blk off (2 * b) = some ⟨b, 0, 0, true⟩ := by
  unfold ι₁
  rw [if_pos (by omega)]
  simp
theorem ι₁_one (blk off : Nat) : ι₁ blk off 1 = some ⟨blk, off, 0, true⟩ := rfl
theorem look₁ (c : PT Value) (n : Nat) (e : TypeId) (b : Nat) : (st₁ c n e).look b = if b = 1 then some (.cells c [] n e false true 0) else none := by
  have : (st₁ c n e).heap = PT.nil.set 1 (.cells c [] n e false true 0) := rfl
  unfold St.look
  rw [this, PT.get_set, PT.get_nil]
theorem ι₁_ro {blk off b : Nat} {l : Loc} (h : ι₁ blk off b = some l) : l.ro = true := by
  unfold ι₁ at h
  split at h
  · cases h; rfl
  · split at h
    · cases h; rfl
    · cases h
theorem tie₁ (P : Program) {W : World} {blk off n : Nat} {c : PT Value} {e : TypeId} (hc : ∃ arr e' fz, W.heap[blk]? = some (.cells arr e' fz) ∧ off + n ≤ arr.size ∧
    ∀ i, i < n → ∃ v u, cellAt c [] n i = some v ∧ arr[off + i]? = some u ∧ VR (ι₁ blk off) v u) : RS P (ι₁ blk off) (st₁ c n e) W := by
  refine ⟨ι₁_even blk off, (show 3 % 2 = 1 from rfl), fun b hb hb2 => ?_, fun b l hl hro => ?_, fun b o h hd => ?_, fun b b' o o' l l' _ _ _ _ hl _ hro _ => ?_⟩
  · have hb' : 3 ≤ b := hb
    unfold ι₁
    rw [if_neg (by omega), if_neg (by omega)]
  · rw [ι₁_ro hl] at hro; cases hro
  · rw [look₁] at h
    split at h
    · rename_i hb
      subst hb
      cases h
      obtain ⟨arr, e', fz, h1, h2, h3⟩ := hc
      refine ⟨_, ι₁_one blk off, arr, e', fz, h1, ⟨fun h => (by cases h), fun _ h => (by cases h)⟩, rfl, (fun _ => rfl), (fun ei _ => ?_), h2, h3⟩
      show off + n + 0 * ei.size ≤ arr.size
      omega
    · cases h
  · rw [ι₁_ro hl] at hro; cases hro
theorem own₁ {blk off n c : Nat} {cs : PT Value} {e : TypeId} : ¬ Own (ι₁ blk off) (st₁ cs n e).look c := by
  rintro ⟨b, o, l, _, _, hl, hro, _⟩
  rw [ι₁_ro hl] at hro; cases hro

/-- No object at all, but the argument's name is taken. -/
def st₂ : St := { heap := .nil, next := 3, clk := 0 }
theorem tie₂ (P : Program) (W : World) (blk off : Nat) : RS P (ι₁ blk off) st₂ W := by
  have hn : ∀ b, st₂.look b = none := fun _ => rfl
  refine ⟨ι₁_even blk off, (show 3 % 2 = 1 from rfl), fun b hb hb2 => ?_, fun b l hl hro => ?_, fun b o h _ => ?_, fun b b' o o' l l' h _ _ _ _ _ _ _ => ?_⟩
  · have hb' : 3 ≤ b := hb
    unfold ι₁
    rw [if_neg (by omega), if_neg (by omega)]
  · rw [ι₁_ro hl] at hro; cases hro
  · rw [hn] at h; cases h
  · rw [hn] at h; cases h
theorem own₂ {blk off c : Nat} : ¬ Own (ι₁ blk off) st₂.look c := by
  rintro ⟨b, o, l, _, _, hl, hro, _⟩
  rw [ι₁_ro hl] at hro; cases hro

/-- A slice of integers that came in: nil, or a block that lies. -/
theorem slice_ints {H : Type} {enc : TypeId × Value → H} {P : Program} {W : World} {r : Reach} {b base : Nat} {held : Bool} {t e : TypeId} {k : IntKind} {v : Value} {d : DataW H} {p : List MemPlace}
    (ht : P.underlying t = some (.slice e)) (he : P.underlying e = some (.int k)) (hc : P.cellsOf e = 1) (hT : DataW.Trod enc P W base (fun _ => true) held t v d p) (hv : Value.okWide P W r b t v) :
    v = .slice none 0 0 ∨ ∃ blk off len cap, v = .slice (some ⟨blk, off, none⟩) len cap ∧ len ≤ cap ∧ (0 < cap → ∃ arr e' fz, W.heap[blk]? = some (.cells arr e' fz) ∧ off + 0 ≤ arr.size) := by
  obtain ⟨fuel, hf⟩ := hT
  simp only [Value.okWide, ht, Cell.okWide] at hv
  cases v with
  | slice a len cap =>
    rcases open_ints ht he hc hf with ⟨hcs, _⟩ | ⟨a', len', cap', zs, hcs, _, hl, _, hz, _, hcell, _⟩
    · left
      simpa [Value.cells] using hcs
    · right
      have hv' : Value.slice a len cap = .slice (some a') len' cap' := by simpa [Value.cells] using hcs
      cases hv'
      simp only [Cell.ok, ht, World.has] at hv
      obtain ⟨blk, off, spot⟩ := a'
      obtain ⟨_, _, _, hs, _⟩ := hv
      simp only at hs
      subst hs
      refine ⟨blk, off, len, cap, rfl, hl, fun h0 => ?_⟩
      have h1 := hcell 0 (by rw [hz]; simpa using h0)
      rw [show (⟨blk, off, none⟩ : Addr).add 0 = ⟨blk, off, none⟩ from rfl] at h1
      unfold World.cell? at h1
      split at h1
      · rename_i c e' fz hh
        simp only [Option.isSome_none, Bool.false_eq_true, if_false] at h1
        have := (Array.getElem?_eq_some_iff.1 h1).1
        exact ⟨c, e', fz, hh, by omega⟩
      · cases h1
  | _ => simp [Cell.ok, ht] at hv
theorem VR.window {blk off len cap : Nat} : VR (ι₁ blk off) (.slice (some ⟨1, 0, none⟩) len cap) (.slice (some ⟨blk, off, none⟩) len cap) := by
  have := VR.slice (ι := ι₁ blk off) (b := 1) (o := 0) (l := ⟨blk, off, 0, true⟩) len cap rfl
  simpa using this
theorem VR.move {v u : Value} {blk off : Nat} (h : VR ι₀ v u) : VR (ι₁ blk off) v u := by
  refine h.mono fun b l hb => ?_
  unfold ι₀ at hb
  unfold ι₁
  split at hb
  · rename_i he
    rw [if_pos he]; exact hb
  · cases hb
end Go.Dust
end
section
/- D with oracles: calls whose results are given, where the program is known to give them. -/
noncomputable section
namespace Go.Dust
/-- What is given of some calls. -/
abbrev Orc := FuncId → List Value → St → Option (Res (Value × St))
def noOrc : Orc := fun _ _ _ => none
mutual
def codeO (X : Env) (K : Orc) : Nat → Option Nat → Code → ACt → St → Res (AExit × ACt × St)
  | 0, _, _, _, _ => .fail "fuel"
  | n + 1, r, c, a, s => match c with
    | .skip => .ret (.normal, a, s)
    | .label _ => .ret (.normal, a, s)
    | .region _ ops draw =>
      (if draw then drawnA X (callO X K n) (roundO X K n) ops a s else runOps X (callO X K n) (roundO X K n) ops ops.toList a s).bind fun (a, s) => .ret (.normal, a, s)
    | .seq x y => (codeO X K n r x a s).bind fun (e, a, s) => match e with
      | .normal => codeO X K n r y a s
      | e => .ret (e, a, s)
    | .cond c x y => match a.eval c with
      | .bool true => codeO X K n r x a s
      | .bool false => codeO X K n r y a s
      | _ => .fail "cond"
    | .block id b => (codeO X K n r b a s).bind fun (e, a, s) => match e with
      | .exit i => if i = id then .ret (.normal, a, s) else .ret (e, a, s)
      | e => .ret (e, a, s)
    | .loop b => (codeO X K n r b a s).bind fun (e, a, s) => match e with
      | .normal => codeO X K n r (.loop b) a s
      | e => .ret (e, a, s)
    | .exit id => .ret (.exit id, a, s)
    | .ret => .ret (.ret, a, s)
    | .rangeFunc g ps assign body => match a.eval g with
      | .func (.func f) first captured =>
        if liveRound r s then
        (callO X K n f (first.toList ++ [.func (.yield s.next) #[] #[]] ++ captured.toList) (s.new fun v => .loop .ready none a.tmps a.nt ps assign body v)).bind fun (_, s') =>
          match s'.heap.get s.next with
          | some (.loop st pend t nt ps as0 bd _) =>
            if st = .busy then .fail "rangeFunc: busy" else
            match pend with
            | none => .ret (.normal, a, s'.put s.next fun v => .loop .exhausted pend t nt ps as0 bd v)
            | some .ret => .ret (.ret, a, s'.put s.next fun v => .loop .exhausted pend t nt ps as0 bd v)
            | some (.exit id) => .ret (.exit id, a, s'.put s.next fun v => .loop .exhausted pend t nt ps as0 bd v)
            | some _ => .fail "rangeFunc: pending"
          | _ => .fail "rangeFunc: record"
        else .fail "rangeFunc: round"
      | _ => .fail "rangeFunc: no function"
    | .scope _ => .fail "scope"
    | .goto _ => .fail "goto"
    | .refuse w => .fail ("refuse " ++ w)
def callO (X : Env) (K : Orc) : Nat → FuncId → List Value → St → Res (Value × St)
  | 0, _, _, _ => .fail "fuel"
  | n + 1, f, args, s => match K f args s with
    | some r => r
    | none => match X.fn f with
      | some fn => match fn.body with
        | some c =>
          if args.length ≤ fn.ntmps then
          (codeO X K n none c { tmps := PT.ofList args, nt := fn.ntmps } s).bind fun (e, a, s) => match e with
            | .exit _ => .fail "call: exit"
            | _ => match resultsA X s.look fn a with
              | some v => .ret (v, s)
              | none => .fail "results"
          else .fail "too many arguments"
        | none => externA s fn args
      | none => .fail "no function"
def roundO (X : Env) (K : Orc) : Nat → Nat → List Value → St → Res (Value × St)
  | 0, _, _, _ => .fail "fuel"
  | n + 1, l, args, s => match s.heap.get l with
    | some (.loop .ready _ t nt ps assign body _) =>
      if args.length = ps.size then
      (codeO X K n (some l) assign { tmps := putArgs t (ps.toList.zip args), nt } s).bind fun (e, a, s) => match e with
        | .normal => match s.heap.get l with
          | some (.loop .ready pend t nt ps as0 bd _) =>
            (codeO X K n (some l) body a (s.put l fun v => .loop .busy pend t nt ps as0 bd v)).bind fun (e, _, s) => match s.heap.get l with
              | some (.loop _ _ t nt ps as0 bd _) =>
                match e with
                | .normal => .ret (.bool true, s.put l fun v => .loop .ready none t nt ps as0 bd v)
                | .ret => .ret (.bool false, s.put l fun v => .loop .done (some .ret) t nt ps as0 bd v)
                | .exit id => .ret (.bool false, s.put l fun v => .loop .done (some (.exit id)) t nt ps as0 bd v)
              | _ => .fail "round: record"
          | _ => .fail "round: record"
        | _ => .fail "round: assign"
      else .fail "round: arguments"
    | _ => .fail "round: not ready"
end

/-- What is given is true of the program. -/
structure OrcOK (P : Program) (K : Orc) : Prop where
  evol : ∀ f args s r, K f args s = some r → r.Lv fun p => Evol s p.2
  fn : ∀ f args s r, K f args s = some r → ∃ fn, (env P).fn f = some fn ∧ fn.body.isSome = true
  calls : ∀ f args (args' : Array Value) s r w ι Φ, K f args s = some r → r.All Φ → VRs ι args args'.toList → RS P ι s w → Calls P f args' w (Back P ι s w Φ)
theorem orcOK_none (P : Program) : OrcOK P noOrc := ⟨fun _ _ _ _ h => (by cases h), fun _ _ _ _ h => (by cases h), fun _ _ _ _ _ _ _ _ h => (by cases h)⟩
section
variable {X : Env} {K : Orc}
theorem evol_allK (hK : ∀ f args s r, K f args s = some r → r.Lv fun p => Evol s p.2) : ∀ n : Nat, (∀ r c a s, (codeO X K n r c a s).Lv fun p => Evol s p.2.2) ∧ LvC (callO X K n) ∧ LvC (roundO X K n)
  | 0 => ⟨fun _ _ _ _ => trivial, fun _ _ _ => trivial, fun _ _ _ => trivial⟩
  | n + 1 => by
    obtain ⟨h1, h2, h3⟩ := evol_allK hK n
    refine ⟨?_, ?_, ?_⟩
    · intro r c a s
      unfold codeO
      split
      · exact .refl _
      · exact .refl _
      · rw [Res.Lv_bind]
        split
        · exact (evol_drawn h2 h3 a s).mono fun _ hp => hp
        · exact (evol_ops h2 h3 _ a s).mono fun _ hp => hp
      · rw [Res.Lv_bind]
        refine (h1 _ _ a s).mono fun p hp => ?_
        obtain ⟨e, a', s'⟩ := p
        cases e
        · exact (h1 _ _ a' s').mono fun q hq => hp.trans hq
        · exact hp
        · exact hp
      · split
        · exact h1 _ _ _ _
        · exact h1 _ _ _ _
        · trivial
      · rw [Res.Lv_bind]
        refine (h1 _ _ a s).mono fun p hp => ?_
        obtain ⟨e, a', s'⟩ := p
        cases e
        · exact hp
        · simp only
          split <;> exact hp
        · exact hp
      · rw [Res.Lv_bind]
        refine (h1 _ _ a s).mono fun p hp => ?_
        obtain ⟨e, a', s'⟩ := p
        cases e
        · exact (h1 _ _ a' s').mono fun q hq => hp.trans hq
        · exact hp
        · exact hp
      · exact .refl _
      · exact .refl _
      · split
        · split
          rotate_left
          · trivial
          rw [Res.Lv_bind]
          refine (h2 _ _ _).mono fun p hp => ?_
          obtain ⟨v, s'⟩ := p
          have h0 : Evol s s' := Evol.trans (.new fun _ => .inr ⟨rfl, rfl⟩) hp
          simp only
          split
          · split
            · trivial
            · split
              · exact h0.trans (.put (fun _ => .inr ⟨rfl, rfl⟩) (.inr (.inl ⟨_, by assumption, rfl⟩)))
              · exact h0.trans (.put (fun _ => .inr ⟨rfl, rfl⟩) (.inr (.inl ⟨_, by assumption, rfl⟩)))
              · exact h0.trans (.put (fun _ => .inr ⟨rfl, rfl⟩) (.inr (.inl ⟨_, by assumption, rfl⟩)))
              · trivial
          · trivial
        · trivial
      · trivial
      · trivial
      · trivial
    · intro f args s
      unfold callO
      split
      · rename_i r hr
        exact hK f args s r hr
      split
      · split
        · split
          · rw [Res.Lv_bind]
            refine (h1 _ _ _ s).mono fun p hp => ?_
            obtain ⟨e, a', s'⟩ := p
            simp only
            split
            · trivial
            · split
              · exact hp
              · trivial
          · trivial
        · exact evol_extern _ _ _
      · trivial
    · intro l args s
      unfold roundO
      split
      · split
        · rw [Res.Lv_bind]
          refine (h1 _ _ _ s).mono fun p hp => ?_
          obtain ⟨e, a', s'⟩ := p
          simp only
          split
          · split
            · rw [Res.Lv_bind]
              refine (h1 _ _ _ _).mono fun q hq => ?_
              obtain ⟨e2, a2, s2⟩ := q
              have h0 : Evol s s2 := hp.trans (Evol.trans (.put (fun _ => .inr ⟨rfl, rfl⟩) (.inr (.inl ⟨_, by assumption, rfl⟩))) hq)
              simp only
              (repeat' split) <;> first
                | trivial
                | exact h0.trans (.put (fun _ => .inr ⟨rfl, rfl⟩) (.inr (.inl ⟨_, by assumption, rfl⟩)))
            · trivial
          · trivial
        · trivial
      · trivial
end
section
variable {P : Program} {K : Orc} {ι ι' : Inj} {s s' : St} {w w' : World}
theorem round_stepK {n : Nat} (hC : CodeOK P (codeO (env P) K n)) : RoundOK P (roundO (env P) K (n + 1)) := by
  intro l args args' s w ι Φ r m h ha hR
  unfold roundO at h
  split at h
  · rename_i pend0 t nt ps assign body ver hl
    split at h
    · rename_i hlen
      obtain ⟨loc, rec, h1, hrec, hst, hpe, hpa, has, hbd, hsz, hval, hoka, hokb, hokp, _⟩ := loop_at hR hl
      refine ⟨loc, rec, h1, hrec, ?_, ?_⟩
      · rw [hpa, ← hlen, ha.length]; simp
      · refine roundIn_of_wpIn (F := FW r) trivial ?_
        rw [has, hbd]
        have hA : AR ι { tmps := putArgs t (ps.toList.zip args), nt } { tmps := (rec.params.zip args').foldl (fun tmps (p : Tmp × Value) => tmps.setIfInBounds p.1 p.2) rec.tmps, defers := [] } := by
          have := AR.args (ι := ι) (a := { tmps := t, nt }) (act := { tmps := rec.tmps, defers := [] }) ps.toList t rec.tmps ha hokp ⟨hsz, hval⟩
          rw [hpa, ← Array.foldl_toList, Array.toList_zip]
          exact this
        rw [Res.All_bind] at h
        refine hC (some l) assign _ s _ w ι _ (some loc.blk) m 0 _ hoka h hA hR (DL.nil _ _) ⟨loc, h1, rfl⟩ (Nat.zero_le _) ?_
        intro e a1 s1 act1 w1 ι1 hΦ har1 hR1 hE1 hnt1 hdl1
        cases e with
        | exit => exact hΦ.elim
        | ret => exact hΦ.elim
        | normal =>
          simp only at hΦ
          split at hΦ
          · rename_i pend1 t1 nt1 ps1 as1 bd1 ver1 hl1
            obtain ⟨loc1, rec1, k1, krec, kst, kpe, kpa, kas, kbd, ksz, kval, koka, kokb, kokp, kput⟩ := loop_at hR1 hl1
            have : loc1 = loc := by have := hE1.le l loc h1; rw [this] at k1; cases k1; rfl
            subst this
            refine ⟨_, run_beginRound krec kst, ?_⟩
            obtain ⟨kR, kE⟩ := kput .busy pend1
            have e1 : ({ rec1 with state := .busy, pending := pend1 } : Loop) = { rec1 with state := .busy } := by rw [← kpe]
            rw [e1] at kR kE
            rw [Res.All_bind] at hΦ
            refine hC (some l) body a1 _ act1 _ ι1 _ (some loc1.blk) m 0 _ (by rw [hnt1]; exact hokb) hΦ har1 kR (hdl1.ext kE) ⟨loc1, k1, rfl⟩ (Nat.zero_le _) ?_
            intro e2 a2 s2 act2 w2 ι2 hΦ2 har2 hR2 hE2 hnt2 hdl2
            simp only at hΦ2
            split at hΦ2
            · rename_i st3 pend3 t3 nt3 ps3 as3 bd3 ver3 hl3
              obtain ⟨loc3, rec3, q1, qrec, qst, qpe, qpa, qas, qbd, qsz, qval, qoka, qokb, qokp, qput⟩ := loop_at hR2 hl3
              have : loc3 = loc1 := by have := hE2.le l loc1 k1; rw [this] at q1; cases q1; rfl
              subst this
              cases e2 with
              | normal =>
                obtain ⟨qR, qE⟩ := qput .ready none
                exact ⟨_, _, run_endRound none qrec, .bool true, .bool true, _, ι2, rfl, hΦ2, .bool _, qR, Ext.trans hE1 (Ext.trans kE (Ext.trans hE2 qE))⟩
              | ret =>
                obtain ⟨qR, qE⟩ := qput .done (some .ret)
                exact ⟨_, _, run_endRound (some .ret) qrec, .bool false, .bool false, _, ι2, rfl, hΦ2, .bool _, qR, Ext.trans hE1 (Ext.trans kE (Ext.trans hE2 qE))⟩
              | exit id =>
                obtain ⟨qR, qE⟩ := qput .done (some (.exit id))
                exact ⟨_, _, run_endRound (some (.exit id)) qrec, .bool false, .bool false, _, ι2, rfl, hΦ2, .bool _, qR, Ext.trans hE1 (Ext.trans kE (Ext.trans hE2 qE))⟩
            · exact hΦ2.elim
          · exact hΦ.elim
    · exact h.elim
  · exact h.elim

theorem call_stepK (hK : OrcOK P K) {n : Nat} (hC : CodeOK P (codeO (env P) K n)) : CallOK P (callO (env P) K (n + 1)) := by
  refine ⟨?_, ?_⟩
  · intro f args s Φ h
    unfold callO at h
    split at h
    · rename_i r hr
      obtain ⟨fn, h1, h2⟩ := hK.fn f args s r hr
      exact ⟨fn, h1, fun h3 => by rw [h3] at h2; cases h2⟩
    split at h
    · rename_i fn hf
      refine ⟨fn, hf, fun hb => ?_⟩
      rw [hb] at h
      exact h
    · exact h.elim
  · intro f fn args args' s w ι Φ r0 m hf hb h ha hR
    obtain ⟨c, hc⟩ := Option.isSome_iff_exists.1 hb
    unfold callO at h
    split at h
    · rename_i r hr
      exact callsIn_wide.2 (hK.calls f args args' s r w ι Φ hr h ha hR)
    rw [hf] at h
    simp only [hc] at h
    split at h
    · rename_i hle
      obtain ⟨h1, h2⟩ := fn_some hf
      unfold okFn at h2
      rw [hc] at h2
      simp only [Bool.and_eq_true] at h2
      obtain ⟨⟨_, hok⟩, hres⟩ := h2
      rw [Res.All_bind] at h
      show CallsIn (FW none) m P f args' w _
      refine callsIn_of_wp_marks h1 hc trivial ?_ rfl
      refine hC none c _ s _ w ι _ none m w.heap.size _ hok h (AR.start ha hle) hR (DL.nil _ _) trivial (Nat.le_refl _) ?_
      intro e a' s' act' w' ι' hΦ har hR' hE hnt hdl
      have key : ∀ v, resultsA (env P) s'.look fn a' = some v → Φ (v, s') → LeavesInM (FW none) m P fn act'.tmps (Back P ι s w Φ) act'.defers .returning w' := by
        intro v hv hφ
        refine leaves_marks _ w' hR' hE (Nat.le_refl _) hdl ?_
        intro w'' hR'' hE''
        obtain ⟨u, g1, g2⟩ := results_sound har hR'' (by rw [hnt]; exact hres) hv
        exact ⟨u, g1, v, u, s', ι', rfl, hφ, g2, hR'', hE''⟩
      cases e with
      | exit => exact hΦ.elim
      | normal =>
        simp only at hΦ
        split at hΦ
        · exact key _ (by assumption) hΦ
        · exact hΦ.elim
      | ret =>
        simp only at hΦ
        split at hΦ
        · exact key _ (by assumption) hΦ
        · exact hΦ.elim
    · exact h.elim

theorem loop_stepK {n : Nat} (hC : CodeOK P (codeO (env P) K n)) (hL : LoopOK P (codeO (env P) K n) n) : LoopOK P (codeO (env P) K (n + 1)) (n + 1) := by
  intro r b a s act w ι Φ r' m lo Q hok h ha hR hdl hr hlo hQ
  rw [roundsIn_succ]
  unfold codeO at h
  simp only at h
  rw [Res.All_bind] at h
  refine hC r b a s act w ι _ r' m lo _ hok h ha hR hdl hr hlo ?_
  intro e a' s' act' w' ι' hΦ har hR' hE hnt hdl'
  cases e with
  | normal =>
    refine hL r b a' s' act' w' ι' Φ r' m lo Q (by rw [hnt]; exact hok) hΦ har hR' hdl' (hr.mono hE.le) (Nat.le_trans hlo hE.size) ?_
    rw [hnt]
    exact hQ.next hE (fun _ h => h) (fun _ _ _ h => h)
  | exit id => exact hQ _ _ _ _ _ _ hΦ har hR' hE hnt hdl'
  | ret => exact hQ _ _ _ _ _ _ hΦ har hR' hE hnt hdl'

theorem range_stepK {n : Nat} (hc : CallOK P (callO (env P) K n)) {r : Option Nat} {g : Operand} {ps : Array Tmp} {assign body : Code} {a : ACt} {act : Act} {Φ : AExit × ACt × St → Prop} {r' : Option Nat} {m lo : Nat} {Q : Exit → Act → World → Prop}
    (hok : okCode a.nt (.rangeFunc g ps assign body) = true) (h : (codeO (env P) K (n + 1) r (.rangeFunc g ps assign body) a s).All Φ) (ha : AR ι a act) (hR : RS P ι s w) (hdl : DL lo ι s.look w act.defers) (hr : RoundAt ι r r') (hlo : lo ≤ w.heap.size)
    (hQ : After P ι s w a.nt lo Φ Q) : (Code.rangeFunc g ps assign body).wpIn (FW r') m P Q act w := by
  simp only [okCode, Bool.and_eq_true] at hok
  obtain ⟨⟨⟨hokg, hokp⟩, hoka⟩, hokb⟩ := hok
  unfold codeO at h
  simp only at h
  split at h
  · rename_i f first captured hg
    split at h
    · rename_i hlive
      have hv := ha.eval hR.even hokg
      rw [hg] at hv
      obtain ⟨a', c', hg', hf1, hf2⟩ := hv.func_inv
      refine wpIn_rangeFunc fun fid _ => ?_
      -- the record is laid
      obtain ⟨mark, w0, rec, henter, hR0, hE0, hsz0, hrec, hmark⟩ : ∃ (mark : List Deferred) (w0 : World) (rec : Loop),
          (Instr.enterLoop fid act.tmps ps assign body (FW r').round).run P w = .ok (w0.heap.size, mark) (w0.alloc (.loop rec)) ∧ RS P ι s w0 ∧ ES ι s w ι s w0 ∧ lo ≤ w0.heap.size ∧
          (rec.state = .ready ∧ rec.pending = none ∧ rec.params = ps ∧ rec.assign = assign ∧ rec.body = body ∧ rec.tmps = act.tmps) ∧ DL lo ι s.look w0 (mark ++ act.defers) := by
        cases r' with
        | none =>
          refine ⟨[{ target := .collected w.heap.size, args := #[] }], w.alloc (.deferred (some [])), { state := .ready, pending := none, fn := fid, tmps := act.tmps, params := ps, assign, body, defers := w.heap.size }, ?_, hR.raw _, Ext.raw _, by simp; omega, ?_, ?_⟩
          · exact (run_enterLoop_outer fid act.tmps ps assign body).trans (by rw [World.size_alloc])
          · exact ⟨rfl, rfl, rfl, rfl, rfl, rfl⟩
          · have hd2 := hdl.ext (Ext.raw (ι := ι) (H := s.look) (n := s.next) (w := w) (.deferred (some [])))
            refine ⟨⟨?_, ?_⟩, ?_⟩
            · intro d hd
              rcases List.mem_cons.1 hd with rfl | hd
              · exact ⟨w.heap.size, rfl, heap_alloc_new, not_own (x := some []) (hR.raw (.deferred (some []))) heap_alloc_new⟩
              · exact hd2.1.mark d hd
            · refine List.pairwise_cons.2 ⟨?_, hd2.1.apart⟩
              intro d hd D hD hd3
              cases hD
              obtain ⟨D', rfl, k2, _⟩ := hdl.1.mark d hd
              cases hd3
              have := lt_of_heap k2
              omega
            · intro d hd D hD
              rcases List.mem_cons.1 hd with rfl | hd
              · cases hD; exact hlo
              · exact hd2.2 d hd D hD
        | some b =>
          cases r with
          | none => exact hr.elim
          | some l =>
            obtain ⟨loc, hl1, rfl⟩ := hr
            unfold liveRound at hlive
            simp only at hlive
            split at hlive
            · rename_i hll
              obtain ⟨loc1, rec1, k1, krec, _⟩ := loop_at hR hll
              rw [hl1] at k1; cases k1
              exact ⟨[], w, { state := .ready, pending := none, fn := fid, tmps := act.tmps, params := ps, assign, body, defers := rec1.defers }, run_enterLoop_inner krec fid act.tmps ps assign body, hR, Ext.refl, hlo, ⟨rfl, rfl, rfl, rfl, rfl, rfl⟩, hdl⟩
            · cases hlive
      obtain ⟨e1, e2, e3, e4, e5, e6⟩ := hrec
      have hfree : ι s.next = none := hR.fresh _ (Nat.le_refl _) hR.odd
      have hle := Inj.le_add (l := ⟨w0.heap.size, 0, 0, false⟩) hfree
      obtain ⟨hR1, hE1⟩ := RS.new (ex := 0) hR0 (.loop rec) (f := fun v => .loop .ready none a.tmps a.nt ps assign body v)
        ⟨rfl, rfl, rfl, hoka, hokb, hokp, rec, heap_alloc_new, e1, e2, e3, e4, e5, by rw [e6]; exact ha.size, fun i hi => by rw [e6]; exact (ha.val i hi).mono hle⟩
      have hnew : (ι.add s.next ⟨w0.heap.size, 0, 0, false⟩) s.next = some ⟨w0.heap.size, 0, 0, false⟩ := Inj.add_same _ _ _
      rw [Res.All_bind] at h
      have hargs : VRs (ι.add s.next ⟨w0.heap.size, 0, 0, false⟩) (first.toList ++ [Value.func (.yield s.next) #[] #[]] ++ captured.toList) (a' ++ #[Value.func (.yield w0.heap.size) #[] #[]] ++ c').toList := by
        simp only [Array.toList_append]
        exact ((hf1.mono hle).append (VRs.cons (VR.yield hnew) VRs.nil)).append (hf2.mono hle)
      obtain ⟨fn, hfn, hext⟩ := hc.fn f _ _ _ h
      have hbody : fn.body.isSome = true := by
        cases hb : fn.body with
        | some c => rfl
        | none =>
          exfalso
          have hx := hext hb
          unfold externA at hx
          split at hx
          · split at hx
            · rename_i t b heq
              have h1 : (Value.func (.yield s.next) #[] #[]) ∈ first.toList ++ [Value.func (.yield s.next) #[] #[]] ++ captured.toList := by simp
              rw [heq] at h1
              simp at h1
            · exact hx.elim
          · exact hx.elim
      refine ⟨w0.heap.size, mark, w0.alloc (.loop rec), { target := .fn (.func f) c', args := a' ++ #[.func (.yield w0.heap.size) #[] #[]] }, w0.alloc (.loop rec), f, a' ++ #[.func (.yield w0.heap.size) #[] #[]] ++ c', w0.alloc (.loop rec),
        henter, ?_, fun _ _ => trivial, ?_, ?_, ?_⟩
      · have harg : (#[Operand.const (.func (.yield w0.heap.size) #[] #[])].map act.eval) = #[Value.func (.yield w0.heap.size) #[] #[]] := by simp [Act.eval]
        simp only [resolve, hg', Deferred.ofValue, Sem.run_pure, harg]
      · show (callFunc f _).run P _ = _
        exact run_callFunc hfn hbody _
      · intro hh; cases hh
      · refine (hc.calls f fn _ _ _ _ _ _ r' (m - 1) hfn hbody h hargs hR1).mono ?_
        rintro e w3 ⟨v, u, s3, ι3, rfl, hΦ, hvu, hR3, hE3⟩
        have hA3 : ∀ ds, AR ι3 a { act with defers := ds } := fun ds => ⟨ha.size, fun t ht => (ha.val t ht).mono (Inj.le_trans hle hE3.le)⟩
        simp only at hΦ
        split at hΦ
        · rename_i st pend t nt ps3 as3 bd3 ver hl3
          obtain ⟨loc3, rec3, q1, qrec, qst, qpe, qpa, qas, qbd, qsz, qval, qoka, qokb, qokp, qput⟩ := loop_at hR3 hl3
          have : loc3 = ⟨w0.heap.size, 0, 0, false⟩ := by have := hE3.le _ _ hnew; rw [this] at q1; cases q1; rfl
          subst this
          split at hΦ
          · exact hΦ.elim
          · rename_i hbusy
            obtain ⟨qR, qE⟩ := qput .exhausted pend
            have hEall := Ext.trans hE0 (Ext.trans hE1 (Ext.trans hE3 qE))
            have hD := (hmark.ext hE1).ext (Ext.trans hE3 qE)
            refine ⟨rec3.pending, _, run_endLoop qrec (by rw [qst]; exact hbusy), ?_⟩
            rw [qpe]
            split at hΦ
            · exact hQ .normal a _ _ _ _ hΦ (hA3 _) qR hEall rfl hD
            · exact wpIn_ret (hQ .ret a _ { act with defers := mark ++ act.defers } _ _ hΦ (hA3 _) qR hEall rfl hD)
            · exact wpIn_exit (hQ (.exit _) a _ { act with defers := mark ++ act.defers } _ _ hΦ (hA3 _) qR hEall rfl hD)
            · exact hΦ.elim
        · exact hΦ.elim
    · exact h.elim
  · exact h.elim

theorem code_stepK (hD : DrawnOK P) (hK : OrcOK P K) {n : Nat} (hC : CodeOK P (codeO (env P) K n)) (hL : LoopOK P (codeO (env P) K n) n) (hc : CallOK P (callO (env P) K n)) (hr : RoundOK P (roundO (env P) K n)) : CodeOK P (codeO (env P) K (n + 1)) := by
  intro r c a s act w ι Φ r' m lo Q hok h ha hR hdl hrd hlo hQ
  cases c with
  | rangeFunc g ps as0 bd => exact range_stepK hc hok h ha hR hdl hrd hlo hQ
  | loop b => exact wpIn_loop_rounds (n + 1) (loop_stepK hC hL r b a s act w ι Φ r' m lo Q hok h ha hR hdl hrd hlo hQ)
  | skip => unfold codeO at h; exact wpIn_skip (hQ .normal a s act w ι h ha hR Ext.refl rfl hdl)
  | label l => unfold codeO at h; exact wpIn_label (hQ .normal a s act w ι h ha hR Ext.refl rfl hdl)
  | exit id => unfold codeO at h; exact wpIn_exit (hQ (.exit id) a s act w ι h ha hR Ext.refl rfl hdl)
  | ret => unfold codeO at h; exact wpIn_ret (hQ .ret a s act w ι h ha hR Ext.refl rfl hdl)
  | scope => unfold codeO at h; exact h.elim
  | goto => unfold codeO at h; exact h.elim
  | refuse => unfold codeO at h; exact h.elim
  | region id ops draw =>
    simp only [okCode, Bool.and_eq_true] at hok
    unfold codeO at h
    simp only at h
    rw [Res.All_bind] at h
    cases draw with
    | true =>
      simp only [if_true] at h
      obtain ⟨e1, e2, e3⟩ := evol_allK (X := env P) hK.evol n
      refine hD _ _ hc hr e2 e3 id ops a s act w ι _ r' m Q hok.1 (by simpa using hok.2) h ha hR ?_
      intro a' s' act' w' ι' h1 h2 h3 h4 h5 h6
      exact hQ .normal a' s' act' w' ι' h1 h2 h3 h4 h5 (by rw [h6]; exact hdl.ext h4)
    | false =>
      simp only [Bool.false_eq_true, if_false] at h
      refine wpIn_region ?_
      rw [List.range_eq_range']
      have := runOps_sound (r := r') (m := m) hc hr (ops := ops) (Q := Q) ops.toList 0 (fun j => by simp) a s act w ι _ hok.1 h ha hR ?_
      · simpa using this
      · intro a' s' act' w' ι' h1 h2 h3 h4 h5 h6
        exact hQ .normal a' s' act' w' ι' h1 h2 h3 h4 h5 (by rw [h6]; exact hdl.ext h4)
  | seq x y =>
    simp only [okCode, Bool.and_eq_true] at hok
    unfold codeO at h
    simp only at h
    rw [Res.All_bind] at h
    refine wpIn_seq (hC r x a s act w ι _ r' m lo _ hok.1 h ha hR hdl hrd hlo ?_)
    intro e a' s' act' w' ι' hΦ har hR' hE hnt hdl'
    cases e with
    | normal =>
      refine hC r y a' s' act' w' ι' Φ r' m lo Q (by rw [hnt]; exact hok.2) hΦ har hR' hdl' (hrd.mono hE.le) (Nat.le_trans hlo hE.size) ?_
      rw [hnt]
      exact hQ.next hE (fun _ h => h) (fun _ _ _ h => h)
    | exit id => exact hQ _ _ _ _ _ _ hΦ har hR' hE hnt hdl'
    | ret => exact hQ _ _ _ _ _ _ hΦ har hR' hE hnt hdl'
  | cond c x y =>
    simp only [okCode, Bool.and_eq_true] at hok
    unfold codeO at h
    simp only at h
    have hv := ha.eval hR.even hok.1.1
    split at h
    · rename_i hc'
      rw [hc'] at hv
      exact wpIn_cond_true hv.bool_eq (hC r x a s act w ι Φ r' m lo Q hok.1.2 h ha hR hdl hrd hlo hQ)
    · rename_i hc'
      rw [hc'] at hv
      exact wpIn_cond_false hv.bool_eq (hC r y a s act w ι Φ r' m lo Q hok.2 h ha hR hdl hrd hlo hQ)
    · exact h.elim
  | block id b =>
    simp only [okCode] at hok
    unfold codeO at h
    simp only at h
    rw [Res.All_bind] at h
    refine wpIn_block (hC r b a s act w ι _ r' m lo _ hok h ha hR hdl hrd hlo ?_)
    intro e a' s' act' w' ι' hΦ har hR' hE hnt hdl'
    cases e with
    | normal => exact hQ .normal _ _ _ _ _ hΦ har hR' hE hnt hdl'
    | ret => exact hQ .ret _ _ _ _ _ hΦ har hR' hE hnt hdl'
    | exit i =>
      simp only at hΦ
      show if i = id then Q .normal act' w' else Q (.exit i) act' w'
      split at hΦ
      · rename_i e; rw [if_pos e]; exact hQ .normal _ _ _ _ _ hΦ har hR' hE hnt hdl'
      · rename_i e; rw [if_neg e]; exact hQ (.exit i) _ _ _ _ _ hΦ har hR' hE hnt hdl'

/-- WHAT D SAYS OF A RUN, THE PROGRAM DOES. -/
theorem all_soundK (hD : DrawnOK P) (hK : OrcOK P K) : ∀ n, CodeOK P (codeO (env P) K n) ∧ LoopOK P (codeO (env P) K n) n ∧ CallOK P (callO (env P) K n) ∧ RoundOK P (roundO (env P) K n)
  | 0 => by
    refine ⟨?_, ?_, ⟨?_, ?_⟩, ?_⟩
    · intro r c a s act w ι Φ r' m lo Q _ h; unfold codeO at h; exact h.elim
    · intro r b a s act w ι Φ r' m lo Q _ h; unfold codeO at h; exact h.elim
    · intro f args s Φ h; unfold callO at h; exact h.elim
    · intro f fn args args' s w ι Φ r m _ _ h; unfold callO at h; exact h.elim
    · intro l args args' s w ι Φ r m h; unfold roundO at h; exact h.elim
  | n + 1 => by
    obtain ⟨h1, h2, h3, h4⟩ := all_soundK hD hK n
    exact ⟨code_stepK hD hK h1 h2 h3 h4, loop_stepK h1 h2, call_stepK hK h1, round_stepK h1⟩
end
end Go.Dust
end
end
section
/- More fuel does no harm: what D answers with some, it answers with more. -/
namespace Go.Dust

/-- The one is the other, where it does not fail. -/
inductive Res.le {α : Type} : Res α → Res α → Prop
  | fail (w : String) (y : Res α) : le (.fail w) y
  | ret (a : α) : le (.ret a) (.ret a)
  | ask (n : Nat) (k k' : Nat → Res α) (h : ∀ i, le (k i) (k' i)) : le (.ask n k) (.ask n k')
namespace Res
variable {α β : Type}
theorem le.refl : ∀ x : Res α, le x x
  | .fail w => .fail w _
  | .ret a => .ret a
  | .ask n k => .ask n k k fun i => le.refl (k i)
theorem le.trans {x y z : Res α} (h : le x y) (k : le y z) : le x z := by
  induction h generalizing z with
  | fail w y => exact .fail w _
  | ret a => exact k
  | ask n k1 k2 h ih =>
    cases k with
    | ask n k2 k3 h' => exact .ask n _ _ fun i => ih i (h' i)
theorem le.bind {x y : Res α} {f g : α → Res β} (h : le x y) (hf : ∀ a, le (f a) (g a)) : le (x.bind f) (y.bind g) := by
  induction h with
  | fail w y => exact .fail w _
  | ret a => exact hf a
  | ask n k k' h ih => exact .ask n _ _ ih
theorem le.all {Φ : α → Prop} {x y : Res α} (h : le x y) (hx : x.All Φ) : y.All Φ := by
  induction h with
  | fail w y => exact hx.elim
  | ret a => exact hx
  | ask n k k' h ih => exact fun i hi => ih i (hx i hi)
end Res
def leC (c c' : CallF) : Prop := ∀ f args s, Res.le (c f args s) (c' f args s)
def leR (r r' : RoundF) : Prop := ∀ l args s, Res.le (r l args s) (r' l args s)
theorem le_if {α : Type} {b : Prop} [Decidable b] {x y x' y' : Res α} (h : Res.le x x') (k : Res.le y y') : Res.le (if b then x else y) (if b then x' else y') := by
  split
  · exact h
  · exact k
section
variable {X : Env} {K : Orc} {c c' : CallF} {r r' : RoundF}
theorem callV_le (hc : leC c c') (hr : leR r r') (s f args) : Res.le (callV X c r s f args) (callV X c' r' s f args) := by
  unfold callV
  split
  · exact hc _ _ _
  · exact hr _ _ _
  · split
    · split
      · exact hc _ _ _
      · exact .refl _
    · exact .refl _
  · exact .refl _
theorem effectA_le (hc : leC c c') (hr : leR r r') (s ρ op) : Res.le (effectA X c r s ρ op) (effectA X c' r' s ρ op) := by
  cases op with
  | call cl =>
    simp only [effectA]
    cases cl.callee with
    | value f => exact callV_le hc hr _ _ _
    | invoke x name =>
      simp only
      split
      · split
        · exact hc _ _ _
        · exact .refl _
      · exact .refl _
    | builtin b => cases b <;> exact .refl _
  | _ => exact .refl _
theorem execA_le (hc : leC c c') (hr : leR r r') (s ρ op) : Res.le (execA X c r s ρ op) (execA X c' r' s ρ op) := by
  unfold execA
  cases kindOf op with
  | effect => exact effectA_le hc hr _ _ _
  | _ => exact .refl _
theorem runOps_le (hc : leC c c') (hr : leR r r') (ops) : ∀ l a s, Res.le (runOps X c r ops l a s) (runOps X c' r' ops l a s)
  | [], _, _ => .refl _
  | o :: l, a, s => by
    rw [runOps, runOps]
    split
    · exact (execA_le hc hr _ _ _).bind fun p => runOps_le hc hr ops l _ _
    · exact runOps_le hc hr ops l _ _
theorem execN_le (hc : leC c c') (hr : leR r r') {nm s ρ op x} (h : execN X c r nm s ρ op = some x) : execN X c' r' nm s ρ op = some x := by
  unfold execN at h ⊢
  cases hk : kindOf op with
  | effect =>
    rw [hk] at h
    simp only at h ⊢
    have hle := effectA_le (X := X) hc hr s ρ op
    revert h hle
    generalize effectA X c r s ρ op = u
    generalize effectA X c' r' s ρ op = w
    intro h hle
    cases hle with
    | fail w y => cases h
    | ret a => exact h
    | ask n k k' hh => cases h
  | _ => rw [hk] at h; exact h
theorem logOps_le (hc : leC c c') (hr : leR r r') (ops base) : ∀ l i a s x, logOps X c r ops base l i a s = some x → logOps X c' r' ops base l i a s = some x
  | [], _, _, _, _, h => h
  | o :: l, i, a, s, x, h => by
    rw [logOps] at h ⊢
    split at h
    · rename_i hw
      rw [if_pos hw]
      cases he : execN X c r (base + 2 * i) s a.eval o.op with
      | none => rw [he] at h; cases h
      | some p =>
        rw [he] at h
        rw [execN_le hc hr he]
        simp only at h ⊢
        cases hl : logOps X c r ops base l (i + 1) (a.put o.dst p.1) p.2 with
        | none => rw [hl] at h; cases h
        | some q =>
          rw [hl] at h
          rw [logOps_le hc hr ops base l _ _ _ _ hl]
          exact h
    · rename_i hw
      rw [if_neg hw]
      cases hl : logOps X c r ops base l (i + 1) (a.put o.dst undef) s with
      | none => rw [hl] at h; cases h
      | some q =>
        rw [hl] at h
        rw [logOps_le hc hr ops base l _ _ _ _ hl]
        exact h
theorem drawnA_le (hc : leC c c') (hr : leR r r') (ops a s) : Res.le (drawnA X c r ops a s) (drawnA X c' r' ops a s) := by
  unfold drawnA
  cases conf ops with
  | none => exact .refl _
  | some cf =>
    simp only
    cases hl : logOps X c r ops s.next ops.toList 0 a { heap := s.heap, next := s.next + 2 * ops.size, clk := s.clk } with
    | none => exact .fail _ _
    | some q =>
      rw [logOps_le hc hr ops _ _ _ _ _ _ hl]
      exact .refl _
end
theorem fuel_le (X : Env) (K : Orc) : ∀ n, (∀ r c a s, Res.le (codeO X K n r c a s) (codeO X K (n + 1) r c a s)) ∧ leC (callO X K n) (callO X K (n + 1)) ∧ leR (roundO X K n) (roundO X K (n + 1)) := by
  intro n
  induction n with
  | zero =>
    refine ⟨fun r c a s => ?_, fun f args s => ?_, fun l args s => ?_⟩
    · rw [codeO]; exact .fail _ _
    · rw [callO]; exact .fail _ _
    · rw [roundO]; exact .fail _ _
  | succ n ih =>
    obtain ⟨ic, ik, ir⟩ := ih
    refine ⟨fun r c a s => ?_, fun f args s => ?_, fun l args s => ?_⟩
    · cases c with
      | region id ops draw =>
        rw [codeO, codeO]
        refine Res.le.bind ?_ fun p => .refl _
        cases draw with
        | false => exact runOps_le ik ir _ _ _ _
        | true => exact drawnA_le ik ir _ _ _
      | seq x y =>
        rw [codeO, codeO]
        refine (ic _ _ _ _).bind fun p => ?_
        rcases p with ⟨e, a, s⟩
        cases e with
        | normal => exact ic _ _ _ _
        | _ => exact .refl _
      | cond cnd x y =>
        rw [codeO, codeO]
        cases a.eval cnd with
        | bool b => cases b <;> exact ic _ _ _ _
        | _ => exact .refl _
      | block id b =>
        rw [codeO, codeO]
        exact (ic _ _ _ _).bind fun p => .refl _
      | loop b =>
        rw [codeO, codeO]
        refine (ic _ _ _ _).bind fun p => ?_
        rcases p with ⟨e, a, s⟩
        cases e with
        | normal => exact ic _ _ _ _
        | _ => exact .refl _
      | rangeFunc g ps as0 bd =>
        rw [codeO, codeO]
        cases a.eval g with
        | func fn first captured =>
          cases fn with
          | func f =>
            simp only
            exact le_if ((ik _ _ _).bind fun p => .refl _) (.refl _)
          | _ => exact .refl _
        | _ => exact .refl _
      | _ => rw [codeO, codeO]; exact .refl _
    · rw [callO, callO]
      cases K f args s with
      | some r => exact .refl _
      | none =>
      cases X.fn f with
      | none => exact .refl _
      | some fn =>
        simp only
        cases fn.body with
        | none => exact .refl _
        | some c => exact le_if ((ic _ _ _ _).bind fun p => .refl _) (.refl _)
    · rw [roundO, roundO]
      cases s.heap.get l with
      | none => exact .refl _
      | some o =>
        cases o with
        | loop st pend t nt ps as0 bd v =>
          cases st with
          | ready =>
            simp only
            refine le_if ((ic _ _ _ _).bind fun p => ?_) (.refl _)
            rcases p with ⟨e, a, s⟩
            cases e with
            | normal =>
              simp only
              cases s.heap.get l with
              | none => exact .refl _
              | some o =>
                cases o with
                | loop st pend t nt ps as0 bd v =>
                  cases st with
                  | ready => exact (ic _ _ _ _).bind fun p => .refl _
                  | _ => exact .refl _
                | _ => exact .refl _
            | _ => exact .refl _
          | _ => exact .refl _
        | _ => exact .refl _
theorem callO_up {X : Env} {K : Orc} {n m : Nat} (h : n ≤ m) : leC (callO X K n) (callO X K m) := by
  induction h with
  | refl => exact fun _ _ _ => .refl _
  | step _ ih => exact fun f args s => Res.le.trans (ih f args s) ((fuel_le X K _).2.1 f args s)
theorem roundO_up {X : Env} {K : Orc} {n m : Nat} (h : n ≤ m) : leR (roundO X K n) (roundO X K m) := by
  induction h with
  | refl => exact fun _ _ _ => .refl _
  | step _ ih => exact fun f args s => Res.le.trans (ih f args s) ((fuel_le X K _).2.2 f args s)
end Go.Dust
end
