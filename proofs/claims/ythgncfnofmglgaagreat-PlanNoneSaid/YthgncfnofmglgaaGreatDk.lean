/- Effects inside a walk; every operation. -/
import Derived.Test.YthgncfnofmglgaaGreatDj
namespace Go.Dust
variable {P : Program} {ι : Inj} {s s' : St} {w : World}

theorem ERs.filter {p : MapEntry → Bool} (hp : ∀ e e' : MapEntry, e.born = e'.born → p e = p e') {l l' : List MapEntry} (h : ERs ι l l') : ERs ι (l.filter p) (l'.filter p) := by
  induction h with
  | nil => exact .nil
  | @cons e e' l l' hx t ih =>
    simp only [List.filter_cons]
    rw [← hp e e' hx.born]
    cases p e
    · exact ih
    · exact .cons hx ih
theorem ERs.all {p : MapEntry → Bool} (hp : ∀ e e' : MapEntry, e.born = e'.born → p e = p e') {l l' : List MapEntry} (h : ERs ι l l') : l.all p = l'.all p := by
  induction h with
  | nil => rfl
  | @cons e e' l l' hx t ih => simp only [List.all_cons]; rw [hp e e' hx.born, ih]

/-- The candidates of a step over a map, as the model has them. -/
def candsC (es : Array MapEntry) (since : Nat) (seen : Array Nat) : Array (Option MapEntry) :=
  (if ((es.filter fun e => !seen.contains e.born).filter (·.born < since)).isEmpty then #[none] else #[]) ++
    (((es.filter fun e => !seen.contains e.born).filter (·.born < since)) ++ ((es.filter fun e => !seen.contains e.born).filter (·.born ≥ since))).map some
inductive ORs (ι : Inj) : List (Option MapEntry) → List (Option MapEntry) → Prop
  | nil : ORs ι [] []
  | none {l l' : List (Option MapEntry)} (t : ORs ι l l') : ORs ι (none :: l) (none :: l')
  | some {e e' : MapEntry} {l l' : List (Option MapEntry)} (h : ER ι e e') (t : ORs ι l l') : ORs ι (some e :: l) (some e' :: l')
theorem ORs.length {l l' : List (Option MapEntry)} (h : ORs ι l l') : l.length = l'.length := by induction h <;> simp [*]
theorem ORs.map {l l' : List MapEntry} (h : ERs ι l l') : ORs ι (l.map Option.some) (l'.map Option.some) := by
  induction h with
  | nil => exact .nil
  | cons hx _ ih => exact .some hx ih
theorem ORs.get {l l' : List (Option MapEntry)} (h : ORs ι l l') (i : Nat) : (l[i]? = Option.none ∧ l'[i]? = Option.none) ∨ (l[i]? = Option.some Option.none ∧ l'[i]? = Option.some Option.none) ∨
    (∃ e e', l[i]? = Option.some (Option.some e) ∧ l'[i]? = Option.some (Option.some e') ∧ ER ι e e') := by
  induction h generalizing i with
  | nil => exact .inl ⟨by simp, by simp⟩
  | none t ih =>
    cases i with
    | zero => exact .inr (.inl ⟨by simp, by simp⟩)
    | succ i => simpa using ih i
  | some hx t ih =>
    cases i with
    | zero => exact .inr (.inr ⟨_, _, by simp, by simp, hx⟩)
    | succ i => simpa using ih i
theorem cands_rel {es : List MapEntry} {es' : Array MapEntry} (h : ERs ι es es'.toList) (since : Nat) (seen : List Nat) :
    ORs ι (candsA es since seen) (candsC es' since seen.reverse.toArray).toList := by
  have h1 : ERs ι (es.filter fun e => !seen.contains e.born) (es'.toList.filter fun e => !seen.reverse.toArray.contains e.born) := by
    have hc : (fun e : MapEntry => !seen.reverse.toArray.contains e.born) = fun e => !seen.contains e.born := by
      funext e
      simp
    rw [hc]
    exact h.filter fun e e' hb => by rw [hb]
  have h2 := h1.filter (p := fun e => decide (e.born < since)) fun e e' hb => by rw [hb]
  have h3 := h1.filter (p := fun e => decide (e.born ≥ since)) fun e e' hb => by rw [hb]
  unfold candsA candsC
  simp only [Array.toList_append, Array.toList_map, Array.toList_filter]
  have hemp : (List.filter (fun e => decide (e.born < since)) (List.filter (fun e => !seen.contains e.born) es)).isEmpty =
      ((es'.filter fun e => !seen.reverse.toArray.contains e.born).filter (·.born < since)).isEmpty := by
    have := h2.length
    rw [Bool.eq_iff_iff]
    simp only [List.isEmpty_iff, Array.isEmpty_iff]
    rw [← List.length_eq_zero_iff, this]
    rw [← Array.size_eq_zero_iff, ← Array.length_toList]
    simp
  rw [hemp]
  have happ : ORs ι (List.map Option.some (List.filter (fun e => decide (e.born < since)) (List.filter (fun e => !seen.contains e.born) es) ++ List.filter (fun e => decide (e.born ≥ since)) (List.filter (fun e => !seen.contains e.born) es)))
      (List.map Option.some (List.filter (fun e => decide (e.born < since)) (List.filter (fun e => !seen.reverse.toArray.contains e.born) es'.toList) ++ List.filter (fun e => decide (e.born ≥ since)) (List.filter (fun e => !seen.reverse.toArray.contains e.born) es'.toList))) :=
    ORs.map (h2.append h3)
  split
  · exact .none happ
  · exact happ

theorem next_sound (hR : RS P ι s w) {it it' : Value} (hit : VR ι it it') {str : Bool} {Φ : Value × St → Prop} (h : (nextA s it str).All Φ) (ty : TypeId) :
    ∃ v u s' ι' w', (Instr.next it' str ty).run P w = .ok u w' ∧ Φ (v, s') ∧ VR ι' v u ∧ RS P ι' s' w' ∧ ES ι s w ι' s' w' := by
  unfold nextA at h
  split at h
  · rename_i a
    obtain ⟨ab, ao, l, rfl, hl, rfl⟩ := ptr_inv hit
    split at h
    · rename_i h0
      cases (show ao = 0 from h0.1)
      have hfalse : VR ι (.tuple #[.bool false]) (.tuple #[.bool false]) := .tuple' (.cons (.bool false) .nil)
      split at h
      · -- over a string
        rename_i st pos ver hH
        obtain ⟨l', g1, g2, g3, g4, g5⟩ := hR.obj _ _ (show s.look ab = _ from hH) rfl
        rw [hl] at g1; cases g1
        cases str with
        | false => exact h.elim
        | true =>
          simp only [if_true] at h
          have hxx : (⟨l.blk, l.off + 0, none⟩ : Addr) = ⟨l.blk, 0, none⟩ := by rw [g3]
          have hg : (getObj l.blk).run P w = .ok (.stringIter st pos) w := by simp [getObj, Sem.run, g5]
          split at h
          · rename_i hp
            obtain ⟨q1, q2⟩ := hR.put (f := fun v => .siter st (pos + (Utf8.decode st pos).2) v) hH rfl hl g2 (.stringIter st (pos + (Utf8.decode st pos).2)) ⟨g2, g3, g4, heap_setBlk_same (lt_of_heap g5)⟩
            refine ⟨_, .tuple #[.bool true, goInt pos, .int .i32 (Utf8.decode st pos).1], _, ι, _, ?_, h, .tuple' (.cons (.bool _) (.cons (.int _ _) (.cons (.int _ _) .nil))), q1, q2⟩
            rw [hxx]
            have hs : (setObj l.blk (.stringIter st (pos + (Utf8.decode st pos).2))).run P w = .ok () (World.setBlk w l.blk (.stringIter st (pos + (Utf8.decode st pos).2))) := by
              simp [setObj, Sem.run, g5, World.setBlk]
            simp only [Instr.next, Sem.run_bind, hg, Result.andThen_ok, hp, if_true, hs, Sem.run_pure]
          · rename_i hp
            refine ⟨_, _, _, ι, w, ?_, h, hfalse, hR, Ext.refl⟩
            rw [hxx]
            simp only [Instr.next, Sem.run_bind, hg, Result.andThen_ok, hp, if_false, Sem.run_pure]
      · -- over a nil map
        rename_i a1 a2 a3 a4 hH
        obtain ⟨l', g1, g2, g3, g4, b1, b2, b3, g5⟩ := hR.obj _ _ (show s.look ab = _ from hH) rfl
        rw [hl] at g1; cases g1
        cases str with
        | true => exact h.elim
        | false =>
          simp only [Bool.false_eq_true, if_false] at h
          have hxx : (⟨l.blk, l.off + 0, none⟩ : Addr) = ⟨l.blk, 0, none⟩ := by rw [g3]
          have hg : (getObj l.blk).run P w = .ok (.mapIter none b1 b2 b3) w := by simp [getObj, Sem.run, g5]
          refine ⟨_, _, _, ι, w, ?_, h, hfalse, hR, Ext.refl⟩
          rw [hxx]
          simp only [Instr.next, Sem.run_bind, hg, Result.andThen_ok, Sem.run_pure]
      · -- over a map
        rename_i m since seen last ver hH
        obtain ⟨l', g1, g2, g3, g4, lm, g5, g6⟩ := hR.obj _ _ (show s.look ab = _ from hH) rfl
        rw [hl] at g1; cases g1
        cases str with
        | true => exact h.elim
        | false =>
          simp only [Bool.false_eq_true, if_false] at h
          split at h
          · rename_i es clock hm
            obtain ⟨lm', es', q1, q2, q3, q4, q5, q6⟩ := mapOf_sound hR hm
            rw [g5] at q1; cases q1
            split at h
            · exact h.elim
            · rename_i hstale
              have hxx : (⟨l.blk, l.off + 0, none⟩ : Addr) = ⟨l.blk, 0, none⟩ := by rw [g3]
              have hg : (getObj l.blk).run P w = .ok (.mapIter (some lm.blk) since seen.reverse.toArray last) w := by simp [getObj, Sem.run, g6]
              have hrel := cands_rel q6 since seen
              have hcl : (candsC es' since seen.reverse.toArray).size = (candsA es since seen).length := by rw [hrel.length]; simp
              have hst : (!seen.reverse.toArray.isEmpty && !es'.isEmpty && es'.all (·.born ≥ last)) = false := by
                have e1 : seen.reverse.toArray.isEmpty = seen.isEmpty := by
                  rw [Bool.eq_iff_iff]; simp
                have e2 : es'.isEmpty = es.isEmpty := by
                  have := q6.length
                  rw [Bool.eq_iff_iff]
                  simp only [List.isEmpty_iff, Array.isEmpty_iff]
                  rw [← List.length_eq_zero_iff, this, ← Array.size_eq_zero_iff, ← Array.length_toList]
                have e3 : es'.all (·.born ≥ last) = es.all (fun e => decide (e.born ≥ last)) := by
                  rw [← Array.all_toList]
                  exact (q6.all fun e e' hb => by rw [hb]).symm
                rw [e1, e2, e3]
                simpa using hstale
              -- one pick
              have hpick : ∀ (i : Nat) (w1 : World), w1.heap = w.heap → w1.tape = w.tape → w1.os = w.os → w1.output = w.output →
                  (choose (.mapNext (candsC es' since seen.reverse.toArray).size)).run P w = .ok i w1 → (pickA s ab m since seen clock (candsA es since seen) i).All Φ →
                  ∃ v u s' ι' w', (Instr.next (.pointer (some ⟨l.blk, 0, none⟩)) false ty).run P w = .ok u w' ∧ Φ (v, s') ∧ VR ι' v u ∧ RS P ι' s' w' ∧ ES ι s w ι' s' w' := by
                intro i w1 k1 k2 k3 k4 hch hp
                have hR1 : RS P ι s w1 := hR.drew k1
                have hnext : (Instr.next (.pointer (some ⟨l.blk, 0, none⟩)) false ty).run P w =
                    (match (candsC es' since seen.reverse.toArray)[i]? with
                      | some (some e) => do
                        setObj l.blk (.mapIter (some lm.blk) since (seen.reverse.toArray.push e.born) clock)
                        pure (.tuple #[.bool true, e.key, e.val])
                      | some none => pure (.tuple #[.bool false])
                      | none => stuck "Next: no such candidate" : Sem Value).run P w1 := by
                  unfold candsC at hch ⊢
                  simp only [Instr.next, Sem.run_bind, hg, Result.andThen_ok, run_getMap q5]
                  rw [if_neg (by rw [hst]; simp)]
                  simp only [Sem.run_bind, hch, Result.andThen_ok]
                  rfl
                rw [hnext]
                unfold pickA at hp
                rcases hrel.get i with ⟨c1, c2⟩ | ⟨c1, c2⟩ | ⟨e, e', c1, c2, c3⟩
                · rw [c1] at hp; exact hp.elim
                · rw [c1] at hp
                  rw [← Array.getElem?_toList, c2]
                  exact ⟨_, _, _, ι, w1, rfl, hp, hfalse, hR1, Ext.drew Ext.refl k1 k2 k3 k4⟩
                · rw [c1] at hp
                  rw [← Array.getElem?_toList, c2]
                  have g6' : w1.heap[l.blk]? = some (.mapIter (some lm.blk) since seen.reverse.toArray last) := by rw [k1]; exact g6
                  obtain ⟨r1, r2⟩ := hR1.put (f := fun v => .miter (some m) since (e.born :: seen) clock v) hH rfl hl g2 (.mapIter (some lm.blk) since (seen.reverse.toArray.push e'.born) clock)
                    ⟨g2, g3, g4, lm, g5, by
                      rw [heap_setBlk_same (lt_of_heap g6')]
                      have : seen.reverse.toArray.push e'.born = (e.born :: seen).reverse.toArray := by rw [c3.born]; simp
                      rw [this]⟩
                  refine ⟨_, .tuple #[.bool true, e'.key, e'.val], _, ι, _, ?_, hp, .tuple' (.cons (.bool _) (.cons c3.key (.cons c3.val .nil))), r1, Ext.drew r2 k1 k2 k3 k4⟩
                  have hs : (setObj l.blk (.mapIter (some lm.blk) since (seen.reverse.toArray.push e'.born) clock)).run P w1 = .ok () (World.setBlk w1 l.blk (.mapIter (some lm.blk) since (seen.reverse.toArray.push e'.born) clock)) := by
                    simp [setObj, Sem.run, g6', World.setBlk]
                  simp only [Sem.run_bind, hs, Result.andThen_ok, Sem.run_pure]
              rw [hxx]
              split at h
              · rename_i hle
                have hch : (choose (.mapNext (candsC es' since seen.reverse.toArray).size)).run P w = .ok 0 w := by
                  simp [choose, Sem.run, Question.forced, hcl, hle]
                exact hpick 0 w rfl rfl rfl rfl hch h
              · rename_i hle
                have hlt : w.tape w.drawn (.mapNext (candsC es' since seen.reverse.toArray).size) % (candsC es' since seen.reverse.toArray).size < (candsA es since seen).length := by
                  rw [hcl]; exact Nat.mod_lt _ (by omega)
                have hch : (choose (.mapNext (candsC es' since seen.reverse.toArray).size)).run P w =
                    .ok (w.tape w.drawn (.mapNext (candsC es' since seen.reverse.toArray).size) % (candsC es' since seen.reverse.toArray).size) { w with drawn := w.drawn + 1 } := by
                  simp [choose, Sem.run, Question.forced, Question.cut, hcl, hle]
                exact hpick _ { w with drawn := w.drawn + 1 } rfl rfl rfl rfl hch (h _ hlt)
          · exact h.elim
      · exact h.elim
    · exact h.elim
  · exact h.elim
section
variable {r : Option Nat} {m : Nat} {o : Oper} {act : Act} {K : Act → World → Prop} {Q : Exit → Act → World → Prop} {call : CallF} {round : RoundF} {Φ : Value × St → Prop}

/-- The walk goes on from whatever an operation comes to. -/
abbrev Onward (P : Program) (ι : Inj) (s : St) (w : World) (Φ : Value × St → Prop) (o : Oper) (act : Act) (K : Act → World → Prop) : Prop :=
  ∀ v u s' ι' w', Φ (v, s') → VR ι' v u → RS P ι' s' w' → ES ι s w ι' s' w' → K (act.put o.dst u) w'

theorem call_sound (hc : CallOK P call) (hR : RS P ι s w) {f : FuncId} {args : List Value} {args' : Array Value} (ha : VRs ι args args'.toList) (h : (call f args s).All Φ) (hd : ∀ c, o.op ≠ .defer c)
    (hrun : (execOp act.eval o).run P w = (callFunc f args').run P w) (hk : Onward P ι s w Φ o act K) : o.wpIn (FW r) m P act w K Q := by
  obtain ⟨fn, h1, h2⟩ := hc.fn f args s Φ h
  cases hb : fn.body with
  | none =>
    obtain ⟨v, u, s', ι', w', g1, g2, g3, g4, g5⟩ := extern_sound hR h1 hb ha (h2 hb)
    exact wpIn_value hd (hrun.trans g1) (hk v u s' ι' w' g2 g3 g4 g5)
  | some c =>
    refine wpIn_enter hd (hrun.trans (run_callFunc h1 (by simp [hb]) args')) ((hc.calls f fn args args' s w ι Φ r (m - 1) h1 (by simp [hb]) h ha hR).mono ?_)
    rintro e w'' ⟨v, u, s', ι', rfl, g2, g3, g4, g5⟩
    exact hk v u s' ι' w'' g2 g3 g4 g5

theorem callV_sound (hc : CallOK P call) (hr : RoundOK P round) (hR : RS P ι s w) {f f' : Value} (hf : VR ι f f') {args : List Value} {args' : Array Value} (ha : VRs ι args args'.toList)
    (h : (callV (env P) call round s f args).All Φ) (hd : ∀ c, o.op ≠ .defer c)
    (hrun : (execOp act.eval o).run P w = (do let d ← Deferred.ofValue f' args'; invoke d.target d.args : Sem Next).run P w) (hk : Onward P ι s w Φ o act K) : o.wpIn (FW r) m P act w K Q := by
  unfold callV at h
  split at h
  · rename_i fid first captured
    obtain ⟨a', c', rfl, h1, h2⟩ := hf.func_inv
    refine call_sound hc hR (args' := a' ++ args' ++ c') ?_ h hd ?_ hk
    · simpa using (h1.append ha).append h2
    · rw [hrun]; rfl
  · rename_i l first captured
    cases hf with
    | yield hl =>
    obtain ⟨loc, rec, g1, g2, g3, g4⟩ := hr l _ args' s w ι Φ r (m - 1) h (by simpa using ha) hR
    rw [hl] at g1; cases g1
    refine wpIn_round hd (hrun.trans ?_) (g4.mono ?_)
    · simp only [Deferred.ofValue, Sem.run_bind, Sem.run_pure, Result.andThen_ok, invoke, Instr.yield, run_getLoop g2]
      have hz : (#[] ++ args').size = rec.params.size := by simpa using g3
      rw [if_neg (by simpa using hz)]
      simp
    · rintro e w'' ⟨v, u, s', ι', rfl, k2, k3, k4, k5⟩
      exact hk v u s' ι' w'' k2 k3 k4 k5
  · rename_i name first captured
    obtain ⟨a', c', rfl, h1, h2⟩ := hf.meth_inv
    split at h
    · rename_i t v rest hfa
      split at h
      · rename_i fid x hm
        have hall := h1.append ha
        rw [hfa] at hall
        generalize hl' : a'.toList ++ args'.toList = l' at hall
        cases hall with
        | cons hv hrest =>
        cases hv with
        | @iface _ v0 v1 hv =>
        rename_i rest'
        obtain ⟨x', k1, k2⟩ := method_sound (P := P) (w := w) hv hm (P.types.size + 99)
        refine call_sound hc hR (args' := (x' :: rest').toArray) (.cons k2 hrest) h hd ?_ hk
        rw [hrun]
        have hcat : (a' ++ args') = (Value.iface t v1 :: rest').toArray := by
          apply Array.toList_inj.1; simpa using hl'
        have hex : ((Value.iface t v1 :: rest').toArray).extract 1 ((Value.iface t v1 :: rest').toArray).size = rest'.toArray := by
          apply Array.toList_inj.1; simp
        simp only [Deferred.ofValue, Sem.run_bind, Sem.run_pure, Result.andThen_ok, invoke, hcat, hex]
        simp only [List.getElem?_toArray, List.getElem?_cons_zero, callMethod, Sem.run_bind, run_program, Result.andThen_ok]
        rw [show P.types.size + Made.depth = P.types.size + 99 + 1 from rfl, k1]
        simp only [Result.andThen_ok]
        congr 2
        apply Array.toList_inj.1; simp
      · exact h.elim
    · exact h.elim
  · exact h.elim

theorem effect_sound (hc : CallOK P call) (hr : RoundOK P round) (hR : RS P ι s w) {ρ : Operand → Value} (hρ : ∀ x ∈ o.op.operands.toList, VR ι (ρ x) (act.eval x)) (hd : ∀ c, o.op ≠ .defer c)
    (h : (effectA (env P) call round s ρ o.op).All Φ) (hk : Onward P ι s w Φ o act K) : o.wpIn (FW r) m P act w K Q := by
  have lift : ∀ (sem : Sem Value) (x : Option (Value × St)) (why : String), (execOp act.eval o = (do pure (.value (← sem)) : Sem Next)) → (Res.ofOption why x).All Φ →
      (∀ v s', x = some (v, s') → Does P ι s w sem v s') → o.wpIn (FW r) m P act w K Q := by
    intro sem x why he hx hdo
    cases x with
    | none => exact hx.elim
    | some p =>
      obtain ⟨u, ι', w', g1, g2, g3, g4⟩ := hdo p.1 p.2 rfl
      exact wpIn_value hd (by rw [he]; simp [g1]) (hk p.1 u p.2 ι' w' hx g2 g3 g4)
  unfold effectA at h
  cases hop : o.op <;> rw [hop] at h hρ <;> simp only at h <;> simp only [Op.operands] at hρ
  case store t a x =>
    have hv := hρ x (by simp)
    have hp := hρ a (by simp)
    split at h
    · rename_i ad ha
      rw [ha] at hp
      split at h
      · rename_i s1 hst
        obtain ⟨w', g1, g2, g3⟩ := storeT_sound hR hp hv hst
        refine wpIn_skipOp hd ?_ (hk undef undef s1 ι w' h (VR.undef ι) g2 g3)
        unfold execOp
        rw [hop]
        simp [g1]
      · exact h.elim
    · exact h.elim
  case mapUpdate t mm k x =>
    split at h
    · rename_i s1 hst
      obtain ⟨w', g1, g2, g3⟩ := mapPut_sound hR (hρ mm (by simp)) (hρ k (by simp)) (hρ x (by simp)) hst
      refine wpIn_skipOp hd ?_ (hk undef undef s1 ι w' h (VR.undef ι) g2 g3)
      unfold execOp
      rw [hop]
      simp [g1]
    · exact h.elim
  case insert t mm k x =>
    split at h
    · rename_i s1 hst
      obtain ⟨w', g1, g2, g3⟩ := mapPut_sound hR (hρ mm (by simp)) (hρ k (by simp)) (hρ x (by simp)) hst
      refine wpIn_skipOp hd ?_ (hk undef undef s1 ι w' h (VR.undef ι) g2 g3)
      unfold execOp
      rw [hop]
      simp [g1]
    · exact h.elim
  case range t x =>
    have hv := hρ x (by simp)
    have hex : ∀ (sem : Sem Value), sem = Instr.range t (act.eval x) → execOp act.eval o = (do pure (.value (← sem)) : Sem Next) := by
      intro sem hs; subst hs; unfold execOp; rw [hop]
    have hfree := hR.free
    cases ht : (env P).ty t with
    | none => rw [ht] at h; exact h.elim
    | some i =>
      rw [ht] at h
      simp only at h
      generalize ρ x = y at hv h
      generalize hu : act.eval x = u at hv hex
      split at h
      · rename_i str hdesc
        rw [hv.string_eq] at hex
        obtain ⟨ι', q1, q2, q3⟩ := iter_new hR (.stringIter str 0) (fun v => .siter str 0 v) ⟨rfl, rfl, rfl, heap_alloc_new⟩
        refine wpIn_value hd ?_ (hk _ _ _ ι' _ h q1 q2 q3)
        rw [hex _ rfl]
        simp only [Instr.range, Sem.run_bind, run_underlyingA ht, hdesc, Sem.run_pure, Result.andThen_ok, run_newObj]
        rfl
      · rename_i hdesc
        rw [nilmap_inv hv] at hex
        obtain ⟨ι', q1, q2, q3⟩ := iter_new hR (.mapIter none 0 #[] 0) (fun v => .miter none 0 [] 0 v) ⟨rfl, rfl, rfl, _, _, _, heap_alloc_new⟩
        refine wpIn_value hd ?_ (hk _ _ _ ι' _ h q1 q2 q3)
        rw [hex _ rfl]
        simp only [Instr.range, Sem.run_bind, run_underlyingA ht, hdesc, Sem.run_pure, Result.andThen_ok, run_newObj]
        rfl
      · rename_i mm hdesc
        obtain ⟨l, hl, he⟩ := map_inv hv
        rw [he] at hex
        split at h
        · rename_i es clock hm
          obtain ⟨l', es', p1, p2, p3, p4, p5, p6⟩ := mapOf_sound hR hm
          rw [hl] at p1; cases p1
          obtain ⟨ι', q1, q2, q3⟩ := iter_new hR (.mapIter (some l.blk) clock #[] clock) (fun v => .miter (some mm) clock [] clock v) ⟨rfl, rfl, rfl, l, Inj.le_add hfree _ _ hl, heap_alloc_new⟩
          refine wpIn_value hd ?_ (hk _ _ _ ι' _ h q1 q2 q3)
          rw [hex _ rfl]
          simp only [Instr.range, Sem.run_bind, run_underlyingA ht, hdesc, run_getMap p5, Sem.run_pure, Result.andThen_ok, run_newObj]
          rfl
        · exact h.elim
      · exact h.elim
  case next it str =>
    obtain ⟨v, u, s', ι', w', g1, g2, g3, g4, g5⟩ := next_sound hR (hρ it (by simp)) h o.type
    refine wpIn_value hd ?_ (hk v u s' ι' w' g2 g3 g4 g5)
    unfold execOp
    rw [hop]
    simp [g1]
  case call c =>
    obtain ⟨callee, args, argTypes⟩ := c
    have hargs : VRs ι (args.toList.map ρ) (args.map act.eval).toList := by
      rw [Array.toList_map]
      exact .map₂ _ fun x hx => hρ x (by simp [Call.operands]; exact .inr (by simpa using hx))
    have hb : ∀ b, callee = .builtin b → execOp act.eval o = (builtin b argTypes o.type (args.map fun | .const _ => true | _ => false) (args.map act.eval)) := by
      intro b hb
      subst hb
      unfold execOp
      rw [hop]
      rfl
    cases callee with
    | value f =>
      refine callV_sound hc hr hR (hρ f (by simp [Call.operands])) hargs h hd ?_ hk
      unfold execOp
      rw [hop]
      rfl
    | invoke x name =>
      have hv := hρ x (by simp [Call.operands])
      dsimp only at h
      split at h
      · rename_i t v hx
        rw [hx] at hv
        split at h
        · rename_i fid rv hm
          generalize hu : act.eval x = u at hv
          cases hv with
          | @iface _ v0 v1 hv =>
          obtain ⟨x', k1, k2⟩ := method_sound (P := P) (w := w) hv hm (P.types.size + 99)
          refine call_sound hc hR (args' := #[x'] ++ args.map act.eval) (by simpa using VRs.cons k2 hargs) h hd ?_ hk
          have he : execOp act.eval o = callMethod (.iface t v1) name (args.map act.eval) := by
            unfold execOp
            rw [hop]
            have : (resolve act.eval { callee := .invoke x name, args, argTypes } o.type) = pure { target := .fn (.method name) #[], args := #[.iface t v1] ++ args.map act.eval } := by
              simp [resolve, hu]
            simp only [this]
            have hex : (#[Value.iface t v1] ++ args.map act.eval).extract 1 (#[Value.iface t v1] ++ args.map act.eval).size = args.map act.eval := by
              apply Array.toList_inj.1
              simp only [Array.toList_extract, Array.toList_append, List.extract_eq_take_drop]
              simp
              exact List.take_of_length_le (by simp)
            show invoke (.fn (.method name) #[]) (#[Value.iface t v1] ++ args.map act.eval) = _
            unfold invoke
            have h0 : (#[Value.iface t v1] ++ args.map act.eval)[0]? = some (Value.iface t v1) := by
              rw [← Array.getElem?_toList, Array.toList_append]; rfl
            simp only [h0, hex]
          rw [he]
          unfold callMethod
          simp only [Sem.run_bind, run_program, Result.andThen_ok]
          rw [show P.types.size + Made.depth = P.types.size + 99 + 1 from rfl, k1]
          rfl
        · exact h.elim
      · exact h.elim
    | builtin b =>
      cases b <;> dsimp only at h <;> first
        | exact lift _ _ _ (hb _ rfl) h fun v s' hx => append_sound hR hargs hx
        | exact lift _ _ _ (hb _ rfl) h fun v s' hx => copy_sound hR hargs hx
        | exact lift _ _ _ (hb _ rfl) h fun v s' hx => clear_sound hR hargs hx
        | exact lift _ _ _ (hb _ rfl) h fun v s' hx => delete_sound hR hargs hx
        | exact False.elim h
  all_goals exact h.elim
end
end Go.Dust
