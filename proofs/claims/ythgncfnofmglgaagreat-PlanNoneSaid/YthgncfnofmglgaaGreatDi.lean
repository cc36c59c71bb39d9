/- Operations that change memory: appends as they stand in the text, copies, maps, iterators. -/
import Derived.Test.YthgncfnofmglgaaGreatDh
namespace Go.Dust
variable {P : Program} {ι : Inj} {s s' : St} {w : World}

theorem RS.drew (hR : RS P ι s w) {w' : World} (h : w'.heap = w.heap) : RS P ι s w' := R.drew hR h

theorem lenA_run {x x' : Value} (hx : VR ι x x') {n : Nat} (h : lenA x = some n) (w1 : World) : (Builtin.lenOf x').run P w1 = .ok n w1 := len_run hx h

theorem first_any (hR : RS P ι s w) {size n : Nat} {x x' : Value} (hx : VR ι x x') {l : List Value} (h : firstA s.look size n x = some l) (hn : ∀ a c d, x = .slice a c d → n ≤ c) :
    ∃ l' : Array Value, VRs ι l l'.toList ∧ ∀ w1 : World, w1.heap = w.heap → (Builtin.firstCells size n x').run P w1 = .ok l' w1 := by
  obtain ⟨l', g1, g2⟩ := first_sound (P := P) hR hx h hn
  refine ⟨l', g2, fun w1 hw1 => ?_⟩
  obtain ⟨l'', k1, k2⟩ := first_sound (P := P) (hR.drew hw1) hx h hn
  -- what is read hangs on the memory alone
  have : l'' = l' := by
    unfold firstA at h
    split at h
    · rename_i a c d
      split at h
      · rename_i h0
        cases hx <;> simp [Builtin.firstCells, h0, loadCells, loadCellsFrom] at g1 k1 <;> rw [g1, k1]
      · rename_i h0
        have hc : 0 < c := by
          have := hn _ _ _ rfl
          by_cases hz : n = 0
          · subst hz; simp at h0
          · omega
        cases hx with
        | @slice b0 o0 l0 _ _ hl =>
          unfold loadN at h
          simp only at h
          split at h
          · rename_i cc z m e room ro ver hs hb
            obtain ⟨l1, arr, e', fz, p1, p2, _, _, _, _, p6, p7⟩ := cells_of hR (show s.look _ = _ from hb)
            rw [hl] at p1; cases p1
            obtain ⟨q1, _, _⟩ := readCells_get p7 _ _ _ h
            have r1 := run_loadCells (P := P) (w := w) (k := n * size) (o := l0.off + o0) p2 (by omega)
            have r2 := run_loadCells (P := P) (w := w1) (k := n * size) (o := l0.off + o0) (by rw [hw1]; exact p2) (by omega)
            simp only [Builtin.firstCells] at g1 k1
            rw [r1] at g1
            rw [r2] at k1
            cases g1; cases k1; rfl
          · cases h
        | slice0 hl => omega
    · rw [nilslice_inv hx] at g1 k1
      cases g1; cases k1; rfl
    · rw [hx.string_eq] at g1 k1
      cases g1; cases k1; rfl
    · cases h
  rw [← this]; exact k1

theorem append_sound (hR : RS P ι s w) {argTypes : Array TypeId} {ty : TypeId} {args : List Value} {args' : Array Value} (ha : VRs ι args args'.toList) {v : Value}
    (h : appendA (env P) s argTypes args = some (v, s')) : Does P ι s w (Builtin.append_ argTypes ty args') v s' := by
  unfold appendA at h
  split at h
  · rename_i t t2 base sLen sCap x hat
    generalize hl : args'.toList = l' at ha
    cases ha with
    | cons hs ha =>
    cases ha with
    | cons hx ha =>
    cases ha with
    | nil =>
    rename_i u x'
    split at h
    · rename_i e sz by_ ze ag me cm i2 ht ht2
      split at h
      · rename_i d z esz eb ea em ec n he hn
        split at h
        · cases h
        · rename_i new hf
          split at h
          · rename_i hc
            obtain ⟨c1, c2, c3, c4, c5, c6⟩ := hc
            obtain ⟨newU, q1, q2⟩ := first_any hR hx hf (lenA_le hn)
            have hsv : ∃ base' sCap', u = .slice base' sLen sCap' := by
              cases hs <;> exact ⟨_, _, rfl⟩
            obtain ⟨base', sCap', rfl⟩ := hsv
            exact appendB_sound hR hat hl ht rfl ht2 c2 he rfl c3 (fun w1 => lenA_run hx hn w1) hs q1 q2 c1 c4 c5 c6 h
          · cases h
      · cases h
    · cases h
  · cases h

theorem copy_sound (hR : RS P ι s w) {argTypes : Array TypeId} {ty : TypeId} {args : List Value} {args' : Array Value} (ha : VRs ι args args'.toList) {v : Value}
    (h : copyA (env P) s argTypes args = some (v, s')) : Does P ι s w (Builtin.copy_ argTypes ty args') v s' := by
  unfold copyA at h
  split at h
  · rename_i t base dLen dCap x hat
    generalize hl : args'.toList = l' at ha
    cases ha with
    | cons hs ha =>
    cases ha with
    | cons hx ha =>
    cases ha with
    | nil =>
    rename_i u x'
    obtain ⟨b0, b1⟩ : args'[0]? = some u ∧ args'[1]? = some x' := by
      constructor
      · rw [← Array.getElem?_toList, hl]; rfl
      · rw [← Array.getElem?_toList, hl]; rfl
    split at h
    · rename_i e sz by_ ze ag me cm ht
      split at h
      · rename_i ei m he hm
        split at h
        · rename_i cs hf
          obtain ⟨csU, q1, q2⟩ := first_any hR hx hf (fun a c d e => Nat.le_trans (Nat.min_le_left m dLen) (lenA_le hm a c d e))
          have hsv : ∃ base' dCap', u = .slice base' dLen dCap' ∧ (base = none ↔ base' = none) := by
            cases hs <;> exact ⟨_, _, rfl, by simp⟩
          obtain ⟨base', dCap', rfl, hbn⟩ := hsv
          have hrun : (Builtin.copy_ argTypes ty args').run P w = ((match base' with | some a => storeCells a csU.toList | none => pure ()).run P w).andThen fun _ w' => .ok (goInt (Nat.min m dLen : Nat)) w' := by
            unfold Builtin.copy_
            simp only [hat, b0, b1, Sem.run_bind, run_underlyingA ht, Result.andThen_ok, lenA_run hx hm w, run_sizeOfA he, q2 w rfl]
            cases base' <;> simp
          split at h
          · rename_i a
            split at h
            · rename_i hemp
              simp only [Option.some.injEq, Prod.mk.injEq] at h
              obtain ⟨rfl, rfl⟩ := h
              have : cs = [] := by simpa using hemp
              subst this
              have hU := q1.nil_left
              refine ⟨_, ι, w, ?_, .int _ _, hR, Ext.refl⟩
              rw [hrun]
              cases base' with
              | none => rfl
              | some a' => simp [goInt, hU, storeCells]
            · rename_i hemp
              split at h
              · rename_i s1 hst
                simp only [Option.some.injEq, Prod.mk.injEq] at h
                obtain ⟨rfl, rfl⟩ := h
                generalize hb' : Value.slice base' dLen dCap' = u' at hs
                cases hs with
                | slice _ _ hl2 =>
                  cases hb'
                  obtain ⟨w', g1, g2, g3⟩ := storeN_sound hR hl2 q1 hst
                  refine ⟨_, ι, w', ?_, .int _ _, g2, g3⟩
                  rw [hrun]
                  simp only [g1]; rfl
                | slice0 hl2 =>
                  unfold storeN at hst
                  simp at hst
              · cases h
          · simp only [Option.some.injEq, Prod.mk.injEq] at h
            obtain ⟨rfl, rfl⟩ := h
            have : base' = none := hbn.1 rfl
            subst this
            exact ⟨_, ι, w, by rw [hrun]; rfl, .int _ _, hR, Ext.refl⟩
        · cases h
      · cases h
    · cases h
  · cases h

/-! ### Maps -/
theorem sameBits_key {k x : Value} (h : keyEq k x = some true) : Instr.sameBits 10000 x k = true := by
  unfold keyEq at h
  split at h
  · split at h
    · rename_i hk
      subst hk
      simp only [Option.some.injEq, beq_iff_eq] at h
      subst h
      simp [Instr.sameBits]
    · cases h
  · simp only [Option.some.injEq] at h
    simp only [Instr.sameBits]
    rw [beq_toListBytes] at h ⊢
    rw [beq_iff_eq] at h ⊢
    exact h.symm
  · simp only [Option.some.injEq, beq_iff_eq] at h
    subst h
    simp [Instr.sameBits]
  · cases h
theorem ERs.get {l l' : List MapEntry} (h : ERs ι l l') (j : Nat) {e : MapEntry} (he : l[j]? = some e) : ∃ e', l'[j]? = some e' ∧ ER ι e e' := by
  induction h generalizing j with
  | nil => simp at he
  | cons hx t ih =>
    cases j with
    | zero => simp at he; subst he; exact ⟨_, by simp, hx⟩
    | succ j => obtain ⟨e', h1, h2⟩ := ih j (by simpa using he); exact ⟨e', by simpa using h1, h2⟩
theorem ERs.modify {l l' : List MapEntry} (h : ERs ι l l') (j : Nat) {f g : MapEntry → MapEntry} (hfg : ∀ e e', ER ι e e' → ER ι (f e) (g e')) : ERs ι (l.modify j f) (l'.modify j g) := by
  induction h generalizing j with
  | nil => simp; exact .nil
  | cons hx t ih =>
    cases j with
    | zero => simp only [List.modify_zero_cons]; exact .cons (hfg _ _ hx) t
    | succ j => simp only [List.modify_succ_cons]; exact .cons hx (ih j)
theorem ERs.append {a a' b b' : List MapEntry} (h : ERs ι a a') (k : ERs ι b b') : ERs ι (a ++ b) (a' ++ b') := by
  induction h with
  | nil => exact k
  | cons hx _ ih => exact .cons hx ih
theorem ERs.eraseIdx {l l' : List MapEntry} (h : ERs ι l l') (j : Nat) : ERs ι (l.eraseIdx j) (l'.eraseIdx j) := by
  induction h generalizing j with
  | nil => simp; exact .nil
  | cons hx t ih =>
    cases j with
    | zero => simpa using t
    | succ j => simp only [List.eraseIdx_cons_succ]; exact .cons hx (ih j)

theorem map_of (hR : RS P ι s w) {r : Nat} {es : List MapEntry} {c ver : Nat} (h : s.heap.get r = some (.map es c ver)) :
    ∃ l es', ι r = some l ∧ l.ro = false ∧ l.off = 0 ∧ l.extra = 0 ∧ w.heap[l.blk]? = some (.map es' c) ∧ ERs ι es es'.toList := by
  obtain ⟨l, h1, h2, h3, h4, es', h5, h6⟩ := hR.obj r _ (show s.look r = _ from h) rfl
  exact ⟨l, es', h1, h2, h3, h4, h5, h6⟩
theorem run_setMap {b : Nat} {es : Array MapEntry} {c : Nat} (h : w.heap[b]? = some (.map es c)) (o : Obj) : (setObj b o).run P w = .ok () (World.setBlk w b o) := by
  simp [setObj, Sem.run, h, World.setBlk]

theorem mapPut_sound (hR : RS P ι s w) {t : TypeId} {m k v m' k' v' : Value} (hm : VR ι m m') (hk : VR ι k k') (hv : VR ι v v') (h : mapPut (env P) s t m k v = some s') :
    ∃ w', (Instr.mapUpdate t m' k' v').run P w = .ok () w' ∧ RS P ι s' w' ∧ ES ι s w ι s' w' := by
  unfold mapPut at h
  split at h
  · rename_i kt et sz by_ ze ag me cm r ht
    obtain ⟨l, hl, rfl⟩ := map_inv hm
    split at h
    · rename_i hkk
      have hkeq := key_eq hkk hk
      have hkeq' := hkeq.symm
      subst hkeq'
      split at h
      · rename_i es c ver hH
        obtain ⟨l', es', p1, p2, p3, p4, p5, p6⟩ := map_of hR hH
        rw [hl] at p1; cases p1
        have hck := run_checkKey (w := w) hkk false
        split at h
        · rename_i j v0 hf
          simp only [Option.some.injEq] at h; subst h
          obtain ⟨r', g1, v0', g2, g3, e0, g4, g5⟩ := run_findKey (P := P) (w := w) hkk p6 hf
          subst g2
          obtain ⟨e0', q1, q2⟩ := p6.get j g4
          have q1' : es'[j]? = some e0' := by simpa using q1
          have hsb : Instr.sameBits 10000 e0'.key k = true := by
            rw [keyEq_left g5 q2.key]; exact sameBits_key g5
          refine ⟨_, ?_, hR.put hH rfl hl p2 (.map (es'.modify j fun e => { e with key := k, val := v' }) c) ⟨p2, p3, p4, _, heap_setBlk_same (lt_of_heap p5), ?_⟩⟩
          · unfold Instr.mapUpdate
            simp only [Sem.run_bind, run_underlyingA ht, Result.andThen_ok, run_getMap p5, hck, g1, q1', Option.map_some, Option.getD_some, Instr.keyThatStays, hsb, if_true, Sem.run_pure, run_setMap p5]
          · rw [Array.toList_modify]
            exact p6.modify j fun e e' he => ⟨hk, hv, he.born⟩
        · rename_i hf
          simp only [Option.some.injEq] at h; subst h
          obtain ⟨r', g1, g2⟩ := run_findKey (P := P) (w := w) hkk p6 hf
          cases (show r' = none from g2)
          refine ⟨_, ?_, hR.put hH rfl hl p2 (.map (es'.push { key := k, val := v', born := c }) (c + 1)) ⟨p2, p3, p4, _, heap_setBlk_same (lt_of_heap p5), ?_⟩⟩
          · unfold Instr.mapUpdate
            simp only [Sem.run_bind, run_underlyingA ht, Result.andThen_ok, run_getMap p5, hck, g1, run_setMap p5]
          · rw [Array.toList_push]
            exact p6.append (.cons ⟨hk, hv, rfl⟩ .nil)
        · cases h
      · cases h
    · cases h
  · cases h

theorem delete_sound (hR : RS P ι s w) {argTypes : Array TypeId} {ty : TypeId} {args : List Value} {args' : Array Value} (ha : VRs ι args args'.toList) {v : Value}
    (h : deleteA (env P) s argTypes args = some (v, s')) : Does P ι s w (Builtin.delete_ argTypes ty args') v s' := by
  unfold deleteA at h
  split at h
  · rename_i t m k hat
    generalize hl : args'.toList = l' at ha
    cases ha with
    | cons hm ha =>
    cases ha with
    | cons hk ha =>
    cases ha with
    | nil =>
    rename_i m' k'
    obtain ⟨b0, b1⟩ : args'[0]? = some m' ∧ args'[1]? = some k' := by
      constructor
      · rw [← Array.getElem?_toList, hl]; rfl
      · rw [← Array.getElem?_toList, hl]; rfl
    have hunit : VR ι (.tuple #[]) (.tuple #[]) := VR.undef ι
    split at h
    · rename_i kt et sz by_ ze ag me cm ht
      split at h
      · rename_i hkk
        have hkeq := key_eq hkk hk
        have hkeq' := hkeq.symm
        subst hkeq'
        split at h
        · rw [nilmap_inv hm] at b0
          simp only [Option.some.injEq, Prod.mk.injEq] at h
          obtain ⟨rfl, rfl⟩ := h
          refine ⟨_, ι, w, ?_, hunit, hR, Ext.refl⟩
          unfold Builtin.delete_
          simp only [hat, b0, b1, Sem.run_bind, run_underlyingA ht, Result.andThen_ok, run_checkKey hkk, Sem.run_pure]
        · rename_i r
          obtain ⟨l, hl2, rfl⟩ := map_inv hm
          split at h
          · rename_i es c ver hH
            obtain ⟨l', es', p1, p2, p3, p4, p5, p6⟩ := map_of hR hH
            rw [hl2] at p1; cases p1
            split at h
            · rename_i j v0 hf
              simp only [Option.some.injEq, Prod.mk.injEq] at h
              obtain ⟨rfl, rfl⟩ := h
              obtain ⟨r', g1, v0', g2, g3, e0, g4, g5⟩ := run_findKey (P := P) (w := w) hkk p6 hf
              subst g2
              obtain ⟨q1, q2⟩ := hR.put (f := fun v => .map (es.eraseIdx j) c v) hH rfl hl2 p2 (.map (es'.eraseIdxIfInBounds j) c) ⟨p2, p3, p4, _, heap_setBlk_same (lt_of_heap p5), by
                rw [Array.toList_eraseIdxIfInBounds]; exact p6.eraseIdx j⟩
              refine ⟨_, ι, _, ?_, hunit, q1, q2⟩
              unfold Builtin.delete_
              simp only [hat, b0, b1, Sem.run_bind, run_underlyingA ht, Result.andThen_ok, run_getMap p5, run_checkKey hkk, g1, run_setMap p5, Sem.run_pure]
            · rename_i hf
              simp only [Option.some.injEq, Prod.mk.injEq] at h
              obtain ⟨rfl, rfl⟩ := h
              obtain ⟨r', g1, g2⟩ := run_findKey (P := P) (w := w) hkk p6 hf
              cases (show r' = none from g2)
              refine ⟨_, ι, w, ?_, hunit, hR, Ext.refl⟩
              unfold Builtin.delete_
              simp only [hat, b0, b1, Sem.run_bind, run_underlyingA ht, Result.andThen_ok, run_getMap p5, run_checkKey hkk, g1, run_setMap p5, Sem.run_pure]
              rw [setBlk_self p5]
            · cases h
          · cases h
        · cases h
      · cases h
    · cases h
  · cases h
theorem rep_get {α : Type} (l : List α) : ∀ (n i : Nat), (rep l n)[i]? = if i < n * l.length then l[i % l.length]? else none
  | 0, i => by simp [rep]
  | n + 1, i => by
    rw [rep]
    by_cases h : i < l.length
    · rw [List.getElem?_append_left h, if_pos (by rw [Nat.succ_mul]; omega), Nat.mod_eq_of_lt h]
    · rw [List.getElem?_append_right (by omega), rep_get l n]
      have hm : (i - l.length) % l.length = i % l.length := (Nat.mod_eq_sub_mod (by omega)).symm
      rw [hm]
      have : (i - l.length < n * l.length) = (i < (n + 1) * l.length) := by rw [Nat.succ_mul]; simp; omega
      simp only [this]
theorem zeroCells_rep (z : Array Value) (n : Nat) : (Builtin.zeroCells z n).toList = rep z.toList n := by
  apply List.ext_getElem?
  intro i
  rw [rep_get]
  simp only [Builtin.zeroCells, Array.toList_map, List.getElem?_map]
  by_cases h : i < n * z.size
  · have hpos : 0 < z.size := by
      by_cases h0 : z.size = 0
      · rw [h0] at h; simp at h
      · omega
    have hmod : i % z.size < z.size := Nat.mod_lt _ hpos
    have h1 : (Array.range (n * z.size)).toList[i]? = some i := by simp [h]
    rw [h1, if_pos (by simpa using h)]
    simp only [Option.map_some, Array.length_toList]
    rw [getElem!_pos z _ hmod]
    simp [hmod]
  · have h1 : (Array.range (n * z.size)).toList[i]? = none := by simp; omega
    rw [h1, if_neg (by simpa using h)]; rfl
theorem VRs.rep {l l' : List Value} (h : VRs ι l l') : ∀ n, VRs ι (Dust.rep l n) (Dust.rep l' n)
  | 0 => .nil
  | n + 1 => h.append (VRs.rep h n)

theorem clear_sound (hR : RS P ι s w) {argTypes : Array TypeId} {ty : TypeId} {args : List Value} {args' : Array Value} (ha : VRs ι args args'.toList) {v : Value}
    (h : clearA (env P) s argTypes args = some (v, s')) : Does P ι s w (Builtin.clear_ argTypes ty args') v s' := by
  unfold clearA at h
  split at h
  · rename_i t x hat
    generalize hl : args'.toList = l' at ha
    cases ha with
    | cons hx ha =>
    cases ha with
    | nil =>
    rename_i x'
    have b0 : args'[0]? = some x' := by rw [← Array.getElem?_toList, hl]; rfl
    have hunit : VR ι (.tuple #[]) (.tuple #[]) := VR.undef ι
    cases ht : (env P).ty t with
    | none => rw [ht] at h; cases h
    | some i =>
      rw [ht] at h
      simp only at h
      split at h
      · simp only [Option.some.injEq, Prod.mk.injEq] at h
        obtain ⟨rfl, rfl⟩ := h
        rw [nilmap_inv hx] at b0
        refine ⟨_, ι, w, ?_, hunit, hR, Ext.refl⟩
        unfold Builtin.clear_
        simp only [hat, b0, Sem.run_bind, run_underlyingA ht, Result.andThen_ok, Sem.run_pure]
      · simp only [Option.some.injEq, Prod.mk.injEq] at h
        obtain ⟨rfl, rfl⟩ := h
        rw [nilslice_inv hx] at b0
        refine ⟨_, ι, w, ?_, hunit, hR, Ext.refl⟩
        unfold Builtin.clear_
        simp only [hat, b0, Sem.run_bind, run_underlyingA ht, Result.andThen_ok, Sem.run_pure]
      · rename_i r
        obtain ⟨l, hl2, rfl⟩ := map_inv hx
        split at h
        · rename_i es c ver hH
          obtain ⟨l', es', p1, p2, p3, p4, p5, p6⟩ := map_of hR hH
          rw [hl2] at p1; cases p1
          simp only [Option.some.injEq, Prod.mk.injEq] at h
          obtain ⟨rfl, rfl⟩ := h
          obtain ⟨q1, q2⟩ := hR.put (f := fun v => .map [] c v) hH rfl hl2 p2 (.map #[] c) ⟨p2, p3, p4, _, heap_setBlk_same (lt_of_heap p5), .nil⟩
          refine ⟨_, ι, _, ?_, hunit, q1, q2⟩
          unfold Builtin.clear_
          simp only [hat, b0, Sem.run_bind, run_underlyingA ht, Result.andThen_ok, run_getMap p5, run_setMap p5, Sem.run_pure]
        · cases h
      · rename_i a n cap
        split at h
        · rename_i hn0
          subst hn0
          simp only [Option.some.injEq, Prod.mk.injEq] at h
          obtain ⟨rfl, rfl⟩ := h
          refine ⟨.tuple #[], ι, w, ?_, hunit, hR, Ext.refl⟩
          unfold Builtin.clear_
          cases hx <;> simp only [hat, b0, Sem.run_bind, run_underlyingA ht, Result.andThen_ok, Sem.run_pure]
        · rename_i hn0
          split at h
          · rename_i e hd
            split at h
            · rename_i d sz by_ z ag me cm he
              split at h
              · rename_i s1 hst
                simp only [Option.some.injEq, Prod.mk.injEq] at h
                obtain ⟨rfl, rfl⟩ := h
                have hz : VRs ι z.cells.toList z.cells.toList := VR.cells (.closed (zero_closed he rfl))
                cases hx with
                | @slice b0' o0 l0 _ _ hl2 =>
                  obtain ⟨w', g1, g2, g3⟩ := storeN_sound (P := P) hR hl2 (hz.rep n) hst
                  refine ⟨.tuple #[], ι, w', ?_, hunit, g2, g3⟩
                  unfold Builtin.clear_
                  obtain ⟨m, rfl⟩ : ∃ m, n = m + 1 := ⟨n - 1, by omega⟩
                  simp only [hat, b0, Sem.run_bind, run_underlyingA ht, hd, Result.andThen_ok, run_zeroA he rfl, zeroCells_rep, g1, Sem.run_pure]
                | slice0 hl2 => omega
              · cases h
            · cases h
          · cases h
      · cases h
  · cases h

/-! ### Iterators -/
theorem iter_new (hR : RS P ι s w) (x : Obj) (f : Nat → AObj) (ho : ObjR (env P) (ι.add s.next (newLoc w)) (w.alloc x) (newLoc w) (f s.clk)) :
    ∃ ι', VR ι' (.pointer (some ⟨s.next, 0, none⟩)) (.pointer (some ⟨w.heap.size, 0, none⟩)) ∧ RS P ι' (s.new f) (w.alloc x) ∧ ES ι s w ι' (s.new f) (w.alloc x) := by
  obtain ⟨g1, g2⟩ := RS.new hR x ho
  refine ⟨_, ?_, g1, g2⟩
  have := VR.ptr (ι := ι.add s.next (newLoc w)) (o := 0) (Inj.add_same ι s.next (newLoc w))
  simpa [newLoc] using this

theorem RS.free (hR : RS P ι s w) : ι s.next = none := hR.fresh _ (Nat.le_refl _) hR.odd
end Go.Dust
