/- Dh Di Dj Dk -/
import Derived.Test.YtelmjodchophjaaGreatDoorB
import Derived.KernelRfl
set_option linter.unusedVariables false
set_option linter.unusedSimpArgs false
section
/- Operations that change memory. -/
namespace Go.Dust
variable {P : Program} {ι : Inj} {s s' : St} {w : World}

abbrev RS (P : Program) (ι : Inj) (s : St) (w : World) : Prop := R (env P) ι s.look s.next w
abbrev ES (ι : Inj) (s : St) (w : World) (ι' : Inj) (s' : St) (w' : World) : Prop := Ext ι s.look s.next w ι' s'.look s'.next w'

/-- What an effect comes to. -/
def Does (P : Program) (ι : Inj) (s : St) (w : World) (sem : Sem Value) (v : Value) (s' : St) : Prop :=
  ∃ u ι' w', sem.run P w = .ok u w' ∧ VR ι' v u ∧ RS P ι' s' w' ∧ ES ι s w ι' s' w'

theorem RS.put (hR : RS P ι s w) {b : Nat} {o : AObj} {l : Loc} (hb : s.heap.get b = some o) (hd : o.isDead = false) (hl : ι b = some l) (hro : l.ro = false) (x : Obj) {f : Nat → AObj}
    (ho : ObjR (env P) ι (World.setBlk w l.blk x) l (f s.clk)) : RS P ι (s.put b f) (World.setBlk w l.blk x) ∧ ES ι s w ι (s.put b f) (World.setBlk w l.blk x) := by
  have h1 := R.put (H := s.look) hR hb hd hl hro x ho
  have h2 := Ext.put (H := s.look) (n := s.next) (w := w) hb hd hl hro x (f s.clk)
  unfold RS ES
  rw [look_put]
  exact ⟨h1, h2⟩

theorem RS.new {ex : Nat} (hR : RS P ι s w) (x : Obj) {f : Nat → AObj} (ho : ObjR (env P) (ι.add s.next ⟨w.heap.size, 0, ex, false⟩) (w.alloc x) ⟨w.heap.size, 0, ex, false⟩ (f s.clk)) :
    RS P (ι.add s.next ⟨w.heap.size, 0, ex, false⟩) (s.new f) (w.alloc x) ∧ ES ι s w (ι.add s.next ⟨w.heap.size, 0, ex, false⟩) (s.new f) (w.alloc x) := by
  have hfree : ι s.next = none := hR.fresh _ (Nat.le_refl _) hR.odd
  have hodd := hR.odd
  have h1 := R.newAt (H := s.look) hR s.next (s.next + 2) hfree hR.odd (by omega) (by omega) (by omega) x ho
  have h2 := Ext.newAt (H := s.look) (n := s.next) (w := w) (ex := ex) s.next (s.next + 2) hfree (Nat.le_refl _) (by omega) (by omega) x (f s.clk)
  unfold RS ES
  rw [look_new]
  exact ⟨h1, h2⟩

/-! ### Stores -/
theorem storeN_sound (hR : RS P ι s w) {b o : Nat} {l : Loc} (hl : ι b = some l) {vs us : List Value} (hv : VRs ι vs us) (h : storeN s ⟨b, o, none⟩ vs = some s') :
    ∃ w', (storeCells ⟨l.blk, l.off + o, none⟩ us).run P w = .ok () w' ∧ RS P ι s' w' ∧ ES ι s w ι s' w' := by
  unfold storeN at h
  simp only at h
  split at h
  · rename_i c z n e r ver hs hb
    split at h
    · rename_i hc
      simp only [Option.some.injEq] at h; subst h
      obtain ⟨l', arr, e', fz, h1, h2, h3, h4, h5, h6, h7, h8⟩ := cells_of hR (show s.look b = _ from hb)
      rw [hl] at h1; cases h1
      rw [h3.1 rfl] at h2
      have hlen := hv.length
      have h1u : us.all one1 = true := by rw [← hv.one1]; exact hc.2
      refine ⟨_, run_storeCells us w l.blk (l.off + o) 0 arr e' h2 h1u (by omega), ?_⟩
      refine hR.put hb rfl hl h4 _ ⟨arrSet arr (l.off + o + 0) us, e', (0, 0), heap_setBlk_same (lt_of_heap h2), ⟨fun _ => rfl, fun h => by cases h⟩, h4, h5, ?_, by simpa using h7, ?_⟩
      · intro ei hei
        have := h6 ei hei
        simpa using this
      · intro i hi
        obtain ⟨v0, u0, g1, g2, g3⟩ := h8 i hi
        rw [get_arrSet us arr _ _ (by omega)]
        unfold cellAt at g1 ⊢
        rw [if_pos hi] at g1 ⊢
        rw [PT.get_setL]
        by_cases hoi : o ≤ i
        · rw [if_pos hoi, if_pos (by omega), show l.off + i - (l.off + o + 0) = i - o from by omega]
          cases hvi : vs[i - o]? with
          | some v1 =>
            obtain ⟨u1, k1, k2⟩ := hv.getSome _ hvi
            rw [k1]
            exact ⟨v1, u1, rfl, rfl, k2⟩
          | none =>
            have : us[i - o]? = none := by
              rw [List.getElem?_eq_none_iff] at hvi ⊢; omega
            rw [this]
            exact ⟨v0, u0, g1, g2, g3⟩
        · rw [if_neg hoi, if_neg (by omega)]
          exact ⟨v0, u0, g1, g2, g3⟩
    · cases h
  · cases h

theorem storeT_sound (hR : RS P ι s w) {t : TypeId} {a : Addr} {v x u : Value} (hx : VR ι (.pointer (some a)) x) (hv : VR ι v u) (h : storeT (env P) s t a v = some s') :
    ∃ w', (Instr.storeAt t x u).run P w = .ok () w' ∧ RS P ι s' w' ∧ ES ι s w ι s' w' := by
  obtain ⟨b, o, l, rfl, hl, rfl⟩ := ptr_inv hx
  unfold storeT at h
  split at h
  · rename_i i hi
    split at h
    · rename_i hsz
      obtain ⟨w', g1, g2, g3⟩ := storeN_sound hR hl hv.cells h
      refine ⟨w', ?_, g2, g3⟩
      have husz : u.cells.size = i.size := by rw [← hv.cells.size]; exact hsz
      simp only [Instr.storeAt, Instr.sureAddr, Sem.run_bind, Sem.run_pure, Result.andThen_ok, storeVar, run_sizeOfA hi, husz, ne_eq, not_true_eq_false, if_false, g1]
    · cases h
  · cases h

/-! ### The cells of slices and strings -/
theorem bytes_closed (l : List UInt8) : VRs ι (l.map fun b => Value.int .u8 b.toNat) (l.map fun b => Value.int .u8 b.toNat) := .map₂ _ fun _ _ => .int _ _
theorem first_sound (hR : RS P ι s w) {size n : Nat} {x x' : Value} (hx : VR ι x x') {l : List Value} (h : firstA s.look size n x = some l) (hn : ∀ a c d, x = .slice a c d → n ≤ c) :
    ∃ l', (Builtin.firstCells size n x').run P w = .ok l' w ∧ VRs ι l l'.toList := by
  unfold firstA at h
  split at h
  · rename_i a c d
    split at h
    · rename_i h0
      simp only [Option.some.injEq] at h; subst h
      refine ⟨#[], ?_, .nil⟩
      cases hx <;> simp [Builtin.firstCells, h0, loadCells, loadCellsFrom]
    · rename_i h0
      have hc : 0 < c := by
        have := hn _ _ _ rfl
        by_cases hz : n = 0
        · subst hz; simp at h0
        · omega
      cases hx with
      | slice _ _ hl =>
        obtain ⟨us, g1, g2, _⟩ := loadN_sound (P := P) hR hl h
        exact ⟨us, by simpa [Builtin.firstCells] using g1, g2⟩
      | slice0 hl => omega
  · simp only [Option.some.injEq] at h; subst h
    rw [nilslice_inv hx]
    exact ⟨#[], rfl, .nil⟩
  · simp only [Option.some.injEq] at h; subst h
    rw [hx.string_eq]
    refine ⟨_, rfl, ?_⟩
    simp only [Array.toList_map]
    exact bytes_closed _
  · cases h
theorem len_run {x x' : Value} (hx : VR ι x x') {n : Nat} (h : lenA x = some n) : (Builtin.lenOf x').run P w = .ok n w := by
  unfold lenA at h
  split at h
  · simp only [Option.some.injEq] at h; subst h
    cases hx <;> rfl
  · simp only [Option.some.injEq] at h; subst h
    rw [hx.string_eq]; rfl
  · cases h
theorem lenA_le {x : Value} {n : Nat} (h : lenA x = some n) : ∀ a c d, x = .slice a c d → n ≤ c := by
  rintro a c d rfl
  simp only [lenA, Option.some.injEq] at h
  omega

/-! ### Append -/
theorem nextslicecap_le {need c : Nat} (h : c < need) : Builtin.nextslicecap need c ≤ 2 * need + 1000 := by
  unfold Builtin.nextslicecap
  split
  · omega
  · split
    · omega
    · have key : ∀ r c, c ≤ 2 * need + 1000 → Builtin.growBy need r c ≤ 2 * need + 1000 := by
        intro r
        induction r with
        | zero => intro c hc; simpa [Builtin.growBy] using hc
        | succ r ih =>
          intro c hc
          simp only [Builtin.growBy]
          split
          · exact hc
          · exact ih _ (by omega)
      exact key 4 c (by omega)
/-- The model's append, up to where it parts. -/
theorem append_head {argTypes : Array TypeId} {ty t t2 e : TypeId} {args : Array Value} {base : Option Addr} {sLen sCap n : Nat} {x : Value} {i i2 ei : Ty} {z : Value}
    (hat : argTypes.toList = [t, t2]) (harg : args.toList = [.slice base sLen sCap, x]) (ht : (env P).ty t = some i) (hd : i.desc = .slice e) (ht2 : (env P).ty t2 = some i2)
    (hni : strOrSlice i2.desc = true) (he : (env P).ty e = some ei) (hz : ei.zero = some z) (hlen : (Builtin.lenOf x).run P w = .ok n w)
    {l' : Array Value} (hfirst : (Builtin.firstCells ei.size n x).run P w = .ok l' w) :
    (sLen + n ≤ sCap → (Builtin.append_ argTypes ty args).run P w =
      ((match base with | some a => storeCells (a.add (sLen * ei.size)) l'.toList | none => pure ()).run P w).andThen fun _ w' => .ok (.slice base (sLen + n) sCap) w') ∧
    (¬ sLen + n ≤ sCap → sLen + n < 2 ^ 40 → (2 * (sLen + n) + 1000) * ei.bytes ≤ 2 ^ 47 → ∃ newCap w1, w1.heap = w.heap ∧ w1.tape = w.tape ∧ w1.os = w.os ∧ w1.output = w.output ∧ sLen + n ≤ newCap ∧
      ∀ (old new : Array Value), (Builtin.firstCells ei.size sLen (.slice base sLen sCap)).run P w1 = .ok old w1 → (Builtin.firstCells ei.size n x).run P w1 = .ok new w1 →
        (Builtin.append_ argTypes ty args).run P w = .ok (.slice (some ⟨w1.heap.size, 0, none⟩) (sLen + n) newCap)
          (w1.alloc (.cells (old ++ new ++ Builtin.zeroCells z.cells (newCap - (sLen + n))) e (0, 0)))) := by
  obtain ⟨a0, a1⟩ : argTypes[0]? = some t ∧ argTypes[1]? = some t2 := by
    constructor
    · rw [← Array.getElem?_toList, hat]; rfl
    · rw [← Array.getElem?_toList, hat]; rfl
  obtain ⟨b0, b1⟩ : args[0]? = some (.slice base sLen sCap) ∧ args[1]? = some x := by
    constructor
    · rw [← Array.getElem?_toList, harg]; rfl
    · rw [← Array.getElem?_toList, harg]; rfl
  have hz0 : i2.desc = .string ∨ ∃ q, i2.desc = .slice q := by
    cases hdd : i2.desc <;> rw [hdd] at hni <;> first | exact .inl rfl | exact .inr ⟨_, rfl⟩ | cases hni
  obtain ⟨inf, e1, e2, _⟩ := run_bytesA (w := w) he
  constructor
  · intro hfit
    unfold Builtin.append_
    rcases hz0 with hz0 | ⟨q, hz0⟩ <;>
      (simp only [a0, a1, b0, b1, Sem.run_bind, run_underlyingA ht, hd, Result.andThen_ok, run_sizeOfA he, run_underlyingA ht2, hz0, Sem.run_pure, Bool.false_eq_true, if_false, hlen, hfit, if_true, Bool.not_false, hfirst]
       cases base <;> simp)
  · intro hfit h40 hb
    have hsc : sCap < sLen + n := by omega
    have hns := nextslicecap_le hsc
    have hb' : Builtin.nextslicecap (sLen + n) sCap * ei.bytes ≤ 2 ^ 48 := by
      have : Builtin.nextslicecap (sLen + n) sCap * ei.bytes ≤ (2 * (sLen + n) + 1000) * ei.bytes := Nat.mul_le_mul_right _ hns
      omega
    obtain ⟨cap, hcap⟩ : ∃ cap, cap = Question.cut (.appendCap (sLen + n) sCap e) (w.tape w.drawn (.appendCap (sLen + n) sCap e)) := ⟨_, rfl⟩
    refine ⟨cap, { w with drawn := w.drawn + 1 }, rfl, rfl, rfl, rfl, ?_, ?_⟩
    · rw [hcap]; simp only [Question.cut]; omega
    · intro old new hold hnew
      have hch : (choose (.appendCap (sLen + n) sCap e)).run P w = .ok cap { w with drawn := w.drawn + 1 } := by
        simp [choose, Sem.run, Question.forced, ← hcap]
      have e1' := run_bytesA (w := { w with drawn := w.drawn + 1 }) he
      obtain ⟨inf', e3, e4, _⟩ := e1'
      have hgt : ¬ (((sLen + n : Nat) : Int) > IntKind.i64.max) := by
        simp only [IntKind.max, IntKind.signed, IntKind.bits]
        simp
        omega
      unfold Builtin.append_
      rcases hz0 with hz0 | ⟨q, hz0⟩ <;>
        (simp only [a0, a1, b0, b1, Sem.run_bind, run_underlyingA ht, hd, Result.andThen_ok, run_sizeOfA he, run_underlyingA ht2, hz0, Sem.run_pure, Bool.false_eq_true, if_false, hlen, hfit, Bool.not_false, e1, e2]
         rw [if_neg (fun hh => hgt hh.1)]
         simp only [Sem.run_bind, e1, e2, Result.andThen_ok]
         rw [if_neg (by omega)]
         simp only [Sem.run_bind, Sem.run_pure, Result.andThen_ok, hch, e3, run_askRoom, hold, hnew, if_true, run_zeroA he hz, newRow, run_newObj]
         rfl)
section
variable {X : Env} {H : Look} {n : Nat}
/-- A name dies; a new one takes its block over. -/
theorem R.graft (h : R X ι H n w) {b : Nat} {o : AObj} {l : Loc} (hb : H b = some o) (hd : o.isDead = false) (hl : ι b = some l) (hro : l.ro = false) (x : Obj) (off ex : Nat) {o' : AObj}
    (ho : ObjR X (ι.add n ⟨l.blk, off, ex, false⟩) (World.setBlk w l.blk x) ⟨l.blk, off, ex, false⟩ o') :
    R X (ι.add n ⟨l.blk, off, ex, false⟩) (upd (upd H b .dead) n o') (n + 2) (World.setBlk w l.blk x) := by
  have hfree : ι n = none := h.fresh _ (Nat.le_refl _) h.odd
  have hle : ι.le (ι.add n ⟨l.blk, off, ex, false⟩) := Inj.le_add hfree
  have hodd := h.odd
  have hbn : b ≠ n := by intro e; subst e; rw [hfree] at hl; cases hl
  have old : ∀ c oc, upd (upd H b .dead) n o' c = some oc → oc.isDead = false → c ≠ n → c ≠ b ∧ H c = some oc := by
    intro c oc hc hdc hcn
    unfold upd at hc
    rw [if_neg hcn] at hc
    split at hc
    · cases hc; cases hdc
    · rename_i e; exact ⟨e, hc⟩
  refine ⟨?_, by omega, ?_, ?_, ?_, ?_⟩
  · intro c
    unfold Inj.add
    rw [if_neg (by omega)]
    exact h.even c
  · intro c hc hc2
    unfold Inj.add
    rw [if_neg (by omega)]
    exact h.fresh c (by omega) hc2
  · intro c lc hc hr
    rw [size_setBlk]
    unfold Inj.add at hc
    split at hc
    · cases hc; exact h.inb b l hl hro
    · exact h.inb c lc hc hr
  · intro c oc hc hdc
    by_cases hcn : c = n
    · subst hcn
      simp only [upd, if_true, Option.some.injEq] at hc
      subst hc
      exact ⟨_, Inj.add_same _ _ _, ho⟩
    · obtain ⟨hcb, hc'⟩ := old c oc hc hdc hcn
      obtain ⟨lc, h1, h2⟩ := h.obj c oc hc' hdc
      refine ⟨lc, hle _ _ h1, h2.mono hle (heap_setBlk_ne ?_)⟩
      intro he
      exact hcb (h.inj b c o oc l lc hb hd hc' hdc hl h1 hro he.symm).symm
  · intro c c' oc oc' lc lc' hc hdc hc' hdc' h1 h2 hr he
    by_cases e1 : c = n <;> by_cases e2 : c' = n
    · rw [e1, e2]
    · obtain ⟨k1, k2⟩ := old c' oc' hc' hdc' e2
      unfold Inj.add at h1 h2
      rw [if_pos e1] at h1
      rw [if_neg e2] at h2
      cases h1
      exact absurd (h.inj b c' o oc' l lc' hb hd k2 hdc' hl h2 hro he) (Ne.symm k1)
    · obtain ⟨k1, k2⟩ := old c oc hc hdc e1
      unfold Inj.add at h1 h2
      rw [if_neg e1] at h1
      rw [if_pos e2] at h2
      cases h2
      exact absurd (h.inj c b oc o lc l k2 hdc hb hd h1 hl hr he) k1
    · obtain ⟨k1, k2⟩ := old c oc hc hdc e1
      obtain ⟨k3, k4⟩ := old c' oc' hc' hdc' e2
      unfold Inj.add at h1 h2
      rw [if_neg e1] at h1
      rw [if_neg e2] at h2
      exact h.inj c c' oc oc' lc lc' k2 hdc k4 hdc' h1 h2 hr he
theorem Ext.graft (hodd : n % 2 = 1) (hfree : ι n = none) {b : Nat} {o : AObj} {l : Loc} (hb : H b = some o) (hd : o.isDead = false) (hl : ι b = some l) (hro : l.ro = false) (x : Obj) (off ex : Nat) (o' : AObj) :
    Ext ι H n w (ι.add n ⟨l.blk, off, ex, false⟩) (upd (upd H b .dead) n o') (n + 2) (World.setBlk w l.blk x) := by
  refine ⟨Inj.le_add hfree, ?_, by omega, rfl, rfl, rfl, by simp, ?_, ?_⟩
  · intro c hc hc2
    unfold Inj.add
    rw [if_neg (by omega)]
    exact hc
  · intro c hc hown
    exact heap_setBlk_ne fun e => hown ⟨b, o, l, hb, hd, hl, hro, e.symm⟩
  · rintro c ⟨d, od, ld, h1, h2, h3, h4, h5⟩
    unfold upd at h1
    unfold Inj.add at h3
    split at h1
    · rename_i e
      rw [if_pos e] at h3
      cases h3
      exact .inl ⟨b, o, l, hb, hd, hl, hro, h5⟩
    · rename_i e
      rw [if_neg e] at h3
      split at h1
      · cases h1; cases h2
      · exact .inl ⟨d, od, ld, h1, h2, h3, h4, h5⟩
/-- The world only drew. -/
theorem Ext.drew {ι' : Inj} {H' : Look} {n' : Nat} {w1 w' : World} (h : Ext ι H n w1 ι' H' n' w') (hh : w1.heap = w.heap) (ht : w1.tape = w.tape) (ho : w1.os = w.os) (hu : w1.output = w.output) :
    Ext ι H n w ι' H' n' w' :=
  ⟨h.le, h.new, h.nxt, h.os.trans ho, h.tape.trans ht, h.output.trans hu, hh ▸ h.size, fun c hc hn => (h.keep c (hh ▸ hc) hn).trans (by rw [hh]), fun c hc => (h.own c hc).imp id (fun k => hh ▸ k)⟩
end

theorem RS.kill (hR : RS P ι s w) (b : Nat) : RS P ι (s.kill b) w ∧ ES ι s w ι (s.kill b) w := by
  have hlook : (s.kill b).look = upd s.look b .dead := look_put s b _
  have hsub : ∀ c o, upd s.look b .dead c = some o → o.isDead = false → s.look c = some o := by
    intro c o hc hd
    unfold upd at hc
    split at hc
    · cases hc; cases hd
    · exact hc
  unfold RS ES
  rw [hlook]
  refine ⟨R.fewer hR hsub, ⟨Inj.le_refl _, fun _ h _ => h, Nat.le_refl _, rfl, rfl, rfl, Nat.le_refl _, fun _ _ _ => rfl, ?_⟩⟩
  rintro c ⟨d, od, ld, h1, h2, h3⟩
  exact .inl ⟨d, od, ld, hsub d od h1 h2, h2, h3⟩

theorem readCells_total {c : PT Value} {z : List Value} {m : Nat} : ∀ (k i : Nat), i + k ≤ m → ∃ l, readCells c z m i k = some l ∧ l.length = k ∧ ∀ j, j < k → l[j]? = cellAt c z m (i + j)
  | 0, i, _ => ⟨[], rfl, rfl, fun j hj => by omega⟩
  | k + 1, i, h => by
    obtain ⟨l, h1, h2, h3⟩ := readCells_total (c := c) (z := z) (m := m) k (i + 1) (by omega)
    obtain ⟨v, hv⟩ : ∃ v, cellAt c z m i = some v := by
      unfold cellAt
      rw [if_pos (by omega)]
      exact ⟨_, rfl⟩
    refine ⟨v :: l, by simp [readCells, hv, h1], by simp [h2], ?_⟩
    intro j hj
    cases j with
    | zero => simp [hv]
    | succ j => rw [List.getElem?_cons_succ, h3 j (by omega)]; congr 1; omega

theorem grown_spec {c : PT Value} {z : List Value} {m : Nat} {a : Addr} {k : Nat} {new : List Value} {c' : PT Value} {z' : List Value} (h : grownCells c z m a k new = some (c', z')) :
    ∃ old, old.length = k ∧ (k = 0 ∨ (a.spot = none ∧ readCells c z m a.off k = some old)) ∧ ∀ i, i < k + new.length → cellAt c' z' (k + new.length) i = (old ++ new)[i]? := by
  unfold grownCells at h
  split at h
  · rename_i hk
    subst hk
    simp only [Option.some.injEq, Prod.mk.injEq] at h
    obtain ⟨rfl, rfl⟩ := h
    refine ⟨[], rfl, .inl rfl, ?_⟩
    intro i hi
    unfold cellAt
    rw [if_pos hi, PT.get_ofList]
    have : new[i]? = some new[i] := List.getElem?_eq_getElem (by omega)
    simp [this]
  · rename_i hk
    split at h
    · cases h
    · rename_i hsp
      split at h
      · rename_i h0
        split at h
        · rename_i hkm
          simp only [Option.some.injEq, Prod.mk.injEq] at h
          obtain ⟨rfl, rfl⟩ := h
          obtain ⟨old, h1, h2, h3⟩ := readCells_total (c := c) (z := z) (m := m) k 0 (by omega)
          refine ⟨old, h2, .inr ⟨hsp, by rw [h0]; exact h1⟩, ?_⟩
          intro i hi
          by_cases hik : i < k
          · rw [List.getElem?_append_left (by omega), h3 i hik]
            unfold cellAt
            rw [if_pos hi, if_pos (by omega), PT.get_setL, if_neg (by omega)]
            simp
          · rw [List.getElem?_append_right (by omega), h2]
            unfold cellAt
            rw [if_pos hi, PT.get_setL, if_pos (by omega)]
            have : new[i - k]? = some new[i - k] := List.getElem?_eq_getElem (by omega)
            simp [this]
        · cases h
      · split at h
        · rename_i old ho
          simp only [Option.some.injEq, Prod.mk.injEq] at h
          obtain ⟨rfl, rfl⟩ := h
          have hlen : old.length = k := by
            have : ∀ (k i : Nat) (l : List Value), readCells c z m i k = some l → l.length = k := by
              intro k
              induction k with
              | zero => intro i l h; simp [readCells] at h; subst h; rfl
              | succ k ih =>
                intro i l h
                simp only [readCells] at h
                split at h
                · split at h
                  · rename_i hr
                    simp only [Option.some.injEq] at h
                    subst h
                    simp [ih _ _ hr]
                  · cases h
                · cases h
            exact this _ _ _ ho
          refine ⟨old, hlen, .inr ⟨hsp, ho⟩, ?_⟩
          intro i hi
          unfold cellAt
          rw [if_pos hi, PT.get_ofList]
          obtain ⟨y, hy⟩ : ∃ y, (old ++ new)[i]? = some y := ⟨_, List.getElem?_eq_getElem (by simp; omega)⟩
          rw [hy]
        · cases h
/-- Cells that read as0 a list are an object's cells. -/
theorem objR_cells {X : Env} {l l' : List Value} (hl : VRs ι l l') {loc : Loc} {c : PT Value} {z : List Value} {e e' : TypeId} {room : Bool} {ver m : Nat} (hm : m = l.length) (hc : ∀ i, i < m → cellAt c z m i = l[i]?)
    {arr : Array Value} (hb : w.heap[loc.blk]? = some (.cells arr e' (0, 0))) (harr : ∀ i, i < m → arr[loc.off + i]? = l'[i]?) (hro : loc.ro = false) (hroom : room = false → loc.extra = 0)
    (hsz : ∀ ei, X.ty e = some ei → loc.off + m + loc.extra * ei.size ≤ arr.size) (hsz' : loc.off + m ≤ arr.size) : ObjR X ι w loc (.cells c z m e room false ver) := by
  refine ⟨arr, e', (0, 0), hb, ⟨fun _ => rfl, fun h => by cases h⟩, hro, hroom, hsz, hsz', ?_⟩
  intro i hi
  have hg : l[i]? = some l[i] := List.getElem?_eq_getElem (by omega)
  obtain ⟨u, h1, h2⟩ := hl.getSome i hg
  exact ⟨l[i], u, by rw [hc i hi, hg], by rw [harr i hi, h1], h2⟩

theorem grows_sound (hR : RS P ι s w) {w1 : World} (hh : w1.heap = w.heap) (ht : w1.tape = w.tape) (ho : w1.os = w.os) (hu : w1.output = w.output) {e : TypeId} {ei : Ty} {z : Value}
    (he : (env P).ty e = some ei) (hzs : z.cells.size = ei.size) {L : List Value} {U : Array Value} (hL : VRs ι L U.toList) {need newCap : Nat} (hlen : L.length = need * ei.size) (hcap : need ≤ newCap)
    {c : PT Value} {zz : List Value} (hc : ∀ i, i < need * ei.size → cellAt c zz (need * ei.size) i = L[i]?) :
    ∃ ι' w', w' = w1.alloc (.cells (U ++ Builtin.zeroCells z.cells (newCap - need)) e (0, 0)) ∧ VR ι' (.slice (some ⟨s.next, 0, none⟩) need need) (.slice (some ⟨w1.heap.size, 0, none⟩) need newCap) ∧
      RS P ι' (s.new fun v => .cells c zz (need * ei.size) e true false v) w' ∧ ES ι s w ι' (s.new fun v => .cells c zz (need * ei.size) e true false v) w' := by
  have hR1 : RS P ι s w1 := R.drew hR hh
  have hfree : ι s.next = none := hR.fresh _ (Nat.le_refl _) hR.odd
  have hUl : U.size = need * ei.size := by rw [← hlen]; exact (by simpa using hL.length.symm)
  have hsz : (U ++ Builtin.zeroCells z.cells (newCap - need)).size = need * ei.size + (newCap - need) * ei.size := by
    simp [Builtin.zeroCells, hUl, hzs]
  have hobj : ObjR (env P) (ι.add s.next ⟨w1.heap.size, 0, newCap - need, false⟩) (w1.alloc (.cells (U ++ Builtin.zeroCells z.cells (newCap - need)) e (0, 0))) ⟨w1.heap.size, 0, newCap - need, false⟩
      ((fun v => AObj.cells c zz (need * ei.size) e true false v) s.clk) := by
    refine objR_cells (VRs.mono (Inj.le_add hfree) hL) hlen.symm hc (e' := e) heap_alloc_new ?_ rfl (fun h => by cases h) ?_ ?_
    · intro i hi
      simp only [Nat.zero_add]
      rw [Array.getElem?_append_left (by omega)]
      simp
    · intro ei' hei'
      rw [he] at hei'
      cases hei'
      simp only [Nat.zero_add]; omega
    · simp only [Nat.zero_add]; omega
  obtain ⟨g1, g2⟩ := RS.new hR1 _ hobj
  refine ⟨_, _, rfl, ?_, g1, Ext.drew g2 hh ht ho hu⟩
  have := VR.slice (ι := ι.add s.next ⟨w1.heap.size, 0, newCap - need, false⟩) (o := 0) need need (Inj.add_same ι s.next _)
  simpa [show need + (newCap - need) = newCap from by omega] using this

theorem appendB_sound (hR : RS P ι s w) {argTypes : Array TypeId} {ty t t2 e : TypeId} {args : Array Value} {base base' : Option Addr} {sLen sCap sCap' n : Nat} {x : Value} {i i2 ei : Ty} {z : Value}
    (hat : argTypes.toList = [t, t2]) (harg : args.toList = [.slice base' sLen sCap', x]) (ht : (env P).ty t = some i) (hd : i.desc = .slice e) (ht2 : (env P).ty t2 = some i2)
    (hni : strOrSlice i2.desc = true) (he : (env P).ty e = some ei) (hz : ei.zero = some z) (hzs : z.cells.size = ei.size) (hlen : ∀ w1 : World, (Builtin.lenOf x).run P w1 = .ok n w1)
    (hs : VR ι (.slice base sLen sCap) (.slice base' sLen sCap')) {new : List Value} {newU : Array Value} (hnew : VRs ι new newU.toList)
    (hfirst : ∀ w1 : World, w1.heap = w.heap → (Builtin.firstCells ei.size n x).run P w1 = .ok newU w1) (hnl : new.length = n * ei.size) (h40 : sLen + n < 2 ^ 40)
    (hb47 : (2 * (sLen + n) + 1000) * ei.bytes ≤ 2 ^ 47) (hone : new.all one1 = true) {v : Value} (h : appendB s e ei.size base sLen sCap n new = some (v, s')) :
    Does P ι s w (Builtin.append_ argTypes ty args) v s' := by
  obtain ⟨hfit, hgrow⟩ := append_head (w := w) (ty := ty) hat harg ht hd ht2 hni he hz (hlen w) (hfirst w rfl)
  unfold appendB at h
  split at h
  · -- it fits
    rename_i hle
    split at h
    · rename_i a
      split at h
      · rename_i hemp
        simp only [Option.some.injEq, Prod.mk.injEq] at h
        obtain ⟨rfl, rfl⟩ := h
        have hnil : new = [] := by simpa using hemp
        subst hnil
        have hUnil : newU.toList = [] := hnew.nil_left
        generalize hb' : Value.slice base' sLen sCap' = u at hs
        cases hs with
        | slice _ _ hl =>
          cases hb'
          refine ⟨_, ι, w, ?_, .slice _ _ hl, hR, Ext.refl⟩
          rw [hfit (by omega), hUnil]; rfl
        | slice0 hl =>
          cases hb'
          have hn0 : n = 0 := by omega
          subst hn0
          refine ⟨_, ι, w, ?_, .slice0 hl, hR, Ext.refl⟩
          rw [hfit (by omega), hUnil]; rfl
      · rename_i hemp
        split at h
        · rename_i s1 hst
          simp only [Option.some.injEq, Prod.mk.injEq] at h
          obtain ⟨rfl, rfl⟩ := h
          generalize hb' : Value.slice base' sLen sCap' = u at hs
          cases hs with
          | slice _ _ hl =>
            cases hb'
            rw [Addr.add_none] at hst
            obtain ⟨w', g1, g2, g3⟩ := storeN_sound hR hl hnew hst
            refine ⟨_, ι, w', ?_, .slice _ _ hl, g2, g3⟩
            rw [hfit (by omega)]
            simp only [Addr.add_none]
            rw [Nat.add_assoc, g1]; rfl
          | slice0 hl =>
            have hn0 : n = 0 := by omega
            subst hn0
            have : new = [] := List.eq_nil_of_length_eq_zero (by simpa using hnl)
            subst this
            exact absurd rfl hemp
        · cases h
    · split at h
      · rename_i hn0
        subst hn0
        simp only [Option.some.injEq, Prod.mk.injEq] at h
        obtain ⟨rfl, rfl⟩ := h
        cases hs
        refine ⟨_, ι, w, ?_, .nilslice _ _, hR, Ext.refl⟩
        rw [hfit hle]; rfl
      · cases h
  · -- it outgrows its room
    rename_i hle
    split at h
    · split at h
      · rename_i hs0
        subst hs0
        simp only [Option.some.injEq, Prod.mk.injEq] at h
        obtain ⟨rfl, rfl⟩ := h
        cases hs
        obtain ⟨newCap, w1, k1, k2, k3, k4, k5, k6⟩ := hgrow hle h40 hb47
        have hrun := k6 #[] newU rfl (hfirst w1 k1)
        obtain ⟨ι', w', q1, q2, q3, q4⟩ := grows_sound hR k1 k2 k3 k4 he hzs hnew (need := 0 + n) (by simpa using hnl) k5 (c := PT.ofList new) (zz := []) (by
          intro i hi
          unfold cellAt
          rw [if_pos hi, PT.get_ofList]
          obtain ⟨y, hy⟩ : ∃ y, new[i]? = some y := ⟨_, List.getElem?_eq_getElem (by rw [hnl]; simpa using hi)⟩
          rw [hy])
        refine ⟨_, ι', w', ?_, q2, q3, q4⟩
        rw [hrun, q1]; simp
      · cases h
    · rename_i a
      split at h
      · rename_i c zz m e0 room ver hH
        split at h
        · rename_i hcond
          obtain ⟨he0, hin⟩ := hcond
          have he0' := he0.symm
          subst he0'
          split at h
          · rename_i c' z' hg
            simp only [Option.some.injEq, Prod.mk.injEq] at h
            obtain ⟨rfl, rfl⟩ := h
            obtain ⟨old, g1, g2, g3⟩ := grown_spec hg
            obtain ⟨l, arr, e', fz, p1, p2, p3, p4, p5, p6, p7, p8⟩ := cells_of hR (show s.look a.block = _ from hH)
            rw [p3.1 rfl] at p2
            have p6' := p6 ei he
            -- where the slice lies
            obtain ⟨off', hbase, hcap', hF1, hF2⟩ : ∃ off', base' = some ⟨l.blk, off', none⟩ ∧ sCap' = sCap + l.extra ∧ (sLen * ei.size ≠ 0 → a.spot = none ∧ off' = l.off + a.off) ∧
                (sLen + n ≤ sCap' → off' + (sCap + l.extra) * ei.size ≤ arr.size) := by
              generalize hb' : Value.slice base' sLen sCap' = u at hs
              cases hs with
              | slice _ _ hl =>
                cases hb'
                simp only at p1
                rw [hl] at p1; cases p1
                simp only [inBlock, decide_eq_true_eq] at hin
                refine ⟨_, rfl, rfl, fun _ => ⟨rfl, rfl⟩, fun _ => ?_⟩
                rw [Nat.add_mul]; omega
              | slice0 hl =>
                cases hb'
                simp only at p1
                rw [hl] at p1; cases p1
                simp only [inBlock, decide_eq_true_eq] at hin
                refine ⟨_, rfl, by omega, fun h0 => by simp at h0, fun hf => ?_⟩
                rw [if_neg (by omega)]
                simp only [Nat.zero_add]; omega
            subst hbase
            subst hcap'
            -- what it held
            obtain ⟨oldU, hold, holdrun, holdarr⟩ : ∃ oldU : Array Value, VRs ι old oldU.toList ∧
                (∀ w1 : World, w1.heap = w.heap → (Builtin.firstCells ei.size sLen (.slice (some ⟨l.blk, off', none⟩) sLen (sCap + l.extra))).run P w1 = .ok oldU w1) ∧
                ∀ i, i < sLen * ei.size → arr[off' + i]? = oldU.toList[i]? := by
              by_cases h0 : sLen * ei.size = 0
              · have : old = [] := List.eq_nil_of_length_eq_zero (by omega)
                subst this
                exact ⟨#[], .nil, fun w1 _ => by simp [Builtin.firstCells, h0, loadCells, loadCellsFrom], fun i hi => by omega⟩
              · obtain ⟨hsp, hoff⟩ := hF1 h0
                subst hoff
                rcases g2 with g2 | ⟨_, g2⟩
                · exact absurd g2 h0
                · obtain ⟨r1, r2, r3⟩ := readCells_get p8 _ _ _ g2
                  refine ⟨((arr.toList.drop (l.off + a.off)).take (sLen * ei.size)).toArray, by simpa using r3, ?_, ?_⟩
                  · intro w1 hw1
                    have := run_loadCells (P := P) (w := w1) (k := sLen * ei.size) (o := l.off + a.off) (by rw [hw1]; exact p2) (by omega)
                    simpa [Builtin.firstCells] using this
                  · intro i hi
                    simp [hi, List.getElem?_drop]
            have hLU : VRs ι (old ++ new) (oldU ++ newU).toList := by simpa using hold.append hnew
            have hLlen : (old ++ new).length = (sLen + n) * ei.size := by rw [List.length_append, g1, hnl, Nat.add_mul]
            have hcells : ∀ i, i < (sLen + n) * ei.size → cellAt c' z' ((sLen + n) * ei.size) i = (old ++ new)[i]? := by
              intro i hi
              have := g3 i (by rw [hnl, ← Nat.add_mul]; exact hi)
              rw [hnl, ← Nat.add_mul] at this
              exact this
            by_cases hfc : sLen + n ≤ sCap + l.extra
            · -- in place
              have hroom : room = true := by
                cases room with
                | true => rfl
                | false => have := p5 rfl; omega
              subst hroom
              have hb2 := hF2 hfc
              have hnlU : newU.toList.length = n * ei.size := by rw [← hnew.length]; exact hnl
              have hneed : (sLen + n) * ei.size ≤ (sCap + l.extra) * ei.size := Nat.mul_le_mul_right _ hfc
              have hmul : (sLen + n) * ei.size = sLen * ei.size + n * ei.size := Nat.add_mul _ _ _
              have hst := run_storeCells (P := P) newU.toList w l.blk (off' + sLen * ei.size) 0 arr e' p2 (by rw [← hnew.one1]; exact hone) (by omega)
              have hsub : (sCap + l.extra - (sLen + n)) * ei.size + (sLen + n) * ei.size = (sCap + l.extra) * ei.size := by rw [← Nat.add_mul]; congr 1; omega
              have hfree : ι s.next = none := hR.fresh _ (Nat.le_refl _) hR.odd
              have hobj : ObjR (env P) (ι.add s.next ⟨l.blk, off', sCap + l.extra - (sLen + n), false⟩) (World.setBlk w l.blk (.cells (arrSet arr (off' + sLen * ei.size + 0) newU.toList) e' (0, 0)))
                  ⟨l.blk, off', sCap + l.extra - (sLen + n), false⟩ (.cells c' z' ((sLen + n) * ei.size) e true false (s.clk + 1)) := by
                refine objR_cells (VRs.mono (Inj.le_add hfree) hLU) hLlen.symm hcells (e' := e') (heap_setBlk_same (lt_of_heap p2)) ?_ rfl (fun h => by cases h) ?_ ?_
                · intro i hi
                  have hol : oldU.toList.length = sLen * ei.size := by rw [← hold.length]; exact g1
                  simp only
                  rw [get_arrSet _ _ _ _ (by omega)]
                  by_cases hi2 : i < sLen * ei.size
                  · rw [if_neg (by omega), holdarr i hi2, Array.toList_append, List.getElem?_append_left (by omega)]
                  · rw [if_pos (by omega), Array.toList_append, List.getElem?_append_right (by omega), hol, show off' + i - (off' + sLen * ei.size + 0) = i - sLen * ei.size from by omega]
                    obtain ⟨y, hy⟩ : ∃ y, newU.toList[i - sLen * ei.size]? = some y := ⟨_, List.getElem?_eq_getElem (by omega)⟩
                    rw [hy]
                · intro ei' hei'
                  rw [he] at hei'; cases hei'
                  simp only [size_arrSet]; omega
                · simp only [size_arrSet]; omega
              have k1 := R.graft (H := s.look) hR (show s.look a.block = _ from hH) rfl p1 p4 _ off' (sCap + l.extra - (sLen + n)) hobj
              have k2 := Ext.graft (H := s.look) (w := w) hR.odd hfree (show s.look a.block = _ from hH) rfl p1 p4 (.cells (arrSet arr (off' + sLen * ei.size + 0) newU.toList) e' (0, 0)) off' (sCap + l.extra - (sLen + n))
                (.cells c' z' ((sLen + n) * ei.size) e true false (s.clk + 1))
              have hlook : ((s.kill a.block).new fun v => AObj.cells c' z' ((sLen + n) * ei.size) e true false v).look =
                  upd (upd s.look a.block .dead) s.next (.cells c' z' ((sLen + n) * ei.size) e true false (s.clk + 1)) := by
                rw [look_new]
                show upd (s.kill a.block).look s.next _ = _
                rw [show (s.kill a.block).look = upd s.look a.block .dead from look_put s _ _]
                rfl
              refine ⟨.slice (some ⟨l.blk, off', none⟩) (sLen + n) (sCap + l.extra), ι.add s.next ⟨l.blk, off', sCap + l.extra - (sLen + n), false⟩, World.setBlk w l.blk (.cells (arrSet arr (off' + sLen * ei.size + 0) newU.toList) e' (0, 0)), ?_, ?_, ?_, ?_⟩
              · rw [hfit hfc]
                simp only [Addr.add_none]
                rw [hst]; rfl
              · have := VR.slice (ι := ι.add s.next ⟨l.blk, off', sCap + l.extra - (sLen + n), false⟩) (o := 0) (sLen + n) (sLen + n) (Inj.add_same ι s.next _)
                simpa [show sLen + n + (sCap + l.extra - (sLen + n)) = sCap + l.extra from by omega] using this
              · unfold RS; simp only [if_true]; rw [hlook]; exact k1
              · unfold ES; simp only [if_true]; rw [hlook]; exact k2
            · -- a new array
              obtain ⟨newCap, w1, k1, k2, k3, k4, k5, k6⟩ := hgrow hfc h40 hb47
              have hrun := k6 oldU newU (holdrun w1 k1) (hfirst w1 k1)
              have hs1 : ∃ s1 : St, s1 = (if room then s.kill a.block else s) ∧ s1.next = s.next ∧ RS P ι s1 w ∧ ES ι s w ι s1 w := by
                cases room with
                | true => exact ⟨_, rfl, rfl, (hR.kill a.block).1, (hR.kill a.block).2⟩
                | false => exact ⟨_, rfl, rfl, hR, Ext.refl⟩
              obtain ⟨s1, hs1, hn1, hR1, hE1⟩ := hs1
              rw [← hs1]
              obtain ⟨ι', w', q1, q2, q3, q4⟩ := grows_sound hR1 k1 k2 k3 k4 he hzs hLU hLlen k5 hcells
              rw [hn1] at q2
              refine ⟨_, ι', w', ?_, q2, q3, Ext.trans hE1 q4⟩
              rw [hrun, q1]
          · cases h
        · cases h
      · cases h
end Go.Dust
end
section
/- Operations that change memory: appends as0 they stand in the text, copies, maps, iterators. -/
namespace Go.Dust
variable {P : Program} {ι : Inj} {s s' : St} {w : World}

theorem RS.drew (hR : RS P ι s w) {w' : World} (h : w'.heap = w.heap) : RS P ι s w' := R.drew hR h

theorem lenA_run {x x' : Value} (hx : VR ι x x') {n : Nat} (h : lenA x = some n) (w1 : World) : (Builtin.lenOf x').run P w1 = .ok n w1 := len_run hx h

theorem first_any (hR : RS P ι s w) {size n : Nat} {x x' : Value} (hx : VR ι x x') {l : List Value} (h : firstA s.look size n x = some l) (hn : ∀ a c d, x = .slice a c d → n ≤ c) :
    ∃ l' : Array Value, VRs ι l l'.toList ∧ ∀ w1 : World, w1.heap = w.heap → (Builtin.firstCells size n x').run P w1 = .ok l' w1 := by
  obtain ⟨l', g1, g2⟩ := first_sound (P := P) hR hx h hn
  refine ⟨l', g2, fun w1 hw1 => ?_⟩
  obtain ⟨l'', k1, k2⟩ := first_sound (P := P) (hR.drew hw1) hx h hn
  -- what is read hangs on the memory alone
  have : l'' = l' := by
    unfold firstA at h
    split at h
    · rename_i a c d
      split at h
      · rename_i h0
        cases hx <;> simp [Builtin.firstCells, h0, loadCells, loadCellsFrom] at g1 k1 <;> rw [g1, k1]
      · rename_i h0
        have hc : 0 < c := by
          have := hn _ _ _ rfl
          by_cases hz : n = 0
          · subst hz; simp at h0
          · omega
        cases hx with
        | @slice b0 o0 l0 _ _ hl =>
          unfold loadN at h
          simp only at h
          split at h
          · rename_i cc z m e room ro ver hs hb
            obtain ⟨l1, arr, e', fz, p1, p2, _, _, _, _, p6, p7⟩ := cells_of hR (show s.look _ = _ from hb)
            rw [hl] at p1; cases p1
            obtain ⟨q1, _, _⟩ := readCells_get p7 _ _ _ h
            have r1 := run_loadCells (P := P) (w := w) (k := n * size) (o := l0.off + o0) p2 (by omega)
            have r2 := run_loadCells (P := P) (w := w1) (k := n * size) (o := l0.off + o0) (by rw [hw1]; exact p2) (by omega)
            simp only [Builtin.firstCells] at g1 k1
            rw [r1] at g1
            rw [r2] at k1
            cases g1; cases k1; rfl
          · cases h
        | slice0 hl => omega
    · rw [nilslice_inv hx] at g1 k1
      cases g1; cases k1; rfl
    · rw [hx.string_eq] at g1 k1
      cases g1; cases k1; rfl
    · cases h
  rw [← this]; exact k1

theorem append_sound (hR : RS P ι s w) {argTypes : Array TypeId} {ty : TypeId} {args : List Value} {args' : Array Value} (ha : VRs ι args args'.toList) {v : Value}
    (h : appendA (env P) s argTypes args = some (v, s')) : Does P ι s w (Builtin.append_ argTypes ty args') v s' := by
  unfold appendA at h
  split at h
  · rename_i t t2 base sLen sCap x hat
    generalize hl : args'.toList = l' at ha
    cases ha with
    | cons hs ha =>
    cases ha with
    | cons hx ha =>
    cases ha with
    | nil =>
    rename_i u x'
    split at h
    · rename_i e sz by_ ze ag me cm i2 ht ht2
      split at h
      · rename_i d z esz eb ea em ec n he hn
        split at h
        · cases h
        · rename_i new hf
          split at h
          · rename_i hc
            obtain ⟨c1, c2, c3, c4, c5, c6⟩ := hc
            obtain ⟨newU, q1, q2⟩ := first_any hR hx hf (lenA_le hn)
            have hsv : ∃ base' sCap', u = .slice base' sLen sCap' := by
              cases hs <;> exact ⟨_, _, rfl⟩
            obtain ⟨base', sCap', rfl⟩ := hsv
            exact appendB_sound hR hat hl ht rfl ht2 c2 he rfl c3 (fun w1 => lenA_run hx hn w1) hs q1 q2 c1 c4 c5 c6 h
          · cases h
      · cases h
    · cases h
  · cases h

theorem copy_sound (hR : RS P ι s w) {argTypes : Array TypeId} {ty : TypeId} {args : List Value} {args' : Array Value} (ha : VRs ι args args'.toList) {v : Value}
    (h : copyA (env P) s argTypes args = some (v, s')) : Does P ι s w (Builtin.copy_ argTypes ty args') v s' := by
  unfold copyA at h
  split at h
  · rename_i t base dLen dCap x hat
    generalize hl : args'.toList = l' at ha
    cases ha with
    | cons hs ha =>
    cases ha with
    | cons hx ha =>
    cases ha with
    | nil =>
    rename_i u x'
    obtain ⟨b0, b1⟩ : args'[0]? = some u ∧ args'[1]? = some x' := by
      constructor
      · rw [← Array.getElem?_toList, hl]; rfl
      · rw [← Array.getElem?_toList, hl]; rfl
    split at h
    · rename_i e sz by_ ze ag me cm ht
      split at h
      · rename_i ei m he hm
        split at h
        · rename_i cs hf
          obtain ⟨csU, q1, q2⟩ := first_any hR hx hf (fun a c d e => Nat.le_trans (Nat.min_le_left m dLen) (lenA_le hm a c d e))
          have hsv : ∃ base' dCap', u = .slice base' dLen dCap' ∧ (base = none ↔ base' = none) := by
            cases hs <;> exact ⟨_, _, rfl, by simp⟩
          obtain ⟨base', dCap', rfl, hbn⟩ := hsv
          have hrun : (Builtin.copy_ argTypes ty args').run P w = ((match base' with | some a => storeCells a csU.toList | none => pure ()).run P w).andThen fun _ w' => .ok (goInt (Nat.min m dLen : Nat)) w' := by
            unfold Builtin.copy_
            simp only [hat, b0, b1, Sem.run_bind, run_underlyingA ht, Result.andThen_ok, lenA_run hx hm w, run_sizeOfA he, q2 w rfl]
            cases base' <;> simp
          split at h
          · rename_i a
            split at h
            · rename_i hemp
              simp only [Option.some.injEq, Prod.mk.injEq] at h
              obtain ⟨rfl, rfl⟩ := h
              have : cs = [] := by simpa using hemp
              subst this
              have hU := q1.nil_left
              refine ⟨_, ι, w, ?_, .int _ _, hR, Ext.refl⟩
              rw [hrun]
              cases base' with
              | none => rfl
              | some a' => simp [goInt, hU, storeCells]
            · rename_i hemp
              split at h
              · rename_i s1 hst
                simp only [Option.some.injEq, Prod.mk.injEq] at h
                obtain ⟨rfl, rfl⟩ := h
                generalize hb' : Value.slice base' dLen dCap' = u' at hs
                cases hs with
                | slice _ _ hl2 =>
                  cases hb'
                  obtain ⟨w', g1, g2, g3⟩ := storeN_sound hR hl2 q1 hst
                  refine ⟨_, ι, w', ?_, .int _ _, g2, g3⟩
                  rw [hrun]
                  simp only [g1]; rfl
                | slice0 hl2 =>
                  unfold storeN at hst
                  simp at hst
              · cases h
          · simp only [Option.some.injEq, Prod.mk.injEq] at h
            obtain ⟨rfl, rfl⟩ := h
            have : base' = none := hbn.1 rfl
            subst this
            exact ⟨_, ι, w, by rw [hrun]; rfl, .int _ _, hR, Ext.refl⟩
        · cases h
      · cases h
    · cases h
  · cases h

/-! ### Maps -/
theorem sameBits_key {k x : Value} (h : keyEq k x = some true) : Instr.sameBits 10000 x k = true := by
  unfold keyEq at h
  split at h
  · split at h
    · rename_i hk
      subst hk
      simp only [Option.some.injEq, beq_iff_eq] at h
      subst h
      simp [Instr.sameBits]
    · cases h
  · simp only [Option.some.injEq] at h
    simp only [Instr.sameBits]
    rw [beq_toListBytes] at h ⊢
    rw [beq_iff_eq] at h ⊢
    exact h.symm
  · simp only [Option.some.injEq, beq_iff_eq] at h
    subst h
    simp [Instr.sameBits]
  · cases h
theorem ERs.get {l l' : List MapEntry} (h : ERs ι l l') (j : Nat) {e : MapEntry} (he : l[j]? = some e) : ∃ e', l'[j]? = some e' ∧ ER ι e e' := by
  induction h generalizing j with
  | nil => simp at he
  | cons hx t ih =>
    cases j with
    | zero => simp at he; subst he; exact ⟨_, by simp, hx⟩
    | succ j => obtain ⟨e', h1, h2⟩ := ih j (by simpa using he); exact ⟨e', by simpa using h1, h2⟩
theorem ERs.modify {l l' : List MapEntry} (h : ERs ι l l') (j : Nat) {f g : MapEntry → MapEntry} (hfg : ∀ e e', ER ι e e' → ER ι (f e) (g e')) : ERs ι (l.modify j f) (l'.modify j g) := by
  induction h generalizing j with
  | nil => simp; exact .nil
  | cons hx t ih =>
    cases j with
    | zero => simp only [List.modify_zero_cons]; exact .cons (hfg _ _ hx) t
    | succ j => simp only [List.modify_succ_cons]; exact .cons hx (ih j)
theorem ERs.append {a a' b b' : List MapEntry} (h : ERs ι a a') (k : ERs ι b b') : ERs ι (a ++ b) (a' ++ b') := by
  induction h with
  | nil => exact k
  | cons hx _ ih => exact .cons hx ih
theorem ERs.eraseIdx {l l' : List MapEntry} (h : ERs ι l l') (j : Nat) : ERs ι (l.eraseIdx j) (l'.eraseIdx j) := by
  induction h generalizing j with
  | nil => simp; exact .nil
  | cons hx t ih =>
    cases j with
    | zero => simpa using t
    | succ j => simp only [List.eraseIdx_cons_succ]; exact .cons hx (ih j)

theorem map_of (hR : RS P ι s w) {r : Nat} {es : List MapEntry} {c ver : Nat} (h : s.heap.get r = some (.map es c ver)) :
    ∃ l es', ι r = some l ∧ l.ro = false ∧ l.off = 0 ∧ l.extra = 0 ∧ w.heap[l.blk]? = some (.map es' c) ∧ ERs ι es es'.toList := by
  obtain ⟨l, h1, h2, h3, h4, es', h5, h6⟩ := hR.obj r _ (show s.look r = _ from h) rfl
  exact ⟨l, es', h1, h2, h3, h4, h5, h6⟩
theorem run_setMap {b : Nat} {es : Array MapEntry} {c : Nat} (h : w.heap[b]? = some (.map es c)) (o : Obj) : (setObj b o).run P w = .ok () (World.setBlk w b o) := by
  simp [setObj, Sem.run, h, World.setBlk]

theorem mapPut_sound (hR : RS P ι s w) {t : TypeId} {m k v m' k' v' : Value} (hm : VR ι m m') (hk : VR ι k k') (hv : VR ι v v') (h : mapPut (env P) s t m k v = some s') :
    ∃ w', (Instr.mapUpdate t m' k' v').run P w = .ok () w' ∧ RS P ι s' w' ∧ ES ι s w ι s' w' := by
  unfold mapPut at h
  split at h
  · rename_i kt et sz by_ ze ag me cm r ht
    obtain ⟨l, hl, rfl⟩ := map_inv hm
    split at h
    · rename_i hkk
      have hkeq := key_eq hkk hk
      have hkeq' := hkeq.symm
      subst hkeq'
      split at h
      · rename_i es c ver hH
        obtain ⟨l', es', p1, p2, p3, p4, p5, p6⟩ := map_of hR hH
        rw [hl] at p1; cases p1
        have hck := run_checkKey (w := w) hkk false
        split at h
        · rename_i j v0 hf
          simp only [Option.some.injEq] at h; subst h
          obtain ⟨r', g1, v0', g2, g3, e0, g4, g5⟩ := run_findKey (P := P) (w := w) hkk p6 hf
          subst g2
          obtain ⟨e0', q1, q2⟩ := p6.get j g4
          have q1' : es'[j]? = some e0' := by simpa using q1
          have hsb : Instr.sameBits 10000 e0'.key k = true := by
            rw [keyEq_left g5 q2.key]; exact sameBits_key g5
          refine ⟨_, ?_, hR.put hH rfl hl p2 (.map (es'.modify j fun e => { e with key := k, val := v' }) c) ⟨p2, p3, p4, _, heap_setBlk_same (lt_of_heap p5), ?_⟩⟩
          · unfold Instr.mapUpdate
            simp only [Sem.run_bind, run_underlyingA ht, Result.andThen_ok, run_getMap p5, hck, g1, q1', Option.map_some, Option.getD_some, Instr.keyThatStays, hsb, if_true, Sem.run_pure, run_setMap p5]
          · rw [Array.toList_modify]
            exact p6.modify j fun e e' he => ⟨hk, hv, he.born⟩
        · rename_i hf
          simp only [Option.some.injEq] at h; subst h
          obtain ⟨r', g1, g2⟩ := run_findKey (P := P) (w := w) hkk p6 hf
          cases (show r' = none from g2)
          refine ⟨_, ?_, hR.put hH rfl hl p2 (.map (es'.push { key := k, val := v', born := c }) (c + 1)) ⟨p2, p3, p4, _, heap_setBlk_same (lt_of_heap p5), ?_⟩⟩
          · unfold Instr.mapUpdate
            simp only [Sem.run_bind, run_underlyingA ht, Result.andThen_ok, run_getMap p5, hck, g1, run_setMap p5]
          · rw [Array.toList_push]
            exact p6.append (.cons ⟨hk, hv, rfl⟩ .nil)
        · cases h
      · cases h
    · cases h
  · cases h

theorem delete_sound (hR : RS P ι s w) {argTypes : Array TypeId} {ty : TypeId} {args : List Value} {args' : Array Value} (ha : VRs ι args args'.toList) {v : Value}
    (h : deleteA (env P) s argTypes args = some (v, s')) : Does P ι s w (Builtin.delete_ argTypes ty args') v s' := by
  unfold deleteA at h
  split at h
  · rename_i t m k hat
    generalize hl : args'.toList = l' at ha
    cases ha with
    | cons hm ha =>
    cases ha with
    | cons hk ha =>
    cases ha with
    | nil =>
    rename_i m' k'
    obtain ⟨b0, b1⟩ : args'[0]? = some m' ∧ args'[1]? = some k' := by
      constructor
      · rw [← Array.getElem?_toList, hl]; rfl
      · rw [← Array.getElem?_toList, hl]; rfl
    have hunit : VR ι (.tuple #[]) (.tuple #[]) := VR.undef ι
    split at h
    · rename_i kt et sz by_ ze ag me cm ht
      split at h
      · rename_i hkk
        have hkeq := key_eq hkk hk
        have hkeq' := hkeq.symm
        subst hkeq'
        split at h
        · rw [nilmap_inv hm] at b0
          simp only [Option.some.injEq, Prod.mk.injEq] at h
          obtain ⟨rfl, rfl⟩ := h
          refine ⟨_, ι, w, ?_, hunit, hR, Ext.refl⟩
          unfold Builtin.delete_
          simp only [hat, b0, b1, Sem.run_bind, run_underlyingA ht, Result.andThen_ok, run_checkKey hkk, Sem.run_pure]
        · rename_i r
          obtain ⟨l, hl2, rfl⟩ := map_inv hm
          split at h
          · rename_i es c ver hH
            obtain ⟨l', es', p1, p2, p3, p4, p5, p6⟩ := map_of hR hH
            rw [hl2] at p1; cases p1
            split at h
            · rename_i j v0 hf
              simp only [Option.some.injEq, Prod.mk.injEq] at h
              obtain ⟨rfl, rfl⟩ := h
              obtain ⟨r', g1, v0', g2, g3, e0, g4, g5⟩ := run_findKey (P := P) (w := w) hkk p6 hf
              subst g2
              obtain ⟨q1, q2⟩ := hR.put (f := fun v => .map (es.eraseIdx j) c v) hH rfl hl2 p2 (.map (es'.eraseIdxIfInBounds j) c) ⟨p2, p3, p4, _, heap_setBlk_same (lt_of_heap p5), by
                rw [Array.toList_eraseIdxIfInBounds]; exact p6.eraseIdx j⟩
              refine ⟨_, ι, _, ?_, hunit, q1, q2⟩
              unfold Builtin.delete_
              simp only [hat, b0, b1, Sem.run_bind, run_underlyingA ht, Result.andThen_ok, run_getMap p5, run_checkKey hkk, g1, run_setMap p5, Sem.run_pure]
            · rename_i hf
              simp only [Option.some.injEq, Prod.mk.injEq] at h
              obtain ⟨rfl, rfl⟩ := h
              obtain ⟨r', g1, g2⟩ := run_findKey (P := P) (w := w) hkk p6 hf
              cases (show r' = none from g2)
              refine ⟨_, ι, w, ?_, hunit, hR, Ext.refl⟩
              unfold Builtin.delete_
              simp only [hat, b0, b1, Sem.run_bind, run_underlyingA ht, Result.andThen_ok, run_getMap p5, run_checkKey hkk, g1, run_setMap p5, Sem.run_pure]
              rw [setBlk_self p5]
            · cases h
          · cases h
        · cases h
      · cases h
    · cases h
  · cases h
theorem rep_get {α : Type} (l : List α) : ∀ (n i : Nat), (rep l n)[i]? = if i < n * l.length then l[i % l.length]? else none
  | 0, i => by simp [rep]
  | n + 1, i => by
    rw [rep]
    by_cases h : i < l.length
    · rw [List.getElem?_append_left h, if_pos (by rw [Nat.succ_mul]; omega), Nat.mod_eq_of_lt h]
    · rw [List.getElem?_append_right (by omega), rep_get l n]
      have hm : (i - l.length) % l.length = i % l.length := (Nat.mod_eq_sub_mod (by omega)).symm
      rw [hm]
      have : (i - l.length < n * l.length) = (i < (n + 1) * l.length) := by rw [Nat.succ_mul]; simp; omega
      simp only [this]
theorem zeroCells_rep (z : Array Value) (n : Nat) : (Builtin.zeroCells z n).toList = rep z.toList n := by
  apply List.ext_getElem?
  intro i
  rw [rep_get]
  simp only [Builtin.zeroCells, Array.toList_map, List.getElem?_map]
  by_cases h : i < n * z.size
  · have hpos : 0 < z.size := by
      by_cases h0 : z.size = 0
      · rw [h0] at h; simp at h
      · omega
    have hmod : i % z.size < z.size := Nat.mod_lt _ hpos
    have h1 : (Array.range (n * z.size)).toList[i]? = some i := by simp [h]
    rw [h1, if_pos (by simpa using h)]
    simp only [Option.map_some, Array.length_toList]
    rw [getElem!_pos z _ hmod]
    simp [hmod]
  · have h1 : (Array.range (n * z.size)).toList[i]? = none := by simp; omega
    rw [h1, if_neg (by simpa using h)]; rfl
theorem VRs.rep {l l' : List Value} (h : VRs ι l l') : ∀ n, VRs ι (Dust.rep l n) (Dust.rep l' n)
  | 0 => .nil
  | n + 1 => h.append (VRs.rep h n)

theorem clear_sound (hR : RS P ι s w) {argTypes : Array TypeId} {ty : TypeId} {args : List Value} {args' : Array Value} (ha : VRs ι args args'.toList) {v : Value}
    (h : clearA (env P) s argTypes args = some (v, s')) : Does P ι s w (Builtin.clear_ argTypes ty args') v s' := by
  unfold clearA at h
  split at h
  · rename_i t x hat
    generalize hl : args'.toList = l' at ha
    cases ha with
    | cons hx ha =>
    cases ha with
    | nil =>
    rename_i x'
    have b0 : args'[0]? = some x' := by rw [← Array.getElem?_toList, hl]; rfl
    have hunit : VR ι (.tuple #[]) (.tuple #[]) := VR.undef ι
    cases ht : (env P).ty t with
    | none => rw [ht] at h; cases h
    | some i =>
      rw [ht] at h
      simp only at h
      split at h
      · simp only [Option.some.injEq, Prod.mk.injEq] at h
        obtain ⟨rfl, rfl⟩ := h
        rw [nilmap_inv hx] at b0
        refine ⟨_, ι, w, ?_, hunit, hR, Ext.refl⟩
        unfold Builtin.clear_
        simp only [hat, b0, Sem.run_bind, run_underlyingA ht, Result.andThen_ok, Sem.run_pure]
      · simp only [Option.some.injEq, Prod.mk.injEq] at h
        obtain ⟨rfl, rfl⟩ := h
        rw [nilslice_inv hx] at b0
        refine ⟨_, ι, w, ?_, hunit, hR, Ext.refl⟩
        unfold Builtin.clear_
        simp only [hat, b0, Sem.run_bind, run_underlyingA ht, Result.andThen_ok, Sem.run_pure]
      · rename_i r
        obtain ⟨l, hl2, rfl⟩ := map_inv hx
        split at h
        · rename_i es c ver hH
          obtain ⟨l', es', p1, p2, p3, p4, p5, p6⟩ := map_of hR hH
          rw [hl2] at p1; cases p1
          simp only [Option.some.injEq, Prod.mk.injEq] at h
          obtain ⟨rfl, rfl⟩ := h
          obtain ⟨q1, q2⟩ := hR.put (f := fun v => .map [] c v) hH rfl hl2 p2 (.map #[] c) ⟨p2, p3, p4, _, heap_setBlk_same (lt_of_heap p5), .nil⟩
          refine ⟨_, ι, _, ?_, hunit, q1, q2⟩
          unfold Builtin.clear_
          simp only [hat, b0, Sem.run_bind, run_underlyingA ht, Result.andThen_ok, run_getMap p5, run_setMap p5, Sem.run_pure]
        · cases h
      · rename_i a n cap
        split at h
        · rename_i hn0
          subst hn0
          simp only [Option.some.injEq, Prod.mk.injEq] at h
          obtain ⟨rfl, rfl⟩ := h
          refine ⟨.tuple #[], ι, w, ?_, hunit, hR, Ext.refl⟩
          unfold Builtin.clear_
          cases hx <;> simp only [hat, b0, Sem.run_bind, run_underlyingA ht, Result.andThen_ok, Sem.run_pure]
        · rename_i hn0
          split at h
          · rename_i e hd
            split at h
            · rename_i d sz by_ z ag me cm he
              split at h
              · rename_i s1 hst
                simp only [Option.some.injEq, Prod.mk.injEq] at h
                obtain ⟨rfl, rfl⟩ := h
                have hz : VRs ι z.cells.toList z.cells.toList := VR.cells (.closed (zero_closed he rfl))
                cases hx with
                | @slice b0' o0 l0 _ _ hl2 =>
                  obtain ⟨w', g1, g2, g3⟩ := storeN_sound (P := P) hR hl2 (hz.rep n) hst
                  refine ⟨.tuple #[], ι, w', ?_, hunit, g2, g3⟩
                  unfold Builtin.clear_
                  obtain ⟨m, rfl⟩ : ∃ m, n = m + 1 := ⟨n - 1, by omega⟩
                  simp only [hat, b0, Sem.run_bind, run_underlyingA ht, hd, Result.andThen_ok, run_zeroA he rfl, zeroCells_rep, g1, Sem.run_pure]
                | slice0 hl2 => omega
              · cases h
            · cases h
          · cases h
      · cases h
  · cases h

/-! ### Iterators -/
theorem iter_new (hR : RS P ι s w) (x : Obj) (f : Nat → AObj) (ho : ObjR (env P) (ι.add s.next (newLoc w)) (w.alloc x) (newLoc w) (f s.clk)) :
    ∃ ι', VR ι' (.pointer (some ⟨s.next, 0, none⟩)) (.pointer (some ⟨w.heap.size, 0, none⟩)) ∧ RS P ι' (s.new f) (w.alloc x) ∧ ES ι s w ι' (s.new f) (w.alloc x) := by
  obtain ⟨g1, g2⟩ := RS.new hR x ho
  refine ⟨_, ?_, g1, g2⟩
  have := VR.ptr (ι := ι.add s.next (newLoc w)) (o := 0) (Inj.add_same ι s.next (newLoc w))
  simpa [newLoc] using this

theorem RS.free (hR : RS P ι s w) : ι s.next = none := hR.fresh _ (Nat.le_refl _) hR.odd
end Go.Dust
end
section
/- One operation, whatever it is, inside a walk. -/
namespace Go.Dust
variable {P : Program} {ι : Inj} {s s' : St} {w : World}

/-- The fence that lets everything in. -/
abbrev FW (r : Option Nat) : Fence := { Fence.wide with round := r }

/-- What a call comes to. -/
def Back (P : Program) (ι : Inj) (s : St) (w : World) (Φ : Value × St → Prop) : Ending → World → Prop
  | e, w' => ∃ v u s' ι', e = .returned u ∧ Φ (v, s') ∧ VR ι' v u ∧ RS P ι' s' w' ∧ ES ι s w ι' s' w'

structure CallOK (P : Program) (call : CallF) : Prop where
  fn : ∀ f args s Φ, (call f args s).All Φ → ∃ fn, (env P).fn f = some fn ∧ (fn.body = none → (externA s fn args).All Φ)
  calls : ∀ f fn args (args' : Array Value) s w ι Φ (r : Option Nat) (m : Nat), (env P).fn f = some fn → fn.body.isSome = true → (call f args s).All Φ → VRs ι args args'.toList → RS P ι s w →
    CallsIn (FW r) m P f args' w (Back P ι s w Φ)
def RoundOK (P : Program) (round : RoundF) : Prop := ∀ l args (args' : Array Value) s w ι Φ (r : Option Nat) (m : Nat), (round l args s).All Φ → VRs ι args args'.toList → RS P ι s w →
  ∃ (loc : Loc) (rec : Loop), ι l = some loc ∧ w.heap[loc.blk]? = some (.loop rec) ∧ args'.size = rec.params.size ∧
    RoundIn (FW r) m P loc.blk rec.fn ((rec.params.zip args').foldl (fun tmps (t, a) => tmps.setIfInBounds t a) rec.tmps) rec.assign rec.body w (Back P ι s w Φ)

section
variable {r : Option Nat} {m : Nat} {o : Oper} {act : Act} {K : Act → World → Prop} {Q : Exit → Act → World → Prop} {w' : World}
theorem wpIn_value (hd : ∀ c, o.op ≠ .defer c) {u : Value} (h : (execOp act.eval o).run P w = .ok (.value u) w') (hk : K (act.put o.dst u) w') : o.wpIn (FW r) m P act w K Q := by
  refine ⟨fun _ _ => trivial, ?_⟩
  rw [Oper.semAt_eq _ _ _ hd, h]
  exact hk
theorem wpIn_skipOp (hd : ∀ c, o.op ≠ .defer c) (h : (execOp act.eval o).run P w = .ok .skip w') (hk : K (act.put o.dst undef) w') : o.wpIn (FW r) m P act w K Q := by
  refine ⟨fun _ _ => trivial, ?_⟩
  rw [Oper.semAt_eq _ _ _ hd, h]
  exact hk
theorem wpIn_enter (hd : ∀ c, o.op ≠ .defer c) {f : FuncId} {args : Array Value} (h : (execOp act.eval o).run P w = .ok (.enter f args) w')
    (hk : CallsIn (FW r) (m - 1) P f args w' fun e w'' => match e with | .returned u => K (act.put o.dst u) w'' | .panicked chain => Q (.panic chain) act w'' | .outgrown => LetsOut Q) : o.wpIn (FW r) m P act w K Q := by
  refine ⟨fun _ _ => trivial, ?_⟩
  rw [Oper.semAt_eq _ _ _ hd, h]
  refine ⟨fun h => (by cases h), hk.mono fun e w'' he => ?_⟩
  cases e <;> exact he
theorem wpIn_round (hd : ∀ c, o.op ≠ .defer c) {l : Nat} {f : FuncId} {tmps : Array Value} {assign body : Code} (h : (execOp act.eval o).run P w = .ok (.round l f tmps assign body) w')
    (hk : RoundIn (FW r) (m - 1) P l f tmps assign body w' fun e w'' => match e with | .returned u => K (act.put o.dst u) w'' | .panicked chain => Q (.panic chain) act w'' | .outgrown => LetsOut Q) : o.wpIn (FW r) m P act w K Q := by
  refine ⟨fun _ _ => trivial, ?_⟩
  rw [Oper.semAt_eq _ _ _ hd, h]
  refine ⟨fun h => (by cases h), hk.mono fun e w'' he => ?_⟩
  cases e <;> exact he
end

/-! ### Calls -/
theorem run_callFunc {f : FuncId} {fn : Func} (h : (env P).fn f = some fn) (hb : fn.body.isSome = true) (args : Array Value) : (callFunc f args).run P w = .ok (.enter f args) w := by
  obtain ⟨h1, h2⟩ := fn_some h
  unfold okFn at h2
  obtain ⟨c, hc⟩ := Option.isSome_iff_exists.1 hb
  rw [hc] at h2
  simp only [Bool.and_eq_true, bne_iff_ne, ne_eq] at h2
  unfold callFunc
  simp only [Sem.run_bind, run_program, Result.andThen_ok, h1]
  rw [if_neg (by simpa using h2.1.1), if_neg (by simp [hc])]
  rfl

theorem look_next : Extern.allNextRows.lookup "maps.clone" = none := by kernel_rfl
theorem look_next0 : Extern.allNextRows.lookup "" = none := by kernel_rfl
theorem look_gen : Extern.allGenericRows.lookup "maps.clone" = none := by kernel_rfl
theorem look_typed : Extern.allTypedRows.lookup "maps.clone" = none := by kernel_rfl
theorem look_all : Extern.allRows.lookup "maps.clone" = some Extern.MapsClone.clone := by kernel_rfl

theorem extern_sound (hR : RS P ι s w) {f : FuncId} {fn : Func} (h : (env P).fn f = some fn) (hb : fn.body = none) {args : List Value} {args' : Array Value} (ha : VRs ι args args'.toList) {Φ : Value × St → Prop}
    (hA : (externA s fn args).All Φ) : ∃ v u s' ι' w', (callFunc f args').run P w = .ok (.value u) w' ∧ Φ (v, s') ∧ VR ι' v u ∧ RS P ι' s' w' ∧ ES ι s w ι' s' w' := by
  obtain ⟨h1, _⟩ := fn_some h
  unfold externA at hA
  split at hA
  · rename_i hn
    obtain ⟨hname, horig⟩ := hn
    split at hA
    · rename_i t b
      generalize hl : args'.toList = l' at ha
      cases ha with
      | cons hx ha =>
      cases ha with
      | nil =>
      cases hx with
      | iface _ hx =>
      obtain ⟨l, hl2, rfl⟩ := map_inv hx
      have hargs : args' = #[.iface t (.map (some l.blk))] := by apply Array.toList_inj.1; rw [hl]
      split at hA
      · rename_i es c ver hH
        obtain ⟨l', es', p1, p2, p3, p4, p5, p6⟩ := map_of hR hH
        rw [hl2] at p1; cases p1
        have hfree := hR.free
        obtain ⟨g1, g2⟩ := RS.new (ex := 0) hR (.map es' c) (f := fun v => .map es c v) ⟨rfl, rfl, rfl, es', heap_alloc_new, p6.mono (Inj.le_add hfree)⟩
        refine ⟨_, .iface t (.map (some w.heap.size)), _, _, _, ?_, hA, .iface _ (.map (Inj.add_same ι s.next _)), g1, g2⟩
        have hfind : Extern.findNext fn = none := by
          unfold Extern.findNext
          simp [hname, horig, look_next, look_next0]
        have hfind2 : Extern.find fn = some Extern.MapsClone.clone := by
          unfold Extern.find
          simp [hname, look_gen, look_typed, look_all]
        unfold callFunc
        simp only [Sem.run_bind, run_program, Result.andThen_ok, h1]
        rw [if_neg (by rw [hname]; decide), if_pos (by simp [hb])]
        have hcl : (Extern.MapsClone.clone #[.iface t (.map (some l.blk))]).run P w = .ok (.iface t (.map (some w.heap.size))) (w.alloc (.map es' c)) := by
          have e0 : Extern.MapsClone.clone #[.iface t (.map (some l.blk))] = (do
              let .map entries clock ← getObj l.blk | stuck "maps.clone: a map expected"
              pure (.iface t (.map (some (← newObj (.map entries clock)))))) := rfl
          rw [e0]
          simp only [Sem.run_bind, run_getMap p5, Result.andThen_ok, run_newObj, Sem.run_pure]
          rfl
        simp only [Sem.run_bind, run_mark, Result.andThen_ok, hfind, hfind2, hargs, hcl, Sem.run_pure]
      · exact hA.elim
    · exact hA.elim
  · exact hA.elim

/-! ### Methods -/
theorem follow1_sound : ∀ (path : List FieldStep) (t xt : TypeId) (v v' x : Value), VR ι v v' → follow1 (env P) path t v = some (xt, x) → ∃ x', (follow path t (.val v')).run P w = .ok (xt, .val x') w ∧ VR ι x x'
  | [], t, xt, v, v', x, hv, h => by
    simp only [follow1, Option.some.injEq, Prod.mk.injEq] at h
    obtain ⟨rfl, rfl⟩ := h
    exact ⟨v', rfl, hv⟩
  | st :: rest, t, xt, v, v', x, hv, h => by
    simp only [follow1] at h
    split at h
    · rename_i fields sz by_ ze ag me cm ht
      split at h
      · rename_i f cs hf hde
        obtain ⟨cs', rfl, hcs⟩ := hv.agg_inv
        split at h
        · rename_i u hu
          obtain ⟨u', g1, g2⟩ := part_sound (P := P) (w := w) hcs hu
          obtain ⟨x', k1, k2⟩ := follow1_sound rest f.type xt u u' x g2 h
          refine ⟨x', ?_, k2⟩
          simp only [follow, Sem.run_bind, run_underlyingA ht, Result.andThen_ok, hf, hde, Bool.false_eq_true, if_false, g1, k1]
        · cases h
      · cases h
    · cases h

theorem method_sound {t : TypeId} {v v' x : Value} {name : String} {f : FuncId} (hv : VR ι v v') (h : methodA (env P) t v name = some (f, x)) (k : Nat) :
    ∃ x', (method (k + 1) t v' name).run P w = .ok (f, x') w ∧ VR ι x x' := by
  unfold methodA at h
  cases ht : (env P).ty t with
  | none => rw [ht] at h; cases h
  | some i =>
    rw [ht] at h
    simp only at h
    obtain ⟨inf, e1, _, e3⟩ := run_bytesA (w := w) ht
    split at h
    · rename_i mm hm
      split at h
      · rename_i xt y hfo
        obtain ⟨y', g1, g2⟩ := follow1_sound (P := P) (w := w) _ _ _ _ _ _ hv hfo
        have hm' : inf.methods.find? (fun x => x.name == name) = some mm := by rw [e3]; exact hm
        split at h
        · rename_i f0 el sz by_ ze ag me cm hfun hxt
          simp only [Option.some.injEq, Prod.mk.injEq] at h
          obtain ⟨rfl, rfl⟩ := h
          refine ⟨y', ?_, g2⟩
          simp only [method, Sem.run_bind, e1, Result.andThen_ok, hm', g1, hfun, receiverAt, run_underlyingA hxt, Place.get, Sem.run_pure]
        · cases h
        · rename_i f0 xi hnp hfun hxt
          simp only [Option.some.injEq, Prod.mk.injEq] at h
          obtain ⟨rfl, rfl⟩ := h
          refine ⟨y', ?_, g2⟩
          simp only [method, Sem.run_bind, e1, Result.andThen_ok, hm', g1, hfun, receiverAt, run_underlyingA hxt]
          cases hd : xi.desc with
          | pointer el =>
            exfalso
            obtain ⟨a1, a2, a3, a4, a5, a6, a7⟩ := xi
            simp only at hd
            subst hd
            exact hnp _ _ _ _ _ _ _ rfl
          | _ => simp [Place.get]
        · cases h
      · cases h
    · cases h
end Go.Dust
end
section
/- Effects inside a walk; every operation. -/
namespace Go.Dust
variable {P : Program} {ι : Inj} {s s' : St} {w : World}

theorem ERs.filter {p : MapEntry → Bool} (hp : ∀ e e' : MapEntry, e.born = e'.born → p e = p e') {l l' : List MapEntry} (h : ERs ι l l') : ERs ι (l.filter p) (l'.filter p) := by
  induction h with
  | nil => exact .nil
  | @cons e e' l l' hx t ih =>
    simp only [List.filter_cons]
    rw [← hp e e' hx.born]
    cases p e
    · exact ih
    · exact .cons hx ih
theorem ERs.all {p : MapEntry → Bool} (hp : ∀ e e' : MapEntry, e.born = e'.born → p e = p e') {l l' : List MapEntry} (h : ERs ι l l') : l.all p = l'.all p := by
  induction h with
  | nil => rfl
  | @cons e e' l l' hx t ih => simp only [List.all_cons]; rw [hp e e' hx.born, ih]

/-- The candidates of a step over a map, as0 the model has them. -/
def candsC (es : Array MapEntry) (since : Nat) (seen : Array Nat) : Array (Option MapEntry) :=
  (if ((es.filter fun e => !seen.contains e.born).filter (·.born < since)).isEmpty then #[none] else #[]) ++
    (((es.filter fun e => !seen.contains e.born).filter (·.born < since)) ++ ((es.filter fun e => !seen.contains e.born).filter (·.born ≥ since))).map some
inductive ORs (ι : Inj) : List (Option MapEntry) → List (Option MapEntry) → Prop
  | nil : ORs ι [] []
  | none {l l' : List (Option MapEntry)} (t : ORs ι l l') : ORs ι (none :: l) (none :: l')
  | some {e e' : MapEntry} {l l' : List (Option MapEntry)} (h : ER ι e e') (t : ORs ι l l') : ORs ι (some e :: l) (some e' :: l')
theorem ORs.length {l l' : List (Option MapEntry)} (h : ORs ι l l') : l.length = l'.length := by induction h <;> simp [*]
theorem ORs.map {l l' : List MapEntry} (h : ERs ι l l') : ORs ι (l.map Option.some) (l'.map Option.some) := by
  induction h with
  | nil => exact .nil
  | cons hx _ ih => exact .some hx ih
theorem ORs.get {l l' : List (Option MapEntry)} (h : ORs ι l l') (i : Nat) : (l[i]? = Option.none ∧ l'[i]? = Option.none) ∨ (l[i]? = Option.some Option.none ∧ l'[i]? = Option.some Option.none) ∨
    (∃ e e', l[i]? = Option.some (Option.some e) ∧ l'[i]? = Option.some (Option.some e') ∧ ER ι e e') := by
  induction h generalizing i with
  | nil => exact .inl ⟨by simp, by simp⟩
  | none t ih =>
    cases i with
    | zero => exact .inr (.inl ⟨by simp, by simp⟩)
    | succ i => simpa using ih i
  | some hx t ih =>
    cases i with
    | zero => exact .inr (.inr ⟨_, _, by simp, by simp, hx⟩)
    | succ i => simpa using ih i
theorem cands_rel {es : List MapEntry} {es' : Array MapEntry} (h : ERs ι es es'.toList) (since : Nat) (seen : List Nat) :
    ORs ι (candsA es since seen) (candsC es' since seen.reverse.toArray).toList := by
  have h1 : ERs ι (es.filter fun e => !seen.contains e.born) (es'.toList.filter fun e => !seen.reverse.toArray.contains e.born) := by
    have hc : (fun e : MapEntry => !seen.reverse.toArray.contains e.born) = fun e => !seen.contains e.born := by
      funext e
      simp
    rw [hc]
    exact h.filter fun e e' hb => by rw [hb]
  have h2 := h1.filter (p := fun e => decide (e.born < since)) fun e e' hb => by rw [hb]
  have h3 := h1.filter (p := fun e => decide (e.born ≥ since)) fun e e' hb => by rw [hb]
  unfold candsA candsC
  simp only [Array.toList_append, Array.toList_map, Array.toList_filter]
  have hemp : (List.filter (fun e => decide (e.born < since)) (List.filter (fun e => !seen.contains e.born) es)).isEmpty =
      ((es'.filter fun e => !seen.reverse.toArray.contains e.born).filter (·.born < since)).isEmpty := by
    have := h2.length
    rw [Bool.eq_iff_iff]
    simp only [List.isEmpty_iff, Array.isEmpty_iff]
    rw [← List.length_eq_zero_iff, this]
    rw [← Array.size_eq_zero_iff, ← Array.length_toList]
    simp
  rw [hemp]
  have happ : ORs ι (List.map Option.some (List.filter (fun e => decide (e.born < since)) (List.filter (fun e => !seen.contains e.born) es) ++ List.filter (fun e => decide (e.born ≥ since)) (List.filter (fun e => !seen.contains e.born) es)))
      (List.map Option.some (List.filter (fun e => decide (e.born < since)) (List.filter (fun e => !seen.reverse.toArray.contains e.born) es'.toList) ++ List.filter (fun e => decide (e.born ≥ since)) (List.filter (fun e => !seen.reverse.toArray.contains e.born) es'.toList))) :=
    ORs.map (h2.append h3)
  split
  · exact .none happ
  · exact happ

theorem next_sound (hR : RS P ι s w) {it it' : Value} (hit : VR ι it it') {str : Bool} {Φ : Value × St → Prop} (h : (nextA s it str).All Φ) (ty : TypeId) :
    ∃ v u s' ι' w', (Instr.next it' str ty).run P w = .ok u w' ∧ Φ (v, s') ∧ VR ι' v u ∧ RS P ι' s' w' ∧ ES ι s w ι' s' w' := by
  unfold nextA at h
  split at h
  · rename_i a
    obtain ⟨ab, ao, l, rfl, hl, rfl⟩ := ptr_inv hit
    split at h
    · rename_i h0
      cases (show ao = 0 from h0.1)
      have hfalse : VR ι (.tuple #[.bool false]) (.tuple #[.bool false]) := .tuple' (.cons (.bool false) .nil)
      split at h
      · -- over a string
        rename_i st pos ver hH
        obtain ⟨l', g1, g2, g3, g4, g5⟩ := hR.obj _ _ (show s.look ab = _ from hH) rfl
        rw [hl] at g1; cases g1
        cases str with
        | false => exact h.elim
        | true =>
          simp only [if_true] at h
          have hxx : (⟨l.blk, l.off + 0, none⟩ : Addr) = ⟨l.blk, 0, none⟩ := by rw [g3]
          have hg : (getObj l.blk).run P w = .ok (.stringIter st pos) w := by simp [getObj, Sem.run, g5]
          split at h
          · rename_i hp
            obtain ⟨q1, q2⟩ := hR.put (f := fun v => .siter st (pos + (Utf8.decode st pos).2) v) hH rfl hl g2 (.stringIter st (pos + (Utf8.decode st pos).2)) ⟨g2, g3, g4, heap_setBlk_same (lt_of_heap g5)⟩
            refine ⟨_, .tuple #[.bool true, goInt pos, .int .i32 (Utf8.decode st pos).1], _, ι, _, ?_, h, .tuple' (.cons (.bool _) (.cons (.int _ _) (.cons (.int _ _) .nil))), q1, q2⟩
            rw [hxx]
            have hs : (setObj l.blk (.stringIter st (pos + (Utf8.decode st pos).2))).run P w = .ok () (World.setBlk w l.blk (.stringIter st (pos + (Utf8.decode st pos).2))) := by
              simp [setObj, Sem.run, g5, World.setBlk]
            simp only [Instr.next, Sem.run_bind, hg, Result.andThen_ok, hp, if_true, hs, Sem.run_pure]
          · rename_i hp
            refine ⟨_, _, _, ι, w, ?_, h, hfalse, hR, Ext.refl⟩
            rw [hxx]
            simp only [Instr.next, Sem.run_bind, hg, Result.andThen_ok, hp, if_false, Sem.run_pure]
      · -- over a nil map
        rename_i a1 a2 a3 a4 hH
        obtain ⟨l', g1, g2, g3, g4, b1, b2, b3, g5⟩ := hR.obj _ _ (show s.look ab = _ from hH) rfl
        rw [hl] at g1; cases g1
        cases str with
        | true => exact h.elim
        | false =>
          simp only [Bool.false_eq_true, if_false] at h
          have hxx : (⟨l.blk, l.off + 0, none⟩ : Addr) = ⟨l.blk, 0, none⟩ := by rw [g3]
          have hg : (getObj l.blk).run P w = .ok (.mapIter none b1 b2 b3) w := by simp [getObj, Sem.run, g5]
          refine ⟨_, _, _, ι, w, ?_, h, hfalse, hR, Ext.refl⟩
          rw [hxx]
          simp only [Instr.next, Sem.run_bind, hg, Result.andThen_ok, Sem.run_pure]
      · -- over a map
        rename_i m since seen last ver hH
        obtain ⟨l', g1, g2, g3, g4, lm, g5, g6⟩ := hR.obj _ _ (show s.look ab = _ from hH) rfl
        rw [hl] at g1; cases g1
        cases str with
        | true => exact h.elim
        | false =>
          simp only [Bool.false_eq_true, if_false] at h
          split at h
          · rename_i es clock hm
            obtain ⟨lm', es', q1, q2, q3, q4, q5, q6⟩ := mapOf_sound hR hm
            rw [g5] at q1; cases q1
            split at h
            · exact h.elim
            · rename_i hstale
              have hxx : (⟨l.blk, l.off + 0, none⟩ : Addr) = ⟨l.blk, 0, none⟩ := by rw [g3]
              have hg : (getObj l.blk).run P w = .ok (.mapIter (some lm.blk) since seen.reverse.toArray last) w := by simp [getObj, Sem.run, g6]
              have hrel := cands_rel q6 since seen
              have hcl : (candsC es' since seen.reverse.toArray).size = (candsA es since seen).length := by rw [hrel.length]; simp
              have hst : (!seen.reverse.toArray.isEmpty && !es'.isEmpty && es'.all (·.born ≥ last)) = false := by
                have e1 : seen.reverse.toArray.isEmpty = seen.isEmpty := by
                  rw [Bool.eq_iff_iff]; simp
                have e2 : es'.isEmpty = es.isEmpty := by
                  have := q6.length
                  rw [Bool.eq_iff_iff]
                  simp only [List.isEmpty_iff, Array.isEmpty_iff]
                  rw [← List.length_eq_zero_iff, this, ← Array.size_eq_zero_iff, ← Array.length_toList]
                have e3 : es'.all (·.born ≥ last) = es.all (fun e => decide (e.born ≥ last)) := by
                  rw [← Array.all_toList]
                  exact (q6.all fun e e' hb => by rw [hb]).symm
                rw [e1, e2, e3]
                simpa using hstale
              -- one pick
              have hpick : ∀ (i : Nat) (w1 : World), w1.heap = w.heap → w1.tape = w.tape → w1.os = w.os → w1.output = w.output →
                  (choose (.mapNext (candsC es' since seen.reverse.toArray).size)).run P w = .ok i w1 → (pickA s ab m since seen clock (candsA es since seen) i).All Φ →
                  ∃ v u s' ι' w', (Instr.next (.pointer (some ⟨l.blk, 0, none⟩)) false ty).run P w = .ok u w' ∧ Φ (v, s') ∧ VR ι' v u ∧ RS P ι' s' w' ∧ ES ι s w ι' s' w' := by
                intro i w1 k1 k2 k3 k4 hch hp
                have hR1 : RS P ι s w1 := hR.drew k1
                have hnext : (Instr.next (.pointer (some ⟨l.blk, 0, none⟩)) false ty).run P w =
                    (match (candsC es' since seen.reverse.toArray)[i]? with
                      | some (some e) => do
                        setObj l.blk (.mapIter (some lm.blk) since (seen.reverse.toArray.push e.born) clock)
                        pure (.tuple #[.bool true, e.key, e.val])
                      | some none => pure (.tuple #[.bool false])
                      | none => stuck "Next: no such candidate" : Sem Value).run P w1 := by
                  unfold candsC at hch ⊢
                  simp only [Instr.next, Sem.run_bind, hg, Result.andThen_ok, run_getMap q5]
                  rw [if_neg (by rw [hst]; simp)]
                  simp only [Sem.run_bind, hch, Result.andThen_ok]
                  rfl
                rw [hnext]
                unfold pickA at hp
                rcases hrel.get i with ⟨c1, c2⟩ | ⟨c1, c2⟩ | ⟨e, e', c1, c2, c3⟩
                · rw [c1] at hp; exact hp.elim
                · rw [c1] at hp
                  rw [← Array.getElem?_toList, c2]
                  exact ⟨_, _, _, ι, w1, rfl, hp, hfalse, hR1, Ext.drew Ext.refl k1 k2 k3 k4⟩
                · rw [c1] at hp
                  rw [← Array.getElem?_toList, c2]
                  have g6' : w1.heap[l.blk]? = some (.mapIter (some lm.blk) since seen.reverse.toArray last) := by rw [k1]; exact g6
                  obtain ⟨r1, r2⟩ := hR1.put (f := fun v => .miter (some m) since (e.born :: seen) clock v) hH rfl hl g2 (.mapIter (some lm.blk) since (seen.reverse.toArray.push e'.born) clock)
                    ⟨g2, g3, g4, lm, g5, by
                      rw [heap_setBlk_same (lt_of_heap g6')]
                      have : seen.reverse.toArray.push e'.born = (e.born :: seen).reverse.toArray := by rw [c3.born]; simp
                      rw [this]⟩
                  refine ⟨_, .tuple #[.bool true, e'.key, e'.val], _, ι, _, ?_, hp, .tuple' (.cons (.bool _) (.cons c3.key (.cons c3.val .nil))), r1, Ext.drew r2 k1 k2 k3 k4⟩
                  have hs : (setObj l.blk (.mapIter (some lm.blk) since (seen.reverse.toArray.push e'.born) clock)).run P w1 = .ok () (World.setBlk w1 l.blk (.mapIter (some lm.blk) since (seen.reverse.toArray.push e'.born) clock)) := by
                    simp [setObj, Sem.run, g6', World.setBlk]
                  simp only [Sem.run_bind, hs, Result.andThen_ok, Sem.run_pure]
              rw [hxx]
              split at h
              · rename_i hle
                have hch : (choose (.mapNext (candsC es' since seen.reverse.toArray).size)).run P w = .ok 0 w := by
                  simp [choose, Sem.run, Question.forced, hcl, hle]
                exact hpick 0 w rfl rfl rfl rfl hch h
              · rename_i hle
                have hlt : w.tape w.drawn (.mapNext (candsC es' since seen.reverse.toArray).size) % (candsC es' since seen.reverse.toArray).size < (candsA es since seen).length := by
                  rw [hcl]; exact Nat.mod_lt _ (by omega)
                have hch : (choose (.mapNext (candsC es' since seen.reverse.toArray).size)).run P w =
                    .ok (w.tape w.drawn (.mapNext (candsC es' since seen.reverse.toArray).size) % (candsC es' since seen.reverse.toArray).size) { w with drawn := w.drawn + 1 } := by
                  simp [choose, Sem.run, Question.forced, Question.cut, hcl, hle]
                exact hpick _ { w with drawn := w.drawn + 1 } rfl rfl rfl rfl hch (h _ hlt)
          · exact h.elim
      · exact h.elim
    · exact h.elim
  · exact h.elim
section
variable {r : Option Nat} {m : Nat} {o : Oper} {act : Act} {K : Act → World → Prop} {Q : Exit → Act → World → Prop} {call : CallF} {round : RoundF} {Φ : Value × St → Prop}

/-- The walk goes on from whatever an operation comes to. -/
abbrev Onward (P : Program) (ι : Inj) (s : St) (w : World) (Φ : Value × St → Prop) (o : Oper) (act : Act) (K : Act → World → Prop) : Prop :=
  ∀ v u s' ι' w', Φ (v, s') → VR ι' v u → RS P ι' s' w' → ES ι s w ι' s' w' → K (act.put o.dst u) w'

theorem call_sound (hc : CallOK P call) (hR : RS P ι s w) {f : FuncId} {args : List Value} {args' : Array Value} (ha : VRs ι args args'.toList) (h : (call f args s).All Φ) (hd : ∀ c, o.op ≠ .defer c)
    (hrun : (execOp act.eval o).run P w = (callFunc f args').run P w) (hk : Onward P ι s w Φ o act K) : o.wpIn (FW r) m P act w K Q := by
  obtain ⟨fn, h1, h2⟩ := hc.fn f args s Φ h
  cases hb : fn.body with
  | none =>
    obtain ⟨v, u, s', ι', w', g1, g2, g3, g4, g5⟩ := extern_sound hR h1 hb ha (h2 hb)
    exact wpIn_value hd (hrun.trans g1) (hk v u s' ι' w' g2 g3 g4 g5)
  | some c =>
    refine wpIn_enter hd (hrun.trans (run_callFunc h1 (by simp [hb]) args')) ((hc.calls f fn args args' s w ι Φ r (m - 1) h1 (by simp [hb]) h ha hR).mono ?_)
    rintro e w'' ⟨v, u, s', ι', rfl, g2, g3, g4, g5⟩
    exact hk v u s' ι' w'' g2 g3 g4 g5

theorem callV_sound (hc : CallOK P call) (hr : RoundOK P round) (hR : RS P ι s w) {f f' : Value} (hf : VR ι f f') {args : List Value} {args' : Array Value} (ha : VRs ι args args'.toList)
    (h : (callV (env P) call round s f args).All Φ) (hd : ∀ c, o.op ≠ .defer c)
    (hrun : (execOp act.eval o).run P w = (do let d ← Deferred.ofValue f' args'; invoke d.target d.args : Sem Next).run P w) (hk : Onward P ι s w Φ o act K) : o.wpIn (FW r) m P act w K Q := by
  unfold callV at h
  split at h
  · rename_i fid first captured
    obtain ⟨a', c', rfl, h1, h2⟩ := hf.func_inv
    refine call_sound hc hR (args' := a' ++ args' ++ c') ?_ h hd ?_ hk
    · simpa using (h1.append ha).append h2
    · rw [hrun]; rfl
  · rename_i l first captured
    cases hf with
    | yield hl =>
    obtain ⟨loc, rec, g1, g2, g3, g4⟩ := hr l _ args' s w ι Φ r (m - 1) h (by simpa using ha) hR
    rw [hl] at g1; cases g1
    refine wpIn_round hd (hrun.trans ?_) (g4.mono ?_)
    · simp only [Deferred.ofValue, Sem.run_bind, Sem.run_pure, Result.andThen_ok, invoke, Instr.yield, run_getLoop g2]
      have hz : (#[] ++ args').size = rec.params.size := by simpa using g3
      rw [if_neg (by simpa using hz)]
      simp
    · rintro e w'' ⟨v, u, s', ι', rfl, k2, k3, k4, k5⟩
      exact hk v u s' ι' w'' k2 k3 k4 k5
  · rename_i name first captured
    obtain ⟨a', c', rfl, h1, h2⟩ := hf.meth_inv
    split at h
    · rename_i t v rest hfa
      split at h
      · rename_i fid x hm
        have hall := h1.append ha
        rw [hfa] at hall
        generalize hl' : a'.toList ++ args'.toList = l' at hall
        cases hall with
        | cons hv hrest =>
        cases hv with
        | @iface _ v0 v1 hv =>
        rename_i rest'
        obtain ⟨x', k1, k2⟩ := method_sound (P := P) (w := w) hv hm (P.types.size + 99)
        refine call_sound hc hR (args' := (x' :: rest').toArray) (.cons k2 hrest) h hd ?_ hk
        rw [hrun]
        have hcat : (a' ++ args') = (Value.iface t v1 :: rest').toArray := by
          apply Array.toList_inj.1; simpa using hl'
        have hex : ((Value.iface t v1 :: rest').toArray).extract 1 ((Value.iface t v1 :: rest').toArray).size = rest'.toArray := by
          apply Array.toList_inj.1; simp
        simp only [Deferred.ofValue, Sem.run_bind, Sem.run_pure, Result.andThen_ok, invoke, hcat, hex]
        simp only [List.getElem?_toArray, List.getElem?_cons_zero, callMethod, Sem.run_bind, run_program, Result.andThen_ok]
        rw [show P.types.size + Made.depth = P.types.size + 99 + 1 from rfl, k1]
        simp only [Result.andThen_ok]
        congr 2
        apply Array.toList_inj.1; simp
      · exact h.elim
    · exact h.elim
  · exact h.elim

theorem effect_sound (hc : CallOK P call) (hr : RoundOK P round) (hR : RS P ι s w) {ρ : Operand → Value} (hρ : ∀ x ∈ o.op.operands.toList, VR ι (ρ x) (act.eval x)) (hd : ∀ c, o.op ≠ .defer c)
    (h : (effectA (env P) call round s ρ o.op).All Φ) (hk : Onward P ι s w Φ o act K) : o.wpIn (FW r) m P act w K Q := by
  have lift : ∀ (sem : Sem Value) (x : Option (Value × St)) (why : String), (execOp act.eval o = (do pure (.value (← sem)) : Sem Next)) → (Res.ofOption why x).All Φ →
      (∀ v s', x = some (v, s') → Does P ι s w sem v s') → o.wpIn (FW r) m P act w K Q := by
    intro sem x why he hx hdo
    cases x with
    | none => exact hx.elim
    | some p =>
      obtain ⟨u, ι', w', g1, g2, g3, g4⟩ := hdo p.1 p.2 rfl
      exact wpIn_value hd (by rw [he]; simp [g1]) (hk p.1 u p.2 ι' w' hx g2 g3 g4)
  unfold effectA at h
  cases hop : o.op <;> rw [hop] at h hρ <;> simp only at h <;> simp only [Op.operands] at hρ
  case store t a x =>
    have hv := hρ x (by simp)
    have hp := hρ a (by simp)
    split at h
    · rename_i ad ha
      rw [ha] at hp
      split at h
      · rename_i s1 hst
        obtain ⟨w', g1, g2, g3⟩ := storeT_sound hR hp hv hst
        refine wpIn_skipOp hd ?_ (hk undef undef s1 ι w' h (VR.undef ι) g2 g3)
        unfold execOp
        rw [hop]
        simp [g1]
      · exact h.elim
    · exact h.elim
  case mapUpdate t mm k x =>
    split at h
    · rename_i s1 hst
      obtain ⟨w', g1, g2, g3⟩ := mapPut_sound hR (hρ mm (by simp)) (hρ k (by simp)) (hρ x (by simp)) hst
      refine wpIn_skipOp hd ?_ (hk undef undef s1 ι w' h (VR.undef ι) g2 g3)
      unfold execOp
      rw [hop]
      simp [g1]
    · exact h.elim
  case insert t mm k x =>
    split at h
    · rename_i s1 hst
      obtain ⟨w', g1, g2, g3⟩ := mapPut_sound hR (hρ mm (by simp)) (hρ k (by simp)) (hρ x (by simp)) hst
      refine wpIn_skipOp hd ?_ (hk undef undef s1 ι w' h (VR.undef ι) g2 g3)
      unfold execOp
      rw [hop]
      simp [g1]
    · exact h.elim
  case range t x =>
    have hv := hρ x (by simp)
    have hex : ∀ (sem : Sem Value), sem = Instr.range t (act.eval x) → execOp act.eval o = (do pure (.value (← sem)) : Sem Next) := by
      intro sem hs; subst hs; unfold execOp; rw [hop]
    have hfree := hR.free
    cases ht : (env P).ty t with
    | none => rw [ht] at h; exact h.elim
    | some i =>
      rw [ht] at h
      simp only at h
      generalize ρ x = y at hv h
      generalize hu : act.eval x = u at hv hex
      split at h
      · rename_i str hdesc
        rw [hv.string_eq] at hex
        obtain ⟨ι', q1, q2, q3⟩ := iter_new hR (.stringIter str 0) (fun v => .siter str 0 v) ⟨rfl, rfl, rfl, heap_alloc_new⟩
        refine wpIn_value hd ?_ (hk _ _ _ ι' _ h q1 q2 q3)
        rw [hex _ rfl]
        simp only [Instr.range, Sem.run_bind, run_underlyingA ht, hdesc, Sem.run_pure, Result.andThen_ok, run_newObj]
        rfl
      · rename_i hdesc
        rw [nilmap_inv hv] at hex
        obtain ⟨ι', q1, q2, q3⟩ := iter_new hR (.mapIter none 0 #[] 0) (fun v => .miter none 0 [] 0 v) ⟨rfl, rfl, rfl, _, _, _, heap_alloc_new⟩
        refine wpIn_value hd ?_ (hk _ _ _ ι' _ h q1 q2 q3)
        rw [hex _ rfl]
        simp only [Instr.range, Sem.run_bind, run_underlyingA ht, hdesc, Sem.run_pure, Result.andThen_ok, run_newObj]
        rfl
      · rename_i mm hdesc
        obtain ⟨l, hl, he⟩ := map_inv hv
        rw [he] at hex
        split at h
        · rename_i es clock hm
          obtain ⟨l', es', p1, p2, p3, p4, p5, p6⟩ := mapOf_sound hR hm
          rw [hl] at p1; cases p1
          obtain ⟨ι', q1, q2, q3⟩ := iter_new hR (.mapIter (some l.blk) clock #[] clock) (fun v => .miter (some mm) clock [] clock v) ⟨rfl, rfl, rfl, l, Inj.le_add hfree _ _ hl, heap_alloc_new⟩
          refine wpIn_value hd ?_ (hk _ _ _ ι' _ h q1 q2 q3)
          rw [hex _ rfl]
          simp only [Instr.range, Sem.run_bind, run_underlyingA ht, hdesc, run_getMap p5, Sem.run_pure, Result.andThen_ok, run_newObj]
          rfl
        · exact h.elim
      · exact h.elim
  case next it str =>
    obtain ⟨v, u, s', ι', w', g1, g2, g3, g4, g5⟩ := next_sound hR (hρ it (by simp)) h o.type
    refine wpIn_value hd ?_ (hk v u s' ι' w' g2 g3 g4 g5)
    unfold execOp
    rw [hop]
    simp [g1]
  case call c =>
    obtain ⟨callee, args, argTypes⟩ := c
    have hargs : VRs ι (args.toList.map ρ) (args.map act.eval).toList := by
      rw [Array.toList_map]
      exact .map₂ _ fun x hx => hρ x (by simp [Call.operands]; exact .inr (by simpa using hx))
    have hb : ∀ b, callee = .builtin b → execOp act.eval o = (builtin b argTypes o.type (args.map fun | .const _ => true | _ => false) (args.map act.eval)) := by
      intro b hb
      subst hb
      unfold execOp
      rw [hop]
      rfl
    cases callee with
    | value f =>
      refine callV_sound hc hr hR (hρ f (by simp [Call.operands])) hargs h hd ?_ hk
      unfold execOp
      rw [hop]
      rfl
    | invoke x name =>
      have hv := hρ x (by simp [Call.operands])
      dsimp only at h
      split at h
      · rename_i t v hx
        rw [hx] at hv
        split at h
        · rename_i fid rv hm
          generalize hu : act.eval x = u at hv
          cases hv with
          | @iface _ v0 v1 hv =>
          obtain ⟨x', k1, k2⟩ := method_sound (P := P) (w := w) hv hm (P.types.size + 99)
          refine call_sound hc hR (args' := #[x'] ++ args.map act.eval) (by simpa using VRs.cons k2 hargs) h hd ?_ hk
          have he : execOp act.eval o = callMethod (.iface t v1) name (args.map act.eval) := by
            unfold execOp
            rw [hop]
            have : (resolve act.eval { callee := .invoke x name, args, argTypes } o.type) = pure { target := .fn (.method name) #[], args := #[.iface t v1] ++ args.map act.eval } := by
              simp [resolve, hu]
            simp only [this]
            have hex : (#[Value.iface t v1] ++ args.map act.eval).extract 1 (#[Value.iface t v1] ++ args.map act.eval).size = args.map act.eval := by
              apply Array.toList_inj.1
              simp only [Array.toList_extract, Array.toList_append, List.extract_eq_take_drop]
              simp
              exact List.take_of_length_le (by simp)
            show invoke (.fn (.method name) #[]) (#[Value.iface t v1] ++ args.map act.eval) = _
            unfold invoke
            have h0 : (#[Value.iface t v1] ++ args.map act.eval)[0]? = some (Value.iface t v1) := by
              rw [← Array.getElem?_toList, Array.toList_append]; rfl
            simp only [h0, hex]
          rw [he]
          unfold callMethod
          simp only [Sem.run_bind, run_program, Result.andThen_ok]
          rw [show P.types.size + Made.depth = P.types.size + 99 + 1 from rfl, k1]
          rfl
        · exact h.elim
      · exact h.elim
    | builtin b =>
      cases b <;> dsimp only at h <;> first
        | exact lift _ _ _ (hb _ rfl) h fun v s' hx => append_sound hR hargs hx
        | exact lift _ _ _ (hb _ rfl) h fun v s' hx => copy_sound hR hargs hx
        | exact lift _ _ _ (hb _ rfl) h fun v s' hx => clear_sound hR hargs hx
        | exact lift _ _ _ (hb _ rfl) h fun v s' hx => delete_sound hR hargs hx
        | exact False.elim h
  all_goals exact h.elim
end
end Go.Dust
end
