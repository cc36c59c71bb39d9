/- Operations that change memory. -/
import Derived.Test.YthgncfnofmglgaaGreatDg
namespace Go.Dust
variable {P : Program} {ι : Inj} {s s' : St} {w : World}

abbrev RS (P : Program) (ι : Inj) (s : St) (w : World) : Prop := R (env P) ι s.look s.next w
abbrev ES (ι : Inj) (s : St) (w : World) (ι' : Inj) (s' : St) (w' : World) : Prop := Ext ι s.look s.next w ι' s'.look s'.next w'

/-- What an effect comes to. -/
def Does (P : Program) (ι : Inj) (s : St) (w : World) (sem : Sem Value) (v : Value) (s' : St) : Prop :=
  ∃ u ι' w', sem.run P w = .ok u w' ∧ VR ι' v u ∧ RS P ι' s' w' ∧ ES ι s w ι' s' w'

theorem RS.put (hR : RS P ι s w) {b : Nat} {o : AObj} {l : Loc} (hb : s.heap.get b = some o) (hd : o.isDead = false) (hl : ι b = some l) (hro : l.ro = false) (x : Obj) {f : Nat → AObj}
    (ho : ObjR (env P) ι (World.setBlk w l.blk x) l (f s.clk)) : RS P ι (s.put b f) (World.setBlk w l.blk x) ∧ ES ι s w ι (s.put b f) (World.setBlk w l.blk x) := by
  have h1 := R.put (H := s.look) hR hb hd hl hro x ho
  have h2 := Ext.put (H := s.look) (n := s.next) (w := w) hb hd hl hro x (f s.clk)
  unfold RS ES
  rw [look_put]
  exact ⟨h1, h2⟩

theorem RS.new {ex : Nat} (hR : RS P ι s w) (x : Obj) {f : Nat → AObj} (ho : ObjR (env P) (ι.add s.next ⟨w.heap.size, 0, ex, false⟩) (w.alloc x) ⟨w.heap.size, 0, ex, false⟩ (f s.clk)) :
    RS P (ι.add s.next ⟨w.heap.size, 0, ex, false⟩) (s.new f) (w.alloc x) ∧ ES ι s w (ι.add s.next ⟨w.heap.size, 0, ex, false⟩) (s.new f) (w.alloc x) := by
  have hfree : ι s.next = none := hR.fresh _ (Nat.le_refl _) hR.odd
  have hodd := hR.odd
  have h1 := R.newAt (H := s.look) hR s.next (s.next + 2) hfree hR.odd (by omega) (by omega) (by omega) x ho
  have h2 := Ext.newAt (H := s.look) (n := s.next) (w := w) (ex := ex) s.next (s.next + 2) hfree (Nat.le_refl _) (by omega) (by omega) x (f s.clk)
  unfold RS ES
  rw [look_new]
  exact ⟨h1, h2⟩

/-! ### Stores -/
theorem storeN_sound (hR : RS P ι s w) {b o : Nat} {l : Loc} (hl : ι b = some l) {vs us : List Value} (hv : VRs ι vs us) (h : storeN s ⟨b, o, none⟩ vs = some s') :
    ∃ w', (storeCells ⟨l.blk, l.off + o, none⟩ us).run P w = .ok () w' ∧ RS P ι s' w' ∧ ES ι s w ι s' w' := by
  unfold storeN at h
  simp only at h
  split at h
  · rename_i c z n e r ver hs hb
    split at h
    · rename_i hc
      simp only [Option.some.injEq] at h; subst h
      obtain ⟨l', arr, e', fz, h1, h2, h3, h4, h5, h6, h7, h8⟩ := cells_of hR (show s.look b = _ from hb)
      rw [hl] at h1; cases h1
      rw [h3 rfl] at h2
      have hlen := hv.length
      have h1u : us.all one1 = true := by rw [← hv.one1]; exact hc.2
      refine ⟨_, run_storeCells us w l.blk (l.off + o) 0 arr e' h2 h1u (by omega), ?_⟩
      refine hR.put hb rfl hl h4 _ ⟨arrSet arr (l.off + o + 0) us, e', (0, 0), heap_setBlk_same (lt_of_heap h2), fun _ => rfl, h4, h5, ?_, by simpa using h7, ?_⟩
      · intro ei hei
        have := h6 ei hei
        simpa using this
      · intro i hi
        obtain ⟨v0, u0, g1, g2, g3⟩ := h8 i hi
        rw [get_arrSet us arr _ _ (by omega)]
        unfold cellAt at g1 ⊢
        rw [if_pos hi] at g1 ⊢
        rw [PT.get_setL]
        by_cases hoi : o ≤ i
        · rw [if_pos hoi, if_pos (by omega), show l.off + i - (l.off + o + 0) = i - o from by omega]
          cases hvi : vs[i - o]? with
          | some v1 =>
            obtain ⟨u1, k1, k2⟩ := hv.getSome _ hvi
            rw [k1]
            exact ⟨v1, u1, rfl, rfl, k2⟩
          | none =>
            have : us[i - o]? = none := by
              rw [List.getElem?_eq_none_iff] at hvi ⊢; omega
            rw [this]
            exact ⟨v0, u0, g1, g2, g3⟩
        · rw [if_neg hoi, if_neg (by omega)]
          exact ⟨v0, u0, g1, g2, g3⟩
    · cases h
  · cases h

theorem storeT_sound (hR : RS P ι s w) {t : TypeId} {a : Addr} {v x u : Value} (hx : VR ι (.pointer (some a)) x) (hv : VR ι v u) (h : storeT (env P) s t a v = some s') :
    ∃ w', (Instr.storeAt t x u).run P w = .ok () w' ∧ RS P ι s' w' ∧ ES ι s w ι s' w' := by
  obtain ⟨b, o, l, rfl, hl, rfl⟩ := ptr_inv hx
  unfold storeT at h
  split at h
  · rename_i i hi
    split at h
    · rename_i hsz
      obtain ⟨w', g1, g2, g3⟩ := storeN_sound hR hl hv.cells h
      refine ⟨w', ?_, g2, g3⟩
      have husz : u.cells.size = i.size := by rw [← hv.cells.size]; exact hsz
      simp only [Instr.storeAt, Instr.sureAddr, Sem.run_bind, Sem.run_pure, Result.andThen_ok, storeVar, run_sizeOfA hi, husz, ne_eq, not_true_eq_false, if_false, g1]
    · cases h
  · cases h

/-! ### The cells of slices and strings -/
theorem bytes_closed (l : List UInt8) : VRs ι (l.map fun b => Value.int .u8 b.toNat) (l.map fun b => Value.int .u8 b.toNat) := .map₂ _ fun _ _ => .int _ _
theorem first_sound (hR : RS P ι s w) {size n : Nat} {x x' : Value} (hx : VR ι x x') {l : List Value} (h : firstA s.look size n x = some l) (hn : ∀ a c d, x = .slice a c d → n ≤ c) :
    ∃ l', (Builtin.firstCells size n x').run P w = .ok l' w ∧ VRs ι l l'.toList := by
  unfold firstA at h
  split at h
  · rename_i a c d
    split at h
    · rename_i h0
      simp only [Option.some.injEq] at h; subst h
      refine ⟨#[], ?_, .nil⟩
      cases hx <;> simp [Builtin.firstCells, h0, loadCells, loadCellsFrom]
    · rename_i h0
      have hc : 0 < c := by
        have := hn _ _ _ rfl
        by_cases hz : n = 0
        · subst hz; simp at h0
        · omega
      cases hx with
      | slice _ _ hl =>
        obtain ⟨us, g1, g2, _⟩ := loadN_sound (P := P) hR hl h
        exact ⟨us, by simpa [Builtin.firstCells] using g1, g2⟩
      | slice0 hl => omega
  · simp only [Option.some.injEq] at h; subst h
    rw [nilslice_inv hx]
    exact ⟨#[], rfl, .nil⟩
  · simp only [Option.some.injEq] at h; subst h
    rw [hx.string_eq]
    refine ⟨_, rfl, ?_⟩
    simp only [Array.toList_map]
    exact bytes_closed _
  · cases h
theorem len_run {x x' : Value} (hx : VR ι x x') {n : Nat} (h : lenA x = some n) : (Builtin.lenOf x').run P w = .ok n w := by
  unfold lenA at h
  split at h
  · simp only [Option.some.injEq] at h; subst h
    cases hx <;> rfl
  · simp only [Option.some.injEq] at h; subst h
    rw [hx.string_eq]; rfl
  · cases h
theorem lenA_le {x : Value} {n : Nat} (h : lenA x = some n) : ∀ a c d, x = .slice a c d → n ≤ c := by
  rintro a c d rfl
  simp only [lenA, Option.some.injEq] at h
  omega

/-! ### Append -/
theorem nextslicecap_le {need c : Nat} (h : c < need) : Builtin.nextslicecap need c ≤ 2 * need + 1000 := by
  unfold Builtin.nextslicecap
  split
  · omega
  · split
    · omega
    · have key : ∀ r c, c ≤ 2 * need + 1000 → Builtin.growBy need r c ≤ 2 * need + 1000 := by
        intro r
        induction r with
        | zero => intro c hc; simpa [Builtin.growBy] using hc
        | succ r ih =>
          intro c hc
          simp only [Builtin.growBy]
          split
          · exact hc
          · exact ih _ (by omega)
      exact key 4 c (by omega)
/-- The model's append, up to where it parts. -/
theorem append_head {argTypes : Array TypeId} {ty t t2 e : TypeId} {args : Array Value} {base : Option Addr} {sLen sCap n : Nat} {x : Value} {i i2 ei : Ty} {z : Value}
    (hat : argTypes.toList = [t, t2]) (harg : args.toList = [.slice base sLen sCap, x]) (ht : (env P).ty t = some i) (hd : i.desc = .slice e) (ht2 : (env P).ty t2 = some i2)
    (hni : strOrSlice i2.desc = true) (he : (env P).ty e = some ei) (hz : ei.zero = some z) (hlen : (Builtin.lenOf x).run P w = .ok n w)
    {l' : Array Value} (hfirst : (Builtin.firstCells ei.size n x).run P w = .ok l' w) :
    (sLen + n ≤ sCap → (Builtin.append_ argTypes ty args).run P w =
      ((match base with | some a => storeCells (a.add (sLen * ei.size)) l'.toList | none => pure ()).run P w).andThen fun _ w' => .ok (.slice base (sLen + n) sCap) w') ∧
    (¬ sLen + n ≤ sCap → sLen + n < 2 ^ 40 → (2 * (sLen + n) + 1000) * ei.bytes ≤ 2 ^ 47 → ∃ newCap w1, w1.heap = w.heap ∧ w1.tape = w.tape ∧ w1.os = w.os ∧ w1.output = w.output ∧ sLen + n ≤ newCap ∧
      ∀ (old new : Array Value), (Builtin.firstCells ei.size sLen (.slice base sLen sCap)).run P w1 = .ok old w1 → (Builtin.firstCells ei.size n x).run P w1 = .ok new w1 →
        (Builtin.append_ argTypes ty args).run P w = .ok (.slice (some ⟨w1.heap.size, 0, none⟩) (sLen + n) newCap)
          (w1.alloc (.cells (old ++ new ++ Builtin.zeroCells z.cells (newCap - (sLen + n))) e (0, 0)))) := by
  obtain ⟨a0, a1⟩ : argTypes[0]? = some t ∧ argTypes[1]? = some t2 := by
    constructor
    · rw [← Array.getElem?_toList, hat]; rfl
    · rw [← Array.getElem?_toList, hat]; rfl
  obtain ⟨b0, b1⟩ : args[0]? = some (.slice base sLen sCap) ∧ args[1]? = some x := by
    constructor
    · rw [← Array.getElem?_toList, harg]; rfl
    · rw [← Array.getElem?_toList, harg]; rfl
  have hz0 : i2.desc = .string ∨ ∃ q, i2.desc = .slice q := by
    cases hdd : i2.desc <;> rw [hdd] at hni <;> first | exact .inl rfl | exact .inr ⟨_, rfl⟩ | cases hni
  obtain ⟨inf, e1, e2, _⟩ := run_bytesA (w := w) he
  constructor
  · intro hfit
    unfold Builtin.append_
    rcases hz0 with hz0 | ⟨q, hz0⟩ <;>
      (simp only [a0, a1, b0, b1, Sem.run_bind, run_underlyingA ht, hd, Result.andThen_ok, run_sizeOfA he, run_underlyingA ht2, hz0, Sem.run_pure, Bool.false_eq_true, if_false, hlen, hfit, if_true, Bool.not_false, hfirst]
       cases base <;> simp)
  · intro hfit h40 hb
    have hsc : sCap < sLen + n := by omega
    have hns := nextslicecap_le hsc
    have hb' : Builtin.nextslicecap (sLen + n) sCap * ei.bytes ≤ 2 ^ 48 := by
      have : Builtin.nextslicecap (sLen + n) sCap * ei.bytes ≤ (2 * (sLen + n) + 1000) * ei.bytes := Nat.mul_le_mul_right _ hns
      omega
    obtain ⟨cap, hcap⟩ : ∃ cap, cap = Question.cut (.appendCap (sLen + n) sCap e) (w.tape w.drawn (.appendCap (sLen + n) sCap e)) := ⟨_, rfl⟩
    refine ⟨cap, { w with drawn := w.drawn + 1 }, rfl, rfl, rfl, rfl, ?_, ?_⟩
    · rw [hcap]; simp only [Question.cut]; omega
    · intro old new hold hnew
      have hch : (choose (.appendCap (sLen + n) sCap e)).run P w = .ok cap { w with drawn := w.drawn + 1 } := by
        simp [choose, Sem.run, Question.forced, ← hcap]
      have e1' := run_bytesA (w := { w with drawn := w.drawn + 1 }) he
      obtain ⟨inf', e3, e4, _⟩ := e1'
      have hgt : ¬ (((sLen + n : Nat) : Int) > IntKind.i64.max) := by
        simp only [IntKind.max, IntKind.signed, IntKind.bits]
        simp
        omega
      unfold Builtin.append_
      rcases hz0 with hz0 | ⟨q, hz0⟩ <;>
        (simp only [a0, a1, b0, b1, Sem.run_bind, run_underlyingA ht, hd, Result.andThen_ok, run_sizeOfA he, run_underlyingA ht2, hz0, Sem.run_pure, Bool.false_eq_true, if_false, hlen, hfit, Bool.not_false, e1, e2]
         rw [if_neg (fun hh => hgt hh.1)]
         simp only [Sem.run_bind, e1, e2, Result.andThen_ok]
         rw [if_neg (by omega)]
         simp only [Sem.run_bind, Sem.run_pure, Result.andThen_ok, hch, e3, run_askRoom, hold, hnew, if_true, run_zeroA he hz, newRow, run_newObj]
         rfl)
section
variable {X : Env} {H : Look} {n : Nat}
/-- A name dies; a new one takes its block over. -/
theorem R.graft (h : R X ι H n w) {b : Nat} {o : AObj} {l : Loc} (hb : H b = some o) (hd : o.isDead = false) (hl : ι b = some l) (hro : l.ro = false) (x : Obj) (off ex : Nat) {o' : AObj}
    (ho : ObjR X (ι.add n ⟨l.blk, off, ex, false⟩) (World.setBlk w l.blk x) ⟨l.blk, off, ex, false⟩ o') :
    R X (ι.add n ⟨l.blk, off, ex, false⟩) (upd (upd H b .dead) n o') (n + 2) (World.setBlk w l.blk x) := by
  have hfree : ι n = none := h.fresh _ (Nat.le_refl _) h.odd
  have hle : ι.le (ι.add n ⟨l.blk, off, ex, false⟩) := Inj.le_add hfree
  have hodd := h.odd
  have hbn : b ≠ n := by intro e; subst e; rw [hfree] at hl; cases hl
  have old : ∀ c oc, upd (upd H b .dead) n o' c = some oc → oc.isDead = false → c ≠ n → c ≠ b ∧ H c = some oc := by
    intro c oc hc hdc hcn
    unfold upd at hc
    rw [if_neg hcn] at hc
    split at hc
    · cases hc; cases hdc
    · rename_i e; exact ⟨e, hc⟩
  refine ⟨?_, by omega, ?_, ?_, ?_, ?_⟩
  · intro c
    unfold Inj.add
    rw [if_neg (by omega)]
    exact h.even c
  · intro c hc hc2
    unfold Inj.add
    rw [if_neg (by omega)]
    exact h.fresh c (by omega) hc2
  · intro c lc hc hr
    rw [size_setBlk]
    unfold Inj.add at hc
    split at hc
    · cases hc; exact h.inb b l hl hro
    · exact h.inb c lc hc hr
  · intro c oc hc hdc
    by_cases hcn : c = n
    · subst hcn
      simp only [upd, if_true, Option.some.injEq] at hc
      subst hc
      exact ⟨_, Inj.add_same _ _ _, ho⟩
    · obtain ⟨hcb, hc'⟩ := old c oc hc hdc hcn
      obtain ⟨lc, h1, h2⟩ := h.obj c oc hc' hdc
      refine ⟨lc, hle _ _ h1, h2.mono hle (heap_setBlk_ne ?_)⟩
      intro he
      exact hcb (h.inj b c o oc l lc hb hd hc' hdc hl h1 hro he.symm).symm
  · intro c c' oc oc' lc lc' hc hdc hc' hdc' h1 h2 hr he
    by_cases e1 : c = n <;> by_cases e2 : c' = n
    · rw [e1, e2]
    · obtain ⟨k1, k2⟩ := old c' oc' hc' hdc' e2
      unfold Inj.add at h1 h2
      rw [if_pos e1] at h1
      rw [if_neg e2] at h2
      cases h1
      exact absurd (h.inj b c' o oc' l lc' hb hd k2 hdc' hl h2 hro he) (Ne.symm k1)
    · obtain ⟨k1, k2⟩ := old c oc hc hdc e1
      unfold Inj.add at h1 h2
      rw [if_neg e1] at h1
      rw [if_pos e2] at h2
      cases h2
      exact absurd (h.inj c b oc o lc l k2 hdc hb hd h1 hl hr he) k1
    · obtain ⟨k1, k2⟩ := old c oc hc hdc e1
      obtain ⟨k3, k4⟩ := old c' oc' hc' hdc' e2
      unfold Inj.add at h1 h2
      rw [if_neg e1] at h1
      rw [if_neg e2] at h2
      exact h.inj c c' oc oc' lc lc' k2 hdc k4 hdc' h1 h2 hr he
theorem Ext.graft (hodd : n % 2 = 1) (hfree : ι n = none) {b : Nat} {o : AObj} {l : Loc} (hb : H b = some o) (hd : o.isDead = false) (hl : ι b = some l) (hro : l.ro = false) (x : Obj) (off ex : Nat) (o' : AObj) :
    Ext ι H n w (ι.add n ⟨l.blk, off, ex, false⟩) (upd (upd H b .dead) n o') (n + 2) (World.setBlk w l.blk x) := by
  refine ⟨Inj.le_add hfree, ?_, by omega, rfl, rfl, rfl, by simp, ?_, ?_⟩
  · intro c hc hc2
    unfold Inj.add
    rw [if_neg (by omega)]
    exact hc
  · intro c hc hown
    exact heap_setBlk_ne fun e => hown ⟨b, o, l, hb, hd, hl, hro, e.symm⟩
  · rintro c ⟨d, od, ld, h1, h2, h3, h4, h5⟩
    unfold upd at h1
    unfold Inj.add at h3
    split at h1
    · rename_i e
      rw [if_pos e] at h3
      cases h3
      exact .inl ⟨b, o, l, hb, hd, hl, hro, h5⟩
    · rename_i e
      rw [if_neg e] at h3
      split at h1
      · cases h1; cases h2
      · exact .inl ⟨d, od, ld, h1, h2, h3, h4, h5⟩
/-- The world only drew. -/
theorem Ext.drew {ι' : Inj} {H' : Look} {n' : Nat} {w1 w' : World} (h : Ext ι H n w1 ι' H' n' w') (hh : w1.heap = w.heap) (ht : w1.tape = w.tape) (ho : w1.os = w.os) (hu : w1.output = w.output) :
    Ext ι H n w ι' H' n' w' :=
  ⟨h.le, h.new, h.nxt, h.os.trans ho, h.tape.trans ht, h.output.trans hu, hh ▸ h.size, fun c hc hn => (h.keep c (hh ▸ hc) hn).trans (by rw [hh]), fun c hc => (h.own c hc).imp id (fun k => hh ▸ k)⟩
end

theorem RS.kill (hR : RS P ι s w) (b : Nat) : RS P ι (s.kill b) w ∧ ES ι s w ι (s.kill b) w := by
  have hlook : (s.kill b).look = upd s.look b .dead := look_put s b _
  have hsub : ∀ c o, upd s.look b .dead c = some o → o.isDead = false → s.look c = some o := by
    intro c o hc hd
    unfold upd at hc
    split at hc
    · cases hc; cases hd
    · exact hc
  unfold RS ES
  rw [hlook]
  refine ⟨R.fewer hR hsub, ⟨Inj.le_refl _, fun _ h _ => h, Nat.le_refl _, rfl, rfl, rfl, Nat.le_refl _, fun _ _ _ => rfl, ?_⟩⟩
  rintro c ⟨d, od, ld, h1, h2, h3⟩
  exact .inl ⟨d, od, ld, hsub d od h1 h2, h2, h3⟩

theorem readCells_total {c : PT Value} {z : List Value} {m : Nat} : ∀ (k i : Nat), i + k ≤ m → ∃ l, readCells c z m i k = some l ∧ l.length = k ∧ ∀ j, j < k → l[j]? = cellAt c z m (i + j)
  | 0, i, _ => ⟨[], rfl, rfl, fun j hj => by omega⟩
  | k + 1, i, h => by
    obtain ⟨l, h1, h2, h3⟩ := readCells_total (c := c) (z := z) (m := m) k (i + 1) (by omega)
    obtain ⟨v, hv⟩ : ∃ v, cellAt c z m i = some v := by
      unfold cellAt
      rw [if_pos (by omega)]
      exact ⟨_, rfl⟩
    refine ⟨v :: l, by simp [readCells, hv, h1], by simp [h2], ?_⟩
    intro j hj
    cases j with
    | zero => simp [hv]
    | succ j => rw [List.getElem?_cons_succ, h3 j (by omega)]; congr 1; omega

theorem grown_spec {c : PT Value} {z : List Value} {m : Nat} {a : Addr} {k : Nat} {new : List Value} {c' : PT Value} {z' : List Value} (h : grownCells c z m a k new = some (c', z')) :
    ∃ old, old.length = k ∧ (k = 0 ∨ (a.spot = none ∧ readCells c z m a.off k = some old)) ∧ ∀ i, i < k + new.length → cellAt c' z' (k + new.length) i = (old ++ new)[i]? := by
  unfold grownCells at h
  split at h
  · rename_i hk
    subst hk
    simp only [Option.some.injEq, Prod.mk.injEq] at h
    obtain ⟨rfl, rfl⟩ := h
    refine ⟨[], rfl, .inl rfl, ?_⟩
    intro i hi
    unfold cellAt
    rw [if_pos hi, PT.get_ofList]
    have : new[i]? = some new[i] := List.getElem?_eq_getElem (by omega)
    simp [this]
  · rename_i hk
    split at h
    · cases h
    · rename_i hsp
      split at h
      · rename_i h0
        split at h
        · rename_i hkm
          simp only [Option.some.injEq, Prod.mk.injEq] at h
          obtain ⟨rfl, rfl⟩ := h
          obtain ⟨old, h1, h2, h3⟩ := readCells_total (c := c) (z := z) (m := m) k 0 (by omega)
          refine ⟨old, h2, .inr ⟨hsp, by rw [h0]; exact h1⟩, ?_⟩
          intro i hi
          by_cases hik : i < k
          · rw [List.getElem?_append_left (by omega), h3 i hik]
            unfold cellAt
            rw [if_pos hi, if_pos (by omega), PT.get_setL, if_neg (by omega)]
            simp
          · rw [List.getElem?_append_right (by omega), h2]
            unfold cellAt
            rw [if_pos hi, PT.get_setL, if_pos (by omega)]
            have : new[i - k]? = some new[i - k] := List.getElem?_eq_getElem (by omega)
            simp [this]
        · cases h
      · split at h
        · rename_i old ho
          simp only [Option.some.injEq, Prod.mk.injEq] at h
          obtain ⟨rfl, rfl⟩ := h
          have hlen : old.length = k := by
            have : ∀ (k i : Nat) (l : List Value), readCells c z m i k = some l → l.length = k := by
              intro k
              induction k with
              | zero => intro i l h; simp [readCells] at h; subst h; rfl
              | succ k ih =>
                intro i l h
                simp only [readCells] at h
                split at h
                · split at h
                  · rename_i hr
                    simp only [Option.some.injEq] at h
                    subst h
                    simp [ih _ _ hr]
                  · cases h
                · cases h
            exact this _ _ _ ho
          refine ⟨old, hlen, .inr ⟨hsp, ho⟩, ?_⟩
          intro i hi
          unfold cellAt
          rw [if_pos hi, PT.get_ofList]
          obtain ⟨y, hy⟩ : ∃ y, (old ++ new)[i]? = some y := ⟨_, List.getElem?_eq_getElem (by simp; omega)⟩
          rw [hy]
        · cases h
/-- Cells that read as a list are an object's cells. -/
theorem objR_cells {X : Env} {l l' : List Value} (hl : VRs ι l l') {loc : Loc} {c : PT Value} {z : List Value} {e e' : TypeId} {room : Bool} {ver m : Nat} (hm : m = l.length) (hc : ∀ i, i < m → cellAt c z m i = l[i]?)
    {arr : Array Value} (hb : w.heap[loc.blk]? = some (.cells arr e' (0, 0))) (harr : ∀ i, i < m → arr[loc.off + i]? = l'[i]?) (hro : loc.ro = false) (hroom : room = false → loc.extra = 0)
    (hsz : ∀ ei, X.ty e = some ei → loc.off + m + loc.extra * ei.size ≤ arr.size) (hsz' : loc.off + m ≤ arr.size) : ObjR X ι w loc (.cells c z m e room false ver) := by
  refine ⟨arr, e', (0, 0), hb, fun _ => rfl, hro, hroom, hsz, hsz', ?_⟩
  intro i hi
  have hg : l[i]? = some l[i] := List.getElem?_eq_getElem (by omega)
  obtain ⟨u, h1, h2⟩ := hl.getSome i hg
  exact ⟨l[i], u, by rw [hc i hi, hg], by rw [harr i hi, h1], h2⟩

theorem grows_sound (hR : RS P ι s w) {w1 : World} (hh : w1.heap = w.heap) (ht : w1.tape = w.tape) (ho : w1.os = w.os) (hu : w1.output = w.output) {e : TypeId} {ei : Ty} {z : Value}
    (he : (env P).ty e = some ei) (hzs : z.cells.size = ei.size) {L : List Value} {U : Array Value} (hL : VRs ι L U.toList) {need newCap : Nat} (hlen : L.length = need * ei.size) (hcap : need ≤ newCap)
    {c : PT Value} {zz : List Value} (hc : ∀ i, i < need * ei.size → cellAt c zz (need * ei.size) i = L[i]?) :
    ∃ ι' w', w' = w1.alloc (.cells (U ++ Builtin.zeroCells z.cells (newCap - need)) e (0, 0)) ∧ VR ι' (.slice (some ⟨s.next, 0, none⟩) need need) (.slice (some ⟨w1.heap.size, 0, none⟩) need newCap) ∧
      RS P ι' (s.new fun v => .cells c zz (need * ei.size) e true false v) w' ∧ ES ι s w ι' (s.new fun v => .cells c zz (need * ei.size) e true false v) w' := by
  have hR1 : RS P ι s w1 := R.drew hR hh
  have hfree : ι s.next = none := hR.fresh _ (Nat.le_refl _) hR.odd
  have hUl : U.size = need * ei.size := by rw [← hlen]; exact (by simpa using hL.length.symm)
  have hsz : (U ++ Builtin.zeroCells z.cells (newCap - need)).size = need * ei.size + (newCap - need) * ei.size := by
    simp [Builtin.zeroCells, hUl, hzs]
  have hobj : ObjR (env P) (ι.add s.next ⟨w1.heap.size, 0, newCap - need, false⟩) (w1.alloc (.cells (U ++ Builtin.zeroCells z.cells (newCap - need)) e (0, 0))) ⟨w1.heap.size, 0, newCap - need, false⟩
      ((fun v => AObj.cells c zz (need * ei.size) e true false v) s.clk) := by
    refine objR_cells (VRs.mono (Inj.le_add hfree) hL) hlen.symm hc (e' := e) heap_alloc_new ?_ rfl (fun h => by cases h) ?_ ?_
    · intro i hi
      simp only [Nat.zero_add]
      rw [Array.getElem?_append_left (by omega)]
      simp
    · intro ei' hei'
      rw [he] at hei'
      cases hei'
      simp only [Nat.zero_add]; omega
    · simp only [Nat.zero_add]; omega
  obtain ⟨g1, g2⟩ := RS.new hR1 _ hobj
  refine ⟨_, _, rfl, ?_, g1, Ext.drew g2 hh ht ho hu⟩
  have := VR.slice (ι := ι.add s.next ⟨w1.heap.size, 0, newCap - need, false⟩) (o := 0) need need (Inj.add_same ι s.next _)
  simpa [show need + (newCap - need) = newCap from by omega] using this

theorem appendB_sound (hR : RS P ι s w) {argTypes : Array TypeId} {ty t t2 e : TypeId} {args : Array Value} {base base' : Option Addr} {sLen sCap sCap' n : Nat} {x : Value} {i i2 ei : Ty} {z : Value}
    (hat : argTypes.toList = [t, t2]) (harg : args.toList = [.slice base' sLen sCap', x]) (ht : (env P).ty t = some i) (hd : i.desc = .slice e) (ht2 : (env P).ty t2 = some i2)
    (hni : strOrSlice i2.desc = true) (he : (env P).ty e = some ei) (hz : ei.zero = some z) (hzs : z.cells.size = ei.size) (hlen : ∀ w1 : World, (Builtin.lenOf x).run P w1 = .ok n w1)
    (hs : VR ι (.slice base sLen sCap) (.slice base' sLen sCap')) {new : List Value} {newU : Array Value} (hnew : VRs ι new newU.toList)
    (hfirst : ∀ w1 : World, w1.heap = w.heap → (Builtin.firstCells ei.size n x).run P w1 = .ok newU w1) (hnl : new.length = n * ei.size) (h40 : sLen + n < 2 ^ 40)
    (hb47 : (2 * (sLen + n) + 1000) * ei.bytes ≤ 2 ^ 47) (hone : new.all one1 = true) {v : Value} (h : appendB s e ei.size base sLen sCap n new = some (v, s')) :
    Does P ι s w (Builtin.append_ argTypes ty args) v s' := by
  obtain ⟨hfit, hgrow⟩ := append_head (w := w) (ty := ty) hat harg ht hd ht2 hni he hz (hlen w) (hfirst w rfl)
  unfold appendB at h
  split at h
  · -- it fits
    rename_i hle
    split at h
    · rename_i a
      split at h
      · rename_i hemp
        simp only [Option.some.injEq, Prod.mk.injEq] at h
        obtain ⟨rfl, rfl⟩ := h
        have hnil : new = [] := by simpa using hemp
        subst hnil
        have hUnil : newU.toList = [] := hnew.nil_left
        generalize hb' : Value.slice base' sLen sCap' = u at hs
        cases hs with
        | slice _ _ hl =>
          cases hb'
          refine ⟨_, ι, w, ?_, .slice _ _ hl, hR, Ext.refl⟩
          rw [hfit (by omega), hUnil]; rfl
        | slice0 hl =>
          cases hb'
          have hn0 : n = 0 := by omega
          subst hn0
          refine ⟨_, ι, w, ?_, .slice0 hl, hR, Ext.refl⟩
          rw [hfit (by omega), hUnil]; rfl
      · rename_i hemp
        split at h
        · rename_i s1 hst
          simp only [Option.some.injEq, Prod.mk.injEq] at h
          obtain ⟨rfl, rfl⟩ := h
          generalize hb' : Value.slice base' sLen sCap' = u at hs
          cases hs with
          | slice _ _ hl =>
            cases hb'
            rw [Addr.add_none] at hst
            obtain ⟨w', g1, g2, g3⟩ := storeN_sound hR hl hnew hst
            refine ⟨_, ι, w', ?_, .slice _ _ hl, g2, g3⟩
            rw [hfit (by omega)]
            simp only [Addr.add_none]
            rw [Nat.add_assoc, g1]; rfl
          | slice0 hl =>
            have hn0 : n = 0 := by omega
            subst hn0
            have : new = [] := List.eq_nil_of_length_eq_zero (by simpa using hnl)
            subst this
            exact absurd rfl hemp
        · cases h
    · split at h
      · rename_i hn0
        subst hn0
        simp only [Option.some.injEq, Prod.mk.injEq] at h
        obtain ⟨rfl, rfl⟩ := h
        cases hs
        refine ⟨_, ι, w, ?_, .nilslice _ _, hR, Ext.refl⟩
        rw [hfit hle]; rfl
      · cases h
  · -- it outgrows its room
    rename_i hle
    split at h
    · split at h
      · rename_i hs0
        subst hs0
        simp only [Option.some.injEq, Prod.mk.injEq] at h
        obtain ⟨rfl, rfl⟩ := h
        cases hs
        obtain ⟨newCap, w1, k1, k2, k3, k4, k5, k6⟩ := hgrow hle h40 hb47
        have hrun := k6 #[] newU rfl (hfirst w1 k1)
        obtain ⟨ι', w', q1, q2, q3, q4⟩ := grows_sound hR k1 k2 k3 k4 he hzs hnew (need := 0 + n) (by simpa using hnl) k5 (c := PT.ofList new) (zz := []) (by
          intro i hi
          unfold cellAt
          rw [if_pos hi, PT.get_ofList]
          obtain ⟨y, hy⟩ : ∃ y, new[i]? = some y := ⟨_, List.getElem?_eq_getElem (by rw [hnl]; simpa using hi)⟩
          rw [hy])
        refine ⟨_, ι', w', ?_, q2, q3, q4⟩
        rw [hrun, q1]; simp
      · cases h
    · rename_i a
      split at h
      · rename_i c zz m e0 room ver hH
        split at h
        · rename_i hcond
          obtain ⟨he0, hin⟩ := hcond
          have he0' := he0.symm
          subst he0'
          split at h
          · rename_i c' z' hg
            simp only [Option.some.injEq, Prod.mk.injEq] at h
            obtain ⟨rfl, rfl⟩ := h
            obtain ⟨old, g1, g2, g3⟩ := grown_spec hg
            obtain ⟨l, arr, e', fz, p1, p2, p3, p4, p5, p6, p7, p8⟩ := cells_of hR (show s.look a.block = _ from hH)
            rw [p3 rfl] at p2
            have p6' := p6 ei he
            -- where the slice lies
            obtain ⟨off', hbase, hcap', hF1, hF2⟩ : ∃ off', base' = some ⟨l.blk, off', none⟩ ∧ sCap' = sCap + l.extra ∧ (sLen * ei.size ≠ 0 → a.spot = none ∧ off' = l.off + a.off) ∧
                (sLen + n ≤ sCap' → off' + (sCap + l.extra) * ei.size ≤ arr.size) := by
              generalize hb' : Value.slice base' sLen sCap' = u at hs
              cases hs with
              | slice _ _ hl =>
                cases hb'
                simp only at p1
                rw [hl] at p1; cases p1
                simp only [inBlock, decide_eq_true_eq] at hin
                refine ⟨_, rfl, rfl, fun _ => ⟨rfl, rfl⟩, fun _ => ?_⟩
                rw [Nat.add_mul]; omega
              | slice0 hl =>
                cases hb'
                simp only at p1
                rw [hl] at p1; cases p1
                simp only [inBlock, decide_eq_true_eq] at hin
                refine ⟨_, rfl, by omega, fun h0 => by simp at h0, fun hf => ?_⟩
                rw [if_neg (by omega)]
                simp only [Nat.zero_add]; omega
            subst hbase
            subst hcap'
            -- what it held
            obtain ⟨oldU, hold, holdrun, holdarr⟩ : ∃ oldU : Array Value, VRs ι old oldU.toList ∧
                (∀ w1 : World, w1.heap = w.heap → (Builtin.firstCells ei.size sLen (.slice (some ⟨l.blk, off', none⟩) sLen (sCap + l.extra))).run P w1 = .ok oldU w1) ∧
                ∀ i, i < sLen * ei.size → arr[off' + i]? = oldU.toList[i]? := by
              by_cases h0 : sLen * ei.size = 0
              · have : old = [] := List.eq_nil_of_length_eq_zero (by omega)
                subst this
                exact ⟨#[], .nil, fun w1 _ => by simp [Builtin.firstCells, h0, loadCells, loadCellsFrom], fun i hi => by omega⟩
              · obtain ⟨hsp, hoff⟩ := hF1 h0
                subst hoff
                rcases g2 with g2 | ⟨_, g2⟩
                · exact absurd g2 h0
                · obtain ⟨r1, r2, r3⟩ := readCells_get p8 _ _ _ g2
                  refine ⟨((arr.toList.drop (l.off + a.off)).take (sLen * ei.size)).toArray, by simpa using r3, ?_, ?_⟩
                  · intro w1 hw1
                    have := run_loadCells (P := P) (w := w1) (k := sLen * ei.size) (o := l.off + a.off) (by rw [hw1]; exact p2) (by omega)
                    simpa [Builtin.firstCells] using this
                  · intro i hi
                    simp [hi, List.getElem?_drop]
            have hLU : VRs ι (old ++ new) (oldU ++ newU).toList := by simpa using hold.append hnew
            have hLlen : (old ++ new).length = (sLen + n) * ei.size := by rw [List.length_append, g1, hnl, Nat.add_mul]
            have hcells : ∀ i, i < (sLen + n) * ei.size → cellAt c' z' ((sLen + n) * ei.size) i = (old ++ new)[i]? := by
              intro i hi
              have := g3 i (by rw [hnl, ← Nat.add_mul]; exact hi)
              rw [hnl, ← Nat.add_mul] at this
              exact this
            by_cases hfc : sLen + n ≤ sCap + l.extra
            · -- in place
              have hroom : room = true := by
                cases room with
                | true => rfl
                | false => have := p5 rfl; omega
              subst hroom
              have hb2 := hF2 hfc
              have hnlU : newU.toList.length = n * ei.size := by rw [← hnew.length]; exact hnl
              have hneed : (sLen + n) * ei.size ≤ (sCap + l.extra) * ei.size := Nat.mul_le_mul_right _ hfc
              have hmul : (sLen + n) * ei.size = sLen * ei.size + n * ei.size := Nat.add_mul _ _ _
              have hst := run_storeCells (P := P) newU.toList w l.blk (off' + sLen * ei.size) 0 arr e' p2 (by rw [← hnew.one1]; exact hone) (by omega)
              have hsub : (sCap + l.extra - (sLen + n)) * ei.size + (sLen + n) * ei.size = (sCap + l.extra) * ei.size := by rw [← Nat.add_mul]; congr 1; omega
              have hfree : ι s.next = none := hR.fresh _ (Nat.le_refl _) hR.odd
              have hobj : ObjR (env P) (ι.add s.next ⟨l.blk, off', sCap + l.extra - (sLen + n), false⟩) (World.setBlk w l.blk (.cells (arrSet arr (off' + sLen * ei.size + 0) newU.toList) e' (0, 0)))
                  ⟨l.blk, off', sCap + l.extra - (sLen + n), false⟩ (.cells c' z' ((sLen + n) * ei.size) e true false (s.clk + 1)) := by
                refine objR_cells (VRs.mono (Inj.le_add hfree) hLU) hLlen.symm hcells (e' := e') (heap_setBlk_same (lt_of_heap p2)) ?_ rfl (fun h => by cases h) ?_ ?_
                · intro i hi
                  have hol : oldU.toList.length = sLen * ei.size := by rw [← hold.length]; exact g1
                  simp only
                  rw [get_arrSet _ _ _ _ (by omega)]
                  by_cases hi2 : i < sLen * ei.size
                  · rw [if_neg (by omega), holdarr i hi2, Array.toList_append, List.getElem?_append_left (by omega)]
                  · rw [if_pos (by omega), Array.toList_append, List.getElem?_append_right (by omega), hol, show off' + i - (off' + sLen * ei.size + 0) = i - sLen * ei.size from by omega]
                    obtain ⟨y, hy⟩ : ∃ y, newU.toList[i - sLen * ei.size]? = some y := ⟨_, List.getElem?_eq_getElem (by omega)⟩
                    rw [hy]
                · intro ei' hei'
                  rw [he] at hei'; cases hei'
                  simp only [size_arrSet]; omega
                · simp only [size_arrSet]; omega
              have k1 := R.graft (H := s.look) hR (show s.look a.block = _ from hH) rfl p1 p4 _ off' (sCap + l.extra - (sLen + n)) hobj
              have k2 := Ext.graft (H := s.look) (w := w) hR.odd hfree (show s.look a.block = _ from hH) rfl p1 p4 (.cells (arrSet arr (off' + sLen * ei.size + 0) newU.toList) e' (0, 0)) off' (sCap + l.extra - (sLen + n))
                (.cells c' z' ((sLen + n) * ei.size) e true false (s.clk + 1))
              have hlook : ((s.kill a.block).new fun v => AObj.cells c' z' ((sLen + n) * ei.size) e true false v).look =
                  upd (upd s.look a.block .dead) s.next (.cells c' z' ((sLen + n) * ei.size) e true false (s.clk + 1)) := by
                rw [look_new]
                show upd (s.kill a.block).look s.next _ = _
                rw [show (s.kill a.block).look = upd s.look a.block .dead from look_put s _ _]
                rfl
              refine ⟨.slice (some ⟨l.blk, off', none⟩) (sLen + n) (sCap + l.extra), ι.add s.next ⟨l.blk, off', sCap + l.extra - (sLen + n), false⟩, World.setBlk w l.blk (.cells (arrSet arr (off' + sLen * ei.size + 0) newU.toList) e' (0, 0)), ?_, ?_, ?_, ?_⟩
              · rw [hfit hfc]
                simp only [Addr.add_none]
                rw [hst]; rfl
              · have := VR.slice (ι := ι.add s.next ⟨l.blk, off', sCap + l.extra - (sLen + n), false⟩) (o := 0) (sLen + n) (sLen + n) (Inj.add_same ι s.next _)
                simpa [show sLen + n + (sCap + l.extra - (sLen + n)) = sCap + l.extra from by omega] using this
              · unfold RS; simp only [if_true]; rw [hlook]; exact k1
              · unfold ES; simp only [if_true]; rw [hlook]; exact k2
            · -- a new array
              obtain ⟨newCap, w1, k1, k2, k3, k4, k5, k6⟩ := hgrow hfc h40 hb47
              have hrun := k6 oldU newU (holdrun w1 k1) (hfirst w1 k1)
              have hs1 : ∃ s1 : St, s1 = (if room then s.kill a.block else s) ∧ s1.next = s.next ∧ RS P ι s1 w ∧ ES ι s w ι s1 w := by
                cases room with
                | true => exact ⟨_, rfl, rfl, (hR.kill a.block).1, (hR.kill a.block).2⟩
                | false => exact ⟨_, rfl, rfl, hR, Ext.refl⟩
              obtain ⟨s1, hs1, hn1, hR1, hE1⟩ := hs1
              rw [← hs1]
              obtain ⟨ι', w', q1, q2, q3, q4⟩ := grows_sound hR1 k1 k2 k3 k4 he hzs hLU hLlen k5 hcells
              rw [hn1] at q2
              refine ⟨_, ι', w', ?_, q2, q3, Ext.trans hE1 q4⟩
              rw [hrun, q1]
          · cases h
        · cases h
      · cases h
end Go.Dust
