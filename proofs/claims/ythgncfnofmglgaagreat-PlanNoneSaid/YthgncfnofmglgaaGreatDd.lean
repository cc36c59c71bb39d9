/- Operations that only read: what D computes is what the model computes. -/
import Derived.Test.YthgncfnofmglgaaGreatDc
namespace Go.Dust
variable {P : Program} {ι : Inj} {H : Look} {n : Nat} {w : World}

/-- How a run of a still thing is said. -/
abbrev Gives (P : Program) (ι : Inj) (w : World) (s : Sem Value) (v : Value) : Prop := ∃ v', s.run P w = .ok v' w ∧ VR ι v v'

/-! ### Loads -/
theorem cells_of (hR : R (env P) ι H n w) {b : Nat} {c : PT Value} {z : List Value} {m : Nat} {e : TypeId} {room ro : Bool} {ver : Nat} (h : H b = some (.cells c z m e room ro ver)) :
    ∃ l arr e' fz, ι b = some l ∧ w.heap[l.blk]? = some (.cells arr e' fz) ∧ (ro = false → fz = (0, 0)) ∧ l.ro = ro ∧ (room = false → l.extra = 0) ∧
      (∀ ei, (env P).ty e = some ei → l.off + m + l.extra * ei.size ≤ arr.size) ∧ l.off + m ≤ arr.size ∧
      (∀ i, i < m → ∃ v u, cellAt c z m i = some v ∧ arr[l.off + i]? = some u ∧ VR ι v u) := by
  obtain ⟨l, h1, h2⟩ := hR.obj b _ h rfl
  obtain ⟨arr, e', fz, h3⟩ := h2
  exact ⟨l, arr, e', fz, h1, h3⟩

theorem readCells_get {c : PT Value} {z : List Value} {m : Nat} {arr : Array Value} {off : Nat} (h7 : ∀ i, i < m → ∃ v u, cellAt c z m i = some v ∧ arr[off + i]? = some u ∧ VR ι v u) :
    ∀ (k i : Nat) (l : List Value), readCells c z m i k = some l → (k = 0 ∨ i + k ≤ m) ∧ l.length = k ∧ VRs ι l ((arr.toList.drop (off + i)).take k)
  | 0, i, l, h => by
    simp only [readCells, Option.some.injEq] at h
    subst h
    exact ⟨.inl rfl, rfl, by simp; exact .nil⟩
  | k + 1, i, l, h => by
    simp only [readCells] at h
    cases hc : cellAt c z m i with
    | none => rw [hc] at h; cases h
    | some v =>
      rw [hc] at h
      simp only at h
      cases hr : readCells c z m (i + 1) k with
      | none => rw [hr] at h; cases h
      | some l' =>
        rw [hr] at h
        simp only [Option.some.injEq] at h
        subst h
        have him : i < m := by
          unfold cellAt at hc
          split at hc
          · assumption
          · cases hc
        obtain ⟨v', u, h1, h2, h3⟩ := h7 i him
        rw [hc] at h1; cases h1
        obtain ⟨g1, g2, g3⟩ := readCells_get h7 k (i + 1) l' hr
        obtain ⟨hlt, hget⟩ := Array.getElem?_eq_some_iff.1 h2
        refine ⟨.inr (by omega), by simp [g2], ?_⟩
        rw [List.drop_eq_getElem_cons (i := off + i) (by simpa using hlt), List.take_succ_cons]
        refine .cons ?_ ?_
        · have : arr.toList[off + i] = u := by simpa using hget
          rw [this]; exact h3
        · simpa [Nat.add_assoc] using g3

theorem loadN_sound (hR : R (env P) ι H n w) {b o : Nat} {l : Loc} (hl : ι b = some l) {k : Nat} {vs : List Value} (h : loadN H ⟨b, o, none⟩ k = some vs) :
    ∃ us, (loadCells ⟨l.blk, l.off + o, none⟩ k).run P w = .ok us w ∧ VRs ι vs us.toList ∧ vs.length = k := by
  unfold loadN at h
  simp only at h
  split at h
  · rename_i c z m e room ro ver hs hb
    obtain ⟨l', arr, e', fz, h1, h2, _, _, _, _, h6, h7⟩ := cells_of hR hb
    rw [hl] at h1; cases h1
    obtain ⟨g1, g2, g3⟩ := readCells_get h7 k o vs h
    exact ⟨_, run_loadCells h2 (by omega), by simpa using g3, g2⟩
  · cases h

theorem load1_sound (hR : R (env P) ι H n w) {b o : Nat} {l : Loc} (hl : ι b = some l) {v : Value} (h : load1 H ⟨b, o, none⟩ = some v) :
    Gives P ι w (load ⟨l.blk, l.off + o, none⟩) v := by
  unfold load1 at h
  simp only at h
  split at h
  · rename_i c z m e room ro ver hs hb
    obtain ⟨l', arr, e', fz, h1, h2, _, _, _, _, h6, h7⟩ := cells_of hR hb
    rw [hl] at h1; cases h1
    have him : o < m := by
      unfold cellAt at h
      split at h
      · assumption
      · cases h
    obtain ⟨v', u, g1, g2, g3⟩ := h7 o him
    rw [h] at g1; cases g1
    obtain ⟨hlt, hget⟩ := Array.getElem?_eq_some_iff.1 g2
    refine ⟨u, ?_, g3⟩
    have hc : w.cell? ⟨l.blk, l.off + o, none⟩ = some u := by simp [World.cell?, h2, g2]
    simp [load, Sem.run, hc]
  · cases h

theorem loadT_sound (hR : R (env P) ι H n w) {b o : Nat} {l : Loc} (hl : ι b = some l) {t : TypeId} {v : Value} (h : loadT (env P) H t ⟨b, o, none⟩ = some v) :
    Gives P ι w (loadVar t ⟨l.blk, l.off + o, none⟩) v := by
  unfold loadT at h
  cases ht : (env P).ty t with
  | none => rw [ht] at h; cases h
  | some i =>
    rw [ht] at h
    simp only at h
    unfold loadVar
    cases hagg : i.agg with
    | true =>
      rw [hagg] at h
      simp only [if_true] at h
      cases hl' : loadN H ⟨b, o, none⟩ i.size with
      | none => rw [hl'] at h; cases h
      | some vs =>
        rw [hl'] at h
        simp only [Option.some.injEq] at h
        subst h
        obtain ⟨us, g1, g2, _⟩ := loadN_sound (P := P) hR hl hl'
        exact ⟨.agg us, by simp [run_isAggA ht, hagg, run_sizeOfA ht, g1], .agg' (by simpa using g2)⟩
    | false =>
      rw [hagg] at h
      simp only [Bool.false_eq_true, if_false] at h
      obtain ⟨u, g1, g2⟩ := load1_sound (P := P) hR hl h
      exact ⟨u, by simp only [Sem.run_bind, run_isAggA ht, Result.andThen_ok, hagg, Bool.false_eq_true, if_false, g1], g2⟩

/-- A pointer that D can look behind. -/
theorem ptr_inv {a : Addr} {u : Value} (h : VR ι (.pointer (some a)) u) : ∃ b o l, a = ⟨b, o, none⟩ ∧ ι b = some l ∧ u = .pointer (some ⟨l.blk, l.off + o, none⟩) := by
  cases h with | ptr hl => exact ⟨_, _, _, rfl, hl, rfl⟩

theorem part_sound {t : TypeId} {cs cs' : Array Value} (hcs : VRs ι cs.toList cs'.toList) {off : Nat} {v : Value} (h : partT (env P) t cs off = some v) : Gives P ι w (part t cs' off) v := by
  unfold partT at h
  cases ht : (env P).ty t with
  | none => rw [ht] at h; cases h
  | some i =>
    rw [ht] at h
    simp only at h
    unfold part
    cases hagg : i.agg with
    | true =>
      rw [hagg] at h
      simp only [if_true] at h
      split at h
      · rename_i hsz
        simp only [Option.some.injEq] at h
        subst h
        refine ⟨.agg (cs'.extract off (off + i.size)), by simp [run_isAggA ht, hagg, run_sizeOfA ht], .agg' ?_⟩
        have h1 : (cs.extract off (off + i.size)).toList = (cs.toList.drop off).take i.size := by simp
        have h2 : (cs'.extract off (off + i.size)).toList = (cs'.toList.drop off).take i.size := by simp
        rw [h1, h2]
        exact (hcs.drop off).take _
      · cases h
    | false =>
      rw [hagg] at h
      simp only [Bool.false_eq_true, if_false] at h
      obtain ⟨u, g1, g2⟩ := hcs.getSome off (v := v) (by simpa using h)
      refine ⟨u, ?_, g2⟩
      have : cs'[off]? = some u := by simpa using g1
      simp [run_isAggA ht, hagg, this]

/-! ### Numbers and strings -/
theorem cmpI_sound {op : BinOp} {x y : Int} {v : Value} (h : cmpI op x y = some v) : (Op.intCmp op x y).run P w = .ok v w ∧ VR ι v v := by
  unfold cmpI at h
  split at h <;> simp only [Option.some.injEq, reduceCtorEq] at h <;> subst h <;> exact ⟨by simp [Op.intCmp], .bool _⟩

theorem arith_sound {op : BinOp} {k : IntKind} {x y : Int} {v : Value} (hs1 : op ≠ .shl) (hs2 : op ≠ .shr) (t : TypeId) (h : arith op k x y = some v) :
    (binOp op t (.int k x) (.int k y)).run P w = .ok v w ∧ VR ι v v := by
  unfold arith at h
  split at h <;> first
    | (simp only [Option.some.injEq] at h; subst h; exact ⟨by simp [binOp, Op.intArith, Op.intBits], .int _ _⟩)
    | (split at h
       · cases h
       · rename_i hy
         simp only [Option.some.injEq] at h; subst h
         exact ⟨by simp [binOp, Op.intDiv, hy], .int _ _⟩)
    | skip
  have hc := h
  unfold cmpI at hc
  split at hc <;> simp only [Option.some.injEq, reduceCtorEq] at hc <;> subst hc <;> exact ⟨by simp [binOp, Op.intCmp], .bool _⟩

theorem shift_sound {op : BinOp} {k k' : IntKind} {x y : Int} {v : Value} (hop : op = .shl ∨ op = .shr) (t : TypeId) (h : shiftI op k x y = some v) :
    (binOp op t (.int k x) (.int k' y)).run P w = .ok v w ∧ VR ι v v := by
  unfold shiftI at h
  split at h
  · cases h
  · rename_i hy
    rcases hop with rfl | rfl
    · simp only [Option.some.injEq] at h; subst h
      exact ⟨by simp [binOp, Op.shift, hy], .int _ _⟩
    · simp only [Option.some.injEq] at h; subst h
      exact ⟨by simp [binOp, Op.shift, hy], .int _ _⟩

theorem str_sound {op : BinOp} {x y : ByteArray} {v : Value} (t : TypeId) (h : strI op x y = some v) : (binOp op t (.string x) (.string y)).run P w = .ok v w ∧ VR ι v v := by
  unfold strI at h
  split at h
  · split at h
    · cases h
    · rename_i hsz
      simp only [Option.some.injEq] at h; subst h
      exact ⟨by simp only [binOp, Op.stringOp]; rw [if_neg hsz]; rfl, .string _⟩
  all_goals first
    | (simp only [Option.some.injEq] at h; subst h; exact ⟨by simp [binOp, Op.stringOp], .bool _⟩)
    | cases h
/-! ### Equality -/
theorem isCells_spec (hR : R (env P) ι H n w) {b : Nat} (h : isCells H b = true) :
    ∃ o l arr e, H b = some o ∧ o.isDead = false ∧ ι b = some l ∧ l.ro = false ∧ w.heap[l.blk]? = some (.cells arr e (0, 0)) := by
  unfold isCells at h
  split at h
  · rename_i c z m e room ver hb
    obtain ⟨l, arr, e', fz, h1, h2, h3, h4, _⟩ := cells_of hR hb
    rw [h3 rfl] at h2
    exact ⟨_, l, arr, e', hb, rfl, h1, h4, h2⟩
  · cases h

theorem run_sameAddr_ne {a b : Addr} {arr arr' : Array Value} {e e' : TypeId} (hne : a.block ≠ b.block) (ha : w.heap[a.block]? = some (.cells arr e (0, 0)))
    (hb : w.heap[b.block]? = some (.cells arr' e' (0, 0))) : (sameAddr a b).run P w = .ok false w := by
  have fa : ∀ o s, w.frozen? ⟨a.block, o, s⟩ = false := fun o s => by simp [World.frozen?, ha]
  have fb : ∀ o s, w.frozen? ⟨b.block, o, s⟩ = false := fun o s => by simp [World.frozen?, hb]
  have sa : w.shape? a.block = some (e, arr.size) := by simp [World.shape?, ha]
  have sb : w.shape? b.block = some (e', arr'.size) := by simp [World.shape?, hb]
  have fa' := fa a.off a.spot
  have fb' := fb b.off b.spot
  unfold sameAddr
  simp only [beq_eq_false_iff_ne.2 hne, Bool.false_eq_true, if_false, Sem.run_bind, run_frozen, Result.andThen_ok, fa', fb', Bool.and_self, noView, viewAt, run_shape, sa, sb, Option.isSome_some, if_true,
    Sem.run_pure, mayBeOne, stringish, fa, fb, Bool.false_and, Bool.or_self, Option.isSome_none]

theorem nilptr_inv {u : Value} (h : VR ι (.pointer none) u) : u = .pointer none := by cases h; rfl

theorem eqFields_sound {d : Nat} {f : TypeId → Value → Value → Option Bool} {xs ys xs' ys' : Array Value} (hx : VRs ι xs.toList xs'.toList) (hy : VRs ι ys.toList ys'.toList)
    (hf : ∀ t x y x' y' b, f t x y = some b → VR ι x x' → VR ι y y' → (Op.equalIn d t x' y').run P w = .ok b w) :
    ∀ (fs : List Field) (b : Bool), eqFields (env P) f xs ys fs = some b → (Op.eqFields d xs' ys' fs).run P w = .ok b w
  | [], b, h => by simp only [eqFields, Option.some.injEq] at h; subst h; rfl
  | fd :: fs, b, h => by
    simp only [eqFields] at h
    simp only [Op.eqFields]
    by_cases hn : fd.name = "_"
    · rw [if_pos hn] at h
      rw [if_neg (by simpa using hn)]
      exact eqFields_sound hx hy hf fs b h
    · rw [if_neg hn] at h
      rw [if_pos hn]
      split at h
      · rename_i u v hu hv
        obtain ⟨u', g1, g2⟩ := part_sound (P := P) (w := w) hx hu
        obtain ⟨v', g3, g4⟩ := part_sound (P := P) (w := w) hy hv
        simp only [Sem.run_bind, g1, g3, Result.andThen_ok]
        split at h
        · rename_i he
          simp only [hf _ _ _ _ _ _ he g2 g4, Result.andThen_ok, Bool.not_true, Bool.false_eq_true, if_false]
          exact eqFields_sound hx hy hf fs b h
        · rename_i he
          simp only [Option.some.injEq] at h
          subst h
          simp only [hf _ _ _ _ _ _ he g2 g4, Result.andThen_ok, Bool.not_false, if_true, Sem.run_pure]
        · cases h
      · cases h

set_option maxHeartbeats 2000000 in
theorem eqAt_sound (hR : R (env P) ι H n w) : ∀ (d e : Nat), d ≤ e → ∀ (t : TypeId) (x y x' y' : Value) (b : Bool), eqAt (env P) H d t x y = some b → VR ι x x' → VR ι y y' →
    (Op.equalIn e t x' y').run P w = .ok b w
  | 0, _, _, _, _, _, _, _, _, h, _, _ => by simp [eqAt] at h
  | d + 1, e, hde, t, x, y, x', y', b, h, hx, hy => by
    obtain ⟨e, rfl⟩ : ∃ m, e = m + 1 := ⟨e - 1, by omega⟩
    simp only [eqAt] at h
    cases ht : (env P).ty t with
    | none => rw [ht] at h; cases h
    | some i =>
      rw [ht] at h
      simp only at h
      obtain ⟨inf, _, hu, _, _, _, _, _, hcmp⟩ := ty_some ht
      split at h
      · rename_i hd
        rw [hx.bool_eq, hy.bool_eq]
        simp only [Option.some.injEq] at h; subst h
        rw [hd] at hu
        exact run_equalIn_bool' w e t _ _ hu
      · rename_i hd
        rw [hx.int_eq, hy.int_eq]
        split at h
        · rename_i hk
          subst hk
          simp only [Option.some.injEq] at h; subst h
          rw [hd] at hu
          exact run_equalIn_int w e t _ _ _ _ hu
        · cases h
      · rename_i hd
        rw [hx.string_eq, hy.string_eq]
        simp only [Option.some.injEq] at h; subst h
        rw [hd] at hu
        exact run_equalIn_string w e t _ _ hu
      · -- nil and a pointer
        rename_i el hd
        simp only [Option.some.injEq] at h; subst h
        rw [nilptr_inv hx]
        rw [hd] at hu
        cases hy with
        | nilptr => simp [Op.equalIn, run_underlying hu]
        | ptr hl => simp [Op.equalIn, run_underlying hu]
      · rename_i el a hd
        simp only [Option.some.injEq] at h; subst h
        rw [nilptr_inv hy]
        rw [hd] at hu
        obtain ⟨_, _, _, _, _, rfl⟩ := ptr_inv hx
        simp [Op.equalIn, run_underlying hu]
      · rename_i el a a' hd
        rw [hd] at hu
        cases hel : (env P).ty el with
        | none => rw [hel] at h; cases h
        | some ei =>
          rw [hel] at h
          simp only at h
          split at h
          · cases h
          · rename_i hsz
            obtain ⟨b1, o1, l1, rfl, hl1, rfl⟩ := ptr_inv hx
            obtain ⟨b2, o2, l2, rfl, hl2, rfl⟩ := ptr_inv hy
            simp only at h
            have hsz' : (ei.size != 0) = true := by simpa using hsz
            have key : (Op.equalIn (e + 1) t (.pointer (some ⟨l1.blk, l1.off + o1, none⟩)) (.pointer (some ⟨l2.blk, l2.off + o2, none⟩))).run P w =
                (sameAddr ⟨l1.blk, l1.off + o1, none⟩ ⟨l2.blk, l2.off + o2, none⟩).run P w := by
              simp only [Op.equalIn, Sem.run_bind, run_underlying hu, Result.andThen_ok, run_sizeOfA hel, ne_eq, hsz, not_false_eq_true, if_true]
            rw [key]
            split at h
            · rename_i hbb
              subst hbb
              simp only [Option.some.injEq] at h; subst h
              rw [hl1] at hl2; cases hl2
              simp only [sameAddr, BEq.rfl, if_true, Sem.run_pure]
              congr 1
              by_cases ho : o1 = o2
              · subst ho; simp
              · rw [beq_eq_false_iff_ne.2 ho]
                simp only [beq_eq_false_iff_ne, ne_eq, Addr.mk.injEq, true_and, and_true]
                omega
            · rename_i hbb
              split at h
              · rename_i hcc
                simp only [Option.some.injEq] at h; subst h
                rw [Bool.and_eq_true] at hcc
                obtain ⟨q1, m1, arr1, e1, p1, p2, p3, p4, p5⟩ := isCells_spec hR hcc.1
                obtain ⟨q2, m2, arr2, e2, r1, r2, r3, r4, r5⟩ := isCells_spec hR hcc.2
                rw [hl1] at p3; cases p3
                rw [hl2] at r3; cases r3
                exact run_sameAddr_ne (fun he => hbb (hR.inj _ _ _ _ _ _ p1 p2 r1 r2 hl1 hl2 p4 he)) p5 r5
              · cases h
      · rename_i hd
        simp only [Option.some.injEq] at h; subst h
        rw [hd] at hu
        cases hx; cases hy
        simp [Op.equalIn, run_underlying hu]
      · rename_i hd
        simp only [Option.some.injEq] at h; subst h
        rw [hd] at hu
        cases hx; cases hy
        simp [Op.equalIn, run_underlying hu]
      · rename_i hd
        simp only [Option.some.injEq] at h; subst h
        rw [hd] at hu
        cases hx; cases hy
        simp [Op.equalIn, run_underlying hu]
      · rename_i hd
        simp only [Option.some.injEq] at h; subst h
        rw [hd] at hu
        cases hx
        cases hy <;> simp [Op.equalIn, run_underlying hu]
      · rename_i hd
        simp only [Option.some.injEq] at h; subst h
        rw [hd] at hu
        cases hy
        cases hx <;> simp only [Op.equalIn, Sem.run_bind, run_underlying hu, Result.andThen_ok, Sem.run_pure]
      · rename_i hd
        simp only [Option.some.injEq] at h; subst h
        rw [hd] at hu
        cases hx
        cases hy <;> simp [Op.equalIn, run_underlying hu]
      · rename_i hd
        simp only [Option.some.injEq] at h; subst h
        rw [hd] at hu
        cases hy
        cases hx
        simp [Op.equalIn, run_underlying hu]
      · rename_i hd
        simp only [Option.some.injEq] at h; subst h
        rw [hd] at hu
        cases hx; cases hy
        simp [Op.equalIn, run_underlying hu]
      · rename_i hd
        simp only [Option.some.injEq] at h; subst h
        rw [hd] at hu
        cases hx
        cases hy <;> simp [Op.equalIn, run_underlying hu]
      · rename_i hd
        simp only [Option.some.injEq] at h; subst h
        rw [hd] at hu
        cases hy
        cases hx <;> simp only [Op.equalIn, Sem.run_bind, run_underlying hu, Result.andThen_ok, Sem.run_pure]
      · rename_i fields xs ys hd
        split at h
        · rename_i hc
          rw [hd] at hu
          obtain ⟨xs', rfl, hxs⟩ := hx.agg_inv
          obtain ⟨ys', rfl, hys⟩ := hy.agg_inv
          have hfo : P.fieldsOf t = fields := by simp [Program.fieldsOf, hu]
          rw [run_equalIn_struct w e t xs' ys' (by rw [hfo]; exact hu) (hcmp hc).1, hfo]
          refine eqFields_sound hxs hys ?_ _ b h
          intro t' x y x' y' b' hb hx' hy'
          split at hb
          · exact eqAt_sound hR d e (by omega) t' x y x' y' b' hb hx' hy'
          · cases hb
        · cases h
      · cases h

theorem eqGuard_other {op : BinOp} {t : TypeId} {x y : Operand} {a b : Value} (h1 : a = .nilIface → b = .nilIface → False) (h2 : ∀ cs ds, a = .agg cs → b = .agg ds → False) :
    (eqGuard op t x y a b).run P w = .ok () w := by
  unfold eqGuard
  cases op <;> first
    | rfl
    | (simp only [Bool.not_true, Bool.false_eq_true, if_false]; rfl)
theorem eqGuard_nil {op : BinOp} {t : TypeId} {x y : Operand} (hc : isConstO x = true ∨ isConstO y = true) : (eqGuard op t x y .nilIface .nilIface).run P w = .ok () w := by
  unfold eqGuard
  cases op <;> first
    | rfl
    | (rcases hc with hc | hc
       · cases x <;> first | rfl | cases hc
       · cases y <;> first | (cases hc; done) | (cases x <;> rfl))
theorem eqGuard_not {op : BinOp} {t : TypeId} {x y : Operand} {a b : Value} (h1 : op ≠ .eql) (h2 : op ≠ .neq) : (eqGuard op t x y a b).run P w = .ok () w := by
  unfold eqGuard
  cases op <;> first | exact absurd rfl h1 | exact absurd rfl h2 | rfl

theorem VR.nilIface_iff {v u : Value} (h : VR ι v u) : u = .nilIface → v = .nilIface := by
  intro e; subst e; cases h; rfl
theorem VR.agg_iff {v : Value} {cs : Array Value} (h : VR ι v (.agg cs)) : ∃ ds, v = .agg ds := by cases h; exact ⟨_, rfl⟩
theorem VR.int_iff {v : Value} {k : IntKind} {x : Int} (h : VR ι v (.int k x)) : v = .int k x := by cases h; rfl
theorem VR.string_iff {v : Value} {x : ByteArray} (h : VR ι v (.string x)) : v = .string x := by cases h; rfl
theorem VR.float_iff {v : Value} {k : FloatKind} {x : Nat} (h : VR ι v (.float k x)) : v = .float k x := by cases h; rfl
theorem VR.complex_iff {v : Value} {k : FloatKind} {x y : Nat} (h : VR ι v (.complex k x y)) : False := by cases h

theorem binOp_eql {t : TypeId} {a b : Value} (h1 : ∀ k x k' y, a = .int k x → b = .int k' y → False) (h2 : ∀ x y, a = .string x → b = .string y → False)
    (h3 : ∀ k x k' y, a = .float k x → b = .float k' y → False) (h4 : ∀ k x z k' y u, a = .complex k x z → b = .complex k' y u → False) :
    binOp .eql t a b = (do pure (.bool (← Op.equal t a b))) := by
  cases a <;> cases b <;> first
    | rfl
    | exact (h1 _ _ _ _ rfl rfl).elim
    | exact (h2 _ _ rfl rfl).elim
    | exact (h3 _ _ _ _ rfl rfl).elim
    | exact (h4 _ _ _ _ _ _ rfl rfl).elim
theorem binOp_neq {t : TypeId} {a b : Value} (h1 : ∀ k x k' y, a = .int k x → b = .int k' y → False) (h2 : ∀ x y, a = .string x → b = .string y → False)
    (h3 : ∀ k x k' y, a = .float k x → b = .float k' y → False) (h4 : ∀ k x z k' y u, a = .complex k x z → b = .complex k' y u → False) :
    binOp .neq t a b = (do pure (.bool (!(← Op.equal t a b)))) := by
  cases a <;> cases b <;> first
    | rfl
    | exact (h1 _ _ _ _ rfl rfl).elim
    | exact (h2 _ _ rfl rfl).elim
    | exact (h3 _ _ _ _ rfl rfl).elim
    | exact (h4 _ _ _ _ _ _ rfl rfl).elim

theorem eqAt_float {d : Nat} {t : TypeId} {k : FloatKind} {x : Nat} {b : Value} {r : Bool} (h : eqAt (env P) H d t (.float k x) b = some r) : False := by
  cases d with
  | zero => simp [eqAt] at h
  | succ d =>
    simp only [eqAt] at h
    cases ht : (env P).ty t with
    | none => rw [ht] at h; cases h
    | some i =>
      rw [ht] at h
      simp only at h
      cases hd : i.desc <;> rw [hd] at h <;> simp at h

theorem eqAt_agg {d : Nat} {t : TypeId} {cs : Array Value} {b : Value} {r : Bool} (h : eqAt (env P) H d t (.agg cs) b = some r) : ∃ i, (env P).ty t = some i ∧ i.cmp = true := by
  cases d with
  | zero => simp [eqAt] at h
  | succ d =>
    simp only [eqAt] at h
    cases ht : (env P).ty t with
    | none => rw [ht] at h; cases h
    | some i =>
      refine ⟨i, rfl, ?_⟩
      rw [ht] at h
      simp only at h
      cases hc : i.cmp with
      | true => rfl
      | false =>
        rw [hc] at h
        cases hd : i.desc <;> rw [hd] at h <;> (try simp at h)
        cases b <;> simp at h

theorem binop_sound (hR : R (env P) ι H n w) {op : BinOp} {t : TypeId} {x y : Operand} {a b a' b' v : Value} (ha : VR ι a a') (hb : VR ι b b')
    (h : (if bothNil a b && !(isConstO x || isConstO y) then none else binop (env P) H op t a b) = some v) :
    Gives P ι w (do eqGuard op t x y a' b'; binOp op t a' b') v := by
  have hn : bothNil a b = true → isConstO x = true ∨ isConstO y = true := by
    intro hbn
    rw [hbn] at h
    simp only [Bool.true_and] at h
    split at h
    · cases h
    · rename_i hc
      cases hx : isConstO x with
      | true => exact .inl rfl
      | false => cases hy : isConstO y with
        | true => exact .inr rfl
        | false => rw [hx, hy] at hc; exact absurd rfl hc
  have h' : binop (env P) H op t a b = some v := by
    split at h
    · cases h
    · exact h
  clear h
  -- what an equation of two values that are no numbers and no strings comes to
  have heq : ∀ r, eqAt (env P) H 10 t a b = some r → (∀ k x k' y, a = .int k x → b = .int k' y → False) → (∀ x y, a = .string x → b = .string y → False) →
      (eqGuard op t x y a' b').run P w = .ok () w ∧ (binOp .eql t a' b').run P w = .ok (.bool r) w ∧ (binOp .neq t a' b').run P w = .ok (.bool (!r)) w := by
    intro r hr hni hns
    have hE : (Op.equal t a' b').run P w = .ok r w := eqAt_sound hR 10 10000 (by omega) t a b a' b' r hr ha hb
    have k1 : ∀ k x k' y, a' = .int k x → b' = .int k' y → False := fun k x k' y e1 e2 => hni k x k' y (by subst e1; exact ha.int_iff) (by subst e2; exact hb.int_iff)
    have k2 : ∀ x y, a' = .string x → b' = .string y → False := fun x y e1 e2 => hns x y (by subst e1; exact ha.string_iff) (by subst e2; exact hb.string_iff)
    have k3 : ∀ k x k' y, a' = .float k x → b' = .float k' y → False := fun k x k' y e1 _ => by subst e1; rw [ha.float_iff] at hr; exact eqAt_float hr
    have k4 : ∀ k x z k' y u, a' = .complex k x z → b' = .complex k' y u → False := fun k x z k' y u e1 _ => by subst e1; exact ha.complex_iff
    refine ⟨?_, by rw [binOp_eql k1 k2 k3 k4]; simp [hE], by rw [binOp_neq k1 k2 k3 k4]; simp [hE]⟩
    by_cases hnil : a' = .nilIface ∧ b' = .nilIface
    · obtain ⟨rfl, rfl⟩ := hnil
      refine eqGuard_nil (hn ?_)
      rw [ha.nilIface_iff rfl, hb.nilIface_iff rfl]; rfl
    · by_cases hagg : (∃ cs, a' = .agg cs) ∧ (∃ ds, b' = .agg ds)
      · obtain ⟨⟨cs, rfl⟩, ⟨ds, rfl⟩⟩ := hagg
        obtain ⟨cs', rfl⟩ := ha.agg_iff
        obtain ⟨i, hi, hc⟩ := eqAt_agg hr
        obtain ⟨inf, _, _, _, _, _, _, _, hcmp⟩ := ty_some hi
        exact run_eqGuard_agg w op t x y _ _ (hcmp hc).2
      · exact eqGuard_other (fun e1 e2 => hnil ⟨e1, e2⟩) (fun cs ds e1 e2 => hagg ⟨⟨cs, e1⟩, ⟨ds, e2⟩⟩)
  unfold binop at h'
  split at h'
  · rename_i k x1 k' y1
    rw [ha.int_eq, hb.int_eq]
    have hg : (eqGuard op t x y (.int k x1) (.int k' y1)).run P w = .ok () w := eqGuard_other (fun e => by cases e) (fun _ _ e => by cases e)
    have hk : (binOp op t (.int k x1) (.int k' y1)).run P w = .ok v w ∧ VR ι v v := by
      split at h'
      · exact shift_sound (.inl rfl) t h'
      · exact shift_sound (.inr rfl) t h'
      · rename_i h1 h2
        split at h'
        · rename_i hkk
          subst hkk
          exact arith_sound (fun e => h1 e) (fun e => h2 e) t h'
        · cases h'
    exact ⟨v, by simp only [Sem.run_bind, hg, Result.andThen_ok, hk.1], hk.2⟩
  · rename_i x1 y1
    rw [ha.string_eq, hb.string_eq]
    have hg : (eqGuard op t x y (.string x1) (.string y1)).run P w = .ok () w := eqGuard_other (fun e => by cases e) (fun _ _ e => by cases e)
    have hk := str_sound (P := P) (ι := ι) (w := w) t h'
    exact ⟨v, by simp only [Sem.run_bind, hg, Result.andThen_ok, hk.1], hk.2⟩
  · rename_i hni hns
    split at h'
    · split at h'
      · rename_i r hr
        simp only [Option.some.injEq] at h'; subst h'
        obtain ⟨g1, g2, _⟩ := heq r hr (fun k x k' y e1 e2 => hni k x k' y e1 e2) (fun x y e1 e2 => hns x y e1 e2)
        exact ⟨_, by simp only [Sem.run_bind, g1, Result.andThen_ok, g2], .bool _⟩
      · cases h'
    · split at h'
      · rename_i r hr
        simp only [Option.some.injEq] at h'; subst h'
        obtain ⟨g1, _, g2⟩ := heq r hr (fun k x k' y e1 e2 => hni k x k' y e1 e2) (fun x y e1 e2 => hns x y e1 e2)
        exact ⟨_, by simp only [Sem.run_bind, g1, Result.andThen_ok, g2], .bool _⟩
      · cases h'
    · cases h'
end Go.Dust
