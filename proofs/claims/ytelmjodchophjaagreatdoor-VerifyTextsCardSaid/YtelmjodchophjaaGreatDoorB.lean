/- Dd De Df Dg -/
import Derived.Test.YtelmjodchophjaaGreatDoorA
import Derived.Laws.Tables
import Derived.IntWalk
set_option linter.unusedVariables false
set_option linter.unusedSimpArgs false
section
/- Operations that only read: what D computes is what the model computes. -/
namespace Go.Dust
variable {P : Program} {ι : Inj} {H : Look} {n : Nat} {w : World}

/-- How a run of a still thing is said. -/
abbrev Gives (P : Program) (ι : Inj) (w : World) (s : Sem Value) (v : Value) : Prop := ∃ v', s.run P w = .ok v' w ∧ VR ι v v'

/-! ### Loads -/
theorem cells_of (hR : R (env P) ι H n w) {b : Nat} {c : PT Value} {z : List Value} {m : Nat} {e : TypeId} {room ro : Bool} {ver : Nat} (h : H b = some (.cells c z m e room ro ver)) :
    ∃ l arr e' fz, ι b = some l ∧ w.heap[l.blk]? = some (.cells arr e' fz) ∧ ((ro = false → fz = (0, 0)) ∧ (ro = true → room = true → l.off + m = arr.size)) ∧ l.ro = ro ∧ (room = false → l.extra = 0) ∧
      (∀ ei, (env P).ty e = some ei → l.off + m + l.extra * ei.size ≤ arr.size) ∧ l.off + m ≤ arr.size ∧
      (∀ i, i < m → ∃ v u, cellAt c z m i = some v ∧ arr[l.off + i]? = some u ∧ VR ι v u) := by
  obtain ⟨l, h1, h2⟩ := hR.obj b _ h rfl
  obtain ⟨arr, e', fz, h3⟩ := h2
  exact ⟨l, arr, e', fz, h1, h3⟩

theorem readCells_get {c : PT Value} {z : List Value} {m : Nat} {arr : Array Value} {off : Nat} (h7 : ∀ i, i < m → ∃ v u, cellAt c z m i = some v ∧ arr[off + i]? = some u ∧ VR ι v u) :
    ∀ (k i : Nat) (l : List Value), readCells c z m i k = some l → (k = 0 ∨ i + k ≤ m) ∧ l.length = k ∧ VRs ι l ((arr.toList.drop (off + i)).take k)
  | 0, i, l, h => by
    simp only [readCells, Option.some.injEq] at h
    subst h
    exact ⟨.inl rfl, rfl, by simp; exact .nil⟩
  | k + 1, i, l, h => by
    simp only [readCells] at h
    cases hc : cellAt c z m i with
    | none => rw [hc] at h; cases h
    | some v =>
      rw [hc] at h
      simp only at h
      cases hr : readCells c z m (i + 1) k with
      | none => rw [hr] at h; cases h
      | some l' =>
        rw [hr] at h
        simp only [Option.some.injEq] at h
        subst h
        have him : i < m := by
          unfold cellAt at hc
          split at hc
          · assumption
          · cases hc
        obtain ⟨v', u, h1, h2, h3⟩ := h7 i him
        rw [hc] at h1; cases h1
        obtain ⟨g1, g2, g3⟩ := readCells_get h7 k (i + 1) l' hr
        obtain ⟨hlt, hget⟩ := Array.getElem?_eq_some_iff.1 h2
        refine ⟨.inr (by omega), by simp [g2], ?_⟩
        rw [List.drop_eq_getElem_cons (i := off + i) (by simpa using hlt), List.take_succ_cons]
        refine .cons ?_ ?_
        · have : arr.toList[off + i] = u := by simpa using hget
          rw [this]; exact h3
        · simpa [Nat.add_assoc] using g3

theorem loadN_sound (hR : R (env P) ι H n w) {b o : Nat} {l : Loc} (hl : ι b = some l) {k : Nat} {vs : List Value} (h : loadN H ⟨b, o, none⟩ k = some vs) :
    ∃ us, (loadCells ⟨l.blk, l.off + o, none⟩ k).run P w = .ok us w ∧ VRs ι vs us.toList ∧ vs.length = k := by
  unfold loadN at h
  simp only at h
  split at h
  · rename_i c z m e room ro ver hs hb
    obtain ⟨l', arr, e', fz, h1, h2, _, _, _, _, h6, h7⟩ := cells_of hR hb
    rw [hl] at h1; cases h1
    obtain ⟨g1, g2, g3⟩ := readCells_get h7 k o vs h
    exact ⟨_, run_loadCells h2 (by omega), by simpa using g3, g2⟩
  · cases h

theorem load1_sound (hR : R (env P) ι H n w) {b o : Nat} {l : Loc} (hl : ι b = some l) {v : Value} (h : load1 H ⟨b, o, none⟩ = some v) :
    Gives P ι w (load ⟨l.blk, l.off + o, none⟩) v := by
  unfold load1 at h
  simp only at h
  split at h
  · rename_i c z m e room ro ver hs hb
    obtain ⟨l', arr, e', fz, h1, h2, _, _, _, _, h6, h7⟩ := cells_of hR hb
    rw [hl] at h1; cases h1
    have him : o < m := by
      unfold cellAt at h
      split at h
      · assumption
      · cases h
    obtain ⟨v', u, g1, g2, g3⟩ := h7 o him
    rw [h] at g1; cases g1
    obtain ⟨hlt, hget⟩ := Array.getElem?_eq_some_iff.1 g2
    refine ⟨u, ?_, g3⟩
    have hc : w.cell? ⟨l.blk, l.off + o, none⟩ = some u := by simp [World.cell?, h2, g2]
    simp [load, Sem.run, hc]
  · cases h

theorem loadT_sound (hR : R (env P) ι H n w) {b o : Nat} {l : Loc} (hl : ι b = some l) {t : TypeId} {v : Value} (h : loadT (env P) H t ⟨b, o, none⟩ = some v) :
    Gives P ι w (loadVar t ⟨l.blk, l.off + o, none⟩) v := by
  unfold loadT at h
  cases ht : (env P).ty t with
  | none => rw [ht] at h; cases h
  | some i =>
    rw [ht] at h
    simp only at h
    unfold loadVar
    cases hagg : i.agg with
    | true =>
      rw [hagg] at h
      simp only [if_true] at h
      cases hl' : loadN H ⟨b, o, none⟩ i.size with
      | none => rw [hl'] at h; cases h
      | some vs =>
        rw [hl'] at h
        simp only [Option.some.injEq] at h
        subst h
        obtain ⟨us, g1, g2, _⟩ := loadN_sound (P := P) hR hl hl'
        exact ⟨.agg us, by simp [run_isAggA ht, hagg, run_sizeOfA ht, g1], .agg' (by simpa using g2)⟩
    | false =>
      rw [hagg] at h
      simp only [Bool.false_eq_true, if_false] at h
      obtain ⟨u, g1, g2⟩ := load1_sound (P := P) hR hl h
      exact ⟨u, by simp only [Sem.run_bind, run_isAggA ht, Result.andThen_ok, hagg, Bool.false_eq_true, if_false, g1], g2⟩

/-- A pointer that D can look behind. -/
theorem ptr_inv {a : Addr} {u : Value} (h : VR ι (.pointer (some a)) u) : ∃ b o l, a = ⟨b, o, none⟩ ∧ ι b = some l ∧ u = .pointer (some ⟨l.blk, l.off + o, none⟩) := by
  cases h with | ptr hl => exact ⟨_, _, _, rfl, hl, rfl⟩

theorem part_sound {t : TypeId} {cs cs' : Array Value} (hcs : VRs ι cs.toList cs'.toList) {off : Nat} {v : Value} (h : partT (env P) t cs off = some v) : Gives P ι w (part t cs' off) v := by
  unfold partT at h
  cases ht : (env P).ty t with
  | none => rw [ht] at h; cases h
  | some i =>
    rw [ht] at h
    simp only at h
    unfold part
    cases hagg : i.agg with
    | true =>
      rw [hagg] at h
      simp only [if_true] at h
      split at h
      · rename_i hsz
        simp only [Option.some.injEq] at h
        subst h
        refine ⟨.agg (cs'.extract off (off + i.size)), by simp [run_isAggA ht, hagg, run_sizeOfA ht], .agg' ?_⟩
        have h1 : (cs.extract off (off + i.size)).toList = (cs.toList.drop off).take i.size := by simp
        have h2 : (cs'.extract off (off + i.size)).toList = (cs'.toList.drop off).take i.size := by simp
        rw [h1, h2]
        exact (hcs.drop off).take _
      · cases h
    | false =>
      rw [hagg] at h
      simp only [Bool.false_eq_true, if_false] at h
      obtain ⟨u, g1, g2⟩ := hcs.getSome off (v := v) (by simpa using h)
      refine ⟨u, ?_, g2⟩
      have : cs'[off]? = some u := by simpa using g1
      simp [run_isAggA ht, hagg, this]

/-! ### Numbers and strings -/
theorem cmpI_sound {op : BinOp} {x y : Int} {v : Value} (h : cmpI op x y = some v) : (Op.intCmp op x y).run P w = .ok v w ∧ VR ι v v := by
  unfold cmpI at h
  split at h <;> simp only [Option.some.injEq, reduceCtorEq] at h <;> subst h <;> exact ⟨by simp [Op.intCmp], .bool _⟩

theorem arith_sound {op : BinOp} {k : IntKind} {x y : Int} {v : Value} (hs1 : op ≠ .shl) (hs2 : op ≠ .shr) (t : TypeId) (h : arith op k x y = some v) :
    (binOp op t (.int k x) (.int k y)).run P w = .ok v w ∧ VR ι v v := by
  unfold arith at h
  split at h <;> first
    | (simp only [Option.some.injEq] at h; subst h; exact ⟨by simp [binOp, Op.intArith, Op.intBits], .int _ _⟩)
    | (split at h
       · cases h
       · rename_i hy
         simp only [Option.some.injEq] at h; subst h
         exact ⟨by simp [binOp, Op.intDiv, hy], .int _ _⟩)
    | skip
  have hc := h
  unfold cmpI at hc
  split at hc <;> simp only [Option.some.injEq, reduceCtorEq] at hc <;> subst hc <;> exact ⟨by simp [binOp, Op.intCmp], .bool _⟩

theorem shift_sound {op : BinOp} {k k' : IntKind} {x y : Int} {v : Value} (hop : op = .shl ∨ op = .shr) (t : TypeId) (h : shiftI op k x y = some v) :
    (binOp op t (.int k x) (.int k' y)).run P w = .ok v w ∧ VR ι v v := by
  unfold shiftI at h
  split at h
  · cases h
  · rename_i hy
    rcases hop with rfl | rfl
    · simp only [Option.some.injEq] at h; subst h
      exact ⟨by simp [binOp, Op.shift, hy], .int _ _⟩
    · simp only [Option.some.injEq] at h; subst h
      exact ⟨by simp [binOp, Op.shift, hy], .int _ _⟩

theorem str_sound {op : BinOp} {x y : ByteArray} {v : Value} (t : TypeId) (h : strI op x y = some v) : (binOp op t (.string x) (.string y)).run P w = .ok v w ∧ VR ι v v := by
  unfold strI at h
  split at h
  · split at h
    · cases h
    · rename_i hsz
      simp only [Option.some.injEq] at h; subst h
      exact ⟨by simp only [binOp, Op.stringOp]; rw [if_neg hsz]; rfl, .string _⟩
  all_goals first
    | (simp only [Option.some.injEq] at h; subst h; exact ⟨by simp [binOp, Op.stringOp], .bool _⟩)
    | cases h
/-! ### Equality -/
theorem isCells_spec (hR : R (env P) ι H n w) {b : Nat} (h : isCells H b = true) :
    ∃ o l arr e, H b = some o ∧ o.isDead = false ∧ ι b = some l ∧ l.ro = false ∧ w.heap[l.blk]? = some (.cells arr e (0, 0)) := by
  unfold isCells at h
  split at h
  · rename_i c z m e room ver hb
    obtain ⟨l, arr, e', fz, h1, h2, h3, h4, _⟩ := cells_of hR hb
    rw [h3.1 rfl] at h2
    exact ⟨_, l, arr, e', hb, rfl, h1, h4, h2⟩
  · cases h

theorem run_sameAddr_ne {a b : Addr} {arr arr' : Array Value} {e e' : TypeId} (hne : a.block ≠ b.block) (ha : w.heap[a.block]? = some (.cells arr e (0, 0)))
    (hb : w.heap[b.block]? = some (.cells arr' e' (0, 0))) : (sameAddr a b).run P w = .ok false w := by
  have fa : ∀ o s, w.frozen? ⟨a.block, o, s⟩ = false := fun o s => by simp [World.frozen?, ha]
  have fb : ∀ o s, w.frozen? ⟨b.block, o, s⟩ = false := fun o s => by simp [World.frozen?, hb]
  have sa : w.shape? a.block = some (e, arr.size) := by simp [World.shape?, ha]
  have sb : w.shape? b.block = some (e', arr'.size) := by simp [World.shape?, hb]
  have fa' := fa a.off a.spot
  have fb' := fb b.off b.spot
  unfold sameAddr
  simp only [beq_eq_false_iff_ne.2 hne, Bool.false_eq_true, if_false, Sem.run_bind, run_frozen, Result.andThen_ok, fa', fb', Bool.and_self, noView, viewAt, run_shape, sa, sb, Option.isSome_some, if_true,
    Sem.run_pure, mayBeOne, stringish, fa, fb, Bool.false_and, Bool.or_self, Option.isSome_none]

theorem nilptr_inv {u : Value} (h : VR ι (.pointer none) u) : u = .pointer none := by cases h; rfl

theorem eqFields_sound {d : Nat} {f : TypeId → Value → Value → Option Bool} {xs ys xs' ys' : Array Value} (hx : VRs ι xs.toList xs'.toList) (hy : VRs ι ys.toList ys'.toList)
    (hf : ∀ t x y x' y' b, f t x y = some b → VR ι x x' → VR ι y y' → (Op.equalIn d t x' y').run P w = .ok b w) :
    ∀ (fs : List Field) (b : Bool), eqFields (env P) f xs ys fs = some b → (Op.eqFields d xs' ys' fs).run P w = .ok b w
  | [], b, h => by simp only [eqFields, Option.some.injEq] at h; subst h; rfl
  | fd :: fs, b, h => by
    simp only [eqFields] at h
    simp only [Op.eqFields]
    by_cases hn : fd.name = "_"
    · rw [if_pos hn] at h
      rw [if_neg (by simpa using hn)]
      exact eqFields_sound hx hy hf fs b h
    · rw [if_neg hn] at h
      rw [if_pos hn]
      split at h
      · rename_i u v hu hv
        obtain ⟨u', g1, g2⟩ := part_sound (P := P) (w := w) hx hu
        obtain ⟨v', g3, g4⟩ := part_sound (P := P) (w := w) hy hv
        simp only [Sem.run_bind, g1, g3, Result.andThen_ok]
        split at h
        · rename_i he
          simp only [hf _ _ _ _ _ _ he g2 g4, Result.andThen_ok, Bool.not_true, Bool.false_eq_true, if_false]
          exact eqFields_sound hx hy hf fs b h
        · rename_i he
          simp only [Option.some.injEq] at h
          subst h
          simp only [hf _ _ _ _ _ _ he g2 g4, Result.andThen_ok, Bool.not_false, if_true, Sem.run_pure]
        · cases h
      · cases h

set_option maxHeartbeats 2000000 in
theorem eqAt_sound (hR : R (env P) ι H n w) : ∀ (d e : Nat), d ≤ e → ∀ (t : TypeId) (x y x' y' : Value) (b : Bool), eqAt (env P) H d t x y = some b → VR ι x x' → VR ι y y' →
    (Op.equalIn e t x' y').run P w = .ok b w
  | 0, _, _, _, _, _, _, _, _, h, _, _ => by simp [eqAt] at h
  | d + 1, e, hde, t, x, y, x', y', b, h, hx, hy => by
    obtain ⟨e, rfl⟩ : ∃ m, e = m + 1 := ⟨e - 1, by omega⟩
    simp only [eqAt] at h
    cases ht : (env P).ty t with
    | none => rw [ht] at h; cases h
    | some i =>
      rw [ht] at h
      simp only at h
      obtain ⟨inf, _, hu, _, _, _, _, _, hcmp⟩ := ty_some ht
      split at h
      · rename_i hd
        rw [hx.bool_eq, hy.bool_eq]
        simp only [Option.some.injEq] at h; subst h
        rw [hd] at hu
        exact run_equalIn_bool' w e t _ _ hu
      · rename_i hd
        rw [hx.int_eq, hy.int_eq]
        split at h
        · rename_i hk
          subst hk
          simp only [Option.some.injEq] at h; subst h
          rw [hd] at hu
          exact run_equalIn_int w e t _ _ _ _ hu
        · cases h
      · rename_i hd
        rw [hx.string_eq, hy.string_eq]
        simp only [Option.some.injEq] at h; subst h
        rw [hd] at hu
        exact run_equalIn_string w e t _ _ hu
      · -- nil and a pointer
        rename_i el hd
        simp only [Option.some.injEq] at h; subst h
        rw [nilptr_inv hx]
        rw [hd] at hu
        cases hy with
        | nilptr => simp [Op.equalIn, run_underlying hu]
        | ptr hl => simp [Op.equalIn, run_underlying hu]
      · rename_i el a hd
        simp only [Option.some.injEq] at h; subst h
        rw [nilptr_inv hy]
        rw [hd] at hu
        obtain ⟨_, _, _, _, _, rfl⟩ := ptr_inv hx
        simp [Op.equalIn, run_underlying hu]
      · rename_i el a a' hd
        rw [hd] at hu
        cases hel : (env P).ty el with
        | none => rw [hel] at h; cases h
        | some ei =>
          rw [hel] at h
          simp only at h
          split at h
          · cases h
          · rename_i hsz
            obtain ⟨b1, o1, l1, rfl, hl1, rfl⟩ := ptr_inv hx
            obtain ⟨b2, o2, l2, rfl, hl2, rfl⟩ := ptr_inv hy
            simp only at h
            have hsz' : (ei.size != 0) = true := by simpa using hsz
            have key : (Op.equalIn (e + 1) t (.pointer (some ⟨l1.blk, l1.off + o1, none⟩)) (.pointer (some ⟨l2.blk, l2.off + o2, none⟩))).run P w =
                (sameAddr ⟨l1.blk, l1.off + o1, none⟩ ⟨l2.blk, l2.off + o2, none⟩).run P w := by
              simp only [Op.equalIn, Sem.run_bind, run_underlying hu, Result.andThen_ok, run_sizeOfA hel, ne_eq, hsz, not_false_eq_true, if_true]
            rw [key]
            split at h
            · rename_i hbb
              subst hbb
              simp only [Option.some.injEq] at h; subst h
              rw [hl1] at hl2; cases hl2
              simp only [sameAddr, BEq.rfl, if_true, Sem.run_pure]
              congr 1
              by_cases ho : o1 = o2
              · subst ho; simp
              · rw [beq_eq_false_iff_ne.2 ho]
                simp only [beq_eq_false_iff_ne, ne_eq, Addr.mk.injEq, true_and, and_true]
                omega
            · rename_i hbb
              split at h
              · rename_i hcc
                simp only [Option.some.injEq] at h; subst h
                rw [Bool.and_eq_true] at hcc
                obtain ⟨q1, m1, arr1, e1, p1, p2, p3, p4, p5⟩ := isCells_spec hR hcc.1
                obtain ⟨q2, m2, arr2, e2, r1, r2, r3, r4, r5⟩ := isCells_spec hR hcc.2
                rw [hl1] at p3; cases p3
                rw [hl2] at r3; cases r3
                exact run_sameAddr_ne (fun he => hbb (hR.inj _ _ _ _ _ _ p1 p2 r1 r2 hl1 hl2 p4 he)) p5 r5
              · cases h
      · rename_i hd
        simp only [Option.some.injEq] at h; subst h
        rw [hd] at hu
        cases hx; cases hy
        simp [Op.equalIn, run_underlying hu]
      · rename_i hd
        simp only [Option.some.injEq] at h; subst h
        rw [hd] at hu
        cases hx; cases hy
        simp [Op.equalIn, run_underlying hu]
      · rename_i hd
        simp only [Option.some.injEq] at h; subst h
        rw [hd] at hu
        cases hx; cases hy
        simp [Op.equalIn, run_underlying hu]
      · rename_i hd
        simp only [Option.some.injEq] at h; subst h
        rw [hd] at hu
        cases hx
        cases hy <;> simp [Op.equalIn, run_underlying hu]
      · rename_i hd
        simp only [Option.some.injEq] at h; subst h
        rw [hd] at hu
        cases hy
        cases hx <;> simp only [Op.equalIn, Sem.run_bind, run_underlying hu, Result.andThen_ok, Sem.run_pure]
      · rename_i hd
        simp only [Option.some.injEq] at h; subst h
        rw [hd] at hu
        cases hx
        cases hy <;> simp [Op.equalIn, run_underlying hu]
      · rename_i hd
        simp only [Option.some.injEq] at h; subst h
        rw [hd] at hu
        cases hy
        cases hx
        simp [Op.equalIn, run_underlying hu]
      · rename_i hd
        simp only [Option.some.injEq] at h; subst h
        rw [hd] at hu
        cases hx; cases hy
        simp [Op.equalIn, run_underlying hu]
      · rename_i hd
        simp only [Option.some.injEq] at h; subst h
        rw [hd] at hu
        cases hx
        cases hy <;> simp [Op.equalIn, run_underlying hu]
      · rename_i hd
        simp only [Option.some.injEq] at h; subst h
        rw [hd] at hu
        cases hy
        cases hx <;> simp only [Op.equalIn, Sem.run_bind, run_underlying hu, Result.andThen_ok, Sem.run_pure]
      · rename_i fields xs ys hd
        split at h
        · rename_i hc
          rw [hd] at hu
          obtain ⟨xs', rfl, hxs⟩ := hx.agg_inv
          obtain ⟨ys', rfl, hys⟩ := hy.agg_inv
          have hfo : P.fieldsOf t = fields := by simp [Program.fieldsOf, hu]
          rw [run_equalIn_struct w e t xs' ys' (by rw [hfo]; exact hu) (hcmp hc).1, hfo]
          refine eqFields_sound hxs hys ?_ _ b h
          intro t' x y x' y' b' hb hx' hy'
          split at hb
          · exact eqAt_sound hR d e (by omega) t' x y x' y' b' hb hx' hy'
          · cases hb
        · cases h
      · cases h

theorem eqGuard_other {op : BinOp} {t : TypeId} {x y : Operand} {a b : Value} (h1 : a = .nilIface → b = .nilIface → False) (h2 : ∀ cs ds, a = .agg cs → b = .agg ds → False) :
    (eqGuard op t x y a b).run P w = .ok () w := by
  unfold eqGuard
  cases op <;> first
    | rfl
    | (simp only [Bool.not_true, Bool.false_eq_true, if_false]; rfl)
theorem eqGuard_nil {op : BinOp} {t : TypeId} {x y : Operand} (hc : isConstO x = true ∨ isConstO y = true) : (eqGuard op t x y .nilIface .nilIface).run P w = .ok () w := by
  unfold eqGuard
  cases op <;> first
    | rfl
    | (rcases hc with hc | hc
       · cases x <;> first | rfl | cases hc
       · cases y <;> first | (cases hc; done) | (cases x <;> rfl))
theorem eqGuard_not {op : BinOp} {t : TypeId} {x y : Operand} {a b : Value} (h1 : op ≠ .eql) (h2 : op ≠ .neq) : (eqGuard op t x y a b).run P w = .ok () w := by
  unfold eqGuard
  cases op <;> first | exact absurd rfl h1 | exact absurd rfl h2 | rfl

theorem VR.nilIface_iff {v u : Value} (h : VR ι v u) : u = .nilIface → v = .nilIface := by
  intro e; subst e; cases h; rfl
theorem VR.agg_iff {v : Value} {cs : Array Value} (h : VR ι v (.agg cs)) : ∃ ds, v = .agg ds := by cases h; exact ⟨_, rfl⟩
theorem VR.int_iff {v : Value} {k : IntKind} {x : Int} (h : VR ι v (.int k x)) : v = .int k x := by cases h; rfl
theorem VR.string_iff {v : Value} {x : ByteArray} (h : VR ι v (.string x)) : v = .string x := by cases h; rfl
theorem VR.float_iff {v : Value} {k : FloatKind} {x : Nat} (h : VR ι v (.float k x)) : v = .float k x := by cases h; rfl
theorem VR.complex_iff {v : Value} {k : FloatKind} {x y : Nat} (h : VR ι v (.complex k x y)) : False := by cases h

theorem binOp_eql {t : TypeId} {a b : Value} (h1 : ∀ k x k' y, a = .int k x → b = .int k' y → False) (h2 : ∀ x y, a = .string x → b = .string y → False)
    (h3 : ∀ k x k' y, a = .float k x → b = .float k' y → False) (h4 : ∀ k x z k' y u, a = .complex k x z → b = .complex k' y u → False) :
    binOp .eql t a b = (do pure (.bool (← Op.equal t a b))) := by
  cases a <;> cases b <;> first
    | rfl
    | exact (h1 _ _ _ _ rfl rfl).elim
    | exact (h2 _ _ rfl rfl).elim
    | exact (h3 _ _ _ _ rfl rfl).elim
    | exact (h4 _ _ _ _ _ _ rfl rfl).elim
theorem binOp_neq {t : TypeId} {a b : Value} (h1 : ∀ k x k' y, a = .int k x → b = .int k' y → False) (h2 : ∀ x y, a = .string x → b = .string y → False)
    (h3 : ∀ k x k' y, a = .float k x → b = .float k' y → False) (h4 : ∀ k x z k' y u, a = .complex k x z → b = .complex k' y u → False) :
    binOp .neq t a b = (do pure (.bool (!(← Op.equal t a b)))) := by
  cases a <;> cases b <;> first
    | rfl
    | exact (h1 _ _ _ _ rfl rfl).elim
    | exact (h2 _ _ rfl rfl).elim
    | exact (h3 _ _ _ _ rfl rfl).elim
    | exact (h4 _ _ _ _ _ _ rfl rfl).elim

theorem eqAt_float {d : Nat} {t : TypeId} {k : FloatKind} {x : Nat} {b : Value} {r : Bool} (h : eqAt (env P) H d t (.float k x) b = some r) : False := by
  cases d with
  | zero => simp [eqAt] at h
  | succ d =>
    simp only [eqAt] at h
    cases ht : (env P).ty t with
    | none => rw [ht] at h; cases h
    | some i =>
      rw [ht] at h
      simp only at h
      cases hd : i.desc <;> rw [hd] at h <;> simp at h

theorem eqAt_agg {d : Nat} {t : TypeId} {cs : Array Value} {b : Value} {r : Bool} (h : eqAt (env P) H d t (.agg cs) b = some r) : ∃ i, (env P).ty t = some i ∧ i.cmp = true := by
  cases d with
  | zero => simp [eqAt] at h
  | succ d =>
    simp only [eqAt] at h
    cases ht : (env P).ty t with
    | none => rw [ht] at h; cases h
    | some i =>
      refine ⟨i, rfl, ?_⟩
      rw [ht] at h
      simp only at h
      cases hc : i.cmp with
      | true => rfl
      | false =>
        rw [hc] at h
        cases hd : i.desc <;> rw [hd] at h <;> (try simp at h)
        cases b <;> simp at h

theorem binop_sound (hR : R (env P) ι H n w) {op : BinOp} {t : TypeId} {x y : Operand} {a b a' b' v : Value} (ha : VR ι a a') (hb : VR ι b b')
    (h : (if bothNil a b && !(isConstO x || isConstO y) then none else binop (env P) H op t a b) = some v) :
    Gives P ι w (do eqGuard op t x y a' b'; binOp op t a' b') v := by
  have hn : bothNil a b = true → isConstO x = true ∨ isConstO y = true := by
    intro hbn
    rw [hbn] at h
    simp only [Bool.true_and] at h
    split at h
    · cases h
    · rename_i hc
      cases hx : isConstO x with
      | true => exact .inl rfl
      | false => cases hy : isConstO y with
        | true => exact .inr rfl
        | false => rw [hx, hy] at hc; exact absurd rfl hc
  have h' : binop (env P) H op t a b = some v := by
    split at h
    · cases h
    · exact h
  clear h
  -- what an equation of two values that are no numbers and no strings comes to
  have heq : ∀ r, eqAt (env P) H 10 t a b = some r → (∀ k x k' y, a = .int k x → b = .int k' y → False) → (∀ x y, a = .string x → b = .string y → False) →
      (eqGuard op t x y a' b').run P w = .ok () w ∧ (binOp .eql t a' b').run P w = .ok (.bool r) w ∧ (binOp .neq t a' b').run P w = .ok (.bool (!r)) w := by
    intro r hr hni hns
    have hE : (Op.equal t a' b').run P w = .ok r w := eqAt_sound hR 10 10000 (by omega) t a b a' b' r hr ha hb
    have k1 : ∀ k x k' y, a' = .int k x → b' = .int k' y → False := fun k x k' y e1 e2 => hni k x k' y (by subst e1; exact ha.int_iff) (by subst e2; exact hb.int_iff)
    have k2 : ∀ x y, a' = .string x → b' = .string y → False := fun x y e1 e2 => hns x y (by subst e1; exact ha.string_iff) (by subst e2; exact hb.string_iff)
    have k3 : ∀ k x k' y, a' = .float k x → b' = .float k' y → False := fun k x k' y e1 _ => by subst e1; rw [ha.float_iff] at hr; exact eqAt_float hr
    have k4 : ∀ k x z k' y u, a' = .complex k x z → b' = .complex k' y u → False := fun k x z k' y u e1 _ => by subst e1; exact ha.complex_iff
    refine ⟨?_, by rw [binOp_eql k1 k2 k3 k4]; simp [hE], by rw [binOp_neq k1 k2 k3 k4]; simp [hE]⟩
    by_cases hnil : a' = .nilIface ∧ b' = .nilIface
    · obtain ⟨rfl, rfl⟩ := hnil
      refine eqGuard_nil (hn ?_)
      rw [ha.nilIface_iff rfl, hb.nilIface_iff rfl]; rfl
    · by_cases hagg : (∃ cs, a' = .agg cs) ∧ (∃ ds, b' = .agg ds)
      · obtain ⟨⟨cs, rfl⟩, ⟨ds, rfl⟩⟩ := hagg
        obtain ⟨cs', rfl⟩ := ha.agg_iff
        obtain ⟨i, hi, hc⟩ := eqAt_agg hr
        obtain ⟨inf, _, _, _, _, _, _, _, hcmp⟩ := ty_some hi
        exact run_eqGuard_agg w op t x y _ _ (hcmp hc).2
      · exact eqGuard_other (fun e1 e2 => hnil ⟨e1, e2⟩) (fun cs ds e1 e2 => hagg ⟨⟨cs, e1⟩, ⟨ds, e2⟩⟩)
  unfold binop at h'
  split at h'
  · rename_i k x1 k' y1
    rw [ha.int_eq, hb.int_eq]
    have hg : (eqGuard op t x y (.int k x1) (.int k' y1)).run P w = .ok () w := eqGuard_other (fun e => by cases e) (fun _ _ e => by cases e)
    have hk : (binOp op t (.int k x1) (.int k' y1)).run P w = .ok v w ∧ VR ι v v := by
      split at h'
      · exact shift_sound (.inl rfl) t h'
      · exact shift_sound (.inr rfl) t h'
      · rename_i h1 h2
        split at h'
        · rename_i hkk
          subst hkk
          exact arith_sound (fun e => h1 e) (fun e => h2 e) t h'
        · cases h'
    exact ⟨v, by simp only [Sem.run_bind, hg, Result.andThen_ok, hk.1], hk.2⟩
  · rename_i x1 y1
    rw [ha.string_eq, hb.string_eq]
    have hg : (eqGuard op t x y (.string x1) (.string y1)).run P w = .ok () w := eqGuard_other (fun e => by cases e) (fun _ _ e => by cases e)
    have hk := str_sound (P := P) (ι := ι) (w := w) t h'
    exact ⟨v, by simp only [Sem.run_bind, hg, Result.andThen_ok, hk.1], hk.2⟩
  · rename_i hni hns
    split at h'
    · split at h'
      · rename_i r hr
        simp only [Option.some.injEq] at h'; subst h'
        obtain ⟨g1, g2, _⟩ := heq r hr (fun k x k' y e1 e2 => hni k x k' y e1 e2) (fun x y e1 e2 => hns x y e1 e2)
        exact ⟨_, by simp only [Sem.run_bind, g1, Result.andThen_ok, g2], .bool _⟩
      · cases h'
    · split at h'
      · rename_i r hr
        simp only [Option.some.injEq] at h'; subst h'
        obtain ⟨g1, _, g2⟩ := heq r hr (fun k x k' y e1 e2 => hni k x k' y e1 e2) (fun x y e1 e2 => hns x y e1 e2)
        exact ⟨_, by simp only [Sem.run_bind, g1, Result.andThen_ok, g2], .bool _⟩
      · cases h'
    · cases h'
end Go.Dust
end
section
/- Operations that only read, the rest; all of them. -/
namespace Go.Dust
variable {P : Program} {ι : Inj} {H : Look} {n : Nat} {w : World}

theorem unop_sound {op : UnOp} {a a' v : Value} (ha : VR ι a a') (h : unop op a = some v) : Gives P ι w (Op.unary op a') v := by
  unfold unop at h
  split at h
  · rw [ha.int_eq]
    simp only [Option.some.injEq] at h; subst h
    exact ⟨_, by simp [Op.unary, Op.intArith], .int _ _⟩
  · rw [ha.bool_eq]
    simp only [Option.some.injEq] at h; subst h
    exact ⟨_, by simp [Op.unary], .bool _⟩
  · cases h

theorem convert_sound {src dst : TypeId} {a a' v : Value} (ha : VR ι a a') (h : convertA (env P) src dst a = some v) : Gives P ι w (convert src dst a') v := by
  unfold convertA at h
  split at h
  · rename_i s d hs hd
    split at h
    · rename_i hk
      rw [ha.int_eq]
      simp only [Option.some.injEq] at h; subst h
      refine ⟨_, ?_, .int _ _⟩
      unfold convert
      simp only [Sem.run_bind, run_underlyingA hs, run_underlyingA hd, Result.andThen_ok, hk]
      simp [Conv.intToInt]
    · rename_i hk
      rw [ha.string_eq]
      simp only [Option.some.injEq] at h; subst h
      refine ⟨_, ?_, .string _⟩
      unfold convert
      simp only [Sem.run_bind, run_underlyingA hs, run_underlyingA hd, Result.andThen_ok, hk]
      simp
    · cases h
  · cases h

/-! ### Maps -/
theorem keyEq_sameNow {d : TypeDesc} {k x : Value} (hk : keyDesc d k = true) {b : Bool}
    (h : keyEq k x = some b) : Instr.sameNow d k x = some b := by
  unfold keyEq at h
  split at h
  · split at h
    · rename_i hkk
      subst hkk
      cases d <;> simp [keyDesc] at hk
      simp only [Option.some.injEq] at h; subst h
      simp [Instr.sameNow]
    · cases h
  · cases d <;> simp [keyDesc] at hk
    simp only [Option.some.injEq] at h; subst h
    simp [Instr.sameNow]
  · cases d <;> simp [keyDesc] at hk
    simp only [Option.some.injEq] at h; subst h
    simp [Instr.sameNow]
  · cases h

theorem keyOk_spec {t : TypeId} {k : Value} (h : keyOk (env P) t k = true) : ∃ i, (env P).ty t = some i ∧
    keyDesc i.desc k = true := by
  unfold keyOk at h
  cases ht : (env P).ty t with
  | none => rw [ht] at h; cases h
  | some i =>
    rw [ht] at h
    exact ⟨i, rfl, h⟩
theorem key_eq {t : TypeId} {k k' : Value} (h : keyOk (env P) t k = true) (hk : VR ι k k') : k' = k := by
  obtain ⟨i, _, h2⟩ := keyOk_spec h
  cases hd : i.desc <;> rw [hd] at h2 <;> cases k <;> simp [keyDesc] at h2 <;> first | exact hk.int_eq | exact hk.string_eq | exact hk.bool_eq
theorem keyEq_left {k x : Value} {b : Bool} (h : keyEq k x = some b) {x' : Value} (hx : VR ι x x') : x' = x := by
  unfold keyEq at h
  split at h
  · exact hx.int_eq
  · exact hx.string_eq
  · exact hx.bool_eq
  · cases h
theorem run_checkKey {t : TypeId} {k : Value} (h : keyOk (env P) t k = true) (e : Bool) : (Instr.checkKey e 10000 t k).run P w = .ok () w := by
  obtain ⟨i, ht, h2⟩ := keyOk_spec h
  cases hd : i.desc <;> rw [hd] at h2 <;> cases k <;> simp [keyDesc] at h2 <;>
    (unfold Instr.checkKey; simp only [Sem.run_bind, run_underlyingA ht, hd, Result.andThen_ok, Sem.run_pure])
theorem findNow_sound {d : TypeDesc} {k : Value} (hk : keyDesc d k = true) :
    ∀ {es es' : List MapEntry} (_ : ERs ι es es') (i : Nat) (r : Option (Nat × Value)), findE k es i = some r →
      ∃ r', Instr.findNow d k es' i = some r' ∧ (match r with
        | none => r' = none
        | some (j, v) => ∃ v', r' = some (j, v') ∧ VR ι v v' ∧ i ≤ j ∧ ∃ e, es[j - i]? = some e ∧ keyEq k e.key = some true)
  | _, _, .nil, i, r, h => by
    simp only [findE, Option.some.injEq] at h; subst h
    exact ⟨none, rfl, rfl⟩
  | e :: es, e' :: es', .cons he t, i, r, h => by
    simp only [findE] at h
    simp only [Instr.findNow]
    split at h
    · rename_i hq
      simp only [Option.some.injEq] at h; subst h
      rw [keyEq_left hq he.key, keyEq_sameNow hk hq]
      exact ⟨_, rfl, _, rfl, he.val, Nat.le_refl _, e, by simp, hq⟩
    · rename_i hq
      rw [keyEq_left hq he.key, keyEq_sameNow hk hq]
      obtain ⟨r', g1, g2⟩ := findNow_sound hk t (i + 1) r h
      refine ⟨r', g1, ?_⟩
      cases r with
      | none => exact g2
      | some p =>
        obtain ⟨v', h1, h2, h3, e2, h4, h5⟩ := g2
        refine ⟨v', h1, h2, by omega, e2, ?_, h5⟩
        rw [show p.1 - i = (p.1 - (i + 1)) + 1 from by omega, List.getElem?_cons_succ]; exact h4
    · cases h
def Found (ι : Inj) (k : Value) (es : List MapEntry) : Option (Nat × Value) → Option (Nat × Value) → Prop
  | none, r' => r' = none
  | some (j, v), r' => ∃ v', r' = some (j, v') ∧ VR ι v v' ∧ ∃ e, es[j]? = some e ∧ keyEq k e.key = some true
theorem run_findKey {t : TypeId} {k : Value} (hk : keyOk (env P) t k = true) {es es' : List MapEntry} (he : ERs ι es es') {r : Option (Nat × Value)} (h : findE k es 0 = some r) :
    ∃ r', (Instr.findKey t k es').run P w = .ok r' w ∧ Found ι k es r r' := by
  obtain ⟨i, ht, h2⟩ := keyOk_spec hk
  obtain ⟨r', g1, g2⟩ := findNow_sound h2 he 0 r h
  refine ⟨r', ?_, ?_⟩
  · unfold Instr.findKey
    simp only [Sem.run_bind, run_underlyingA ht, Result.andThen_ok, g1, Sem.run_pure]
  · cases r with
    | none => exact g2
    | some p =>
      obtain ⟨v', h1, h2, _, e, h3, h4⟩ := g2
      exact ⟨v', h1, h2, e, by simpa using h3, h4⟩

theorem mapOf_sound (hR : R (env P) ι H n w) {r : Nat} {es : List MapEntry} {c : Nat} (h : mapOf H r = some (es, c)) :
    ∃ l es', ι r = some l ∧ l.ro = false ∧ l.off = 0 ∧ l.extra = 0 ∧ w.heap[l.blk]? = some (.map es' c) ∧ ERs ι es es'.toList := by
  unfold mapOf at h
  split at h
  · rename_i es0 c0 ver hr
    simp only [Option.some.injEq, Prod.mk.injEq] at h
    obtain ⟨rfl, rfl⟩ := h
    obtain ⟨l, h1, h2, h3, h4, es', h5, h6⟩ := hR.obj r _ hr rfl
    exact ⟨l, es', h1, h2, h3, h4, h5, h6⟩
  · cases h

theorem map_inv {r : Nat} {u : Value} (h : VR ι (.map (some r)) u) : ∃ l, ι r = some l ∧ u = .map (some l.blk) := by cases h with | map hl => exact ⟨_, hl, rfl⟩
theorem nilmap_inv {u : Value} (h : VR ι (.map none) u) : u = .map none := by cases h; rfl
theorem run_getMap {b : Nat} {es : Array MapEntry} {c : Nat} (h : w.heap[b]? = some (.map es c)) : (getObj b).run P w = .ok (.map es c) w := by simp [getObj, Sem.run, h]
theorem ERs.length : ∀ {l l' : List MapEntry}, ERs ι l l' → l.length = l'.length
  | _, _, .nil => rfl
  | _, _, .cons _ t => by simp [ERs.length t]

theorem pair_tuple {v v' : Value} (h : VR ι v v') (b : Bool) : VR ι (.tuple #[v, .bool b]) (.tuple #[v', .bool b]) := .tuple' (.cons h (.cons (.bool b) .nil))

theorem lookup_sound (hR : R (env P) ι H n w) {t : TypeId} {x k x' k' v : Value} {ok : Bool} (hx : VR ι x x') (hk : VR ι k k') (h : lookupA (env P) H t x k ok = some v) :
    Gives P ι w (Instr.lookup t x' k' ok) v := by
  unfold lookupA at h
  unfold Gives
  split at h
  · rename_i kt et sz by_ ze ag me cm ht
    split at h
    · rename_i d2 s2 b2 z a2 m2 c2 het
      split at h
      · rename_i hkk
        rw [key_eq hkk hk]
        have hz := zero_closed het rfl
        unfold Instr.lookup
        simp only [Sem.run_bind, run_underlyingA ht, Result.andThen_ok]
        split at h
        · rw [nilmap_inv hx]
          simp only [Sem.run_pure, Result.andThen_ok, run_checkKey hkk, Sem.run_bind]
          obtain ⟨r', g1, g2⟩ := run_findKey (P := P) (ι := ι) (w := w) hkk .nil (r := none) rfl
          cases (show r' = none from g2)
          simp only [g1, Result.andThen_ok, Sem.run_bind, run_zeroA het rfl, Sem.run_pure]
          simp only [Option.some.injEq] at h; subst h
          cases ok
          · exact ⟨z, rfl, .closed hz⟩
          · exact ⟨_, rfl, pair_tuple (.closed hz) _⟩
        · rename_i r
          obtain ⟨l, hl, rfl⟩ := map_inv hx
          split at h
          · rename_i es c hm
            obtain ⟨l', es', q1, q2, q3, q4, q5, q6⟩ := mapOf_sound hR hm
            rw [hl] at q1; cases q1
            simp only [Sem.run_bind, run_getMap q5, Sem.run_pure, Result.andThen_ok, run_checkKey hkk]
            split at h
            · rename_i j v0 hf
              obtain ⟨r', g1, v', g2, g3, _⟩ := run_findKey (P := P) (w := w) hkk q6 hf
              subst g2
              simp only [g1, Result.andThen_ok]
              simp only [Option.some.injEq] at h; subst h
              cases ok
              · exact ⟨v', rfl, g3⟩
              · exact ⟨_, rfl, pair_tuple g3 _⟩
            · rename_i hf
              obtain ⟨r', g1, g2⟩ := run_findKey (P := P) (w := w) hkk q6 hf
              cases (show r' = none from g2)
              simp only [g1, Result.andThen_ok, Sem.run_bind, run_zeroA het rfl, Sem.run_pure]
              simp only [Option.some.injEq] at h; subst h
              cases ok
              · exact ⟨z, rfl, .closed hz⟩
              · exact ⟨_, rfl, pair_tuple (.closed hz) _⟩
            · cases h
          · cases h
        · cases h
      · cases h
    · cases h
  · cases h
/-! ### Slices of slices, strings, arrays -/
theorem bounds2_spec {len cap : Nat} {lo hi : Option Int} {l h : Nat} (hb : bounds2 len cap lo hi = some (l, h)) :
    (match hi with | some x => 0 ≤ x ∧ x ≤ (cap : Int) ∧ h = x.toNat | none => h = len) ∧ (match lo with | some x => 0 ≤ x ∧ x ≤ (h : Int) ∧ l = x.toNat | none => l = 0) := by
  unfold bounds2 at hb
  split at hb
  · cases hb
  · rename_i h0 hh
    split at hb
    · cases hb
    · rename_i l0 hl
      simp only [Option.some.injEq, Prod.mk.injEq] at hb
      obtain ⟨rfl, rfl⟩ := hb
      constructor
      · cases hi with
        | none => simp only [Option.some.injEq] at hh; exact hh.symm
        | some x =>
          simp only at hh
          split at hh
          · rename_i hc
            simp only [Option.some.injEq] at hh
            exact ⟨hc.1, hc.2, hh.symm⟩
          · cases hh
      · cases lo with
        | none => simp only [Option.some.injEq] at hl; exact hl.symm
        | some x =>
          simp only at hl
          split at hl
          · rename_i hc
            simp only [Option.some.injEq] at hl
            exact ⟨hc.1, hc.2, hl.symm⟩
          · cases hl

/-- The bounds' operands, in D and in the model. -/
def OptVR (ι : Inj) : Option Value → Option Value → Prop
  | none, none => True
  | some v, some u => VR ι v u
  | _, _ => False
theorem run_sliceBounds {isSlice : Bool} {len cap cap' : Nat} (hcap : cap ≤ cap') {lo hi lo' hi' : Option Value} (hlo : OptVR ι lo lo') (hhi : OptVR ι hi hi') {il ih : Option Int}
    (hil : optInt lo = some il) (hih : optInt hi = some ih) {l h : Nat} (hb : bounds2 len cap il ih = some (l, h)) :
    (Instr.sliceBounds isSlice len cap' lo' hi' none).run P w = .ok (l, h, cap') w := by
  obtain ⟨h1, h2⟩ := bounds2_spec hb
  have bound : ∀ (v : Value) (k : IntKind) (x : Int) (y : Nat) (code : BoundsCode), v = .int k x → 0 ≤ x → x ≤ (y : Int) → (Instr.sliceBound v y code).run P w = .ok x.toNat w := by
    intro v k x y code hv h0 h1
    subst hv
    simp [Instr.sliceBound, asIntOf, h0, h1]
  have ehi : (hi' = none → h = len) ∧ (∀ v' code, hi' = some v' → (Instr.sliceBound v' cap' code).run P w = .ok h w) := by
    cases hi with
    | none =>
      cases hi' with
      | none =>
        simp only [optInt, Option.some.injEq] at hih
        subst hih
        exact ⟨fun _ => h1, fun _ _ e => (by cases e)⟩
      | some _ => exact hhi.elim
    | some v =>
      cases hi' with
      | none => exact hhi.elim
      | some v' =>
        cases v <;> simp [optInt] at hih
        rename_i k x
        subst hih
        obtain ⟨g1, g2, rfl⟩ := h1
        refine ⟨fun e => (by cases e), fun v2 code e => ?_⟩
        cases e
        exact bound _ k x _ _ (VR.int_eq hhi) g1 (by omega)
  have elo : (lo' = none → l = 0) ∧ (∀ v' code, lo' = some v' → (Instr.sliceBound v' h code).run P w = .ok l w) := by
    cases lo with
    | none =>
      cases lo' with
      | none =>
        simp only [optInt, Option.some.injEq] at hil
        subst hil
        exact ⟨fun _ => h2, fun _ _ e => (by cases e)⟩
      | some _ => exact hlo.elim
    | some v =>
      cases lo' with
      | none => exact hlo.elim
      | some v' =>
        cases v <;> simp [optInt] at hil
        rename_i k x
        subst hil
        obtain ⟨g1, g2, rfl⟩ := h2
        refine ⟨fun e => (by cases e), fun v2 code e => ?_⟩
        cases e
        exact bound _ k x _ _ (VR.int_eq hlo) g1 (by omega)
  unfold Instr.sliceBounds
  cases hi' with
  | none =>
    have := ehi.1 rfl
    subst this
    cases lo' with
    | none =>
      have := elo.1 rfl
      subst this
      rfl
    | some v => simp [elo.2 v _ rfl]
  | some v =>
    cases lo' with
    | none =>
      have := elo.1 rfl
      subst this
      simp [ehi.2 v _ rfl]
    | some u => simp [ehi.2 v _ rfl, elo.2 u _ rfl]

theorem nilslice_inv {a b : Nat} {u : Value} (h : VR ι (.slice none a b) u) : u = .slice none a b := by cases h; rfl
theorem slice_inv {b o len cap : Nat} {u : Value} (h : VR ι (.slice (some ⟨b, o, none⟩) len cap) u) : ∃ l, ι b = some l ∧ u = .slice (some ⟨l.blk, l.off + o, none⟩) len (cap + l.extra) := by
  cases h with | slice _ _ hl => exact ⟨_, hl, rfl⟩

theorem slice_sound (hR : R (env P) ι H n w) {t : TypeId} {x x' v : Value} {lo hi mx lo' hi' mx' : Option Value} (hx : VR ι x x') (hlo : OptVR ι lo lo') (hhi : OptVR ι hi hi') (hmx : OptVR ι mx mx')
    (h : sliceA (env P) H t x lo hi mx = some v) : Gives P ι w (Instr.sliceAt t x' lo' hi' mx') v := by
  unfold Gives
  unfold sliceA at h
  cases mx with
  | some _ => cases h
  | none =>
  cases mx' with
  | some _ => exact hmx.elim
  | none =>
  simp only at h
  split at h
  · rename_i i il ih ht hil hih
    unfold Instr.sliceAt
    simp only [Sem.run_bind, run_underlyingA ht, Result.andThen_ok]
    split at h
    · -- a string
      rename_i s hd
      rw [hx.string_eq]
      split at h
      · rename_i l h0 hb
        split at h
        · simp only [Option.some.injEq] at h; subst h
          refine ⟨_, ?_, .string _⟩
          rw [hd]
          simp only [Instr.slice, Sem.run_bind, run_underlyingA ht, Result.andThen_ok, hd, Option.isSome_none, Bool.false_eq_true, if_false, Sem.run_pure]
          rw [run_sliceBounds (Nat.le_refl _) hlo hhi hil hih hb]
          rfl
        · cases h
      · cases h
    · -- a nil slice
      rename_i e hd
      rw [nilslice_inv hx]
      split at h
      · rename_i ei hb he
        simp only [Option.some.injEq] at h; subst h
        refine ⟨_, ?_, .nilslice 0 0⟩
        rw [hd]
        simp only [Instr.slice, Sem.run_bind, run_underlyingA ht, Result.andThen_ok, hd]
        rw [run_sliceBounds (Nat.le_refl _) hlo hhi hil hih hb]
        simp [run_sizeOfA he]
      · cases h
    · -- a slice that lies somewhere
      rename_i e a len cap hd
      obtain ⟨ab, ao, as0⟩ := a
      cases as0 with
      | some _ => cases h
      | none =>
      simp only at h
      obtain ⟨l, hl, rfl⟩ := slice_inv hx
      split at h
      · rename_i lo0 hi0 ei c z m e' room ro ver hb he hH
        split at h
        · rename_i hle
          obtain ⟨q1, q2⟩ := bounds2_spec hb
          obtain ⟨l', arr, e'', fz, p1, p2, p3, p4, p5, _⟩ := cells_of hR hH
          rw [hl] at p1; cases p1
          have hcaph : hi0 ≤ cap := hle.2
          rw [hd]
          have hrun : (Instr.slice t (.slice (some ⟨l.blk, l.off + ao, none⟩) len (cap + l.extra)) lo' hi' none).run P w =
              .ok (.slice (if cap + l.extra = lo0 then some ⟨l.blk, l.off + ao, none⟩ else some ((⟨l.blk, l.off + ao, none⟩ : Addr).add (lo0 * ei.size))) (hi0 - lo0) (cap + l.extra - lo0)) w := by
            simp only [Instr.slice, Sem.run_bind, run_underlyingA ht, Result.andThen_ok, hd]
            rw [run_sliceBounds (by omega) hlo hhi hil hih hb]
            simp [run_sizeOfA he]
          refine ⟨_, hrun, ?_⟩
          split at h
          · rename_i hcl
            subst hcl
            have h0 : hi0 = cap := by omega
            subst h0
            simp only [Option.some.injEq] at h; subst h
            simp only [Nat.sub_self]
            cases room with
            | true =>
              simp only [if_true]
              have := VR.slice0 (ι := ι) (o := ao) (k := hi0 * ei.size) hl
              by_cases hx0 : l.extra = 0
              · simp only [hx0, if_true, Nat.add_zero] at this ⊢
                simpa using this
              · rw [if_neg (by omega), Addr.add_none]
                rw [if_neg hx0] at this
                rw [show hi0 + l.extra - hi0 = l.extra from by omega]
                exact this
            | false =>
              have hx0 := p5 rfl
              simp only [Bool.false_eq_true, if_false, hx0, Nat.add_zero, if_true, Nat.sub_self]
              have := VR.slice (ι := ι) (o := ao) 0 0 hl
              simpa [hx0] using this
          · rename_i hcl
            simp only [Option.some.injEq] at h; subst h
            rw [if_neg (by omega), Addr.add_none, Addr.add_none]
            have := VR.slice (ι := ι) (o := ao + lo0 * ei.size) (hi0 - lo0) (cap - lo0) hl
            rw [show cap + l.extra - lo0 = cap - lo0 + l.extra from by omega, Nat.add_assoc]
            exact this
        · cases h
      · cases h
    · -- an array
      rename_i m e a hd
      obtain ⟨ab, ao, as0⟩ := a
      cases as0 with
      | some _ => cases h
      | none =>
      simp only at h
      obtain ⟨_, _, l, e1, hl, rfl⟩ := ptr_inv hx
      cases e1
      split at h
      · rename_i lo0 hi0 ei c z m' e' ro ver hb he hH
        split at h
        · rename_i hle
          obtain ⟨l', arr, e'', fz, p1, p2, p3, p4, p5, _⟩ := cells_of hR hH
          rw [hl] at p1; cases p1
          have hx0 := p5 rfl
          simp only [Option.some.injEq] at h; subst h
          rw [hd]
          simp only [Instr.sureAddr, Sem.run_bind, Sem.run_pure, Result.andThen_ok]
          rw [run_sliceBounds (Nat.le_refl _) hlo hhi hil hih hb]
          simp only [Result.andThen_ok, run_sizeOfA he]
          refine ⟨_, rfl, ?_⟩
          split
          · have := VR.slice (ι := ι) (o := ao) (hi0 - lo0) (m - lo0) hl
            simpa [hx0] using this
          · have := VR.slice (ι := ι) (o := ao + lo0 * ei.size) (hi0 - lo0) (m - lo0) hl
            rw [Addr.add_none, Addr.add_none]
            simpa [hx0, Nat.add_assoc] using this
        · cases h
      · cases h
    · cases h
  · cases h
end Go.Dust
end
section
/- Operations that only read: the last ones, and all of them in one. -/
namespace Go.Dust
variable {P : Program} {ι : Inj} {H : Look} {n : Nat} {w : World}

/-! ### Structs and arrays by value -/
inductive PRs (ι : Inj) : List (Nat × Value) → List (Nat × Value) → Prop
  | nil : PRs ι [] []
  | cons {i : Nat} {v u : Value} {l l' : List (Nat × Value)} (h : VR ι v u) (t : PRs ι l l') : PRs ι ((i, v) :: l) ((i, u) :: l')

theorem VRs.setIf {cs ds : Array Value} (h : VRs ι cs.toList ds.toList) {v u : Value} (hv : VR ι v u) (i : Nat) : VRs ι (cs.setIfInBounds i v).toList (ds.setIfInBounds i u).toList := by
  refine .of_get (by simpa using h.length) ?_
  intro j x y hx hy
  have hsz := h.size
  simp only [Array.toList_setIfInBounds, List.getElem?_set] at hx hy
  by_cases hij : i = j
  · subst hij
    simp only [if_true] at hx hy
    split at hx
    · simp only [Option.some.injEq] at hx; subst hx
      split at hy
      · simp only [Option.some.injEq] at hy; subst hy; exact hv
      · cases hy
    · cases hx
  · simp only [hij, if_false] at hx hy
    exact h.get j hx hy

theorem fold_set : ∀ (vs us : List Value) (k off : Nat) (cs ds : Array Value), VRs ι vs us → VRs ι cs.toList ds.toList →
    VRs ι ((vs.zipIdx k).foldl (fun cs (x : Value × Nat) => cs.setIfInBounds (off + x.2) x.1) cs).toList ((us.zipIdx k).foldl (fun cs (x : Value × Nat) => cs.setIfInBounds (off + x.2) x.1) ds).toList
  | _, _, _, _, _, _, .nil, h => by simpa using h
  | v :: vs, u :: us, k, off, cs, ds, .cons hv t, h => by
    simp only [List.zipIdx_cons, List.foldl_cons]
    exact fold_set vs us (k + 1) off _ _ t (h.setIf hv _)

theorem fill_sound {place : Nat → Option (Nat × Nat)} : ∀ {parts parts' : List (Nat × Value)} (_ : PRs ι parts parts') {cs ds : Array Value} (_ : VRs ι cs.toList ds.toList) {r : Array Value},
    Instr.fill place cs parts = some r → ∃ r', Instr.fill place ds parts' = some r' ∧ VRs ι r.toList r'.toList
  | _, _, .nil, cs, ds, h, r, hr => by
    simp only [Instr.fill, Option.some.injEq] at hr; subst hr
    exact ⟨ds, rfl, h⟩
  | _, _, .cons (i := i) (v := v) (u := u) hv t, cs, ds, h, r, hr => by
    simp only [Instr.fill] at hr ⊢
    split at hr
    · cases hr
    · rename_i off size hp
      split at hr
      · cases hr
      · rename_i hc
        have hvc := hv.cells
        have hsz : v.cells.size = u.cells.size := hvc.size
        have hcs : cs.size = ds.size := h.size
        rw [← hsz, ← hcs, if_neg hc]
        refine fill_sound t ?_ hr
        rw [← Array.foldl_toList, ← Array.foldl_toList]
        simpa using fold_set _ _ 0 off cs ds hvc h

theorem run_placesA : ∀ (fs : List Field), fs.all (fun f => ((env P).ty f.type).isSome) = true →
    (fs.mapM fun f => Prod.mk f.offset <$> sizeOf f.type).run P w = .ok (fs.map fun f => (f.offset, match (env P).ty f.type with | some ti => ti.size | none => 0)) w
  | [], _ => by simp
  | f :: fs, h => by
    simp only [List.all_cons, Bool.and_eq_true] at h
    obtain ⟨ti, hti⟩ := Option.isSome_iff_exists.1 h.1
    simp [List.mapM_cons, run_sizeOfA hti, run_placesA fs h.2, hti]

theorem build_sound {t : TypeId} {parts parts' : List (Nat × Value)} (hp : PRs ι parts parts') {v : Value} (h : buildA (env P) t parts = some v) (pa : Array (Nat × Value)) (hpa : pa.toList = parts') :
    Gives P ι w (Instr.build t pa) v := by
  unfold Gives
  unfold buildA at h
  split at h
  · rename_i fields sz by_ z ag me cm ht
    split at h
    · rename_i hall
      split at h
      · rename_i cs hf
        simp only [Option.some.injEq] at h; subst h
        have hz : VR ι z z := .closed (zero_closed ht rfl)
        obtain ⟨r', g1, g2⟩ := fill_sound hp hz.cells hf
        refine ⟨.agg r', ?_, .agg' g2⟩
        have hpl := run_placesA (P := P) (w := w) fields.toList hall
        have g1' : Instr.fill (fun x => (fields.map fun f => (f.offset, match (env P).ty f.type with | some ti => ti.size | none => 0))[x]?) z.cells pa.toList = some r' := by rw [hpa]; exact g1
        simp only [Instr.build, Sem.run_bind, run_zeroA ht rfl, run_underlyingA ht, Result.andThen_ok]
        have hm : ((fields.mapM fun f => do pure (f.offset, ← sizeOf f.type)) : Sem (Array (Nat × Nat))).run P w = .ok (fields.map fun f => (f.offset, match (env P).ty f.type with | some ti => ti.size | none => 0)) w := by
          rw [Array.mapM_eq_mapM_toList]
          have : (fun (f : Field) => (do pure (f.offset, ← sizeOf f.type) : Sem (Nat × Nat))) = fun f => Prod.mk f.offset <$> sizeOf f.type := by
            funext f; rfl
          rw [this, Sem.run_map, hpl]
          simp only [Result.andThen_ok]
          congr 1
          apply Array.toList_inj.1
          simp
        rw [hm]
        simp only [Result.andThen_ok, g1']
        rfl
      · cases h
    · cases h
  · rename_i len e sz by_ z ag me cm ht
    split at h
    · rename_i ei he
      split at h
      · rename_i cs hf
        simp only [Option.some.injEq] at h; subst h
        have hz : VR ι z z := .closed (zero_closed ht rfl)
        obtain ⟨r', g1, g2⟩ := fill_sound hp hz.cells hf
        refine ⟨.agg r', ?_, .agg' g2⟩
        simp only [Instr.build, Sem.run_bind, run_zeroA ht rfl, run_underlyingA ht, Result.andThen_ok, run_sizeOfA he, hpa, g1]
        rfl
      · cases h
    · cases h
  · cases h

/-! ### Addresses -/
theorem fieldAddr_sound {s : TypeId} {x x' v : Value} {f : Nat} (hx : VR ι x x') (h : fieldAddrA (env P) s x f = some v) : Gives P ι w (Instr.fieldAt s x' f) v := by
  unfold Gives
  unfold fieldAddrA at h
  split at h
  · rename_i fields sz by_ ze ag me cm a hx ht
    obtain ⟨ab, ao, l, rfl, hl, rfl⟩ := ptr_inv hx
    split at h
    · rename_i fd hfd hs
      split at h
      · rename_i ti hti
        split at h
        · cases h
        · rename_i hsz
          simp only [Option.some.injEq] at h; subst h
          refine ⟨.pointer (some ⟨l.blk, l.off + (ao + fd.offset), none⟩), ?_, by rw [Addr.add_none]; exact .ptr hl⟩
          simp only [Instr.fieldAt, Sem.run_bind, run_underlyingA ht, Result.andThen_ok, hfd, Instr.sureAddr, Sem.run_pure, fieldPlace, run_sizeOfA hti, hsz, if_false, Addr.add_none, Nat.add_assoc]
      · cases h
    · cases h
  · cases h

theorem indexAddr_sound {t : TypeId} {x x' i i' v : Value} (hx : VR ι x x') (hi : VR ι i i') (h : indexAddrA (env P) t x i = some v) : Gives P ι w (Instr.indexAt t x' i') v := by
  unfold Gives
  unfold indexAddrA at h
  split at h
  · rename_i e sz by_ ze ag me cm a len cap k m ht
    rw [hi.int_eq]
    obtain ⟨ab, ao, as0⟩ := a
    split at h
    · rename_i ei he hs
      cases (show as0 = none from hs)
      obtain ⟨l, hl, rfl⟩ := slice_inv hx
      split at h
      · rename_i hb
        simp only [Option.some.injEq] at h; subst h
        refine ⟨.pointer (some ⟨l.blk, l.off + (ao + m.toNat * ei.size), none⟩), ?_, by rw [Addr.add_none]; exact .ptr hl⟩
        simp only [Instr.indexAt, asIntOf, Sem.run_bind, Sem.run_pure, run_underlyingA ht, Result.andThen_ok, run_sizeOfA he, hb, and_self, if_true, Addr.add_none, Nat.add_assoc]
      · cases h
    · cases h
  · rename_i len e sz by_ ze ag me cm a k m ht
    rw [hi.int_eq]
    obtain ⟨ab, ao, as0⟩ := a
    split at h
    · rename_i ei he hs
      cases (show as0 = none from hs)
      obtain ⟨_, _, l, e1, hl, rfl⟩ := ptr_inv hx
      cases e1
      split at h
      · rename_i hb
        simp only [Option.some.injEq] at h; subst h
        refine ⟨.pointer (some ⟨l.blk, l.off + (ao + m.toNat * ei.size), none⟩), ?_, by rw [Addr.add_none]; exact .ptr hl⟩
        simp only [Instr.indexAt, asIntOf, Instr.sureAddr, Sem.run_bind, Sem.run_pure, run_underlyingA ht, Result.andThen_ok, run_sizeOfA he, hb, and_self, if_true, Addr.add_none, Nat.add_assoc]
      · cases h
    · cases h
  · cases h

theorem index_sound {t : TypeId} {x x' i i' v : Value} (hx : VR ι x x') (hi : VR ι i i') (h : indexA (env P) t x i = some v) : Gives P ι w (Instr.index t x' i') v := by
  unfold Gives
  unfold indexA at h
  split at h
  · rename_i sz by_ ze ag me cm s k m hx hi ht
    rw [hi.int_eq, hx.string_eq]
    split at h
    · rename_i h0
      split at h
      · rename_i b hb
        simp only [Option.some.injEq] at h; subst h
        refine ⟨_, ?_, .int _ _⟩
        simp only [Instr.index, asIntOf, Sem.run_bind, Sem.run_pure, run_underlyingA ht, Result.andThen_ok, h0, if_true, hb]
      · cases h
    · cases h
  · rename_i len e sz by_ ze ag me cm cs k m hx hi ht
    rw [hi.int_eq]
    obtain ⟨cs', rfl, hcs⟩ := hx.agg_inv
    split at h
    · rename_i ei he
      split at h
      · rename_i hb
        obtain ⟨u, g1, g2⟩ := part_sound (P := P) (w := w) hcs h
        refine ⟨u, ?_, g2⟩
        simp only [Instr.index, asIntOf, Sem.run_bind, Sem.run_pure, run_underlyingA ht, Result.andThen_ok, hb, and_self, if_true, run_sizeOfA he, g1]
      · cases h
    · cases h
  · cases h

theorem field_sound {t : TypeId} {x x' v : Value} {f : Nat} (hx : VR ι x x') (h : fieldA (env P) t x f = some v) : Gives P ι w (Instr.field t x' f) v := by
  unfold Gives
  unfold fieldA at h
  split at h
  · rename_i fields sz by_ ze ag me cm cs hx ht
    obtain ⟨cs', rfl, hcs⟩ := hx.agg_inv
    split at h
    · rename_i fd hfd
      obtain ⟨u, g1, g2⟩ := part_sound (P := P) (w := w) hcs h
      refine ⟨u, ?_, g2⟩
      simp only [Instr.field, asAgg, Sem.run_bind, Sem.run_pure, run_underlyingA ht, Result.andThen_ok, hfd, g1]
    · cases h
  · cases h

/-! ### Interfaces -/
theorem missing_none {want : Array (String × TypeId)} {got : Array Method} (h : hasMethods want got = true) : Instr.missingMethod want got = none := by
  unfold Instr.missingMethod
  have hnil : (want.toList.filter fun (name, sig) => !got.any fun m => m.name == name && m.sig == sig) = [] := by
    rw [List.filter_eq_nil_iff]
    intro x hx
    have := List.all_eq_true.1 h x hx
    simp at this ⊢
    exact this
  simp [hnil, Instr.least]
theorem least_parts (p : String → Bool) (f : String → String) : ∀ (l : List String), l ≠ [] → (Instr.least (l.partition p).2 <|> Instr.least ((l.partition p).1.map f)) ≠ none
  | [], h => absurd rfl h
  | x :: l, _ => by
    rw [List.partition_eq_filter_filter]
    simp only [List.filter_cons]
    cases hc : p x <;> simp [hc, Instr.least]
theorem missing_some {want : Array (String × TypeId)} {got : Array Method} (h : hasMethods want got = false) : ∃ m, Instr.missingMethod want got = some m := by
  have hne : (want.toList.filter fun (name, sig) => !got.any fun m => m.name == name && m.sig == sig) ≠ [] := by
    intro hnil
    rw [List.filter_eq_nil_iff] at hnil
    have : hasMethods want got = true := by
      unfold hasMethods
      rw [List.all_eq_true]
      intro x hx
      have := hnil x hx
      simp at this ⊢
      exact this
    rw [this] at h; cases h
  cases hm : Instr.missingMethod want got with
  | some m => exact ⟨m, rfl⟩
  | none =>
    unfold Instr.missingMethod at hm
    exact (least_parts _ _ ((want.toList.filter fun (name, sig) => !got.any fun m => m.name == name && m.sig == sig).map (·.1)) (by simpa using hne) hm).elim
theorem typeAssert_sound {x x' v : Value} {xt t : TypeId} {ok : Bool} (hx : VR ι x x') (h : typeAssertA (env P) x t ok = some v) : Gives P ι w (Instr.typeAssert x' xt t ok) v := by
  unfold Gives
  unfold typeAssertA at h
  split at h
  · rename_i want sz by_ z ag me cm dt dv hx ht
    cases hx with
    | iface _ hv =>
    rename_i dv'
    split at h
    · rename_i di hdi
      obtain ⟨inf, e1, _, e3⟩ := run_bytesA (w := w) hdi
      split at h
      · rename_i hm
        rw [e3.symm] at hm
        have hmm := missing_none hm
        simp only [Instr.typeAssert, Sem.run_bind, run_underlyingA ht, Result.andThen_ok, e1, hmm, Sem.run_pure]
        simp only [Option.some.injEq] at h; subst h
        cases ok
        · exact ⟨_, rfl, .iface _ hv⟩
        · exact ⟨_, rfl, pair_tuple (.iface _ hv) _⟩
      · rename_i hm
        rw [e3.symm] at hm
        obtain ⟨m, hmm⟩ := missing_some (by simpa using hm)
        split at h
        · rename_i hok
          subst hok
          simp only [Option.some.injEq] at h; subst h
          simp only [Instr.typeAssert, Sem.run_bind, run_underlyingA ht, Result.andThen_ok, e1, hmm, if_true, run_zeroA ht rfl, Sem.run_pure]
          exact ⟨_, rfl, pair_tuple (.closed (zero_closed ht rfl)) _⟩
        · cases h
    · cases h
  · cases h
  · rename_i di dt dv hn1 hn2 ht
    cases hx with
    | iface _ hv =>
    rename_i dv'
    have hni : ∀ m, di.desc ≠ .interface m := by
      intro m hm
      obtain ⟨dd, a1, a2, a3, a4, a5, a6⟩ := di
      simp only at hm
      subst hm
      exact hn2 _ _ _ _ _ _ _ rfl
    split at h
    · rename_i hdt
      subst hdt
      simp only [Option.some.injEq] at h; subst h
      have hrun : (Instr.typeAssert (.iface dt dv') xt dt ok).run P w = .ok (if ok then .tuple #[dv', .bool true] else dv') w := by
        unfold Instr.typeAssert
        simp only [Sem.run_bind, run_underlyingA ht, Result.andThen_ok]
        cases hd : di.desc with
        | interface m => exact (hni m hd).elim
        | _ => simp
      refine ⟨_, hrun, ?_⟩
      cases ok
      · exact hv
      · exact pair_tuple hv _
    · cases h
  · cases h
/-! ### The rest -/
theorem min_sound : ∀ {l l' : List Value} {v v' r : Value}, VR ι v v' → VRs ι l l' → minmaxA (fun x y => decide (y < x)) v l = some r → Gives P ι w (l'.foldlM Builtin.min2 v') r
  | [], _, v, v', r, hv, .nil, h => by
    simp only [minmaxA, Option.some.injEq] at h; subst h
    exact ⟨v', by simp, hv⟩
  | u :: l, u' :: l', v, v', r, hv, .cons hu t, h => by
    unfold minmaxA at h
    split at h
    · rename_i heq; cases heq
    · rename_i k x k' y rest heq
      cases heq
      split at h
      · rename_i hk
        subst hk
        rw [hv.int_eq, hu.int_eq]
        obtain ⟨r', g1, g2⟩ := min_sound (VR.int (ι := ι) k (if decide (y < x) = true then y else x)) t h
        refine ⟨r', ?_, g2⟩
        simp only [List.foldlM_cons, Builtin.min2, Sem.run_bind, Sem.run_pure, Result.andThen_ok]
        simpa using g1
      · cases h
    · cases h
theorem max_sound : ∀ {l l' : List Value} {v v' r : Value}, VR ι v v' → VRs ι l l' → minmaxA (fun x y => decide (y > x)) v l = some r → Gives P ι w (l'.foldlM Builtin.max2 v') r
  | [], _, v, v', r, hv, .nil, h => by
    simp only [minmaxA, Option.some.injEq] at h; subst h
    exact ⟨v', by simp, hv⟩
  | u :: l, u' :: l', v, v', r, hv, .cons hu t, h => by
    unfold minmaxA at h
    split at h
    · rename_i heq; cases heq
    · rename_i k x k' y rest heq
      cases heq
      split at h
      · rename_i hk
        subst hk
        rw [hv.int_eq, hu.int_eq]
        obtain ⟨r', g1, g2⟩ := max_sound (VR.int (ι := ι) k (if decide (y > x) = true then y else x)) t h
        refine ⟨r', ?_, g2⟩
        simp only [List.foldlM_cons, Builtin.max2, Sem.run_bind, Sem.run_pure, Result.andThen_ok]
        simpa using g1
      · cases h
    · cases h

theorem len_sound (hR : R (env P) ι H n w) {t : TypeId} {x x' v : Value} (hx : VR ι x x') (h : lenOfA (env P) H t x = some v) (ts : Array TypeId) (hts : ts[0]? = some t) (rt : TypeId) :
    Gives P ι w (Builtin.len_ ts rt #[x']) v := by
  unfold Gives
  unfold lenOfA at h
  cases ht : (env P).ty t with
  | none => rw [ht] at h; cases h
  | some i =>
    rw [ht] at h
    simp only at h
    have hun := run_underlyingA (w := w) ht
    split at h
    · rename_i hd
      rw [hx.string_eq]
      simp only [Option.some.injEq] at h; subst h
      refine ⟨_, ?_, .int _ _⟩
      simp [goInt, Builtin.len_, hts, hun, hd]
    · rename_i hd
      simp only [Option.some.injEq] at h; subst h
      refine ⟨_, ?_, .int _ _⟩
      simp [goInt, Builtin.len_, hts, hun, hd]
    · rename_i hd
      simp only [Option.some.injEq] at h; subst h
      refine ⟨_, ?_, .int _ _⟩
      cases hx <;> simp [goInt, Builtin.len_, hts, hun, hd]
    · rename_i hd
      simp only [Option.some.injEq] at h; subst h
      rw [nilmap_inv hx]
      refine ⟨_, ?_, .int _ _⟩
      simp [goInt, Builtin.len_, hts, hun, hd]
    · rename_i r hd
      obtain ⟨l, hl, rfl⟩ := map_inv hx
      split at h
      · rename_i es c hm
        simp only [Option.some.injEq] at h; subst h
        obtain ⟨l', es', q1, q2, q3, q4, q5, q6⟩ := mapOf_sound hR hm
        rw [hl] at q1; cases q1
        refine ⟨_, ?_, .int _ _⟩
        have := q6.length
        simp [goInt, Builtin.len_, hts, hun, hd, run_getMap q5, this]
      · cases h
    · cases h

theorem ERs.find {b : Nat} : ∀ {es es' : List MapEntry} {e : MapEntry}, ERs ι es es' → es.find? (fun x => x.born == b) = some e → ∃ e', es'.find? (fun x => x.born == b) = some e' ∧ ER ι e e'
  | _, _, _, .nil, h => by cases h
  | x :: es, x' :: es', e, .cons hx t, h => by
    simp only [List.find?_cons] at h ⊢
    rw [← hx.born]
    cases hb : (x.born == b) with
    | true =>
      rw [hb] at h
      simp only [Option.some.injEq] at h; subst h
      exact ⟨x', rfl, hx⟩
    | false =>
      rw [hb] at h
      exact ERs.find t h

theorem entry_sound (hR : R (env P) ι H n w) {x x' v : Value} (hx : VR ι x x') (h : entryA H x = some v) : Gives P ι w (Instr.entry x') v := by
  unfold Gives
  unfold entryA at h
  split at h
  · rename_i a hx
    obtain ⟨ab, ao, l, rfl, hl, rfl⟩ := ptr_inv hx
    split at h
    · rename_i h0
      cases (show ao = 0 from h0.1)
      simp only at h
      split at h
      · rename_i m since last rest stepped ver hH
        obtain ⟨l', g1, g2, g3, g4, lm, g5, g6⟩ := hR.obj _ _ hH rfl
        rw [hl] at g1; cases g1
        split at h
        · rename_i es clock hm
          obtain ⟨l'', es', q1, q2, q3, q4, q5, q6⟩ := mapOf_sound hR hm
          rw [g5] at q1; cases q1
          split at h
          · rename_i hc
            subst hc
            split at h
            · rename_i e hf
              simp only [Option.some.injEq] at h; subst h
              obtain ⟨e', r1, r2⟩ := q6.find hf
              refine ⟨.tuple #[e'.key, e'.val], ?_, .tuple' (.cons r2.key (.cons r2.val .nil))⟩
              have hg : (getObj l.blk).run P w = .ok (.mapIter (some lm.blk) since (last :: rest).reverse.toArray clock) w := by simp [getObj, Sem.run, g6]
              have hback : ((last :: rest).reverse.toArray).back? = some last := by simp
              have r1' : es'.find? (fun x => x.born == last) = some e' := by simpa using r1
              have hxx : (⟨l.blk, l.off + 0, none⟩ : Addr) = ⟨l.blk, 0, none⟩ := by rw [g3]
              rw [hxx]
              simp only [Instr.entry, Sem.run_bind, hg, Result.andThen_ok, hback, run_getMap q5, bne_self_eq_false, Bool.false_eq_true, if_false, Sem.run_pure, r1']
            · cases h
          · cases h
        · cases h
      · cases h
    · cases h
  · cases h

theorem VRs.mapArr {ρ ρc : Operand → Value} (a : Array Operand) (h : ∀ x ∈ a.toList, VR ι (ρ x) (ρc x)) : VRs ι (a.map ρ).toList (a.map ρc).toList := by
  simp only [Array.toList_map]
  exact .map₂ _ h

theorem optVR {ρ ρc : Operand → Value} (o : Option Operand) (h : ∀ x ∈ o.toArray.toList, VR ι (ρ x) (ρc x)) : OptVR ι (o.map ρ) (o.map ρc) := by
  cases o with
  | none => trivial
  | some x => exact h x (by simp)

/-- **A STILL OPERATION.** -/
theorem still_sound (hR : R (env P) ι H n w) {ρ ρc : Operand → Value} {o : Oper} (hρ : ∀ x ∈ o.op.operands.toList, VR ι (ρ x) (ρc x)) {v : Value} (h : stillA (env P) H ρ o.op = some v) :
    ∃ v', (execOp ρc o).run P w = .ok (.value v') w ∧ VR ι v v' := by
  have lift : ∀ (s : Sem Value), Gives P ι w s v → ∃ v', (do pure (.value (← s)) : Sem Next).run P w = .ok (.value v') w ∧ VR ι v v' := by
    rintro s ⟨v', h1, h2⟩
    exact ⟨v', by simp [h1], h2⟩
  unfold execOp
  cases hop : o.op <;> rw [hop] at h hρ <;> simp only [stillA] at h <;> simp only [Op.operands] at hρ
  case move x =>
    simp only [Option.some.injEq] at h; subst h
    exact ⟨_, rfl, hρ x (by simp)⟩
  case assign x =>
    simp only [Option.some.injEq] at h; subst h
    exact ⟨_, rfl, hρ x (by simp)⟩
  case pick c a b =>
    have hc := hρ c (by simp)
    split at h
    · rename_i t hcv
      rw [hcv] at hc
      simp only [Option.some.injEq] at h; subst h
      refine ⟨if t then ρc a else ρc b, by simp [hc.bool_eq, asBool], ?_⟩
      cases t
      · exact hρ b (by simp)
      · exact hρ a (by simp)
    · cases h
  case build t parts =>
    refine lift _ ?_
    refine build_sound ?_ h _ rfl
    have : ∀ (l : List (Nat × Operand)), (∀ x ∈ l, VR ι (ρ x.2) (ρc x.2)) → PRs ι (l.map fun (i, x) => (i, ρ x)) (l.map fun (i, x) => (i, ρc x)) := by
      intro l
      induction l with
      | nil => intro _; exact .nil
      | cons y l ih => intro hl; exact .cons (hl y (by simp)) (ih fun z hz => hl z (by simp [hz]))
    rw [Array.toList_map]
    exact this _ fun x hx => hρ _ (by simp; exact ⟨x.1, by simpa using hx⟩)
  case load t a =>
    split at h
    · rename_i ad ha
      have hv := hρ a (by simp)
      rw [ha] at hv
      obtain ⟨b, o', l, rfl, hl, he⟩ := ptr_inv hv
      refine lift _ ?_
      rw [he]
      obtain ⟨v', g1, g2⟩ := loadT_sound hR hl h
      exact ⟨v', by simp [Instr.loadAt, Instr.sureAddr, g1], g2⟩
    · cases h
  case nilCheck x =>
    have hv := hρ x (by simp)
    dsimp only
    generalize ρc x = u at hv
    generalize ρ x = y at hv h
    unfold nilCheckA at h
    split at h
    · simp only [Option.some.injEq] at h; subst h
      obtain ⟨_, _, l, rfl, hl, rfl⟩ := ptr_inv hv
      exact ⟨_, rfl, .ptr hl⟩
    · simp only [Option.some.injEq] at h; subst h
      obtain ⟨a', b', rfl, h1, h2⟩ := hv.func_inv
      exact ⟨_, rfl, hv⟩
    · simp only [Option.some.injEq] at h; subst h
      cases hv with
      | yield hl => exact ⟨_, rfl, .yield hl⟩
    · simp only [Option.some.injEq] at h; subst h
      cases hv with
      | iface _ hvv => exact ⟨_, rfl, .iface _ hvv⟩
    · cases h
  case binOp op t x y yt =>
    refine lift _ ?_
    exact binop_sound hR (hρ x (by simp)) (hρ y (by simp)) h
  case unOp op t x =>
    exact lift _ (unop_sound (hρ x (by simp)) h)
  case convert s d x =>
    exact lift _ (convert_sound (hρ x (by simp)) h)
  case makeInterface t x =>
    split at h
    · rename_i i hi
      have hv := hρ x (by simp)
      refine lift _ ⟨.iface t (ρc x), ?_, ?_⟩
      · unfold Instr.makeInterface
        simp only [Sem.run_bind, run_underlyingA hi, Result.andThen_ok]
        split at h
        · cases h
        · rename_i hne
          cases hd : i.desc with
          | interface m => exact (hne m hd).elim
          | _ => rfl
      · split at h
        · cases h
        · simp only [Option.some.injEq] at h; subst h
          exact .iface _ hv
    · cases h
  case makeFunc fn first captured =>
    have h1 := VRs.mapArr (ι := ι) (ρ := ρ) (ρc := ρc) first fun x hx => hρ x (by simp at hx ⊢; exact .inl hx)
    have h2 := VRs.mapArr (ι := ι) (ρ := ρ) (ρc := ρc) captured fun x hx => hρ x (by simp at hx ⊢; exact .inr hx)
    split at h
    · simp only [Option.some.injEq] at h; subst h
      exact lift _ ⟨_, rfl, .func h1.size h2.size h1.arr h2.arr⟩
    · simp only [Option.some.injEq] at h; subst h
      exact lift _ ⟨_, rfl, .meth h1.size h2.size h1.arr h2.arr⟩
    · cases h
  case slice t x lo hi mx =>
    refine lift _ (slice_sound hR (hρ x (by simp)) (optVR lo ?_) (optVR hi ?_) (optVR mx ?_) h)
    · intro y hy; exact hρ y (by simp at hy ⊢; simp [hy])
    · intro y hy; exact hρ y (by simp at hy ⊢; simp [hy])
    · intro y hy; exact hρ y (by simp at hy ⊢; simp [hy])
  case fieldAddr s x f => exact lift _ (fieldAddr_sound (hρ x (by simp)) h)
  case field t x f => exact lift _ (field_sound (hρ x (by simp)) h)
  case indexAddr t x i => exact lift _ (indexAddr_sound (hρ x (by simp)) (hρ i (by simp)) h)
  case index t x i => exact lift _ (index_sound (hρ x (by simp)) (hρ i (by simp)) h)
  case lookup t x k ok => exact lift _ (lookup_sound hR (hρ x (by simp)) (hρ k (by simp)) h)
  case extract t i =>
    have hv := hρ t (by simp)
    split at h
    · rename_i vs hvs
      rw [hvs] at hv
      obtain ⟨vs', he, hr⟩ := hv.tuple_inv
      obtain ⟨u, g1, g2⟩ := hr.getSome i (v := v) (by simpa using h)
      refine lift _ ⟨u, ?_, g2⟩
      have g1' : vs'[i]? = some u := by simpa using g1
      simp [he, Instr.extract, g1']
    · cases h
  case entry it => exact lift _ (entry_sound hR (hρ it (by simp)) h)
  case typeAssert x xt t ok => exact lift _ (typeAssert_sound (hρ x (by simp)) h)
  case call c =>
    obtain ⟨callee, args, argTypes⟩ := c
    simp only at h
    have hargs : VRs ι (args.toList.map ρ) (args.toList.map ρc) := .map₂ _ fun x hx => hρ x (by simp [Call.operands]; exact .inr (by simpa using hx))
    have hrun : ∀ b, callee = .builtin b → (resolve ρc { callee, args, argTypes } o.type).run P w = .ok { target := .builtin b argTypes o.type (args.map fun | .const _ => true | _ => false), args := args.map ρc } w := by
      intro b hb; subst hb; rfl
    split at h
    · have hr := hrun _ rfl
      simp only [Sem.run_bind, hr, Result.andThen_ok, invoke, builtin]
      split at h
      · rename_i t x ht hx
        have hlen := len_sound hR (hρ x (by simp [Call.operands]; exact Array.mem_of_getElem? hx)) h argTypes ht o.type
        obtain ⟨v', g1, g2⟩ := hlen
        refine ⟨v', ?_, g2⟩
        have hx' : (args.map ρc)[0]? = some (ρc x) := by simp [hx]
        have : (Builtin.len_ argTypes o.type (args.map ρc)).run P w = .ok v' w := by
          rw [← g1]
          unfold Builtin.len_
          simp only [ht, hx']
          simp
        simp [this]
      · cases h
    · have hr := hrun _ rfl
      simp only [Sem.run_bind, hr, Result.andThen_ok, invoke, builtin]
      split at h
      · rename_i v0 rest hl
        rw [hl] at hargs
        generalize hl' : args.toList.map ρc = l' at hargs
        cases hargs with
        | cons hv ht =>
        obtain ⟨v', g1, g2⟩ := min_sound (P := P) (w := w) hv ht h
        refine ⟨v', ?_, g2⟩
        simp only [Builtin.min_, Array.toList_map, hl', g1, Result.andThen_ok, Sem.run_pure]
      · cases h
    · have hr := hrun _ rfl
      simp only [Sem.run_bind, hr, Result.andThen_ok, invoke, builtin]
      split at h
      · rename_i v0 rest hl
        rw [hl] at hargs
        generalize hl' : args.toList.map ρc = l' at hargs
        cases hargs with
        | cons hv ht =>
        obtain ⟨v', g1, g2⟩ := max_sound (P := P) (w := w) hv ht h
        refine ⟨v', ?_, g2⟩
        simp only [Builtin.max_, Array.toList_map, hl', g1, Result.andThen_ok, Sem.run_pure]
      · cases h
    · cases h
  all_goals cases h
end Go.Dust
end
section
/- Operations that make memory. -/
namespace Go.Dust
variable {P : Program} {ι : Inj} {H : Look} {n : Nat} {w : World}

/-- The place of a new block. -/
abbrev newLoc (w : World) : Loc := ⟨w.heap.size, 0, 0, false⟩

theorem objR_row {X : Env} {l l' : List Value} (hl : VRs ι l l') (e e' : TypeId) (ver m : Nat) (hm : m = l.length) (arr : Array Value) (harr : arr.toList = l') :
    ObjR X ι (w.alloc (.cells arr e' (0, 0))) (newLoc w) (.cells (PT.ofList l) [] m e false false ver) := by
  subst hm
  have hlen := hl.length
  have hsz : arr.size = l.length := by rw [hlen, ← harr]; simp
  refine ⟨arr, e', (0, 0), heap_alloc_new, ⟨fun _ => rfl, fun h => by cases h⟩, rfl, fun _ => rfl, ?_, ?_, ?_⟩
  · intro ei _; simp [hsz]
  · simp [hsz]
  · intro i hi
    have hg : l[i]? = some l[i] := List.getElem?_eq_getElem hi
    obtain ⟨u, h1, h2⟩ := hl.getSome i hg
    refine ⟨l[i], u, ?_, ?_, h2⟩
    · unfold cellAt
      rw [if_pos hi, PT.get_ofList, hg]
    · simp only [Nat.zero_add]
      rw [← harr] at h1
      simpa using h1

theorem fillBase_closed {z : Value} (hz : closedV z = true) (m : Nat) : VRs ι ((Array.range m).map (z.cells[· % z.cells.size]!)).toList ((Array.range m).map (z.cells[· % z.cells.size]!)).toList := by
  simp only [Array.toList_map]
  refine .map₂ _ fun i _ => ?_
  have hc : VRs ι z.cells.toList z.cells.toList := VR.cells (.closed hz)
  by_cases h : i % z.cells.size < z.cells.size
  · rw [getElem!_pos z.cells _ h]
    exact hc.arr (i % z.cells.size) _ _ (by simp [h]) (by simp [h])
  · rw [getElem!_neg z.cells _ h]
    exact .bool _

theorem wrap_small {x : Int} (h0 : 0 ≤ x) (h1 : x < 2 ^ 40) : IntKind.i64.wrap x = x := IntWalk.i64_in _ (by omega)
theorem map_range0 {α : Type} (f : Nat → α) : (Array.range 0).map f = #[] := by simp

theorem run_makeSlice {t e : TypeId} {i ei : Ty} {z : Value} {l c : Int} (ht : (env P).ty t = some i) (hd : i.desc = .slice e) (he : (env P).ty e = some ei) (hz : ei.zero = some z)
    (h0 : 0 ≤ l) (h1 : l ≤ c) (h2 : c < 2 ^ 40) (h3 : ei.bytes * c ≤ 2 ^ 48) (_ : z.cells.size = ei.size) :
    (Instr.makeSlice t (.int .i64 l) (.int .i64 c)).run P w =
      .ok (.slice (some ⟨w.heap.size, 0, none⟩) l.toNat c.toNat) (w.alloc (.cells ((Array.range (c.toNat * ei.size)).map (z.cells[· % z.cells.size]!)) e (0, 0))) := by
  obtain ⟨inf, e1, e2, _⟩ := run_bytesA (w := w) he
  unfold Instr.makeSlice
  simp only [Sem.run_bind, run_underlyingA ht, hd, Result.andThen_ok, asInt, asIntOf, Sem.run_pure, e1, e2, wrap_small (x := l) h0 (by omega), wrap_small (x := c) (by omega) h2]
  have k1 : (decide (c < 0) || decide ((ei.bytes : Int) * c > 2 ^ 48)) = false := by
    simp only [Bool.or_eq_false_iff, decide_eq_false_iff_not]
    constructor <;> omega
  rw [k1]
  rw [if_neg (by simp; omega)]
  simp only [Sem.run_bind, run_askRoom, Result.andThen_ok, run_sizeOfA he]
  by_cases hn : c.toNat * ei.size = 0
  · rw [if_pos hn]
    simp only [Sem.run_pure, Result.andThen_ok, newRow, Sem.run_bind, run_newObj, hn, map_range0]
    rfl
  · rw [if_neg hn]
    simp only [Sem.run_bind, run_zeroA he hz, Sem.run_pure, Result.andThen_ok, newRow, run_newObj]
    rfl

/-- **AN OPERATION THAT MAKES A BLOCK.** -/
theorem alloc_sound {nm : Nat} {ρ ρc : Operand → Value} {o : Oper} (hfree : ι nm = none) (hρ : ∀ x ∈ o.op.operands.toList, VR ι (ρ x) (ρc x)) {v : Value} {f : Nat → AObj}
    (h : allocA (env P) nm ρ o.op = some (v, f)) :
    ∃ u x, (execOp ρc o).run P w = .ok (.value u) (w.alloc x) ∧ VR (ι.add nm (newLoc w)) v u ∧ ∀ ver, (f ver).isDead = false ∧ ObjR (env P) (ι.add nm (newLoc w)) (w.alloc x) (newLoc w) (f ver) := by
  have hle : ι.le (ι.add nm (newLoc w)) := Inj.le_add hfree
  have hptr : VR (ι.add nm (newLoc w)) (.pointer (some ⟨nm, 0, none⟩)) (.pointer (some ⟨w.heap.size, 0, none⟩)) := by
    have := VR.ptr (ι := ι.add nm (newLoc w)) (o := 0) (Inj.add_same ι nm (newLoc w))
    simpa [newLoc] using this
  have hsl : ∀ a b, VR (ι.add nm (newLoc w)) (.slice (some ⟨nm, 0, none⟩) a b) (.slice (some ⟨w.heap.size, 0, none⟩) a b) := by
    intro a b
    have := VR.slice (ι := ι.add nm (newLoc w)) (o := 0) a b (Inj.add_same ι nm (newLoc w))
    simpa [newLoc] using this
  unfold execOp
  cases hop : o.op <;> rw [hop] at h hρ <;> simp only [allocA] at h <;> simp only [Op.operands] at hρ
  case alloc e =>
    split at h
    · rename_i d sz by_ z ag me cm ht
      simp only [Option.some.injEq, Prod.mk.injEq] at h
      obtain ⟨rfl, rfl⟩ := h
      have hz : VRs (ι.add nm (newLoc w)) z.cells.toList z.cells.toList := VR.cells (.closed (zero_closed ht rfl))
      refine ⟨_, .cells z.cells e (0, 0), ?_, hptr, fun ver => ⟨rfl, objR_row hz e e ver _ (by simp) _ rfl⟩⟩
      simp only [Instr.alloc, Sem.run_bind, run_zeroA ht rfl, Result.andThen_ok, newVar, newRow, run_newObj, Sem.run_pure]
      rfl
    · cases h
  case box e x =>
    simp only [Option.some.injEq, Prod.mk.injEq] at h
    obtain ⟨rfl, rfl⟩ := h
    have hv := ((hρ x (by simp)).mono hle).cells
    refine ⟨_, .cells (ρc x).cells e (0, 0), ?_, hptr, fun ver => ⟨rfl, objR_row hv e e ver _ (by simp) _ rfl⟩⟩
    simp only [Instr.box, Sem.run_bind, Result.andThen_ok, newVar, newRow, run_newObj, Sem.run_pure]
    rfl
  case buildSlice t len parts =>
    split at h
    · rename_i e sz by_ ze ag me cm ht
      split at h
      · rename_i d esz eb z ea em ec he
        split at h
        · rename_i hlen
          split at h
          · rename_i cs hf
            simp only [Option.some.injEq, Prod.mk.injEq] at h
            obtain ⟨rfl, rfl⟩ := h
            have hpr : ∀ (l : List (Nat × Operand)), (∀ x ∈ l, VR ι (ρ x.2) (ρc x.2)) → PRs ι (l.map fun (i, x) => (i, ρ x)) (l.map fun (i, x) => (i, ρc x)) := by
              intro l
              induction l with
              | nil => intro _; exact .nil
              | cons y l ih => intro hl; exact .cons (hl y (by simp)) (ih fun z hz => hl z (by simp [hz]))
            obtain ⟨r', g1, g2⟩ := fill_sound (hpr parts.toList fun x hx => hρ _ (by simp; exact ⟨x.1, by simpa using hx⟩)) (fillBase_closed (ι := ι) (zero_closed he rfl) (len * esz)) hf
            have g1' : Instr.fill (fun i => some (i * esz, esz)) ((Array.range (len * esz)).map (z.cells[· % z.cells.size]!)) (parts.map fun (i, x) => (i, ρc x)).toList = some r' := by
              rw [Array.toList_map]; exact g1
            refine ⟨_, .cells r' e (0, 0), ?_, hsl len len, fun ver => ⟨rfl, objR_row (VRs.mono hle g2) e e ver _ (by simp) _ rfl⟩⟩
            have hsize : (sizeOf e).run P w = .ok esz w := run_sizeOfA he
            simp only [Instr.buildSlice, Sem.run_bind, run_underlyingA ht, Result.andThen_ok, hsize]
            rw [if_neg (by omega)]
            by_cases h0 : len * esz = 0
            · rw [if_pos h0]
              rw [h0] at g1'
              simp only [Sem.run_pure, Sem.run_bind, Result.andThen_ok]
              simp only [h0]
              have g3 : Instr.fill (fun i => some (i * esz, esz)) ((Array.range 0).map ((#[] : Array Value)[· % (#[] : Array Value).size]!)) (parts.map fun (i, x) => (i, ρc x)).toList = some r' := by
                rw [map_range0] at g1' ⊢; exact g1'
              simp only [g3, newRow, Sem.run_bind, run_newObj, Result.andThen_ok, Sem.run_pure]
              rfl
            · rw [if_neg h0]
              simp only [Sem.run_pure, Sem.run_bind, Result.andThen_ok, run_zeroA he rfl, g1', newRow, run_newObj]
              rfl
          · cases h
        · cases h
      · cases h
    · cases h
  case makeMap t r =>
    have hmap : VR (ι.add nm (newLoc w)) (.map (some nm)) (.map (some w.heap.size)) := .map (Inj.add_same ι nm (newLoc w))
    have hobj : ∀ ver, ((fun v => AObj.map [] 0 v) ver).isDead = false ∧ ObjR (env P) (ι.add nm (newLoc w)) (w.alloc (.map #[] 0)) (newLoc w) (.map [] 0 ver) := fun ver =>
      ⟨rfl, rfl, rfl, rfl, #[], heap_alloc_new, .nil⟩
    split at h
    · rename_i k e sz by_ ze ag me cm ht hr
      simp only [Option.some.injEq, Prod.mk.injEq] at h
      obtain ⟨rfl, rfl⟩ := h
      cases r with
      | some _ => cases hr
      | none =>
        exact ⟨_, .map #[] 0, rfl, hmap, hobj⟩
    · rename_i k e sz by_ ze ag me cm kk m ht hr
      simp only [Option.some.injEq, Prod.mk.injEq] at h
      obtain ⟨rfl, rfl⟩ := h
      cases r with
      | none => cases hr
      | some x =>
        simp only [Option.map_some, Option.some.injEq] at hr
        have hv := hρ x (by simp)
        rw [hr] at hv
        refine ⟨_, .map #[] 0, ?_, hmap, hobj⟩
        simp only [Option.map_some, hv.int_eq, Instr.makeMap, Sem.run_bind, run_underlyingA ht, Result.andThen_ok, asInt, asIntOf, Sem.run_pure, run_newObj]
        rfl
    · cases h
  case makeSlice t len cap =>
    split at h
    · rename_i e sz by_ ze ag me cm l c ht hl hc
      split at h
      · rename_i d esz eb z ea em ec he
        split at h
        · rename_i hb
          simp only [Option.some.injEq, Prod.mk.injEq] at h
          obtain ⟨rfl, rfl⟩ := h
          have h1 := hρ len (by simp)
          have h2 := hρ cap (by simp)
          rw [hl] at h1
          rw [hc] at h2
          have hrun := run_makeSlice (w := w) ht rfl he rfl hb.1 hb.2.1 hb.2.2.1 hb.2.2.2.1 hb.2.2.2.2
          refine ⟨_, .cells ((Array.range (c.toNat * esz)).map (z.cells[· % z.cells.size]!)) e (0, 0), ?_, hsl _ _, fun ver => ⟨rfl, ?_⟩⟩
          · simp only [h1.int_eq, h2.int_eq, Sem.run_bind, hrun, Result.andThen_ok, Sem.run_pure]
          · refine ⟨_, e, (0, 0), heap_alloc_new, ⟨fun _ => rfl, fun h => by cases h⟩, rfl, fun _ => rfl, ?_, ?_, ?_⟩
            · intro ei hei; simp
            · simp
            · intro i hi
              have hzs : z.cells.size = esz := hb.2.2.2.2
              have hpos : 0 < z.cells.size := by
                rw [hzs]
                by_cases hz0 : esz = 0
                · rw [hz0] at hi; simp at hi
                · omega
              have hmod : i % z.cells.size < z.cells.size := Nat.mod_lt _ hpos
              have hcl : VRs (ι.add nm (newLoc w)) z.cells.toList z.cells.toList := VR.cells (.closed (zero_closed he rfl))
              refine ⟨z.cells[i % z.cells.size], z.cells[i % z.cells.size], ?_, ?_, hcl.arr (i % z.cells.size) _ _ (by simp [hmod]) (by simp [hmod])⟩
              · unfold cellAt
                rw [if_pos hi, PT.get_nil]
                simp [hmod]
              · simp only [Nat.zero_add]
                rw [Array.getElem?_map]
                simp only [Array.getElem?_range, hi, if_true, Option.map_some]; exact congrArg some (getElem!_pos z.cells (i % z.cells.size) hmod)
        · cases h
      · cases h
    · cases h
  all_goals cases h
end Go.Dust
end
