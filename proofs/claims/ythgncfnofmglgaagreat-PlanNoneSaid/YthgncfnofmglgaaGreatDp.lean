/- A still operation asks only for what it reads. -/
import Derived.Test.YthgncfnofmglgaaGreatDn
namespace Go.Dust
variable {X : Env} {H H' : Look}

def Keep (H H' : Look) (b : Nat) : Prop := ∀ o, H b = some o → o.isDead = false → H' b = some o

theorem loadN_mono {a : Addr} {k : Nat} {l : List Value} (hr : Keep H H' a.block) (h : loadN H a k = some l) : loadN H' a k = some l := by
  unfold loadN at h ⊢
  split at h
  · rename_i hs hb
    rw [hs, hr _ hb rfl]; exact h
  · cases h
theorem load1_mono {a : Addr} {v : Value} (hr : Keep H H' a.block) (h : load1 H a = some v) : load1 H' a = some v := by
  unfold load1 at h ⊢
  split at h
  · rename_i hs hb
    rw [hs, hr _ hb rfl]; exact h
  · cases h
theorem loadT_mono {t : TypeId} {a : Addr} {v : Value} (hr : Keep H H' a.block) (h : loadT X H t a = some v) : loadT X H' t a = some v := by
  unfold loadT at h ⊢
  cases ht : X.ty t with
  | none => rw [ht] at h; cases h
  | some i =>
    rw [ht] at h
    simp only at h ⊢
    split
    · rename_i e
      rw [if_pos e] at h
      split at h
      · rename_i l hl
        rw [loadN_mono hr hl]; exact h
      · cases h
    · rename_i e
      rw [if_neg e] at h
      exact load1_mono hr h
theorem mapOf_mono {r : Nat} {x : List MapEntry × Nat} (hr : Keep H H' r) (h : mapOf H r = some x) : mapOf H' r = some x := by
  unfold mapOf at h ⊢
  split at h
  · rename_i hb
    rw [hr _ hb rfl]; exact h
  · cases h
theorem isCells_mono {b : Nat} (hr : Keep H H' b) (h : isCells H b = true) : isCells H' b = true := by
  unfold isCells at h ⊢
  split at h
  · rename_i hb
    rw [hr _ hb rfl]
  · cases h
theorem lookupA_mono {t : TypeId} {x k v : Value} {ok : Bool} (hr : ∀ b ∈ nameOf x, Keep H H' b) (h : lookupA X H t x k ok = some v) : lookupA X H' t x k ok = some v := by
  unfold lookupA at h ⊢
  split at h
  · split at h
    · split at h
      · rename_i hk
        rw [if_pos hk]
        split at h
        · exact h
        · rename_i r
          split at h
          · rename_i hm
            rw [mapOf_mono (hr r (by simp [nameOf])) hm]; exact h
          · cases h
        · cases h
      · cases h
    · cases h
  · cases h
theorem lenOfA_mono {t : TypeId} {x v : Value} (hr : ∀ b ∈ nameOf x, Keep H H' b) (h : lenOfA X H t x = some v) : lenOfA X H' t x = some v := by
  unfold lenOfA at h ⊢
  split at h
  · split at h
    · exact h
    · exact h
    · exact h
    · exact h
    · split at h
      · rename_i hm
        rw [mapOf_mono (hr _ (by simp [nameOf])) hm]; exact h
      · cases h
    · cases h
  · cases h
theorem entryA_mono {it v : Value} (hr : ∀ b ∈ nameOf it, Keep H H' b) (hr2 : ∀ (a : Addr) m p q c w, it = .pointer (some a) → H a.block = some (.miter (some m) p q c w) → Keep H H' m) (h : entryA H it = some v) : entryA H' it = some v := by
  unfold entryA at h ⊢
  split at h
  · rename_i a
    split at h
    · rename_i hc
      rw [if_pos hc]
      split at h
      · rename_i m p last rest stepped ver hb
        rw [hr a.block (by simp [nameOf]) _ hb rfl]
        simp only
        split at h
        · rename_i hm
          rw [mapOf_mono (hr2 a _ _ _ _ _ rfl hb) hm]; exact h
        · cases h
      · cases h
    · cases h
  · cases h
theorem eqAt_plain : ∀ (d : Nat) (t : TypeId) (x y : Value), plainV x = true → eqAt X H d t x y = eqAt X H' d t x y
  | 0, _, _, _, _ => rfl
  | d + 1, t, x, y, hx => by
    have ih : (fun t x y => if plainV x then eqAt X H d t x y else none) = (fun t x y => if plainV x then eqAt X H' d t x y else none) := by
      funext t x y
      split
      · exact eqAt_plain d t x y ‹_›
      · rfl
    unfold eqAt
    rw [ih]
    cases X.ty t with
    | none => rfl
    | some i =>
      simp only
      generalize i.desc = D
      cases x <;> first | (cases hx; done) | (split <;> first | rfl | contradiction | simp_all)
theorem eqAt_mono (d : Nat) (t : TypeId) (x y : Value) {r : Bool} (hr : ∀ b ∈ nameOf x ++ nameOf y, Keep H H' b) (h : eqAt X H d t x y = some r) : eqAt X H' d t x y = some r := by
  cases d with
  | zero => exact h
  | succ d =>
    have ih : (fun t x y => if plainV x then eqAt X H d t x y else none) = (fun t x y => if plainV x then eqAt X H' d t x y else none) := by
      funext t x y
      split
      · exact eqAt_plain d t x y ‹_›
      · rfl
    unfold eqAt at h ⊢
    rw [ih] at h
    cases ht : X.ty t with
    | none => rw [ht] at h; cases h
    | some i =>
      rw [ht] at h
      simp only at h ⊢
      split at h
      case h_6 e a b hd =>
        split at h
        · cases h
        · rename_i ei he
          split at h
          · cases h
          · rename_i hz
            split at h
            · rename_i hs1 hs2
              rw [if_neg hz]
              split at h
              · rename_i hb; rw [if_pos hb]; exact h
              · rename_i hb
                rw [if_neg hb]
                split at h
                · rename_i hcc
                  simp only [Bool.and_eq_true] at hcc
                  rw [isCells_mono (hr _ (by simp [nameOf])) hcc.1, isCells_mono (hr _ (by simp [nameOf])) hcc.2]
                  exact h
                · cases h
            · cases h
      all_goals first | exact h | (simp_all; done)
theorem sliceA_mono {t : TypeId} {x v : Value} {lo hi mx : Option Value} (hr : ∀ b ∈ nameOf x, Keep H H' b) (h : sliceA X H t x lo hi mx = some v) : sliceA X H' t x lo hi mx = some v := by
  unfold sliceA at h ⊢
  split at h
  · cases h
  · split at h
    · rename_i i lo' hi' h1 h2 h3
      split at h
      · exact h
      · exact h
      · rename_i e a len cap hd
        have hk := hr a.block (by simp [nameOf])
        split at h
        · split at h
          · rename_i hb1 hb2 hb3
            rw [hb1, hb2, hk _ hb3 rfl]
            exact h
          · cases h
        · cases h
      · rename_i n e a hd
        have hk := hr a.block (by simp [nameOf])
        split at h
        · split at h
          · rename_i hb1 hb2 hb3
            rw [hb1, hb2, hk _ hb3 rfl]
            exact h
          · cases h
        · cases h
      · cases h
    · cases h
theorem binop_mono {op : BinOp} {t : TypeId} {x y v : Value} (hr : (op = .eql ∨ op = .neq) → ∀ b ∈ nameOf x ++ nameOf y, Keep H H' b) (h : binop X H op t x y = some v) : binop X H' op t x y = some v := by
  unfold binop at h ⊢
  split at h
  · exact h
  · exact h
  · split at h
    · split at h
      · rename_i he
        rw [eqAt_mono _ _ _ _ (hr (.inl rfl)) he]; exact h
      · cases h
    · split at h
      · rename_i he
        rw [eqAt_mono _ _ _ _ (hr (.inr rfl)) he]; exact h
      · cases h
    · cases h
theorem still_mono {ρ : Operand → Value} {op : Op} {v : Value} (hr : mayRead op = true → ∀ b ∈ readsOf ρ H op, Keep H H' b) (h : stillA X H ρ op = some v) : stillA X H' ρ op = some v := by
  cases op
  case load t a =>
    have hr := hr rfl
    simp only [stillA, readsOf] at h ⊢ hr
    split at h
    · rename_i ad ha
      rw [ha] at hr
      exact loadT_mono (hr _ (by simp [nameOf])) h
    · cases h
  case binOp op t x y yt =>
    simp only [stillA] at h ⊢
    split at h
    · cases h
    · rename_i hn
      rw [if_neg hn]
      refine binop_mono ?_ h
      rintro (rfl | rfl) <;> exact hr rfl
  case slice t x lo hi mx => exact sliceA_mono (hr rfl) h
  case lookup t x k ok => exact lookupA_mono (hr rfl) h
  case entry it =>
    have hr := hr rfl
    simp only [stillA, readsOf] at h ⊢ hr
    refine entryA_mono (fun b hb => hr b (List.mem_append_left _ hb)) ?_ h
    intro a m p q c w hit hb
    refine hr m (List.mem_append_right _ ?_)
    rw [hit]
    simp only
    rw [hb]
    simp
  case call c =>
    simp only [stillA] at h ⊢
    cases hc : c.callee with
    | builtin b =>
      rw [hc] at h
      cases b <;> simp only at h ⊢ <;> first | exact h | skip
      split at h
      · rename_i t x ht hx
        refine lenOfA_mono ?_ h
        have hr := hr (by simp [mayRead, hc])
        simp only [readsOf, hx] at hr
        exact hr
      · cases h
    | value f => rw [hc] at h; cases h
    | invoke x n => rw [hc] at h; cases h
  all_goals exact h
end Go.Dust
