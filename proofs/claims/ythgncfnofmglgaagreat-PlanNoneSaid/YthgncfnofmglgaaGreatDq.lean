/- Regions whose order is drawn: what is known of one, by its text and by the run in the text's order. -/
import Derived.Test.YthgncfnofmglgaaGreatDp
namespace Go.Dust

/-! ### What comes before what -/
def stepB (acc : Array Nat) (o : Oper) : Nat := o.after.foldl (fun s e => if Region.binds .any e then s ||| 2 ^ e.on ||| acc.getD e.on 0 else s) 0
theorem bit_fold (acc : Array Nat) (i : Nat) : ∀ (l : List Edge) (s : Nat), (l.foldl (fun s e => if Region.binds .any e then s ||| 2 ^ e.on ||| acc.getD e.on 0 else s) s).testBit i = true →
    s.testBit i = true ∨ ∃ e ∈ l, Region.binds .any e = true ∧ (e.on = i ∨ (acc.getD e.on 0).testBit i = true)
  | [], s, h => .inl h
  | e :: l, s, h => by
    rw [List.foldl_cons] at h
    rcases bit_fold acc i l _ h with h1 | ⟨e', h1, h2⟩
    · split at h1
      · rename_i hb
        simp only [Nat.testBit_or, Bool.or_eq_true] at h1
        rcases h1 with (h1 | h1) | h1
        · exact .inl h1
        · refine .inr ⟨e, by simp, hb, .inl ?_⟩
          rw [Nat.testBit_two_pow] at h1
          simpa using h1
        · exact .inr ⟨e, by simp, hb, .inr h1⟩
      · exact .inl h1
    · exact .inr ⟨e', List.mem_cons_of_mem _ h1, h2⟩
theorem bit_step {acc : Array Nat} {o : Oper} {i : Nat} (h : (stepB acc o).testBit i = true) : ∃ e ∈ o.after, Region.binds .any e = true ∧ (e.on = i ∨ (acc.getD e.on 0).testBit i = true) := by
  unfold stepB at h
  rw [← Array.foldl_toList] at h
  rcases bit_fold acc i _ _ h with h1 | ⟨e, h1, h2⟩
  · simp at h1
  · exact ⟨e, by simpa using h1, h2⟩
theorem before_fold : ∀ (l : List Oper) (acc : Array Nat), (∀ i, i < acc.size → (l.foldl (fun acc o => acc.push (stepB acc o)) acc).getD i 0 = acc.getD i 0) ∧
    ∀ k o, l[k]? = some o → ∃ acc' : Array Nat, acc'.size = acc.size + k ∧ (∀ i, i < acc'.size → (l.foldl (fun acc o => acc.push (stepB acc o)) acc).getD i 0 = acc'.getD i 0) ∧
      (l.foldl (fun acc o => acc.push (stepB acc o)) acc).getD (acc.size + k) 0 = stepB acc' o
  | [], acc => ⟨fun _ _ => rfl, fun k o h => by simp at h⟩
  | o :: l, acc => by
    obtain ⟨h1, h2⟩ := before_fold l (acc.push (stepB acc o))
    have hget : ∀ i, i < acc.size → (acc.push (stepB acc o)).getD i 0 = acc.getD i 0 := by
      intro i hi
      simp only [Array.getD_eq_getD_getElem?, Array.getElem?_push, if_neg (Nat.ne_of_lt hi)]
    refine ⟨fun i hi => ?_, fun k o' hk => ?_⟩
    · rw [List.foldl_cons, h1 i (by simp; omega), hget i hi]
    · cases k with
      | zero =>
        simp only [List.getElem?_cons_zero, Option.some.injEq] at hk
        subst hk
        refine ⟨acc, rfl, fun i hi => by rw [List.foldl_cons, h1 i (by simp; omega), hget i hi], ?_⟩
        rw [List.foldl_cons, Nat.add_zero, h1 acc.size (by simp)]
        simp
      | succ k =>
        obtain ⟨acc', k1, k2, k3⟩ := h2 k o' (by simpa using hk)
        refine ⟨acc', by rw [k1]; simp; omega, fun i hi => by rw [List.foldl_cons]; exact k2 i hi, ?_⟩
        rw [List.foldl_cons, ← k3]
        congr 1
        simp; omega
abbrev Bit (ops : Array Oper) (j i : Nat) : Prop := ((Region.before ops).getD j 0).testBit i = true
theorem before_spec {ops : Array Oper} {j i : Nat} {o : Oper} (ho : ops[j]? = some o) (h : Bit ops j i) : ∃ e ∈ o.after, Region.binds .any e = true ∧ (e.on = i ∨ (e.on < j ∧ Bit ops e.on i)) := by
  have hb : Region.before ops = ops.toList.foldl (fun acc o => acc.push (stepB acc o)) #[] := by
    unfold Region.before
    rw [← Array.foldl_toList]
    rfl
  obtain ⟨acc', h1, h2, h3⟩ := (before_fold ops.toList #[]).2 j o (by simpa using ho)
  simp only [List.size_toArray, List.length_nil, Nat.zero_add] at h1 h3
  unfold Bit at h
  rw [hb, h3] at h
  obtain ⟨e, he, hbi, h⟩ := bit_step h
  refine ⟨e, he, hbi, ?_⟩
  rcases h with h | h
  · exact .inl h
  · have hlt : e.on < acc'.size := by
      rcases Nat.lt_or_ge e.on acc'.size with h' | h'
      · exact h'
      · rw [Array.getD_eq_getD_getElem?, Array.getElem?_eq_none h'] at h
        simp at h
    refine .inr ⟨by omega, ?_⟩
    unfold Bit
    rw [hb, h2 _ hlt]
    exact h

/-- What is listed holds all that must come before it. -/
def Down (ops : Array Oper) (S : Nat → Prop) : Prop := ∀ j o, S j → ops[j]? = some o → ∀ e ∈ o.after, Region.binds .any e = true → S e.on
theorem Down.bit {ops : Array Oper} {S : Nat → Prop} (hd : Down ops S) : ∀ (j i : Nat), j < ops.size → S j → Bit ops j i → S i := by
  intro j
  induction j using Nat.strongRecOn with
  | _ j ih =>
    intro i hj hs hb
    have ho : ops[j]? = some ops[j] := by simp [hj]
    obtain ⟨e, he, hbi, h⟩ := before_spec ho hb
    have hse := hd j _ hs ho e he hbi
    rcases h with rfl | ⟨h1, h2⟩
    · exact hse
    · exact ih e.on h1 i (by omega) hse h2
theorem Down.ready {ops : Array Oper} {S : Nat → Prop} (hd : Down ops S) {j i : Nat} {o : Oper} (ho : ops[j]? = some o) (hr : ∀ e ∈ o.after, Region.binds .any e = true → S e.on) (hb : Bit ops j i) : S i := by
  obtain ⟨e, he, hbi, h⟩ := before_spec ho hb
  have hj : j < ops.size := (Array.getElem?_eq_some_iff.1 ho).1
  rcases h with rfl | ⟨h1, h2⟩
  · exact hr e he hbi
  · exact hd.bit e.on i (by omega) (hr e he hbi) h2

/-! ### What is checked of pairs -/
theorem confAt_spec {b : Array Nat} {j : Nat} {oj : Oper} : ∀ (rest : List Oper) (i : Nat) (l : List (Nat × Nat)), confAt b j oj rest i = some l → ∀ k o, rest[k]? = some o → i + k < j →
    (b.getD j 0).testBit (i + k) = true ∨ ∃ m, confPair o oj (i + k) j = some m ∧ ∀ p ∈ m, p ∈ l
  | [], i, l, _, k, o, hk, _ => by simp at hk
  | o0 :: rest, i, l, h, k, o, hk, hlt => by
    unfold confAt at h
    rw [if_pos (by omega)] at h
    split at h
    · rename_i hb
      cases k with
      | zero => exact .inl hb
      | succ k =>
        have := confAt_spec rest (i + 1) l h k o (by simpa using hk) (by omega)
        rw [show i + 1 + k = i + (k + 1) from by omega] at this
        exact this
    · split at h
      · rename_i l1 l2 h1 h2
        cases h
        cases k with
        | zero =>
          simp only [List.getElem?_cons_zero, Option.some.injEq] at hk
          subst hk
          exact .inr ⟨l1, h1, fun p hp => List.mem_append_left _ hp⟩
        | succ k =>
          have := confAt_spec rest (i + 1) l2 h2 k o (by simpa using hk) (by omega)
          rw [show i + 1 + k = i + (k + 1) from by omega] at this
          rcases this with h3 | ⟨m, h3, h4⟩
          · exact .inl h3
          · exact .inr ⟨m, h3, fun p hp => List.mem_append_right _ (h4 p hp)⟩
      · cases h
theorem confFrom_spec {b : Array Nat} {all : List Oper} : ∀ (rest : List Oper) (j0 : Nat) (l : List (Nat × Nat)), confFrom b all rest j0 = some l → ∀ k oj, rest[k]? = some oj → ∀ i oi, all[i]? = some oi → i < j0 + k →
    (b.getD (j0 + k) 0).testBit i = true ∨ ∃ m, confPair oi oj i (j0 + k) = some m ∧ ∀ p ∈ m, p ∈ l
  | [], _, _, _, k, oj, hk, _, _, _, _ => by simp at hk
  | o0 :: rest, j0, l, h, k, oj, hk, i, oi, hi, hlt => by
    unfold confFrom at h
    split at h
    · rename_i l1 l2 h1 h2
      cases h
      cases k with
      | zero =>
        simp only [List.getElem?_cons_zero, Option.some.injEq] at hk
        subst hk
        have := confAt_spec all 0 l1 h1 i oi hi (by omega)
        simp only [Nat.zero_add, Nat.add_zero] at this ⊢
        rcases this with h3 | ⟨m, h3, h4⟩
        · exact .inl h3
        · exact .inr ⟨m, h3, fun p hp => List.mem_append_left _ (h4 p hp)⟩
      | succ k =>
        have := confFrom_spec rest (j0 + 1) l2 h2 k oj (by simpa using hk) i oi hi (by omega)
        rw [show j0 + 1 + k = j0 + (k + 1) from by omega] at this
        rcases this with h3 | ⟨m, h3, h4⟩
        · exact .inl h3
        · exact .inr ⟨m, h3, fun p hp => List.mem_append_right _ (h4 p hp)⟩
    · cases h
theorem conf_spec {ops : Array Oper} {l : List (Nat × Nat)} (h : conf ops = some l) {i j : Nat} {oi oj : Oper} (hi : ops[i]? = some oi) (hj : ops[j]? = some oj) (hlt : i < j) :
    Bit ops j i ∨ ∃ m, confPair oi oj i j = some m ∧ ∀ p ∈ m, p ∈ l := by
  have := confFrom_spec ops.toList 0 l h j oj (by simpa using hj) i oi (by simpa using hi) (by omega)
  rw [Nat.zero_add] at this
  exact this
theorem okPairsAt_spec {ops : Array Oper} {b : Array Nat} {oj : Oper} {j : Nat} : ∀ (rest : List Oper) (i : Nat), okPairsAt ops b oj j rest i = true → ∀ k o, rest[k]? = some o → i + k < j → okPair ops b o oj (i + k) j = true
  | [], i, _, k, o, hk, _ => by simp at hk
  | o0 :: rest, i, h, k, o, hk, hlt => by
    unfold okPairsAt at h
    rw [if_pos (by omega), Bool.and_eq_true] at h
    cases k with
    | zero =>
      simp only [List.getElem?_cons_zero, Option.some.injEq] at hk
      subst hk
      exact h.1
    | succ k =>
      have := okPairsAt_spec rest (i + 1) h.2 k o (by simpa using hk) (by omega)
      rw [show i + 1 + k = i + (k + 1) from by omega] at this
      exact this
theorem okPairs_spec {ops : Array Oper} {b : Array Nat} : ∀ (rest : List Oper) (j0 : Nat), okPairs ops b rest j0 = true → ∀ k oj, rest[k]? = some oj → ∀ i oi, ops[i]? = some oi → i < j0 + k → okPair ops b oi oj i (j0 + k) = true
  | [], _, _, k, oj, hk, _, _, _, _ => by simp at hk
  | o0 :: rest, j0, h, k, oj, hk, i, oi, hi, hlt => by
    unfold okPairs at h
    rw [Bool.and_eq_true] at h
    cases k with
    | zero =>
      simp only [List.getElem?_cons_zero, Option.some.injEq] at hk
      subst hk
      have := okPairsAt_spec ops.toList 0 h.1 i oi (by simpa using hi) (by omega)
      simpa using this
    | succ k =>
      have := okPairs_spec rest (j0 + 1) h.2 k oj (by simpa using hk) i oi hi (by omega)
      rw [show j0 + 1 + k = j0 + (k + 1) from by omega] at this
      exact this
theorem okEdges_spec : ∀ (rest : List Oper) (j0 : Nat), okEdgesAll rest j0 = true → ∀ k o, rest[k]? = some o → ∀ e ∈ o.after, Region.binds .any e = true → e.on < j0 + k
  | [], _, _, k, o, hk => by simp at hk
  | o0 :: rest, j0, h, k, o, hk => by
    unfold okEdgesAll at h
    rw [Bool.and_eq_true] at h
    cases k with
    | zero =>
      simp only [List.getElem?_cons_zero, Option.some.injEq] at hk
      subst hk
      intro e he hb
      have h1 := h.1
      unfold okEdges at h1
      rw [Bool.and_eq_true] at h1
      have := List.all_eq_true.1 h1.1 e (by simpa using he)
      rw [hb] at this
      simpa using this
    | succ k =>
      have := okEdges_spec rest (j0 + 1) h.2 k o (by simpa using hk)
      rw [show j0 + 1 + k = j0 + (k + 1) from by omega] at this
      exact this
theorem okDraw_pairs {ops : Array Oper} (h : okDraw ops = true) {i j : Nat} {oi oj : Oper} (hi : ops[i]? = some oi) (hj : ops[j]? = some oj) (hlt : i < j) :
    Bit ops j i ∨ ((∀ d, oi.dst = some d → d ∉ tmpsOf ops oj) ∧ (∀ d, oj.dst = some d → d ∉ tmpsOf ops oi)) := by
  unfold okDraw at h
  rw [Bool.and_eq_true] at h
  have := okPairs_spec ops.toList 0 h.1 j oj (by simpa using hj) i oi hi (by omega)
  rw [Nat.zero_add] at this
  unfold okPair at this
  rw [Bool.or_eq_true] at this
  rcases this with h1 | h1
  · exact .inl h1
  · simp only [Bool.not_eq_true', Bool.or_eq_false_iff] at h1
    refine .inr ⟨fun d hd => ?_, fun d hd => ?_⟩
    · have := h1.1
      rw [hd] at this
      simpa using this
    · have := h1.2
      rw [hd] at this
      simpa using this
theorem okDraw_edges {ops : Array Oper} (h : okDraw ops = true) {j : Nat} {o : Oper} (hj : ops[j]? = some o) : ∀ e ∈ o.after, Region.binds .any e = true → e.on < j := by
  unfold okDraw at h
  rw [Bool.and_eq_true] at h
  have := okEdges_spec ops.toList 0 h.2 j o (by simpa using hj)
  simpa using this
end Go.Dust
