/- The run in the text's order, step by step. -/
import Derived.Test.YthgncfnofmglgaaGreatDq
namespace Go.Dust
variable {P : Program} {call : CallF} {round : RoundF} {ops : Array Oper} {nt base : Nat} {A : Nat → ACt} {S : Nat → St} {V : Nat → Value}

abbrev RanAt (ops : Array Oper) (A : Nat → ACt) (i : Nat) : Prop := ∃ o, ops[i]? = some o ∧ Region.wanted o (yieldedA ops (A i)) = true
abbrev KindAt (ops : Array Oper) (i : Nat) (k : Kind) : Prop := ∃ o, ops[i]? = some o ∧ kindOf o.op = k

structure Run (P : Program) (call : CallF) (round : RoundF) (ops : Array Oper) (nt base : Nat) (A : Nat → ACt) (S : Nat → St) (V : Nat → Value) : Prop where
  hc : CallOK P call
  hr : RoundOK P round
  lc : LvC call
  lr : LvC round
  okop : ops.toList.all (okOper nt) = true
  nt0 : ∀ i, i ≤ ops.size → (A i).nt = nt
  step : ∀ i o, ops[i]? = some o → A (i + 1) = (A i).put o.dst (V i) ∧
    ((Region.wanted o (yieldedA ops (A i)) = true ∧ execN (env P) call round (base + 2 * i) (S i) (A i).eval o.op = some (V i, S (i + 1))) ∨
     (Region.wanted o (yieldedA ops (A i)) = false ∧ V i = undef ∧ S (i + 1) = S i))
  pairs : ∀ i j oi oj, i < j → ops[i]? = some oi → ops[j]? = some oj → Bit ops j i ∨ ((∀ d, oi.dst = some d → d ∉ tmpsOf ops oj) ∧ (∀ d, oj.dst = some d → d ∉ tmpsOf ops oi))
  edges : ∀ j o, ops[j]? = some o → ∀ e ∈ o.after, Region.binds .any e = true → e.on < j
  conf : ∀ i j oi oj, i < j → ops[i]? = some oi → ops[j]? = some oj → Bit ops j i ∨ ∃ m, confPair oi oj i j = some m ∧
    ∀ x e, (x, e) ∈ m → ∀ ox, ops[x]? = some ox → Region.wanted ox (yieldedA ops (A x)) = true → RanAt ops A e → ∀ b ∈ readsOf (A x).eval (S x).look ox.op, sameObj (S e) (S (e + 1)) b = true
  top : ∀ i, i ≤ ops.size → base + 2 * ops.size ≤ (S i).next
  odd : base % 2 = 1
  low : ∀ i, i < ops.size → ∀ o, (S 0).heap.get (base + 2 * i) = some o → o.isDead = true

namespace Run
variable (h : Run P call round ops nt base A S V)
include h
theorem lt {i : Nat} {o : Oper} (ho : ops[i]? = some o) : i < ops.size := by
  have _ := h
  exact (Array.getElem?_eq_some_iff.1 ho).1
theorem oper {i : Nat} {o : Oper} (ho : ops[i]? = some o) : okOper nt o = true := List.all_eq_true.1 h.okop o (by simpa using Array.mem_of_getElem? ho)

/-- What a step does to the state. -/
theorem cases {i : Nat} {o : Oper} (ho : ops[i]? = some o) :
    (S (i + 1) = S i) ∨
    (kindOf o.op = .alloc ∧ Region.wanted o (yieldedA ops (A i)) = true ∧ ∃ f, allocA (env P) (base + 2 * i) (A i).eval o.op = some (V i, f) ∧ S (i + 1) = (S i).put (base + 2 * i) f) ∨
    (kindOf o.op = .effect ∧ Region.wanted o (yieldedA ops (A i)) = true ∧ effectA (env P) call round (S i) (A i).eval o.op = .ret (V i, S (i + 1)) ∧ Evol (S i) (S (i + 1))) := by
  rcases (h.step i o ho).2 with ⟨h1, h2⟩ | ⟨h1, h2, h3⟩
  · unfold execN at h2
    split at h2
    · split at h2
      · simp only [Option.some.injEq, Prod.mk.injEq] at h2; exact .inl h2.2.symm
      · cases h2
    · split at h2
      · rename_i hk _ v f ha
        simp only [Option.some.injEq, Prod.mk.injEq] at h2
        obtain ⟨rfl, h2⟩ := h2
        exact .inr (.inl ⟨hk, h1, f, ha, h2.symm⟩)
      · cases h2
    · split at h2
      · rename_i hk _ p hx
        simp only [Option.some.injEq] at h2
        subst h2
        have := evol_effect (X := env P) h.lc h.lr (S i) (A i).eval o.op
        rw [hx] at this
        exact .inr (.inr ⟨hk, h1, hx, this⟩)
      · cases h2
  · exact .inl h3
theorem still {i : Nat} {o : Oper} (ho : ops[i]? = some o) (hk : kindOf o.op = .still) : S (i + 1) = S i := by
  rcases h.cases ho with h1 | ⟨h1, _⟩ | ⟨h1, _⟩
  · exact h1
  · rw [hk] at h1; cases h1
  · rw [hk] at h1; cases h1
/-- No live object bears a name that is kept for an operation still to come. -/
theorem reserved : ∀ (k i : Nat), k ≤ i → i < ops.size → ∀ o, (S k).heap.get (base + 2 * i) = some o → o.isDead = true
  | 0, i, _, hi, o, ho => h.low i hi o ho
  | k + 1, i, hk, hi, o, ho => by
    have hok : ops[k]? = some ops[k] := by simp [show k < ops.size by omega]
    have ih := reserved k i (by omega) hi
    rcases h.cases hok with h1 | ⟨_, _, f, _, h1⟩ | ⟨_, _, _, h1⟩
    · rw [h1] at ho; exact ih o ho
    · rw [h1] at ho
      simp only [St.put, PT.get_set] at ho
      rw [if_neg (by omega)] at ho
      exact ih o ho
    · cases hd : o.isDead with
      | true => rfl
      | false =>
        rcases h1.old _ o ho hd with ⟨o0, h2, h3, _⟩ | ⟨h2, _⟩
        · rw [ih o0 h2] at h3; cases h3
        · have := h.top k (by omega); omega
theorem nlive {k i : Nat} (hk : k ≤ i) (hi : i < ops.size) {o : AObj} (ho : (S k).heap.get (base + 2 * i) = some o) (hd : o.isDead = false) : False := by
  rw [h.reserved k i hk hi o ho] at hd; cases hd
theorem next_eq {i : Nat} {o : Oper} (ho : ops[i]? = some o) (hk : kindOf o.op ≠ .effect) : (S (i + 1)).next = (S i).next := by
  rcases h.cases ho with h1 | ⟨_, _, f, _, h1⟩ | ⟨h1, _⟩
  · rw [h1]
  · rw [h1]; rfl
  · exact absurd h1 hk
theorem same {e : Nat} {b : Nat} (hs : sameObj (S e) (S (e + 1)) b = true) {o : Oper} (ho : ops[e]? = some o) (hk : kindOf o.op = .effect) :
    ∃ q, (S e).heap.get b = some q ∧ (S (e + 1)).heap.get b = some q ∧ q.isDead = false := by
  unfold sameObj at hs
  split at hs
  · rename_i q q' h1 h2
    simp only [Bool.and_eq_true, Bool.not_eq_true', beq_iff_eq, decide_eq_true_eq] at hs
    obtain ⟨⟨⟨k1, k2⟩, k3⟩, k4⟩ := hs
    rcases h.cases ho with h3 | ⟨h3, _⟩ | ⟨_, _, _, h3⟩
    · rw [h3] at h2
      rw [h1] at h2; cases h2
      exact ⟨q, h1, by rw [h3]; exact h1, k1⟩
    · rw [hk] at h3; cases h3
    · have := h3.same b q' h2 k2 (by omega)
      rw [h1] at this; cases this
      exact ⟨q, h1, h2, k1⟩
  · cases hs
theorem sameLive {e b : Nat} (hs : sameObj (S e) (S (e + 1)) b = true) : ∃ q, (S e).heap.get b = some q ∧ q.isDead = false := by
  have _ := h
  unfold sameObj at hs
  split at hs
  · rename_i q q' h1 h2
    simp only [Bool.and_eq_true, Bool.not_eq_true', beq_iff_eq, decide_eq_true_eq] at hs
    exact ⟨q, h1, hs.1.1.1⟩
  · cases hs
end Run

/-! ### The last that wrote a temporary -/
def LastW (ops : Array Oper) (a0 : ACt) (V : Nat → Value) (X : Nat → Prop) (t : Tmp) (v : Value) : Prop :=
  (∃ i o, X i ∧ ops[i]? = some o ∧ o.dst = some t ∧ v = V i ∧ ∀ k o', i < k → X k → ops[k]? = some o' → o'.dst ≠ some t) ∨
  ((∀ i o, X i → ops[i]? = some o → o.dst ≠ some t) ∧ v = a0.getT t)
theorem LastW.uniq {a0 : ACt} {X Y : Nat → Prop} {t : Tmp} {v u : Value} (hv : LastW ops a0 V X t v) (hu : LastW ops a0 V Y t u) (hxy : ∀ i o, ops[i]? = some o → o.dst = some t → (X i ↔ Y i)) : v = u := by
  rcases hv with ⟨i, o, h1, h2, h3, rfl, h5⟩ | ⟨h1, rfl⟩
  · rcases hu with ⟨j, o', k1, k2, k3, rfl, k5⟩ | ⟨k1, rfl⟩
    · rcases Nat.lt_trichotomy i j with hlt | rfl | hlt
      · exact absurd k3 (h5 j o' hlt ((hxy j o' k2 k3).2 k1) k2)
      · rfl
      · exact absurd h3 (k5 i o hlt ((hxy i o h2 h3).1 h1) h2)
    · exact absurd h3 (k1 i o ((hxy i o h2 h3).1 h1) h2)
  · rcases hu with ⟨j, o', k1, k2, k3, rfl, k5⟩ | ⟨k1, rfl⟩
    · exact absurd k3 (h1 j o' ((hxy j o' k2 k3).2 k1) k2)
    · rfl
theorem getT_put (a : ACt) (d : Option Tmp) (v : Value) (t : Tmp) : (a.put d v).getT t = if d = some t then v else a.getT t := by
  cases d with
  | none => simp [ACt.put]
  | some d =>
    simp only [ACt.put, ACt.getT, PT.get_set, Option.some.injEq]
    by_cases e : t = d
    · subst e; simp
    · rw [if_neg e, if_neg (Ne.symm e)]
/-- One more, of which no later writer of the same is listed. -/
theorem LastW.add {a0 a : ACt} {X : Nat → Prop} {i : Nat} {o : Oper} (ho : ops[i]? = some o) (hX : ∀ k o', i < k → X k → ops[k]? = some o' → ∀ d, o.dst = some d → o'.dst ≠ some d) {t : Tmp}
    (h : LastW ops a0 V X t (a.getT t)) : LastW ops a0 V (fun k => X k ∨ k = i) t ((a.put o.dst (V i)).getT t) := by
  rw [getT_put]
  by_cases e : o.dst = some t
  · rw [if_pos e]
    refine .inl ⟨i, o, .inr rfl, ho, e, rfl, fun k o' hk hx ho' => ?_⟩
    rcases hx with hx | rfl
    · exact hX k o' hk hx ho' t e
    · omega
  · rw [if_neg e]
    rcases h with ⟨j, o', k1, k2, k3, k4, k5⟩ | ⟨k1, k2⟩
    · refine .inl ⟨j, o', .inl k1, k2, k3, k4, fun k o'' hk hx ho' => ?_⟩
      rcases hx with hx | rfl
      · exact k5 k o'' hk hx ho'
      · rw [ho] at ho'; cases ho'; exact e
    · refine .inr ⟨fun j o' hx ho' => ?_, k2⟩
      rcases hx with hx | rfl
      · exact k1 j o' hx ho'
      · rw [ho] at ho'; cases ho'; exact e
theorem Run.last (h : Run P call round ops nt base A S V) (t : Tmp) : ∀ j, j ≤ ops.size → LastW ops (A 0) V (· < j) t ((A j).getT t)
  | 0, _ => .inr ⟨fun i o hi => by omega, rfl⟩
  | j + 1, hj => by
    have ho : ops[j]? = some ops[j] := by simp [show j < ops.size by omega]
    have := LastW.add (V := V) ho (fun k o' hk hx => by omega) (Run.last h t j (by omega))
    rw [(h.step j _ ho).1]
    rcases this with ⟨i, o, h1, h2⟩ | ⟨h1, h2⟩
    · exact .inl ⟨i, o, by omega, h2.1, h2.2.1, h2.2.2.1, fun k o' hk hx => h2.2.2.2 k o' hk (by omega)⟩
    · exact .inr ⟨fun i o hi => h1 i o (by omega), h2⟩
end Go.Dust
