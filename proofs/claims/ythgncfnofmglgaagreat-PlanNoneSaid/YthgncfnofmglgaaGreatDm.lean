/- What a run leaves as it was: for calls, rounds, code. -/
import Derived.Test.YthgncfnofmglgaaGreatDl
namespace Go.Dust
variable {X : Env}

abbrev LvC (call : CallF) : Prop := ∀ f args s, (call f args s).Lv fun p => Evol s p.2
theorem evol_next (s : St) (it : Value) (b : Bool) : (nextA s it b).Lv fun p => Evol s p.2 := by
  have hpick : ∀ r m since seen clock cands i, (∃ o, s.heap.get r = some o ∧ o.isDead = false) → (pickA s r m since seen clock cands i).Lv fun p => Evol s p.2 := by
    intro r m since seen clock cands i hb
    unfold pickA
    split
    · exact .put (fun _ => .inr ⟨rfl, rfl⟩) (.inr (.inl hb))
    · exact .refl _
    · trivial
  unfold nextA
  (repeat' split) <;> first
    | trivial
    | exact .put (fun _ => .inr ⟨rfl, rfl⟩) (.inr (.inl ⟨_, by assumption, rfl⟩))
    | exact .refl _
    | exact hpick _ _ _ _ _ _ _ ⟨_, by assumption, rfl⟩
    | exact fun i _ => hpick _ _ _ _ _ _ _ ⟨_, by assumption, rfl⟩
theorem evol_extern (s : St) (fn : Func) (args : List Value) : (externA s fn args).Lv fun p => Evol s p.2 := by
  unfold externA
  (repeat' split) <;> first
    | trivial
    | exact .new fun _ => .inr ⟨rfl, rfl⟩
theorem evol_callV {call : CallF} {round : RoundF} (hc : LvC call) (hr : LvC round) (s : St) (f : Value) (args : List Value) : (callV X call round s f args).Lv fun p => Evol s p.2 := by
  unfold callV
  (repeat' split) <;> first
    | trivial
    | exact hc _ _ _
    | exact hr _ _ _
theorem evol_option {α : Type} (why : String) (x : Option (α × St)) (s : St) (h : ∀ v s', x = some (v, s') → Evol s s') : (Res.ofOption why x).Lv fun p => Evol s p.2 := by
  cases x with
  | none => trivial
  | some p => exact h p.1 p.2 rfl
theorem evol_effect {call : CallF} {round : RoundF} (hc : LvC call) (hr : LvC round) (s : St) (ρ : Operand → Value) (op : Op) : (effectA X call round s ρ op).Lv fun p => Evol s p.2 := by
  unfold effectA
  split
  · split
    · split
      · rename_i h; exact .storeT h
      · trivial
    · trivial
  · split
    · rename_i h; exact .mapPut h
    · trivial
  · split
    · rename_i h; exact .mapPut h
    · trivial
  · (repeat' split) <;> first | trivial | exact .new fun _ => .inr ⟨rfl, rfl⟩
  · exact evol_next _ _ _
  · split
    · exact evol_callV hc hr _ _ _
    · (repeat' split) <;> first | trivial | exact hc _ _ _
    · exact evol_option _ _ _ fun _ _ h => .append h
    · exact evol_option _ _ _ fun _ _ h => .copy h
    · exact evol_option _ _ _ fun _ _ h => .clear h
    · exact evol_option _ _ _ fun _ _ h => .delete h
    · trivial
  · trivial
theorem alloc_stamps {nm : Nat} {ρ : Operand → Value} {op : Op} {v : Value} {f : Nat → AObj} (h : allocA X nm ρ op = some (v, f)) : Stamps f := by
  unfold allocA at h
  (repeat' split at h) <;> first
    | (cases h; done)
    | (simp only [Option.some.injEq, Prod.mk.injEq] at h; obtain ⟨_, rfl⟩ := h; exact fun _ => .inr ⟨rfl, rfl⟩)
theorem evol_exec {call : CallF} {round : RoundF} (hc : LvC call) (hr : LvC round) (s : St) (ρ : Operand → Value) (op : Op) : (execA X call round s ρ op).Lv fun p => Evol s p.2 := by
  unfold execA
  split
  · split
    · exact .refl _
    · trivial
  · split
    · rename_i h; exact .new (alloc_stamps h)
    · trivial
  · exact evol_effect hc hr _ _ _
theorem evol_ops {call : CallF} {round : RoundF} (hc : LvC call) (hr : LvC round) {ops : Array Oper} : ∀ (rest : List Oper) (a : ACt) (s : St), (runOps X call round ops rest a s).Lv fun p => Evol s p.2
  | [], a, s => .refl s
  | o :: rest, a, s => by
    unfold runOps
    split
    · rw [Res.Lv_bind]
      exact (evol_exec hc hr s a.eval o.op).mono fun p hp => (evol_ops hc hr rest _ p.2).mono fun q hq => hp.trans hq
    · exact evol_ops hc hr rest _ s
theorem evol_execN {call : CallF} {round : RoundF} (hc : LvC call) (hr : LvC round) {nm base : Nat} {s s' : St} {ρ : Operand → Value} {op : Op} {v : Value} (hnm : base ≤ nm) (hbn : base ≤ s.next) (h : execN X call round nm s ρ op = some (v, s')) : EvolF base s s' := by
  unfold execN at h
  split at h
  · split at h
    · simp only [Option.some.injEq, Prod.mk.injEq] at h; obtain ⟨_, rfl⟩ := h; exact .refl _ _
    · cases h
  · split at h
    · rename_i ha
      simp only [Option.some.injEq, Prod.mk.injEq] at h; obtain ⟨_, rfl⟩ := h; exact .put (alloc_stamps ha) (.inr (.inr hnm))
    · cases h
  · split at h
    · rename_i hx
      simp only [Option.some.injEq] at h
      subst h
      have := evol_effect (X := X) hc hr s ρ op
      rw [hx] at this
      exact EvolF.low this hbn
    · cases h
theorem evol_log {call : CallF} {round : RoundF} (hc : LvC call) (hr : LvC round) {ops : Array Oper} {base : Nat} : ∀ (rest : List Oper) (i : Nat) (a : ACt) (s : St) (a' : ACt) (s' : St) (l : List Note),
    base ≤ s.next → logOps X call round ops base rest i a s = some (a', s', l) → EvolF base s s'
  | [], i, a, s, a', s', l, _, h => by
    simp only [logOps, Option.some.injEq, Prod.mk.injEq] at h
    obtain ⟨_, rfl, _⟩ := h
    exact .refl _ _
  | o :: rest, i, a, s, a', s', l, hb, h => by
    unfold logOps at h
    split at h
    · split at h
      · rename_i v s1 hx
        split at h
        · rename_i a2 s2 l2 hl
          simp only [Option.some.injEq, Prod.mk.injEq] at h
          obtain ⟨_, rfl, _⟩ := h
          have h1 := evol_execN (base := base) hc hr (by omega) hb hx
          exact h1.trans (evol_log hc hr rest _ _ _ _ _ _ (Nat.le_trans hb h1.next) hl)
        · cases h
      · cases h
    · split at h
      · rename_i a2 s2 l2 hl
        simp only [Option.some.injEq, Prod.mk.injEq] at h
        obtain ⟨_, rfl, _⟩ := h
        exact evol_log hc hr rest _ _ _ _ _ _ hb hl
      · cases h
theorem Evol.reserve (s : St) (k : Nat) : Evol s { heap := s.heap, next := s.next + 2 * k, clk := s.clk } :=
  ⟨Nat.le_refl _, Nat.le_add_right _ _, fun _ _ h _ _ => h, fun h => h, fun _ o h hd => .inl ⟨o, h, hd, fun h => h⟩⟩
theorem evol_drawn {call : CallF} {round : RoundF} (hc : LvC call) (hr : LvC round) {ops : Array Oper} (a : ACt) (s : St) : (drawnA X call round ops a s).Lv fun p => Evol s p.2 := by
  unfold drawnA
  split
  · trivial
  · split
    · rename_i h
      split
      · exact EvolF.trans (Evol.reserve s ops.size) (evol_log hc hr _ _ _ _ _ _ _ (Nat.le_add_right _ _) h)
      · trivial
    · trivial

theorem evol_all : ∀ n : Nat, (∀ r c a s, (code X n r c a s).Lv fun p => Evol s p.2.2) ∧ LvC (callA X n) ∧ LvC (roundA X n)
  | 0 => ⟨fun _ _ _ _ => trivial, fun _ _ _ => trivial, fun _ _ _ => trivial⟩
  | n + 1 => by
    obtain ⟨h1, h2, h3⟩ := evol_all n
    refine ⟨?_, ?_, ?_⟩
    · intro r c a s
      unfold code
      split
      · exact .refl _
      · exact .refl _
      · rw [Res.Lv_bind]
        split
        · exact (evol_drawn h2 h3 a s).mono fun _ hp => hp
        · exact (evol_ops h2 h3 _ a s).mono fun _ hp => hp
      · rw [Res.Lv_bind]
        refine (h1 _ _ a s).mono fun p hp => ?_
        obtain ⟨e, a', s'⟩ := p
        cases e
        · exact (h1 _ _ a' s').mono fun q hq => hp.trans hq
        · exact hp
        · exact hp
      · split
        · exact h1 _ _ _ _
        · exact h1 _ _ _ _
        · trivial
      · rw [Res.Lv_bind]
        refine (h1 _ _ a s).mono fun p hp => ?_
        obtain ⟨e, a', s'⟩ := p
        cases e
        · exact hp
        · simp only
          split <;> exact hp
        · exact hp
      · rw [Res.Lv_bind]
        refine (h1 _ _ a s).mono fun p hp => ?_
        obtain ⟨e, a', s'⟩ := p
        cases e
        · exact (h1 _ _ a' s').mono fun q hq => hp.trans hq
        · exact hp
        · exact hp
      · exact .refl _
      · exact .refl _
      · split
        · split
          rotate_left
          · trivial
          rw [Res.Lv_bind]
          refine (h2 _ _ _).mono fun p hp => ?_
          obtain ⟨v, s'⟩ := p
          have h0 : Evol s s' := Evol.trans (.new fun _ => .inr ⟨rfl, rfl⟩) hp
          simp only
          split
          · split
            · trivial
            · split
              · exact h0.trans (.put (fun _ => .inr ⟨rfl, rfl⟩) (.inr (.inl ⟨_, by assumption, rfl⟩)))
              · exact h0.trans (.put (fun _ => .inr ⟨rfl, rfl⟩) (.inr (.inl ⟨_, by assumption, rfl⟩)))
              · exact h0.trans (.put (fun _ => .inr ⟨rfl, rfl⟩) (.inr (.inl ⟨_, by assumption, rfl⟩)))
              · trivial
          · trivial
        · trivial
      · trivial
      · trivial
      · trivial
    · intro f args s
      unfold callA
      split
      · split
        · split
          · rw [Res.Lv_bind]
            refine (h1 _ _ _ s).mono fun p hp => ?_
            obtain ⟨e, a', s'⟩ := p
            simp only
            split
            · trivial
            · split
              · exact hp
              · trivial
          · trivial
        · exact evol_extern _ _ _
      · trivial
    · intro l args s
      unfold roundA
      split
      · split
        · rw [Res.Lv_bind]
          refine (h1 _ _ _ s).mono fun p hp => ?_
          obtain ⟨e, a', s'⟩ := p
          simp only
          split
          · split
            · rw [Res.Lv_bind]
              refine (h1 _ _ _ _).mono fun q hq => ?_
              obtain ⟨e2, a2, s2⟩ := q
              have h0 : Evol s s2 := hp.trans (Evol.trans (.put (fun _ => .inr ⟨rfl, rfl⟩) (.inr (.inl ⟨_, by assumption, rfl⟩))) hq)
              simp only
              (repeat' split) <;> first
                | trivial
                | exact h0.trans (.put (fun _ => .inr ⟨rfl, rfl⟩) (.inr (.inl ⟨_, by assumption, rfl⟩)))
            · trivial
          · trivial
        · trivial
      · trivial
end Go.Dust
