/- Dl Dm Dn Dp Dq Dr Ds Dt -/
import Derived.Test.YtelmjodchophjaaGreatDoorC
import Derived.RangeFuncNested
import Derived.OrdersIn
set_option linter.unusedVariables false
set_option linter.unusedSimpArgs false
section
/- Regions in the order of their text; what a run leaves as0 it was. -/
namespace Go.Dust
variable {P : Program} {ι ι' : Inj} {s s' : St} {w w' : World}

/-! ### Temporaries -/
structure AR (ι : Inj) (a : ACt) (act : Act) : Prop where
  size : act.tmps.size = a.nt
  val : ∀ t, t < a.nt → VR ι (a.getT t) (act.tmps.getD t undef)
theorem AR.mono {a : ACt} {act : Act} (h : AR ι a act) (hle : ι.le ι') : AR ι' a act := ⟨h.size, fun t ht => (h.val t ht).mono hle⟩
theorem AR.put {a : ACt} {act : Act} (h : AR ι a act) {d : Option Tmp} (hd : ∀ x, d = some x → x < a.nt) {v u : Value} (hv : VR ι v u) : AR ι (a.put d v) (act.put d u) := by
  cases d with
  | none => exact h
  | some d =>
    have hdn := hd d rfl
    refine ⟨by simpa [Act.put, ACt.put] using h.size, fun t ht => ?_⟩
    simp only [ACt.put] at ht
    simp only [ACt.put, ACt.getT, Act.put, PT.get_set]
    by_cases e : t = d
    · subst e
      rw [if_pos rfl]
      have : act.tmps.size = a.nt := h.size
      simp [Array.getD_eq_getD_getElem?, this, hdn, hv]
    · rw [if_neg e]
      have := h.val t ht
      simp only [ACt.getT] at this
      simpa [Array.getD_eq_getD_getElem?, Array.getElem?_setIfInBounds, Ne.symm e] using this
theorem AR.eval {a : ACt} {act : Act} (h : AR ι a act) (heven : ∀ b, ι (2 * b) = some ⟨b, 0, 0, true⟩) {x : Operand} (hx : okOperand a.nt x = true) : VR ι (a.eval x) (act.eval x) := by
  cases x with
  | tmp t =>
    simp only [okOperand, decide_eq_true_eq] at hx
    exact h.val t hx
  | const v => exact .closed hx
  | global g =>
    have := VR.ptr (ι := ι) (o := 0) (heven g)
    simpa [ACt.eval, Act.eval] using this
  | func f => exact .func rfl rfl (fun i v u hv => by simp at hv) (fun i v u hv => by simp at hv)
theorem AR.evals {a : ACt} {act : Act} (h : AR ι a act) (heven : ∀ b, ι (2 * b) = some ⟨b, 0, 0, true⟩) {o : Oper} (ho : okOper a.nt o = true) : ∀ x ∈ o.op.operands.toList, VR ι (a.eval x) (act.eval x) := by
  intro x hx
  unfold okOper at ho
  simp only [Bool.and_eq_true] at ho
  exact h.eval heven (List.all_eq_true.1 ho.1.1 x hx)
theorem okOper_dst {nt : Nat} {o : Oper} (ho : okOper nt o = true) : ∀ x, o.dst = some x → x < nt := by
  intro x hx
  unfold okOper at ho
  simp only [Bool.and_eq_true] at ho
  have := ho.1.2
  rw [hx] at this
  simpa using this
theorem okOper_defer {nt : Nat} {o : Oper} (ho : okOper nt o = true) : ∀ c, o.op ≠ .defer c := by
  intro c hc
  unfold okOper at ho
  rw [hc] at ho
  simp at ho
theorem okOper_select {nt : Nat} {o : Oper} (ho : okOper nt o = true) : ∀ cs b, o.op ≠ .select cs b := by
  intro c b hc
  unfold okOper at ho
  rw [hc] at ho
  simp at ho
@[simp] theorem put_nt (a : ACt) (d : Option Tmp) (v : Value) : (a.put d v).nt = a.nt := by cases d <;> rfl

theorem VR.bool_iff {v : Value} {b : Bool} (h : VR ι v (.bool b)) : v = .bool b := by cases h; rfl
theorem yielded_eq {a : ACt} {act : Act} (h : AR ι a act) {ops : Array Oper} (hops : ops.toList.all (okOper a.nt) = true) (j : Nat) : yieldedA ops a j = yielded ops act.tmps j := by
  unfold yieldedA yielded
  cases hj : ops[j]? with
  | none => rfl
  | some o =>
    have hok : okOper a.nt o = true := List.all_eq_true.1 hops o (by simpa using Array.mem_of_getElem? hj)
    simp only [Option.bind_some]
    cases hd : o.dst with
    | none => rfl
    | some d =>
      have hdn := okOper_dst hok d hd
      have hv := h.val d hdn
      have hsz := h.size
      simp only [Option.bind_some]
      have hg : act.tmps[d]? = some (act.tmps.getD d undef) := by
        simp [Array.getD_eq_getD_getElem?, hsz, hdn]
      rw [hg]
      generalize act.tmps.getD d undef = u at hv
      generalize a.getT d = v at hv
      cases v with
      | bool b => rw [hv.bool_eq]
      | _ =>
        cases u with
        | bool b => have := hv.bool_iff; cases this
        | _ => rfl
theorem wanted_eq {a : ACt} {act : Act} (h : AR ι a act) {ops : Array Oper} (hops : ops.toList.all (okOper a.nt) = true) (o : Oper) :
    Region.wanted o (yieldedA ops a) = Region.wanted o (yielded ops act.tmps) := by
  unfold Region.wanted
  cases o.guard with
  | none => rfl
  | some g => simp only [yielded_eq h hops]

/-! ### Marks of loops over functions -/
structure DR (ι : Inj) (H : Look) (w : World) (ds : List Deferred) : Prop where
  mark : ∀ d ∈ ds, ∃ D, d = { target := .collected D, args := #[] } ∧ w.heap[D]? = some (.deferred (some [])) ∧ ¬ Own ι H D
  apart : ds.Pairwise fun d e => ∀ D, d.target = .collected D → e.target ≠ .collected D
theorem DR.ext {H H' : Look} {n n' : Nat} {ds : List Deferred} (h : DR ι H w ds) (he : Ext ι H n w ι' H' n' w') : DR ι' H' w' ds := by
  refine ⟨fun d hd => ?_, h.apart⟩
  obtain ⟨D, h1, h2, h3⟩ := h.mark d hd
  have hlt := lt_of_heap h2
  refine ⟨D, h1, (he.keep D hlt h3).trans h2, fun ho => ?_⟩
  rcases he.own D ho with h4 | h4
  · exact h3 h4
  · omega
theorem DR.nil (H : Look) : DR ι H w [] := ⟨by simp, .nil⟩
@[simp] theorem Act.put_defers' (a : Act) (d : Option Tmp) (v : Value) : (a.put d v).defers = a.defers := by cases d <;> rfl

/-! ### A region in the order of its text -/
section
variable {r : Option Nat} {m : Nat} {call : CallF} {round : RoundF}

theorem exec_sound (hc : CallOK P call) (hr : RoundOK P round) (hR : RS P ι s w) {o : Oper} {ρ : Operand → Value} {act : Act} (hρ : ∀ x ∈ o.op.operands.toList, VR ι (ρ x) (act.eval x)) (hd : ∀ c, o.op ≠ .defer c)
    {Φ : Value × St → Prop} (h : (execA (env P) call round s ρ o.op).All Φ) {K : Act → World → Prop} {Q : Exit → Act → World → Prop} (hk : Onward P ι s w Φ o act K) : o.wpIn (FW r) m P act w K Q := by
  unfold execA at h
  split at h
  · split at h
    · rename_i v hv
      obtain ⟨u, g1, g2⟩ := still_sound (P := P) hR hρ hv
      exact wpIn_value hd g1 (hk v u s ι w h g2 hR Ext.refl)
    · exact False.elim h
  · split at h
    · rename_i v f hv
      obtain ⟨u, x, g1, g2, g3⟩ := alloc_sound (w := w) hR.free hρ hv
      obtain ⟨q1, q2⟩ := RS.new hR x (f := f) (g3 s.clk).2
      exact wpIn_value hd g1 (hk v u _ _ _ h g2 q1 q2)
    · exact False.elim h
  · exact effect_sound hc hr hR hρ hd h hk

theorem runOps_sound (hc : CallOK P call) (hr : RoundOK P round) {ops : Array Oper} {Q : Exit → Act → World → Prop} : ∀ (rest : List Oper) (k : Nat), (∀ j, rest[j]? = ops[k + j]?) →
    ∀ (a : ACt) (s : St) (act : Act) (w : World) (ι : Inj) (Φ : ACt × St → Prop), ops.toList.all (okOper a.nt) = true → (runOps (env P) call round ops rest a s).All Φ → AR ι a act → RS P ι s w →
      (∀ a' s' act' w' ι', Φ (a', s') → AR ι' a' act' → RS P ι' s' w' → ES ι s w ι' s' w' → a'.nt = a.nt → act'.defers = act.defers → Q .normal act' w') →
      wpOpsIn (FW r) m P ops Q (List.range' k rest.length) act w
  | [], k, _, a, s, act, w, ι, Φ, _, h, ha, hR, hQ => hQ a s act w ι h ha hR Ext.refl rfl rfl
  | o :: rest, k, hidx, a, s, act, w, ι, Φ, hok, h, ha, hR, hQ => by
    have ho : ops[k]? = some o := by have := hidx 0; simpa using this.symm
    have hoo : okOper a.nt o = true := List.all_eq_true.1 hok o (by simpa using Array.mem_of_getElem? ho)
    have hrest : ∀ j, rest[j]? = ops[k + 1 + j]? := fun j => by
      have := hidx (j + 1)
      simpa [show k + (j + 1) = k + 1 + j from by omega] using this
    simp only [List.length_cons, List.range'_succ, wpOpsIn, ho]
    unfold runOps at h
    rw [wanted_eq ha hok o] at h
    split at h
    · rename_i hw
      rw [if_pos hw]
      rw [Res.All_bind] at h
      refine exec_sound hc hr hR (ha.evals hR.even hoo) (okOper_defer hoo) h ?_
      intro v u s' ι' w' hΦ hv hR' hE
      refine runOps_sound hc hr rest (k + 1) hrest _ s' _ w' ι' Φ (by simpa using hok) hΦ ((ha.mono hE.le).put (okOper_dst hoo) hv) hR' ?_
      intro a'' s'' act'' w'' ι'' k1 k2 k3 k4 k5 k6
      exact hQ a'' s'' act'' w'' ι'' k1 k2 k3 (Ext.trans hE k4) (by simpa using k5) (by simpa using k6)
    · rename_i hw
      rw [if_neg hw]
      refine ⟨fun _ _ => trivial, ?_⟩
      refine runOps_sound hc hr rest (k + 1) hrest _ s _ w ι Φ (by simpa using hok) h (ha.put (okOper_dst hoo) (VR.undef ι)) hR ?_
      intro a'' s'' act'' w'' ι'' k1 k2 k3 k4 k5 k6
      exact hQ a'' s'' act'' w'' ι'' k1 k2 k3 k4 (by simpa using k5) (by simpa using k6)
end

/-! ### What a run leaves: an object with an old stamp is the old object -/
def AObj.isRo : AObj → Bool
  | .cells _ _ _ _ _ ro _ => ro
  | _ => false
structure EvolF (n0 : Nat) (s s' : St) : Prop where
  clk : s.clk ≤ s'.clk
  next : s.next ≤ s'.next
  same : ∀ b o, s'.heap.get b = some o → o.isDead = false → o.ver < s.clk → s.heap.get b = some o
  vok : (∀ b o, s.heap.get b = some o → o.isDead = false → o.ver < s.clk) → ∀ b o, s'.heap.get b = some o → o.isDead = false → o.ver < s'.clk
  old : ∀ b o, s'.heap.get b = some o → o.isDead = false → (∃ o0, s.heap.get b = some o0 ∧ o0.isDead = false ∧ (o.isRo = true → o0.isRo = true)) ∨ (n0 ≤ b ∧ o.isRo = false)
abbrev Evol (s s' : St) : Prop := EvolF s.next s s'
theorem EvolF.refl (n0 : Nat) (s : St) : EvolF n0 s s := ⟨Nat.le_refl _, Nat.le_refl _, fun _ _ h _ _ => h, fun h => h, fun _ o h hd => .inl ⟨o, h, hd, fun h => h⟩⟩
theorem EvolF.low {n0 n1 : Nat} {s s' : St} (h : EvolF n0 s s') (hle : n1 ≤ n0) : EvolF n1 s s' :=
  ⟨h.clk, h.next, h.same, h.vok, fun b o hb hd => (h.old b o hb hd).imp id fun ⟨h1, h2⟩ => ⟨Nat.le_trans hle h1, h2⟩⟩
theorem EvolF.trans {n0 : Nat} {a b c : St} (h : EvolF n0 a b) (k : EvolF n0 b c) : EvolF n0 a c :=
  ⟨Nat.le_trans h.clk k.clk, Nat.le_trans h.next k.next, fun x o hx hd hv => h.same x o (k.same x o hx hd (Nat.lt_of_lt_of_le hv h.clk)) hd hv, fun hv => k.vok (h.vok hv), fun x o hx hd => by
    rcases k.old x o hx hd with ⟨o1, h1, h2, h3⟩ | h1
    · rcases h.old x o1 h1 h2 with ⟨o0, k1, k2, k3⟩ | ⟨k1, k2⟩
      · exact .inl ⟨o0, k1, k2, fun e => k3 (h3 e)⟩
      · refine .inr ⟨k1, ?_⟩
        cases ho : o.isRo with
        | false => rfl
        | true => rw [h3 ho] at k2; cases k2
    · exact .inr h1⟩
theorem Evol.refl (s : St) : Evol s s := EvolF.refl _ s
theorem Evol.trans {a b c : St} (h : Evol a b) (k : Evol b c) : Evol a c := EvolF.trans h (EvolF.low k h.next)
/-- An object that bears the stamp that it is given. -/
def Stamps (f : Nat → AObj) : Prop := ∀ v, (f v).isDead = true ∨ ((f v).ver = v ∧ (f v).isRo = false)
theorem EvolF.put {n0 : Nat} {s : St} {b : Nat} {f : Nat → AObj} (hf : Stamps f) (hb : (∀ v, (f v).isDead = true) ∨ (∃ o, s.heap.get b = some o ∧ o.isDead = false) ∨ n0 ≤ b) : EvolF n0 s (s.put b f) := by
  refine ⟨Nat.le_succ _, Nat.le_refl _, ?_, ?_, ?_⟩
  · intro c o hc hd hv
    simp only [St.put, PT.get_set] at hc
    split at hc
    · cases hc
      rcases hf s.clk with h | h
      · rw [h] at hd; cases hd
      · omega
    · exact hc
  · intro hv c o hc hd
    simp only [St.put, PT.get_set] at hc ⊢
    split at hc
    · cases hc
      rcases hf s.clk with h | h
      · rw [h] at hd; cases hd
      · omega
    · have := hv c o hc hd; omega
  · intro c o hc hd
    simp only [St.put, PT.get_set] at hc
    split at hc
    · rename_i e
      subst e
      cases hc
      rcases hf s.clk with h | h
      · rw [h] at hd; cases hd
      · rcases hb with hb | ⟨o0, h1, h2⟩ | hb
        · rw [hb] at hd; cases hd
        · exact .inl ⟨o0, h1, h2, fun e => by rw [h.2] at e; cases e⟩
        · exact .inr ⟨hb, h.2⟩
    · exact .inl ⟨o, hc, hd, fun h => h⟩
theorem Evol.put {s : St} {b : Nat} {f : Nat → AObj} (hf : Stamps f) (hb : (∀ v, (f v).isDead = true) ∨ (∃ o, s.heap.get b = some o ∧ o.isDead = false) ∨ s.next ≤ b) : Evol s (s.put b f) := EvolF.put hf hb
theorem Evol.new {s : St} {f : Nat → AObj} (hf : Stamps f) : Evol s (s.new f) := by
  have h := Evol.put (s := s) (b := s.next) hf (.inr (.inr (Nat.le_refl _)))
  exact ⟨h.clk, by simp [St.new], h.same, h.vok, h.old⟩
theorem Evol.storeN {s s' : St} {a : Addr} {vs : List Value} (h : storeN s a vs = some s') : Evol s s' := by
  unfold Dust.storeN at h
  split at h
  · split at h
    · simp only [Option.some.injEq] at h; subst h; exact .put (fun _ => .inr ⟨rfl, rfl⟩) (.inr (.inl ⟨_, by assumption, rfl⟩))
    · cases h
  · cases h
theorem Evol.storeT {X : Env} {s s' : St} {t : TypeId} {a : Addr} {v : Value} (h : storeT X s t a v = some s') : Evol s s' := by
  unfold Dust.storeT at h
  split at h
  · split at h
    · exact .storeN h
    · cases h
  · cases h
theorem Evol.mapPut {X : Env} {s s' : St} {t : TypeId} {m k v : Value} (h : mapPut X s t m k v = some s') : Evol s s' := by
  unfold Dust.mapPut at h
  split at h
  · split at h
    · split at h
      · split at h
        · simp only [Option.some.injEq] at h; subst h; exact .put (fun _ => .inr ⟨rfl, rfl⟩) (.inr (.inl ⟨_, by assumption, rfl⟩))
        · simp only [Option.some.injEq] at h; subst h; exact .put (fun _ => .inr ⟨rfl, rfl⟩) (.inr (.inl ⟨_, by assumption, rfl⟩))
        · cases h
      · cases h
    · cases h
  · cases h
theorem Evol.appendB {s s' : St} {e : TypeId} {esz : Nat} {base : Option Addr} {a b c : Nat} {new : List Value} {v : Value} (h : appendB s e esz base a b c new = some (v, s')) : Evol s s' := by
  unfold Dust.appendB at h
  split at h
  · split at h
    · split at h
      · simp only [Option.some.injEq, Prod.mk.injEq] at h; obtain ⟨_, rfl⟩ := h; exact .refl _
      · split at h
        · rename_i hst
          simp only [Option.some.injEq, Prod.mk.injEq] at h; obtain ⟨_, rfl⟩ := h; exact .storeN hst
        · cases h
    · split at h
      · simp only [Option.some.injEq, Prod.mk.injEq] at h; obtain ⟨_, rfl⟩ := h; exact .refl _
      · cases h
  · split at h
    · split at h
      · simp only [Option.some.injEq, Prod.mk.injEq] at h; obtain ⟨_, rfl⟩ := h; exact .new fun _ => .inr ⟨rfl, rfl⟩
      · cases h
    · split at h
      · split at h
        · split at h
          · simp only [Option.some.injEq, Prod.mk.injEq] at h
            obtain ⟨_, rfl⟩ := h
            split
            · exact .trans (.put (fun _ => .inl rfl) (.inl fun _ => rfl)) (.new fun _ => .inr ⟨rfl, rfl⟩)
            · exact .new fun _ => .inr ⟨rfl, rfl⟩
          · cases h
        · cases h
      · cases h
theorem Evol.append {X : Env} {s s' : St} {ts : Array TypeId} {args : List Value} {v : Value} (h : appendA X s ts args = some (v, s')) : Evol s s' := by
  unfold appendA at h
  (repeat' split at h) <;> first | exact .appendB h | cases h
theorem Evol.copy {X : Env} {s s' : St} {ts : Array TypeId} {args : List Value} {v : Value} (h : copyA X s ts args = some (v, s')) : Evol s s' := by
  unfold copyA at h
  (repeat' split at h) <;> first
    | (cases h; done)
    | (rename_i hst; simp only [Option.some.injEq, Prod.mk.injEq] at h; obtain ⟨_, rfl⟩ := h; exact .storeN hst)
    | (simp only [Option.some.injEq, Prod.mk.injEq] at h; obtain ⟨_, rfl⟩ := h; exact .refl _)
theorem Evol.clear {X : Env} {s s' : St} {ts : Array TypeId} {args : List Value} {v : Value} (h : clearA X s ts args = some (v, s')) : Evol s s' := by
  unfold clearA at h
  (repeat' split at h) <;> first
    | (cases h; done)
    | (rename_i hst; simp only [Option.some.injEq, Prod.mk.injEq] at h; obtain ⟨_, rfl⟩ := h; exact .storeN hst)
    | (simp only [Option.some.injEq, Prod.mk.injEq] at h; obtain ⟨_, rfl⟩ := h; exact .refl _)
    | (simp only [Option.some.injEq, Prod.mk.injEq] at h; obtain ⟨_, rfl⟩ := h; exact .put (fun _ => .inr ⟨rfl, rfl⟩) (.inr (.inl ⟨_, by assumption, rfl⟩)))
theorem Evol.delete {X : Env} {s s' : St} {ts : Array TypeId} {args : List Value} {v : Value} (h : deleteA X s ts args = some (v, s')) : Evol s s' := by
  unfold deleteA at h
  (repeat' split at h) <;> first
    | (cases h; done)
    | (simp only [Option.some.injEq, Prod.mk.injEq] at h; obtain ⟨_, rfl⟩ := h; exact .refl _)
    | (simp only [Option.some.injEq, Prod.mk.injEq] at h; obtain ⟨_, rfl⟩ := h; exact .put (fun _ => .inr ⟨rfl, rfl⟩) (.inr (.inl ⟨_, by assumption, rfl⟩)))
end Go.Dust
end
section
/- What a run leaves as0 it was: for calls, rounds, code. -/
namespace Go.Dust
variable {X : Env}

abbrev LvC (call : CallF) : Prop := ∀ f args s, (call f args s).Lv fun p => Evol s p.2
theorem evol_next (s : St) (it : Value) (b : Bool) : (nextA s it b).Lv fun p => Evol s p.2 := by
  have hpick : ∀ r m since seen clock cands i, (∃ o, s.heap.get r = some o ∧ o.isDead = false) → (pickA s r m since seen clock cands i).Lv fun p => Evol s p.2 := by
    intro r m since seen clock cands i hb
    unfold pickA
    split
    · exact .put (fun _ => .inr ⟨rfl, rfl⟩) (.inr (.inl hb))
    · exact .refl _
    · trivial
  unfold nextA
  (repeat' split) <;> first
    | trivial
    | exact .put (fun _ => .inr ⟨rfl, rfl⟩) (.inr (.inl ⟨_, by assumption, rfl⟩))
    | exact .refl _
    | exact hpick _ _ _ _ _ _ _ ⟨_, by assumption, rfl⟩
    | exact fun i _ => hpick _ _ _ _ _ _ _ ⟨_, by assumption, rfl⟩
theorem evol_extern (s : St) (fn : Func) (args : List Value) : (externA s fn args).Lv fun p => Evol s p.2 := by
  unfold externA
  (repeat' split) <;> first
    | trivial
    | exact .new fun _ => .inr ⟨rfl, rfl⟩
theorem evol_callV {call : CallF} {round : RoundF} (hc : LvC call) (hr : LvC round) (s : St) (f : Value) (args : List Value) : (callV X call round s f args).Lv fun p => Evol s p.2 := by
  unfold callV
  (repeat' split) <;> first
    | trivial
    | exact hc _ _ _
    | exact hr _ _ _
theorem evol_option {α : Type} (why : String) (x : Option (α × St)) (s : St) (h : ∀ v s', x = some (v, s') → Evol s s') : (Res.ofOption why x).Lv fun p => Evol s p.2 := by
  cases x with
  | none => trivial
  | some p => exact h p.1 p.2 rfl
theorem evol_effect {call : CallF} {round : RoundF} (hc : LvC call) (hr : LvC round) (s : St) (ρ : Operand → Value) (op : Op) : (effectA X call round s ρ op).Lv fun p => Evol s p.2 := by
  unfold effectA
  split
  · split
    · split
      · rename_i h; exact .storeT h
      · trivial
    · trivial
  · split
    · rename_i h; exact .mapPut h
    · trivial
  · split
    · rename_i h; exact .mapPut h
    · trivial
  · (repeat' split) <;> first | trivial | exact .new fun _ => .inr ⟨rfl, rfl⟩
  · exact evol_next _ _ _
  · split
    · exact evol_callV hc hr _ _ _
    · (repeat' split) <;> first | trivial | exact hc _ _ _
    · exact evol_option _ _ _ fun _ _ h => .append h
    · exact evol_option _ _ _ fun _ _ h => .copy h
    · exact evol_option _ _ _ fun _ _ h => .clear h
    · exact evol_option _ _ _ fun _ _ h => .delete h
    · trivial
  · trivial
theorem alloc_stamps {nm : Nat} {ρ : Operand → Value} {op : Op} {v : Value} {f : Nat → AObj} (h : allocA X nm ρ op = some (v, f)) : Stamps f := by
  unfold allocA at h
  (repeat' split at h) <;> first
    | (cases h; done)
    | (simp only [Option.some.injEq, Prod.mk.injEq] at h; obtain ⟨_, rfl⟩ := h; exact fun _ => .inr ⟨rfl, rfl⟩)
theorem evol_exec {call : CallF} {round : RoundF} (hc : LvC call) (hr : LvC round) (s : St) (ρ : Operand → Value) (op : Op) : (execA X call round s ρ op).Lv fun p => Evol s p.2 := by
  unfold execA
  split
  · split
    · exact .refl _
    · trivial
  · split
    · rename_i h; exact .new (alloc_stamps h)
    · trivial
  · exact evol_effect hc hr _ _ _
theorem evol_ops {call : CallF} {round : RoundF} (hc : LvC call) (hr : LvC round) {ops : Array Oper} : ∀ (rest : List Oper) (a : ACt) (s : St), (runOps X call round ops rest a s).Lv fun p => Evol s p.2
  | [], a, s => .refl s
  | o :: rest, a, s => by
    unfold runOps
    split
    · rw [Res.Lv_bind]
      exact (evol_exec hc hr s a.eval o.op).mono fun p hp => (evol_ops hc hr rest _ p.2).mono fun q hq => hp.trans hq
    · exact evol_ops hc hr rest _ s
theorem evol_execN {call : CallF} {round : RoundF} (hc : LvC call) (hr : LvC round) {nm base : Nat} {s s' : St} {ρ : Operand → Value} {op : Op} {v : Value} (hnm : base ≤ nm) (hbn : base ≤ s.next) (h : execN X call round nm s ρ op = some (v, s')) : EvolF base s s' := by
  unfold execN at h
  split at h
  · split at h
    · simp only [Option.some.injEq, Prod.mk.injEq] at h; obtain ⟨_, rfl⟩ := h; exact .refl _ _
    · cases h
  · split at h
    · rename_i ha
      simp only [Option.some.injEq, Prod.mk.injEq] at h; obtain ⟨_, rfl⟩ := h; exact .put (alloc_stamps ha) (.inr (.inr hnm))
    · cases h
  · split at h
    · rename_i hx
      simp only [Option.some.injEq] at h
      subst h
      have := evol_effect (X := X) hc hr s ρ op
      rw [hx] at this
      exact EvolF.low this hbn
    · cases h
theorem evol_log {call : CallF} {round : RoundF} (hc : LvC call) (hr : LvC round) {ops : Array Oper} {base : Nat} : ∀ (rest : List Oper) (i : Nat) (a : ACt) (s : St) (a' : ACt) (s' : St) (l : List Note),
    base ≤ s.next → logOps X call round ops base rest i a s = some (a', s', l) → EvolF base s s'
  | [], i, a, s, a', s', l, _, h => by
    simp only [logOps, Option.some.injEq, Prod.mk.injEq] at h
    obtain ⟨_, rfl, _⟩ := h
    exact .refl _ _
  | o :: rest, i, a, s, a', s', l, hb, h => by
    unfold logOps at h
    split at h
    · split at h
      · rename_i v s1 hx
        split at h
        · rename_i a2 s2 l2 hl
          simp only [Option.some.injEq, Prod.mk.injEq] at h
          obtain ⟨_, rfl, _⟩ := h
          have h1 := evol_execN (base := base) hc hr (by omega) hb hx
          exact h1.trans (evol_log hc hr rest _ _ _ _ _ _ (Nat.le_trans hb h1.next) hl)
        · cases h
      · cases h
    · split at h
      · rename_i a2 s2 l2 hl
        simp only [Option.some.injEq, Prod.mk.injEq] at h
        obtain ⟨_, rfl, _⟩ := h
        exact evol_log hc hr rest _ _ _ _ _ _ hb hl
      · cases h
theorem Evol.reserve (s : St) (k : Nat) : Evol s { heap := s.heap, next := s.next + 2 * k, clk := s.clk } :=
  ⟨Nat.le_refl _, Nat.le_add_right _ _, fun _ _ h _ _ => h, fun h => h, fun _ o h hd => .inl ⟨o, h, hd, fun h => h⟩⟩
theorem evol_drawn {call : CallF} {round : RoundF} (hc : LvC call) (hr : LvC round) {ops : Array Oper} (a : ACt) (s : St) : (drawnA X call round ops a s).Lv fun p => Evol s p.2 := by
  unfold drawnA
  split
  · trivial
  · split
    · rename_i h
      split
      · exact EvolF.trans (Evol.reserve s ops.size) (evol_log hc hr _ _ _ _ _ _ _ (Nat.le_add_right _ _) h)
      · trivial
    · trivial

theorem evol_all : ∀ n : Nat, (∀ r c a s, (code X n r c a s).Lv fun p => Evol s p.2.2) ∧ LvC (callA X n) ∧ LvC (roundA X n)
  | 0 => ⟨fun _ _ _ _ => trivial, fun _ _ _ => trivial, fun _ _ _ => trivial⟩
  | n + 1 => by
    obtain ⟨h1, h2, h3⟩ := evol_all n
    refine ⟨?_, ?_, ?_⟩
    · intro r c a s
      unfold code
      split
      · exact .refl _
      · exact .refl _
      · rw [Res.Lv_bind]
        split
        · exact (evol_drawn h2 h3 a s).mono fun _ hp => hp
        · exact (evol_ops h2 h3 _ a s).mono fun _ hp => hp
      · rw [Res.Lv_bind]
        refine (h1 _ _ a s).mono fun p hp => ?_
        obtain ⟨e, a', s'⟩ := p
        cases e
        · exact (h1 _ _ a' s').mono fun q hq => hp.trans hq
        · exact hp
        · exact hp
      · split
        · exact h1 _ _ _ _
        · exact h1 _ _ _ _
        · trivial
      · rw [Res.Lv_bind]
        refine (h1 _ _ a s).mono fun p hp => ?_
        obtain ⟨e, a', s'⟩ := p
        cases e
        · exact hp
        · simp only
          split <;> exact hp
        · exact hp
      · rw [Res.Lv_bind]
        refine (h1 _ _ a s).mono fun p hp => ?_
        obtain ⟨e, a', s'⟩ := p
        cases e
        · exact (h1 _ _ a' s').mono fun q hq => hp.trans hq
        · exact hp
        · exact hp
      · exact .refl _
      · exact .refl _
      · split
        · split
          rotate_left
          · trivial
          rw [Res.Lv_bind]
          refine (h2 _ _ _).mono fun p hp => ?_
          obtain ⟨v, s'⟩ := p
          have h0 : Evol s s' := Evol.trans (.new fun _ => .inr ⟨rfl, rfl⟩) hp
          simp only
          split
          · split
            · trivial
            · split
              · exact h0.trans (.put (fun _ => .inr ⟨rfl, rfl⟩) (.inr (.inl ⟨_, by assumption, rfl⟩)))
              · exact h0.trans (.put (fun _ => .inr ⟨rfl, rfl⟩) (.inr (.inl ⟨_, by assumption, rfl⟩)))
              · exact h0.trans (.put (fun _ => .inr ⟨rfl, rfl⟩) (.inr (.inl ⟨_, by assumption, rfl⟩)))
              · trivial
          · trivial
        · trivial
      · trivial
      · trivial
      · trivial
    · intro f args s
      unfold callA
      split
      · split
        · split
          · rw [Res.Lv_bind]
            refine (h1 _ _ _ s).mono fun p hp => ?_
            obtain ⟨e, a', s'⟩ := p
            simp only
            split
            · trivial
            · split
              · exact hp
              · trivial
          · trivial
        · exact evol_extern _ _ _
      · trivial
    · intro l args s
      unfold roundA
      split
      · split
        · rw [Res.Lv_bind]
          refine (h1 _ _ _ s).mono fun p hp => ?_
          obtain ⟨e, a', s'⟩ := p
          simp only
          split
          · split
            · rw [Res.Lv_bind]
              refine (h1 _ _ _ _).mono fun q hq => ?_
              obtain ⟨e2, a2, s2⟩ := q
              have h0 : Evol s s2 := hp.trans (Evol.trans (.put (fun _ => .inr ⟨rfl, rfl⟩) (.inr (.inl ⟨_, by assumption, rfl⟩))) hq)
              simp only
              (repeat' split) <;> first
                | trivial
                | exact h0.trans (.put (fun _ => .inr ⟨rfl, rfl⟩) (.inr (.inl ⟨_, by assumption, rfl⟩)))
            · trivial
          · trivial
        · trivial
      · trivial
end Go.Dust
end
section
/- Code, calls, rounds. -/
namespace Go.Dust
variable {P : Program} {ι ι' : Inj} {s s' : St} {w w' : World}

def AExit.to : AExit → Exit
  | .normal => .normal
  | .exit i => .exit i
  | .ret => .ret

def RoundAt (ι : Inj) : Option Nat → Option Nat → Prop
  | none, none => True
  | some l, some b => ∃ loc, ι l = some loc ∧ loc.blk = b
  | _, _ => False
theorem RoundAt.mono {r r' : Option Nat} (h : RoundAt ι r r') (hle : ι.le ι') : RoundAt ι' r r' := by
  cases r <;> cases r' <;> simp only [RoundAt] at h ⊢
  obtain ⟨loc, h1, h2⟩ := h
  exact ⟨loc, hle _ _ h1, h2⟩

/-! ### Blocks that are nobody's -/
theorem ObjR.not_deferred {X : Env} {l : Loc} {x : Option (List Deferred)} (hw : w.heap[l.blk]? = some (.deferred x)) : ∀ {o : AObj}, o.isDead = false → ObjR X ι w l o → False
  | .cells .., _, h => by obtain ⟨_, _, _, h1, _⟩ := h; rw [hw] at h1; cases h1
  | .map .., _, h => by obtain ⟨_, _, _, _, h1, _⟩ := h; rw [hw] at h1; cases h1
  | .miter none .., _, h => by obtain ⟨_, _, _, _, _, _, h1⟩ := h; rw [hw] at h1; cases h1
  | .miter (some _) .., _, h => by obtain ⟨_, _, _, _, _, h1⟩ := h; rw [hw] at h1; cases h1
  | .siter .., _, h => by have h1 := h.2.2.2; rw [hw] at h1; cases h1
  | .loop .., _, h => by obtain ⟨_, _, _, _, _, _, _, h1, _⟩ := h; rw [hw] at h1; cases h1
  | .dead, h, _ => by cases h
theorem ObjR.lt {X : Env} {l : Loc} : ∀ {o : AObj}, o.isDead = false → ObjR X ι w l o → l.blk < w.heap.size
  | .cells .., _, h => by obtain ⟨_, _, _, h1, _⟩ := h; exact lt_of_heap h1
  | .map .., _, h => by obtain ⟨_, _, _, _, h1, _⟩ := h; exact lt_of_heap h1
  | .miter none .., _, h => by obtain ⟨_, _, _, _, _, _, h1⟩ := h; exact lt_of_heap h1
  | .miter (some _) .., _, h => by obtain ⟨_, _, _, _, _, h1⟩ := h; exact lt_of_heap h1
  | .siter .., _, h => lt_of_heap h.2.2.2
  | .loop .., _, h => by obtain ⟨_, _, _, _, _, _, _, h1, _⟩ := h; exact lt_of_heap h1
  | .dead, h, _ => by cases h
theorem not_own {X : Env} {H : Look} {n : Nat} (hR : R X ι H n w) {D : Nat} {x : Option (List Deferred)} (hw : w.heap[D]? = some (.deferred x)) : ¬ Own ι H D := by
  rintro ⟨b, o, l, h1, h2, h3, h4, rfl⟩
  obtain ⟨l', h5, h6⟩ := hR.obj b o h1 h2
  rw [h3] at h5; cases h5
  exact h6.not_deferred hw h2
theorem R.raw {X : Env} {H : Look} {n : Nat} (hR : R X ι H n w) (x : Obj) : R X ι H n (w.alloc x) := by
  refine ⟨hR.even, hR.odd, hR.fresh, fun b l hb hr => by have := hR.inb b l hb hr; simp; omega, fun b o hb hd => ?_, hR.inj⟩
  obtain ⟨l, h1, h2⟩ := hR.obj b o hb hd
  exact ⟨l, h1, h2.mono (Inj.le_refl _) (heap_alloc_old (h2.lt hd))⟩
theorem Ext.raw {H : Look} {n : Nat} (x : Obj) : Ext ι H n w ι H n (w.alloc x) :=
  ⟨Inj.le_refl _, fun _ h _ => h, Nat.le_refl _, rfl, rfl, rfl, by simp, fun c hc _ => heap_alloc_old hc, fun _ h => .inl h⟩
theorem R.shut {X : Env} {H : Look} {n : Nat} (hR : R X ι H n w) {D : Nat} {x : Option (List Deferred)} (hw : w.heap[D]? = some (.deferred x)) (y : Obj) : R X ι H n (World.setBlk w D y) := by
  refine ⟨hR.even, hR.odd, hR.fresh, fun b l hb hr => by have := hR.inb b l hb hr; simpa using this, fun b o hb hd => ?_, hR.inj⟩
  obtain ⟨l, h1, h2⟩ := hR.obj b o hb hd
  refine ⟨l, h1, h2.mono (Inj.le_refl _) (heap_setBlk_ne fun e => ?_)⟩
  subst e
  exact h2.not_deferred hw hd
theorem Ext.over {H H' : Look} {n n' : Nat} (h : Ext ι H n w ι' H' n' w') {D : Nat} (hD : w.heap.size ≤ D) (y : Obj) : Ext ι H n w ι' H' n' (World.setBlk w' D y) :=
  ⟨h.le, h.new, h.nxt, h.os, h.tape, h.output, by simpa using h.size, fun c hc ho => (heap_setBlk_ne (by omega)).trans (h.keep c hc ho), h.own⟩

/-! ### Marks, with a floor -/
def DL (lo : Nat) (ι : Inj) (H : Look) (w : World) (ds : List Deferred) : Prop :=
  DR ι H w ds ∧ ∀ d ∈ ds, ∀ D, d.target = .collected D → lo ≤ D
theorem DL.ext {lo : Nat} {H H' : Look} {n n' : Nat} {ds : List Deferred} (h : DL lo ι H w ds) (he : Ext ι H n w ι' H' n' w') : DL lo ι' H' w' ds := ⟨h.1.ext he, h.2⟩
theorem DL.nil (lo : Nat) (H : Look) : DL lo ι H w [] := ⟨.nil H, by simp⟩

theorem leaves_marks {fn : Func} {tmps : Array Value} {m lo : Nat} {Rr : Ending → World → Prop} {w0 : World} {ι0 : Inj} {s0 : St} : ∀ (ds : List Deferred) (w : World), RS P ι s w → ES ι0 s0 w0 ι s w → w0.heap.size ≤ lo → DL lo ι s.look w ds →
    (∀ w', RS P ι s w' → ES ι0 s0 w0 ι s w' → LeavesIn (FW none) m P fn tmps Rr [] .returning w') → LeavesInM (FW none) m P fn tmps Rr ds .returning w
  | [], w, hR, hE, _, _, h => h w hR hE
  | d :: ds, w, hR, hE, hlo, hD, h => by
    obtain ⟨D, rfl, h2, h3⟩ := hD.1.mark d (by simp)
    have hloD := hD.2 _ (List.mem_cons_self ..) D rfl
    refine ⟨by simp, .inl ⟨D, World.setBlk w D (.deferred none), rfl, run_takeDeferred h2, ?_⟩⟩
    refine leaves_marks ds _ (hR.shut h2 _) (hE.over (Nat.le_trans hlo hloD) _) hlo ⟨⟨fun e he => ?_, (List.pairwise_cons.1 hD.1.apart).2⟩, fun e he => hD.2 e (List.mem_cons_of_mem _ he)⟩ h
    obtain ⟨E, rfl, k2, k3⟩ := hD.1.mark e (List.mem_cons_of_mem _ he)
    have hne : E ≠ D := fun x => (List.pairwise_cons.1 hD.1.apart).1 _ he D rfl (by rw [x])
    exact ⟨E, rfl, (heap_setBlk_ne hne).trans k2, k3⟩

/-! ### Results -/
theorem results1_sound {fn : Func} {a : ACt} {act : Act} (ha : AR ι a act) (hR : RS P ι s w) : ∀ (rs : List ResultVar) (l : List Value), okResults a.nt rs = true → results1 (env P) s.look a rs = some l →
    ∃ us, ((rs.mapM fun
      | .tmp t => pure (act.tmps.getD t undef)
      | .cell x t => do loadVar t (← asAddr (act.tmps.getD x undef)) : Sem (List Value))).run P w = .ok us w ∧ VRs ι l us
  | [], l, _, h => by
    simp only [results1, Option.some.injEq] at h
    subst h
    exact ⟨[], rfl, .nil⟩
  | .tmp t :: rest, l, hok, h => by
    simp only [okResults, List.all_cons, Bool.and_eq_true, decide_eq_true_eq] at hok
    simp only [results1] at h
    split at h
    · rename_i l' hl'
      cases h
      obtain ⟨us, h1, h2⟩ := results1_sound (fn := fn) ha hR rest l' hok.2 hl'
      refine ⟨_ :: us, ?_, .cons (ha.val t hok.1) h2⟩
      simp only [List.mapM_cons, Sem.run_bind, Sem.run_pure, Result.andThen_ok]
      erw [h1]
      rfl
    · cases h
  | .cell t ty :: rest, l, hok, h => by
    simp only [okResults, List.all_cons, Bool.and_eq_true, decide_eq_true_eq] at hok
    simp only [results1] at h
    split at h
    · rename_i ad had
      have hv := ha.val t hok.1
      rw [had] at hv
      split at h
      · rename_i v l' hv' hl'
        cases h
        obtain ⟨us, h1, h2⟩ := results1_sound (fn := fn) ha hR rest l' hok.2 hl'
        generalize hu : act.tmps.getD t undef = u at hv
        cases hv with
        | ptr hb =>
        obtain ⟨x, g1, g2⟩ := loadT_sound hR hb hv'
        refine ⟨x :: us, ?_, .cons g2 h2⟩
        simp only [List.mapM_cons, Sem.run_bind, hu, asAddr, Sem.run_pure, Result.andThen_ok, g1]
        erw [h1]
        rfl
      · cases h
    · cases h
theorem results_sound {fn : Func} {a : ACt} {act : Act} (ha : AR ι a act) (hR : RS P ι s w) (hok : okResults a.nt fn.results.toList = true) {v : Value} (h : resultsA (env P) s.look fn a = some v) :
    ∃ u, (results fn act.tmps).run P w = .ok u w ∧ VR ι v u := by
  unfold resultsA at h
  have key : ∀ l, results1 (env P) s.look a fn.results.toList = some l → ∃ us, (results fn act.tmps).run P w = .ok (if h : us.toArray.size = 1 then us.toArray[0] else .tuple us.toArray) w ∧ VRs ι l us := by
    intro l hl
    obtain ⟨us, h1, h2⟩ := results1_sound (fn := fn) ha hR _ l hok hl
    refine ⟨us, ?_, h2⟩
    unfold results
    rw [Array.mapM_eq_mapM_toList]
    simp only [map_eq_pure_bind, Sem.run_bind]
    erw [h1]
    rfl
  split at h
  · rename_i v0 hv
    cases h
    obtain ⟨us, h1, h2⟩ := key _ hv
    cases h2 with | cons h2 h3 => cases h3; exact ⟨_, h1, h2⟩
  · rename_i l hne hl
    cases h
    obtain ⟨us, h1, h2⟩ := key _ hl
    have hlen : us.toArray.size ≠ 1 := by
      intro e
      have : l.length = 1 := by rw [h2.length]; simpa using e
      match l, this with
      | [x], _ => exact hne x rfl
    rw [dif_neg hlen] at h1
    exact ⟨_, h1, .tuple (by simpa using h2.length) (fun i x y hx hy => h2.get i (by simpa using hx) (by simpa using hy))⟩
  · cases h
end Go.Dust
end
section
/- A still operation asks only for what it reads. -/
namespace Go.Dust
variable {X : Env} {H H' : Look}

def Keep (H H' : Look) (b : Nat) : Prop := ∀ o, H b = some o → o.isDead = false → H' b = some o

theorem loadN_mono {a : Addr} {k : Nat} {l : List Value} (hr : Keep H H' a.block) (h : loadN H a k = some l) : loadN H' a k = some l := by
  unfold loadN at h ⊢
  split at h
  · rename_i hs hb
    rw [hs, hr _ hb rfl]; exact h
  · cases h
theorem load1_mono {a : Addr} {v : Value} (hr : Keep H H' a.block) (h : load1 H a = some v) : load1 H' a = some v := by
  unfold load1 at h ⊢
  split at h
  · rename_i hs hb
    rw [hs, hr _ hb rfl]; exact h
  · cases h
theorem loadT_mono {t : TypeId} {a : Addr} {v : Value} (hr : Keep H H' a.block) (h : loadT X H t a = some v) : loadT X H' t a = some v := by
  unfold loadT at h ⊢
  cases ht : X.ty t with
  | none => rw [ht] at h; cases h
  | some i =>
    rw [ht] at h
    simp only at h ⊢
    split
    · rename_i e
      rw [if_pos e] at h
      split at h
      · rename_i l hl
        rw [loadN_mono hr hl]; exact h
      · cases h
    · rename_i e
      rw [if_neg e] at h
      exact load1_mono hr h
theorem mapOf_mono {r : Nat} {x : List MapEntry × Nat} (hr : Keep H H' r) (h : mapOf H r = some x) : mapOf H' r = some x := by
  unfold mapOf at h ⊢
  split at h
  · rename_i hb
    rw [hr _ hb rfl]; exact h
  · cases h
theorem isCells_mono {b : Nat} (hr : Keep H H' b) (h : isCells H b = true) : isCells H' b = true := by
  unfold isCells at h ⊢
  split at h
  · rename_i hb
    rw [hr _ hb rfl]
  · cases h
theorem lookupA_mono {t : TypeId} {x k v : Value} {ok : Bool} (hr : ∀ b ∈ nameOf x, Keep H H' b) (h : lookupA X H t x k ok = some v) : lookupA X H' t x k ok = some v := by
  unfold lookupA at h ⊢
  split at h
  · split at h
    · split at h
      · rename_i hk
        rw [if_pos hk]
        split at h
        · exact h
        · rename_i r
          split at h
          · rename_i hm
            rw [mapOf_mono (hr r (by simp [nameOf])) hm]; exact h
          · cases h
        · cases h
      · cases h
    · cases h
  · cases h
theorem lenOfA_mono {t : TypeId} {x v : Value} (hr : ∀ b ∈ nameOf x, Keep H H' b) (h : lenOfA X H t x = some v) : lenOfA X H' t x = some v := by
  unfold lenOfA at h ⊢
  split at h
  · split at h
    · exact h
    · exact h
    · exact h
    · exact h
    · split at h
      · rename_i hm
        rw [mapOf_mono (hr _ (by simp [nameOf])) hm]; exact h
      · cases h
    · cases h
  · cases h
theorem entryA_mono {it v : Value} (hr : ∀ b ∈ nameOf it, Keep H H' b) (hr2 : ∀ (a : Addr) m p q c w, it = .pointer (some a) → H a.block = some (.miter (some m) p q c w) → Keep H H' m) (h : entryA H it = some v) : entryA H' it = some v := by
  unfold entryA at h ⊢
  split at h
  · rename_i a
    split at h
    · rename_i hc
      rw [if_pos hc]
      split at h
      · rename_i m p last rest stepped ver hb
        rw [hr a.block (by simp [nameOf]) _ hb rfl]
        simp only
        split at h
        · rename_i hm
          rw [mapOf_mono (hr2 a _ _ _ _ _ rfl hb) hm]; exact h
        · cases h
      · cases h
    · cases h
  · cases h
theorem eqAt_plain : ∀ (d : Nat) (t : TypeId) (x y : Value), plainV x = true → eqAt X H d t x y = eqAt X H' d t x y
  | 0, _, _, _, _ => rfl
  | d + 1, t, x, y, hx => by
    have ih : (fun t x y => if plainV x then eqAt X H d t x y else none) = (fun t x y => if plainV x then eqAt X H' d t x y else none) := by
      funext t x y
      split
      · exact eqAt_plain d t x y ‹_›
      · rfl
    unfold eqAt
    rw [ih]
    cases X.ty t with
    | none => rfl
    | some i =>
      simp only
      generalize i.desc = D
      cases x <;> first | (cases hx; done) | (split <;> first | rfl | contradiction | simp_all)
theorem eqAt_mono (d : Nat) (t : TypeId) (x y : Value) {r : Bool} (hr : ∀ b ∈ nameOf x ++ nameOf y, Keep H H' b) (h : eqAt X H d t x y = some r) : eqAt X H' d t x y = some r := by
  cases d with
  | zero => exact h
  | succ d =>
    have ih : (fun t x y => if plainV x then eqAt X H d t x y else none) = (fun t x y => if plainV x then eqAt X H' d t x y else none) := by
      funext t x y
      split
      · exact eqAt_plain d t x y ‹_›
      · rfl
    unfold eqAt at h ⊢
    rw [ih] at h
    cases ht : X.ty t with
    | none => rw [ht] at h; cases h
    | some i =>
      rw [ht] at h
      simp only at h ⊢
      split at h
      case h_6 e a b hd =>
        split at h
        · cases h
        · rename_i ei he
          split at h
          · cases h
          · rename_i hz
            split at h
            · rename_i hs1 hs2
              rw [if_neg hz]
              split at h
              · rename_i hb; rw [if_pos hb]; exact h
              · rename_i hb
                rw [if_neg hb]
                split at h
                · rename_i hcc
                  simp only [Bool.and_eq_true] at hcc
                  rw [isCells_mono (hr _ (by simp [nameOf])) hcc.1, isCells_mono (hr _ (by simp [nameOf])) hcc.2]
                  exact h
                · cases h
            · cases h
      all_goals first | exact h | (simp_all; done)
theorem sliceA_mono {t : TypeId} {x v : Value} {lo hi mx : Option Value} (hr : ∀ b ∈ nameOf x, Keep H H' b) (h : sliceA X H t x lo hi mx = some v) : sliceA X H' t x lo hi mx = some v := by
  unfold sliceA at h ⊢
  split at h
  · cases h
  · split at h
    · rename_i i lo' hi' h1 h2 h3
      split at h
      · exact h
      · exact h
      · rename_i e a len cap hd
        have hk := hr a.block (by simp [nameOf])
        split at h
        · split at h
          · rename_i hb1 hb2 hb3
            rw [hb1, hb2, hk _ hb3 rfl]
            exact h
          · cases h
        · cases h
      · rename_i n e a hd
        have hk := hr a.block (by simp [nameOf])
        split at h
        · split at h
          · rename_i hb1 hb2 hb3
            rw [hb1, hb2, hk _ hb3 rfl]
            exact h
          · cases h
        · cases h
      · cases h
    · cases h
theorem binop_mono {op : BinOp} {t : TypeId} {x y v : Value} (hr : (op = .eql ∨ op = .neq) → ∀ b ∈ nameOf x ++ nameOf y, Keep H H' b) (h : binop X H op t x y = some v) : binop X H' op t x y = some v := by
  unfold binop at h ⊢
  split at h
  · exact h
  · exact h
  · split at h
    · split at h
      · rename_i he
        rw [eqAt_mono _ _ _ _ (hr (.inl rfl)) he]; exact h
      · cases h
    · split at h
      · rename_i he
        rw [eqAt_mono _ _ _ _ (hr (.inr rfl)) he]; exact h
      · cases h
    · cases h
theorem still_mono {ρ : Operand → Value} {op : Op} {v : Value} (hr : mayRead op = true → ∀ b ∈ readsOf ρ H op, Keep H H' b) (h : stillA X H ρ op = some v) : stillA X H' ρ op = some v := by
  cases op
  case load t a =>
    have hr := hr rfl
    simp only [stillA, readsOf] at h ⊢ hr
    split at h
    · rename_i ad ha
      rw [ha] at hr
      exact loadT_mono (hr _ (by simp [nameOf])) h
    · cases h
  case binOp op t x y yt =>
    simp only [stillA] at h ⊢
    split at h
    · cases h
    · rename_i hn
      rw [if_neg hn]
      refine binop_mono ?_ h
      rintro (rfl | rfl) <;> exact hr rfl
  case slice t x lo hi mx => exact sliceA_mono (hr rfl) h
  case lookup t x k ok => exact lookupA_mono (hr rfl) h
  case entry it =>
    have hr := hr rfl
    simp only [stillA, readsOf] at h ⊢ hr
    refine entryA_mono (fun b hb => hr b (List.mem_append_left _ hb)) ?_ h
    intro a m p q c w hit hb
    refine hr m (List.mem_append_right _ ?_)
    rw [hit]
    simp only
    rw [hb]
    simp
  case call c =>
    simp only [stillA] at h ⊢
    cases hc : c.callee with
    | builtin b =>
      rw [hc] at h
      cases b <;> simp only at h ⊢ <;> first | exact h | skip
      split at h
      · rename_i t x ht hx
        refine lenOfA_mono ?_ h
        have hr := hr (by simp [mayRead, hc])
        simp only [readsOf, hx] at hr
        exact hr
      · cases h
    | value f => rw [hc] at h; cases h
    | invoke x n => rw [hc] at h; cases h
  all_goals exact h
end Go.Dust
end
section
/- Regions whose order is drawn: what is known of one, by its text and by the run in the text's order. -/
namespace Go.Dust

/-! ### What comes before what -/
def stepB (acc : Array Nat) (o : Oper) : Nat := o.after.foldl (fun s e => if Region.binds .any e then s ||| 2 ^ e.on ||| acc.getD e.on 0 else s) 0
theorem bit_fold (acc : Array Nat) (i : Nat) : ∀ (l : List Edge) (s : Nat), (l.foldl (fun s e => if Region.binds .any e then s ||| 2 ^ e.on ||| acc.getD e.on 0 else s) s).testBit i = true →
    s.testBit i = true ∨ ∃ e ∈ l, Region.binds .any e = true ∧ (e.on = i ∨ (acc.getD e.on 0).testBit i = true)
  | [], s, h => .inl h
  | e :: l, s, h => by
    rw [List.foldl_cons] at h
    rcases bit_fold acc i l _ h with h1 | ⟨e', h1, h2⟩
    · split at h1
      · rename_i hb
        simp only [Nat.testBit_or, Bool.or_eq_true] at h1
        rcases h1 with (h1 | h1) | h1
        · exact .inl h1
        · refine .inr ⟨e, by simp, hb, .inl ?_⟩
          rw [Nat.testBit_two_pow] at h1
          simpa using h1
        · exact .inr ⟨e, by simp, hb, .inr h1⟩
      · exact .inl h1
    · exact .inr ⟨e', List.mem_cons_of_mem _ h1, h2⟩
theorem bit_step {acc : Array Nat} {o : Oper} {i : Nat} (h : (stepB acc o).testBit i = true) : ∃ e ∈ o.after, Region.binds .any e = true ∧ (e.on = i ∨ (acc.getD e.on 0).testBit i = true) := by
  unfold stepB at h
  rw [← Array.foldl_toList] at h
  rcases bit_fold acc i _ _ h with h1 | ⟨e, h1, h2⟩
  · simp at h1
  · exact ⟨e, by simpa using h1, h2⟩
theorem before_fold : ∀ (l : List Oper) (acc : Array Nat), (∀ i, i < acc.size → (l.foldl (fun acc o => acc.push (stepB acc o)) acc).getD i 0 = acc.getD i 0) ∧
    ∀ k o, l[k]? = some o → ∃ acc' : Array Nat, acc'.size = acc.size + k ∧ (∀ i, i < acc'.size → (l.foldl (fun acc o => acc.push (stepB acc o)) acc).getD i 0 = acc'.getD i 0) ∧
      (l.foldl (fun acc o => acc.push (stepB acc o)) acc).getD (acc.size + k) 0 = stepB acc' o
  | [], acc => ⟨fun _ _ => rfl, fun k o h => by simp at h⟩
  | o :: l, acc => by
    obtain ⟨h1, h2⟩ := before_fold l (acc.push (stepB acc o))
    have hget : ∀ i, i < acc.size → (acc.push (stepB acc o)).getD i 0 = acc.getD i 0 := by
      intro i hi
      simp only [Array.getD_eq_getD_getElem?, Array.getElem?_push, if_neg (Nat.ne_of_lt hi)]
    refine ⟨fun i hi => ?_, fun k o' hk => ?_⟩
    · rw [List.foldl_cons, h1 i (by simp; omega), hget i hi]
    · cases k with
      | zero =>
        simp only [List.getElem?_cons_zero, Option.some.injEq] at hk
        subst hk
        refine ⟨acc, rfl, fun i hi => by rw [List.foldl_cons, h1 i (by simp; omega), hget i hi], ?_⟩
        rw [List.foldl_cons, Nat.add_zero, h1 acc.size (by simp)]
        simp
      | succ k =>
        obtain ⟨acc', k1, k2, k3⟩ := h2 k o' (by simpa using hk)
        refine ⟨acc', by rw [k1]; simp; omega, fun i hi => by rw [List.foldl_cons]; exact k2 i hi, ?_⟩
        rw [List.foldl_cons, ← k3]
        congr 1
        simp; omega
abbrev Bit (ops : Array Oper) (j i : Nat) : Prop := ((Region.before ops).getD j 0).testBit i = true
theorem before_spec {ops : Array Oper} {j i : Nat} {o : Oper} (ho : ops[j]? = some o) (h : Bit ops j i) : ∃ e ∈ o.after, Region.binds .any e = true ∧ (e.on = i ∨ (e.on < j ∧ Bit ops e.on i)) := by
  have hb : Region.before ops = ops.toList.foldl (fun acc o => acc.push (stepB acc o)) #[] := by
    unfold Region.before
    rw [← Array.foldl_toList]
    rfl
  obtain ⟨acc', h1, h2, h3⟩ := (before_fold ops.toList #[]).2 j o (by simpa using ho)
  simp only [List.size_toArray, List.length_nil, Nat.zero_add] at h1 h3
  unfold Bit at h
  rw [hb, h3] at h
  obtain ⟨e, he, hbi, h⟩ := bit_step h
  refine ⟨e, he, hbi, ?_⟩
  rcases h with h | h
  · exact .inl h
  · have hlt : e.on < acc'.size := by
      rcases Nat.lt_or_ge e.on acc'.size with h' | h'
      · exact h'
      · rw [Array.getD_eq_getD_getElem?, Array.getElem?_eq_none h'] at h
        simp at h
    refine .inr ⟨by omega, ?_⟩
    unfold Bit
    rw [hb, h2 _ hlt]
    exact h

/-- What is listed holds all that must come before it. -/
def Down (ops : Array Oper) (S : Nat → Prop) : Prop := ∀ j o, S j → ops[j]? = some o → ∀ e ∈ o.after, Region.binds .any e = true → S e.on
theorem Down.bit {ops : Array Oper} {S : Nat → Prop} (hd : Down ops S) : ∀ (j i : Nat), j < ops.size → S j → Bit ops j i → S i := by
  intro j
  induction j using Nat.strongRecOn with
  | _ j ih =>
    intro i hj hs hb
    have ho : ops[j]? = some ops[j] := by simp [hj]
    obtain ⟨e, he, hbi, h⟩ := before_spec ho hb
    have hse := hd j _ hs ho e he hbi
    rcases h with rfl | ⟨h1, h2⟩
    · exact hse
    · exact ih e.on h1 i (by omega) hse h2
theorem Down.ready {ops : Array Oper} {S : Nat → Prop} (hd : Down ops S) {j i : Nat} {o : Oper} (ho : ops[j]? = some o) (hr : ∀ e ∈ o.after, Region.binds .any e = true → S e.on) (hb : Bit ops j i) : S i := by
  obtain ⟨e, he, hbi, h⟩ := before_spec ho hb
  have hj : j < ops.size := (Array.getElem?_eq_some_iff.1 ho).1
  rcases h with rfl | ⟨h1, h2⟩
  · exact hr e he hbi
  · exact hd.bit e.on i (by omega) (hr e he hbi) h2

/-! ### What is checked of pairs -/
theorem confAt_spec {b : Array Nat} {j : Nat} {oj : Oper} : ∀ (rest : List Oper) (i : Nat) (l : List (Nat × Nat)), confAt b j oj rest i = some l → ∀ k o, rest[k]? = some o → i + k < j →
    (b.getD j 0).testBit (i + k) = true ∨ ∃ m, confPair o oj (i + k) j = some m ∧ ∀ p ∈ m, p ∈ l
  | [], i, l, _, k, o, hk, _ => by simp at hk
  | o0 :: rest, i, l, h, k, o, hk, hlt => by
    unfold confAt at h
    rw [if_pos (by omega)] at h
    split at h
    · rename_i hb
      cases k with
      | zero => exact .inl hb
      | succ k =>
        have := confAt_spec rest (i + 1) l h k o (by simpa using hk) (by omega)
        rw [show i + 1 + k = i + (k + 1) from by omega] at this
        exact this
    · split at h
      · rename_i l1 l2 h1 h2
        cases h
        cases k with
        | zero =>
          simp only [List.getElem?_cons_zero, Option.some.injEq] at hk
          subst hk
          exact .inr ⟨l1, h1, fun p hp => List.mem_append_left _ hp⟩
        | succ k =>
          have := confAt_spec rest (i + 1) l2 h2 k o (by simpa using hk) (by omega)
          rw [show i + 1 + k = i + (k + 1) from by omega] at this
          rcases this with h3 | ⟨m, h3, h4⟩
          · exact .inl h3
          · exact .inr ⟨m, h3, fun p hp => List.mem_append_right _ (h4 p hp)⟩
      · cases h
theorem confFrom_spec {b : Array Nat} {all : List Oper} : ∀ (rest : List Oper) (j0 : Nat) (l : List (Nat × Nat)), confFrom b all rest j0 = some l → ∀ k oj, rest[k]? = some oj → ∀ i oi, all[i]? = some oi → i < j0 + k →
    (b.getD (j0 + k) 0).testBit i = true ∨ ∃ m, confPair oi oj i (j0 + k) = some m ∧ ∀ p ∈ m, p ∈ l
  | [], _, _, _, k, oj, hk, _, _, _, _ => by simp at hk
  | o0 :: rest, j0, l, h, k, oj, hk, i, oi, hi, hlt => by
    unfold confFrom at h
    split at h
    · rename_i l1 l2 h1 h2
      cases h
      cases k with
      | zero =>
        simp only [List.getElem?_cons_zero, Option.some.injEq] at hk
        subst hk
        have := confAt_spec all 0 l1 h1 i oi hi (by omega)
        simp only [Nat.zero_add, Nat.add_zero] at this ⊢
        rcases this with h3 | ⟨m, h3, h4⟩
        · exact .inl h3
        · exact .inr ⟨m, h3, fun p hp => List.mem_append_left _ (h4 p hp)⟩
      | succ k =>
        have := confFrom_spec rest (j0 + 1) l2 h2 k oj (by simpa using hk) i oi hi (by omega)
        rw [show j0 + 1 + k = j0 + (k + 1) from by omega] at this
        rcases this with h3 | ⟨m, h3, h4⟩
        · exact .inl h3
        · exact .inr ⟨m, h3, fun p hp => List.mem_append_right _ (h4 p hp)⟩
    · cases h
theorem conf_spec {ops : Array Oper} {l : List (Nat × Nat)} (h : conf ops = some l) {i j : Nat} {oi oj : Oper} (hi : ops[i]? = some oi) (hj : ops[j]? = some oj) (hlt : i < j) :
    Bit ops j i ∨ ∃ m, confPair oi oj i j = some m ∧ ∀ p ∈ m, p ∈ l := by
  have := confFrom_spec ops.toList 0 l h j oj (by simpa using hj) i oi (by simpa using hi) (by omega)
  rw [Nat.zero_add] at this
  exact this
theorem okPairsAt_spec {ops : Array Oper} {b : Array Nat} {oj : Oper} {j : Nat} : ∀ (rest : List Oper) (i : Nat), okPairsAt ops b oj j rest i = true → ∀ k o, rest[k]? = some o → i + k < j → okPair ops b o oj (i + k) j = true
  | [], i, _, k, o, hk, _ => by simp at hk
  | o0 :: rest, i, h, k, o, hk, hlt => by
    unfold okPairsAt at h
    rw [if_pos (by omega), Bool.and_eq_true] at h
    cases k with
    | zero =>
      simp only [List.getElem?_cons_zero, Option.some.injEq] at hk
      subst hk
      exact h.1
    | succ k =>
      have := okPairsAt_spec rest (i + 1) h.2 k o (by simpa using hk) (by omega)
      rw [show i + 1 + k = i + (k + 1) from by omega] at this
      exact this
theorem okPairs_spec {ops : Array Oper} {b : Array Nat} : ∀ (rest : List Oper) (j0 : Nat), okPairs ops b rest j0 = true → ∀ k oj, rest[k]? = some oj → ∀ i oi, ops[i]? = some oi → i < j0 + k → okPair ops b oi oj i (j0 + k) = true
  | [], _, _, k, oj, hk, _, _, _, _ => by simp at hk
  | o0 :: rest, j0, h, k, oj, hk, i, oi, hi, hlt => by
    unfold okPairs at h
    rw [Bool.and_eq_true] at h
    cases k with
    | zero =>
      simp only [List.getElem?_cons_zero, Option.some.injEq] at hk
      subst hk
      have := okPairsAt_spec ops.toList 0 h.1 i oi (by simpa using hi) (by omega)
      simpa using this
    | succ k =>
      have := okPairs_spec rest (j0 + 1) h.2 k oj (by simpa using hk) i oi hi (by omega)
      rw [show j0 + 1 + k = j0 + (k + 1) from by omega] at this
      exact this
theorem okEdges_spec : ∀ (rest : List Oper) (j0 : Nat), okEdgesAll rest j0 = true → ∀ k o, rest[k]? = some o → ∀ e ∈ o.after, Region.binds .any e = true → e.on < j0 + k
  | [], _, _, k, o, hk => by simp at hk
  | o0 :: rest, j0, h, k, o, hk => by
    unfold okEdgesAll at h
    rw [Bool.and_eq_true] at h
    cases k with
    | zero =>
      simp only [List.getElem?_cons_zero, Option.some.injEq] at hk
      subst hk
      intro e he hb
      have h1 := h.1
      unfold okEdges at h1
      rw [Bool.and_eq_true] at h1
      have := List.all_eq_true.1 h1.1 e (by simpa using he)
      rw [hb] at this
      simpa using this
    | succ k =>
      have := okEdges_spec rest (j0 + 1) h.2 k o (by simpa using hk)
      rw [show j0 + 1 + k = j0 + (k + 1) from by omega] at this
      exact this
theorem okDraw_pairs {ops : Array Oper} (h : okDraw ops = true) {i j : Nat} {oi oj : Oper} (hi : ops[i]? = some oi) (hj : ops[j]? = some oj) (hlt : i < j) :
    Bit ops j i ∨ ((∀ d, oi.dst = some d → d ∉ tmpsOf ops oj) ∧ (∀ d, oj.dst = some d → d ∉ tmpsOf ops oi)) := by
  unfold okDraw at h
  rw [Bool.and_eq_true] at h
  have := okPairs_spec ops.toList 0 h.1 j oj (by simpa using hj) i oi hi (by omega)
  rw [Nat.zero_add] at this
  unfold okPair at this
  rw [Bool.or_eq_true] at this
  rcases this with h1 | h1
  · exact .inl h1
  · simp only [Bool.not_eq_true', Bool.or_eq_false_iff] at h1
    refine .inr ⟨fun d hd => ?_, fun d hd => ?_⟩
    · have := h1.1
      rw [hd] at this
      simpa using this
    · have := h1.2
      rw [hd] at this
      simpa using this
theorem okDraw_edges {ops : Array Oper} (h : okDraw ops = true) {j : Nat} {o : Oper} (hj : ops[j]? = some o) : ∀ e ∈ o.after, Region.binds .any e = true → e.on < j := by
  unfold okDraw at h
  rw [Bool.and_eq_true] at h
  have := okEdges_spec ops.toList 0 h.2 j o (by simpa using hj)
  simpa using this
end Go.Dust
end
section
/- The run in the text's order, step by step. -/
namespace Go.Dust
variable {P : Program} {call : CallF} {round : RoundF} {ops : Array Oper} {nt base : Nat} {A : Nat → ACt} {S : Nat → St} {V : Nat → Value}

abbrev RanAt (ops : Array Oper) (A : Nat → ACt) (i : Nat) : Prop := ∃ o, ops[i]? = some o ∧ Region.wanted o (yieldedA ops (A i)) = true
abbrev KindAt (ops : Array Oper) (i : Nat) (k : Kind) : Prop := ∃ o, ops[i]? = some o ∧ kindOf o.op = k

structure Run (P : Program) (call : CallF) (round : RoundF) (ops : Array Oper) (nt base : Nat) (A : Nat → ACt) (S : Nat → St) (V : Nat → Value) : Prop where
  hc : CallOK P call
  hr : RoundOK P round
  lc : LvC call
  lr : LvC round
  okop : ops.toList.all (okOper nt) = true
  nt0 : ∀ i, i ≤ ops.size → (A i).nt = nt
  step : ∀ i o, ops[i]? = some o → A (i + 1) = (A i).put o.dst (V i) ∧
    ((Region.wanted o (yieldedA ops (A i)) = true ∧ execN (env P) call round (base + 2 * i) (S i) (A i).eval o.op = some (V i, S (i + 1))) ∨
     (Region.wanted o (yieldedA ops (A i)) = false ∧ V i = undef ∧ S (i + 1) = S i))
  pairs : ∀ i j oi oj, i < j → ops[i]? = some oi → ops[j]? = some oj → Bit ops j i ∨ ((∀ d, oi.dst = some d → d ∉ tmpsOf ops oj) ∧ (∀ d, oj.dst = some d → d ∉ tmpsOf ops oi))
  edges : ∀ j o, ops[j]? = some o → ∀ e ∈ o.after, Region.binds .any e = true → e.on < j
  conf : ∀ i j oi oj, i < j → ops[i]? = some oi → ops[j]? = some oj → Bit ops j i ∨ ∃ m, confPair oi oj i j = some m ∧
    ∀ x e, (x, e) ∈ m → ∀ ox, ops[x]? = some ox → Region.wanted ox (yieldedA ops (A x)) = true → RanAt ops A e → ∀ b ∈ readsOf (A x).eval (S x).look ox.op, sameObj (S e) (S (e + 1)) b = true
  top : ∀ i, i ≤ ops.size → base + 2 * ops.size ≤ (S i).next
  odd : base % 2 = 1
  low : ∀ i, i < ops.size → ∀ o, (S 0).heap.get (base + 2 * i) = some o → o.isDead = true

namespace Run
variable (h : Run P call round ops nt base A S V)
include h
theorem lt {i : Nat} {o : Oper} (ho : ops[i]? = some o) : i < ops.size := by
  have _ := h
  exact (Array.getElem?_eq_some_iff.1 ho).1
theorem oper {i : Nat} {o : Oper} (ho : ops[i]? = some o) : okOper nt o = true := List.all_eq_true.1 h.okop o (by simpa using Array.mem_of_getElem? ho)

/-- What a step does to the state. -/
theorem cases {i : Nat} {o : Oper} (ho : ops[i]? = some o) :
    (S (i + 1) = S i) ∨
    (kindOf o.op = .alloc ∧ Region.wanted o (yieldedA ops (A i)) = true ∧ ∃ f, allocA (env P) (base + 2 * i) (A i).eval o.op = some (V i, f) ∧ S (i + 1) = (S i).put (base + 2 * i) f) ∨
    (kindOf o.op = .effect ∧ Region.wanted o (yieldedA ops (A i)) = true ∧ effectA (env P) call round (S i) (A i).eval o.op = .ret (V i, S (i + 1)) ∧ Evol (S i) (S (i + 1))) := by
  rcases (h.step i o ho).2 with ⟨h1, h2⟩ | ⟨h1, h2, h3⟩
  · unfold execN at h2
    split at h2
    · split at h2
      · simp only [Option.some.injEq, Prod.mk.injEq] at h2; exact .inl h2.2.symm
      · cases h2
    · split at h2
      · rename_i hk _ v f ha
        simp only [Option.some.injEq, Prod.mk.injEq] at h2
        obtain ⟨rfl, h2⟩ := h2
        exact .inr (.inl ⟨hk, h1, f, ha, h2.symm⟩)
      · cases h2
    · split at h2
      · rename_i hk _ p hx
        simp only [Option.some.injEq] at h2
        subst h2
        have := evol_effect (X := env P) h.lc h.lr (S i) (A i).eval o.op
        rw [hx] at this
        exact .inr (.inr ⟨hk, h1, hx, this⟩)
      · cases h2
  · exact .inl h3
theorem still {i : Nat} {o : Oper} (ho : ops[i]? = some o) (hk : kindOf o.op = .still) : S (i + 1) = S i := by
  rcases h.cases ho with h1 | ⟨h1, _⟩ | ⟨h1, _⟩
  · exact h1
  · rw [hk] at h1; cases h1
  · rw [hk] at h1; cases h1
/-- No live object bears a name that is kept for an operation still to come. -/
theorem reserved : ∀ (k i : Nat), k ≤ i → i < ops.size → ∀ o, (S k).heap.get (base + 2 * i) = some o → o.isDead = true
  | 0, i, _, hi, o, ho => h.low i hi o ho
  | k + 1, i, hk, hi, o, ho => by
    have hok : ops[k]? = some ops[k] := by simp [show k < ops.size by omega]
    have ih := reserved k i (by omega) hi
    rcases h.cases hok with h1 | ⟨_, _, f, _, h1⟩ | ⟨_, _, _, h1⟩
    · rw [h1] at ho; exact ih o ho
    · rw [h1] at ho
      simp only [St.put, PT.get_set] at ho
      rw [if_neg (by omega)] at ho
      exact ih o ho
    · cases hd : o.isDead with
      | true => rfl
      | false =>
        rcases h1.old _ o ho hd with ⟨o0, h2, h3, _⟩ | ⟨h2, _⟩
        · rw [ih o0 h2] at h3; cases h3
        · have := h.top k (by omega); omega
theorem nlive {k i : Nat} (hk : k ≤ i) (hi : i < ops.size) {o : AObj} (ho : (S k).heap.get (base + 2 * i) = some o) (hd : o.isDead = false) : False := by
  rw [h.reserved k i hk hi o ho] at hd; cases hd
theorem next_eq {i : Nat} {o : Oper} (ho : ops[i]? = some o) (hk : kindOf o.op ≠ .effect) : (S (i + 1)).next = (S i).next := by
  rcases h.cases ho with h1 | ⟨_, _, f, _, h1⟩ | ⟨h1, _⟩
  · rw [h1]
  · rw [h1]; rfl
  · exact absurd h1 hk
theorem same {e : Nat} {b : Nat} (hs : sameObj (S e) (S (e + 1)) b = true) {o : Oper} (ho : ops[e]? = some o) (hk : kindOf o.op = .effect) :
    ∃ q, (S e).heap.get b = some q ∧ (S (e + 1)).heap.get b = some q ∧ q.isDead = false := by
  unfold sameObj at hs
  split at hs
  · rename_i q q' h1 h2
    simp only [Bool.and_eq_true, Bool.not_eq_true', beq_iff_eq, decide_eq_true_eq] at hs
    obtain ⟨⟨⟨k1, k2⟩, k3⟩, k4⟩ := hs
    rcases h.cases ho with h3 | ⟨h3, _⟩ | ⟨_, _, _, h3⟩
    · rw [h3] at h2
      rw [h1] at h2; cases h2
      exact ⟨q, h1, by rw [h3]; exact h1, k1⟩
    · rw [hk] at h3; cases h3
    · have := h3.same b q' h2 k2 (by omega)
      rw [h1] at this; cases this
      exact ⟨q, h1, h2, k1⟩
  · cases hs
theorem sameLive {e b : Nat} (hs : sameObj (S e) (S (e + 1)) b = true) : ∃ q, (S e).heap.get b = some q ∧ q.isDead = false := by
  have _ := h
  unfold sameObj at hs
  split at hs
  · rename_i q q' h1 h2
    simp only [Bool.and_eq_true, Bool.not_eq_true', beq_iff_eq, decide_eq_true_eq] at hs
    exact ⟨q, h1, hs.1.1.1⟩
  · cases hs
end Run

/-! ### The last that wrote a temporary -/
def LastW (ops : Array Oper) (a0 : ACt) (V : Nat → Value) (X : Nat → Prop) (t : Tmp) (v : Value) : Prop :=
  (∃ i o, X i ∧ ops[i]? = some o ∧ o.dst = some t ∧ v = V i ∧ ∀ k o', i < k → X k → ops[k]? = some o' → o'.dst ≠ some t) ∨
  ((∀ i o, X i → ops[i]? = some o → o.dst ≠ some t) ∧ v = a0.getT t)
theorem LastW.uniq {a0 : ACt} {X Y : Nat → Prop} {t : Tmp} {v u : Value} (hv : LastW ops a0 V X t v) (hu : LastW ops a0 V Y t u) (hxy : ∀ i o, ops[i]? = some o → o.dst = some t → (X i ↔ Y i)) : v = u := by
  rcases hv with ⟨i, o, h1, h2, h3, rfl, h5⟩ | ⟨h1, rfl⟩
  · rcases hu with ⟨j, o', k1, k2, k3, rfl, k5⟩ | ⟨k1, rfl⟩
    · rcases Nat.lt_trichotomy i j with hlt | rfl | hlt
      · exact absurd k3 (h5 j o' hlt ((hxy j o' k2 k3).2 k1) k2)
      · rfl
      · exact absurd h3 (k5 i o hlt ((hxy i o h2 h3).1 h1) h2)
    · exact absurd h3 (k1 i o ((hxy i o h2 h3).1 h1) h2)
  · rcases hu with ⟨j, o', k1, k2, k3, rfl, k5⟩ | ⟨k1, rfl⟩
    · exact absurd k3 (h1 j o' ((hxy j o' k2 k3).2 k1) k2)
    · rfl
theorem getT_put (a : ACt) (d : Option Tmp) (v : Value) (t : Tmp) : (a.put d v).getT t = if d = some t then v else a.getT t := by
  cases d with
  | none => simp [ACt.put]
  | some d =>
    simp only [ACt.put, ACt.getT, PT.get_set, Option.some.injEq]
    by_cases e : t = d
    · subst e; simp
    · rw [if_neg e, if_neg (Ne.symm e)]
/-- One more, of which no later writer of the same is listed. -/
theorem LastW.add {a0 a : ACt} {X : Nat → Prop} {i : Nat} {o : Oper} (ho : ops[i]? = some o) (hX : ∀ k o', i < k → X k → ops[k]? = some o' → ∀ d, o.dst = some d → o'.dst ≠ some d) {t : Tmp}
    (h : LastW ops a0 V X t (a.getT t)) : LastW ops a0 V (fun k => X k ∨ k = i) t ((a.put o.dst (V i)).getT t) := by
  rw [getT_put]
  by_cases e : o.dst = some t
  · rw [if_pos e]
    refine .inl ⟨i, o, .inr rfl, ho, e, rfl, fun k o' hk hx ho' => ?_⟩
    rcases hx with hx | rfl
    · exact hX k o' hk hx ho' t e
    · omega
  · rw [if_neg e]
    rcases h with ⟨j, o', k1, k2, k3, k4, k5⟩ | ⟨k1, k2⟩
    · refine .inl ⟨j, o', .inl k1, k2, k3, k4, fun k o'' hk hx ho' => ?_⟩
      rcases hx with hx | rfl
      · exact k5 k o'' hk hx ho'
      · rw [ho] at ho'; cases ho'; exact e
    · refine .inr ⟨fun j o' hx ho' => ?_, k2⟩
      rcases hx with hx | rfl
      · exact k1 j o' hx ho'
      · rw [ho] at ho'; cases ho'; exact e
theorem Run.last (h : Run P call round ops nt base A S V) (t : Tmp) : ∀ j, j ≤ ops.size → LastW ops (A 0) V (· < j) t ((A j).getT t)
  | 0, _ => .inr ⟨fun i o hi => by omega, rfl⟩
  | j + 1, hj => by
    have ho : ops[j]? = some ops[j] := by simp [show j < ops.size by omega]
    have := LastW.add (V := V) ho (fun k o' hk hx => by omega) (Run.last h t j (by omega))
    rw [(h.step j _ ho).1]
    rcases this with ⟨i, o, h1, h2⟩ | ⟨h1, h2⟩
    · exact .inl ⟨i, o, by omega, h2.1, h2.2.1, h2.2.2.1, fun k o' hk hx => h2.2.2.2 k o' hk (by omega)⟩
    · exact .inr ⟨fun i o hi => h1 i o (by omega), h2⟩
end Go.Dust
end
section
/- A region whose order is drawn, in whatever order. -/
namespace Go.Dust
variable {P : Program} {call : CallF} {round : RoundF} {ops : Array Oper} {nt base : Nat} {A : Nat → ACt} {S : Nat → St} {V : Nat → Value}
variable {ι0 : Inj} {s0 : St} {w0 : World} {ds : List Deferred}

/-- What holds when X is listed. -/
structure Inv (P : Program) (ops : Array Oper) (nt base : Nat) (A : Nat → ACt) (S : Nat → St) (V : Nat → Value) (ι0 : Inj) (s0 : St) (w0 : World) (ds : List Deferred) (X : Nat → Prop) (act : Act) (w : World) (T : Nat) (ι : Inj) (HX : Look) (aX : ACt) : Prop where
  down : Down ops X
  top : T ≤ ops.size
  eff : ∀ e, KindAt ops e .effect → (X e ↔ e < T)
  all : ∀ i, i < T → KindAt ops i .alloc → X i
  tie : R (env P) ι HX (S T).next w
  sub : ∀ b o, (S T).heap.get b = some o → o.isDead = false → HX b = some o
  made : ∀ i, X i → KindAt ops i .alloc → RanAt ops A i → T ≤ i → ∀ o, (S (i + 1)).heap.get (base + 2 * i) = some o → o.isDead = false → HX (base + 2 * i) = some o
  only : ∀ b o, HX b = some o → o.isDead = false → (∃ o', (S T).heap.get b = some o' ∧ o'.isDead = false) ∨ ∃ i, X i ∧ KindAt ops i .alloc ∧ RanAt ops A i ∧ T ≤ i ∧ b = base + 2 * i
  free : ∀ i, i < ops.size → ¬ X i → ι (base + 2 * i) = none
  ext : Ext ι0 s0.look s0.next w0 ι HX (S T).next w
  tmps : AR ι aX act
  nts : aX.nt = nt
  last : ∀ t, t < nt → LastW ops (A 0) V X t (aX.getT t)
  defs : act.defers = ds

section
variable {X : Nat → Prop} {act : Act} {w : World} {T : Nat} {ι : Inj} {HX : Look} {aX : ACt}
variable (h : Run P call round ops nt base A S V) (v : Inv P ops nt base A S V ι0 s0 w0 ds X act w T ι HX aX)
include h v

/-- The temporaries that an operation at the head names: as0 in the text's order. -/
theorem Inv.getT {i : Nat} {o : Oper} (ho : ops[i]? = some o) (hX : ¬ X i) (hr : ∀ e ∈ o.after, Region.binds .any e = true → X e.on) {t : Tmp} (ht : t ∈ tmpsOf ops o) (htn : t < nt) : (A i).getT t = aX.getT t := by
  refine LastW.uniq (h.last t i (Nat.le_of_lt (h.lt ho))) (v.last t htn) fun k ok hk hd => ?_
  rcases Nat.lt_trichotomy k i with hlt | rfl | hlt
  · refine ⟨fun _ => ?_, fun _ => hlt⟩
    rcases h.pairs k i ok o hlt hk ho with hb | ⟨h1, _⟩
    · exact v.down.ready ho hr hb
    · exact absurd ht (h1 t hd)
  · exact ⟨fun hh => by omega, fun hx => absurd hx hX⟩
  · refine ⟨fun hh => by omega, fun hx => ?_⟩
    rcases h.pairs i k o ok hlt ho hk with hb | ⟨_, h2⟩
    · exact absurd (v.down.bit k i (h.lt hk) hx hb) hX
    · exact absurd ht (h2 t hd)
theorem Inv.vals {i : Nat} {o : Oper} (ho : ops[i]? = some o) (hX : ¬ X i) (hr : ∀ e ∈ o.after, Region.binds .any e = true → X e.on) : ∀ x ∈ o.op.operands.toList, VR ι ((A i).eval x) (act.eval x) := by
  intro x hx
  have hok := h.oper ho
  have hok1 : okOperand nt x = true := by
    unfold okOper at hok
    simp only [Bool.and_eq_true] at hok
    exact List.all_eq_true.1 hok.1.1 x hx
  have h1 : VR ι (aX.eval x) (act.eval x) := v.tmps.eval v.tie.even (by rw [v.nts]; exact hok1)
  have h2 : (A i).eval x = aX.eval x := by
    cases x with
    | tmp t =>
      simp only [okOperand, decide_eq_true_eq] at hok1
      refine v.getT h ho hX hr ?_ hok1
      unfold tmpsOf
      refine List.mem_append_left _ (List.mem_append_left _ (List.mem_filterMap.2 ⟨_, hx, rfl⟩))
    | _ => rfl
  rw [h2]; exact h1
theorem Inv.want {i : Nat} {o : Oper} (ho : ops[i]? = some o) (hX : ¬ X i) (hr : ∀ e ∈ o.after, Region.binds .any e = true → X e.on) : Region.wanted o (yieldedA ops (A i)) = Region.wanted o (yielded ops act.tmps) := by
  rw [← wanted_eq v.tmps (by rw [v.nts]; exact h.okop) o]
  unfold Region.wanted
  cases hg : o.guard with
  | none => rfl
  | some g =>
    obtain ⟨g, want⟩ := g
    simp only
    unfold yieldedA
    cases hog : ops[g]? with
    | none => rfl
    | some og =>
      simp only [Option.bind_some]
      cases hd : og.dst with
      | none => rfl
      | some d =>
        simp only
        have hdn : d < nt := okOper_dst (h.oper hog) d hd
        rw [v.getT h ho hX hr (t := d) ?_ hdn]
        unfold tmpsOf
        refine List.mem_append_left _ (List.mem_append_right _ ?_)
        rw [hg]
        simp only
        rw [hog]
        simp only [hd]
        simp
/-- The temporaries behind it. -/
theorem Inv.after {i : Nat} {o : Oper} (ho : ops[i]? = some o) (hX : ¬ X i) {ι' : Inj} (hle : ι.le ι') {u : Value} (hv : VR ι' (V i) u) :
    AR ι' (aX.put o.dst (V i)) (act.put o.dst u) ∧ (aX.put o.dst (V i)).nt = nt ∧ (∀ t, t < nt → LastW ops (A 0) V (fun k => X k ∨ k = i) t ((aX.put o.dst (V i)).getT t)) ∧ (act.put o.dst u).defers = ds := by
  refine ⟨(v.tmps.mono hle).put (fun x hx => by rw [v.nts]; exact okOper_dst (h.oper ho) x hx) hv, by simpa using v.nts, fun t ht => ?_, by simpa using v.defs⟩
  refine LastW.add ho (fun k o' hk hx ho' d hd hd' => ?_) (v.last t ht)
  rcases h.pairs i k o o' hk ho ho' with hb | ⟨h1, _⟩
  · exact hX (v.down.bit k i (h.lt ho') hx hb)
  · refine h1 d hd ?_
    unfold tmpsOf
    refine List.mem_append_right _ ?_
    rw [hd']; simp
theorem Inv.downTo {i : Nat} {o : Oper} (ho : ops[i]? = some o) (hr : ∀ e ∈ o.after, Region.binds .any e = true → X e.on) : Down ops (fun k => X k ∨ k = i) := by
  have _ := h
  intro j oj hj hoj e he hb
  rcases hj with hj | rfl
  · exact .inl (v.down j oj hj hoj e he hb)
  · rw [ho] at hoj; cases hoj
    exact .inl (hr e he hb)

/-- Nothing but temporaries turned. -/
theorem Inv.plain {i : Nat} {o : Oper} (ho : ops[i]? = some o) (hX : ¬ X i) (hr : ∀ e ∈ o.after, Region.binds .any e = true → X e.on) (hk : kindOf o.op ≠ .effect) (hka : kindOf o.op = .alloc → ¬ RanAt ops A i) {u : Value} (hv : VR ι (V i) u) :
    Inv P ops nt base A S V ι0 s0 w0 ds (fun k => X k ∨ k = i) (act.put o.dst u) w T ι HX (aX.put o.dst (V i)) := by
  obtain ⟨h1, h2, h3, h4⟩ := v.after h ho hX (Inj.le_refl ι) hv
  refine ⟨v.downTo h ho hr, v.top, ?_, fun k hk1 hk2 => .inl (v.all k hk1 hk2), v.tie, v.sub, ?_, ?_, fun k hk1 hk2 => v.free k hk1 fun hx => hk2 (.inl hx), v.ext, h1, h2, h3, h4⟩
  · intro e he
    constructor
    · rintro (hx | rfl)
      · exact (v.eff e he).1 hx
      · obtain ⟨o', ho', hk'⟩ := he
        rw [ho] at ho'; cases ho'; exact absurd hk' hk
    · intro hlt
      exact .inl ((v.eff e he).2 hlt)
  · intro k hx hk1 hk2 hk3 q hq hd
    rcases hx with hx | rfl
    · exact v.made k hx hk1 hk2 hk3 q hq hd
    · obtain ⟨o', ho', hk'⟩ := hk1
      rw [ho] at ho'; cases ho'; exact absurd hk2 (hka hk')
  · intro b q hq hd
    rcases v.only b q hq hd with h5 | ⟨k, k1, k2⟩
    · exact .inl h5
    · exact .inr ⟨k, .inl k1, k2⟩

theorem Ext.alloc {H0 : Look} {n0 : Nat} {N : Nat} (hE : Ext ι0 H0 n0 w0 ι HX N w) {nm ex : Nat} (hfree : ι nm = none) (hnm : n0 ≤ nm) (hlt : nm < N) (x : Obj) (o' : AObj) :
    Ext ι0 H0 n0 w0 (ι.add nm ⟨w.heap.size, 0, ex, false⟩) (upd HX nm o') N (w.alloc x) := by
  have _ := h
  have _ := v
  refine ⟨Inj.le_trans hE.le (Inj.le_add hfree), ?_, hE.nxt, hE.os, hE.tape, hE.output, Nat.le_trans hE.size (by simp), fun c hc ho => (heap_alloc_old (Nat.lt_of_lt_of_le hc hE.size)).trans (hE.keep c hc ho), ?_⟩
  · intro b hb' hb2
    unfold Inj.add
    rw [if_neg (by omega)]
    exact hE.new b hb' hb2
  · rintro c ⟨d, od, ld, h1, h2, h3, h4, h5⟩
    unfold upd at h1
    unfold Inj.add at h3
    split at h1
    · rename_i e
      rw [if_pos e] at h3
      cases h3
      have := hE.size
      exact .inr (by simp only at h5; omega)
    · rename_i e
      rw [if_neg e] at h3
      exact hE.own c ⟨d, od, ld, h1, h2, h3, h4, h5⟩

/-- An operation that made an object. -/
theorem Inv.alloc {i : Nat} {o : Oper} (ho : ops[i]? = some o) (hX : ¬ X i) (hr : ∀ e ∈ o.after, Region.binds .any e = true → X e.on) (hk : kindOf o.op = .alloc) (hb0 : s0.next ≤ base) {f : Nat → AObj} (hS : S (i + 1) = (S i).put (base + 2 * i) f)
    {u : Value} {ex : Nat} {x : Obj} (hv : VR (ι.add (base + 2 * i) ⟨w.heap.size, 0, ex, false⟩) (V i) u)
    (hox : ∀ ver, (f ver).isDead = false ∧ ObjR (env P) (ι.add (base + 2 * i) ⟨w.heap.size, 0, ex, false⟩) (w.alloc x) ⟨w.heap.size, 0, ex, false⟩ (f ver)) :
    Inv P ops nt base A S V ι0 s0 w0 ds (fun k => X k ∨ k = i) (act.put o.dst u) (w.alloc x) T (ι.add (base + 2 * i) ⟨w.heap.size, 0, ex, false⟩) (upd HX (base + 2 * i) (f (S i).clk)) (aX.put o.dst (V i)) := by
  have hi := h.lt ho
  have hfree := v.free i hi hX
  have hT : T ≤ i := Nat.le_of_not_lt fun hlt => hX (v.all i hlt ⟨o, ho, hk⟩)
  have htop := h.top T v.top
  have hodd := h.odd
  obtain ⟨h1, h2, h3, h4⟩ := v.after h ho hX (Inj.le_add hfree) hv
  have hget : (S (i + 1)).heap.get (base + 2 * i) = some (f (S i).clk) := by rw [hS]; simp [St.put, PT.get_set]
  refine ⟨v.downTo h ho hr, v.top, ?_, fun k hk1 hk2 => .inl (v.all k hk1 hk2), R.newAt v.tie (base + 2 * i) (S T).next hfree (by omega) (Nat.le_refl _) v.tie.odd (by omega) x (hox _).2, ?_, ?_, ?_, ?_, Ext.alloc h v v.ext hfree (by omega) (by omega) x _, h1, h2, h3, h4⟩
  · intro e he
    constructor
    · rintro (hx | rfl)
      · exact (v.eff e he).1 hx
      · obtain ⟨o', ho', hk'⟩ := he
        rw [ho] at ho'; cases ho'; rw [hk] at hk'; cases hk'
    · intro hlt
      exact .inl ((v.eff e he).2 hlt)
  · intro b q hq hd
    unfold upd
    split
    · rename_i e
      subst e
      exact (h.nlive hT hi hq hd).elim
    · exact v.sub b q hq hd
  · intro k hx hk1 hk2 hk3 q hq hd
    unfold upd
    by_cases e : k = i
    · subst e
      rw [if_pos rfl]
      rw [hget] at hq; exact hq
    · rw [if_neg (by omega)]
      exact v.made k (hx.resolve_right e) hk1 hk2 hk3 q hq hd
  · intro b q hq hd
    unfold upd at hq
    split at hq
    · rename_i e
      refine .inr ⟨i, .inr rfl, ⟨o, ho, hk⟩, ?_, hT, e⟩
      rcases (h.step i o ho).2 with ⟨k1, _⟩ | ⟨_, _, k3⟩
      · exact ⟨o, ho, k1⟩
      · rw [k3] at hget
        exact (h.nlive (Nat.le_refl i) hi hget (hox _).1).elim
    · rcases v.only b q hq hd with h5 | ⟨k, k1, k2⟩
      · exact .inl h5
      · exact .inr ⟨k, .inl k1, k2⟩
  · intro k hk1 hk2
    unfold Inj.add
    rw [if_neg (fun e => hk2 (.inr (by omega)))]
    exact v.free k hk1 fun hx => hk2 (.inl hx)

/-- What lives where the text has come to e, lives here: no effect between. -/
theorem Inv.upTo {e : Nat} (he : e ≤ ops.size) (hT : T ≤ e) (hno : ∀ k, T ≤ k → k < e → ¬ KindAt ops k .effect) (hal : ∀ k, T ≤ k → k < e → KindAt ops k .alloc → X k) :
    (∀ b o, (S e).heap.get b = some o → o.isDead = false → HX b = some o) ∧ (S e).next = (S T).next := by
  have key : ∀ d, T + d ≤ e → (∀ b o, (S (T + d)).heap.get b = some o → o.isDead = false → HX b = some o) ∧ (S (T + d)).next = (S T).next := by
    intro d
    induction d with
    | zero => exact fun _ => ⟨v.sub, rfl⟩
    | succ d ih =>
      intro hd
      obtain ⟨i1, i2⟩ := ih (by omega)
      have hok : ops[T + d]? = some ops[T + d] := by simp [show T + d < ops.size by omega]
      have hne : kindOf (ops[T + d]).op ≠ .effect := fun hk => hno (T + d) (by omega) (by omega) ⟨_, hok, hk⟩
      refine ⟨fun b o hb hdd => ?_, (h.next_eq hok hne).trans i2⟩
      rcases h.cases hok with h1 | ⟨hk, hw, f, _, h1⟩ | ⟨hk, _⟩
      · rw [show T + (d + 1) = T + d + 1 from rfl, h1] at hb; exact i1 b o hb hdd
      · by_cases eb : b = base + 2 * (T + d)
        · subst eb
          exact v.made (T + d) (hal _ (by omega) (by omega) ⟨_, hok, hk⟩) ⟨_, hok, hk⟩ ⟨_, hok, hw⟩ (by omega) o hb hdd
        · rw [show T + (d + 1) = T + d + 1 from rfl, h1] at hb
          simp only [St.put, PT.get_set] at hb
          rw [if_neg eb] at hb
          exact i1 b o hb hdd
      · exact absurd hk hne
  have := key (e - T) (by omega)
  rw [show T + (e - T) = e from by omega] at this
  exact this
end
end Go.Dust
end
section
/- A region whose order is drawn: each operation, and the whole. -/
namespace Go.Dust
variable {P : Program} {call : CallF} {round : RoundF} {ops : Array Oper} {nt base : Nat} {A : Nat → ACt} {S : Nat → St} {V : Nat → Value}
variable {ι0 : Inj} {s0 : St} {w0 : World} {ds : List Deferred}
section
variable {X : Nat → Prop} {act : Act} {w : World} {T : Nat} {ι : Inj} {HX : Look} {aX : ACt}
variable (h : Run P call round ops nt base A S V) (v : Inv P ops nt base A S V ι0 s0 w0 ds X act w T ι HX aX)
include h v

/-- What stands ahead of an effect that is at the head. -/
theorem Inv.ahead {e : Nat} {o : Oper} (ho : ops[e]? = some o) (hX : ¬ X e) (hr : ∀ x ∈ o.after, Region.binds .any x = true → X x.on) (hk : kindOf o.op = .effect) :
    T ≤ e ∧ (∀ k, T ≤ k → k < e → ¬ KindAt ops k .effect) ∧ (∀ k, k < e → KindAt ops k .alloc → X k) := by
  have hT : T ≤ e := Nat.le_of_not_lt fun hlt => hX ((v.eff e ⟨o, ho, hk⟩).2 hlt)
  refine ⟨hT, fun k h1 h2 hke => ?_, fun k h2 hka => ?_⟩
  · obtain ⟨ok, hok, hkk⟩ := hke
    have hXk : X k := by
      rcases h.conf k e ok o h2 hok ho with hb | ⟨m, hm, _⟩
      · exact v.down.ready ho hr hb
      · unfold confPair at hm; rw [hkk, hk] at hm; cases hm
    have := (v.eff k ⟨ok, hok, hkk⟩).1 hXk
    omega
  · obtain ⟨ok, hok, hkk⟩ := hka
    rcases h.conf k e ok o h2 hok ho with hb | ⟨m, hm, _⟩
    · exact v.down.ready ho hr hb
    · unfold confPair at hm; rw [hkk, hk] at hm; cases hm

theorem Inv.here {e : Nat} {o : Oper} (ho : ops[e]? = some o) (hX : ¬ X e) (hr : ∀ x ∈ o.after, Region.binds .any x = true → X x.on) (hk : kindOf o.op = .effect) :
    (∀ b q, (S e).heap.get b = some q → q.isDead = false → HX b = some q) ∧ (S e).next = (S T).next ∧ RS P ι (S e) w := by
  obtain ⟨h1, h2, h3⟩ := v.ahead h ho hX hr hk
  obtain ⟨h4, h5⟩ := v.upTo h (Nat.le_of_lt (h.lt ho)) h1 h2 (fun k _ hlt => h3 k hlt)
  refine ⟨h4, h5, ?_⟩
  unfold RS
  rw [h5]
  exact v.tie.fewer h4

/-- An effect. -/
theorem Inv.effect {e : Nat} {o : Oper} (ho : ops[e]? = some o) (hX : ¬ X e) (hr : ∀ x ∈ o.after, Region.binds .any x = true → X x.on) (hk : kindOf o.op = .effect)
    {ι' : Inj} {w' : World} {u : Value} (hv : VR ι' (V e) u) (hR : RS P ι' (S (e + 1)) w') (hE : ES ι (S e) w ι' (S (e + 1)) w') :
    ∃ H', Inv P ops nt base A S V ι0 s0 w0 ds (fun k => X k ∨ k = e) (act.put o.dst u) w' (e + 1) ι' H' (aX.put o.dst (V e)) := by
  obtain ⟨a1, a2, a3⟩ := v.ahead h ho hX hr hk
  obtain ⟨sub, nx, hRe⟩ := v.here h ho hX hr hk
  obtain ⟨t1, t2, t3, t4⟩ := v.after h ho hX hE.le hv
  have he := h.lt ho
  have hold : ∀ b q, (S (e + 1)).heap.get b = some q → q.isDead = false → q.isRo = true → ∃ q0, (S e).heap.get b = some q0 ∧ q0.isDead = false := by
    intro b q hq hd hro
    rcases h.cases ho with h1 | ⟨h1, _⟩ | ⟨_, _, _, h1⟩
    · rw [h1] at hq; exact ⟨q, hq, hd⟩
    · rw [hk] at h1; cases h1
    · rcases h1.old b q hq hd with ⟨q0, k1, k2, _⟩ | ⟨_, k2⟩
      · exact ⟨q0, k1, k2⟩
      · rw [hro] at k2; cases k2
  -- what was made ahead of its turn
  let Ex : Nat → Prop := fun b => ∃ i, e < i ∧ X i ∧ KindAt ops i .alloc ∧ RanAt ops A i ∧ b = base + 2 * i
  have hlt : ∀ i, KindAt ops i .alloc → i < ops.size := fun i ⟨oi, hoi, _⟩ => h.lt hoi
  have exNone : ∀ k b q, k ≤ e + 1 → Ex b → (S k).heap.get b = some q → q.isDead = false → False := by
    rintro k b q hk' ⟨i, k1, _, k3, _, rfl⟩ hq hd
    exact h.nlive (by omega) (hlt i k3) hq hd
  have exKeep : ∀ b q l, Ex b → HX b = some q → q.isDead = false → ι b = some l → l.blk < w.heap.size ∧ ¬ Own ι (S e).look l.blk ∧ ObjR (env P) ι w l q ∧ l.ro = l.ro := by
    rintro b q l hex hq hd hl
    obtain ⟨l', g1, g2⟩ := v.tie.obj b q hq hd
    rw [hl] at g1; cases g1
    refine ⟨g2.lt hd, ?_, g2, rfl⟩
    rintro ⟨b1, q1, l1, c1, c2, c3, c4, c5⟩
    have := v.tie.inj b1 b q1 q l1 l (sub b1 q1 c1 c2) c2 hq hd c3 hl c4 c5
    subst this
    exact exNone e b1 q1 (by omega) hex c1 c2
  obtain ⟨H', hin, hout⟩ : ∃ H' : Look, (∀ b, Ex b → H' b = HX b) ∧ (∀ b, ¬ Ex b → H' b = (S (e + 1)).heap.get b) := by
    classical
    exact ⟨fun b => if Ex b then HX b else (S (e + 1)).heap.get b, fun b hb => if_pos hb, fun b hb => if_neg hb⟩
  have hH : ∀ b q, H' b = some q → q.isDead = false → (Ex b ∧ HX b = some q) ∨ (¬ Ex b ∧ (S (e + 1)).heap.get b = some q) := by
    intro b q hq hd
    by_cases hb : Ex b
    · rw [hin b hb] at hq; exact .inl ⟨hb, hq⟩
    · rw [hout b hb] at hq; exact .inr ⟨hb, hq⟩
  have exOwn : ∀ b q l, Ex b → HX b = some q → q.isDead = false → ι b = some l → ¬ Own ι' (S (e + 1)).look l.blk := by
    intro b q l hex hq hd hl ho'
    obtain ⟨g1, g2, _⟩ := exKeep b q l hex hq hd hl
    rcases hE.own _ ho' with h1 | h1
    · exact g2 h1
    · omega
  refine ⟨H', v.downTo h ho hr, he, ?_, ?_, ?_, ?_, ?_, ?_, ?_, ?_, t1, t2, t3, t4⟩
  · intro k hkk
    have := v.eff k hkk
    constructor
    · rintro (hx | rfl)
      · have := this.1 hx; omega
      · omega
    · intro hlt'
      rcases Nat.lt_or_ge k T with h1 | h1
      · exact .inl (this.2 h1)
      · rcases Nat.lt_or_ge k e with h2 | h2
        · exact absurd hkk (a2 k h1 h2)
        · exact .inr (by omega)
  · intro k hlt' hka
    rcases Nat.lt_or_ge k e with h2 | h2
    · exact .inl (a3 k h2 hka)
    · exact .inr (by omega)
  · -- the tie
    refine ⟨hR.even, hR.odd, hR.fresh, hR.inb, fun b q hq hd => ?_, fun b b' q q' l l' hq hd hq' hd' hl hl' hro hblk => ?_⟩
    · rcases hH b q hq hd with ⟨hex, hq⟩ | ⟨_, hq⟩
      · obtain ⟨l, g1, g2⟩ := v.tie.obj b q hq hd
        obtain ⟨k1, k2, _⟩ := exKeep b q l hex hq hd g1
        exact ⟨l, hE.le _ _ g1, g2.mono hE.le (hE.keep _ k1 k2)⟩
      · exact hR.obj b q hq hd
    · rcases hH b q hq hd with ⟨hex, hq⟩ | ⟨hex, hq⟩ <;> rcases hH b' q' hq' hd' with ⟨hex', hq'⟩ | ⟨hex', hq'⟩
      · obtain ⟨l1, g1, _⟩ := v.tie.obj b q hq hd
        obtain ⟨l1', g1', _⟩ := v.tie.obj b' q' hq' hd'
        have e1 := hE.le _ _ g1
        have e1' := hE.le _ _ g1'
        rw [hl] at e1; cases e1
        rw [hl'] at e1'; cases e1'
        exact v.tie.inj b b' q q' l l' hq hd hq' hd' g1 g1' hro hblk
      · exfalso
        obtain ⟨l1, g1, _⟩ := v.tie.obj b q hq hd
        have e1 := hE.le _ _ g1
        rw [hl] at e1; cases e1
        cases hro' : l'.ro with
        | false => exact exOwn b q l hex hq hd g1 ⟨b', q', l', hq', hd', hl', hro', hblk.symm⟩
        | true =>
          obtain ⟨l2, g2, g3⟩ := hR.obj b' q' hq' hd'
          rw [hl'] at g2; cases g2
          have hqro : q'.isRo = true := by
            cases q' with
            | cells c z n el room ro ver =>
              obtain ⟨_, _, _, _, _, g4, _⟩ := g3
              rw [hro'] at g4
              exact g4.symm
            | map => have := g3.1; rw [hro'] at this; cases this
            | miter m => have := g3.1; rw [hro'] at this; cases this
            | siter => have := g3.1; rw [hro'] at this; cases this
            | loop => have := g3.1; rw [hro'] at this; cases this
            | dead => cases hd'
          obtain ⟨q0, k1, k2⟩ := hold b' q' hq' hd' hqro
          have k3 := sub b' q0 k1 k2
          obtain ⟨l3, g5, _⟩ := v.tie.obj b' q0 k3 k2
          have e2 := hE.le _ _ g5
          rw [hl'] at e2; cases e2
          have := v.tie.inj b b' q q0 l l' hq hd k3 k2 g1 g5 hro hblk
          subst this
          exact exNone e b q0 (by omega) hex k1 k2
      · exfalso
        obtain ⟨l1, g1, _⟩ := v.tie.obj b' q' hq' hd'
        have e1 := hE.le _ _ g1
        rw [hl'] at e1; cases e1
        exact exOwn b' q' l' hex' hq' hd' g1 ⟨b, q, l, hq, hd, hl, hro, hblk⟩
      · exact hR.inj b b' q q' l l' hq hd hq' hd' hl hl' hro hblk
  · intro b q hq hd
    rw [hout b fun hex => exNone (e + 1) b q (Nat.le_refl _) hex hq hd]
    exact hq
  · intro i hx hka hra hle q hq hd
    have hxi : X i := hx.resolve_right (by omega)
    rw [hin _ ⟨i, by omega, hxi, hka, hra, rfl⟩]
    exact v.made i hxi hka hra (by omega) q hq hd
  · intro b q hq hd
    rcases hH b q hq hd with ⟨⟨i, k1, k2, k3, k4, k5⟩, _⟩ | ⟨_, hq⟩
    · exact .inr ⟨i, .inl k2, k3, k4, by omega, k5⟩
    · exact .inl ⟨q, hq, hd⟩
  · intro i hi hx
    have htop := h.top e (Nat.le_of_lt he)
    exact hE.new _ (v.free i hi fun hh => hx (.inl hh)) (.inl (by omega))
  · have hn1 := hE.nxt
    have hn0 := v.ext.nxt
    have hb1 := h.top e (Nat.le_of_lt he)
    have own1 : ∀ c, Own ι (S e).look c → Own ι HX c := fun c ⟨b, q, l, h1, h2, h3⟩ => ⟨b, q, l, sub b q h1 h2, h2, h3⟩
    refine ⟨Inj.le_trans v.ext.le hE.le, ?_, by omega, hE.os.trans v.ext.os, hE.tape.trans v.ext.tape, hE.output.trans v.ext.output, Nat.le_trans v.ext.size hE.size, ?_, ?_⟩
    · intro b hb hb2
      exact hE.new b (v.ext.new b hb (by omega)) (by omega)
    · intro c hc hno
      refine (hE.keep c (Nat.lt_of_lt_of_le hc v.ext.size) fun ho' => ?_).trans (v.ext.keep c hc hno)
      rcases v.ext.own c (own1 c ho') with h1 | h1
      · exact hno h1
      · omega
    · rintro c ⟨b, q, l, h1, h2, h3, h4, h5⟩
      have hs := v.ext.size
      rcases hH b q h1 h2 with ⟨hex, hq⟩ | ⟨_, hq⟩
      · obtain ⟨l1, g1, _⟩ := v.tie.obj b q hq h2
        have e1 := hE.le _ _ g1
        rw [h3] at e1; cases e1
        exact v.ext.own c ⟨b, q, l, hq, h2, g1, h4, h5⟩
      · rcases hE.own c ⟨b, q, l, hq, h2, h3, h4, h5⟩ with g1 | g1
        · exact v.ext.own c (own1 c g1)
        · exact .inr (by omega)

/-- What a still operation reads lies as0 it lay in the text's order. -/
theorem Inv.reads {i : Nat} {o : Oper} (ho : ops[i]? = some o) (hX : ¬ X i) (hr : ∀ x ∈ o.after, Region.binds .any x = true → X x.on) (hk : kindOf o.op = .still) (hw : Region.wanted o (yieldedA ops (A i)) = true) (hm : mayRead o.op = true) :
    ∀ b ∈ readsOf (A i).eval (S i).look o.op, Keep (S i).look HX b := by
  intro b hb q hq hd
  have hi := h.lt ho
  rcases Nat.lt_or_ge i T with hlt | hge
  · have key : ∀ d, i + d ≤ T → (S (i + d)).heap.get b = some q := by
      intro d
      induction d with
      | zero => exact fun _ => hq
      | succ d ih =>
        intro hd'
        have i1 := ih (by omega)
        have hT := v.top
        obtain ⟨od, hok⟩ : ∃ od, ops[i + d]? = some od := ⟨ops[i + d], by simp [show i + d < ops.size by omega]⟩
        rcases h.cases hok with h1 | ⟨hka, hwa, f, _, h1⟩ | ⟨hke, hwe, _⟩
        · rw [show i + (d + 1) = i + d + 1 from rfl, h1]; exact i1
        · rw [show i + (d + 1) = i + d + 1 from rfl, h1]
          simp only [St.put, PT.get_set]
          by_cases eb : b = base + 2 * (i + d)
          · subst eb
            exact (h.nlive (Nat.le_refl _) (by omega) i1 hd).elim
          · rw [if_neg eb]; exact i1
        · have hne : i + d ≠ i := fun e0 => by
            rw [e0, ho] at hok; cases hok
            rw [hk] at hke; cases hke
          have hXk : X (i + d) := (v.eff (i + d) ⟨_, hok, hke⟩).2 (by omega)
          rcases h.conf i (i + d) o _ (by omega) ho hok with hbit | ⟨m, hm1, hm2⟩
          · exact absurd (v.down.bit _ _ (by omega) hXk hbit) hX
          · unfold confPair at hm1
            rw [hk, hke, if_pos hm] at hm1
            cases hm1
            obtain ⟨q', k1, k2, _⟩ := h.same (hm2 i (i + d) (by simp) o ho hw ⟨_, hok, hwe⟩ b hb) hok hke
            rw [i1] at k1; cases k1
            exact k2
    have := key (T - i) (by omega)
    rw [show i + (T - i) = T from by omega] at this
    exact v.sub b q this hd
  · have key : ∀ d, T + d ≤ i → ∀ q, (S (T + d)).heap.get b = some q → q.isDead = false → HX b = some q := by
      intro d
      induction d with
      | zero => exact fun _ q h1 h2 => v.sub b q h1 h2
      | succ d ih =>
        intro hd' q hq hd
        have i1 := ih (by omega)
        have hok : ops[T + d]? = some ops[T + d] := by simp [show T + d < ops.size by omega]
        rcases h.cases hok with h1 | ⟨hka, hwa, f, _, h1⟩ | ⟨hke, hwe, _⟩
        · rw [show T + (d + 1) = T + d + 1 from rfl, h1] at hq; exact i1 q hq hd
        · by_cases eb : b = base + 2 * (T + d)
          · have hXk : X (T + d) := by
              rcases h.conf (T + d) i _ o (by omega) hok ho with hbit | ⟨m, hm1, hm2⟩
              · exact v.down.ready ho hr hbit
              · unfold confPair at hm1
                rw [hk, hka] at hm1
                simp only at hm1
                rw [if_pos hm] at hm1
                cases hm1
                obtain ⟨q', k1, k2⟩ := h.sameLive (hm2 i (T + d) (by simp) o ho hw ⟨_, hok, hwa⟩ b hb)
                rw [eb] at k1
                exact (h.nlive (Nat.le_refl _) (by omega) k1 k2).elim
            subst eb
            exact v.made (T + d) hXk ⟨_, hok, hka⟩ ⟨_, hok, hwa⟩ (by omega) q hq hd
          · rw [show T + (d + 1) = T + d + 1 from rfl, h1] at hq
            simp only [St.put, PT.get_set] at hq
            rw [if_neg eb] at hq
            exact i1 q hq hd
        · have hXk : ¬ X (T + d) := fun hx => by have := (v.eff (T + d) ⟨_, hok, hke⟩).1 hx; omega
          rcases h.conf (T + d) i _ o (by omega) hok ho with hbit | ⟨m, hm1, hm2⟩
          · exact absurd (v.down.ready ho hr hbit) hXk
          · unfold confPair at hm1
            rw [hk, hke] at hm1
            simp only at hm1
            rw [if_pos hm] at hm1
            cases hm1
            obtain ⟨q', k1, k2, _⟩ := h.same (hm2 i (T + d) (by simp) o ho hw ⟨_, hok, hwe⟩ b hb) hok hke
            have : q' = q := by
              rw [show T + (d + 1) = T + d + 1 from rfl] at hq
              rw [hq] at k2; exact (Option.some.inj k2).symm
            subst this
            exact i1 q' k1 hd
    have := key (i - T) (by omega) q
    rw [show T + (i - T) = i from by omega] at this
    exact this hq hd
end
end Go.Dust
end
