/- Regions in the order of their text; what a run leaves as it was. -/
import Derived.Test.YthgncfnofmglgaaGreatDk
namespace Go.Dust
variable {P : Program} {ι ι' : Inj} {s s' : St} {w w' : World}

/-! ### Temporaries -/
structure AR (ι : Inj) (a : ACt) (act : Act) : Prop where
  size : act.tmps.size = a.nt
  val : ∀ t, t < a.nt → VR ι (a.getT t) (act.tmps.getD t undef)
theorem AR.mono {a : ACt} {act : Act} (h : AR ι a act) (hle : ι.le ι') : AR ι' a act := ⟨h.size, fun t ht => (h.val t ht).mono hle⟩
theorem AR.put {a : ACt} {act : Act} (h : AR ι a act) {d : Option Tmp} (hd : ∀ x, d = some x → x < a.nt) {v u : Value} (hv : VR ι v u) : AR ι (a.put d v) (act.put d u) := by
  cases d with
  | none => exact h
  | some d =>
    have hdn := hd d rfl
    refine ⟨by simpa [Act.put, ACt.put] using h.size, fun t ht => ?_⟩
    simp only [ACt.put] at ht
    simp only [ACt.put, ACt.getT, Act.put, PT.get_set]
    by_cases e : t = d
    · subst e
      rw [if_pos rfl]
      have : act.tmps.size = a.nt := h.size
      simp [Array.getD_eq_getD_getElem?, this, hdn, hv]
    · rw [if_neg e]
      have := h.val t ht
      simp only [ACt.getT] at this
      simpa [Array.getD_eq_getD_getElem?, Array.getElem?_setIfInBounds, Ne.symm e] using this
theorem AR.eval {a : ACt} {act : Act} (h : AR ι a act) (heven : ∀ b, ι (2 * b) = some ⟨b, 0, 0, true⟩) {x : Operand} (hx : okOperand a.nt x = true) : VR ι (a.eval x) (act.eval x) := by
  cases x with
  | tmp t =>
    simp only [okOperand, decide_eq_true_eq] at hx
    exact h.val t hx
  | const v => exact .closed hx
  | global g =>
    have := VR.ptr (ι := ι) (o := 0) (heven g)
    simpa [ACt.eval, Act.eval] using this
  | func f => exact .func rfl rfl (fun i v u hv => by simp at hv) (fun i v u hv => by simp at hv)
theorem AR.evals {a : ACt} {act : Act} (h : AR ι a act) (heven : ∀ b, ι (2 * b) = some ⟨b, 0, 0, true⟩) {o : Oper} (ho : okOper a.nt o = true) : ∀ x ∈ o.op.operands.toList, VR ι (a.eval x) (act.eval x) := by
  intro x hx
  unfold okOper at ho
  simp only [Bool.and_eq_true] at ho
  exact h.eval heven (List.all_eq_true.1 ho.1.1 x hx)
theorem okOper_dst {nt : Nat} {o : Oper} (ho : okOper nt o = true) : ∀ x, o.dst = some x → x < nt := by
  intro x hx
  unfold okOper at ho
  simp only [Bool.and_eq_true] at ho
  have := ho.1.2
  rw [hx] at this
  simpa using this
theorem okOper_defer {nt : Nat} {o : Oper} (ho : okOper nt o = true) : ∀ c, o.op ≠ .defer c := by
  intro c hc
  unfold okOper at ho
  rw [hc] at ho
  simp at ho
theorem okOper_select {nt : Nat} {o : Oper} (ho : okOper nt o = true) : ∀ cs b, o.op ≠ .select cs b := by
  intro c b hc
  unfold okOper at ho
  rw [hc] at ho
  simp at ho
@[simp] theorem put_nt (a : ACt) (d : Option Tmp) (v : Value) : (a.put d v).nt = a.nt := by cases d <;> rfl

theorem VR.bool_iff {v : Value} {b : Bool} (h : VR ι v (.bool b)) : v = .bool b := by cases h; rfl
theorem yielded_eq {a : ACt} {act : Act} (h : AR ι a act) {ops : Array Oper} (hops : ops.toList.all (okOper a.nt) = true) (j : Nat) : yieldedA ops a j = yielded ops act.tmps j := by
  unfold yieldedA yielded
  cases hj : ops[j]? with
  | none => rfl
  | some o =>
    have hok : okOper a.nt o = true := List.all_eq_true.1 hops o (by simpa using Array.mem_of_getElem? hj)
    simp only [Option.bind_some]
    cases hd : o.dst with
    | none => rfl
    | some d =>
      have hdn := okOper_dst hok d hd
      have hv := h.val d hdn
      have hsz := h.size
      simp only [Option.bind_some]
      have hg : act.tmps[d]? = some (act.tmps.getD d undef) := by
        simp [Array.getD_eq_getD_getElem?, hsz, hdn]
      rw [hg]
      generalize act.tmps.getD d undef = u at hv
      generalize a.getT d = v at hv
      cases v with
      | bool b => rw [hv.bool_eq]
      | _ =>
        cases u with
        | bool b => have := hv.bool_iff; cases this
        | _ => rfl
theorem wanted_eq {a : ACt} {act : Act} (h : AR ι a act) {ops : Array Oper} (hops : ops.toList.all (okOper a.nt) = true) (o : Oper) :
    Region.wanted o (yieldedA ops a) = Region.wanted o (yielded ops act.tmps) := by
  unfold Region.wanted
  cases o.guard with
  | none => rfl
  | some g => simp only [yielded_eq h hops]

/-! ### Marks of loops over functions -/
structure DR (ι : Inj) (H : Look) (w : World) (ds : List Deferred) : Prop where
  mark : ∀ d ∈ ds, ∃ D, d = { target := .collected D, args := #[] } ∧ w.heap[D]? = some (.deferred (some [])) ∧ ¬ Own ι H D
  apart : ds.Pairwise fun d e => ∀ D, d.target = .collected D → e.target ≠ .collected D
theorem DR.ext {H H' : Look} {n n' : Nat} {ds : List Deferred} (h : DR ι H w ds) (he : Ext ι H n w ι' H' n' w') : DR ι' H' w' ds := by
  refine ⟨fun d hd => ?_, h.apart⟩
  obtain ⟨D, h1, h2, h3⟩ := h.mark d hd
  have hlt := lt_of_heap h2
  refine ⟨D, h1, (he.keep D hlt h3).trans h2, fun ho => ?_⟩
  rcases he.own D ho with h4 | h4
  · exact h3 h4
  · omega
theorem DR.nil (H : Look) : DR ι H w [] := ⟨by simp, .nil⟩
@[simp] theorem Act.put_defers' (a : Act) (d : Option Tmp) (v : Value) : (a.put d v).defers = a.defers := by cases d <;> rfl

/-! ### A region in the order of its text -/
section
variable {r : Option Nat} {m : Nat} {call : CallF} {round : RoundF}

theorem exec_sound (hc : CallOK P call) (hr : RoundOK P round) (hR : RS P ι s w) {o : Oper} {ρ : Operand → Value} {act : Act} (hρ : ∀ x ∈ o.op.operands.toList, VR ι (ρ x) (act.eval x)) (hd : ∀ c, o.op ≠ .defer c)
    {Φ : Value × St → Prop} (h : (execA (env P) call round s ρ o.op).All Φ) {K : Act → World → Prop} {Q : Exit → Act → World → Prop} (hk : Onward P ι s w Φ o act K) : o.wpIn (FW r) m P act w K Q := by
  unfold execA at h
  split at h
  · split at h
    · rename_i v hv
      obtain ⟨u, g1, g2⟩ := still_sound (P := P) hR hρ hv
      exact wpIn_value hd g1 (hk v u s ι w h g2 hR Ext.refl)
    · exact False.elim h
  · split at h
    · rename_i v f hv
      obtain ⟨u, x, g1, g2, g3⟩ := alloc_sound (w := w) hR.free hρ hv
      obtain ⟨q1, q2⟩ := RS.new hR x (f := f) (g3 s.clk).2
      exact wpIn_value hd g1 (hk v u _ _ _ h g2 q1 q2)
    · exact False.elim h
  · exact effect_sound hc hr hR hρ hd h hk

theorem runOps_sound (hc : CallOK P call) (hr : RoundOK P round) {ops : Array Oper} {Q : Exit → Act → World → Prop} : ∀ (rest : List Oper) (k : Nat), (∀ j, rest[j]? = ops[k + j]?) →
    ∀ (a : ACt) (s : St) (act : Act) (w : World) (ι : Inj) (Φ : ACt × St → Prop), ops.toList.all (okOper a.nt) = true → (runOps (env P) call round ops rest a s).All Φ → AR ι a act → RS P ι s w →
      (∀ a' s' act' w' ι', Φ (a', s') → AR ι' a' act' → RS P ι' s' w' → ES ι s w ι' s' w' → a'.nt = a.nt → act'.defers = act.defers → Q .normal act' w') →
      wpOpsIn (FW r) m P ops Q (List.range' k rest.length) act w
  | [], k, _, a, s, act, w, ι, Φ, _, h, ha, hR, hQ => hQ a s act w ι h ha hR Ext.refl rfl rfl
  | o :: rest, k, hidx, a, s, act, w, ι, Φ, hok, h, ha, hR, hQ => by
    have ho : ops[k]? = some o := by have := hidx 0; simpa using this.symm
    have hoo : okOper a.nt o = true := List.all_eq_true.1 hok o (by simpa using Array.mem_of_getElem? ho)
    have hrest : ∀ j, rest[j]? = ops[k + 1 + j]? := fun j => by
      have := hidx (j + 1)
      simpa [show k + (j + 1) = k + 1 + j from by omega] using this
    simp only [List.length_cons, List.range'_succ, wpOpsIn, ho]
    unfold runOps at h
    rw [wanted_eq ha hok o] at h
    split at h
    · rename_i hw
      rw [if_pos hw]
      rw [Res.All_bind] at h
      refine exec_sound hc hr hR (ha.evals hR.even hoo) (okOper_defer hoo) h ?_
      intro v u s' ι' w' hΦ hv hR' hE
      refine runOps_sound hc hr rest (k + 1) hrest _ s' _ w' ι' Φ (by simpa using hok) hΦ ((ha.mono hE.le).put (okOper_dst hoo) hv) hR' ?_
      intro a'' s'' act'' w'' ι'' k1 k2 k3 k4 k5 k6
      exact hQ a'' s'' act'' w'' ι'' k1 k2 k3 (Ext.trans hE k4) (by simpa using k5) (by simpa using k6)
    · rename_i hw
      rw [if_neg hw]
      refine ⟨fun _ _ => trivial, ?_⟩
      refine runOps_sound hc hr rest (k + 1) hrest _ s _ w ι Φ (by simpa using hok) h (ha.put (okOper_dst hoo) (VR.undef ι)) hR ?_
      intro a'' s'' act'' w'' ι'' k1 k2 k3 k4 k5 k6
      exact hQ a'' s'' act'' w'' ι'' k1 k2 k3 k4 (by simpa using k5) (by simpa using k6)
end

/-! ### What a run leaves: an object with an old stamp is the old object -/
def AObj.isRo : AObj → Bool
  | .cells _ _ _ _ _ ro _ => ro
  | _ => false
structure EvolF (n0 : Nat) (s s' : St) : Prop where
  clk : s.clk ≤ s'.clk
  next : s.next ≤ s'.next
  same : ∀ b o, s'.heap.get b = some o → o.isDead = false → o.ver < s.clk → s.heap.get b = some o
  vok : (∀ b o, s.heap.get b = some o → o.isDead = false → o.ver < s.clk) → ∀ b o, s'.heap.get b = some o → o.isDead = false → o.ver < s'.clk
  old : ∀ b o, s'.heap.get b = some o → o.isDead = false → (∃ o0, s.heap.get b = some o0 ∧ o0.isDead = false ∧ (o.isRo = true → o0.isRo = true)) ∨ (n0 ≤ b ∧ o.isRo = false)
abbrev Evol (s s' : St) : Prop := EvolF s.next s s'
theorem EvolF.refl (n0 : Nat) (s : St) : EvolF n0 s s := ⟨Nat.le_refl _, Nat.le_refl _, fun _ _ h _ _ => h, fun h => h, fun _ o h hd => .inl ⟨o, h, hd, fun h => h⟩⟩
theorem EvolF.low {n0 n1 : Nat} {s s' : St} (h : EvolF n0 s s') (hle : n1 ≤ n0) : EvolF n1 s s' :=
  ⟨h.clk, h.next, h.same, h.vok, fun b o hb hd => (h.old b o hb hd).imp id fun ⟨h1, h2⟩ => ⟨Nat.le_trans hle h1, h2⟩⟩
theorem EvolF.trans {n0 : Nat} {a b c : St} (h : EvolF n0 a b) (k : EvolF n0 b c) : EvolF n0 a c :=
  ⟨Nat.le_trans h.clk k.clk, Nat.le_trans h.next k.next, fun x o hx hd hv => h.same x o (k.same x o hx hd (Nat.lt_of_lt_of_le hv h.clk)) hd hv, fun hv => k.vok (h.vok hv), fun x o hx hd => by
    rcases k.old x o hx hd with ⟨o1, h1, h2, h3⟩ | h1
    · rcases h.old x o1 h1 h2 with ⟨o0, k1, k2, k3⟩ | ⟨k1, k2⟩
      · exact .inl ⟨o0, k1, k2, fun e => k3 (h3 e)⟩
      · refine .inr ⟨k1, ?_⟩
        cases ho : o.isRo with
        | false => rfl
        | true => rw [h3 ho] at k2; cases k2
    · exact .inr h1⟩
theorem Evol.refl (s : St) : Evol s s := EvolF.refl _ s
theorem Evol.trans {a b c : St} (h : Evol a b) (k : Evol b c) : Evol a c := EvolF.trans h (EvolF.low k h.next)
/-- An object that bears the stamp that it is given. -/
def Stamps (f : Nat → AObj) : Prop := ∀ v, (f v).isDead = true ∨ ((f v).ver = v ∧ (f v).isRo = false)
theorem EvolF.put {n0 : Nat} {s : St} {b : Nat} {f : Nat → AObj} (hf : Stamps f) (hb : (∀ v, (f v).isDead = true) ∨ (∃ o, s.heap.get b = some o ∧ o.isDead = false) ∨ n0 ≤ b) : EvolF n0 s (s.put b f) := by
  refine ⟨Nat.le_succ _, Nat.le_refl _, ?_, ?_, ?_⟩
  · intro c o hc hd hv
    simp only [St.put, PT.get_set] at hc
    split at hc
    · cases hc
      rcases hf s.clk with h | h
      · rw [h] at hd; cases hd
      · omega
    · exact hc
  · intro hv c o hc hd
    simp only [St.put, PT.get_set] at hc ⊢
    split at hc
    · cases hc
      rcases hf s.clk with h | h
      · rw [h] at hd; cases hd
      · omega
    · have := hv c o hc hd; omega
  · intro c o hc hd
    simp only [St.put, PT.get_set] at hc
    split at hc
    · rename_i e
      subst e
      cases hc
      rcases hf s.clk with h | h
      · rw [h] at hd; cases hd
      · rcases hb with hb | ⟨o0, h1, h2⟩ | hb
        · rw [hb] at hd; cases hd
        · exact .inl ⟨o0, h1, h2, fun e => by rw [h.2] at e; cases e⟩
        · exact .inr ⟨hb, h.2⟩
    · exact .inl ⟨o, hc, hd, fun h => h⟩
theorem Evol.put {s : St} {b : Nat} {f : Nat → AObj} (hf : Stamps f) (hb : (∀ v, (f v).isDead = true) ∨ (∃ o, s.heap.get b = some o ∧ o.isDead = false) ∨ s.next ≤ b) : Evol s (s.put b f) := EvolF.put hf hb
theorem Evol.new {s : St} {f : Nat → AObj} (hf : Stamps f) : Evol s (s.new f) := by
  have h := Evol.put (s := s) (b := s.next) hf (.inr (.inr (Nat.le_refl _)))
  exact ⟨h.clk, by simp [St.new], h.same, h.vok, h.old⟩
theorem Evol.storeN {s s' : St} {a : Addr} {vs : List Value} (h : storeN s a vs = some s') : Evol s s' := by
  unfold Dust.storeN at h
  split at h
  · split at h
    · simp only [Option.some.injEq] at h; subst h; exact .put (fun _ => .inr ⟨rfl, rfl⟩) (.inr (.inl ⟨_, by assumption, rfl⟩))
    · cases h
  · cases h
theorem Evol.storeT {X : Env} {s s' : St} {t : TypeId} {a : Addr} {v : Value} (h : storeT X s t a v = some s') : Evol s s' := by
  unfold Dust.storeT at h
  split at h
  · split at h
    · exact .storeN h
    · cases h
  · cases h
theorem Evol.mapPut {X : Env} {s s' : St} {t : TypeId} {m k v : Value} (h : mapPut X s t m k v = some s') : Evol s s' := by
  unfold Dust.mapPut at h
  split at h
  · split at h
    · split at h
      · split at h
        · simp only [Option.some.injEq] at h; subst h; exact .put (fun _ => .inr ⟨rfl, rfl⟩) (.inr (.inl ⟨_, by assumption, rfl⟩))
        · simp only [Option.some.injEq] at h; subst h; exact .put (fun _ => .inr ⟨rfl, rfl⟩) (.inr (.inl ⟨_, by assumption, rfl⟩))
        · cases h
      · cases h
    · cases h
  · cases h
theorem Evol.appendB {s s' : St} {e : TypeId} {esz : Nat} {base : Option Addr} {a b c : Nat} {new : List Value} {v : Value} (h : appendB s e esz base a b c new = some (v, s')) : Evol s s' := by
  unfold Dust.appendB at h
  split at h
  · split at h
    · split at h
      · simp only [Option.some.injEq, Prod.mk.injEq] at h; obtain ⟨_, rfl⟩ := h; exact .refl _
      · split at h
        · rename_i hst
          simp only [Option.some.injEq, Prod.mk.injEq] at h; obtain ⟨_, rfl⟩ := h; exact .storeN hst
        · cases h
    · split at h
      · simp only [Option.some.injEq, Prod.mk.injEq] at h; obtain ⟨_, rfl⟩ := h; exact .refl _
      · cases h
  · split at h
    · split at h
      · simp only [Option.some.injEq, Prod.mk.injEq] at h; obtain ⟨_, rfl⟩ := h; exact .new fun _ => .inr ⟨rfl, rfl⟩
      · cases h
    · split at h
      · split at h
        · split at h
          · simp only [Option.some.injEq, Prod.mk.injEq] at h
            obtain ⟨_, rfl⟩ := h
            split
            · exact .trans (.put (fun _ => .inl rfl) (.inl fun _ => rfl)) (.new fun _ => .inr ⟨rfl, rfl⟩)
            · exact .new fun _ => .inr ⟨rfl, rfl⟩
          · cases h
        · cases h
      · cases h
theorem Evol.append {X : Env} {s s' : St} {ts : Array TypeId} {args : List Value} {v : Value} (h : appendA X s ts args = some (v, s')) : Evol s s' := by
  unfold appendA at h
  (repeat' split at h) <;> first | exact .appendB h | cases h
theorem Evol.copy {X : Env} {s s' : St} {ts : Array TypeId} {args : List Value} {v : Value} (h : copyA X s ts args = some (v, s')) : Evol s s' := by
  unfold copyA at h
  (repeat' split at h) <;> first
    | (cases h; done)
    | (rename_i hst; simp only [Option.some.injEq, Prod.mk.injEq] at h; obtain ⟨_, rfl⟩ := h; exact .storeN hst)
    | (simp only [Option.some.injEq, Prod.mk.injEq] at h; obtain ⟨_, rfl⟩ := h; exact .refl _)
theorem Evol.clear {X : Env} {s s' : St} {ts : Array TypeId} {args : List Value} {v : Value} (h : clearA X s ts args = some (v, s')) : Evol s s' := by
  unfold clearA at h
  (repeat' split at h) <;> first
    | (cases h; done)
    | (rename_i hst; simp only [Option.some.injEq, Prod.mk.injEq] at h; obtain ⟨_, rfl⟩ := h; exact .storeN hst)
    | (simp only [Option.some.injEq, Prod.mk.injEq] at h; obtain ⟨_, rfl⟩ := h; exact .refl _)
    | (simp only [Option.some.injEq, Prod.mk.injEq] at h; obtain ⟨_, rfl⟩ := h; exact .put (fun _ => .inr ⟨rfl, rfl⟩) (.inr (.inl ⟨_, by assumption, rfl⟩)))
theorem Evol.delete {X : Env} {s s' : St} {ts : Array TypeId} {args : List Value} {v : Value} (h : deleteA X s ts args = some (v, s')) : Evol s s' := by
  unfold deleteA at h
  (repeat' split at h) <;> first
    | (cases h; done)
    | (simp only [Option.some.injEq, Prod.mk.injEq] at h; obtain ⟨_, rfl⟩ := h; exact .refl _)
    | (simp only [Option.some.injEq, Prod.mk.injEq] at h; obtain ⟨_, rfl⟩ := h; exact .put (fun _ => .inr ⟨rfl, rfl⟩) (.inr (.inl ⟨_, by assumption, rfl⟩)))
end Go.Dust
