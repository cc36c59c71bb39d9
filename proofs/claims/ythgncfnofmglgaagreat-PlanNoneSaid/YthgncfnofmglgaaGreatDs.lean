/- A region whose order is drawn, in whatever order. -/
import Derived.Test.YthgncfnofmglgaaGreatDr
import Derived.OrdersIn
namespace Go.Dust
variable {P : Program} {call : CallF} {round : RoundF} {ops : Array Oper} {nt base : Nat} {A : Nat → ACt} {S : Nat → St} {V : Nat → Value}
variable {ι0 : Inj} {s0 : St} {w0 : World} {ds : List Deferred}

/-- What holds when X is listed. -/
structure Inv (P : Program) (ops : Array Oper) (nt base : Nat) (A : Nat → ACt) (S : Nat → St) (V : Nat → Value) (ι0 : Inj) (s0 : St) (w0 : World) (ds : List Deferred) (X : Nat → Prop) (act : Act) (w : World) (T : Nat) (ι : Inj) (HX : Look) (aX : ACt) : Prop where
  down : Down ops X
  top : T ≤ ops.size
  eff : ∀ e, KindAt ops e .effect → (X e ↔ e < T)
  all : ∀ i, i < T → KindAt ops i .alloc → X i
  tie : R (env P) ι HX (S T).next w
  sub : ∀ b o, (S T).heap.get b = some o → o.isDead = false → HX b = some o
  made : ∀ i, X i → KindAt ops i .alloc → RanAt ops A i → T ≤ i → ∀ o, (S (i + 1)).heap.get (base + 2 * i) = some o → o.isDead = false → HX (base + 2 * i) = some o
  only : ∀ b o, HX b = some o → o.isDead = false → (∃ o', (S T).heap.get b = some o' ∧ o'.isDead = false) ∨ ∃ i, X i ∧ KindAt ops i .alloc ∧ RanAt ops A i ∧ T ≤ i ∧ b = base + 2 * i
  free : ∀ i, i < ops.size → ¬ X i → ι (base + 2 * i) = none
  ext : Ext ι0 s0.look s0.next w0 ι HX (S T).next w
  tmps : AR ι aX act
  nts : aX.nt = nt
  last : ∀ t, t < nt → LastW ops (A 0) V X t (aX.getT t)
  defs : act.defers = ds

section
variable {X : Nat → Prop} {act : Act} {w : World} {T : Nat} {ι : Inj} {HX : Look} {aX : ACt}
variable (h : Run P call round ops nt base A S V) (v : Inv P ops nt base A S V ι0 s0 w0 ds X act w T ι HX aX)
include h v

/-- The temporaries that an operation at the head names: as in the text's order. -/
theorem Inv.getT {i : Nat} {o : Oper} (ho : ops[i]? = some o) (hX : ¬ X i) (hr : ∀ e ∈ o.after, Region.binds .any e = true → X e.on) {t : Tmp} (ht : t ∈ tmpsOf ops o) (htn : t < nt) : (A i).getT t = aX.getT t := by
  refine LastW.uniq (h.last t i (Nat.le_of_lt (h.lt ho))) (v.last t htn) fun k ok hk hd => ?_
  rcases Nat.lt_trichotomy k i with hlt | rfl | hlt
  · refine ⟨fun _ => ?_, fun _ => hlt⟩
    rcases h.pairs k i ok o hlt hk ho with hb | ⟨h1, _⟩
    · exact v.down.ready ho hr hb
    · exact absurd ht (h1 t hd)
  · exact ⟨fun hh => by omega, fun hx => absurd hx hX⟩
  · refine ⟨fun hh => by omega, fun hx => ?_⟩
    rcases h.pairs i k o ok hlt ho hk with hb | ⟨_, h2⟩
    · exact absurd (v.down.bit k i (h.lt hk) hx hb) hX
    · exact absurd ht (h2 t hd)
theorem Inv.vals {i : Nat} {o : Oper} (ho : ops[i]? = some o) (hX : ¬ X i) (hr : ∀ e ∈ o.after, Region.binds .any e = true → X e.on) : ∀ x ∈ o.op.operands.toList, VR ι ((A i).eval x) (act.eval x) := by
  intro x hx
  have hok := h.oper ho
  have hok1 : okOperand nt x = true := by
    unfold okOper at hok
    simp only [Bool.and_eq_true] at hok
    exact List.all_eq_true.1 hok.1.1 x hx
  have h1 : VR ι (aX.eval x) (act.eval x) := v.tmps.eval v.tie.even (by rw [v.nts]; exact hok1)
  have h2 : (A i).eval x = aX.eval x := by
    cases x with
    | tmp t =>
      simp only [okOperand, decide_eq_true_eq] at hok1
      refine v.getT h ho hX hr ?_ hok1
      unfold tmpsOf
      refine List.mem_append_left _ (List.mem_append_left _ (List.mem_filterMap.2 ⟨_, hx, rfl⟩))
    | _ => rfl
  rw [h2]; exact h1
theorem Inv.want {i : Nat} {o : Oper} (ho : ops[i]? = some o) (hX : ¬ X i) (hr : ∀ e ∈ o.after, Region.binds .any e = true → X e.on) : Region.wanted o (yieldedA ops (A i)) = Region.wanted o (yielded ops act.tmps) := by
  rw [← wanted_eq v.tmps (by rw [v.nts]; exact h.okop) o]
  unfold Region.wanted
  cases hg : o.guard with
  | none => rfl
  | some g =>
    obtain ⟨g, want⟩ := g
    simp only
    unfold yieldedA
    cases hog : ops[g]? with
    | none => rfl
    | some og =>
      simp only [Option.bind_some]
      cases hd : og.dst with
      | none => rfl
      | some d =>
        simp only
        have hdn : d < nt := okOper_dst (h.oper hog) d hd
        rw [v.getT h ho hX hr (t := d) ?_ hdn]
        unfold tmpsOf
        refine List.mem_append_left _ (List.mem_append_right _ ?_)
        rw [hg]
        simp only
        rw [hog]
        simp only [hd]
        simp
/-- The temporaries behind it. -/
theorem Inv.after {i : Nat} {o : Oper} (ho : ops[i]? = some o) (hX : ¬ X i) {ι' : Inj} (hle : ι.le ι') {u : Value} (hv : VR ι' (V i) u) :
    AR ι' (aX.put o.dst (V i)) (act.put o.dst u) ∧ (aX.put o.dst (V i)).nt = nt ∧ (∀ t, t < nt → LastW ops (A 0) V (fun k => X k ∨ k = i) t ((aX.put o.dst (V i)).getT t)) ∧ (act.put o.dst u).defers = ds := by
  refine ⟨(v.tmps.mono hle).put (fun x hx => by rw [v.nts]; exact okOper_dst (h.oper ho) x hx) hv, by simpa using v.nts, fun t ht => ?_, by simpa using v.defs⟩
  refine LastW.add ho (fun k o' hk hx ho' d hd hd' => ?_) (v.last t ht)
  rcases h.pairs i k o o' hk ho ho' with hb | ⟨h1, _⟩
  · exact hX (v.down.bit k i (h.lt ho') hx hb)
  · refine h1 d hd ?_
    unfold tmpsOf
    refine List.mem_append_right _ ?_
    rw [hd']; simp
theorem Inv.downTo {i : Nat} {o : Oper} (ho : ops[i]? = some o) (hr : ∀ e ∈ o.after, Region.binds .any e = true → X e.on) : Down ops (fun k => X k ∨ k = i) := by
  have _ := h
  intro j oj hj hoj e he hb
  rcases hj with hj | rfl
  · exact .inl (v.down j oj hj hoj e he hb)
  · rw [ho] at hoj; cases hoj
    exact .inl (hr e he hb)

/-- Nothing but temporaries turned. -/
theorem Inv.plain {i : Nat} {o : Oper} (ho : ops[i]? = some o) (hX : ¬ X i) (hr : ∀ e ∈ o.after, Region.binds .any e = true → X e.on) (hk : kindOf o.op ≠ .effect) (hka : kindOf o.op = .alloc → ¬ RanAt ops A i) {u : Value} (hv : VR ι (V i) u) :
    Inv P ops nt base A S V ι0 s0 w0 ds (fun k => X k ∨ k = i) (act.put o.dst u) w T ι HX (aX.put o.dst (V i)) := by
  obtain ⟨h1, h2, h3, h4⟩ := v.after h ho hX (Inj.le_refl ι) hv
  refine ⟨v.downTo h ho hr, v.top, ?_, fun k hk1 hk2 => .inl (v.all k hk1 hk2), v.tie, v.sub, ?_, ?_, fun k hk1 hk2 => v.free k hk1 fun hx => hk2 (.inl hx), v.ext, h1, h2, h3, h4⟩
  · intro e he
    constructor
    · rintro (hx | rfl)
      · exact (v.eff e he).1 hx
      · obtain ⟨o', ho', hk'⟩ := he
        rw [ho] at ho'; cases ho'; exact absurd hk' hk
    · intro hlt
      exact .inl ((v.eff e he).2 hlt)
  · intro k hx hk1 hk2 hk3 q hq hd
    rcases hx with hx | rfl
    · exact v.made k hx hk1 hk2 hk3 q hq hd
    · obtain ⟨o', ho', hk'⟩ := hk1
      rw [ho] at ho'; cases ho'; exact absurd hk2 (hka hk')
  · intro b q hq hd
    rcases v.only b q hq hd with h5 | ⟨k, k1, k2⟩
    · exact .inl h5
    · exact .inr ⟨k, .inl k1, k2⟩

theorem Ext.alloc {H0 : Look} {n0 : Nat} {N : Nat} (hE : Ext ι0 H0 n0 w0 ι HX N w) {nm ex : Nat} (hfree : ι nm = none) (hnm : n0 ≤ nm) (hlt : nm < N) (x : Obj) (o' : AObj) :
    Ext ι0 H0 n0 w0 (ι.add nm ⟨w.heap.size, 0, ex, false⟩) (upd HX nm o') N (w.alloc x) := by
  have _ := h
  have _ := v
  refine ⟨Inj.le_trans hE.le (Inj.le_add hfree), ?_, hE.nxt, hE.os, hE.tape, hE.output, Nat.le_trans hE.size (by simp), fun c hc ho => (heap_alloc_old (Nat.lt_of_lt_of_le hc hE.size)).trans (hE.keep c hc ho), ?_⟩
  · intro b hb' hb2
    unfold Inj.add
    rw [if_neg (by omega)]
    exact hE.new b hb' hb2
  · rintro c ⟨d, od, ld, h1, h2, h3, h4, h5⟩
    unfold upd at h1
    unfold Inj.add at h3
    split at h1
    · rename_i e
      rw [if_pos e] at h3
      cases h3
      have := hE.size
      exact .inr (by simp only at h5; omega)
    · rename_i e
      rw [if_neg e] at h3
      exact hE.own c ⟨d, od, ld, h1, h2, h3, h4, h5⟩

/-- An operation that made an object. -/
theorem Inv.alloc {i : Nat} {o : Oper} (ho : ops[i]? = some o) (hX : ¬ X i) (hr : ∀ e ∈ o.after, Region.binds .any e = true → X e.on) (hk : kindOf o.op = .alloc) (hb0 : s0.next ≤ base) {f : Nat → AObj} (hS : S (i + 1) = (S i).put (base + 2 * i) f)
    {u : Value} {ex : Nat} {x : Obj} (hv : VR (ι.add (base + 2 * i) ⟨w.heap.size, 0, ex, false⟩) (V i) u)
    (hox : ∀ ver, (f ver).isDead = false ∧ ObjR (env P) (ι.add (base + 2 * i) ⟨w.heap.size, 0, ex, false⟩) (w.alloc x) ⟨w.heap.size, 0, ex, false⟩ (f ver)) :
    Inv P ops nt base A S V ι0 s0 w0 ds (fun k => X k ∨ k = i) (act.put o.dst u) (w.alloc x) T (ι.add (base + 2 * i) ⟨w.heap.size, 0, ex, false⟩) (upd HX (base + 2 * i) (f (S i).clk)) (aX.put o.dst (V i)) := by
  have hi := h.lt ho
  have hfree := v.free i hi hX
  have hT : T ≤ i := Nat.le_of_not_lt fun hlt => hX (v.all i hlt ⟨o, ho, hk⟩)
  have htop := h.top T v.top
  have hodd := h.odd
  obtain ⟨h1, h2, h3, h4⟩ := v.after h ho hX (Inj.le_add hfree) hv
  have hget : (S (i + 1)).heap.get (base + 2 * i) = some (f (S i).clk) := by rw [hS]; simp [St.put, PT.get_set]
  refine ⟨v.downTo h ho hr, v.top, ?_, fun k hk1 hk2 => .inl (v.all k hk1 hk2), R.newAt v.tie (base + 2 * i) (S T).next hfree (by omega) (Nat.le_refl _) v.tie.odd (by omega) x (hox _).2, ?_, ?_, ?_, ?_, Ext.alloc h v v.ext hfree (by omega) (by omega) x _, h1, h2, h3, h4⟩
  · intro e he
    constructor
    · rintro (hx | rfl)
      · exact (v.eff e he).1 hx
      · obtain ⟨o', ho', hk'⟩ := he
        rw [ho] at ho'; cases ho'; rw [hk] at hk'; cases hk'
    · intro hlt
      exact .inl ((v.eff e he).2 hlt)
  · intro b q hq hd
    unfold upd
    split
    · rename_i e
      subst e
      exact (h.nlive hT hi hq hd).elim
    · exact v.sub b q hq hd
  · intro k hx hk1 hk2 hk3 q hq hd
    unfold upd
    by_cases e : k = i
    · subst e
      rw [if_pos rfl]
      rw [hget] at hq; exact hq
    · rw [if_neg (by omega)]
      exact v.made k (hx.resolve_right e) hk1 hk2 hk3 q hq hd
  · intro b q hq hd
    unfold upd at hq
    split at hq
    · rename_i e
      refine .inr ⟨i, .inr rfl, ⟨o, ho, hk⟩, ?_, hT, e⟩
      rcases (h.step i o ho).2 with ⟨k1, _⟩ | ⟨_, _, k3⟩
      · exact ⟨o, ho, k1⟩
      · rw [k3] at hget
        exact (h.nlive (Nat.le_refl i) hi hget (hox _).1).elim
    · rcases v.only b q hq hd with h5 | ⟨k, k1, k2⟩
      · exact .inl h5
      · exact .inr ⟨k, .inl k1, k2⟩
  · intro k hk1 hk2
    unfold Inj.add
    rw [if_neg (fun e => hk2 (.inr (by omega)))]
    exact v.free k hk1 fun hx => hk2 (.inl hx)

/-- What lives where the text has come to e, lives here: no effect between. -/
theorem Inv.upTo {e : Nat} (he : e ≤ ops.size) (hT : T ≤ e) (hno : ∀ k, T ≤ k → k < e → ¬ KindAt ops k .effect) (hal : ∀ k, T ≤ k → k < e → KindAt ops k .alloc → X k) :
    (∀ b o, (S e).heap.get b = some o → o.isDead = false → HX b = some o) ∧ (S e).next = (S T).next := by
  have key : ∀ d, T + d ≤ e → (∀ b o, (S (T + d)).heap.get b = some o → o.isDead = false → HX b = some o) ∧ (S (T + d)).next = (S T).next := by
    intro d
    induction d with
    | zero => exact fun _ => ⟨v.sub, rfl⟩
    | succ d ih =>
      intro hd
      obtain ⟨i1, i2⟩ := ih (by omega)
      have hok : ops[T + d]? = some ops[T + d] := by simp [show T + d < ops.size by omega]
      have hne : kindOf (ops[T + d]).op ≠ .effect := fun hk => hno (T + d) (by omega) (by omega) ⟨_, hok, hk⟩
      refine ⟨fun b o hb hdd => ?_, (h.next_eq hok hne).trans i2⟩
      rcases h.cases hok with h1 | ⟨hk, hw, f, _, h1⟩ | ⟨hk, _⟩
      · rw [show T + (d + 1) = T + d + 1 from rfl, h1] at hb; exact i1 b o hb hdd
      · by_cases eb : b = base + 2 * (T + d)
        · subst eb
          exact v.made (T + d) (hal _ (by omega) (by omega) ⟨_, hok, hk⟩) ⟨_, hok, hk⟩ ⟨_, hok, hw⟩ (by omega) o hb hdd
        · rw [show T + (d + 1) = T + d + 1 from rfl, h1] at hb
          simp only [St.put, PT.get_set] at hb
          rw [if_neg eb] at hb
          exact i1 b o hb hdd
      · exact absurd hk hne
  have := key (e - T) (by omega)
  rw [show T + (e - T) = e from by omega] at this
  exact this
end
end Go.Dust
