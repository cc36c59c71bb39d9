/- A region whose order is drawn does what D says. -/
import Derived.Test.YthgncfnofmglgaaGreatDt
import Derived.Test.YthgncfnofmglgaaGreatDo
namespace Go.Dust
variable {P : Program} {call : CallF} {round : RoundF} {ops : Array Oper} {nt base : Nat} {A : Nat → ACt} {S : Nat → St} {V : Nat → Value}
variable {ι0 : Inj} {s0 : St} {w0 : World} {ds : List Deferred}

/-- Somehow. -/
def Some' (P : Program) (ops : Array Oper) (nt base : Nat) (A : Nat → ACt) (S : Nat → St) (V : Nat → Value) (ι0 : Inj) (s0 : St) (w0 : World) (ds : List Deferred) (X : Nat → Prop) (act : Act) (w : World) : Prop :=
  ∃ T ι HX aX, Inv P ops nt base A S V ι0 s0 w0 ds X act w T ι HX aX

theorem Inv.step {r : Option Nat} {m : Nat} {Q : Exit → Act → World → Prop} (h : Run P call round ops nt base A S V) (hb0 : s0.next ≤ base) {X : Nat → Prop} {act : Act} {w : World} (hv : Some' P ops nt base A S V ι0 s0 w0 ds X act w)
    {i : Nat} {o : Oper} (ho : ops[i]? = some o) (hX : ¬ X i) (hr : ∀ x ∈ o.after, Region.binds .any x = true → X x.on) {K : Act → World → Prop}
    (hK : ∀ act' w', Some' P ops nt base A S V ι0 s0 w0 ds (fun k => X k ∨ k = i) act' w' → K act' w') : wpOpIn (FW r) m P ops Q i K act w := by
  obtain ⟨T, ι, HX, aX, v⟩ := hv
  have hd := okOper_defer (h.oper ho)
  have hvals := v.vals h ho hX hr
  unfold wpOpIn
  simp only [ho]
  rw [← v.want h ho hX hr]
  rcases (h.step i o ho).2 with ⟨h1, h2⟩ | ⟨h1, h2, h3⟩
  · rw [if_pos h1]
    unfold execN at h2
    split at h2
    · rename_i hk
      split at h2
      · rename_i v0 hs
        simp only [Option.some.injEq, Prod.mk.injEq] at h2
        obtain ⟨rfl, _⟩ := h2
        have hs' := still_mono (H' := HX) (fun hm => v.reads h ho hX hr hk h1 hm) hs
        obtain ⟨u, g1, g2⟩ := still_sound v.tie hvals hs'
        exact wpIn_value hd g1 (hK _ _ ⟨T, ι, HX, _, v.plain h ho hX hr (by rw [hk]; decide) (by rw [hk]; intro e; cases e) g2⟩)
      · cases h2
    · rename_i hk
      split at h2
      · rename_i v0 f ha
        simp only [Option.some.injEq, Prod.mk.injEq] at h2
        obtain ⟨rfl, h2⟩ := h2
        have hfree := v.free i (h.lt ho) hX
        obtain ⟨u, x, g1, g2, g3⟩ := alloc_sound (w := w) hfree hvals ha
        exact wpIn_value hd g1 (hK _ _ ⟨T, _, _, _, v.alloc h ho hX hr hk hb0 h2.symm g2 g3⟩)
      · cases h2
    · rename_i hk
      split at h2
      · rename_i p hx
        simp only [Option.some.injEq] at h2
        subst h2
        obtain ⟨_, _, hR⟩ := v.here h ho hX hr hk
        refine effect_sound h.hc h.hr hR hvals hd (Φ := fun p => p = (V i, S (i + 1))) (by rw [hx]; rfl) ?_
        intro v' u s' ι' w' hp hv' hR' hE'
        cases hp
        obtain ⟨H', hI⟩ := v.effect h ho hX hr hk hv' hR' hE'
        exact hK _ _ ⟨_, _, _, _, hI⟩
      · cases h2
  · rw [if_neg (by rw [h1]; decide)]
    refine ⟨fun _ _ => trivial, hK _ _ ?_⟩
    by_cases hk : kindOf o.op = .effect
    · obtain ⟨_, _, hR⟩ := v.here h ho hX hr hk
      obtain ⟨H', hI⟩ := v.effect h ho hX hr hk (ι' := ι) (w' := w) (u := undef) (by rw [h2]; exact VR.undef _) (by rw [h3]; exact hR) (by rw [h3]; exact Ext.refl)
      exact ⟨_, _, _, _, hI⟩
    · refine ⟨T, ι, HX, _, v.plain h ho hX hr hk ?_ (by rw [h2]; exact VR.undef _)⟩
      rintro _ ⟨o', ho', hw'⟩
      rw [ho] at ho'; cases ho'
      rw [h1] at hw'; cases hw'

/-- All is listed: as in the text's order. -/
theorem Inv.done (h : Run P call round ops nt base A S V) {X : Nat → Prop} {act : Act} {w : World} (hv : Some' P ops nt base A S V ι0 s0 w0 ds X act w) (hall : ∀ i, i < ops.size → X i) :
    ∃ ι, AR ι (A ops.size) act ∧ RS P ι (S ops.size) w ∧ ES ι0 s0 w0 ι (S ops.size) w ∧ act.defers = ds := by
  obtain ⟨T, ι, HX, aX, v⟩ := hv
  obtain ⟨h1, h2⟩ := v.upTo h (Nat.le_refl _) v.top (fun k k1 k2 hk => by have := (v.eff k hk).1 (hall k k2); omega) (fun k _ k2 _ => hall k k2)
  have hnt := h.nt0 ops.size (Nat.le_refl _)
  refine ⟨ι, ⟨by rw [v.tmps.size, v.nts, hnt], fun t ht => ?_⟩, ?_, ?_, v.defs⟩
  · rw [hnt] at ht
    have : (A ops.size).getT t = aX.getT t := LastW.uniq (h.last t _ (Nat.le_refl _)) (v.last t ht) fun k ok hk _ => ⟨fun _ => hall k (h.lt hk), fun _ => h.lt hk⟩
    rw [this]
    exact v.tmps.val t (by rw [v.nts]; exact ht)
  · unfold RS; rw [h2]; exact v.tie.fewer h1
  · unfold ES; rw [h2]
    exact ⟨v.ext.le, v.ext.new, v.ext.nxt, v.ext.os, v.ext.tape, v.ext.output, v.ext.size, v.ext.keep, fun c ⟨b, q, l, k1, k2, k3⟩ => v.ext.own c ⟨b, q, l, h1 b q k1 k2, k2, k3⟩⟩

abbrev Lst (listed : Array Bool) (i : Nat) : Prop := listed.getD i false = true
theorem lst_set {listed : Array Bool} {i : Nat} (hi : i < listed.size) : Lst (listed.setIfInBounds i true) = fun k => Lst listed k ∨ k = i := by
  funext k
  apply propext
  simp only [Lst, Array.getD_eq_getD_getElem?, Array.getElem?_setIfInBounds]
  by_cases e : i = k
  · subst e; simp [hi]
  · rw [if_neg e]
    constructor
    · exact fun h => .inl h
    · rintro (h | h)
      · exact h
      · exact absurd h.symm e

theorem Inv.any {r : Option Nat} {m : Nat} {Q : Exit → Act → World → Prop} (h : Run P call round ops nt base A S V) (hb0 : s0.next ≤ base)
    (hQ : ∀ act' w' ι', AR ι' (A ops.size) act' → RS P ι' (S ops.size) w' → ES ι0 s0 w0 ι' (S ops.size) w' → act'.defers = ds → Q .normal act' w') :
    ∀ (fuel : Nat) (listed : Array Bool) (act : Act) (w : World), listed.size = ops.size → listed.toList.count false ≤ fuel → Some' P ops nt base A S V ι0 s0 w0 ds (Lst listed) act w →
      wpAnyIn (FW r) m P .any ops Q fuel listed act w := by
  have fin : ∀ (listed : Array Bool) (act : Act) (w : World), listed.size = ops.size → Some' P ops nt base A S V ι0 s0 w0 ds (Lst listed) act w → Region.ready .any ops listed = [] → Q .normal act w := by
    intro listed act w hsz hv hnil
    have hall : ∀ i, i < ops.size → Lst listed i := by
      intro i
      induction i using Nat.strongRecOn with
      | _ i ih =>
        intro hi
        cases hl : listed.getD i false with
        | true => exact hl
        | false =>
          exfalso
          have hok : ops[i]? = some ops[i] := by simp [hi]
          have : i ∈ Region.ready .any ops listed := by
            refine mem_ready.2 ⟨?_, _, hok, fun e he hb => ?_⟩
            · have hsi : i < listed.size := by omega
              simp only [Array.getD_eq_getD_getElem?, Array.getElem?_eq_getElem hsi, Option.getD_some] at hl ⊢
              exact hl
            · have hlt := h.edges i _ hok e he hb
              exact ih e.on hlt (by omega)
          rw [hnil] at this
          cases this
    obtain ⟨ι, h1, h2, h3, h4⟩ := Inv.done h hv hall
    exact hQ act w ι h1 h2 h3 h4
  intro fuel
  induction fuel with
  | zero =>
    intro listed act w hsz hc hv
    have hnil : Region.ready .any ops listed = [] := by
      refine List.eq_nil_iff_forall_not_mem.2 fun i hi => ?_
      obtain ⟨h1, o, ho, _⟩ := mem_ready.1 hi
      have hsi : i < listed.size := by have := h.lt ho; omega
      have : false ∈ listed.toList := by
        simp only [Array.getD_eq_getD_getElem?, Array.getElem?_eq_getElem hsi, Option.getD_some] at h1
        rw [← h1]
        simp
      have := List.count_pos_iff.2 this
      omega
    exact ⟨hnil, fin listed act w hsz hv hnil⟩
  | succ fuel ih =>
    intro listed act w hsz hc hv
    refine ⟨fun hnil => fin listed act w hsz hv hnil, fun i hi => ?_⟩
    obtain ⟨h1, o, ho, hr⟩ := mem_ready.1 hi
    have hsi : i < listed.size := by have := h.lt ho; omega
    have hli : listed[i] = false := by simpa only [Array.getD_eq_getD_getElem?, Array.getElem?_eq_getElem hsi, Option.getD_some] using h1
    have hX : ¬ Lst listed i := by
      simp only [Lst, Array.getD_eq_getD_getElem?, Array.getElem?_eq_getElem hsi, Option.getD_some, hli]
      decide
    refine Inv.step h hb0 hv ho hX hr ?_
    intro act' w' hv'
    rw [← lst_set hsi] at hv'
    refine ih _ act' w' (by simpa using hsz) ?_ hv'
    rw [Array.toList_setIfInBounds, List.count_set (by simpa using hsi)]
    rw [if_pos (by simpa using hli), if_neg (by decide)]
    omega

/-! ### D's run of it, as a run -/
noncomputable def stepN (X : Env) (call : CallF) (round : RoundF) (ops : Array Oper) (base i : Nat) (p : ACt × St) : ACt × St × Value :=
  match ops[i]? with
  | some o => if Region.wanted o (yieldedA ops p.1) then (match execN X call round (base + 2 * i) p.2 p.1.eval o.op with
      | some (v, s') => (p.1.put o.dst v, s', v)
      | none => (p.1, p.2, undef)) else (p.1.put o.dst undef, p.2, undef)
  | none => (p.1, p.2, undef)
noncomputable def tr (X : Env) (call : CallF) (round : RoundF) (ops : Array Oper) (base : Nat) (a : ACt) (s : St) : Nat → ACt × St
  | 0 => (a, s)
  | i + 1 => ((stepN X call round ops base i (tr X call round ops base a s i)).1, (stepN X call round ops base i (tr X call round ops base a s i)).2.1)

theorem log_spec {X : Env} {a : ACt} {s : St} : ∀ (rest : List Oper) (k : Nat) (a' : ACt) (s' : St) (l : List Note), (∀ j, rest[j]? = ops[k + j]?) → logOps X call round ops base rest k (tr X call round ops base a s k).1 (tr X call round ops base a s k).2 = some (a', s', l) →
    tr X call round ops base a s (k + rest.length) = (a', s') ∧
    ∀ j o, rest[j]? = some o → ∃ nt, l[j]? = some nt ∧
      ((Region.wanted o (yieldedA ops (tr X call round ops base a s (k + j)).1) = true ∧
        execN X call round (base + 2 * (k + j)) (tr X call round ops base a s (k + j)).2 (tr X call round ops base a s (k + j)).1.eval o.op = some ((stepN X call round ops base (k + j) (tr X call round ops base a s (k + j))).2.2, (tr X call round ops base a s (k + j + 1)).2) ∧
        (tr X call round ops base a s (k + j + 1)).1 = (tr X call round ops base a s (k + j)).1.put o.dst (stepN X call round ops base (k + j) (tr X call round ops base a s (k + j))).2.2 ∧
        nt = { ran := true, reads := readsOf (tr X call round ops base a s (k + j)).1.eval (tr X call round ops base a s (k + j)).2.look o.op, pre := (tr X call round ops base a s (k + j)).2, post := (tr X call round ops base a s (k + j + 1)).2 }) ∨
       (Region.wanted o (yieldedA ops (tr X call round ops base a s (k + j)).1) = false ∧ (stepN X call round ops base (k + j) (tr X call round ops base a s (k + j))).2.2 = undef ∧ (tr X call round ops base a s (k + j + 1)).2 = (tr X call round ops base a s (k + j)).2 ∧
        (tr X call round ops base a s (k + j + 1)).1 = (tr X call round ops base a s (k + j)).1.put o.dst undef ∧ nt.ran = false))
  | [], k, a', s', l, _, h => by
    simp only [logOps, Option.some.injEq, Prod.mk.injEq] at h
    obtain ⟨h1, h2, _⟩ := h
    refine ⟨?_, fun j o hj => by simp at hj⟩
    rw [← h1, ← h2]; rfl
  | o :: rest, k, a', s', l, hidx, h => by
    have ho : ops[k]? = some o := by have := hidx 0; simpa using this.symm
    have hrest : ∀ j, rest[j]? = ops[k + 1 + j]? := fun j => by
      have := hidx (j + 1)
      simpa [show k + (j + 1) = k + 1 + j from by omega] using this
    unfold logOps at h
    have htr : tr X call round ops base a s (k + 1) = ((stepN X call round ops base k (tr X call round ops base a s k)).1, (stepN X call round ops base k (tr X call round ops base a s k)).2.1) := rfl
    split at h
    · rename_i hw
      split at h
      · rename_i v s1 hx
        have hst : stepN X call round ops base k (tr X call round ops base a s k) = ((tr X call round ops base a s k).1.put o.dst v, s1, v) := by
          unfold stepN
          rw [ho]
          simp only
          rw [if_pos hw, hx]
        rw [hst] at htr
        split at h
        · rename_i a2 s2 l2 hl
          simp only [Option.some.injEq, Prod.mk.injEq] at h
          obtain ⟨rfl, rfl, rfl⟩ := h
          obtain ⟨g1, g2⟩ := log_spec rest (k + 1) a2 s2 l2 hrest (by rw [htr]; exact hl)
          refine ⟨by rw [← g1]; congr 1; simp; omega, fun j o' hj => ?_⟩
          cases j with
          | zero =>
            simp only [List.getElem?_cons_zero, Option.some.injEq] at hj
            subst hj
            refine ⟨_, rfl, .inl ⟨hw, ?_, ?_, ?_⟩⟩
            · simp only [Nat.add_zero]; rw [hst, htr]; exact hx
            · simp only [Nat.add_zero]; rw [hst, htr]
            · simp only [Nat.add_zero]; rw [htr]
          | succ j =>
            have := g2 j o' (by simpa using hj)
            rw [show k + 1 + j = k + (j + 1) from by omega] at this
            simpa only [List.getElem?_cons_succ] using this
        · cases h
      · cases h
    · rename_i hw
      have hw' : Region.wanted o (yieldedA ops (tr X call round ops base a s k).1) = false := by simpa using hw
      have hst : stepN X call round ops base k (tr X call round ops base a s k) = ((tr X call round ops base a s k).1.put o.dst undef, (tr X call round ops base a s k).2, undef) := by
        unfold stepN
        rw [ho]
        simp only
        rw [if_neg hw]
      rw [hst] at htr
      split at h
      · rename_i a2 s2 l2 hl
        simp only [Option.some.injEq, Prod.mk.injEq] at h
        obtain ⟨rfl, rfl, rfl⟩ := h
        obtain ⟨g1, g2⟩ := log_spec rest (k + 1) a2 s2 l2 hrest (by rw [htr]; exact hl)
        refine ⟨by rw [← g1]; congr 1; simp; omega, fun j o' hj => ?_⟩
        cases j with
        | zero =>
          simp only [List.getElem?_cons_zero, Option.some.injEq] at hj
          subst hj
          refine ⟨_, rfl, .inr ⟨hw', ?_, ?_, ?_, rfl⟩⟩
          · simp only [Nat.add_zero]; rw [hst]
          · simp only [Nat.add_zero]; rw [htr]
          · simp only [Nat.add_zero]; rw [htr]
        | succ j =>
          have := g2 j o' (by simpa using hj)
          rw [show k + 1 + j = k + (j + 1) from by omega] at this
          simpa only [List.getElem?_cons_succ] using this
      · cases h

theorem drawn_sound (hm : P.follows .mixedOrders = true) : DrawnOK P := by
  intro call round hc hr lc lr id ops a s act w ι Φ r m Q hok hod h ha hR hQ
  unfold drawnA at h
  split at h
  · exact h.elim
  · rename_i c hconf
    split at h
    · rename_i a' s' log hlog
      split at h
      · rename_i hlk
        obtain ⟨g1, g2⟩ := log_spec (X := env P) (call := call) (round := round) (ops := ops) (base := s.next) (a := a) (s := { heap := s.heap, next := s.next + 2 * ops.size, clk := s.clk }) ops.toList 0 a' s' log (fun j => by simp) hlog
        generalize hA : (fun i => (tr (env P) call round ops s.next a { heap := s.heap, next := s.next + 2 * ops.size, clk := s.clk } i).1) = A at *
        generalize hS : (fun i => (tr (env P) call round ops s.next a { heap := s.heap, next := s.next + 2 * ops.size, clk := s.clk } i).2) = S at *
        generalize hV : (fun i => (stepN (env P) call round ops s.next i (tr (env P) call round ops s.next a { heap := s.heap, next := s.next + 2 * ops.size, clk := s.clk } i)).2.2) = V at *
        have eA : ∀ i, (tr (env P) call round ops s.next a { heap := s.heap, next := s.next + 2 * ops.size, clk := s.clk } i).1 = A i := fun i => congrFun hA i
        have eS : ∀ i, (tr (env P) call round ops s.next a { heap := s.heap, next := s.next + 2 * ops.size, clk := s.clk } i).2 = S i := fun i => congrFun hS i
        have eV : ∀ i, (stepN (env P) call round ops s.next i (tr (env P) call round ops s.next a { heap := s.heap, next := s.next + 2 * ops.size, clk := s.clk } i)).2.2 = V i := fun i => congrFun hV i
        simp only [eA, eS, eV, Nat.zero_add] at g2
        have eA0 : A 0 = a := (eA 0).symm
        have eS0 : S 0 = { heap := s.heap, next := s.next + 2 * ops.size, clk := s.clk } := (eS 0).symm
        have hst : ∀ i o, ops[i]? = some o → A (i + 1) = (A i).put o.dst (V i) ∧
            ((Region.wanted o (yieldedA ops (A i)) = true ∧ execN (env P) call round (s.next + 2 * i) (S i) (A i).eval o.op = some (V i, S (i + 1))) ∨
             (Region.wanted o (yieldedA ops (A i)) = false ∧ V i = undef ∧ S (i + 1) = S i)) := by
          intro i o ho
          obtain ⟨nt, _, h2⟩ := g2 i o (by simpa using ho)
          rcases h2 with ⟨k1, k2, k3, _⟩ | ⟨k1, k2, k3, k4, _⟩
          · exact ⟨k3, .inl ⟨k1, k2⟩⟩
          · exact ⟨by rw [k2]; exact k4, .inr ⟨k1, k2, k3⟩⟩
        have hnt : ∀ i, i ≤ ops.size → (A i).nt = a.nt := by
          intro i
          induction i with
          | zero => intro _; rw [eA0]
          | succ i ih =>
            intro hi
            rw [(hst i ops[i] (by simp [show i < ops.size by omega])).1, put_nt]
            exact ih (by omega)
        have hev : ∀ i, i ≤ ops.size → s.next + 2 * ops.size ≤ (S i).next := by
          intro i
          induction i with
          | zero => intro _; rw [eS0]; exact Nat.le_refl _
          | succ i ih =>
            intro hi
            have i1 := ih (by omega)
            rcases (hst i ops[i] (by simp [show i < ops.size by omega])).2 with ⟨_, k⟩ | ⟨_, _, k⟩
            · have := (evol_execN (base := s.next) lc lr (by omega) (by omega) k).next
              omega
            · rw [k]; exact i1
        have hrun : Run P call round ops a.nt s.next A S V := by
          refine ⟨hc, hr, lc, lr, hok, hnt, hst, fun i j oi oj hlt hi hj => okDraw_pairs hod hi hj hlt, fun j o ho => okDraw_edges hod ho, ?_, hev, hR.odd, ?_⟩
          · intro i j oi oj hlt hi hj
            rcases conf_spec hconf hi hj hlt with hb | ⟨mm, h1, h2⟩
            · exact .inl hb
            · refine .inr ⟨mm, h1, fun x e hxe ox hox hwx hre b hb => ?_⟩
              have h3 := List.all_eq_true.1 hlk (x, e) (h2 _ hxe)
              obtain ⟨oe, hoe, hwe⟩ := hre
              obtain ⟨nx, k1, k2⟩ := g2 x ox (by simpa using hox)
              obtain ⟨ne, q1, q2⟩ := g2 e oe (by simpa using hoe)
              simp only [k1, q1] at h3
              rcases k2 with ⟨_, _, _, k3⟩ | ⟨k3, _⟩
              · rcases q2 with ⟨_, _, _, q3⟩ | ⟨q3, _⟩
                · subst k3; subst q3
                  simp only [Bool.not_true, Bool.false_or] at h3
                  exact List.all_eq_true.1 h3 b hb
                · rw [hwe] at q3; cases q3
              · rw [hwx] at k3; cases k3
          · intro i hi o ho
            rw [eS0] at ho
            cases hd : o.isDead with
            | true => rfl
            | false =>
              obtain ⟨l, h1, _⟩ := hR.obj _ o ho hd
              have hodd := hR.odd
              rw [hR.fresh (s.next + 2 * i) (by omega) (by omega)] at h1
              cases h1
        have e1 : (A ops.size, S ops.size) = (a', s') := by
          rw [← g1, ← eA, ← eS]
          simp
        obtain ⟨e2, e3⟩ := Prod.mk.inj e1
        refine wpIn_region_any hm ?_
        refine Inv.any (ι0 := ι) (s0 := s) (w0 := w) (ds := act.defers) hrun (Nat.le_refl _) ?_ ops.size _ act _ (by simp) (by simp) ?_
        · intro act' w' ι' h1 h2 h3 h4
          rw [e2] at h1
          rw [e3] at h2 h3
          refine hQ a' s' act' w' ι' h h1 h2 h3 ?_ h4
          rw [← e2]; exact hnt _ (Nat.le_refl _)
        · have hodd := hR.odd
          have hX : ∀ i, ¬ Lst (Array.replicate ops.size false) i := by
            intro i
            simp only [Lst, Array.getD_eq_getD_getElem?, Array.getElem?_replicate]
            split <;> simp
          refine ⟨0, ι, s.look, a, ⟨fun j o hj => absurd hj (hX j), Nat.zero_le _, fun e _ => ⟨fun hx => absurd hx (hX e), fun hx => by omega⟩, fun i hi => by omega, ?_, ?_, fun i hx => absurd hx (hX i), ?_, ?_, ?_, ha, rfl, ?_, rfl⟩⟩
          · rw [eS0]
            have hR' := hR.drew (w' := { w with drawn := w.drawn + 1 }) rfl
            exact ⟨hR'.even, by simp only; omega, fun b hb hb2 => hR'.fresh b (by simp only at hb; omega) hb2, hR'.inb, hR'.obj, hR'.inj⟩
          · rw [eS0]; exact fun b o hb _ => hb
          · rw [eS0]; exact fun b o hb hd => .inl ⟨o, hb, hd⟩
          · intro i hi _
            exact hR.fresh _ (by omega) (by omega)
          · rw [eS0]
            exact ⟨Inj.le_refl _, fun _ h _ => h, by simp only; omega, rfl, rfl, rfl, Nat.le_refl _, fun _ _ _ => rfl, fun _ h => .inl h⟩
          · intro t ht
            rw [eA0]
            exact .inr ⟨fun i o hx => absurd hx (hX i), rfl⟩
      · exact h.elim
    · exact h.elim
end Go.Dust
