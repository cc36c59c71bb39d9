/- A region whose order is drawn: each operation, and the whole. -/
import Derived.Test.YthgncfnofmglgaaGreatDs
namespace Go.Dust
variable {P : Program} {call : CallF} {round : RoundF} {ops : Array Oper} {nt base : Nat} {A : Nat → ACt} {S : Nat → St} {V : Nat → Value}
variable {ι0 : Inj} {s0 : St} {w0 : World} {ds : List Deferred}
section
variable {X : Nat → Prop} {act : Act} {w : World} {T : Nat} {ι : Inj} {HX : Look} {aX : ACt}
variable (h : Run P call round ops nt base A S V) (v : Inv P ops nt base A S V ι0 s0 w0 ds X act w T ι HX aX)
include h v

/-- What stands ahead of an effect that is at the head. -/
theorem Inv.ahead {e : Nat} {o : Oper} (ho : ops[e]? = some o) (hX : ¬ X e) (hr : ∀ x ∈ o.after, Region.binds .any x = true → X x.on) (hk : kindOf o.op = .effect) :
    T ≤ e ∧ (∀ k, T ≤ k → k < e → ¬ KindAt ops k .effect) ∧ (∀ k, k < e → KindAt ops k .alloc → X k) := by
  have hT : T ≤ e := Nat.le_of_not_lt fun hlt => hX ((v.eff e ⟨o, ho, hk⟩).2 hlt)
  refine ⟨hT, fun k h1 h2 hke => ?_, fun k h2 hka => ?_⟩
  · obtain ⟨ok, hok, hkk⟩ := hke
    have hXk : X k := by
      rcases h.conf k e ok o h2 hok ho with hb | ⟨m, hm, _⟩
      · exact v.down.ready ho hr hb
      · unfold confPair at hm; rw [hkk, hk] at hm; cases hm
    have := (v.eff k ⟨ok, hok, hkk⟩).1 hXk
    omega
  · obtain ⟨ok, hok, hkk⟩ := hka
    rcases h.conf k e ok o h2 hok ho with hb | ⟨m, hm, _⟩
    · exact v.down.ready ho hr hb
    · unfold confPair at hm; rw [hkk, hk] at hm; cases hm

theorem Inv.here {e : Nat} {o : Oper} (ho : ops[e]? = some o) (hX : ¬ X e) (hr : ∀ x ∈ o.after, Region.binds .any x = true → X x.on) (hk : kindOf o.op = .effect) :
    (∀ b q, (S e).heap.get b = some q → q.isDead = false → HX b = some q) ∧ (S e).next = (S T).next ∧ RS P ι (S e) w := by
  obtain ⟨h1, h2, h3⟩ := v.ahead h ho hX hr hk
  obtain ⟨h4, h5⟩ := v.upTo h (Nat.le_of_lt (h.lt ho)) h1 h2 (fun k _ hlt => h3 k hlt)
  refine ⟨h4, h5, ?_⟩
  unfold RS
  rw [h5]
  exact v.tie.fewer h4

/-- An effect. -/
theorem Inv.effect {e : Nat} {o : Oper} (ho : ops[e]? = some o) (hX : ¬ X e) (hr : ∀ x ∈ o.after, Region.binds .any x = true → X x.on) (hk : kindOf o.op = .effect)
    {ι' : Inj} {w' : World} {u : Value} (hv : VR ι' (V e) u) (hR : RS P ι' (S (e + 1)) w') (hE : ES ι (S e) w ι' (S (e + 1)) w') :
    ∃ H', Inv P ops nt base A S V ι0 s0 w0 ds (fun k => X k ∨ k = e) (act.put o.dst u) w' (e + 1) ι' H' (aX.put o.dst (V e)) := by
  obtain ⟨a1, a2, a3⟩ := v.ahead h ho hX hr hk
  obtain ⟨sub, nx, hRe⟩ := v.here h ho hX hr hk
  obtain ⟨t1, t2, t3, t4⟩ := v.after h ho hX hE.le hv
  have he := h.lt ho
  have hold : ∀ b q, (S (e + 1)).heap.get b = some q → q.isDead = false → q.isRo = true → ∃ q0, (S e).heap.get b = some q0 ∧ q0.isDead = false := by
    intro b q hq hd hro
    rcases h.cases ho with h1 | ⟨h1, _⟩ | ⟨_, _, _, h1⟩
    · rw [h1] at hq; exact ⟨q, hq, hd⟩
    · rw [hk] at h1; cases h1
    · rcases h1.old b q hq hd with ⟨q0, k1, k2, _⟩ | ⟨_, k2⟩
      · exact ⟨q0, k1, k2⟩
      · rw [hro] at k2; cases k2
  -- what was made ahead of its turn
  let Ex : Nat → Prop := fun b => ∃ i, e < i ∧ X i ∧ KindAt ops i .alloc ∧ RanAt ops A i ∧ b = base + 2 * i
  have hlt : ∀ i, KindAt ops i .alloc → i < ops.size := fun i ⟨oi, hoi, _⟩ => h.lt hoi
  have exNone : ∀ k b q, k ≤ e + 1 → Ex b → (S k).heap.get b = some q → q.isDead = false → False := by
    rintro k b q hk' ⟨i, k1, _, k3, _, rfl⟩ hq hd
    exact h.nlive (by omega) (hlt i k3) hq hd
  have exKeep : ∀ b q l, Ex b → HX b = some q → q.isDead = false → ι b = some l → l.blk < w.heap.size ∧ ¬ Own ι (S e).look l.blk ∧ ObjR (env P) ι w l q ∧ l.ro = l.ro := by
    rintro b q l hex hq hd hl
    obtain ⟨l', g1, g2⟩ := v.tie.obj b q hq hd
    rw [hl] at g1; cases g1
    refine ⟨g2.lt hd, ?_, g2, rfl⟩
    rintro ⟨b1, q1, l1, c1, c2, c3, c4, c5⟩
    have := v.tie.inj b1 b q1 q l1 l (sub b1 q1 c1 c2) c2 hq hd c3 hl c4 c5
    subst this
    exact exNone e b1 q1 (by omega) hex c1 c2
  obtain ⟨H', hin, hout⟩ : ∃ H' : Look, (∀ b, Ex b → H' b = HX b) ∧ (∀ b, ¬ Ex b → H' b = (S (e + 1)).heap.get b) := by
    classical
    exact ⟨fun b => if Ex b then HX b else (S (e + 1)).heap.get b, fun b hb => if_pos hb, fun b hb => if_neg hb⟩
  have hH : ∀ b q, H' b = some q → q.isDead = false → (Ex b ∧ HX b = some q) ∨ (¬ Ex b ∧ (S (e + 1)).heap.get b = some q) := by
    intro b q hq hd
    by_cases hb : Ex b
    · rw [hin b hb] at hq; exact .inl ⟨hb, hq⟩
    · rw [hout b hb] at hq; exact .inr ⟨hb, hq⟩
  have exOwn : ∀ b q l, Ex b → HX b = some q → q.isDead = false → ι b = some l → ¬ Own ι' (S (e + 1)).look l.blk := by
    intro b q l hex hq hd hl ho'
    obtain ⟨g1, g2, _⟩ := exKeep b q l hex hq hd hl
    rcases hE.own _ ho' with h1 | h1
    · exact g2 h1
    · omega
  refine ⟨H', v.downTo h ho hr, he, ?_, ?_, ?_, ?_, ?_, ?_, ?_, ?_, t1, t2, t3, t4⟩
  · intro k hkk
    have := v.eff k hkk
    constructor
    · rintro (hx | rfl)
      · have := this.1 hx; omega
      · omega
    · intro hlt'
      rcases Nat.lt_or_ge k T with h1 | h1
      · exact .inl (this.2 h1)
      · rcases Nat.lt_or_ge k e with h2 | h2
        · exact absurd hkk (a2 k h1 h2)
        · exact .inr (by omega)
  · intro k hlt' hka
    rcases Nat.lt_or_ge k e with h2 | h2
    · exact .inl (a3 k h2 hka)
    · exact .inr (by omega)
  · -- the tie
    refine ⟨hR.even, hR.odd, hR.fresh, hR.inb, fun b q hq hd => ?_, fun b b' q q' l l' hq hd hq' hd' hl hl' hro hblk => ?_⟩
    · rcases hH b q hq hd with ⟨hex, hq⟩ | ⟨_, hq⟩
      · obtain ⟨l, g1, g2⟩ := v.tie.obj b q hq hd
        obtain ⟨k1, k2, _⟩ := exKeep b q l hex hq hd g1
        exact ⟨l, hE.le _ _ g1, g2.mono hE.le (hE.keep _ k1 k2)⟩
      · exact hR.obj b q hq hd
    · rcases hH b q hq hd with ⟨hex, hq⟩ | ⟨hex, hq⟩ <;> rcases hH b' q' hq' hd' with ⟨hex', hq'⟩ | ⟨hex', hq'⟩
      · obtain ⟨l1, g1, _⟩ := v.tie.obj b q hq hd
        obtain ⟨l1', g1', _⟩ := v.tie.obj b' q' hq' hd'
        have e1 := hE.le _ _ g1
        have e1' := hE.le _ _ g1'
        rw [hl] at e1; cases e1
        rw [hl'] at e1'; cases e1'
        exact v.tie.inj b b' q q' l l' hq hd hq' hd' g1 g1' hro hblk
      · exfalso
        obtain ⟨l1, g1, _⟩ := v.tie.obj b q hq hd
        have e1 := hE.le _ _ g1
        rw [hl] at e1; cases e1
        cases hro' : l'.ro with
        | false => exact exOwn b q l hex hq hd g1 ⟨b', q', l', hq', hd', hl', hro', hblk.symm⟩
        | true =>
          obtain ⟨l2, g2, g3⟩ := hR.obj b' q' hq' hd'
          rw [hl'] at g2; cases g2
          have hqro : q'.isRo = true := by
            cases q' with
            | cells c z n el room ro ver =>
              obtain ⟨_, _, _, _, _, g4, _⟩ := g3
              rw [hro'] at g4
              exact g4.symm
            | map => have := g3.1; rw [hro'] at this; cases this
            | miter m => have := g3.1; rw [hro'] at this; cases this
            | siter => have := g3.1; rw [hro'] at this; cases this
            | loop => have := g3.1; rw [hro'] at this; cases this
            | dead => cases hd'
          obtain ⟨q0, k1, k2⟩ := hold b' q' hq' hd' hqro
          have k3 := sub b' q0 k1 k2
          obtain ⟨l3, g5, _⟩ := v.tie.obj b' q0 k3 k2
          have e2 := hE.le _ _ g5
          rw [hl'] at e2; cases e2
          have := v.tie.inj b b' q q0 l l' hq hd k3 k2 g1 g5 hro hblk
          subst this
          exact exNone e b q0 (by omega) hex k1 k2
      · exfalso
        obtain ⟨l1, g1, _⟩ := v.tie.obj b' q' hq' hd'
        have e1 := hE.le _ _ g1
        rw [hl'] at e1; cases e1
        exact exOwn b' q' l' hex' hq' hd' g1 ⟨b, q, l, hq, hd, hl, hro, hblk⟩
      · exact hR.inj b b' q q' l l' hq hd hq' hd' hl hl' hro hblk
  · intro b q hq hd
    rw [hout b fun hex => exNone (e + 1) b q (Nat.le_refl _) hex hq hd]
    exact hq
  · intro i hx hka hra hle q hq hd
    have hxi : X i := hx.resolve_right (by omega)
    rw [hin _ ⟨i, by omega, hxi, hka, hra, rfl⟩]
    exact v.made i hxi hka hra (by omega) q hq hd
  · intro b q hq hd
    rcases hH b q hq hd with ⟨⟨i, k1, k2, k3, k4, k5⟩, _⟩ | ⟨_, hq⟩
    · exact .inr ⟨i, .inl k2, k3, k4, by omega, k5⟩
    · exact .inl ⟨q, hq, hd⟩
  · intro i hi hx
    have htop := h.top e (Nat.le_of_lt he)
    exact hE.new _ (v.free i hi fun hh => hx (.inl hh)) (.inl (by omega))
  · have hn1 := hE.nxt
    have hn0 := v.ext.nxt
    have hb1 := h.top e (Nat.le_of_lt he)
    have own1 : ∀ c, Own ι (S e).look c → Own ι HX c := fun c ⟨b, q, l, h1, h2, h3⟩ => ⟨b, q, l, sub b q h1 h2, h2, h3⟩
    refine ⟨Inj.le_trans v.ext.le hE.le, ?_, by omega, hE.os.trans v.ext.os, hE.tape.trans v.ext.tape, hE.output.trans v.ext.output, Nat.le_trans v.ext.size hE.size, ?_, ?_⟩
    · intro b hb hb2
      exact hE.new b (v.ext.new b hb (by omega)) (by omega)
    · intro c hc hno
      refine (hE.keep c (Nat.lt_of_lt_of_le hc v.ext.size) fun ho' => ?_).trans (v.ext.keep c hc hno)
      rcases v.ext.own c (own1 c ho') with h1 | h1
      · exact hno h1
      · omega
    · rintro c ⟨b, q, l, h1, h2, h3, h4, h5⟩
      have hs := v.ext.size
      rcases hH b q h1 h2 with ⟨hex, hq⟩ | ⟨_, hq⟩
      · obtain ⟨l1, g1, _⟩ := v.tie.obj b q hq h2
        have e1 := hE.le _ _ g1
        rw [h3] at e1; cases e1
        exact v.ext.own c ⟨b, q, l, hq, h2, g1, h4, h5⟩
      · rcases hE.own c ⟨b, q, l, hq, h2, h3, h4, h5⟩ with g1 | g1
        · exact v.ext.own c (own1 c g1)
        · exact .inr (by omega)

/-- What a still operation reads lies as it lay in the text's order. -/
theorem Inv.reads {i : Nat} {o : Oper} (ho : ops[i]? = some o) (hX : ¬ X i) (hr : ∀ x ∈ o.after, Region.binds .any x = true → X x.on) (hk : kindOf o.op = .still) (hw : Region.wanted o (yieldedA ops (A i)) = true) (hm : mayRead o.op = true) :
    ∀ b ∈ readsOf (A i).eval (S i).look o.op, Keep (S i).look HX b := by
  intro b hb q hq hd
  have hi := h.lt ho
  rcases Nat.lt_or_ge i T with hlt | hge
  · have key : ∀ d, i + d ≤ T → (S (i + d)).heap.get b = some q := by
      intro d
      induction d with
      | zero => exact fun _ => hq
      | succ d ih =>
        intro hd'
        have i1 := ih (by omega)
        have hT := v.top
        obtain ⟨od, hok⟩ : ∃ od, ops[i + d]? = some od := ⟨ops[i + d], by simp [show i + d < ops.size by omega]⟩
        rcases h.cases hok with h1 | ⟨hka, hwa, f, _, h1⟩ | ⟨hke, hwe, _⟩
        · rw [show i + (d + 1) = i + d + 1 from rfl, h1]; exact i1
        · rw [show i + (d + 1) = i + d + 1 from rfl, h1]
          simp only [St.put, PT.get_set]
          by_cases eb : b = base + 2 * (i + d)
          · subst eb
            exact (h.nlive (Nat.le_refl _) (by omega) i1 hd).elim
          · rw [if_neg eb]; exact i1
        · have hne : i + d ≠ i := fun e0 => by
            rw [e0, ho] at hok; cases hok
            rw [hk] at hke; cases hke
          have hXk : X (i + d) := (v.eff (i + d) ⟨_, hok, hke⟩).2 (by omega)
          rcases h.conf i (i + d) o _ (by omega) ho hok with hbit | ⟨m, hm1, hm2⟩
          · exact absurd (v.down.bit _ _ (by omega) hXk hbit) hX
          · unfold confPair at hm1
            rw [hk, hke, if_pos hm] at hm1
            cases hm1
            obtain ⟨q', k1, k2, _⟩ := h.same (hm2 i (i + d) (by simp) o ho hw ⟨_, hok, hwe⟩ b hb) hok hke
            rw [i1] at k1; cases k1
            exact k2
    have := key (T - i) (by omega)
    rw [show i + (T - i) = T from by omega] at this
    exact v.sub b q this hd
  · have key : ∀ d, T + d ≤ i → ∀ q, (S (T + d)).heap.get b = some q → q.isDead = false → HX b = some q := by
      intro d
      induction d with
      | zero => exact fun _ q h1 h2 => v.sub b q h1 h2
      | succ d ih =>
        intro hd' q hq hd
        have i1 := ih (by omega)
        have hok : ops[T + d]? = some ops[T + d] := by simp [show T + d < ops.size by omega]
        rcases h.cases hok with h1 | ⟨hka, hwa, f, _, h1⟩ | ⟨hke, hwe, _⟩
        · rw [show T + (d + 1) = T + d + 1 from rfl, h1] at hq; exact i1 q hq hd
        · by_cases eb : b = base + 2 * (T + d)
          · have hXk : X (T + d) := by
              rcases h.conf (T + d) i _ o (by omega) hok ho with hbit | ⟨m, hm1, hm2⟩
              · exact v.down.ready ho hr hbit
              · unfold confPair at hm1
                rw [hk, hka] at hm1
                simp only at hm1
                rw [if_pos hm] at hm1
                cases hm1
                obtain ⟨q', k1, k2⟩ := h.sameLive (hm2 i (T + d) (by simp) o ho hw ⟨_, hok, hwa⟩ b hb)
                rw [eb] at k1
                exact (h.nlive (Nat.le_refl _) (by omega) k1 k2).elim
            subst eb
            exact v.made (T + d) hXk ⟨_, hok, hka⟩ ⟨_, hok, hwa⟩ (by omega) q hq hd
          · rw [show T + (d + 1) = T + d + 1 from rfl, h1] at hq
            simp only [St.put, PT.get_set] at hq
            rw [if_neg eb] at hq
            exact i1 q hq hd
        · have hXk : ¬ X (T + d) := fun hx => by have := (v.eff (T + d) ⟨_, hok, hke⟩).1 hx; omega
          rcases h.conf (T + d) i _ o (by omega) hok ho with hbit | ⟨m, hm1, hm2⟩
          · exact absurd (v.down.ready ho hr hbit) hXk
          · unfold confPair at hm1
            rw [hk, hke] at hm1
            simp only at hm1
            rw [if_pos hm] at hm1
            cases hm1
            obtain ⟨q', k1, k2, _⟩ := h.same (hm2 i (T + d) (by simp) o ho hw ⟨_, hok, hwe⟩ b hb) hok hke
            have : q' = q := by
              rw [show T + (d + 1) = T + d + 1 from rfl] at hq
              rw [hq] at k2; exact (Option.some.inj k2).symm
            subst this
            exact i1 q' k1 hd
    have := key (i - T) (by omega) q
    rw [show T + (i - T) = i from by omega] at this
    exact this hq hd
end
end Go.Dust
