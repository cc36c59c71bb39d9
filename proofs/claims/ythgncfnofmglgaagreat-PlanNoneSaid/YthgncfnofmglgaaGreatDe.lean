/- Operations that only read, the rest; all of them. -/
import Derived.Test.YthgncfnofmglgaaGreatDd
namespace Go.Dust
variable {P : Program} {ι : Inj} {H : Look} {n : Nat} {w : World}

theorem unop_sound {op : UnOp} {a a' v : Value} (ha : VR ι a a') (h : unop op a = some v) : Gives P ι w (Op.unary op a') v := by
  unfold unop at h
  split at h
  · rw [ha.int_eq]
    simp only [Option.some.injEq] at h; subst h
    exact ⟨_, by simp [Op.unary, Op.intArith], .int _ _⟩
  · rw [ha.bool_eq]
    simp only [Option.some.injEq] at h; subst h
    exact ⟨_, by simp [Op.unary], .bool _⟩
  · cases h

theorem convert_sound {src dst : TypeId} {a a' v : Value} (ha : VR ι a a') (h : convertA (env P) src dst a = some v) : Gives P ι w (convert src dst a') v := by
  unfold convertA at h
  split at h
  · rename_i s d hs hd
    split at h
    · rename_i hk
      rw [ha.int_eq]
      simp only [Option.some.injEq] at h; subst h
      refine ⟨_, ?_, .int _ _⟩
      unfold convert
      simp only [Sem.run_bind, run_underlyingA hs, run_underlyingA hd, Result.andThen_ok, hk]
      simp [Conv.intToInt]
    · rename_i hk
      rw [ha.string_eq]
      simp only [Option.some.injEq] at h; subst h
      refine ⟨_, ?_, .string _⟩
      unfold convert
      simp only [Sem.run_bind, run_underlyingA hs, run_underlyingA hd, Result.andThen_ok, hk]
      simp
    · cases h
  · cases h

/-! ### Maps -/
theorem keyEq_sameNow {d : TypeDesc} {k x : Value} (hk : keyDesc d k = true) {b : Bool}
    (h : keyEq k x = some b) : Instr.sameNow d k x = some b := by
  unfold keyEq at h
  split at h
  · split at h
    · rename_i hkk
      subst hkk
      cases d <;> simp [keyDesc] at hk
      simp only [Option.some.injEq] at h; subst h
      simp [Instr.sameNow]
    · cases h
  · cases d <;> simp [keyDesc] at hk
    simp only [Option.some.injEq] at h; subst h
    simp [Instr.sameNow]
  · cases d <;> simp [keyDesc] at hk
    simp only [Option.some.injEq] at h; subst h
    simp [Instr.sameNow]
  · cases h

theorem keyOk_spec {t : TypeId} {k : Value} (h : keyOk (env P) t k = true) : ∃ i, (env P).ty t = some i ∧
    keyDesc i.desc k = true := by
  unfold keyOk at h
  cases ht : (env P).ty t with
  | none => rw [ht] at h; cases h
  | some i =>
    rw [ht] at h
    exact ⟨i, rfl, h⟩
theorem key_eq {t : TypeId} {k k' : Value} (h : keyOk (env P) t k = true) (hk : VR ι k k') : k' = k := by
  obtain ⟨i, _, h2⟩ := keyOk_spec h
  cases hd : i.desc <;> rw [hd] at h2 <;> cases k <;> simp [keyDesc] at h2 <;> first | exact hk.int_eq | exact hk.string_eq | exact hk.bool_eq
theorem keyEq_left {k x : Value} {b : Bool} (h : keyEq k x = some b) {x' : Value} (hx : VR ι x x') : x' = x := by
  unfold keyEq at h
  split at h
  · exact hx.int_eq
  · exact hx.string_eq
  · exact hx.bool_eq
  · cases h
theorem run_checkKey {t : TypeId} {k : Value} (h : keyOk (env P) t k = true) (e : Bool) : (Instr.checkKey e 10000 t k).run P w = .ok () w := by
  obtain ⟨i, ht, h2⟩ := keyOk_spec h
  cases hd : i.desc <;> rw [hd] at h2 <;> cases k <;> simp [keyDesc] at h2 <;>
    (unfold Instr.checkKey; simp only [Sem.run_bind, run_underlyingA ht, hd, Result.andThen_ok, Sem.run_pure])
theorem findNow_sound {d : TypeDesc} {k : Value} (hk : keyDesc d k = true) :
    ∀ {es es' : List MapEntry} (_ : ERs ι es es') (i : Nat) (r : Option (Nat × Value)), findE k es i = some r →
      ∃ r', Instr.findNow d k es' i = some r' ∧ (match r with
        | none => r' = none
        | some (j, v) => ∃ v', r' = some (j, v') ∧ VR ι v v' ∧ i ≤ j ∧ ∃ e, es[j - i]? = some e ∧ keyEq k e.key = some true)
  | _, _, .nil, i, r, h => by
    simp only [findE, Option.some.injEq] at h; subst h
    exact ⟨none, rfl, rfl⟩
  | e :: es, e' :: es', .cons he t, i, r, h => by
    simp only [findE] at h
    simp only [Instr.findNow]
    split at h
    · rename_i hq
      simp only [Option.some.injEq] at h; subst h
      rw [keyEq_left hq he.key, keyEq_sameNow hk hq]
      exact ⟨_, rfl, _, rfl, he.val, Nat.le_refl _, e, by simp, hq⟩
    · rename_i hq
      rw [keyEq_left hq he.key, keyEq_sameNow hk hq]
      obtain ⟨r', g1, g2⟩ := findNow_sound hk t (i + 1) r h
      refine ⟨r', g1, ?_⟩
      cases r with
      | none => exact g2
      | some p =>
        obtain ⟨v', h1, h2, h3, e2, h4, h5⟩ := g2
        refine ⟨v', h1, h2, by omega, e2, ?_, h5⟩
        rw [show p.1 - i = (p.1 - (i + 1)) + 1 from by omega, List.getElem?_cons_succ]; exact h4
    · cases h
def Found (ι : Inj) (k : Value) (es : List MapEntry) : Option (Nat × Value) → Option (Nat × Value) → Prop
  | none, r' => r' = none
  | some (j, v), r' => ∃ v', r' = some (j, v') ∧ VR ι v v' ∧ ∃ e, es[j]? = some e ∧ keyEq k e.key = some true
theorem run_findKey {t : TypeId} {k : Value} (hk : keyOk (env P) t k = true) {es es' : List MapEntry} (he : ERs ι es es') {r : Option (Nat × Value)} (h : findE k es 0 = some r) :
    ∃ r', (Instr.findKey t k es').run P w = .ok r' w ∧ Found ι k es r r' := by
  obtain ⟨i, ht, h2⟩ := keyOk_spec hk
  obtain ⟨r', g1, g2⟩ := findNow_sound h2 he 0 r h
  refine ⟨r', ?_, ?_⟩
  · unfold Instr.findKey
    simp only [Sem.run_bind, run_underlyingA ht, Result.andThen_ok, g1, Sem.run_pure]
  · cases r with
    | none => exact g2
    | some p =>
      obtain ⟨v', h1, h2, _, e, h3, h4⟩ := g2
      exact ⟨v', h1, h2, e, by simpa using h3, h4⟩

theorem mapOf_sound (hR : R (env P) ι H n w) {r : Nat} {es : List MapEntry} {c : Nat} (h : mapOf H r = some (es, c)) :
    ∃ l es', ι r = some l ∧ l.ro = false ∧ l.off = 0 ∧ l.extra = 0 ∧ w.heap[l.blk]? = some (.map es' c) ∧ ERs ι es es'.toList := by
  unfold mapOf at h
  split at h
  · rename_i es0 c0 ver hr
    simp only [Option.some.injEq, Prod.mk.injEq] at h
    obtain ⟨rfl, rfl⟩ := h
    obtain ⟨l, h1, h2, h3, h4, es', h5, h6⟩ := hR.obj r _ hr rfl
    exact ⟨l, es', h1, h2, h3, h4, h5, h6⟩
  · cases h

theorem map_inv {r : Nat} {u : Value} (h : VR ι (.map (some r)) u) : ∃ l, ι r = some l ∧ u = .map (some l.blk) := by cases h with | map hl => exact ⟨_, hl, rfl⟩
theorem nilmap_inv {u : Value} (h : VR ι (.map none) u) : u = .map none := by cases h; rfl
theorem run_getMap {b : Nat} {es : Array MapEntry} {c : Nat} (h : w.heap[b]? = some (.map es c)) : (getObj b).run P w = .ok (.map es c) w := by simp [getObj, Sem.run, h]
theorem ERs.length : ∀ {l l' : List MapEntry}, ERs ι l l' → l.length = l'.length
  | _, _, .nil => rfl
  | _, _, .cons _ t => by simp [ERs.length t]

theorem pair_tuple {v v' : Value} (h : VR ι v v') (b : Bool) : VR ι (.tuple #[v, .bool b]) (.tuple #[v', .bool b]) := .tuple' (.cons h (.cons (.bool b) .nil))

theorem lookup_sound (hR : R (env P) ι H n w) {t : TypeId} {x k x' k' v : Value} {ok : Bool} (hx : VR ι x x') (hk : VR ι k k') (h : lookupA (env P) H t x k ok = some v) :
    Gives P ι w (Instr.lookup t x' k' ok) v := by
  unfold lookupA at h
  unfold Gives
  split at h
  · rename_i kt et sz by_ ze ag me cm ht
    split at h
    · rename_i d2 s2 b2 z a2 m2 c2 het
      split at h
      · rename_i hkk
        rw [key_eq hkk hk]
        have hz := zero_closed het rfl
        unfold Instr.lookup
        simp only [Sem.run_bind, run_underlyingA ht, Result.andThen_ok]
        split at h
        · rw [nilmap_inv hx]
          simp only [Sem.run_pure, Result.andThen_ok, run_checkKey hkk, Sem.run_bind]
          obtain ⟨r', g1, g2⟩ := run_findKey (P := P) (ι := ι) (w := w) hkk .nil (r := none) rfl
          cases (show r' = none from g2)
          simp only [g1, Result.andThen_ok, Sem.run_bind, run_zeroA het rfl, Sem.run_pure]
          simp only [Option.some.injEq] at h; subst h
          cases ok
          · exact ⟨z, rfl, .closed hz⟩
          · exact ⟨_, rfl, pair_tuple (.closed hz) _⟩
        · rename_i r
          obtain ⟨l, hl, rfl⟩ := map_inv hx
          split at h
          · rename_i es c hm
            obtain ⟨l', es', q1, q2, q3, q4, q5, q6⟩ := mapOf_sound hR hm
            rw [hl] at q1; cases q1
            simp only [Sem.run_bind, run_getMap q5, Sem.run_pure, Result.andThen_ok, run_checkKey hkk]
            split at h
            · rename_i j v0 hf
              obtain ⟨r', g1, v', g2, g3, _⟩ := run_findKey (P := P) (w := w) hkk q6 hf
              subst g2
              simp only [g1, Result.andThen_ok]
              simp only [Option.some.injEq] at h; subst h
              cases ok
              · exact ⟨v', rfl, g3⟩
              · exact ⟨_, rfl, pair_tuple g3 _⟩
            · rename_i hf
              obtain ⟨r', g1, g2⟩ := run_findKey (P := P) (w := w) hkk q6 hf
              cases (show r' = none from g2)
              simp only [g1, Result.andThen_ok, Sem.run_bind, run_zeroA het rfl, Sem.run_pure]
              simp only [Option.some.injEq] at h; subst h
              cases ok
              · exact ⟨z, rfl, .closed hz⟩
              · exact ⟨_, rfl, pair_tuple (.closed hz) _⟩
            · cases h
          · cases h
        · cases h
      · cases h
    · cases h
  · cases h
/-! ### Slices of slices, strings, arrays -/
theorem bounds2_spec {len cap : Nat} {lo hi : Option Int} {l h : Nat} (hb : bounds2 len cap lo hi = some (l, h)) :
    (match hi with | some x => 0 ≤ x ∧ x ≤ (cap : Int) ∧ h = x.toNat | none => h = len) ∧ (match lo with | some x => 0 ≤ x ∧ x ≤ (h : Int) ∧ l = x.toNat | none => l = 0) := by
  unfold bounds2 at hb
  split at hb
  · cases hb
  · rename_i h0 hh
    split at hb
    · cases hb
    · rename_i l0 hl
      simp only [Option.some.injEq, Prod.mk.injEq] at hb
      obtain ⟨rfl, rfl⟩ := hb
      constructor
      · cases hi with
        | none => simp only [Option.some.injEq] at hh; exact hh.symm
        | some x =>
          simp only at hh
          split at hh
          · rename_i hc
            simp only [Option.some.injEq] at hh
            exact ⟨hc.1, hc.2, hh.symm⟩
          · cases hh
      · cases lo with
        | none => simp only [Option.some.injEq] at hl; exact hl.symm
        | some x =>
          simp only at hl
          split at hl
          · rename_i hc
            simp only [Option.some.injEq] at hl
            exact ⟨hc.1, hc.2, hl.symm⟩
          · cases hl

/-- The bounds' operands, in D and in the model. -/
def OptVR (ι : Inj) : Option Value → Option Value → Prop
  | none, none => True
  | some v, some u => VR ι v u
  | _, _ => False
theorem run_sliceBounds {isSlice : Bool} {len cap cap' : Nat} (hcap : cap ≤ cap') {lo hi lo' hi' : Option Value} (hlo : OptVR ι lo lo') (hhi : OptVR ι hi hi') {il ih : Option Int}
    (hil : optInt lo = some il) (hih : optInt hi = some ih) {l h : Nat} (hb : bounds2 len cap il ih = some (l, h)) :
    (Instr.sliceBounds isSlice len cap' lo' hi' none).run P w = .ok (l, h, cap') w := by
  obtain ⟨h1, h2⟩ := bounds2_spec hb
  have bound : ∀ (v : Value) (k : IntKind) (x : Int) (y : Nat) (code : BoundsCode), v = .int k x → 0 ≤ x → x ≤ (y : Int) → (Instr.sliceBound v y code).run P w = .ok x.toNat w := by
    intro v k x y code hv h0 h1
    subst hv
    simp [Instr.sliceBound, asIntOf, h0, h1]
  have ehi : (hi' = none → h = len) ∧ (∀ v' code, hi' = some v' → (Instr.sliceBound v' cap' code).run P w = .ok h w) := by
    cases hi with
    | none =>
      cases hi' with
      | none =>
        simp only [optInt, Option.some.injEq] at hih
        subst hih
        exact ⟨fun _ => h1, fun _ _ e => (by cases e)⟩
      | some _ => exact hhi.elim
    | some v =>
      cases hi' with
      | none => exact hhi.elim
      | some v' =>
        cases v <;> simp [optInt] at hih
        rename_i k x
        subst hih
        obtain ⟨g1, g2, rfl⟩ := h1
        refine ⟨fun e => (by cases e), fun v2 code e => ?_⟩
        cases e
        exact bound _ k x _ _ (VR.int_eq hhi) g1 (by omega)
  have elo : (lo' = none → l = 0) ∧ (∀ v' code, lo' = some v' → (Instr.sliceBound v' h code).run P w = .ok l w) := by
    cases lo with
    | none =>
      cases lo' with
      | none =>
        simp only [optInt, Option.some.injEq] at hil
        subst hil
        exact ⟨fun _ => h2, fun _ _ e => (by cases e)⟩
      | some _ => exact hlo.elim
    | some v =>
      cases lo' with
      | none => exact hlo.elim
      | some v' =>
        cases v <;> simp [optInt] at hil
        rename_i k x
        subst hil
        obtain ⟨g1, g2, rfl⟩ := h2
        refine ⟨fun e => (by cases e), fun v2 code e => ?_⟩
        cases e
        exact bound _ k x _ _ (VR.int_eq hlo) g1 (by omega)
  unfold Instr.sliceBounds
  cases hi' with
  | none =>
    have := ehi.1 rfl
    subst this
    cases lo' with
    | none =>
      have := elo.1 rfl
      subst this
      rfl
    | some v => simp [elo.2 v _ rfl]
  | some v =>
    cases lo' with
    | none =>
      have := elo.1 rfl
      subst this
      simp [ehi.2 v _ rfl]
    | some u => simp [ehi.2 v _ rfl, elo.2 u _ rfl]

theorem nilslice_inv {a b : Nat} {u : Value} (h : VR ι (.slice none a b) u) : u = .slice none a b := by cases h; rfl
theorem slice_inv {b o len cap : Nat} {u : Value} (h : VR ι (.slice (some ⟨b, o, none⟩) len cap) u) : ∃ l, ι b = some l ∧ u = .slice (some ⟨l.blk, l.off + o, none⟩) len (cap + l.extra) := by
  cases h with | slice _ _ hl => exact ⟨_, hl, rfl⟩

theorem slice_sound (hR : R (env P) ι H n w) {t : TypeId} {x x' v : Value} {lo hi mx lo' hi' mx' : Option Value} (hx : VR ι x x') (hlo : OptVR ι lo lo') (hhi : OptVR ι hi hi') (hmx : OptVR ι mx mx')
    (h : sliceA (env P) H t x lo hi mx = some v) : Gives P ι w (Instr.sliceAt t x' lo' hi' mx') v := by
  unfold Gives
  unfold sliceA at h
  cases mx with
  | some _ => cases h
  | none =>
  cases mx' with
  | some _ => exact hmx.elim
  | none =>
  simp only at h
  split at h
  · rename_i i il ih ht hil hih
    unfold Instr.sliceAt
    simp only [Sem.run_bind, run_underlyingA ht, Result.andThen_ok]
    split at h
    · -- a string
      rename_i s hd
      rw [hx.string_eq]
      split at h
      · rename_i l h0 hb
        split at h
        · simp only [Option.some.injEq] at h; subst h
          refine ⟨_, ?_, .string _⟩
          rw [hd]
          simp only [Instr.slice, Sem.run_bind, run_underlyingA ht, Result.andThen_ok, hd, Option.isSome_none, Bool.false_eq_true, if_false, Sem.run_pure]
          rw [run_sliceBounds (Nat.le_refl _) hlo hhi hil hih hb]
          rfl
        · cases h
      · cases h
    · -- a nil slice
      rename_i e hd
      rw [nilslice_inv hx]
      split at h
      · rename_i ei hb he
        simp only [Option.some.injEq] at h; subst h
        refine ⟨_, ?_, .nilslice 0 0⟩
        rw [hd]
        simp only [Instr.slice, Sem.run_bind, run_underlyingA ht, Result.andThen_ok, hd]
        rw [run_sliceBounds (Nat.le_refl _) hlo hhi hil hih hb]
        simp [run_sizeOfA he]
      · cases h
    · -- a slice that lies somewhere
      rename_i e a len cap hd
      obtain ⟨ab, ao, as⟩ := a
      cases as with
      | some _ => cases h
      | none =>
      simp only at h
      obtain ⟨l, hl, rfl⟩ := slice_inv hx
      split at h
      · rename_i lo0 hi0 ei c z m e' room ro ver hb he hH
        split at h
        · rename_i hle
          obtain ⟨q1, q2⟩ := bounds2_spec hb
          obtain ⟨l', arr, e'', fz, p1, p2, p3, p4, p5, _⟩ := cells_of hR hH
          rw [hl] at p1; cases p1
          have hcaph : hi0 ≤ cap := by
            cases ih with
            | none => simp only at q1; omega
            | some x => simp only at q1; omega
          rw [hd]
          have hrun : (Instr.slice t (.slice (some ⟨l.blk, l.off + ao, none⟩) len (cap + l.extra)) lo' hi' none).run P w =
              .ok (.slice (if cap + l.extra = lo0 then some ⟨l.blk, l.off + ao, none⟩ else some ((⟨l.blk, l.off + ao, none⟩ : Addr).add (lo0 * ei.size))) (hi0 - lo0) (cap + l.extra - lo0)) w := by
            simp only [Instr.slice, Sem.run_bind, run_underlyingA ht, Result.andThen_ok, hd]
            rw [run_sliceBounds (by omega) hlo hhi hil hih hb]
            simp [run_sizeOfA he]
          refine ⟨_, hrun, ?_⟩
          split at h
          · rename_i hcl
            subst hcl
            have h0 : hi0 = cap := by omega
            subst h0
            simp only [Option.some.injEq] at h; subst h
            simp only [Nat.sub_self]
            cases room with
            | true =>
              simp only [if_true]
              have := VR.slice0 (ι := ι) (o := ao) (k := hi0 * ei.size) hl
              by_cases hx0 : l.extra = 0
              · simp only [hx0, if_true, Nat.add_zero] at this ⊢
                simpa using this
              · rw [if_neg (by omega), Addr.add_none]
                rw [if_neg hx0] at this
                rw [show hi0 + l.extra - hi0 = l.extra from by omega]
                exact this
            | false =>
              have hx0 := p5 rfl
              simp only [Bool.false_eq_true, if_false, hx0, Nat.add_zero, if_true, Nat.sub_self]
              have := VR.slice (ι := ι) (o := ao) 0 0 hl
              simpa [hx0] using this
          · rename_i hcl
            simp only [Option.some.injEq] at h; subst h
            rw [if_neg (by omega), Addr.add_none, Addr.add_none]
            have := VR.slice (ι := ι) (o := ao + lo0 * ei.size) (hi0 - lo0) (cap - lo0) hl
            rw [show cap + l.extra - lo0 = cap - lo0 + l.extra from by omega, Nat.add_assoc]
            exact this
        · cases h
      · cases h
    · -- an array
      rename_i m e a hd
      obtain ⟨ab, ao, as⟩ := a
      cases as with
      | some _ => cases h
      | none =>
      simp only at h
      obtain ⟨_, _, l, e1, hl, rfl⟩ := ptr_inv hx
      cases e1
      split at h
      · rename_i lo0 hi0 ei c z m' e' ro ver hb he hH
        split at h
        · rename_i hle
          obtain ⟨l', arr, e'', fz, p1, p2, p3, p4, p5, _⟩ := cells_of hR hH
          rw [hl] at p1; cases p1
          have hx0 := p5 rfl
          simp only [Option.some.injEq] at h; subst h
          rw [hd]
          simp only [Instr.sureAddr, Sem.run_bind, Sem.run_pure, Result.andThen_ok]
          rw [run_sliceBounds (Nat.le_refl _) hlo hhi hil hih hb]
          simp only [Result.andThen_ok, run_sizeOfA he]
          refine ⟨_, rfl, ?_⟩
          split
          · have := VR.slice (ι := ι) (o := ao) (hi0 - lo0) (m - lo0) hl
            simpa [hx0] using this
          · have := VR.slice (ι := ι) (o := ao + lo0 * ei.size) (hi0 - lo0) (m - lo0) hl
            rw [Addr.add_none, Addr.add_none]
            simpa [hx0, Nat.add_assoc] using this
        · cases h
      · cases h
    · cases h
  · cases h
end Go.Dust
