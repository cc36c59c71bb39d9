/- Operations that only read: the last ones, and all of them in one. -/
import Derived.Test.YthgncfnofmglgaaGreatDe
import Derived.Laws.Tables
namespace Go.Dust
variable {P : Program} {ι : Inj} {H : Look} {n : Nat} {w : World}

/-! ### Structs and arrays by value -/
inductive PRs (ι : Inj) : List (Nat × Value) → List (Nat × Value) → Prop
  | nil : PRs ι [] []
  | cons {i : Nat} {v u : Value} {l l' : List (Nat × Value)} (h : VR ι v u) (t : PRs ι l l') : PRs ι ((i, v) :: l) ((i, u) :: l')

theorem VRs.setIf {cs ds : Array Value} (h : VRs ι cs.toList ds.toList) {v u : Value} (hv : VR ι v u) (i : Nat) : VRs ι (cs.setIfInBounds i v).toList (ds.setIfInBounds i u).toList := by
  refine .of_get (by simpa using h.length) ?_
  intro j x y hx hy
  have hsz := h.size
  simp only [Array.toList_setIfInBounds, List.getElem?_set] at hx hy
  by_cases hij : i = j
  · subst hij
    simp only [if_true] at hx hy
    split at hx
    · simp only [Option.some.injEq] at hx; subst hx
      split at hy
      · simp only [Option.some.injEq] at hy; subst hy; exact hv
      · cases hy
    · cases hx
  · simp only [hij, if_false] at hx hy
    exact h.get j hx hy

theorem fold_set : ∀ (vs us : List Value) (k off : Nat) (cs ds : Array Value), VRs ι vs us → VRs ι cs.toList ds.toList →
    VRs ι ((vs.zipIdx k).foldl (fun cs (x : Value × Nat) => cs.setIfInBounds (off + x.2) x.1) cs).toList ((us.zipIdx k).foldl (fun cs (x : Value × Nat) => cs.setIfInBounds (off + x.2) x.1) ds).toList
  | _, _, _, _, _, _, .nil, h => by simpa using h
  | v :: vs, u :: us, k, off, cs, ds, .cons hv t, h => by
    simp only [List.zipIdx_cons, List.foldl_cons]
    exact fold_set vs us (k + 1) off _ _ t (h.setIf hv _)

theorem fill_sound {place : Nat → Option (Nat × Nat)} : ∀ {parts parts' : List (Nat × Value)} (_ : PRs ι parts parts') {cs ds : Array Value} (_ : VRs ι cs.toList ds.toList) {r : Array Value},
    Instr.fill place cs parts = some r → ∃ r', Instr.fill place ds parts' = some r' ∧ VRs ι r.toList r'.toList
  | _, _, .nil, cs, ds, h, r, hr => by
    simp only [Instr.fill, Option.some.injEq] at hr; subst hr
    exact ⟨ds, rfl, h⟩
  | _, _, .cons (i := i) (v := v) (u := u) hv t, cs, ds, h, r, hr => by
    simp only [Instr.fill] at hr ⊢
    split at hr
    · cases hr
    · rename_i off size hp
      split at hr
      · cases hr
      · rename_i hc
        have hvc := hv.cells
        have hsz : v.cells.size = u.cells.size := hvc.size
        have hcs : cs.size = ds.size := h.size
        rw [← hsz, ← hcs, if_neg hc]
        refine fill_sound t ?_ hr
        rw [← Array.foldl_toList, ← Array.foldl_toList]
        simpa using fold_set _ _ 0 off cs ds hvc h

theorem run_placesA : ∀ (fs : List Field), fs.all (fun f => ((env P).ty f.type).isSome) = true →
    (fs.mapM fun f => Prod.mk f.offset <$> sizeOf f.type).run P w = .ok (fs.map fun f => (f.offset, match (env P).ty f.type with | some ti => ti.size | none => 0)) w
  | [], _ => by simp
  | f :: fs, h => by
    simp only [List.all_cons, Bool.and_eq_true] at h
    obtain ⟨ti, hti⟩ := Option.isSome_iff_exists.1 h.1
    simp [List.mapM_cons, run_sizeOfA hti, run_placesA fs h.2, hti]

theorem build_sound {t : TypeId} {parts parts' : List (Nat × Value)} (hp : PRs ι parts parts') {v : Value} (h : buildA (env P) t parts = some v) (pa : Array (Nat × Value)) (hpa : pa.toList = parts') :
    Gives P ι w (Instr.build t pa) v := by
  unfold Gives
  unfold buildA at h
  split at h
  · rename_i fields sz by_ z ag me cm ht
    split at h
    · rename_i hall
      split at h
      · rename_i cs hf
        simp only [Option.some.injEq] at h; subst h
        have hz : VR ι z z := .closed (zero_closed ht rfl)
        obtain ⟨r', g1, g2⟩ := fill_sound hp hz.cells hf
        refine ⟨.agg r', ?_, .agg' g2⟩
        have hpl := run_placesA (P := P) (w := w) fields.toList hall
        have g1' : Instr.fill (fun x => (fields.map fun f => (f.offset, match (env P).ty f.type with | some ti => ti.size | none => 0))[x]?) z.cells pa.toList = some r' := by rw [hpa]; exact g1
        simp only [Instr.build, Sem.run_bind, run_zeroA ht rfl, run_underlyingA ht, Result.andThen_ok]
        have hm : ((fields.mapM fun f => do pure (f.offset, ← sizeOf f.type)) : Sem (Array (Nat × Nat))).run P w = .ok (fields.map fun f => (f.offset, match (env P).ty f.type with | some ti => ti.size | none => 0)) w := by
          rw [Array.mapM_eq_mapM_toList]
          have : (fun (f : Field) => (do pure (f.offset, ← sizeOf f.type) : Sem (Nat × Nat))) = fun f => Prod.mk f.offset <$> sizeOf f.type := by
            funext f; rfl
          rw [this, Sem.run_map, hpl]
          simp only [Result.andThen_ok]
          congr 1
          apply Array.toList_inj.1
          simp
        rw [hm]
        simp only [Result.andThen_ok, g1']
        rfl
      · cases h
    · cases h
  · rename_i len e sz by_ z ag me cm ht
    split at h
    · rename_i ei he
      split at h
      · rename_i cs hf
        simp only [Option.some.injEq] at h; subst h
        have hz : VR ι z z := .closed (zero_closed ht rfl)
        obtain ⟨r', g1, g2⟩ := fill_sound hp hz.cells hf
        refine ⟨.agg r', ?_, .agg' g2⟩
        simp only [Instr.build, Sem.run_bind, run_zeroA ht rfl, run_underlyingA ht, Result.andThen_ok, run_sizeOfA he, hpa, g1]
        rfl
      · cases h
    · cases h
  · cases h

/-! ### Addresses -/
theorem fieldAddr_sound {s : TypeId} {x x' v : Value} {f : Nat} (hx : VR ι x x') (h : fieldAddrA (env P) s x f = some v) : Gives P ι w (Instr.fieldAt s x' f) v := by
  unfold Gives
  unfold fieldAddrA at h
  split at h
  · rename_i fields sz by_ ze ag me cm a hx ht
    obtain ⟨ab, ao, l, rfl, hl, rfl⟩ := ptr_inv hx
    split at h
    · rename_i fd hfd hs
      split at h
      · rename_i ti hti
        split at h
        · cases h
        · rename_i hsz
          simp only [Option.some.injEq] at h; subst h
          refine ⟨.pointer (some ⟨l.blk, l.off + (ao + fd.offset), none⟩), ?_, by rw [Addr.add_none]; exact .ptr hl⟩
          simp only [Instr.fieldAt, Sem.run_bind, run_underlyingA ht, Result.andThen_ok, hfd, Instr.sureAddr, Sem.run_pure, fieldPlace, run_sizeOfA hti, hsz, if_false, Addr.add_none, Nat.add_assoc]
      · cases h
    · cases h
  · cases h

theorem indexAddr_sound {t : TypeId} {x x' i i' v : Value} (hx : VR ι x x') (hi : VR ι i i') (h : indexAddrA (env P) t x i = some v) : Gives P ι w (Instr.indexAt t x' i') v := by
  unfold Gives
  unfold indexAddrA at h
  split at h
  · rename_i e sz by_ ze ag me cm a len cap k m ht
    rw [hi.int_eq]
    obtain ⟨ab, ao, as⟩ := a
    split at h
    · rename_i ei he hs
      cases (show as = none from hs)
      obtain ⟨l, hl, rfl⟩ := slice_inv hx
      split at h
      · rename_i hb
        simp only [Option.some.injEq] at h; subst h
        refine ⟨.pointer (some ⟨l.blk, l.off + (ao + m.toNat * ei.size), none⟩), ?_, by rw [Addr.add_none]; exact .ptr hl⟩
        simp only [Instr.indexAt, asIntOf, Sem.run_bind, Sem.run_pure, run_underlyingA ht, Result.andThen_ok, run_sizeOfA he, hb, and_self, if_true, Addr.add_none, Nat.add_assoc]
      · cases h
    · cases h
  · rename_i len e sz by_ ze ag me cm a k m ht
    rw [hi.int_eq]
    obtain ⟨ab, ao, as⟩ := a
    split at h
    · rename_i ei he hs
      cases (show as = none from hs)
      obtain ⟨_, _, l, e1, hl, rfl⟩ := ptr_inv hx
      cases e1
      split at h
      · rename_i hb
        simp only [Option.some.injEq] at h; subst h
        refine ⟨.pointer (some ⟨l.blk, l.off + (ao + m.toNat * ei.size), none⟩), ?_, by rw [Addr.add_none]; exact .ptr hl⟩
        simp only [Instr.indexAt, asIntOf, Instr.sureAddr, Sem.run_bind, Sem.run_pure, run_underlyingA ht, Result.andThen_ok, run_sizeOfA he, hb, and_self, if_true, Addr.add_none, Nat.add_assoc]
      · cases h
    · cases h
  · cases h

theorem index_sound {t : TypeId} {x x' i i' v : Value} (hx : VR ι x x') (hi : VR ι i i') (h : indexA (env P) t x i = some v) : Gives P ι w (Instr.index t x' i') v := by
  unfold Gives
  unfold indexA at h
  split at h
  · rename_i sz by_ ze ag me cm s k m hx hi ht
    rw [hi.int_eq, hx.string_eq]
    split at h
    · rename_i h0
      split at h
      · rename_i b hb
        simp only [Option.some.injEq] at h; subst h
        refine ⟨_, ?_, .int _ _⟩
        simp only [Instr.index, asIntOf, Sem.run_bind, Sem.run_pure, run_underlyingA ht, Result.andThen_ok, h0, if_true, hb]
      · cases h
    · cases h
  · rename_i len e sz by_ ze ag me cm cs k m hx hi ht
    rw [hi.int_eq]
    obtain ⟨cs', rfl, hcs⟩ := hx.agg_inv
    split at h
    · rename_i ei he
      split at h
      · rename_i hb
        obtain ⟨u, g1, g2⟩ := part_sound (P := P) (w := w) hcs h
        refine ⟨u, ?_, g2⟩
        simp only [Instr.index, asIntOf, Sem.run_bind, Sem.run_pure, run_underlyingA ht, Result.andThen_ok, hb, and_self, if_true, run_sizeOfA he, g1]
      · cases h
    · cases h
  · cases h

theorem field_sound {t : TypeId} {x x' v : Value} {f : Nat} (hx : VR ι x x') (h : fieldA (env P) t x f = some v) : Gives P ι w (Instr.field t x' f) v := by
  unfold Gives
  unfold fieldA at h
  split at h
  · rename_i fields sz by_ ze ag me cm cs hx ht
    obtain ⟨cs', rfl, hcs⟩ := hx.agg_inv
    split at h
    · rename_i fd hfd
      obtain ⟨u, g1, g2⟩ := part_sound (P := P) (w := w) hcs h
      refine ⟨u, ?_, g2⟩
      simp only [Instr.field, asAgg, Sem.run_bind, Sem.run_pure, run_underlyingA ht, Result.andThen_ok, hfd, g1]
    · cases h
  · cases h

/-! ### Interfaces -/
theorem missing_none {want : Array (String × TypeId)} {got : Array Method} (h : hasMethods want got = true) : Instr.missingMethod want got = none := by
  unfold Instr.missingMethod
  have hnil : (want.toList.filter fun (name, sig) => !got.any fun m => m.name == name && m.sig == sig) = [] := by
    rw [List.filter_eq_nil_iff]
    intro x hx
    have := List.all_eq_true.1 h x hx
    simp at this ⊢
    exact this
  simp [hnil, Instr.least]
theorem least_parts (p : String → Bool) (f : String → String) : ∀ (l : List String), l ≠ [] → (Instr.least (l.partition p).2 <|> Instr.least ((l.partition p).1.map f)) ≠ none
  | [], h => absurd rfl h
  | x :: l, _ => by
    rw [List.partition_eq_filter_filter]
    simp only [List.filter_cons]
    cases hc : p x <;> simp [hc, Instr.least]
theorem missing_some {want : Array (String × TypeId)} {got : Array Method} (h : hasMethods want got = false) : ∃ m, Instr.missingMethod want got = some m := by
  have hne : (want.toList.filter fun (name, sig) => !got.any fun m => m.name == name && m.sig == sig) ≠ [] := by
    intro hnil
    rw [List.filter_eq_nil_iff] at hnil
    have : hasMethods want got = true := by
      unfold hasMethods
      rw [List.all_eq_true]
      intro x hx
      have := hnil x hx
      simp at this ⊢
      exact this
    rw [this] at h; cases h
  cases hm : Instr.missingMethod want got with
  | some m => exact ⟨m, rfl⟩
  | none =>
    unfold Instr.missingMethod at hm
    exact (least_parts _ _ ((want.toList.filter fun (name, sig) => !got.any fun m => m.name == name && m.sig == sig).map (·.1)) (by simpa using hne) hm).elim
theorem typeAssert_sound {x x' v : Value} {xt t : TypeId} {ok : Bool} (hx : VR ι x x') (h : typeAssertA (env P) x t ok = some v) : Gives P ι w (Instr.typeAssert x' xt t ok) v := by
  unfold Gives
  unfold typeAssertA at h
  split at h
  · rename_i want sz by_ z ag me cm dt dv hx ht
    cases hx with
    | iface _ hv =>
    rename_i dv'
    split at h
    · rename_i di hdi
      obtain ⟨inf, e1, _, e3⟩ := run_bytesA (w := w) hdi
      split at h
      · rename_i hm
        rw [e3.symm] at hm
        have hmm := missing_none hm
        simp only [Instr.typeAssert, Sem.run_bind, run_underlyingA ht, Result.andThen_ok, e1, hmm, Sem.run_pure]
        simp only [Option.some.injEq] at h; subst h
        cases ok
        · exact ⟨_, rfl, .iface _ hv⟩
        · exact ⟨_, rfl, pair_tuple (.iface _ hv) _⟩
      · rename_i hm
        rw [e3.symm] at hm
        obtain ⟨m, hmm⟩ := missing_some (by simpa using hm)
        split at h
        · rename_i hok
          subst hok
          simp only [Option.some.injEq] at h; subst h
          simp only [Instr.typeAssert, Sem.run_bind, run_underlyingA ht, Result.andThen_ok, e1, hmm, if_true, run_zeroA ht rfl, Sem.run_pure]
          exact ⟨_, rfl, pair_tuple (.closed (zero_closed ht rfl)) _⟩
        · cases h
    · cases h
  · cases h
  · rename_i di dt dv hn1 hn2 ht
    cases hx with
    | iface _ hv =>
    rename_i dv'
    have hni : ∀ m, di.desc ≠ .interface m := by
      intro m hm
      obtain ⟨dd, a1, a2, a3, a4, a5, a6⟩ := di
      simp only at hm
      subst hm
      exact hn2 _ _ _ _ _ _ _ rfl
    split at h
    · rename_i hdt
      subst hdt
      simp only [Option.some.injEq] at h; subst h
      have hrun : (Instr.typeAssert (.iface dt dv') xt dt ok).run P w = .ok (if ok then .tuple #[dv', .bool true] else dv') w := by
        unfold Instr.typeAssert
        simp only [Sem.run_bind, run_underlyingA ht, Result.andThen_ok]
        cases hd : di.desc with
        | interface m => exact (hni m hd).elim
        | _ => simp
      refine ⟨_, hrun, ?_⟩
      cases ok
      · exact hv
      · exact pair_tuple hv _
    · cases h
  · cases h
/-! ### The rest -/
theorem min_sound : ∀ {l l' : List Value} {v v' r : Value}, VR ι v v' → VRs ι l l' → minmaxA (fun x y => decide (y < x)) v l = some r → Gives P ι w (l'.foldlM Builtin.min2 v') r
  | [], _, v, v', r, hv, .nil, h => by
    simp only [minmaxA, Option.some.injEq] at h; subst h
    exact ⟨v', by simp, hv⟩
  | u :: l, u' :: l', v, v', r, hv, .cons hu t, h => by
    unfold minmaxA at h
    split at h
    · rename_i heq; cases heq
    · rename_i k x k' y rest heq
      cases heq
      split at h
      · rename_i hk
        subst hk
        rw [hv.int_eq, hu.int_eq]
        obtain ⟨r', g1, g2⟩ := min_sound (VR.int (ι := ι) k (if decide (y < x) = true then y else x)) t h
        refine ⟨r', ?_, g2⟩
        simp only [List.foldlM_cons, Builtin.min2, Sem.run_bind, Sem.run_pure, Result.andThen_ok]
        simpa using g1
      · cases h
    · cases h
theorem max_sound : ∀ {l l' : List Value} {v v' r : Value}, VR ι v v' → VRs ι l l' → minmaxA (fun x y => decide (y > x)) v l = some r → Gives P ι w (l'.foldlM Builtin.max2 v') r
  | [], _, v, v', r, hv, .nil, h => by
    simp only [minmaxA, Option.some.injEq] at h; subst h
    exact ⟨v', by simp, hv⟩
  | u :: l, u' :: l', v, v', r, hv, .cons hu t, h => by
    unfold minmaxA at h
    split at h
    · rename_i heq; cases heq
    · rename_i k x k' y rest heq
      cases heq
      split at h
      · rename_i hk
        subst hk
        rw [hv.int_eq, hu.int_eq]
        obtain ⟨r', g1, g2⟩ := max_sound (VR.int (ι := ι) k (if decide (y > x) = true then y else x)) t h
        refine ⟨r', ?_, g2⟩
        simp only [List.foldlM_cons, Builtin.max2, Sem.run_bind, Sem.run_pure, Result.andThen_ok]
        simpa using g1
      · cases h
    · cases h

theorem len_sound (hR : R (env P) ι H n w) {t : TypeId} {x x' v : Value} (hx : VR ι x x') (h : lenOfA (env P) H t x = some v) (ts : Array TypeId) (hts : ts[0]? = some t) (rt : TypeId) :
    Gives P ι w (Builtin.len_ ts rt #[x']) v := by
  unfold Gives
  unfold lenOfA at h
  cases ht : (env P).ty t with
  | none => rw [ht] at h; cases h
  | some i =>
    rw [ht] at h
    simp only at h
    have hun := run_underlyingA (w := w) ht
    split at h
    · rename_i hd
      rw [hx.string_eq]
      simp only [Option.some.injEq] at h; subst h
      refine ⟨_, ?_, .int _ _⟩
      simp [goInt, Builtin.len_, hts, hun, hd]
    · rename_i hd
      simp only [Option.some.injEq] at h; subst h
      refine ⟨_, ?_, .int _ _⟩
      simp [goInt, Builtin.len_, hts, hun, hd]
    · rename_i hd
      simp only [Option.some.injEq] at h; subst h
      refine ⟨_, ?_, .int _ _⟩
      cases hx <;> simp [goInt, Builtin.len_, hts, hun, hd]
    · rename_i hd
      simp only [Option.some.injEq] at h; subst h
      rw [nilmap_inv hx]
      refine ⟨_, ?_, .int _ _⟩
      simp [goInt, Builtin.len_, hts, hun, hd]
    · rename_i r hd
      obtain ⟨l, hl, rfl⟩ := map_inv hx
      split at h
      · rename_i es c hm
        simp only [Option.some.injEq] at h; subst h
        obtain ⟨l', es', q1, q2, q3, q4, q5, q6⟩ := mapOf_sound hR hm
        rw [hl] at q1; cases q1
        refine ⟨_, ?_, .int _ _⟩
        have := q6.length
        simp [goInt, Builtin.len_, hts, hun, hd, run_getMap q5, this]
      · cases h
    · cases h

theorem ERs.find {b : Nat} : ∀ {es es' : List MapEntry} {e : MapEntry}, ERs ι es es' → es.find? (fun x => x.born == b) = some e → ∃ e', es'.find? (fun x => x.born == b) = some e' ∧ ER ι e e'
  | _, _, _, .nil, h => by cases h
  | x :: es, x' :: es', e, .cons hx t, h => by
    simp only [List.find?_cons] at h ⊢
    rw [← hx.born]
    cases hb : (x.born == b) with
    | true =>
      rw [hb] at h
      simp only [Option.some.injEq] at h; subst h
      exact ⟨x', rfl, hx⟩
    | false =>
      rw [hb] at h
      exact ERs.find t h

theorem entry_sound (hR : R (env P) ι H n w) {x x' v : Value} (hx : VR ι x x') (h : entryA H x = some v) : Gives P ι w (Instr.entry x') v := by
  unfold Gives
  unfold entryA at h
  split at h
  · rename_i a hx
    obtain ⟨ab, ao, l, rfl, hl, rfl⟩ := ptr_inv hx
    split at h
    · rename_i h0
      cases (show ao = 0 from h0.1)
      simp only at h
      split at h
      · rename_i m since last rest stepped ver hH
        obtain ⟨l', g1, g2, g3, g4, lm, g5, g6⟩ := hR.obj _ _ hH rfl
        rw [hl] at g1; cases g1
        split at h
        · rename_i es clock hm
          obtain ⟨l'', es', q1, q2, q3, q4, q5, q6⟩ := mapOf_sound hR hm
          rw [g5] at q1; cases q1
          split at h
          · rename_i hc
            subst hc
            split at h
            · rename_i e hf
              simp only [Option.some.injEq] at h; subst h
              obtain ⟨e', r1, r2⟩ := q6.find hf
              refine ⟨.tuple #[e'.key, e'.val], ?_, .tuple' (.cons r2.key (.cons r2.val .nil))⟩
              have hg : (getObj l.blk).run P w = .ok (.mapIter (some lm.blk) since (last :: rest).reverse.toArray clock) w := by simp [getObj, Sem.run, g6]
              have hback : ((last :: rest).reverse.toArray).back? = some last := by simp
              have r1' : es'.find? (fun x => x.born == last) = some e' := by simpa using r1
              have hxx : (⟨l.blk, l.off + 0, none⟩ : Addr) = ⟨l.blk, 0, none⟩ := by rw [g3]
              rw [hxx]
              simp only [Instr.entry, Sem.run_bind, hg, Result.andThen_ok, hback, run_getMap q5, bne_self_eq_false, Bool.false_eq_true, if_false, Sem.run_pure, r1']
            · cases h
          · cases h
        · cases h
      · cases h
    · cases h
  · cases h

theorem VRs.mapArr {ρ ρc : Operand → Value} (a : Array Operand) (h : ∀ x ∈ a.toList, VR ι (ρ x) (ρc x)) : VRs ι (a.map ρ).toList (a.map ρc).toList := by
  simp only [Array.toList_map]
  exact .map₂ _ h

theorem optVR {ρ ρc : Operand → Value} (o : Option Operand) (h : ∀ x ∈ o.toArray.toList, VR ι (ρ x) (ρc x)) : OptVR ι (o.map ρ) (o.map ρc) := by
  cases o with
  | none => trivial
  | some x => exact h x (by simp)

/-- **A STILL OPERATION.** -/
theorem still_sound (hR : R (env P) ι H n w) {ρ ρc : Operand → Value} {o : Oper} (hρ : ∀ x ∈ o.op.operands.toList, VR ι (ρ x) (ρc x)) {v : Value} (h : stillA (env P) H ρ o.op = some v) :
    ∃ v', (execOp ρc o).run P w = .ok (.value v') w ∧ VR ι v v' := by
  have lift : ∀ (s : Sem Value), Gives P ι w s v → ∃ v', (do pure (.value (← s)) : Sem Next).run P w = .ok (.value v') w ∧ VR ι v v' := by
    rintro s ⟨v', h1, h2⟩
    exact ⟨v', by simp [h1], h2⟩
  unfold execOp
  cases hop : o.op <;> rw [hop] at h hρ <;> simp only [stillA] at h <;> simp only [Op.operands] at hρ
  case move x =>
    simp only [Option.some.injEq] at h; subst h
    exact ⟨_, rfl, hρ x (by simp)⟩
  case assign x =>
    simp only [Option.some.injEq] at h; subst h
    exact ⟨_, rfl, hρ x (by simp)⟩
  case pick c a b =>
    have hc := hρ c (by simp)
    split at h
    · rename_i t hcv
      rw [hcv] at hc
      simp only [Option.some.injEq] at h; subst h
      refine ⟨if t then ρc a else ρc b, by simp [hc.bool_eq, asBool], ?_⟩
      cases t
      · exact hρ b (by simp)
      · exact hρ a (by simp)
    · cases h
  case build t parts =>
    refine lift _ ?_
    refine build_sound ?_ h _ rfl
    have : ∀ (l : List (Nat × Operand)), (∀ x ∈ l, VR ι (ρ x.2) (ρc x.2)) → PRs ι (l.map fun (i, x) => (i, ρ x)) (l.map fun (i, x) => (i, ρc x)) := by
      intro l
      induction l with
      | nil => intro _; exact .nil
      | cons y l ih => intro hl; exact .cons (hl y (by simp)) (ih fun z hz => hl z (by simp [hz]))
    rw [Array.toList_map]
    exact this _ fun x hx => hρ _ (by simp; exact ⟨x.1, by simpa using hx⟩)
  case load t a =>
    split at h
    · rename_i ad ha
      have hv := hρ a (by simp)
      rw [ha] at hv
      obtain ⟨b, o', l, rfl, hl, he⟩ := ptr_inv hv
      refine lift _ ?_
      rw [he]
      obtain ⟨v', g1, g2⟩ := loadT_sound hR hl h
      exact ⟨v', by simp [Instr.loadAt, Instr.sureAddr, g1], g2⟩
    · cases h
  case nilCheck x =>
    have hv := hρ x (by simp)
    dsimp only
    generalize ρc x = u at hv
    generalize ρ x = y at hv h
    unfold nilCheckA at h
    split at h
    · simp only [Option.some.injEq] at h; subst h
      obtain ⟨_, _, l, rfl, hl, rfl⟩ := ptr_inv hv
      exact ⟨_, rfl, .ptr hl⟩
    · simp only [Option.some.injEq] at h; subst h
      obtain ⟨a', b', rfl, h1, h2⟩ := hv.func_inv
      exact ⟨_, rfl, hv⟩
    · simp only [Option.some.injEq] at h; subst h
      cases hv with
      | yield hl => exact ⟨_, rfl, .yield hl⟩
    · simp only [Option.some.injEq] at h; subst h
      cases hv with
      | iface _ hvv => exact ⟨_, rfl, .iface _ hvv⟩
    · cases h
  case binOp op t x y yt =>
    refine lift _ ?_
    exact binop_sound hR (hρ x (by simp)) (hρ y (by simp)) h
  case unOp op t x =>
    exact lift _ (unop_sound (hρ x (by simp)) h)
  case convert s d x =>
    exact lift _ (convert_sound (hρ x (by simp)) h)
  case makeInterface t x =>
    split at h
    · rename_i i hi
      have hv := hρ x (by simp)
      refine lift _ ⟨.iface t (ρc x), ?_, ?_⟩
      · unfold Instr.makeInterface
        simp only [Sem.run_bind, run_underlyingA hi, Result.andThen_ok]
        split at h
        · cases h
        · rename_i hne
          cases hd : i.desc with
          | interface m => exact (hne m hd).elim
          | _ => rfl
      · split at h
        · cases h
        · simp only [Option.some.injEq] at h; subst h
          exact .iface _ hv
    · cases h
  case makeFunc fn first captured =>
    have h1 := VRs.mapArr (ι := ι) (ρ := ρ) (ρc := ρc) first fun x hx => hρ x (by simp at hx ⊢; exact .inl hx)
    have h2 := VRs.mapArr (ι := ι) (ρ := ρ) (ρc := ρc) captured fun x hx => hρ x (by simp at hx ⊢; exact .inr hx)
    split at h
    · simp only [Option.some.injEq] at h; subst h
      exact lift _ ⟨_, rfl, .func h1.size h2.size h1.arr h2.arr⟩
    · simp only [Option.some.injEq] at h; subst h
      exact lift _ ⟨_, rfl, .meth h1.size h2.size h1.arr h2.arr⟩
    · cases h
  case slice t x lo hi mx =>
    refine lift _ (slice_sound hR (hρ x (by simp)) (optVR lo ?_) (optVR hi ?_) (optVR mx ?_) h)
    · intro y hy; exact hρ y (by simp at hy ⊢; simp [hy])
    · intro y hy; exact hρ y (by simp at hy ⊢; simp [hy])
    · intro y hy; exact hρ y (by simp at hy ⊢; simp [hy])
  case fieldAddr s x f => exact lift _ (fieldAddr_sound (hρ x (by simp)) h)
  case field t x f => exact lift _ (field_sound (hρ x (by simp)) h)
  case indexAddr t x i => exact lift _ (indexAddr_sound (hρ x (by simp)) (hρ i (by simp)) h)
  case index t x i => exact lift _ (index_sound (hρ x (by simp)) (hρ i (by simp)) h)
  case lookup t x k ok => exact lift _ (lookup_sound hR (hρ x (by simp)) (hρ k (by simp)) h)
  case extract t i =>
    have hv := hρ t (by simp)
    split at h
    · rename_i vs hvs
      rw [hvs] at hv
      obtain ⟨vs', he, hr⟩ := hv.tuple_inv
      obtain ⟨u, g1, g2⟩ := hr.getSome i (v := v) (by simpa using h)
      refine lift _ ⟨u, ?_, g2⟩
      have g1' : vs'[i]? = some u := by simpa using g1
      simp [he, Instr.extract, g1']
    · cases h
  case entry it => exact lift _ (entry_sound hR (hρ it (by simp)) h)
  case typeAssert x xt t ok => exact lift _ (typeAssert_sound (hρ x (by simp)) h)
  case call c =>
    obtain ⟨callee, args, argTypes⟩ := c
    simp only at h
    have hargs : VRs ι (args.toList.map ρ) (args.toList.map ρc) := .map₂ _ fun x hx => hρ x (by simp [Call.operands]; exact .inr (by simpa using hx))
    have hrun : ∀ b, callee = .builtin b → (resolve ρc { callee, args, argTypes } o.type).run P w = .ok { target := .builtin b argTypes o.type (args.map fun | .const _ => true | _ => false), args := args.map ρc } w := by
      intro b hb; subst hb; rfl
    split at h
    · have hr := hrun _ rfl
      simp only [Sem.run_bind, hr, Result.andThen_ok, invoke, builtin]
      split at h
      · rename_i t x ht hx
        have hlen := len_sound hR (hρ x (by simp [Call.operands]; exact Array.mem_of_getElem? hx)) h argTypes ht o.type
        obtain ⟨v', g1, g2⟩ := hlen
        refine ⟨v', ?_, g2⟩
        have hx' : (args.map ρc)[0]? = some (ρc x) := by simp [hx]
        have : (Builtin.len_ argTypes o.type (args.map ρc)).run P w = .ok v' w := by
          rw [← g1]
          unfold Builtin.len_
          simp only [ht, hx']
          simp
        simp [this]
      · cases h
    · have hr := hrun _ rfl
      simp only [Sem.run_bind, hr, Result.andThen_ok, invoke, builtin]
      split at h
      · rename_i v0 rest hl
        rw [hl] at hargs
        generalize hl' : args.toList.map ρc = l' at hargs
        cases hargs with
        | cons hv ht =>
        obtain ⟨v', g1, g2⟩ := min_sound (P := P) (w := w) hv ht h
        refine ⟨v', ?_, g2⟩
        simp only [Builtin.min_, Array.toList_map, hl', g1, Result.andThen_ok, Sem.run_pure]
      · cases h
    · have hr := hrun _ rfl
      simp only [Sem.run_bind, hr, Result.andThen_ok, invoke, builtin]
      split at h
      · rename_i v0 rest hl
        rw [hl] at hargs
        generalize hl' : args.toList.map ρc = l' at hargs
        cases hargs with
        | cons hv ht =>
        obtain ⟨v', g1, g2⟩ := max_sound (P := P) (w := w) hv ht h
        refine ⟨v', ?_, g2⟩
        simp only [Builtin.max_, Array.toList_map, hl', g1, Result.andThen_ok, Sem.run_pure]
      · cases h
    · cases h
  all_goals cases h
end Go.Dust
