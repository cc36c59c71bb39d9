/- One operation, whatever it is, inside a walk. -/
import Derived.Test.YthgncfnofmglgaaGreatDi
import Derived.KernelRfl
namespace Go.Dust
variable {P : Program} {ι : Inj} {s s' : St} {w : World}

/-- The fence that lets everything in. -/
abbrev FW (r : Option Nat) : Fence := { Fence.wide with round := r }

/-- What a call comes to. -/
def Back (P : Program) (ι : Inj) (s : St) (w : World) (Φ : Value × St → Prop) : Ending → World → Prop
  | e, w' => ∃ v u s' ι', e = .returned u ∧ Φ (v, s') ∧ VR ι' v u ∧ RS P ι' s' w' ∧ ES ι s w ι' s' w'

structure CallOK (P : Program) (call : CallF) : Prop where
  fn : ∀ f args s Φ, (call f args s).All Φ → ∃ fn, (env P).fn f = some fn ∧ (fn.body = none → (externA s fn args).All Φ)
  calls : ∀ f fn args (args' : Array Value) s w ι Φ (r : Option Nat) (m : Nat), (env P).fn f = some fn → fn.body.isSome = true → (call f args s).All Φ → VRs ι args args'.toList → RS P ι s w →
    CallsIn (FW r) m P f args' w (Back P ι s w Φ)
def RoundOK (P : Program) (round : RoundF) : Prop := ∀ l args (args' : Array Value) s w ι Φ (r : Option Nat) (m : Nat), (round l args s).All Φ → VRs ι args args'.toList → RS P ι s w →
  ∃ (loc : Loc) (rec : Loop), ι l = some loc ∧ w.heap[loc.blk]? = some (.loop rec) ∧ args'.size = rec.params.size ∧
    RoundIn (FW r) m P loc.blk rec.fn ((rec.params.zip args').foldl (fun tmps (t, a) => tmps.setIfInBounds t a) rec.tmps) rec.assign rec.body w (Back P ι s w Φ)

section
variable {r : Option Nat} {m : Nat} {o : Oper} {act : Act} {K : Act → World → Prop} {Q : Exit → Act → World → Prop} {w' : World}
theorem wpIn_value (hd : ∀ c, o.op ≠ .defer c) {u : Value} (h : (execOp act.eval o).run P w = .ok (.value u) w') (hk : K (act.put o.dst u) w') : o.wpIn (FW r) m P act w K Q := by
  refine ⟨fun _ _ => trivial, ?_⟩
  rw [Oper.semAt_eq _ _ _ hd, h]
  exact hk
theorem wpIn_skipOp (hd : ∀ c, o.op ≠ .defer c) (h : (execOp act.eval o).run P w = .ok .skip w') (hk : K (act.put o.dst undef) w') : o.wpIn (FW r) m P act w K Q := by
  refine ⟨fun _ _ => trivial, ?_⟩
  rw [Oper.semAt_eq _ _ _ hd, h]
  exact hk
theorem wpIn_enter (hd : ∀ c, o.op ≠ .defer c) {f : FuncId} {args : Array Value} (h : (execOp act.eval o).run P w = .ok (.enter f args) w')
    (hk : CallsIn (FW r) (m - 1) P f args w' fun e w'' => match e with | .returned u => K (act.put o.dst u) w'' | .panicked chain => Q (.panic chain) act w'' | .outgrown => LetsOut Q) : o.wpIn (FW r) m P act w K Q := by
  refine ⟨fun _ _ => trivial, ?_⟩
  rw [Oper.semAt_eq _ _ _ hd, h]
  refine ⟨fun h => (by cases h), hk.mono fun e w'' he => ?_⟩
  cases e <;> exact he
theorem wpIn_round (hd : ∀ c, o.op ≠ .defer c) {l : Nat} {f : FuncId} {tmps : Array Value} {assign body : Code} (h : (execOp act.eval o).run P w = .ok (.round l f tmps assign body) w')
    (hk : RoundIn (FW r) (m - 1) P l f tmps assign body w' fun e w'' => match e with | .returned u => K (act.put o.dst u) w'' | .panicked chain => Q (.panic chain) act w'' | .outgrown => LetsOut Q) : o.wpIn (FW r) m P act w K Q := by
  refine ⟨fun _ _ => trivial, ?_⟩
  rw [Oper.semAt_eq _ _ _ hd, h]
  refine ⟨fun h => (by cases h), hk.mono fun e w'' he => ?_⟩
  cases e <;> exact he
end

/-! ### Calls -/
theorem run_callFunc {f : FuncId} {fn : Func} (h : (env P).fn f = some fn) (hb : fn.body.isSome = true) (args : Array Value) : (callFunc f args).run P w = .ok (.enter f args) w := by
  obtain ⟨h1, h2⟩ := fn_some h
  unfold okFn at h2
  obtain ⟨c, hc⟩ := Option.isSome_iff_exists.1 hb
  rw [hc] at h2
  simp only [Bool.and_eq_true, bne_iff_ne, ne_eq] at h2
  unfold callFunc
  simp only [Sem.run_bind, run_program, Result.andThen_ok, h1]
  rw [if_neg (by simpa using h2.1.1), if_neg (by simp [hc])]
  rfl

theorem look_next : Extern.allNextRows.lookup "maps.clone" = none := by kernel_rfl
theorem look_next0 : Extern.allNextRows.lookup "" = none := by kernel_rfl
theorem look_gen : Extern.allGenericRows.lookup "maps.clone" = none := by kernel_rfl
theorem look_typed : Extern.allTypedRows.lookup "maps.clone" = none := by kernel_rfl
theorem look_all : Extern.allRows.lookup "maps.clone" = some Extern.MapsClone.clone := by kernel_rfl

theorem extern_sound (hR : RS P ι s w) {f : FuncId} {fn : Func} (h : (env P).fn f = some fn) (hb : fn.body = none) {args : List Value} {args' : Array Value} (ha : VRs ι args args'.toList) {Φ : Value × St → Prop}
    (hA : (externA s fn args).All Φ) : ∃ v u s' ι' w', (callFunc f args').run P w = .ok (.value u) w' ∧ Φ (v, s') ∧ VR ι' v u ∧ RS P ι' s' w' ∧ ES ι s w ι' s' w' := by
  obtain ⟨h1, _⟩ := fn_some h
  unfold externA at hA
  split at hA
  · rename_i hn
    obtain ⟨hname, horig⟩ := hn
    split at hA
    · rename_i t b
      generalize hl : args'.toList = l' at ha
      cases ha with
      | cons hx ha =>
      cases ha with
      | nil =>
      cases hx with
      | iface _ hx =>
      obtain ⟨l, hl2, rfl⟩ := map_inv hx
      have hargs : args' = #[.iface t (.map (some l.blk))] := by apply Array.toList_inj.1; rw [hl]
      split at hA
      · rename_i es c ver hH
        obtain ⟨l', es', p1, p2, p3, p4, p5, p6⟩ := map_of hR hH
        rw [hl2] at p1; cases p1
        have hfree := hR.free
        obtain ⟨g1, g2⟩ := RS.new (ex := 0) hR (.map es' c) (f := fun v => .map es c v) ⟨rfl, rfl, rfl, es', heap_alloc_new, p6.mono (Inj.le_add hfree)⟩
        refine ⟨_, .iface t (.map (some w.heap.size)), _, _, _, ?_, hA, .iface _ (.map (Inj.add_same ι s.next _)), g1, g2⟩
        have hfind : Extern.findNext fn = none := by
          unfold Extern.findNext
          simp [hname, horig, look_next, look_next0]
        have hfind2 : Extern.find fn = some Extern.MapsClone.clone := by
          unfold Extern.find
          simp [hname, look_gen, look_typed, look_all]
        unfold callFunc
        simp only [Sem.run_bind, run_program, Result.andThen_ok, h1]
        rw [if_neg (by rw [hname]; decide), if_pos (by simp [hb])]
        have hcl : (Extern.MapsClone.clone #[.iface t (.map (some l.blk))]).run P w = .ok (.iface t (.map (some w.heap.size))) (w.alloc (.map es' c)) := by
          have e0 : Extern.MapsClone.clone #[.iface t (.map (some l.blk))] = (do
              let .map entries clock ← getObj l.blk | stuck "maps.clone: a map expected"
              pure (.iface t (.map (some (← newObj (.map entries clock)))))) := rfl
          rw [e0]
          simp only [Sem.run_bind, run_getMap p5, Result.andThen_ok, run_newObj, Sem.run_pure]
          rfl
        simp only [Sem.run_bind, run_mark, Result.andThen_ok, hfind, hfind2, hargs, hcl, Sem.run_pure]
      · exact hA.elim
    · exact hA.elim
  · exact hA.elim

/-! ### Methods -/
theorem follow1_sound : ∀ (path : List FieldStep) (t xt : TypeId) (v v' x : Value), VR ι v v' → follow1 (env P) path t v = some (xt, x) → ∃ x', (follow path t (.val v')).run P w = .ok (xt, .val x') w ∧ VR ι x x'
  | [], t, xt, v, v', x, hv, h => by
    simp only [follow1, Option.some.injEq, Prod.mk.injEq] at h
    obtain ⟨rfl, rfl⟩ := h
    exact ⟨v', rfl, hv⟩
  | st :: rest, t, xt, v, v', x, hv, h => by
    simp only [follow1] at h
    split at h
    · rename_i fields sz by_ ze ag me cm ht
      split at h
      · rename_i f cs hf hde
        obtain ⟨cs', rfl, hcs⟩ := hv.agg_inv
        split at h
        · rename_i u hu
          obtain ⟨u', g1, g2⟩ := part_sound (P := P) (w := w) hcs hu
          obtain ⟨x', k1, k2⟩ := follow1_sound rest f.type xt u u' x g2 h
          refine ⟨x', ?_, k2⟩
          simp only [follow, Sem.run_bind, run_underlyingA ht, Result.andThen_ok, hf, hde, Bool.false_eq_true, if_false, g1, k1]
        · cases h
      · cases h
    · cases h

theorem method_sound {t : TypeId} {v v' x : Value} {name : String} {f : FuncId} (hv : VR ι v v') (h : methodA (env P) t v name = some (f, x)) (k : Nat) :
    ∃ x', (method (k + 1) t v' name).run P w = .ok (f, x') w ∧ VR ι x x' := by
  unfold methodA at h
  cases ht : (env P).ty t with
  | none => rw [ht] at h; cases h
  | some i =>
    rw [ht] at h
    simp only at h
    obtain ⟨inf, e1, _, e3⟩ := run_bytesA (w := w) ht
    split at h
    · rename_i mm hm
      split at h
      · rename_i xt y hfo
        obtain ⟨y', g1, g2⟩ := follow1_sound (P := P) (w := w) _ _ _ _ _ _ hv hfo
        have hm' : inf.methods.find? (fun x => x.name == name) = some mm := by rw [e3]; exact hm
        split at h
        · rename_i f0 el sz by_ ze ag me cm hfun hxt
          simp only [Option.some.injEq, Prod.mk.injEq] at h
          obtain ⟨rfl, rfl⟩ := h
          refine ⟨y', ?_, g2⟩
          simp only [method, Sem.run_bind, e1, Result.andThen_ok, hm', g1, hfun, receiverAt, run_underlyingA hxt, Place.get, Sem.run_pure]
        · cases h
        · rename_i f0 xi hnp hfun hxt
          simp only [Option.some.injEq, Prod.mk.injEq] at h
          obtain ⟨rfl, rfl⟩ := h
          refine ⟨y', ?_, g2⟩
          simp only [method, Sem.run_bind, e1, Result.andThen_ok, hm', g1, hfun, receiverAt, run_underlyingA hxt]
          cases hd : xi.desc with
          | pointer el =>
            exfalso
            obtain ⟨a1, a2, a3, a4, a5, a6, a7⟩ := xi
            simp only at hd
            subst hd
            exact hnp _ _ _ _ _ _ _ rfl
          | _ => simp [Place.get]
        · cases h
      · cases h
    · cases h
end Go.Dust
