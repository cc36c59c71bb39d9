/- Ej Ei -/
import Derived.Test.YtelmjodchophjaaGreatDoorF
set_option linter.unusedVariables false
set_option linter.unusedSimpArgs false
section
/- The rules once more, with nothing bound: for simp. -/
namespace Go.Dust
noncomputable def loadP (X : Env) (H : Look) (t : TypeId) (v : Value) : Option Value := match v with
  | .pointer (some a) => loadT X H t a
  | _ => none
theorem loadP_ptr (X : Env) (H : Look) (t : TypeId) (a : Addr) : loadP X H t (.pointer (some a)) = loadT X H t a := rfl
noncomputable def binP (X : Env) (H : Look) (o : BinOp) (t : TypeId) (x y : Value) (c : Bool) : Option Value := if (bothNil x y && !c) = true then none else binop X H o t x y
theorem binP_of (X : Env) (H : Look) (o : BinOp) (t : TypeId) (x y : Value) (c : Bool) : binP X H o t x y c = if (bothNil x y && !c) = true then none else binop X H o t x y := rfl
def pickP (c x y : Value) : Option Value := match c with
  | .bool t => some (if t = true then x else y)
  | _ => none
theorem pickP_bool (t : Bool) (x y : Value) : pickP (.bool t) x y = some (if t = true then x else y) := rfl
def tupP (v : Value) (j : Nat) : Option Value := match v with
  | .tuple vs => vs[j]?
  | _ => none
theorem tupP_tup (vs : Array Value) (j : Nat) : tupP (.tuple vs) j = vs[j]? := rfl
noncomputable def storeP (X : Env) (s : St) (t : TypeId) (p v : Value) : Option St := match p with
  | .pointer (some a) => storeT X s t a v
  | _ => none
theorem storeP_ptr (X : Env) (s : St) (t : TypeId) (a : Addr) (v : Value) : storeP X s t (.pointer (some a)) v = storeT X s t a v := rfl
def alV (o : Option (Value × (Nat → AObj))) : Value := match o with
  | some (v, _) => v
  | none => undef
def alF (o : Option (Value × (Nat → AObj))) : Nat → AObj := match o with
  | some (_, f) => f
  | none => fun _ => .dead
theorem alV_some (v : Value) (f : Nat → AObj) : alV (some (v, f)) = v := rfl
theorem alF_some (v : Value) (f : Nat → AObj) : alF (some (v, f)) = f := rfl
theorem isSome_some {α : Type} (v : α) : (some v).isSome = true := rfl
theorem getD_some {α : Type} (v d : α) : (some v).getD d = v := rfl
theorem ex_opt {o : Option Value} {P : Value → Prop} : (∃ v, o = some v ∧ P v) ↔ o.isSome = true ∧ P (o.getD undef) := by
  cases o with
  | none => exact ⟨fun ⟨_, h, _⟩ => (by cases h), fun h => (by cases h.1)⟩
  | some v => exact ⟨fun ⟨_, h, k⟩ => (by cases h; exact ⟨rfl, k⟩), fun h => ⟨v, rfl, h.2⟩⟩
theorem ex_optS {o : Option St} {d : St} {P : St → Prop} : (∃ v, o = some v ∧ P v) ↔ o.isSome = true ∧ P (o.getD d) := by
  cases o with
  | none => exact ⟨fun ⟨_, h, _⟩ => (by cases h), fun h => (by cases h.1)⟩
  | some v => exact ⟨fun ⟨_, h, k⟩ => (by cases h; exact ⟨rfl, k⟩), fun h => ⟨v, rfl, h.2⟩⟩
theorem okAl_opt {o : Option (Value × (Nat → AObj))} {k : Value → (Nat → AObj) → Prop} : okAl o k ↔ o.isSome = true ∧ k (alV o) (alF o) := by
  cases o with
  | none => exact ⟨fun h => h.elim, fun h => (by cases h.1)⟩
  | some p => exact ⟨fun h => ⟨rfl, h⟩, fun h => h.2⟩
theorem okC_cnd {q : Bool} {X : Env} {K : Orc} {r c x y a s} {Φ : AExit → ACt → St → Prop} : okC q X K r (.cond c x y) a s Φ ↔ (boolOf (a.eval c)).isSome = true ∧ okC q X K r (if boolOf (a.eval c) = some true then x else y) a s Φ := by
  rw [okC_cond]
  cases hc : a.eval c with
  | bool b => exact ⟨fun ⟨b', h, k⟩ => (by cases h; refine ⟨rfl, ?_⟩; simpa [boolOf] using k), fun h => ⟨b, rfl, by simpa [boolOf] using h.2⟩⟩
  | _ => exact ⟨fun ⟨b', h, k⟩ => (by cases h), fun h => (by cases h.1)⟩
section
variable {q : Bool} {X : Env} {K : Orc} {ops : Array Oper} {d : Option Tmp} {ty : TypeId} {pos : String} {af : Array Edge} {l : List Oper} {a : ACt} {s : St} {Φ : ACt → St → Prop}
theorem s_still {op : Op} (hk : kindOf op = .still) : okO q X K ops (⟨d, op, ty, pos, af, none⟩ :: l) a s Φ ↔ (stillA X s.look a.eval op).isSome = true ∧ okO q X K ops l (a.put d ((stillA X s.look a.eval op).getD undef)) s Φ := (okO_still hk).trans ex_opt
theorem load_still (H : Look) (ρ : Operand → Value) (t : TypeId) (x : Operand) : stillA X H ρ (.load t x) = loadP X H t (ρ x) := by
  simp only [stillA, loadP]
  generalize ρ x = v
  cases v with
  | pointer p => cases p <;> rfl
  | _ => rfl
theorem pick_still (H : Look) (ρ : Operand → Value) (c x y : Operand) : stillA X H ρ (.pick c x y) = pickP (ρ c) (ρ x) (ρ y) := by
  simp only [stillA, pickP]
  generalize ρ c = v
  cases v <;> rfl
theorem extract_still (H : Look) (ρ : Operand → Value) (x : Operand) (j : Nat) : stillA X H ρ (.extract x j) = tupP (ρ x) j := by
  simp only [stillA, tupP]
  generalize ρ x = v
  cases v <;> rfl
theorem s_build {t ps} : okO q X K ops (⟨d, .build t ps, ty, pos, af, none⟩ :: l) a s Φ ↔ (buildA X t (ps.toList.map fun (i, x) => (i, a.eval x))).isSome = true ∧ okO q X K ops l (a.put d ((buildA X t (ps.toList.map fun (i, x) => (i, a.eval x))).getD undef)) s Φ := s_still rfl
theorem s_nilCheck {x} : okO q X K ops (⟨d, .nilCheck x, ty, pos, af, none⟩ :: l) a s Φ ↔ (nilCheckA (a.eval x)).isSome = true ∧ okO q X K ops l (a.put d ((nilCheckA (a.eval x)).getD undef)) s Φ := s_still rfl
theorem s_unOp {o t x} : okO q X K ops (⟨d, .unOp o t x, ty, pos, af, none⟩ :: l) a s Φ ↔ (unop o (a.eval x)).isSome = true ∧ okO q X K ops l (a.put d ((unop o (a.eval x)).getD undef)) s Φ := s_still rfl
theorem s_convert {t0 t x} : okO q X K ops (⟨d, .convert t0 t x, ty, pos, af, none⟩ :: l) a s Φ ↔ (convertA X t0 t (a.eval x)).isSome = true ∧ okO q X K ops l (a.put d ((convertA X t0 t (a.eval x)).getD undef)) s Φ := s_still rfl
theorem s_slice {t x lo hi mx} : okO q X K ops (⟨d, .slice t x lo hi mx, ty, pos, af, none⟩ :: l) a s Φ ↔ (sliceA X s.look t (a.eval x) (lo.map a.eval) (hi.map a.eval) (mx.map a.eval)).isSome = true ∧ okO q X K ops l (a.put d ((sliceA X s.look t (a.eval x) (lo.map a.eval) (hi.map a.eval) (mx.map a.eval)).getD undef)) s Φ := s_still rfl
theorem s_fieldAddr {t x f} : okO q X K ops (⟨d, .fieldAddr t x f, ty, pos, af, none⟩ :: l) a s Φ ↔ (fieldAddrA X t (a.eval x) f).isSome = true ∧ okO q X K ops l (a.put d ((fieldAddrA X t (a.eval x) f).getD undef)) s Φ := s_still rfl
theorem s_field {t x f} : okO q X K ops (⟨d, .field t x f, ty, pos, af, none⟩ :: l) a s Φ ↔ (fieldA X t (a.eval x) f).isSome = true ∧ okO q X K ops l (a.put d ((fieldA X t (a.eval x) f).getD undef)) s Φ := s_still rfl
theorem s_indexAddr {t x y} : okO q X K ops (⟨d, .indexAddr t x y, ty, pos, af, none⟩ :: l) a s Φ ↔ (indexAddrA X t (a.eval x) (a.eval y)).isSome = true ∧ okO q X K ops l (a.put d ((indexAddrA X t (a.eval x) (a.eval y)).getD undef)) s Φ := s_still rfl
theorem s_index {t x y} : okO q X K ops (⟨d, .index t x y, ty, pos, af, none⟩ :: l) a s Φ ↔ (indexA X t (a.eval x) (a.eval y)).isSome = true ∧ okO q X K ops l (a.put d ((indexA X t (a.eval x) (a.eval y)).getD undef)) s Φ := s_still rfl
theorem s_lookup {t x y b} : okO q X K ops (⟨d, .lookup t x y b, ty, pos, af, none⟩ :: l) a s Φ ↔ (lookupA X s.look t (a.eval x) (a.eval y) b).isSome = true ∧ okO q X K ops l (a.put d ((lookupA X s.look t (a.eval x) (a.eval y) b).getD undef)) s Φ := s_still rfl
theorem s_makeInterface {t x} : okO q X K ops (⟨d, .makeInterface t x, ty, pos, af, none⟩ :: l) a s Φ ↔ (stillA X s.look a.eval (.makeInterface t x)).isSome = true ∧ okO q X K ops l (a.put d ((stillA X s.look a.eval (.makeInterface t x)).getD undef)) s Φ := s_still rfl
theorem s_typeAssert {x t1 t b} : okO q X K ops (⟨d, .typeAssert x t1 t b, ty, pos, af, none⟩ :: l) a s Φ ↔ (typeAssertA X (a.eval x) t b).isSome = true ∧ okO q X K ops l (a.put d ((typeAssertA X (a.eval x) t b).getD undef)) s Φ := s_still rfl
theorem s_entry {x} : okO q X K ops (⟨d, .entry x, ty, pos, af, none⟩ :: l) a s Φ ↔ (entryA s.look (a.eval x)).isSome = true ∧ okO q X K ops l (a.put d ((entryA s.look (a.eval x)).getD undef)) s Φ := s_still rfl
theorem s_len {x t} : okO q X K ops (⟨d, .call ⟨.builtin .len, #[x], #[t]⟩, ty, pos, af, none⟩ :: l) a s Φ ↔ (lenOfA X s.look t (a.eval x)).isSome = true ∧ okO q X K ops l (a.put d ((lenOfA X s.look t (a.eval x)).getD undef)) s Φ := s_still rfl
theorem s_max {x y ts} : okO q X K ops (⟨d, .call ⟨.builtin .max, #[x, y], ts⟩, ty, pos, af, none⟩ :: l) a s Φ ↔ (minmaxA (fun x y => decide (y > x)) (a.eval x) [a.eval y]).isSome = true ∧ okO q X K ops l (a.put d ((minmaxA (fun x y => decide (y > x)) (a.eval x) [a.eval y]).getD undef)) s Φ := s_still rfl
theorem s_min {x y ts} : okO q X K ops (⟨d, .call ⟨.builtin .min, #[x, y], ts⟩, ty, pos, af, none⟩ :: l) a s Φ ↔ (minmaxA (fun x y => decide (y < x)) (a.eval x) [a.eval y]).isSome = true ∧ okO q X K ops l (a.put d ((minmaxA (fun x y => decide (y < x)) (a.eval x) [a.eval y]).getD undef)) s Φ := s_still rfl
theorem s_load {t x} : okO q X K ops (⟨d, .load t x, ty, pos, af, none⟩ :: l) a s Φ ↔ (loadP X s.look t (a.eval x)).isSome = true ∧ okO q X K ops l (a.put d ((loadP X s.look t (a.eval x)).getD undef)) s Φ := by
  rw [s_still rfl, load_still]
theorem s_binOp {o t x y t'} : okO q X K ops (⟨d, .binOp o t x y t', ty, pos, af, none⟩ :: l) a s Φ ↔ (binP X s.look o t (a.eval x) (a.eval y) (isConstO x || isConstO y)).isSome = true ∧ okO q X K ops l (a.put d ((binP X s.look o t (a.eval x) (a.eval y) (isConstO x || isConstO y)).getD undef)) s Φ := s_still rfl
theorem s_pick {c0 x y} : okO q X K ops (⟨d, .pick c0 x y, ty, pos, af, none⟩ :: l) a s Φ ↔ (pickP (a.eval c0) (a.eval x) (a.eval y)).isSome = true ∧ okO q X K ops l (a.put d ((pickP (a.eval c0) (a.eval x) (a.eval y)).getD undef)) s Φ := by
  rw [s_still rfl, pick_still]
theorem s_extract {x j} : okO q X K ops (⟨d, .extract x j, ty, pos, af, none⟩ :: l) a s Φ ↔ (tupP (a.eval x) j).isSome = true ∧ okO q X K ops l (a.put d ((tupP (a.eval x) j).getD undef)) s Φ := by
  rw [s_still rfl, extract_still]
theorem s_store {t p x} : okO q X K ops (⟨d, .store t p x, ty, pos, af, none⟩ :: l) a s Φ ↔ (storeP X s t (a.eval p) (a.eval x)).isSome = true ∧ okO q X K ops l (a.put d undef) ((storeP X s t (a.eval p) (a.eval x)).getD s) Φ := by
  rw [okO_store, ← ex_optS (P := fun s' => okO q X K ops l (a.put d undef) s' Φ)]
  cases hp : a.eval p with
  | pointer ad =>
    cases ad with
    | none => simp [storeP]
    | some ad => simp [storeP]
  | _ => simp [storeP]
theorem s_mapUpdate {t m k x} : okO q X K ops (⟨d, .mapUpdate t m k x, ty, pos, af, none⟩ :: l) a s Φ ↔ (mapPut X s t (a.eval m) (a.eval k) (a.eval x)).isSome = true ∧ okO q X K ops l (a.put d undef) ((mapPut X s t (a.eval m) (a.eval k) (a.eval x)).getD s) Φ := by
  rw [o_mapUpdate, ← ex_optS (P := fun s' => okO q X K ops l (a.put d undef) s' Φ)]
theorem s_allocE {e} : okO q X K ops (⟨d, .alloc e, ty, pos, af, none⟩ :: l) a s Φ ↔ (allocA X s.next a.eval (.alloc e)).isSome = true ∧ okO q X K ops l (a.put d (alV (allocA X s.next a.eval (.alloc e)))) (s.new (alF (allocA X s.next a.eval (.alloc e)))) Φ := o_allocE.trans okAl_opt
theorem s_bs {t n ps} : okO q X K ops (⟨d, .buildSlice t n ps, ty, pos, af, none⟩ :: l) a s Φ ↔ (bsA X s.next t n (ps.toList.map fun (i, x) => (i, a.eval x))).isSome = true ∧ okO q X K ops l (a.put d (alV (bsA X s.next t n (ps.toList.map fun (i, x) => (i, a.eval x))))) (s.new (alF (bsA X s.next t n (ps.toList.map fun (i, x) => (i, a.eval x))))) Φ := o_bs.trans okAl_opt
theorem s_mks {t n c'} : okO q X K ops (⟨d, .makeSlice t n c', ty, pos, af, none⟩ :: l) a s Φ ↔ (mkA X s.next t (a.eval n) (a.eval c')).isSome = true ∧ okO q X K ops l (a.put d (alV (mkA X s.next t (a.eval n) (a.eval c')))) (s.new (alF (mkA X s.next t (a.eval n) (a.eval c')))) Φ := o_mks.trans okAl_opt
theorem s_mm {t r} : okO q X K ops (⟨d, .makeMap t r, ty, pos, af, none⟩ :: l) a s Φ ↔ (mmA X s.next t (r.map a.eval)).isSome = true ∧ okO q X K ops l (a.put d (alV (mmA X s.next t (r.map a.eval)))) (s.new (alF (mmA X s.next t (r.map a.eval)))) Φ := o_mm.trans okAl_opt
end
section
variable {X : Env} {K : Orc} {ops : Array Oper} {base i : Nat} {c : List (Nat × Nat)} {F : List Nat} {d : Option Tmp} {ty : TypeId} {pos : String} {af : Array Edge} {l : List Oper} {a : ACt} {s : St} {Φ : ACt → St → Prop}
theorem t_still {op : Op} (hk : kindOf op = .still) : okD X K ops base c F (⟨d, op, ty, pos, af, none⟩ :: l) i a s Φ ↔ (stillA X s.look a.eval op).isSome = true ∧ noteOk c F i (readsOf a.eval s.look op) s s ∧ okD X K ops base c F l (i + 1) (a.put d ((stillA X s.look a.eval op).getD undef)) s Φ := (d_still hk).trans (ex_opt (P := fun v => noteOk c F i (readsOf a.eval s.look op) s s ∧ okD X K ops base c F l (i + 1) (a.put d v) s Φ))
theorem t_build {t ps} : okD X K ops base c F (⟨d, .build t ps, ty, pos, af, none⟩ :: l) i a s Φ ↔ (buildA X t (ps.toList.map fun (i, x) => (i, a.eval x))).isSome = true ∧ noteOk c F i ([]) s s ∧ okD X K ops base c F l (i + 1) (a.put d ((buildA X t (ps.toList.map fun (i, x) => (i, a.eval x))).getD undef)) s Φ := t_still rfl
theorem t_nilCheck {x} : okD X K ops base c F (⟨d, .nilCheck x, ty, pos, af, none⟩ :: l) i a s Φ ↔ (nilCheckA (a.eval x)).isSome = true ∧ noteOk c F i ([]) s s ∧ okD X K ops base c F l (i + 1) (a.put d ((nilCheckA (a.eval x)).getD undef)) s Φ := t_still rfl
theorem t_unOp {o t x} : okD X K ops base c F (⟨d, .unOp o t x, ty, pos, af, none⟩ :: l) i a s Φ ↔ (unop o (a.eval x)).isSome = true ∧ noteOk c F i ([]) s s ∧ okD X K ops base c F l (i + 1) (a.put d ((unop o (a.eval x)).getD undef)) s Φ := t_still rfl
theorem t_convert {t0 t x} : okD X K ops base c F (⟨d, .convert t0 t x, ty, pos, af, none⟩ :: l) i a s Φ ↔ (convertA X t0 t (a.eval x)).isSome = true ∧ noteOk c F i ([]) s s ∧ okD X K ops base c F l (i + 1) (a.put d ((convertA X t0 t (a.eval x)).getD undef)) s Φ := t_still rfl
theorem t_slice {t x lo hi mx} : okD X K ops base c F (⟨d, .slice t x lo hi mx, ty, pos, af, none⟩ :: l) i a s Φ ↔ (sliceA X s.look t (a.eval x) (lo.map a.eval) (hi.map a.eval) (mx.map a.eval)).isSome = true ∧ noteOk c F i (nameOf (a.eval x)) s s ∧ okD X K ops base c F l (i + 1) (a.put d ((sliceA X s.look t (a.eval x) (lo.map a.eval) (hi.map a.eval) (mx.map a.eval)).getD undef)) s Φ := t_still rfl
theorem t_fieldAddr {t x f} : okD X K ops base c F (⟨d, .fieldAddr t x f, ty, pos, af, none⟩ :: l) i a s Φ ↔ (fieldAddrA X t (a.eval x) f).isSome = true ∧ noteOk c F i ([]) s s ∧ okD X K ops base c F l (i + 1) (a.put d ((fieldAddrA X t (a.eval x) f).getD undef)) s Φ := t_still rfl
theorem t_field {t x f} : okD X K ops base c F (⟨d, .field t x f, ty, pos, af, none⟩ :: l) i a s Φ ↔ (fieldA X t (a.eval x) f).isSome = true ∧ noteOk c F i ([]) s s ∧ okD X K ops base c F l (i + 1) (a.put d ((fieldA X t (a.eval x) f).getD undef)) s Φ := t_still rfl
theorem t_indexAddr {t x y} : okD X K ops base c F (⟨d, .indexAddr t x y, ty, pos, af, none⟩ :: l) i a s Φ ↔ (indexAddrA X t (a.eval x) (a.eval y)).isSome = true ∧ noteOk c F i ([]) s s ∧ okD X K ops base c F l (i + 1) (a.put d ((indexAddrA X t (a.eval x) (a.eval y)).getD undef)) s Φ := t_still rfl
theorem t_index {t x y} : okD X K ops base c F (⟨d, .index t x y, ty, pos, af, none⟩ :: l) i a s Φ ↔ (indexA X t (a.eval x) (a.eval y)).isSome = true ∧ noteOk c F i ([]) s s ∧ okD X K ops base c F l (i + 1) (a.put d ((indexA X t (a.eval x) (a.eval y)).getD undef)) s Φ := t_still rfl
theorem t_lookup {t x y b} : okD X K ops base c F (⟨d, .lookup t x y b, ty, pos, af, none⟩ :: l) i a s Φ ↔ (lookupA X s.look t (a.eval x) (a.eval y) b).isSome = true ∧ noteOk c F i (nameOf (a.eval x)) s s ∧ okD X K ops base c F l (i + 1) (a.put d ((lookupA X s.look t (a.eval x) (a.eval y) b).getD undef)) s Φ := t_still rfl
theorem t_makeInterface {t x} : okD X K ops base c F (⟨d, .makeInterface t x, ty, pos, af, none⟩ :: l) i a s Φ ↔ (stillA X s.look a.eval (.makeInterface t x)).isSome = true ∧ noteOk c F i ([]) s s ∧ okD X K ops base c F l (i + 1) (a.put d ((stillA X s.look a.eval (.makeInterface t x)).getD undef)) s Φ := t_still rfl
theorem t_typeAssert {x t1 t b} : okD X K ops base c F (⟨d, .typeAssert x t1 t b, ty, pos, af, none⟩ :: l) i a s Φ ↔ (typeAssertA X (a.eval x) t b).isSome = true ∧ noteOk c F i ([]) s s ∧ okD X K ops base c F l (i + 1) (a.put d ((typeAssertA X (a.eval x) t b).getD undef)) s Φ := t_still rfl
theorem t_entry {x} : okD X K ops base c F (⟨d, .entry x, ty, pos, af, none⟩ :: l) i a s Φ ↔ (entryA s.look (a.eval x)).isSome = true ∧ noteOk c F i (readsOf a.eval s.look (.entry x)) s s ∧ okD X K ops base c F l (i + 1) (a.put d ((entryA s.look (a.eval x)).getD undef)) s Φ := t_still rfl
theorem t_len {x t} : okD X K ops base c F (⟨d, .call ⟨.builtin .len, #[x], #[t]⟩, ty, pos, af, none⟩ :: l) i a s Φ ↔ (lenOfA X s.look t (a.eval x)).isSome = true ∧ noteOk c F i (nameOf (a.eval x)) s s ∧ okD X K ops base c F l (i + 1) (a.put d ((lenOfA X s.look t (a.eval x)).getD undef)) s Φ := t_still rfl
theorem t_max {x y ts} : okD X K ops base c F (⟨d, .call ⟨.builtin .max, #[x, y], ts⟩, ty, pos, af, none⟩ :: l) i a s Φ ↔ (minmaxA (fun x y => decide (y > x)) (a.eval x) [a.eval y]).isSome = true ∧ noteOk c F i (nameOf (a.eval x)) s s ∧ okD X K ops base c F l (i + 1) (a.put d ((minmaxA (fun x y => decide (y > x)) (a.eval x) [a.eval y]).getD undef)) s Φ := t_still rfl
theorem t_min {x y ts} : okD X K ops base c F (⟨d, .call ⟨.builtin .min, #[x, y], ts⟩, ty, pos, af, none⟩ :: l) i a s Φ ↔ (minmaxA (fun x y => decide (y < x)) (a.eval x) [a.eval y]).isSome = true ∧ noteOk c F i (nameOf (a.eval x)) s s ∧ okD X K ops base c F l (i + 1) (a.put d ((minmaxA (fun x y => decide (y < x)) (a.eval x) [a.eval y]).getD undef)) s Φ := t_still rfl
theorem t_load {t x} : okD X K ops base c F (⟨d, .load t x, ty, pos, af, none⟩ :: l) i a s Φ ↔ (loadP X s.look t (a.eval x)).isSome = true ∧ noteOk c F i (nameOf (a.eval x)) s s ∧ okD X K ops base c F l (i + 1) (a.put d ((loadP X s.look t (a.eval x)).getD undef)) s Φ := by
  rw [t_still rfl, load_still, show readsOf a.eval s.look (.load t x) = nameOf (a.eval x) from rfl]
theorem t_binOp {o t x y t'} : okD X K ops base c F (⟨d, .binOp o t x y t', ty, pos, af, none⟩ :: l) i a s Φ ↔ (binP X s.look o t (a.eval x) (a.eval y) (isConstO x || isConstO y)).isSome = true ∧ noteOk c F i (nameOf (a.eval x) ++ nameOf (a.eval y)) s s ∧ okD X K ops base c F l (i + 1) (a.put d ((binP X s.look o t (a.eval x) (a.eval y) (isConstO x || isConstO y)).getD undef)) s Φ := t_still rfl
theorem t_pick {c0 x y} : okD X K ops base c F (⟨d, .pick c0 x y, ty, pos, af, none⟩ :: l) i a s Φ ↔ (pickP (a.eval c0) (a.eval x) (a.eval y)).isSome = true ∧ noteOk c F i ([]) s s ∧ okD X K ops base c F l (i + 1) (a.put d ((pickP (a.eval c0) (a.eval x) (a.eval y)).getD undef)) s Φ := by
  rw [t_still rfl, pick_still, show readsOf a.eval s.look (.pick c0 x y) = [] from rfl]
theorem t_extract {x j} : okD X K ops base c F (⟨d, .extract x j, ty, pos, af, none⟩ :: l) i a s Φ ↔ (tupP (a.eval x) j).isSome = true ∧ noteOk c F i ([]) s s ∧ okD X K ops base c F l (i + 1) (a.put d ((tupP (a.eval x) j).getD undef)) s Φ := by
  rw [t_still rfl, extract_still, show readsOf a.eval s.look (.extract x j) = [] from rfl]
theorem t_store {t p x} : okD X K ops base c F (⟨d, .store t p x, ty, pos, af, none⟩ :: l) i a s Φ ↔ (storeP X s t (a.eval p) (a.eval x)).isSome = true ∧ noteOk c F i [] s ((storeP X s t (a.eval p) (a.eval x)).getD s) ∧ okD X K ops base c F l (i + 1) (a.put d undef) ((storeP X s t (a.eval p) (a.eval x)).getD s) Φ := by
  rw [d_store, ← ex_optS (P := fun s' => noteOk c F i [] s s' ∧ okD X K ops base c F l (i + 1) (a.put d undef) s' Φ)]
  cases hp : a.eval p with
  | pointer ad =>
    cases ad with
    | none => simp [storeP]
    | some ad => simp [storeP]
  | _ => simp [storeP]
theorem t_mapUpdate {t m k x} : okD X K ops base c F (⟨d, .mapUpdate t m k x, ty, pos, af, none⟩ :: l) i a s Φ ↔ (mapPut X s t (a.eval m) (a.eval k) (a.eval x)).isSome = true ∧ noteOk c F i [] s ((mapPut X s t (a.eval m) (a.eval k) (a.eval x)).getD s) ∧ okD X K ops base c F l (i + 1) (a.put d undef) ((mapPut X s t (a.eval m) (a.eval k) (a.eval x)).getD s) Φ := by
  rw [d_mapUpdate, ← ex_optS (P := fun s' => noteOk c F i [] s s' ∧ okD X K ops base c F l (i + 1) (a.put d undef) s' Φ)]
theorem t_allocE {e} : okD X K ops base c F (⟨d, .alloc e, ty, pos, af, none⟩ :: l) i a s Φ ↔ (allocA X (base + 2 * i) a.eval (.alloc e)).isSome = true ∧ noteOk c F i [] s (s.put (base + 2 * i) (alF (allocA X (base + 2 * i) a.eval (.alloc e)))) ∧ okD X K ops base c F l (i + 1) (a.put d (alV (allocA X (base + 2 * i) a.eval (.alloc e)))) (s.put (base + 2 * i) (alF (allocA X (base + 2 * i) a.eval (.alloc e)))) Φ := d_allocE.trans okAl_opt
theorem t_bs {t n ps} : okD X K ops base c F (⟨d, .buildSlice t n ps, ty, pos, af, none⟩ :: l) i a s Φ ↔ (bsA X (base + 2 * i) t n (ps.toList.map fun (i, x) => (i, a.eval x))).isSome = true ∧ noteOk c F i [] s (s.put (base + 2 * i) (alF (bsA X (base + 2 * i) t n (ps.toList.map fun (i, x) => (i, a.eval x))))) ∧ okD X K ops base c F l (i + 1) (a.put d (alV (bsA X (base + 2 * i) t n (ps.toList.map fun (i, x) => (i, a.eval x))))) (s.put (base + 2 * i) (alF (bsA X (base + 2 * i) t n (ps.toList.map fun (i, x) => (i, a.eval x))))) Φ := d_bs.trans okAl_opt
theorem t_mks {t n c'} : okD X K ops base c F (⟨d, .makeSlice t n c', ty, pos, af, none⟩ :: l) i a s Φ ↔ (mkA X (base + 2 * i) t (a.eval n) (a.eval c')).isSome = true ∧ noteOk c F i [] s (s.put (base + 2 * i) (alF (mkA X (base + 2 * i) t (a.eval n) (a.eval c')))) ∧ okD X K ops base c F l (i + 1) (a.put d (alV (mkA X (base + 2 * i) t (a.eval n) (a.eval c')))) (s.put (base + 2 * i) (alF (mkA X (base + 2 * i) t (a.eval n) (a.eval c')))) Φ := d_mks.trans okAl_opt
theorem t_mm {t r} : okD X K ops base c F (⟨d, .makeMap t r, ty, pos, af, none⟩ :: l) i a s Φ ↔ (mmA X (base + 2 * i) t (r.map a.eval)).isSome = true ∧ noteOk c F i [] s (s.put (base + 2 * i) (alF (mmA X (base + 2 * i) t (r.map a.eval)))) ∧ okD X K ops base c F l (i + 1) (a.put d (alV (mmA X (base + 2 * i) t (r.map a.eval)))) (s.put (base + 2 * i) (alF (mmA X (base + 2 * i) t (r.map a.eval)))) Φ := d_mm.trans okAl_opt
end
end Go.Dust
end
section
/- The rules in bundles; what keeps what; lists of cells, slices, maps. -/
namespace Go.Dust

/-! ### Bundles for simp -/
theorem nilCheck_ptr (a : Addr) : nilCheckA (.pointer (some a)) = some (.pointer (some a)) := rfl
theorem cells_int (k : IntKind) (n : Int) : (Value.int k n).cells = #[.int k n] := rfl
theorem cells_bool (b : Bool) : (Value.bool b).cells = #[.bool b] := rfl
theorem cells_ptr (p : Option Addr) : (Value.pointer p).cells = #[.pointer p] := rfl
theorem cells_slice (p : Option Addr) (n c : Nat) : (Value.slice p n c).cells = #[.slice p n c] := rfl
theorem cells_map (p : Option Nat) : (Value.map p).cells = #[.map p] := rfl
theorem cells_str (x : ByteArray) : (Value.string x).cells = #[.string x] := rfl
theorem cells_func (f : Fn) (x y : Array Value) : (Value.func f x y).cells = #[.func f x y] := rfl
theorem cells_agg (cs : Array Value) : (Value.agg cs).cells = cs := rfl
theorem name_ptr (b o : Nat) (sp : Option Nat) : nameOf (.pointer (some ⟨b, o, sp⟩)) = [b] := rfl
theorem bn_int (k : IntKind) (n : Int) (y : Value) : bothNil (.int k n) y = false := rfl
theorem bn_ptr (p : Option Addr) (y : Value) : bothNil (.pointer p) y = false := rfl
theorem bn_bool (b : Bool) (y : Value) : bothNil (.bool b) y = false := rfl
theorem bn_str (x : ByteArray) (y : Value) : bothNil (.string x) y = false := rfl
theorem bn_agg (cs : Array Value) (y : Value) : bothNil (.agg cs) y = false := rfl
theorem bn_slice (p : Option Addr) (n c : Nat) (y : Value) : bothNil (.slice p n c) y = false := rfl
theorem bn_map (p : Option Nat) (y : Value) : bothNil (.map p) y = false := rfl
theorem res_cell {X : Env} (H : Look) (a : ACt) (t : Tmp) (ty : TypeId) (rest : List ResultVar) : results1 X H a (.cell t ty :: rest) = match loadP X H ty (a.getT t), results1 X H a rest with
    | some v, some l => some (v :: l)
    | _, _ => none := by
  rw [results1]
  cases h : a.getT t with
  | pointer p =>
    cases p with
    | none => rfl
    | some ad =>
      simp only [loadP]
      cases loadT X H ty ad <;> cases results1 X H a rest <;> rfl
  | _ => rfl
theorem eval_func (a : ACt) (f : FuncId) : a.eval (.func f) = .func (.func f) #[] #[] := rfl
theorem eval_global (a : ACt) (g : Nat) : a.eval (.global g) = .pointer (some ⟨2 * g, 0, none⟩) := rfl
theorem name_nilp : nameOf (.pointer none) = [] := rfl
theorem name_int (k : IntKind) (n : Int) : nameOf (.int k n) = [] := rfl
theorem name_bool (b : Bool) : nameOf (.bool b) = [] := rfl
theorem name_slice (b o : Nat) (sp : Option Nat) (n c : Nat) : nameOf (.slice (some ⟨b, o, sp⟩) n c) = [b] := rfl
theorem name_map (r : Nat) : nameOf (.map (some r)) = [r] := rfl
theorem RC : type_of% (And.intro @okC_seq (And.intro @okC_region (And.intro @okC_ret (And.intro @okC_cnd (And.intro @okC_skip (And.intro @okC_exit (@okC_block))))))) :=
  And.intro @okC_seq (And.intro @okC_region (And.intro @okC_ret (And.intro @okC_cnd (And.intro @okC_skip (And.intro @okC_exit (@okC_block))))))

theorem RO : type_of% (And.intro @okO_nil (And.intro @okO_guard (And.intro @o_move (And.intro @o_assign (And.intro @o_box (And.intro @o_makeFunc (And.intro @s_build (And.intro @s_nilCheck (And.intro @s_unOp (And.intro @s_convert (And.intro @s_slice (And.intro @s_fieldAddr (And.intro @s_field (And.intro @s_indexAddr (And.intro @s_index (And.intro @s_lookup (And.intro @s_makeInterface (And.intro @s_typeAssert (And.intro @s_entry (And.intro @s_len (And.intro @s_max (And.intro @s_min (And.intro @s_load (And.intro @s_binOp (And.intro @s_pick (And.intro @s_extract (And.intro @s_store (And.intro @s_mapUpdate (And.intro @s_allocE (And.intro @s_bs (And.intro @s_mks (@s_mm)))))))))))))))))))))))))))))))) :=
  And.intro @okO_nil (And.intro @okO_guard (And.intro @o_move (And.intro @o_assign (And.intro @o_box (And.intro @o_makeFunc (And.intro @s_build (And.intro @s_nilCheck (And.intro @s_unOp (And.intro @s_convert (And.intro @s_slice (And.intro @s_fieldAddr (And.intro @s_field (And.intro @s_indexAddr (And.intro @s_index (And.intro @s_lookup (And.intro @s_makeInterface (And.intro @s_typeAssert (And.intro @s_entry (And.intro @s_len (And.intro @s_max (And.intro @s_min (And.intro @s_load (And.intro @s_binOp (And.intro @s_pick (And.intro @s_extract (And.intro @s_store (And.intro @s_mapUpdate (And.intro @s_allocE (And.intro @s_bs (And.intro @s_mks (@s_mm)))))))))))))))))))))))))))))))

theorem RD : type_of% (And.intro @d_nil (And.intro @d_guard (And.intro @d_move (And.intro @d_assign (And.intro @d_box (And.intro @d_makeFunc (And.intro @t_build (And.intro @t_nilCheck (And.intro @t_unOp (And.intro @t_convert (And.intro @t_slice (And.intro @t_fieldAddr (And.intro @t_field (And.intro @t_indexAddr (And.intro @t_index (And.intro @t_lookup (And.intro @t_makeInterface (And.intro @t_typeAssert (And.intro @t_entry (And.intro @t_len (And.intro @t_max (And.intro @t_min (And.intro @t_load (And.intro @t_binOp (And.intro @t_pick (And.intro @t_extract (And.intro @t_store (And.intro @t_mapUpdate (And.intro @t_allocE (And.intro @t_bs (And.intro @t_mks (@t_mm)))))))))))))))))))))))))))))))) :=
  And.intro @d_nil (And.intro @d_guard (And.intro @d_move (And.intro @d_assign (And.intro @d_box (And.intro @d_makeFunc (And.intro @t_build (And.intro @t_nilCheck (And.intro @t_unOp (And.intro @t_convert (And.intro @t_slice (And.intro @t_fieldAddr (And.intro @t_field (And.intro @t_indexAddr (And.intro @t_index (And.intro @t_lookup (And.intro @t_makeInterface (And.intro @t_typeAssert (And.intro @t_entry (And.intro @t_len (And.intro @t_max (And.intro @t_min (And.intro @t_load (And.intro @t_binOp (And.intro @t_pick (And.intro @t_extract (And.intro @t_store (And.intro @t_mapUpdate (And.intro @t_allocE (And.intro @t_bs (And.intro @t_mks (@t_mm)))))))))))))))))))))))))))))))

theorem RV : type_of% (And.intro @loadP_ptr (And.intro @binP_of (And.intro @pickP_bool (And.intro @tupP_tup (And.intro @storeP_ptr (And.intro @alV_some (And.intro @alF_some (And.intro @isSome_some (And.intro @getD_some (And.intro @hitB_nil (And.intro @hitB_cons (And.intro @hitC_nil (And.intro @hitC_cons (And.intro @inB_nil (And.intro @inB_cons (And.intro @okAl_some (And.intro @mm_max (And.intro @mm_min (And.intro @cv_func (And.intro @cv_yield (And.intro @look_skip (And.intro @heap_skip (And.intro @nilCheck_ptr (And.intro @cells_int (And.intro @cells_bool (And.intro @cells_ptr (And.intro @cells_slice (And.intro @cells_map (And.intro @cells_agg (And.intro @cells_str (And.intro @cells_func (And.intro @bn_int (And.intro @bn_ptr (And.intro @bn_bool (And.intro @bn_str (And.intro @bn_agg (And.intro @bn_slice (And.intro @bn_map (And.intro @name_ptr (And.intro @name_int (And.intro @name_bool (And.intro @name_nilp (And.intro @name_slice (And.intro @name_map (And.intro @eval_tmp (And.intro @eval_const (And.intro @eval_func (And.intro @eval_global (And.intro @reg_put (And.intro @put_none (And.intro @getT_args (And.intro @boolOf_bool (And.intro @un_neg (And.intro @un_not (And.intro @okAl_some (And.intro @mm_max (And.intro @mm_min (And.intro @cv_func (And.intro @cv_yield (And.intro @look_skip (And.intro @heap_skip (And.intro @hitB_nil (And.intro @hitB_cons (And.intro @nilCheck_ptr (And.intro @cells_int (And.intro @cells_bool (And.intro @cells_ptr (And.intro @cells_slice (And.intro @cells_map (And.intro @cells_agg (And.intro @cells_str (And.intro @cells_func (And.intro @bn_int (And.intro @bn_ptr (And.intro @bn_bool (And.intro @bn_str (And.intro @bn_agg (And.intro @bn_slice (And.intro @bn_map (And.intro @name_ptr (And.intro @name_int (And.intro @name_bool (And.intro @name_nilp (And.intro @name_slice (@name_map))))))))))))))))))))))))))))))))))))))))))))))))))))))))))))))))))))))))))))))))))))) :=
  And.intro @loadP_ptr (And.intro @binP_of (And.intro @pickP_bool (And.intro @tupP_tup (And.intro @storeP_ptr (And.intro @alV_some (And.intro @alF_some (And.intro @isSome_some (And.intro @getD_some (And.intro @hitB_nil (And.intro @hitB_cons (And.intro @hitC_nil (And.intro @hitC_cons (And.intro @inB_nil (And.intro @inB_cons (And.intro @okAl_some (And.intro @mm_max (And.intro @mm_min (And.intro @cv_func (And.intro @cv_yield (And.intro @look_skip (And.intro @heap_skip (And.intro @nilCheck_ptr (And.intro @cells_int (And.intro @cells_bool (And.intro @cells_ptr (And.intro @cells_slice (And.intro @cells_map (And.intro @cells_agg (And.intro @cells_str (And.intro @cells_func (And.intro @bn_int (And.intro @bn_ptr (And.intro @bn_bool (And.intro @bn_str (And.intro @bn_agg (And.intro @bn_slice (And.intro @bn_map (And.intro @name_ptr (And.intro @name_int (And.intro @name_bool (And.intro @name_nilp (And.intro @name_slice (And.intro @name_map (And.intro @eval_tmp (And.intro @eval_const (And.intro @eval_func (And.intro @eval_global (And.intro @reg_put (And.intro @put_none (And.intro @getT_args (And.intro @boolOf_bool (And.intro @un_neg (And.intro @un_not (And.intro @okAl_some (And.intro @mm_max (And.intro @mm_min (And.intro @cv_func (And.intro @cv_yield (And.intro @look_skip (And.intro @heap_skip (And.intro @hitB_nil (And.intro @hitB_cons (And.intro @nilCheck_ptr (And.intro @cells_int (And.intro @cells_bool (And.intro @cells_ptr (And.intro @cells_slice (And.intro @cells_map (And.intro @cells_agg (And.intro @cells_str (And.intro @cells_func (And.intro @bn_int (And.intro @bn_ptr (And.intro @bn_bool (And.intro @bn_str (And.intro @bn_agg (And.intro @bn_slice (And.intro @bn_map (And.intro @name_ptr (And.intro @name_int (And.intro @name_bool (And.intro @name_nilp (And.intro @name_slice (@name_map))))))))))))))))))))))))))))))))))))))))))))))))))))))))))))))))))))))))))))))))))))

theorem RB : type_of% (And.intro @bin_add (And.intro @bin_sub (And.intro @bin_mul (And.intro @bin_quo (And.intro @bin_rem (And.intro @bin_eql (And.intro @bin_neq (And.intro @bin_gtr (And.intro @bin_geq (And.intro @bin_lss (And.intro @bin_leq (@bin_shl)))))))))))) :=
  And.intro @bin_add (And.intro @bin_sub (And.intro @bin_mul (And.intro @bin_quo (And.intro @bin_rem (And.intro @bin_eql (And.intro @bin_neq (And.intro @bin_gtr (And.intro @bin_geq (And.intro @bin_lss (And.intro @bin_leq (@bin_shl)))))))))))

theorem RG : type_of% (And.intro @List.toList_toArray.{0} (And.intro @List.getElem?_cons_zero.{0} (And.intro @List.getElem?_cons_succ.{0} (And.intro @Option.getD_some.{0} (And.intro @Option.some.injEq.{0} (And.intro @exists_eq_left'.{1} (And.intro @if_true.{0} (And.intro @if_true.{1} (And.intro @if_false.{0} (And.intro @if_false.{1} (And.intro @Bool.false_and (And.intro @Bool.false_eq_true (And.intro @Value.pointer.injEq (And.intro @Value.bool.injEq (And.intro @Value.int.injEq (And.intro @Value.tuple.injEq (And.intro @exists_and_left.{1} (And.intro @Option.map_some.{0,0} (And.intro @Option.map_none.{0,0} (And.intro @List.map_cons.{0,0} (And.intro @List.map_nil.{0,0} (And.intro @List.size_toArray.{0} (And.intro @List.length_cons.{0} (And.intro @List.length_nil.{0} (And.intro @res_tmp (And.intro @res_nil (And.intro @res_cell (And.intro @List.getElem?_toArray.{0} (And.intro @Bool.true_and (And.intro @Bool.and_true (And.intro @Bool.or_true (And.intro @Bool.true_or (And.intro @Bool.or_false (And.intro @Bool.false_or (And.intro @cond_true.{1} (And.intro @cond_false.{1} (And.intro @List.append_nil.{0} (And.intro @List.nil_append.{0} (And.intro @List.cons_append.{0} (And.intro @Bool.not_true (@Bool.not_false))))))))))))))))))))))))))))))))))))))))) :=
  And.intro @List.toList_toArray.{0} (And.intro @List.getElem?_cons_zero.{0} (And.intro @List.getElem?_cons_succ.{0} (And.intro @Option.getD_some.{0} (And.intro @Option.some.injEq.{0} (And.intro @exists_eq_left'.{1} (And.intro @if_true.{0} (And.intro @if_true.{1} (And.intro @if_false.{0} (And.intro @if_false.{1} (And.intro @Bool.false_and (And.intro @Bool.false_eq_true (And.intro @Value.pointer.injEq (And.intro @Value.bool.injEq (And.intro @Value.int.injEq (And.intro @Value.tuple.injEq (And.intro @exists_and_left.{1} (And.intro @Option.map_some.{0,0} (And.intro @Option.map_none.{0,0} (And.intro @List.map_cons.{0,0} (And.intro @List.map_nil.{0,0} (And.intro @List.size_toArray.{0} (And.intro @List.length_cons.{0} (And.intro @List.length_nil.{0} (And.intro @res_tmp (And.intro @res_nil (And.intro @res_cell (And.intro @List.getElem?_toArray.{0} (And.intro @Bool.true_and (And.intro @Bool.and_true (And.intro @Bool.or_true (And.intro @Bool.true_or (And.intro @Bool.or_false (And.intro @Bool.false_or (And.intro @cond_true.{1} (And.intro @cond_false.{1} (And.intro @List.append_nil.{0} (And.intro @List.nil_append.{0} (And.intro @List.cons_append.{0} (And.intro @Bool.not_true (@Bool.not_false))))))))))))))))))))))))))))))))))))))))


theorem all0 {P : Nat → Prop} : ∀ x ∈ ([] : List Nat), P x := fun _ h => by cases h
theorem all1 {P : Nat → Prop} {a : Nat} (h : P a) : ∀ x ∈ [a], P x := fun x hx => by rw [List.mem_singleton.1 hx]; exact h
theorem allc {P : Nat → Prop} {a : Nat} {l : List Nat} (h : P a) (hl : ∀ x ∈ l, P x) : ∀ x ∈ a :: l, P x := fun x hx => by
  rcases List.mem_cons.1 hx with rfl | hx
  · exact h
  · exact hl x hx

/-- A function of the program, entered. -/
theorem okF_at {P : Program} {q : Bool} {K : Orc} {f : FuncId} {fn : Func} {c : Code} {rs : List ResultVar} {N : Nat} {args : List Value} {s : St} {Φ : Value → St → Prop} (hf : P.funcs[f]? = some fn) (hok : okFn fn = true) (hk : K f args s = none) (hb : fn.body = some c) (hr : fn.results.toList = rs) (hN : fn.ntmps = N) (hn : Nat.ble args.length N = true)
    (h : okC q (env P) K none c { tmps := PT.ofList args, nt := N } s fun e a s => match e with
      | .exit _ => False
      | _ => ∃ l, results1 (env P) s.look a rs = some l ∧ Φ (match l with | [v] => v | l => .tuple l.toArray) s) : okF q (env P) K f args s Φ := okF_body hk (fn_at hf hok) hb hr hN hn h
/-- A call, its arguments as0 a contract names them. -/
theorem okO_callx {q : Bool} {X : Env} {K : Orc} {ops d f as0 ts ty pos af l a s} {Φ : ACt → St → Prop} {args : List Value} (h : as0.toList.map a.eval = args) (hc : okF q X K f args s fun v s => okO q X K ops l (a.put d v) s Φ) :
    okO q X K ops (⟨d, .call ⟨.value (.func f), as0, ts⟩, ty, pos, af, none⟩ :: l) a s Φ := by
  subst h
  exact okO_call.2 hc
theorem okD_callx {X : Env} {K : Orc} {ops base c F i d f as0 ts ty pos af l a s} {Φ : ACt → St → Prop} {args : List Value} (h : as0.toList.map a.eval = args)
    (hc : okF false X K f args s fun v s' => noteOk c F i (readsOf a.eval s.look (.call ⟨.value (.func f), as0, ts⟩)) s s' ∧ okD X K ops base c F l (i + 1) (a.put d v) s' Φ) :
    okD X K ops base c F (⟨d, .call ⟨.value (.func f), as0, ts⟩, ty, pos, af, none⟩ :: l) i a s Φ := by
  subst h
  exact d_call.2 hc
theorem okO_callvx {q : Bool} {X : Env} {K : Orc} {ops d t as0 ts ty pos af l a s f} {fi ca : Array Value} {Φ : ACt → St → Prop} {args : List Value} (hf : a.getT t = .func (.func f) fi ca) (h : fi.toList ++ as0.toList.map a.eval ++ ca.toList = args)
    (hc : okF q X K f args s fun v s => okO q X K ops l (a.put d v) s Φ) : okO q X K ops (⟨d, .call ⟨.value (.tmp t), as0, ts⟩, ty, pos, af, none⟩ :: l) a s Φ := by
  subst h
  rw [o_callv, hf, cv_func]
  exact hc

section
variable {X : Env} {K : Orc} {ops : Array Oper} {base i : Nat} {c : List (Nat × Nat)} {F : List Nat} {d : Option Tmp} {ty : TypeId} {pos : String} {af : Array Edge} {l : List Oper} {a : ACt} {s s' : St} {Φ : ACt → St → Prop} {as0 : Array Operand} {ts : Array TypeId} {args : List Value} {v : Value}
theorem d_delx (h : as0.toList.map a.eval = args) (hd : deleteA X s ts args = some (v, s')) (hn : noteOk c F i (readsOf a.eval s.look (.call ⟨.builtin .delete, as0, ts⟩)) s s') (hk : okD X K ops base c F l (i + 1) (a.put d v) s' Φ) :
    okD X K ops base c F (⟨d, .call ⟨.builtin .delete, as0, ts⟩, ty, pos, af, none⟩ :: l) i a s Φ := by
  subst h
  refine (d_effect (P := fun v s' => deleteA X s ts (as0.toList.map a.eval) = some (v, s')) rfl ?_).2 ⟨v, s', hd, hn, hk⟩
  intro cl r v s'
  simp only [effectA]
  cases deleteA X s ts (as0.toList.map a.eval) with
  | none => simp [Res.ofOption]
  | some p => rcases p with ⟨v2, s2⟩; simp [Res.ofOption]
theorem d_appx (h : as0.toList.map a.eval = args) (hd : appendA X s ts args = some (v, s')) (hn : noteOk c F i (readsOf a.eval s.look (.call ⟨.builtin .append, as0, ts⟩)) s s') (hk : okD X K ops base c F l (i + 1) (a.put d v) s' Φ) :
    okD X K ops base c F (⟨d, .call ⟨.builtin .append, as0, ts⟩, ty, pos, af, none⟩ :: l) i a s Φ := by
  subst h
  exact d_append.2 ⟨v, s', hd, hn, hk⟩
variable {q : Bool}
theorem o_appx (h : as0.toList.map a.eval = args) (hd : appendA X s ts args = some (v, s')) (hk : okO q X K ops l (a.put d v) s' Φ) : okO q X K ops (⟨d, .call ⟨.builtin .append, as0, ts⟩, ty, pos, af, none⟩ :: l) a s Φ := by
  subst h
  exact o_append.2 ⟨v, s', hd, hk⟩
theorem o_clearx (h : as0.toList.map a.eval = args) (hd : clearA X s ts args = some (v, s')) (hk : okO q X K ops l (a.put d v) s' Φ) : okO q X K ops (⟨d, .call ⟨.builtin .clear, as0, ts⟩, ty, pos, af, none⟩ :: l) a s Φ := by
  subst h
  exact o_clear.2 ⟨v, s', hd, hk⟩
theorem o_delx (h : as0.toList.map a.eval = args) (hd : deleteA X s ts args = some (v, s')) (hk : okO q X K ops l (a.put d v) s' Φ) : okO q X K ops (⟨d, .call ⟨.builtin .delete, as0, ts⟩, ty, pos, af, none⟩ :: l) a s Φ := by
  subst h
  exact o_delete.2 ⟨v, s', hd, hk⟩
end

/-- A loop that counts: j rounds are done, of n. -/
theorem okC_for {q : Bool} {X : Env} {K : Orc} {r : Option Nat} {G S body : Code} {c : Operand} {e b n : Nat} {Φ : AExit → ACt → St → Prop} (I J : Nat → ACt → St → Prop)
    (hG : ∀ j a s, j ≤ n → I j a s → ∀ Ψ : AExit → ACt → St → Prop, (∀ a' s' bb, a'.eval c = .bool bb → (bb = true ↔ j < n) → I j a' s' → Ψ .normal a' s') → okC q X K r G a s Ψ)
    (hB : ∀ j a s, j < n → I j a s → ∀ Ψ : AExit → ACt → St → Prop, (∀ a s, J j a s → Ψ .normal a s) → (∀ a s, J j a s → Ψ (.exit b) a s) → (∀ e' a s, e' ≠ .normal → e' ≠ .exit b → Φ e' a s → Ψ e' a s) → okC q X K r body a s Ψ)
    (hS : ∀ j a s, j < n → J j a s → ∀ Ψ : AExit → ACt → St → Prop, (∀ a s, I (j + 1) a s → Ψ .normal a s) → okC q X K r S a s Ψ)
    (hE : ∀ a s, I n a s → Φ (.exit e) a s) {j0 : Nat} {a : ACt} {s : St} (hj : j0 ≤ n) (h0 : I j0 a s) :
    okC q X K r (.loop (.seq (.seq G (.cond c .skip (.exit e))) (.seq (.block b body) S))) a s Φ := by
  refine okC.loop (fun k a s => ∃ j, k = n - j ∧ j ≤ n ∧ I j a s) ?_ (n - j0) ⟨j0, rfl, hj, h0⟩
  rintro k a s ⟨j, rfl, hj, hI⟩
  refine okC_seq_g fun Ψ1 h1 h1' => ?_
  refine okC_seq_g fun Ψ2 h2 h2' => ?_
  refine hG j a s hj hI _ fun a' s' bb hb hbb hI' => h2 _ _ ?_
  rw [okC_cond]
  refine ⟨bb, hb, ?_⟩
  by_cases hlt : j < n
  · rw [if_pos (hbb.2 hlt), okC_skip]
    refine h1 _ _ ?_
    refine okC_seq_g fun Ψ3 h3 h3' => ?_
    refine okC_block_g fun Ψ4 h4 h4e h4' => ?_
    have done : ∀ a s, J j a s → Ψ3 .normal a s := fun a s hJ => h3 _ _ (hS j a s hlt hJ _ fun a s hI => ⟨n - (j + 1), by omega, j + 1, rfl, hlt, hI⟩)
    refine hB j a' s' hlt hI' Ψ4 (fun a s hJ => h4 _ _ (done a s hJ)) (fun a s hJ => h4e _ _ (done a s hJ)) fun e' a s hn hb hΦ => h4' _ _ _ hn hb (h3' _ _ _ hn ?_)
    cases e' with
    | normal => exact absurd rfl hn
    | _ => exact hΦ
  · obtain rfl : j = n := by omega
    rw [if_neg (fun h => hlt (hbb.1 h)), okC_exit]
    exact h1' _ _ _ (by simp) (hE _ _ hI')

/-- A loop without a step of its own. -/
theorem okC_while {q : Bool} {X : Env} {K : Orc} {r : Option Nat} {G body : Code} {c : Operand} {e b n : Nat} {Φ : AExit → ACt → St → Prop} (I : Nat → ACt → St → Prop)
    (hG : ∀ j a s, j ≤ n → I j a s → ∀ Ψ : AExit → ACt → St → Prop, (∀ a' s' bb, a'.eval c = .bool bb → (bb = true ↔ j < n) → I j a' s' → Ψ .normal a' s') → okC q X K r G a s Ψ)
    (hB : ∀ j a s, j < n → I j a s → ∀ Ψ : AExit → ACt → St → Prop, (∀ a s, I (j + 1) a s → Ψ .normal a s) → (∀ a s, I (j + 1) a s → Ψ (.exit b) a s) → (∀ e' a s, e' ≠ .normal → e' ≠ .exit b → Φ e' a s → Ψ e' a s) → okC q X K r body a s Ψ)
    (hE : ∀ a s, I n a s → Φ (.exit e) a s) {j0 : Nat} {a : ACt} {s : St} (hj : j0 ≤ n) (h0 : I j0 a s) :
    okC q X K r (.loop (.seq (.seq G (.cond c .skip (.exit e))) (.block b body))) a s Φ := by
  refine okC.loop (fun k a s => ∃ j, k = n - j ∧ j ≤ n ∧ I j a s) ?_ (n - j0) ⟨j0, rfl, hj, h0⟩
  rintro k a s ⟨j, rfl, hj, hI⟩
  refine okC_seq_g fun Ψ1 h1 h1' => ?_
  refine okC_seq_g fun Ψ2 h2 h2' => ?_
  refine hG j a s hj hI _ fun a' s' bb hb hbb hI' => h2 _ _ ?_
  rw [okC_cond]
  refine ⟨bb, hb, ?_⟩
  by_cases hlt : j < n
  · rw [if_pos (hbb.2 hlt), okC_skip]
    refine h1 _ _ ?_
    refine okC_block_g fun Ψ4 h4 h4e h4' => ?_
    have done : ∀ a s, I (j + 1) a s → ∃ j', j' < n - j ∧ ∃ j, j' = n - j ∧ j ≤ n ∧ I j a s := fun a s hI => ⟨n - (j + 1), by omega, j + 1, rfl, hlt, hI⟩
    refine hB j a' s' hlt hI' Ψ4 (fun a s hJ => h4 _ _ (done a s hJ)) (fun a s hJ => h4e _ _ (done a s hJ)) fun e' a s hn hb hΦ => h4' _ _ _ hn hb ?_
    cases e' with
    | normal => exact absurd rfl hn
    | _ => exact hΦ
  · obtain rfl : j = n := by omega
    rw [if_neg (fun h => hlt (hbb.1 h)), okC_exit]
    exact h1' _ _ _ (by simp) (hE _ _ hI')

/-- The same, as0 'range' lays it. -/
theorem okC_range {q : Bool} {X : Env} {K : Orc} {r : Option Nat} {G S body : Code} {c : Operand} {e b n : Nat} {Φ : AExit → ACt → St → Prop} (I J : Nat → ACt → St → Prop)
    (hG : ∀ j a s, j ≤ n → I j a s → ∀ Ψ : AExit → ACt → St → Prop, (∀ a' s' bb, a'.eval c = .bool bb → (bb = true ↔ j < n) → I j a' s' → Ψ .normal a' s') → okC q X K r G a s Ψ)
    (hB : ∀ j a s, j < n → I j a s → ∀ Ψ : AExit → ACt → St → Prop, (∀ a s, J j a s → Ψ .normal a s) → (∀ a s, J j a s → Ψ (.exit b) a s) → (∀ e' a s, e' ≠ .normal → e' ≠ .exit b → Φ e' a s → Ψ e' a s) → okC q X K r body a s Ψ)
    (hS : ∀ j a s, j < n → J j a s → ∀ Ψ : AExit → ACt → St → Prop, (∀ a s, I (j + 1) a s → Ψ .normal a s) → okC q X K r S a s Ψ)
    (hE : ∀ a s, I n a s → Φ (.exit e) a s) {j0 : Nat} {a : ACt} {s : St} (hj : j0 ≤ n) (h0 : I j0 a s) :
    okC q X K r (.loop (.seq G (.seq (.cond c .skip (.exit e)) (.seq (.block b body) S)))) a s Φ := by
  refine okC.loop (fun k a s => ∃ j, k = n - j ∧ j ≤ n ∧ I j a s) ?_ (n - j0) ⟨j0, rfl, hj, h0⟩
  rintro k a s ⟨j, rfl, hj, hI⟩
  refine okC_seq_g fun Ψ2 h2 h2' => ?_
  refine hG j a s hj hI _ fun a' s' bb hb hbb hI' => h2 _ _ ?_
  refine okC_seq_g fun Ψ1 h1 h1' => ?_
  rw [okC_cond]
  refine ⟨bb, hb, ?_⟩
  by_cases hlt : j < n
  · rw [if_pos (hbb.2 hlt), okC_skip]
    refine h1 _ _ ?_
    refine okC_seq_g fun Ψ3 h3 h3' => ?_
    refine okC_block_g fun Ψ4 h4 h4e h4' => ?_
    have done : ∀ a s, J j a s → Ψ3 .normal a s := fun a s hJ => h3 _ _ (hS j a s hlt hJ _ fun a s hI => ⟨n - (j + 1), by omega, j + 1, rfl, hlt, hI⟩)
    refine hB j a' s' hlt hI' Ψ4 (fun a s hJ => h4 _ _ (done a s hJ)) (fun a s hJ => h4e _ _ (done a s hJ)) fun e' a s hn hb hΦ => h4' _ _ _ hn hb (h3' _ _ _ hn ?_)
    cases e' with
    | normal => exact absurd rfl hn
    | _ => exact hΦ
  · obtain rfl : j = n := by omega
    rw [if_neg (fun h => hlt (hbb.1 h)), okC_exit]
    exact h1' _ _ _ (by simp) (hE _ _ hI')

/-! ### What keeps what -/
structure Ok (s : St) : Prop where
  wf : s.wf
  fresh : s.fresh
theorem Ok.skip {s : St} (h : Ok s) (n : Nat) : Ok (s.skip n) := ⟨h.wf, fun b hb => h.fresh b (Nat.le_trans (Nat.le_add_right _ _) hb)⟩
/-- All objects lie as0 they lay, but those of F. -/
structure Keeps (F : List Nat) (s s' : St) : Prop where
  old : ∀ b o, s.heap.get b = some o → b ∉ F → s'.heap.get b = some o
  low : ∀ b o, s'.heap.get b = some o → (∃ o0, s.heap.get b = some o0) ∨ s.next ≤ b
  ok : Ok s'
  next : s.next ≤ s'.next
namespace Keeps
variable {F G : List Nat} {a b c s s' : St}
theorem refl (h : Ok s) : Keeps F s s := ⟨fun _ _ h _ => h, fun _ o h => .inl ⟨o, h⟩, h, Nat.le_refl _⟩
theorem skip (h : Ok s) (n : Nat) : Keeps F s (s.skip n) := ⟨fun _ _ h _ => h, fun _ o h => .inl ⟨o, h⟩, h.skip n, Nat.le_add_right _ _⟩
theorem step (h : Keeps F a b) (k : Keeps G b c) (hG : ∀ g ∈ G, g ∈ F ∨ a.heap.get g = none) : Keeps F a c := by
  refine ⟨fun x o hx hF => k.old x o (h.old x o hx hF) fun hg => ?_, fun x o hx => ?_, k.ok, Nat.le_trans h.next k.next⟩
  · rcases hG x hg with h1 | h1
    · exact hF h1
    · rw [h1] at hx; cases hx
  · rcases k.low x o hx with ⟨o0, h0⟩ | h0
    · exact h.low x o0 h0
    · exact .inr (Nat.le_trans h.next h0)
theorem trans (h : Keeps F a b) (k : Keeps F b c) : Keeps F a c := h.step k fun _ hg => .inl hg
theorem then_skip (h : Keeps F a b) (n : Nat) : Keeps F a (b.skip n) := h.trans (.skip h.ok n)
theorem mono (h : Keeps F s s') (hF : ∀ x ∈ F, x ∈ G) : Keeps G s s' := ⟨fun x o hx hg => h.old x o hx fun hf => hg (hF x hf), h.low, h.ok, h.next⟩
theorem any (h : Keeps [] s s') : Keeps G s s' := h.mono fun _ hx => by cases hx
end Keeps
theorem Ok.put {s : St} (h : Ok s) {x : Nat} {f : Nat → AObj} (hx : x < s.next) (hf : (f s.clk).isDead = true ∨ (f s.clk).ver ≤ s.clk) : Ok (s.put x f) := by
  refine ⟨fun b o hb hd => ?_, fun b hb => ?_⟩
  · simp only [St.put, PT.get_set] at hb ⊢
    split at hb
    · cases hb
      rcases hf with hf | hf
      · rw [hf] at hd; cases hd
      · exact Nat.lt_succ_of_le hf
    · exact Nat.lt_succ_of_lt (h.wf b o hb hd)
  · have hb' : s.next ≤ b := hb
    simp only [St.put, PT.get_set]
    rw [if_neg (by omega)]
    exact h.fresh b hb'
theorem Ok.lt {s : St} (h : Ok s) {b : Nat} {o : AObj} (hb : s.heap.get b = some o) : b < s.next := by
  rcases Nat.lt_or_ge b s.next with h1 | h1
  · exact h1
  · rw [h.fresh b h1] at hb; cases hb
theorem Keeps.put_at {F : List Nat} {s : St} (h : Ok s) {x : Nat} {o : AObj} {f : Nat → AObj} (hx : s.heap.get x = some o) (hf : (f s.clk).isDead = true ∨ (f s.clk).ver ≤ s.clk) (hF : x ∈ F) : Keeps F s (s.put x f) := by
  refine ⟨fun b o' hb hn => ?_, fun b o' hb => ?_, h.put (h.lt hx) hf, Nat.le_refl _⟩
  · simp only [St.put, PT.get_set]
    rw [if_neg fun e => hn (by rw [e]; exact hF)]
    exact hb
  · simp only [St.put, PT.get_set] at hb
    split at hb
    · rename_i e; subst e; exact .inl ⟨o, hx⟩
    · exact .inl ⟨o', hb⟩
/-- A name that was set aside. -/
theorem Keeps.put_new {F : List Nat} {a s : St} (k : Keeps F a s) {x : Nat} {f : Nat → AObj} (hx : s.heap.get x = none) (hlt : x < s.next) (hge : a.next ≤ x) (hf : (f s.clk).isDead = true ∨ (f s.clk).ver ≤ s.clk) : Keeps F a (s.put x f) := by
  refine ⟨fun b o' hb hn => ?_, fun b o' hb => ?_, k.ok.put hlt hf, k.next⟩
  · have hb' := k.old b o' hb hn
    simp only [St.put, PT.get_set]
    rw [if_neg fun e => by subst e; rw [hx] at hb'; cases hb']
    exact hb'
  · simp only [St.put, PT.get_set] at hb
    split at hb
    · rename_i e; subst e; exact .inr hge
    · exact k.low b o' hb
theorem Keeps.new {F : List Nat} {a s : St} (k : Keeps F a s) {f : Nat → AObj} (hf : (f s.clk).isDead = true ∨ (f s.clk).ver ≤ s.clk) : Keeps F a (s.new f) := by
  have h := (k.then_skip 2).put_new (x := s.next) (f := f) (k.ok.fresh _ (Nat.le_refl _)) (by show s.next < s.next + 2; omega) k.next hf
  exact h
theorem Keeps.none {F : List Nat} {s s' : St} (k : Keeps F s s') {x : Nat} (hx : s.heap.get x = Option.none) (hlt : x < s.next) : s'.heap.get x = Option.none := by
  cases h : s'.heap.get x with
  | none => rfl
  | some o =>
    rcases k.low x o h with ⟨o0, h0⟩ | h0
    · rw [hx] at h0; cases h0
    · omega

/-! ### Objects of cells -/
def Cells (s : St) (b : Nat) (e : TypeId) (L : List Value) : Prop := ∃ c z room ver, s.heap.get b = some (.cells c z L.length e room false ver) ∧ ∀ i, i < L.length → cellAt c z L.length i = L[i]?
theorem Cells.keep {F : List Nat} {s s' : St} {b : Nat} {e : TypeId} {L : List Value} (h : Cells s b e L) (k : Keeps F s s') (hb : b ∉ F) : Cells s' b e L := by
  obtain ⟨c, z, room, ver, h1, h2⟩ := h
  exact ⟨c, z, room, ver, k.old _ _ h1 hb, h2⟩
theorem Cells.lt {s : St} {b : Nat} {e : TypeId} {L : List Value} (h : Cells s b e L) (hs : Ok s) : b < s.next := by
  obtain ⟨c, z, room, ver, h1, h2⟩ := h
  exact hs.lt h1
theorem Cells.ne_none {s : St} {b : Nat} {e : TypeId} {L : List Value} (h : Cells s b e L) : s.heap.get b ≠ none := by
  obtain ⟨c, z, room, ver, h1, h2⟩ := h
  rw [h1]; exact fun h => by cases h
theorem sameIn_nil {s s' : St} : SameIn [] s s' := fun _ h => by cases h
theorem sameIn_cons {s s' : St} {b : Nat} {l : List Nat} (h : sameObj s s' b = true) (hl : SameIn l s s') : SameIn (b :: l) s s' := fun x hx => by
  rcases List.mem_cons.1 hx with rfl | hx
  · exact h
  · exact hl x hx
theorem same_of_obj {F : List Nat} {s s' : St} {b : Nat} {o : AObj} (h1 : s.heap.get b = some o) (h2 : o.isDead = false) (hs : Ok s) (k : Keeps F s s') (hb : b ∉ F) : sameObj s s' b = true := by
  simp only [sameObj, h1, k.old _ _ h1 hb, h2, Bool.not_false, beq_self_eq_true, Bool.and_self, Bool.true_and, decide_eq_true_eq]
  exact hs.wf b _ h1 h2
theorem Cells.same {F : List Nat} {s s' : St} {b : Nat} {e : TypeId} {L : List Value} (h : Cells s b e L) (hs : Ok s) (k : Keeps F s s') (hb : b ∉ F) : sameObj s s' b = true := by
  obtain ⟨c, z, room, ver, h1, h2⟩ := h
  exact same_of_obj h1 rfl hs k hb
theorem Cells.load {s : St} {b : Nat} {e : TypeId} {L : List Value} {i : Nat} {v : Value} (h : Cells s b e L) (hi : L[i]? = some v) : load1 s.look ⟨b, i, none⟩ = some v := by
  obtain ⟨c, z, room, ver, h1, h2⟩ := h
  simp only [load1, St.look, h1]
  rw [h2 i (List.getElem?_eq_some_iff.1 hi).1, hi]
theorem readCells_of {c : PT Value} {z : List Value} {n : Nat} : ∀ (k i : Nat) (L : List Value), L.length = k → (∀ j, j < k → cellAt c z n (i + j) = L[j]?) → readCells c z n i k = some L
  | 0, i, L, hL, _ => by
    have : L = [] := List.length_eq_zero_iff.1 hL
    subst this; rfl
  | k + 1, i, v :: L, hL, h => by
    have h0 := h 0 (Nat.succ_pos k)
    have h1 := readCells_of (c := c) (z := z) (n := n) k (i + 1) L (by simpa using hL) fun j hj => by
      have := h (j + 1) (Nat.succ_lt_succ hj)
      rw [show i + 1 + j = i + (j + 1) from by omega, this]; rfl
    rw [Nat.add_zero] at h0
    simp only [readCells, h0, h1, List.getElem?_cons_zero]
theorem Cells.loadN {s : St} {b : Nat} {e : TypeId} {L : List Value} {i k : Nat} (h : Cells s b e L) (hi : i + k ≤ L.length) : loadN s.look ⟨b, i, none⟩ k = some ((L.drop i).take k) := by
  obtain ⟨c, z, room, ver, h1, h2⟩ := h
  simp only [Dust.loadN, St.look, h1]
  refine readCells_of k i _ (by simp; omega) fun j hj => ?_
  rw [h2 _ (by omega), List.getElem?_take_of_lt hj, List.getElem?_drop]
def splice (L : List Value) (i : Nat) (vs : List Value) : List Value := L.take i ++ vs ++ L.drop (i + vs.length)
theorem splice_length {L vs : List Value} {i : Nat} (h : i + vs.length ≤ L.length) : (splice L i vs).length = L.length := by
  simp only [splice, List.length_append, List.length_take, List.length_drop]; omega
theorem splice_get {L vs : List Value} {i : Nat} (h : i + vs.length ≤ L.length) (j : Nat) : (splice L i vs)[j]? = if i ≤ j ∧ j < i + vs.length then vs[j - i]? else L[j]? := by
  unfold splice
  have hi : (L.take i).length = i := by rw [List.length_take]; omega
  by_cases h1 : i ≤ j
  · by_cases h2 : j < i + vs.length
    · rw [if_pos ⟨h1, h2⟩, List.getElem?_append_left (by rw [List.length_append]; omega), List.getElem?_append_right (by omega), hi]
    · rw [if_neg (by omega), List.getElem?_append_right (by rw [List.length_append]; omega), List.length_append, hi, List.getElem?_drop]
      congr 1; omega
  · rw [if_neg (by omega), List.getElem?_append_left (by rw [List.length_append]; omega), List.getElem?_append_left (by omega), List.getElem?_take_of_lt (by omega)]
theorem splice_one {L : List Value} {i : Nat} {v : Value} (h : i < L.length) : splice L i [v] = L.set i v := by
  apply List.ext_getElem?
  intro j
  rw [splice_get (by simp; omega)]
  rw [List.getElem?_set]
  simp only [List.length_singleton]
  by_cases h1 : i = j
  · subst h1
    simp [h]
  · rw [if_neg (by omega), if_neg h1]
theorem Cells.store {s : St} {b : Nat} {e : TypeId} {L vs : List Value} {i : Nat} (h : Cells s b e L) (hs : Ok s) (hi : i + vs.length ≤ L.length) (h1 : vs.all one1 = true) :
    ∃ s', storeN s ⟨b, i, none⟩ vs = some s' ∧ Cells s' b e (splice L i vs) ∧ Keeps [b] s s' := by
  obtain ⟨c, z, room, ver, hb, hc⟩ := h
  refine ⟨_, by simp only [storeN, hb]; rw [if_pos ⟨hi, h1⟩], ⟨c.setL i vs, z, room, s.clk, ?_, fun j hj => ?_⟩, .put_at hs hb (.inr (Nat.le_refl _)) (List.mem_singleton.2 rfl)⟩
  · simp only [St.put, PT.get_set, if_true, splice_length hi]
  · rw [splice_length hi] at hj ⊢
    rw [splice_get hi]
    unfold cellAt
    rw [if_pos hj, PT.get_setL]
    have hold := hc j hj
    unfold cellAt at hold
    rw [if_pos hj] at hold
    by_cases h2 : i ≤ j
    · rw [if_pos h2]
      by_cases h3 : j < i + vs.length
      · rw [if_pos ⟨h2, h3⟩, List.getElem?_eq_getElem (by omega)]
      · rw [if_neg (by omega), List.getElem?_eq_none (by omega)]
        exact hold
    · rw [if_neg h2, if_neg (by omega)]
      exact hold
theorem Cells.store1 {s : St} {b : Nat} {e : TypeId} {L : List Value} {i : Nat} {v : Value} (h : Cells s b e L) (hs : Ok s) (hi : i < L.length) (h1 : one1 v = true) :
    ∃ s', storeN s ⟨b, i, none⟩ [v] = some s' ∧ Cells s' b e (L.set i v) ∧ Keeps [b] s s' := by
  have := h.store hs (i := i) (vs := [v]) (by simp; omega) (by simp [h1])
  rw [splice_one hi] at this
  exact this
/-- A new object. -/
theorem Cells.of_put {s : St} {x : Nat} {e : TypeId} {L : List Value} {room : Bool} : Cells (s.put x fun v => .cells (PT.ofList L) [] L.length e room false v) x e L := by
  refine ⟨PT.ofList L, [], room, s.clk, by simp only [St.put, PT.get_set, if_true], fun i hi => ?_⟩
  unfold cellAt
  rw [if_pos hi, PT.get_ofList, List.getElem?_eq_getElem hi]
theorem Cells.of_new {s : St} {e : TypeId} {L : List Value} {room : Bool} : Cells (s.new fun v => .cells (PT.ofList L) [] L.length e room false v) s.next e L := Cells.of_put (s := s)
/-- A new slice. -/
theorem Cells.of_make {s : St} {x : Nat} {e : TypeId} {z : List Value} {n : Nat} : Cells (s.put x fun v => .cells .nil z (n * z.length) e false false v) x e ((List.range (n * z.length)).map fun i => z.getD (i % z.length) undef) := by
  refine ⟨.nil, z, false, s.clk, by simp only [St.put, PT.get_set, if_true, List.length_map, List.length_range], fun i hi => ?_⟩
  rw [List.length_map, List.length_range] at hi ⊢
  unfold cellAt
  rw [if_pos hi, PT.get_nil, List.getElem?_map, List.getElem?_range hi]
  rfl

theorem mkA_of {X : Env} {nm : Nat} {t e B N : Nat} {n m : Int} {z : Value} (hd : ((X.ty t).map fun i => i.desc) = some (.slice e)) (he : ((X.ty e).map fun i => (i.bytes, i.size, i.zero)) = some (B, N, some z))
    (h5 : z.cells.size = N) (h1 : 0 ≤ n) (h2 : n ≤ m) (h3 : m < 2 ^ 40) (h4 : (B : Int) * m ≤ 2 ^ 48) :
    mkA X nm t (.int .i64 n) (.int .i64 m) = some (.slice (some ⟨nm, 0, none⟩) n.toNat m.toNat, fun v => .cells .nil z.cells.toList (m.toNat * N) e false false v) := by
  cases hi : X.ty t with
  | none => rw [hi] at hd; cases hd
  | some i =>
    cases hj : X.ty e with
    | none => rw [hj] at he; cases he
    | some j =>
      rw [hi] at hd
      rw [hj] at he
      obtain ⟨d, sz, bs, zz, ag, ms, cm⟩ := i
      obtain ⟨d', sz', bs', zz', ag', ms', cm'⟩ := j
      simp only [Option.map_some, Option.some.injEq, Prod.mk.injEq] at hd he
      subst hd
      obtain ⟨rfl, rfl, rfl⟩ := he
      simp only [mkA, hi, hj]
      rw [if_pos ⟨h1, h2, h3, h4, h5⟩]

/-- 'x[l:h]'. -/
theorem slice_of {X : Env} {H : Look} {t e N b off n c l h : Nat} (hd : ((X.ty t).map fun i => i.desc) = some (.slice e)) (he : ((X.ty e).map fun i => i.size) = some N)
    (ho : ∃ c z n e room ro ver, H b = some (.cells c z n e room ro ver)) (h1 : l ≤ h) (h2 : h ≤ c) (h3 : l < c) :
    sliceA X H t (.slice (some ⟨b, off, none⟩) n c) (some (.int .i64 l)) (some (.int .i64 h)) none = some (.slice (some ⟨b, off + l * N, none⟩) (h - l) (c - l)) := by
  obtain ⟨cc, z, m, e0, room, ro, ver, ho⟩ := ho
  cases hi : X.ty t with
  | none => rw [hi] at hd; cases hd
  | some i =>
    cases hj : X.ty e with
    | none => rw [hj] at he; cases he
    | some j =>
      rw [hi] at hd
      rw [hj] at he
      obtain ⟨d, sz, bs, zz, ag, ms, cm⟩ := i
      simp only [Option.map_some, Option.some.injEq] at hd he
      subst hd
      have hb : bounds2 n c (some (l : Int)) (some (h : Int)) = some (l, h) := by
        unfold bounds2
        simp only
        rw [if_pos (by omega)]
        simp only [Int.toNat_natCast]
        rw [if_pos (by omega)]
      simp only [sliceA, hi, hj, optInt, hb, ho]
      rw [if_pos ⟨h1, h2⟩, if_neg (by omega), addr_add, he]
/-- 'clear(x)'. -/
theorem clear_of {X : Env} {s s' : St} {t e b off n c : Nat} {z : Value} (hd : ((X.ty t).map fun i => i.desc) = some (.slice e)) (he : ((X.ty e).map fun i => i.zero) = some (some z)) (hn : n ≠ 0)
    (hs : storeN s ⟨b, off, none⟩ (rep z.cells.toList n) = some s') : clearA X s #[t] [.slice (some ⟨b, off, none⟩) n c] = some (.tuple #[], s') := by
  cases hi : X.ty t with
  | none => rw [hi] at hd; cases hd
  | some i =>
    cases hj : X.ty e with
    | none => rw [hj] at he; cases he
    | some j =>
      rw [hi] at hd
      rw [hj] at he
      obtain ⟨d, sz, bs, zz, ag, ms, cm⟩ := i
      obtain ⟨d', sz', bs', zz', ag', ms', cm'⟩ := j
      simp only [Option.map_some, Option.some.injEq] at hd he
      subst hd
      subst he
      simp only [clearA, List.getElem?_toArray, List.getElem?_cons_zero, hi]
      rw [if_neg hn]
      simp only [hj, hs]

/-! ### Slices to be read -/
inductive Sl (s : St) (m : Nat) : Value → List Value → Prop
  | nil (a : Option Addr) (c : Nat) : Sl s m (.slice a 0 c) []
  | cells {b off n c : Nat} {L : List Value} (hL : L.length = n * m) (hl : ∀ i, i < L.length → load1 s.look ⟨b, off + i, none⟩ = L[i]?) : Sl s m (.slice (some ⟨b, off, none⟩) n c) L
theorem load_keep {F : List Nat} {s s' : St} {a : Addr} {v : Value} (k : Keeps F s s') (ha : a.block ∉ F) (h : load1 s.look a = some v) : load1 s'.look a = some v := by
  rcases a with ⟨b, off, sp⟩
  unfold load1 at h ⊢
  simp only [St.look] at h ⊢
  cases ho : s.heap.get b with
  | none => rw [ho] at h; cases sp <;> cases h
  | some o => rw [ho] at h; rw [k.old _ _ ho ha]; exact h
theorem same_of_load {F : List Nat} {s s' : St} {a : Addr} {v : Value} (h : load1 s.look a = some v) (hs : Ok s) (k : Keeps F s s') (ha : a.block ∉ F) : sameObj s s' a.block = true := by
  obtain ⟨o, h1, h2⟩ := load_obj h
  exact same_of_obj h1 h2 hs k ha
theorem Sl.keep {F : List Nat} {s s' : St} {m : Nat} {v : Value} {L : List Value} (h : Sl s m v L) (k : Keeps F s s') (hb : ∀ b ∈ nameOf v, b ∉ F) : Sl s' m v L := by
  cases h with
  | nil a c => exact .nil a c
  | cells hL hl =>
    refine .cells hL fun i hi => ?_
    have := hl i hi
    rw [List.getElem?_eq_getElem hi] at this ⊢
    exact load_keep k (hb _ (by simp [nameOf])) this
theorem Sl.of_cells {s : St} {b off n c m : Nat} {e : TypeId} {L : List Value} (h : Cells s b e L) (hn : off + n * m ≤ L.length) : Sl s m (.slice (some ⟨b, off, none⟩) n c) ((L.drop off).take (n * m)) := by
  refine .cells (by simp; omega) fun i hi => ?_
  have hi' : i < n * m := by simp at hi; omega
  rw [List.getElem?_take_of_lt hi', List.getElem?_drop]
  rw [List.getElem?_eq_getElem (by omega)]
  exact h.load (List.getElem?_eq_getElem (by omega))
theorem Sl.len {s : St} {m n c : Nat} {a : Option Addr} {L : List Value} (h : Sl s m (.slice a n c) L) : L.length = n * m := by
  cases h with
  | nil => simp
  | cells hL _ => exact hL
theorem Sl.addr {s : St} {m n c : Nat} {a : Option Addr} {L : List Value} (h : Sl s m (.slice a n c) L) (hn : 0 < n) : ∃ b off, a = some ⟨b, off, none⟩ := by
  cases h with
  | nil => omega
  | cells => exact ⟨_, _, rfl⟩
theorem Sl.load {s : St} {m n c b off i : Nat} {L : List Value} {v : Value} (h : Sl s m (.slice (some ⟨b, off, none⟩) n c) L) (hi : L[i]? = some v) : load1 s.look ⟨b, off + i, none⟩ = some v := by
  cases h with
  | nil => cases hi
  | cells hL hl => rw [hl i (List.getElem?_eq_some_iff.1 hi).1, hi]
theorem loadN_of {H : Look} {b : Nat} : ∀ {k off : Nat} {L : List Value}, 0 < k → L.length = k → (∀ i, i < k → load1 H ⟨b, off + i, none⟩ = L[i]?) → loadN H ⟨b, off, none⟩ k = some L := by
  intro k off L hk hL h
  have h0 := h 0 hk
  unfold load1 at h0
  unfold loadN
  simp only at h0 ⊢
  cases hb : H b with
  | none => rw [hb, List.getElem?_eq_getElem (by omega)] at h0; cases h0
  | some o =>
    cases o with
    | cells c z n e room ro ver =>
      simp only
      refine readCells_of k off L hL fun j hj => ?_
      have := h j hj
      unfold load1 at this
      rw [hb] at this
      exact this
    | _ => rw [hb, List.getElem?_eq_getElem (by omega)] at h0; cases h0
theorem Sl.loadN {s : St} {m n c b off i k : Nat} {L : List Value} (h : Sl s m (.slice (some ⟨b, off, none⟩) n c) L) (hk : 0 < k) (hi : i + k ≤ L.length) : loadN s.look ⟨b, off + i, none⟩ k = some ((L.drop i).take k) := by
  refine loadN_of hk (by simp; omega) fun j hj => ?_
  rw [List.getElem?_take_of_lt hj, List.getElem?_drop, List.getElem?_eq_getElem (by omega), Nat.add_assoc]
  exact h.load (List.getElem?_eq_getElem (by omega))

/-! ### Slices that are ours and grow -/
inductive Buf (s : St) (e : TypeId) (m : Nat) : Value → List Value → Prop
  | nil : Buf s e m (.slice none 0 0) []
  | own {b off n cap : Nat} {L0 L : List Value} (h : Cells s b e L0) (hc : off + cap * m ≤ L0.length) (hn : n ≤ cap) (hL : L.length = n * m) (hl : ∀ i, i < L.length → L0[off + i]? = L[i]?) :
      Buf s e m (.slice (some ⟨b, off, none⟩) n cap) L
theorem Buf.sl {s : St} {e : TypeId} {m : Nat} {v : Value} {L : List Value} (h : Buf s e m v L) : Sl s m v L := by
  cases h with
  | nil => exact .nil _ _
  | own h hc hn hL hl =>
    refine .cells hL fun i hi => ?_
    have := hl i hi
    rw [List.getElem?_eq_getElem hi] at this ⊢
    exact h.load this
theorem Buf.keep {F : List Nat} {s s' : St} {e : TypeId} {m : Nat} {v : Value} {L : List Value} (h : Buf s e m v L) (k : Keeps F s s') (hb : ∀ b ∈ nameOf v, b ∉ F) : Buf s' e m v L := by
  cases h with
  | nil => exact .nil
  | own h hc hn hL hl => exact .own (h.keep k (hb _ (by simp [nameOf]))) hc hn hL hl
theorem Buf.lt {s : St} {e : TypeId} {m : Nat} {v : Value} {L : List Value} (h : Buf s e m v L) (hs : Ok s) : ∀ b ∈ nameOf v, b < s.next := by
  cases h with
  | nil => intro b hb; cases hb
  | own h _ _ _ _ =>
    intro b hb
    simp only [nameOf, List.mem_singleton] at hb
    subst hb
    exact h.lt hs
/-- Behind an append: the new slice, and what it leaves. -/
theorem Buf.append {s : St} {e : TypeId} {m len cap k : Nat} {a : Option Addr} {L new : List Value} (h : Buf s e m (.slice a len cap) L) (hs : Ok s) (hm : 0 < m) (hn : new.length = k * m) (h1 : new.all one1 = true) :
    ∃ v s', appendB s e m a len cap k new = some (v, s') ∧ Buf s' e m v (L ++ new) ∧ Keeps (nameOf (.slice a len cap)) s s' ∧ (∀ b ∈ nameOf v, b ∈ nameOf (.slice a len cap) ∨ s.next ≤ b) ∧ (∃ a' c', v = .slice a' (len + k) c') := by
  cases h with
  | nil =>
    by_cases hk : k = 0
    · subst hk
      have : new = [] := List.length_eq_zero_iff.1 (by omega)
      subst this
      exact ⟨_, s, by simp [appendB], .nil, .refl hs, by simp [nameOf], _, _, rfl⟩
    · refine ⟨.slice (some ⟨s.next, 0, none⟩) (0 + k) (0 + k), s.new fun v => .cells (PT.ofList new) [] ((0 + k) * m) e true false v, ?_, ?_, ?_, ?_, _, _, rfl⟩
      · unfold appendB
        rw [if_neg (by omega)]
        rfl
      · have hc := Cells.of_new (s := s) (e := e) (L := new) (room := true)
        rw [hn] at hc
        rw [Nat.zero_add]
        exact .own hc (by omega) (Nat.le_refl _) (by simpa using hn) (fun i hi => by simp)
      · exact (Keeps.refl hs).new (.inr (Nat.le_refl _))
      · intro b hb
        simp only [nameOf, List.mem_singleton] at hb
        exact .inr (by omega)
  | @own b off _ _ L0 _ h hc hnc hL hl =>
    by_cases hfit : len + k ≤ cap
    · by_cases hk : k = 0
      · subst hk
        have : new = [] := List.length_eq_zero_iff.1 (by omega)
        subst this
        refine ⟨_, s, by unfold appendB; rw [if_pos hfit]; rfl, ?_, .refl hs, fun b hb => .inl hb, _, _, rfl⟩
        rw [List.append_nil]
        exact .own h hc hnc hL hl
      · have hmul : len * m + k * m ≤ cap * m := by rw [← Nat.add_mul]; exact Nat.mul_le_mul_right m hfit
        obtain ⟨s', h2, h3, h4⟩ := h.store hs (i := off + len * m) (vs := new) (by omega) h1
        refine ⟨.slice (some ⟨b, off, none⟩) (len + k) cap, s', ?_, ?_, h4, fun b hb => .inl hb, _, _, rfl⟩
        · unfold appendB
          rw [if_pos hfit]
          have : new.isEmpty = false := by
            cases new with
            | nil =>
              have := Nat.mul_pos (Nat.pos_of_ne_zero hk) hm
              simp at hn; omega
            | cons => rfl
          simp only [this, addr_add, h2]
          rfl
        · refine .own h3 (by rw [splice_length (by omega)]; exact hc) hfit (by rw [List.length_append, hL, hn, Nat.add_mul]) fun i hi => ?_
          rw [List.length_append, hL, hn] at hi
          rw [splice_get (by omega)]
          by_cases hlt : i < len * m
          · rw [if_neg (by omega), List.getElem?_append_left (by omega)]
            exact hl i (by omega)
          · rw [if_pos (by omega), List.getElem?_append_right (by omega)]
            congr 1; omega
    · obtain ⟨c, z, room, ver, hb, hcell⟩ := h
      have hk : 0 < k := by omega
      have hmul : len * m ≤ cap * m := Nat.mul_le_mul_right m hnc
      have hin : inBlock ⟨b, off, none⟩ len cap m L0.length = true := by simp [inBlock]; omega
      have hold : ∀ i, i < len * m → cellAt c z L0.length (off + i) = L[i]? := fun i hi => by rw [hcell _ (by omega)]; exact hl i (by omega)
      -- the state in which the new object is made
      have hks : Keeps [b] s (if room = true then s.kill b else s) ∧ (if room = true then s.kill b else s).next = s.next := by
        cases room with
        | false => exact ⟨.refl hs, rfl⟩
        | true => exact ⟨Keeps.put_at (f := fun _ => .dead) hs hb (.inl rfl) (List.mem_singleton.2 rfl), rfl⟩
      obtain ⟨c', z', hg, hc'⟩ : ∃ c' z', grownCells c z L0.length ⟨b, off, none⟩ (len * m) new = some (c', z') ∧ ∀ i, i < (L ++ new).length → cellAt c' z' ((len + k) * m) i = (L ++ new)[i]? := by
        have hlen : (L ++ new).length = (len + k) * m := by rw [List.length_append, hL, hn, Nat.add_mul]
        unfold grownCells
        by_cases h0 : len * m = 0
        · refine ⟨_, _, by rw [if_pos h0], fun i hi => ?_⟩
          have hLn : L = [] := List.length_eq_zero_iff.1 (by omega)
          subst hLn
          rw [hlen] at hi
          rw [List.nil_append]
          unfold cellAt
          rw [if_pos hi, PT.get_ofList]
          have : i < new.length := by rw [hn]; rw [Nat.add_mul] at hi; omega
          rw [List.getElem?_eq_getElem this]
        · by_cases ho : off = 0
          · subst ho
            refine ⟨c.setL (len * m) new, z, by rw [if_neg h0]; simp; omega, fun i hi => ?_⟩
            rw [hlen] at hi
            unfold cellAt
            rw [if_pos hi, PT.get_setL]
            by_cases h2 : len * m ≤ i
            · rw [if_pos h2, List.getElem?_append_right (by omega), hL, List.getElem?_eq_getElem (by rw [hn]; rw [Nat.add_mul] at hi; omega)]
            · rw [if_neg h2, List.getElem?_append_left (by omega)]
              have := hold i (by omega)
              unfold cellAt at this
              rw [if_pos (by omega), Nat.zero_add] at this
              exact this
          · have hr : readCells c z L0.length off (len * m) = some L := readCells_of _ _ _ hL hold
            refine ⟨PT.ofList (L ++ new), [], by rw [if_neg h0]; simp only [ho, if_false, hr], fun i hi => ?_⟩
            unfold cellAt
            rw [if_pos (by rw [← hlen]; exact hi), PT.get_ofList, List.getElem?_eq_getElem hi]
      have hlen : (L ++ new).length = (len + k) * m := by rw [List.length_append, hL, hn, Nat.add_mul]
      refine ⟨.slice (some ⟨(if room = true then s.kill b else s).next, 0, none⟩) (len + k) (len + k), (if room = true then s.kill b else s).new fun v => .cells c' z' ((len + k) * m) e true false v, ?_, ?_, ?_, ?_, _, _, rfl⟩
      · unfold appendB
        rw [if_neg hfit]
        simp only [hb]
        rw [if_pos ⟨trivial, hin⟩, hg, hks.2]
      · refine .own (L0 := L ++ new) ⟨c', z', true, (if room = true then s.kill b else s).clk, ?_, ?_⟩ (by rw [hlen]; omega) (Nat.le_refl _) hlen (fun i _ => by rw [Nat.zero_add])
        · rw [hlen]
          simp only [St.new, PT.get_set, if_true]
        · rw [hlen]
          intro i hi
          exact hc' i (by rw [hlen]; exact hi)
      · exact hks.1.new (.inr (Nat.le_refl _))
      · intro x hx
        simp only [nameOf, List.mem_singleton] at hx
        exact .inr (by rw [hx, hks.2]; exact Nat.le_refl _)
end Go.Dust
end
