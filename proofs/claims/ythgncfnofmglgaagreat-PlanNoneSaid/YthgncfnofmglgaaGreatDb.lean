/- The words by which abstract memory and the model's memory are tied, and their plain laws. -/
import Derived.Test.YthgncfnofmglgaaGreatDa
namespace Go.Dust

namespace PT
variable {α : Type}
theorem get_nil (n : Nat) : (PT.nil : PT α).get n = none := rfl
theorem get_node_zero (v : Option α) (l r : PT α) : (node v l r).get 0 = v := rfl
theorem beq_odd {m : Nat} (h : m % 2 = 0) : Nat.beq (Nat.mod (m + 1) 2) 1 = true := by
  rw [Nat.beq_eq]; show (m + 1) % 2 = 1; omega
theorem beq_even {m : Nat} (h : m % 2 = 1) : Nat.beq (Nat.mod (m + 1) 2) 1 = false := by
  cases hb : Nat.beq (Nat.mod (m + 1) 2) 1 with
  | false => rfl
  | true => rw [Nat.beq_eq] at hb; have : (m + 1) % 2 = 1 := hb; omega
theorem get_node_even (v : Option α) (l r : PT α) (m : Nat) (h : m % 2 = 0) : (node v l r).get (m + 1) = l.get (m / 2) := by
  show (Bool.rec (motive := fun _ => Option α) (r.get (m / 2)) (l.get (m / 2)) (Nat.beq (Nat.mod (m + 1) 2) 1)) = _
  rw [beq_odd h]
theorem get_node_odd (v : Option α) (l r : PT α) (m : Nat) (h : m % 2 = 1) : (node v l r).get (m + 1) = r.get (m / 2) := by
  show (Bool.rec (motive := fun _ => Option α) (r.get (m / 2)) (l.get (m / 2)) (Nat.beq (Nat.mod (m + 1) 2) 1)) = _
  rw [beq_even h]
theorem setF_nil_zero (f : Nat) (a : α) : setF (f + 1) nil 0 a = node (some a) nil nil := rfl
theorem setF_node_zero (f : Nat) (v : Option α) (l r : PT α) (a : α) : setF (f + 1) (node v l r) 0 a = node (some a) l r := rfl
theorem setF_nil_even (f m : Nat) (a : α) (h : m % 2 = 0) : setF (f + 1) nil (m + 1) a = node none (setF f nil (m / 2) a) nil := by
  show (Bool.rec (motive := fun _ => PT α) (node none nil (setF f nil (m / 2) a)) (node none (setF f nil (m / 2) a) nil) (Nat.beq (Nat.mod (m + 1) 2) 1)) = _
  rw [beq_odd h]
theorem setF_nil_odd (f m : Nat) (a : α) (h : m % 2 = 1) : setF (f + 1) nil (m + 1) a = node none nil (setF f nil (m / 2) a) := by
  show (Bool.rec (motive := fun _ => PT α) (node none nil (setF f nil (m / 2) a)) (node none (setF f nil (m / 2) a) nil) (Nat.beq (Nat.mod (m + 1) 2) 1)) = _
  rw [beq_even h]
theorem setF_node_even (f m : Nat) (v : Option α) (l r : PT α) (a : α) (h : m % 2 = 0) : setF (f + 1) (node v l r) (m + 1) a = node v (setF f l (m / 2) a) r := by
  show (Bool.rec (motive := fun _ => PT α) (node v l (setF f r (m / 2) a)) (node v (setF f l (m / 2) a) r) (Nat.beq (Nat.mod (m + 1) 2) 1)) = _
  rw [beq_odd h]
theorem setF_node_odd (f m : Nat) (v : Option α) (l r : PT α) (a : α) (h : m % 2 = 1) : setF (f + 1) (node v l r) (m + 1) a = node v l (setF f r (m / 2) a) := by
  show (Bool.rec (motive := fun _ => PT α) (node v l (setF f r (m / 2) a)) (node v (setF f l (m / 2) a) r) (Nat.beq (Nat.mod (m + 1) 2) 1)) = _
  rw [beq_even h]
theorem get_setF : ∀ (f : Nat) (t : PT α) (n : Nat) (a : α) (m : Nat), n < f → (setF f t n a).get m = if m = n then some a else t.get m := by
  intro f
  induction f with
  | zero => intro t n a m h; omega
  | succ f ih =>
    intro t n a m h
    cases t with
    | nil =>
      cases n with
      | zero =>
        rw [setF_nil_zero]
        cases m with
        | zero => simp [get_node_zero]
        | succ m =>
          rcases Nat.mod_two_eq_zero_or_one m with e | e
          · simp [get_node_even _ _ _ _ e, get_nil]
          · simp [get_node_odd _ _ _ _ e, get_nil]
      | succ n =>
        rcases Nat.mod_two_eq_zero_or_one n with e | e
        · rw [setF_nil_even _ _ _ e]
          cases m with
          | zero => simp [get_node_zero, get_nil]
          | succ m =>
            rcases Nat.mod_two_eq_zero_or_one m with e' | e'
            · rw [get_node_even _ _ _ _ e', ih _ _ _ _ (by omega)]
              simp only [get_nil]
              by_cases hm : m = n
              · subst hm; simp
              · rw [if_neg (by omega), if_neg (by omega)]
            · rw [get_node_odd _ _ _ _ e', get_nil, if_neg (by omega), get_nil]
        · rw [setF_nil_odd _ _ _ e]
          cases m with
          | zero => simp [get_node_zero, get_nil]
          | succ m =>
            rcases Nat.mod_two_eq_zero_or_one m with e' | e'
            · rw [get_node_even _ _ _ _ e', get_nil, if_neg (by omega), get_nil]
            · rw [get_node_odd _ _ _ _ e', ih _ _ _ _ (by omega)]
              simp only [get_nil]
              by_cases hm : m = n
              · subst hm; simp
              · rw [if_neg (by omega), if_neg (by omega)]
    | node v l r =>
      cases n with
      | zero =>
        rw [setF_node_zero]
        cases m with
        | zero => simp [get_node_zero]
        | succ m =>
          rcases Nat.mod_two_eq_zero_or_one m with e | e
          · simp [get_node_even _ _ _ _ e]
          · simp [get_node_odd _ _ _ _ e]
      | succ n =>
        rcases Nat.mod_two_eq_zero_or_one n with e | e
        · rw [setF_node_even _ _ _ _ _ _ e]
          cases m with
          | zero => simp [get_node_zero]
          | succ m =>
            rcases Nat.mod_two_eq_zero_or_one m with e' | e'
            · rw [get_node_even _ _ _ _ e', ih _ _ _ _ (by omega), get_node_even _ _ _ _ e']
              by_cases hm : m = n
              · subst hm; simp
              · rw [if_neg (by omega), if_neg (by omega)]
            · rw [get_node_odd _ _ _ _ e', get_node_odd _ _ _ _ e', if_neg (by omega)]
        · rw [setF_node_odd _ _ _ _ _ _ e]
          cases m with
          | zero => simp [get_node_zero]
          | succ m =>
            rcases Nat.mod_two_eq_zero_or_one m with e' | e'
            · rw [get_node_even _ _ _ _ e', get_node_even _ _ _ _ e', if_neg (by omega)]
            · rw [get_node_odd _ _ _ _ e', ih _ _ _ _ (by omega), get_node_odd _ _ _ _ e']
              by_cases hm : m = n
              · subst hm; simp
              · rw [if_neg (by omega), if_neg (by omega)]
theorem get_set (t : PT α) (n : Nat) (a : α) (m : Nat) : (t.set n a).get m = if m = n then some a else t.get m := get_setF _ _ _ _ _ (Nat.lt_succ_self n)
theorem get_set_same (t : PT α) (n : Nat) (a : α) : (t.set n a).get n = some a := by rw [get_set, if_pos rfl]
theorem get_set_ne (t : PT α) {n m : Nat} (a : α) (h : m ≠ n) : (t.set n a).get m = t.get m := by rw [get_set, if_neg h]
theorem get_setL : ∀ (l : List α) (t : PT α) (n m : Nat), (t.setL n l).get m = if n ≤ m then (match l[m - n]? with | some a => some a | none => t.get m) else t.get m
  | [], t, n, m => by simp [setL]
  | a :: l, t, n, m => by
    rw [setL, get_setL l _ (n + 1) m]
    by_cases h : n + 1 ≤ m
    · obtain ⟨d, hd⟩ : ∃ d, m - n = d + 1 := ⟨m - n - 1, by omega⟩
      rw [if_pos h, if_pos (by omega), hd, show m - (n + 1) = d from by omega, List.getElem?_cons_succ, get_set_ne _ _ (by omega)]
    · rw [if_neg h]
      by_cases h' : n ≤ m
      · have : m = n := by omega
        subst this
        rw [if_pos (Nat.le_refl _), Nat.sub_self, get_set_same]; rfl
      · rw [if_neg h', get_set_ne _ _ (by omega)]
theorem get_ofList (l : List α) (m : Nat) : (ofList l).get m = l[m]? := by
  rw [ofList, get_setL, if_pos (Nat.zero_le _), Nat.sub_zero, get_nil]
  cases l[m]? <;> rfl
end PT

/-! ### Res -/
namespace Res
variable {α β : Type}
theorem All.mono {Φ Ψ : α → Prop} (h : ∀ a, Φ a → Ψ a) : ∀ {x : Res α}, x.All Φ → x.All Ψ
  | fail _, hx => hx
  | ret _, hx => h _ hx
  | ask _ _, hx => fun i hi => All.mono h (hx i hi)
theorem All_bind (f : α → Res β) (Φ : β → Prop) : ∀ (x : Res α), (x.bind f).All Φ ↔ x.All fun a => (f a).All Φ
  | fail _ => Iff.rfl
  | ret _ => Iff.rfl
  | ask _ k => ⟨fun h i hi => (All_bind f Φ (k i)).1 (h i hi), fun h i hi => (All_bind f Φ (k i)).2 (h i hi)⟩
theorem All.and_lv {Φ Ψ : α → Prop} : ∀ {x : Res α}, x.All Φ → x.Lv Ψ → x.All fun a => Φ a ∧ Ψ a
  | fail _, hx, _ => hx
  | ret _, hx, hy => ⟨hx, hy⟩
  | ask _ _, hx, hy => fun i hi => All.and_lv (hx i hi) (hy i hi)
theorem Lv.mono {Φ Ψ : α → Prop} (h : ∀ a, Φ a → Ψ a) : ∀ {x : Res α}, x.Lv Φ → x.Lv Ψ
  | fail _, _ => trivial
  | ret _, hx => h _ hx
  | ask _ _, hx => fun i hi => Lv.mono h (hx i hi)
theorem Lv_bind (f : α → Res β) (Φ : β → Prop) : ∀ (x : Res α), (x.bind f).Lv Φ ↔ x.Lv fun a => (f a).Lv Φ
  | fail _ => Iff.rfl
  | ret _ => Iff.rfl
  | ask _ k => ⟨fun h i hi => (Lv_bind f Φ (k i)).1 (h i hi), fun h i hi => (Lv_bind f Φ (k i)).2 (h i hi)⟩
end Res

/-! ### Values -/
/-- Where a name lies: its block, how far in; by how many elements a slice over it may grow in place; whether it is not ours to write. -/
structure Loc where
  blk : Nat
  off : Nat
  extra : Nat
  ro : Bool
abbrev Inj := Nat → Option Loc
def Inj.le (ι ι' : Inj) : Prop := ∀ b l, ι b = some l → ι' b = some l
theorem Inj.le_refl (ι : Inj) : ι.le ι := fun _ _ h => h
theorem Inj.le_trans {a b c : Inj} (h : a.le b) (k : b.le c) : a.le c := fun n l e => k n l (h n l e)

inductive VR (ι : Inj) : Value → Value → Prop
  | bool (b : Bool) : VR ι (.bool b) (.bool b)
  | int (k : IntKind) (n : Int) : VR ι (.int k n) (.int k n)
  | float (k : FloatKind) (n : Nat) : VR ι (.float k n) (.float k n)
  | string (s : ByteArray) : VR ι (.string s) (.string s)
  | nilptr : VR ι (.pointer none) (.pointer none)
  | ptr {b o : Nat} {l : Loc} (h : ι b = some l) : VR ι (.pointer (some ⟨b, o, none⟩)) (.pointer (some ⟨l.blk, l.off + o, none⟩))
  | nilslice (n c : Nat) : VR ι (.slice none n c) (.slice none n c)
  | slice {b o : Nat} {l : Loc} (n c : Nat) (h : ι b = some l) : VR ι (.slice (some ⟨b, o, none⟩) n c) (.slice (some ⟨l.blk, l.off + o, none⟩) n (c + l.extra))
  | slice0 {b o k : Nat} {l : Loc} (h : ι b = some l) : VR ι (.slice (some ⟨b, o, some k⟩) 0 0) (.slice (some ⟨l.blk, l.off + o + (if l.extra = 0 then 0 else k), none⟩) 0 l.extra)
  | nilmap : VR ι (.map none) (.map none)
  | map {b : Nat} {l : Loc} (h : ι b = some l) : VR ι (.map (some b)) (.map (some l.blk))
  | func {f : FuncId} {a c a' c' : Array Value} (ha : a.size = a'.size) (hc : c.size = c'.size) (hav : ∀ (i : Nat) v u, a[i]? = some v → a'[i]? = some u → VR ι v u)
      (hcv : ∀ (i : Nat) v u, c[i]? = some v → c'[i]? = some u → VR ι v u) : VR ι (.func (.func f) a c) (.func (.func f) a' c')
  | meth {m : String} {a c a' c' : Array Value} (ha : a.size = a'.size) (hc : c.size = c'.size) (hav : ∀ (i : Nat) v u, a[i]? = some v → a'[i]? = some u → VR ι v u)
      (hcv : ∀ (i : Nat) v u, c[i]? = some v → c'[i]? = some u → VR ι v u) : VR ι (.func (.method m) a c) (.func (.method m) a' c')
  | yield {b : Nat} {l : Loc} (h : ι b = some l) : VR ι (.func (.yield b) #[] #[]) (.func (.yield l.blk) #[] #[])
  | nilFunc : VR ι .nilFunc .nilFunc
  | nilIface : VR ι .nilIface .nilIface
  | iface (t : TypeId) {v u : Value} (h : VR ι v u) : VR ι (.iface t v) (.iface t u)
  | agg {a a' : Array Value} (ha : a.size = a'.size) (hav : ∀ (i : Nat) v u, a[i]? = some v → a'[i]? = some u → VR ι v u) : VR ι (.agg a) (.agg a')
  | tuple {a a' : Array Value} (ha : a.size = a'.size) (hav : ∀ (i : Nat) v u, a[i]? = some v → a'[i]? = some u → VR ι v u) : VR ι (.tuple a) (.tuple a')

theorem VR.mono {ι ι' : Inj} (hle : ι.le ι') {v u : Value} (h : VR ι v u) : VR ι' v u := by
  induction h with
  | bool b => exact .bool b
  | int k n => exact .int k n
  | float k n => exact .float k n
  | string s => exact .string s
  | nilptr => exact .nilptr
  | ptr h => exact .ptr (hle _ _ h)
  | nilslice n c => exact .nilslice n c
  | slice n c h => exact .slice n c (hle _ _ h)
  | slice0 h => exact .slice0 (hle _ _ h)
  | nilmap => exact .nilmap
  | map h => exact .map (hle _ _ h)
  | func ha hc _ _ ih1 ih2 => exact .func ha hc ih1 ih2
  | meth ha hc _ _ ih1 ih2 => exact .meth ha hc ih1 ih2
  | yield h => exact .yield (hle _ _ h)
  | nilFunc => exact .nilFunc
  | nilIface => exact .nilIface
  | iface t _ ih => exact .iface t ih
  | agg ha _ ih => exact .agg ha ih
  | tuple ha _ ih => exact .tuple ha ih

/-- Lists of values, place by place. -/
inductive VRs (ι : Inj) : List Value → List Value → Prop
  | nil : VRs ι [] []
  | cons {v u : Value} {l l' : List Value} (h : VR ι v u) (t : VRs ι l l') : VRs ι (v :: l) (u :: l')

theorem VRs.mono {ι ι' : Inj} (hle : ι.le ι') : ∀ {l l' : List Value}, VRs ι l l' → VRs ι' l l'
  | _, _, .nil => .nil
  | _, _, .cons h t => .cons (h.mono hle) (VRs.mono hle t)
theorem VRs.length {ι : Inj} : ∀ {l l' : List Value}, VRs ι l l' → l.length = l'.length
  | _, _, .nil => rfl
  | _, _, .cons _ t => by simp [VRs.length t]
theorem VRs.get {ι : Inj} : ∀ {l l' : List Value} (_ : VRs ι l l') (i : Nat) {v u : Value}, l[i]? = some v → l'[i]? = some u → VR ι v u
  | _, _, .nil, _, _, _, h, _ => by simp at h
  | _, _, .cons h _, 0, _, _, h1, h2 => by simp at h1 h2; subst h1; subst h2; exact h
  | _, _, .cons _ t, i + 1, _, _, h1, h2 => VRs.get t i (by simpa using h1) (by simpa using h2)
theorem VRs.getSome {ι : Inj} : ∀ {l l' : List Value} (_ : VRs ι l l') (i : Nat) {v : Value}, l[i]? = some v → ∃ u, l'[i]? = some u ∧ VR ι v u
  | _, _, .nil, _, _, h => by simp at h
  | _, _, .cons (u := u) h t, 0, _, h1 => ⟨u, by simp, by simp at h1; subst h1; exact h⟩
  | _, _, .cons _ t, i + 1, _, h1 => by
    obtain ⟨u, h2, h3⟩ := VRs.getSome t i (by simpa using h1)
    exact ⟨u, by simpa using h2, h3⟩
theorem VRs.of_get {ι : Inj} : ∀ {l l' : List Value}, l.length = l'.length → (∀ (i : Nat) v u, l[i]? = some v → l'[i]? = some u → VR ι v u) → VRs ι l l'
  | [], [], _, _ => .nil
  | v :: l, u :: l', hl, h => .cons (h 0 v u rfl rfl) (VRs.of_get (by simpa using hl) fun i x y hx hy => h (i + 1) x y (by simpa using hx) (by simpa using hy))
  | [], _ :: _, hl, _ => by simp at hl
  | _ :: _, [], hl, _ => by simp at hl
theorem VRs.append {ι : Inj} : ∀ {a a' b b' : List Value}, VRs ι a a' → VRs ι b b' → VRs ι (a ++ b) (a' ++ b')
  | _, _, _, _, .nil, h => h
  | _, _, _, _, .cons h t, k => .cons h (VRs.append t k)
theorem VRs.nil_left {ι : Inj} {l : List Value} (h : VRs ι [] l) : l = [] := by cases h; rfl
theorem VRs.take {ι : Inj} : ∀ {l l' : List Value} (n : Nat), VRs ι l l' → VRs ι (l.take n) (l'.take n)
  | _, _, 0, _ => by simp; exact .nil
  | _, _, _ + 1, .nil => by simp; exact .nil
  | _, _, n + 1, .cons h t => by simp only [List.take_succ_cons]; exact .cons h (VRs.take n t)
theorem VRs.drop {ι : Inj} : ∀ {l l' : List Value} (n : Nat), VRs ι l l' → VRs ι (l.drop n) (l'.drop n)
  | _, _, 0, h => by simpa using h
  | _, _, _ + 1, .nil => by simp; exact .nil
  | _, _, n + 1, .cons _ t => by simp only [List.drop_succ_cons]; exact VRs.drop n t
theorem VRs.map₂ {ι : Inj} {α : Type} {f g : α → Value} : ∀ (l : List α), (∀ x ∈ l, VR ι (f x) (g x)) → VRs ι (l.map f) (l.map g)
  | [], _ => .nil
  | x :: l, h => .cons (h x (by simp)) (VRs.map₂ l fun y hy => h y (by simp [hy]))
theorem VRs.replicate {ι : Inj} {v u : Value} (h : VR ι v u) : ∀ n, VRs ι (List.replicate n v) (List.replicate n u)
  | 0 => .nil
  | n + 1 => by rw [List.replicate_succ, List.replicate_succ]; exact .cons h (VRs.replicate h n)

/-- Arrays of values, place by place. -/
theorem VRs.of_arrays {ι : Inj} {a a' : Array Value} (ha : a.size = a'.size) (hav : ∀ (i : Nat) v u, a[i]? = some v → a'[i]? = some u → VR ι v u) : VRs ι a.toList a'.toList :=
  .of_get (by simpa using ha) fun i v u h1 h2 => hav i v u (by simpa using h1) (by simpa using h2)
theorem VRs.size {ι : Inj} {a a' : Array Value} (h : VRs ι a.toList a'.toList) : a.size = a'.size := by simpa using h.length
theorem VRs.arr {ι : Inj} {a a' : Array Value} (h : VRs ι a.toList a'.toList) (i : Nat) (v u : Value) (h1 : a[i]? = Option.some v) (h2 : a'[i]? = Option.some u) : VR ι v u :=
  h.get i (by simpa using h1) (by simpa using h2)
theorem VR.agg' {ι : Inj} {a a' : Array Value} (h : VRs ι a.toList a'.toList) : VR ι (.agg a) (.agg a') := .agg h.size h.arr
theorem VR.tuple' {ι : Inj} {a a' : Array Value} (h : VRs ι a.toList a'.toList) : VR ι (.tuple a) (.tuple a') := .tuple h.size h.arr
theorem VR.agg_inv {ι : Inj} {a : Array Value} {u : Value} (h : VR ι (.agg a) u) : ∃ a', u = .agg a' ∧ VRs ι a.toList a'.toList := by
  cases h with | agg ha hav => exact ⟨_, rfl, .of_arrays ha hav⟩
theorem VR.tuple_inv {ι : Inj} {a : Array Value} {u : Value} (h : VR ι (.tuple a) u) : ∃ a', u = .tuple a' ∧ VRs ι a.toList a'.toList := by
  cases h with | tuple ha hav => exact ⟨_, rfl, .of_arrays ha hav⟩
theorem VR.func_inv {ι : Inj} {f : FuncId} {a c : Array Value} {u : Value} (h : VR ι (.func (.func f) a c) u) :
    ∃ a' c', u = .func (.func f) a' c' ∧ VRs ι a.toList a'.toList ∧ VRs ι c.toList c'.toList := by
  cases h with | func ha hc hav hcv => exact ⟨_, _, rfl, .of_arrays ha hav, .of_arrays hc hcv⟩
theorem VR.meth_inv {ι : Inj} {f : String} {a c : Array Value} {u : Value} (h : VR ι (.func (.method f) a c) u) :
    ∃ a' c', u = .func (.method f) a' c' ∧ VRs ι a.toList a'.toList ∧ VRs ι c.toList c'.toList := by
  cases h with | meth ha hc hav hcv => exact ⟨_, _, rfl, .of_arrays ha hav, .of_arrays hc hcv⟩
theorem VR.undef (ι : Inj) : VR ι undef undef := .tuple rfl fun i v u h => by simp at h

/-- Plain values are themselves. -/
theorem VR.int_eq {ι : Inj} {k : IntKind} {n : Int} {u : Value} (h : VR ι (.int k n) u) : u = .int k n := by cases h; rfl
theorem VR.bool_eq {ι : Inj} {b : Bool} {u : Value} (h : VR ι (.bool b) u) : u = .bool b := by cases h; rfl
theorem VR.string_eq {ι : Inj} {s : ByteArray} {u : Value} (h : VR ι (.string s) u) : u = .string s := by cases h; rfl

theorem VR.closed1 {ι : Inj} {v : Value} (h : closed1 v = true) : VR ι v v := by
  unfold Dust.closed1 at h
  split at h <;> first | (exact .bool _) | (exact .int _ _) | (exact .string _) | (exact .nilptr) | (exact .nilslice _ _) | (exact .nilmap) | (exact .nilFunc) | (exact .nilIface) | (exact .float _ _) | cases h
theorem VRs.closed {ι : Inj} : ∀ {l : List Value}, l.all Dust.closed1 = true → VRs ι l l
  | [], _ => .nil
  | v :: l, h => by
    simp only [List.all_cons, Bool.and_eq_true] at h
    exact .cons (.closed1 h.1) (VRs.closed h.2)
theorem VR.closed {ι : Inj} {v : Value} (h : closedV v = true) : VR ι v v := by
  unfold closedV at h
  split at h
  · exact .agg' (.closed h)
  · exact .tuple' (.closed h)
  · exact .closed1 h

theorem VR.cells {ι : Inj} {v u : Value} (h : VR ι v u) : VRs ι v.cells.toList u.cells.toList := by
  cases h with
  | agg ha hav => exact .of_arrays ha hav
  | _ => first | (simp only [Value.cells]; refine .cons ?_ .nil; constructor <;> assumption) | (simp only [Value.cells]; refine .cons ?_ .nil; exact .closed1 rfl)

end Go.Dust
