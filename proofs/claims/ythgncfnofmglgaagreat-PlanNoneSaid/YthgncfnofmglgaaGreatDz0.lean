/- The twin, part 3a: what is checked of a region's text, by continuations. -/
import Derived.Test.YthgncfnofmglgaaGreatDy
noncomputable section
namespace Go.Dust
open PT (getK getK_eq setK setK_eq setLK setLK_eq ofListK ofListK_eq)

/-! ### What comes before what -/
def Agree (t : PT Nat) (a : Array Nat) : Prop := ∀ i, (t.get i).getD 0 = a.getD i 0
def stepBK (acc : PT Nat) (l : List Edge) : Nat → (Nat → Bool) → Bool := List.rec (motive := fun _ => Nat → (Nat → Bool) → Bool) (fun s k => k s)
  (fun e _ ih s k => Bool.rec (motive := fun _ => Bool) (ih s k) (getK acc e.on fun v => match v with
    | some v => fNat (Nat.lor (Nat.lor s (Nat.pow 2 e.on)) v) fun s => ih s k
    | none => fNat (Nat.lor s (Nat.pow 2 e.on)) fun s => ih s k) (Region.binds .any e)) l
theorem stepBK_eq {t : PT Nat} {a : Array Nat} (h : Agree t a) (k) : ∀ (l : List Edge) (s : Nat), stepBK t l s k = k (l.foldl (fun s e => if Region.binds .any e then s ||| 2 ^ e.on ||| a.getD e.on 0 else s) s)
  | [], _ => rfl
  | e :: l, s => by
    have ih := stepBK_eq h k l
    show (Bool.rec (motive := fun _ => Bool) (stepBK t l s k) (getK t e.on fun v => match v with
      | some v => fNat (Nat.lor (Nat.lor s (Nat.pow 2 e.on)) v) fun s => stepBK t l s k
      | none => fNat (Nat.lor s (Nat.pow 2 e.on)) fun s => stepBK t l s k) (Region.binds .any e)) = _
    rw [List.foldl_cons]
    cases hb : Region.binds .any e with
    | false => rw [if_neg (by simp)]; exact ih s
    | true =>
      rw [if_pos rfl]
      simp only [getK_eq]
      have h1 := h e.on
      cases hg : t.get e.on with
      | none =>
        rw [hg] at h1
        simp only [fNat_eq]
        rw [← h1, ih]
        simp only [Option.getD_none, Nat.or_zero]; rfl
      | some v =>
        rw [hg] at h1
        simp only [fNat_eq]
        rw [← h1, ih]; rfl
def bitsK (l : List Oper) : PT Nat → Nat → (PT Nat → Bool) → Bool := List.rec (motive := fun _ => PT Nat → Nat → (PT Nat → Bool) → Bool) (fun t _ k => k t)
  (fun o _ ih t j k => stepBK t o.after.toList Nat.zero fun b => setK t j b fun t => fNat (Nat.succ j) fun j => ih t j k) l
theorem bitsK_eq (k) : ∀ (l : List Oper) (t : PT Nat) (a : Array Nat), Agree t a → ∃ t', bitsK l t a.size k = k t' ∧ Agree t' (l.foldl (fun acc o => acc.push (stepB acc o)) a)
  | [], t, a, h => ⟨t, rfl, h⟩
  | o :: l, t, a, h => by
    have h' : Agree (t.set a.size (stepB a o)) (a.push (stepB a o)) := by
      intro i
      rw [PT.get_set]
      simp only [Array.getD_eq_getD_getElem?, Array.getElem?_push]
      split
      · rfl
      · rw [h i, Array.getD_eq_getD_getElem?]
    obtain ⟨t', h1, h2⟩ := bitsK_eq k l _ _ h'
    refine ⟨t', ?_, h2⟩
    rw [← h1]
    show (stepBK t o.after.toList 0 fun b => setK t a.size b fun t => fNat (Nat.succ a.size) fun j => bitsK l t j k) = _
    rw [stepBK_eq h]
    simp only [setK_eq, fNat_eq, Array.size_push]
    unfold stepB
    rw [← Array.foldl_toList]
def beforeK (ops : Array Oper) (k : PT Nat → Bool) : Bool := bitsK ops.toList .nil Nat.zero k
theorem beforeK_eq (ops k) : ∃ t, beforeK ops k = k t ∧ Agree t (Region.before ops) := by
  have hb : Region.before ops = ops.toList.foldl (fun acc o => acc.push (stepB acc o)) #[] := by
    unfold Region.before
    rw [← Array.foldl_toList]
    rfl
  rw [hb]
  exact bitsK_eq k ops.toList .nil #[] fun i => by rw [PT.get_nil]; simp
def bitK (b i : Nat) (x y : Bool) : Bool := Bool.rec (motive := fun _ => Bool) y x (Nat.beq (Nat.land (Nat.shiftRight b i) 1) 1)
theorem bitK_eq (b i x y) : bitK b i x y = if b.testBit i = true then x else y := by
  unfold bitK
  have h : Nat.beq (Nat.land (Nat.shiftRight b i) 1) 1 = b.testBit i := by
    rw [Nat.testBit_eq_decide_div_mod_eq]
    have h1 : Nat.land (Nat.shiftRight b i) 1 = b / 2 ^ i % 2 := by
      show (b >>> i) &&& 1 = _
      rw [Nat.and_one_is_mod, Nat.shiftRight_eq_div_pow]
    rw [h1]
    cases hb : Nat.beq (b / 2 ^ i % 2) 1 with
    | true => exact (decide_eq_true (Nat.eq_of_beq_eq_true hb)).symm
    | false => exact (decide_eq_false (Nat.ne_of_beq_eq_false hb)).symm
  rw [h]
  cases b.testBit i <;> rfl

/-! ### Pairs -/
def pairK (oi oj : Oper) (i j : Nat) (k : Option (Nat × Nat) → Bool) : Bool := match kindOf oi.op, kindOf oj.op with
  | .still, .effect => Bool.rec (motive := fun _ => Bool) (k none) (k (some (i, j))) (mayRead oi.op)
  | .effect, .still => Bool.rec (motive := fun _ => Bool) (k none) (k (some (j, i))) (mayRead oj.op)
  | .alloc, .still => Bool.rec (motive := fun _ => Bool) (k none) (k (some (j, i))) (mayRead oj.op)
  | .effect, .effect => false
  | .alloc, .effect => false
  | _, _ => k none
theorem pairK_eq (oi oj i j k) : pairK oi oj i j k = optE (confPair oi oj i j) fun l => k l.head? := by
  unfold pairK confPair
  cases kindOf oi.op <;> cases kindOf oj.op <;> first | rfl | (cases mayRead oi.op <;> rfl) | (cases mayRead oj.op <;> rfl)
theorem confPair_short {oi oj i j l} (h : confPair oi oj i j = some l) : l = [] ∨ ∃ p, l = [p] := by
  unfold confPair at h
  split at h <;> first | cases h | skip
  all_goals first | exact .inl rfl | (split <;> simp)
def confAtK (bj j : Nat) (oj : Oper) (rest : List Oper) : Nat → (List (Nat × Nat) → Bool) → Bool := List.rec (motive := fun _ => Nat → (List (Nat × Nat) → Bool) → Bool) (fun _ k => k [])
  (fun oi _ ih i k => Bool.rec (motive := fun _ => Bool) (k []) (bitK bj i (fNat (Nat.succ i) fun i => ih i k)
    (pairK oi oj i j fun p => match p with
      | none => fNat (Nat.succ i) fun i => ih i k
      | some p => fNat (Nat.succ i) fun i => ih i fun m => k (p :: m))) (Nat.ble (Nat.succ i) j)) rest
theorem confAtK_eq (b : Array Nat) (j oj) : ∀ (rest i k), confAtK (b.getD j 0) j oj rest i k = optE (confAt b j oj rest i) k
  | [], _, _ => rfl
  | oi :: rest, i, k => by
    have ih := confAtK_eq b j oj rest
    show (Bool.rec (motive := fun _ => Bool) (k []) (bitK (b.getD j 0) i (fNat (Nat.succ i) fun i => confAtK (b.getD j 0) j oj rest i k)
      (pairK oi oj i j fun p => match p with
        | none => fNat (Nat.succ i) fun i => confAtK (b.getD j 0) j oj rest i k
        | some p => fNat (Nat.succ i) fun i => confAtK (b.getD j 0) j oj rest i fun m => k (p :: m))) (Nat.ble (Nat.succ i) j)) = _
    rw [confAt]
    cases hb : Nat.ble (Nat.succ i) j with
    | false => rw [if_neg (fun h => by rw [Nat.ble_eq_true_of_le (Nat.succ_le_of_lt h)] at hb; cases hb)]; rfl
    | true =>
      rw [if_pos (show i < j from Nat.le_of_ble_eq_true hb)]
      simp only [bitK_eq]
      split
      · rw [fNat_eq, ih]
      · rw [pairK_eq]
        cases hp : confPair oi oj i j with
        | none => rfl
        | some l =>
          simp only [optE]
          rcases confPair_short hp with rfl | ⟨p, rfl⟩
          · simp only [List.head?_nil, fNat_eq]
            rw [ih]
            cases confAt b j oj rest (i + 1) <;> rfl
          · simp only [List.head?_cons, fNat_eq]
            rw [ih]
            cases confAt b j oj rest (i + 1) <;> rfl
def confFromK (b : PT Nat) (all rest : List Oper) : Nat → (List (Nat × Nat) → Bool) → Bool := List.rec (motive := fun _ => Nat → (List (Nat × Nat) → Bool) → Bool) (fun _ k => k [])
  (fun oj _ ih j k => getK b j fun bj => match bj with
    | some bj => confAtK bj j oj all Nat.zero fun l => fNat (Nat.succ j) fun j => ih j fun m => appK l m k
    | none => confAtK Nat.zero j oj all Nat.zero fun l => fNat (Nat.succ j) fun j => ih j fun m => appK l m k) rest
theorem confFromK_eq {t : PT Nat} {b : Array Nat} (h : Agree t b) (all) : ∀ (rest j k), confFromK t all rest j k = optE (confFrom b all rest j) k
  | [], _, _ => rfl
  | oj :: rest, j, k => by
    have ih := confFromK_eq h all rest
    have hh : confFromK t all (oj :: rest) j k = confAtK ((t.get j).getD 0) j oj all 0 fun l => confFromK t all rest (j + 1) fun m => k (l ++ m) := by
      show (getK t j fun bj => match bj with
        | some bj => confAtK bj j oj all Nat.zero fun l => fNat (Nat.succ j) fun j => confFromK t all rest j fun m => appK l m k
        | none => confAtK Nat.zero j oj all Nat.zero fun l => fNat (Nat.succ j) fun j => confFromK t all rest j fun m => appK l m k) = _
      simp only [getK_eq, fNat_eq, appK_eq]
      cases t.get j <;> rfl
    rw [hh, h j, confAtK_eq, confFrom]
    cases confAt b j oj all 0 with
    | none => rfl
    | some l =>
      simp only [optE]
      rw [ih]
      cases confFrom b all rest (j + 1) <;> rfl
def confK (ops : Array Oper) (k : List (Nat × Nat) → Bool) : Bool := beforeK ops fun b => confFromK b ops.toList ops.toList Nat.zero k
theorem confK_eq (ops k) : confK ops k = optE (conf ops) k := by
  obtain ⟨t, h1, h2⟩ := beforeK_eq ops fun b => confFromK b ops.toList ops.toList Nat.zero k
  unfold confK conf
  rw [h1, confFromK_eq h2]

/-! ### What is asked of a function's text -/
def memK (d : Nat) (l : List Nat) (x y : Bool) : Bool := List.rec (motive := fun _ => Bool) y (fun e _ ih => Bool.rec (motive := fun _ => Bool) ih x (Nat.beq d e)) l
theorem memK_eq (d x y) : ∀ l : List Nat, memK d l x y = if l.contains d = true then x else y
  | [] => rfl
  | e :: l => by
    show (Bool.rec (motive := fun _ => Bool) (memK d l x y) x (Nat.beq d e)) = _
    rw [memK_eq d x y l, List.contains_cons]
    cases hb : Nat.beq d e with
    | true => have := Nat.eq_of_beq_eq_true hb; simp [this]
    | false =>
      have := Nat.ne_of_beq_eq_false hb
      have h : (d == e) = false := by simpa using this
      rw [h]; rfl
def apartK (d : Option Tmp) (l : List Tmp) (x : Bool) : Bool := match d with
  | some d => memK d l false x
  | none => x
theorem apartK_eq (d l x) : apartK d l x = if (match d with | some d => l.contains d | none => false) = true then false else x := by
  cases d with
  | none => rfl
  | some d => exact memK_eq d false x l
def okAtK (ops : Array Oper) (bj : Nat) (oj : Oper) (tj : List Tmp) (j : Nat) (rest : List Oper) : Nat → Bool → Bool := List.rec (motive := fun _ => Nat → Bool → Bool) (fun _ x => x)
  (fun oi _ ih i x => Bool.rec (motive := fun _ => Bool) x (bitK bj i (fNat (Nat.succ i) fun i => ih i x)
    (apartK oi.dst tj (apartK oj.dst (tmpsOf ops oi) (fNat (Nat.succ i) fun i => ih i x)))) (Nat.ble (Nat.succ i) j)) rest
theorem three (a b c d x : Bool) : (if a = true then (if d = true then x else false) else if b = true then false else if c = true then false else (if d = true then x else false)) = if ((a || !(b || c)) && d) = true then x else false := by
  cases a <;> cases b <;> cases c <;> cases d <;> rfl
theorem three' (a b c x : Bool) : (if b = true then (if (a && c) = true then x else false) else false) = if (a && b && c) = true then x else false := by
  cases a <;> cases b <;> cases c <;> rfl
theorem okAtK_eq (ops : Array Oper) (b : Array Nat) (oj j) : ∀ (rest i x), okAtK ops (b.getD j 0) oj (tmpsOf ops oj) j rest i x = if okPairsAt ops b oj j rest i = true then x else false
  | [], _, _ => rfl
  | oi :: rest, i, x => by
    have ih := okAtK_eq ops b oj j rest
    show (Bool.rec (motive := fun _ => Bool) x (bitK (b.getD j 0) i (fNat (Nat.succ i) fun i => okAtK ops (b.getD j 0) oj (tmpsOf ops oj) j rest i x)
      (apartK oi.dst (tmpsOf ops oj) (apartK oj.dst (tmpsOf ops oi) (fNat (Nat.succ i) fun i => okAtK ops (b.getD j 0) oj (tmpsOf ops oj) j rest i x)))) (Nat.ble (Nat.succ i) j)) = _
    rw [okPairsAt]
    cases hb : Nat.ble (Nat.succ i) j with
    | false =>
      have hlt : ¬ i < j := fun h => by rw [Nat.ble_eq_true_of_le (Nat.succ_le_of_lt h)] at hb; cases hb
      simp only [if_neg hlt]; rfl
    | true =>
      simp only [if_pos (show i < j from Nat.le_of_ble_eq_true hb)]
      simp only [bitK_eq, apartK_eq, fNat_eq, ih, okPair]
      exact three _ _ _ _ _
def okFromK (ops : Array Oper) (b : PT Nat) (rest : List Oper) : Nat → Bool → Bool := List.rec (motive := fun _ => Nat → Bool → Bool) (fun _ x => x)
  (fun oj _ ih j x => getK b j fun bj => match bj with
    | some bj => okAtK ops bj oj (tmpsOf ops oj) j ops.toList Nat.zero (fNat (Nat.succ j) fun j => ih j x)
    | none => okAtK ops Nat.zero oj (tmpsOf ops oj) j ops.toList Nat.zero (fNat (Nat.succ j) fun j => ih j x)) rest
theorem okFromK_eq {t : PT Nat} {b : Array Nat} (h : Agree t b) (ops) : ∀ (rest j x), okFromK ops t rest j x = if okPairs ops b rest j = true then x else false
  | [], _, _ => rfl
  | oj :: rest, j, x => by
    have ih := okFromK_eq h ops rest
    have hh : okFromK ops t (oj :: rest) j x = okAtK ops ((t.get j).getD 0) oj (tmpsOf ops oj) j ops.toList 0 (okFromK ops t rest (j + 1) x) := by
      show (getK t j fun bj => match bj with
        | some bj => okAtK ops bj oj (tmpsOf ops oj) j ops.toList Nat.zero (fNat (Nat.succ j) fun j => okFromK ops t rest j x)
        | none => okAtK ops Nat.zero oj (tmpsOf ops oj) j ops.toList Nat.zero (fNat (Nat.succ j) fun j => okFromK ops t rest j x)) = _
      simp only [getK_eq, fNat_eq]
      cases t.get j <;> rfl
    rw [hh, h j, okAtK_eq, ih, okPairs]
    cases okPairsAt ops b oj j ops.toList 0 <;> simp
def okDrawK (ops : Array Oper) (x : Bool) : Bool := beforeK ops fun b => okFromK ops b ops.toList Nat.zero (Bool.rec (motive := fun _ => Bool) false x (okEdgesAll ops.toList 0))
theorem okDrawK_eq (ops x) : okDrawK ops x = if okDraw ops = true then x else false := by
  obtain ⟨t, h1, h2⟩ := beforeK_eq ops fun b => okFromK ops b ops.toList Nat.zero (Bool.rec (motive := fun _ => Bool) false x (okEdgesAll ops.toList 0))
  unfold okDrawK okDraw
  rw [h1, okFromK_eq h2]
  show (if okPairs ops (Region.before ops) ops.toList 0 = true then _ else _) = _
  cases okPairs ops (Region.before ops) ops.toList 0 <;> cases okEdgesAll ops.toList 0 <;> rfl
def okOpersK (nt : Nat) (l : List Oper) (x : Bool) : Bool := List.rec (motive := fun _ => Bool) x (fun o _ ih => Bool.rec (motive := fun _ => Bool) false ih (okOper nt o)) l
theorem okOpersK_eq (nt x) : ∀ l : List Oper, okOpersK nt l x = if l.all (okOper nt) = true then x else false
  | [] => rfl
  | o :: l => by
    show (Bool.rec (motive := fun _ => Bool) false (okOpersK nt l x) (okOper nt o)) = _
    rw [okOpersK_eq nt x l, List.all_cons]
    cases okOper nt o <;> simp
def andK (b x : Bool) : Bool := Bool.rec (motive := fun _ => Bool) false x b
theorem andK_eq (b x) : andK b x = if b = true then x else false := by cases b <;> rfl
def okCodeK (nt : Nat) (c : Code) : Bool → Bool := Code.rec (motive := fun _ => Bool → Bool)
  (fun x => x)
  (fun _ ops draw x => okOpersK nt ops.toList (Bool.rec (motive := fun _ => Bool) x (okDrawK ops x) draw))
  (fun _ _ ia ib x => ia (ib x))
  (fun c _ _ ia ib x => andK (okOperand nt c) (ia (ib x)))
  (fun _ _ ib x => ib x)
  (fun _ ib x => ib x)
  (fun g ps _ _ ia ib x => andK (okOperand nt g && ps.toList.all (fun p => decide (p < nt))) (ia (ib x)))
  (fun _ x => x)
  (fun _ _ x => x)
  (fun _ x => x)
  (fun _ x => x)
  (fun x => x)
  (fun _ x => x) c
theorem okCodeK_eq (nt : Nat) : ∀ (c : Code) (x : Bool), okCodeK nt c x = if okCode nt c = true then x else false := by
  intro c
  induction c with
  | region id ops draw =>
    intro x
    show okOpersK nt ops.toList (Bool.rec (motive := fun _ => Bool) x (okDrawK ops x) draw) = _
    rw [okOpersK_eq, okCode, okDrawK_eq]
    cases ops.toList.all (okOper nt) <;> cases draw <;> cases okDraw ops <;> rfl
  | seq a b ia ib =>
    intro x
    show okCodeK nt a (okCodeK nt b x) = _
    rw [ia, ib, okCode]
    cases okCode nt a <;> cases okCode nt b <;> rfl
  | cond c a b ia ib =>
    intro x
    show andK (okOperand nt c) (okCodeK nt a (okCodeK nt b x)) = _
    rw [andK_eq, ia, ib, okCode]
    cases okOperand nt c <;> cases okCode nt a <;> cases okCode nt b <;> rfl
  | rangeFunc g ps a b ia ib =>
    intro x
    show andK (okOperand nt g && ps.toList.all (fun p => decide (p < nt))) (okCodeK nt a (okCodeK nt b x)) = _
    rw [andK_eq, ia, ib, okCode]
    cases okOperand nt g <;> cases ps.toList.all (fun p => decide (p < nt)) <;> cases okCode nt a <;> cases okCode nt b <;> rfl
  | block id b ib => intro x; show okCodeK nt b x = _; rw [ib, okCode]
  | loop b ib => intro x; show okCodeK nt b x = _; rw [ib, okCode]
  | _ => intro x; rw [okCode]; rfl
def okFnK (f : Func) (x : Bool) : Bool := match f.body with
  | some c => okCodeK f.ntmps c (andK (f.name != "runtime.NumGoroutine" && okResults f.ntmps f.results.toList) x)
  | none => x
theorem okFnK_eq (f x) : okFnK f x = if okFn f = true then x else false := by
  unfold okFnK okFn
  cases f.body with
  | none => rfl
  | some c =>
    simp only [okCodeK_eq, andK_eq]
    exact three' _ _ _ _
def okAllK (l : List Func) : Bool := List.rec (motive := fun _ => Bool) true (fun f _ ih => okFnK f ih) l
theorem okAllK_all : ∀ {l : List Func}, okAllK l = true → ∀ f ∈ l, okFn f = true
  | [], _, f, hf => by cases hf
  | g :: l, h, f, hf => by
    have h' : okFnK g (okAllK l) = true := h
    rw [okFnK_eq] at h'
    split at h'
    · rename_i hg
      cases hf with
      | head => exact hg
      | tail _ hf => exact okAllK_all h' f hf
    · cases h'
def fnTabF (P : Program) : PT (Option Func) := PT.ofList (P.funcs.toList.map some)
def envF (P : Program) : Env := { ty := fun t => match (tyTab P).get t with | some x => x | none => none, fn := fun f => match (fnTabF P).get f with | some x => x | none => none }
theorem env_eq {P : Program} (h : okAllK P.funcs.toList = true) : env P = envF P := by
  have : fnTab P = fnTabF P := by
    unfold fnTab fnTabF
    congr 1
    apply List.map_congr_left
    intro f hf
    rw [if_pos (okAllK_all h f hf)]
  unfold env envF
  rw [this]
  rfl
end Go.Dust
end
