/- The twin, part 3: memory, calls, code. -/
import Derived.Test.YthgncfnofmglgaaGreatDx
noncomputable section
namespace Go.Dust
open PT (getK getK_eq setK setK_eq setLK setLK_eq ofListK ofListK_eq)

/-! ### Operations that make memory -/
def allocK (X : Env) (nm clk : Nat) (a : ACt) (op : Op) (k : Value → AObj → Bool) : Bool := match op with
  | .alloc e => match X.ty e with
    | some i => match i.zero with
      | some z => cellsK z fun l => ofListK l fun c => lenK l fun n => k (.pointer (some ⟨nm, 0, none⟩)) (.cells c [] n e false false clk)
      | none => false
    | none => false
  | .box e x => evalK a x fun v => cellsK v fun l => ofListK l fun c => lenK l fun n => k (.pointer (some ⟨nm, 0, none⟩)) (.cells c [] n e false false clk)
  | .buildSlice t len parts => match X.ty t with
    | some i => match i.desc with
      | .slice e => match X.ty e with
        | some ei => match ei.zero with
          | some z => partsK a parts.toList fun ps =>
            if len * ei.size ≤ 2 ^ 24 then
              match Instr.fill (fun i => some (i * ei.size, ei.size)) ((Array.range (len * ei.size)).map (z.cells[· % z.cells.size]!)) ps with
              | some ⟨cs⟩ => fL cs fun cs => ofListK cs fun c => lenK cs fun n => k (.slice (some ⟨nm, 0, none⟩) len len) (.cells c [] n e false false clk)
              | none => false
            else false
          | none => false
        | none => false
      | _ => false
    | none => false
  | .makeMap t r => evalOK a r fun r => match X.ty t with
    | some i => match i.desc, r with
      | .map _ _, none => k (.map (some nm)) (.map [] 0 clk)
      | .map _ _, some (.int _ _) => k (.map (some nm)) (.map [] 0 clk)
      | _, _ => false
    | none => false
  | .makeSlice t len cap => evalK a len fun len => evalK a cap fun cap => match X.ty t with
    | some i => match i.desc, len, cap with
      | .slice e, .int .i64 l, .int .i64 c => match X.ty e with
        | some ei => match ei.zero with
          | some z => if 0 ≤ l ∧ l ≤ c ∧ c < 2 ^ 40 ∧ ei.bytes * c ≤ 2 ^ 48 ∧ z.cells.size = ei.size then
              cellsK z fun zs => fNat l.toNat fun l => fNat c.toNat fun c => fNat (c * ei.size) fun n => k (.slice (some ⟨nm, 0, none⟩) l c) (.cells .nil zs n e false false clk)
            else false
          | none => false
        | none => false
      | _, _, _ => false
    | none => false
  | _ => false
theorem allocK_eq (X nm clk a op k) : allocK X nm clk a op k = optE (allocA X nm a.eval op) fun p => k p.1 (p.2 clk) := by
  cases op with
  | alloc e =>
    simp only [allocK, allocA]
    cases X.ty e with
    | none => rfl
    | some i =>
      rcases i with ⟨desc, size, bytes, _ | z, agg, methods, cmp⟩
      · rfl
      · simp only [cellsK_eq, ofListK_eq, lenK_eq]; rfl
  | box e x => simp only [allocK, allocA, evalK_eq, cellsK_eq, ofListK_eq, lenK_eq]; rfl
  | buildSlice t len parts =>
    simp only [allocK, allocA]
    cases X.ty t with
    | none => rfl
    | some i =>
      rcases i with ⟨desc, size, bytes, zero, agg, methods, cmp⟩
      cases desc with
      | slice e =>
        simp only
        cases X.ty e with
        | none => rfl
        | some ei =>
          rcases ei with ⟨desc, esz, bytes, _ | z, agg, methods, cmp⟩
          · rfl
          · simp only [partsK_eq]
            by_cases h : len * esz ≤ 2 ^ 24
            · simp only [if_pos h]
              cases Instr.fill (fun i => some (i * esz, esz)) ((Array.range (len * esz)).map (z.cells[· % z.cells.size]!)) (parts.toList.map fun (i, x) => (i, a.eval x)) with
              | none => rfl
              | some cs => rcases cs with ⟨cs⟩; simp only [fL_eq, ofListK_eq, lenK_eq]; rfl
            · simp only [if_neg h]; rfl
      | _ => rfl
  | makeMap t r =>
    simp only [allocK, allocA, evalOK_eq]
    cases X.ty t with
    | none => rfl
    | some i =>
      rcases i with ⟨desc, size, bytes, zero, agg, methods, cmp⟩
      cases desc <;> (cases r.map a.eval with
        | none => rfl
        | some v => cases v <;> rfl)
  | makeSlice t len cap =>
    simp only [allocK, allocA, evalK_eq]
    cases X.ty t with
    | none => rfl
    | some i =>
      rcases i with ⟨desc, size, bytes, zero, agg, methods, cmp⟩
      cases desc with
      | slice e =>
        cases a.eval len with
        | int j l => cases j with
          | i64 => cases a.eval cap with
            | int j c => cases j with
              | i64 =>
                simp only
                cases X.ty e with
                | none => rfl
                | some ei =>
                  rcases ei with ⟨desc, esz, bytes, _ | z, agg, methods, cmp⟩
                  · rfl
                  · simp only [cellsK_eq, fNat_eq]
                    split <;> rfl
              | _ => rfl
            | _ => rfl
          | _ => rfl
        | _ => rfl
      | _ => rfl
  | _ => rfl

/-! ### Operations that change memory -/
def firstK (s : St) (size n : Nat) (x : Value) (k : List Value → Bool) : Bool := match x with
  | .slice (some a) _ _ => fNat (Nat.mul n size) fun m => Bool.rec (motive := fun _ => Bool) (loadNK s a m k) (k []) (Nat.beq m 0)
  | .slice none _ _ => k []
  | .string s => fL ((s.extract 0 n).data.toList.map fun b => .int .u8 b.toNat) k
  | _ => false
theorem firstK_eq (s size n x k) : firstK s size n x k = optE (firstA s.look size n x) k := by
  cases x with
  | slice a l c => cases a with
    | none => rfl
    | some a =>
      simp only [firstK, fNat_eq, firstA]
      cases hb : Nat.beq (Nat.mul n size) 0 with
      | true => rw [if_pos (show n * size = 0 from Nat.eq_of_beq_eq_true hb)]; rfl
      | false => rw [if_neg (show ¬ n * size = 0 from Nat.ne_of_beq_eq_false hb)]; exact loadNK_eq _ _ _ _
  | string b => exact fL_eq _ _
  | _ => rfl
def grownK (c : PT Value) (z : List Value) (m : Nat) (a : Addr) (n : Nat) (new : List Value) (k : PT Value → List Value → Bool) : Bool :=
  Bool.rec (motive := fun _ => Bool) (match a with
    | ⟨_, off, none⟩ => Bool.rec (motive := fun _ => Bool) (readK c z m n off fun old => appK old new fun l => ofListK l fun c => k c [])
      (Bool.rec (motive := fun _ => Bool) false (setLK new c n fun c => k c z) (Nat.ble n m)) (Nat.beq off 0)
    | _ => false) (ofListK new fun c => k c []) (Nat.beq n 0)
theorem grownK_eq (c z m a n new k) : grownK c z m a n new k = optE (grownCells c z m a n new) fun p => k p.1 p.2 := by
  unfold grownK grownCells
  cases hb : Nat.beq n 0 with
  | true => rw [if_pos (Nat.eq_of_beq_eq_true hb)]; exact ofListK_eq _ _
  | false =>
    rw [if_neg (Nat.ne_of_beq_eq_false hb)]
    rcases a with ⟨b, off, _ | q⟩
    · simp only
      cases ho : Nat.beq off 0 with
      | true =>
        rw [if_pos (Nat.eq_of_beq_eq_true ho)]
        cases hm : Nat.ble n m with
        | true => rw [if_pos (Nat.le_of_ble_eq_true hm)]; exact setLK_eq _ _ _ _
        | false =>
          rw [if_neg]
          · rfl
          · intro h; rw [Nat.ble_eq_true_of_le h] at hm; cases hm
      | false =>
        rw [if_neg (Nat.ne_of_beq_eq_false ho)]
        simp only [readK_eq, appK_eq, ofListK_eq]
        cases readCells c z m off n <;> rfl
    · rfl
def appendBK (s : St) (e : TypeId) (esz : Nat) (base : Option Addr) (sLen sCap n : Nat) (new : List Value) (k : Value → St → Bool) : Bool :=
  fNat (Nat.add sLen n) fun t => Bool.rec (motive := fun _ => Bool)
    (match base with
      | none => Bool.rec (motive := fun _ => Bool) false
        (ofListK new fun c => fNat (Nat.mul t esz) fun m => match s with
          | ⟨h, nx, cl⟩ => newK ⟨h, nx, cl⟩ (fun v => .cells c [] m e true false v) fun s => k (.slice (some ⟨nx, 0, none⟩) t t) s) (Nat.beq sLen 0)
      | some a => match s with
        | ⟨h, nx, cl⟩ => getK h a.block fun o => match o with
          | some (.cells c z m e0 room false _) => if e0 = e ∧ inBlock a sLen sCap esz m = true then
              fNat (Nat.mul sLen esz) fun q => grownK c z m a q new fun c' z' => fNat (Nat.mul t esz) fun m' =>
                Bool.rec (motive := fun _ => Bool) (newK ⟨h, nx, cl⟩ (fun v => .cells c' z' m' e true false v) fun s => k (.slice (some ⟨nx, 0, none⟩) t t) s)
                  (putK ⟨h, nx, cl⟩ a.block (fun _ => .dead) fun s => newK s (fun v => .cells c' z' m' e true false v) fun s => k (.slice (some ⟨nx, 0, none⟩) t t) s) room
            else false
          | _ => false)
    (match base with
      | some a => match new with
        | [] => k (.slice base t sCap) s
        | new => fAddr (a.add (Nat.mul sLen esz)) fun a => storeNK s a new fun s => k (.slice base t sCap) s
      | none => Bool.rec (motive := fun _ => Bool) false (k (.slice base t sCap) s) (Nat.beq n 0))
    (Nat.ble t sCap)
theorem appendBK_eq (s e esz base sLen sCap n new k) : appendBK s e esz base sLen sCap n new k = optE (appendB s e esz base sLen sCap n new) fun p => k p.1 p.2 := by
  unfold appendBK appendB
  simp only [fNat_eq]
  cases hb : Nat.ble (Nat.add sLen n) sCap with
  | true =>
    rw [if_pos (show sLen + n ≤ sCap from Nat.le_of_ble_eq_true hb)]
    cases base with
    | none =>
      simp only
      cases hn : Nat.beq n 0 with
      | true => rw [if_pos (Nat.eq_of_beq_eq_true hn)]; rfl
      | false => rw [if_neg (Nat.ne_of_beq_eq_false hn)]; rfl
    | some a =>
      cases new with
      | nil => rfl
      | cons x l =>
        simp only [fAddr_eq, storeNK_eq]
        rw [if_neg (by simp)]
        show optE (storeN s (a.add (sLen * esz)) (x :: l)) _ = _
        cases storeN s (a.add (sLen * esz)) (x :: l) <;> rfl
  | false =>
    rw [if_neg (show ¬ sLen + n ≤ sCap from fun h => by rw [show Nat.ble (Nat.add sLen n) sCap = true from Nat.ble_eq_true_of_le h] at hb; cases hb)]
    rcases s with ⟨h, nx, cl⟩
    cases base with
    | none =>
      simp only
      cases hn : Nat.beq sLen 0 with
      | true => rw [if_pos (Nat.eq_of_beq_eq_true hn)]; simp only [ofListK_eq, newK_eq]; rfl
      | false => rw [if_neg (Nat.ne_of_beq_eq_false hn)]; rfl
    | some a =>
      simp only [getK_eq]
      cases h.get a.block with
      | none => rfl
      | some o =>
        cases o with
        | cells c z m e0 room ro v =>
          cases ro with
          | true => rfl
          | false =>
            simp only
            by_cases hc : e0 = e ∧ inBlock a sLen sCap esz m = true
            · rw [if_pos hc, if_pos hc]
              simp only [grownK_eq]
              show optE (grownCells c z m a (sLen * esz) new) _ = _
              cases grownCells c z m a (sLen * esz) new with
              | none => rfl
              | some p =>
                rcases p with ⟨c', z'⟩
                simp only [optE]
                cases room with
                | true => simp only [putK_eq, newK_eq]; rfl
                | false => simp only [newK_eq]; rfl
            · rw [if_neg hc, if_neg hc]; rfl
        | _ => rfl
def appendK (X : Env) (s : St) (argTypes : Array TypeId) (args : List Value) (k : Value → St → Bool) : Bool :=
  match argTypes.toList, args with
  | [t, t2], [.slice base sLen sCap, x] => match X.ty t with
    | some i => match i.desc, X.ty t2 with
      | .slice e, some i2 => match X.ty e with
        | some ei => match ei.zero, lenA x with
          | some z, some n => firstK s ei.size n x fun new =>
            if new.length = n * ei.size ∧ strOrSlice i2.desc = true ∧ z.cells.size = ei.size ∧ sLen + n < 2 ^ 40 ∧ (2 * (sLen + n) + 1000) * ei.bytes ≤ 2 ^ 47 ∧ new.all one1 = true then
              appendBK s e ei.size base sLen sCap n new k
            else false
          | _, _ => false
        | none => false
      | _, _ => false
    | none => false
  | _, _ => false
theorem appendK_eq (X s ts args k) : appendK X s ts args k = optE (appendA X s ts args) fun p => k p.1 p.2 := by
  unfold appendK appendA
  split
  · rename_i _ _ t t2 base sLen sCap x hts
    simp only [hts]
    cases X.ty t with
    | none => rfl
    | some i =>
      rcases i with ⟨desc, size, bytes, zero, agg, methods, cmp⟩
      cases X.ty t2 with
      | none => cases desc <;> rfl
      | some i2 =>
        cases desc with
        | slice e =>
          simp only
          cases X.ty e with
          | none => rfl
          | some ei =>
            rcases ei with ⟨desc, esz, bytes, _ | z, agg, methods, cmp⟩
            · rfl
            · cases lenA x with
              | none => rfl
              | some n =>
                simp only [firstK_eq]
                cases firstA s.look esz n x with
                | none => rfl
                | some new =>
                  simp only [optE]
                  split
                  · exact appendBK_eq _ _ _ _ _ _ _ _ _
                  · rfl
        | _ => rfl
  · rename_i hno
    split
    · rename_i _ _ t t2 base sLen sCap x hts
      exact absurd rfl (hno t t2 base sLen sCap x hts)
    · rfl

abbrev CallK := FuncId → List Value → St → (Value → St → Bool) → Bool
abbrev RoundK := Nat → List Value → St → (Value → St → Bool) → Bool
def callVK (X : Env) (call : CallK) (round : RoundK) (s : St) (f : Value) (args : List Value) (k : Value → St → Bool) : Bool := match f with
  | .func fn first captured => match fn with
    | .func f => appK args captured.toList fun l => appK first.toList l fun l => call f l s k
    | .yield j => appK first.toList args fun l => round j l s k
    | .method name => appK first.toList args fun l => match l with
      | .iface t v :: rest => match methodA X t v name with
        | some (f, r) => fV r fun r => call f (r :: rest) s k
        | none => false
      | _ => false
    | _ => false
  | _ => false
def RelC (c : CallF) (ck : CallK) : Prop := ∀ f args s k, ck f args s k = (c f args s).elim fun p => k p.1 p.2
theorem callVK_eq {X c r ck rk} (hc : RelC c ck) (hr : RelC r rk) (s f args k) : callVK X ck rk s f args k = (callV X c r s f args).elim fun p => k p.1 p.2 := by
  cases f with
  | func fn first captured =>
    cases fn with
    | func f => simp only [callVK, appK_eq, callV, ← List.append_assoc]; exact hc _ _ _ _
    | yield j => simp only [callVK, appK_eq, callV]; exact hr _ _ _ _
    | method name =>
      simp only [callVK, appK_eq, callV]
      cases first.toList ++ args with
      | nil => rfl
      | cons v rest =>
        cases v with
        | iface t v =>
          simp only
          cases methodA X t v name with
          | none => rfl
          | some p => rcases p with ⟨f, r⟩; simp only [fV_eq]; exact hc _ _ _ _
        | _ => rfl
    | _ => rfl
  | _ => rfl
def noC : CallF := fun _ _ _ => .fail ""
def effectK (X : Env) (call : CallK) (round : RoundK) (s : St) (a : ACt) (op : Op) (k : Value → St → Bool) : Bool := match op with
  | .store t p x => evalK a p fun v => match v with
    | .pointer (some ad) => evalK a x fun v => storeK X s t ad v fun s => k undef s
    | _ => false
  | .next it str => evalK a it fun v => (nextA s v str).elim fun p => fV p.1 fun v => k v p.2
  | .call c => match c.callee with
    | .value f => evalK a f fun v => evalsK a c.args.toList fun l => callVK X call round s v l k
    | .invoke x name => evalK a x fun v => match v with
      | .iface t v => match methodA X t v name with
        | some (f, r) => fV r fun r => evalsK a c.args.toList fun l => call f (r :: l) s k
        | none => false
      | _ => false
    | .builtin .append => evalsK a c.args.toList fun l => appendK X s c.argTypes l k
    | .builtin .copy => evalsK a c.args.toList fun l => optE (copyA X s c.argTypes l) fun p => fV p.1 fun v => k v p.2
    | .builtin .clear => evalsK a c.args.toList fun l => optE (clearA X s c.argTypes l) fun p => fV p.1 fun v => k v p.2
    | .builtin .delete => evalsK a c.args.toList fun l => optE (deleteA X s c.argTypes l) fun p => fV p.1 fun v => k v p.2
    | .builtin _ => false
  | op => (effectA X noC noC s a.eval op).elim fun p => fV p.1 fun v => k v p.2
theorem effectK_eq {X c r ck rk} (hc : RelC c ck) (hr : RelC r rk) (s a op k) : effectK X ck rk s a op k = (effectA X c r s a.eval op).elim fun p => k p.1 p.2 := by
  cases op with
  | store t p x =>
    simp only [effectK, effectA, evalK_eq]
    cases a.eval p with
    | pointer ad =>
      cases ad with
      | none => rfl
      | some ad =>
        simp only [storeK_eq]
        cases storeT X s t ad (a.eval x) <;> rfl
    | _ => rfl
  | next it str => simp only [effectK, effectA, evalK_eq, fV_eq]
  | call cl =>
    simp only [effectK, effectA]
    cases cl.callee with
    | value f => simp only [evalK_eq, evalsK_eq]; exact callVK_eq hc hr _ _ _ _
    | invoke x name =>
      simp only [evalK_eq, evalsK_eq]
      cases a.eval x with
      | iface t v =>
        simp only
        cases methodA X t v name with
        | none => rfl
        | some p => rcases p with ⟨f, r⟩; simp only [fV_eq]; exact hc _ _ _ _
      | _ => rfl
    | builtin b =>
      cases b <;> simp only [evalsK_eq, appendK_eq, elim_ofOption, fV_eq] <;> rfl
  | _ => simp only [effectK, fV_eq]; rfl
def execK (X : Env) (call : CallK) (round : RoundK) (s : St) (a : ACt) (op : Op) (k : Value → St → Bool) : Bool := match kindOf op with
  | .still => stillK X s a op fun v => k v s
  | .alloc => match s with
    | ⟨h, nx, c⟩ => allocK X nx c a op fun v o => newK ⟨h, nx, c⟩ (fun _ => o) fun s => k v s
  | .effect => effectK X call round s a op k
theorem execK_eq {X c r ck rk} (hc : RelC c ck) (hr : RelC r rk) (s a op k) : execK X ck rk s a op k = (execA X c r s a.eval op).elim fun p => k p.1 p.2 := by
  unfold execK execA
  cases kindOf op with
  | still => simp only [stillK_eq]; cases stillA X s.look a.eval op <;> rfl
  | alloc =>
    simp only [allocK_eq, newK_eq]
    cases allocA X s.next a.eval op with
    | none => rfl
    | some p => rcases p with ⟨v, f⟩; rfl
  | effect => exact effectK_eq hc hr _ _ _ _
def wantedK (ops : Array Oper) (a : ACt) (o : Oper) (x y : Bool) : Bool := match o.guard with
  | none => x
  | some (j, w) => nthK ops.toList j fun og => match og with
    | some og => match og.dst with
      | some d => match a with
        | ⟨tm, _⟩ => getK tm d fun v => match v with
          | some (.bool b) => Bool.rec (motive := fun _ => Bool) (Bool.rec (motive := fun _ => Bool) x y w) (Bool.rec (motive := fun _ => Bool) y x w) b
          | _ => y
      | none => y
    | none => y
theorem ite_rec (b x y : Bool) : (Bool.rec (motive := fun _ => Bool) y x b) = if b = true then x else y := by cases b <;> rfl
theorem wantedAt_eq (a : ACt) (w x y : Bool) : ∀ og : Option Oper, (match og with
    | some og => match og.dst with
      | some d => match a with
        | ⟨tm, _⟩ => getK tm d fun v => match v with
          | some (.bool b) => Bool.rec (motive := fun _ => Bool) (Bool.rec (motive := fun _ => Bool) x y w) (Bool.rec (motive := fun _ => Bool) y x w) b
          | _ => y
      | none => y
    | none => y) = Bool.rec (motive := fun _ => Bool) y x ((match og.bind (·.dst) with
      | some d => match a.getT d with
        | .bool b => some b
        | _ => none
      | none => none) == some w)
  | none => rfl
  | some ⟨none, op, ty, pos, after, guard⟩ => rfl
  | some ⟨some d, op, ty, pos, after, guard⟩ => by
      rcases a with ⟨tm, nt⟩
      simp only [getK_eq, Option.bind, ACt.getT]
      cases tm.get d with
      | none => rfl
      | some v => cases v with
        | bool b => cases b <;> cases w <;> rfl
        | _ => rfl
theorem wantedK_eq (ops a o x y) : wantedK ops a o x y = if Region.wanted o (yieldedA ops a) = true then x else y := by
  unfold wantedK Region.wanted
  cases o.guard with
  | none => rfl
  | some g =>
    rcases g with ⟨j, w⟩
    simp only [nthK_eq, Array.getElem?_toList]
    refine (wantedAt_eq a w x y _).trans ?_
    exact ite_rec _ _ _
def runK (X : Env) (call : CallK) (round : RoundK) (ops : Array Oper) (l : List Oper) : ACt → St → (ACt → St → Bool) → Bool := List.rec (motive := fun _ => ACt → St → (ACt → St → Bool) → Bool) (fun a s k => k a s)
  (fun o _ ih a s k => wantedK ops a o (execK X call round s a o.op fun v s => putTK a o.dst v fun a => ih a s k) (putTK a o.dst undef fun a => ih a s k)) l
theorem runK_eq {X c r ck rk} (hc : RelC c ck) (hr : RelC r rk) (ops) : ∀ (l a s k), runK X ck rk ops l a s k = (runOps X c r ops l a s).elim fun p => k p.1 p.2
  | [], _, _, _ => rfl
  | o :: l, a, s, k => by
    show wantedK ops a o (execK X ck rk s a o.op fun v s => putTK a o.dst v fun a => runK X ck rk ops l a s k) (putTK a o.dst undef fun a => runK X ck rk ops l a s k) = _
    rw [wantedK_eq, runOps]
    split
    · rw [execK_eq hc hr, Res.elim_bind]
      congr 1; funext p
      rw [putTK_eq, runK_eq hc hr ops l]
    · rw [putTK_eq, runK_eq hc hr ops l]
end Go.Dust
end
