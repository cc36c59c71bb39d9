/- The twin, part 2: operations. -/
import Derived.Test.YthgncfnofmglgaaGreatDw
noncomputable section
namespace Go.Dust
open PT (getK getK_eq setK setK_eq setLK setLK_eq ofListK ofListK_eq)

/-! ### Arithmetic -/
def smallK (n : Nat) (k : Value → Bool) (slow : Bool) : Bool := Bool.rec (motive := fun _ => Bool) slow (fNat n fun n => k (.int .i64 (.ofNat n))) (Nat.ble n 9223372036854775807)
def fastI (op : BinOp) (a b : Nat) (k : Value → Bool) (slow : Bool) : Bool := match op with
  | .add => smallK (Nat.add a b) k slow
  | .sub => Bool.rec (motive := fun _ => Bool) slow (smallK (Nat.sub a b) k slow) (Nat.ble b a)
  | .mul => smallK (Nat.mul a b) k slow
  | .quo => Bool.rec (motive := fun _ => Bool) (smallK (Nat.div a b) k slow) slow (Nat.beq b 0)
  | .rem => Bool.rec (motive := fun _ => Bool) (fNat (Nat.mod a b) fun n => k (.int .i64 (.ofNat n))) slow (Nat.beq b 0)
  | .eql => fBool (Nat.beq a b) fun c => k (.bool c)
  | .neq => Bool.rec (motive := fun _ => Bool) (k (.bool true)) (k (.bool false)) (Nat.beq a b)
  | .lss => fBool (Nat.ble (Nat.succ a) b) fun c => k (.bool c)
  | .leq => fBool (Nat.ble a b) fun c => k (.bool c)
  | .gtr => fBool (Nat.ble (Nat.succ b) a) fun c => k (.bool c)
  | .geq => fBool (Nat.ble b a) fun c => k (.bool c)
  | _ => slow
theorem wrapN_small {n : Nat} (h : n ≤ 9223372036854775807) : IntKind.i64.wrap (Int.ofNat n) = Int.ofNat n := by
  have h0 : (Int.ofNat n) % ((2 : Int) ^ IntKind.i64.bits) = Int.ofNat n := by
    apply Int.emod_eq_of_lt
    · exact Int.natCast_nonneg n
    · show (n : Int) < 18446744073709551616
      omega
  unfold IntKind.wrap
  simp only [h0]
  rw [if_neg]
  intro hc
  rw [Bool.and_eq_true, decide_eq_true_eq] at hc
  have : (n : Int) ≥ 9223372036854775808 := hc.2
  omega
theorem smallK_eq (n k) : smallK n k (optE (some (.int .i64 (IntKind.i64.wrap (Int.ofNat n)))) k) = optE (some (.int .i64 (IntKind.i64.wrap (Int.ofNat n)))) k := by
  unfold smallK
  cases hb : Nat.ble n 9223372036854775807 with
  | false => rfl
  | true =>
    simp only [fNat_eq]
    rw [wrapN_small (Nat.le_of_ble_eq_true hb)]
    rfl
theorem ble_dec (a b : Nat) : Nat.ble a b = decide ((a : Int) ≤ (b : Int)) := by
  cases h : Nat.ble a b with
  | true => have := Nat.le_of_ble_eq_true h; simp [this]
  | false =>
    have : ¬ a ≤ b := fun h' => by rw [Nat.ble_eq_true_of_le h'] at h; cases h
    simp [this]
theorem beq_dec (a b : Nat) : Nat.beq a b = (Int.ofNat a == Int.ofNat b) := by
  cases h : Nat.beq a b with
  | true => have := Nat.eq_of_beq_eq_true h; simp [this]
  | false => have := Nat.ne_of_beq_eq_false h; simp; omega
theorem fastI_eq (op a b k) : fastI op a b k (optE (arith op .i64 (.ofNat a) (.ofNat b)) k) = optE (arith op .i64 (.ofNat a) (.ofNat b)) k := by
  cases op with
  | add => exact smallK_eq _ _
  | sub =>
    show (Bool.rec (motive := fun _ => Bool) _ _ (Nat.ble b a)) = _
    cases hb : Nat.ble b a with
    | false => rfl
    | true =>
      have := Nat.le_of_ble_eq_true hb
      have h : arith .sub .i64 (.ofNat a) (.ofNat b) = some (.int .i64 (IntKind.i64.wrap (Int.ofNat (a - b)))) := by
        show some (Value.int .i64 (IntKind.i64.wrap ((a : Int) - (b : Int)))) = _
        rw [← Int.ofNat_sub this]; rfl
      rw [h]; exact smallK_eq _ _
  | mul => exact smallK_eq _ _
  | quo =>
    show (Bool.rec (motive := fun _ => Bool) _ _ (Nat.beq b 0)) = _
    cases hb : Nat.beq b 0 with
    | true => rfl
    | false =>
      have h0 := Nat.ne_of_beq_eq_false hb
      have h : arith .quo .i64 (.ofNat a) (.ofNat b) = some (.int .i64 (IntKind.i64.wrap (Int.ofNat (a / b)))) := by
        show (if (b : Int) = 0 then none else some (Value.int .i64 (IntKind.i64.wrap ((a : Int).tdiv (b : Int))))) = _
        rw [if_neg (by omega)]; rfl
      rw [h]; exact smallK_eq _ _
  | rem =>
    show (Bool.rec (motive := fun _ => Bool) _ _ (Nat.beq b 0)) = _
    cases hb : Nat.beq b 0 with
    | true => rfl
    | false =>
      have h0 := Nat.ne_of_beq_eq_false hb
      have h : arith .rem .i64 (.ofNat a) (.ofNat b) = some (.int .i64 (Int.ofNat (a % b))) := by
        show (if (b : Int) = 0 then none else some (Value.int .i64 ((a : Int).tmod (b : Int)))) = _
        rw [if_neg (by omega)]; rfl
      rw [h]; exact fNat_eq _ _
  | eql =>
    simp only [fastI, fBool_eq, beq_dec]; rfl
  | neq =>
    simp only [fastI, beq_dec]
    show _ = k (.bool (Int.ofNat a != Int.ofNat b))
    unfold bne
    cases (Int.ofNat a == Int.ofNat b) <;> rfl
  | lss =>
    simp only [fastI, fBool_eq, ble_dec]
    show _ = k (.bool (decide ((a : Int) < b)))
    congr 2
  | leq => simp only [fastI, fBool_eq, ble_dec]; rfl
  | gtr =>
    simp only [fastI, fBool_eq, ble_dec]
    show _ = k (.bool (decide ((a : Int) > b)))
    congr 2
  | geq =>
    simp only [fastI, fBool_eq, ble_dec]
    show _ = k (.bool (decide ((a : Int) ≥ b)))
    rfl
  | _ => rfl
def binK (X : Env) (H : Look) (op : BinOp) (t : TypeId) (x y : Value) (k : Value → Bool) : Bool := match x, y with
  | .int .i64 (.ofNat a), .int .i64 (.ofNat b) => match op with
    | .shl => optV (binop X H .shl t x y) k
    | .shr => optV (binop X H .shr t x y) k
    | op => fastI op a b k (optV (binop X H op t x y) k)
  | _, _ => optV (binop X H op t x y) k
theorem binK_eq (X H op t x y k) : binK X H op t x y k = optE (binop X H op t x y) k := by
  unfold binK
  split
  · rename_i a b
    cases op <;> simp only [optV_eq] <;> exact fastI_eq _ a b k
  · exact optV_eq _ _

/-! ### Addresses -/
def fieldAddrK (X : Env) (st : TypeId) (x : Value) (f : Nat) (k : Value → Bool) : Bool := match x with
  | .pointer (some ⟨b, off, none⟩) => match X.ty st with
    | some i => match i.desc with
      | .struct fields => nthK fields.toList f fun fd => match fd with
        | some fd => match X.ty fd.type with
          | some ti => Bool.rec (motive := fun _ => Bool) (fNat (Nat.add off fd.offset) fun o => k (.pointer (some ⟨b, o, none⟩))) false (Nat.beq ti.size 0)
          | none => false
        | none => false
      | _ => false
    | none => false
  | _ => false
theorem addr_add (b off m : Nat) : (⟨b, off, none⟩ : Addr).add m = ⟨b, off + m, none⟩ := by
  unfold Addr.add
  split
  · rename_i h; subst h; rfl
  · rfl
theorem fieldAddrK_eq (X st x f k) : fieldAddrK X st x f k = optE (fieldAddrA X st x f) k := by
  unfold fieldAddrK fieldAddrA
  cases hX : X.ty st with
  | none =>
    split
    · rfl
    · rfl
  | some i =>
    rcases i with ⟨desc, size, bytes, zero, agg, methods, cmp⟩
    cases x with
    | pointer a =>
      cases a with
      | none => cases desc <;> rfl
      | some a =>
        rcases a with ⟨b, off, _ | q⟩
        · cases desc with
          | struct fields =>
            simp only [nthK_eq, Array.getElem?_toList]
            cases fields[f]? with
            | none => rfl
            | some fd =>
              simp only
              cases X.ty fd.type with
              | none => rfl
              | some ti =>
                simp only
                cases hb : Nat.beq ti.size 0 with
                | true => rw [if_pos (Nat.eq_of_beq_eq_true hb)]; rfl
                | false => rw [if_neg (Nat.ne_of_beq_eq_false hb), addr_add]; simp only [fNat_eq]; rfl
          | _ => rfl
        · cases desc with
          | struct fields => simp only; cases fields[f]? <;> rfl
          | _ => rfl
    | _ => cases desc <;> rfl
def indexAddrK (X : Env) (t : TypeId) (x i : Value) (k : Value → Bool) : Bool := match x, i with
  | .slice (some ⟨b, off, none⟩) len cap, .int j (.ofNat n) => match X.ty t with
    | some it => match it.desc with
      | .slice e => match X.ty e with
        | some ei => Bool.rec (motive := fun _ => Bool) false (fNat (Nat.add off (Nat.mul n ei.size)) fun o => k (.pointer (some ⟨b, o, none⟩))) (Nat.ble (Nat.succ n) len)
        | none => false
      | .array _ _ => optV (indexAddrA X t (.slice (some ⟨b, off, none⟩) len cap) (.int j (.ofNat n))) k
      | _ => false
    | none => false
  | x, i => optV (indexAddrA X t x i) k
theorem indexAddrK_eq (X t x i k) : indexAddrK X t x i k = optE (indexAddrA X t x i) k := by
  unfold indexAddrK
  split
  · rename_i b off len cap j n
    unfold indexAddrA
    cases hX : X.ty t with
    | none => rfl
    | some it =>
      rcases it with ⟨desc, size, bytes, zero, agg, methods, cmp⟩
      cases desc with
      | slice e =>
        simp only
        cases X.ty e with
        | none => rfl
        | some ei =>
          simp only
          cases hb : Nat.ble (Nat.succ n) len with
          | false =>
            rw [if_neg]
            · rfl
            · intro h
              have := Nat.ble_eq_true_of_le (Int.ofNat_lt.1 h.2)
              rw [hb] at this; cases this
          | true =>
            have := Nat.le_of_ble_eq_true hb
            rw [if_pos ⟨Int.natCast_nonneg n, Int.ofNat_lt.2 this⟩, show (Int.ofNat n).toNat = n from rfl, addr_add]
            simp only [fNat_eq]; rfl
      | array l e => simp only [optV_eq]
      | _ => rfl
  · exact optV_eq _ _
def sliceK (X : Env) (s : St) (t : TypeId) (x : Value) (lo hi mx : Option Value) (k : Value → Bool) : Bool := match x with
  | .slice (some a) l c => match s with
    | ⟨h, _, _⟩ => getK h a.block fun o => optV (sliceA X (fun _ => o) t (.slice (some a) l c) lo hi mx) k
  | .pointer (some a) => match s with
    | ⟨h, _, _⟩ => getK h a.block fun o => optV (sliceA X (fun _ => o) t (.pointer (some a)) lo hi mx) k
  | x => optV (sliceA X (fun _ => none) t x lo hi mx) k
theorem sliceK_eq (X s t x lo hi mx k) : sliceK X s t x lo hi mx k = optE (sliceA X s.look t x lo hi mx) k := by
  unfold sliceK
  split
  · simp only [getK_eq, optV_eq]
    congr 1
    unfold sliceA
    cases mx with
    | some _ => rfl
    | none =>
      simp only
      cases X.ty t with
      | none => rfl
      | some i =>
        rcases i with ⟨desc, size, bytes, zero, agg, methods, cmp⟩
        cases optInt lo <;> cases optInt hi <;> first | rfl | (cases desc <;> rfl)
  · simp only [getK_eq, optV_eq]
    congr 1
    unfold sliceA
    cases mx with
    | some _ => rfl
    | none =>
      simp only
      cases X.ty t with
      | none => rfl
      | some i =>
        rcases i with ⟨desc, size, bytes, zero, agg, methods, cmp⟩
        cases optInt lo <;> cases optInt hi <;> first | rfl | (cases desc <;> rfl)
  · rename_i h1 h2
    rw [optV_eq]
    congr 1
    unfold sliceA
    cases mx with
    | some _ => rfl
    | none =>
      simp only
      cases X.ty t with
      | none => rfl
      | some i =>
        rcases i with ⟨desc, size, bytes, zero, agg, methods, cmp⟩
        cases optInt lo <;> cases optInt hi <;> first | rfl | skip
        cases x with
        | slice a l c => cases a with
          | none => cases desc <;> first | rfl | (cases l <;> cases c <;> rfl)
          | some a => exact absurd rfl (h1 a l c)
        | pointer a => cases a with
          | none => cases desc <;> rfl
          | some a => exact absurd rfl (h2 a)
        | _ => cases desc <;> rfl

/-! ### Operations that only read -/
def stillK (X : Env) (s : St) (a : ACt) (op : Op) (k : Value → Bool) : Bool := match op with
  | .move x => evalK a x k
  | .assign x => evalK a x k
  | .pick c x y => evalK a c fun v => match v with
    | .bool t => Bool.rec (motive := fun _ => Bool) (evalK a y k) (evalK a x k) t
    | _ => false
  | .build t parts => partsK a parts.toList fun ps => optV (buildA X t ps) k
  | .load t x => evalK a x fun v => match v with
    | .pointer (some ad) => loadK X s t ad k
    | _ => false
  | .nilCheck x => evalK a x fun v => optE (nilCheckA v) k
  | .binOp op t x y _ => evalK a x fun v => evalK a y fun w => Bool.rec (motive := fun _ => Bool) (binK X s.look op t v w k) false (bothNil v w && !(isConstO x || isConstO y))
  | .unOp op _ x => evalK a x fun v => optV (unop op v) k
  | .convert c d x => evalK a x fun v => optV (convertA X c d v) k
  | .makeInterface t x => evalK a x fun v => match X.ty t with
    | some i => match i.desc with
      | .interface _ => false
      | _ => k (.iface t v)
    | none => false
  | .makeFunc fn first captured => evalsK a first.toList fun u => evalsK a captured.toList fun w => match fn with
    | .func f => k (.func (.func f) ⟨u⟩ ⟨w⟩)
    | .method m => k (.func (.method m) ⟨u⟩ ⟨w⟩)
    | _ => false
  | .slice t x lo hi mx => evalK a x fun v => evalOK a lo fun lo => evalOK a hi fun hi => evalOK a mx fun mx => sliceK X s t v lo hi mx k
  | .fieldAddr c x f => evalK a x fun v => fieldAddrK X c v f k
  | .field t x f => evalK a x fun v => optV (fieldA X t v f) k
  | .indexAddr t x i => evalK a x fun v => evalK a i fun w => indexAddrK X t v w k
  | .index t x i => evalK a x fun v => evalK a i fun w => optV (indexA X t v w) k
  | .lookup t x y ok => evalK a x fun v => evalK a y fun w => optV (lookupA X s.look t v w ok) k
  | .extract t i => evalK a t fun v => match v with
    | .tuple ⟨vs⟩ => nthK vs i fun v => optE v k
    | _ => false
  | .entry it => evalK a it fun v => optV (entryA s.look v) k
  | .typeAssert x _ t ok => evalK a x fun v => optV (typeAssertA X v t ok) k
  | .call c => match c.callee with
    | .builtin .len => match c.argTypes[0]?, c.args[0]? with
      | some t, some x => evalK a x fun v => optV (lenOfA X s.look t v) k
      | _, _ => false
    | .builtin .min => evalsK a c.args.toList fun l => optV (match l with
      | v :: rest => minmaxA (fun x y => decide (y < x)) v rest
      | _ => none) k
    | .builtin .max => evalsK a c.args.toList fun l => optV (match l with
      | v :: rest => minmaxA (fun x y => decide (y > x)) v rest
      | _ => none) k
    | _ => false
  | _ => false
theorem map_mk (l : Array Operand) (f : Operand → Value) : l.map f = ⟨l.toList.map f⟩ := by
  apply Array.toList_inj.1; simp
theorem stillK_eq (X s a op k) : stillK X s a op k = optE (stillA X s.look a.eval op) k := by
  cases op with
  | move x => exact evalK_eq _ _ _
  | assign x => exact evalK_eq _ _ _
  | pick c x y =>
    simp only [stillK, evalK_eq, stillA]
    cases a.eval c with
    | bool t => cases t <;> rfl
    | _ => rfl
  | build t parts => simp only [stillK, partsK_eq, optV_eq, stillA]
  | load t x =>
    simp only [stillK, evalK_eq, stillA]
    cases a.eval x with
    | pointer ad => cases ad with
      | none => rfl
      | some ad => exact loadK_eq _ _ _ _ _
    | _ => rfl
  | nilCheck x => simp only [stillK, evalK_eq, stillA]
  | binOp op t x y y' =>
    simp only [stillK, evalK_eq, stillA, binK_eq]
    cases (bothNil (a.eval x) (a.eval y) && !(isConstO x || isConstO y)) <;> rfl
  | unOp op t x => simp only [stillK, evalK_eq, stillA, optV_eq]
  | convert c d x => simp only [stillK, evalK_eq, stillA, optV_eq]
  | makeInterface t x =>
    simp only [stillK, evalK_eq, stillA]
    cases X.ty t with
    | none => rfl
    | some i =>
      rcases i with ⟨desc, size, bytes, zero, agg, methods, cmp⟩
      cases desc <;> rfl
  | makeFunc fn first captured =>
    simp only [stillK, evalsK_eq, stillA, map_mk]
    cases fn <;> rfl
  | slice t x lo hi mx => simp only [stillK, evalK_eq, evalOK_eq, stillA, sliceK_eq]
  | fieldAddr c x f => simp only [stillK, evalK_eq, stillA, fieldAddrK_eq]
  | field t x f => simp only [stillK, evalK_eq, stillA, optV_eq]
  | indexAddr t x i => simp only [stillK, evalK_eq, stillA, indexAddrK_eq]
  | index t x i => simp only [stillK, evalK_eq, stillA, optV_eq]
  | lookup t x y ok => simp only [stillK, evalK_eq, stillA, optV_eq]
  | extract t i =>
    simp only [stillK, evalK_eq, stillA]
    cases a.eval t with
    | tuple vs => rcases vs with ⟨vs⟩; simp only [nthK_eq, List.getElem?_toArray]
    | _ => rfl
  | entry it => simp only [stillK, evalK_eq, stillA, optV_eq]
  | typeAssert x t t' ok => simp only [stillK, evalK_eq, stillA, optV_eq]
  | call c =>
    simp only [stillK, stillA]
    cases c.callee with
    | value f => rfl
    | invoke r m => rfl
    | builtin b =>
      cases b with
      | len =>
        simp only
        cases c.argTypes[0]? <;> cases c.args[0]? <;> first | rfl | simp only [evalK_eq, optV_eq]
      | min =>
        simp only [evalsK_eq, optV_eq]
        cases c.args.toList.map a.eval <;> rfl
      | max =>
        simp only [evalsK_eq, optV_eq]
        cases c.args.toList.map a.eval <;> rfl
      | _ => rfl
  | _ => rfl
end Go.Dust
end
