/- Da Db Dc -/
import Derived.RangeFuncLeaves
import Derived.OrdersIn
import Derived.RangeFuncOwn
import Derived.Laws.StructEq
set_option linter.unusedVariables false
set_option linter.unusedSimpArgs false
section
/- The interpreter D: a run of a loaded program over abstract memory, without a tape. Definitions alone. -/
noncomputable section
namespace Go.Dust

/-! ### Finite maps from numbers -/
inductive PT (α : Type) where
  | nil
  | node (v : Option α) (l r : PT α)

namespace PT
variable {α : Type}
noncomputable def get (t : PT α) : Nat → Option α :=
  PT.rec (motive := fun _ => Nat → Option α) (fun _ => none) (fun v _ _ gl gr n => Bool.rec (motive := fun _ => Option α) (Bool.rec (motive := fun _ => Option α) (gr (Nat.div (Nat.pred n) 2)) (gl (Nat.div (Nat.pred n) 2)) (Nat.beq (Nat.mod n 2) 1)) v (Nat.beq n 0)) t
noncomputable def setF (f : Nat) : PT α → Nat → α → PT α :=
  Nat.rec (motive := fun _ => PT α → Nat → α → PT α) (fun t _ _ => t) (fun _ ih t n a =>
    PT.rec (motive := fun _ => PT α)
      (Bool.rec (motive := fun _ => PT α) (Bool.rec (motive := fun _ => PT α) (.node none .nil (ih .nil (Nat.div (Nat.pred n) 2) a)) (.node none (ih .nil (Nat.div (Nat.pred n) 2) a) .nil) (Nat.beq (Nat.mod n 2) 1)) (.node (some a) .nil .nil) (Nat.beq n 0))
      (fun v l r _ _ => Bool.rec (motive := fun _ => PT α) (Bool.rec (motive := fun _ => PT α) (.node v l (ih r (Nat.div (Nat.pred n) 2) a)) (.node v (ih l (Nat.div (Nat.pred n) 2) a) r) (Nat.beq (Nat.mod n 2) 1)) (.node (some a) l r) (Nat.beq n 0)) t) f
noncomputable def set (t : PT α) (n : Nat) (a : α) : PT α := setF (n + 1) t n a
def setL (t : PT α) (n : Nat) : List α → PT α
  | [] => t
  | a :: as0 => (t.set n a).setL (n + 1) as0
def ofList (l : List α) : PT α := PT.nil.setL 0 l
end PT

/-! ### Results: one way, or several by a choice that Go leaves open -/
inductive Res (α : Type) where
  | fail (why : String)
  | ret (a : α)
  | ask (n : Nat) (k : Nat → Res α)

namespace Res
variable {α β : Type}
def bind : Res α → (α → Res β) → Res β
  | fail w, _ => fail w
  | ret a, f => f a
  | ask n k, f => ask n fun i => (k i).bind f
def All (Φ : α → Prop) : Res α → Prop
  | fail _ => False
  | ret a => Φ a
  | ask n k => ∀ i, i < n → (k i).All Φ
def Lv (Φ : α → Prop) : Res α → Prop
  | fail _ => True
  | ret a => Φ a
  | ask n k => ∀ i, i < n → (k i).Lv Φ
def ofOption (w : String) : Option α → Res α
  | some a => ret a
  | none => fail w
end Res

/-! ### The state -/
inductive AObj where
  | cells (c : PT Value) (z : List Value) (n : Nat) (elem : TypeId) (room ro : Bool) (ver : Nat)
  | map (es : List MapEntry) (clock : Nat) (ver : Nat)
  | miter (m : Option Nat) (since : Nat) (seen : List Nat) (stepped : Nat) (ver : Nat)
  | siter (s : ByteArray) (pos : Nat) (ver : Nat)
  | loop (st : LoopState) (pending : Option Code) (tmps : PT Value) (nt : Nat) (params : Array Tmp) (assign body : Code) (ver : Nat)
  | dead

def AObj.ver : AObj → Nat
  | cells _ _ _ _ _ _ v | map _ _ v | miter _ _ _ _ v | siter _ _ v | loop _ _ _ _ _ _ _ v => v
  | dead => 0
def AObj.isDead : AObj → Bool
  | dead => true
  | _ => false

structure St where
  heap : PT AObj
  next : Nat
  clk : Nat

abbrev Look := Nat → Option AObj

def St.look (s : St) : Look := fun b => s.heap.get b
/-- An object in the place of another. -/
def St.put (s : St) (b : Nat) (f : Nat → AObj) : St := { heap := s.heap.set b (f s.clk), next := s.next, clk := s.clk + 1 }
/-- A new object, by the next name. -/
def St.new (s : St) (f : Nat → AObj) : St := { heap := s.heap.set s.next (f s.clk), next := s.next + 2, clk := s.clk + 1 }

structure Ty where
  desc : TypeDesc
  size : Nat
  bytes : Nat
  zero : Option Value
  agg : Bool
  methods : Array Method
  cmp : Bool

structure Env where
  ty : Nat → Option Ty
  fn : Nat → Option Func

/-- A value that names no memory. -/
def closed1 : Value → Bool
  | .bool _ | .int .. | .string _ | .pointer none | .slice none _ _ | .map none | .nilFunc | .nilIface | .float .. => true
  | _ => false
def closedV : Value → Bool
  | .agg cs => cs.toList.all closed1
  | .tuple cs => cs.toList.all closed1
  | v => closed1 v

def aggOf : TypeDesc → Bool
  | .struct _ | .array _ _ => true
  | _ => false

def mkTy (P : Program) (t : TypeId) : Option Ty :=
  match P.info? t, P.underlying t with
  | some i, some d => some { desc := d, size := i.size, bytes := i.bytes, zero := (match i.zero with | some z => if closedV z then some z else none | none => none), agg := aggOf d, methods := i.methods, cmp := !P.stoodInHeld t && !P.eqGuardType P.depth t }
  | _, _ => none

structure ACt where
  tmps : PT Value
  nt : Nat

def ACt.getT (a : ACt) (t : Nat) : Value := (a.tmps.get t).getD undef
def ACt.put (a : ACt) (d : Option Tmp) (v : Value) : ACt := match d with
  | some d => { tmps := a.tmps.set d v, nt := a.nt }
  | none => a
def ACt.eval (a : ACt) : Operand → Value
  | .tmp t => a.getT t
  | .const v => v
  | .global g => .pointer (some ⟨2 * g, 0, none⟩)
  | .func f => .func (.func f) #[] #[]

/-! ### Reading cells -/
def cellAt (c : PT Value) (z : List Value) (n i : Nat) : Option Value :=
  if i < n then some (match c.get i with | some v => v | none => z.getD (i % z.length) undef) else none
def readCells (c : PT Value) (z : List Value) (n : Nat) : Nat → Nat → Option (List Value)
  | _, 0 => some []
  | i, k + 1 => match cellAt c z n i with
    | some v => match readCells c z n (i + 1) k with
      | some l => some (v :: l)
      | none => none
    | none => none
def loadN (H : Look) (a : Addr) (k : Nat) : Option (List Value) :=
  match a.spot, H a.block with
  | none, some (.cells c z n _ _ _ _) => readCells c z n a.off k
  | _, _ => none
def load1 (H : Look) (a : Addr) : Option Value :=
  match a.spot, H a.block with
  | none, some (.cells c z n _ _ _ _) => cellAt c z n a.off
  | _, _ => none
def loadT (X : Env) (H : Look) (t : TypeId) (a : Addr) : Option Value :=
  match X.ty t with
  | some i => if i.agg then (match loadN H a i.size with | some l => some (.agg l.toArray) | none => none) else load1 H a
  | none => none

/-- A value of one cell. -/
def one1 : Value → Bool
  | .agg _ | .tuple _ => false
  | _ => true
def storeN (s : St) (a : Addr) (vs : List Value) : Option St :=
  match a.spot, s.heap.get a.block with
  | none, some (.cells c z n e r false _) =>
    if a.off + vs.length ≤ n ∧ vs.all one1 = true then some (s.put a.block fun v => .cells (c.setL a.off vs) z n e r false v) else none
  | _, _ => none
def storeT (X : Env) (s : St) (t : TypeId) (a : Addr) (v : Value) : Option St :=
  match X.ty t with
  | some i => if v.cells.size = i.size then storeN s a v.cells.toList else none
  | none => none

/-! ### Operations that only read -/
def partT (X : Env) (t : TypeId) (cs : Array Value) (off : Nat) : Option Value :=
  match X.ty t with
  | some i => if i.agg then (if off + i.size ≤ cs.size then some (.agg (cs.extract off (off + i.size))) else none) else cs[off]?
  | none => none

def cmpI (op : BinOp) (x y : Int) : Option Value :=
  match op with
  | .eql => some (.bool (x == y))
  | .neq => some (.bool (x != y))
  | .lss => some (.bool (decide (x < y)))
  | .leq => some (.bool (decide (x ≤ y)))
  | .gtr => some (.bool (decide (x > y)))
  | .geq => some (.bool (decide (x ≥ y)))
  | _ => none

def arith (op : BinOp) (k : IntKind) (x y : Int) : Option Value :=
  match op with
  | .add => some (.int k (k.wrap (x + y)))
  | .sub => some (.int k (k.wrap (x - y)))
  | .mul => some (.int k (k.wrap (x * y)))
  | .quo => if y = 0 then none else some (.int k (k.wrap (x.tdiv y)))
  | .rem => if y = 0 then none else some (.int k (x.tmod y))
  | .and => some (.int k (k.wrap ((BitVec.ofInt k.bits x &&& BitVec.ofInt k.bits y).toNat)))
  | .or => some (.int k (k.wrap ((BitVec.ofInt k.bits x ||| BitVec.ofInt k.bits y).toNat)))
  | .xor => some (.int k (k.wrap ((BitVec.ofInt k.bits x ^^^ BitVec.ofInt k.bits y).toNat)))
  | .andNot => some (.int k (k.wrap ((BitVec.ofInt k.bits x &&& ~~~ BitVec.ofInt k.bits y).toNat)))
  | _ => cmpI op x y

def shiftI (op : BinOp) (k : IntKind) (x y : Int) : Option Value :=
  if y < 0 then none
  else match op with
    | .shl => some (.int k (k.wrap (x * 2 ^ (min y.toNat k.bits))))
    | .shr => some (.int k (x.fdiv (2 ^ (min y.toNat k.bits))))
    | _ => none

def strI (op : BinOp) (x y : ByteArray) : Option Value :=
  match op with
  | .add => if ((x.size + y.size : Nat) : Int) > IntKind.i64.max then none else some (.string (x ++ y))
  | .eql => some (.bool (x.toList == y.toList))
  | .neq => some (.bool (!(x.toList == y.toList)))
  | .lss => some (.bool (Op.bytesLess x.toList y.toList))
  | .leq => some (.bool (Op.bytesLess x.toList y.toList || (x.toList == y.toList)))
  | .gtr => some (.bool (!(Op.bytesLess x.toList y.toList || (x.toList == y.toList))))
  | .geq => some (.bool (!Op.bytesLess x.toList y.toList))
  | _ => none

def isCells (H : Look) (b : Nat) : Bool := match H b with | some (.cells _ _ _ _ _ false _) => true | _ => false

def plainV : Value → Bool
  | .int .. | .bool _ | .string _ | .agg _ => true
  | _ => false
/-- '==' at a type, to a depth. -/
def eqFields (X : Env) (f : TypeId → Value → Value → Option Bool) (xs ys : Array Value) : List Field → Option Bool
  | [] => some true
  | fd :: rest =>
    if fd.name = "_" then eqFields X f xs ys rest
    else match partT X fd.type xs fd.offset, partT X fd.type ys fd.offset with
      | some u, some v => match f fd.type u v with
        | some true => eqFields X f xs ys rest
        | some false => some false
        | none => none
      | _, _ => none
def eqAt (X : Env) (H : Look) : Nat → TypeId → Value → Value → Option Bool
  | 0, _, _, _ => none
  | d + 1, t, x, y =>
    match X.ty t with
    | none => none
    | some i => match i.desc, x, y with
      | .bool, .bool a, .bool b => some (a == b)
      | .int _, .int k a, .int k' b => if k = k' then some (a == b) else none
      | .string, .string a, .string b => some (a.toList == b.toList)
      | .pointer _, .pointer none, .pointer b => some b.isNone
      | .pointer _, .pointer (some _), .pointer none => some false
      | .pointer e, .pointer (some a), .pointer (some b) =>
        match X.ty e with
        | none => none
        | some ei =>
          if ei.size = 0 then none
          else match a.spot, b.spot with
            | none, none =>
              if a.block = b.block then some (a.off == b.off)
              else if isCells H a.block && isCells H b.block then some false else none
            | _, _ => none
      | .interface _, .nilIface, .nilIface => some true
      | .interface _, .nilIface, .iface _ _ => some false
      | .interface _, .iface _ _, .nilIface => some false
      | .slice _, .slice none _ _, .slice b _ _ => some b.isNone
      | .slice _, .slice (some _) _ _, .slice none _ _ => some false
      | .map _ _, .map none, .map b => some b.isNone
      | .map _ _, .map (some _), .map none => some false
      | .func _ _ _, .nilFunc, .nilFunc => some true
      | .func _ _ _, .nilFunc, .func _ _ _ => some false
      | .func _ _ _, .func _ _ _, .nilFunc => some false
      | .struct fields, .agg xs, .agg ys => if i.cmp then eqFields X (fun t x y => if plainV x then eqAt X H d t x y else none) xs ys fields.toList else none
      | _, _, _ => none

def binop (X : Env) (H : Look) (op : BinOp) (t : TypeId) (x y : Value) : Option Value :=
  match x, y with
  | .int k a, .int k' b => match op with
    | .shl => shiftI op k a b
    | .shr => shiftI op k a b
    | _ => if k = k' then arith op k a b else none
  | .string a, .string b => strI op a b
  | x, y => match op with
    | .eql => match eqAt X H 10 t x y with
      | some b => some (.bool b)
      | none => none
    | .neq => match eqAt X H 10 t x y with
      | some b => some (.bool !b)
      | none => none
    | _ => none

def unop (op : UnOp) (x : Value) : Option Value :=
  match op, x with
  | .neg, .int k n => some (.int k (k.wrap (0 - n)))
  | .not, .bool b => some (.bool !b)
  | _, _ => none

def convertA (X : Env) (src dst : TypeId) (x : Value) : Option Value :=
  match X.ty src, X.ty dst with
  | some _, some d => match d.desc, x with
    | .int k, .int _ n => some (.int k (k.wrap n))
    | .string, .string s => some (.string s)
    | _, _ => none
  | _, _ => none

def keyEq : Value → Value → Option Bool
  | .int k a, .int k' b => if k = k' then some (a == b) else none
  | .string a, .string b => some (a == b)
  | .bool a, .bool b => some (a == b)
  | _, _ => none
def findE (k : Value) : List MapEntry → Nat → Option (Option (Nat × Value))
  | [], _ => some none
  | e :: es, i => match keyEq k e.key with
    | some true => some (some (i, e.val))
    | some false => findE k es (i + 1)
    | none => none
def keyDesc : TypeDesc → Value → Bool
  | .int j, .int j' _ => decide (j = j')
  | .string, .string _ => true
  | .bool, .bool _ => true
  | _, _ => false
def keyOk (X : Env) (t : TypeId) (k : Value) : Bool :=
  match X.ty t with
  | some i => keyDesc i.desc k
  | none => false

def mapOf (H : Look) (r : Nat) : Option (List MapEntry × Nat) :=
  match H r with
  | some (.map es c _) => some (es, c)
  | _ => none

def lookupA (X : Env) (H : Look) (t : TypeId) (x k : Value) (ok : Bool) : Option Value :=
  match X.ty t with
  | some { desc := .map kt et, .. } =>
    match X.ty et with
    | some { zero := some z, .. } =>
      if keyOk X kt k then
        match x with
        | .map none => some (if ok then .tuple #[z, .bool false] else z)
        | .map (some r) => match mapOf H r with
          | some (es, _) => match findE k es 0 with
            | some (some (_, v)) => some (if ok then .tuple #[v, .bool true] else v)
            | some none => some (if ok then .tuple #[z, .bool false] else z)
            | none => none
          | none => none
        | _ => none
      else none
    | _ => none
  | _ => none

def optInt : Option Value → Option (Option Int)
  | none => some none
  | some (.int _ n) => some (some n)
  | some _ => none

/-- The bounds of a slice expression with two indexes. -/
def bounds2 (len cap : Nat) (lo hi : Option Int) : Option (Nat × Nat) :=
  match (match hi with | some h => if 0 ≤ h ∧ h ≤ (cap : Int) then some h.toNat else none | none => some len) with
  | none => none
  | some h => match (match lo with | some l => if 0 ≤ l ∧ l ≤ (h : Int) then some l.toNat else none | none => some 0) with
    | none => none
    | some l => some (l, h)

def sliceA (X : Env) (H : Look) (t : TypeId) (x : Value) (lo hi mx : Option Value) : Option Value :=
  match mx with
  | some _ => none
  | none =>
  match X.ty t, optInt lo, optInt hi with
  | some i, some lo, some hi => match i.desc, x with
    | .string, .string s => match bounds2 s.size s.size lo hi with
      | some (l, h) => if l ≤ h then some (.string (s.extract l h)) else none
      | none => none
    | .slice e, .slice none 0 0 => match bounds2 0 0 lo hi, X.ty e with
      | some (0, 0), some _ => some (.slice none 0 0)
      | _, _ => none
    | .slice e, .slice (some a) len cap => match a.spot with
      | none => match bounds2 len cap lo hi, X.ty e, H a.block with
        | some (l, h), some ei, some (.cells _ _ _ _ room _ _) =>
          if l ≤ h ∧ h ≤ cap then
            if cap = l then some (.slice (some (if room then ⟨a.block, a.off, some (l * ei.size)⟩ else a)) (h - l) (cap - l))
            else some (.slice (some (a.add (l * ei.size))) (h - l) (cap - l))
          else none
        | _, _, _ => none
      | some _ => none
    | .array n e, .pointer (some a) => match a.spot with
      | none => match bounds2 n n lo hi, X.ty e, H a.block with
        | some (l, h), some ei, some (.cells _ _ _ _ false _ _) => if l ≤ h then some (.slice (some (if n = l then a else a.add (l * ei.size))) (h - l) (n - l)) else none
        | _, _, _ => none
      | some _ => none
    | _, _ => none
  | _, _, _ => none

def buildA (X : Env) (t : TypeId) (parts : List (Nat × Value)) : Option Value :=
  match X.ty t with
  | some { desc := .struct fields, zero := some z, .. } =>
    if fields.toList.all (fun f => (X.ty f.type).isSome) then
      match Instr.fill ((fields.map fun f => (f.offset, match X.ty f.type with | some ti => ti.size | none => 0))[·]?) z.cells parts with
      | some cs => some (.agg cs)
      | none => none
    else none
  | some { desc := .array _ e, zero := some z, .. } => match X.ty e with
    | some ei => match Instr.fill (fun i => some (i * ei.size, ei.size)) z.cells parts with
      | some cs => some (.agg cs)
      | none => none
    | none => none
  | _ => none

/-- The method of a value in an interface: no loads on the way. -/
def follow1 (X : Env) : List FieldStep → TypeId → Value → Option (TypeId × Value)
  | [], t, x => some (t, x)
  | st :: rest, _, x => match X.ty st.struct with
    | some { desc := .struct fields, .. } => match fields[st.index]?, st.deref, x with
      | some f, false, .agg cs => match partT X f.type cs f.offset with
        | some v => follow1 X rest f.type v
        | none => none
      | _, _, _ => none
    | _ => none
def methodA (X : Env) (t : TypeId) (v : Value) (name : String) : Option (FuncId × Value) :=
  match X.ty t with
  | some i => match i.methods.find? (·.name == name) with
    | some m => match follow1 X m.path.toList t v with
      | some (xt, x) => match m.func, X.ty xt with
        | some (f, true), some { desc := .pointer _, .. } => some (f, x)
        | some (_, false), some { desc := .pointer _, .. } => none
        | some (f, false), some _ => some (f, x)
        | _, _ => none
      | none => none
    | none => none
  | none => none

/-- Whether a dynamic type has the methods of an interface. -/
def hasMethods (want : Array (String × TypeId)) (got : Array Method) : Bool :=
  want.toList.all fun (name, sig) => got.any fun m => m.name == name && m.sig == sig

def typeAssertA (X : Env) (x : Value) (asserted : TypeId) (ok : Bool) : Option Value :=
  match X.ty asserted, x with
  | some { desc := .interface want, zero := some z, .. }, .iface t v => match X.ty t with
    | some i => if hasMethods want i.methods then some (if ok then .tuple #[.iface t v, .bool true] else .iface t v)
      else if ok then some (.tuple #[z, .bool false]) else none
    | none => none
  | some { desc := .interface _, .. }, _ => none
  | some _, .iface t v => if t = asserted then some (if ok then .tuple #[v, .bool true] else v) else none
  | _, _ => none

def minmaxA (less : Int → Int → Bool) : Value → List Value → Option Value
  | v, [] => some v
  | .int k x, .int k' y :: rest => if k = k' then minmaxA less (.int k (if less x y then y else x)) rest else none
  | _, _ => none

def lenOfA (X : Env) (H : Look) (t : TypeId) (x : Value) : Option Value :=
  match X.ty t with
  | some i => match i.desc, x with
    | .string, .string s => some (goInt s.size)
    | .array n _, _ => some (goInt n)
    | .slice _, .slice _ n _ => some (goInt n)
    | .map _ _, .map none => some (goInt (0 : Nat))
    | .map _ _, .map (some r) => match mapOf H r with
      | some (es, _) => some (goInt es.length)
      | none => none
    | _, _ => none
  | none => none

def fieldAddrA (X : Env) (s : TypeId) (x : Value) (f : Nat) : Option Value :=
  match X.ty s, x with
    | some { desc := .struct fields, .. }, .pointer (some a) => match fields[f]?, a.spot with
      | some fd, none => match X.ty fd.type with
        | some ti => if ti.size = 0 then none else some (.pointer (some (a.add fd.offset)))
        | none => none
      | _, _ => none
    | _, _ => none
def fieldA (X : Env) (t : TypeId) (x : Value) (f : Nat) : Option Value :=
  match X.ty t, x with
    | some { desc := .struct fields, .. }, .agg cs => match fields[f]? with
      | some fd => partT X fd.type cs fd.offset
      | none => none
    | _, _ => none
def indexAddrA (X : Env) (t : TypeId) (x i : Value) : Option Value :=
  match X.ty t, x, i with
    | some { desc := .slice e, .. }, .slice (some a) len _, .int _ n => match X.ty e, a.spot with
      | some ei, none => if 0 ≤ n ∧ n < (len : Int) then some (.pointer (some (a.add (n.toNat * ei.size)))) else none
      | _, _ => none
    | some { desc := .array len e, .. }, .pointer (some a), .int _ n => match X.ty e, a.spot with
      | some ei, none => if 0 ≤ n ∧ n < (len : Int) then some (.pointer (some (a.add (n.toNat * ei.size)))) else none
      | _, _ => none
    | _, _, _ => none
def indexA (X : Env) (t : TypeId) (x i : Value) : Option Value :=
  match X.ty t, x, i with
    | some { desc := .string, .. }, .string s, .int _ n =>
      if 0 ≤ n then match s[n.toNat]? with
        | some b => some (.int .u8 b.toNat)
        | none => none
      else none
    | some { desc := .array len e, .. }, .agg cs, .int _ n => match X.ty e with
      | some ei => if 0 ≤ n ∧ n < (len : Int) then partT X e cs (n.toNat * ei.size) else none
      | none => none
    | _, _, _ => none
def entryA (H : Look) (it : Value) : Option Value :=
  match it with
    | .pointer (some a) => if a.off = 0 ∧ a.spot = none then match H a.block with
      | some (.miter (some m) _ (last :: _) stepped _) => match mapOf H m with
        | some (es, clock) => if clock = stepped then match es.find? (·.born == last) with
          | some e => some (.tuple #[e.key, e.val])
          | none => none else none
        | none => none
      | _ => none else none
    | _ => none
def nilCheckA (x : Value) : Option Value :=
  match x with
    | .pointer (some a) => some (.pointer (some a))
    | .func (.func f) a b => some (.func (.func f) a b)
    | .func (.yield f) a b => some (.func (.yield f) a b)
    | .iface t v => some (.iface t v)
    | _ => none

def bothNil : Value → Value → Bool
  | .nilIface, .nilIface => true
  | _, _ => false
def isConstO : Operand → Bool
  | .const _ => true
  | _ => false

def stillA (X : Env) (H : Look) (ρ : Operand → Value) : Op → Option Value
  | .move x => some (ρ x)
  | .assign x => some (ρ x)
  | .pick c a b => match ρ c with | .bool t => some (if t then ρ a else ρ b) | _ => none
  | .build t parts => buildA X t (parts.toList.map fun (i, x) => (i, ρ x))
  | .load t a => match ρ a with | .pointer (some a) => loadT X H t a | _ => none
  | .nilCheck x => nilCheckA (ρ x)
  | .binOp op t x y _ => if bothNil (ρ x) (ρ y) && !(isConstO x || isConstO y) then none else binop X H op t (ρ x) (ρ y)
  | .unOp op _ x => unop op (ρ x)
  | .convert s d x => convertA X s d (ρ x)
  | .makeInterface t x => match X.ty t with
    | some i => match i.desc with
      | .interface _ => none
      | _ => some (.iface t (ρ x))
    | none => none
  | .makeFunc fn first captured => match fn with
    | .func f => some (.func (.func f) (first.map ρ) (captured.map ρ))
    | .method m => some (.func (.method m) (first.map ρ) (captured.map ρ))
    | _ => none
  | .slice t x lo hi mx => sliceA X H t (ρ x) (lo.map ρ) (hi.map ρ) (mx.map ρ)
  | .fieldAddr s x f => fieldAddrA X s (ρ x) f
  | .field t x f => fieldA X t (ρ x) f
  | .indexAddr t x i => indexAddrA X t (ρ x) (ρ i)
  | .index t x i => indexA X t (ρ x) (ρ i)
  | .lookup t x k ok => lookupA X H t (ρ x) (ρ k) ok
  | .extract t i => match ρ t with | .tuple vs => vs[i]? | _ => none
  | .entry it => entryA H (ρ it)
  | .typeAssert x _ t ok => typeAssertA X (ρ x) t ok
  | .call c => match c.callee with
    | .builtin .len => match c.argTypes[0]?, c.args[0]? with
      | some t, some x => lenOfA X H t (ρ x)
      | _, _ => none
    | .builtin .min => match c.args.toList.map ρ with
      | v :: rest => minmaxA (fun x y => decide (y < x)) v rest
      | _ => none
    | .builtin .max => match c.args.toList.map ρ with
      | v :: rest => minmaxA (fun x y => decide (y > x)) v rest
      | _ => none
    | _ => none
  | _ => none

/-- What kind an operation is, by its form. -/
inductive Kind where
  | still | alloc | effect
  deriving DecidableEq

def kindOf : Op → Kind
  | .move _ | .assign _ | .pick .. | .build .. | .load .. | .nilCheck _ | .binOp .. | .unOp .. | .convert .. | .makeInterface .. | .makeFunc .. | .slice ..
  | .fieldAddr .. | .field .. | .indexAddr .. | .index .. | .lookup .. | .extract .. | .entry _ | .typeAssert .. => .still
  | .call c => match c.callee with
    | .builtin .len | .builtin .min | .builtin .max => .still
    | _ => .effect
  | .alloc _ | .box .. | .buildSlice .. | .makeMap .. | .makeSlice .. => .alloc
  | _ => .effect

/-- The names whose objects a still operation may look at. -/
def nameOf : Value → List Nat
  | .pointer (some a) => [a.block]
  | .slice (some a) _ _ => [a.block]
  | .map (some r) => [r]
  | _ => []
def readsOf (ρ : Operand → Value) (H : Look) : Op → List Nat
  | .load _ a => nameOf (ρ a)
  | .binOp _ _ x y _ => nameOf (ρ x) ++ nameOf (ρ y)
  | .slice _ x _ _ _ => nameOf (ρ x)
  | .lookup _ x _ _ => nameOf (ρ x)
  | .entry it => nameOf (ρ it) ++ (match ρ it with
    | .pointer (some a) => match H a.block with
      | some (.miter (some m) _ _ _ _) => [m]
      | _ => []
    | _ => [])
  | .call c => match c.args[0]? with
    | some x => nameOf (ρ x)
    | none => []
  | _ => []

/-! ### Operations that make memory -/
def allocA (X : Env) (nm : Nat) (ρ : Operand → Value) : Op → Option (Value × (Nat → AObj))
  | .alloc e => match X.ty e with
    | some { zero := some z, .. } => some (.pointer (some ⟨nm, 0, none⟩), fun v => .cells (PT.ofList z.cells.toList) [] z.cells.size e false false v)
    | _ => none
  | .box e x => some (.pointer (some ⟨nm, 0, none⟩), fun v => .cells (PT.ofList (ρ x).cells.toList) [] (ρ x).cells.size e false false v)
  | .buildSlice t len parts => match X.ty t with
    | some { desc := .slice e, .. } => match X.ty e with
      | some { zero := some z, size := esz, .. } =>
        if len * esz ≤ 2 ^ 24 then
          match Instr.fill (fun i => some (i * esz, esz)) ((Array.range (len * esz)).map (z.cells[· % z.cells.size]!)) (parts.toList.map fun (i, x) => (i, ρ x)) with
          | some cs => some (.slice (some ⟨nm, 0, none⟩) len len, fun v => .cells (PT.ofList cs.toList) [] cs.size e false false v)
          | none => none
        else none
      | _ => none
    | _ => none
  | .makeMap t r => match X.ty t, r.map ρ with
    | some { desc := .map _ _, .. }, none => some (.map (some nm), fun v => .map [] 0 v)
    | some { desc := .map _ _, .. }, some (.int _ _) => some (.map (some nm), fun v => .map [] 0 v)
    | _, _ => none
  | .makeSlice t len cap => match X.ty t, ρ len, ρ cap with
    | some { desc := .slice e, .. }, .int .i64 l, .int .i64 c => match X.ty e with
      | some { zero := some z, size := esz, bytes, .. } =>
        if 0 ≤ l ∧ l ≤ c ∧ c < 2 ^ 40 ∧ bytes * c ≤ 2 ^ 48 ∧ z.cells.size = esz then
          some (.slice (some ⟨nm, 0, none⟩) l.toNat c.toNat, fun v => .cells .nil z.cells.toList (c.toNat * esz) e false false v)
        else none
      | _ => none
    | _, _, _ => none
  | _ => none

/-! ### Operations that change memory -/
/-- The cells of the first n elements of a slice, or of a string. -/
def firstA (H : Look) (size n : Nat) : Value → Option (List Value)
  | .slice (some a) _ _ => if n * size = 0 then some [] else loadN H a (n * size)
  | .slice none _ _ => some []
  | .string s => some ((s.extract 0 n).data.toList.map fun b => .int .u8 b.toNat)
  | _ => none
def lenA : Value → Option Nat
  | .slice _ n _ => some n
  | .string s => some s.size
  | _ => none

def St.kill (s : St) (b : Nat) : St := s.put b fun _ => .dead

/-- What an append that outgrows its slice puts into a new object: cells and their default. -/
def grownCells (c : PT Value) (z : List Value) (m : Nat) (a : Addr) (k : Nat) (new : List Value) : Option (PT Value × List Value) :=
  if k = 0 then some (PT.ofList new, [])
  else match a.spot with
    | some _ => none
    | none =>
      if a.off = 0 then (if k ≤ m then some (c.setL k new, z) else none)
      else match readCells c z m a.off k with
        | some old => some (PT.ofList (old ++ new), [])
        | none => none
def inBlock (a : Addr) (sLen sCap esz m : Nat) : Bool :=
  match a.spot with
  | none => decide (a.off + sCap * esz ≤ m ∧ sLen ≤ sCap)
  | some k => decide (sLen = 0 ∧ sCap = 0 ∧ a.off + k ≤ m)
def appendB (s : St) (e : TypeId) (esz : Nat) (base : Option Addr) (sLen sCap n : Nat) (new : List Value) : Option (Value × St) :=
  if sLen + n ≤ sCap then
    match base with
    | some a => if new.isEmpty then some (.slice base (sLen + n) sCap, s) else match storeN s (a.add (sLen * esz)) new with
      | some s => some (.slice base (sLen + n) sCap, s)
      | none => none
    | none => if n = 0 then some (.slice base (sLen + n) sCap, s) else none
  else match base with
    | none => if sLen = 0 then some (.slice (some ⟨s.next, 0, none⟩) (sLen + n) (sLen + n), s.new fun v => .cells (PT.ofList new) [] ((sLen + n) * esz) e true false v) else none
    | some a => match s.heap.get a.block with
      | some (.cells c z m e0 room false _) =>
        if e0 = e ∧ inBlock a sLen sCap esz m = true then
          match grownCells c z m a (sLen * esz) new with
          | some (c', z') => some (.slice (some ⟨s.next, 0, none⟩) (sLen + n) (sLen + n), (if room then s.kill a.block else s).new fun v => .cells c' z' ((sLen + n) * esz) e true false v)
          | none => none
        else none
      | _ => none
def strOrSlice : TypeDesc → Bool
  | .string | .slice _ => true
  | _ => false
def appendA (X : Env) (s : St) (argTypes : Array TypeId) (args : List Value) : Option (Value × St) :=
  match argTypes.toList, args with
  | [t, t2], [.slice base sLen sCap, x] => match X.ty t, X.ty t2 with
    | some { desc := .slice e, .. }, some i2 => match X.ty e, lenA x with
      | some { zero := some z, size := esz, bytes, .. }, some n => match firstA s.look esz n x with
        | none => none
        | some new =>
          if new.length = n * esz ∧ strOrSlice i2.desc = true ∧ z.cells.size = esz ∧ sLen + n < 2 ^ 40 ∧ (2 * (sLen + n) + 1000) * bytes ≤ 2 ^ 47 ∧ new.all one1 = true then
            appendB s e esz base sLen sCap n new
          else none
      | _, _ => none
    | _, _ => none
  | _, _ => none

def copyA (X : Env) (s : St) (argTypes : Array TypeId) (args : List Value) : Option (Value × St) :=
  match argTypes[0]?, args with
  | some t, [.slice base dLen _, x] => match X.ty t with
    | some { desc := .slice e, .. } => match X.ty e, lenA x with
      | some ei, some m => match firstA s.look ei.size (Nat.min m dLen) x with
        | some cs => match base with
          | some a => if cs.isEmpty then some (goInt (Nat.min m dLen : Nat), s) else match storeN s a cs with
            | some s => some (goInt (Nat.min m dLen : Nat), s)
            | none => none
          | none => some (goInt (Nat.min m dLen : Nat), s)
        | none => none
      | _, _ => none
    | _ => none
  | _, _ => none

def rep {α : Type} (l : List α) : Nat → List α
  | 0 => []
  | n + 1 => l ++ rep l n

def clearA (X : Env) (s : St) (argTypes : Array TypeId) (args : List Value) : Option (Value × St) :=
  match argTypes[0]?, args with
  | some t, [x] => match X.ty t with
    | some i => match x with
      | .map none => some (.tuple #[], s)
      | .slice none _ _ => some (.tuple #[], s)
      | .map (some r) => match s.heap.get r with
        | some (.map _ c _) => some (.tuple #[], s.put r fun v => .map [] c v)
        | _ => none
      | .slice (some a) n _ => if n = 0 then some (.tuple #[], s) else match i.desc with
        | .slice e => match X.ty e with
          | some { zero := some z, .. } => match storeN s a (rep z.cells.toList n) with
            | some s => some (.tuple #[], s)
            | none => none
          | _ => none
        | _ => none
      | _ => none
    | none => none
  | _, _ => none

def deleteA (X : Env) (s : St) (argTypes : Array TypeId) (args : List Value) : Option (Value × St) :=
  match argTypes[0]?, args with
  | some t, [m, k] => match X.ty t with
    | some { desc := .map kt _, .. } => if keyOk X kt k then match m with
      | .map none => some (.tuple #[], s)
      | .map (some r) => match s.heap.get r with
        | some (.map es c _) => match findE k es 0 with
          | some (some (i, _)) => some (.tuple #[], s.put r fun v => .map (es.eraseIdx i) c v)
          | some none => some (.tuple #[], s)
          | none => none
        | _ => none
      | _ => none else none
    | _ => none
  | _, _ => none

def mapPut (X : Env) (s : St) (t : TypeId) (m k v : Value) : Option St :=
  match X.ty t, m with
  | some { desc := .map kt _, .. }, .map (some r) => if keyOk X kt k then match s.heap.get r with
      | some (.map es c _) => match findE k es 0 with
        | some (some (i, _)) => some (s.put r fun ver => .map (es.modify i fun e => { e with key := k, val := v }) c ver)
        | some none => some (s.put r fun ver => .map (es ++ [{ key := k, val := v, born := c }]) (c + 1) ver)
        | none => none
      | _ => none else none
  | _, _ => none

abbrev CallF := FuncId → List Value → St → Res (Value × St)
abbrev RoundF := Nat → List Value → St → Res (Value × St)

def candsA (es : List MapEntry) (since : Nat) (seen : List Nat) : List (Option MapEntry) :=
  let left := es.filter fun e => !seen.contains e.born
  let old := left.filter fun e => decide (e.born < since)
  let new := left.filter fun e => decide (e.born ≥ since)
  (if old.isEmpty then [none] else []) ++ (old ++ new).map some

def pickA (s : St) (r m since : Nat) (seen : List Nat) (clock : Nat) (cands : List (Option MapEntry)) (i : Nat) : Res (Value × St) :=
  match cands[i]? with
  | some (some e) => .ret (.tuple #[.bool true, e.key, e.val], s.put r fun v => .miter (some m) since (e.born :: seen) clock v)
  | some none => .ret (.tuple #[.bool false], s)
  | none => .fail "next: no candidate"

def nextA (s : St) (it : Value) (isString : Bool) : Res (Value × St) :=
  match it with
  | .pointer (some a) => if a.off = 0 ∧ a.spot = none then
    match s.heap.get a.block with
    | some (.siter str pos _) => if isString then
        (if pos < str.size then
          .ret (.tuple #[.bool true, goInt (pos : Nat), .int .i32 (Utf8.decode str pos).1], s.put a.block fun v => .siter str (pos + (Utf8.decode str pos).2) v)
        else .ret (.tuple #[.bool false], s)) else .fail "next"
    | some (.miter none _ _ _ _) => if isString then .fail "next" else .ret (.tuple #[.bool false], s)
    | some (.miter (some m) since seen last _) => if isString then .fail "next" else match mapOf s.look m with
      | some (es, clock) =>
        if !seen.isEmpty && !es.isEmpty && es.all (fun e => decide (e.born ≥ last)) then .fail "next: map all new" else
        if (candsA es since seen).length ≤ 1 then pickA s a.block m since seen clock (candsA es since seen) 0
        else .ask (candsA es since seen).length (pickA s a.block m since seen clock (candsA es since seen))
      | none => .fail "next: no map"
    | _ => .fail "next" else .fail "next"
  | _ => .fail "next: no iterator"

/-- Functions without a Go body that are taken. -/
def externA (s : St) (fn : Func) (args : List Value) : Res (Value × St) :=
  if fn.name = "maps.clone" ∧ fn.origin = "" then
    match args with
    | [.iface t (.map (some r))] => match s.heap.get r with
      | some (.map es c _) => .ret (.iface t (.map (some s.next)), s.new fun v => .map es c v)
      | _ => .fail "maps.clone"
    | _ => .fail "maps.clone"
  else .fail ("no body: " ++ fn.name)

def callV (X : Env) (call : CallF) (round : RoundF) (s : St) (f : Value) (args : List Value) : Res (Value × St) :=
  match f with
  | .func (.func f) first captured => call f (first.toList ++ args ++ captured.toList) s
  | .func (.yield l) first _ => round l (first.toList ++ args) s
  | .func (.method name) first _ => match first.toList ++ args with
    | .iface t v :: rest => match methodA X t v name with
      | some (f, r) => call f (r :: rest) s
      | none => .fail "method value"
    | _ => .fail "method value"
  | _ => .fail "call: value"

def effectA (X : Env) (call : CallF) (round : RoundF) (s : St) (ρ : Operand → Value) (op : Op) : Res (Value × St) :=
  match op with
  | .store t a x => match ρ a with
    | .pointer (some a) => match storeT X s t a (ρ x) with
      | some s => .ret (undef, s)
      | none => .fail "store"
    | _ => .fail "store: no pointer"
  | .mapUpdate t m k x => match mapPut X s t (ρ m) (ρ k) (ρ x) with
    | some s => .ret (undef, s)
    | none => .fail "mapUpdate"
  | .insert t m k x => match mapPut X s t (ρ m) (ρ k) (ρ x) with
    | some s => .ret (undef, s)
    | none => .fail "insert"
  | .range t x => match X.ty t with
    | some i => match i.desc, ρ x with
      | .string, .string str => .ret (.pointer (some ⟨s.next, 0, none⟩), s.new fun v => .siter str 0 v)
      | .map _ _, .map none => .ret (.pointer (some ⟨s.next, 0, none⟩), s.new fun v => .miter none 0 [] 0 v)
      | .map _ _, .map (some m) => match mapOf s.look m with
        | some (_, clock) => .ret (.pointer (some ⟨s.next, 0, none⟩), s.new fun v => .miter (some m) clock [] clock v)
        | none => .fail "range"
      | _, _ => .fail "range"
    | none => .fail "range"
  | .next it str => nextA s (ρ it) str
  | .call c => match c.callee with
    | .value f => callV X call round s (ρ f) (c.args.toList.map ρ)
    | .invoke x name => match ρ x with
      | .iface t v => match methodA X t v name with
        | some (f, r) => call f (r :: c.args.toList.map ρ) s
        | none => .fail ("invoke " ++ name)
      | _ => .fail "invoke: nil"
    | .builtin .append => .ofOption "append" (appendA X s c.argTypes (c.args.toList.map ρ))
    | .builtin .copy => .ofOption "copy" (copyA X s c.argTypes (c.args.toList.map ρ))
    | .builtin .clear => .ofOption "clear" (clearA X s c.argTypes (c.args.toList.map ρ))
    | .builtin .delete => .ofOption "delete" (deleteA X s c.argTypes (c.args.toList.map ρ))
    | .builtin _ => .fail "builtin"
  | _ => .fail "effect: not taken"

def execA (X : Env) (call : CallF) (round : RoundF) (s : St) (ρ : Operand → Value) (op : Op) : Res (Value × St) :=
  match kindOf op with
  | .still => match stillA X s.look ρ op with
    | some v => .ret (v, s)
    | none => .fail "still"
  | .alloc => match allocA X s.next ρ op with
    | some (v, f) => .ret (v, s.new f)
    | none => .fail "alloc"
  | .effect => effectA X call round s ρ op

def yieldedA (ops : Array Oper) (a : ACt) (j : Nat) : Option Bool :=
  match (ops[j]?).bind (·.dst) with
  | some d => match a.getT d with
    | .bool b => some b
    | _ => none
  | none => none

def runOps (X : Env) (call : CallF) (round : RoundF) (ops : Array Oper) : List Oper → ACt → St → Res (ACt × St)
  | [], a, s => .ret (a, s)
  | o :: rest, a, s =>
    if Region.wanted o (yieldedA ops a) then
      (execA X call round s a.eval o.op).bind fun (v, s) => runOps X call round ops rest (a.put o.dst v) s
    else runOps X call round ops rest (a.put o.dst undef) s

/-! ### A region whose order is drawn -/
def mayRead : Op → Bool
  | .load .. | .lookup .. | .entry _ | .slice .. => true
  | .binOp .eql .. | .binOp .neq .. => true
  | .call c => match c.callee with
    | .builtin .len => true
    | _ => false
  | _ => false

/-- What pairs of operations that are not ordered (i < j in the text) ask to be looked at; none: not taken. -/
def confPair (oi oj : Oper) (i j : Nat) : Option (List (Nat × Nat)) :=
  match kindOf oi.op, kindOf oj.op with
  | .still, .effect => some (if mayRead oi.op then [(i, j)] else [])
  | .effect, .still => some (if mayRead oj.op then [(j, i)] else [])
  | .alloc, .still => some (if mayRead oj.op then [(j, i)] else [])
  | .effect, .effect => none
  | .alloc, .effect => none
  | _, _ => some []
def confAt (b : Array Nat) (j : Nat) (oj : Oper) : List Oper → Nat → Option (List (Nat × Nat))
  | [], _ => some []
  | oi :: rest, i =>
    if i < j then
      if (b.getD j 0).testBit i then confAt b j oj rest (i + 1)
      else match confPair oi oj i j, confAt b j oj rest (i + 1) with
        | some l, some m => some (l ++ m)
        | _, _ => none
    else some []
def confFrom (b : Array Nat) (all : List Oper) : List Oper → Nat → Option (List (Nat × Nat))
  | [], _ => some []
  | oj :: rest, j => match confAt b j oj all 0, confFrom b all rest (j + 1) with
    | some l, some m => some (l ++ m)
    | _, _ => none
def conf (ops : Array Oper) : Option (List (Nat × Nat)) := confFrom (Region.before ops) ops.toList ops.toList 0

/-- What is noted of an operation: what it may look at, the state before it, and behind it. -/
structure Note where
  ran : Bool
  reads : List Nat
  pre : St
  post : St

def execN (X : Env) (call : CallF) (round : RoundF) (nm : Nat) (s : St) (ρ : Operand → Value) (op : Op) : Option (Value × St) :=
  match kindOf op with
  | .still => match stillA X s.look ρ op with
    | some v => some (v, s)
    | none => none
  | .alloc => match allocA X nm ρ op with
    | some (v, f) => some (v, s.put nm f)
    | none => none
  | .effect => match effectA X call round s ρ op with
    | .ret r => some r
    | _ => none

def logOps (X : Env) (call : CallF) (round : RoundF) (ops : Array Oper) (base : Nat) : List Oper → Nat → ACt → St → Option (ACt × St × List Note)
  | [], _, a, s => some (a, s, [])
  | o :: rest, i, a, s =>
    if Region.wanted o (yieldedA ops a) then
      match execN X call round (base + 2 * i) s a.eval o.op with
      | some (v, s') => match logOps X call round ops base rest (i + 1) (a.put o.dst v) s' with
        | some (a2, s2, l) => some (a2, s2, { ran := true, reads := readsOf a.eval s.look o.op, pre := s, post := s' } :: l)
        | none => none
      | none => none
    else match logOps X call round ops base rest (i + 1) (a.put o.dst undef) s with
      | some (a2, s2, l) => some (a2, s2, { ran := false, reads := [], pre := s, post := s } :: l)
      | none => none

def sameObj (s s' : St) (b : Nat) : Bool :=
  match s.heap.get b, s'.heap.get b with
  | some o, some o' => !o.isDead && !o'.isDead && o.ver == o'.ver && decide (o.ver < s.clk)
  | _, _ => false

def logOk (log : List Note) (c : List (Nat × Nat)) : Bool :=
  c.all fun (x, j) => match log[x]?, log[j]? with
    | some nx, some nj => !nx.ran || !nj.ran || nx.reads.all fun b => sameObj nj.pre nj.post b
    | _, _ => false

inductive AExit where
  | normal
  | exit (id : Nat)
  | ret
  deriving DecidableEq

def drawnA (X : Env) (call : CallF) (round : RoundF) (ops : Array Oper) (a : ACt) (s : St) : Res (ACt × St) :=
  match conf ops with
  | none => .fail "drawn: not taken"
  | some c => match logOps X call round ops s.next ops.toList 0 a { heap := s.heap, next := s.next + 2 * ops.size, clk := s.clk } with
    | some (a, s, log) => if logOk log c then .ret (a, s) else .fail "drawn: an effect changes what is read"
    | none => .fail "drawn"

/-! ### What is asked of a function's text, once -/
def okOperand (nt : Nat) : Operand → Bool
  | .tmp t => decide (t < nt)
  | .const v => closedV v
  | _ => true
def okOper (nt : Nat) (o : Oper) : Bool :=
  o.op.operands.toList.all (okOperand nt) && (match o.dst with | some d => decide (d < nt) | none => true) &&
  (match o.op with | .defer _ | .go _ | .select .. => false | _ => true)
/-- The temporaries that an operation names. -/
def tmpsOf (ops : Array Oper) (o : Oper) : List Tmp :=
  (o.op.operands.toList.filterMap fun | .tmp t => some t | _ => none) ++
  (match o.guard with
    | some (j, _) => match ops[j]? with
      | some og => match og.dst with | some d => [d] | none => []
      | none => []
    | none => []) ++ o.dst.toList
/-- i < j: the one writes what the other names: then they are ordered. -/
def okPair (ops : Array Oper) (b : Array Nat) (oi oj : Oper) (i j : Nat) : Bool :=
  (b.getD j 0).testBit i ||
  !((match oi.dst with | some d => (tmpsOf ops oj).contains d | none => false) || (match oj.dst with | some d => (tmpsOf ops oi).contains d | none => false))
def okPairsAt (ops : Array Oper) (b : Array Nat) (oj : Oper) (j : Nat) : List Oper → Nat → Bool
  | [], _ => true
  | oi :: rest, i => if i < j then okPair ops b oi oj i j && okPairsAt ops b oj j rest (i + 1) else true
def okPairs (ops : Array Oper) (b : Array Nat) : List Oper → Nat → Bool
  | [], _ => true
  | oj :: rest, j => okPairsAt ops b oj j ops.toList 0 && okPairs ops b rest (j + 1)
/-- The edges point backward; the guard's operation stands before. -/
def okEdges (o : Oper) (j : Nat) : Bool :=
  o.after.toList.all (fun e => !Region.binds .any e || decide (e.on < j)) &&
  (match o.guard with | some (g, _) => decide (g < j) | none => true)
def okEdgesAll : List Oper → Nat → Bool
  | [], _ => true
  | o :: rest, j => okEdges o j && okEdgesAll rest (j + 1)
def okDraw (ops : Array Oper) : Bool := okPairs ops (Region.before ops) ops.toList 0 && okEdgesAll ops.toList 0

def okCode (nt : Nat) : Code → Bool
  | .skip | .label _ | .exit _ | .ret => true
  | .region _ ops draw => ops.toList.all (okOper nt) && (!draw || okDraw ops)
  | .seq a b => okCode nt a && okCode nt b
  | .cond c a b => okOperand nt c && okCode nt a && okCode nt b
  | .block _ b => okCode nt b
  | .loop b => okCode nt b
  | .rangeFunc g ps a b => okOperand nt g && ps.toList.all (fun p => decide (p < nt)) && okCode nt a && okCode nt b
  | .scope _ | .goto _ | .refuse _ => true
def okResults (nt : Nat) (l : List ResultVar) : Bool := l.all fun
  | .tmp t => decide (t < nt)
  | .cell t _ => decide (t < nt)

/-! ### Functions -/
def results1 (X : Env) (H : Look) (a : ACt) : List ResultVar → Option (List Value)
  | [] => some []
  | .tmp t :: rest => match results1 X H a rest with
    | some l => some (a.getT t :: l)
    | none => none
  | .cell t ty :: rest => match a.getT t with
    | .pointer (some ad) => match loadT X H ty ad, results1 X H a rest with
      | some v, some l => some (v :: l)
      | _, _ => none
    | _ => none
def resultsA (X : Env) (H : Look) (f : Func) (a : ACt) : Option Value :=
  match results1 X H a f.results.toList with
  | some [v] => some v
  | some l => some (.tuple l.toArray)
  | none => none

def putArgs : PT Value → List (Tmp × Value) → PT Value
  | t, [] => t
  | t, (i, v) :: rest => putArgs (t.set i v) rest

/-- The record of the loop whose round this is still lies. -/
def liveRound (r : Option Nat) (s : St) : Bool := match r with
  | none => true
  | some l => match s.heap.get l with
    | some (.loop ..) => true
    | _ => false

mutual
def code (X : Env) : Nat → Option Nat → Code → ACt → St → Res (AExit × ACt × St)
  | 0, _, _, _, _ => .fail "fuel"
  | n + 1, r, c, a, s => match c with
    | .skip => .ret (.normal, a, s)
    | .label _ => .ret (.normal, a, s)
    | .region _ ops draw =>
      (if draw then drawnA X (callA X n) (roundA X n) ops a s else runOps X (callA X n) (roundA X n) ops ops.toList a s).bind fun (a, s) => .ret (.normal, a, s)
    | .seq x y => (code X n r x a s).bind fun (e, a, s) => match e with
      | .normal => code X n r y a s
      | e => .ret (e, a, s)
    | .cond c x y => match a.eval c with
      | .bool true => code X n r x a s
      | .bool false => code X n r y a s
      | _ => .fail "cond"
    | .block id b => (code X n r b a s).bind fun (e, a, s) => match e with
      | .exit i => if i = id then .ret (.normal, a, s) else .ret (e, a, s)
      | e => .ret (e, a, s)
    | .loop b => (code X n r b a s).bind fun (e, a, s) => match e with
      | .normal => code X n r (.loop b) a s
      | e => .ret (e, a, s)
    | .exit id => .ret (.exit id, a, s)
    | .ret => .ret (.ret, a, s)
    | .rangeFunc g ps assign body => match a.eval g with
      | .func (.func f) first captured =>
        if liveRound r s then
        (callA X n f (first.toList ++ [.func (.yield s.next) #[] #[]] ++ captured.toList) (s.new fun v => .loop .ready none a.tmps a.nt ps assign body v)).bind fun (_, s') =>
          match s'.heap.get s.next with
          | some (.loop st pend t nt ps as0 bd _) =>
            if st = .busy then .fail "rangeFunc: busy" else
            match pend with
            | none => .ret (.normal, a, s'.put s.next fun v => .loop .exhausted pend t nt ps as0 bd v)
            | some .ret => .ret (.ret, a, s'.put s.next fun v => .loop .exhausted pend t nt ps as0 bd v)
            | some (.exit id) => .ret (.exit id, a, s'.put s.next fun v => .loop .exhausted pend t nt ps as0 bd v)
            | some _ => .fail "rangeFunc: pending"
          | _ => .fail "rangeFunc: record"
        else .fail "rangeFunc: round"
      | _ => .fail "rangeFunc: no function"
    | .scope _ => .fail "scope"
    | .goto _ => .fail "goto"
    | .refuse w => .fail ("refuse " ++ w)
def callA (X : Env) : Nat → FuncId → List Value → St → Res (Value × St)
  | 0, _, _, _ => .fail "fuel"
  | n + 1, f, args, s => match X.fn f with
    | some fn => match fn.body with
      | some c =>
        if args.length ≤ fn.ntmps then
        (code X n none c { tmps := PT.ofList args, nt := fn.ntmps } s).bind fun (e, a, s) => match e with
          | .exit _ => .fail "call: exit"
          | _ => match resultsA X s.look fn a with
            | some v => .ret (v, s)
            | none => .fail "results"
        else .fail "too many arguments"
      | none => externA s fn args
    | none => .fail "no function"
def roundA (X : Env) : Nat → Nat → List Value → St → Res (Value × St)
  | 0, _, _, _ => .fail "fuel"
  | n + 1, l, args, s => match s.heap.get l with
    | some (.loop .ready _ t nt ps assign body _) =>
      if args.length = ps.size then
      (code X n (some l) assign { tmps := putArgs t (ps.toList.zip args), nt } s).bind fun (e, a, s) => match e with
        | .normal => match s.heap.get l with
          | some (.loop .ready pend t nt ps as0 bd _) =>
            (code X n (some l) body a (s.put l fun v => .loop .busy pend t nt ps as0 bd v)).bind fun (e, _, s) => match s.heap.get l with
              | some (.loop _ _ t nt ps as0 bd _) =>
                match e with
                | .normal => .ret (.bool true, s.put l fun v => .loop .ready none t nt ps as0 bd v)
                | .ret => .ret (.bool false, s.put l fun v => .loop .done (some .ret) t nt ps as0 bd v)
                | .exit id => .ret (.bool false, s.put l fun v => .loop .done (some (.exit id)) t nt ps as0 bd v)
              | _ => .fail "round: record"
          | _ => .fail "round: record"
        | _ => .fail "round: assign"
      else .fail "round: arguments"
    | _ => .fail "round: not ready"
end

def okFn (f : Func) : Bool := match f.body with
  | some c => f.name != "runtime.NumGoroutine" && okCode f.ntmps c && okResults f.ntmps f.results.toList
  | none => true
def tyTab (P : Program) : PT (Option Ty) := PT.ofList ((List.range P.types.size).map (mkTy P))
def fnTab (P : Program) : PT (Option Func) := PT.ofList (P.funcs.toList.map fun f => if okFn f then some f else none)
def env (P : Program) : Env := { ty := fun t => match (tyTab P).get t with | some x => x | none => none, fn := fun f => match (fnTab P).get f with | some x => x | none => none }
end Go.Dust
end
end
section
/- The words by which abstract memory and the model's memory are tied, and their plain laws. -/
namespace Go.Dust

namespace PT
variable {α : Type}
theorem get_nil (n : Nat) : (PT.nil : PT α).get n = none := rfl
theorem get_node_zero (v : Option α) (l r : PT α) : (node v l r).get 0 = v := rfl
theorem beq_odd {m : Nat} (h : m % 2 = 0) : Nat.beq (Nat.mod (m + 1) 2) 1 = true := by
  rw [Nat.beq_eq]; show (m + 1) % 2 = 1; omega
theorem beq_even {m : Nat} (h : m % 2 = 1) : Nat.beq (Nat.mod (m + 1) 2) 1 = false := by
  cases hb : Nat.beq (Nat.mod (m + 1) 2) 1 with
  | false => rfl
  | true => rw [Nat.beq_eq] at hb; have : (m + 1) % 2 = 1 := hb; omega
theorem get_node_even (v : Option α) (l r : PT α) (m : Nat) (h : m % 2 = 0) : (node v l r).get (m + 1) = l.get (m / 2) := by
  show (Bool.rec (motive := fun _ => Option α) (r.get (m / 2)) (l.get (m / 2)) (Nat.beq (Nat.mod (m + 1) 2) 1)) = _
  rw [beq_odd h]
theorem get_node_odd (v : Option α) (l r : PT α) (m : Nat) (h : m % 2 = 1) : (node v l r).get (m + 1) = r.get (m / 2) := by
  show (Bool.rec (motive := fun _ => Option α) (r.get (m / 2)) (l.get (m / 2)) (Nat.beq (Nat.mod (m + 1) 2) 1)) = _
  rw [beq_even h]
theorem setF_nil_zero (f : Nat) (a : α) : setF (f + 1) nil 0 a = node (some a) nil nil := rfl
theorem setF_node_zero (f : Nat) (v : Option α) (l r : PT α) (a : α) : setF (f + 1) (node v l r) 0 a = node (some a) l r := rfl
theorem setF_nil_even (f m : Nat) (a : α) (h : m % 2 = 0) : setF (f + 1) nil (m + 1) a = node none (setF f nil (m / 2) a) nil := by
  show (Bool.rec (motive := fun _ => PT α) (node none nil (setF f nil (m / 2) a)) (node none (setF f nil (m / 2) a) nil) (Nat.beq (Nat.mod (m + 1) 2) 1)) = _
  rw [beq_odd h]
theorem setF_nil_odd (f m : Nat) (a : α) (h : m % 2 = 1) : setF (f + 1) nil (m + 1) a = node none nil (setF f nil (m / 2) a) := by
  show (Bool.rec (motive := fun _ => PT α) (node none nil (setF f nil (m / 2) a)) (node none (setF f nil (m / 2) a) nil) (Nat.beq (Nat.mod (m + 1) 2) 1)) = _
  rw [beq_even h]
theorem setF_node_even (f m : Nat) (v : Option α) (l r : PT α) (a : α) (h : m % 2 = 0) : setF (f + 1) (node v l r) (m + 1) a = node v (setF f l (m / 2) a) r := by
  show (Bool.rec (motive := fun _ => PT α) (node v l (setF f r (m / 2) a)) (node v (setF f l (m / 2) a) r) (Nat.beq (Nat.mod (m + 1) 2) 1)) = _
  rw [beq_odd h]
theorem setF_node_odd (f m : Nat) (v : Option α) (l r : PT α) (a : α) (h : m % 2 = 1) : setF (f + 1) (node v l r) (m + 1) a = node v l (setF f r (m / 2) a) := by
  show (Bool.rec (motive := fun _ => PT α) (node v l (setF f r (m / 2) a)) (node v (setF f l (m / 2) a) r) (Nat.beq (Nat.mod (m + 1) 2) 1)) = _
  rw [beq_even h]
theorem get_setF : ∀ (f : Nat) (t : PT α) (n : Nat) (a : α) (m : Nat), n < f → (setF f t n a).get m = if m = n then some a else t.get m := by
  intro f
  induction f with
  | zero => intro t n a m h; omega
  | succ f ih =>
    intro t n a m h
    cases t with
    | nil =>
      cases n with
      | zero =>
        rw [setF_nil_zero]
        cases m with
        | zero => simp [get_node_zero]
        | succ m =>
          rcases Nat.mod_two_eq_zero_or_one m with e | e
          · simp [get_node_even _ _ _ _ e, get_nil]
          · simp [get_node_odd _ _ _ _ e, get_nil]
      | succ n =>
        rcases Nat.mod_two_eq_zero_or_one n with e | e
        · rw [setF_nil_even _ _ _ e]
          cases m with
          | zero => simp [get_node_zero, get_nil]
          | succ m =>
            rcases Nat.mod_two_eq_zero_or_one m with e' | e'
            · rw [get_node_even _ _ _ _ e', ih _ _ _ _ (by omega)]
              simp only [get_nil]
              by_cases hm : m = n
              · subst hm; simp
              · rw [if_neg (by omega), if_neg (by omega)]
            · rw [get_node_odd _ _ _ _ e', get_nil, if_neg (by omega), get_nil]
        · rw [setF_nil_odd _ _ _ e]
          cases m with
          | zero => simp [get_node_zero, get_nil]
          | succ m =>
            rcases Nat.mod_two_eq_zero_or_one m with e' | e'
            · rw [get_node_even _ _ _ _ e', get_nil, if_neg (by omega), get_nil]
            · rw [get_node_odd _ _ _ _ e', ih _ _ _ _ (by omega)]
              simp only [get_nil]
              by_cases hm : m = n
              · subst hm; simp
              · rw [if_neg (by omega), if_neg (by omega)]
    | node v l r =>
      cases n with
      | zero =>
        rw [setF_node_zero]
        cases m with
        | zero => simp [get_node_zero]
        | succ m =>
          rcases Nat.mod_two_eq_zero_or_one m with e | e
          · simp [get_node_even _ _ _ _ e]
          · simp [get_node_odd _ _ _ _ e]
      | succ n =>
        rcases Nat.mod_two_eq_zero_or_one n with e | e
        · rw [setF_node_even _ _ _ _ _ _ e]
          cases m with
          | zero => simp [get_node_zero]
          | succ m =>
            rcases Nat.mod_two_eq_zero_or_one m with e' | e'
            · rw [get_node_even _ _ _ _ e', ih _ _ _ _ (by omega), get_node_even _ _ _ _ e']
              by_cases hm : m = n
              · subst hm; simp
              · rw [if_neg (by omega), if_neg (by omega)]
            · rw [get_node_odd _ _ _ _ e', get_node_odd _ _ _ _ e', if_neg (by omega)]
        · rw [setF_node_odd _ _ _ _ _ _ e]
          cases m with
          | zero => simp [get_node_zero]
          | succ m =>
            rcases Nat.mod_two_eq_zero_or_one m with e' | e'
            · rw [get_node_even _ _ _ _ e', get_node_even _ _ _ _ e', if_neg (by omega)]
            · rw [get_node_odd _ _ _ _ e', ih _ _ _ _ (by omega), get_node_odd _ _ _ _ e']
              by_cases hm : m = n
              · subst hm; simp
              · rw [if_neg (by omega), if_neg (by omega)]
theorem get_set (t : PT α) (n : Nat) (a : α) (m : Nat) : (t.set n a).get m = if m = n then some a else t.get m := get_setF _ _ _ _ _ (Nat.lt_succ_self n)
theorem get_set_same (t : PT α) (n : Nat) (a : α) : (t.set n a).get n = some a := by rw [get_set, if_pos rfl]
theorem get_set_ne (t : PT α) {n m : Nat} (a : α) (h : m ≠ n) : (t.set n a).get m = t.get m := by rw [get_set, if_neg h]
theorem get_setL : ∀ (l : List α) (t : PT α) (n m : Nat), (t.setL n l).get m = if n ≤ m then (match l[m - n]? with | some a => some a | none => t.get m) else t.get m
  | [], t, n, m => by simp [setL]
  | a :: l, t, n, m => by
    rw [setL, get_setL l _ (n + 1) m]
    by_cases h : n + 1 ≤ m
    · obtain ⟨d, hd⟩ : ∃ d, m - n = d + 1 := ⟨m - n - 1, by omega⟩
      rw [if_pos h, if_pos (by omega), hd, show m - (n + 1) = d from by omega, List.getElem?_cons_succ, get_set_ne _ _ (by omega)]
    · rw [if_neg h]
      by_cases h' : n ≤ m
      · have : m = n := by omega
        subst this
        rw [if_pos (Nat.le_refl _), Nat.sub_self, get_set_same]; rfl
      · rw [if_neg h', get_set_ne _ _ (by omega)]
theorem get_ofList (l : List α) (m : Nat) : (ofList l).get m = l[m]? := by
  rw [ofList, get_setL, if_pos (Nat.zero_le _), Nat.sub_zero, get_nil]
  cases l[m]? <;> rfl
end PT

/-! ### Res -/
namespace Res
variable {α β : Type}
theorem All.mono {Φ Ψ : α → Prop} (h : ∀ a, Φ a → Ψ a) : ∀ {x : Res α}, x.All Φ → x.All Ψ
  | fail _, hx => hx
  | ret _, hx => h _ hx
  | ask _ _, hx => fun i hi => All.mono h (hx i hi)
theorem All_bind (f : α → Res β) (Φ : β → Prop) : ∀ (x : Res α), (x.bind f).All Φ ↔ x.All fun a => (f a).All Φ
  | fail _ => Iff.rfl
  | ret _ => Iff.rfl
  | ask _ k => ⟨fun h i hi => (All_bind f Φ (k i)).1 (h i hi), fun h i hi => (All_bind f Φ (k i)).2 (h i hi)⟩
theorem All.and_lv {Φ Ψ : α → Prop} : ∀ {x : Res α}, x.All Φ → x.Lv Ψ → x.All fun a => Φ a ∧ Ψ a
  | fail _, hx, _ => hx
  | ret _, hx, hy => ⟨hx, hy⟩
  | ask _ _, hx, hy => fun i hi => All.and_lv (hx i hi) (hy i hi)
theorem Lv.mono {Φ Ψ : α → Prop} (h : ∀ a, Φ a → Ψ a) : ∀ {x : Res α}, x.Lv Φ → x.Lv Ψ
  | fail _, _ => trivial
  | ret _, hx => h _ hx
  | ask _ _, hx => fun i hi => Lv.mono h (hx i hi)
theorem Lv_bind (f : α → Res β) (Φ : β → Prop) : ∀ (x : Res α), (x.bind f).Lv Φ ↔ x.Lv fun a => (f a).Lv Φ
  | fail _ => Iff.rfl
  | ret _ => Iff.rfl
  | ask _ k => ⟨fun h i hi => (Lv_bind f Φ (k i)).1 (h i hi), fun h i hi => (Lv_bind f Φ (k i)).2 (h i hi)⟩
end Res

/-! ### Values -/
/-- Where a name lies: its block, how far in; by how many elements a slice over it may grow in place; whether it is not ours to write. -/
structure Loc where
  blk : Nat
  off : Nat
  extra : Nat
  ro : Bool
abbrev Inj := Nat → Option Loc
def Inj.le (ι ι' : Inj) : Prop := ∀ b l, ι b = some l → ι' b = some l
theorem Inj.le_refl (ι : Inj) : ι.le ι := fun _ _ h => h
theorem Inj.le_trans {a b c : Inj} (h : a.le b) (k : b.le c) : a.le c := fun n l e => k n l (h n l e)

inductive VR (ι : Inj) : Value → Value → Prop
  | bool (b : Bool) : VR ι (.bool b) (.bool b)
  | int (k : IntKind) (n : Int) : VR ι (.int k n) (.int k n)
  | float (k : FloatKind) (n : Nat) : VR ι (.float k n) (.float k n)
  | string (s : ByteArray) : VR ι (.string s) (.string s)
  | nilptr : VR ι (.pointer none) (.pointer none)
  | ptr {b o : Nat} {l : Loc} (h : ι b = some l) : VR ι (.pointer (some ⟨b, o, none⟩)) (.pointer (some ⟨l.blk, l.off + o, none⟩))
  | nilslice (n c : Nat) : VR ι (.slice none n c) (.slice none n c)
  | slice {b o : Nat} {l : Loc} (n c : Nat) (h : ι b = some l) : VR ι (.slice (some ⟨b, o, none⟩) n c) (.slice (some ⟨l.blk, l.off + o, none⟩) n (c + l.extra))
  | slice0 {b o k : Nat} {l : Loc} (h : ι b = some l) : VR ι (.slice (some ⟨b, o, some k⟩) 0 0) (.slice (some ⟨l.blk, l.off + o + (if l.extra = 0 then 0 else k), none⟩) 0 l.extra)
  | nilmap : VR ι (.map none) (.map none)
  | map {b : Nat} {l : Loc} (h : ι b = some l) : VR ι (.map (some b)) (.map (some l.blk))
  | func {f : FuncId} {a c a' c' : Array Value} (ha : a.size = a'.size) (hc : c.size = c'.size) (hav : ∀ (i : Nat) v u, a[i]? = some v → a'[i]? = some u → VR ι v u)
      (hcv : ∀ (i : Nat) v u, c[i]? = some v → c'[i]? = some u → VR ι v u) : VR ι (.func (.func f) a c) (.func (.func f) a' c')
  | meth {m : String} {a c a' c' : Array Value} (ha : a.size = a'.size) (hc : c.size = c'.size) (hav : ∀ (i : Nat) v u, a[i]? = some v → a'[i]? = some u → VR ι v u)
      (hcv : ∀ (i : Nat) v u, c[i]? = some v → c'[i]? = some u → VR ι v u) : VR ι (.func (.method m) a c) (.func (.method m) a' c')
  | yield {b : Nat} {l : Loc} (h : ι b = some l) : VR ι (.func (.yield b) #[] #[]) (.func (.yield l.blk) #[] #[])
  | nilFunc : VR ι .nilFunc .nilFunc
  | nilIface : VR ι .nilIface .nilIface
  | iface (t : TypeId) {v u : Value} (h : VR ι v u) : VR ι (.iface t v) (.iface t u)
  | agg {a a' : Array Value} (ha : a.size = a'.size) (hav : ∀ (i : Nat) v u, a[i]? = some v → a'[i]? = some u → VR ι v u) : VR ι (.agg a) (.agg a')
  | tuple {a a' : Array Value} (ha : a.size = a'.size) (hav : ∀ (i : Nat) v u, a[i]? = some v → a'[i]? = some u → VR ι v u) : VR ι (.tuple a) (.tuple a')

theorem VR.mono {ι ι' : Inj} (hle : ι.le ι') {v u : Value} (h : VR ι v u) : VR ι' v u := by
  induction h with
  | bool b => exact .bool b
  | int k n => exact .int k n
  | float k n => exact .float k n
  | string s => exact .string s
  | nilptr => exact .nilptr
  | ptr h => exact .ptr (hle _ _ h)
  | nilslice n c => exact .nilslice n c
  | slice n c h => exact .slice n c (hle _ _ h)
  | slice0 h => exact .slice0 (hle _ _ h)
  | nilmap => exact .nilmap
  | map h => exact .map (hle _ _ h)
  | func ha hc _ _ ih1 ih2 => exact .func ha hc ih1 ih2
  | meth ha hc _ _ ih1 ih2 => exact .meth ha hc ih1 ih2
  | yield h => exact .yield (hle _ _ h)
  | nilFunc => exact .nilFunc
  | nilIface => exact .nilIface
  | iface t _ ih => exact .iface t ih
  | agg ha _ ih => exact .agg ha ih
  | tuple ha _ ih => exact .tuple ha ih

/-- Lists of values, place by place. -/
inductive VRs (ι : Inj) : List Value → List Value → Prop
  | nil : VRs ι [] []
  | cons {v u : Value} {l l' : List Value} (h : VR ι v u) (t : VRs ι l l') : VRs ι (v :: l) (u :: l')

theorem VRs.mono {ι ι' : Inj} (hle : ι.le ι') : ∀ {l l' : List Value}, VRs ι l l' → VRs ι' l l'
  | _, _, .nil => .nil
  | _, _, .cons h t => .cons (h.mono hle) (VRs.mono hle t)
theorem VRs.length {ι : Inj} : ∀ {l l' : List Value}, VRs ι l l' → l.length = l'.length
  | _, _, .nil => rfl
  | _, _, .cons _ t => by simp [VRs.length t]
theorem VRs.get {ι : Inj} : ∀ {l l' : List Value} (_ : VRs ι l l') (i : Nat) {v u : Value}, l[i]? = some v → l'[i]? = some u → VR ι v u
  | _, _, .nil, _, _, _, h, _ => by simp at h
  | _, _, .cons h _, 0, _, _, h1, h2 => by simp at h1 h2; subst h1; subst h2; exact h
  | _, _, .cons _ t, i + 1, _, _, h1, h2 => VRs.get t i (by simpa using h1) (by simpa using h2)
theorem VRs.getSome {ι : Inj} : ∀ {l l' : List Value} (_ : VRs ι l l') (i : Nat) {v : Value}, l[i]? = some v → ∃ u, l'[i]? = some u ∧ VR ι v u
  | _, _, .nil, _, _, h => by simp at h
  | _, _, .cons (u := u) h t, 0, _, h1 => ⟨u, by simp, by simp at h1; subst h1; exact h⟩
  | _, _, .cons _ t, i + 1, _, h1 => by
    obtain ⟨u, h2, h3⟩ := VRs.getSome t i (by simpa using h1)
    exact ⟨u, by simpa using h2, h3⟩
theorem VRs.of_get {ι : Inj} : ∀ {l l' : List Value}, l.length = l'.length → (∀ (i : Nat) v u, l[i]? = some v → l'[i]? = some u → VR ι v u) → VRs ι l l'
  | [], [], _, _ => .nil
  | v :: l, u :: l', hl, h => .cons (h 0 v u rfl rfl) (VRs.of_get (by simpa using hl) fun i x y hx hy => h (i + 1) x y (by simpa using hx) (by simpa using hy))
  | [], _ :: _, hl, _ => by simp at hl
  | _ :: _, [], hl, _ => by simp at hl
theorem VRs.append {ι : Inj} : ∀ {a a' b b' : List Value}, VRs ι a a' → VRs ι b b' → VRs ι (a ++ b) (a' ++ b')
  | _, _, _, _, .nil, h => h
  | _, _, _, _, .cons h t, k => .cons h (VRs.append t k)
theorem VRs.nil_left {ι : Inj} {l : List Value} (h : VRs ι [] l) : l = [] := by cases h; rfl
theorem VRs.take {ι : Inj} : ∀ {l l' : List Value} (n : Nat), VRs ι l l' → VRs ι (l.take n) (l'.take n)
  | _, _, 0, _ => by simp; exact .nil
  | _, _, _ + 1, .nil => by simp; exact .nil
  | _, _, n + 1, .cons h t => by simp only [List.take_succ_cons]; exact .cons h (VRs.take n t)
theorem VRs.drop {ι : Inj} : ∀ {l l' : List Value} (n : Nat), VRs ι l l' → VRs ι (l.drop n) (l'.drop n)
  | _, _, 0, h => by simpa using h
  | _, _, _ + 1, .nil => by simp; exact .nil
  | _, _, n + 1, .cons _ t => by simp only [List.drop_succ_cons]; exact VRs.drop n t
theorem VRs.map₂ {ι : Inj} {α : Type} {f g : α → Value} : ∀ (l : List α), (∀ x ∈ l, VR ι (f x) (g x)) → VRs ι (l.map f) (l.map g)
  | [], _ => .nil
  | x :: l, h => .cons (h x (by simp)) (VRs.map₂ l fun y hy => h y (by simp [hy]))
theorem VRs.replicate {ι : Inj} {v u : Value} (h : VR ι v u) : ∀ n, VRs ι (List.replicate n v) (List.replicate n u)
  | 0 => .nil
  | n + 1 => by rw [List.replicate_succ, List.replicate_succ]; exact .cons h (VRs.replicate h n)

/-- Arrays of values, place by place. -/
theorem VRs.of_arrays {ι : Inj} {a a' : Array Value} (ha : a.size = a'.size) (hav : ∀ (i : Nat) v u, a[i]? = some v → a'[i]? = some u → VR ι v u) : VRs ι a.toList a'.toList :=
  .of_get (by simpa using ha) fun i v u h1 h2 => hav i v u (by simpa using h1) (by simpa using h2)
theorem VRs.size {ι : Inj} {a a' : Array Value} (h : VRs ι a.toList a'.toList) : a.size = a'.size := by simpa using h.length
theorem VRs.arr {ι : Inj} {a a' : Array Value} (h : VRs ι a.toList a'.toList) (i : Nat) (v u : Value) (h1 : a[i]? = Option.some v) (h2 : a'[i]? = Option.some u) : VR ι v u :=
  h.get i (by simpa using h1) (by simpa using h2)
theorem VR.agg' {ι : Inj} {a a' : Array Value} (h : VRs ι a.toList a'.toList) : VR ι (.agg a) (.agg a') := .agg h.size h.arr
theorem VR.tuple' {ι : Inj} {a a' : Array Value} (h : VRs ι a.toList a'.toList) : VR ι (.tuple a) (.tuple a') := .tuple h.size h.arr
theorem VR.agg_inv {ι : Inj} {a : Array Value} {u : Value} (h : VR ι (.agg a) u) : ∃ a', u = .agg a' ∧ VRs ι a.toList a'.toList := by
  cases h with | agg ha hav => exact ⟨_, rfl, .of_arrays ha hav⟩
theorem VR.tuple_inv {ι : Inj} {a : Array Value} {u : Value} (h : VR ι (.tuple a) u) : ∃ a', u = .tuple a' ∧ VRs ι a.toList a'.toList := by
  cases h with | tuple ha hav => exact ⟨_, rfl, .of_arrays ha hav⟩
theorem VR.func_inv {ι : Inj} {f : FuncId} {a c : Array Value} {u : Value} (h : VR ι (.func (.func f) a c) u) :
    ∃ a' c', u = .func (.func f) a' c' ∧ VRs ι a.toList a'.toList ∧ VRs ι c.toList c'.toList := by
  cases h with | func ha hc hav hcv => exact ⟨_, _, rfl, .of_arrays ha hav, .of_arrays hc hcv⟩
theorem VR.meth_inv {ι : Inj} {f : String} {a c : Array Value} {u : Value} (h : VR ι (.func (.method f) a c) u) :
    ∃ a' c', u = .func (.method f) a' c' ∧ VRs ι a.toList a'.toList ∧ VRs ι c.toList c'.toList := by
  cases h with | meth ha hc hav hcv => exact ⟨_, _, rfl, .of_arrays ha hav, .of_arrays hc hcv⟩
theorem VR.undef (ι : Inj) : VR ι undef undef := .tuple rfl fun i v u h => by simp at h

/-- Plain values are themselves. -/
theorem VR.int_eq {ι : Inj} {k : IntKind} {n : Int} {u : Value} (h : VR ι (.int k n) u) : u = .int k n := by cases h; rfl
theorem VR.bool_eq {ι : Inj} {b : Bool} {u : Value} (h : VR ι (.bool b) u) : u = .bool b := by cases h; rfl
theorem VR.string_eq {ι : Inj} {s : ByteArray} {u : Value} (h : VR ι (.string s) u) : u = .string s := by cases h; rfl

theorem VR.closed1 {ι : Inj} {v : Value} (h : closed1 v = true) : VR ι v v := by
  unfold Dust.closed1 at h
  split at h <;> first | (exact .bool _) | (exact .int _ _) | (exact .string _) | (exact .nilptr) | (exact .nilslice _ _) | (exact .nilmap) | (exact .nilFunc) | (exact .nilIface) | (exact .float _ _) | cases h
theorem VRs.closed {ι : Inj} : ∀ {l : List Value}, l.all Dust.closed1 = true → VRs ι l l
  | [], _ => .nil
  | v :: l, h => by
    simp only [List.all_cons, Bool.and_eq_true] at h
    exact .cons (.closed1 h.1) (VRs.closed h.2)
theorem VR.closed {ι : Inj} {v : Value} (h : closedV v = true) : VR ι v v := by
  unfold closedV at h
  split at h
  · exact .agg' (.closed h)
  · exact .tuple' (.closed h)
  · exact .closed1 h

theorem VR.cells {ι : Inj} {v u : Value} (h : VR ι v u) : VRs ι v.cells.toList u.cells.toList := by
  cases h with
  | agg ha hav => exact .of_arrays ha hav
  | _ => first | (simp only [Value.cells]; refine .cons ?_ .nil; constructor <;> assumption) | (simp only [Value.cells]; refine .cons ?_ .nil; exact .closed1 rfl)

end Go.Dust
end
section
/- The tie between abstract memory and the model's: what it says, and how it abides what the operations do. -/
namespace Go.Dust
variable {P : Program}

/-- The types' table says what the program says. -/
theorem ty_some {t : TypeId} {i : Ty} (h : (env P).ty t = some i) :
    ∃ inf, P.info? t = some inf ∧ P.underlying t = some i.desc ∧ i.size = inf.size ∧ i.bytes = inf.bytes ∧ i.agg = aggOf i.desc ∧ i.methods = inf.methods ∧
      (∀ z, i.zero = some z → inf.zero = some z ∧ closedV z = true) ∧ (i.cmp = true → P.stoodInHeld t = false ∧ P.eqGuardType P.depth t = false) := by
  have h1 : mkTy P t = some i := by
    have h0 : (match (tyTab P).get t with | some x => x | none => none) = some i := h
    unfold tyTab at h0
    rw [PT.get_ofList] at h0
    simp only [List.getElem?_map] at h0
    by_cases ht : t < P.types.size
    · rw [List.getElem?_range ht] at h0; simpa using h0
    · rw [List.getElem?_eq_none (by simpa using ht)] at h0; simp at h0
  unfold mkTy at h1
  split at h1
  · rename_i inf d hi hd
    cases h1
    refine ⟨inf, hi, hd, rfl, rfl, rfl, rfl, ?_, by simp⟩
    intro z hz
    simp only at hz
    split at hz
    · rename_i z' hz'
      split at hz
      · rename_i hc
        cases hz
        exact ⟨hz', hc⟩
      · cases hz
    · cases hz
  · cases h1
theorem fn_at {f : FuncId} {fn : Func} (h : P.funcs[f]? = some fn) (hok : okFn fn = true) : (env P).fn f = some fn := by
  have h' : P.funcs.toList[f]? = some fn := by rw [Array.getElem?_toList]; exact h
  unfold env fnTab
  simp only [PT.get_ofList, List.getElem?_map, h', Option.map_some, if_pos hok]
theorem fn_some {f : FuncId} {fn : Func} (h : (env P).fn f = some fn) : P.funcs[f]? = some fn ∧ okFn fn = true := by
  have h0 : (match (fnTab P).get f with | some x => x | none => none) = some fn := h
  unfold fnTab at h0
  rw [PT.get_ofList] at h0
  simp only [List.getElem?_map, Array.getElem?_toList] at h0
  cases hf : P.funcs[f]? with
  | none => rw [hf] at h0; simp at h0
  | some g =>
    rw [hf] at h0
    simp only [Option.map_some] at h0
    by_cases hok : okFn g = true
    · rw [if_pos hok] at h0
      cases h0
      exact ⟨rfl, hok⟩
    · rw [if_neg hok] at h0
      cases h0

section typefacts
variable {t : TypeId} {i : Ty} {w : World}
theorem run_underlyingA (h : (env P).ty t = some i) : (underlying t).run P w = .ok i.desc w := by
  obtain ⟨inf, h1, h2, _⟩ := ty_some h
  simp [underlying, h2]
theorem run_sizeOfA (h : (env P).ty t = some i) : (sizeOf t).run P w = .ok i.size w := by
  obtain ⟨inf, h1, h2, h3, _⟩ := ty_some h
  simp [sizeOf, typeInfo, h1, h3]
theorem run_isAggA (h : (env P).ty t = some i) : (isAgg t).run P w = .ok i.agg w := by
  obtain ⟨inf, h1, h2, h3, h4, h5, _⟩ := ty_some h
  rw [h5]
  unfold isAgg
  rw [Sem.run_bind, run_underlyingA h]
  simp only [Result.andThen_ok]
  cases i.desc <;> rfl
theorem run_zeroA (h : (env P).ty t = some i) {z : Value} (hz : i.zero = some z) : (zeroValue t).run P w = .ok z w := by
  obtain ⟨inf, h1, h2, h3, h4, h5, h6, h7⟩ := ty_some h
  simp [zeroValue, typeInfo, h1, (h7.1 z hz).1]
theorem zero_closed (h : (env P).ty t = some i) {z : Value} (hz : i.zero = some z) : closedV z = true := by
  obtain ⟨inf, h1, h2, h3, h4, h5, h6, h7⟩ := ty_some h
  exact (h7.1 z hz).2
theorem run_bytesA (h : (env P).ty t = some i) : ∃ inf, (typeInfo t).run P w = .ok inf w ∧ inf.bytes = i.bytes ∧ inf.methods = i.methods := by
  obtain ⟨inf, h1, h2, h3, h4, h5, h6, _⟩ := ty_some h
  exact ⟨inf, by simp [typeInfo, h1], h4.symm, h6.symm⟩
end typefacts

/-! ### Worlds -/
def World.setBlk (w : World) (b : Nat) (o : Obj) : World := { w with heap := w.heap.setIfInBounds b o }
theorem heap_setBlk {w : World} {b c : Nat} {o : Obj} : (World.setBlk w b o).heap[c]? = if c = b ∧ b < w.heap.size then some o else w.heap[c]? := by
  unfold World.setBlk
  simp only [Array.getElem?_setIfInBounds]
  by_cases h : b = c
  · subst h
    by_cases hb : b < w.heap.size
    · simp [hb]
    · simp [hb]
  · rw [if_neg h, if_neg (by omega)]
theorem heap_setBlk_same {w : World} {b : Nat} {o : Obj} (h : b < w.heap.size) : (World.setBlk w b o).heap[b]? = some o := by rw [heap_setBlk, if_pos ⟨rfl, h⟩]
theorem heap_setBlk_ne {w : World} {b c : Nat} {o : Obj} (h : c ≠ b) : (World.setBlk w b o).heap[c]? = w.heap[c]? := by rw [heap_setBlk, if_neg (by omega)]
@[simp] theorem size_setBlk {w : World} {b : Nat} {o : Obj} : (World.setBlk w b o).heap.size = w.heap.size := by simp [World.setBlk]
theorem setBlk_setBlk {w : World} {b : Nat} {o o' : Obj} : World.setBlk (World.setBlk w b o) b o' = World.setBlk w b o' := by simp [World.setBlk]
theorem setBlk_self {w : World} {b : Nat} {o : Obj} (h : w.heap[b]? = some o) : World.setBlk w b o = w := by
  cases w with
  | mk heap tape drawn os output =>
    simp only [World.setBlk]
    congr 1
    apply Array.ext_getElem?
    intro i
    rw [Array.getElem?_setIfInBounds]
    by_cases e : b = i
    · subst e
      obtain ⟨hlt, _⟩ := Array.getElem?_eq_some_iff.1 h
      rw [if_pos rfl, if_pos hlt]; exact h.symm
    · rw [if_neg e]
theorem lt_of_heap {w : World} {b : Nat} {o : Obj} (h : w.heap[b]? = some o) : b < w.heap.size := (Array.getElem?_eq_some_iff.1 h).1
theorem heap_alloc_old {w : World} {o : Obj} {c : Nat} (h : c < w.heap.size) : (w.alloc o).heap[c]? = w.heap[c]? := by
  show (w.heap.push o)[c]? = _
  rw [Array.getElem?_push, if_neg (by omega)]
theorem heap_alloc_new {w : World} {o : Obj} : (w.alloc o).heap[w.heap.size]? = some o := World.alloc_heap_new w o

/-- Values laid into an array, one after the other. -/
def arrSet (arr : Array Value) (off : Nat) : List Value → Array Value
  | [] => arr
  | v :: vs => arrSet (arr.setIfInBounds off v) (off + 1) vs
@[simp] theorem size_arrSet : ∀ (vs : List Value) (arr : Array Value) (off : Nat), (arrSet arr off vs).size = arr.size
  | [], _, _ => rfl
  | _ :: vs, arr, off => by rw [arrSet, size_arrSet vs]; simp
theorem get_arrSet : ∀ (vs : List Value) (arr : Array Value) (off i : Nat), off + vs.length ≤ arr.size →
    (arrSet arr off vs)[i]? = if off ≤ i then (match vs[i - off]? with | some v => some v | none => arr[i]?) else arr[i]?
  | [], arr, off, i, _ => by simp [arrSet]
  | v :: vs, arr, off, i, h => by
    simp only [List.length_cons] at h
    rw [arrSet, get_arrSet vs _ _ _ (by simp; omega)]
    by_cases h1 : off + 1 ≤ i
    · obtain ⟨d, hd⟩ : ∃ d, i - off = d + 1 := ⟨i - off - 1, by omega⟩
      rw [if_pos h1, if_pos (by omega), hd, show i - (off + 1) = d from by omega, List.getElem?_cons_succ, Array.getElem?_setIfInBounds, if_neg (by omega)]
    · rw [if_neg h1]
      by_cases h2 : off ≤ i
      · have : i = off := by omega
        subst this
        rw [if_pos (Nat.le_refl _), Nat.sub_self, Array.getElem?_setIfInBounds, if_pos rfl, if_pos (by omega)]; rfl
      · rw [if_neg h2, Array.getElem?_setIfInBounds, if_neg (by omega)]

theorem Addr.add_none (b o n : Nat) : (⟨b, o, none⟩ : Addr).add n = ⟨b, o + n, none⟩ := by
  unfold Addr.add
  split
  · rename_i h; subst h; simp
  · rfl
theorem one1_oneCell {v : Value} (h : one1 v = true) : v.oneCell' = true := by
  cases v <;> first | rfl | (simp [one1] at h)
theorem VR.one1 {ι : Inj} {v u : Value} (h : VR ι v u) : one1 v = one1 u := by cases h <;> rfl
theorem VRs.one1 {ι : Inj} : ∀ {l l' : List Value}, VRs ι l l' → l.all Dust.one1 = l'.all Dust.one1
  | _, _, .nil => rfl
  | _, _, .cons h t => by simp [h.one1, t.one1]

theorem run_storeCells : ∀ (vs : List Value) (w : World) (b o i : Nat) (arr : Array Value) (e : TypeId), w.heap[b]? = some (.cells arr e (0, 0)) → vs.all one1 = true →
    o + i + vs.length ≤ arr.size → (storeCells ⟨b, o, none⟩ vs i).run P w = .ok () (World.setBlk w b (.cells (arrSet arr (o + i) vs) e (0, 0)))
  | [], w, b, o, i, arr, e, h, _, _ => by
    simp only [storeCells, arrSet, Sem.run_pure]
    rw [setBlk_self h]
  | v :: vs, w, b, o, i, arr, e, h, h1, h2 => by
    simp only [List.all_cons, Bool.and_eq_true] at h1
    simp only [List.length_cons] at h2
    have hc : w.cell? ⟨b, o + i, none⟩ = some arr[o + i] := by
      simp [World.cell?, h, show o + i < arr.size from by omega]
    have hf : w.frozen? ⟨b, o + i, none⟩ = false := by simp [World.frozen?, h]
    have hset : w.setCell ⟨b, o + i, none⟩ v = World.setBlk w b (.cells (arr.setIfInBounds (o + i) v) e (0, 0)) := by
      unfold World.setCell World.setBlk
      congr 1
      apply Array.ext_getElem?
      intro j
      rw [Array.getElem?_setIfInBounds, Array.getElem?_modify]
      by_cases ej : b = j
      · subst ej
        rw [if_pos rfl, if_pos rfl, if_pos (lt_of_heap h), h]
        simp
      · simp [ej]
    have hst : (Go.store ((⟨b, o, none⟩ : Addr).add i) v).run P w = .ok () (World.setBlk w b (.cells (arr.setIfInBounds (o + i) v) e (0, 0))) := by
      rw [Addr.add_none, ← hset]
      rw [run_store P w _ v _ (one1_oneCell h1.1)]
      simp [hc, hf]
    simp only [storeCells, Sem.run_bind, hst, Result.andThen_ok]
    rw [run_storeCells vs _ b o (i + 1) (arr.setIfInBounds (o + i) v) e (heap_setBlk_same (lt_of_heap h)) h1.2 (by simp; omega), setBlk_setBlk]
    simp only [arrSet, show o + (i + 1) = o + i + 1 from by omega]

theorem run_loadCellsFrom : ∀ (k : Nat) (w : World) (b o i : Nat) (arr : Array Value) (e : TypeId) (fz : Nat × Nat) (acc : Array Value), w.heap[b]? = some (.cells arr e fz) →
    o + i + k ≤ arr.size → (loadCellsFrom ⟨b, o, none⟩ i k acc).run P w = .ok (acc ++ ((arr.toList.drop (o + i)).take k).toArray) w
  | 0, w, b, o, i, arr, e, fz, acc, h, hk => by simp [loadCellsFrom]
  | k + 1, w, b, o, i, arr, e, fz, acc, h, hk => by
    have hc : w.cell? ⟨b, o + i, none⟩ = some arr[o + i] := by
      simp [World.cell?, h, show o + i < arr.size from by omega]
    simp only [loadCellsFrom, Sem.run_bind, Addr.add_none]
    have hl : (load ⟨b, o + i, none⟩).run P w = .ok arr[o + i] w := by simp [load, Sem.run, hc]
    rw [hl]
    simp only [Result.andThen_ok]
    rw [run_loadCellsFrom k w b o (i + 1) arr e fz _ h (by omega)]
    congr 1
    rw [List.drop_eq_getElem_cons (i := o + i) (by simp; omega), List.take_succ_cons]
    apply Array.toList_inj.1
    simp [show o + (i + 1) = o + i + 1 from by omega]
theorem run_loadCells {k : Nat} {w : World} {b o : Nat} {arr : Array Value} {e : TypeId} {fz : Nat × Nat} (h : w.heap[b]? = some (.cells arr e fz)) (hk : k = 0 ∨ o + k ≤ arr.size) :
    (loadCells ⟨b, o, none⟩ k).run P w = .ok ((arr.toList.drop o).take k).toArray w := by
  rcases hk with rfl | hk
  · simp [loadCells, loadCellsFrom]
  have := run_loadCellsFrom (P := P) k w b o 0 arr e fz #[] h (by omega)
  simpa [loadCells] using this

/-! ### Objects -/
structure ER (ι : Inj) (e e' : MapEntry) : Prop where
  key : VR ι e.key e'.key
  val : VR ι e.val e'.val
  born : e.born = e'.born
inductive ERs (ι : Inj) : List MapEntry → List MapEntry → Prop
  | nil : ERs ι [] []
  | cons {e e' : MapEntry} {l l' : List MapEntry} (h : ER ι e e') (t : ERs ι l l') : ERs ι (e :: l) (e' :: l')
theorem ER.mono {ι ι' : Inj} (hle : ι.le ι') {e e' : MapEntry} (h : ER ι e e') : ER ι' e e' := ⟨h.key.mono hle, h.val.mono hle, h.born⟩
theorem ERs.mono {ι ι' : Inj} (hle : ι.le ι') : ∀ {l l' : List MapEntry}, ERs ι l l' → ERs ι' l l'
  | _, _, .nil => .nil
  | _, _, .cons h t => .cons (h.mono hle) (ERs.mono hle t)

def ObjR (X : Env) (ι : Inj) (w : World) (l : Loc) : AObj → Prop
  | .cells c z n e room ro _ => ∃ arr e' fz, w.heap[l.blk]? = some (.cells arr e' fz) ∧ ((ro = false → fz = (0, 0)) ∧ (ro = true → room = true → l.off + n = arr.size)) ∧ l.ro = ro ∧ (room = false → l.extra = 0) ∧
      (∀ ei, X.ty e = some ei → l.off + n + l.extra * ei.size ≤ arr.size) ∧ l.off + n ≤ arr.size ∧
      (∀ i, i < n → ∃ v u, cellAt c z n i = some v ∧ arr[l.off + i]? = some u ∧ VR ι v u)
  | .map es clock _ => l.ro = false ∧ l.off = 0 ∧ l.extra = 0 ∧ ∃ es', w.heap[l.blk]? = some (.map es' clock) ∧ ERs ι es es'.toList
  | .miter m since seen stepped _ => l.ro = false ∧ l.off = 0 ∧ l.extra = 0 ∧ (match m with
      | none => ∃ a b c, w.heap[l.blk]? = some (.mapIter none a b c)
      | some m => ∃ lm, ι m = some lm ∧ w.heap[l.blk]? = some (.mapIter (some lm.blk) since seen.reverse.toArray stepped))
  | .siter s pos _ => l.ro = false ∧ l.off = 0 ∧ l.extra = 0 ∧ w.heap[l.blk]? = some (.stringIter s pos)
  | .loop st pend t nt ps as0 bd _ => l.ro = false ∧ l.off = 0 ∧ l.extra = 0 ∧ okCode nt as0 = true ∧ okCode nt bd = true ∧ ps.toList.all (fun p => decide (p < nt)) = true ∧
      ∃ r : Loop, w.heap[l.blk]? = some (.loop r) ∧ r.state = st ∧ r.pending = pend ∧ r.params = ps ∧ r.assign = as0 ∧ r.body = bd ∧ r.tmps.size = nt ∧
        (∀ i, i < nt → VR ι ((t.get i).getD undef) (r.tmps.getD i undef))
  | .dead => True

theorem ObjR.mono {X : Env} {ι ι' : Inj} {w w' : World} {l : Loc} (hle : ι.le ι') (hw : w'.heap[l.blk]? = w.heap[l.blk]?) : ∀ {o : AObj}, ObjR X ι w l o → ObjR X ι' w' l o
  | .cells .., h => by
    obtain ⟨arr, e', fz, h1, h2, h3, h4, h5, h6, h7⟩ := h
    exact ⟨arr, e', fz, hw.trans h1, h2, h3, h4, h5, h6, fun i hi => let ⟨v, u, a, b, c⟩ := h7 i hi; ⟨v, u, a, b, c.mono hle⟩⟩
  | .map .., h => by
    obtain ⟨h0, h1, h2, es', h3, h4⟩ := h
    exact ⟨h0, h1, h2, es', hw.trans h3, h4.mono hle⟩
  | .miter none .., h => by
    obtain ⟨h0, h1, h2, a, b, c, h3⟩ := h
    exact ⟨h0, h1, h2, a, b, c, hw.trans h3⟩
  | .miter (some m) .., h => by
    obtain ⟨h0, h1, h2, lm, h3, h4⟩ := h
    exact ⟨h0, h1, h2, lm, hle _ _ h3, hw.trans h4⟩
  | .siter .., h => ⟨h.1, h.2.1, h.2.2.1, hw.trans h.2.2.2⟩
  | .loop .., h => by
    obtain ⟨h0, h1, h2, h3, h4, h4', r, h5, h6, h7, h8, h9, h10, h11, h12⟩ := h
    exact ⟨h0, h1, h2, h3, h4, h4', r, hw.trans h5, h6, h7, h8, h9, h10, h11, fun i hi => (h12 i hi).mono hle⟩
  | .dead, _ => trivial

def Own (ι : Inj) (H : Look) (c : Nat) : Prop := ∃ b o l, H b = some o ∧ o.isDead = false ∧ ι b = some l ∧ l.ro = false ∧ l.blk = c

/-- THE TIE. -/
structure R (X : Env) (ι : Inj) (H : Look) (n : Nat) (w : World) : Prop where
  even : ∀ b, ι (2 * b) = some ⟨b, 0, 0, true⟩
  odd : n % 2 = 1
  fresh : ∀ b, n ≤ b → b % 2 = 1 → ι b = none
  inb : ∀ b l, ι b = some l → l.ro = false → l.blk < w.heap.size
  obj : ∀ b o, H b = some o → o.isDead = false → ∃ l, ι b = some l ∧ ObjR X ι w l o
  inj : ∀ b b' o o' l l', H b = some o → o.isDead = false → H b' = some o' → o'.isDead = false → ι b = some l → ι b' = some l' → l.ro = false → l.blk = l'.blk → b = b'

/-- What a run may do: it makes names and memory, and writes what lives and is ours. -/
structure Ext (ι : Inj) (H : Look) (n : Nat) (w : World) (ι' : Inj) (H' : Look) (n' : Nat) (w' : World) : Prop where
  le : ι.le ι'
  new : ∀ b, ι b = none → (b < n ∨ n' ≤ b) → ι' b = none
  nxt : n ≤ n'
  os : w'.os = w.os
  tape : w'.tape = w.tape
  output : w'.output = w.output
  size : w.heap.size ≤ w'.heap.size
  keep : ∀ c, c < w.heap.size → ¬ Own ι H c → w'.heap[c]? = w.heap[c]?
  own : ∀ c, Own ι' H' c → Own ι H c ∨ w.heap.size ≤ c

section
variable {X : Env} {ι ι' ι'' : Inj} {H H' H'' : Look} {n n' n'' : Nat} {w w' w'' : World}
theorem Ext.refl : Ext ι H n w ι H n w := ⟨Inj.le_refl _, fun _ h _ => h, Nat.le_refl _, rfl, rfl, rfl, Nat.le_refl _, fun _ _ _ => rfl, fun _ h => .inl h⟩
theorem Ext.trans (h : Ext ι H n w ι' H' n' w') (k : Ext ι' H' n' w' ι'' H'' n'' w'') : Ext ι H n w ι'' H'' n'' w'' :=
  ⟨Inj.le_trans h.le k.le, fun b hb hn => k.new b (h.new b hb (by have := k.nxt; omega)) (by have := h.nxt; omega), Nat.le_trans h.nxt k.nxt,
   k.os.trans h.os, k.tape.trans h.tape, k.output.trans h.output, Nat.le_trans h.size k.size,
   fun c hc ho => (k.keep c (Nat.lt_of_lt_of_le hc h.size) (fun ho' => (h.own c ho').elim ho (by omega))).trans (h.keep c hc ho),
   fun c ho => (k.own c ho).elim (h.own c) (fun hs => .inr (Nat.le_trans h.size hs))⟩

def upd (H : Look) (b : Nat) (o : AObj) : Look := fun c => if c = b then some o else H c
theorem look_put (s : St) (b : Nat) (f : Nat → AObj) : (s.put b f).look = upd s.look b (f s.clk) := by
  funext c; simp [St.look, St.put, upd, PT.get_set]
theorem look_new (s : St) (f : Nat → AObj) : (s.new f).look = upd s.look s.next (f s.clk) := by
  funext c; simp [St.look, St.new, upd, PT.get_set]

/-- Fewer objects. -/
theorem R.fewer (h : R X ι H n w) (hs : ∀ b o, H' b = some o → o.isDead = false → H b = some o) : R X ι H' n w :=
  ⟨h.even, h.odd, h.fresh, h.inb, fun b o hb hd => h.obj b o (hs b o hb hd) hd,
   fun b b' o o' l l' hb hd hb' hd' => h.inj b b' o o' l l' (hs b o hb hd) hd (hs b' o' hb' hd') hd'⟩

/-- The world only drew. -/
theorem R.drew (h : R X ι H n w) (hh : w'.heap = w.heap) : R X ι H n w' :=
  ⟨h.even, h.odd, h.fresh, fun b l hb hr => hh ▸ h.inb b l hb hr, fun b o hb hd => let ⟨l, h1, h2⟩ := h.obj b o hb hd; ⟨l, h1, h2.mono (Inj.le_refl _) (by rw [hh])⟩, h.inj⟩

/-- An object of ours turned. -/
theorem R.put (h : R X ι H n w) {b : Nat} {o : AObj} {l : Loc} (hb : H b = some o) (hd : o.isDead = false) (hl : ι b = some l) (hro : l.ro = false) (x : Obj) {o' : AObj}
    (ho : ObjR X ι (World.setBlk w l.blk x) l o') : R X ι (upd H b o') n (World.setBlk w l.blk x) := by
  refine ⟨h.even, h.odd, h.fresh, fun b l hb hr => by rw [size_setBlk]; exact h.inb b l hb hr, ?_, ?_⟩
  · intro c oc hc hdc
    unfold upd at hc
    split at hc
    · rename_i e
      subst e
      cases hc
      exact ⟨l, hl, ho⟩
    · rename_i e
      obtain ⟨lc, h1, h2⟩ := h.obj c oc hc hdc
      refine ⟨lc, h1, h2.mono (Inj.le_refl _) (heap_setBlk_ne ?_)⟩
      intro he
      exact e (h.inj b c o oc l lc hb hd hc hdc hl h1 hro he.symm).symm
  · intro c c' oc oc' lc lc' hc hdc hc' hdc' h1 h2 hr he
    have key : ∀ d od, upd H b o' d = some od → od.isDead = false → ∃ od', H d = some od' ∧ od'.isDead = false := by
      intro d od hd1 hd2
      unfold upd at hd1
      split at hd1
      · rename_i e; subst e; exact ⟨o, hb, hd⟩
      · exact ⟨od, hd1, hd2⟩
    obtain ⟨x1, hx1, hx2⟩ := key c oc hc hdc
    obtain ⟨y1, hy1, hy2⟩ := key c' oc' hc' hdc'
    exact h.inj c c' x1 y1 lc lc' hx1 hx2 hy1 hy2 h1 h2 hr he
theorem Ext.put {b : Nat} {o : AObj} {l : Loc} (hb : H b = some o) (hd : o.isDead = false) (hl : ι b = some l) (hro : l.ro = false) (x : Obj) (o' : AObj) :
    Ext ι H n w ι (upd H b o') n (World.setBlk w l.blk x) := by
  refine ⟨Inj.le_refl _, fun _ h _ => h, Nat.le_refl _, rfl, rfl, rfl, by simp, ?_, ?_⟩
  · intro c hc ho
    exact heap_setBlk_ne fun e => ho ⟨b, o, l, hb, hd, hl, hro, e.symm⟩
  · rintro c ⟨d, od, ld, h1, h2, h3, h4, h5⟩
    unfold upd at h1
    split at h1
    · rename_i e
      subst e
      exact .inl ⟨d, o, l, hb, hd, hl, hro, by rw [hl] at h3; cases h3; exact h5⟩
    · exact .inl ⟨d, od, ld, h1, h2, h3, h4, h5⟩

/-- The names, with one more. -/
def Inj.add (ι : Inj) (n : Nat) (l : Loc) : Inj := fun b => if b = n then some l else ι b
theorem Inj.add_same (ι : Inj) (n : Nat) (l : Loc) : ι.add n l n = some l := by simp [Inj.add]
theorem Inj.le_add {l : Loc} (h : ι n = none) : ι.le (ι.add n l) := by
  intro b x hb
  unfold Inj.add
  split
  · rename_i e; subst e; rw [h] at hb; cases hb
  · exact hb

/-- A new object, in a new block, by a name that is free. -/
theorem R.newAt {ex : Nat} (h : R X ι H n w) (nm n' : Nat) (hfree : ι nm = none) (hodd : nm % 2 = 1) (hn : n ≤ n') (hn' : n' % 2 = 1) (hlt : nm < n') (x : Obj) {o' : AObj}
    (ho : ObjR X (ι.add nm ⟨w.heap.size, 0, ex, false⟩) (w.alloc x) ⟨w.heap.size, 0, ex, false⟩ o') :
    R X (ι.add nm ⟨w.heap.size, 0, ex, false⟩) (upd H nm o') n' (w.alloc x) := by
  have hle : ι.le (ι.add nm ⟨w.heap.size, 0, ex, false⟩) := Inj.le_add hfree
  refine ⟨?_, hn', ?_, ?_, ?_, ?_⟩
  · intro b
    unfold Inj.add
    rw [if_neg (by omega)]
    exact h.even b
  · intro b hb hb2
    unfold Inj.add
    rw [if_neg (by omega)]
    exact h.fresh b (by omega) hb2
  · intro b l hb hr
    unfold Inj.add at hb
    split at hb
    · cases hb; simp
    · have := h.inb b l hb hr; simp; omega
  · intro c oc hc hdc
    unfold upd at hc
    split at hc
    · rename_i e
      subst e
      cases hc
      exact ⟨_, Inj.add_same _ _ _, ho⟩
    · obtain ⟨lc, h1, h2⟩ := h.obj c oc hc hdc
      refine ⟨lc, hle _ _ h1, h2.mono hle ?_⟩
      by_cases hlt' : lc.blk < w.heap.size
      · exact heap_alloc_old hlt'
      · -- only what is not ours can lie beyond: nothing lies there
        exfalso
        cases oc with
        | cells => obtain ⟨_, _, _, h3, _⟩ := h2; exact hlt' (lt_of_heap h3)
        | map => obtain ⟨_, _, _, _, h3, _⟩ := h2; exact hlt' (lt_of_heap h3)
        | miter m =>
          cases m with
          | none => obtain ⟨_, _, _, _, _, _, h3⟩ := h2; exact hlt' (lt_of_heap h3)
          | some m => obtain ⟨_, _, _, _, _, h3⟩ := h2; exact hlt' (lt_of_heap h3)
        | siter => exact hlt' (lt_of_heap h2.2.2.2)
        | loop => obtain ⟨_, _, _, _, _, _, _, h3, _⟩ := h2; exact hlt' (lt_of_heap h3)
        | dead => cases hdc
  · have hblk : ∀ d od ld, H d = some od → od.isDead = false → ι d = some ld → ld.blk < w.heap.size := by
      intro d od ld h1 h2 h3
      obtain ⟨l', h4, h5⟩ := h.obj d od h1 h2
      rw [h3] at h4; cases h4
      cases od with
      | cells => obtain ⟨_, _, _, h3, _⟩ := h5; exact lt_of_heap h3
      | map => obtain ⟨_, _, _, _, h3, _⟩ := h5; exact lt_of_heap h3
      | miter m =>
        cases m with
        | none => obtain ⟨_, _, _, _, _, _, h3⟩ := h5; exact lt_of_heap h3
        | some m => obtain ⟨_, _, _, _, _, h3⟩ := h5; exact lt_of_heap h3
      | siter => exact lt_of_heap h5.2.2.2
      | loop => obtain ⟨_, _, _, _, _, _, _, h3, _⟩ := h5; exact lt_of_heap h3
      | dead => cases h2
    intro c c' oc oc' lc lc' hc hdc hc' hdc' h1 h2 hr he
    unfold upd at hc hc'
    unfold Inj.add at h1 h2
    by_cases e1 : c = nm <;> by_cases e2 : c' = nm
    · rw [e1, e2]
    · rw [if_pos e1] at h1
      rw [if_neg e2] at h2 hc'
      cases h1
      have := hblk c' oc' lc' hc' hdc' h2
      simp only at he; omega
    · rw [if_neg e1] at h1 hc
      rw [if_pos e2] at h2
      cases h2
      have := hblk c oc lc hc hdc h1
      simp only at he; omega
    · rw [if_neg e1] at h1 hc
      rw [if_neg e2] at h2 hc'
      exact h.inj c c' oc oc' lc lc' hc hdc hc' hdc' h1 h2 hr he
theorem Ext.newAt {ex : Nat} (nm n' : Nat) (hfree : ι nm = none) (hnm : n ≤ nm) (hn : n ≤ n') (hlt : nm < n') (x : Obj) (o' : AObj) :
    Ext ι H n w (ι.add nm ⟨w.heap.size, 0, ex, false⟩) (upd H nm o') n' (w.alloc x) := by
  refine ⟨Inj.le_add hfree, ?_, hn, rfl, rfl, rfl, by simp, fun c hc _ => heap_alloc_old hc, ?_⟩
  · intro b hb' hb2
    unfold Inj.add
    rw [if_neg (by omega)]
    exact hb'
  · rintro c ⟨d, od, ld, h1, h2, h3, h4, h5⟩
    unfold upd at h1
    unfold Inj.add at h3
    split at h1
    · rename_i e
      rw [if_pos e] at h3
      cases h3
      exact .inr (by simp only at h5; omega)
    · rename_i e
      rw [if_neg e] at h3
      exact .inl ⟨d, od, ld, h1, h2, h3, h4, h5⟩
end
end Go.Dust
end
