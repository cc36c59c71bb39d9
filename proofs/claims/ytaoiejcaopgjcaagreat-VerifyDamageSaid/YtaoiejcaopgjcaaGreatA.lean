/- The plain interpreter D and its laws (Da Db Dc Dd De). -/
import Derived.RangeFuncLeaves
import Derived.OrdersIn
import Derived.RangeFuncOwn
import Derived.Laws.StructEq
set_option linter.unusedVariables false
set_option linter.unusedSimpArgs false
noncomputable section
namespace Go.Dust
inductive PT (α:Type) where
 | nil
 | node (v:Option α) (l r:PT α)
namespace PT
variable {α:Type}
noncomputable def get (t:PT α):Nat→Option α :=
 PT.rec (motive:=fun _=>Nat→Option α) (fun _=>none) (fun v _ _ gl gr n=>Bool.rec (motive:=fun _=>Option α) (Bool.rec (motive:=fun _=>Option α) (gr (Nat.div (Nat.pred n) 2)) (gl (Nat.div (Nat.pred n) 2)) (Nat.beq (Nat.mod n 2) 1)) v (Nat.beq n 0)) t
noncomputable def oP (f:Nat):PT α→Nat→α→PT α :=
 Nat.rec (motive:=fun _=>PT α→Nat→α→PT α) (fun t _ _=>t) (fun _ ih t n a =>
  PT.rec (motive:=fun _=>PT α)
   (Bool.rec (motive:=fun _=>PT α) (Bool.rec (motive:=fun _=>PT α) (.node none .nil (ih .nil (Nat.div (Nat.pred n) 2) a)) (.node none (ih .nil (Nat.div (Nat.pred n) 2) a) .nil) (Nat.beq (Nat.mod n 2) 1)) (.node (some a) .nil .nil) (Nat.beq n 0))
   (fun v l r _ _=>Bool.rec (motive:=fun _=>PT α) (Bool.rec (motive:=fun _=>PT α) (.node v l (ih r (Nat.div (Nat.pred n) 2) a)) (.node v (ih l (Nat.div (Nat.pred n) 2) a) r) (Nat.beq (Nat.mod n 2) 1)) (.node (some a) l r) (Nat.beq n 0)) t) f
noncomputable def set (t:PT α) (n:Nat) (a:α):PT α:=oP (n+1) t n a
def CL (t:PT α) (n:Nat):List α→PT α
 | []=>t
 | a::aJ6=>(t.set n a).CL (n+1) aJ6
def ofList (l:List α):PT α:=PT.nil.CL 0 l
end PT
inductive bN (α:Type) where
 | fail (why:String)
 | ret (a:α)
 | ask (n:Nat) (k:Nat→bN α)
namespace bN
variable {α β:Type}
def bind:bN α→(α→bN β)→bN β
 | fail w,_=>fail w
 | ret a,f=>f a
 | ask n k,f=>ask n fun i=>(k i).bind f
def jD (Φ:α→Prop):bN α→Prop
 | fail _=>False
 | ret a=>Φ a
 | ask n k=>∀ i,i<n→(k i).jD Φ
def Lv (Φ:α→Prop):bN α→Prop
 | fail _=>True
 | ret a=>Φ a
 | ask n k=>∀ i,i<n→(k i).Lv Φ
def ofOption (w:String):Option α→bN α
 | some a=>ret a
 | none=>fail w
end bN
inductive bW where
 | cells (c:PT Value) (z:List Value) (n:Nat) (elem:TypeId) (room ro:Bool) (bB:Nat)
 | map (es:List MapEntry) (clock:Nat) (bB:Nat)
 | hY (m:Option Nat) (since:Nat) (seen:List Nat) (stepped:Nat) (bB:Nat)
 | sW (s:ByteArray) (pos:Nat) (bB:Nat)
 | loop (st:LoopState) (pending:Option Code) (tmps:PT Value) (nt:Nat) (params:Array Tmp) (assign body:Code) (bB:Nat)
 | dead
def bW.bB:bW→Nat
 | cells _ _ _ _ _ _ v | map _ _ v | hY _ _ _ _ v | sW _ _ v | loop _ _ _ _ _ _ _ v=>v
 | dead=>0
def bW.cX:bW→Bool
 | dead=>true
 | _=>false
structure St where
 heap:PT bW
 next:Nat
 aR:Nat
abbrev bL:=Nat→Option bW
def St.look (s:St):bL:=fun b=>s.heap.get b
def St.put (s:St) (b:Nat) (f:Nat→bW):St:={heap:=s.heap.set b (f s.aR),next:=s.next,aR:=s.aR+1}
def St.new (s:St) (f:Nat→bW):St:={heap:=s.heap.set s.next (f s.aR),next:=s.next+2,aR:=s.aR+1}
structure Ty where
 desc:TypeDesc
 size:Nat
 bytes:Nat
 zero:Option Value
 agg:Bool
 methods:Array Method
 cmp:Bool
structure Env where
 ty:Nat→Option Ty
 fn:Nat→Option Func
def zH:Value→Bool
 | .bool _ | .int .. | .string _ | .pointer none | .slice none _ _ | .map none | .nilFunc | .nilIface | .float ..=>true
 | _=>false
def GA:Value→Bool
 | .agg cs=>cs.toList.all zH
 | .tuple cs=>cs.toList.all zH
 | v=>zH v
def vv:TypeDesc→Bool
 | .struct _ | .array _ _=>true
 | _=>false
def qm (P:Program) (t:TypeId):Option Ty :=
 match P.info? t,P.underlying t with
 | some i,some d=>some {desc:=d,size:=i.size,bytes:=i.bytes,zero:=(match i.zero with | some z=>if GA z then some z else none | none=>none),agg:=vv d,methods:=i.methods,cmp:=!P.stoodInHeld t&&!P.eqGuardType P.depth t}
 | _,_=>none
structure aK where
 tmps:PT Value
 nt:Nat
def aK.aB (a:aK) (t:Nat):Value:=(a.tmps.get t).getD undef
def aK.put (a:aK) (d:Option Tmp) (v:Value):aK:=match d with
 | some d=>{tmps:=a.tmps.set d v,nt:=a.nt}
 | none=>a
def aK.eval (a:aK):Operand→Value
 | .tmp t=>a.aB t
 | .const v=>v
 | .global g=>.pointer (some ⟨2*g,0,none⟩)
 | .func f=>.func (.func f) #[] #[]
def cellAt (c:PT Value) (z:List Value) (n i:Nat):Option Value :=
 if i<n then some (match c.get i with | some v=>v | none=>z.getD (i%z.length) undef) else none
def qT (c:PT Value) (z:List Value) (n:Nat):Nat→Nat→Option (List Value)
 | _,0=>some []
 | i,k+1=>match cellAt c z n i with
  | some v=>match qT c z n (i+1) k with
   | some l=>some (v::l)
   | none=>none
  | none=>none
def bI (H:bL) (a:Addr) (k:Nat):Option (List Value) :=
 match a.spot,H a.block with
 | none,some (.cells c z n _ _ _ _)=>qT c z n a.off k
 | _,_=>none
def aG (H:bL) (a:Addr):Option Value :=
 match a.spot,H a.block with
 | none,some (.cells c z n _ _ _ _)=>cellAt c z n a.off
 | _,_=>none
def loadT (X:Env) (H:bL) (t:TypeId) (a:Addr):Option Value :=
 match X.ty t with
 | some i=>if i.agg then(match bI H a i.size with | some l=>some (.agg l.toArray) | none=>none) else aG H a
 | none=>none
def hZ:Value→Bool
 | .agg _ | .tuple _=>false
 | _=>true
def dS (s:St) (a:Addr) (vs:List Value):Option St :=
 match a.spot,s.heap.get a.block with
 | none,some (.cells c z n e r false _) =>
  if a.off+vs.length≤n∧vs.all hZ=true then some (s.put a.block fun v=>.cells (c.CL a.off vs) z n e r false v) else none
 | _,_=>none
def storeT (X:Env) (s:St) (t:TypeId) (a:Addr) (v:Value):Option St :=
 match X.ty t with
 | some i=>if v.cells.size=i.size then dS s a v.cells.toList else none
 | none=>none
def II (X:Env) (t:TypeId) (cs:Array Value) (off:Nat):Option Value :=
 match X.ty t with
 | some i=>if i.agg then(if off+i.size≤cs.size then some (.agg (cs.extract off (off+i.size))) else none) else cs[off]?
 | none=>none
def zt (op:BinOp) (x y:Int):Option Value :=
 match op with
 | .eql=>some (.bool (x==y))
 | .neq=>some (.bool (x != y))
 | .lss=>some (.bool (decide (x<y)))
 | .leq=>some (.bool (decide (x≤y)))
 | .gtr=>some (.bool (decide (x>y)))
 | .geq=>some (.bool (decide (x≥y)))
 | _=>none
def arith (op:BinOp) (k:IntKind) (x y:Int):Option Value :=
 match op with
 | .add=>some (.int k (k.wrap (x+y)))
 | .sub=>some (.int k (k.wrap (x-y)))
 | .mul=>some (.int k (k.wrap (x*y)))
 | .quo=>if y=0 then none else some (.int k (k.wrap (x.tdiv y)))
 | .rem=>if y=0 then none else some (.int k (x.tmod y))
 | .and=>some (.int k (k.wrap ((BitVec.ofInt k.bits x &&& BitVec.ofInt k.bits y).toNat)))
 | .or=>some (.int k (k.wrap ((BitVec.ofInt k.bits x ||| BitVec.ofInt k.bits y).toNat)))
 | .xor=>some (.int k (k.wrap ((BitVec.ofInt k.bits x ^^^ BitVec.ofInt k.bits y).toNat)))
 | .andNot=>some (.int k (k.wrap ((BitVec.ofInt k.bits x &&& ~~~ BitVec.ofInt k.bits y).toNat)))
 | _=>zt op x y
def wJ (op:BinOp) (k:IntKind) (x y:Int):Option Value :=
 if y<0 then none
 else match op with
  | .shl=>some (.int k (k.wrap (x*2 ^ (min y.toNat k.bits))))
  | .shr=>some (.int k (x.fdiv (2 ^ (min y.toNat k.bits))))
  | _=>none
def tl (op:BinOp) (x y:ByteArray):Option Value :=
 match op with
 | .add=>if ((x.size+y.size:Nat):Int)>IntKind.i64.max then none else some (.string (x++y))
 | .eql=>some (.bool (x.toList==y.toList))
 | .neq=>some (.bool (!(x.toList==y.toList)))
 | .lss=>some (.bool (Op.bytesLess x.toList y.toList))
 | .leq=>some (.bool (Op.bytesLess x.toList y.toList||(x.toList==y.toList)))
 | .gtr=>some (.bool (!(Op.bytesLess x.toList y.toList||(x.toList==y.toList))))
 | .geq=>some (.bool (!Op.bytesLess x.toList y.toList))
 | _=>none
def isCells (H:bL) (b:Nat):Bool:=match H b with | some (.cells _ _ _ _ _ false _)=>true | _=>false
def MO:Value→Bool
 | .int .. | .bool _ | .string _ | .agg _=>true
 | _=>false
def eqFields (X:Env) (f:TypeId→Value→Value→Option Bool) (xs ys:Array Value):List Field→Option Bool
 | []=>some true
 | fd::rest =>
  if fd.name= "_" then eqFields X f xs ys rest
  else match II X fd.type xs fd.offset,II X fd.type ys fd.offset with
   | some u,some v=>match f fd.type u v with
    | some true=>eqFields X f xs ys rest
    | some false=>some false
    | none=>none
   | _,_=>none
def jF (X:Env) (H:bL):Nat→TypeId→Value→Value→Option Bool
 | 0,_,_,_=>none
 | d+1,t,x,y =>
  match X.ty t with
  | none=>none
  | some i=>match i.desc,x,y with
   | .bool,.bool a,.bool b=>some (a==b)
   | .int _,.int k a,.int k' b=>if k=k' then some (a==b) else none
   | .string,.string a,.string b=>some (a.toList==b.toList)
   | .pointer _,.pointer none,.pointer b=>some b.isNone
   | .pointer _,.pointer (some _),.pointer none=>some false
   | .pointer e,.pointer (some a),.pointer (some b) =>
    match X.ty e with
    | none=>none
    | some ei =>
     if ei.size=0 then none
     else match a.spot,b.spot with
      | none,none =>
       if a.block=b.block then some (a.off==b.off)
       else if isCells H a.block&&isCells H b.block then some false else none
      | _,_=>none
   | .interface _,.nilIface,.nilIface=>some true
   | .interface _,.nilIface,.iface _ _=>some false
   | .interface _,.iface _ _,.nilIface=>some false
   | .slice _,.slice none _ _,.slice b _ _=>some b.isNone
   | .slice _,.slice (some _) _ _,.slice none _ _=>some false
   | .map _ _,.map none,.map b=>some b.isNone
   | .map _ _,.map (some _),.map none=>some false
   | .func _ _ _,.nilFunc,.nilFunc=>some true
   | .func _ _ _,.nilFunc,.func _ _ _=>some false
   | .func _ _ _,.func _ _ _,.nilFunc=>some false
   | .struct fields,.agg xs,.agg ys=>if i.cmp then eqFields X (fun t x y=>if MO x then jF X H d t x y else none) xs ys fields.toList else none
   | _,_,_=>none
def binop (X:Env) (H:bL) (op:BinOp) (t:TypeId) (x y:Value):Option Value :=
 match x,y with
 | .int k a,.int k' b=>match op with
  | .shl=>wJ op k a b
  | .shr=>wJ op k a b
  | _=>if k=k' then arith op k a b else none
 | .string a,.string b=>tl op a b
 | x,y=>match op with
  | .eql=>match jF X H 10 t x y with
   | some b=>some (.bool b)
   | none=>none
  | .neq=>match jF X H 10 t x y with
   | some b=>some (.bool !b)
   | none=>none
  | _=>none
def unop (op:UnOp) (x:Value):Option Value :=
 match op,x with
 | .neg,.int k n=>some (.int k (k.wrap (0-n)))
 | .not,.bool b=>some (.bool !b)
 | _,_=>none
def xE (X:Env) (src dst:TypeId) (x:Value):Option Value :=
 match X.ty src,X.ty dst with
 | some _,some d=>match d.desc,x with
  | .int k,.int _ n=>some (.int k (k.wrap n))
  | .string,.string s=>some (.string s)
  | _,_=>none
 | _,_=>none
def vZ:Value→Value→Option Bool
 | .int k a,.int k' b=>if k=k' then some (a==b) else none
 | .string a,.string b=>some (a==b)
 | .bool a,.bool b=>some (a==b)
 | _,_=>none
def mE (k:Value):List MapEntry→Nat→Option (Option (Nat×Value))
 | [],_=>some none
 | e::es,i=>match vZ k e.key with
  | some true=>some (some (i,e.val))
  | some false=>mE k es (i+1)
  | none=>none
def BT:TypeDesc→Value→Bool
 | .int j,.int j' _=>decide (j=j')
 | .string,.string _=>true
 | .bool,.bool _=>true
 | _,_=>false
def EG (X:Env) (t:TypeId) (k:Value):Bool :=
 match X.ty t with
 | some i=>BT i.desc k
 | none=>false
def mapOf (H:bL) (r:Nat):Option (List MapEntry×Nat) :=
 match H r with
 | some (.map es c _)=>some (es,c)
 | _=>none
def wF (X:Env) (H:bL) (t:TypeId) (x k:Value) (ok:Bool):Option Value :=
 match X.ty t with
 | some {desc:=.map kt et,..} =>
  match X.ty et with
  | some {zero:=some z,..} =>
   if EG X kt k then
    match x with
    | .map none=>some (if ok then .tuple #[z,.bool false] else z)
    | .map (some r)=>match mapOf H r with
     | some (es,_)=>match mE k es 0 with
      | some (some (_,v))=>some (if ok then .tuple #[v,.bool true] else v)
      | some none=>some (if ok then .tuple #[z,.bool false] else z)
      | none=>none
     | none=>none
    | _=>none
   else none
  | _=>none
 | _=>none
def qO:Option Value→Option (Option Int)
 | none=>some none
 | some (.int _ n)=>some (some n)
 | some _=>none
def qF (len cap:Nat) (lo hi:Option Int):Option (Nat×Nat) :=
 match (match hi with | some h=>if 0≤h∧h≤(cap:Int) then some h.toNat else none | none=>some len) with
 | none=>none
 | some h=>match (match lo with | some l=>if 0≤l∧l≤(h:Int) then some l.toNat else none | none=>some 0) with
  | none=>none
  | some l=>some (l,h)
def mM (X:Env) (H:bL) (t:TypeId) (x:Value) (lo hi mx:Option Value):Option Value :=
 match mx with
 | some _=>none
 | none =>
 match X.ty t,qO lo,qO hi with
 | some i,some lo,some hi=>match i.desc,x with
  | .string,.string s=>match qF s.size s.size lo hi with
   | some (l,h)=>if l≤h then some (.string (s.extract l h)) else none
   | none=>none
  | .slice e,.slice none 0 0=>match qF 0 0 lo hi,X.ty e with
   | some (0,0),some _=>some (.slice none 0 0)
   | _,_=>none
  | .slice e,.slice (some a) len cap=>match a.spot with
   | none=>match qF len cap lo hi,X.ty e,H a.block with
    | some (l,h),some ei,some (.cells _ _ _ _ room _ _) =>
     if l≤h∧h≤cap then
      if cap=l then some (.slice (some (if room then⟨a.block,a.off,some (l*ei.size)⟩ else a)) (h-l) (cap-l))
      else some (.slice (some (a.add (l*ei.size))) (h-l) (cap-l))
     else none
    | _,_,_=>none
   | some _=>none
  | .array n e,.pointer (some a)=>match a.spot with
   | none=>match qF n n lo hi,X.ty e,H a.block with
    | some (l,h),some ei,some (.cells _ _ _ _ false _ _)=>if l≤h then some (.slice (some (if n=l then a else a.add (l*ei.size))) (h-l) (n-l)) else none
    | _,_,_=>none
   | some _=>none
  | _,_=>none
 | _,_,_=>none
def iR (X:Env) (t:TypeId) (parts:List (Nat×Value)):Option Value :=
 match X.ty t with
 | some {desc:=.struct fields,zero:=some z,..} =>
  if fields.toList.all (fun f=>(X.ty f.type).isSome) then
   match Instr.fill ((fields.map fun f=>(f.offset,match X.ty f.type with | some ti=>ti.size | none=>0))[·]?) z.cells parts with
   | some cs=>some (.agg cs)
   | none=>none
  else none
 | some {desc:=.array _ e,zero:=some z,..}=>match X.ty e with
  | some ei=>match Instr.fill (fun i=>some (i*ei.size,ei.size)) z.cells parts with
   | some cs=>some (.agg cs)
   | none=>none
  | none=>none
 | _=>none
def OS (X:Env):List FieldStep→TypeId→Value→Option (TypeId×Value)
 | [],t,x=>some (t,x)
 | st::rest,_,x=>match X.ty st.struct with
  | some {desc:=.struct fields,..}=>match fields[st.index]?,st.deref,x with
   | some f,false,.agg cs=>match II X f.type cs f.offset with
    | some v=>OS X rest f.type v
    | none=>none
   | _,_,_=>none
  | _=>none
def YK (X:Env) (t:TypeId) (v:Value) (name:String):Option (FuncId×Value) :=
 match X.ty t with
 | some i=>match i.methods.find? (·.name==name) with
  | some m=>match OS X m.path.toList t v with
   | some (xt,x)=>match m.func,X.ty xt with
    | some (f,true),some {desc:=.pointer _,..}=>some (f,x)
    | some (_,false),some {desc:=.pointer _,..}=>none
    | some (f,false),some _=>some (f,x)
    | _,_=>none
   | none=>none
  | none=>none
 | none=>none
def PA (want:Array (String×TypeId)) (got:Array Method):Bool :=
 want.toList.all fun(name,sig)=>got.any fun m=>m.name==name&&m.sig==sig
def FK (X:Env) (x:Value) (asserted:TypeId) (ok:Bool):Option Value :=
 match X.ty asserted,x with
 | some {desc:=.interface want,zero:=some z,..},.iface t v=>match X.ty t with
  | some i=>if PA want i.methods then some (if ok then .tuple #[.iface t v,.bool true] else .iface t v)
   else if ok then some (.tuple #[z,.bool false]) else none
  | none=>none
 | some {desc:=.interface _,..},_=>none
 | some _,.iface t v=>if t=asserted then some (if ok then .tuple #[v,.bool true] else v) else none
 | _,_=>none
def oC (less:Int→Int→Bool):Value→List Value→Option Value
 | v,[]=>some v
 | .int k x,.int k' y::rest=>if k=k' then oC less (.int k (if less x y then y else x)) rest else none
 | _,_=>none
def mH (X:Env) (H:bL) (t:TypeId) (x:Value):Option Value :=
 match X.ty t with
 | some i=>match i.desc,x with
  | .string,.string s=>some (goInt s.size)
  | .array n _,_=>some (goInt n)
  | .slice _,.slice _ n _=>some (goInt n)
  | .map _ _,.map none=>some (goInt (0:Nat))
  | .map _ _,.map (some r)=>match mapOf H r with
   | some (es,_)=>some (goInt es.length)
   | none=>none
  | _,_=>none
 | none=>none
def dO (X:Env) (s:TypeId) (x:Value) (f:Nat):Option Value :=
 match X.ty s,x with
  | some {desc:=.struct fields,..},.pointer (some a)=>match fields[f]?,a.spot with
   | some fd,none=>match X.ty fd.type with
    | some ti=>if ti.size=0 then none else some (.pointer (some (a.add fd.offset)))
    | none=>none
   | _,_=>none
  | _,_=>none
def GH (X:Env) (t:TypeId) (x:Value) (f:Nat):Option Value :=
 match X.ty t,x with
  | some {desc:=.struct fields,..},.agg cs=>match fields[f]? with
   | some fd=>II X fd.type cs fd.offset
   | none=>none
  | _,_=>none
def mZ (X:Env) (t:TypeId) (x i:Value):Option Value :=
 match X.ty t,x,i with
  | some {desc:=.slice e,..},.slice (some a) len _,.int _ n=>match X.ty e,a.spot with
   | some ei,none=>if 0≤n∧n<(len:Int) then some (.pointer (some (a.add (n.toNat*ei.size)))) else none
   | _,_=>none
  | some {desc:=.array len e,..},.pointer (some a),.int _ n=>match X.ty e,a.spot with
   | some ei,none=>if 0≤n∧n<(len:Int) then some (.pointer (some (a.add (n.toNat*ei.size)))) else none
   | _,_=>none
  | _,_,_=>none
def HU (X:Env) (t:TypeId) (x i:Value):Option Value :=
 match X.ty t,x,i with
  | some {desc:=.string,..},.string s,.int _ n =>
   if 0≤n then match s[n.toNat]? with
    | some b=>some (.int .u8 b.toNat)
    | none=>none
   else none
  | some {desc:=.array len e,..},.agg cs,.int _ n=>match X.ty e with
   | some ei=>if 0≤n∧n<(len:Int) then II X e cs (n.toNat*ei.size) else none
   | none=>none
  | _,_,_=>none
def vK (H:bL) (it:Value):Option Value :=
 match it with
  | .pointer (some a)=>if a.off=0∧a.spot=none then match H a.block with
   | some (.hY (some m) _ (last::_) stepped _)=>match mapOf H m with
    | some (es,clock)=>if clock=stepped then match es.find? (·.born==last) with
     | some e=>some (.tuple #[e.key,e.val])
     | none=>none else none
    | none=>none
   | _=>none else none
  | _=>none
def IE (x:Value):Option Value :=
 match x with
  | .pointer (some a)=>some (.pointer (some a))
  | .func (.func f) a b=>some (.func (.func f) a b)
  | .func (.yield f) a b=>some (.func (.yield f) a b)
  | .iface t v=>some (.iface t v)
  | _=>none
def vH:Value→Value→Bool
 | .nilIface,.nilIface=>true
 | _,_=>false
def pV:Operand→Bool
 | .const _=>true
 | _=>false
def iO (X:Env) (H:bL) (ρ:Operand→Value):Op→Option Value
 | .move x=>some (ρ x)
 | .assign x=>some (ρ x)
 | .pick c a b=>match ρ c with | .bool t=>some (if t then ρ a else ρ b) | _=>none
 | .build t parts=>iR X t (parts.toList.map fun(i,x)=>(i,ρ x))
 | .load t a=>match ρ a with | .pointer (some a)=>loadT X H t a | _=>none
 | .nilCheck x=>IE (ρ x)
 | .binOp op t x y _=>if vH (ρ x) (ρ y)&&!(pV x||pV y) then none else binop X H op t (ρ x) (ρ y)
 | .unOp op _ x=>unop op (ρ x)
 | .convert s d x=>xE X s d (ρ x)
 | .makeInterface t x=>match X.ty t with
  | some i=>match i.desc with
   | .interface _=>none
   | _=>some (.iface t (ρ x))
  | none=>none
 | .makeFunc fn first captured=>match fn with
  | .func f=>some (.func (.func f) (first.map ρ) (captured.map ρ))
  | .method m=>some (.func (.method m) (first.map ρ) (captured.map ρ))
  | _=>none
 | .slice t x lo hi mx=>mM X H t (ρ x) (lo.map ρ) (hi.map ρ) (mx.map ρ)
 | .fieldAddr s x f=>dO X s (ρ x) f
 | .field t x f=>GH X t (ρ x) f
 | .indexAddr t x i=>mZ X t (ρ x) (ρ i)
 | .index t x i=>HU X t (ρ x) (ρ i)
 | .lookup t x k ok=>wF X H t (ρ x) (ρ k) ok
 | .extract t i=>match ρ t with | .tuple vs=>vs[i]? | _=>none
 | .entry it=>vK H (ρ it)
 | .typeAssert x _ t ok=>FK X (ρ x) t ok
 | .call c=>match c.callee with
  | .builtin .len=>match c.argTypes[0]?,c.args[0]? with
   | some t,some x=>mH X H t (ρ x)
   | _,_=>none
  | .builtin .min=>match c.args.toList.map ρ with
   | v::rest=>oC (fun x y=>decide (y<x)) v rest
   | _=>none
  | .builtin .max=>match c.args.toList.map ρ with
   | v::rest=>oC (fun x y=>decide (y>x)) v rest
   | _=>none
  | _=>none
 | _=>none
inductive Kind where
 | still | alloc | effect
 deriving DecidableEq
def fB:Op→Kind
 | .move _ | .assign _ | .pick .. | .build .. | .load .. | .nilCheck _ | .binOp .. | .unOp .. | .convert .. | .makeInterface .. | .makeFunc .. | .slice ..
 | .fieldAddr .. | .field .. | .indexAddr .. | .index .. | .lookup .. | .extract .. | .entry _ | .typeAssert ..=>.still
 | .call c=>match c.callee with
  | .builtin .len | .builtin .min | .builtin .max=>.still
  | _=>.effect
 | .alloc _ | .box .. | .buildSlice .. | .makeMap .. | .makeSlice ..=>.alloc
 | _=>.effect
def nameOf:Value→List Nat
 | .pointer (some a)=>[a.block]
 | .slice (some a) _ _=>[a.block]
 | .map (some r)=>[r]
 | _=>[]
def gU (ρ:Operand→Value) (H:bL):Op→List Nat
 | .load _ a=>nameOf (ρ a)
 | .binOp _ _ x y _=>nameOf (ρ x)++nameOf (ρ y)
 | .slice _ x _ _ _=>nameOf (ρ x)
 | .lookup _ x _ _=>nameOf (ρ x)
 | .entry it=>nameOf (ρ it)++(match ρ it with
  | .pointer (some a)=>match H a.block with
   | some (.hY (some m) _ _ _ _)=>[m]
   | _=>[]
  | _=>[])
 | .call c=>match c.args[0]? with
  | some x=>nameOf (ρ x)
  | none=>[]
 | _=>[]
def iJ (X:Env) (nm:Nat) (ρ:Operand→Value):Op→Option (Value×(Nat→bW))
 | .alloc e=>match X.ty e with
  | some {zero:=some z,..}=>some (.pointer (some ⟨nm,0,none⟩),fun v=>.cells (PT.ofList z.cells.toList) [] z.cells.size e false false v)
  | _=>none
 | .box e x=>some (.pointer (some ⟨nm,0,none⟩),fun v=>.cells (PT.ofList (ρ x).cells.toList) [] (ρ x).cells.size e false false v)
 | .buildSlice t len parts=>match X.ty t with
  | some {desc:=.slice e,..}=>match X.ty e with
   | some {zero:=some z,size:=esz,..} =>
    if len*esz≤2 ^ 24 then
     match Instr.fill (fun i=>some (i*esz,esz)) ((Array.range (len*esz)).map (z.cells[·%z.cells.size]!)) (parts.toList.map fun(i,x)=>(i,ρ x)) with
     | some cs=>some (.slice (some ⟨nm,0,none⟩) len len,fun v=>.cells (PT.ofList cs.toList) [] cs.size e false false v)
     | none=>none
    else none
   | _=>none
  | _=>none
 | .makeMap t r=>match X.ty t,r.map ρ with
  | some {desc:=.map _ _,..},none=>some (.map (some nm),fun v=>.map [] 0 v)
  | some {desc:=.map _ _,..},some (.int _ _)=>some (.map (some nm),fun v=>.map [] 0 v)
  | _,_=>none
 | .makeSlice t len cap=>match X.ty t,ρ len,ρ cap with
  | some {desc:=.slice e,..},.int .i64 l,.int .i64 c=>match X.ty e with
   | some {zero:=some z,size:=esz,bytes,..} =>
    if 0≤l∧l≤c∧c<2 ^ 40∧bytes*c≤2 ^ 48∧z.cells.size=esz then
     some (.slice (some ⟨nm,0,none⟩) l.toNat c.toNat,fun v=>.cells .nil z.cells.toList (c.toNat*esz) e false false v)
    else none
   | _=>none
  | _,_,_=>none
 | _=>none
def kP (H:bL) (size n:Nat):Value→Option (List Value)
 | .slice (some a) _ _=>if n*size=0 then some [] else bI H a (n*size)
 | .slice none _ _=>some []
 | .string s=>some ((s.extract 0 n).data.toList.map fun b=>.int .u8 b.toNat)
 | _=>none
def wA:Value→Option Nat
 | .slice _ n _=>some n
 | .string s=>some s.size
 | _=>none
def St.kill (s:St) (b:Nat):St:=s.put b fun _=>.dead
def KX (c:PT Value) (z:List Value) (m:Nat) (a:Addr) (k:Nat) (new:List Value):Option (PT Value×List Value) :=
 if k=0 then some (PT.ofList new,[])
 else match a.spot with
  | some _=>none
  | none =>
   if a.off=0 then(if k≤m then some (c.CL k new,z) else none)
   else match qT c z m a.off k with
    | some dE=>some (PT.ofList (dE++new),[])
    | none=>none
def inBlock (a:Addr) (sLen sCap esz m:Nat):Bool :=
 match a.spot with
 | none=>decide (a.off+sCap*esz≤m∧sLen≤sCap)
 | some k=>decide (sLen=0∧sCap=0∧a.off+k≤m)
def sI (s:St) (e:TypeId) (esz:Nat) (base:Option Addr) (sLen sCap n:Nat) (new:List Value):Option (Value×St) :=
 if sLen+n≤sCap then
  match base with
  | some a=>if new.isEmpty then some (.slice base (sLen+n) sCap,s) else match dS s (a.add (sLen*esz)) new with
   | some s=>some (.slice base (sLen+n) sCap,s)
   | none=>none
  | none=>if n=0 then some (.slice base (sLen+n) sCap,s) else none
 else match base with
  | none=>if sLen=0 then some (.slice (some ⟨s.next,0,none⟩) (sLen+n) (sLen+n),s.new fun v=>.cells (PT.ofList new) [] ((sLen+n)*esz) e true false v) else none
  | some a=>match s.heap.get a.block with
   | some (.cells c z m e0 room false _) =>
    if e0=e∧inBlock a sLen sCap esz m=true then
     match KX c z m a (sLen*esz) new with
     | some (c',z')=>some (.slice (some ⟨s.next,0,none⟩) (sLen+n) (sLen+n),(if room then s.kill a.block else s).new fun v=>.cells c' z' ((sLen+n)*esz) e true false v)
     | none=>none
    else none
   | _=>none
def tn:TypeDesc→Bool
 | .string | .slice _=>true
 | _=>false
def oY (X:Env) (s:St) (argTypes:Array TypeId) (args:List Value):Option (Value×St) :=
 match argTypes.toList,args with
 | [t,t2],[.slice base sLen sCap,x]=>match X.ty t,X.ty t2 with
  | some {desc:=.slice e,..},some i2=>match X.ty e,wA x with
   | some {zero:=some z,size:=esz,bytes,..},some n=>match kP s.look esz n x with
    | none=>none
    | some new =>
     if new.length=n*esz∧tn i2.desc=true∧z.cells.size=esz∧sLen+n<2 ^ 40∧(2*(sLen+n)+1000)*bytes≤2 ^ 47∧new.all hZ=true then
      sI s e esz base sLen sCap n new
     else none
   | _,_=>none
  | _,_=>none
 | _,_=>none
def OH (X:Env) (s:St) (argTypes:Array TypeId) (args:List Value):Option (Value×St) :=
 match argTypes[0]?,args with
 | some t,[.slice base dLen _,x]=>match X.ty t with
  | some {desc:=.slice e,..}=>match X.ty e,wA x with
   | some ei,some m=>match kP s.look ei.size (Nat.min m dLen) x with
    | some cs=>match base with
     | some a=>if cs.isEmpty then some (goInt (Nat.min m dLen:Nat),s) else match dS s a cs with
      | some s=>some (goInt (Nat.min m dLen:Nat),s)
      | none=>none
     | none=>some (goInt (Nat.min m dLen:Nat),s)
    | none=>none
   | _,_=>none
  | _=>none
 | _,_=>none
def rep {α:Type} (l:List α):Nat→List α
 | 0=>[]
 | n+1=>l++rep l n
def zG (X:Env) (s:St) (argTypes:Array TypeId) (args:List Value):Option (Value×St) :=
 match argTypes[0]?,args with
 | some t,[x]=>match X.ty t with
  | some i=>match x with
   | .map none=>some (.tuple #[],s)
   | .slice none _ _=>some (.tuple #[],s)
   | .map (some r)=>match s.heap.get r with
    | some (.map _ c _)=>some (.tuple #[],s.put r fun v=>.map [] c v)
    | _=>none
   | .slice (some a) n _=>if n=0 then some (.tuple #[],s) else match i.desc with
    | .slice e=>match X.ty e with
     | some {zero:=some z,..}=>match dS s a (rep z.cells.toList n) with
      | some s=>some (.tuple #[],s)
      | none=>none
     | _=>none
    | _=>none
   | _=>none
  | none=>none
 | _,_=>none
def zJ (X:Env) (s:St) (argTypes:Array TypeId) (args:List Value):Option (Value×St) :=
 match argTypes[0]?,args with
 | some t,[m,k]=>match X.ty t with
  | some {desc:=.map kt _,..}=>if EG X kt k then match m with
   | .map none=>some (.tuple #[],s)
   | .map (some r)=>match s.heap.get r with
    | some (.map es c _)=>match mE k es 0 with
     | some (some (i,_))=>some (.tuple #[],s.put r fun v=>.map (es.eraseIdx i) c v)
     | some none=>some (.tuple #[],s)
     | none=>none
    | _=>none
   | _=>none else none
  | _=>none
 | _,_=>none
def mJ (X:Env) (s:St) (t:TypeId) (m k v:Value):Option St :=
 match X.ty t,m with
 | some {desc:=.map kt _,..},.map (some r)=>if EG X kt k then match s.heap.get r with
   | some (.map es c _)=>match mE k es 0 with
    | some (some (i,_))=>some (s.put r fun bB=>.map (es.modify i fun e=>{e with key:=k,val:=v}) c bB)
    | some none=>some (s.put r fun bB=>.map (es++[{key:=k,val:=v,born:=c}]) (c+1) bB)
    | none=>none
   | _=>none else none
 | _,_=>none
abbrev gS:=FuncId→List Value→St→bN (Value×St)
abbrev gW:=Nat→List Value→St→bN (Value×St)
def nZ (es:List MapEntry) (since:Nat) (seen:List Nat):List (Option MapEntry) :=
 let left:=es.filter fun e=>!seen.contains e.born
 let dE:=left.filter fun e=>decide (e.born<since)
 let new:=left.filter fun e=>decide (e.born≥since)
 (if dE.isEmpty then [none] else [])++(dE++new).map some
def EO (s:St) (r m since:Nat) (seen:List Nat) (clock:Nat) (cands:List (Option MapEntry)) (i:Nat):bN (Value×St) :=
 match cands[i]? with
 | some (some e)=>.ret (.tuple #[.bool true,e.key,e.val],s.put r fun v=>.hY (some m) since (e.born::seen) clock v)
 | some none=>.ret (.tuple #[.bool false],s)
 | none=>.fail "next: no candidate"
def ID (s:St) (it:Value) (isString:Bool):bN (Value×St) :=
 match it with
 | .pointer (some a)=>if a.off=0∧a.spot=none then
  match s.heap.get a.block with
  | some (.sW str pos _)=>if isString then
    (if pos<str.size then
     .ret (.tuple #[.bool true,goInt (pos:Nat),.int .i32 (Utf8.decode str pos).1],s.put a.block fun v=>.sW str (pos+(Utf8.decode str pos).2) v)
    else .ret (.tuple #[.bool false],s)) else .fail "next"
  | some (.hY none _ _ _ _)=>if isString then .fail "next" else .ret (.tuple #[.bool false],s)
  | some (.hY (some m) since seen last _)=>if isString then .fail "next" else match mapOf s.look m with
   | some (es,clock) =>
    if !seen.isEmpty&&!es.isEmpty&&es.all (fun e=>decide (e.born≥last)) then .fail "next: map all new" else
    if (nZ es since seen).length≤1 then EO s a.block m since seen clock (nZ es since seen) 0
    else .ask (nZ es since seen).length (EO s a.block m since seen clock (nZ es since seen))
   | none=>.fail "next: no map"
  | _=>.fail "next" else .fail "next"
 | _=>.fail "next: no iterator"
def xI (s:St) (fn:Func) (args:List Value):bN (Value×St) :=
 if fn.name= "maps.clone"∧fn.origin= "" then
  match args with
  | [.iface t (.map (some r))]=>match s.heap.get r with
   | some (.map es c _)=>.ret (.iface t (.map (some s.next)),s.new fun v=>.map es c v)
   | _=>.fail "maps.clone"
  | _=>.fail "maps.clone"
 else .fail ("no body: "++fn.name)
def rI (X:Env) (call:gS) (round:gW) (s:St) (f:Value) (args:List Value):bN (Value×St) :=
 match f with
 | .func (.func f) first captured=>call f (first.toList++args++captured.toList) s
 | .func (.yield l) first _=>round l (first.toList++args) s
 | .func (.method name) first _=>match first.toList++args with
  | .iface t v::rest=>match YK X t v name with
   | some (f,r)=>call f (r::rest) s
   | none=>.fail "method value"
  | _=>.fail "method value"
 | _=>.fail "call: value"
def gI (X:Env) (call:gS) (round:gW) (s:St) (ρ:Operand→Value) (op:Op):bN (Value×St) :=
 match op with
 | .store t a x=>match ρ a with
  | .pointer (some a)=>match storeT X s t a (ρ x) with
   | some s=>.ret (undef,s)
   | none=>.fail "store"
  | _=>.fail "store: no pointer"
 | .mapUpdate t m k x=>match mJ X s t (ρ m) (ρ k) (ρ x) with
  | some s=>.ret (undef,s)
  | none=>.fail "mapUpdate"
 | .insert t m k x=>match mJ X s t (ρ m) (ρ k) (ρ x) with
  | some s=>.ret (undef,s)
  | none=>.fail "insert"
 | .range t x=>match X.ty t with
  | some i=>match i.desc,ρ x with
   | .string,.string str=>.ret (.pointer (some ⟨s.next,0,none⟩),s.new fun v=>.sW str 0 v)
   | .map _ _,.map none=>.ret (.pointer (some ⟨s.next,0,none⟩),s.new fun v=>.hY none 0 [] 0 v)
   | .map _ _,.map (some m)=>match mapOf s.look m with
    | some (_,clock)=>.ret (.pointer (some ⟨s.next,0,none⟩),s.new fun v=>.hY (some m) clock [] clock v)
    | none=>.fail "range"
   | _,_=>.fail "range"
  | none=>.fail "range"
 | .next it str=>ID s (ρ it) str
 | .call c=>match c.callee with
  | .value f=>rI X call round s (ρ f) (c.args.toList.map ρ)
  | .invoke x name=>match ρ x with
   | .iface t v=>match YK X t v name with
    | some (f,r)=>call f (r::c.args.toList.map ρ) s
    | none=>.fail ("invoke "++name)
   | _=>.fail "invoke: nil"
  | .builtin .append=>.ofOption "append" (oY X s c.argTypes (c.args.toList.map ρ))
  | .builtin .copy=>.ofOption "copy" (OH X s c.argTypes (c.args.toList.map ρ))
  | .builtin .clear=>.ofOption "clear" (zG X s c.argTypes (c.args.toList.map ρ))
  | .builtin .delete=>.ofOption "delete" (zJ X s c.argTypes (c.args.toList.map ρ))
  | .builtin _=>.fail "builtin"
 | _=>.fail "effect: not taken"
def nK (X:Env) (call:gS) (round:gW) (s:St) (ρ:Operand→Value) (op:Op):bN (Value×St) :=
 match fB op with
 | .still=>match iO X s.look ρ op with
  | some v=>.ret (v,s)
  | none=>.fail "still"
 | .alloc=>match iJ X s.next ρ op with
  | some (v,f)=>.ret (v,s.new f)
  | none=>.fail "alloc"
 | .effect=>gI X call round s ρ op
def aO (ops:Array Oper) (a:aK) (j:Nat):Option Bool :=
 match (ops[j]?).bind (·.dst) with
 | some d=>match a.aB d with
  | .bool b=>some b
  | _=>none
 | none=>none
def iM (X:Env) (call:gS) (round:gW) (ops:Array Oper):List Oper→aK→St→bN (aK×St)
 | [],a,s=>.ret (a,s)
 | o::rest,a,s =>
  if Region.wanted o (aO ops a) then
   (nK X call round s a.eval o.op).bind fun(v,s)=>iM X call round ops rest (a.put o.dst v) s
  else iM X call round ops rest (a.put o.dst undef) s
def MF:Op→Bool
 | .load .. | .lookup .. | .entry _ | .slice ..=>true
 | .binOp .eql .. | .binOp .neq ..=>true
 | .call c=>match c.callee with
  | .builtin .len=>true
  | _=>false
 | _=>false
def zI (oi oj:Oper) (i j:Nat):Option (List (Nat×Nat)) :=
 match fB oi.op,fB oj.op with
 | .still,.effect=>some (if MF oi.op then [(i,j)] else [])
 | .effect,.still=>some (if MF oj.op then [(j,i)] else [])
 | .alloc,.still=>some (if MF oj.op then [(j,i)] else [])
 | .effect,.effect=>none
 | .alloc,.effect=>none
 | _,_=>some []
def OG (b:Array Nat) (j:Nat) (oj:Oper):List Oper→Nat→Option (List (Nat×Nat))
 | [],_=>some []
 | oi::rest,i =>
  if i<j then
   if (b.getD j 0).testBit i then OG b j oj rest (i+1)
   else match zI oi oj i j,OG b j oj rest (i+1) with
    | some l,some m=>some (l++m)
    | _,_=>none
  else some []
def UQ (b:Array Nat) (all:List Oper):List Oper→Nat→Option (List (Nat×Nat))
 | [],_=>some []
 | oj::rest,j=>match OG b j oj all 0,UQ b all rest (j+1) with
  | some l,some m=>some (l++m)
  | _,_=>none
def xD (ops:Array Oper):Option (List (Nat×Nat)):=UQ (Region.before ops) ops.toList ops.toList 0
structure oX where
 mL:Bool
 reads:List Nat
 pre:St
 post:St
def nL (X:Env) (call:gS) (round:gW) (nm:Nat) (s:St) (ρ:Operand→Value) (op:Op):Option (Value×St) :=
 match fB op with
 | .still=>match iO X s.look ρ op with
  | some v=>some (v,s)
  | none=>none
 | .alloc=>match iJ X nm ρ op with
  | some (v,f)=>some (v,s.put nm f)
  | none=>none
 | .effect=>match gI X call round s ρ op with
  | .ret r=>some r
  | _=>none
def gJ (X:Env) (call:gS) (round:gW) (ops:Array Oper) (base:Nat):List Oper→Nat→aK→St→Option (aK×St×List oX)
 | [],_,a,s=>some (a,s,[])
 | o::rest,i,a,s =>
  if Region.wanted o (aO ops a) then
   match nL X call round (base+2*i) s a.eval o.op with
   | some (v,s')=>match gJ X call round ops base rest (i+1) (a.put o.dst v) s' with
    | some (a2,s2,l)=>some (a2,s2,{mL:=true,reads:=gU a.eval s.look o.op,pre:=s,post:=s'}::l)
    | none=>none
   | none=>none
  else match gJ X call round ops base rest (i+1) (a.put o.dst undef) s with
   | some (a2,s2,l)=>some (a2,s2,{mL:=false,reads:=[],pre:=s,post:=s}::l)
   | none=>none
def fJ (s s':St) (b:Nat):Bool :=
 match s.heap.get b,s'.heap.get b with
 | some o,some o'=>!o.cX&&!o'.cX&&o.bB==o'.bB&&decide (o.bB<s.aR)
 | _,_=>false
def Iy (log:List oX) (c:List (Nat×Nat)):Bool :=
 c.all fun(x,j)=>match log[x]?,log[j]? with
  | some nx,some nj=>!nx.mL||!nj.mL||nx.reads.all fun b=>fJ nj.pre nj.post b
  | _,_=>false
inductive dU where
 | normal
 | exit (id:Nat)
 | ret
 deriving DecidableEq
def zK (X:Env) (call:gS) (round:gW) (ops:Array Oper) (a:aK) (s:St):bN (aK×St) :=
 match xD ops with
 | none=>.fail "drawn: not taken"
 | some c=>match gJ X call round ops s.next ops.toList 0 a {heap:=s.heap,next:=s.next+2*ops.size,aR:=s.aR} with
  | some (a,s,log)=>if Iy log c then .ret (a,s) else .fail "drawn: an effect changes what is read"
  | none=>.fail "drawn"
def IH (nt:Nat):Operand→Bool
 | .tmp t=>decide (t<nt)
 | .const v=>GA v
 | _=>true
def rX (nt:Nat) (o:Oper):Bool :=
 o.op.operands.toList.all (IH nt)&&(match o.dst with | some d=>decide (d<nt) | none=>true) &&
 (match o.op with | .defer _ | .go _ | .select ..=>false | _=>true)
def tmpsOf (ops:Array Oper) (o:Oper):List Tmp :=
 (o.op.operands.toList.filterMap fun | .tmp t=>some t | _=>none) ++
 (match o.guard with
  | some (j,_)=>match ops[j]? with
   | some og=>match og.dst with | some d=>[d] | none=>[]
   | none=>[]
  | none=>[])++o.dst.toList
def ZI (ops:Array Oper) (b:Array Nat) (oi oj:Oper) (i j:Nat):Bool :=
 (b.getD j 0).testBit i ||
 !((match oi.dst with | some d=>(tmpsOf ops oj).contains d | none=>false)||(match oj.dst with | some d=>(tmpsOf ops oi).contains d | none=>false))
def ZK (ops:Array Oper) (b:Array Nat) (oj:Oper) (j:Nat):List Oper→Nat→Bool
 | [],_=>true
 | oi::rest,i=>if i<j then ZI ops b oi oj i j&&ZK ops b oj j rest (i+1) else true
def ZJ (ops:Array Oper) (b:Array Nat):List Oper→Nat→Bool
 | [],_=>true
 | oj::rest,j=>ZK ops b oj j ops.toList 0&&ZJ ops b rest (j+1)
def Lo (o:Oper) (j:Nat):Bool :=
 o.after.toList.all (fun e=>!Region.binds .any e||decide (e.on<j)) &&
 (match o.guard with | some (g,_)=>decide (g<j) | none=>true)
def ZF:List Oper→Nat→Bool
 | [],_=>true
 | o::rest,j=>Lo o j&&ZF rest (j+1)
def ML (ops:Array Oper):Bool:=ZJ ops (Region.before ops) ops.toList 0&&ZF ops.toList 0
def oD (nt:Nat):Code→Bool
 | .skip | .label _ | .exit _ | .ret=>true
 | .region _ ops draw=>ops.toList.all (rX nt)&&(!draw||ML ops)
 | .seq a b=>oD nt a&&oD nt b
 | .cond c a b=>IH nt c&&oD nt a&&oD nt b
 | .block _ b=>oD nt b
 | .loop b=>oD nt b
 | .rangeFunc g ps a b=>IH nt g&&ps.toList.all (fun p=>decide (p<nt))&&oD nt a&&oD nt b
 | .scope _ | .goto _ | .refuse _=>true
def RM (nt:Nat) (l:List ResultVar):Bool:=l.all fun
 | .tmp t=>decide (t<nt)
 | .cell t _=>decide (t<nt)
def results1 (X:Env) (H:bL) (a:aK):List ResultVar→Option (List Value)
 | []=>some []
 | .tmp t::rest=>match results1 X H a rest with
  | some l=>some (a.aB t::l)
  | none=>none
 | .cell t ty::rest=>match a.aB t with
  | .pointer (some ad)=>match loadT X H ty ad,results1 X H a rest with
   | some v,some l=>some (v::l)
   | _,_=>none
  | _=>none
def IQ (X:Env) (H:bL) (f:Func) (a:aK):Option Value :=
 match results1 X H a f.results.toList with
 | some [v]=>some v
 | some l=>some (.tuple l.toArray)
 | none=>none
def yA:PT Value→List (Tmp×Value)→PT Value
 | t,[]=>t
 | t,(i,v)::rest=>yA (t.set i v) rest
def QO (r:Option Nat) (s:St):Bool:=match r with
 | none=>true
 | some l=>match s.heap.get l with
  | some (.loop ..)=>true
  | _=>false
mutual
def code (X:Env):Nat→Option Nat→Code→aK→St→bN (dU×aK×St)
 | 0,_,_,_,_=>.fail "fuel"
 | n+1,r,c,a,s=>match c with
  | .skip=>.ret (.normal,a,s)
  | .label _=>.ret (.normal,a,s)
  | .region _ ops draw =>
   (if draw then zK X (ff X n) (Nu X n) ops a s else iM X (ff X n) (Nu X n) ops ops.toList a s).bind fun(a,s)=>.ret (.normal,a,s)
  | .seq x y=>(code X n r x a s).bind fun(e,a,s)=>match e with
   | .normal=>code X n r y a s
   | e=>.ret (e,a,s)
  | .cond c x y=>match a.eval c with
   | .bool true=>code X n r x a s
   | .bool false=>code X n r y a s
   | _=>.fail "cond"
  | .block id b=>(code X n r b a s).bind fun(e,a,s)=>match e with
   | .exit i=>if i=id then .ret (.normal,a,s) else .ret (e,a,s)
   | e=>.ret (e,a,s)
  | .loop b=>(code X n r b a s).bind fun(e,a,s)=>match e with
   | .normal=>code X n r (.loop b) a s
   | e=>.ret (e,a,s)
  | .exit id=>.ret (.exit id,a,s)
  | .ret=>.ret (.ret,a,s)
  | .rangeFunc g ps assign body=>match a.eval g with
   | .func (.func f) first captured =>
    if QO r s then
    (ff X n f (first.toList++[.func (.yield s.next) #[] #[]]++captured.toList) (s.new fun v=>.loop .ready none a.tmps a.nt ps assign body v)).bind fun(_,s') =>
     match s'.heap.get s.next with
     | some (.loop st pend t nt ps aJ6 bd _) =>
      if st=.busy then .fail "rangeFunc: busy" else
      match pend with
      | none=>.ret (.normal,a,s'.put s.next fun v=>.loop .exhausted pend t nt ps aJ6 bd v)
      | some .ret=>.ret (.ret,a,s'.put s.next fun v=>.loop .exhausted pend t nt ps aJ6 bd v)
      | some (.exit id)=>.ret (.exit id,a,s'.put s.next fun v=>.loop .exhausted pend t nt ps aJ6 bd v)
      | some _=>.fail "rangeFunc: pending"
     | _=>.fail "rangeFunc: record"
    else .fail "rangeFunc: round"
   | _=>.fail "rangeFunc: no function"
  | .scope _=>.fail "scope"
  | .goto _=>.fail "goto"
  | .refuse w=>.fail ("refuse "++w)
def ff (X:Env):Nat→FuncId→List Value→St→bN (Value×St)
 | 0,_,_,_=>.fail "fuel"
 | n+1,f,args,s=>match X.fn f with
  | some fn=>match fn.body with
   | some c =>
    if args.length≤fn.ntmps then
    (code X n none c {tmps:=PT.ofList args,nt:=fn.ntmps} s).bind fun(e,a,s)=>match e with
     | .exit _=>.fail "call: exit"
     | _=>match IQ X s.look fn a with
      | some v=>.ret (v,s)
      | none=>.fail "results"
    else .fail "too many arguments"
   | none=>xI s fn args
  | none=>.fail "no function"
def Nu (X:Env):Nat→Nat→List Value→St→bN (Value×St)
 | 0,_,_,_=>.fail "fuel"
 | n+1,l,args,s=>match s.heap.get l with
  | some (.loop .ready _ t nt ps assign body _) =>
   if args.length=ps.size then
   (code X n (some l) assign {tmps:=yA t (ps.toList.zip args),nt} s).bind fun(e,a,s)=>match e with
    | .normal=>match s.heap.get l with
     | some (.loop .ready pend t nt ps aJ6 bd _) =>
      (code X n (some l) body a (s.put l fun v=>.loop .busy pend t nt ps aJ6 bd v)).bind fun(e,_,s)=>match s.heap.get l with
       | some (.loop _ _ t nt ps aJ6 bd _) =>
        match e with
        | .normal=>.ret (.bool true,s.put l fun v=>.loop .ready none t nt ps aJ6 bd v)
        | .ret=>.ret (.bool false,s.put l fun v=>.loop .done (some .ret) t nt ps aJ6 bd v)
        | .exit id=>.ret (.bool false,s.put l fun v=>.loop .done (some (.exit id)) t nt ps aJ6 bd v)
       | _=>.fail "round: record"
     | _=>.fail "round: record"
    | _=>.fail "round: assign"
   else .fail "round: arguments"
  | _=>.fail "round: not ready"
end
def IG (f:Func):Bool:=match f.body with
 | some c=>f.name != "runtime.NumGoroutine"&&oD f.ntmps c&&RM f.ntmps f.results.toList
 | none=>true
def uh (P:Program):PT (Option Ty):=PT.ofList ((List.range P.types.size).map (qm P))
def VJ (P:Program):PT (Option Func):=PT.ofList (P.funcs.toList.map fun f=>if IG f then some f else none)
def env (P:Program):Env:={ty:=fun t=>match (uh P).get t with | some x=>x | none=>none,fn:=fun f=>match (VJ P).get f with | some x=>x | none=>none}
end Go.Dust
end
namespace Go.Dust
namespace PT
variable {α:Type}
theorem get_nil (n:Nat):(PT.nil:PT α).get n=none:=rfl
theorem KU (v:Option α) (l r:PT α):(node v l r).get 0=v:=rfl
theorem eo {m:Nat} (h:m%2=0):Nat.beq (Nat.mod (m+1) 2) 1=true:=by
 rw[Nat.beq_eq];show (m+1)%2=1;omega
theorem en {m:Nat} (h:m%2=1):Nat.beq (Nat.mod (m+1) 2) 1=false:=by
 cases hb:Nat.beq (Nat.mod (m+1) 2) 1 with
 | false=>rfl
 | true=>rw[Nat.beq_eq] at hb;have:(m+1)%2=1:=hb;omega
theorem DV (v:Option α) (l r:PT α) (m:Nat) (h:m%2=0):(node v l r).get (m+1)=l.get (m/2):=by
 show (Bool.rec (motive:=fun _=>Option α) (r.get (m/2)) (l.get (m/2)) (Nat.beq (Nat.mod (m+1) 2) 1))=_;rw[eo h]
theorem DW (v:Option α) (l r:PT α) (m:Nat) (h:m%2=1):(node v l r).get (m+1)=r.get (m/2):=by
 show (Bool.rec (motive:=fun _=>Option α) (r.get (m/2)) (l.get (m/2)) (Nat.beq (Nat.mod (m+1) 2) 1))=_;rw[en h]
theorem aFw (f:Nat) (a:α):oP (f+1) nil 0 a=node (some a) nil nil:=rfl
theorem aFz (f:Nat) (v:Option α) (l r:PT α) (a:α):oP (f+1) (node v l r) 0 a=node (some a) l r:=rfl
theorem aFu (f m:Nat) (a:α) (h:m%2=0):oP (f+1) nil (m+1) a=node none (oP f nil (m/2) a) nil:=by
 show (Bool.rec (motive:=fun _=>PT α) (node none nil (oP f nil (m/2) a)) (node none (oP f nil (m/2) a) nil) (Nat.beq (Nat.mod (m+1) 2) 1))=_;rw[eo h]
theorem aFv (f m:Nat) (a:α) (h:m%2=1):oP (f+1) nil (m+1) a=node none nil (oP f nil (m/2) a):=by
 show (Bool.rec (motive:=fun _=>PT α) (node none nil (oP f nil (m/2) a)) (node none (oP f nil (m/2) a) nil) (Nat.beq (Nat.mod (m+1) 2) 1))=_;rw[en h]
theorem aFx (f m:Nat) (v:Option α) (l r:PT α) (a:α) (h:m%2=0):oP (f+1) (node v l r) (m+1) a=node v (oP f l (m/2) a) r:=by
 show (Bool.rec (motive:=fun _=>PT α) (node v l (oP f r (m/2) a)) (node v (oP f l (m/2) a) r) (Nat.beq (Nat.mod (m+1) 2) 1))=_;rw[eo h]
theorem aFy (f m:Nat) (v:Option α) (l r:PT α) (a:α) (h:m%2=1):oP (f+1) (node v l r) (m+1) a=node v l (oP f r (m/2) a):=by
 show (Bool.rec (motive:=fun _=>PT α) (node v l (oP f r (m/2) a)) (node v (oP f l (m/2) a) r) (Nat.beq (Nat.mod (m+1) 2) 1))=_;rw[en h]
theorem w9:∀ (f:Nat) (t:PT α) (n:Nat) (a:α) (m:Nat),n<f→(oP f t n a).get m=if m=n then some a else t.get m:=by
 intro f
 induction f with
 | zero=>intro t n a m h;omega
 | succ f ih =>
  intro t n a m h;cases t with
  | nil =>
   cases n with
   | zero =>
    rw[aFw];cases m with
    | zero=>simp[KU]
    | succ m =>
     rcases Nat.mod_two_eq_zero_or_one m with e | e
     ·simp[DV _ _ _ _ e,get_nil]
     ·simp[DW _ _ _ _ e,get_nil]
   | succ n =>
    rcases Nat.mod_two_eq_zero_or_one n with e | e
    ·rw[aFu _ _ _ e];cases m with
     | zero=>simp[KU,get_nil]
     | succ m =>
      rcases Nat.mod_two_eq_zero_or_one m with e' | e'
      ·rw[DV _ _ _ _ e',ih _ _ _ _ (by omega)];simp only[get_nil];by_cases hm:m=n
       ·subst hm;simp
       ·rw[if_neg (by omega),if_neg (by omega)]
      ·rw[DW _ _ _ _ e',get_nil,if_neg (by omega),get_nil]
    ·rw[aFv _ _ _ e];cases m with
     | zero=>simp[KU,get_nil]
     | succ m =>
      rcases Nat.mod_two_eq_zero_or_one m with e' | e'
      ·rw[DV _ _ _ _ e',get_nil,if_neg (by omega),get_nil]
      ·rw[DW _ _ _ _ e',ih _ _ _ _ (by omega)];simp only[get_nil];by_cases hm:m=n
       ·subst hm;simp
       ·rw[if_neg (by omega),if_neg (by omega)]
  | node v l r =>
   cases n with
   | zero =>
    rw[aFz];cases m with
    | zero=>simp[KU]
    | succ m =>
     rcases Nat.mod_two_eq_zero_or_one m with e | e
     ·simp[DV _ _ _ _ e]
     ·simp[DW _ _ _ _ e]
   | succ n =>
    rcases Nat.mod_two_eq_zero_or_one n with e | e
    ·rw[aFx _ _ _ _ _ _ e];cases m with
     | zero=>simp[KU]
     | succ m =>
      rcases Nat.mod_two_eq_zero_or_one m with e' | e'
      ·rw[DV _ _ _ _ e',ih _ _ _ _ (by omega),DV _ _ _ _ e'];by_cases hm:m=n
       ·subst hm;simp
       ·rw[if_neg (by omega),if_neg (by omega)]
      ·rw[DW _ _ _ _ e',DW _ _ _ _ e',if_neg (by omega)]
    ·rw[aFy _ _ _ _ _ _ e];cases m with
     | zero=>simp[KU]
     | succ m =>
      rcases Nat.mod_two_eq_zero_or_one m with e' | e'
      ·rw[DV _ _ _ _ e',DV _ _ _ _ e',if_neg (by omega)]
      ·rw[DW _ _ _ _ e',ih _ _ _ _ (by omega),DW _ _ _ _ e'];by_cases hm:m=n
       ·subst hm;simp
       ·rw[if_neg (by omega),if_neg (by omega)]
theorem fH (t:PT α) (n:Nat) (a:α) (m:Nat):(t.set n a).get m=if m=n then some a else t.get m:=w9 _ _ _ _ _ (Nat.lt_succ_self n)
theorem get_set_same (t:PT α) (n:Nat) (a:α):(t.set n a).get n=some a:=by rw[fH,if_pos rfl]
theorem Da (t:PT α) {n m:Nat} (a:α) (h:m≠n):(t.set n a).get m=t.get m:=by rw[fH,if_neg h]
theorem GN:∀ (l:List α) (t:PT α) (n m:Nat),(t.CL n l).get m=if n≤m then(match l[m-n]? with | some a=>some a | none=>t.get m) else t.get m
 | [],t,n,m=>by simp[CL]
 | a::l,t,n,m=>by
  rw[CL,GN l _ (n+1) m];by_cases h:n+1≤m
  ·obtain⟨d,hd⟩:∃ d,m-n=d+1:=⟨m-n-1,by omega⟩;rw[if_pos h,if_pos (by omega),hd,show m-(n+1)=d from by omega,List.getElem?_cons_succ,Da _ _ (by omega)]
  ·rw[if_neg h];by_cases h':n≤m
   ·have:m=n:=by omega
    subst this;rw[if_pos (Nat.le_refl _),Nat.sub_self,get_set_same];rfl
   ·rw[if_neg h',Da _ _ (by omega)]
theorem sP (l:List α) (m:Nat):(ofList l).get m=l[m]?:=by
 rw[ofList,GN,if_pos (Nat.zero_le _),Nat.sub_zero,get_nil];cases l[m]? <;> rfl
end PT
namespace bN
variable {α β:Type}
theorem jD.mono {Φ Ψ:α→Prop} (h:∀ a,Φ a→Ψ a):∀ {x:bN α},x.jD Φ→x.jD Ψ
 | fail _,hx=>hx
 | ret _,hx=>h _ hx
 | ask _ _,hx=>fun i hi=>jD.mono h (hx i hi)
theorem wX (f:α→bN β) (Φ:β→Prop):∀ (x:bN α),(x.bind f).jD Φ↔x.jD fun a=>(f a).jD Φ
 | fail _=>Iff.rfl
 | ret _=>Iff.rfl
 | ask _ k=>⟨fun h i hi=>(wX f Φ (k i)).1 (h i hi),fun h i hi=>(wX f Φ (k i)).2 (h i hi)⟩
theorem Lv.mono {Φ Ψ:α→Prop} (h:∀ a,Φ a→Ψ a):∀ {x:bN α},x.Lv Φ→x.Lv Ψ
 | fail _,_=>trivial
 | ret _,hx=>h _ hx
 | ask _ _,hx=>fun i hi=>Lv.mono h (hx i hi)
theorem wZ (f:α→bN β) (Φ:β→Prop):∀ (x:bN α),(x.bind f).Lv Φ↔x.Lv fun a=>(f a).Lv Φ
 | fail _=>Iff.rfl
 | ret _=>Iff.rfl
 | ask _ k=>⟨fun h i hi=>(wZ f Φ (k i)).1 (h i hi),fun h i hi=>(wZ f Φ (k i)).2 (h i hi)⟩
end bN
structure Loc where
 aT:Nat
 off:Nat
 extra:Nat
 ro:Bool
abbrev aQ:=Nat→Option Loc
def aQ.le (ι ι':aQ):Prop:=∀ b l,ι b=some l→ι' b=some l
theorem aQ.le_refl (ι:aQ):ι.le ι:=fun _ _ h=>h
theorem aQ.le_trans {a b c:aQ} (h:a.le b) (k:b.le c):a.le c:=fun n l e=>k n l (h n l e)
inductive VR (ι:aQ):Value→Value→Prop
 | bool (b:Bool):VR ι (.bool b) (.bool b)
 | int (k:IntKind) (n:Int):VR ι (.int k n) (.int k n)
 | float (k:FloatKind) (n:Nat):VR ι (.float k n) (.float k n)
 | string (s:ByteArray):VR ι (.string s) (.string s)
 | MG:VR ι (.pointer none) (.pointer none)
 | ptr {b o:Nat} {l:Loc} (h:ι b=some l):VR ι (.pointer (some ⟨b,o,none⟩)) (.pointer (some ⟨l.aT,l.off+o,none⟩))
 | AO (n c:Nat):VR ι (.slice none n c) (.slice none n c)
 | slice {b o:Nat} {l:Loc} (n c:Nat) (h:ι b=some l):VR ι (.slice (some ⟨b,o,none⟩) n c) (.slice (some ⟨l.aT,l.off+o,none⟩) n (c+l.extra))
 | tX {b o k:Nat} {l:Loc} (h:ι b=some l):VR ι (.slice (some ⟨b,o,some k⟩) 0 0) (.slice (some ⟨l.aT,l.off+o+(if l.extra=0 then 0 else k),none⟩) 0 l.extra)
 | QX:VR ι (.map none) (.map none)
 | map {b:Nat} {l:Loc} (h:ι b=some l):VR ι (.map (some b)) (.map (some l.aT))
 | func {f:FuncId} {a c a' c':Array Value} (ha:a.size=a'.size) (hc:c.size=c'.size) (hav:∀ (i:Nat) v u,a[i]?=some v→a'[i]?=some u→VR ι v u)
   (hcv:∀ (i:Nat) v u,c[i]?=some v→c'[i]?=some u→VR ι v u):VR ι (.func (.func f) a c) (.func (.func f) a' c')
 | IC {m:String} {a c a' c':Array Value} (ha:a.size=a'.size) (hc:c.size=c'.size) (hav:∀ (i:Nat) v u,a[i]?=some v→a'[i]?=some u→VR ι v u)
   (hcv:∀ (i:Nat) v u,c[i]?=some v→c'[i]?=some u→VR ι v u):VR ι (.func (.method m) a c) (.func (.method m) a' c')
 | yield {b:Nat} {l:Loc} (h:ι b=some l):VR ι (.func (.yield b) #[] #[]) (.func (.yield l.aT) #[] #[])
 | nilFunc:VR ι .nilFunc .nilFunc
 | nilIface:VR ι .nilIface .nilIface
 | iface (t:TypeId) {v u:Value} (h:VR ι v u):VR ι (.iface t v) (.iface t u)
 | agg {a a':Array Value} (ha:a.size=a'.size) (hav:∀ (i:Nat) v u,a[i]?=some v→a'[i]?=some u→VR ι v u):VR ι (.agg a) (.agg a')
 | tuple {a a':Array Value} (ha:a.size=a'.size) (hav:∀ (i:Nat) v u,a[i]?=some v→a'[i]?=some u→VR ι v u):VR ι (.tuple a) (.tuple a')
theorem VR.mono {ι ι':aQ} (hle:ι.le ι') {v u:Value} (h:VR ι v u):VR ι' v u:=by
 induction h with
 | bool b=>exact .bool b
 | int k n=>exact .int k n
 | float k n=>exact .float k n
 | string s=>exact .string s
 | MG=>exact .MG
 | ptr h=>exact .ptr (hle _ _ h)
 | AO n c=>exact .AO n c
 | slice n c h=>exact .slice n c (hle _ _ h)
 | tX h=>exact .tX (hle _ _ h)
 | QX=>exact .QX
 | map h=>exact .map (hle _ _ h)
 | func ha hc _ _ ih1 ih2=>exact .func ha hc ih1 ih2
 | IC ha hc _ _ ih1 ih2=>exact .IC ha hc ih1 ih2
 | yield h=>exact .yield (hle _ _ h)
 | nilFunc=>exact .nilFunc
 | nilIface=>exact .nilIface
 | iface t _ ih=>exact .iface t ih
 | agg ha _ ih=>exact .agg ha ih
 | tuple ha _ ih=>exact .tuple ha ih
inductive bT (ι:aQ):List Value→List Value→Prop
 | nil:bT ι [] []
 | cons {v u:Value} {l l':List Value} (h:VR ι v u) (t:bT ι l l'):bT ι (v::l) (u::l')
theorem bT.mono {ι ι':aQ} (hle:ι.le ι'):∀ {l l':List Value},bT ι l l'→bT ι' l l'
 | _,_,.nil=>.nil
 | _,_,.cons h t=>.cons (h.mono hle) (bT.mono hle t)
theorem bT.length {ι:aQ}:∀ {l l':List Value},bT ι l l'→l.length=l'.length
 | _,_,.nil=>rfl
 | _,_,.cons _ t=>by simp[bT.length t]
theorem bT.get {ι:aQ}:∀ {l l':List Value} (_:bT ι l l') (i:Nat) {v u:Value},l[i]?=some v→l'[i]?=some u→VR ι v u
 | _,_,.nil,_,_,_,h,_=>by simp at h
 | _,_,.cons h _,0,_,_,h1,h2=>by simp at h1 h2;subst h1;subst h2;exact h
 | _,_,.cons _ t,i+1,_,_,h1,h2=>bT.get t i (by simpa using h1) (by simpa using h2)
theorem bT.GM {ι:aQ}:∀ {l l':List Value} (_:bT ι l l') (i:Nat) {v:Value},l[i]?=some v→∃ u,l'[i]?=some u∧VR ι v u
 | _,_,.nil,_,_,h=>by simp at h
 | _,_,.cons (u:=u) h t,0,_,h1=>⟨u,by simp,by simp at h1;subst h1;exact h⟩
 | _,_,.cons _ t,i+1,_,h1=>by
  obtain⟨u,h2,h3⟩:=bT.GM t i (by simpa using h1);exact⟨u,by simpa using h2,h3⟩
theorem bT.qu {ι:aQ}:∀ {l l':List Value},l.length=l'.length→(∀ (i:Nat) v u,l[i]?=some v→l'[i]?=some u→VR ι v u)→bT ι l l'
 | [],[],_,_=>.nil
 | v::l,u::l',hl,h=>.cons (h 0 v u rfl rfl) (bT.qu (by simpa using hl) fun i x y hx hy=>h (i+1) x y (by simpa using hx) (by simpa using hy))
 | [],_::_,hl,_=>by simp at hl
 | _::_,[],hl,_=>by simp at hl
theorem bT.append {ι:aQ}:∀ {a a' b b':List Value},bT ι a a'→bT ι b b'→bT ι (a++b) (a'++b')
 | _,_,_,_,.nil,h=>h
 | _,_,_,_,.cons h t,k=>.cons h (bT.append t k)
theorem bT.Kr {ι:aQ} {l:List Value} (h:bT ι [] l):l=[]:=by cases h;rfl
theorem bT.take {ι:aQ}:∀ {l l':List Value} (n:Nat),bT ι l l'→bT ι (l.take n) (l'.take n)
 | _,_,0,_=>by simp;exact .nil
 | _,_,_+1,.nil=>by simp;exact .nil
 | _,_,n+1,.cons h t=>by simp only[List.take_succ_cons];exact .cons h (bT.take n t)
theorem bT.drop {ι:aQ}:∀ {l l':List Value} (n:Nat),bT ι l l'→bT ι (l.drop n) (l'.drop n)
 | _,_,0,h=>by simpa using h
 | _,_,_+1,.nil=>by simp;exact .nil
 | _,_,n+1,.cons _ t=>by simp only[List.drop_succ_cons];exact bT.drop n t
theorem bT.map₂ {ι:aQ} {α:Type} {f g:α→Value}:∀ (l:List α),(∀ x∈l,VR ι (f x) (g x))→bT ι (l.map f) (l.map g)
 | [],_=>.nil
 | x::l,h=>.cons (h x (by simp)) (bT.map₂ l fun y hy=>h y (by simp[hy]))
theorem bT.replicate {ι:aQ} {v u:Value} (h:VR ι v u):∀ n,bT ι (List.replicate n v) (List.replicate n u)
 | 0=>.nil
 | n+1=>by rw[List.replicate_succ,List.replicate_succ];exact .cons h (bT.replicate h n)
theorem bT.IF {ι:aQ} {a a':Array Value} (ha:a.size=a'.size) (hav:∀ (i:Nat) v u,a[i]?=some v→a'[i]?=some u→VR ι v u):bT ι a.toList a'.toList :=
 .qu (by simpa using ha) fun i v u h1 h2=>hav i v u (by simpa using h1) (by simpa using h2)
theorem bT.size {ι:aQ} {a a':Array Value} (h:bT ι a.toList a'.toList):a.size=a'.size:=by simpa using h.length
theorem bT.arr {ι:aQ} {a a':Array Value} (h:bT ι a.toList a'.toList) (i:Nat) (v u:Value) (h1:a[i]?=Option.some v) (h2:a'[i]?=Option.some u):VR ι v u :=
 h.get i (by simpa using h1) (by simpa using h2)
theorem VR.JV {ι:aQ} {a a':Array Value} (h:bT ι a.toList a'.toList):VR ι (.agg a) (.agg a'):=.agg h.size h.arr
theorem VR.tuple' {ι:aQ} {a a':Array Value} (h:bT ι a.toList a'.toList):VR ι (.tuple a) (.tuple a'):=.tuple h.size h.arr
theorem VR.OB {ι:aQ} {a:Array Value} {u:Value} (h:VR ι (.agg a) u):∃ a',u=.agg a'∧bT ι a.toList a'.toList:=by
 cases h with | agg ha hav=>exact⟨_,rfl,.IF ha hav⟩
theorem VR.aGy {ι:aQ} {a:Array Value} {u:Value} (h:VR ι (.tuple a) u):∃ a',u=.tuple a'∧bT ι a.toList a'.toList:=by
 cases h with | tuple ha hav=>exact⟨_,rfl,.IF ha hav⟩
theorem VR.VL {ι:aQ} {f:FuncId} {a c:Array Value} {u:Value} (h:VR ι (.func (.func f) a c) u) :
  ∃ a' c',u=.func (.func f) a' c'∧bT ι a.toList a'.toList∧bT ι c.toList c'.toList:=by
 cases h with | func ha hc hav hcv=>exact⟨_,_,rfl,.IF ha hav,.IF hc hcv⟩
theorem VR.aBq {ι:aQ} {f:String} {a c:Array Value} {u:Value} (h:VR ι (.func (.method f) a c) u) :
  ∃ a' c',u=.func (.method f) a' c'∧bT ι a.toList a'.toList∧bT ι c.toList c'.toList:=by
 cases h with | IC ha hc hav hcv=>exact⟨_,_,rfl,.IF ha hav,.IF hc hcv⟩
theorem VR.undef (ι:aQ):VR ι undef undef:=.tuple rfl fun i v u h=>by simp at h
theorem VR.int_eq {ι:aQ} {k:IntKind} {n:Int} {u:Value} (h:VR ι (.int k n) u):u=.int k n:=by cases h;rfl
theorem VR.yY {ι:aQ} {b:Bool} {u:Value} (h:VR ι (.bool b) u):u=.bool b:=by cases h;rfl
theorem VR.tZ {ι:aQ} {s:ByteArray} {u:Value} (h:VR ι (.string s) u):u=.string s:=by cases h;rfl
theorem VR.zH {ι:aQ} {v:Value} (h:zH v=true):VR ι v v:=by
 unfold Dust.zH at h;split at h <;> first | (exact .bool _) | (exact .int _ _) | (exact .string _) | (exact .MG) | (exact .AO _ _) | (exact .QX) | (exact .nilFunc) | (exact .nilIface) | (exact .float _ _) | cases h
theorem bT.closed {ι:aQ}:∀ {l:List Value},l.all Dust.zH=true→bT ι l l
 | [],_=>.nil
 | v::l,h=>by
  simp only[List.all_cons,Bool.and_eq_true] at h;exact .cons (.zH h.1) (bT.closed h.2)
theorem VR.closed {ι:aQ} {v:Value} (h:GA v=true):VR ι v v:=by
 unfold GA at h;split at h
 ·exact .JV (.closed h)
 ·exact .tuple' (.closed h)
 ·exact .zH h
theorem VR.cells {ι:aQ} {v u:Value} (h:VR ι v u):bT ι v.cells.toList u.cells.toList:=by
 cases h with
 | agg ha hav=>exact .IF ha hav
 | _=>first | (simp only[Value.cells];refine .cons ?_ .nil;constructor <;> assumption) | (simp only[Value.cells];refine .cons ?_ .nil;exact .zH rfl)
end Go.Dust
namespace Go.Dust
variable {P:Program}
theorem FJ {t:TypeId} {i:Ty} (h:(env P).ty t=some i) :
  ∃ inf,P.info? t=some inf∧P.underlying t=some i.desc∧i.size=inf.size∧i.bytes=inf.bytes∧i.agg=vv i.desc∧i.methods=inf.methods ∧
   (∀ z,i.zero=some z→inf.zero=some z∧GA z=true)∧(i.cmp=true→P.stoodInHeld t=false∧P.eqGuardType P.depth t=false):=by
 have h1:qm P t=some i:=by
  have h0:(match (uh P).get t with | some x=>x | none=>none)=some i:=h;unfold uh at h0;rw[PT.sP] at h0;simp only[List.getElem?_map] at h0;by_cases ht:t<P.types.size
  ·rw[List.getElem?_range ht] at h0;simpa using h0
  ·rw[List.getElem?_eq_none (by simpa using ht)] at h0;simp at h0
 unfold qm at h1;split at h1
 ·rename_i inf d hi hd;cases h1;refine⟨inf,hi,hd,rfl,rfl,rfl,rfl,?_,by simp⟩;intro z hz;simp only at hz;split at hz
  ·rename_i z' hz';split at hz
   ·rename_i hc;cases hz;exact⟨hz',hc⟩
   ·cases hz
  ·cases hz
 ·cases h1
theorem Co {f:FuncId} {fn:Func} (h:P.funcs[f]?=some fn) (hok:IG fn=true):(env P).fn f=some fn:=by
 have h':P.funcs.toList[f]?=some fn:=by rw[Array.getElem?_toList];exact h
 unfold env VJ;simp only[PT.sP,List.getElem?_map,h',Option.map_some,if_pos hok]
theorem VK {f:FuncId} {fn:Func} (h:(env P).fn f=some fn):P.funcs[f]?=some fn∧IG fn=true:=by
 have h0:(match (VJ P).get f with | some x=>x | none=>none)=some fn:=h;unfold VJ at h0;rw[PT.sP] at h0;simp only[List.getElem?_map,Array.getElem?_toList] at h0;cases hf:P.funcs[f]? with
 | none=>rw[hf] at h0;simp at h0
 | some g =>
  rw[hf] at h0;simp only[Option.map_some] at h0;by_cases hok:IG g=true
  ·rw[if_pos hok] at h0;cases h0;exact⟨rfl,hok⟩
  ·rw[if_neg hok] at h0;cases h0
section typefacts
variable {t:TypeId} {i:Ty} {w:World}
theorem fA (h:(env P).ty t=some i):(underlying t).run P w=.ok i.desc w:=by
 obtain⟨inf,h1,h2,_⟩:=FJ h;simp[underlying,h2]
theorem pZ (h:(env P).ty t=some i):(sizeOf t).run P w=.ok i.size w:=by
 obtain⟨inf,h1,h2,h3,_⟩:=FJ h;simp[sizeOf,typeInfo,h1,h3]
theorem ak (h:(env P).ty t=some i):(isAgg t).run P w=.ok i.agg w:=by
 obtain⟨inf,h1,h2,h3,h4,h5,_⟩:=FJ h;rw[h5];unfold isAgg;rw[Sem.run_bind,fA h];simp only[Result.andThen_ok];cases i.desc <;> rfl
theorem AZ (h:(env P).ty t=some i) {z:Value} (hz:i.zero=some z):(zeroValue t).run P w=.ok z w:=by
 obtain⟨inf,h1,h2,h3,h4,h5,h6,h7⟩:=FJ h;simp[zeroValue,typeInfo,h1,(h7.1 z hz).1]
theorem FQ (h:(env P).ty t=some i) {z:Value} (hz:i.zero=some z):GA z=true:=by
 obtain⟨inf,h1,h2,h3,h4,h5,h6,h7⟩:=FJ h;exact(h7.1 z hz).2
theorem RY (h:(env P).ty t=some i):∃ inf,(typeInfo t).run P w=.ok inf w∧inf.bytes=i.bytes∧inf.methods=i.methods:=by
 obtain⟨inf,h1,h2,h3,h4,h5,h6,_⟩:=FJ h;exact⟨inf,by simp[typeInfo,h1],h4.symm,h6.symm⟩
end typefacts
def World.gO (w:World) (b:Nat) (o:Obj):World:={w with heap:=w.heap.setIfInBounds b o}
theorem Eg {w:World} {b c:Nat} {o:Obj}:(World.gO w b o).heap[c]?=if c=b∧b<w.heap.size then some o else w.heap[c]?:=by
 unfold World.gO;simp only[Array.getElem?_setIfInBounds];by_cases h:b=c
 ·subst h;by_cases hb:b<w.heap.size
  ·simp[hb]
  ·simp[hb]
 ·rw[if_neg h,if_neg (by omega)]
theorem zV {w:World} {b:Nat} {o:Obj} (h:b<w.heap.size):(World.gO w b o).heap[b]?=some o:=by rw[Eg,if_pos ⟨rfl,h⟩]
theorem GZ {w:World} {b c:Nat} {o:Obj} (h:c≠b):(World.gO w b o).heap[c]?=w.heap[c]?:=by rw[Eg,if_neg (by omega)]
@[simp] theorem Qd {w:World} {b:Nat} {o:Obj}:(World.gO w b o).heap.size=w.heap.size:=by simp[World.gO]
theorem aFt {w:World} {b:Nat} {o o':Obj}:World.gO (World.gO w b o) b o'=World.gO w b o':=by simp[World.gO]
theorem Pm {w:World} {b:Nat} {o:Obj} (h:w.heap[b]?=some o):World.gO w b o=w:=by
 cases w with
 | mk heap tape drawn os output =>
  simp only[World.gO];congr 1;apply Array.ext_getElem?;intro i;rw[Array.getElem?_setIfInBounds];by_cases e:b=i
  ·subst e;obtain⟨cD,_⟩:=Array.getElem?_eq_some_iff.1 h;rw[if_pos rfl,if_pos cD];exact h.symm
  ·rw[if_neg e]
theorem jJ {w:World} {b:Nat} {o:Obj} (h:w.heap[b]?=some o):b<w.heap.size:=(Array.getElem?_eq_some_iff.1 h).1
theorem heap_alloc_old {w:World} {o:Obj} {c:Nat} (h:c<w.heap.size):(w.alloc o).heap[c]?=w.heap[c]?:=by
 show (w.heap.push o)[c]?=_;rw[Array.getElem?_push,if_neg (by omega)]
theorem heap_alloc_new {w:World} {o:Obj}:(w.alloc o).heap[w.heap.size]?=some o:=World.alloc_heap_new w o
def tH (arr:Array Value) (off:Nat):List Value→Array Value
 | []=>arr
 | v::vs=>tH (arr.setIfInBounds off v) (off+1) vs
@[simp] theorem tg:∀ (vs:List Value) (arr:Array Value) (off:Nat),(tH arr off vs).size=arr.size
 | [],_,_=>rfl
 | _::vs,arr,off=>by rw[tH,tg vs];simp
theorem VM:∀ (vs:List Value) (arr:Array Value) (off i:Nat),off+vs.length≤arr.size →
  (tH arr off vs)[i]?=if off≤i then(match vs[i-off]? with | some v=>some v | none=>arr[i]?) else arr[i]?
 | [],arr,off,i,_=>by simp[tH]
 | v::vs,arr,off,i,h=>by
  simp only[List.length_cons] at h;rw[tH,VM vs _ _ _ (by simp;omega)];by_cases h1:off+1≤i
  ·obtain⟨d,hd⟩:∃ d,i-off=d+1:=⟨i-off-1,by omega⟩;rw[if_pos h1,if_pos (by omega),hd,show i-(off+1)=d from by omega,List.getElem?_cons_succ,Array.getElem?_setIfInBounds,if_neg (by omega)]
  ·rw[if_neg h1];by_cases h2:off≤i
   ·have:i=off:=by omega
    subst this;rw[if_pos (Nat.le_refl _),Nat.sub_self,Array.getElem?_setIfInBounds,if_pos rfl,if_pos (by omega)];rfl
   ·rw[if_neg h2,Array.getElem?_setIfInBounds,if_neg (by omega)]
theorem Addr.rH (b o n:Nat):(⟨b,o,none⟩:Addr).add n=⟨b,o+n,none⟩:=by
 unfold Addr.add;split
 ·rename_i h;subst h;simp
 ·rfl
theorem aD6 {v:Value} (h:hZ v=true):v.oneCell'=true:=by
 cases v <;> first | rfl | (simp[hZ] at h)
theorem VR.hZ {ι:aQ} {v u:Value} (h:VR ι v u):hZ v=hZ u:=by cases h <;> rfl
theorem bT.hZ {ι:aQ}:∀ {l l':List Value},bT ι l l'→l.all Dust.hZ=l'.all Dust.hZ
 | _,_,.nil=>rfl
 | _,_,.cons h t=>by simp[h.hZ,t.hZ]
theorem ar:∀ (vs:List Value) (w:World) (b o i:Nat) (arr:Array Value) (e:TypeId),w.heap[b]?=some (.cells arr e (0,0))→vs.all hZ=true →
  o+i+vs.length≤arr.size→(storeCells ⟨b,o,none⟩ vs i).run P w=.ok () (World.gO w b (.cells (tH arr (o+i) vs) e (0,0)))
 | [],w,b,o,i,arr,e,h,_,_=>by
  simp only[storeCells,tH,Sem.run_pure];rw[Pm h]
 | v::vs,w,b,o,i,arr,e,h,h1,h2=>by
  simp only[List.all_cons,Bool.and_eq_true] at h1;simp only[List.length_cons] at h2;have hc:w.cell? ⟨b,o+i,none⟩=some arr[o+i]:=by
   simp[World.cell?,h,show o+i<arr.size from by omega]
  have hf:w.frozen? ⟨b,o+i,none⟩=false:=by simp[World.frozen?,h]
  have hset:w.setCell ⟨b,o+i,none⟩ v=World.gO w b (.cells (arr.setIfInBounds (o+i) v) e (0,0)):=by
   unfold World.setCell World.gO;congr 1;apply Array.ext_getElem?;intro j;rw[Array.getElem?_setIfInBounds,Array.getElem?_modify];by_cases ej:b=j
   ·subst ej;rw[if_pos rfl,if_pos rfl,if_pos (jJ h),h];simp
   ·simp[ej]
  have hst:(Go.store ((⟨b,o,none⟩:Addr).add i) v).run P w=.ok () (World.gO w b (.cells (arr.setIfInBounds (o+i) v) e (0,0))):=by
   rw[Addr.rH,← hset];rw[run_store P w _ v _ (aD6 h1.1)];simp[hc,hf]
  simp only[storeCells,Sem.run_bind,hst,Result.andThen_ok];rw[ar vs _ b o (i+1) (arr.setIfInBounds (o+i) v) e (zV (jJ h)) h1.2 (by simp;omega),aFt];simp only[tH,show o+(i+1)=o+i+1 from by omega]
theorem run_loadCellsFrom:∀ (k:Nat) (w:World) (b o i:Nat) (arr:Array Value) (e:TypeId) (fz:Nat×Nat) (acc:Array Value),w.heap[b]?=some (.cells arr e fz) →
  o+i+k≤arr.size→(loadCellsFrom ⟨b,o,none⟩ i k acc).run P w=.ok (acc++((arr.toList.drop (o+i)).take k).toArray) w
 | 0,w,b,o,i,arr,e,fz,acc,h,hk=>by simp[loadCellsFrom]
 | k+1,w,b,o,i,arr,e,fz,acc,h,hk=>by
  have hc:w.cell? ⟨b,o+i,none⟩=some arr[o+i]:=by
   simp[World.cell?,h,show o+i<arr.size from by omega]
  simp only[loadCellsFrom,Sem.run_bind,Addr.rH];have hl:(load ⟨b,o+i,none⟩).run P w=.ok arr[o+i] w:=by simp[load,Sem.run,hc]
  rw[hl];simp only[Result.andThen_ok];rw[run_loadCellsFrom k w b o (i+1) arr e fz _ h (by omega)];congr 1;rw[List.drop_eq_getElem_cons (i:=o+i) (by simp;omega),List.take_succ_cons];apply Array.toList_inj.1;simp[show o+(i+1)=o+i+1 from by omega]
theorem run_loadCells {k:Nat} {w:World} {b o:Nat} {arr:Array Value} {e:TypeId} {fz:Nat×Nat} (h:w.heap[b]?=some (.cells arr e fz)) (hk:k=0∨o+k≤arr.size) :
  (loadCells ⟨b,o,none⟩ k).run P w=.ok ((arr.toList.drop o).take k).toArray w:=by
 rcases hk with rfl | hk
 ·simp[loadCells,loadCellsFrom]
 have:=run_loadCellsFrom (P:=P) k w b o 0 arr e fz #[] h (by omega);simpa [loadCells] using this
structure ER (ι:aQ) (e e':MapEntry):Prop where
 key:VR ι e.key e'.key
 val:VR ι e.val e'.val
 born:e.born=e'.born
inductive fL (ι:aQ):List MapEntry→List MapEntry→Prop
 | nil:fL ι [] []
 | cons {e e':MapEntry} {l l':List MapEntry} (h:ER ι e e') (t:fL ι l l'):fL ι (e::l) (e'::l')
theorem ER.mono {ι ι':aQ} (hle:ι.le ι') {e e':MapEntry} (h:ER ι e e'):ER ι' e e':=⟨h.key.mono hle,h.val.mono hle,h.born⟩
theorem fL.mono {ι ι':aQ} (hle:ι.le ι'):∀ {l l':List MapEntry},fL ι l l'→fL ι' l l'
 | _,_,.nil=>.nil
 | _,_,.cons h t=>.cons (h.mono hle) (fL.mono hle t)
def jM (X:Env) (ι:aQ) (w:World) (l:Loc):bW→Prop
 | .cells c z n e room ro _=>∃ arr e' fz,w.heap[l.aT]?=some (.cells arr e' fz)∧(ro=false→fz=(0,0))∧l.ro=ro∧(room=false→l.extra=0) ∧
   (∀ ei,X.ty e=some ei→l.off+n+l.extra*ei.size≤arr.size)∧l.off+n≤arr.size ∧
   (∀ i,i<n→∃ v u,cellAt c z n i=some v∧arr[l.off+i]?=some u∧VR ι v u)
 | .map es clock _=>l.ro=false∧l.off=0∧l.extra=0∧∃ es',w.heap[l.aT]?=some (.map es' clock)∧fL ι es es'.toList
 | .hY m since seen stepped _=>l.ro=false∧l.off=0∧l.extra=0∧(match m with
   | none=>∃ a b c,w.heap[l.aT]?=some (.mapIter none a b c)
   | some m=>∃ lm,ι m=some lm∧w.heap[l.aT]?=some (.mapIter (some lm.aT) since seen.reverse.toArray stepped))
 | .sW s pos _=>l.ro=false∧l.off=0∧l.extra=0∧w.heap[l.aT]?=some (.stringIter s pos)
 | .loop st pend t nt ps aJ6 bd _=>l.ro=false∧l.off=0∧l.extra=0∧oD nt aJ6=true∧oD nt bd=true∧ps.toList.all (fun p=>decide (p<nt))=true ∧
   ∃ r:Loop,w.heap[l.aT]?=some (.loop r)∧r.state=st∧r.pending=pend∧r.params=ps∧r.assign=aJ6∧r.body=bd∧r.tmps.size=nt ∧
    (∀ i,i<nt→VR ι ((t.get i).getD undef) (r.tmps.getD i undef))
 | .dead=>True
theorem jM.mono {X:Env} {ι ι':aQ} {w w':World} {l:Loc} (hle:ι.le ι') (hw:w'.heap[l.aT]?=w.heap[l.aT]?):∀ {o:bW},jM X ι w l o→jM X ι' w' l o
 | .cells ..,h=>by
  obtain⟨arr,e',fz,h1,h2,h3,h4,h5,h6,h7⟩:=h;exact⟨arr,e',fz,hw.trans h1,h2,h3,h4,h5,h6,fun i hi=>let ⟨v,u,a,b,c⟩:=h7 i hi;⟨v,u,a,b,c.mono hle⟩⟩
 | .map ..,h=>by
  obtain⟨h0,h1,h2,es',h3,h4⟩:=h;exact⟨h0,h1,h2,es',hw.trans h3,h4.mono hle⟩
 | .hY none ..,h=>by
  obtain⟨h0,h1,h2,a,b,c,h3⟩:=h;exact⟨h0,h1,h2,a,b,c,hw.trans h3⟩
 | .hY (some m) ..,h=>by
  obtain⟨h0,h1,h2,lm,h3,h4⟩:=h;exact⟨h0,h1,h2,lm,hle _ _ h3,hw.trans h4⟩
 | .sW ..,h=>⟨h.1,h.2.1,h.2.2.1,hw.trans h.2.2.2⟩
 | .loop ..,h=>by
  obtain⟨h0,h1,h2,h3,h4,h4',r,h5,h6,h7,h8,h9,h10,h11,h12⟩:=h;exact⟨h0,h1,h2,h3,h4,h4',r,hw.trans h5,h6,h7,h8,h9,h10,h11,fun i hi=>(h12 i hi).mono hle⟩
 | .dead,_=>trivial
def Own (ι:aQ) (H:bL) (c:Nat):Prop:=∃ b o l,H b=some o∧o.cX=false∧ι b=some l∧l.ro=false∧l.aT=c
structure R (X:Env) (ι:aQ) (H:bL) (n:Nat) (w:World):Prop where
 even:∀ b,ι (2*b)=some ⟨b,0,0,true⟩
 kT:n%2=1
 fresh:∀ b,n≤b→b%2=1→ι b=none
 tR:∀ b l,ι b=some l→l.ro=false→l.aT<w.heap.size
 obj:∀ b o,H b=some o→o.cX=false→∃ l,ι b=some l∧jM X ι w l o
 inj:∀ b b' o o' l l',H b=some o→o.cX=false→H b'=some o'→o'.cX=false→ι b=some l→ι b'=some l'→l.ro=false→l.aT=l'.aT→b=b'
structure Ext (ι:aQ) (H:bL) (n:Nat) (w:World) (ι':aQ) (H':bL) (n':Nat) (w':World):Prop where
 le:ι.le ι'
 new:∀ b,ι b=none→(b<n∨n'≤b)→ι' b=none
 AP:n≤n'
 os:w'.os=w.os
 tape:w'.tape=w.tape
 output:w'.output=w.output
 size:w.heap.size≤w'.heap.size
 aD:∀ c,c<w.heap.size→¬ Own ι H c→w'.heap[c]?=w.heap[c]?
 own:∀ c,Own ι' H' c→Own ι H c∨w.heap.size≤c
 drawn:w.drawn≤w'.drawn
section
variable {X:Env} {ι ι' ι'':aQ} {H H' H'':bL} {n n' n'':Nat} {w w' w'':World}
theorem Ext.refl:Ext ι H n w ι H n w:=⟨aQ.le_refl _,fun _ h _=>h,Nat.le_refl _,rfl,rfl,rfl,Nat.le_refl _,fun _ _ _=>rfl,fun _ h=>.inl h,Nat.le_refl _⟩
theorem Ext.trans (h:Ext ι H n w ι' H' n' w') (k:Ext ι' H' n' w' ι'' H'' n'' w''):Ext ι H n w ι'' H'' n'' w'' :=
 ⟨aQ.le_trans h.le k.le,fun b hb hn=>k.new b (h.new b hb (by have:=k.AP;omega)) (by have:=h.AP;omega),Nat.le_trans h.AP k.AP,
  k.os.trans h.os,k.tape.trans h.tape,k.output.trans h.output,Nat.le_trans h.size k.size,
  fun c hc ho=>(k.aD c (Nat.lt_of_lt_of_le hc h.size) (fun ho'=>(h.own c ho').elim ho (by omega))).trans (h.aD c hc ho),
  fun c ho=>(k.own c ho).elim (h.own c) (fun hs=>.inr (Nat.le_trans h.size hs)),Nat.le_trans h.drawn k.drawn⟩
def fU (H:bL) (b:Nat) (o:bW):bL:=fun c=>if c=b then some o else H c
theorem qd (s:St) (b:Nat) (f:Nat→bW):(s.put b f).look=fU s.look b (f s.aR):=by
 funext c;simp[St.look,St.put,fU,PT.fH]
theorem YD (s:St) (f:Nat→bW):(s.new f).look=fU s.look s.next (f s.aR):=by
 funext c;simp[St.look,St.new,fU,PT.fH]
theorem R.gx (h:R X ι H n w) (hs:∀ b o,H' b=some o→o.cX=false→H b=some o):R X ι H' n w :=
 ⟨h.even,h.kT,h.fresh,h.tR,fun b o hb hd=>h.obj b o (hs b o hb hd) hd,
  fun b b' o o' l l' hb hd hb' hd'=>h.inj b b' o o' l l' (hs b o hb hd) hd (hs b' o' hb' hd') hd'⟩
theorem R.drew (h:R X ι H n w) (hh:w'.heap=w.heap):R X ι H n w' :=
 ⟨h.even,h.kT,h.fresh,fun b l hb hr=>hh ▸ h.tR b l hb hr,fun b o hb hd=>let ⟨l,h1,h2⟩:=h.obj b o hb hd;⟨l,h1,h2.mono (aQ.le_refl _) (by rw[hh])⟩,h.inj⟩
theorem R.put (h:R X ι H n w) {b:Nat} {o:bW} {l:Loc} (hb:H b=some o) (hd:o.cX=false) (hl:ι b=some l) (hro:l.ro=false) (x:Obj) {o':bW}
  (ho:jM X ι (World.gO w l.aT x) l o'):R X ι (fU H b o') n (World.gO w l.aT x):=by
 refine⟨h.even,h.kT,h.fresh,fun b l hb hr=>by rw[Qd];exact h.tR b l hb hr,?_,?_⟩
 ·intro c oc hc hdc;unfold fU at hc;split at hc
  ·rename_i e;subst e;cases hc;exact⟨l,hl,ho⟩
  ·rename_i e;obtain⟨lc,h1,h2⟩:=h.obj c oc hc hdc;refine⟨lc,h1,h2.mono (aQ.le_refl _) (GZ ?_)⟩;intro he;exact e (h.inj b c o oc l lc hb hd hc hdc hl h1 hro he.symm).symm
 ·intro c c' oc oc' lc lc' hc hdc hc' hdc' h1 h2 hr he;have key:∀ d od,fU H b o' d=some od→od.cX=false→∃ od',H d=some od'∧od'.cX=false:=by
   intro d od hd1 hd2;unfold fU at hd1;split at hd1
   ·rename_i e;subst e;exact⟨o,hb,hd⟩
   ·exact⟨od,hd1,hd2⟩
  obtain⟨x1,hx1,hx2⟩:=key c oc hc hdc;obtain⟨y1,hy1,hy2⟩:=key c' oc' hc' hdc';exact h.inj c c' x1 y1 lc lc' hx1 hx2 hy1 hy2 h1 h2 hr he
theorem Ext.put {b:Nat} {o:bW} {l:Loc} (hb:H b=some o) (hd:o.cX=false) (hl:ι b=some l) (hro:l.ro=false) (x:Obj) (o':bW) :
  Ext ι H n w ι (fU H b o') n (World.gO w l.aT x):=by
 refine⟨aQ.le_refl _,fun _ h _=>h,Nat.le_refl _,rfl,rfl,rfl,by simp,?_,?_,Nat.le_refl _⟩
 ·intro c hc ho;exact GZ fun e=>ho ⟨b,o,l,hb,hd,hl,hro,e.symm⟩
 ·rintro c ⟨d,od,ld,h1,h2,h3,h4,h5⟩;unfold fU at h1;split at h1
  ·rename_i e;subst e;exact .inl ⟨d,o,l,hb,hd,hl,hro,by rw[hl] at h3;cases h3;exact h5⟩
  ·exact .inl ⟨d,od,ld,h1,h2,h3,h4,h5⟩
def aQ.add (ι:aQ) (n:Nat) (l:Loc):aQ:=fun b=>if b=n then some l else ι b
theorem aQ.add_same (ι:aQ) (n:Nat) (l:Loc):ι.add n l n=some l:=by simp[aQ.add]
theorem aQ.uQ {l:Loc} (h:ι n=none):ι.le (ι.add n l):=by
 intro b x hb;unfold aQ.add;split
 ·rename_i e;subst e;rw[h] at hb;cases hb
 ·exact hb
theorem R.newAt {ex:Nat} (h:R X ι H n w) (nm n':Nat) (hfree:ι nm=none) (hodd:nm%2=1) (hn:n≤n') (hn':n'%2=1) (cD:nm<n') (x:Obj) {o':bW}
  (ho:jM X (ι.add nm ⟨w.heap.size,0,ex,false⟩) (w.alloc x) ⟨w.heap.size,0,ex,false⟩ o') :
  R X (ι.add nm ⟨w.heap.size,0,ex,false⟩) (fU H nm o') n' (w.alloc x):=by
 have hle:ι.le (ι.add nm ⟨w.heap.size,0,ex,false⟩):=aQ.uQ hfree;refine⟨?_,hn',?_,?_,?_,?_⟩
 ·intro b;unfold aQ.add;rw[if_neg (by omega)];exact h.even b
 ·intro b hb hb2;unfold aQ.add;rw[if_neg (by omega)];exact h.fresh b (by omega) hb2
 ·intro b l hb hr;unfold aQ.add at hb;split at hb
  ·cases hb;simp
  ·have:=h.tR b l hb hr;simp;omega
 ·intro c oc hc hdc;unfold fU at hc;split at hc
  ·rename_i e;subst e;cases hc;exact⟨_,aQ.add_same _ _ _,ho⟩
  ·obtain⟨lc,h1,h2⟩:=h.obj c oc hc hdc;refine⟨lc,hle _ _ h1,h2.mono hle ?_⟩;by_cases hlt':lc.aT<w.heap.size
   ·exact heap_alloc_old hlt'
   ·
    exfalso;cases oc with
    | cells=>obtain⟨_,_,_,h3,_⟩:=h2;exact hlt' (jJ h3)
    | map=>obtain⟨_,_,_,_,h3,_⟩:=h2;exact hlt' (jJ h3)
    | hY m =>
     cases m with
     | none=>obtain⟨_,_,_,_,_,_,h3⟩:=h2;exact hlt' (jJ h3)
     | some m=>obtain⟨_,_,_,_,_,h3⟩:=h2;exact hlt' (jJ h3)
    | sW=>exact hlt' (jJ h2.2.2.2)
    | loop=>obtain⟨_,_,_,_,_,_,_,h3,_⟩:=h2;exact hlt' (jJ h3)
    | dead=>cases hdc
 ·have hblk:∀ d od ld,H d=some od→od.cX=false→ι d=some ld→ld.aT<w.heap.size:=by
   intro d od ld h1 h2 h3;obtain⟨l',h4,h5⟩:=h.obj d od h1 h2;rw[h3] at h4;cases h4;cases od with
   | cells=>obtain⟨_,_,_,h3,_⟩:=h5;exact jJ h3
   | map=>obtain⟨_,_,_,_,h3,_⟩:=h5;exact jJ h3
   | hY m =>
    cases m with
    | none=>obtain⟨_,_,_,_,_,_,h3⟩:=h5;exact jJ h3
    | some m=>obtain⟨_,_,_,_,_,h3⟩:=h5;exact jJ h3
   | sW=>exact jJ h5.2.2.2
   | loop=>obtain⟨_,_,_,_,_,_,_,h3,_⟩:=h5;exact jJ h3
   | dead=>cases h2
  intro c c' oc oc' lc lc' hc hdc hc' hdc' h1 h2 hr he;unfold fU at hc hc';unfold aQ.add at h1 h2;by_cases e1:c=nm <;> by_cases e2:c'=nm
  ·rw[e1,e2]
  ·rw[if_pos e1] at h1;rw[if_neg e2] at h2 hc';cases h1;have:=hblk c' oc' lc' hc' hdc' h2;simp only at he;omega
  ·rw[if_neg e1] at h1 hc;rw[if_pos e2] at h2;cases h2;have:=hblk c oc lc hc hdc h1;simp only at he;omega
  ·rw[if_neg e1] at h1 hc;rw[if_neg e2] at h2 hc';exact h.inj c c' oc oc' lc lc' hc hdc hc' hdc' h1 h2 hr he
theorem Ext.newAt {ex:Nat} (nm n':Nat) (hfree:ι nm=none) (hnm:n≤nm) (hn:n≤n') (cD:nm<n') (x:Obj) (o':bW) :
  Ext ι H n w (ι.add nm ⟨w.heap.size,0,ex,false⟩) (fU H nm o') n' (w.alloc x):=by
 refine⟨aQ.uQ hfree,?_,hn,rfl,rfl,rfl,by simp,fun c hc _=>heap_alloc_old hc,?_,Nat.le_refl _⟩
 ·intro b hb' hb2;unfold aQ.add;rw[if_neg (by omega)];exact hb'
 ·rintro c ⟨d,od,ld,h1,h2,h3,h4,h5⟩;unfold fU at h1;unfold aQ.add at h3;split at h1
  ·rename_i e;rw[if_pos e] at h3;cases h3;exact .inr (by simp only at h5;omega)
  ·rename_i e;rw[if_neg e] at h3;exact .inl ⟨d,od,ld,h1,h2,h3,h4,h5⟩
end
variable {P:Program} {ι:aQ} {H:bL} {n:Nat} {w:World}
abbrev jZ (P:Program) (ι:aQ) (w:World) (s:Sem Value) (v:Value):Prop:=∃ v',s.run P w=.ok v' w∧VR ι v v'
theorem BK (hR:R (env P) ι H n w) {b:Nat} {c:PT Value} {z:List Value} {m:Nat} {e:TypeId} {room ro:Bool} {bB:Nat} (h:H b=some (.cells c z m e room ro bB)) :
  ∃ l arr e' fz,ι b=some l∧w.heap[l.aT]?=some (.cells arr e' fz)∧(ro=false→fz=(0,0))∧l.ro=ro∧(room=false→l.extra=0) ∧
   (∀ ei,(env P).ty e=some ei→l.off+m+l.extra*ei.size≤arr.size)∧l.off+m≤arr.size ∧
   (∀ i,i<m→∃ v u,cellAt c z m i=some v∧arr[l.off+i]?=some u∧VR ι v u):=by
 obtain⟨l,h1,h2⟩:=hR.obj b _ h rfl;obtain⟨arr,e',fz,h3⟩:=h2;exact⟨l,arr,e',fz,h1,h3⟩
theorem ZU {c:PT Value} {z:List Value} {m:Nat} {arr:Array Value} {off:Nat} (h7:∀ i,i<m→∃ v u,cellAt c z m i=some v∧arr[off+i]?=some u∧VR ι v u) :
  ∀ (k i:Nat) (l:List Value),qT c z m i k=some l→(k=0∨i+k≤m)∧l.length=k∧bT ι l ((arr.toList.drop (off+i)).take k)
 | 0,i,l,h=>by
  simp only[qT,Option.some.injEq] at h;subst h;exact⟨.inl rfl,rfl,by simp;exact .nil⟩
 | k+1,i,l,h=>by
  simp only[qT] at h;cases hc:cellAt c z m i with
  | none=>rw[hc] at h;cases h
  | some v =>
   rw[hc] at h;simp only at h;cases hr:qT c z m (i+1) k with
   | none=>rw[hr] at h;cases h
   | some l' =>
    rw[hr] at h;simp only[Option.some.injEq] at h;subst h;have him:i<m:=by
     unfold cellAt at hc;split at hc
     ·assumption
     ·cases hc
    obtain⟨v',u,h1,h2,h3⟩:=h7 i him;rw[hc] at h1;cases h1;obtain⟨g1,g2,g3⟩:=ZU h7 k (i+1) l' hr;obtain⟨cD,hget⟩:=Array.getElem?_eq_some_iff.1 h2;refine⟨.inr (by omega),by simp[g2],?_⟩;rw[List.drop_eq_getElem_cons (i:=off+i) (by simpa using cD),List.take_succ_cons];refine .cons ?_ ?_
    ·have:arr.toList[off+i]=u:=by simpa using hget
     rw[this];exact h3
    ·simpa [Nat.add_assoc] using g3
theorem It (hR:R (env P) ι H n w) {b o:Nat} {l:Loc} (hl:ι b=some l) {k:Nat} {vs:List Value} (h:bI H ⟨b,o,none⟩ k=some vs) :
  ∃ us,(loadCells ⟨l.aT,l.off+o,none⟩ k).run P w=.ok us w∧bT ι vs us.toList∧vs.length=k:=by
 unfold bI at h;simp only at h;split at h
 ·rename_i c z m e room ro bB hs hb;obtain⟨l',arr,e',fz,h1,h2,_,_,_,_,h6,h7⟩:=BK hR hb;rw[hl] at h1;cases h1;obtain⟨g1,g2,g3⟩:=ZU h7 k o vs h;exact⟨_,run_loadCells h2 (by omega),by simpa using g3,g2⟩
 ·cases h
theorem aB3 (hR:R (env P) ι H n w) {b o:Nat} {l:Loc} (hl:ι b=some l) {v:Value} (h:aG H ⟨b,o,none⟩=some v) :
  jZ P ι w (load ⟨l.aT,l.off+o,none⟩) v:=by
 unfold aG at h;simp only at h;split at h
 ·rename_i c z m e room ro bB hs hb;obtain⟨l',arr,e',fz,h1,h2,_,_,_,_,h6,h7⟩:=BK hR hb;rw[hl] at h1;cases h1;have him:o<m:=by
   unfold cellAt at h;split at h
   ·assumption
   ·cases h
  obtain⟨v',u,g1,g2,g3⟩:=h7 o him;rw[h] at g1;cases g1;obtain⟨cD,hget⟩:=Array.getElem?_eq_some_iff.1 g2;refine⟨u,?_,g3⟩;have hc:w.cell? ⟨l.aT,l.off+o,none⟩=some u:=by simp[World.cell?,h2,g2]
  simp[load,Sem.run,hc]
 ·cases h
theorem Iv (hR:R (env P) ι H n w) {b o:Nat} {l:Loc} (hl:ι b=some l) {t:TypeId} {v:Value} (h:loadT (env P) H t ⟨b,o,none⟩=some v) :
  jZ P ι w (loadVar t ⟨l.aT,l.off+o,none⟩) v:=by
 unfold loadT at h;cases ht:(env P).ty t with
 | none=>rw[ht] at h;cases h
 | some i =>
  rw[ht] at h;simp only at h;unfold loadVar;cases hagg:i.agg with
  | true =>
   rw[hagg] at h;simp only[if_true] at h;cases hl':bI H ⟨b,o,none⟩ i.size with
   | none=>rw[hl'] at h;cases h
   | some vs =>
    rw[hl'] at h;simp only[Option.some.injEq] at h;subst h;obtain⟨us,g1,g2,_⟩:=It (P:=P) hR hl hl';exact⟨.agg us,by simp[ak ht,hagg,pZ ht,g1],.JV (by simpa using g2)⟩
  | false =>
   rw[hagg] at h;simp only[Bool.false_eq_true,if_false] at h;obtain⟨u,g1,g2⟩:=aB3 (P:=P) hR hl h;exact⟨u,by simp only[Sem.run_bind,ak ht,Result.andThen_ok,hagg,Bool.false_eq_true,if_false,g1],g2⟩
theorem xZ {a:Addr} {u:Value} (h:VR ι (.pointer (some a)) u):∃ b o l,a=⟨b,o,none⟩∧ι b=some l∧u=.pointer (some ⟨l.aT,l.off+o,none⟩):=by
 cases h with | ptr hl=>exact⟨_,_,_,rfl,hl,rfl⟩
theorem RN {t:TypeId} {cs cs':Array Value} (hcs:bT ι cs.toList cs'.toList) {off:Nat} {v:Value} (h:II (env P) t cs off=some v):jZ P ι w (part t cs' off) v:=by
 unfold II at h;cases ht:(env P).ty t with
 | none=>rw[ht] at h;cases h
 | some i =>
  rw[ht] at h;simp only at h;unfold part;cases hagg:i.agg with
  | true =>
   rw[hagg] at h;simp only[if_true] at h;split at h
   ·rename_i hsz;simp only[Option.some.injEq] at h;subst h;refine⟨.agg (cs'.extract off (off+i.size)),by simp[ak ht,hagg,pZ ht],.JV ?_⟩;have h1:(cs.extract off (off+i.size)).toList=(cs.toList.drop off).take i.size:=by simp
    have h2:(cs'.extract off (off+i.size)).toList=(cs'.toList.drop off).take i.size:=by simp
    rw[h1,h2];exact(hcs.drop off).take _
   ·cases h
  | false =>
   rw[hagg] at h;simp only[Bool.false_eq_true,if_false] at h;obtain⟨u,g1,g2⟩:=hcs.GM off (v:=v) (by simpa using h);refine⟨u,?_,g2⟩;have:cs'[off]?=some u:=by simpa using g1
   simp[ak ht,hagg,this]
theorem Vo {op:BinOp} {k:IntKind} {x y:Int} {v:Value} (hs1:op≠.shl) (hs2:op≠.shr) (t:TypeId) (h:arith op k x y=some v) :
    (binOp op t (.int k x) (.int k y)).run P w=.ok v w∧VR ι v v:=by
  unfold arith at h;split at h <;> first
    | (simp only[Option.some.injEq] at h;subst h;exact⟨by simp[binOp,Op.intArith,Op.intBits],.int _ _⟩)
    | (split at h
       · cases h
       · rename_i hy
         simp only[Option.some.injEq] at h;subst h;exact⟨by simp[binOp,Op.intDiv,hy],.int _ _⟩)
    | skip
  have hc:=h;unfold zt at hc;split at hc <;> simp only[Option.some.injEq,reduceCtorEq] at hc <;> subst hc <;> exact⟨by simp[binOp,Op.intCmp],.bool _⟩
theorem Pu {op:BinOp} {k k':IntKind} {x y:Int} {v:Value} (hop:op=.shl∨op=.shr) (t:TypeId) (h:wJ op k x y=some v) :
  (binOp op t (.int k x) (.int k' y)).run P w=.ok v w∧VR ι v v:=by
 unfold wJ at h;split at h
 ·cases h
 ·rename_i hy;rcases hop with rfl | rfl
  ·simp only[Option.some.injEq] at h;subst h;exact⟨by simp[binOp,Op.shift,hy],.int _ _⟩
  ·simp only[Option.some.injEq] at h;subst h;exact⟨by simp[binOp,Op.shift,hy],.int _ _⟩
theorem aGm {op:BinOp} {x y:ByteArray} {v:Value} (t:TypeId) (h:tl op x y=some v):(binOp op t (.string x) (.string y)).run P w=.ok v w∧VR ι v v:=by
 unfold tl at h;split at h
 ·split at h
  ·cases h
  ·rename_i hsz;simp only[Option.some.injEq] at h;subst h;exact⟨by simp only[binOp,Op.stringOp];rw[if_neg hsz];rfl,.string _⟩
 all_goals first
  | (simp only[Option.some.injEq] at h;subst h;exact⟨by simp[binOp,Op.stringOp],.bool _⟩)
  | cases h
theorem Gt (hR:R (env P) ι H n w) {b:Nat} (h:isCells H b=true) :
  ∃ o l arr e,H b=some o∧o.cX=false∧ι b=some l∧l.ro=false∧w.heap[l.aT]?=some (.cells arr e (0,0)):=by
 unfold isCells at h;split at h
 ·rename_i c z m e room bB hb;obtain⟨l,arr,e',fz,h1,h2,h3,h4,_⟩:=BK hR hb;rw[h3 rfl] at h2;exact⟨_,l,arr,e',hb,rfl,h1,h4,h2⟩
 ·cases h
theorem aFp {a b:Addr} {arr arr':Array Value} {e e':TypeId} (hne:a.block≠b.block) (ha:w.heap[a.block]?=some (.cells arr e (0,0)))
  (hb:w.heap[b.block]?=some (.cells arr' e' (0,0))):(sameAddr a b).run P w=.ok false w:=by
 have fa:∀ o s,w.frozen? ⟨a.block,o,s⟩=false:=fun o s=>by simp[World.frozen?,ha]
 have fb:∀ o s,w.frozen? ⟨b.block,o,s⟩=false:=fun o s=>by simp[World.frozen?,hb]
 have sa:w.shape? a.block=some (e,arr.size):=by simp[World.shape?,ha]
 have sb:w.shape? b.block=some (e',arr'.size):=by simp[World.shape?,hb]
 have fa':=fa a.off a.spot;have fb':=fb b.off b.spot;unfold sameAddr;simp only[beq_eq_false_iff_ne.2 hne,Bool.false_eq_true,if_false,Sem.run_bind,run_frozen,Result.andThen_ok,fa',fb',Bool.and_self,noView,viewAt,run_shape,sa,sb,Option.isSome_some,if_true,
  Sem.run_pure,mayBeOne,stringish,fa,fb,Bool.false_and,Bool.or_self,Option.isSome_none]
theorem Ks {u:Value} (h:VR ι (.pointer none) u):u=.pointer none:=by cases h;rfl
theorem gf {d:Nat} {f:TypeId→Value→Value→Option Bool} {xs ys xs' ys':Array Value} (hx:bT ι xs.toList xs'.toList) (hy:bT ι ys.toList ys'.toList)
  (hf:∀ t x y x' y' b,f t x y=some b→VR ι x x'→VR ι y y'→(Op.equalIn d t x' y').run P w=.ok b w) :
  ∀ (fs:List Field) (b:Bool),eqFields (env P) f xs ys fs=some b→(Op.eqFields d xs' ys' fs).run P w=.ok b w
 | [],b,h=>by simp only[eqFields,Option.some.injEq] at h;subst h;rfl
 | fd::fs,b,h=>by
  simp only[eqFields] at h;simp only[Op.eqFields];by_cases hn:fd.name= "_"
  ·rw[if_pos hn] at h;rw[if_neg (by simpa using hn)];exact gf hx hy hf fs b h
  ·rw[if_neg hn] at h;rw[if_pos hn];split at h
   ·rename_i u v hu hv;obtain⟨u',g1,g2⟩:=RN (P:=P) (w:=w) hx hu;obtain⟨v',g3,g4⟩:=RN (P:=P) (w:=w) hy hv;simp only[Sem.run_bind,g1,g3,Result.andThen_ok];split at h
    ·rename_i he;simp only[hf _ _ _ _ _ _ he g2 g4,Result.andThen_ok,Bool.not_true,Bool.false_eq_true,if_false];exact gf hx hy hf fs b h
    ·rename_i he;simp only[Option.some.injEq] at h;subst h;simp only[hf _ _ _ _ _ _ he g2 g4,Result.andThen_ok,Bool.not_false,if_true,Sem.run_pure]
    ·cases h
   ·cases h
set_option maxHeartbeats 2000000 in
theorem Ao (hR:R (env P) ι H n w):∀ (d e:Nat),d≤e→∀ (t:TypeId) (x y x' y':Value) (b:Bool),jF (env P) H d t x y=some b→VR ι x x'→VR ι y y' →
  (Op.equalIn e t x' y').run P w=.ok b w
 | 0,_,_,_,_,_,_,_,_,h,_,_=>by simp[jF] at h
 | d+1,e,hde,t,x,y,x',y',b,h,hx,hy=>by
  obtain⟨e,rfl⟩:∃ m,e=m+1:=⟨e-1,by omega⟩;simp only[jF] at h;cases ht:(env P).ty t with
  | none=>rw[ht] at h;cases h
  | some i =>
   rw[ht] at h;simp only at h;obtain⟨inf,_,hu,_,_,_,_,_,hcmp⟩:=FJ ht;split at h
   ·rename_i hd;rw[hx.yY,hy.yY];simp only[Option.some.injEq] at h;subst h;rw[hd] at hu;exact run_equalIn_bool' w e t _ _ hu
   ·rename_i hd;rw[hx.int_eq,hy.int_eq];split at h
    ·rename_i hk;subst hk;simp only[Option.some.injEq] at h;subst h;rw[hd] at hu;exact run_equalIn_int w e t _ _ _ _ hu
    ·cases h
   ·rename_i hd;rw[hx.tZ,hy.tZ];simp only[Option.some.injEq] at h;subst h;rw[hd] at hu;exact run_equalIn_string w e t _ _ hu
   ·
    rename_i el hd;simp only[Option.some.injEq] at h;subst h;rw[Ks hx];rw[hd] at hu;cases hy with
    | MG=>simp[Op.equalIn,run_underlying hu]
    | ptr hl=>simp[Op.equalIn,run_underlying hu]
   ·rename_i el a hd;simp only[Option.some.injEq] at h;subst h;rw[Ks hy];rw[hd] at hu;obtain⟨_,_,_,_,_,rfl⟩:=xZ hx;simp[Op.equalIn,run_underlying hu]
   ·rename_i el a a' hd;rw[hd] at hu;cases hel:(env P).ty el with
    | none=>rw[hel] at h;cases h
    | some ei =>
     rw[hel] at h;simp only at h;split at h
     ·cases h
     ·rename_i hsz;obtain⟨b1,o1,l1,rfl,hl1,rfl⟩:=xZ hx;obtain⟨b2,o2,l2,rfl,hl2,rfl⟩:=xZ hy;simp only at h;have hsz':(ei.size != 0)=true:=by simpa using hsz
      have key:(Op.equalIn (e+1) t (.pointer (some ⟨l1.aT,l1.off+o1,none⟩)) (.pointer (some ⟨l2.aT,l2.off+o2,none⟩))).run P w =
        (sameAddr ⟨l1.aT,l1.off+o1,none⟩ ⟨l2.aT,l2.off+o2,none⟩).run P w:=by
       simp only[Op.equalIn,Sem.run_bind,run_underlying hu,Result.andThen_ok,pZ hel,ne_eq,hsz,not_false_eq_true,if_true]
      rw[key];split at h
      ·rename_i hbb;subst hbb;simp only[Option.some.injEq] at h;subst h;rw[hl1] at hl2;cases hl2;simp only[sameAddr,BEq.rfl,if_true,Sem.run_pure];congr 1;by_cases ho:o1=o2
       ·subst ho;simp
       ·rw[beq_eq_false_iff_ne.2 ho];simp only[beq_eq_false_iff_ne,ne_eq,Addr.mk.injEq,true_and,and_true];omega
      ·rename_i hbb;split at h
       ·rename_i hcc;simp only[Option.some.injEq] at h;subst h;rw[Bool.and_eq_true] at hcc;obtain⟨q1,m1,arr1,e1,p1,p2,p3,p4,p5⟩:=Gt hR hcc.1;obtain⟨q2,m2,arr2,e2,r1,r2,r3,r4,r5⟩:=Gt hR hcc.2;rw[hl1] at p3;cases p3;rw[hl2] at r3;cases r3;exact aFp (fun he=>hbb (hR.inj _ _ _ _ _ _ p1 p2 r1 r2 hl1 hl2 p4 he)) p5 r5
       ·cases h
   ·rename_i hd;simp only[Option.some.injEq] at h;subst h;rw[hd] at hu;cases hx;cases hy;simp[Op.equalIn,run_underlying hu]
   ·rename_i hd;simp only[Option.some.injEq] at h;subst h;rw[hd] at hu;cases hx;cases hy;simp[Op.equalIn,run_underlying hu]
   ·rename_i hd;simp only[Option.some.injEq] at h;subst h;rw[hd] at hu;cases hx;cases hy;simp[Op.equalIn,run_underlying hu]
   ·rename_i hd;simp only[Option.some.injEq] at h;subst h;rw[hd] at hu;cases hx;cases hy <;> simp[Op.equalIn,run_underlying hu]
   ·rename_i hd;simp only[Option.some.injEq] at h;subst h;rw[hd] at hu;cases hy;cases hx <;> simp only[Op.equalIn,Sem.run_bind,run_underlying hu,Result.andThen_ok,Sem.run_pure]
   ·rename_i hd;simp only[Option.some.injEq] at h;subst h;rw[hd] at hu;cases hx;cases hy <;> simp[Op.equalIn,run_underlying hu]
   ·rename_i hd;simp only[Option.some.injEq] at h;subst h;rw[hd] at hu;cases hy;cases hx;simp[Op.equalIn,run_underlying hu]
   ·rename_i hd;simp only[Option.some.injEq] at h;subst h;rw[hd] at hu;cases hx;cases hy;simp[Op.equalIn,run_underlying hu]
   ·rename_i hd;simp only[Option.some.injEq] at h;subst h;rw[hd] at hu;cases hx;cases hy <;> simp[Op.equalIn,run_underlying hu]
   ·rename_i hd;simp only[Option.some.injEq] at h;subst h;rw[hd] at hu;cases hy;cases hx <;> simp only[Op.equalIn,Sem.run_bind,run_underlying hu,Result.andThen_ok,Sem.run_pure]
   ·rename_i fields xs ys hd;split at h
    ·rename_i hc;rw[hd] at hu;obtain⟨xs',rfl,hxs⟩:=hx.OB;obtain⟨ys',rfl,hys⟩:=hy.OB;have hfo:P.fieldsOf t=fields:=by simp[Program.fieldsOf,hu]
     rw[run_equalIn_struct w e t xs' ys' (by rw[hfo];exact hu) (hcmp hc).1,hfo];refine gf hxs hys ?_ _ b h;intro t' x y x' y' b' hb hx' hy';split at hb
     ·exact Ao hR d e (by omega) t' x y x' y' b' hb hx' hy'
     ·cases hb
    ·cases h
   ·cases h
theorem gg {op:BinOp} {t:TypeId} {x y:Operand} {a b:Value} (h1:a=.nilIface→b=.nilIface→False) (h2:∀ cs ds,a=.agg cs→b=.agg ds→False) :
  (eqGuard op t x y a b).run P w=.ok () w:=by
 unfold eqGuard;cases op <;> first
  | rfl
  | (simp only[Bool.not_true,Bool.false_eq_true,if_false];rfl)
theorem Zm {op:BinOp} {t:TypeId} {x y:Operand} (hc:pV x=true∨pV y=true):(eqGuard op t x y .nilIface .nilIface).run P w=.ok () w:=by
  unfold eqGuard;cases op <;> first
    | rfl
    | (rcases hc with hc | hc
       · cases x <;> first | rfl | cases hc
       · cases y <;> first | (cases hc;done) | (cases x <;> rfl))
theorem VR.Kq {v u:Value} (h:VR ι v u):u=.nilIface→v=.nilIface:=by
 intro e;subst e;cases h;rfl
theorem VR.Vg {v:Value} {cs:Array Value} (h:VR ι v (.agg cs)):∃ ds,v=.agg ds:=by cases h;exact⟨_,rfl⟩
theorem VR.Gr {v:Value} {k:IntKind} {x:Int} (h:VR ι v (.int k x)):v=.int k x:=by cases h;rfl
theorem VR.Qu {v:Value} {x:ByteArray} (h:VR ι v (.string x)):v=.string x:=by cases h;rfl
theorem VR.o_ {v:Value} {k:FloatKind} {x:Nat} (h:VR ι v (.float k x)):v=.float k x:=by cases h;rfl
theorem VR.Xw {v:Value} {k:FloatKind} {x y:Nat} (h:VR ι v (.complex k x y)):False:=by cases h
theorem binOp_eql {t:TypeId} {a b:Value} (h1:∀ k x k' y,a=.int k x→b=.int k' y→False) (h2:∀ x y,a=.string x→b=.string y→False)
  (h3:∀ k x k' y,a=.float k x→b=.float k' y→False) (h4:∀ k x z k' y u,a=.complex k x z→b=.complex k' y u→False) :
  binOp .eql t a b=(do pure (.bool (← Op.equal t a b))):=by
 cases a <;> cases b <;> first
  | rfl
  | exact(h1 _ _ _ _ rfl rfl).elim
  | exact(h2 _ _ rfl rfl).elim
  | exact(h3 _ _ _ _ rfl rfl).elim
  | exact(h4 _ _ _ _ _ _ rfl rfl).elim
theorem binOp_neq {t:TypeId} {a b:Value} (h1:∀ k x k' y,a=.int k x→b=.int k' y→False) (h2:∀ x y,a=.string x→b=.string y→False)
  (h3:∀ k x k' y,a=.float k x→b=.float k' y→False) (h4:∀ k x z k' y u,a=.complex k x z→b=.complex k' y u→False) :
  binOp .neq t a b=(do pure (.bool (!(← Op.equal t a b)))):=by
 cases a <;> cases b <;> first
  | rfl
  | exact(h1 _ _ _ _ rfl rfl).elim
  | exact(h2 _ _ rfl rfl).elim
  | exact(h3 _ _ _ _ rfl rfl).elim
  | exact(h4 _ _ _ _ _ _ rfl rfl).elim
theorem Zl {d:Nat} {t:TypeId} {k:FloatKind} {x:Nat} {b:Value} {r:Bool} (h:jF (env P) H d t (.float k x) b=some r):False:=by
 cases d with
 | zero=>simp[jF] at h
 | succ d =>
  simp only[jF] at h;cases ht:(env P).ty t with
  | none=>rw[ht] at h;cases h
  | some i =>
   rw[ht] at h;simp only at h;cases hd:i.desc <;> rw[hd] at h <;> simp at h
theorem Zk {d:Nat} {t:TypeId} {cs:Array Value} {b:Value} {r:Bool} (h:jF (env P) H d t (.agg cs) b=some r):∃ i,(env P).ty t=some i∧i.cmp=true:=by
 cases d with
 | zero=>simp[jF] at h
 | succ d =>
  simp only[jF] at h;cases ht:(env P).ty t with
  | none=>rw[ht] at h;cases h
  | some i =>
   refine⟨i,rfl,?_⟩;rw[ht] at h;simp only at h;cases hc:i.cmp with
   | true=>rfl
   | false =>
    rw[hc] at h;cases hd:i.desc <;> rw[hd] at h <;> (try simp at h)
    cases b <;> simp at h
theorem Wm (hR:R (env P) ι H n w) {op:BinOp} {t:TypeId} {x y:Operand} {a b a' b' v:Value} (ha:VR ι a a') (hb:VR ι b b')
  (h:(if vH a b&&!(pV x||pV y) then none else binop (env P) H op t a b)=some v) :
  jZ P ι w (do eqGuard op t x y a' b';binOp op t a' b') v:=by
 have hn:vH a b=true→pV x=true∨pV y=true:=by
  intro hbn;rw[hbn] at h;simp only[Bool.true_and] at h;split at h
  ·cases h
  ·rename_i hc;cases hx:pV x with
   | true=>exact .inl rfl
   | false=>cases hy:pV y with
    | true=>exact .inr rfl
    | false=>rw[hx,hy] at hc;exact absurd rfl hc
 have h':binop (env P) H op t a b=some v:=by
  split at h
  ·cases h
  ·exact h
 clear h;have heq:∀ r,jF (env P) H 10 t a b=some r→(∀ k x k' y,a=.int k x→b=.int k' y→False)→(∀ x y,a=.string x→b=.string y→False) →
   (eqGuard op t x y a' b').run P w=.ok () w∧(binOp .eql t a' b').run P w=.ok (.bool r) w∧(binOp .neq t a' b').run P w=.ok (.bool (!r)) w:=by
  intro r hr hni hns;have hE:(Op.equal t a' b').run P w=.ok r w:=Ao hR 10 10000 (by omega) t a b a' b' r hr ha hb;have k1:∀ k x k' y,a'=.int k x→b'=.int k' y→False:=fun k x k' y e1 e2=>hni k x k' y (by subst e1;exact ha.Gr) (by subst e2;exact hb.Gr);have k2:∀ x y,a'=.string x→b'=.string y→False:=fun x y e1 e2=>hns x y (by subst e1;exact ha.Qu) (by subst e2;exact hb.Qu);have k3:∀ k x k' y,a'=.float k x→b'=.float k' y→False:=fun k x k' y e1 _=>by subst e1;rw[ha.o_] at hr;exact Zl hr
  have k4:∀ k x z k' y u,a'=.complex k x z→b'=.complex k' y u→False:=fun k x z k' y u e1 _=>by subst e1;exact ha.Xw
  refine⟨?_,by rw[binOp_eql k1 k2 k3 k4];simp[hE],by rw[binOp_neq k1 k2 k3 k4];simp[hE]⟩;by_cases mY:a'=.nilIface∧b'=.nilIface
  ·obtain⟨rfl,rfl⟩:=mY;refine Zm (hn ?_);rw[ha.Kq rfl,hb.Kq rfl];rfl
  ·by_cases hagg:(∃ cs,a'=.agg cs)∧(∃ ds,b'=.agg ds)
   ·obtain⟨⟨cs,rfl⟩,⟨ds,rfl⟩⟩:=hagg;obtain⟨cs',rfl⟩:=ha.Vg;obtain⟨i,hi,hc⟩:=Zk hr;obtain⟨inf,_,_,_,_,_,_,_,hcmp⟩:=FJ hi;exact run_eqGuard_agg w op t x y _ _ (hcmp hc).2
   ·exact gg (fun e1 e2=>mY ⟨e1,e2⟩) (fun cs ds e1 e2=>hagg ⟨⟨cs,e1⟩,⟨ds,e2⟩⟩)
 unfold binop at h';split at h'
 ·rename_i k x1 k' y1;rw[ha.int_eq,hb.int_eq];have hg:(eqGuard op t x y (.int k x1) (.int k' y1)).run P w=.ok () w:=gg (fun e=>by cases e) (fun _ _ e=>by cases e);have hk:(binOp op t (.int k x1) (.int k' y1)).run P w=.ok v w∧VR ι v v:=by
   split at h'
   ·exact Pu (.inl rfl) t h'
   ·exact Pu (.inr rfl) t h'
   ·rename_i h1 h2;split at h'
    ·rename_i hkk;subst hkk;exact Vo (fun e=>h1 e) (fun e=>h2 e) t h'
    ·cases h'
  exact⟨v,by simp only[Sem.run_bind,hg,Result.andThen_ok,hk.1],hk.2⟩
 ·rename_i x1 y1;rw[ha.tZ,hb.tZ];have hg:(eqGuard op t x y (.string x1) (.string y1)).run P w=.ok () w:=gg (fun e=>by cases e) (fun _ _ e=>by cases e);have hk:=aGm (P:=P) (ι:=ι) (w:=w) t h';exact⟨v,by simp only[Sem.run_bind,hg,Result.andThen_ok,hk.1],hk.2⟩
 ·rename_i hni hns;split at h'
  ·split at h'
   ·rename_i r hr;simp only[Option.some.injEq] at h';subst h';obtain⟨g1,g2,_⟩:=heq r hr (fun k x k' y e1 e2=>hni k x k' y e1 e2) (fun x y e1 e2=>hns x y e1 e2);exact⟨_,by simp only[Sem.run_bind,g1,Result.andThen_ok,g2],.bool _⟩
   ·cases h'
  ·split at h'
   ·rename_i r hr;simp only[Option.some.injEq] at h';subst h';obtain⟨g1,_,g2⟩:=heq r hr (fun k x k' y e1 e2=>hni k x k' y e1 e2) (fun x y e1 e2=>hns x y e1 e2);exact⟨_,by simp only[Sem.run_bind,g1,Result.andThen_ok,g2],.bool _⟩
   ·cases h'
  ·cases h'
variable {P:Program} {ι:aQ} {H:bL} {n:Nat} {w:World}
theorem aH2 {op:UnOp} {a a' v:Value} (ha:VR ι a a') (h:unop op a=some v):jZ P ι w (Op.unary op a') v:=by
 unfold unop at h;split at h
 ·rw[ha.int_eq];simp only[Option.some.injEq] at h;subst h;exact⟨_,by simp[Op.unary,Op.intArith],.int _ _⟩
 ·rw[ha.yY];simp only[Option.some.injEq] at h;subst h;exact⟨_,by simp[Op.unary],.bool _⟩
 ·cases h
theorem Xy {src dst:TypeId} {a a' v:Value} (ha:VR ι a a') (h:xE (env P) src dst a=some v):jZ P ι w (convert src dst a') v:=by
 unfold xE at h;split at h
 ·rename_i s d hs hd;split at h
  ·rename_i hk;rw[ha.int_eq];simp only[Option.some.injEq] at h;subst h;refine⟨_,?_,.int _ _⟩;unfold convert;simp only[Sem.run_bind,fA hs,fA hd,Result.andThen_ok,hk];simp[Conv.intToInt]
  ·rename_i hk;rw[ha.tZ];simp only[Option.some.injEq] at h;subst h;refine⟨_,?_,.string _⟩;unfold convert;simp only[Sem.run_bind,fA hs,fA hd,Result.andThen_ok,hk];simp
  ·cases h
 ·cases h
theorem He {d:TypeDesc} {k x:Value} (hk:BT d k=true) {b:Bool}
  (h:vZ k x=some b):Instr.sameNow d k x=some b:=by
 unfold vZ at h;split at h
 ·split at h
  ·rename_i hkk;subst hkk;cases d <;> simp[BT] at hk
   simp only[Option.some.injEq] at h;subst h;simp[Instr.sameNow]
  ·cases h
 ·cases d <;> simp[BT] at hk
  simp only[Option.some.injEq] at h;subst h;simp[Instr.sameNow]
 ·cases d <;> simp[BT] at hk
  simp only[Option.some.injEq] at h;subst h;simp[Instr.sameNow]
 ·cases h
theorem pj {t:TypeId} {k:Value} (h:EG (env P) t k=true):∃ i,(env P).ty t=some i ∧
  BT i.desc k=true:=by
 unfold EG at h;cases ht:(env P).ty t with
 | none=>rw[ht] at h;cases h
 | some i =>
  rw[ht] at h;exact⟨i,rfl,h⟩
theorem pk {t:TypeId} {k k':Value} (h:EG (env P) t k=true) (hk:VR ι k k'):k'=k:=by
 obtain⟨i,_,h2⟩:=pj h;cases hd:i.desc <;> rw[hd] at h2 <;> cases k <;> simp[BT] at h2 <;> first | exact hk.int_eq | exact hk.tZ | exact hk.yY
theorem ph {k x:Value} {b:Bool} (h:vZ k x=some b) {x':Value} (hx:VR ι x x'):x'=x:=by
 unfold vZ at h;split at h
 ·exact hx.int_eq
 ·exact hx.tZ
 ·exact hx.yY
 ·cases h
theorem run_checkKey {t:TypeId} {k:Value} (h:EG (env P) t k=true) (e:Bool):(Instr.checkKey e 10000 t k).run P w=.ok () w:=by
 obtain⟨i,ht,h2⟩:=pj h;cases hd:i.desc <;> rw[hd] at h2 <;> cases k <;> simp[BT] at h2 <;>
  (unfold Instr.checkKey;simp only[Sem.run_bind,fA ht,hd,Result.andThen_ok,Sem.run_pure])
theorem Bw {d:TypeDesc} {k:Value} (hk:BT d k=true) :
  ∀ {es es':List MapEntry} (_:fL ι es es') (i:Nat) (r:Option (Nat×Value)),mE k es i=some r →
   ∃ r',Instr.findNow d k es' i=some r'∧(match r with
    | none=>r'=none
    | some (j,v)=>∃ v',r'=some (j,v')∧VR ι v v'∧i≤j∧∃ e,es[j-i]?=some e∧vZ k e.key=some true)
 | _,_,.nil,i,r,h=>by
  simp only[mE,Option.some.injEq] at h;subst h;exact⟨none,rfl,rfl⟩
 | e::es,e'::es',.cons he t,i,r,h=>by
  simp only[mE] at h;simp only[Instr.findNow];split at h
  ·rename_i hq;simp only[Option.some.injEq] at h;subst h;rw[ph hq he.key,He hk hq];exact⟨_,rfl,_,rfl,he.val,Nat.le_refl _,e,by simp,hq⟩
  ·rename_i hq;rw[ph hq he.key,He hk hq];obtain⟨r',g1,g2⟩:=Bw hk t (i+1) r h;refine⟨r',g1,?_⟩;cases r with
   | none=>exact g2
   | some p =>
    obtain⟨v',h1,h2,h3,e2,h4,h5⟩:=g2;refine⟨v',h1,h2,by omega,e2,?_,h5⟩;rw[show p.1-i=(p.1-(i+1))+1 from by omega,List.getElem?_cons_succ];exact h4
  ·cases h
def Found (ι:aQ) (k:Value) (es:List MapEntry):Option (Nat×Value)→Option (Nat×Value)→Prop
 | none,r'=>r'=none
 | some (j,v),r'=>∃ v',r'=some (j,v')∧VR ι v v'∧∃ e,es[j]?=some e∧vZ k e.key=some true
theorem run_findKey {t:TypeId} {k:Value} (hk:EG (env P) t k=true) {es es':List MapEntry} (he:fL ι es es') {r:Option (Nat×Value)} (h:mE k es 0=some r) :
  ∃ r',(Instr.findKey t k es').run P w=.ok r' w∧Found ι k es r r':=by
 obtain⟨i,ht,h2⟩:=pj hk;obtain⟨r',g1,g2⟩:=Bw h2 he 0 r h;refine⟨r',?_,?_⟩
 ·unfold Instr.findKey;simp only[Sem.run_bind,fA ht,Result.andThen_ok,g1,Sem.run_pure]
 ·cases r with
  | none=>exact g2
  | some p =>
   obtain⟨v',h1,h2,_,e,h3,h4⟩:=g2;exact⟨v',h1,h2,e,by simpa using h3,h4⟩
theorem QU (hR:R (env P) ι H n w) {r:Nat} {es:List MapEntry} {c:Nat} (h:mapOf H r=some (es,c)) :
  ∃ l es',ι r=some l∧l.ro=false∧l.off=0∧l.extra=0∧w.heap[l.aT]?=some (.map es' c)∧fL ι es es'.toList:=by
 unfold mapOf at h;split at h
 ·rename_i es0 c0 bB hr;simp only[Option.some.injEq,Prod.mk.injEq] at h;obtain⟨rfl,rfl⟩:=h;obtain⟨l,h1,h2,h3,h4,es',h5,h6⟩:=hR.obj r _ hr rfl;exact⟨l,es',h1,h2,h3,h4,h5,h6⟩
 ·cases h
theorem IB {r:Nat} {u:Value} (h:VR ι (.map (some r)) u):∃ l,ι r=some l∧u=.map (some l.aT):=by cases h with | map hl=>exact⟨_,hl,rfl⟩
theorem QY {u:Value} (h:VR ι (.map none) u):u=.map none:=by cases h;rfl
theorem yC {b:Nat} {es:Array MapEntry} {c:Nat} (h:w.heap[b]?=some (.map es c)):(getObj b).run P w=.ok (.map es c) w:=by simp[getObj,Sem.run,h]
theorem fL.length:∀ {l l':List MapEntry},fL ι l l'→l.length=l'.length
 | _,_,.nil=>rfl
 | _,_,.cons _ t=>by simp[fL.length t]
theorem MN {v v':Value} (h:VR ι v v') (b:Bool):VR ι (.tuple #[v,.bool b]) (.tuple #[v',.bool b]):=.tuple' (.cons h (.cons (.bool b) .nil))
theorem aBf (hR:R (env P) ι H n w) {t:TypeId} {x k x' k' v:Value} {ok:Bool} (hx:VR ι x x') (hk:VR ι k k') (h:wF (env P) H t x k ok=some v) :
  jZ P ι w (Instr.lookup t x' k' ok) v:=by
 unfold wF at h;unfold jZ;split at h
 ·rename_i kt et sz by_ ze ag me cm ht;split at h
  ·rename_i d2 s2 b2 z a2 m2 c2 het;split at h
   ·rename_i hkk;rw[pk hkk hk];have hz:=FQ het rfl;unfold Instr.lookup;simp only[Sem.run_bind,fA ht,Result.andThen_ok];split at h
    ·rw[QY hx];simp only[Sem.run_pure,Result.andThen_ok,run_checkKey hkk,Sem.run_bind];obtain⟨r',g1,g2⟩:=run_findKey (P:=P) (ι:=ι) (w:=w) hkk .nil (r:=none) rfl;cases (show r'=none from g2);simp only[g1,Result.andThen_ok,Sem.run_bind,AZ het rfl,Sem.run_pure];simp only[Option.some.injEq] at h;subst h;cases ok
     ·exact⟨z,rfl,.closed hz⟩
     ·exact⟨_,rfl,MN (.closed hz) _⟩
    ·rename_i r;obtain⟨l,hl,rfl⟩:=IB hx;split at h
     ·rename_i es c hm;obtain⟨l',es',q1,q2,q3,q4,q5,q6⟩:=QU hR hm;rw[hl] at q1;cases q1;simp only[Sem.run_bind,yC q5,Sem.run_pure,Result.andThen_ok,run_checkKey hkk];split at h
      ·rename_i j v0 hf;obtain⟨r',g1,v',g2,g3,_⟩:=run_findKey (P:=P) (w:=w) hkk q6 hf;subst g2;simp only[g1,Result.andThen_ok];simp only[Option.some.injEq] at h;subst h;cases ok
       ·exact⟨v',rfl,g3⟩
       ·exact⟨_,rfl,MN g3 _⟩
      ·rename_i hf;obtain⟨r',g1,g2⟩:=run_findKey (P:=P) (w:=w) hkk q6 hf;cases (show r'=none from g2);simp only[g1,Result.andThen_ok,Sem.run_bind,AZ het rfl,Sem.run_pure];simp only[Option.some.injEq] at h;subst h;cases ok
       ·exact⟨z,rfl,.closed hz⟩
       ·exact⟨_,rfl,MN (.closed hz) _⟩
      ·cases h
     ·cases h
    ·cases h
   ·cases h
  ·cases h
 ·cases h
theorem yy {len cap:Nat} {lo hi:Option Int} {l h:Nat} (hb:qF len cap lo hi=some (l,h)) :
  (match hi with | some x=>0≤x∧x≤(cap:Int)∧h=x.toNat | none=>h=len)∧(match lo with | some x=>0≤x∧x≤(h:Int)∧l=x.toNat | none=>l=0):=by
 unfold qF at hb;split at hb
 ·cases hb
 ·rename_i h0 hh;split at hb
  ·cases hb
  ·rename_i l0 hl;simp only[Option.some.injEq,Prod.mk.injEq] at hb;obtain⟨rfl,rfl⟩:=hb;constructor
   ·cases hi with
    | none=>simp only[Option.some.injEq] at hh;exact hh.symm
    | some x =>
     simp only at hh;split at hh
     ·rename_i hc;simp only[Option.some.injEq] at hh;exact⟨hc.1,hc.2,hh.symm⟩
     ·cases hh
   ·cases lo with
    | none=>simp only[Option.some.injEq] at hl;exact hl.symm
    | some x =>
     simp only at hl;split at hl
     ·rename_i hc;simp only[Option.some.injEq] at hl;exact⟨hc.1,hc.2,hl.symm⟩
     ·cases hl
def JT (ι:aQ):Option Value→Option Value→Prop
 | none,none=>True
 | some v,some u=>VR ι v u
 | _,_=>False
theorem aq {isSlice:Bool} {len cap cap':Nat} (hcap:cap≤cap') {lo hi lo' hi':Option Value} (hlo:JT ι lo lo') (hhi:JT ι hi hi') {il ih:Option Int}
  (hil:qO lo=some il) (hih:qO hi=some ih) {l h:Nat} (hb:qF len cap il ih=some (l,h)) :
  (Instr.sliceBounds isSlice len cap' lo' hi' none).run P w=.ok (l,h,cap') w:=by
 obtain⟨h1,h2⟩:=yy hb;have bound:∀ (v:Value) (k:IntKind) (x:Int) (y:Nat) (code:BoundsCode),v=.int k x→0≤x→x≤(y:Int)→(Instr.sliceBound v y code).run P w=.ok x.toNat w:=by
  intro v k x y code hv h0 h1;subst hv;simp[Instr.sliceBound,asIntOf,h0,h1]
 have ehi:(hi'=none→h=len)∧(∀ v' code,hi'=some v'→(Instr.sliceBound v' cap' code).run P w=.ok h w):=by
  cases hi with
  | none =>
   cases hi' with
   | none =>
    simp only[qO,Option.some.injEq] at hih;subst hih;exact⟨fun _=>h1,fun _ _ e=>(by cases e)⟩
   | some _=>exact hhi.elim
  | some v =>
   cases hi' with
   | none=>exact hhi.elim
   | some v' =>
    cases v <;> simp[qO] at hih
    rename_i k x;subst hih;obtain⟨g1,g2,rfl⟩:=h1;refine⟨fun e=>(by cases e),fun v2 code e=>?_⟩;cases e;exact bound _ k x _ _ (VR.int_eq hhi) g1 (by omega)
 have elo:(lo'=none→l=0)∧(∀ v' code,lo'=some v'→(Instr.sliceBound v' h code).run P w=.ok l w):=by
  cases lo with
  | none =>
   cases lo' with
   | none =>
    simp only[qO,Option.some.injEq] at hil;subst hil;exact⟨fun _=>h2,fun _ _ e=>(by cases e)⟩
   | some _=>exact hlo.elim
  | some v =>
   cases lo' with
   | none=>exact hlo.elim
   | some v' =>
    cases v <;> simp[qO] at hil
    rename_i k x;subst hil;obtain⟨g1,g2,rfl⟩:=h2;refine⟨fun e=>(by cases e),fun v2 code e=>?_⟩;cases e;exact bound _ k x _ _ (VR.int_eq hlo) g1 (by omega)
 unfold Instr.sliceBounds;cases hi' with
 | none =>
  have:=ehi.1 rfl;subst this;cases lo' with
  | none =>
   have:=elo.1 rfl;subst this;rfl
  | some v=>simp[elo.2 v _ rfl]
 | some v =>
  cases lo' with
  | none =>
   have:=elo.1 rfl;subst this;simp[ehi.2 v _ rfl]
  | some u=>simp[ehi.2 v _ rfl,elo.2 u _ rfl]
theorem YY {a b:Nat} {u:Value} (h:VR ι (.slice none a b) u):u=.slice none a b:=by cases h;rfl
theorem tj {b o len cap:Nat} {u:Value} (h:VR ι (.slice (some ⟨b,o,none⟩) len cap) u):∃ l,ι b=some l∧u=.slice (some ⟨l.aT,l.off+o,none⟩) len (cap+l.extra):=by
 cases h with | slice _ _ hl=>exact⟨_,hl,rfl⟩
theorem aGj (hR:R (env P) ι H n w) {t:TypeId} {x x' v:Value} {lo hi mx lo' hi' mx':Option Value} (hx:VR ι x x') (hlo:JT ι lo lo') (hhi:JT ι hi hi') (hmx:JT ι mx mx')
  (h:mM (env P) H t x lo hi mx=some v):jZ P ι w (Instr.sliceAt t x' lo' hi' mx') v:=by
 unfold jZ;unfold mM at h;cases mx with
 | some _=>cases h
 | none =>
 cases mx' with
 | some _=>exact hmx.elim
 | none =>
 simp only at h;split at h
 ·rename_i i il ih ht hil hih;unfold Instr.sliceAt;simp only[Sem.run_bind,fA ht,Result.andThen_ok];split at h
  ·
   rename_i s hd;rw[hx.tZ];split at h
   ·rename_i l h0 hb;split at h
    ·simp only[Option.some.injEq] at h;subst h;refine⟨_,?_,.string _⟩;rw[hd];simp only[Instr.slice,Sem.run_bind,fA ht,Result.andThen_ok,hd,Option.isSome_none,Bool.false_eq_true,if_false,Sem.run_pure];rw[aq (Nat.le_refl _) hlo hhi hil hih hb];rfl
    ·cases h
   ·cases h
  ·
   rename_i e hd;rw[YY hx];split at h
   ·rename_i ei hb he;simp only[Option.some.injEq] at h;subst h;refine⟨_,?_,.AO 0 0⟩;rw[hd];simp only[Instr.slice,Sem.run_bind,fA ht,Result.andThen_ok,hd];rw[aq (Nat.le_refl _) hlo hhi hil hih hb];simp[pZ he]
   ·cases h
  ·
   rename_i e a len cap hd;obtain⟨ab,ao,aJ6⟩:=a;cases aJ6 with
   | some _=>cases h
   | none =>
   simp only at h;obtain⟨l,hl,rfl⟩:=tj hx;split at h
   ·rename_i lo0 hi0 ei c z m e' room ro bB hb he hH;split at h
    ·rename_i hle;obtain⟨q1,q2⟩:=yy hb;obtain⟨l',arr,e'',fz,p1,p2,p3,p4,p5,_⟩:=BK hR hH;rw[hl] at p1;cases p1;have hcaph:hi0≤cap:=hle.2;rw[hd];have hrun:(Instr.slice t (.slice (some ⟨l.aT,l.off+ao,none⟩) len (cap+l.extra)) lo' hi' none).run P w =
       .ok (.slice (if cap+l.extra=lo0 then some ⟨l.aT,l.off+ao,none⟩ else some ((⟨l.aT,l.off+ao,none⟩:Addr).add (lo0*ei.size))) (hi0-lo0) (cap+l.extra-lo0)) w:=by
      simp only[Instr.slice,Sem.run_bind,fA ht,Result.andThen_ok,hd];rw[aq (by omega) hlo hhi hil hih hb];simp[pZ he]
     refine⟨_,hrun,?_⟩;split at h
     ·rename_i hcl;subst hcl;have h0:hi0=cap:=by omega
      subst h0;simp only[Option.some.injEq] at h;subst h;simp only[Nat.sub_self];cases room with
      | true =>
       simp only[if_true];have:=VR.tX (ι:=ι) (o:=ao) (k:=hi0*ei.size) hl;by_cases hx0:l.extra=0
       ·simp only[hx0,if_true,Nat.add_zero] at this ⊢;simpa using this
       ·rw[if_neg (by omega),Addr.rH];rw[if_neg hx0] at this;rw[show hi0+l.extra-hi0=l.extra from by omega];exact this
      | false =>
       have hx0:=p5 rfl;simp only[Bool.false_eq_true,if_false,hx0,Nat.add_zero,if_true,Nat.sub_self];have:=VR.slice (ι:=ι) (o:=ao) 0 0 hl;simpa [hx0] using this
     ·rename_i hcl;simp only[Option.some.injEq] at h;subst h;rw[if_neg (by omega),Addr.rH,Addr.rH];have:=VR.slice (ι:=ι) (o:=ao+lo0*ei.size) (hi0-lo0) (cap-lo0) hl;rw[show cap+l.extra-lo0=cap-lo0+l.extra from by omega,Nat.add_assoc];exact this
    ·cases h
   ·cases h
  ·
   rename_i m e a hd;obtain⟨ab,ao,aJ6⟩:=a;cases aJ6 with
   | some _=>cases h
   | none =>
   simp only at h;obtain⟨_,_,l,e1,hl,rfl⟩:=xZ hx;cases e1;split at h
   ·rename_i lo0 hi0 ei c z m' e' ro bB hb he hH;split at h
    ·rename_i hle;obtain⟨l',arr,e'',fz,p1,p2,p3,p4,p5,_⟩:=BK hR hH;rw[hl] at p1;cases p1;have hx0:=p5 rfl;simp only[Option.some.injEq] at h;subst h;rw[hd];simp only[Instr.sureAddr,Sem.run_bind,Sem.run_pure,Result.andThen_ok];rw[aq (Nat.le_refl _) hlo hhi hil hih hb];simp only[Result.andThen_ok,pZ he];refine⟨_,rfl,?_⟩;split
     ·have:=VR.slice (ι:=ι) (o:=ao) (hi0-lo0) (m-lo0) hl;simpa [hx0] using this
     ·have:=VR.slice (ι:=ι) (o:=ao+lo0*ei.size) (hi0-lo0) (m-lo0) hl;rw[Addr.rH,Addr.rH];simpa [hx0,Nat.add_assoc] using this
    ·cases h
   ·cases h
  ·cases h
 ·cases h
end Go.Dust
