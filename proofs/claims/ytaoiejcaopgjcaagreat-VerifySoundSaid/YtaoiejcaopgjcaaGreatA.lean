/- The plain interpreter D and its laws (Da). -/
import Derived.RangeFuncLeaves
import Derived.OrdersIn
import Derived.RangeFuncOwn
import Derived.Laws.StructEq
set_option linter.unusedVariables false
set_option linter.unusedSimpArgs false
noncomputable section
namespace Go.Dust
inductive PT (α:Type) where
 | nil
 | node (v:Option α) (l r:PT α)
namespace PT
variable {α:Type}
noncomputable def get (t:PT α):Nat→Option α :=
 PT.rec (motive:=fun _=>Nat→Option α) (fun _=>none) (fun v _ _ gl gr n=>Bool.rec (motive:=fun _=>Option α) (Bool.rec (motive:=fun _=>Option α) (gr (Nat.div (Nat.pred n) 2)) (gl (Nat.div (Nat.pred n) 2)) (Nat.beq (Nat.mod n 2) 1)) v (Nat.beq n 0)) t
noncomputable def sW (f:Nat):PT α→Nat→α→PT α :=
 Nat.rec (motive:=fun _=>PT α→Nat→α→PT α) (fun t _ _=>t) (fun _ ih t n a =>
  PT.rec (motive:=fun _=>PT α)
   (Bool.rec (motive:=fun _=>PT α) (Bool.rec (motive:=fun _=>PT α) (.node none .nil (ih .nil (Nat.div (Nat.pred n) 2) a)) (.node none (ih .nil (Nat.div (Nat.pred n) 2) a) .nil) (Nat.beq (Nat.mod n 2) 1)) (.node (some a) .nil .nil) (Nat.beq n 0))
   (fun v l r _ _=>Bool.rec (motive:=fun _=>PT α) (Bool.rec (motive:=fun _=>PT α) (.node v l (ih r (Nat.div (Nat.pred n) 2) a)) (.node v (ih l (Nat.div (Nat.pred n) 2) a) r) (Nat.beq (Nat.mod n 2) 1)) (.node (some a) l r) (Nat.beq n 0)) t) f
noncomputable def set (t:PT α) (n:Nat) (a:α):PT α:=sW (n+1) t n a
def NB (t:PT α) (n:Nat):List α→PT α
 | []=>t
 | a::aAm=>(t.set n a).NB (n+1) aAm
def ofList (l:List α):PT α:=PT.nil.NB 0 l
end PT
inductive cQ (α:Type) where
 | fail (why:String)
 | ret (a:α)
 | ask (n:Nat) (k:Nat→cQ α)
namespace cQ
variable {α β:Type}
def bind:cQ α→(α→cQ β)→cQ β
 | fail w,_=>fail w
 | ret a,f=>f a
 | ask n k,f=>ask n fun i=>(k i).bind f
def yY (Φ:α→Prop):cQ α→Prop
 | fail _=>False
 | ret a=>Φ a
 | ask n k=>∀ i,i<n→(k i).yY Φ
def Lv (Φ:α→Prop):cQ α→Prop
 | fail _=>True
 | ret a=>Φ a
 | ask n k=>∀ i,i<n→(k i).Lv Φ
def ofOption (w:String):Option α→cQ α
 | some a=>ret a
 | none=>fail w
end cQ
inductive bX where
 | cells (c:PT Value) (z:List Value) (n:Nat) (elem:TypeId) (room ro:Bool) (dF:Nat)
 | map (es:List MapEntry) (clock:Nat) (dF:Nat)
 | eU (m:Option Nat) (since:Nat) (seen:List Nat) (stepped:Nat) (dF:Nat)
 | nW (s:ByteArray) (pos:Nat) (dF:Nat)
 | loop (st:LoopState) (pending:Option Code) (tmps:PT Value) (nt:Nat) (params:Array Tmp) (assign body:Code) (dF:Nat)
 | dead
def bX.dF:bX→Nat
 | cells _ _ _ _ _ _ v | map _ _ v | eU _ _ _ _ v | nW _ _ v | loop _ _ _ _ _ _ _ v=>v
 | dead=>0
def bX.bC:bX→Bool
 | dead=>true
 | _=>false
structure St where
 heap:PT bX
 next:Nat
 cM:Nat
abbrev aY:=Nat→Option bX
def St.look (s:St):aY:=fun b=>s.heap.get b
def St.put (s:St) (b:Nat) (f:Nat→bX):St:={heap:=s.heap.set b (f s.cM),next:=s.next,cM:=s.cM+1}
def St.new (s:St) (f:Nat→bX):St:={heap:=s.heap.set s.next (f s.cM),next:=s.next+2,cM:=s.cM+1}
structure Ty where
 desc:TypeDesc
 size:Nat
 bytes:Nat
 zero:Option Value
 agg:Bool
 methods:Array Method
 cmp:Bool
structure Env where
 ty:Nat→Option Ty
 fn:Nat→Option Func
def oM:Value→Bool
 | .bool _ | .int .. | .string _ | .pointer none | .slice none _ _ | .map none | .nilFunc | .nilIface | .float ..=>true
 | _=>false
def uA:Value→Bool
 | .agg cs=>cs.toList.all oM
 | .tuple cs=>cs.toList.all oM
 | v=>oM v
def aggOf:TypeDesc→Bool
 | .struct _ | .array _ _=>true
 | _=>false
def mkTy (P:Program) (t:TypeId):Option Ty :=
 match P.info? t,P.underlying t with
 | some i,some d=>some {desc:=d,size:=i.size,bytes:=i.bytes,zero:=(match i.zero with | some z=>if uA z then some z else none | none=>none),agg:=aggOf d,methods:=i.methods,cmp:=!P.stoodInHeld t&&!P.eqGuardType P.depth t}
 | _,_=>none
structure bD where
 tmps:PT Value
 nt:Nat
def bD.aD (a:bD) (t:Nat):Value:=(a.tmps.get t).getD undef
def bD.put (a:bD) (d:Option Tmp) (v:Value):bD:=match d with
 | some d=>{tmps:=a.tmps.set d v,nt:=a.nt}
 | none=>a
def bD.eval (a:bD):Operand→Value
 | .tmp t=>a.aD t
 | .const v=>v
 | .global g=>.pointer (some ⟨2*g,0,none⟩)
 | .func f=>.func (.func f) #[] #[]
def cellAt (c:PT Value) (z:List Value) (n i:Nat):Option Value :=
 if i<n then some (match c.get i with | some v=>v | none=>z.getD (i%z.length) undef) else none
def dJ (c:PT Value) (z:List Value) (n:Nat):Nat→Nat→Option (List Value)
 | _,0=>some []
 | i,k+1=>match cellAt c z n i with
  | some v=>match dJ c z n (i+1) k with
   | some l=>some (v::l)
   | none=>none
  | none=>none
def aS (H:aY) (a:Addr) (k:Nat):Option (List Value) :=
 match a.spot,H a.block with
 | none,some (.cells c z n _ _ _ _)=>dJ c z n a.off k
 | _,_=>none
def aI (H:aY) (a:Addr):Option Value :=
 match a.spot,H a.block with
 | none,some (.cells c z n _ _ _ _)=>cellAt c z n a.off
 | _,_=>none
def loadT (X:Env) (H:aY) (t:TypeId) (a:Addr):Option Value :=
 match X.ty t with
 | some i=>if i.agg then(match aS H a i.size with | some l=>some (.agg l.toArray) | none=>none) else aI H a
 | none=>none
def kZ:Value→Bool
 | .agg _ | .tuple _=>false
 | _=>true
def bJ (s:St) (a:Addr) (vs:List Value):Option St :=
 match a.spot,s.heap.get a.block with
 | none,some (.cells c z n e r false _) =>
  if a.off+vs.length≤n∧vs.all kZ=true then some (s.put a.block fun v=>.cells (c.NB a.off vs) z n e r false v) else none
 | _,_=>none
def storeT (X:Env) (s:St) (t:TypeId) (a:Addr) (v:Value):Option St :=
 match X.ty t with
 | some i=>if v.cells.size=i.size then bJ s a v.cells.toList else none
 | none=>none
def KM (X:Env) (t:TypeId) (cs:Array Value) (off:Nat):Option Value :=
 match X.ty t with
 | some i=>if i.agg then(if off+i.size≤cs.size then some (.agg (cs.extract off (off+i.size))) else none) else cs[off]?
 | none=>none
def cmpI (op:BinOp) (x y:Int):Option Value :=
 match op with
 | .eql=>some (.bool (x==y))
 | .neq=>some (.bool (x != y))
 | .lss=>some (.bool (decide (x<y)))
 | .leq=>some (.bool (decide (x≤y)))
 | .gtr=>some (.bool (decide (x>y)))
 | .geq=>some (.bool (decide (x≥y)))
 | _=>none
def arith (op:BinOp) (k:IntKind) (x y:Int):Option Value :=
 match op with
 | .add=>some (.int k (k.wrap (x+y)))
 | .sub=>some (.int k (k.wrap (x-y)))
 | .mul=>some (.int k (k.wrap (x*y)))
 | .quo=>if y=0 then none else some (.int k (k.wrap (x.tdiv y)))
 | .rem=>if y=0 then none else some (.int k (x.tmod y))
 | .and=>some (.int k (k.wrap ((BitVec.ofInt k.bits x &&& BitVec.ofInt k.bits y).toNat)))
 | .or=>some (.int k (k.wrap ((BitVec.ofInt k.bits x ||| BitVec.ofInt k.bits y).toNat)))
 | .xor=>some (.int k (k.wrap ((BitVec.ofInt k.bits x ^^^ BitVec.ofInt k.bits y).toNat)))
 | .andNot=>some (.int k (k.wrap ((BitVec.ofInt k.bits x &&& ~~~ BitVec.ofInt k.bits y).toNat)))
 | _=>cmpI op x y
def pU (op:BinOp) (k:IntKind) (x y:Int):Option Value :=
 if y<0 then none
 else match op with
  | .shl=>some (.int k (k.wrap (x*2 ^ (min y.toNat k.bits))))
  | .shr=>some (.int k (x.fdiv (2 ^ (min y.toNat k.bits))))
  | _=>none
def strI (op:BinOp) (x y:ByteArray):Option Value :=
 match op with
 | .add=>if ((x.size+y.size:Nat):Int)>IntKind.i64.max then none else some (.string (x++y))
 | .eql=>some (.bool (x.toList==y.toList))
 | .neq=>some (.bool (!(x.toList==y.toList)))
 | .lss=>some (.bool (Op.bytesLess x.toList y.toList))
 | .leq=>some (.bool (Op.bytesLess x.toList y.toList||(x.toList==y.toList)))
 | .gtr=>some (.bool (!(Op.bytesLess x.toList y.toList||(x.toList==y.toList))))
 | .geq=>some (.bool (!Op.bytesLess x.toList y.toList))
 | _=>none
def isCells (H:aY) (b:Nat):Bool:=match H b with | some (.cells _ _ _ _ _ false _)=>true | _=>false
def EE:Value→Bool
 | .int .. | .bool _ | .string _ | .agg _=>true
 | _=>false
def eqFields (X:Env) (f:TypeId→Value→Value→Option Bool) (xs ys:Array Value):List Field→Option Bool
 | []=>some true
 | fd::rest =>
  if fd.name= "_" then eqFields X f xs ys rest
  else match KM X fd.type xs fd.offset,KM X fd.type ys fd.offset with
   | some u,some v=>match f fd.type u v with
    | some true=>eqFields X f xs ys rest
    | some false=>some false
    | none=>none
   | _,_=>none
def mW (X:Env) (H:aY):Nat→TypeId→Value→Value→Option Bool
 | 0,_,_,_=>none
 | d+1,t,x,y =>
  match X.ty t with
  | none=>none
  | some i=>match i.desc,x,y with
   | .bool,.bool a,.bool b=>some (a==b)
   | .int _,.int k a,.int k' b=>if k=k' then some (a==b) else none
   | .string,.string a,.string b=>some (a.toList==b.toList)
   | .pointer _,.pointer none,.pointer b=>some b.isNone
   | .pointer _,.pointer (some _),.pointer none=>some false
   | .pointer e,.pointer (some a),.pointer (some b) =>
    match X.ty e with
    | none=>none
    | some ei =>
     if ei.size=0 then none
     else match a.spot,b.spot with
      | none,none =>
       if a.block=b.block then some (a.off==b.off)
       else if isCells H a.block&&isCells H b.block then some false else none
      | _,_=>none
   | .interface _,.nilIface,.nilIface=>some true
   | .interface _,.nilIface,.iface _ _=>some false
   | .interface _,.iface _ _,.nilIface=>some false
   | .slice _,.slice none _ _,.slice b _ _=>some b.isNone
   | .slice _,.slice (some _) _ _,.slice none _ _=>some false
   | .map _ _,.map none,.map b=>some b.isNone
   | .map _ _,.map (some _),.map none=>some false
   | .func _ _ _,.nilFunc,.nilFunc=>some true
   | .func _ _ _,.nilFunc,.func _ _ _=>some false
   | .func _ _ _,.func _ _ _,.nilFunc=>some false
   | .struct fields,.agg xs,.agg ys=>if i.cmp then eqFields X (fun t x y=>if EE x then mW X H d t x y else none) xs ys fields.toList else none
   | _,_,_=>none
def binop (X:Env) (H:aY) (op:BinOp) (t:TypeId) (x y:Value):Option Value :=
 match x,y with
 | .int k a,.int k' b=>match op with
  | .shl=>pU op k a b
  | .shr=>pU op k a b
  | _=>if k=k' then arith op k a b else none
 | .string a,.string b=>strI op a b
 | x,y=>match op with
  | .eql=>match mW X H 10 t x y with
   | some b=>some (.bool b)
   | none=>none
  | .neq=>match mW X H 10 t x y with
   | some b=>some (.bool !b)
   | none=>none
  | _=>none
def unop (op:UnOp) (x:Value):Option Value :=
 match op,x with
 | .neg,.int k n=>some (.int k (k.wrap (0-n)))
 | .not,.bool b=>some (.bool !b)
 | _,_=>none
def iM (X:Env) (src dst:TypeId) (x:Value):Option Value :=
 match X.ty src,X.ty dst with
 | some _,some d=>match d.desc,x with
  | .int k,.int _ n=>some (.int k (k.wrap n))
  | .string,.string s=>some (.string s)
  | _,_=>none
 | _,_=>none
def vH:Value→Value→Option Bool
 | .int k a,.int k' b=>if k=k' then some (a==b) else none
 | .string a,.string b=>some (a==b)
 | .bool a,.bool b=>some (a==b)
 | _,_=>none
def kH (k:Value):List MapEntry→Nat→Option (Option (Nat×Value))
 | [],_=>some none
 | e::es,i=>match vH k e.key with
  | some true=>some (some (i,e.val))
  | some false=>kH k es (i+1)
  | none=>none
def qI:TypeDesc→Value→Bool
 | .int j,.int j' _=>decide (j=j')
 | .string,.string _=>true
 | .bool,.bool _=>true
 | _,_=>false
def FL (X:Env) (t:TypeId) (k:Value):Bool :=
 match X.ty t with
 | some i=>qI i.desc k
 | none=>false
def mapOf (H:aY) (r:Nat):Option (List MapEntry×Nat) :=
 match H r with
 | some (.map es c _)=>some (es,c)
 | _=>none
def kW (X:Env) (H:aY) (t:TypeId) (x k:Value) (ok:Bool):Option Value :=
 match X.ty t with
 | some {desc:=.map kt et,..} =>
  match X.ty et with
  | some {zero:=some z,..} =>
   if FL X kt k then
    match x with
    | .map none=>some (if ok then .tuple #[z,.bool false] else z)
    | .map (some r)=>match mapOf H r with
     | some (es,_)=>match kH k es 0 with
      | some (some (_,v))=>some (if ok then .tuple #[v,.bool true] else v)
      | some none=>some (if ok then .tuple #[z,.bool false] else z)
      | none=>none
     | none=>none
    | _=>none
   else none
  | _=>none
 | _=>none
def gO:Option Value→Option (Option Int)
 | none=>some none
 | some (.int _ n)=>some (some n)
 | some _=>none
def iD (len cap:Nat) (lo hi:Option Int):Option (Nat×Nat) :=
 match (match hi with | some h=>if 0≤h∧h≤(cap:Int) then some h.toNat else none | none=>some len) with
 | none=>none
 | some h=>match (match lo with | some l=>if 0≤l∧l≤(h:Int) then some l.toNat else none | none=>some 0) with
  | none=>none
  | some l=>some (l,h)
def dE (X:Env) (H:aY) (t:TypeId) (x:Value) (lo hi mx:Option Value):Option Value :=
 match mx with
 | some _=>none
 | none =>
 match X.ty t,gO lo,gO hi with
 | some i,some lo,some hi=>match i.desc,x with
  | .string,.string s=>match iD s.size s.size lo hi with
   | some (l,h)=>if l≤h then some (.string (s.extract l h)) else none
   | none=>none
  | .slice e,.slice none 0 0=>match iD 0 0 lo hi,X.ty e with
   | some (0,0),some _=>some (.slice none 0 0)
   | _,_=>none
  | .slice e,.slice (some a) len cap=>match a.spot with
   | none=>match iD len cap lo hi,X.ty e,H a.block with
    | some (l,h),some ei,some (.cells _ _ _ _ room _ _) =>
     if l≤h∧h≤cap then
      if cap=l then some (.slice (some (if room then⟨a.block,a.off,some (l*ei.size)⟩ else a)) (h-l) (cap-l))
      else some (.slice (some (a.add (l*ei.size))) (h-l) (cap-l))
     else none
    | _,_,_=>none
   | some _=>none
  | .array n e,.pointer (some a)=>match a.spot with
   | none=>match iD n n lo hi,X.ty e,H a.block with
    | some (l,h),some ei,some (.cells _ _ _ _ false _ _)=>if l≤h then some (.slice (some (if n=l then a else a.add (l*ei.size))) (h-l) (n-l)) else none
    | _,_,_=>none
   | some _=>none
  | _,_=>none
 | _,_,_=>none
def fJ (X:Env) (t:TypeId) (parts:List (Nat×Value)):Option Value :=
 match X.ty t with
 | some {desc:=.struct fields,zero:=some z,..} =>
  if fields.toList.all (fun f=>(X.ty f.type).isSome) then
   match Instr.fill ((fields.map fun f=>(f.offset,match X.ty f.type with | some ti=>ti.size | none=>0))[·]?) z.cells parts with
   | some cs=>some (.agg cs)
   | none=>none
  else none
 | some {desc:=.array _ e,zero:=some z,..}=>match X.ty e with
  | some ei=>match Instr.fill (fun i=>some (i*ei.size,ei.size)) z.cells parts with
   | some cs=>some (.agg cs)
   | none=>none
  | none=>none
 | _=>none
def BS (X:Env):List FieldStep→TypeId→Value→Option (TypeId×Value)
 | [],t,x=>some (t,x)
 | st::rest,_,x=>match X.ty st.struct with
  | some {desc:=.struct fields,..}=>match fields[st.index]?,st.deref,x with
   | some f,false,.agg cs=>match KM X f.type cs f.offset with
    | some v=>BS X rest f.type v
    | none=>none
   | _,_,_=>none
  | _=>none
def sG (X:Env) (t:TypeId) (v:Value) (name:String):Option (FuncId×Value) :=
 match X.ty t with
 | some i=>match i.methods.find? (·.name==name) with
  | some m=>match BS X m.path.toList t v with
   | some (xt,x)=>match m.func,X.ty xt with
    | some (f,true),some {desc:=.pointer _,..}=>some (f,x)
    | some (_,false),some {desc:=.pointer _,..}=>none
    | some (f,false),some _=>some (f,x)
    | _,_=>none
   | none=>none
  | none=>none
 | none=>none
def rH (want:Array (String×TypeId)) (got:Array Method):Bool :=
 want.toList.all fun(name,sig)=>got.any fun m=>m.name==name&&m.sig==sig
def jF (X:Env) (x:Value) (asserted:TypeId) (ok:Bool):Option Value :=
 match X.ty asserted,x with
 | some {desc:=.interface want,zero:=some z,..},.iface t v=>match X.ty t with
  | some i=>if rH want i.methods then some (if ok then .tuple #[.iface t v,.bool true] else .iface t v)
   else if ok then some (.tuple #[z,.bool false]) else none
  | none=>none
 | some {desc:=.interface _,..},_=>none
 | some _,.iface t v=>if t=asserted then some (if ok then .tuple #[v,.bool true] else v) else none
 | _,_=>none
def eT (less:Int→Int→Bool):Value→List Value→Option Value
 | v,[]=>some v
 | .int k x,.int k' y::rest=>if k=k' then eT less (.int k (if less x y then y else x)) rest else none
 | _,_=>none
def fA (X:Env) (H:aY) (t:TypeId) (x:Value):Option Value :=
 match X.ty t with
 | some i=>match i.desc,x with
  | .string,.string s=>some (goInt s.size)
  | .array n _,_=>some (goInt n)
  | .slice _,.slice _ n _=>some (goInt n)
  | .map _ _,.map none=>some (goInt (0:Nat))
  | .map _ _,.map (some r)=>match mapOf H r with
   | some (es,_)=>some (goInt es.length)
   | none=>none
  | _,_=>none
 | none=>none
def aO (X:Env) (s:TypeId) (x:Value) (f:Nat):Option Value :=
 match X.ty s,x with
  | some {desc:=.struct fields,..},.pointer (some a)=>match fields[f]?,a.spot with
   | some fd,none=>match X.ty fd.type with
    | some ti=>if ti.size=0 then none else some (.pointer (some (a.add fd.offset)))
    | none=>none
   | _,_=>none
  | _,_=>none
def wD (X:Env) (t:TypeId) (x:Value) (f:Nat):Option Value :=
 match X.ty t,x with
  | some {desc:=.struct fields,..},.agg cs=>match fields[f]? with
   | some fd=>KM X fd.type cs fd.offset
   | none=>none
  | _,_=>none
def bQ (X:Env) (t:TypeId) (x i:Value):Option Value :=
 match X.ty t,x,i with
  | some {desc:=.slice e,..},.slice (some a) len _,.int _ n=>match X.ty e,a.spot with
   | some ei,none=>if 0≤n∧n<(len:Int) then some (.pointer (some (a.add (n.toNat*ei.size)))) else none
   | _,_=>none
  | some {desc:=.array len e,..},.pointer (some a),.int _ n=>match X.ty e,a.spot with
   | some ei,none=>if 0≤n∧n<(len:Int) then some (.pointer (some (a.add (n.toNat*ei.size)))) else none
   | _,_=>none
  | _,_,_=>none
def uH (X:Env) (t:TypeId) (x i:Value):Option Value :=
 match X.ty t,x,i with
  | some {desc:=.string,..},.string s,.int _ n =>
   if 0≤n then match s[n.toNat]? with
    | some b=>some (.int .u8 b.toNat)
    | none=>none
   else none
  | some {desc:=.array len e,..},.agg cs,.int _ n=>match X.ty e with
   | some ei=>if 0≤n∧n<(len:Int) then KM X e cs (n.toNat*ei.size) else none
   | none=>none
  | _,_,_=>none
def nZ (H:aY) (it:Value):Option Value :=
 match it with
  | .pointer (some a)=>if a.off=0∧a.spot=none then match H a.block with
   | some (.eU (some m) _ (last::_) stepped _)=>match mapOf H m with
    | some (es,clock)=>if clock=stepped then match es.find? (·.born==last) with
     | some e=>some (.tuple #[e.key,e.val])
     | none=>none else none
    | none=>none
   | _=>none else none
  | _=>none
def mT (x:Value):Option Value :=
 match x with
  | .pointer (some a)=>some (.pointer (some a))
  | .func (.func f) a b=>some (.func (.func f) a b)
  | .func (.yield f) a b=>some (.func (.yield f) a b)
  | .iface t v=>some (.iface t v)
  | _=>none
def kB:Value→Value→Bool
 | .nilIface,.nilIface=>true
 | _,_=>false
def dY:Operand→Bool
 | .const _=>true
 | _=>false
def bS (X:Env) (H:aY) (ρ:Operand→Value):Op→Option Value
 | .move x=>some (ρ x)
 | .assign x=>some (ρ x)
 | .pick c a b=>match ρ c with | .bool t=>some (if t then ρ a else ρ b) | _=>none
 | .build t parts=>fJ X t (parts.toList.map fun(i,x)=>(i,ρ x))
 | .load t a=>match ρ a with | .pointer (some a)=>loadT X H t a | _=>none
 | .nilCheck x=>mT (ρ x)
 | .binOp op t x y _=>if kB (ρ x) (ρ y)&&!(dY x||dY y) then none else binop X H op t (ρ x) (ρ y)
 | .unOp op _ x=>unop op (ρ x)
 | .convert s d x=>iM X s d (ρ x)
 | .makeInterface t x=>match X.ty t with
  | some i=>match i.desc with
   | .interface _=>none
   | _=>some (.iface t (ρ x))
  | none=>none
 | .makeFunc fn first captured=>match fn with
  | .func f=>some (.func (.func f) (first.map ρ) (captured.map ρ))
  | .method m=>some (.func (.method m) (first.map ρ) (captured.map ρ))
  | _=>none
 | .slice t x lo hi mx=>dE X H t (ρ x) (lo.map ρ) (hi.map ρ) (mx.map ρ)
 | .fieldAddr s x f=>aO X s (ρ x) f
 | .field t x f=>wD X t (ρ x) f
 | .indexAddr t x i=>bQ X t (ρ x) (ρ i)
 | .index t x i=>uH X t (ρ x) (ρ i)
 | .lookup t x k ok=>kW X H t (ρ x) (ρ k) ok
 | .extract t i=>match ρ t with | .tuple vs=>vs[i]? | _=>none
 | .entry it=>nZ H (ρ it)
 | .typeAssert x _ t ok=>jF X (ρ x) t ok
 | .call c=>match c.callee with
  | .builtin .len=>match c.argTypes[0]?,c.args[0]? with
   | some t,some x=>fA X H t (ρ x)
   | _,_=>none
  | .builtin .min=>match c.args.toList.map ρ with
   | v::rest=>eT (fun x y=>decide (y<x)) v rest
   | _=>none
  | .builtin .max=>match c.args.toList.map ρ with
   | v::rest=>eT (fun x y=>decide (y>x)) v rest
   | _=>none
  | _=>none
 | _=>none
inductive Kind where
 | still | alloc | effect
 deriving DecidableEq
def bN:Op→Kind
 | .move _ | .assign _ | .pick .. | .build .. | .load .. | .nilCheck _ | .binOp .. | .unOp .. | .convert .. | .makeInterface .. | .makeFunc .. | .slice ..
 | .fieldAddr .. | .field .. | .indexAddr .. | .index .. | .lookup .. | .extract .. | .entry _ | .typeAssert ..=>.still
 | .call c=>match c.callee with
  | .builtin .len | .builtin .min | .builtin .max=>.still
  | _=>.effect
 | .alloc _ | .box .. | .buildSlice .. | .makeMap .. | .makeSlice ..=>.alloc
 | _=>.effect
def nameOf:Value→List Nat
 | .pointer (some a)=>[a.block]
 | .slice (some a) _ _=>[a.block]
 | .map (some r)=>[r]
 | _=>[]
def bZ (ρ:Operand→Value) (H:aY):Op→List Nat
 | .load _ a=>nameOf (ρ a)
 | .binOp _ _ x y _=>nameOf (ρ x)++nameOf (ρ y)
 | .slice _ x _ _ _=>nameOf (ρ x)
 | .lookup _ x _ _=>nameOf (ρ x)
 | .entry it=>nameOf (ρ it)++(match ρ it with
  | .pointer (some a)=>match H a.block with
   | some (.eU (some m) _ _ _ _)=>[m]
   | _=>[]
  | _=>[])
 | .call c=>match c.args[0]? with
  | some x=>nameOf (ρ x)
  | none=>[]
 | _=>[]
def cS (X:Env) (nm:Nat) (ρ:Operand→Value):Op→Option (Value×(Nat→bX))
 | .alloc e=>match X.ty e with
  | some {zero:=some z,..}=>some (.pointer (some ⟨nm,0,none⟩),fun v=>.cells (PT.ofList z.cells.toList) [] z.cells.size e false false v)
  | _=>none
 | .box e x=>some (.pointer (some ⟨nm,0,none⟩),fun v=>.cells (PT.ofList (ρ x).cells.toList) [] (ρ x).cells.size e false false v)
 | .buildSlice t len parts=>match X.ty t with
  | some {desc:=.slice e,..}=>match X.ty e with
   | some {zero:=some z,size:=esz,..} =>
    if len*esz≤2 ^ 24 then
     match Instr.fill (fun i=>some (i*esz,esz)) ((Array.range (len*esz)).map (z.cells[·%z.cells.size]!)) (parts.toList.map fun(i,x)=>(i,ρ x)) with
     | some cs=>some (.slice (some ⟨nm,0,none⟩) len len,fun v=>.cells (PT.ofList cs.toList) [] cs.size e false false v)
     | none=>none
    else none
   | _=>none
  | _=>none
 | .makeMap t r=>match X.ty t,r.map ρ with
  | some {desc:=.map _ _,..},none=>some (.map (some nm),fun v=>.map [] 0 v)
  | some {desc:=.map _ _,..},some (.int _ _)=>some (.map (some nm),fun v=>.map [] 0 v)
  | _,_=>none
 | .makeSlice t len cap=>match X.ty t,ρ len,ρ cap with
  | some {desc:=.slice e,..},.int .i64 l,.int .i64 c=>match X.ty e with
   | some {zero:=some z,size:=esz,bytes,..} =>
    if 0≤l∧l≤c∧c<2 ^ 40∧bytes*c≤2 ^ 48∧z.cells.size=esz then
     some (.slice (some ⟨nm,0,none⟩) l.toNat c.toNat,fun v=>.cells .nil z.cells.toList (c.toNat*esz) e false false v)
    else none
   | _=>none
  | _,_,_=>none
 | _=>none
def iS (H:aY) (size n:Nat):Value→Option (List Value)
 | .slice (some a) _ _=>if n*size=0 then some [] else aS H a (n*size)
 | .slice none _ _=>some []
 | .string s=>some ((s.extract 0 n).data.toList.map fun b=>.int .u8 b.toNat)
 | _=>none
def JS:Value→Option Nat
 | .slice _ n _=>some n
 | .string s=>some s.size
 | _=>none
def St.kill (s:St) (b:Nat):St:=s.put b fun _=>.dead
def jK (c:PT Value) (z:List Value) (m:Nat) (a:Addr) (k:Nat) (new:List Value):Option (PT Value×List Value) :=
 if k=0 then some (PT.ofList new,[])
 else match a.spot with
  | some _=>none
  | none =>
   if a.off=0 then(if k≤m then some (c.NB k new,z) else none)
   else match dJ c z m a.off k with
    | some mC=>some (PT.ofList (mC++new),[])
    | none=>none
def inBlock (a:Addr) (sLen sCap esz m:Nat):Bool :=
 match a.spot with
 | none=>decide (a.off+sCap*esz≤m∧sLen≤sCap)
 | some k=>decide (sLen=0∧sCap=0∧a.off+k≤m)
def jI (s:St) (e:TypeId) (esz:Nat) (base:Option Addr) (sLen sCap n:Nat) (new:List Value):Option (Value×St) :=
 if sLen+n≤sCap then
  match base with
  | some a=>if new.isEmpty then some (.slice base (sLen+n) sCap,s) else match bJ s (a.add (sLen*esz)) new with
   | some s=>some (.slice base (sLen+n) sCap,s)
   | none=>none
  | none=>if n=0 then some (.slice base (sLen+n) sCap,s) else none
 else match base with
  | none=>if sLen=0 then some (.slice (some ⟨s.next,0,none⟩) (sLen+n) (sLen+n),s.new fun v=>.cells (PT.ofList new) [] ((sLen+n)*esz) e true false v) else none
  | some a=>match s.heap.get a.block with
   | some (.cells c z m e0 room false _) =>
    if e0=e∧inBlock a sLen sCap esz m=true then
     match jK c z m a (sLen*esz) new with
     | some (c',z')=>some (.slice (some ⟨s.next,0,none⟩) (sLen+n) (sLen+n),(if room then s.kill a.block else s).new fun v=>.cells c' z' ((sLen+n)*esz) e true false v)
     | none=>none
    else none
   | _=>none
def uY:TypeDesc→Bool
 | .string | .slice _=>true
 | _=>false
def iC (X:Env) (s:St) (argTypes:Array TypeId) (args:List Value):Option (Value×St) :=
 match argTypes.toList,args with
 | [t,t2],[.slice base sLen sCap,x]=>match X.ty t,X.ty t2 with
  | some {desc:=.slice e,..},some i2=>match X.ty e,JS x with
   | some {zero:=some z,size:=esz,bytes,..},some n=>match iS s.look esz n x with
    | none=>none
    | some new =>
     if new.length=n*esz∧uY i2.desc=true∧z.cells.size=esz∧sLen+n<2 ^ 40∧(2*(sLen+n)+1000)*bytes≤2 ^ 47∧new.all kZ=true then
      jI s e esz base sLen sCap n new
     else none
   | _,_=>none
  | _,_=>none
 | _,_=>none
def NR (X:Env) (s:St) (argTypes:Array TypeId) (args:List Value):Option (Value×St) :=
 match argTypes[0]?,args with
 | some t,[.slice base dLen _,x]=>match X.ty t with
  | some {desc:=.slice e,..}=>match X.ty e,JS x with
   | some ei,some m=>match iS s.look ei.size (Nat.min m dLen) x with
    | some cs=>match base with
     | some a=>if cs.isEmpty then some (goInt (Nat.min m dLen:Nat),s) else match bJ s a cs with
      | some s=>some (goInt (Nat.min m dLen:Nat),s)
      | none=>none
     | none=>some (goInt (Nat.min m dLen:Nat),s)
    | none=>none
   | _,_=>none
  | _=>none
 | _,_=>none
def rep {α:Type} (l:List α):Nat→List α
 | 0=>[]
 | n+1=>l++rep l n
def qZ (X:Env) (s:St) (argTypes:Array TypeId) (args:List Value):Option (Value×St) :=
 match argTypes[0]?,args with
 | some t,[x]=>match X.ty t with
  | some i=>match x with
   | .map none=>some (.tuple #[],s)
   | .slice none _ _=>some (.tuple #[],s)
   | .map (some r)=>match s.heap.get r with
    | some (.map _ c _)=>some (.tuple #[],s.put r fun v=>.map [] c v)
    | _=>none
   | .slice (some a) n _=>if n=0 then some (.tuple #[],s) else match i.desc with
    | .slice e=>match X.ty e with
     | some {zero:=some z,..}=>match bJ s a (rep z.cells.toList n) with
      | some s=>some (.tuple #[],s)
      | none=>none
     | _=>none
    | _=>none
   | _=>none
  | none=>none
 | _,_=>none
def mZ (X:Env) (s:St) (argTypes:Array TypeId) (args:List Value):Option (Value×St) :=
 match argTypes[0]?,args with
 | some t,[m,k]=>match X.ty t with
  | some {desc:=.map kt _,..}=>if FL X kt k then match m with
   | .map none=>some (.tuple #[],s)
   | .map (some r)=>match s.heap.get r with
    | some (.map es c _)=>match kH k es 0 with
     | some (some (i,_))=>some (.tuple #[],s.put r fun v=>.map (es.eraseIdx i) c v)
     | some none=>some (.tuple #[],s)
     | none=>none
    | _=>none
   | _=>none else none
  | _=>none
 | _,_=>none
def gM (X:Env) (s:St) (t:TypeId) (m k v:Value):Option St :=
 match X.ty t,m with
 | some {desc:=.map kt _,..},.map (some r)=>if FL X kt k then match s.heap.get r with
   | some (.map es c _)=>match kH k es 0 with
    | some (some (i,_))=>some (s.put r fun dF=>.map (es.modify i fun e=>{e with key:=k,val:=v}) c dF)
    | some none=>some (s.put r fun dF=>.map (es++[{key:=k,val:=v,born:=c}]) (c+1) dF)
    | none=>none
   | _=>none else none
 | _,_=>none
abbrev eR:=FuncId→List Value→St→cQ (Value×St)
abbrev dK:=Nat→List Value→St→cQ (Value×St)
def iQ (es:List MapEntry) (since:Nat) (seen:List Nat):List (Option MapEntry) :=
 let left:=es.filter fun e=>!seen.contains e.born
 let mC:=left.filter fun e=>decide (e.born<since)
 let new:=left.filter fun e=>decide (e.born≥since)
 (if mC.isEmpty then [none] else [])++(mC++new).map some
def FY (s:St) (r m since:Nat) (seen:List Nat) (clock:Nat) (cands:List (Option MapEntry)) (i:Nat):cQ (Value×St) :=
 match cands[i]? with
 | some (some e)=>.ret (.tuple #[.bool true,e.key,e.val],s.put r fun v=>.eU (some m) since (e.born::seen) clock v)
 | some none=>.ret (.tuple #[.bool false],s)
 | none=>.fail "next: no candidate"
def FT (s:St) (it:Value) (isString:Bool):cQ (Value×St) :=
 match it with
 | .pointer (some a)=>if a.off=0∧a.spot=none then
  match s.heap.get a.block with
  | some (.nW str pos _)=>if isString then
    (if pos<str.size then
     .ret (.tuple #[.bool true,goInt (pos:Nat),.int .i32 (Utf8.decode str pos).1],s.put a.block fun v=>.nW str (pos+(Utf8.decode str pos).2) v)
    else .ret (.tuple #[.bool false],s)) else .fail "next"
  | some (.eU none _ _ _ _)=>if isString then .fail "next" else .ret (.tuple #[.bool false],s)
  | some (.eU (some m) since seen last _)=>if isString then .fail "next" else match mapOf s.look m with
   | some (es,clock) =>
    if !seen.isEmpty&&!es.isEmpty&&es.all (fun e=>decide (e.born≥last)) then .fail "next: map all new" else
    if (iQ es since seen).length≤1 then FY s a.block m since seen clock (iQ es since seen) 0
    else .ask (iQ es since seen).length (FY s a.block m since seen clock (iQ es since seen))
   | none=>.fail "next: no map"
  | _=>.fail "next" else .fail "next"
 | _=>.fail "next: no iterator"
def oN (s:St) (fn:Func) (args:List Value):cQ (Value×St) :=
 if fn.name= "maps.clone"∧fn.origin= "" then
  match args with
  | [.iface t (.map (some r))]=>match s.heap.get r with
   | some (.map es c _)=>.ret (.iface t (.map (some s.next)),s.new fun v=>.map es c v)
   | _=>.fail "maps.clone"
  | _=>.fail "maps.clone"
 else .fail ("no body: "++fn.name)
def mQ (X:Env) (call:eR) (round:dK) (s:St) (f:Value) (args:List Value):cQ (Value×St) :=
 match f with
 | .func (.func f) first captured=>call f (first.toList++args++captured.toList) s
 | .func (.yield l) first _=>round l (first.toList++args) s
 | .func (.method name) first _=>match first.toList++args with
  | .iface t v::rest=>match sG X t v name with
   | some (f,r)=>call f (r::rest) s
   | none=>.fail "method value"
  | _=>.fail "method value"
 | _=>.fail "call: value"
def bL (X:Env) (call:eR) (round:dK) (s:St) (ρ:Operand→Value) (op:Op):cQ (Value×St) :=
 match op with
 | .store t a x=>match ρ a with
  | .pointer (some a)=>match storeT X s t a (ρ x) with
   | some s=>.ret (undef,s)
   | none=>.fail "store"
  | _=>.fail "store: no pointer"
 | .mapUpdate t m k x=>match gM X s t (ρ m) (ρ k) (ρ x) with
  | some s=>.ret (undef,s)
  | none=>.fail "mapUpdate"
 | .insert t m k x=>match gM X s t (ρ m) (ρ k) (ρ x) with
  | some s=>.ret (undef,s)
  | none=>.fail "insert"
 | .range t x=>match X.ty t with
  | some i=>match i.desc,ρ x with
   | .string,.string str=>.ret (.pointer (some ⟨s.next,0,none⟩),s.new fun v=>.nW str 0 v)
   | .map _ _,.map none=>.ret (.pointer (some ⟨s.next,0,none⟩),s.new fun v=>.eU none 0 [] 0 v)
   | .map _ _,.map (some m)=>match mapOf s.look m with
    | some (_,clock)=>.ret (.pointer (some ⟨s.next,0,none⟩),s.new fun v=>.eU (some m) clock [] clock v)
    | none=>.fail "range"
   | _,_=>.fail "range"
  | none=>.fail "range"
 | .next it str=>FT s (ρ it) str
 | .call c=>match c.callee with
  | .value f=>mQ X call round s (ρ f) (c.args.toList.map ρ)
  | .invoke x name=>match ρ x with
   | .iface t v=>match sG X t v name with
    | some (f,r)=>call f (r::c.args.toList.map ρ) s
    | none=>.fail ("invoke "++name)
   | _=>.fail "invoke: nil"
  | .builtin .append=>.ofOption "append" (iC X s c.argTypes (c.args.toList.map ρ))
  | .builtin .copy=>.ofOption "copy" (NR X s c.argTypes (c.args.toList.map ρ))
  | .builtin .clear=>.ofOption "clear" (qZ X s c.argTypes (c.args.toList.map ρ))
  | .builtin .delete=>.ofOption "delete" (mZ X s c.argTypes (c.args.toList.map ρ))
  | .builtin _=>.fail "builtin"
 | _=>.fail "effect: not taken"
def kD (X:Env) (call:eR) (round:dK) (s:St) (ρ:Operand→Value) (op:Op):cQ (Value×St) :=
 match bN op with
 | .still=>match bS X s.look ρ op with
  | some v=>.ret (v,s)
  | none=>.fail "still"
 | .alloc=>match cS X s.next ρ op with
  | some (v,f)=>.ret (v,s.new f)
  | none=>.fail "alloc"
 | .effect=>bL X call round s ρ op
def aE (ops:Array Oper) (a:bD) (j:Nat):Option Bool :=
 match (ops[j]?).bind (·.dst) with
 | some d=>match a.aD d with
  | .bool b=>some b
  | _=>none
 | none=>none
def dL (X:Env) (call:eR) (round:dK) (ops:Array Oper):List Oper→bD→St→cQ (bD×St)
 | [],a,s=>.ret (a,s)
 | o::rest,a,s =>
  if Region.wanted o (aE ops a) then
   (kD X call round s a.eval o.op).bind fun(v,s)=>dL X call round ops rest (a.put o.dst v) s
  else dL X call round ops rest (a.put o.dst undef) s
def nE:Op→Bool
 | .load .. | .lookup .. | .entry _ | .slice ..=>true
 | .binOp .eql .. | .binOp .neq ..=>true
 | .call c=>match c.callee with
  | .builtin .len=>true
  | _=>false
 | _=>false
def gY (oi oj:Oper) (i j:Nat):Option (List (Nat×Nat)) :=
 match bN oi.op,bN oj.op with
 | .still,.effect=>some (if nE oi.op then [(i,j)] else [])
 | .effect,.still=>some (if nE oj.op then [(j,i)] else [])
 | .alloc,.still=>some (if nE oj.op then [(j,i)] else [])
 | .effect,.effect=>none
 | .alloc,.effect=>none
 | _,_=>some []
def sQ (b:Array Nat) (j:Nat) (oj:Oper):List Oper→Nat→Option (List (Nat×Nat))
 | [],_=>some []
 | oi::rest,i =>
  if i<j then
   if (b.getD j 0).testBit i then sQ b j oj rest (i+1)
   else match gY oi oj i j,sQ b j oj rest (i+1) with
    | some l,some m=>some (l++m)
    | _,_=>none
  else some []
def rA (b:Array Nat) (all:List Oper):List Oper→Nat→Option (List (Nat×Nat))
 | [],_=>some []
 | oj::rest,j=>match sQ b j oj all 0,rA b all rest (j+1) with
  | some l,some m=>some (l++m)
  | _,_=>none
def BH (ops:Array Oper):Option (List (Nat×Nat)):=rA (Region.before ops) ops.toList ops.toList 0
structure rU where
 yK:Bool
 reads:List Nat
 pre:St
 post:St
def jP (X:Env) (call:eR) (round:dK) (nm:Nat) (s:St) (ρ:Operand→Value) (op:Op):Option (Value×St) :=
 match bN op with
 | .still=>match bS X s.look ρ op with
  | some v=>some (v,s)
  | none=>none
 | .alloc=>match cS X nm ρ op with
  | some (v,f)=>some (v,s.put nm f)
  | none=>none
 | .effect=>match bL X call round s ρ op with
  | .ret r=>some r
  | _=>none
def cI (X:Env) (call:eR) (round:dK) (ops:Array Oper) (base:Nat):List Oper→Nat→bD→St→Option (bD×St×List rU)
 | [],_,a,s=>some (a,s,[])
 | o::rest,i,a,s =>
  if Region.wanted o (aE ops a) then
   match jP X call round (base+2*i) s a.eval o.op with
   | some (v,s')=>match cI X call round ops base rest (i+1) (a.put o.dst v) s' with
    | some (a2,s2,l)=>some (a2,s2,{yK:=true,reads:=bZ a.eval s.look o.op,pre:=s,post:=s'}::l)
    | none=>none
   | none=>none
  else match cI X call round ops base rest (i+1) (a.put o.dst undef) s with
   | some (a2,s2,l)=>some (a2,s2,{yK:=false,reads:=[],pre:=s,post:=s}::l)
   | none=>none
def bP (s s':St) (b:Nat):Bool :=
 match s.heap.get b,s'.heap.get b with
 | some o,some o'=>!o.bC&&!o'.bC&&o.dF==o'.dF&&decide (o.dF<s.cM)
 | _,_=>false
def WB (log:List rU) (c:List (Nat×Nat)):Bool :=
 c.all fun(x,j)=>match log[x]?,log[j]? with
  | some nx,some nj=>!nx.yK||!nj.yK||nx.reads.all fun b=>bP nj.pre nj.post b
  | _,_=>false
inductive cP where
 | normal
 | exit (id:Nat)
 | ret
 deriving DecidableEq
def pM (X:Env) (call:eR) (round:dK) (ops:Array Oper) (a:bD) (s:St):cQ (bD×St) :=
 match BH ops with
 | none=>.fail "drawn: not taken"
 | some c=>match cI X call round ops s.next ops.toList 0 a {heap:=s.heap,next:=s.next+2*ops.size,cM:=s.cM} with
  | some (a,s,log)=>if WB log c then .ret (a,s) else .fail "drawn: an effect changes what is read"
  | none=>.fail "drawn"
def gX (nt:Nat):Operand→Bool
 | .tmp t=>decide (t<nt)
 | .const v=>uA v
 | _=>true
def iT (nt:Nat) (o:Oper):Bool :=
 o.op.operands.toList.all (gX nt)&&(match o.dst with | some d=>decide (d<nt) | none=>true) &&
 (match o.op with | .defer _ | .go _ | .select ..=>false | _=>true)
def tmpsOf (ops:Array Oper) (o:Oper):List Tmp :=
 (o.op.operands.toList.filterMap fun | .tmp t=>some t | _=>none) ++
 (match o.guard with
  | some (j,_)=>match ops[j]? with
   | some og=>match og.dst with | some d=>[d] | none=>[]
   | none=>[]
  | none=>[])++o.dst.toList
def KL (ops:Array Oper) (b:Array Nat) (oi oj:Oper) (i j:Nat):Bool :=
 (b.getD j 0).testBit i ||
 !((match oi.dst with | some d=>(tmpsOf ops oj).contains d | none=>false)||(match oj.dst with | some d=>(tmpsOf ops oi).contains d | none=>false))
def oE (ops:Array Oper) (b:Array Nat) (oj:Oper) (j:Nat):List Oper→Nat→Bool
 | [],_=>true
 | oi::rest,i=>if i<j then KL ops b oi oj i j&&oE ops b oj j rest (i+1) else true
def sH (ops:Array Oper) (b:Array Nat):List Oper→Nat→Bool
 | [],_=>true
 | oj::rest,j=>oE ops b oj j ops.toList 0&&sH ops b rest (j+1)
def im (o:Oper) (j:Nat):Bool :=
 o.after.toList.all (fun e=>!Region.binds .any e||decide (e.on<j)) &&
 (match o.guard with | some (g,_)=>decide (g<j) | none=>true)
def mI:List Oper→Nat→Bool
 | [],_=>true
 | o::rest,j=>im o j&&mI rest (j+1)
def uQ (ops:Array Oper):Bool:=sH ops (Region.before ops) ops.toList 0&&mI ops.toList 0
def cX (nt:Nat):Code→Bool
 | .skip | .label _ | .exit _ | .ret=>true
 | .region _ ops draw=>ops.toList.all (iT nt)&&(!draw||uQ ops)
 | .seq a b=>cX nt a&&cX nt b
 | .cond c a b=>gX nt c&&cX nt a&&cX nt b
 | .block _ b=>cX nt b
 | .loop b=>cX nt b
 | .rangeFunc g ps a b=>gX nt g&&ps.toList.all (fun p=>decide (p<nt))&&cX nt a&&cX nt b
 | .scope _ | .goto _ | .refuse _=>true
def qV (nt:Nat) (l:List ResultVar):Bool:=l.all fun
 | .tmp t=>decide (t<nt)
 | .cell t _=>decide (t<nt)
def results1 (X:Env) (H:aY) (a:bD):List ResultVar→Option (List Value)
 | []=>some []
 | .tmp t::rest=>match results1 X H a rest with
  | some l=>some (a.aD t::l)
  | none=>none
 | .cell t ty::rest=>match a.aD t with
  | .pointer (some ad)=>match loadT X H ty ad,results1 X H a rest with
   | some v,some l=>some (v::l)
   | _,_=>none
  | _=>none
def kP (X:Env) (H:aY) (f:Func) (a:bD):Option Value :=
 match results1 X H a f.results.toList with
 | some [v]=>some v
 | some l=>some (.tuple l.toArray)
 | none=>none
def lB:PT Value→List (Tmp×Value)→PT Value
 | t,[]=>t
 | t,(i,v)::rest=>lB (t.set i v) rest
def kV (r:Option Nat) (s:St):Bool:=match r with
 | none=>true
 | some l=>match s.heap.get l with
  | some (.loop ..)=>true
  | _=>false
mutual
def code (X:Env):Nat→Option Nat→Code→bD→St→cQ (cP×bD×St)
 | 0,_,_,_,_=>.fail "fuel"
 | n+1,r,c,a,s=>match c with
  | .skip=>.ret (.normal,a,s)
  | .label _=>.ret (.normal,a,s)
  | .region _ ops draw =>
   (if draw then pM X (kC X n) (nK X n) ops a s else dL X (kC X n) (nK X n) ops ops.toList a s).bind fun(a,s)=>.ret (.normal,a,s)
  | .seq x y=>(code X n r x a s).bind fun(e,a,s)=>match e with
   | .normal=>code X n r y a s
   | e=>.ret (e,a,s)
  | .cond c x y=>match a.eval c with
   | .bool true=>code X n r x a s
   | .bool false=>code X n r y a s
   | _=>.fail "cond"
  | .block id b=>(code X n r b a s).bind fun(e,a,s)=>match e with
   | .exit i=>if i=id then .ret (.normal,a,s) else .ret (e,a,s)
   | e=>.ret (e,a,s)
  | .loop b=>(code X n r b a s).bind fun(e,a,s)=>match e with
   | .normal=>code X n r (.loop b) a s
   | e=>.ret (e,a,s)
  | .exit id=>.ret (.exit id,a,s)
  | .ret=>.ret (.ret,a,s)
  | .rangeFunc g ps assign body=>match a.eval g with
   | .func (.func f) first captured =>
    if kV r s then
    (kC X n f (first.toList++[.func (.yield s.next) #[] #[]]++captured.toList) (s.new fun v=>.loop .ready none a.tmps a.nt ps assign body v)).bind fun(_,s') =>
     match s'.heap.get s.next with
     | some (.loop st pend t nt ps aAm bd _) =>
      if st=.busy then .fail "rangeFunc: busy" else
      match pend with
      | none=>.ret (.normal,a,s'.put s.next fun v=>.loop .exhausted pend t nt ps aAm bd v)
      | some .ret=>.ret (.ret,a,s'.put s.next fun v=>.loop .exhausted pend t nt ps aAm bd v)
      | some (.exit id)=>.ret (.exit id,a,s'.put s.next fun v=>.loop .exhausted pend t nt ps aAm bd v)
      | some _=>.fail "rangeFunc: pending"
     | _=>.fail "rangeFunc: record"
    else .fail "rangeFunc: round"
   | _=>.fail "rangeFunc: no function"
  | .scope _=>.fail "scope"
  | .goto _=>.fail "goto"
  | .refuse w=>.fail ("refuse "++w)
def kC (X:Env):Nat→FuncId→List Value→St→cQ (Value×St)
 | 0,_,_,_=>.fail "fuel"
 | n+1,f,args,s=>match X.fn f with
  | some fn=>match fn.body with
   | some c =>
    if args.length≤fn.ntmps then
    (code X n none c {tmps:=PT.ofList args,nt:=fn.ntmps} s).bind fun(e,a,s)=>match e with
     | .exit _=>.fail "call: exit"
     | _=>match kP X s.look fn a with
      | some v=>.ret (v,s)
      | none=>.fail "results"
    else .fail "too many arguments"
   | none=>oN s fn args
  | none=>.fail "no function"
def nK (X:Env):Nat→Nat→List Value→St→cQ (Value×St)
 | 0,_,_,_=>.fail "fuel"
 | n+1,l,args,s=>match s.heap.get l with
  | some (.loop .ready _ t nt ps assign body _) =>
   if args.length=ps.size then
   (code X n (some l) assign {tmps:=lB t (ps.toList.zip args),nt} s).bind fun(e,a,s)=>match e with
    | .normal=>match s.heap.get l with
     | some (.loop .ready pend t nt ps aAm bd _) =>
      (code X n (some l) body a (s.put l fun v=>.loop .busy pend t nt ps aAm bd v)).bind fun(e,_,s)=>match s.heap.get l with
       | some (.loop _ _ t nt ps aAm bd _) =>
        match e with
        | .normal=>.ret (.bool true,s.put l fun v=>.loop .ready none t nt ps aAm bd v)
        | .ret=>.ret (.bool false,s.put l fun v=>.loop .done (some .ret) t nt ps aAm bd v)
        | .exit id=>.ret (.bool false,s.put l fun v=>.loop .done (some (.exit id)) t nt ps aAm bd v)
       | _=>.fail "round: record"
     | _=>.fail "round: record"
    | _=>.fail "round: assign"
   else .fail "round: arguments"
  | _=>.fail "round: not ready"
end
def SG (f:Func):Bool:=match f.body with
 | some c=>f.name != "runtime.NumGoroutine"&&cX f.ntmps c&&qV f.ntmps f.results.toList
 | none=>true
def jz (P:Program):PT (Option Ty):=PT.ofList ((List.range P.types.size).map (mkTy P))
def VI (P:Program):PT (Option Func):=PT.ofList (P.funcs.toList.map fun f=>if SG f then some f else none)
def env (P:Program):Env:={ty:=fun t=>match (jz P).get t with | some x=>x | none=>none,fn:=fun f=>match (VI P).get f with | some x=>x | none=>none}
end Go.Dust
end
