/- The plain interpreter D and its laws (Da Db). -/
import Derived.RangeFuncLeaves
import Derived.OrdersIn
import Derived.RangeFuncOwn
import Derived.Laws.StructEq
set_option linter.unusedVariables false
set_option linter.unusedSimpArgs false
noncomputable section
namespace Go.Dust
inductive PT (α:Type) where
 | nil
 | node (v:Option α) (l r:PT α)
namespace PT
variable {α:Type}
noncomputable def get (t:PT α):Nat→Option α :=
 PT.rec (motive:=fun _=>Nat→Option α) (fun _=>none) (fun v _ _ gl gr n=>Bool.rec (motive:=fun _=>Option α) (Bool.rec (motive:=fun _=>Option α) (gr (Nat.div (Nat.pred n) 2)) (gl (Nat.div (Nat.pred n) 2)) (Nat.beq (Nat.mod n 2) 1)) v (Nat.beq n 0)) t
noncomputable def nY (f:Nat):PT α→Nat→α→PT α :=
 Nat.rec (motive:=fun _=>PT α→Nat→α→PT α) (fun t _ _=>t) (fun _ ih t n a =>
  PT.rec (motive:=fun _=>PT α)
   (Bool.rec (motive:=fun _=>PT α) (Bool.rec (motive:=fun _=>PT α) (.node none .nil (ih .nil (Nat.div (Nat.pred n) 2) a)) (.node none (ih .nil (Nat.div (Nat.pred n) 2) a) .nil) (Nat.beq (Nat.mod n 2) 1)) (.node (some a) .nil .nil) (Nat.beq n 0))
   (fun v l r _ _=>Bool.rec (motive:=fun _=>PT α) (Bool.rec (motive:=fun _=>PT α) (.node v l (ih r (Nat.div (Nat.pred n) 2) a)) (.node v (ih l (Nat.div (Nat.pred n) 2) a) r) (Nat.beq (Nat.mod n 2) 1)) (.node (some a) l r) (Nat.beq n 0)) t) f
noncomputable def set (t:PT α) (n:Nat) (a:α):PT α:=nY (n+1) t n a
def zS (t:PT α) (n:Nat):List α→PT α
 | []=>t
 | a::aKe=>(t.set n a).zS (n+1) aKe
def ofList (l:List α):PT α:=PT.nil.zS 0 l
end PT
inductive aS (α:Type) where
 | fail (why:String)
 | ret (a:α)
 | ask (n:Nat) (k:Nat→aS α)
namespace aS
variable {α β:Type}
def bind:aS α→(α→aS β)→aS β
 | fail w,_=>fail w
 | ret a,f=>f a
 | ask n k,f=>ask n fun i=>(k i).bind f
def iF (Φ:α→Prop):aS α→Prop
 | fail _=>False
 | ret a=>Φ a
 | ask n k=>∀ i,i<n→(k i).iF Φ
def Lv (Φ:α→Prop):aS α→Prop
 | fail _=>True
 | ret a=>Φ a
 | ask n k=>∀ i,i<n→(k i).Lv Φ
def ofOption (w:String):Option α→aS α
 | some a=>ret a
 | none=>fail w
end aS
inductive bU where
 | cells (c:PT Value) (z:List Value) (n:Nat) (elem:TypeId) (room ro:Bool) (aT:Nat)
 | map (es:List MapEntry) (clock:Nat) (aT:Nat)
 | gC (m:Option Nat) (since:Nat) (seen:List Nat) (stepped:Nat) (aT:Nat)
 | pF (s:ByteArray) (pos:Nat) (aT:Nat)
 | loop (st:LoopState) (pending:Option Code) (tmps:PT Value) (nt:Nat) (params:Array Tmp) (assign body:Code) (aT:Nat)
 | dead
def bU.aT:bU→Nat
 | cells _ _ _ _ _ _ v | map _ _ v | gC _ _ _ _ v | pF _ _ v | loop _ _ _ _ _ _ _ v=>v
 | dead=>0
def bU.cS:bU→Bool
 | dead=>true
 | _=>false
structure St where
 heap:PT bU
 next:Nat
 aO:Nat
abbrev bG:=Nat→Option bU
def St.look (s:St):bG:=fun b=>s.heap.get b
def St.put (s:St) (b:Nat) (f:Nat→bU):St:={heap:=s.heap.set b (f s.aO),next:=s.next,aO:=s.aO+1}
def St.new (s:St) (f:Nat→bU):St:={heap:=s.heap.set s.next (f s.aO),next:=s.next+2,aO:=s.aO+1}
structure Ty where
 desc:TypeDesc
 size:Nat
 bytes:Nat
 zero:Option Value
 agg:Bool
 methods:Array Method
 cmp:Bool
structure Env where
 ty:Nat→Option Ty
 fn:Nat→Option Func
def yJ:Value→Bool
 | .bool _ | .int .. | .string _ | .pointer none | .slice none _ _ | .map none | .nilFunc | .nilIface | .float ..=>true
 | _=>false
def FE:Value→Bool
 | .agg cs=>cs.toList.all yJ
 | .tuple cs=>cs.toList.all yJ
 | v=>yJ v
def sq:TypeDesc→Bool
 | .struct _ | .array _ _=>true
 | _=>false
def ll (P:Program) (t:TypeId):Option Ty :=
 match P.info? t,P.underlying t with
 | some i,some d=>some {desc:=d,size:=i.size,bytes:=i.bytes,zero:=(match i.zero with | some z=>if FE z then some z else none | none=>none),agg:=sq d,methods:=i.methods,cmp:=!P.stoodInHeld t&&!P.eqGuardType P.depth t}
 | _,_=>none
structure aG where
 tmps:PT Value
 nt:Nat
def aG.aB (a:aG) (t:Nat):Value:=(a.tmps.get t).getD undef
def aG.put (a:aG) (d:Option Tmp) (v:Value):aG:=match d with
 | some d=>{tmps:=a.tmps.set d v,nt:=a.nt}
 | none=>a
def aG.eval (a:aG):Operand→Value
 | .tmp t=>a.aB t
 | .const v=>v
 | .global g=>.pointer (some ⟨2*g,0,none⟩)
 | .func f=>.func (.func f) #[] #[]
def cellAt (c:PT Value) (z:List Value) (n i:Nat):Option Value :=
 if i<n then some (match c.get i with | some v=>v | none=>z.getD (i%z.length) undef) else none
def nX (c:PT Value) (z:List Value) (n:Nat):Nat→Nat→Option (List Value)
 | _,0=>some []
 | i,k+1=>match cellAt c z n i with
  | some v=>match nX c z n (i+1) k with
   | some l=>some (v::l)
   | none=>none
  | none=>none
def bD (H:bG) (a:Addr) (k:Nat):Option (List Value) :=
 match a.spot,H a.block with
 | none,some (.cells c z n _ _ _ _)=>nX c z n a.off k
 | _,_=>none
def aI (H:bG) (a:Addr):Option Value :=
 match a.spot,H a.block with
 | none,some (.cells c z n _ _ _ _)=>cellAt c z n a.off
 | _,_=>none
def loadT (X:Env) (H:bG) (t:TypeId) (a:Addr):Option Value :=
 match X.ty t with
 | some i=>if i.agg then(match bD H a i.size with | some l=>some (.agg l.toArray) | none=>none) else aI H a
 | none=>none
def iB:Value→Bool
 | .agg _ | .tuple _=>false
 | _=>true
def dB (s:St) (a:Addr) (vs:List Value):Option St :=
 match a.spot,s.heap.get a.block with
 | none,some (.cells c z n e r false _) =>
  if a.off+vs.length≤n∧vs.all iB=true then some (s.put a.block fun v=>.cells (c.zS a.off vs) z n e r false v) else none
 | _,_=>none
def storeT (X:Env) (s:St) (t:TypeId) (a:Addr) (v:Value):Option St :=
 match X.ty t with
 | some i=>if v.cells.size=i.size then dB s a v.cells.toList else none
 | none=>none
def HF (X:Env) (t:TypeId) (cs:Array Value) (off:Nat):Option Value :=
 match X.ty t with
 | some i=>if i.agg then(if off+i.size≤cs.size then some (.agg (cs.extract off (off+i.size))) else none) else cs[off]?
 | none=>none
def xy (op:BinOp) (x y:Int):Option Value :=
 match op with
 | .eql=>some (.bool (x==y))
 | .neq=>some (.bool (x != y))
 | .lss=>some (.bool (decide (x<y)))
 | .leq=>some (.bool (decide (x≤y)))
 | .gtr=>some (.bool (decide (x>y)))
 | .geq=>some (.bool (decide (x≥y)))
 | _=>none
def arith (op:BinOp) (k:IntKind) (x y:Int):Option Value :=
 match op with
 | .add=>some (.int k (k.wrap (x+y)))
 | .sub=>some (.int k (k.wrap (x-y)))
 | .mul=>some (.int k (k.wrap (x*y)))
 | .quo=>if y=0 then none else some (.int k (k.wrap (x.tdiv y)))
 | .rem=>if y=0 then none else some (.int k (x.tmod y))
 | .and=>some (.int k (k.wrap ((BitVec.ofInt k.bits x &&& BitVec.ofInt k.bits y).toNat)))
 | .or=>some (.int k (k.wrap ((BitVec.ofInt k.bits x ||| BitVec.ofInt k.bits y).toNat)))
 | .xor=>some (.int k (k.wrap ((BitVec.ofInt k.bits x ^^^ BitVec.ofInt k.bits y).toNat)))
 | .andNot=>some (.int k (k.wrap ((BitVec.ofInt k.bits x &&& ~~~ BitVec.ofInt k.bits y).toNat)))
 | _=>xy op x y
def vP (op:BinOp) (k:IntKind) (x y:Int):Option Value :=
 if y<0 then none
 else match op with
  | .shl=>some (.int k (k.wrap (x*2 ^ (min y.toNat k.bits))))
  | .shr=>some (.int k (x.fdiv (2 ^ (min y.toNat k.bits))))
  | _=>none
def qe (op:BinOp) (x y:ByteArray):Option Value :=
 match op with
 | .add=>if ((x.size+y.size:Nat):Int)>IntKind.i64.max then none else some (.string (x++y))
 | .eql=>some (.bool (x.toList==y.toList))
 | .neq=>some (.bool (!(x.toList==y.toList)))
 | .lss=>some (.bool (Op.bytesLess x.toList y.toList))
 | .leq=>some (.bool (Op.bytesLess x.toList y.toList||(x.toList==y.toList)))
 | .gtr=>some (.bool (!(Op.bytesLess x.toList y.toList||(x.toList==y.toList))))
 | .geq=>some (.bool (!Op.bytesLess x.toList y.toList))
 | _=>none
def isCells (H:bG) (b:Nat):Bool:=match H b with | some (.cells _ _ _ _ _ false _)=>true | _=>false
def KU:Value→Bool
 | .int .. | .bool _ | .string _ | .agg _=>true
 | _=>false
def eqFields (X:Env) (f:TypeId→Value→Value→Option Bool) (xs ys:Array Value):List Field→Option Bool
 | []=>some true
 | fd::rest =>
  if fd.name= "_" then eqFields X f xs ys rest
  else match HF X fd.type xs fd.offset,HF X fd.type ys fd.offset with
   | some u,some v=>match f fd.type u v with
    | some true=>eqFields X f xs ys rest
    | some false=>some false
    | none=>none
   | _,_=>none
def jV (X:Env) (H:bG):Nat→TypeId→Value→Value→Option Bool
 | 0,_,_,_=>none
 | d+1,t,x,y =>
  match X.ty t with
  | none=>none
  | some i=>match i.desc,x,y with
   | .bool,.bool a,.bool b=>some (a==b)
   | .int _,.int k a,.int k' b=>if k=k' then some (a==b) else none
   | .string,.string a,.string b=>some (a.toList==b.toList)
   | .pointer _,.pointer none,.pointer b=>some b.isNone
   | .pointer _,.pointer (some _),.pointer none=>some false
   | .pointer e,.pointer (some a),.pointer (some b) =>
    match X.ty e with
    | none=>none
    | some ei =>
     if ei.size=0 then none
     else match a.spot,b.spot with
      | none,none =>
       if a.block=b.block then some (a.off==b.off)
       else if isCells H a.block&&isCells H b.block then some false else none
      | _,_=>none
   | .interface _,.nilIface,.nilIface=>some true
   | .interface _,.nilIface,.iface _ _=>some false
   | .interface _,.iface _ _,.nilIface=>some false
   | .slice _,.slice none _ _,.slice b _ _=>some b.isNone
   | .slice _,.slice (some _) _ _,.slice none _ _=>some false
   | .map _ _,.map none,.map b=>some b.isNone
   | .map _ _,.map (some _),.map none=>some false
   | .func _ _ _,.nilFunc,.nilFunc=>some true
   | .func _ _ _,.nilFunc,.func _ _ _=>some false
   | .func _ _ _,.func _ _ _,.nilFunc=>some false
   | .struct fields,.agg xs,.agg ys=>if i.cmp then eqFields X (fun t x y=>if KU x then jV X H d t x y else none) xs ys fields.toList else none
   | _,_,_=>none
def binop (X:Env) (H:bG) (op:BinOp) (t:TypeId) (x y:Value):Option Value :=
 match x,y with
 | .int k a,.int k' b=>match op with
  | .shl=>vP op k a b
  | .shr=>vP op k a b
  | _=>if k=k' then arith op k a b else none
 | .string a,.string b=>qe op a b
 | x,y=>match op with
  | .eql=>match jV X H 10 t x y with
   | some b=>some (.bool b)
   | none=>none
  | .neq=>match jV X H 10 t x y with
   | some b=>some (.bool !b)
   | none=>none
  | _=>none
def unop (op:UnOp) (x:Value):Option Value :=
 match op,x with
 | .neg,.int k n=>some (.int k (k.wrap (0-n)))
 | .not,.bool b=>some (.bool !b)
 | _,_=>none
def sA (X:Env) (src dst:TypeId) (x:Value):Option Value :=
 match X.ty src,X.ty dst with
 | some _,some d=>match d.desc,x with
  | .int k,.int _ n=>some (.int k (k.wrap n))
  | .string,.string s=>some (.string s)
  | _,_=>none
 | _,_=>none
def vG:Value→Value→Option Bool
 | .int k a,.int k' b=>if k=k' then some (a==b) else none
 | .string a,.string b=>some (a==b)
 | .bool a,.bool b=>some (a==b)
 | _,_=>none
def mO (k:Value):List MapEntry→Nat→Option (Option (Nat×Value))
 | [],_=>some none
 | e::es,i=>match vG k e.key with
  | some true=>some (some (i,e.val))
  | some false=>mO k es (i+1)
  | none=>none
def AW:TypeDesc→Value→Bool
 | .int j,.int j' _=>decide (j=j')
 | .string,.string _=>true
 | .bool,.bool _=>true
 | _,_=>false
def DD (X:Env) (t:TypeId) (k:Value):Bool :=
 match X.ty t with
 | some i=>AW i.desc k
 | none=>false
def mapOf (H:bG) (r:Nat):Option (List MapEntry×Nat) :=
 match H r with
 | some (.map es c _)=>some (es,c)
 | _=>none
def vI (X:Env) (H:bG) (t:TypeId) (x k:Value) (ok:Bool):Option Value :=
 match X.ty t with
 | some {desc:=.map kt et,..} =>
  match X.ty et with
  | some {zero:=some z,..} =>
   if DD X kt k then
    match x with
    | .map none=>some (if ok then .tuple #[z,.bool false] else z)
    | .map (some r)=>match mapOf H r with
     | some (es,_)=>match mO k es 0 with
      | some (some (_,v))=>some (if ok then .tuple #[v,.bool true] else v)
      | some none=>some (if ok then .tuple #[z,.bool false] else z)
      | none=>none
     | none=>none
    | _=>none
   else none
  | _=>none
 | _=>none
def kC:Option Value→Option (Option Int)
 | none=>some none
 | some (.int _ n)=>some (some n)
 | some _=>none
def lU (len cap:Nat) (lo hi:Option Int):Option (Nat×Nat) :=
 match (match hi with | some h=>if 0≤h∧h≤(cap:Int) then some h.toNat else none | none=>some len) with
 | none=>none
 | some h=>match (match lo with | some l=>if 0≤l∧l≤(h:Int) then some l.toNat else none | none=>some 0) with
  | none=>none
  | some l=>some (l,h)
def eI (X:Env) (H:bG) (t:TypeId) (x:Value) (lo hi mx:Option Value):Option Value :=
 match mx with
 | some _=>none
 | none =>
 match X.ty t,kC lo,kC hi with
 | some i,some lo,some hi=>match i.desc,x with
  | .string,.string s=>match lU s.size s.size lo hi with
   | some (l,h)=>if l≤h then some (.string (s.extract l h)) else none
   | none=>none
  | .slice e,.slice none 0 0=>match lU 0 0 lo hi,X.ty e with
   | some (0,0),some _=>some (.slice none 0 0)
   | _,_=>none
  | .slice e,.slice (some a) len cap=>match a.spot with
   | none=>match lU len cap lo hi,X.ty e,H a.block with
    | some (l,h),some ei,some (.cells _ _ _ _ room _ _) =>
     if l≤h∧h≤cap then
      if cap=l then some (.slice (some (if room then⟨a.block,a.off,some (l*ei.size)⟩ else a)) (h-l) (cap-l))
      else some (.slice (some (a.add (l*ei.size))) (h-l) (cap-l))
     else none
    | _,_,_=>none
   | some _=>none
  | .array n e,.pointer (some a)=>match a.spot with
   | none=>match lU n n lo hi,X.ty e,H a.block with
    | some (l,h),some ei,some (.cells _ _ _ _ false _ _)=>if l≤h then some (.slice (some (if n=l then a else a.add (l*ei.size))) (h-l) (n-l)) else none
    | _,_,_=>none
   | some _=>none
  | _,_=>none
 | _,_,_=>none
def iU (X:Env) (t:TypeId) (parts:List (Nat×Value)):Option Value :=
 match X.ty t with
 | some {desc:=.struct fields,zero:=some z,..} =>
  if fields.toList.all (fun f=>(X.ty f.type).isSome) then
   match Instr.fill ((fields.map fun f=>(f.offset,match X.ty f.type with | some ti=>ti.size | none=>0))[·]?) z.cells parts with
   | some cs=>some (.agg cs)
   | none=>none
  else none
 | some {desc:=.array _ e,zero:=some z,..}=>match X.ty e with
  | some ei=>match Instr.fill (fun i=>some (i*ei.size,ei.size)) z.cells parts with
   | some cs=>some (.agg cs)
   | none=>none
  | none=>none
 | _=>none
def NH (X:Env):List FieldStep→TypeId→Value→Option (TypeId×Value)
 | [],t,x=>some (t,x)
 | st::rest,_,x=>match X.ty st.struct with
  | some {desc:=.struct fields,..}=>match fields[st.index]?,st.deref,x with
   | some f,false,.agg cs=>match HF X f.type cs f.offset with
    | some v=>NH X rest f.type v
    | none=>none
   | _,_,_=>none
  | _=>none
def DP (X:Env) (t:TypeId) (v:Value) (name:String):Option (FuncId×Value) :=
 match X.ty t with
 | some i=>match i.methods.find? (·.name==name) with
  | some m=>match NH X m.path.toList t v with
   | some (xt,x)=>match m.func,X.ty xt with
    | some (f,true),some {desc:=.pointer _,..}=>some (f,x)
    | some (_,false),some {desc:=.pointer _,..}=>none
    | some (f,false),some _=>some (f,x)
    | _,_=>none
   | none=>none
  | none=>none
 | none=>none
def NL (want:Array (String×TypeId)) (got:Array Method):Bool :=
 want.toList.all fun(name,sig)=>got.any fun m=>m.name==name&&m.sig==sig
def EN (X:Env) (x:Value) (asserted:TypeId) (ok:Bool):Option Value :=
 match X.ty asserted,x with
 | some {desc:=.interface want,zero:=some z,..},.iface t v=>match X.ty t with
  | some i=>if NL want i.methods then some (if ok then .tuple #[.iface t v,.bool true] else .iface t v)
   else if ok then some (.tuple #[z,.bool false]) else none
  | none=>none
 | some {desc:=.interface _,..},_=>none
 | some _,.iface t v=>if t=asserted then some (if ok then .tuple #[v,.bool true] else v) else none
 | _,_=>none
def mS (less:Int→Int→Bool):Value→List Value→Option Value
 | v,[]=>some v
 | .int k x,.int k' y::rest=>if k=k' then mS less (.int k (if less x y then y else x)) rest else none
 | _,_=>none
def jY (X:Env) (H:bG) (t:TypeId) (x:Value):Option Value :=
 match X.ty t with
 | some i=>match i.desc,x with
  | .string,.string s=>some (goInt s.size)
  | .array n _,_=>some (goInt n)
  | .slice _,.slice _ n _=>some (goInt n)
  | .map _ _,.map none=>some (goInt (0:Nat))
  | .map _ _,.map (some r)=>match mapOf H r with
   | some (es,_)=>some (goInt es.length)
   | none=>none
  | _,_=>none
 | none=>none
def cU (X:Env) (s:TypeId) (x:Value) (f:Nat):Option Value :=
 match X.ty s,x with
  | some {desc:=.struct fields,..},.pointer (some a)=>match fields[f]?,a.spot with
   | some fd,none=>match X.ty fd.type with
    | some ti=>if ti.size=0 then none else some (.pointer (some (a.add fd.offset)))
    | none=>none
   | _,_=>none
  | _,_=>none
def CV (X:Env) (t:TypeId) (x:Value) (f:Nat):Option Value :=
 match X.ty t,x with
  | some {desc:=.struct fields,..},.agg cs=>match fields[f]? with
   | some fd=>HF X fd.type cs fd.offset
   | none=>none
  | _,_=>none
def kM (X:Env) (t:TypeId) (x i:Value):Option Value :=
 match X.ty t,x,i with
  | some {desc:=.slice e,..},.slice (some a) len _,.int _ n=>match X.ty e,a.spot with
   | some ei,none=>if 0≤n∧n<(len:Int) then some (.pointer (some (a.add (n.toNat*ei.size)))) else none
   | _,_=>none
  | some {desc:=.array len e,..},.pointer (some a),.int _ n=>match X.ty e,a.spot with
   | some ei,none=>if 0≤n∧n<(len:Int) then some (.pointer (some (a.add (n.toNat*ei.size)))) else none
   | _,_=>none
  | _,_,_=>none
def AT (X:Env) (t:TypeId) (x i:Value):Option Value :=
 match X.ty t,x,i with
  | some {desc:=.string,..},.string s,.int _ n =>
   if 0≤n then match s[n.toNat]? with
    | some b=>some (.int .u8 b.toNat)
    | none=>none
   else none
  | some {desc:=.array len e,..},.agg cs,.int _ n=>match X.ty e with
   | some ei=>if 0≤n∧n<(len:Int) then HF X e cs (n.toNat*ei.size) else none
   | none=>none
  | _,_,_=>none
def tE (H:bG) (it:Value):Option Value :=
 match it with
  | .pointer (some a)=>if a.off=0∧a.spot=none then match H a.block with
   | some (.gC (some m) _ (last::_) stepped _)=>match mapOf H m with
    | some (es,clock)=>if clock=stepped then match es.find? (·.born==last) with
     | some e=>some (.tuple #[e.key,e.val])
     | none=>none else none
    | none=>none
   | _=>none else none
  | _=>none
def DU (x:Value):Option Value :=
 match x with
  | .pointer (some a)=>some (.pointer (some a))
  | .func (.func f) a b=>some (.func (.func f) a b)
  | .func (.yield f) a b=>some (.func (.yield f) a b)
  | .iface t v=>some (.iface t v)
  | _=>none
def rY:Value→Value→Bool
 | .nilIface,.nilIface=>true
 | _,_=>false
def nI:Operand→Bool
 | .const _=>true
 | _=>false
def dU (X:Env) (H:bG) (ρ:Operand→Value):Op→Option Value
 | .move x=>some (ρ x)
 | .assign x=>some (ρ x)
 | .pick c a b=>match ρ c with | .bool t=>some (if t then ρ a else ρ b) | _=>none
 | .build t parts=>iU X t (parts.toList.map fun(i,x)=>(i,ρ x))
 | .load t a=>match ρ a with | .pointer (some a)=>loadT X H t a | _=>none
 | .nilCheck x=>DU (ρ x)
 | .binOp op t x y _=>if rY (ρ x) (ρ y)&&!(nI x||nI y) then none else binop X H op t (ρ x) (ρ y)
 | .unOp op _ x=>unop op (ρ x)
 | .convert s d x=>sA X s d (ρ x)
 | .makeInterface t x=>match X.ty t with
  | some i=>match i.desc with
   | .interface _=>none
   | _=>some (.iface t (ρ x))
  | none=>none
 | .makeFunc fn first captured=>match fn with
  | .func f=>some (.func (.func f) (first.map ρ) (captured.map ρ))
  | .method m=>some (.func (.method m) (first.map ρ) (captured.map ρ))
  | _=>none
 | .slice t x lo hi mx=>eI X H t (ρ x) (lo.map ρ) (hi.map ρ) (mx.map ρ)
 | .fieldAddr s x f=>cU X s (ρ x) f
 | .field t x f=>CV X t (ρ x) f
 | .indexAddr t x i=>kM X t (ρ x) (ρ i)
 | .index t x i=>AT X t (ρ x) (ρ i)
 | .lookup t x k ok=>vI X H t (ρ x) (ρ k) ok
 | .extract t i=>match ρ t with | .tuple vs=>vs[i]? | _=>none
 | .entry it=>tE H (ρ it)
 | .typeAssert x _ t ok=>EN X (ρ x) t ok
 | .call c=>match c.callee with
  | .builtin .len=>match c.argTypes[0]?,c.args[0]? with
   | some t,some x=>jY X H t (ρ x)
   | _,_=>none
  | .builtin .min=>match c.args.toList.map ρ with
   | v::rest=>mS (fun x y=>decide (y<x)) v rest
   | _=>none
  | .builtin .max=>match c.args.toList.map ρ with
   | v::rest=>mS (fun x y=>decide (y>x)) v rest
   | _=>none
  | _=>none
 | _=>none
inductive Kind where
 | still | alloc | effect
 deriving DecidableEq
def dP:Op→Kind
 | .move _ | .assign _ | .pick .. | .build .. | .load .. | .nilCheck _ | .binOp .. | .unOp .. | .convert .. | .makeInterface .. | .makeFunc .. | .slice ..
 | .fieldAddr .. | .field .. | .indexAddr .. | .index .. | .lookup .. | .extract .. | .entry _ | .typeAssert ..=>.still
 | .call c=>match c.callee with
  | .builtin .len | .builtin .min | .builtin .max=>.still
  | _=>.effect
 | .alloc _ | .box .. | .buildSlice .. | .makeMap .. | .makeSlice ..=>.alloc
 | _=>.effect
def nameOf:Value→List Nat
 | .pointer (some a)=>[a.block]
 | .slice (some a) _ _=>[a.block]
 | .map (some r)=>[r]
 | _=>[]
def fM (ρ:Operand→Value) (H:bG):Op→List Nat
 | .load _ a=>nameOf (ρ a)
 | .binOp _ _ x y _=>nameOf (ρ x)++nameOf (ρ y)
 | .slice _ x _ _ _=>nameOf (ρ x)
 | .lookup _ x _ _=>nameOf (ρ x)
 | .entry it=>nameOf (ρ it)++(match ρ it with
  | .pointer (some a)=>match H a.block with
   | some (.gC (some m) _ _ _ _)=>[m]
   | _=>[]
  | _=>[])
 | .call c=>match c.args[0]? with
  | some x=>nameOf (ρ x)
  | none=>[]
 | _=>[]
def fE (X:Env) (nm:Nat) (ρ:Operand→Value):Op→Option (Value×(Nat→bU))
 | .alloc e=>match X.ty e with
  | some {zero:=some z,..}=>some (.pointer (some ⟨nm,0,none⟩),fun v=>.cells (PT.ofList z.cells.toList) [] z.cells.size e false false v)
  | _=>none
 | .box e x=>some (.pointer (some ⟨nm,0,none⟩),fun v=>.cells (PT.ofList (ρ x).cells.toList) [] (ρ x).cells.size e false false v)
 | .buildSlice t len parts=>match X.ty t with
  | some {desc:=.slice e,..}=>match X.ty e with
   | some {zero:=some z,size:=esz,..} =>
    if len*esz≤2 ^ 24 then
     match Instr.fill (fun i=>some (i*esz,esz)) ((Array.range (len*esz)).map (z.cells[·%z.cells.size]!)) (parts.toList.map fun(i,x)=>(i,ρ x)) with
     | some cs=>some (.slice (some ⟨nm,0,none⟩) len len,fun v=>.cells (PT.ofList cs.toList) [] cs.size e false false v)
     | none=>none
    else none
   | _=>none
  | _=>none
 | .makeMap t r=>match X.ty t,r.map ρ with
  | some {desc:=.map _ _,..},none=>some (.map (some nm),fun v=>.map [] 0 v)
  | some {desc:=.map _ _,..},some (.int _ _)=>some (.map (some nm),fun v=>.map [] 0 v)
  | _,_=>none
 | .makeSlice t len cap=>match X.ty t,ρ len,ρ cap with
  | some {desc:=.slice e,..},.int .i64 l,.int .i64 c=>match X.ty e with
   | some {zero:=some z,size:=esz,bytes,..} =>
    if 0≤l∧l≤c∧c<2 ^ 40∧bytes*c≤2 ^ 48∧z.cells.size=esz then
     some (.slice (some ⟨nm,0,none⟩) l.toNat c.toNat,fun v=>.cells .nil z.cells.toList (c.toNat*esz) e false false v)
    else none
   | _=>none
  | _,_,_=>none
 | _=>none
def jM (H:bG) (size n:Nat):Value→Option (List Value)
 | .slice (some a) _ _=>if n*size=0 then some [] else bD H a (n*size)
 | .slice none _ _=>some []
 | .string s=>some ((s.extract 0 n).data.toList.map fun b=>.int .u8 b.toNat)
 | _=>none
def tL:Value→Option Nat
 | .slice _ n _=>some n
 | .string s=>some s.size
 | _=>none
def St.kill (s:St) (b:Nat):St:=s.put b fun _=>.dead
def AM (c:PT Value) (z:List Value) (m:Nat) (a:Addr) (k:Nat) (new:List Value):Option (PT Value×List Value) :=
 if k=0 then some (PT.ofList new,[])
 else match a.spot with
  | some _=>none
  | none =>
   if a.off=0 then(if k≤m then some (c.zS k new,z) else none)
   else match nX c z m a.off k with
    | some cW=>some (PT.ofList (cW++new),[])
    | none=>none
def inBlock (a:Addr) (sLen sCap esz m:Nat):Bool :=
 match a.spot with
 | none=>decide (a.off+sCap*esz≤m∧sLen≤sCap)
 | some k=>decide (sLen=0∧sCap=0∧a.off+k≤m)
def qZ (s:St) (e:TypeId) (esz:Nat) (base:Option Addr) (sLen sCap n:Nat) (new:List Value):Option (Value×St) :=
 if sLen+n≤sCap then
  match base with
  | some a=>if new.isEmpty then some (.slice base (sLen+n) sCap,s) else match dB s (a.add (sLen*esz)) new with
   | some s=>some (.slice base (sLen+n) sCap,s)
   | none=>none
  | none=>if n=0 then some (.slice base (sLen+n) sCap,s) else none
 else match base with
  | none=>if sLen=0 then some (.slice (some ⟨s.next,0,none⟩) (sLen+n) (sLen+n),s.new fun v=>.cells (PT.ofList new) [] ((sLen+n)*esz) e true false v) else none
  | some a=>match s.heap.get a.block with
   | some (.cells c z m e0 room false _) =>
    if e0=e∧inBlock a sLen sCap esz m=true then
     match AM c z m a (sLen*esz) new with
     | some (c',z')=>some (.slice (some ⟨s.next,0,none⟩) (sLen+n) (sLen+n),(if room then s.kill a.block else s).new fun v=>.cells c' z' ((sLen+n)*esz) e true false v)
     | none=>none
    else none
   | _=>none
def YP:TypeDesc→Bool
 | .string | .slice _=>true
 | _=>false
def oY (X:Env) (s:St) (argTypes:Array TypeId) (args:List Value):Option (Value×St) :=
 match argTypes.toList,args with
 | [t,t2],[.slice base sLen sCap,x]=>match X.ty t,X.ty t2 with
  | some {desc:=.slice e,..},some i2=>match X.ty e,tL x with
   | some {zero:=some z,size:=esz,bytes,..},some n=>match jM s.look esz n x with
    | none=>none
    | some new =>
     if new.length=n*esz∧YP i2.desc=true∧z.cells.size=esz∧sLen+n<2 ^ 40∧(2*(sLen+n)+1000)*bytes≤2 ^ 47∧new.all iB=true then
      qZ s e esz base sLen sCap n new
     else none
   | _,_=>none
  | _,_=>none
 | _,_=>none
def IT (X:Env) (s:St) (argTypes:Array TypeId) (args:List Value):Option (Value×St) :=
 match argTypes[0]?,args with
 | some t,[.slice base dLen _,x]=>match X.ty t with
  | some {desc:=.slice e,..}=>match X.ty e,tL x with
   | some ei,some m=>match jM s.look ei.size (Nat.min m dLen) x with
    | some cs=>match base with
     | some a=>if cs.isEmpty then some (goInt (Nat.min m dLen:Nat),s) else match dB s a cs with
      | some s=>some (goInt (Nat.min m dLen:Nat),s)
      | none=>none
     | none=>some (goInt (Nat.min m dLen:Nat),s)
    | none=>none
   | _,_=>none
  | _=>none
 | _,_=>none
def rep {α:Type} (l:List α):Nat→List α
 | 0=>[]
 | n+1=>l++rep l n
def uQ (X:Env) (s:St) (argTypes:Array TypeId) (args:List Value):Option (Value×St) :=
 match argTypes[0]?,args with
 | some t,[x]=>match X.ty t with
  | some i=>match x with
   | .map none=>some (.tuple #[],s)
   | .slice none _ _=>some (.tuple #[],s)
   | .map (some r)=>match s.heap.get r with
    | some (.map _ c _)=>some (.tuple #[],s.put r fun v=>.map [] c v)
    | _=>none
   | .slice (some a) n _=>if n=0 then some (.tuple #[],s) else match i.desc with
    | .slice e=>match X.ty e with
     | some {zero:=some z,..}=>match dB s a (rep z.cells.toList n) with
      | some s=>some (.tuple #[],s)
      | none=>none
     | _=>none
    | _=>none
   | _=>none
  | none=>none
 | _,_=>none
def wG (X:Env) (s:St) (argTypes:Array TypeId) (args:List Value):Option (Value×St) :=
 match argTypes[0]?,args with
 | some t,[m,k]=>match X.ty t with
  | some {desc:=.map kt _,..}=>if DD X kt k then match m with
   | .map none=>some (.tuple #[],s)
   | .map (some r)=>match s.heap.get r with
    | some (.map es c _)=>match mO k es 0 with
     | some (some (i,_))=>some (.tuple #[],s.put r fun v=>.map (es.eraseIdx i) c v)
     | some none=>some (.tuple #[],s)
     | none=>none
    | _=>none
   | _=>none else none
  | _=>none
 | _,_=>none
def mE (X:Env) (s:St) (t:TypeId) (m k v:Value):Option St :=
 match X.ty t,m with
 | some {desc:=.map kt _,..},.map (some r)=>if DD X kt k then match s.heap.get r with
   | some (.map es c _)=>match mO k es 0 with
    | some (some (i,_))=>some (s.put r fun aT=>.map (es.modify i fun e=>{e with key:=k,val:=v}) c aT)
    | some none=>some (s.put r fun aT=>.map (es++[{key:=k,val:=v,born:=c}]) (c+1) aT)
    | none=>none
   | _=>none else none
 | _,_=>none
abbrev fZ:=FuncId→List Value→St→aS (Value×St)
abbrev gM:=Nat→List Value→St→aS (Value×St)
def nO (es:List MapEntry) (since:Nat) (seen:List Nat):List (Option MapEntry) :=
 let left:=es.filter fun e=>!seen.contains e.born
 let cW:=left.filter fun e=>decide (e.born<since)
 let new:=left.filter fun e=>decide (e.born≥since)
 (if cW.isEmpty then [none] else [])++(cW++new).map some
def DZ (s:St) (r m since:Nat) (seen:List Nat) (clock:Nat) (cands:List (Option MapEntry)) (i:Nat):aS (Value×St) :=
 match cands[i]? with
 | some (some e)=>.ret (.tuple #[.bool true,e.key,e.val],s.put r fun v=>.gC (some m) since (e.born::seen) clock v)
 | some none=>.ret (.tuple #[.bool false],s)
 | none=>.fail "next: no candidate"
def DT (s:St) (it:Value) (isString:Bool):aS (Value×St) :=
 match it with
 | .pointer (some a)=>if a.off=0∧a.spot=none then
  match s.heap.get a.block with
  | some (.pF str pos _)=>if isString then
    (if pos<str.size then
     .ret (.tuple #[.bool true,goInt (pos:Nat),.int .i32 (Utf8.decode str pos).1],s.put a.block fun v=>.pF str (pos+(Utf8.decode str pos).2) v)
    else .ret (.tuple #[.bool false],s)) else .fail "next"
  | some (.gC none _ _ _ _)=>if isString then .fail "next" else .ret (.tuple #[.bool false],s)
  | some (.gC (some m) since seen last _)=>if isString then .fail "next" else match mapOf s.look m with
   | some (es,clock) =>
    if !seen.isEmpty&&!es.isEmpty&&es.all (fun e=>decide (e.born≥last)) then .fail "next: map all new" else
    if (nO es since seen).length≤1 then DZ s a.block m since seen clock (nO es since seen) 0
    else .ask (nO es since seen).length (DZ s a.block m since seen clock (nO es since seen))
   | none=>.fail "next: no map"
  | _=>.fail "next" else .fail "next"
 | _=>.fail "next: no iterator"
def yM (s:St) (fn:Func) (args:List Value):aS (Value×St) :=
 if fn.name= "maps.clone"∧fn.origin= "" then
  match args with
  | [.iface t (.map (some r))]=>match s.heap.get r with
   | some (.map es c _)=>.ret (.iface t (.map (some s.next)),s.new fun v=>.map es c v)
   | _=>.fail "maps.clone"
  | _=>.fail "maps.clone"
 else .fail ("no body: "++fn.name)
def oC (X:Env) (call:fZ) (round:gM) (s:St) (f:Value) (args:List Value):aS (Value×St) :=
 match f with
 | .func (.func f) first captured=>call f (first.toList++args++captured.toList) s
 | .func (.yield l) first _=>round l (first.toList++args) s
 | .func (.method name) first _=>match first.toList++args with
  | .iface t v::rest=>match DP X t v name with
   | some (f,r)=>call f (r::rest) s
   | none=>.fail "method value"
  | _=>.fail "method value"
 | _=>.fail "call: value"
def eX (X:Env) (call:fZ) (round:gM) (s:St) (ρ:Operand→Value) (op:Op):aS (Value×St) :=
 match op with
 | .store t a x=>match ρ a with
  | .pointer (some a)=>match storeT X s t a (ρ x) with
   | some s=>.ret (undef,s)
   | none=>.fail "store"
  | _=>.fail "store: no pointer"
 | .mapUpdate t m k x=>match mE X s t (ρ m) (ρ k) (ρ x) with
  | some s=>.ret (undef,s)
  | none=>.fail "mapUpdate"
 | .insert t m k x=>match mE X s t (ρ m) (ρ k) (ρ x) with
  | some s=>.ret (undef,s)
  | none=>.fail "insert"
 | .range t x=>match X.ty t with
  | some i=>match i.desc,ρ x with
   | .string,.string str=>.ret (.pointer (some ⟨s.next,0,none⟩),s.new fun v=>.pF str 0 v)
   | .map _ _,.map none=>.ret (.pointer (some ⟨s.next,0,none⟩),s.new fun v=>.gC none 0 [] 0 v)
   | .map _ _,.map (some m)=>match mapOf s.look m with
    | some (_,clock)=>.ret (.pointer (some ⟨s.next,0,none⟩),s.new fun v=>.gC (some m) clock [] clock v)
    | none=>.fail "range"
   | _,_=>.fail "range"
  | none=>.fail "range"
 | .next it str=>DT s (ρ it) str
 | .call c=>match c.callee with
  | .value f=>oC X call round s (ρ f) (c.args.toList.map ρ)
  | .invoke x name=>match ρ x with
   | .iface t v=>match DP X t v name with
    | some (f,r)=>call f (r::c.args.toList.map ρ) s
    | none=>.fail ("invoke "++name)
   | _=>.fail "invoke: nil"
  | .builtin .append=>.ofOption "append" (oY X s c.argTypes (c.args.toList.map ρ))
  | .builtin .copy=>.ofOption "copy" (IT X s c.argTypes (c.args.toList.map ρ))
  | .builtin .clear=>.ofOption "clear" (uQ X s c.argTypes (c.args.toList.map ρ))
  | .builtin .delete=>.ofOption "delete" (wG X s c.argTypes (c.args.toList.map ρ))
  | .builtin _=>.fail "builtin"
 | _=>.fail "effect: not taken"
def lX (X:Env) (call:fZ) (round:gM) (s:St) (ρ:Operand→Value) (op:Op):aS (Value×St) :=
 match dP op with
 | .still=>match dU X s.look ρ op with
  | some v=>.ret (v,s)
  | none=>.fail "still"
 | .alloc=>match fE X s.next ρ op with
  | some (v,f)=>.ret (v,s.new f)
  | none=>.fail "alloc"
 | .effect=>eX X call round s ρ op
def aN (ops:Array Oper) (a:aG) (j:Nat):Option Bool :=
 match (ops[j]?).bind (·.dst) with
 | some d=>match a.aB d with
  | .bool b=>some b
  | _=>none
 | none=>none
def gP (X:Env) (call:fZ) (round:gM) (ops:Array Oper):List Oper→aG→St→aS (aG×St)
 | [],a,s=>.ret (a,s)
 | o::rest,a,s =>
  if Region.wanted o (aN ops a) then
   (lX X call round s a.eval o.op).bind fun(v,s)=>gP X call round ops rest (a.put o.dst v) s
  else gP X call round ops rest (a.put o.dst undef) s
def wQ:Op→Bool
 | .load .. | .lookup .. | .entry _ | .slice ..=>true
 | .binOp .eql .. | .binOp .neq ..=>true
 | .call c=>match c.callee with
  | .builtin .len=>true
  | _=>false
 | _=>false
def rD (oi oj:Oper) (i j:Nat):Option (List (Nat×Nat)) :=
 match dP oi.op,dP oj.op with
 | .still,.effect=>some (if wQ oi.op then [(i,j)] else [])
 | .effect,.still=>some (if wQ oj.op then [(j,i)] else [])
 | .alloc,.still=>some (if wQ oj.op then [(j,i)] else [])
 | .effect,.effect=>none
 | .alloc,.effect=>none
 | _,_=>some []
def yK (b:Array Nat) (j:Nat) (oj:Oper):List Oper→Nat→Option (List (Nat×Nat))
 | [],_=>some []
 | oi::rest,i =>
  if i<j then
   if (b.getD j 0).testBit i then yK b j oj rest (i+1)
   else match rD oi oj i j,yK b j oj rest (i+1) with
    | some l,some m=>some (l++m)
    | _,_=>none
  else some []
def FF (b:Array Nat) (all:List Oper):List Oper→Nat→Option (List (Nat×Nat))
 | [],_=>some []
 | oj::rest,j=>match yK b j oj all 0,FF b all rest (j+1) with
  | some l,some m=>some (l++m)
  | _,_=>none
def rZ (ops:Array Oper):Option (List (Nat×Nat)):=FF (Region.before ops) ops.toList ops.toList 0
structure nB where
 iC:Bool
 reads:List Nat
 pre:St
 post:St
def lK (X:Env) (call:fZ) (round:gM) (nm:Nat) (s:St) (ρ:Operand→Value) (op:Op):Option (Value×St) :=
 match dP op with
 | .still=>match dU X s.look ρ op with
  | some v=>some (v,s)
  | none=>none
 | .alloc=>match fE X nm ρ op with
  | some (v,f)=>some (v,s.put nm f)
  | none=>none
 | .effect=>match eX X call round s ρ op with
  | .ret r=>some r
  | _=>none
def eP (X:Env) (call:fZ) (round:gM) (ops:Array Oper) (base:Nat):List Oper→Nat→aG→St→Option (aG×St×List nB)
 | [],_,a,s=>some (a,s,[])
 | o::rest,i,a,s =>
  if Region.wanted o (aN ops a) then
   match lK X call round (base+2*i) s a.eval o.op with
   | some (v,s')=>match eP X call round ops base rest (i+1) (a.put o.dst v) s' with
    | some (a2,s2,l)=>some (a2,s2,{iC:=true,reads:=fM a.eval s.look o.op,pre:=s,post:=s'}::l)
    | none=>none
   | none=>none
  else match eP X call round ops base rest (i+1) (a.put o.dst undef) s with
   | some (a2,s2,l)=>some (a2,s2,{iC:=false,reads:=[],pre:=s,post:=s}::l)
   | none=>none
def eT (s s':St) (b:Nat):Bool :=
 match s.heap.get b,s'.heap.get b with
 | some o,some o'=>!o.cS&&!o'.cS&&o.aT==o'.aT&&decide (o.aT<s.aO)
 | _,_=>false
def OL (log:List nB) (c:List (Nat×Nat)):Bool :=
 c.all fun(x,j)=>match log[x]?,log[j]? with
  | some nx,some nj=>!nx.iC||!nj.iC||nx.reads.all fun b=>eT nj.pre nj.post b
  | _,_=>false
inductive dL where
 | normal
 | exit (id:Nat)
 | ret
 deriving DecidableEq
def uR (X:Env) (call:fZ) (round:gM) (ops:Array Oper) (a:aG) (s:St):aS (aG×St) :=
 match rZ ops with
 | none=>.fail "drawn: not taken"
 | some c=>match eP X call round ops s.next ops.toList 0 a {heap:=s.heap,next:=s.next+2*ops.size,aO:=s.aO} with
  | some (a,s,log)=>if OL log c then .ret (a,s) else .fail "drawn: an effect changes what is read"
  | none=>.fail "drawn"
def tQ (nt:Nat):Operand→Bool
 | .tmp t=>decide (t<nt)
 | .const v=>FE v
 | _=>true
def nW (nt:Nat) (o:Oper):Bool :=
 o.op.operands.toList.all (tQ nt)&&(match o.dst with | some d=>decide (d<nt) | none=>true) &&
 (match o.op with | .defer _ | .go _ | .select ..=>false | _=>true)
def tmpsOf (ops:Array Oper) (o:Oper):List Tmp :=
 (o.op.operands.toList.filterMap fun | .tmp t=>some t | _=>none) ++
 (match o.guard with
  | some (j,_)=>match ops[j]? with
   | some og=>match og.dst with | some d=>[d] | none=>[]
   | none=>[]
  | none=>[])++o.dst.toList
def PJ (ops:Array Oper) (b:Array Nat) (oi oj:Oper) (i j:Nat):Bool :=
 (b.getD j 0).testBit i ||
 !((match oi.dst with | some d=>(tmpsOf ops oj).contains d | none=>false)||(match oj.dst with | some d=>(tmpsOf ops oi).contains d | none=>false))
def HE (ops:Array Oper) (b:Array Nat) (oj:Oper) (j:Nat):List Oper→Nat→Bool
 | [],_=>true
 | oi::rest,i=>if i<j then PJ ops b oi oj i j&&HE ops b oj j rest (i+1) else true
def DY (ops:Array Oper) (b:Array Nat):List Oper→Nat→Bool
 | [],_=>true
 | oj::rest,j=>HE ops b oj j ops.toList 0&&DY ops b rest (j+1)
def Jm (o:Oper) (j:Nat):Bool :=
 o.after.toList.all (fun e=>!Region.binds .any e||decide (e.on<j)) &&
 (match o.guard with | some (g,_)=>decide (g<j) | none=>true)
def HB:List Oper→Nat→Bool
 | [],_=>true
 | o::rest,j=>Jm o j&&HB rest (j+1)
def BE (ops:Array Oper):Bool:=DY ops (Region.before ops) ops.toList 0&&HB ops.toList 0
def fK (nt:Nat):Code→Bool
 | .skip | .label _ | .exit _ | .ret=>true
 | .region _ ops draw=>ops.toList.all (nW nt)&&(!draw||BE ops)
 | .seq a b=>fK nt a&&fK nt b
 | .cond c a b=>tQ nt c&&fK nt a&&fK nt b
 | .block _ b=>fK nt b
 | .loop b=>fK nt b
 | .rangeFunc g ps a b=>tQ nt g&&ps.toList.all (fun p=>decide (p<nt))&&fK nt a&&fK nt b
 | .scope _ | .goto _ | .refuse _=>true
def KR (nt:Nat) (l:List ResultVar):Bool:=l.all fun
 | .tmp t=>decide (t<nt)
 | .cell t _=>decide (t<nt)
def results1 (X:Env) (H:bG) (a:aG):List ResultVar→Option (List Value)
 | []=>some []
 | .tmp t::rest=>match results1 X H a rest with
  | some l=>some (a.aB t::l)
  | none=>none
 | .cell t ty::rest=>match a.aB t with
  | .pointer (some ad)=>match loadT X H ty ad,results1 X H a rest with
   | some v,some l=>some (v::l)
   | _,_=>none
  | _=>none
def wX (X:Env) (H:bG) (f:Func) (a:aG):Option Value :=
 match results1 X H a f.results.toList with
 | some [v]=>some v
 | some l=>some (.tuple l.toArray)
 | none=>none
def tR:PT Value→List (Tmp×Value)→PT Value
 | t,[]=>t
 | t,(i,v)::rest=>tR (t.set i v) rest
def AZ (r:Option Nat) (s:St):Bool:=match r with
 | none=>true
 | some l=>match s.heap.get l with
  | some (.loop ..)=>true
  | _=>false
mutual
def code (X:Env):Nat→Option Nat→Code→aG→St→aS (dL×aG×St)
 | 0,_,_,_,_=>.fail "fuel"
 | n+1,r,c,a,s=>match c with
  | .skip=>.ret (.normal,a,s)
  | .label _=>.ret (.normal,a,s)
  | .region _ ops draw =>
   (if draw then uR X (lV X n) (sO X n) ops a s else gP X (lV X n) (sO X n) ops ops.toList a s).bind fun(a,s)=>.ret (.normal,a,s)
  | .seq x y=>(code X n r x a s).bind fun(e,a,s)=>match e with
   | .normal=>code X n r y a s
   | e=>.ret (e,a,s)
  | .cond c x y=>match a.eval c with
   | .bool true=>code X n r x a s
   | .bool false=>code X n r y a s
   | _=>.fail "cond"
  | .block id b=>(code X n r b a s).bind fun(e,a,s)=>match e with
   | .exit i=>if i=id then .ret (.normal,a,s) else .ret (e,a,s)
   | e=>.ret (e,a,s)
  | .loop b=>(code X n r b a s).bind fun(e,a,s)=>match e with
   | .normal=>code X n r (.loop b) a s
   | e=>.ret (e,a,s)
  | .exit id=>.ret (.exit id,a,s)
  | .ret=>.ret (.ret,a,s)
  | .rangeFunc g ps assign body=>match a.eval g with
   | .func (.func f) first captured =>
    if AZ r s then
    (lV X n f (first.toList++[.func (.yield s.next) #[] #[]]++captured.toList) (s.new fun v=>.loop .ready none a.tmps a.nt ps assign body v)).bind fun(_,s') =>
     match s'.heap.get s.next with
     | some (.loop st pend t nt ps aKe bd _) =>
      if st=.busy then .fail "rangeFunc: busy" else
      match pend with
      | none=>.ret (.normal,a,s'.put s.next fun v=>.loop .exhausted pend t nt ps aKe bd v)
      | some .ret=>.ret (.ret,a,s'.put s.next fun v=>.loop .exhausted pend t nt ps aKe bd v)
      | some (.exit id)=>.ret (.exit id,a,s'.put s.next fun v=>.loop .exhausted pend t nt ps aKe bd v)
      | some _=>.fail "rangeFunc: pending"
     | _=>.fail "rangeFunc: record"
    else .fail "rangeFunc: round"
   | _=>.fail "rangeFunc: no function"
  | .scope _=>.fail "scope"
  | .goto _=>.fail "goto"
  | .refuse w=>.fail ("refuse "++w)
def lV (X:Env):Nat→FuncId→List Value→St→aS (Value×St)
 | 0,_,_,_=>.fail "fuel"
 | n+1,f,args,s=>match X.fn f with
  | some fn=>match fn.body with
   | some c =>
    if args.length≤fn.ntmps then
    (code X n none c {tmps:=PT.ofList args,nt:=fn.ntmps} s).bind fun(e,a,s)=>match e with
     | .exit _=>.fail "call: exit"
     | _=>match wX X s.look fn a with
      | some v=>.ret (v,s)
      | none=>.fail "results"
    else .fail "too many arguments"
   | none=>yM s fn args
  | none=>.fail "no function"
def sO (X:Env):Nat→Nat→List Value→St→aS (Value×St)
 | 0,_,_,_=>.fail "fuel"
 | n+1,l,args,s=>match s.heap.get l with
  | some (.loop .ready _ t nt ps assign body _) =>
   if args.length=ps.size then
   (code X n (some l) assign {tmps:=tR t (ps.toList.zip args),nt} s).bind fun(e,a,s)=>match e with
    | .normal=>match s.heap.get l with
     | some (.loop .ready pend t nt ps aKe bd _) =>
      (code X n (some l) body a (s.put l fun v=>.loop .busy pend t nt ps aKe bd v)).bind fun(e,_,s)=>match s.heap.get l with
       | some (.loop _ _ t nt ps aKe bd _) =>
        match e with
        | .normal=>.ret (.bool true,s.put l fun v=>.loop .ready none t nt ps aKe bd v)
        | .ret=>.ret (.bool false,s.put l fun v=>.loop .done (some .ret) t nt ps aKe bd v)
        | .exit id=>.ret (.bool false,s.put l fun v=>.loop .done (some (.exit id)) t nt ps aKe bd v)
       | _=>.fail "round: record"
     | _=>.fail "round: record"
    | _=>.fail "round: assign"
   else .fail "round: arguments"
  | _=>.fail "round: not ready"
end
def BF (f:Func):Bool:=match f.body with
 | some c=>f.name != "runtime.NumGoroutine"&&fK f.ntmps c&&KR f.ntmps f.results.toList
 | none=>true
def YY (P:Program):PT (Option Ty):=PT.ofList ((List.range P.types.size).map (ll P))
def NG (P:Program):PT (Option Func):=PT.ofList (P.funcs.toList.map fun f=>if BF f then some f else none)
def env (P:Program):Env:={ty:=fun t=>match (YY P).get t with | some x=>x | none=>none,fn:=fun f=>match (NG P).get f with | some x=>x | none=>none}
end Go.Dust
end
namespace Go.Dust
namespace PT
variable {α:Type}
theorem get_nil (n:Nat):(PT.nil:PT α).get n=none:=rfl
theorem JG (v:Option α) (l r:PT α):(node v l r).get 0=v:=rfl
theorem IN {m:Nat} (h:m%2=0):Nat.beq (Nat.mod (m+1) 2) 1=true:=by
 rw[Nat.beq_eq];show (m+1)%2=1;omega
theorem IM {m:Nat} (h:m%2=1):Nat.beq (Nat.mod (m+1) 2) 1=false:=by
 cases hb:Nat.beq (Nat.mod (m+1) 2) 1 with
 | false=>rfl
 | true=>rw[Nat.beq_eq] at hb;have:(m+1)%2=1:=hb;omega
theorem AK (v:Option α) (l r:PT α) (m:Nat) (h:m%2=0):(node v l r).get (m+1)=l.get (m/2):=by
 show (Bool.rec (motive:=fun _=>Option α) (r.get (m/2)) (l.get (m/2)) (Nat.beq (Nat.mod (m+1) 2) 1))=_;rw[IN h]
theorem AL (v:Option α) (l r:PT α) (m:Nat) (h:m%2=1):(node v l r).get (m+1)=r.get (m/2):=by
 show (Bool.rec (motive:=fun _=>Option α) (r.get (m/2)) (l.get (m/2)) (Nat.beq (Nat.mod (m+1) 2) 1))=_;rw[IM h]
theorem aGv (f:Nat) (a:α):nY (f+1) nil 0 a=node (some a) nil nil:=rfl
theorem aGw (f:Nat) (v:Option α) (l r:PT α) (a:α):nY (f+1) (node v l r) 0 a=node (some a) l r:=rfl
theorem Nh (f m:Nat) (a:α) (h:m%2=0):nY (f+1) nil (m+1) a=node none (nY f nil (m/2) a) nil:=by
 show (Bool.rec (motive:=fun _=>PT α) (node none nil (nY f nil (m/2) a)) (node none (nY f nil (m/2) a) nil) (Nat.beq (Nat.mod (m+1) 2) 1))=_;rw[IN h]
theorem Ni (f m:Nat) (a:α) (h:m%2=1):nY (f+1) nil (m+1) a=node none nil (nY f nil (m/2) a):=by
 show (Bool.rec (motive:=fun _=>PT α) (node none nil (nY f nil (m/2) a)) (node none (nY f nil (m/2) a) nil) (Nat.beq (Nat.mod (m+1) 2) 1))=_;rw[IM h]
theorem Nj (f m:Nat) (v:Option α) (l r:PT α) (a:α) (h:m%2=0):nY (f+1) (node v l r) (m+1) a=node v (nY f l (m/2) a) r:=by
 show (Bool.rec (motive:=fun _=>PT α) (node v l (nY f r (m/2) a)) (node v (nY f l (m/2) a) r) (Nat.beq (Nat.mod (m+1) 2) 1))=_;rw[IN h]
theorem Nk (f m:Nat) (v:Option α) (l r:PT α) (a:α) (h:m%2=1):nY (f+1) (node v l r) (m+1) a=node v l (nY f r (m/2) a):=by
 show (Bool.rec (motive:=fun _=>PT α) (node v l (nY f r (m/2) a)) (node v (nY f l (m/2) a) r) (Nat.beq (Nat.mod (m+1) 2) 1))=_;rw[IM h]
theorem N9:∀ (f:Nat) (t:PT α) (n:Nat) (a:α) (m:Nat),n<f→(nY f t n a).get m=if m=n then some a else t.get m:=by
 intro f
 induction f with
 | zero=>intro t n a m h;omega
 | succ f ih =>
  intro t n a m h;cases t with
  | nil =>
   cases n with
   | zero =>
    rw[aGv];cases m with
    | zero=>simp[JG]
    | succ m =>
     rcases Nat.mod_two_eq_zero_or_one m with e | e
     ·simp[AK _ _ _ _ e,get_nil]
     ·simp[AL _ _ _ _ e,get_nil]
   | succ n =>
    rcases Nat.mod_two_eq_zero_or_one n with e | e
    ·rw[Nh _ _ _ e];cases m with
     | zero=>simp[JG,get_nil]
     | succ m =>
      rcases Nat.mod_two_eq_zero_or_one m with e' | e'
      ·rw[AK _ _ _ _ e',ih _ _ _ _ (by omega)];simp only[get_nil];by_cases hm:m=n
       ·subst hm;simp
       ·rw[if_neg (by omega),if_neg (by omega)]
      ·rw[AL _ _ _ _ e',get_nil,if_neg (by omega),get_nil]
    ·rw[Ni _ _ _ e];cases m with
     | zero=>simp[JG,get_nil]
     | succ m =>
      rcases Nat.mod_two_eq_zero_or_one m with e' | e'
      ·rw[AK _ _ _ _ e',get_nil,if_neg (by omega),get_nil]
      ·rw[AL _ _ _ _ e',ih _ _ _ _ (by omega)];simp only[get_nil];by_cases hm:m=n
       ·subst hm;simp
       ·rw[if_neg (by omega),if_neg (by omega)]
  | node v l r =>
   cases n with
   | zero =>
    rw[aGw];cases m with
    | zero=>simp[JG]
    | succ m =>
     rcases Nat.mod_two_eq_zero_or_one m with e | e
     ·simp[AK _ _ _ _ e]
     ·simp[AL _ _ _ _ e]
   | succ n =>
    rcases Nat.mod_two_eq_zero_or_one n with e | e
    ·rw[Nj _ _ _ _ _ _ e];cases m with
     | zero=>simp[JG]
     | succ m =>
      rcases Nat.mod_two_eq_zero_or_one m with e' | e'
      ·rw[AK _ _ _ _ e',ih _ _ _ _ (by omega),AK _ _ _ _ e'];by_cases hm:m=n
       ·subst hm;simp
       ·rw[if_neg (by omega),if_neg (by omega)]
      ·rw[AL _ _ _ _ e',AL _ _ _ _ e',if_neg (by omega)]
    ·rw[Nk _ _ _ _ _ _ e];cases m with
     | zero=>simp[JG]
     | succ m =>
      rcases Nat.mod_two_eq_zero_or_one m with e' | e'
      ·rw[AK _ _ _ _ e',AK _ _ _ _ e',if_neg (by omega)]
      ·rw[AL _ _ _ _ e',ih _ _ _ _ (by omega),AL _ _ _ _ e'];by_cases hm:m=n
       ·subst hm;simp
       ·rw[if_neg (by omega),if_neg (by omega)]
theorem fC (t:PT α) (n:Nat) (a:α) (m:Nat):(t.set n a).get m=if m=n then some a else t.get m:=N9 _ _ _ _ _ (Nat.lt_succ_self n)
theorem get_set_same (t:PT α) (n:Nat) (a:α):(t.set n a).get n=some a:=by rw[fC,if_pos rfl]
theorem Bx (t:PT α) {n m:Nat} (a:α) (h:m≠n):(t.set n a).get m=t.get m:=by rw[fC,if_neg h]
theorem FO:∀ (l:List α) (t:PT α) (n m:Nat),(t.zS n l).get m=if n≤m then(match l[m-n]? with | some a=>some a | none=>t.get m) else t.get m
 | [],t,n,m=>by simp[zS]
 | a::l,t,n,m=>by
  rw[zS,FO l _ (n+1) m];by_cases h:n+1≤m
  ·obtain⟨d,hd⟩:∃ d,m-n=d+1:=⟨m-n-1,by omega⟩;rw[if_pos h,if_pos (by omega),hd,show m-(n+1)=d from by omega,List.getElem?_cons_succ,Bx _ _ (by omega)]
  ·rw[if_neg h];by_cases h':n≤m
   ·have:m=n:=by omega
    subst this;rw[if_pos (Nat.le_refl _),Nat.sub_self,get_set_same];rfl
   ·rw[if_neg h',Bx _ _ (by omega)]
theorem sF (l:List α) (m:Nat):(ofList l).get m=l[m]?:=by
 rw[ofList,FO,if_pos (Nat.zero_le _),Nat.sub_zero,get_nil];cases l[m]? <;> rfl
end PT
namespace aS
variable {α β:Type}
theorem iF.mono {Φ Ψ:α→Prop} (h:∀ a,Φ a→Ψ a):∀ {x:aS α},x.iF Φ→x.iF Ψ
 | fail _,hx=>hx
 | ret _,hx=>h _ hx
 | ask _ _,hx=>fun i hi=>iF.mono h (hx i hi)
theorem oP (f:α→aS β) (Φ:β→Prop):∀ (x:aS α),(x.bind f).iF Φ↔x.iF fun a=>(f a).iF Φ
 | fail _=>Iff.rfl
 | ret _=>Iff.rfl
 | ask _ k=>⟨fun h i hi=>(oP f Φ (k i)).1 (h i hi),fun h i hi=>(oP f Φ (k i)).2 (h i hi)⟩
theorem Lv.mono {Φ Ψ:α→Prop} (h:∀ a,Φ a→Ψ a):∀ {x:aS α},x.Lv Φ→x.Lv Ψ
 | fail _,_=>trivial
 | ret _,hx=>h _ hx
 | ask _ _,hx=>fun i hi=>Lv.mono h (hx i hi)
theorem oQ (f:α→aS β) (Φ:β→Prop):∀ (x:aS α),(x.bind f).Lv Φ↔x.Lv fun a=>(f a).Lv Φ
 | fail _=>Iff.rfl
 | ret _=>Iff.rfl
 | ask _ k=>⟨fun h i hi=>(oQ f Φ (k i)).1 (h i hi),fun h i hi=>(oQ f Φ (k i)).2 (h i hi)⟩
end aS
structure Loc where
 bL:Nat
 off:Nat
 extra:Nat
 ro:Bool
abbrev aP:=Nat→Option Loc
def aP.le (ι ι':aP):Prop:=∀ b l,ι b=some l→ι' b=some l
theorem aP.le_refl (ι:aP):ι.le ι:=fun _ _ h=>h
theorem aP.le_trans {a b c:aP} (h:a.le b) (k:b.le c):a.le c:=fun n l e=>k n l (h n l e)
inductive VR (ι:aP):Value→Value→Prop
 | bool (b:Bool):VR ι (.bool b) (.bool b)
 | int (k:IntKind) (n:Int):VR ι (.int k n) (.int k n)
 | float (k:FloatKind) (n:Nat):VR ι (.float k n) (.float k n)
 | string (s:ByteArray):VR ι (.string s) (.string s)
 | KL:VR ι (.pointer none) (.pointer none)
 | ptr {b o:Nat} {l:Loc} (h:ι b=some l):VR ι (.pointer (some ⟨b,o,none⟩)) (.pointer (some ⟨l.bL,l.off+o,none⟩))
 | zL (n c:Nat):VR ι (.slice none n c) (.slice none n c)
 | slice {b o:Nat} {l:Loc} (n c:Nat) (h:ι b=some l):VR ι (.slice (some ⟨b,o,none⟩) n c) (.slice (some ⟨l.bL,l.off+o,none⟩) n (c+l.extra))
 | sQ {b o k:Nat} {l:Loc} (h:ι b=some l):VR ι (.slice (some ⟨b,o,some k⟩) 0 0) (.slice (some ⟨l.bL,l.off+o+(if l.extra=0 then 0 else k),none⟩) 0 l.extra)
 | OW:VR ι (.map none) (.map none)
 | map {b:Nat} {l:Loc} (h:ι b=some l):VR ι (.map (some b)) (.map (some l.bL))
 | func {f:FuncId} {a c a' c':Array Value} (ha:a.size=a'.size) (hc:c.size=c'.size) (hav:∀ (i:Nat) v u,a[i]?=some v→a'[i]?=some u→VR ι v u)
   (hcv:∀ (i:Nat) v u,c[i]?=some v→c'[i]?=some u→VR ι v u):VR ι (.func (.func f) a c) (.func (.func f) a' c')
 | GY {m:String} {a c a' c':Array Value} (ha:a.size=a'.size) (hc:c.size=c'.size) (hav:∀ (i:Nat) v u,a[i]?=some v→a'[i]?=some u→VR ι v u)
   (hcv:∀ (i:Nat) v u,c[i]?=some v→c'[i]?=some u→VR ι v u):VR ι (.func (.method m) a c) (.func (.method m) a' c')
 | yield {b:Nat} {l:Loc} (h:ι b=some l):VR ι (.func (.yield b) #[] #[]) (.func (.yield l.bL) #[] #[])
 | nilFunc:VR ι .nilFunc .nilFunc
 | nilIface:VR ι .nilIface .nilIface
 | iface (t:TypeId) {v u:Value} (h:VR ι v u):VR ι (.iface t v) (.iface t u)
 | agg {a a':Array Value} (ha:a.size=a'.size) (hav:∀ (i:Nat) v u,a[i]?=some v→a'[i]?=some u→VR ι v u):VR ι (.agg a) (.agg a')
 | tuple {a a':Array Value} (ha:a.size=a'.size) (hav:∀ (i:Nat) v u,a[i]?=some v→a'[i]?=some u→VR ι v u):VR ι (.tuple a) (.tuple a')
theorem VR.mono {ι ι':aP} (hle:ι.le ι') {v u:Value} (h:VR ι v u):VR ι' v u:=by
 induction h with
 | bool b=>exact .bool b
 | int k n=>exact .int k n
 | float k n=>exact .float k n
 | string s=>exact .string s
 | KL=>exact .KL
 | ptr h=>exact .ptr (hle _ _ h)
 | zL n c=>exact .zL n c
 | slice n c h=>exact .slice n c (hle _ _ h)
 | sQ h=>exact .sQ (hle _ _ h)
 | OW=>exact .OW
 | map h=>exact .map (hle _ _ h)
 | func ha hc _ _ ih1 ih2=>exact .func ha hc ih1 ih2
 | GY ha hc _ _ ih1 ih2=>exact .GY ha hc ih1 ih2
 | yield h=>exact .yield (hle _ _ h)
 | nilFunc=>exact .nilFunc
 | nilIface=>exact .nilIface
 | iface t _ ih=>exact .iface t ih
 | agg ha _ ih=>exact .agg ha ih
 | tuple ha _ ih=>exact .tuple ha ih
inductive bQ (ι:aP):List Value→List Value→Prop
 | nil:bQ ι [] []
 | cons {v u:Value} {l l':List Value} (h:VR ι v u) (t:bQ ι l l'):bQ ι (v::l) (u::l')
theorem bQ.mono {ι ι':aP} (hle:ι.le ι'):∀ {l l':List Value},bQ ι l l'→bQ ι' l l'
 | _,_,.nil=>.nil
 | _,_,.cons h t=>.cons (h.mono hle) (bQ.mono hle t)
theorem bQ.length {ι:aP}:∀ {l l':List Value},bQ ι l l'→l.length=l'.length
 | _,_,.nil=>rfl
 | _,_,.cons _ t=>by simp[bQ.length t]
theorem bQ.get {ι:aP}:∀ {l l':List Value} (_:bQ ι l l') (i:Nat) {v u:Value},l[i]?=some v→l'[i]?=some u→VR ι v u
 | _,_,.nil,_,_,_,h,_=>by simp at h
 | _,_,.cons h _,0,_,_,h1,h2=>by simp at h1 h2;subst h1;subst h2;exact h
 | _,_,.cons _ t,i+1,_,_,h1,h2=>bQ.get t i (by simpa using h1) (by simpa using h2)
theorem bQ.FN {ι:aP}:∀ {l l':List Value} (_:bQ ι l l') (i:Nat) {v:Value},l[i]?=some v→∃ u,l'[i]?=some u∧VR ι v u
 | _,_,.nil,_,_,h=>by simp at h
 | _,_,.cons (u:=u) h t,0,_,h1=>⟨u,by simp,by simp at h1;subst h1;exact h⟩
 | _,_,.cons _ t,i+1,_,h1=>by
  obtain⟨u,h2,h3⟩:=bQ.FN t i (by simpa using h1);exact⟨u,by simpa using h2,h3⟩
theorem bQ.ml {ι:aP}:∀ {l l':List Value},l.length=l'.length→(∀ (i:Nat) v u,l[i]?=some v→l'[i]?=some u→VR ι v u)→bQ ι l l'
 | [],[],_,_=>.nil
 | v::l,u::l',hl,h=>.cons (h 0 v u rfl rfl) (bQ.ml (by simpa using hl) fun i x y hx hy=>h (i+1) x y (by simpa using hx) (by simpa using hy))
 | [],_::_,hl,_=>by simp at hl
 | _::_,[],hl,_=>by simp at hl
theorem bQ.append {ι:aP}:∀ {a a' b b':List Value},bQ ι a a'→bQ ι b b'→bQ ι (a++b) (a'++b')
 | _,_,_,_,.nil,h=>h
 | _,_,_,_,.cons h t,k=>.cons h (bQ.append t k)
theorem bQ.Ir {ι:aP} {l:List Value} (h:bQ ι [] l):l=[]:=by cases h;rfl
theorem bQ.take {ι:aP}:∀ {l l':List Value} (n:Nat),bQ ι l l'→bQ ι (l.take n) (l'.take n)
 | _,_,0,_=>by simp;exact .nil
 | _,_,_+1,.nil=>by simp;exact .nil
 | _,_,n+1,.cons h t=>by simp only[List.take_succ_cons];exact .cons h (bQ.take n t)
theorem bQ.drop {ι:aP}:∀ {l l':List Value} (n:Nat),bQ ι l l'→bQ ι (l.drop n) (l'.drop n)
 | _,_,0,h=>by simpa using h
 | _,_,_+1,.nil=>by simp;exact .nil
 | _,_,n+1,.cons _ t=>by simp only[List.drop_succ_cons];exact bQ.drop n t
theorem bQ.map₂ {ι:aP} {α:Type} {f g:α→Value}:∀ (l:List α),(∀ x∈l,VR ι (f x) (g x))→bQ ι (l.map f) (l.map g)
 | [],_=>.nil
 | x::l,h=>.cons (h x (by simp)) (bQ.map₂ l fun y hy=>h y (by simp[hy]))
theorem bQ.replicate {ι:aP} {v u:Value} (h:VR ι v u):∀ n,bQ ι (List.replicate n v) (List.replicate n u)
 | 0=>.nil
 | n+1=>by rw[List.replicate_succ,List.replicate_succ];exact .cons h (bQ.replicate h n)
theorem bQ.HA {ι:aP} {a a':Array Value} (ha:a.size=a'.size) (hav:∀ (i:Nat) v u,a[i]?=some v→a'[i]?=some u→VR ι v u):bQ ι a.toList a'.toList :=
 .ml (by simpa using ha) fun i v u h1 h2=>hav i v u (by simpa using h1) (by simpa using h2)
theorem bQ.size {ι:aP} {a a':Array Value} (h:bQ ι a.toList a'.toList):a.size=a'.size:=by simpa using h.length
theorem bQ.arr {ι:aP} {a a':Array Value} (h:bQ ι a.toList a'.toList) (i:Nat) (v u:Value) (h1:a[i]?=Option.some v) (h2:a'[i]?=Option.some u):VR ι v u :=
 h.get i (by simpa using h1) (by simpa using h2)
theorem VR.MJ {ι:aP} {a a':Array Value} (h:bQ ι a.toList a'.toList):VR ι (.agg a) (.agg a'):=.agg h.size h.arr
theorem VR.tuple' {ι:aP} {a a':Array Value} (h:bQ ι a.toList a'.toList):VR ι (.tuple a) (.tuple a'):=.tuple h.size h.arr
theorem VR.MK {ι:aP} {a:Array Value} {u:Value} (h:VR ι (.agg a) u):∃ a',u=.agg a'∧bQ ι a.toList a'.toList:=by
 cases h with | agg ha hav=>exact⟨_,rfl,.HA ha hav⟩
theorem VR.aIe {ι:aP} {a:Array Value} {u:Value} (h:VR ι (.tuple a) u):∃ a',u=.tuple a'∧bQ ι a.toList a'.toList:=by
 cases h with | tuple ha hav=>exact⟨_,rfl,.HA ha hav⟩
theorem VR.TY {ι:aP} {f:FuncId} {a c:Array Value} {u:Value} (h:VR ι (.func (.func f) a c) u) :
  ∃ a' c',u=.func (.func f) a' c'∧bQ ι a.toList a'.toList∧bQ ι c.toList c'.toList:=by
 cases h with | func ha hc hav hcv=>exact⟨_,_,rfl,.HA ha hav,.HA hc hcv⟩
theorem VR.aCq {ι:aP} {f:String} {a c:Array Value} {u:Value} (h:VR ι (.func (.method f) a c) u) :
  ∃ a' c',u=.func (.method f) a' c'∧bQ ι a.toList a'.toList∧bQ ι c.toList c'.toList:=by
 cases h with | GY ha hc hav hcv=>exact⟨_,_,rfl,.HA ha hav,.HA hc hcv⟩
theorem VR.undef (ι:aP):VR ι undef undef:=.tuple rfl fun i v u h=>by simp at h
theorem VR.int_eq {ι:aP} {k:IntKind} {n:Int} {u:Value} (h:VR ι (.int k n) u):u=.int k n:=by cases h;rfl
theorem VR.tD {ι:aP} {b:Bool} {u:Value} (h:VR ι (.bool b) u):u=.bool b:=by cases h;rfl
theorem VR.sT {ι:aP} {s:ByteArray} {u:Value} (h:VR ι (.string s) u):u=.string s:=by cases h;rfl
theorem VR.yJ {ι:aP} {v:Value} (h:yJ v=true):VR ι v v:=by
 unfold Dust.yJ at h;split at h <;> first | (exact .bool _) | (exact .int _ _) | (exact .string _) | (exact .KL) | (exact .zL _ _) | (exact .OW) | (exact .nilFunc) | (exact .nilIface) | (exact .float _ _) | cases h
theorem bQ.closed {ι:aP}:∀ {l:List Value},l.all Dust.yJ=true→bQ ι l l
 | [],_=>.nil
 | v::l,h=>by
  simp only[List.all_cons,Bool.and_eq_true] at h;exact .cons (.yJ h.1) (bQ.closed h.2)
theorem VR.closed {ι:aP} {v:Value} (h:FE v=true):VR ι v v:=by
 unfold FE at h;split at h
 ·exact .MJ (.closed h)
 ·exact .tuple' (.closed h)
 ·exact .yJ h
theorem VR.cells {ι:aP} {v u:Value} (h:VR ι v u):bQ ι v.cells.toList u.cells.toList:=by
 cases h with
 | agg ha hav=>exact .HA ha hav
 | _=>first | (simp only[Value.cells];refine .cons ?_ .nil;constructor <;> assumption) | (simp only[Value.cells];refine .cons ?_ .nil;exact .yJ rfl)
end Go.Dust
