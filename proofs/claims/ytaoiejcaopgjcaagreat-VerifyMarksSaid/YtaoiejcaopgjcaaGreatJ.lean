/- The plain interpreter D and its laws (Ej Ei). -/
import Derived.Test.YtaoiejcaopgjcaaGreatI
set_option linter.unusedVariables false
set_option linter.unusedSimpArgs false
namespace Go.Dust
noncomputable def BA (X:Env) (H:bG) (t:TypeId) (v:Value):Option Value:=match v with
 | .pointer (some a)=>loadT X H t a
 | _=>none
theorem Gw (X:Env) (H:bG) (t:TypeId) (a:Addr):BA X H t (.pointer (some a))=loadT X H t a:=rfl
noncomputable def MQ (X:Env) (H:bG) (o:BinOp) (t:TypeId) (x y:Value) (c:Bool):Option Value:=if (rY x y&&!c)=true then none else binop X H o t x y
theorem vi (X:Env) (H:bG) (o:BinOp) (t:TypeId) (x y:Value) (c:Bool):MQ X H o t x y c=if (rY x y&&!c)=true then none else binop X H o t x y:=rfl
def HG (c x y:Value):Option Value:=match c with
 | .bool t=>some (if t=true then x else y)
 | _=>none
theorem Ke (t:Bool) (x y:Value):HG (.bool t) x y=some (if t=true then x else y):=rfl
def IC (v:Value) (j:Nat):Option Value:=match v with
 | .tuple vs=>vs[j]?
 | _=>none
theorem Ql (vs:Array Value) (j:Nat):IC (.tuple vs) j=vs[j]?:=rfl
noncomputable def vQ (X:Env) (s:St) (t:TypeId) (p v:Value):Option St:=match p with
 | .pointer (some a)=>storeT X s t a v
 | _=>none
theorem Ox (X:Env) (s:St) (t:TypeId) (a:Addr) (v:Value):vQ X s t (.pointer (some a)) v=storeT X s t a v:=rfl
def yC (o:Option (Value×(Nat→bU))):Value:=match o with
 | some (v,_)=>v
 | none=>undef
def rX (o:Option (Value×(Nat→bU))):Nat→bU:=match o with
 | some (_,f)=>f
 | none=>fun _=>.dead
theorem ss (v:Value) (f:Nat→bU):yC (some (v,f))=v:=rfl
theorem sr (v:Value) (f:Nat→bU):rX (some (v,f))=f:=rfl
theorem isSome_some {α:Type} (v:α):(some v).isSome=true:=rfl
theorem getD_some {α:Type} (v d:α):(some v).getD d=v:=rfl
theorem zr {o:Option Value} {P:Value→Prop}:(∃ v,o=some v∧P v)↔o.isSome=true∧P (o.getD undef):=by
 cases o with
 | none=>exact⟨fun⟨_,h,_⟩=>(by cases h),fun h=>(by cases h.1)⟩
 | some v=>exact⟨fun⟨_,h,k⟩=>(by cases h;exact⟨rfl,k⟩),fun h=>⟨v,rfl,h.2⟩⟩
theorem TG {o:Option St} {d:St} {P:St→Prop}:(∃ v,o=some v∧P v)↔o.isSome=true∧P (o.getD d):=by
 cases o with
 | none=>exact⟨fun⟨_,h,_⟩=>(by cases h),fun h=>(by cases h.1)⟩
 | some v=>exact⟨fun⟨_,h,k⟩=>(by cases h;exact⟨rfl,k⟩),fun h=>⟨v,rfl,h.2⟩⟩
theorem DW {o:Option (Value×(Nat→bU))} {k:Value→(Nat→bU)→Prop}:tP o k↔o.isSome=true∧k (yC o) (rX o):=by
 cases o with
 | none=>exact⟨fun h=>h.elim,fun h=>(by cases h.1)⟩
 | some p=>exact⟨fun h=>⟨rfl,h⟩,fun h=>h.2⟩
theorem eG {q:Bool} {X:Env} {K:eE} {r c x y a s} {Φ:dL→aG→St→Prop}:cN q X K r (.cond c x y) a s Φ↔(bC (a.eval c)).isSome=true∧cN q X K r (if bC (a.eval c)=some true then x else y) a s Φ:=by
 rw[PF];cases hc:a.eval c with
 | bool b=>exact⟨fun⟨b',h,k⟩=>(by cases h;refine⟨rfl,?_⟩;simpa [bC] using k),fun h=>⟨b,rfl,by simpa [bC] using h.2⟩⟩
 | _=>exact⟨fun⟨b',h,k⟩=>(by cases h),fun h=>(by cases h.1)⟩
section
variable {q:Bool} {X:Env} {K:eE} {ops:Array Oper} {d:Option Tmp} {ty:TypeId} {pos:String} {af:Array Edge} {l:List Oper} {a:aG} {s:St} {Φ:aG→St→Prop}
theorem oL {op:Op} (hk:dP op=.still):bP q X K ops (⟨d,op,ty,pos,af,none⟩::l) a s Φ↔(dU X s.look a.eval op).isSome=true∧bP q X K ops l (a.put d ((dU X s.look a.eval op).getD undef)) s Φ:=(XD hk).trans zr
theorem Gy (H:bG) (ρ:Operand→Value) (t:TypeId) (x:Operand):dU X H ρ (.load t x)=BA X H t (ρ x):=by
 simp only[dU,BA];generalize ρ x=v;cases v with
 | pointer p=>cases p <;> rfl
 | _=>rfl
theorem Kf (H:bG) (ρ:Operand→Value) (c x y:Operand):dU X H ρ (.pick c x y)=HG (ρ c) (ρ x) (ρ y):=by
 simp only[dU,HG];generalize ρ c=v;cases v <;> rfl
theorem zt (H:bG) (ρ:Operand→Value) (x:Operand) (j:Nat):dU X H ρ (.extract x j)=IC (ρ x) j:=by
 simp only[dU,IC];generalize ρ x=v;cases v <;> rfl
theorem Mf {t ps}:bP q X K ops (⟨d,.build t ps,ty,pos,af,none⟩::l) a s Φ↔(iU X t (ps.toList.map fun(i,x)=>(i,a.eval x))).isSome=true∧bP q X K ops l (a.put d ((iU X t (ps.toList.map fun(i,x)=>(i,a.eval x))).getD undef)) s Φ:=oL rfl
theorem Mz {x}:bP q X K ops (⟨d,.nilCheck x,ty,pos,af,none⟩::l) a s Φ↔(DU (a.eval x)).isSome=true∧bP q X K ops l (a.put d ((DU (a.eval x)).getD undef)) s Φ:=oL rfl
theorem Nf {o t x}:bP q X K ops (⟨d,.unOp o t x,ty,pos,af,none⟩::l) a s Φ↔(unop o (a.eval x)).isSome=true∧bP q X K ops l (a.put d ((unop o (a.eval x)).getD undef)) s Φ:=oL rfl
theorem Mg {t0 t x}:bP q X K ops (⟨d,.convert t0 t x,ty,pos,af,none⟩::l) a s Φ↔(sA X t0 t (a.eval x)).isSome=true∧bP q X K ops l (a.put d ((sA X t0 t (a.eval x)).getD undef)) s Φ:=oL rfl
theorem Nb {t x lo hi mx}:bP q X K ops (⟨d,.slice t x lo hi mx,ty,pos,af,none⟩::l) a s Φ↔(eI X s.look t (a.eval x) (lo.map a.eval) (hi.map a.eval) (mx.map a.eval)).isSome=true∧bP q X K ops l (a.put d ((eI X s.look t (a.eval x) (lo.map a.eval) (hi.map a.eval) (mx.map a.eval)).getD undef)) s Φ:=oL rfl
theorem Mm {t x f}:bP q X K ops (⟨d,.fieldAddr t x f,ty,pos,af,none⟩::l) a s Φ↔(cU X t (a.eval x) f).isSome=true∧bP q X K ops l (a.put d ((cU X t (a.eval x) f).getD undef)) s Φ:=oL rfl
theorem Ml {t x f}:bP q X K ops (⟨d,.field t x f,ty,pos,af,none⟩::l) a s Φ↔(CV X t (a.eval x) f).isSome=true∧bP q X K ops l (a.put d ((CV X t (a.eval x) f).getD undef)) s Φ:=oL rfl
theorem Mp {t x y}:bP q X K ops (⟨d,.indexAddr t x y,ty,pos,af,none⟩::l) a s Φ↔(kM X t (a.eval x) (a.eval y)).isSome=true∧bP q X K ops l (a.put d ((kM X t (a.eval x) (a.eval y)).getD undef)) s Φ:=oL rfl
theorem Mo {t x y}:bP q X K ops (⟨d,.index t x y,ty,pos,af,none⟩::l) a s Φ↔(AT X t (a.eval x) (a.eval y)).isSome=true∧bP q X K ops l (a.put d ((AT X t (a.eval x) (a.eval y)).getD undef)) s Φ:=oL rfl
theorem Ms {t x y b}:bP q X K ops (⟨d,.lookup t x y b,ty,pos,af,none⟩::l) a s Φ↔(vI X s.look t (a.eval x) (a.eval y) b).isSome=true∧bP q X K ops l (a.put d ((vI X s.look t (a.eval x) (a.eval y) b).getD undef)) s Φ:=oL rfl
theorem Mt {t x}:bP q X K ops (⟨d,.makeInterface t x,ty,pos,af,none⟩::l) a s Φ↔(dU X s.look a.eval (.makeInterface t x)).isSome=true∧bP q X K ops l (a.put d ((dU X s.look a.eval (.makeInterface t x)).getD undef)) s Φ:=oL rfl
theorem Nd {x t1 t b}:bP q X K ops (⟨d,.typeAssert x t1 t b,ty,pos,af,none⟩::l) a s Φ↔(EN X (a.eval x) t b).isSome=true∧bP q X K ops l (a.put d ((EN X (a.eval x) t b).getD undef)) s Φ:=oL rfl
theorem Mi {x}:bP q X K ops (⟨d,.entry x,ty,pos,af,none⟩::l) a s Φ↔(tE s.look (a.eval x)).isSome=true∧bP q X K ops l (a.put d ((tE s.look (a.eval x)).getD undef)) s Φ:=oL rfl
theorem Mq {x t}:bP q X K ops (⟨d,.call ⟨.builtin .len,#[x],#[t]⟩,ty,pos,af,none⟩::l) a s Φ↔(jY X s.look t (a.eval x)).isSome=true∧bP q X K ops l (a.put d ((jY X s.look t (a.eval x)).getD undef)) s Φ:=oL rfl
theorem Mv {x y ts}:bP q X K ops (⟨d,.call ⟨.builtin .max,#[x,y],ts⟩,ty,pos,af,none⟩::l) a s Φ↔(mS (fun x y=>decide (y>x)) (a.eval x) [a.eval y]).isSome=true∧bP q X K ops l (a.put d ((mS (fun x y=>decide (y>x)) (a.eval x) [a.eval y]).getD undef)) s Φ:=oL rfl
theorem Mw {x y ts}:bP q X K ops (⟨d,.call ⟨.builtin .min,#[x,y],ts⟩,ty,pos,af,none⟩::l) a s Φ↔(mS (fun x y=>decide (y<x)) (a.eval x) [a.eval y]).isSome=true∧bP q X K ops l (a.put d ((mS (fun x y=>decide (y<x)) (a.eval x) [a.eval y]).getD undef)) s Φ:=oL rfl
theorem Mr {t x}:bP q X K ops (⟨d,.load t x,ty,pos,af,none⟩::l) a s Φ↔(BA X s.look t (a.eval x)).isSome=true∧bP q X K ops l (a.put d ((BA X s.look t (a.eval x)).getD undef)) s Φ:=by
 rw[oL rfl,Gy]
theorem Md {o t x y t'}:bP q X K ops (⟨d,.binOp o t x y t',ty,pos,af,none⟩::l) a s Φ↔(MQ X s.look o t (a.eval x) (a.eval y) (nI x||nI y)).isSome=true∧bP q X K ops l (a.put d ((MQ X s.look o t (a.eval x) (a.eval y) (nI x||nI y)).getD undef)) s Φ:=oL rfl
theorem Na {c0 x y}:bP q X K ops (⟨d,.pick c0 x y,ty,pos,af,none⟩::l) a s Φ↔(HG (a.eval c0) (a.eval x) (a.eval y)).isSome=true∧bP q X K ops l (a.put d ((HG (a.eval c0) (a.eval x) (a.eval y)).getD undef)) s Φ:=by
 rw[oL rfl,Kf]
theorem Mj {x j}:bP q X K ops (⟨d,.extract x j,ty,pos,af,none⟩::l) a s Φ↔(IC (a.eval x) j).isSome=true∧bP q X K ops l (a.put d ((IC (a.eval x) j).getD undef)) s Φ:=by
 rw[oL rfl,zt]
theorem Nc {t p x}:bP q X K ops (⟨d,.store t p x,ty,pos,af,none⟩::l) a s Φ↔(vQ X s t (a.eval p) (a.eval x)).isSome=true∧bP q X K ops l (a.put d undef) ((vQ X s t (a.eval p) (a.eval x)).getD s) Φ:=by
 rw[aE7,← TG (P:=fun s'=>bP q X K ops l (a.put d undef) s' Φ)];cases hp:a.eval p with
 | pointer ad =>
  cases ad with
  | none=>simp[vQ]
  | some ad=>simp[vQ]
 | _=>simp[vQ]
theorem Mu {t m k x}:bP q X K ops (⟨d,.mapUpdate t m k x,ty,pos,af,none⟩::l) a s Φ↔(mE X s t (a.eval m) (a.eval k) (a.eval x)).isSome=true∧bP q X K ops l (a.put d undef) ((mE X s t (a.eval m) (a.eval k) (a.eval x)).getD s) Φ:=by
 rw[aDc,← TG (P:=fun s'=>bP q X K ops l (a.put d undef) s' Φ)]
theorem Mc {e}:bP q X K ops (⟨d,.alloc e,ty,pos,af,none⟩::l) a s Φ↔(fE X s.next a.eval (.alloc e)).isSome=true∧bP q X K ops l (a.put d (yC (fE X s.next a.eval (.alloc e)))) (s.new (rX (fE X s.next a.eval (.alloc e)))) Φ:=aD6.trans DW
theorem Me {t n ps}:bP q X K ops (⟨d,.buildSlice t n ps,ty,pos,af,none⟩::l) a s Φ↔(nE X s.next t n (ps.toList.map fun(i,x)=>(i,a.eval x))).isSome=true∧bP q X K ops l (a.put d (yC (nE X s.next t n (ps.toList.map fun(i,x)=>(i,a.eval x))))) (s.new (rX (nE X s.next t n (ps.toList.map fun(i,x)=>(i,a.eval x))))) Φ:=aD8.trans DW
theorem Mx {t n c'}:bP q X K ops (⟨d,.makeSlice t n c',ty,pos,af,none⟩::l) a s Φ↔(rK X s.next t (a.eval n) (a.eval c')).isSome=true∧bP q X K ops l (a.put d (yC (rK X s.next t (a.eval n) (a.eval c')))) (s.new (rX (rK X s.next t (a.eval n) (a.eval c')))) Φ:=aDd.trans DW
theorem My {t r}:bP q X K ops (⟨d,.makeMap t r,ty,pos,af,none⟩::l) a s Φ↔(wR X s.next t (r.map a.eval)).isSome=true∧bP q X K ops l (a.put d (yC (wR X s.next t (r.map a.eval)))) (s.new (rX (wR X s.next t (r.map a.eval)))) Φ:=aDe.trans DW
end
section
variable {X:Env} {K:eE} {ops:Array Oper} {base i:Nat} {c:List (Nat×Nat)} {F:List Nat} {d:Option Tmp} {ty:TypeId} {pos:String} {af:Array Edge} {l:List Oper} {a:aG} {s:St} {Φ:aG→St→Prop}
theorem oM {op:Op} (hk:dP op=.still):bX X K ops base c F (⟨d,op,ty,pos,af,none⟩::l) i a s Φ↔(dU X s.look a.eval op).isSome=true∧dQ c F i (fM a.eval s.look op) s s∧bX X K ops base c F l (i+1) (a.put d ((dU X s.look a.eval op).getD undef)) s Φ:=(TA hk).trans (zr (P:=fun v=>dQ c F i (fM a.eval s.look op) s s∧bX X K ops base c F l (i+1) (a.put d v) s Φ))
theorem Pe {t ps}:bX X K ops base c F (⟨d,.build t ps,ty,pos,af,none⟩::l) i a s Φ↔(iU X t (ps.toList.map fun(i,x)=>(i,a.eval x))).isSome=true∧dQ c F i ([]) s s∧bX X K ops base c F l (i+1) (a.put d ((iU X t (ps.toList.map fun(i,x)=>(i,a.eval x))).getD undef)) s Φ:=oM rfl
theorem Pw {x}:bX X K ops base c F (⟨d,.nilCheck x,ty,pos,af,none⟩::l) i a s Φ↔(DU (a.eval x)).isSome=true∧dQ c F i ([]) s s∧bX X K ops base c F l (i+1) (a.put d ((DU (a.eval x)).getD undef)) s Φ:=oM rfl
theorem Qb {o t x}:bX X K ops base c F (⟨d,.unOp o t x,ty,pos,af,none⟩::l) i a s Φ↔(unop o (a.eval x)).isSome=true∧dQ c F i ([]) s s∧bX X K ops base c F l (i+1) (a.put d ((unop o (a.eval x)).getD undef)) s Φ:=oM rfl
theorem Pf {t0 t x}:bX X K ops base c F (⟨d,.convert t0 t x,ty,pos,af,none⟩::l) i a s Φ↔(sA X t0 t (a.eval x)).isSome=true∧dQ c F i ([]) s s∧bX X K ops base c F l (i+1) (a.put d ((sA X t0 t (a.eval x)).getD undef)) s Φ:=oM rfl
theorem Py {t x lo hi mx}:bX X K ops base c F (⟨d,.slice t x lo hi mx,ty,pos,af,none⟩::l) i a s Φ↔(eI X s.look t (a.eval x) (lo.map a.eval) (hi.map a.eval) (mx.map a.eval)).isSome=true∧dQ c F i (nameOf (a.eval x)) s s∧bX X K ops base c F l (i+1) (a.put d ((eI X s.look t (a.eval x) (lo.map a.eval) (hi.map a.eval) (mx.map a.eval)).getD undef)) s Φ:=oM rfl
theorem Pk {t x f}:bX X K ops base c F (⟨d,.fieldAddr t x f,ty,pos,af,none⟩::l) i a s Φ↔(cU X t (a.eval x) f).isSome=true∧dQ c F i ([]) s s∧bX X K ops base c F l (i+1) (a.put d ((cU X t (a.eval x) f).getD undef)) s Φ:=oM rfl
theorem Pj {t x f}:bX X K ops base c F (⟨d,.field t x f,ty,pos,af,none⟩::l) i a s Φ↔(CV X t (a.eval x) f).isSome=true∧dQ c F i ([]) s s∧bX X K ops base c F l (i+1) (a.put d ((CV X t (a.eval x) f).getD undef)) s Φ:=oM rfl
theorem Pm {t x y}:bX X K ops base c F (⟨d,.indexAddr t x y,ty,pos,af,none⟩::l) i a s Φ↔(kM X t (a.eval x) (a.eval y)).isSome=true∧dQ c F i ([]) s s∧bX X K ops base c F l (i+1) (a.put d ((kM X t (a.eval x) (a.eval y)).getD undef)) s Φ:=oM rfl
theorem Pl {t x y}:bX X K ops base c F (⟨d,.index t x y,ty,pos,af,none⟩::l) i a s Φ↔(AT X t (a.eval x) (a.eval y)).isSome=true∧dQ c F i ([]) s s∧bX X K ops base c F l (i+1) (a.put d ((AT X t (a.eval x) (a.eval y)).getD undef)) s Φ:=oM rfl
theorem Pp {t x y b}:bX X K ops base c F (⟨d,.lookup t x y b,ty,pos,af,none⟩::l) i a s Φ↔(vI X s.look t (a.eval x) (a.eval y) b).isSome=true∧dQ c F i (nameOf (a.eval x)) s s∧bX X K ops base c F l (i+1) (a.put d ((vI X s.look t (a.eval x) (a.eval y) b).getD undef)) s Φ:=oM rfl
theorem Pq {t x}:bX X K ops base c F (⟨d,.makeInterface t x,ty,pos,af,none⟩::l) i a s Φ↔(dU X s.look a.eval (.makeInterface t x)).isSome=true∧dQ c F i ([]) s s∧bX X K ops base c F l (i+1) (a.put d ((dU X s.look a.eval (.makeInterface t x)).getD undef)) s Φ:=oM rfl
theorem Qa {x t1 t b}:bX X K ops base c F (⟨d,.typeAssert x t1 t b,ty,pos,af,none⟩::l) i a s Φ↔(EN X (a.eval x) t b).isSome=true∧dQ c F i ([]) s s∧bX X K ops base c F l (i+1) (a.put d ((EN X (a.eval x) t b).getD undef)) s Φ:=oM rfl
theorem Pg {x}:bX X K ops base c F (⟨d,.entry x,ty,pos,af,none⟩::l) i a s Φ↔(tE s.look (a.eval x)).isSome=true∧dQ c F i (fM a.eval s.look (.entry x)) s s∧bX X K ops base c F l (i+1) (a.put d ((tE s.look (a.eval x)).getD undef)) s Φ:=oM rfl
theorem Pn {x t}:bX X K ops base c F (⟨d,.call ⟨.builtin .len,#[x],#[t]⟩,ty,pos,af,none⟩::l) i a s Φ↔(jY X s.look t (a.eval x)).isSome=true∧dQ c F i (nameOf (a.eval x)) s s∧bX X K ops base c F l (i+1) (a.put d ((jY X s.look t (a.eval x)).getD undef)) s Φ:=oM rfl
theorem Ps {x y ts}:bX X K ops base c F (⟨d,.call ⟨.builtin .max,#[x,y],ts⟩,ty,pos,af,none⟩::l) i a s Φ↔(mS (fun x y=>decide (y>x)) (a.eval x) [a.eval y]).isSome=true∧dQ c F i (nameOf (a.eval x)) s s∧bX X K ops base c F l (i+1) (a.put d ((mS (fun x y=>decide (y>x)) (a.eval x) [a.eval y]).getD undef)) s Φ:=oM rfl
theorem Pt {x y ts}:bX X K ops base c F (⟨d,.call ⟨.builtin .min,#[x,y],ts⟩,ty,pos,af,none⟩::l) i a s Φ↔(mS (fun x y=>decide (y<x)) (a.eval x) [a.eval y]).isSome=true∧dQ c F i (nameOf (a.eval x)) s s∧bX X K ops base c F l (i+1) (a.put d ((mS (fun x y=>decide (y<x)) (a.eval x) [a.eval y]).getD undef)) s Φ:=oM rfl
theorem Po {t x}:bX X K ops base c F (⟨d,.load t x,ty,pos,af,none⟩::l) i a s Φ↔(BA X s.look t (a.eval x)).isSome=true∧dQ c F i (nameOf (a.eval x)) s s∧bX X K ops base c F l (i+1) (a.put d ((BA X s.look t (a.eval x)).getD undef)) s Φ:=by
 rw[oM rfl,Gy,show fM a.eval s.look (.load t x)=nameOf (a.eval x) from rfl]
theorem Pc {o t x y t'}:bX X K ops base c F (⟨d,.binOp o t x y t',ty,pos,af,none⟩::l) i a s Φ↔(MQ X s.look o t (a.eval x) (a.eval y) (nI x||nI y)).isSome=true∧dQ c F i (nameOf (a.eval x)++nameOf (a.eval y)) s s∧bX X K ops base c F l (i+1) (a.put d ((MQ X s.look o t (a.eval x) (a.eval y) (nI x||nI y)).getD undef)) s Φ:=oM rfl
theorem Px {c0 x y}:bX X K ops base c F (⟨d,.pick c0 x y,ty,pos,af,none⟩::l) i a s Φ↔(HG (a.eval c0) (a.eval x) (a.eval y)).isSome=true∧dQ c F i ([]) s s∧bX X K ops base c F l (i+1) (a.put d ((HG (a.eval c0) (a.eval x) (a.eval y)).getD undef)) s Φ:=by
 rw[oM rfl,Kf,show fM a.eval s.look (.pick c0 x y)=[] from rfl]
theorem Ph {x j}:bX X K ops base c F (⟨d,.extract x j,ty,pos,af,none⟩::l) i a s Φ↔(IC (a.eval x) j).isSome=true∧dQ c F i ([]) s s∧bX X K ops base c F l (i+1) (a.put d ((IC (a.eval x) j).getD undef)) s Φ:=by
 rw[oM rfl,zt,show fM a.eval s.look (.extract x j)=[] from rfl]
theorem Pz {t p x}:bX X K ops base c F (⟨d,.store t p x,ty,pos,af,none⟩::l) i a s Φ↔(vQ X s t (a.eval p) (a.eval x)).isSome=true∧dQ c F i [] s ((vQ X s t (a.eval p) (a.eval x)).getD s)∧bX X K ops base c F l (i+1) (a.put d undef) ((vQ X s t (a.eval p) (a.eval x)).getD s) Φ:=by
 rw[Vx,← TG (P:=fun s'=>dQ c F i [] s s'∧bX X K ops base c F l (i+1) (a.put d undef) s' Φ)];cases hp:a.eval p with
 | pointer ad =>
  cases ad with
  | none=>simp[vQ]
  | some ad=>simp[vQ]
 | _=>simp[vQ]
theorem Pr {t m k x}:bX X K ops base c F (⟨d,.mapUpdate t m k x,ty,pos,af,none⟩::l) i a s Φ↔(mE X s t (a.eval m) (a.eval k) (a.eval x)).isSome=true∧dQ c F i [] s ((mE X s t (a.eval m) (a.eval k) (a.eval x)).getD s)∧bX X K ops base c F l (i+1) (a.put d undef) ((mE X s t (a.eval m) (a.eval k) (a.eval x)).getD s) Φ:=by
 rw[Vu,← TG (P:=fun s'=>dQ c F i [] s s'∧bX X K ops base c F l (i+1) (a.put d undef) s' Φ)]
theorem Pb {e}:bX X K ops base c F (⟨d,.alloc e,ty,pos,af,none⟩::l) i a s Φ↔(fE X (base+2*i) a.eval (.alloc e)).isSome=true∧dQ c F i [] s (s.put (base+2*i) (rX (fE X (base+2*i) a.eval (.alloc e))))∧bX X K ops base c F l (i+1) (a.put d (yC (fE X (base+2*i) a.eval (.alloc e)))) (s.put (base+2*i) (rX (fE X (base+2*i) a.eval (.alloc e)))) Φ:=Vp.trans DW
theorem Pd {t n ps}:bX X K ops base c F (⟨d,.buildSlice t n ps,ty,pos,af,none⟩::l) i a s Φ↔(nE X (base+2*i) t n (ps.toList.map fun(i,x)=>(i,a.eval x))).isSome=true∧dQ c F i [] s (s.put (base+2*i) (rX (nE X (base+2*i) t n (ps.toList.map fun(i,x)=>(i,a.eval x)))))∧bX X K ops base c F l (i+1) (a.put d (yC (nE X (base+2*i) t n (ps.toList.map fun(i,x)=>(i,a.eval x))))) (s.put (base+2*i) (rX (nE X (base+2*i) t n (ps.toList.map fun(i,x)=>(i,a.eval x))))) Φ:=Vr.trans DW
theorem Pu {t n c'}:bX X K ops base c F (⟨d,.makeSlice t n c',ty,pos,af,none⟩::l) i a s Φ↔(rK X (base+2*i) t (a.eval n) (a.eval c')).isSome=true∧dQ c F i [] s (s.put (base+2*i) (rX (rK X (base+2*i) t (a.eval n) (a.eval c'))))∧bX X K ops base c F l (i+1) (a.put d (yC (rK X (base+2*i) t (a.eval n) (a.eval c')))) (s.put (base+2*i) (rX (rK X (base+2*i) t (a.eval n) (a.eval c')))) Φ:=Vv.trans DW
theorem Pv {t r}:bX X K ops base c F (⟨d,.makeMap t r,ty,pos,af,none⟩::l) i a s Φ↔(wR X (base+2*i) t (r.map a.eval)).isSome=true∧dQ c F i [] s (s.put (base+2*i) (rX (wR X (base+2*i) t (r.map a.eval))))∧bX X K ops base c F l (i+1) (a.put d (yC (wR X (base+2*i) t (r.map a.eval)))) (s.put (base+2*i) (rX (wR X (base+2*i) t (r.map a.eval)))) Φ:=Vw.trans DW
end
theorem WT (a:Addr):DU (.pointer (some a))=some (.pointer (some a)):=rfl
theorem SS (k:IntKind) (n:Int):(Value.int k n).cells=#[.int k n]:=rfl
theorem SQ (b:Bool):(Value.bool b).cells=#[.bool b]:=rfl
theorem SV (p:Option Addr):(Value.pointer p).cells=#[.pointer p]:=rfl
theorem SW (p:Option Addr) (n c:Nat):(Value.slice p n c).cells=#[.slice p n c]:=rfl
theorem SU (p:Option Nat):(Value.map p).cells=#[.map p]:=rfl
theorem SX (x:ByteArray):(Value.string x).cells=#[.string x]:=rfl
theorem SR (f:Fn) (x y:Array Value):(Value.func f x y).cells=#[.func f x y]:=rfl
theorem SP (cs:Array Value):(Value.agg cs).cells=cs:=rfl
theorem WN (b o:Nat) (sp:Option Nat):nameOf (.pointer (some ⟨b,o,sp⟩))=[b]:=rfl
theorem SI (k:IntKind) (n:Int) (y:Value):rY (.int k n) y=false:=rfl
theorem SK (p:Option Addr) (y:Value):rY (.pointer p) y=false:=rfl
theorem SH (b:Bool) (y:Value):rY (.bool b) y=false:=rfl
theorem SM (x:ByteArray) (y:Value):rY (.string x) y=false:=rfl
theorem SG (cs:Array Value) (y:Value):rY (.agg cs) y=false:=rfl
theorem SL (p:Option Addr) (n c:Nat) (y:Value):rY (.slice p n c) y=false:=rfl
theorem SJ (p:Option Nat) (y:Value):rY (.map p) y=false:=rfl
theorem Kz {X:Env} (H:bG) (a:aG) (t:Tmp) (ty:TypeId) (rest:List ResultVar):results1 X H a (.cell t ty::rest)=match BA X H ty (a.aB t),results1 X H a rest with
  | some v,some l=>some (v::l)
  | _,_=>none:=by
 rw[results1];cases h:a.aB t with
 | pointer p =>
  cases p with
  | none=>rfl
  | some ad =>
   simp only[BA];cases loadT X H ty ad <;> cases results1 X H a rest <;> rfl
 | _=>rfl
theorem eval_func (a:aG) (f:FuncId):a.eval (.func f)=.func (.func f) #[] #[]:=rfl
theorem eval_global (a:aG) (g:Nat):a.eval (.global g)=.pointer (some ⟨2*g,0,none⟩):=rfl
theorem WM:nameOf (.pointer none)=[]:=rfl
theorem WK (k:IntKind) (n:Int):nameOf (.int k n)=[]:=rfl
theorem WJ (b:Bool):nameOf (.bool b)=[]:=rfl
theorem WO (b o:Nat) (sp:Option Nat) (n c:Nat):nameOf (.slice (some ⟨b,o,sp⟩) n c)=[b]:=rfl
theorem WL (r:Nat):nameOf (.map (some r))=[r]:=rfl
theorem An {p q:Prop} (a:p) (b:q):p∧q:=⟨a,b⟩
theorem RC:type_of% (An @mq (An @mo (An @Jj (An @eG (An @KQ (An @KP (@mn))))))) :=
 An @mq (An @mo (An @Jj (An @eG (An @KQ (An @KP (@mn))))))
theorem RO:type_of% (An @Jq (An @Jp (An @Jd (An @Iy (An @Ja (An @Jc (An @Mf (An @Mz (An @Nf (An @Mg (An @Nb (An @Mm (An @Ml (An @Mp (An @Mo (An @Ms (An @Mt (An @Nd (An @Mi (An @Mq (An @Mv (An @Mw (An @Mr (An @Md (An @Na (An @Mj (An @Nc (An @Mu (An @Mc (An @Me (An @Mx (@My)))))))))))))))))))))))))))))))) :=
 An @Jq (An @Jp (An @Jd (An @Iy (An @Ja (An @Jc (An @Mf (An @Mz (An @Nf (An @Mg (An @Nb (An @Mm (An @Ml (An @Mp (An @Mo (An @Ms (An @Mt (An @Nd (An @Mi (An @Mq (An @Mv (An @Mw (An @Mr (An @Md (An @Na (An @Mj (An @Nc (An @Mu (An @Mc (An @Me (An @Mx (@My)))))))))))))))))))))))))))))))
theorem RD:type_of% (An @yn (An @yk (An @ym (An @yh (An @yi (An @yl (An @Pe (An @Pw (An @Qb (An @Pf (An @Py (An @Pk (An @Pj (An @Pm (An @Pl (An @Pp (An @Pq (An @Qa (An @Pg (An @Pn (An @Ps (An @Pt (An @Po (An @Pc (An @Px (An @Ph (An @Pz (An @Pr (An @Pb (An @Pd (An @Pu (@Pv)))))))))))))))))))))))))))))))) :=
 An @yn (An @yk (An @ym (An @yh (An @yi (An @yl (An @Pe (An @Pw (An @Qb (An @Pf (An @Py (An @Pk (An @Pj (An @Pm (An @Pl (An @Pp (An @Pq (An @Qa (An @Pg (An @Pn (An @Ps (An @Pt (An @Po (An @Pc (An @Px (An @Ph (An @Pz (An @Pr (An @Pb (An @Pd (An @Pu (@Pv)))))))))))))))))))))))))))))))
theorem RV:type_of% (An @Gw (An @vi (An @Ke (An @Ql (An @Ox (An @ss (An @sr (An @isSome_some (An @getD_some (An @UM (An @UL (An @Dg (An @Df (An @Fb (An @Fa (An @WY (An @WH (An @WI (An @IU (An @MW (An @KH (An @UI (An @WT (An @SS (An @SQ (An @SV (An @SW (An @SU (An @SP (An @SX (An @SR (An @SI (An @SK (An @SH (An @SM (An @SG (An @SL (An @SJ (An @WN (An @WK (An @WJ (An @WM (An @WO (An @WL (An @zk (An @eval_const (An @eval_func (An @eval_global (An @Kw (An @Ki (An @Bv (An @wi (An @Qn (An @Qo (An @WY (An @WH (An @WI (An @IU (An @MW (An @KH (An @UI (An @UM (An @UL (An @WT (An @SS (An @SQ (An @SV (An @SW (An @SU (An @SP (An @SX (An @SR (An @SI (An @SK (An @SH (An @SM (An @SG (An @SL (An @SJ (An @WN (An @WK (An @WJ (An @WM (An @WO (@WL))))))))))))))))))))))))))))))))))))))))))))))))))))))))))))))))))))))))))))))))))))) :=
 An @Gw (An @vi (An @Ke (An @Ql (An @Ox (An @ss (An @sr (An @isSome_some (An @getD_some (An @UM (An @UL (An @Dg (An @Df (An @Fb (An @Fa (An @WY (An @WH (An @WI (An @IU (An @MW (An @KH (An @UI (An @WT (An @SS (An @SQ (An @SV (An @SW (An @SU (An @SP (An @SX (An @SR (An @SI (An @SK (An @SH (An @SM (An @SG (An @SL (An @SJ (An @WN (An @WK (An @WJ (An @WM (An @WO (An @WL (An @zk (An @eval_const (An @eval_func (An @eval_global (An @Kw (An @Ki (An @Bv (An @wi (An @Qn (An @Qo (An @WY (An @WH (An @WI (An @IU (An @MW (An @KH (An @UI (An @UM (An @UL (An @WT (An @SS (An @SQ (An @SV (An @SW (An @SU (An @SP (An @SX (An @SR (An @SI (An @SK (An @SH (An @SM (An @SG (An @SL (An @SJ (An @WN (An @WK (An @WJ (An @WM (An @WO (@WL))))))))))))))))))))))))))))))))))))))))))))))))))))))))))))))))))))))))))))))))))))
theorem RB:type_of% (An @vj (An @vx (An @vq (An @vu (An @vv (An @vk (An @vt (An @vm (An @vl (An @vp (An @vo (@vw)))))))))))) :=
 An @vj (An @vx (An @vq (An @vu (An @vv (An @vk (An @vt (An @vm (An @vl (An @vp (An @vo (@vw)))))))))))
theorem Ix (c:List (Nat×Nat)) (F:List Nat) (i:Nat) (r:List Nat) (s s':St):dQ c F i r s s'=((bif JQ c i then JY r F else True)∧(bif JR c i then yB F s s' else True)):=rfl
theorem RG:type_of% (An @Ix (An @List.mem_cons.{0} (An @List.not_mem_nil.{0} (An @true_or (An @or_true (An @or_false (An @true_and (An @and_true (An @List.toList_toArray.{0} (An @List.getElem?_cons_zero.{0} (An @List.getElem?_cons_succ.{0} (An @Option.getD_some.{0} (An @Option.some.injEq.{0} (An @exists_eq_left'.{1} (An @if_true.{0} (An @if_true.{1} (An @if_false.{0} (An @if_false.{1} (An @Bool.false_and (An @Bool.false_eq_true (An @Value.pointer.injEq (An @Value.bool.injEq (An @Value.int.injEq (An @Value.tuple.injEq (An @exists_and_left.{1} (An @Option.map_some.{0,0} (An @Option.map_none.{0,0} (An @List.map_cons.{0,0} (An @List.map_nil.{0,0} (An @List.size_toArray.{0} (An @List.length_cons.{0} (An @List.length_nil.{0} (An @Ld (An @La (An @Kz (An @List.getElem?_toArray.{0} (An @Bool.true_and (An @Bool.and_true (An @Bool.or_true (An @Bool.true_or (An @Bool.or_false (An @Bool.false_or (An @cond_true.{1} (An @cond_false.{1} (An @List.append_nil.{0} (An @List.nil_append.{0} (An @List.cons_append.{0} (An @Bool.not_true (@Bool.not_false))))))))))))))))))))))))))))))))))))))))))))))))) :=
 An @Ix (An @List.mem_cons.{0} (An @List.not_mem_nil.{0} (An @true_or (An @or_true (An @or_false (An @true_and (An @and_true (An @List.toList_toArray.{0} (An @List.getElem?_cons_zero.{0} (An @List.getElem?_cons_succ.{0} (An @Option.getD_some.{0} (An @Option.some.injEq.{0} (An @exists_eq_left'.{1} (An @if_true.{0} (An @if_true.{1} (An @if_false.{0} (An @if_false.{1} (An @Bool.false_and (An @Bool.false_eq_true (An @Value.pointer.injEq (An @Value.bool.injEq (An @Value.int.injEq (An @Value.tuple.injEq (An @exists_and_left.{1} (An @Option.map_some.{0,0} (An @Option.map_none.{0,0} (An @List.map_cons.{0,0} (An @List.map_nil.{0,0} (An @List.size_toArray.{0} (An @List.length_cons.{0} (An @List.length_nil.{0} (An @Ld (An @La (An @Kz (An @List.getElem?_toArray.{0} (An @Bool.true_and (An @Bool.and_true (An @Bool.or_true (An @Bool.true_or (An @Bool.or_false (An @Bool.false_or (An @cond_true.{1} (An @cond_false.{1} (An @List.append_nil.{0} (An @List.nil_append.{0} (An @List.cons_append.{0} (An @Bool.not_true (@Bool.not_false))))))))))))))))))))))))))))))))))))))))))))))))
theorem RX:type_of% (An @RC<|An @RO<|An @RD<|An @RV<|An @RB<|@RG):=An @RC<|An @RO<|An @RD<|An @RV<|An @RB<|@RG
theorem aJ {q:Bool} {X:Env} {K:eE} {ops d f aKe ts ty pos af l a s} {Φ:aG→St→Prop} {args:List Value} (h:aKe.toList.map a.eval=args) (hc:okF q X K f args s fun v s=>bP q X K ops l (a.put d v) s Φ) :
  bP q X K ops (⟨d,.call ⟨.value (.func f),aKe,ts⟩,ty,pos,af,none⟩::l) a s Φ:=by
 subst h;exact aE4.2 hc
theorem eQ {X:Env} {K:eE} {ops base c F i d f aKe ts ty pos af l a s} {Φ:aG→St→Prop} {args:List Value} (h:aKe.toList.map a.eval=args)
  (hc:okF false X K f args s fun v s'=>dQ c F i (fM a.eval s.look (.call ⟨.value (.func f),aKe,ts⟩)) s s'∧bX X K ops base c F l (i+1) (a.put d v) s' Φ) :
  bX X K ops base c F (⟨d,.call ⟨.value (.func f),aKe,ts⟩,ty,pos,af,none⟩::l) i a s Φ:=by
 subst h;exact Vs.2 hc
theorem HD {q:Bool} {X:Env} {K:eE} {ops d t aKe ts ty pos af l a s f} {fi ca:Array Value} {Φ:aG→St→Prop} {args:List Value} (hf:a.aB t=.func (.func f) fi ca) (h:fi.toList++aKe.toList.map a.eval++ca.toList=args)
  (hc:okF q X K f args s fun v s=>bP q X K ops l (a.put d v) s Φ):bP q X K ops (⟨d,.call ⟨.value (.tmp t),aKe,ts⟩,ty,pos,af,none⟩::l) a s Φ:=by
 subst h;rw[aDa,hf,IU];exact hc
section
variable {X:Env} {K:eE} {ops:Array Oper} {base i:Nat} {c:List (Nat×Nat)} {F:List Nat} {d:Option Tmp} {ty:TypeId} {pos:String} {af:Array Edge} {l:List Oper} {a:aG} {s s':St} {Φ:aG→St→Prop} {aKe:Array Operand} {ts:Array TypeId} {args:List Value} {v:Value}
theorem Vt (h:aKe.toList.map a.eval=args) (hd:wG X s ts args=some (v,s')) (hn:dQ c F i (fM a.eval s.look (.call ⟨.builtin .delete,aKe,ts⟩)) s s') (hk:bX X K ops base c F l (i+1) (a.put d v) s' Φ) :
  bX X K ops base c F (⟨d,.call ⟨.builtin .delete,aKe,ts⟩,ty,pos,af,none⟩::l) i a s Φ:=by
 subst h;refine(SZ (P:=fun v s'=>wG X s ts (aKe.toList.map a.eval)=some (v,s')) rfl ?_).2 ⟨v,s',hd,hn,hk⟩;intro cl r v s';simp only[eX];cases wG X s ts (aKe.toList.map a.eval) with
 | none=>simp[aS.ofOption]
 | some p=>rcases p with ⟨v2,s2⟩;simp[aS.ofOption]
theorem MY (h:aKe.toList.map a.eval=args) (hd:oY X s ts args=some (v,s')) (hn:dQ c F i (fM a.eval s.look (.call ⟨.builtin .append,aKe,ts⟩)) s s') (hk:bX X K ops base c F l (i+1) (a.put d v) s' Φ) :
  bX X K ops base c F (⟨d,.call ⟨.builtin .append,aKe,ts⟩,ty,pos,af,none⟩::l) i a s Φ:=by
 subst h;exact Vq.2 ⟨v,s',hd,hn,hk⟩
variable {q:Bool}
theorem iX (h:aKe.toList.map a.eval=args) (hd:oY X s ts args=some (v,s')) (hk:bP q X K ops l (a.put d v) s' Φ):bP q X K ops (⟨d,.call ⟨.builtin .append,aKe,ts⟩,ty,pos,af,none⟩::l) a s Φ:=by
 subst h;exact aD7.2 ⟨v,s',hd,hk⟩
theorem Jb (h:aKe.toList.map a.eval=args) (hd:uQ X s ts args=some (v,s')) (hk:bP q X K ops l (a.put d v) s' Φ):bP q X K ops (⟨d,.call ⟨.builtin .clear,aKe,ts⟩,ty,pos,af,none⟩::l) a s Φ:=by
 subst h;exact aDb.2 ⟨v,s',hd,hk⟩
end
theorem gD {q:Bool} {X:Env} {K:eE} {r:Option Nat} {G S body:Code} {c:Operand} {e b n:Nat} {Φ:dL→aG→St→Prop} (I J:Nat→aG→St→Prop)
  (hG:∀ j a s,j≤n→I j a s→∀ Ψ:dL→aG→St→Prop,(∀ a' s' bb,a'.eval c=.bool bb→(bb=true↔j<n)→I j a' s'→Ψ .normal a' s')→cN q X K r G a s Ψ)
  (hB:∀ j a s,j<n→I j a s→∀ Ψ:dL→aG→St→Prop,(∀ a s,J j a s→Ψ .normal a s)→(∀ a s,J j a s→Ψ (.exit b) a s)→(∀ e' a s,e'≠.normal→e'≠.exit b→Φ e' a s→Ψ e' a s)→cN q X K r body a s Ψ)
  (hS:∀ j a s,j<n→J j a s→∀ Ψ:dL→aG→St→Prop,(∀ a s,I (j+1) a s→Ψ .normal a s)→cN q X K r S a s Ψ)
  (hE:∀ a s,I n a s→Φ (.exit e) a s) {j0:Nat} {a:aG} {s:St} (hj:j0≤n) (h0:I j0 a s) :
  cN q X K r (.loop (.seq (.seq G (.cond c .skip (.exit e))) (.seq (.block b body) S))) a s Φ:=by
 refine cN.loop (fun k a s=>∃ j,k=n-j∧j≤n∧I j a s) ?_ (n-j0) ⟨j0,rfl,hj,h0⟩;rintro k a s ⟨j,rfl,hj,hI⟩;refine aA fun Ψ1 h1 h1'=>?_;refine aA fun Ψ2 h2 h2'=>?_;refine hG j a s hj hI _ fun a' s' bb hb hbb hI'=>h2 _ _ ?_;rw[PF];refine⟨bb,hb,?_⟩;by_cases bY:j<n
 ·rw[if_pos (hbb.2 bY),KQ];refine h1 _ _ ?_;refine aA fun Ψ3 h3 h3'=>?_;refine cB fun Ψ4 h4 h4e h4'=>?_;have done:∀ a s,J j a s→Ψ3 .normal a s:=fun a s hJ=>h3 _ _ (hS j a s bY hJ _ fun a s hI=>⟨n-(j+1),by omega,j+1,rfl,bY,hI⟩);refine hB j a' s' bY hI' Ψ4 (fun a s hJ=>h4 _ _ (done a s hJ)) (fun a s hJ=>h4e _ _ (done a s hJ)) fun e' a s hn hb hΦ=>h4' _ _ _ hn hb (h3' _ _ _ hn ?_);cases e' with
  | normal=>exact absurd rfl hn
  | _=>exact hΦ
 ·obtain rfl:j=n:=by omega
  rw[if_neg (fun h=>bY (hbb.1 h)),KP];exact h1' _ _ _ (by simp) (hE _ _ hI')
theorem XA {q:Bool} {X:Env} {K:eE} {r:Option Nat} {G body:Code} {c:Operand} {e b n:Nat} {Φ:dL→aG→St→Prop} (I:Nat→aG→St→Prop)
  (hG:∀ j a s,j≤n→I j a s→∀ Ψ:dL→aG→St→Prop,(∀ a' s' bb,a'.eval c=.bool bb→(bb=true↔j<n)→I j a' s'→Ψ .normal a' s')→cN q X K r G a s Ψ)
  (hB:∀ j a s,j<n→I j a s→∀ Ψ:dL→aG→St→Prop,(∀ a s,I (j+1) a s→Ψ .normal a s)→(∀ a s,I (j+1) a s→Ψ (.exit b) a s)→(∀ e' a s,e'≠.normal→e'≠.exit b→Φ e' a s→Ψ e' a s)→cN q X K r body a s Ψ)
  (hE:∀ a s,I n a s→Φ (.exit e) a s) {j0:Nat} {a:aG} {s:St} (hj:j0≤n) (h0:I j0 a s) :
  cN q X K r (.loop (.seq (.seq G (.cond c .skip (.exit e))) (.block b body))) a s Φ:=by
 refine cN.loop (fun k a s=>∃ j,k=n-j∧j≤n∧I j a s) ?_ (n-j0) ⟨j0,rfl,hj,h0⟩;rintro k a s ⟨j,rfl,hj,hI⟩;refine aA fun Ψ1 h1 h1'=>?_;refine aA fun Ψ2 h2 h2'=>?_;refine hG j a s hj hI _ fun a' s' bb hb hbb hI'=>h2 _ _ ?_;rw[PF];refine⟨bb,hb,?_⟩;by_cases bY:j<n
 ·rw[if_pos (hbb.2 bY),KQ];refine h1 _ _ ?_;refine cB fun Ψ4 h4 h4e h4'=>?_;have done:∀ a s,I (j+1) a s→∃ j',j'<n-j∧∃ j,j'=n-j∧j≤n∧I j a s:=fun a s hI=>⟨n-(j+1),by omega,j+1,rfl,bY,hI⟩;refine hB j a' s' bY hI' Ψ4 (fun a s hJ=>h4 _ _ (done a s hJ)) (fun a s hJ=>h4e _ _ (done a s hJ)) fun e' a s hn hb hΦ=>h4' _ _ _ hn hb ?_;cases e' with
  | normal=>exact absurd rfl hn
  | _=>exact hΦ
 ·obtain rfl:j=n:=by omega
  rw[if_neg (fun h=>bY (hbb.1 h)),KP];exact h1' _ _ _ (by simp) (hE _ _ hI')
theorem qP {q:Bool} {X:Env} {K:eE} {r:Option Nat} {G S body:Code} {c:Operand} {e b n:Nat} {Φ:dL→aG→St→Prop} (I J:Nat→aG→St→Prop)
  (hG:∀ j a s,j≤n→I j a s→∀ Ψ:dL→aG→St→Prop,(∀ a' s' bb,a'.eval c=.bool bb→(bb=true↔j<n)→I j a' s'→Ψ .normal a' s')→cN q X K r G a s Ψ)
  (hB:∀ j a s,j<n→I j a s→∀ Ψ:dL→aG→St→Prop,(∀ a s,J j a s→Ψ .normal a s)→(∀ a s,J j a s→Ψ (.exit b) a s)→(∀ e' a s,e'≠.normal→e'≠.exit b→Φ e' a s→Ψ e' a s)→cN q X K r body a s Ψ)
  (hS:∀ j a s,j<n→J j a s→∀ Ψ:dL→aG→St→Prop,(∀ a s,I (j+1) a s→Ψ .normal a s)→cN q X K r S a s Ψ)
  (hE:∀ a s,I n a s→Φ (.exit e) a s) {j0:Nat} {a:aG} {s:St} (hj:j0≤n) (h0:I j0 a s) :
  cN q X K r (.loop (.seq G (.seq (.cond c .skip (.exit e)) (.seq (.block b body) S)))) a s Φ:=by
 refine cN.loop (fun k a s=>∃ j,k=n-j∧j≤n∧I j a s) ?_ (n-j0) ⟨j0,rfl,hj,h0⟩;rintro k a s ⟨j,rfl,hj,hI⟩;refine aA fun Ψ2 h2 h2'=>?_;refine hG j a s hj hI _ fun a' s' bb hb hbb hI'=>h2 _ _ ?_;refine aA fun Ψ1 h1 h1'=>?_;rw[PF];refine⟨bb,hb,?_⟩;by_cases bY:j<n
 ·rw[if_pos (hbb.2 bY),KQ];refine h1 _ _ ?_;refine aA fun Ψ3 h3 h3'=>?_;refine cB fun Ψ4 h4 h4e h4'=>?_;have done:∀ a s,J j a s→Ψ3 .normal a s:=fun a s hJ=>h3 _ _ (hS j a s bY hJ _ fun a s hI=>⟨n-(j+1),by omega,j+1,rfl,bY,hI⟩);refine hB j a' s' bY hI' Ψ4 (fun a s hJ=>h4 _ _ (done a s hJ)) (fun a s hJ=>h4e _ _ (done a s hJ)) fun e' a s hn hb hΦ=>h4' _ _ _ hn hb (h3' _ _ _ hn ?_);cases e' with
  | normal=>exact absurd rfl hn
  | _=>exact hΦ
 ·obtain rfl:j=n:=by omega
  rw[if_neg (fun h=>bY (hbb.1 h)),KP];exact h1' _ _ _ (by simp) (hE _ _ hI')
structure Ok (s:St):Prop where
 wf:s.wf
 fresh:s.fresh
theorem Ok.skip {s:St} (h:Ok s) (n:Nat):Ok (s.skip n):=⟨h.wf,fun b hb=>h.fresh b (Nat.le_trans (Nat.le_add_right _ _) hb)⟩
structure aC (F:List Nat) (s s':St):Prop where
 cW:∀ b o,s.heap.get b=some o→b∉F→s'.heap.get b=some o
 low:∀ b o,s'.heap.get b=some o→(∃ o0,s.heap.get b=some o0)∨s.next≤b
 ok:Ok s'
 next:s.next≤s'.next
namespace aC
variable {F G:List Nat} {a b c s s':St}
theorem refl (h:Ok s):aC F s s:=⟨fun _ _ h _=>h,fun _ o h=>.inl ⟨o,h⟩,h,Nat.le_refl _⟩
theorem skip (h:Ok s) (n:Nat):aC F s (s.skip n):=⟨fun _ _ h _=>h,fun _ o h=>.inl ⟨o,h⟩,h.skip n,Nat.le_add_right _ _⟩
theorem step (h:aC F a b) (k:aC G b c) (hG:∀ g∈G,g∈F∨a.heap.get g=none):aC F a c:=by
 refine⟨fun x o hx hF=>k.cW x o (h.cW x o hx hF) fun hg=>?_,fun x o hx=>?_,k.ok,Nat.le_trans h.next k.next⟩
 ·rcases hG x hg with h1 | h1
  ·exact hF h1
  ·rw[h1] at hx;cases hx
 ·rcases k.low x o hx with ⟨o0,h0⟩ | h0
  ·exact h.low x o0 h0
  ·exact .inr (Nat.le_trans h.next h0)
theorem trans (h:aC F a b) (k:aC F b c):aC F a c:=h.step k fun _ hg=>.inl hg
theorem jJ (h:aC F a b) (n:Nat):aC F a (b.skip n):=h.trans (.skip h.ok n)
theorem mono (h:aC F s s') (hF:∀ x∈F,x∈G):aC G s s':=⟨fun x o hx hg=>h.cW x o hx fun hf=>hg (hF x hf),h.low,h.ok,h.next⟩
theorem any (h:aC [] s s'):aC G s s':=h.mono fun _ hx=>by cases hx
end aC
theorem Ok.put {s:St} (h:Ok s) {x:Nat} {f:Nat→bU} (hx:x<s.next) (hf:(f s.aO).cS=true∨(f s.aO).aT≤s.aO):Ok (s.put x f):=by
 refine⟨fun b o hb hd=>?_,fun b hb=>?_⟩
 ·simp only[St.put,PT.fC] at hb ⊢;split at hb
  ·cases hb;rcases hf with hf | hf
   ·rw[hf] at hd;cases hd
   ·exact Nat.lt_succ_of_le hf
  ·exact Nat.lt_succ_of_lt (h.wf b o hb hd)
 ·have hb':s.next≤b:=hb;simp only[St.put,PT.fC];rw[if_neg (by omega)];exact h.fresh b hb'
theorem Ok.lt {s:St} (h:Ok s) {b:Nat} {o:bU} (hb:s.heap.get b=some o):b<s.next:=by
 rcases Nat.lt_or_ge b s.next with h1 | h1
 ·exact h1
 ·rw[h.fresh b h1] at hb;cases hb
theorem aC.BH {F:List Nat} {s:St} (h:Ok s) {x:Nat} {o:bU} {f:Nat→bU} (hx:s.heap.get x=some o) (hf:(f s.aO).cS=true∨(f s.aO).aT≤s.aO) (hF:x∈F):aC F s (s.put x f):=by
 refine⟨fun b o' hb hn=>?_,fun b o' hb=>?_,h.put (h.lt hx) hf,Nat.le_refl _⟩
 ·simp only[St.put,PT.fC];rw[if_neg fun e=>hn (by rw[e];exact hF)];exact hb
 ·simp only[St.put,PT.fC] at hb;split at hb
  ·rename_i e;subst e;exact .inl ⟨o,hx⟩
  ·exact .inl ⟨o',hb⟩
theorem aC.ni {F:List Nat} {a s:St} (k:aC F a s) {x:Nat} {f:Nat→bU} (hx:s.heap.get x=none) (bY:x<s.next) (hge:a.next≤x) (hf:(f s.aO).cS=true∨(f s.aO).aT≤s.aO):aC F a (s.put x f):=by
 refine⟨fun b o' hb hn=>?_,fun b o' hb=>?_,k.ok.put bY hf,k.next⟩
 ·have hb':=k.cW b o' hb hn;simp only[St.put,PT.fC];rw[if_neg fun e=>by subst e;rw[hx] at hb';cases hb'];exact hb'
 ·simp only[St.put,PT.fC] at hb;split at hb
  ·rename_i e;subst e;exact .inr hge
  ·exact k.low b o' hb
theorem aC.new {F:List Nat} {a s:St} (k:aC F a s) {f:Nat→bU} (hf:(f s.aO).cS=true∨(f s.aO).aT≤s.aO):aC F a (s.new f):=by
 have h:=(k.jJ 2).ni (x:=s.next) (f:=f) (k.ok.fresh _ (Nat.le_refl _)) (by show s.next<s.next+2;omega) k.next hf;exact h
theorem aC.none {F:List Nat} {s s':St} (k:aC F s s') {x:Nat} (hx:s.heap.get x=Option.none) (bY:x<s.next):s'.heap.get x=Option.none:=by
 cases h:s'.heap.get x with
 | none=>rfl
 | some o =>
  rcases k.low x o h with ⟨o0,h0⟩ | h0
  ·rw[hx] at h0;cases h0
  ·omega
def Cells (s:St) (b:Nat) (e:TypeId) (L:List Value):Prop:=∃ c z room aT,s.heap.get b=some (.cells c z L.length e room false aT)∧∀ i,i<L.length→cellAt c z L.length i=L[i]?
theorem Cells.aD {F:List Nat} {s s':St} {b:Nat} {e:TypeId} {L:List Value} (h:Cells s b e L) (k:aC F s s') (hb:b∉F):Cells s' b e L:=by
 obtain⟨c,z,room,aT,h1,h2⟩:=h;exact⟨c,z,room,aT,k.cW _ _ h1 hb,h2⟩
theorem Cells.lt {s:St} {b:Nat} {e:TypeId} {L:List Value} (h:Cells s b e L) (hs:Ok s):b<s.next:=by
 obtain⟨c,z,room,aT,h1,h2⟩:=h;exact hs.lt h1
theorem jR {s s':St}:yB [] s s':=fun _ h=>by cases h
theorem gQ {s s':St} {b:Nat} {l:List Nat} (h:eT s s' b=true) (hl:yB l s s'):yB (b::l) s s':=fun x hx=>by
 rcases List.mem_cons.1 hx with rfl | hx
 ·exact h
 ·exact hl x hx
theorem YD {F:List Nat} {s s':St} {b:Nat} {o:bU} (h1:s.heap.get b=some o) (h2:o.cS=false) (hs:Ok s) (k:aC F s s') (hb:b∉F):eT s s' b=true:=by
 simp only[eT,h1,k.cW _ _ h1 hb,h2,Bool.not_false,beq_self_eq_true,Bool.and_self,Bool.true_and,decide_eq_true_eq];exact hs.wf b _ h1 h2
theorem Cells.same {F:List Nat} {s s':St} {b:Nat} {e:TypeId} {L:List Value} (h:Cells s b e L) (hs:Ok s) (k:aC F s s') (hb:b∉F):eT s s' b=true:=by
 obtain⟨c,z,room,aT,h1,h2⟩:=h;exact YD h1 rfl hs k hb
theorem Cells.load {s:St} {b:Nat} {e:TypeId} {L:List Value} {i:Nat} {v:Value} (h:Cells s b e L) (hi:L[i]?=some v):aI s.look ⟨b,i,none⟩=some v:=by
 obtain⟨c,z,room,aT,h1,h2⟩:=h;simp only[aI,St.look,h1];rw[h2 i (List.getElem?_eq_some_iff.1 hi).1,hi]
theorem XR {c:PT Value} {z:List Value} {n:Nat}:∀ (k i:Nat) (L:List Value),L.length=k→(∀ j,j<k→cellAt c z n (i+j)=L[j]?)→nX c z n i k=some L
 | 0,i,L,hL,_=>by
  have:L=[]:=List.length_eq_zero_iff.1 hL;subst this;rfl
 | k+1,i,v::L,hL,h=>by
  have h0:=h 0 (Nat.succ_pos k);have h1:=XR (c:=c) (z:=z) (n:=n) k (i+1) L (by simpa using hL) fun j hj=>by
   have:=h (j+1) (Nat.succ_lt_succ hj);rw[show i+1+j=i+(j+1) from by omega,this];rfl
  rw[Nat.add_zero] at h0;simp only[nX,h0,h1,List.getElem?_cons_zero]
theorem Cells.bD {s:St} {b:Nat} {e:TypeId} {L:List Value} {i k:Nat} (h:Cells s b e L) (hi:i+k≤L.length):bD s.look ⟨b,i,none⟩ k=some ((L.drop i).take k):=by
 obtain⟨c,z,room,aT,h1,h2⟩:=h;simp only[Dust.bD,St.look,h1];refine XR k i _ (by simp;omega) fun j hj=>?_;rw[h2 _ (by omega),List.getElem?_take_of_lt hj,List.getElem?_drop]
def tV (L:List Value) (i:Nat) (vs:List Value):List Value:=L.take i++vs++L.drop (i+vs.length)
theorem HS {L vs:List Value} {i:Nat} (h:i+vs.length≤L.length):(tV L i vs).length=L.length:=by
 simp only[tV,List.length_append,List.length_take,List.length_drop];omega
theorem HR {L vs:List Value} {i:Nat} (h:i+vs.length≤L.length) (j:Nat):(tV L i vs)[j]?=if i≤j∧j<i+vs.length then vs[j-i]? else L[j]?:=by
 unfold tV;have hi:(L.take i).length=i:=by rw[List.length_take];omega
 by_cases h1:i≤j
 ·by_cases h2:j<i+vs.length
  ·rw[if_pos ⟨h1,h2⟩,List.getElem?_append_left (by rw[List.length_append];omega),List.getElem?_append_right (by omega),hi]
  ·rw[if_neg (by omega),List.getElem?_append_right (by rw[List.length_append];omega),List.length_append,hi,List.getElem?_drop];congr 1;omega
 ·rw[if_neg (by omega),List.getElem?_append_left (by rw[List.length_append];omega),List.getElem?_append_left (by omega),List.getElem?_take_of_lt (by omega)]
theorem QF {L:List Value} {i:Nat} {v:Value} (h:i<L.length):tV L i [v]=L.set i v:=by
 apply List.ext_getElem?;intro j;rw[HR (by simp;omega)];rw[List.getElem?_set];simp only[List.length_singleton];by_cases h1:i=j
 ·subst h1;simp[h]
 ·rw[if_neg (by omega),if_neg h1]
theorem Cells.store {s:St} {b:Nat} {e:TypeId} {L vs:List Value} {i:Nat} (h:Cells s b e L) (hs:Ok s) (hi:i+vs.length≤L.length) (h1:vs.all iB=true) :
  ∃ s',dB s ⟨b,i,none⟩ vs=some s'∧Cells s' b e (tV L i vs)∧aC [b] s s':=by
 obtain⟨c,z,room,aT,hb,hc⟩:=h;refine⟨_,by simp only[dB,hb];rw[if_pos ⟨hi,h1⟩],⟨c.zS i vs,z,room,s.aO,?_,fun j hj=>?_⟩,.BH hs hb (.inr (Nat.le_refl _)) (List.mem_singleton.2 rfl)⟩
 ·simp only[St.put,PT.fC,if_true,HS hi]
 ·rw[HS hi] at hj ⊢;rw[HR hi];unfold cellAt;rw[if_pos hj,PT.FO];have hold:=hc j hj;unfold cellAt at hold;rw[if_pos hj] at hold;by_cases h2:i≤j
  ·rw[if_pos h2];by_cases h3:j<i+vs.length
   ·rw[if_pos ⟨h2,h3⟩,List.getElem?_eq_getElem (by omega)]
   ·rw[if_neg (by omega),List.getElem?_eq_none (by omega)];exact hold
  ·rw[if_neg h2,if_neg (by omega)];exact hold
theorem Cells.gJ {s:St} {b:Nat} {e:TypeId} {L:List Value} {i:Nat} {v:Value} (h:Cells s b e L) (hs:Ok s) (hi:i<L.length) (h1:iB v=true) :
  ∃ s',dB s ⟨b,i,none⟩ [v]=some s'∧Cells s' b e (L.set i v)∧aC [b] s s':=by
 have:=h.store hs (i:=i) (vs:=[v]) (by simp;omega) (by simp[h1]);rw[QF hi] at this;exact this
theorem Cells.pV {s:St} {x:Nat} {e:TypeId} {L:List Value} {room:Bool}:Cells (s.put x fun v=>.cells (PT.ofList L) [] L.length e room false v) x e L:=by
 refine⟨PT.ofList L,[],room,s.aO,by simp only[St.put,PT.fC,if_true],fun i hi=>?_⟩;unfold cellAt;rw[if_pos hi,PT.sF,List.getElem?_eq_getElem hi]
theorem Cells.vL {s:St} {e:TypeId} {L:List Value} {room:Bool}:Cells (s.new fun v=>.cells (PT.ofList L) [] L.length e room false v) s.next e L:=Cells.pV (s:=s)
theorem Cells.tO {s:St} {x:Nat} {e:TypeId} {z:List Value} {n:Nat}:Cells (s.put x fun v=>.cells .nil z (n*z.length) e false false v) x e ((List.range (n*z.length)).map fun i=>z.getD (i%z.length) undef):=by
 refine⟨.nil,z,false,s.aO,by simp only[St.put,PT.fC,if_true,List.length_map,List.length_range],fun i hi=>?_⟩;rw[List.length_map,List.length_range] at hi ⊢;unfold cellAt;rw[if_pos hi,PT.get_nil,List.getElem?_map,List.getElem?_range hi];rfl
theorem WG {X:Env} {nm:Nat} {t e B N:Nat} {n m:Int} {z:Value} (hd:((X.ty t).map fun i=>i.desc)=some (.slice e)) (he:((X.ty e).map fun i=>(i.bytes,i.size,i.zero))=some (B,N,some z))
  (h5:z.cells.size=N) (h1:0≤n) (h2:n≤m) (h3:m<2 ^ 40) (h4:(B:Int)*m≤2 ^ 48) :
  rK X nm t (.int .i64 n) (.int .i64 m)=some (.slice (some ⟨nm,0,none⟩) n.toNat m.toNat,fun v=>.cells .nil z.cells.toList (m.toNat*N) e false false v):=by
 cases hi:X.ty t with
 | none=>rw[hi] at hd;cases hd
 | some i =>
  cases hj:X.ty e with
  | none=>rw[hj] at he;cases he
  | some j =>
   rw[hi] at hd;rw[hj] at he;obtain⟨d,sz,bs,zz,ag,ms,cm⟩:=i;obtain⟨d',sz',bs',zz',ag',ms',cm'⟩:=j;simp only[Option.map_some,Option.some.injEq,Prod.mk.injEq] at hd he;subst hd;obtain⟨rfl,rfl,rfl⟩:=he;simp only[rK,hi,hj];rw[if_pos ⟨h1,h2,h3,h4,h5⟩]
theorem QC {X:Env} {H:bG} {t e N b off n c l h:Nat} (hd:((X.ty t).map fun i=>i.desc)=some (.slice e)) (he:((X.ty e).map fun i=>i.size)=some N)
  (ho:∃ c z n e room ro aT,H b=some (.cells c z n e room ro aT)) (h1:l≤h) (h2:h≤c) (h3:l<c) :
  eI X H t (.slice (some ⟨b,off,none⟩) n c) (some (.int .i64 l)) (some (.int .i64 h)) none=some (.slice (some ⟨b,off+l*N,none⟩) (h-l) (c-l)):=by
 obtain⟨cc,z,m,e0,room,ro,aT,ho⟩:=ho;cases hi:X.ty t with
 | none=>rw[hi] at hd;cases hd
 | some i =>
  cases hj:X.ty e with
  | none=>rw[hj] at he;cases he
  | some j =>
   rw[hi] at hd;rw[hj] at he;obtain⟨d,sz,bs,zz,ag,ms,cm⟩:=i;simp only[Option.map_some,Option.some.injEq] at hd he;subst hd;have hb:lU n c (some (l:Int)) (some (h:Int))=some (l,h):=by
    unfold lU;simp only;rw[if_pos (by omega)];simp only[Int.toNat_natCast];rw[if_pos (by omega)]
   simp only[eI,hi,hj,kC,hb,ho];rw[if_pos ⟨h1,h2⟩,if_neg (by omega),bJ,he]
theorem xx {X:Env} {s s':St} {t e b off n c:Nat} {z:Value} (hd:((X.ty t).map fun i=>i.desc)=some (.slice e)) (he:((X.ty e).map fun i=>i.zero)=some (some z)) (hn:n≠0)
  (hs:dB s ⟨b,off,none⟩ (rep z.cells.toList n)=some s'):uQ X s #[t] [.slice (some ⟨b,off,none⟩) n c]=some (.tuple #[],s'):=by
 cases hi:X.ty t with
 | none=>rw[hi] at hd;cases hd
 | some i =>
  cases hj:X.ty e with
  | none=>rw[hj] at he;cases he
  | some j =>
   rw[hi] at hd;rw[hj] at he;obtain⟨d,sz,bs,zz,ag,ms,cm⟩:=i;obtain⟨d',sz',bs',zz',ag',ms',cm'⟩:=j;simp only[Option.map_some,Option.some.injEq] at hd he;subst hd;subst he;simp only[uQ,List.getElem?_toArray,List.getElem?_cons_zero,hi];rw[if_neg hn];simp only[hj,hs]
inductive Sl (s:St) (m:Nat):Value→List Value→Prop
 | nil (a:Option Addr) (c:Nat):Sl s m (.slice a 0 c) []
 | cells {b off n c:Nat} {L:List Value} (hL:L.length=n*m) (hl:∀ i,i<L.length→aI s.look ⟨b,off+i,none⟩=L[i]?):Sl s m (.slice (some ⟨b,off,none⟩) n c) L
theorem tM {F:List Nat} {s s':St} {a:Addr} {v:Value} (k:aC F s s') (ha:a.block∉F) (h:aI s.look a=some v):aI s'.look a=some v:=by
 rcases a with ⟨b,off,sp⟩;unfold aI at h ⊢;simp only[St.look] at h ⊢;cases ho:s.heap.get b with
 | none=>rw[ho] at h;cases sp <;> cases h
 | some o=>rw[ho] at h;rw[k.cW _ _ ho ha];exact h
theorem PW {F:List Nat} {s s':St} {a:Addr} {v:Value} (h:aI s.look a=some v) (hs:Ok s) (k:aC F s s') (ha:a.block∉F):eT s s' a.block=true:=by
 obtain⟨o,h1,h2⟩:=aCa h;exact YD h1 h2 hs k ha
theorem Sl.aD {F:List Nat} {s s':St} {m:Nat} {v:Value} {L:List Value} (h:Sl s m v L) (k:aC F s s') (hb:∀ b∈nameOf v,b∉F):Sl s' m v L:=by
 cases h with
 | nil a c=>exact .nil a c
 | cells hL hl =>
  refine .cells hL fun i hi=>?_;have:=hl i hi;rw[List.getElem?_eq_getElem hi] at this ⊢;exact tM k (hb _ (by simp[nameOf])) this
theorem Sl.aDh {s:St} {b off n c m:Nat} {e:TypeId} {L:List Value} (h:Cells s b e L) (hn:off+n*m≤L.length):Sl s m (.slice (some ⟨b,off,none⟩) n c) ((L.drop off).take (n*m)):=by
 refine .cells (by simp;omega) fun i hi=>?_;have hi':i<n*m:=by simp at hi;omega
 rw[List.getElem?_take_of_lt hi',List.getElem?_drop];rw[List.getElem?_eq_getElem (by omega)];exact h.load (List.getElem?_eq_getElem (by omega))
theorem Sl.len {s:St} {m n c:Nat} {a:Option Addr} {L:List Value} (h:Sl s m (.slice a n c) L):L.length=n*m:=by
 cases h with
 | nil=>simp
 | cells hL _=>exact hL
theorem Sl.addr {s:St} {m n c:Nat} {a:Option Addr} {L:List Value} (h:Sl s m (.slice a n c) L) (hn:0<n):∃ b off,a=some ⟨b,off,none⟩:=by
 cases h with
 | nil=>omega
 | cells=>exact⟨_,_,rfl⟩
theorem Sl.load {s:St} {m n c b off i:Nat} {L:List Value} {v:Value} (h:Sl s m (.slice (some ⟨b,off,none⟩) n c) L) (hi:L[i]?=some v):aI s.look ⟨b,off+i,none⟩=some v:=by
 cases h with
 | nil=>cases hi
 | cells hL hl=>rw[hl i (List.getElem?_eq_some_iff.1 hi).1,hi]
theorem jv {H:bG} {b:Nat}:∀ {k off:Nat} {L:List Value},0<k→L.length=k→(∀ i,i<k→aI H ⟨b,off+i,none⟩=L[i]?)→bD H ⟨b,off,none⟩ k=some L:=by
 intro k off L hk hL h;have h0:=h 0 hk;unfold aI at h0;unfold bD;simp only at h0 ⊢;cases hb:H b with
 | none=>rw[hb,List.getElem?_eq_getElem (by omega)] at h0;cases h0
 | some o =>
  cases o with
  | cells c z n e room ro aT =>
   simp only;refine XR k off L hL fun j hj=>?_;have:=h j hj;unfold aI at this;rw[hb] at this;exact this
  | _=>rw[hb,List.getElem?_eq_getElem (by omega)] at h0;cases h0
theorem Sl.bD {s:St} {m n c b off i k:Nat} {L:List Value} (h:Sl s m (.slice (some ⟨b,off,none⟩) n c) L) (hk:0<k) (hi:i+k≤L.length):bD s.look ⟨b,off+i,none⟩ k=some ((L.drop i).take k):=by
 refine jv hk (by simp;omega) fun j hj=>?_;rw[List.getElem?_take_of_lt hj,List.getElem?_drop,List.getElem?_eq_getElem (by omega),Nat.add_assoc];exact h.load (List.getElem?_eq_getElem (by omega))
inductive bE (s:St) (e:TypeId) (m:Nat):Value→List Value→Prop
 | nil:bE s e m (.slice none 0 0) []
 | own {b off n cap:Nat} {L0 L:List Value} (h:Cells s b e L0) (hc:off+cap*m≤L0.length) (hn:n≤cap) (hL:L.length=n*m) (hl:∀ i,i<L.length→L0[off+i]?=L[i]?) :
   bE s e m (.slice (some ⟨b,off,none⟩) n cap) L
theorem bE.sl {s:St} {e:TypeId} {m:Nat} {v:Value} {L:List Value} (h:bE s e m v L):Sl s m v L:=by
 cases h with
 | nil=>exact .nil _ _
 | own h hc hn hL hl =>
  refine .cells hL fun i hi=>?_;have:=hl i hi;rw[List.getElem?_eq_getElem hi] at this ⊢;exact h.load this
theorem bE.aD {F:List Nat} {s s':St} {e:TypeId} {m:Nat} {v:Value} {L:List Value} (h:bE s e m v L) (k:aC F s s') (hb:∀ b∈nameOf v,b∉F):bE s' e m v L:=by
 cases h with
 | nil=>exact .nil
 | own h hc hn hL hl=>exact .own (h.aD k (hb _ (by simp[nameOf]))) hc hn hL hl
theorem bE.lt {s:St} {e:TypeId} {m:Nat} {v:Value} {L:List Value} (h:bE s e m v L) (hs:Ok s):∀ b∈nameOf v,b<s.next:=by
 cases h with
 | nil=>intro b hb;cases hb
 | own h _ _ _ _ =>
  intro b hb;simp only[nameOf,List.mem_singleton] at hb;subst hb;exact h.lt hs
theorem bE.append {s:St} {e:TypeId} {m len cap k:Nat} {a:Option Addr} {L new:List Value} (h:bE s e m (.slice a len cap) L) (hs:Ok s) (hm:0<m) (hn:new.length=k*m) (h1:new.all iB=true) :
  ∃ v s',qZ s e m a len cap k new=some (v,s')∧bE s' e m v (L++new)∧aC (nameOf (.slice a len cap)) s s'∧(∀ b∈nameOf v,b∈nameOf (.slice a len cap)∨s.next≤b)∧(∃ a' c',v=.slice a' (len+k) c'):=by
 cases h with
 | nil =>
  by_cases hk:k=0
  ·subst hk;have:new=[]:=List.length_eq_zero_iff.1 (by omega);subst this;exact⟨_,s,by simp[qZ],.nil,.refl hs,by simp[nameOf],_,_,rfl⟩
  ·refine⟨.slice (some ⟨s.next,0,none⟩) (0+k) (0+k),s.new fun v=>.cells (PT.ofList new) [] ((0+k)*m) e true false v,?_,?_,?_,?_,_,_,rfl⟩
   ·unfold qZ;rw[if_neg (by omega)];rfl
   ·have hc:=Cells.vL (s:=s) (e:=e) (L:=new) (room:=true);rw[hn] at hc;rw[Nat.zero_add];exact .own hc (by omega) (Nat.le_refl _) (by simpa using hn) (fun i hi=>by simp)
   ·exact(aC.refl hs).new (.inr (Nat.le_refl _))
   ·intro b hb;simp only[nameOf,List.mem_singleton] at hb;exact .inr (by omega)
 | @own b off _ _ L0 _ h hc hnc hL hl =>
  by_cases hfit:len+k≤cap
  ·by_cases hk:k=0
   ·subst hk;have:new=[]:=List.length_eq_zero_iff.1 (by omega);subst this;refine⟨_,s,by unfold qZ;rw[if_pos hfit];rfl,?_,.refl hs,fun b hb=>.inl hb,_,_,rfl⟩;rw[List.append_nil];exact .own h hc hnc hL hl
   ·have hmul:len*m+k*m≤cap*m:=by rw[← Nat.add_mul];exact Nat.mul_le_mul_right m hfit
    obtain⟨s',h2,h3,h4⟩:=h.store hs (i:=off+len*m) (vs:=new) (by omega) h1;refine⟨.slice (some ⟨b,off,none⟩) (len+k) cap,s',?_,?_,h4,fun b hb=>.inl hb,_,_,rfl⟩
    ·unfold qZ;rw[if_pos hfit];have:new.isEmpty=false:=by
      cases new with
      | nil =>
       have:=Nat.mul_pos (Nat.pos_of_ne_zero hk) hm;simp at hn;omega
      | cons=>rfl
     simp only[this,bJ,h2];rfl
    ·refine .own h3 (by rw[HS (by omega)];exact hc) hfit (by rw[List.length_append,hL,hn,Nat.add_mul]) fun i hi=>?_;rw[List.length_append,hL,hn] at hi;rw[HR (by omega)];by_cases bY:i<len*m
     ·rw[if_neg (by omega),List.getElem?_append_left (by omega)];exact hl i (by omega)
     ·rw[if_pos (by omega),List.getElem?_append_right (by omega)];congr 1;omega
  ·obtain⟨c,z,room,aT,hb,hcell⟩:=h;have hk:0<k:=by omega
   have hmul:len*m≤cap*m:=Nat.mul_le_mul_right m hnc;have hin:inBlock ⟨b,off,none⟩ len cap m L0.length=true:=by simp[inBlock];omega
   have hold:∀ i,i<len*m→cellAt c z L0.length (off+i)=L[i]?:=fun i hi=>by rw[hcell _ (by omega)];exact hl i (by omega)
   have hks:aC [b] s (if room=true then s.kill b else s)∧(if room=true then s.kill b else s).next=s.next:=by
    cases room with
    | false=>exact⟨.refl hs,rfl⟩
    | true=>exact⟨aC.BH (f:=fun _=>.dead) hs hb (.inl rfl) (List.mem_singleton.2 rfl),rfl⟩
   obtain⟨c',z',hg,hc'⟩:∃ c' z',AM c z L0.length ⟨b,off,none⟩ (len*m) new=some (c',z')∧∀ i,i<(L++new).length→cellAt c' z' ((len+k)*m) i=(L++new)[i]?:=by
    have hlen:(L++new).length=(len+k)*m:=by rw[List.length_append,hL,hn,Nat.add_mul]
    unfold AM;by_cases h0:len*m=0
    ·refine⟨_,_,by rw[if_pos h0],fun i hi=>?_⟩;have hLn:L=[]:=List.length_eq_zero_iff.1 (by omega);subst hLn;rw[hlen] at hi;rw[List.nil_append];unfold cellAt;rw[if_pos hi,PT.sF];have:i<new.length:=by rw[hn];rw[Nat.add_mul] at hi;omega
     rw[List.getElem?_eq_getElem this]
    ·by_cases ho:off=0
     ·subst ho;refine⟨c.zS (len*m) new,z,by rw[if_neg h0];simp;omega,fun i hi=>?_⟩;rw[hlen] at hi;unfold cellAt;rw[if_pos hi,PT.FO];by_cases h2:len*m≤i
      ·rw[if_pos h2,List.getElem?_append_right (by omega),hL,List.getElem?_eq_getElem (by rw[hn];rw[Nat.add_mul] at hi;omega)]
      ·rw[if_neg h2,List.getElem?_append_left (by omega)];have:=hold i (by omega);unfold cellAt at this;rw[if_pos (by omega),Nat.zero_add] at this;exact this
     ·have hr:nX c z L0.length off (len*m)=some L:=XR _ _ _ hL hold;refine⟨PT.ofList (L++new),[],by rw[if_neg h0];simp only[ho,if_false,hr],fun i hi=>?_⟩;unfold cellAt;rw[if_pos (by rw[← hlen];exact hi),PT.sF,List.getElem?_eq_getElem hi]
   have hlen:(L++new).length=(len+k)*m:=by rw[List.length_append,hL,hn,Nat.add_mul]
   refine⟨.slice (some ⟨(if room=true then s.kill b else s).next,0,none⟩) (len+k) (len+k),(if room=true then s.kill b else s).new fun v=>.cells c' z' ((len+k)*m) e true false v,?_,?_,?_,?_,_,_,rfl⟩
   ·unfold qZ;rw[if_neg hfit];simp only[hb];rw[if_pos ⟨trivial,hin⟩,hg,hks.2]
   ·refine .own (L0:=L++new) ⟨c',z',true,(if room=true then s.kill b else s).aO,?_,?_⟩ (by rw[hlen];omega) (Nat.le_refl _) hlen (fun i _=>by rw[Nat.zero_add])
    ·rw[hlen];simp only[St.new,PT.fC,if_true]
    ·rw[hlen];intro i hi;exact hc' i (by rw[hlen];exact hi)
   ·exact hks.1.new (.inr (Nat.le_refl _))
   ·intro x hx;simp only[nameOf,List.mem_singleton] at hx;exact .inr (by rw[hx,hks.2];exact Nat.le_refl _)
end Go.Dust
