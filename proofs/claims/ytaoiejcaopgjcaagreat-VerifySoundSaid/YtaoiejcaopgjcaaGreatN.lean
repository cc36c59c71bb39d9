/- The plain interpreter D and its laws (Ej). -/
import Derived.Test.YtaoiejcaopgjcaaGreatM
set_option linter.unusedVariables false
set_option linter.unusedSimpArgs false
namespace Go.Dust
noncomputable def CC (X:Env) (H:aY) (t:TypeId) (v:Value):Option Value:=match v with
 | .pointer (some a)=>loadT X H t a
 | _=>none
theorem OK (X:Env) (H:aY) (t:TypeId) (a:Addr):CC X H t (.pointer (some a))=loadT X H t a:=rfl
noncomputable def sd (X:Env) (H:aY) (o:BinOp) (t:TypeId) (x y:Value) (c:Bool):Option Value:=if (kB x y&&!c)=true then none else binop X H o t x y
theorem du (X:Env) (H:aY) (o:BinOp) (t:TypeId) (x y:Value) (c:Bool):sd X H o t x y c=if (kB x y&&!c)=true then none else binop X H o t x y:=rfl
def KQ (c x y:Value):Option Value:=match c with
 | .bool t=>some (if t=true then x else y)
 | _=>none
theorem KR (t:Bool) (x y:Value):KQ (.bool t) x y=some (if t=true then x else y):=rfl
def cx (v:Value) (j:Nat):Option Value:=match v with
 | .tuple vs=>vs[j]?
 | _=>none
theorem YA (vs:Array Value) (j:Nat):cx (.tuple vs) j=vs[j]?:=rfl
noncomputable def pV (X:Env) (s:St) (t:TypeId) (p v:Value):Option St:=match p with
 | .pointer (some a)=>storeT X s t a v
 | _=>none
theorem LS (X:Env) (s:St) (t:TypeId) (a:Addr) (v:Value):pV X s t (.pointer (some a)) v=storeT X s t a v:=rfl
def alV (o:Option (Value×(Nat→bX))):Value:=match o with
 | some (v,_)=>v
 | none=>undef
def dk (o:Option (Value×(Nat→bX))):Nat→bX:=match o with
 | some (_,f)=>f
 | none=>fun _=>.dead
theorem TK (v:Value) (f:Nat→bX):alV (some (v,f))=v:=rfl
theorem TJ (v:Value) (f:Nat→bX):dk (some (v,f))=f:=rfl
theorem isSome_some {α:Type} (v:α):(some v).isSome=true:=rfl
theorem getD_some {α:Type} (v d:α):(some v).getD d=v:=rfl
theorem ue {o:Option Value} {P:Value→Prop}:(∃ v,o=some v∧P v)↔o.isSome=true∧P (o.getD undef):=by
 cases o with
 | none=>exact⟨fun⟨_,h,_⟩=>(by cases h),fun h=>(by cases h.1)⟩
 | some v=>exact⟨fun⟨_,h,k⟩=>(by cases h;exact⟨rfl,k⟩),fun h=>⟨v,rfl,h.2⟩⟩
theorem HI {o:Option St} {d:St} {P:St→Prop}:(∃ v,o=some v∧P v)↔o.isSome=true∧P (o.getD d):=by
 cases o with
 | none=>exact⟨fun⟨_,h,_⟩=>(by cases h),fun h=>(by cases h.1)⟩
 | some v=>exact⟨fun⟨_,h,k⟩=>(by cases h;exact⟨rfl,k⟩),fun h=>⟨v,rfl,h.2⟩⟩
theorem pF {o:Option (Value×(Nat→bX))} {k:Value→(Nat→bX)→Prop}:EA o k↔o.isSome=true∧k (alV o) (dk o):=by
 cases o with
 | none=>exact⟨fun h=>h.elim,fun h=>(by cases h.1)⟩
 | some p=>exact⟨fun h=>⟨rfl,h⟩,fun h=>h.2⟩
theorem bE {q:Bool} {X:Env} {K:qT} {r c x y a s} {Φ:cP→bD→St→Prop}:jU q X K r (.cond c x y) a s Φ↔(aM (a.eval c)).isSome=true∧jU q X K r (if aM (a.eval c)=some true then x else y) a s Φ:=by
 rw[CN]
 cases hc:a.eval c with
 | bool b=>exact⟨fun⟨b',h,k⟩=>(by cases h;refine⟨rfl,?_⟩;simpa [aM] using k),fun h=>⟨b,rfl,by simpa [aM] using h.2⟩⟩
 | _=>exact⟨fun⟨b',h,k⟩=>(by cases h),fun h=>(by cases h.1)⟩
section
variable {q:Bool} {X:Env} {K:qT} {ops:Array Oper} {d:Option Tmp} {ty:TypeId} {pos:String} {af:Array Edge} {l:List Oper} {a:bD} {s:St} {Φ:bD→St→Prop}
theorem fZ {op:Op} (hk:bN op=.still):eE q X K ops (⟨d,op,ty,pos,af,none⟩::l) a s Φ↔(bS X s.look a.eval op).isSome=true∧eE q X K ops l (a.put d ((bS X s.look a.eval op).getD undef)) s Φ:=(yJ hk).trans ue
theorem JU (H:aY) (ρ:Operand→Value) (t:TypeId) (x:Operand):bS X H ρ (.load t x)=CC X H t (ρ x):=by
 simp only[bS,CC]
 generalize ρ x=v
 cases v with
 | pointer p=>cases p <;> rfl
 | _=>rfl
theorem KS (H:aY) (ρ:Operand→Value) (c x y:Operand):bS X H ρ (.pick c x y)=KQ (ρ c) (ρ x) (ρ y):=by
 simp only[bS,KQ]
 generalize ρ c=v
 cases v <;> rfl
theorem zJ (H:aY) (ρ:Operand→Value) (x:Operand) (j:Nat):bS X H ρ (.extract x j)=cx (ρ x) j:=by
 simp only[bS,cx]
 generalize ρ x=v
 cases v <;> rfl
theorem jj {t ps}:eE q X K ops (⟨d,.build t ps,ty,pos,af,none⟩::l) a s Φ↔(fJ X t (ps.toList.map fun(i,x)=>(i,a.eval x))).isSome=true∧eE q X K ops l (a.put d ((fJ X t (ps.toList.map fun(i,x)=>(i,a.eval x))).getD undef)) s Φ:=fZ rfl
theorem LH {x}:eE q X K ops (⟨d,.nilCheck x,ty,pos,af,none⟩::l) a s Φ↔(mT (a.eval x)).isSome=true∧eE q X K ops l (a.put d ((mT (a.eval x)).getD undef)) s Φ:=fZ rfl
theorem zo {o t x}:eE q X K ops (⟨d,.unOp o t x,ty,pos,af,none⟩::l) a s Φ↔(unop o (a.eval x)).isSome=true∧eE q X K ops l (a.put d ((unop o (a.eval x)).getD undef)) s Φ:=fZ rfl
theorem OX {t0 t x}:eE q X K ops (⟨d,.convert t0 t x,ty,pos,af,none⟩::l) a s Φ↔(iM X t0 t (a.eval x)).isSome=true∧eE q X K ops l (a.put d ((iM X t0 t (a.eval x)).getD undef)) s Φ:=fZ rfl
theorem jn {t x lo hi mx}:eE q X K ops (⟨d,.slice t x lo hi mx,ty,pos,af,none⟩::l) a s Φ↔(dE X s.look t (a.eval x) (lo.map a.eval) (hi.map a.eval) (mx.map a.eval)).isSome=true∧eE q X K ops l (a.put d ((dE X s.look t (a.eval x) (lo.map a.eval) (hi.map a.eval) (mx.map a.eval)).getD undef)) s Φ:=fZ rfl
theorem GC {t x f}:eE q X K ops (⟨d,.fieldAddr t x f,ty,pos,af,none⟩::l) a s Φ↔(aO X t (a.eval x) f).isSome=true∧eE q X K ops l (a.put d ((aO X t (a.eval x) f).getD undef)) s Φ:=fZ rfl
theorem jl {t x f}:eE q X K ops (⟨d,.field t x f,ty,pos,af,none⟩::l) a s Φ↔(wD X t (a.eval x) f).isSome=true∧eE q X K ops l (a.put d ((wD X t (a.eval x) f).getD undef)) s Φ:=fZ rfl
theorem GD {t x y}:eE q X K ops (⟨d,.indexAddr t x y,ty,pos,af,none⟩::l) a s Φ↔(bQ X t (a.eval x) (a.eval y)).isSome=true∧eE q X K ops l (a.put d ((bQ X t (a.eval x) (a.eval y)).getD undef)) s Φ:=fZ rfl
theorem jm {t x y}:eE q X K ops (⟨d,.index t x y,ty,pos,af,none⟩::l) a s Φ↔(uH X t (a.eval x) (a.eval y)).isSome=true∧eE q X K ops l (a.put d ((uH X t (a.eval x) (a.eval y)).getD undef)) s Φ:=fZ rfl
theorem XO {t x y b}:eE q X K ops (⟨d,.lookup t x y b,ty,pos,af,none⟩::l) a s Φ↔(kW X s.look t (a.eval x) (a.eval y) b).isSome=true∧eE q X K ops l (a.put d ((kW X s.look t (a.eval x) (a.eval y) b).getD undef)) s Φ:=fZ rfl
theorem vL {t x}:eE q X K ops (⟨d,.makeInterface t x,ty,pos,af,none⟩::l) a s Φ↔(bS X s.look a.eval (.makeInterface t x)).isSome=true∧eE q X K ops l (a.put d ((bS X s.look a.eval (.makeInterface t x)).getD undef)) s Φ:=fZ rfl
theorem CY {x t1 t b}:eE q X K ops (⟨d,.typeAssert x t1 t b,ty,pos,af,none⟩::l) a s Φ↔(jF X (a.eval x) t b).isSome=true∧eE q X K ops l (a.put d ((jF X (a.eval x) t b).getD undef)) s Φ:=fZ rfl
theorem jk {x}:eE q X K ops (⟨d,.entry x,ty,pos,af,none⟩::l) a s Φ↔(nZ s.look (a.eval x)).isSome=true∧eE q X K ops l (a.put d ((nZ s.look (a.eval x)).getD undef)) s Φ:=fZ rfl
theorem s_len {x t}:eE q X K ops (⟨d,.call ⟨.builtin .len,#[x],#[t]⟩,ty,pos,af,none⟩::l) a s Φ↔(fA X s.look t (a.eval x)).isSome=true∧eE q X K ops l (a.put d ((fA X s.look t (a.eval x)).getD undef)) s Φ:=fZ rfl
theorem s_max {x y ts}:eE q X K ops (⟨d,.call ⟨.builtin .max,#[x,y],ts⟩,ty,pos,af,none⟩::l) a s Φ↔(eT (fun x y=>decide (y>x)) (a.eval x) [a.eval y]).isSome=true∧eE q X K ops l (a.put d ((eT (fun x y=>decide (y>x)) (a.eval x) [a.eval y]).getD undef)) s Φ:=fZ rfl
theorem s_min {x y ts}:eE q X K ops (⟨d,.call ⟨.builtin .min,#[x,y],ts⟩,ty,pos,af,none⟩::l) a s Φ↔(eT (fun x y=>decide (y<x)) (a.eval x) [a.eval y]).isSome=true∧eE q X K ops l (a.put d ((eT (fun x y=>decide (y<x)) (a.eval x) [a.eval y]).getD undef)) s Φ:=fZ rfl
theorem zl {t x}:eE q X K ops (⟨d,.load t x,ty,pos,af,none⟩::l) a s Φ↔(CC X s.look t (a.eval x)).isSome=true∧eE q X K ops l (a.put d ((CC X s.look t (a.eval x)).getD undef)) s Φ:=by
 rw[fZ rfl,JU]
theorem ji {o t x y t'}:eE q X K ops (⟨d,.binOp o t x y t',ty,pos,af,none⟩::l) a s Φ↔(sd X s.look o t (a.eval x) (a.eval y) (dY x||dY y)).isSome=true∧eE q X K ops l (a.put d ((sd X s.look o t (a.eval x) (a.eval y) (dY x||dY y)).getD undef)) s Φ:=fZ rfl
theorem zm {c0 x y}:eE q X K ops (⟨d,.pick c0 x y,ty,pos,af,none⟩::l) a s Φ↔(KQ (a.eval c0) (a.eval x) (a.eval y)).isSome=true∧eE q X K ops l (a.put d ((KQ (a.eval c0) (a.eval x) (a.eval y)).getD undef)) s Φ:=by
 rw[fZ rfl,KS]
theorem OY {x j}:eE q X K ops (⟨d,.extract x j,ty,pos,af,none⟩::l) a s Φ↔(cx (a.eval x) j).isSome=true∧eE q X K ops l (a.put d ((cx (a.eval x) j).getD undef)) s Φ:=by
 rw[fZ rfl,zJ]
theorem jo {t p x}:eE q X K ops (⟨d,.store t p x,ty,pos,af,none⟩::l) a s Φ↔(pV X s t (a.eval p) (a.eval x)).isSome=true∧eE q X K ops l (a.put d undef) ((pV X s t (a.eval p) (a.eval x)).getD s) Φ:=by
 rw[pn,← HI (P:=fun s'=>eE q X K ops l (a.put d undef) s' Φ)]
 cases hp:a.eval p with
 | pointer ad =>
  cases ad with
  | none=>simp[pV]
  | some ad=>simp[pV]
 | _=>simp[pV]
theorem GF {t m k x}:eE q X K ops (⟨d,.mapUpdate t m k x,ty,pos,af,none⟩::l) a s Φ↔(gM X s t (a.eval m) (a.eval k) (a.eval x)).isSome=true∧eE q X K ops l (a.put d undef) ((gM X s t (a.eval m) (a.eval k) (a.eval x)).getD s) Φ:=by
 rw[WK,← HI (P:=fun s'=>eE q X K ops l (a.put d undef) s' Φ)]
theorem XN {e}:eE q X K ops (⟨d,.alloc e,ty,pos,af,none⟩::l) a s Φ↔(cS X s.next a.eval (.alloc e)).isSome=true∧eE q X K ops l (a.put d (alV (cS X s.next a.eval (.alloc e)))) (s.new (dk (cS X s.next a.eval (.alloc e)))) Φ:=yh.trans pF
theorem s_bs {t n ps}:eE q X K ops (⟨d,.buildSlice t n ps,ty,pos,af,none⟩::l) a s Φ↔(QL X s.next t n (ps.toList.map fun(i,x)=>(i,a.eval x))).isSome=true∧eE q X K ops l (a.put d (alV (QL X s.next t n (ps.toList.map fun(i,x)=>(i,a.eval x))))) (s.new (dk (QL X s.next t n (ps.toList.map fun(i,x)=>(i,a.eval x))))) Φ:=o_bs.trans pF
theorem s_mks {t n c'}:eE q X K ops (⟨d,.makeSlice t n c',ty,pos,af,none⟩::l) a s Φ↔(al X s.next t (a.eval n) (a.eval c')).isSome=true∧eE q X K ops l (a.put d (alV (al X s.next t (a.eval n) (a.eval c')))) (s.new (dk (al X s.next t (a.eval n) (a.eval c')))) Φ:=o_mks.trans pF
theorem s_mm {t r}:eE q X K ops (⟨d,.makeMap t r,ty,pos,af,none⟩::l) a s Φ↔(xo X s.next t (r.map a.eval)).isSome=true∧eE q X K ops l (a.put d (alV (xo X s.next t (r.map a.eval)))) (s.new (dk (xo X s.next t (r.map a.eval)))) Φ:=o_mm.trans pF
end
section
variable {X:Env} {K:qT} {ops:Array Oper} {base i:Nat} {c:List (Nat×Nat)} {F:List Nat} {d:Option Tmp} {ty:TypeId} {pos:String} {af:Array Edge} {l:List Oper} {a:bD} {s:St} {Φ:bD→St→Prop}
theorem gB {op:Op} (hk:bN op=.still):fD X K ops base c F (⟨d,op,ty,pos,af,none⟩::l) i a s Φ↔(bS X s.look a.eval op).isSome=true∧bO c F i (bZ a.eval s.look op) s s∧fD X K ops base c F l (i+1) (a.put d ((bS X s.look a.eval op).getD undef)) s Φ:=(HH hk).trans (ue (P:=fun v=>bO c F i (bZ a.eval s.look op) s s∧fD X K ops base c F l (i+1) (a.put d v) s Φ))
theorem jt {t ps}:fD X K ops base c F (⟨d,.build t ps,ty,pos,af,none⟩::l) i a s Φ↔(fJ X t (ps.toList.map fun(i,x)=>(i,a.eval x))).isSome=true∧bO c F i ([]) s s∧fD X K ops base c F l (i+1) (a.put d ((fJ X t (ps.toList.map fun(i,x)=>(i,a.eval x))).getD undef)) s Φ:=gB rfl
theorem LV {x}:fD X K ops base c F (⟨d,.nilCheck x,ty,pos,af,none⟩::l) i a s Φ↔(mT (a.eval x)).isSome=true∧bO c F i ([]) s s∧fD X K ops base c F l (i+1) (a.put d ((mT (a.eval x)).getD undef)) s Φ:=gB rfl
theorem aA8 {o t x}:fD X K ops base c F (⟨d,.unOp o t x,ty,pos,af,none⟩::l) i a s Φ↔(unop o (a.eval x)).isSome=true∧bO c F i ([]) s s∧fD X K ops base c F l (i+1) (a.put d ((unop o (a.eval x)).getD undef)) s Φ:=gB rfl
theorem PF {t0 t x}:fD X K ops base c F (⟨d,.convert t0 t x,ty,pos,af,none⟩::l) i a s Φ↔(iM X t0 t (a.eval x)).isSome=true∧bO c F i ([]) s s∧fD X K ops base c F l (i+1) (a.put d ((iM X t0 t (a.eval x)).getD undef)) s Φ:=gB rfl
theorem jx {t x lo hi mx}:fD X K ops base c F (⟨d,.slice t x lo hi mx,ty,pos,af,none⟩::l) i a s Φ↔(dE X s.look t (a.eval x) (lo.map a.eval) (hi.map a.eval) (mx.map a.eval)).isSome=true∧bO c F i (nameOf (a.eval x)) s s∧fD X K ops base c F l (i+1) (a.put d ((dE X s.look t (a.eval x) (lo.map a.eval) (hi.map a.eval) (mx.map a.eval)).getD undef)) s Φ:=gB rfl
theorem GO {t x f}:fD X K ops base c F (⟨d,.fieldAddr t x f,ty,pos,af,none⟩::l) i a s Φ↔(aO X t (a.eval x) f).isSome=true∧bO c F i ([]) s s∧fD X K ops base c F l (i+1) (a.put d ((aO X t (a.eval x) f).getD undef)) s Φ:=gB rfl
theorem jv {t x f}:fD X K ops base c F (⟨d,.field t x f,ty,pos,af,none⟩::l) i a s Φ↔(wD X t (a.eval x) f).isSome=true∧bO c F i ([]) s s∧fD X K ops base c F l (i+1) (a.put d ((wD X t (a.eval x) f).getD undef)) s Φ:=gB rfl
theorem GP {t x y}:fD X K ops base c F (⟨d,.indexAddr t x y,ty,pos,af,none⟩::l) i a s Φ↔(bQ X t (a.eval x) (a.eval y)).isSome=true∧bO c F i ([]) s s∧fD X K ops base c F l (i+1) (a.put d ((bQ X t (a.eval x) (a.eval y)).getD undef)) s Φ:=gB rfl
theorem jw {t x y}:fD X K ops base c F (⟨d,.index t x y,ty,pos,af,none⟩::l) i a s Φ↔(uH X t (a.eval x) (a.eval y)).isSome=true∧bO c F i ([]) s s∧fD X K ops base c F l (i+1) (a.put d ((uH X t (a.eval x) (a.eval y)).getD undef)) s Φ:=gB rfl
theorem XW {t x y b}:fD X K ops base c F (⟨d,.lookup t x y b,ty,pos,af,none⟩::l) i a s Φ↔(kW X s.look t (a.eval x) (a.eval y) b).isSome=true∧bO c F i (nameOf (a.eval x)) s s∧fD X K ops base c F l (i+1) (a.put d ((kW X s.look t (a.eval x) (a.eval y) b).getD undef)) s Φ:=gB rfl
theorem vM {t x}:fD X K ops base c F (⟨d,.makeInterface t x,ty,pos,af,none⟩::l) i a s Φ↔(bS X s.look a.eval (.makeInterface t x)).isSome=true∧bO c F i ([]) s s∧fD X K ops base c F l (i+1) (a.put d ((bS X s.look a.eval (.makeInterface t x)).getD undef)) s Φ:=gB rfl
theorem DD {x t1 t b}:fD X K ops base c F (⟨d,.typeAssert x t1 t b,ty,pos,af,none⟩::l) i a s Φ↔(jF X (a.eval x) t b).isSome=true∧bO c F i ([]) s s∧fD X K ops base c F l (i+1) (a.put d ((jF X (a.eval x) t b).getD undef)) s Φ:=gB rfl
theorem ju {x}:fD X K ops base c F (⟨d,.entry x,ty,pos,af,none⟩::l) i a s Φ↔(nZ s.look (a.eval x)).isSome=true∧bO c F i (bZ a.eval s.look (.entry x)) s s∧fD X K ops base c F l (i+1) (a.put d ((nZ s.look (a.eval x)).getD undef)) s Φ:=gB rfl
theorem t_len {x t}:fD X K ops base c F (⟨d,.call ⟨.builtin .len,#[x],#[t]⟩,ty,pos,af,none⟩::l) i a s Φ↔(fA X s.look t (a.eval x)).isSome=true∧bO c F i (nameOf (a.eval x)) s s∧fD X K ops base c F l (i+1) (a.put d ((fA X s.look t (a.eval x)).getD undef)) s Φ:=gB rfl
theorem t_max {x y ts}:fD X K ops base c F (⟨d,.call ⟨.builtin .max,#[x,y],ts⟩,ty,pos,af,none⟩::l) i a s Φ↔(eT (fun x y=>decide (y>x)) (a.eval x) [a.eval y]).isSome=true∧bO c F i (nameOf (a.eval x)) s s∧fD X K ops base c F l (i+1) (a.put d ((eT (fun x y=>decide (y>x)) (a.eval x) [a.eval y]).getD undef)) s Φ:=gB rfl
theorem t_min {x y ts}:fD X K ops base c F (⟨d,.call ⟨.builtin .min,#[x,y],ts⟩,ty,pos,af,none⟩::l) i a s Φ↔(eT (fun x y=>decide (y<x)) (a.eval x) [a.eval y]).isSome=true∧bO c F i (nameOf (a.eval x)) s s∧fD X K ops base c F l (i+1) (a.put d ((eT (fun x y=>decide (y<x)) (a.eval x) [a.eval y]).getD undef)) s Φ:=gB rfl
theorem aA6 {t x}:fD X K ops base c F (⟨d,.load t x,ty,pos,af,none⟩::l) i a s Φ↔(CC X s.look t (a.eval x)).isSome=true∧bO c F i (nameOf (a.eval x)) s s∧fD X K ops base c F l (i+1) (a.put d ((CC X s.look t (a.eval x)).getD undef)) s Φ:=by
 rw[gB rfl,JU,show bZ a.eval s.look (.load t x)=nameOf (a.eval x) from rfl]
theorem js {o t x y t'}:fD X K ops base c F (⟨d,.binOp o t x y t',ty,pos,af,none⟩::l) i a s Φ↔(sd X s.look o t (a.eval x) (a.eval y) (dY x||dY y)).isSome=true∧bO c F i (nameOf (a.eval x)++nameOf (a.eval y)) s s∧fD X K ops base c F l (i+1) (a.put d ((sd X s.look o t (a.eval x) (a.eval y) (dY x||dY y)).getD undef)) s Φ:=gB rfl
theorem aA7 {c0 x y}:fD X K ops base c F (⟨d,.pick c0 x y,ty,pos,af,none⟩::l) i a s Φ↔(KQ (a.eval c0) (a.eval x) (a.eval y)).isSome=true∧bO c F i ([]) s s∧fD X K ops base c F l (i+1) (a.put d ((KQ (a.eval c0) (a.eval x) (a.eval y)).getD undef)) s Φ:=by
 rw[gB rfl,KS,show bZ a.eval s.look (.pick c0 x y)=[] from rfl]
theorem PG {x j}:fD X K ops base c F (⟨d,.extract x j,ty,pos,af,none⟩::l) i a s Φ↔(cx (a.eval x) j).isSome=true∧bO c F i ([]) s s∧fD X K ops base c F l (i+1) (a.put d ((cx (a.eval x) j).getD undef)) s Φ:=by
 rw[gB rfl,zJ,show bZ a.eval s.look (.extract x j)=[] from rfl]
theorem jy {t p x}:fD X K ops base c F (⟨d,.store t p x,ty,pos,af,none⟩::l) i a s Φ↔(pV X s t (a.eval p) (a.eval x)).isSome=true∧bO c F i [] s ((pV X s t (a.eval p) (a.eval x)).getD s)∧fD X K ops base c F l (i+1) (a.put d undef) ((pV X s t (a.eval p) (a.eval x)).getD s) Φ:=by
 rw[d_store,← HI (P:=fun s'=>bO c F i [] s s'∧fD X K ops base c F l (i+1) (a.put d undef) s' Φ)]
 cases hp:a.eval p with
 | pointer ad =>
  cases ad with
  | none=>simp[pV]
  | some ad=>simp[pV]
 | _=>simp[pV]
theorem GQ {t m k x}:fD X K ops base c F (⟨d,.mapUpdate t m k x,ty,pos,af,none⟩::l) i a s Φ↔(gM X s t (a.eval m) (a.eval k) (a.eval x)).isSome=true∧bO c F i [] s ((gM X s t (a.eval m) (a.eval k) (a.eval x)).getD s)∧fD X K ops base c F l (i+1) (a.put d undef) ((gM X s t (a.eval m) (a.eval k) (a.eval x)).getD s) Φ:=by
 rw[UM,← HI (P:=fun s'=>bO c F i [] s s'∧fD X K ops base c F l (i+1) (a.put d undef) s' Φ)]
theorem XV {e}:fD X K ops base c F (⟨d,.alloc e,ty,pos,af,none⟩::l) i a s Φ↔(cS X (base+2*i) a.eval (.alloc e)).isSome=true∧bO c F i [] s (s.put (base+2*i) (dk (cS X (base+2*i) a.eval (.alloc e))))∧fD X K ops base c F l (i+1) (a.put d (alV (cS X (base+2*i) a.eval (.alloc e)))) (s.put (base+2*i) (dk (cS X (base+2*i) a.eval (.alloc e)))) Φ:=sy.trans pF
theorem t_bs {t n ps}:fD X K ops base c F (⟨d,.buildSlice t n ps,ty,pos,af,none⟩::l) i a s Φ↔(QL X (base+2*i) t n (ps.toList.map fun(i,x)=>(i,a.eval x))).isSome=true∧bO c F i [] s (s.put (base+2*i) (dk (QL X (base+2*i) t n (ps.toList.map fun(i,x)=>(i,a.eval x)))))∧fD X K ops base c F l (i+1) (a.put d (alV (QL X (base+2*i) t n (ps.toList.map fun(i,x)=>(i,a.eval x))))) (s.put (base+2*i) (dk (QL X (base+2*i) t n (ps.toList.map fun(i,x)=>(i,a.eval x))))) Φ:=d_bs.trans pF
theorem t_mks {t n c'}:fD X K ops base c F (⟨d,.makeSlice t n c',ty,pos,af,none⟩::l) i a s Φ↔(al X (base+2*i) t (a.eval n) (a.eval c')).isSome=true∧bO c F i [] s (s.put (base+2*i) (dk (al X (base+2*i) t (a.eval n) (a.eval c'))))∧fD X K ops base c F l (i+1) (a.put d (alV (al X (base+2*i) t (a.eval n) (a.eval c')))) (s.put (base+2*i) (dk (al X (base+2*i) t (a.eval n) (a.eval c')))) Φ:=d_mks.trans pF
theorem t_mm {t r}:fD X K ops base c F (⟨d,.makeMap t r,ty,pos,af,none⟩::l) i a s Φ↔(xo X (base+2*i) t (r.map a.eval)).isSome=true∧bO c F i [] s (s.put (base+2*i) (dk (xo X (base+2*i) t (r.map a.eval))))∧fD X K ops base c F l (i+1) (a.put d (alV (xo X (base+2*i) t (r.map a.eval)))) (s.put (base+2*i) (dk (xo X (base+2*i) t (r.map a.eval)))) Φ:=d_mm.trans pF
end
end Go.Dust
