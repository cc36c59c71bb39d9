/- VerifySound walked in D, function by function, and its plain law (Ty Ko Pa). -/
import Derived.Test.YtaoiejcaopgjcaaGreatProg
import Derived.Test.YtaoiejcaopgjcaaGreatO
import Derived.KernelRfl
set_option linter.unusedVariables false
set_option linter.unusedSimpArgs false
namespace Go.Dust
open Go.Proofs
noncomputable abbrev X:Env:=envF Tryz.prog
set_option maxRecDepth 100000
theorem fn_3:X.fn 3=some Tryz.f3:=by kernel_rfl
theorem ld_27 (H:aY) (a:Addr):loadT X H 27 a=(match aS H a 7 with | some l=>some (.agg l.toArray) | none=>none):=by kernel_rfl
theorem tx (H:aY) (a:Addr):binop X H .eql 28 (.pointer (some a)) (.pointer none)=some (.bool false):=by kernel_rfl
theorem tu (H:aY):binop X H .eql 28 (.pointer none) (.pointer none)=some (.bool true):=by kernel_rfl
theorem sB (b off:Nat):aO X 39 (.pointer (some ⟨b,off,none⟩)) 0=some (.pointer (some ⟨b,off,none⟩)):=by kernel_rfl
theorem sE (H:aY) (a:Addr):loadT X H 34 a=aI H a:=by kernel_rfl
theorem HJ (b off:Nat):aO X 39 (.pointer (some ⟨b,off,none⟩)) 1=some (.pointer (some ⟨b,off+1,none⟩)):=by kernel_rfl
theorem OI (H:aY) (a:Addr):loadT X H 35 a=aI H a:=by kernel_rfl
theorem DW (H:aY) (a:Option Addr) (n c:Nat):fA X H 30 (.slice a n c)=some (.int .i64 n):=by kernel_rfl
theorem vZ (k:IntKind) (x:Int):iM X 5 3 (.int k x)=some (.int .i64 (IntKind.wrap .i64 x)):=by kernel_rfl
theorem kA (nm:Nat) (ρ:Operand→Value):cS X nm ρ (.alloc 44)=some (.pointer (some ⟨nm,0,none⟩),fun v=>.cells (PT.ofList [.int .i64 0,.int .i64 0,.int .i64 0]) [] 3 44 false false v):=by kernel_rfl
theorem kI (s:St) (a:Addr) (v:Value):storeT X s 44 a v=if v.cells.size=3 then bJ s a v.cells.toList else none:=by kernel_rfl
theorem eC (b off:Nat):aO X 44 (.pointer (some ⟨b,off,none⟩)) 0=some (.pointer (some ⟨b,off,none⟩)):=by kernel_rfl
theorem bF (H:aY) (a:Addr):loadT X H 3 a=aI H a:=by kernel_rfl
theorem rY  (x0:Int) (x1:Int) (x2:Int):fJ X 51 [(0,Value.int .i64 x0),(1,Value.int .i64 x1),(2,Value.int .i64 x2)]=some (.agg #[.int .i64 x0,.int .i64 x1,.int .i64 x2]):=by kernel_rfl
theorem dm (nm:Nat) (ρ:Operand→Value):cS X nm ρ (.alloc 51)=some (.pointer (some ⟨nm,0,none⟩),fun v=>.cells (PT.ofList [.int .i64 0,.int .i64 0,.int .i64 0]) [] 3 51 false false v):=by kernel_rfl
theorem PC (s:St) (a:Addr) (v:Value):storeT X s 51 a v=if v.cells.size=3 then bJ s a v.cells.toList else none:=by kernel_rfl
theorem ga (b off:Nat):aO X 51 (.pointer (some ⟨b,off,none⟩)) 0=some (.pointer (some ⟨b,off,none⟩)):=by kernel_rfl
theorem rV (s:St) (a:Addr) (v:Value):storeT X s 3 a v=if v.cells.size=1 then bJ s a v.cells.toList else none:=by kernel_rfl
theorem zN (H:aY) (a:Addr):loadT X H 51 a=(match aS H a 3 with | some l=>some (.agg l.toArray) | none=>none):=by kernel_rfl
theorem NL (nm:Nat) (x0_0:Int) (x0_1:Int) (x0_2:Int):QL X nm 30 1 [(0,Value.agg #[.int .i64 x0_0,.int .i64 x0_1,.int .i64 x0_2])]=some (.slice (some ⟨nm,0,none⟩) 1 1,fun v=>.cells (PT.ofList [.int .i64 x0_0,.int .i64 x0_1,.int .i64 x0_2]) [] 3 51 false false v):=by kernel_rfl
theorem sC (b off:Nat):aO X 39 (.pointer (some ⟨b,off,none⟩)) 2=some (.pointer (some ⟨b,off+2,none⟩)):=by kernel_rfl
theorem FN (H:aY) (a:Addr):loadT X H 36 a=aI H a:=by kernel_rfl
theorem xU (b off:Nat):aO X 39 (.pointer (some ⟨b,off,none⟩)) 3=some (.pointer (some ⟨b,off+3,none⟩)):=by kernel_rfl
theorem gq (H:aY) (a:Addr):loadT X H 37 a=aI H a:=by kernel_rfl
theorem ye (H:aY) (a:Addr):binop X H .neq 68 (.pointer (some a)) (.pointer none)=some (.bool true):=by kernel_rfl
theorem xx (H:aY):binop X H .neq 68 (.pointer none) (.pointer none)=some (.bool false):=by kernel_rfl
theorem cO (H:aY) (a:Option Addr) (n c:Nat):fA X H 62 (.slice a n c)=some (.int .i64 n):=by kernel_rfl
theorem dO (b off n c:Nat) (k:IntKind) (i:Int):bQ X 62 (.slice (some ⟨b,off,none⟩) n c) (.int k i)=if 0≤i∧i<(n:Int) then some (.pointer (some ((⟨b,off,none⟩:Addr).add (i.toNat*1)))) else none:=by kernel_rfl
theorem fX (b off:Nat):aO X 44 (.pointer (some ⟨b,off,none⟩)) 1=some (.pointer (some ⟨b,off+1,none⟩)):=by kernel_rfl
theorem gg (b off:Nat):aO X 51 (.pointer (some ⟨b,off,none⟩)) 2=some (.pointer (some ⟨b,off+2,none⟩)):=by kernel_rfl
theorem gV (H:aY) (a:Addr):loadT X H 44 a=(match aS H a 3 with | some l=>some (.agg l.toArray) | none=>none):=by kernel_rfl
theorem FK (b off n c:Nat) (k:IntKind) (i:Int):bQ X 30 (.slice (some ⟨b,off,none⟩) n c) (.int k i)=if 0≤i∧i<(n:Int) then some (.pointer (some ((⟨b,off,none⟩:Addr).add (i.toNat*3)))) else none:=by kernel_rfl
theorem ZA (H:aY) (x_0:Int) (x_1:Int) (x_2:Int) (y_0:Int) (y_1:Int) (y_2:Int):mW X H 10 51 (.agg #[.int .i64 x_0,.int .i64 x_1,.int .i64 x_2]) (.agg #[.int .i64 y_0,.int .i64 y_1,.int .i64 y_2])=(match some (x_0==y_0) with | some true=>(match some (x_1==y_1) with | some true=>(match some (x_2==y_2) with | some true=>some true | some false=>some false | none=>none:Option Bool) | some false=>some false | none=>none:Option Bool) | some false=>some false | none=>none:Option Bool):=by kernel_rfl
theorem fn_8:X.fn 8=some Tryz.f8:=by kernel_rfl
theorem fp (b off:Nat):aO X 27 (.pointer (some ⟨b,off,none⟩)) 0=some (.pointer (some ⟨b,off,none⟩)):=by kernel_rfl
theorem ld_5 (H:aY) (a:Addr):loadT X H 5 a=aI H a:=by kernel_rfl
theorem fq (b off:Nat):aO X 27 (.pointer (some ⟨b,off,none⟩)) 1=some (.pointer (some ⟨b,off+1,none⟩)):=by kernel_rfl
theorem tz (H:aY) (a:Addr):binop X H .eql 34 (.pointer (some a)) (.pointer none)=some (.bool false):=by kernel_rfl
theorem tv (H:aY):binop X H .eql 34 (.pointer none) (.pointer none)=some (.bool true):=by kernel_rfl
theorem ub (H:aY) (a:Addr):binop X H .eql 35 (.pointer (some a)) (.pointer none)=some (.bool false):=by kernel_rfl
theorem tw (H:aY):binop X H .eql 35 (.pointer none) (.pointer none)=some (.bool true):=by kernel_rfl
theorem NJ  (x0:Option Addr) (x1:Option Addr):fJ X 39 [(0,Value.pointer x0),(1,Value.pointer x1)]=some (.agg #[.pointer x0,.pointer x1,.pointer none,.pointer none]):=by kernel_rfl
theorem st_36 (s:St) (a:Addr) (v:Value):storeT X s 36 a v=if v.cells.size=1 then bJ s a v.cells.toList else none:=by kernel_rfl
theorem st_37 (s:St) (a:Addr) (v:Value):storeT X s 37 a v=if v.cells.size=1 then bJ s a v.cells.toList else none:=by kernel_rfl
theorem ft (b off:Nat):aO X 27 (.pointer (some ⟨b,off,none⟩)) 2=some (.pointer (some ⟨b,off+2,none⟩)):=by kernel_rfl
theorem ld_22 (H:aY) (a:Addr):loadT X H 22 a=aI H a:=by kernel_rfl
theorem wh (H:aY) (a:Option Addr) (n c:Nat):fA X H 22 (.slice a n c)=some (.int .i64 n):=by kernel_rfl
theorem ix_22 (b off n c:Nat) (k:IntKind) (i:Int):bQ X 22 (.slice (some ⟨b,off,none⟩) n c) (.int k i)=if 0≤i∧i<(n:Int) then some (.pointer (some ((⟨b,off,none⟩:Addr).add (i.toNat*4)))) else none:=by kernel_rfl
theorem vu (H:aY) (a:Addr):loadT X H 105 a=(match aS H a 4 with | some l=>some (.agg l.toArray) | none=>none):=by kernel_rfl
theorem QY (b off:Nat) (k:IntKind) (i:Int):bQ X 105 (.pointer (some ⟨b,off,none⟩)) (.int k i)=if 0≤i∧i<((4:Nat):Int) then some (.pointer (some ((⟨b,off,none⟩:Addr).add (i.toNat*1)))) else none:=by kernel_rfl
theorem fu (b off:Nat):aO X 27 (.pointer (some ⟨b,off,none⟩)) 3=some (.pointer (some ⟨b,off+3,none⟩)):=by kernel_rfl
theorem ld_23 (H:aY) (a:Addr):loadT X H 23 a=aI H a:=by kernel_rfl
theorem wi (H:aY) (a:Option Addr) (n c:Nat):fA X H 23 (.slice a n c)=some (.int .i64 n):=by kernel_rfl
theorem ix_23 (b off n c:Nat) (k:IntKind) (i:Int):bQ X 23 (.slice (some ⟨b,off,none⟩) n c) (.int k i)=if 0≤i∧i<(n:Int) then some (.pointer (some ((⟨b,off,none⟩:Addr).add (i.toNat*1)))) else none:=by kernel_rfl
theorem fw (b off:Nat):aO X 27 (.pointer (some ⟨b,off,none⟩)) 4=some (.pointer (some ⟨b,off+4,none⟩)):=by kernel_rfl
theorem ld_24 (H:aY) (a:Addr):loadT X H 24 a=aI H a:=by kernel_rfl
theorem wj (H:aY) (a:Option Addr) (n c:Nat):fA X H 24 (.slice a n c)=some (.int .i64 n):=by kernel_rfl
theorem ix_24 (b off n c:Nat) (k:IntKind) (i:Int):bQ X 24 (.slice (some ⟨b,off,none⟩) n c) (.int k i)=if 0≤i∧i<(n:Int) then some (.pointer (some ((⟨b,off,none⟩:Addr).add (i.toNat*3)))) else none:=by kernel_rfl
theorem vv (H:aY) (a:Addr):loadT X H 106 a=(match aS H a 3 with | some l=>some (.agg l.toArray) | none=>none):=by kernel_rfl
theorem ri (nm:Nat) (ρ:Operand→Value):cS X nm ρ (.alloc 106)=some (.pointer (some ⟨nm,0,none⟩),fun v=>.cells (PT.ofList [.int .u8 0,.int .u8 0,.int .u8 0]) [] 3 106 false false v):=by kernel_rfl
theorem zx (s:St) (a:Addr) (v:Value):storeT X s 106 a v=if v.cells.size=3 then bJ s a v.cells.toList else none:=by kernel_rfl
theorem vk (b off:Nat) (k:IntKind) (i:Int):bQ X 106 (.pointer (some ⟨b,off,none⟩)) (.int k i)=if 0≤i∧i<((3:Nat):Int) then some (.pointer (some ((⟨b,off,none⟩:Addr).add (i.toNat*1)))) else none:=by kernel_rfl
theorem fx (b off:Nat):aO X 27 (.pointer (some ⟨b,off,none⟩)) 5=some (.pointer (some ⟨b,off+5,none⟩)):=by kernel_rfl
theorem ld_25 (H:aY) (a:Addr):loadT X H 25 a=aI H a:=by kernel_rfl
theorem wk (H:aY) (a:Option Addr) (n c:Nat):fA X H 25 (.slice a n c)=some (.int .i64 n):=by kernel_rfl
theorem ix_25 (b off n c:Nat) (k:IntKind) (i:Int):bQ X 25 (.slice (some ⟨b,off,none⟩) n c) (.int k i)=if 0≤i∧i<(n:Int) then some (.pointer (some ((⟨b,off,none⟩:Addr).add (i.toNat*2)))) else none:=by kernel_rfl
theorem vl (b off:Nat) (k:IntKind) (i:Int):bQ X 109 (.pointer (some ⟨b,off,none⟩)) (.int k i)=if 0≤i∧i<((2:Nat):Int) then some (.pointer (some ((⟨b,off,none⟩:Addr).add (i.toNat*1)))) else none:=by kernel_rfl
theorem fy (b off:Nat):aO X 27 (.pointer (some ⟨b,off,none⟩)) 6=some (.pointer (some ⟨b,off+6,none⟩)):=by kernel_rfl
theorem fn_9:X.fn 9=some Tryz.f9:=by kernel_rfl
theorem PZ (nm:Nat) (ρ:Operand→Value):cS X nm ρ (.alloc 110)=some (.pointer (some ⟨nm,0,none⟩),fun v=>.cells (PT.ofList [.slice none 0 0]) [] 1 110 false false v):=by kernel_rfl
theorem wG (H:aY) (a:Addr):loadT X H 110 a=aI H a:=by kernel_rfl
theorem fn_10:X.fn 10=some Tryz.f10:=by kernel_rfl
theorem yB (H:aY) (a:Option Addr) (n c:Nat):fA X H 115 (.slice a n c)=some (.int .i64 n):=by kernel_rfl
theorem DT (b off n c:Nat) (k:IntKind) (i:Int):bQ X 115 (.slice (some ⟨b,off,none⟩) n c) (.int k i)=if 0≤i∧i<(n:Int) then some (.pointer (some ((⟨b,off,none⟩:Addr).add (i.toNat*3)))) else none:=by kernel_rfl
theorem iH (H:aY) (a:Addr):loadT X H 118 a=(match aS H a 3 with | some l=>some (.agg l.toArray) | none=>none):=by kernel_rfl
theorem mY (nm:Nat) (ρ:Operand→Value):cS X nm ρ (.alloc 118)=some (.pointer (some ⟨nm,0,none⟩),fun v=>.cells (PT.ofList [.int .i64 0,.int .i64 0,.int .i64 0]) [] 3 118 false false v):=by kernel_rfl
theorem nO (s:St) (a:Addr) (v:Value):storeT X s 118 a v=if v.cells.size=3 then bJ s a v.cells.toList else none:=by kernel_rfl
theorem fn_11:X.fn 11=some Tryz.f11:=by kernel_rfl
theorem IC  (x0:Option Addr) (x1:Option Addr):fJ X 123 [(0,Value.pointer x0),(1,Value.pointer x1)]=some (.agg #[.pointer x0,.pointer x1,.map none,.slice none 0 0]):=by kernel_rfl
theorem BM (b off:Nat):aO X 123 (.pointer (some ⟨b,off,none⟩)) 2=some (.pointer (some ⟨b,off+2,none⟩)):=by kernel_rfl
theorem SV (s:St) (a:Addr) (v:Value):storeT X s 121 a v=if v.cells.size=1 then bJ s a v.cells.toList else none:=by kernel_rfl
theorem wH (H:aY) (a:Addr):loadT X H 121 a=aI H a:=by kernel_rfl
theorem BN (b off:Nat):aO X 123 (.pointer (some ⟨b,off,none⟩)) 3=some (.pointer (some ⟨b,off+3,none⟩)):=by kernel_rfl
theorem fn_12:X.fn 12=some Tryz.f12:=by kernel_rfl
theorem eK (b off:Nat):aO X 131 (.pointer (some ⟨b,off,none⟩)) 1=some (.pointer (some ⟨b,off+1,none⟩)):=by kernel_rfl
theorem jA (H:aY) (a:Addr):loadT X H 128 a=aI H a:=by kernel_rfl
theorem oO (H:aY) (a:Option Addr) (n c:Nat):fA X H 128 (.slice a n c)=some (.int .i64 n):=by kernel_rfl
theorem jX (b off n c:Nat) (k:IntKind) (i:Int):bQ X 128 (.slice (some ⟨b,off,none⟩) n c) (.int k i)=if 0≤i∧i<(n:Int) then some (.pointer (some ((⟨b,off,none⟩:Addr).add (i.toNat*8)))) else none:=by kernel_rfl
theorem lS (b off:Nat):aO X 133 (.pointer (some ⟨b,off,none⟩)) 0=some (.pointer (some ⟨b,off,none⟩)):=by kernel_rfl
theorem fn_13:X.fn 13=some Tryz.f13:=by kernel_rfl
theorem QE :fJ X 44 []=some (.agg #[.int .i64 0,.int .i64 0,.int .i64 0]):=by kernel_rfl
theorem cE (b off:Nat):aO X 138 (.pointer (some ⟨b,off,none⟩)) 1=some (.pointer (some ⟨b,off+1,none⟩)):=by kernel_rfl
theorem cY (H:aY) (a:Addr):loadT X H 62 a=aI H a:=by kernel_rfl
theorem fn_14:X.fn 14=some Tryz.f14:=by kernel_rfl
theorem jQ (b off:Nat):aO X 138 (.pointer (some ⟨b,off,none⟩)) 2=some (.pointer (some ⟨b,off+2,none⟩)):=by kernel_rfl
theorem qC (H:aY) (a:Addr):loadT X H 68 a=aI H a:=by kernel_rfl
theorem NK  (x0:Int) (x1:Int):fJ X 44 [(0,Value.int .i64 x0),(1,Value.int .i64 x1)]=some (.agg #[.int .i64 x0,.int .i64 x1,.int .i64 0]):=by kernel_rfl
theorem fn_16:X.fn 16=some Tryz.f16:=by kernel_rfl
theorem fn_17:X.fn 17=some Tryz.f17:=by kernel_rfl
theorem iO (b off:Nat):aO X 138 (.pointer (some ⟨b,off,none⟩)) 0=some (.pointer (some ⟨b,off,none⟩)):=by kernel_rfl
theorem nD (H:aY) (a:Addr):loadT X H 135 a=aI H a:=by kernel_rfl
theorem mB (H:aY) (a:Option Addr) (n c:Nat):fA X H 135 (.slice a n c)=some (.int .i64 n):=by kernel_rfl
theorem fn_18:X.fn 18=some Tryz.f18:=by kernel_rfl
theorem fn_19:X.fn 19=some Tryz.f19:=by kernel_rfl
theorem yg (H:aY) (x_0:Int) (x_1:Int) (x_2:Int) (y_0:Int) (y_1:Int) (y_2:Int):binop X H .neq 51 (.agg #[.int .i64 x_0,.int .i64 x_1,.int .i64 x_2]) (.agg #[.int .i64 y_0,.int .i64 y_1,.int .i64 y_2])=some (.bool !(x_0==y_0&&x_1==y_1&&x_2==y_2)):=by
 rw[show ∀ u v,binop X H .neq 51 (.agg u) (.agg v)=(match mW X H 10 51 (.agg u) (.agg v) with | some b=>some (.bool !b) | none=>none) from fun _ _=>rfl,ZA]
 cases (x_0==y_0) <;> cases (x_1==y_1) <;> cases (x_2==y_2) <;> rfl
theorem fn_20:X.fn 20=some Tryz.f20:=by kernel_rfl
theorem gf (b off:Nat):aO X 51 (.pointer (some ⟨b,off,none⟩)) 1=some (.pointer (some ⟨b,off+1,none⟩)):=by kernel_rfl
theorem iN (b off:Nat):aO X 118 (.pointer (some ⟨b,off,none⟩)) 0=some (.pointer (some ⟨b,off,none⟩)):=by kernel_rfl
theorem VA (b off:Nat):aO X 133 (.pointer (some ⟨b,off,none⟩)) 3=some (.pointer (some ⟨b,off+5,none⟩)):=by kernel_rfl
theorem RF (H:aY) (a:Addr):loadT X H 133 a=(match aS H a 8 with | some l=>some (.agg l.toArray) | none=>none):=by kernel_rfl
theorem rr (nm:Nat) (ρ:Operand→Value):cS X nm ρ (.alloc 133)=some (.pointer (some ⟨nm,0,none⟩),fun v=>.cells (PT.ofList [.int .i64 0,.int .i64 0,.int .i64 0,.int .i64 0,.int .i64 0,.slice none 0 0,.slice none 0 0,.bool false]) [] 8 133 false false v):=by kernel_rfl
theorem aA2 (s:St) (a:Addr) (v:Value):storeT X s 133 a v=if v.cells.size=8 then bJ s a v.cells.toList else none:=by kernel_rfl
theorem tF (b off:Nat):aO X 133 (.pointer (some ⟨b,off,none⟩)) 2=some (.pointer (some ⟨b,off+2,none⟩)):=by kernel_rfl
theorem xq (nm:Nat):xo X nm 136 none=some (.map (some nm),fun v=>.map [] 0 v):=by kernel_rfl
theorem xb (H:aY) (r:Nat) (x:Int) (ok:Bool):kW X H 136 (.map (some r)) (.int .i64 x) ok=(match mapOf H r with
  | some (es,_)=>(match kH (.int .i64 x) es 0 with
   | some (some (_,v))=>some (if ok then .tuple #[v,.bool true] else v)
   | some none=>some (if ok then .tuple #[.int .i64 0,.bool false] else .int .i64 0)
   | none=>none)
  | none=>none):=by kernel_rfl
theorem ar (s:St) (r:Nat) (x:Int) (v:Value):gM X s 136 (.map (some r)) (.int .i64 x) v=(match s.heap.get r with
  | some (.map es c _)=>(match kH (.int .i64 x) es 0 with
   | some (some (i,_))=>some (s.put r fun dF=>.map (es.modify i fun e=>⟨.int .i64 x,v,e.born⟩) c dF)
   | some none=>some (s.put r fun dF=>.map (es++[⟨.int .i64 x,v,c⟩]) (c+1) dF)
   | none=>none)
  | _=>none):=by kernel_rfl
theorem BG (nm:Nat):QL X nm 62 0 []=some (.slice (some ⟨nm,0,none⟩) 0 0,fun v=>.cells (PT.ofList []) [] 0 3 false false v):=by kernel_rfl
theorem eG (nm:Nat) (x0:Int):QL X nm 62 1 [(0,Value.int .i64 x0)]=some (.slice (some ⟨nm,0,none⟩) 1 1,fun v=>.cells (PT.ofList [.int .i64 x0]) [] 1 3 false false v):=by kernel_rfl
theorem oX (b off:Nat):aO X 161 (.pointer (some ⟨b,off,none⟩)) 2=some (.pointer (some ⟨b,off+2,none⟩)):=by kernel_rfl
theorem lQ (b off:Nat):aO X 118 (.pointer (some ⟨b,off,none⟩)) 2=some (.pointer (some ⟨b,off+2,none⟩)):=by kernel_rfl
theorem GL (s:St) (a:Addr) (v:Value):storeT X s 62 a v=if v.cells.size=1 then bJ s a v.cells.toList else none:=by kernel_rfl
theorem fn_38:X.fn 38=some Tryz.f38:=by kernel_rfl
theorem fn_39:X.fn 39=some Tryz.f39:=by kernel_rfl
theorem fn_41:X.fn 41=some Tryz.f41:=by kernel_rfl
theorem fn_43:X.fn 43=some Tryz.f43:=by kernel_rfl
theorem fn_44:X.fn 44=some Tryz.f44:=by kernel_rfl
theorem rC (b off:Nat):aO X 138 (.pointer (some ⟨b,off,none⟩)) 4=some (.pointer (some ⟨b,off+4,none⟩)):=by kernel_rfl
theorem AL (H:aY) (a:Addr):loadT X H 136 a=aI H a:=by kernel_rfl
theorem tG (b off:Nat):aO X 138 (.pointer (some ⟨b,off,none⟩)) 3=some (.pointer (some ⟨b,off+3,none⟩)):=by kernel_rfl
theorem YZ (H:aY) (x_0:Int) (x_1:Int) (x_2:Int) (y_0:Int) (y_1:Int) (y_2:Int):mW X H 10 44 (.agg #[.int .i64 x_0,.int .i64 x_1,.int .i64 x_2]) (.agg #[.int .i64 y_0,.int .i64 y_1,.int .i64 y_2])=(match some (x_0==y_0) with | some true=>(match some (x_1==y_1) with | some true=>(match some (x_2==y_2) with | some true=>some true | some false=>some false | none=>none:Option Bool) | some false=>some false | none=>none:Option Bool) | some false=>some false | none=>none:Option Bool):=by kernel_rfl
theorem yf (H:aY) (x_0:Int) (x_1:Int) (x_2:Int) (y_0:Int) (y_1:Int) (y_2:Int):binop X H .neq 44 (.agg #[.int .i64 x_0,.int .i64 x_1,.int .i64 x_2]) (.agg #[.int .i64 y_0,.int .i64 y_1,.int .i64 y_2])=some (.bool !(x_0==y_0&&x_1==y_1&&x_2==y_2)):=by
 rw[show ∀ u v,binop X H .neq 44 (.agg u) (.agg v)=(match mW X H 10 44 (.agg u) (.agg v) with | some b=>some (.bool !b) | none=>none) from fun _ _=>rfl,YZ]
 cases (x_0==y_0) <;> cases (x_1==y_1) <;> cases (x_2==y_2) <;> rfl
theorem UZ (b off:Nat):aO X 133 (.pointer (some ⟨b,off,none⟩)) 1=some (.pointer (some ⟨b,off+1,none⟩)):=by kernel_rfl
theorem fn_49:X.fn 49=some Tryz.f49:=by kernel_rfl
theorem fn_50:X.fn 50=some Tryz.f50:=by kernel_rfl
theorem mk_135 {nm:Nat} {n m:Int} (h1:0≤n) (h2:n≤m) (h3:m<2 ^ 40) (h4:16*m≤2 ^ 48):al X nm 135 (.int .i64 n) (.int .i64 m)=some (.slice (some ⟨nm,0,none⟩) n.toNat m.toNat,fun v=>.cells .nil [.int .i64 0,.int .i64 0] (m.toNat*2) 198 false false v):=RZ (z:=.agg #[.int .i64 0,.int .i64 0]) (by kernel_rfl) (by kernel_rfl) rfl h1 h2 h3 h4
theorem FR {nm:Nat} {n m:Int} (h1:0≤n) (h2:n≤m) (h3:m<2 ^ 40) (h4:8*m≤2 ^ 48):al X nm 62 (.int .i64 n) (.int .i64 m)=some (.slice (some ⟨nm,0,none⟩) n.toNat m.toNat,fun v=>.cells .nil [.int .i64 0] (m.toNat*1) 3 false false v):=RZ (z:=.int .i64 0) (by kernel_rfl) (by kernel_rfl) rfl h1 h2 h3 h4
theorem vV  (x0:Option Addr) (x0n x0c:Nat) (x1:Option Addr) (x1n x1c:Nat) (x4:Option Nat) (x5:Option Nat):fJ X 138 [(0,Value.slice x0 x0n x0c),(1,Value.slice x1 x1n x1c),(4,Value.map x4),(5,Value.map x5)]=some (.agg #[.slice x0 x0n x0c,.slice x1 x1n x1c,.pointer none,.pointer none,.map x4,.map x5,.int .i64 0]):=by kernel_rfl
theorem st_68 (s:St) (a:Addr) (v:Value):storeT X s 68 a v=if v.cells.size=1 then bJ s a v.cells.toList else none:=by kernel_rfl
theorem fn_51:X.fn 51=some Tryz.f51:=by kernel_rfl
theorem vW  (x0:Int) (x1:Option Addr) (x1n x1c:Nat) (x2:Option Addr) (x2n x2c:Nat) (x3:Option Addr) (x3n x3c:Nat):fJ X 177 [(0,Value.int .i64 x0),(1,Value.slice x1 x1n x1c),(2,Value.slice x2 x2n x2c),(3,Value.slice x3 x3n x3c)]=some (.agg #[.int .i64 x0,.slice x1 x1n x1c,.slice x2 x2n x2c,.slice x3 x3n x3c]):=by kernel_rfl
theorem fn_52:X.fn 52=some Tryz.f52:=by kernel_rfl
theorem mk_127 {nm:Nat} {n m:Int} (h1:0≤n) (h2:n≤m) (h3:m<2 ^ 40) (h4:16*m≤2 ^ 48):al X nm 127 (.int .i64 n) (.int .i64 m)=some (.slice (some ⟨nm,0,none⟩) n.toNat m.toNat,fun v=>.cells .nil [.int .i64 0,.int .i64 0] (m.toNat*2) 210 false false v):=RZ (z:=.agg #[.int .i64 0,.int .i64 0]) (by kernel_rfl) (by kernel_rfl) rfl h1 h2 h3 h4
theorem BC  (x0:Option Addr) (x0n x0c:Nat):fJ X 131 [(0,Value.slice x0 x0n x0c)]=some (.agg #[.slice x0 x0n x0c,.slice none 0 0,.slice none 0 0,.int .i64 0]):=by kernel_rfl
theorem fn_53:X.fn 53=some Tryz.f53:=by kernel_rfl
theorem TP  (x1:Option Addr) (x1n x1c:Nat):fJ X 161 [(1,Value.slice x1 x1n x1c)]=some (.agg #[.slice none 0 0,.slice x1 x1n x1c,.slice none 0 0]):=by kernel_rfl
theorem lU (b off:Nat):aO X 161 (.pointer (some ⟨b,off,none⟩)) 0=some (.pointer (some ⟨b,off,none⟩)):=by kernel_rfl
theorem sV (H:aY) (a:Addr):loadT X H 159 a=aI H a:=by kernel_rfl
theorem IK (nm:Nat) (x0:Option Addr) (x0n x0c:Nat):QL X nm 159 1 [(0,Value.slice x0 x0n x0c)]=some (.slice (some ⟨nm,0,none⟩) 1 1,fun v=>.cells (PT.ofList [.slice x0 x0n x0c]) [] 1 62 false false v):=by kernel_rfl
theorem aA3 (s:St) (a:Addr) (v:Value):storeT X s 159 a v=if v.cells.size=1 then bJ s a v.cells.toList else none:=by kernel_rfl
theorem fn_54:X.fn 54=some Tryz.f54:=by kernel_rfl
theorem fn_55:X.fn 55=some Tryz.f55:=by kernel_rfl
theorem kG (b off:Nat):aO X 44 (.pointer (some ⟨b,off,none⟩)) 2=some (.pointer (some ⟨b,off+2,none⟩)):=by kernel_rfl
theorem fn_56:X.fn 56=some Tryz.f56:=by kernel_rfl
theorem fn_57:X.fn 57=some Tryz.f57:=by kernel_rfl
theorem fn_58:X.fn 58=some Tryz.f58:=by kernel_rfl
theorem fn_59:X.fn 59=some Tryz.f59:=by kernel_rfl
theorem fn_60:X.fn 60=some Tryz.f60:=by kernel_rfl
theorem fn_61:X.fn 61=some Tryz.f61:=by kernel_rfl
theorem fn_62:X.fn 62=some Tryz.f62:=by kernel_rfl
theorem fn_63:X.fn 63=some Tryz.f63:=by kernel_rfl
theorem fn_64:X.fn 64=some Tryz.f64:=by kernel_rfl
theorem fn_65:X.fn 65=some Tryz.f65:=by kernel_rfl
theorem IH (nm:Nat) (x0_0:Int) (x0_1:Int) (x0_2:Int):QL X nm 110 1 [(0,Value.agg #[.int .i64 x0_0,.int .i64 x0_1,.int .i64 x0_2])]=some (.slice (some ⟨nm,0,none⟩) 1 1,fun v=>.cells (PT.ofList [.int .i64 x0_0,.int .i64 x0_1,.int .i64 x0_2]) [] 3 51 false false v):=by kernel_rfl
theorem zy (s:St) (a:Addr) (v:Value):storeT X s 110 a v=if v.cells.size=1 then bJ s a v.cells.toList else none:=by kernel_rfl
theorem fn_66:X.fn 66=some Tryz.f66:=by kernel_rfl
theorem fn_67:X.fn 67=some Tryz.f67:=by kernel_rfl
theorem tH (b off:Nat):aO X 177 (.pointer (some ⟨b,off,none⟩)) 0=some (.pointer (some ⟨b,off,none⟩)):=by kernel_rfl
theorem fn_68:X.fn 68=some Tryz.f68:=by kernel_rfl
theorem rj (nm:Nat) (ρ:Operand→Value):cS X nm ρ (.alloc 115)=some (.pointer (some ⟨nm,0,none⟩),fun v=>.cells (PT.ofList [.slice none 0 0]) [] 1 115 false false v):=by kernel_rfl
theorem vw (H:aY) (a:Addr):loadT X H 115 a=aI H a:=by kernel_rfl
theorem II (nm:Nat) (x0_0:Int) (x0_1:Int) (x0_2:Int):QL X nm 115 1 [(0,Value.agg #[.int .i64 x0_0,.int .i64 x0_1,.int .i64 x0_2])]=some (.slice (some ⟨nm,0,none⟩) 1 1,fun v=>.cells (PT.ofList [.int .i64 x0_0,.int .i64 x0_1,.int .i64 x0_2]) [] 3 118 false false v):=by kernel_rfl
theorem aA0 (s:St) (a:Addr) (v:Value):storeT X s 115 a v=if v.cells.size=1 then bJ s a v.cells.toList else none:=by kernel_rfl
theorem fn_69:X.fn 69=some Tryz.f69:=by kernel_rfl
theorem fn_70:X.fn 70=some Tryz.f70:=by kernel_rfl
theorem xp (nm:Nat):xo X nm 121 none=some (.map (some nm),fun v=>.map [] 0 v):=by kernel_rfl
theorem rm (nm:Nat) (ρ:Operand→Value):cS X nm ρ (.alloc 121)=some (.pointer (some ⟨nm,0,none⟩),fun v=>.cells (PT.ofList [.map none]) [] 1 121 false false v):=by kernel_rfl
theorem rq (nm:Nat) (ρ:Operand→Value):cS X nm ρ (.alloc 126)=some (.pointer (some ⟨nm,0,none⟩),fun v=>.cells (PT.ofList [.nilFunc]) [] 1 126 false false v):=by kernel_rfl
theorem aA1 (s:St) (a:Addr) (v:Value):storeT X s 126 a v=if v.cells.size=1 then bJ s a v.cells.toList else none:=by kernel_rfl
theorem gw (H:aY) (r:Nat):fA X H 121 (.map (some r))=(match mapOf H r with | some (es,_)=>some (.int .i64 es.length) | none=>none):=by kernel_rfl
theorem RE (H:aY) (a:Addr):loadT X H 126 a=aI H a:=by kernel_rfl
theorem DX (H:aY) (r:Nat) (x:Int) (ok:Bool):kW X H 121 (.map (some r)) (.int .i64 x) ok=(match mapOf H r with
  | some (es,_)=>(match kH (.int .i64 x) es 0 with
   | some (some (_,v))=>some (if ok then .tuple #[v,.bool true] else v)
   | some none=>some (if ok then .tuple #[.bool false,.bool false] else .bool false)
   | none=>none)
  | none=>none):=by kernel_rfl
theorem fn_71:X.fn 71=some Tryz.f71:=by kernel_rfl
theorem al_62 (nm:Nat) (ρ:Operand→Value):cS X nm ρ (.alloc 62)=some (.pointer (some ⟨nm,0,none⟩),fun v=>.cells (PT.ofList [.slice none 0 0]) [] 1 62 false false v):=by kernel_rfl
theorem fn_72:X.fn 72=some Tryz.f72:=by kernel_rfl
theorem UW (b off:Nat):aO X 123 (.pointer (some ⟨b,off,none⟩)) 0=some (.pointer (some ⟨b,off,none⟩)):=by kernel_rfl
theorem UX (b off:Nat):aO X 123 (.pointer (some ⟨b,off,none⟩)) 1=some (.pointer (some ⟨b,off+1,none⟩)):=by kernel_rfl
theorem fn_73:X.fn 73=some Tryz.f73:=by kernel_rfl
theorem EY  (x0:Int) (x1:Int) (x2:Int):fJ X 44 [(0,Value.int .i64 x0),(1,Value.int .i64 x1),(2,Value.int .i64 x2)]=some (.agg #[.int .i64 x0,.int .i64 x1,.int .i64 x2]):=by kernel_rfl
theorem fn_75:X.fn 75=some Tryz.f75:=by kernel_rfl
theorem fn_76:X.fn 76=some Tryz.f76:=by kernel_rfl
theorem fn_77:X.fn 77=some Tryz.f77:=by kernel_rfl
theorem xy (H:aY) (a:Addr):binop X H .neq 34 (.pointer (some a)) (.pointer none)=some (.bool true):=by kernel_rfl
theorem xr (H:aY):binop X H .neq 34 (.pointer none) (.pointer none)=some (.bool false):=by kernel_rfl
theorem fn_78:X.fn 78=some Tryz.f78:=by kernel_rfl
theorem fn_79:X.fn 79=some Tryz.f79:=by kernel_rfl
theorem tW  (x0:Int) (x1:Int):fJ X 198 [(0,Value.int .i64 x0),(1,Value.int .i64 x1)]=some (.agg #[.int .i64 x0,.int .i64 x1]):=by kernel_rfl
theorem HE :fJ X 198 []=some (.agg #[.int .i64 0,.int .i64 0]):=by kernel_rfl
theorem fn_80:X.fn 80=some Tryz.f80:=by kernel_rfl
theorem JE (b off:Nat):aO X 138 (.pointer (some ⟨b,off,none⟩)) 6=some (.pointer (some ⟨b,off+6,none⟩)):=by kernel_rfl
theorem fn_81:X.fn 81=some Tryz.f81:=by kernel_rfl
theorem fn_82:X.fn 82=some Tryz.f82:=by kernel_rfl
theorem oY (b off:Nat):aO X 201 (.pointer (some ⟨b,off,none⟩)) 0=some (.pointer (some ⟨b,off,none⟩)):=by kernel_rfl
theorem fn_83:X.fn 83=some Tryz.f83:=by kernel_rfl
theorem fn_84:X.fn 84=some Tryz.f84:=by kernel_rfl
theorem fn_85:X.fn 85=some Tryz.f85:=by kernel_rfl
theorem lV (b off:Nat):aO X 177 (.pointer (some ⟨b,off,none⟩)) 3=some (.pointer (some ⟨b,off+3,none⟩)):=by kernel_rfl
theorem fn_86:X.fn 86=some Tryz.f86:=by kernel_rfl
theorem fn_87:X.fn 87=some Tryz.f87:=by kernel_rfl
theorem fn_90:X.fn 90=some Tryz.f90:=by kernel_rfl
theorem yb (H:aY) (a:Addr):binop X H .neq 36 (.pointer (some a)) (.pointer none)=some (.bool true):=by kernel_rfl
theorem xv (H:aY):binop X H .neq 36 (.pointer none) (.pointer none)=some (.bool false):=by kernel_rfl
theorem fC (b off:Nat):aO X 131 (.pointer (some ⟨b,off,none⟩)) 0=some (.pointer (some ⟨b,off,none⟩)):=by kernel_rfl
theorem jY (H:aY) (a:Addr):loadT X H 127 a=aI H a:=by kernel_rfl
theorem iY (H:aY) (a:Option Addr) (n c:Nat):fA X H 127 (.slice a n c)=some (.int .i64 n):=by kernel_rfl
theorem fn_93:X.fn 93=some Tryz.f93:=by kernel_rfl
theorem yd (H:aY) (a:Addr):binop X H .neq 37 (.pointer (some a)) (.pointer none)=some (.bool true):=by kernel_rfl
theorem xw (H:aY):binop X H .neq 37 (.pointer none) (.pointer none)=some (.bool false):=by kernel_rfl
theorem sF (H:aY) (a:Option Addr) (n c:Nat):fA X H 159 (.slice a n c)=some (.int .i64 n):=by kernel_rfl
theorem fn_96:X.fn 96=some Tryz.f96:=by kernel_rfl
theorem fn_97:X.fn 97=some Tryz.f97:=by kernel_rfl
theorem fn_98:X.fn 98=some Tryz.f98:=by kernel_rfl
theorem mP (nm:Nat):QL X nm 62 4 [(0,Value.int .i64 1),(1,Value.int .i64 2),(2,Value.int .i64 4),(3,Value.int .i64 8)]=some (.slice (some ⟨nm,0,none⟩) 4 4,fun v=>.cells (PT.ofList [.int .i64 1,.int .i64 2,.int .i64 4,.int .i64 8]) [] 4 3 false false v):=by kernel_rfl
theorem mk_199 {nm:Nat} {n m:Int} (h1:0≤n) (h2:n≤m) (h3:m<2 ^ 40) (h4:8*m≤2 ^ 48):al X nm 199 (.int .i64 n) (.int .i64 m)=some (.slice (some ⟨nm,0,none⟩) n.toNat m.toNat,fun v=>.cells .nil [.int .u64 0] (m.toNat*1) 221 false false v):=RZ (z:=.int .u64 0) (by kernel_rfl) (by kernel_rfl) rfl h1 h2 h3 h4
theorem BD  (x0:Int) (x1:Int) (x2:Option Addr) (x2n x2c:Nat):fJ X 201 [(0,Value.int .i64 x0),(1,Value.int .i64 x1),(2,Value.slice x2 x2n x2c)]=some (.agg #[.int .i64 x0,.int .i64 x1,.slice x2 x2n x2c]):=by kernel_rfl
theorem fn_109:X.fn 109=some Tryz.f109:=by kernel_rfl
theorem fn_110:X.fn 110=some Tryz.f110:=by kernel_rfl
theorem tJ (b off:Nat):aO X 201 (.pointer (some ⟨b,off,none⟩)) 1=some (.pointer (some ⟨b,off+1,none⟩)):=by kernel_rfl
theorem fn_116:X.fn 116=some Tryz.f116:=by kernel_rfl
theorem sU (b off n c:Nat) (k:IntKind) (i:Int):bQ X 135 (.slice (some ⟨b,off,none⟩) n c) (.int k i)=if 0≤i∧i<(n:Int) then some (.pointer (some ((⟨b,off,none⟩:Addr).add (i.toNat*2)))) else none:=by kernel_rfl
theorem tI (b off:Nat):aO X 198 (.pointer (some ⟨b,off,none⟩)) 0=some (.pointer (some ⟨b,off,none⟩)):=by kernel_rfl
theorem VD (b off:Nat):aO X 198 (.pointer (some ⟨b,off,none⟩)) 1=some (.pointer (some ⟨b,off+1,none⟩)):=by kernel_rfl
theorem fn_118:X.fn 118=some Tryz.f118:=by kernel_rfl
theorem fn_119:X.fn 119=some Tryz.f119:=by kernel_rfl
theorem UY (b off:Nat):aO X 131 (.pointer (some ⟨b,off,none⟩)) 3=some (.pointer (some ⟨b,off+3,none⟩)):=by kernel_rfl
theorem pP (b off n c:Nat) (k:IntKind) (i:Int):bQ X 127 (.slice (some ⟨b,off,none⟩) n c) (.int k i)=if 0≤i∧i<(n:Int) then some (.pointer (some ((⟨b,off,none⟩:Addr).add (i.toNat*2)))) else none:=by kernel_rfl
theorem VB (b off:Nat):aO X 133 (.pointer (some ⟨b,off,none⟩)) 5=some (.pointer (some ⟨b,off+7,none⟩)):=by kernel_rfl
theorem tX  (x0:Int) (x1:Int):fJ X 210 [(0,Value.int .i64 x0),(1,Value.int .i64 x1)]=some (.agg #[.int .i64 x0,.int .i64 x1]):=by kernel_rfl
theorem IJ (nm:Nat) (x0_0:Int) (x0_1:Int) (x0_2_0:Int) (x0_2_1:Int) (x0_2_2:Int) (x0_5:Option Addr) (x0_5n x0_5c:Nat) (x0_6:Option Addr) (x0_6n x0_6c:Nat) (x0_7:Bool):QL X nm 128 1 [(0,Value.agg #[.int .i64 x0_0,.int .i64 x0_1,.int .i64 x0_2_0,.int .i64 x0_2_1,.int .i64 x0_2_2,.slice x0_5 x0_5n x0_5c,.slice x0_6 x0_6n x0_6c,.bool x0_7])]=some (.slice (some ⟨nm,0,none⟩) 1 1,fun v=>.cells (PT.ofList [.int .i64 x0_0,.int .i64 x0_1,.int .i64 x0_2_0,.int .i64 x0_2_1,.int .i64 x0_2_2,.slice x0_5 x0_5n x0_5c,.slice x0_6 x0_6n x0_6c,.bool x0_7]) [] 8 133 false false v):=by kernel_rfl
theorem SW (s:St) (a:Addr) (v:Value):storeT X s 128 a v=if v.cells.size=1 then bJ s a v.cells.toList else none:=by kernel_rfl
theorem fn_125:X.fn 125=some Tryz.f125:=by kernel_rfl
theorem BO (b off:Nat):aO X 177 (.pointer (some ⟨b,off,none⟩)) 1=some (.pointer (some ⟨b,off+1,none⟩)):=by kernel_rfl
theorem BP (b off:Nat):aO X 177 (.pointer (some ⟨b,off,none⟩)) 2=some (.pointer (some ⟨b,off+2,none⟩)):=by kernel_rfl
theorem VC (b off:Nat):aO X 161 (.pointer (some ⟨b,off,none⟩)) 1=some (.pointer (some ⟨b,off+1,none⟩)):=by kernel_rfl
theorem QZ (b off n c:Nat) (k:IntKind) (i:Int):bQ X 159 (.slice (some ⟨b,off,none⟩) n c) (.int k i)=if 0≤i∧i<(n:Int) then some (.pointer (some ((⟨b,off,none⟩:Addr).add (i.toNat*1)))) else none:=by kernel_rfl
theorem fn_130:X.fn 130=some Tryz.f130:=by kernel_rfl
theorem fn_131:X.fn 131=some Tryz.f131:=by kernel_rfl
theorem fn_132:X.fn 132=some Tryz.f132:=by kernel_rfl
theorem st_4 (s:St) (a:Addr) (v:Value):storeT X s 4 a v=if v.cells.size=1 then bJ s a v.cells.toList else none:=by kernel_rfl
theorem fn_139:X.fn 139=some Tryz.f139:=by kernel_rfl
theorem fn_140:X.fn 140=some Tryz.f140:=by kernel_rfl
theorem BQ (b off:Nat):aO X 201 (.pointer (some ⟨b,off,none⟩)) 2=some (.pointer (some ⟨b,off+2,none⟩)):=by kernel_rfl
theorem RH (H:aY) (a:Addr):loadT X H 199 a=aI H a:=by kernel_rfl
theorem RA (b off n c:Nat) (k:IntKind) (i:Int):bQ X 199 (.slice (some ⟨b,off,none⟩) n c) (.int k i)=if 0≤i∧i<(n:Int) then some (.pointer (some ((⟨b,off,none⟩:Addr).add (i.toNat*1)))) else none:=by kernel_rfl
theorem RI (H:aY) (a:Addr):loadT X H 221 a=aI H a:=by kernel_rfl
theorem UJ (k:IntKind) (x:Int):iM X 3 221 (.int k x)=some (.int .u64 (IntKind.wrap .u64 x)):=by kernel_rfl
theorem aA5 (s:St) (a:Addr) (v:Value):storeT X s 221 a v=if v.cells.size=1 then bJ s a v.cells.toList else none:=by kernel_rfl
theorem fn_141:X.fn 141=some Tryz.f141:=by kernel_rfl
theorem fn_142:X.fn 142=some Tryz.f142:=by kernel_rfl
theorem fn_143:X.fn 143=some Tryz.f143:=by kernel_rfl
theorem fn_144:X.fn 144=some Tryz.f144:=by kernel_rfl
theorem fn_145:X.fn 145=some Tryz.f145:=by kernel_rfl
theorem tC  (x0:Int) (x1:Int) (x2_0:Int) (x2_1:Int) (x2_2:Int) (x3:Option Addr) (x3n x3c:Nat) (x4:Option Addr) (x4n x4c:Nat):fJ X 133 [(0,Value.int .i64 x0),(1,Value.int .i64 x1),(2,Value.agg #[.int .i64 x2_0,.int .i64 x2_1,.int .i64 x2_2]),(3,Value.slice x3 x3n x3c),(4,Value.slice x4 x4n x4c)]=some (.agg #[.int .i64 x0,.int .i64 x1,.int .i64 x2_0,.int .i64 x2_1,.int .i64 x2_2,.slice x3 x3n x3c,.slice x4 x4n x4c,.bool false]):=by kernel_rfl
theorem fn_146:X.fn 146=some Tryz.f146:=by kernel_rfl
theorem fn_147:X.fn 147=some Tryz.f147:=by kernel_rfl
theorem fn_148:X.fn 148=some Tryz.f148:=by kernel_rfl
theorem fn_149:X.fn 149=some Tryz.f149:=by kernel_rfl
theorem BB  (x0:Int) (x1:Int) (x2:Int):fJ X 118 [(0,Value.int .i64 x0),(1,Value.int .i64 x1),(2,Value.int .i64 x2)]=some (.agg #[.int .i64 x0,.int .i64 x1,.int .i64 x2]):=by kernel_rfl
theorem tV  (x0:Int) (x2:Int):fJ X 118 [(0,Value.int .i64 x0),(2,Value.int .i64 x2)]=some (.agg #[.int .i64 x0,.int .i64 0,.int .i64 x2]):=by kernel_rfl
theorem fn_150:X.fn 150=some Tryz.f150:=by kernel_rfl
theorem fn_151:X.fn 151=some Tryz.f151:=by kernel_rfl
theorem fn_152:X.fn 152=some Tryz.f152:=by kernel_rfl
theorem fn_153:X.fn 153=some Tryz.f153:=by kernel_rfl
theorem fn_154:X.fn 154=some Tryz.f154:=by kernel_rfl
theorem fn_155:X.fn 155=some Tryz.f155:=by kernel_rfl
theorem gv (H:aY) (a:Option Addr) (n c:Nat):fA X H 110 (.slice a n c)=some (.int .i64 n):=by kernel_rfl
theorem UK (k:IntKind) (x:Int):iM X 3 226 (.int k x)=some (.int .u64 (IntKind.wrap .u64 x)):=by kernel_rfl
theorem fn_159:X.fn 159=some Tryz.f159:=by kernel_rfl
theorem xz (H:aY) (a:Addr):binop X H .neq 35 (.pointer (some a)) (.pointer none)=some (.bool true):=by kernel_rfl
theorem xu (H:aY):binop X H .neq 35 (.pointer none) (.pointer none)=some (.bool false):=by kernel_rfl
theorem fn_160:X.fn 160=some Tryz.f160:=by kernel_rfl
theorem fn_161:X.fn 161=some Tryz.f161:=by kernel_rfl
theorem fj (H:aY) (a:Addr):binop X H .eql 193 (.pointer (some a)) (.pointer none)=some (.bool false):=by kernel_rfl
theorem fh (H:aY):binop X H .eql 193 (.pointer none) (.pointer none)=some (.bool true):=by kernel_rfl
theorem fn_162:X.fn 162=some Tryz.f162:=by kernel_rfl
theorem aq (s:St) (r:Nat) (x:Int) (v:Value):gM X s 121 (.map (some r)) (.int .i64 x) v=(match s.heap.get r with
  | some (.map es c _)=>(match kH (.int .i64 x) es 0 with
   | some (some (i,_))=>some (s.put r fun dF=>.map (es.modify i fun e=>⟨.int .i64 x,v,e.born⟩) c dF)
   | some none=>some (s.put r fun dF=>.map (es++[⟨.int .i64 x,v,c⟩]) (c+1) dF)
   | none=>none)
  | _=>none):=by kernel_rfl
theorem fn_163:X.fn 163=some Tryz.f163:=by kernel_rfl
theorem fn_164:X.fn 164=some Tryz.f164:=by kernel_rfl
theorem fn_165:X.fn 165=some Tryz.f165:=by kernel_rfl
theorem fn_166:X.fn 166=some Tryz.f166:=by kernel_rfl
theorem UH (k:IntKind) (x:Int):iM X 221 3 (.int k x)=some (.int .i64 (IntKind.wrap .i64 x)):=by kernel_rfl
theorem fn_167:X.fn 167=some Tryz.f167:=by kernel_rfl
theorem DV (H:aY) (a:Addr):loadT X H 198 a=(match aS H a 2 with | some l=>some (.agg l.toArray) | none=>none):=by kernel_rfl
theorem aA4 (s:St) (a:Addr) (v:Value):storeT X s 198 a v=if v.cells.size=2 then bJ s a v.cells.toList else none:=by kernel_rfl
theorem fn_168:X.fn 168=some Tryz.f168:=by kernel_rfl
theorem fn_169:X.fn 169=some Tryz.f169:=by kernel_rfl
theorem fn_170:X.fn 170=some Tryz.f170:=by kernel_rfl
theorem fn_171:X.fn 171=some Tryz.f171:=by kernel_rfl
theorem fn_172:X.fn 172=some Tryz.f172:=by kernel_rfl
theorem fn_173:X.fn 173=some Tryz.f173:=by kernel_rfl
theorem oW (b off:Nat):aO X 118 (.pointer (some ⟨b,off,none⟩)) 1=some (.pointer (some ⟨b,off+1,none⟩)):=by kernel_rfl
theorem fn_179:X.fn 179=some Tryz.f179:=by kernel_rfl
theorem fn_186:X.fn 186=some Tryz.f186:=by kernel_rfl
theorem fn_187:X.fn 187=some Tryz.f187:=by kernel_rfl
theorem lW (b off:Nat):aO X 210 (.pointer (some ⟨b,off,none⟩)) 0=some (.pointer (some ⟨b,off,none⟩)):=by kernel_rfl
theorem fn_188:X.fn 188=some Tryz.f188:=by kernel_rfl
theorem VE (b off:Nat):aO X 210 (.pointer (some ⟨b,off,none⟩)) 1=some (.pointer (some ⟨b,off+1,none⟩)):=by kernel_rfl
theorem fn_192:X.fn 192=some Tryz.f192:=by kernel_rfl
theorem fn_193:X.fn 193=some Tryz.f193:=by kernel_rfl
theorem fn_206:X.fn 206=some Tryz.f206:=by kernel_rfl
theorem fn_207:X.fn 207=some Tryz.f207:=by kernel_rfl
theorem fn_208:X.fn 208=some Tryz.f208:=by kernel_rfl
theorem fn_209:X.fn 209=some Tryz.f209:=by kernel_rfl
theorem fn_210:X.fn 210=some Tryz.f210:=by kernel_rfl
theorem fn_211:X.fn 211=some Tryz.f211:=by kernel_rfl
theorem SX (s:St) (a:Addr) (v:Value):storeT X s 210 a v=if v.cells.size=2 then bJ s a v.cells.toList else none:=by kernel_rfl
theorem fn_212:X.fn 212=some Tryz.f212:=by kernel_rfl
theorem gx (H:aY) (a:Option Addr) (n c:Nat):fA X H 238 (.slice a n c)=some (.int .i64 n):=by kernel_rfl
theorem vm (b off n c:Nat) (k:IntKind) (i:Int):bQ X 238 (.slice (some ⟨b,off,none⟩) n c) (.int k i)=if 0≤i∧i<(n:Int) then some (.pointer (some ((⟨b,off,none⟩:Addr).add (i.toNat*2)))) else none:=by kernel_rfl
theorem VG (b off:Nat):aO X 241 (.pointer (some ⟨b,off,none⟩)) 1=some (.pointer (some ⟨b,off+1,none⟩)):=by kernel_rfl
theorem VF (b off:Nat):aO X 241 (.pointer (some ⟨b,off,none⟩)) 0=some (.pointer (some ⟨b,off,none⟩)):=by kernel_rfl
theorem fn_213:X.fn 213=some Tryz.f213:=by kernel_rfl
theorem fn_214:X.fn 214=some Tryz.f214:=by kernel_rfl
theorem fn_215:X.fn 215=some Tryz.f215:=by kernel_rfl
theorem fn_216:X.fn 216=some Tryz.f216:=by kernel_rfl
theorem fn_217:X.fn 217=some Tryz.f217:=by kernel_rfl
theorem fn_218:X.fn 218=some Tryz.f218:=by kernel_rfl
theorem fn_219:X.fn 219=some Tryz.f219:=by kernel_rfl
theorem fn_220:X.fn 220=some Tryz.f220:=by kernel_rfl
theorem IT (k:IntKind) (x:Int):iM X 226 250 (.int k x)=some (.int .u32 (IntKind.wrap .u32 x)):=by kernel_rfl
theorem fn_222:X.fn 222=some Tryz.f222:=by kernel_rfl
theorem vX (nm:Nat) (x0:Option Addr) (x0n x0c:Nat) (x1:Option Addr) (x1n x1c:Nat) (x2:Option Addr) (x2n x2c:Nat):QL X nm 159 3 [(0,Value.slice x0 x0n x0c),(1,Value.slice x1 x1n x1c),(2,Value.slice x2 x2n x2c)]=some (.slice (some ⟨nm,0,none⟩) 3 3,fun v=>.cells (PT.ofList [.slice x0 x0n x0c,.slice x1 x1n x1c,.slice x2 x2n x2c]) [] 3 62 false false v):=by kernel_rfl
theorem fn_223:X.fn 223=some Tryz.f223:=by kernel_rfl
theorem fn_224:X.fn 224=some Tryz.f224:=by kernel_rfl
theorem fn_225:X.fn 225=some Tryz.f225:=by kernel_rfl
theorem fn_226:X.fn 226=some Tryz.f226:=by kernel_rfl
theorem fn_227:X.fn 227=some Tryz.f227:=by kernel_rfl
theorem QQ (H:aY) (x_0:Int) (x_1:Int) (y_0:Int) (y_1:Int):mW X H 10 198 (.agg #[.int .i64 x_0,.int .i64 x_1]) (.agg #[.int .i64 y_0,.int .i64 y_1])=(match some (x_0==y_0) with | some true=>(match some (x_1==y_1) with | some true=>some true | some false=>some false | none=>none:Option Bool) | some false=>some false | none=>none:Option Bool):=by kernel_rfl
theorem gz (H:aY) (x_0:Int) (x_1:Int) (y_0:Int) (y_1:Int):binop X H .neq 198 (.agg #[.int .i64 x_0,.int .i64 x_1]) (.agg #[.int .i64 y_0,.int .i64 y_1])=some (.bool !(x_0==y_0&&x_1==y_1)):=by
 rw[show ∀ u v,binop X H .neq 198 (.agg u) (.agg v)=(match mW X H 10 198 (.agg u) (.agg v) with | some b=>some (.bool !b) | none=>none) from fun _ _=>rfl,QQ]
 cases (x_0==y_0) <;> cases (x_1==y_1) <;> rfl
theorem fn_228:X.fn 228=some Tryz.f228:=by kernel_rfl
theorem fn_240:X.fn 240=some Tryz.f240:=by kernel_rfl
theorem fn_241:X.fn 241=some Tryz.f241:=by kernel_rfl
theorem fn_242:X.fn 242=some Tryz.f242:=by kernel_rfl
theorem ID  (x0:Int) (x1:Int):fJ X 241 [(0,Value.int .i64 x0),(1,Value.int .i64 x1)]=some (.agg #[.int .i64 x0,.int .i64 x1]):=by kernel_rfl
theorem IL (nm:Nat) (x0_0:Int) (x0_1:Int):QL X nm 238 1 [(0,Value.agg #[.int .i64 x0_0,.int .i64 x0_1])]=some (.slice (some ⟨nm,0,none⟩) 1 1,fun v=>.cells (PT.ofList [.int .i64 x0_0,.int .i64 x0_1]) [] 2 241 false false v):=by kernel_rfl
theorem fn_243:X.fn 243=some Tryz.f243:=by kernel_rfl
theorem fn_244:X.fn 244=some Tryz.f244:=by kernel_rfl
theorem fn_253:X.fn 253=some Tryz.f253:=by kernel_rfl
theorem UI (k:IntKind) (x:Int):iM X 221 5 (.int k x)=some (.int .u8 (IntKind.wrap .u8 x)):=by kernel_rfl
theorem fn_254:X.fn 254=some Tryz.f254:=by kernel_rfl
theorem fn_255:X.fn 255=some Tryz.f255:=by kernel_rfl
theorem fn_257:X.fn 257=some Tryz.f257:=by kernel_rfl
abbrev Kc:=List Value→St→Option (cQ (Value×St))
def noKc:Kc:=fun _ _=>none
noncomputable def KO (kc:Kc):qT:=fun f args s=>if f=15∧args.isEmpty=true then some (.ret (.bool true,s)) else if f=11 then kc args s else none
theorem BA {kc:Kc} {q:Bool} {s:St} {Φ:Value→St→Prop} (h:Φ (.bool true) s):okF q X (KO kc) 15 [] s Φ:=okF.orc (r:=.ret (.bool true,s)) rfl h
end Go.Dust
namespace Go.Dust
theorem de (x:Int):(IntKind.i64.wrap x)%18446744073709551616=x%18446744073709551616:=by
 unfold IntKind.wrap
 simp only[IntKind.bits,IntKind.signed,Bool.true_and]
 have e1:(2:Int) ^ 64=18446744073709551616:=rfl
 have e2:(2:Int) ^ (64-1)=9223372036854775808:=rfl
 simp only[e1,e2,decide_eq_true_eq]
 split <;> omega
theorem YG {n:Int} (h1:0≤n) (h2:n<18446744073709551616):IntKind.u64.wrap n=n:=by
 unfold IntKind.wrap
 simp only[IntKind.bits,IntKind.signed,Bool.false_and]
 have e1:(2:Int) ^ 64=18446744073709551616:=rfl
 simp only[e1,Bool.false_eq_true,if_false]
 omega
theorem ax (x:Int):BitVec.ofInt 64 (IntKind.i64.wrap x)=BitVec.ofInt 64 x:=by
 apply BitVec.eq_of_toNat_eq
 rw[BitVec.toNat_ofInt,BitVec.toNat_ofInt]
 have:(((2:Nat) ^ 64:Nat):Int)=18446744073709551616:=rfl
 rw[this,de]
theorem yG (n:Nat):BitVec.ofInt 64 (n:Int)=BitVec.ofNat 64 n:=by
 apply BitVec.eq_of_toNat_eq
 rw[BitVec.toNat_ofInt,BitVec.toNat_ofNat]
 omega
def tf (u sh w:Nat):Nat:=u/2 ^ sh%2 ^ w
theorem tg (u sh w:Nat):tf u sh w<2 ^ w:=Nat.mod_lt _ (Nat.two_pow_pos w)
theorem QP (u sh w i:Nat):(tf u sh w).testBit i=(decide (i<w)&&u.testBit (sh+i)):=by
 unfold tf
 rw[Nat.testBit_mod_two_pow,Nat.testBit_div_two_pow,Nat.add_comm]
theorem pow8 {w:Nat} (hw:w≤8):2 ^ w≤256:=by
 have:2 ^ w≤2 ^ 8:=Nat.pow_le_pow_right (by omega) hw
 simpa using this
theorem uy {u sh w:Nat} (hu:u<2 ^ 64) (hw:w≤8):IntKind.i64.wrap ((BitVec.ofInt 64 (IntKind.i64.wrap (((u/2 ^ sh:Nat):Int))) &&& BitVec.ofInt 64 ((2 ^ w-1:Nat):Int)).toNat)=(tf u sh w:Int):=by
 have h1:u/2 ^ sh<2 ^ 64:=Nat.lt_of_le_of_lt (Nat.div_le_self _ _) hu
 have h3:=pow8 hw
 rw[ax,yG,yG,BitVec.toNat_and,BitVec.toNat_ofNat,BitVec.toNat_ofNat,Nat.mod_eq_of_lt h1,Nat.mod_eq_of_lt (show 2 ^ w-1<2 ^ 64 by omega),Nat.and_two_pow_sub_one_eq_mod]
 have:=tg u sh w
 unfold tf at this ⊢
 exact aR (by omega) (by omega)
def WX (u sh w v:Nat):Nat:=((BitVec.ofNat 64 u &&& ~~~ BitVec.ofNat 64 ((2 ^ w-1)*2 ^ sh)) ||| BitVec.ofNat 64 (v*2 ^ sh)).toNat
theorem putw_lt (u sh w v:Nat):WX u sh w v<2 ^ 64:=BitVec.isLt _
theorem WY (u sh w v j:Nat) (hj:j<64):(WX u sh w v).testBit j=((u.testBit j&&!(decide (sh≤j)&&decide (j-sh<w)))||(decide (sh≤j)&&v.testBit (j-sh))):=by
 unfold WX
 rw[BitVec.testBit_toNat,BitVec.getLsbD_or,BitVec.getLsbD_and,BitVec.getLsbD_not,BitVec.getLsbD_ofNat,BitVec.getLsbD_ofNat,BitVec.getLsbD_ofNat]
 simp only[hj,decide_true,Bool.true_and,Nat.testBit_mul_two_pow,Nat.testBit_two_pow_sub_one]
theorem th {u sh w v:Nat} (hs:sh+w≤64) (hv:v<2 ^ w):tf (WX u sh w v) sh w=v:=by
 apply Nat.eq_of_testBit_eq
 intro i
 rw[QP]
 by_cases h:i<w
 ·rw[WY _ _ _ _ _ (by omega)]
  simp[h]
 ·simp only[h,decide_false,Bool.false_and]
  rw[Nat.testBit_lt_two_pow (Nat.lt_of_lt_of_le hv (Nat.pow_le_pow_right (by omega) (by omega)))]
theorem UN {u sh sh' w v:Nat} (hs':sh'+w≤64) (hv:v<2 ^ w) (h:sh'+w≤sh∨sh+w≤sh'):tf (WX u sh w v) sh' w=tf u sh' w:=by
 apply Nat.eq_of_testBit_eq
 intro i
 rw[QP,QP]
 by_cases hi:i<w
 ·rw[WY _ _ _ _ _ (by omega)]
  simp only[hi,decide_true,Bool.true_and]
  rcases h with h | h
  ·have:¬ sh≤sh'+i:=by omega
   simp[this]
  ·have h1:sh≤sh'+i:=by omega
   have h2:¬ sh'+i-sh<w:=by omega
   rw[Nat.testBit_lt_two_pow (x:=v) (Nat.lt_of_lt_of_le hv (Nat.pow_le_pow_right (by omega) (by omega)))]
   simp[h2]
 ·simp[hi]
theorem dp {w i:Nat} (hw:w=1∨w=2∨w=4∨w=8):i*w%64+w≤64:=by
 rcases hw with rfl | rfl | rfl | rfl <;> omega
theorem apart {w i j:Nat} (hw:w=1∨w=2∨w=4∨w=8) (hne:i≠j) (he:i*w/64=j*w/64):j*w%64+w≤i*w%64∨i*w%64+w≤j*w%64:=by
 rcases hw with rfl | rfl | rfl | rfl <;> omega
end Go.Dust
