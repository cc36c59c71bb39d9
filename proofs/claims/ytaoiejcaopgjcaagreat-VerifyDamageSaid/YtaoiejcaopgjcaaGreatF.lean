/- VerifyDamage walked in D, function by function, and its plain law (Ty Ko Pa C1 C2 C3 Pb C4). -/
import Derived.Test.YtaoiejcaopgjcaaGreatProg
import Derived.Test.YtaoiejcaopgjcaaGreatE
import Derived.KernelRfl
set_option linter.unusedVariables false
set_option linter.unusedSimpArgs false
namespace Go.Dust
open Go.Proofs
noncomputable abbrev X:Env:=env Tryz.prog
set_option maxRecDepth 100000
theorem Ib (H:bL) (a:Addr):loadT X H 27 a=(match bI H a 7 with | some l=>some (.agg l.toArray) | none=>none):=by kernel_rfl
theorem As (H:bL) (a:Addr):binop X H .eql 28 (.pointer (some a)) (.pointer none)=some (.bool false):=by kernel_rfl
theorem Aq (H:bL):binop X H .eql 28 (.pointer none) (.pointer none)=some (.bool true):=by kernel_rfl
theorem vN (b off:Nat):dO X 39 (.pointer (some ⟨b,off,none⟩)) 0=some (.pointer (some ⟨b,off,none⟩)):=by kernel_rfl
theorem pX (H:bL) (a:Addr):loadT X H 34 a=aG H a:=by kernel_rfl
theorem DQ (b off:Nat):dO X 39 (.pointer (some ⟨b,off,none⟩)) 1=some (.pointer (some ⟨b,off+1,none⟩)):=by kernel_rfl
theorem AK (H:bL) (a:Addr):loadT X H 35 a=aG H a:=by kernel_rfl
theorem MA (H:bL) (a:Option Addr) (n c:Nat):mH X H 30 (.slice a n c)=some (.int .i64 n):=by kernel_rfl
theorem KC (k:IntKind) (x:Int):xE X 5 3 (.int k x)=some (.int .i64 (IntKind.wrap .i64 x)):=by kernel_rfl
theorem mB (nm:Nat) (ρ:Operand→Value):iJ X nm ρ (.alloc 44)=some (.pointer (some ⟨nm,0,none⟩),fun v=>.cells (PT.ofList [.int .i64 0,.int .i64 0,.int .i64 0]) [] 3 44 false false v):=by kernel_rfl
theorem lE (s:St) (a:Addr) (v:Value):storeT X s 44 a v=if v.cells.size=3 then dS s a v.cells.toList else none:=by kernel_rfl
theorem kJ (b off:Nat):dO X 44 (.pointer (some ⟨b,off,none⟩)) 0=some (.pointer (some ⟨b,off,none⟩)):=by kernel_rfl
theorem bG (H:bL) (a:Addr):loadT X H 3 a=aG H a:=by kernel_rfl
theorem TY  (x0:Int) (x1:Int) (x2:Int):iR X 51 [(0,Value.int .i64 x0),(1,Value.int .i64 x1),(2,Value.int .i64 x2)]=some (.agg #[.int .i64 x0,.int .i64 x1,.int .i64 x2]):=by kernel_rfl
theorem TK (nm:Nat) (ρ:Operand→Value):iJ X nm ρ (.alloc 51)=some (.pointer (some ⟨nm,0,none⟩),fun v=>.cells (PT.ofList [.int .i64 0,.int .i64 0,.int .i64 0]) [] 3 51 false false v):=by kernel_rfl
theorem NC (s:St) (a:Addr) (v:Value):storeT X s 51 a v=if v.cells.size=3 then dS s a v.cells.toList else none:=by kernel_rfl
theorem Bt (b off:Nat):dO X 51 (.pointer (some ⟨b,off,none⟩)) 0=some (.pointer (some ⟨b,off,none⟩)):=by kernel_rfl
theorem lD (s:St) (a:Addr) (v:Value):storeT X s 3 a v=if v.cells.size=1 then dS s a v.cells.toList else none:=by kernel_rfl
theorem AM (H:bL) (a:Addr):loadT X H 51 a=(match bI H a 3 with | some l=>some (.agg l.toArray) | none=>none):=by kernel_rfl
theorem zi (nm:Nat) (oT:Int) (oU:Int) (yK:Int):kW X nm 30 1 [(0,Value.agg #[.int .i64 oT,.int .i64 oU,.int .i64 yK])]=some (.slice (some ⟨nm,0,none⟩) 1 1,fun v=>.cells (PT.ofList [.int .i64 oT,.int .i64 oU,.int .i64 yK]) [] 3 51 false false v):=by kernel_rfl
theorem zT (b off:Nat):dO X 39 (.pointer (some ⟨b,off,none⟩)) 2=some (.pointer (some ⟨b,off+2,none⟩)):=by kernel_rfl
theorem AL (H:bL) (a:Addr):loadT X H 36 a=aG H a:=by kernel_rfl
theorem DS (b off:Nat):dO X 39 (.pointer (some ⟨b,off,none⟩)) 3=some (.pointer (some ⟨b,off+3,none⟩)):=by kernel_rfl
theorem LZ (H:bL) (a:Addr):loadT X H 37 a=aG H a:=by kernel_rfl
theorem Kj (H:bL) (a:Addr):binop X H .neq 68 (.pointer (some a)) (.pointer none)=some (.bool true):=by kernel_rfl
theorem Ke (H:bL):binop X H .neq 68 (.pointer none) (.pointer none)=some (.bool false):=by kernel_rfl
theorem dV (H:bL) (a:Option Addr) (n c:Nat):mH X H 62 (.slice a n c)=some (.int .i64 n):=by kernel_rfl
theorem dQ (b off n c:Nat) (k:IntKind) (i:Int):mZ X 62 (.slice (some ⟨b,off,none⟩) n c) (.int k i)=if 0≤i∧i<(n:Int) then some (.pointer (some ((⟨b,off,none⟩:Addr).add (i.toNat*1)))) else none:=by kernel_rfl
theorem TX  (x0:Int) (x1:Int):iR X 51 [(0,Value.int .i64 x0),(1,Value.int .i64 x1)]=some (.agg #[.int .i64 x0,.int .i64 x1,.int .i64 0]):=by kernel_rfl
theorem mD (b off:Nat):dO X 44 (.pointer (some ⟨b,off,none⟩)) 1=some (.pointer (some ⟨b,off+1,none⟩)):=by kernel_rfl
theorem KP (b off:Nat):dO X 51 (.pointer (some ⟨b,off,none⟩)) 2=some (.pointer (some ⟨b,off+2,none⟩)):=by kernel_rfl
theorem gL (H:bL) (a:Addr):loadT X H 44 a=(match bI H a 3 with | some l=>some (.agg l.toArray) | none=>none):=by kernel_rfl
theorem AD (b off n c:Nat) (k:IntKind) (i:Int):mZ X 30 (.slice (some ⟨b,off,none⟩) n c) (.int k i)=if 0≤i∧i<(n:Int) then some (.pointer (some ((⟨b,off,none⟩:Addr).add (i.toNat*3)))) else none:=by kernel_rfl
theorem KI (H:bL) (mS:Int) (mT:Int) (rC:Int) (mU:Int) (mV:Int) (rD:Int):jF X H 10 51 (.agg #[.int .i64 mS,.int .i64 mT,.int .i64 rC]) (.agg #[.int .i64 mU,.int .i64 mV,.int .i64 rD])=(match some (mS==mU) with | some true=>(match some (mT==mV) with | some true=>(match some (rC==rD) with | some true=>some true | some false=>some false | none=>none:Option Bool) | some false=>some false | none=>none:Option Bool) | some false=>some false | none=>none:Option Bool):=by kernel_rfl
theorem Au (H:bL) (mS:Int) (mT:Int) (rC:Int) (mU:Int) (mV:Int) (rD:Int):binop X H .eql 51 (.agg #[.int .i64 mS,.int .i64 mT,.int .i64 rC]) (.agg #[.int .i64 mU,.int .i64 mV,.int .i64 rD])=some (.bool (mS==mU&&mT==mV&&rC==rD)):=by
 rw[show ∀ u v,binop X H .eql 51 (.agg u) (.agg v)=(match jF X H 10 51 (.agg u) (.agg v) with | some b=>some (.bool b) | none=>none) from fun _ _=>rfl,KI];cases (mS==mU) <;> cases (mT==mV) <;> cases (rC==rD) <;> rfl
theorem Bl (b off:Nat):dO X 27 (.pointer (some ⟨b,off,none⟩)) 0=some (.pointer (some ⟨b,off,none⟩)):=by kernel_rfl
theorem XX (H:bL) (a:Addr):loadT X H 5 a=aG H a:=by kernel_rfl
theorem Bm (b off:Nat):dO X 27 (.pointer (some ⟨b,off,none⟩)) 1=some (.pointer (some ⟨b,off+1,none⟩)):=by kernel_rfl
theorem KG (H:bL) (a:Addr):binop X H .eql 34 (.pointer (some a)) (.pointer none)=some (.bool false):=by kernel_rfl
theorem KE (H:bL):binop X H .eql 34 (.pointer none) (.pointer none)=some (.bool true):=by kernel_rfl
theorem KH (H:bL) (a:Addr):binop X H .eql 35 (.pointer (some a)) (.pointer none)=some (.bool false):=by kernel_rfl
theorem KF (H:bL):binop X H .eql 35 (.pointer none) (.pointer none)=some (.bool true):=by kernel_rfl
theorem xy  (x0:Option Addr) (x1:Option Addr):iR X 39 [(0,Value.pointer x0),(1,Value.pointer x1)]=some (.agg #[.pointer x0,.pointer x1,.pointer none,.pointer none]):=by kernel_rfl
theorem Qo (s:St) (a:Addr) (v:Value):storeT X s 36 a v=if v.cells.size=1 then dS s a v.cells.toList else none:=by kernel_rfl
theorem Qp (s:St) (a:Addr) (v:Value):storeT X s 37 a v=if v.cells.size=1 then dS s a v.cells.toList else none:=by kernel_rfl
theorem Bo (b off:Nat):dO X 27 (.pointer (some ⟨b,off,none⟩)) 2=some (.pointer (some ⟨b,off+2,none⟩)):=by kernel_rfl
theorem Hx (H:bL) (a:Addr):loadT X H 22 a=aG H a:=by kernel_rfl
theorem Ik (H:bL) (a:Option Addr) (n c:Nat):mH X H 22 (.slice a n c)=some (.int .i64 n):=by kernel_rfl
theorem Gw (b off n c:Nat) (k:IntKind) (i:Int):mZ X 22 (.slice (some ⟨b,off,none⟩) n c) (.int k i)=if 0≤i∧i<(n:Int) then some (.pointer (some ((⟨b,off,none⟩:Addr).add (i.toNat*4)))) else none:=by kernel_rfl
theorem Ht (H:bL) (a:Addr):loadT X H 105 a=(match bI H a 4 with | some l=>some (.agg l.toArray) | none=>none):=by kernel_rfl
theorem XG (b off:Nat) (k:IntKind) (i:Int):mZ X 105 (.pointer (some ⟨b,off,none⟩)) (.int k i)=if 0≤i∧i<((4:Nat):Int) then some (.pointer (some ((⟨b,off,none⟩:Addr).add (i.toNat*1)))) else none:=by kernel_rfl
theorem Bp (b off:Nat):dO X 27 (.pointer (some ⟨b,off,none⟩)) 3=some (.pointer (some ⟨b,off+3,none⟩)):=by kernel_rfl
theorem Hy (H:bL) (a:Addr):loadT X H 23 a=aG H a:=by kernel_rfl
theorem Il (H:bL) (a:Option Addr) (n c:Nat):mH X H 23 (.slice a n c)=some (.int .i64 n):=by kernel_rfl
theorem Gx (b off n c:Nat) (k:IntKind) (i:Int):mZ X 23 (.slice (some ⟨b,off,none⟩) n c) (.int k i)=if 0≤i∧i<(n:Int) then some (.pointer (some ((⟨b,off,none⟩:Addr).add (i.toNat*1)))) else none:=by kernel_rfl
theorem Bq (b off:Nat):dO X 27 (.pointer (some ⟨b,off,none⟩)) 4=some (.pointer (some ⟨b,off+4,none⟩)):=by kernel_rfl
theorem Hz (H:bL) (a:Addr):loadT X H 24 a=aG H a:=by kernel_rfl
theorem Io (H:bL) (a:Option Addr) (n c:Nat):mH X H 24 (.slice a n c)=some (.int .i64 n):=by kernel_rfl
theorem Gz (b off n c:Nat) (k:IntKind) (i:Int):mZ X 24 (.slice (some ⟨b,off,none⟩) n c) (.int k i)=if 0≤i∧i<(n:Int) then some (.pointer (some ((⟨b,off,none⟩:Addr).add (i.toNat*3)))) else none:=by kernel_rfl
theorem Hu (H:bL) (a:Addr):loadT X H 106 a=(match bI H a 3 with | some l=>some (.agg l.toArray) | none=>none):=by kernel_rfl
theorem vy (nm:Nat) (ρ:Operand→Value):iJ X nm ρ (.alloc 106)=some (.pointer (some ⟨nm,0,none⟩),fun v=>.cells (PT.ofList [.int .u8 0,.int .u8 0,.int .u8 0]) [] 3 106 false false v):=by kernel_rfl
theorem Qh (s:St) (a:Addr) (v:Value):storeT X s 106 a v=if v.cells.size=3 then dS s a v.cells.toList else none:=by kernel_rfl
theorem Gu (b off:Nat) (k:IntKind) (i:Int):mZ X 106 (.pointer (some ⟨b,off,none⟩)) (.int k i)=if 0≤i∧i<((3:Nat):Int) then some (.pointer (some ((⟨b,off,none⟩:Addr).add (i.toNat*1)))) else none:=by kernel_rfl
theorem Br (b off:Nat):dO X 27 (.pointer (some ⟨b,off,none⟩)) 5=some (.pointer (some ⟨b,off+5,none⟩)):=by kernel_rfl
theorem Ia (H:bL) (a:Addr):loadT X H 25 a=aG H a:=by kernel_rfl
theorem Ip (H:bL) (a:Option Addr) (n c:Nat):mH X H 25 (.slice a n c)=some (.int .i64 n):=by kernel_rfl
theorem Ha (b off n c:Nat) (k:IntKind) (i:Int):mZ X 25 (.slice (some ⟨b,off,none⟩) n c) (.int k i)=if 0≤i∧i<(n:Int) then some (.pointer (some ((⟨b,off,none⟩:Addr).add (i.toNat*2)))) else none:=by kernel_rfl
theorem Gv (b off:Nat) (k:IntKind) (i:Int):mZ X 109 (.pointer (some ⟨b,off,none⟩)) (.int k i)=if 0≤i∧i<((2:Nat):Int) then some (.pointer (some ((⟨b,off,none⟩:Addr).add (i.toNat*1)))) else none:=by kernel_rfl
theorem Bs (b off:Nat):dO X 27 (.pointer (some ⟨b,off,none⟩)) 6=some (.pointer (some ⟨b,off+6,none⟩)):=by kernel_rfl
theorem TJ (nm:Nat) (ρ:Operand→Value):iJ X nm ρ (.alloc 110)=some (.pointer (some ⟨nm,0,none⟩),fun v=>.cells (PT.ofList [.slice none 0 0]) [] 1 110 false false v):=by kernel_rfl
theorem EJ (H:bL) (a:Addr):loadT X H 110 a=aG H a:=by kernel_rfl
theorem wB (H:bL) (a:Option Addr) (n c:Nat):mH X H 115 (.slice a n c)=some (.int .i64 n):=by kernel_rfl
theorem vW (b off n c:Nat) (k:IntKind) (i:Int):mZ X 115 (.slice (some ⟨b,off,none⟩) n c) (.int k i)=if 0≤i∧i<(n:Int) then some (.pointer (some ((⟨b,off,none⟩:Addr).add (i.toNat*3)))) else none:=by kernel_rfl
theorem kL (H:bL) (a:Addr):loadT X H 118 a=(match bI H a 3 with | some l=>some (.agg l.toArray) | none=>none):=by kernel_rfl
theorem tG (nm:Nat) (ρ:Operand→Value):iJ X nm ρ (.alloc 118)=some (.pointer (some ⟨nm,0,none⟩),fun v=>.cells (PT.ofList [.int .i64 0,.int .i64 0,.int .i64 0]) [] 3 118 false false v):=by kernel_rfl
theorem tY (s:St) (a:Addr) (v:Value):storeT X s 118 a v=if v.cells.size=3 then dS s a v.cells.toList else none:=by kernel_rfl
theorem xj  (x0:Option Addr) (x1:Option Addr):iR X 123 [(0,Value.pointer x0),(1,Value.pointer x1)]=some (.agg #[.pointer x0,.pointer x1,.map none,.slice none 0 0]):=by kernel_rfl
theorem UX (b off:Nat):dO X 123 (.pointer (some ⟨b,off,none⟩)) 2=some (.pointer (some ⟨b,off+2,none⟩)):=by kernel_rfl
theorem bh (s:St) (a:Addr) (v:Value):storeT X s 121 a v=if v.cells.size=1 then dS s a v.cells.toList else none:=by kernel_rfl
theorem EK (H:bL) (a:Addr):loadT X H 121 a=aG H a:=by kernel_rfl
theorem UY (b off:Nat):dO X 123 (.pointer (some ⟨b,off,none⟩)) 3=some (.pointer (some ⟨b,off+3,none⟩)):=by kernel_rfl
theorem kX (b off:Nat):dO X 131 (.pointer (some ⟨b,off,none⟩)) 1=some (.pointer (some ⟨b,off+1,none⟩)):=by kernel_rfl
theorem lA (H:bL) (a:Addr):loadT X H 128 a=aG H a:=by kernel_rfl
theorem wC (H:bL) (a:Option Addr) (n c:Nat):mH X H 128 (.slice a n c)=some (.int .i64 n):=by kernel_rfl
theorem nS (b off n c:Nat) (k:IntKind) (i:Int):mZ X 128 (.slice (some ⟨b,off,none⟩) n c) (.int k i)=if 0≤i∧i<(n:Int) then some (.pointer (some ((⟨b,off,none⟩:Addr).add (i.toNat*8)))) else none:=by kernel_rfl
theorem vM (b off:Nat):dO X 133 (.pointer (some ⟨b,off,none⟩)) 0=some (.pointer (some ⟨b,off,none⟩)):=by kernel_rfl
theorem JY :iR X 44 []=some (.agg #[.int .i64 0,.int .i64 0,.int .i64 0]):=by kernel_rfl
theorem gY (b off:Nat):dO X 138 (.pointer (some ⟨b,off,none⟩)) 1=some (.pointer (some ⟨b,off+1,none⟩)):=by kernel_rfl
theorem dF (H:bL) (a:Addr):loadT X H 62 a=aG H a:=by kernel_rfl
theorem tL (b off:Nat):dO X 138 (.pointer (some ⟨b,off,none⟩)) 2=some (.pointer (some ⟨b,off+2,none⟩)):=by kernel_rfl
theorem oM (H:bL) (a:Addr):loadT X H 68 a=aG H a:=by kernel_rfl
theorem TW  (x0:Int) (x1:Int):iR X 44 [(0,Value.int .i64 x0),(1,Value.int .i64 x1)]=some (.agg #[.int .i64 x0,.int .i64 x1,.int .i64 0]):=by kernel_rfl
theorem zj (nm:Nat) (oT:Int) (oU:Int) (yK:Int) (Uc:Int) (Ud:Int) (Ue:Int):kW X nm 30 2 [(0,Value.agg #[.int .i64 oT,.int .i64 oU,.int .i64 yK]),(1,Value.agg #[.int .i64 Uc,.int .i64 Ud,.int .i64 Ue])]=some (.slice (some ⟨nm,0,none⟩) 2 2,fun v=>.cells (PT.ofList [.int .i64 oT,.int .i64 oU,.int .i64 yK,.int .i64 Uc,.int .i64 Ud,.int .i64 Ue]) [] 6 51 false false v):=by kernel_rfl
theorem pO (b off:Nat):dO X 138 (.pointer (some ⟨b,off,none⟩)) 0=some (.pointer (some ⟨b,off,none⟩)):=by kernel_rfl
theorem pW (H:bL) (a:Addr):loadT X H 135 a=aG H a:=by kernel_rfl
theorem wD (H:bL) (a:Option Addr) (n c:Nat):mH X H 135 (.slice a n c)=some (.int .i64 n):=by kernel_rfl
theorem Km (H:bL) (mS:Int) (mT:Int) (rC:Int) (mU:Int) (mV:Int) (rD:Int):binop X H .neq 51 (.agg #[.int .i64 mS,.int .i64 mT,.int .i64 rC]) (.agg #[.int .i64 mU,.int .i64 mV,.int .i64 rD])=some (.bool !(mS==mU&&mT==mV&&rC==rD)):=by
 rw[show ∀ u v,binop X H .neq 51 (.agg u) (.agg v)=(match jF X H 10 51 (.agg u) (.agg v) with | some b=>some (.bool !b) | none=>none) from fun _ _=>rfl,KI];cases (mS==mU) <;> cases (mT==mV) <;> cases (rC==rD) <;> rfl
theorem VD (b off:Nat):dO X 51 (.pointer (some ⟨b,off,none⟩)) 1=some (.pointer (some ⟨b,off+1,none⟩)):=by kernel_rfl
theorem rJ (b off:Nat):dO X 118 (.pointer (some ⟨b,off,none⟩)) 0=some (.pointer (some ⟨b,off,none⟩)):=by kernel_rfl
theorem DN (b off:Nat):dO X 133 (.pointer (some ⟨b,off,none⟩)) 3=some (.pointer (some ⟨b,off+5,none⟩)):=by kernel_rfl
theorem AJ (H:bL) (a:Addr):loadT X H 133 a=(match bI H a 8 with | some l=>some (.agg l.toArray) | none=>none):=by kernel_rfl
theorem DE (nm:Nat) (ρ:Operand→Value):iJ X nm ρ (.alloc 133)=some (.pointer (some ⟨nm,0,none⟩),fun v=>.cells (PT.ofList [.int .i64 0,.int .i64 0,.int .i64 0,.int .i64 0,.int .i64 0,.slice none 0 0,.slice none 0 0,.bool false]) [] 8 133 false false v):=by kernel_rfl
theorem FE (s:St) (a:Addr) (v:Value):storeT X s 133 a v=if v.cells.size=8 then dS s a v.cells.toList else none:=by kernel_rfl
theorem zO (b off:Nat):dO X 133 (.pointer (some ⟨b,off,none⟩)) 2=some (.pointer (some ⟨b,off+2,none⟩)):=by kernel_rfl
theorem Jt (nm:Nat):xX X nm 136 none=some (.map (some nm),fun v=>.map [] 0 v):=by kernel_rfl
theorem Ir (H:bL) (r:Nat) (x:Int) (ok:Bool):wF X H 136 (.map (some r)) (.int .i64 x) ok=(match mapOf H r with
  | some (es,_)=>(match mE (.int .i64 x) es 0 with
   | some (some (_,v))=>some (if ok then .tuple #[v,.bool true] else v)
   | some none=>some (if ok then .tuple #[.int .i64 0,.bool false] else .int .i64 0)
   | none=>none)
  | none=>none):=by kernel_rfl
theorem qo (s:St) (r:Nat) (x:Int) (v:Value):mJ X s 136 (.map (some r)) (.int .i64 x) v=(match s.heap.get r with
  | some (.map es c _)=>(match mE (.int .i64 x) es 0 with
   | some (some (i,_))=>some (s.put r fun bB=>.map (es.modify i fun e=>⟨.int .i64 x,v,e.born⟩) c bB)
   | some none=>some (s.put r fun bB=>.map (es++[⟨.int .i64 x,v,c⟩]) (c+1) bB)
   | none=>none)
  | _=>none):=by kernel_rfl
theorem tI (nm:Nat):kW X nm 62 0 []=some (.slice (some ⟨nm,0,none⟩) 0 0,fun v=>.cells (PT.ofList []) [] 0 3 false false v):=by kernel_rfl
theorem mC (nm:Nat) (x0:Int):kW X nm 62 1 [(0,Value.int .i64 x0)]=some (.slice (some ⟨nm,0,none⟩) 1 1,fun v=>.cells (PT.ofList [.int .i64 x0]) [] 1 3 false false v):=by kernel_rfl
theorem rL (b off:Nat):dO X 161 (.pointer (some ⟨b,off,none⟩)) 2=some (.pointer (some ⟨b,off+2,none⟩)):=by kernel_rfl
theorem vL (b off:Nat):dO X 118 (.pointer (some ⟨b,off,none⟩)) 2=some (.pointer (some ⟨b,off+2,none⟩)):=by kernel_rfl
theorem wK (s:St) (a:Addr) (v:Value):storeT X s 62 a v=if v.cells.size=1 then dS s a v.cells.toList else none:=by kernel_rfl
theorem xz  (x0:Option Addr) (x1:Option Addr) (x2:Option Addr) (x3:Option Addr):iR X 39 [(0,Value.pointer x0),(1,Value.pointer x1),(2,Value.pointer x2),(3,Value.pointer x3)]=some (.agg #[.pointer x0,.pointer x1,.pointer x2,.pointer x3]):=by kernel_rfl
theorem BM (b off:Nat):dO X 138 (.pointer (some ⟨b,off,none⟩)) 4=some (.pointer (some ⟨b,off+4,none⟩)):=by kernel_rfl
theorem BU (H:bL) (a:Addr):loadT X H 136 a=aG H a:=by kernel_rfl
theorem zP (b off:Nat):dO X 138 (.pointer (some ⟨b,off,none⟩)) 3=some (.pointer (some ⟨b,off+3,none⟩)):=by kernel_rfl
theorem gi (H:bL) (mS:Int) (mT:Int) (rC:Int) (mU:Int) (mV:Int) (rD:Int):jF X H 10 44 (.agg #[.int .i64 mS,.int .i64 mT,.int .i64 rC]) (.agg #[.int .i64 mU,.int .i64 mV,.int .i64 rD])=(match some (mS==mU) with | some true=>(match some (mT==mV) with | some true=>(match some (rC==rD) with | some true=>some true | some false=>some false | none=>none:Option Bool) | some false=>some false | none=>none:Option Bool) | some false=>some false | none=>none:Option Bool):=by kernel_rfl
theorem Kl (H:bL) (mS:Int) (mT:Int) (rC:Int) (mU:Int) (mV:Int) (rD:Int):binop X H .neq 44 (.agg #[.int .i64 mS,.int .i64 mT,.int .i64 rC]) (.agg #[.int .i64 mU,.int .i64 mV,.int .i64 rD])=some (.bool !(mS==mU&&mT==mV&&rC==rD)):=by
 rw[show ∀ u v,binop X H .neq 44 (.agg u) (.agg v)=(match jF X H 10 44 (.agg u) (.agg v) with | some b=>some (.bool !b) | none=>none) from fun _ _=>rfl,gi];cases (mS==mU) <;> cases (mT==mV) <;> cases (rC==rD) <;> rfl
theorem VA (b off:Nat):dO X 133 (.pointer (some ⟨b,off,none⟩)) 1=some (.pointer (some ⟨b,off+1,none⟩)):=by kernel_rfl
theorem aBu {nm:Nat} {n m:Int} (h1:0≤n) (h2:n≤m) (h3:m<2 ^ 40) (h4:16*m≤2 ^ 48):sT X nm 135 (.int .i64 n) (.int .i64 m)=some (.slice (some ⟨nm,0,none⟩) n.toNat m.toNat,fun v=>.cells .nil [.int .i64 0,.int .i64 0] (m.toNat*2) 198 false false v):=YL (z:=.agg #[.int .i64 0,.int .i64 0]) (by kernel_rfl) (by kernel_rfl) rfl h1 h2 h3 h4
theorem EM {nm:Nat} {n m:Int} (h1:0≤n) (h2:n≤m) (h3:m<2 ^ 40) (h4:8*m≤2 ^ 48):sT X nm 62 (.int .i64 n) (.int .i64 m)=some (.slice (some ⟨nm,0,none⟩) n.toNat m.toNat,fun v=>.cells .nil [.int .i64 0] (m.toNat*1) 3 false false v):=YL (z:=.int .i64 0) (by kernel_rfl) (by kernel_rfl) rfl h1 h2 h3 h4
theorem xr  (x0:Option Addr) (qZ qY:Nat) (x1:Option Addr) (rB rA:Nat) (x4:Option Nat) (x5:Option Nat):iR X 138 [(0,Value.slice x0 qZ qY),(1,Value.slice x1 rB rA),(4,Value.map x4),(5,Value.map x5)]=some (.agg #[.slice x0 qZ qY,.slice x1 rB rA,.pointer none,.pointer none,.map x4,.map x5,.int .i64 0]):=by kernel_rfl
theorem Qr (s:St) (a:Addr) (v:Value):storeT X s 68 a v=if v.cells.size=1 then dS s a v.cells.toList else none:=by kernel_rfl
theorem TS  (x0:Int) (x1:Option Addr) (rB rA:Nat) (x2:Option Addr) (uE uD:Nat) (x3:Option Addr) (SZ SY:Nat):iR X 177 [(0,Value.int .i64 x0),(1,Value.slice x1 rB rA),(2,Value.slice x2 uE uD),(3,Value.slice x3 SZ SY)]=some (.agg #[.int .i64 x0,.slice x1 rB rA,.slice x2 uE uD,.slice x3 SZ SY]):=by kernel_rfl
theorem aBt {nm:Nat} {n m:Int} (h1:0≤n) (h2:n≤m) (h3:m<2 ^ 40) (h4:16*m≤2 ^ 48):sT X nm 127 (.int .i64 n) (.int .i64 m)=some (.slice (some ⟨nm,0,none⟩) n.toNat m.toNat,fun v=>.cells .nil [.int .i64 0,.int .i64 0] (m.toNat*2) 210 false false v):=YL (z:=.agg #[.int .i64 0,.int .i64 0]) (by kernel_rfl) (by kernel_rfl) rfl h1 h2 h3 h4
theorem TR  (x0:Option Addr) (qZ qY:Nat):iR X 131 [(0,Value.slice x0 qZ qY)]=some (.agg #[.slice x0 qZ qY,.slice none 0 0,.slice none 0 0,.int .i64 0]):=by kernel_rfl
theorem xv  (x1:Option Addr) (rB rA:Nat):iR X 161 [(1,Value.slice x1 rB rA)]=some (.agg #[.slice none 0 0,.slice x1 rB rA,.slice none 0 0]):=by kernel_rfl
theorem rK (b off:Nat):dO X 161 (.pointer (some ⟨b,off,none⟩)) 0=some (.pointer (some ⟨b,off,none⟩)):=by kernel_rfl
theorem rU (H:bL) (a:Addr):loadT X H 159 a=aG H a:=by kernel_rfl
theorem UH (nm:Nat) (x0:Option Addr) (qZ qY:Nat):kW X nm 159 1 [(0,Value.slice x0 qZ qY)]=some (.slice (some ⟨nm,0,none⟩) 1 1,fun v=>.cells (PT.ofList [.slice x0 qZ qY]) [] 1 62 false false v):=by kernel_rfl
theorem bj (s:St) (a:Addr) (v:Value):storeT X s 159 a v=if v.cells.size=1 then dS s a v.cells.toList else none:=by kernel_rfl
theorem pP (b off:Nat):dO X 44 (.pointer (some ⟨b,off,none⟩)) 2=some (.pointer (some ⟨b,off+2,none⟩)):=by kernel_rfl
theorem yz (nm:Nat) (oT:Int) (oU:Int) (yK:Int):kW X nm 110 1 [(0,Value.agg #[.int .i64 oT,.int .i64 oU,.int .i64 yK])]=some (.slice (some ⟨nm,0,none⟩) 1 1,fun v=>.cells (PT.ofList [.int .i64 oT,.int .i64 oU,.int .i64 yK]) [] 3 51 false false v):=by kernel_rfl
theorem Qi (s:St) (a:Addr) (v:Value):storeT X s 110 a v=if v.cells.size=1 then dS s a v.cells.toList else none:=by kernel_rfl
theorem DO (b off:Nat):dO X 177 (.pointer (some ⟨b,off,none⟩)) 0=some (.pointer (some ⟨b,off,none⟩)):=by kernel_rfl
theorem vz (nm:Nat) (ρ:Operand→Value):iJ X nm ρ (.alloc 115)=some (.pointer (some ⟨nm,0,none⟩),fun v=>.cells (PT.ofList [.slice none 0 0]) [] 1 115 false false v):=by kernel_rfl
theorem Hv (H:bL) (a:Addr):loadT X H 115 a=aG H a:=by kernel_rfl
theorem JZ (nm:Nat) (oT:Int) (oU:Int) (yK:Int):kW X nm 115 1 [(0,Value.agg #[.int .i64 oT,.int .i64 oU,.int .i64 yK])]=some (.slice (some ⟨nm,0,none⟩) 1 1,fun v=>.cells (PT.ofList [.int .i64 oT,.int .i64 oU,.int .i64 yK]) [] 3 118 false false v):=by kernel_rfl
theorem Qj (s:St) (a:Addr) (v:Value):storeT X s 115 a v=if v.cells.size=1 then dS s a v.cells.toList else none:=by kernel_rfl
theorem Js (nm:Nat):xX X nm 121 none=some (.map (some nm),fun v=>.map [] 0 v):=by kernel_rfl
theorem wg (nm:Nat) (ρ:Operand→Value):iJ X nm ρ (.alloc 121)=some (.pointer (some ⟨nm,0,none⟩),fun v=>.cells (PT.ofList [.map none]) [] 1 121 false false v):=by kernel_rfl
theorem wh (nm:Nat) (ρ:Operand→Value):iJ X nm ρ (.alloc 126)=some (.pointer (some ⟨nm,0,none⟩),fun v=>.cells (PT.ofList [.nilFunc]) [] 1 126 false false v):=by kernel_rfl
theorem Qk (s:St) (a:Addr) (v:Value):storeT X s 126 a v=if v.cells.size=1 then dS s a v.cells.toList else none:=by kernel_rfl
theorem Ii (H:bL) (r:Nat):mH X H 121 (.map (some r))=(match mapOf H r with | some (es,_)=>some (.int .i64 es.length) | none=>none):=by kernel_rfl
theorem XV (H:bL) (a:Addr):loadT X H 126 a=aG H a:=by kernel_rfl
theorem MC (H:bL) (r:Nat) (x:Int) (ok:Bool):wF X H 121 (.map (some r)) (.int .i64 x) ok=(match mapOf H r with
  | some (es,_)=>(match mE (.int .i64 x) es 0 with
   | some (some (_,v))=>some (if ok then .tuple #[v,.bool true] else v)
   | some none=>some (if ok then .tuple #[.bool false,.bool false] else .bool false)
   | none=>none)
  | none=>none):=by kernel_rfl
theorem wi (nm:Nat) (ρ:Operand→Value):iJ X nm ρ (.alloc 62)=some (.pointer (some ⟨nm,0,none⟩),fun v=>.cells (PT.ofList [.slice none 0 0]) [] 1 62 false false v):=by kernel_rfl
theorem Bd (b off:Nat):dO X 123 (.pointer (some ⟨b,off,none⟩)) 0=some (.pointer (some ⟨b,off,none⟩)):=by kernel_rfl
theorem Be (b off:Nat):dO X 123 (.pointer (some ⟨b,off,none⟩)) 1=some (.pointer (some ⟨b,off+1,none⟩)):=by kernel_rfl
theorem ya  (x0:Int) (x1:Int) (x2:Int):iR X 44 [(0,Value.int .i64 x0),(1,Value.int .i64 x1),(2,Value.int .i64 x2)]=some (.agg #[.int .i64 x0,.int .i64 x1,.int .i64 x2]):=by kernel_rfl
theorem Kf (H:bL) (a:Addr):binop X H .neq 34 (.pointer (some a)) (.pointer none)=some (.bool true):=by kernel_rfl
theorem Jz (H:bL):binop X H .neq 34 (.pointer none) (.pointer none)=some (.bool false):=by kernel_rfl
theorem TU  (x0:Int) (x1:Int):iR X 198 [(0,Value.int .i64 x0),(1,Value.int .i64 x1)]=some (.agg #[.int .i64 x0,.int .i64 x1]):=by kernel_rfl
theorem TT :iR X 198 []=some (.agg #[.int .i64 0,.int .i64 0]):=by kernel_rfl
theorem GF (b off:Nat):dO X 138 (.pointer (some ⟨b,off,none⟩)) 6=some (.pointer (some ⟨b,off+6,none⟩)):=by kernel_rfl
theorem zR (b off:Nat):dO X 201 (.pointer (some ⟨b,off,none⟩)) 0=some (.pointer (some ⟨b,off,none⟩)):=by kernel_rfl
theorem zQ (b off:Nat):dO X 177 (.pointer (some ⟨b,off,none⟩)) 3=some (.pointer (some ⟨b,off+3,none⟩)):=by kernel_rfl
theorem VB (b off:Nat):dO X 133 (.pointer (some ⟨b,off,none⟩)) 4=some (.pointer (some ⟨b,off+6,none⟩)):=by kernel_rfl
theorem Kh (H:bL) (a:Addr):binop X H .neq 36 (.pointer (some a)) (.pointer none)=some (.bool true):=by kernel_rfl
theorem Kb (H:bL):binop X H .neq 36 (.pointer none) (.pointer none)=some (.bool false):=by kernel_rfl
theorem nM (b off:Nat):dO X 131 (.pointer (some ⟨b,off,none⟩)) 0=some (.pointer (some ⟨b,off,none⟩)):=by kernel_rfl
theorem nU (H:bL) (a:Addr):loadT X H 127 a=aG H a:=by kernel_rfl
theorem rV (H:bL) (a:Option Addr) (n c:Nat):mH X H 127 (.slice a n c)=some (.int .i64 n):=by kernel_rfl
theorem Ki (H:bL) (a:Addr):binop X H .neq 37 (.pointer (some a)) (.pointer none)=some (.bool true):=by kernel_rfl
theorem Kd (H:bL):binop X H .neq 37 (.pointer none) (.pointer none)=some (.bool false):=by kernel_rfl
theorem wE (H:bL) (a:Option Addr) (n c:Nat):mH X H 159 (.slice a n c)=some (.int .i64 n):=by kernel_rfl
theorem zl (nm:Nat):kW X nm 62 4 [(0,Value.int .i64 1),(1,Value.int .i64 2),(2,Value.int .i64 4),(3,Value.int .i64 8)]=some (.slice (some ⟨nm,0,none⟩) 4 4,fun v=>.cells (PT.ofList [.int .i64 1,.int .i64 2,.int .i64 4,.int .i64 8]) [] 4 3 false false v):=by kernel_rfl
theorem aBv {nm:Nat} {n m:Int} (h1:0≤n) (h2:n≤m) (h3:m<2 ^ 40) (h4:8*m≤2 ^ 48):sT X nm 199 (.int .i64 n) (.int .i64 m)=some (.slice (some ⟨nm,0,none⟩) n.toNat m.toNat,fun v=>.cells .nil [.int .u64 0] (m.toNat*1) 221 false false v):=YL (z:=.int .u64 0) (by kernel_rfl) (by kernel_rfl) rfl h1 h2 h3 h4
theorem TV  (x0:Int) (x1:Int) (x2:Option Addr) (uE uD:Nat):iR X 201 [(0,Value.int .i64 x0),(1,Value.int .i64 x1),(2,Value.slice x2 uE uD)]=some (.agg #[.int .i64 x0,.int .i64 x1,.slice x2 uE uD]):=by kernel_rfl
theorem DP (b off:Nat):dO X 201 (.pointer (some ⟨b,off,none⟩)) 1=some (.pointer (some ⟨b,off+1,none⟩)):=by kernel_rfl
theorem vY (b off n c:Nat) (k:IntKind) (i:Int):mZ X 135 (.slice (some ⟨b,off,none⟩) n c) (.int k i)=if 0≤i∧i<(n:Int) then some (.pointer (some ((⟨b,off,none⟩:Addr).add (i.toNat*2)))) else none:=by kernel_rfl
theorem KM (b off:Nat):dO X 198 (.pointer (some ⟨b,off,none⟩)) 0=some (.pointer (some ⟨b,off,none⟩)):=by kernel_rfl
theorem VC (b off:Nat):dO X 198 (.pointer (some ⟨b,off,none⟩)) 1=some (.pointer (some ⟨b,off+1,none⟩)):=by kernel_rfl
theorem UZ (b off:Nat):dO X 131 (.pointer (some ⟨b,off,none⟩)) 3=some (.pointer (some ⟨b,off+3,none⟩)):=by kernel_rfl
theorem vX (b off n c:Nat) (k:IntKind) (i:Int):mZ X 127 (.slice (some ⟨b,off,none⟩) n c) (.int k i)=if 0≤i∧i<(n:Int) then some (.pointer (some ((⟨b,off,none⟩:Addr).add (i.toNat*2)))) else none:=by kernel_rfl
theorem Bg (b off:Nat):dO X 133 (.pointer (some ⟨b,off,none⟩)) 5=some (.pointer (some ⟨b,off+7,none⟩)):=by kernel_rfl
theorem xl  (x3:Int):iR X 131 [(3,Value.int .i64 x3)]=some (.agg #[.slice none 0 0,.slice none 0 0,.slice none 0 0,.int .i64 x3]):=by kernel_rfl
theorem JX  (x0:Int) (x1:Int):iR X 210 [(0,Value.int .i64 x0),(1,Value.int .i64 x1)]=some (.agg #[.int .i64 x0,.int .i64 x1]):=by kernel_rfl
theorem zb (nm:Nat) (oT:Int) (oU:Int):kW X nm 127 1 [(0,Value.agg #[.int .i64 oT,.int .i64 oU])]=some (.slice (some ⟨nm,0,none⟩) 1 1,fun v=>.cells (PT.ofList [.int .i64 oT,.int .i64 oU]) [] 2 210 false false v):=by kernel_rfl
theorem Ql (s:St) (a:Addr) (v:Value):storeT X s 127 a v=if v.cells.size=1 then dS s a v.cells.toList else none:=by kernel_rfl
theorem xp  (x0:Int) (x5:Bool):iR X 133 [(0,Value.int .i64 x0),(5,Value.bool x5)]=some (.agg #[.int .i64 x0,.int .i64 0,.int .i64 0,.int .i64 0,.int .i64 0,.slice none 0 0,.slice none 0 0,.bool x5]):=by kernel_rfl
theorem KA (nm:Nat) (oT:Int) (oU:Int) (Tr:Int) (Ts:Int) (Tt:Int) (Tu:Option Addr) (Tw Tv:Nat) (Tx:Option Addr) (Ua Tz:Nat) (Ub:Bool):kW X nm 128 1 [(0,Value.agg #[.int .i64 oT,.int .i64 oU,.int .i64 Tr,.int .i64 Ts,.int .i64 Tt,.slice Tu Tw Tv,.slice Tx Ua Tz,.bool Ub])]=some (.slice (some ⟨nm,0,none⟩) 1 1,fun v=>.cells (PT.ofList [.int .i64 oT,.int .i64 oU,.int .i64 Tr,.int .i64 Ts,.int .i64 Tt,.slice Tu Tw Tv,.slice Tx Ua Tz,.bool Ub]) [] 8 133 false false v):=by kernel_rfl
theorem FD (s:St) (a:Addr) (v:Value):storeT X s 128 a v=if v.cells.size=1 then dS s a v.cells.toList else none:=by kernel_rfl
theorem xu :iR X 161 []=some (.agg #[.slice none 0 0,.slice none 0 0,.slice none 0 0]):=by kernel_rfl
theorem Bh (b off:Nat):dO X 138 (.pointer (some ⟨b,off,none⟩)) 5=some (.pointer (some ⟨b,off+5,none⟩)):=by kernel_rfl
theorem xq  (x0:Option Addr) (qZ qY:Nat) (x1:Option Addr) (rB rA:Nat) (x2:Option Addr) (x3:Option Addr) (x4:Option Nat) (x5:Option Nat) (x6:Int):iR X 138 [(0,Value.slice x0 qZ qY),(1,Value.slice x1 rB rA),(2,Value.pointer x2),(3,Value.pointer x3),(4,Value.map x4),(5,Value.map x5),(6,Value.int .i64 x6)]=some (.agg #[.slice x0 qZ qY,.slice x1 rB rA,.pointer x2,.pointer x3,.map x4,.map x5,.int .i64 x6]):=by kernel_rfl
theorem KK (b off:Nat):dO X 177 (.pointer (some ⟨b,off,none⟩)) 1=some (.pointer (some ⟨b,off+1,none⟩)):=by kernel_rfl
theorem KL (b off:Nat):dO X 177 (.pointer (some ⟨b,off,none⟩)) 2=some (.pointer (some ⟨b,off+2,none⟩)):=by kernel_rfl
theorem za (nm:Nat):kW X nm 127 0 []=some (.slice (some ⟨nm,0,none⟩) 0 0,fun v=>.cells (PT.ofList []) [] 0 210 false false v):=by kernel_rfl
theorem zc (nm:Nat):kW X nm 129 0 []=some (.slice (some ⟨nm,0,none⟩) 0 0,fun v=>.cells (PT.ofList []) [] 0 278 false false v):=by kernel_rfl
theorem Bf (b off:Nat):dO X 131 (.pointer (some ⟨b,off,none⟩)) 2=some (.pointer (some ⟨b,off+2,none⟩)):=by kernel_rfl
theorem Hw (H:bL) (a:Addr):loadT X H 129 a=aG H a:=by kernel_rfl
theorem xk  (x0:Option Addr) (qZ qY:Nat) (x2:Option Addr) (uE uD:Nat) (x3:Int):iR X 131 [(0,Value.slice x0 qZ qY),(2,Value.slice x2 uE uD),(3,Value.int .i64 x3)]=some (.agg #[.slice x0 qZ qY,.slice none 0 0,.slice x2 uE uD,.int .i64 x3]):=by kernel_rfl
theorem KJ (b off:Nat):dO X 161 (.pointer (some ⟨b,off,none⟩)) 1=some (.pointer (some ⟨b,off+1,none⟩)):=by kernel_rfl
theorem xw  (x1:Option Addr) (rB rA:Nat) (x2:Option Addr) (uE uD:Nat):iR X 161 [(1,Value.slice x1 rB rA),(2,Value.slice x2 uE uD)]=some (.agg #[.slice none 0 0,.slice x1 rB rA,.slice x2 uE uD]):=by kernel_rfl
theorem EE (b off n c:Nat) (k:IntKind) (i:Int):mZ X 159 (.slice (some ⟨b,off,none⟩) n c) (.int k i)=if 0≤i∧i<(n:Int) then some (.pointer (some ((⟨b,off,none⟩:Addr).add (i.toNat*1)))) else none:=by kernel_rfl
theorem Qq (s:St) (a:Addr) (v:Value):storeT X s 4 a v=if v.cells.size=1 then dS s a v.cells.toList else none:=by kernel_rfl
theorem KN (b off:Nat):dO X 201 (.pointer (some ⟨b,off,none⟩)) 2=some (.pointer (some ⟨b,off+2,none⟩)):=by kernel_rfl
theorem LY (H:bL) (a:Addr):loadT X H 199 a=aG H a:=by kernel_rfl
theorem XH (b off n c:Nat) (k:IntKind) (i:Int):mZ X 199 (.slice (some ⟨b,off,none⟩) n c) (.int k i)=if 0≤i∧i<(n:Int) then some (.pointer (some ((⟨b,off,none⟩:Addr).add (i.toNat*1)))) else none:=by kernel_rfl
theorem XW (H:bL) (a:Addr):loadT X H 221 a=aG H a:=by kernel_rfl
theorem zx (k:IntKind) (x:Int):xE X 3 221 (.int k x)=some (.int .u64 (IntKind.wrap .u64 x)):=by kernel_rfl
theorem Qn (s:St) (a:Addr) (v:Value):storeT X s 221 a v=if v.cells.size=1 then dS s a v.cells.toList else none:=by kernel_rfl
theorem xo  (x0:Int) (x1:Int) (Uf:Int) (Ug:Int) (Uh:Int) (x3:Option Addr) (SZ SY:Nat) (x4:Option Addr) (Uj Ui:Nat):iR X 133 [(0,Value.int .i64 x0),(1,Value.int .i64 x1),(2,Value.agg #[.int .i64 Uf,.int .i64 Ug,.int .i64 Uh]),(3,Value.slice x3 SZ SY),(4,Value.slice x4 Uj Ui)]=some (.agg #[.int .i64 x0,.int .i64 x1,.int .i64 Uf,.int .i64 Ug,.int .i64 Uh,.slice x3 SZ SY,.slice x4 Uj Ui,.bool false]):=by kernel_rfl
theorem TQ  (x0:Int) (x1:Int) (x2:Int):iR X 118 [(0,Value.int .i64 x0),(1,Value.int .i64 x1),(2,Value.int .i64 x2)]=some (.agg #[.int .i64 x0,.int .i64 x1,.int .i64 x2]):=by kernel_rfl
theorem JW  (x0:Int) (x2:Int):iR X 118 [(0,Value.int .i64 x0),(2,Value.int .i64 x2)]=some (.agg #[.int .i64 x0,.int .i64 0,.int .i64 x2]):=by kernel_rfl
theorem Ih (H:bL) (a:Option Addr) (n c:Nat):mH X H 110 (.slice a n c)=some (.int .i64 n):=by kernel_rfl
theorem zy (k:IntKind) (x:Int):xE X 3 226 (.int k x)=some (.int .u64 (IntKind.wrap .u64 x)):=by kernel_rfl
theorem zk (nm:Nat) (x0:Int) (x1:Int) (x2:Int):kW X nm 62 3 [(0,Value.int .i64 x0),(1,Value.int .i64 x1),(2,Value.int .i64 x2)]=some (.slice (some ⟨nm,0,none⟩) 3 3,fun v=>.cells (PT.ofList [.int .i64 x0,.int .i64 x1,.int .i64 x2]) [] 3 3 false false v):=by kernel_rfl
theorem Kg (H:bL) (a:Addr):binop X H .neq 35 (.pointer (some a)) (.pointer none)=some (.bool true):=by kernel_rfl
theorem Ka (H:bL):binop X H .neq 35 (.pointer none) (.pointer none)=some (.bool false):=by kernel_rfl
theorem Ar (H:bL) (a:Addr):binop X H .eql 193 (.pointer (some a)) (.pointer none)=some (.bool false):=by kernel_rfl
theorem Ap (H:bL):binop X H .eql 193 (.pointer none) (.pointer none)=some (.bool true):=by kernel_rfl
theorem qn (s:St) (r:Nat) (x:Int) (v:Value):mJ X s 121 (.map (some r)) (.int .i64 x) v=(match s.heap.get r with
  | some (.map es c _)=>(match mE (.int .i64 x) es 0 with
   | some (some (i,_))=>some (s.put r fun bB=>.map (es.modify i fun e=>⟨.int .i64 x,v,e.born⟩) c bB)
   | some none=>some (s.put r fun bB=>.map (es++[⟨.int .i64 x,v,c⟩]) (c+1) bB)
   | none=>none)
  | _=>none):=by kernel_rfl
theorem zw (k:IntKind) (x:Int):xE X 221 3 (.int k x)=some (.int .i64 (IntKind.wrap .i64 x)):=by kernel_rfl
theorem LX (H:bL) (a:Addr):loadT X H 198 a=(match bI H a 2 with | some l=>some (.agg l.toArray) | none=>none):=by kernel_rfl
theorem Qm (s:St) (a:Addr) (v:Value):storeT X s 198 a v=if v.cells.size=2 then dS s a v.cells.toList else none:=by kernel_rfl
theorem zN (b off:Nat):dO X 118 (.pointer (some ⟨b,off,none⟩)) 1=some (.pointer (some ⟨b,off+1,none⟩)):=by kernel_rfl
theorem zS (b off:Nat):dO X 210 (.pointer (some ⟨b,off,none⟩)) 0=some (.pointer (some ⟨b,off,none⟩)):=by kernel_rfl
theorem Bi (b off:Nat):dO X 210 (.pointer (some ⟨b,off,none⟩)) 1=some (.pointer (some ⟨b,off+1,none⟩)):=by kernel_rfl
theorem zd (nm:Nat):kW X nm 135 0 []=some (.slice (some ⟨nm,0,none⟩) 0 0,fun v=>.cells (PT.ofList []) [] 0 198 false false v):=by kernel_rfl
theorem bl (s:St) (a:Addr) (v:Value):storeT X s 210 a v=if v.cells.size=2 then dS s a v.cells.toList else none:=by kernel_rfl
theorem Im (H:bL) (a:Option Addr) (n c:Nat):mH X H 238 (.slice a n c)=some (.int .i64 n):=by kernel_rfl
theorem Gy (b off n c:Nat) (k:IntKind) (i:Int):mZ X 238 (.slice (some ⟨b,off,none⟩) n c) (.int k i)=if 0≤i∧i<(n:Int) then some (.pointer (some ((⟨b,off,none⟩:Addr).add (i.toNat*2)))) else none:=by kernel_rfl
theorem Bk (b off:Nat):dO X 241 (.pointer (some ⟨b,off,none⟩)) 1=some (.pointer (some ⟨b,off+1,none⟩)):=by kernel_rfl
theorem Bj (b off:Nat):dO X 241 (.pointer (some ⟨b,off,none⟩)) 0=some (.pointer (some ⟨b,off,none⟩)):=by kernel_rfl
theorem zf (nm:Nat) (x0:Option Addr) (qZ qY:Nat) (x1:Option Addr) (rB rA:Nat) (x2:Option Addr) (uE uD:Nat):kW X nm 159 3 [(0,Value.slice x0 qZ qY),(1,Value.slice x1 rB rA),(2,Value.slice x2 uE uD)]=some (.slice (some ⟨nm,0,none⟩) 3 3,fun v=>.cells (PT.ofList [.slice x0 qZ qY,.slice x1 rB rA,.slice x2 uE uD]) [] 3 62 false false v):=by kernel_rfl
theorem gh (H:bL) (mS:Int) (mT:Int) (mU:Int) (mV:Int):jF X H 10 198 (.agg #[.int .i64 mS,.int .i64 mT]) (.agg #[.int .i64 mU,.int .i64 mV])=(match some (mS==mU) with | some true=>(match some (mT==mV) with | some true=>some true | some false=>some false | none=>none:Option Bool) | some false=>some false | none=>none:Option Bool):=by kernel_rfl
theorem Kk (H:bL) (mS:Int) (mT:Int) (mU:Int) (mV:Int):binop X H .neq 198 (.agg #[.int .i64 mS,.int .i64 mT]) (.agg #[.int .i64 mU,.int .i64 mV])=some (.bool !(mS==mU&&mT==mV)):=by
 rw[show ∀ u v,binop X H .neq 198 (.agg u) (.agg v)=(match jF X H 10 198 (.agg u) (.agg v) with | some b=>some (.bool !b) | none=>none) from fun _ _=>rfl,gh];cases (mS==mU) <;> cases (mT==mV) <;> rfl
theorem zg (nm:Nat):kW X nm 199 0 []=some (.slice (some ⟨nm,0,none⟩) 0 0,fun v=>.cells (PT.ofList []) [] 0 221 false false v):=by kernel_rfl
theorem xx  (x0:Int) (x1:Int):iR X 241 [(0,Value.int .i64 x0),(1,Value.int .i64 x1)]=some (.agg #[.int .i64 x0,.int .i64 x1]):=by kernel_rfl
theorem zh (nm:Nat) (oT:Int) (oU:Int):kW X nm 238 1 [(0,Value.agg #[.int .i64 oT,.int .i64 oU])]=some (.slice (some ⟨nm,0,none⟩) 1 1,fun v=>.cells (PT.ofList [.int .i64 oT,.int .i64 oU]) [] 2 241 false false v):=by kernel_rfl
end Go.Dust
namespace Go.Dust
open Go.Proofs
abbrev dC:=Int×Int×Int
def cE (f:dC):List Value:=[.int .i64 f.1,.int .i64 f.2.1,.int .i64 f.2.2]
def oB (x y:dC):Bool:=decide (x.2.1<y.2.1∨(x.2.1=y.2.1∧(x.1<y.1∨(x.1=y.1∧x.2.2<y.2.2))))
noncomputable def jP (l:List dC):List dC:=l.mergeSort fun x y=>!(oB y x)
abbrev Kc:=Nat→List Value→St→Option (bN (Value×St))
def Kt:Kc:=fun _ _ _=>none
def YC:List Value→Bool
 | .slice _ n _::_=>decide (2≤n)
 | _=>false
def JU (args:List Value) (s s':St):Prop:=∃ b o n c lim:Nat,∃ C:List dC,args=[.slice (some ⟨b,o,none⟩) n c,.int .i64 0,.int .i64 n,.int .i64 lim,.func (.func 156) #[] #[]]∧bJ s 51 3 (.slice (some ⟨b,o,none⟩) n c) (C.flatMap cE)∧C.length=n∧n<1000000∧lim<1000∧dS s ⟨b,o,none⟩ ((jP C).flatMap cE)=some s'
def vp (args:List Value) (x:Nat):Prop:=args=[.int .u64 x]∧x<1000000
open Classical in
noncomputable def NB (args:List Value) (s:St):Option (bN (Value×St)):=if h:∃ s',JU args s s' then some (.ret (.tuple #[],Classical.choose h)) else none
open Classical in
noncomputable def QM (args:List Value) (s:St):Option (bN (Value×St)):=if h:∃ x,vp args x then some (.ret (.int .i64 (Lib.bitLen (Classical.choose h):Nat),s)) else none
noncomputable def KO (kc:Kc):eI:=fun f args s=>if f=11 then kc 0 args s else if f=25 then kc 1 args s else if f=219∧YC args=true then NB args s else if f=220 then QM args s else none
end Go.Dust
namespace Go.Dust
theorem aHi (x:Int):(IntKind.i64.wrap x)%18446744073709551616=x%18446744073709551616:=by
 unfold IntKind.wrap;simp only[IntKind.bits,IntKind.signed,Bool.true_and];have e1:(2:Int) ^ 64=18446744073709551616:=rfl;have e2:(2:Int) ^ (64-1)=9223372036854775808:=rfl;simp only[e1,e2,decide_eq_true_eq];split <;> omega
theorem SX {n:Int} (h1:0≤n) (h2:n<18446744073709551616):IntKind.u64.wrap n=n:=by
 unfold IntKind.wrap;simp only[IntKind.bits,IntKind.signed,Bool.false_and];have e1:(2:Int) ^ 64=18446744073709551616:=rfl;simp only[e1,Bool.false_eq_true,if_false];omega
theorem aCe (x:Int):BitVec.ofInt 64 (IntKind.i64.wrap x)=BitVec.ofInt 64 x:=by
 apply BitVec.eq_of_toNat_eq;rw[BitVec.toNat_ofInt,BitVec.toNat_ofInt];have:(((2:Nat) ^ 64:Nat):Int)=18446744073709551616:=rfl;rw[this,aHi]
theorem ZC (n:Nat):BitVec.ofInt 64 (n:Int)=BitVec.ofNat 64 n:=by
 apply BitVec.eq_of_toNat_eq;rw[BitVec.toNat_ofInt,BitVec.toNat_ofNat];omega
def xH (u sh w:Nat):Nat:=u/2 ^ sh%2 ^ w
theorem Al (u sh w:Nat):xH u sh w<2 ^ w:=Nat.mod_lt _ (Nat.two_pow_pos w)
theorem ga (u sh w i:Nat):(xH u sh w).testBit i=(decide (i<w)&&u.testBit (sh+i)):=by
 unfold xH;rw[Nat.testBit_mod_two_pow,Nat.testBit_div_two_pow,Nat.add_comm]
theorem Mj {w:Nat} (hw:w≤8):2 ^ w≤256:=by
 have:2 ^ w≤2 ^ 8:=Nat.pow_le_pow_right (by omega) hw;simpa using this
theorem v_ {u sh w:Nat} (hu:u<2 ^ 64) (hw:w≤8):IntKind.i64.wrap ((BitVec.ofInt 64 (IntKind.i64.wrap (((u/2 ^ sh:Nat):Int))) &&& BitVec.ofInt 64 ((2 ^ w-1:Nat):Int)).toNat)=(xH u sh w:Int):=by
 have h1:u/2 ^ sh<2 ^ 64:=Nat.lt_of_le_of_lt (Nat.div_le_self _ _) hu;have h3:=Mj hw;rw[aCe,ZC,ZC,BitVec.toNat_and,BitVec.toNat_ofNat,BitVec.toNat_ofNat,Nat.mod_eq_of_lt h1,Nat.mod_eq_of_lt (show 2 ^ w-1<2 ^ 64 by omega),Nat.and_two_pow_sub_one_eq_mod];have:=Al u sh w;unfold xH at this ⊢;exact aU (by omega) (by omega)
def EP (u sh w v:Nat):Nat:=((BitVec.ofNat 64 u &&& ~~~ BitVec.ofNat 64 ((2 ^ w-1)*2 ^ sh)) ||| BitVec.ofNat 64 (v*2 ^ sh)).toNat
theorem aE0 (u sh w v:Nat):EP u sh w v<2 ^ 64:=BitVec.isLt _
theorem Mp (u sh w v j:Nat) (hj:j<64):(EP u sh w v).testBit j=((u.testBit j&&!(decide (sh≤j)&&decide (j-sh<w)))||(decide (sh≤j)&&v.testBit (j-sh))):=by
 unfold EP;rw[BitVec.testBit_toNat,BitVec.getLsbD_or,BitVec.getLsbD_and,BitVec.getLsbD_not,BitVec.getLsbD_ofNat,BitVec.getLsbD_ofNat,BitVec.getLsbD_ofNat];simp only[hj,decide_true,Bool.true_and,Nat.testBit_mul_two_pow,Nat.testBit_two_pow_sub_one]
theorem Ze {u sh w v:Nat} (hs:sh+w≤64) (hv:v<2 ^ w):xH (EP u sh w v) sh w=v:=by
 apply Nat.eq_of_testBit_eq;intro i;rw[ga];by_cases h:i<w
 ·rw[Mp _ _ _ _ _ (by omega)];simp[h]
 ·simp only[h,decide_false,Bool.false_and];rw[Nat.testBit_lt_two_pow (Nat.lt_of_lt_of_le hv (Nat.pow_le_pow_right (by omega) (by omega)))]
theorem Zf {u sh EZ w v:Nat} (hs':EZ+w≤64) (hv:v<2 ^ w) (h:EZ+w≤sh∨sh+w≤EZ):xH (EP u sh w v) EZ w=xH u EZ w:=by
 apply Nat.eq_of_testBit_eq;intro i;rw[ga,ga];by_cases hi:i<w
 ·rw[Mp _ _ _ _ _ (by omega)];simp only[hi,decide_true,Bool.true_and];rcases h with h | h
  ·have:¬ sh≤EZ+i:=by omega
   simp[this]
  ·have h1:sh≤EZ+i:=by omega
   have h2:¬ EZ+i-sh<w:=by omega
   rw[Nat.testBit_lt_two_pow (x:=v) (Nat.lt_of_lt_of_le hv (Nat.pow_le_pow_right (by omega) (by omega)))];simp[h2]
 ·simp[hi]
theorem wq {w i:Nat} (hw:w=1∨w=2∨w=4∨w=8):i*w%64+w≤64:=by
 rcases hw with rfl | rfl | rfl | rfl <;> omega
theorem apart {w i j:Nat} (hw:w=1∨w=2∨w=4∨w=8) (hne:i≠j) (he:i*w/64=j*w/64):j*w%64+w≤i*w%64∨i*w%64+w≤j*w%64:=by
 rcases hw with rfl | rfl | rfl | rfl <;> omega
end Go.Dust
namespace Go.Dust
open Go.Proofs
set_option maxRecDepth 100000
abbrev ptr (b:Nat):Value:=.pointer (some ⟨b,0,none⟩)
abbrev int (n:Int):Value:=.int .i64 n
def Obj (s:St) (b:Nat) (L:List Value):Prop:=∃ e,Cells s b e L
namespace Obj
variable {F:List Nat} {s s':St} {b i:Nat} {L:List Value} {v:Value}
theorem aD (h:Obj s b L) (k:aC F s s') (hb:b∉F):Obj s' b L:=let ⟨e,h⟩:=h;⟨e,h.aD k hb⟩
theorem load (h:Obj s b L) (hi:L[i]?=some v):aG s.look ⟨b,i,none⟩=some v:=let ⟨_,h⟩:=h;h.load hi
theorem same (h:Obj s b L) (hs:Ok s) (k:aC F s s') (hb:b∉F):fJ s s' b=true:=let ⟨_,h⟩:=h;h.same hs k hb
theorem lt (h:Obj s b L) (hs:Ok s):b<s.next:=let ⟨_,h⟩:=h;h.lt hs
theorem fK (h:Obj s b L) (hs:Ok s) (hi:i<L.length) (h1:hZ v=true):∃ s',dS s ⟨b,i,none⟩ [v]=some s'∧Obj s' b (L.set i v)∧aC [b] s s':=by
 obtain⟨e,h⟩:=h;obtain⟨s',h1,h2,h3⟩:=h.fK hs hi h1;exact⟨s',h1,⟨e,h2⟩,h3⟩
theorem sl {n c m:Nat} (h:Obj s b L) (hn:L.length=n*m):Sl s m (.slice (some ⟨b,0,none⟩) n c) L:=by
 obtain⟨e,h⟩:=h;have:=Sl.Li (n:=n) (m:=m) (off:=0) (c:=c) h (by omega)
 rwa [List.drop_zero,List.take_of_length_le (by omega)] at this
end Obj
structure fM (s:St) (t u n w:Nat) (L:Nat→Nat):Prop where
 c:Obj s t [int n,int w,.slice (some ⟨u,0,none⟩) ((n*w+63)/64) ((n*w+63)/64)]
 ws:∃ U:List Nat,Obj s u (U.map fun(x:Nat)=>Value.int .u64 (x:Int))∧U.length=(n*w+63)/64∧(∀ x∈U,x<2 ^ 64)∧∀ i,i<n→xH (U.getD (i*w/64) 0) (i*w%64) w=L i
 ne:t≠u
 n0:0<n
 n1:n≤4096
 w1:w=1∨w=2∨w=4∨w=8
namespace fM
variable {F:List Nat} {s s':St} {t u n w:Nat} {L:Nat→Nat}
theorem aD (h:fM s t u n w L) (k:aC F s s') (h1:t∉F) (h2:u∉F):fM s' t u n w L:=by
 obtain⟨c,⟨U,w1,w2,w3,w4⟩,h3,h4,h5,h6⟩:=h;exact⟨c.aD k h1,⟨U,w1.aD k h2,w2,w3,w4⟩,h3,h4,h5,h6⟩
theorem w8 (h:fM s t u n w L):w≤8:=by have:=h.w1;omega
theorem Tp (h:fM s t u n w L):0<w:=by have:=h.w1;omega
theorem lt (h:fM s t u n w L) {i:Nat} (hi:i<n):L i<2 ^ w:=by
 obtain⟨U,_,_,_,w4⟩:=h.ws;rw[← w4 i hi];exact Al _ _ _
theorem idx (h:fM s t u n w L) {i:Nat} (hi:i<n):i*w/64<(n*w+63)/64:=by
 rcases h.w1 with rfl | rfl | rfl | rfl <;> omega
theorem l0 (h:fM s t u n w L):aG s.look ⟨t,0,none⟩=some (int n):=h.c.load rfl
theorem l1 (h:fM s t u n w L):aG s.look ⟨t,1,none⟩=some (int w):=h.c.load rfl
theorem l2 (h:fM s t u n w L):aG s.look ⟨t,2,none⟩=some (.slice (some ⟨u,0,none⟩) ((n*w+63)/64) ((n*w+63)/64)):=h.c.load rfl
theorem congr {L':Nat→Nat} (h:fM s t u n w L) (e:∀ i,i<n→L i=L' i):fM s t u n w L':=by
 obtain⟨c,⟨U,w1,w2,w3,w4⟩,h3,h4,h5,h6⟩:=h;exact⟨c,⟨U,w1,w2,w3,fun i hi=>(w4 i hi).trans (e i hi)⟩,h3,h4,h5,h6⟩
end fM
def mR (L:Nat→Nat) (i v:Nat):Nat→Nat:=fun j=>if j=i then v else L j
section
variable {kc:Kc} {q:Bool} {s:St} {Φ:Value→St→Prop} {t u n w:Nat} {L:Nat→Nat}
theorem tx:type_of% (B5 @RX @Kj @Ke @zR @bG):=B5 @RX @Kj @Ke @zR @bG
theorem SE (h:fM s t u n w L) (hΦ:Φ (.bool true) s):okF q X (KO kc) 172 [ptr t] s Φ:=by
 refine aW Tryz.func172 (by kernel_rfl) rfl rfl (rs:=[.tmp 2]) rfl (N:=12) rfl rfl ?_;refine aA fun Ψ mG bP=>?_;simp only[tx,seval];refine mG _ _ ?_;refine aA fun Ψ mG bP=>?_;refine cL [(2,5)] (by kernel_rfl) fun O hO bC hR=>?_;have y2:∀ a,aO O a 2=aY (a.aB 5):=hO (2,5) (by simp);simp only[tx,seval,h.l0,y2,h.n0,Int.natCast_pos,decide_true];refine hR _ _ (mG _ _ ?_);simp only[tx,seval];exact hΦ
theorem CQ:type_of% (B3 @RX @zR @bG):=B3 @RX @zR @bG
theorem Qc (h:fM s t u n w L) (i:Int) (hΦ:Φ (.bool (decide (0≤i∧i<n))) s):okF q X (KO kc) 165 [ptr t,int i] s Φ:=by
 refine aW Tryz.func165 (by kernel_rfl) rfl rfl (rs:=[.tmp 4]) rfl (N:=19) rfl rfl ?_;refine aA fun Ψ mG bP=>?_;simp only[CQ,seval];refine mG _ _ ?_;refine aA fun Ψ mG bP=>?_;refine cL [(2,7),(6,11)] (by kernel_rfl) fun O hO bC hR=>?_;have y2:∀ a,aO O a 2=aY (a.aB 7):=hO (2,7) (by simp);have y6:∀ a,aO O a 6=aY (a.aB 11):=hO (6,11) (by simp);simp only[CQ,seval];refine aH ?_ (SE h ?_)
 ·simp only[CQ,seval]
 by_cases h0:i≥0
 ·by_cases h1:i<n
  ·simp only[CQ,seval,y2,y6,h.l0,h0,h1,decide_true];refine hR _ _ (mG _ _ ?_);simp only[CQ,seval];rw[decide_eq_true ⟨h0,h1⟩] at hΦ;exact hΦ
  ·simp only[CQ,seval,y2,y6,h.l0,h0,h1,decide_true,decide_false];refine hR _ _ (mG _ _ ?_);simp only[CQ,seval];rw[decide_eq_false (by omega)] at hΦ;exact hΦ
 ·simp only[CQ,seval,y2,y6,h0,decide_false];refine hR _ _ (mG _ _ ?_);simp only[CQ,seval];rw[decide_eq_false (by omega)] at hΦ;exact hΦ
theorem Pv {w:Nat} (hw:w≤8):wJ .shl .i64 1 (w:Int)=some (int (2 ^ w:Nat))∧IntKind.i64.wrap (((2 ^ w:Nat):Int)-1)=((2 ^ w-1:Nat):Int):=by
 match w,hw with
 | 0,_ | 1,_ | 2,_ | 3,_ | 4,_ | 5,_ | 6,_ | 7,_ | 8,_=>exact⟨rfl,rfl⟩
theorem aGs:type_of% (B3 @RX @DP @bG):=B3 @RX @DP @bG
theorem tf (h:fM s t u n w L) (hΦ:Φ (int (2 ^ w-1:Nat)) s):okF q X (KO kc) 209 [ptr t] s Φ:=by
 refine aW Tryz.func209 (by kernel_rfl) rfl rfl (rs:=[.tmp 2]) rfl (N:=9) rfl rfl ?_;simp only[aGs,seval,h.l1,(Pv h.w8).1,(Pv h.w8).2];exact hΦ
theorem Wk (X:Env) (H:bL) (t:TypeId) (x y:Int):binop X H .shr t (.int .u64 x) (.int .i64 y)=wJ .shr .u64 x y:=rfl
theorem Wj (X:Env) (H:bL) (t:TypeId) (x y:Int):binop X H .shl t (.int .u64 x) (.int .i64 y)=wJ .shl .u64 x y:=rfl
theorem We (X:Env) (H:bL) (t:TypeId) (x y:Int):binop X H .and t (.int .i64 x) (.int .i64 y)=some (.int .i64 (IntKind.i64.wrap ((BitVec.ofInt 64 x &&& BitVec.ofInt 64 y).toNat))):=rfl
theorem Wg (X:Env) (H:bL) (t:TypeId) (x y:Int):binop X H .or t (.int .u64 x) (.int .u64 y)=some (.int .u64 (IntKind.u64.wrap ((BitVec.ofInt 64 x ||| BitVec.ofInt 64 y).toNat))):=rfl
theorem Wf (X:Env) (H:bL) (t:TypeId) (x y:Int):binop X H .andNot t (.int .u64 x) (.int .u64 y)=some (.int .u64 (IntKind.u64.wrap ((BitVec.ofInt 64 x &&& ~~~ BitVec.ofInt 64 y).toNat))):=rfl
theorem aG7 {u sh:Nat} (hs:sh≤64):wJ .shr .u64 (u:Int) (sh:Int)=some (.int .u64 ((u/2 ^ sh:Nat):Int)):=by
 unfold wJ;rw[if_neg (by omega),Int.toNat_natCast,show min sh IntKind.u64.bits=sh from Nat.min_eq_left hs];simp only[Int.fdiv_eq_ediv_of_nonneg _ (Int.pow_nonneg (show (0:Int)≤2 by omega))];congr 2
theorem Pw {u sh:Nat} (hs:sh≤64) (hu:u*2 ^ sh<2 ^ 64):wJ .shl .u64 (u:Int) (sh:Int)=some (.int .u64 ((u*2 ^ sh:Nat):Int)):=by
 unfold wJ;rw[if_neg (by omega),Int.toNat_natCast,show min sh IntKind.u64.bits=sh from Nat.min_eq_left hs];simp only;rw[show (u:Int)*2 ^ sh=((u*2 ^ sh:Nat):Int) from by simp,SX (by omega) (by omega)]
theorem qp {i w:Nat} (hi:i≤4096) (hw:w≤8):IntKind.i64.wrap ((i:Int)*(w:Int))=((i*w:Nat):Int):=by
 have:i*w≤4096*8:=Nat.mul_le_mul hi hw;rw[← Int.natCast_mul,aU (by omega) (by omega)]
theorem NF:type_of% (B8 @RX @DP @bG @KN @LY @XH @XW @zw):=B8 @RX @DP @bG @KN @LY @XH @XW @zw
theorem te (hs:Ok s) (h:fM s t u n w L) {i:Nat} (hi:i<n) (hΦ:∀ s',aC [] s s'→Φ (int (L i)) s'):okF q X (KO kc) 166 [ptr t,int i] s Φ:=by
 obtain⟨U,hU,hlen,hb,hL⟩:=h.ws;have O4:=h.idx hi;have O0:i*w<4096*8:=Nat.lt_of_lt_of_le (Nat.mul_lt_mul_of_pos_right hi h.Tp) (Nat.mul_le_mul h.n1 h.w8);have hu:U[i*w/64]?=some (U.getD (i*w/64) 0):=by rw[List.getD_eq_getElem?_getD,List.getElem?_eq_getElem (by omega)];rfl
 have Fx:=hb _ (List.mem_of_getElem? hu);have WO:aG s.look ⟨u,i*w/64,none⟩=some (.int .u64 ((U.getD (i*w/64) 0:Nat):Int)):=hU.load (by rw[List.getElem?_map,hu];rfl);have Ej:=v_ (sh:=i*w%64) Fx h.w8;rw[hL i hi] at Ej;have m1:=qp (i:=i) (w:=w) (by have:=h.n1;omega) h.w8;refine aW Tryz.func166 (by kernel_rfl) rfl rfl (rs:=[.tmp 4]) rfl (N:=27) rfl rfl ?_;refine aA fun Ψ mG bP=>?_;simp only[NF,seval];refine mG _ _ ?_;refine aA fun Ψ mG bP=>?_;simp only[NF,seval,h.l1,m1];refine mG _ _ ?_;refine aA fun Ψ mG bP=>?_;refine dG [(3,13),(7,13)] [t,u] [] (by kernel_rfl) (by kernel_rfl) (by rfl) fun O hO bC hR=>?_;have q1:((i*w:Nat):Int).tdiv 64=((i*w/64:Nat):Int):=rfl;have q2:((i*w:Nat):Int).tmod 64=((i*w%64:Nat):Int):=rfl;have q3:IntKind.i64.wrap ((i*w/64:Nat):Int)=((i*w/64:Nat):Int):=aU (by omega) (by omega);have q4:(0:Int)≤((i*w/64:Nat):Int):=Int.natCast_nonneg _;have q5:((i*w/64:Nat):Int)<(((n*w+63)/64:Nat):Int):=by omega
 simp only[NF,seval,h.l2,q1,q2,q3,q4,q5,WO,Wk,aG7 (u:=U.getD (i*w/64) 0) (show i*w%64≤64 by omega),bQ,Int.toNat_natCast,Nat.mul_one,Nat.zero_add,and_self,Nat.reduceBEq];refine dL ?_ (tf (h.aD (aC.skip (F:=[]) hs _) (by simp) (by simp)) ?_)
 ·simp only[NF,seval]
 simp only[NF,seval,We,Ej];refine⟨eP (h.c.same hs (aC.skip (F:=[]) hs _) (by simp)) (eP (hU.same hs (aC.skip (F:=[]) hs _) (by simp)) fO),hR _ _ (mG _ _ ?_)⟩;simp only[NF,seval];exact hΦ _ (.skip hs _)
theorem aGc (h:fM s t u n w L) (v:Int) (hΦ:Φ (.bool (decide (0≤v∧v≤(2 ^ w-1:Nat)))) s):okF q X (KO kc) 208 [ptr t,int v] s Φ:=by
 refine aW Tryz.func208 (by kernel_rfl) rfl rfl (rs:=[.tmp 4]) rfl (N:=13) rfl rfl ?_;refine aA fun Ψ mG bP=>?_;simp only[RX,seval];refine mG _ _ ?_;refine aA fun Ψ mG bP=>?_;refine cL [(2,7)] (by kernel_rfl) fun O hO bC hR=>?_;have y2:∀ a,aO O a 2=aY (a.aB 7):=hO (2,7) (by simp);by_cases h0:v≥0
 ·simp only[RX,seval,y2,h0,decide_true];refine aH ?_ (tf h ?_)
  ·simp only[RX,seval]
  simp only[RX,seval,y2];refine hR _ _ (mG _ _ ?_);simp only[RX,seval];rw[show decide (0≤v∧v≤((2 ^ w-1:Nat):Int))=decide (v≤((2 ^ w-1:Nat):Int)) from by simp[h0]] at hΦ;exact hΦ
 ·simp only[RX,seval,y2,h0,decide_false];refine hR _ _ (mG _ _ ?_);simp only[RX,seval];rw[decide_eq_false (by omega)] at hΦ;exact hΦ
theorem orN (x:BitVec 64):BitVec.ofInt 64 (IntKind.u64.wrap (x.toNat:Int))=x:=by
 have:=BitVec.isLt x;rw[SX (by omega) (by omega),ZC];simp
theorem ND:type_of% (B9 @RX @DP @bG @KN @LY @XH @XW @zx @Qn):=B9 @RX @DP @bG @KN @LY @XH @XW @zx @Qn
theorem aGb (hs:Ok s) (h:fM s t u n w L) {i v:Nat} (hi:i<n) (hv:v<2 ^ w) (hΦ:∀ s',fM s' t u n w (mR L i v)→aC [u] s s'→Φ (.tuple #[]) s'):okF q X (KO kc) 140 [ptr t,int i,int v] s Φ:=by
 obtain⟨U,hU,hlen,hb,hL⟩:=h.ws;have O4:=h.idx hi;have O0:i*w<4096*8:=Nat.lt_of_lt_of_le (Nat.mul_lt_mul_of_pos_right hi h.Tp) (Nat.mul_le_mul h.n1 h.w8);have hu:U[i*w/64]?=some (U.getD (i*w/64) 0):=by rw[List.getD_eq_getElem?_getD,List.getElem?_eq_getElem (by omega)];rfl
 have Fx:=hb _ (List.mem_of_getElem? hu);have WO:aG s.look ⟨u,i*w/64,none⟩=some (.int .u64 ((U.getD (i*w/64) 0:Nat):Int)):=hU.load (by rw[List.getElem?_map,hu];rfl);have m1:=qp (i:=i) (w:=w) (by have:=h.n1;omega) h.w8;have hal:=wq (i:=i) h.w1;have hpw:=Mj h.w8;have Ft:∀ x,x<2 ^ w→x*2 ^ (i*w%64)<2 ^ 64:=by
  intro x hx;have:x*2 ^ (i*w%64)<2 ^ w*2 ^ (i*w%64):=Nat.mul_lt_mul_of_pos_right hx (Nat.two_pow_pos _);rw[← Nat.pow_add] at this;exact Nat.lt_of_lt_of_le this (Nat.pow_le_pow_right (by omega) (by omega))
 refine aW Tryz.func140 (by kernel_rfl) rfl rfl (rs:=[]) rfl (N:=39) rfl rfl ?_;refine aA fun Ψ mG bP=>?_;simp only[ND,seval,h.l1,m1];refine mG _ _ ?_;have q1:((i*w:Nat):Int).tdiv 64=((i*w/64:Nat):Int):=rfl;have q2:((i*w:Nat):Int).tmod 64=((i*w%64:Nat):Int):=rfl;have q3:IntKind.i64.wrap ((i*w/64:Nat):Int)=((i*w/64:Nat):Int):=aU (by omega) (by omega);have q4:(0:Int)≤((i*w/64:Nat):Int):=Int.natCast_nonneg _;have q5:((i*w/64:Nat):Int)<(((n*w+63)/64:Nat):Int):=by omega
 refine aA fun Ψ mG bP=>?_;simp only[ND,seval,h.l2,q1,q3,q4,q5,bQ,Int.toNat_natCast,Nat.mul_one,Nat.zero_add,and_self];refine mG _ _ ?_;refine dG [(3,5)] [u] [] (by kernel_rfl) (by kernel_rfl) (by rfl) fun O hO bC hR=>?_;simp only[ND,seval,WO,Nat.reduceBEq];refine dL ?_ (tf (h.aD (aC.skip (F:=[]) hs _) (by simp) (by simp)) ?_)
 ·simp only[ND,seval]
 have e1:IntKind.u64.wrap ((2 ^ w-1:Nat):Int)=((2 ^ w-1:Nat):Int):=SX (by omega) (by omega);have e2:IntKind.u64.wrap ((v:Nat):Int)=((v:Nat):Int):=SX (by omega) (by omega);have e3:=Pw (u:=2 ^ w-1) (sh:=i*w%64) (by omega) (Ft _ (by omega));have e4:=Pw (u:=v) (sh:=i*w%64) (by omega) (Ft _ hv);have e5:IntKind.u64.wrap ((BitVec.ofNat 64 (U.getD (i*w/64) 0) &&& ~~~ BitVec.ofNat 64 ((2 ^ w-1)*2 ^ (i*w%64)) ||| BitVec.ofNat 64 (v*2 ^ (i*w%64))).toNat:Int)=((EP (U.getD (i*w/64) 0) (i*w%64) w v:Nat):Int):=by
  have:=BitVec.isLt (BitVec.ofNat 64 (U.getD (i*w/64) 0) &&& ~~~ BitVec.ofNat 64 ((2 ^ w-1)*2 ^ (i*w%64)) ||| BitVec.ofNat 64 (v*2 ^ (i*w%64)));rw[SX (by omega) (by omega)]
  try rfl
 obtain⟨s1,hs1,E8,hk1⟩:=(hU.aD (aC.skip (F:=[]) hs 38) (by simp)).fK (hs.skip 38) (i:=i*w/64) (v:=.int .u64 ((EP (U.getD (i*w/64) 0) (i*w%64) w v:Nat):Int)) (by rw[List.length_map];omega) rfl;simp only[ND,seval,q2,e1,e2,e3,e4,Wj,Wf,Wg,orN,ZC,e5,hs1];have hk:aC [u] s s1:=(aC.skip hs _).trans hk1;refine⟨eP (hU.same hs (aC.skip (F:=[]) hs _) (by simp)) fO,hR _ _ ?_⟩;simp only[ND,seval];refine hΦ _ ⟨h.c.aD hk (by simp;exact h.ne),⟨U.set (i*w/64) (EP (U.getD (i*w/64) 0) (i*w%64) w v),?_,?_,?_,?_⟩,h.ne,h.n0,h.n1,h.w1⟩ hk
 ·rw[List.map_set];exact E8
 ·rw[List.length_set];exact hlen
 ·intro x hx;rcases List.mem_or_eq_of_mem_set hx with hx | rfl
  ·exact hb x hx
  ·exact aE0 _ _ _ _
 ·intro j hj;have hjx:=h.idx hj;simp only[List.getD_eq_getElem?_getD,List.getElem?_set,mR];by_cases sQ:j=i
  ·subst sQ;rw[if_pos rfl,if_pos (by omega),if_pos rfl];exact Ze hal hv
  ·rw[if_neg sQ];by_cases he:i*w/64=j*w/64
   ·rw[if_pos he,if_pos (by omega)];have:=Zf (u:=U.getD (i*w/64) 0) (wq (i:=j) h.w1) hv (sh:=i*w%64) (by rcases apart h.w1 sQ he.symm with h | h <;> omega)
    rw[← hL j hj,← he];exact this
   ·rw[if_neg he,← hL j hj,List.getD_eq_getElem?_getD]
end
end Go.Dust
namespace Go.Dust
open Go.Proofs
set_option maxRecDepth 100000
abbrev Ints (s:St) (v:Value) (l:List Int):Prop:=Sl s 1 v (l.map (Value.int .i64))
theorem Ints.len {s:St} {a:Option Addr} {n c:Nat} {l:List Int} (h:Ints s (.slice a n c) l):l.length=n:=by
 have:=Sl.len h;rw[List.length_map] at this;omega
theorem Ints.get {s:St} {b off n c:Nat} {l:List Int} (h:Ints s (.slice (some ⟨b,off,none⟩) n c) l) {i:Nat} {x:Int} (hx:l[i]?=some x):aG s.look ⟨b,off+i,none⟩=some (int x):=by
 refine Sl.load h ?_;rw[List.getElem?_map,hx];rfl
def idxOf (p:Int→Bool) (l:List Int):Int:=match l.findIdx? p with
 | some i=>i
 | none=>-1
theorem idxOf_hit {p:Int→Bool} {l:List Int} {i:Nat} {x:Int} (hx:l[i]?=some x) (hp:p x=true) (hn:∀ k y,k<i→l[k]?=some y→p y=false):idxOf p l=i:=by
 unfold idxOf;have:l.findIdx? p=some i:=by
  rw[List.findIdx?_eq_some_iff_getElem];have hi:=(List.getElem?_eq_some_iff.1 hx);have L_:=hi.1;refine⟨hi.1,by rw[hi.2];exact hp,fun k hk=>?_⟩;have:=hn k _ hk (List.getElem?_eq_getElem (by omega:k<l.length));simp[this]
 rw[this]
theorem Gl {p:Int→Bool} {l:List Int} (hn:∀ (k:Nat) (y:Int),k<l.length→l[k]?=some y→p y=false):idxOf p l=-1:=by
 unfold idxOf;have:l.findIdx? p=none:=by
  rw[List.findIdx?_eq_none_iff];intro x hx;obtain⟨k,hk⟩:=List.getElem?_of_mem hx;exact hn k x (List.getElem?_eq_some_iff.1 hk).1 hk
 rw[this]
theorem Gm {p:Int→Bool} {l:List Int}:decide (idxOf p l≥0)=l.any p:=by
 unfold idxOf;cases h:l.findIdx? p with
 | none =>
  rw[List.findIdx?_eq_none_iff] at h;have:l.any p=false:=by
   rw[List.any_eq_false];intro x hx;simp[h x hx]
  simp[this]
 | some i =>
  have h':=h;rw[List.findIdx?_eq_some_iff_getElem] at h';obtain⟨hi,hp,_⟩:=h';have:l.any p=true:=List.any_eq_true.2 ⟨_,List.getElem_mem hi,hp⟩;simp[this]
section
variable {kc:Kc} {q:Bool} {s:St} {Φ:Value→St→Prop} {a:Option Addr} {n c:Nat} {l:List Int}
theorem lF:type_of% (B4 @RX @dV @dQ @bG):=B4 @RX @dV @dQ @bG
theorem aGh {f:FuncId} {ca:Array Value} {p:Int→Bool} (h:Ints s (.slice a n c) l) (vS:n<2 ^ 40)
  (hs:Ok s) (hf:∀ x,x∈l→∀ s' Ψ,aC [] s s'→(∀ s'',aC [] s' s''→Ψ (.bool (p x)) s'')→okF q X (KO kc) f ([int x]++ca.toList) s' Ψ)
  (hΦ:∀ s',aC [] s s'→Φ (int (idxOf p l)) s'):okF q X (KO kc) 118 [.slice a n c,.func (.func f) #[] ca] s Φ:=by
 have hl:=h.len;refine aW Tryz.func118 (by kernel_rfl) rfl rfl (rs:=[.tmp 4]) rfl (N:=19) rfl rfl ?_;refine aA fun bF aF bD=>?_;simp only[lF,seval];refine aF _ _ ?_;refine aA fun Ψ1 aE aL=>?_;refine aA fun Ψ2 aI bH=>?_;simp only[lF,seval];refine aI _ _ ?_;refine cJ fun Ψ3 aN pF bM=>?_;refine rW (n:=n) (fun j a' s'=>a'.aB 0=.slice a n c∧a'.aB 1=.func (.func f) #[] ca∧a'.aB 7=int n∧a'.aB 8=int j∧aC [] s s'∧∀ (k:Nat) y,k<j→l[k]?=some y→p y=false)
  (fun j a' s'=>a'.aB 0=.slice a n c∧a'.aB 1=.func (.func f) #[] ca∧a'.aB 7=int n∧a'.aB 8=int j∧aC [] s s'∧∀ (k:Nat) y,k<j+1→l[k]?=some y→p y=false) ?_ ?_ ?_ ?_ (Nat.zero_le n) ?_
 ·rintro j a' s' hj ⟨r0,r1,r7,r8,hk,hn⟩ aV bP;simp only[lF,seval,r7,r8];refine bP _ _ (decide ((j:Int)<n)) ?_ (by simp) ⟨?_,?_,?_,?_,hk,hn⟩
  all_goals simp only[lF,seval,r0,r1,r7,r8]
 ·rintro j a' s' hj ⟨r0,r1,r7,r8,hk,hn⟩ aV h1 h2 h3;obtain⟨b,off,rfl⟩:=Sl.addr h (by omega);obtain⟨x,hx⟩:∃ x,l[j]?=some x:=⟨_,List.getElem?_eq_getElem (by omega)⟩;have PK:=Ints.get (Sl.aD h hk (by simp)) hx;have g1:(0:Int)≤(j:Int):=Int.natCast_nonneg _;have g2:(j:Int)<(n:Int):=by omega
  refine aA fun Ψ4 aP cC=>?_;simp only[lF,seval,r8];refine aP _ _ ?_;refine aA fun cU aZ cK=>?_;simp only[lF,seval,r0,r1,g1,g2,bQ,Int.toNat_natCast,Nat.mul_one,PK];refine MM (fi:=#[]) (ca:=ca) ?_ ?_ (hf x (List.mem_of_getElem? hx) s' _ hk fun s'' PJ=>?_)
  ·simp only[lF,seval]
  ·simp only[lF,seval]
  try simp only[lF,seval]
  refine aZ _ _ ?_;cases hp:p x with
  | true =>
   simp only[lF,seval];refine h3 _ _ _ (by simp) (by simp) (bM _ _ _ (by simp) (by simp) (aL _ _ _ (by simp) ?_));simp only[lF,seval];rw[← idxOf_hit hx hp hn];exact hΦ _ (hk.trans PJ)
  | false =>
   simp only[lF,seval];refine h1 _ _ ⟨?_,?_,?_,?_,hk.trans PJ,fun k y hk hy=>?_⟩
   ·simp only[lF,seval,r0]
   ·simp only[lF,seval,r1]
   ·simp only[lF,seval,r7]
   ·simp only[lF,seval,r8]
   ·rcases Nat.lt_or_ge k j with h | h
    ·exact hn k y h hy
    ·obtain rfl:k=j:=by omega
     rw[hx] at hy;cases hy;exact hp
 ·rintro j a' s' hj ⟨r0,r1,r7,r8,hk,hn⟩ aV h1;simp only[lF,seval,r8];refine h1 _ _ ⟨?_,?_,?_,?_,hk,hn⟩
  ·simp only[lF,seval,r0]
  ·simp only[lF,seval,r1]
  ·simp only[lF,seval,r7]
  ·simp only[lF,seval];rw[aU (by omega) (by omega)];rfl
 ·rintro a' s' ⟨r0,r1,r7,r8,hk,hn⟩;refine pF _ _ (aE _ _ ?_);simp only[lF,seval];rw[← Gl (p:=p) (l:=l) (fun k y hk hy=>hn k y (by omega) hy)];exact hΦ _ hk
 ·refine⟨?_,?_,?_,?_,.refl hs,fun k y hk=>absurd hk (Nat.not_lt_zero k)⟩
  ·simp only[lF,seval]
  ·simp only[lF,seval]
  ·simp only[lF,seval]
  ·simp only[lF,seval]
   try rfl
theorem aGe {f:FuncId} {ca:Array Value} {p:Int→Bool} (h:Ints s (.slice a n c) l) (vS:n<2 ^ 40)
  (hs:Ok s) (hf:∀ x,x∈l→∀ s' Ψ,aC [] s s'→(∀ s'',aC [] s' s''→Ψ (.bool (p x)) s'')→okF q X (KO kc) f ([int x]++ca.toList) s' Ψ)
  (hΦ:∀ s',aC [] s s'→Φ (.bool (l.any p)) s'):okF q X (KO kc) 206 [.slice a n c,.func (.func f) #[] ca] s Φ:=by
 refine aW Tryz.func206 (by kernel_rfl) rfl rfl (rs:=[.tmp 4]) rfl (N:=9) rfl rfl ?_;refine aA fun bF aF bD=>?_;simp only[RX,seval];refine aF _ _ ?_;refine aA fun Ψ1 aE aL=>?_;simp only[RX,seval];refine aH ?_ (aGh h vS hs hf fun s' hk=>?_)
 ·simp only[RX,seval]
 simp only[RX,seval,Gm];refine aE _ _ ?_;simp only[RX,seval];exact hΦ _ hk
theorem nC:type_of% (B4 @RX @dV @dQ @bG):=B4 @RX @dV @dQ @bG
theorem aGf (x:Int) (h:Ints s (.slice a n c) l) (vS:n<2 ^ 40) (hs:Ok s)
  (hΦ:∀ s',aC [] s s'→Φ (int (idxOf (x==·) l)) s'):okF q X (KO kc) 186 [.slice a n c,int x] s Φ:=by
 have hl:=h.len;refine aW Tryz.func186 (by kernel_rfl) rfl rfl (rs:=[.tmp 4]) rfl (N:=19) rfl rfl ?_;refine aA fun bF aF bD=>?_;simp only[nC,seval];refine aF _ _ ?_;refine aA fun Ψ1 aE aL=>?_;refine aA fun Ψ2 aI bH=>?_;simp only[nC,seval];refine aI _ _ ?_;refine cJ fun Ψ3 aN pF bM=>?_;refine rW (n:=n) (fun j a' s'=>a'.aB 0=.slice a n c∧a'.aB 1=int x∧a'.aB 7=int n∧a'.aB 8=int j∧aC [] s s'∧∀ (k:Nat) y,k<j→l[k]?=some y→(x==y)=false)
  (fun j a' s'=>a'.aB 0=.slice a n c∧a'.aB 1=int x∧a'.aB 7=int n∧a'.aB 8=int j∧aC [] s s'∧∀ (k:Nat) y,k<j+1→l[k]?=some y→(x==y)=false) ?_ ?_ ?_ ?_ (Nat.zero_le n) ?_
 ·rintro j a' s' hj ⟨r0,r1,r7,r8,hk,hn⟩ aV bP;simp only[nC,seval,r7,r8];refine bP _ _ (decide ((j:Int)<n)) ?_ (by simp) ⟨?_,?_,?_,?_,hk,hn⟩
  all_goals simp only[nC,seval,r0,r1,r7,r8]
 ·rintro j a' s' hj ⟨r0,r1,r7,r8,hk,hn⟩ aV h1 h2 h3;obtain⟨b,off,rfl⟩:=Sl.addr h (by omega);obtain⟨y,hy⟩:∃ y,l[j]?=some y:=⟨_,List.getElem?_eq_getElem (by omega)⟩;have PK:=Ints.get (Sl.aD h hk (by simp)) hy;have g1:(0:Int)≤(j:Int):=Int.natCast_nonneg _;have g2:(j:Int)<(n:Int):=by omega
  refine aA fun Ψ4 aP cC=>?_;simp only[nC,seval,r8];refine aP _ _ ?_;refine aA fun cU aZ cK=>?_;simp only[nC,seval,r0,r1,g1,g2,bQ,Int.toNat_natCast,Nat.mul_one,PK];refine aZ _ _ ?_;cases hp:(x==y) with
  | true =>
   simp only[nC,seval];refine h3 _ _ _ (by simp) (by simp) (bM _ _ _ (by simp) (by simp) (aL _ _ _ (by simp) ?_));simp only[nC,seval];rw[← idxOf_hit (p:=(x==·)) hy hp hn];exact hΦ _ hk
  | false =>
   simp only[nC,seval];refine h1 _ _ ⟨?_,?_,?_,?_,hk,fun k z hk hz=>?_⟩
   ·simp only[nC,seval,r0]
   ·simp only[nC,seval,r1]
   ·simp only[nC,seval,r7]
   ·simp only[nC,seval,r8]
   ·rcases Nat.lt_or_ge k j with h | h
    ·exact hn k z h hz
    ·obtain rfl:k=j:=by omega
     rw[hy] at hz;cases hz;exact hp
 ·rintro j a' s' hj ⟨r0,r1,r7,r8,hk,hn⟩ aV h1;simp only[nC,seval,r8];refine h1 _ _ ⟨?_,?_,?_,?_,hk,hn⟩
  ·simp only[nC,seval,r0]
  ·simp only[nC,seval,r1]
  ·simp only[nC,seval,r7]
  ·simp only[nC,seval];rw[aU (by omega) (by omega)];rfl
 ·rintro a' s' ⟨r0,r1,r7,r8,hk,hn⟩;refine pF _ _ (aE _ _ ?_);simp only[nC,seval];rw[← Gl (p:=(x==·)) (l:=l) (fun k y hk hy=>hn k y (by omega) hy)];exact hΦ _ hk
 ·refine⟨?_,?_,?_,?_,.refl hs,fun k y hk=>absurd hk (Nat.not_lt_zero k)⟩
  ·simp only[nC,seval]
  ·simp only[nC,seval]
  ·simp only[nC,seval]
  ·simp only[nC,seval]
   try rfl
theorem Qe (x:Int) (h:Ints s (.slice a n c) l) (vS:n<2 ^ 40) (hs:Ok s)
  (hΦ:∀ s',aC [] s s'→Φ (.bool (l.contains x)) s'):okF q X (KO kc) 119 [.slice a n c,int x] s Φ:=by
 refine aW Tryz.func119 (by kernel_rfl) rfl rfl (rs:=[.tmp 4]) rfl (N:=9) rfl rfl ?_;refine aA fun bF aF bD=>?_;simp only[RX,seval];refine aF _ _ ?_;refine aA fun Ψ1 aE aL=>?_;simp only[RX,seval];refine aH ?_ (aGf x h vS hs fun s' hk=>?_)
 ·simp only[RX,seval]
 simp only[RX,seval,Gm];refine aE _ _ ?_;simp only[RX,seval];rw[show l.any (fun y=>x==y)=l.contains x from List.contains_eq_any_beq.symm];exact hΦ _ hk
end
open Go.Proofs
set_option maxRecDepth 100000
section
variable {kc:Kc} {q:Bool} {s:St} {Φ:Value→St→Prop} {t u n w:Nat} {L:Nat→Nat}
theorem SM:type_of% (B2 @RX @oM):=B2 @RX @oM
theorem aGa {x:Nat} (hx:aG s.look ⟨x,0,none⟩=some (ptr t)) (h:fM s t u n w L) (v:Int) (hΦ:Φ (.bool (!decide (0≤v∧v≤(2 ^ w-1:Nat)))) s):okF q X (KO kc) 207 [int v,ptr x] s Φ:=by
 refine aW Tryz.func207 (by kernel_rfl) rfl rfl (rs:=[.tmp 3]) rfl (N:=8) rfl rfl ?_;refine aA fun bF aF bD=>?_;simp only[SM,seval];refine aF _ _ ?_;refine aA fun Ψ1 aE aL=>?_;simp only[SM,seval,hx];refine aH ?_ (aGc h v ?_)
 ·simp only[SM,seval]
 simp only[SM,seval];refine aE _ _ ?_;simp only[SM,seval];exact hΦ
theorem sB:type_of% (B2 @RX @oM):=B2 @RX @oM
theorem aG9 (hs:Ok s) (h:fM s t u n w L) (i:Int) {a:Option Addr} {m c:Nat} {l:List Int} (hl:Ints s (.slice a m c) l) (hn:∀ b∈nameOf (.slice a m c),b<s.next) (hm:m<2 ^ 40)
  (hΦ:∀ s',aC [] s s'→Φ (int (if (0≤i∧i<n)∧∀ v∈l,0≤v∧v≤(2 ^ w-1:Nat) then 0 else 1)) s'):okF q X (KO kc) 139 [ptr t,int i,.slice a m c] s Φ:=by
 refine aW Tryz.func139 (by kernel_rfl) rfl rfl (rs:=[.tmp 6]) rfl (N:=21) rfl rfl ?_;refine aA fun bF aF bD=>?_;simp only[sB,seval];refine aF _ _ ?_;have k0:aC [] s (s.new fun v=>.cells (PT.ofList [ptr t]) [] 1 68 false false v):=(aC.refl hs).new (.inr (Nat.le_refl _));have c0:Obj (s.new fun v=>.cells (PT.ofList [ptr t]) [] 1 68 false false v) s.next [ptr t]:=⟨_,Cells.tU (L:=[ptr t])⟩;generalize (s.new fun v=>.cells (PT.ofList [ptr t]) [] 1 68 false false v)=s1 at k0 c0 ⊢;have hx:aG s1.look ⟨s.next,0,none⟩=some (ptr t):=c0.load rfl;have h1:=h.aD k0 (by simp) (by simp);refine aA fun Ψ1 aE aL=>?_;refine cJ fun Ψ2 aI xQ bH=>?_;refine aA fun Ψ3 aN bM=>?_;simp only[sB,seval,hx];refine aH ?_ (SE h1 ?_)
 ·simp only[sB,seval]
 simp only[sB,seval];refine aN _ _ ?_;simp only[dA,RV,RG,seval];refine aA fun Ψ4 aP cC=>?_;refine cL [(4,16)] (by kernel_rfl) fun O hO bC hR=>?_;have y4:∀ a,aO O a 4=aY (a.aB 16):=hO (4,16) (by simp);simp only[sB,seval,hx];refine aH ?_ (Qc h1 i ?_)
 ·simp only[sB,seval]
 by_cases hi:0≤i∧i<(n:Int)
 ·simp only[sB,seval,y4,hi,and_self,decide_true];refine aH ?_ (aGe (f:=207) (ca:=#[ptr s.next]) (l:=l) (p:=fun v=>!decide (0≤v∧v≤(2 ^ w-1:Nat))) (Sl.aD hl k0 (by simp)) hm k0.ok ?_ fun s2 k2=>?_)
  ·simp only[sB,seval]
  ·intro v hv s2 aV hk bP;exact aGa (mI hk (by simp) hx) (h1.aD hk (by simp) (by simp)) v (bP _ (.refl hk.ok))
  try simp only[sB,seval]
  refine hR _ _ ?_;refine aP _ _ ?_;cases ha:l.any (fun v=>!decide (0≤v∧v≤((2 ^ w-1:Nat):Int))) with
  | true =>
   simp only[sB,seval];refine bH _ _ _ (by simp) (by simp) (aL _ _ _ (by simp) ?_);simp only[sB,seval];have hno:¬ ∀ v∈l,0≤v∧v≤((2 ^ w-1:Nat):Int):=fun hall=>by
    obtain⟨v,hv,hp⟩:=List.any_eq_true.1 ha;simp[hall v hv] at hp
   have:=hΦ s2 (k0.trans k2);rw[if_neg fun hh=>hno hh.2] at this;exact this
  | false =>
   simp only[sB,seval];refine aI _ _ (aE _ _ ?_);simp only[sB,seval];have hall:∀ v∈l,0≤v∧v≤((2 ^ w-1:Nat):Int):=fun v hv=>by
    have:=List.any_eq_false.1 ha v hv;simpa using this
   have:=hΦ s2 (k0.trans k2);rw[if_pos ⟨hi,hall⟩] at this;exact this
 ·simp only[sB,seval,y4,hi,decide_false];refine hR _ _ ?_;refine aP _ _ ?_;simp only[sB,seval];refine bH _ _ _ (by simp) (by simp) (aL _ _ _ (by simp) ?_);simp only[sB,seval];have:=hΦ s1 k0;rw[if_neg fun hh=>hi hh.1] at this;exact this
theorem CX:type_of% (B2 @RX @mC):=B2 @RX @mC
theorem az (hs:Ok s) (h:fM s t u n w L) {i v:Int} {i' v':Nat} (hi:i=i') (hv:v=v') (hi':i'<n) (hv':v'<2 ^ w)
  (hΦ:∀ s',fM s' t u n w (mR L i' v')→aC [u] s s'→Φ (int 0) s'):okF q X (KO kc) 49 [ptr t,int i,int v] s Φ:=by
 subst hi hv;refine aW Tryz.func49 (by kernel_rfl) rfl rfl (rs:=[.tmp 6]) rfl (N:=20) rfl rfl ?_;refine aA fun bF aF bD=>?_;simp only[CX,seval];refine aF _ _ ?_;refine aA fun Ψ1 aE aL=>?_;refine aA fun Ψ2 aI bH=>?_;simp only[CX,seval];have k0:aC [] s (s.new fun x=>.cells (PT.ofList [int v']) [] 1 3 false false x):=(aC.refl hs).new (.inr (Nat.le_refl _));have c0:Obj (s.new fun x=>.cells (PT.ofList [int v']) [] 1 3 false false x) s.next [int v']:=⟨_,Cells.tU (L:=[int v'])⟩;generalize (s.new fun x=>.cells (PT.ofList [int v']) [] 1 3 false false x)=s1 at k0 c0 ⊢;refine aH ?_ (aG9 k0.ok (h.aD k0 (by simp) (by simp)) i' (a:=some ⟨s.next,0,none⟩) (m:=1) (c:=1) (l:=[(v':Int)]) (Obj.sl c0 rfl) (by intro b hb;simp[nameOf] at hb;subst hb;exact c0.lt k0.ok) (by omega) fun s2 k2=>?_)
 ·simp only[CX,seval]
 rw[if_pos ⟨⟨Int.natCast_nonneg _,by omega⟩,fun x hx=>by rw[List.mem_singleton.1 hx];omega⟩]
 try simp only[CX,seval]
 refine aI _ _ ?_;simp only[CX,seval];refine aE _ _ ?_;have k3:=k0.trans k2;have h3:=h.aD k3 (by simp) (by simp);refine aA fun Ψ3 aN bM=>?_;simp only[CX,seval];refine aH ?_ (aGb k2.ok h3 hi' hv' fun s4 h4 k4=>?_)
 ·simp only[CX,seval]
 try simp only[CX,seval]
 refine aN _ _ ?_;simp only[CX,seval];exact hΦ _ h4 (k3.any.trans k4)
theorem Pz (hs:Ok s) (h:fM s t u n w L) (i:Int) (hΦ:∀ s',aC [] s s'→Φ (int (if 0≤i∧i<n then(L i.toNat:Int) else -1)) s'):okF q X (KO kc) 78 [ptr t,int i] s Φ:=by
 refine aW Tryz.func78 (by kernel_rfl) rfl rfl (rs:=[.tmp 4]) rfl (N:=12) rfl rfl ?_;refine aA fun bF aF bD=>?_;simp only[RX,seval];refine aF _ _ ?_;refine aA fun Ψ1 aE aL=>?_;refine aA fun Ψ2 aI bH=>?_;simp only[RX,seval];refine aH ?_ (Qc h i ?_)
 ·simp only[RX,seval]
 by_cases hi:0≤i∧i<(n:Int)
 ·simp only[RX,seval,hi,and_self,decide_true];refine aI _ _ ?_;simp only[RX,seval];refine aE _ _ ?_;refine aA fun Ψ3 aN bM=>?_;simp only[RX,seval];obtain⟨j,rfl⟩:∃ j:Nat,i=j:=⟨i.toNat,by omega⟩;refine aH ?_ (te hs h (i:=j) (by omega) fun s' k=>?_)
  ·simp only[RX,seval]
  try simp only[RX,seval]
  refine aN _ _ ?_;simp only[RX,seval];have:=hΦ s' k;rw[if_pos hi] at this;exact this
 ·simp only[RX,seval,hi,decide_false];refine aI _ _ ?_;simp only[RX,seval];refine aL _ _ _ (by simp) ?_;simp only[RX,seval];have:=hΦ s (.refl hs);rw[if_neg hi] at this;exact this
def qM (L:Nat→Nat) (v:Int):Nat→Option Nat
 | 0=>none
 | k+1=>if (L k:Int)=v then some k else qM L v k
theorem po {L:Nat→Nat} {v:Int}:∀ {k j:Nat},j≤k→(∀ i,j≤i→i<k→¬ (L i:Int)=v)→qM L v k=qM L v j
 | 0,j,h,_=>by rw[Nat.le_zero.1 h]
 | k+1,j,h,hn=>by
  rcases Nat.lt_or_ge j (k+1) with h1 | h1
  ·rw[qM,if_neg (hn k (by omega) (by omega))];exact po (by omega) fun i h2 h3=>hn i h2 (by omega)
  ·rw[show j=k+1 by omega]
theorem lM:type_of% (B3 @RX @zR @bG):=B3 @RX @zR @bG
theorem aG8 (hs:Ok s) (h:fM s t u n w L) (b v:Int) (hΦ:∀ s',aC [] s s'→Φ (match qM L v (min (max b 0) n).toNat with
  | some i=>.tuple #[int i,int 0]
  | none=>.tuple #[int 0,int 4]) s'):okF q X (KO kc) 82 [ptr t,int b,int v] s Φ:=by
 obtain⟨m,hm⟩:∃ m:Nat,min (max b 0) (n:Int)=m:=⟨(min (max b 0) n).toNat,by omega⟩;have hmn:m≤n:=by omega
 have hn1:=h.n1;rw[hm,Int.toNat_natCast] at hΦ;refine aW Tryz.func82 (by kernel_rfl) rfl rfl (rs:=[.tmp 6,.tmp 7]) rfl (N:=30) rfl rfl ?_;refine aA fun bF aF bD=>?_;simp only[lM,seval];refine aF _ _ ?_;refine aA fun Ψ1 aE aL=>?_;refine aA fun Ψ2 aI bH=>?_;simp only[lM,seval];refine aH ?_ (SE h ?_)
 ·simp only[lM,seval]
 simp only[lM,seval];refine aI _ _ ?_;simp only[lM,seval];refine aE _ _ ?_;refine aA fun Ψ3 aN bM=>?_;refine aA fun Ψ4 aP cC=>?_;simp only[lM,seval,h.l0,hm];refine aP _ _ ?_;refine cJ fun cU aZ pU cK=>?_;rw[aU (n:=(m:Int)-1) (by omega) (by omega)];refine gB (n:=m) (fun j a' s'=>a'.aB 0=ptr t∧a'.aB 2=int v∧a'.aB 8=int (m-j-1)∧aC [] s s'∧∀ i,m-j≤i→i<m→¬ (L i:Int)=v)
  (fun j a' s'=>a'.aB 0=ptr t∧a'.aB 2=int v∧a'.aB 8=int (m-j-1)∧aC [] s s'∧∀ i,m-(j+1)≤i→i<m→¬ (L i:Int)=v) ?_ ?_ ?_ ?_ (Nat.zero_le m) ?_
 ·rintro j a' s' hj ⟨r0,r2,r8,hk,hn⟩ aV bP;simp only[lM,seval,r8];refine bP _ _ (decide ((m:Int)-j-1≥0)) ?_ (by rw[decide_eq_true_eq];omega) ⟨?_,?_,?_,hk,hn⟩
  all_goals simp only[lM,seval,r0,r2,r8]
 ·rintro j a' s' hj ⟨r0,r2,r8,hk,hn⟩ aV h1 h2 h3;have Ew:(m:Int)-j-1=((m-j-1:Nat):Int):=by omega
  refine aA fun dN bO cZ=>?_;simp only[lM,seval,r0,r8,Ew];refine aH ?_ (te hk.ok (h.aD hk (by simp) (by simp)) (i:=m-j-1) (by omega) fun s2 k2=>?_)
  ·simp only[lM,seval]
  by_cases hv:(L (m-j-1):Int)=v
  ·simp only[lM,seval,r2,hv,beq_self_eq_true];refine bO _ _ ?_;simp only[lM,seval,r8,Ew];refine h3 _ _ _ (by simp) (by simp) (cK _ _ _ (by simp) (by simp) (bM _ _ _ (by simp) ?_));simp only[lM,seval];have:=hΦ s2 (hk.trans k2);rw[po (j:=m-j-1+1) (by omega) (fun i h1 h2=>hn i (by omega) h2),qM,if_pos hv] at this;exact this
  ·have hv':((L (m-j-1):Int)==v)=false:=by simpa using hv
   simp only[lM,seval,r2,hv'];refine bO _ _ ?_;simp only[lM,seval];refine h1 _ _ ⟨?_,?_,?_,hk.trans k2,fun i h4 h5=>?_⟩
   ·simp only[lM,seval,r0]
   ·simp only[lM,seval,r2]
   ·simp only[lM,seval,r8]
   ·by_cases hi:i=m-j-1
    ·subst hi;exact hv
    ·exact hn i (by omega) h5
 ·rintro j a' s' hj ⟨r0,r2,r8,hk,hn⟩ aV h1;simp only[lM,seval,r8];refine h1 _ _ ⟨?_,?_,?_,hk,hn⟩
  ·simp only[lM,seval,r0]
  ·simp only[lM,seval,r2]
  ·simp only[lM,seval];rw[aU (by omega) (by omega)];congr 1 <;> omega
 ·rintro a' s' ⟨r0,r2,r8,hk,hn⟩;refine pU _ _ (aN _ _ ?_);simp only[lM,seval];have:=hΦ s' hk;rw[po (j:=0) (Nat.zero_le _) (fun i h1 h2=>hn i (by omega) h2),qM] at this;exact this
 ·refine⟨?_,?_,?_,.refl hs,fun i h1 h2=>by omega⟩
  ·simp only[lM,seval]
  ·simp only[lM,seval]
  ·simp only[lM,seval];congr 1 <;> omega
def qN (L:Nat→Nat) (v:Int) (k:Nat):Nat→Option Nat
 | 0=>none
 | d+1=>if (L k:Int)=v then some k else qN L v (k+1) d
theorem qq {L:Nat→Nat} {v:Int}:∀ {d k j:Nat},k≤j→j≤k+d→(∀ i,k≤i→i<j→¬ (L i:Int)=v)→qN L v k d=qN L v j (k+d-j)
 | 0,k,j,h1,h2,_=>by
  obtain rfl:j=k:=by omega
  rw[show j+0-j=0 by omega]
 | d+1,k,j,h1,h2,hn=>by
  by_cases h:j=k
  ·subst h;rw[show j+(d+1)-j=d+1 by omega]
  ·rw[qN,if_neg (hn k (Nat.le_refl _) (by omega)),qq (d:=d) (k:=k+1) (j:=j) (by omega) (by omega) fun i h3 h4=>hn i (by omega) h4];congr 1 <;> omega
def ZA (o:Option Nat):Value:=match o with
 | some i=>int i
 | none=>int 0
def ZB (o:Option Nat):Value:=match o with
 | some _=>int 0
 | none=>int 4
theorem RF (i:Nat):ZA (some i)=int i:=rfl
theorem RI (i:Nat):ZB (some i)=int 0:=rfl
theorem RE:ZA none=int 0:=rfl
theorem RH:ZB none=int 4:=rfl
theorem lJ:type_of% (B3 @RX @zR @bG):=B3 @RX @zR @bG
theorem Qb (hs:Ok s) (h:fM s t u n w L) (b v:Int) (hb:b≤1000000) (hΦ:∀ s',aC [] s s'→Φ (.tuple #[ZA (qN L v (max b 0).toNat (n-(max b 0).toNat)),ZB (qN L v (max b 0).toNat (n-(max b 0).toNat))]) s'):okF q X (KO kc) 218 [ptr t,int b,int v] s Φ:=by
 obtain⟨m,hm⟩:∃ m:Nat,max b 0=(m:Int):=⟨(max b 0).toNat,by omega⟩;have hm1:m≤1000000:=by omega
 have hn1:=h.n1;rw[hm,Int.toNat_natCast] at hΦ;refine aW Tryz.func218 (by kernel_rfl) rfl rfl (rs:=[.tmp 6,.tmp 7]) rfl (N:=28) rfl rfl ?_;refine aA fun bF aF bD=>?_;simp only[lJ,seval];refine aF _ _ ?_;refine aA fun Ψ1 aE aL=>?_;refine aA fun Ψ2 aI bH=>?_;simp only[lJ,seval];refine aH ?_ (SE h ?_)
 ·simp only[lJ,seval]
 simp only[lJ,seval];refine aI _ _ ?_;simp only[lJ,seval];refine aE _ _ ?_;refine aA fun Ψ3 aN bM=>?_;refine aA fun Ψ4 aP cC=>?_;simp only[lJ,seval,hm];refine aP _ _ ?_;refine cJ fun cU aZ pU cK=>?_;refine gB (n:=n-m) (fun j a' s'=>a'.aB 0=ptr t∧a'.aB 2=int v∧a'.aB 8=int (m+j:Nat)∧aC [] s s'∧∀ i,m≤i→i<m+j→¬ (L i:Int)=v)
  (fun j a' s'=>a'.aB 0=ptr t∧a'.aB 2=int v∧a'.aB 8=int (m+j:Nat)∧aC [] s s'∧∀ i,m≤i→i<m+(j+1)→¬ (L i:Int)=v) ?_ ?_ ?_ ?_ (Nat.zero_le (n-m)) ?_
 ·rintro j a' s' hj ⟨r0,r2,r8,hk,hn⟩ aV bP;simp only[lJ,seval,r8,r0,(h.aD hk (by simp) (by simp)).l0];refine bP _ _ (decide (((m+j:Nat):Int)<n)) ?_ (by rw[decide_eq_true_eq];omega) ⟨?_,?_,?_,hk,hn⟩
  all_goals simp only[lJ,seval,r0,r2,r8]
 ·rintro j a' s' hj ⟨r0,r2,r8,hk,hn⟩ aV h1 h2 h3;refine aA fun dN bO cZ=>?_;simp only[lJ,seval,r0,r8];refine aH ?_ (te hk.ok (h.aD hk (by simp) (by simp)) (i:=m+j) (by omega) fun s2 k2=>?_)
  ·simp only[lJ,seval]
  by_cases hv:(L (m+j):Int)=v
  ·simp only[lJ,seval,r2,hv,beq_self_eq_true];refine bO _ _ ?_;simp only[lJ,seval,r8];refine h3 _ _ _ (by simp) (by simp) (cK _ _ _ (by simp) (by simp) (bM _ _ _ (by simp) ?_));simp only[lJ,seval];have:=hΦ s2 (hk.trans k2);rw[qq (j:=m+j) (by omega) (by omega) (fun i h1 h2=>hn i h1 h2),show m+(n-m)-(m+j)=(n-m-j-1)+1 by omega,qN,if_pos hv] at this;exact this
  ·have hv':((L (m+j):Int)==v)=false:=by simpa using hv
   simp only[lJ,seval,r2,hv'];refine bO _ _ ?_;simp only[lJ,seval];refine h1 _ _ ⟨?_,?_,?_,hk.trans k2,fun i h4 h5=>?_⟩
   ·simp only[lJ,seval,r0]
   ·simp only[lJ,seval,r2]
   ·simp only[lJ,seval,r8]
   ·by_cases hi:i=m+j
    ·subst hi;exact hv
    ·exact hn i h4 (by omega)
 ·rintro j a' s' hj ⟨r0,r2,r8,hk,hn⟩ aV h1;simp only[lJ,seval,r8];refine h1 _ _ ⟨?_,?_,?_,hk,hn⟩
  ·simp only[lJ,seval,r0]
  ·simp only[lJ,seval,r2]
  ·simp only[lJ,seval];rw[aU (by omega) (by omega)];congr 1
 ·rintro a' s' ⟨r0,r2,r8,hk,hn⟩;refine pU _ _ (aN _ _ ?_);simp only[lJ,seval];have:=hΦ s' hk;rw[qq (j:=m+(n-m)) (by omega) (by omega) (fun i h1 h2=>hn i h1 h2),show m+(n-m)-(m+(n-m))=0 by omega,qN] at this;exact this
 ·refine⟨?_,?_,?_,.refl hs,fun i h1 h2=>by omega⟩
  ·simp only[lJ,seval]
  ·simp only[lJ,seval]
  ·simp only[lJ,seval];congr 1
theorem Zg (sh w:Nat):xH 0 sh w=0:=by simp[xH]
theorem aHl {k:IntKind} (n:Nat):((List.range (n*[Value.int k 0].length)).map fun i=>[Value.int k 0].getD (i % [Value.int k 0].length) undef)=(List.replicate n 0).map fun(x:Nat)=>Value.int k (x:Int):=by
 rw[List.map_replicate];apply List.ext_getElem?;intro i;simp only[List.length_singleton,Nat.mul_one,List.getElem?_map,List.getElem?_replicate];by_cases h:i<n
 ·rw[List.getElem?_range h,if_pos h,Option.map_some,Nat.mod_one];rfl
 ·rw[if_neg h,List.getElem?_eq_none (by simp;omega)];rfl
theorem NN:type_of% (B3 @RX @zl @TV):=B3 @RX @zl @TV
theorem Qa (hs:Ok s) {n w:Int} {n' w':Nat} (hn:n=n') (hw:w=w') (h0:0<n') (h1:n'≤4096) (hw1:w'=1∨w'=2∨w'=4∨w'=8)
  (hΦ:∀ s' t u,s.next≤t→s.next≤u→fM s' t u n' w' (fun _=>0)→aC [] s s'→Φ (.tuple #[ptr t,int 0]) s'):okF q X (KO kc) 98 [int n,int w] s Φ:=by
 subst hn hw;have d0:¬ (n':Int)<1:=by omega
 have d1:¬ (n':Int)>4096:=by omega
 have Ga:w'≤8:=by omega
 refine aW Tryz.func98 (by kernel_rfl) rfl rfl (rs:=[.tmp 4,.tmp 5]) rfl (N:=29) rfl rfl ?_;refine aA fun bF aF bD=>?_;simp only[NN,seval];refine aF _ _ ?_;refine aA fun Ψ1 aE aL=>?_;refine aA fun Ψ2 aI bH=>?_;refine cL [(2,8),(6,12)] (by kernel_rfl) fun O hO bC hR=>?_;have y2:∀ a,aO O a 2=aY (a.aB 8):=hO (2,8) (by simp);have y6:∀ a,aO O a 6=aY (a.aB 12):=hO (6,12) (by simp);simp only[NN,seval,d0,d1,decide_false,y2,y6];have k0:aC [] s (s.new fun x=>.cells (PT.ofList [int 1,int 2,int 4,int 8]) [] 4 3 false false x):=(aC.refl hs).new (.inr (Nat.le_refl _));have c0:Obj (s.new fun x=>.cells (PT.ofList [int 1,int 2,int 4,int 8]) [] 4 3 false false x) s.next [int 1,int 2,int 4,int 8]:=⟨_,Cells.tU (L:=[int 1,int 2,int 4,int 8])⟩;generalize (s.new fun x=>.cells (PT.ofList [int 1,int 2,int 4,int 8]) [] 4 3 false false x)=s1 at k0 c0 ⊢;refine aH ?_ (Qe (l:=[1,2,4,8]) w' (Obj.sl (n:=4) (c:=4) (m:=1) c0 rfl) (by omega) k0.ok fun s2 k2=>?_)
 ·simp only[NN,seval]
 have hc:List.contains [1,2,4,8] (w':Int)=true:=by rcases hw1 with rfl | rfl | rfl | rfl <;> rfl
 try simp only[NN,seval,y6,hc]
 refine hR _ _ (aI _ _ ?_);simp only[NN,seval];refine aE _ _ ?_;have k3:=k0.trans k2;have m1:=qp h1 Ga;have hm:n'*w'≤4096*8:=Nat.mul_le_mul h1 Ga;have e1:IntKind.i64.wrap (((n'*w':Nat):Int)+64)=((n'*w'+64:Nat):Int):=by rw[aU (by omega) (by omega)];rfl
 have e2:IntKind.i64.wrap (((n'*w'+64:Nat):Int)-1)=((n'*w'+63:Nat):Int):=by rw[aU (by omega) (by omega)];omega
 have e3:IntKind.i64.wrap (((n'*w'+63:Nat):Int).tdiv 64)=(((n'*w'+63)/64:Nat):Int):=by rw[show ((n'*w'+63:Nat):Int).tdiv 64=(((n'*w'+63)/64:Nat):Int) from rfl,aU (by omega) (by omega)]
 simp only[NN,seval,m1,e1,e2,e3,aBv (nm:=s2.next) (n:=(((n'*w'+63)/64:Nat):Int)) (m:=(((n'*w'+63)/64:Nat):Int)) (by omega) (by omega) (by omega) (by omega),Int.toNat_natCast];have k4:aC [] s2 (s2.new fun v=>.cells .nil [Value.int IntKind.u64 0] ((n'*w'+63)/64*1) 221 false false v):=(aC.refl k2.ok).new (.inr (Nat.le_refl _));have c4:Obj (s2.new fun v=>.cells .nil [Value.int IntKind.u64 0] ((n'*w'+63)/64*1) 221 false false v) s2.next ((List.replicate ((n'*w'+63)/64) 0).map fun(x:Nat)=>Value.int .u64 (x:Int)):=by
  have:=Cells.uR (s:=s2) (x:=s2.next) (e:=221) (z:=[Value.int IntKind.u64 0]) (n:=(n'*w'+63)/64);rw[aHl] at this;exact⟨_,this⟩
 have HH:(s2.new fun v=>.cells .nil [Value.int IntKind.u64 0] ((n'*w'+63)/64*1) 221 false false v).next=s2.next+2:=rfl;generalize (s2.new fun v=>.cells .nil [Value.int IntKind.u64 0] ((n'*w'+63)/64*1) 221 false false v)=s3 at k4 c4 HH ⊢;have k5:aC [] s3 (s3.new fun v=>.cells (PT.ofList [int n',int w',Value.slice (some ⟨s2.next,0,none⟩) ((n'*w'+63)/64) ((n'*w'+63)/64)]) [] 3 201 false false v):=(aC.refl k4.ok).new (.inr (Nat.le_refl _));have c5:Obj (s3.new fun v=>.cells (PT.ofList [int n',int w',Value.slice (some ⟨s2.next,0,none⟩) ((n'*w'+63)/64) ((n'*w'+63)/64)]) [] 3 201 false false v) s3.next [int n',int w',Value.slice (some ⟨s2.next,0,none⟩) ((n'*w'+63)/64) ((n'*w'+63)/64)]:=⟨_,Cells.tU (L:=[int n',int w',Value.slice (some ⟨s2.next,0,none⟩) ((n'*w'+63)/64) ((n'*w'+63)/64)])⟩;refine hΦ _ s3.next s2.next (Nat.le_trans (k3.trans k4).next (Nat.le_refl _)) k3.next ⟨c5,⟨List.replicate ((n'*w'+63)/64) 0,c4.aD k5 (by simp),List.length_replicate,fun x hx=>?_,fun i hi=>?_⟩,by omega,h0,h1,hw1⟩ ((k3.trans k4).trans k5)
 ·rw[(List.mem_replicate.1 hx).2];omega
 ·rw[List.getD_eq_getElem?_getD,List.getElem?_replicate];split <;> exact Zg _ _
end
end Go.Dust
namespace Go.Dust
structure cO where
 r:Int
 d:Int
 k:Int
 deriving DecidableEq
def cO.valid (x:cO):Bool:=decide (0≤x.r)&&decide (x.r≤15)&&decide (0≤x.d)&&decide (x.d≤200)&&decide (0≤x.k)&&decide (x.k≤3)&&(decide (x.k≠1)||decide (1≤x.r))&&(decide (x.k≠2)||decide (2≤x.r))
def cO.words (x:cO):Int:=if x.valid=true then(x.r+x.d+3)/2*2 else 0
def cO.num (x:cO):Int:=x.r+16*x.d+4096*x.k
def rZ (n:Int):cO:=⟨n.tmod 16,(n.tmod 4096).tdiv 16,n.tdiv 4096⟩
theorem cO.nX {x:cO}:x.valid=true↔(0≤x.r∧x.r≤15∧0≤x.d∧x.d≤200∧0≤x.k∧x.k≤3∧(x.k=1→1≤x.r)∧(x.k=2→2≤x.r)):=by
 unfold cO.valid;simp only[Bool.and_eq_true,Bool.or_eq_true,decide_eq_true_eq];constructor
 ·rintro⟨⟨⟨⟨⟨⟨⟨h1,h2⟩,h3⟩,h4⟩,h5⟩,h6⟩,h7⟩,h8⟩;exact⟨h1,h2,h3,h4,h5,h6,fun e=>h7.resolve_left fun h=>h e,fun e=>h8.resolve_left fun h=>h e⟩
 ·rintro⟨h1,h2,h3,h4,h5,h6,h7,h8⟩;refine⟨⟨⟨⟨⟨⟨⟨h1,h2⟩,h3⟩,h4⟩,h5⟩,h6⟩,?_⟩,?_⟩
  ·by_cases h:x.k=1
   ·exact .inr (h7 h)
   ·exact .inl h
  ·by_cases h:x.k=2
   ·exact .inr (h8 h)
   ·exact .inl h
theorem cO.CZ (x:cO):0≤x.words∧x.words≤218∧x.words%2=0:=by
 unfold cO.words;split
 ·rename_i h;have:=cO.nX.1 h;omega
 ·omega
theorem cO.uC {x:cO} (h:x.valid=true):x.words=(x.r+x.d+3)/2*2∧2≤x.words:=by
 unfold cO.words;rw[if_pos h];have:=cO.nX.1 h;omega
theorem aG6 {x:cO} (h:x.valid=true):rZ x.num=x:=by
 obtain⟨h1,h2,h3,h4,h5,h6,_,_⟩:=cO.nX.1 h;rcases x with ⟨r,d,k⟩;simp only at h1 h2 h3 h4 h5 h6;unfold rZ cO.num;simp only;have hn:0≤r+16*d+4096*k:=by omega
 rw[Int.tmod_eq_emod_of_nonneg hn,Int.tmod_eq_emod_of_nonneg hn,Int.tdiv_eq_ediv_of_nonneg hn,Int.tdiv_eq_ediv_of_nonneg (by omega)];congr 1 <;> omega
structure PH where
 nb:Nat
 nw:Nat
 st:Nat
 su:Nat
 pt:Nat
 pu:Nat
 mp:Nat
 mf:Nat
 N:Nat
 bs:Nat→Int
 bp:Nat→Int
 w:Nat→Int
 S:Nat→Nat
 Q:Nat→Nat
 M:List (Int×Int)
 born:Nat
namespace PH
variable (P:PH)
def has (a:Int):Bool:=decide (0≤a∧a%2=0∧a/2<32*P.N∧P.S (a/2).toNat=1)
def shape (a:Int):cO:=rZ (P.w (a+1).toNat)
def size (a:Int):Int:=(P.shape a).words
theorem jG {P:PH} {a:Int}:P.has a=true↔(0≤a∧a%2=0∧a/2<32*P.N∧P.S (a/2).toNat=1):=by unfold has;rw[decide_eq_true_eq]
structure bX:Prop where
 val:∀ a,P.has a=true→(P.shape a).valid=true∧a+P.size a≤64*P.N
 oJ:∀ a b,P.has a=true→P.has b=true→a<b→a+P.size a≤b
end PH
end Go.Dust
namespace Go.Dust
open Go.Proofs
set_option maxRecDepth 100000
set_option maxHeartbeats 4000000
def row (n:Nat) (f:Nat→Value):List Value:=(List.range n).map f
theorem fY (n:Nat) (f:Nat→Value):(row n f).length=n:=by simp[row]
theorem lW {n i:Nat} (f:Nat→Value) (h:i<n):(row n f)[i]?=some (f i):=by
 unfold row;rw[List.getElem?_map,List.getElem?_range h];rfl
theorem aFd {n i:Nat} (f:Nat→Value) (h:n≤i):(row n f)[i]?=none:=List.getElem?_eq_none (by rw[fY];exact h)
theorem MV {n:Nat} {f:Nat→Value} {L:List Value} (hl:L.length=n) (h:∀ i,i<n→L[i]?=some (f i)):L=row n f:=by
 apply List.ext_getElem?;intro i;by_cases hi:i<n
 ·rw[h i hi,lW f hi]
 ·rw[aFd f (by omega),List.getElem?_eq_none (by omega)]
theorem MW {n i:Nat} {f:Nat→Value} {v:Value} (h:i<n):(row n f).set i v=row n fun j=>if j=i then v else f j:=by
 refine MV (by rw[List.length_set,fY]) fun j hj=>?_;rw[List.getElem?_set,fY];by_cases e:i=j
 ·subst e;rw[if_pos rfl,if_pos h,if_pos rfl]
 ·rw[if_neg e,if_neg (fun h=>e h.symm),lW f hj]
def cy (es:List MapEntry) (aR:Nat):Prop:=(∀ e∈es,e.born<aR)∧(es.map fun e=>e.born).Nodup
def fV (s:St) (b:Nat) (M:List (Int×Value)):Prop:=∃ es aR bB,s.heap.get b=some (.map es aR bB)∧(es.map (fun e=>(e.key,e.val))=M.map (fun p=>(int p.1,p.2))∧cy es aR)
theorem yx {es:List MapEntry} {c:Nat} {x y:Value} (h:cy es c):cy (es++[⟨x,y,c⟩]) (c+1):=by
 obtain⟨h,hn⟩:=h;refine⟨?_,by
  rw[List.map_append,List.nodup_append];refine⟨hn,by simp,fun a ha b hb=>?_⟩;obtain⟨e,he,rfl⟩:=List.mem_map.1 ha;simp only[List.map_cons,List.map_nil,List.mem_singleton] at hb;subst hb;exact Nat.ne_of_lt (h e he)⟩
 intro e he;rcases List.mem_append.1 he with h1 | h1
 ·have:=h e h1;omega
 ·cases List.mem_singleton.1 h1;exact Nat.lt_succ_self _
theorem fV.aD {F:List Nat} {s s':St} {b:Nat} {M:List (Int×Value)} (h:fV s b M) (k:aC F s s') (hb:b∉F):fV s' b M:=by
 obtain⟨es,aR,bB,h1,h2⟩:=h;exact⟨es,aR,bB,k.dE _ _ h1 hb,h2⟩
theorem fV.same {F:List Nat} {s s':St} {b:Nat} {M:List (Int×Value)} (h:fV s b M) (hs:Ok s) (k:aC F s s') (hb:b∉F):fJ s s' b=true:=by
 obtain⟨es,aR,bB,h1,h2⟩:=h;exact MY h1 rfl hs k hb
theorem fV.lt {s:St} {b:Nat} {M:List (Int×Value)} (h:fV s b M) (hs:Ok s):b<s.next:=by
 obtain⟨es,aR,bB,h1,h2⟩:=h;exact hs.lt h1
structure bK (s:St) (h:Nat) (P:PH):Prop where
 c:Obj s h [.slice (some ⟨P.nb,0,none⟩) P.N P.N,.slice (some ⟨P.nw,0,none⟩) (64*P.N) (64*P.N),ptr P.st,ptr P.pt,.map (some P.mp),.map (some P.mf),int P.born]
 cb:Obj s P.nb (row (2*P.N) fun i=>int (if i%2=0 then P.bs (i/2) else P.bp (i/2)))
 cw:Obj s P.nw (row (64*P.N) fun i=>int (P.w i))
 ts:fM s P.st P.su (32*P.N) 1 P.S
 tp:fM s P.pt P.pu (32*P.N) 1 P.Q
 mp:fV s P.mp (P.M.map fun p=>(p.1,int p.2))
 mf:fV s P.mf []
 nd:[h,P.nb,P.nw,P.st,P.su,P.pt,P.pu,P.mp,P.mf].Nodup
 n2:2≤P.N
 bY:P.N≤64
 wr:∀ i,-9223372036854775808≤P.w i∧P.w i≤9223372036854775807
def PH.aS (h:Nat) (P:PH):List Nat:=[h,P.nb,P.nw,P.st,P.su,P.pt,P.pu,P.mp,P.mf]
namespace bK
variable {F:List Nat} {s s':St} {h:Nat} {P:PH}
theorem aD (H:bK s h P) (k:aC F s s') (hF:∀ x∈P.aS h,x∉F):bK s' h P:=by
 obtain⟨c,cb,cw,ts,tp,mp,mf,nd,n2,bY,wr⟩:=H;have f:=fun x hx=>hF x hx;simp only[PH.aS,List.mem_cons,List.not_mem_nil,or_false] at f;exact⟨c.aD k (f _ (by simp)),cb.aD k (f _ (by simp)),cw.aD k (f _ (by simp)),ts.aD k (f _ (by simp)) (f _ (by simp)),tp.aD k (f _ (by simp)) (f _ (by simp)),mp.aD k (f _ (by simp)),mf.aD k (f _ (by simp)),nd,n2,bY,wr⟩
theorem aJ (H:bK s h P) (k:aC [] s s'):bK s' h P:=H.aD k fun _ _=>by simp
theorem l0 (H:bK s h P):aG s.look ⟨h,0,none⟩=some (.slice (some ⟨P.nb,0,none⟩) P.N P.N):=H.c.load rfl
theorem l1 (H:bK s h P):aG s.look ⟨h,1,none⟩=some (.slice (some ⟨P.nw,0,none⟩) (64*P.N) (64*P.N)):=H.c.load rfl
theorem l2 (H:bK s h P):aG s.look ⟨h,2,none⟩=some (ptr P.st):=H.c.load rfl
theorem l3 (H:bK s h P):aG s.look ⟨h,3,none⟩=some (ptr P.pt):=H.c.load rfl
theorem l4 (H:bK s h P):aG s.look ⟨h,4,none⟩=some (.map (some P.mp)):=H.c.load rfl
theorem l6 (H:bK s h P):aG s.look ⟨h,6,none⟩=some (int P.born):=H.c.load rfl
theorem lw (H:bK s h P) {i:Nat} (hi:i<64*P.N):aG s.look ⟨P.nw,i,none⟩=some (int (P.w i)):=H.cw.load (lW _ hi)
theorem lb (H:bK s h P) {i:Nat} (hi:i<P.N):aG s.look ⟨P.nb,i*2,none⟩=some (int (P.bs i)):=by
 have:=H.cb.load (lW (n:=2*P.N) (i:=i*2) _ (by omega));simpa using this
theorem lp (H:bK s h P) {i:Nat} (hi:i<P.N):aG s.look ⟨P.nb,i*2+1,none⟩=some (int (P.bp i)):=by
 have:=H.cb.load (lW (n:=2*P.N) (i:=i*2+1) _ (by omega));rw[this,if_neg (by omega),show (i*2+1)/2=i by omega]
end bK
section
variable {kc:Kc} {q:Bool} {s:St} {Φ:Value→St→Prop} {h:Nat} {P:PH}
theorem ub:type_of% (B6 @RX @Kf @Jz @pO @pW @wD):=B6 @RX @Kf @Jz @pO @pW @wD
theorem vR (H:bK s h P) (hΦ:Φ (.bool true) s):okF q X (KO kc) 77 [ptr h] s Φ:=by
 have n2:=H.n2;have hp:((P.N:Nat):Int)>0:=by omega
 refine aW Tryz.func77 (by kernel_rfl) rfl rfl (rs:=[.tmp 2]) rfl (N:=13) rfl rfl ?_;refine aA fun bF aF bD=>?_;simp only[ub,seval];refine aF _ _ ?_;refine aA fun Ψ1 aE aL=>?_;refine cL [(2,5)] (by kernel_rfl) fun O hO bC hR=>?_;have y2:∀ a,aO O a 2=aY (a.aB 5):=hO (2,5) (by simp);simp only[ub,seval,y2,H.l0,hp,decide_true];refine hR _ _ (aE _ _ ?_);simp only[ub,seval];exact hΦ
theorem uZ:type_of% (B3 @RX @tL @oM):=B3 @RX @tL @oM
theorem LD (hs:Ok s) (H:bK s h P) (a:Int) (ha:-9223372036854775808≤a∧a≤9223372036854775807) (hΦ:∀ s',aC [] s s'→Φ (.bool (P.has a)) s'):okF q X (KO kc) 14 [ptr h,int a] s Φ:=by
 refine aW Tryz.func14 (by kernel_rfl) rfl rfl (rs:=[.tmp 4]) rfl (N:=26) rfl rfl ?_;refine aA fun bF aF bD=>?_;simp only[uZ,seval];refine aF _ _ ?_;refine aA fun Ψ1 aE aL=>?_;refine cL [(2,7),(6,11),(11,16)] (by kernel_rfl) fun O hO bC hR=>?_;have y2:∀ a,aO O a 2=aY (a.aB 7):=hO (2,7) (by simp);have y6:∀ a,aO O a 6=aY (a.aB 11):=hO (6,11) (by simp);have kV:∀ a,aO O a 11=aY (a.aB 16):=hO (11,16) (by simp);simp only[uZ,seval];refine aH ?_ (vR H ?_)
 ·simp only[uZ,seval]
 by_cases h0:a≥0
 ·have e1:a.tmod 2=a%2:=Int.tmod_eq_emod_of_nonneg h0;have e2:IntKind.i64.wrap (a.tdiv 2)=a/2:=by rw[Int.tdiv_eq_ediv_of_nonneg h0,aU (by omega) (by omega)]
  by_cases h1:a%2=0
  ·simp only[uZ,seval,y2,y6,kV,H.l2,h0,decide_true,e1,h1,beq_self_eq_true,e2];refine aH ?_ (Pz hs H.ts (a/2) fun s' k=>?_)
   ·simp only[uZ,seval]
   by_cases h2:a/2<((32*P.N:Nat):Int)
   ·have c1:(0≤a/2∧a/2<((32*P.N:Nat):Int)):=⟨by omega,h2⟩;rw[if_pos c1]
    try simp only[uZ,seval,kV]
    refine hR _ _ (aE _ _ ?_);simp only[uZ,seval];have e3:((P.S (a/2).toNat:Int)==1)=P.has a:=by
     rw[Bool.eq_iff_iff,PH.jG,beq_iff_eq];constructor
     ·intro h;exact⟨h0,h1,by omega,by omega⟩
     ·rintro⟨_,_,_,h⟩;omega
    rw[e3];exact hΦ _ k
   ·rw[if_neg (fun h=>h2 h.2)]
    try simp only[uZ,seval,kV]
    refine hR _ _ (aE _ _ ?_);simp only[uZ,seval];have e3:P.has a=false:=by
     cases hh:P.has a with
     | false=>rfl
     | true=>have:=PH.jG.1 hh;omega
    have:=hΦ _ k;rw[e3] at this;exact this
  ·have e3:P.has a=false:=by
    cases hh:P.has a with
    | false=>rfl
    | true=>have:=PH.jG.1 hh;omega
   have e4:(a%2==0)=false:=by simpa using h1
   simp only[uZ,seval,y2,y6,kV,h0,decide_true,e1,e4];refine hR _ _ (aE _ _ ?_);simp only[uZ,seval];have:=hΦ _ (.refl hs);rw[e3] at this;exact this
 ·have e3:P.has a=false:=by
   cases hh:P.has a with
   | false=>rfl
   | true=>have:=PH.jG.1 hh;omega
  simp only[uZ,seval,y2,y6,kV,h0,decide_false];refine hR _ _ (aE _ _ ?_);simp only[uZ,seval];have:=hΦ _ (.refl hs);rw[e3] at this;exact this
theorem PG (hs:Ok s) (H:bK s h P) (a:Int) (ha:-9223372036854775808≤a∧a≤9223372036854775807) (hΦ:∀ s',aC [] s s'→Φ (int (if P.has a=true then 0 else 4)) s'):okF q X (KO kc) 75 [ptr h,int a] s Φ:=by
 refine aW Tryz.func75 (by kernel_rfl) rfl rfl (rs:=[.tmp 4]) rfl (N:=14) rfl rfl ?_;refine aA fun bF aF bD=>?_;simp only[RX,seval];refine aF _ _ ?_;refine aA fun Ψ1 aE aL=>?_;refine cJ fun Ψ2 aI xQ bH=>?_;refine aA fun Ψ3 aN bM=>?_;simp only[RX,seval];refine aH ?_ (vR H ?_)
 ·simp only[RX,seval]
 simp only[RX,seval];refine aN _ _ ?_;simp only[dA,RV,RG,seval];refine aA fun Ψ4 aP cC=>?_;simp only[RX,seval];refine aH ?_ (LD hs H a ha fun s' k=>?_)
 ·simp only[RX,seval]
 have:=hΦ _ k;cases hh:P.has a with
 | true =>
  rw[hh] at this
  try simp only[RX,seval]
  refine aP _ _ ?_;simp only[RX,seval];refine aI _ _ (aE _ _ ?_);simp only[RX,seval];exact this
 | false =>
  rw[hh] at this
  try simp only[RX,seval]
  refine aP _ _ ?_;simp only[RX,seval];refine bH _ _ _ (by simp) (by simp) (aL _ _ _ (by simp) ?_);simp only[RX,seval];exact this
theorem cI {s:St} (hs:Ok s) {L:List Value} {n e:Nat} (hn:L.length=n):∃ s1,(s.new fun v=>.cells (PT.ofList L) [] n e false false v)=s1∧aC [] s s1∧Obj s1 s.next L∧s1.next=s.next+2:=by
 subst hn;exact⟨_,rfl,(aC.refl hs).new (.inr (Nat.le_refl _)),⟨_,Cells.tU⟩,rfl⟩
abbrev pK (x:cO):Value:=.agg #[int x.r,int x.d,int x.k]
theorem Obj.bI {s:St} {b i k:Nat} {L:List Value} (h:Obj s b L) (hi:i+k≤L.length):bI s.look ⟨b,i,none⟩ k=some ((L.drop i).take k):=let ⟨_,h⟩:=h;h.bI hi
theorem Obj.storeAll {s:St} {b:Nat} {L vs:List Value} (h:Obj s b L) (hs:Ok s) (hi:vs.length=L.length) (h1:vs.all hZ=true):∃ s',dS s ⟨b,0,none⟩ vs=some s'∧Obj s' b vs∧aC [b] s s':=by
 obtain⟨e,h⟩:=h;obtain⟨s',h1,h2,h3⟩:=h.store hs (i:=0) (vs:=vs) (by omega) h1;have:uX L 0 vs=vs:=by
  unfold uX;rw[List.take_zero,List.nil_append,Nat.zero_add,hi,List.drop_length,List.append_nil]
 rw[this] at h2;exact⟨s',h1,⟨e,h2⟩,h3⟩
theorem Sk {x:Int} (h:-9223372036854775808≤x∧x≤9223372036854775807) (k:Int) (hk:0<k):IntKind.i64.wrap (x.tdiv k)=x.tdiv k:=by
 rcases Int.lt_or_le x 0 with h0 | h0
 ·have h1:=Int.neg_tdiv (a:=-x) (b:=k);rw[Int.neg_neg] at h1;have h2:0≤(-x).tdiv k:=Int.tdiv_nonneg (by omega) (by omega);have h3:(-x).tdiv k≤-x:=Int.tdiv_le_self _ (by omega);exact aU (by omega) (by omega)
 ·have h2:0≤x.tdiv k:=Int.tdiv_nonneg h0 (by omega);have h3:x.tdiv k≤x:=Int.tdiv_le_self _ h0;exact aU (by omega) (by omega)
theorem ua:type_of% (B5 @RX @mB @ya @lE @gL):=B5 @RX @mB @ya @lE @gL
theorem WA (hs:Ok s) (x:Int) (hx:-9223372036854775808≤x∧x≤9223372036854775807) (hΦ:∀ s',aC [] s s'→Φ (pK (rZ x)) s'):okF q X (KO kc) 76 [int x] s Φ:=by
 have hm:-9223372036854775808≤x.tmod 4096∧x.tmod 4096≤9223372036854775807:=by
  have:=Int.natAbs_tmod x 4096;have:=Nat.mod_lt x.natAbs (show 0<(4096:Int).natAbs by decide);omega
 refine aW Tryz.func76 (by kernel_rfl) rfl rfl (rs:=[.cell 2 44]) rfl (N:=11) rfl rfl ?_;refine aA fun bF aF bD=>?_;simp only[ua,seval];obtain⟨s1,e1,k1,c1,_⟩:=cI hs (L:=[int 0,int 0,int 0]) (n:=3) (e:=44) rfl;rw[e1];refine aF _ _ ?_;refine aA fun Ψ1 aE aL=>?_;obtain⟨s2,h2,c2,k2⟩:=c1.storeAll k1.ok (vs:=[int (rZ x).r,int (rZ x).d,int (rZ x).k]) rfl rfl;have a1:=Sk hx 4096 (by omega);have a2:=Sk hm 16 (by omega);simp only[rZ] at h2 c2;simp only[ua,seval,a1,a2,h2];refine aE _ _ ?_;have k3:aC [] s s2:=k1.step k2 fun g hg=>.inr (by rw[List.mem_singleton.1 hg];exact hs.fresh _ (Nat.le_refl _));have h3:=c2.bI (i:=0) (k:=3) (Nat.le_refl _);simp only[ua,seval,h3,List.drop_zero,List.take];exact hΦ _ k3
theorem Si:type_of% (B5 @RX @kJ @bG @mD @pP):=B5 @RX @kJ @bG @mD @pP
theorem J8 (hs:Ok s) (x:cO) (hx:x.valid=true) (hΦ:∀ s',aC [] s s'→Φ (int x.num) s'):okF q X (KO kc) 171 [pK x] s Φ:=by
 have hv:=cO.nX.1 hx;refine aW Tryz.func171 (by kernel_rfl) rfl rfl (rs:=[.tmp 2]) rfl (N:=13) rfl rfl ?_;refine aA fun bF aF bD=>?_;simp only[Si,seval];obtain⟨s1,e1,k1,c1,_⟩:=cI hs (L:=[int x.r,int x.d,int x.k]) (n:=3) (e:=44) rfl;rw[e1];refine aF _ _ ?_;have l0:aG s1.look ⟨s.next,0,none⟩=some (int x.r):=c1.load rfl;have l1:aG s1.look ⟨s.next,1,none⟩=some (int x.d):=c1.load rfl;have l2:aG s1.look ⟨s.next,2,none⟩=some (int x.k):=c1.load rfl;simp only[Si,seval,l0,l1,l2,Nat.zero_add];rw[aU (n:=16*x.d) (by omega) (by omega),aU (n:=x.r+16*x.d) (by omega) (by omega),aU (n:=4096*x.k) (by omega) (by omega),aU (by omega) (by omega)];exact hΦ _ k1
theorem nB:type_of% (B5 @RX @kJ @bG @mD @pP):=B5 @RX @kJ @bG @mD @pP
theorem Ec (hs:Ok s) (x:cO) (hΦ:∀ s',aC [] s s'→Φ (.bool x.valid) s'):okF q X (KO kc) 168 [pK x] s Φ:=by
 refine aW Tryz.func168 (by kernel_rfl) rfl rfl (rs:=[.tmp 2]) rfl (N:=51) rfl rfl ?_;refine aA fun bF aF bD=>?_;simp only[nB,seval];obtain⟨s1,e1,k1,c1,_⟩:=cI hs (L:=[int x.r,int x.d,int x.k]) (n:=3) (e:=44) rfl;rw[e1];refine aF _ _ ?_;have l0:aG s1.look ⟨s.next,0,none⟩=some (int x.r):=c1.load rfl;have l1:aG s1.look ⟨s.next,1,none⟩=some (int x.d):=c1.load rfl;have l2:aG s1.look ⟨s.next,2,none⟩=some (int x.k):=c1.load rfl;have eD:=hΦ _ k1;unfold cO.valid at eD;refine aA fun Ψ1 aE aL=>?_;refine cL [(3,6),(8,11),(13,16),(18,21),(23,26),(28,31),(32,35),(38,41),(42,45)] (by kernel_rfl) fun O hO bC hR=>?_;have y3:∀ a,aO O a 3=aY (a.aB 6):=hO (3,6) (by simp);have y8:∀ a,aO O a 8=aY (a.aB 11):=hO (8,11) (by simp);have iV:∀ a,aO O a 13=aY (a.aB 16):=hO (13,16) (by simp);have nE:∀ a,aO O a 18=aY (a.aB 21):=hO (18,21) (by simp);have yL:∀ a,aO O a 23=aY (a.aB 26):=hO (23,26) (by simp);have yM:∀ a,aO O a 28=aY (a.aB 31):=hO (28,31) (by simp);have yN:∀ a,aO O a 32=aY (a.aB 35):=hO (32,35) (by simp);have yO:∀ a,aO O a 38=aY (a.aB 41):=hO (38,41) (by simp);have yP:∀ a,aO O a 42=aY (a.aB 45):=hO (42,45) (by simp);by_cases g1:x.r≥0
 ·by_cases g2:x.r≤15
  ·by_cases g3:x.d≥0
   ·by_cases g4:x.d≤200
    ·by_cases g5:x.k≥0
     ·by_cases g6:x.k≤3
      ·by_cases g7:x.k=1
       ·have e7:(x.k==1)=true:=by rw[g7];rfl
        have e9:(x.k==2)=false:=by rw[g7];rfl
        by_cases g8:x.r≥1
        ·simp only[nB,seval,l0,l1,l2,Nat.zero_add,y3,y8,iV,nE,yL,yM,yN,yO,yP,g1,g2,g3,g4,g5,g6,e7,e9,g8,decide_true];refine hR _ _ (aE _ _ ?_);simp only[nB,seval];simpa [g1,g2,g3,g4,g5,g6,g7,g8] using eD
        ·simp only[nB,seval,l0,l1,l2,Nat.zero_add,y3,y8,iV,nE,yL,yM,yN,yO,yP,g1,g2,g3,g4,g5,g6,e7,g8,decide_true,decide_false];refine hR _ _ (aE _ _ ?_);simp only[nB,seval];simpa [g1,g2,g3,g4,g5,g6,g7,g8] using eD
       ·have e7:(x.k==1)=false:=by simpa using g7
        by_cases g9:x.k=2
        ·have e9:(x.k==2)=true:=by rw[g9];rfl
         by_cases g10:x.r≥2
         ·simp only[nB,seval,l0,l1,l2,Nat.zero_add,y3,y8,iV,nE,yL,yM,yN,yO,yP,g1,g2,g3,g4,g5,g6,e7,e9,g10,decide_true];refine hR _ _ (aE _ _ ?_);simp only[nB,seval];simpa [g1,g2,g3,g4,g5,g6,g7,g9,g10] using eD
         ·simp only[nB,seval,l0,l1,l2,Nat.zero_add,y3,y8,iV,nE,yL,yM,yN,yO,yP,g1,g2,g3,g4,g5,g6,e7,e9,g10,decide_true,decide_false];refine hR _ _ (aE _ _ ?_);simp only[nB,seval];simpa [g1,g2,g3,g4,g5,g6,g7,g9,g10] using eD
        ·have e9:(x.k==2)=false:=by simpa using g9
         simp only[nB,seval,l0,l1,l2,Nat.zero_add,y3,y8,iV,nE,yL,yM,yN,yO,yP,g1,g2,g3,g4,g5,g6,e7,e9,decide_true];refine hR _ _ (aE _ _ ?_);simp only[nB,seval];simpa [g1,g2,g3,g4,g5,g6,g7,g9] using eD
      ·simp only[nB,seval,l0,l1,l2,Nat.zero_add,y3,y8,iV,nE,yL,yM,yN,yO,yP,g1,g2,g3,g4,g5,g6,decide_true,decide_false];refine hR _ _ (aE _ _ ?_);simp only[nB,seval];simpa [g1,g2,g3,g4,g5,g6] using eD
     ·simp only[nB,seval,l0,l1,l2,Nat.zero_add,y3,y8,iV,nE,yL,yM,yN,yO,yP,g1,g2,g3,g4,g5,decide_true,decide_false];refine hR _ _ (aE _ _ ?_);simp only[nB,seval];simpa [g1,g2,g3,g4,g5] using eD
    ·simp only[nB,seval,l0,l1,Nat.zero_add,y3,y8,iV,nE,yL,yM,yN,yO,yP,g1,g2,g3,g4,decide_true,decide_false];refine hR _ _ (aE _ _ ?_);simp only[nB,seval];simpa [g1,g2,g3,g4] using eD
   ·simp only[nB,seval,l0,l1,Nat.zero_add,y3,y8,iV,nE,yL,yM,yN,yO,yP,g1,g2,g3,decide_true,decide_false];refine hR _ _ (aE _ _ ?_);simp only[nB,seval];simpa [g1,g2,g3] using eD
  ·simp only[nB,seval,l0,y3,y8,iV,nE,yL,yM,yN,yO,yP,g1,g2,decide_true,decide_false];refine hR _ _ (aE _ _ ?_);simp only[nB,seval];simpa [g1,g2] using eD
 ·simp only[nB,seval,l0,y3,y8,iV,nE,yL,yM,yN,yO,yP,g1,decide_false];refine hR _ _ (aE _ _ ?_);simp only[nB,seval];simpa [g1] using eD
theorem FH:type_of% (B5 @RX @gL @kJ @bG @mD):=B5 @RX @gL @kJ @bG @mD
theorem Ee (hs:Ok s) (x:cO) (hΦ:∀ s',aC [] s s'→Φ (int x.words) s'):okF q X (KO kc) 170 [pK x] s Φ:=by
 refine aW Tryz.func170 (by kernel_rfl) rfl rfl (rs:=[.tmp 2]) rfl (N:=15) rfl rfl ?_;refine aA fun bF aF bD=>?_;simp only[FH,seval];obtain⟨s1,e1,k1,c1,_⟩:=cI hs (L:=[int x.r,int x.d,int x.k]) (n:=3) (e:=44) rfl;rw[e1];refine aF _ _ ?_;have h3:=c1.bI (i:=0) (k:=3) (Nat.le_refl _);refine aA fun Ψ1 aE aL=>?_;refine aA fun Ψ2 aI bH=>?_;simp only[FH,seval,h3,List.drop_zero,List.take];refine aH ?_ (Ec k1.ok x fun s2 k2=>?_)
 ·simp only[FH,seval]
 try simp only[FH,seval]
 refine aI _ _ ?_;have c2:=c1.aD k2 (by simp);cases hv:x.valid with
 | false =>
  simp only[FH,seval];refine aL _ _ _ (by simp) ?_;simp only[FH,seval];have:=hΦ _ (k1.trans k2);unfold cO.words at this;rw[hv] at this;exact this
 | true =>
  have hv':=cO.nX.1 hv;simp only[FH,seval];refine aE _ _ ?_;have l0:aG s2.look ⟨s.next,0,none⟩=some (int x.r):=c2.load rfl;have l1:aG s2.look ⟨s.next,1,none⟩=some (int x.d):=c2.load rfl;simp only[FH,seval,l0,l1,Nat.zero_add];rw[aU (n:=2+x.r) (by omega) (by omega),aU (n:=2+x.r+x.d) (by omega) (by omega),aU (n:=2+x.r+x.d+1) (by omega) (by omega),Int.tdiv_eq_ediv_of_nonneg (by omega),aU (n:=(2+x.r+x.d+1)/2) (by omega) (by omega),aU (by omega) (by omega)];have:=hΦ _ (k1.trans k2);unfold cO.words at this;rw[hv,if_pos rfl,show x.r+x.d+3=2+x.r+x.d+1 by omega] at this;exact this
theorem JK:type_of% (B5 @RX @gY @dF @dQ @bG):=B5 @RX @gY @dF @dQ @bG
theorem Eh (hs:Ok s) (H:bK s h P) {a:Int} (h0:0≤a) (h1:a+1<64*P.N) (hΦ:∀ s',aC [] s s'→Φ (int (P.size a)) s'):okF q X (KO kc) 83 [ptr h,int a] s Φ:=by
 have bY:=H.bY;have e1:IntKind.i64.wrap (a+1)=a+1:=aU (by omega) (by omega);have g1:0≤a+1:=by omega
 have g2:a+1<((64*P.N:Nat):Int):=by omega
 have l1:=H.lw (i:=(a+1).toNat) (by omega);refine aW Tryz.func83 (by kernel_rfl) rfl rfl (rs:=[.tmp 4]) rfl (N:=15) rfl rfl ?_;refine aA fun bF aF bD=>?_;simp only[JK,seval];refine aF _ _ ?_;refine aA fun Ψ1 aE aL=>?_;simp only[JK,seval,H.l1,e1,g1,g2,and_self,bQ,Nat.zero_add,Nat.mul_one,l1];refine aH ?_ (WA hs (P.w (a+1).toNat) (H.wr _) fun s2 k2=>?_)
 ·simp only[JK,seval]
 try simp only[JK,seval]
 refine aH ?_ (Ee k2.ok (rZ (P.w (a+1).toNat)) fun s3 k3=>?_)
 ·simp only[JK,seval]
 try simp only[JK,seval]
 refine aE _ _ ?_;simp only[JK,seval];exact hΦ _ (k2.trans k3)
end
end Go.Dust
