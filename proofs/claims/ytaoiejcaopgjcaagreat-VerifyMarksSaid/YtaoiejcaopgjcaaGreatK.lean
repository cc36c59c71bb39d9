/- VerifyMarks walked in D, function by function, and its plain law (Ty Ko Pa). -/
import Derived.Test.YtaoiejcaopgjcaaGreatProg
import Derived.Test.YtaoiejcaopgjcaaGreatJ
import Derived.KernelRfl
set_option linter.unusedVariables false
set_option linter.unusedSimpArgs false
namespace Go.Dust
open Go.Proofs
noncomputable abbrev X:Env:=TB Tryz.prog
set_option maxRecDepth 100000
theorem Ge (H:bG) (a:Addr):loadT X H 27 a=(match bD H a 7 with | some l=>some (.agg l.toArray) | none=>none):=by kernel_rfl
theorem zg (H:bG) (a:Addr):binop X H .eql 28 (.pointer (some a)) (.pointer none)=some (.bool false):=by kernel_rfl
theorem zb (H:bG):binop X H .eql 28 (.pointer none) (.pointer none)=some (.bool true):=by kernel_rfl
theorem yS (b off:Nat):cU X 39 (.pointer (some ⟨b,off,none⟩)) 0=some (.pointer (some ⟨b,off,none⟩)):=by kernel_rfl
theorem kW (H:bG) (a:Addr):loadT X H 34 a=aI H a:=by kernel_rfl
theorem JB (b off:Nat):cU X 39 (.pointer (some ⟨b,off,none⟩)) 1=some (.pointer (some ⟨b,off+1,none⟩)):=by kernel_rfl
theorem DI (H:bG) (a:Addr):loadT X H 35 a=aI H a:=by kernel_rfl
theorem VW (H:bG) (a:Option Addr) (n c:Nat):jY X H 30 (.slice a n c)=some (.int .i64 n):=by kernel_rfl
theorem CJ (k:IntKind) (x:Int):sA X 5 3 (.int k x)=some (.int .i64 (IntKind.wrap .i64 x)):=by kernel_rfl
theorem nD (nm:Nat) (ρ:Operand→Value):fE X nm ρ (.alloc 44)=some (.pointer (some ⟨nm,0,none⟩),fun v=>.cells (PT.ofList [.int .i64 0,.int .i64 0,.int .i64 0]) [] 3 44 false false v):=by kernel_rfl
theorem mI (s:St) (a:Addr) (v:Value):storeT X s 44 a v=if v.cells.size=3 then dB s a v.cells.toList else none:=by kernel_rfl
theorem lZ (b off:Nat):cU X 44 (.pointer (some ⟨b,off,none⟩)) 0=some (.pointer (some ⟨b,off,none⟩)):=by kernel_rfl
theorem aW (H:bG) (a:Addr):loadT X H 3 a=aI H a:=by kernel_rfl
theorem ux  (x0:Int) (x1:Int) (x2:Int):iU X 51 [(0,Value.int .i64 x0),(1,Value.int .i64 x1),(2,Value.int .i64 x2)]=some (.agg #[.int .i64 x0,.int .i64 x1,.int .i64 x2]):=by kernel_rfl
theorem Oo (s:St) (a:Addr) (v:Value):storeT X s 51 a v=if v.cells.size=3 then dB s a v.cells.toList else none:=by kernel_rfl
theorem jG (s:St) (a:Addr) (v:Value):storeT X s 3 a v=if v.cells.size=1 then dB s a v.cells.toList else none:=by kernel_rfl
theorem KG (H:bG) (a:Addr):loadT X H 51 a=(match bD H a 3 with | some l=>some (.agg l.toArray) | none=>none):=by kernel_rfl
theorem xc (nm:Nat) (qA:Int) (qB:Int) (ET:Int):nE X nm 30 1 [(0,Value.agg #[.int .i64 qA,.int .i64 qB,.int .i64 ET])]=some (.slice (some ⟨nm,0,none⟩) 1 1,fun v=>.cells (PT.ofList [.int .i64 qA,.int .i64 qB,.int .i64 ET]) [] 3 51 false false v):=by kernel_rfl
theorem CT (b off:Nat):cU X 39 (.pointer (some ⟨b,off,none⟩)) 2=some (.pointer (some ⟨b,off+2,none⟩)):=by kernel_rfl
theorem DJ (H:bG) (a:Addr):loadT X H 36 a=aI H a:=by kernel_rfl
theorem JC (b off:Nat):cU X 39 (.pointer (some ⟨b,off,none⟩)) 3=some (.pointer (some ⟨b,off+3,none⟩)):=by kernel_rfl
theorem VS (H:bG) (a:Addr):loadT X H 37 a=aI H a:=by kernel_rfl
theorem Ik (H:bG) (a:Addr):binop X H .neq 68 (.pointer (some a)) (.pointer none)=some (.bool true):=by kernel_rfl
theorem Ie (H:bG):binop X H .neq 68 (.pointer none) (.pointer none)=some (.bool false):=by kernel_rfl
theorem dG (H:bG) (a:Option Addr) (n c:Nat):jY X H 62 (.slice a n c)=some (.int .i64 n):=by kernel_rfl
theorem dE (b off n c:Nat) (k:IntKind) (i:Int):kM X 62 (.slice (some ⟨b,off,none⟩) n c) (.int k i)=if 0≤i∧i<(n:Int) then some (.pointer (some ((⟨b,off,none⟩:Addr).add (i.toNat*1)))) else none:=by kernel_rfl
theorem uw  (x0:Int) (x1:Int):iU X 51 [(0,Value.int .i64 x0),(1,Value.int .i64 x1)]=some (.agg #[.int .i64 x0,.int .i64 x1,.int .i64 0]):=by kernel_rfl
theorem oZ (b off:Nat):cU X 44 (.pointer (some ⟨b,off,none⟩)) 1=some (.pointer (some ⟨b,off+1,none⟩)):=by kernel_rfl
theorem hZ (H:bG) (a:Addr):loadT X H 44 a=(match bD H a 3 with | some l=>some (.agg l.toArray) | none=>none):=by kernel_rfl
theorem KA (b off n c:Nat) (k:IntKind) (i:Int):kM X 30 (.slice (some ⟨b,off,none⟩) n c) (.int k i)=if 0≤i∧i<(n:Int) then some (.pointer (some ((⟨b,off,none⟩:Addr).add (i.toNat*3)))) else none:=by kernel_rfl
theorem cd (H:bG) (uD:Int) (uE:Int) (MC:Int) (uF:Int) (uG:Int) (MD:Int):jV X H 10 51 (.agg #[.int .i64 uD,.int .i64 uE,.int .i64 MC]) (.agg #[.int .i64 uF,.int .i64 uG,.int .i64 MD])=(match some (uD==uF) with | some true=>(match some (uE==uG) with | some true=>(match some (MC==MD) with | some true=>some true | some false=>some false | none=>none:Option Bool) | some false=>some false | none=>none:Option Bool) | some false=>some false | none=>none:Option Bool):=by kernel_rfl
theorem J4:X.fn 7=some Tryz.f7:=by kernel_rfl
theorem RU (nm:Nat) (ρ:Operand→Value):fE X nm ρ (.alloc 92)=some (.pointer (some ⟨nm,0,none⟩),fun v=>.cells (PT.ofList [.int .i64 0,.int .i64 0,.int .i64 0,.int .i64 0,.int .i64 0]) [] 5 92 false false v):=by kernel_rfl
theorem YM (s:St) (a:Addr) (v:Value):storeT X s 92 a v=if v.cells.size=5 then dB s a v.cells.toList else none:=by kernel_rfl
theorem K8:X.fn 8=some Tryz.f8:=by kernel_rfl
theorem Am (b off:Nat):cU X 27 (.pointer (some ⟨b,off,none⟩)) 0=some (.pointer (some ⟨b,off,none⟩)):=by kernel_rfl
theorem VT (H:bG) (a:Addr):loadT X H 5 a=aI H a:=by kernel_rfl
theorem Ao (b off:Nat):cU X 27 (.pointer (some ⟨b,off,none⟩)) 1=some (.pointer (some ⟨b,off+1,none⟩)):=by kernel_rfl
theorem zh (H:bG) (a:Addr):binop X H .eql 34 (.pointer (some a)) (.pointer none)=some (.bool false):=by kernel_rfl
theorem zc (H:bG):binop X H .eql 34 (.pointer none) (.pointer none)=some (.bool true):=by kernel_rfl
theorem zi (H:bG) (a:Addr):binop X H .eql 35 (.pointer (some a)) (.pointer none)=some (.bool false):=by kernel_rfl
theorem zd (H:bG):binop X H .eql 35 (.pointer none) (.pointer none)=some (.bool true):=by kernel_rfl
theorem ur  (x0:Option Addr) (x1:Option Addr):iU X 39 [(0,Value.pointer x0),(1,Value.pointer x1)]=some (.agg #[.pointer x0,.pointer x1,.pointer none,.pointer none]):=by kernel_rfl
theorem Om (s:St) (a:Addr) (v:Value):storeT X s 36 a v=if v.cells.size=1 then dB s a v.cells.toList else none:=by kernel_rfl
theorem On (s:St) (a:Addr) (v:Value):storeT X s 37 a v=if v.cells.size=1 then dB s a v.cells.toList else none:=by kernel_rfl
theorem Ap (b off:Nat):cU X 27 (.pointer (some ⟨b,off,none⟩)) 2=some (.pointer (some ⟨b,off+2,none⟩)):=by kernel_rfl
theorem Ga (H:bG) (a:Addr):loadT X H 22 a=aI H a:=by kernel_rfl
theorem Gm (H:bG) (a:Option Addr) (n c:Nat):jY X H 22 (.slice a n c)=some (.int .i64 n):=by kernel_rfl
theorem Fj (b off n c:Nat) (k:IntKind) (i:Int):kM X 22 (.slice (some ⟨b,off,none⟩) n c) (.int k i)=if 0≤i∧i<(n:Int) then some (.pointer (some ((⟨b,off,none⟩:Addr).add (i.toNat*4)))) else none:=by kernel_rfl
theorem Fx (H:bG) (a:Addr):loadT X H 105 a=(match bD H a 4 with | some l=>some (.agg l.toArray) | none=>none):=by kernel_rfl
theorem VF (b off:Nat) (k:IntKind) (i:Int):kM X 105 (.pointer (some ⟨b,off,none⟩)) (.int k i)=if 0≤i∧i<((4:Nat):Int) then some (.pointer (some ((⟨b,off,none⟩:Addr).add (i.toNat*1)))) else none:=by kernel_rfl
theorem Aq (b off:Nat):cU X 27 (.pointer (some ⟨b,off,none⟩)) 3=some (.pointer (some ⟨b,off+3,none⟩)):=by kernel_rfl
theorem Gb (H:bG) (a:Addr):loadT X H 23 a=aI H a:=by kernel_rfl
theorem Gn (H:bG) (a:Option Addr) (n c:Nat):jY X H 23 (.slice a n c)=some (.int .i64 n):=by kernel_rfl
theorem Fk (b off n c:Nat) (k:IntKind) (i:Int):kM X 23 (.slice (some ⟨b,off,none⟩) n c) (.int k i)=if 0≤i∧i<(n:Int) then some (.pointer (some ((⟨b,off,none⟩:Addr).add (i.toNat*1)))) else none:=by kernel_rfl
theorem Ar (b off:Nat):cU X 27 (.pointer (some ⟨b,off,none⟩)) 4=some (.pointer (some ⟨b,off+4,none⟩)):=by kernel_rfl
theorem Gc (H:bG) (a:Addr):loadT X H 24 a=aI H a:=by kernel_rfl
theorem Gq (H:bG) (a:Option Addr) (n c:Nat):jY X H 24 (.slice a n c)=some (.int .i64 n):=by kernel_rfl
theorem Fm (b off n c:Nat) (k:IntKind) (i:Int):kM X 24 (.slice (some ⟨b,off,none⟩) n c) (.int k i)=if 0≤i∧i<(n:Int) then some (.pointer (some ((⟨b,off,none⟩:Addr).add (i.toNat*3)))) else none:=by kernel_rfl
theorem Fy (H:bG) (a:Addr):loadT X H 106 a=(match bD H a 3 with | some l=>some (.agg l.toArray) | none=>none):=by kernel_rfl
theorem sv (nm:Nat) (ρ:Operand→Value):fE X nm ρ (.alloc 106)=some (.pointer (some ⟨nm,0,none⟩),fun v=>.cells (PT.ofList [.int .u8 0,.int .u8 0,.int .u8 0]) [] 3 106 false false v):=by kernel_rfl
theorem Oc (s:St) (a:Addr) (v:Value):storeT X s 106 a v=if v.cells.size=3 then dB s a v.cells.toList else none:=by kernel_rfl
theorem Fh (b off:Nat) (k:IntKind) (i:Int):kM X 106 (.pointer (some ⟨b,off,none⟩)) (.int k i)=if 0≤i∧i<((3:Nat):Int) then some (.pointer (some ((⟨b,off,none⟩:Addr).add (i.toNat*1)))) else none:=by kernel_rfl
theorem As (b off:Nat):cU X 27 (.pointer (some ⟨b,off,none⟩)) 5=some (.pointer (some ⟨b,off+5,none⟩)):=by kernel_rfl
theorem Gd (H:bG) (a:Addr):loadT X H 25 a=aI H a:=by kernel_rfl
theorem Gr (H:bG) (a:Option Addr) (n c:Nat):jY X H 25 (.slice a n c)=some (.int .i64 n):=by kernel_rfl
theorem Fo (b off n c:Nat) (k:IntKind) (i:Int):kM X 25 (.slice (some ⟨b,off,none⟩) n c) (.int k i)=if 0≤i∧i<(n:Int) then some (.pointer (some ((⟨b,off,none⟩:Addr).add (i.toNat*2)))) else none:=by kernel_rfl
theorem Fi (b off:Nat) (k:IntKind) (i:Int):kM X 109 (.pointer (some ⟨b,off,none⟩)) (.int k i)=if 0≤i∧i<((2:Nat):Int) then some (.pointer (some ((⟨b,off,none⟩:Addr).add (i.toNat*1)))) else none:=by kernel_rfl
theorem At (b off:Nat):cU X 27 (.pointer (some ⟨b,off,none⟩)) 6=some (.pointer (some ⟨b,off+6,none⟩)):=by kernel_rfl
theorem sw (nm:Nat) (ρ:Operand→Value):fE X nm ρ (.alloc 110)=some (.pointer (some ⟨nm,0,none⟩),fun v=>.cells (PT.ofList [.slice none 0 0]) [] 1 110 false false v):=by kernel_rfl
theorem VM (H:bG) (a:Addr):loadT X H 110 a=aI H a:=by kernel_rfl
theorem DN (H:bG) (a:Option Addr) (n c:Nat):jY X H 115 (.slice a n c)=some (.int .i64 n):=by kernel_rfl
theorem DC (b off n c:Nat) (k:IntKind) (i:Int):kM X 115 (.slice (some ⟨b,off,none⟩) n c) (.int k i)=if 0≤i∧i<(n:Int) then some (.pointer (some ((⟨b,off,none⟩:Addr).add (i.toNat*3)))) else none:=by kernel_rfl
theorem mC (H:bG) (a:Addr):loadT X H 118 a=(match bD H a 3 with | some l=>some (.agg l.toArray) | none=>none):=by kernel_rfl
theorem yD (nm:Nat) (ρ:Operand→Value):fE X nm ρ (.alloc 118)=some (.pointer (some ⟨nm,0,none⟩),fun v=>.cells (PT.ofList [.int .i64 0,.int .i64 0,.int .i64 0]) [] 3 118 false false v):=by kernel_rfl
theorem zU (s:St) (a:Addr) (v:Value):storeT X s 118 a v=if v.cells.size=3 then dB s a v.cells.toList else none:=by kernel_rfl
theorem Of (s:St) (a:Addr) (v:Value):storeT X s 121 a v=if v.cells.size=1 then dB s a v.cells.toList else none:=by kernel_rfl
theorem VN (H:bG) (a:Addr):loadT X H 121 a=aI H a:=by kernel_rfl
theorem Yz:X.fn 12=some Tryz.f12:=by kernel_rfl
theorem lY (b off:Nat):cU X 131 (.pointer (some ⟨b,off,none⟩)) 1=some (.pointer (some ⟨b,off+1,none⟩)):=by kernel_rfl
theorem mD (H:bG) (a:Addr):loadT X H 128 a=aI H a:=by kernel_rfl
theorem zH (H:bG) (a:Option Addr) (n c:Nat):jY X H 128 (.slice a n c)=some (.int .i64 n):=by kernel_rfl
theorem oI (b off n c:Nat) (k:IntKind) (i:Int):kM X 128 (.slice (some ⟨b,off,none⟩) n c) (.int k i)=if 0≤i∧i<(n:Int) then some (.pointer (some ((⟨b,off,none⟩:Addr).add (i.toNat*8)))) else none:=by kernel_rfl
theorem uW (b off:Nat):cU X 133 (.pointer (some ⟨b,off,none⟩)) 0=some (.pointer (some ⟨b,off,none⟩)):=by kernel_rfl
theorem Zd:X.fn 13=some Tryz.f13:=by kernel_rfl
theorem SE :iU X 44 []=some (.agg #[.int .i64 0,.int .i64 0,.int .i64 0]):=by kernel_rfl
theorem jW (b off:Nat):cU X 138 (.pointer (some ⟨b,off,none⟩)) 1=some (.pointer (some ⟨b,off+1,none⟩)):=by kernel_rfl
theorem dF (H:bG) (a:Addr):loadT X H 62 a=aI H a:=by kernel_rfl
theorem Zm:X.fn 14=some Tryz.f14:=by kernel_rfl
theorem uX (b off:Nat):cU X 138 (.pointer (some ⟨b,off,none⟩)) 2=some (.pointer (some ⟨b,off+2,none⟩)):=by kernel_rfl
theorem jX (H:bG) (a:Addr):loadT X H 68 a=aI H a:=by kernel_rfl
theorem uu  (x0:Int) (x1:Int):iU X 44 [(0,Value.int .i64 x0),(1,Value.int .i64 x1)]=some (.agg #[.int .i64 x0,.int .i64 x1,.int .i64 0]):=by kernel_rfl
theorem l_:X.fn 17=some Tryz.f17:=by kernel_rfl
theorem qH (b off:Nat):cU X 138 (.pointer (some ⟨b,off,none⟩)) 0=some (.pointer (some ⟨b,off,none⟩)):=by kernel_rfl
theorem qL (H:bG) (a:Addr):loadT X H 135 a=aI H a:=by kernel_rfl
theorem vH (H:bG) (a:Option Addr) (n c:Nat):jY X H 135 (.slice a n c)=some (.int .i64 n):=by kernel_rfl
theorem p_:X.fn 18=some Tryz.f18:=by kernel_rfl
theorem t_:X.fn 19=some Tryz.f19:=by kernel_rfl
theorem Im (H:bG) (uD:Int) (uE:Int) (MC:Int) (uF:Int) (uG:Int) (MD:Int):binop X H .neq 51 (.agg #[.int .i64 uD,.int .i64 uE,.int .i64 MC]) (.agg #[.int .i64 uF,.int .i64 uG,.int .i64 MD])=some (.bool !(uD==uF&&uE==uG&&MC==MD)):=by
 rw[show ∀ u v,binop X H .neq 51 (.agg u) (.agg v)=(match jV X H 10 51 (.agg u) (.agg v) with | some b=>some (.bool !b) | none=>none) from fun _ _=>rfl,cd];cases (uD==uF) <;> cases (uE==uG) <;> cases (MC==MD) <;> rfl
theorem sC (b off:Nat):cU X 118 (.pointer (some ⟨b,off,none⟩)) 0=some (.pointer (some ⟨b,off,none⟩)):=by kernel_rfl
theorem IY (b off:Nat):cU X 133 (.pointer (some ⟨b,off,none⟩)) 3=some (.pointer (some ⟨b,off+5,none⟩)):=by kernel_rfl
theorem D9:X.fn 25=some Tryz.f25:=by kernel_rfl
theorem xd (nm:Nat):nE X nm 62 1 [(0,Value.int .i64 1)]=some (.slice (some ⟨nm,0,none⟩) 1 1,fun v=>.cells (PT.ofList [.int .i64 1]) [] 1 3 false false v):=by kernel_rfl
theorem DH (H:bG) (a:Addr):loadT X H 133 a=(match bD H a 8 with | some l=>some (.agg l.toArray) | none=>none):=by kernel_rfl
theorem II (nm:Nat) (ρ:Operand→Value):fE X nm ρ (.alloc 133)=some (.pointer (some ⟨nm,0,none⟩),fun v=>.cells (PT.ofList [.int .i64 0,.int .i64 0,.int .i64 0,.int .i64 0,.int .i64 0,.slice none 0 0,.slice none 0 0,.bool false]) [] 8 133 false false v):=by kernel_rfl
theorem LH (s:St) (a:Addr) (v:Value):storeT X s 133 a v=if v.cells.size=8 then dB s a v.cells.toList else none:=by kernel_rfl
theorem yO (b off:Nat):cU X 133 (.pointer (some ⟨b,off,none⟩)) 2=some (.pointer (some ⟨b,off+2,none⟩)):=by kernel_rfl
theorem Hv (nm:Nat):wR X nm 136 none=some (.map (some nm),fun v=>.map [] 0 v):=by kernel_rfl
theorem mc (s:St) (r:Nat) (x:Int) (v:Value):mE X s 136 (.map (some r)) (.int .i64 x) v=(match s.heap.get r with
  | some (.map es c _)=>(match mO (.int .i64 x) es 0 with
   | some (some (i,_))=>some (s.put r fun aT=>.map (es.modify i fun e=>⟨.int .i64 x,v,e.born⟩) c aT)
   | some none=>some (s.put r fun aT=>.map (es++[⟨.int .i64 x,v,c⟩]) (c+1) aT)
   | none=>none)
  | _=>none):=by kernel_rfl
theorem yF (nm:Nat):nE X nm 62 0 []=some (.slice (some ⟨nm,0,none⟩) 0 0,fun v=>.cells (PT.ofList []) [] 0 3 false false v):=by kernel_rfl
theorem jE (nm:Nat) (x0:Int):nE X nm 62 1 [(0,Value.int .i64 x0)]=some (.slice (some ⟨nm,0,none⟩) 1 1,fun v=>.cells (PT.ofList [.int .i64 x0]) [] 1 3 false false v):=by kernel_rfl
theorem sE (b off:Nat):cU X 161 (.pointer (some ⟨b,off,none⟩)) 2=some (.pointer (some ⟨b,off+2,none⟩)):=by kernel_rfl
theorem uV (b off:Nat):cU X 118 (.pointer (some ⟨b,off,none⟩)) 2=some (.pointer (some ⟨b,off+2,none⟩)):=by kernel_rfl
theorem sR (s:St) (a:Addr) (v:Value):storeT X s 62 a v=if v.cells.size=1 then dB s a v.cells.toList else none:=by kernel_rfl
theorem E8:X.fn 37=some Tryz.f37:=by kernel_rfl
theorem E9:X.fn 38=some Tryz.f38:=by kernel_rfl
theorem E_:X.fn 39=some Tryz.f39:=by kernel_rfl
theorem F0:X.fn 41=some Tryz.f41:=by kernel_rfl
theorem F2:X.fn 43=some Tryz.f43:=by kernel_rfl
theorem F4:X.fn 44=some Tryz.f44:=by kernel_rfl
theorem NA (b off:Nat):cU X 138 (.pointer (some ⟨b,off,none⟩)) 4=some (.pointer (some ⟨b,off+4,none⟩)):=by kernel_rfl
theorem OH (H:bG) (a:Addr):loadT X H 136 a=aI H a:=by kernel_rfl
theorem CN (b off:Nat):cU X 138 (.pointer (some ⟨b,off,none⟩)) 3=some (.pointer (some ⟨b,off+3,none⟩)):=by kernel_rfl
theorem TM (b off:Nat):cU X 133 (.pointer (some ⟨b,off,none⟩)) 1=some (.pointer (some ⟨b,off+1,none⟩)):=by kernel_rfl
theorem F7:X.fn 48=some Tryz.f48:=by kernel_rfl
theorem uy :iU X 92 []=some (.agg #[.int .i64 0,.int .i64 0,.int .i64 0,.int .i64 0,.int .i64 0]):=by kernel_rfl
theorem uk  (x0:Option Addr) (x1:Option Addr) (x3:Int) (x4:Int):iU X 174 [(0,Value.pointer x0),(1,Value.pointer x1),(3,Value.int .i64 x3),(4,Value.int .i64 x4)]=some (.agg #[.pointer x0,.pointer x1,.slice none 0 0,.int .i64 x3,.int .i64 x4,.bool false,.int .i64 0,.int .i64 0,.int .i64 0,.int .i64 0,.int .i64 0]):=by kernel_rfl
theorem CQ (b off:Nat):cU X 174 (.pointer (some ⟨b,off,none⟩)) 1=some (.pointer (some ⟨b,off+1,none⟩)):=by kernel_rfl
theorem yP (b off:Nat):cU X 174 (.pointer (some ⟨b,off,none⟩)) 6=some (.pointer (some ⟨b,off+6,none⟩)):=by kernel_rfl
theorem Gg (H:bG) (a:Addr):loadT X H 92 a=(match bD H a 5 with | some l=>some (.agg l.toArray) | none=>none):=by kernel_rfl
theorem F8:X.fn 49=some Tryz.f49:=by kernel_rfl
theorem F9:X.fn 50=some Tryz.f50:=by kernel_rfl
theorem aCw {nm:Nat} {n m:Int} (h1:0≤n) (h2:n≤m) (h3:m<2 ^ 40) (h4:16*m≤2 ^ 48):rK X nm 135 (.int .i64 n) (.int .i64 m)=some (.slice (some ⟨nm,0,none⟩) n.toNat m.toNat,fun v=>.cells .nil [.int .i64 0,.int .i64 0] (m.toNat*2) 198 false false v):=WG (z:=.agg #[.int .i64 0,.int .i64 0]) (by kernel_rfl) (by kernel_rfl) rfl h1 h2 h3 h4
theorem DQ {nm:Nat} {n m:Int} (h1:0≤n) (h2:n≤m) (h3:m<2 ^ 40) (h4:8*m≤2 ^ 48):rK X nm 62 (.int .i64 n) (.int .i64 m)=some (.slice (some ⟨nm,0,none⟩) n.toNat m.toNat,fun v=>.cells .nil [.int .i64 0] (m.toNat*1) 3 false false v):=WG (z:=.int .i64 0) (by kernel_rfl) (by kernel_rfl) rfl h1 h2 h3 h4
theorem uh  (x0:Option Addr) (xL xK:Nat) (x1:Option Addr) (xN xM:Nat) (x4:Option Nat) (x5:Option Nat):iU X 138 [(0,Value.slice x0 xL xK),(1,Value.slice x1 xN xM),(4,Value.map x4),(5,Value.map x5)]=some (.agg #[.slice x0 xL xK,.slice x1 xN xM,.pointer none,.pointer none,.map x4,.map x5,.int .i64 0]):=by kernel_rfl
theorem Oq (s:St) (a:Addr) (v:Value):storeT X s 68 a v=if v.cells.size=1 then dB s a v.cells.toList else none:=by kernel_rfl
theorem F_:X.fn 51=some Tryz.f51:=by kernel_rfl
theorem um  (x0:Int) (x1:Option Addr) (xN xM:Nat) (x2:Option Addr) (EV EU:Nat) (x3:Option Addr) (RH RF:Nat):iU X 177 [(0,Value.int .i64 x0),(1,Value.slice x1 xN xM),(2,Value.slice x2 EV EU),(3,Value.slice x3 RH RF)]=some (.agg #[.int .i64 x0,.slice x1 xN xM,.slice x2 EV EU,.slice x3 RH RF]):=by kernel_rfl
theorem G0:X.fn 52=some Tryz.f52:=by kernel_rfl
theorem aCv {nm:Nat} {n m:Int} (h1:0≤n) (h2:n≤m) (h3:m<2 ^ 40) (h4:16*m≤2 ^ 48):rK X nm 127 (.int .i64 n) (.int .i64 m)=some (.slice (some ⟨nm,0,none⟩) n.toNat m.toNat,fun v=>.cells .nil [.int .i64 0,.int .i64 0] (m.toNat*2) 210 false false v):=WG (z:=.agg #[.int .i64 0,.int .i64 0]) (by kernel_rfl) (by kernel_rfl) rfl h1 h2 h3 h4
theorem SB  (x0:Option Addr) (xL xK:Nat):iU X 131 [(0,Value.slice x0 xL xK)]=some (.agg #[.slice x0 xL xK,.slice none 0 0,.slice none 0 0,.int .i64 0]):=by kernel_rfl
theorem G3:X.fn 53=some Tryz.f53:=by kernel_rfl
theorem uj  (x1:Option Addr) (xN xM:Nat):iU X 161 [(1,Value.slice x1 xN xM)]=some (.agg #[.slice none 0 0,.slice x1 xN xM,.slice none 0 0]):=by kernel_rfl
theorem sD (b off:Nat):cU X 161 (.pointer (some ⟨b,off,none⟩)) 0=some (.pointer (some ⟨b,off,none⟩)):=by kernel_rfl
theorem sL (H:bG) (a:Addr):loadT X H 159 a=aI H a:=by kernel_rfl
theorem wz (nm:Nat) (x0:Option Addr) (xL xK:Nat):nE X nm 159 1 [(0,Value.slice x0 xL xK)]=some (.slice (some ⟨nm,0,none⟩) 1 1,fun v=>.cells (PT.ofList [.slice x0 xL xK]) [] 1 62 false false v):=by kernel_rfl
theorem Oi (s:St) (a:Addr) (v:Value):storeT X s 159 a v=if v.cells.size=1 then dB s a v.cells.toList else none:=by kernel_rfl
theorem G6:X.fn 54=some Tryz.f54:=by kernel_rfl
theorem G7:X.fn 55=some Tryz.f55:=by kernel_rfl
theorem oE (b off:Nat):cU X 44 (.pointer (some ⟨b,off,none⟩)) 2=some (.pointer (some ⟨b,off+2,none⟩)):=by kernel_rfl
theorem G8:X.fn 56=some Tryz.f56:=by kernel_rfl
theorem G9:X.fn 57=some Tryz.f57:=by kernel_rfl
theorem G_:X.fn 58=some Tryz.f58:=by kernel_rfl
theorem H_:X.fn 59=some Tryz.f59:=by kernel_rfl
theorem I0:X.fn 60=some Tryz.f60:=by kernel_rfl
theorem I2:X.fn 61=some Tryz.f61:=by kernel_rfl
theorem I7:X.fn 62=some Tryz.f62:=by kernel_rfl
theorem I9:X.fn 63=some Tryz.f63:=by kernel_rfl
theorem I_:X.fn 65=some Tryz.f65:=by kernel_rfl
theorem wu (nm:Nat) (qA:Int) (qB:Int) (ET:Int):nE X nm 110 1 [(0,Value.agg #[.int .i64 qA,.int .i64 qB,.int .i64 ET])]=some (.slice (some ⟨nm,0,none⟩) 1 1,fun v=>.cells (PT.ofList [.int .i64 qA,.int .i64 qB,.int .i64 ET]) [] 3 51 false false v):=by kernel_rfl
theorem Od (s:St) (a:Addr) (v:Value):storeT X s 110 a v=if v.cells.size=1 then dB s a v.cells.toList else none:=by kernel_rfl
theorem J0:X.fn 66=some Tryz.f66:=by kernel_rfl
theorem J1:X.fn 67=some Tryz.f67:=by kernel_rfl
theorem IZ (b off:Nat):cU X 177 (.pointer (some ⟨b,off,none⟩)) 0=some (.pointer (some ⟨b,off,none⟩)):=by kernel_rfl
theorem J2:X.fn 68=some Tryz.f68:=by kernel_rfl
theorem sx (nm:Nat) (ρ:Operand→Value):fE X nm ρ (.alloc 115)=some (.pointer (some ⟨nm,0,none⟩),fun v=>.cells (PT.ofList [.slice none 0 0]) [] 1 115 false false v):=by kernel_rfl
theorem Fz (H:bG) (a:Addr):loadT X H 115 a=aI H a:=by kernel_rfl
theorem IQ (nm:Nat) (qA:Int) (qB:Int) (ET:Int):nE X nm 115 1 [(0,Value.agg #[.int .i64 qA,.int .i64 qB,.int .i64 ET])]=some (.slice (some ⟨nm,0,none⟩) 1 1,fun v=>.cells (PT.ofList [.int .i64 qA,.int .i64 qB,.int .i64 ET]) [] 3 118 false false v):=by kernel_rfl
theorem Oe (s:St) (a:Addr) (v:Value):storeT X s 115 a v=if v.cells.size=1 then dB s a v.cells.toList else none:=by kernel_rfl
theorem J3:X.fn 69=some Tryz.f69:=by kernel_rfl
theorem J5:X.fn 70=some Tryz.f70:=by kernel_rfl
theorem Hu (nm:Nat):wR X nm 121 none=some (.map (some nm),fun v=>.map [] 0 v):=by kernel_rfl
theorem sy (nm:Nat) (ρ:Operand→Value):fE X nm ρ (.alloc 121)=some (.pointer (some ⟨nm,0,none⟩),fun v=>.cells (PT.ofList [.map none]) [] 1 121 false false v):=by kernel_rfl
theorem tf (nm:Nat) (ρ:Operand→Value):fE X nm ρ (.alloc 126)=some (.pointer (some ⟨nm,0,none⟩),fun v=>.cells (PT.ofList [.nilFunc]) [] 1 126 false false v):=by kernel_rfl
theorem Og (s:St) (a:Addr) (v:Value):storeT X s 126 a v=if v.cells.size=1 then dB s a v.cells.toList else none:=by kernel_rfl
theorem Gl (H:bG) (r:Nat):jY X H 121 (.map (some r))=(match mapOf H r with | some (es,_)=>some (.int .i64 es.length) | none=>none):=by kernel_rfl
theorem VO (H:bG) (a:Addr):loadT X H 126 a=aI H a:=by kernel_rfl
theorem VX (H:bG) (r:Nat) (x:Int) (ok:Bool):vI X H 121 (.map (some r)) (.int .i64 x) ok=(match mapOf H r with
  | some (es,_)=>(match mO (.int .i64 x) es 0 with
   | some (some (_,v))=>some (if ok then .tuple #[v,.bool true] else v)
   | some none=>some (if ok then .tuple #[.bool false,.bool false] else .bool false)
   | none=>none)
  | none=>none):=by kernel_rfl
theorem J6:X.fn 71=some Tryz.f71:=by kernel_rfl
theorem tg (nm:Nat) (ρ:Operand→Value):fE X nm ρ (.alloc 62)=some (.pointer (some ⟨nm,0,none⟩),fun v=>.cells (PT.ofList [.slice none 0 0]) [] 1 62 false false v):=by kernel_rfl
theorem uv  (x0:Int) (x1:Int) (x2:Int):iU X 44 [(0,Value.int .i64 x0),(1,Value.int .i64 x1),(2,Value.int .i64 x2)]=some (.agg #[.int .i64 x0,.int .i64 x1,.int .i64 x2]):=by kernel_rfl
theorem J7:X.fn 75=some Tryz.f75:=by kernel_rfl
theorem J8:X.fn 76=some Tryz.f76:=by kernel_rfl
theorem J9:X.fn 77=some Tryz.f77:=by kernel_rfl
theorem Ig (H:bG) (a:Addr):binop X H .neq 34 (.pointer (some a)) (.pointer none)=some (.bool true):=by kernel_rfl
theorem Hz (H:bG):binop X H .neq 34 (.pointer none) (.pointer none)=some (.bool false):=by kernel_rfl
theorem J_:X.fn 78=some Tryz.f78:=by kernel_rfl
theorem K0:X.fn 79=some Tryz.f79:=by kernel_rfl
theorem SD  (x0:Int) (x1:Int):iU X 198 [(0,Value.int .i64 x0),(1,Value.int .i64 x1)]=some (.agg #[.int .i64 x0,.int .i64 x1]):=by kernel_rfl
theorem SC :iU X 198 []=some (.agg #[.int .i64 0,.int .i64 0]):=by kernel_rfl
theorem K_:X.fn 80=some Tryz.f80:=by kernel_rfl
theorem NB (b off:Nat):cU X 138 (.pointer (some ⟨b,off,none⟩)) 6=some (.pointer (some ⟨b,off+6,none⟩)):=by kernel_rfl
theorem L1:X.fn 82=some Tryz.f82:=by kernel_rfl
theorem yQ (b off:Nat):cU X 201 (.pointer (some ⟨b,off,none⟩)) 0=some (.pointer (some ⟨b,off,none⟩)):=by kernel_rfl
theorem L2:X.fn 83=some Tryz.f83:=by kernel_rfl
theorem L3:X.fn 84=some Tryz.f84:=by kernel_rfl
theorem L4:X.fn 85=some Tryz.f85:=by kernel_rfl
theorem CR (b off:Nat):cU X 177 (.pointer (some ⟨b,off,none⟩)) 3=some (.pointer (some ⟨b,off+3,none⟩)):=by kernel_rfl
theorem L5:X.fn 87=some Tryz.f87:=by kernel_rfl
theorem Ae (b off:Nat):cU X 133 (.pointer (some ⟨b,off,none⟩)) 4=some (.pointer (some ⟨b,off+6,none⟩)):=by kernel_rfl
theorem Bh:X.fn 90=some Tryz.f90:=by kernel_rfl
theorem Ii (H:bG) (a:Addr):binop X H .neq 36 (.pointer (some a)) (.pointer none)=some (.bool true):=by kernel_rfl
theorem Ib (H:bG):binop X H .neq 36 (.pointer none) (.pointer none)=some (.bool false):=by kernel_rfl
theorem oD (b off:Nat):cU X 131 (.pointer (some ⟨b,off,none⟩)) 0=some (.pointer (some ⟨b,off,none⟩)):=by kernel_rfl
theorem oJ (H:bG) (a:Addr):loadT X H 127 a=aI H a:=by kernel_rfl
theorem qM (H:bG) (a:Option Addr) (n c:Nat):jY X H 127 (.slice a n c)=some (.int .i64 n):=by kernel_rfl
theorem L6:X.fn 93=some Tryz.f93:=by kernel_rfl
theorem Ij (H:bG) (a:Addr):binop X H .neq 37 (.pointer (some a)) (.pointer none)=some (.bool true):=by kernel_rfl
theorem Ic (H:bG):binop X H .neq 37 (.pointer none) (.pointer none)=some (.bool false):=by kernel_rfl
theorem zI (H:bG) (a:Option Addr) (n c:Nat):jY X H 159 (.slice a n c)=some (.int .i64 n):=by kernel_rfl
theorem L7:X.fn 94=some Tryz.f94:=by kernel_rfl
theorem Bi:X.fn 96=some Tryz.f96:=by kernel_rfl
theorem L9:X.fn 97=some Tryz.f97:=by kernel_rfl
theorem L_:X.fn 98=some Tryz.f98:=by kernel_rfl
theorem xg (nm:Nat):nE X nm 62 4 [(0,Value.int .i64 1),(1,Value.int .i64 2),(2,Value.int .i64 4),(3,Value.int .i64 8)]=some (.slice (some ⟨nm,0,none⟩) 4 4,fun v=>.cells (PT.ofList [.int .i64 1,.int .i64 2,.int .i64 4,.int .i64 8]) [] 4 3 false false v):=by kernel_rfl
theorem aCx {nm:Nat} {n m:Int} (h1:0≤n) (h2:n≤m) (h3:m<2 ^ 40) (h4:8*m≤2 ^ 48):rK X nm 199 (.int .i64 n) (.int .i64 m)=some (.slice (some ⟨nm,0,none⟩) n.toNat m.toNat,fun v=>.cells .nil [.int .u64 0] (m.toNat*1) 221 false false v):=WG (z:=.int .u64 0) (by kernel_rfl) (by kernel_rfl) rfl h1 h2 h3 h4
theorem uo  (x0:Int) (x1:Int) (x2:Option Addr) (EV EU:Nat):iU X 201 [(0,Value.int .i64 x0),(1,Value.int .i64 x1),(2,Value.slice x2 EV EU)]=some (.agg #[.int .i64 x0,.int .i64 x1,.slice x2 EV EU]):=by kernel_rfl
theorem Ym:X.fn 101=some Tryz.f101:=by kernel_rfl
theorem Yn:X.fn 102=some Tryz.f102:=by kernel_rfl
theorem Yo:X.fn 104=some Tryz.f104:=by kernel_rfl
theorem Yp:X.fn 105=some Tryz.f105:=by kernel_rfl
theorem Yq:X.fn 108=some Tryz.f108:=by kernel_rfl
theorem Yr:X.fn 109=some Tryz.f109:=by kernel_rfl
theorem Ys:X.fn 110=some Tryz.f110:=by kernel_rfl
theorem Yt:X.fn 111=some Tryz.f111:=by kernel_rfl
theorem Yu:X.fn 112=some Tryz.f112:=by kernel_rfl
theorem CS (b off:Nat):cU X 201 (.pointer (some ⟨b,off,none⟩)) 1=some (.pointer (some ⟨b,off+1,none⟩)):=by kernel_rfl
theorem Yv:X.fn 116=some Tryz.f116:=by kernel_rfl
theorem vF (b off n c:Nat) (k:IntKind) (i:Int):kM X 135 (.slice (some ⟨b,off,none⟩) n c) (.int k i)=if 0≤i∧i<(n:Int) then some (.pointer (some ((⟨b,off,none⟩:Addr).add (i.toNat*2)))) else none:=by kernel_rfl
theorem JA (b off:Nat):cU X 198 (.pointer (some ⟨b,off,none⟩)) 0=some (.pointer (some ⟨b,off,none⟩)):=by kernel_rfl
theorem Yw:X.fn 117=some Tryz.f117:=by kernel_rfl
theorem TS (b off:Nat):cU X 198 (.pointer (some ⟨b,off,none⟩)) 1=some (.pointer (some ⟨b,off+1,none⟩)):=by kernel_rfl
theorem Yx:X.fn 118=some Tryz.f118:=by kernel_rfl
theorem Yy:X.fn 119=some Tryz.f119:=by kernel_rfl
theorem Ad (b off:Nat):cU X 131 (.pointer (some ⟨b,off,none⟩)) 3=some (.pointer (some ⟨b,off+3,none⟩)):=by kernel_rfl
theorem vE (b off n c:Nat) (k:IntKind) (i:Int):kM X 127 (.slice (some ⟨b,off,none⟩) n c) (.int k i)=if 0≤i∧i<(n:Int) then some (.pointer (some ((⟨b,off,none⟩:Addr).add (i.toNat*2)))) else none:=by kernel_rfl
theorem Af (b off:Nat):cU X 133 (.pointer (some ⟨b,off,none⟩)) 5=some (.pointer (some ⟨b,off+7,none⟩)):=by kernel_rfl
theorem Gf (H:bG) (a:Addr):loadT X H 4 a=aI H a:=by kernel_rfl
theorem Za:X.fn 122=some Tryz.f122:=by kernel_rfl
theorem ue  (x3:Int):iU X 131 [(3,Value.int .i64 x3)]=some (.agg #[.slice none 0 0,.slice none 0 0,.slice none 0 0,.int .i64 x3]):=by kernel_rfl
theorem IL  (x0:Int) (x1:Int):iU X 210 [(0,Value.int .i64 x0),(1,Value.int .i64 x1)]=some (.agg #[.int .i64 x0,.int .i64 x1]):=by kernel_rfl
theorem wv (nm:Nat) (qA:Int) (qB:Int):nE X nm 127 1 [(0,Value.agg #[.int .i64 qA,.int .i64 qB])]=some (.slice (some ⟨nm,0,none⟩) 1 1,fun v=>.cells (PT.ofList [.int .i64 qA,.int .i64 qB]) [] 2 210 false false v):=by kernel_rfl
theorem Oh (s:St) (a:Addr) (v:Value):storeT X s 127 a v=if v.cells.size=1 then dB s a v.cells.toList else none:=by kernel_rfl
theorem ug  (x0:Int) (x5:Bool):iU X 133 [(0,Value.int .i64 x0),(5,Value.bool x5)]=some (.agg #[.int .i64 x0,.int .i64 0,.int .i64 0,.int .i64 0,.int .i64 0,.slice none 0 0,.slice none 0 0,.bool x5]):=by kernel_rfl
theorem SN (nm:Nat) (qA:Int) (qB:Int) (Rf:Int) (Rg:Int) (Rh:Int) (Ri:Option Addr) (Rk Rj:Nat) (Rl:Option Addr) (Rp Ro:Nat) (Rq:Bool):nE X nm 128 1 [(0,Value.agg #[.int .i64 qA,.int .i64 qB,.int .i64 Rf,.int .i64 Rg,.int .i64 Rh,.slice Ri Rk Rj,.slice Rl Rp Ro,.bool Rq])]=some (.slice (some ⟨nm,0,none⟩) 1 1,fun v=>.cells (PT.ofList [.int .i64 qA,.int .i64 qB,.int .i64 Rf,.int .i64 Rg,.int .i64 Rh,.slice Ri Rk Rj,.slice Rl Rp Ro,.bool Rq]) [] 8 133 false false v):=by kernel_rfl
theorem LG (s:St) (a:Addr) (v:Value):storeT X s 128 a v=if v.cells.size=1 then dB s a v.cells.toList else none:=by kernel_rfl
theorem Zb:X.fn 124=some Tryz.f124:=by kernel_rfl
theorem ui :iU X 161 []=some (.agg #[.slice none 0 0,.slice none 0 0,.slice none 0 0]):=by kernel_rfl
theorem Zc:X.fn 125=some Tryz.f125:=by kernel_rfl
theorem TQ (b off:Nat):cU X 177 (.pointer (some ⟨b,off,none⟩)) 1=some (.pointer (some ⟨b,off+1,none⟩)):=by kernel_rfl
theorem TR (b off:Nat):cU X 177 (.pointer (some ⟨b,off,none⟩)) 2=some (.pointer (some ⟨b,off+2,none⟩)):=by kernel_rfl
theorem TN (b off:Nat):cU X 161 (.pointer (some ⟨b,off,none⟩)) 1=some (.pointer (some ⟨b,off+1,none⟩)):=by kernel_rfl
theorem JZ (b off n c:Nat) (k:IntKind) (i:Int):kM X 159 (.slice (some ⟨b,off,none⟩) n c) (.int k i)=if 0≤i∧i<(n:Int) then some (.pointer (some ((⟨b,off,none⟩:Addr).add (i.toNat*1)))) else none:=by kernel_rfl
theorem Ze:X.fn 130=some Tryz.f130:=by kernel_rfl
theorem Zf:X.fn 131=some Tryz.f131:=by kernel_rfl
theorem Bg:X.fn 132=some Tryz.f132:=by kernel_rfl
theorem Zg:X.fn 134=some Tryz.f134:=by kernel_rfl
theorem Zh:X.fn 135=some Tryz.f135:=by kernel_rfl
theorem Zi:X.fn 136=some Tryz.f136:=by kernel_rfl
theorem CP (b off:Nat):cU X 174 (.pointer (some ⟨b,off,none⟩)) 0=some (.pointer (some ⟨b,off,none⟩)):=by kernel_rfl
theorem TO (b off:Nat):cU X 174 (.pointer (some ⟨b,off,none⟩)) 2=some (.pointer (some ⟨b,off+2,none⟩)):=by kernel_rfl
theorem CO (b off:Nat):cU X 172 (.pointer (some ⟨b,off,none⟩)) 0=some (.pointer (some ⟨b,off,none⟩)):=by kernel_rfl
theorem Ai (b off:Nat):cU X 174 (.pointer (some ⟨b,off,none⟩)) 4=some (.pointer (some ⟨b,off+4,none⟩)):=by kernel_rfl
theorem TP (b off:Nat):cU X 174 (.pointer (some ⟨b,off,none⟩)) 5=some (.pointer (some ⟨b,off+5,none⟩)):=by kernel_rfl
theorem LI (s:St) (a:Addr) (v:Value):storeT X s 4 a v=if v.cells.size=1 then dB s a v.cells.toList else none:=by kernel_rfl
theorem Av (b off:Nat):cU X 92 (.pointer (some ⟨b,off,none⟩)) 1=some (.pointer (some ⟨b,off+1,none⟩)):=by kernel_rfl
theorem Ay (b off:Nat):cU X 92 (.pointer (some ⟨b,off,none⟩)) 4=some (.pointer (some ⟨b,off+4,none⟩)):=by kernel_rfl
theorem Zj:X.fn 137=some Tryz.f137:=by kernel_rfl
theorem Aw (b off:Nat):cU X 92 (.pointer (some ⟨b,off,none⟩)) 2=some (.pointer (some ⟨b,off+2,none⟩)):=by kernel_rfl
theorem Zk:X.fn 138=some Tryz.f138:=by kernel_rfl
theorem Ax (b off:Nat):cU X 92 (.pointer (some ⟨b,off,none⟩)) 3=some (.pointer (some ⟨b,off+3,none⟩)):=by kernel_rfl
theorem Zl:X.fn 139=some Tryz.f139:=by kernel_rfl
theorem Zn:X.fn 140=some Tryz.f140:=by kernel_rfl
theorem TT (b off:Nat):cU X 201 (.pointer (some ⟨b,off,none⟩)) 2=some (.pointer (some ⟨b,off+2,none⟩)):=by kernel_rfl
theorem VP (H:bG) (a:Addr):loadT X H 199 a=aI H a:=by kernel_rfl
theorem VG (b off n c:Nat) (k:IntKind) (i:Int):kM X 199 (.slice (some ⟨b,off,none⟩) n c) (.int k i)=if 0≤i∧i<(n:Int) then some (.pointer (some ((⟨b,off,none⟩:Addr).add (i.toNat*1)))) else none:=by kernel_rfl
theorem VQ (H:bG) (a:Addr):loadT X H 221 a=aI H a:=by kernel_rfl
theorem yf (k:IntKind) (x:Int):sA X 3 221 (.int k x)=some (.int .u64 (IntKind.wrap .u64 x)):=by kernel_rfl
theorem Ol (s:St) (a:Addr) (v:Value):storeT X s 221 a v=if v.cells.size=1 then dB s a v.cells.toList else none:=by kernel_rfl
theorem Zo:X.fn 141=some Tryz.f141:=by kernel_rfl
theorem Zp:X.fn 142=some Tryz.f142:=by kernel_rfl
theorem Zq:X.fn 143=some Tryz.f143:=by kernel_rfl
theorem Zr:X.fn 144=some Tryz.f144:=by kernel_rfl
theorem Zs:X.fn 145=some Tryz.f145:=by kernel_rfl
theorem uf  (x0:Int) (x1:Int) (Rs:Int) (Rt:Int) (Ru:Int) (x3:Option Addr) (RH RF:Nat) (x4:Option Addr) (Rw Rv:Nat):iU X 133 [(0,Value.int .i64 x0),(1,Value.int .i64 x1),(2,Value.agg #[.int .i64 Rs,.int .i64 Rt,.int .i64 Ru]),(3,Value.slice x3 RH RF),(4,Value.slice x4 Rw Rv)]=some (.agg #[.int .i64 x0,.int .i64 x1,.int .i64 Rs,.int .i64 Rt,.int .i64 Ru,.slice x3 RH RF,.slice x4 Rw Rv,.bool false]):=by kernel_rfl
theorem Zt:X.fn 146=some Tryz.f146:=by kernel_rfl
theorem Zu:X.fn 147=some Tryz.f147:=by kernel_rfl
theorem Zv:X.fn 148=some Tryz.f148:=by kernel_rfl
theorem Zw:X.fn 149=some Tryz.f149:=by kernel_rfl
theorem SA  (x0:Int) (x1:Int) (x2:Int):iU X 118 [(0,Value.int .i64 x0),(1,Value.int .i64 x1),(2,Value.int .i64 x2)]=some (.agg #[.int .i64 x0,.int .i64 x1,.int .i64 x2]):=by kernel_rfl
theorem IJ  (x0:Int) (x2:Int):iU X 118 [(0,Value.int .i64 x0),(2,Value.int .i64 x2)]=some (.agg #[.int .i64 x0,.int .i64 0,.int .i64 x2]):=by kernel_rfl
theorem Zx:X.fn 150=some Tryz.f150:=by kernel_rfl
theorem Zy:X.fn 151=some Tryz.f151:=by kernel_rfl
theorem Zz:X.fn 152=some Tryz.f152:=by kernel_rfl
theorem a9:X.fn 153=some Tryz.f153:=by kernel_rfl
theorem a_:X.fn 154=some Tryz.f154:=by kernel_rfl
theorem b9:X.fn 155=some Tryz.f155:=by kernel_rfl
theorem Gk (H:bG) (a:Option Addr) (n c:Nat):jY X H 110 (.slice a n c)=some (.int .i64 n):=by kernel_rfl
theorem yg (k:IntKind) (x:Int):sA X 3 226 (.int k x)=some (.int .u64 (IntKind.wrap .u64 x)):=by kernel_rfl
theorem b_:X.fn 159=some Tryz.f159:=by kernel_rfl
theorem Ih (H:bG) (a:Addr):binop X H .neq 35 (.pointer (some a)) (.pointer none)=some (.bool true):=by kernel_rfl
theorem Ia (H:bG):binop X H .neq 35 (.pointer none) (.pointer none)=some (.bool false):=by kernel_rfl
theorem c_:X.fn 160=some Tryz.f160:=by kernel_rfl
theorem d_:X.fn 161=some Tryz.f161:=by kernel_rfl
theorem zf (H:bG) (a:Addr):binop X H .eql 193 (.pointer (some a)) (.pointer none)=some (.bool false):=by kernel_rfl
theorem za (H:bG):binop X H .eql 193 (.pointer none) (.pointer none)=some (.bool true):=by kernel_rfl
theorem e_:X.fn 162=some Tryz.f162:=by kernel_rfl
theorem ma (s:St) (r:Nat) (x:Int) (v:Value):mE X s 121 (.map (some r)) (.int .i64 x) v=(match s.heap.get r with
  | some (.map es c _)=>(match mO (.int .i64 x) es 0 with
   | some (some (i,_))=>some (s.put r fun aT=>.map (es.modify i fun e=>⟨.int .i64 x,v,e.born⟩) c aT)
   | some none=>some (s.put r fun aT=>.map (es++[⟨.int .i64 x,v,c⟩]) (c+1) aT)
   | none=>none)
  | _=>none):=by kernel_rfl
theorem f_:X.fn 163=some Tryz.f163:=by kernel_rfl
theorem g_:X.fn 165=some Tryz.f165:=by kernel_rfl
theorem h_:X.fn 166=some Tryz.f166:=by kernel_rfl
theorem yc (k:IntKind) (x:Int):sA X 221 3 (.int k x)=some (.int .i64 (IntKind.wrap .i64 x)):=by kernel_rfl
theorem i_:X.fn 167=some Tryz.f167:=by kernel_rfl
theorem KF (H:bG) (a:Addr):loadT X H 198 a=(match bD H a 2 with | some l=>some (.agg l.toArray) | none=>none):=by kernel_rfl
theorem Oj (s:St) (a:Addr) (v:Value):storeT X s 198 a v=if v.cells.size=2 then dB s a v.cells.toList else none:=by kernel_rfl
theorem j_:X.fn 168=some Tryz.f168:=by kernel_rfl
theorem k_:X.fn 169=some Tryz.f169:=by kernel_rfl
theorem m_:X.fn 170=some Tryz.f170:=by kernel_rfl
theorem n9:X.fn 171=some Tryz.f171:=by kernel_rfl
theorem n_:X.fn 172=some Tryz.f172:=by kernel_rfl
theorem o8:X.fn 173=some Tryz.f173:=by kernel_rfl
theorem o9:X.fn 177=some Tryz.f177:=by kernel_rfl
theorem o_:X.fn 178=some Tryz.f178:=by kernel_rfl
theorem yN (b off:Nat):cU X 118 (.pointer (some ⟨b,off,none⟩)) 1=some (.pointer (some ⟨b,off+1,none⟩)):=by kernel_rfl
theorem p9:X.fn 179=some Tryz.f179:=by kernel_rfl
theorem q7:X.fn 183=some Tryz.f183:=by kernel_rfl
theorem q8:X.fn 184=some Tryz.f184:=by kernel_rfl
theorem q9:X.fn 185=some Tryz.f185:=by kernel_rfl
theorem q_:X.fn 186=some Tryz.f186:=by kernel_rfl
theorem r_:X.fn 187=some Tryz.f187:=by kernel_rfl
theorem yR (b off:Nat):cU X 210 (.pointer (some ⟨b,off,none⟩)) 0=some (.pointer (some ⟨b,off,none⟩)):=by kernel_rfl
theorem s_:X.fn 188=some Tryz.f188:=by kernel_rfl
theorem Aj (b off:Nat):cU X 210 (.pointer (some ⟨b,off,none⟩)) 1=some (.pointer (some ⟨b,off+1,none⟩)):=by kernel_rfl
theorem u7:X.fn 190=some Tryz.f190:=by kernel_rfl
theorem u9:X.fn 191=some Tryz.f191:=by kernel_rfl
theorem u_:X.fn 192=some Tryz.f192:=by kernel_rfl
theorem v8:X.fn 193=some Tryz.f193:=by kernel_rfl
theorem v9:X.fn 200=some Tryz.f200:=by kernel_rfl
theorem v_:X.fn 201=some Tryz.f201:=by kernel_rfl
theorem w7:X.fn 202=some Tryz.f202:=by kernel_rfl
theorem Ah (b off:Nat):cU X 174 (.pointer (some ⟨b,off,none⟩)) 3=some (.pointer (some ⟨b,off+3,none⟩)):=by kernel_rfl
theorem w9:X.fn 203=some Tryz.f203:=by kernel_rfl
theorem w_:X.fn 204=some Tryz.f204:=by kernel_rfl
theorem Au (b off:Nat):cU X 92 (.pointer (some ⟨b,off,none⟩)) 0=some (.pointer (some ⟨b,off,none⟩)):=by kernel_rfl
theorem x_:X.fn 205=some Tryz.f205:=by kernel_rfl
theorem y_:X.fn 206=some Tryz.f206:=by kernel_rfl
theorem z4:X.fn 207=some Tryz.f207:=by kernel_rfl
theorem z5:X.fn 208=some Tryz.f208:=by kernel_rfl
theorem z6:X.fn 209=some Tryz.f209:=by kernel_rfl
theorem z7:X.fn 210=some Tryz.f210:=by kernel_rfl
theorem z8:X.fn 211=some Tryz.f211:=by kernel_rfl
theorem YL (s:St) (a:Addr) (v:Value):storeT X s 210 a v=if v.cells.size=2 then dB s a v.cells.toList else none:=by kernel_rfl
theorem z9:X.fn 212=some Tryz.f212:=by kernel_rfl
theorem Gp (H:bG) (a:Option Addr) (n c:Nat):jY X H 238 (.slice a n c)=some (.int .i64 n):=by kernel_rfl
theorem Fl (b off n c:Nat) (k:IntKind) (i:Int):kM X 238 (.slice (some ⟨b,off,none⟩) n c) (.int k i)=if 0≤i∧i<(n:Int) then some (.pointer (some ((⟨b,off,none⟩:Addr).add (i.toNat*2)))) else none:=by kernel_rfl
theorem Al (b off:Nat):cU X 241 (.pointer (some ⟨b,off,none⟩)) 1=some (.pointer (some ⟨b,off+1,none⟩)):=by kernel_rfl
theorem Ak (b off:Nat):cU X 241 (.pointer (some ⟨b,off,none⟩)) 0=some (.pointer (some ⟨b,off,none⟩)):=by kernel_rfl
theorem z_:X.fn 213=some Tryz.f213:=by kernel_rfl
theorem A1:X.fn 214=some Tryz.f214:=by kernel_rfl
theorem A2:X.fn 215=some Tryz.f215:=by kernel_rfl
theorem A3:X.fn 216=some Tryz.f216:=by kernel_rfl
theorem A5:X.fn 217=some Tryz.f217:=by kernel_rfl
theorem A7:X.fn 218=some Tryz.f218:=by kernel_rfl
theorem A9:X.fn 219=some Tryz.f219:=by kernel_rfl
theorem A_:X.fn 220=some Tryz.f220:=by kernel_rfl
theorem ye (k:IntKind) (x:Int):sA X 226 250 (.int k x)=some (.int .u32 (IntKind.wrap .u32 x)):=by kernel_rfl
theorem B5:X.fn 222=some Tryz.f222:=by kernel_rfl
theorem xa (nm:Nat) (x0:Option Addr) (xL xK:Nat) (x1:Option Addr) (xN xM:Nat) (x2:Option Addr) (EV EU:Nat):nE X nm 159 3 [(0,Value.slice x0 xL xK),(1,Value.slice x1 xN xM),(2,Value.slice x2 EV EU)]=some (.slice (some ⟨nm,0,none⟩) 3 3,fun v=>.cells (PT.ofList [.slice x0 xL xK,.slice x1 xN xM,.slice x2 EV EU]) [] 3 62 false false v):=by kernel_rfl
theorem B6:X.fn 223=some Tryz.f223:=by kernel_rfl
theorem B9:X.fn 224=some Tryz.f224:=by kernel_rfl
theorem B_:X.fn 225=some Tryz.f225:=by kernel_rfl
theorem C0:X.fn 226=some Tryz.f226:=by kernel_rfl
theorem C5:X.fn 227=some Tryz.f227:=by kernel_rfl
theorem bz (H:bG) (uD:Int) (uE:Int) (uF:Int) (uG:Int):jV X H 10 198 (.agg #[.int .i64 uD,.int .i64 uE]) (.agg #[.int .i64 uF,.int .i64 uG])=(match some (uD==uF) with | some true=>(match some (uE==uG) with | some true=>some true | some false=>some false | none=>none:Option Bool) | some false=>some false | none=>none:Option Bool):=by kernel_rfl
theorem Il (H:bG) (uD:Int) (uE:Int) (uF:Int) (uG:Int):binop X H .neq 198 (.agg #[.int .i64 uD,.int .i64 uE]) (.agg #[.int .i64 uF,.int .i64 uG])=some (.bool !(uD==uF&&uE==uG)):=by
 rw[show ∀ u v,binop X H .neq 198 (.agg u) (.agg v)=(match jV X H 10 198 (.agg u) (.agg v) with | some b=>some (.bool !b) | none=>none) from fun _ _=>rfl,bz];cases (uD==uF) <;> cases (uE==uG) <;> rfl
theorem C6:X.fn 228=some Tryz.f228:=by kernel_rfl
theorem C8:X.fn 229=some Tryz.f229:=by kernel_rfl
theorem C9:X.fn 233=some Tryz.f233:=by kernel_rfl
theorem xe (nm:Nat) (x0:Int) (x1:Int):nE X nm 62 2 [(0,Value.int .i64 x0),(1,Value.int .i64 x1)]=some (.slice (some ⟨nm,0,none⟩) 2 2,fun v=>.cells (PT.ofList [.int .i64 x0,.int .i64 x1]) [] 2 3 false false v):=by kernel_rfl
theorem C_:X.fn 234=some Tryz.f234:=by kernel_rfl
theorem D0:X.fn 236=some Tryz.f236:=by kernel_rfl
theorem D1:X.fn 237=some Tryz.f237:=by kernel_rfl
theorem D2:X.fn 238=some Tryz.f238:=by kernel_rfl
theorem D3:X.fn 239=some Tryz.f239:=by kernel_rfl
theorem D4:X.fn 240=some Tryz.f240:=by kernel_rfl
theorem D5:X.fn 241=some Tryz.f241:=by kernel_rfl
theorem D6:X.fn 242=some Tryz.f242:=by kernel_rfl
theorem uq  (x0:Int) (x1:Int):iU X 241 [(0,Value.int .i64 x0),(1,Value.int .i64 x1)]=some (.agg #[.int .i64 x0,.int .i64 x1]):=by kernel_rfl
theorem xb (nm:Nat) (qA:Int) (qB:Int):nE X nm 238 1 [(0,Value.agg #[.int .i64 qA,.int .i64 qB])]=some (.slice (some ⟨nm,0,none⟩) 1 1,fun v=>.cells (PT.ofList [.int .i64 qA,.int .i64 qB]) [] 2 241 false false v):=by kernel_rfl
theorem D7:X.fn 243=some Tryz.f243:=by kernel_rfl
theorem D8:X.fn 244=some Tryz.f244:=by kernel_rfl
theorem D_:X.fn 253=some Tryz.f253:=by kernel_rfl
theorem yd (k:IntKind) (x:Int):sA X 221 5 (.int k x)=some (.int .u8 (IntKind.wrap .u8 x)):=by kernel_rfl
theorem E4:X.fn 254=some Tryz.f254:=by kernel_rfl
theorem E5:X.fn 255=some Tryz.f255:=by kernel_rfl
theorem E6:X.fn 256=some Tryz.f256:=by kernel_rfl
theorem E7:X.fn 257=some Tryz.f257:=by kernel_rfl
abbrev Kc:=Nat→List Value→St→Option (aS (Value×St))
def Iu:Kc:=fun _ _ _=>none
noncomputable def KO (kc:Kc):eE:=fun f args s=>if f=15∧args.isEmpty=true then some (.ret (.bool true,s)) else if f=11 then kc 0 args s else if f=25 then kc 1 args s else none
theorem uc {kc:Kc} {q:Bool} {s:St} {Φ:Value→St→Prop} (h:Φ (.bool true) s):okF q X (KO kc) 15 [] s Φ:=okF.Jy (r:=.ret (.bool true,s)) rfl h
end Go.Dust
namespace Go.Dust
theorem aIw (x:Int):(IntKind.i64.wrap x)%18446744073709551616=x%18446744073709551616:=by
 unfold IntKind.wrap;simp only[IntKind.bits,IntKind.signed,Bool.true_and];have e1:(2:Int) ^ 64=18446744073709551616:=rfl;have e2:(2:Int) ^ (64-1)=9223372036854775808:=rfl;simp only[e1,e2,decide_eq_true_eq];split <;> omega
theorem RA {n:Int} (h1:0≤n) (h2:n<18446744073709551616):IntKind.u64.wrap n=n:=by
 unfold IntKind.wrap;simp only[IntKind.bits,IntKind.signed,Bool.false_and];have e1:(2:Int) ^ 64=18446744073709551616:=rfl;simp only[e1,Bool.false_eq_true,if_false];omega
theorem aDg (x:Int):BitVec.ofInt 64 (IntKind.i64.wrap x)=BitVec.ofInt 64 x:=by
 apply BitVec.eq_of_toNat_eq;rw[BitVec.toNat_ofInt,BitVec.toNat_ofInt];have:(((2:Nat) ^ 64:Nat):Int)=18446744073709551616:=rfl;rw[this,aIw]
theorem WX (n:Nat):BitVec.ofInt 64 (n:Int)=BitVec.ofNat 64 n:=by
 apply BitVec.eq_of_toNat_eq;rw[BitVec.toNat_ofInt,BitVec.toNat_ofNat];omega
def wH (u sh w:Nat):Nat:=u/2 ^ sh%2 ^ w
theorem yv (u sh w:Nat):wH u sh w<2 ^ w:=Nat.mod_lt _ (Nat.two_pow_pos w)
theorem bu (u sh w i:Nat):(wH u sh w).testBit i=(decide (i<w)&&u.testBit (sh+i)):=by
 unfold wH;rw[Nat.testBit_mod_two_pow,Nat.testBit_div_two_pow,Nat.add_comm]
theorem Kg {w:Nat} (hw:w≤8):2 ^ w≤256:=by
 have:2 ^ w≤2 ^ 8:=Nat.pow_le_pow_right (by omega) hw;simpa using this
theorem N8 {u sh w:Nat} (hu:u<2 ^ 64) (hw:w≤8):IntKind.i64.wrap ((BitVec.ofInt 64 (IntKind.i64.wrap (((u/2 ^ sh:Nat):Int))) &&& BitVec.ofInt 64 ((2 ^ w-1:Nat):Int)).toNat)=(wH u sh w:Int):=by
 have h1:u/2 ^ sh<2 ^ 64:=Nat.lt_of_le_of_lt (Nat.div_le_self _ _) hu;have h3:=Kg hw;rw[aDg,WX,WX,BitVec.toNat_and,BitVec.toNat_ofNat,BitVec.toNat_ofNat,Nat.mod_eq_of_lt h1,Nat.mod_eq_of_lt (show 2 ^ w-1<2 ^ 64 by omega),Nat.and_two_pow_sub_one_eq_mod];have:=yv u sh w;unfold wH at this ⊢;exact aU (by omega) (by omega)
def EA (u sh w v:Nat):Nat:=((BitVec.ofNat 64 u &&& ~~~ BitVec.ofNat 64 ((2 ^ w-1)*2 ^ sh)) ||| BitVec.ofNat 64 (v*2 ^ sh)).toNat
theorem aEy (u sh w v:Nat):EA u sh w v<2 ^ 64:=BitVec.isLt _
theorem Kj (u sh w v j:Nat) (hj:j<64):(EA u sh w v).testBit j=((u.testBit j&&!(decide (sh≤j)&&decide (j-sh<w)))||(decide (sh≤j)&&v.testBit (j-sh))):=by
 unfold EA;rw[BitVec.testBit_toNat,BitVec.getLsbD_or,BitVec.getLsbD_and,BitVec.getLsbD_not,BitVec.getLsbD_ofNat,BitVec.getLsbD_ofNat,BitVec.getLsbD_ofNat];simp only[hj,decide_true,Bool.true_and,Nat.testBit_mul_two_pow,Nat.testBit_two_pow_sub_one]
theorem Ws {u sh w v:Nat} (hs:sh+w≤64) (hv:v<2 ^ w):wH (EA u sh w v) sh w=v:=by
 apply Nat.eq_of_testBit_eq;intro i;rw[bu];by_cases h:i<w
 ·rw[Kj _ _ _ _ _ (by omega)];simp[h]
 ·simp only[h,decide_false,Bool.false_and];rw[Nat.testBit_lt_two_pow (Nat.lt_of_lt_of_le hv (Nat.pow_le_pow_right (by omega) (by omega)))]
theorem Wt {u sh EF w v:Nat} (hs':EF+w≤64) (hv:v<2 ^ w) (h:EF+w≤sh∨sh+w≤EF):wH (EA u sh w v) EF w=wH u EF w:=by
 apply Nat.eq_of_testBit_eq;intro i;rw[bu,bu];by_cases hi:i<w
 ·rw[Kj _ _ _ _ _ (by omega)];simp only[hi,decide_true,Bool.true_and];rcases h with h | h
  ·have:¬ sh≤EF+i:=by omega
   simp[this]
  ·have h1:sh≤EF+i:=by omega
   have h2:¬ EF+i-sh<w:=by omega
   rw[Nat.testBit_lt_two_pow (x:=v) (Nat.lt_of_lt_of_le hv (Nat.pow_le_pow_right (by omega) (by omega)))];simp[h2]
 ·simp[hi]
theorem th {w i:Nat} (hw:w=1∨w=2∨w=4∨w=8):i*w%64+w≤64:=by
 rcases hw with rfl | rfl | rfl | rfl <;> omega
theorem apart {w i j:Nat} (hw:w=1∨w=2∨w=4∨w=8) (hne:i≠j) (he:i*w/64=j*w/64):j*w%64+w≤i*w%64∨i*w%64+w≤j*w%64:=by
 rcases hw with rfl | rfl | rfl | rfl <;> omega
end Go.Dust
